/- The verifier's own functions as plain laws; loops as recursion. Conditions: each theorem's own hypotheses. -/
import Derived.Test.YtlkbjdmfbadhaaaGreatDoorZLmd
import Derived.Test.YtlkbjdmfbadhaaaGreatDoorZVa
set_option linter.unusedVariables false
set_option linter.defProp false
set_option linter.unusedSimpArgs false
namespace Go.LM
def dj:aC=18446744073709551616:=by unfold aC;rfl
def bj{i n:Nat}(h:i<n):decide ((i:Int)<(n:Int))=true:=by simp;omega
def bI{i n:Nat}(h:n<=i):decide ((i:Int)<(n:Int))=false:=by simp;omega
def gl{p:Prop}[Decidable p](h:¬p):decide p=false:=by simp[h]
def qT{p:Prop}[Decidable p](h:p):decide p=true:=by simp[h]
def fuel{k m:Nat}(h:k<m):∃q,m=q+1/\k<=q:=⟨m-1,by omega,by omega⟩
mutual
def U.cost:(t:U)->t.D->Nat
 |.raw,_=>0
 |.int _,_=>0
 |.bool,_=>0
 |.str,x=>List.length x
 |.sl t,xs=>List.length xs +(xs.map fun a=>t.cost a).sum
 |.st ah,x=>ah.cost x
def aw.cost:(ah:aw)->ah.D->Nat
 |.nil,_=>0
 |.cons t ah,x=>t.cost x.1+ah.cost x.2
end
mutual
def U.wt:(t:U)->t.D->Nat
 |.raw,_=>1
 |.int _,_=>1
 |.bool,_=>1
 |.str,_=>1
 |.sl t,xs=>(xs.map fun a=>t.wt a).sum
 |.st ah,x=>ah.wt x
def aw.wt:(ah:aw)->ah.D->Nat
 |.nil,_=>0
 |.cons t ah,x=>t.wt x.1+ah.wt x.2
end
def qU{α:Type}{f:α->Nat}{y:α}:∀{l:List α},y∈l->f y<=(l.map f).sum
 |x::l,h=>by
  rcases List.mem_cons.1 h with rfl|h
  ·simp
  ·have:=qU (f:=f) h;simp;omega
def fH{t:U}(l:List t.D):l.length<=U.cost (.sl t) l:=by simp only[U.cost];omega
def tH{t:U}{l:List t.D}{i:Nat}(h:i<l.length):I t l i∈l:=by rw[nW h];exact List.getElem_mem h
def k9{t:U}{l:List t.D}{i:Nat}(h:i<l.length):l.length+t.cost (I t l i)<=U.cost (.sl t) l:=by simp only[U.cost];have:=qU (f:=fun a=>t.cost a) (tH h);omega
def drop_cons{t:U}{l:List t.D}{i:Nat}(h:i<l.length):l.drop i=I t l i::l.drop (i+1):=by rw[nW h];exact kf h
def hY(c:Nat)(n:Int):Int:=if(c:Int)<=n then n-c else -1
def jS{c:Nat}{n:Int}(h:(c:Int)<=n):hY c n=n-c:=bg h
def fz{c:Nat}{n:Int}(h:¬(c:Int)<=n):hY c n = -1:=bd h
def Gd{t:U}(l:List t.D)(a:Nat->Int->Int->Option (Int×Unit))(hl:l.length<=1048576)
  (e:∀m n,a (m+1) n (l.length:Int)=some (n,()))
  (hs:∀m n (i:Nat),i<l.length->0<=n->n<=1048576->a (m+1) n (i:Int)=cond (decide (hY (t.cost (I t l i)) n<0)) (some (-1,())) (a m (hY (t.cost (I t l i)) n) ((i:Int)+1))):
  ∀(r i m:Nat) (n:Int),i+r=l.length->r<m->0<=n->n<=1048576->a m n (i:Int)=some (hY ((l.drop i).map fun y=>t.cost y).sum n,()):=by
 intro r
 induction r with
 |zero=>
  intro i m n g hm h1 b;obtain⟨m,rfl,_⟩:=fuel hm;have:i=l.length:=by omega
  subst this;rw[e,gp (by omega)];rw[jS (by simpa using h1)];simp
 |succ r h=>
  intro i m n g hm h1 b;obtain⟨m,rfl,j⟩:=fuel hm;have d:i<l.length:=by omega
  rw[hs m n i d h1 b,drop_cons d];simp only[dh,eM];by_cases hc:((t.cost (I t l i):Nat):Int)<=n
  ·rw[jS hc,gl (by omega)];have:=h (i+1) m (n-(t.cost (I t l i):Nat)) (by omega) (by omega) (by omega) (by omega);simp only[Int.natCast_add,Int.cast_ofNat_Int]at this;simp only[ay];rw[this];unfold hY;by_cases aa:((((l.drop (i+1)).map fun y=>t.cost y).sum:Nat):Int)<=n-(t.cost (I t l i):Nat)
   ·rw[bg aa,bg (by omega)];congr 1;congr 1;omega
   ·rw[bd aa,bd (by omega)]
  ·rw[fz hc,fz (by omega)];rfl
def yB{t:U}(l:List t.D)(a:Nat->Int->List t.D->Option (List t.D×Unit))
  (e:∀m x,a (m+1) (l.length:Int) x=some (x,()))
  (hs:∀m (i:Nat) x,i<l.length->x.length=l.length->a (m+1) (i:Int) x=a m ((i:Int)+1) (x.set i (I t l i))):
  ∀(r i m:Nat) (x:List t.D),i+r=l.length->r<m->x.length=l.length->x.take i=l.take i->a m (i:Int) x=some (l,()):=by
 intro r
 induction r with
 |zero=>
  intro i m x g hm b ht;obtain⟨m,rfl,_⟩:=fuel hm;have:i=l.length:=by omega
  subst this;rw[e];rw[List.take_of_length_le (by omega),List.take_of_length_le (by omega)]at ht;rw[ht]
 |succ r h=>
  intro i m x g hm b ht;obtain⟨m,rfl,j⟩:=fuel hm;have d:i<l.length:=by omega
  rw[hs m i x d b]
  have:=h (i+1) m (x.set i (I t l i)) (by omega) (by omega) (by simpa using b) (by
   rw[nW d,hD d,<-ht,hD (by simpa using b▸d),List.take_set_of_le (by omega)]
   simp)
  simpa only[Int.natCast_add,Int.cast_ofNat_Int]using this
def vK(n:Nat)(a:Nat->Int->Option (Bool×Unit))
  (b:∀m,a (m+1) (n:Int)=some (true,()))
  (hs:∀m (i:Nat),i<n->a (m+1) (i:Int)=a m ((i:Int)+1)):
  ∀(r i m:Nat),i+r=n->r<m->a m (i:Int)=some (true,()):=by
 intro r
 induction r with
 |zero=>
  intro i m d hm;obtain⟨m,rfl,_⟩:=fuel hm;have:i=n:=by omega
  subst this;exact b m
 |succ r e=>intro i m d hm;obtain⟨m,rfl,g⟩:=fuel hm;rw[hs m i (by omega)];have:=e (i+1) m (by omega) (by omega);simpa only[Int.natCast_add,Int.cast_ofNat_Int]using this
def qV{α:Type}(a:α->Int->Int->Prop):List α->Int->Int->Prop
 | [],k,k'=>k'=k
 |b::d,k,k'=>∃j,a b k j/\qV a d j k'
mutual
def U.cP(mt:Int->List UInt8):(t:U)->t.D->Int->Int->Prop
 |.raw,_,k,k'=>k'=k+1
 |.int _,a,k,k'=>a=k/\k'=k+1
 |.bool,a,k,k'=>a=(Int.tmod k 3==0)/\k'=k+1
 |.str,a,k,k'=>a=mt k/\k'=k+1
 |.sl t,a,k,k'=>List.length a<=1099511627776/\qV (fun a k k'=>t.cP mt a k k') a k k'
 |.st ah,a,k,k'=>ah.cP mt a k k'
def aw.cP(mt:Int->List UInt8):(ah:aw)->ah.D->Int->Int->Prop
 |.nil,_,k,k'=>k'=k
 |.cons t ah,a,k,k'=>∃j,t.cP mt a.1 k j/\ah.cP mt a.2 j k'
end
def N'{α:Type}{a:α->Int->Int->Prop}(b:∀y k k',a y k k'->k<=k'):∀{l:List α}{k k':Int},qV a l k k'->k<=k'
 | [],k,k',h=>by simp only[qV]at h;omega
 |y::e,k,k',h=>by obtain⟨j,h1,d⟩:=h;have:=b y k j h1;have:=N' b d;omega
mutual
def U.gm{mt:Int->List UInt8}:∀(t:U) {y:t.D}{k k':Int},t.cP mt y k k'->k<=k'
 |.raw,y,k,k',h=>by simp only[U.cP]at h;omega
 |.int _,y,k,k',h=>by simp only[U.cP]at h;omega
 |.bool,y,k,k',h=>by simp only[U.cP]at h;omega
 |.str,y,k,k',h=>by simp only[U.cP]at h;omega
 |.sl t,y,k,k',h=>by simp only[U.cP]at h;exact N' (fun _ _ _ h=>U.gm t h) h.2
 |.st ah,y,k,k',h=>by simp only[U.cP]at h;exact aw.gm ah h
def aw.gm{mt:Int->List UInt8}:∀(ah:aw) {y:ah.D}{k k':Int},ah.cP mt y k k'->k<=k'
 |.nil,y,k,k',h=>by simp only[aw.cP]at h;omega
 |.cons t ah,y,k,k',h=>by simp only[aw.cP]at h;obtain⟨j,h1,a⟩:=h;have:=U.gm t h1;have:=aw.gm ah a;omega
end
def vL{mt:Int->List UInt8}{t:U}(n:Nat)(hn:n<=1099511627776)(d:Nat->Int->Int->List t.D->Option (Int×List t.D×Unit))
  (v:∀m (k:Int) x,x.length=n->d (m+1) k (n:Int) x=some (k,x,()))
  (hs:∀m (k:Int) (i:Nat) x,i<n->x.length=n->0<=k->k +(t.wt (I t x i):Nat)<=1000000000000000->t.cost (I t x i)<=1099511627776->∃j y,d (m+1) k (i:Int) x=d m j ((i:Int)+1) (x.set i y)/\t.cP mt y k j/\j<=k +(t.wt (I t x i):Nat)):
  ∀(r i m:Nat) (k:Int) (x:List t.D),i+r=n->r<m->x.length=n->0<=k->k +(((x.drop i).map fun y=>t.wt y).sum:Nat)<=1000000000000000->(∀z,z∈x.drop i->t.cost z<=1099511627776) →
   ∃k' a,d m k (i:Int) x=some (k',a,())/\a.length=n/\a.take i=x.take i/\qV (fun y k k'=>t.cP mt y k k') (a.drop i) k k'/\k'<=k +(((x.drop i).map fun y=>t.wt y).sum:Nat):=by
 intro r
 induction r with
 |zero=>
  intro i m k x w hm b hk hb e;obtain⟨m,rfl,_⟩:=fuel hm;have:i=n:=by omega
  subst this;refine⟨k,x,v m k x b,b,rfl,?_,by omega⟩;rw[gp (by omega)];rfl
 |succ r A=>
  intro i m k x w hm b hk hb e;obtain⟨m,rfl,F⟩:=fuel hm;have B:i<x.length:=by omega
  rw[drop_cons B]at hb e⊢;simp only[dh,eM]at hb⊢;obtain⟨j,y,h1,p,G⟩:=hs m k i x (by omega) b hk (by omega) (e _ gT);have H:=U.gm t p;have g:(x.set i y).drop (i+1)=x.drop (i+1):=by rw[List.drop_set_of_lt (by omega)]
  obtain⟨k',a,q,C,s,D,E⟩:=A (i+1) m j (x.set i y) (by omega) (by omega) (by simpa using b) (by omega) (by rw[g];omega) (by rw[g];exact fun z h=>e z (gS _ h));rw[g]at E;simp only[Int.natCast_add,Int.cast_ofNat_Int]at q;refine⟨k',a,h1.trans q,C,?_,?_,by omega⟩
  ·have:=congrArg (List.take i) s;rw[List.take_take,List.take_take,Nat.min_eq_left (by omega),List.take_set_of_le (by omega)]at this;exact this
  ·have o:i<a.length:=by omega
   have he:I t a i=y:=by
    have u:a[i]?=(x.set i y)[i]?:=by have:=congrArg (fun l=>l[i]?) s;simpa[List.getElem?_take]using this
    rw[List.getElem?_set_self (by omega),List.getElem?_eq_getElem o]at u;rw[nW o];exact aS u
   rw[drop_cons o,he];exact⟨j,p,D⟩
def vM{mt:Int->List UInt8}{t:U}(x:List t.D)(b:Nat->Int->Int->Option (Int×Unit))
  (g:∀m k,b (m+1) k (x.length:Int)=some (k,()))
  (hs:∀m k j (i:Nat),i<x.length->0<=k->j<=1000000000000000->t.cP mt (I t x i) k j->b (m+1) k (i:Int)=b m j ((i:Int)+1)):
  ∀(r i m:Nat) (k k':Int),i+r=x.length->r<m->0<=k->k'<=1000000000000000->qV (fun y k k'=>t.cP mt y k k') (x.drop i) k k'->b m k (i:Int)=some (k',()):=by
 intro r
 induction r with
 |zero=>
  intro i m k k' l hm hk hb a;obtain⟨m,rfl,_⟩:=fuel hm;have:i=x.length:=by omega
  subst this;rw[gp (by omega)]at a;simp only[qV]at a;rw[g,a]
 |succ r n=>
  intro i m k k' l hm hk hb a;obtain⟨m,rfl,o⟩:=fuel hm;have d:i<x.length:=by omega
  rw[drop_cons d]at a;obtain⟨j,h1,e⟩:=a;have p:=U.gm t h1;have q:=N' (fun _ _ _ h=>U.gm t h) e;rw[hs m k j i d hk (by omega) h1];have:=n (i+1) m j k' (by omega) (by omega) (by omega) hb e;simpa only[Int.natCast_add,Int.cast_ofNat_Int]using this
def pk{t:U}{ah:aw}{x:(U.st (.cons t ah)).D}(h:U.dM (.st (.cons t ah)) x):t.dM x.1:=by simp only[U.dM,aw.dM]at h;exact h.1
def h5{t:U}{ah:aw}{x:(U.st (.cons t ah)).D}(h:U.dM (.st (.cons t ah)) x):U.dM (.st ah) x.2:=by simp only[U.dM,aw.dM]at h⊢;exact h.2
def nO{t:U}{x:List t.D}(h:U.dM (.sl t) x):x.length<=9223372036854775807/\∀y,y∈x->t.dM y:=by simp only[U.dM,maxLen]at h;exact⟨by omega,h.2⟩
def Oa{x:List UInt8}(h:U.dM .str x):x.length<=9223372036854775807:=by simp only[U.dM,maxLen]at h;omega
def jy{t:U}{x:List t.D}:U.cost (.sl t) x=x.length +(x.map fun y=>t.cost y).sum:=by simp only[U.cost]
def fs{ah:aw}{x:ah.D}:U.cost (.st ah) x=ah.cost x:=by simp only[U.cost]
def ft{t:U}{ah:aw}{x:(aw.cons t ah).D}:aw.cost (.cons t ah) x=t.cost x.1+ah.cost x.2:=by simp only[aw.cost]
def fw{x:aw.nil.D}:aw.cost .nil x=0:=by simp only[aw.cost]
def fx{k:IntKind}{x:Int}:U.cost (.int k) x=0:=by simp only[U.cost]
def gB{x:Bool}:U.cost .bool x=0:=by simp only[U.cost]
def f'{x:List UInt8}:U.cost .str x=x.length:=by simp only[U.cost]
def vN{ah:aw}{x:ah.D}:U.wt (.st ah) x=ah.wt x:=by simp only[U.wt]
def vO{t:U}{ah:aw}{x:(aw.cons t ah).D}:aw.wt (.cons t ah) x=t.wt x.1+ah.wt x.2:=by simp only[aw.wt]
def vP{x:aw.nil.D}:aw.wt .nil x=0:=by simp only[aw.wt]
def vQ{k:IntKind}{x:Int}:U.wt (.int k) x=1:=by simp only[U.wt]
def vR{x:Bool}:U.wt .bool x=1:=by simp only[U.wt]
def vS{x:List UInt8}:U.wt .str x=1:=by simp only[U.wt]
def vT{t:U}{x:List t.D}:U.wt (.sl t) x=(x.map fun y=>t.wt y).sum:=by simp only[U.wt]
section
variable{mt:Int->List UInt8}{k k':Int}
def lX{ah:aw}{x:ah.D}:U.cP mt (.st ah) x k k'=ah.cP mt x k k':=by simp only[U.cP]
def lY{t:U}{ah:aw}{x:(aw.cons t ah).D}:aw.cP mt (.cons t ah) x k k'=∃j,t.cP mt x.1 k j/\ah.cP mt x.2 j k':=by simp only[aw.cP]
def lZ{x:aw.nil.D}:aw.cP mt .nil x k k'=(k'=k):=by simp only[aw.cP]
def l0{i:IntKind}{x:Int}:U.cP mt (.int i) x k k'=(x=k/\k'=k+1):=by simp only[U.cP]
def l1{x:Bool}:U.cP mt .bool x k k'=(x=(Int.tmod k 3==0)/\k'=k+1):=by simp only[U.cP]
def l2{x:List UInt8}:U.cP mt .str x k k'=(x=mt k/\k'=k+1):=by simp only[U.cP]
def l3{t:U}{x:List t.D}:U.cP mt (.sl t) x k k'=(x.length<=1099511627776/\qV (fun y k k'=>t.cP mt y k k') x k k'):=by simp only[U.cP]
end
mutual
def U.h6:U->Nat
 |.sl t=>t.h6
 |.st ah=>ah.h6
 |_=>1
def aw.h6:aw->Nat
 |.nil=>0
 |.cons t ah=>t.h6+ah.h6
end
def vx{α:Type}{f g:α->Nat}(a:Nat):∀(l:List α),(∀y,y∈l->f y<=a*(1+g y))->(l.map f).sum<=a*(l.length +(l.map g).sum)
 | [],_=>by simp
 |y::l,h=>by
  have h1:=h y gT;have d:=vx a l fun z b=>h z (gS _ b)
  simp only[dh,eM,b2];have:a*(l.length+1 +(g y +(l.map g).sum))=a*(1+g y)+a*(l.length +(l.map g).sum):=by rw[<-Nat.mul_add];congr 1;omega
  omega
mutual
def U.vU:∀(t:U) (x:t.D),t.wt x<=t.h6*(1+t.cost x)
 |.raw,x=>by simp only[U.wt,U.h6];omega
 |.int _,x=>by simp only[U.wt,U.h6];omega
 |.bool,x=>by simp only[U.wt,U.h6];omega
 |.str,x=>by simp only[U.wt,U.h6];omega
 |.sl t,x=>by
  simp only[U.wt,U.h6,U.cost];have:=vx (f:=fun a=>t.wt a) (g:=fun a=>t.cost a) t.h6 x fun a _=>U.vU t a
  rw[Nat.mul_add];omega
 |.st ah,x=>by simp only[U.wt,U.h6,U.cost];exact aw.vU ah x
def aw.vU:∀(ah:aw) (x:ah.D),ah.wt x<=ah.h6*(1+ah.cost x)
 |.nil,x=>by simp only[aw.wt];omega
 |.cons t ah,x=>by simp only[aw.wt,aw.h6,aw.cost];have h1:=U.vU t x.1;have b:=aw.vU ah x.2;have d:t.h6*(1+t.cost x.1)<=t.h6*(1 +(t.cost x.1+ah.cost x.2)):=Nat.mul_le_mul_left _ (by omega);have e:ah.h6*(1+ah.cost x.2)<=ah.h6*(1 +(t.cost x.1+ah.cost x.2)):=Nat.mul_le_mul_left _ (by omega);rw[jJ];omega
end
def XI{t:U}(h:∀y,t.cost y=0)(x:List t.D):U.cost (.sl t) x=x.length:=by
 simp only[U.cost]
 induction x with
 |nil=>rfl
 |cons y x a=>simp only[dh,eM,b2,h y];omega
def yC{n:Nat}(h:n<=1048576):(decide (0<=(n:Int))&&decide ((n:Int)=(n:Int))&&room (Int.toNat (n:Int)))=true:=by rw[show Int.toNat (n:Int)=n by simp,wK (by omega)];simp
def hR{n:Nat}(h:n<=4611686018427387904):n<aC:=by rw[dj];omega
def k8{b:Type}(n:Nat)(hn:n<=4611686018427387904)(a:Nat->Int->b)(G:Nat->b)(Inv:Nat->Prop)
  (d:∀m,Inv n->a (m+1) (n:Int)=G n)
  (hs:∀m (i:Nat),i<n->Inv i->aj ((i:Int)+1)=(i:Int)+1->(Inv (i+1)->a m ((i:Int)+1)=G (i+1))->a (m+1) (i:Int)=G i):
  ∀(r i m:Nat),i+r=n->r<m->Inv i->a m (i:Int)=G i:=by
 intro r
 induction r with
 |zero=>
  intro i m e hm hv;obtain⟨m,rfl,_⟩:=fuel hm;have:i=n:=by omega
  subst this;exact d m hv
 |succ r g=>
  intro i m e hm hv;obtain⟨m,rfl,j⟩:=fuel hm;refine hs m i (by omega) hv (cj (by omega) (by omega)) fun h=>?_
  have:=g (i+1) m (by omega) (by omega) h;simpa only[Int.natCast_add,Int.cast_ofNat_Int]using this
def iK(k:Nat)(h:k<=1000:=by omega):∃q,aC=q+k/\4611686018427387904<q:=⟨aC-k,by rw[dj];omega,by rw[dj];omega⟩
def jd{α:Type}(a:Bool)(x y:α):cond a (some (x,())) (some (y,()))=some (cond a x y,()):=by cases a<;>rfl
def b8(x lo a:Int):Bool:=decide (lo<=x)&&decide (x<=a)
def cL{x lo a:Int}:b8 x lo a=true↔lo<=x/\x<=a:=by simp[b8]
def tv(a b:Bool):cond a b false=(a&&b):=by cases a<;>rfl
def ago(a b:Int):iW a b=min a b:=by unfold iW;omega
def VM{s:List UInt8}:bm s []=decide (s.length=0):=by cases s<;>simp[bm]
def tI(s t:List UInt8):bm s t=decide (s=t):=rfl
def cY{x y:Int}(h:x≠y):(x != y)=true:=by simp[h]
def dA{x y:Int}(h:x=y):(x != y)=false:=by simp[h]
def cf{x y:Int}(h:x=y):(x==y)=true:=by simp[h]
def bO{x y:Int}(h:x≠y):(x==y)=false:=by simp[h]
def bX{n:Nat}(h:n<=68719476736):room n=true:=wK h
def WG{α:Type}(l:List α):part l 0 l.length=l:=by simp[part]
def o_{α:Type}(l:List α)(n:Nat):part l n (l.length-n)=l.drop n:=by unfold part;rw[List.take_of_length_le (by simp)]
def nK{α:Type}(l:List α)(n:Nat):part l 0 n=l.take n:=by simp[part]
end Go.LM
namespace Go.LM.i_
def aji:∀(d m:Nat) (x:Int) (acc:af),0<=x->x<10^d->d<=18->acc.length+d<=100->d<m->∃s,tn m x acc=some (s,()):=by
 intro d
 induction d with
 |zero=>
  intro m x acc b a aa e hm
  cases m with
  |zero=>omega
  |succ m=>
   simp only[tn,EA];have:x=0:=by simp at a;omega
   subst this;rw[show decide ((0:Int)>0)=false by simp];simp only[ay];rw[wK (by simp;omega)];exact⟨_,rfl⟩
 |succ d g=>
  intro m x acc b a aa e hm
  cases m with
  |zero=>omega
  |succ m=>
   simp only[tn,EA];by_cases ai:x>0
   ·rw[show decide (x>0)=true by simp[ai],wK (by simp[ek];omega)];simp only[au];have hb:(10:Int)^d<=10^17:=by have h1:(10:Nat)^d<=10^17:=Nat.pow_le_pow_right (by omega) (by omega);have h:((10^d:Nat):Int)<=((10^17:Nat):Int):=Int.ofNat_le.2 h1;simpa using h
    rw[Int.pow_succ]at a;have ht:Int.tdiv x 10=x / 10:=by rw[Int.tdiv_eq_ediv_of_nonneg b]
    rw[ht,cj (by omega) (by omega)];exact g m _ _ (by omega) (by omega) (by omega) (by simp[ek];omega) (by omega)
   ·rw[show decide (x>0)=false by simp[ai]];simp only[ay];rw[wK (by simp;omega)];exact⟨_,rfl⟩
def ajj(k:Int)(h:k<=1000000000000000):∃s,lI (k,())=some (s,()):=by
 show ∃s,Ez (tn aC) k=_
 unfold Ez;by_cases hk:k<=0
 ·exact⟨_,by simp[hk];rfl⟩
 ·rw[show decide (k<=0)=false by simp[hk]];exact aji 16 aC k [] (by omega) (by have e:(10:Int)^16=10000000000000000:=rfl;omega) (by omega) (by simp) (by rw[dj];omega)
noncomputable def mt(k:Int):af:=match lI (k,())with
 |some r=>r.1
 |none=>[]
def dJ(k:Int)(h:k<=1000000000000000):lI (k,())=some (mt k,()):=by obtain⟨s,hs⟩:=ajj k h;unfold mt;rw[hs]
def ajk(x:ar.D)(n:Int)(g:0<=n)(hn:n<=1048576)(a:U.dM ar x):JY (x,n,())=some (hY (U.cost ar x) n,()):=by
 show JX  x n=_;unfold JX;have e:U.cost ar x=x.1.length:=by simp only[fs,ft,fw,fx,gB,f',bE,cz]
 rw[e];clear e;have b:=Oa (pk a);generalize x.1.length=d at b⊢;rw[cj (x:=n-_) (by omega) (by omega)];by_cases h:((d:Nat):Int)<=n
 case neg=>rw[qT (by omega),fz (by omega)];rfl
 rw[gl (by omega)];simp only[ay]
 try rw[jS (by omega)]
 first|done|exact congrArg (fun v:Int=>some (v,())) (by omega)
def ajl(x:(U.sl ar).D)(n:Int)(j:0<=n)(hn:n<=1048576)(b:U.dM (U.sl ar) x):JZ (x,n,())=some (hY (U.cost (U.sl ar) x) n,()):=by
 show B6 (sm aC) x n=_;unfold B6;have k:=(nO b).1;have d:=(nO b).2;rw[cj (x:=n-_) (by omega) (by omega)];by_cases g:(x.length:Int)<=n
 case neg=>rw[qT (by omega),fz (by have:=fH x;omega)];rfl
 rw[gl (by omega)];simp only[ay]
 have hl:=Gd x (fun m n i=>sm m x n i) (by omega) (fun m n=>by
   simp only[sm,B7];rw[bI (bu _)];rfl) (fun m n i a h1 e=>by
   simp only[sm,B7];rw[bj a,aU a];simp only[au,ag];rw[ajk _ n h1 e (d _ (tH a))];simp only[ag]
   rw[cj (x:=(i:Int)+1) (by omega) (by omega)]) x.length 0 aC (n-x.length) (by omega) (by rw[dj];omega) (by omega) (by omega)
 simp only[Int.ofNat_zero,Int.natCast_zero,gV]at hl;refine hl.trans ?_;congr 2;rw[jy];generalize (x.map fun h=>U.cost ar h).sum=l;unfold hY;split<;>split<;>omega
def ajm(x:J.D)(n:Int)(i:0<=n)(hn:n<=1048576)(d:U.dM J x):J1 (x,n,())=some (hY (U.cost J x) n,()):=by
 show J0  x n=_;unfold J0;have e:U.cost J x=x.2.2.2.2.2.1.length +(U.cost (U.sl ar) x.2.2.2.2.2.2.1):=by simp only[fs,ft,fw,fx,gB,f',bE,cz]
 rw[e];clear e;have g:=Oa (pk (h5 (h5 (h5 (h5 (h5 d))))));generalize x.2.2.2.2.2.1.length=a at g⊢;rw[cj (x:=n-_) (by omega) (by omega)];by_cases j:((a:Nat):Int)<=n
 case neg=>rw[qT (by omega),fz (by omega)];rfl
 rw[gl (by omega)];simp only[ay];rw[ajl _ (n-(a:Nat)) (by omega) (by omega) (pk (h5 (h5 (h5 (h5 (h5 (h5 d)))))))];simp only[ag];generalize U.cost (U.sl ar) x.2.2.2.2.2.2.1=h;by_cases b:((h:Nat):Int)<=n-(a:Nat)
 case neg=>first|(rw[fz b,fz (by omega)];rfl)|(rw[fz b];rfl)
 rw[jS b,gl (by omega)];simp only[ay]
 try rw[jS (by omega)]
 first|done|exact congrArg (fun v:Int=>some (v,())) (by omega)
def ajn(x:(U.sl J).D)(n:Int)(j:0<=n)(hn:n<=1048576)(b:U.dM (U.sl J) x):J2 (x,n,())=some (hY (U.cost (U.sl J) x) n,()):=by
 show B9 (sn aC) x n=_;unfold B9;have k:=(nO b).1;have d:=(nO b).2;rw[cj (x:=n-_) (by omega) (by omega)];by_cases g:(x.length:Int)<=n
 case neg=>rw[qT (by omega),fz (by have:=fH x;omega)];rfl
 rw[gl (by omega)];simp only[ay]
 have hl:=Gd x (fun m n i=>sn m x n i) (by omega) (fun m n=>by
   simp only[sn,B_];rw[bI (bu _)];rfl) (fun m n i a h1 e=>by
   simp only[sn,B_];rw[bj a,aU a];simp only[au,ag];rw[ajm _ n h1 e (d _ (tH a))];simp only[ag]
   rw[cj (x:=(i:Int)+1) (by omega) (by omega)]) x.length 0 aC (n-x.length) (by omega) (by rw[dj];omega) (by omega) (by omega)
 simp only[Int.ofNat_zero,Int.natCast_zero,gV]at hl;refine hl.trans ?_;congr 2;rw[jy];generalize (x.map fun h=>U.cost J h).sum=l;unfold hY;split<;>split<;>omega
def ajo(x:ad.D)(n:Int)(g:0<=n)(hn:n<=1048576)(b:U.dM ad x):J4 (x,n,())=some (hY (U.cost ad x) n,()):=by
 show J3  x n=_;unfold J3;have e:U.cost ad x=U.cost (U.sl J) x.2.1:=by simp only[fs,ft,fw,fx,gB,f',bE,cz]
 rw[e];clear e;rw[ajn _ (n) (by omega) (by omega) (pk (h5 b))];simp only[ag];generalize U.cost (U.sl J) x.2.1=d;by_cases a:((d:Nat):Int)<=n
 case neg=>first|(rw[fz a,fz (by omega)];rfl)|(rw[fz a];rfl)
 rw[jS a,gl (by omega)];simp only[ay]
 try rw[jS (by omega)]
 first|done|exact congrArg (fun v:Int=>some (v,())) (by omega)
def ajp(x:(U.sl aG).D)(n:Int)(b:0<=n)(hn:n<=1048576)(a:U.dM (U.sl aG) x):J6 (x,n,())=some (hY (U.cost (U.sl aG) x) n,()):=by
 show J5  x n=_;unfold J5;have d:=(nO a).1;have e:=(nO a).2;rw[cj (x:=n-_) (by omega) (by omega)];by_cases g:(x.length:Int)<=n
 case neg=>rw[qT (by omega),fz (by have:=fH x;omega)];rfl
 rw[gl (by omega)];simp only[ay];rw[XI (t:=aG) (by intro h;simp[fs,ft,fw,fx,gB,f']) x,jS g]
def ajq(x:aA.D)(n:Int)(g:0<=n)(hn:n<=1048576)(a:U.dM aA x):J8 (x,n,())=some (hY (U.cost aA x) n,()):=by
 show J7  x n=_;unfold J7;have e:U.cost aA x=x.2.1.length:=by simp only[fs,ft,fw,fx,gB,f',bE,cz]
 rw[e];clear e;have b:=Oa (pk (h5 a));generalize x.2.1.length=d at b⊢;rw[cj (x:=n-_) (by omega) (by omega)];by_cases h:((d:Nat):Int)<=n
 case neg=>rw[qT (by omega),fz (by omega)];rfl
 rw[gl (by omega)];simp only[ay]
 try rw[jS (by omega)]
 first|done|exact congrArg (fun v:Int=>some (v,())) (by omega)
def ajr(x:aK.D)(n:Int)(g:0<=n)(hn:n<=1048576)(b:U.dM aK x):J_ (x,n,())=some (hY (U.cost aK x) n,()):=by
 show J9  x n=_;unfold J9;have e:U.cost aK x=U.cost aA x.2.2.2.1:=by simp only[fs,ft,fw,fx,gB,f',bE,cz]
 rw[e];clear e;rw[ajq _ (n) (by omega) (by omega) (pk (h5 (h5 (h5 b))))];simp only[ag];generalize U.cost aA x.2.2.2.1=d;by_cases a:((d:Nat):Int)<=n
 case neg=>first|(rw[fz a,fz (by omega)];rfl)|(rw[fz a];rfl)
 rw[jS a,gl (by omega)];simp only[ay]
 try rw[jS (by omega)]
 first|done|exact congrArg (fun v:Int=>some (v,())) (by omega)
def ajs(x:(U.sl aK).D)(n:Int)(j:0<=n)(hn:n<=1048576)(b:U.dM (U.sl aK) x):J' (x,n,())=some (hY (U.cost (U.sl aK) x) n,()):=by
 show Ca (so aC) x n=_;unfold Ca;have k:=(nO b).1;have d:=(nO b).2;rw[cj (x:=n-_) (by omega) (by omega)];by_cases g:(x.length:Int)<=n
 case neg=>rw[qT (by omega),fz (by have:=fH x;omega)];rfl
 rw[gl (by omega)];simp only[ay]
 have hl:=Gd x (fun m n i=>so m x n i) (by omega) (fun m n=>by
   simp only[so,Cb];rw[bI (bu _)];rfl) (fun m n i a h1 e=>by
   simp only[so,Cb];rw[bj a,aU a];simp only[au,ag];rw[ajr _ n h1 e (d _ (tH a))];simp only[ag]
   rw[cj (x:=(i:Int)+1) (by omega) (by omega)]) x.length 0 aC (n-x.length) (by omega) (by rw[dj];omega) (by omega) (by omega)
 simp only[Int.ofNat_zero,Int.natCast_zero,gV]at hl;refine hl.trans ?_;congr 2;rw[jy];generalize (x.map fun h=>U.cost aK h).sum=l;unfold hY;split<;>split<;>omega
def ajt(x:ak.D)(n:Int)(k:0<=n)(hn:n<=1048576)(b:U.dM ak x):Kb (x,n,())=some (hY (U.cost ak x) n,()):=by
 show Ka  x n=_;unfold Ka;have e:U.cost ak x=U.cost ad x.1 +(U.cost (U.sl aG) x.2.2.1 +(U.cost (U.sl aK) x.2.2.2.1)):=by simp only[fs,ft,fw,fx,gB,f',bE,cz]
 rw[e];clear e;rw[ajo _ (n) (by omega) (by omega) (pk b)];simp only[ag];generalize U.cost ad x.1=a;by_cases d:((a:Nat):Int)<=n
 case neg=>first|(rw[fz d,fz (by omega)];rfl)|(rw[fz d];rfl)
 rw[jS d,gl (by omega)];simp only[ay];rw[ajp _ (n-(a:Nat)) (by omega) (by omega) (pk (h5 (h5 b)))];simp only[ag];generalize U.cost (U.sl aG) x.2.2.1=g;by_cases h:((g:Nat):Int)<=n-(a:Nat)
 case neg=>first|(rw[fz h,fz (by omega)];rfl)|(rw[fz h];rfl)
 rw[jS h,gl (by omega)];simp only[ay];rw[ajs _ (n-(a:Nat)-(g:Nat)) (by omega) (by omega) (pk (h5 (h5 (h5 b))))];simp only[ag];generalize U.cost (U.sl aK) x.2.2.2.1=j;by_cases i:((j:Nat):Int)<=n-(a:Nat)-(g:Nat)
 case neg=>first|(rw[fz i,fz (by omega)];rfl)|(rw[fz i];rfl)
 rw[jS i,gl (by omega)];simp only[ay]
 try rw[jS (by omega)]
 first|done|exact congrArg (fun v:Int=>some (v,())) (by omega)
def aju(x:(U.sl ak).D)(n:Int)(j:0<=n)(hn:n<=1048576)(b:U.dM (U.sl ak) x):Kc (x,n,())=some (hY (U.cost (U.sl ak) x) n,()):=by
 show Cd (sq aC) x n=_;unfold Cd;have k:=(nO b).1;have d:=(nO b).2;rw[cj (x:=n-_) (by omega) (by omega)];by_cases g:(x.length:Int)<=n
 case neg=>rw[qT (by omega),fz (by have:=fH x;omega)];rfl
 rw[gl (by omega)];simp only[ay]
 have hl:=Gd x (fun m n i=>sq m x n i) (by omega) (fun m n=>by
   simp only[sq,Ce];rw[bI (bu _)];rfl) (fun m n i a h1 e=>by
   simp only[sq,Ce];rw[bj a,aU a];simp only[au,ag];rw[ajt _ n h1 e (d _ (tH a))];simp only[ag]
   rw[cj (x:=(i:Int)+1) (by omega) (by omega)]) x.length 0 aC (n-x.length) (by omega) (by rw[dj];omega) (by omega) (by omega)
 simp only[Int.ofNat_zero,Int.natCast_zero,gV]at hl;refine hl.trans ?_;congr 2;rw[jy];generalize (x.map fun h=>U.cost ak h).sum=l;unfold hY;split<;>split<;>omega
def ajv(x:ar.D)(hc:U.cost ar x<=1048576):Lr (x,())=some (x,()):=by show Lq  x=_;unfold Lq;rfl
def ajw(x:(U.sl ar).D)(hc:U.cost (U.sl ar) x<=1048576):Ls (x,())=some (x,()):=by
 show D0 (tc aC) x=_;unfold D0;have hl:=fH x;rw[yC (by omega)];simp only[au]
 refine yB x (fun m i a=>tc m x i a) (fun m a=>by
   simp only[tc,D1];rw[bI (bu _)];rfl) (fun m i a b d=>by
   simp only[tc,D1];rw[bj b,aU b];simp only[au,ag];rw[ajv _ (by have:=k9 (t:=ar) b;omega)];simp only[ag]
   rw[aU (by omega),cj (x:=(i:Int)+1) (by omega) (by omega)];simp only[ag,bE]) x.length 0 aC _ (by omega) (by rw[dj];omega) (by simp) (by simp)
def ajx(x:J.D)(hc:U.cost J x<=1048576):Lu (x,())=some (x,()):=by
 show Lt  x=_;unfold Lt;have a:U.cost J x=x.2.2.2.2.2.1.length +(U.cost (U.sl ar) x.2.2.2.2.2.2.1):=by simp only[fs,ft,fw,fx,gB,f',bE,cz]
 rw[a]at hc;clear a;generalize b:U.cost (U.sl ar) x.2.2.2.2.2.2.1=d at hc;rw[ajw _ (by rw[b];omega)];simp only[ag]
def ajy(x:(U.sl J).D)(hc:U.cost (U.sl J) x<=1048576):Lv (x,())=some (x,()):=by
 show D3 (td aC) x=_;unfold D3;have hl:=fH x;rw[yC (by omega)];simp only[au]
 refine yB x (fun m i a=>td m x i a) (fun m a=>by
   simp only[td,D4];rw[bI (bu _)];rfl) (fun m i a b d=>by
   simp only[td,D4];rw[bj b,aU b];simp only[au,ag];rw[ajx _ (by have:=k9 (t:=J) b;omega)];simp only[ag]
   rw[aU (by omega),cj (x:=(i:Int)+1) (by omega) (by omega)];simp only[ag,bE]) x.length 0 aC _ (by omega) (by rw[dj];omega) (by simp) (by simp)
def ajz(x:ad.D)(hc:U.cost ad x<=1048576):Lx (x,())=some (x,()):=by
 show Lw  x=_;unfold Lw;have a:U.cost ad x=U.cost (U.sl J) x.2.1:=by simp only[fs,ft,fw,fx,gB,f',bE,cz]
 rw[a]at hc;clear a;generalize b:U.cost (U.sl J) x.2.1=d at hc;rw[ajy _ (by rw[b];omega)];simp only[ag]
def ajA(x:aG.D)(hc:U.cost aG x<=1048576):LA (x,())=some (x,()):=by show Ly  x=_;unfold Ly;rfl
def ajB(x:(U.sl aG).D)(hc:U.cost (U.sl aG) x<=1048576):LB (x,())=some (x,()):=by
 show D6 (te aC) x=_;unfold D6;have hl:=fH x;rw[yC (by omega)];simp only[au]
 refine yB x (fun m i a=>te m x i a) (fun m a=>by
   simp only[te,D7];rw[bI (bu _)];rfl) (fun m i a b d=>by
   simp only[te,D7];rw[bj b,aU b];simp only[au,ag];rw[ajA _ (by have:=k9 (t:=aG) b;omega)];simp only[ag]
   rw[aU (by omega),cj (x:=(i:Int)+1) (by omega) (by omega)];simp only[ag,bE]) x.length 0 aC _ (by omega) (by rw[dj];omega) (by simp) (by simp)
def ajC(x:aA.D)(hc:U.cost aA x<=1048576):LD (x,())=some (x,()):=by show LC  x=_;unfold LC;rfl
def ajD(x:aK.D)(hc:U.cost aK x<=1048576):LG (x,())=some (x,()):=by
 show LF  x=_;unfold LF;have a:U.cost aK x=U.cost aA x.2.2.2.1:=by simp only[fs,ft,fw,fx,gB,f',bE,cz]
 rw[a]at hc;clear a;generalize b:U.cost aA x.2.2.2.1=d at hc;rw[ajC _ (by rw[b];omega)];simp only[ag]
def ajE(x:(U.sl aK).D)(hc:U.cost (U.sl aK) x<=1048576):LH (x,())=some (x,()):=by
 show D9 (tf aC) x=_;unfold D9;have hl:=fH x;rw[yC (by omega)];simp only[au]
 refine yB x (fun m i a=>tf m x i a) (fun m a=>by
   simp only[tf,D_];rw[bI (bu _)];rfl) (fun m i a b d=>by
   simp only[tf,D_];rw[bj b,aU b];simp only[au,ag];rw[ajD _ (by have:=k9 (t:=aK) b;omega)];simp only[ag]
   rw[aU (by omega),cj (x:=(i:Int)+1) (by omega) (by omega)];simp only[ag,bE]) x.length 0 aC _ (by omega) (by rw[dj];omega) (by simp) (by simp)
def ajF(x:ak.D)(hc:U.cost ak x<=1048576):LJ (x,())=some (x,()):=by
 show LI  x=_;unfold LI;have a:U.cost ak x=U.cost ad x.1 +(U.cost (U.sl aG) x.2.2.1 +(U.cost (U.sl aK) x.2.2.2.1)):=by simp only[fs,ft,fw,fx,gB,f',bE,cz]
 rw[a]at hc;clear a;generalize b:U.cost ad x.1=g at hc;generalize d:U.cost (U.sl aG) x.2.2.1=h at hc;generalize e:U.cost (U.sl aK) x.2.2.2.1=i at hc;rw[ajz _ (by rw[b];omega)];simp only[ag];rw[ajB _ (by rw[d];omega)];simp only[ag];rw[ajE _ (by rw[e];omega)];simp only[ag]
def ajG(x:(U.sl ak).D)(hc:U.cost (U.sl ak) x<=1048576):vf (x,())=some (x,()):=by
 show Ea (tg aC) x=_;unfold Ea;have hl:=fH x;rw[yC (by omega)];simp only[au]
 refine yB x (fun m i a=>tg m x i a) (fun m a=>by
   simp only[tg,Eb];rw[bI (bu _)];rfl) (fun m i a b d=>by
   simp only[tg,Eb];rw[bj b,aU b];simp only[au,ag];rw[ajF _ (by have:=k9 (t:=ak) b;omega)];simp only[ag]
   rw[aU (by omega),cj (x:=(i:Int)+1) (by omega) (by omega)];simp only[ag,bE]) x.length 0 aC _ (by omega) (by rw[dj];omega) (by simp) (by simp)
def ajH(x:ar.D)(hc:U.cost ar x<=1099511627776):LL (x,x,())=some (true,()):=by
 show LK  x x=_;unfold LK
 try simp only[eG,ay,fD,bJ,fJ,jk]
def ajI(x:(U.sl ar).D)(hc:U.cost (U.sl ar) x<=1099511627776):LN (x,x,())=some (true,()):=by
 show Ed (th aC) x x=_;unfold Ed;have hl:=fH x;simp only[eG,ay]
 refine vK x.length (fun m i=>th m x x i) (fun m=>by
   simp only[th,Ee];rw[bI (bu _)];rfl) (fun m i a=>by
   simp only[th,Ee];rw[bj a,aU a];simp only[au,ag];rw[ajH _ (by have:=k9 (t:=ar) a;omega)];simp only[ag,eG,fD,bJ,ay,fJ]
   rw[cj (x:=(i:Int)+1) (by omega) (by omega)]) x.length 0 aC (by omega) (by rw[dj];omega)
def ajJ(x:J.D)(hc:U.cost J x<=1099511627776):LP (x,x,())=some (true,()):=by
 show LO  x x=_;unfold LO;have a:U.cost J x=x.2.2.2.2.2.1.length +(U.cost (U.sl ar) x.2.2.2.2.2.2.1):=by simp only[fs,ft,fw,fx,gB,f',bE,cz]
 rw[a]at hc;clear a;generalize b:U.cost (U.sl ar) x.2.2.2.2.2.2.1=d at hc
 try simp only[eG,ay,fD,bJ,fJ,jk]
 rw[ajI x.2.2.2.2.2.2.1 (by rw[b];omega)];simp only[ag,eG,ay,fD,bJ,fJ,jk]
def ajK(x:(U.sl J).D)(hc:U.cost (U.sl J) x<=1099511627776):LQ (x,x,())=some (true,()):=by
 show Eg (ti aC) x x=_;unfold Eg;have hl:=fH x;simp only[eG,ay]
 refine vK x.length (fun m i=>ti m x x i) (fun m=>by
   simp only[ti,Eh];rw[bI (bu _)];rfl) (fun m i a=>by
   simp only[ti,Eh];rw[bj a,aU a];simp only[au,ag];rw[ajJ _ (by have:=k9 (t:=J) a;omega)];simp only[ag,eG,fD,bJ,ay,fJ]
   rw[cj (x:=(i:Int)+1) (by omega) (by omega)]) x.length 0 aC (by omega) (by rw[dj];omega)
def ajL(x:ad.D)(hc:U.cost ad x<=1099511627776):LS (x,x,())=some (true,()):=by
 show LR  x x=_;unfold LR;have a:U.cost ad x=U.cost (U.sl J) x.2.1:=by simp only[fs,ft,fw,fx,gB,f',bE,cz]
 rw[a]at hc;clear a;generalize b:U.cost (U.sl J) x.2.1=d at hc
 try simp only[eG,ay,fD,bJ,fJ,jk]
 rw[ajK x.2.1 (by rw[b];omega)];simp only[ag,eG,ay,fD,bJ,fJ,jk]
def ajM(x:aG.D)(hc:U.cost aG x<=1099511627776):LV (x,x,())=some (true,()):=by
 show LU  x x=_;unfold LU
 try simp only[eG,ay,fD,bJ,fJ,jk]
def ajN(x:(U.sl aG).D)(hc:U.cost (U.sl aG) x<=1099511627776):LW (x,x,())=some (true,()):=by
 show Ej (tj aC) x x=_;unfold Ej;have hl:=fH x;simp only[eG,ay]
 refine vK x.length (fun m i=>tj m x x i) (fun m=>by
   simp only[tj,Ek];rw[bI (bu _)];rfl) (fun m i a=>by
   simp only[tj,Ek];rw[bj a,aU a];simp only[au,ag];rw[ajM _ (by have:=k9 (t:=aG) a;omega)];simp only[ag,eG,fD,bJ,ay,fJ]
   rw[cj (x:=(i:Int)+1) (by omega) (by omega)]) x.length 0 aC (by omega) (by rw[dj];omega)
def XJ(x:aA.D)(hc:U.cost aA x<=1099511627776):El (x,x,())=some (true,()):=by
 show LX  x x=_;unfold LX
 try simp only[eG,ay,fD,bJ,fJ,jk]
def ajO(x:aK.D)(hc:U.cost aK x<=1099511627776):LZ (x,x,())=some (true,()):=by
 show LY  x x=_;unfold LY;have a:U.cost aK x=U.cost aA x.2.2.2.1:=by simp only[fs,ft,fw,fx,gB,f',bE,cz]
 rw[a]at hc;clear a;generalize b:U.cost aA x.2.2.2.1=d at hc
 try simp only[eG,ay,fD,bJ,fJ,jk]
 rw[XJ x.2.2.2.1 (by rw[b];omega)];simp only[ag,eG,ay,fD,bJ,fJ,jk]
def ajP(x:(U.sl aK).D)(hc:U.cost (U.sl aK) x<=1099511627776):L0 (x,x,())=some (true,()):=by
 show En (tk aC) x x=_;unfold En;have hl:=fH x;simp only[eG,ay]
 refine vK x.length (fun m i=>tk m x x i) (fun m=>by
   simp only[tk,Eo];rw[bI (bu _)];rfl) (fun m i a=>by
   simp only[tk,Eo];rw[bj a,aU a];simp only[au,ag];rw[ajO _ (by have:=k9 (t:=aK) a;omega)];simp only[ag,eG,fD,bJ,ay,fJ]
   rw[cj (x:=(i:Int)+1) (by omega) (by omega)]) x.length 0 aC (by omega) (by rw[dj];omega)
def ajQ(x:ak.D)(hc:U.cost ak x<=1099511627776):L2 (x,x,())=some (true,()):=by
 show L1  x x=_;unfold L1;have a:U.cost ak x=U.cost ad x.1 +(U.cost (U.sl aG) x.2.2.1 +(U.cost (U.sl aK) x.2.2.2.1)):=by simp only[fs,ft,fw,fx,gB,f',bE,cz]
 rw[a]at hc;clear a;generalize b:U.cost ad x.1=g at hc;generalize d:U.cost (U.sl aG) x.2.2.1=h at hc;generalize e:U.cost (U.sl aK) x.2.2.2.1=i at hc
 try simp only[eG,ay,fD,bJ,fJ,jk]
 rw[ajL x.1 (by rw[b];omega)];simp only[ag,eG,ay,fD,bJ,fJ,jk];rw[ajN x.2.2.1 (by rw[d];omega)];simp only[ag,eG,ay,fD,bJ,fJ,jk];rw[ajP x.2.2.2.1 (by rw[e];omega)];simp only[ag,eG,ay,fD,bJ,fJ,jk]
def XK(x:(U.sl ak).D)(hc:U.cost (U.sl ak) x<=1099511627776):vg (x,x,())=some (true,()):=by
 show Er (tl aC) x x=_;unfold Er;have hl:=fH x;simp only[eG,ay]
 refine vK x.length (fun m i=>tl m x x i) (fun m=>by
   simp only[tl,Es];rw[bI (bu _)];rfl) (fun m i a=>by
   simp only[tl,Es];rw[bj a,aU a];simp only[au,ag];rw[ajQ _ (by have:=k9 (t:=ak) a;omega)];simp only[ag,eG,fD,bJ,ay,fJ]
   rw[cj (x:=(i:Int)+1) (by omega) (by omega)]) x.length 0 aC (by omega) (by rw[dj];omega)
def ajR(x:bh.D)(hc:U.cost bh x<=1099511627776):L4 (x,x,())=some (true,()):=by
 show L3  x x=_;unfold L3;have a:U.cost bh x=U.cost aA x.2.2.2.2.1:=by simp only[fs,ft,fw,fx,gB,f',bE,cz]
 rw[a]at hc;clear a;generalize b:U.cost aA x.2.2.2.2.1=d at hc
 try simp only[eG,ay,fD,bJ,fJ,jk]
 rw[XJ x.2.2.2.2.1 (by rw[b];omega)];simp only[ag,eG,ay,fD,bJ,fJ,jk]
def ajS(x:(U.sl bh).D)(hc:U.cost (U.sl bh) x<=1099511627776):xV (x,x,())=some (true,()):=by
 show Eu (tm aC) x x=_;unfold Eu;have hl:=fH x;simp only[eG,ay]
 refine vK x.length (fun m i=>tm m x x i) (fun m=>by
   simp only[tm,Ev];rw[bI (bu _)];rfl) (fun m i a=>by
   simp only[tm,Ev];rw[bj a,aU a];simp only[au,ag];rw[ajR _ (by have:=k9 (t:=bh) a;omega)];simp only[ag,eG,fD,bJ,ay,fJ]
   rw[cj (x:=(i:Int)+1) (by omega) (by omega)]) x.length 0 aC (by omega) (by rw[dj];omega)
set_option maxHeartbeats 4000000 in
def ajT(m:Nat)(k:Int)(i:Nat)(x:(U.sl aG).D)(b:i<x.length)(hl:x.length<=1099511627776)(hk:0<=k)(hb:k +(U.wt aG (I aG x i):Nat)<=1000000000000000)(hc:U.cost aG (I aG x i)<=1099511627776):
  ∃j y,oQ (m+1) k (i:Int) x=oQ m j ((i:Int)+1) (x.set i y)/\U.cP mt aG y k j/\j<=k +(U.wt aG (I aG x i):Nat):=by
 simp only[vN,vO,vP,vQ,vR,vS,lX,lY,lZ,l0,l1,l2,cz]at hb⊢;simp only[fs,ft,fw,fx,gB,f',bE,cz]at hc;refine⟨k+5,(k,k+1,k+2,k+3,k+4,()),?_,⟨k+1,⟨rfl,by omega⟩,⟨k+2,⟨rfl,by omega⟩,⟨k+3,⟨rfl,by omega⟩,⟨k+4,⟨rfl,by omega⟩,⟨k+5,⟨rfl,by omega⟩,rfl⟩⟩⟩⟩⟩,by omega⟩;have a:∀z:aG.D,I aG (x.set i z) i=z:=fun z=>rI b
 simp only[oQ];unfold Ex;simp (disch:=first|omega|(simp only[bL];omega)) only[bj,aU,au,ag,bE,bL,a,dL,cj,da,Int.reduceAdd,dJ];unfold Sa;simp (disch:=first|omega|(simp only[bL];omega)) only[bj,aU,au,ag,bE,bL,a,dL,cj,da,Int.reduceAdd,dJ];unfold R';simp (disch:=first|omega|(simp only[bL];omega)) only[bj,aU,au,ag,bE,bL,a,dL,cj,da,Int.reduceAdd,dJ];unfold R_;simp (disch:=first|omega|(simp only[bL];omega)) only[bj,aU,au,ag,bE,bL,a,dL,cj,da,Int.reduceAdd,dJ];unfold R9;simp (disch:=first|omega|(simp only[bL];omega)) only[bj,aU,au,ag,bE,bL,a,dL,cj,da,Int.reduceAdd,dJ];unfold R8;simp (disch:=first|omega|(simp only[bL];omega)) only[bj,aU,au,ag,bE,bL,a,dL,cj,da,Int.reduceAdd,dJ]
def ajU(x:(U.sl aG).D)(k:Int)(hk:0<=k)(hb:k +(U.wt (U.sl aG) x:Nat)<=1000000000000000)(hc:U.cost (U.sl aG) x<=1099511627776):
  ∃k' y,L5 (x,k,())=some (k',y,())/\U.cP mt (U.sl aG) y k k'/\k'<=k +(U.wt (U.sl aG) x:Nat):=by
 have hl:x.length<=1099511627776:=by have:=fH x;omega
 rw[vT]at hb⊢
 obtain⟨k',y,h1,g,_,b,d⟩:=vL (mt:=mt) (t:=aG) x.length hl (fun m k i x=>oQ m k i x) (fun m k y e=>by
   simp only[oQ,Ex];rw[bI (by omega)];rfl) (fun m k i y h e hk hb hc=>ajT m k i y (by omega) (by omega) hk hb hc) x.length 0 aC k x (by omega) (by rw[dj];omega) rfl hk (by simpa using hb) (fun z a=>by
   rw[gV]at a;have h1:=qU (f:=fun y=>U.cost aG y) a;rw[jy]at hc
   omega)
 refine⟨k',y,?_,?_,by simpa using d⟩
 ·show Ew (oQ aC) x k=_;unfold Ew;simpa using h1
 ·rw[l3];exact⟨by omega,by simpa using b⟩
set_option maxHeartbeats 4000000 in
def ajV(m:Nat)(k:Int)(i:Nat)(x:(U.sl aK).D)(b:i<x.length)(hl:x.length<=1099511627776)(hk:0<=k)(hb:k +(U.wt aK (I aK x i):Nat)<=1000000000000000)(hc:U.cost aK (I aK x i)<=1099511627776):
  ∃j y,oS (m+1) k (i:Int) x=oS m j ((i:Int)+1) (x.set i y)/\U.cP mt aK y k j/\j<=k +(U.wt aK (I aK x i):Nat):=by
 simp only[vN,vO,vP,vQ,vR,vS,lX,lY,lZ,l0,l1,l2,cz]at hb⊢;simp only[fs,ft,fw,fx,gB,f',bE,cz]at hc;generalize (I aK x i).2.2.2.1.2.1.length=d at hc;refine⟨k+5,(k,k+1,k+2,(k+3,mt (k+4),()),()),?_,⟨k+1,⟨rfl,by omega⟩,⟨k+2,⟨rfl,by omega⟩,⟨k+3,⟨rfl,by omega⟩,⟨k+5,⟨k+4,⟨rfl,by omega⟩,⟨k+5,⟨rfl,by omega⟩,rfl⟩⟩,rfl⟩⟩⟩⟩,by omega⟩;have a:∀z:aK.D,I aK (x.set i z) i=z:=fun z=>rI b
 simp only[oS];unfold EC;simp (disch:=first|omega|(simp only[bL];omega)) only[bj,aU,au,ag,bE,bL,a,dL,cj,da,Int.reduceAdd,dJ];unfold Sf;simp (disch:=first|omega|(simp only[bL];omega)) only[bj,aU,au,ag,bE,bL,a,dL,cj,da,Int.reduceAdd,dJ];unfold Se;simp (disch:=first|omega|(simp only[bL];omega)) only[bj,aU,au,ag,bE,bL,a,dL,cj,da,Int.reduceAdd,dJ];unfold Sd;simp (disch:=first|omega|(simp only[bL];omega)) only[bj,aU,au,ag,bE,bL,a,dL,cj,da,Int.reduceAdd,dJ];unfold Sc;simp (disch:=first|omega|(simp only[bL];omega)) only[bj,aU,au,ag,bE,bL,a,dL,cj,da,Int.reduceAdd,dJ];unfold Sb;simp (disch:=first|omega|(simp only[bL];omega)) only[bj,aU,au,ag,bE,bL,a,dL,cj,da,Int.reduceAdd,dJ]
def ajW(x:(U.sl aK).D)(k:Int)(hk:0<=k)(hb:k +(U.wt (U.sl aK) x:Nat)<=1000000000000000)(hc:U.cost (U.sl aK) x<=1099511627776):
  ∃k' y,L6 (x,k,())=some (k',y,())/\U.cP mt (U.sl aK) y k k'/\k'<=k +(U.wt (U.sl aK) x:Nat):=by
 have hl:x.length<=1099511627776:=by have:=fH x;omega
 rw[vT]at hb⊢
 obtain⟨k',y,h1,g,_,b,d⟩:=vL (mt:=mt) (t:=aK) x.length hl (fun m k i x=>oS m k i x) (fun m k y e=>by
   simp only[oS,EC];rw[bI (by omega)];rfl) (fun m k i y h e hk hb hc=>ajV m k i y (by omega) (by omega) hk hb hc) x.length 0 aC k x (by omega) (by rw[dj];omega) rfl hk (by simpa using hb) (fun z a=>by
   rw[gV]at a;have h1:=qU (f:=fun y=>U.cost aK y) a;rw[jy]at hc
   omega)
 refine⟨k',y,?_,?_,by simpa using d⟩
 ·show EB (oS aC) x k=_;unfold EB;simpa using h1
 ·rw[l3];exact⟨by omega,by simpa using b⟩
set_option maxHeartbeats 4000000 in
def ajX(m:Nat)(k:Int)(i:Nat)(x:(U.sl ar).D)(b:i<x.length)(hl:x.length<=1099511627776)(hk:0<=k)(hb:k +(U.wt ar (I ar x i):Nat)<=1000000000000000)(hc:U.cost ar (I ar x i)<=1099511627776):
  ∃j y,oT (m+1) k (i:Int) x=oT m j ((i:Int)+1) (x.set i y)/\U.cP mt ar y k j/\j<=k +(U.wt ar (I ar x i):Nat):=by
 simp only[vN,vO,vP,vQ,vR,vS,lX,lY,lZ,l0,l1,l2,cz]at hb⊢;simp only[fs,ft,fw,fx,gB,f',bE,cz]at hc;generalize (I ar x i).1.length=d at hc;refine⟨k+2,(mt (k),k+1,()),?_,⟨k+1,⟨rfl,by omega⟩,⟨k+2,⟨rfl,by omega⟩,rfl⟩⟩,by omega⟩;have a:∀z:ar.D,I ar (x.set i z) i=z:=fun z=>rI b
 simp only[oT];unfold EE;simp (disch:=first|omega|(simp only[bL];omega)) only[bj,aU,au,ag,bE,bL,a,dL,cj,da,Int.reduceAdd,dJ];unfold Sh;simp (disch:=first|omega|(simp only[bL];omega)) only[bj,aU,au,ag,bE,bL,a,dL,cj,da,Int.reduceAdd,dJ];unfold Sg;simp (disch:=first|omega|(simp only[bL];omega)) only[bj,aU,au,ag,bE,bL,a,dL,cj,da,Int.reduceAdd,dJ]
def ajY(x:(U.sl ar).D)(k:Int)(hk:0<=k)(hb:k +(U.wt (U.sl ar) x:Nat)<=1000000000000000)(hc:U.cost (U.sl ar) x<=1099511627776):
  ∃k' y,L7 (x,k,())=some (k',y,())/\U.cP mt (U.sl ar) y k k'/\k'<=k +(U.wt (U.sl ar) x:Nat):=by
 have hl:x.length<=1099511627776:=by have:=fH x;omega
 rw[vT]at hb⊢
 obtain⟨k',y,h1,g,_,b,d⟩:=vL (mt:=mt) (t:=ar) x.length hl (fun m k i x=>oT m k i x) (fun m k y e=>by
   simp only[oT,EE];rw[bI (by omega)];rfl) (fun m k i y h e hk hb hc=>ajX m k i y (by omega) (by omega) hk hb hc) x.length 0 aC k x (by omega) (by rw[dj];omega) rfl hk (by simpa using hb) (fun z a=>by
   rw[gV]at a;have h1:=qU (f:=fun y=>U.cost ar y) a;rw[jy]at hc
   omega)
 refine⟨k',y,?_,?_,by simpa using d⟩
 ·show ED (oT aC) x k=_;unfold ED;simpa using h1
 ·rw[l3];exact⟨by omega,by simpa using b⟩
set_option maxHeartbeats 4000000 in
def ajZ(m:Nat)(k:Int)(i:Nat)(x:(U.sl J).D)(g:i<x.length)(hl:x.length<=1099511627776)(hk:0<=k)(hb:k +(U.wt J (I J x i):Nat)<=1000000000000000)(hc:U.cost J (I J x i)<=1099511627776):
  ∃j y,oU (m+1) k (i:Int) x=oU m j ((i:Int)+1) (x.set i y)/\U.cP mt J y k j/\j<=k +(U.wt J (I J x i):Nat):=by
 simp only[vN,vO,vP,vQ,vR,vS,lX,lY,lZ,l0,l1,l2,cz]at hb⊢;simp only[fs,ft,fw,fx,gB,f',bE,cz]at hc;generalize (I J x i).2.2.2.2.2.1.length=o at hc;generalize d:U.wt (U.sl ar) (I J x i).2.2.2.2.2.2.1=p at hb⊢;generalize h:U.cost (U.sl ar) (I J x i).2.2.2.2.2.2.1=q at hc;obtain⟨b,l,h1,e,n⟩:=ajY (I J x i).2.2.2.2.2.2.1 (k+6) (by omega) (by rw[d];omega) (by rw[h];omega);rw[d]at n;have r:=U.gm _ e;refine⟨b+2,(k,k+1,k+2,k+3,k+4,mt (k+5),l,b,b+1,()),?_,⟨k+1,⟨rfl,by omega⟩,⟨k+2,⟨rfl,by omega⟩,⟨k+3,⟨rfl,by omega⟩,⟨k+4,⟨rfl,by omega⟩,⟨k+5,⟨rfl,by omega⟩,⟨k+6,⟨rfl,by omega⟩,⟨b,e,⟨b+1,⟨rfl,by omega⟩,⟨b+2,⟨rfl,by omega⟩,rfl⟩⟩⟩⟩⟩⟩⟩⟩⟩,by omega⟩;have a:∀z:J.D,I J (x.set i z) i=z:=fun z=>rI g
 simp only[oU];unfold EG;simp (disch:=first|omega|(simp only[bL];omega)) only[bj,aU,au,ag,bE,bL,a,dL,cj,da,Int.reduceAdd,dJ,h1];unfold Sq;simp (disch:=first|omega|(simp only[bL];omega)) only[bj,aU,au,ag,bE,bL,a,dL,cj,da,Int.reduceAdd,dJ,h1];unfold Sp;simp (disch:=first|omega|(simp only[bL];omega)) only[bj,aU,au,ag,bE,bL,a,dL,cj,da,Int.reduceAdd,dJ,h1];unfold So;simp (disch:=first|omega|(simp only[bL];omega)) only[bj,aU,au,ag,bE,bL,a,dL,cj,da,Int.reduceAdd,dJ,h1];unfold Sn;simp (disch:=first|omega|(simp only[bL];omega)) only[bj,aU,au,ag,bE,bL,a,dL,cj,da,Int.reduceAdd,dJ,h1];unfold Sm;simp (disch:=first|omega|(simp only[bL];omega)) only[bj,aU,au,ag,bE,bL,a,dL,cj,da,Int.reduceAdd,dJ,h1];unfold Sl;simp (disch:=first|omega|(simp only[bL];omega)) only[bj,aU,au,ag,bE,bL,a,dL,cj,da,Int.reduceAdd,dJ,h1];unfold Sk;simp (disch:=first|omega|(simp only[bL];omega)) only[bj,aU,au,ag,bE,bL,a,dL,cj,da,Int.reduceAdd,dJ,h1];unfold Sj;simp (disch:=first|omega|(simp only[bL];omega)) only[bj,aU,au,ag,bE,bL,a,dL,cj,da,Int.reduceAdd,dJ,h1];unfold Si;simp (disch:=first|omega|(simp only[bL];omega)) only[bj,aU,au,ag,bE,bL,a,dL,cj,da,Int.reduceAdd,dJ,h1]
def aj0(x:(U.sl J).D)(k:Int)(hk:0<=k)(hb:k +(U.wt (U.sl J) x:Nat)<=1000000000000000)(hc:U.cost (U.sl J) x<=1099511627776):
  ∃k' y,L8 (x,k,())=some (k',y,())/\U.cP mt (U.sl J) y k k'/\k'<=k +(U.wt (U.sl J) x:Nat):=by
 have hl:x.length<=1099511627776:=by have:=fH x;omega
 rw[vT]at hb⊢
 obtain⟨k',y,h1,g,_,b,d⟩:=vL (mt:=mt) (t:=J) x.length hl (fun m k i x=>oU m k i x) (fun m k y e=>by
   simp only[oU,EG];rw[bI (by omega)];rfl) (fun m k i y h e hk hb hc=>ajZ m k i y (by omega) (by omega) hk hb hc) x.length 0 aC k x (by omega) (by rw[dj];omega) rfl hk (by simpa using hb) (fun z a=>by
   rw[gV]at a;have h1:=qU (f:=fun y=>U.cost J y) a;rw[jy]at hc
   omega)
 refine⟨k',y,?_,?_,by simpa using d⟩
 ·show EF (oU aC) x k=_;unfold EF;simpa using h1
 ·rw[l3];exact⟨by omega,by simpa using b⟩
set_option maxHeartbeats 4000000 in
def aj1(m:Nat)(k:Int)(i:Nat)(x:(U.sl ak).D)(q:i<x.length)(hl:x.length<=1099511627776)(hk:0<=k)(hb:k +(U.wt ak (I ak x i):Nat)<=1000000000000000)(hc:U.cost ak (I ak x i)<=1099511627776):
  ∃j y,oW (m+1) k (i:Int) x=oW m j ((i:Int)+1) (x.set i y)/\U.cP mt ak y k j/\j<=k +(U.wt ak (I ak x i):Nat):=by
 simp only[vN,vO,vP,vQ,vR,vS,lX,lY,lZ,l0,l1,l2,cz]at hb⊢;simp only[fs,ft,fw,fx,gB,f',bE,cz]at hc;generalize g:U.wt (U.sl J) (I ak x i).1.2.1=E at hb⊢;generalize r:U.cost (U.sl J) (I ak x i).1.2.1=F at hc;generalize h:U.wt (U.sl aG) (I ak x i).2.2.1=G at hb⊢;generalize s:U.cost (U.sl aG) (I ak x i).2.2.1=H at hc;generalize l:U.wt (U.sl aK) (I ak x i).2.2.2.1=K at hb⊢;generalize u:U.cost (U.sl aK) (I ak x i).2.2.2.1=L at hc;obtain⟨e,v,h1,n,w⟩:=aj0 (I ak x i).1.2.1 (k+1) (by omega) (by rw[g];omega) (by rw[r];omega);rw[g]at w;have M:=U.gm _ n;obtain⟨k2,A,a,o,B⟩:=ajU (I ak x i).2.2.1 (e+1) (by omega) (by rw[h];omega) (by rw[s];omega);rw[h]at B;have N:=U.gm _ o;obtain⟨k3,C,b,p,D⟩:=ajW (I ak x i).2.2.2.1 (k2) (by omega) (by rw[l];omega) (by rw[u];omega);rw[l]at D;have P:=U.gm _ p;refine⟨k3,((k,v,()),e,A,C,()),?_,⟨e,⟨k+1,⟨rfl,by omega⟩,⟨e,n,rfl⟩⟩,⟨e+1,⟨rfl,by omega⟩,⟨k2,o,⟨k3,p,rfl⟩⟩⟩⟩,by omega⟩;have d:∀z:ak.D,I ak (x.set i z) i=z:=fun z=>rI q
 simp only[oW];unfold EI;simp (disch:=first|omega|(simp only[bL];omega)) only[bj,aU,au,ag,bE,bL,d,dL,cj,da,Int.reduceAdd,dJ,h1,a,b];unfold Sv;simp (disch:=first|omega|(simp only[bL];omega)) only[bj,aU,au,ag,bE,bL,d,dL,cj,da,Int.reduceAdd,dJ,h1,a,b];unfold Su;simp (disch:=first|omega|(simp only[bL];omega)) only[bj,aU,au,ag,bE,bL,d,dL,cj,da,Int.reduceAdd,dJ,h1,a,b];unfold St;simp (disch:=first|omega|(simp only[bL];omega)) only[bj,aU,au,ag,bE,bL,d,dL,cj,da,Int.reduceAdd,dJ,h1,a,b];unfold Ss;simp (disch:=first|omega|(simp only[bL];omega)) only[bj,aU,au,ag,bE,bL,d,dL,cj,da,Int.reduceAdd,dJ,h1,a,b];unfold Sr;simp (disch:=first|omega|(simp only[bL];omega)) only[bj,aU,au,ag,bE,bL,d,dL,cj,da,Int.reduceAdd,dJ,h1,a,b]
def XL(x:(U.sl ak).D)(k:Int)(hk:0<=k)(hb:k +(U.wt (U.sl ak) x:Nat)<=1000000000000000)(hc:U.cost (U.sl ak) x<=1099511627776):
  ∃k' y,EJ (x,k,())=some (k',y,())/\U.cP mt (U.sl ak) y k k'/\k'<=k +(U.wt (U.sl ak) x:Nat):=by
 have hl:x.length<=1099511627776:=by have:=fH x;omega
 rw[vT]at hb⊢
 obtain⟨k',y,h1,g,_,b,d⟩:=vL (mt:=mt) (t:=ak) x.length hl (fun m k i x=>oW m k i x) (fun m k y e=>by
   simp only[oW,EI];rw[bI (by omega)];rfl) (fun m k i y h e hk hb hc=>aj1 m k i y (by omega) (by omega) hk hb hc) x.length 0 aC k x (by omega) (by rw[dj];omega) rfl hk (by simpa using hb) (fun z a=>by
   rw[gV]at a;have h1:=qU (f:=fun y=>U.cost ak y) a;rw[jy]at hc
   omega)
 refine⟨k',y,?_,?_,by simpa using d⟩
 ·show EH (oW aC) x k=_;unfold EH;simpa using h1
 ·rw[l3];exact⟨by omega,by simpa using b⟩
set_option maxHeartbeats 4000000 in
def aj2(m:Nat)(k:Int)(i:Nat)(x:(U.sl bh).D)(b:i<x.length)(hl:x.length<=1099511627776)(hk:0<=k)(hb:k +(U.wt bh (I bh x i):Nat)<=1000000000000000)(hc:U.cost bh (I bh x i)<=1099511627776):
  ∃j y,oX (m+1) k (i:Int) x=oX m j ((i:Int)+1) (x.set i y)/\U.cP mt bh y k j/\j<=k +(U.wt bh (I bh x i):Nat):=by
 simp only[vN,vO,vP,vQ,vR,vS,lX,lY,lZ,l0,l1,l2,cz]at hb⊢;simp only[fs,ft,fw,fx,gB,f',bE,cz]at hc;generalize (I bh x i).2.2.2.2.1.2.1.length=d at hc;refine⟨k+6,(k,k+1,k+2,k+3,(k+4,mt (k+5),()),()),?_,⟨k+1,⟨rfl,by omega⟩,⟨k+2,⟨rfl,by omega⟩,⟨k+3,⟨rfl,by omega⟩,⟨k+4,⟨rfl,by omega⟩,⟨k+6,⟨k+5,⟨rfl,by omega⟩,⟨k+6,⟨rfl,by omega⟩,rfl⟩⟩,rfl⟩⟩⟩⟩⟩,by omega⟩;have a:∀z:bh.D,I bh (x.set i z) i=z:=fun z=>rI b
 simp only[oX];unfold EL;simp (disch:=first|omega|(simp only[bL];omega)) only[bj,aU,au,ag,bE,bL,a,dL,cj,da,Int.reduceAdd,dJ];unfold SB;simp (disch:=first|omega|(simp only[bL];omega)) only[bj,aU,au,ag,bE,bL,a,dL,cj,da,Int.reduceAdd,dJ];unfold SA;simp (disch:=first|omega|(simp only[bL];omega)) only[bj,aU,au,ag,bE,bL,a,dL,cj,da,Int.reduceAdd,dJ];unfold Sz;simp (disch:=first|omega|(simp only[bL];omega)) only[bj,aU,au,ag,bE,bL,a,dL,cj,da,Int.reduceAdd,dJ];unfold Sy;simp (disch:=first|omega|(simp only[bL];omega)) only[bj,aU,au,ag,bE,bL,a,dL,cj,da,Int.reduceAdd,dJ];unfold Sx;simp (disch:=first|omega|(simp only[bL];omega)) only[bj,aU,au,ag,bE,bL,a,dL,cj,da,Int.reduceAdd,dJ];unfold Sw;simp (disch:=first|omega|(simp only[bL];omega)) only[bj,aU,au,ag,bE,bL,a,dL,cj,da,Int.reduceAdd,dJ]
def aj3(x:(U.sl bh).D)(k:Int)(hk:0<=k)(hb:k +(U.wt (U.sl bh) x:Nat)<=1000000000000000)(hc:U.cost (U.sl bh) x<=1099511627776):
  ∃k' y,L9 (x,k,())=some (k',y,())/\U.cP mt (U.sl bh) y k k'/\k'<=k +(U.wt (U.sl bh) x:Nat):=by
 have hl:x.length<=1099511627776:=by have:=fH x;omega
 rw[vT]at hb⊢
 obtain⟨k',y,h1,g,_,b,d⟩:=vL (mt:=mt) (t:=bh) x.length hl (fun m k i x=>oX m k i x) (fun m k y e=>by
   simp only[oX,EL];rw[bI (by omega)];rfl) (fun m k i y h e hk hb hc=>aj2 m k i y (by omega) (by omega) hk hb hc) x.length 0 aC k x (by omega) (by rw[dj];omega) rfl hk (by simpa using hb) (fun z a=>by
   rw[gV]at a;have h1:=qU (f:=fun y=>U.cost bh y) a;rw[jy]at hc
   omega)
 refine⟨k',y,?_,?_,by simpa using d⟩
 ·show EK (oX aC) x k=_;unfold EK;simpa using h1
 ·rw[l3];exact⟨by omega,by simpa using b⟩
set_option maxHeartbeats 4000000 in
def aj4(m:Nat)(k j:Int)(i:Nat)(x:(U.sl aG).D)(h:i<x.length)(hl:x.length<=1099511627776)(hk:0<=k)(l:j<=1000000000000000)(hm:U.cP mt aG (I aG x i) k j):
  oY (m+1) x k (i:Int)=oY m x j ((i:Int)+1):=by
 have n:=U.gm _ hm;simp only[lX,lY,lZ,l0,l1,l2]at hm;obtain⟨_,⟨a,rfl⟩,_,⟨b,rfl⟩,_,⟨d,rfl⟩,_,⟨e,rfl⟩,_,⟨g,rfl⟩,rfl⟩:=hm
 try simp only[da,Int.reduceAdd]at *
 simp only[oY];unfold EO;simp (disch:=omega) only[bj,aU,au,ay,ag,bE,cj,da,Int.reduceAdd,dJ,eG,fD,bJ,fJ,gl,a,b,d,e,g]
def aj5(x:(U.sl aG).D)(k k':Int)(hk:0<=k)(a:k'<=1000000000000000)(hm:U.cP mt (U.sl aG) x k k'):L_ (x,k,())=some (k',()):=by rw[l3]at hm;obtain⟨hl,hm⟩:=hm;have h1:=vM (mt:=mt) (t:=aG) x (fun m k i=>oY m x k i) (fun m k=>by simp only[oY,EO];rw[bI (bu _)];rfl) (fun m k j i b hk d hm=>aj4 m k j i x b hl hk d hm) x.length 0 aC k k' (by omega) (by rw[dj];omega) hk a (by simpa using hm);show EN (oY aC) x k=_;unfold EN;simpa using h1
set_option maxHeartbeats 4000000 in
def aj6(m:Nat)(k j:Int)(i:Nat)(x:(U.sl aK).D)(h:i<x.length)(hl:x.length<=1099511627776)(hk:0<=k)(l:j<=1000000000000000)(hm:U.cP mt aK (I aK x i) k j):
  oZ (m+1) x k (i:Int)=oZ m x j ((i:Int)+1):=by
 have n:=U.gm _ hm;simp only[lX,lY,lZ,l0,l1,l2]at hm;obtain⟨_,⟨a,rfl⟩,_,⟨b,rfl⟩,_,⟨d,rfl⟩,_,⟨_,⟨e,rfl⟩,_,⟨g,rfl⟩,rfl⟩,rfl⟩:=hm
 try simp only[da,Int.reduceAdd]at *
 simp only[oZ];unfold ES;simp (disch:=omega) only[bj,aU,au,ay,ag,bE,cj,da,Int.reduceAdd,dJ,eG,fD,bJ,fJ,gl,a,b,d,e,g]
def aj7(x:(U.sl aK).D)(k k':Int)(hk:0<=k)(a:k'<=1000000000000000)(hm:U.cP mt (U.sl aK) x k k'):L' (x,k,())=some (k',()):=by rw[l3]at hm;obtain⟨hl,hm⟩:=hm;have h1:=vM (mt:=mt) (t:=aK) x (fun m k i=>oZ m x k i) (fun m k=>by simp only[oZ,ES];rw[bI (bu _)];rfl) (fun m k j i b hk d hm=>aj6 m k j i x b hl hk d hm) x.length 0 aC k k' (by omega) (by rw[dj];omega) hk a (by simpa using hm);show ER (oZ aC) x k=_;unfold ER;simpa using h1
set_option maxHeartbeats 4000000 in
def aj8(m:Nat)(k j:Int)(i:Nat)(x:(U.sl ar).D)(d:i<x.length)(hl:x.length<=1099511627776)(hk:0<=k)(e:j<=1000000000000000)(hm:U.cP mt ar (I ar x i) k j):
  o0 (m+1) x k (i:Int)=o0 m x j ((i:Int)+1):=by
 have g:=U.gm _ hm;simp only[lX,lY,lZ,l0,l1,l2]at hm;obtain⟨_,⟨a,rfl⟩,_,⟨b,rfl⟩,rfl⟩:=hm
 try simp only[da,Int.reduceAdd]at *
 simp only[o0];unfold EV;simp (disch:=omega) only[bj,aU,au,ay,ag,bE,cj,da,Int.reduceAdd,dJ,eG,fD,bJ,fJ,gl,a,b]
def aj9(x:(U.sl ar).D)(k k':Int)(hk:0<=k)(a:k'<=1000000000000000)(hm:U.cP mt (U.sl ar) x k k'):Ma (x,k,())=some (k',()):=by rw[l3]at hm;obtain⟨hl,hm⟩:=hm;have h1:=vM (mt:=mt) (t:=ar) x (fun m k i=>o0 m x k i) (fun m k=>by simp only[o0,EV];rw[bI (bu _)];rfl) (fun m k j i b hk d hm=>aj8 m k j i x b hl hk d hm) x.length 0 aC k k' (by omega) (by rw[dj];omega) hk a (by simpa using hm);show EU (o0 aC) x k=_;unfold EU;simpa using h1
set_option maxHeartbeats 4000000 in
def aj_(m:Nat)(k j:Int)(i:Nat)(x:(U.sl J).D)(p:i<x.length)(hl:x.length<=1099511627776)(hk:0<=k)(q:j<=1000000000000000)(hm:U.cP mt J (I J x i) k j):
  o1 (m+1) x k (i:Int)=o1 m x j ((i:Int)+1):=by
 have r:=U.gm _ hm;simp only[lX,lY,lZ,l0,l1,l2]at hm;obtain⟨_,⟨b,rfl⟩,_,⟨d,rfl⟩,_,⟨e,rfl⟩,_,⟨g,rfl⟩,_,⟨h,rfl⟩,_,⟨l,rfl⟩,_,a,_,⟨n,rfl⟩,_,⟨o,rfl⟩,rfl⟩:=hm;have s:=U.gm _ a;have h1:=aj9 _ _ _ (by omega) (by omega) a
 try simp only[da,Int.reduceAdd]at *
 simp only[o1];unfold EY;simp (disch:=omega) only[bj,aU,au,ay,ag,bE,cj,da,Int.reduceAdd,dJ,eG,fD,bJ,fJ,gl,b,d,e,g,h,l,n,o,h1]
def aj'(x:(U.sl J).D)(k k':Int)(hk:0<=k)(a:k'<=1000000000000000)(hm:U.cP mt (U.sl J) x k k'):Mb (x,k,())=some (k',()):=by rw[l3]at hm;obtain⟨hl,hm⟩:=hm;have h1:=vM (mt:=mt) (t:=J) x (fun m k i=>o1 m x k i) (fun m k=>by simp only[o1,EY];rw[bI (bu _)];rfl) (fun m k j i b hk d hm=>aj_ m k j i x b hl hk d hm) x.length 0 aC k k' (by omega) (by rw[dj];omega) hk a (by simpa using hm);show EX (o1 aC) x k=_;unfold EX;simpa using h1
set_option maxHeartbeats 4000000 in
def aka(m:Nat)(k j:Int)(i:Nat)(x:(U.sl ak).D)(n:i<x.length)(hl:x.length<=1099511627776)(hk:0<=k)(o:j<=1000000000000000)(hm:U.cP mt ak (I ak x i) k j):
  o2 (m+1) x k (i:Int)=o2 m x j ((i:Int)+1):=by
 have p:=U.gm _ hm;simp only[lX,lY,lZ,l0,l1,l2]at hm;obtain⟨_,⟨_,⟨e,rfl⟩,_,a,rfl⟩,_,⟨g,rfl⟩,_,b,_,d,rfl⟩:=hm;have q:=U.gm _ a;have r:=U.gm _ b;have s:=U.gm _ d;have h1:=aj' _ _ _ (by omega) (by omega) a;have h:=aj5 _ _ _ (by omega) (by omega) b;have l:=aj7 _ _ _ (by omega) (by omega) d
 try simp only[da,Int.reduceAdd]at *
 simp only[o2];unfold E1;simp (disch:=omega) only[bj,aU,au,ay,ag,bE,cj,da,Int.reduceAdd,dJ,eG,fD,bJ,fJ,gl,e,g,h1,h,l]
def akb(x:(U.sl ak).D)(k k':Int)(hk:0<=k)(a:k'<=1000000000000000)(hm:U.cP mt (U.sl ak) x k k'):E2 (x,k,())=some (k',()):=by rw[l3]at hm;obtain⟨hl,hm⟩:=hm;have h1:=vM (mt:=mt) (t:=ak) x (fun m k i=>o2 m x k i) (fun m k=>by simp only[o2,E1];rw[bI (bu _)];rfl) (fun m k j i b hk d hm=>aka m k j i x b hl hk d hm) x.length 0 aC k k' (by omega) (by rw[dj];omega) hk a (by simpa using hm);show E0 (o2 aC) x k=_;unfold E0;simpa using h1
set_option maxHeartbeats 4000000 in
def akc(m:Nat)(k j:Int)(i:Nat)(x:(U.sl bh).D)(l:i<x.length)(hl:x.length<=1099511627776)(hk:0<=k)(n:j<=1000000000000000)(hm:U.cP mt bh (I bh x i) k j):
  o3 (m+1) x k (i:Int)=o3 m x j ((i:Int)+1):=by
 have o:=U.gm _ hm;simp only[lX,lY,lZ,l0,l1,l2]at hm;obtain⟨_,⟨a,rfl⟩,_,⟨b,rfl⟩,_,⟨d,rfl⟩,_,⟨e,rfl⟩,_,⟨_,⟨g,rfl⟩,_,⟨h,rfl⟩,rfl⟩,rfl⟩:=hm
 try simp only[da,Int.reduceAdd]at *
 simp only[o3];unfold E5;simp (disch:=omega) only[bj,aU,au,ay,ag,bE,cj,da,Int.reduceAdd,dJ,eG,fD,bJ,fJ,gl,a,b,d,e,g,h]
def akd(x:(U.sl bh).D)(k k':Int)(hk:0<=k)(a:k'<=1000000000000000)(hm:U.cP mt (U.sl bh) x k k'):E6 (x,k,())=some (k',()):=by rw[l3]at hm;obtain⟨hl,hm⟩:=hm;have h1:=vM (mt:=mt) (t:=bh) x (fun m k i=>o3 m x k i) (fun m k=>by simp only[o3,E5];rw[bI (bu _)];rfl) (fun m k j i b hk d hm=>akc m k j i x b hl hk d hm) x.length 0 aC k k' (by omega) (by rw[dj];omega) hk a (by simpa using hm);show E4 (o3 aC) x k=_;unfold E4;simpa using h1
end Go.LM.i_
