/- Tenants and frames: both sides come to the same; the law. Conditions: each theorem's own hypotheses. -/
import Derived.Test.YtlkbjdmfbadhaaaGreatDoorZVe
import Derived.Test.YtlkbjdmfbadhaaaGreatDoorZVp
set_option linter.unusedVariables false
set_option linter.defProp false
set_option linter.unusedSimpArgs false
namespace Go.LM.i_
def l4(r:aA.D):Bool:=b8 r.1 0 200&&decide ((r.2.1.length:Int)<=400)
def ake(r:aA.D):CG (r,())=some (l4 r,()):=by show Kj r=_;unfold Kj l4;simp only[fY,ag,jd,tv]
def akf(r:aA.D):zV (r,())=some (l4 r,()):=by show Ih r=_;unfold Ih l4;simp only[fZ,ag,jd,tv]
def qW(l:List aG.D)(i:Nat):Bool:=
 b8 (I aG l i).1 1 100000 && !(decide (0<i)&&decide ((I aG l (i-1)).1 >(I aG l i).1))&&b8 (I aG l i).2.1 1 3&&b8 (I aG l i).2.2.1 1 1000000&&b8 (I aG l i).2.2.2.1 1 22&&b8 (I aG l i).2.2.2.2.1 0 200
def fQ(l:List aG.D):Bool:=dv l.length (qW l)&&decide ((l.length:Int)<=20)
def XM(l:List aG.D):CF (l,())=some (fQ l,()):=by
 show CD (sF aC) l=_;unfold CD fQ;by_cases hl:(l.length:Int)<=20
 case neg=>rw[bR (by omega),bW hl,Bool.and_false];rfl
 rw[bW (by omega),bR hl];simp only[ay];refine jN l.length (by omega) (qW l) true (fun m i=>sF m l i) ?_ ?_
 ·intro m _;simp only[sF,CE];rw[bI (bu _)];rfl
 ·intro m i a _ b;simp only[sF,CE,b];rw[bj a,aU a];simp only[au,ag,fY,qW,mK,ik,ay,ma]
  cases i with
  |zero=>simp only[nD,n1,decide_false,ay,au]
  |succ i=>rw[nC a (by omega)];simp only[nE,nZ,decide_true,au,ag,iD]
def XN(l:List aG.D)(hl:l.length<=1048576):zZ (l,())=some (fQ l,()):=by
 show zX (rM aC) l=_;unfold zX fQ;refine jN l.length (by omega) (qW l) _ (fun m i=>rM m l l (l.length:Int) i) ?_ ?_
 ·intro m _;simp only[rM,zY];rw[bI (bu _)];rfl
 ·intro m i a _ b;simp only[rM,zY,b];rw[bj a,aU a];simp only[au,ag,fZ,qW,mK,ik,ay,ma]
  cases i with
  |zero=>simp only[nD,n1,decide_false,ay,au]
  |succ i=>rw[nC a (by omega)];simp only[nE,nZ,decide_true,au,ag,iD]
abbrev cM:Type:=ak.D
def iR(l:List aK.D)(i:Nat):Bool:=
 b8 (I aK l i).1 1 3 && !(decide (0<i)&&decide ((I aK l (i-1)).1>=(I aK l i).1))&&b8 (I aK l i).2.1 1 1000000&&b8 (I aK l i).2.2.1 1 100000&&l4 (I aK l i).2.2.2.1
def er(t:cM):Bool:=dv t.2.2.2.1.length (iR t.2.2.2.1)&&(b8 t.2.1 0 30&&(fQ t.2.2.1&&gC t.1))
def qX{l:List aK.D}(h:dv l.length (iR l)=true):l.length<=3:=by
 have h:=fN.1 h
 have key:∀i,i<l.length->(i:Int)+1<=(I aK l i).1:=by
  intro i
  induction i with
  |zero=>intro g;have:=h 0 g;unfold iR at this;simp only[bs,cL]at this;have:=this.1.1.1.1.1;omega
  |succ i j=>
   intro g;have h1:=j (by omega);have:=h (i+1) g;unfold iR at this;simp only[bs,eT,ji,hH]at this;have d:=this.1.1.1.2;rcases d with d|d
   ·omega
   ·rw[iD]at d;have d:(I aK l i).1<(I aK l (i+1)).1:=Int.not_le.1 d;exact(by intro a b h1 d;omega:∀a b:Int,(i:Int)+1<=a->a<b->((i+1:Nat):Int)+1<=b) _ _ h1 d
 rcases ff 3 l.length with e|e
 ·have k:=key 3 e;have:=h 3 e;unfold iR at this;simp only[bs,cL]at this;have:=this.1.1.1.1.2;omega
 ·exact e
def Ge(t:cM):U.cost ak t=U.cost ad t.1 +(U.cost (.sl aG) t.2.2.1+U.cost (.sl aK) t.2.2.2.1):=by simp only[fs,ft,fw,fx,bE,cz]
def akg(t:cM)(hc:U.cost ak t<=1048576):Kk (t,())=some (er t,()):=by
 rw[Ge]at hc;show CI (qj aC) t=_;unfold CI;rw[af6 _ (Wa (by omega)),XM];simp only[fY,ag]
 have hk:t.2.2.2.1.length<=3->qj aC 0 t=some (dv t.2.2.2.1.length (iR t.2.2.2.1)&&true,()):=by
  intro hl;refine jN t.2.2.2.1.length (by omega) (iR t.2.2.2.1) true (fun m i=>qj m i t) ?_ ?_
  ·intro m _;simp only[qj,CJ];rw[bI (bu _)];rfl
  ·intro m i a _ b;simp only[qj,CJ,b];rw[bj a,aU a];simp only[au,ag,fY];rw[ake];simp only[ag,iR,mK,ik,ay,ma]
   cases i with
   |zero=>simp only[nD,n1,decide_false,ay,au]
   |succ i=>rw[nC a (by omega)];simp only[nE,nZ,decide_true,au,ag,iD]
 unfold er;by_cases hl:t.2.2.2.1.length<=3
 ·rw[hk hl,bW (by omega)];cases gC t.1<;>cases b8 t.2.1 0 30<;>cases fQ t.2.2.1<;>simp
 ·rw[bR (by omega)];have:dv t.2.2.2.1.length (iR t.2.2.2.1)=false:=by rw[<-jG];exact fun h=>hl (qX h)
  rw[this];cases gC t.1<;>cases b8 t.2.1 0 30<;>cases fQ t.2.2.1<;>simp
def akh(t:cM)(hc:U.cost ak t<=1048576):It (t,())=some (er t,()):=by
 rw[Ge]at hc;have h1:=fH (t:=aG) t.2.2.1;have d:=fH (t:=aK) t.2.2.2.1;show AE (r1 aC) t=_;unfold AE er;refine jN t.2.2.2.1.length (by omega) (iR t.2.2.2.1) _ (fun m i=>r1 m t.2.2.2.1 (t.2.2.2.1.length:Int) i t) ?_ ?_
 ·intro m _;simp only[r1,AF];rw[bI (bu _),af7 _ (Wa (by omega)),XN _ (by omega)];simp only[fZ,ag,ay,jd,tv]
 ·intro m i a _ b;simp only[r1,AF,b];rw[bj a,aU a];simp only[au,ag,fZ];rw[akf];simp only[ag,iR,mK,ik,ay,ma]
  cases i with
  |zero=>simp only[nD,n1,decide_false,ay,au]
  |succ i=>rw[nC a (by omega)];simp only[nE,nZ,decide_true,au,ag,iD]
def aki{t:cM}(h:er t=true)(hn:t.2.2.1.length<=1048576)(hs:t.2.2.2.1.length<=1048576):Iw (t,())=some (t,()):=by
 have hv:gC t.1=true:=by unfold er at h;simp only[bs]at h;exact h.2.2.2
 show Iv t=_;unfold Iv;rw[(tx.1 hv).Xr];simp only[ag];rw[bX (by simp;omega),bX (by simp;omega)];rfl
def akj{t:cM}(h:er t=true)(hn:t.2.2.1.length<=1048576)(hs:t.2.2.2.1.length<=1048576):Ln (t,())=some (t,()):=by
 have hv:gC t.1=true:=by unfold er at h;simp only[bs]at h;exact h.2.2.2
 show Lm t=_;unfold Lm;rw[(tx.1 hv).ah0];simp only[ag];rw[bX (by simp;omega),bX (by simp;omega)];rfl
def kz(k:Int):aM.D:=if k=1 then(0,0,([]:List Int),()) else if k=2 then(2,2,[5],()) else if k=3 then(3,2,([]:List Int),()) else(1000,1000,([]:List Int),())
def akk(k:Int):IG (k,())=some (kz k,()):=by
 show IF k=_;unfold IF kz;by_cases h1:k=1
 ·rw[cf h1,bg h1];rfl
 by_cases a:k=2
 ·rw[bO h1,bd h1,cf a,bg a];rfl
 by_cases b:k=3
 ·rw[bO h1,bd h1,bO a,bd a,cf b,bg b];rfl
 ·rw[bO h1,bd h1,bO a,bd a,bO b,bd b];rfl
def akl(k:Int):KH (k,())=some (kz k,()):=by
 show KG k=_;unfold KG kz;by_cases h1:k=1
 ·rw[cf h1,bg h1];rfl
 by_cases a:k=2
 ·rw[bO h1,bd h1,cf a,bg a];rfl
 by_cases b:k=3
 ·rw[bO h1,bd h1,bO a,bd a,cf b,bg b];rfl
 ·rw[bO h1,bd h1,bO a,bd a,bO b,bd b];rfl
def dd(l:List aK.D)(c:Int):Nat:=(l.takeWhile fun s=>decide (s.1<c)).length
def gb(l:List aK.D)(c:Int):Bool:=decide (dd l c<l.length)&&(I aK l (dd l c)).1==c
def tJ(l:List aK.D)(c:Int):dd l c<=l.length:=by unfold dd;exact(List.takeWhile_sublist _).length_le
def Gf{α:Type}(p:α->Bool):∀(l:List α) (i:Nat) (h:i<l.length),i<=(l.takeWhile p).length->(p l[i]=true->i+1<=(l.takeWhile p).length)/\(p l[i]=false->(l.takeWhile p).length=i)
 | [],i,h,_=>by simp at h
 |b::l,0,h,a=>by
  constructor
  ·intro ai;have ai:p b=true:=ai;rw[List.takeWhile_cons,ai];simp
  ·intro ai;have ai:p b=false:=ai;rw[List.takeWhile_cons,ai];simp
 |b::l,i+1,h,a=>by
  by_cases d:p b=true
  ·rw[List.takeWhile_cons,bg d]at a⊢;rw[b2]at a⊢;have h1:=Gf p l i (by rw[b2]at h;omega) (by omega);constructor
   ·intro ai;have:=h1.1 ai;omega
   ·intro ai;have:=h1.2 ai;omega
  ·rw[List.takeWhile_cons,bd d]at a;simp at a
def XO(t:cM)(c:Int)(hl:t.2.2.2.1.length<=1048576):C1 (t,c,())=some ((dd t.2.2.2.1 c:Int),gb t.2.2.2.1 c,()):=by
 have key:∀(r m i:Nat),i+r=t.2.2.2.1.length->i<=dd t.2.2.2.1 c->r<m->u5 m c (i:Int) t=some ((dd t.2.2.2.1 c:Int),gb t.2.2.2.1 c,()):=by
  intro r
  induction r with
  |zero=>
   intro m i h hs hm;obtain⟨m,rfl,_⟩:=fuel (show 0<m by omega);have h1:=tJ t.2.2.2.1 c;have e:dd t.2.2.2.1 c=t.2.2.2.1.length:=by omega
   show u4 (u5 m) c (i:Int) t=_;unfold u4;rw[bI (by omega)];unfold gb;rw[e,bW (by omega)];rfl
  |succ r j=>
   intro m i h hs hm;obtain⟨m,rfl,_⟩:=fuel (show 0<m by omega);have b:i<t.2.2.2.1.length:=by omega
   show u4 (u5 m) c (i:Int) t=_;unfold u4;rw[bj b,aU b];simp only[au,ag];have g:=Gf (fun s:aK.D=>decide (s.1<c)) t.2.2.2.1 i b hs;rw[<-cC (t:=aK) b]at g;by_cases d:(I aK t.2.2.2.1 i).1<c
   ·rw[show decide ((I aK t.2.2.2.1 i).1>=c)=false from bW (Int.not_le.2 d)];simp only[ay];rw[cm (a:=(i:Int)+1) (by omega) (by omega)];exact j m (i+1) (by omega) (g.1 (bR d)) (by omega)
   ·rw[show decide ((I aK t.2.2.2.1 i).1>=c)=true from bR (Int.not_lt.1 d)];simp only[au];have e:dd t.2.2.2.1 c=i:=g.2 (bW d);unfold gb;rw[e,bR b,gI]
 exact key t.2.2.2.1.length aC 0 (by omega) (mc _) (by rw[dj];omega)
def XP(t:cM)(c:Int)(hl:t.2.2.2.1.length<=1048576):AQ (t,c,())=some ((dd t.2.2.2.1 c:Int),gb t.2.2.2.1 c,()):=by
 have key:∀(r m i:Nat),i+r=t.2.2.2.1.length->i<=dd t.2.2.2.1 c->r<m->uO m t c (i:Int)=some ((dd t.2.2.2.1 c:Int),gb t.2.2.2.1 c,()):=by
  intro r
  induction r with
  |zero=>
   intro m i h hs hm;obtain⟨m,rfl,_⟩:=fuel (show 0<m by omega);have h1:=tJ t.2.2.2.1 c;have e:dd t.2.2.2.1 c=i:=by omega
   show uN (uO m) t c (i:Int)=_;unfold uN;rw[bI (by omega)];unfold gb;rw[e,bW (by omega)];rfl
  |succ r j=>
   intro m i h hs hm;obtain⟨m,rfl,_⟩:=fuel (show 0<m by omega);have b:i<t.2.2.2.1.length:=by omega
   show uN (uO m) t c (i:Int)=_;unfold uN;rw[bj b,aU b];simp only[au,ag];have g:=Gf (fun s:aK.D=>decide (s.1<c)) t.2.2.2.1 i b hs;rw[<-cC (t:=aK) b]at g;by_cases d:(I aK t.2.2.2.1 i).1<c
   ·rw[bR d];simp only[au];rw[cm (a:=(i:Int)+1) (by omega) (by omega)];exact j m (i+1) (by omega) (g.1 (bR d)) (by omega)
   ·rw[bW d];simp only[ay];have e:dd t.2.2.2.1 c=i:=g.2 (bW d);unfold gb;rw[e,bR b,gI]
 exact key t.2.2.2.1.length aC 0 (by omega) (mc _) (by rw[dj];omega)
def fA(l:List aK.D)(c:Int):aK.D:=cond (gb l c) (I aK l (dd l c)) (0,0,0,(0,([]:af),()),())
def tK{l:List aK.D}{c:Int}(h:gb l c=true):dd l c<l.length:=by unfold gb at h;rw[bs,ei]at h;exact h.1
def Ob(t:cM)(c:Int)(hl:t.2.2.2.1.length<=1048576):wW (t,c,())=some (fA t.2.2.2.1 c,()):=by
 show Iz t c=_;unfold Iz fA;rw[XP t c hl];simp only[ag]
 cases h:gb t.2.2.2.1 c with
 |false=>rfl
 |true=>rw[aU (tK h)];rfl
def XQ(t:cM)(c:Int)(hl:t.2.2.2.1.length<=1048576):C2 (t,c,())=some (fA t.2.2.2.1 c,()):=by
 show KD t c=_;unfold KD fA;rw[XO t c hl];simp only[ag]
 cases h:gb t.2.2.2.1 c with
 |false=>rfl
 |true=>rw[aU (tK h)];rfl
def e6(a b:Int):Int:=if b>a then b else a
def gF(f:Nat->Int)(a:Int):Nat->Int
 |0=>a
 |n+1=>e6 (gF f a n) (f n)
def akm{x a b:Int}:x<e6 a b↔x<a\/x<b:=by unfold e6;split<;>omega
def Oc{x a:Int}{f:Nat->Int}:∀n,x<gF f a n↔x<a\/∃i,i<n/\x<f i
 |0=>by simp[gF]
 |n+1=>by
  rw[gF,akm,Oc n];constructor
  ·rintro ((h|⟨i,b,h⟩)|h)
   ·exact .inl h
   ·exact .inr ⟨i,by omega,h⟩
   ·exact .inr ⟨n,by omega,h⟩
  ·rintro (h|⟨i,b,h⟩)
   ·exact .inl (.inl h)
   ·by_cases e:i=n
    ·subst e;exact .inr h
    ·exact .inl (.inr ⟨i,by omega,h⟩)
def jT(l:List aG.D)(i:Nat):Int:=(I aG l i).1
def kA(l:List aK.D)(i:Nat):Int:=(I aK l i).2.2.1
def l5(t:cM):Int:=gF (kA t.2.2.2.1) (gF (jT t.2.2.1) 0 t.2.2.1.length) t.2.2.2.1.length
def XR(m:Nat)(a b t):(lF (m+1)).k3 a b t=C3 (lF m) a b t:=rfl
def XS(m:Nat)(a b t):(lF (m+1)).cE a b t=C4 (lF m) a b t:=rfl
def akn(t:cM)(hn:t.2.2.1.length<=1048576)(hl:t.2.2.2.1.length<=1048576):KE (t,())=some (l5 t,()):=by
 have cE:∀(r m i:Nat) (a:Int),i+r=t.2.2.2.1.length->r<m->(lF m).cE (gF (kA t.2.2.2.1) a i) (i:Int) t=some (gF (kA t.2.2.2.1) a t.2.2.2.1.length,()):=by
  intro r
  induction r with
  |zero=>intro m i a d hm;obtain⟨m,rfl,_⟩:=fuel (show 0<m by omega);rw[XS];unfold C4;rw[bI (by omega),show i=t.2.2.2.1.length by omega];rfl
  |succ r e=>
   intro m i a d hm;obtain⟨m,rfl,_⟩:=fuel (show 0<m by omega);have b:i<t.2.2.2.1.length:=by omega
   rw[XS];unfold C4;rw[bj b,aU b,cm (a:=(i:Int)+1) (by omega) (by omega)];simp only[au,ag];have:=e m (i+1) a (by omega) (by omega);rw[gF,e6]at this;show cond (decide (kA t.2.2.2.1 i>gF (kA t.2.2.2.1) a i)) ((lF m).cE (kA t.2.2.2.1 i) ((i:Int)+1) t) ((lF m).cE (gF (kA t.2.2.2.1) a i) ((i:Int)+1) t)=_;by_cases h:kA t.2.2.2.1 i>gF (kA t.2.2.2.1) a i
   ·rw[bg h]at this;rw[bR h];exact this
   ·rw[bd h]at this;rw[bW h];exact this
 have k3:∀(r m i:Nat),i+r=t.2.2.1.length->r+t.2.2.2.1.length+1<m->(lF m).k3 (gF (jT t.2.2.1) 0 i) (i:Int) t=some (l5 t,()):=by
  intro r
  induction r with
  |zero=>intro m i d hm;obtain⟨m,rfl,_⟩:=fuel (show 0<m by omega);rw[XR];unfold C3;rw[bI (by omega),show i=t.2.2.1.length by omega];exact cE t.2.2.2.1.length m 0 _ (by omega) (by omega)
  |succ r e=>
   intro m i d hm;obtain⟨m,rfl,_⟩:=fuel (show 0<m by omega);have b:i<t.2.2.1.length:=by omega
   rw[XR];unfold C3;rw[bj b,aU b,cm (a:=(i:Int)+1) (by omega) (by omega)];simp only[au,ag];have:=e m (i+1) (by omega) (by omega);rw[gF,e6]at this;show cond (decide (jT t.2.2.1 i>gF (jT t.2.2.1) 0 i)) ((lF m).k3 (jT t.2.2.1 i) ((i:Int)+1) t) ((lF m).k3 (gF (jT t.2.2.1) 0 i) ((i:Int)+1) t)=_;by_cases h:jT t.2.2.1 i>gF (jT t.2.2.1) 0 i
   ·rw[bg h]at this;rw[bR h];exact this
   ·rw[bd h]at this;rw[bW h];exact this
 exact k3 t.2.2.1.length aC 0 (by omega) (by rw[dj];omega)
def XT(m:Nat)(a b d e f):(p5 (m+1)).k2 a b d e f=AN (p5 m) a b d e f:=rfl
def XU(m:Nat)(a b d e):(p5 (m+1)).cE a b d e=AO (p5 m) a b d e:=rfl
def ako(t:cM)(x:Int)(o:0<=x)(hn:t.2.2.1.length<=1048576)(hl:t.2.2.2.1.length<=1048576):Iy (t,x,())=some (decide (x<l5 t),()):=by
 have g:x<l5 t↔(∃i,i<t.2.2.1.length/\x<jT t.2.2.1 i)\/∃i,i<t.2.2.2.1.length/\x<kA t.2.2.2.1 i:=by
  unfold l5;rw[Oc,Oc];constructor
  ·rintro ((h|h)|h)
   ·omega
   ·exact .inl h
   ·exact .inr h
  ·rintro (h|h)
   ·exact .inl (.inr h)
   ·exact .inr h
 have cE:∀(r m i:Nat),i+r=t.2.2.2.1.length->r<m->(∀j,j<t.2.2.1.length->¬x<jT t.2.2.1 j)->(∀j,j<i->¬x<kA t.2.2.2.1 j)->(p5 m).cE x t.2.2.2.1 (t.2.2.2.1.length:Int) (i:Int)=some (decide (x<l5 t),()):=by
  intro r
  induction r with
  |zero=>
   intro m i k hm h1 l;obtain⟨m,rfl,_⟩:=fuel (show 0<m by omega);rw[XU];unfold AO
   rw[bI (by omega),bW (fun h=>by
    rcases g.1 h with⟨j,b,h⟩|⟨j,b,h⟩
    ·exact h1 j b h
    ·exact l j (by omega) h)]
   rfl
  |succ r n=>
   intro m i k hm h1 l;obtain⟨m,rfl,_⟩:=fuel (show 0<m by omega);have d:i<t.2.2.2.1.length:=by omega
   rw[XU];unfold AO;rw[bj d,aU d,cm (a:=(i:Int)+1) (by omega) (by omega)];simp only[au,ag];show cond (decide (x<kA t.2.2.2.1 i)) _ _=_;by_cases h:x<kA t.2.2.2.1 i
   ·rw[bR h,bR (g.2 (.inr ⟨i,d,h⟩))];rfl
   ·rw[bW h]
    exact n m (i+1) (by omega) (by omega) h1 fun j b=>by
     by_cases e:j=i
     ·subst e;exact h
     ·exact l j (by omega)
 have k2:∀(r m i:Nat),i+r=t.2.2.1.length->r+t.2.2.2.1.length+1<m->(∀j,j<i->¬x<jT t.2.2.1 j)->(p5 m).k2 t x t.2.2.1 (t.2.2.1.length:Int) (i:Int)=some (decide (x<l5 t),()):=by
  intro r
  induction r with
  |zero=>intro m i k hm h1;obtain⟨m,rfl,_⟩:=fuel (show 0<m by omega);rw[XT];unfold AN;rw[bI (by omega)];exact cE t.2.2.2.1.length m 0 (by omega) (by omega) (fun j b=>h1 j (by omega)) (fun j b=>by omega)
  |succ r n=>
   intro m i k hm h1;obtain⟨m,rfl,_⟩:=fuel (show 0<m by omega);have d:i<t.2.2.1.length:=by omega
   rw[XT];unfold AN;rw[bj d,aU d,cm (a:=(i:Int)+1) (by omega) (by omega)];simp only[au,ag];show cond (decide (x<jT t.2.2.1 i)) _ _=_;by_cases h:x<jT t.2.2.1 i
   ·rw[bR h,bR (g.2 (.inl ⟨i,d,h⟩))];rfl
   ·rw[bW h]
    exact n m (i+1) (by omega) (by omega) fun j b=>by
     by_cases e:j=i
     ·subst e;exact h
     ·exact h1 j (by omega)
 exact k2 t.2.2.1.length aC 0 (by omega) (by rw[dj];omega) (fun j b=>by omega)
def iw(a:Int):Bool:=a==4||(a==11||(a==13||(a==14||(a==17||(a==18||(a==20||a==21))))))
def Gg(a:Int):xx (a,())=some (iw a,()):=by show KF a=_;unfold KF iw;cases a==4<;>cases a==11<;>cases a==13<;>cases a==14<;>cases a==17<;>cases a==18<;>cases a==20<;>cases a==21<;>rfl
def Od(a:Int):wX (a,())=some (iw a,()):=Gg a
def akp{a:Int}(h:iw a=true):b8 a 1 22=true:=by unfold iw at h;simp only[kI,hI]at h;rw[cL];omega
def kB(a:Int):Int:=cond (b8 a 1 22) (cond (iw a) 1 3) 0
def akq(a:Int):IC (a,())=some (kB a,()):=by show IB a=_;unfold IB kB;rw[fZ,Od];simp only[ag];cases b8 a 1 22<;>cases iw a<;>rfl
def akr(a:Int):KJ (a,())=some (kB a,()):=by
 show KI a=_;unfold KI kB;rw[fY,Gg];simp only[ag]
 cases h:iw a with
 |true=>rw[akp h];rfl
 |false=>cases b8 a 1 22<;>rfl
def Oe(a:Int):0<=kB a/\kB a<=3:=by unfold kB;cases b8 a 1 22<;>cases iw a<;>simp
def kd(n k:Int):Int×Bool:=if kB k=0\/kB k>n then(n,false) else(n-kB k,true)
def aks(n k:Int)(hn:n<=30):IE (n,k,())=some ((kd n k).1,(kd n k).2,()):=by
 show ID n k=_;unfold ID kd;rw[akq];simp only[ag];have hc:=Oe k;by_cases a:kB k=0
 ·rw[cf a,bg (.inl a)];rfl
 rw[bO a];by_cases h1:kB k>n
 ·rw[bR h1,bg (.inr h1)];rfl
 ·rw[bW h1,bd (by omega),cm (by omega) (by omega)];rfl
def akt(n k:Int)(hn:n<=30):KL (n,k,())=some ((kd n k).1,(kd n k).2,()):=by
 show KK n k=_;unfold KK kd;rw[akr];simp only[ag];have hc:=Oe k;by_cases a:kB k=0
 ·rw[cf a,bg (.inl a)];rfl
 rw[bO a];by_cases h1:kB k>n
 ·rw[bR h1,bg (.inr h1)];rfl
 ·rw[bW h1,bd (by omega),cm (by omega) (by omega)];rfl
def ll(n:aG.D):Int:=n.1
def mR(n:aG.D):Int:=n.2.1
def mS(n:aG.D):Int:=n.2.2.1
def mT(n:aG.D):Int:=n.2.2.2.1
def nP(n:aG.D):Int:=n.2.2.2.2.1
def Of(l:List aG.D)(i:Nat):aO:=fy (ll (I aG l i))++[46]++fy (mR (I aG l i))++[46]++fy (mS (I aG l i))++[46]++fy (mT (I aG l i))++[46]++fy (nP (I aG l i))
structure XV(n:aG.D):Prop where
 a:1<=ll n/\ll n<=100000
 b:1<=mR n/\mR n<=3
 c:1<=mS n/\mS n<=1000000
 d:1<=mT n/\mT n<=22
 e:0<=nP n/\nP n<=200
def Gh{l:List aG.D}(h:fQ l=true){i:Nat}(a:i<l.length):XV (I aG l i):=by unfold fQ at h;rw[bs]at h;have h1:=fN.1 h.1 i a;unfold qW at h1;simp only[bs,cL]at h1;exact⟨h1.1.1.1.1.1,h1.1.1.1.2,h1.1.1.2,h1.1.2,h1.2⟩
def aku{l:List aG.D}(h:fQ l=true){i:Nat}(a:i<l.length):(Of l i).length<=104:=by have hr:=Gh h a;have b:=(e_ (ll (I aG l i)) (by have:=hr.a;omega)).1;have d:=(e_ (mR (I aG l i)) (by have:=hr.b;omega)).1;have e:=(e_ (mS (I aG l i)) (by have:=hr.c;omega)).1;have g:=(e_ (mT (I aG l i)) (by have:=hr.d;omega)).1;have j:=(e_ (nP (I aG l i)) (by have:=hr.e;omega)).1;unfold Of;simp only[bZ,b2,cU];omega
def pn(l:List aG.D)(i:Nat)(o:aO):aO:=o++fy (ll (I aG l i))++[46]++fy (mR (I aG l i))++[46]++fy (mS (I aG l i))++[46]++fy (mT (I aG l i))++[46]++fy (nP (I aG l i))
def jU(l:List aG.D)(a:Nat):Nat->Nat->aO->aO
 |0,_,o=>o
 |r+1,i,o=>if i<l.length/\i<a+6 then jU l a r (i+1) (pn l i (if a<i then o++[32] else o)) else o
def yD{l:List aG.D}(h:fQ l=true){i:Nat}(a:i<l.length)(o:aO):(pn l i o).length<=o.length+104:=by have:=aku h a;unfold Of at this;unfold pn;simp only[bZ,b2,cU]at this⊢;omega
def XW(m:Nat)(a b d e):(np (m+1)).a_ a b d e=C8 (np m) a b d e:=rfl
def akv(m:Nat)(a b d e):(np (m+1)).fk a b d e=KM (np m) a b d e:=rfl
def XX{l:List aG.D}(h:fQ l=true){i:Nat}(b:i<l.length)(m:Nat)(a:Int)(o:aO)(n:o.length<=10000)(p:i<100):(np (m+1)).fk l a o (i:Int)=(np m).a_ l a (pn l i o) ((i:Int)+1):=by have hr:=Gh h b;have d:=e_ (ll (I aG l i)) (by have:=hr.a;omega);have e:=e_ (mR (I aG l i)) (by have:=hr.b;omega);have g:=e_ (mS (I aG l i)) (by have:=hr.c;omega);have j:=e_ (mT (I aG l i)) (by have:=hr.d;omega);have k:=e_ (nP (I aG l i)) (by have:=hr.e;omega);rw[akv];unfold KM;rw[aU b];simp only[ag];rw[show eB ((I aG l i).1,())=some (fy (ll (I aG l i)),()) from d.2.1,show eB ((I aG l i).2.1,())=some (fy (mR (I aG l i)),()) from e.2.1,show eB ((I aG l i).2.2.1,())=some (fy (mS (I aG l i)),()) from g.2.1,show eB ((I aG l i).2.2.2.1,())=some (fy (mT (I aG l i)),()) from j.2.1,show eB ((I aG l i).2.2.2.2.1,())=some (fy (nP (I aG l i)),()) from k.2.1];simp only[ag];have q:=d.1;have r:=e.1;have s:=g.1;have u:=j.1;have v:=k.1;rw[bX (by(try simp only[bZ,b2,cU]);omega),bX (by(try simp only[bZ,b2,cU]);omega),bX (by(try simp only[bZ,b2,cU]);omega),bX (by(try simp only[bZ,b2,cU]);omega),bX (by(try simp only[bZ,b2,cU]);omega),bX (by(try simp only[bZ,b2,cU]);omega),bX (by(try simp only[bZ,b2,cU]);omega),bX (by(try simp only[bZ,b2,cU]);omega),bX (by(try simp only[bZ,b2,cU]);omega),cm (by omega) (by omega)];rfl
def akw{l:List aG.D}(h:fQ l=true)(hl:l.length<=20)(a:Nat)(p:a<=1000000):∀(r m i:Nat) (o:aO),a<=i->i+r=a+6->2*r<m->o.length+105*r<=1000->(np m).a_ l (a:Int) o (i:Int)=some (jU l a r i o,()):=by
 intro r
 induction r with
 |zero=>intro m i o g j hm k;obtain⟨m,rfl,_⟩:=fuel (show 0<m by omega);rw[XW];unfold C8;rw[cm (a:=(a:Int)+6) (by omega) (by omega),bW (show ¬(i:Int)<(a:Int)+6 by omega)];cases decide ((i:Int)<(l.length:Int))<;>rfl
 |succ r d=>
  intro m i o g j hm k;obtain⟨m,rfl,_⟩:=fuel (show 0<m by omega);obtain⟨m,rfl,_⟩:=fuel (show 0<m by omega);rw[XW];unfold C8;rw[cm (a:=(a:Int)+6) (by omega) (by omega),bR (show(i:Int)<(a:Int)+6 by omega),jU];by_cases b:i<l.length
  ·rw[bj b,bg ⟨b,by omega⟩];simp only[au];by_cases e:a<i
   ·rw[bR (show(i:Int) >(a:Int) by omega),bg e,bX (by simp only[b2,cU];omega)];simp only[au];have ai:=yD h b (o++[32]);rw[bZ,b2,cU]at ai;rw[XX h b m _ _ (by rw[bZ,b2,cU];omega) (by omega)];exact d m (i+1) _ (by omega) (by omega) (by omega) (by omega)
   ·rw[bW (show ¬(i:Int) >(a:Int) by omega),bd e];simp only[ay];have ai:=yD h b o;rw[XX h b m _ _ (by omega) (by omega)];exact d m (i+1) _ (by omega) (by omega) (by omega) (by omega)
  ·rw[bI (Nat.not_lt.1 b),bd (fun n=>b n.1)];rfl
def XY(m:Nat)(a b d e):(lA (m+1)).a_ a b d e=AU (lA m) a b d e:=rfl
def XZ(m:Nat)(a b d e f g h):(lA (m+1)).cn a b d e f g h=AV (lA m) a b d e f g h:=rfl
def yE{l:List aG.D}(m:Nat)(a:Int)(i:Int)(xs:List Int)(j:Nat)(b:j<xs.length)(h:xs.length=5)(o:aO)(k:o.length<=10000)(v:Int)(hv:I (U.int .i64) xs j=v)(aa : -1000000000000<v/\v<1000000000000):
  (lA (m+1)).cn l a o i (xs.length:Int) (j:Int) xs=(lA m).cn l a ((if 0<j then o++[46] else o)++fy v) i (xs.length:Int) ((j+1:Nat):Int) xs:=by
 have d:=e_ v aa;rw[XZ];unfold AV;rw[bj b,aU b,cm (a:=(j:Int)+1) (by omega) (by omega)];simp only[au,ag,bE];rw[hv,d.2.2];simp only[ag];have e:=d.1;by_cases g:0<j
 ·rw[bR (show(j:Int)>0 by omega),bg g,bX (by simp only[b2,cU];omega),bX (by simp only[bZ,b2,cU];omega)];rfl
 ·rw[bW (show ¬(j:Int)>0 by omega),bd g];simp only[ay];rw[bX (by omega)];rfl
def X0(n:aG.D):List Int:=[ll n,mR n,mS n,mT n,nP n]
def X1{l:List aG.D}(h:fQ l=true){i:Nat}(b:i<l.length)(m:Nat)(a:Int)(o:aO)(d:o.length<=1000)(e:i<100):(lA (m+6)).cn l a o (i:Int) (5:Int) 0 (X0 (I aG l i))=(lA m).a_ l a (pn l i o) ((i:Int)+1):=by have hr:=Gh h b;have g:=(e_ (ll (I aG l i)) (by have:=hr.a;omega)).1;have j:=(e_ (mR (I aG l i)) (by have:=hr.b;omega)).1;have k:=(e_ (mS (I aG l i)) (by have:=hr.c;omega)).1;have n:=(e_ (mT (I aG l i)) (by have:=hr.d;omega)).1;rw[show(5:Int)=((X0 (I aG l i)).length:Int) from rfl,show(0:Int)=((0:Nat):Int) from rfl];rw[yE (m+5) a i _ 0 (by show 0<5;omega) rfl o (by omega) (ll (I aG l i)) rfl (by have:=hr.a;omega)];rw[bd (by omega)];rw[yE (m+4) a i _ 1 (by show 1<5;omega) rfl _ (by simp only[bZ];omega) (mR (I aG l i)) rfl (by have:=hr.b;omega)];rw[bg (by omega)];rw[yE (m+3) a i _ 2 (by show 2<5;omega) rfl _ (by simp only[bZ,b2,cU];omega) (mS (I aG l i)) rfl (by have:=hr.c;omega)];rw[bg (by omega)];rw[yE (m+2) a i _ 3 (by show 3<5;omega) rfl _ (by simp only[bZ,b2,cU];omega) (mT (I aG l i)) rfl (by have:=hr.d;omega)];rw[bg (by omega)];rw[yE (m+1) a i _ 4 (by show 4<5;omega) rfl _ (by simp only[bZ,b2,cU];omega) (nP (I aG l i)) rfl (by have:=hr.e;omega)];rw[bg (by omega)];rw[XZ];unfold AV;rw[bI (by show 5<=5;omega)];simp only[ay];rw[cm (by omega) (by omega)];rfl
def akx{l:List aG.D}(h:fQ l=true)(hl:l.length<=20)(a:Nat)(q:a<=1000000):∀(r m i:Nat) (o:aO),a<=i->i+r=a+6->7*r<m->o.length+105*r<=1000->(lA m).a_ l (a:Int) o (i:Int)=some (jU l a r i o,()):=by
 intro r
 induction r with
 |zero=>intro m i o g j hm n;obtain⟨m,rfl,_⟩:=fuel (show 0<m by omega);rw[XY];unfold AU;rw[cm (a:=(a:Int)+6) (by omega) (by omega),bW (show ¬(i:Int)<(a:Int)+6 by omega)];cases decide ((i:Int)<(l.length:Int))<;>rfl
 |succ r d=>
  intro m i o g j hm n;obtain⟨m,rfl⟩:∃k,m=k+7:=⟨m-7,by omega⟩
  rw[XY];unfold AU;rw[cm (a:=(a:Int)+6) (by omega) (by omega),bR (show(i:Int)<(a:Int)+6 by omega),jU];by_cases b:i<l.length
  ·rw[bj b,bg ⟨b,by omega⟩,aU b];simp only[au,ag];by_cases e:a<i
   ·rw[bR (show(i:Int) >(a:Int) by omega),bg e,bX (by simp only[b2,cU];omega)];simp only[au];have ai:=yD h b (o++[32]);rw[bZ,b2,cU]at ai;have:=X1 h b m (a:Int) (o++[32]) (by rw[bZ,b2,cU];omega) (by omega);refine Eq.trans this ?_;exact d m (i+1) _ (by omega) (by omega) (by omega) (by omega)
   ·rw[bW (show ¬(i:Int) >(a:Int) by omega),bd e];simp only[ay];have ai:=yD h b o;refine Eq.trans (X1 h b m (a:Int) o (by omega) (by omega)) ?_;exact d m (i+1) _ (by omega) (by omega) (by omega) (by omega)
  ·rw[bI (Nat.not_lt.1 b),bd (fun p=>b p.1)];rfl
def tL{l:List aG.D}(h:fQ l=true):l.length<=20:=by unfold fQ at h;rw[bs,ei]at h;omega
def aky{l:List aG.D}(h:fQ l=true)(a:Nat)(b:a<=1000000):KN (l,(a:Int),())=some (jU l a 6 a [],())/\IJ (l,(a:Int),())=some (jU l a 6 a [],()):=by
 have hl:=tL h;constructor
 ·show C7 (np aC) l (a:Int)=_;unfold C7;rw[XM,h,bW (show ¬(a:Int)<0 by omega)];exact akw h hl a b 6 aC a [] (bu _) rfl (by rw[dj];omega) (by simp)
 ·show AT (lA aC) l (a:Int)=_;unfold AT;rw[XN _ (by omega),h,bW (show ¬(a:Int)<0 by omega)];exact akx h hl a b 6 aC a [] (bu _) rfl (by rw[dj];omega) (by simp)
def qY(t:cM)(x:aL.D):cM:=(t.1,(kd t.2.1 (aF x)).1,t.2.2.1,t.2.2.2.1,())
def qZ(t:cM)(x:aL.D):Bool:=(kd t.2.1 (aF x)).2
inductive h7 (t:cM) (c:Int) (x:aL.D):cM->aA.D->Prop
 |bad (h:eJ x=false):h7 t c x t (22,[],())
 |yF (h:eJ x=true) (hs:qZ t x=false):h7 t c x t (11,[],())
 |perm (h:eJ x=true) (hs:qZ t x=true) (hk:aF x=21\/aF x=22) (hc:c≠1):h7 t c x (qY t x) (1,[],())
 |neg (h:eJ x=true) (hs:qZ t x=true) (hk:aF x=21) (hc:c=1) (hn:bM x<0):h7 t c x (qY t x) (22,[],())
 |told (h:eJ x=true) (hs:qZ t x=true) (hk:aF x=21) (hc:c=1) (n:Nat) (hn:bM x=n):h7 t c x (qY t x) (0,jU t.2.2.1 n 6 n [],())
 |yG (h:eJ x=true) (hs:qZ t x=true) (hk:aF x=22) (hc:c=1):h7 t c x (t.1,(kd t.2.1 (aF x)).1,[],t.2.2.2.1,()) (0,[],())
 |full (h:eJ x=true) (hs:qZ t x=true) (hk:aF x<=20) (ht:iw (aF x)=false) (hl:t.2.2.1.length=20):h7 t c x (qY t x) (28,[],())
 |yH (h:eJ x=true) (hs:qZ t x=true) (hk:aF x<=20) (ht:iw (aF x)=true\/t.2.2.1.length<20) (w:ad.D) (k:Int) (s:aO) (hr:vH t.1 (kz c) x w k s):h7 t c x (w,(kd t.2.1 (aF x)).1,t.2.2.1,t.2.2.2.1,()) (k,s,())
def akz(c:Int):dB (kz c)=true:=by
 unfold kz;split
 ·rfl
 split
 ·rfl
 split
 ·rfl
 ·rfl
def akA(c:Int):((kz c).1 != 0)=decide (c≠1):=by
 unfold kz;by_cases h:c=1
 ·rw[bg h,bW (fun k=>k h)];rfl
 rw[bd h,bR h];split
 ·rfl
 split
 ·rfl
 ·rfl
def iS{t:cM}(h:er t=true):dv t.2.2.2.1.length (iR t.2.2.2.1)=true/\(0<=t.2.1/\t.2.1<=30)/\fQ t.2.2.1=true/\gC t.1=true:=by unfold er at h;simp only[bs]at h;exact⟨h.1,cL.1 h.2.1,h.2.2.1,h.2.2.2⟩
def akB(t:cM)(c:Int)(x:aL.D)(h:er t=true):∃l r,DR (t,c,x,())=some (l,r,())/\BP (t,c,x,())=some (r,l,())/\h7 t c x l r:=by
 obtain⟨L,u,v,D⟩:=iS h;have M:=tL v;obtain⟨q,E,_⟩:=iK 4;have S:DR (t,c,x,())=DQ (nu aC) t c x:=rfl;have F:BP (t,c,x,())=BO (kr aC) t c x:=rfl;rw[S,F];unfold DQ BO;rw[akl,akk,vt,x7,aks _ _ u.2,akt _ _ u.2,E];simp only[ag]
 cases i:eJ x with
 |false=>exact⟨_,_,rfl,rfl,.bad i⟩
 |true=>
 simp only[bJ,ay];have y:=qL.1 i
 cases hs:qZ t x with
 |false=>rw[show(kd t.2.1 x.1).2=false from hs];exact⟨_,_,rfl,rfl,.yF i hs⟩
 |true=>
 rw[show(kd t.2.1 x.1).2=true from hs,akA];simp only[bJ,ay];have hk:=y.cX;have hn:=y.n;by_cases g:(aF x)=21
 ·rw[cf (show x.1=21 from g)];simp only[au];by_cases h1:c=1
  case neg=>rw[bR h1];exact⟨_,_,rfl,rfl,.perm i hs (.inl g) h1⟩
  rw[bW (fun k=>k h1)];simp only[ay];have A:∀a b d e,(nu (q+4)).c4 a b d e=vd (nu (q+3)) a b d e:=fun _ _ _ _=>rfl
  have B:∀a b d e,(kr (q+4)).c4 a b d e=uT (kr (q+3)) a b d e:=fun _ _ _ _=>rfl
  have n:∀a b d e,(kr (q+3)).eO a b d e=uU (kr (q+2)) a b d e:=fun _ _ _ _=>rfl
  rw[A,B];unfold vd uT;rw[cf (show x.1=21 from g)];simp only[au];by_cases p:bM x<0
  ·rw[bR (show x.2.2.2.1<0 from p)];exact⟨_,_,rfl,rfl,.neg i hs g h1 p⟩
  ·rw[bW (show ¬x.2.2.2.1<0 from p)];simp only[ay];rw[n];unfold uU;rw[cf (show x.1=21 from g)];simp only[au];obtain⟨m,hm⟩:∃m:Nat,bM x=(m:Int):=⟨(bM x).toNat,by omega⟩
   have hb:=aky v m (by omega);rw[show x.2.2.2.1=(m:Int) from hm,hb.1,hb.2];exact⟨_,_,rfl,rfl,.told i hs g h1 m hm⟩
 rw[bO (show x.1≠21 from g)];simp only[ay];have A:∀a b d e f,(nu (q+4)).c4 a b d e f=vd (nu (q+3)) a b d e f:=fun _ _ _ _ _=>rfl
 have G:∀a b d e f,(nu (q+3)).jr a b d e f=Ld (nu (q+2)) a b d e f:=fun _ _ _ _ _=>rfl
 have B:∀a b d e,(kr (q+4)).c4 a b d e=uT (kr (q+3)) a b d e:=fun _ _ _ _=>rfl
 have n:∀a b d e,(kr (q+3)).eO a b d e=uU (kr (q+2)) a b d e:=fun _ _ _ _=>rfl
 have H:∀a b d e,(kr (q+2)).jr a b d e=JF (kr (q+1)) a b d e:=fun _ _ _ _=>rfl
 by_cases j:(aF x)=22
 ·rw[cf (show x.1=22 from j)];simp only[au];by_cases h1:c=1
  case neg=>rw[bR h1];exact⟨_,_,rfl,rfl,.perm i hs (.inr j) h1⟩
  rw[bW (fun k=>k h1)];simp only[ay];rw[A,B];unfold vd uT;rw[bO (show x.1≠21 from g),cf (show x.1=22 from j)];simp only[ay,au];rw[n];unfold uU;rw[bO (show x.1≠21 from g),cf (show x.1=22 from j)];exact⟨_,_,rfl,rfl,.yG i hs j h1⟩
 rw[bO (show x.1≠22 from j)];simp only[ay];rw[A,B];unfold vd uT;rw[bO (show x.1≠21 from g),bO (show x.1≠22 from j)];simp only[ay];rw[n];unfold uU;rw[bO (show x.1≠21 from g),bO (show x.1≠22 from j)];simp only[ay];rw[Gg,Od];simp only[ag];have z:aF x<=20:=by omega
 have C:iw (aF x)=true\/t.2.2.1.length<20->∃l r,(nu (q+3)).jr (qY t x) x ((0,([]:List J.D),()),0,([]:List aG.D),([]:List aK.D),()) (0,([]:af),()) (kz c)=some (l,r,()) ∧
   (kr (q+2)).jr (qY t x) x (0,([]:af),()) (kz c)=some (r,l,())/\h7 t c x l r:=by
  intro ht;obtain⟨w,k,s,I,K,hr⟩:=ah1 t.1 (kz c) x D (akz c);refine⟨_,_,?_,?_,.yH i hs z ht w k s hr⟩
  ·rw[G];unfold Ld;rw[show s' ((qY t x).1,kz c,x,())=_ from I];rfl
  ·rw[H];unfold JF;rw[show w_ ((qY t x).1,kz c,x,())=_ from K];simp only[ag,m7,zS];rfl
 cases o:iw (aF x)with
 |true=>rw[show iw x.1=true from o];simp only[bJ,ay];exact C (.inl o)
 |false=>
  rw[show iw x.1=false from o];simp only[cR,au];by_cases hl:t.2.2.1.length=20
  ·rw[show decide ((t.2.2.1.length:Int)>=20)=true from bR (by omega),show((t.2.2.1.length:Int)==20)=true from cf (by omega)];exact⟨_,_,rfl,rfl,.full i hs z o hl⟩
  ·rw[show decide ((t.2.2.1.length:Int)>=20)=false from bW (by omega),show((t.2.2.1.length:Int)==20)=false from bO (by omega)];exact C (.inr (by omega))
def h8(l:List aK.D)(c:Int)(s:aK.D):List aK.D:=cond (gb l c) (l.set (dd l c) s) (l.take (dd l c)++[s]++l.drop (dd l c))
def notes(t:cM)(x:aL.D)(r:aA.D):Bool:=decide (t.2.2.1.length<20)&&(eJ x&&((!iw (aF x)||(r.1 != 0)) && !((aF x==22)&&(r.1==0))))
def hp(t:cM)(c bC index:Int)(x:aL.D)(r:aA.D):cM:=cond (notes t x r) (t.1,t.2.1,t.2.2.1++[(index,c,bC,aF x,r.1,())],t.2.2.2.1,()) t
def l6(t:cM)(c bC index:Int)(r:aA.D):cM:=(t.1,t.2.1,t.2.2.1,h8 t.2.2.2.1 c (c,bC,index,r,()),())
def X2(m:Nat)(c bC index:Int)(t:cM)(a:cM)(b r:aA.D)(hl:t.2.2.2.1.length<=3):(oO (m+1)).eO c bC index t a b r=some (l6 t c bC index r,r,true,()):=by
 show Lg (oO m) c bC index t a b r=_;unfold Lg;rw[XO t c (by omega)];simp only[ag];unfold l6 h8;have hle:=tJ t.2.2.2.1 c
 cases h:gb t.2.2.2.1 c with
 |true=>rw[aU (tK h)];simp only[au,ag,bE];rfl
 |false=>simp only[ay];rw[show(0:Int)=((0:Nat):Int) from rfl,iC (mc _) hle];simp only[ag,mb,bE,jH,nK];rw[bX (by simp only[cU,dX];omega)];simp only[au];unfold R1;rw[iC hle (bu _),bX (by simp only[b2,cU,dX];omega)];simp only[ag,au,bE,o_];rw[bX (by simp only[bZ,b2,cU,dX,fS];omega)];rfl
def X3(m:Nat)(c bC index:Int)(t:cM)(a r:aA.D)(hl:t.2.2.2.1.length<=3):(oB (m+1)).eO c bC index t a r=some (r,true,l6 t c bC index r,()):=by
 show JI (oB m) c bC index t a r=_;unfold JI;rw[XP t c (by omega)];simp only[ag];unfold l6 h8;have hle:=tJ t.2.2.2.1 c
 cases h:gb t.2.2.2.1 c with
 |true=>rw[aU (tK h)];simp only[au,ag,bE];rfl
 |false=>simp only[ay,decide_true,au];rw[show cZ t.2.2.2.1.length 0 (dd t.2.2.2.1 c:Int)=_ from iC (mc _) hle,iC hle (bu _)];simp only[ag,mb,bE,nK,o_];rw[bX (by simp only[b2,cU,fS];omega)];simp only[au];unfold Rl;simp only[mb,bE,nK];rw[bX (by simp only[bZ,b2,cU,dX,fS];omega)];simp only[au];rw[<-dW];rfl
def akC(m:Nat)(c bC index:Int)(x:aL.D)(t:cM)(a:cM)(b r:aA.D)(hl:t.2.2.2.1.length<=3):(oO (m+3)).c4 c bC index ((aF x==22)&&(r.1==0)) t x a b r=some (l6 (hp t c bC index x r) c bC index r,r,true,()):=by
 have d:decide (t.2.2.1.length<20)=true->(oO (m+2)).cn c bC index t x a b r=some (l6 (t.1,t.2.1,t.2.2.1++[(index,c,bC,aF x,r.1,())],t.2.2.2.1,()) c bC index r,r,true,()):=by intro h;rw[ei]at h;show Lf (oO (m+1)) c bC index t x a b r=_;unfold Lf;rw[bX (by simp only[b2,cU];omega)];exact X2 m c bC index _ _ _ _ hl
 have e:=X2 (m+1) c bC index t a b r hl;show Le (oO (m+2)) c bC index ((aF x==22)&&(r.1==0)) t x a b r=_;unfold Le;rw[vt,Gg,e,show decide ((t.2.2.1.length:Int)<20)=decide (t.2.2.1.length<20) from by simp only[decide_eq_decide];omega];unfold hp notes;simp only[ag]
 cases h1:decide (t.2.2.1.length<20)with
 |false=>rfl
 |true=>
 rw[d h1]
 cases eJ x with
 |false=>rfl
 |true=>
 show cond (!(iw (aF x))) _ _=_;cases iw (aF x)<;>cases (r.1 != 0)<;>cases ((aF x==22)&&(r.1==0))<;>rfl
def akD(m:Nat)(c bC index:Int)(x:aL.D)(t:cM)(a r:aA.D)(hl:t.2.2.2.1.length<=3):(oB (m+3)).c4 c bC index ((aF x==22)&&(r.1==0)) t x a r=some (r,true,l6 (hp t c bC index x r) c bC index r,()):=by
 have b:decide (t.2.2.1.length<20)=true->(oB (m+2)).cn c bC index t x a r=some (r,true,l6 (t.1,t.2.1,t.2.2.1++[(index,c,bC,aF x,r.1,())],t.2.2.2.1,()) c bC index r,()):=by intro h;rw[ei]at h;show JH (oB (m+1)) c bC index t x a r=_;unfold JH;rw[bX (by simp only[b2,cU];omega)];exact X3 m c bC index _ _ _ hl
 have d:=X3 (m+1) c bC index t a r hl;show JG (oB (m+2)) c bC index ((aF x==22)&&(r.1==0)) t x a r=_;unfold JG;rw[x7,Od,d,show decide ((t.2.2.1.length:Int)<20)=decide (t.2.2.1.length<20) from by simp only[decide_eq_decide];omega];unfold hp notes;simp only[ag]
 cases h1:decide (t.2.2.1.length<20)with
 |false=>rfl
 |true=>
 rw[b h1]
 cases eJ x with
 |false=>rfl
 |true=>
 show cond (!(iw (aF x))) _ _=_;cases iw (aF x)<;>cases (r.1 != 0)<;>cases ((aF x==22)&&(r.1==0))<;>rfl
def l7(t:cM)(c bC index:Int):Bool:=b8 c 1 3&&(b8 bC 1 1000000&&(b8 index 1 100000 && !decide (index<l5 t)))
def h9(t:cM)(c:Int):Int:=(fA t.2.2.2.1 c).2.1
inductive nQ (t:cM) (c bC:Int) (x:aL.D) (index:Int):cM->aA.D->Bool->Prop
 |off (h:l7 t c bC index=false):nQ t c bC x index t (0,[],()) false
 |again (h:l7 t c bC index=true) (hs:bC=h9 t c):nQ t c bC x index t (fA t.2.2.2.1 c).2.2.2.1 false
 |late (h:l7 t c bC index=true) (hs:bC≠h9 t c) (h1:bC≠h9 t c+1):nQ t c bC x index t (0,[],()) false
 |Gi (h:l7 t c bC index=true) (h1:bC=h9 t c+1) (t1:cM) (r:aA.D) (hr:h7 t c x t1 r):nQ t c bC x index (l6 (hp t1 c bC index x r) c bC index r) r true
def h7.Og{t t1:cM}{c:Int}{x:aL.D}{r:aA.D}(h:h7 t c x t1 r):t1.2.2.2.1=t.2.2.2.1:=by cases h<;>rfl
def akE{t:cM}(h:er t=true)(c:Int):0<=h9 t c/\h9 t c<=1000000:=by
 unfold h9 fA
 cases hs:gb t.2.2.2.1 c with
 |false=>exact⟨me 0,by show(0:Int)<=1000000;omega⟩
 |true=>have h1:=fN.1 (iS h).1 _ (tK hs);unfold iR at h1;simp only[bs,cL]at h1;have a:=h1.1.1.2;show 0<=(I aK t.2.2.2.1 (dd t.2.2.2.1 c)).2.1/\(I aK t.2.2.2.1 (dd t.2.2.2.1 c)).2.1<=1000000;exact⟨Int.le_trans (by decide) a.1,a.2⟩
def akF(t:cM)(c bC:Int)(x:aL.D)(index:Int)(h:er t=true):∃g r b,nv (t,c,bC,x,index,())=some (g,r,b,())/\uV (t,c,bC,x,index,())=some (r,b,g,())/\nQ t c bC x index g r b:=by
 obtain⟨k,u,l,v⟩:=iS h;have w:=tL l;have y:=qX k;obtain⟨q,m,_⟩:=iK 3;have S:nv (t,c,bC,x,index,())=DS (oO aC) t c bC x index:=rfl;have n:uV (t,c,bC,x,index,())=BQ (oB aC) t c bC x index:=rfl;rw[S,n];unfold DS BQ;simp only[fY,fZ,ag]
 cases h1:b8 c 1 3 with
 |false=>exact⟨_,_,_,rfl,rfl,.off (by unfold l7;rw[h1];rfl)⟩
 |true=>
 cases d:b8 bC 1 1000000 with
 |false=>exact⟨_,_,_,rfl,rfl,.off (by unfold l7;rw[h1,d];rfl)⟩
 |true=>
 cases a:b8 index 1 100000 with
 |false=>exact⟨_,_,_,rfl,rfl,.off (by unfold l7;rw[h1,d,a];rfl)⟩
 |true=>
 simp only[bJ,ay];have z:=cL.1 a;rw[akn t (by omega) (by omega),ako t index (by omega) (by omega) (by omega)];simp only[ag]
 cases i:decide (index<l5 t)with
 |true=>exact⟨_,_,_,rfl,rfl,.off (by unfold l7;rw[h1,d,a,i];rfl)⟩
 |false=>
 simp only[ay];have hn:l7 t c bC index=true:=by unfold l7;rw[h1,d,a,i];rfl
 rw[XQ t c (by omega),Ob t c (by omega)];simp only[ag];have j:=akE h c;by_cases hs:bC=h9 t c
 ·rw[cf (show bC=(fA t.2.2.2.1 c).2.1 from hs)];exact⟨_,_,_,rfl,rfl,.again hn hs⟩
 rw[bO (show bC≠(fA t.2.2.2.1 c).2.1 from hs)];simp only[ay];rw[show aj ((fA t.2.2.2.1 c).2.1+1)=h9 t c+1 from cm (by have:=j.1;unfold h9 at this;exact Int.le_trans (by decide) (Int.add_le_add_right this 1)) (by have:=j.2;unfold h9 at this;exact Int.le_trans (Int.add_le_add_right this 1) (by decide))];by_cases e:bC=h9 t c+1
 case neg=>rw[cY e];exact⟨_,_,_,rfl,rfl,.late hn hs e⟩
 rw[dA e];simp only[ay];obtain⟨t1,r,o,p,hr⟩:=akB t c x h;rw[o,p,m];simp only[ag];have a:t1.2.2.2.1.length<=3:=by rw[hr.Og];omega
 have s:=akC q c bC index x t1 ((0,([]:List J.D),()),0,([]:List aG.D),([]:List aK.D),()) (0,([]:af),()) r a;have k2:=akD q c bC index x t1 (0,([]:af),()) r a;refine⟨_,_,_,?_,?_,.Gi hn e t1 r hr⟩
 ·refine Eq.trans ?_ s;show cond (aF x==22) _ _=_;cases aF x==22<;>rfl
 ·refine Eq.trans ?_ k2;show cond (aF x==22) _ _=_;cases aF x==22<;>rfl
def akG{l:List aG.D}(h:fQ l=true)(a:Nat):∀(r i:Nat) (o:aO),(jU l a r i o).length<=o.length+105*r:=by
 intro r
 induction r with
 |zero=>intro i o;rw[jU];omega
 |succ r d=>
  intro i o;rw[jU];by_cases b:i<l.length/\i<a+6
  ·rw[bg b];have h1:=d (i+1) (pn l i (if a<i then o++[32] else o));have e:=yD h b.1 (if a<i then o++[32] else o);have g:(if a<i then o++[32] else o).length<=o.length+1:=by split<;>simp
   omega
  ·rw[bd b];omega
def fa(r:aA.D):aO:=r.2.1
def h7.len{t t1:cM}{c:Int}{x:aL.D}{r:aA.D}(ht:er t=true)(h:h7 t c x t1 r):(fa r).length<=1000:=by
 cases h with
 |bad=>simp[fa]
 |yF=>simp[fa]
 |perm=>simp[fa]
 |neg=>simp[fa]
 |told _ _ _ _ n=>have:=akG (iS ht).2.2.1 n 6 n [];show(jU t.2.2.1 n 6 n []).length<=1000;simp only[cU]at this;omega
 |yG=>simp[fa]
 |full=>simp[fa]
 |yH _ _ _ _ w k s hr=>exact cw hr.len (by decide)
def akH(s:aK.D):U.cost aK s=(fa s.2.2.2.1).length:=by simp only[fs,ft,fw,fx,f',bE,cz];rfl
def X4(l:List aG.D):U.cost (.sl aG) l=l.length:=XI (fun a=>by simp only[fs,ft,fw,fx,cz]) l
def X5{l:List aK.D}{c:Int}{s x:aK.D}(h:x∈h8 l c s):x∈l\/x=s:=by
 unfold h8 at h
 cases hs:gb l c with
 |true=>
  rw[hs]at h;rcases List.mem_or_eq_of_mem_set h with h|h
  ·exact .inl h
  ·exact .inr h
 |false=>
  rw[hs]at h;simp only[ay,List.mem_append,kG]at h;rcases h with(h|h)|h
  ·exact .inl (List.mem_of_mem_take h)
  ·exact .inr h
  ·exact .inl (List.mem_of_mem_drop h)
def akI(l:List aK.D)(c:Int)(s:aK.D):(h8 l c s).length<=l.length+1:=by
 unfold h8
 cases gb l c with
 |true=>simp only[au,bL];omega
 |false=>simp only[ay,bZ,dX,fS,jE];have:=tJ l c;omega
def X6(l:List aK.D)(h:∀s,s∈l->(fa s.2.2.2.1).length<=1000):U.cost (.sl aK) l<=l.length*1001:=by
 rw[jy];have:=tF (fun a=>U.cost aK a) 1000 l fun s hs=>by rw[akH];exact h s hs
 omega
def Gj{t:cM}(h:er t=true){s:aK.D}(hs:s∈t.2.2.2.1):l4 s.2.2.2.1=true:=by obtain⟨i,a,rfl⟩:=eC hs;have h1:=fN.1 (iS h).1 i a;unfold iR at h1;rw[bs]at h1;exact h1.2
def Gk{r:aA.D}(h:l4 r=true):(fa r).length<=400:=by unfold l4 at h;rw[bs,ei]at h;have:=h.2;unfold fa;omega
def h7.small{t t1:cM}{c:Int}{x:aL.D}{r:aA.D}(h:h7 t c x t1 r)(hc:U.cost ad t.1<=1048576):U.cost ad t1.1<=1048576/\t1.2.2.1.length<=t.2.2.1.length:=by
 cases h with
 |bad=>exact⟨hc,bu _⟩
 |yF=>exact⟨hc,bu _⟩
 |perm=>exact⟨hc,bu _⟩
 |neg=>exact⟨hc,bu _⟩
 |told=>exact⟨hc,bu _⟩
 |yG=>exact⟨hc,mc _⟩
 |full=>exact⟨hc,bu _⟩
 |yH _ _ _ _ w k s hr=>exact⟨hr.cost hc,bu _⟩
def X7(t:cM)(c bC index:Int)(x:aL.D)(r:aA.D):(hp t c bC index x r).1=t.1/\(hp t c bC index x r).2.1=t.2.1/\(hp t c bC index x r).2.2.2.1=t.2.2.2.1/\((hp t c bC index x r).2.2.1=t.2.2.1\/(hp t c bC index x r).2.2.1=t.2.2.1++[(index,c,bC,aF x,r.1,())]/\t.2.2.1.length<20/\notes t x r=true):=by
 unfold hp
 cases h:notes t x r with
 |false=>exact⟨rfl,rfl,rfl,.inl rfl⟩
 |true=>refine⟨rfl,rfl,rfl,.inr ⟨rfl,?_,rfl⟩⟩;unfold notes at h;rw[bs,ei]at h;exact h.1
def nQ.cost{t a:cM}{c bC index:Int}{x:aL.D}{r:aA.D}{b:Bool}(ht:er t=true)(h:nQ t c bC x index a r b)(hc:U.cost ak t<=1048576):U.cost ak a<=1100000/\(fa r).length<=1000:=by
 obtain⟨g,p,i,q⟩:=iS ht;have u:=qX g;have v:=tL i
 cases h with
 |off=>exact⟨by omega,by simp[fa]⟩
 |again=>
  refine⟨by omega,?_⟩;unfold fA
  cases hs:gb t.2.2.2.1 c with
  |false=>simp[fa]
  |true=>have:=Gk (Gj ht (cI (tK hs)));simp only[au];omega
 |late=>exact⟨by omega,by simp[fa]⟩
 |Gi hn h1 t1 r hr=>
  have hl:=hr.len ht;refine⟨?_,hl⟩;rw[Ge]at hc⊢;obtain⟨j,w,k,l⟩:=X7 t1 c bC index x r;have d:=hr.small (by omega);have hv:U.cost ad (l6 (hp t1 c bC index x r) c bC index r).1<=1048576:=by show U.cost ad (hp t1 c bC index x r).1<=_;rw[j];exact d.1
  have m:U.cost (.sl aG) (l6 (hp t1 c bC index x r) c bC index r).2.2.1<=21:=by
   rw[X4];show(hp t1 c bC index x r).2.2.1.length<=_;rcases l with e|⟨e,y,_⟩
   ·rw[e];have:=d.2;omega
   ·rw[e,bZ,jE];omega
  have hs:U.cost (.sl aK) (l6 (hp t1 c bC index x r) c bC index r).2.2.2.1<=4*1001:=by
   show U.cost (.sl aK) (h8 (hp t1 c bC index x r).2.2.2.1 c (c,bC,index,r,()))<=_;rw[k,hr.Og]
   have n:=X6 (h8 t.2.2.2.1 c (c,bC,index,r,())) fun s hs=>by
    rcases X5 hs with hs|rfl
    ·have:=Gk (Gj ht hs);omega
    ·exact hl
   have z:=akI t.2.2.2.1 c (c,bC,index,r,());have o:(h8 t.2.2.2.1 c (c,bC,index,r,())).length*1001<=4*1001:=c3 _ (by omega);exact cw n o
  exact cw (Nat.add_le_add hv (Nat.add_le_add m hs)) (by decide)
def yI(k:Nat)(hk:1<=k/\k<=12)(x:Int)(d:0<=x)(h:x<(10^k:Nat)):(fy x).length<=k:=by
 have hb:(10^k:Nat)<=10^12:=Nat.pow_le_pow_right (by decide) hk.2;have hc:((10^k:Nat):Int)<=1000000000000:=Int.ofNat_le.2 (cw hb (by decide));have aa:=e_ x (by omega);by_cases a:x=0
 ·subst a;have:fy 0=[48]:=aS (congrArg (Option.map Prod.fst) (aa.2.1.symm.trans (rfl:eB (0,())=some ([48],()))));rw[this];simp;omega
 ·have b:((10^k:Nat):Int)=(10^k:Int):=by simp
  obtain⟨t,ht,hs,_⟩:=Xl k x (by omega) a (by rw[<-b];omega) (by rw[<-b];omega);have e:eB (x,())=some (t,()):=by show C6 (mA aC) x=_;unfold C6;rw[bO a];simp only[ay];rw[hs aC [] (decide (x<0)) (by rw[dj];omega) (by simp;omega),bW (by omega),dn];rfl
  have:fy x=t:=aS (congrArg (Option.map Prod.fst) (aa.2.1.symm.trans e));rw[this];exact ht
def akJ{l:List aG.D}(h:fQ l=true){i:Nat}(a:i<l.length)(o:aO):(pn l i o).length<=o.length+23:=by have hr:=Gh h a;have b:=yI 6 (by omega) (ll (I aG l i)) (by have:=hr.a;omega) (by have:=hr.a;omega);have d:=yI 1 (by omega) (mR (I aG l i)) (by have:=hr.b;omega) (by have:=hr.b;omega);have e:=yI 7 (by omega) (mS (I aG l i)) (by have:=hr.c;omega) (by have:=hr.c;omega);have g:=yI 2 (by omega) (mT (I aG l i)) (by have:=hr.d;omega) (by have:=hr.d;omega);have j:=yI 3 (by omega) (nP (I aG l i)) (by have:=hr.e;omega) (by have:=hr.e;omega);unfold pn;simp only[bZ,b2,cU];omega
def akK{l:List aG.D}(h:fQ l=true)(a:Nat):∀(r i:Nat) (o:aO),(jU l a r i o).length<=o.length+24*r:=by
 intro r
 induction r with
 |zero=>intro i o;rw[jU];omega
 |succ r d=>
  intro i o;rw[jU];by_cases b:i<l.length/\i<a+6
  ·rw[bg b];have h1:=d (i+1) (pn l i (if a<i then o++[32] else o));have e:=akJ h b.1 (if a<i then o++[32] else o);have g:(if a<i then o++[32] else o).length<=o.length+1:=by split<;>simp
   omega
  ·rw[bd b];omega
def Oh(r:aA.D):Int:=r.1
def X8{r:aA.D}:l4 r=true↔(0<=Oh r/\Oh r<=200)/\(fa r).length<=400:=by
 unfold l4;rw[bs,cL,ei];constructor
 ·rintro⟨h1,a⟩;exact⟨h1,by unfold fa;omega⟩
 ·rintro⟨h1,a⟩;exact⟨h1,by unfold fa at a;omega⟩
def h7.res{t t1:cM}{c:Int}{x:aL.D}{r:aA.D}(ht:er t=true)(h:h7 t c x t1 r):l4 r=true:=by
 rw[X8]
 cases h with
 |bad=>exact⟨by decide,by simp[fa]⟩
 |yF=>exact⟨by decide,by simp[fa]⟩
 |perm=>exact⟨by decide,by simp[fa]⟩
 |neg=>exact⟨by decide,by simp[fa]⟩
 |told _ _ _ _ n=>have:=akK (iS ht).2.2.1 n 6 n [];refine⟨⟨me 0,by show(0:Int)<=200;decide⟩,?_⟩;show(jU t.2.2.1 n 6 n []).length<=400;simp only[cU]at this;omega
 |yG=>exact⟨by decide,by simp[fa]⟩
 |full=>exact⟨by decide,by simp[fa]⟩
 |yH _ _ _ _ w k s hr=>exact⟨hr.rg,hr.len⟩
def akL(n k:Int)(h:0<=n):0<=(kd n k).1/\(kd n k).1<=n:=by
 unfold kd;have:=Oe k;split
 ·exact⟨h,me _⟩
 ·exact⟨by simp only;omega,by simp only;omega⟩
def h7.kept{t t1:cM}{c:Int}{x:aL.D}{r:aA.D}(ht:er t=true)(h:h7 t c x t1 r):
  gC t1.1=true/\(0<=t1.2.1/\t1.2.1<=t.2.1)/\(t1.2.2.1=t.2.2.1\/t1.2.2.1=[]/\aF x=22/\Oh r=0):=by
 obtain⟨d,b,e,a⟩:=iS ht;have hs:=akL t.2.1 (aF x) b.1
 cases h with
 |bad=>exact⟨a,⟨b.1,me _⟩,.inl rfl⟩
 |yF=>exact⟨a,⟨b.1,me _⟩,.inl rfl⟩
 |perm=>exact⟨a,hs,.inl rfl⟩
 |neg=>exact⟨a,hs,.inl rfl⟩
 |told=>exact⟨a,hs,.inl rfl⟩
 |yG _ _ hk=>exact⟨a,hs,.inr ⟨rfl,hk,rfl⟩⟩
 |full=>exact⟨a,hs,.inl rfl⟩
 |yH _ _ _ _ w k s hr=>exact⟨hr.ok a,hs,.inl rfl⟩
def Oi(f:Nat->Int)(a:Int):∀n,a<=gF f a n/\∀i,i<n->f i<=gF f a n
 |0=>⟨me _,fun i b=>by omega⟩
 |n+1=>by
  obtain⟨h1,d⟩:=Oi f a n;have:gF f a n<=gF f a (n+1)/\f n<=gF f a (n+1):=by rw[gF];unfold e6;split<;>omega
  refine⟨by omega,fun i b=>?_⟩;by_cases e:i=n
  ·subst e;exact this.2
  ·have:=d i (by omega);omega
def akM(t:cM){i:Nat}(a:i<t.2.2.1.length):jT t.2.2.1 i<=l5 t:=by unfold l5;have h1:=(Oi (jT t.2.2.1) 0 t.2.2.1.length).2 i a;have b:=(Oi (kA t.2.2.2.1) (gF (jT t.2.2.1) 0 t.2.2.1.length) t.2.2.2.1.length).1;omega
def akN{t:cM}{c bC index:Int}:l7 t c bC index=true↔(1<=c/\c<=3)/\(1<=bC/\bC<=1000000)/\(1<=index/\index<=100000)/\l5 t<=index:=by
 unfold l7;simp only[bs,cL,eT,hH];constructor
 ·rintro⟨h1,a,b,d⟩;exact⟨h1,a,b,by omega⟩
 ·rintro⟨h1,a,b,d⟩;exact⟨h1,a,b,by omega⟩
def Oj{t:U}{l:List t.D}{x:t.D}{i:Nat}(h:i<l.length):I t (l++[x]) i=I t l i:=by rw[cC (by rw[bZ];omega),cC h,List.getElem_append_left h]
def akO{t:U}{l:List t.D}{x:t.D}:I t (l++[x]) l.length=x:=by rw[cC (by rw[bZ,jE];omega),List.getElem_append_right (bu _)];simp
def akP{l:List aG.D}(h:fQ l=true)(hl:l.length<20){n:aG.D}(hn:XV n)(a:∀i,i<l.length->ll (I aG l i)<=ll n):fQ (l++[n])=true:=by
 unfold fQ at h⊢;rw[bs]at h⊢;refine⟨fN.2 fun i b=>?_,bR (by rw[bZ,jE];omega)⟩;rw[bZ,jE]at b;by_cases e:i<l.length
 ·have:=fN.1 h.1 i e;unfold qW at this⊢;rw[Oj e,Oj (by omega)];exact this
 ·have e:i=l.length:=by omega
  subst e;unfold qW;rw[akO];simp only[bs,cL,eT,ji,hH];refine⟨⟨⟨⟨⟨hn.a,?_⟩,hn.b⟩,hn.c⟩,hn.d⟩,hn.e⟩;by_cases d:0<l.length
  ·refine .inr ?_;rw[Oj (by omega)];exact Int.not_lt.2 (a (l.length-1) (by omega))
  ·exact .inl d
def fB(s:aK.D):Int:=s.1
def X9(s:aK.D):Int:=s.2.1
def X_(s:aK.D):Int:=s.2.2.1
def Ok(s:aK.D):Prop:=(1<=fB s/\fB s<=3)/\(1<=X9 s/\X9 s<=1000000)/\(1<=X_ s/\X_ s<=100000)/\l4 s.2.2.2.1=true
def X'{l:List aK.D}:dv l.length (iR l)=true↔(∀s,s∈l->Ok s)/\(∀i,i+1<l.length->fB (I aK l i)<fB (I aK l (i+1))):=by
 rw[fN];unfold iR;simp only[bs,cL,eT,ji,hH];constructor
 ·intro h;refine⟨fun s hs=>?_,fun i a=>?_⟩
  ·obtain⟨i,a,rfl⟩:=eC hs;have:=h i a;exact⟨this.1.1.1.1,this.1.1.2,this.1.2,this.2⟩
  ·rcases (h (i+1) a).1.1.1.2 with h1|h1
   ·omega
   ·rw[iD]at h1;exact Int.not_le.1 h1
 ·rintro⟨h1,b⟩ i a
  have:=h1 _ (cI a);refine⟨⟨⟨⟨this.1,?_⟩,this.2.1⟩,this.2.2.1⟩,this.2.2.2⟩
  cases i with
  |zero=>exact .inl (by omega)
  |succ i=>rw[iD];exact .inr (Int.not_le.2 (b i a))
def Ol:∀(l:List aK.D),(∀i,i+1<l.length->fB (I aK l i)<fB (I aK l (i+1)))↔(l.map fB).Pairwise (· < ·)
 | []=>⟨fun _=>List.Pairwise.nil,fun _ i a=>by simp at a⟩
 | [x]=>⟨fun _=>by simp,fun _ i a=>by simp at a⟩
 |x::b::l=>by
  have g:=Ol (b::l);constructor
  ·intro h;have h1:fB x<fB b:=h 0 (by simp);have e:((b::l).map fB).Pairwise (· < ·):=g.1 fun i a=>h (i+1) (by simpa using a)
   rw[dh,List.pairwise_cons];refine⟨fun z d=>?_,e⟩;rw[dh]at e d;rcases List.mem_cons.1 d with rfl|d
   ·exact h1
   ·have:=(List.pairwise_cons.1 e).1 z d;omega
  ·intro h i a;rw[dh,List.pairwise_cons]at h
   cases i with
   |zero=>exact h.1 (fB b) gT
   |succ i=>exact g.2 h.2 i (by simpa using a)
def Ya(l:List aK.D)(c:Int):∀s,s∈l.take (dd l c)->fB s<c:=by
 intro s hs;unfold dd at hs;have:l.take (l.takeWhile fun s=>decide (s.1<c)).length=l.takeWhile fun s=>decide (s.1<c):=FR _ _
 rw[this]at hs;exact of_decide_eq_true (ND (p:=fun s:aK.D=>decide (s.1<c)) hs)
def akQ{l:List aK.D}(h:(l.map fB).Pairwise (· < ·))(c:Int):∀s,s∈l.drop (dd l c)->c<=fB s:=by
 intro s hs;have hle:=tJ l c;by_cases a:dd l c<l.length
 ·have b:=(Gf (fun s:aK.D=>decide (s.1<c)) l (dd l c) a (bu _)).1
  have d:c<=fB l[dd l c]:=by
   refine Int.not_lt.1 fun e=>?_
   have:=b (bR e);have:dd l c+1<=dd l c:=this;omega
  rw[kf a]at hs;have ai:((l.drop (dd l c)).map fB).Pairwise (· < ·):=by rw[List.map_drop];exact h.drop
  rw[kf a,dh,List.pairwise_cons]at ai;rcases List.mem_cons.1 hs with rfl|hs
  ·exact d
  ·have:=ai.1 (fB s) (List.mem_map_of_mem hs);omega
 ·rw[gp (by omega)]at hs;simp at hs
def Om{l:List aK.D}{c:Int}:gb l c=true↔dd l c<l.length/\fB (I aK l (dd l c))=c:=by unfold gb;rw[bs,ei,hI];rfl
def akR{l:List aK.D}(h:dv l.length (iR l)=true){c:Int}{s:aK.D}(hs:Ok s)(hc:fB s=c):dv (h8 l c s).length (iR (h8 l c s))=true:=by
 obtain⟨h1,r⟩:=X'.1 h;have ai:=(Ol l).1 r;refine X'.2 ⟨fun x d=>?_,?_⟩
 ·rcases X5 d with d|rfl
  ·exact h1 x d
  ·exact hs
 ·refine(Ol _).2 ?_;unfold h8
  cases hb:gb l c with
  |true=>
   obtain⟨u,v⟩:=Om.1 hb;simp only[au]
   have:(l.set (dd l c) s).map fB=l.map fB:=by
    rw[List.map_set];refine List.ext_getElem (by simp) fun i D w=>?_
    rw[List.getElem_set];split
    ·rename_i e;rw[List.getElem_map];have y:l[i]'(by simpa using w)=I aK l (dd l c):=by rw[cC u];simp only[e]
     rw[y,v,hc]
    ·rfl
   rw[this];exact ai
  |false=>
   simp only[ay];have n:=Ya l c;have o:=akQ ai c
   have A:∀x,x∈l.drop (dd l c)->c<fB x:=by
    intro x d;have:=o x d;by_cases e:fB x=c
    ·exfalso
     have j:dd l c<l.length:=by
      rcases ff (dd l c) l.length with h|h
      ·exact h
      ·rw[gp h]at d;simp at d
     have p:fB (I aK l (dd l c))≠c:=fun e=>by have:=Om.2 ⟨j,e⟩;rw[hb]at this;cases this
     rw[kf j]at d;rcases List.mem_cons.1 d with rfl|B
     ·rw[cC j]at p;exact p e
     ·have q:((l.drop (dd l c)).map fB).Pairwise (· < ·):=by
       rw[List.map_drop];exact ai.drop
      rw[kf j,dh,List.pairwise_cons]at q;have E:=q.1 (fB x) (List.mem_map_of_mem B);have F:=o l[dd l c] (by rw[kf j];exact gT);omega
    ·omega
   rw[kg,kg,List.pairwise_append,List.pairwise_append];refine⟨⟨by rw[List.map_take];exact ai.take,by simp,?_⟩,by rw[List.map_drop];exact ai.drop,?_⟩
   ·intro a g b hb;obtain⟨k,m,rfl⟩:=List.mem_map.1 g;simp only[dh,List.map_nil,kG]at hb;subst hb;rw[hc];exact n k m
   ·intro a g b hb;obtain⟨z,C,rfl⟩:=List.mem_map.1 hb;have G:=A z C;rcases List.mem_append.1 g with g|g
    ·obtain⟨k,m,rfl⟩:=List.mem_map.1 g;have:=n k m;omega
    ·simp only[dh,List.map_nil,kG]at g;subst g;omega
def nQ.ok{t g:cM}{c bC index:Int}{x:aL.D}{r:aA.D}{b:Bool}(ht:er t=true)(h:nQ t c bC x index g r b):er g=true:=by
 cases h with
 |off=>exact ht
 |again=>exact ht
 |late=>exact ht
 |Gi hn h1 t1 r hr=>
  obtain⟨j,k,l,n⟩:=akN.1 hn;obtain⟨o,p,q,B⟩:=iS ht;obtain⟨s,k2,k3⟩:=hr.kept ht;have qO:=hr.res ht;obtain⟨u,v,w,y⟩:=X7 t1 c bC index x r
  have m:fQ t1.2.2.1=true:=by
   rcases k3 with e|⟨e,_⟩
   ·rw[e];exact q
   ·rw[e];rfl
  have z:fQ (hp t1 c bC index x r).2.2.1=true:=by
   rcases y with e|⟨e,hl,d⟩
   ·rw[e];exact m
   ·rw[e];refine akP m hl ⟨l,j,k,?_,(X8.1 qO).1⟩ fun i a=>?_
    ·unfold notes at d;simp only[bs]at d;exact(qL.1 d.2.1).cX
    ·rcases k3 with e|⟨e,_⟩
     ·rw[e]at a⊢;exact Int.le_trans (akM t a) n
     ·rw[e]at a;simp at a
  have hs:Ok ((c,bC,index,r,()):aK.D):=⟨j,k,l,qO⟩;have A:=akR o hs rfl;unfold er;simp only[bs];refine⟨?_,?_,z,?_⟩
  ·show dv (h8 (hp t1 c bC index x r).2.2.2.1 c (c,bC,index,r,())).length (iR (h8 (hp t1 c bC index x r).2.2.2.1 c (c,bC,index,r,())))=true;rw[w,hr.Og];exact A
  ·show b8 (hp t1 c bC index x r).2.1 0 30=true;rw[v];exact cL.2 ⟨k2.1,Int.le_trans k2.2 p.2⟩
  ·show gC (hp t1 c bC index x r).1=true;rw[u];exact s
def q0(n:Int):Int:=if n>26 then 30 else n+4
def akS{n:Int}(h:0<=n/\n<=30):0<=q0 n/\q0 n<=30:=by unfold q0;split<;>omega
def akT{n:Int}(h:0<=n/\n<=30):JT (n,())=some (q0 n,()):=by
 show JS n=_;unfold JS q0;rw[bW (by omega)];by_cases h1:n>26
 ·rw[bR h1,bg h1];rfl
 ·rw[bW h1,bd h1,cm (by omega) (by omega)];rfl
def akU{n:Int}(h:0<=n/\n<=30):Li (n,())=some (q0 n,()):=by
 show Lh n=_;unfold Lh q0;rw[bW (by omega)];by_cases h1:n>26
 ·rw[bR (by omega),bg h1];rfl
 ·rw[bd h1];by_cases a:n>=26
  ·rw[bR a,show n=26 by omega];rfl
  ·rw[bW a,cm (by omega) (by omega)];rfl
def tick(t:cM):cM:=(t.1,q0 t.2.1,t.2.2.1,t.2.2.2.1,())
def akV{t:cM}(h:er t=true):er (tick t)=true:=by obtain⟨h1,a,b,d⟩:=iS h;unfold er;simp only[bs];exact⟨h1,cL.2 (akS a),b,d⟩
def enc(n:Nat):af:=if h:n<128 then [UInt8.ofNat n] else UInt8.ofNat (128+n%128)::enc (n / 128)
termination_by n
decreasing_by omega
def vV{n:Nat}(h:n<128):enc n=[UInt8.ofNat n]:=by rw[enc,dif_pos h]
def yJ{n:Nat}(h:128<=n):enc n=UInt8.ofNat (128+n%128)::enc (n / 128):=by rw[enc,dif_neg (by omega)]
abbrev Yb:Int:=562949953421311
def eQ(n:Int):af:=if b8 n 0 Yb then enc n.toNat else []
def Yc(a b:List Int):ek (a++b)=ek a++ek b:=by simp[ek]
def wrap_u8{n:Nat}(h:n<256):IntKind.wrap .u8 (n:Int)=n:=by simp[IntKind.wrap,IntKind.bits,IntKind.signed];omega
def akW{n:Nat}(h:n<256):ek [IntKind.wrap .u8 (n:Int)]=[UInt8.ofNat n]:=by rw[wrap_u8 h];simp[ek]
def akX{x:Nat}(h:x<9223372036854775808):cJ .and .i64 (x:Int) 127=((x%128:Nat):Int):=by have:=bits_nat .and x 127;simp only at this;rw[show((127:Nat):Int)=127 from rfl]at this;rw[this,BitVec.toNat_and,nY,nY];rw[show(127%2^64)=2^7-1 from rfl,Nat.and_two_pow_sub_one_eq_mod,mY (show x<2^64 by omega)];exact cm (by omega) (by omega)
def Yd(n:Nat):Int.tmod (n:Int) 128=((n%128:Nat):Int):=by rw[show(128:Int)=((128:Nat):Int) from rfl,<-Int.ofNat_tmod]
def akY(n:Nat):Int.tdiv (n:Int) 128=((n / 128:Nat):Int):=by rw[show(128:Int)=((128:Nat):Int) from rfl,<-Int.ofNat_tdiv]
def akZ(a:Nat->Int->List Int->Option (af×Unit))(d:∀m (n:Nat) out,n<1000000000000000->out.length<=100->a (m+1) (n:Int) out=if n<128 then some (ek out++[UInt8.ofNat n],()) else a m ((n / 128:Nat):Int) (out++[((128+n%128:Nat):Int)])):
  ∀(k n:Nat) (out:List Int) (m:Nat),n<128^(k+1)->n<1000000000000000->out.length+k<=100->k<m->a m (n:Int) out=some (ek out++enc n,()):=by
 intro k
 induction k with
 |zero=>
  intro n out m h b e hm;obtain⟨m,rfl⟩:∃q,m=q+1:=⟨m-1,by omega⟩
  rw[d m n out b (by omega),bg (by omega),vV (by omega)]
 |succ k g=>
  intro n out m h b e hm;obtain⟨m,rfl⟩:∃q,m=q+1:=⟨m-1,by omega⟩
  rw[d m n out b (by omega)];by_cases hn:n<128
  ·rw[bg hn,vV hn]
  ·rw[bd hn,g _ _ m (by rw[Nat.pow_succ]at h;omega) (by omega) (by simp;omega) (by omega),yJ (n:=n) (by omega),Yc,dW];rfl
def ak0{n:Nat}(h:n<256):IntKind.wrap .u8 (n:Int)=n:=wrap_u8 h
def ak1:(128:Nat)^(9+1)=1180591620717411303424:=by decide
def q1(n:Int):nn (n,())=some (eQ n,()):=by
 show CT (uX aC) n=_;unfold CT eQ;simp only[fY,ag];cases hr:b8 n 0 Yb
 ·rfl
 obtain⟨h1,b⟩:=cL.1 hr;have b:n<=562949953421311:=b;simp only[bJ,ay,if_true];obtain⟨k,rfl⟩:∃k:Nat,n=k:=⟨n.toNat,by omega⟩
 rw[ed]
 have:=akZ uX (fun m n out hn d=>by
  simp only[uX,Kr];by_cases h:n<128
  ·rw[bW (by omega),bg h,ay,bX (by simp;omega),Yc,akW (by omega)];rfl
  ·rw[bR (by omega),bd h,au,bX (by simp;omega)];simp only[au,RA];rw[Yd,akY,cm (a:=128 +((n%128:Nat):Int)) (by omega) (by omega),cm (by omega) (by omega)]
   rw[show(128 +((n%128:Nat):Int))=((128+n%128:Nat):Int) by omega,ak0 (by omega)]) 9 k [] aC (by rw[ak1];omega) (by omega) (by simp) (hR (by omega))
 simpa[ek]using this
def fi:Nat->Bool->af->Option (Nat×Nat)
 |0,_,_=>none
 |_+1,_,[]=>none
 |k+1,f,b::s=>
  if b.toNat>127 then(fi k false s).map fun r=>(r.1*128+b.toNat%128,r.2+1)
  else if b.toNat=0/\f=false then none else some (b.toNat,1)
def On(b:UInt8):b.toNat<256:=b.toNat_lt
def pq:∀(k:Nat) (f:Bool) (s:af) (n c:Nat),fi k f s=some (n,c)->1<=c/\c<=k/\c<=s.length/\s.take c=enc n/\n<128^k/\(f=false->1<=n)
 |0,_,_,_,_,h=>by simp[fi]at h
 |_+1,_,[],_,_,h=>by simp[fi]at h
 |k+1,f,b::s,n,c,h=>by
  rw[fi]at h;have hb:=On b;have ai:0<128^k:=Nat.pow_pos (by omega);split at h
  ·rename_i g
   cases hr:fi k false s with
   |none=>rw[hr]at h;simp at h
   |some r=>
    obtain⟨a,c'⟩:=r;rw[hr]at h;simp only[fe,cQ,fj]at h;obtain⟨rfl,rfl⟩:=h;obtain⟨h1,m,o,i,p,e⟩:=pq k false s a c' hr;have e:=e rfl;refine⟨by omega,by omega,by simp;omega,?_,?_,fun _=>by omega⟩
    ·rw[List.take_succ_cons,i,yJ (n:=a*128+b.toNat%128) (by omega)];congr 1
     ·rw[show(a*128+b.toNat%128)%128=b.toNat%128 by omega,show 128+b.toNat%128=b.toNat by omega];simp
     ·rw[show(a*128+b.toNat%128) / 128=a by omega]
    ·rw[Nat.pow_succ];have:a*128+128<=128^k*128:=by have:=c3 128 (show a+1<=128^k by omega);omega
     omega
  ·rename_i g;split at h
   ·simp at h
   ·rename_i j;simp only[cQ,fj]at h;obtain⟨rfl,rfl⟩:=h;refine⟨by omega,by omega,by simp,?_,?_,fun l=>?_⟩
    ·rw[vV (by omega)];simp
    ·rw[Nat.pow_succ];omega
    ·rcases l_ b.toNat with d|d
     ·exact absurd ⟨d,l⟩ j
     ·exact d
def ak2(n:Nat):1<=(enc n).length:=by rw[enc];split<;>simp
def ak3:∀(k:Nat) (f:Bool) (n:Nat) (t:af),(enc n).length<=k->(f=false->1<=n)->fi k f (enc n++t)=some (n,(enc n).length):=by
 intro k
 induction k with
 |zero=>intro f n t h;have:=ak2 n;omega
 |succ k a=>
  intro f n t h b;by_cases hn:n<128
  ·rw[vV hn];have hb:(UInt8.ofNat n).toNat=n:=by simp;omega
   simp only[pA,fi,hb];rw[bd (by omega),bd (fun h=>by have:=b h.2;omega)];rfl
  ·rw[yJ (by omega)]at h⊢;have hb:(UInt8.ofNat (128+n%128)).toNat=128+n%128:=by simp;omega
   simp only[jF,fi,hb];rw[bg (by omega),a false (n / 128) t (by simp at h;omega) (fun _=>by omega)];simp only[fe,b2,cQ,fj,fK];omega
def ak4{a r i:Nat}(b:a<128^i)(hr:r<128)(d:i<=6):cJ .or .i64 (a:Int) (((r*2^(7*i):Nat)):Int)=((a+r*128^i:Nat):Int):=by
 have:=bits_nat .or a (r*2^(7*i));simp only at this;have ai:(128:Nat)^i=2^(7*i):=by rw[Nat.pow_mul]
 have hle:(2:Nat)^(7*i)<=2^42:=Nat.pow_le_pow_right (by omega) (by omega);have hc:(2:Nat)^42=4398046511104:=by decide
 have hm:r*2^(7*i)<=127*2^(7*i):=c3 _ (by omega);rw[this,BitVec.toNat_or,nY,nY,mY (show a<2^64 by omega),mY (show r*2^(7*i)<2^64 by omega),<-Nat.shiftLeft_eq,Nat.or_comm,<-Nat.shiftLeft_add_eq_or_of_lt (by omega),Nat.shiftLeft_eq,ai];rw[show r*2^(7*i)+a=a+r*2^(7*i) by omega];exact cm (by omega) (by omega)
def l8:Option (Nat×Nat)->Int×Int×Unit
 |none=>(0,0,())
 |some r=>((r.1:Int),(r.2:Int),())
def vW(i a:Nat)(o:Option (Nat×Nat)):Option (Nat×Nat):=o.map fun r=>(a+128^i*r.1,i+r.2)
def ak5(s:af):∀(d i a m:Nat),i+d=7->a<128^i->d<m->sh m s (a:Int) (i:Int)=some (l8 (vW i a (fi d (i==0) (s.drop i)))):=by
 intro d
 induction d with
 |zero=>
  intro i a m l g hm;obtain⟨m,rfl⟩:∃q,m=q+1:=⟨m-1,by omega⟩
  simp only[sh,BT];rw[show decide ((i:Int)<7)=false from bW (by omega)];cases decide ((i:Int)<(s.length:Int))<;>rfl
 |succ d n=>
  intro i a m l g hm;obtain⟨m,rfl⟩:∃q,m=q+1:=⟨m-1,by omega⟩
  simp only[sh,BT];by_cases hl:i<s.length
  case neg=>rw[bI (by omega),gp (by omega)];rfl
  rw[bj hl,bR (show(i:Int)<7 by omega),aU hl];simp only[au,ag];have o:s.drop i=s.getD i 0::s.drop (i+1):=by rw[List.getD_eq_getElem?_getD,List.getElem?_eq_getElem hl];exact kf hl
  generalize s.getD i 0=b at *;have hb:=On b;rw[o];rw[cm (a:=7*(i:Int)) (by omega) (by omega),bR (show(0:Int)<=7*(i:Int) by omega),cm (a:=(b.toNat:Int)) (by omega) (by omega)];simp only[au];rw[akX (by omega),show(7*(i:Int)).toNat=7*i by omega,show min (7*i) 64=7*i by omega];have p:(2:Nat)^(7*i)<=2^42:=Nat.pow_le_pow_right (by omega) (by omega);have hc:(2:Nat)^42=4398046511104:=by decide
  have u:(b.toNat%128)*2^(7*i)<=127*2^(7*i):=c3 _ (by omega);rw[show(((b.toNat%128:Nat):Int)*2^(7*i))=(((b.toNat%128)*2^(7*i):Nat):Int) by rw[Int.natCast_mul,Int.natCast_pow];rfl];rw[show IntKind.wrap .i64 (((b.toNat%128)*2^(7*i):Nat):Int)=(((b.toNat%128)*2^(7*i):Nat):Int) from cm (by omega) (by omega)];rw[ak4 g (by omega) (by omega),c0 i (by omega)];simp only[fi];by_cases j:b.toNat>127
  ·rw[bR (show(b.toNat:Int)>127 by omega),bg j];simp only[au]
   rw[n (i+1) (a+b.toNat%128*128^i) m (by omega) (by
    rw[Nat.pow_succ];have:b.toNat%128*128^i<=127*128^i:=c3 _ (by omega)
    omega) (by omega)]
   rw[show(i+1==0)=false from rfl]
   cases fi d false (s.drop (i+1))with
   |none=>rfl
   |some r=>simp only[vW,fe,l8,cQ,fj,fK];refine⟨?_,by omega⟩;rw[Nat.pow_succ,Nat.mul_add,show 128^i*(r.1*128)=128^i*128*r.1 by rw[Nat.mul_comm r.1 128,Nat.mul_assoc],Nat.mul_comm (b.toNat%128)];generalize 128^i*128*r.1=v;generalize 128^i*(b.toNat%128)=w;omega
  ·rw[bW (show ¬(b.toNat:Int)>127 by omega),bd j];simp only[ay];by_cases e:b.toNat=0
   ·rw[show((b.toNat:Int)==0)=true by simp[e]];by_cases k:i=0
    ·subst k;rw[bd (by simp),e];simp[l8,vW]
    ·rw[bg ⟨e,by simpa using k⟩,bR (show(i:Int)>0 by omega)];rfl
   ·rw[show((b.toNat:Int)==0)=false by simp;omega,bd (fun h=>e h.1)];simp only[ay,vW,fe,l8,cQ,fj,fK];rw[mY (by omega),Nat.mul_comm]
def Oo(s:af):JJ (s,())=some (l8 (fi 7 true s)):=by
 show BS (sh aC) s=_;unfold BS;have:=ak5 s 7 0 0 aC (by omega) (by simp) (hR (by omega));rw[show(((0:Nat):Int))=0 from rfl]at this;rw[this]
 cases h:fi 7 true s with
 |none=>simp[h,vW,l8]
 |some r=>simp[h,vW,l8]
def gG:af->Nat
 | []=>0
 |b::t=>gG t*128+b.toNat%128
def Ye:∀l:af,gG l<128^l.length
 | []=>by simp[gG]
 |b::t=>by have:=Ye t;simp only[gG,b2,Nat.pow_succ];have h:=c3 128 (show gG t+1<=128^t.length by omega);omega
def ak6(n:Nat):gG (enc n)=n:=by
 induction n using Nat.strongRecOn with
 |_ n a=>
  by_cases h:n<128
  ·rw[vV h];have hb:(UInt8.ofNat n).toNat=n:=by simp;omega
   simp only[gG,hb];omega
  ·rw[yJ (by omega)];have hb:(UInt8.ofNat (128+n%128)).toNat=128+n%128:=by simp;omega
   simp only[gG,hb];rw[a (n / 128) (by omega)];omega
def Gl:(128:Nat)^7=562949953421312:=by decide
def Yf{n:Nat}(h:n<128^7):eQ (n:Int)=enc n:=by unfold eQ;rw[Gl]at h;rw[bg (cL.2 ⟨by omega,by show(n:Int)<=562949953421311;omega⟩),ed]
def ge(k:Nat)(o:Option (Nat×Nat)):Option (Nat×Nat):=o.bind fun r=>if k<=r.2 then some r else none
def Yg(s:af)(k:Nat)(hk:1<=k)(b:k<=7)(hl:k<=s.length):bm (eQ (gG (s.take k):Int)) (s.take k)=true↔fi 7 true s=some (gG (s.take k),k):=by
 have hlen:(s.take k).length=k:=by simp;omega
 rw[tI,ei];constructor
 ·intro h
  have hv:eQ (gG (s.take k):Int)=enc (gG (s.take k)):=by
   unfold eQ at h⊢;split
   ·rw[ed]
   ·rename_i hn;rw[bd hn]at h;rw[<-h]at hlen;simp at hlen;omega
  rw[hv]at h;have a:=ak3 7 true (gG (s.take k)) (s.drop k) (by rw[h,hlen];exact b) (by simp);rw[h,List.take_append_drop]at a;rw[a,hlen]
 ·intro h;obtain⟨h1,a,g,d,e,i⟩:=pq 7 true s _ _ h;rw[Yf e,<-d]
def ak7(s:af)(hs:s.length<=1048576):∀(d k:Nat),k+d=8->1<=k->bU (fun m=>(ks m).k2 s (k:Int)) (1+d*10) (some (l8 (ge k (fi 7 true s)))):=by
 have l:∀k,(7<k\/s.length<k)->ge k (fi 7 true s)=none:=by
  intro k hk
  cases h:fi 7 true s with
  |none=>rfl
  |some r=>obtain⟨h1,g,e,_⟩:=pq 7 true s r.1 r.2 h;unfold ge;simp only[ag];rw[bd (by omega)]
 intro d
 induction d with
 |zero=>intro k hk h1;rw[l k (by omega)];refine(bU.done fun m=>?_).mono (by omega);show sK (ks m) _ _=_;unfold sK;rw[bW (by omega)];rfl
 |succ d i=>
  intro k hk h1;by_cases hl:k<=s.length
  case neg=>rw[l k (by omega)];refine(bU.done fun m=>?_).mono (by omega);show sK (ks m) _ _=_;unfold sK;rw[bR (show(k:Int)<=7 by omega),bW (by omega)];rfl
  have i:=i (k+1) (by omega) (by omega);have hv:∀j,gG ((s.take k).drop j)<562949953421312:=by intro j;have g:=Ye ((s.take k).drop j);have e:(128:Nat)^((s.take k).drop j).length<=128^7:=Nat.pow_le_pow_right (by omega) (by simp;omega);rw[Gl]at e;omega
  have u:∀j,j<=k->bU (fun m=>(ks m).c7 s (k:Int) (gG ((s.take k).drop j):Int) ((j:Int)-1)) (1+d*10+1+j) (some (l8 (ge k (fi 7 true s)))):=by
   intro j
   induction j with
   |zero=>
    intro _;have v:=hv 0;rw[gV]at v
    have hb:∀m,(ks (m+1)).c7 s (k:Int) (gG ((s.take k).drop 0):Int) (((0:Nat):Int)-1)=cond (bm (eQ (gG (s.take k):Int)) (s.take k)) (some ((gG (s.take k):Int),(k:Int),())) ((ks m).k2 s ((k+1:Nat):Int)):=by
     intro m;have w:∀a b c d,(ks (m+1)).c7 a b c d=xt (ks m) a b c d:=fun _ _ _ _=>rfl
     rw[w];unfold xt;rw[gV,bW (by omega)];simp only[ay];unfold cZ;rw[bg ⟨by omega,by omega,by omega⟩];simp only[ag];rw[q1,c0 k (by omega)];simp only[ag,ed];rw[show part s (Int.toNat 0) (k-Int.toNat 0)=s.take k from nK s k]
    cases hc:bm (eQ (gG (s.take k):Int)) (s.take k)
    ·have y:ge k (fi 7 true s)=ge (k+1) (fi 7 true s):=by
      cases h:fi 7 true s with
      |none=>rfl
      |some r=>
       unfold ge;simp only[ag];by_cases n:k=r.2
       ·obtain⟨B,C,D,o,E,F⟩:=pq 7 true s r.1 r.2 h;rw[<-n]at o;have:gG (s.take k)=r.1:=by rw[o,ak6]
        have g:=(Yg s k h1 (by omega) hl).2 (by rw[h,this,n]);rw[hc]at g;cases g
       ·by_cases hle:k<=r.2
        ·rw[bg hle,bg (by omega)]
        ·rw[bd hle,bd (by omega)]
     rw[y];exact i.step fun m=>by rw[hb,hc];rfl
    ·have hr:=(Yg s k h1 (by omega) hl).1 hc;rw[hr];refine(bU.done fun m=>?_).mono (by omega);rw[hb,hc];unfold ge;simp only[ag,au];rw[bg (bu _)];rfl
   |succ j z=>
    intro G;have p:=z (by omega);have q:j<s.length:=by omega
    have aa:(s.take k).drop j=s.getD j 0 ::(s.take k).drop (j+1):=by
     have A:j<(s.take k).length:=by simp;omega
     rw[kf A];congr 1;rw[List.getElem_take,List.getD_eq_getElem?_getD,List.getElem?_eq_getElem q];rfl
    rw[aa]at p;refine p.step fun m=>?_
    show xt (ks m) _ _ _ _=_;unfold xt;rw[show((j+1:Nat):Int)-1=(j:Int) by omega,bR (show(j:Int)>=0 by omega),aU q];simp only[au,ag,gG];have H:=hv (j+1);have I:=On (s.getD j 0);rw[cm (a:=((s.getD j 0).toNat:Int)) (by omega) (by omega),Yd,cm (a:=(gG ((s.take k).drop (j+1)):Int)*128) (by omega) (by omega),cm (by omega) (by omega),cm (a:=(j:Int)-1) (by omega) (by omega)];rw[show((gG ((s.take k).drop (j+1)):Int)*128 +(((s.getD j 0).toNat%128:Nat):Int))=((gG ((s.take k).drop (j+1))*128 +(s.getD j 0).toNat%128:Nat):Int) by omega]
  have e:=u k (bu _);rw[gp (by simp;omega)]at e;refine(e.step (f:=fun m=>(ks m).k2 s (k:Int)) fun m=>?_).mono (by omega);show sK (ks m) _ _=_;unfold sK;rw[bR (show(k:Int)<=7 by omega),bR (show(k:Int)<=(s.length:Int) by omega),cm (by omega) (by omega)];rfl
def ak8(s:af)(hs:s.length<=1048576):Ky (s,())=some (l8 (fi 7 true s)):=by
 show CW (ks aC) s=_;unfold CW;have:=jx (ak7 s hs 7 1 (by omega) (by omega)) (by omega);rw[show(((1:Nat):Int))=1 from rfl]at this;rw[this];congr 2
 cases h:fi 7 true s with
 |none=>rfl
 |some r=>obtain⟨h1,_⟩:=pq 7 true s r.1 r.2 h;unfold ge;simp only[ag];rw[bg h1]
abbrev cr:Type:=List UInt8
abbrev jC(α:Type):Type:=cr->Option (α×cr)
def cp:jC Int:=fun s=>(fi 7 true s).map fun r=>((r.1:Int),s.drop r.2)
def eE:jC cr:=fun s=>(cp s).bind fun r=>if r.1<=(r.2.length:Int) then some (r.2.take r.1.toNat,r.2.drop r.1.toNat) else none
def hy{α:Type}(p:jC α):Nat->jC (List α)
 |0,s=>some ([],s)
 |k+1,s=>(p s).bind fun a=>(hy p k a.2).map fun b=>(a.1::b.1,b.2)
def jf{α:Type}(o:Option (α×cr)):Option cr:=o.map (·.2)
def nR{s r:cr}{n:Int}(h:cp s=some (n,r)):0<=n/\n<=562949953421311/\s=eQ n++r/\r.length<s.length:=by
 unfold cp at h
 cases hr:fi 7 true s with
 |none=>rw[hr]at h;simp at h
 |some q=>rw[hr]at h;simp only[fe,cQ,fj]at h;obtain⟨rfl,rfl⟩:=h;obtain⟨h1,d,e,b,a,_⟩:=pq 7 true s q.1 q.2 hr;refine⟨by omega,by rw[Gl]at a;omega,?_,by simp;omega⟩;rw[Yf a,<-b,List.take_append_drop]
def Gm{s p r:cr}(h:eE s=some (p,r)):(p.length:Int)<=562949953421311/\s=eQ (p.length:Int)++p++r/\r.length<=s.length/\p.length<=s.length:=by
 unfold eE at h
 cases hr:cp s with
 |none=>rw[hr]at h;simp at h
 |some q=>
  obtain⟨n,t⟩:=q;rw[hr]at h;simp only[ag]at h;obtain⟨h1,b,a,d⟩:=nR hr;split at h
  ·rename_i hle;simp only[cQ,fj]at h;obtain⟨rfl,rfl⟩:=h;have hl:((t.take n.toNat).length:Int)=n:=by simp;omega
   refine⟨by omega,?_,by simp;omega,by simp;omega⟩;rw[hl,dW,List.take_append_drop];exact a
  ·simp at h
abbrev vX:Type:=i'.D
def yK(o:Option cr)(rd:vX):Prop:=
 match o with
 |some r=>rd=(r,false,())/\r.length<=1048576
 |none=>∃s:cr,rd=(s,true,())/\s.length<=1048576
def pr{α:Type}(o:Option (α×cr))(x:α)(rd:vX):Prop:=yK (jf o) rd/\∀a,o=some a->x=a.1
def Oq{n c:Nat}(h:c<=n):cZ n (c:Int) (n:Int)=some (c,n):=by unfold cZ;rw[bg ⟨by omega,by omega,me _⟩];simp
def tM{o:Option cr}{rd:vX}(h:yK o rd):∃n b,oC (rd,())=some (n,b,())/\pr (o.bind cp) n b/\(o.bind cp=none->n=0):=by
 cases o with
 |none=>obtain⟨s,rfl,hl⟩:=h;refine⟨0,(s,true,()),?_,⟨⟨s,rfl,hl⟩,by simp⟩,fun _=>rfl⟩;show si _=_;unfold si;rw[Oo];rfl
 |some s=>
  obtain⟨rfl,hl⟩:=h
  cases hr:fi 7 true s with
  |none=>
   have ai:cp s=none:=by unfold cp;rw[hr];rfl
   refine⟨0,(s,true,()),?_,⟨by rw[ag,ai];exact⟨s,rfl,hl⟩,by rw[ag,ai];simp⟩,fun _=>rfl⟩;show si _=_;unfold si;rw[Oo,hr];rfl
  |some q=>
   obtain⟨h1,g,d,_⟩:=pq 7 true s q.1 q.2 hr;have ai:cp s=some ((q.1:Int),s.drop q.2):=by unfold cp;rw[hr];rfl
   refine⟨(q.1:Int),(s.drop q.2,false,()),?_,⟨by rw[ag,ai];exact⟨rfl,by simp;omega⟩,by rw[ag,ai];intro a e;rw[<-aS e]⟩,by rw[ag,ai];simp⟩;show si _=_;unfold si;rw[Oo,hr];simp only[ag,l8,ay];rw[bO (show(q.2:Int)≠0 by omega),Oq d];simp only[ay,ag];rw[o_]
def Gn{o:Option cr}{rd:vX}(h:yK o rd):∃p d,sj (rd,())=some (p,d,())/\pr (o.bind eE) p d/\p.length<=1048576:=by
 obtain⟨n,d,h1,e,l⟩:=tM h;have key:∀x,sj (rd,())=x↔((uW (d,n,())).bind fun g=>some (g.1,g.2.1,()))=x:=by intro x;show JK rd=x↔_;unfold JK;rw[h1];rfl
 have bad:∀s:cr,uW ((s,true,()),n,())=some ([],(s,true,()),()):=fun s=>rfl
 cases o with
 |none=>obtain⟨s,hs,hl⟩:=e.1;subst hs;exact⟨[],(s,true,()),(key _).2 (by rw[bad];rfl),⟨⟨s,rfl,hl⟩,by simp⟩,by simp⟩
 |some s=>
  cases ai:cp s with
  |none=>
   have b:=e.1;rw[ag,ai]at b;obtain⟨an,hs,hl⟩:=b;subst hs;have hm:(some s).bind eE=none:=by simp[eE,ai]
   exact⟨[],(an,true,()),(key _).2 (by rw[bad];rfl),⟨by rw[hm];exact⟨an,rfl,hl⟩,by rw[hm];simp⟩,by simp⟩
  |some q=>
   obtain⟨v,r⟩:=q;have hv:=e.2 (v,r) (by rw[ag,ai]);simp only at hv;subst hv;have b:=e.1;rw[ag,ai]at b;obtain⟨j,hl⟩:=b;subst j;have hl:r.length<=1048576:=hl;obtain⟨i,m,_⟩:=nR ai;by_cases hle:n<=(r.length:Int)
   ·have hm:(some s).bind eE=some (r.take n.toNat,r.drop n.toNat):=by simp[eE,ai,hle]
    refine⟨r.take n.toNat,(r.drop n.toNat,false,()),(key _).2 ?_,⟨by rw[hm];exact⟨rfl,by simp;omega⟩,by rw[hm];intro a k;rw[<-aS k]⟩,by simp;omega⟩;have:uW ((r,false,()),n,())=some (r.take n.toNat,(r.drop n.toNat,false,()),()):=by show xa _ _=_;unfold xa;simp only[ay];rw[bW (show ¬n >(r.length:Int) by omega)];unfold cZ;rw[bg ⟨me _,i,hle⟩,bg ⟨i,hle,me _⟩];simp only[ay,ag,ed];rw[show part r (Int.toNat 0) (n.toNat-Int.toNat 0)=r.take n.toNat from nK r _,o_]
    rw[this];rfl
   ·have hm:(some s).bind eE=none:=by simp[eE,ai,hle]
    have:uW ((r,false,()),n,())=some ([],(r,true,()),()):=by show xa _ _=_;unfold xa;simp only[ay];rw[bR (show n >(r.length:Int) by omega)];rfl
    exact⟨[],(r,true,()),(key _).2 (by rw[this];rfl),⟨by rw[hm];exact⟨r,rfl,hl⟩,by rw[hm];simp⟩,by simp⟩
def Pos(s:cr)(o:Option cr)(at_:Int):Prop:=
 match o with
 |some r=>∃k:Nat,k<=s.length/\at_=(k:Int)/\r=s.drop k
 |none=>at_ = -1
def Gp{α:Type}(s:cr)(o:Option (α×cr))(x:α)(at_:Int):Prop:=Pos s (jf o) at_/\∀a,o=some a->x=a.1
def Ot{s:cr}{o:Option cr}{a:Int}(h:Pos s o a):decide (a<0)=o.isNone:=by
 cases o with
 |none=>rw[show a = -1 from h];rfl
 |some r=>obtain⟨k,_,rfl,_⟩:=h;exact bW (by omega)
def ak9(s:cr)(hs:s.length<=1048576)(n:Nat)(hn:n<=10):∀(r i k:Nat) (acc:List Int),i+r=n->k<=s.length->acc.length<=i →
  ∃l a,bU (fun m=>my m s (k:Int) (n:Int) (i:Int) acc) (1+r) (some (acc++l,a,()))/\Gp s (hy cp r (s.drop k)) l a:=by
 intro r
 induction r with
 |zero=>intro i k acc o hk p;refine⟨[],(k:Int),(bU.done fun m=>?_).mono (by omega),⟨⟨k,hk,rfl,rfl⟩,fun a h=>by simp only[hy,cQ]at h;rw[<-h]⟩⟩;simp only[my,xv];rw[bW (by omega),dn];rfl
 |succ r u=>
  intro i k acc o hk p
  have d:∀m,my (m+1) s (k:Int) (n:Int) (i:Int) acc=(match fi 7 true (s.drop k)with
    |none=>some (acc,-1,())
    |some q=>my m s ((k+q.2:Nat):Int) (n:Int) ((i+1:Nat):Int) (acc++[(q.1:Int)])):=by
   intro m;simp only[my,xv];rw[bR (show(i:Int)<(n:Int) by omega),bW (show ¬(k:Int)<0 by omega),bW (show ¬(k:Int) >(s.length:Int) by omega),Oq hk];simp only[au,ay,ag];rw[o_,ak8 _ (by simp;omega)];simp only[ag]
   cases hr:fi 7 true (s.drop k)with
   |none=>rfl
   |some q=>obtain⟨h1,v,g,_⟩:=pq 7 true (s.drop k) q.1 q.2 hr;simp only[l8];rw[bO (show(q.2:Int)≠0 by omega),bX (by simp;omega),cm (by omega) (by omega),c0 i (by omega)];simp only[au,ay];rw[show(k:Int) +(q.2:Int)=((k+q.2:Nat):Int) by omega]
  cases hr:fi 7 true (s.drop k)with
  |none=>
   have ai:cp (s.drop k)=none:=by unfold cp;rw[hr];rfl
   refine⟨[],-1,(bU.done fun m=>?_).mono (by omega),⟨by simp only[hy,ai,Option.bind_none];rfl,by simp only[hy,ai,Option.bind_none];simp⟩⟩;rw[d,hr,dn]
  |some q=>
   obtain⟨h1,v,g,_⟩:=pq 7 true (s.drop k) q.1 q.2 hr;have ai:cp (s.drop k)=some ((q.1:Int),s.drop (k+q.2)):=by unfold cp;rw[hr];simp[List.drop_drop]
   obtain⟨l,a,e,hl⟩:=u (i+1) (k+q.2) (acc++[(q.1:Int)]) (by omega) (by simp at g;omega) (by simp;omega);refine⟨(q.1:Int)::l,a,?_,?_⟩
   ·rw[dW]at e;refine(e.step (f:=fun m=>my m s (k:Int) (n:Int) (i:Int) acc) fun m=>by rw[d,hr]).mono (by omega)
   ·simp only[hy,ai,ag]
    cases j:hy cp r (s.drop (k+q.2))with
    |none=>rw[j]at hl;exact⟨hl.1,by simp⟩
    |some w=>rw[j]at hl;exact⟨hl.1,fun b hb=>by simp only[fe,cQ]at hb;rw[<-hb,hl.2 w rfl]⟩
def ak_(s:cr)(hs:s.length<=1048576)(n:Nat)(hn:n<=10){k:Nat}(hk:k<=s.length):∃l a,mz (s,(k:Int),(n:Int),())=some (l,a,())/\Gp s (hy cp n (s.drop k)) l a:=by obtain⟨l,a,e,h⟩:=ak9 s hs n hn n 0 k [] (by omega) hk (by simp);exact⟨l,a,jx e (by omega),h⟩
def ak'(s:cr)(n:Nat)(hn:1<=n):mz (s,-1,(n:Int),())=some ([],-1,()):=by obtain⟨q,a,_⟩:=iK 1;show CY (my aC) s (-1) (n:Int)=_;unfold CY;rw[a];simp only[my,xv];rw[bR (show(0:Int)<(n:Int) by omega)];rfl
def Gq(s:cr)(hs:s.length<=1048576)(n:Nat)(h1:1<=n)(hn:n<=10){o:Option cr}{a:Int}(h:Pos s o a):∃l b0,mz (s,a,(n:Int),())=some (l,b0,())/\Gp s (o.bind (hy cp n)) l b0:=by
 cases o with
 |none=>rw[show a = -1 from h];exact⟨[],-1,ak' s n h1,rfl,by simp⟩
 |some r=>obtain⟨k,hk,rfl,rfl⟩:=h;exact ak_ s hs n hn hk
def Gr(s:cr):hy cp 1 s=(cp s).map fun a=>([a.1],a.2):=by simp only[hy];cases cp s<;>rfl
def Gs(s:cr)(hs:s.length<=1048576){o:Option cr}{a:Int}(h:Pos s o a):∃p b0,sL (s,a,())=some (p,b0,())/\Gp s (o.bind eE) p b0/\p.length<=s.length:=by
 obtain⟨l,d,e,h1⟩:=Gq s hs 1 (by omega) (by omega) h
 have key:∀x,sL (s,a,())=x↔(cond (decide (d<0))
  (some (([]:af),(-1),()))
  ((ax l.length 0).bind fun m=>
  cond (decide (I (U.int .i64) l (0+m)>aj ((s.length:Int)-d)))
   (some (([]:af),(-1),()))
   ((ax l.length 0).bind fun u=>
   (cZ s.length d (aj (d+I (U.int .i64) l (0+u)))).bind fun v4=>
   (ax l.length 0).bind fun v=>
   some (part s v4.1 (v4.2-v4.1),aj (d+I (U.int .i64) l (0+v)),()))))=x:=by
  intro x;show Kz s a=x↔_;unfold Kz;rw[show((1:Nat):Int)=1 from rfl]at e;rw[e];rfl
 have g:=Ot h1.1
 cases hb:o.bind (hy cp 1)with
 |none=>
  rw[hb]at g
  have hn:o.bind eE=none:=by
   cases o with
   |none=>rfl
   |some r=>
    simp only[ag,Gr]at hb⊢;unfold eE
    cases ai:cp r with
    |none=>rfl
    |some q=>rw[ai]at hb;simp at hb
  refine⟨[],-1,(key _).2 (by rw[g];rfl),⟨by rw[hn];rfl,by rw[hn];simp⟩,by simp⟩
 |some w=>
  rw[hb]at g h1
  cases o with
  |none=>simp at hb
  |some r=>
   simp only[ag,Gr]at hb
   cases ai:cp r with
   |none=>rw[ai]at hb;simp at hb
   |some q=>
    obtain⟨n,t⟩:=q;rw[ai]at hb;simp only[fe,cQ]at hb;subst hb;have hl:=h1.2 _ rfl;simp only at hl;subst hl;obtain⟨k,hk,rfl,ht⟩:=h1.1;have ht:t=s.drop k:=ht;subst ht;obtain⟨z,A,_⟩:=nR ai;have i:ax [n].length 0=some 0:=rfl;have j:I (U.int .i64) [n] (0+0)=n:=rfl;simp only[ag];unfold eE;rw[ai];simp only[ag];by_cases hle:n<=((s.drop k).length:Int)
    ·have y:((s.drop k).length:Int)=(s.length:Int)-(k:Int):=by simp;omega
     rw[bg hle];refine⟨(s.drop k).take n.toNat,((k+n.toNat:Nat):Int),(key _).2 ?_,⟨⟨k+n.toNat,by simp at hle;omega,rfl,by simp[List.drop_drop]⟩,fun b hb=>by simp only[cQ]at hb;rw[<-hb]⟩,by simp;omega⟩;rw[g];simp only[jf,fe,Option.isNone_some,ay,i,ag,j];rw[cm (by omega) (by omega),show decide (n >(s.length:Int)-(k:Int))=false from bW (by omega),cm (by omega) (by omega)];simp only[ay];unfold cZ;rw[bg ⟨by omega,by omega,by omega⟩];simp only[ag,ed];rw[show((k:Int)+n).toNat=k+n.toNat by omega,show(k:Int)+n=((k+n.toNat:Nat):Int) by omega];unfold part;rw[show k+n.toNat-k=n.toNat by omega]
    ·have y:((s.drop k).length:Int)=(s.length:Int)-(k:Int):=by simp;omega
     rw[bd hle];refine⟨[],-1,(key _).2 ?_,⟨rfl,by simp⟩,by simp⟩;rw[g];simp only[jf,fe,Option.isNone_some,ay,i,ag,j];rw[cm (by omega) (by omega),show decide (n >(s.length:Int)-(k:Int))=true from bR (by omega)];rfl
def q2{α e:Type}{p:jC α}{q:α->jC e}{o:Option cr}{a:α}{b:e}{h g:vX}(h1:pr (o.bind p) a h)(d:pr ((jf (o.bind p)).bind (q a)) b g):pr (o.bind fun s=>(p s).bind fun x=>q x.1 x.2) b g:=by
 cases o with
 |none=>exact d
 |some s=>
  cases ai:p s with
  |none=>simp only[ag,ai]at d⊢;exact d
  |some x=>have:=h1.2 x (by rw[ag,ai]);subst this;simp only[ag,ai,jf,fe]at d⊢;exact d
def Yh{α d:Type}{p:jC α}{f:α->d}{o:Option cr}{a:α}{rd:vX}(h:pr (o.bind p) a rd):pr (o.bind fun s=>(p s).map fun x=>(f x.1,x.2)) (f a) rd:=by
 cases o with
 |none=>exact⟨h.1,by simp⟩
 |some s=>
  cases ai:p s with
  |none=>simp only[ag,ai]at h⊢;exact⟨h.1,by simp⟩
  |some x=>have e:=h.2 x (by rw[ag,ai]);subst e;simp only[ag,ai,fe]at h⊢;exact⟨h.1,fun b hb=>by rw[<-aS hb]⟩
def Gt:∀(k n:Nat),n<128^k->1<=k->(enc n).length<=k
 |0,n,h,h1=>by omega
 |k+1,n,h,_=>by
  by_cases hn:n<128
  ·rw[vV hn];simp
  ·rw[yJ (by omega),b2]
   have hk:1<=k:=by
    rcases l_ k with rfl|hk
    ·simp at h;omega
    ·exact hk
   have:=Gt k (n / 128) (by rw[Nat.pow_succ]at h;omega) hk;omega
def tN(n:Int):(eQ n).length<=7:=by
 unfold eQ;split
 ·rename_i h;obtain⟨h1,a⟩:=cL.1 h;have a:n<=562949953421311:=a;exact Gt 7 _ (by rw[Gl];omega) (by omega)
 ·simp
def iT(x:Int):Int:=cond (Int.tmod x 2==1) (aj (Int.tdiv (aj (0-(aj (x+1)))) 2)) (aj (Int.tdiv x 2))
def Ou(x:Int):BU (x,())=some (iT x,()):=by show JL x=_;unfold JL iT;cases (Int.tmod x 2==1)<;>rfl
def Yi(x:Int):u2 (x,())=some (iT x,()):=Ou x
def kC(x:Int):cr:=if x<0 then eQ (-2*x-1) else eQ (2*x)
def Yj(x:Int)(h : -1000000<=x/\x<=1000000):uZ (x,())=some (kC x,()):=by
 show Kt x=_;unfold Kt kC;by_cases b:x<0
 ·rw[bR b,bg b,cm (a:=(-2)*x) (by omega) (by omega),cm (by omega) (by omega),q1];rfl
 ·rw[bW b,bd b,cm (a:=2*x) (by omega) (by omega),q1 (2*x)];rfl
def Yk{x:Int}(h:0<=x)(b:x<=562949953421311):kC (iT x)=eQ x:=by
 unfold iT kC;rw[Int.tmod_eq_emod_of_nonneg h];by_cases h1:x%2=1
 ·rw[cf h1,cm (a:=x+1) (by omega) (by omega),cm (a:=0-(x+1)) (by omega) (by omega)];have e:Int.tdiv (0-(x+1)) 2 = - ((x+1) / 2):=by rw[Int.zero_sub,Int.neg_tdiv,Int.tdiv_eq_ediv_of_nonneg (by omega)]
  simp only[au];rw[e,cm (by omega) (by omega),bg (by omega)];congr 1;omega
 ·rw[bO h1,Int.tdiv_eq_ediv_of_nonneg h];simp only[ay];rw[cm (by omega) (by omega),bd (by omega)];congr 1;omega
def yL(a:Int)(b c:cr)(d e:Int):jC aL.D:=fun s=>(eE s).map fun f=>((a,b,c,iT d,iT e,f.1,()),f.2)
def yM(a:Int)(b c:cr)(d:Int):jC aL.D:=fun s=>(cp s).bind fun e=>yL a b c d e.1 e.2
def yN(a:Int)(b c:cr):jC aL.D:=fun s=>(cp s).bind fun d=>yM a b c d.1 d.2
def yO(a:Int)(b:cr):jC aL.D:=fun s=>(eE s).bind fun c=>yN a b c.1 c.2
def yP(a:Int):jC aL.D:=fun s=>(eE s).bind fun b=>yO a b.1 b.2
def nS:jC aL.D:=fun s=>(cp s).bind fun a=>yP a.1 a.2
def kD(s:cr):Option aL.D:=
 match nS s with
 |some (x,[])=>if eJ x then some x else none
 |_=>none
def yQ:Option aL.D->aL.D×Bool×Unit
 |none=>((0,[],[],0,0,[],()),false,())
 |some x=>(x,true,())
def ala(s:cr)(hs:s.length<=1048576):JN (s,())=some (yQ (kD s)):=by
 show JM s=_;unfold JM;have l:yK (some s) (s,false,()):=⟨rfl,hs⟩;obtain⟨a,z,m,g,_⟩:=tM l;obtain⟨b,A,n,i2,_⟩:=Gn g.1;obtain⟨c,B,o,h,_⟩:=Gn i2.1;obtain⟨d,C,p,i,_⟩:=tM h.1;obtain⟨e,D,u,j,_⟩:=tM i.1;obtain⟨f,v,w,y,_⟩:=Gn j.1
 have hc:pr ((some s).bind nS) (a,b,c,iT d,iT e,f,()) v:=
  q2 (q:=yP) g (q2 (q:=yO a) i2 (q2 (q:=yN a b) h (q2 (q:=yM a b c) i (q2 (q:=yL a b c d) j (Yh (f:=fun f=>((a,b,c,iT d,iT e,f,()):aL.D)) y)))))
 rw[m];simp only[ag];rw[n];simp only[ag];rw[o];simp only[ag];rw[p];simp only[ag];rw[Ou];simp only[ag];rw[u];simp only[ag];rw[Ou];simp only[ag];rw[w];simp only[ag];rw[x7];unfold kD
 cases ai:nS s with
 |none=>have:=hc.1;rw[ag,ai]at this;obtain⟨t,rfl,_⟩:=this;rfl
 |some q=>
  obtain⟨x,r⟩:=q;have h1:=hc.2 (x,r) (by rw[ag,ai]);have k:=hc.1;rw[ag,ai]at k;obtain⟨rfl,_⟩:=k;simp only at h1;subst h1
  cases r with
  |nil=>show cond false _ _=_;simp only[ay,ag];rw[show(!bm (([]:cr),false,()).1 [])=false from rfl];simp only[ay];cases eJ (a,b,c,iT d,iT e,f,())<;>rfl
  |cons E r=>rfl
def iU(p:cr):cr:=eQ (p.length:Int)++p
def mU(x:aL.D):cr:=eQ x.1++iU x.2.1++iU x.2.2.1++kC x.2.2.2.1++kC x.2.2.2.2.1++iU x.2.2.2.2.2.1
def Gu(p:cr)(h:p.length<=60000000000):uY (p,())=some (iU p,()):=by show Ks p=_;unfold Ks;rw[q1];simp only[ag];have:=tN (p.length:Int);rw[bX (by omega)];rfl
def yR(p:cr):(iU p).length<=7+p.length:=by unfold iU;have:=tN (p.length:Int);simp only[bZ];omega
def Yl(x:Int):(kC x).length<=7:=by unfold kC;split<;>exact tN _
def Ym(x:aL.D):u0 (x,())=some (cond (eJ x) (mU x) [],()):=by
 show Ku x=_;unfold Ku;rw[vt];simp only[ag]
 cases h:eJ x with
 |false=>rfl
 |true=>have a:=qL.1 h;have h1:=tN x.1;have b:=yR x.2.1;have d:=yR x.2.2.1;have e:=Yl x.2.2.2.1;have g:=Yl x.2.2.2.2.1;have i:=yR x.2.2.2.2.2.1;have j:x.2.1.length<=60:=a.path;have k:x.2.2.1.length<=60:=a.nM;have l:x.2.2.2.2.2.1.length<=64:=a.gD;rw[q1,Gu _ (by omega),Gu _ (by omega),Gu _ (by omega),show uZ (x.2.2.2.1,())=_ from Yj _ a.n,show uZ (x.2.2.2.2.1,())=_ from Yj _ a.m];simp only[ag,bJ,ay];rw[bX (by omega),bX (by simp only[bZ];omega),bX (by simp only[bZ];omega),bX (by simp only[bZ];omega),bX (by simp only[bZ];omega)];rfl
def Yn{s r:cr}{x:aL.D}(h:nS s=some (x,r)):s=mU x++r/\r.length<s.length:=by unfold nS yP yO yN yM yL at h;obtain⟨a,k,h⟩:=a6 h;obtain⟨b,hb,h⟩:=a6 h;obtain⟨c,hc,h⟩:=a6 h;obtain⟨d,aa,h⟩:=a6 h;obtain⟨e,he,h⟩:=a6 h;rw[Option.map_eq_some_iff]at h;obtain⟨f,l,h⟩:=h;rw[fj]at h;obtain⟨rfl,rfl⟩:=h;obtain⟨w,y,m,z⟩:=nR k;obtain⟨_,g,A,_⟩:=Gm hb;obtain⟨_,i,B,_⟩:=Gm hc;obtain⟨n,o,p,C⟩:=nR aa;obtain⟨q,u,v,D⟩:=nR he;obtain⟨_,j,E,_⟩:=Gm l;refine⟨?_,by omega⟩;show s=eQ a.1++iU b.1++iU c.1++kC (iT d.1)++kC (iT e.1)++iU f.1++f.2;rw[Yk n o,Yk q u];unfold iU;simp only[dW];simp only[dW]at g i j;rw[<-j,<-v,<-p,<-i,<-g];exact m
def Yo(s:cr):hy cp 2 s=(cp s).bind fun a=>(fun s=>(cp s).map fun b=>([a.1,b.1],b.2)) a.2:=by
 simp only[hy]
 cases h:cp s with
 |none=>rfl
 |some a=>simp only[ag];cases cp a.2<;>rfl
def alb(s:cr)(hs:s.length<=1048576):KB (s,())=some (yQ (kD s)):=by
 show KA s=_;unfold KA;have H:Pos s (some s) ((0:Nat):Int):=⟨0,mc _,rfl,rfl⟩;obtain⟨a,ao,J,u⟩:=Gq s hs 1 (by omega) (by omega) H;obtain⟨b,aq,K,i2,_⟩:=Gs s hs u.1;obtain⟨c,L,M,v,_⟩:=Gs s hs i2.1;obtain⟨d,ar,N,w⟩:=Gq s hs 2 (by omega) (by omega) v.1;obtain⟨f,av,P,y,_⟩:=Gs s hs w.1;rw[show mz (s,0,1,())=_ from J];simp only[ag];rw[K];simp only[ag];rw[M];simp only[ag];rw[show mz (s,L,2,())=_ from N];simp only[ag];rw[P];simp only[ag];have Q:=Ot y.1;have T:nS s=none->kD s=none:=fun h=>by unfold kD;rw[h]
 have V:nS s=none->(jf ((jf ((jf ((jf ((jf ((some s).bind (hy cp 1))).bind eE)).bind eE)).bind (hy cp 2))).bind eE))=none:=by
  intro h;unfold nS yP yO yN yM yL at h;rw[ag,Gr]
  cases h1:cp s with
  |none=>rfl
  |some W=>
  rw[h1]at h;simp only[ag,fe,jf]at h⊢
  cases m:eE W.2 with
  |none=>rfl
  |some X=>
  rw[m]at h;simp only[ag,fe]at h⊢
  cases Y:eE X.2 with
  |none=>rfl
  |some Z=>
  rw[Y]at h;simp only[ag,fe]at h⊢;rw[Yo]
  cases ab:cp Z.2 with
  |none=>rfl
  |some ac=>
  rw[ab]at h;simp only[ag,fe]at h⊢
  cases ad:cp ac.2 with
  |none=>rfl
  |some ae=>
  rw[ad]at h;simp only[ag,fe]at h⊢
  cases af:eE ae.2 with
  |none=>rfl
  |some aw=>rw[af]at h;simp at h
 rw[Q]
 cases ai:nS s with
 |none=>rw[V ai,T ai];rfl
 |some q=>
  obtain⟨x,r⟩:=q;obtain⟨j,_⟩:=Yn ai;have A:=ai;unfold nS yP yO yN yM yL at A;obtain⟨g,B,h⟩:=a6 A;obtain⟨n,hb,h⟩:=a6 h;obtain⟨k,hc,h⟩:=a6 h;obtain⟨i,aa,h⟩:=a6 h;obtain⟨e,he,h⟩:=a6 h;rw[Option.map_eq_some_iff]at h;obtain⟨l,ah,h⟩:=h;rw[fj]at h;obtain⟨aj,rfl⟩:=h;have t1:(some s).bind (hy cp 1)=some ([g.1],g.2):=by rw[ag,Gr,B];rfl
  rw[t1]at u;have o:(jf (some ([g.1],g.2))).bind eE=some n:=hb;rw[t1,o]at i2;have z:(jf (some n)).bind eE=some k:=hc;rw[t1,o,z]at v;have C:(jf (some k)).bind (hy cp 2)=some ([i.1,e.1],e.2):=by show hy cp 2 k.2=_;rw[Yo,aa];simp only[ag];rw[he];rfl
  rw[t1,o,z,C]at w;have ak:(jf (some ([i.1,e.1],e.2))).bind eE=some l:=ah;rw[t1,o,z,C,ak]at y⊢;have v1:=u.2 _ rfl;have D:=i2.2 _ rfl;have E:=v.2 _ rfl;have v4:=w.2 _ rfl;have F:=y.2 _ rfl;simp only at v1 D E v4 F;subst v1 D E v4 F;have al:((g.1,n.1,k.1,iT i.1,iT e.1,l.1,()):aL.D)=x:=aj;show cond false _ _=_;simp only[ay];rw[show ax [g.1].length 0=some 0 from rfl,show ax [i.1,e.1].length 0=some 0 from rfl,show ax [i.1,e.1].length 1=some 1 from rfl];simp only[ag];rw[show I (U.int .i64) [i.1,e.1] (0+0)=i.1 from rfl,show I (U.int .i64) [i.1,e.1] (0+1)=e.1 from rfl,show I (U.int .i64) [g.1] (0+0)=g.1 from rfl,Yi,Yi];simp only[ag,m7,zS];rw[show u0 ((g.1,n.1,k.1,iT i.1,iT e.1,l.1,()),())=_ from Ym _,al];simp only[ag];unfold kD;rw[ai]
  cases G:eJ x with
  |false=>
   have:bm [] s=false:=by rw[tI,bW];intro p;rw[<-p]at j;have h1:=congrArg List.length j;have m:=(nR B).2.2.2;rw[<-p]at m;simp at m
   simp only[ay];rw[this]
   cases hr:l.2 with
   |nil=>simp[G,yQ]
   |cons an t=>rfl
  |true=>
   simp only[au]
   cases hr:l.2 with
   |nil=>rw[hr,dn]at j;rw[<-j,fD];simp[G,yQ]
   |cons an t=>
    rw[hr]at j;have:bm (mU x) s=false:=by rw[tI,bW];intro p;have h1:=congrArg List.length j;rw[<-p]at h1;simp at h1
    rw[this];rfl
def ix(s:aB.D):Bool:=b8 s.1 0 2&&b8 s.2.1 1 3&&b8 s.2.2.1 1 1000000&&eJ s.2.2.2.1
def alc(s:aB.D):Ko (s,())=some (ix s,()):=by show Kn s=_;unfold Kn ix;simp only[fY,ag];rw[vt];simp only[ag,jd,tv,Bool.and_assoc]
def ald(s:aB.D):JP (s,())=some (ix s,()):=by show JO s=_;unfold JO ix;simp only[fZ,ag];rw[x7];simp only[ag,jd,tv,Bool.and_assoc]
def dK(l:List aB.D)(i:Nat):Int:=(I aB l i).1
def nT(l:List aB.D)(a i:Nat):Bool:=ix (I aB l i) && !(decide (0<i)&&decide (dK l (i-1)>dK l i)) && !(decide (a<=i)&&dK l (i-a)==dK l i)
def Gv(l:List aB.D)(a:Nat):Bool:=dv l.length (nT l a)
def b1(l:List aB.D):Nat->Nat
 |0=>0
 |i+1=>if 0<i/\dK l (i-1)≠dK l i then 1 else b1 l i+1
def yS(l:List aB.D)(a i:Nat):Bool:=ix (I aB l i) && !(decide (0<i)&&decide (dK l (i-1)>dK l i)) && !decide (a<b1 l (i+1))
def Gw(l:List aB.D):∀i,b1 l i<=i
 |0=>bu _
 |i+1=>by unfold b1;have:=Gw l i;split<;>omega
def Yp(l:List aB.D)(i:Nat):1<=b1 l (i+1):=by unfold b1;split<;>omega
def Yq(l:List aB.D):∀i k,k<b1 l (i+1)->dK l (i-k)=dK l i
 |0,k,h=>by have a:b1 l (0+1)<=0+1:=Gw l (0+1);rw[show k=0 by omega]
 |i+1,k,h=>by
  rw[b1]at h;split at h
  ·rw[show k=0 by omega,mb]
  ·rename_i hn
   have he:dK l i=dK l (i+1):=by
    by_cases he:dK l i=dK l (i+1)
    ·exact he
    ·exact absurd ⟨by omega,by simpa using he⟩ hn
   cases k with
   |zero=>rw[mb]
   |succ k=>have:=Yq l i k (by omega);rw[show i+1-(k+1)=i-k by omega,this,he]
def Yr(l:List aB.D):∀i,b1 l (i+1)<i+1->dK l (i-b1 l (i+1))≠dK l i
 |0,h=>by have:=Yp l 0;omega
 |i+1,h=>by
  rw[b1]at h⊢;split at h
  ·rename_i hn;rw[bg hn];exact hn.2
  ·rename_i hn;rw[bd hn]
   have he:dK l i=dK l (i+1):=by
    by_cases he:dK l i=dK l (i+1)
    ·exact he
    ·exact absurd ⟨by omega,by simpa using he⟩ hn
   have:=Yr l i (by omega);rw[show i+1-(b1 l (i+1)+1)=i-b1 l (i+1) by omega,<-he];exact this
def ale{l:List aB.D}{a:Nat}(hm:1<=a){i:Nat}(ai:∀j,j<i->nT l a j=true):nT l a i=yS l a i:=by
 unfold nT yS;cases ix (I aB l i)
 ·rfl
 cases hs:(decide (0<i)&&decide (dK l (i-1)>dK l i))
 case true=>rfl
 simp only[cR,gI];congr 1
 have e:∀j,j+1<=i->dK l j<=dK l (j+1):=by
  intro j g;by_cases k:j+1=i
  ·subst k;simp only[ji,hH]at hs;rcases hs with hs|hs
   ·omega
   ·rw[iD]at hs;omega
  ·have:=ai (j+1) (by omega);unfold nT at this;simp only[bs,eT,ji,hH]at this;rcases this.1.2 with h|h
   ·omega
   ·rw[iD]at h;omega
 have b:∀d j,j+d<=i->dK l j<=dK l (j+d):=by
  intro d
  induction d with
  |zero=>intro j _;exact me _
  |succ d m=>intro j g;exact Int.le_trans (m j (by omega)) (e (j+d) (by omega))
 have p:=Gw l (i+1);have q:=Yp l i;rw[jj];simp only[bs,ei,hI];constructor
 ·rintro⟨h1,r⟩
  rcases ff a (b1 l (i+1))with h|h
  ·exact h
  ·have s:=Yr l i (by omega);have n:=b (a-b1 l (i+1)) (i-a) (by omega);have o:=b (b1 l (i+1)) (i-b1 l (i+1)) (by omega);rw[show i-a +(a-b1 l (i+1))=i-b1 l (i+1) by omega]at n;rw[show i-b1 l (i+1)+b1 l (i+1)=i by omega]at o;omega
 ·intro h;exact⟨by omega,Yq l i a h⟩
def alf(l:List aB.D)(a:Nat)(hm:1<=a):Gv l a=dv l.length (yS l a):=
 afJ fun i _ ai _=>ale hm ai
def alg(l:List aB.D)(a:Nat)(hm:a<=100)(hl:l.length<=1048576):CS (l,(a:Int),())=some (Gv l a,()):=by
 show CQ (nm aC) l (a:Int)=_;unfold CQ
 have:=jN l.length (by omega) (nT l a) true (fun m i=>nm m l (a:Int) i) (by
  intro m _;simp only[nm,CR]
  rw[bI (bu _)];rfl) (by
  intro m i b _ d;simp only[nm,CR,d];rw[bj b,aU b];simp only[au,ag];rw[alc];simp only[ag];have e:decide ((i:Int)>=(a:Int))=decide (a<=i):=by apply decide_eq_decide.2;omega
  rw[e]
  have g:cond (decide (a<=i)) ((ax l.length (aj ((i:Int)-(a:Int)))).bind fun j=>cond ((I aB l j).1 ==(I aB l i).1) (some (false,())) (nm m l (a:Int) ((i:Int)+1))) (nm m l (a:Int) ((i:Int)+1))=cond (decide (a<=i)&&dK l (i-a)==dK l i) (some (false,())) (nm m l (a:Int) ((i:Int)+1)):=by
   by_cases h:a<=i
   ·rw[bR h,cm (by omega) (by omega),show(i:Int)-(a:Int)=((i-a:Nat):Int) by omega,aU (by omega)];rfl
   ·rw[bW h];rfl
  rw[g];unfold nT
  cases i with
  |zero=>simp only[nD,n1,decide_false,ay,ma,cR,kJ,mK,ik]
  |succ i=>
   rw[nC b (by omega)];simp only[nE,nZ,decide_true,au,ag,iD,gI,mK,ik]
   rfl)
 rw[kJ]at this;exact this
def alh(l:List aB.D)(a:Nat)(hm:1<=a)(h:a<=100)(hl:l.length<=1048576):BX (l,(a:Int),())=some (Gv l a,()):=by
 show BV (nf aC) l (a:Int)=_;unfold BV;rw[alf l a hm]
 have:=jN l.length (by omega) (yS l a) true (fun m i=>(nf (2*m)).k3 l (a:Int) (b1 l i.toNat:Int) l (l.length:Int) i) (by
  intro m _;show xb (nf (2*m+1)) _ _ _ _ _ _=_;unfold xb
  rw[bI (bu _)];rfl) (by
  intro m i b _ e;have j:=Gw l i
  have d:∀c:Nat,c<=1048577->BW (nf (2*m)) l (a:Int) (c:Int) (i:Int) l (l.length:Int) (i:Int) (I aB l i) =
    cond (ix (I aB l i) && !(decide (0<i)&&decide (dK l (i-1)>dK l i)) && !decide (a<c)) ((nf (2*m)).k3 l (a:Int) (c:Int) l (l.length:Int) ((i:Int)+1)) (some (false,())):=by
   intro c hc;unfold BW;rw[ald];simp only[ag,e];rw[show decide ((c:Int) >(a:Int))=decide (a<c) by apply decide_eq_decide.2;omega]
   cases i with
   |zero=>simp only[nD,n1,decide_false,ay,ma,cR,kJ,mK,ik]
   |succ i=>rw[nC b (by omega)];simp only[nE,nZ,decide_true,au,ag,iD,gI,mK,ik];rfl
  show xb (nf (2*m+1)) _ _ _ _ _ _=_;unfold xb;rw[bj b,aU b];simp only[au,ag,ed];rw[show((i:Int)+1).toNat=i+1 by omega];have cE:∀c,(nf (2*m+1)).cE l (a:Int) c (i:Int) l (l.length:Int) (i:Int) (I aB l i)=BW (nf (2*m)) l (a:Int) c (i:Int) l (l.length:Int) (i:Int) (I aB l i):=fun _=>rfl
  rw[cE,cE,c0 _ (by omega)];have h1:=d 1 (by omega);have g:=d (b1 l i+1) (by omega);rw[show((1:Nat):Int)=1 from rfl]at h1;rw[h1,g];unfold yS
  cases i with
  |zero=>
   simp only[nD,ay];have:b1 l (0+1)=b1 l 0+1:=by simp[b1]
   rw[this]
  |succ i=>
   rw[nC b (by omega)];simp only[nE,au,ag];show cond (dK l i != dK l (i+1)) _ _=_;by_cases he:dK l i=dK l (i+1)
   ·rw[dA he];have:b1 l (i+1+1)=b1 l (i+1)+1:=by rw[b1,bd (by simp[he])]
    rw[this];rfl
   ·rw[cY he];have:b1 l (i+1+1)=1:=by rw[b1,bg ⟨by omega,by simpa using he⟩]
    rw[this];rfl) 9223372036854775808 (by omega)
 rw[afK,kJ]at this;exact this
def yT(a b c:Int):jC aB.D:=fun s=>(eE s).bind fun p=>(kD p.1).map fun x=>((a,b,c,x,()),p.2)
def yU(a b:Int):jC aB.D:=fun s=>(cp s).bind fun c=>yT a b c.1 c.2
def yV(a:Int):jC aB.D:=fun s=>(cp s).bind fun b=>yU a b.1 b.2
def l9:jC aB.D:=fun s=>(cp s).bind fun a=>yV a.1 a.2
def gO:Nat->cr->Option (List aB.D)
 |_,[]=>some []
 |0,_::_=>none
 |n+1,b::t=>(l9 (b::t)).bind fun a=>(gO n a.2).map fun l=>a.1::l
def iy(l:List aB.D):Bool:=Gv l 2
def ln:cr->Option (List aB.D)
 | []=>none
 |a::t=>if a=102 then(gO t.length t).bind fun l=>if iy l then some l else none else none
def vY:Option (List aB.D)->List aB.D×Bool×Unit
 |none=>([],false,())
 |some l=>(l,true,())
def pt(x:aB.D):cr:=eQ x.1++eQ x.2.1++eQ x.2.2.1++iU (mU x.2.2.2.1)
def ali{p:cr}{x:aL.D}(h:kD p=some x):p=mU x/\eJ x=true:=by
 unfold kD at h;split at h
 ·rename_i b ai;split at h
  ·rename_i a;obtain rfl:=aS h;have:=(Yn ai).1;rw[dn]at this;exact⟨this,a⟩
  ·cases h
 ·cases h
def Ov{s r:cr}{x:aB.D}(h:l9 s=some (x,r)):s=pt x++r/\r.length<s.length:=by unfold l9 yV yU yT at h;obtain⟨a,e,h⟩:=a6 h;obtain⟨b,hb,h⟩:=a6 h;obtain⟨c,hc,h⟩:=a6 h;obtain⟨p,ai,h⟩:=a6 h;rw[Option.map_eq_some_iff]at h;obtain⟨g,i,h⟩:=h;rw[fj]at h;obtain⟨rfl,rfl⟩:=h;obtain⟨_,_,j,m⟩:=nR e;obtain⟨_,_,k,n⟩:=nR hb;obtain⟨_,_,l,o⟩:=nR hc;obtain⟨_,d,q,_⟩:=Gm ai;refine⟨?_,by omega⟩;show s=eQ a.1++eQ b.1++eQ c.1++iU (mU g)++p.2;rw[<-(ali i).1];unfold iU;simp only[dW];simp only[dW]at d;rw[<-d,<-l,<-k];exact j
def Ow:∀(n:Nat) (t:cr) (l:List aB.D),gO n t=some l->t=(l.map pt).flatten/\l.length<=t.length
 |_,[],l,h=>by unfold gO at h;obtain rfl:=aS h;exact⟨rfl,bu _⟩
 |0,b::t,l,h=>by unfold gO at h;cases h
 |n+1,b::t,l,h=>by unfold gO at h;obtain⟨a,d,h⟩:=a6 h;rw[Option.map_eq_some_iff]at h;obtain⟨l',hl,rfl⟩:=h;obtain⟨h1,g⟩:=Ov (x:=a.1) (r:=a.2) d;obtain⟨e,i⟩:=Ow n a.2 l' hl;refine⟨?_,by rw[b2];omega⟩;rw[dh,kH,<-e];exact h1
def Ys(l:List aB.D)(hl:l.length<=1048576):BY (l,())=some (iy l,()):=by show JQ l=_;unfold JQ;rw[show BX (l,2,())=_ from alh l 2 (by omega) (by omega) hl];rfl
def Yt(m:Nat)(t:cr)(acc:List aB.D):nh (m+1) (t,true,()) acc=some ([],false,()):=by show ng (nh m) (t,true,()) acc=_;unfold ng;cases (!(bm t []))<;>rfl
def alj:∀(n m:Nat) (s:cr) (acc:List aB.D),s.length<=n->n+1<m->acc.length+s.length<=1048576 →
  nh m (s,false,()) acc=some (vY ((gO n s).bind fun l=>if iy (acc++l) then some (acc++l) else none)):=by
 intro n
 induction n with
 |zero=>intro m s acc hn hm hl;have hs:s=[]:=List.length_eq_zero_iff.1 (by omega);subst hs;obtain⟨m,rfl,_⟩:=fuel (show 0<m by omega);show ng (nh m) ([],false,()) acc=_;unfold ng;rw[Ys _ (by omega),show(!bm (([]:cr),false,()).1 [])=false from rfl];simp only[ay,ag,gO,dn];cases iy acc<;>rfl
 |succ n k=>
  intro m s acc hn hm hl;obtain⟨m,rfl,_⟩:=fuel (show 0<m by omega)
  cases s with
  |nil=>show ng (nh m) ([],false,()) acc=_;unfold ng;rw[Ys _ (by omega),show(!bm (([]:cr),false,()).1 [])=false from rfl];simp only[ay,ag,gO,dn];cases iy acc<;>rfl
  |cons d t=>
   show ng (nh m) (d::t,false,()) acc=_;unfold ng;rw[show(!bm (d::t,false,()).1 [])=true from by rw[tI];simp];simp only[au,cR];rw[b2]at hn hl;have o:yK (some (d::t)) (d::t,false,()):=⟨rfl,by rw[b2];omega⟩;obtain⟨a,F,u,h,_⟩:=tM o;obtain⟨b,G,v,i2,_⟩:=tM h.1;obtain⟨c,H,w,i,_⟩:=tM i2.1;obtain⟨p,y,z,A,ai⟩:=Gn i.1;rw[u];simp only[ag];rw[v];simp only[ag];rw[w];simp only[ag];rw[z];simp only[ag];rw[ala p ai];simp only[ag];rw[bX (by simp only[b2,cU];omega)];simp only[au]
   have g:pr ((some (d::t)).bind fun s=>(cp s).bind fun a=>(fun a s=>(cp s).bind fun b=>(fun b s=>(cp s).bind fun c=>(fun c s=>(eE s).map fun p=>((a,b,c,p.1),p.2)) c.1 c.2) b.1 b.2) a.1 a.2) (a,b,c,p) y:=
    q2 (q:=fun a s=>(cp s).bind fun b=>(fun b s=>(cp s).bind fun c=>(fun c s=>(eE s).map fun p=>((a,b,c,p.1),p.2)) c.1 c.2) b.1 b.2) h
     (q2 (q:=fun b s=>(cp s).bind fun c=>(fun c s=>(eE s).map fun p=>((a,b,c,p.1),p.2)) c.1 c.2) i2
      (q2 (q:=fun c s=>(eE s).map fun p=>((a,b,c,p.1),p.2)) i (Yh (f:=fun p=>(a,b,c,p)) A)))
   have e:l9 (d::t)=((some (d::t)).bind fun s=>(cp s).bind fun a=>(fun a s=>(cp s).bind fun b=>(fun b s=>(cp s).bind fun c=>(fun c s=>(eE s).map fun p=>((a,b,c,p.1),p.2)) c.1 c.2) b.1 b.2) a.1 a.2).bind fun q=>(kD q.1.2.2.2).map fun x=>((q.1.1,q.1.2.1,q.1.2.2.1,x,()),q.2):=by
    unfold l9 yV yU yT;simp only[ag]
    cases cp (d::t)with
    |none=>rfl
    |some B=>
    simp only[ag]
    cases cp B.2 with
    |none=>rfl
    |some C=>
    simp only[ag]
    cases cp C.2 with
    |none=>rfl
    |some D=>
    simp only[ag]
    cases eE D.2 with
    |none=>rfl
    |some I=>rfl
   revert g e;generalize ((some (d::t)).bind fun s=>(cp s).bind fun a=>(fun a s=>(cp s).bind fun b=>(fun b s=>(cp s).bind fun c=>(fun c s=>(eE s).map fun p=>((a,b,c,p.1),p.2)) c.1 c.2) b.1 b.2) a.1 a.2)=O;intro g e;obtain⟨m,rfl,_⟩:=fuel (show 0<m by omega);have j:gO (n+1) (d::t)=(l9 (d::t)).bind fun a=>(gO n a.2).map fun l=>a.1::l:=by rw[gO]
   cases O with
   |none=>obtain⟨E,rfl,_⟩:=g.1;rw[j,e];exact Yt m E _
   |some q=>
    obtain⟨⟨J,K,L,M⟩,r⟩:=q;have hv:=g.2 _ rfl;simp only[fj]at hv;obtain⟨rfl,rfl,rfl,rfl⟩:=hv;obtain⟨rfl,_⟩:=g.1;simp only[ay];rw[j];simp only[ag]at e
    cases hc:kD p with
    |none=>rw[hc]at e;rw[e];exact Yt m r _
    |some x=>
     rw[hc]at e;rw[e];have hr:=(Ov e).2;rw[b2]at hr;refine Eq.trans (k (m+1) r (acc++[(a,b,c,x,())]) (by omega) (by omega) (by simp only[bZ,b2,cU];omega)) ?_;simp only[fe,ag]
     cases gO n r with
     |none=>rfl
     |some l=>simp only[ag,fe,dW,pA]
def alk(s:cr)(hs:s.length<=1048576):JR (s,())=some (vY (ln s)):=by
 show B0 (nh aC) s=_;unfold B0
 cases s with
 |nil=>rfl
 |cons a t=>
  rw[show bm (a::t) []=false from by rw[tI];simp];simp only[ay];rw[show ax (a::t).length 0=some 0 from by rw[show(0:Int)=((0:Nat):Int) from rfl];exact aU (by simp)];simp only[ag];rw[show((a::t).getD 0 0)=a from rfl];rw[ln];by_cases b:a=102
  ·rw[bg b,show((a.toNat:Int) != 102)=false from by rw[b];rfl];simp only[ay];rw[show cZ (a::t).length 1 ((a::t).length:Int)=some (1,(a::t).length) from Oq (n:=(a::t).length) (c:=1) (by simp)];simp only[ag];rw[o_,List.drop_one,List.tail_cons];rw[b2]at hs;rw[alj t.length aC t [] (bu _) (by rw[dj];omega) (by simp;omega)];simp only[jH]
  ·rw[bd b,show((a.toNat:Int) != 102)=true from by
    rw[bne_iff_ne];intro h;apply b;have:a.toNat=102:=by omega
    exact UInt8.toNat_inj.1 this]
   rfl
def pv(l:List aB.D):cr:=102 ::(l.map pt).flatten
def Gz{n:Int}(h:0<=n/\n<=127):(eQ n).length<=1:=by unfold eQ;rw[bg (cL.2 ⟨h.1,Int.le_trans h.2 (by decide)⟩)];exact Gt 1 _ (by omega) (by omega)
def Ox{n:Int}(h:0<=n/\n<=2000001):(eQ n).length<=3:=by
 have e:(128:Nat)^3=2097152:=by decide
 unfold eQ;rw[bg (cL.2 ⟨h.1,Int.le_trans h.2 (by decide)⟩)];exact Gt 3 _ (by rw[e];omega) (by omega)
def Oy{p:cr}(h:p.length<=127):(iU p).length<=1+p.length:=by unfold iU;have:=Gz (n:=(p.length:Int)) ⟨by omega,by omega⟩;simp only[bZ];omega
def Yu{x:Int}(h : -1000000<=x/\x<=1000000):(kC x).length<=3:=by
 unfold kC;split
 ·exact Ox (by omega)
 ·exact Ox (by omega)
def Yv{x:aL.D}(h:eJ x=true):(mU x).length<=194:=by have a:=qL.1 h;have hk:=a.cX;have h1:=Gz (n:=aF x) ⟨by omega,by omega⟩;have b:x.2.1.length<=60:=a.path;have d:x.2.2.1.length<=60:=a.nM;have g:x.2.2.2.2.2.1.length<=64:=a.gD;have i:=Oy (p:=x.2.1) (by omega);have j:=Oy (p:=x.2.2.1) (by omega);have k:=Yu a.n;have l:=Yu a.m;have m:=Oy (p:=x.2.2.2.2.2.1) (by omega);have e:mU x=eQ (aF x)++iU x.2.1++iU x.2.2.1++kC (bM x)++kC (dV x)++iU x.2.2.2.2.2.1:=rfl;rw[e];simp only[bZ];omega
def eF(x:aB.D):Int:=x.1
def ec(x:aB.D):Int:=x.2.1
def eR(x:aB.D):Int:=x.2.2.1
def q3{x:aB.D}(h:ix x=true):(0<=eF x/\eF x<=2)/\(1<=ec x/\ec x<=3)/\(1<=eR x/\eR x<=1000000)/\eJ x.2.2.2.1=true:=by unfold ix at h;simp only[bs,cL]at h;exact⟨h.1.1.1,h.1.1.2,h.1.2,h.2⟩
def Yw{x:aB.D}(h:ix x=true):(pt x).length<=206:=by obtain⟨h1,b,d,a⟩:=q3 h;have g:=Gz (n:=eF x) ⟨by omega,by omega⟩;have i:=Gz (n:=ec x) ⟨by omega,by omega⟩;have j:=Ox (n:=eR x) ⟨by omega,by omega⟩;have k:=yR (mU x.2.2.2.1);have l:=Yv a;have e:pt x=eQ (eF x)++eQ (ec x)++eQ (eR x)++iU (mU x.2.2.2.1):=rfl;rw[e];simp only[bZ];omega
def tO{l:List aB.D}(h:iy l=true){x:aB.D}(a:x∈l):ix x=true:=by obtain⟨i,b,rfl⟩:=eC a;have:=fN.1 h i b;unfold nT at this;simp only[bs]at this;exact this.1.1
def alm{l:List aB.D}:(∀x,x∈l->ix x=true)->((l.map pt).flatten).length<=l.length*206:=by
 induction l with
 |nil=>intro _;simp
 |cons x l a=>
  intro h;rw[dh,kH,bZ,b2,de];have:=a fun b d=>h b (by simp[d])
  have:=Yw (h x (by simp));omega
def aln{a b:Int}(h:¬a>b)(d:a≠b):a+1<=b:=by omega
def yW{l:List aB.D}(h:iy l=true):l.length<=6:=by
 have ai:=fN.1 h
 have mono:∀i,i+1<l.length->dK l i<=dK l (i+1):=by
  intro i a;have:=ai (i+1) a;unfold nT at this;simp only[bs,eT,ji,hH,iD]at this;rcases this.1.2 with h|h
  ·omega
  ·exact Int.not_lt.1 h
 have two:∀i,i+2<l.length->dK l i≠dK l (i+2):=by
  intro i a;have:=ai (i+2) a;unfold nT at this;simp only[bs,eT,ji,hH,iD]at this;rcases this.2 with h|h
  ·omega
  ·intro e;rw[e]at h;simp at h
 have up:∀i,i+2<l.length->dK l i+1<=dK l (i+2):=fun i a=>aln (fun h=>by have h1:=mono i (by omega);have k:dK l (i+1)<=dK l (i+2):=mono (i+1) (by omega);omega) (two i a)
 have rg:∀i,i<l.length->0<=dK l i/\dK l i<=2:=fun i a=>(q3 (tO h (cI a))).1
 rcases ff 6 l.length with b|b
 ·have m:=rg 0 (by omega);have d:=up 0 (by omega);have g:=up 2 (by omega);have j:=up 4 (by omega);have n:=rg 6 (by omega);simp only[bE]at d;rw[show 2+2=4 from rfl]at g;rw[show 4+2=6 from rfl]at j;omega
 ·exact b
def alo{l:List aB.D}(h:iy l=true):(pv l).length<=1237:=by
 have h1:=yW h;have b:=alm (l:=l) fun x a=>tO h a
 have d:l.length*206<=6*206:=c3 _ h1;unfold pv;rw[b2];omega
def alp(l:List aB.D)(hl:l.length<=1048576):Kq (l,())=some (iy l,()):=by show Kp l=_;unfold Kp;rw[show CS (l,2,())=_ from alg l 2 (by omega) hl];rfl
def alq{x:aB.D}(h:ix x=true):Kw (x,())=some (pt x,()):=by obtain⟨_,_,_,a⟩:=q3 h;show Kv x=_;unfold Kv;rw[q1,q1,q1,Ym,a];simp only[ag,au];have b:=tN x.1;have d:=tN x.2.1;have e:=tN x.2.2.1;have g:=yR (mU x.2.2.2.1);have i:=Yv a;rw[Gu _ (by omega)];simp only[ag];rw[bX (by omega),bX (by simp only[bZ];omega),bX (by simp only[bZ];omega)];rfl
def Yx(l:List aB.D)(hl:l.length<=1048576):Kx (l,())=some (if iy l then pv l else [],()):=by
 show CV (sI aC) l=_;unfold CV;rw[alp l hl];simp only[ag]
 cases h:iy l with
 |false=>rfl
 |true=>
  have g:=yW h
  have key:∀(r m i:Nat) (o:cr),i+r=l.length->r<m->o.length<=1+i*206->sI m l o (i:Int)=some (o++((l.drop i).map pt).flatten,()):=by
   intro r
   induction r with
   |zero=>intro m i o b hm d;obtain⟨m,rfl,_⟩:=fuel (show 0<m by omega);show u1 (sI m) l o (i:Int)=_;unfold u1;rw[bI (by omega),gp (by omega)];simp
   |succ r e=>
    intro m i o b hm d;obtain⟨m,rfl,_⟩:=fuel (show 0<m by omega);have a:i<l.length:=by omega
    have hs:=tO h (cI a);have hle:=Yw hs;have:i*206<=6*206:=c3 _ (by omega);show u1 (sI m) l o (i:Int)=_;unfold u1;rw[bj a,aU a];simp only[au,ag];rw[alq hs];simp only[ag];rw[bX (by omega),cm (by omega) (by omega)];simp only[au];refine Eq.trans (e m (i+1) (o++pt (I aB l i)) (by omega) (by omega) (by rw[bZ,de];omega)) ?_;rw[drop_cons a,dh,kH,dW]
  simp only[bJ,ay,if_true];rw[show([102]:af)=[102] from rfl,show(0:Int)=((0:Nat):Int) from rfl,key l.length aC 0 [102] (by omega) (by rw[dj];omega) (by simp),gV];rfl
def alr(s:cr)(hs:s.length<=1600):∀(n m k:Nat) (acc:List aB.D),k<=s.length->s.length-k<=n->n<m->acc.length +(s.length-k)<=1700 →
  ql m s (k:Int) acc=some (vY ((gO n (s.drop k)).bind fun l=>if(if iy (acc++l) then pv (acc++l) else [])=s then some (acc++l) else none)):=by
 intro n
 induction n with
 |zero=>
  intro m k acc hk hn hm I;obtain⟨m,rfl,_⟩:=fuel (show 0<m by omega);have e:s.drop k=[]:=gp (by omega);show qk (ql m) s (k:Int) acc=_;unfold qk;rw[bI (by omega),e,Yx acc (by omega)];simp only[ay,ag,gO,dn];rw[tI];by_cases h:(if iy acc then pv acc else [])=s
  ·rw[bR h,bg h];rfl
  ·rw[bW h,bd h];rfl
 |succ n J=>
  intro m k acc hk hn hm I;obtain⟨m,rfl,_⟩:=fuel (show 0<m by omega);by_cases K:k<s.length
  case neg=>
   have e:s.drop k=[]:=gp (by omega);show qk (ql m) s (k:Int) acc=_;unfold qk;rw[bI (by omega),e,Yx acc (by omega)];simp only[ay,ag,gO,dn];rw[tI];by_cases h:(if iy acc then pv acc else [])=s
   ·rw[bR h,bg h];rfl
   ·rw[bW h,bd h];rfl
  obtain⟨u,t,L⟩:∃u t,s.drop k=u::t:=by
   cases aa:s.drop k with
   |nil=>have:=congrArg List.length aa;simp at this;omega
   |cons u t=>exact⟨u,t,rfl⟩
  show qk (ql m) s (k:Int) acc=_;unfold qk;rw[bj K];simp only[au];have M:Pos s (some (s.drop k)) (k:Int):=⟨k,hk,rfl,rfl⟩;obtain⟨N,Y,P,g⟩:=Gq s (by omega) 3 (by omega) (by omega) M;obtain⟨p,i,Q,d,ai⟩:=Gs s (by omega) g.1;rw[show mz (s,(k:Int),3,())=_ from P];simp only[ag];rw[Q];simp only[ag];rw[alb p (by omega)];simp only[ag];have E:=Ot d.1;rw[E];have T:gO (n+1) (s.drop k)=(l9 (s.drop k)).bind fun a=>(gO n a.2).map fun l=>a.1::l:=by rw[L,gO]
  rw[T]
  have F:∀v,hy cp 3 v=(cp v).bind fun a=>(cp a.2).bind fun b=>(cp b.2).map fun c=>([a.1,b.1,c.1],c.2):=by
   intro v;simp only[hy]
   cases h1:cp v with
   |none=>rfl
   |some a=>
   simp only[ag]
   cases o:cp a.2 with
   |none=>rfl
   |some b=>
   simp only[ag];cases cp b.2<;>rfl
  have no:l9 (s.drop k)=none->i<0\/kD p=none:=by
   intro h;unfold l9 yV yU yT at h;rw[ag,F]at g d
   cases h1:cp (s.drop k)with
   |none=>rw[h1]at d;exact .inl (by rw[show i = -1 from d.1];omega)
   |some w=>
   rw[h1]at h g d;simp only[ag]at h g d
   cases o:cp w.2 with
   |none=>rw[o]at d;exact .inl (by rw[show i = -1 from d.1];omega)
   |some y=>
   rw[o]at h g d;simp only[ag]at h g d
   cases z:cp y.2 with
   |none=>rw[z]at d;exact .inl (by rw[show i = -1 from d.1];omega)
   |some j=>
   rw[z]at h g d;simp only[ag,fe,jf]at h g d
   cases A:eE j.2 with
   |none=>rw[A]at d;exact .inl (by rw[show i = -1 from d.1];omega)
   |some G=>
   rw[A]at h d;simp only[ag]at h;have:=d.2 _ rfl;rw[<-this]at h
   cases hc:kD p with
   |none=>exact .inr rfl
   |some x=>rw[hc]at h;simp at h
  have yes:∀x r,l9 (s.drop k)=some (x,r)->∃k':Nat,k'<=s.length/\i=(k':Int)/\r=s.drop k'/\N=[x.1,x.2.1,x.2.2.1]/\kD p=some x.2.2.2.1:=by
   intro x r h;unfold l9 yV yU yT at h;obtain⟨w,h1,h⟩:=a6 h;obtain⟨y,o,h⟩:=a6 h;obtain⟨j,z,h⟩:=a6 h;obtain⟨G,A,h⟩:=a6 h;rw[Option.map_eq_some_iff]at h;obtain⟨c,hc,h⟩:=h;rw[fj]at h;obtain⟨rfl,rfl⟩:=h;have U:(some (s.drop k)).bind (hy cp 3)=some ([w.1,y.1,j.1],j.2):=by rw[ag,F,h1];simp only[ag];rw[o];simp only[ag];rw[z];rfl
   rw[U]at g d;have V:(jf (some ([w.1,y.1,j.1],j.2))).bind eE=some G:=A;rw[V]at d;obtain⟨k',H,B,C⟩:=d.1;exact⟨k',H,B,C,g.2 _ rfl,by rw[d.2 _ rfl];exact hc⟩
  rw[<-E]
  cases D:l9 (s.drop k)with
  |none=>
   rcases no D with h|h
   ·rw[bR h];rfl
   ·rw[h];cases decide (i<0)<;>rfl
  |some q=>
   obtain⟨x,r⟩:=q;obtain⟨k',H,B,C,W,X⟩:=yes x r D;subst B C W;have hr:=(Ov D).2;rw[fS,fS]at hr;rw[bW (show ¬(k':Int)<0 by omega),X];simp only[ay,yQ,bJ];rw[show ax ([x.1,x.2.1,x.2.2.1]:List Int).length 0=some 0 from rfl,show ax ([x.1,x.2.1,x.2.2.1]:List Int).length 1=some 1 from rfl,show ax ([x.1,x.2.1,x.2.2.1]:List Int).length 2=some 2 from rfl];simp only[ag];rw[bX (by simp only[b2,cU];omega)];simp only[au];refine Eq.trans (J m k' (acc++[x]) (by omega) (by omega) (by omega) (by simp only[bZ,b2,cU];omega)) ?_
   cases gO n (s.drop k')with
   |none=>rfl
   |some l=>simp only[ag,fe,dW,pA]
def als(s:cr):KC (s,())=some (vY (ln s)):=by
 show CZ (ql aC) s=_;unfold CZ
 cases s with
 |nil=>rfl
 |cons a t=>
  rw[bO (show((a::t).length:Int)≠0 by rw[b2];omega)];simp only[ay]
  have fact:∀l,gO t.length t=some l->((if iy l then pv l else [])=a::t↔iy l=true/\a=102):=by
   intro l h;have h1:=(Ow _ _ _ h).1
   cases d:iy l with
   |false=>simp
   |true=>
    simp only[if_true,pv];rw[<-h1];constructor
    ·intro e;exact⟨trivial,(List.cons.inj e).1.symm⟩
    ·rintro⟨_,rfl⟩;rfl
  by_cases hl:(a::t).length<=1600
  ·rw[bW (show ¬((a::t).length:Int)>1600 by omega)];simp only[ay];have hlen:(a::t).length=t.length+1:=b2;rw[show(1:Int)=((1:Nat):Int) from rfl,alr (a::t) hl t.length aC 1 [] (by omega) (by omega) (by rw[dj];omega) (by simp only[cU];omega),List.drop_one,List.tail_cons,ln]
   cases ai:gO t.length t with
   |none=>simp
   |some l=>
    have:=fact l ai;simp only[ag,jH];by_cases b:a=102
    ·rw[bg b]
     cases d:iy l with
     |false=>rw[d]at this;rw[bd (fun h=>by have:=(this.1 h).1;simp at this),bd (by simp)]
     |true=>rw[d]at this;rw[bg (this.2 ⟨rfl,b⟩),bg rfl]
    ·rw[bd b,bd (fun h=>b (this.1 h).2)]
  ·rw[bR (show((a::t).length:Int)>1600 by omega),ln];simp only[au];by_cases b:a=102
   ·rw[bg b]
    cases ai:gO t.length t with
    |none=>rfl
    |some l=>
     simp only[ag]
     cases d:iy l with
     |false=>rfl
     |true=>have h1:=(Ow _ _ _ ai).1;have g:=alo d;unfold pv at g;rw[<-h1,b2]at g;rw[b2]at hl;omega
   ·rw[bd b];rfl
noncomputable def gP(t:cM)(c bC:Int)(x:aL.D)(index:Int):cM×aA.D×Bool:=
 match nv (t,c,bC,x,index,())with
 |some a=>(a.1,a.2.1,a.2.2.1)
 |none=>(t,(0,[],()),false)
def GA{t:cM}(c bC:Int)(x:aL.D)(index:Int)(h:er t=true):
  nv (t,c,bC,x,index,())=some ((gP t c bC x index).1,(gP t c bC x index).2.1,(gP t c bC x index).2.2,()) ∧
  uV (t,c,bC,x,index,())=some ((gP t c bC x index).2.1,(gP t c bC x index).2.2,(gP t c bC x index).1,()) ∧
  nQ t c bC x index (gP t c bC x index).1 (gP t c bC x index).2.1 (gP t c bC x index).2.2:=by
 obtain⟨e,r,b,a,d,aa⟩:=akF t c bC x index h;unfold gP;rw[a,d];exact⟨rfl,rfl,aa⟩
def GB{t:cM}(c bC:Int)(x:aL.D)(index:Int)(h:er t=true):er (gP t c bC x index).1=true:=(GA c bC x index h).2.2.ok h
def GC{s:cr}{l:List aB.D}(h:ln s=some l):iy l=true:=by
 cases s with
 |nil=>rw[ln]at h;cases h
 |cons b t=>
  rw[ln]at h;split at h
  ·obtain⟨k,_,h⟩:=a6 h;split at h
   ·rename_i a;rw[<-aS h];exact a
   ·cases h
  ·cases h
def Oz{t:U}(x:t.D)(h:t.cost x<=3100000)(hl:t.h6<=1000):t.wt x<=10000000000:=by have h1:=U.vU t x;have a:t.h6*(1+t.cost x)<=1000*3100001:=Nat.mul_le_mul hl (by omega);omega
def alu{t:cM}(h:er t=true):U.cost ak t<=100000:=by
 obtain⟨a,_,b,d⟩:=iS h;have h1:=Xt (tx.1 d).sz;have e:=tL b;have g:=qX a;have i:=X6 t.2.2.2.1 fun s hs=>cw (Gk (Gj h hs)) (by decide)
 have j:t.2.2.2.1.length*1001<=3*1001:=c3 _ g;rw[Ge,X4];exact cw (Nat.add_le_add h1 (Nat.add_le_add e (cw i j))) (by decide)
def alv(l:List aK.D)(c:Int)(s:aK.D)(hs:fB s=c):fA (h8 l c s) c=s:=by
 have hle:=tJ l c;have d:=Ya l c
 have g:dd (h8 l c s) c=dd l c/\dd l c<(h8 l c s).length/\I aK (h8 l c s) (dd l c)=s:=by
  unfold h8
  cases hb:gb l c with
  |true=>
   obtain⟨a,m⟩:=Om.1 hb;simp only[au];refine⟨?_,by rw[bL];exact a,rI a⟩;have e:l.set (dd l c) s=l.take (dd l c)++s::l.drop (dd l c+1):=by rw[List.set_eq_take_append_cons_drop,bg a]
   rw[e];show((l.take (dd l c)++s::l.drop (dd l c+1)).takeWhile fun s=>decide (s.1<c)).length=_
   rw[List.takeWhile_append_of_pos (fun x b=>bR (show x.1<c from d x b)),List.takeWhile_cons,bd (by
    rw[ei];intro h;have:fB s<c:=h
    omega),dn,dX]
   omega
  |false=>
   simp only[ay];refine⟨?_,by simp only[bZ,dX,jE,fS];omega,?_⟩
   ·show((l.take (dd l c)++[s]++l.drop (dd l c)).takeWhile fun s=>decide (s.1<c)).length=_
    rw[dW,List.takeWhile_append_of_pos (fun x b=>bR (show x.1<c from d x b)),pA,List.takeWhile_cons,bd (by
     rw[ei];intro h;have:fB s<c:=h
     omega),dn,dX]
    omega
   ·rw[cC (by simp only[bZ,dX,jE,fS];omega),List.getElem_append_left (by simp only[bZ,dX,jE];omega),List.getElem_append_right (by rw[dX];omega)];simp
 obtain⟨i,j,k⟩:=g;unfold fA gb;rw[i,k,bR j,show(s.1==c)=true from cf hs];rfl
abbrev gQ:Type:=List ak.D
def fC(l:gQ):Bool:=dv l.length (fun i=>er (I ak l i))&&decide (l.length=3)
def ke{l:gQ}:fC l=true↔(∀i,i<l.length->er (I ak l i)=true)/\l.length=3:=by unfold fC;rw[bs,fN,ei]
def Yy{l:gQ}{i j:Nat}{y:cM}(a:i<l.length):I ak (l.set i y) j=if i=j then y else I ak l j:=by
 unfold I;simp only[List.getD_eq_getElem?_getD,List.getElem?_set];split
 ·rename_i h;subst h;simp[a]
 ·rfl
def Yz{l:gQ}{i:Nat}{y:cM}(h:fC l=true)(b:er y=true):fC (l.set i y)=true:=by
 obtain⟨h1,d⟩:=ke.1 h;rw[ke,bL];refine⟨fun j a=>?_,d⟩;by_cases e:i<l.length
 ·rw[Yy e];split
  ·exact b
  ·exact h1 j a
 ·rw[List.set_eq_of_length_le (by omega)];exact h1 j a
def YA{l:gQ}(hc:U.cost (.sl ak) l<=1048576){i:Nat}(a:i<l.length):U.cost ak (I ak l i)<=1048576:=by have:=k9 (t:=ak) a;omega
def alw(l:gQ)(hc:U.cost (.sl ak) l<=1048576):Iu (l,())=some (fC l,()):=by
 have hl:l.length<=1048576:=cw (fH l) hc;show AH (r2 aC) l=_;unfold AH fC;refine jN l.length (by omega) (fun i=>er (I ak l i)) _ (fun m i=>r2 m l l (l.length:Int) i) ?_ ?_
 ·intro m _;simp only[r2,AI];rw[bI (bu _)];by_cases h:l.length=3
  ·rw[bR h,cf (show(l.length:Int)=3 by omega)];rfl
  ·rw[bW h,bO (show(l.length:Int)≠3 by omega)];rfl
 ·intro m i a _ b;simp only[r2,AI,b];rw[bj a,aU a];simp only[au,ag];rw[akh _ (YA hc a)];simp only[ag];cases er (I ak l i)<;>rfl
def alx(l:gQ)(hc:U.cost (.sl ak) l<=1048576):Kl (l,())=some (fC l,()):=by
 have hl:l.length<=1048576:=cw (fH l) hc;show CL (sG aC) l=_;unfold CL fC;by_cases h:l.length=3
 case neg=>rw[bW h,cY (show(l.length:Int)≠3 by omega),Bool.and_false];rfl
 rw[bR h,dA (show(l.length:Int)=3 by omega)];refine jN l.length (by omega) (fun i=>er (I ak l i)) _ (fun m i=>sG m l i) ?_ ?_
 ·intro m _;simp only[sG,CM];rw[bI (bu _)];rfl
 ·intro m i a _ b;simp only[sG,CM,b];rw[bj a,aU a];simp only[au,ag];rw[akg _ (YA hc a)];simp only[ag];cases er (I ak l i)<;>rfl
def YB{t:U}{l:List t.D}{i:Nat}(a:i<l.length):l.take i++[I t l i]=l.take (i+1):=by rw[hD a,cC a]
def aly{l:gQ}(h:fC l=true)(hc:U.cost (.sl ak) l<=1048576):Ix (l,())=some (l,()):=by
 obtain⟨h1,g⟩:=ke.1 h
 have key:∀r m i,i+r=l.length->r<m->uM m l (l.length:Int) (i:Int) (l.take i)=some (l,()):=by
  intro r
  induction r with
  |zero=>intro m i d hm;obtain⟨m,rfl,_⟩:=fuel (show 0<m by omega);simp only[uM,AM];rw[bI (by omega),List.take_of_length_le (by omega)];rfl
  |succ r e=>
   intro m i d hm;obtain⟨m,rfl,_⟩:=fuel (show 0<m by omega);have b:i<l.length:=by omega
   have hk:=h1 i b;simp only[uM,AM];rw[bj b,aU b,cm (a:=(i:Int)+1) (by omega) (by omega)];simp only[au,ag];rw[aki hk (by have:=tL (iS hk).2.2.1;omega) (by have:=qX (iS hk).1;omega)];simp only[ag];rw[bX (by simp only[dX,b2,cU];omega),YB b];exact e m (i+1) (by omega) (by omega)
 exact key l.length aC 0 (by omega) (by rw[dj];omega)
def alz{l:gQ}(h:fC l=true)(hc:U.cost (.sl ak) l<=1048576):Lo (l,())=some (l,()):=by
 obtain⟨h1,g⟩:=ke.1 h
 have key:∀r m i,i+r=l.length->r<m->ve m l (i:Int) (l.take i)=some (l,()):=by
  intro r
  induction r with
  |zero=>intro m i d hm;obtain⟨m,rfl,_⟩:=fuel (show 0<m by omega);simp only[ve,DX];rw[bI (by omega),List.take_of_length_le (by omega)];rfl
  |succ r e=>
   intro m i d hm;obtain⟨m,rfl,_⟩:=fuel (show 0<m by omega);have b:i<l.length:=by omega
   have hk:=h1 i b;simp only[ve,DX];rw[bj b,aU b,cm (a:=(i:Int)+1) (by omega) (by omega)];simp only[au,ag];rw[akj hk (by have:=tL (iS hk).2.2.1;omega) (by have:=qX (iS hk).1;omega)];simp only[ag];rw[bX (by simp only[dX,b2,cU];omega),YB b];exact e m (i+1) (by omega) (by omega)
 exact key l.length aC 0 (by omega) (by rw[dj];omega)
def kE(l:gQ):Nat->gQ
 |0=>l
 |i+1=>(kE l i).set i (tick (I ak (kE l i) i))
def q4{l:gQ}(h:fC l=true):∀i,i<=3->fC (kE l i)=true
 |0,_=>h
 |i+1,b=>by have h1:=q4 h i (by omega);obtain⟨a,d⟩:=ke.1 h1;exact Yz h1 (akV (a i (by omega)))
abbrev App:Type:=gQ×List bh.D
noncomputable def GD(t:cM)(s:aB.D):bh.D:=(eF s,ec s,eR s,(fA t.2.2.2.1 (ec s)).2.2.1,(fA t.2.2.2.1 (ec s)).2.2.2.1,())
noncomputable def fR(x:Int)(p:App)(s:aB.D):cM×aA.D×Bool:=gP (I ak p.1 (eF s).toNat) (ec s) (eR s) s.2.2.2.1 x
noncomputable def hB(x:Int)(p:App)(s:aB.D):App:=
 (p.1.set (eF s).toNat (fR x p s).1,if(fR x p s).2.2=true\/h9 (fR x p s).1 (ec s)=eR s then p.2++[GD (fR x p s).1 s] else p.2)
def GF{x:Int}{p:App}{s:aB.D}(h:fC p.1=true)(hs:ix s=true):fC (hB x p s).1=true/\(hB x p s).2.length<=p.2.length+1:=by
 obtain⟨h1,a⟩:=ke.1 h;have b:=(q3 hs).1;refine⟨Yz h (GB _ _ _ _ (h1 _ (by omega))),?_⟩;unfold hB;simp only;split
 ·rw[bZ,jE];omega
 ·omega
def YC{x:Int}{p:App}{s:aB.D}(h:fC p.1=true)(hs:ix s=true)(aa:(fR x p s).2.2=true):h9 (fR x p s).1 (ec s)=eR s:=by
 obtain⟨h1,d⟩:=ke.1 h;have e:=(q3 hs).1;have hk:=(GA (ec s) (eR s) s.2.2.2.1 x (h1 (eF s).toNat (by omega))).2.2;unfold fR at aa⊢;revert aa hk;generalize gP (I ak p.1 (eF s).toNat) (ec s) (eR s) s.2.2.2.1 x=a;obtain⟨g,r,b⟩:=a;intro aa hk;simp only at aa hk⊢;subst aa
 cases hk with
 |Gi _ _ t1 _ hr=>unfold h9;show(fA (h8 _ (ec s) (ec s,eR s,x,r,())) (ec s)).2.1=_;rw[alv _ (ec s) _ rfl]
def YD(m:Nat)(a b c d e):(jw (m+1)).c7 a b c d e=DU (jw m) a b c d e:=rfl
def YE(m:Nat)(a b c d e):(jw (m+1)).c4 a b c d e=DV (jw m) a b c d e:=rfl
def alA(m:Nat)(a b c d e f g h):(jw (m+1)).nj a b c d e f g h=Lj (jw m) a b c d e f g h:=rfl
def alB(m:Nat)(a b c d e f g):(jw (m+1)).p7 a b c d e f g=Lk (jw m) a b c d e f g:=rfl
def alC(x:Int)(l:List aB.D)(hl:l.length<=10)(hs:∀s,s∈l->ix s=true):∀(r m k:Nat) (p:App),k+r=l.length->4*r<m->fC p.1=true->p.2.length+r<=100 →
  (jw m).c4 x (k:Int) p.1 p.2 l=some (((l.drop k).foldl (hB x) p).1,((l.drop k).foldl (hB x) p).2,()):=by
 intro r
 induction r with
 |zero=>intro m k p hk hm ai hb;obtain⟨m,rfl,_⟩:=fuel (show 0<m by omega);rw[YE];unfold DV;rw[bI (by omega),gp (by omega)];rfl
 |succ r u=>
  intro m k p hk hm ai hb;obtain⟨m,rfl⟩:∃q,m=q+3:=⟨m-3,by omega⟩
  have b:k<l.length:=by omega
  obtain⟨i,E⟩:=ke.1 ai;have e:=hs _ (tH b);have v:=(q3 e).1;have g:(eF (I aB l k)).toNat<p.1.length:=by omega
  have w:=GF (x:=x) ai e;have j:=fun q (n:4*r<q)=>u q (k+1) (hB x p (I aB l k)) (by omega) n w.1 (by omega)
  obtain⟨y,F,G⟩:=GA (t:=I ak p.1 (eF (I aB l k)).toNat) (ec (I aB l k)) (eR (I aB l k)) (I aB l k).2.2.2.1 x (i _ g);have z:ax p.1.length (I aB l k).1=some (eF (I aB l k)).toNat:=by have:=aU g;rwa[show(((eF (I aB l k)).toNat:Nat):Int)=(I aB l k).1 from Int.toNat_of_nonneg v.1]at this
  have A:=GB (ec (I aB l k)) (eR (I aB l k)) (I aB l k).2.2.2.1 x (i _ g);have B:=YC (x:=x) ai e;rw[drop_cons b,List.foldl_cons,YE];unfold DV;rw[bj b,aU b];simp only[au,ag,bE];rw[z];simp only[ag,bE];rw[show nv (I ak p.1 (eF (I aB l k)).toNat,(I aB l k).2.1,(I aB l k).2.2.1,(I aB l k).2.2.2.1,x,())=_ from y];simp only[ag,m7,zS,Nat.beq_refl,au];rw[alA];unfold Lj;rw[XQ _ _ (by have:=qX (iS A).1;omega)];simp only[ag];have d:hB x p (I aB l k)=(p.1.set (eF (I aB l k)).toNat (fR x p (I aB l k)).1,if(fR x p (I aB l k)).2.2=true\/h9 (fR x p (I aB l k)).1 (ec (I aB l k))=eR (I aB l k) then p.2++[GD (fR x p (I aB l k)).1 (I aB l k)] else p.2):=rfl;have o:=cm (a:=(k:Int)+1) (by omega) (by omega)
  have C:∀q,4*r<q->(jw (q+1)).p7 x (k:Int) (p.1.set (eF (I aB l k)).toNat (fR x p (I aB l k)).1) p.2 l (I aB l k) (fA (fR x p (I aB l k)).1.2.2.2.1 (ec (I aB l k))) =
    (jw q).c4 x ((k:Int)+1) (p.1.set (eF (I aB l k)).toNat (fR x p (I aB l k)).1) (p.2++[GD (fR x p (I aB l k)).1 (I aB l k)]) l:=by
   intro q n;rw[alB];unfold Lk R4;rw[bX (by simp only[b2,cU];omega),o];rfl
  by_cases hc:(fR x p (I aB l k)).2.2=true\/h9 (fR x p (I aB l k)).1 (ec (I aB l k))=eR (I aB l k)
  ·rw[bg hc]at d;have D:h9 (fR x p (I aB l k)).1 (ec (I aB l k))=eR (I aB l k):=hc.elim B (fun h=>h);have he:(jw (m+1)).p7 x (k:Int) (p.1.set (eF (I aB l k)).toNat (fR x p (I aB l k)).1) p.2 l (I aB l k) (fA (fR x p (I aB l k)).1.2.2.2.1 (ec (I aB l k)))=some (((l.drop (k+1)).foldl (hB x) (hB x p (I aB l k))).1,((l.drop (k+1)).foldl (hB x) (hB x p (I aB l k))).2,()):=by rw[C m (by omega)];have:=j m (by omega);rw[d]at this⊢;exact this
   rw[show((fA (gP (I ak p.1 (eF (I aB l k)).toNat) (ec (I aB l k)) (eR (I aB l k)) (I aB l k).2.2.2.1 x).1.2.2.2.1 (I aB l k).2.1).2.1 ==(I aB l k).2.2.1)=true from cf D]
   cases (gP (I ak p.1 (eF (I aB l k)).toNat) (ec (I aB l k)) (eR (I aB l k)) (I aB l k).2.2.2.1 x).2.2 with
   |true=>exact he
   |false=>exact he
  ·rw[bd hc]at d
   rw[show((fA (gP (I ak p.1 (eF (I aB l k)).toNat) (ec (I aB l k)) (eR (I aB l k)) (I aB l k).2.2.2.1 x).1.2.2.2.1 (I aB l k).2.1).2.1 ==(I aB l k).2.2.1)=false from bO fun h=>hc (.inr h),
    show(gP (I ak p.1 (eF (I aB l k)).toNat) (ec (I aB l k)) (eR (I aB l k)) (I aB l k).2.2.2.1 x).2.2=false from Bool.eq_false_iff.2 fun h=>hc (.inl h)]
   have:=j (m+1) (by omega);rw[d]at this⊢;rw[o];exact this
def alD(x:Int)(l:List aB.D)(s:gQ)(h:fC s=true):∀(r m i:Nat),i+r=3->r<m →
  (jw m).c7 x (i:Int) (kE s i) ([]:List bh.D) l=(jw (m-r-1)).c4 x 0 (kE s 3) ([]:List bh.D) l:=by
 intro r
 induction r with
 |zero=>intro m i d hm;obtain⟨m,rfl,_⟩:=fuel (show 0<m by omega);have j:=(ke.1 (q4 h i (by omega))).2;rw[YD];unfold DU;rw[bI (by omega),show i=3 by omega];rfl
 |succ r e=>
  intro m i d hm;obtain⟨m,rfl,_⟩:=fuel (show 0<m by omega);have hk:=q4 h i (by omega);obtain⟨g,k⟩:=ke.1 hk;have b:i<(kE s i).length:=by omega
  rw[YD];unfold DU;rw[bj b,aU b];simp only[au,ag,bE];rw[akU (iS (g i b)).2.1];simp only[ag];unfold R3;rw[cm (a:=(i:Int)+1) (by omega) (by omega),show m+1-(r+1)-1=m-r-1 by omega];exact e m (i+1) (by omega) (by omega)
noncomputable def mV(s:gQ)(text:cr)(x:Int):App:=match ln text with
 |none=>(s,[])
 |some l=>l.foldl (hB x) (kE s 3,[])
def alE(s:gQ)(text:cr)(x:Int)(h:fC s=true):Ll (s,text,x,())=some ((mV s text x).1,(mV s text x).2,()):=by
 show DT (jw aC) s text x=_;unfold DT mV;rw[als];simp only[ag]
 cases hr:ln text with
 |none=>rfl
 |some l=>have a:=GC hr;have d:=yW a;simp only[vY,bJ,ay];have h1:=alD x l s h 3 aC 0 (by omega) (by rw[dj];omega);refine Eq.trans h1 ?_;have:=alC x l (by omega) (fun e b=>tO a b) l.length (aC-3-1) 0 (kE s 3,[]) (by omega) (by rw[dj];omega) (q4 h 3 (by omega)) (by simp only[cU];omega);rw[gV]at this;exact this
def YF(m:Nat)(a b c d e):(ni (m+1)).a_ a b c d e=B3 (ni m) a b c d e:=rfl
def YG(m:Nat)(a b c d e f):(ni (m+1)).cn a b c d e f=B4 (ni m) a b c d e f:=rfl
def alF(t:cM)(a c:Int)(hl:t.2.2.2.1.length<=1048576):B1 (t,a,c,())=some ((a,c,(fA t.2.2.2.1 c).2.1,(fA t.2.2.2.1 c).2.2.1,(fA t.2.2.2.1 c).2.2.2.1,()),()):=by show JU t a c=_;unfold JU;rw[Ob t c hl];rfl
def alG(x:Int)(l:List aB.D)(hl:l.length<=10)(hs:∀s,s∈l->ix s=true):∀(r m k:Nat) (p:App),k+r=l.length->r<m->fC p.1=true->p.2.length+r<=100 →
  (ni m).cn x (l.length:Int) (k:Int) p.1 p.2 l=some (((l.drop k).foldl (hB x) p).2,((l.drop k).foldl (hB x) p).1,()):=by
 intro r
 induction r with
 |zero=>intro m k p hk hm ai hb;obtain⟨m,rfl,_⟩:=fuel (show 0<m by omega);rw[YG];unfold B4;rw[bI (by omega),gp (by omega)];rfl
 |succ r o=>
  intro m k p hk hm ai hb;obtain⟨m,rfl,_⟩:=fuel (show 0<m by omega);have d:k<l.length:=by omega
  obtain⟨j,C⟩:=ke.1 ai;have i:=hs _ (tH d);have q:=(q3 i).1;have e:(eF (I aB l k)).toNat<p.1.length:=by omega
  have u:=GF (x:=x) ai i;have b:=o m (k+1) (hB x p (I aB l k)) (by omega) (by omega) u.1 (by omega);obtain⟨D,v,E⟩:=GA (t:=I ak p.1 (eF (I aB l k)).toNat) (ec (I aB l k)) (eR (I aB l k)) (I aB l k).2.2.2.1 x (j _ e);have w:ax p.1.length (I aB l k).1=some (eF (I aB l k)).toNat:=by have:=aU e;rwa[show(((eF (I aB l k)).toNat:Nat):Int)=(I aB l k).1 from Int.toNat_of_nonneg q.1]at this
  have y:=GB (ec (I aB l k)) (eR (I aB l k)) (I aB l k).2.2.2.1 x (j _ e);have F:=qX (iS y).1;have z:=YC (x:=x) ai i;have A:=cm (a:=(k:Int)+1) (by omega) (by omega);rw[drop_cons d,List.foldl_cons,YG];unfold B4;rw[bj d,aU d,A];simp only[au,ag,bE];rw[w];simp only[ag,bE];rw[show uV (I ak p.1 (eF (I aB l k)).toNat,(I aB l k).2.1,(I aB l k).2.2.1,(I aB l k).2.2.2.1,x,())=_ from v];simp only[ag];rw[Yy e,bg rfl,alF _ _ _ (by omega),Ob _ _ (by omega)];simp only[ag];rw[bX (by simp only[b2,cU];omega)];simp only[au];have g:hB x p (I aB l k)=(p.1.set (eF (I aB l k)).toNat (fR x p (I aB l k)).1,if(fR x p (I aB l k)).2.2=true\/h9 (fR x p (I aB l k)).1 (ec (I aB l k))=eR (I aB l k) then p.2++[GD (fR x p (I aB l k)).1 (I aB l k)] else p.2):=rfl;by_cases hc:(fR x p (I aB l k)).2.2=true\/h9 (fR x p (I aB l k)).1 (ec (I aB l k))=eR (I aB l k)
  ·rw[bg hc]at g;have n:h9 (fR x p (I aB l k)).1 (ec (I aB l k))=eR (I aB l k):=hc.elim z (fun h=>h);have B:(fA (gP (I ak p.1 (eF (I aB l k)).toNat) (ec (I aB l k)) (eR (I aB l k)) (I aB l k).2.2.2.1 x).1.2.2.2.1 (I aB l k).2.1).2.1=(I aB l k).2.2.1:=n;rw[g]at b⊢;rw[show((fA (gP (I ak p.1 (eF (I aB l k)).toNat) (ec (I aB l k)) (eR (I aB l k)) (I aB l k).2.2.2.1 x).1.2.2.2.1 (I aB l k).2.1).2.1 ==(I aB l k).2.2.1)=true from cf B];rw[show(fA (gP (I ak p.1 (eF (I aB l k)).toNat) (ec (I aB l k)) (eR (I aB l k)) (I aB l k).2.2.2.1 x).1.2.2.2.1 (I aB l k).2.1).2.1=eR (I aB l k) from n]
   cases (gP (I ak p.1 (eF (I aB l k)).toNat) (ec (I aB l k)) (eR (I aB l k)) (I aB l k).2.2.2.1 x).2.2 with
   |true=>exact b
   |false=>exact b
  ·rw[bd hc]at g;rw[g]at b⊢
   rw[show((fA (gP (I ak p.1 (eF (I aB l k)).toNat) (ec (I aB l k)) (eR (I aB l k)) (I aB l k).2.2.2.1 x).1.2.2.2.1 (I aB l k).2.1).2.1 ==(I aB l k).2.2.1)=false from bO fun h=>hc (.inr h),
    show(gP (I ak p.1 (eF (I aB l k)).toNat) (ec (I aB l k)) (eR (I aB l k)) (I aB l k).2.2.2.1 x).2.2=false from Bool.eq_false_iff.2 fun h=>hc (.inl h)]
   exact b
def alH(x:Int)(l:List aB.D)(s:gQ)(h:fC s=true):∀(r m i:Nat),i+r=3->r<m →
  (ni m).a_ x 3 (i:Int) (kE s i) l=(ni (m-r-1)).cn x (l.length:Int) 0 (kE s 3) ([]:List bh.D) l:=by
 intro r
 induction r with
 |zero=>intro m i d hm;obtain⟨m,rfl,_⟩:=fuel (show 0<m by omega);rw[YF];unfold B3;rw[bW (by omega),show i=3 by omega];rfl
 |succ r e=>
  intro m i d hm;obtain⟨m,rfl,_⟩:=fuel (show 0<m by omega);have hk:=q4 h i (by omega);obtain⟨g,j⟩:=ke.1 hk;have b:i<(kE s i).length:=by omega
  rw[YF];unfold B3;rw[bR (by omega),aU b];simp only[au,ag,bE];rw[akT (iS (g i b)).2.1];simp only[ag];unfold Rs;rw[cm (a:=(i:Int)+1) (by omega) (by omega),show m+1-(r+1)-1=m-r-1 by omega];exact e m (i+1) (by omega) (by omega)
def alI(s:gQ)(text:cr)(x:Int)(h:fC s=true)(ht:text.length<=1048576):JV (s,text,x,())=some ((mV s text x).2,(mV s text x).1,()):=by
 show B2 (ni aC) s text x=_;unfold B2 mV;rw[alk text ht];simp only[ag]
 cases hr:ln text with
 |none=>rfl
 |some l=>have a:=GC hr;have d:=yW a;simp only[vY,bJ,ay];have e:=(ke.1 h).2;rw[show(s.length:Int)=3 by omega];have h1:=alH x l s h 3 aC 0 (by omega) (by rw[dj];omega);refine Eq.trans h1 ?_;have:=alG x l (by omega) (fun g b=>tO a b) l.length (aC-3-1) 0 (kE s 3,[]) (by omega) (by rw[dj];omega) (q4 h 3 (by omega)) (by simp only[cU];omega);rw[gV]at this;exact this
def YH{x:Int}:∀(l:List aB.D) (p:App),(∀s,s∈l->ix s=true)->fC p.1=true->fC (l.foldl (hB x) p).1=true/\(l.foldl (hB x) p).2.length<=p.2.length+l.length
 | [],p,_,h=>⟨h,by simp⟩
 |s::l,p,hs,h=>by have h1:=GF (x:=x) h (hs s (by simp));have a:=YH (x:=x) l (hB x p s) (fun b d=>hs b (by simp[d])) h1.1;rw[List.foldl_cons,b2];exact⟨a.1,by omega⟩
def YI{s:gQ}(text:cr)(x:Int)(h:fC s=true):fC (mV s text x).1=true/\(mV s text x).2.length<=6:=by
 unfold mV
 cases hr:ln text with
 |none=>exact⟨h,by simp⟩
 |some l=>have a:=GC hr;have h1:=YH (x:=x) l (kE s 3,[]) (fun d b=>tO a b) (q4 h 3 (by omega));have e:=yW a;exact⟨h1.1,by have:=h1.2;simp only[cU]at this⊢;omega⟩
def alJ{t:cM}(h:er t=true)(c:Int):(fa (fA t.2.2.2.1 c).2.2.2.1).length<=400:=by
 unfold fA
 cases hs:gb t.2.2.2.1 c with
 |false=>simp[fa]
 |true=>exact Gk (Gj h (cI (tK hs)))
def yX(y:bh.D):aA.D:=y.2.2.2.2.1
def alK(y:bh.D):U.cost bh y=(fa (yX y)).length:=by simp only[fs,ft,fw,fx,f',bE,cz];rfl
def YJ{x:Int}:∀(l:List aB.D) (p:App),(∀s,s∈l->ix s=true)->fC p.1=true->(∀y,y∈p.2->(fa (yX y)).length<=400)->∀y,y∈(l.foldl (hB x) p).2->(fa (yX y)).length<=400
 | [],p,_,_,h=>h
 |s::l,p,hs,h,a=>by
  rw[List.foldl_cons];refine YJ l (hB x p s) (fun y h=>hs y (by simp[h])) (GF h (hs s (by simp))).1 fun y hm=>?_
  obtain⟨h1,b⟩:=ke.1 h;have d:=(q3 (hs s (by simp))).1;have hk:=GB (ec s) (eR s) s.2.2.2.1 x (h1 (eF s).toNat (by omega));unfold hB at hm;simp only at hm;split at hm
  ·rcases List.mem_append.1 hm with hm|hm
   ·exact a y hm
   ·rw[kG]at hm;subst hm;exact alJ hk (ec s)
  ·exact a y hm
def alL{s:gQ}(text:cr)(x:Int)(h:fC s=true):∀y,y∈(mV s text x).2->(fa (yX y)).length<=400:=by
 unfold mV
 cases hr:ln text with
 |none=>intro y a;simp at a
 |some l=>have b:=GC hr;exact YJ l (kE s 3,[]) (fun y a=>tO b a) (q4 h 3 (by omega)) fun y a=>by simp at a
def alM{l:List bh.D}(hn:l.length<=6)(h:∀y,y∈l->(fa (yX y)).length<=400):U.cost (.sl bh) l<=10000:=by
 have b:l.length*400<=6*400:=c3 _ hn;have h1:(l.map fun y=>U.cost bh y).sum<=l.length*400:=tF (fun y=>U.cost bh y) 400 l fun y a=>by rw[alK];exact h y a
 rw[jy];omega
def alN{l:gQ}(h:fC l=true):U.cost (.sl ak) l<=400000:=by
 obtain⟨h1,e⟩:=ke.1 h;have g:(l.map fun a=>U.cost ak a).sum<=l.length*100000:=tF (fun a=>U.cost ak a) 100000 l fun a b=>by obtain⟨i,d,rfl⟩:=eC b;exact alu (h1 i d)
 rw[jy];omega
def alO(s:gQ)(text:cr)(x:Int)(hc:U.cost (.sl ak) s<=1048576)(ht:text.length<=1048576):
  ∃r l,DY (s,text,x,())=some (r,l,())/\xd (s,text,x,())=some (r,l,())/\U.cost (.sl ak) r<=400000/\U.cost (.sl bh) l<=10000:=by
 have S:DY (s,text,x,())=Lp s text x:=rfl;have a:xd (s,text,x,())=JW s text x:=rfl;rw[S,a];unfold Lp JW;rw[alx s hc,alw s hc];simp only[ag]
 cases h:fC s with
 |false=>exact⟨[],[],rfl,rfl,by rw[jy];simp,by rw[jy];simp⟩
 |true=>simp only[bJ,ay];rw[alz h hc,aly h hc];simp only[ag];rw[alE s text x h,alI s text x h ht];simp only[ag];exact⟨_,_,rfl,rfl,alN (YI text x h).1,alM (YI text x h).2 (alL text x h)⟩
def aio(s:gQ)(text:cr)(x:Int)(g:U.dM (.sl ak) s):SC (s,text,x,())=some (true,()):=by
 show Mc s text x=_;unfold Mc;by_cases ht:text.length<=1048576
 case neg=>rw[bR (by omega)];rfl
 rw[bW (by omega),aju s 1048576 (by omega) (by omega) g];simp only[ay,ag];by_cases a:((U.cost (.sl ak) s:Nat):Int)<=1048576
 case neg=>rw[fz a];rfl
 rw[jS a,gl (by omega)];simp only[ay];have b:U.cost (.sl ak) s<=1048576:=by omega
 obtain⟨r,l,hs,h,w,y⟩:=alO s text x b ht;have z:=Oz (t:=.sl ak) s (by omega) (by decide);have b5:=Oz (t:=.sl ak) r (by omega) (by decide);have A:=Oz (t:=.sl bh) l (by omega) (by decide);obtain⟨B,C,i,v1,D⟩:=XL s 1 (by omega) (by omega) (by omega);have E:=U.gm _ v1;obtain⟨k2,j,k,d,F⟩:=XL r 1 (by omega) (by omega) (by omega);have G:=U.gm _ d;obtain⟨k3,m,n,e,H⟩:=aj3 l k2 (by omega) (by omega) (by omega);have I:=U.gm _ e;have o:=akb j 1 k2 (by omega) (by omega) d;have p:=akd m k2 k3 (by omega) (by omega) e;have q:=XK r (by omega);have u:=ajS l (by omega);have v:=XK s (by omega);rw[ajG s b];simp only[ag];rw[hs];simp only[ag];rw[h];simp only[ag];rw[q];simp only[ag,bJ,ay];rw[u];simp only[ag,bJ,ay];rw[v];simp only[ag,bJ,ay];rw[i];simp only[ag];rw[gl (by omega)];simp only[ay];rw[k];simp only[ag];rw[n];simp only[ag];rw[o];simp only[ag];rw[gl (by omega)];simp only[ay];rw[p];simp only[ag];rw[gl (by omega)];simp only[ay,eG]
end Go.LM.i_
