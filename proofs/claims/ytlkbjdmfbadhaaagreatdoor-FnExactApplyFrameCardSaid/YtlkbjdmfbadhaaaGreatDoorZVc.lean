/- Volumes: both sides are the same plain functions. Conditions: each theorem's own hypotheses. -/
import Derived.Test.YtlkbjdmfbadhaaaGreatDoorZVp
import Derived.Test.YtlkbjdmfbadhaaaGreatDoorZVa
set_option linter.unusedVariables false
set_option linter.defProp false
set_option linter.unusedSimpArgs false
namespace Go.LM.i_
def fY(x a b:Int):cH (x,a,b,())=some (b8 x a b,()):=by show Kd x a b=_;unfold Kd b8;by_cases h:a<=x<;>simp[h]
def fZ(x a b:Int):cT (x,a,b,())=some (b8 x a b,()):=by show Ig x a b=_;unfold Ig b8;by_cases h:a<=x<;>simp[h]
def cm{a:Int}(h : -4000000000000000000<=a)(b:a<=4000000000000000000):aj a=a:=cj (by omega) (by omega)
def dv(n:Nat)(P:Nat->Bool):Bool:=(List.range n).all P
def fN{n:Nat}{P:Nat->Bool}:dv n P=true↔∀i,i<n->P i=true:=by simp[dv,List.all_eq_true]
def afJ{n:Nat}{P Q:Nat->Bool}(h:∀i,i<n->(∀j,j<i->P j=true)->(∀j,j<i->Q j=true)->P i=Q i):dv n P=dv n Q:=by
 rw[jj,fN,fN]
 have key:∀d≤n,(∀i,i<d->P i=true)↔(∀i,i<d->Q i=true):=by
  intro d
  induction d with
  |zero=>intro _;simp
  |succ m e=>
   intro hm;have e:=e (by omega);constructor
   ·intro ai i g;have a:∀j,j<m->P j=true:=fun j o=>ai j (by omega)
    have b:=e.1 a;by_cases k:i=m
    ·subst k;rw[<-h i (by omega) a b];exact ai i g
    ·exact b i (by omega)
   ·intro l i g;have b:∀j,j<m->Q j=true:=fun j o=>l j (by omega)
    have a:=e.2 b;by_cases k:i=m
    ·subst k;rw[h i (by omega) a b];exact l i g
    ·exact a i (by omega)
 exact key n (bu _)
open Classical in
def jN(n:Nat)(hn:n<=4611686018427387904)(P:Nat->Bool)(E:Bool)(b:Nat->Int->Option (Bool×Unit))
  (e:∀m,(∀j,j<n->P j=true)->b (m+1) (n:Int)=some (E,()))
  (hs:∀m (i:Nat),i<n->(∀j,j<i->P j=true)->aj ((i:Int)+1)=(i:Int)+1->b (m+1) (i:Int)=cond (P i) (b m ((i:Int)+1)) (some (false,())))
  (q:Nat:=aC) (g:n<q:=by exact hR (by omega)):b q 0=some (dv n P&&E,()):=by
 have:=k8 n hn b (fun i=>some (decide (∀j,i<=j->j<n->P j=true)&&E,())) (fun i=>∀j,j<i->P j=true) (fun m a=>by
  rw[e m a]
  rw[bR (by intro j h1 d;omega)];rfl) (fun m i a hinv k l=>by
  rw[hs m i a hinv k];cases ai:P i
  ·simp only[ay];rw[bW (fun h=>by have:=h i (bu _) a;rw[ai]at this;cases this)];rfl
  ·simp only[au]
   rw[l (fun j o=>by
    by_cases h:j=i
    ·subst h;exact ai
    ·exact hinv j (by omega))]
   congr 3;apply decide_eq_decide.2;constructor
   ·intro h j h1 d;by_cases p:j=i
    ·subst p;exact ai
    ·exact h j (by omega) d
   ·intro h j h1 d;exact h j (by omega) d) n 0 q (by omega) g (by intro j o;omega)
 rw[Int.natCast_zero]at this;rw[this];congr 3;rw[jj,fN,ei];exact⟨fun h i a=>h i (by omega) a,fun h i _ a=>h i a⟩
def ik{α:Type}(a:Bool)(x y:α):cond (!a) x y=cond a y x:=by cases a<;>rfl
def mK{α:Type}(a b:Bool)(x y:α):cond (a&&b) x y=cond a (cond b x y) y:=by cases a<;>rfl
def Fu{α:Type}(a b:Bool)(x y:α):cond (a||b) x y=cond a x (cond b x y):=by cases a<;>rfl
def nC{n i:Nat}(h:i+1<n)(hn:n<=4000000000000000000):ax n (aj (((i+1:Nat):Int)-1))=some i:=by rw[cm (by omega) (by omega),show((i+1:Nat):Int)-1=(i:Int) by omega,aU (by omega)]
def nD:decide (((0:Nat):Int)>0)=false:=rfl
def nE(i:Nat):decide (((i+1:Nat):Int)>0)=true:=by simp
def afK:2*9223372036854775808=aC:=by rw[dj]
def eJ(c:aL.D):Bool:=
 b8 c.1 1 22&&decide ((c.2.1.length:Int)<=60)&&decide ((c.2.2.1.length:Int)<=60)&&decide ((c.2.2.2.2.2.1.length:Int)<=64)&&b8 c.2.2.2.1 (-1000000) 1000000&&b8 c.2.2.2.2.1 (-1000000) 1000000 &&
  (bm c.2.2.1 []||(c.1==9||(c.1==10||c.1==12)))&&(bm c.2.2.2.2.2.1 []||(c.1==5||c.1==6))
def vt(c:aL.D):sH (c,())=some (eJ c,()):=by
 obtain⟨q,g,_⟩:=iK 1;show CO (xq aC) c=_;rw[g];unfold CO;simp only[xq,Km,fY,ag,jd];congr 2;simp only[eJ,b8,VM];generalize c.2.1.length=a;generalize c.2.2.1.length=b;generalize c.2.2.2.2.2.1.length=d;generalize c.1=k;generalize c.2.2.2.1=e;generalize c.2.2.2.2.1=f;simp only[ik,mK,Fu];rw[jj];simp only[Bool.cond_eq_ite,Bool.ite_eq_true_distrib,bs,kI,ei,hI,bne_iff_ne]
 grind (splits:=40)
def x7(c:aL.D):r6 (c,())=some (eJ c,()):=by
 obtain⟨q,g,_⟩:=iK 2;show AR (AS aC) c=_;rw[g];unfold AR;simp only[AS,dF,IA,QH,QI,fZ,ag,jd];congr 2;simp only[eJ,b8,VM];generalize c.2.1.length=a;generalize c.2.2.1.length=b;generalize c.2.2.2.2.2.1.length=d;generalize c.1=k;generalize c.2.2.2.1=e;generalize c.2.2.2.2.1=f;rw[jj];simp only[Bool.cond_eq_ite,Bool.ite_eq_true_distrib,bs,kI,ei,hI,bne_iff_ne]
 grind (splits:=60)
def eY(n:Nat)(P:Nat->Bool):Option Nat:=(List.range n).find? P
def gY{n i:Nat}{P:Nat->Bool}:eY n P=some i↔i<n/\P i=true/\∀j,j<i->P j=false:=by
 unfold eY;rw[List.find?_range_eq_some];constructor
 ·rintro⟨h1,a,b⟩;exact⟨by simpa using a,h1,fun j d=>by simpa using b j d⟩
 ·rintro⟨h1,a,b⟩;exact⟨a,by simpa using h1,fun j d=>by simpa using b j d⟩
def kv{n:Nat}{P:Nat->Bool}:eY n P=none↔∀i,i<n->P i=false:=by unfold eY;rw[List.find?_eq_none];simp
def qE{d:Type}(n:Nat)(hn:n<=4611686018427387904)(P:Nat->Bool)(R:Option Nat->d)(a:Nat->Int->d)
  (e:∀m,a (m+1) (n:Int)=R none)
  (hs:∀m (i:Nat),i<n->aj ((i:Int)+1)=(i:Int)+1->a (m+1) (i:Int)=cond (P i) (R (some i)) (a m ((i:Int)+1))) (q:Nat:=aC) (g:n<q:=by exact hR (by omega)):
  a q 0=R (eY n P):=by
 have key:=k8 n hn a (fun i=>R (eY n P)) (fun i=>∀j,j<i->P j=false) (fun m b=>by rw[e m,kv.2 b]) (fun m i b hinv k l=>by
  rw[hs m i b k];cases ai:P i
  ·simp only[ay];refine l fun j o=>?_
   by_cases h:j=i
   ·subst h;exact ai
   ·exact hinv j (by omega)
  ·simp only[au]
   rw[gY.2 ⟨b,ai,hinv⟩]) n 0 q (by omega) g (by intro j o;omega)
 simpa using key
def gZ:Option Nat->Int
 |none=> -1
 |some i=>i
def x8{o:Option Nat}:decide (gZ o<0)=o.isNone:=by
 cases o with
 |none=>rfl
 |some i=>exact bW (by show ¬((i:Int)<0);omega)
def x9{o:Option Nat}:decide (gZ o>=0)=o.isSome:=by cases o<;>simp[gZ]
def contains_eq(l:List Int)(x:Int)(hl:l.length<=4611686018427387904):p3 (l,x,())=some (decide (x∈l),()):=by
 show Im l x=_;unfold Im
 have h:Il (l,x,())=some (gZ (eY l.length (fun i=>x==I (.int .i64) l i)),()):=by
  show Ao (rS aC) l x=_;unfold Ao;refine qE l.length hl _ (fun o=>some (gZ o,())) (fun m i=>rS m l x (l.length:Int) i) ?_ ?_
  ·intro m;simp only[rS,Ap];rw[bI (bu _)];rfl
  ·intro m i a d;simp only[rS,Ap,d];rw[bj a,aU a];rfl
 rw[h];simp only[ag,x9];congr 2;rw[jj,ei,Option.isSome_iff_exists];constructor
 ·rintro⟨i,a⟩
  obtain⟨h1,b,_⟩:=gY.1 a;have b:x=I (.int .i64) l i:=by simpa using b
  rw[b,cC h1];exact List.getElem_mem h1
 ·intro e;obtain⟨i,a,he⟩:=List.mem_iff_getElem.1 e
  cases g:eY l.length (fun i=>x==I (.int .i64) l i)with
  |some j=>exact⟨j,rfl⟩
  |none=>have:=kv.1 g i a;have k:I (.int .i64) l i=l[i]:=cC (t:=.int .i64) a;rw[k,he]at this;simp at this
def qF(b:Int):Bool:=decide (b>=97)&&decide (b<=122)||decide (b>=48)&&decide (b<=57)||b==46||b==95||b==45
def Fv(b:Int):xe (b,())=some (qF b,()):=by
 show Ke b=_;unfold Ke qF;simp only[jd];congr 2;rw[jj];simp only[Bool.cond_eq_ite,Bool.ite_eq_true_distrib,bs,kI,ei,hI]
 grind
def VN(b:Int):z1 (b,())=some (qF b,()):=by show Qx b=_;rw[<-Fv];rfl
def nb(s:af)(i:Nat):Int:=((s.getD i 0).toNat:Int)
def g_(s:af):Bool:=dv s.length (fun i=>qF (nb s i))&&(b8 (s.length:Int) 1 8&&(!bm s [46] && !bm s [46,46]))
def afL(s:af):Kf (s,())=some (g_ s,()):=by
 show Cj (qi aC) s=_;unfold Cj;simp only[fY,ag];by_cases hl:b8 (s.length:Int) 1 8=true
 case neg=>rw[jG]at hl;unfold g_;rw[hl];simp
 have hb:=cL.1 hl
 have hk:qi aC s 0=some (dv s.length (fun i=>qF (nb s i))&&true,()):=by
  refine jN s.length (by omega) _ true (fun m i=>qi m s i) ?_ ?_
  ·intro m _;simp only[qi,Ck];rw[bI (bu _)];rfl
  ·intro m i a _ b;simp only[qi,Ck,b];rw[bj a,aU a];simp only[au,ag,Fv,ik];rfl
 rw[hk,hl];unfold g_;rw[hl];cases bm s [46]<;>cases bm s [46,46]<;>simp
def afM(s:af)(hl:s.length<=4000000000000000000):Ii (s,())=some (g_ s,()):=by
 show Af (rQ aC) s=_;unfold Af g_;refine jN s.length (by omega) _ _ (fun m i=>rQ m s (s.length:Int) i) ?_ ?_
 ·intro m _;simp only[rQ,Ag];rw[bI (bu _)];simp only[fZ,ag,ay,jd];congr 2;cases b8 (s.length:Int) 1 8<;>cases bm s [46]<;>rfl
 ·intro m i a _ b;simp only[rQ,Ag,b];rw[bj a,aU a];simp only[au,ag,VN,ik];rfl
def iL(s:af):Bool:=dv s.length (fun i=>nb s i==47||qF (nb s i))&&b8 (s.length:Int) 1 60
def VO(s:af):xf (s,())=some (iL s,()):=by
 show Cg (sr aC) s=_;unfold Cg;simp only[fY,ag];by_cases hl:b8 (s.length:Int) 1 60=true
 case neg=>rw[jG]at hl;unfold iL;rw[hl];simp
 have hb:=cL.1 hl;unfold iL;rw[hl];simp only[bJ,ay];refine jN s.length (by omega) _ true (fun m i=>sr m s i) ?_ ?_
 ·intro m _;simp only[sr,Ch];rw[bI (bu _)];rfl
 ·intro m i a _ b;simp only[sr,Ch,b];rw[bj a,aU a];simp only[au,ag,Fv,ik,Fu,bne];rfl
def M9(s:af)(hl:s.length<=4000000000000000000):uI (s,())=some (iL s,()):=by
 show z7 (rN aC) s=_;unfold z7 iL;refine jN s.length (by omega) _ _ (fun m i=>rN m s (s.length:Int) i) ?_ ?_
 ·intro m _;simp only[rN,z8];rw[bI (bu _)];simp only[fZ,ag,ay]
 ·intro m i a _ b;simp only[rN,z8,b];rw[bj a,aU a];simp only[au,ag,VN,ik,Fu,bne];rfl
abbrev aQ:Type:=J.D
def aq(x:aQ):List ar.D:=x.2.2.2.2.2.2.1
def bN(x:aQ):af:=x.2.2.2.2.2.1
def bp(l:List aQ)(id:Int):Option Nat:=eY l.length (fun i=>(I J l i).1==id)
def mL(v:ad.D)(id:Int)(hl:v.2.1.length<=1048576):j7 (v,id,())=some (gZ (bp v.2.1 id),()):=by
 show Cm (su aC) v id=_;unfold Cm bp;refine qE v.2.1.length (by omega) _ (fun o=>some (gZ o,())) (fun m i=>su m id i v) ?_ ?_
 ·intro m;simp only[su,Cn];rw[bI (bu _)];rfl
 ·intro m i a b;simp only[su,Cn,b];rw[bj a,aU a];rfl
def VP(l:List aQ):Option Nat->List aQ
 |none=>[]
 |some i=>[I J l i]
def vu(v:ad.D)(id:Int)(hl:v.2.1.length<=1048576):fo (v,id,())=some (VP v.2.1 (bp v.2.1 id),()):=by
 show z' (rO aC) v id=_;unfold z' bp;refine qE v.2.1.length (by omega) _ (fun o=>some (VP v.2.1 o,())) (fun m i=>rO m v id (v.2.1.length:Int) i) ?_ ?_
 ·intro m;simp only[rO,Aa];rw[bI (bu _)];rfl
 ·intro m i a b;simp only[rO,Aa,b];rw[bj a,aU a];rfl
def b3{l:List aQ}{id:Int}{i:Nat}(h:bp l id=some i):i<l.length/\(I J l i).1=id:=by obtain⟨h1,a,_⟩:=gY.1 h;exact⟨h1,by simpa using a⟩
def bytesOf(l:List aQ):Nat:=(l.map fun x=>(bN x).length).sum
def afN{l:List aQ}{i:Nat}(a:i<l.length):bytesOf (l.drop i)=(bN (I J l i)).length+bytesOf (l.drop (i+1)):=by rw[drop_cons (t:=J) a];rfl
def M_(l:List aQ)(i:Nat):bytesOf (l.take i)+bytesOf (l.drop i)=bytesOf l:=by unfold bytesOf;rw[<-pz,<-kg,List.take_append_drop]
def vv{l:List aQ}{i:Nat}(a:i<l.length):bytesOf (l.take (i+1))=bytesOf (l.take i) +(bN (I J l i)).length:=by have h1:=M_ l i;have b:=M_ l (i+1);have d:=afN a;omega
def Fw(l:List aQ)(i:Nat):bytesOf (l.take i)<=bytesOf l:=by have:=M_ l i;omega
def M'(v:ad.D)(hl:v.2.1.length<=1048576)(hb:bytesOf v.2.1<=1048576):xm (v,())=some ((bytesOf v.2.1:Int),()):=by
 show Cu (sy aC) v=_;unfold Cu
 have:=k8 v.2.1.length (by omega) (fun m i=>sy m (bytesOf (v.2.1.take i.toNat):Int) i v) (fun _=>some ((bytesOf v.2.1:Int),())) (fun _=>True) (fun m _=>by
  simp only[sy,Cv];rw[bI (bu _)]
  simp only[ed,ia,ay]) (fun m i a _ d b=>by
  simp only[sy,Cv,d];rw[bj a,aU a];simp only[au,ag,ed];have b:=b trivial;rw[show((i:Int)+1).toNat=i+1 by omega,vv a,Int.natCast_add]at b;have e:=Fw v.2.1 (i+1);rw[vv a]at e;rw[cm (by omega) (by have:((I J v.2.1 i).2.2.2.2.2.1).length=(bN (I J v.2.1 i)).length:=rfl;omega)]
  exact b) v.2.1.length 0 aC (by omega) (hR (by omega)) trivial
 simpa[bytesOf]using this
def Na(v:ad.D)(hl:v.2.1.length<=1048576)(hb:bytesOf v.2.1<=1048576):p4 (v,())=some ((bytesOf v.2.1:Int),()):=by
 show At (rW aC) v=_;unfold At
 have:=k8 v.2.1.length (by omega) (fun m i=>rW m (bytesOf (v.2.1.take i.toNat):Int) v.2.1 (v.2.1.length:Int) i) (fun _=>some ((bytesOf v.2.1:Int),())) (fun _=>True) (fun m _=>by
  simp only[rW,Au];rw[bI (bu _)]
  simp only[ed,ia,ay]) (fun m i a _ d b=>by
  simp only[rW,Au,d];rw[bj a,aU a];simp only[au,ag,ed];have b:=b trivial;rw[show((i:Int)+1).toNat=i+1 by omega,vv a,Int.natCast_add]at b;have e:=Fw v.2.1 (i+1);rw[vv a]at e;rw[cm (by omega) (by have:((I J v.2.1 i).2.2.2.2.2.1).length=(bN (I J v.2.1 i)).length:=rfl;omega)]
  exact b) v.2.1.length 0 aC (by omega) (hR (by omega)) trivial
 simpa[bytesOf]using this
def bU{a:Type}(f:Nat->a)(B:Nat)(y:a):Prop:=∀m,B<=m->f m=y
def bU.step{a:Type}{f g:Nat->a}{B:Nat}{y:a}(h:bU g B y)(b:∀m,f (m+1)=g m):bU f (B+1) y:=by
 intro m hm;obtain⟨k,rfl⟩:∃k,m=k+1:=⟨m-1,by omega⟩
 rw[b];exact h k (by omega)
def bU.done{a:Type}{f:Nat->a}{y:a}(b:∀m,f (m+1)=y):bU f 1 y:=by
 intro m hm;obtain⟨k,rfl⟩:∃k,m=k+1:=⟨m-1,by omega⟩
 exact b k
def bU.mono{a:Type}{f:Nat->a}{B b:Nat}{y:a}(h:bU f B y)(hb:B<=b):bU f b y:=fun m hm=>h m (by omega)
def dG{a:Type}:Nat->(Nat->a->a)->a->a
 |0,_,s=>s
 |n+1,f,s=>f n (dG n f s)
def qG{a:Type}{n:Nat}{f:Nat->a->a}(Inv:Nat->a->Prop)(b:∀i s,i<n->Inv i s->Inv (i+1) (f i s)){s:a}(h:Inv 0 s):Inv n (dG n f s):=by
 induction n with
 |zero=>exact h
 |succ n d=>exact b n _ (by omega) (d fun i s e=>b i s (by omega))
def qH{a b:Type}(n W:Nat)(F:Nat->Nat->a->b)(step:Nat->a->a)(Inv:Nat->a->Prop)(d:∀i s,i<n->Inv i s->Inv (i+1) (step i s))
  (hs:∀i s,i<n->Inv i s->∀B y,bU (fun m=>F m (i+1) (step i s)) B y->bU (fun m=>F m i s) (B+W) y) (s:a) (h:Inv 0 s) (B:Nat) (y:b) (he:bU (fun m=>F m n (dG n step s)) B y):bU (fun m=>F m 0 s) (B+n*W) y:=by
 have key:∀k,k<=n->bU (fun m=>F m (n-k) (dG (n-k) step s)) (B+k*W) y:=by
  intro k
  induction k with
  |zero=>intro _;simpa using he
  |succ k g=>
   intro hk;have:=g (by omega);have hinv:Inv (n-(k+1)) (dG (n-(k+1)) step s):=qG Inv (fun i s l=>d i s (by omega)) h
   have j:=hs (n-(k+1)) _ (by omega) hinv (B+k*W) y (by
    rw[show n-(k+1)+1=n-k by omega];have e:dG (n-k) step s=step (n-(k+1)) (dG (n-(k+1)) step s):=by rw[show n-k=(n-(k+1))+1 by omega];rfl
    rw[<-e];exact this)
   rw[de,<-dQ];exact j
 have:=key n (bu _);simpa[dG]using this
def dk(l:List ar.D)(id:Int):Nat:=(l.filter fun d=>d.2.1==id).length
def ch(l:List aQ)(id:Int):Nat:=(l.map fun x=>dk (aq x) id).sum
def afO{l:List ar.D}{id:Int}{j:Nat}(a:j<l.length):dk (l.take (j+1)) id=dk (l.take j) id+cond ((I ar l j).2.1==id) 1 0:=by unfold dk;rw[hD a,List.filter_append,bZ];congr 1;rw[cC a];cases h:(l[j]).2.1==id<;>simp[gr,h]
def afP(l:List ar.D)(id:Int):dk l id<=l.length:=lr _ _
def Nb{l:List aQ}{id:Int}{i:Nat}(a:i<l.length):ch (l.take (i+1)) id=ch (l.take i) id+dk (aq (I J l i)) id:=by unfold ch;rw[hD a,kg,pz];simp[cC a]
def dm(l:List aQ):Nat:=(l.map fun x=>(aq x).length).sum
def VQ(l:List aQ)(id:Int):ch l id<=dm l:=by
 unfold ch dm
 induction l with
 |nil=>simp
 |cons x l a=>simp only[dh,eM];have:=afP (aq x) id;omega
def fF{l:List aQ}{i:Nat}(a:i<l.length):(aq (I J l i)).length<=dm l:=by
 unfold dm;rw[cC a]
 have:∀(l:List aQ) (i:Nat) (a:i<l.length),(aq l[i]).length<=(l.map fun x=>(aq x).length).sum:=by
  intro l
  induction l with
  |nil=>intro i a;simp at a
  |cons x l b=>
   intro i a;simp only[dh,eM]
   cases i with
   |zero=>simp
   |succ i=>have:=b i (by simpa using a);simp only[List.getElem_cons_succ];omega
 exact this l i a
def VR(l:List aQ)(id:Int)(i:Nat):ch (l.take i) id<=dm l:=by
 refine cw (VQ _ _) ?_;unfold dm
 conv=>rhs;rw[<-List.take_append_drop i l,kg,pz]
 omega
def c0(i:Nat)(h:i<4000000000000000000):aj ((i:Int)+1)=((i+1:Nat):Int):=by rw[cm (by omega) (by omega)];omega
def Nc(l:List aQ)(id:Int):∀i,i<=l.length->dG i (fun i s=>s+dk (aq (I J l i)) id) 0=ch (l.take i) id
 |0,_=>by simp[dG,ch]
 |i+1,h=>by rw[dG,Nc l id i (by omega),Nb (by omega)]
def Nd(l:List ar.D)(id:Int)(s:Nat):∀j,j<=l.length->dG j (fun j s=>s+cond ((I ar l j).2.1==id) 1 0) s=s+dk (l.take j) id
 |0,_=>by simp[dG,dk]
 |j+1,h=>by rw[dG,Nd l id s j (by omega),afO (by omega)];omega
def jx{a:Type}{f:Nat->a}{B:Nat}{y:a}(h:bU f B y)(hb:B<=4611686018427387904):f aC=y:=h aC (by have:=hR hb;omega)
def Fx(v:ad.D)(id:Int)(hl:v.2.1.length<=1048576)(hn:dm v.2.1<=1048576):xl (v,id,())=some ((ch v.2.1 id:Int),()):=by
 show Cs (nk aC) v id=_;unfold Cs
 have key:=qH v.2.1.length (1048576+2) (fun m i (s:Nat)=>(nk m).k3 id (s:Int) (i:Int) v) (fun i s=>s+dk (aq (I J v.2.1 i)) id) (fun i s=>s=ch (v.2.1.take i) id) (fun i s a hs=>by rw[hs,Nb a]) (fun i s a hs B d he=>by
  have e:s<=1048576:=by have:=VR v.2.1 id i;omega
  have g:=fF a
  have inner:=qH (aq (I J v.2.1 i)).length 1 (fun m j (s:Nat)=>(nk m).c7 id (s:Int) (i:Int) (j:Int) v) (fun j s=>s+cond ((I ar (aq (I J v.2.1 i)) j).2.1==id) 1 0) (fun j s=>s<=1048576+j) (fun j s b hs=>by
   cases (I ar (aq (I J v.2.1 i)) j).2.1==id<;>simp<;>omega) (fun j s b hs B d he=>by
   refine he.step fun m=>?_
   show xk (nk m) _ _ _ _ _=_;unfold xk;rw[aU a];simp only[ag];show cond (decide ((j:Int)<((aq (I J v.2.1 i)).length:Int))) ((ax (aq (I J v.2.1 i)).length (j:Int)).bind _) _=_;rw[bj b];simp only[au];rw[aU b];simp only[ag];rw[c0 j (by omega),c0 s (by omega)];show cond ((I ar (aq (I J v.2.1 i)) j).2.1==id) _ _=_
   cases (I ar (aq (I J v.2.1 i)) j).2.1==id<;>rfl) s (by omega) (B+1) d (by
   refine he.step fun m=>?_
   rw[Nd _ _ _ _ (bu _),ia];show xk (nk m) _ _ _ _ _=_;unfold xk;rw[aU a];simp only[ag];show cond (decide (((aq (I J v.2.1 i)).length:Int)<((aq (I J v.2.1 i)).length:Int))) _ _=_;rw[bI (bu _)];simp only[ay]
   rw[c0 i (by omega)])
  refine(inner.step (f:=fun m=>(nk m).k3 id (s:Int) (i:Int) v) fun m=>?_).mono (by omega);show xj (nk m) _ _ _ _=_;unfold xj
  rw[bj a];rfl) 0 (by simp[ch]) 1 (some ((ch v.2.1 id:Int),())) (bU.done fun m=>by
  rw[Nc _ _ _ (bu _),ia];show xj (nk m) _ _ _ _=_;unfold xj
  rw[bI (bu _)];rfl)
 have hm:v.2.1.length*(1048576+2)<=1048576*(1048576+2):=c3 _ hl;exact jx key (by omega)
def Fy(v:ad.D)(id:Int)(hl:v.2.1.length<=1048576)(hn:dm v.2.1<=1048576):uK (v,id,())=some ((ch v.2.1 id:Int),()):=by
 show Ar (m9 aC) v id=_;unfold Ar
 have key:=qH v.2.1.length (1048576+2) (fun m i (s:Nat)=>(m9 m).k3 id (s:Int) v.2.1 (v.2.1.length:Int) (i:Int)) (fun i s=>s+dk (aq (I J v.2.1 i)) id) (fun i s=>s=ch (v.2.1.take i) id) (fun i s a hs=>by rw[hs,Nb a]) (fun i s a hs B d he=>by
  have e:s<=1048576:=by have:=VR v.2.1 id i;omega
  have g:=fF a
  have inner:=qH (aq (I J v.2.1 i)).length 1 (fun m j (s:Nat)=>(m9 m).c7 id (s:Int) v.2.1 (v.2.1.length:Int) (i:Int) (aq (I J v.2.1 i)) ((aq (I J v.2.1 i)).length:Int) (j:Int)) (fun j s=>s+cond ((I ar (aq (I J v.2.1 i)) j).2.1==id) 1 0) (fun j s=>s<=1048576+j) (fun j s b hs=>by
   cases (I ar (aq (I J v.2.1 i)) j).2.1==id<;>simp<;>omega) (fun j s b hs B d he=>by
   refine he.step fun m=>?_
   show wS (m9 m) _ _ _ _ _ _ _ _=_;unfold wS;rw[bj b];simp only[au];rw[aU b];simp only[ag];rw[c0 j (by omega),c0 s (by omega)]
   cases (I ar (aq (I J v.2.1 i)) j).2.1==id<;>rfl) s (by omega) (B+1) d (by
   refine he.step fun m=>?_
   rw[Nd _ _ _ _ (bu _),ia];show wS (m9 m) _ _ _ _ _ _ _ _=_;unfold wS;rw[bI (bu _)];simp only[ay]
   rw[c0 i (by omega)])
  refine(inner.step (f:=fun m=>(m9 m).k3 id (s:Int) v.2.1 (v.2.1.length:Int) (i:Int)) fun m=>?_).mono (by omega);show wR (m9 m) _ _ _ _ _=_;unfold wR
  rw[bj a,aU a];rfl) 0 (by simp[ch]) 1 (some ((ch v.2.1 id:Int),())) (bU.done fun m=>by
  rw[Nc _ _ _ (bu _),ia];show wR (m9 m) _ _ _ _ _=_;unfold wR
  rw[bI (bu _)];rfl)
 have hm:v.2.1.length*(1048576+2)<=1048576*(1048576+2):=c3 _ hl;exact jx key (by omega)
abbrev Flags:Type:=List Bool
def T(xs:Flags)(i:Nat):Prop:=I .bool xs i=true
def tu{xs:Flags}{x i:Nat}(a:x<xs.length):T (xs.set x true) i↔(i=x\/T xs i):=by
 unfold T I;simp only[List.getD_eq_getElem?_getD,List.getElem?_set];by_cases h:x=i
 ·subst h;simp[a]
 ·simp only[h,fT];constructor
  ·intro h;exact .inr h
  ·rintro (rfl|h1)
   ·exact absurd rfl h
   ·exact h1
abbrev FS:Type:=Flags×Flags
section
variable(l:List aQ)
def iM(i j:Nat)(s:FS):FS:=
 match bp l (I ar (aq (I J l i)) j).2.1 with
 |none=>s
 |some x=>(s.1.set x true,s.2.set x true)
def hS(i:Nat)(s:FS):FS:=cond (I .bool s.2 i) (dG (aq (I J l i)).length (iM l i) s) s
def e9(s:FS):FS:=dG l.length (hS l) s
def FS.fO(n:Nat)(s:FS):Prop:=s.1.length=n/\s.2.length=n
def Fz{n i j:Nat}{s:FS}(h:s.fO n):(iM l i j s).fO n:=by
 unfold iM;split
 ·exact h
 ·exact⟨by simpa using h.1,by simpa using h.2⟩
def FA{n i:Nat}{s:FS}(h:s.fO n):(hS l i s).fO n:=by
 unfold hS;cases I .bool s.2 i
 ·exact h
 ·exact qG (fun _ s=>FS.fO n s) (fun i s _ hs=>Fz l hs) h
def Nf{n:Nat}{s:FS}(h:s.fO n):(e9 l s).fO n:=qG (fun _ s=>FS.fO n s) (fun i s _ hs=>FA l hs) h
def afQ(v:ad.D)(hl:v.2.1.length<=1048576)(hn:dm v.2.1<=1048576)(s:FS)(h:s.fO v.2.1.length):
  (js aC).cE 0 v s.1 s.2=some ((dG v.2.1.length (fun _=>e9 v.2.1) s).1,()):=by
 have key:=qH v.2.1.length (v.2.1.length*1048580+2) (fun m k (s:FS)=>(js m).cE (k:Int) v s.1 s.2) (fun _=>e9 v.2.1) (fun _ s=>s.fO v.2.1.length) (fun _ s _ hs=>Nf v.2.1 hs) (fun k s hk hs B b he=>by
  have inner:=qH v.2.1.length 1048580 (fun m i (s:FS)=>(js m).cn (k:Int) (i:Int) v s.1 s.2) (hS v.2.1) (fun _ s=>s.fO v.2.1.length) (fun _ s _ hs=>FA v.2.1 hs) (fun i s a hs B b he=>by
   have q:=fF a;cases d:I .bool s.2 i
   ·refine(he.step (f:=fun m=>(js m).cn (k:Int) (i:Int) v s.1 s.2) fun m=>?_).mono (by omega);show sw (js m) _ _ _ _ _=_;unfold sw;have e:ax s.2.length (i:Int)=some i:=aU (by rw[hs.2];exact a);rw[bj a,e];simp only[au,ag,bE,d,cR];rw[c0 i (by omega)];unfold hS;rw[d];rfl
   ·have o:hS v.2.1 i s=dG (aq (I J v.2.1 i)).length (iM v.2.1 i) s:=by unfold hS;rw[d];rfl
    rw[o]at he
    have inj:=qH (aq (I J v.2.1 i)).length 1 (fun m j (s:FS)=>(js m).nj (k:Int) (i:Int) (j:Int) v s.1 s.2) (iM v.2.1 i) (fun _ s=>s.fO v.2.1.length) (fun _ s _ hs=>Fz v.2.1 hs) (fun j s g hs B b he=>by
     refine he.step fun m=>?_
     show xi (js m) _ _ _ _ _ _=_;unfold xi;rw[aU a];simp only[ag];show cond (decide ((j:Int)<((aq (I J v.2.1 i)).length:Int))) ((ax (aq (I J v.2.1 i)).length (j:Int)).bind _) _=_;rw[bj g];simp only[au];rw[aU g];simp only[ag];rw[mL v _ hl];simp only[ag,x9];rw[c0 j (by omega)];show cond (bp v.2.1 (I ar (aq (I J v.2.1 i)) j).2.1).isSome _ _=_;unfold iM
     cases l:bp v.2.1 (I ar (aq (I J v.2.1 i)) j).2.1 with
     |none=>rfl
     |some x=>
      have n:=(b3 l).1;simp only[Option.isSome_some,au];have p:bp v.2.1 (I ar (I J v.2.1 i).2.2.2.2.2.2.1 j).2.1=some x:=l;rw[p];show((ax s.1.length ((x:Nat):Int)).bind _)=_;rw[aU (by rw[hs.1];exact n)];simp only[ag];show((ax s.2.length ((x:Nat):Int)).bind _)=_;rw[aU (by rw[hs.2];exact n)]
      simp only[ag,bE]) s hs (B+1) b (by
     refine he.step fun m=>?_
     show xi (js m) _ _ _ _ _ _=_;unfold xi;rw[aU a];simp only[ag];show cond (decide (((aq (I J v.2.1 i)).length:Int)<((aq (I J v.2.1 i)).length:Int))) _ _=_;rw[bI (bu _)];simp only[ay]
     rw[c0 i (by omega)])
    refine(inj.step (f:=fun m=>(js m).cn (k:Int) (i:Int) v s.1 s.2) fun m=>?_).mono (by omega);show sw (js m) _ _ _ _ _=_;unfold sw;have e:ax s.2.length (i:Int)=some i:=aU (by rw[hs.2];exact a);rw[bj a,e];simp only[au,ag,bE,d,bJ,ay]
    rfl) s hs (B+1) b (by
   refine he.step fun m=>?_
   show sw (js m) _ _ _ _ _=_;unfold sw;rw[bI (bu _)];simp only[ay]
   rw[c0 k (by omega)];rfl)
  refine(inner.step (f:=fun m=>(js m).cE (k:Int) v s.1 s.2) fun m=>?_).mono (by omega);show xh (js m) _ _ _ _=_;unfold xh
  rw[bj hk];rfl) s h 1 (some ((dG v.2.1.length (fun _=>e9 v.2.1) s).1,())) (bU.done fun m=>by
  show xh (js m) _ _ _ _=_;unfold xh
  rw[bI (bu _)];rfl)
 have h1:v.2.1.length*1048580<=1048576*1048580:=c3 _ hl;have hm:v.2.1.length*(v.2.1.length*1048580+2)<=1048576*(1048576*1048580+2):=Nat.mul_le_mul hl (Nat.add_le_add_right h1 2);have r:=cw hm (by decide:1048576*(1048576*1048580+2)<=4611686018427387000);generalize v.2.1.length*(v.2.1.length*1048580+2)=u at *;exact jx key (by omega)
def fp(n:Nat):Flags:=List.replicate n false
def dH(id:Int):Flags:=
 match bp l id with
 |none=>fp l.length
 |some a=>(dG l.length (fun _=>e9 l) (fp l.length,(fp l.length).set a true)).1
def VS(v:ad.D)(id:Int)(hl:v.2.1.length<=1048576)(hn:dm v.2.1<=1048576):Cr (v,id,())=some (dH v.2.1 id,()):=by
 show Cq (js aC) v id=_;unfold Cq;have hr:(decide (0<=(v.2.1.length:Int))&&decide ((v.2.1.length:Int)=(v.2.1.length:Int))&&room (Int.toNat (v.2.1.length:Int)))=true:=by rw[ed,bX (by omega),bR (by omega),bR rfl];rfl
 rw[hr];simp only[au];rw[mL v id hl];simp only[ag,x8,ed];unfold dH
 cases b:bp v.2.1 id with
 |none=>rfl
 |some a=>simp only[Option.isNone_some,ay,gZ];rw[ra,aU (b3 b).1];simp only[ag,bE];exact afQ v hl hn (fp v.2.1.length,(fp v.2.1.length).set a true) ⟨by simp[fp],by simp[fp]⟩
end
def cI{t:U}{xs:List t.D}{i:Nat}(h:i<xs.length):I t xs i∈xs:=by rw[cC h];exact List.getElem_mem h
def eC{t:U}{xs:List t.D}{x:t.D}(h:x∈xs):∃i,i<xs.length/\I t xs i=x:=by obtain⟨i,a,he⟩:=List.mem_iff_getElem.1 h;exact⟨i,a,by rw[cC a];exact he⟩
def E(l:List aQ)(a b:Int):Prop:=∃i d,bp l a=some i/\d∈aq (I J l i)/\d.2.1=b
abbrev dI(l:List aQ)(a b:Int):Prop:=Relation.TransGen (E l) a b
def g'(l:List aQ):Prop:=∀x,x<l.length->bp l (I J l x).1=some x
def o8(l:List aQ):Prop:=∀i,i<l.length->∀d,d∈aq (I J l i)->(bp l d.2.1).isSome=true
section
variable(l:List aQ)
def VT{xs:Flags}{x i:Nat}(h:T xs i):T (xs.set x true) i:=by
 by_cases a:x<xs.length
 ·exact(tu a).2 (.inr h)
 ·rwa[List.set_eq_of_length_le (by omega)]
def FS.le(s an:FS):Prop:=(∀i,T s.1 i->T an.1 i)/\(∀i,T s.2 i->T an.2 i)
def FS.le.FB{s:FS}:s.le s:=⟨fun _ h=>h,fun _ h=>h⟩
def FS.le.Ie{s an b:FS}(h:s.le an)(k:an.le b):s.le b:=⟨fun i a=>k.1 i (h.1 i a),fun i a=>k.2 i (h.2 i a)⟩
def x_{f:Nat->FS->FS}(h:∀i s,FS.le s (f i s))(s:FS):∀n,FS.le s (dG n f s)
 |0=>.FB
 |n+1=>(x_ h s n).Ie (h n _)
def VU{f:Nat->FS->FS}(h:∀i s,FS.le s (f i s))(s:FS){i n:Nat}(b:i<n):FS.le (f i (dG i f s)) (dG n f s):=by
 induction n with
 |zero=>omega
 |succ n a=>
  by_cases h1:i=n
  ·subst h1;exact .FB
  ·exact(a (by omega)).Ie (h n _)
def VV(i j:Nat)(s:FS):FS.le s (iM l i j s):=by
 unfold iM;split
 ·exact .FB
 ·exact⟨fun _ h=>VT h,fun _ h=>VT h⟩
def Ng(i:Nat)(s:FS):FS.le s (hS l i s):=by
 unfold hS;cases I .bool s.2 i
 ·exact .FB
 ·exact x_ (VV l i) s _
def FC(s:FS):FS.le s (e9 l s):=x_ (Ng l) s _
def afR{s:FS}(hs:s.fO l.length){i x:Nat}(m:i<l.length)(n:T s.2 i){d:ar.D}(aa:d∈aq (I J l i))(g:bp l d.2.1=some x):T (e9 l s).1 x/\T (e9 l s).2 x:=by
 have h1:=VU (Ng l) s m;have ht:T (dG i (hS l) s).2 i:=(x_ (Ng l) s i).2 i n;have o:(dG i (hS l) s).fO l.length:=qG (fun _ s=>FS.fO l.length s) (fun i s _ hs=>FA l hs) hs;generalize dG i (hS l) s=t at *;obtain⟨j,p,rfl⟩:=eC aa;have a:=VU (VV l i) t p;have e:hS l i t=dG (aq (I J l i)).length (iM l i) t:=by unfold hS;rw[show I .bool t.2 i=true from ht];rfl
 rw[<-e]at a;have h:(dG j (iM l i) t).fO l.length:=qG (fun _ s=>FS.fO l.length s) (fun i s _ hs=>Fz l hs) o;generalize dG j (iM l i) t=b at *;have hs:iM l i j b=(b.1.set x true,b.2.set x true):=by unfold iM;rw[g]
 rw[hs]at a;have k:=(b3 g).1;exact⟨h1.1 x (a.1 x ((tu (by rw[h.1];exact k)).2 (.inl rfl))),h1.2 x (a.2 x ((tu (by rw[h.2];exact k)).2 (.inl rfl)))⟩
def VW(a fr:Nat->Prop)(p:∀i,i<l.length->fr i->∀d,d∈aq (I J l i)->∀x,bp l d.2.1=some x->a x/\fr x){s:FS}(hl:s.fO l.length)(h1:∀i,T s.1 i->a i)(b:∀i,T s.2 i->fr i):
  (∀i,T (e9 l s).1 i->a i)/\(∀i,T (e9 l s).2 i->fr i):=by
 have key:(e9 l s).fO l.length/\(∀i,T (e9 l s).1 i->a i)/\(∀i,T (e9 l s).2 i->fr i):=by
  refine qG (fun _ (s:FS)=>s.fO l.length/\(∀i,T s.1 i->a i)/\(∀i,T s.2 i->fr i)) (fun i s q hs=>?_) ⟨hl,h1,b⟩;obtain⟨hl,h1,b⟩:=hs;refine⟨FA l hl,?_⟩;cases e:I .bool s.2 i
  ·rw[show hS l i s=s by unfold hS;rw[e];rfl];exact⟨h1,b⟩
  ·rw[show hS l i s=dG (aq (I J l i)).length (iM l i) s by unfold hS;rw[e];rfl]
   have:=qG (n:=(aq (I J l i)).length) (f:=iM l i) (fun _ (s:FS)=>s.fO l.length/\(∀i,T s.1 i->a i)/\(∀i,T s.2 i->fr i)) (fun j t r ht=>by
    obtain⟨hl,g,h⟩:=ht;refine⟨Fz l hl,?_⟩;unfold iM;split
    ·exact⟨g,h⟩
    ·rename_i x m;obtain⟨u,v⟩:=p i q (b i e) _ (cI r) x m;have o:=(b3 m).1;refine⟨fun k hk=>?_,fun k hk=>?_⟩
     ·rcases (tu (by rw[hl.1];exact o)).1 hk with rfl|hk
      ·exact u
      ·exact g k hk
     ·rcases (tu (by rw[hl.2];exact o)).1 hk with rfl|hk
      ·exact v
      ·exact h k hk) ⟨hl,h1,b⟩
   exact this.2
 exact key.2
def FD(s:FS):Prop:=∀i,i<l.length->T s.2 i->∀d,d∈aq (I J l i)->∀x,bp l d.2.1=some x->T s.1 x/\T s.2 x
def afS{s:FS}(hl:s.fO l.length)(h:FD l s):FD l (e9 l s):=by obtain⟨h1,a⟩:=VW l (T s.1) (T s.2) h hl (fun _ h=>h) (fun _ h=>h);intro i b e d aa x g;obtain⟨j,k⟩:=h i b (a i e) d aa x g;exact⟨(FC l s).1 x j,(FC l s).2 x k⟩
def lM(xs:Flags):Nat:=(xs.filter fun b=>b).length
def afT(xs:Flags):lM xs<=xs.length:=lr _ _
def VX:∀(a b:Flags),a.length=b.length->(∀i,T a i->T b i)->lM a<=lM b/\(lM a=lM b->a=b)
 | [],[],_,_=>⟨bu _,fun _=>rfl⟩
 | [],_::_,h,_=>by simp at h
 |_::_,[],h,_=>by simp at h
 |x::a,d::b,h,e=>by
  obtain⟨h1,g⟩:=VX a b (by simpa using h) (fun i j=>e (i+1) j);have k:x=true->d=true:=fun l=>e 0 l
  unfold lM at *;cases x<;>cases d<;>simp only[gr,if_true,gq,fT,b2]
  ·exact⟨h1,fun h=>by rw[g h]⟩
  ·exact⟨by omega,fun h=>by omega⟩
  ·exact absurd (k rfl) (by simp)
  ·exact⟨by omega,fun h=>by rw[g (by omega)]⟩
def afU{xs:Flags}{i:Nat}(h:T xs i):1<=lM xs:=by
 have hm:true∈xs:=by
  unfold T I at h;rw[List.getD_eq_getElem?_getD]at h
  cases a:xs[i]? with
  |none=>rw[a]at h;simp at h;cases h
  |some b=>rw[a]at h;have hb:b=true:=h;subst hb;exact List.mem_of_getElem? a
 unfold lM;exact List.length_pos_of_mem (List.mem_filter.2 ⟨hm,rfl⟩)
def rounds(s:FS)(hl:s.fO l.length)(h:1<=lM s.2):∀k,(dG k (fun _=>e9 l) s).fO l.length/\(FD l (dG k (fun _=>e9 l) s)\/k+1<=lM (dG k (fun _=>e9 l) s).2)
 |0=>⟨hl,.inr h⟩
 |k+1=>by
  obtain⟨hk,a⟩:=rounds s hl h k;rw[dG];generalize dG k (fun _=>e9 l) s=t at *;have hr:=Nf l hk;refine⟨hr,?_⟩;rcases a with a|a
  ·exact .inl (afS l hk a)
  ·obtain⟨n,g⟩:=VX t.2 (e9 l t).2 (by rw[hk.2,hr.2]) (FC l t).2;by_cases hc:lM t.2=lM (e9 l t).2
   ·left;have e:=g hc;intro i j b d aa x m;rw[<-e]at b;exact afR l hk j b aa m
   ·right;omega
def Nh(a fr:Nat->Prop)(b:∀i,i<l.length->fr i->∀d,d∈aq (I J l i)->∀x,bp l d.2.1=some x->a x/\fr x)(s:FS)(hl:s.fO l.length)(h1:∀i,T s.1 i->a i)(e:∀i,T s.2 i->fr i):
  ∀k,(dG k (fun _=>e9 l) s).fO l.length/\(∀i,T (dG k (fun _=>e9 l) s).1 i->a i)/\(∀i,T (dG k (fun _=>e9 l) s).2 i->fr i)
 |0=>⟨hl,h1,e⟩
 |k+1=>by obtain⟨g,h,j⟩:=Nh a fr b s hl h1 e k;exact⟨Nf l g,VW l a fr b g h j⟩
def afV(s:FS):∀k,FS.le s (dG k (fun _=>e9 l) s):=x_ (fun _ s=>FC l s) s
def Ni(n i:Nat):¬T (fp n) i:=by unfold T I fp;rw[List.getD_eq_getElem?_getD,List.getElem?_replicate];split<;>simp[U.zero]
def VY(id:Int):(dH l id).length=l.length:=by
 unfold dH;split
 ·simp[fp]
 ·exact(Nh l (fun _=>True) (fun _=>True) (fun _ _ _ _ _ _ _=>⟨trivial,trivial⟩) _ ⟨by simp[fp],by simp[fp]⟩ (fun _ _=>trivial) (fun _ _=>trivial) _).1.1
def vw(aa:g' l)(id:Int){x:Nat}(u:x<l.length):T (dH l id) x↔dI l id (I J l x).1:=by
 unfold dH
 cases m:bp l id with
 |none=>
  constructor
  ·intro h;exact absurd h (Ni _ _)
  ·intro h
   have:∀b,dI l id b->False:=by
    intro b hb
    induction hb with
    |single h=>obtain⟨i,d,h1,_⟩:=h;rw[m]at h1;cases h1
    |tail _ _ n=>exact n
   exact(this _ h).elim
 |some a=>
  obtain⟨o,v⟩:=b3 m;have r:FS.fO l.length (fp l.length,(fp l.length).set a true):=⟨by simp[fp],by simp[fp]⟩;have s:T ((fp l.length).set a true) a:=(tu (by simp[fp];exact o)).2 (.inl rfl);constructor
  ·intro h;refine(Nh l (fun e=>dI l id (I J l e).1) (fun e=>(I J l e).1=id\/dI l id (I J l e).1) ?_ _ r (fun i h=>absurd h (Ni _ _)) ?_ l.length).2.1 x h
   ·intro i j g d w e k;obtain⟨B,y⟩:=b3 k;have he:E l (I J l i).1 (I J l e).1:=⟨i,d,aa i j,w,y.symm⟩;rcases g with g|g
    ·rw[g]at he;exact⟨.single he,.inr (.single he)⟩
    ·exact⟨g.tail he,.inr (g.tail he)⟩
   ·intro i j;rcases (tu (by simp[fp];exact o)).1 j with rfl|j
    ·exact .inl v
    ·exact absurd j (Ni _ _)
  ·intro h;obtain⟨hlen,z⟩:=rounds l _ r (afU s) l.length
   have hc:FD l (dG l.length (fun _=>e9 l) (fp l.length,(fp l.length).set a true)):=by
    rcases z with h|h
    ·exact h
    ·have:=afT (dG l.length (fun _=>e9 l) (fp l.length,(fp l.length).set a true)).2;rw[hlen.2]at this;omega
   show T (dG l.length (fun _=>e9 l) (fp l.length,(fp l.length).set a true)).1 x;have A:=(afV l (fp l.length,(fp l.length).set a true) l.length).2 a s;generalize dG l.length (fun _=>e9 l) (fp l.length,(fp l.length).set a true)=F at *
   have key:∀b,dI l id b->∀e,bp l b=some e->T F.1 e/\T F.2 e:=by
    intro b hb
    induction hb with
    |single h=>obtain⟨i,d,h1,p,q⟩:=h;intro e k;rw[m]at h1;obtain rfl:=aS h1;exact hc _ o A d p e (by rw[q];exact k)
    |tail _ h n=>obtain⟨i,d,h1,p,q⟩:=h;intro e k;exact hc i (b3 h1).1 (n i h1).2 d p e (by rw[q];exact k)
   exact(key _ h x (aa x u)).1
end
section
variable(l:List aQ)
def f_(q:Int):List ar.D:=
 match bp l q with
 |none=>[]
 |some i=>aq (I J l i)
def Nj{a b:Int}:E l a b↔∃d,d∈f_ l a/\d.2.1=b:=by
 unfold E f_;constructor
 ·rintro⟨i,d,h1,e,h⟩;rw[h1];exact⟨d,e,h⟩
 ·rintro⟨d,h1,e⟩
  cases g:bp l a with
  |none=>rw[g]at h1;simp at h1
  |some i=>rw[g]at h1;exact⟨i,d,rfl,h1,e⟩
def FE:List Int:=l.flatMap fun x=>(aq x).map fun d=>d.2.1
def afW:(FE l).length=dm l:=by unfold FE dm;rw[List.length_flatMap];congr 1;simp
def afX{q:Int}{d:ar.D}(h:d∈f_ l q):d.2.1∈FE l:=by
 unfold f_ at h
 cases a:bp l q with
 |none=>rw[a]at h;simp at h
 |some i=>rw[a]at h;exact List.mem_flatMap.2 ⟨_,cI (b3 a).1,List.mem_map.2 ⟨d,h,rfl⟩⟩
def afY(q:Int):(f_ l q).length<=dm l:=by
 unfold f_;split
 ·simp
 ·rename_i i a;exact fF (b3 a).1
def nF(out:List Int)(d:ar.D):List Int:=if d.2.1∈out then out else out++[d.2.1]
structure nG(id:Int)(out:List Int):Prop where
 x':out.Nodup
 sub:out⊆FE l
 ya:∀b,b∈out->dI l id b
def nG.len{id:Int}{out:List Int}(h:nG l id out):out.length<=dm l:=by rw[<-afW];exact h.x'.length_le_of_subset h.sub
def VZ{id q:Int}{out:List Int}{d:ar.D}(h:nG l id out)(g:q=id\/dI l id q)(aa:d∈f_ l q):nG l id (nF out d):=by
 unfold nF;split
 ·exact h
 ·rename_i hn;have he:E l q d.2.1:=(Nj l).2 ⟨d,aa,rfl⟩;refine⟨?_,?_,?_⟩
  ·rw[List.nodup_append];refine⟨h.x',by simp,?_⟩;intro a e b hb;rw[kG]at hb;subst hb
   rintro rfl
   exact hn e
  ·intro a e;rcases List.mem_append.1 e with e|e
   ·exact h.sub e
   ·rw[kG]at e;rw[e];exact afX l aa
  ·intro b hb;rcases List.mem_append.1 hb with hb|hb
   ·exact h.ya b hb
   ·rw[kG]at hb;rw[hb];rcases g with rfl|g
    ·exact .single he
    ·exact g.tail he
def V0(out:List Int)(d:ar.D):∃t,nF out d=out++t:=by
 unfold nF;split
 ·exact⟨[],by simp⟩
 ·exact⟨_,rfl⟩
def afZ(out:List Int)(d:ar.D):d.2.1∈nF out d:=by
 unfold nF;split
 ·assumption
 ·simp
def addN(q:Int)(out:List Int):List Int:=dG (f_ l q).length (fun j o=>nF o (I ar (f_ l q) j)) out
def af0{id q:Int}{out:List Int}(h:nG l id out)(e:q=id\/dI l id q):nG l id (addN l q out)/\(∃t,addN l q out=out++t)/\∀d,d∈f_ l q->d.2.1∈addN l q out:=by
 have key:=qG (n:=(f_ l q).length) (f:=fun j o=>nF o (I ar (f_ l q) j)) (fun j o=>nG l id o/\(∃t,o=out++t)/\∀k,k<j->(I ar (f_ l q) k).2.1∈o) (fun j o g m=>by
  obtain⟨h1,⟨t,ht⟩,p⟩:=m;refine⟨VZ l h1 e (cI g),?_,?_⟩
  ·obtain⟨b,a⟩:=V0 o (I ar (f_ l q) j);exact⟨t++b,by rw[a,ht,dW]⟩
  ·intro k hk;by_cases r:k=j
   ·subst r;exact afZ _ _
   ·obtain⟨b,a⟩:=V0 o (I ar (f_ l q) j);rw[a]
    exact List.mem_append.2 (.inl (p k (by omega)))) ⟨h,⟨[],by simp⟩,fun k hk=>by omega⟩
 obtain⟨s,k2,k3⟩:=key;refine⟨s,k2,fun d aa=>?_⟩;obtain⟨i,u,he⟩:=eC aa;rw[<-he];exact k3 i u
end
structure Found(l:List aQ)(id:Int)(out:List Int):Prop where
 x':out.Nodup
 iff:∀b,b∈out↔dI l id b
 len:out.length<=dm l
def V1{l:List aQ}{id:Int}{out:List Int}(h:nG l id out)(hc:∀q,q=id\/q∈out->∀d,d∈f_ l q->d.2.1∈out):Found l id out:=by
 refine⟨h.x',fun b=>⟨h.ya b,fun hb=>?_⟩,h.len⟩
 induction hb with
 |single he=>obtain⟨d,h1,rfl⟩:=(Nj l).1 he;exact hc id (.inl rfl) d h1
 |tail _ he a=>obtain⟨d,h1,rfl⟩:=(Nj l).1 he;exact hc _ (.inr a) d h1
def af1(v:ad.D)(hl:v.2.1.length<=1048576)(hn:dm v.2.1<=1048576)(id:Int):∀(r i:Nat) (out:List Int),i+r=dm v.2.1+1->nG v.2.1 id out->i<=out.length+1 →
  (∀k,k<i->∀d,d∈f_ v.2.1 (I (.int .i64) (id::out) k)->d.2.1∈out) →
  ∃e,Found v.2.1 id e/\bU (fun m=>(kU m).aZ v (i:Int) out (id::out)) (1+r*1048580) (some (e,())):=by
 intro r
 induction r with
 |zero=>
  intro i out z b A hc;have:=b.len;have n:i=out.length+1:=by omega
  refine⟨out,V1 b fun q a d aa=>?_,(bU.done fun m=>?_).mono (by omega)⟩
  ·rcases a with rfl|a
   ·exact hc 0 (by omega) d aa
   ·obtain⟨k,hk,he⟩:=eC (t:=.int .i64) a;exact hc (k+1) (by omega) d (by rw[show I (.int .i64) (id::out) (k+1)=I (.int .i64) out k from rfl,he];exact aa)
  ·show og (kU m) _ _ _ _=_;unfold og;rw[show(id::out).length=i by rw[b2,n],bI (bu _)];rfl
 |succ r C=>
  intro i out z b A hc;by_cases g:i<out.length+1
  case neg=>
   have n:i=out.length+1:=by omega
   refine⟨out,V1 b fun q a d aa=>?_,(bU.done fun m=>?_).mono (by omega)⟩
   ·rcases a with rfl|a
    ·exact hc 0 (by omega) d aa
    ·obtain⟨k,hk,he⟩:=eC (t:=.int .i64) a;exact hc (k+1) (by omega) d (by rw[show I (.int .i64) (id::out) (k+1)=I (.int .i64) out k from rfl,he];exact aa)
   ·show og (kU m) _ _ _ _=_;unfold og;rw[show(id::out).length=i by rw[b2,n],bI (bu _)];rfl
  generalize a:I (.int .i64) (id::out) i=q at *
  have u:q=id\/dI v.2.1 id q:=by
   cases i with
   |zero=>left;rw[<-a];rfl
   |succ k=>right;refine b.ya q ?_;rw[<-a];exact cI (t:=.int .i64) (xs:=out) (by omega)
  obtain⟨D,⟨t,ht⟩,k3⟩:=af0 v.2.1 b u;have w:∀k,k<out.length+1->I (.int .i64) (id ::(out++t)) k=I (.int .i64) (id::out) k:=by intro k hk;unfold I;rw[List.getD_eq_getElem?_getD,List.getD_eq_getElem?_getD,<-jF,List.getElem?_append_left (by simpa using hk)]
  obtain⟨e,E,p⟩:=C (i+1) (addN v.2.1 q out) (by omega) D (by rw[ht];simp;omega) (fun k hk d aa=>by
   by_cases F:k=i
   ·subst F;rw[ht,w k g,a]at aa;exact k3 d aa
   ·rw[ht,w k (by omega)]at aa;rw[ht]
    exact List.mem_append.2 (.inl (hc k (by omega) d aa)))
  refine⟨e,E,?_⟩;have G:=b.len;have y:i<4000000000000000000:=by omega
  cases h:bp v.2.1 q with
  |none=>
   have s:f_ v.2.1 q=[]:=by unfold f_;rw[h]
   have H:addN v.2.1 q out=out:=by unfold addN;rw[s];rfl
   rw[H]at p;refine(p.step (f:=fun m=>(kU m).aZ v (i:Int) out (id::out)) fun m=>?_).mono (by omega);show og (kU m) _ _ _ _=_;unfold og;rw[bj (by simpa using g),aU (by simpa using g)];simp only[au,ag,bE];rw[a,vu v q hl];simp only[ag];rw[h,c0 i y];rfl
  |some x=>
   have s:f_ v.2.1 q=aq (I J v.2.1 x):=by unfold f_;rw[h]
   have K:=afY v.2.1 q
   have inner:=qH (f_ v.2.1 q).length 1 (fun m j (o:List Int)=>(kU m).fk v (i:Int) (f_ v.2.1 q) ((f_ v.2.1 q).length:Int) (j:Int) o (id::o)) (fun j o=>nF o (I ar (f_ v.2.1 q) j)) (fun j o=>nG v.2.1 id o) (fun j o l b=>VZ v.2.1 b u (cI l)) (fun j o l b B L he=>by
    refine he.step fun m=>?_
    have G:=b.len;show wQ (kU m) _ _ _ _ _ _ _=_;unfold wQ;rw[bj l,aU l];simp only[au,ag];rw[contains_eq _ _ (by omega)];simp only[ag];rw[c0 j (by omega)];unfold nF;by_cases hm:(I ar (f_ v.2.1 q) j).2.1∈o
    ·rw[bR hm,bg hm];rfl
    ·rw[bW hm,bd hm,bX (by simp;omega),bX (by simp;omega)];rfl) out b (1+r*1048580+1) (some (e,())) (by
    refine p.step fun m=>?_
    show wQ (kU m) _ _ _ _ _ _ _=_;unfold wQ;rw[bI (bu _)];simp only[ay]
    rw[c0 i y];rfl)
   refine(inner.step (f:=fun m=>(kU m).aZ v (i:Int) out (id::out)) fun m=>?_).mono (by omega);show og (kU m) _ _ _ _=_;unfold og;rw[bj (by simpa using g),aU (by simpa using g)];simp only[au,ag,bE];rw[a,vu v q hl];simp only[ag];rw[h,s];rfl
def Nk(v:ad.D)(hl:v.2.1.length<=1048576)(hn:dm v.2.1<=1048576)(id:Int):∃out,Found v.2.1 id out/\rU (v,id,())=some (out,()):=by obtain⟨out,h1,a⟩:=af1 v hl hn id (dm v.2.1+1) 0 [] (by omega) ⟨by simp,by simp,by simp⟩ (by simp) (fun k hk=>by omega);refine⟨out,h1,?_⟩;show Aq (kU aC) v id=_;unfold Aq;have hm:(dm v.2.1+1)*1048580<=1048577*1048580:=c3 _ (by omega);exact jx a (by omega)
def yb{b:Type}(n W:Nat)(F:Nat->Nat->b)(P:Nat->Bool)(no E:b)(B:Nat)
  (hs:∀i,i<n->(∀j,j<i->P j=true)->P i=true->∀B y,bU (fun m=>F m (i+1)) B y->bU (fun m=>F m i) (B+W) y)
  (d:∀i,i<n->(∀j,j<i->P j=true)->P i=false->bU (fun m=>F m i) W no)
  (e:(∀j,j<n->P j=true)->bU (fun m=>F m n) B E):bU (fun m=>F m 0) (B+n*W) (cond (dv n P) E no):=by
 have key:∀r i,i+r=n->(∀j,j<i->P j=true)->bU (fun m=>F m i) (B+r*W) (cond (dv n P) E no):=by
  intro r
  induction r with
  |zero=>
   intro i g ai;have:i=n:=by omega
   subst this;rw[fN.2 ai];simpa using e ai
  |succ r k=>
   intro i g ai;cases a:P i
   ·have:dv n P=false:=by
     rw[<-jG];intro h;have:=fN.1 h i (by omega);rw[a]at this;cases this
    rw[this];refine(d i (by omega) ai a).mono ?_;rw[de];omega
   ·have:=hs i (by omega) ai a _ _ (k (i+1) (by omega) fun j l=>by
     by_cases h:j=i
     ·subst h;exact a
     ·exact ai j (by omega))
    rw[de,<-dQ];exact this
 exact key n 0 (by omega) (by intro j l;omega)
def eK(x:aQ):Int:=x.2.2.2.2.2.2.2.1
def eo(x:aQ):Int:=x.2.2.2.2.2.2.2.2.1
def plain(x:aQ):Bool:=((aq x).length:Int)==0&&eK x==0&&eo x==0
def mM(l:List aQ)(N:List ar.D)(j:Nat):Bool:=
 g_ (I ar N j).1 && !(decide (0<j) && !dr (I ar N (j-1)).1 (I ar N j).1) && !((I ar N j).2.1==1)&&(bp l (I ar N j).2.1).isSome
def qI(l:List aQ)(x:aQ):Bool:=dv (aq x).length (mM l (aq x))&&decide (((aq x).length:Int)<=12)
def lN(l:List aQ)(x:aQ):Bool:=
 b8 x.2.2.1 0 2047&&b8 x.2.2.2.1 0 1000&&b8 x.2.2.2.2.1 0 1000 &&
  cond (x.2.1==1) (plain x&&decide (((bN x).length:Int)<=64))
   (cond (x.2.1==3) (plain x&&iL (bN x)&&x.2.2.1==511)
    (cond (x.2.1==2) (bm (bN x) []&&b8 (eK x) 0 400&&b8 (eo x) 0 24&&qI l x) false))
def af2(v:ad.D)(x:aQ)(hl:v.2.1.length<=1048576)(hn:(aq x).length<=1048576)(hs:∀d,d∈aq x->d.1.length<=1048576):Ij (v,x,())=some (qI v.2.1 x,()):=by
 show Ai (rR aC) v x=_;unfold Ai qI;refine jN (aq x).length (by omega) (mM v.2.1 (aq x)) _ (fun m i=>rR m v (aq x) ((aq x).length:Int) i x) ?_ ?_
 ·intro m _;simp only[rR,Aj];rw[bI (bu _)];rfl
 ·intro m i a _ b;simp only[rR,Aj,b];rw[bj a,aU a];simp only[au,ag];rw[afM _ (by have:=hs _ (cI a);omega)];simp only[ag];rw[vu v _ hl];simp only[ag];unfold mM
  cases i with
  |zero=>simp only[nD,n1,decide_false,ay,ma,cR,kJ];cases g_ (I ar (aq x) 0).1<;>cases (I ar (aq x) 0).2.1==1<;>cases (bp v.2.1 (I ar (aq x) 0).2.1)<;>rfl
  |succ i=>rw[show(List.length x.2.2.2.2.2.2.1)=(aq x).length from rfl,nC a (by omega)];simp only[nE,nZ,decide_true,au,ag,iD,gI];rw[show(I ar x.2.2.2.2.2.2.1 i)=I ar (aq x) i from rfl];cases g_ (I ar (aq x) (i+1)).1<;>cases (I ar (aq x) (i+1)).2.1==1<;>cases (bp v.2.1 (I ar (aq x) (i+1)).2.1)<;>cases dr (I ar (aq x) i).1 (I ar (aq x) (i+1)).1<;>rfl
def af3(v:ad.D)(x:aQ)(hl:v.2.1.length<=1048576)(hn:(aq x).length<=1048576)(q:Nat)(b:(aq x).length<q):(oD q).kX 0 v x=some (dv (aq x).length (mM v.2.1 (aq x)),()):=by
 have:=jN (aq x).length (by omega) (mM v.2.1 (aq x)) true (fun m i=>(oD m).kX i v x) (by
  intro m _;show xg (oD m) _ _ _=_;unfold xg;show cond (decide (((aq x).length:Int)<((aq x).length:Int))) _ _=_
  rw[bI (bu _)];rfl) (by
  intro m i a _ d;show xg (oD m) _ _ _=_;unfold xg;show cond (decide ((i:Int)<((aq x).length:Int))) ((ax (aq x).length (i:Int)).bind _) _=_;rw[bj a,aU a];simp only[au,ag,d];rw[afL];simp only[ag];rw[mL v _ hl];simp only[ag,x8];unfold mM;rw[show(x.2.2.2.2.2.2.1)=aq x from rfl]
  cases i with
  |zero=>simp only[nD,n1,decide_false,ay,ma,cR,kJ];cases g_ (I ar (aq x) 0).1<;>cases (I ar (aq x) 0).2.1==1<;>cases (bp v.2.1 (I ar (aq x) 0).2.1)<;>rfl
  |succ i=>
   rw[nC a (by omega)];simp only[nE,nZ,decide_true,au,ag,iD,gI]
   cases g_ (I ar (aq x) (i+1)).1<;>cases (I ar (aq x) (i+1)).2.1==1<;>cases (bp v.2.1 (I ar (aq x) (i+1)).2.1)<;>cases dr (I ar (aq x) i).1 (I ar (aq x) (i+1)).1<;>rfl) q b
 rw[kJ]at this;exact this
def V2(v:ad.D)(x:aQ)(hl:v.2.1.length<=1048576)(hn:(aq x).length<=1048576):Cp (v,x,())=some (lN v.2.1 x,()):=by
 obtain⟨q,a,d⟩:=iK 1;show Co (oD aC) v x=_;rw[a];unfold Co;have hk:∀b,(oD (q+1)).aZ b v x=Kg (oD q) b v x:=fun _=>rfl
 simp only[hk];unfold Kg;rw[af3 v x hl hn q (by omega),VO];simp only[fY,ag,jd];congr 2;unfold lN qI plain eK eo bN;rw[show(x.2.2.2.2.2.2.1)=aq x from rfl];generalize dv (aq x).length (mM v.2.1 (aq x))=A;generalize iL x.2.2.2.2.2.1=e;generalize bm x.2.2.2.2.2.1 []=g;generalize x.2.2.2.2.2.1.length=h;generalize (aq x).length=i;generalize x.2.2.2.2.2.2.2.1=j;generalize x.2.2.2.2.2.2.2.2.1=k;simp only[b8];rw[jj];simp only[Bool.cond_eq_ite,Bool.ite_eq_true_distrib,bs,kI,eT,ei,hI,hH]
 grind (splits:=60)
def V3(v:ad.D)(x:aQ)(hl:v.2.1.length<=1048576)(hn:(aq x).length<=1048576)(hs:∀d,d∈aq x->d.1.length<=1048576)(aa:(bN x).length<=1048576):Am (v,x,())=some (lN v.2.1 x,()):=by
 obtain⟨q,a,b⟩:=iK 1;show Al (wP aC) v x=_;rw[a];unfold Al;simp only[wP,Ik];rw[af2 v x hl hn hs,M9 _ (by unfold bN at aa;omega)];simp only[fZ,ag,jd];congr 2;unfold lN qI plain eK eo bN;rw[show(x.2.2.2.2.2.2.1)=aq x from rfl];generalize dv (aq x).length (mM v.2.1 (aq x))=A;generalize iL x.2.2.2.2.2.1=e;generalize bm x.2.2.2.2.2.1 []=g;generalize x.2.2.2.2.2.1.length=h;generalize (aq x).length=i;generalize x.2.2.2.2.2.2.2.1=j;generalize x.2.2.2.2.2.2.2.2.1=k;simp only[b8];rw[jj];simp only[Bool.cond_eq_ite,Bool.ite_eq_true_distrib,bs,kI,eT,ei,hI,bne_iff_ne,hH]
 grind (splits:=60)
section
variable(l:List aQ)
def mN(F:Flags):List Nat:=(List.range l.length).filter fun i=>I .bool F i
def dl(i:Nat):Nat:=(bN (I J l i)).length
def iN(F:Flags):Nat:=((mN l F).map (dl l)).sum
def je(F:Flags):Nat:=(mN l F).length
def pre(F:Flags)(i:Nat):List Nat:=(List.range i).filter fun i=>I .bool F i
def Nl(F:Flags)(i:Nat):pre F (i+1)=pre F i++cond (I .bool F i) [i] []:=by unfold pre;rw[List.range_succ,List.filter_append];cases h:I .bool F i<;>simp[gr,h]
def V4(F:Flags){i:Nat}(b:i<=l.length):((pre F i).map (dl l)).sum<=bytesOf (l.take i)/\(pre F i).length<=i:=by
 induction i with
 |zero=>simp[pre]
 |succ i a=>
  obtain⟨h1,d⟩:=a (by omega);rw[Nl,vv (by omega)];cases I .bool F i
  ·simp only[ay,dn];omega
  ·simp only[au,kg,pz,bZ,dh,List.map_nil,eM,List.sum_nil,b2,cU];have:dl l i=(bN (I J l i)).length:=rfl;omega
end
def V5(v:ad.D)(id:Int)(hl:v.2.1.length<=1048576)(hn:dm v.2.1<=1048576)(hb:bytesOf v.2.1<=1048576):
  xn (v,id,())=some ((iN v.2.1 (dH v.2.1 id):Int),(je v.2.1 (dH v.2.1 id):Int),()):=by
 show Cx (sA aC) v id=_;unfold Cx;rw[VS v id hl hn];simp only[ag];have d:=VY v.2.1 id;generalize dH v.2.1 id=F at *
 have:=k8 v.2.1.length (by omega) (fun m i=>sA m (((pre F i.toNat).map (dl v.2.1)).sum:Nat) ((pre F i.toNat).length:Nat) i v F) (fun _=>some ((iN v.2.1 F:Int),(je v.2.1 F:Int),())) (fun _=>True) (fun m _=>by
  simp only[sA,Cy]
  rw[d,bI (bu _)];rfl) (fun m i e _ h a=>by
  have a:=a trivial;simp only[sA,Cy,h];rw[d,bj e,aU e];simp only[au,ag,ed,bE];rw[show((i:Int)+1).toNat=i+1 by omega,Nl]at a;have h1:=V4 v.2.1 F (i:=i) (by omega);have b:=V4 v.2.1 F (i:=i+1) (by omega);have j:=Fw v.2.1 (i+1);rw[Nl]at b;cases g:I .bool F i
  ·rw[g]at a;simp only[ay,dn]at a⊢;exact a
  ·rw[g]at a b;simp only[au,kg,pz,bZ,dh,List.map_nil,eM,List.sum_nil,b2,cU,cz,bE]at a b⊢;rw[show((I J v.2.1 i).2.2.2.2.2.1).length=dl v.2.1 i from rfl,c0 _ (by omega),cm (by omega) (by omega),<-Int.natCast_add]
   exact a) v.2.1.length 0 aC (by omega) (hR (by omega)) trivial
 simpa[pre]using this
def lO(l:List aQ)(b:Int):Nat:=
 match bp l b with
 |none=>0
 |some i=>dl l i
def V6{l:List aQ}(b:Int):lO l b<=bytesOf l:=by
 unfold lO;split
 ·omega
 ·rename_i i a;have h1:=vv (b3 a).1;have d:=Fw l (i+1);unfold dl;omega
def V7(v:ad.D)(id:Int)(hl:v.2.1.length<=1048576)(hn:dm v.2.1<=1048576)(hb:bytesOf v.2.1<=1048576):
  ∃out,Found v.2.1 id out/\wT (v,id,())=some ((((out.map (lO v.2.1)).sum:Nat):Int),(out.length:Int),()):=by
 obtain⟨out,e,he⟩:=Nk v hl hn id;refine⟨out,e,?_⟩;show Aw (oh aC) v id=_;unfold Aw;rw[he];simp only[ag];have n:=e.len
 have h:∀i,i<=out.length->((out.take i).map (lO v.2.1)).sum<=i*1048576:=by
  intro i
  induction i with
  |zero=>intro _;simp
  |succ i a=>intro b;rw[hD (by omega),kg,pz];have:=a (by omega);have:=V6 (l:=v.2.1) out[i];simp only[dh,List.map_nil,eM,List.sum_nil];omega
 have:=k8 out.length (by omega) (fun m i=>oh m v (((out.take i.toNat).map (lO v.2.1)).sum:Nat) (out.length:Int) i out) (fun _=>some ((((out.map (lO v.2.1)).sum:Nat):Int),(out.length:Int),())) (fun _=>True) (fun m _=>by
  simp only[oh,Ax];rw[bI (bu _)]
  simp only[ed,ia,ay]) (fun m i b _ j a=>by
  have a:=a trivial;simp only[oh,Ax,j];rw[bj b,aU b];simp only[au,ag,ed,bE];rw[vu v _ hl];simp only[ag];rw[show((i:Int)+1).toNat=i+1 by omega,hD b,kg,pz]at a;simp only[dh,List.map_nil,eM,List.sum_nil,cz]at a;have k:I (.int .i64) out i=out[i]:=cC (t:=.int .i64) b;rw[k];have o:=h i (by omega);have d:=V6 (l:=v.2.1) out[i];have p:i*1048576<=1048576*1048576:=c3 _ (by omega);unfold lO at a d
  cases g:bp v.2.1 out[i]with
  |none=>rw[g]at a;exact a
  |some x=>
   rw[g]at a d;show oh m v (aj (_ +(((I J v.2.1 x).2.2.2.2.2.1).length:Int))) _ _ _=_;have d:dl v.2.1 x<=bytesOf v.2.1:=d;have a:oh m v ((List.map (lO v.2.1) (out.take i)).sum+dl v.2.1 x:Nat) (out.length:Int) ((i:Int)+1) out=_:=a;rw[show((I J v.2.1 x).2.2.2.2.2.1).length=dl v.2.1 x from rfl,cm (by omega) (by omega),<-Int.natCast_add]
   exact a) out.length 0 aC (by omega) (hR (by omega)) trivial
 simpa using this
def V8{l:List aQ}(aa:g' l)(k:o8 l){id:Int}{out:List Int}(h:Found l id out):(out.map (lO l)).sum=iN l (dH l id)/\out.length=je l (dH l id):=by
 have n:((mN l (dH l id)).map fun i=>(I J l i).1).Nodup:=by
  have m:(mN l (dH l id)).Nodup:=(List.nodup_range).filter _;unfold List.Nodup at m⊢;rw[List.pairwise_map];refine m.imp_of_mem fun {a b} j hb o he=>o ?_
  have j:=(List.mem_filter.1 j).1;have hb:=(List.mem_filter.1 hb).1;have h1:=aa a (by simpa using j);have e:=aa b (by simpa using hb);rw[he,e]at h1;exact(aS h1).symm
 have ai:out.Perm ((mN l (dH l id)).map fun i=>(I J l i).1):=by
  rw[List.perm_ext_iff_of_nodup h.x' n];intro b;rw[h.iff];constructor
  ·intro hb
   have hex:∃i,bp l b=some i:=by
    cases hb with
    |single he=>obtain⟨i,d,h1,e,rfl⟩:=he;exact Option.isSome_iff_exists.1 (k i (b3 h1).1 d e)
    |tail _ he=>obtain⟨i,d,h1,e,rfl⟩:=he;exact Option.isSome_iff_exists.1 (k i (b3 h1).1 d e)
   obtain⟨i,g⟩:=hex;obtain⟨h1,e⟩:=b3 g;refine List.mem_map.2 ⟨i,List.mem_filter.2 ⟨by simpa using h1,?_⟩,e⟩;exact(vw l aa id h1).2 (by rw[e];exact hb)
  ·intro hb;obtain⟨i,g,rfl⟩:=List.mem_map.1 hb;obtain⟨h1,e⟩:=List.mem_filter.1 g;exact(vw l aa id (by simpa using h1)).1 e
 refine⟨?_,by rw[ai.length_eq,List.length_map];rfl⟩;rw[(ai.map (lO l)).sum_nat,List.map_map];unfold iN;congr 1;refine List.map_congr_left fun i g=>?_
 have h1:=(List.mem_filter.1 g).1;show lO l (I J l i).1=dl l i;unfold lO;rw[aa i (by simpa using h1)]
def il(l:List aQ)(x:aQ):Bool:=
 (decide (eK x>0)&&decide ((iN l (dH l x.1):Int)>eK x))||(decide (eo x>0)&&decide ((je l (dH l x.1):Int)>eo x))
def fG(l:List aQ):Bool:=cond (dv l.length fun i=> !il l (I J l i)) false true
def af4(v:ad.D)(x:aQ)(hl:v.2.1.length<=1048576)(hn:dm v.2.1<=1048576)(hb:bytesOf v.2.1<=1048576)(aa:g' v.2.1)(a:o8 v.2.1):Ip (v,x,())=some (il v.2.1 x,()):=by
 show Io v x=_;unfold Io;obtain⟨out,b,he⟩:=V7 v x.1 hl hn hb;rw[he];obtain⟨h1,d⟩:=V8 aa a b;rw[h1,d];simp only[ag,jd];congr 2;unfold il eK eo;generalize (iN v.2.1 (dH v.2.1 x.1):Int)=B;generalize (je v.2.1 (dH v.2.1 x.1):Int)=e;rw[jj];simp only[Bool.cond_eq_ite,Bool.ite_eq_true_distrib,bs,kI,ei]
 grind
def V9(v:ad.D)(hl:v.2.1.length<=1048576)(hn:dm v.2.1<=1048576)(hb:bytesOf v.2.1<=1048576)(aa:g' v.2.1)(d:o8 v.2.1):wU (v.2.1,v,())=some (fG v.2.1,()):=by
 show Ir v.2.1 v=_;unfold Ir
 have h:Iq (v.2.1,v,())=some (gZ (eY v.2.1.length fun i=>il v.2.1 (I J v.2.1 i)),()):=by
  show Az (rX aC) v.2.1 v=_;unfold Az;refine qE v.2.1.length (by omega) _ (fun o=>some (gZ o,())) (fun m i=>rX m v.2.1 v (v.2.1.length:Int) i) ?_ ?_
  ·intro m;simp only[rX,AA];rw[bI (bu _)];rfl
  ·intro m i a e;simp only[rX,AA,e];rw[bj a,aU a];simp only[au,ag];rw[af4 v _ hl hn hb aa d];rfl
 rw[h];simp only[ag,x9];congr 2;unfold fG
 cases b:eY v.2.1.length fun i=>il v.2.1 (I J v.2.1 i)with
 |none=>rw[fN.2 (fun i a=>by rw[kv.1 b i a];rfl)];rfl
 |some i=>
  obtain⟨h1,g,_⟩:=gY.1 b;have:dv v.2.1.length (fun i=> !il v.2.1 (I J v.2.1 i))=false:=by rw[<-jG];intro h;have:=fN.1 h i h1;rw[g]at this;cases this
  rw[this];rfl
def V_(v:ad.D)(hl:v.2.1.length<=1048576)(hn:dm v.2.1<=1048576)(hb:bytesOf v.2.1<=1048576)(hk:∀i,i<v.2.1.length->(I J v.2.1 i).2.1≠2->eK (I J v.2.1 i)=0/\eo (I J v.2.1 i)=0):CA (v,())=some (fG v.2.1,()):=by
 show Cz (jt aC) v=_;unfold Cz;have l:∀x:aQ,eK x=0->eo x=0->il v.2.1 x=false:=by intro x h1 s;unfold il;rw[h1,s];rfl
 have n:∀(m i:Nat),i<v.2.1.length->(jt (m+1)).k2 (i:Int) v=cond ((I J v.2.1 i).2.1 != 2) ((jt m).k2 ((i+1:Nat):Int) v) (cond (eK (I J v.2.1 i)==0) (cond (eo (I J v.2.1 i)==0) ((jt m).k2 ((i+1:Nat):Int) v) ((jt m).c7 (i:Int) v (I J v.2.1 i))) ((jt m).c7 (i:Int) v (I J v.2.1 i))):=by intro m i e;show xp (jt m) _ _=_;unfold xp;rw[bj e,aU e];simp only[au,ag];rw[c0 i (by omega)];rfl
 have o:∀(m i:Nat) (x:aQ),i<v.2.1.length->(jt (m+1)).c7 (i:Int) v x=cond (il v.2.1 x) (some (true,())) ((jt m).k2 ((i+1:Nat):Int) v):=by intro m i x e;show Kh (jt m) _ _ _=_;unfold Kh;rw[V5 v _ hl hn hb];simp only[ag];rw[c0 i (by omega)];unfold il eK eo;generalize decide (x.2.2.2.2.2.2.2.1>0)=a;generalize decide ((iN v.2.1 (dH v.2.1 x.1):Int)>x.2.2.2.2.2.2.2.1)=b;generalize decide (x.2.2.2.2.2.2.2.2.1>0)=c;generalize decide ((je v.2.1 (dH v.2.1 x.1):Int)>x.2.2.2.2.2.2.2.2.1)=d;cases a<;>cases b<;>cases c<;>cases d<;>rfl
 have key:=yb v.2.1.length 2 (fun m i=>(jt m).k2 (i:Int) v) (fun i=> !il v.2.1 (I J v.2.1 i)) (some (true,())) (some (false,())) 1 (fun i e _ ai B p he=>by
  have ai:il v.2.1 (I J v.2.1 i)=false:=by simpa using ai
  have u:bU (fun m=>(jt m).c7 (i:Int) v (I J v.2.1 i)) (B+1) p:=he.step fun m=>by rw[o m i _ e,ai];rfl
  intro m hm;obtain⟨m,rfl⟩:∃k,m=k+1:=⟨m-1,by omega⟩
  show(jt (m+1)).k2 (i:Int) v=p;rw[n m i e];have q:=he m (by omega);have r:=u m (by omega);simp only at q r;rw[q,r]
  cases (I J v.2.1 i).2.1 != 2<;>cases eK (I J v.2.1 i)==0<;>cases eo (I J v.2.1 i)==0<;>rfl) (fun i e _ ai=>by
  have ai:il v.2.1 (I J v.2.1 i)=true:=by simpa using ai
  intro m hm;obtain⟨m,rfl⟩:∃k,m=k+2:=⟨m-2,by omega⟩
  show(jt (m+1+1)).k2 (i:Int) v=_;rw[n (m+1) i e,o m i _ e,ai]
  have w:((I J v.2.1 i).2.1 != 2)=false:=by
   rw[bne_eq_false_iff_eq];by_cases h:(I J v.2.1 i).2.1=2
   ·exact h
   ·obtain⟨g,j⟩:=hk i e h;rw[l _ g j]at ai;cases ai
  rw[w];cases g:eK (I J v.2.1 i)==0<;>cases j:eo (I J v.2.1 i)==0<;>try rfl
  rw[l _ (by simpa using g) (by simpa using j)]at ai;cases ai) (fun _=>bU.done fun m=>by
  show xp (jt m) _ _=_;unfold xp
  rw[bI (bu _)];rfl)
 have:=jx key (by omega);rw[show(((0:Nat):Int))=0 from rfl]at this;rw[this];unfold fG;cases dv v.2.1.length fun i=> !il v.2.1 (I J v.2.1 i)<;>rfl
def vx{α:Type}{f g:α->Nat}:∀(l:List α),(∀x,x∈l->f x<=g x)->(l.map f).sum<=(l.map g).sum
 | [],_=>by simp
 |x::l,h=>by
  simp only[dh,eM];have:=vx l fun a b=>h a (gS _ b)
  have:=h x gT;omega
def FF{α:Type}{f:α->Nat}:∀{l:List α}{x:α},x∈l->f x<=(l.map f).sum
 |a::l,x,h=>by
  simp only[dh,eM];rcases List.mem_cons.1 h with rfl|h
  ·omega
  ·have:=FF (f:=f) h;omega
def FG(x:aQ):U.cost J x=(bN x).length+U.cost (.sl ar) (aq x):=by simp only[fs,ft,fw,fx,gB,f',bE,cz];rfl
def V'(d:ar.D):U.cost ar d=d.1.length:=by simp only[fs,ft,fw,fx,gB,f',bE,cz]
def o9(x:aQ):Nat:=U.cost J x
def Nn(v:ad.D):U.cost ad v=v.2.1.length +(v.2.1.map o9).sum:=by
 have h:U.cost ad v=U.cost (.sl J) v.2.1:=by simp only[fs,ft,fw,fx,bE,cz]
 rw[h,jy];rfl
structure No(v:ad.D):Prop where
 len:v.2.1.length<=1048576
 c_:dm v.2.1<=1048576
 bytes:bytesOf v.2.1<=1048576
 each:∀x,x∈v.2.1->(aq x).length<=1048576/\(bN x).length<=1048576/\∀d,d∈aq x->d.1.length<=1048576
def Wa{v:ad.D}(h:U.cost ad v<=1048576):No v:=by
 rw[Nn]at h;refine⟨by omega,?_,?_,fun x b=>?_⟩
 ·have:=vx (f:=fun a:aQ=>(aq a).length) (g:=o9) v.2.1 fun x _=>by
   unfold o9;rw[FG];have:=fH (t:=ar) (aq x);omega
  unfold dm;omega
 ·have:=vx (f:=fun a:aQ=>(bN a).length) (g:=o9) v.2.1 fun x _=>by
   unfold o9;rw[FG];omega
  unfold bytesOf;omega
 ·have h1:=FF (f:=o9) b;unfold o9 at h1;rw[FG]at h1;have h:v.2.1.length +(v.2.1.map fun a=>U.cost J a).sum<=1048576:=h;have h1:(bN x).length+U.cost (.sl ar) (aq x)<=(v.2.1.map fun a=>U.cost J a).sum:=h1;have k:=fH (t:=ar) (aq x);refine⟨by omega,by omega,fun d aa=>?_⟩;obtain⟨i,e,he⟩:=eC aa;have j:=k9 (t:=ar) e;rw[he,V']at j;omega
def k_(v:ad.D)(i:Nat):Bool:=
 b8 (I J v.2.1 i).1 1 (aj (v.1-1)) && !(decide (0<i)&&decide ((I J v.2.1 (i-1)).1>=(I J v.2.1 i).1))&&lN v.2.1 (I J v.2.1 i)
def jz(l:List aQ)(i:Nat):Bool:=
 I .bool (dH l 1) (i+1) && !((I J l (i+1)).2.1==2&&((ch l (I J l (i+1)).1:Int) != 1))
def gC(v:ad.D):Bool:=
 b8 v.1 2 100000&&b8 (v.2.1.length:Int) 1 24&&(I J v.2.1 0).1==1&&(I J v.2.1 0).2.1==2 &&
  cond (dv v.2.1.length (k_ v)) (cond (dv (v.2.1.length-1) (jz v.2.1)) (decide ((bytesOf v.2.1:Int)<=400) && !fG v.2.1) false) false
def Wb{v:ad.D}(h:∀j,j<v.2.1.length->k_ v j=true):g' v.2.1:=by
 have g:∀d j,j+d+1<v.2.1.length->(I J v.2.1 j).1<(I J v.2.1 (j+d+1)).1:=by
  have h1:∀j,j+1<v.2.1.length->(I J v.2.1 j).1<(I J v.2.1 (j+1)).1:=by
   intro j a;have:=h (j+1) a;unfold k_ at this;simp only[bs,eT,ji,hH]at this;obtain⟨⟨_,b⟩,_⟩:=this;rcases b with b|b
   ·omega
   ·rw[iD]at b;exact Int.not_le.1 b
  intro d
  induction d with
  |zero=>intro j a;exact h1 j a
  |succ d i=>intro j a;exact Int.lt_trans (i j (by omega)) (h1 (j+d+1) a)
 intro x e;unfold bp;rw[gY];refine⟨e,by simp,fun j a=>?_⟩;obtain⟨d,rfl⟩:∃d,x=j+d+1:=⟨x-j-1,by omega⟩
 have:=g d j e;rw[jD];exact Int.ne_of_lt this
def Wc{v:ad.D}(h:∀j,j<v.2.1.length->k_ v j=true){i:Nat}(a:i<v.2.1.length):lN v.2.1 (I J v.2.1 i)=true:=by have:=h i a;unfold k_ at this;simp only[bs]at this;exact this.2
def Wd{l:List aQ}{x:aQ}(h:lN l x=true):(x.2.1≠2->eK x=0/\eo x=0/\aq x=[])/\∀d,d∈aq x->(bp l d.2.1).isSome=true:=by
 unfold lN at h;simp only[bs]at h;obtain⟨_,h⟩:=h;have ai:plain x=true->eK x=0/\eo x=0/\aq x=[]:=by intro ai;unfold plain at ai;simp only[bs,hI]at ai;exact⟨ai.1.2,ai.2,List.length_eq_zero_iff.1 (by omega)⟩
 by_cases h1:x.2.1=1
 ·rw[cf h1]at h;simp only[au,bs]at h;obtain⟨b,e,a⟩:=ai h.1;exact⟨fun _=>⟨b,e,a⟩,by rw[a];simp⟩
 ·rw[bO h1]at h;by_cases k:x.2.1=3
  ·rw[cf k]at h;simp only[au,ay,bs]at h;obtain⟨b,e,a⟩:=ai h.1.1;exact⟨fun _=>⟨b,e,a⟩,by rw[a];simp⟩
  ·rw[bO k]at h;by_cases g:x.2.1=2
   ·rw[cf g]at h;simp only[au,ay,bs]at h;refine⟨fun hn=>absurd g hn,fun d aa=>?_⟩;have j:=h.2;unfold qI at j;simp only[bs]at j;obtain⟨i,m,he⟩:=eC aa;have:=fN.1 j.1 i m;unfold mM at this;simp only[bs]at this;rw[<-he];exact this.2
   ·rw[bO g]at h;simp at h
def af5{v:ad.D}(h:∀j,j<v.2.1.length->k_ v j=true):o8 v.2.1:=fun i a d aa=>(Wd (Wc h a)).2 d aa
def FH{v:ad.D}{i:Nat}(a:i<v.2.1.length)(hl:v.2.1.length<=1048576)(K:Option (Bool×Unit)):
  cond (!b8 (I J v.2.1 i).1 1 (aj (v.1-1))) (some (false,()))
   (cond (decide ((i:Int)>0)) ((ax v.2.1.length (aj ((i:Int)-1))).bind fun j=>cond (decide ((I J v.2.1 j).1>=(I J v.2.1 i).1)) (some (false,())) (cond (!lN v.2.1 (I J v.2.1 i)) (some (false,())) K))
    (cond (!lN v.2.1 (I J v.2.1 i)) (some (false,())) K))=cond (k_ v i) K (some (false,())):=by
 unfold k_
 cases i with
 |zero=>simp only[nD,n1,decide_false,ay,ma,cR,kJ,mK,ik]
 |succ i=>rw[nC a (by omega)];simp only[nE,nZ,decide_true,au,ag,iD,gI,mK,ik]
def af6(v:ad.D)(hv:No v):Ki (v,())=some (gC v,()):=by
 obtain⟨hl,hn,hb,he⟩:=hv;show CB (lE aC) v=_;unfold CB;simp only[fY,ag];unfold gC;cases h1:b8 v.1 2 100000
 ·rfl
 cases l:b8 (v.2.1.length:Int) 1 24
 ·rfl
 have r:=(cL.1 l);simp only[bJ,ay];rw[show(0:Int)=((0:Nat):Int) from rfl,aU (show 0<v.2.1.length by omega)];simp only[ag];cases h:(I J v.2.1 0).1==1
 ·rw[cY (by simpa using h)];rfl
 rw[dA (by simpa using h)];simp only[ay];cases j:(I J v.2.1 0).2.1==2
 ·rw[cY (by simpa using j)];rfl
 rw[dA (by simpa using j)];simp only[ay,gI]
 have key:=yb v.2.1.length 1 (fun m i=>(lE m).aZ (i:Int) v) (k_ v) (some (false,())) (some (cond (dv (v.2.1.length-1) (jz v.2.1)) (decide ((bytesOf v.2.1:Int)<=400) && !fG v.2.1) false,())) (1 +(v.2.1.length-1)*1+1) (fun i a _ ai B n d=>by
  refine d.step fun m=>?_
  show sD (lE m) _ _=_;unfold sD;rw[bj a,aU a];simp only[au,ag,fY];have e:=he _ (cI a);rw[V2 v _ hl e.1,c0 i (by omega)];simp only[ag]
  rw[FH a hl,ai];rfl) (fun i a _ ai=>by
  refine bU.done fun m=>?_
  show sD (lE m) _ _=_;unfold sD;rw[bj a,aU a];simp only[au,ag,fY];have e:=he _ (cI a);rw[V2 v _ hl e.1,c0 i (by omega)];simp only[ag]
  rw[FH a hl,ai];rfl) (fun o=>by
  have k:=VY v.2.1 1
  have k2:=yb (v.2.1.length-1) 1 (fun m i=>(lE m).cn ((i+1:Nat):Int) v (dH v.2.1 1)) (jz v.2.1) (some (false,())) (some (decide ((bytesOf v.2.1:Int)<=400) && !fG v.2.1,())) 1 (fun i a _ ai B n d=>by
   refine d.step fun m=>?_
   show sE (lE m) _ _ _=_;unfold sE;have b:i+1<v.2.1.length:=by omega
   rw[bj b,aU b,k,aU b];simp only[au,ag,bE];rw[Fx v _ hl hn,c0 (i+1) (by omega)];simp only[ag];unfold jz at ai;simp only[bs,eT]at ai;rw[ai.1];have g:=ai.2;cases p:(I J v.2.1 (i+1)).2.1==2
   ·rfl
   ·rw[p]at g;simp only[gI]at g
    rw[g];rfl) (fun i a _ ai=>by
   refine bU.done fun m=>?_
   show sE (lE m) _ _ _=_;unfold sE;have b:i+1<v.2.1.length:=by omega
   rw[bj b,aU b,k,aU b];simp only[au,ag,bE];rw[Fx v _ hl hn,c0 (i+1) (by omega)];simp only[ag];unfold jz at ai;cases q:I .bool (dH v.2.1 1) (i+1)
   ·rfl
   ·rw[q]at ai;simp only[gI,Bool.not_eq_false']at ai;simp only[bs]at ai
    rw[ai.1,ai.2];rfl) (fun _=>bU.done fun m=>by
   rw[show v.2.1.length-1+1=v.2.1.length by omega];show sE (lE m) _ _ _=_;unfold sE;rw[bI (bu _),M' v hl hb];simp only[ay,ag];rw[V_ v hl hn hb (fun i a hk=>by have:=(Wd (Wc o a)).1 hk;exact⟨this.1,this.2.1⟩)]
   simp only[ag,jd,tv])
  have k3:=k2.step (f:=fun m=>(lE m).aZ ((v.2.1.length:Nat):Int) v) fun m=>by show sD (lE m) _ _=_;unfold sD;rw[bI (bu _),VS v 1 hl hn];rfl
  rw[show cond (dv (v.2.1.length-1) (jz v.2.1)) (some (decide ((bytesOf v.2.1:Int)<=400) && !fG v.2.1,())) (some (false,()))=some (cond (dv (v.2.1.length-1) (jz v.2.1)) (decide ((bytesOf v.2.1:Int)<=400) && !fG v.2.1) false,()) from jd _ _ _]at k3
  exact k3)
 have:=jx key (by omega);rw[this,jd]
def We{l:List aQ}{i:Nat}:I J (l.drop 1) i=I J l (i+1):=by unfold I;rw[List.getD_eq_getElem?_getD,List.getD_eq_getElem?_getD,List.getElem?_drop,Nat.add_comm 1 i]
def af7(v:ad.D)(hv:No v):Is (v,())=some (gC v,()):=by
 obtain⟨hl,hn,hb,he⟩:=hv;show AB (lz aC) v=_;unfold AB;simp only[fZ,ag];unfold gC;cases h1:b8 v.1 2 100000
 ·rfl
 cases o:b8 (v.2.1.length:Int) 1 24
 ·rfl
 have u:=(cL.1 o);simp only[bJ,ay];rw[show(0:Int)=((0:Nat):Int) from rfl,aU (show 0<v.2.1.length by omega)];simp only[ag];cases j:(I J v.2.1 0).1==1
 ·rw[cY (by simpa using j)];rfl
 rw[dA (by simpa using j)];simp only[ay];cases k:(I J v.2.1 0).2.1==2
 ·rw[cY (by simpa using k)];rfl
 rw[dA (by simpa using k)];simp only[ay,gI]
 have key:=yb v.2.1.length 1 (fun m i=>(lz m).aZ v.2.1 (v.2.1.length:Int) (i:Int) v) (k_ v) (some (false,())) (some (cond (dv (v.2.1.length-1) (jz v.2.1)) (decide ((bytesOf v.2.1:Int)<=400) && !fG v.2.1) false,())) (1 +(v.2.1.length-1)*1+1) (fun i a _ ai B p d=>by
  refine d.step fun m=>?_
  show rZ (lz m) _ _ _ _=_;unfold rZ;rw[bj a,aU a];simp only[au,ag,fZ];have b:=he _ (cI a);rw[V3 v _ hl b.1 b.2.2 b.2.1,c0 i (by omega)];simp only[ag]
  rw[FH a hl,ai];rfl) (fun i a _ ai=>by
  refine bU.done fun m=>?_
  show rZ (lz m) _ _ _ _=_;unfold rZ;rw[bj a,aU a];simp only[au,ag,fZ];have b:=he _ (cI a);rw[V3 v _ hl b.1 b.2.2 b.2.1,c0 i (by omega)];simp only[ag]
  rw[FH a hl,ai];rfl) (fun e=>by
  obtain⟨out,l,q⟩:=Nk v hl hn 1;have w:(v.2.1.drop 1).length=v.2.1.length-1:=by simp
  have y:=l.len;have n:∀i,i+1<v.2.1.length->decide ((I J v.2.1 (i+1)).1∈out)=I .bool (dH v.2.1 1) (i+1):=by intro i a;rw[jj,ei,l.iff];exact(vw v.2.1 (Wb e) 1 a).symm
  have k2:=yb (v.2.1.length-1) 1 (fun m i=>(lz m).cn (v.2.1.drop 1) ((v.2.1.drop 1).length:Int) (i:Int) v out) (jz v.2.1) (some (false,())) (some (decide ((bytesOf v.2.1:Int)<=400) && !fG v.2.1,())) 1 (fun i a _ ai B p d=>by
   refine d.step fun m=>?_
   show r0 (lz m) _ _ _ _ _=_;unfold r0;have g:i+1<v.2.1.length:=by omega
   rw[bj (by omega),aU (by omega)];simp only[au,ag];rw[show I J (List.drop 1 v.2.1) i=I J v.2.1 (i+1) from We];rw[contains_eq _ _ (by omega)];simp only[ag];rw[n i g,Fy v _ hl hn,c0 i (by omega)];simp only[ag];unfold jz at ai;simp only[bs,eT]at ai;rw[ai.1];have h:=ai.2;cases r:(I J v.2.1 (i+1)).2.1==2
   ·rfl
   ·rw[r]at h;simp only[gI]at h
    rw[h];rfl) (fun i a _ ai=>by
   refine bU.done fun m=>?_
   show r0 (lz m) _ _ _ _ _=_;unfold r0;have g:i+1<v.2.1.length:=by omega
   rw[bj (by omega),aU (by omega)];simp only[au,ag];rw[show I J (List.drop 1 v.2.1) i=I J v.2.1 (i+1) from We];rw[contains_eq _ _ (by omega)];simp only[ag];rw[n i g,Fy v _ hl hn,c0 i (by omega)];simp only[ag];unfold jz at ai;cases s:I .bool (dH v.2.1 1) (i+1)
   ·rfl
   ·rw[s]at ai;simp only[gI,Bool.not_eq_false']at ai;simp only[bs]at ai
    rw[ai.1,ai.2];rfl) (fun _=>bU.done fun m=>by
   show r0 (lz m) _ _ _ _ _=_;unfold r0;rw[bI (by omega),Na v hl hb];simp only[ay,ag];rw[V9 v hl hn hb (Wb e) (af5 e)]
   simp only[ag,jd,tv])
  have k3:=k2.step (f:=fun m=>(lz m).aZ v.2.1 (v.2.1.length:Int) ((v.2.1.length:Nat):Int) v) fun m=>by show rZ (lz m) _ _ _ _=_;unfold rZ;rw[bI (bu _),q];simp only[ay,ag];unfold cZ;rw[bg ⟨by omega,by omega,me _⟩];simp only[ag,ed];have:part v.2.1 (Int.toNat 1) (v.2.1.length-Int.toNat 1)=v.2.1.drop 1:=o_ v.2.1 1;rw[this];rfl
  rw[show cond (dv (v.2.1.length-1) (jz v.2.1)) (some (decide ((bytesOf v.2.1:Int)<=400) && !fG v.2.1,())) (some (false,()))=some (cond (dv (v.2.1.length-1) (jz v.2.1)) (decide ((bytesOf v.2.1:Int)<=400) && !fG v.2.1) false,()) from jd _ _ _]at k3
  exact k3)
 have:=jx key (by omega);rw[this,jd]
def vy(l:List Int)(i:Nat):Bool:=b8 (I (.int .i64) l i) 0 1000
def dB(c:aM.D):Bool:=b8 c.1 0 1000&&(b8 c.2.1 0 1000&&(decide ((c.2.2.1.length:Int)<=4)&&dv c.2.2.1.length (vy c.2.2.1)))
def Wf(a b:Int):decide (a>b) = !decide (a<=b):=by by_cases h:a<=b<;>simp[h]<;>omega
def Np(c:aM.D):xz (c,())=some (dB c,()):=by
 show De (sQ aC) c=_;unfold De dB;simp only[fY,ag];cases b8 c.1 0 1000
 ·rfl
 cases b8 c.2.1 0 1000
 ·rfl
 simp only[bJ,ay,gI,Wf,ik];by_cases hl:(c.2.2.1.length:Int)<=4
 case neg=>rw[bW hl];rfl
 rw[bR hl];simp only[au,gI]
 have:=jN c.2.2.1.length (by omega) (vy c.2.2.1) true (fun m i=>sQ m i c) (fun m _=>by
  simp only[sQ,Df]
  rw[bI (bu _)];rfl) (fun m i a _ b=>by
  simp only[sQ,Df,b];rw[bj a,aU a]
  simp only[au,ag,fY,ik,vy])
 rw[kJ]at this;exact this
def FI(c:aM.D):uP (c,())=some (dB c,()):=by
 show IP c=_;unfold IP dB;simp only[fZ,ag];cases b8 c.1 0 1000
 ·rfl
 cases b8 c.2.1 0 1000
 ·rfl
 simp only[bJ,ay,gI,Wf,ik];by_cases hl:(c.2.2.1.length:Int)<=4
 case neg=>rw[bW hl];rfl
 rw[bR hl];simp only[au,gI]
 have h:IN (c.2.2.1,())=some ((eY c.2.2.1.length fun i=> !vy c.2.2.1 i).isSome,()):=by
  show IM c.2.2.1=_;unfold IM
  have h:IL (c.2.2.1,())=some (gZ (eY c.2.2.1.length fun i=> !vy c.2.2.1 i),()):=by
   show AX (r_ aC) c.2.2.1=_;unfold AX;refine qE c.2.2.1.length (by omega) _ (fun o=>some (gZ o,())) (fun m i=>r_ m c.2.2.1 (c.2.2.1.length:Int) i) ?_ ?_
   ·intro m;simp only[r_,AY];rw[bI (bu _)];rfl
   ·intro m i a e;simp only[r_,AY,e];rw[bj a,aU a];simp only[au,ag];show Option.bind (IK (I (U.int .i64) c.2.2.1 i)) _=_;unfold IK;rw[fZ];rfl
  rw[h];simp only[ag,x9]
 rw[h];simp only[ag];congr 2;rw[jj,fN]
 cases b:eY c.2.2.1.length fun i=> !vy c.2.2.1 i with
 |none=>simp only[Option.isSome_none,cR,true_iff];exact fun i a=>by have:=kv.1 b i a;simpa using this
 |some i=>simp only[Option.isSome_some,bJ,gq,false_iff];obtain⟨h1,d,_⟩:=gY.1 b;exact fun h=>by rw[h i h1]at d;cases d
def Wg{c:aM.D}(h:dB c=true):c.2.2.1.length<=4:=by simp only[dB,bs,ei]at h;omega
def la(c:aM.D)(g:Int):Bool:=c.2.1==g||decide (g∈c.2.2.1)
def af8{l:List Int}{i:Nat}(g:Int)(a:i<l.length):decide (g∈l.drop i)=(I (.int .i64) l i==g||decide (g∈l.drop (i+1))):=by
 have h:=drop_cons (t:=.int .i64) a;have h:l.drop i=I (.int .i64) l i::l.drop (i+1):=h;rw[h,jj];simp only[List.mem_cons,ei,kI,hI];constructor
 ·rintro (h|h)
  ·exact .inl h.symm
  ·exact .inr h
 ·rintro (h|h)
  ·exact .inl h.symm
  ·exact .inr h
def Nq(c:aM.D)(g:Int)(hc:dB c=true):sS (c,g,())=some (la c g,()):=by
 show Dh (sR aC) c g=_;unfold Dh la;rw[Np,hc];simp only[ag,bJ,ay];have hl:=Wg hc
 have key:∀(r i m:Nat) (b:Bool),i+r=c.2.2.1.length->r<m->sR m g b (i:Int) c=some (b||decide (g∈c.2.2.1.drop i),()):=by
  intro r
  induction r with
  |zero=>intro i m b e hm;obtain⟨m,rfl,_⟩:=fuel hm;simp only[sR,Di];rw[bI (by omega),gp (by omega)];simp
  |succ r d=>
   intro i m b e hm;obtain⟨m,rfl,h⟩:=fuel hm;have a:i<c.2.2.1.length:=by omega
   simp only[sR,Di];rw[bj a,c0 i (by omega),af8 g a];simp only[au];cases b
   ·simp only[ay];rw[aU a];simp only[ag];rw[d (i+1) m _ (by omega) (by omega)];simp
   ·simp only[au];rw[d (i+1) m _ (by omega) (by omega)];simp
 have:=key c.2.2.1.length 0 aC (c.2.1==g) (by omega) (hR (by omega));simpa using this
def Nr(c:aM.D)(g:Int)(hc:dB c=true):r' (c,g,())=some (la c g,()):=by show IT c g=_;unfold IT la;have hl:=Wg hc;rw[FI,hc];simp only[ag,au];rw[contains_eq _ _ (by omega)];simp only[ag];rw[show(g==c.2.1)=(c.2.1==g) by rw[jj,hI,hI];exact⟨Eq.symm,Eq.symm⟩];cases c.2.1==g<;>rfl
def kindOf(x:aQ):Int:=x.2.1
def eL(x:aQ):Int:=x.2.2.1
def ef(x:aQ):Int:=x.2.2.2.1
def eZ(x:aQ):Int:=x.2.2.2.2.1
def jO(a b:Int):Int:=cJ .and .i64 a b
def three(c:aM.D)(n:aQ):Int:=
 cond (c.1==ef n) (Int.fdiv (eL n) (2^min (Int.toNat 6) 64)) (cond (la c (eZ n)) (Int.fdiv (eL n) (2^min (Int.toNat 3) 64)) (eL n))
def may(c:aM.D)(n:aQ)(w:Int):Bool:=
 b8 w 0 7&&cond (c.1==0) (jO w 1==0||(kindOf n != 1||jO (eL n) 73 != 0)) (jO (jO (three c n) 7) w==w)
def nH(c:aM.D)(n:aQ)(w:Int)(hc:dB c=true):ju (c,n,w,())=some (may c n w,()):=by
 show KO c n w=_;unfold KO may three;rw[Np,hc,fY];simp only[ag,bJ,ay];cases b8 w 0 7
 ·rfl
 simp only[bJ,ay,gI];cases c.1==0
 ·simp only[ay];rw[Nq c _ hc];simp only[ag];show cond (la c (eZ n)) (cond (c.1==ef n) _ _) (cond (c.1==ef n) _ _)=_;cases la c (eZ n)<;>cases c.1==ef n<;>rfl
 ·simp only[au];show cond (jO w 1==0) _ (cond (kindOf n != 1) _ (some (jO (eL n) 73 != 0,())))=_;cases jO w 1==0<;>cases kindOf n != 1<;>rfl
def yc(c:aM.D)(n:aQ)(w:Int)(hc:dB c=true):na (c,n,w,())=some (may c n w,()):=by
 show IU c n w=_;unfold IU may three;rw[FI,hc,fZ];simp only[ag,bJ,ay];cases b8 w 0 7
 ·rfl
 simp only[bJ,ay,gI];cases c.1==0
 ·simp only[ay];rw[Nr c _ hc];simp only[ag];show cond (c.1==ef n) _ (cond (la c (eZ n)) _ _)=_;cases la c (eZ n)<;>cases c.1==ef n<;>rfl
 ·simp only[au];show cond (kindOf n != 1) _ (cond (jO (eL n) 73 != 0) _ (some (jO w 1==0,())))=_;cases jO w 1==0<;>cases kindOf n != 1<;>cases jO (eL n) 73 != 0<;>rfl
def nI(c:aM.D)(d n:aQ):Bool:=jO (eL d) 512==0||(c.1==0||(c.1==ef d||c.1==ef n))
def Ns(c:aM.D)(d n:aQ)(hc:dB c=true):u9 (c,d,n,())=some (nI c d n,()):=by show KX c d n=_;unfold KX nI;rw[Np,hc];simp only[ag,bJ,ay];show cond (jO (eL d) 512==0) _ (cond (c.1==0) _ (cond (c.1==ef d) _ (some (c.1==ef n,()))))=_;cases jO (eL d) 512==0<;>cases c.1==0<;>cases c.1==ef d<;>rfl
def Nt(c:aM.D)(d n:aQ)(hc:dB c=true):qc (c,d,n,())=some (nI c d n,()):=by show I_ c d n=_;unfold I_ nI;rw[FI,hc];simp only[ag,au];show cond (jO (eL d) 512==0) _ (cond (c.1==0) _ (cond (c.1==ef d) _ (some (c.1==ef n,()))))=_;cases jO (eL d) 512==0<;>cases c.1==0<;>cases c.1==ef d<;>rfl
def qJ(s:af):Bool:=iL s&&nb s 0==47
def af9(s:af)(i:Nat):((s.getD i 0).toNat:Int)=nb s i:=rfl
def yd(s:af):Dc (s,())=some (qJ s,()):=by
 show Da (sP aC) s=_;unfold Da qJ iL;simp only[fY,ag];by_cases hl:b8 (s.length:Int) 1 60=true
 case neg=>rw[jG]at hl;rw[hl];simp
 have hb:=cL.1 hl;rw[hl];simp only[bJ,ay,kJ];rw[show ax s.length 0=some 0 from aU (i:=0) (by omega)];simp only[ag,af9,bne,ik];cases nb s 0==47
 ·simp
 simp only[au,kJ]
 have:=jN s.length (by omega) (fun i=>nb s i==47||qF (nb s i)) true (fun m i=>sP m s i) (fun m _=>by
  simp only[sP,Db]
  rw[bI (bu _)];rfl) (fun m i a _ b=>by
  simp only[sP,Db,b];rw[bj a,aU a]
  simp only[au,ag,Fv,ik,Fu,bne];rfl)
 rw[kJ]at this;exact this
def FJ(s:af)(hl:s.length<=4000000000000000000):IS (s,())=some (qJ s,()):=by
 show IQ s=_;unfold IQ qJ;rw[M9 s hl];simp only[ag];by_cases ht:iL s=true
 case neg=>rw[jG]at ht;rw[ht];rfl
 rw[ht];have:1<=s.length:=by unfold iL at ht;rw[bs]at ht;have:=cL.1 ht.2;omega
 simp only[au];rw[show ax s.length 0=some 0 from aU (i:=0) (by omega)];rfl
def tw(v:ad.D)(hl:v.2.1.length<=1048576)(hn:∀i,i<v.2.1.length->(aq (I J v.2.1 i)).length<=1048576):nq (v,())=some (v,()):=by
 show C9 (sO aC) v=_;unfold C9
 have:=k8 v.2.1.length (by omega) (fun m i=>sO m i v (0,([]:List J.D),()) (v.1,v.2.1.take i.toNat,())) (fun _=>some (v,())) (fun _=>True) (fun m _=>by
  simp only[sO,C_];rw[bI (bu _)]
  simp only[ed,ia,ay]) (fun m i a _ d b=>by
  simp only[sO,C_];rw[bj a,aU a];simp only[au,ag,ed];have e:=hn i a;show cond (room (0 +(aq (I J v.2.1 i)).length)) _ _=_;rw[bX (by omega)];simp only[au];unfold RJ;show cond (room ((v.2.1.take i).length+1)) _ _=_;rw[bX (by rw[dX];omega)];simp only[au];unfold RI;rw[d];have b:=b trivial;rw[show((i:Int)+1).toNat=i+1 by omega,hD a,<-cC (t:=J) a]at b
  exact b) v.2.1.length 0 aC (by omega) (hR (by omega)) trivial
 simpa using this
def af_(v:ad.D)(hl:v.2.1.length<=1048576)(hn:∀i,i<v.2.1.length->(aq (I J v.2.1 i)).length<=1048576):oi (v,())=some (v,()):=by
 show AJ (r3 aC) v=_;unfold AJ
 have:=k8 v.2.1.length (by omega) (fun m i=>r3 m v.2.1 (v.2.1.length:Int) i (0,([]:List J.D),()) (v.1,v.2.1.take i.toNat,())) (fun _=>some (v,())) (fun _=>True) (fun m _=>by
  simp only[r3,AK];rw[bI (bu _)]
  simp only[ed,ia,ay]) (fun m i a _ d b=>by
  simp only[r3,AK];rw[bj a,aU a];simp only[au,ag,ed];have e:=hn i a;show cond (room (0 +(aq (I J v.2.1 i)).length)) _ _=_;rw[bX (by omega)];simp only[au];unfold QC;show cond (room ((v.2.1.take i).length+1)) _ _=_;rw[bX (by rw[dX];omega)];simp only[au];unfold QB;rw[d];have b:=b trivial;rw[show((i:Int)+1).toNat=i+1 by omega,hD a,<-cC (t:=J) a]at b
  exact b) v.2.1.length 0 aC (by omega) (hR (by omega)) trivial
 simpa using this
def mO{a:Type}(W:Nat)(F:Nat->Nat->a)(y:a):∀(k B:Nat),(∀i,i<k->∀B y,bU (fun m=>F m (i+1)) B y->bU (fun m=>F m i) (B+W) y)->bU (fun m=>F m k) B y->bU (fun m=>F m 0) (B+k*W) y
 |0,B,_,h=>by simpa using h
 |k+1,B,b,h=>by have:=mO W F y k (B+W) (fun i d=>b i (by omega)) (b k (by omega) B y h);rw[de];rwa[show B +(k*W+W)=B+W+k*W by omega]
def Wh{b:Type}(n W:Nat)(F:Nat->Nat->b)(P:Nat->Bool)(R:Option Nat->b)(B:Nat)(hn:bU (fun m=>F m n) B (R none))(hs:∀i,i<n->P i=true->bU (fun m=>F m i) B (R (some i)))
  (d:∀i,i<n->P i=false->∀B y,bU (fun m=>F m (i+1)) B y->bU (fun m=>F m i) (B+W) y):bU (fun m=>F m 0) (B+n*W) (R (eY n P)):=by
 cases h:eY n P with
 |none=>exact mO W F _ n B (fun i a=>d i a (kv.1 h i a)) hn
 |some k=>obtain⟨h1,e,g⟩:=gY.1 h;refine(mO W F _ k B (fun i a=>d i (by omega) (g i a)) (hs k h1 e)).mono ?_;have:k*W<=n*W:=c3 _ (by omega);omega
def iO(v:ad.D)(id:Int)(hl:v.2.1.length<=1048576){i:Nat}(h:bp v.2.1 id=some i):eX (v,id,())=some (I J v.2.1 i,()):=by show KQ v id=_;unfold KQ;rw[mL v id hl,h];simp only[ag,gZ];rw[aU (b3 h).1];rfl
def Nu(v:ad.D)(id:Int)(hl:v.2.1.length<=1048576):uJ (v,id,())=some (gZ (bp v.2.1 id),v,()):=by
 show Ac (rP aC) v id=_;unfold Ac bp;refine qE v.2.1.length (by omega) _ (fun o=>some (gZ o,v,())) (fun m i=>rP m id (v.2.1.length:Int) i v) ?_ ?_
 ·intro m;simp only[rP,Ad];rw[bI (bu _)];rfl
 ·intro m i a b;simp only[rP,Ad,b];rw[bj a,aU a];simp only[au,ag,bE];rfl
def lP(v:ad.D)(id:Int)(hl:v.2.1.length<=1048576){i:Nat}(h:bp v.2.1 id=some i):fo (v,id,())=some ([I J v.2.1 i],()):=by rw[vu v id hl,h];rfl
def mP(l:List aQ)(id:Int):Bool:=match bp l id with|some i=>kindOf (I J l i)==2|none=>false
def Wi(v:ad.D)(id:Int)(hl:v.2.1.length<=1048576):u_ (v,id,())=some (mP v.2.1 id,()):=by
 show K1 v id=_;unfold K1 mP;rw[mL v id hl];simp only[ag,x9]
 cases h:bp v.2.1 id with
 |none=>rfl
 |some i=>simp only[Option.isSome_some,au,gZ];rw[aU (b3 h).1];rfl
def Wj(v:ad.D)(id:Int)(hl:v.2.1.length<=1048576):w4 (v,id,())=some (mP v.2.1 id,()):=by
 show Jg v id=_;unfold Jg mP;rw[vu v id hl]
 cases h:bp v.2.1 id with
 |none=>rfl
 |some i=>rfl
def pa(N:List ar.D)(s:af)(j:Nat):Bool:=bm (I ar N j).1 s
def ye(N:List ar.D):Option Nat->Int
 |none=>0
 |some j=>(I ar N j).2.1
def dC(N:List ar.D)(s:af):Int:=ye N (eY N.length (pa N s))
def af'(v:ad.D)(id:Int)(s:af)(hl:v.2.1.length<=1048576){i:Nat}(h:bp v.2.1 id=some i)(hn:(aq (I J v.2.1 i)).length<=1048576):
  KP (v,id,s,())=some (dC (aq (I J v.2.1 i)) s,()):=by
 show Dp (qm aC) v id s=_;unfold Dp;rw[mL v id hl,h];simp only[ag,gZ];rw[aU (b3 h).1];simp only[ag];show qm aC s (aq (I J v.2.1 i)) 0=_;generalize aq (I J v.2.1 i)=a at hn;refine qE a.length (by omega) (pa a s) (fun o=>some (ye a o,())) (fun m j=>qm m s a j) ?_ ?_
 ·intro m;simp only[qm,Dq];rw[bI (bu _)];rfl
 ·intro m j b d;simp only[qm,Dq,d];rw[bj b,aU b];rfl
def Wk(n:aQ)(s:af)(hn:(aq n).length<=1048576):A2 (n,s,())=some (dC (aq n) s,()):=by
 show A0 (p6 aC) n s=_;unfold A0;show p6 aC s (aq n) ((aq n).length:Int) 0=_;generalize aq n=a at hn;refine qE a.length (by omega) (pa a s) (fun o=>some (ye a o,())) (fun m j=>p6 m s a (a.length:Int) j) ?_ ?_
 ·intro m;simp only[p6,A1];rw[bI (bu _)];rfl
 ·intro m j b d;simp only[p6,A1,d];rw[bj b,aU b];rfl
def j_(N:List ar.D)(id:Int)(j:Nat):Bool:=(I ar N j).2.1==id
def nJ(N:List ar.D)(id:Int):Bool:=(eY N.length (j_ N id)).isSome
def Nv(l:List aQ):Option Nat->Int
 |none=>1
 |some i=>(I J l i).1
def FK(l:List aQ)(id:Int):Option Nat:=eY l.length fun i=>nJ (aq (I J l i)) id
def jP(l:List aQ)(id:Int):Int:=Nv l (FK l id)
def Nw{N:List ar.D}{id:Int}(h:nJ N id=false):∀j,j<N.length->j_ N id j=false:=by
 unfold nJ at h
 cases a:eY N.length (j_ N id)with
 |none=>exact kv.1 a
 |some j=>rw[a]at h;cases h
def FL{N:List ar.D}{id:Int}(h:nJ N id=true):∃j,j<N.length/\j_ N id j=true/\∀k,k<j->j_ N id k=false:=by
 unfold nJ at h
 cases a:eY N.length (j_ N id)with
 |none=>rw[a]at h;cases h
 |some j=>exact⟨j,gY.1 a⟩
def Wl(v:ad.D)(id:Int)(hl:v.2.1.length<=1048576)(hn:dm v.2.1<=1048576):Dk (v,id,())=some (jP v.2.1 id,()):=by
 show Dj (jM aC) v id=_;unfold Dj
 have inner:∀i,i<v.2.1.length->∀j,j<(aq (I J v.2.1 i)).length->j_ (aq (I J v.2.1 i)) id j=false->∀B b,bU (fun m=>(jM m).a_ id (i:Int) ((j+1:Nat):Int) v) B b->bU (fun m=>(jM m).a_ id (i:Int) (j:Int) v) (B+1) b:=by
  intro i a j e ai B b he;have g:=fF a;refine he.step fun m=>?_
  show sW (jM m) _ _ _ _=_;unfold sW;rw[aU a];simp only[ag];show cond (decide ((j:Int)<((aq (I J v.2.1 i)).length:Int))) ((ax (aq (I J v.2.1 i)).length (j:Int)).bind fun d=>cond (j_ (aq (I J v.2.1 i)) id d) _ _) _=_;rw[bj e,aU e];simp only[au,ag,ai,ay];rw[c0 j (by omega)]
 have key:=Wh v.2.1.length (1048576+2) (fun m i=>(jM m).k2 id (i:Int) v) (fun i=>nJ (aq (I J v.2.1 i)) id) (fun o=>some (Nv v.2.1 o,())) (1048576+3) ((bU.done fun m=>by
   show sV (jM m) _ _ _=_;unfold sV
   rw[bI (bu _)];rfl).mono (by omega)) (fun i a ai=>by
   have g:=fF a;obtain⟨j,h1,h,l⟩:=FL ai
   have:=mO 1 (fun m j=>(jM m).a_ id (i:Int) (j:Int) v) (some ((I J v.2.1 i).1,())) j 1 (fun k hk=>inner i a k (by omega) (l k hk)) (bU.done fun m=>by
    show sW (jM m) _ _ _ _=_;unfold sW;rw[aU a];simp only[ag];show cond (decide ((j:Int)<((aq (I J v.2.1 i)).length:Int))) ((ax (aq (I J v.2.1 i)).length (j:Int)).bind fun d=>cond (j_ (aq (I J v.2.1 i)) id d) _ _) _=_;rw[bj h1,aU h1]
    simp only[au,ag,h])
   refine(this.step (f:=fun m=>(jM m).k2 id (i:Int) v) fun m=>?_).mono (by omega);show sV (jM m) _ _ _=_;unfold sV
   rw[bj a];rfl) (fun i a ai B b he=>by
   have g:=fF a;have n:=Nw ai
   have:=mO 1 (fun m j=>(jM m).a_ id (i:Int) (j:Int) v) b (aq (I J v.2.1 i)).length (B+1) (fun k hk=>inner i a k hk (n k hk)) (he.step fun m=>by
    show sW (jM m) _ _ _ _=_;unfold sW;rw[aU a];simp only[ag];show cond (decide (((aq (I J v.2.1 i)).length:Int)<((aq (I J v.2.1 i)).length:Int))) _ _=_;rw[bI (bu _)];simp only[ay]
    rw[c0 i (by omega)])
   refine(this.step (f:=fun m=>(jM m).k2 id (i:Int) v) fun m=>?_).mono (by omega);show sV (jM m) _ _ _=_;unfold sV
   rw[bj a];rfl)
 have hm:v.2.1.length*(1048576+2)<=1048576*(1048576+2):=c3 _ hl;exact jx key (by omega)
def aga(v:ad.D)(id:Int)(hl:v.2.1.length<=1048576)(hn:dm v.2.1<=1048576):I3 (v,id,())=some (jP v.2.1 id,()):=by
 show A' (jL aC) v id=_;unfold A'
 have inner:∀i,i<v.2.1.length->∀j,j<(aq (I J v.2.1 i)).length->j_ (aq (I J v.2.1 i)) id j=false->∀B b,
   bU (fun m=>(jL m).a_ id v.2.1 (v.2.1.length:Int) (i:Int) (aq (I J v.2.1 i)) ((aq (I J v.2.1 i)).length:Int) ((j+1:Nat):Int) (I J v.2.1 i)) B b →
   bU (fun m=>(jL m).a_ id v.2.1 (v.2.1.length:Int) (i:Int) (aq (I J v.2.1 i)) ((aq (I J v.2.1 i)).length:Int) (j:Int) (I J v.2.1 i)) (B+1) b:=by
  intro i a j d ai B b he;have e:=fF a;refine he.step fun m=>?_
  show sc (jL m) _ _ _ _ _ _ _ _=_;unfold sc;rw[bj d,aU d];simp only[au,ag];show cond (j_ (aq (I J v.2.1 i)) id j) _ _=_;rw[ai,c0 j (by omega)];rfl
 have key:=Wh v.2.1.length (1048576+2) (fun m i=>(jL m).k2 id v.2.1 (v.2.1.length:Int) (i:Int)) (fun i=>nJ (aq (I J v.2.1 i)) id) (fun o=>some (Nv v.2.1 o,())) (1048576+3) ((bU.done fun m=>by
   show sb (jL m) _ _ _ _=_;unfold sb
   rw[bI (bu _)];rfl).mono (by omega)) (fun i a ai=>by
   have e:=fF a;obtain⟨j,h1,g,h⟩:=FL ai
   have:=mO 1 (fun m j=>(jL m).a_ id v.2.1 (v.2.1.length:Int) (i:Int) (aq (I J v.2.1 i)) ((aq (I J v.2.1 i)).length:Int) (j:Int) (I J v.2.1 i)) (some ((I J v.2.1 i).1,())) j 1 (fun k hk=>inner i a k (by omega) (h k hk)) (bU.done fun m=>by
    show sc (jL m) _ _ _ _ _ _ _ _=_;unfold sc;rw[bj h1,aU h1];simp only[au,ag];show cond (j_ (aq (I J v.2.1 i)) id j) _ _=_
    rw[g];rfl)
   refine(this.step (f:=fun m=>(jL m).k2 id v.2.1 (v.2.1.length:Int) (i:Int)) fun m=>?_).mono (by omega);show sb (jL m) _ _ _ _=_;unfold sb
   rw[bj a,aU a];rfl) (fun i a ai B b he=>by
   have e:=fF a;have l:=Nw ai
   have:=mO 1 (fun m j=>(jL m).a_ id v.2.1 (v.2.1.length:Int) (i:Int) (aq (I J v.2.1 i)) ((aq (I J v.2.1 i)).length:Int) (j:Int) (I J v.2.1 i)) b (aq (I J v.2.1 i)).length (B+1) (fun k hk=>inner i a k hk (l k hk)) (he.step fun m=>by
    show sc (jL m) _ _ _ _ _ _ _ _=_;unfold sc;rw[bI (bu _)];simp only[ay]
    rw[c0 i (by omega)])
   refine(this.step (f:=fun m=>(jL m).k2 id v.2.1 (v.2.1.length:Int) (i:Int)) fun m=>?_).mono (by omega);show sb (jL m) _ _ _ _=_;unfold sb
   rw[bj a,aU a];rfl)
 have hm:v.2.1.length*(1048576+2)<=1048576*(1048576+2):=c3 _ hl;exact jx key (by omega)
def ld(l:List aQ)(N:List ar.D):Nat:=(N.filter fun d=>mP l d.2.1).length
def pb(l:List aQ)(n:aQ):Int:=cond (kindOf n != 2) (ch l n.1:Int) (2+ld l (aq n):Int)
def Wm{l:List aQ}{N:List ar.D}{j:Nat}(a:j<N.length):ld l (N.take (j+1))=ld l (N.take j)+cond (mP l (I ar N j).2.1) 1 0:=by unfold ld;rw[hD a,List.filter_append,bZ];congr 1;rw[cC a];cases h:mP l (N[j]).2.1<;>simp[gr,h]
def Wn(l:List aQ)(N:List ar.D)(j:Nat):ld l (N.take j)<=N.length:=by unfold ld;refine cw (lr _ _) ?_;rw[dX];omega
def agb(v:ad.D)(id:Int)(hl:v.2.1.length<=1048576)(hn:dm v.2.1<=1048576){i:Nat}(h:bp v.2.1 id=some i):DL (v,id,())=some (pb v.2.1 (I J v.2.1 i),()):=by
 show DJ (s9 aC) v id=_;unfold DJ pb;obtain⟨b,e⟩:=b3 h;have l:=fF b;rw[mL v id hl,h];simp only[ag,x8,Option.isNone_some,ay,gZ];rw[aU b];simp only[ag];show cond (kindOf (I J v.2.1 i) != 2) _ _=_;cases kindOf (I J v.2.1 i) != 2
 ·simp only[ay]
  have:=k8 (aq (I J v.2.1 i)).length (by omega) (fun m j=>s9 m (i:Int) (2+ld v.2.1 ((aq (I J v.2.1 i)).take j.toNat):Int) j v) (fun _=>some ((2+ld v.2.1 (aq (I J v.2.1 i)):Int),())) (fun _=>True) (fun m _=>by
   simp only[s9,DK];rw[aU b];simp only[ag];show cond (decide (((aq (I J v.2.1 i)).length:Int)<((aq (I J v.2.1 i)).length:Int))) _ _=_;rw[bI (bu _)]
   simp only[ed,ia,ay]) (fun m j d _ g a=>by
   have a:=a trivial;rw[show((j:Int)+1).toNat=j+1 by omega,Wm d]at a;have n:=Wn v.2.1 (aq (I J v.2.1 i)) j;simp only[s9,DK];rw[aU b];simp only[ag];show cond (decide ((j:Int)<((aq (I J v.2.1 i)).length:Int))) ((ax (aq (I J v.2.1 i)).length (j:Int)).bind fun k=>(u_ (v,(I ar (aq (I J v.2.1 i)) k).2.1,())).bind _) _=_;rw[bj d,aU d];simp only[au,ag];rw[Wi v _ hl];simp only[ag,g,ed];revert a;cases mP v.2.1 (I ar (aq (I J v.2.1 i)) j).2.1
   ·intro a;exact a
   ·intro a;simp only[au]at a⊢;rw[cm (by omega) (by omega)];rw[Int.natCast_add,<-da]at a
    exact a) (aq (I J v.2.1 i)).length 0 aC (by omega) (hR (by omega)) trivial
  simpa[ld]using this
 ·simp only[au];rw[Fx v id hl hn,e];rfl
def agc(v:ad.D)(n:aQ)(hl:v.2.1.length<=1048576)(hn:dm v.2.1<=1048576)(e:(aq n).length<=1048576):Ju (v,n,())=some (pb v.2.1 n,()):=by
 show BB (qe aC) v n=_;unfold BB pb;show cond (kindOf n != 2) _ _=_;cases kindOf n != 2
 ·simp only[ay]
  have:=k8 (aq n).length (by omega) (fun m j=>qe m v (2+ld v.2.1 ((aq n).take j.toNat):Int) (aq n) ((aq n).length:Int) j) (fun _=>some ((2+ld v.2.1 (aq n):Int),())) (fun _=>True) (fun m _=>by
   simp only[qe,BC];rw[bI (bu _)]
   simp only[ed,ia,ay]) (fun m j b _ d a=>by
   have a:=a trivial;rw[show((j:Int)+1).toNat=j+1 by omega,Wm b]at a;have g:=Wn v.2.1 (aq n) j;simp only[qe,BC];rw[bj b,aU b];simp only[au,ag];rw[Wj v _ hl];simp only[ag,d,ed];revert a;cases mP v.2.1 (I ar (aq n) j).2.1
   ·intro a;exact a
   ·intro a;simp only[au]at a⊢;rw[cm (by omega) (by omega)];rw[Int.natCast_add,<-da]at a
    exact a) (aq n).length 0 aC (by omega) (hR (by omega)) trivial
  show qe aC v 2 (aq n) ((aq n).length:Int) 0=_;simpa[ld]using this
 ·simp only[au];rw[Fy v _ hl hn];rfl
abbrev aO:Type:=List UInt8
def iP(c:aO):List aO->List aO
 | []=>[c]
 |p::ps=>(c++p)::ps
def ep:aO->List aO
 | []=>[[]]
 |b::l=>cond (b==47) ([]::ep l) (iP [b] (ep l))
def full(p:aO):Bool:= !bm p []
def cut(s:aO):List aO:=(ep s).filter full
def agd(c:aO)(l:List aO):iP c l≠[]:=by cases l<;>simp[iP]
def FM(s:aO):ep s≠[]:=by
 cases s with
 |nil=>simp[ep]
 |cons b l=>simp only[ep];cases b==47<;>simp[agd]
def Nx{l:List aO}(h:l≠[]):iP [] l=l:=by cases l<;>simp_all[iP]
def age(a b:aO){l:List aO}:iP a (iP b l)=iP (a++b) l:=by cases l<;>simp[iP]
def Ny{p:aO}:full p=false↔p=[]:=by unfold full bm;simp
def agf(c:aO):(iP c [[]]).filter full=cond (full c) [c] []:=by simp only[iP,dn,gr,List.filter_nil];cases full c<;>rfl
def agh(s:aO){i:Nat}(h:i<s.length):s.drop i=s.getD i 0::s.drop (i+1):=by rw[kf h];congr 1;rw[List.getD_eq_getElem?_getD,List.getElem?_eq_getElem h];rfl
def agi{s:aO}{a i:Nat}(d:a<=i)(b:i<s.length):part s a (i+1-a)=part s a (i-a)++[s.getD i 0]:=by unfold part;rw[show i+1-a=(i-a)+1 by omega,List.take_add_one];congr 1;rw[List.getElem?_drop,show a +(i-a)=i by omega,List.getElem?_eq_getElem b,List.getD_eq_getElem?_getD,List.getElem?_eq_getElem b];rfl
def Wo(b:UInt8):(((b.toNat:Nat):Int)==47)=(b==47):=by
 rw[jj,hI,hI];constructor
 ·intro h;have:b.toNat=47:=by omega
  exact UInt8.toNat_inj.1 (by rw[this];rfl)
 ·rintro rfl;rfl
def agj{s:aO}{a n:Nat}(h:a+n<=s.length):(part s a n).length=n:=by unfold part;rw[dX,fS];omega
def Wp{s:aO}{a i:Nat}(d:a<=i)(e:i<=s.length):full (part s a (i-a))=decide ((i:Int) >(a:Int)):=by
 by_cases h:a<i
 ·rw[bR (show(i:Int) >(a:Int) by omega)];rw[<-Bool.not_eq_false,Ny];intro b;have:=agj (s:=s) (a:=a) (n:=i-a) (by omega);rw[b]at this;simp at this;omega
 ·have:i-a=0:=by omega
  rw[this,bW (show ¬(i:Int) >(a:Int) by omega)];exact Ny.2 (by simp[part])
def Wq(s:aO)(hl:s.length<=1048576):xC (s,())=some (cut s,()):=by
 show Dm (oF aC) s=_;unfold Dm
 have key:∀(r i m a:Nat) (out:List aO),i+r=s.length->r+1<m->a<=i->out.length<=i->oF m s (a:Int) (i:Int) out=some (out++(iP (part s a (i-a)) (ep (s.drop i))).filter full,()):=by
  intro r
  induction r with
  |zero=>
   intro i m a out k hm b l;obtain⟨m,rfl,n⟩:=fuel hm;obtain⟨m,rfl,_⟩:=fuel n;have p:i=s.length:=by omega
   have g:∀(x:Int) (o:List aO),oF (m+1) s x (aj ((i:Int)+1)) o=some (o,()):=by intro x o;simp only[oF,xB];rw[c0 i (by omega),bW (by omega)];rfl
   rw[oF,xB,bR (show(i:Int)<=(s.length:Int) by omega),show((i:Int) ==(s.length:Int))=true by simp;omega];simp only[au];rw[gp (by omega),ep,agf,Wp b (by omega)];by_cases h:(i:Int) >(a:Int)
   ·rw[bR h];simp only[au];rw[iC b (by omega)];simp only[ag];rw[bX (by simp only[b2,cU];omega)];simp only[au,g]
   ·rw[bW h];simp only[ay,g,dn]
  |succ r d=>
   intro i m a out k hm b l;obtain⟨m,rfl,hm⟩:=fuel hm;have e:i<s.length:=by omega
   rw[oF,xB,bR (show(i:Int)<=(s.length:Int) by omega),show((i:Int) ==(s.length:Int))=false by simp;omega];simp only[au,ay];rw[aU e,agh s e,ep];simp only[ag];rw[Wo,c0 i (by omega)];cases s.getD i 0==47
   ·simp only[ay];rw[d (i+1) m a out (by omega) (by omega) (by omega) (by omega),age,<-agi b e]
   ·simp only[au];have j:part s (i+1) (i+1-(i+1))=[]:=by simp[part]
    have hs:(iP (part s a (i-a)) ([]::ep (s.drop (i+1)))).filter full=cond (full (part s a (i-a))) [part s a (i-a)] []++(ep (s.drop (i+1))).filter full:=by simp only[iP,dn,gr];cases full (part s a (i-a))<;>rfl
    rw[hs,Wp b (by omega)];by_cases h:(i:Int) >(a:Int)
    ·rw[bR h];simp only[au];rw[iC b (by omega)];simp only[ag];rw[bX (by simp only[b2,cU];omega)];simp only[au];rw[d (i+1) m (i+1) _ (by omega) (by omega) (by omega) (by simp;omega),j,Nx (FM _),dW]
    ·rw[bW h];simp only[ay];rw[d (i+1) m (i+1) _ (by omega) (by omega) (by omega) (by omega),j,Nx (FM _),jH]
 have:=key s.length 0 aC 0 [] (by omega) (hR (by omega)) (by omega) (by simp);rw[show part s 0 (0-0)=[] by simp[part],gV,Nx (FM _)]at this;simpa[cut]using this
def Wr{s:aO}(h:Lib.indexByte s 47 = -1):ep s=[s]/\s.count 47=0:=by
 induction s with
 |nil=>exact⟨rfl,rfl⟩
 |cons b l a=>
  unfold Lib.indexByte at h;cases hb:b==47
  ·rw[hb]at h;simp only[gq,fT]at h
   have hl:Lib.indexByte l 47 = -1:=by
    by_cases h1:Lib.indexByte l 47 = -1
    ·exact h1
    ·have e:=Lib.indexByte_ge l 47;rw[bd (by simpa using h1)]at h;omega
   obtain⟨d,i2⟩:=a hl;refine⟨by rw[ep,hb,d];rfl,?_⟩;rw[List.count_cons,i2,hb];rfl
  ·rw[hb]at h;simp at h
def Ws{s:aO}{k:Nat}(h:Lib.indexByte s 47=(k:Int)):k<s.length/\ep s=s.take k::ep (s.drop (k+1))/\s.count 47=(s.drop (k+1)).count 47+1:=by
 induction s generalizing k with
 |nil=>unfold Lib.indexByte at h;omega
 |cons b l a=>
  unfold Lib.indexByte at h;cases hb:b==47
  ·rw[hb]at h;simp only[gq,fT]at h;have e:=Lib.indexByte_ge l 47;by_cases h1:Lib.indexByte l 47 = -1
   ·rw[bg (by simpa using h1)]at h;omega
   ·rw[bd (by simpa using h1)]at h;obtain⟨j,rfl⟩:∃j,k=j+1:=⟨k-1,by omega⟩
    obtain⟨g,i2,d⟩:=a (k:=j) (by omega);refine⟨by simp;omega,?_,?_⟩
    ·rw[ep,hb,i2];rfl
    ·rw[List.count_cons,d,hb];rfl
  ·rw[hb]at h;simp only[if_true]at h;have:k=0:=by omega
   subst this;refine⟨by simp,?_,?_⟩
   ·rw[ep,hb];rfl
   ·rw[List.count_cons,hb];rfl
def Wt(s:aO):Lib.indexByte s 47 = -1\/∃k:Nat,Lib.indexByte s 47=k:=by
 have:=Lib.indexByte_ge s 47;by_cases h:Lib.indexByte s 47 = -1
 ·exact .inl h
 ·exact .inr ⟨(Lib.indexByte s 47).toNat,by omega⟩
def agk(s:aO):A3 (s,[47],())=some (Lib.indexByte s 47,()):=by
 show IW s [47]=_;unfold IW;show Option.bind (IV s [47]) _=_;unfold IV;by_cases h:bm [47] s=true
 ·rw[h];have:s=[47]:=by unfold bm at h;simp only[ei]at h;exact h.symm
  subst this;rfl
 ·rw[jG]at h;rw[h];rfl
def agl(s:aO):IX (s,[47],())=some ((s.count 47:Int),()):=by show A5 (A6 aC) s [47]=_;unfold A5;rfl
def agm:∀(r:Nat) (s:aO) (i n m:Nat) (a:List aO),s.length<=1048576->n<=1048576->s.count 47=r->i+r=n->a.length=n+1->r+1<m →
  (om m).cn s [47] 0 (n:Int) (i:Int) a=some (a.take i++ep s,()):=by
 intro r
 induction r with
 |zero=>
  intro s i n m a hs hn hc d b hm;obtain⟨m,rfl,e⟩:=fuel hm;obtain⟨m,rfl,_⟩:=fuel e;have:i=n:=by omega
  subst this;show wY (om (m+1)) _ _ _ _ _ _=_;unfold wY;rw[bI (bu _)];simp only[ay];show IZ (om m) _ _ _=_;unfold IZ;rw[aU (by omega)];simp only[ag,bE];rw[c0 i (by omega)];show Option.bind (cZ (a.set i s).length ((0:Nat):Int) ((i+1:Nat):Int)) _=_;rw[iC (by omega) (by rw[bL];omega)];simp only[ag,bE,mb]
  have g:ep s=[s]:=by
   rcases Wt s with h|⟨k,h⟩
   ·exact(Wr h).1
   ·have:=(Ws h).2.2;omega
  rw[g,nK,hD (by rw[bL];omega),List.getElem_set_self,List.take_set_of_le (by omega)]
 |succ r j=>
  intro s i n m a hs hn hc d b hm;obtain⟨m,rfl,hm⟩:=fuel hm;show wY (om m) _ _ _ _ _ _=_;unfold wY;rw[bj (by omega),agk];simp only[au,ag]
  obtain⟨k,hk⟩:∃k:Nat,Lib.indexByte s 47=k:=by
   rcases Wt s with h|h
   ·have:=(Wr h).2;omega
   ·exact h
  obtain⟨h1,l,o⟩:=Ws hk;rw[hk,bW (by omega)];simp only[ay];rw[show aj ((k:Int)+0)=(k:Int) by rw[Int.add_zero];exact cm (by omega) (by omega)];show Option.bind (cZ s.length ((0:Nat):Int) (k:Int)) _=_;rw[iC (by omega) (by omega)];simp only[ag];rw[aU (by omega)];simp only[ag,bE];unfold QU;simp only;rw[show aj ((k:Int) +(([47]:aO).length:Int))=((k+1:Nat):Int) from c0 k (by omega),iC (by omega) (bu _)];simp only[ag];rw[o_,c0 i (by omega),j (s.drop (k+1)) (i+1) n m _ (by rw[fS];omega) hn (by omega) (by omega) (by rw[bL];exact b) (by omega)];rw[l,hD (by rw[bL];omega),List.getElem_set_self,List.take_set_of_le (by omega),mb,nK,dW];rfl
def agn(s:aO)(hl:s.length<=1048576):I2 (s,[47],())=some (ep s,()):=by
 show I1 s [47]=_;unfold I1;have:I0 (s,[47],0,-1,())=some (ep s,()):=by show A7 (om aC) s [47] 0 (-1)=_;unfold A7;have b:s.count 47<=s.length:=List.count_le_length;rw[agl];show(om aC).dE s [47] 0 (aj ((s.count 47:Int)+1))=_;obtain⟨q,a,d⟩:=iK 1;rw[a];show IY (om q) _ _ _ _=_;unfold IY;rw[c0 _ (by omega),c0 _ (by omega),show iW ((s.count 47+1:Nat):Int) ((s.length+1:Nat):Int)=((s.count 47+1:Nat):Int) by rw[ago];omega];rw[bR (by omega),bR rfl,ed,bX (by omega)];simp only[jk,au];rw[show aj (((s.count 47+1:Nat):Int)-1)=((s.count 47:Nat):Int) by rw[cm (by omega) (by omega)];omega];have:=agm (s.count 47) s 0 (s.count 47) q (List.replicate (s.count 47+1) []) hl (by omega) rfl (by omega) (by simp) (by omega);simpa using this
 rw[this];rfl
def Wu(s:aO)(hl:s.length<=1048576):p9 (s,())=some (cut s,()):=by
 show A9 (p8 aC) s=_;unfold A9;rw[agn s hl];simp only[ag]
 have g:(ep s).length<=1048577:=by
  have:∀s:aO,(ep s).length<=s.length+1:=by
   intro s
   induction s with
   |nil=>simp[ep]
   |cons b l a=>
    rw[ep];cases b==47
    ·simp only[ay,b2]
     cases hs:ep l with
     |nil=>simp[iP]
     |cons p ps=>rw[hs]at a;simp only[iP,b2]at a⊢;omega
    ·simp only[au,b2];omega
  have:=this s;omega
 show p8 aC _ _ _ _=some ((ep s).filter full,());generalize ep s=l at g
 have:=k8 l.length (by omega) (fun m i=>p8 m (l.length:Int) i ((l.take i.toNat).filter full) l) (fun _=>some (l.filter full,())) (fun _=>True) (fun m _=>by
  simp only[p8,A_];rw[bI (bu _)]
  simp only[ed,ia,ay]) (fun m i d _ h a=>by
  have a:=a trivial;have j:I U.str l i=l[i]:=cC (t:=.str) d;rw[show((i:Int)+1).toNat=i+1 by omega,hD d,List.filter_append,gr,List.filter_nil]at a;simp only[p8,A_];rw[bj d,aU d];simp only[au,ag,bE,h,ed];rw[j];show cond (full l[i]) _ _=_;have k:((l.take i).filter full).length<=i:=cw (lr _ _) (by rw[dX];omega);cases e:full l[i]
  ·rw[e]at a;simp only[gq,fT,dn]at a;exact a
  ·rw[e]at a;simp only[if_true]at a;simp only[au];rw[bX (by simp only[b2,cU];omega)]
   exact a) l.length 0 aC (by omega) (hR (by omega)) trivial
 simpa using this
def agp{s:aO}:∀{p:aO},p∈ep s->∀b,b∈p->b∈s/\(b==47)=false:=by
 induction s with
 |nil=>intro p ai b hb;simp[ep]at ai;subst ai;simp at hb
 |cons c l d=>
  intro p ai b hb;rw[ep]at ai;cases hc:c==47
  ·rw[hc]at ai;simp only[ay]at ai
   cases hs:ep l with
   |nil=>exact absurd hs (FM l)
   |cons q e=>
    rw[hs]at ai d;simp only[iP,List.mem_cons]at ai;rcases ai with rfl|ai
    ·simp only[jF,jH,List.mem_cons]at hb;rcases hb with rfl|hb
     ·exact⟨gT,hc⟩
     ·obtain⟨h1,a⟩:=d gT b hb;exact⟨gS _ h1,a⟩
    ·obtain⟨h1,a⟩:=d (gS _ ai) b hb;exact⟨gS _ h1,a⟩
  ·rw[hc]at ai;simp only[au,List.mem_cons]at ai;rcases ai with rfl|ai
   ·simp at hb
   ·obtain⟨h1,a⟩:=d ai b hb;exact⟨gS _ h1,a⟩
def agq(s:aO):(ep s).length<=s.length+1:=by
 induction s with
 |nil=>simp[ep]
 |cons b l a=>
  rw[ep];cases b==47
  ·simp only[ay,b2]
   cases hs:ep l with
   |nil=>simp[iP]
   |cons p ps=>rw[hs]at a;simp only[iP,b2]at a⊢;omega
  ·simp only[au,b2];omega
def Wv(s:aO):(cut s).length<=s.length+1:=cw (lr _ _) (agq s)
def yf(p:aO):Prop:=p≠[]/\∀i,i<p.length->qF (nb p i)=true
def Ww{s:aO}(h:iL s=true):∀p,p∈cut s->yf p:=by
 intro p ai;obtain⟨h1,a⟩:=List.mem_filter.1 ai;refine⟨fun g=>(by rw[Ny.2 g]at a;cases a),fun i b=>?_⟩;have hm:p.getD i 0∈p:=by rw[List.getD_eq_getElem?_getD,List.getElem?_eq_getElem b];exact List.getElem_mem b
 obtain⟨k,l⟩:=agp h1 _ hm;unfold iL at h;rw[bs]at h;obtain⟨j,d,he⟩:=List.mem_iff_getElem.1 k;have:=fN.1 h.1 j d;have e:nb s j=nb p i:=by unfold nb;rw[List.getD_eq_getElem?_getD,List.getElem?_eq_getElem d,<-he];rfl
 rw[e]at this;have m:(nb p i==47)=false:=by rw[<-l];exact Wo _
 rw[m,Bool.false_or]at this;exact this
def lt_irrefl:∀x:aO,dr x x=false
 | []=>rfl
 |a::x=>by have:=lt_irrefl x;unfold dr at *;rw[Op.bytesLess];simp[this]
def Wx:∀x y:aO,dr x y=false->x=y\/dr y x=true
 | [],[],_=>.inl rfl
 | [],_::_,h=>by unfold dr Op.bytesLess at h;cases h
 |a::x,[],_=>.inr (by unfold dr Op.bytesLess;rfl)
 |a::x,b::y,h=>by
  have i:=Wx x y;unfold dr at *;rw[Op.bytesLess]at h;simp only[Bool.or_eq_false_iff,hH,ji,jD]at h;obtain⟨h1,d⟩:=h;by_cases g:a=b
  ·subst g;rcases d with d|d
   ·exact absurd rfl d
   ·rcases i d with e|e
    ·exact .inl (by rw[e])
    ·exact .inr (by rw[Op.bytesLess];simp[e])
  ·refine .inr ?_;rw[Op.bytesLess]
   have:b<a:=by
    rcases UInt8.lt_or_lt_of_ne g with h|h
    ·exact absurd h h1
    ·exact h
   simp[this]
def yg:∀{x y z:aO},dr x y=true->dr y z=true->dr x z=true
 |_,[],_,h,_=>by unfold dr at h;simp[Op.bytesLess]at h
 |_,_::_,[],_,h=>by unfold dr at h;simp[Op.bytesLess]at h
 | [],_::_,_::_,_,_=>by unfold dr;simp[Op.bytesLess]
 |a::x,b::y,c::z,h,k=>by
  have d:=@yg x y z;unfold dr at *;rw[Op.bytesLess]at h k⊢;simp only[kI,ei,bs,hI]at h k⊢;rcases h with h|⟨rfl,h⟩
  ·rcases k with k|⟨rfl,k⟩
   ·exact .inl (UInt8.lt_trans h k)
   ·exact .inl h
  ·rcases k with k|⟨rfl,k⟩
   ·exact .inl k
   ·exact .inr ⟨rfl,d h k⟩
def Wy{x y:aO}(h:dr x y=true):dr y x=false:=by
 cases hk:dr y x
 ·rfl
 ·have:=yg h hk;rw[lt_irrefl]at this;cases this
def FN{x y:aO}(h:dr x y=true):x≠y:=by rintro rfl;rw[lt_irrefl]at h;cases h
def Nz{x y:aO}(h:x≠y):dr y x = !dr x y:=by
 cases hk:dr x y
 ·rcases Wx x y hk with h1|h1
  ·exact absurd h1 h
  ·rw[h1];rfl
 ·rw[Wy hk];rfl
def im(N:List ar.D):Prop:=N.Pairwise fun a b=>dr a.1 b.1=true
def agr{N:List ar.D}(h:∀j,j+1<N.length->dr (I ar N j).1 (I ar N (j+1)).1=true):im N:=by
 unfold im;rw[List.pairwise_iff_getElem]
 have key:∀d j,j+d+1<N.length->dr (I ar N j).1 (I ar N (j+d+1)).1=true:=by
  intro d
  induction d with
  |zero=>exact fun j a=>h j a
  |succ d b=>exact fun j a=>yg (b j (by omega)) (h (j+d+1) (by omega))
 intro i j e a g;have:=key (j-i-1) i (by omega);rw[show i +(j-i-1)+1=j by omega,cC e,cC a]at this;exact this
def ags{N:List ar.D}(h:im N){i j:Nat}(b:i<j)(a:j<N.length):dr (I ar N i).1 (I ar N j).1=true:=by unfold im at h;rw[cC a,cC (t:=ar) (xs:=N) (i:=i) (by omega)];exact List.pairwise_iff_getElem.1 h i j (by omega) a b
structure j'(l:List aQ)(x:aQ):Prop where
 mode:0<=eL x/\eL x<=2047
 uid:0<=ef x/\ef x<=1000
 gid:0<=eZ x/\eZ x<=1000
 kind:kindOf x=1\/kindOf x=2\/kindOf x=3
 plain:kindOf x≠2->eK x=0/\eo x=0/\aq x=[]
 file:kindOf x=1->(bN x).length<=64
 lQ:kindOf x=3->iL (bN x)=true/\eL x=511
 dir:kindOf x=2->bN x=[]/\(0<=eK x/\eK x<=400)/\(0<=eo x/\eo x<=24)/\(aq x).length<=12
 names:∀d,d∈aq x->g_ d.1=true/\d.2.1≠1/\(bp l d.2.1).isSome=true
 sorted:im (aq x)
def FO{x:aQ}:plain x=true↔eK x=0/\eo x=0/\aq x=[]:=by
 unfold plain;simp only[bs,hI];constructor
 ·rintro⟨⟨h1,a⟩,b⟩;exact⟨a,b,List.length_eq_zero_iff.1 (by omega)⟩
 ·rintro⟨h1,a,b⟩;exact⟨⟨by rw[b];rfl,h1⟩,a⟩
def Wz{l:List aQ}{N:List ar.D}:dv N.length (mM l N)=true↔(∀d,d∈N->g_ d.1=true/\d.2.1≠1/\(bp l d.2.1).isSome=true)/\im N:=by
 rw[fN];unfold mM;simp only[bs,eT,ji,hH,Bool.not_eq_false',jD];constructor
 ·intro h;refine⟨fun d aa=>?_,agr fun j k=>?_⟩
  ·obtain⟨i,b,he⟩:=eC aa;obtain⟨⟨⟨h1,_⟩,e⟩,g⟩:=h i b;rw[he]at h1 e g;exact⟨h1,e,g⟩
  ·obtain⟨⟨⟨_,a⟩,_⟩,_⟩:=h (j+1) k;rcases a with a|a
   ·omega
   ·rw[iD]at a;exact a
 ·rintro⟨h1,a⟩ i b
  obtain⟨m,k2,k3⟩:=h1 _ (cI b);refine⟨⟨⟨m,?_⟩,k2⟩,k3⟩;by_cases n:0<i
  ·exact .inr (ags a (by omega) b)
  ·exact .inl n
def WA{l:List aQ}{x:aQ}:lN l x=true↔j' l x:=by
 unfold lN;simp only[bs];constructor
 ·rintro⟨⟨⟨h1,b⟩,d⟩,h⟩
  have h1:=cL.1 h1;have b:=cL.1 b;have d:=cL.1 d;by_cases e:kindOf x=1
  ·rw[cf (show x.2.1=1 from e)]at h;simp only[au,bs,ei]at h;obtain⟨g,i,a⟩:=FO.1 h.1;exact⟨h1,b,d,.inl e,fun _=>⟨g,i,a⟩,fun _=>by omega,fun k=>by omega,fun k=>by omega,by rw[a];simp,by rw[a];exact List.Pairwise.nil⟩
  ·rw[bO (show ¬x.2.1=1 from e)]at h;by_cases k3:kindOf x=3
   ·rw[cf (show x.2.1=3 from k3)]at h;simp only[au,ay,bs,hI]at h;obtain⟨g,i,a⟩:=FO.1 h.1.1;exact⟨h1,b,d,.inr (.inr k3),fun _=>⟨g,i,a⟩,fun k=>by omega,fun _=>⟨h.1.2,h.2⟩,fun k=>by omega,by rw[a];simp,by rw[a];exact List.Pairwise.nil⟩
   ·rw[bO (show ¬x.2.1=3 from k3)]at h;by_cases k2:kindOf x=2
    ·rw[cf (show x.2.1=2 from k2)]at h;simp only[au,ay,bs,qI,ei]at h;obtain⟨⟨⟨j,m⟩,n⟩,o,v⟩:=h;obtain⟨p,q⟩:=Wz.1 o;exact⟨h1,b,d,.inr (.inl k2),fun k=>absurd k2 k,fun k=>by omega,fun k=>by omega,fun _=>⟨by unfold bm at j;simpa using j,cL.1 m,cL.1 n,by omega⟩,p,q⟩
    ·rw[bO (show ¬x.2.1=2 from k2)]at h;simp at h
 ·intro h;refine⟨⟨⟨cL.2 h.mode,cL.2 h.uid⟩,cL.2 h.gid⟩,?_⟩;rcases h.kind with k|k|k
  ·have k':x.2.1=1:=k;rw[cf k'];simp only[au,bs,ei];exact⟨FO.2 (h.plain (by omega)),by have:=h.file k;omega⟩
  ·have k':x.2.1=2:=k;rw[bO (show ¬x.2.1=1 from fun h1=>by have:kindOf x=1:=h1;omega),bO (show ¬x.2.1=3 from fun h1=>by have:kindOf x=3:=h1;omega),cf k'];simp only[au,ay,bs,qI,ei];obtain⟨r,s,u,w⟩:=h.dir k;exact⟨⟨⟨by rw[r];rfl,cL.2 s⟩,cL.2 u⟩,Wz.2 ⟨h.names,h.sorted⟩,by omega⟩
  ·have k':x.2.1=3:=k;rw[bO (show ¬x.2.1=1 from fun h1=>by have:kindOf x=1:=h1;omega),cf k'];simp only[au,ay,bs,hI];exact⟨⟨FO.2 (h.plain (by omega)),(h.lQ k).1⟩,(h.lQ k).2⟩
def fP(v:ad.D):Int:=v.1
def bb(x:aQ):Int:=x.1
structure bY(v:ad.D):Prop where
 next:2<=fP v/\fP v<=100000
 len:1<=v.2.1.length/\v.2.1.length<=24
 root:bb (I J v.2.1 0)=1/\kindOf (I J v.2.1 0)=2
 ids:∀i,i<v.2.1.length->1<=bb (I J v.2.1 i)/\bb (I J v.2.1 i)<=fP v-1
 FP:∀i,i+1<v.2.1.length->bb (I J v.2.1 i)<bb (I J v.2.1 (i+1))
 ino:∀i,i<v.2.1.length->j' v.2.1 (I J v.2.1 i)
 reach:∀i,1<=i->i<v.2.1.length->dI v.2.1 1 (I J v.2.1 i).1
 once:∀i,1<=i->i<v.2.1.length->kindOf (I J v.2.1 i)=2->ch v.2.1 (I J v.2.1 i).1=1
 bytes:bytesOf v.2.1<=400
 over:fG v.2.1=false
def NA{l:List aQ}(h:∀i,i+1<l.length->bb (I J l i)<bb (I J l (i+1))):g' l:=by
 have e:∀d j,j+d+1<l.length->bb (I J l j)<bb (I J l (j+d+1)):=by
  intro d
  induction d with
  |zero=>intro j a;exact h j a
  |succ d g=>intro j a;exact Int.lt_trans (g j (by omega)) (h (j+d+1) a)
 intro x b;unfold bp;rw[gY];refine⟨b,by simp,fun j a=>?_⟩;obtain⟨d,rfl⟩:∃d,x=j+d+1:=⟨x-j-1,by omega⟩
 have:=e d j b;rw[jD];exact Int.ne_of_lt this
def WB{v:ad.D}(hn:2<=fP v/\fP v<=100000):dv v.2.1.length (k_ v)=true↔(∀i,i<v.2.1.length->1<=bb (I J v.2.1 i)/\bb (I J v.2.1 i)<=fP v-1) ∧
  (∀i,i+1<v.2.1.length->bb (I J v.2.1 i)<bb (I J v.2.1 (i+1)))/\∀i,i<v.2.1.length->j' v.2.1 (I J v.2.1 i):=by
 rw[fN];unfold k_;rw[show aj (v.1-1)=fP v-1 from cm (a:=fP v-1) (by omega) (by omega)];simp only[bs,eT,ji,hH];constructor
 ·intro h;refine⟨fun i b=>cL.1 (h i b).1.1,fun i b=>?_,fun i b=>WA.1 (h i b).2⟩;rcases (h (i+1) b).1.2 with d|d
  ·omega
  ·rw[iD]at d;exact Int.not_le.1 d
 ·rintro⟨h1,d,e⟩ i b
  refine⟨⟨cL.2 (h1 i b),?_⟩,WA.2 (e i b)⟩;by_cases g:0<i
  ·have:=d (i-1) (by omega);rw[show i-1+1=i by omega]at this;exact .inr (Int.not_le.2 this)
  ·exact .inl g
def tx{v:ad.D}:gC v=true↔bY v:=by
 unfold gC;simp only[bs,hI];constructor
 ·rintro⟨⟨⟨⟨h1,e⟩,j⟩,k⟩,b⟩
  have h1:=cL.1 h1;have e:=cL.1 e;by_cases d:dv v.2.1.length (k_ v)=true
  case neg=>rw[jG]at d;rw[d]at b;cases b
  rw[d]at b;obtain⟨l,i2,m⟩:=(WB h1).1 d;have aa:=NA i2;by_cases a:dv (v.2.1.length-1) (jz v.2.1)=true
  case neg=>rw[jG]at a;rw[a]at b;cases b
  rw[a]at b;simp only[au,bs,eT,ei]at b;have a:=fN.1 a;unfold jz at a;simp only[bs,eT,ji,jD,bne_eq_false_iff_eq]at a;refine⟨h1,by omega,⟨j,k⟩,l,i2,m,fun i g hl=>?_,fun i g hl hk=>?_,by omega,b.2⟩
  ·have:=(a (i-1) (by omega)).1;rw[show i-1+1=i by omega]at this;exact(vw v.2.1 aa 1 hl).1 this
  ·have:=(a (i-1) (by omega)).2;rw[show i-1+1=i by omega]at this;rcases this with h|h
   ·exact absurd hk h
   ·omega
 ·intro h;have aa:=NA h.FP;refine⟨⟨⟨⟨cL.2 h.next,cL.2 (by have:=h.len;omega)⟩,h.root.1⟩,h.root.2⟩,?_⟩;rw[(WB h.next).2 ⟨h.ids,h.FP,h.ino⟩]
  have a:dv (v.2.1.length-1) (jz v.2.1)=true:=by
   rw[fN];unfold jz;simp only[bs,eT,ji,jD,bne_eq_false_iff_eq];intro i g;refine⟨(vw v.2.1 aa 1 (by omega)).2 (h.reach (i+1) (by omega) (by omega)),?_⟩;by_cases hk:kindOf (I J v.2.1 (i+1))=2
   ·have:=h.once (i+1) (by omega) (by omega) hk;exact .inr (by rw[this];rfl)
   ·exact .inl hk
  rw[a];simp only[au,bs,eT,ei];exact⟨by have:=h.bytes;omega,h.over⟩
structure pc(l:List aQ):Prop where
 len:l.length<=1048576
 c_:dm l<=1048576
 hT:g' l
 hU:o8 l
 bare:∀i,i<l.length->kindOf (I J l i)≠2->aq (I J l i)=[]
 lQ:∀i,i<l.length->kindOf (I J l i)=3->iL (bN (I J l i))=true
 root:∃i,bp l 1=some i/\kindOf (I J l i)=2
def bY.hT{v:ad.D}(h:bY v):g' v.2.1:=NA h.FP
def bY.hU{v:ad.D}(h:bY v):o8 v.2.1:=fun i a d aa=>((h.ino i a).names d aa).2.2
def kx(l:List aQ)(id:Int):Prop:=∃i,bp l id=some i/\kindOf (I J l i)=2
def cc(r:aV.D):Int:=r.1
def nameOf(r:aV.D):aO:=r.2.1
def br(r:aV.D):Int:=r.2.2.1
def bH(r:aV.D):Int:=r.2.2.2.1
structure gM(l:List aQ)(r:aV.D):Prop where
 there:bH r=0->∃i,bp l (br r)=some i
 named:bH r=0->nameOf r≠[]->br r≠0/\g_ (nameOf r)=true/\∃d,bp l (cc r)=some d/\kindOf (I J l d)=2/\dC (aq (I J l d)) (nameOf r)=br r
 bare:bH r=0->nameOf r=[]->kx l (br r)
 new:bH r=2->nameOf r≠[]->br r=0/\g_ (nameOf r)=true/\∃d,bp l (cc r)=some d/\kindOf (I J l d)=2/\dC (aq (I J l d)) (nameOf r)=0
 rg:0<=bH r/\bH r<=200
def agt(l:List aQ){c:Int}(d:c≠0)(a b:Int)(e:c≠2\/True)(hr:0<=c/\c<=200:=by decide):gM l ((0:Int),([]:aO),(0:Int),c,()):=
 ⟨fun h=>absurd h d,fun h=>absurd h d,fun h=>absurd h d,fun _ h=>absurd rfl h,hr⟩
def qK(a:Bool)(l:List aQ)(r:aV.D):Prop:=gM l r/\(a=true->bH r=0->∀i,bp l (br r)=some i->kindOf (I J l i)≠3)
def vz(e:Bool)(l:List aQ){c:Int}(d:c≠0)(a b:Int)(g:c≠2\/True)(hr:0<=c/\c<=200:=by decide):qK e l ((0:Int),([]:aO),(0:Int),c,()):=⟨agt l d a b g hr,fun _ h=>absurd h d⟩
def NB{l:List aQ}(h:pc l)(id:Int):kx l (jP l id):=by
 unfold jP
 cases ai:FK l id with
 |none=>exact h.root
 |some i=>
  obtain⟨h1,a,_⟩:=gY.1 ai;refine⟨i,h.hT i h1,?_⟩;by_cases hk:kindOf (I J l i)=2
  ·exact hk
  ·have:=h.bare i h1 hk;rw[this]at a;simp[nJ,eY]at a
def pd{N:List ar.D}{s:aO}(h:dC N s≠0):∃d,d∈N/\d.1=s/\d.2.1=dC N s:=by
 unfold dC at h⊢
 cases a:eY N.length (pa N s)with
 |none=>rw[a]at h;exact absurd rfl h
 |some j=>obtain⟨h1,b,_⟩:=gY.1 a;exact⟨I ar N j,cI h1,by unfold pa bm at b;simpa using b,rfl⟩
def agu{p:aO}(h:yf p)(h1:bm p [46]=false)(b:bm p [46,46]=false)(e:p.length<=8):g_ p=true:=by
 have hl:1<=p.length:=by
  rcases l_ p.length with a|a
  ·exact absurd (List.length_eq_zero_iff.1 a) h.1
  ·exact a
 unfold g_;rw[h1,b,fN.2 (fun i d=>h.2 i d),cL.2 ⟨by omega,by omega⟩];rfl
def agv{b:List aO}{a c:Nat}(h:0<c)(hl:a+c<=b.length):I U.str b a∈part b a c:=by
 unfold part;have h1:a<b.length:=by omega
 rw[kf h1,show c=(c-1)+1 by omega,List.take_succ_cons,cC (t:=.str) h1];exact gT
def agw{b:List aO}{a c:Nat}:∀p,p∈part b (a+1) (c-1)->p∈part b a c:=by
 intro p ai;unfold part at *;rcases l_ c with h|h
 ·subst h;simp at ai
 ·rcases ff a b.length with h1|h1
  ·rw[kf h1,show c=(c-1)+1 by omega,List.take_succ_cons];exact gS _ ai
  ·rw[gp (by omega)]at ai;simp at ai
def NC{s:aO}(h:iL s=true):1<=s.length/\s.length<=60:=by unfold iL at h;rw[bs]at h;have:=cL.1 h.2;omega
def lR(m:Nat)(a b d e g h i j k):(eW (m+1)).aZ a b d e g h i j k=kt (eW m) a b d e g h i j k:=rfl
def FQ(m:Nat)(a b d e g h i j k l n o p):(eW (m+1)).RL a b d e g h i j k l n o p=u7 (eW m) a b d e g h i j k l n o p:=rfl
def WC(m:Nat)(a b d e g h i j k l):(eW (m+1)).ja a b d e g h i j k l=Ds (eW m) a b d e g h i j k l:=rfl
def WD(m:Nat)(a b d e g h i j k l n o p):(eW (m+1)).xD a b d e g h i j k l n o p=Dt (eW m) a b d e g h i j k l n o p:=rfl
def WE(m:Nat)(a b d e g h i j k l):(eW (m+1)).ns a b d e g h i j k l=Du (eW m) a b d e g h i j k l:=rfl
def lf(x:aQ):I J [x] 0=x:=rfl
def bU.jump{a:Type}{f g:Nat->a}{B:Nat}(k:Nat){y:a}(h:bU g B y)(b:∀m,f (m+k)=g m):bU f (B+k) y:=by
 intro m hm;obtain⟨j,rfl⟩:∃j,m=j+k:=⟨m-k,by omega⟩
 rw[b];exact h j (by omega)
def bU.now{a:Type}{f:Nat->a}(k:Nat){y:a}(b:∀m,f (m+k)=y):bU f k y:=by
 intro m hm;obtain⟨j,rfl⟩:∃j,m=j+k:=⟨m-k,by omega⟩
 exact b j
def agx(v:ad.D)(c:aM.D)(B:pc v.2.1)(hc:dB c=true)(g:Bool)(z:aV.D):∀(n:Nat) (at_:Int) (k:Nat) (b:List aO) (a b1:Nat),(8-k)*100+b1<=n->k<=8->a+b1<=b.length->b1<=100->(∀p,p∈part b a b1->yf p)->kx v.2.1 at_ →
  ∃r,qK g v.2.1 r/\bU (fun m=>fM m v g a b1 at_ (k:Int) c z b) (n+2) (some (r,()))/\bU (fun m=>(eW m).aZ g a b1 at_ (k:Int) v c z b) (5*n+5) (some (r,())):=by
 intro n
 induction n with
 |zero=>
  intro at_ k b a b1 hn hk hl aQ ai ao;have T:b1=0:=by omega
  subst T;obtain⟨d,aa,F⟩:=ao;refine⟨((0:Int),([]:aO),at_,(0:Int),()),⟨⟨fun _=>⟨d,aa⟩,fun _ h=>absurd rfl h,fun _ _=>⟨d,aa,F⟩,fun _ h=>absurd rfl h,show(0:Int)<=0/\(0:Int)<=200 from by decide⟩,fun _ _ e he=>by rw[show br (((0:Int),([]:aO),at_,(0:Int),()):aV.D)=at_ from rfl,aa]at he;rw[<-aS he,F];decide⟩,(bU.now 1 fun m=>?_).mono (by omega),(bU.now 1 fun m=>?_).mono (by omega)⟩
  ·simp only[fM,kq];rfl
  ·rw[lR];unfold kt;rfl
 |succ n ar=>
  intro at_ k b a b1 hn hk hl aQ ai ao;rcases l_ b1 with T|T
  ·subst T;obtain⟨d,aa,F⟩:=ao;refine⟨((0:Int),([]:aO),at_,(0:Int),()),⟨⟨fun _=>⟨d,aa⟩,fun _ h=>absurd rfl h,fun _ _=>⟨d,aa,F⟩,fun _ h=>absurd rfl h,show(0:Int)<=0/\(0:Int)<=200 from by decide⟩,fun _ _ e he=>by rw[show br (((0:Int),([]:aO),at_,(0:Int),()):aV.D)=at_ from rfl,aa]at he;rw[<-aS he,F];decide⟩,(bU.now 1 fun m=>?_).mono (by omega),(bU.now 1 fun m=>?_).mono (by omega)⟩
   ·simp only[fM,kq];rfl
   ·rw[lR];unfold kt;rfl
  obtain⟨d,aa,F⟩:=ao;have aC:=b3 aa;have aE:(aq (I J v.2.1 d)).length<=1048576:=cw (fF aC.1) B.c_;have aF:=ai _ (agv T hl);have av:∀p,p∈part b (a+1) (b1-1)->yf p:=fun p h=>ai p (agw p h)
  have j:ax b1 0=some 0:=aU (i:=0) T;have l:cZ b1 1 (b1:Int)=some (1,b1):=iC (lo:=1) T (bu _);have o:decide ((b1:Int)>0)=true:=bR (by omega);have D:=lP v at_ B.len aa;have E:=yc c (I J v.2.1 d) 1 hc;have G:=nH c (I J v.2.1 d) 1 hc;have aR:=aga v at_ B.len B.c_;have aT:=Wl v at_ B.len B.c_;have H:j7 (v,at_,())=some ((d:Int),()):=by rw[mL v at_ B.len,aa];rfl
  have K:ax v.2.1.length (d:Int)=some d:=aU aC.1;have Q:=Wk (I J v.2.1 d) (I U.str b a) aE;have ab:=af' v at_ (I U.str b a) B.len aa aE
  cases hm:may c (I J v.2.1 d) 1 with
  |false=>
   refine⟨((0:Int),([]:aO),(0:Int),(13:Int),()),vz g _ (by decide) 0 0 (.inr trivial),(bU.now 1 fun m=>?_).mono (by omega),(bU.now 1 fun m=>?_).mono (by omega)⟩
   ·rw[fM,kq];simp -index only[o,j,l,D,lf,E,hm,au,ay,ag,bJ,cR,gU]
   ·rw[lR];unfold kt;simp only[o,j,l,H,K,G,hm,au,ay,ag,bJ,cR]
  |true=>
  cases h1:bm (I U.str b a) [46]with
  |true=>
   obtain⟨r,V,W,X⟩:=ar at_ k b (a+1) (b1-1) (by omega) hk (by omega) (by omega) av ⟨d,aa,F⟩;refine⟨r,V,(W.jump (f:=fun m=>fM m v g a b1 at_ (k:Int) c z b) 1 fun m=>?_).mono (by omega),(X.jump (f:=fun m=>(eW m).aZ g a b1 at_ (k:Int) v c z b) 1 fun m=>?_).mono (by omega)⟩
   ·rw[fM,kq];simp -index only[o,j,l,D,lf,E,hm,h1,au,ay,ag,bJ,cR,gU,cz]
   ·rw[lR];unfold kt;simp only[o,j,l,H,K,G,hm,h1,au,ay,ag,bJ,cR,cz]
  |false=>
  cases u:bm (I U.str b a) [46,46]with
  |true=>
   obtain⟨r,V,W,X⟩:=ar (jP v.2.1 at_) k b (a+1) (b1-1) (by omega) hk (by omega) (by omega) av (NB B _);refine⟨r,V,(W.jump (f:=fun m=>fM m v g a b1 at_ (k:Int) c z b) 1 fun m=>?_).mono (by omega),(X.jump (f:=fun m=>(eW m).aZ g a b1 at_ (k:Int) v c z b) 1 fun m=>?_).mono (by omega)⟩
   ·rw[fM,kq];simp -index only[o,j,l,D,lf,E,hm,h1,u,aR,au,ay,ag,bJ,cR,gU,cz]
   ·rw[lR];unfold kt;simp only[o,j,l,H,K,G,hm,h1,u,aT,au,ay,ag,bJ,cR,cz]
  |false=>
  cases w:decide (((I U.str b a).length:Int)>8)with
  |true=>
   refine⟨((0:Int),([]:aO),(0:Int),(36:Int),()),vz g _ (by decide) 0 0 (.inr trivial),(bU.now 1 fun m=>?_).mono (by omega),(bU.now 1 fun m=>?_).mono (by omega)⟩
   ·rw[fM,kq];simp -index only[o,j,l,D,lf,E,hm,h1,u,w,au,ay,ag,bJ,cR,gU,cz]
   ·rw[lR];unfold kt;simp only[o,j,l,H,K,G,hm,h1,u,w,au,ay,ag,bJ,cR,cz]
  |false=>
  have aG:g_ (I U.str b a)=true:=agu aF h1 u (by
   have:=of_decide_eq_false w;have h:¬((I U.str b a).length:Int)>8:=this
   omega)
  cases y:dC (aq (I J v.2.1 d)) (I U.str b a)==0 with
  |true=>
   cases q:((b1-1:Nat):Int)==0 with
   |true=>
    refine⟨(at_,I U.str b a,(0:Int),(2:Int),()),⟨⟨fun h=>(by cases h),fun h=>(by cases h),fun h=>(by cases h),fun _ _=>⟨rfl,aG,d,aa,F,beq_iff_eq.1 y⟩,show(0:Int)<=2/\(2:Int)<=200 from by decide⟩,fun _ h=>(by cases h)⟩,(bU.now 1 fun m=>?_).mono (by omega),(bU.now 1 fun m=>?_).mono (by omega)⟩
    ·rw[fM,kq];simp -index only[o,j,l,D,lf,E,hm,h1,u,w,Q,y,q,au,ay,ag,bJ,cR,gU,cz]
    ·rw[lR];unfold kt;simp only[o,j,l,H,K,G,hm,h1,u,w,ab,y,q,au,ay,ag,bJ,cR,cz]
   |false=>
    refine⟨((0:Int),([]:aO),(0:Int),(2:Int),()),⟨⟨fun h=>(by cases h),fun h=>(by cases h),fun h=>(by cases h),fun _ h=>absurd rfl h,show(0:Int)<=2/\(2:Int)<=200 from by decide⟩,fun _ h=>(by cases h)⟩,(bU.now 1 fun m=>?_).mono (by omega),(bU.now 1 fun m=>?_).mono (by omega)⟩
    ·rw[fM,kq];simp -index only[o,j,l,D,lf,E,hm,h1,u,w,Q,y,q,au,ay,ag,bJ,cR,gU,cz]
    ·rw[lR];unfold kt;simp only[o,j,l,H,K,G,hm,h1,u,w,ab,y,q,au,ay,ag,bJ,cR,cz]
  |false=>
  obtain⟨e,he,a4,aW⟩:=pd (N:=aq (I J v.2.1 d)) (s:=I U.str b a) (by simpa using y);obtain⟨i2,Y⟩:=Option.isSome_iff_exists.1 (B.hU d aC.1 e he);rw[aW]at Y;have aH:=b3 Y;have ac:=lP v _ B.len Y;have aw:j7 (v,dC (aq (I J v.2.1 d)) (I U.str b a),())=some ((i2:Int),()):=by rw[mL v _ B.len,Y];rfl
  have az:ax v.2.1.length (i2:Int)=some i2:=aU aH.1
  have aI:((I J v.2.1 i2).2.1==3)=true->(!(((b1-1:Nat):Int)==0)||g)=true->∃r,qK g v.2.1 r/\bU (fun m=>fM m v g a b1 at_ (k:Int) c z b) (n+1+2) (some (r,()))/\bU (fun m=>(eW m).aZ g a b1 at_ (k:Int) v c z b) (5*(n+1)+5) (some (r,())):=by
   intro A C;have aJ:=B.lQ i2 aH.1 (beq_iff_eq.1 A);have aD:=NC aJ;have ae:ax ((I J v.2.1 i2).2.2.2.2.2.1).length 0=some 0:=aU (i:=0) aD.1;have aA:p9 ((I J v.2.1 i2).2.2.2.2.2.1,())=some (cut (bN (I J v.2.1 i2)),()):=Wu _ (cw aD.2 (by omega));have aK:xC ((I J v.2.1 i2).2.2.2.2.2.1,())=some (cut (bN (I J v.2.1 i2)),()):=Wq _ (cw aD.2 (by omega));have a5:=Wv (bN (I J v.2.1 i2));have a6:(part b (a+1) (b1-1)).length<=100:=by unfold part;rw[dX];omega
   have af:room ((cut (bN (I J v.2.1 i2))).length +(part b (a+1) (b1-1)).length)=true:=bX (by omega);have aX:=Ww aJ;generalize Z:cut (bN (I J v.2.1 i2))++part b (a+1) (b1-1)=L at *
   have aY:∀p,p∈L->yf p:=by
    intro p aL;rw[<-Z]at aL;rcases List.mem_append.1 aL with h|h
    ·exact aX p h
    ·exact av p h
   obtain⟨ah,aZ,M,P⟩:∃ah,kx v.2.1 ah/\(∀m,fM (m+1) v g a b1 at_ (k:Int) c z b=cond ((k:Int)==8) (some (((0:Int),([]:aO),(0:Int),(40:Int),()),()))
      (cond (decide ((L.length:Int)>40)) (some (((0:Int),([]:aO),(0:Int),(36:Int),()),())) (fM m v g 0 L.length ah (aj ((k:Int)+1)) c z L))) ∧
     ∀m,(eW (m+4)).aZ g a b1 at_ (k:Int) v c z b=cond (decide (aj ((k:Int)+1)>8)) (some (((0:Int),([]:aO),(0:Int),(40:Int),()),()))
      (cond (decide ((L.length:Int)>40)) (some (((0:Int),([]:aO),(0:Int),(36:Int),()),())) ((eW m).aZ g 0 L.length ah (aj ((k:Int)+1)) v c z L)):=by
    cases hb:((((I J v.2.1 i2).2.2.2.2.2.1).getD 0 0).toNat:Int)==47 with
    |false=>
     refine⟨at_,⟨d,aa,F⟩,fun m=>?_,fun m=>?_⟩
     ·rw[fM,kq]
      cases q:((b1-1:Nat):Int)==0 with
      |false=>simp -index only[o,j,l,D,lf,E,hm,h1,u,w,Q,y,ac,A,q,ae,hb,aA,af,Z,QZ,au,ay,ag,bJ,cR,gU,cz]
      |true=>rw[q]at C;have C:g=true:=C;simp -index only[o,j,l,D,lf,E,hm,h1,u,w,Q,y,ac,A,q,C,ae,hb,aA,af,Z,Q1,au,ay,ag,bJ,cR,gU,cz]
     ·rw[lR];unfold kt;simp only[o,j,l,H,K,G,hm,h1,u,w,ab,y,m7,aw,az,au,ay,ag,bJ,cR,cz];rw[FQ];unfold u7;have:(cond (!(((b1-1:Nat):Int)==0)) ((eW (m+2)).ja g (a+1) (b1-1) at_ (k:Int) v c z b (I J v.2.1 i2)) (cond g ((eW (m+2)).ja g (a+1) (b1-1) at_ (k:Int) v c z b (I J v.2.1 i2)) ((eW (m+2)).xD g (a+1) (b1-1) at_ (k:Int) (I U.str b a) (((b1-1:Nat):Int)==0) (dC (aq (I J v.2.1 d)) (I U.str b a)) v c z b (I J v.2.1 i2))))=(eW (m+2)).ja g (a+1) (b1-1) at_ (k:Int) v c z b (I J v.2.1 i2):=by revert C;cases ((b1-1:Nat):Int)==0<;>cases g<;>intro C<;>first|rfl|cases C
      rw[A];simp only[au];refine this.trans ?_;rw[WC];unfold Ds;rw[ae];simp only[ag,hb,ay];rw[WE];unfold Du;rw[aK];simp only[ag,af,au,Z]
    |true=>
     refine⟨1,B.root,fun m=>?_,fun m=>?_⟩
     ·rw[fM,kq]
      cases q:((b1-1:Nat):Int)==0 with
      |false=>simp -index only[o,j,l,D,lf,E,hm,h1,u,w,Q,y,ac,A,q,ae,hb,aA,af,Z,QY,au,ay,ag,bJ,cR,gU,cz]
      |true=>rw[q]at C;have C:g=true:=C;simp -index only[o,j,l,D,lf,E,hm,h1,u,w,Q,y,ac,A,q,C,ae,hb,aA,af,Z,Q0,au,ay,ag,bJ,cR,gU,cz]
     ·rw[lR];unfold kt;simp only[o,j,l,H,K,G,hm,h1,u,w,ab,y,m7,aw,az,au,ay,ag,bJ,cR,cz];rw[FQ];unfold u7;have:(cond (!(((b1-1:Nat):Int)==0)) ((eW (m+2)).ja g (a+1) (b1-1) at_ (k:Int) v c z b (I J v.2.1 i2)) (cond g ((eW (m+2)).ja g (a+1) (b1-1) at_ (k:Int) v c z b (I J v.2.1 i2)) ((eW (m+2)).xD g (a+1) (b1-1) at_ (k:Int) (I U.str b a) (((b1-1:Nat):Int)==0) (dC (aq (I J v.2.1 d)) (I U.str b a)) v c z b (I J v.2.1 i2))))=(eW (m+2)).ja g (a+1) (b1-1) at_ (k:Int) v c z b (I J v.2.1 i2):=by revert C;cases ((b1-1:Nat):Int)==0<;>cases g<;>intro C<;>first|rfl|cases C
      rw[A];simp only[au];refine this.trans ?_;rw[WC];unfold Ds;rw[ae];simp only[ag,hb,au];rw[WE];unfold Du;rw[aK];simp only[ag,af,au,Z]
   have a0:aj ((k:Int)+1)=((k+1:Nat):Int):=c0 k (by omega);rw[a0]at M P;rcases ff k 8 with a1|a1
   ·rw[show((k:Int)==8)=false by simp;omega]at M;rw[show decide (((k+1:Nat):Int)>8)=false from bW (by omega)]at P;simp only[ay]at M P
    cases aB:decide ((L.length:Int)>40)with
    |true=>rw[aB]at M P;refine⟨((0:Int),([]:aO),(0:Int),(36:Int),()),vz g _ (by decide) 0 0 (.inr trivial),(bU.now 1 fun m=>M m).mono (by omega),(bU.now 4 fun m=>P m).mono (by omega)⟩
    |false=>rw[aB]at M P;have aB:=of_decide_eq_false aB;obtain⟨r,V,W,X⟩:=ar ah (k+1) L 0 L.length (by omega) (by omega) (by omega) (by omega) (by rw[WG];exact aY) aZ;exact⟨r,V,(W.jump (f:=fun m=>fM m v g a b1 at_ (k:Int) c z b) 1 fun m=>M m).mono (by omega),(X.jump (f:=fun m=>(eW m).aZ g a b1 at_ (k:Int) v c z b) 4 fun m=>P m).mono (by omega)⟩
   ·rw[show((k:Int)==8)=true by simp;omega]at M;rw[show decide (((k+1:Nat):Int)>8)=true from bR (by omega)]at P;refine⟨((0:Int),([]:aO),(0:Int),(40:Int),()),vz g _ (by decide) 0 0 (.inr trivial),(bU.now 1 fun m=>M m).mono (by omega),(bU.now 4 fun m=>P m).mono (by omega)⟩
  have aN:(g=true->kindOf (I J v.2.1 i2)≠3)->(∀m,fM (m+1) v g a b1 at_ (k:Int) c z b=cond (((b1-1:Nat):Int)==0) (some ((at_,I U.str b a,dC (aq (I J v.2.1 d)) (I U.str b a),(0:Int),()),()))
     (cond ((I J v.2.1 i2).2.1 != 2) (some (((0:Int),([]:aO),(0:Int),(20:Int),()),())) (fM m v g (a+1) (b1-1) (dC (aq (I J v.2.1 d)) (I U.str b a)) (k:Int) c z b))) →
    (∀m,(eW (m+3)).aZ g a b1 at_ (k:Int) v c z b=cond (((b1-1:Nat):Int)==0) (some ((at_,I U.str b a,dC (aq (I J v.2.1 d)) (I U.str b a),(0:Int),()),()))
     (cond ((I J v.2.1 i2).2.1 != 2) (some (((0:Int),([]:aO),(0:Int),(20:Int),()),())) ((eW m).aZ g (a+1) (b1-1) (dC (aq (I J v.2.1 d)) (I U.str b a)) (k:Int) v c z b))) →
    ∃r,qK g v.2.1 r/\bU (fun m=>fM m v g a b1 at_ (k:Int) c z b) (n+1+2) (some (r,()))/\bU (fun m=>(eW m).aZ g a b1 at_ (k:Int) v c z b) (5*(n+1)+5) (some (r,())):=by
   intro a2 ak al
   cases q:((b1-1:Nat):Int)==0 with
   |true=>
    refine⟨(at_,I U.str b a,dC (aq (I J v.2.1 d)) (I U.str b a),(0:Int),()),⟨⟨fun _=>⟨i2,Y⟩,fun _ _=>⟨beq_eq_false_iff_ne.1 y,aG,d,aa,F,rfl⟩,fun _ h=>absurd h aF.1,fun h=>(by cases h),show(0:Int)<=0/\(0:Int)<=200 from by decide⟩,fun a3 _ e he=>by rw[show br ((at_,I U.str b a,dC (aq (I J v.2.1 d)) (I U.str b a),(0:Int),()):aV.D)=dC (aq (I J v.2.1 d)) (I U.str b a) from rfl,Y]at he;rw[<-aS he];exact a2 a3⟩,(bU.now 1 fun m=>?_).mono (by omega),(bU.now 3 fun m=>?_).mono (by omega)⟩
    ·rw[ak,q];rfl
    ·rw[al,q];rfl
   |false=>
    rw[q]at ak al;simp only[ay]at ak al;by_cases an:kindOf (I J v.2.1 i2)=2
    ·obtain⟨r,V,W,X⟩:=ar (dC (aq (I J v.2.1 d)) (I U.str b a)) k b (a+1) (b1-1) (by omega) hk (by omega) (by omega) av ⟨i2,Y,an⟩;refine⟨r,V,(W.jump (f:=fun m=>fM m v g a b1 at_ (k:Int) c z b) 1 fun m=>?_).mono (by omega),(X.jump (f:=fun m=>(eW m).aZ g a b1 at_ (k:Int) v c z b) 3 fun m=>?_).mono (by omega)⟩
     ·rw[ak,dA (show(I J v.2.1 i2).2.1=2 from an)];rfl
     ·rw[al,dA (show(I J v.2.1 i2).2.1=2 from an)];rfl
    ·refine⟨((0:Int),([]:aO),(0:Int),(20:Int),()),vz g _ (by decide) 0 0 (.inr trivial),(bU.now 1 fun m=>?_).mono (by omega),(bU.now 3 fun m=>?_).mono (by omega)⟩
     ·rw[ak,cY (show ¬(I J v.2.1 i2).2.1=2 from an)];rfl
     ·rw[al,cY (show ¬(I J v.2.1 i2).2.1=2 from an)];rfl
  cases A:(I J v.2.1 i2).2.1==3 with
  |true=>
   cases q:((b1-1:Nat):Int)==0 with
   |false=>exact aI A (by rw[q];rfl)
   |true=>
    cases g with
    |true=>exact aI A (by rw[q];rfl)
    |false=>
     refine aN (fun h=>by cases h) (fun m=>?_) (fun m=>?_)
     ·rw[fM,kq];simp -index only[o,j,l,D,lf,E,hm,h1,u,w,Q,y,ac,A,q,au,ay,ag,bJ,cR,gU,cz]
     ·rw[lR];unfold kt;simp only[o,j,l,H,K,G,hm,h1,u,w,ab,y,m7,aw,az,q,au,ay,ag,bJ,cR,cz];rw[FQ];unfold u7;simp only[A,au,ay,bJ,cR];rw[WD];unfold Dt;rfl
  |false=>
   refine aN (fun _=>beq_eq_false_iff_ne.1 A) (fun m=>?_) (fun m=>?_)
   ·rw[fM,kq];simp -index only[o,j,l,D,lf,E,hm,h1,u,w,Q,y,ac,A,au,ay,ag,bJ,cR,gU,cz]
   ·rw[lR];unfold kt;simp only[o,j,l,H,K,G,hm,h1,u,w,ab,y,m7,aw,az,au,ay,ag,bJ,cR,cz];rw[FQ];unfold u7;simp only[A,au,ay];rw[WD];unfold Dt;rfl
def WH(v:ad.D)(c:aM.D)(path:aO)(a:Bool)(b:pc v.2.1)(hc:dB c=true)(ai:qJ path=true):
  ∃r,qK a v.2.1 r/\I4 (v,c,path,a,())=some (r,())/\Dv (v,c,path,a,())=some (r,()):=by
 unfold qJ at ai;rw[bs]at ai;have h:=NC ai.1;have i:=Wv path;obtain⟨r,d,e,g⟩:=agx v c b hc a ((0:Int),([]:aO),(0:Int),(0:Int),()) 900 1 0 (cut path) 0 (cut path).length (by omega) (by omega) (by omega) (by omega) (by rw[WG];exact Ww ai.1) b.root;refine⟨r,d,?_,?_⟩
 ·show Ba (fM aC) v c path a=_;unfold Ba;rw[Wu path (by omega)];exact jx e (by omega)
 ·show Dr (eW aC) v c path a=_;unfold Dr;rw[Wq path (by omega)];exact jx g (by omega)
end Go.LM.i_
