/- Tellings, a call as a whole; a right volume stays right. Conditions: each theorem's own hypotheses. -/
import Derived.Test.YtlkbjdmfbadhaaaGreatDoorZVd
set_option linter.unusedVariables false
set_option linter.defProp false
set_option linter.unusedSimpArgs false
namespace Go.LM.i_
def ky(a:Int):aO:=ek [IntKind.wrap .u8 (aj (48+a))]
def ph(a:Int):(ky a).length=1:=rfl
def kb(x:Int):Int:=if Int.tmod x 10<0 then -(Int.tmod x 10) else Int.tmod x 10
def qR(b:Bool)(t:aO):aO:=cond b ([45]++t) t
def Xi(m:Nat)(x:Int)(t:aO)(b:Bool):mA (m+1) x t b=xy (mA m) x t b:=rfl
def ahC(m:Nat)(y:Int)(t:aO)(x:Int):(kV (m+1)).aZ y t x=IH (kV m) y t x:=rfl
def ahD(m:Nat)(y:Int)(t:aO)(x a:Int):(kV (m+1)).dE y t x a=II (kV m) y t x a:=rfl
def NW(x:Int):(-9<=Int.tmod x 10/\Int.tmod x 10<=9)/\(0<=x->0<=Int.tmod x 10)/\(x<=0->Int.tmod x 10<=0):=by have h1:=Int.tmod_lt_of_pos x (show(0:Int)<10 by decide);have b:=Int.lt_tmod_of_pos x (show(0:Int)<10 by decide);refine⟨by omega,fun h=>Int.tmod_nonneg _ h,fun h=>?_⟩;have a:0<=Int.tmod (-x) 10:=Int.tmod_nonneg _ (by omega);rw[Int.neg_tmod]at a;omega
def NX(x:Int):10*Int.tdiv x 10+Int.tmod x 10=x:=Int.mul_tdiv_add_tmod x 10
def Xj(neg:Bool)(t:aO)(h:t.length<=1000):
  cond neg (cond (room (([45]:aO).length+t.length)) (some (([45]:aO)++t,())) none) (some (t,()))=some (qR neg t,()):=by
 rw[bX (by simp;omega)];cases neg<;>rfl
def ahE(m:Nat)(t:aO)(neg:Bool)(h:t.length<=1000):mA (m+1) 0 t neg=some (qR neg t,()):=by rw[Xi];unfold xy;rw[show((0:Int) != 0)=false from rfl];simp only[ay];exact Xj neg t h
def Xk(m:Nat)(x:Int)(t:aO)(neg:Bool)(b:x≠0)(h:t.length<=1000)(hb : -4000000000000000000<=x/\x<=4000000000000000000):mA (m+1) x t neg=mA m (Int.tdiv x 10) (ky (kb x)++t) neg:=by
 have h1:=NW x;have d:=NX x;rw[Xi];unfold xy;rw[cY b];simp only[au];rw[cm (a:=Int.tdiv x 10) (by omega) (by omega)];by_cases hn:Int.tmod x 10<0
 ·rw[bR hn];simp only[au];rw[cm (a:=0-Int.tmod x 10) (by omega) (by omega)];rw[show kb x=0-Int.tmod x 10 by unfold kb;rw[bg hn];omega];rw[show ek [IntKind.wrap .u8 (aj (48 +(0-Int.tmod x 10)))]=ky (0-Int.tmod x 10) from rfl,bX (by rw[ph];omega)];rfl
 ·rw[bW hn];simp only[ay];rw[show kb x=Int.tmod x 10 by unfold kb;rw[bd hn]];rw[show ek [IntKind.wrap .u8 (aj (48+Int.tmod x 10))]=ky (Int.tmod x 10) from rfl,bX (by rw[ph];omega)];rfl
def NY(m:Nat)(y x:Int)(t:aO)(h:t.length<=900)(hb : -4000000000000000000<=x/\x<=4000000000000000000):
  (kV (m+2)).aZ y t x=cond (b8 x (-9) 9) (some (qR (decide (y<0)) (ky (kb x)++t),())) ((kV m).aZ y (ky (kb x)++t) (Int.tdiv x 10)):=by
 have h1:=NW x;have b:=NX x;have key:∀a,(kV (m+1)).dE y t x a=cond (b8 x (-9) 9) (some (qR (decide (y<0)) (ky a++t),())) ((kV m).aZ y (ky a++t) (Int.tdiv x 10)):=by intro a;rw[ahD];unfold II;rw[show ek [IntKind.wrap .u8 (aj (48+a))]=ky a from rfl,bX (by rw[ph];omega),fZ,cm (a:=Int.tdiv x 10) (by omega) (by omega)];simp only[au,ag];rw[Xj (decide (y<0)) (ky a++t) (by rw[bZ,ph];omega)]
 rw[ahC];unfold IH;by_cases hn:Int.tmod x 10<0
 ·rw[bR hn];simp only[au];rw[cm (a:=0-Int.tmod x 10) (by omega) (by omega),key,show kb x=0-Int.tmod x 10 by unfold kb;rw[bg hn];omega]
 ·rw[bW hn];simp only[ay];rw[key,show kb x=Int.tmod x 10 by unfold kb;rw[bd hn]]
def Xl:∀(k:Nat) (x:Int),k<=18->x≠0 → -(10^k:Int)<x->x<(10^k:Int) →
  ∃t:aO,t.length<=k/\(∀(m:Nat) (a:aO) (neg:Bool),k<m->a.length+k<=500->mA m x a neg=some (qR neg (t++a),())) ∧
   (∀(m:Nat) (y:Int) (a:aO),2*k<m->a.length+k<=500->(kV m).aZ y a x=some (qR (decide (y<0)) (t++a),())):=by
 intro k
 induction k with
 |zero=>intro x hk b h1 d;simp at h1 d;omega
 |succ k j=>
  intro x hk b h1 d;have aa:=NW x;have hm:=NX x;have o:(10^k:Int)<=100000000000000000:=by have:(10:Nat)^k<=10^17:=Nat.pow_le_pow_right (by decide) (by omega);have l:((10^k:Nat):Int)<=((10^17:Nat):Int):=Int.ofNat_le.2 this;simpa using l
  have ai:(10^(k+1):Int)=10*10^k:=by rw[Int.pow_succ];omega
  rw[ai]at h1 d;generalize p:(10^k:Int)=P at *;by_cases i : -9<=x/\x<=9
  ·refine⟨ky (kb x),by rw[ph];omega,fun m a neg e g=>?_,fun m y a e g=>?_⟩
   ·obtain⟨m,rfl⟩:∃q,m=q+1+1:=⟨m-2,by omega⟩
    rw[Xk _ x a neg b (by omega) (by omega),show Int.tdiv x 10=0 by omega];exact ahE m _ neg (by rw[bZ,ph];omega)
   ·obtain⟨m,rfl⟩:∃q,m=q+2:=⟨m-2,by omega⟩
    rw[NY m y x a (by omega) (by omega),show b8 x (-9) 9=true from cL.2 i];rfl
  ·obtain⟨t,ht,hs,n⟩:=j (Int.tdiv x 10) (by omega) (by omega) (by omega) (by omega);refine⟨t++ky (kb x),by rw[bZ,ph];omega,fun m a neg e g=>?_,fun m y a e g=>?_⟩
   ·obtain⟨m,rfl⟩:∃q,m=q+1:=⟨m-1,by omega⟩
    rw[Xk _ x a neg b (by omega) (by omega)];rw[hs m (ky (kb x)++a) neg (by omega) (by rw[bZ,ph];omega),dW]
   ·obtain⟨m,rfl⟩:∃q,m=q+2:=⟨m-2,by omega⟩
    rw[NY m y x a (by omega) (by omega),show b8 x (-9) 9=false from Bool.eq_false_iff.2 fun h=>i (cL.1 h)];simp only[ay];rw[n m y (ky (kb x)++a) (by omega) (by rw[bZ,ph];omega),dW]
def fy(x:Int):aO:=match r8 (x,())with|some r=>r.1|none=>[]
def e_(x:Int)(h : -1000000000000<x/\x<1000000000000):(fy x).length<=20/\eB (x,())=some (fy x,())/\r8 (x,())=some (fy x,()):=by
 obtain⟨t,h1,d,b⟩:∃t:aO,t.length<=20/\eB (x,())=some (t,())/\r8 (x,())=some (t,()):=by
  by_cases a:x=0
  ·subst a;refine⟨[48],by simp,rfl,?_⟩;obtain⟨q,g,_⟩:=iK 2;show(kV aC).aZ 0 [] 0=_;rw[g,NY q 0 0 [] (by simp) (by omega)];rfl
  ·obtain⟨t,ht,hs,i⟩:=Xl 12 x (by omega) a (by simpa using h.1) (by simpa using h.2);refine⟨qR (decide (x<0)) t,?_,?_,?_⟩
   ·unfold qR;cases decide (x<0)
    ·simp only[ay];omega
    ·simp only[au,bZ,b2,cU];omega
   ·show cond (x==0) _ (mA aC x [] (decide (x<0)))=_;rw[bO a];simp only[ay];rw[hs aC [] _ (hR (by omega)) (by simp),dn]
   ·show(kV aC).aZ x [] x=_;rw[i aC x [] (hR (by omega)) (by simp),dn]
 have e:fy x=t:=by unfold fy;rw[b]
 rw[e];exact⟨h1,d,b⟩
def ahF(xs:List aO)(sep:aO)(B:Nat)(h:∀t,t∈xs->t.length<=B):(Lib.joinTail sep xs).length<=xs.length*(sep.length+B):=by
 induction xs with
 |nil=>simp[Lib.joinTail]
 |cons a r b=>
  have h1:=h a (by simp);have d:=b fun t ht=>h t (by simp[ht])
  simp only[Lib.joinTail,dh,kH,bZ,b2,de]at d⊢;omega
def F8(xs:List aO)(sep:aO)(B:Nat)(h:∀t,t∈xs->t.length<=B):(Lib.join xs sep).length<=xs.length*(sep.length+B):=by
 cases xs with
 |nil=>simp[Lib.join_nil]
 |cons a r=>
  have h1:=h a (by simp);have b:=ahF r sep B fun t ht=>h t (by simp[ht])
  rw[Lib.join_cons,bZ,b2,de];omega
def ahG(xs:List aO)(y sep:aO)(h:xs≠[]):Lib.join (xs++[y]) sep=Lib.join xs sep++sep++y:=by
 cases xs with
 |nil=>exact absurd rfl h
 |cons x r=>simp[Lib.join_cons,Lib.joinTail,dW]
def Xm(xs:List aO)(sep:aO)(B:Nat)(h:∀t,t∈xs->t.length<=B)(hl:xs.length*(sep.length+B)<=68719476736)(hn:xs.length<=68719476736):joinF xs sep=some (Lib.join xs sep,()):=by unfold joinF;rw[bg ⟨hn,cw (F8 xs sep B h) hl⟩]
def NZ(a:List Int)(hl:a.length<=100)(h:∀x,x∈a → -1000000000000<x/\x<1000000000000):ov (a,())=some (Lib.join (a.map fy) [32],()):=by
 show sg aC a (a.length:Int) 0 []=_
 have:=k8 a.length (by omega) (fun m i=>sg m a (a.length:Int) i ((a.take i.toNat).map fy)) (fun _=>some (Lib.join (a.map fy) [32],())) (fun _=>True) (fun m _=>by
  simp only[sg,Bw];rw[bI (bu _),ed,ia];simp only[ay];show Option.bind (joinF (a.map fy) [32]) _=_
  rw[Xm _ _ 20 (fun t ht=>by
   obtain⟨x,e,rfl⟩:=List.mem_map.1 ht
   exact(e_ x (h x e)).1) (by simp;omega) (by simp;omega)];rfl) (fun m i b _ g d=>by
  have e:a[i]∈a:=List.getElem_mem b;have d:=d trivial;rw[Int.toNat_natCast_add_one,hD b,kg]at d;simp only[sg,Bw,g];rw[bj b,aU b,ed];simp only[au,ag];rw[show I (U.int .i64) a i=a[i] from cC b,(e_ _ (h _ e)).2.2];simp only[ag];rw[bX (by simp;omega)]
  exact d) a.length 0 aC (by omega) (hR (by omega)) trivial
 simpa using this
def dy(v:ad.D)(c:aM.D)(x:aL.D)(a:Option (aA.D×aN.D×Unit))(b:Option (aA.D×Unit)):Prop:=∃res:aA.D,a=some (res,(v,c,x,()),())/\b=some (res,())/\res.2.1.length<=400/\(res.1=0\/res.2.1=[])/\0<=res.1/\res.1<=200
def dy.is{v:ad.D}{c:aM.D}{x:aL.D}{a:Option (aA.D×aN.D×Unit)}{b:Option (aA.D×Unit)}(k:Int)(t:aO)(d:a=some ((k,t,()),(v,c,x,()),()))(hb:b=some ((k,t,()),()))(hl:t.length<=400:=by simp)(e:k=0\/t=[]:=by simp)(hr:0<=k/\k<=200:=by decide):dy v c x a b:=⟨(k,t,()),d,hb,hl,e,hr⟩
def ahH(m:Nat)(a b d e):(fh (m+1)).a_ a b d e=Lb (fh m) a b d e:=rfl
def vF(m:Nat)(a b d e f):(fh (m+1)).c7 a b d e f=qw (fh m) a b d e f:=rfl
def Xn(m:Nat)(a b d e f):(fh (m+1)).s_ a b d e f=DN (fh m) a b d e f:=rfl
def Xo(m:Nat)(a b d e):(fh (m+1)).qv a b d e=DO (fh m) a b d e:=rfl
def ahI(m:Nat)(a b d e):(fh (m+1)).DM a b d e=Lc (fh m) a b d e:=rfl
def lh(x:aL.D):Bool:=aF x != 11&&(aF x != 14||bM x==0)
def lW(x:aL.D):Bool:=(aF x==14&&(bM x != 0&&bM x != 1))||(aF x==17 && !b8 (bM x) 0 7)
def qS:aA.D:=(0,([]:aO),())
def ahJ(m:Nat)(v:ad.D)(c:aM.D)(x:aL.D)(z:aA.D):(fh (m+1)).a_ v c x z=Option.bind (eI (v,c,eP x,lh x,())) fun r=>(fh m).c7 v c x z r.1:=by
 rw[ahH];unfold Lb lh;show cond (aF x != 11) (cond (aF x != 14) (Option.bind (eI (v,c,eP x,true,())) _) (Option.bind (eI (v,c,eP x,bM x==0,())) _)) (Option.bind (eI (v,c,eP x,false,())) _)=_;cases aF x != 11
 ·rfl
 ·cases aF x != 14<;>rfl
def N0(K:lH)(v:ad.D)(c:aM.D)(x:aL.D)(hk:aF x≠18):oL K v c x=cond (lW x) (some ((22,[],()),())) (K.a_ v c x qS):=by
 unfold oL lW;have b:∀k:Option (aA.D×Unit),Option.bind (cH (bM x,0,7,())) (fun v4=>cond (!v4.1) (some ((22,([]:aO),()),())) k)=cond (!b8 (bM x) 0 7) (some ((22,([]:aO),()),())) k:=fun k=>by rw[fY];rfl
 show cond (aF x==18) _ (cond (aF x==14) (cond (bM x != 0) (cond (bM x != 1) _ (cond (aF x==17) (Option.bind (cH (bM x,0,7,())) _) _)) (cond (aF x==17) (Option.bind (cH (bM x,0,7,())) _) _)) (cond (aF x==17) (Option.bind (cH (bM x,0,7,())) (fun v4=>cond (!v4.1) (some ((22,([]:aO),()),())) (K.a_ v c x qS))) (K.a_ v c x qS)))=_;rw[bO hk];simp only[ay];by_cases a:aF x=14
 ·rw[cf a,bO (show aF x≠17 by omega)];cases bM x != 0<;>cases bM x != 1<;>rfl
 ·rw[bO a];simp only[ay,ma,Bool.false_or];rw[b];cases aF x==17
  ·rfl
  ·cases b8 (bM x) 0 7<;>rfl
def yy(v:ad.D)(c:aM.D)(x:aL.D)(hk:aF x≠18)(hb:lW x=false)(d:pc v.2.1)(r:aV.D)(hs:eI (v,c,eP x,lh x,())=some (r,())):
  ∃q,4611686018427387904<q/\j9 (v,c,x,())=(fh (q+1)).c7 v c x qS r:=by
 obtain⟨q,a,b⟩:=iK 2;refine⟨q,b,?_⟩;show oL (fh aC) v c x=_;rw[N0 _ _ _ _ hk,hb,a];simp only[ay];rw[ahJ,hs];rfl
def yz(v:ad.D)(c:aM.D)(x:aL.D)(q:Nat)(r:aV.D)(h:bH r≠0):(fh (q+1)).c7 v c x qS r=some ((bH r,[],()),()):=by rw[vF];unfold qw;show cond (bH r != 0) _ _=_;rw[cY h];rfl
def ahK(v:ad.D)(c:aM.D)(x:aL.D)(hv:bY v)(hc:dB c=true)(g:hd x)(hk:aF x=11):dy v c x (Bu ((v,c,x,()),())) (j9 (v,c,x,())):=by
 have b:=hv.iu;have ai:=g.path;obtain⟨r,hr,h,j,k⟩:=qQ v c x false b hc (by omega);obtain⟨q,n,l⟩:=yy v c x (by omega) (by unfold lW;rw[bO (show aF x≠14 by omega),bO (show aF x≠17 by omega)];rfl) b r (by rw[show lh x=false by unfold lh;rw[dA hk];rfl];exact h);show dy v c x (Jt (v,c,x,())) _;rw[l];unfold Jt;by_cases a:bH r=0
 case neg=>rw[j a,yz v c x q r a];simp only[ag];rw[cY a];exact dy.is (bH r) [] rfl rfl (by simp) (.inr rfl) (hr.1.rg)
 obtain⟨i,d,m⟩:=k a;have e:=b3 d;rw[m,vF];unfold qw;show dy v c x _ (cond (bH r != 0) _ (Option.bind (eX (v,br r,())) _));rw[dA a,iO v _ b.len d];simp only[ay,ag];rw[show((0:Int) != 0)=false from rfl,aU e.1];simp only[ay,ag];show dy v c x (cond (kindOf (I J v.2.1 i) != 3) _ _) (cond (aF x==4) _ (cond (aF x==11) (cond (kindOf (I J v.2.1 i) != 3) _ _) _));rw[bO (show aF x≠4 by omega),cf hk];simp only[ay,au]
 cases kindOf (I J v.2.1 i) != 3 with
 |true=>exact dy.is 22 [] rfl rfl
 |false=>exact dy.is 0 (bN (I J v.2.1 i)) rfl rfl (by have:=hv.gD e.1;omega)
def ahL(v:ad.D)(c:aM.D)(x:aL.D)(hv:bY v)(hc:dB c=true)(g:hd x)(hk:aF x=17):
  dy v c x (Option.bind (BJ ((v,c,x,()),())) fun v6=>Option.bind (ea (v6.1,())) fun h=>some (h.1,v6.2.1,())) (j9 (v,c,x,())):=by
 have b:=hv.iu;have ai:=g.path;show dy v c x (Option.bind (JA (v,c,x,())) _) _;unfold JA;show dy v c x (Option.bind (Option.bind (cT (bM x,0,7,())) _) _) _;rw[fZ];simp only[ag]
 cases d:b8 (bM x) 0 7 with
 |false=>
  have j:j9 (v,c,x,())=some ((22,[],()),()):=by show oL (fh aC) v c x=_;rw[N0 _ _ _ _ (by omega),show lW x=true by unfold lW;rw[cf hk,d];simp];rfl
  rw[j];exact dy.is 22 [] rfl rfl
 |true=>
 obtain⟨r,hr,k,l,m⟩:=qQ v c x true b hc (by omega);obtain⟨q,s,n⟩:=yy v c x (by omega) (by unfold lW;rw[bO (show aF x≠14 by omega),d];simp) b r (by rw[show lh x=true by unfold lh;rw[cY (show aF x≠11 by omega),cY (show aF x≠14 by omega)];rfl];exact k);rw[n];simp only[bJ,ay];by_cases a:bH r=0
 case neg=>rw[l a,yz v c x q r a];simp only[ag];rw[cY a];exact dy.is (bH r) [] rfl rfl (by simp) (.inr rfl) (hr.1.rg)
 obtain⟨i,e,o⟩:=m a;have p:=b3 e;rw[o,vF];unfold qw;show dy v c x _ (cond (bH r != 0) _ (Option.bind (eX (v,br r,())) _));rw[dA a,iO v _ b.len e];simp only[ay,ag];rw[show((0:Int) != 0)=false from rfl,aU p.1];simp only[ay,ag];show dy v c x (Option.bind (Option.bind (na (c,I J v.2.1 i,bM x,())) _) _) (cond (aF x==4) _ (cond (aF x==11) _ (cond (aF x==13) _ (cond (aF x==14) _ (cond (aF x==17) (Option.bind (ju (c,I J v.2.1 i,bM x,())) _) _)))));rw[bO (show aF x≠4 by omega),bO (show aF x≠11 by omega),bO (show aF x≠13 by omega),bO (show aF x≠14 by omega),cf hk];simp only[ay,au];rw[yc c _ _ hc,nH c _ _ hc];simp only[ag]
 cases may c (I J v.2.1 i) (bM x)with
 |false=>exact dy.is 13 [] rfl rfl
 |true=>exact dy.is 0 [] rfl rfl
def N1(a:List Int)(hl:a.length<=18)(h:∀x,x∈a → -1000000000000<x/\x<1000000000000):(Lib.join (a.map fy) [32]).length<=400:=by
 refine cw (F8 _ _ 20 fun t ht=>?_) ?_
 ·obtain⟨x,b,rfl⟩:=List.mem_map.1 ht;exact(e_ x (h x b)).1
 ·rw[List.length_map,jE];omega
def ahM(N:List ar.D)(b:N.length<=12)(a:∀d,d∈N->d.1.length<=8):(Lib.join (N.map fun d=>d.1) [47]).length<=400:=by
 refine cw (F8 _ _ 8 fun t ht=>?_) ?_
 ·obtain⟨d,aa,rfl⟩:=List.mem_map.1 ht;exact a d aa
 ·rw[List.length_map,jE];omega
def ahN(v:ad.D)(c:aM.D)(x:aL.D)(hv:bY v)(hk:aF x=18):
  dy v c x (Option.bind (p4 (v,())) fun b=>Option.bind (ov ([(v.2.1.length:Int),b.1],())) fun d=>some ((0,d.1,()),(v,c,x,()),())) (j9 (v,c,x,())):=by
 have hl:=hv.len;have hb:=hv.bytes;show dy v c x _ (oL (fh aC) v c x);unfold oL;show dy v c x _ (cond (aF x==18) (Option.bind (eB ((v.2.1.length:Int),())) _) _);have e:=e_ (v.2.1.length:Int) (by omega);have g:=e_ (bytesOf v.2.1:Int) (by omega);rw[cf hk,Na v (by omega) (by omega),e.2.1];simp only[au,ag];rw[bX (by simp;omega),M' v (by omega) (by omega)];simp only[au,ag];rw[g.2.1];simp only[ag];rw[bX (by simp;omega),NZ _ (by simp) (by intro h a;simp at a;omega)];refine dy.is 0 _ rfl ?_ (N1 _ (by simp) (by intro h a;simp at a;omega));simp[Lib.join_cons,Lib.joinTail,dW]
def mQ(P:Int->Prop)(v:ad.D)(c:aM.D)(x:aL.D)(a:Option (aA.D×aN.D×Unit))(b:Option (aA.D×Unit)):Prop:=∃res:aA.D,a=some (res,(v,c,x,()),())/\b=some (res,())/\res.2.1.length<=400/\(res.1=0\/res.2.1=[])/\0<=res.1/\res.1<=200/\P res.1
def mQ.is{P:Int->Prop}{v:ad.D}{c:aM.D}{x:aL.D}{a:Option (aA.D×aN.D×Unit)}{b:Option (aA.D×Unit)}(k:Int)(t:aO)(d:a=some ((k,t,()),(v,c,x,()),()))(hb:b=some ((k,t,()),()))(e:P k)(hl:t.length<=400:=by simp)(g:k=0\/t=[]:=by simp)(hr:0<=k/\k<=200:=by decide):mQ P v c x a b:=⟨(k,t,()),d,hb,hl,g,hr.1,hr.2,e⟩
def vG(v:ad.D)(c:aM.D)(x:aL.D)(k:Int):Prop:=∀r,b8 (bM x) 0 1=true->eI (v,c,eP x,bM x==0,())=some (r,())->bH r=0->k=0
def ahO(v:ad.D)(c:aM.D)(x:aL.D)(hv:bY v)(hc:dB c=true)(n:hd x)(hk:aF x=14):mQ (vG v c x) v c x (w9 ((v,c,x,()),())) (j9 (v,c,x,())):=by
 have a:=hv.iu;have ai:=n.path;show mQ (vG v c x) v c x (Jv (v,c,x,())) _;unfold Jv;show mQ (vG v c x) v c x (Option.bind (cT (bM x,0,1,())) fun v1=>cond (!v1.1) _ (Option.bind (kW ((v,c,x,()),bM x==0,())) _)) _;rw[fZ];simp only[ag]
 cases g:b8 (bM x) 0 1 with
 |false=>
  have o:j9 (v,c,x,())=some ((22,[],()),()):=by
   show oL (fh aC) v c x=_;have hn:¬(0<=bM x/\bM x<=1):=fun h=>by rw[cL.2 h]at g;cases g
   rw[N0 _ _ _ _ (by omega),show lW x=true by unfold lW;rw[cf hk,cY (show bM x≠0 by omega),cY (show bM x≠1 by omega)];rfl];rfl
  rw[o];exact mQ.is 22 [] rfl rfl (fun r h=>by rw[g]at h;cases h)
 |true=>
 have K:=cL.1 g;obtain⟨r,hr,l,p,s⟩:=qQ v c x (bM x==0) a hc (by omega)
 obtain⟨q,L,u⟩:=yy v c x (by omega) (by
  unfold lW;rw[bO (show aF x≠17 by omega)];rcases (show bM x=0\/bM x=1 by omega)with h|h
  ·rw[dA h];simp
  ·rw[dA h];simp) a r (by
  rw[show lh x=(bM x==0) by unfold lh;rw[cY (show aF x≠11 by omega),dA hk];rfl];exact l)
 rw[u];simp only[bJ,ay];by_cases b:bH r=0
 case neg=>
  rw[p b,yz v c x q r b];simp only[ag];rw[cY b];refine mQ.is (bH r) [] rfl rfl ?_ (by simp) (.inr rfl) hr.1.rg
  exact(fun w _ h y=>by
   rw[l]at h;have e:r=w:=congrArg Prod.fst (aS h);rw[e]at b
   exact absurd y b)
 obtain⟨i,m,z⟩:=s b;have d:=b3 m;rw[z,vF];unfold qw;show mQ (vG v c x) v c x _ (cond (bH r != 0) _ (Option.bind (eX (v,br r,())) _));rw[dA b,iO v _ a.len m];simp only[ay,ag];rw[show((0:Int) != 0)=false from rfl,aU d.1];simp only[ay,ag];have j:=hv.ino i d.1;have M:=hv.gD d.1;have A:(aq (I J v.2.1 i)).length<=1048576:=cw (fF d.1) a.c_
 have N:0<=pb v.2.1 (I J v.2.1 i)/\pb v.2.1 (I J v.2.1 i)<100000000:=by
  unfold pb;have h1:=VQ v.2.1 (I J v.2.1 i).1;have P:ld v.2.1 (aq (I J v.2.1 i))<=(aq (I J v.2.1 i)).length:=lr _ _;have Q:=a.c_;cases kindOf (I J v.2.1 i) != 2
  ·simp only[ay];omega
  ·simp only[au];omega
 rw[agc v _ a.len a.c_ A];simp only[ag]
 show mQ (vG v c x) v c x (Option.bind (ov ([kindOf (I J v.2.1 i),eL (I J v.2.1 i),ef (I J v.2.1 i),eZ (I J v.2.1 i),pb v.2.1 (I J v.2.1 i),((bN (I J v.2.1 i)).length:Int)],())) _)
  (cond (aF x==4) _ (cond (aF x==11) _ (cond (aF x==13) _ (cond (aF x==14) (Option.bind (eB (kindOf (I J v.2.1 i),())) fun v4=>cond _ (Option.bind (eB (eL (I J v.2.1 i),())) fun T=>cond _ (cond _ (Option.bind (eB (ef (I J v.2.1 i),())) fun v6=>cond _ (cond _ (Option.bind (eB (eZ (I J v.2.1 i),())) fun U=>cond _ (cond _ (Option.bind (DL (v,bb (I J v.2.1 i),())) _) _) _) _) _) _) _) _) _))))
 have V:1<=kindOf (I J v.2.1 i)/\kindOf (I J v.2.1 i)<=3:=by rcases j.kind with h|h|h<;>omega
 have hm:=j.mode;have W:=j.uid;have X:=j.gid;have B:=e_ (kindOf (I J v.2.1 i)) (by omega);have C:=e_ (eL (I J v.2.1 i)) (by omega);have D:=e_ (ef (I J v.2.1 i)) (by omega);have E:=e_ (eZ (I J v.2.1 i)) (by omega);have F:=e_ (pb v.2.1 (I J v.2.1 i)) (by omega);have G:=e_ ((bN (I J v.2.1 i)).length:Int) (by omega);rw[bO (show aF x≠4 by omega),bO (show aF x≠11 by omega),bO (show aF x≠13 by omega),cf hk];simp only[ay,au];rw[NZ _ (by simp) (by intro H k;simp at k;omega),B.2.1];simp only[ag];rw[bX (by simp;omega),C.2.1];simp only[au,ag];rw[bX (by simp;omega),bX (by simp;omega),D.2.1];simp only[au,ag];rw[bX (by simp;omega),bX (by simp;omega),E.2.1];simp only[au,ag];rw[bX (by simp;omega),bX (by simp;omega),agb v (bb (I J v.2.1 i)) a.len a.c_ (a.hT i d.1)];simp only[au,ag];rw[F.2.1];simp only[au,ag];rw[bX (by simp;omega),bX (by simp;omega)];simp only[au];show mQ (vG v c x) v c x _ (Option.bind (eB (((bN (I J v.2.1 i)).length:Int),())) _);rw[G.2.1];simp only[au,ag];rw[bX (by simp;omega)];refine mQ.is 0 _ rfl ?_ (fun _ _ _ _=>rfl) (N1 _ (by simp) (by intro H k;simp at k;omega));simp[Lib.join_cons,Lib.joinTail,dW]
def ahP(v:ad.D)(c:aM.D)(x:aL.D)(hv:bY v)(hc:dB c=true)(a:hd x)(hk:aF x=14):dy v c x (w9 ((v,c,x,()),())) (j9 (v,c,x,())):=by obtain⟨res,h1,b,d,e,g,h,_⟩:=ahO v c x hv hc a hk;exact⟨res,h1,b,d,e,g,h⟩
def F9{s:aO}(h:g_ s=true):s.length<=8:=by unfold g_ at h;simp only[bs]at h;have:=cL.1 h.2.1;omega
def ahQ{v:ad.D}(hv:bY v){i:Nat}(b:i<v.2.1.length)(h:kindOf (I J v.2.1 i)=2):(aq (I J v.2.1 i)).length<=12/\∀d,d∈aq (I J v.2.1 i)->d.1.length<=8:=by have a:=hv.ino i b;exact⟨(a.dir h).2.2.2,fun d aa=>F9 (a.names d aa).1⟩
def Xp(l:List aQ)(F:Flags):je l F<=l.length:=by unfold je mN;refine cw (lr _ _) ?_;rw[List.length_range];exact bu _
def tF{α:Type}(f:α->Nat)(B:Nat):∀a:List α,(∀i,i∈a->f i<=B)->(a.map f).sum<=a.length*B
 | [],_=>by simp
 |b::r,h=>by
  have h1:=h b (by simp);have d:=tF f B r fun t ht=>h t (by simp[ht])
  rw[dh,eM,b2,de];omega
def ahR{v:ad.D}(hv:bY v)(F:Flags):iN v.2.1 F<=v.2.1.length*64:=by unfold iN;refine cw (tF _ 64 _ fun i a=>?_) (c3 _ (Xp v.2.1 F));unfold mN at a;exact hv.gD (List.mem_range.1 (List.mem_filter.1 a).1)
def ahS(N:List ar.D)(h:N.length<=12)(e:∀d,d∈N->d.1.length<=8)(y:aN.D)(z:aA.D):
  ow aC N (N.length:Int) 0 z [] y=some ((0,Lib.join (N.map fun d=>d.1) [47],()),y,()):=by
 have:=k8 N.length (by omega) (fun m i=>ow m N (N.length:Int) i z ((N.take i.toNat).map fun d=>d.1) y) (fun _=>some ((0,Lib.join (N.map fun d=>d.1) [47],()),y,())) (fun _=>True) (fun m _=>by
  simp only[ow,Bz];rw[bI (bu _),ed,ia];simp only[ay];show Option.bind (joinF (N.map fun d=>d.1) [47]) _=_
  rw[Xm _ _ 8 (fun t ht=>by
   obtain⟨d,aa,rfl⟩:=List.mem_map.1 ht
   exact e d aa) (by simp;omega) (by simp;omega)];rfl) (fun m i a _ g b=>by
  have b:=b trivial;rw[Int.toNat_natCast_add_one,hD a,kg]at b;simp only[ow,Bz,g];rw[bj a,aU a,ed];simp only[au,ag];rw[show I ar N i=N[i] from cC a];rw[bX (by simp;omega)]
  exact b) N.length 0 aC (by omega) (hR (by omega)) trivial
 simpa using this
def ahT(n:aQ)(k:(aq n).length<=12)(b:∀d,d∈aq n->d.1.length<=8)(z:aA.D)(q:Nat)(l:1000<q):
  (fh q).qv [] 0 z n=some ((0,Lib.join ((aq n).map fun d=>d.1) [47],()),()):=by
 have hb:∀i,(Lib.join (((aq n).take i).map fun d=>d.1) [47]).length<=108:=by
  intro i;refine cw (F8 _ _ 8 fun t ht=>?_) ?_
  ·obtain⟨d,aa,rfl⟩:=List.mem_map.1 ht;exact b d (List.mem_of_mem_take aa)
  ·simp;omega
 have key:=mO 2 (fun m i=>(fh m).qv (Lib.join (((aq n).take i).map fun d=>d.1) [47]) (i:Int) z n) (some ((0,Lib.join ((aq n).map fun d=>d.1) [47],()),())) (aq n).length 1 (fun i a B o he=>by
  have p:((aq n)[i]).1.length<=8:=b _ (List.getElem_mem a);have r:=hb i;refine he.jump 2 fun m=>?_
  rw[Xo];unfold DO;show cond (decide ((i:Int)<((aq n).length:Int))) _ _=_;rw[bj a];simp only[au];have e:∀t:aO,t.length<=200->(fh (m+1)).DM t (i:Int) z n=(fh m).qv (t++((aq n)[i]).1) ((i+1:Nat):Int) z n:=fun t ht=>by rw[ahI];unfold Lc;show Option.bind (ax (aq n).length (i:Int)) (fun v1=>cond (room (t.length +((I ar (aq n) v1).1).length)) ((fh m).qv (t++((I ar (aq n) v1).1)) (aj ((i:Int)+1)) z n) none)=_;rw[aU a];simp only[ag];rw[show I ar (aq n) i=(aq n)[i] from cC a,bX (by omega),c0 i (by omega)];rfl
  have g:((aq n).take (i+1)).map (fun d=>d.1)=((aq n).take i).map (fun d=>d.1)++[((aq n)[i]).1]:=by rw[hD a,kg];rfl
  rw[g];by_cases j:i=0
  ·subst j;rw[show decide (((0:Nat):Int)>0)=false from rfl];simp only[ay];rw[e _ (by omega)];simp[Lib.join_nil,Lib.join_one]
  ·rw[bR (show(i:Int)>0 by omega),bX (by rw[jE];omega)];simp only[au];rw[e _ (by rw[bZ,jE];omega),ahG];intro h;have:=congrArg List.length h;simp only[List.length_map,dX,cU]at this
   omega) (bU.done fun m=>by
  rw[Xo];unfold DO;show cond (decide (((aq n).length:Int)<((aq n).length:Int))) _ _=_
  rw[bI (bu _),ia];rfl)
 have:=key q (by omega);simpa[Lib.join_nil]using this
def ahU(v:ad.D)(c:aM.D)(x:aL.D)(hv:bY v)(hc:dB c=true)(l:hd x)(hk:aF x=13\/aF x=20):dy v c x (w8 ((v,c,x,()),())) (j9 (v,c,x,())):=by
 have a:=hv.iu;have ai:=l.path;obtain⟨r,hr,m,n,o⟩:=qQ v c x true a hc (by omega);obtain⟨q,H,p⟩:=yy v c x (by omega) (by unfold lW;rw[bO (show aF x≠14 by omega),bO (show aF x≠17 by omega)];rfl) a r (by rw[show lh x=true by unfold lh;rw[cY (show aF x≠11 by omega),cY (show aF x≠14 by omega)];rfl];exact m);show dy v c x (By (ow aC) (v,c,x,())) _;rw[p];unfold By;by_cases d:bH r=0
 case neg=>rw[n d,yz v c x q r d];simp only[ag];rw[cY d];exact dy.is (bH r) [] rfl rfl (by simp) (.inr rfl) (hr.1.rg)
 obtain⟨i,h,s⟩:=o d;have e:=b3 h;rw[s,vF];unfold qw;show dy v c x _ (cond (bH r != 0) _ (Option.bind (eX (v,br r,())) _));rw[dA d,iO v _ a.len h];simp only[ay,ag];rw[show((0:Int) != 0)=false from rfl,aU e.1];simp only[ay,ag]
 show dy v c x (cond (kindOf (I J v.2.1 i) != 2) _ (Option.bind (na (c,I J v.2.1 i,4,())) fun v6=>cond (!v6.1) _ (cond (aF x==20) (Option.bind (wT (v,bb (I J v.2.1 i),())) fun j=>Option.bind (ov ([eK (I J v.2.1 i),eo (I J v.2.1 i),j.1,j.2.1],())) _) (ow aC (aq (I J v.2.1 i)) ((aq (I J v.2.1 i)).length:Int) 0 (0,([]:aO),()) [] (v,c,x,())))))
  (cond (aF x==4) _ (cond (aF x==11) _ (cond (aF x==13) (cond (!(kindOf (I J v.2.1 i)==2)) _ (Option.bind (ju (c,I J v.2.1 i,4,())) fun u=>cond (!u.1) _ ((fh q).qv [] 0 qS (I J v.2.1 i)))) (cond (aF x==14) _ (cond (aF x==17) _ (cond (!(kindOf (I J v.2.1 i)==2)) _ (Option.bind (ju (c,I J v.2.1 i,4,())) fun w=>cond (!w.1) _ (Option.bind (xn (v,bb (I J v.2.1 i),())) fun K=>Option.bind (eB (eK (I J v.2.1 i),())) fun L=>cond _ (Option.bind (eB (eo (I J v.2.1 i),())) _) _))))))))
 rw[bO (show aF x≠4 by omega),bO (show aF x≠11 by omega),bO (show aF x≠14 by omega),bO (show aF x≠17 by omega)];simp only[ay];by_cases aa:kindOf (I J v.2.1 i)=2
 case neg=>rw[cY aa,bO aa];refine dy.is 20 [] rfl ?_;cases aF x==13<;>rfl
 rw[dA aa,cf aa,nH c _ 4 hc,yc c _ 4 hc];simp only[ay,ag,bJ]
 cases may c (I J v.2.1 i) 4 with
 |false=>refine dy.is 13 [] rfl ?_;cases aF x==13<;>rfl
 |true=>
 simp only[ay,bJ];have y:=hv.ino i e.1;have b:=ahQ hv e.1 aa;rcases hk with hk|hk
 ·rw[cf hk,bO (show aF x≠20 by omega)];simp only[ay,au];rw[ahS _ b.1 b.2,ahT _ b.1 b.2 _ q (by omega)];exact dy.is 0 _ rfl rfl (ahM _ b.1 b.2)
 ·rw[cf hk,bO (show aF x≠13 by omega)];simp only[ay,au];have M:=hv.len;have N:=hv.bytes;obtain⟨out,z,k⟩:=V7 v (bb (I J v.2.1 i)) a.len a.c_ (by omega);obtain⟨A,B⟩:=V8 hv.hT hv.hU z;rw[A,B]at k;have P:je v.2.1 (dH v.2.1 (bb (I J v.2.1 i)))<=v.2.1.length:=Xp _ _;have Q:iN v.2.1 (dH v.2.1 (bb (I J v.2.1 i)))<=v.2.1.length*64:=ahR hv _;have T:=y.dir aa;have C:=e_ (eK (I J v.2.1 i)) (by omega);have D:=e_ (eo (I J v.2.1 i)) (by omega);have E:=e_ (iN v.2.1 (dH v.2.1 (bb (I J v.2.1 i))):Int) (by omega);have F:=e_ (je v.2.1 (dH v.2.1 (bb (I J v.2.1 i))):Int) (by omega);rw[k,V5 v _ a.len a.c_ (by omega)];simp only[ag];rw[NZ _ (by simp) (by intro G g;simp at g;omega),C.2.1];simp only[ag];rw[bX (by simp;omega),D.2.1];simp only[au,ag];rw[bX (by simp;omega),bX (by simp;omega),E.2.1];simp only[au,ag];rw[bX (by simp;omega),bX (by simp;omega),F.2.1];simp only[au,ag];rw[bX (by simp;omega)];refine dy.is 0 _ rfl ?_ (N1 _ (by simp) (by intro G g;simp at g;omega));simp[Lib.join_cons,Lib.joinTail,dW]
def ahV(n:aQ)(x:aL.D)(a:Nat)(g:(a:Int)=bM x)(s:a<=1000000)(b:Nat)(hb:(b:Int)=dV x)(u:b<=1000000)(hl:(bN n).length<=64)(z:aA.D)(q:Nat)(v:1000<q):
  (fh q).s_ (a:Int) x z n []=some ((0,((bN n).drop a).take b,()),()):=by
 have key:∀(k m j:Nat),k<m->min (bN n).length (a+b)-j<=k->a<=j->j<=a+64/\j<=a+b->(fh m).s_ (j:Int) x z n (eg (((bN n).drop a).take (j-a)))=some ((0,((bN n).drop a).take b,()),()):=by
  intro k
  induction k with
  |zero=>
   intro m j hm h1 h i;obtain⟨m,rfl⟩:∃p,m=p+1:=⟨m-1,by omega⟩
   rw[Xn];unfold DN;show cond (decide ((j:Int)<((bN n).length:Int))) (cond (decide ((j:Int)<aj (bM x+dV x))) _ _) _=_;rw[<-g,<-hb,cm (by omega) (by omega)]
   have e:∀w,w=some ((0,ek (eg (((bN n).drop a).take (j-a))),()),())->w=some (((0:Int),((bN n).drop a).take b,()),()):=fun w o=>by
    rw[o,Xc];have:((bN n).drop a).take (j-a)=((bN n).drop a).take b:=by rw[List.take_eq_take_iff,fS];omega
    rw[this]
   by_cases d:j<(bN n).length
   ·rw[bj d,bW (show ¬(j:Int)<(a:Int) +(b:Int) by omega)];exact e _ rfl
   ·rw[bI (by omega)];exact e _ rfl
  |succ k l=>
   intro m j hm h1 h i;by_cases r:min (bN n).length (a+b)-j<=k
   ·exact l m j (by omega) r h i
   obtain⟨m,rfl⟩:∃p,m=p+1:=⟨m-1,by omega⟩
   rw[Xn];unfold DN;show cond (decide ((j:Int)<((bN n).length:Int))) (cond (decide ((j:Int)<aj (bM x+dV x))) (Option.bind (ax (bN n).length (j:Int)) fun v1=>cond (room ((eg (((bN n).drop a).take (j-a))).length+[(((bN n).getD v1 0).toNat:Int)].length)) ((fh m).s_ (aj ((j:Int)+1)) x z n (eg (((bN n).drop a).take (j-a))++[(((bN n).getD v1 0).toNat:Int)])) none) _) _=_;have d:j<(bN n).length:=by omega
   rw[<-g,<-hb,cm (a:=(a:Int) +(b:Int)) (by omega) (by omega),bj d,bR (show(j:Int)<(a:Int) +(b:Int) by omega),aU d,c0 j (by omega)];simp only[au,ag];rw[bX (by rw[F5,dX,fS,jE];omega)];simp only[au];have:=l m (j+1) (by omega) (by omega) (by omega) (by omega)
   rw[show eg (((bN n).drop a).take (j-a))++[(((bN n).getD j 0).toNat:Int)]=eg (((bN n).drop a).take (j+1-a)) by
    rw[show j+1-a=(j-a)+1 by omega,hD (by rw[fS];omega)];unfold eg;rw[kg,List.getElem_drop,List.getD_eq_getElem?_getD,List.getElem?_eq_getElem d]
    simp[show a +(j-a)=j by omega]]
   exact this
 have:=key 64 q a (by omega) (by omega) (by omega) (by omega);rw[Nat.sub_self]at this;exact this
def ahW(v:ad.D)(c:aM.D)(x:aL.D)(hv:bY v)(hc:dB c=true)(j:hd x)(hk:aF x=4):dy v c x (Bq ((v,c,x,()),())) (j9 (v,c,x,())):=by
 have k:=hv.iu;have ai:=j.path;obtain⟨r,hr,p,s,u⟩:=Xe v c x 4 k hc (by omega);obtain⟨q,G,w⟩:=yy v c x (by omega) (by unfold lW;rw[bO (show aF x≠14 by omega),bO (show aF x≠17 by omega)];rfl) k r (by rw[show lh x=true by unfold lh;rw[cY (show aF x≠11 by omega),cY (show aF x≠14 by omega)];rfl];exact p);show dy v c x (Jo (v,c,x,())) _;rw[w];unfold Jo;by_cases g:bH r=0
 case neg=>rw[s g,yz v c x q r g];simp only[ag];rw[cY g];exact dy.is (bH r) [] rfl rfl (by simp) (.inr rfl) (hr.1.rg)
 obtain⟨i,m,y⟩:=u g;have n:=b3 m;rw[y,vF];unfold qw;show dy v c x _ (cond (bH r != 0) _ (Option.bind (eX (v,br r,())) _));rw[dA g,iO v _ k.len m];simp only[ay,ag];show dy v c x _ (cond (aF x==4) (cond (kindOf (I J v.2.1 i)==2) _ (Option.bind (ju (c,I J v.2.1 i,4,())) fun z=>cond (!z.1) _ (cond (decide (bM x<0)) _ (cond (decide (dV x<0)) _ ((fh q).s_ (bM x) x qS (I J v.2.1 i) []))))) _);rw[cf hk,nH c _ 4 hc];simp only[au,ag]
 cases kindOf (I J v.2.1 i)==2 with
 |true=>exact dy.is 21 [] rfl rfl
 |false=>
 cases may c (I J v.2.1 i) 4 with
 |false=>exact dy.is 13 [] rfl rfl
 |true=>
 simp only[ay,bJ,ag];rw[show((0:Int) != 0)=false from rfl];simp only[ay];show dy v c x (cond (decide (bM x<0)) _ (cond (decide (dV x<0)) _ _)) _;by_cases hn:bM x<0
 ·rw[bR hn];exact dy.is 22 [] rfl rfl
 by_cases hm:dV x<0
 ·rw[bW hn,bR hm];exact dy.is 22 [] rfl rfl
 rw[bW hn,bW hm];simp only[ay];have A:=hv.gD n.1;have H:=j.n;have K:=j.m;obtain⟨a,o⟩:∃a:Nat,(a:Int)=bM x:=⟨(bM x).toNat,by omega⟩
 obtain⟨b,hb⟩:∃b:Nat,(b:Int)=dV x:=⟨(dV x).toNat,by omega⟩
 rw[<-o,ahV _ x a o (by omega) b hb (by omega) A qS q (by omega),aU n.1];simp only[ag];show dy v c x (Option.bind (cZ (bN (I J v.2.1 i)).length (iW (bM x) ((bN (I J v.2.1 i)).length:Int)) ((bN (I J v.2.1 i)).length:Int)) fun e=>Option.bind (cZ ((part (bN (I J v.2.1 i)) e.1 (e.2-e.1)).length) 0 (iW (dV x) (((part (bN (I J v.2.1 i)) e.1 (e.2-e.1)).length:Nat):Int))) fun l=>some ((0,part (part (bN (I J v.2.1 i)) e.1 (e.2-e.1)) l.1 (l.2-l.1),()),(v,c,x,()),())) _;generalize bN (I J v.2.1 i)=d at *;have B:iW (bM x) (d.length:Int)=((min a d.length:Nat):Int):=by unfold iW;split<;>omega
 rw[B,iC (by omega) (by omega)];simp only[ag]
 have C:part d (min a d.length) (d.length-min a d.length)=d.drop a:=by
  unfold part;rw[List.take_of_length_le (by rw[fS];omega)];by_cases h:a<=d.length
  ·rw[Nat.min_eq_left h]
  ·rw[List.drop_eq_nil_of_le (by omega),List.drop_eq_nil_of_le (by omega)]
 rw[C];have D:iW (dV x) ((d.drop a).length:Int)=((min b (d.drop a).length:Nat):Int):=by unfold iW;split<;>omega
 rw[D];have E:cZ (d.drop a).length 0 ((min b (d.drop a).length:Nat):Int)=some (0,min b (d.drop a).length):=iC (lo:=0) (mc _) (Nat.min_le_right _ _);rw[E];simp only[ag,mb];rw[nK];refine dy.is 0 _ rfl ?_ (by rw[dX,fS];omega);have F:(d.drop a).take b=(d.drop a).take (min b (d.drop a).length):=List.take_eq_take_iff.2 (by omega);rw[F]
def N2(v:ad.D)(c:aM.D)(x:aL.D)(a:Option (aA.D×aN.D×Unit))(b:Option (ad.D×aA.D×Unit))(Q:ad.D->Prop):Prop:=
 ∃(k:Int) (t:aO) (w:ad.D),a=some ((k,t,()),(w,c,x,()),())/\b=some (cond (k==0) w v,(k,t,()),())/\(k=0->Q w)/\t.length<=400/\(k=0\/t=[])/\0<=k/\k<=200
def bl.up{v:ad.D}{c:aM.D}{x:aL.D}{a:Option (Int×aN.D×Unit)}{b:Option (ad.D×aA.D×Unit)}{Q Q':ad.D->Prop}(h:bl v c x a b Q)(e:∀w,Q w->Q' w):
  N2 v c x (a.bind fun v1=>(ea (v1.1,())).bind fun d=>some (d.1,v1.2.1,())) (b.bind fun d=>some (d.1,d.2.1,())) Q':=by
 obtain⟨k,w,rfl,rfl,g,hr⟩:=h;exact⟨k,[],w,rfl,rfl,fun i=>e w (g i),by simp,.inr rfl,hr⟩
def dy.up{v:ad.D}{c:aM.D}{x:aL.D}{a:Option (aA.D×aN.D×Unit)}{b:Option (aA.D×Unit)}{Q':ad.D->Prop}(h:dy v c x a b)(d:Q' v):
  N2 v c x (a.bind fun v1=>some (v1.1,v1.2.1,())) (b.bind fun e=>some (v,e.1,())) Q':=by
 obtain⟨res,g,i,hl,j,hr⟩:=h;obtain⟨k,t,⟨⟩⟩:=res;subst g i;exact⟨k,t,v,rfl,by cases k==0<;>rfl,fun _=>d,hl,j,hr⟩
def pj(v:ad.D)(c:aM.D)(x:aL.D)(w:ad.D):Prop:=
 ((aF x=1\/aF x=3\/aF x=10)/\Made v c x w)\/((aF x=2\/aF x=8)/\yt v c x w)\/(aF x=9/\F2 v c x w)\/(aF x=12/\vD v c x w)\/((aF x=5\/aF x=6\/aF x=7)/\vE v c x w) ∨
  (aF x=15/\yw v c x w)\/(aF x=16/\yx v c x w)\/(aF x=19/\F7 v c x w)\/((aF x=4\/aF x=11\/aF x=13\/aF x=14\/aF x=17\/aF x=18\/aF x=20)/\w=v)
noncomputable def N3(v:ad.D)(c:aM.D)(x:aL.D):Option (ad.D×aA.D×Unit):=
 if aF x=1\/aF x=3\/aF x=10 then(sZ (v,c,x,())).bind fun a=>some (a.1,a.2.1,())
 else if aF x=2\/aF x=8 then(xJ (v,c,x,())).bind fun a=>some (a.1,a.2.1,())
 else if aF x=9 then(DA (v,c,x,())).bind fun a=>some (a.1,a.2.1,())
 else if aF x=12 then(DF (v,c,x,())).bind fun a=>some (a.1,a.2.1,())
 else if aF x=5\/aF x=6\/aF x=7 then(u' (v,c,x,())).bind fun a=>some (a.1,a.2.1,())
 else if aF x=15\/aF x=16\/aF x=19 then(qu (v,c,x,())).bind fun a=>some (a.1,a.2.1,())
 else(j9 (v,c,x,())).bind fun a=>some (v,a.1,())
def ahX(v:ad.D)(c:aM.D)(x:aL.D)(a:hd x)(b:aF x<=20):s' (v,c,x,())=N3 v c x:=by
 obtain⟨q,d,_⟩:=iK 4;show va (DP aC) v c x=_;unfold va;rw[d,vt,qL.2 a];simp only[ag,bJ,ay];rw[bW (show ¬x.1>20 from Int.not_lt.2 b)];simp only[ay];have hk:=a.cX;obtain⟨cX,rest⟩:=x;have:aF (cX,rest)=1\/aF (cX,rest)=2\/aF (cX,rest)=3\/aF (cX,rest)=4\/aF (cX,rest)=5\/aF (cX,rest)=6\/aF (cX,rest)=7\/aF (cX,rest)=8\/aF (cX,rest)=9\/aF (cX,rest)=10\/aF (cX,rest)=11\/aF (cX,rest)=12\/aF (cX,rest)=13\/aF (cX,rest)=14\/aF (cX,rest)=15\/aF (cX,rest)=16\/aF (cX,rest)=17\/aF (cX,rest)=18\/aF (cX,rest)=19\/aF (cX,rest)=20:=by omega
 clear a hk b;unfold N3;rcases this with h|h|h|h|h|h|h|h|h|h|h|h|h|h|h|h|h|h|h|h<;>(replace h:cX=_:=h;subst h;rfl)
noncomputable def N4(v:ad.D)(c:aM.D)(x:aL.D):Option (aA.D×aN.D×Unit):=
 if aF x=1\/aF x=3\/aF x=10 then(w3 ((v,c,x,()),())).bind fun v1=>(ea (v1.1,())).bind fun a=>some (a.1,v1.2.1,())
 else if aF x=2\/aF x=8 then(Bl ((v,c,x,()),())).bind fun v1=>(ea (v1.1,())).bind fun a=>some (a.1,v1.2.1,())
 else if aF x=9 then(Bm ((v,c,x,()),())).bind fun v1=>(ea (v1.1,())).bind fun a=>some (a.1,v1.2.1,())
 else if aF x=12 then(Bp ((v,c,x,()),())).bind fun v1=>(ea (v1.1,())).bind fun a=>some (a.1,v1.2.1,())
 else if aF x=5\/aF x=6\/aF x=7 then(Bt ((v,c,x,()),())).bind fun v1=>(ea (v1.1,())).bind fun a=>some (a.1,v1.2.1,())
 else if aF x=15 then(BF ((v,c,x,()),())).bind fun v1=>(ea (v1.1,())).bind fun a=>some (a.1,v1.2.1,())
 else if aF x=16 then(BI ((v,c,x,()),())).bind fun v1=>(ea (v1.1,())).bind fun a=>some (a.1,v1.2.1,())
 else if aF x=19 then(BL ((v,c,x,()),())).bind fun v1=>(ea (v1.1,())).bind fun a=>some (a.1,v1.2.1,())
 else if aF x=4 then(Bq ((v,c,x,()),())).bind fun v1=>some (v1.1,v1.2.1,())
 else if aF x=11 then(Bu ((v,c,x,()),())).bind fun v1=>some (v1.1,v1.2.1,())
 else if aF x=13\/aF x=20 then(w8 ((v,c,x,()),())).bind fun v1=>some (v1.1,v1.2.1,())
 else if aF x=14 then(w9 ((v,c,x,()),())).bind fun v1=>some (v1.1,v1.2.1,())
 else if aF x=17 then(Option.bind (BJ ((v,c,x,()),())) fun v6=>Option.bind (ea (v6.1,())) fun b=>some (b.1,v6.2.1,()))
 else(Option.bind (p4 (v,())) fun d=>Option.bind (ov ([(v.2.1.length:Int),d.1],())) fun e=>some ((0,e.1,()),(v,c,x,()),()))
def ahY(v:ad.D)(c:aM.D)(x:aL.D)(a:hd x)(b:aF x<=20):BN ((v,c,x,()),())=N4 v c x:=by
 obtain⟨q,d,_⟩:=iK 8;show BM (JD aC) (v,c,x,())=_;unfold BM;rw[d];have hk:=a.cX;obtain⟨cX,rest⟩:=x;have:aF (cX,rest)=1\/aF (cX,rest)=2\/aF (cX,rest)=3\/aF (cX,rest)=4\/aF (cX,rest)=5\/aF (cX,rest)=6\/aF (cX,rest)=7\/aF (cX,rest)=8\/aF (cX,rest)=9\/aF (cX,rest)=10\/aF (cX,rest)=11\/aF (cX,rest)=12\/aF (cX,rest)=13\/aF (cX,rest)=14\/aF (cX,rest)=15\/aF (cX,rest)=16\/aF (cX,rest)=17\/aF (cX,rest)=18\/aF (cX,rest)=19\/aF (cX,rest)=20:=by omega
 clear a hk b;unfold N4;rcases this with h|h|h|h|h|h|h|h|h|h|h|h|h|h|h|h|h|h|h|h<;>(replace h:cX=_:=h;subst h;rfl)
def Xq(a:Option (aA.D×aN.D×Unit)):(a.bind fun v1=>some (v1.1,v1.2.1,()))=a:=by
 cases a with
 |none=>rfl
 |some r=>rfl
def ahZ(v:ad.D)(c:aM.D)(x:aL.D)(hv:bY v)(hc:dB c=true)(a:hd x)(r:aF x<=20):N2 v c x (BN ((v,c,x,()),())) (s' (v,c,x,())) (pj v c x):=by
 rw[ahY v c x a r,ahX v c x a r];have hk:=a.cX;unfold N4 N3;by_cases h1:aF x=1\/aF x=3\/aF x=10
 ·rw[bg h1,bg h1];exact(agQ v c x hv hc a).up fun w h=>.inl ⟨h1,h⟩
 rw[bd h1,bd h1];by_cases b:aF x=2\/aF x=8
 ·rw[bg b,bg b];exact(agY v c x hv hc a b).up fun w h=>.inr (.inl ⟨b,h⟩)
 rw[bd b,bd b];by_cases g:aF x=9
 ·rw[bg g,bg g];exact(ag0 v c x hv hc a).up fun w h=>.inr (.inr (.inl ⟨g,h⟩))
 rw[bd g,bd g];by_cases i:aF x=12
 ·rw[bg i,bg i];exact(ahj v c x hv hc a).up fun w h=>.inr (.inr (.inr (.inl ⟨i,h⟩)))
 rw[bd i,bd i];by_cases d:aF x=5\/aF x=6\/aF x=7
 ·rw[bg d,bg d];exact(aht v c x hv hc a d).up fun w h=>.inr (.inr (.inr (.inr (.inl ⟨d,h⟩))))
 rw[bd d,bd d];by_cases j:aF x=15
 ·rw[bg j,bg (.inl j)];exact(ahy v c x hv hc a j).up fun w h=>.inr (.inr (.inr (.inr (.inr (.inl ⟨j,h⟩)))))
 rw[bd j];by_cases k:aF x=16
 ·rw[bg k,bg (.inr (.inl k))];exact(ahz v c x hv hc a k).up fun w h=>.inr (.inr (.inr (.inr (.inr (.inr (.inl ⟨k,h⟩))))))
 rw[bd k];by_cases l:aF x=19
 ·rw[bg l,bg (.inr (.inr l))];exact(ahB v c x hv hc a l).up fun w h=>.inr (.inr (.inr (.inr (.inr (.inr (.inr (.inl ⟨l,h⟩)))))))
 rw[bd l,bd (show ¬(aF x=15\/aF x=16\/aF x=19) by omega)];have e:pj v c x v:=.inr (.inr (.inr (.inr (.inr (.inr (.inr (.inr ⟨by omega,rfl⟩)))))));by_cases m:aF x=4
 ·rw[bg m];exact(ahW v c x hv hc a m).up e
 rw[bd m];by_cases n:aF x=11
 ·rw[bg n];exact(ahK v c x hv hc a n).up e
 rw[bd n];by_cases o:aF x=13\/aF x=20
 ·rw[bg o];exact(ahU v c x hv hc a o).up e
 rw[bd o];by_cases p:aF x=14
 ·rw[bg p];exact(ahP v c x hv hc a p).up e
 rw[bd p];by_cases q:aF x=17
 ·rw[bg q];have:=(ahL v c x hv hc a q).up (Q':=pj v c x) e;rwa[Xq]at this
 rw[bd q];have:=(ahN v c x hv (by omega)).up (Q':=pj v c x) e;rwa[Xq]at this
def bY.ah0{v:ad.D}(h:bY v):nq (v,())=some (v,()):=tw v h.iu.len fun i a=>cw (fF a) h.iu.c_
def bY.Xr{v:ad.D}(h:bY v):oi (v,())=some (v,()):=af_ v h.iu.len fun i a=>cw (fF a) h.iu.c_
structure vH(v:ad.D)(c:aM.D)(x:aL.D)(w:ad.D)(k:Int)(t:aO):Prop where
 bad:gC v=false->w=(0,[],())/\k=22/\t=[]
 Xs:gC v=true->dB c=false->w=v/\k=22/\t=[]
 call:gC v=true->dB c=true->(eJ x=false\/20<aF x)->w=v/\k=22/\t=[]
 no:gC v=true->k≠0->w=v
 len:t.length<=400
 rg:0<=k/\k<=200
 data:k=0\/t=[]
 done:gC v=true->dB c=true->eJ x=true->aF x<=20->k=0->pj v c x w
def ah1(v:ad.D)(c:aM.D)(x:aL.D)(d:gC v=true)(hc:dB c=true):∃w k t,s' (v,c,x,())=some (w,(k,t,()),())/\w_ (v,c,x,())=some (w,(k,t,()),())/\vH v c x w k t:=by
 have g:=tx.1 d;show ∃w k t,_/\JE v c x=_/\_
 unfold JE;rw[FI,x7,g.Xr];simp only[ag];rw[hc];simp only[bJ,ay]
 have bad:eJ x=false\/20<aF x->s' (v,c,x,())=some (v,(22,[],()),()):=by
  intro h;show va (DP aC) v c x=_;unfold va;rw[vt];simp only[ag]
  cases b:eJ x with
  |false=>rfl
  |true=>
   rcases h with h|h
   ·rw[b]at h;cases h
   ·simp only[bJ,ay];rw[bR (show x.1>20 from h)];rfl
 cases b:eJ x with
 |false=>rw[bad (.inl b)];exact⟨v,22,[],rfl,rfl,fun h=>by simp[d]at h,fun _ h=>by simp[hc]at h,fun _ _ _=>⟨rfl,rfl,rfl⟩,fun _ _=>rfl,by simp,by decide,.inr rfl,fun _ _ h=>by simp[b]at h⟩
 |true=>
 have i:=qL.1 b;simp only[bJ,ay];by_cases e:aF x<=20
 case neg=>rw[bad (.inr (by omega)),bR (show x.1>20 from Int.not_le.1 e)];exact⟨v,22,[],rfl,rfl,fun h=>by simp[d]at h,fun _ h=>by simp[hc]at h,fun _ _ _=>⟨rfl,rfl,rfl⟩,fun _ _=>rfl,by simp,by decide,.inr rfl,fun _ _ _ h=>absurd h e⟩
 rw[bW (show ¬x.1>20 from Int.not_lt.2 e)];simp only[ay];obtain⟨k,t,w,h1,j,l,m,n,o⟩:=ahZ v c x g hc i e;rw[h1,j];simp only[ag];refine⟨cond (k==0) w v,k,t,rfl,?_,fun h=>by simp[d]at h,fun _ h=>by simp[hc]at h,fun _ _ h=>?_,fun _ h=>by rw[bO h];rfl,m,o,n,fun _ _ _ _ a=>by rw[cf a];exact l a⟩
 ·by_cases a:k=0
  ·rw[dA a,cf a];rfl
  ·rw[cY a,bO a];rfl
 ·rcases h with h|h
  ·simp[b]at h
  ·omega
structure fr(n:Nat)(x:aQ):Prop where
 gD:(bN x).length<=200
 c_:(aq x).length<=n
 each:∀d,d∈aq x->d.1.length<=8
structure gE(n:Nat)(l:List aQ):Prop where
 len:l.length<=n
 po:∀x,x∈l->fr n x
def fr.mono{n m:Nat}{x:aQ}(h:fr n x)(hm:n<=m):fr m x:=⟨h.gD,cw h.c_ hm,h.each⟩
def gE.mono{n m:Nat}{l:List aQ}(h:gE n l)(hm:n<=m):gE m l:=⟨cw h.len hm,fun x a=>(h.po x a).mono hm⟩
def gE.get{n:Nat}{l:List aQ}(h:gE n l){i:Nat}(a:i<l.length):fr n (I J l i):=h.po _ (cI a)
def gE.set{n:Nat}{l:List aQ}(h:gE n l)(i:Nat){y:aQ}(b:fr n y):gE n (l.set i y):=⟨by rw[bL];exact h.len,fun x a=>by
 rcases List.mem_or_eq_of_mem_set a with a|rfl
 ·exact h.po x a
 ·exact b⟩
def gE.go{n:Nat}{l:List aQ}(h:gE n l)(id:Int):gE n (goN l id):=by
 unfold goN;cases decide (ch l id=0)
 ·exact h
 ·exact⟨cw (lr _ _) h.len,fun x a=>h.po x (List.mem_filter.1 a).1⟩
def gE.app{n:Nat}{l:List aQ}(h:gE n l){y:aQ}(b:fr n y):gE (n+1) (l++[y]):=⟨by simp only[bZ,jE];have:=h.len;omega,fun x a=>by
 rcases List.mem_append.1 a with a|a
 ·exact(h.po x a).mono (by omega)
 ·rw[List.mem_singleton.1 a];exact b.mono (by omega)⟩
def fr.ins{n:Nat}{x:aQ}(h:fr n x){s:aO}(hs:s.length<=8)(id:Int):fr (n+1) (b4 x (ins (aq x) s id)):=⟨h.gD,by
 show(i_.ins (aq x) s id).length<=_
 rw[vB];have:=h.c_;omega,fun d aa=>by
 rcases pe.1 aa with aa|rfl
 ·exact h.each d aa
 ·exact hs⟩
def fr.un{n:Nat}{x:aQ}(h:fr n x)(s:aO):fr n (b4 x (b_ (aq x) s)):=⟨h.gD,cw (tA _ _) h.c_,fun d aa=>h.each d (qM aa)⟩
def Xt{v:ad.D}{n:Nat}(h:gE n v.2.1):U.cost ad v<=n+n*(200+9*n):=by
 rw[Nn]
 have h1:=tF o9 (200+9*n) v.2.1 fun x a=>by
  have ai:=h.po x a;have b:=tF (fun d:ar.D=>U.cost ar d) 8 (aq x) fun d aa=>by rw[V'];exact ai.each d aa
  unfold o9;rw[FG,jy];have:=ai.gD;have:=ai.c_;omega
 have e:v.2.1.length*(200+9*n)<=n*(200+9*n):=c3 _ h.len;have:=h.len;omega
def bY.sz{v:ad.D}(h:bY v):gE 24 v.2.1:=by
 refine⟨h.len.2,fun x e=>?_⟩;obtain⟨i,b,rfl⟩:=eC e;have a:=h.ino i b;refine⟨by have:=h.gD b;omega,?_,fun d aa=>F9 (a.names d aa).1⟩;by_cases hk:kindOf (I J v.2.1 i)=2
 ·have:=(a.dir hk).2.2.2;omega
 ·rw[(a.plain hk).2.2];simp
def N5{l:List aQ}{r:aV.D}(h:gM l r)(hn:nameOf r≠[])(hc:bH r=0\/bH r=2):(nameOf r).length<=8:=by
 rcases hc with hc|hc
 ·exact F9 (h.named hc hn).2.1
 ·exact F9 (h.new hc hn).2.1
def Xu{v:ad.D}{n:Nat}(h:gE n v.2.1){i:Nat}(a:i<v.2.1.length)(s:aO):gE n (jQ v i s).2.1:=(h.set i ((h.get a).un s)).go _
def ah2{l:List aQ}{n:Nat}(h:gE n l){ir it:Nat}(hr:ir<l.length)(ht:it<l.length)(ck:aO){dO:aO}(hs:dO.length<=8)(id:Int):gE (n+1) (en l ir ck it dO id):=by have h1:gE n (dx l ir ck):=h.set ir ((h.get hr).un ck);refine(h1.mono (by omega)).set it (fr.ins (n:=n) (h1.get ?_) hs id);unfold dx;rw[bL];exact ht
def ah3(s:aO)(a:Nat)(d:aO)(hs:s.length<=64)(h:a+d.length<=64):(ka s a d).length<=200:=by unfold ka;rw[bZ,bZ,nN,fS];omega
def pj.sz{v:ad.D}{c:aM.D}{x:aL.D}{w:ad.D}(hv:bY v)(g:hd x)(h:pj v c x w):gE 30 w.2.1:=by
 have a:=hv.sz;rcases h with⟨_,h⟩|⟨_,h⟩|⟨_,h⟩|⟨_,h⟩|⟨_,h⟩|⟨_,h⟩|⟨_,h⟩|⟨_,h⟩|⟨_,h⟩
 ·obtain⟨r,i,hr,hc,hn,b,_,_,_,_,_,rfl,_⟩:=h.out;have k:=(b3 b).1;have:=g.nM;have h1:gE 25 (v.2.1.set i (b4 (I J v.2.1 i) (ins (aq (I J v.2.1 i)) (nameOf r) v.1))):=(a.mono (by omega)).set i ((a.get k).ins (N5 hr hn (.inr hc)) _);refine(h1.app (y:=ga v c x (I J v.2.1 i)) ⟨?_,by simp[ga,aq],by simp[ga,aq]⟩).mono (by omega);show(if aF x=10 then hV x else []).length<=200;split
  ·omega
  ·simp
 ·obtain⟨r,i,j,_,_,_,b,_,_,_,_,_,_,rfl⟩:=h.out;exact(Xu a (b3 b).1 _).mono (by omega)
 ·obtain⟨r,t,i,j,_,_,_,_,ht,d,e,b,_,_,rfl,_⟩:=h.out;exact((a.mono (by omega)).set i ((a.get (b3 b).1).ins (N5 ht e (.inr d)) _)).mono (by omega)
 ·obtain⟨r,t,j,hr,hc,hn,n,ht,e,d,_,h⟩:=h.out;rcases h with⟨_,rfl⟩|⟨_,_,l,ir,it,ai,rfl,_,h⟩
  ·exact a.mono (by omega)
  ·have hl:gE 24 l:=by
    rcases h with⟨_,rfl,_⟩|⟨i2,eA,m,_,_,_,_,_,rfl⟩
    ·exact a
    ·exact Xu a (b3 m).1 _
   exact(ah2 hl (b3 ai.hr).1 (b3 ai.ht).1 _ (N5 ht e d) _).mono (by omega)
 ·obtain⟨r,i,hr,hc,b,_,_,_,o,_,h⟩:=h.out;rcases h with⟨_,_,rfl⟩|⟨_,hle,rfl,_⟩
  ·exact a.mono (by omega)
  ·have ai:=a.get (b3 b).1;refine(a.mono (by omega)).set i ⟨?_,by have:=ai.c_;exact cw this (by omega),ai.each⟩;show(hW x (I J v.2.1 i)).length<=200;have aa:=hv.gD (b3 b).1;unfold hW;split
   ·rename_i p;rw[nN];have:eb x (I J v.2.1 i)=bM x:=by unfold eb;rw[bd (by omega)]
    omega
   ·exact ah3 _ _ _ aa (by omega)
 ·obtain⟨_,_,r,i,_,_,b,_,_,rfl⟩:=h.out;have ai:=a.get (b3 b).1;exact(a.mono (by omega)).set i ⟨ai.gD,cw ai.c_ (by omega),ai.each⟩
 ·obtain⟨_,_,r,i,_,_,b,rfl⟩:=h.out;have ai:=a.get (b3 b).1;exact(a.mono (by omega)).set i ⟨ai.gD,cw ai.c_ (by omega),ai.each⟩
 ·obtain⟨_,_,_,r,i,_,_,b,_,rfl,_⟩:=h.out;have ai:=a.get (b3 b).1;exact(a.mono (by omega)).set i ⟨ai.gD,cw ai.c_ (by omega),ai.each⟩
 ·rw[h];exact a.mono (by omega)
def vH.cost{v:ad.D}{c:aM.D}{x:aL.D}{w:ad.D}{k:Int}{t:aO}(h:vH v c x w k t)(hv:U.cost ad v<=1048576):U.cost ad w<=1048576:=by
 have b:w=v->U.cost ad w<=1048576:=fun e=>by rw[e];exact hv
 cases a:gC v with
 |false=>rw[(h.bad a).1,Nn];simp
 |true=>
 cases hc:dB c with
 |false=>exact b (h.Xs a hc).1
 |true=>
 cases d:eJ x with
 |false=>exact b (h.call a hc (.inl d)).1
 |true=>
 by_cases g:20<aF x
 ·exact b (h.call a hc (.inr g)).1
 by_cases hk:k=0
 ·have:=Xt ((h.done a hc d (by omega) hk).sz (tx.1 a) (qL.1 d));omega
 ·exact b (h.no a hk)
structure ah4(n:Int)(l:List aQ):Prop where
 next:2<=n/\n<=100000
 len:l.length<=24
 jB:l.Pairwise fun a b=>bb a<bb b
 root:∃x,x∈l/\bb x=1/\kindOf x=2
 ids:∀x,x∈l->1<=bb x/\bb x<=n-1
 ino:∀x,x∈l->j' l x
 reach:∀x,x∈l->bb x≠1->dI l 1 (bb x)
 once:∀x,x∈l->bb x≠1->kindOf x=2->ch l (bb x)=1
 bytes:bytesOf l<=400
 over:fG l=false
def ah5{l:List aQ}(h:l.Pairwise fun a b=>bb a<bb b):yi l:=h.imp fun h=>by omega
def kc{l:List aQ}(h:l.Pairwise fun a b=>bb a<bb b):g' l:=yj.2 (ah5 h)
def F_{l:List aQ}(h:l.Pairwise fun a b=>bb a<bb b){i j:Nat}(e:i<j)(d:j<l.length):bb (I J l i)<bb (I J l j):=by rw[cC (by omega),cC d];exact List.pairwise_iff_getElem.1 h i j (by omega) d e
def Xv{l:List aQ}(h:∀i,i+1<l.length->bb (I J l i)<bb (I J l (i+1))):l.Pairwise fun a b=>bb a<bb b:=by
 have g:∀d j,j+d+1<l.length->bb (I J l j)<bb (I J l (j+d+1)):=by
  intro d
  induction d with
  |zero=>intro j e;exact h j e
  |succ d k=>intro j e;exact Int.lt_trans (k j (by omega)) (h (j+d+1) e)
 rw[List.pairwise_iff_getElem];intro i j m e n;have:=g (j-i-1) i (by omega);rw[show i +(j-i-1)+1=j by omega,cC m,cC e]at this;exact this
def lj{v:ad.D}:bY v↔ah4 (fP v) v.2.1:=by
 constructor
 ·intro h;have e:0<v.2.1.length:=by have:=h.len;omega
  have g:∀i,i<v.2.1.length->bb (I J v.2.1 i)≠1->1<=i:=by
   intro i a d;rcases l_ i with h|h
   ·subst h;exact absurd (bY.root ‹_›).1 d
   ·exact h
  refine⟨h.next,h.len.2,Xv h.FP,⟨_,cI e,h.root⟩,?_,?_,?_,?_,h.bytes,h.over⟩
  ·intro x b;obtain⟨i,a,rfl⟩:=eC b;exact h.ids i a
  ·intro x b;obtain⟨i,a,rfl⟩:=eC b;exact h.ino i a
  ·intro x b d;obtain⟨i,a,rfl⟩:=eC b;exact h.reach i (g i a d) a
  ·intro x b d hk;obtain⟨i,a,rfl⟩:=eC b;exact h.once i (g i a d) a hk
 ·intro h;obtain⟨x,b,j,l⟩:=h.root;obtain⟨k,hk,rfl⟩:=eC b
  have m:k=0:=by
   rcases l_ k with e|e
   ·exact e
   ·have h1:=F_ h.jB e hk;have n:=h.ids _ (cI (show 0<v.2.1.length by omega));omega
  subst m;have d:∀i,1<=i->i<v.2.1.length->bb (I J v.2.1 i)≠1:=by intro i a hl;have:=F_ h.jB (show 0<i by omega) hl;omega
  exact⟨h.next,⟨by omega,h.len⟩,⟨j,l⟩,fun i a=>h.ids _ (cI a),fun i a=>F_ h.jB (Nat.lt_succ_self i) a,fun i a=>h.ino _ (cI a),fun i h1 a=>h.reach _ (cI a) (d i h1 a),fun i h1 a hk=>h.once _ (cI a) (d i h1 a) hk,h.bytes,h.over⟩
def hg{l:List aQ}(aa:g' l){a b:Int}:E l a b↔∃x,x∈l/\bb x=a/\∃d,d∈aq x/\d.2.1=b:=by
 constructor
 ·rintro⟨i,d,e,hm,he⟩
  exact⟨I J l i,cI (b3 e).1,(b3 e).2,d,hm,he⟩
 ·rintro⟨x,g,rfl,d,hm,he⟩
  obtain⟨i,e,rfl⟩:=eC g;exact⟨i,d,aa i e,hm,he⟩
def vI{l l':List aQ}(h:∀a b,E l a b->E l' a b){a b:Int}(hb:dI l a b):dI l' a b:=by
 induction hb with
 |single h1=>exact .single (h _ _ h1)
 |tail _ h1 d=>exact .tail d (h _ _ h1)
def j'.to{l l':List aQ}{x:aQ}(h:j' l x)(hn:∀d,d∈aq x->(bp l d.2.1).isSome=true->(bp l' d.2.1).isSome=true):j' l' x:=
 ⟨h.mode,h.uid,h.gid,h.kind,h.plain,h.file,h.lQ,h.dir,fun d aa=>⟨(h.names d aa).1,(h.names d aa).2.1,hn d aa (h.names d aa).2.2⟩,h.sorted⟩
def mem_set{l:List aQ}(aa:g' l){i:Nat}(b:i<l.length){y:aQ}(g:bb y=bb (I J l i)){x:aQ}:x∈l.set i y↔x=y\/(x∈l/\bb x≠bb y):=by
 constructor
 ·intro d;obtain⟨j,a,rfl⟩:=eC d;rw[bL]at a;rw[iq b];split
  ·exact .inl rfl
  ·rename_i e;refine .inr ⟨cI a,fun he=>e ?_⟩;have h1:=aa i b;have k:=aa j a;have:(I J l j).1=(I J l i).1:=(show bb (I J l j)=bb (I J l i) by rw[he,g]);rw[this,h1]at k;exact aS k
 ·rintro (rfl|⟨d,m⟩)
  ·exact List.mem_iff_getElem.2 ⟨i,by rw[bL];exact b,by rw[List.getElem_set_self]⟩
  ·obtain⟨j,a,rfl⟩:=eC d;have e:i≠j:=fun h=>m (by subst h;exact g.symm)
   have:I J (l.set i y) j=I J l j:=by rw[iq b,bd e]
   rw[<-this];exact cI (by rw[bL];exact a)
def tG{l:List aQ}(h:l.Pairwise fun a b=>bb a<bb b){i:Nat}(e:i<l.length){y:aQ}(g:bb y=bb (I J l i)):(l.set i y).Pairwise fun a b=>bb a<bb b:=by
 refine Xv fun j d=>?_
 rw[bL]at d
 have key:∀k,bb (I J (l.set i y) k)=bb (I J l k):=by
  intro k;rw[iq e];split
  ·rename_i h;subst h;exact g
  ·rfl
 rw[key,key];exact F_ h (Nat.lt_succ_self j) d
def Ga{l:List aQ}{i:Nat}{y:aQ}(a:i<l.length)(b:Int):ch (l.set i y) b+dk (aq (I J l i)) b=ch l b+dk (aq y) b:=by
 unfold ch
 induction l generalizing i with
 |nil=>simp at a
 |cons z l d=>
  cases i with
  |zero=>simp only[List.set_cons_zero,dh,eM];rw[show I J (z::l) 0=z from rfl];omega
  |succ i=>simp only[List.set_cons_succ,dh,eM];have:=d (i:=i) (by simpa using a);rw[show I J (z::l) (i+1)=I J l i from rfl];omega
def ah6(l:List aQ)(n:aQ)(b:Int):ch (l++[n]) b=ch l b+dk (aq n) b:=by unfold ch;rw[kg,pz];simp
def vJ(N a:List ar.D)(b:Int):dk (N++a) b=dk N b+dk a b:=by unfold dk;rw[List.filter_append,bZ]
def Xw(s:aO)(id b:Int):dk [((s,id,()):ar.D)] b=cond (id==b) 1 0:=by
 unfold dk;rw[gr];cases h:(((s,id,()):ar.D).2.1==b)
 ·rfl
 ·rfl
def ah7(N:List ar.D)(s:aO)(id b:Int):dk (ins N s id) b=dk N b+cond (id==b) 1 0:=by
 unfold ins;rw[vJ,vJ,Xw];have:dk N b=dk (N.takeWhile (dN s)) b+dk (N.dropWhile (dN s)) b:=by rw[<-vJ,q']
 omega
def ah8{N:List ar.D}{b:Int}(h:∀d,d∈N->d.2.1≠b):dk N b=0:=by unfold dk;rw[List.filter_eq_nil_iff.2 fun d aa=>by rw[hI];exact h d aa];rfl
def Xx{l:List aQ}{b:Int}(h:∀x,x∈l->∀d,d∈aq x->d.2.1≠b):ch l b=0:=by unfold ch;exact NM fun x a=>ah8 (h x a)
def ah9{l:List aQ}(a:o8 l){b:Int}(h:bp l b=none):ch l b=0:=by
 refine Xx fun x e d aa he=>?_
 obtain⟨i,g,rfl⟩:=eC e;have:=a i g d aa;rw[he,h]at this;cases this
def N6:∀{N:List ar.D},im N->∀{d:ar.D},d∈N->∀b:Int,dk (b_ N d.1) b+cond (d.2.1==b) 1 0=dk N b
 | [],_,d,aa,_=>by cases aa
 |x::N,hs,d,aa,b=>by
  have h1:=List.pairwise_cons.1 hs;rcases List.mem_cons.1 aa with rfl|aa
  ·have e:b_ (d::N) d.1=N:=by
    unfold b_;rw[gr,show(!bm d.1 d.1)=false by unfold bm;simp];simp only[gq,fT];refine List.filter_eq_self.2 fun a g=>?_
    have:=FN (h1.1 a g);unfold bm;simp only[eT,hH];exact fun e=>this e.symm
   rw[e];show _=dk ([d]++N) b;rw[vJ];have:dk [d] b=cond (d.2.1==b) 1 0:=Xw d.1 d.2.1 b;omega
  ·have e:b_ (x::N) d.1=x::b_ N d.1:=by
    unfold b_
    rw[gr,show(!bm x.1 d.1)=true by
     have:=FN (h1.1 d aa)
     unfold bm;simp[this]]
    rfl
   have h:=N6 h1.2 aa b;rw[e];show dk ([x]++b_ N d.1) b+_=dk ([x]++N) b;rw[vJ,vJ];omega
def Gb{l:List aQ}:eD l=0↔bytesOf l<=400/\fG l=false:=by
 unfold eD;by_cases h:(bytesOf l:Int)>400
 ·rw[bR h];constructor
  ·intro a;cases a
  ·intro a;omega
 ·rw[bW h]
  cases fG l with
  |true=>
   constructor
   ·intro a;cases a
   ·intro a;cases a.2
  |false=>exact⟨fun _=>⟨by omega,rfl⟩,fun _=>rfl⟩
def bY.keep{v:ad.D}(hv:bY v){i:Nat}(g:i<v.2.1.length){y:aQ}(h1:bb y=bb (I J v.2.1 i))(q:kindOf y=kindOf (I J v.2.1 i))(r:aq y=aq (I J v.2.1 i))(G:j' v.2.1 y)
  (H:eD (v.2.1.set i y)=0):bY (v.1,v.2.1.set i y,()):=by
 have h:=lj.1 hv;have aa:=kc h.jB;have s:∀id,bp (v.2.1.set i y) id=bp v.2.1 id:=fun id=>FW g h1 id
 have u:=tG h.jB g h1
 have K:∀a b,E v.2.1 a b->E (v.2.1.set i y) a b:=by
  intro a b;rw[hg aa,hg (kc u)]
  rintro⟨x,e,w,d,z,A⟩
  by_cases k:bb x=bb y
  ·refine⟨y,(mem_set aa g h1).2 (.inl rfl),by rw[<-k];exact w,d,?_,A⟩;obtain⟨j,n,rfl⟩:=eC e;have o:=aa i g;have m:=aa j n;have:(I J v.2.1 j).1=(I J v.2.1 i).1:=(show bb _=bb _ by rw[k,h1]);rw[this,o]at m;obtain rfl:=aS m;rw[r];exact z
  ·exact⟨x,(mem_set aa g h1).2 (.inr ⟨e,k⟩),w,d,z,A⟩
 have B:∀a b,dI v.2.1 a b->dI (v.2.1.set i y) a b:=fun a b hb=>vI K hb
 have L:∀b,ch (v.2.1.set i y) b=ch v.2.1 b:=by intro b;have:=Ga (y:=y) g b;rw[r]at this;omega
 have p:=cI (t:=J) g;have C:=Gb.1 H;refine lj.2 ⟨h.next,by rw[bL];exact h.len,u,?_,?_,?_,?_,?_,C.1,C.2⟩
 ·obtain⟨x,e,D,F⟩:=h.root;by_cases k:bb x=bb y
  ·refine⟨y,(mem_set aa g h1).2 (.inl rfl),by rw[<-k];exact D,?_⟩;obtain⟨j,n,rfl⟩:=eC e;have o:=aa i g;have m:=aa j n;have:(I J v.2.1 j).1=(I J v.2.1 i).1:=(show bb _=bb _ by rw[k,h1]);rw[this,o]at m;obtain rfl:=aS m;rw[q];exact F
  ·exact⟨x,(mem_set aa g h1).2 (.inr ⟨e,k⟩),D,F⟩
 ·intro x e;rcases (mem_set aa g h1).1 e with rfl|⟨e,_⟩
  ·rw[h1];exact h.ids _ p
  ·exact h.ids x e
 ·intro x e;rcases (mem_set aa g h1).1 e with rfl|⟨e,_⟩
  ·exact G.to fun d _ h=>by rw[s];exact h
  ·exact(h.ino x e).to fun d _ h=>by rw[s];exact h
 ·intro x e l;rcases (mem_set aa g h1).1 e with rfl|⟨e,_⟩
  ·rw[h1]at l⊢;exact B _ _ (h.reach _ p l)
  ·exact B _ _ (h.reach x e l)
 ·intro x e l hk;rw[L];rcases (mem_set aa g h1).1 e with rfl|⟨e,_⟩
  ·rw[h1]at l⊢;rw[q]at hk;exact h.once _ p l hk
  ·exact h.once x e l hk
def bY.get{v:ad.D}(h:bY v){x:aQ}(a:x∈v.2.1):j' v.2.1 x:=(lj.1 h).ino x a
def lk{l:List aQ}(aa:g' l){x y:aQ}(b:x∈l)(d:y∈l)(h:bb x=bb y):x=y:=by obtain⟨i,e,rfl⟩:=eC b;obtain⟨j,g,rfl⟩:=eC d;have a:=aa i e;have k:=aa j g;have:(I J l i).1=(I J l j).1:=h;rw[this,k]at a;rw[aS a]
def j'.named{l l':List aQ}{x:aQ}(h:j' l x)(b:∀id,(bp l id).isSome=true->(bp l' id).isSome=true)(hk:kindOf x=2){s:aO}{id:Int}(hs:g_ s=true)(h1:id≠1)(e:(bp l' id).isSome=true)(hl:(aq x).length<12)(hn:∀d,d∈aq x->d.1≠s):j' l' (b4 x (ins (aq x) s id)):=
 ⟨h.mode,h.uid,h.gid,h.kind,fun a=>absurd hk a,h.file,h.lQ,fun a=>⟨(h.dir a).1,(h.dir a).2.1,(h.dir a).2.2.1,by
  show(ins (aq x) s id).length<=12
  rw[vB];omega⟩,fun d aa=>by
  rcases pe.1 aa with aa|rfl
  ·exact⟨(h.names d aa).1,(h.names d aa).2.1,b _ (h.names d aa).2.2⟩
  ·exact⟨hs,h1,e⟩,W5 h.sorted hn⟩
def N7{l:List aQ}(hr:l.Pairwise fun a b=>bb a<bb b){i:Nat}(g:i<l.length)(s:aO)(id:Int):
  (∀a b,E l a b->E (l.set i (b4 (I J l i) (ins (aq (I J l i)) s id))) a b)/\E (l.set i (b4 (I J l i) (ins (aq (I J l i)) s id))) (bb (I J l i)) id:=by
 have aa:=kc hr;have e:bb (b4 (I J l i) (ins (aq (I J l i)) s id))=bb (I J l i):=qP _ _;have h:=kc (tG hr g e);have j:b4 (I J l i) (ins (aq (I J l i)) s id)∈l.set i (b4 (I J l i) (ins (aq (I J l i)) s id)):=(mem_set aa g e).2 (.inl rfl);constructor
 ·intro a b;rw[hg aa,hg h]
  rintro⟨x,k,m,d,n,o⟩
  by_cases p:bb x=bb (I J l i)
  ·obtain rfl:=lk aa k (cI g) p;exact⟨_,j,e.trans m,d,pe.2 (.inl n),o⟩
  ·exact⟨x,(mem_set aa g e).2 (.inr ⟨k,by rw[e];exact p⟩),m,d,n,o⟩
 ·rw[hg h];exact⟨_,j,e,(s,id,()),pe.2 (.inr rfl),rfl⟩
def N8{l:List aQ}{i:Nat}(a:i<l.length)(s:aO)(id b:Int):ch (l.set i (b4 (I J l i) (ins (aq (I J l i)) s id))) b=ch l b+cond (id==b) 1 0:=by have h:=Ga (y:=b4 (I J l i) (ins (aq (I J l i)) s id)) a b;rw[jA,ah7]at h;omega
def F2.ok{v:ad.D}{c:aM.D}{x:aL.D}{w:ad.D}(hv:bY v)(P:hd x)(h:F2 v c x w):bY w:=by
 obtain⟨r,t,i,j,hr,hc,q,l,ht,D,E,s,o,hl,rfl,F,_⟩:=h.out;have hm:=lj.1 hv;have aa:=kc hm.jB;have b:=(b3 s).1;have m:=b3 q;obtain⟨Q,G,d,H,T,K⟩:=ht.new D E;obtain rfl:d=i:=aS (H.symm.trans s);have L:=yn K fun e he=>hv.yp b he
 have M:br r≠1:=by intro h1;obtain⟨z,a,n,p⟩:=hm.root;have:I J v.2.1 j=z:=lk aa (cI m.1) a (by rw[n];exact m.2.trans h1);rw[this]at l;exact l p
 have N:=(hm.ino _ (cI b)).named (fun _ h=>h) o G M (by rw[q];rfl) hl L;obtain⟨u,_⟩:=N7 hm.jB b (nameOf t) (br r);have g:bb (b4 (I J v.2.1 d) (ins (aq (I J v.2.1 d)) (nameOf t) (br r)))=bb (I J v.2.1 d):=qP _ _;have y:∀id,bp (v.2.1.set d (b4 (I J v.2.1 d) (ins (aq (I J v.2.1 d)) (nameOf t) (br r)))) id=bp v.2.1 id:=fun id=>yu _ b id
 have A:=Gb.1 F;refine lj.2 ⟨hm.next,by show(List.set _ _ _).length<=24;rw[bL];exact hm.len,tG hm.jB b g,?_,?_,?_,?_,?_,A.1,A.2⟩
 ·obtain⟨z,a,n,p⟩:=hm.root;by_cases B:bb z=bb (I J v.2.1 d)
  ·exact⟨_,(mem_set aa b g).2 (.inl rfl),by rw[g,<-B];exact n,o⟩
  ·exact⟨z,(mem_set aa b g).2 (.inr ⟨a,by rw[g];exact B⟩),n,p⟩
 ·intro z a;rcases (mem_set aa b g).1 a with rfl|⟨a,_⟩
  ·rw[g];exact hm.ids _ (cI b)
  ·exact hm.ids z a
 ·intro z a;rcases (mem_set aa b g).1 a with rfl|⟨a,_⟩
  ·exact N.to fun e _ h=>by rw[tD,y];exact h
  ·exact(hm.ino z a).to fun e _ h=>by rw[tD,y];exact h
 ·intro z a k;rcases (mem_set aa b g).1 a with rfl|⟨a,_⟩
  ·rw[g]at k⊢;exact vI u (hm.reach _ (cI b) k)
  ·exact vI u (hm.reach z a k)
 ·have C:∀z,z∈v.2.1->bb z≠1->kindOf z=2->ch (v.2.1.set d (b4 (I J v.2.1 d) (ins (aq (I J v.2.1 d)) (nameOf t) (br r)))) (bb z)=1:=by
   intro z a k hk;rw[N8 b,hm.once z a k hk];have:br r≠bb z:=fun e=>by have:I J v.2.1 j=z:=lk aa (cI m.1) a (m.2.trans e);rw[this]at l;exact l hk
   rw[bO this];rfl
  intro z a k hk;rcases (mem_set aa b g).1 a with rfl|⟨a,_⟩
  ·rw[g]at k⊢;exact C _ (cI b) k o
  ·exact C z a k hk
def Made.ok{v:ad.D}{c:aM.D}{x:aL.D}{w:ad.D}(hv:bY v)(hc:dB c=true)(Z:hd x)(hk:aF x=1\/aF x=3\/aF x=10)(h:Made v c x w):bY w:=by
 obtain⟨r,i,hr,ab,ac,H,A,_,hl,hlen,aN,rfl,ae,_⟩:=h.out;have o:=h.bad;have hm:=lj.1 hv;have aa:=kc hm.jB;have j:=(b3 H).1;obtain⟨aO,af,d,ah,aR,aj⟩:=hr.new ab ac;obtain rfl:d=i:=aS (ah.symm.trans H);have ak:=yn aj fun e he=>hv.yp j he
 have al:bp v.2.1 v.1=none:=hv.free;have aT:=hm.next;have K:=hm.ino _ (cI j);have l:bb (b4 (I J v.2.1 d) (ins (aq (I J v.2.1 d)) (nameOf r) v.1))=bb (I J v.2.1 d):=qP _ _;obtain⟨an,L⟩:=N7 hm.jB j (nameOf r) v.1;have M:=tG hm.jB j l;have q:bb (ga v c x (I J v.2.1 d))=fP v:=rfl;have s:aq (ga v c x (I J v.2.1 d))=[]:=rfl;have p:=fun {z:aQ}=> mem_set (x:=z) aa j l
 have B:∀z,z∈v.2.1.set d (b4 (I J v.2.1 d) (ins (aq (I J v.2.1 d)) (nameOf r) v.1))->1<=bb z/\bb z<=fP v-1:=by
  intro z g;rcases p.1 g with rfl|⟨g,_⟩
  ·rw[l];exact hm.ids _ (cI j)
  ·exact hm.ids z g
 generalize hn:ga v c x (I J v.2.1 d)=n at *;generalize C:v.2.1.set d (b4 (I J v.2.1 d) (ins (aq (I J v.2.1 d)) (nameOf r) v.1))=S at *;have N:(S++[n]).Pairwise fun a b=>bb a<bb b:=by rw[List.pairwise_append];refine⟨M,List.pairwise_singleton _ _,fun a ao b hb=>?_⟩;rw[List.mem_singleton.1 hb,q];have:=B a ao;omega
 have ar:=kc N
 have D:∀a b,E S a b->E (S++[n]) a b:=by
  intro a b;rw[hg (kc M),hg ar]
  rintro⟨z,g,h⟩
  exact⟨z,List.mem_append.2 (.inl g),h⟩
 have av:∀a b,E v.2.1 a b->E (S++[n]) a b:=fun a b h=>D a b (an a b h)
 have aw:∀id,bp S id=bp v.2.1 id:=fun id=>by rw[<-C];exact yu _ j id
 have P:∀id,(bp v.2.1 id).isSome=true->(bp (S++[n]) id).isSome=true:=by intro id ax;obtain⟨az,l,he⟩:=lT.1 (show(bp S id).isSome=true by rw[aw];exact ax);exact lT.2 ⟨az,List.mem_append.2 (.inl l),he⟩
 have aA:(bp (S++[n]) v.1).isSome=true:=lT.2 ⟨n,List.mem_append.2 (.inr (List.mem_singleton.2 rfl)),q⟩;have aU:=hm.ids _ (cI j);have aB:=K.named P A af (show v.1≠1 by show fP v≠1;omega) aA hl ak;have Q:(0<=c.1/\c.1<=1000)/\(0<=c.2.1/\c.2.1<=1000):=by unfold dB at hc;simp only[bs]at hc;exact⟨cL.1 hc.1,cL.1 hc.2.1⟩
 have aC:j' (S++[n]) n:=by
  have aD:0<=eL n/\eL n<=2047:=by
   rw[<-hn];show 0<=tC x (I J v.2.1 d)/\tC x (I J v.2.1 d)<=2047;unfold tC;by_cases k:aF x=10
   ·rw[bg k];omega
   rw[bd k];unfold pf at o;rw[bO k]at o;simp only[ay,Bool.not_eq_false']at o;have hr:=cL.1 o;split
   ·exact agK hr.1 hr.2
   ·exact hr
  have aE:0<=eZ n/\eZ n<=1000:=by
   rw[<-hn];show 0<=yq c (I J v.2.1 d)/\yq c (I J v.2.1 d)<=1000;unfold yq;split
   ·exact K.gid
   ·exact Q.2
  have y:kindOf n=FZ x:=by rw[<-hn];rfl
  have F:bN n=if aF x=10 then hV x else []:=by rw[<-hn];rfl
  have aG:ef n=c.1:=by rw[<-hn];rfl
  have aH:eL n=tC x (I J v.2.1 d):=by rw[<-hn];rfl
  have T:eK n=0:=by rw[<-hn];rfl
  have U:eo n=0:=by rw[<-hn];rfl
  unfold FZ at y;refine⟨aD,by rw[aG];exact Q.1,aE,?_,fun _=>⟨T,U,s⟩,fun h1=>?_,fun u=>?_,fun V=>?_,fun e he=>(by rw[s]at he;cases he),by rw[s];exact List.Pairwise.nil⟩
  ·rw[y];split
   ·exact .inr (.inl rfl)
   ·split
    ·exact .inr (.inr rfl)
    ·exact .inl rfl
  ·rw[F];split
   ·have:=Z.nM;omega
   ·simp
  ·have k:aF x=10:=by
    rw[y]at u;split at u
    ·cases u
    ·split at u
     ·assumption
     ·cases u
   unfold pf at o;rw[cf k]at o;simp only[au,Bool.not_eq_false']at o;refine⟨by rw[F,bg k];exact o,?_⟩;rw[aH];unfold tC;rw[bg k]
  ·have k:aF x≠10:=by
    intro k;rw[y,bd (by omega),bg k]at V;cases V
   rw[F,bd k,T,U,s];exact⟨rfl,by omega,by omega,by simp⟩
 have G:∀z,z∈v.2.1->bb z≠1->dI (S++[n]) 1 (bb z):=fun z g m=>vI av (hm.reach z g m)
 have aI:∀b,ch (S++[n]) b=ch v.2.1 b+cond (v.1==b) 1 0:=by intro b;rw[ah6,s,<-C,N8 j];rfl
 have W:=Gb.1 ae;refine lj.2 ⟨?_,?_,N,?_,?_,?_,?_,?_,W.1,W.2⟩
 ·show 2<=fP v+1/\fP v+1<=100000;omega
 ·show(S++[n]).length<=24;rw[bZ,jE,<-C,bL];omega
 ·obtain⟨z,g,X,aJ⟩:=hm.root;by_cases Y:bb z=bb (I J v.2.1 d)
  ·exact⟨_,List.mem_append.2 (.inl (p.2 (.inl rfl))),by rw[l,<-Y];exact X,A⟩
  ·exact⟨z,List.mem_append.2 (.inl (p.2 (.inr ⟨g,by rw[l];exact Y⟩))),X,aJ⟩
 ·intro z g;show 1<=bb z/\bb z<=fP v+1-1;rcases List.mem_append.1 g with g|g
  ·have:=B z g;omega
  ·rw[List.mem_singleton.1 g,q];omega
 ·intro z g;rcases List.mem_append.1 g with g|g
  ·rcases p.1 g with rfl|⟨g,_⟩
   ·exact aB
   ·exact(hm.ino z g).to fun e _ h=>P _ h
  ·rw[List.mem_singleton.1 g];exact aC
 ·intro z g m;rcases List.mem_append.1 g with g|g
  ·rcases p.1 g with rfl|⟨g,_⟩
   ·rw[l]at m⊢;exact G _ (cI j) m
   ·exact G z g m
  ·rw[List.mem_singleton.1 g,q];by_cases h1:bb (I J v.2.1 d)=1
   ·exact .single (D _ _ (h1▸L))
   ·exact .tail (G _ (cI j) h1) (D _ _ L)
 ·intro z g m aK;show ch (S++[n]) (bb z)=1;rw[aI];rcases List.mem_append.1 g with g|g
  ·have aV:=B z g;rw[bO (show v.1≠bb z by show fP v≠bb z;omega)];rcases p.1 g with rfl|⟨g,_⟩
   ·rw[l]at m⊢;exact hm.once _ (cI j) m A
   ·exact hm.once z g m aK
  ·rw[List.mem_singleton.1 g,q,show ch v.2.1 (fP v)=0 from ah9 hv.hU al,cf (show v.1=fP v from rfl)];rfl
def yx.ok{v:ad.D}{c:aM.D}{x:aL.D}{w:ad.D}(hv:bY v)(h:yx v c x w):bY w:=by obtain⟨d,h1,r,i,_,_,e,rfl⟩:=h.out;have b:=(b3 e).1;have a:=hv.ino i b;exact hv.keep b (y:=iv (I J v.2.1 i) (eL (I J v.2.1 i)) (bM x) (dV x)) rfl rfl rfl ⟨a.mode,d,h1,a.kind,a.plain,a.file,a.lQ,a.dir,a.names,a.sorted⟩ (F6 hv b _ _ _)
def F7.ok{v:ad.D}{c:aM.D}{x:aL.D}{w:ad.D}(hv:bY v)(h:F7 v c x w):bY w:=by obtain⟨e,h1,_,r,i,_,_,g,hk,rfl,j⟩:=h.out;have d:=(b3 g).1;have a:=hv.ino i d;exact hv.keep d (y:=lg (I J v.2.1 i) (bM x) (dV x)) rfl rfl rfl ⟨a.mode,a.uid,a.gid,a.kind,fun b=>absurd hk b,a.file,a.lQ,fun b=>⟨(a.dir b).1,e,h1,(a.dir b).2.2.2⟩,a.names,a.sorted⟩ j
def ah_(s:aO)(a:Nat)(d:aO)(hs:s.length<=64)(h:a+d.length<=64):(ka s a d).length<=64:=by unfold ka;rw[bZ,bZ,nN,fS];omega
def vE.ok{v:ad.D}{c:aM.D}{x:aL.D}{w:ad.D}(hv:bY v)(h:vE v c x w):bY w:=by
 obtain⟨r,i,_,_,d,hk,e,_,l,_,h⟩:=h.out;have b:=(b3 d).1;have a:=hv.ino i b;have aa:=hv.gD b;rcases h with⟨_,_,rfl⟩|⟨_,hle,rfl,g⟩
 ·exact hv
 ·have hlen:(hW x (I J v.2.1 i)).length<=64:=by
   unfold hW;split
   ·rename_i m;rw[nN];have:eb x (I J v.2.1 i)=bM x:=by unfold eb;rw[bd (by omega)]
    omega
   ·exact ah_ _ _ _ aa (by omega)
  exact hv.keep b (y:=lV (I J v.2.1 i) (hW x (I J v.2.1 i))) rfl rfl rfl ⟨a.mode,a.uid,a.gid,a.kind,a.plain,fun _=>hlen,fun j=>absurd j e,fun k=>absurd k hk,a.names,a.sorted⟩ g
def ah'{m:Int}(h:0<=m)(a:m<=2047):0<=andNot m 1024/\andNot m 1024<=2047:=by
 obtain⟨n,rfl⟩:∃n:Nat,m=(n:Int):=⟨m.toNat,by omega⟩
 unfold andNot;rw[show(1024:Int)=((1024:Nat):Int) from rfl,bits_nat];simp only;have h1:(BitVec.ofNat 64 n &&& ~~~BitVec.ofNat 64 1024).toNat<=n:=by rw[BitVec.toNat_and,nY,mY (show n<2^64 by omega)];exact Nat.and_le_left
 rw[show IntKind.wrap .i64 (((BitVec.ofNat 64 n &&& ~~~BitVec.ofNat 64 1024).toNat:Nat):Int)=(((BitVec.ofNat 64 n &&& ~~~BitVec.ofNat 64 1024).toNat:Nat):Int) from cj (by omega) (by omega)];omega
def yw.ok{v:ad.D}{c:aM.D}{x:aL.D}{w:ad.D}(hv:bY v)(h:yw v c x w):bY w:=by
 obtain⟨d,h1,r,i,_,_,e,g,_,rfl⟩:=h.out;have b:=(b3 e).1;have a:=hv.ino i b
 have hm:0<=pg c x (I J v.2.1 i)/\pg c x (I J v.2.1 i)<=2047:=by
  unfold pg;split
  ·exact ah' d h1
  ·exact⟨d,h1⟩
 exact hv.keep b (y:=iv (I J v.2.1 i) (pg c x (I J v.2.1 i)) (ef (I J v.2.1 i)) (eZ (I J v.2.1 i))) rfl rfl rfl ⟨hm,a.uid,a.gid,a.kind,a.plain,a.file,fun j=>absurd j g,a.dir,a.names,a.sorted⟩ (F6 hv b _ _ _)
open Classical in
noncomputable def n9(l:List aQ)(id:Int):List aQ:=l.filter fun x=>decide (dI l id (bb x))
def Xy(l:List aQ):l=(List.range l.length).map fun i=>I J l i:=by
 refine List.ext_getElem (by simp) fun i h1 a=>?_
 rw[List.getElem_map,List.getElem_range,cC h1]
open Classical in
def Xz{l:List aQ}(aa:g' l)(id:Int):(mN l (dH l id)).map (fun i=>I J l i)=n9 l id:=by
 unfold n9
 conv=>rhs;rw[Xy l]
 rw[List.filter_map];unfold mN;congr 1;refine List.filter_congr fun i a=>?_
 have a:=List.mem_range.1 a;have h:=vw l aa id a;unfold T at h;have e:(I .bool (dH l id) i:Bool)=decide (dI l id (bb (I J l i))):=by rw[jj,decide_eq_true_iff];exact h
 rw[e];simp only[Function.comp];rw[<-Xy l]
def XA{l:List aQ}(aa:g' l)(id:Int):je l (dH l id)=(n9 l id).length:=by rw[<-Xz aa id,List.length_map];rfl
def XB{l:List aQ}(aa:g' l)(id:Int):iN l (dH l id)=((n9 l id).map fun x=>(bN x).length).sum:=by rw[<-Xz aa id,List.map_map];rfl
def aia{l:List aQ}:fG l=false↔∀x,x∈l->il l x=false:=by
 unfold fG;constructor
 ·intro h x d;obtain⟨i,a,rfl⟩:=eC d
  cases b:dv l.length fun i=> !il l (I J l i)with
  |true=>simpa using fN.1 b i a
  |false=>rw[b]at h;cases h
 ·intro h;rw[fN.2 fun i a=>by rw[h _ (cI a)];rfl];rfl
def prs(l:List aQ):List (Int×Nat):=l.map fun x=>(bb x,(bN x).length)
open Classical in
noncomputable def yA(l:List aQ)(id:Int):List (Int×Nat):=(prs l).filter fun p=>decide (dI l id p.1)
open Classical in
def Gc(l:List aQ)(id:Int):(n9 l id).length=(yA l id).length/\((n9 l id).map fun x=>(bN x).length).sum=((yA l id).map fun p=>p.2).sum:=by
 have e:yA l id=(n9 l id).map fun x=>(bb x,(bN x).length):=by unfold yA n9 prs;rw[List.filter_map];rfl
 rw[e,List.length_map,List.map_map];exact⟨rfl,rfl⟩
def XC{α:Type}(f:α->Nat){d e:List α}(h:d.Sublist e)(p q:α->Bool)(g:∀a,p a=true->q a=true):((d.filter p).map f).sum<=((e.filter q).map f).sum:=by
 induction h with
 |slnil=>simp
 |cons a h b=>
  rw[gr (x:=a)];split
  ·rw[dh,eM];omega
  ·exact b
 |cons_cons a h b=>
  rw[gr,gr];by_cases ai:p a=true
  ·rw[bg ai,bg (g a ai),dh,dh,eM,eM];omega
  ·rw[bd ai];split
   ·rw[dh,eM];omega
   ·exact b
def N9{α:Type}:∀b:List α,(b.map fun _=>1).sum=b.length
 | []=>rfl
 |a::b=>by rw[dh,eM,N9 b,b2];omega
def aib{α:Type}{b d:List α}(h:b.Sublist d)(p q:α->Bool)(e:∀a,p a=true->q a=true):(b.filter p).length<=(d.filter q).length:=by rw[<-N9,<-N9];exact XC (fun _=>1) h p q e
def aic{l l':List aQ}(aa:g' l)(d:g' l')(hs:(prs l').Sublist (prs l))(e:∀a b,dI l' a b->dI l a b)(id:Int):je l' (dH l' id)<=je l (dH l id)/\iN l' (dH l' id)<=iN l (dH l id):=by rw[XA aa,XA d,XB aa,XB d,(Gc l id).1,(Gc l id).2,(Gc l' id).1,(Gc l' id).2];unfold yA;exact⟨aib hs _ _ fun a h=>by simp only[decide_eq_true_iff]at h⊢;exact e _ _ h,XC _ hs _ _ fun a h=>by simp only[decide_eq_true_iff]at h⊢;exact e _ _ h⟩
def aid{l l':List aQ}(aa:g' l)(j:g' l')(hs:(prs l').Sublist (prs l))(k:∀a b,dI l' a b->dI l a b)
  (hm:∀d,d∈l'->∃x,x∈l/\bb x=bb d/\eK x=eK d/\eo x=eo d) (h:fG l=false):fG l'=false:=by
 rw[aia]at h⊢;intro d m;obtain⟨x,n,h1,o,p⟩:=hm d m;have g:=h x n;have i:=aic aa j hs k (bb d);unfold il at g⊢;have e:x.1=d.1:=h1;rw[Bool.or_eq_false_iff,ji,ji,hH,hH,hH,hH]at g⊢;rw[e,o,p]at g;have q:je l' (dH l' d.1)<=je l (dH l d.1):=i.1;have r:iN l' (dH l' d.1)<=iN l (dH l d.1):=i.2;refine⟨g.1.imp id fun h=>by omega,g.2.imp id fun h=>by omega⟩
def aie{l:List aQ}{p:aQ->Bool}(b:Int)(h:∀x,x∈l->p x=false->aq x=[]):ch (l.filter p) b=ch l b:=by
 unfold ch
 induction l with
 |nil=>rfl
 |cons x l a=>
  have a:=a fun d e=>h d (gS _ e)
  rw[gr]
  cases ai:p x with
  |true=>rw[bg rfl,dh,dh,eM,eM,a]
  |false=>rw[bd (by decide),dh,eM,a,h x gT ai];simp[dk]
def aif{l:List aQ}{i:Nat}(d:i<l.length){y:aQ}(h1:bb y=bb (I J l i))(e:bN y=bN (I J l i)):prs (l.set i y)=prs l:=by
 unfold prs;rw[List.map_set,h1,e,cC d];refine List.ext_getElem (by simp) fun j a b=>?_
 rw[List.getElem_set];split
 ·rename_i h;subst h;rw[List.getElem_map]
 ·rfl
def aih{l:List aQ}{b:Int}(h:ch l b≠0):∃x,x∈l/\∃d,d∈aq x/\d.2.1=b:=by refine mX fun hn=>h (Xx fun x a d aa he=>hn ⟨x,a,d,aa,he⟩)
def XD{v:ad.D}(hv:bY v){i:Nat}(w:i<v.2.1.length){s:aO}{k:Int}(F:dC (aq (I J v.2.1 i)) s=k)(ax:k≠0){j:Nat}(az:bp v.2.1 k=some j)(he:aq (I J v.2.1 j)=[]):bY (jQ v i s):=by
 have hm:=lj.1 hv;have aa:=kc hm.jB;have ac:=b3 az;have G:=cI (t:=J) w;have P:=cI (t:=J) ac.1;have n:=hm.ino _ G;obtain⟨d,H,aA,Q⟩:=pd (N:=aq (I J v.2.1 i)) (s:=s) (by rw[F];exact ax);rw[F]at Q;have aB:k≠1:=Q▸(n.names d H).2.1;have T:bb (I J v.2.1 j)=k:=ac.2;have aC:bb (I J v.2.1 i)≠k:=by intro h;have:=lk aa G P (h.trans T.symm);rw[this,he]at H;cases H
 have q:bb (b4 (I J v.2.1 i) (b_ (aq (I J v.2.1 i)) s))=bb (I J v.2.1 i):=qP _ _;have ae:=tG hm.jB w q;have K:=fun {x:aQ}=> mem_set (x:=x) aa w q
 have aD:∀b,¬E v.2.1 k b:=by intro b h;obtain⟨x,g,aE,e,hex,_⟩:=(hg aa).1 h;have:=lk aa g P (aE.trans T.symm);rw[this,he]at hex;cases hex
 have aF:∀b,ch (v.2.1.set i (b4 (I J v.2.1 i) (b_ (aq (I J v.2.1 i)) s))) b+cond (k==b) 1 0=ch v.2.1 b:=by intro b;have h1:=Ga (y:=b4 (I J v.2.1 i) (b_ (aq (I J v.2.1 i)) s)) w b;have l:=N6 n.sorted H b;rw[jA]at h1;rw[aA,Q]at l;omega
 have af:prs (v.2.1.set i (b4 (I J v.2.1 i) (b_ (aq (I J v.2.1 i)) s)))=prs v.2.1:=aif w q rfl;have aG:bytesOf (v.2.1.set i (b4 (I J v.2.1 i) (b_ (aq (I J v.2.1 i)) s)))=bytesOf v.2.1:=by have h:=WS (y:=b4 (I J v.2.1 i) (b_ (aq (I J v.2.1 i)) s)) w;rw[show bN (b4 (I J v.2.1 i) (b_ (aq (I J v.2.1 i)) s))=bN (I J v.2.1 i) from rfl]at h;omega
 have r:∀x,x∈v.2.1.set i (b4 (I J v.2.1 i) (b_ (aq (I J v.2.1 i)) s))->∃m,m∈v.2.1/\bb m=bb x/\kindOf m=kindOf x/\eK m=eK x/\eo m=eo x/\(∀e,e∈aq x->e∈aq m)/\(bb x=k->aq x=[]):=by
  intro x g;rcases K.1 g with rfl|⟨g,B⟩
  ·exact⟨_,G,rfl,rfl,rfl,rfl,fun e h=>qM h,fun h=>absurd (q▸h) aC⟩
  ·exact⟨x,g,rfl,rfl,rfl,rfl,fun e h=>h,fun h=>by rw[lk aa g P (h.trans T.symm)];exact he⟩
 have U:∀x,x∈v.2.1->∃m,m∈v.2.1.set i (b4 (I J v.2.1 i) (b_ (aq (I J v.2.1 i)) s))/\bb m=bb x/\kindOf m=kindOf x/\∀e,e∈aq x->e.2.1≠k->e∈aq m:=by
  intro x g;by_cases ah:bb x=bb (I J v.2.1 i)
  ·have aH:=lk aa g G ah;subst aH;refine⟨_,K.2 (.inl rfl),q,rfl,fun e h V=>List.mem_filter.2 ⟨h,?_⟩⟩;have:e.1≠s:=fun h1=>V (by rw[<-F4 n.sorted h,h1,F])
   unfold bm;simp[this]
  ·exact⟨x,K.2 (.inr ⟨g,by rw[q];exact ah⟩),rfl,rfl,fun e h _=>h⟩
 have aI:∀x,x∈v.2.1.set i (b4 (I J v.2.1 i) (b_ (aq (I J v.2.1 i)) s))->j' v.2.1 x:=by
  intro x g;rcases K.1 g with rfl|⟨g,B⟩
  ·exact⟨n.mode,n.uid,n.gid,n.kind,fun h=>⟨(n.plain h).1,(n.plain h).2.1,by
    show b_ _ s=[]
    rw[(n.plain h).2.2];rfl⟩,n.file,n.lQ,fun h=>⟨(n.dir h).1,(n.dir h).2.1,(n.dir h).2.2.1,cw (tA _ _) (n.dir h).2.2.2⟩,fun e h=>n.names e (qM h),tE n.sorted s⟩
  ·exact hm.ino x g
 show bY (v.1,goN (v.2.1.set i (b4 (I J v.2.1 i) (b_ (aq (I J v.2.1 i)) s))) (dC (aq (I J v.2.1 i)) s),());rw[F];generalize v.2.1.set i (b4 (I J v.2.1 i) (b_ (aq (I J v.2.1 i)) s))=S at *;have W:=kc ae
 have o:∀x,x∈goN S k↔x∈S/\(ch S k=0->bb x≠k):=by
  intro x;unfold goN;by_cases p:ch S k=0
  ·rw[bR p];simp only[au,List.mem_filter,eT,jD];exact⟨fun h=>⟨h.1,fun _=>h.2⟩,fun h=>⟨h.1,h.2 p⟩⟩
  ·rw[bW p];exact⟨fun h=>⟨h,fun h1=>absurd h1 p⟩,fun h=>h.1⟩
 have X:(goN S k).Sublist S:=by
  unfold goN;cases decide (ch S k=0)
  ·exact List.Sublist.refl _
  ·exact List.filter_sublist
 have aj:=ae.sublist X;have Y:=kc aj;have aJ:∀a b,E (goN S k) a b->E v.2.1 a b:=by intro a b h;obtain⟨x,g,C,e,hex,A⟩:=(hg Y).1 h;obtain⟨m,h1,l,_,_,_,u,_⟩:=r x ((o x).1 g).1;exact(hg aa).2 ⟨m,h1,l.trans C,e,u e hex,A⟩
 have ak:∀a b,E S a b->E (goN S k) a b:=by intro a b h;obtain⟨x,g,C,e,hex,A⟩:=(hg W).1 h;refine(hg Y).2 ⟨x,(o x).2 ⟨g,fun _ hk=>?_⟩,C,e,hex,A⟩;obtain⟨_,_,_,_,_,_,_,Z⟩:=r x g;rw[Z hk]at hex;cases hex
 have al:∀a b,b≠k->E v.2.1 a b->E (goN S k) a b:=by intro a b hb h;obtain⟨x,g,C,e,hex,A⟩:=(hg aa).1 h;obtain⟨m,h1,l,_,u⟩:=U x g;exact ak a b ((hg W).2 ⟨m,h1,l.trans C,e,u e hex (A▸hb),A⟩)
 have an:∀b,dI v.2.1 1 b->b≠k->dI (goN S k) 1 b:=by
  intro b h
  induction h with
  |single h=>exact fun hb=>.single (al _ _ hb h)
  |tail h1 l aK=>exact fun hb=>.tail (aK fun h=>aD _ (h▸l)) (al _ _ hb l)
 have aL:∀b,ch (goN S k) b=ch S b:=by
  intro b;unfold goN;cases decide (ch S k=0)
  ·rfl
  ·refine aie b fun x g ai=>?_
   obtain⟨_,_,_,_,_,_,_,Z⟩:=r x g;have e:x.1=k:=by simpa using ai
   exact Z e
 have aM:∀x,x∈goN S k->∀e,e∈aq x->(bp v.2.1 e.2.1).isSome=true->(bp (goN S k) e.2.1).isSome=true:=by intro x g e hex hs;obtain⟨y,q,ao⟩:=lT.1 hs;obtain⟨ar,h1,l,_,_⟩:=U y q;refine lT.2 ⟨ar,(o ar).2 ⟨h1,fun p hk=>?_⟩,l.trans ao⟩;refine NK p x ((o x).1 g).1 e hex ?_;exact ao.symm.trans (l.symm.trans hk)
 refine lj.2 ⟨hm.next,cw X.length_le ?_,aj,?_,?_,?_,?_,?_,?_,?_⟩
 ·have:=congrArg List.length af;unfold prs at this;rw[List.length_map,List.length_map]at this;rw[this];exact hm.len
 ·obtain⟨z,L,D,aN⟩:=hm.root;obtain⟨M,h1,l,u,_⟩:=U z L;exact⟨M,(o M).2 ⟨h1,fun _ h=>aB (h.symm.trans (l.trans D))⟩,l.trans D,u.trans aN⟩
 ·intro x g;obtain⟨m,h1,l,_⟩:=r x ((o x).1 g).1;rw[<-l];exact hm.ids m h1
 ·intro x g;exact(aI x ((o x).1 g).1).to fun e hex h=>aM x g e hex h
 ·intro x g B;obtain⟨m,h1,l,_⟩:=r x ((o x).1 g).1;by_cases hk:bb x=k
  ·have p:ch S k≠0:=fun p=>((o x).1 g).2 p hk
   obtain⟨z,L,e,ab,V⟩:=aih p;have av:E (goN S k) (bb z) k:=ak _ _ ((hg W).2 ⟨z,L,rfl,e,ab,V⟩);obtain⟨M,aR,aw,_,_,_,_,aS⟩:=r z L;rw[hk];by_cases D:bb z=1
   ·exact .single (D▸av)
   ·refine .tail (an _ (aw▸hm.reach M aR (by rw[aw];exact D)) fun h=>?_) av;rw[aS h]at ab;cases ab
  ·exact an _ (l▸hm.reach m h1 (by rw[l];exact B)) hk
 ·intro x g B aT;obtain⟨m,h1,l,u,_⟩:=r x ((o x).1 g).1;have aU:=hm.once m h1 (by rw[l];exact B) (u.trans aT);have hn:=aF (bb x);rw[l]at aU;show ch (goN S k) (bb x)=1;rw[aL];by_cases hk:bb x=k
  ·exfalso;rw[cf hk.symm]at hn;simp only[au]at hn;exact((o x).1 g).2 (by rw[<-hk];omega) hk
  ·rw[bO (fun h=>hk h.symm)]at hn;simp only[ay]at hn;omega
 ·refine cw ?_ (aG▸hm.bytes);unfold goN;cases decide (ch S k=0)
  ·exact bu _
  ·exact FX _ _ S
 ·refine aid aa Y ?_ (fun a b h=>vI aJ h) (fun x g=>?_) hm.over
  ·rw[<-af];exact X.map _
  ·obtain⟨m,h1,l,_,aV,aW,_⟩:=r x ((o x).1 g).1;exact⟨m,h1,l,aV,aW⟩
def yt.ok{v:ad.D}{c:aM.D}{x:aL.D}{w:ad.D}(hv:bY v)(h:yt v c x w):bY w:=by obtain⟨r,i,j,hr,hc,hn,a,_,hl,b,he,_,_,rfl⟩:=h.out;exact XD hv (b3 a).1 hl (hr.named hc hn).1 b he
def XE{u:ad.D}(aC:bY u){rd iQ:Int}{ir it:Nat}{ck dO:aO}{bx:Int}(h:qN u.2.1 rd iQ ir it ck dO bx)(aD:g_ dO=true)(hlen:rd≠iQ->(aq (I J u.2.1 it)).length<12)
  (hb:∀j,bp u.2.1 bx=some j->kindOf (I J u.2.1 j)=2->iQ≠bx/\¬dI u.2.1 bx iQ) (aE:eD (en u.2.1 ir ck it dO bx)=0):bY (u.1,en u.2.1 ir ck it dO bx,()):=by
 have hm:=lj.1 aC;have aa:=kc hm.jB;have r:=b3 h.hr;have D:=b3 h.ht;have F:=cI (t:=J) r.1;have k:=hm.ino _ F;have aF:bb (I J u.2.1 ir)=rd:=r.2;have v:bb (I J u.2.1 it)=iQ:=D.2;obtain⟨j,al⟩:=Option.isSome_iff_exists.1 h.ex;have P:=b3 al;have an:bb (I J u.2.1 j)=bx:=P.2;obtain⟨d,W,ao,X⟩:=pd (N:=aq (I J u.2.1 ir)) (s:=ck) (by rw[h.look];exact h.W6);rw[h.look]at X;have aG:bx≠1:=X▸(k.names d W).2.1;have w:bb (b4 (I J u.2.1 ir) (b_ (aq (I J u.2.1 ir)) ck))=bb (I J u.2.1 ir):=qP _ _;have A:=fun {x:aQ}=> mem_set (x:=x) aa r.1 w
 have Y:(dx u.2.1 ir ck).Pairwise fun a b=>bb a<bb b:=tG hm.jB r.1 w
 have Q:=kc Y;have G:∀id,bp (dx u.2.1 ir ck) id=bp u.2.1 id:=fun id=>NS r.1 id
 have ar:(dx u.2.1 ir ck).length=u.2.1.length:=bL;have B:it<(dx u.2.1 ir ck).length:=by rw[ar];exact D.1
 have aH:∀b,ch (dx u.2.1 ir ck) b+cond (bx==b) 1 0=ch u.2.1 b:=by intro b;have h1:=Ga (y:=b4 (I J u.2.1 ir) (b_ (aq (I J u.2.1 ir)) ck)) r.1 b;have q:=N6 k.sorted W b;rw[jA]at h1;rw[ao,X]at q;show ch (List.set _ _ _) b+_=_;omega
 have au:∀x,x∈dx u.2.1 ir ck->j' (dx u.2.1 ir ck) x:=by
  intro x g;rcases A.1 g with rfl|⟨g,n⟩
  ·exact⟨k.mode,k.uid,k.gid,k.kind,fun hk=>absurd h.qO hk,k.file,k.lQ,fun hk=>⟨(k.dir hk).1,(k.dir hk).2.1,(k.dir hk).2.2.1,cw (tA _ _) (k.dir hk).2.2.2⟩,fun e he=>by rw[G];exact k.names e (qM he),tE k.sorted ck⟩
  ·exact(hm.ino x g).to fun e _ hs=>by rw[G];exact hs
 have aI:∀a b,b≠bx->E u.2.1 a b->E (dx u.2.1 ir ck) a b:=by
  intro a b Z C;obtain⟨x,g,T,e,hex,ab⟩:=(hg aa).1 C;by_cases o:bb x=bb (I J u.2.1 ir)
  ·have aJ:=lk aa g F o;subst aJ;refine(hg Q).2 ⟨_,A.2 (.inl rfl),w.trans T,e,List.mem_filter.2 ⟨hex,?_⟩,ab⟩;have:e.1≠ck:=fun h1=>Z (by rw[<-ab,<-F4 k.sorted hex,h1,h.look])
   unfold bm;simp[this]
  ·exact(hg Q).2 ⟨x,A.2 (.inr ⟨g,by rw[w];exact o⟩),T,e,hex,ab⟩
 have aK:∀x,x∈u.2.1->∃i,i∈dx u.2.1 ir ck/\bb i=bb x/\kindOf i=kindOf x:=by
  intro x g;by_cases o:bb x=bb (I J u.2.1 ir)
  ·exact⟨_,A.2 (.inl rfl),w.trans o.symm,by rw[lk aa g F o];rfl⟩
  ·exact⟨x,A.2 (.inr ⟨g,by rw[w];exact o⟩),rfl,rfl⟩
 have av:∀x,x∈dx u.2.1 ir ck->∃i,i∈u.2.1/\bb i=bb x/\kindOf i=kindOf x:=by
  intro x g;rcases A.1 g with rfl|⟨g,n⟩
  ·exact⟨_,F,rfl,rfl⟩
  ·exact⟨x,g,rfl,rfl⟩
 have U:kindOf (I J (dx u.2.1 ir ck) it)=2/\(aq (I J (dx u.2.1 ir ck) it)).length<12/\(∀e,e∈aq (I J (dx u.2.1 ir ck) it)->e.1≠dO)/\bb (I J (dx u.2.1 ir ck) it)=iQ:=by
  unfold dx;rw[iq r.1];by_cases ac:ir=it
  ·subst ac;rw[bg rfl];refine⟨h.qO,?_,fun e he=>h.no e (qM he),v⟩;show(b_ (aq (I J u.2.1 ir)) ck).length<12;have aZ:=(k.dir h.qO).2.2.2;have:(b_ (aq (I J u.2.1 ir)) ck).length<(aq (I J u.2.1 ir)).length:=by unfold b_;refine List.length_filter_lt_length_iff_exists.2 ⟨d,W,?_⟩;unfold bm;simp[ao]
   omega
  ·rw[bd ac];refine⟨h.NR,hlen fun he=>ac ?_,h.no,v⟩;have:=lk aa F (cI D.1) (by rw[aF,v];exact he);have aw:=h.hr;rw[he,h.ht]at aw;exact(aS aw).symm
 have ae:=cI (t:=J) B;have H:bb (b4 (I J (dx u.2.1 ir ck) it) (ins (aq (I J (dx u.2.1 ir ck) it)) dO bx))=bb (I J (dx u.2.1 ir ck) it):=qP _ _;have V:=fun {x:aQ}=> mem_set (x:=x) Q B H
 have aL:(en u.2.1 ir ck it dO bx).Pairwise fun a b=>bb a<bb b:=tG Y B H
 obtain⟨af,K⟩:=N7 Y B dO bx;rw[U.2.2.2]at K;have af:∀a b,E (dx u.2.1 ir ck) a b->E (en u.2.1 ir ck it dO bx) a b:=af
 have K:E (en u.2.1 ir ck it dO bx) iQ bx:=K;have ah:∀id,bp (en u.2.1 ir ck it dO bx) id=bp u.2.1 id:=fun id=>(W7 B id).trans (G id)
 have aM:∀b,ch (en u.2.1 ir ck it dO bx) b=ch u.2.1 b:=by intro b;have h1:ch (en u.2.1 ir ck it dO bx) b=ch (dx u.2.1 ir ck) b+cond (bx==b) 1 0:=N8 B dO bx b;have q:=aH b;omega
 have aN:∀x,x∈u.2.1->∃i,i∈en u.2.1 ir ck it dO bx/\bb i=bb x/\kindOf i=kindOf x:=by
  intro x g;obtain⟨ax,m,l,p⟩:=aK x g;by_cases o:bb ax=bb (I J (dx u.2.1 ir ck) it)
  ·exact⟨_,V.2 (.inl rfl),H.trans (o.symm.trans l),by rw[<-p,lk Q m ae o];rfl⟩
  ·exact⟨ax,V.2 (.inr ⟨m,by rw[H];exact o⟩),l,p⟩
 have aj:∀x,x∈en u.2.1 ir ck it dO bx->∃i,i∈u.2.1/\bb i=bb x/\kindOf i=kindOf x:=by
  intro x g;rcases V.1 g with rfl|⟨g,n⟩
  ·obtain⟨i,m,l,p⟩:=av _ ae;exact⟨i,m,l.trans H.symm,p⟩
  ·exact av x g
 have C:∀a b,b≠bx->E u.2.1 a b->E (en u.2.1 ir ck it dO bx) a b:=fun a b Z he=>af a b (aI a b Z he)
 have ay:iQ≠bx/\¬dI u.2.1 bx iQ:=by
  by_cases hk:kindOf (I J u.2.1 j)=2
  ·exact hb j al hk
  ·have aR:∀b,¬E u.2.1 bx b:=by
    intro b he;obtain⟨x,g,T,e,hex,_⟩:=(hg aa).1 he;rw[lk aa g (cI P.1) (T.trans an.symm),((hm.ino _ (cI P.1)).plain hk).2.2]at hex;cases hex
   refine⟨fun he=>hk ?_,fun ak=>?_⟩
   ·rw[<-lk aa (cI D.1) (cI P.1) (by rw[v,an];exact he)];exact h.NR
   ·have:∀c,dI u.2.1 bx c->False:=by
     intro c hc
     induction hc with
     |single h=>exact aR _ h
     |tail _ _ L=>exact L
    exact this _ ak
 have aT:∀c,dI u.2.1 1 c->c≠bx->¬dI u.2.1 bx c->dI (en u.2.1 ir ck it dO bx) 1 c:=by
  intro c hc
  induction hc with
  |single h1=>exact fun n _=>.single (C _ _ n h1)
  |tail h1 q L=>exact fun n az=>.tail (L (fun he=>az (.single (he▸q))) fun ak=>az (.tail ak q)) (C _ _ n q)
 have aA:dI (en u.2.1 ir ck it dO bx) 1 bx:=by
  by_cases h1:iQ=1
  ·exact .single (h1▸K)
  ·refine .tail (aT iQ ?_ ay.1 ay.2) K;have:=hm.reach _ (cI D.1) (by rw[v];exact h1);rwa[v]at this
 have aU:∀c,dI u.2.1 1 c->dI (en u.2.1 ir ck it dO bx) 1 c:=by
  intro c hc
  induction hc with
  |@single b h1=>
   by_cases M:b=bx
   ·rw[M];exact aA
   ·exact .single (C _ _ M h1)
  |@tail b c h1 q L=>
   by_cases M:c=bx
   ·rw[M];exact aA
   ·exact .tail L (C _ _ M q)
 have aB:=Gb.1 aE;refine lj.2 ⟨hm.next,?_,aL,?_,?_,?_,?_,?_,aB.1,aB.2⟩
 ·show(List.set _ _ _).length<=24;rw[bL,ar];exact hm.len
 ·obtain⟨z,aV,aW,aX⟩:=hm.root;obtain⟨aY,m,l,p⟩:=aN z aV;exact⟨aY,m,l.trans aW,p.trans aX⟩
 ·intro x g;obtain⟨i,m,l,p⟩:=aj x g;rw[<-l];exact hm.ids i m
 ·intro x g;rcases V.1 g with rfl|⟨g,n⟩
  ·refine(au _ ae).named (l':=en u.2.1 ir ck it dO bx) (fun id hs=>?_) U.1 aD aG (by rw[ah];exact h.ex) U.2.1 U.2.2.1;rw[ah];rwa[G]at hs
  ·refine(au x g).to fun e _ hs=>?_
   show(bp (en u.2.1 ir ck it dO bx) e.2.1).isSome=true;rw[ah];rwa[G]at hs
 ·intro x g n;obtain⟨i,m,l,p⟩:=aj x g;rw[<-l];exact aU _ (hm.reach i m (by rw[l];exact n))
 ·intro x g n hk;obtain⟨i,m,l,p⟩:=aj x g;show ch (en u.2.1 ir ck it dO bx) (bb x)=1;rw[aM,<-l];exact hm.once i m (by rw[l];exact n) (p.trans hk)
def aii{v:ad.D}{s:aO}(hv:bY v){i:Nat}(g:i<v.2.1.length)(m:bY (jQ v i s))(a b:Int)(h:E (jQ v i s).2.1 a b):E v.2.1 a b:=by
 have hm:=lj.1 hv;have aa:=kc hm.jB;have n:=kc (lj.1 m).jB;have j:bb (b4 (I J v.2.1 i) (b_ (aq (I J v.2.1 i)) s))=bb (I J v.2.1 i):=qP _ _;obtain⟨x,d,k,e,hex,l⟩:=(hg n).1 h
 have o:x∈v.2.1.set i (b4 (I J v.2.1 i) (b_ (aq (I J v.2.1 i)) s)):=by
  unfold jQ goN at d
  cases hc:decide (ch (v.2.1.set i (b4 (I J v.2.1 i) (b_ (aq (I J v.2.1 i)) s))) (dC (aq (I J v.2.1 i)) s)=0)with
  |true=>rw[hc]at d;exact(List.mem_filter.1 d).1
  |false=>rw[hc]at d;exact d
 rcases (mem_set aa g j).1 o with rfl|⟨d,_⟩
 ·exact(hg aa).2 ⟨_,cI g,j.symm.trans k,e,qM hex,l⟩
 ·exact(hg aa).2 ⟨x,d,k,e,hex,l⟩
def vD.ok{v:ad.D}{c:aM.D}{x:aL.D}{w:ad.D}(hv:bY v)(h:vD v c x w):bY w:=by
 obtain⟨r,t,j,hr,hc,Y,B,ht,C,L,_,h⟩:=h.out
 have D:g_ (nameOf t)=true:=by
  rcases L with M|P
  ·exact(ht.named M C).2.1
  ·exact(ht.new P C).2.1
 rcases h with⟨_,rfl⟩|⟨Q,n,l,ir,it,ai,rfl,E,h⟩
 ·exact hv
 rcases h with⟨_,rfl,hlen⟩|⟨i2,eA,o,F,g,p,i,Z,rfl⟩
 ·refine XE hv ai D hlen (fun q u hk=>?_) E;obtain rfl:q=j:=aS (u.symm.trans B);exact n hk
 ·have k:=b3 o;have y:br t≠0:=by have:=hv.WY (cI (b3 g).1);have e:bb (I J v.2.1 eA)=br t:=(b3 g).2;omega
  have G:=XD hv k.1 i y g p;obtain⟨_,H⟩:=Xa hv k.1 F (nameOf t);have T:=fun a b=>aii (s:=nameOf t) hv k.1 G a b
  have iB:(aq (I J (jQ v i2 (nameOf t)).2.1 it)).length<12:=by
   have U:cc t≠dC (aq (I J v.2.1 i2)) (nameOf t):=by rw[i];intro e;rw[<-e,o]at g;rw[<-aS g]at p;obtain⟨d,m,_⟩:=pd (N:=aq (I J v.2.1 i2)) (s:=nameOf t) (by rw[i];exact y);rw[p]at m;cases m
   obtain⟨k',z,A⟩:=H (cc t) U i2 o;obtain rfl:k'=it:=aS (z.symm.trans ai.ht);rw[A,bg rfl,jA];have ab:=((hv.ino i2 k.1).dir F).2.2.2;obtain⟨d,m,V,_⟩:=pd (N:=aq (I J v.2.1 i2)) (s:=nameOf t) (by rw[i];exact y);have:(b_ (aq (I J v.2.1 i2)) (nameOf t)).length<(aq (I J v.2.1 i2)).length:=by unfold b_;refine List.length_filter_lt_length_iff_exists.2 ⟨d,m,?_⟩;unfold bm;simp[V]
   omega
  refine XE G ai D (fun _=>iB) (fun q u hk=>?_) E;have W:br r≠dC (aq (I J v.2.1 i2)) (nameOf t):=by rw[i];exact fun e=>Q e.symm
  obtain⟨k',z,A⟩:=H (br r) W j B;obtain rfl:k'=q:=aS (z.symm.trans u)
  have K:kindOf (I J v.2.1 j)=2:=by
   rw[A]at hk;split at hk
   ·rename_i e;subst e;exact hk
   ·exact hk
  exact⟨(n K).1,fun X=>(n K).2 (vI T X)⟩
def pj.ok{v:ad.D}{c:aM.D}{x:aL.D}{w:ad.D}(hv:bY v)(hc:dB c=true)(a:hd x)(h:pj v c x w):bY w:=by
 rcases h with⟨hk,h⟩|⟨_,h⟩|⟨_,h⟩|⟨_,h⟩|⟨_,h⟩|⟨_,h⟩|⟨_,h⟩|⟨_,h⟩|⟨_,h⟩
 ·exact h.ok hv hc a hk
 ·exact h.ok hv
 ·exact h.ok hv a
 ·exact h.ok hv
 ·exact h.ok hv
 ·exact h.ok hv
 ·exact h.ok hv
 ·exact h.ok hv
 ·rw[h];exact hv
def vH.ok{v:ad.D}{c:aM.D}{x:aL.D}{w:ad.D}{k:Int}{t:aO}(h:vH v c x w k t)(hv:gC v=true):gC w=true:=by
 have a:w=v->gC w=true:=fun e=>by rw[e];exact hv
 cases hc:dB c with
 |false=>exact a (h.Xs hv hc).1
 |true=>
 cases b:eJ x with
 |false=>exact a (h.call hv hc (.inl b)).1
 |true=>
 by_cases d:20<aF x
 ·exact a (h.call hv hc (.inr d)).1
 by_cases hk:k=0
 ·exact tx.2 ((h.done hv hc b (by omega) hk).ok (tx.1 hv) hc (qL.1 b))
 ·exact a (h.no hv hk)
end Go.LM.i_
