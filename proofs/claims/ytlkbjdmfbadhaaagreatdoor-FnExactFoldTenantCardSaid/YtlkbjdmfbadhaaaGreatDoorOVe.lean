/- Tellings, a call as a whole; a right volume stays right. Conditions: each theorem's own hypotheses. -/
import Derived.Test.YtlkbjdmfbadhaaaGreatDoorOVd
set_option linter.unusedVariables false
set_option linter.unusedSimpArgs false
namespace Go.LM.ks
def mN(a:Int):aP:=eZ [IntKind.wrap .u8 (aw (48+a))]
theorem sK(a:Int):(mN a).length=1:=rfl
def l6(x:Int):Int:=if Int.tmod x 10<0 then -(Int.tmod x 10) else Int.tmod x 10
def uY(b:Bool)(t:aP):aP:=cond b ([45]++t) t
theorem adK(m:Nat)(x:Int)(t:aP)(b:Bool):pC (m+1) x t b=B0 (pC m) x t b:=rfl
theorem apW(m:Nat)(y:Int)(t:aP)(x:Int):(nu (m+1)).bn y t x=N' (nu m) y t x:=rfl
theorem apX(m:Nat)(y:Int)(t:aP)(x a:Int):(nu (m+1)).ee y t x a=Oa (nu m) y t x a:=rfl
theorem S2(x:Int):(-9≤Int.tmod x 10∧Int.tmod x 10≤9)∧(0≤x→0≤Int.tmod x 10)∧(x≤0→Int.tmod x 10≤0):=by have h1:=Int.tmod_lt_of_pos x (show(0:Int)<10 by decide);have h2:=Int.lt_tmod_of_pos x (show(0:Int)<10 by decide);refine⟨by omega,fun h=>Int.tmod_nonneg _ h,fun h=>?_⟩;have h3:0≤Int.tmod (-x) 10:=Int.tmod_nonneg _ (by omega);rw[Int.neg_tmod]at h3;omega
theorem S3(x:Int):10*Int.tdiv x 10+Int.tmod x 10=x:=Int.mul_tdiv_add_tmod x 10
theorem adL(neg:Bool)(t:aP)(h:t.length≤1000):
  cond neg (cond (room (([45]:aP).length+t.length)) (some (([45]:aP)++t,())) none) (some (t,()))=some (uY neg t,()):=by
 rw[cc (by simp;omega)];cases neg<;>rfl
theorem apY(m:Nat)(t:aP)(neg:Bool)(h:t.length≤1000):pC (m+1) 0 t neg=some (uY neg t,()):=by rw[adK];unfold B0;rw[show((0:Int) != 0)=false from rfl];simp only[cond_false];exact adL neg t h
theorem adM(m:Nat)(x:Int)(t:aP)(neg:Bool)(hx:x≠0)(h:t.length≤1000)(hb : -4000000000000000000≤x∧x≤4000000000000000000):pC (m+1) x t neg=pC m (Int.tdiv x 10) (mN (l6 x)++t) neg:=by
 have h1:=S2 x;have h2:=S3 x;rw[adK];unfold B0;rw[dv hx];simp only[cond_true];rw[cH (a:=Int.tdiv x 10) (by omega) (by omega)];by_cases hn:Int.tmod x 10<0
 ·rw[decide_eq_true hn];simp only[cond_true];rw[cH (a:=0-Int.tmod x 10) (by omega) (by omega)];rw[show l6 x=0-Int.tmod x 10 by unfold l6;rw[if_pos hn];omega];rw[show eZ [IntKind.wrap .u8 (aw (48 +(0-Int.tmod x 10)))]=mN (0-Int.tmod x 10) from rfl,cc (by rw[sK];omega)];rfl
 ·rw[decide_eq_false hn];simp only[cond_false];rw[show l6 x=Int.tmod x 10 by unfold l6;rw[if_neg hn]];rw[show eZ [IntKind.wrap .u8 (aw (48+Int.tmod x 10))]=mN (Int.tmod x 10) from rfl,cc (by rw[sK];omega)];rfl
theorem S4(m:Nat)(y x:Int)(t:aP)(h:t.length≤900)(hb : -4000000000000000000≤x∧x≤4000000000000000000):
  (nu (m+2)).bn y t x=cond (cA x (-9) 9) (some (uY (decide (y<0)) (mN (l6 x)++t),())) ((nu m).bn y (mN (l6 x)++t) (Int.tdiv x 10)):=by
 have h1:=S2 x;have h2:=S3 x;have key:∀a,(nu (m+1)).ee y t x a=cond (cA x (-9) 9) (some (uY (decide (y<0)) (mN a++t),())) ((nu m).bn y (mN a++t) (Int.tdiv x 10)):=by intro a;rw[apX];unfold Oa;rw[show eZ [IntKind.wrap .u8 (aw (48+a))]=mN a from rfl,cc (by rw[sK];omega),jL,cH (a:=Int.tdiv x 10) (by omega) (by omega)];simp only[cond_true,al];rw[adL (decide (y<0)) (mN a++t) (by rw[List.length_append,sK];omega)]
 rw[apW];unfold N';by_cases hn:Int.tmod x 10<0
 ·rw[decide_eq_true hn];simp only[cond_true];rw[cH (a:=0-Int.tmod x 10) (by omega) (by omega),key,show l6 x=0-Int.tmod x 10 by unfold l6;rw[if_pos hn];omega]
 ·rw[decide_eq_false hn];simp only[cond_false];rw[key,show l6 x=Int.tmod x 10 by unfold l6;rw[if_neg hn]]
theorem adN:∀(k:Nat) (x:Int),k≤18→x≠0 → -(10^k:Int)<x→x<(10^k:Int) →
  ∃t:aP,t.length≤k∧(∀(m:Nat) (a:aP) (neg:Bool),k<m→a.length+k≤500→pC m x a neg=some (uY neg (t++a),())) ∧
   (∀(m:Nat) (y:Int) (a:aP),2*k<m→a.length+k≤500→(nu m).bn y a x=some (uY (decide (y<0)) (t++a),())):=by
 intro k
 induction k with
 |zero=>intro x hk h0 h1 h2;simp at h1 h2;omega
 |succ k ih=>
  intro x hk h0 h1 h2;have af:=S2 x;have hm:=S3 x;have C5:(10^k:Int)≤100000000000000000:=by have:(10:Nat)^k≤10^17:=Nat.pow_le_pow_right (by decide) (by omega);have h3:((10^k:Nat):Int)≤((10^17:Nat):Int):=Int.ofNat_le.2 this;simpa using h3
  have av:(10^(k+1):Int)=10*10^k:=by rw[Int.pow_succ];omega
  rw[av]at h1 h2;generalize xN:(10^k:Int)=P at *;by_cases jB : -9≤x∧x≤9
  ·refine⟨mN (l6 x),by rw[sK];omega,fun m a neg qj ha=>?_,fun m y a qj ha=>?_⟩
   ·obtain⟨m,rfl⟩:∃q,m=q+1+1:=⟨m-2,by omega⟩
    rw[adM _ x a neg h0 (by omega) (by omega),show Int.tdiv x 10=0 by omega];exact apY m _ neg (by rw[List.length_append,sK];omega)
   ·obtain⟨m,rfl⟩:∃q,m=q+2:=⟨m-2,by omega⟩
    rw[S4 m y x a (by omega) (by omega),show cA x (-9) 9=true from cR.2 jB];rfl
  ·obtain⟨t,ht,hs,hi⟩:=ih (Int.tdiv x 10) (by omega) (by omega) (by omega) (by omega);refine⟨t++mN (l6 x),by rw[List.length_append,sK];omega,fun m a neg qj ha=>?_,fun m y a qj ha=>?_⟩
   ·obtain⟨m,rfl⟩:∃q,m=q+1:=⟨m-1,by omega⟩
    rw[adM _ x a neg h0 (by omega) (by omega)];rw[hs m (mN (l6 x)++a) neg (by omega) (by rw[List.length_append,sK];omega),List.append_assoc]
   ·obtain⟨m,rfl⟩:∃q,m=q+2:=⟨m-2,by omega⟩
    rw[S4 m y x a (by omega) (by omega),show cA x (-9) 9=false from Bool.eq_false_iff.2 fun h=>jB (cR.1 h)];simp only[cond_false];rw[hi m y (mN (l6 x)++a) (by omega) (by rw[List.length_append,sK];omega),List.append_assoc]
def gl(x:Int):aP:=match wC (x,())with|some r=>r.1|none=>[]
theorem fT(x:Int)(h : -1000000000000<x∧x<1000000000000):(gl x).length≤20∧ff (x,())=some (gl x,())∧wC (x,())=some (gl x,()):=by
 obtain⟨t,h1,h2,h3⟩:∃t:aP,t.length≤20∧ff (x,())=some (t,())∧wC (x,())=some (t,()):=by
  by_cases h0:x=0
  ·subst h0;refine⟨[48],by simp,rfl,?_⟩;obtain⟨q,hq,_⟩:=kZ 2;show(nu aK).bn 0 [] 0=_;rw[hq,S4 q 0 0 [] (by simp) (by omega)];rfl
  ·obtain⟨t,ht,hs,hi⟩:=adN 12 x (by omega) h0 (by simpa using h.1) (by simpa using h.2);refine⟨uY (decide (x<0)) t,?_,?_,?_⟩
   ·unfold uY;cases decide (x<0)
    ·simp only[cond_false];omega
    ·simp only[cond_true,List.length_append,List.length_cons,List.length_nil];omega
   ·show cond (x==0) _ (pC aK x [] (decide (x<0)))=_;rw[bY h0];simp only[cond_false];rw[hs aK [] _ (jc (by omega)) (by simp),List.append_nil]
   ·show(nu aK).bn x [] x=_;rw[hi aK x [] (jc (by omega)) (by simp),List.append_nil]
 have e:gl x=t:=by unfold gl;rw[h3]
 rw[e];exact⟨h1,h2,h3⟩
theorem apZ(xs:List aP)(sep:aP)(B:Nat)(h:∀t,t∈xs→t.length≤B):(Lib.joinTail sep xs).length≤xs.length*(sep.length+B):=by
 induction xs with
 |nil=>simp[Lib.joinTail]
 |cons y r ih=>
  have h1:=h y (by simp);have h2:=ih fun t ht=>h t (by simp[ht])
  simp only[Lib.joinTail,List.map_cons,List.flatten_cons,List.length_append,List.length_cons,Nat.add_one_mul]at h2⊢;omega
theorem KP(xs:List aP)(sep:aP)(B:Nat)(h:∀t,t∈xs→t.length≤B):(Lib.join xs sep).length≤xs.length*(sep.length+B):=by
 cases xs with
 |nil=>simp[Lib.join_nil]
 |cons y r=>
  have h1:=h y (by simp);have h2:=apZ r sep B fun t ht=>h t (by simp[ht])
  rw[Lib.join_cons,List.length_append,List.length_cons,Nat.add_one_mul];omega
theorem ap0(xs:List aP)(y sep:aP)(h:xs≠[]):Lib.join (xs++[y]) sep=Lib.join xs sep++sep++y:=by
 cases xs with
 |nil=>exact absurd rfl h
 |cons x r=>simp[Lib.join_cons,Lib.joinTail,List.append_assoc]
theorem adO(xs:List aP)(sep:aP)(B:Nat)(h:∀t,t∈xs→t.length≤B)(hl:xs.length*(sep.length+B)≤68719476736)(hn:xs.length≤68719476736):joinF xs sep=some (Lib.join xs sep,()):=by unfold joinF;rw[if_pos ⟨hn,Nat.le_trans (KP xs sep B h) hl⟩]
theorem S5(L:List Int)(hl:L.length≤100)(h:∀x,x∈L → -1000000000000<x∧x<1000000000000):rY (L,())=some (Lib.join (L.map gl) [32],()):=by
 show wM aK L (L.length:Int) 0 []=_
 have:=nE L.length (by omega) (fun m i=>wM m L (L.length:Int) i ((L.take i.toNat).map gl)) (fun _=>some (Lib.join (L.map gl) [32],())) (fun _=>True) (fun m _=>by
  simp only[wM,GV];rw[cl (Nat.le_refl _),Int.toNat_natCast,List.take_length];simp only[cond_false];show Option.bind (joinF (L.map gl) [32]) _=_
  rw[adO _ _ 20 (fun t ht=>by
   obtain⟨x,hx,rfl⟩:=List.mem_map.1 ht
   exact(fT x (h x hx)).1) (by simp;omega) (by simp;omega)];rfl) (fun m i hi _ hw ih=>by
  have hx:L[i]∈L:=List.getElem_mem hi;have ih:=ih trivial;rw[Int.toNat_natCast_add_one,List.take_succ_eq_append_getElem hi,List.map_append]at ih;simp only[wM,GV,hw];rw[bN hi,bf hi,Int.toNat_natCast];simp only[cond_true,al];rw[show I (ad.int .i64) L i=L[i] from c3 hi,(fT _ (h _ hx)).2.2];simp only[al];rw[cc (by simp;omega)]
  exact ih) L.length 0 aK (by omega) (jc (by omega)) trivial
 simpa using this
def dR(v:ag.D)(c:aM.D)(x:aL.D)(a:Option (an.D×aO.D×Unit))(b:Option (an.D×Unit)):Prop:=∃res:an.D,a=some (res,(v,c,x,()),())∧b=some (res,())∧res.2.1.length≤400∧(res.1=0∨res.2.1=[])∧0≤res.1∧res.1≤200
theorem dR.is{v:ag.D}{c:aM.D}{x:aL.D}{a:Option (an.D×aO.D×Unit)}{b:Option (an.D×Unit)}(k:Int)(t:aP)(ha:a=some ((k,t,()),(v,c,x,()),()))(hb:b=some ((k,t,()),()))(hl:t.length≤400:=by simp)(h0:k=0∨t=[]:=by simp)(hr:0≤k∧k≤200:=by decide):dR v c x a b:=⟨(k,t,()),ha,hb,hl,h0,hr⟩
theorem ap1(m:Nat)(a b d e):(fY (m+1)).bs a b d e=PX (fY m) a b d e:=rfl
theorem Af(m:Nat)(a b d e f):(fY (m+1)).dh a b d e f=uw (fY m) a b d e f:=rfl
theorem adP(m:Nat)(a b d e f):(fY (m+1)).xg a b d e f=Iy (fY m) a b d e f:=rfl
theorem adQ(m:Nat)(a b d e):(fY (m+1)).uv a b d e=Iz (fY m) a b d e:=rfl
theorem ap2(m:Nat)(a b d e):(fY (m+1)).Ix a b d e=PY (fY m) a b d e:=rfl
def nL(x:aL.D):Bool:=aD x != 11&&(aD x != 14||bU x==0)
def oO(x:aL.D):Bool:=(aD x==14&&(bU x != 0&&bU x != 1))||(aD x==17 && !cA (bU x) 0 7)
def uZ:an.D:=(0,([]:aP),())
theorem ap3(m:Nat)(v:ag.D)(c:aM.D)(x:aL.D)(z:an.D):(fY (m+1)).bs v c x z=Option.bind (fo (v,c,fB x,nL x,())) fun r=>(fY m).dh v c x z r.1:=by
 rw[ap1];unfold PX nL;show cond (aD x != 11) (cond (aD x != 14) (Option.bind (fo (v,c,fB x,true,())) _) (Option.bind (fo (v,c,fB x,bU x==0,())) _)) (Option.bind (fo (v,c,fB x,false,())) _)=_;cases aD x != 11
 ·rfl
 ·cases aD x != 14<;>rfl
theorem S6(K:ox)(v:ag.D)(c:aM.D)(x:aL.D)(hk:aD x≠18):sa K v c x=cond (oO x) (some ((22,[],()),())) (K.bs v c x uZ):=by
 unfold sa oO;have ap4:∀k:Option (an.D×Unit),Option.bind (dF (bU x,0,7,())) (fun v4=>cond (!v4.1) (some ((22,([]:aP),()),())) k)=cond (!cA (bU x) 0 7) (some ((22,([]:aP),()),())) k:=fun k=>by rw[j_];rfl
 show cond (aD x==18) _ (cond (aD x==14) (cond (bU x != 0) (cond (bU x != 1) _ (cond (aD x==17) (Option.bind (dF (bU x,0,7,())) _) _)) (cond (aD x==17) (Option.bind (dF (bU x,0,7,())) _) _)) (cond (aD x==17) (Option.bind (dF (bU x,0,7,())) (fun v4=>cond (!v4.1) (some ((22,([]:aP),()),())) (K.bs v c x uZ))) (K.bs v c x uZ)))=_;rw[bY hk];simp only[cond_false];by_cases yJ:aD x=14
 ·rw[cL yJ,bY (show aD x≠17 by omega)];cases bU x != 0<;>cases bU x != 1<;>rfl
 ·rw[bY yJ];simp only[cond_false,Bool.false_and,Bool.false_or];rw[ap4];cases aD x==17
  ·rfl
  ·cases cA (bU x) 0 7<;>rfl
theorem Dc(v:ag.D)(c:aM.D)(x:aL.D)(hk:aD x≠18)(hb:oO x=false)(cG:sB v.2.1)(r:a7.D)(hs:fo (v,c,fB x,nL x,())=some (r,())):
  ∃q,4611686018427387904<q∧lX (v,c,x,())=(fY (q+1)).dh v c x uZ r:=by
 obtain⟨q,hq,jy⟩:=kZ 2;refine⟨q,jy,?_⟩;show sa (fY aK) v c x=_;rw[S6 _ _ _ _ hk,hb,hq];simp only[cond_false];rw[ap3,hs];rfl
theorem Dd(v:ag.D)(c:aM.D)(x:aL.D)(q:Nat)(r:a7.D)(h:bP r≠0):(fY (q+1)).dh v c x uZ r=some ((bP r,[],()),()):=by rw[Af];unfold uw;show cond (bP r != 0) _ _=_;rw[dv h];rfl
theorem ap5(v:ag.D)(c:aM.D)(x:aL.D)(hv:b7 v)(hc:d' c=true)(hx:iO x)(hk:aD x=11):dR v c x (GS ((v,c,x,()),())) (lX (v,c,x,())):=by
 have cG:=hv.kA;have av:=hx.path;obtain⟨r,hr,f_,k8,k9⟩:=uW v c x false cG hc (by omega);obtain⟨q,hq,b5⟩:=Dc v c x (by omega) (by unfold oO;rw[bY (show aD x≠14 by omega),bY (show aD x≠17 by omega)];rfl) cG r (by rw[show nL x=false by unfold nL;rw[eA hk];rfl];exact f_);show dR v c x (OY (v,c,x,())) _;rw[b5];unfold OY;by_cases b_:bP r=0
 case neg=>rw[k8 b_,Dd v c x q r b_];simp only[al];rw[dv b_];exact dR.is (bP r) [] rfl rfl (by simp) (.inr rfl) (hr.1.rg)
 obtain⟨i,hi,fh⟩:=k9 b_;have bm:=ca hi;rw[fh,Af];unfold uw;show dR v c x _ (cond (bP r != 0) _ (Option.bind (fG (v,bz r,())) _));rw[eA b_,kb v _ cG.len hi];simp only[cond_false,al];rw[show((0:Int) != 0)=false from rfl,bf bm.1];simp only[cond_false,al];show dR v c x (cond (kindOf (I J v.2.1 i) != 3) _ _) (cond (aD x==4) _ (cond (aD x==11) (cond (kindOf (I J v.2.1 i) != 3) _ _) _));rw[bY (show aD x≠4 by omega),cL hk];simp only[cond_false,cond_true]
 cases kindOf (I J v.2.1 i) != 3 with
 |true=>exact dR.is 22 [] rfl rfl
 |false=>exact dR.is 0 (bX (I J v.2.1 i)) rfl rfl (by have:=hv.h6 bm.1;omega)
theorem ap6(v:ag.D)(c:aM.D)(x:aL.D)(hv:b7 v)(hc:d' c=true)(hx:iO x)(hk:aD x=17):
  dR v c x (Option.bind (G' ((v,c,x,()),())) fun v6=>Option.bind (eK (v6.1,())) fun br=>some (br.1,v6.2.1,())) (lX (v,c,x,())):=by
 have cG:=hv.kA;have av:=hx.path;show dR v c x (Option.bind (O5 (v,c,x,())) _) _;unfold O5;show dR v c x (Option.bind (Option.bind (dO (bU x,0,7,())) _) _) _;rw[jL];simp only[al]
 cases hN:cA (bU x) 0 7 with
 |false=>
  have dg:lX (v,c,x,())=some ((22,[],()),()):=by show sa (fY aK) v c x=_;rw[S6 _ _ _ _ (by omega),show oO x=true by unfold oO;rw[cL hk,hN];simp];rfl
  rw[dg];exact dR.is 22 [] rfl rfl
 |true=>
 obtain⟨r,hr,f_,k8,k9⟩:=uW v c x true cG hc (by omega);obtain⟨q,hq,b5⟩:=Dc v c x (by omega) (by unfold oO;rw[bY (show aD x≠14 by omega),hN];simp) cG r (by rw[show nL x=true by unfold nL;rw[dv (show aD x≠11 by omega),dv (show aD x≠14 by omega)];rfl];exact f_);rw[b5];simp only[Bool.not_true,cond_false];by_cases b_:bP r=0
 case neg=>rw[k8 b_,Dd v c x q r b_];simp only[al];rw[dv b_];exact dR.is (bP r) [] rfl rfl (by simp) (.inr rfl) (hr.1.rg)
 obtain⟨i,hi,fh⟩:=k9 b_;have bm:=ca hi;rw[fh,Af];unfold uw;show dR v c x _ (cond (bP r != 0) _ (Option.bind (fG (v,bz r,())) _));rw[eA b_,kb v _ cG.len hi];simp only[cond_false,al];rw[show((0:Int) != 0)=false from rfl,bf bm.1];simp only[cond_false,al];show dR v c x (Option.bind (Option.bind (qy (c,I J v.2.1 i,bU x,())) _) _) (cond (aD x==4) _ (cond (aD x==11) _ (cond (aD x==13) _ (cond (aD x==14) _ (cond (aD x==17) (Option.bind (kV (c,I J v.2.1 i,bU x,())) _) _)))));rw[bY (show aD x≠4 by omega),bY (show aD x≠11 by omega),bY (show aD x≠13 by omega),bY (show aD x≠14 by omega),cL hk];simp only[cond_false,cond_true];rw[CP c _ _ hc,qX c _ _ hc];simp only[al]
 cases may c (I J v.2.1 i) (bU x)with
 |false=>exact dR.is 13 [] rfl rfl
 |true=>exact dR.is 0 [] rfl rfl
theorem S7(L:List Int)(hl:L.length≤18)(h:∀x,x∈L → -1000000000000<x∧x<1000000000000):(Lib.join (L.map gl) [32]).length≤400:=by
 refine Nat.le_trans (KP _ _ 20 fun t ht=>?_) ?_
 ·obtain⟨x,hx,rfl⟩:=List.mem_map.1 ht;exact(fT x (h x hx)).1
 ·rw[List.length_map,List.length_singleton];omega
theorem ap7(N:List aC.D)(hN:N.length≤12)(dk:∀d,d∈N→d.1.length≤8):(Lib.join (N.map fun d=>d.1) [47]).length≤400:=by
 refine Nat.le_trans (KP _ _ 8 fun t ht=>?_) ?_
 ·obtain⟨d,af,rfl⟩:=List.mem_map.1 ht;exact dk d af
 ·rw[List.length_map,List.length_singleton];omega
theorem ap8(v:ag.D)(c:aM.D)(x:aL.D)(hv:b7 v)(hk:aD x=18):
  dR v c x (Option.bind (wu (v,())) fun cj=>Option.bind (rY ([(v.2.1.length:Int),cj.1],())) fun v9=>some ((0,v9.1,()),(v,c,x,()),())) (lX (v,c,x,())):=by
 have hl:=hv.len;have hb:=hv.bytes;show dR v c x _ (sa (fY aK) v c x);unfold sa;show dR v c x _ (cond (aD x==18) (Option.bind (ff ((v.2.1.length:Int),())) _) _);have d1:=fT (v.2.1.length:Int) (by omega);have d2:=fT (bytesOf v.2.1:Int) (by omega);rw[cL hk,ab5 v (by omega) (by omega),d1.2.1];simp only[cond_true,al];rw[cc (by simp;omega),ab4 v (by omega) (by omega)];simp only[cond_true,al];rw[d2.2.1];simp only[al];rw[cc (by simp;omega),S5 _ (by simp) (by intro y aR;simp at aR;omega)];refine dR.is 0 _ rfl ?_ (S7 _ (by simp) (by intro y aR;simp at aR;omega));simp[Lib.join_cons,Lib.joinTail,List.append_assoc]
def pV(P:Int→Prop)(v:ag.D)(c:aM.D)(x:aL.D)(a:Option (an.D×aO.D×Unit))(b:Option (an.D×Unit)):Prop:=∃res:an.D,a=some (res,(v,c,x,()),())∧b=some (res,())∧res.2.1.length≤400∧(res.1=0∨res.2.1=[])∧0≤res.1∧res.1≤200∧P res.1
theorem pV.is{P:Int→Prop}{v:ag.D}{c:aM.D}{x:aL.D}{a:Option (an.D×aO.D×Unit)}{b:Option (an.D×Unit)}(k:Int)(t:aP)(ha:a=some ((k,t,()),(v,c,x,()),()))(hb:b=some ((k,t,()),()))(xN:P k)(hl:t.length≤400:=by simp)(h0:k=0∨t=[]:=by simp)(hr:0≤k∧k≤200:=by decide):pV P v c x a b:=⟨(k,t,()),ha,hb,hl,h0,hr.1,hr.2,xN⟩
def Ag(v:ag.D)(c:aM.D)(x:aL.D)(k:Int):Prop:=∀r,cA (bU x) 0 1=true→fo (v,c,fB x,bU x==0,())=some (r,())→bP r=0→k=0
theorem ap9(v:ag.D)(c:aM.D)(x:aL.D)(hv:b7 v)(hc:d' c=true)(hx:iO x)(hk:aD x=14):pV (Ag v c x) v c x (BQ ((v,c,x,()),())) (lX (v,c,x,())):=by
 have cG:=hv.kA;have av:=hx.path;show pV (Ag v c x) v c x (O0 (v,c,x,())) _;unfold O0;show pV (Ag v c x) v c x (Option.bind (dO (bU x,0,1,())) fun v1=>cond (!v1.1) _ (Option.bind (nv ((v,c,x,()),bU x==0,())) _)) _;rw[jL];simp only[al]
 cases hN:cA (bU x) 0 1 with
 |false=>
  have dg:lX (v,c,x,())=some ((22,[],()),()):=by
   show sa (fY aK) v c x=_;have hn:¬(0≤bU x∧bU x≤1):=fun h=>by rw[cR.2 h]at hN;cases hN
   rw[S6 _ _ _ _ (by omega),show oO x=true by unfold oO;rw[cL hk,dv (show bU x≠0 by omega),dv (show bU x≠1 by omega)];rfl];rfl
  rw[dg];exact pV.is 22 [] rfl rfl (fun r h=>by rw[hN]at h;cases h)
 |true=>
 have q6:=cR.1 hN;obtain⟨r,hr,f_,k8,k9⟩:=uW v c x (bU x==0) cG hc (by omega)
 obtain⟨q,hq,b5⟩:=Dc v c x (by omega) (by
  unfold oO;rw[bY (show aD x≠17 by omega)];rcases (show bU x=0∨bU x=1 by omega)with h|h
  ·rw[eA h];simp
  ·rw[eA h];simp) cG r (by
  rw[show nL x=(bU x==0) by unfold nL;rw[dv (show aD x≠11 by omega),eA hk];rfl];exact f_)
 rw[b5];simp only[Bool.not_true,cond_false];by_cases b_:bP r=0
 case neg=>
  rw[k8 b_,Dd v c x q r b_];simp only[al];rw[dv b_];refine pV.is (bP r) [] rfl rfl ?_ (by simp) (.inr rfl) hr.1.rg
  exact(fun eS _ h h0=>by
   rw[f_]at h;have e:r=eS:=congrArg Prod.fst (aX h);rw[e]at b_
   exact absurd h0 b_)
 obtain⟨i,hi,fh⟩:=k9 b_;have bm:=ca hi;rw[fh,Af];unfold uw;show pV (Ag v c x) v c x _ (cond (bP r != 0) _ (Option.bind (fG (v,bz r,())) _));rw[eA b_,kb v _ cG.len hi];simp only[cond_false,al];rw[show((0:Int) != 0)=false from rfl,bf bm.1];simp only[cond_false,al];have bT:=hv.ino i bm.1;have adR:=hv.h6 bm.1;have hnl:(ax (I J v.2.1 i)).length≤1048576:=Nat.le_trans (gK bm.1) cG.dC
 have avd:0≤sA v.2.1 (I J v.2.1 i)∧sA v.2.1 (I J v.2.1 i)<100000000:=by
  unfold sA;have h1:=ab6 v.2.1 (I J v.2.1 i).1;have h2:nI v.2.1 (ax (I J v.2.1 i))≤(ax (I J v.2.1 i)).length:=List.length_filter_le _ _;have h3:=cG.dC;cases kindOf (I J v.2.1 i) != 2
  ·simp only[cond_false];omega
  ·simp only[cond_true];omega
 rw[an1 v _ cG.len cG.dC hnl];simp only[al]
 show pV (Ag v c x) v c x (Option.bind (rY ([kindOf (I J v.2.1 i),fr (I J v.2.1 i),eR (I J v.2.1 i),fL (I J v.2.1 i),sA v.2.1 (I J v.2.1 i),((bX (I J v.2.1 i)).length:Int)],())) _)
  (cond (aD x==4) _ (cond (aD x==11) _ (cond (aD x==13) _ (cond (aD x==14) (Option.bind (ff (kindOf (I J v.2.1 i),())) fun v4=>cond _ (Option.bind (ff (fr (I J v.2.1 i),())) fun v5=>cond _ (cond _ (Option.bind (ff (eR (I J v.2.1 i),())) fun v6=>cond _ (cond _ (Option.bind (ff (fL (I J v.2.1 i),())) fun br=>cond _ (cond _ (Option.bind (Iw (v,bh (I J v.2.1 i),())) _) _) _) _) _) _) _) _) _))))
 have xY:1≤kindOf (I J v.2.1 i)∧kindOf (I J v.2.1 i)≤3:=by rcases bT.kind with h|h|h<;>omega
 have hm:=bT.mode;have hu:=bT.uid;have aB:=bT.gid;have d1:=fT (kindOf (I J v.2.1 i)) (by omega);have d2:=fT (fr (I J v.2.1 i)) (by omega);have d3:=fT (eR (I J v.2.1 i)) (by omega);have d4:=fT (fL (I J v.2.1 i)) (by omega);have d5:=fT (sA v.2.1 (I J v.2.1 i)) (by omega);have d6:=fT ((bX (I J v.2.1 i)).length:Int) (by omega);rw[bY (show aD x≠4 by omega),bY (show aD x≠11 by omega),bY (show aD x≠13 by omega),cL hk];simp only[cond_false,cond_true];rw[S5 _ (by simp) (by intro y aR;simp at aR;omega),d1.2.1];simp only[al];rw[cc (by simp;omega),d2.2.1];simp only[cond_true,al];rw[cc (by simp;omega),cc (by simp;omega),d3.2.1];simp only[cond_true,al];rw[cc (by simp;omega),cc (by simp;omega),d4.2.1];simp only[cond_true,al];rw[cc (by simp;omega),cc (by simp;omega),an0 v (bh (I J v.2.1 i)) cG.len cG.dC (cG.jg i bm.1)];simp only[cond_true,al];rw[d5.2.1];simp only[cond_true,al];rw[cc (by simp;omega),cc (by simp;omega)];simp only[cond_true];show pV (Ag v c x) v c x _ (Option.bind (ff (((bX (I J v.2.1 i)).length:Int),())) _);rw[d6.2.1];simp only[cond_true,al];rw[cc (by simp;omega)];refine pV.is 0 _ rfl ?_ (fun _ _ _ _=>rfl) (S7 _ (by simp) (by intro y aR;simp at aR;omega));simp[Lib.join_cons,Lib.joinTail,List.append_assoc]
theorem ap_(v:ag.D)(c:aM.D)(x:aL.D)(hv:b7 v)(hc:d' c=true)(hx:iO x)(hk:aD x=14):dR v c x (BQ ((v,c,x,()),())) (lX (v,c,x,())):=by obtain⟨res,h1,h2,h3,h4,a6,bj,_⟩:=ap9 v c x hv hc hx hk;exact⟨res,h1,h2,h3,h4,a6,bj⟩
theorem KQ{s:aP}(h:nF s=true):s.length≤8:=by unfold nF at h;simp only[Bool.and_eq_true]at h;have:=cR.1 h.2.1;omega
theorem ap'{v:ag.D}(hv:b7 v){i:Nat}(bm:i<v.2.1.length)(h:kindOf (I J v.2.1 i)=2):(ax (I J v.2.1 i)).length≤12∧∀d,d∈ax (I J v.2.1 i)→d.1.length≤8:=by have bT:=hv.ino i bm;exact⟨(bT.dir h).2.2.2,fun d af=>KQ (bT.names d af).1⟩
theorem adS(l:List aT)(F:Flags):ky l F≤l.length:=by unfold ky pP;refine Nat.le_trans (List.length_filter_le _ _) ?_;rw[List.length_range];exact Nat.le_refl _
theorem De{α:Type}(f:α→Nat)(B:Nat):∀L:List α,(∀i,i∈L→f i≤B)→(L.map f).sum≤L.length*B
 | [],_=>by simp
 |y::r,h=>by
  have h1:=h y (by simp);have h2:=De f B r fun t ht=>h t (by simp[ht])
  rw[List.map_cons,List.sum_cons,List.length_cons,Nat.add_one_mul];omega
theorem aqa{v:ag.D}(hv:b7 v)(F:Flags):ka v.2.1 F≤v.2.1.length*64:=by unfold ka;refine Nat.le_trans (De _ 64 _ fun i hi=>?_) (Nat.mul_le_mul_right _ (adS v.2.1 F));unfold pP at hi;exact hv.h6 (List.mem_range.1 (List.mem_filter.1 hi).1)
theorem aqb(N:List aC.D)(hN:N.length≤12)(dk:∀d,d∈N→d.1.length≤8)(y:aO.D)(z:an.D):
  rZ aK N (N.length:Int) 0 z [] y=some ((0,Lib.join (N.map fun d=>d.1) [47],()),y,()):=by
 have:=nE N.length (by omega) (fun m i=>rZ m N (N.length:Int) i z ((N.take i.toNat).map fun d=>d.1) y) (fun _=>some ((0,Lib.join (N.map fun d=>d.1) [47],()),y,())) (fun _=>True) (fun m _=>by
  simp only[rZ,GY];rw[cl (Nat.le_refl _),Int.toNat_natCast,List.take_length];simp only[cond_false];show Option.bind (joinF (N.map fun d=>d.1) [47]) _=_
  rw[adO _ _ 8 (fun t ht=>by
   obtain⟨d,af,rfl⟩:=List.mem_map.1 ht
   exact dk d af) (by simp;omega) (by simp;omega)];rfl) (fun m i hi _ hw ih=>by
  have ih:=ih trivial;rw[Int.toNat_natCast_add_one,List.take_succ_eq_append_getElem hi,List.map_append]at ih;simp only[rZ,GY,hw];rw[bN hi,bf hi,Int.toNat_natCast];simp only[cond_true,al];rw[show I aC N i=N[i] from c3 hi];rw[cc (by simp;omega)]
  exact ih) N.length 0 aK (by omega) (jc (by omega)) trivial
 simpa using this
theorem aqc(n:aT)(hN:(ax n).length≤12)(dk:∀d,d∈ax n→d.1.length≤8)(z:an.D)(q:Nat)(hq:1000<q):
  (fY q).uv [] 0 z n=some ((0,Lib.join ((ax n).map fun d=>d.1) [47],()),()):=by
 have hb:∀i,(Lib.join (((ax n).take i).map fun d=>d.1) [47]).length≤108:=by
  intro i;refine Nat.le_trans (KP _ _ 8 fun t ht=>?_) ?_
  ·obtain⟨d,af,rfl⟩:=List.mem_map.1 ht;exact dk d (List.mem_of_mem_take af)
  ·simp;omega
 have key:=pQ 2 (fun m i=>(fY m).uv (Lib.join (((ax n).take i).map fun d=>d.1) [47]) (i:Int) z n) (some ((0,Lib.join ((ax n).map fun d=>d.1) [47],()),())) (ax n).length 1 (fun i hi B y he=>by
  have ave:((ax n)[i]).1.length≤8:=dk _ (List.getElem_mem hi);have yC:=hb i;refine he.jump 2 fun m=>?_
  rw[adQ];unfold Iz;show cond (decide ((i:Int)<((ax n).length:Int))) _ _=_;rw[bN hi];simp only[cond_true];have adT:∀t:aP,t.length≤200→(fY (m+1)).Ix t (i:Int) z n=(fY m).uv (t++((ax n)[i]).1) ((i+1:Nat):Int) z n:=fun t ht=>by rw[ap2];unfold PY;show Option.bind (ix (ax n).length (i:Int)) (fun v1=>cond (room (t.length +((I aC (ax n) v1).1).length)) ((fY m).uv (t++((I aC (ax n) v1).1)) (aw ((i:Int)+1)) z n) none)=_;rw[bf hi];simp only[al];rw[show I aC (ax n) i=(ax n)[i] from c3 hi,cc (by omega),dH i (by omega)];rfl
  have e1:((ax n).take (i+1)).map (fun d=>d.1)=((ax n).take i).map (fun d=>d.1)++[((ax n)[i]).1]:=by rw[List.take_succ_eq_append_getElem hi,List.map_append];rfl
  rw[e1];by_cases h0:i=0
  ·subst h0;rw[show decide (((0:Nat):Int)>0)=false from rfl];simp only[cond_false];rw[adT _ (by omega)];simp[Lib.join_nil,Lib.join_one]
  ·rw[decide_eq_true (show(i:Int)>0 by omega),cc (by rw[List.length_singleton];omega)];simp only[cond_true];rw[adT _ (by rw[List.length_append,List.length_singleton];omega),ap0];intro h;have:=congrArg List.length h;simp only[List.length_map,List.length_take,List.length_nil]at this
   omega) (b6.done fun m=>by
  rw[adQ];unfold Iz;show cond (decide (((ax n).length:Int)<((ax n).length:Int))) _ _=_
  rw[cl (Nat.le_refl _),List.take_length];rfl)
 have:=key q (by omega);simpa[Lib.join_nil]using this
theorem aqd(v:ag.D)(c:aM.D)(x:aL.D)(hv:b7 v)(hc:d' c=true)(hx:iO x)(hk:aD x=13∨aD x=20):dR v c x (BP ((v,c,x,()),())) (lX (v,c,x,())):=by
 have cG:=hv.kA;have av:=hx.path;obtain⟨r,hr,f_,k8,k9⟩:=uW v c x true cG hc (by omega);obtain⟨q,hq,b5⟩:=Dc v c x (by omega) (by unfold oO;rw[bY (show aD x≠14 by omega),bY (show aD x≠17 by omega)];rfl) cG r (by rw[show nL x=true by unfold nL;rw[dv (show aD x≠11 by omega),dv (show aD x≠14 by omega)];rfl];exact f_);show dR v c x (GX (rZ aK) (v,c,x,())) _;rw[b5];unfold GX;by_cases b_:bP r=0
 case neg=>rw[k8 b_,Dd v c x q r b_];simp only[al];rw[dv b_];exact dR.is (bP r) [] rfl rfl (by simp) (.inr rfl) (hr.1.rg)
 obtain⟨i,hi,fh⟩:=k9 b_;have bm:=ca hi;rw[fh,Af];unfold uw;show dR v c x _ (cond (bP r != 0) _ (Option.bind (fG (v,bz r,())) _));rw[eA b_,kb v _ cG.len hi];simp only[cond_false,al];rw[show((0:Int) != 0)=false from rfl,bf bm.1];simp only[cond_false,al]
 show dR v c x (cond (kindOf (I J v.2.1 i) != 2) _ (Option.bind (qy (c,I J v.2.1 i,4,())) fun v6=>cond (!v6.1) _ (cond (aD x==20) (Option.bind (BE (v,bh (I J v.2.1 i),())) fun v9=>Option.bind (rY ([fZ (I J v.2.1 i),fK (I J v.2.1 i),v9.1,v9.2.1],())) _) (rZ aK (ax (I J v.2.1 i)) ((ax (I J v.2.1 i)).length:Int) 0 (0,([]:aP),()) [] (v,c,x,())))))
  (cond (aD x==4) _ (cond (aD x==11) _ (cond (aD x==13) (cond (!(kindOf (I J v.2.1 i)==2)) _ (Option.bind (kV (c,I J v.2.1 i,4,())) fun v3=>cond (!v3.1) _ ((fY q).uv [] 0 uZ (I J v.2.1 i)))) (cond (aD x==14) _ (cond (aD x==17) _ (cond (!(kindOf (I J v.2.1 i)==2)) _ (Option.bind (kV (c,I J v.2.1 i,4,())) fun v12=>cond (!v12.1) _ (Option.bind (BW (v,bh (I J v.2.1 i),())) fun hy=>Option.bind (ff (fZ (I J v.2.1 i),())) fun gI=>cond _ (Option.bind (ff (fK (I J v.2.1 i),())) _) _))))))))
 rw[bY (show aD x≠4 by omega),bY (show aD x≠11 by omega),bY (show aD x≠14 by omega),bY (show aD x≠17 by omega)];simp only[cond_false];by_cases af:kindOf (I J v.2.1 i)=2
 case neg=>rw[dv af,bY af];refine dR.is 20 [] rfl ?_;cases aD x==13<;>rfl
 rw[eA af,cL af,qX c _ 4 hc,CP c _ 4 hc];simp only[cond_false,al,Bool.not_true]
 cases may c (I J v.2.1 i) 4 with
 |false=>refine dR.is 13 [] rfl ?_;cases aD x==13<;>rfl
 |true=>
 simp only[cond_false,Bool.not_true];have bT:=hv.ino i bm.1;have xY:=ap' hv bm.1 af;rcases hk with hk|hk
 ·rw[cL hk,bY (show aD x≠20 by omega)];simp only[cond_false,cond_true];rw[aqb _ xY.1 xY.2,aqc _ xY.1 xY.2 _ q (by omega)];exact dR.is 0 _ rfl rfl (ap7 _ xY.1 xY.2)
 ·rw[cL hk,bY (show aD x≠13 by omega)];simp only[cond_false,cond_true];have hvl:=hv.len;have Vg:=hv.bytes;obtain⟨out,hf,hu⟩:=aco v (bh (I J v.2.1 i)) cG.len cG.dC (by omega);obtain⟨nW,jD⟩:=acp hv.jg hv.jh hf;rw[nW,jD]at hu;have nZ:ky v.2.1 (eM v.2.1 (bh (I J v.2.1 i)))≤v.2.1.length:=adS _ _;have jw:ka v.2.1 (eM v.2.1 (bh (I J v.2.1 i)))≤v.2.1.length*64:=aqa hv _;have pU:=bT.dir af;have d1:=fT (fZ (I J v.2.1 i)) (by omega);have d2:=fT (fK (I J v.2.1 i)) (by omega);have d3:=fT (ka v.2.1 (eM v.2.1 (bh (I J v.2.1 i))):Int) (by omega);have d4:=fT (ky v.2.1 (eM v.2.1 (bh (I J v.2.1 i))):Int) (by omega);rw[hu,acm v _ cG.len cG.dC (by omega)];simp only[al];rw[S5 _ (by simp) (by intro y aR;simp at aR;omega),d1.2.1];simp only[al];rw[cc (by simp;omega),d2.2.1];simp only[cond_true,al];rw[cc (by simp;omega),cc (by simp;omega),d3.2.1];simp only[cond_true,al];rw[cc (by simp;omega),cc (by simp;omega),d4.2.1];simp only[cond_true,al];rw[cc (by simp;omega)];refine dR.is 0 _ rfl ?_ (S7 _ (by simp) (by intro y aR;simp at aR;omega));simp[Lib.join_cons,Lib.joinTail,List.append_assoc]
theorem aqe(n:aT)(x:aL.D)(a:Nat)(ha:(a:Int)=bU x)(A_:a≤1000000)(b:Nat)(hb:(b:Int)=eB x)(hb2:b≤1000000)(hl:(bX n).length≤64)(z:an.D)(q:Nat)(hq:1000<q):
  (fY q).xg (a:Int) x z n []=some ((0,((bX n).drop a).take b,()),()):=by
 have key:∀(k m j:Nat),k<m→min (bX n).length (a+b)-j≤k→a≤j→j≤a+64∧j≤a+b→(fY m).xg (j:Int) x z n (eT (((bX n).drop a).take (j-a)))=some ((0,((bX n).drop a).take b,()),()):=by
  intro k
  induction k with
  |zero=>
   intro m j hm h1 h2 h3;obtain⟨m,rfl⟩:∃p,m=p+1:=⟨m-1,by omega⟩
   rw[adP];unfold Iy;show cond (decide ((j:Int)<((bX n).length:Int))) (cond (decide ((j:Int)<aw (bU x+eB x))) _ _) _=_;rw[←ha,←hb,cH (by omega) (by omega)]
   have e:∀w,w=some ((0,eZ (eT (((bX n).drop a).take (j-a))),()),())→w=some (((0:Int),((bX n).drop a).take b,()),()):=fun w hw=>by
    rw[hw,adC];have:((bX n).drop a).take (j-a)=((bX n).drop a).take b:=by rw[List.take_eq_take_iff,List.length_drop];omega
    rw[this]
   by_cases hj:j<(bX n).length
   ·rw[bN hj,decide_eq_false (show ¬(j:Int)<(a:Int) +(b:Int) by omega)];exact e _ rfl
   ·rw[cl (by omega)];exact e _ rfl
  |succ k ih=>
   intro m j hm h1 h2 h3;by_cases SY:min (bX n).length (a+b)-j≤k
   ·exact ih m j (by omega) SY h2 h3
   obtain⟨m,rfl⟩:∃p,m=p+1:=⟨m-1,by omega⟩
   rw[adP];unfold Iy;show cond (decide ((j:Int)<((bX n).length:Int))) (cond (decide ((j:Int)<aw (bU x+eB x))) (Option.bind (ix (bX n).length (j:Int)) fun v1=>cond (room ((eT (((bX n).drop a).take (j-a))).length+[(((bX n).getD v1 0).toNat:Int)].length)) ((fY m).xg (aw ((j:Int)+1)) x z n (eT (((bX n).drop a).take (j-a))++[(((bX n).getD v1 0).toNat:Int)])) none) _) _=_;have hj:j<(bX n).length:=by omega
   rw[←ha,←hb,cH (a:=(a:Int) +(b:Int)) (by omega) (by omega),bN hj,decide_eq_true (show(j:Int)<(a:Int) +(b:Int) by omega),bf hj,dH j (by omega)];simp only[cond_true,al];rw[cc (by rw[KL,List.length_take,List.length_drop,List.length_singleton];omega)];simp only[cond_true];have:=ih m (j+1) (by omega) (by omega) (by omega) (by omega)
   rw[show eT (((bX n).drop a).take (j-a))++[(((bX n).getD j 0).toNat:Int)]=eT (((bX n).drop a).take (j+1-a)) by
    rw[show j+1-a=(j-a)+1 by omega,List.take_succ_eq_append_getElem (by rw[List.length_drop];omega)];unfold eT;rw[List.map_append,List.getElem_drop,List.getD_eq_getElem?_getD,List.getElem?_eq_getElem hj]
    simp[show a +(j-a)=j by omega]]
   exact this
 have:=key 64 q a (by omega) (by omega) (by omega) (by omega);rw[Nat.sub_self]at this;exact this
theorem aqf(v:ag.D)(c:aM.D)(x:aL.D)(hv:b7 v)(hc:d' c=true)(hx:iO x)(hk:aD x=4):dR v c x (GO ((v,c,x,()),())) (lX (v,c,x,())):=by
 have cG:=hv.kA;have av:=hx.path;obtain⟨r,hr,f_,k8,k9⟩:=adE v c x 4 cG hc (by omega);obtain⟨q,hq,b5⟩:=Dc v c x (by omega) (by unfold oO;rw[bY (show aD x≠14 by omega),bY (show aD x≠17 by omega)];rfl) cG r (by rw[show nL x=true by unfold nL;rw[dv (show aD x≠11 by omega),dv (show aD x≠14 by omega)];rfl];exact f_);show dR v c x (OT (v,c,x,())) _;rw[b5];unfold OT;by_cases b_:bP r=0
 case neg=>rw[k8 b_,Dd v c x q r b_];simp only[al];rw[dv b_];exact dR.is (bP r) [] rfl rfl (by simp) (.inr rfl) (hr.1.rg)
 obtain⟨i,hi,fh⟩:=k9 b_;have bm:=ca hi;rw[fh,Af];unfold uw;show dR v c x _ (cond (bP r != 0) _ (Option.bind (fG (v,bz r,())) _));rw[eA b_,kb v _ cG.len hi];simp only[cond_false,al];show dR v c x _ (cond (aD x==4) (cond (kindOf (I J v.2.1 i)==2) _ (Option.bind (kV (c,I J v.2.1 i,4,())) fun v2=>cond (!v2.1) _ (cond (decide (bU x<0)) _ (cond (decide (eB x<0)) _ ((fY q).xg (bU x) x uZ (I J v.2.1 i) []))))) _);rw[cL hk,qX c _ 4 hc];simp only[cond_true,al]
 cases kindOf (I J v.2.1 i)==2 with
 |true=>exact dR.is 21 [] rfl rfl
 |false=>
 cases may c (I J v.2.1 i) 4 with
 |false=>exact dR.is 13 [] rfl rfl
 |true=>
 simp only[cond_false,Bool.not_true,al];rw[show((0:Int) != 0)=false from rfl];simp only[cond_false];show dR v c x (cond (decide (bU x<0)) _ (cond (decide (eB x<0)) _ _)) _;by_cases hn:bU x<0
 ·rw[decide_eq_true hn];exact dR.is 22 [] rfl rfl
 by_cases hm:eB x<0
 ·rw[decide_eq_false hn,decide_eq_true hm];exact dR.is 22 [] rfl rfl
 rw[decide_eq_false hn,decide_eq_false hm];simp only[cond_false];have adR:=hv.h6 bm.1;have avf:=hx.n;have ob:=hx.m;obtain⟨a,ha⟩:∃a:Nat,(a:Int)=bU x:=⟨(bU x).toNat,by omega⟩
 obtain⟨b,hb⟩:∃b:Nat,(b:Int)=eB x:=⟨(eB x).toNat,by omega⟩
 rw[←ha,aqe _ x a ha (by omega) b hb (by omega) adR uZ q (by omega),bf bm.1];simp only[al];show dR v c x (Option.bind (dj (bX (I J v.2.1 i)).length (kk (bU x) ((bX (I J v.2.1 i)).length:Int)) ((bX (I J v.2.1 i)).length:Int)) fun br=>Option.bind (dj ((part (bX (I J v.2.1 i)) br.1 (br.2-br.1)).length) 0 (kk (eB x) (((part (bX (I J v.2.1 i)) br.1 (br.2-br.1)).length:Nat):Int))) fun cj=>some ((0,part (part (bX (I J v.2.1 i)) br.1 (br.2-br.1)) cj.1 (cj.2-cj.1),()),(v,c,x,()),())) _;generalize bX (I J v.2.1 i)=d at *;have e1:kk (bU x) (d.length:Int)=((min a d.length:Nat):Int):=by unfold kk;split<;>omega
 rw[e1,jn (by omega) (by omega)];simp only[al]
 have e2:part d (min a d.length) (d.length-min a d.length)=d.drop a:=by
  unfold part;rw[List.take_of_length_le (by rw[List.length_drop];omega)];by_cases h:a≤d.length
  ·rw[Nat.min_eq_left h]
  ·rw[List.drop_eq_nil_of_le (by omega),List.drop_eq_nil_of_le (by omega)]
 rw[e2];have e3:kk (eB x) ((d.drop a).length:Int)=((min b (d.drop a).length:Nat):Int):=by unfold kk;split<;>omega
 rw[e3];have dX:dj (d.drop a).length 0 ((min b (d.drop a).length:Nat):Int)=some (0,min b (d.drop a).length):=jn (lo:=0) (Nat.zero_le _) (Nat.min_le_right _ _);rw[dX];simp only[al,Nat.sub_zero];rw[pS];refine dR.is 0 _ rfl ?_ (by rw[List.length_take,List.length_drop];omega);have jA:(d.drop a).take b=(d.drop a).take (min b (d.drop a).length):=List.take_eq_take_iff.2 (by omega);rw[jA]
def S8(v:ag.D)(c:aM.D)(x:aL.D)(a:Option (an.D×aO.D×Unit))(b:Option (ag.D×an.D×Unit))(Q:ag.D→Prop):Prop:=
 ∃(k:Int) (t:aP) (w:ag.D),a=some ((k,t,()),(w,c,x,()),())∧b=some (cond (k==0) w v,(k,t,()),())∧(k=0→Q w)∧t.length≤400∧(k=0∨t=[])∧0≤k∧k≤200
theorem bt.up{v:ag.D}{c:aM.D}{x:aL.D}{a:Option (Int×aO.D×Unit)}{b:Option (ag.D×an.D×Unit)}{Q Q':ag.D→Prop}(h:bt v c x a b Q)(oi:∀w,Q w→Q' w):
  S8 v c x (a.bind fun v1=>(eK (v1.1,())).bind fun v2=>some (v2.1,v1.2.1,())) (b.bind fun v2=>some (v2.1,v2.2.1,())) Q':=by
 obtain⟨k,w,rfl,rfl,hq,hr⟩:=h;exact⟨k,[],w,rfl,rfl,fun h0=>oi w (hq h0),by simp,.inr rfl,hr⟩
theorem dR.up{v:ag.D}{c:aM.D}{x:aL.D}{a:Option (an.D×aO.D×Unit)}{b:Option (an.D×Unit)}{Q':ag.D→Prop}(h:dR v c x a b)(oi:Q' v):
  S8 v c x (a.bind fun v1=>some (v1.1,v1.2.1,())) (b.bind fun v2=>some (v,v2.1,())) Q':=by
 obtain⟨res,e1,e2,hl,h0,hr⟩:=h;obtain⟨k,t,⟨⟩⟩:=res;subst e1 e2;exact⟨k,t,v,rfl,by cases k==0<;>rfl,fun _=>oi,hl,h0,hr⟩
def sL(v:ag.D)(c:aM.D)(x:aL.D)(w:ag.D):Prop:=
 ((aD x=1∨aD x=3∨aD x=10)∧Made v c x w)∨((aD x=2∨aD x=8)∧C6 v c x w)∨(aD x=9∧KF v c x w)∨(aD x=12∧Ac v c x w)∨((aD x=5∨aD x=6∨aD x=7)∧Ad v c x w) ∨
  (aD x=15∧Da v c x w)∨(aD x=16∧Db v c x w)∨(aD x=19∧KO v c x w)∨((aD x=4∨aD x=11∨aD x=13∨aD x=14∨aD x=17∨aD x=18∨aD x=20)∧w=v)
noncomputable def S9(v:ag.D)(c:aM.D)(x:aL.D):Option (ag.D×an.D×Unit):=
 if aD x=1∨aD x=3∨aD x=10 then(w_ (v,c,x,())).bind fun v2=>some (v2.1,v2.2.1,())
 else if aD x=2∨aD x=8 then(Ca (v,c,x,())).bind fun v2=>some (v2.1,v2.2.1,())
 else if aD x=9 then(Ik (v,c,x,())).bind fun v2=>some (v2.1,v2.2.1,())
 else if aD x=12 then(Iq (v,c,x,())).bind fun v2=>some (v2.1,v2.2.1,())
 else if aD x=5∨aD x=6∨aD x=7 then(zu (v,c,x,())).bind fun v2=>some (v2.1,v2.2.1,())
 else if aD x=15∨aD x=16∨aD x=19 then(uu (v,c,x,())).bind fun v2=>some (v2.1,v2.2.1,())
 else(lX (v,c,x,())).bind fun v2=>some (v,v2.1,())
theorem aqg(v:ag.D)(c:aM.D)(x:aL.D)(hx:iO x)(kf:aD x≤20):xh (v,c,x,())=S9 v c x:=by
 obtain⟨q,hq,_⟩:=kZ 4;show zv (IA aK) v c x=_;unfold zv;rw[hq,zT,uQ.2 hx];simp only[al,Bool.not_true,cond_false];rw[decide_eq_false (show ¬x.1>20 from Int.not_lt.2 kf)];simp only[cond_false];have hk:=hx.dn;obtain⟨dn,rest⟩:=x;have:aD (dn,rest)=1∨aD (dn,rest)=2∨aD (dn,rest)=3∨aD (dn,rest)=4∨aD (dn,rest)=5∨aD (dn,rest)=6∨aD (dn,rest)=7∨aD (dn,rest)=8∨aD (dn,rest)=9∨aD (dn,rest)=10∨aD (dn,rest)=11∨aD (dn,rest)=12∨aD (dn,rest)=13∨aD (dn,rest)=14∨aD (dn,rest)=15∨aD (dn,rest)=16∨aD (dn,rest)=17∨aD (dn,rest)=18∨aD (dn,rest)=19∨aD (dn,rest)=20:=by omega
 clear hx hk kf;unfold S9;rcases this with h|h|h|h|h|h|h|h|h|h|h|h|h|h|h|h|h|h|h|h<;>(replace h:dn=_:=h;subst h;rfl)
noncomputable def S_(v:ag.D)(c:aM.D)(x:aL.D):Option (an.D×aO.D×Unit):=
 if aD x=1∨aD x=3∨aD x=10 then(BK ((v,c,x,()),())).bind fun v1=>(eK (v1.1,())).bind fun v2=>some (v2.1,v1.2.1,())
 else if aD x=2∨aD x=8 then(GJ ((v,c,x,()),())).bind fun v1=>(eK (v1.1,())).bind fun v2=>some (v2.1,v1.2.1,())
 else if aD x=9 then(GK ((v,c,x,()),())).bind fun v1=>(eK (v1.1,())).bind fun v2=>some (v2.1,v1.2.1,())
 else if aD x=12 then(GN ((v,c,x,()),())).bind fun v1=>(eK (v1.1,())).bind fun v2=>some (v2.1,v1.2.1,())
 else if aD x=5∨aD x=6∨aD x=7 then(GR ((v,c,x,()),())).bind fun v1=>(eK (v1.1,())).bind fun v2=>some (v2.1,v1.2.1,())
 else if aD x=15 then(G7 ((v,c,x,()),())).bind fun v1=>(eK (v1.1,())).bind fun v2=>some (v2.1,v1.2.1,())
 else if aD x=16 then(G_ ((v,c,x,()),())).bind fun v1=>(eK (v1.1,())).bind fun v2=>some (v2.1,v1.2.1,())
 else if aD x=19 then(Hb ((v,c,x,()),())).bind fun v1=>(eK (v1.1,())).bind fun v2=>some (v2.1,v1.2.1,())
 else if aD x=4 then(GO ((v,c,x,()),())).bind fun v1=>some (v1.1,v1.2.1,())
 else if aD x=11 then(GS ((v,c,x,()),())).bind fun v1=>some (v1.1,v1.2.1,())
 else if aD x=13∨aD x=20 then(BP ((v,c,x,()),())).bind fun v1=>some (v1.1,v1.2.1,())
 else if aD x=14 then(BQ ((v,c,x,()),())).bind fun v1=>some (v1.1,v1.2.1,())
 else if aD x=17 then(Option.bind (G' ((v,c,x,()),())) fun v6=>Option.bind (eK (v6.1,())) fun br=>some (br.1,v6.2.1,()))
 else(Option.bind (wu (v,())) fun cj=>Option.bind (rY ([(v.2.1.length:Int),cj.1],())) fun v9=>some ((0,v9.1,()),(v,c,x,()),()))
theorem aqh(v:ag.D)(c:aM.D)(x:aL.D)(hx:iO x)(kf:aD x≤20):Hd ((v,c,x,()),())=S_ v c x:=by
 obtain⟨q,hq,_⟩:=kZ 8;show Hc (O8 aK) (v,c,x,())=_;unfold Hc;rw[hq];have hk:=hx.dn;obtain⟨dn,rest⟩:=x;have:aD (dn,rest)=1∨aD (dn,rest)=2∨aD (dn,rest)=3∨aD (dn,rest)=4∨aD (dn,rest)=5∨aD (dn,rest)=6∨aD (dn,rest)=7∨aD (dn,rest)=8∨aD (dn,rest)=9∨aD (dn,rest)=10∨aD (dn,rest)=11∨aD (dn,rest)=12∨aD (dn,rest)=13∨aD (dn,rest)=14∨aD (dn,rest)=15∨aD (dn,rest)=16∨aD (dn,rest)=17∨aD (dn,rest)=18∨aD (dn,rest)=19∨aD (dn,rest)=20:=by omega
 clear hx hk kf;unfold S_;rcases this with h|h|h|h|h|h|h|h|h|h|h|h|h|h|h|h|h|h|h|h<;>(replace h:dn=_:=h;subst h;rfl)
theorem adU(a:Option (an.D×aO.D×Unit)):(a.bind fun v1=>some (v1.1,v1.2.1,()))=a:=by
 cases a with
 |none=>rfl
 |some r=>rfl
theorem aqi(v:ag.D)(c:aM.D)(x:aL.D)(hv:b7 v)(hc:d' c=true)(hx:iO x)(kf:aD x≤20):S8 v c x (Hd ((v,c,x,()),())) (xh (v,c,x,())) (sL v c x):=by
 rw[aqh v c x hx kf,aqg v c x hx kf];have hk:=hx.dn;unfold S_ S9;by_cases h1:aD x=1∨aD x=3∨aD x=10
 ·rw[if_pos h1,if_pos h1];exact(aoK v c x hv hc hx).up fun w h=>.inl ⟨h1,h⟩
 rw[if_neg h1,if_neg h1];by_cases h2:aD x=2∨aD x=8
 ·rw[if_pos h2,if_pos h2];exact(aoU v c x hv hc hx h2).up fun w h=>.inr (.inl ⟨h2,h⟩)
 rw[if_neg h2,if_neg h2];by_cases h3:aD x=9
 ·rw[if_pos h3,if_pos h3];exact(aoY v c x hv hc hx).up fun w h=>.inr (.inr (.inl ⟨h3,h⟩))
 rw[if_neg h3,if_neg h3];by_cases h4:aD x=12
 ·rw[if_pos h4,if_pos h4];exact(apn v c x hv hc hx).up fun w h=>.inr (.inr (.inr (.inl ⟨h4,h⟩)))
 rw[if_neg h4,if_neg h4];by_cases a6:aD x=5∨aD x=6∨aD x=7
 ·rw[if_pos a6,if_pos a6];exact(apI v c x hv hc hx a6).up fun w h=>.inr (.inr (.inr (.inr (.inl ⟨a6,h⟩))))
 rw[if_neg a6,if_neg a6];by_cases bj:aD x=15
 ·rw[if_pos bj,if_pos (.inl bj)];exact(apS v c x hv hc hx bj).up fun w h=>.inr (.inr (.inr (.inr (.inr (.inl ⟨bj,h⟩)))))
 rw[if_neg bj];by_cases bL:aD x=16
 ·rw[if_pos bL,if_pos (.inr (.inl bL))];exact(apT v c x hv hc hx bL).up fun w h=>.inr (.inr (.inr (.inr (.inr (.inr (.inl ⟨bL,h⟩))))))
 rw[if_neg bL];by_cases dk:aD x=19
 ·rw[if_pos dk,if_pos (.inr (.inr dk))];exact(apV v c x hv hc hx dk).up fun w h=>.inr (.inr (.inr (.inr (.inr (.inr (.inr (.inl ⟨dk,h⟩)))))))
 rw[if_neg dk,if_neg (show ¬(aD x=15∨aD x=16∨aD x=19) by omega)];have oi:sL v c x v:=.inr (.inr (.inr (.inr (.inr (.inr (.inr (.inr ⟨by omega,rfl⟩)))))));by_cases jB:aD x=4
 ·rw[if_pos jB];exact(aqf v c x hv hc hx jB).up oi
 rw[if_neg jB];by_cases kP:aD x=11
 ·rw[if_pos kP];exact(ap5 v c x hv hc hx kP).up oi
 rw[if_neg kP];by_cases rG:aD x=13∨aD x=20
 ·rw[if_pos rG];exact(aqd v c x hv hc hx rG).up oi
 rw[if_neg rG];by_cases ko:aD x=14
 ·rw[if_pos ko];exact(ap_ v c x hv hc hx ko).up oi
 rw[if_neg ko];by_cases yI:aD x=17
 ·rw[if_pos yI];have:=(ap6 v c x hv hc hx yI).up (Q':=sL v c x) oi;rwa[adU]at this
 rw[if_neg yI];have:=(ap8 v c x hv (by omega)).up (Q':=sL v c x) oi;rwa[adU]at this
theorem b7.aqj{v:ag.D}(h:b7 v):tX (v,())=some (v,()):=anX v h.kA.len fun i hi=>Nat.le_trans (gK hi) h.kA.dC
structure Ah(v:ag.D)(c:aM.D)(x:aL.D)(w:ag.D)(k:Int)(t:aP):Prop where
 bad:lx v=false→w=(0,[],())∧k=22∧t=[]
 adV:lx v=true→d' c=false→w=v∧k=22∧t=[]
 call:lx v=true→d' c=true→(fp x=false∨20<aD x)→w=v∧k=22∧t=[]
 no:lx v=true→k≠0→w=v
 len:t.length≤400
 rg:0≤k∧k≤200
 data:k=0∨t=[]
 done:lx v=true→d' c=true→fp x=true→aD x≤20→k=0→sL v c x w
theorem aqk(v:ag.D)(c:aM.D)(x:aL.D)(cp:lx v=true)(hc:d' c=true):∃w k t,xh (v,c,x,())=some (w,(k,t,()),())∧BR (v,c,x,())=some (w,(k,t,()),())∧Ah v c x w k t:=by
 have fa:=CU.1 cp;show ∃w k t,_∧O9 v c x=_∧_
 unfold O9;rw[Ki,CG,fa.aqj];simp only[al];rw[hc];simp only[Bool.not_true,cond_false]
 have bad:fp x=false∨20<aD x→xh (v,c,x,())=some (v,(22,[],()),()):=by
  intro h;show zv (IA aK) v c x=_;unfold zv;rw[zT];simp only[al]
  cases hcall:fp x with
  |false=>rfl
  |true=>
   rcases h with h|h
   ·rw[hcall]at h;cases h
   ·simp only[Bool.not_true,cond_false];rw[decide_eq_true (show x.1>20 from h)];rfl
 cases hcall:fp x with
 |false=>rw[bad (.inl hcall)];exact⟨v,22,[],rfl,rfl,fun h=>by simp[cp]at h,fun _ h=>by simp[hc]at h,fun _ _ _=>⟨rfl,rfl,rfl⟩,fun _ _=>rfl,by simp,by decide,.inr rfl,fun _ _ h=>by simp[hcall]at h⟩
 |true=>
 have hx:=uQ.1 hcall;simp only[Bool.not_true,cond_false];by_cases kf:aD x≤20
 case neg=>rw[bad (.inr (by omega)),decide_eq_true (show x.1>20 from Int.not_le.1 kf)];exact⟨v,22,[],rfl,rfl,fun h=>by simp[cp]at h,fun _ h=>by simp[hc]at h,fun _ _ _=>⟨rfl,rfl,rfl⟩,fun _ _=>rfl,by simp,by decide,.inr rfl,fun _ _ _ h=>absurd h kf⟩
 rw[decide_eq_false (show ¬x.1>20 from Int.not_lt.2 kf)];simp only[cond_false];obtain⟨k,t,w,h1,h2,h3,h4,a6,bj⟩:=aqi v c x fa hc hx kf;rw[h1,h2];simp only[al];refine⟨cond (k==0) w v,k,t,rfl,?_,fun h=>by simp[cp]at h,fun _ h=>by simp[hc]at h,fun _ _ h=>?_,fun _ h=>by rw[bY h];rfl,h4,bj,a6,fun _ _ _ _ h0=>by rw[cL h0];exact h3 h0⟩
 ·by_cases h0:k=0
  ·rw[eA h0,cL h0];rfl
  ·rw[dv h0,bY h0];rfl
 ·rcases h with h|h
  ·simp[hcall]at h
  ·omega
structure gk(n:Nat)(x:aT):Prop where
 h6:(bX x).length≤200
 dC:(ax x).length≤n
 each:∀d,d∈ax x→d.1.length≤8
structure h7(n:Nat)(l:List aT):Prop where
 len:l.length≤n
 po:∀x,x∈l→gk n x
theorem gk.mono{n m:Nat}{x:aT}(h:gk n x)(hm:n≤m):gk m x:=⟨h.h6,Nat.le_trans h.dC hm,h.each⟩
theorem h7.mono{n m:Nat}{l:List aT}(h:h7 n l)(hm:n≤m):h7 m l:=⟨Nat.le_trans h.len hm,fun x hx=>(h.po x hx).mono hm⟩
theorem h7.get{n:Nat}{l:List aT}(h:h7 n l){i:Nat}(hi:i<l.length):gk n (I J l i):=h.po _ (de hi)
theorem h7.set{n:Nat}{l:List aT}(h:h7 n l)(i:Nat){y:aT}(aR:gk n y):h7 n (l.set i y):=⟨by rw[List.length_set];exact h.len,fun x hx=>by
 rcases List.mem_or_eq_of_mem_set hx with hx|rfl
 ·exact h.po x hx
 ·exact aR⟩
theorem h7.go{n:Nat}{l:List aT}(h:h7 n l)(id:Int):h7 n (goN l id):=by
 unfold goN;cases decide (cC l id=0)
 ·exact h
 ·exact⟨Nat.le_trans (List.length_filter_le _ _) h.len,fun x hx=>h.po x (List.mem_filter.1 hx).1⟩
theorem h7.app{n:Nat}{l:List aT}(h:h7 n l){y:aT}(aR:gk n y):h7 (n+1) (l++[y]):=⟨by simp only[List.length_append,List.length_singleton];have:=h.len;omega,fun x hx=>by
 rcases List.mem_append.1 hx with hx|hx
 ·exact(h.po x hx).mono (by omega)
 ·rw[List.mem_singleton.1 hx];exact aR.mono (by omega)⟩
theorem gk.ins{n:Nat}{x:aT}(h:gk n x){s:aP}(hs:s.length≤8)(id:Int):gk (n+1) (cd x (ins (ax x) s id)):=⟨h.h6,by
 show(ks.ins (ax x) s id).length≤_
 rw[Aa];have:=h.dC;omega,fun d af=>by
 rcases sG.1 af with af|rfl
 ·exact h.each d af
 ·exact hs⟩
theorem gk.un{n:Nat}{x:aT}(h:gk n x)(s:aP):gk n (cd x (ct (ax x) s)):=⟨h.h6,Nat.le_trans (xS _ _) h.dC,fun d af=>h.each d (uR af)⟩
theorem adW{v:ag.D}{n:Nat}(h:h7 n v.2.1):ad.cost ag v≤n+n*(200+9*n):=by
 rw[Sf]
 have h1:=De Se (200+9*n) v.2.1 fun x hx=>by
  have av:=h.po x hx;have h2:=De (fun d:aC.D=>ad.cost aC d) 8 (ax x) fun d af=>by rw[anT];exact av.each d af
  unfold Se;rw[anS,qW];have:=av.h6;have:=av.dC;omega
 have h3:v.2.1.length*(200+9*n)≤n*(200+9*n):=Nat.mul_le_mul_right _ h.len;have:=h.len;omega
theorem b7.sz{v:ag.D}(h:b7 v):h7 24 v.2.1:=by
 refine⟨h.len.2,fun x hx=>?_⟩;obtain⟨i,hi,rfl⟩:=fJ hx;have bT:=h.ino i hi;refine⟨by have:=h.h6 hi;omega,?_,fun d af=>KQ (bT.names d af).1⟩;by_cases hk:kindOf (I J v.2.1 i)=2
 ·have:=(bT.dir hk).2.2.2;omega
 ·rw[(bT.plain hk).2.2];simp
theorem S'{l:List aT}{r:a7.D}(h:iu l r)(hn:nameOf r≠[])(hc:bP r=0∨bP r=2):(nameOf r).length≤8:=by
 rcases hc with hc|hc
 ·exact KQ (h.named hc hn).2.1
 ·exact KQ (h.new hc hn).2.1
theorem adX{v:ag.D}{n:Nat}(h:h7 n v.2.1){i:Nat}(hi:i<v.2.1.length)(s:aP):h7 n (lB v i s).2.1:=(h.set i ((h.get hi).un s)).go _
theorem aql{l:List aT}{n:Nat}(h:h7 n l){ir it:Nat}(hr:ir<l.length)(ht:it<l.length)(cK:aP){tn:aP}(hs:tn.length≤8)(id:Int):h7 (n+1) (e7 l ir cK it tn id):=by have h1:h7 n (dQ l ir cK):=h.set ir ((h.get hr).un cK);refine(h1.mono (by omega)).set it (gk.ins (n:=n) (h1.get ?_) hs id);unfold dQ;rw[List.length_set];exact ht
theorem aqm(s:aP)(a:Nat)(d:aP)(hs:s.length≤64)(h:a+d.length≤64):(l5 s a d).length≤200:=by unfold l5;rw[List.length_append,List.length_append,q7,List.length_drop];omega
theorem sL.sz{v:ag.D}{c:aM.D}{x:aL.D}{w:ag.D}(hv:b7 v)(hx:iO x)(h:sL v c x w):h7 30 w.2.1:=by
 have kB:=hv.sz;rcases h with⟨_,h⟩|⟨_,h⟩|⟨_,h⟩|⟨_,h⟩|⟨_,h⟩|⟨_,h⟩|⟨_,h⟩|⟨_,h⟩|⟨_,h⟩
 ·obtain⟨r,i,hr,hc,hn,hi,_,_,_,_,_,rfl,_⟩:=h.out;have bm:=(ca hi).1;have:=hx.q4;have h1:h7 25 (v.2.1.set i (cd (I J v.2.1 i) (ins (ax (I J v.2.1 i)) (nameOf r) v.1))):=(kB.mono (by omega)).set i ((kB.get bm).ins (S' hr hn (.inr hc)) _);refine(h1.app (y:=gV v c x (I J v.2.1 i)) ⟨?_,by simp[gV,ax],by simp[gV,ax]⟩).mono (by omega);show(if aD x=10 then ji x else []).length≤200;split
  ·omega
  ·simp
 ·obtain⟨r,i,j,_,_,_,hi,_,_,_,_,_,_,rfl⟩:=h.out;exact(adX kB (ca hi).1 _).mono (by omega)
 ·obtain⟨r,t,i,j,_,_,_,_,ht,sI,htn,hi,_,_,rfl,_⟩:=h.out;exact((kB.mono (by omega)).set i ((kB.get (ca hi).1).ins (S' ht htn (.inr sI)) _)).mono (by omega)
 ·obtain⟨r,t,j,hr,hc,hn,hj,ht,htn,sI,_,h⟩:=h.out;rcases h with⟨_,rfl⟩|⟨_,_,l,ir,it,av,rfl,_,h⟩
  ·exact kB.mono (by omega)
  ·have hl:h7 24 l:=by
    rcases h with⟨_,rfl,_⟩|⟨i2,fe,gF,_,_,_,_,_,rfl⟩
    ·exact kB
    ·exact adX kB (ca gF).1 _
   exact(aql hl (ca av.hr).1 (ca av.ht).1 _ (S' ht htn sI) _).mono (by omega)
 ·obtain⟨r,i,hr,hc,hi,_,_,_,ha,_,h⟩:=h.out;rcases h with⟨_,_,rfl⟩|⟨_,hle,rfl,_⟩
  ·exact kB.mono (by omega)
  ·have av:=kB.get (ca hi).1;refine(kB.mono (by omega)).set i ⟨?_,by have:=av.dC;exact Nat.le_trans this (by omega),av.each⟩;show(jj x (I J v.2.1 i)).length≤200;have af:=hv.h6 (ca hi).1;unfold jj;split
   ·rename_i bL;rw[q7];have:eN x (I J v.2.1 i)=bU x:=by unfold eN;rw[if_neg (by omega)]
    omega
   ·exact aqm _ _ _ af (by omega)
 ·obtain⟨_,_,r,i,_,_,hi,_,_,rfl⟩:=h.out;have av:=kB.get (ca hi).1;exact(kB.mono (by omega)).set i ⟨av.h6,Nat.le_trans av.dC (by omega),av.each⟩
 ·obtain⟨_,_,r,i,_,_,hi,rfl⟩:=h.out;have av:=kB.get (ca hi).1;exact(kB.mono (by omega)).set i ⟨av.h6,Nat.le_trans av.dC (by omega),av.each⟩
 ·obtain⟨_,_,_,r,i,_,_,hi,_,rfl,_⟩:=h.out;have av:=kB.get (ca hi).1;exact(kB.mono (by omega)).set i ⟨av.h6,Nat.le_trans av.dC (by omega),av.each⟩
 ·rw[h];exact kB.mono (by omega)
theorem Ah.cost{v:ag.D}{c:aM.D}{x:aL.D}{w:ag.D}{k:Int}{t:aP}(h:Ah v c x w k t)(hv:ad.cost ag v≤1048576):ad.cost ag w≤1048576:=by
 have h0:w=v→ad.cost ag w≤1048576:=fun e=>by rw[e];exact hv
 cases cp:lx v with
 |false=>rw[(h.bad cp).1,Sf];simp
 |true=>
 cases hc:d' c with
 |false=>exact h0 (h.adV cp hc).1
 |true=>
 cases hcall:fp x with
 |false=>exact h0 (h.call cp hc (.inl hcall)).1
 |true=>
 by_cases kf:20<aD x
 ·exact h0 (h.call cp hc (.inr kf)).1
 by_cases hk:k=0
 ·have:=adW ((h.done cp hc hcall (by omega) hk).sz (CU.1 cp) (uQ.1 hcall));omega
 ·exact h0 (h.no cp hk)
structure aqn(n:Int)(l:List aT):Prop where
 next:2≤n∧n≤100000
 len:l.length≤24
 k_:l.Pairwise fun a b=>bh a<bh b
 root:∃x,x∈l∧bh x=1∧kindOf x=2
 ids:∀x,x∈l→1≤bh x∧bh x≤n-1
 ino:∀x,x∈l→l3 l x
 reach:∀x,x∈l→bh x≠1→eg l 1 (bh x)
 once:∀x,x∈l→bh x≠1→kindOf x=2→cC l (bh x)=1
 bytes:bytesOf l≤400
 over:jO l=false
theorem aqo{l:List aT}(h:l.Pairwise fun a b=>bh a<bh b):CW l:=h.imp fun h=>by omega
theorem l7{l:List aT}(h:l.Pairwise fun a b=>bh a<bh b):jf l:=CX.2 (aqo h)
theorem KR{l:List aT}(h:l.Pairwise fun a b=>bh a<bh b){i j:Nat}(jm:i<j)(hj:j<l.length):bh (I J l i)<bh (I J l j):=by rw[c3 (by omega),c3 hj];exact List.pairwise_iff_getElem.1 h i j (by omega) hj jm
theorem adY{l:List aT}(h:∀i,i+1<l.length→bh (I J l i)<bh (I J l (i+1))):l.Pairwise fun a b=>bh a<bh b:=by
 have bQ:∀d j,j+d+1<l.length→bh (I J l j)<bh (I J l (j+d+1)):=by
  intro d
  induction d with
  |zero=>intro j hj;exact h j hj
  |succ d ih=>intro j hj;exact Int.lt_trans (ih j (by omega)) (h (j+d+1) hj)
 rw[List.pairwise_iff_getElem];intro i j hi hj jm;have:=bQ (j-i-1) i (by omega);rw[show i +(j-i-1)+1=j by omega,c3 hi,c3 hj]at this;exact this
theorem nM{v:ag.D}:b7 v↔aqn (gM v) v.2.1:=by
 constructor
 ·intro h;have h0:0<v.2.1.length:=by have:=h.len;omega
  have cm:∀i,i<v.2.1.length→bh (I J v.2.1 i)≠1→1≤i:=by
   intro i hi hne;rcases Nat.eq_zero_or_pos i with h|h
   ·subst h;exact absurd (b7.root ‹_›).1 hne
   ·exact h
  refine⟨h.next,h.len.2,adY h.Kp,⟨_,de h0,h.root⟩,?_,?_,?_,?_,h.bytes,h.over⟩
  ·intro x hx;obtain⟨i,hi,rfl⟩:=fJ hx;exact h.ids i hi
  ·intro x hx;obtain⟨i,hi,rfl⟩:=fJ hx;exact h.ino i hi
  ·intro x hx hne;obtain⟨i,hi,rfl⟩:=fJ hx;exact h.reach i (cm i hi hne) hi
  ·intro x hx hne hk;obtain⟨i,hi,rfl⟩:=fJ hx;exact h.once i (cm i hi hne) hi hk
 ·intro h;obtain⟨x,hx,hx1,hx2⟩:=h.root;obtain⟨k,hk,rfl⟩:=fJ hx
  have hk0:k=0:=by
   rcases Nat.eq_zero_or_pos k with h0|h0
   ·exact h0
   ·have h1:=KR h.k_ h0 hk;have h2:=h.ids _ (de (show 0<v.2.1.length by omega));omega
  subst hk0;have hne:∀i,1≤i→i<v.2.1.length→bh (I J v.2.1 i)≠1:=by intro i hi hl;have:=KR h.k_ (show 0<i by omega) hl;omega
  exact⟨h.next,⟨by omega,h.len⟩,⟨hx1,hx2⟩,fun i hi=>h.ids _ (de hi),fun i hi=>KR h.k_ (Nat.lt_succ_self i) hi,fun i hi=>h.ino _ (de hi),fun i h1 hi=>h.reach _ (de hi) (hne i h1 hi),fun i h1 hi hk=>h.once _ (de hi) (hne i h1 hi) hk,h.bytes,h.over⟩
theorem iP{l:List aT}(af:jf l){a b:Int}:E l a b↔∃x,x∈l∧bh x=a∧∃d,d∈ax x∧d.2.1=b:=by
 constructor
 ·rintro⟨i,d,hi,hm,he⟩
  exact⟨I J l i,de (ca hi).1,(ca hi).2,d,hm,he⟩
 ·rintro⟨x,hx,rfl,d,hm,he⟩
  obtain⟨i,hi,rfl⟩:=fJ hx;exact⟨i,d,af i hi,hm,he⟩
theorem Ai{l l':List aT}(h:∀a b,E l a b→E l' a b){a b:Int}(hb:eg l a b):eg l' a b:=by
 induction hb with
 |single h1=>exact .single (h _ _ h1)
 |tail _ h1 ih=>exact .tail ih (h _ _ h1)
theorem l3.to{l l':List aT}{x:aT}(h:l3 l x)(hn:∀d,d∈ax x→(bD l d.2.1).isSome=true→(bD l' d.2.1).isSome=true):l3 l' x:=
 ⟨h.mode,h.uid,h.gid,h.kind,h.plain,h.file,h.oE,h.dir,fun d af=>⟨(h.names d af).1,(h.names d af).2.1,hn d af (h.names d af).2.2⟩,h.sorted⟩
theorem mem_set{l:List aT}(af:jf l){i:Nat}(hi:i<l.length){y:aT}(aR:bh y=bh (I J l i)){x:aT}:x∈l.set i y↔x=y∨(x∈l∧bh x≠bh y):=by
 constructor
 ·intro hx;obtain⟨j,hj,rfl⟩:=fJ hx;rw[List.length_set]at hj;rw[jU hi];split
  ·exact .inl rfl
  ·rename_i jm;refine .inr ⟨de hj,fun he=>jm ?_⟩;have h1:=af i hi;have h2:=af j hj;have:(I J l j).1=(I J l i).1:=(show bh (I J l j)=bh (I J l i) by rw[he,aR]);rw[this,h1]at h2;exact aX h2
 ·rintro (rfl|⟨hx,hne⟩)
  ·exact List.mem_iff_getElem.2 ⟨i,by rw[List.length_set];exact hi,by rw[List.getElem_set_self]⟩
  ·obtain⟨j,hj,rfl⟩:=fJ hx;have jm:i≠j:=fun h=>hne (by subst h;exact aR.symm)
   have:I J (l.set i y) j=I J l j:=by rw[jU hi,if_neg jm]
   rw[←this];exact de (by rw[List.length_set];exact hj)
theorem xZ{l:List aT}(h:l.Pairwise fun a b=>bh a<bh b){i:Nat}(hi:i<l.length){y:aT}(aR:bh y=bh (I J l i)):(l.set i y).Pairwise fun a b=>bh a<bh b:=by
 refine adY fun j hj=>?_
 rw[List.length_set]at hj
 have key:∀k,bh (I J (l.set i y) k)=bh (I J l k):=by
  intro k;rw[jU hi];split
  ·rename_i h;subst h;exact aR
  ·rfl
 rw[key,key];exact KR h (Nat.lt_succ_self j) hj
theorem KS{l:List aT}{i:Nat}{y:aT}(hi:i<l.length)(b:Int):cC (l.set i y) b+dJ (ax (I J l i)) b=cC l b+dJ (ax y) b:=by
 unfold cC
 induction l generalizing i with
 |nil=>simp at hi
 |cons z l ih=>
  cases i with
  |zero=>simp only[List.set_cons_zero,List.map_cons,List.sum_cons];rw[show I J (z::l) 0=z from rfl];omega
  |succ i=>simp only[List.set_cons_succ,List.map_cons,List.sum_cons];have:=ih (i:=i) (by simpa using hi);rw[show I J (z::l) (i+1)=I J l i from rfl];omega
theorem aqp(l:List aT)(n:aT)(b:Int):cC (l++[n]) b=cC l b+dJ (ax n) b:=by unfold cC;rw[List.map_append,List.sum_append_nat];simp
theorem Aj(N M:List aC.D)(b:Int):dJ (N++M) b=dJ N b+dJ M b:=by unfold dJ;rw[List.filter_append,List.length_append]
theorem adZ(s:aP)(id b:Int):dJ [((s,id,()):aC.D)] b=cond (id==b) 1 0:=by
 unfold dJ;rw[List.filter_cons];cases h:(((s,id,()):aC.D).2.1==b)
 ·rfl
 ·rfl
theorem aqq(N:List aC.D)(s:aP)(id b:Int):dJ (ins N s id) b=dJ N b+cond (id==b) 1 0:=by
 unfold ins;rw[Aj,Aj,adZ];have:dJ N b=dJ (N.takeWhile (ek s)) b+dJ (N.dropWhile (ek s)) b:=by rw[←Aj,List.takeWhile_append_dropWhile]
 omega
theorem aqr{N:List aC.D}{b:Int}(h:∀d,d∈N→d.2.1≠b):dJ N b=0:=by unfold dJ;rw[List.filter_eq_nil_iff.2 fun d af=>by rw[beq_iff_eq];exact h d af];rfl
theorem ad0{l:List aT}{b:Int}(h:∀x,x∈l→∀d,d∈ax x→d.2.1≠b):cC l b=0:=by unfold cC;exact SJ fun x hx=>aqr (h x hx)
theorem aqs{l:List aT}(hx:uL l){b:Int}(h:bD l b=none):cC l b=0:=by
 refine ad0 fun x aqt d af he=>?_
 obtain⟨i,hi,rfl⟩:=fJ aqt;have:=hx i hi d af;rw[he,h]at this;cases this
theorem Ta:∀{N:List aC.D},jT N→∀{d:aC.D},d∈N→∀b:Int,dJ (ct N d.1) b+cond (d.2.1==b) 1 0=dJ N b
 | [],_,d,af,_=>by cases af
 |x::N,hs,d,af,b=>by
  have h1:=List.pairwise_cons.1 hs;rcases List.mem_cons.1 af with rfl|af
  ·have e:ct (d::N) d.1=N:=by
    unfold ct;rw[List.filter_cons,show(!bx d.1 d.1)=false by unfold bx;simp];simp only[Bool.false_eq_true,if_false];refine List.filter_eq_self.2 fun y aR=>?_
    have:=Kn (h1.1 y aR);unfold bx;simp only[Bool.not_eq_true',decide_eq_false_iff_not];exact fun e=>this e.symm
   rw[e];show _=dJ ([d]++N) b;rw[Aj];have:dJ [d] b=cond (d.2.1==b) 1 0:=adZ d.1 d.2.1 b;omega
  ·have e:ct (x::N) d.1=x::ct N d.1:=by
    unfold ct
    rw[List.filter_cons,show(!bx x.1 d.1)=true by
     have:=Kn (h1.1 d af)
     unfold bx;simp[this]]
    rfl
   have ih:=Ta h1.2 af b;rw[e];show dJ ([x]++ct N d.1) b+_=dJ ([x]++N) b;rw[Aj,Aj];omega
theorem KT{l:List aT}:fi l=0↔bytesOf l≤400∧jO l=false:=by
 unfold fi;by_cases h:(bytesOf l:Int)>400
 ·rw[decide_eq_true h];constructor
  ·intro h0;cases h0
  ·intro h0;omega
 ·rw[decide_eq_false h]
  cases jO l with
  |true=>
   constructor
   ·intro h0;cases h0
   ·intro h0;cases h0.2
  |false=>exact⟨fun _=>⟨by omega,rfl⟩,fun _=>rfl⟩
theorem b7.keep{v:ag.D}(hv:b7 v){i:Nat}(hi:i<v.2.1.length){y:aT}(h1:bh y=bh (I J v.2.1 i))(h2:kindOf y=kindOf (I J v.2.1 i))(h3:ax y=ax (I J v.2.1 i))(iv:l3 v.2.1 y)
  (hf:fi (v.2.1.set i y)=0):b7 (v.1,v.2.1.set i y,()):=by
 have h:=nM.1 hv;have af:=l7 h.k_;have Df:∀id,bD (v.2.1.set i y) id=bD v.2.1 id:=fun id=>KA hi h1 id
 have iX:=xZ h.k_ hi h1
 have hE:∀a b,E v.2.1 a b→E (v.2.1.set i y) a b:=by
  intro a b;rw[iP af,iP (l7 iX)]
  rintro⟨x,hx,kg,d,iH,Dg⟩
  by_cases h8:bh x=bh y
  ·refine⟨y,(mem_set af hi h1).2 (.inl rfl),by rw[←h8];exact kg,d,?_,Dg⟩;obtain⟨j,hj,rfl⟩:=fJ hx;have e1:=af i hi;have e2:=af j hj;have:(I J v.2.1 j).1=(I J v.2.1 i).1:=(show bh _=bh _ by rw[h8,h1]);rw[this,e1]at e2;obtain rfl:=aX e2;rw[h3];exact iH
  ·exact⟨x,(mem_set af hi h1).2 (.inr ⟨hx,h8⟩),kg,d,iH,Dg⟩
 have hM:∀a b,eg v.2.1 a b→eg (v.2.1.set i y) a b:=fun a b hb=>Ai hE hb
 have lv:∀b,cC (v.2.1.set i y) b=cC v.2.1 b:=by intro b;have:=KS (y:=y) hi b;rw[h3]at this;omega
 have q8:=de (t:=J) hi;have lp:=KT.1 hf;refine nM.2 ⟨h.next,by rw[List.length_set];exact h.len,iX,?_,?_,?_,?_,?_,lp.1,lp.2⟩
 ·obtain⟨x,hx,hx1,hx2⟩:=h.root;by_cases h8:bh x=bh y
  ·refine⟨y,(mem_set af hi h1).2 (.inl rfl),by rw[←h8];exact hx1,?_⟩;obtain⟨j,hj,rfl⟩:=fJ hx;have e1:=af i hi;have e2:=af j hj;have:(I J v.2.1 j).1=(I J v.2.1 i).1:=(show bh _=bh _ by rw[h8,h1]);rw[this,e1]at e2;obtain rfl:=aX e2;rw[h2];exact hx2
  ·exact⟨x,(mem_set af hi h1).2 (.inr ⟨hx,h8⟩),hx1,hx2⟩
 ·intro x hx;rcases (mem_set af hi h1).1 hx with rfl|⟨hx,_⟩
  ·rw[h1];exact h.ids _ q8
  ·exact h.ids x hx
 ·intro x hx;rcases (mem_set af hi h1).1 hx with rfl|⟨hx,_⟩
  ·exact iv.to fun d _ h=>by rw[Df];exact h
  ·exact(h.ino x hx).to fun d _ h=>by rw[Df];exact h
 ·intro x hx hne;rcases (mem_set af hi h1).1 hx with rfl|⟨hx,_⟩
  ·rw[h1]at hne⊢;exact hM _ _ (h.reach _ q8 hne)
  ·exact hM _ _ (h.reach x hx hne)
 ·intro x hx hne hk;rw[lv];rcases (mem_set af hi h1).1 hx with rfl|⟨hx,_⟩
  ·rw[h1]at hne⊢;rw[h2]at hk;exact h.once _ q8 hne hk
  ·exact h.once x hx hne hk
theorem b7.get{v:ag.D}(h:b7 v){x:aT}(hx:x∈v.2.1):l3 v.2.1 x:=(nM.1 h).ino x hx
theorem nN{l:List aT}(af:jf l){x y:aT}(hx:x∈l)(aR:y∈l)(h:bh x=bh y):x=y:=by obtain⟨i,hi,rfl⟩:=fJ hx;obtain⟨j,hj,rfl⟩:=fJ aR;have e1:=af i hi;have e2:=af j hj;have:(I J l i).1=(I J l j).1:=h;rw[this,e2]at e1;rw[aX e1]
theorem l3.named{l l':List aT}{x:aT}(h:l3 l x)(lL:∀id,(bD l id).isSome=true→(bD l' id).isSome=true)(hk:kindOf x=2){s:aP}{id:Int}(hs:nF s=true)(h1:id≠1)(cm:(bD l' id).isSome=true)(hl:(ax x).length<12)(hn:∀d,d∈ax x→d.1≠s):l3 l' (cd x (ins (ax x) s id)):=
 ⟨h.mode,h.uid,h.gid,h.kind,fun dy=>absurd hk dy,h.file,h.oE,fun dy=>⟨(h.dir dy).1,(h.dir dy).2.1,(h.dir dy).2.2.1,by
  show(ins (ax x) s id).length≤12
  rw[Aa];omega⟩,fun d af=>by
  rcases sG.1 af with af|rfl
  ·exact⟨(h.names d af).1,(h.names d af).2.1,lL _ (h.names d af).2.2⟩
  ·exact⟨hs,h1,cm⟩,ado h.sorted hn⟩
theorem Tb{l:List aT}(hr:l.Pairwise fun a b=>bh a<bh b){i:Nat}(hi:i<l.length)(s:aP)(id:Int):
  (∀a b,E l a b→E (l.set i (cd (I J l i) (ins (ax (I J l i)) s id))) a b)∧E (l.set i (cd (I J l i) (ins (ax (I J l i)) s id))) (bh (I J l i)) id:=by
 have af:=l7 hr;have aR:bh (cd (I J l i) (ins (ax (I J l i)) s id))=bh (I J l i):=uU _ _;have j8:=l7 (xZ hr hi aR);have ad1:cd (I J l i) (ins (ax (I J l i)) s id)∈l.set i (cd (I J l i) (ins (ax (I J l i)) s id)):=(mem_set af hi aR).2 (.inl rfl);constructor
 ·intro a b;rw[iP af,iP j8]
  rintro⟨x,hx,kg,d,iH,Dg⟩
  by_cases h8:bh x=bh (I J l i)
  ·obtain rfl:=nN af hx (de hi) h8;exact⟨_,ad1,aR.trans kg,d,sG.2 (.inl iH),Dg⟩
  ·exact⟨x,(mem_set af hi aR).2 (.inr ⟨hx,by rw[aR];exact h8⟩),kg,d,iH,Dg⟩
 ·rw[iP j8];exact⟨_,ad1,aR,(s,id,()),sG.2 (.inr rfl),rfl⟩
theorem Tc{l:List aT}{i:Nat}(hi:i<l.length)(s:aP)(id b:Int):cC (l.set i (cd (I J l i) (ins (ax (I J l i)) s id))) b=cC l b+cond (id==b) 1 0:=by have h:=KS (y:=cd (I J l i) (ins (ax (I J l i)) s id)) hi b;rw[k5,aqq]at h;omega
theorem KF.ok{v:ag.D}{c:aM.D}{x:aL.D}{w:ag.D}(hv:b7 v)(hx:iO x)(h:KF v c x w):b7 w:=by
 obtain⟨r,t,i,j,hr,hc,hj,nG,ht,sI,htn,hi,iL,hl,rfl,hf,_⟩:=h.out;have hm:=nM.1 hv;have af:=l7 hm.k_;have bm:=(ca hi).1;have hjl:=ca hj;obtain⟨pT,lv,d,gE,i_,Td⟩:=ht.new sI htn;obtain rfl:d=i:=aX (gE.symm.trans hi);have fD:=C1 Td fun e he=>hv.C2 bm he
 have M':bz r≠1:=by intro h1;obtain⟨z,hz,j5,hz2⟩:=hm.root;have:I J v.2.1 j=z:=nN af (de hjl.1) hz (by rw[j5];exact hjl.2.trans h1);rw[this]at nG;exact nG hz2
 have iv:=(hm.ino _ (de bm)).named (fun _ h=>h) iL lv M' (by rw[hj];rfl) hl fD;obtain⟨hE,_⟩:=Tb hm.k_ bm (nameOf t) (bz r);have aR:bh (cd (I J v.2.1 d) (ins (ax (I J v.2.1 d)) (nameOf t) (bz r)))=bh (I J v.2.1 d):=uU _ _;have Df:∀id,bD (v.2.1.set d (cd (I J v.2.1 d) (ins (ax (I J v.2.1 d)) (nameOf t) (bz r)))) id=bD v.2.1 id:=fun id=>C8 _ bm id
 have lp:=KT.1 hf;refine nM.2 ⟨hm.next,by show(List.set _ _ _).length≤24;rw[List.length_set];exact hm.len,xZ hm.k_ bm aR,?_,?_,?_,?_,?_,lp.1,lp.2⟩
 ·obtain⟨z,hz,j5,hz2⟩:=hm.root;by_cases Dh:bh z=bh (I J v.2.1 d)
  ·exact⟨_,(mem_set af bm aR).2 (.inl rfl),by rw[aR,←Dh];exact j5,iL⟩
  ·exact⟨z,(mem_set af bm aR).2 (.inr ⟨hz,by rw[aR];exact Dh⟩),j5,hz2⟩
 ·intro z hz;rcases (mem_set af bm aR).1 hz with rfl|⟨hz,_⟩
  ·rw[aR];exact hm.ids _ (de bm)
  ·exact hm.ids z hz
 ·intro z hz;rcases (mem_set af bm aR).1 hz with rfl|⟨hz,_⟩
  ·exact iv.to fun e _ h=>by rw[xV,Df];exact h
  ·exact(hm.ino z hz).to fun e _ h=>by rw[xV,Df];exact h
 ·intro z hz hne;rcases (mem_set af bm aR).1 hz with rfl|⟨hz,_⟩
  ·rw[aR]at hne⊢;exact Ai hE (hm.reach _ (de bm) hne)
  ·exact Ai hE (hm.reach z hz hne)
 ·have ad2:∀z,z∈v.2.1→bh z≠1→kindOf z=2→cC (v.2.1.set d (cd (I J v.2.1 d) (ins (ax (I J v.2.1 d)) (nameOf t) (bz r)))) (bh z)=1:=by
   intro z hz hne hk;rw[Tc bm,hm.once z hz hne hk];have:bz r≠bh z:=fun e=>by have:I J v.2.1 j=z:=nN af (de hjl.1) hz (hjl.2.trans e);rw[this]at nG;exact nG hk
   rw[bY this];rfl
  intro z hz hne hk;rcases (mem_set af bm aR).1 hz with rfl|⟨hz,_⟩
  ·rw[aR]at hne⊢;exact ad2 _ (de bm) hne iL
  ·exact ad2 z hz hne hk
theorem Made.ok{v:ag.D}{c:aM.D}{x:aL.D}{w:ag.D}(hv:b7 v)(hc:d' c=true)(hx:iO x)(hk:aD x=1∨aD x=3∨aD x=10)(h:Made v c x w):b7 w:=by
 obtain⟨r,i,hr,aqu,q5,hi,iL,_,hl,hlen,SG,rfl,hf,_⟩:=h.out;have k6:=h.bad;have hm:=nM.1 hv;have af:=l7 hm.k_;have bm:=(ca hi).1;obtain⟨pT,lv,d,gE,i_,Td⟩:=hr.new aqu q5;obtain rfl:d=i:=aX (gE.symm.trans hi);have fD:=C1 Td fun e he=>hv.C2 bm he
 have kM:bD v.2.1 v.1=none:=hv.free;have rM:=hm.next;have rB:=hm.ino _ (de bm);have aR:bh (cd (I J v.2.1 d) (ins (ax (I J v.2.1 d)) (nameOf r) v.1))=bh (I J v.2.1 d):=uU _ _;obtain⟨Te,Ak⟩:=Tb hm.k_ bm (nameOf r) v.1;have pq:=xZ hm.k_ bm aR;have Di:bh (gV v c x (I J v.2.1 d))=gM v:=rfl;have Dj:ax (gV v c x (I J v.2.1 d))=[]:=rfl;have l4:=fun {z:aT}=> mem_set (x:=z) af bm aR
 have Tf:∀z,z∈v.2.1.set d (cd (I J v.2.1 d) (ins (ax (I J v.2.1 d)) (nameOf r) v.1))→1≤bh z∧bh z≤gM v-1:=by
  intro z hz;rcases l4.1 hz with rfl|⟨hz,_⟩
  ·rw[aR];exact hm.ids _ (de bm)
  ·exact hm.ids z hz
 generalize hn:gV v c x (I J v.2.1 d)=n at *;generalize dg:v.2.1.set d (cd (I J v.2.1 d) (ins (ax (I J v.2.1 d)) (nameOf r) v.1))=S at *;have ad3:(S++[n]).Pairwise fun a b=>bh a<bh b:=by rw[List.pairwise_append];refine⟨pq,List.pairwise_singleton _ _,fun a ha b hb=>?_⟩;rw[List.mem_singleton.1 hb,Di];have:=Tf a ha;omega
 have j8:=l7 ad3
 have Al:∀a b,E S a b→E (S++[n]) a b:=by
  intro a b;rw[iP (l7 pq),iP j8]
  rintro⟨z,hz,h⟩
  exact⟨z,List.mem_append.2 (.inl hz),h⟩
 have hE:∀a b,E v.2.1 a b→E (S++[n]) a b:=fun a b h=>Al a b (Te a b h)
 have aqv:∀id,bD S id=bD v.2.1 id:=fun id=>by rw[←dg];exact C8 _ bm id
 have KU:∀id,(bD v.2.1 id).isSome=true→(bD (S++[n]) id).isSome=true:=by intro id cm;obtain⟨y,aR,he⟩:=oI.1 (show(bD S id).isSome=true by rw[aqv];exact cm);exact oI.2 ⟨y,List.mem_append.2 (.inl aR),he⟩
 have aqw:(bD (S++[n]) v.1).isSome=true:=oI.2 ⟨n,List.mem_append.2 (.inr (List.mem_singleton.2 rfl)),Di⟩;have hdl:=hm.ids _ (de bm);have aqx:=rB.named KU iL lv (show v.1≠1 by show gM v≠1;omega) aqw hl fD;have qg:(0≤c.1∧c.1≤1000)∧(0≤c.2.1∧c.2.1≤1000):=by unfold d' at hc;simp only[Bool.and_eq_true]at hc;exact⟨cR.1 hc.1,cR.1 hc.2.1⟩
 have aqy:l3 (S++[n]) n:=by
  have pg:0≤fr n∧fr n≤2047:=by
   rw[←hn];show 0≤xU x (I J v.2.1 d)∧xU x (I J v.2.1 d)≤2047;unfold xU;by_cases kP:aD x=10
   ·rw[if_pos kP];omega
   rw[if_neg kP];unfold sH at k6;rw[bY kP]at k6;simp only[cond_false,Bool.not_eq_false']at k6;have hr:=cR.1 k6;split
   ·exact aoE hr.1 hr.2
   ·exact hr
  have q8:0≤fL n∧fL n≤1000:=by
   rw[←hn];show 0≤C3 c (I J v.2.1 d)∧C3 c (I J v.2.1 d)≤1000;unfold C3;split
   ·exact rB.gid
   ·exact qg.2
  have kJ:kindOf n=KD x:=by rw[←hn];rfl
  have Tg:bX n=if aD x=10 then ji x else []:=by rw[←hn];rfl
  have y0:eR n=c.1:=by rw[←hn];rfl
  have KE:fr n=xU x (I J v.2.1 d):=by rw[←hn];rfl
  have gG:fZ n=0:=by rw[←hn];rfl
  have hi0:fK n=0:=by rw[←hn];rfl
  unfold KD at kJ;refine⟨pg,by rw[y0];exact qg.1,q8,?_,fun _=>⟨gG,hi0,Dj⟩,fun h1=>?_,fun h3=>?_,fun h2=>?_,fun e he=>(by rw[Dj]at he;cases he),by rw[Dj];exact List.Pairwise.nil⟩
  ·rw[kJ];split
   ·exact .inr (.inl rfl)
   ·split
    ·exact .inr (.inr rfl)
    ·exact .inl rfl
  ·rw[Tg];split
   ·have:=hx.q4;omega
   ·simp
  ·have kP:aD x=10:=by
    rw[kJ]at h3;split at h3
    ·cases h3
    ·split at h3
     ·assumption
     ·cases h3
   unfold sH at k6;rw[cL kP]at k6;simp only[cond_true,Bool.not_eq_false']at k6;refine⟨by rw[Tg,if_pos kP];exact k6,?_⟩;rw[KE];unfold xU;rw[if_pos kP]
  ·have kP:aD x≠10:=by
    intro kP;rw[kJ,if_neg (by omega),if_pos kP]at h2;cases h2
   rw[Tg,if_neg kP,gG,hi0,Dj];exact⟨rfl,by omega,by omega,by simp⟩
 have Th:∀z,z∈v.2.1→bh z≠1→eg (S++[n]) 1 (bh z):=fun z hz hne=>Ai hE (hm.reach z hz hne)
 have aqz:∀b,cC (S++[n]) b=cC v.2.1 b+cond (v.1==b) 1 0:=by intro b;rw[aqp,Dj,←dg,Tc bm];rfl
 have lp:=KT.1 hf;refine nM.2 ⟨?_,?_,ad3,?_,?_,?_,?_,?_,lp.1,lp.2⟩
 ·show 2≤gM v+1∧gM v+1≤100000;omega
 ·show(S++[n]).length≤24;rw[List.length_append,List.length_singleton,←dg,List.length_set];omega
 ·obtain⟨z,hz,j5,hz2⟩:=hm.root;by_cases Dh:bh z=bh (I J v.2.1 d)
  ·exact⟨_,List.mem_append.2 (.inl (l4.2 (.inl rfl))),by rw[aR,←Dh];exact j5,iL⟩
  ·exact⟨z,List.mem_append.2 (.inl (l4.2 (.inr ⟨hz,by rw[aR];exact Dh⟩))),j5,hz2⟩
 ·intro z hz;show 1≤bh z∧bh z≤gM v+1-1;rcases List.mem_append.1 hz with hz|hz
  ·have:=Tf z hz;omega
  ·rw[List.mem_singleton.1 hz,Di];omega
 ·intro z hz;rcases List.mem_append.1 hz with hz|hz
  ·rcases l4.1 hz with rfl|⟨hz,_⟩
   ·exact aqx
   ·exact(hm.ino z hz).to fun e _ h=>KU _ h
  ·rw[List.mem_singleton.1 hz];exact aqy
 ·intro z hz hne;rcases List.mem_append.1 hz with hz|hz
  ·rcases l4.1 hz with rfl|⟨hz,_⟩
   ·rw[aR]at hne⊢;exact Th _ (de bm) hne
   ·exact Th z hz hne
  ·rw[List.mem_singleton.1 hz,Di];by_cases h1:bh (I J v.2.1 d)=1
   ·exact .single (Al _ _ (h1▸Ak))
   ·exact .tail (Th _ (de bm) h1) (Al _ _ Ak)
 ·intro z hz hne aqA;show cC (S++[n]) (bh z)=1;rw[aqz];rcases List.mem_append.1 hz with hz|hz
  ·have bQ:=Tf z hz;rw[bY (show v.1≠bh z by show gM v≠bh z;omega)];rcases l4.1 hz with rfl|⟨hz,_⟩
   ·rw[aR]at hne⊢;exact hm.once _ (de bm) hne iL
   ·exact hm.once z hz hne aqA
  ·rw[List.mem_singleton.1 hz,Di,show cC v.2.1 (gM v)=0 from aqs hv.jh kM,cL (show v.1=gM v from rfl)];rfl
theorem Db.ok{v:ag.D}{c:aM.D}{x:aL.D}{w:ag.D}(hv:b7 v)(h:Db v c x w):b7 w:=by obtain⟨h0,h1,r,i,_,_,hi,rfl⟩:=h.out;have bm:=(ca hi).1;have bT:=hv.ino i bm;exact hv.keep bm (y:=jV (I J v.2.1 i) (fr (I J v.2.1 i)) (bU x) (eB x)) rfl rfl rfl ⟨bT.mode,h0,h1,bT.kind,bT.plain,bT.file,bT.oE,bT.dir,bT.names,bT.sorted⟩ (KN hv bm _ _ _)
theorem KO.ok{v:ag.D}{c:aM.D}{x:aL.D}{w:ag.D}(hv:b7 v)(h:KO v c x w):b7 w:=by obtain⟨h0,h1,_,r,i,_,_,hi,hk,rfl,hf⟩:=h.out;have bm:=(ca hi).1;have bT:=hv.ino i bm;exact hv.keep bm (y:=nK (I J v.2.1 i) (bU x) (eB x)) rfl rfl rfl ⟨bT.mode,bT.uid,bT.gid,bT.kind,fun dy=>absurd hk dy,bT.file,bT.oE,fun dy=>⟨(bT.dir dy).1,h0,h1,(bT.dir dy).2.2.2⟩,bT.names,bT.sorted⟩ hf
theorem aqB(s:aP)(a:Nat)(d:aP)(hs:s.length≤64)(h:a+d.length≤64):(l5 s a d).length≤64:=by unfold l5;rw[List.length_append,List.length_append,q7,List.length_drop];omega
theorem Ad.ok{v:ag.D}{c:aM.D}{x:aL.D}{w:ag.D}(hv:b7 v)(h:Ad v c x w):b7 w:=by
 obtain⟨r,i,_,_,hi,hk,kd,_,ha,_,h⟩:=h.out;have bm:=(ca hi).1;have bT:=hv.ino i bm;have af:=hv.h6 bm;rcases h with⟨_,_,rfl⟩|⟨_,hle,rfl,hf⟩
 ·exact hv
 ·have hlen:(jj x (I J v.2.1 i)).length≤64:=by
   unfold jj;split
   ·rename_i bL;rw[q7];have:eN x (I J v.2.1 i)=bU x:=by unfold eN;rw[if_neg (by omega)]
    omega
   ·exact aqB _ _ _ af (by omega)
  exact hv.keep bm (y:=oN (I J v.2.1 i) (jj x (I J v.2.1 i))) rfl rfl rfl ⟨bT.mode,bT.uid,bT.gid,bT.kind,bT.plain,fun _=>hlen,fun h3=>absurd h3 kd,fun h2=>absurd h2 hk,bT.names,bT.sorted⟩ hf
theorem aqC{m:Int}(h:0≤m)(h':m≤2047):0≤andNot m 1024∧andNot m 1024≤2047:=by
 obtain⟨n,rfl⟩:∃n:Nat,m=(n:Int):=⟨m.toNat,by omega⟩
 unfold andNot;rw[show(1024:Int)=((1024:Nat):Int) from rfl,bits_nat];simp only;have h1:(BitVec.ofNat 64 n &&& ~~~BitVec.ofNat 64 1024).toNat≤n:=by rw[BitVec.toNat_and,BitVec.toNat_ofNat,Nat.mod_eq_of_lt (show n<2^64 by omega)];exact Nat.and_le_left
 rw[show IntKind.wrap .i64 (((BitVec.ofNat 64 n &&& ~~~BitVec.ofNat 64 1024).toNat:Nat):Int)=(((BitVec.ofNat 64 n &&& ~~~BitVec.ofNat 64 1024).toNat:Nat):Int) from dG (by omega) (by omega)];omega
theorem Da.ok{v:ag.D}{c:aM.D}{x:aL.D}{w:ag.D}(hv:b7 v)(h:Da v c x w):b7 w:=by
 obtain⟨h0,h1,r,i,_,_,hi,kd,_,rfl⟩:=h.out;have bm:=(ca hi).1;have bT:=hv.ino i bm
 have hm:0≤sJ c x (I J v.2.1 i)∧sJ c x (I J v.2.1 i)≤2047:=by
  unfold sJ;split
  ·exact aqC h0 h1
  ·exact⟨h0,h1⟩
 exact hv.keep bm (y:=jV (I J v.2.1 i) (sJ c x (I J v.2.1 i)) (eR (I J v.2.1 i)) (fL (I J v.2.1 i))) rfl rfl rfl ⟨hm,bT.uid,bT.gid,bT.kind,bT.plain,bT.file,fun h3=>absurd h3 kd,bT.dir,bT.names,bT.sorted⟩ (KN hv bm _ _ _)
open Classical in
noncomputable def ru(l:List aT)(id:Int):List aT:=l.filter fun x=>decide (eg l id (bh x))
theorem ad4(l:List aT):l=(List.range l.length).map fun i=>I J l i:=by
 refine List.ext_getElem (by simp) fun i h1 h2=>?_
 rw[List.getElem_map,List.getElem_range,c3 h1]
open Classical in
theorem ad5{l:List aT}(af:jf l)(id:Int):(pP l (eM l id)).map (fun i=>I J l i)=ru l id:=by
 unfold ru
 conv=>rhs;rw[ad4 l]
 rw[List.filter_map];unfold pP;congr 1;refine List.filter_congr fun i hi=>?_
 have hi:=List.mem_range.1 hi;have h:=CK l af id hi;unfold T at h;have e:(I .bool (eM l id) i:Bool)=decide (eg l id (bh (I J l i))):=by rw[Bool.eq_iff_iff,decide_eq_true_iff];exact h
 rw[e];simp only[Function.comp];rw[←ad4 l]
theorem ad6{l:List aT}(af:jf l)(id:Int):ky l (eM l id)=(ru l id).length:=by rw[←ad5 af id,List.length_map];rfl
theorem ad7{l:List aT}(af:jf l)(id:Int):ka l (eM l id)=((ru l id).map fun x=>(bX x).length).sum:=by rw[←ad5 af id,List.map_map];rfl
theorem aqD{l:List aT}:jO l=false↔∀x,x∈l→jN l x=false:=by
 unfold jO;constructor
 ·intro h x hx;obtain⟨i,hi,rfl⟩:=fJ hx
  cases ha:fz l.length fun i=> !jN l (I J l i)with
  |true=>simpa using hC.1 ha i hi
  |false=>rw[ha]at h;cases h
 ·intro h;rw[hC.2 fun i hi=>by rw[h _ (de hi)];rfl];rfl
def prs(l:List aT):List (Int×Nat):=l.map fun x=>(bh x,(bX x).length)
open Classical in
noncomputable def Dk(l:List aT)(id:Int):List (Int×Nat):=(prs l).filter fun p=>decide (eg l id p.1)
open Classical in
theorem KV(l:List aT)(id:Int):(ru l id).length=(Dk l id).length∧((ru l id).map fun x=>(bX x).length).sum=((Dk l id).map fun p=>p.2).sum:=by
 have e:Dk l id=(ru l id).map fun x=>(bh x,(bX x).length):=by unfold Dk ru prs;rw[List.filter_map];rfl
 rw[e,List.length_map,List.map_map];exact⟨rfl,rfl⟩
theorem ad8{α:Type}(f:α→Nat){lA L:List α}(h:lA.Sublist L)(p q:α→Bool)(Ti:∀a,p a=true→q a=true):((lA.filter p).map f).sum≤((L.filter q).map f).sum:=by
 induction h with
 |slnil=>simp
 |cons a h ih=>
  rw[List.filter_cons (x:=a)];split
  ·rw[List.map_cons,List.sum_cons];omega
  ·exact ih
 |cons_cons a h ih=>
  rw[List.filter_cons,List.filter_cons];by_cases av:p a=true
  ·rw[if_pos av,if_pos (Ti a av),List.map_cons,List.map_cons,List.sum_cons,List.sum_cons];omega
  ·rw[if_neg av];split
   ·rw[List.map_cons,List.sum_cons];omega
   ·exact ih
theorem Tj{α:Type}:∀L:List α,(L.map fun _=>1).sum=L.length
 | []=>rfl
 |a::L=>by rw[List.map_cons,List.sum_cons,Tj L,List.length_cons];omega
theorem aqE{α:Type}{lA L:List α}(h:lA.Sublist L)(p q:α→Bool)(Ti:∀a,p a=true→q a=true):(lA.filter p).length≤(L.filter q).length:=by rw[←Tj,←Tj];exact ad8 (fun _=>1) h p q Ti
theorem aqF{l l':List aT}(af:jf l)(j8:jf l')(hs:(prs l').Sublist (prs l))(hE:∀a b,eg l' a b→eg l a b)(id:Int):ky l' (eM l' id)≤ky l (eM l id)∧ka l' (eM l' id)≤ka l (eM l id):=by rw[ad6 af,ad6 j8,ad7 af,ad7 j8,(KV l id).1,(KV l id).2,(KV l' id).1,(KV l' id).2];unfold Dk;exact⟨aqE hs _ _ fun a h=>by simp only[decide_eq_true_iff]at h⊢;exact hE _ _ h,ad8 _ hs _ _ fun a h=>by simp only[decide_eq_true_iff]at h⊢;exact hE _ _ h⟩
theorem aqG{l l':List aT}(af:jf l)(j8:jf l')(hs:(prs l').Sublist (prs l))(hE:∀a b,eg l' a b→eg l a b)
  (hm:∀bA,bA∈l'→∃x,x∈l∧bh x=bh bA∧fZ x=fZ bA∧fK x=fK bA) (h:jO l=false):jO l'=false:=by
 rw[aqD]at h⊢;intro bA lO;obtain⟨x,hx,h1,h2,h3⟩:=hm bA lO;have h0:=h x hx;have hu:=aqF af j8 hs hE (bh bA);unfold jN at h0⊢;have e:x.1=bA.1:=h1;rw[Bool.or_eq_false_iff,Bool.and_eq_false_iff,Bool.and_eq_false_iff,decide_eq_false_iff_not,decide_eq_false_iff_not,decide_eq_false_iff_not,decide_eq_false_iff_not]at h0⊢;rw[e,h2,h3]at h0;have yN:ky l' (eM l' bA.1)≤ky l (eM l bA.1):=hu.1;have tH:ka l' (eM l' bA.1)≤ka l (eM l bA.1):=hu.2;refine⟨h0.1.imp id fun h=>by omega,h0.2.imp id fun h=>by omega⟩
theorem aqH{l:List aT}{p:aT→Bool}(b:Int)(h:∀x,x∈l→p x=false→ax x=[]):cC (l.filter p) b=cC l b:=by
 unfold cC
 induction l with
 |nil=>rfl
 |cons x l ih=>
  have ih:=ih fun y aR=>h y (List.mem_cons_of_mem _ aR)
  rw[List.filter_cons]
  cases av:p x with
  |true=>rw[if_pos rfl,List.map_cons,List.map_cons,List.sum_cons,List.sum_cons,ih]
  |false=>rw[if_neg (by decide),List.map_cons,List.sum_cons,ih,h x List.mem_cons_self av];simp[dJ]
theorem aqI{l:List aT}{i:Nat}(hi:i<l.length){y:aT}(h1:bh y=bh (I J l i))(h2:bX y=bX (I J l i)):prs (l.set i y)=prs l:=by
 unfold prs;rw[List.map_set,h1,h2,c3 hi];refine List.ext_getElem (by simp) fun j a b=>?_
 rw[List.getElem_set];split
 ·rename_i h;subst h;rw[List.getElem_map]
 ·rfl
theorem aqJ{l:List aT}{b:Int}(h:cC l b≠0):∃x,x∈l∧∃d,d∈ax x∧d.2.1=b:=by refine Decidable.byContradiction fun hn=>h (ad0 fun x hx d af he=>hn ⟨x,hx,d,af,he⟩)
theorem ad9{v:ag.D}(hv:b7 v){i:Nat}(hi:i<v.2.1.length){s:aP}{k:Int}(oJ:ea (ax (I J v.2.1 i)) s=k)(hk0:k≠0){j:Nat}(hj:bD v.2.1 k=some j)(he:ax (I J v.2.1 j)=[]):b7 (lB v i s):=by
 have hm:=nM.1 hv;have af:=l7 hm.k_;have hjl:=ca hj;have q8:=de (t:=J) hi;have Tk:=de (t:=J) hjl.1;have bT:=hm.ino _ q8;obtain⟨d,u0,KW,gz⟩:=sC (N:=ax (I J v.2.1 i)) (s:=s) (by rw[oJ];exact hk0);rw[oJ]at gz;have hk1:k≠1:=gz▸(bT.names d u0).2.1;have mw:bh (I J v.2.1 j)=k:=hjl.2;have jm:bh (I J v.2.1 i)≠k:=by intro h;have:=nN af q8 Tk (h.trans mw.symm);rw[this,he]at u0;cases u0
 have aR:bh (cd (I J v.2.1 i) (ct (ax (I J v.2.1 i)) s))=bh (I J v.2.1 i):=uU _ _;have hr1:=xZ hm.k_ hi aR;have KX:=fun {x:aT}=> mem_set (x:=x) af hi aR
 have aqK:∀b,¬E v.2.1 k b:=by intro b h;obtain⟨x,hx,aqL,e,hex,_⟩:=(iP af).1 h;have:=nN af hx Tk (aqL.trans mw.symm);rw[this,he]at hex;cases hex
 have aqM:∀b,cC (v.2.1.set i (cd (I J v.2.1 i) (ct (ax (I J v.2.1 i)) s))) b+cond (k==b) 1 0=cC v.2.1 b:=by intro b;have h1:=KS (y:=cd (I J v.2.1 i) (ct (ax (I J v.2.1 i)) s)) hi b;have h2:=Ta bT.sorted u0 b;rw[k5]at h1;rw[KW,gz]at h2;omega
 have ad_:prs (v.2.1.set i (cd (I J v.2.1 i) (ct (ax (I J v.2.1 i)) s)))=prs v.2.1:=aqI hi aR rfl;have aqN:bytesOf (v.2.1.set i (cd (I J v.2.1 i) (ct (ax (I J v.2.1 i)) s)))=bytesOf v.2.1:=by have h:=ac8 (y:=cd (I J v.2.1 i) (ct (ax (I J v.2.1 i)) s)) hi;rw[show bX (cd (I J v.2.1 i) (ct (ax (I J v.2.1 i)) s))=bX (I J v.2.1 i) from rfl]at h;omega
 have mv:∀x,x∈v.2.1.set i (cd (I J v.2.1 i) (ct (ax (I J v.2.1 i)) s))→∃bA,bA∈v.2.1∧bh bA=bh x∧kindOf bA=kindOf x∧fZ bA=fZ x∧fK bA=fK x∧(∀e,e∈ax x→e∈ax bA)∧(bh x=k→ax x=[]):=by
  intro x hx;rcases KX.1 hx with rfl|⟨hx,hne⟩
  ·exact⟨_,q8,rfl,rfl,rfl,rfl,fun e h=>uR h,fun h=>absurd (aR▸h) jm⟩
  ·exact⟨x,hx,rfl,rfl,rfl,rfl,fun e h=>h,fun h=>by rw[nN af hx Tk (h.trans mw.symm)];exact he⟩
 have Tl:∀x,x∈v.2.1→∃bA,bA∈v.2.1.set i (cd (I J v.2.1 i) (ct (ax (I J v.2.1 i)) s))∧bh bA=bh x∧kindOf bA=kindOf x∧∀e,e∈ax x→e.2.1≠k→e∈ax bA:=by
  intro x hx;by_cases h8:bh x=bh (I J v.2.1 i)
  ·have lO:=nN af hx q8 h8;subst lO;refine⟨_,KX.2 (.inl rfl),aR,rfl,fun e h Tm=>List.mem_filter.2 ⟨h,?_⟩⟩;have:e.1≠s:=fun h1=>Tm (by rw[←KI bT.sorted h,h1,oJ])
   unfold bx;simp[this]
  ·exact⟨x,KX.2 (.inr ⟨hx,by rw[aR];exact h8⟩),rfl,rfl,fun e h _=>h⟩
 have aqO:∀x,x∈v.2.1.set i (cd (I J v.2.1 i) (ct (ax (I J v.2.1 i)) s))→l3 v.2.1 x:=by
  intro x hx;rcases KX.1 hx with rfl|⟨hx,hne⟩
  ·exact⟨bT.mode,bT.uid,bT.gid,bT.kind,fun h=>⟨(bT.plain h).1,(bT.plain h).2.1,by
    show ct _ s=[]
    rw[(bT.plain h).2.2];rfl⟩,bT.file,bT.oE,fun h=>⟨(bT.dir h).1,(bT.dir h).2.1,(bT.dir h).2.2.1,Nat.le_trans (xS _ _) (bT.dir h).2.2.2⟩,fun e h=>bT.names e (uR h),xW bT.sorted s⟩
  ·exact hm.ino x hx
 show b7 (v.1,goN (v.2.1.set i (cd (I J v.2.1 i) (ct (ax (I J v.2.1 i)) s))) (ea (ax (I J v.2.1 i)) s),());rw[oJ];generalize v.2.1.set i (cd (I J v.2.1 i) (ct (ax (I J v.2.1 i)) s))=S at *;have gE:=l7 hr1
 have ln:∀x,x∈goN S k↔x∈S∧(cC S k=0→bh x≠k):=by
  intro x;unfold goN;by_cases h0:cC S k=0
  ·rw[decide_eq_true h0];simp only[cond_true,List.mem_filter,Bool.not_eq_true',beq_eq_false_iff_ne];exact⟨fun h=>⟨h.1,fun _=>h.2⟩,fun h=>⟨h.1,h.2 h0⟩⟩
  ·rw[decide_eq_false h0];exact⟨fun h=>⟨h,fun h1=>absurd h1 h0⟩,fun h=>h.1⟩
 have lL:(goN S k).Sublist S:=by
  unfold goN;cases decide (cC S k=0)
  ·exact List.Sublist.refl _
  ·exact List.filter_sublist
 have gZ:=hr1.sublist lL;have i_:=l7 gZ;have aqP:∀a b,E (goN S k) a b→E v.2.1 a b:=by intro a b h;obtain⟨x,hx,kg,e,hex,nO⟩:=(iP i_).1 h;obtain⟨bA,h1,h2,_,_,_,h3,_⟩:=mv x ((ln x).1 hx).1;exact(iP af).2 ⟨bA,h1,h2.trans kg,e,h3 e hex,nO⟩
 have Al:∀a b,E S a b→E (goN S k) a b:=by intro a b h;obtain⟨x,hx,kg,e,hex,nO⟩:=(iP gE).1 h;refine(iP i_).2 ⟨x,(ln x).2 ⟨hx,fun _ hk=>?_⟩,kg,e,hex,nO⟩;obtain⟨_,_,_,_,_,_,_,jB⟩:=mv x hx;rw[jB hk]at hex;cases hex
 have ad':∀a b,b≠k→E v.2.1 a b→E (goN S k) a b:=by intro a b hb h;obtain⟨x,hx,kg,e,hex,nO⟩:=(iP af).1 h;obtain⟨bA,h1,h2,_,h3⟩:=Tl x hx;exact Al a b ((iP gE).2 ⟨bA,h1,h2.trans kg,e,h3 e hex (nO▸hb),nO⟩)
 have hM:∀b,eg v.2.1 1 b→b≠k→eg (goN S k) 1 b:=by
  intro b h
  induction h with
  |single h=>exact fun hb=>.single (ad' _ _ hb h)
  |tail h1 h2 ih=>exact fun hb=>.tail (ih fun h=>aqK _ (h▸h2)) (ad' _ _ hb h2)
 have aqQ:∀b,cC (goN S k) b=cC S b:=by
  intro b;unfold goN;cases decide (cC S k=0)
  ·rfl
  ·refine aqH b fun x hx av=>?_
   obtain⟨_,_,_,_,_,_,_,jB⟩:=mv x hx;have e:x.1=k:=by simpa using av
   exact jB e
 have KU:∀x,x∈goN S k→∀e,e∈ax x→(bD v.2.1 e.2.1).isSome=true→(bD (goN S k) e.2.1).isSome=true:=by intro x hx e hex hs;obtain⟨y,aR,zX⟩:=oI.1 hs;obtain⟨mZ,h1,h2,_,_⟩:=Tl y aR;refine oI.2 ⟨mZ,(ln mZ).2 ⟨h1,fun h0 hk=>?_⟩,h2.trans zX⟩;refine SA h0 x ((ln x).1 hx).1 e hex ?_;exact zX.symm.trans (h2.symm.trans hk)
 refine nM.2 ⟨hm.next,Nat.le_trans lL.length_le ?_,gZ,?_,?_,?_,?_,?_,?_,?_⟩
 ·have:=congrArg List.length ad_;unfold prs at this;rw[List.length_map,List.length_map]at this;rw[this];exact hm.len
 ·obtain⟨z,hz,j5,hz2⟩:=hm.root;obtain⟨hP,h1,h2,h3,_⟩:=Tl z hz;exact⟨hP,(ln hP).2 ⟨h1,fun _ h=>hk1 (h.symm.trans (h2.trans j5))⟩,h2.trans j5,h3.trans hz2⟩
 ·intro x hx;obtain⟨bA,h1,h2,_⟩:=mv x ((ln x).1 hx).1;rw[←h2];exact hm.ids bA h1
 ·intro x hx;exact(aqO x ((ln x).1 hx).1).to fun e hex h=>KU x hx e hex h
 ·intro x hx hne;obtain⟨bA,h1,h2,_⟩:=mv x ((ln x).1 hx).1;by_cases hk:bh x=k
  ·have h0:cC S k≠0:=fun h0=>((ln x).1 hx).2 h0 hk
   obtain⟨z,hz,e,Tn,Tm⟩:=aqJ h0;have aea:E (goN S k) (bh z) k:=Al _ _ ((iP gE).2 ⟨z,hz,rfl,e,Tn,Tm⟩);obtain⟨hP,g1,g2,_,_,_,_,g9⟩:=mv z hz;rw[hk];by_cases j5:bh z=1
   ·exact .single (j5▸aea)
   ·refine .tail (hM _ (g2▸hm.reach hP g1 (by rw[g2];exact j5)) fun h=>?_) aea;rw[g9 h]at Tn;cases Tn
  ·exact hM _ (h2▸hm.reach bA h1 (by rw[h2];exact hne)) hk
 ·intro x hx hne aqR;obtain⟨bA,h1,h2,h3,_⟩:=mv x ((ln x).1 hx).1;have ho:=hm.once bA h1 (by rw[h2];exact hne) (h3.trans aqR);have hn:=aqM (bh x);rw[h2]at ho;show cC (goN S k) (bh x)=1;rw[aqQ];by_cases hk:bh x=k
  ·exfalso;rw[cL hk.symm]at hn;simp only[cond_true]at hn;exact((ln x).1 hx).2 (by rw[←hk];omega) hk
  ·rw[bY (fun h=>hk h.symm)]at hn;simp only[cond_false]at hn;omega
 ·refine Nat.le_trans ?_ (aqN▸hm.bytes);unfold goN;cases decide (cC S k=0)
  ·exact Nat.le_refl _
  ·exact KB _ _ S
 ·refine aqG af i_ ?_ (fun a b h=>Ai aqP h) (fun x hx=>?_) hm.over
  ·rw[←ad_];exact lL.map _
  ·obtain⟨bA,h1,h2,_,h4,a6,_⟩:=mv x ((ln x).1 hx).1;exact⟨bA,h1,h2,h4,a6⟩
theorem C6.ok{v:ag.D}{c:aM.D}{x:aL.D}{w:ag.D}(hv:b7 v)(h:C6 v c x w):b7 w:=by obtain⟨r,i,j,hr,hc,hn,hi,_,hl,hj,he,_,_,rfl⟩:=h.out;exact ad9 hv (ca hi).1 hl (hr.named hc hn).1 hj he
theorem aeb{u:ag.D}(hu:b7 u){rd ke:Int}{ir it:Nat}{cK tn:aP}{bH:Int}(h:uS u.2.1 rd ke ir it cK tn bH)(htn:nF tn=true)(hlen:rd≠ke→(ax (I J u.2.1 it)).length<12)
  (hb:∀j,bD u.2.1 bH=some j→kindOf (I J u.2.1 j)=2→ke≠bH∧¬eg u.2.1 bH ke) (hf:fi (e7 u.2.1 ir cK it tn bH)=0):b7 (u.1,e7 u.2.1 ir cK it tn bH,()):=by
 have hm:=nM.1 hu;have af:=l7 hm.k_;have x0:=ca h.hr;have Dl:=ca h.ht;have oL:=de (t:=J) x0.1;have bT:=hm.ino _ oL;have aqS:bh (I J u.2.1 ir)=rd:=x0.2;have Am:bh (I J u.2.1 it)=ke:=Dl.2;obtain⟨j,hj⟩:=Option.isSome_iff_exists.1 h.ex;have hjl:=ca hj;have aec:bh (I J u.2.1 j)=bH:=hjl.2;obtain⟨d,u0,KW,gz⟩:=sC (N:=ax (I J u.2.1 ir)) (s:=cK) (by rw[h.look];exact h.adp);rw[h.look]at gz;have aqT:bH≠1:=gz▸(bT.names d u0).2.1;have An:bh (cd (I J u.2.1 ir) (ct (ax (I J u.2.1 ir)) cK))=bh (I J u.2.1 ir):=uU _ _;have Ao:=fun {x:aT}=> mem_set (x:=x) af x0.1 An
 have hr1:(dQ u.2.1 ir cK).Pairwise fun a b=>bh a<bh b:=xZ hm.k_ x0.1 An
 have gE:=l7 hr1;have Dm:∀id,bD (dQ u.2.1 ir cK) id=bD u.2.1 id:=fun id=>SP x0.1 id
 have hl1:(dQ u.2.1 ir cK).length=u.2.1.length:=List.length_set;have Ap:it<(dQ u.2.1 ir cK).length:=by rw[hl1];exact Dl.1
 have aqU:∀b,cC (dQ u.2.1 ir cK) b+cond (bH==b) 1 0=cC u.2.1 b:=by intro b;have h1:=KS (y:=cd (I J u.2.1 ir) (ct (ax (I J u.2.1 ir)) cK)) x0.1 b;have h2:=Ta bT.sorted u0 b;rw[k5]at h1;rw[KW,gz]at h2;show cC (List.set _ _ _) b+_=_;omega
 have aed:∀x,x∈dQ u.2.1 ir cK→l3 (dQ u.2.1 ir cK) x:=by
  intro x hx;rcases Ao.1 hx with rfl|⟨hx,hne⟩
  ·exact⟨bT.mode,bT.uid,bT.gid,bT.kind,fun hk=>absurd h.uT hk,bT.file,bT.oE,fun hk=>⟨(bT.dir hk).1,(bT.dir hk).2.1,(bT.dir hk).2.2.1,Nat.le_trans (xS _ _) (bT.dir hk).2.2.2⟩,fun e he=>by rw[Dm];exact bT.names e (uR he),xW bT.sorted cK⟩
  ·exact(hm.ino x hx).to fun e _ hs=>by rw[Dm];exact hs
 have Te:∀a b,b≠bH→E u.2.1 a b→E (dQ u.2.1 ir cK) a b:=by
  intro a b dV hE;obtain⟨x,hx,kg,e,hex,nO⟩:=(iP af).1 hE;by_cases h8:bh x=bh (I J u.2.1 ir)
  ·have lO:=nN af hx oL h8;subst lO;refine(iP gE).2 ⟨_,Ao.2 (.inl rfl),An.trans kg,e,List.mem_filter.2 ⟨hex,?_⟩,nO⟩;have:e.1≠cK:=fun h1=>dV (by rw[←nO,←KI bT.sorted hex,h1,h.look])
   unfold bx;simp[this]
  ·exact(iP gE).2 ⟨x,Ao.2 (.inr ⟨hx,by rw[An];exact h8⟩),kg,e,hex,nO⟩
 have aqV:∀x,x∈u.2.1→∃bA,bA∈dQ u.2.1 ir cK∧bh bA=bh x∧kindOf bA=kindOf x:=by
  intro x hx;by_cases h8:bh x=bh (I J u.2.1 ir)
  ·exact⟨_,Ao.2 (.inl rfl),An.trans h8.symm,by rw[nN af hx oL h8];rfl⟩
  ·exact⟨x,Ao.2 (.inr ⟨hx,by rw[An];exact h8⟩),rfl,rfl⟩
 have aee:∀x,x∈dQ u.2.1 ir cK→∃bA,bA∈u.2.1∧bh bA=bh x∧kindOf bA=kindOf x:=by
  intro x hx;rcases Ao.1 hx with rfl|⟨hx,hne⟩
  ·exact⟨_,oL,rfl,rfl⟩
  ·exact⟨x,hx,rfl,rfl⟩
 have oM:kindOf (I J (dQ u.2.1 ir cK) it)=2∧(ax (I J (dQ u.2.1 ir cK) it)).length<12∧(∀e,e∈ax (I J (dQ u.2.1 ir cK) it)→e.1≠tn)∧bh (I J (dQ u.2.1 ir cK) it)=ke:=by
  unfold dQ;rw[jU x0.1];by_cases hii:ir=it
  ·subst hii;rw[if_pos rfl];refine⟨h.uT,?_,fun e he=>h.no e (uR he),Am⟩;show(ct (ax (I J u.2.1 ir)) cK).length<12;have ko:=(bT.dir h.uT).2.2.2;have:(ct (ax (I J u.2.1 ir)) cK).length<(ax (I J u.2.1 ir)).length:=by unfold ct;refine List.length_filter_lt_length_iff_exists.2 ⟨d,u0,?_⟩;unfold bx;simp[KW]
   omega
  ·rw[if_neg hii];refine⟨h.SO,hlen fun he=>hii ?_,h.no,Am⟩;have:=nN af oL (de Dl.1) (by rw[aqS,Am];exact he);have e1:=h.hr;rw[he,h.ht]at e1;exact(aX e1).symm
 have To:=de (t:=J) Ap;have Dn:bh (cd (I J (dQ u.2.1 ir cK) it) (ins (ax (I J (dQ u.2.1 ir cK) it)) tn bH))=bh (I J (dQ u.2.1 ir cK) it):=uU _ _;have KY:=fun {x:aT}=> mem_set (x:=x) gE Ap Dn
 have gZ:(e7 u.2.1 ir cK it tn bH).Pairwise fun a b=>bh a<bh b:=xZ hr1 Ap Dn
 obtain⟨Ak,Dp⟩:=Tb hr1 Ap tn bH;rw[oM.2.2.2]at Dp;have Ak:∀a b,E (dQ u.2.1 ir cK) a b→E (e7 u.2.1 ir cK it tn bH) a b:=Ak
 have Dp:E (e7 u.2.1 ir cK it tn bH) ke bH:=Dp;have Tp:∀id,bD (e7 u.2.1 ir cK it tn bH) id=bD u.2.1 id:=fun id=>(adq Ap id).trans (Dm id)
 have aqW:∀b,cC (e7 u.2.1 ir cK it tn bH) b=cC u.2.1 b:=by intro b;have h1:cC (e7 u.2.1 ir cK it tn bH) b=cC (dQ u.2.1 ir cK) b+cond (bH==b) 1 0:=Tc Ap tn bH b;have h2:=aqU b;omega
 have aqX:∀x,x∈u.2.1→∃bA,bA∈e7 u.2.1 ir cK it tn bH∧bh bA=bh x∧kindOf bA=kindOf x:=by
  intro x hx;obtain⟨U,a1,a2,a3⟩:=aqV x hx;by_cases h8:bh U=bh (I J (dQ u.2.1 ir cK) it)
  ·exact⟨_,KY.2 (.inl rfl),Dn.trans (h8.symm.trans a2),by rw[←a3,nN gE a1 To h8];rfl⟩
  ·exact⟨U,KY.2 (.inr ⟨a1,by rw[Dn];exact h8⟩),a2,a3⟩
 have hbk:∀x,x∈e7 u.2.1 ir cK it tn bH→∃bA,bA∈u.2.1∧bh bA=bh x∧kindOf bA=kindOf x:=by
  intro x hx;rcases KY.1 hx with rfl|⟨hx,hne⟩
  ·obtain⟨bA,a1,a2,a3⟩:=aee _ To;exact⟨bA,a1,a2.trans Dn.symm,a3⟩
  ·exact aee x hx
 have hE:∀a b,b≠bH→E u.2.1 a b→E (e7 u.2.1 ir cK it tn bH) a b:=fun a b dV he=>Ak a b (Te a b dV he)
 have aef:ke≠bH∧¬eg u.2.1 bH ke:=by
  by_cases hk:kindOf (I J u.2.1 j)=2
  ·exact hb j hj hk
  ·have aqY:∀b,¬E u.2.1 bH b:=by
    intro b he;obtain⟨x,hx,kg,e,hex,_⟩:=(iP af).1 he;rw[nN af hx (de hjl.1) (kg.trans aec.symm),((hm.ino _ (de hjl.1)).plain hk).2.2]at hex;cases hex
   refine⟨fun he=>hk ?_,fun hM=>?_⟩
   ·rw[←nN af (de Dl.1) (de hjl.1) (by rw[Am,aec];exact he)];exact h.SO
   ·have:∀c,eg u.2.1 bH c→False:=by
     intro c hc
     induction hc with
     |single h=>exact aqY _ h
     |tail _ _ ih=>exact ih
    exact this _ hM
 have vI:∀c,eg u.2.1 1 c→c≠bH→¬eg u.2.1 bH c→eg (e7 u.2.1 ir cK it tn bH) 1 c:=by
  intro c hc
  induction hc with
  |single h1=>exact fun hne _=>.single (hE _ _ hne h1)
  |tail h1 h2 ih=>exact fun hne nc=>.tail (ih (fun he=>nc (.single (he▸h2))) fun hM=>nc (.tail hM h2)) (hE _ _ hne h2)
 have aeg:eg (e7 u.2.1 ir cK it tn bH) 1 bH:=by
  by_cases h1:ke=1
  ·exact .single (h1▸Dp)
  ·refine .tail (vI ke ?_ aef.1 aef.2) Dp;have:=hm.reach _ (de Dl.1) (by rw[Am];exact h1);rwa[Am]at this
 have hA:∀c,eg u.2.1 1 c→eg (e7 u.2.1 ir cK it tn bH) 1 c:=by
  intro c hc
  induction hc with
  |@single b h1=>
   by_cases Dq:b=bH
   ·rw[Dq];exact aeg
   ·exact .single (hE _ _ Dq h1)
  |@tail b c h1 h2 ih=>
   by_cases Dq:c=bH
   ·rw[Dq];exact aeg
   ·exact .tail ih (hE _ _ Dq h2)
 have lp:=KT.1 hf;refine nM.2 ⟨hm.next,?_,gZ,?_,?_,?_,?_,?_,lp.1,lp.2⟩
 ·show(List.set _ _ _).length≤24;rw[List.length_set,hl1];exact hm.len
 ·obtain⟨z,hz,j5,hz2⟩:=hm.root;obtain⟨hP,a1,a2,a3⟩:=aqX z hz;exact⟨hP,a1,a2.trans j5,a3.trans hz2⟩
 ·intro x hx;obtain⟨bA,a1,a2,a3⟩:=hbk x hx;rw[←a2];exact hm.ids bA a1
 ·intro x hx;rcases KY.1 hx with rfl|⟨hx,hne⟩
  ·refine(aed _ To).named (l':=e7 u.2.1 ir cK it tn bH) (fun id hs=>?_) oM.1 htn aqT (by rw[Tp];exact h.ex) oM.2.1 oM.2.2.1;rw[Tp];rwa[Dm]at hs
  ·refine(aed x hx).to fun e _ hs=>?_
   show(bD (e7 u.2.1 ir cK it tn bH) e.2.1).isSome=true;rw[Tp];rwa[Dm]at hs
 ·intro x hx hne;obtain⟨bA,a1,a2,a3⟩:=hbk x hx;rw[←a2];exact hA _ (hm.reach bA a1 (by rw[a2];exact hne))
 ·intro x hx hne hk;obtain⟨bA,a1,a2,a3⟩:=hbk x hx;show cC (e7 u.2.1 ir cK it tn bH) (bh x)=1;rw[aqW,←a2];exact hm.once bA a1 (by rw[a2];exact hne) (a3.trans hk)
theorem aqZ{v:ag.D}{s:aP}(hv:b7 v){i:Nat}(hi:i<v.2.1.length)(hw:b7 (lB v i s))(a b:Int)(h:E (lB v i s).2.1 a b):E v.2.1 a b:=by
 have hm:=nM.1 hv;have af:=l7 hm.k_;have i_:=l7 (nM.1 hw).k_;have aR:bh (cd (I J v.2.1 i) (ct (ax (I J v.2.1 i)) s))=bh (I J v.2.1 i):=uU _ _;obtain⟨x,hx,kg,e,hex,nO⟩:=(iP i_).1 h
 have lL:x∈v.2.1.set i (cd (I J v.2.1 i) (ct (ax (I J v.2.1 i)) s)):=by
  unfold lB goN at hx
  cases hc:decide (cC (v.2.1.set i (cd (I J v.2.1 i) (ct (ax (I J v.2.1 i)) s))) (ea (ax (I J v.2.1 i)) s)=0)with
  |true=>rw[hc]at hx;exact(List.mem_filter.1 hx).1
  |false=>rw[hc]at hx;exact hx
 rcases (mem_set af hi aR).1 lL with rfl|⟨hx,_⟩
 ·exact(iP af).2 ⟨_,de hi,aR.symm.trans kg,e,uR hex,nO⟩
 ·exact(iP af).2 ⟨x,hx,kg,e,hex,nO⟩
theorem Ac.ok{v:ag.D}{c:aM.D}{x:aL.D}{w:ag.D}(hv:b7 v)(h:Ac v c x w):b7 w:=by
 obtain⟨r,t,j,hr,hc,q5,hj,ht,htn,sI,_,h⟩:=h.out
 have jG:nF (nameOf t)=true:=by
  rcases sI with h0|h2
  ·exact(ht.named h0 htn).2.1
  ·exact(ht.new h2 htn).2.1
 rcases h with⟨_,rfl⟩|⟨hne,nc,l,ir,it,av,rfl,hf,h⟩
 ·exact hv
 rcases h with⟨_,rfl,hlen⟩|⟨i2,fe,gF,hk2,mz,rK,ei,hkk,rfl⟩
 ·refine aeb hv av jG hlen (fun lK hj' hk=>?_) hf;obtain rfl:lK=j:=aX (hj'.symm.trans hj);exact nc hk
 ·have xP:=ca gF;have pT:bz t≠0:=by have:=hv.ade (de (ca mz).1);have e:bh (I J v.2.1 fe)=bz t:=(ca mz).2;omega
  have hu:=ad9 hv xP.1 ei pT mz rK;obtain⟨_,iH⟩:=adv hv xP.1 hk2 (nameOf t);have hE:=fun a b=>aqZ (s:=nameOf t) hv xP.1 hu a b
  have j0:(ax (I J (lB v i2 (nameOf t)).2.1 it)).length<12:=by
   have k7:cw t≠ea (ax (I J v.2.1 i2)) (nameOf t):=by rw[ei];intro e;rw[←e,gF]at mz;rw[←aX mz]at rK;obtain⟨d,gE,_⟩:=sC (N:=ax (I J v.2.1 i2)) (s:=nameOf t) (by rw[ei];exact pT);rw[rK]at gE;cases gE
   obtain⟨k',dy,aB⟩:=iH (cw t) k7 i2 gF;obtain rfl:k'=it:=aX (dy.symm.trans av.ht);rw[aB,if_pos rfl,k5];have ko:=((hv.ino i2 xP.1).dir hk2).2.2.2;obtain⟨d,gE,i_,_⟩:=sC (N:=ax (I J v.2.1 i2)) (s:=nameOf t) (by rw[ei];exact pT);have:(ct (ax (I J v.2.1 i2)) (nameOf t)).length<(ax (I J v.2.1 i2)).length:=by unfold ct;refine List.length_filter_lt_length_iff_exists.2 ⟨d,gE,?_⟩;unfold bx;simp[i_]
   omega
  refine aeb hu av jG (fun _=>j0) (fun lK hj' hk=>?_) hf;have aq0:bz r≠ea (ax (I J v.2.1 i2)) (nameOf t):=by rw[ei];exact fun e=>hne e.symm
  obtain⟨k',dy,aB⟩:=iH (bz r) aq0 j hj;obtain rfl:k'=lK:=aX (dy.symm.trans hj')
  have nG:kindOf (I J v.2.1 j)=2:=by
   rw[aB]at hk;split at hk
   ·rename_i e;subst e;exact hk
   ·exact hk
  exact⟨(nc nG).1,fun hM=>(nc nG).2 (Ai hE hM)⟩
theorem sL.ok{v:ag.D}{c:aM.D}{x:aL.D}{w:ag.D}(hv:b7 v)(hc:d' c=true)(hx:iO x)(h:sL v c x w):b7 w:=by
 rcases h with⟨hk,h⟩|⟨_,h⟩|⟨_,h⟩|⟨_,h⟩|⟨_,h⟩|⟨_,h⟩|⟨_,h⟩|⟨_,h⟩|⟨_,h⟩
 ·exact h.ok hv hc hx hk
 ·exact h.ok hv
 ·exact h.ok hv hx
 ·exact h.ok hv
 ·exact h.ok hv
 ·exact h.ok hv
 ·exact h.ok hv
 ·exact h.ok hv
 ·rw[h];exact hv
theorem Ah.ok{v:ag.D}{c:aM.D}{x:aL.D}{w:ag.D}{k:Int}{t:aP}(h:Ah v c x w k t)(hv:lx v=true):lx w=true:=by
 have h0:w=v→lx w=true:=fun e=>by rw[e];exact hv
 cases hc:d' c with
 |false=>exact h0 (h.adV hv hc).1
 |true=>
 cases hcall:fp x with
 |false=>exact h0 (h.call hv hc (.inl hcall)).1
 |true=>
 by_cases kf:20<aD x
 ·exact h0 (h.call hv hc (.inr kf)).1
 by_cases hk:k=0
 ·exact CU.2 ((h.done hv hc hcall (by omega) hk).ok (CU.1 hv) hc (uQ.1 hcall))
 ·exact h0 (h.no hv hk)
end Go.LM.ks
