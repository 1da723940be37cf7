/- Tellings, a call as a whole; a right volume stays right. Conditions: each theorem's own hypotheses. -/
import Derived.Test.YtlkbjdmfbadhaaaGreatDoorUVd
set_option linter.unusedVariables false
set_option linter.unusedSimpArgs false
namespace Go.LM.j7
def mq(a:Int):aO:=eS [IntKind.wrap .u8 (ax (48+a))]
theorem sb(a:Int):(mq a).length=1:=rfl
def lM(x:Int):Int:=if Int.tmod x 10<0 then -(Int.tmod x 10) else Int.tmod x 10
def uc(b:Bool)(t:aO):aO:=cond b ([45]++t) t
theorem abA(m:Nat)(x:Int)(t:aO)(b:Bool):pe (m+1) x t b=Bb (pe m) x t b:=rfl
theorem ao2(m:Nat)(y:Int)(t:aO)(x:Int):(m4 (m+1)).bs y t x=MW (m4 m) y t x:=rfl
theorem ao3(m:Nat)(y:Int)(t:aO)(x a:Int):(m4 (m+1)).dW y t x a=MX (m4 m) y t x a:=rfl
theorem Rr(x:Int):(-9≤Int.tmod x 10∧Int.tmod x 10≤9)∧(0≤x→0≤Int.tmod x 10)∧(x≤0→Int.tmod x 10≤0):=by have h1:=Int.tmod_lt_of_pos x (show(0:Int)<10 by decide);have h2:=Int.lt_tmod_of_pos x (show(0:Int)<10 by decide);refine⟨by omega,fun h=>Int.tmod_nonneg _ h,fun h=>?_⟩;have h3:0≤Int.tmod (-x) 10:=Int.tmod_nonneg _ (by omega);rw [Int.neg_tmod] at h3;omega
theorem Rs(x:Int):10*Int.tdiv x 10+Int.tmod x 10=x:=Int.mul_tdiv_add_tmod x 10
theorem abB(neg:Bool)(t:aO)(h:t.length≤1000) :
  cond neg (cond (room (([45]:aO).length+t.length)) (some (([45]:aO)++t,())) none) (some (t,()))=some (uc neg t,()):=by
 rw [b_ (by simp;omega)];cases neg <;> rfl
theorem ao4(m:Nat)(t:aO)(neg:Bool)(h:t.length≤1000):pe (m+1) 0 t neg=some (uc neg t,()):=by rw [abA];unfold Bb;rw [show((0:Int) != 0)=false from rfl];simp only [cond_false];exact abB neg t h
theorem abC(m:Nat)(x:Int)(t:aO)(neg:Bool)(hx:x≠0)(h:t.length≤1000)(hb : -4000000000000000000≤x∧x≤4000000000000000000):pe (m+1) x t neg=pe m (Int.tdiv x 10) (mq (lM x)++t) neg:=by
 have h1:=Rr x;have h2:=Rs x;rw [abA];unfold Bb;rw [dq hx];simp only [cond_true];rw [cG (a:=Int.tdiv x 10) (by omega) (by omega)];by_cases hn:Int.tmod x 10<0
 ·rw [decide_eq_true hn];simp only [cond_true];rw [cG (a:=0-Int.tmod x 10) (by omega) (by omega)];rw [show lM x=0-Int.tmod x 10 by unfold lM;rw [if_pos hn];omega];rw [show eS [IntKind.wrap .u8 (ax (48 +(0-Int.tmod x 10)))]=mq (0-Int.tmod x 10) from rfl,b_ (by rw [sb];omega)];rfl
 ·rw [decide_eq_false hn];simp only [cond_false];rw [show lM x=Int.tmod x 10 by unfold lM;rw [if_neg hn]];rw [show eS [IntKind.wrap .u8 (ax (48+Int.tmod x 10))]=mq (Int.tmod x 10) from rfl,b_ (by rw [sb];omega)];rfl
theorem Rt(m:Nat)(y x:Int)(t:aO)(h:t.length≤900)(hb : -4000000000000000000≤x∧x≤4000000000000000000) :
  (m4 (m+2)).bs y t x=cond (ct x (-9) 9) (some (uc (decide (y<0)) (mq (lM x)++t),())) ((m4 m).bs y (mq (lM x)++t) (Int.tdiv x 10)):=by
 have h1:=Rr x;have h2:=Rs x;have key:∀a,(m4 (m+1)).dW y t x a=cond (ct x (-9) 9) (some (uc (decide (y<0)) (mq a++t),())) ((m4 m).bs y (mq a++t) (Int.tdiv x 10)):=by intro a;rw [ao3];unfold MX;rw [show eS [IntKind.wrap .u8 (ax (48+a))]=mq a from rfl,b_ (by rw [sb];omega),jx,cG (a:=Int.tdiv x 10) (by omega) (by omega)];simp only [cond_true,al];rw [abB (decide (y<0)) (mq a++t) (by rw [List.length_append,sb];omega)]
 rw [ao2];unfold MW;by_cases hn:Int.tmod x 10<0
 ·rw [decide_eq_true hn];simp only [cond_true];rw [cG (a:=0-Int.tmod x 10) (by omega) (by omega),key,show lM x=0-Int.tmod x 10 by unfold lM;rw [if_pos hn];omega]
 ·rw [decide_eq_false hn];simp only [cond_false];rw [key,show lM x=Int.tmod x 10 by unfold lM;rw [if_neg hn]]
theorem abD:∀(k:Nat) (x:Int),k≤18→x≠0 → -(10 ^ k:Int)<x→x<(10 ^ k:Int) →
  ∃t:aO,t.length≤k∧(∀(m:Nat) (a:aO) (neg:Bool),k<m→a.length+k≤500→pe m x a neg=some (uc neg (t++a),())) ∧
   (∀(m:Nat) (y:Int) (a:aO),2*k<m→a.length+k≤500→(m4 m).bs y a x=some (uc (decide (y<0)) (t++a),())):=by
 intro k
 induction k with
 | zero=>intro x hk h0 h1 h2;simp at h1 h2;omega
 | succ k ih=>
  intro x hk h0 h1 h2;have af:=Rr x;have hm:=Rs x;have Ce:(10 ^ k:Int)≤100000000000000000:=by have:(10:Nat) ^ k≤10 ^ 17:=Nat.pow_le_pow_right (by decide) (by omega);have h3:((10 ^ k:Nat):Int)≤((10 ^ 17:Nat):Int):=Int.ofNat_le.2 this;simpa using h3
  have aw:(10 ^ (k+1):Int)=10*10 ^ k:=by rw [Int.pow_succ];omega
  rw [aw] at h1 h2;generalize wY:(10 ^ k:Int)=P at *;by_cases iO : -9≤x∧x≤9
  ·refine⟨mq (lM x),by rw [sb];omega,fun m a neg p0 ha=>?_,fun m y a p0 ha=>?_⟩
   ·obtain ⟨m,rfl⟩:∃q,m=q+1+1:=⟨m-2,by omega⟩
    rw [abC _ x a neg h0 (by omega) (by omega),show Int.tdiv x 10=0 by omega];exact ao4 m _ neg (by rw [List.length_append,sb];omega)
   ·obtain ⟨m,rfl⟩:∃q,m=q+2:=⟨m-2,by omega⟩
    rw [Rt m y x a (by omega) (by omega),show ct x (-9) 9=true from cR.2 iO];rfl
  ·obtain ⟨t,ht,hs,hi⟩:=ih (Int.tdiv x 10) (by omega) (by omega) (by omega) (by omega);refine⟨t++mq (lM x),by rw [List.length_append,sb];omega,fun m a neg p0 ha=>?_,fun m y a p0 ha=>?_⟩
   ·obtain ⟨m,rfl⟩:∃q,m=q+1:=⟨m-1,by omega⟩
    rw [abC _ x a neg h0 (by omega) (by omega)];rw [hs m (mq (lM x)++a) neg (by omega) (by rw [List.length_append,sb];omega),List.append_assoc]
   ·obtain ⟨m,rfl⟩:∃q,m=q+2:=⟨m-2,by omega⟩
    rw [Rt m y x a (by omega) (by omega),show ct x (-9) 9=false from Bool.eq_false_iff.2 fun h=>iO (cR.1 h)];simp only [cond_false];rw [hi m y (mq (lM x)++a) (by omega) (by rw [List.length_append,sb];omega),List.append_assoc]
def ga(x:Int):aO:=match vD (x,()) with | some r=>r.1 | none=>[]
theorem fJ(x:Int)(h : -1000000000000<x∧x<1000000000000):(ga x).length≤20∧e9 (x,())=some (ga x,())∧vD (x,())=some (ga x,()):=by
 obtain ⟨t,h1,h2,h3⟩:∃t:aO,t.length≤20∧e9 (x,())=some (t,())∧vD (x,())=some (t,()):=by
  by_cases h0:x=0
  ·subst h0;refine⟨[48],by simp,rfl,?_⟩;obtain ⟨q,hq,_⟩:=kC 2;show(m4 aM).bs 0 [] 0=_;rw [hq,Rt q 0 0 [] (by simp) (by omega)];rfl
  ·obtain ⟨t,ht,hs,hi⟩:=abD 12 x (by omega) h0 (by simpa using h.1) (by simpa using h.2);refine⟨uc (decide (x<0)) t,?_,?_,?_⟩
   ·unfold uc;cases decide (x<0)
    ·simp only [cond_false];omega
    ·simp only [cond_true,List.length_append,List.length_cons,List.length_nil];omega
   ·show cond (x==0) _ (pe aM x [] (decide (x<0)))=_;rw [bY h0];simp only [cond_false];rw [hs aM [] _ (iU (by omega)) (by simp),List.append_nil]
   ·show(m4 aM).bs x [] x=_;rw [hi aM x [] (iU (by omega)) (by simp),List.append_nil]
 have e:ga x=t:=by unfold ga;rw [h3]
 rw [e];exact⟨h1,h2,h3⟩
theorem ao5(xs:List aO)(sep:aO)(B:Nat)(h:∀t,t∈xs→t.length≤B):(Lib.joinTail sep xs).length≤xs.length*(sep.length+B):=by
 induction xs with
 | nil=>simp [Lib.joinTail]
 | cons y r ih=>
  have h1:=h y (by simp);have h2:=ih fun t ht=>h t (by simp [ht])
  simp only [Lib.joinTail,List.map_cons,List.flatten_cons,List.length_append,List.length_cons,Nat.add_one_mul] at h2 ⊢;omega
theorem Jv(xs:List aO)(sep:aO)(B:Nat)(h:∀t,t∈xs→t.length≤B):(Lib.join xs sep).length≤xs.length*(sep.length+B):=by
 cases xs with
 | nil=>simp [Lib.join_nil]
 | cons y r=>
  have h1:=h y (by simp);have h2:=ao5 r sep B fun t ht=>h t (by simp [ht])
  rw [Lib.join_cons,List.length_append,List.length_cons,Nat.add_one_mul];omega
theorem ao6(xs:List aO)(y sep:aO)(h:xs≠[]):Lib.join (xs++[y]) sep=Lib.join xs sep++sep++y:=by
 cases xs with
 | nil=>exact absurd rfl h
 | cons x r=>simp [Lib.join_cons,Lib.joinTail,List.append_assoc]
theorem abE(xs:List aO)(sep:aO)(B:Nat)(h:∀t,t∈xs→t.length≤B)(hl:xs.length*(sep.length+B)≤68719476736)(hn:xs.length≤68719476736):joinF xs sep=some (Lib.join xs sep,()):=by unfold joinF;rw [if_pos ⟨hn,Nat.le_trans (Jv xs sep B h) hl⟩]
theorem Ru(L:List Int)(hl:L.length≤100)(h:∀x,x∈L → -1000000000000<x∧x<1000000000000):rB (L,())=some (Lib.join (L.map ga) [32],()):=by
 show vN aM L (L.length:Int) 0 []=_
 have:=nh L.length (by omega) (fun m i=>vN m L (L.length:Int) i ((L.take i.toNat).map ga)) (fun _=>some (Lib.join (L.map ga) [32],())) (fun _=>True) (fun m _=>by
  simp only [vN,FP];rw [cw (Nat.le_refl _),Int.toNat_natCast,List.take_length];simp only [cond_false];show Option.bind (joinF (L.map ga) [32]) _=_
  rw [abE _ _ 20 (fun t ht=>by
   obtain ⟨x,hx,rfl⟩:=List.mem_map.1 ht
   exact(fJ x (h x hx)).1) (by simp;omega) (by simp;omega)];rfl) (fun m i hi _ hw ih=>by
  have hx:L[i]∈L:=List.getElem_mem hi;have ih:=ih trivial;rw [Int.toNat_natCast_add_one,List.take_succ_eq_append_getElem hi,List.map_append] at ih;simp only [vN,FP,hw];rw [b1 hi,br hi,Int.toNat_natCast];simp only [cond_true,al];rw [show I (ad.int .i64) L i=L[i] from c2 hi,(fJ _ (h _ hx)).2.2];simp only [al];rw [b_ (by simp;omega)]
  exact ih) L.length 0 aM (by omega) (iU (by omega)) trivial
 simpa using this
def dJ(v:ah.D)(c:aK.D)(x:aI.D)(a:Option (an.D×aN.D×Unit))(b:Option (an.D×Unit)):Prop:=∃res:an.D,a=some (res,(v,c,x,()),())∧b=some (res,())∧res.2.1.length≤400∧(res.1=0∨res.2.1=[])∧0≤res.1∧res.1≤200
theorem dJ.is{v:ah.D}{c:aK.D}{x:aI.D}{a:Option (an.D×aN.D×Unit)}{b:Option (an.D×Unit)}(k:Int)(t:aO)(ha:a=some ((k,t,()),(v,c,x,()),()))(hb:b=some ((k,t,()),()))(hl:t.length≤400:=by simp)(h0:k=0∨t=[]:=by simp)(hr:0≤k∧k≤200:=by decide):dJ v c x a b:=⟨(k,t,()),ha,hb,hl,h0,hr⟩
theorem ao7(m:Nat)(a b d e):(fP (m+1)).bp a b d e=OJ (fP m) a b d e:=rfl
theorem zo(m:Nat)(a b d e f):(fP (m+1)).df a b d e f=tB (fP m) a b d e f:=rfl
theorem abF(m:Nat)(a b d e f):(fP (m+1)).wv a b d e f=Hu (fP m) a b d e f:=rfl
theorem abG(m:Nat)(a b d e):(fP (m+1)).tA a b d e=Hv (fP m) a b d e:=rfl
theorem ao8(m:Nat)(a b d e):(fP (m+1)).Ht a b d e=OK (fP m) a b d e:=rfl
def nt(x:aI.D):Bool:=aD x != 11&&(aD x != 14||bU x==0)
def ov(x:aI.D):Bool:=(aD x==14&&(bU x != 0&&bU x != 1))||(aD x==17 && !ct (bU x) 0 7)
def ud:an.D:=(0,([]:aO),())
theorem ao9(m:Nat)(v:ah.D)(c:aK.D)(x:aI.D)(z:an.D):(fP (m+1)).bp v c x z=Option.bind (fh (v,c,fp x,nt x,())) fun r=>(fP m).df v c x z r.1:=by
 rw [ao7];unfold OJ nt;show cond (aD x != 11) (cond (aD x != 14) (Option.bind (fh (v,c,fp x,true,())) _) (Option.bind (fh (v,c,fp x,bU x==0,())) _)) (Option.bind (fh (v,c,fp x,false,())) _)=_;cases aD x != 11
 ·rfl
 ·cases aD x != 14 <;> rfl
theorem Rv(K:n')(v:ah.D)(c:aK.D)(x:aI.D)(hk:aD x≠18):rP K v c x=cond (ov x) (some ((22,[],()),())) (K.bp v c x ud):=by
 unfold rP ov;have ao_:∀k:Option (an.D×Unit),Option.bind (dz (bU x,0,7,())) (fun v4=>cond (!v4.1) (some ((22,([]:aO),()),())) k)=cond (!ct (bU x) 0 7) (some ((22,([]:aO),()),())) k:=fun k=>by rw [ka];rfl
 show cond (aD x==18) _ (cond (aD x==14) (cond (bU x != 0) (cond (bU x != 1) _ (cond (aD x==17) (Option.bind (dz (bU x,0,7,())) _) _)) (cond (aD x==17) (Option.bind (dz (bU x,0,7,())) _) _)) (cond (aD x==17) (Option.bind (dz (bU x,0,7,())) (fun v4=>cond (!v4.1) (some ((22,([]:aO),()),())) (K.bp v c x ud))) (K.bp v c x ud)))=_;rw [bY hk];simp only [cond_false];by_cases xW:aD x=14
 ·rw [cK xW,bY (show aD x≠17 by omega)];cases bU x != 0 <;> cases bU x != 1 <;> rfl
 ·rw [bY xW];simp only [cond_false,Bool.false_and,Bool.false_or];rw [ao_];cases aD x==17
  ·rfl
  ·cases ct (bU x) 0 7 <;> rfl
theorem Cn(v:ah.D)(c:aK.D)(x:aI.D)(hk:aD x≠18)(hb:ov x=false)(cE:r3 v.2.1)(r:a8.D)(hs:fh (v,c,fp x,nt x,())=some (r,())) :
  ∃q,4611686018427387904<q∧lE (v,c,x,())=(fP (q+1)).df v c x ud r:=by
 obtain ⟨q,hq,jn⟩:=kC 2;refine⟨q,jn,?_⟩;show rP (fP aM) v c x=_;rw [Rv _ _ _ _ hk,hb,hq];simp only [cond_false];rw [ao9,hs];rfl
theorem Co(v:ah.D)(c:aK.D)(x:aI.D)(q:Nat)(r:a8.D)(h:bN r≠0):(fP (q+1)).df v c x ud r=some ((bN r,[],()),()):=by rw [zo];unfold tB;show cond (bN r != 0) _ _=_;rw [dq h];rfl
theorem ao'(v:ah.D)(c:aK.D)(x:aI.D)(hv:b4 v)(hc:dQ c=true)(hx:iC x)(hk:aD x=11):dJ v c x (FN ((v,c,x,()),())) (lE (v,c,x,())):=by
 have cE:=hv.kd;have aw:=hx.path;obtain ⟨r,hr,fR,kH,kI⟩:=ua v c x false cE hc (by omega);obtain ⟨q,hq,b2⟩:=Cn v c x (by omega) (by unfold ov;rw [bY (show aD x≠14 by omega),bY (show aD x≠17 by omega)];rfl) cE r (by rw [show nt x=false by unfold nt;rw [ek hk];rfl];exact fR);show dJ v c x (NK (v,c,x,())) _;rw [b2];unfold NK;by_cases b7:bN r=0
 case neg=>rw [kH b7,Co v c x q r b7];simp only [al];rw [dq b7];exact dJ.is (bN r) [] rfl rfl (by simp) (.inr rfl) (hr.1.rg)
 obtain ⟨i,hi,e'⟩:=kI b7;have bj:=b9 hi;rw [e',zo];unfold tB;show dJ v c x _ (cond (bN r != 0) _ (Option.bind (fx (v,bx r,())) _));rw [ek b7,jR v _ cE.len hi];simp only [cond_false,al];rw [show((0:Int) != 0)=false from rfl,br bj.1];simp only [cond_false,al];show dJ v c x (cond (kindOf (I J v.2.1 i) != 3) _ _) (cond (aD x==4) _ (cond (aD x==11) (cond (kindOf (I J v.2.1 i) != 3) _ _) _));rw [bY (show aD x≠4 by omega),cK hk];simp only [cond_false,cond_true]
 cases kindOf (I J v.2.1 i) != 3 with
 | true=>exact dJ.is 22 [] rfl rfl
 | false=>exact dJ.is 0 (bX (I J v.2.1 i)) rfl rfl (by have:=hv.g_ bj.1;omega)
theorem apa(v:ah.D)(c:aK.D)(x:aI.D)(hv:b4 v)(hc:dQ c=true)(hx:iC x)(hk:aD x=17) :
  dJ v c x (Option.bind (F5 ((v,c,x,()),())) fun v6=>Option.bind (eE (v6.1,())) fun bA=>some (bA.1,v6.2.1,())) (lE (v,c,x,())):=by
 have cE:=hv.kd;have aw:=hx.path;show dJ v c x (Option.bind (NR (v,c,x,())) _) _;unfold NR;show dJ v c x (Option.bind (Option.bind (dG (bU x,0,7,())) _) _) _;rw [jx];simp only [al]
 cases hN:ct (bU x) 0 7 with
 | false=>
  have de:lE (v,c,x,())=some ((22,[],()),()):=by show rP (fP aM) v c x=_;rw [Rv _ _ _ _ (by omega),show ov x=true by unfold ov;rw [cK hk,hN];simp];rfl
  rw [de];exact dJ.is 22 [] rfl rfl
 | true=>
 obtain ⟨r,hr,fR,kH,kI⟩:=ua v c x true cE hc (by omega);obtain ⟨q,hq,b2⟩:=Cn v c x (by omega) (by unfold ov;rw [bY (show aD x≠14 by omega),hN];simp) cE r (by rw [show nt x=true by unfold nt;rw [dq (show aD x≠11 by omega),dq (show aD x≠14 by omega)];rfl];exact fR);rw [b2];simp only [Bool.not_true,cond_false];by_cases b7:bN r=0
 case neg=>rw [kH b7,Co v c x q r b7];simp only [al];rw [dq b7];exact dJ.is (bN r) [] rfl rfl (by simp) (.inr rfl) (hr.1.rg)
 obtain ⟨i,hi,e'⟩:=kI b7;have bj:=b9 hi;rw [e',zo];unfold tB;show dJ v c x _ (cond (bN r != 0) _ (Option.bind (fx (v,bx r,())) _));rw [ek b7,jR v _ cE.len hi];simp only [cond_false,al];rw [show((0:Int) != 0)=false from rfl,br bj.1];simp only [cond_false,al];show dJ v c x (Option.bind (Option.bind (qe (c,I J v.2.1 i,bU x,())) _) _) (cond (aD x==4) _ (cond (aD x==11) _ (cond (aD x==13) _ (cond (aD x==14) _ (cond (aD x==17) (Option.bind (ky (c,I J v.2.1 i,bU x,())) _) _)))));rw [bY (show aD x≠4 by omega),bY (show aD x≠11 by omega),bY (show aD x≠13 by omega),bY (show aD x≠14 by omega),cK hk];simp only [cond_false,cond_true];rw [B1 c _ _ hc,qD c _ _ hc];simp only [al]
 cases may c (I J v.2.1 i) (bU x) with
 | false=>exact dJ.is 13 [] rfl rfl
 | true=>exact dJ.is 0 [] rfl rfl
theorem Rw(L:List Int)(hl:L.length≤18)(h:∀x,x∈L → -1000000000000<x∧x<1000000000000):(Lib.join (L.map ga) [32]).length≤400:=by
 refine Nat.le_trans (Jv _ _ 20 fun t ht=>?_) ?_
 ·obtain ⟨x,hx,rfl⟩:=List.mem_map.1 ht;exact(fJ x (h x hx)).1
 ·rw [List.length_map,List.length_singleton];omega
theorem apb(N:List aJ.D)(hN:N.length≤12)(dg:∀d,d∈N→d.1.length≤8):(Lib.join (N.map fun d=>d.1) [47]).length≤400:=by
 refine Nat.le_trans (Jv _ _ 8 fun t ht=>?_) ?_
 ·obtain ⟨d,af,rfl⟩:=List.mem_map.1 ht;exact dg d af
 ·rw [List.length_map,List.length_singleton];omega
theorem apc(v:ah.D)(c:aK.D)(x:aI.D)(hv:b4 v)(hk:aD x=18) :
  dJ v c x (Option.bind (vw (v,())) fun cF=>Option.bind (rB ([(v.2.1.length:Int),cF.1],())) fun v9=>some ((0,v9.1,()),(v,c,x,()),())) (lE (v,c,x,())):=by
 have hl:=hv.len;have hb:=hv.bytes;show dJ v c x _ (rP (fP aM) v c x);unfold rP;show dJ v c x _ (cond (aD x==18) (Option.bind (e9 ((v.2.1.length:Int),())) _) _);have d1:=fJ (v.2.1.length:Int) (by omega);have d2:=fJ (bytesOf v.2.1:Int) (by omega);rw [cK hk,ZW v (by omega) (by omega),d1.2.1];simp only [cond_true,al];rw [b_ (by simp;omega),ZV v (by omega) (by omega)];simp only [cond_true,al];rw [d2.2.1];simp only [al];rw [b_ (by simp;omega),Ru _ (by simp) (by intro y aR;simp at aR;omega)];refine dJ.is 0 _ rfl ?_ (Rw _ (by simp) (by intro y aR;simp at aR;omega));simp [Lib.join_cons,Lib.joinTail,List.append_assoc]
def pD(P:Int→Prop)(v:ah.D)(c:aK.D)(x:aI.D)(a:Option (an.D×aN.D×Unit))(b:Option (an.D×Unit)):Prop:=∃res:an.D,a=some (res,(v,c,x,()),())∧b=some (res,())∧res.2.1.length≤400∧(res.1=0∨res.2.1=[])∧0≤res.1∧res.1≤200∧P res.1
theorem pD.is{P:Int→Prop}{v:ah.D}{c:aK.D}{x:aI.D}{a:Option (an.D×aN.D×Unit)}{b:Option (an.D×Unit)}(k:Int)(t:aO)(ha:a=some ((k,t,()),(v,c,x,()),()))(hb:b=some ((k,t,()),()))(wY:P k)(hl:t.length≤400:=by simp)(h0:k=0∨t=[]:=by simp)(hr:0≤k∧k≤200:=by decide):pD P v c x a b:=⟨(k,t,()),ha,hb,hl,h0,hr.1,hr.2,wY⟩
def zp(v:ah.D)(c:aK.D)(x:aI.D)(k:Int):Prop:=∀r,ct (bU x) 0 1=true→fh (v,c,fp x,bU x==0,())=some (r,())→bN r=0→k=0
theorem apd(v:ah.D)(c:aK.D)(x:aI.D)(hv:b4 v)(hc:dQ c=true)(hx:iC x)(hk:aD x=14):pD (zp v c x) v c x (A3 ((v,c,x,()),())) (lE (v,c,x,())):=by
 have cE:=hv.kd;have aw:=hx.path;show pD (zp v c x) v c x (NM (v,c,x,())) _;unfold NM;show pD (zp v c x) v c x (Option.bind (dG (bU x,0,1,())) fun v1=>cond (!v1.1) _ (Option.bind (m5 ((v,c,x,()),bU x==0,())) _)) _;rw [jx];simp only [al]
 cases hN:ct (bU x) 0 1 with
 | false=>
  have de:lE (v,c,x,())=some ((22,[],()),()):=by
   show rP (fP aM) v c x=_;have hn:¬(0≤bU x∧bU x≤1):=fun h=>by rw [cR.2 h] at hN;cases hN
   rw [Rv _ _ _ _ (by omega),show ov x=true by unfold ov;rw [cK hk,dq (show bU x≠0 by omega),dq (show bU x≠1 by omega)];rfl];rfl
  rw [de];exact pD.is 22 [] rfl rfl (fun r h=>by rw [hN] at h;cases h)
 | true=>
 have qL:=cR.1 hN;obtain ⟨r,hr,fR,kH,kI⟩:=ua v c x (bU x==0) cE hc (by omega)
 obtain ⟨q,hq,b2⟩:=Cn v c x (by omega) (by
  unfold ov;rw [bY (show aD x≠17 by omega)];rcases (show bU x=0∨bU x=1 by omega) with h | h
  ·rw [ek h];simp
  ·rw [ek h];simp) cE r (by
  rw [show nt x=(bU x==0) by unfold nt;rw [dq (show aD x≠11 by omega),ek hk];rfl];exact fR)
 rw [b2];simp only [Bool.not_true,cond_false];by_cases b7:bN r=0
 case neg=>
  rw [kH b7,Co v c x q r b7];simp only [al];rw [dq b7];refine pD.is (bN r) [] rfl rfl ?_ (by simp) (.inr rfl) hr.1.rg
  exact(fun eL _ h h0=>by
   rw [fR] at h;have e:r=eL:=congrArg Prod.fst (aW h);rw [e] at b7
   exact absurd h0 b7)
 obtain ⟨i,hi,e'⟩:=kI b7;have bj:=b9 hi;rw [e',zo];unfold tB;show pD (zp v c x) v c x _ (cond (bN r != 0) _ (Option.bind (fx (v,bx r,())) _));rw [ek b7,jR v _ cE.len hi];simp only [cond_false,al];rw [show((0:Int) != 0)=false from rfl,br bj.1];simp only [cond_false,al];have bS:=hv.ino i bj.1;have abH:=hv.g_ bj.1;have hnl:(ay (I J v.2.1 i)).length≤1048576:=Nat.le_trans (gA bj.1) cE.dw
 have atY:0≤r2 v.2.1 (I J v.2.1 i)∧r2 v.2.1 (I J v.2.1 i)<100000000:=by
  unfold r2;have h1:=ZX v.2.1 (I J v.2.1 i).1;have h2:nq v.2.1 (ay (I J v.2.1 i))≤(ay (I J v.2.1 i)).length:=List.length_filter_le _ _;have h3:=cE.dw;cases kindOf (I J v.2.1 i) != 2
  ·simp only [cond_false];omega
  ·simp only [cond_true];omega
 rw [am6 v _ cE.len cE.dw hnl];simp only [al]
 show pD (zp v c x) v c x (Option.bind (rB ([kindOf (I J v.2.1 i),fi (I J v.2.1 i),eK (I J v.2.1 i),fC (I J v.2.1 i),r2 v.2.1 (I J v.2.1 i),((bX (I J v.2.1 i)).length:Int)],())) _)
  (cond (aD x==4) _ (cond (aD x==11) _ (cond (aD x==13) _ (cond (aD x==14) (Option.bind (e9 (kindOf (I J v.2.1 i),())) fun v4=>cond _ (Option.bind (e9 (fi (I J v.2.1 i),())) fun v5=>cond _ (cond _ (Option.bind (e9 (eK (I J v.2.1 i),())) fun v6=>cond _ (cond _ (Option.bind (e9 (fC (I J v.2.1 i),())) fun bA=>cond _ (cond _ (Option.bind (Hs (v,bf (I J v.2.1 i),())) _) _) _) _) _) _) _) _) _))))
 have w_:1≤kindOf (I J v.2.1 i)∧kindOf (I J v.2.1 i)≤3:=by rcases bS.kind with h | h | h <;> omega
 have hm:=bS.mode;have hu:=bS.uid;have aC:=bS.gid;have d1:=fJ (kindOf (I J v.2.1 i)) (by omega);have d2:=fJ (fi (I J v.2.1 i)) (by omega);have d3:=fJ (eK (I J v.2.1 i)) (by omega);have d4:=fJ (fC (I J v.2.1 i)) (by omega);have d5:=fJ (r2 v.2.1 (I J v.2.1 i)) (by omega);have d6:=fJ ((bX (I J v.2.1 i)).length:Int) (by omega);rw [bY (show aD x≠4 by omega),bY (show aD x≠11 by omega),bY (show aD x≠13 by omega),cK hk];simp only [cond_false,cond_true];rw [Ru _ (by simp) (by intro y aR;simp at aR;omega),d1.2.1];simp only [al];rw [b_ (by simp;omega),d2.2.1];simp only [cond_true,al];rw [b_ (by simp;omega),b_ (by simp;omega),d3.2.1];simp only [cond_true,al];rw [b_ (by simp;omega),b_ (by simp;omega),d4.2.1];simp only [cond_true,al];rw [b_ (by simp;omega),b_ (by simp;omega),am5 v (bf (I J v.2.1 i)) cE.len cE.dw (cE.iY i bj.1)];simp only [cond_true,al];rw [d5.2.1];simp only [cond_true,al];rw [b_ (by simp;omega),b_ (by simp;omega)];simp only [cond_true];show pD (zp v c x) v c x _ (Option.bind (e9 (((bX (I J v.2.1 i)).length:Int),())) _);rw [d6.2.1];simp only [cond_true,al];rw [b_ (by simp;omega)];refine pD.is 0 _ rfl ?_ (fun _ _ _ _=>rfl) (Rw _ (by simp) (by intro y aR;simp at aR;omega));simp [Lib.join_cons,Lib.joinTail,List.append_assoc]
theorem ape(v:ah.D)(c:aK.D)(x:aI.D)(hv:b4 v)(hc:dQ c=true)(hx:iC x)(hk:aD x=14):dJ v c x (A3 ((v,c,x,()),())) (lE (v,c,x,())):=by obtain ⟨res,h1,h2,h3,h4,a7,bh,_⟩:=apd v c x hv hc hx hk;exact⟨res,h1,h2,h3,h4,a7,bh⟩
theorem Jw{s:aO}(h:ni s=true):s.length≤8:=by unfold ni at h;simp only [Bool.and_eq_true] at h;have:=cR.1 h.2.1;omega
theorem apf{v:ah.D}(hv:b4 v){i:Nat}(bj:i<v.2.1.length)(h:kindOf (I J v.2.1 i)=2):(ay (I J v.2.1 i)).length≤12∧∀d,d∈ay (I J v.2.1 i)→d.1.length≤8:=by have bS:=hv.ino i bj;exact⟨(bS.dir h).2.2.2,fun d af=>Jw (bS.names d af).1⟩
theorem abI(l:List aS)(F:Flags):kb l F≤l.length:=by unfold kb pw;refine Nat.le_trans (List.length_filter_le _ _) ?_;rw [List.length_range];exact Nat.le_refl _
theorem zq{α : Type}(f : α → Nat)(B:Nat):∀L:List α,(∀i,i∈L→f i≤B)→(L.map f).sum≤L.length*B
 | [],_=>by simp
 | y :: r,h=>by
  have h1:=h y (by simp);have h2:=zq f B r fun t ht=>h t (by simp [ht])
  rw [List.map_cons,List.sum_cons,List.length_cons,Nat.add_one_mul];omega
theorem apg{v:ah.D}(hv:b4 v)(F:Flags):jQ v.2.1 F≤v.2.1.length*64:=by unfold jQ;refine Nat.le_trans (zq _ 64 _ fun i hi=>?_) (Nat.mul_le_mul_right _ (abI v.2.1 F));unfold pw at hi;exact hv.g_ (List.mem_range.1 (List.mem_filter.1 hi).1)
theorem aph(N:List aJ.D)(hN:N.length≤12)(dg:∀d,d∈N→d.1.length≤8)(y:aN.D)(z:an.D) :
  rC aM N (N.length:Int) 0 z [] y=some ((0,Lib.join (N.map fun d=>d.1) [47],()),y,()):=by
 have:=nh N.length (by omega) (fun m i=>rC m N (N.length:Int) i z ((N.take i.toNat).map fun d=>d.1) y) (fun _=>some ((0,Lib.join (N.map fun d=>d.1) [47],()),y,())) (fun _=>True) (fun m _=>by
  simp only [rC,FT];rw [cw (Nat.le_refl _),Int.toNat_natCast,List.take_length];simp only [cond_false];show Option.bind (joinF (N.map fun d=>d.1) [47]) _=_
  rw [abE _ _ 8 (fun t ht=>by
   obtain ⟨d,af,rfl⟩:=List.mem_map.1 ht
   exact dg d af) (by simp;omega) (by simp;omega)];rfl) (fun m i hi _ hw ih=>by
  have ih:=ih trivial;rw [Int.toNat_natCast_add_one,List.take_succ_eq_append_getElem hi,List.map_append] at ih;simp only [rC,FT,hw];rw [b1 hi,br hi,Int.toNat_natCast];simp only [cond_true,al];rw [show I aJ N i=N[i] from c2 hi];rw [b_ (by simp;omega)]
  exact ih) N.length 0 aM (by omega) (iU (by omega)) trivial
 simpa using this
theorem api(n:aS)(hN:(ay n).length≤12)(dg:∀d,d∈ay n→d.1.length≤8)(z:an.D)(q:Nat)(hq:1000<q) :
  (fP q).tA [] 0 z n=some ((0,Lib.join ((ay n).map fun d=>d.1) [47],()),()):=by
 have hb:∀i,(Lib.join (((ay n).take i).map fun d=>d.1) [47]).length≤108:=by
  intro i;refine Nat.le_trans (Jv _ _ 8 fun t ht=>?_) ?_
  ·obtain ⟨d,af,rfl⟩:=List.mem_map.1 ht;exact dg d (List.mem_of_mem_take af)
  ·simp;omega
 have key:=px 2 (fun m i=>(fP m).tA (Lib.join (((ay n).take i).map fun d=>d.1) [47]) (i:Int) z n) (some ((0,Lib.join ((ay n).map fun d=>d.1) [47],()),())) (ay n).length 1 (fun i hi B y he=>by
  have atZ:((ay n)[i]).1.length≤8:=dg _ (List.getElem_mem hi);have xP:=hb i;refine he.jump 2 fun m=>?_
  rw [abG];unfold Hv;show cond (decide ((i:Int)<((ay n).length:Int))) _ _=_;rw [b1 hi];simp only [cond_true];have abJ:∀t:aO,t.length≤200→(fP (m+1)).Ht t (i:Int) z n=(fP m).tA (t++((ay n)[i]).1) ((i+1:Nat):Int) z n:=fun t ht=>by rw [ao8];unfold OK;show Option.bind (ix (ay n).length (i:Int)) (fun v1=>cond (room (t.length +((I aJ (ay n) v1).1).length)) ((fP m).tA (t++((I aJ (ay n) v1).1)) (ax ((i:Int)+1)) z n) none)=_;rw [br hi];simp only [al];rw [show I aJ (ay n) i=(ay n)[i] from c2 hi,b_ (by omega),dA i (by omega)];rfl
  have e1:((ay n).take (i+1)).map (fun d=>d.1)=((ay n).take i).map (fun d=>d.1)++[((ay n)[i]).1]:=by rw [List.take_succ_eq_append_getElem hi,List.map_append];rfl
  rw [e1];by_cases h0:i=0
  ·subst h0;rw [show decide (((0:Nat):Int)>0)=false from rfl];simp only [cond_false];rw [abJ _ (by omega)];simp [Lib.join_nil,Lib.join_one]
  ·rw [decide_eq_true (show(i:Int)>0 by omega),b_ (by rw [List.length_singleton];omega)];simp only [cond_true];rw [abJ _ (by rw [List.length_append,List.length_singleton];omega),ao6];intro h;have:=congrArg List.length h;simp only [List.length_map,List.length_take,List.length_nil] at this
   omega) (b3.done fun m=>by
  rw [abG];unfold Hv;show cond (decide (((ay n).length:Int)<((ay n).length:Int))) _ _=_
  rw [cw (Nat.le_refl _),List.take_length];rfl)
 have:=key q (by omega);simpa [Lib.join_nil] using this
theorem apj(v:ah.D)(c:aK.D)(x:aI.D)(hv:b4 v)(hc:dQ c=true)(hx:iC x)(hk:aD x=13∨aD x=20):dJ v c x (A2 ((v,c,x,()),())) (lE (v,c,x,())):=by
 have cE:=hv.kd;have aw:=hx.path;obtain ⟨r,hr,fR,kH,kI⟩:=ua v c x true cE hc (by omega);obtain ⟨q,hq,b2⟩:=Cn v c x (by omega) (by unfold ov;rw [bY (show aD x≠14 by omega),bY (show aD x≠17 by omega)];rfl) cE r (by rw [show nt x=true by unfold nt;rw [dq (show aD x≠11 by omega),dq (show aD x≠14 by omega)];rfl];exact fR);show dJ v c x (FR (rC aM) (v,c,x,())) _;rw [b2];unfold FR;by_cases b7:bN r=0
 case neg=>rw [kH b7,Co v c x q r b7];simp only [al];rw [dq b7];exact dJ.is (bN r) [] rfl rfl (by simp) (.inr rfl) (hr.1.rg)
 obtain ⟨i,hi,e'⟩:=kI b7;have bj:=b9 hi;rw [e',zo];unfold tB;show dJ v c x _ (cond (bN r != 0) _ (Option.bind (fx (v,bx r,())) _));rw [ek b7,jR v _ cE.len hi];simp only [cond_false,al];rw [show((0:Int) != 0)=false from rfl,br bj.1];simp only [cond_false,al]
 show dJ v c x (cond (kindOf (I J v.2.1 i) != 2) _ (Option.bind (qe (c,I J v.2.1 i,4,())) fun v6=>cond (!v6.1) _ (cond (aD x==20) (Option.bind (AR (v,bf (I J v.2.1 i),())) fun v9=>Option.bind (rB ([fQ (I J v.2.1 i),fB (I J v.2.1 i),v9.1,v9.2.1],())) _) (rC aM (ay (I J v.2.1 i)) ((ay (I J v.2.1 i)).length:Int) 0 (0,([]:aO),()) [] (v,c,x,())))))
  (cond (aD x==4) _ (cond (aD x==11) _ (cond (aD x==13) (cond (!(kindOf (I J v.2.1 i)==2)) _ (Option.bind (ky (c,I J v.2.1 i,4,())) fun v3=>cond (!v3.1) _ ((fP q).tA [] 0 ud (I J v.2.1 i)))) (cond (aD x==14) _ (cond (aD x==17) _ (cond (!(kindOf (I J v.2.1 i)==2)) _ (Option.bind (ky (c,I J v.2.1 i,4,())) fun v12=>cond (!v12.1) _ (Option.bind (A9 (v,bf (I J v.2.1 i),())) fun gH=>Option.bind (e9 (fQ (I J v.2.1 i),())) fun fO=>cond _ (Option.bind (e9 (fB (I J v.2.1 i),())) _) _))))))))
 rw [bY (show aD x≠4 by omega),bY (show aD x≠11 by omega),bY (show aD x≠14 by omega),bY (show aD x≠17 by omega)];simp only [cond_false];by_cases af:kindOf (I J v.2.1 i)=2
 case neg=>rw [dq af,bY af];refine dJ.is 20 [] rfl ?_;cases aD x==13 <;> rfl
 rw [ek af,cK af,qD c _ 4 hc,B1 c _ 4 hc];simp only [cond_false,al,Bool.not_true]
 cases may c (I J v.2.1 i) 4 with
 | false=>refine dJ.is 13 [] rfl ?_;cases aD x==13 <;> rfl
 | true=>
 simp only [cond_false,Bool.not_true];have bS:=hv.ino i bj.1;have w_:=apf hv bj.1 af;rcases hk with hk | hk
 ·rw [cK hk,bY (show aD x≠20 by omega)];simp only [cond_false,cond_true];rw [aph _ w_.1 w_.2,api _ w_.1 w_.2 _ q (by omega)];exact dJ.is 0 _ rfl rfl (apb _ w_.1 w_.2)
 ·rw [cK hk,bY (show aD x≠13 by omega)];simp only [cond_false,cond_true];have hvl:=hv.len;have Tw:=hv.bytes;obtain ⟨out,hf,hu⟩:=aaf v (bf (I J v.2.1 i)) cE.len cE.dw (by omega);obtain ⟨nE,jr⟩:=aag hv.iY hv.iZ hf;rw [nE,jr] at hu;have nH:kb v.2.1 (eG v.2.1 (bf (I J v.2.1 i)))≤v.2.1.length:=abI _ _;have jl:jQ v.2.1 (eG v.2.1 (bf (I J v.2.1 i)))≤v.2.1.length*64:=apg hv _;have pC:=bS.dir af;have d1:=fJ (fQ (I J v.2.1 i)) (by omega);have d2:=fJ (fB (I J v.2.1 i)) (by omega);have d3:=fJ (jQ v.2.1 (eG v.2.1 (bf (I J v.2.1 i))):Int) (by omega);have d4:=fJ (kb v.2.1 (eG v.2.1 (bf (I J v.2.1 i))):Int) (by omega);rw [hu,aad v _ cE.len cE.dw (by omega)];simp only [al];rw [Ru _ (by simp) (by intro y aR;simp at aR;omega),d1.2.1];simp only [al];rw [b_ (by simp;omega),d2.2.1];simp only [cond_true,al];rw [b_ (by simp;omega),b_ (by simp;omega),d3.2.1];simp only [cond_true,al];rw [b_ (by simp;omega),b_ (by simp;omega),d4.2.1];simp only [cond_true,al];rw [b_ (by simp;omega)];refine dJ.is 0 _ rfl ?_ (Rw _ (by simp) (by intro y aR;simp at aR;omega));simp [Lib.join_cons,Lib.joinTail,List.append_assoc]
theorem apk(n:aS)(x:aI.D)(a:Nat)(ha:(a:Int)=bU x)(Am:a≤1000000)(b:Nat)(hb:(b:Int)=en x)(hb2:b≤1000000)(hl:(bX n).length≤64)(z:an.D)(q:Nat)(hq:1000<q) :
  (fP q).wv (a:Int) x z n []=some ((0,((bX n).drop a).take b,()),()):=by
 have key:∀(k m j:Nat),k<m→min (bX n).length (a+b)-j≤k→a≤j→j≤a+64∧j≤a+b→(fP m).wv (j:Int) x z n (eM (((bX n).drop a).take (j-a)))=some ((0,((bX n).drop a).take b,()),()):=by
  intro k
  induction k with
  | zero=>
   intro m j hm h1 h2 h3;obtain ⟨m,rfl⟩:∃p,m=p+1:=⟨m-1,by omega⟩
   rw [abF];unfold Hu;show cond (decide ((j:Int)<((bX n).length:Int))) (cond (decide ((j:Int)<ax (bU x+en x))) _ _) _=_;rw [← ha,← hb,cG (by omega) (by omega)]
   have e:∀w,w=some ((0,eS (eM (((bX n).drop a).take (j-a))),()),())→w=some (((0:Int),((bX n).drop a).take b,()),()):=fun w hw=>by
    rw [hw,abr];have:((bX n).drop a).take (j-a)=((bX n).drop a).take b:=by rw [List.take_eq_take_iff,List.length_drop];omega
    rw [this]
   by_cases hj:j<(bX n).length
   ·rw [b1 hj,decide_eq_false (show ¬(j:Int)<(a:Int) +(b:Int) by omega)];exact e _ rfl
   ·rw [cw (by omega)];exact e _ rfl
  | succ k ih=>
   intro m j hm h1 h2 h3;by_cases Rn:min (bX n).length (a+b)-j≤k
   ·exact ih m j (by omega) Rn h2 h3
   obtain ⟨m,rfl⟩:∃p,m=p+1:=⟨m-1,by omega⟩
   rw [abF];unfold Hu;show cond (decide ((j:Int)<((bX n).length:Int))) (cond (decide ((j:Int)<ax (bU x+en x))) (Option.bind (ix (bX n).length (j:Int)) fun v1=>cond (room ((eM (((bX n).drop a).take (j-a))).length+[(((bX n).getD v1 0).toNat:Int)].length)) ((fP m).wv (ax ((j:Int)+1)) x z n (eM (((bX n).drop a).take (j-a))++[(((bX n).getD v1 0).toNat:Int)])) none) _) _=_;have hj:j<(bX n).length:=by omega
   rw [← ha,← hb,cG (a:=(a:Int) +(b:Int)) (by omega) (by omega),b1 hj,decide_eq_true (show(j:Int)<(a:Int) +(b:Int) by omega),br hj,dA j (by omega)];simp only [cond_true,al];rw [b_ (by rw [Jr,List.length_take,List.length_drop,List.length_singleton];omega)];simp only [cond_true];have:=ih m (j+1) (by omega) (by omega) (by omega) (by omega)
   rw [show eM (((bX n).drop a).take (j-a))++[(((bX n).getD j 0).toNat:Int)]=eM (((bX n).drop a).take (j+1-a)) by
    rw [show j+1-a=(j-a)+1 by omega,List.take_succ_eq_append_getElem (by rw [List.length_drop];omega)];unfold eM;rw [List.map_append,List.getElem_drop,List.getD_eq_getElem?_getD,List.getElem?_eq_getElem hj]
    simp [show a +(j-a)=j by omega]]
   exact this
 have:=key 64 q a (by omega) (by omega) (by omega) (by omega);rw [Nat.sub_self] at this;exact this
theorem apl(v:ah.D)(c:aK.D)(x:aI.D)(hv:b4 v)(hc:dQ c=true)(hx:iC x)(hk:aD x=4):dJ v c x (FJ ((v,c,x,()),())) (lE (v,c,x,())):=by
 have cE:=hv.kd;have aw:=hx.path;obtain ⟨r,hr,fR,kH,kI⟩:=abu v c x 4 cE hc (by omega);obtain ⟨q,hq,b2⟩:=Cn v c x (by omega) (by unfold ov;rw [bY (show aD x≠14 by omega),bY (show aD x≠17 by omega)];rfl) cE r (by rw [show nt x=true by unfold nt;rw [dq (show aD x≠11 by omega),dq (show aD x≠14 by omega)];rfl];exact fR);show dJ v c x (NF (v,c,x,())) _;rw [b2];unfold NF;by_cases b7:bN r=0
 case neg=>rw [kH b7,Co v c x q r b7];simp only [al];rw [dq b7];exact dJ.is (bN r) [] rfl rfl (by simp) (.inr rfl) (hr.1.rg)
 obtain ⟨i,hi,e'⟩:=kI b7;have bj:=b9 hi;rw [e',zo];unfold tB;show dJ v c x _ (cond (bN r != 0) _ (Option.bind (fx (v,bx r,())) _));rw [ek b7,jR v _ cE.len hi];simp only [cond_false,al];show dJ v c x _ (cond (aD x==4) (cond (kindOf (I J v.2.1 i)==2) _ (Option.bind (ky (c,I J v.2.1 i,4,())) fun v2=>cond (!v2.1) _ (cond (decide (bU x<0)) _ (cond (decide (en x<0)) _ ((fP q).wv (bU x) x ud (I J v.2.1 i) []))))) _);rw [cK hk,qD c _ 4 hc];simp only [cond_true,al]
 cases kindOf (I J v.2.1 i)==2 with
 | true=>exact dJ.is 21 [] rfl rfl
 | false=>
 cases may c (I J v.2.1 i) 4 with
 | false=>exact dJ.is 13 [] rfl rfl
 | true=>
 simp only [cond_false,Bool.not_true,al];rw [show((0:Int) != 0)=false from rfl];simp only [cond_false];show dJ v c x (cond (decide (bU x<0)) _ (cond (decide (en x<0)) _ _)) _;by_cases hn:bU x<0
 ·rw [decide_eq_true hn];exact dJ.is 22 [] rfl rfl
 by_cases hm:en x<0
 ·rw [decide_eq_false hn,decide_eq_true hm];exact dJ.is 22 [] rfl rfl
 rw [decide_eq_false hn,decide_eq_false hm];simp only [cond_false];have abH:=hv.g_ bj.1;have at0:=hx.n;have nV:=hx.m;obtain ⟨a,ha⟩:∃a:Nat,(a:Int)=bU x:=⟨(bU x).toNat,by omega⟩
 obtain ⟨b,hb⟩:∃b:Nat,(b:Int)=en x:=⟨(en x).toNat,by omega⟩
 rw [← ha,apk _ x a ha (by omega) b hb (by omega) abH ud q (by omega),br bj.1];simp only [al];show dJ v c x (Option.bind (dh (bX (I J v.2.1 i)).length (j0 (bU x) ((bX (I J v.2.1 i)).length:Int)) ((bX (I J v.2.1 i)).length:Int)) fun bA=>Option.bind (dh ((part (bX (I J v.2.1 i)) bA.1 (bA.2-bA.1)).length) 0 (j0 (en x) (((part (bX (I J v.2.1 i)) bA.1 (bA.2-bA.1)).length:Nat):Int))) fun cF=>some ((0,part (part (bX (I J v.2.1 i)) bA.1 (bA.2-bA.1)) cF.1 (cF.2-cF.1),()),(v,c,x,()),())) _;generalize bX (I J v.2.1 i)=d at *;have e1:j0 (bU x) (d.length:Int)=((min a d.length:Nat):Int):=by unfold j0;split <;> omega
 rw [e1,jd (by omega) (by omega)];simp only [al]
 have e2:part d (min a d.length) (d.length-min a d.length)=d.drop a:=by
  unfold part;rw [List.take_of_length_le (by rw [List.length_drop];omega)];by_cases h:a≤d.length
  ·rw [Nat.min_eq_left h]
  ·rw [List.drop_eq_nil_of_le (by omega),List.drop_eq_nil_of_le (by omega)]
 rw [e2];have e3:j0 (en x) ((d.drop a).length:Int)=((min b (d.drop a).length:Nat):Int):=by unfold j0;split <;> omega
 rw [e3];have et:dh (d.drop a).length 0 ((min b (d.drop a).length:Nat):Int)=some (0,min b (d.drop a).length):=jd (lo:=0) (Nat.zero_le _) (Nat.min_le_right _ _);rw [et];simp only [al,Nat.sub_zero];rw [pz];refine dJ.is 0 _ rfl ?_ (by rw [List.length_take,List.length_drop];omega);have kP:(d.drop a).take b=(d.drop a).take (min b (d.drop a).length):=List.take_eq_take_iff.2 (by omega);rw [kP]
def Rx(v:ah.D)(c:aK.D)(x:aI.D)(a:Option (an.D×aN.D×Unit))(b:Option (ah.D×an.D×Unit))(Q:ah.D→Prop):Prop:=
 ∃(k:Int) (t:aO) (w:ah.D),a=some ((k,t,()),(w,c,x,()),())∧b=some (cond (k==0) w v,(k,t,()),())∧(k=0→Q w)∧t.length≤400∧(k=0∨t=[])∧0≤k∧k≤200
theorem bq.up{v:ah.D}{c:aK.D}{x:aI.D}{a:Option (Int×aN.D×Unit)}{b:Option (ah.D×an.D×Unit)}{Q Q':ah.D→Prop}(h:bq v c x a b Q)(n2:∀w,Q w→Q' w) :
  Rx v c x (a.bind fun v1=>(eE (v1.1,())).bind fun v2=>some (v2.1,v1.2.1,())) (b.bind fun v2=>some (v2.1,v2.2.1,())) Q':=by
 obtain ⟨k,w,rfl,rfl,hq,hr⟩:=h;exact⟨k,[],w,rfl,rfl,fun h0=>n2 w (hq h0),by simp,.inr rfl,hr⟩
theorem dJ.up{v:ah.D}{c:aK.D}{x:aI.D}{a:Option (an.D×aN.D×Unit)}{b:Option (an.D×Unit)}{Q':ah.D→Prop}(h:dJ v c x a b)(n2:Q' v) :
  Rx v c x (a.bind fun v1=>some (v1.1,v1.2.1,())) (b.bind fun v2=>some (v,v2.1,())) Q':=by
 obtain ⟨res,e1,e2,hl,h0,hr⟩:=h;obtain ⟨k,t,⟨⟩⟩:=res;subst e1 e2;exact⟨k,t,v,rfl,by cases k==0 <;> rfl,fun _=>n2,hl,h0,hr⟩
def sc(v:ah.D)(c:aK.D)(x:aI.D)(w:ah.D):Prop:=
 ((aD x=1∨aD x=3∨aD x=10)∧Made v c x w)∨((aD x=2∨aD x=8)∧Cf v c x w)∨(aD x=9∧Jl v c x w)∨(aD x=12∧zl v c x w)∨((aD x=5∨aD x=6∨aD x=7)∧zm v c x w) ∨
  (aD x=15∧Cl v c x w)∨(aD x=16∧Cm v c x w)∨(aD x=19∧Ju v c x w)∨((aD x=4∨aD x=11∨aD x=13∨aD x=14∨aD x=17∨aD x=18∨aD x=20)∧w=v)
noncomputable def Ry(v:ah.D)(c:aK.D)(x:aI.D):Option (ah.D×an.D×Unit):=
 if aD x=1∨aD x=3∨aD x=10 then(wi (v,c,x,())).bind fun v2=>some (v2.1,v2.2.1,())
 else if aD x=2∨aD x=8 then(Bn (v,c,x,())).bind fun v2=>some (v2.1,v2.2.1,())
 else if aD x=9 then(Hh (v,c,x,())).bind fun v2=>some (v2.1,v2.2.1,())
 else if aD x=12 then(Hm (v,c,x,())).bind fun v2=>some (v2.1,v2.2.1,())
 else if aD x=5∨aD x=6∨aD x=7 then(yI (v,c,x,())).bind fun v2=>some (v2.1,v2.2.1,())
 else if aD x=15∨aD x=16∨aD x=19 then(tz (v,c,x,())).bind fun v2=>some (v2.1,v2.2.1,())
 else(lE (v,c,x,())).bind fun v2=>some (v,v2.1,())
theorem apm(v:ah.D)(c:aK.D)(x:aI.D)(hx:iC x)(jV:aD x≤20):wx (v,c,x,())=Ry v c x:=by
 obtain ⟨q,hq,_⟩:=kC 4;show yJ (Hw aM) v c x=_;unfold yJ;rw [hq,y7,r8.2 hx];simp only [al,Bool.not_true,cond_false];rw [decide_eq_false (show ¬x.1>20 from Int.not_lt.2 jV)];simp only [cond_false];have hk:=hx.dj;obtain ⟨dj,rest⟩:=x;have:aD (dj,rest)=1∨aD (dj,rest)=2∨aD (dj,rest)=3∨aD (dj,rest)=4∨aD (dj,rest)=5∨aD (dj,rest)=6∨aD (dj,rest)=7∨aD (dj,rest)=8∨aD (dj,rest)=9∨aD (dj,rest)=10∨aD (dj,rest)=11∨aD (dj,rest)=12∨aD (dj,rest)=13∨aD (dj,rest)=14∨aD (dj,rest)=15∨aD (dj,rest)=16∨aD (dj,rest)=17∨aD (dj,rest)=18∨aD (dj,rest)=19∨aD (dj,rest)=20:=by omega
 clear hx hk jV;unfold Ry;rcases this with h | h | h | h | h | h | h | h | h | h | h | h | h | h | h | h | h | h | h | h <;>(replace h:dj=_:=h;subst h;rfl)
noncomputable def Rz(v:ah.D)(c:aK.D)(x:aI.D):Option (an.D×aN.D×Unit):=
 if aD x=1∨aD x=3∨aD x=10 then(AX ((v,c,x,()),())).bind fun v1=>(eE (v1.1,())).bind fun v2=>some (v2.1,v1.2.1,())
 else if aD x=2∨aD x=8 then(FE ((v,c,x,()),())).bind fun v1=>(eE (v1.1,())).bind fun v2=>some (v2.1,v1.2.1,())
 else if aD x=9 then(FF ((v,c,x,()),())).bind fun v1=>(eE (v1.1,())).bind fun v2=>some (v2.1,v1.2.1,())
 else if aD x=12 then(FI ((v,c,x,()),())).bind fun v1=>(eE (v1.1,())).bind fun v2=>some (v2.1,v1.2.1,())
 else if aD x=5∨aD x=6∨aD x=7 then(FM ((v,c,x,()),())).bind fun v1=>(eE (v1.1,())).bind fun v2=>some (v2.1,v1.2.1,())
 else if aD x=15 then(FZ ((v,c,x,()),())).bind fun v1=>(eE (v1.1,())).bind fun v2=>some (v2.1,v1.2.1,())
 else if aD x=16 then(F4 ((v,c,x,()),())).bind fun v1=>(eE (v1.1,())).bind fun v2=>some (v2.1,v1.2.1,())
 else if aD x=19 then(F7 ((v,c,x,()),())).bind fun v1=>(eE (v1.1,())).bind fun v2=>some (v2.1,v1.2.1,())
 else if aD x=4 then(FJ ((v,c,x,()),())).bind fun v1=>some (v1.1,v1.2.1,())
 else if aD x=11 then(FN ((v,c,x,()),())).bind fun v1=>some (v1.1,v1.2.1,())
 else if aD x=13∨aD x=20 then(A2 ((v,c,x,()),())).bind fun v1=>some (v1.1,v1.2.1,())
 else if aD x=14 then(A3 ((v,c,x,()),())).bind fun v1=>some (v1.1,v1.2.1,())
 else if aD x=17 then(Option.bind (F5 ((v,c,x,()),())) fun v6=>Option.bind (eE (v6.1,())) fun bA=>some (bA.1,v6.2.1,()))
 else(Option.bind (vw (v,())) fun cF=>Option.bind (rB ([(v.2.1.length:Int),cF.1],())) fun v9=>some ((0,v9.1,()),(v,c,x,()),()))
theorem apn(v:ah.D)(c:aK.D)(x:aI.D)(hx:iC x)(jV:aD x≤20):F9 ((v,c,x,()),())=Rz v c x:=by
 obtain ⟨q,hq,_⟩:=kC 8;show F8 (NU aM) (v,c,x,())=_;unfold F8;rw [hq];have hk:=hx.dj;obtain ⟨dj,rest⟩:=x;have:aD (dj,rest)=1∨aD (dj,rest)=2∨aD (dj,rest)=3∨aD (dj,rest)=4∨aD (dj,rest)=5∨aD (dj,rest)=6∨aD (dj,rest)=7∨aD (dj,rest)=8∨aD (dj,rest)=9∨aD (dj,rest)=10∨aD (dj,rest)=11∨aD (dj,rest)=12∨aD (dj,rest)=13∨aD (dj,rest)=14∨aD (dj,rest)=15∨aD (dj,rest)=16∨aD (dj,rest)=17∨aD (dj,rest)=18∨aD (dj,rest)=19∨aD (dj,rest)=20:=by omega
 clear hx hk jV;unfold Rz;rcases this with h | h | h | h | h | h | h | h | h | h | h | h | h | h | h | h | h | h | h | h <;>(replace h:dj=_:=h;subst h;rfl)
theorem abK(a:Option (an.D×aN.D×Unit)):(a.bind fun v1=>some (v1.1,v1.2.1,()))=a:=by
 cases a with
 | none=>rfl
 | some r=>rfl
theorem apo(v:ah.D)(c:aK.D)(x:aI.D)(hv:b4 v)(hc:dQ c=true)(hx:iC x)(jV:aD x≤20):Rx v c x (F9 ((v,c,x,()),())) (wx (v,c,x,())) (sc v c x):=by
 rw [apn v c x hx jV,apm v c x hx jV];have hk:=hx.dj;unfold Rz Ry;by_cases h1:aD x=1∨aD x=3∨aD x=10
 ·rw [if_pos h1,if_pos h1];exact(anR v c x hv hc hx).up fun w h=>.inl ⟨h1,h⟩
 rw [if_neg h1,if_neg h1];by_cases h2:aD x=2∨aD x=8
 ·rw [if_pos h2,if_pos h2];exact(an1 v c x hv hc hx h2).up fun w h=>.inr (.inl ⟨h2,h⟩)
 rw [if_neg h2,if_neg h2];by_cases h3:aD x=9
 ·rw [if_pos h3,if_pos h3];exact(an5 v c x hv hc hx).up fun w h=>.inr (.inr (.inl ⟨h3,h⟩))
 rw [if_neg h3,if_neg h3];by_cases h4:aD x=12
 ·rw [if_pos h4,if_pos h4];exact(aou v c x hv hc hx).up fun w h=>.inr (.inr (.inr (.inl ⟨h4,h⟩)))
 rw [if_neg h4,if_neg h4];by_cases a7:aD x=5∨aD x=6∨aD x=7
 ·rw [if_pos a7,if_pos a7];exact(aoO v c x hv hc hx a7).up fun w h=>.inr (.inr (.inr (.inr (.inl ⟨a7,h⟩))))
 rw [if_neg a7,if_neg a7];by_cases bh:aD x=15
 ·rw [if_pos bh,if_pos (.inl bh)];exact(aoY v c x hv hc hx bh).up fun w h=>.inr (.inr (.inr (.inr (.inr (.inl ⟨bh,h⟩)))))
 rw [if_neg bh];by_cases bJ:aD x=16
 ·rw [if_pos bJ,if_pos (.inr (.inl bJ))];exact(aoZ v c x hv hc hx bJ).up fun w h=>.inr (.inr (.inr (.inr (.inr (.inr (.inl ⟨bJ,h⟩))))))
 rw [if_neg bJ];by_cases dg:aD x=19
 ·rw [if_pos dg,if_pos (.inr (.inr dg))];exact(ao1 v c x hv hc hx dg).up fun w h=>.inr (.inr (.inr (.inr (.inr (.inr (.inr (.inl ⟨dg,h⟩)))))))
 rw [if_neg dg,if_neg (show ¬(aD x=15∨aD x=16∨aD x=19) by omega)];have n2:sc v c x v:=.inr (.inr (.inr (.inr (.inr (.inr (.inr (.inr ⟨by omega,rfl⟩)))))));by_cases iO:aD x=4
 ·rw [if_pos iO];exact(apl v c x hv hc hx iO).up n2
 rw [if_neg iO];by_cases kr:aD x=11
 ·rw [if_pos kr];exact(ao' v c x hv hc hx kr).up n2
 rw [if_neg kr];by_cases rb:aD x=13∨aD x=20
 ·rw [if_pos rb];exact(apj v c x hv hc hx rb).up n2
 rw [if_neg rb];by_cases j4:aD x=14
 ·rw [if_pos j4];exact(ape v c x hv hc hx j4).up n2
 rw [if_neg j4];by_cases xV:aD x=17
 ·rw [if_pos xV];have:=(apa v c x hv hc hx xV).up (Q':=sc v c x) n2;rwa [abK] at this
 rw [if_neg xV];have:=(apc v c x hv (by omega)).up (Q':=sc v c x) n2;rwa [abK] at this
theorem b4.apq{v:ah.D}(h:b4 v):tc (v,())=some (v,()):=am2 v h.kd.len fun i hi=>Nat.le_trans (gA hi) h.kd.dw
structure zr(v:ah.D)(c:aK.D)(x:aI.D)(w:ah.D)(k:Int)(t:aO):Prop where
 bad:k4 v=false→w=(0,[],())∧k=22∧t=[]
 abL:k4 v=true→dQ c=false→w=v∧k=22∧t=[]
 call:k4 v=true→dQ c=true→(eZ x=false∨20<aD x)→w=v∧k=22∧t=[]
 no:k4 v=true→k≠0→w=v
 len:t.length≤400
 rg:0≤k∧k≤200
 data:k=0∨t=[]
 done:k4 v=true→dQ c=true→eZ x=true→aD x≤20→k=0→sc v c x w
theorem apr(v:ah.D)(c:aK.D)(x:aI.D)(cl:k4 v=true)(hc:dQ c=true):∃w k t,wx (v,c,x,())=some (w,(k,t,()),())∧A4 (v,c,x,())=some (w,(k,t,()),())∧zr v c x w k t:=by
 have e6:=I7.1 cl;show ∃w k t,_∧NV v c x=_∧_
 unfold NV;rw [IZ,BS,e6.apq];simp only [al];rw [hc];simp only [Bool.not_true,cond_false]
 have bad:eZ x=false∨20<aD x→wx (v,c,x,())=some (v,(22,[],()),()):=by
  intro h;show yJ (Hw aM) v c x=_;unfold yJ;rw [y7];simp only [al]
  cases hcall:eZ x with
  | false=>rfl
  | true=>
   rcases h with h | h
   ·rw [hcall] at h;cases h
   ·simp only [Bool.not_true,cond_false];rw [decide_eq_true (show x.1>20 from h)];rfl
 cases hcall:eZ x with
 | false=>rw [bad (.inl hcall)];exact⟨v,22,[],rfl,rfl,fun h=>by simp [cl] at h,fun _ h=>by simp [hc] at h,fun _ _ _=>⟨rfl,rfl,rfl⟩,fun _ _=>rfl,by simp,by decide,.inr rfl,fun _ _ h=>by simp [hcall] at h⟩
 | true=>
 have hx:=r8.1 hcall;simp only [Bool.not_true,cond_false];by_cases jV:aD x≤20
 case neg=>rw [bad (.inr (by omega)),decide_eq_true (show x.1>20 from Int.not_le.1 jV)];exact⟨v,22,[],rfl,rfl,fun h=>by simp [cl] at h,fun _ h=>by simp [hc] at h,fun _ _ _=>⟨rfl,rfl,rfl⟩,fun _ _=>rfl,by simp,by decide,.inr rfl,fun _ _ _ h=>absurd h jV⟩
 rw [decide_eq_false (show ¬x.1>20 from Int.not_lt.2 jV)];simp only [cond_false];obtain ⟨k,t,w,h1,h2,h3,h4,a7,bh⟩:=apo v c x e6 hc hx jV;rw [h1,h2];simp only [al];refine⟨cond (k==0) w v,k,t,rfl,?_,fun h=>by simp [cl] at h,fun _ h=>by simp [hc] at h,fun _ _ h=>?_,fun _ h=>by rw [bY h];rfl,h4,bh,a7,fun _ _ _ _ h0=>by rw [cK h0];exact h3 h0⟩
 ·by_cases h0:k=0
  ·rw [ek h0,cK h0];rfl
  ·rw [dq h0,bY h0];rfl
 ·rcases h with h | h
  ·simp [hcall] at h
  ·omega
structure f'(n:Nat)(x:aS):Prop where
 g_:(bX x).length≤200
 dw:(ay x).length≤n
 each:∀d,d∈ay x→d.1.length≤8
structure hQ(n:Nat)(l:List aS):Prop where
 len:l.length≤n
 po:∀x,x∈l→f' n x
theorem f'.mono{n m:Nat}{x:aS}(h:f' n x)(hm:n≤m):f' m x:=⟨h.g_,Nat.le_trans h.dw hm,h.each⟩
theorem hQ.mono{n m:Nat}{l:List aS}(h:hQ n l)(hm:n≤m):hQ m l:=⟨Nat.le_trans h.len hm,fun x hx=>(h.po x hx).mono hm⟩
theorem hQ.get{n:Nat}{l:List aS}(h:hQ n l){i:Nat}(hi:i<l.length):f' n (I J l i):=h.po _ (c9 hi)
theorem hQ.set{n:Nat}{l:List aS}(h:hQ n l)(i:Nat){y:aS}(aR:f' n y):hQ n (l.set i y):=⟨by rw [List.length_set];exact h.len,fun x hx=>by
 rcases List.mem_or_eq_of_mem_set hx with hx | rfl
 ·exact h.po x hx
 ·exact aR⟩
theorem hQ.go{n:Nat}{l:List aS}(h:hQ n l)(id:Int):hQ n (goN l id):=by
 unfold goN;cases decide (cA l id=0)
 ·exact h
 ·exact⟨Nat.le_trans (List.length_filter_le _ _) h.len,fun x hx=>h.po x (List.mem_filter.1 hx).1⟩
theorem hQ.app{n:Nat}{l:List aS}(h:hQ n l){y:aS}(aR:f' n y):hQ (n+1) (l++[y]):=⟨by simp only [List.length_append,List.length_singleton];have:=h.len;omega,fun x hx=>by
 rcases List.mem_append.1 hx with hx | hx
 ·exact(h.po x hx).mono (by omega)
 ·rw [List.mem_singleton.1 hx];exact aR.mono (by omega)⟩
theorem f'.ins{n:Nat}{x:aS}(h:f' n x){s:aO}(hs:s.length≤8)(id:Int):f' (n+1) (ca x (ins (ay x) s id)):=⟨h.g_,by
 show(j7.ins (ay x) s id).length≤_
 rw [zj];have:=h.dw;omega,fun d af=>by
 rcases r9.1 af with af | rfl
 ·exact h.each d af
 ·exact hs⟩
theorem f'.un{n:Nat}{x:aS}(h:f' n x)(s:aO):f' n (ca x (cn (ay x) s)):=⟨h.g_,Nat.le_trans (w4 _ _) h.dw,fun d af=>h.each d (tX af)⟩
theorem aps{v:ah.D}{n:Nat}(h:hQ n v.2.1):ad.cost ah v≤n+n*(200+9*n):=by
 rw [aai]
 have h1:=zq QG (200+9*n) v.2.1 fun x hx=>by
  have aw:=h.po x hx;have h2:=zq (fun d:aJ.D=>ad.cost aJ d) 8 (ay x) fun d af=>by rw [amY];exact aw.each d af
  unfold QG;rw [amX,r0];have:=aw.g_;have:=aw.dw;omega
 have h3:v.2.1.length*(200+9*n)≤n*(200+9*n):=Nat.mul_le_mul_right _ h.len;have:=h.len;omega
theorem b4.sz{v:ah.D}(h:b4 v):hQ 24 v.2.1:=by
 refine⟨h.len.2,fun x hx=>?_⟩;obtain ⟨i,hi,rfl⟩:=fA hx;have bS:=h.ino i hi;refine⟨by have:=h.g_ hi;omega,?_,fun d af=>Jw (bS.names d af).1⟩;by_cases hk:kindOf (I J v.2.1 i)=2
 ·have:=(bS.dir hk).2.2.2;omega
 ·rw [(bS.plain hk).2.2];simp
theorem RA{l:List aS}{r:a8.D}(h:h_ l r)(hn:nameOf r≠[])(hc:bN r=0∨bN r=2):(nameOf r).length≤8:=by
 rcases hc with hc | hc
 ·exact Jw (h.named hc hn).2.1
 ·exact Jw (h.new hc hn).2.1
theorem abM{v:ah.D}{n:Nat}(h:hQ n v.2.1){i:Nat}(hi:i<v.2.1.length)(s:aO):hQ n (k8 v i s).2.1:=(h.set i ((h.get hi).un s)).go _
theorem apt{l:List aS}{n:Nat}(h:hQ n l){ir it:Nat}(hr:ir<l.length)(ht:it<l.length)(cJ:aO){tn:aO}(hs:tn.length≤8)(id:Int):hQ (n+1) (eX l ir cJ it tn id):=by have h1:hQ n (dI l ir cJ):=h.set ir ((h.get hr).un cJ);refine(h1.mono (by omega)).set it (f'.ins (n:=n) (h1.get ?_) hs id);unfold dI;rw [List.length_set];exact ht
theorem apu(s:aO)(a:Nat)(d:aO)(hs:s.length≤64)(h:a+d.length≤64):(lL s a d).length≤200:=by unfold lL;rw [List.length_append,List.length_append,qM,List.length_drop];omega
theorem sc.sz{v:ah.D}{c:aK.D}{x:aI.D}{w:ah.D}(hv:b4 v)(hx:iC x)(h:sc v c x w):hQ 30 w.2.1:=by
 have ke:=hv.sz;rcases h with⟨_,h⟩ | ⟨_,h⟩ | ⟨_,h⟩ | ⟨_,h⟩ | ⟨_,h⟩ | ⟨_,h⟩ | ⟨_,h⟩ | ⟨_,h⟩ | ⟨_,h⟩
 ·obtain ⟨r,i,hr,hc,hn,hi,_,_,_,_,_,rfl,_⟩:=h.out;have bj:=(b9 hi).1;have:=hx.pA;have h1:hQ 25 (v.2.1.set i (ca (I J v.2.1 i) (ins (ay (I J v.2.1 i)) (nameOf r) v.1))):=(ke.mono (by omega)).set i ((ke.get bj).ins (RA hr hn (.inr hc)) _);refine(h1.app (y:=gM v c x (I J v.2.1 i)) ⟨?_,by simp [gM,ay],by simp [gM,ay]⟩).mono (by omega);show(if aD x=10 then i_ x else []).length≤200;split
  ·omega
  ·simp
 ·obtain ⟨r,i,j,_,_,_,hi,_,_,_,_,_,_,rfl⟩:=h.out;exact(abM ke (b9 hi).1 _).mono (by omega)
 ·obtain ⟨r,t,i,j,_,_,_,_,ht,r',htn,hi,_,_,rfl,_⟩:=h.out;exact((ke.mono (by omega)).set i ((ke.get (b9 hi).1).ins (RA ht htn (.inr r')) _)).mono (by omega)
 ·obtain ⟨r,t,j,hr,hc,hn,hj,ht,htn,r',_,h⟩:=h.out;rcases h with⟨_,rfl⟩ | ⟨_,_,l,ir,it,aw,rfl,_,h⟩
  ·exact ke.mono (by omega)
  ·have hl:hQ 24 l:=by
    rcases h with⟨_,rfl,_⟩ | ⟨i2,e8,gw,_,_,_,_,_,rfl⟩
    ·exact ke
    ·exact abM ke (b9 gw).1 _
   exact(apt hl (b9 aw.hr).1 (b9 aw.ht).1 _ (RA ht htn r') _).mono (by omega)
 ·obtain ⟨r,i,hr,hc,hi,_,_,_,ha,_,h⟩:=h.out;rcases h with⟨_,_,rfl⟩ | ⟨_,hle,rfl,_⟩
  ·exact ke.mono (by omega)
  ·have aw:=ke.get (b9 hi).1;refine(ke.mono (by omega)).set i ⟨?_,by have:=aw.dw;exact Nat.le_trans this (by omega),aw.each⟩;show(i' x (I J v.2.1 i)).length≤200;have af:=hv.g_ (b9 hi).1;unfold i';split
   ·rename_i bJ;rw [qM];have:eH x (I J v.2.1 i)=bU x:=by unfold eH;rw [if_neg (by omega)]
    omega
   ·exact apu _ _ _ af (by omega)
 ·obtain ⟨_,_,r,i,_,_,hi,_,_,rfl⟩:=h.out;have aw:=ke.get (b9 hi).1;exact(ke.mono (by omega)).set i ⟨aw.g_,Nat.le_trans aw.dw (by omega),aw.each⟩
 ·obtain ⟨_,_,r,i,_,_,hi,rfl⟩:=h.out;have aw:=ke.get (b9 hi).1;exact(ke.mono (by omega)).set i ⟨aw.g_,Nat.le_trans aw.dw (by omega),aw.each⟩
 ·obtain ⟨_,_,_,r,i,_,_,hi,_,rfl,_⟩:=h.out;have aw:=ke.get (b9 hi).1;exact(ke.mono (by omega)).set i ⟨aw.g_,Nat.le_trans aw.dw (by omega),aw.each⟩
 ·rw [h];exact ke.mono (by omega)
theorem zr.cost{v:ah.D}{c:aK.D}{x:aI.D}{w:ah.D}{k:Int}{t:aO}(h:zr v c x w k t)(hv:ad.cost ah v≤1048576):ad.cost ah w≤1048576:=by
 have h0:w=v→ad.cost ah w≤1048576:=fun e=>by rw [e];exact hv
 cases cl:k4 v with
 | false=>rw [(h.bad cl).1,aai];simp
 | true=>
 cases hc:dQ c with
 | false=>exact h0 (h.abL cl hc).1
 | true=>
 cases hcall:eZ x with
 | false=>exact h0 (h.call cl hc (.inl hcall)).1
 | true=>
 by_cases jV:20<aD x
 ·exact h0 (h.call cl hc (.inr jV)).1
 by_cases hk:k=0
 ·have:=aps ((h.done cl hc hcall (by omega) hk).sz (I7.1 cl) (r8.1 hcall));omega
 ·exact h0 (h.no cl hk)
structure apv(n:Int)(l:List aS):Prop where
 next:2≤n∧n≤100000
 len:l.length≤24
 kJ:l.Pairwise fun a b=>bf a<bf b
 root:∃x,x∈l∧bf x=1∧kindOf x=2
 ids:∀x,x∈l→1≤bf x∧bf x≤n-1
 ino:∀x,x∈l→lJ l x
 reach:∀x,x∈l→bf x≠1→dY l 1 (bf x)
 once:∀x,x∈l→bf x≠1→kindOf x=2→cA l (bf x)=1
 bytes:bytesOf l≤400
 over:jA l=false
theorem apw{l:List aS}(h:l.Pairwise fun a b=>bf a<bf b):B7 l:=h.imp fun h=>by omega
theorem lN{l:List aS}(h:l.Pairwise fun a b=>bf a<bf b):iX l:=B8.2 (apw h)
theorem Jx{l:List aS}(h:l.Pairwise fun a b=>bf a<bf b){i j:Nat}(jc:i<j)(hj:j<l.length):bf (I J l i)<bf (I J l j):=by rw [c2 (by omega),c2 hj];exact List.pairwise_iff_getElem.1 h i j (by omega) hj jc
theorem abN{l:List aS}(h:∀i,i+1<l.length→bf (I J l i)<bf (I J l (i+1))):l.Pairwise fun a b=>bf a<bf b:=by
 have bO:∀d j,j+d+1<l.length→bf (I J l j)<bf (I J l (j+d+1)):=by
  intro d
  induction d with
  | zero=>intro j hj;exact h j hj
  | succ d ih=>intro j hj;exact Int.lt_trans (ih j (by omega)) (h (j+d+1) hj)
 rw [List.pairwise_iff_getElem];intro i j hi hj jc;have:=bO (j-i-1) i (by omega);rw [show i +(j-i-1)+1=j by omega,c2 hi,c2 hj] at this;exact this
theorem nu{v:ah.D} : b4 v↔apv (gC v) v.2.1:=by
 constructor
 ·intro h;have h0:0<v.2.1.length:=by have:=h.len;omega
  have cj:∀i,i<v.2.1.length→bf (I J v.2.1 i)≠1→1≤i:=by
   intro i hi hne;rcases Nat.eq_zero_or_pos i with h | h
   ·subst h;exact absurd (b4.root ‹_›).1 hne
   ·exact h
  refine⟨h.next,h.len.2,abN h.I6,⟨_,c9 h0,h.root⟩,?_,?_,?_,?_,h.bytes,h.over⟩
  ·intro x hx;obtain ⟨i,hi,rfl⟩:=fA hx;exact h.ids i hi
  ·intro x hx;obtain ⟨i,hi,rfl⟩:=fA hx;exact h.ino i hi
  ·intro x hx hne;obtain ⟨i,hi,rfl⟩:=fA hx;exact h.reach i (cj i hi hne) hi
  ·intro x hx hne hk;obtain ⟨i,hi,rfl⟩:=fA hx;exact h.once i (cj i hi hne) hi hk
 ·intro h;obtain ⟨x,hx,hx1,hx2⟩:=h.root;obtain ⟨k,hk,rfl⟩:=fA hx
  have hk0:k=0:=by
   rcases Nat.eq_zero_or_pos k with h0 | h0
   ·exact h0
   ·have h1:=Jx h.kJ h0 hk;have h2:=h.ids _ (c9 (show 0<v.2.1.length by omega));omega
  subst hk0;have hne:∀i,1≤i→i<v.2.1.length→bf (I J v.2.1 i)≠1:=by intro i hi hl;have:=Jx h.kJ (show 0<i by omega) hl;omega
  exact⟨h.next,⟨by omega,h.len⟩,⟨hx1,hx2⟩,fun i hi=>h.ids _ (c9 hi),fun i hi=>Jx h.kJ (Nat.lt_succ_self i) hi,fun i hi=>h.ino _ (c9 hi),fun i h1 hi=>h.reach _ (c9 hi) (hne i h1 hi),fun i h1 hi hk=>h.once _ (c9 hi) (hne i h1 hi) hk,h.bytes,h.over⟩
theorem iD{l:List aS}(af:iX l){a b:Int} : E l a b↔∃x,x∈l∧bf x=a∧∃d,d∈ay x∧d.2.1=b:=by
 constructor
 ·rintro ⟨i,d,hi,hm,he⟩
  exact⟨I J l i,c9 (b9 hi).1,(b9 hi).2,d,hm,he⟩
 ·rintro ⟨x,hx,rfl,d,hm,he⟩
  obtain ⟨i,hi,rfl⟩:=fA hx;exact⟨i,d,af i hi,hm,he⟩
theorem zs{l l':List aS}(h:∀a b,E l a b→E l' a b){a b:Int}(hb:dY l a b):dY l' a b:=by
 induction hb with
 | single h1=>exact .single (h _ _ h1)
 | tail _ h1 ih=>exact .tail ih (h _ _ h1)
theorem lJ.to{l l':List aS}{x:aS}(h:lJ l x)(hn:∀d,d∈ay x→(bC l d.2.1).isSome=true→(bC l' d.2.1).isSome=true):lJ l' x:=
 ⟨h.mode,h.uid,h.gid,h.kind,h.plain,h.file,h.oe,h.dir,fun d af=>⟨(h.names d af).1,(h.names d af).2.1,hn d af (h.names d af).2.2⟩,h.sorted⟩
theorem mem_set{l:List aS}(af:iX l){i:Nat}(hi:i<l.length){y:aS}(aR:bf y=bf (I J l i)){x:aS} : x∈l.set i y↔x=y∨(x∈l∧bf x≠bf y):=by
 constructor
 ·intro hx;obtain ⟨j,hj,rfl⟩:=fA hx;rw [List.length_set] at hj;rw [jC hi];split
  ·exact .inl rfl
  ·rename_i jc;refine .inr ⟨c9 hj,fun he=>jc ?_⟩;have h1:=af i hi;have h2:=af j hj;have:(I J l j).1=(I J l i).1:=(show bf (I J l j)=bf (I J l i) by rw [he,aR]);rw [this,h1] at h2;exact aW h2
 ·rintro (rfl | ⟨hx,hne⟩)
  ·exact List.mem_iff_getElem.2 ⟨i,by rw [List.length_set];exact hi,by rw [List.getElem_set_self]⟩
  ·obtain ⟨j,hj,rfl⟩:=fA hx;have jc:i≠j:=fun h=>hne (by subst h;exact aR.symm)
   have:I J (l.set i y) j=I J l j:=by rw [jC hi,if_neg jc]
   rw [← this];exact c9 (by rw [List.length_set];exact hj)
theorem xa{l:List aS}(h:l.Pairwise fun a b=>bf a<bf b){i:Nat}(hi:i<l.length){y:aS}(aR:bf y=bf (I J l i)):(l.set i y).Pairwise fun a b=>bf a<bf b:=by
 refine abN fun j hj=>?_
 rw [List.length_set] at hj
 have key:∀k,bf (I J (l.set i y) k)=bf (I J l k):=by
  intro k;rw [jC hi];split
  ·rename_i h;subst h;exact aR
  ·rfl
 rw [key,key];exact Jx h (Nat.lt_succ_self j) hj
theorem Jy{l:List aS}{i:Nat}{y:aS}(hi:i<l.length)(b:Int):cA (l.set i y) b+dB (ay (I J l i)) b=cA l b+dB (ay y) b:=by
 unfold cA
 induction l generalizing i with
 | nil=>simp at hi
 | cons z l ih=>
  cases i with
  | zero=>simp only [List.set_cons_zero,List.map_cons,List.sum_cons];rw [show I J (z :: l) 0=z from rfl];omega
  | succ i=>simp only [List.set_cons_succ,List.map_cons,List.sum_cons];have:=ih (i:=i) (by simpa using hi);rw [show I J (z :: l) (i+1)=I J l i from rfl];omega
theorem apx(l:List aS)(n:aS)(b:Int):cA (l++[n]) b=cA l b+dB (ay n) b:=by unfold cA;rw [List.map_append,List.sum_append_nat];simp
theorem zt(N M:List aJ.D)(b:Int):dB (N++M) b=dB N b+dB M b:=by unfold dB;rw [List.filter_append,List.length_append]
theorem abO(s:aO)(id b:Int):dB [((s,id,()):aJ.D)] b=cond (id==b) 1 0:=by
 unfold dB;rw [List.filter_cons];cases h:(((s,id,()):aJ.D).2.1==b)
 ·rfl
 ·rfl
theorem apy(N:List aJ.D)(s:aO)(id b:Int):dB (ins N s id) b=dB N b+cond (id==b) 1 0:=by
 unfold ins;rw [zt,zt,abO];have:dB N b=dB (N.takeWhile (ec s)) b+dB (N.dropWhile (ec s)) b:=by rw [← zt,List.takeWhile_append_dropWhile]
 omega
theorem apz{N:List aJ.D}{b:Int}(h:∀d,d∈N→d.2.1≠b):dB N b=0:=by unfold dB;rw [List.filter_eq_nil_iff.2 fun d af=>by rw [beq_iff_eq];exact h d af];rfl
theorem abP{l:List aS}{b:Int}(h:∀x,x∈l→∀d,d∈ay x→d.2.1≠b):cA l b=0:=by unfold cA;exact Q_ fun x hx=>apz (h x hx)
theorem apA{l:List aS}(hx:tQ l){b:Int}(h:bC l b=none):cA l b=0:=by
 refine abP fun x apB d af he=>?_
 obtain ⟨i,hi,rfl⟩:=fA apB;have:=hx i hi d af;rw [he,h] at this;cases this
theorem RB:∀ {N:List aJ.D},jB N→∀ {d:aJ.D},d∈N→∀b:Int,dB (cn N d.1) b+cond (d.2.1==b) 1 0=dB N b
 | [],_,d,af,_=>by cases af
 | x :: N,hs,d,af,b=>by
  have h1:=List.pairwise_cons.1 hs;rcases List.mem_cons.1 af with rfl | af
  ·have e:cn (d :: N) d.1=N:=by
    unfold cn;rw [List.filter_cons,show(!bw d.1 d.1)=false by unfold bw;simp];simp only [Bool.false_eq_true,if_false];refine List.filter_eq_self.2 fun y aR=>?_
    have:=I4 (h1.1 y aR);unfold bw;simp only [Bool.not_eq_true',decide_eq_false_iff_not];exact fun e=>this e.symm
   rw [e];show _=dB ([d]++N) b;rw [zt];have:dB [d] b=cond (d.2.1==b) 1 0:=abO d.1 d.2.1 b;omega
  ·have e:cn (x :: N) d.1=x :: cn N d.1:=by
    unfold cn
    rw [List.filter_cons,show(!bw x.1 d.1)=true by
     have:=I4 (h1.1 d af)
     unfold bw;simp [this]]
    rfl
   have ih:=RB h1.2 af b;rw [e];show dB ([x]++cn N d.1) b+_=dB ([x]++N) b;rw [zt,zt];omega
theorem Jz{l:List aS} : fa l=0↔bytesOf l≤400∧jA l=false:=by
 unfold fa;by_cases h:(bytesOf l:Int)>400
 ·rw [decide_eq_true h];constructor
  ·intro h0;cases h0
  ·intro h0;omega
 ·rw [decide_eq_false h]
  cases jA l with
  | true=>
   constructor
   ·intro h0;cases h0
   ·intro h0;cases h0.2
  | false=>exact⟨fun _=>⟨by omega,rfl⟩,fun _=>rfl⟩
theorem b4.keep{v:ah.D}(hv:b4 v){i:Nat}(hi:i<v.2.1.length){y:aS}(h1:bf y=bf (I J v.2.1 i))(h2:kindOf y=kindOf (I J v.2.1 i))(h3:ay y=ay (I J v.2.1 i))(ia:lJ v.2.1 y)
  (hf:fa (v.2.1.set i y)=0):b4 (v.1,v.2.1.set i y,()):=by
 have h:=nu.1 hv;have af:=lN h.kJ;have Cp:∀id,bC (v.2.1.set i y) id=bC v.2.1 id:=fun id=>Jg hi h1 id
 have iM:=xa h.kJ hi h1
 have hE:∀a b,E v.2.1 a b→E (v.2.1.set i y) a b:=by
  intro a b;rw [iD af,iD (lN iM)]
  rintro ⟨x,hx,jW,d,iu,Cq⟩
  by_cases hR:bf x=bf y
  ·refine⟨y,(mem_set af hi h1).2 (.inl rfl),by rw [← hR];exact jW,d,?_,Cq⟩;obtain ⟨j,hj,rfl⟩:=fA hx;have e1:=af i hi;have e2:=af j hj;have:(I J v.2.1 j).1=(I J v.2.1 i).1:=(show bf _=bf _ by rw [hR,h1]);rw [this,e1] at e2;obtain rfl:=aW e2;rw [h3];exact iu
  ·exact⟨x,(mem_set af hi h1).2 (.inr ⟨hx,hR⟩),jW,d,iu,Cq⟩
 have hC:∀a b,dY v.2.1 a b→dY (v.2.1.set i y) a b:=fun a b hb=>zs hE hb
 have k0:∀b,cA (v.2.1.set i y) b=cA v.2.1 b:=by intro b;have:=Jy (y:=y) hi b;rw [h3] at this;omega
 have qN:=c9 (t:=J) hi;have kV:=Jz.1 hf;refine nu.2 ⟨h.next,by rw [List.length_set];exact h.len,iM,?_,?_,?_,?_,?_,kV.1,kV.2⟩
 ·obtain ⟨x,hx,hx1,hx2⟩:=h.root;by_cases hR:bf x=bf y
  ·refine⟨y,(mem_set af hi h1).2 (.inl rfl),by rw [← hR];exact hx1,?_⟩;obtain ⟨j,hj,rfl⟩:=fA hx;have e1:=af i hi;have e2:=af j hj;have:(I J v.2.1 j).1=(I J v.2.1 i).1:=(show bf _=bf _ by rw [hR,h1]);rw [this,e1] at e2;obtain rfl:=aW e2;rw [h2];exact hx2
  ·exact⟨x,(mem_set af hi h1).2 (.inr ⟨hx,hR⟩),hx1,hx2⟩
 ·intro x hx;rcases (mem_set af hi h1).1 hx with rfl | ⟨hx,_⟩
  ·rw [h1];exact h.ids _ qN
  ·exact h.ids x hx
 ·intro x hx;rcases (mem_set af hi h1).1 hx with rfl | ⟨hx,_⟩
  ·exact ia.to fun d _ h=>by rw [Cp];exact h
  ·exact(h.ino x hx).to fun d _ h=>by rw [Cp];exact h
 ·intro x hx hne;rcases (mem_set af hi h1).1 hx with rfl | ⟨hx,_⟩
  ·rw [h1] at hne ⊢;exact hC _ _ (h.reach _ qN hne)
  ·exact hC _ _ (h.reach x hx hne)
 ·intro x hx hne hk;rw [k0];rcases (mem_set af hi h1).1 hx with rfl | ⟨hx,_⟩
  ·rw [h1] at hne ⊢;rw [h2] at hk;exact h.once _ qN hne hk
  ·exact h.once x hx hne hk
theorem b4.get{v:ah.D}(h:b4 v){x:aS}(hx:x∈v.2.1):lJ v.2.1 x:=(nu.1 h).ino x hx
theorem nv{l:List aS}(af:iX l){x y:aS}(hx:x∈l)(aR:y∈l)(h:bf x=bf y):x=y:=by obtain ⟨i,hi,rfl⟩:=fA hx;obtain ⟨j,hj,rfl⟩:=fA aR;have e1:=af i hi;have e2:=af j hj;have:(I J l i).1=(I J l j).1:=h;rw [this,e2] at e1;rw [aW e1]
theorem lJ.named{l l':List aS}{x:aS}(h:lJ l x)(lp:∀id,(bC l id).isSome=true→(bC l' id).isSome=true)(hk:kindOf x=2){s:aO}{id:Int}(hs:ni s=true)(h1:id≠1)(cj:(bC l' id).isSome=true)(hl:(ay x).length<12)(hn:∀d,d∈ay x→d.1≠s):lJ l' (ca x (ins (ay x) s id)):=
 ⟨h.mode,h.uid,h.gid,h.kind,fun dO=>absurd hk dO,h.file,h.oe,fun dO=>⟨(h.dir dO).1,(h.dir dO).2.1,(h.dir dO).2.2.1,by
  show(ins (ay x) s id).length≤12
  rw [zj];omega⟩,fun d af=>by
  rcases r9.1 af with af | rfl
  ·exact⟨(h.names d af).1,(h.names d af).2.1,lp _ (h.names d af).2.2⟩
  ·exact⟨hs,h1,cj⟩,abd h.sorted hn⟩
theorem RC{l:List aS}(hr:l.Pairwise fun a b=>bf a<bf b){i:Nat}(hi:i<l.length)(s:aO)(id:Int) :
  (∀a b,E l a b→E (l.set i (ca (I J l i) (ins (ay (I J l i)) s id))) a b)∧E (l.set i (ca (I J l i) (ins (ay (I J l i)) s id))) (bf (I J l i)) id:=by
 have af:=lN hr;have aR:bf (ca (I J l i) (ins (ay (I J l i)) s id))=bf (I J l i):=t_ _ _;have jO:=lN (xa hr hi aR);have abQ:ca (I J l i) (ins (ay (I J l i)) s id)∈l.set i (ca (I J l i) (ins (ay (I J l i)) s id)):=(mem_set af hi aR).2 (.inl rfl);constructor
 ·intro a b;rw [iD af,iD jO]
  rintro ⟨x,hx,jW,d,iu,Cq⟩
  by_cases hR:bf x=bf (I J l i)
  ·obtain rfl:=nv af hx (c9 hi) hR;exact⟨_,abQ,aR.trans jW,d,r9.2 (.inl iu),Cq⟩
  ·exact⟨x,(mem_set af hi aR).2 (.inr ⟨hx,by rw [aR];exact hR⟩),jW,d,iu,Cq⟩
 ·rw [iD jO];exact⟨_,abQ,aR,(s,id,()),r9.2 (.inr rfl),rfl⟩
theorem RD{l:List aS}{i:Nat}(hi:i<l.length)(s:aO)(id b:Int):cA (l.set i (ca (I J l i) (ins (ay (I J l i)) s id))) b=cA l b+cond (id==b) 1 0:=by have h:=Jy (y:=ca (I J l i) (ins (ay (I J l i)) s id)) hi b;rw [kE,apy] at h;omega
theorem Jl.ok{v:ah.D}{c:aK.D}{x:aI.D}{w:ah.D}(hv:b4 v)(hx:iC x)(h:Jl v c x w):b4 w:=by
 obtain ⟨r,t,i,j,hr,hc,hj,qB,ht,r',htn,hi,iz,hl,rfl,hf,_⟩:=h.out;have hm:=nu.1 hv;have af:=lN hm.kJ;have bj:=(b9 hi).1;have hjl:=b9 hj;obtain ⟨pB,k0,d,gv,iQ,RE⟩:=ht.new r' htn;obtain rfl:d=i:=aW (gv.symm.trans hi);have fs:=Ca RE fun e he=>hv.Cb bj he
 have LY:bx r≠1:=by intro h1;obtain ⟨z,hz,jL,hz2⟩:=hm.root;have:I J v.2.1 j=z:=nv af (c9 hjl.1) hz (by rw [jL];exact hjl.2.trans h1);rw [this] at qB;exact qB hz2
 have ia:=(hm.ino _ (c9 bj)).named (fun _ h=>h) iz k0 LY (by rw [hj];rfl) hl fs;obtain ⟨hE,_⟩:=RC hm.kJ bj (nameOf t) (bx r);have aR:bf (ca (I J v.2.1 d) (ins (ay (I J v.2.1 d)) (nameOf t) (bx r)))=bf (I J v.2.1 d):=t_ _ _;have Cp:∀id,bC (v.2.1.set d (ca (I J v.2.1 d) (ins (ay (I J v.2.1 d)) (nameOf t) (bx r)))) id=bC v.2.1 id:=fun id=>Ch _ bj id
 have kV:=Jz.1 hf;refine nu.2 ⟨hm.next,by show(List.set _ _ _).length≤24;rw [List.length_set];exact hm.len,xa hm.kJ bj aR,?_,?_,?_,?_,?_,kV.1,kV.2⟩
 ·obtain ⟨z,hz,jL,hz2⟩:=hm.root;by_cases Cr:bf z=bf (I J v.2.1 d)
  ·exact⟨_,(mem_set af bj aR).2 (.inl rfl),by rw [aR,← Cr];exact jL,iz⟩
  ·exact⟨z,(mem_set af bj aR).2 (.inr ⟨hz,by rw [aR];exact Cr⟩),jL,hz2⟩
 ·intro z hz;rcases (mem_set af bj aR).1 hz with rfl | ⟨hz,_⟩
  ·rw [aR];exact hm.ids _ (c9 bj)
  ·exact hm.ids z hz
 ·intro z hz;rcases (mem_set af bj aR).1 hz with rfl | ⟨hz,_⟩
  ·exact ia.to fun e _ h=>by rw [w7,Cp];exact h
  ·exact(hm.ino z hz).to fun e _ h=>by rw [w7,Cp];exact h
 ·intro z hz hne;rcases (mem_set af bj aR).1 hz with rfl | ⟨hz,_⟩
  ·rw [aR] at hne ⊢;exact zs hE (hm.reach _ (c9 bj) hne)
  ·exact zs hE (hm.reach z hz hne)
 ·have abR:∀z,z∈v.2.1→bf z≠1→kindOf z=2→cA (v.2.1.set d (ca (I J v.2.1 d) (ins (ay (I J v.2.1 d)) (nameOf t) (bx r)))) (bf z)=1:=by
   intro z hz hne hk;rw [RD bj,hm.once z hz hne hk];have:bx r≠bf z:=fun e=>by have:I J v.2.1 j=z:=nv af (c9 hjl.1) hz (hjl.2.trans e);rw [this] at qB;exact qB hk
   rw [bY this];rfl
  intro z hz hne hk;rcases (mem_set af bj aR).1 hz with rfl | ⟨hz,_⟩
  ·rw [aR] at hne ⊢;exact abR _ (c9 bj) hne iz
  ·exact abR z hz hne hk
theorem Made.ok{v:ah.D}{c:aK.D}{x:aI.D}{w:ah.D}(hv:b4 v)(hc:dQ c=true)(hx:iC x)(hk:aD x=1∨aD x=3∨aD x=10)(h:Made v c x w):b4 w:=by
 obtain ⟨r,i,hr,apC,qK,hi,iz,_,hl,hlen,Q7,rfl,hf,_⟩:=h.out;have kF:=h.bad;have hm:=nu.1 hv;have af:=lN hm.kJ;have bj:=(b9 hi).1;obtain ⟨pB,k0,d,gv,iQ,RE⟩:=hr.new apC qK;obtain rfl:d=i:=aW (gv.symm.trans hi);have fs:=Ca RE fun e he=>hv.Cb bj he
 have ko:bC v.2.1 v.1=none:=hv.free;have rk:=hm.next;have q8:=hm.ino _ (c9 bj);have aR:bf (ca (I J v.2.1 d) (ins (ay (I J v.2.1 d)) (nameOf r) v.1))=bf (I J v.2.1 d):=t_ _ _;obtain ⟨RF,zu⟩:=RC hm.kJ bj (nameOf r) v.1;have o4:=xa hm.kJ bj aR;have Cs:bf (gM v c x (I J v.2.1 d))=gC v:=rfl;have Ct:ay (gM v c x (I J v.2.1 d))=[]:=rfl;have lK:=fun {z:aS}=> mem_set (x:=z) af bj aR
 have RG:∀z,z∈v.2.1.set d (ca (I J v.2.1 d) (ins (ay (I J v.2.1 d)) (nameOf r) v.1))→1≤bf z∧bf z≤gC v-1:=by
  intro z hz;rcases lK.1 hz with rfl | ⟨hz,_⟩
  ·rw [aR];exact hm.ids _ (c9 bj)
  ·exact hm.ids z hz
 generalize hn:gM v c x (I J v.2.1 d)=n at *;generalize de:v.2.1.set d (ca (I J v.2.1 d) (ins (ay (I J v.2.1 d)) (nameOf r) v.1))=S at *;have abS:(S++[n]).Pairwise fun a b=>bf a<bf b:=by rw [List.pairwise_append];refine⟨o4,List.pairwise_singleton _ _,fun a ha b hb=>?_⟩;rw [List.mem_singleton.1 hb,Cs];have:=RG a ha;omega
 have jO:=lN abS
 have zv:∀a b,E S a b→E (S++[n]) a b:=by
  intro a b;rw [iD (lN o4),iD jO]
  rintro ⟨z,hz,h⟩
  exact⟨z,List.mem_append.2 (.inl hz),h⟩
 have hE:∀a b,E v.2.1 a b→E (S++[n]) a b:=fun a b h=>zv a b (RF a b h)
 have apD:∀id,bC S id=bC v.2.1 id:=fun id=>by rw [← de];exact Ch _ bj id
 have JA:∀id,(bC v.2.1 id).isSome=true→(bC (S++[n]) id).isSome=true:=by intro id cj;obtain ⟨y,aR,he⟩:=oj.1 (show(bC S id).isSome=true by rw [apD];exact cj);exact oj.2 ⟨y,List.mem_append.2 (.inl aR),he⟩
 have apE:(bC (S++[n]) v.1).isSome=true:=oj.2 ⟨n,List.mem_append.2 (.inr (List.mem_singleton.2 rfl)),Cs⟩;have hdl:=hm.ids _ (c9 bj);have apF:=q8.named JA iz k0 (show v.1≠1 by show gC v≠1;omega) apE hl fs;have pX:(0≤c.1∧c.1≤1000)∧(0≤c.2.1∧c.2.1≤1000):=by unfold dQ at hc;simp only [Bool.and_eq_true] at hc;exact⟨cR.1 hc.1,cR.1 hc.2.1⟩
 have apG:lJ (S++[n]) n:=by
  have oZ:0≤fi n∧fi n≤2047:=by
   rw [← hn];show 0≤w6 x (I J v.2.1 d)∧w6 x (I J v.2.1 d)≤2047;unfold w6;by_cases kr:aD x=10
   ·rw [if_pos kr];omega
   rw [if_neg kr];unfold r_ at kF;rw [bY kr] at kF;simp only [cond_false,Bool.not_eq_false'] at kF;have hr:=cR.1 kF;split
   ·exact anL hr.1 hr.2
   ·exact hr
  have qN:0≤fC n∧fC n≤1000:=by
   rw [← hn];show 0≤Cc c (I J v.2.1 d)∧Cc c (I J v.2.1 d)≤1000;unfold Cc;split
   ·exact q8.gid
   ·exact pX.2
  have km:kindOf n=Jj x:=by rw [← hn];rfl
  have RH:bX n=if aD x=10 then i_ x else []:=by rw [← hn];rfl
  have ya:eK n=c.1:=by rw [← hn];rfl
  have Jk:fi n=w6 x (I J v.2.1 d):=by rw [← hn];rfl
  have gx:fQ n=0:=by rw [← hn];rfl
  have hi0:fB n=0:=by rw [← hn];rfl
  unfold Jj at km;refine⟨oZ,by rw [ya];exact pX.1,qN,?_,fun _=>⟨gx,hi0,Ct⟩,fun h1=>?_,fun h3=>?_,fun h2=>?_,fun e he=>(by rw [Ct] at he;cases he),by rw [Ct];exact List.Pairwise.nil⟩
  ·rw [km];split
   ·exact .inr (.inl rfl)
   ·split
    ·exact .inr (.inr rfl)
    ·exact .inl rfl
  ·rw [RH];split
   ·have:=hx.pA;omega
   ·simp
  ·have kr:aD x=10:=by
    rw [km] at h3;split at h3
    ·cases h3
    ·split at h3
     ·assumption
     ·cases h3
   unfold r_ at kF;rw [cK kr] at kF;simp only [cond_true,Bool.not_eq_false'] at kF;refine⟨by rw [RH,if_pos kr];exact kF,?_⟩;rw [Jk];unfold w6;rw [if_pos kr]
  ·have kr:aD x≠10:=by
    intro kr;rw [km,if_neg (by omega),if_pos kr] at h2;cases h2
   rw [RH,if_neg kr,gx,hi0,Ct];exact⟨rfl,by omega,by omega,by simp⟩
 have RI:∀z,z∈v.2.1→bf z≠1→dY (S++[n]) 1 (bf z):=fun z hz hne=>zs hE (hm.reach z hz hne)
 have apH:∀b,cA (S++[n]) b=cA v.2.1 b+cond (v.1==b) 1 0:=by intro b;rw [apx,Ct,← de,RD bj];rfl
 have kV:=Jz.1 hf;refine nu.2 ⟨?_,?_,abS,?_,?_,?_,?_,?_,kV.1,kV.2⟩
 ·show 2≤gC v+1∧gC v+1≤100000;omega
 ·show(S++[n]).length≤24;rw [List.length_append,List.length_singleton,← de,List.length_set];omega
 ·obtain ⟨z,hz,jL,hz2⟩:=hm.root;by_cases Cr:bf z=bf (I J v.2.1 d)
  ·exact⟨_,List.mem_append.2 (.inl (lK.2 (.inl rfl))),by rw [aR,← Cr];exact jL,iz⟩
  ·exact⟨z,List.mem_append.2 (.inl (lK.2 (.inr ⟨hz,by rw [aR];exact Cr⟩))),jL,hz2⟩
 ·intro z hz;show 1≤bf z∧bf z≤gC v+1-1;rcases List.mem_append.1 hz with hz | hz
  ·have:=RG z hz;omega
  ·rw [List.mem_singleton.1 hz,Cs];omega
 ·intro z hz;rcases List.mem_append.1 hz with hz | hz
  ·rcases lK.1 hz with rfl | ⟨hz,_⟩
   ·exact apF
   ·exact(hm.ino z hz).to fun e _ h=>JA _ h
  ·rw [List.mem_singleton.1 hz];exact apG
 ·intro z hz hne;rcases List.mem_append.1 hz with hz | hz
  ·rcases lK.1 hz with rfl | ⟨hz,_⟩
   ·rw [aR] at hne ⊢;exact RI _ (c9 bj) hne
   ·exact RI z hz hne
  ·rw [List.mem_singleton.1 hz,Cs];by_cases h1:bf (I J v.2.1 d)=1
   ·exact .single (zv _ _ (h1 ▸ zu))
   ·exact .tail (RI _ (c9 bj) h1) (zv _ _ zu)
 ·intro z hz hne apI;show cA (S++[n]) (bf z)=1;rw [apH];rcases List.mem_append.1 hz with hz | hz
  ·have bO:=RG z hz;rw [bY (show v.1≠bf z by show gC v≠bf z;omega)];rcases lK.1 hz with rfl | ⟨hz,_⟩
   ·rw [aR] at hne ⊢;exact hm.once _ (c9 bj) hne iz
   ·exact hm.once z hz hne apI
  ·rw [List.mem_singleton.1 hz,Cs,show cA v.2.1 (gC v)=0 from apA hv.iZ ko,cK (show v.1=gC v from rfl)];rfl
theorem Cm.ok{v:ah.D}{c:aK.D}{x:aI.D}{w:ah.D}(hv:b4 v)(h:Cm v c x w):b4 w:=by obtain ⟨h0,h1,r,i,_,_,hi,rfl⟩:=h.out;have bj:=(b9 hi).1;have bS:=hv.ino i bj;exact hv.keep bj (y:=jD (I J v.2.1 i) (fi (I J v.2.1 i)) (bU x) (en x)) rfl rfl rfl ⟨bS.mode,h0,h1,bS.kind,bS.plain,bS.file,bS.oe,bS.dir,bS.names,bS.sorted⟩ (Jt hv bj _ _ _)
theorem Ju.ok{v:ah.D}{c:aK.D}{x:aI.D}{w:ah.D}(hv:b4 v)(h:Ju v c x w):b4 w:=by obtain ⟨h0,h1,_,r,i,_,_,hi,hk,rfl,hf⟩:=h.out;have bj:=(b9 hi).1;have bS:=hv.ino i bj;exact hv.keep bj (y:=ns (I J v.2.1 i) (bU x) (en x)) rfl rfl rfl ⟨bS.mode,bS.uid,bS.gid,bS.kind,fun dO=>absurd hk dO,bS.file,bS.oe,fun dO=>⟨(bS.dir dO).1,h0,h1,(bS.dir dO).2.2.2⟩,bS.names,bS.sorted⟩ hf
theorem apJ(s:aO)(a:Nat)(d:aO)(hs:s.length≤64)(h:a+d.length≤64):(lL s a d).length≤64:=by unfold lL;rw [List.length_append,List.length_append,qM,List.length_drop];omega
theorem zm.ok{v:ah.D}{c:aK.D}{x:aI.D}{w:ah.D}(hv:b4 v)(h:zm v c x w):b4 w:=by
 obtain ⟨r,i,_,_,hi,hk,jT,_,ha,_,h⟩:=h.out;have bj:=(b9 hi).1;have bS:=hv.ino i bj;have af:=hv.g_ bj;rcases h with⟨_,_,rfl⟩ | ⟨_,hle,rfl,hf⟩
 ·exact hv
 ·have hlen:(i' x (I J v.2.1 i)).length≤64:=by
   unfold i';split
   ·rename_i bJ;rw [qM];have:eH x (I J v.2.1 i)=bU x:=by unfold eH;rw [if_neg (by omega)]
    omega
   ·exact apJ _ _ _ af (by omega)
  exact hv.keep bj (y:=ou (I J v.2.1 i) (i' x (I J v.2.1 i))) rfl rfl rfl ⟨bS.mode,bS.uid,bS.gid,bS.kind,bS.plain,fun _=>hlen,fun h3=>absurd h3 jT,fun h2=>absurd h2 hk,bS.names,bS.sorted⟩ hf
theorem apK{m:Int}(h:0≤m)(h':m≤2047):0≤andNot m 1024∧andNot m 1024≤2047:=by
 obtain ⟨n,rfl⟩:∃n:Nat,m=(n:Int):=⟨m.toNat,by omega⟩
 unfold andNot;rw [show(1024:Int)=((1024:Nat):Int) from rfl,bits_nat];simp only;have h1:(BitVec.ofNat 64 n &&& ~~~BitVec.ofNat 64 1024).toNat≤n:=by rw [BitVec.toNat_and,BitVec.toNat_ofNat,Nat.mod_eq_of_lt (show n<2 ^ 64 by omega)];exact Nat.and_le_left
 rw [show IntKind.wrap .i64 (((BitVec.ofNat 64 n &&& ~~~BitVec.ofNat 64 1024).toNat:Nat):Int)=(((BitVec.ofNat 64 n &&& ~~~BitVec.ofNat 64 1024).toNat:Nat):Int) from fT (by omega) (by omega)];omega
theorem Cl.ok{v:ah.D}{c:aK.D}{x:aI.D}{w:ah.D}(hv:b4 v)(h:Cl v c x w):b4 w:=by
 obtain ⟨h0,h1,r,i,_,_,hi,jT,_,rfl⟩:=h.out;have bj:=(b9 hi).1;have bS:=hv.ino i bj
 have hm:0≤sa c x (I J v.2.1 i)∧sa c x (I J v.2.1 i)≤2047:=by
  unfold sa;split
  ·exact apK h0 h1
  ·exact⟨h0,h1⟩
 exact hv.keep bj (y:=jD (I J v.2.1 i) (sa c x (I J v.2.1 i)) (eK (I J v.2.1 i)) (fC (I J v.2.1 i))) rfl rfl rfl ⟨hm,bS.uid,bS.gid,bS.kind,bS.plain,bS.file,fun h3=>absurd h3 jT,bS.dir,bS.names,bS.sorted⟩ (Jt hv bj _ _ _)
open Classical in
noncomputable def q3(l:List aS)(id:Int):List aS:=l.filter fun x=>decide (dY l id (bf x))
theorem abT(l:List aS):l=(List.range l.length).map fun i=>I J l i:=by
 refine List.ext_getElem (by simp) fun i h1 h2=>?_
 rw [List.getElem_map,List.getElem_range,c2 h1]
open Classical in
theorem abU{l:List aS}(af:iX l)(id:Int):(pw l (eG l id)).map (fun i=>I J l i)=q3 l id:=by
 unfold q3
 conv=>rhs;rw [abT l]
 rw [List.filter_map];unfold pw;congr 1;refine List.filter_congr fun i hi=>?_
 have hi:=List.mem_range.1 hi;have h:=BW l af id hi;unfold T at h;have e:(I .bool (eG l id) i:Bool)=decide (dY l id (bf (I J l i))):=by rw [Bool.eq_iff_iff,decide_eq_true_iff];exact h
 rw [e];simp only [Function.comp];rw [← abT l]
theorem abV{l:List aS}(af:iX l)(id:Int):kb l (eG l id)=(q3 l id).length:=by rw [← abU af id,List.length_map];rfl
theorem abW{l:List aS}(af:iX l)(id:Int):jQ l (eG l id)=((q3 l id).map fun x=>(bX x).length).sum:=by rw [← abU af id,List.map_map];rfl
theorem apL{l:List aS} : jA l=false↔∀x,x∈l→jz l x=false:=by
 unfold jA;constructor
 ·intro h x hx;obtain ⟨i,hi,rfl⟩:=fA hx
  cases ha:fo l.length fun i=> !jz l (I J l i) with
  | true=>simpa using gZ.1 ha i hi
  | false=>rw [ha] at h;cases h
 ·intro h;rw [gZ.2 fun i hi=>by rw [h _ (c9 hi)];rfl];rfl
def prs(l:List aS):List (Int×Nat):=l.map fun x=>(bf x,(bX x).length)
open Classical in
noncomputable def Cu(l:List aS)(id:Int):List (Int×Nat):=(prs l).filter fun p=>decide (dY l id p.1)
open Classical in
theorem JB(l:List aS)(id:Int):(q3 l id).length=(Cu l id).length∧((q3 l id).map fun x=>(bX x).length).sum=((Cu l id).map fun p=>p.2).sum:=by
 have e:Cu l id=(q3 l id).map fun x=>(bf x,(bX x).length):=by unfold Cu q3 prs;rw [List.filter_map];rfl
 rw [e,List.length_map,List.map_map];exact⟨rfl,rfl⟩
theorem abX{α : Type}(f : α → Nat){k7 L:List α}(h:k7.Sublist L)(p q : α → Bool)(RJ:∀a,p a=true→q a=true):((k7.filter p).map f).sum≤((L.filter q).map f).sum:=by
 induction h with
 | slnil=>simp
 | cons a h ih=>
  rw [List.filter_cons (x:=a)];split
  ·rw [List.map_cons,List.sum_cons];omega
  ·exact ih
 | cons_cons a h ih=>
  rw [List.filter_cons,List.filter_cons];by_cases aw:p a=true
  ·rw [if_pos aw,if_pos (RJ a aw),List.map_cons,List.map_cons,List.sum_cons,List.sum_cons];omega
  ·rw [if_neg aw];split
   ·rw [List.map_cons,List.sum_cons];omega
   ·exact ih
theorem RK{α : Type} : ∀L:List α,(L.map fun _=>1).sum=L.length
 | []=>rfl
 | a :: L=>by rw [List.map_cons,List.sum_cons,RK L,List.length_cons];omega
theorem apM{α : Type}{k7 L:List α}(h:k7.Sublist L)(p q : α → Bool)(RJ:∀a,p a=true→q a=true):(k7.filter p).length≤(L.filter q).length:=by rw [← RK,← RK];exact abX (fun _=>1) h p q RJ
theorem apN{l l':List aS}(af:iX l)(jO:iX l')(hs:(prs l').Sublist (prs l))(hE:∀a b,dY l' a b→dY l a b)(id:Int):kb l' (eG l' id)≤kb l (eG l id)∧jQ l' (eG l' id)≤jQ l (eG l id):=by rw [abV af,abV jO,abW af,abW jO,(JB l id).1,(JB l id).2,(JB l' id).1,(JB l' id).2];unfold Cu;exact⟨apM hs _ _ fun a h=>by simp only [decide_eq_true_iff] at h ⊢;exact hE _ _ h,abX _ hs _ _ fun a h=>by simp only [decide_eq_true_iff] at h ⊢;exact hE _ _ h⟩
theorem apO{l l':List aS}(af:iX l)(jO:iX l')(hs:(prs l').Sublist (prs l))(hE:∀a b,dY l' a b→dY l a b)
  (hm:∀bz,bz∈l'→∃x,x∈l∧bf x=bf bz∧fQ x=fQ bz∧fB x=fB bz) (h:jA l=false):jA l'=false:=by
 rw [apL] at h ⊢;intro bz lu;obtain ⟨x,hx,h1,h2,h3⟩:=hm bz lu;have h0:=h x hx;have hu:=apN af jO hs hE (bf bz);unfold jz at h0 ⊢;have e:x.1=bz.1:=h1;rw [Bool.or_eq_false_iff,Bool.and_eq_false_iff,Bool.and_eq_false_iff,decide_eq_false_iff_not,decide_eq_false_iff_not,decide_eq_false_iff_not,decide_eq_false_iff_not] at h0 ⊢;rw [e,h2,h3] at h0;have x0:kb l' (eG l' bz.1)≤kb l (eG l bz.1):=hu.1;have sW:jQ l' (eG l' bz.1)≤jQ l (eG l bz.1):=hu.2;refine⟨h0.1.imp id fun h=>by omega,h0.2.imp id fun h=>by omega⟩
theorem apP{l:List aS}{p:aS→Bool}(b:Int)(h:∀x,x∈l→p x=false→ay x=[]):cA (l.filter p) b=cA l b:=by
 unfold cA
 induction l with
 | nil=>rfl
 | cons x l ih=>
  have ih:=ih fun y aR=>h y (List.mem_cons_of_mem _ aR)
  rw [List.filter_cons]
  cases aw:p x with
  | true=>rw [if_pos rfl,List.map_cons,List.map_cons,List.sum_cons,List.sum_cons,ih]
  | false=>rw [if_neg (by decide),List.map_cons,List.sum_cons,ih,h x List.mem_cons_self aw];simp [dB]
theorem apQ{l:List aS}{i:Nat}(hi:i<l.length){y:aS}(h1:bf y=bf (I J l i))(h2:bX y=bX (I J l i)):prs (l.set i y)=prs l:=by
 unfold prs;rw [List.map_set,h1,h2,c2 hi];refine List.ext_getElem (by simp) fun j a b=>?_
 rw [List.getElem_set];split
 ·rename_i h;subst h;rw [List.getElem_map]
 ·rfl
theorem apR{l:List aS}{b:Int}(h:cA l b≠0):∃x,x∈l∧∃d,d∈ay x∧d.2.1=b:=by refine Decidable.byContradiction fun hn=>h (abP fun x hx d af he=>hn ⟨x,hx,d,af,he⟩)
theorem abY{v:ah.D}(hv:b4 v){i:Nat}(hi:i<v.2.1.length){s:aO}{k:Int}(om:dR (ay (I J v.2.1 i)) s=k)(hk0:k≠0){j:Nat}(hj:bC v.2.1 k=some j)(he:ay (I J v.2.1 j)=[]):b4 (k8 v i s):=by
 have hm:=nu.1 hv;have af:=lN hm.kJ;have hjl:=b9 hj;have qN:=c9 (t:=J) hi;have RL:=c9 (t:=J) hjl.1;have bS:=hm.ino _ qN;obtain ⟨d,ue,JC,gn⟩:=r4 (N:=ay (I J v.2.1 i)) (s:=s) (by rw [om];exact hk0);rw [om] at gn;have hk1:k≠1:=gn ▸ (bS.names d ue).2.1;have l8:bf (I J v.2.1 j)=k:=hjl.2;have jc:bf (I J v.2.1 i)≠k:=by intro h;have:=nv af qN RL (h.trans l8.symm);rw [this,he] at ue;cases ue
 have aR:bf (ca (I J v.2.1 i) (cn (ay (I J v.2.1 i)) s))=bf (I J v.2.1 i):=t_ _ _;have hr1:=xa hm.kJ hi aR;have JD:=fun {x:aS}=> mem_set (x:=x) af hi aR
 have apS:∀b,¬E v.2.1 k b:=by intro b h;obtain ⟨x,hx,apT,e,hex,_⟩:=(iD af).1 h;have:=nv af hx RL (apT.trans l8.symm);rw [this,he] at hex;cases hex
 have apU:∀b,cA (v.2.1.set i (ca (I J v.2.1 i) (cn (ay (I J v.2.1 i)) s))) b+cond (k==b) 1 0=cA v.2.1 b:=by intro b;have h1:=Jy (y:=ca (I J v.2.1 i) (cn (ay (I J v.2.1 i)) s)) hi b;have h2:=RB bS.sorted ue b;rw [kE] at h1;rw [JC,gn] at h2;omega
 have abZ:prs (v.2.1.set i (ca (I J v.2.1 i) (cn (ay (I J v.2.1 i)) s)))=prs v.2.1:=apQ hi aR rfl;have apV:bytesOf (v.2.1.set i (ca (I J v.2.1 i) (cn (ay (I J v.2.1 i)) s)))=bytesOf v.2.1:=by have h:=aaZ (y:=ca (I J v.2.1 i) (cn (ay (I J v.2.1 i)) s)) hi;rw [show bX (ca (I J v.2.1 i) (cn (ay (I J v.2.1 i)) s))=bX (I J v.2.1 i) from rfl] at h;omega
 have l7:∀x,x∈v.2.1.set i (ca (I J v.2.1 i) (cn (ay (I J v.2.1 i)) s))→∃bz,bz∈v.2.1∧bf bz=bf x∧kindOf bz=kindOf x∧fQ bz=fQ x∧fB bz=fB x∧(∀e,e∈ay x→e∈ay bz)∧(bf x=k→ay x=[]):=by
  intro x hx;rcases JD.1 hx with rfl | ⟨hx,hne⟩
  ·exact⟨_,qN,rfl,rfl,rfl,rfl,fun e h=>tX h,fun h=>absurd (aR ▸ h) jc⟩
  ·exact⟨x,hx,rfl,rfl,rfl,rfl,fun e h=>h,fun h=>by rw [nv af hx RL (h.trans l8.symm)];exact he⟩
 have RM:∀x,x∈v.2.1→∃bz,bz∈v.2.1.set i (ca (I J v.2.1 i) (cn (ay (I J v.2.1 i)) s))∧bf bz=bf x∧kindOf bz=kindOf x∧∀e,e∈ay x→e.2.1≠k→e∈ay bz:=by
  intro x hx;by_cases hR:bf x=bf (I J v.2.1 i)
  ·have lu:=nv af hx qN hR;subst lu;refine⟨_,JD.2 (.inl rfl),aR,rfl,fun e h RN=>List.mem_filter.2 ⟨h,?_⟩⟩;have:e.1≠s:=fun h1=>RN (by rw [← Jo bS.sorted h,h1,om])
   unfold bw;simp [this]
  ·exact⟨x,JD.2 (.inr ⟨hx,by rw [aR];exact hR⟩),rfl,rfl,fun e h _=>h⟩
 have apW:∀x,x∈v.2.1.set i (ca (I J v.2.1 i) (cn (ay (I J v.2.1 i)) s))→lJ v.2.1 x:=by
  intro x hx;rcases JD.1 hx with rfl | ⟨hx,hne⟩
  ·exact⟨bS.mode,bS.uid,bS.gid,bS.kind,fun h=>⟨(bS.plain h).1,(bS.plain h).2.1,by
    show cn _ s=[]
    rw [(bS.plain h).2.2];rfl⟩,bS.file,bS.oe,fun h=>⟨(bS.dir h).1,(bS.dir h).2.1,(bS.dir h).2.2.1,Nat.le_trans (w4 _ _) (bS.dir h).2.2.2⟩,fun e h=>bS.names e (tX h),w8 bS.sorted s⟩
  ·exact hm.ino x hx
 show b4 (v.1,goN (v.2.1.set i (ca (I J v.2.1 i) (cn (ay (I J v.2.1 i)) s))) (dR (ay (I J v.2.1 i)) s),());rw [om];generalize v.2.1.set i (ca (I J v.2.1 i) (cn (ay (I J v.2.1 i)) s))=S at *;have gv:=lN hr1
 have kU:∀x,x∈goN S k↔x∈S∧(cA S k=0→bf x≠k):=by
  intro x;unfold goN;by_cases h0:cA S k=0
  ·rw [decide_eq_true h0];simp only [cond_true,List.mem_filter,Bool.not_eq_true',beq_eq_false_iff_ne];exact⟨fun h=>⟨h.1,fun _=>h.2⟩,fun h=>⟨h.1,h.2 h0⟩⟩
  ·rw [decide_eq_false h0];exact⟨fun h=>⟨h,fun h1=>absurd h1 h0⟩,fun h=>h.1⟩
 have lp:(goN S k).Sublist S:=by
  unfold goN;cases decide (cA S k=0)
  ·exact List.Sublist.refl _
  ·exact List.filter_sublist
 have gR:=hr1.sublist lp;have iQ:=lN gR;have apX:∀a b,E (goN S k) a b→E v.2.1 a b:=by intro a b h;obtain ⟨x,hx,jW,e,hex,nw⟩:=(iD iQ).1 h;obtain ⟨bz,h1,h2,_,_,_,h3,_⟩:=l7 x ((kU x).1 hx).1;exact(iD af).2 ⟨bz,h1,h2.trans jW,e,h3 e hex,nw⟩
 have zv:∀a b,E S a b→E (goN S k) a b:=by intro a b h;obtain ⟨x,hx,jW,e,hex,nw⟩:=(iD gv).1 h;refine(iD iQ).2 ⟨x,(kU x).2 ⟨hx,fun _ hk=>?_⟩,jW,e,hex,nw⟩;obtain ⟨_,_,_,_,_,_,_,iO⟩:=l7 x hx;rw [iO hk] at hex;cases hex
 have ab0:∀a b,b≠k→E v.2.1 a b→E (goN S k) a b:=by intro a b hb h;obtain ⟨x,hx,jW,e,hex,nw⟩:=(iD af).1 h;obtain ⟨bz,h1,h2,_,h3⟩:=RM x hx;exact zv a b ((iD gv).2 ⟨bz,h1,h2.trans jW,e,h3 e hex (nw ▸ hb),nw⟩)
 have hC:∀b,dY v.2.1 1 b→b≠k→dY (goN S k) 1 b:=by
  intro b h
  induction h with
  | single h=>exact fun hb=>.single (ab0 _ _ hb h)
  | tail h1 h2 ih=>exact fun hb=>.tail (ih fun h=>apS _ (h ▸ h2)) (ab0 _ _ hb h2)
 have apY:∀b,cA (goN S k) b=cA S b:=by
  intro b;unfold goN;cases decide (cA S k=0)
  ·rfl
  ·refine apP b fun x hx aw=>?_
   obtain ⟨_,_,_,_,_,_,_,iO⟩:=l7 x hx;have e:x.1=k:=by simpa using aw
   exact iO e
 have JA:∀x,x∈goN S k→∀e,e∈ay x→(bC v.2.1 e.2.1).isSome=true→(bC (goN S k) e.2.1).isSome=true:=by intro x hx e hex hs;obtain ⟨y,aR,y'⟩:=oj.1 hs;obtain ⟨mC,h1,h2,_,_⟩:=RM y aR;refine oj.2 ⟨mC,(kU mC).2 ⟨h1,fun h0 hk=>?_⟩,h2.trans y'⟩;refine Q1 h0 x ((kU x).1 hx).1 e hex ?_;exact y'.symm.trans (h2.symm.trans hk)
 refine nu.2 ⟨hm.next,Nat.le_trans lp.length_le ?_,gR,?_,?_,?_,?_,?_,?_,?_⟩
 ·have:=congrArg List.length abZ;unfold prs at this;rw [List.length_map,List.length_map] at this;rw [this];exact hm.len
 ·obtain ⟨z,hz,jL,hz2⟩:=hm.root;obtain ⟨hH,h1,h2,h3,_⟩:=RM z hz;exact⟨hH,(kU hH).2 ⟨h1,fun _ h=>hk1 (h.symm.trans (h2.trans jL))⟩,h2.trans jL,h3.trans hz2⟩
 ·intro x hx;obtain ⟨bz,h1,h2,_⟩:=l7 x ((kU x).1 hx).1;rw [← h2];exact hm.ids bz h1
 ·intro x hx;exact(apW x ((kU x).1 hx).1).to fun e hex h=>JA x hx e hex h
 ·intro x hx hne;obtain ⟨bz,h1,h2,_⟩:=l7 x ((kU x).1 hx).1;by_cases hk:bf x=k
  ·have h0:cA S k≠0:=fun h0=>((kU x).1 hx).2 h0 hk
   obtain ⟨z,hz,e,RO,RN⟩:=apR h0;have ab1:E (goN S k) (bf z) k:=zv _ _ ((iD gv).2 ⟨z,hz,rfl,e,RO,RN⟩);obtain ⟨hH,g1,g2,_,_,_,_,g9⟩:=l7 z hz;rw [hk];by_cases jL:bf z=1
   ·exact .single (jL ▸ ab1)
   ·refine .tail (hC _ (g2 ▸ hm.reach hH g1 (by rw [g2];exact jL)) fun h=>?_) ab1;rw [g9 h] at RO;cases RO
  ·exact hC _ (h2 ▸ hm.reach bz h1 (by rw [h2];exact hne)) hk
 ·intro x hx hne apZ;obtain ⟨bz,h1,h2,h3,_⟩:=l7 x ((kU x).1 hx).1;have ho:=hm.once bz h1 (by rw [h2];exact hne) (h3.trans apZ);have hn:=apU (bf x);rw [h2] at ho;show cA (goN S k) (bf x)=1;rw [apY];by_cases hk:bf x=k
  ·exfalso;rw [cK hk.symm] at hn;simp only [cond_true] at hn;exact((kU x).1 hx).2 (by rw [← hk];omega) hk
  ·rw [bY (fun h=>hk h.symm)] at hn;simp only [cond_false] at hn;omega
 ·refine Nat.le_trans ?_ (apV ▸ hm.bytes);unfold goN;cases decide (cA S k=0)
  ·exact Nat.le_refl _
  ·exact Jh _ _ S
 ·refine apO af iQ ?_ (fun a b h=>zs apX h) (fun x hx=>?_) hm.over
  ·rw [← abZ];exact lp.map _
  ·obtain ⟨bz,h1,h2,_,h4,a7,_⟩:=l7 x ((kU x).1 hx).1;exact⟨bz,h1,h2,h4,a7⟩
theorem Cf.ok{v:ah.D}{c:aK.D}{x:aI.D}{w:ah.D}(hv:b4 v)(h:Cf v c x w):b4 w:=by obtain ⟨r,i,j,hr,hc,hn,hi,_,hl,hj,he,_,_,rfl⟩:=h.out;exact abY hv (b9 hi).1 hl (hr.named hc hn).1 hj he
theorem ab2{u:ah.D}(hu:b4 u){rd jU:Int}{ir it:Nat}{cJ tn:aO}{bF:Int}(h:tY u.2.1 rd jU ir it cJ tn bF)(htn:ni tn=true)(hlen:rd≠jU→(ay (I J u.2.1 it)).length<12)
  (hb:∀j,bC u.2.1 bF=some j→kindOf (I J u.2.1 j)=2→jU≠bF∧¬dY u.2.1 bF jU) (hf:fa (eX u.2.1 ir cJ it tn bF)=0):b4 (u.1,eX u.2.1 ir cJ it tn bF,()):=by
 have hm:=nu.1 hu;have af:=lN hm.kJ;have xb:=b9 h.hr;have Cv:=b9 h.ht;have oq:=c9 (t:=J) xb.1;have bS:=hm.ino _ oq;have ap0:bf (I J u.2.1 ir)=rd:=xb.2;have zw:bf (I J u.2.1 it)=jU:=Cv.2;obtain ⟨j,hj⟩:=Option.isSome_iff_exists.1 h.ex;have hjl:=b9 hj;have ab3:bf (I J u.2.1 j)=bF:=hjl.2;obtain ⟨d,ue,JC,gn⟩:=r4 (N:=ay (I J u.2.1 ir)) (s:=cJ) (by rw [h.look];exact h.abe);rw [h.look] at gn;have ap1:bF≠1:=gn ▸ (bS.names d ue).2.1;have zx:bf (ca (I J u.2.1 ir) (cn (ay (I J u.2.1 ir)) cJ))=bf (I J u.2.1 ir):=t_ _ _;have zy:=fun {x:aS}=> mem_set (x:=x) af xb.1 zx
 have hr1:(dI u.2.1 ir cJ).Pairwise fun a b=>bf a<bf b:=xa hm.kJ xb.1 zx
 have gv:=lN hr1;have Cw:∀id,bC (dI u.2.1 ir cJ) id=bC u.2.1 id:=fun id=>Rf xb.1 id
 have hl1:(dI u.2.1 ir cJ).length=u.2.1.length:=List.length_set;have zz:it<(dI u.2.1 ir cJ).length:=by rw [hl1];exact Cv.1
 have ap2:∀b,cA (dI u.2.1 ir cJ) b+cond (bF==b) 1 0=cA u.2.1 b:=by intro b;have h1:=Jy (y:=ca (I J u.2.1 ir) (cn (ay (I J u.2.1 ir)) cJ)) xb.1 b;have h2:=RB bS.sorted ue b;rw [kE] at h1;rw [JC,gn] at h2;show cA (List.set _ _ _) b+_=_;omega
 have ab4:∀x,x∈dI u.2.1 ir cJ→lJ (dI u.2.1 ir cJ) x:=by
  intro x hx;rcases zy.1 hx with rfl | ⟨hx,hne⟩
  ·exact⟨bS.mode,bS.uid,bS.gid,bS.kind,fun hk=>absurd h.tZ hk,bS.file,bS.oe,fun hk=>⟨(bS.dir hk).1,(bS.dir hk).2.1,(bS.dir hk).2.2.1,Nat.le_trans (w4 _ _) (bS.dir hk).2.2.2⟩,fun e he=>by rw [Cw];exact bS.names e (tX he),w8 bS.sorted cJ⟩
  ·exact(hm.ino x hx).to fun e _ hs=>by rw [Cw];exact hs
 have RF:∀a b,b≠bF→E u.2.1 a b→E (dI u.2.1 ir cJ) a b:=by
  intro a b dM hE;obtain ⟨x,hx,jW,e,hex,nw⟩:=(iD af).1 hE;by_cases hR:bf x=bf (I J u.2.1 ir)
  ·have lu:=nv af hx oq hR;subst lu;refine(iD gv).2 ⟨_,zy.2 (.inl rfl),zx.trans jW,e,List.mem_filter.2 ⟨hex,?_⟩,nw⟩;have:e.1≠cJ:=fun h1=>dM (by rw [← nw,← Jo bS.sorted hex,h1,h.look])
   unfold bw;simp [this]
  ·exact(iD gv).2 ⟨x,zy.2 (.inr ⟨hx,by rw [zx];exact hR⟩),jW,e,hex,nw⟩
 have ap3:∀x,x∈u.2.1→∃bz,bz∈dI u.2.1 ir cJ∧bf bz=bf x∧kindOf bz=kindOf x:=by
  intro x hx;by_cases hR:bf x=bf (I J u.2.1 ir)
  ·exact⟨_,zy.2 (.inl rfl),zx.trans hR.symm,by rw [nv af hx oq hR];rfl⟩
  ·exact⟨x,zy.2 (.inr ⟨hx,by rw [zx];exact hR⟩),rfl,rfl⟩
 have ab5:∀x,x∈dI u.2.1 ir cJ→∃bz,bz∈u.2.1∧bf bz=bf x∧kindOf bz=kindOf x:=by
  intro x hx;rcases zy.1 hx with rfl | ⟨hx,hne⟩
  ·exact⟨_,oq,rfl,rfl⟩
  ·exact⟨x,hx,rfl,rfl⟩
 have ot:kindOf (I J (dI u.2.1 ir cJ) it)=2∧(ay (I J (dI u.2.1 ir cJ) it)).length<12∧(∀e,e∈ay (I J (dI u.2.1 ir cJ) it)→e.1≠tn)∧bf (I J (dI u.2.1 ir cJ) it)=jU:=by
  unfold dI;rw [jC xb.1];by_cases hii:ir=it
  ·subst hii;rw [if_pos rfl];refine⟨h.tZ,?_,fun e he=>h.no e (tX he),zw⟩;show(cn (ay (I J u.2.1 ir)) cJ).length<12;have j4:=(bS.dir h.tZ).2.2.2;have:(cn (ay (I J u.2.1 ir)) cJ).length<(ay (I J u.2.1 ir)).length:=by unfold cn;refine List.length_filter_lt_length_iff_exists.2 ⟨d,ue,?_⟩;unfold bw;simp [JC]
   omega
  ·rw [if_neg hii];refine⟨h.Re,hlen fun he=>hii ?_,h.no,zw⟩;have:=nv af oq (c9 Cv.1) (by rw [ap0,zw];exact he);have e1:=h.hr;rw [he,h.ht] at e1;exact(aW e1).symm
 have RP:=c9 (t:=J) zz;have Cx:bf (ca (I J (dI u.2.1 ir cJ) it) (ins (ay (I J (dI u.2.1 ir cJ) it)) tn bF))=bf (I J (dI u.2.1 ir cJ) it):=t_ _ _;have JE:=fun {x:aS}=> mem_set (x:=x) gv zz Cx
 have gR:(eX u.2.1 ir cJ it tn bF).Pairwise fun a b=>bf a<bf b:=xa hr1 zz Cx
 obtain ⟨zu,Cy⟩:=RC hr1 zz tn bF;rw [ot.2.2.2] at Cy;have zu:∀a b,E (dI u.2.1 ir cJ) a b→E (eX u.2.1 ir cJ it tn bF) a b:=zu
 have Cy:E (eX u.2.1 ir cJ it tn bF) jU bF:=Cy;have RQ:∀id,bC (eX u.2.1 ir cJ it tn bF) id=bC u.2.1 id:=fun id=>(abf zz id).trans (Cw id)
 have ap4:∀b,cA (eX u.2.1 ir cJ it tn bF) b=cA u.2.1 b:=by intro b;have h1:cA (eX u.2.1 ir cJ it tn bF) b=cA (dI u.2.1 ir cJ) b+cond (bF==b) 1 0:=RD zz tn bF b;have h2:=ap2 b;omega
 have ap5:∀x,x∈u.2.1→∃bz,bz∈eX u.2.1 ir cJ it tn bF∧bf bz=bf x∧kindOf bz=kindOf x:=by
  intro x hx;obtain ⟨U,a1,a2,a3⟩:=ap3 x hx;by_cases hR:bf U=bf (I J (dI u.2.1 ir cJ) it)
  ·exact⟨_,JE.2 (.inl rfl),Cx.trans (hR.symm.trans a2),by rw [← a3,nv gv a1 RP hR];rfl⟩
  ·exact⟨U,JE.2 (.inr ⟨a1,by rw [Cx];exact hR⟩),a2,a3⟩
 have hbk:∀x,x∈eX u.2.1 ir cJ it tn bF→∃bz,bz∈u.2.1∧bf bz=bf x∧kindOf bz=kindOf x:=by
  intro x hx;rcases JE.1 hx with rfl | ⟨hx,hne⟩
  ·obtain ⟨bz,a1,a2,a3⟩:=ab5 _ RP;exact⟨bz,a1,a2.trans Cx.symm,a3⟩
  ·exact ab5 x hx
 have hE:∀a b,b≠bF→E u.2.1 a b→E (eX u.2.1 ir cJ it tn bF) a b:=fun a b dM he=>zu a b (RF a b dM he)
 have ab6:jU≠bF∧¬dY u.2.1 bF jU:=by
  by_cases hk:kindOf (I J u.2.1 j)=2
  ·exact hb j hj hk
  ·have ap6:∀b,¬E u.2.1 bF b:=by
    intro b he;obtain ⟨x,hx,jW,e,hex,_⟩:=(iD af).1 he;rw [nv af hx (c9 hjl.1) (jW.trans ab3.symm),((hm.ino _ (c9 hjl.1)).plain hk).2.2] at hex;cases hex
   refine⟨fun he=>hk ?_,fun hC=>?_⟩
   ·rw [← nv af (c9 Cv.1) (c9 hjl.1) (by rw [zw,ab3];exact he)];exact h.Re
   ·have:∀c,dY u.2.1 bF c→False:=by
     intro c hc
     induction hc with
     | single h=>exact ap6 _ h
     | tail _ _ ih=>exact ih
    exact this _ hC
 have uX:∀c,dY u.2.1 1 c→c≠bF→¬dY u.2.1 bF c→dY (eX u.2.1 ir cJ it tn bF) 1 c:=by
  intro c hc
  induction hc with
  | single h1=>exact fun hne _=>.single (hE _ _ hne h1)
  | tail h1 h2 ih=>exact fun hne mP=>.tail (ih (fun he=>mP (.single (he ▸ h2))) fun hC=>mP (.tail hC h2)) (hE _ _ hne h2)
 have ab7:dY (eX u.2.1 ir cJ it tn bF) 1 bF:=by
  by_cases h1:jU=1
  ·exact .single (h1 ▸ Cy)
  ·refine .tail (uX jU ?_ ab6.1 ab6.2) Cy;have:=hm.reach _ (c9 Cv.1) (by rw [zw];exact h1);rwa [zw] at this
 have hA:∀c,dY u.2.1 1 c→dY (eX u.2.1 ir cJ it tn bF) 1 c:=by
  intro c hc
  induction hc with
  | @single b h1=>
   by_cases Cz:b=bF
   ·rw [Cz];exact ab7
   ·exact .single (hE _ _ Cz h1)
  | @tail b c h1 h2 ih=>
   by_cases Cz:c=bF
   ·rw [Cz];exact ab7
   ·exact .tail ih (hE _ _ Cz h2)
 have kV:=Jz.1 hf;refine nu.2 ⟨hm.next,?_,gR,?_,?_,?_,?_,?_,kV.1,kV.2⟩
 ·show(List.set _ _ _).length≤24;rw [List.length_set,hl1];exact hm.len
 ·obtain ⟨z,hz,jL,hz2⟩:=hm.root;obtain ⟨hH,a1,a2,a3⟩:=ap5 z hz;exact⟨hH,a1,a2.trans jL,a3.trans hz2⟩
 ·intro x hx;obtain ⟨bz,a1,a2,a3⟩:=hbk x hx;rw [← a2];exact hm.ids bz a1
 ·intro x hx;rcases JE.1 hx with rfl | ⟨hx,hne⟩
  ·refine(ab4 _ RP).named (l':=eX u.2.1 ir cJ it tn bF) (fun id hs=>?_) ot.1 htn ap1 (by rw [RQ];exact h.ex) ot.2.1 ot.2.2.1;rw [RQ];rwa [Cw] at hs
  ·refine(ab4 x hx).to fun e _ hs=>?_
   show(bC (eX u.2.1 ir cJ it tn bF) e.2.1).isSome=true;rw [RQ];rwa [Cw] at hs
 ·intro x hx hne;obtain ⟨bz,a1,a2,a3⟩:=hbk x hx;rw [← a2];exact hA _ (hm.reach bz a1 (by rw [a2];exact hne))
 ·intro x hx hne hk;obtain ⟨bz,a1,a2,a3⟩:=hbk x hx;show cA (eX u.2.1 ir cJ it tn bF) (bf x)=1;rw [ap4,← a2];exact hm.once bz a1 (by rw [a2];exact hne) (a3.trans hk)
theorem ap7{v:ah.D}{s:aO}(hv:b4 v){i:Nat}(hi:i<v.2.1.length)(hw:b4 (k8 v i s))(a b:Int)(h:E (k8 v i s).2.1 a b):E v.2.1 a b:=by
 have hm:=nu.1 hv;have af:=lN hm.kJ;have iQ:=lN (nu.1 hw).kJ;have aR:bf (ca (I J v.2.1 i) (cn (ay (I J v.2.1 i)) s))=bf (I J v.2.1 i):=t_ _ _;obtain ⟨x,hx,jW,e,hex,nw⟩:=(iD iQ).1 h
 have lp:x∈v.2.1.set i (ca (I J v.2.1 i) (cn (ay (I J v.2.1 i)) s)):=by
  unfold k8 goN at hx
  cases hc:decide (cA (v.2.1.set i (ca (I J v.2.1 i) (cn (ay (I J v.2.1 i)) s))) (dR (ay (I J v.2.1 i)) s)=0) with
  | true=>rw [hc] at hx;exact(List.mem_filter.1 hx).1
  | false=>rw [hc] at hx;exact hx
 rcases (mem_set af hi aR).1 lp with rfl | ⟨hx,_⟩
 ·exact(iD af).2 ⟨_,c9 hi,aR.symm.trans jW,e,tX hex,nw⟩
 ·exact(iD af).2 ⟨x,hx,jW,e,hex,nw⟩
theorem zl.ok{v:ah.D}{c:aK.D}{x:aI.D}{w:ah.D}(hv:b4 v)(h:zl v c x w):b4 w:=by
 obtain ⟨r,t,j,hr,hc,qK,hj,ht,htn,r',_,h⟩:=h.out
 have ju:ni (nameOf t)=true:=by
  rcases r' with h0 | h2
  ·exact(ht.named h0 htn).2.1
  ·exact(ht.new h2 htn).2.1
 rcases h with⟨_,rfl⟩ | ⟨hne,mP,l,ir,it,aw,rfl,hf,h⟩
 ·exact hv
 rcases h with⟨_,rfl,hlen⟩ | ⟨i2,e8,gw,hk2,ma,ri,d',hkk,rfl⟩
 ·refine ab2 hv aw ju hlen (fun ln hj' hk=>?_) hf;obtain rfl:ln=j:=aW (hj'.symm.trans hj);exact mP hk
 ·have w1:=b9 gw;have pB:bx t≠0:=by have:=hv.aa5 (c9 (b9 ma).1);have e:bf (I J v.2.1 e8)=bx t:=(b9 ma).2;omega
  have hu:=abY hv w1.1 d' pB ma ri;obtain ⟨_,iu⟩:=abk hv w1.1 hk2 (nameOf t);have hE:=fun a b=>ap7 (s:=nameOf t) hv w1.1 hu a b
  have jG:(ay (I J (k8 v i2 (nameOf t)).2.1 it)).length<12:=by
   have kG:cq t≠dR (ay (I J v.2.1 i2)) (nameOf t):=by rw [d'];intro e;rw [← e,gw] at ma;rw [← aW ma] at ri;obtain ⟨d,gv,_⟩:=r4 (N:=ay (I J v.2.1 i2)) (s:=nameOf t) (by rw [d'];exact pB);rw [ri] at gv;cases gv
   obtain ⟨k',dO,aC⟩:=iu (cq t) kG i2 gw;obtain rfl:k'=it:=aW (dO.symm.trans aw.ht);rw [aC,if_pos rfl,kE];have j4:=((hv.ino i2 w1.1).dir hk2).2.2.2;obtain ⟨d,gv,iQ,_⟩:=r4 (N:=ay (I J v.2.1 i2)) (s:=nameOf t) (by rw [d'];exact pB);have:(cn (ay (I J v.2.1 i2)) (nameOf t)).length<(ay (I J v.2.1 i2)).length:=by unfold cn;refine List.length_filter_lt_length_iff_exists.2 ⟨d,gv,?_⟩;unfold bw;simp [iQ]
   omega
  refine ab2 hu aw ju (fun _=>jG) (fun ln hj' hk=>?_) hf;have ap8:bx r≠dR (ay (I J v.2.1 i2)) (nameOf t):=by rw [d'];exact fun e=>hne e.symm
  obtain ⟨k',dO,aC⟩:=iu (bx r) ap8 j hj;obtain rfl:k'=ln:=aW (dO.symm.trans hj')
  have qB:kindOf (I J v.2.1 j)=2:=by
   rw [aC] at hk;split at hk
   ·rename_i e;subst e;exact hk
   ·exact hk
  exact⟨(mP qB).1,fun hC=>(mP qB).2 (zs hE hC)⟩
theorem sc.ok{v:ah.D}{c:aK.D}{x:aI.D}{w:ah.D}(hv:b4 v)(hc:dQ c=true)(hx:iC x)(h:sc v c x w):b4 w:=by
 rcases h with⟨hk,h⟩ | ⟨_,h⟩ | ⟨_,h⟩ | ⟨_,h⟩ | ⟨_,h⟩ | ⟨_,h⟩ | ⟨_,h⟩ | ⟨_,h⟩ | ⟨_,h⟩
 ·exact h.ok hv hc hx hk
 ·exact h.ok hv
 ·exact h.ok hv hx
 ·exact h.ok hv
 ·exact h.ok hv
 ·exact h.ok hv
 ·exact h.ok hv
 ·exact h.ok hv
 ·rw [h];exact hv
theorem zr.ok{v:ah.D}{c:aK.D}{x:aI.D}{w:ah.D}{k:Int}{t:aO}(h:zr v c x w k t)(hv:k4 v=true):k4 w=true:=by
 have h0:w=v→k4 w=true:=fun e=>by rw [e];exact hv
 cases hc:dQ c with
 | false=>exact h0 (h.abL hv hc).1
 | true=>
 cases hcall:eZ x with
 | false=>exact h0 (h.call hv hc (.inl hcall)).1
 | true=>
 by_cases jV:20<aD x
 ·exact h0 (h.call hv hc (.inr jV)).1
 by_cases hk:k=0
 ·exact I7.2 ((h.done hv hc hcall (by omega) hk).ok (I7.1 hv) hc (r8.1 hcall))
 ·exact h0 (h.no hv hk)
end Go.LM.j7
