/- Tellings, the call as a whole; a right volume stays right. Conditions: each theorem's own hypotheses. -/
import Derived.Test.YtklmgcjamifmaaaGreatDoorNVd
set_option linter.unusedVariables false
set_option linter.unusedSimpArgs false
namespace Go.LM.kc
def lH(a:Int):aF:=gp [IntKind.wrap .u8 (aG (48+a))]
theorem qW(a:Int):(lH a).length=1:=rfl
def kR(x:Int):Int:=if Int.tmod x 10<0 then -(Int.tmod x 10) else Int.tmod x 10
def sv(b:Bool)(t:aF):aF:=cond b ([45]++t) t
theorem Wj(m:Nat)(x:Int)(t:aF)(b:Bool):pc (m+1) x t b=y1 (pc m) x t b:=rfl
theorem ah1(m:Nat)(y:Int)(t:aF)(x:Int):(mj (m+1)).bh y t x=K4 (mj m) y t x:=rfl
theorem ah2(m:Nat)(y:Int)(t:aF)(x a:Int):(mj (m+1)).dj y t x a=K5 (mj m) y t x a:=rfl
theorem Nq(x:Int):(-9≤Int.tmod x 10∧Int.tmod x 10≤9)∧(0≤x→0≤Int.tmod x 10)∧(x≤0→Int.tmod x 10≤0):=by
 have h1:=Int.tmod_lt_of_pos x (show(0:Int)<10 by decide)
 have h2:=Int.lt_tmod_of_pos x (show(0:Int)<10 by decide)
 refine⟨by omega,fun h=>Int.tmod_nonneg _ h,fun h=>?_⟩
 have h3:0≤Int.tmod (-x) 10:=Int.tmod_nonneg _ (by omega)
 rw [Int.neg_tmod] at h3
 omega
theorem Nr(x:Int):10*Int.tdiv x 10+Int.tmod x 10=x:=Int.mul_tdiv_add_tmod x 10
theorem Wk(neg:Bool)(t:aF)(h:t.length≤1000) :
  cond neg (cond (room (([45]:aF).length+t.length)) (some (([45]:aF)++t,())) none) (some (t,()))=some (sv neg t,()):=by
 rw [cG (by simp;omega)]
 cases neg <;> rfl
theorem ah3(m:Nat)(t:aF)(neg:Bool)(h:t.length≤1000):pc (m+1) 0 t neg=some (sv neg t,()):=by
 rw [Wj]
 unfold y1
 rw [show((0:Int) != 0)=false from rfl]
 simp only [cond_false]
 exact Wk neg t h
theorem Wl(m:Nat)(x:Int)(t:aF)(neg:Bool)(hx:x≠0)(h:t.length≤1000)(hb : -4000000000000000000≤x∧x≤4000000000000000000):pc (m+1) x t neg=pc m (Int.tdiv x 10) (lH (kR x)++t) neg:=by
 have h1:=Nq x
 have h2:=Nr x
 rw [Wj]
 unfold y1
 rw [cY hx]
 simp only [cond_true]
 rw [dD (a:=Int.tdiv x 10) (by omega) (by omega)]
 by_cases hn:Int.tmod x 10<0
 ·rw [decide_eq_true hn]
  simp only [cond_true]
  rw [dD (a:=0-Int.tmod x 10) (by omega) (by omega)]
  rw [show kR x=0-Int.tmod x 10 by unfold kR;rw [if_pos hn];omega]
  rw [show gp [IntKind.wrap .u8 (aG (48 +(0-Int.tmod x 10)))]=lH (0-Int.tmod x 10) from rfl,cG (by rw [qW];omega)]
  rfl
 ·rw [decide_eq_false hn]
  simp only [cond_false]
  rw [show kR x=Int.tmod x 10 by unfold kR;rw [if_neg hn]]
  rw [show gp [IntKind.wrap .u8 (aG (48+Int.tmod x 10))]=lH (Int.tmod x 10) from rfl,cG (by rw [qW];omega)]
  rfl
theorem Ns(m:Nat)(y x:Int)(t:aF)(h:t.length≤900)(hb : -4000000000000000000≤x∧x≤4000000000000000000) :
  (mj (m+2)).bh y t x=cond (c4 x (-9) 9) (some (sv (decide (y<0)) (lH (kR x)++t),())) ((mj m).bh y (lH (kR x)++t) (Int.tdiv x 10)):=by
 have h1:=Nq x
 have h2:=Nr x
 have key:∀a,(mj (m+1)).dj y t x a=cond (c4 x (-9) 9) (some (sv (decide (y<0)) (lH a++t),())) ((mj m).bh y (lH a++t) (Int.tdiv x 10)):=by
  intro a
  rw [ah2]
  unfold K5
  rw [show gp [IntKind.wrap .u8 (aG (48+a))]=lH a from rfl,cG (by rw [qW];omega),jc,dD (a:=Int.tdiv x 10) (by omega) (by omega)]
  simp only [cond_true,av]
  rw [Wk (decide (y<0)) (lH a++t) (by rw [List.length_append,qW];omega)]
 rw [ah1]
 unfold K4
 by_cases hn:Int.tmod x 10<0
 ·rw [decide_eq_true hn]
  simp only [cond_true]
  rw [dD (a:=0-Int.tmod x 10) (by omega) (by omega),key,show kR x=0-Int.tmod x 10 by unfold kR;rw [if_pos hn];omega]
 ·rw [decide_eq_false hn]
  simp only [cond_false]
  rw [key,show kR x=Int.tmod x 10 by unfold kR;rw [if_neg hn]]
theorem ah4:∀(k:Nat) (x:Int),k≤18→x≠0 → -(10 ^ k:Int)<x→x<(10 ^ k:Int) →
  ∃t:aF,t.length≤k∧(∀(m:Nat) (a:aF) (neg:Bool),k<m→a.length+k≤500→pc m x a neg=some (sv neg (t++a),())) ∧
   (∀(m:Nat) (y:Int) (a:aF),2*k<m→a.length+k≤500→(mj m).bh y a x=some (sv (decide (y<0)) (t++a),())):=by
 intro k
 induction k with
 | zero=>intro x hk h0 h1 h2;simp at h1 h2;omega
 | succ k ih =>
  intro x hk h0 h1 h2
  have ag:=Nq x
  have hm:=Nr x
  have z_:(10 ^ k:Int)≤100000000000000000:=by
   have:(10:Nat) ^ k≤10 ^ 17:=Nat.pow_le_pow_right (by decide) (by omega)
   have h3:((10 ^ k:Nat):Int)≤((10 ^ 17:Nat):Int):=Int.ofNat_le.2 this
   simpa using h3
  have au:(10 ^ (k+1):Int)=10*10 ^ k:=by rw [Int.pow_succ];omega
  rw [au] at h1 h2
  generalize zK:(10 ^ k:Int)=P at *
  by_cases jr : -9≤x∧x≤9
  ·refine⟨lH (kR x),by rw [qW];omega,fun m a neg oT ha=>?_,fun m y a oT ha=>?_⟩
   ·obtain ⟨m,rfl⟩:∃q,m=q+1+1:=⟨m-2,by omega⟩
    rw [Wl _ x a neg h0 (by omega) (by omega),show Int.tdiv x 10=0 by omega]
    exact ah3 m _ neg (by rw [List.length_append,qW];omega)
   ·obtain ⟨m,rfl⟩:∃q,m=q+2:=⟨m-2,by omega⟩
    rw [Ns m y x a (by omega) (by omega),show c4 x (-9) 9=true from dJ.2 jr];rfl
  ·obtain ⟨t,ht,hs,hi⟩:=ih (Int.tdiv x 10) (by omega) (by omega) (by omega) (by omega)
   refine⟨t++lH (kR x),by rw [List.length_append,qW];omega,fun m a neg oT ha=>?_,fun m y a oT ha=>?_⟩
   ·obtain ⟨m,rfl⟩:∃q,m=q+1:=⟨m-1,by omega⟩
    rw [Wl _ x a neg h0 (by omega) (by omega)]
    rw [hs m (lH (kR x)++a) neg (by omega) (by rw [List.length_append,qW];omega),List.append_assoc]
   ·obtain ⟨m,rfl⟩:∃q,m=q+2:=⟨m-2,by omega⟩
    rw [Ns m y x a (by omega) (by omega),show c4 x (-9) 9=false from Bool.eq_false_iff.2 fun h=>jr (dJ.1 h)]
    simp only [cond_false]
    rw [hi m y (lH (kR x)++a) (by omega) (by rw [List.length_append,qW];omega),List.append_assoc]
def pK(x:Int):aF:=match zm (x,()) with | some r=>r.1 | none=>[]
theorem kS(x:Int)(h : -1000000000000<x∧x<1000000000000):(pK x).length≤20∧hd (x,())=some (pK x,())∧zm (x,())=some (pK x,()):=by
 obtain ⟨t,h1,h2,h3⟩:∃t:aF,t.length≤20∧hd (x,())=some (t,())∧zm (x,())=some (t,()):=by
  by_cases h0:x=0
  ·subst h0
   refine⟨[48],by simp,rfl,?_⟩
   obtain ⟨q,hq,_⟩:=jb 2
   show(mj aR).bh 0 [] 0=_
   rw [hq,Ns q 0 0 [] (by simp) (by omega)];rfl
  ·obtain ⟨t,ht,hs,hi⟩:=ah4 12 x (by omega) h0 (by simpa using h.1) (by simpa using h.2)
   refine⟨sv (decide (x<0)) t,?_,?_,?_⟩
   ·unfold sv
    cases decide (x<0)
    ·simp only [cond_false];omega
    ·simp only [cond_true,List.length_append,List.length_cons,List.length_nil];omega
   ·show cond (x==0) _ (pc aR x [] (decide (x<0)))=_
    rw [cd h0]
    simp only [cond_false]
    rw [hs aR [] _ (ja (by omega)) (by simp),List.append_nil]
   ·show(mj aR).bh x [] x=_
    rw [hi aR x [] (ja (by omega)) (by simp),List.append_nil]
 have e:pK x=t:=by unfold pK;rw [h3]
 rw [e]
 exact⟨h1,h2,h3⟩
theorem ah5(xs:List aF)(sep:aF)(B:Nat)(h:∀t,t∈xs→t.length≤B):(Lib.joinTail sep xs).length≤xs.length*(sep.length+B):=by
 induction xs with
 | nil=>simp [Lib.joinTail]
 | cons y r ih =>
  have h1:=h y (by simp)
  have h2:=ih fun t ht=>h t (by simp [ht])
  simp only [Lib.joinTail,List.map_cons,List.flatten_cons,List.length_append,List.length_cons,Nat.add_one_mul] at h2 ⊢
  omega
theorem Gi(xs:List aF)(sep:aF)(B:Nat)(h:∀t,t∈xs→t.length≤B):(Lib.join xs sep).length≤xs.length*(sep.length+B):=by
 cases xs with
 | nil=>simp [Lib.join_nil]
 | cons y r =>
  have h1:=h y (by simp)
  have h2:=ah5 r sep B fun t ht=>h t (by simp [ht])
  rw [Lib.join_cons,List.length_append,List.length_cons,Nat.add_one_mul]
  omega
theorem ah6(xs:List aF)(y sep:aF)(h:xs≠[]):Lib.join (xs++[y]) sep=Lib.join xs sep++sep++y:=by
 cases xs with
 | nil=>exact absurd rfl h
 | cons x r=>simp [Lib.join_cons,Lib.joinTail,List.append_assoc]
theorem Wm(xs:List aF)(sep:aF)(B:Nat)(h:∀t,t∈xs→t.length≤B)(hl:xs.length*(sep.length+B)≤68719476736)(hn:xs.length≤68719476736):joinF xs sep=some (Lib.join xs sep,()):=by
 unfold joinF
 rw [if_pos ⟨hn,Nat.le_trans (Gi xs sep B h) hl⟩]
theorem Nt(L:List Int)(hl:L.length≤100)(h:∀x,x∈L → -1000000000000<x∧x<1000000000000):qE (L,())=some (Lib.join (L.map pK) [32],()):=by
 show uJ aR L (L.length:Int) 0 []=_
 have:=mn L.length (by omega) (fun m i=>uJ m L (L.length:Int) i ((L.take i.toNat).map pK)) (fun _=>some (Lib.join (L.map pK) [32],())) (fun _=>True) (fun m _=>by
  simp only [uJ,ED]
  rw [cF (Nat.le_refl _),Int.toNat_natCast,List.take_length]
  simp only [cond_false]
  show Option.bind (joinF (L.map pK) [32]) _=_
  rw [Wm _ _ 20 (fun t ht=>by
   obtain ⟨x,hx,rfl⟩:=List.mem_map.1 ht
   exact(kS x (h x hx)).1) (by simp;omega) (by simp;omega)];rfl) (fun m i hi _ hw ih=>by
  have hx:L[i]∈L:=List.getElem_mem hi
  have ih:=ih trivial
  rw [Int.toNat_natCast_add_one,List.take_succ_eq_append_getElem hi,List.map_append] at ih
  simp only [uJ,ED,hw]
  rw [ch hi,bw hi,Int.toNat_natCast]
  simp only [cond_true,av]
  rw [show J (ae.int .i64) L i=L[i] from c7 hi,(kS _ (h _ hx)).2.2]
  simp only [av]
  rw [cG (by simp;omega)]
  exact ih) L.length 0 aR (by omega) (ja (by omega)) trivial
 simpa using this
def c_(v:af.D)(c:aH.D)(x:aK.D)(a:Option (aS.D×aI.D×Unit))(b:Option (aS.D×Unit)):Prop:=∃res:aS.D,a=some (res,(v,c,x,()),())∧b=some (res,())∧res.2.1.length≤1000∧(res.1=0∨res.2.1=[])
theorem c_.is{v:af.D}{c:aH.D}{x:aK.D}{a:Option (aS.D×aI.D×Unit)}{b:Option (aS.D×Unit)}(k:Int)(t:aF)(ha:a=some ((k,t,()),(v,c,x,()),()))(hb:b=some ((k,t,()),()))(hl:t.length≤1000:=by simp)(h0:k=0∨t=[]:=by simp):c_ v c x a b:=⟨(k,t,()),ha,hb,hl,h0⟩
theorem ah7(m:Nat)(a b d e):(fl (m+1)).bu a b d e=JN (fl m) a b d e:=rfl
theorem xm(m:Nat)(a b d e f):(fl (m+1)).dd a b d e f=rT (fl m) a b d e f:=rfl
theorem Wn(m:Nat)(a b d e f):(fl (m+1)).oc a b d e f=C4 (fl m) a b d e f:=rfl
theorem Wo(m:Nat)(a b d e):(fl (m+1)).rS a b d e=C5 (fl m) a b d e:=rfl
theorem ah8(m:Nat)(a b d e):(fl (m+1)).C3 a b d e=JO (fl m) a b d e:=rfl
def mz(x:aK.D):Bool:=aE x != 11&&(aE x != 14||bR x==0)
def nC(x:aK.D):Bool:=(aE x==14&&(bR x != 0&&bR x != 1))||(aE x==17 && !c4 (bR x) 0 7)
def sw:aS.D:=(0,([]:aF),())
theorem ah9(m:Nat)(v:af.D)(c:aH.D)(x:aK.D)(z:aS.D):(fl (m+1)).bu v c x z=Option.bind (fk (v,c,fz x,mz x,())) fun r=>(fl m).dd v c x z r.1:=by
 rw [ah7]
 unfold JN mz
 show cond (aE x != 11) (cond (aE x != 14) (Option.bind (fk (v,c,fz x,true,())) _) (Option.bind (fk (v,c,fz x,bR x==0,())) _)) (Option.bind (fk (v,c,fz x,false,())) _)=_
 cases aE x != 11
 ·rfl
 ·cases aE x != 14 <;> rfl
theorem Nu(K:m6)(v:af.D)(c:aH.D)(x:aK.D)(hk:aE x≠18):qs K v c x=cond (nC x) (some ((22,[],()),())) (K.bu v c x sw):=by
 unfold qs nC
 have ah_:∀k:Option (aS.D×Unit),Option.bind (ei (bR x,0,7,())) (fun v4=>cond (!v4.1) (some ((22,([]:aF),()),())) k)=cond (!c4 (bR x) 0 7) (some ((22,([]:aF),()),())) k:=fun k=>by rw [jz];rfl
 show cond (aE x==18) _ (cond (aE x==14) (cond (bR x != 0) (cond (bR x != 1) _ (cond (aE x==17) (Option.bind (ei (bR x,0,7,())) _) _)) (cond (aE x==17) (Option.bind (ei (bR x,0,7,())) _) _)) (cond (aE x==17) (Option.bind (ei (bR x,0,7,())) (fun v4=>cond (!v4.1) (some ((22,([]:aF),()),())) (K.bu v c x sw))) (K.bu v c x sw)))=_
 rw [cd hk]
 simp only [cond_false]
 by_cases vL:aE x=14
 ·rw [cD vL,cd (show aE x≠17 by omega)]
  cases bR x != 0 <;> cases bR x != 1 <;> rfl
 ·rw [cd vL]
  simp only [cond_false,Bool.false_and,Bool.false_or]
  rw [ah_]
  cases aE x==17
  ·rfl
  ·cases c4 (bR x) 0 7 <;> rfl
theorem Aj(v:af.D)(c:aH.D)(x:aK.D)(hk:aE x≠18)(hb:nC x=false)(cn:pz v.2.1)(r:aJ.D)(hs:fk (v,c,fz x,mz x,())=some (r,())) :
  ∃q,4611686018427387904<q∧lB (v,c,x,())=(fl (q+1)).dd v c x sw r:=by
 obtain ⟨q,hq,hL⟩:=jb 2
 refine⟨q,hL,?_⟩
 show qs (fl aR) v c x=_
 rw [Nu _ _ _ _ hk,hb,hq]
 simp only [cond_false]
 rw [ah9,hs];rfl
theorem Ak(v:af.D)(c:aH.D)(x:aK.D)(q:Nat)(r:aJ.D)(h:bI r≠0):(fl (q+1)).dd v c x sw r=some ((bI r,[],()),()):=by
 rw [xm]
 unfold rT
 show cond (bI r != 0) _ _=_
 rw [cY h];rfl
theorem ah'(v:af.D)(c:aH.D)(x:aK.D)(hv:bH v)(hc:dm c=true)(hx:iu x)(hk:aE x=11):c_ v c x (EB ((v,c,x,()),())) (lB (v,c,x,())):=by
 have cn:=hv.iv
 have au:=hx.path
 obtain ⟨r,hr,gm,j2,j3⟩:=sr v c x false cn hc (by omega)
 obtain ⟨q,hq,bX⟩:=Aj v c x (by omega) (by unfold nC;rw [cd (show aE x≠14 by omega),cd (show aE x≠17 by omega)];rfl) cn r (by
  rw [show mz x=false by unfold mz;rw [dC hk];rfl];exact gm)
 show c_ v c x (K3 (v,c,x,())) _
 rw [bX]
 unfold K3
 by_cases b1:bI r=0
 case neg =>
  rw [j2 b1,Ak v c x q r b1]
  simp only [av]
  rw [cY b1]
  exact c_.is (bI r) [] rfl rfl
 obtain ⟨i,hi,eS⟩:=j3 b1
 have bJ:=bS hi
 rw [eS,xm]
 unfold rT
 show c_ v c x _ (cond (bI r != 0) _ (Option.bind (e6 (v,bb r,())) _))
 rw [dC b1,jg v _ cn.len hi]
 simp only [cond_false,av]
 rw [show((0:Int) != 0)=false from rfl,bw bJ.1]
 simp only [cond_false,av]
 show c_ v c x (cond (kindOf (J I v.2.1 i) != 3) _ _) (cond (aE x==4) _ (cond (aE x==11) (cond (kindOf (J I v.2.1 i) != 3) _ _) _))
 rw [cd (show aE x≠4 by omega),cD hk]
 simp only [cond_false,cond_true]
 cases kindOf (J I v.2.1 i) != 3 with
 | true=>exact c_.is 22 [] rfl rfl
 | false=>exact c_.is 0 (bM (J I v.2.1 i)) rfl rfl (by have:=hv.fA bJ.1;omega)
theorem aia(v:af.D)(c:aH.D)(x:aK.D)(hv:bH v)(hc:dm c=true)(hx:iu x)(hk:aE x=17) :
  c_ v c x (Option.bind (ET ((v,c,x,()),())) fun v6=>Option.bind (eR (v6.1,())) fun bt=>some (bt.1,v6.2.1,())) (lB (v,c,x,())):=by
 have cn:=hv.iv
 have au:=hx.path
 show c_ v c x (Option.bind (K' (v,c,x,())) _) _
 unfold K'
 show c_ v c x (Option.bind (Option.bind (eI (bR x,0,7,())) _) _) _
 rw [jc]
 simp only [av]
 cases hN:c4 (bR x) 0 7 with
 | false =>
  have dN:lB (v,c,x,())=some ((22,[],()),()):=by
   show qs (fl aR) v c x=_
   rw [Nu _ _ _ _ (by omega),show nC x=true by unfold nC;rw [cD hk,hN];simp];rfl
  rw [dN]
  exact c_.is 22 [] rfl rfl
 | true =>
 obtain ⟨r,hr,gm,j2,j3⟩:=sr v c x true cn hc (by omega)
 obtain ⟨q,hq,bX⟩:=Aj v c x (by omega) (by unfold nC;rw [cd (show aE x≠14 by omega),hN];simp) cn r (by
  rw [show mz x=true by unfold mz;rw [cY (show aE x≠11 by omega),cY (show aE x≠14 by omega)];rfl];exact gm)
 rw [bX]
 simp only [Bool.not_true,cond_false]
 by_cases b1:bI r=0
 case neg =>
  rw [j2 b1,Ak v c x q r b1]
  simp only [av]
  rw [cY b1]
  exact c_.is (bI r) [] rfl rfl
 obtain ⟨i,hi,eS⟩:=j3 b1
 have bJ:=bS hi
 rw [eS,xm]
 unfold rT
 show c_ v c x _ (cond (bI r != 0) _ (Option.bind (e6 (v,bb r,())) _))
 rw [dC b1,jg v _ cn.len hi]
 simp only [cond_false,av]
 rw [show((0:Int) != 0)=false from rfl,bw bJ.1]
 simp only [cond_false,av]
 show c_ v c x (Option.bind (Option.bind (pf (c,J I v.2.1 i,bR x,())) _) _) (cond (aE x==4) _ (cond (aE x==11) _ (cond (aE x==13) _ (cond (aE x==14) _ (cond (aE x==17) (Option.bind (jP (c,J I v.2.1 i,bR x,())) _) _)))))
 rw [cd (show aE x≠4 by omega),cd (show aE x≠11 by omega),cd (show aE x≠13 by omega),cd (show aE x≠14 by omega),cD hk]
 simp only [cond_false,cond_true]
 rw [zQ c _ _ hc,pt c _ _ hc]
 simp only [av]
 cases may c (J I v.2.1 i) (bR x) with
 | false=>exact c_.is 13 [] rfl rfl
 | true=>exact c_.is 0 [] rfl rfl
theorem Nv(L:List Int)(hl:L.length≤40)(h:∀x,x∈L → -1000000000000<x∧x<1000000000000):(Lib.join (L.map pK) [32]).length≤1000:=by
 refine Nat.le_trans (Gi _ _ 20 fun t ht=>?_) ?_
 ·obtain ⟨x,hx,rfl⟩:=List.mem_map.1 ht
  exact(kS x (h x hx)).1
 ·rw [List.length_map,List.length_singleton];omega
theorem aib(N:List aw.D)(hN:N.length≤12)(c3:∀d,d∈N→d.1.length≤8):(Lib.join (N.map fun d=>d.1) [47]).length≤1000:=by
 refine Nat.le_trans (Gi _ _ 8 fun t ht=>?_) ?_
 ·obtain ⟨d,ag,rfl⟩:=List.mem_map.1 ht
  exact c3 d ag
 ·rw [List.length_map,List.length_singleton];omega
theorem aic(v:af.D)(c:aH.D)(x:aK.D)(hv:bH v)(hk:aE x=18) :
  c_ v c x (Option.bind (r0 (v,())) fun dn=>Option.bind (qE ([(v.2.1.length:Int),dn.1],())) fun v9=>some ((0,v9.1,()),(v,c,x,()),())) (lB (v,c,x,())):=by
 have hl:=hv.len
 have hb:=hv.bytes
 show c_ v c x _ (qs (fl aR) v c x)
 unfold qs
 show c_ v c x _ (cond (aE x==18) (Option.bind (hd ((v.2.1.length:Int),())) _) _)
 have d1:=kS (v.2.1.length:Int) (by omega)
 have d2:=kS (bytesOf v.2.1:Int) (by omega)
 rw [cD hk,Mu v (by omega) (by omega),d1.2.1]
 simp only [cond_true,av]
 rw [cG (by simp;omega),Mt v (by omega) (by omega)]
 simp only [cond_true,av]
 rw [d2.2.1]
 simp only [av]
 rw [cG (by simp;omega),Nt _ (by simp) (by intro y aO;simp at aO;omega)]
 refine c_.is 0 _ rfl ?_ (Nv _ (by simp) (by intro y aO;simp at aO;omega))
 simp [Lib.join_cons,Lib.joinTail,List.append_assoc]
theorem aid(v:af.D)(c:aH.D)(x:aK.D)(hv:bH v)(hc:dm c=true)(hx:iu x)(hk:aE x=14):c_ v c x (EL ((v,c,x,()),())) (lB (v,c,x,())):=by
 have cn:=hv.iv
 have au:=hx.path
 show c_ v c x (K6 (v,c,x,())) _
 unfold K6
 show c_ v c x (Option.bind (eI (bR x,0,1,())) fun v1=>cond (!v1.1) _ (Option.bind (mi ((v,c,x,()),bR x==0,())) _)) _
 rw [jc]
 simp only [av]
 cases hN:c4 (bR x) 0 1 with
 | false =>
  have dN:lB (v,c,x,())=some ((22,[],()),()):=by
   show qs (fl aR) v c x=_
   have hn:¬(0≤bR x∧bR x≤1):=fun h=>by rw [dJ.2 h] at hN;cases hN
   rw [Nu _ _ _ _ (by omega),show nC x=true by unfold nC;rw [cD hk,cY (show bR x≠0 by omega),cY (show bR x≠1 by omega)];rfl];rfl
  rw [dN]
  exact c_.is 22 [] rfl rfl
 | true =>
 have pF:=dJ.1 hN
 obtain ⟨r,hr,gm,j2,j3⟩:=sr v c x (bR x==0) cn hc (by omega)
 obtain ⟨q,hq,bX⟩:=Aj v c x (by omega) (by
  unfold nC
  rw [cd (show aE x≠17 by omega)]
  rcases (show bR x=0∨bR x=1 by omega) with h | h
  ·rw [dC h];simp
  ·rw [dC h];simp) cn r (by
  rw [show mz x=(bR x==0) by unfold mz;rw [cY (show aE x≠11 by omega),dC hk];rfl];exact gm)
 rw [bX]
 simp only [Bool.not_true,cond_false]
 by_cases b1:bI r=0
 case neg =>
  rw [j2 b1,Ak v c x q r b1]
  simp only [av]
  rw [cY b1]
  exact c_.is (bI r) [] rfl rfl
 obtain ⟨i,hi,eS⟩:=j3 b1
 have bJ:=bS hi
 rw [eS,xm]
 unfold rT
 show c_ v c x _ (cond (bI r != 0) _ (Option.bind (e6 (v,bb r,())) _))
 rw [dC b1,jg v _ cn.len hi]
 simp only [cond_false,av]
 rw [show((0:Int) != 0)=false from rfl,bw bJ.1]
 simp only [cond_false,av]
 have bO:=hv.ino i bJ.1
 have Gj:=hv.fA bJ.1
 have hnl:(ak (J I v.2.1 i)).length≤1048576:=Nat.le_trans (fM bJ.1) cn.cH
 have akX:0≤ox v.2.1 (J I v.2.1 i)∧ox v.2.1 (J I v.2.1 i)<100000000:=by
  unfold ox
  have h1:=UD v.2.1 (J I v.2.1 i).1
  have h2:mv v.2.1 (ak (J I v.2.1 i))≤(ak (J I v.2.1 i)).length:=List.length_filter_le _ _
  have h3:=cn.cH
  cases kindOf (J I v.2.1 i) != 2
  ·simp only [cond_false];omega
  ·simp only [cond_true];omega
 rw [Vc v _ cn.len cn.cH hnl]
 simp only [av]
 show c_ v c x (Option.bind (qE ([kindOf (J I v.2.1 i),eU (J I v.2.1 i),en (J I v.2.1 i),e9 (J I v.2.1 i),ox v.2.1 (J I v.2.1 i),((bM (J I v.2.1 i)).length:Int)],())) _)
  (cond (aE x==4) _ (cond (aE x==11) _ (cond (aE x==13) _ (cond (aE x==14) (Option.bind (hd (kindOf (J I v.2.1 i),())) fun v4=>cond _ (Option.bind (hd (eU (J I v.2.1 i),())) fun v5=>cond _ (cond _ (Option.bind (hd (en (J I v.2.1 i),())) fun v6=>cond _ (cond _ (Option.bind (hd (e9 (J I v.2.1 i),())) fun bt=>cond _ (cond _ (Option.bind (C2 (v,aX (J I v.2.1 i),())) _) _) _) _) _) _) _) _) _))))
 have pL:1≤kindOf (J I v.2.1 i)∧kindOf (J I v.2.1 i)≤3:=by rcases bO.kind with h | h | h <;> omega
 have hm:=bO.mode
 have hu:=bO.uid
 have aA:=bO.gid
 have d1:=kS (kindOf (J I v.2.1 i)) (by omega)
 have d2:=kS (eU (J I v.2.1 i)) (by omega)
 have d3:=kS (en (J I v.2.1 i)) (by omega)
 have d4:=kS (e9 (J I v.2.1 i)) (by omega)
 have d5:=kS (ox v.2.1 (J I v.2.1 i)) (by omega)
 have d6:=kS ((bM (J I v.2.1 i)).length:Int) (by omega)
 rw [cd (show aE x≠4 by omega),cd (show aE x≠11 by omega),cd (show aE x≠13 by omega),cD hk]
 simp only [cond_false,cond_true]
 rw [Nt _ (by simp) (by intro y aO;simp at aO;omega),d1.2.1]
 simp only [av]
 rw [cG (by simp;omega),d2.2.1]
 simp only [cond_true,av]
 rw [cG (by simp;omega),cG (by simp;omega),d3.2.1]
 simp only [cond_true,av]
 rw [cG (by simp;omega),cG (by simp;omega),d4.2.1]
 simp only [cond_true,av]
 rw [cG (by simp;omega),cG (by simp;omega),af7 v (aX (J I v.2.1 i)) cn.len cn.cH (cn.fO i bJ.1)]
 simp only [cond_true,av]
 rw [d5.2.1]
 simp only [cond_true,av]
 rw [cG (by simp;omega),cG (by simp;omega)]
 simp only [cond_true]
 show c_ v c x _ (Option.bind (hd (((bM (J I v.2.1 i)).length:Int),())) _)
 rw [d6.2.1]
 simp only [cond_true,av]
 rw [cG (by simp;omega)]
 refine c_.is 0 _ rfl ?_ (Nv _ (by simp) (by intro y aO;simp at aO;omega))
 simp [Lib.join_cons,Lib.joinTail,List.append_assoc]
theorem Al{s:aF}(h:hU s=true):s.length≤8:=by
 unfold hU at h
 simp only [Bool.and_eq_true] at h
 have:=dJ.1 h.2.1
 omega
theorem aie{v:af.D}(hv:bH v){i:Nat}(bJ:i<v.2.1.length)(h:kindOf (J I v.2.1 i)=2):(ak (J I v.2.1 i)).length≤12∧∀d,d∈ak (J I v.2.1 i)→d.1.length≤8:=by
 have bO:=hv.ino i bJ
 exact⟨(bO.dir h).2.2.2,fun d ag=>Al (bO.names d ag).1⟩
theorem Wp(l:List aL)(F:Flags):jB l F≤l.length:=by
 unfold jB ov
 refine Nat.le_trans (List.length_filter_le _ _) ?_
 rw [List.length_range];exact Nat.le_refl _
theorem Gk{α : Type}(f : α → Nat)(B:Nat):∀L:List α,(∀i,i∈L→f i≤B)→(L.map f).sum≤L.length*B
 | [],_=>by simp
 | y :: r,h=>by
  have h1:=h y (by simp)
  have h2:=Gk f B r fun t ht=>h t (by simp [ht])
  rw [List.map_cons,List.sum_cons,List.length_cons,Nat.add_one_mul]
  omega
theorem aif{v:af.D}(hv:bH v)(F:Flags):jf v.2.1 F≤v.2.1.length*64:=by
 unfold jf
 refine Nat.le_trans (Gk _ 64 _ fun i hi=>?_) (Nat.mul_le_mul_right _ (Wp v.2.1 F))
 unfold ov at hi
 exact hv.fA (List.mem_range.1 (List.mem_filter.1 hi).1)
theorem aih(N:List aw.D)(hN:N.length≤12)(c3:∀d,d∈N→d.1.length≤8)(y:aI.D)(z:aS.D) :
  qF aR N (N.length:Int) 0 z [] y=some ((0,Lib.join (N.map fun d=>d.1) [47],()),y,()):=by
 have:=mn N.length (by omega) (fun m i=>qF m N (N.length:Int) i z ((N.take i.toNat).map fun d=>d.1) y) (fun _=>some ((0,Lib.join (N.map fun d=>d.1) [47],()),y,())) (fun _=>True) (fun m _=>by
  simp only [qF,EG]
  rw [cF (Nat.le_refl _),Int.toNat_natCast,List.take_length]
  simp only [cond_false]
  show Option.bind (joinF (N.map fun d=>d.1) [47]) _=_
  rw [Wm _ _ 8 (fun t ht=>by
   obtain ⟨d,ag,rfl⟩:=List.mem_map.1 ht
   exact c3 d ag) (by simp;omega) (by simp;omega)];rfl) (fun m i hi _ hw ih=>by
  have ih:=ih trivial
  rw [Int.toNat_natCast_add_one,List.take_succ_eq_append_getElem hi,List.map_append] at ih
  simp only [qF,EG,hw]
  rw [ch hi,bw hi,Int.toNat_natCast]
  simp only [cond_true,av]
  rw [show J aw N i=N[i] from c7 hi]
  rw [cG (by simp;omega)]
  exact ih) N.length 0 aR (by omega) (ja (by omega)) trivial
 simpa using this
theorem aii(n:aL)(hN:(ak n).length≤12)(c3:∀d,d∈ak n→d.1.length≤8)(z:aS.D)(q:Nat)(hq:1000<q) :
  (fl q).rS [] 0 z n=some ((0,Lib.join ((ak n).map fun d=>d.1) [47],()),()):=by
 have hb:∀i,(Lib.join (((ak n).take i).map fun d=>d.1) [47]).length≤108:=by
  intro i
  refine Nat.le_trans (Gi _ _ 8 fun t ht=>?_) ?_
  ·obtain ⟨d,ag,rfl⟩:=List.mem_map.1 ht
   exact c3 d (List.mem_of_mem_take ag)
  ·simp;omega
 have key:=ow 2 (fun m i=>(fl m).rS (Lib.join (((ak n).take i).map fun d=>d.1) [47]) (i:Int) z n) (some ((0,Lib.join ((ak n).map fun d=>d.1) [47],()),())) (ak n).length 1 (fun i hi B y he=>by
  have akY:((ak n)[i]).1.length≤8:=c3 _ (List.getElem_mem hi)
  have vF:=hb i
  refine he.jump 2 fun m=>?_
  rw [Wo]
  unfold C5
  show cond (decide ((i:Int)<((ak n).length:Int))) _ _=_
  rw [ch hi]
  simp only [cond_true]
  have Wq:∀t:aF,t.length≤200→(fl (m+1)).C3 t (i:Int) z n=(fl m).rS (t++((ak n)[i]).1) ((i+1:Nat):Int) z n:=fun t ht=>by
   rw [ah8]
   unfold JO
   show Option.bind (aN (ak n).length (i:Int)) (fun v1=>cond (room (t.length +((J aw (ak n) v1).1).length)) ((fl m).rS (t++((J aw (ak n) v1).1)) (aG ((i:Int)+1)) z n) none)=_
   rw [bw hi]
   simp only [av]
   rw [show J aw (ak n) i=(ak n)[i] from c7 hi,cG (by omega),df i (by omega)];rfl
  have e1:((ak n).take (i+1)).map (fun d=>d.1)=((ak n).take i).map (fun d=>d.1)++[((ak n)[i]).1]:=by
   rw [List.take_succ_eq_append_getElem hi,List.map_append];rfl
  rw [e1]
  by_cases h0:i=0
  ·subst h0
   rw [show decide (((0:Nat):Int)>0)=false from rfl]
   simp only [cond_false]
   rw [Wq _ (by omega)]
   simp [Lib.join_nil,Lib.join_one]
  ·rw [decide_eq_true (show(i:Int)>0 by omega),cG (by rw [List.length_singleton];omega)]
   simp only [cond_true]
   rw [Wq _ (by rw [List.length_append,List.length_singleton];omega),ah6]
   intro h
   have:=congrArg List.length h
   simp only [List.length_map,List.length_take,List.length_nil] at this
   omega) (b2.done fun m=>by
  rw [Wo]
  unfold C5
  show cond (decide (((ak n).length:Int)<((ak n).length:Int))) _ _=_
  rw [cF (Nat.le_refl _),List.take_length];rfl)
 have:=key q (by omega)
 simpa [Lib.join_nil] using this
theorem aij(v:af.D)(c:aH.D)(x:aK.D)(hv:bH v)(hc:dm c=true)(hx:iu x)(hk:aE x=13∨aE x=20):c_ v c x (zo ((v,c,x,()),())) (lB (v,c,x,())):=by
 have cn:=hv.iv
 have au:=hx.path
 obtain ⟨r,hr,gm,j2,j3⟩:=sr v c x true cn hc (by omega)
 obtain ⟨q,hq,bX⟩:=Aj v c x (by omega) (by unfold nC;rw [cd (show aE x≠14 by omega),cd (show aE x≠17 by omega)];rfl) cn r (by
  rw [show mz x=true by unfold mz;rw [cY (show aE x≠11 by omega),cY (show aE x≠14 by omega)];rfl];exact gm)
 show c_ v c x (EF (qF aR) (v,c,x,())) _
 rw [bX]
 unfold EF
 by_cases b1:bI r=0
 case neg =>
  rw [j2 b1,Ak v c x q r b1]
  simp only [av]
  rw [cY b1]
  exact c_.is (bI r) [] rfl rfl
 obtain ⟨i,hi,eS⟩:=j3 b1
 have bJ:=bS hi
 rw [eS,xm]
 unfold rT
 show c_ v c x _ (cond (bI r != 0) _ (Option.bind (e6 (v,bb r,())) _))
 rw [dC b1,jg v _ cn.len hi]
 simp only [cond_false,av]
 rw [show((0:Int) != 0)=false from rfl,bw bJ.1]
 simp only [cond_false,av]
 show c_ v c x (cond (kindOf (J I v.2.1 i) != 2) _ (Option.bind (pf (c,J I v.2.1 i,4,())) fun v6=>cond (!v6.1) _ (cond (aE x==20) (Option.bind (wJ (v,aX (J I v.2.1 i),())) fun v9=>Option.bind (qE ([eM (J I v.2.1 i),ez (J I v.2.1 i),v9.1,v9.2.1],())) _) (qF aR (ak (J I v.2.1 i)) ((ak (J I v.2.1 i)).length:Int) 0 (0,([]:aF),()) [] (v,c,x,())))))
  (cond (aE x==4) _ (cond (aE x==11) _ (cond (aE x==13) (cond (!(kindOf (J I v.2.1 i)==2)) _ (Option.bind (jP (c,J I v.2.1 i,4,())) fun v3=>cond (!v3.1) _ ((fl q).rS [] 0 sw (J I v.2.1 i)))) (cond (aE x==14) _ (cond (aE x==17) _ (cond (!(kindOf (J I v.2.1 i)==2)) _ (Option.bind (jP (c,J I v.2.1 i,4,())) fun v12=>cond (!v12.1) _ (Option.bind (yM (v,aX (J I v.2.1 i),())) fun jy=>Option.bind (hd (eM (J I v.2.1 i),())) fun mg=>cond _ (Option.bind (hd (ez (J I v.2.1 i),())) _) _))))))))
 rw [cd (show aE x≠4 by omega),cd (show aE x≠11 by omega),cd (show aE x≠14 by omega),cd (show aE x≠17 by omega)]
 simp only [cond_false]
 by_cases ag:kindOf (J I v.2.1 i)=2
 case neg =>
  rw [cY ag,cd ag]
  refine c_.is 20 [] rfl ?_
  cases aE x==13 <;> rfl
 rw [dC ag,cD ag,pt c _ 4 hc,zQ c _ 4 hc]
 simp only [cond_false,av,Bool.not_true]
 cases may c (J I v.2.1 i) 4 with
 | false =>
  refine c_.is 13 [] rfl ?_
  cases aE x==13 <;> rfl
 | true =>
 simp only [cond_false,Bool.not_true]
 have bO:=hv.ino i bJ.1
 have pL:=aie hv bJ.1 ag
 rcases hk with hk | hk
 ·rw [cD hk,cd (show aE x≠20 by omega)]
  simp only [cond_false,cond_true]
  rw [aih _ pL.1 pL.2,aii _ pL.1 pL.2 _ q (by omega)]
  exact c_.is 0 _ rfl rfl (aib _ pL.1 pL.2)
 ·rw [cD hk,cd (show aE x≠13 by omega)]
  simp only [cond_false,cond_true]
  have hvl:=hv.len
  have O9:=hv.bytes
  obtain ⟨out,hf,hu⟩:=MG v (aX (J I v.2.1 i)) cn.len cn.cH (by omega)
  obtain ⟨kZ,hO⟩:=MH hv.fO hv.hp hf
  rw [kZ,hO] at hu
  have pV:jB v.2.1 (dL v.2.1 (aX (J I v.2.1 i)))≤v.2.1.length:=Wp _ _
  have iF:jf v.2.1 (dL v.2.1 (aX (J I v.2.1 i)))≤v.2.1.length*64:=aif hv _
  have oA:=bO.dir ag
  have d1:=kS (eM (J I v.2.1 i)) (by omega)
  have d2:=kS (ez (J I v.2.1 i)) (by omega)
  have d3:=kS (jf v.2.1 (dL v.2.1 (aX (J I v.2.1 i))):Int) (by omega)
  have d4:=kS (jB v.2.1 (dL v.2.1 (aX (J I v.2.1 i))):Int) (by omega)
  rw [hu,UU v _ cn.len cn.cH (by omega)]
  simp only [av]
  rw [Nt _ (by simp) (by intro y aO;simp at aO;omega),d1.2.1]
  simp only [av]
  rw [cG (by simp;omega),d2.2.1]
  simp only [cond_true,av]
  rw [cG (by simp;omega),cG (by simp;omega),d3.2.1]
  simp only [cond_true,av]
  rw [cG (by simp;omega),cG (by simp;omega),d4.2.1]
  simp only [cond_true,av]
  rw [cG (by simp;omega)]
  refine c_.is 0 _ rfl ?_ (Nv _ (by simp) (by intro y aO;simp at aO;omega))
  simp [Lib.join_cons,Lib.joinTail,List.append_assoc]
theorem aik(n:aL)(x:aK.D)(a:Nat)(ha:(a:Int)=bR x)(x9:a≤1000000)(b:Nat)(hb:(b:Int)=ea x)(hb2:b≤1000000)(hl:(bM n).length≤64)(z:aS.D)(q:Nat)(hq:1000<q) :
  (fl q).oc (a:Int) x z n []=some ((0,((bM n).drop a).take b,()),()):=by
 have key:∀(k m j:Nat),k<m→min (bM n).length (a+b)-j≤k→a≤j→j≤a+64∧j≤a+b→(fl m).oc (j:Int) x z n (eo (((bM n).drop a).take (j-a)))=some ((0,((bM n).drop a).take b,()),()):=by
  intro k
  induction k with
  | zero =>
   intro m j hm h1 h2 h3
   obtain ⟨m,rfl⟩:∃p,m=p+1:=⟨m-1,by omega⟩
   rw [Wn]
   unfold C4
   show cond (decide ((j:Int)<((bM n).length:Int))) (cond (decide ((j:Int)<aG (bR x+ea x))) _ _) _=_
   rw [← ha,← hb,dD (by omega) (by omega)]
   have e:∀w,w=some ((0,gp (eo (((bM n).drop a).take (j-a))),()),())→w=some (((0:Int),((bM n).drop a).take b,()),()):=fun w hw=>by
    rw [hw,Wb]
    have:((bM n).drop a).take (j-a)=((bM n).drop a).take b:=by
     rw [List.take_eq_take_iff,List.length_drop];omega
    rw [this]
   by_cases hj:j<(bM n).length
   ·rw [ch hj,decide_eq_false (show ¬(j:Int)<(a:Int) +(b:Int) by omega)]
    exact e _ rfl
   ·rw [cF (by omega)]
    exact e _ rfl
  | succ k ih =>
   intro m j hm h1 h2 h3
   by_cases Af:min (bM n).length (a+b)-j≤k
   ·exact ih m j (by omega) Af h2 h3
   obtain ⟨m,rfl⟩:∃p,m=p+1:=⟨m-1,by omega⟩
   rw [Wn]
   unfold C4
   show cond (decide ((j:Int)<((bM n).length:Int))) (cond (decide ((j:Int)<aG (bR x+ea x))) (Option.bind (aN (bM n).length (j:Int)) fun v1=>cond (room ((eo (((bM n).drop a).take (j-a))).length+[(((bM n).getD v1 0).toNat:Int)].length)) ((fl m).oc (aG ((j:Int)+1)) x z n (eo (((bM n).drop a).take (j-a))++[(((bM n).getD v1 0).toNat:Int)])) none) _) _=_
   have hj:j<(bM n).length:=by omega
   rw [← ha,← hb,dD (a:=(a:Int) +(b:Int)) (by omega) (by omega),ch hj,decide_eq_true (show(j:Int)<(a:Int) +(b:Int) by omega),bw hj,df j (by omega)]
   simp only [cond_true,av]
   rw [cG (by rw [Ge,List.length_take,List.length_drop,List.length_singleton];omega)]
   simp only [cond_true]
   have:=ih m (j+1) (by omega) (by omega) (by omega) (by omega)
   rw [show eo (((bM n).drop a).take (j-a))++[(((bM n).getD j 0).toNat:Int)]=eo (((bM n).drop a).take (j+1-a)) by
    rw [show j+1-a=(j-a)+1 by omega,List.take_succ_eq_append_getElem (by rw [List.length_drop];omega)]
    unfold eo
    rw [List.map_append,List.getElem_drop,List.getD_eq_getElem?_getD,List.getElem?_eq_getElem hj]
    simp [show a +(j-a)=j by omega]]
   exact this
 have:=key 64 q a (by omega) (by omega) (by omega) (by omega)
 rw [Nat.sub_self] at this
 exact this
theorem ail(v:af.D)(c:aH.D)(x:aK.D)(hv:bH v)(hc:dm c=true)(hx:iu x)(hk:aE x=4):c_ v c x (Ex ((v,c,x,()),())) (lB (v,c,x,())):=by
 have cn:=hv.iv
 have au:=hx.path
 obtain ⟨r,hr,gm,j2,j3⟩:=Wd v c x 4 cn hc (by omega)
 obtain ⟨q,hq,bX⟩:=Aj v c x (by omega) (by unfold nC;rw [cd (show aE x≠14 by omega),cd (show aE x≠17 by omega)];rfl) cn r (by
  rw [show mz x=true by unfold mz;rw [cY (show aE x≠11 by omega),cY (show aE x≠14 by omega)];rfl];exact gm)
 show c_ v c x (KY (v,c,x,())) _
 rw [bX]
 unfold KY
 by_cases b1:bI r=0
 case neg =>
  rw [j2 b1,Ak v c x q r b1]
  simp only [av]
  rw [cY b1]
  exact c_.is (bI r) [] rfl rfl
 obtain ⟨i,hi,eS⟩:=j3 b1
 have bJ:=bS hi
 rw [eS,xm]
 unfold rT
 show c_ v c x _ (cond (bI r != 0) _ (Option.bind (e6 (v,bb r,())) _))
 rw [dC b1,jg v _ cn.len hi]
 simp only [cond_false,av]
 show c_ v c x _ (cond (aE x==4) (cond (kindOf (J I v.2.1 i)==2) _ (Option.bind (jP (c,J I v.2.1 i,4,())) fun v2=>cond (!v2.1) _ (cond (decide (bR x<0)) _ (cond (decide (ea x<0)) _ ((fl q).oc (bR x) x sw (J I v.2.1 i) []))))) _)
 rw [cD hk,pt c _ 4 hc]
 simp only [cond_true,av]
 cases kindOf (J I v.2.1 i)==2 with
 | true=>exact c_.is 21 [] rfl rfl
 | false =>
 cases may c (J I v.2.1 i) 4 with
 | false=>exact c_.is 13 [] rfl rfl
 | true =>
 simp only [cond_false,Bool.not_true,av]
 rw [show((0:Int) != 0)=false from rfl]
 simp only [cond_false]
 show c_ v c x (cond (decide (bR x<0)) _ (cond (decide (ea x<0)) _ _)) _
 by_cases hn:bR x<0
 ·rw [decide_eq_true hn]
  exact c_.is 22 [] rfl rfl
 by_cases hm:ea x<0
 ·rw [decide_eq_false hn,decide_eq_true hm]
  exact c_.is 22 [] rfl rfl
 rw [decide_eq_false hn,decide_eq_false hm]
 simp only [cond_false]
 have Gj:=hv.fA bJ.1
 have akZ:=hx.n
 have mW:=hx.m
 obtain ⟨a,ha⟩:∃a:Nat,(a:Int)=bR x:=⟨(bR x).toNat,by omega⟩
 obtain ⟨b,hb⟩:∃b:Nat,(b:Int)=ea x:=⟨(ea x).toNat,by omega⟩
 rw [← ha,aik _ x a ha (by omega) b hb (by omega) Gj sw q (by omega),bw bJ.1]
 simp only [av]
 show c_ v c x (Option.bind (dZ (bM (J I v.2.1 i)).length (jm (bR x) ((bM (J I v.2.1 i)).length:Int)) ((bM (J I v.2.1 i)).length:Int)) fun bt=>Option.bind (dZ ((part (bM (J I v.2.1 i)) bt.1 (bt.2-bt.1)).length) 0 (jm (ea x) (((part (bM (J I v.2.1 i)) bt.1 (bt.2-bt.1)).length:Nat):Int))) fun dn=>some ((0,part (part (bM (J I v.2.1 i)) bt.1 (bt.2-bt.1)) dn.1 (dn.2-dn.1),()),(v,c,x,()),())) _
 generalize bM (J I v.2.1 i)=d at *
 have e1:jm (bR x) (d.length:Int)=((min a d.length:Nat):Int):=by unfold jm;split <;> omega
 rw [e1,kp (by omega) (by omega)]
 simp only [av]
 have e2:part d (min a d.length) (d.length-min a d.length)=d.drop a:=by
  unfold part
  rw [List.take_of_length_le (by rw [List.length_drop];omega)]
  by_cases h:a≤d.length
  ·rw [Nat.min_eq_left h]
  ·rw [List.drop_eq_nil_of_le (by omega),List.drop_eq_nil_of_le (by omega)]
 rw [e2]
 have e3:jm (ea x) ((d.drop a).length:Int)=((min b (d.drop a).length:Nat):Int):=by unfold jm;split <;> omega
 rw [e3]
 have fJ:dZ (d.drop a).length 0 ((min b (d.drop a).length:Nat):Int)=some (0,min b (d.drop a).length):=kp (lo:=0) (Nat.zero_le _) (Nat.min_le_right _ _)
 rw [fJ]
 simp only [av,Nat.sub_zero]
 rw [zG]
 refine c_.is 0 _ rfl ?_ (by rw [List.length_take,List.length_drop];omega)
 have sX:(d.drop a).take b=(d.drop a).take (min b (d.drop a).length):=List.take_eq_take_iff.2 (by omega)
 rw [sX]
def Nw(v:af.D)(c:aH.D)(x:aK.D)(a:Option (aS.D×aI.D×Unit))(b:Option (af.D×aS.D×Unit))(Q:af.D→Prop):Prop :=
 ∃(k:Int) (t:aF) (w:af.D),a=some ((k,t,()),(w,c,x,()),())∧b=some (cond (k==0) w v,(k,t,()),())∧(k=0→Q w)∧t.length≤1000∧(k=0∨t=[])
theorem bq.up{v:af.D}{c:aH.D}{x:aK.D}{a:Option (Int×aI.D×Unit)}{b:Option (af.D×aS.D×Unit)}{Q Q':af.D→Prop}(h:bq v c x a b Q)(m1:∀w,Q w→Q' w) :
  Nw v c x (a.bind fun v1=>(eR (v1.1,())).bind fun v2=>some (v2.1,v1.2.1,())) (b.bind fun v2=>some (v2.1,v2.2.1,())) Q':=by
 obtain ⟨k,w,rfl,rfl,hq⟩:=h
 exact⟨k,[],w,rfl,rfl,fun h0=>m1 w (hq h0),by simp,.inr rfl⟩
theorem c_.up{v:af.D}{c:aH.D}{x:aK.D}{a:Option (aS.D×aI.D×Unit)}{b:Option (aS.D×Unit)}{Q':af.D→Prop}(h:c_ v c x a b)(m1:Q' v) :
  Nw v c x (a.bind fun v1=>some (v1.1,v1.2.1,())) (b.bind fun v2=>some (v,v2.1,())) Q':=by
 obtain ⟨⟨k,t,⟨⟩⟩,rfl,rfl,hl,h0⟩:=h
 exact⟨k,t,v,rfl,by cases k==0 <;> rfl,fun _=>m1,hl,h0⟩
def oB(v:af.D)(c:aH.D)(x:aK.D)(w:af.D):Prop :=
 ((aE x=1∨aE x=3∨aE x=10)∧Made v c x w)∨((aE x=2∨aE x=8)∧z' v c x w)∨(aE x=9∧F8 v c x w)∨(aE x=12∧u2 v c x w)∨((aE x=5∨aE x=6∨aE x=7)∧xk v c x w) ∨
  (aE x=15∧Ah v c x w)∨(aE x=16∧Ai v c x w)∨(aE x=19∧Gh v c x w)∨((aE x=4∨aE x=11∨aE x=13∨aE x=14∨aE x=17∨aE x=18∨aE x=20)∧w=v)
noncomputable def Nx(v:af.D)(c:aH.D)(x:aK.D):Option (af.D×aS.D×Unit) :=
 if aE x=1∨aE x=3∨aE x=10 then(tO (v,c,x,())).bind fun v2=>some (v2.1,v2.2.1,())
 else if aE x=2∨aE x=8 then(yV (v,c,x,())).bind fun v2=>some (v2.1,v2.2.1,())
 else if aE x=9 then(CQ (v,c,x,())).bind fun v2=>some (v2.1,v2.2.1,())
 else if aE x=12 then(CV (v,c,x,())).bind fun v2=>some (v2.1,v2.2.1,())
 else if aE x=5∨aE x=6∨aE x=7 then(wA (v,c,x,())).bind fun v2=>some (v2.1,v2.2.1,())
 else if aE x=15∨aE x=16∨aE x=19 then(rR (v,c,x,())).bind fun v2=>some (v2.1,v2.2.1,())
 else(lB (v,c,x,())).bind fun v2=>some (v,v2.1,())
theorem aim(v:af.D)(c:aH.D)(x:aK.D)(hx:iu x)(kn:aE x≤20):m8 (v,c,x,())=Nx v c x:=by
 obtain ⟨q,hq,_⟩:=jb 4
 show rV (y2 aR) v c x=_
 unfold rV
 rw [hq,Mq,xi.2 hx]
 simp only [av,Bool.not_true,cond_false]
 rw [decide_eq_false (show ¬x.1>20 from Int.not_lt.2 kn)]
 simp only [cond_false]
 have hk:=hx.de
 obtain ⟨de,rest⟩:=x
 have:aE (de,rest)=1∨aE (de,rest)=2∨aE (de,rest)=3∨aE (de,rest)=4∨aE (de,rest)=5∨aE (de,rest)=6∨aE (de,rest)=7∨aE (de,rest)=8∨aE (de,rest)=9∨aE (de,rest)=10∨aE (de,rest)=11∨aE (de,rest)=12∨aE (de,rest)=13∨aE (de,rest)=14∨aE (de,rest)=15∨aE (de,rest)=16∨aE (de,rest)=17∨aE (de,rest)=18∨aE (de,rest)=19∨aE (de,rest)=20:=by omega
 clear hx hk kn
 unfold Nx
 rcases this with h | h | h | h | h | h | h | h | h | h | h | h | h | h | h | h | h | h | h | h <;>(replace h:de=_:=h;subst h;rfl)
noncomputable def Ny(v:af.D)(c:aH.D)(x:aK.D):Option (aS.D×aI.D×Unit) :=
 if aE x=1∨aE x=3∨aE x=10 then(zj ((v,c,x,()),())).bind fun v1=>(eR (v1.1,())).bind fun v2=>some (v2.1,v1.2.1,())
 else if aE x=2∨aE x=8 then(Es ((v,c,x,()),())).bind fun v1=>(eR (v1.1,())).bind fun v2=>some (v2.1,v1.2.1,())
 else if aE x=9 then(Et ((v,c,x,()),())).bind fun v1=>(eR (v1.1,())).bind fun v2=>some (v2.1,v1.2.1,())
 else if aE x=12 then(Ew ((v,c,x,()),())).bind fun v1=>(eR (v1.1,())).bind fun v2=>some (v2.1,v1.2.1,())
 else if aE x=5∨aE x=6∨aE x=7 then(EA ((v,c,x,()),())).bind fun v1=>(eR (v1.1,())).bind fun v2=>some (v2.1,v1.2.1,())
 else if aE x=15 then(EO ((v,c,x,()),())).bind fun v1=>(eR (v1.1,())).bind fun v2=>some (v2.1,v1.2.1,())
 else if aE x=16 then(ES ((v,c,x,()),())).bind fun v1=>(eR (v1.1,())).bind fun v2=>some (v2.1,v1.2.1,())
 else if aE x=19 then(EV ((v,c,x,()),())).bind fun v1=>(eR (v1.1,())).bind fun v2=>some (v2.1,v1.2.1,())
 else if aE x=4 then(Ex ((v,c,x,()),())).bind fun v1=>some (v1.1,v1.2.1,())
 else if aE x=11 then(EB ((v,c,x,()),())).bind fun v1=>some (v1.1,v1.2.1,())
 else if aE x=13∨aE x=20 then(zo ((v,c,x,()),())).bind fun v1=>some (v1.1,v1.2.1,())
 else if aE x=14 then(EL ((v,c,x,()),())).bind fun v1=>some (v1.1,v1.2.1,())
 else if aE x=17 then(Option.bind (ET ((v,c,x,()),())) fun v6=>Option.bind (eR (v6.1,())) fun bt=>some (bt.1,v6.2.1,()))
 else(Option.bind (r0 (v,())) fun dn=>Option.bind (qE ([(v.2.1.length:Int),dn.1],())) fun v9=>some ((0,v9.1,()),(v,c,x,()),()))
theorem ain(v:af.D)(c:aH.D)(x:aK.D)(hx:iu x)(kn:aE x≤20):EX ((v,c,x,()),())=Ny v c x:=by
 obtain ⟨q,hq,_⟩:=jb 8
 show EW (Lc aR) (v,c,x,())=_
 unfold EW
 rw [hq]
 have hk:=hx.de
 obtain ⟨de,rest⟩:=x
 have:aE (de,rest)=1∨aE (de,rest)=2∨aE (de,rest)=3∨aE (de,rest)=4∨aE (de,rest)=5∨aE (de,rest)=6∨aE (de,rest)=7∨aE (de,rest)=8∨aE (de,rest)=9∨aE (de,rest)=10∨aE (de,rest)=11∨aE (de,rest)=12∨aE (de,rest)=13∨aE (de,rest)=14∨aE (de,rest)=15∨aE (de,rest)=16∨aE (de,rest)=17∨aE (de,rest)=18∨aE (de,rest)=19∨aE (de,rest)=20:=by omega
 clear hx hk kn
 unfold Ny
 rcases this with h | h | h | h | h | h | h | h | h | h | h | h | h | h | h | h | h | h | h | h <;>(replace h:de=_:=h;subst h;rfl)
theorem Wr(a:Option (aS.D×aI.D×Unit)):(a.bind fun v1=>some (v1.1,v1.2.1,()))=a:=by
 cases a with
 | none=>rfl
 | some r=>rfl
theorem Ws(v:af.D)(c:aH.D)(x:aK.D)(hv:bH v)(hc:dm c=true)(hx:iu x)(kn:aE x≤20):Nw v c x (EX ((v,c,x,()),())) (m8 (v,c,x,())) (oB v c x):=by
 rw [ain v c x hx kn,aim v c x hx kn]
 have hk:=hx.de
 unfold Ny Nx
 by_cases h1:aE x=1∨aE x=3∨aE x=10
 ·rw [if_pos h1,if_pos h1]
  exact(agR v c x hv hc hx).up fun w h=>.inl ⟨h1,h⟩
 rw [if_neg h1,if_neg h1]
 by_cases h2:aE x=2∨aE x=8
 ·rw [if_pos h2,if_pos h2]
  exact(ag1 v c x hv hc hx h2).up fun w h=>.inr (.inl ⟨h2,h⟩)
 rw [if_neg h2,if_neg h2]
 by_cases h3:aE x=9
 ·rw [if_pos h3,if_pos h3]
  exact(ag5 v c x hv hc hx).up fun w h=>.inr (.inr (.inl ⟨h3,h⟩))
 rw [if_neg h3,if_neg h3]
 by_cases h4:aE x=12
 ·rw [if_pos h4,if_pos h4]
  exact(aht v c x hv hc hx).up fun w h=>.inr (.inr (.inr (.inl ⟨h4,h⟩)))
 rw [if_neg h4,if_neg h4]
 by_cases a7:aE x=5∨aE x=6∨aE x=7
 ·rw [if_pos a7,if_pos a7]
  exact(ahN v c x hv hc hx a7).up fun w h=>.inr (.inr (.inr (.inr (.inl ⟨a7,h⟩))))
 rw [if_neg a7,if_neg a7]
 by_cases bj:aE x=15
 ·rw [if_pos bj,if_pos (.inl bj)]
  exact(ahX v c x hv hc hx bj).up fun w h=>.inr (.inr (.inr (.inr (.inr (.inl ⟨bj,h⟩)))))
 rw [if_neg bj]
 by_cases bE:aE x=16
 ·rw [if_pos bE,if_pos (.inr (.inl bE))]
  exact(ahY v c x hv hc hx bE).up fun w h=>.inr (.inr (.inr (.inr (.inr (.inr (.inl ⟨bE,h⟩))))))
 rw [if_neg bE]
 by_cases c3:aE x=19
 ·rw [if_pos c3,if_pos (.inr (.inr c3))]
  exact(ah0 v c x hv hc hx c3).up fun w h=>.inr (.inr (.inr (.inr (.inr (.inr (.inr (.inl ⟨c3,h⟩)))))))
 rw [if_neg c3,if_neg (show ¬(aE x=15∨aE x=16∨aE x=19) by omega)]
 have m1:oB v c x v:=.inr (.inr (.inr (.inr (.inr (.inr (.inr (.inr ⟨by omega,rfl⟩)))))))
 by_cases jr:aE x=4
 ·rw [if_pos jr]
  exact(ail v c x hv hc hx jr).up m1
 rw [if_neg jr]
 by_cases jM:aE x=11
 ·rw [if_pos jM]
  exact(ah' v c x hv hc hx jM).up m1
 rw [if_neg jM]
 by_cases xZ:aE x=13∨aE x=20
 ·rw [if_pos xZ]
  exact(aij v c x hv hc hx xZ).up m1
 rw [if_neg xZ]
 by_cases lg:aE x=14
 ·rw [if_pos lg]
  exact(aid v c x hv hc hx lg).up m1
 rw [if_neg lg]
 by_cases vK:aE x=17
 ·rw [if_pos vK]
  have:=(aia v c x hv hc hx vK).up (Q':=oB v c x) m1
  rwa [Wr] at this
 rw [if_neg vK]
 have:=(aic v c x hv (by omega)).up (Q':=oB v c x) m1
 rwa [Wr] at this
theorem bH.Wt{v:af.D}(h:bH v):lz (v,())=some (v,()):=uT v h.iv.len fun i hi=>Nat.le_trans (fM hi) h.iv.cH
theorem bH.aio{v:af.D}(h:bH v):r1 (v,())=some (v,()):=af5 v h.iv.len fun i hi=>Nat.le_trans (fM hi) h.iv.cH
structure Am(v:af.D)(c:aH.D)(x:aK.D)(w:af.D)(k:Int)(t:aF):Prop where
 bad:jY v=false→w=(0,[],())∧k=22∧t=[]
 Wu:jY v=true→dm c=false→w=v∧k=22∧t=[]
 call:jY v=true→dm c=true→(jW x=false∨20<aE x)→w=v∧k=22∧t=[]
 no:jY v=true→k≠0→w=v
 len:t.length≤1000
 data:k=0∨t=[]
 done:jY v=true→dm c=true→jW x=true→aE x≤20→k=0→oB v c x w
theorem aip(v:af.D)(c:aH.D)(x:aK.D)(hv:uS v):∃w k t,wR (v,c,x,())=some (w,(k,t,()),())∧wQ (v,c,x,())=some (w,(k,t,()),())∧Am v c x w k t:=by
 show ∃w k t,Lj v c x=_∧Le v c x=_∧_
 unfold Lj Le
 rw [MJ v hv,FE v hv]
 simp only [av]
 cases ca:jY v with
 | false=>exact⟨(0,[],()),22,[],rfl,rfl,fun _=>⟨rfl,rfl,rfl⟩,fun h=>by simp [ca] at h,fun h=>by simp [ca] at h,fun h=>by simp [ca] at h,by simp,.inr rfl,fun h=>by simp [ca] at h⟩
 | true =>
 have dG:=py.1 ca
 simp only [Bool.not_true,cond_false]
 have aiq:(Option.bind (Ld (v,c,x,())) fun v3=>some (v3.1,v3.2.1,()))=zp v c x:=by
  show(Option.bind (zp v c x) fun v3=>some (v3.1,v3.2.1,()))=_
  cases zp v c x <;> rfl
 rw [aiq]
 unfold zp
 rw [zP,FF,afv,dG.aio,dG.Wt]
 simp only [av]
 cases hc:dm c with
 | false=>exact⟨v,22,[],rfl,rfl,fun h=>by simp [ca] at h,fun _ _=>⟨rfl,rfl,rfl⟩,fun _ h=>by simp [hc] at h,fun _ _=>rfl,by simp,.inr rfl,fun _ h=>by simp [hc] at h⟩
 | true =>
 simp only [Bool.not_true,cond_false]
 have air:∀A:Option (af.D×aS.D×Unit),both (both (Option.bind A fun v5=>dup (some (v5.1,v5.2.1,()))) (dup (dup (Option.bind A fun v5=>some (v5.1,v5.2.1,()))))) (dup (both (dup (Option.bind A fun v5=>some (v5.1,v5.2.1,()))) (Option.bind A fun v5=>some (v5.1,v5.2.1,()))))=A:=by
  intro A
  simp only [lx,tu]
  cases A <;> rfl
 rw [air]
 have bad:jW x=false∨20<aE x→m8 (v,c,x,())=some (v,(22,[],()),()):=by
  intro h
  show rV (y2 aR) v c x=_
  unfold rV
  rw [Mq]
  simp only [av]
  cases hcall:jW x with
  | false=>rfl
  | true =>
   rcases h with h | h
   ·rw [hcall] at h;cases h
   ·simp only [Bool.not_true,cond_false]
    rw [decide_eq_true (show x.1>20 from h)];rfl
 cases hcall:jW x with
 | false =>
  rw [bad (.inl hcall)]
  exact⟨v,22,[],rfl,rfl,fun h=>by simp [ca] at h,fun _ h=>by simp [hc] at h,fun _ _ _=>⟨rfl,rfl,rfl⟩,fun _ _=>rfl,by simp,.inr rfl,fun _ _ h=>by simp [hcall] at h⟩
 | true =>
 have hx:=xi.1 hcall
 simp only [Bool.not_true,cond_false]
 by_cases kn:aE x≤20
 case neg =>
  rw [bad (.inr (by omega)),decide_eq_true (show x.1>20 from Int.not_le.1 kn)]
  exact⟨v,22,[],rfl,rfl,fun h=>by simp [ca] at h,fun _ h=>by simp [hc] at h,fun _ _ _=>⟨rfl,rfl,rfl⟩,fun _ _=>rfl,by simp,.inr rfl,fun _ _ _ h=>absurd h kn⟩
 rw [decide_eq_false (show ¬x.1>20 from Int.not_lt.2 kn)]
 simp only [cond_false]
 obtain ⟨k,t,w,h1,h2,h3,h4,a7⟩:=Ws v c x dG hc hx kn
 rw [h1,h2]
 simp only [av]
 refine⟨cond (k==0) w v,k,t,rfl,?_,fun h=>by simp [ca] at h,fun _ h=>by simp [hc] at h,fun _ _ h=>?_,fun _ h=>by rw [cd h];rfl,h4,a7,fun _ _ _ _ h0=>by rw [cD h0];exact h3 h0⟩
 ·by_cases h0:k=0
  ·rw [dC h0,cD h0];rfl
  ·rw [cY h0,cd h0];rfl
 ·rcases h with h | h
  ·simp [hcall] at h
  ·omega
structure fy(n:Nat)(x:aL):Prop where
 fA:(bM x).length≤200
 cH:(ak x).length≤n
 each:∀d,d∈ak x→d.1.length≤8
structure eO(n:Nat)(l:List aL):Prop where
 len:l.length≤n
 po:∀x,x∈l→fy n x
theorem fy.mono{n m:Nat}{x:aL}(h:fy n x)(hm:n≤m):fy m x:=⟨h.fA,Nat.le_trans h.cH hm,h.each⟩
theorem eO.mono{n m:Nat}{l:List aL}(h:eO n l)(hm:n≤m):eO m l:=⟨Nat.le_trans h.len hm,fun x hx=>(h.po x hx).mono hm⟩
theorem eO.get{n:Nat}{l:List aL}(h:eO n l){i:Nat}(hi:i<l.length):fy n (J I l i):=h.po _ (cE hi)
theorem eO.set{n:Nat}{l:List aL}(h:eO n l)(i:Nat){y:aL}(aO:fy n y):eO n (l.set i y):=⟨by rw [List.length_set];exact h.len,fun x hx=>by
 rcases List.mem_or_eq_of_mem_set hx with hx | rfl
 ·exact h.po x hx
 ·exact aO⟩
theorem eO.go{n:Nat}{l:List aL}(h:eO n l)(id:Int):eO n (goN l id):=by
 unfold goN
 cases decide (cg l id=0)
 ·exact h
 ·exact⟨Nat.le_trans (List.length_filter_le _ _) h.len,fun x hx=>h.po x (List.mem_filter.1 hx).1⟩
theorem eO.app{n:Nat}{l:List aL}(h:eO n l){y:aL}(aO:fy n y):eO (n+1) (l++[y]):=⟨by simp only [List.length_append,List.length_singleton];have:=h.len;omega,fun x hx=>by
 rcases List.mem_append.1 hx with hx | hx
 ·exact(h.po x hx).mono (by omega)
 ·rw [List.mem_singleton.1 hx];exact aO.mono (by omega)⟩
theorem fy.ins{n:Nat}{x:aL}(h:fy n x){s:aF}(hs:s.length≤8)(id:Int):fy (n+1) (b0 x (ins (ak x) s id)):=⟨h.fA,by
 show(kc.ins (ak x) s id).length≤_
 rw [xh];have:=h.cH;omega,fun d ag=>by
 rcases oy.1 ag with ag | rfl
 ·exact h.each d ag
 ·exact hs⟩
theorem fy.un{n:Nat}{x:aL}(h:fy n x)(s:aF):fy n (b0 x (b9 (ak x) s)):=⟨h.fA,Nat.le_trans (uX _ _) h.cH,fun d ag=>h.each d (sn ag)⟩
theorem Wv{v:af.D}{n:Nat}(h:eO n v.2.1):ae.cost af v≤n+n*(200+9*n):=by
 rw [MI]
 have h1:=Gk qO (200+9*n) v.2.1 fun x hx=>by
  have au:=h.po x hx
  have h2:=Gk (fun d:aw.D=>ae.cost aw d) 8 (ak x) fun d ag=>by
   rw [U0];exact au.each d ag
  unfold qO
  rw [FC,Uu]
  have:=au.fA
  have:=au.cH
  omega
 have h3:v.2.1.length*(200+9*n)≤n*(200+9*n):=Nat.mul_le_mul_right _ h.len
 have:=h.len
 omega
theorem bH.sz{v:af.D}(h:bH v):eO 24 v.2.1:=by
 refine⟨h.len.2,fun x hx=>?_⟩
 obtain ⟨i,hi,rfl⟩:=e8 hx
 have bO:=h.ino i hi
 refine⟨by have:=h.fA hi;omega,?_,fun d ag=>Al (bO.names d ag).1⟩
 by_cases hk:kindOf (J I v.2.1 i)=2
 ·have:=(bO.dir hk).2.2.2;omega
 ·rw [(bO.plain hk).2.2];simp
theorem Nz{l:List aL}{r:aJ.D}(h:lF l r)(hn:nameOf r≠[])(hc:bI r=0∨bI r=2):(nameOf r).length≤8:=by
 rcases hc with hc | hc
 ·exact Al (h.named hc hn).2.1
 ·exact Al (h.new hc hn).2.1
theorem Ww{v:af.D}{n:Nat}(h:eO n v.2.1){i:Nat}(hi:i<v.2.1.length)(s:aF):eO n (kl v i s).2.1:=(h.set i ((h.get hi).un s)).go _
theorem Wx{l:List aL}{n:Nat}(h:eO n l){ir it:Nat}(hr:ir<l.length)(ht:it<l.length)(cq:aF){dF:aF}(hs:dF.length≤8)(id:Int):eO (n+1) (c9 l ir cq it dF id):=by
 have h1:eO n (cP l ir cq):=h.set ir ((h.get hr).un cq)
 refine(h1.mono (by omega)).set it (fy.ins (n:=n) (h1.get ?_) hs id)
 unfold cP
 rw [List.length_set];exact ht
theorem ais(s:aF)(a:Nat)(d:aF)(hs:s.length≤64)(h:a+d.length≤64):(kQ s a d).length≤200:=by
 unfold kQ
 rw [List.length_append,List.length_append,pJ,List.length_drop];omega
theorem oB.sz{v:af.D}{c:aH.D}{x:aK.D}{w:af.D}(hv:bH v)(hx:iu x)(h:oB v c x w):eO 30 w.2.1:=by
 have jC:=hv.sz
 rcases h with⟨_,h⟩ | ⟨_,h⟩ | ⟨_,h⟩ | ⟨_,h⟩ | ⟨_,h⟩ | ⟨_,h⟩ | ⟨_,h⟩ | ⟨_,h⟩ | ⟨_,h⟩
 ·obtain ⟨r,i,hr,hc,hn,hi,_,_,_,_,_,rfl,_⟩:=h.out
  have bJ:=(bS hi).1
  have:=hx.sm
  have h1:eO 25 (v.2.1.set i (b0 (J I v.2.1 i) (ins (ak (J I v.2.1 i)) (nameOf r) v.1))):=(jC.mono (by omega)).set i ((jC.get bJ).ins (Nz hr hn (.inr hc)) _)
  refine(h1.app (y:=gl v c x (J I v.2.1 i)) ⟨?_,by simp [gl,ak],by simp [gl,ak]⟩).mono (by omega)
  show(if aE x=10 then iS x else []).length≤200
  split
  ·omega
  ·simp
 ·obtain ⟨r,i,j,_,_,_,hi,_,_,_,_,_,_,rfl⟩:=h.out
  exact(Ww jC (bS hi).1 _).mono (by omega)
 ·obtain ⟨r,t,i,j,_,_,_,_,ht,pH,htn,hi,_,_,rfl,_⟩:=h.out
  exact((jC.mono (by omega)).set i ((jC.get (bS hi).1).ins (Nz ht htn (.inr pH)) _)).mono (by omega)
 ·obtain ⟨r,t,j,hr,hc,hn,hj,ht,htn,pH,_,h⟩:=h.out
  rcases h with⟨_,rfl⟩ | ⟨_,_,l,ir,it,au,rfl,_,h⟩
  ·exact jC.mono (by omega)
  ·have hl:eO 24 l:=by
    rcases h with⟨_,rfl,_⟩ | ⟨i2,ew,gr,_,_,_,_,_,rfl⟩
    ·exact jC
    ·exact Ww jC (bS gr).1 _
   exact(Wx hl (bS au.hr).1 (bS au.ht).1 _ (Nz ht htn pH) _).mono (by omega)
 ·obtain ⟨r,i,hr,hc,hi,_,_,_,ha,h⟩:=h.out
  rcases h with⟨_,_,rfl⟩ | ⟨_,hle,rfl,_⟩
  ·exact jC.mono (by omega)
  ·have au:=jC.get (bS hi).1
   refine(jC.mono (by omega)).set i ⟨?_,by have:=au.cH;exact Nat.le_trans this (by omega),au.each⟩
   show(iw x (J I v.2.1 i)).length≤200
   have ag:=hv.fA (bS hi).1
   unfold iw
   split
   ·rename_i bE
    rw [pJ]
    have:ej x (J I v.2.1 i)=bR x:=by unfold ej;rw [if_neg (by omega)]
    omega
   ·exact ais _ _ _ ag (by omega)
 ·obtain ⟨_,_,r,i,_,_,hi,_,_,rfl⟩:=h.out
  have au:=jC.get (bS hi).1
  exact(jC.mono (by omega)).set i ⟨au.fA,Nat.le_trans au.cH (by omega),au.each⟩
 ·obtain ⟨_,_,r,i,_,_,hi,rfl⟩:=h.out
  have au:=jC.get (bS hi).1
  exact(jC.mono (by omega)).set i ⟨au.fA,Nat.le_trans au.cH (by omega),au.each⟩
 ·obtain ⟨_,_,_,r,i,_,_,hi,_,rfl,_⟩:=h.out
  have au:=jC.get (bS hi).1
  exact(jC.mono (by omega)).set i ⟨au.fA,Nat.le_trans au.cH (by omega),au.each⟩
 ·rw [h];exact jC.mono (by omega)
theorem Am.cost{v:af.D}{c:aH.D}{x:aK.D}{w:af.D}{k:Int}{t:aF}(h:Am v c x w k t)(hv:ae.cost af v≤1048576):ae.cost af w≤1048576:=by
 have h0:w=v→ae.cost af w≤1048576:=fun e=>by rw [e];exact hv
 cases ca:jY v with
 | false=>rw [(h.bad ca).1,MI];simp
 | true =>
 cases hc:dm c with
 | false=>exact h0 (h.Wu ca hc).1
 | true =>
 cases hcall:jW x with
 | false=>exact h0 (h.call ca hc (.inl hcall)).1
 | true =>
 by_cases kn:20<aE x
 ·exact h0 (h.call ca hc (.inr kn)).1
 by_cases hk:k=0
 ·have:=Wv ((h.done ca hc hcall (by omega) hk).sz (py.1 ca) (xi.1 hcall))
  omega
 ·exact h0 (h.no ca hk)
structure ait(n:Int)(l:List aL):Prop where
 next:2≤n∧n≤100000
 len:l.length≤24
 j4:l.Pairwise fun a b=>aX a<aX b
 root:∃x,x∈l∧aX x=1∧kindOf x=2
 ids:∀x,x∈l→1≤aX x∧aX x≤n-1
 ino:∀x,x∈l→kP l x
 reach:∀x,x∈l→aX x≠1→dM l 1 (aX x)
 once:∀x,x∈l→aX x≠1→kindOf x=2→cg l (aX x)=1
 bytes:bytesOf l≤400
 over:ga l=false
theorem aiu{l:List aL}(h:l.Pairwise fun a b=>aX a<aX b):zV l:=h.imp fun h=>by omega
theorem kT{l:List aL}(h:l.Pairwise fun a b=>aX a<aX b):hV l:=zW.2 (aiu h)
theorem Gl{l:List aL}(h:l.Pairwise fun a b=>aX a<aX b){i j:Nat}(ix:i<j)(hj:j<l.length):aX (J I l i)<aX (J I l j):=by
 rw [c7 (by omega),c7 hj]
 exact List.pairwise_iff_getElem.1 h i j (by omega) hj ix
theorem Wy{l:List aL}(h:∀i,i+1<l.length→aX (J I l i)<aX (J I l (i+1))):l.Pairwise fun a b=>aX a<aX b:=by
 have cz:∀d j,j+d+1<l.length→aX (J I l j)<aX (J I l (j+d+1)):=by
  intro d
  induction d with
  | zero=>intro j hj;exact h j hj
  | succ d ih=>intro j hj;exact Int.lt_trans (ih j (by omega)) (h (j+d+1) hj)
 rw [List.pairwise_iff_getElem]
 intro i j hi hj ix
 have:=cz (j-i-1) i (by omega)
 rw [show i +(j-i-1)+1=j by omega,c7 hi,c7 hj] at this
 exact this
theorem mA{v:af.D} : bH v↔ait (gb v) v.2.1:=by
 constructor
 ·intro h
  have h0:0<v.2.1.length:=by have:=h.len;omega
  have b3:∀i,i<v.2.1.length→aX (J I v.2.1 i)≠1→1≤i:=by
   intro i hi hne
   rcases Nat.eq_zero_or_pos i with h | h
   ·subst h;exact absurd (bH.root ‹_›).1 hne
   ·exact h
  refine⟨h.next,h.len.2,Wy h.FN,⟨_,cE h0,h.root⟩,?_,?_,?_,?_,h.bytes,h.over⟩
  ·intro x hx;obtain ⟨i,hi,rfl⟩:=e8 hx;exact h.ids i hi
  ·intro x hx;obtain ⟨i,hi,rfl⟩:=e8 hx;exact h.ino i hi
  ·intro x hx hne;obtain ⟨i,hi,rfl⟩:=e8 hx;exact h.reach i (b3 i hi hne) hi
  ·intro x hx hne hk;obtain ⟨i,hi,rfl⟩:=e8 hx;exact h.once i (b3 i hi hne) hi hk
 ·intro h
  obtain ⟨x,hx,hx1,hx2⟩:=h.root
  obtain ⟨k,hk,rfl⟩:=e8 hx
  have hk0:k=0:=by
   rcases Nat.eq_zero_or_pos k with h0 | h0
   ·exact h0
   ·have h1:=Gl h.j4 h0 hk
    have h2:=h.ids _ (cE (show 0<v.2.1.length by omega))
    omega
  subst hk0
  have hne:∀i,1≤i→i<v.2.1.length→aX (J I v.2.1 i)≠1:=by
   intro i hi hl
   have:=Gl h.j4 (show 0<i by omega) hl
   omega
  exact⟨h.next,⟨by omega,h.len⟩,⟨hx1,hx2⟩,fun i hi=>h.ids _ (cE hi),fun i hi=>Gl h.j4 (Nat.lt_succ_self i) hi,fun i hi=>h.ino _ (cE hi),fun i h1 hi=>h.reach _ (cE hi) (hne i h1 hi),fun i h1 hi hk=>h.once _ (cE hi) (hne i h1 hi) hk,h.bytes,h.over⟩
theorem h5{l:List aL}(ag:hV l){a b:Int} : E l a b↔∃x,x∈l∧aX x=a∧∃d,d∈ak x∧d.2.1=b:=by
 constructor
 ·rintro ⟨i,d,hi,hm,he⟩
  exact⟨J I l i,cE (bS hi).1,(bS hi).2,d,hm,he⟩
 ·rintro ⟨x,hx,rfl,d,hm,he⟩
  obtain ⟨i,hi,rfl⟩:=e8 hx
  exact⟨i,d,ag i hi,hm,he⟩
theorem xn{l l':List aL}(h:∀a b,E l a b→E l' a b){a b:Int}(hb:dM l a b):dM l' a b:=by
 induction hb with
 | single h1=>exact .single (h _ _ h1)
 | tail _ h1 ih=>exact .tail ih (h _ _ h1)
theorem kP.to{l l':List aL}{x:aL}(h:kP l x)(hn:∀d,d∈ak x→(bl l d.2.1).isSome=true→(bl l' d.2.1).isSome=true):kP l' x :=
 ⟨h.mode,h.uid,h.gid,h.kind,h.plain,h.file,h.mw,h.dir,fun d ag=>⟨(h.names d ag).1,(h.names d ag).2.1,hn d ag (h.names d ag).2.2⟩,h.sorted⟩
theorem mem_set{l:List aL}(ag:hV l){i:Nat}(hi:i<l.length){y:aL}(aO:aX y=aX (J I l i)){x:aL} : x∈l.set i y↔x=y∨(x∈l∧aX x≠aX y):=by
 constructor
 ·intro hx
  obtain ⟨j,hj,rfl⟩:=e8 hx
  rw [List.length_set] at hj
  rw [gR hi]
  split
  ·exact .inl rfl
  ·rename_i ix
   refine .inr ⟨cE hj,fun he=>ix ?_⟩
   have h1:=ag i hi
   have h2:=ag j hj
   have:(J I l j).1=(J I l i).1:=(show aX (J I l j)=aX (J I l i) by rw [he,aO])
   rw [this,h1] at h2
   exact aV h2
 ·rintro (rfl | ⟨hx,hne⟩)
  ·exact List.mem_iff_getElem.2 ⟨i,by rw [List.length_set];exact hi,by rw [List.getElem_set_self]⟩
  ·obtain ⟨j,hj,rfl⟩:=e8 hx
   have ix:i≠j:=fun h=>hne (by subst h;exact aO.symm)
   have:J I (l.set i y) j=J I l j:=by rw [gR hi,if_neg ix]
   rw [← this]
   exact cE (by rw [List.length_set];exact hj)
theorem u4{l:List aL}(h:l.Pairwise fun a b=>aX a<aX b){i:Nat}(hi:i<l.length){y:aL}(aO:aX y=aX (J I l i)):(l.set i y).Pairwise fun a b=>aX a<aX b:=by
 refine Wy fun j hj=>?_
 rw [List.length_set] at hj
 have key:∀k,aX (J I (l.set i y) k)=aX (J I l k):=by
  intro k
  rw [gR hi]
  split
  ·rename_i h;subst h;exact aO
  ·rfl
 rw [key,key]
 exact Gl h (Nat.lt_succ_self j) hj
theorem Gm{l:List aL}{i:Nat}{y:aL}(hi:i<l.length)(b:Int):cg (l.set i y) b+dq (ak (J I l i)) b=cg l b+dq (ak y) b:=by
 unfold cg
 induction l generalizing i with
 | nil=>simp at hi
 | cons z l ih =>
  cases i with
  | zero =>
   simp only [List.set_cons_zero,List.map_cons,List.sum_cons]
   rw [show J I (z :: l) 0=z from rfl];omega
  | succ i =>
   simp only [List.set_cons_succ,List.map_cons,List.sum_cons]
   have:=ih (i:=i) (by simpa using hi)
   rw [show J I (z :: l) (i+1)=J I l i from rfl];omega
theorem aiv(l:List aL)(n:aL)(b:Int):cg (l++[n]) b=cg l b+dq (ak n) b:=by
 unfold cg
 rw [List.map_append,List.sum_append_nat];simp
theorem xp(N M:List aw.D)(b:Int):dq (N++M) b=dq N b+dq M b:=by
 unfold dq
 rw [List.filter_append,List.length_append]
theorem Wz(s:aF)(id b:Int):dq [((s,id,()):aw.D)] b=cond (id==b) 1 0:=by
 unfold dq
 rw [List.filter_cons]
 cases h:(((s,id,()):aw.D).2.1==b)
 ·rfl
 ·rfl
theorem aiw(N:List aw.D)(s:aF)(id b:Int):dq (ins N s id) b=dq N b+cond (id==b) 1 0:=by
 unfold ins
 rw [xp,xp,Wz]
 have:dq N b=dq (N.takeWhile (dS s)) b+dq (N.dropWhile (dS s)) b:=by rw [← xp,List.takeWhile_append_dropWhile]
 omega
theorem aix{N:List aw.D}{b:Int}(h:∀d,d∈N→d.2.1≠b):dq N b=0:=by
 unfold dq
 rw [List.filter_eq_nil_iff.2 fun d ag=>by rw [beq_iff_eq];exact h d ag];rfl
theorem WA{l:List aL}{b:Int}(h:∀x,x∈l→∀d,d∈ak x→d.2.1≠b):cg l b=0:=by
 unfold cg
 exact M9 fun x hx=>aix (h x hx)
theorem aiy{l:List aL}(hx:qM l){b:Int}(h:bl l b=none):cg l b=0:=by
 refine WA fun x aiz d ag he=>?_
 obtain ⟨i,hi,rfl⟩:=e8 aiz
 have:=hx i hi d ag
 rw [he,h] at this
 cases this
theorem NA:∀ {N:List aw.D},iQ N→∀ {d:aw.D},d∈N→∀b:Int,dq (b9 N d.1) b+cond (d.2.1==b) 1 0=dq N b
 | [],_,d,ag,_=>by cases ag
 | x :: N,hs,d,ag,b=>by
  have h1:=List.pairwise_cons.1 hs
  rcases List.mem_cons.1 ag with rfl | ag
  ·have e:b9 (d :: N) d.1=N:=by
    unfold b9
    rw [List.filter_cons,show(!br d.1 d.1)=false by unfold br;simp]
    simp only [Bool.false_eq_true,if_false]
    refine List.filter_eq_self.2 fun y aO=>?_
    have:=FL (h1.1 y aO)
    unfold br
    simp only [Bool.not_eq_true',decide_eq_false_iff_not]
    exact fun e=>this e.symm
   rw [e]
   show _=dq ([d]++N) b
   rw [xp]
   have:dq [d] b=cond (d.2.1==b) 1 0:=Wz d.1 d.2.1 b
   omega
  ·have e:b9 (x :: N) d.1=x :: b9 N d.1:=by
    unfold b9
    rw [List.filter_cons,show(!br x.1 d.1)=true by
     have:=FL (h1.1 d ag)
     unfold br;simp [this]]
    rfl
   have ih:=NA h1.2 ag b
   rw [e]
   show dq ([x]++b9 N d.1) b+_=dq ([x]++N) b
   rw [xp,xp]
   omega
theorem Gn{l:List aL} : e_ l=0↔bytesOf l≤400∧ga l=false:=by
 unfold e_
 by_cases h:(bytesOf l:Int)>400
 ·rw [decide_eq_true h]
  constructor
  ·intro h0;cases h0
  ·intro h0;omega
 ·rw [decide_eq_false h]
  cases ga l with
  | true =>
   constructor
   ·intro h0;cases h0
   ·intro h0;cases h0.2
  | false=>exact⟨fun _=>⟨by omega,rfl⟩,fun _=>rfl⟩
theorem bH.keep{v:af.D}(hv:bH v){i:Nat}(hi:i<v.2.1.length){y:aL}(h1:aX y=aX (J I v.2.1 i))(h2:kindOf y=kindOf (J I v.2.1 i))(h3:ak y=ak (J I v.2.1 i))(hy:kP v.2.1 y)
  (hf:e_ (v.2.1.set i y)=0):bH (v.1,v.2.1.set i y,()):=by
 have h:=mA.1 hv
 have ag:=kT h.j4
 have An:∀id,bl (v.2.1.set i y) id=bl v.2.1 id:=fun id=>F2 hi h1 id
 have ib:=u4 h.j4 hi h1
 have hE:∀a b,E v.2.1 a b→E (v.2.1.set i y) a b:=by
  intro a b
  rw [h5 ag,h5 (kT ib)]
  rintro ⟨x,hx,jk,d,hK,Ao⟩
  by_cases gS:aX x=aX y
  ·refine⟨y,(mem_set ag hi h1).2 (.inl rfl),by rw [← gS];exact jk,d,?_,Ao⟩
   obtain ⟨j,hj,rfl⟩:=e8 hx
   have e1:=ag i hi
   have e2:=ag j hj
   have:(J I v.2.1 j).1=(J I v.2.1 i).1:=(show aX _=aX _ by rw [gS,h1])
   rw [this,e1] at e2
   obtain rfl:=aV e2
   rw [h3];exact hK
  ·exact⟨x,(mem_set ag hi h1).2 (.inr ⟨hx,gS⟩),jk,d,hK,Ao⟩
 have fp:∀a b,dM v.2.1 a b→dM (v.2.1.set i y) a b:=fun a b hb=>xn hE hb
 have jA:∀b,cg (v.2.1.set i y) b=cg v.2.1 b:=by
  intro b
  have:=Gm (y:=y) hi b
  rw [h3] at this
  omega
 have pM:=cE (t:=I) hi
 have kb:=Gn.1 hf
 refine mA.2 ⟨h.next,by rw [List.length_set];exact h.len,ib,?_,?_,?_,?_,?_,kb.1,kb.2⟩
 ·obtain ⟨x,hx,hx1,hx2⟩:=h.root
  by_cases gS:aX x=aX y
  ·refine⟨y,(mem_set ag hi h1).2 (.inl rfl),by rw [← gS];exact hx1,?_⟩
   obtain ⟨j,hj,rfl⟩:=e8 hx
   have e1:=ag i hi
   have e2:=ag j hj
   have:(J I v.2.1 j).1=(J I v.2.1 i).1:=(show aX _=aX _ by rw [gS,h1])
   rw [this,e1] at e2
   obtain rfl:=aV e2
   rw [h2];exact hx2
  ·exact⟨x,(mem_set ag hi h1).2 (.inr ⟨hx,gS⟩),hx1,hx2⟩
 ·intro x hx
  rcases (mem_set ag hi h1).1 hx with rfl | ⟨hx,_⟩
  ·rw [h1];exact h.ids _ pM
  ·exact h.ids x hx
 ·intro x hx
  rcases (mem_set ag hi h1).1 hx with rfl | ⟨hx,_⟩
  ·exact hy.to fun d _ h=>by rw [An];exact h
  ·exact(h.ino x hx).to fun d _ h=>by rw [An];exact h
 ·intro x hx hne
  rcases (mem_set ag hi h1).1 hx with rfl | ⟨hx,_⟩
  ·rw [h1] at hne ⊢;exact fp _ _ (h.reach _ pM hne)
  ·exact fp _ _ (h.reach x hx hne)
 ·intro x hx hne hk
  rw [jA]
  rcases (mem_set ag hi h1).1 hx with rfl | ⟨hx,_⟩
  ·rw [h1] at hne ⊢;rw [h2] at hk;exact h.once _ pM hne hk
  ·exact h.once x hx hne hk
theorem bH.get{v:af.D}(h:bH v){x:aL}(hx:x∈v.2.1):kP v.2.1 x:=(mA.1 h).ino x hx
theorem mB{l:List aL}(ag:hV l){x y:aL}(hx:x∈l)(aO:y∈l)(h:aX x=aX y):x=y:=by
 obtain ⟨i,hi,rfl⟩:=e8 hx
 obtain ⟨j,hj,rfl⟩:=e8 aO
 have e1:=ag i hi
 have e2:=ag j hj
 have:(J I l i).1=(J I l j).1:=h
 rw [this,e2] at e1
 rw [aV e1]
theorem kP.named{l l':List aL}{x:aL}(h:kP l x)(kv:∀id,(bl l id).isSome=true→(bl l' id).isSome=true)(hk:kindOf x=2){s:aF}{id:Int}(hs:hU s=true)(h1:id≠1)(b3:(bl l' id).isSome=true)(hl:(ak x).length<12)(hn:∀d,d∈ak x→d.1≠s):kP l' (b0 x (ins (ak x) s id)) :=
 ⟨h.mode,h.uid,h.gid,h.kind,fun ee=>absurd hk ee,h.file,h.mw,fun ee=>⟨(h.dir ee).1,(h.dir ee).2.1,(h.dir ee).2.2.1,by
  show(ins (ak x) s id).length≤12
  rw [xh];omega⟩,fun d ag=>by
  rcases oy.1 ag with ag | rfl
  ·exact⟨(h.names d ag).1,(h.names d ag).2.1,kv _ (h.names d ag).2.2⟩
  ·exact⟨hs,h1,b3⟩,VZ h.sorted hn⟩
theorem NB{l:List aL}(hr:l.Pairwise fun a b=>aX a<aX b){i:Nat}(hi:i<l.length)(s:aF)(id:Int) :
  (∀a b,E l a b→E (l.set i (b0 (J I l i) (ins (ak (J I l i)) s id))) a b)∧E (l.set i (b0 (J I l i) (ins (ak (J I l i)) s id))) (aX (J I l i)) id:=by
 have ag:=kT hr
 have aO:aX (b0 (J I l i) (ins (ak (J I l i)) s id))=aX (J I l i):=so _ _
 have i_:=kT (u4 hr hi aO)
 have WB:b0 (J I l i) (ins (ak (J I l i)) s id)∈l.set i (b0 (J I l i) (ins (ak (J I l i)) s id)):=(mem_set ag hi aO).2 (.inl rfl)
 constructor
 ·intro a b
  rw [h5 ag,h5 i_]
  rintro ⟨x,hx,jk,d,hK,Ao⟩
  by_cases gS:aX x=aX (J I l i)
  ·obtain rfl:=mB ag hx (cE hi) gS
   exact⟨_,WB,aO.trans jk,d,oy.2 (.inl hK),Ao⟩
  ·exact⟨x,(mem_set ag hi aO).2 (.inr ⟨hx,by rw [aO];exact gS⟩),jk,d,hK,Ao⟩
 ·rw [h5 i_]
  exact⟨_,WB,aO,(s,id,()),oy.2 (.inr rfl),rfl⟩
theorem NC{l:List aL}{i:Nat}(hi:i<l.length)(s:aF)(id b:Int):cg (l.set i (b0 (J I l i) (ins (ak (J I l i)) s id))) b=cg l b+cond (id==b) 1 0:=by
 have h:=Gm (y:=b0 (J I l i) (ins (ak (J I l i)) s id)) hi b
 rw [iR,aiw] at h
 omega
theorem F8.ok{v:af.D}{c:aH.D}{x:aK.D}{w:af.D}(hv:bH v)(hx:iu x)(h:F8 v c x w):bH w:=by
 obtain ⟨r,t,i,j,hr,hc,hj,qN,ht,pH,htn,hi,hQ,hl,rfl,hf⟩:=h.out
 have hm:=mA.1 hv
 have ag:=kT hm.j4
 have bJ:=(bS hi).1
 have hjl:=bS hj
 obtain ⟨oz,jA,d,fV,ij,ND⟩:=ht.new pH htn
 obtain rfl:d=i:=aV (fV.symm.trans hi)
 have eZ:=z1 ND fun e he=>hv.z6 bJ he
 have ye:bb r≠1:=by
  intro h1
  obtain ⟨z,hz,iY,hz2⟩:=hm.root
  have:J I v.2.1 j=z:=mB ag (cE hjl.1) hz (by rw [iY];exact hjl.2.trans h1)
  rw [this] at qN
  exact qN hz2
 have hy:=(hm.ino _ (cE bJ)).named (fun _ h=>h) hQ jA ye (by rw [hj];rfl) hl eZ
 obtain ⟨hE,_⟩:=NB hm.j4 bJ (nameOf t) (bb r)
 have aO:aX (b0 (J I v.2.1 d) (ins (ak (J I v.2.1 d)) (nameOf t) (bb r)))=aX (J I v.2.1 d):=so _ _
 have An:∀id,bl (v.2.1.set d (b0 (J I v.2.1 d) (ins (ak (J I v.2.1 d)) (nameOf t) (bb r)))) id=bl v.2.1 id:=fun id=>Ac _ bJ id
 have kb:=Gn.1 hf
 refine mA.2 ⟨hm.next,by show(List.set _ _ _).length≤24;rw [List.length_set];exact hm.len,u4 hm.j4 bJ aO,?_,?_,?_,?_,?_,kb.1,kb.2⟩
 ·obtain ⟨z,hz,iY,hz2⟩:=hm.root
  by_cases Ap:aX z=aX (J I v.2.1 d)
  ·exact⟨_,(mem_set ag bJ aO).2 (.inl rfl),by rw [aO,← Ap];exact iY,hQ⟩
  ·exact⟨z,(mem_set ag bJ aO).2 (.inr ⟨hz,by rw [aO];exact Ap⟩),iY,hz2⟩
 ·intro z hz
  rcases (mem_set ag bJ aO).1 hz with rfl | ⟨hz,_⟩
  ·rw [aO];exact hm.ids _ (cE bJ)
  ·exact hm.ids z hz
 ·intro z hz
  rcases (mem_set ag bJ aO).1 hz with rfl | ⟨hz,_⟩
  ·exact hy.to fun e _ h=>by rw [u0,An];exact h
  ·exact(hm.ino z hz).to fun e _ h=>by rw [u0,An];exact h
 ·intro z hz hne
  rcases (mem_set ag bJ aO).1 hz with rfl | ⟨hz,_⟩
  ·rw [aO] at hne ⊢;exact xn hE (hm.reach _ (cE bJ) hne)
  ·exact xn hE (hm.reach z hz hne)
 ·have WC:∀z,z∈v.2.1→aX z≠1→kindOf z=2→cg (v.2.1.set d (b0 (J I v.2.1 d) (ins (ak (J I v.2.1 d)) (nameOf t) (bb r)))) (aX z)=1:=by
   intro z hz hne hk
   rw [NC bJ,hm.once z hz hne hk]
   have:bb r≠aX z:=fun e=>by
    have:J I v.2.1 j=z:=mB ag (cE hjl.1) hz (hjl.2.trans e)
    rw [this] at qN;exact qN hk
   rw [cd this];rfl
  intro z hz hne hk
  rcases (mem_set ag bJ aO).1 hz with rfl | ⟨hz,_⟩
  ·rw [aO] at hne ⊢;exact WC _ (cE bJ) hne hQ
  ·exact WC z hz hne hk
theorem Made.ok{v:af.D}{c:aH.D}{x:aK.D}{w:af.D}(hv:bH v)(hc:dm c=true)(hx:iu x)(hk:aE x=1∨aE x=3∨aE x=10)(h:Made v c x w):bH w:=by
 obtain ⟨r,i,hr,aiA,nx,hi,hQ,_,hl,hlen,M6,rfl,hf⟩:=h.out
 have j0:=h.bad
 have hm:=mA.1 hv
 have ag:=kT hm.j4
 have bJ:=(bS hi).1
 obtain ⟨oz,jA,d,fV,ij,ND⟩:=hr.new aiA nx
 obtain rfl:d=i:=aV (fV.symm.trans hi)
 have eZ:=z1 ND fun e he=>hv.z6 bJ he
 have jK:bl v.2.1 v.1=none:=hv.free
 have qd:=hm.next
 have p2:=hm.ino _ (cE bJ)
 have aO:aX (b0 (J I v.2.1 d) (ins (ak (J I v.2.1 d)) (nameOf r) v.1))=aX (J I v.2.1 d):=so _ _
 obtain ⟨NF,xq⟩:=NB hm.j4 bJ (nameOf r) v.1
 have n3:=u4 hm.j4 bJ aO
 have Aq:aX (gl v c x (J I v.2.1 d))=gb v:=rfl
 have Ar:ak (gl v c x (J I v.2.1 d))=[]:=rfl
 have nv:=fun {z:aL} => mem_set (x:=z) ag bJ aO
 have NG:∀z,z∈v.2.1.set d (b0 (J I v.2.1 d) (ins (ak (J I v.2.1 d)) (nameOf r) v.1))→1≤aX z∧aX z≤gb v-1:=by
  intro z hz
  rcases nv.1 hz with rfl | ⟨hz,_⟩
  ·rw [aO];exact hm.ids _ (cE bJ)
  ·exact hm.ids z hz
 generalize hn:gl v c x (J I v.2.1 d)=n at *
 generalize dN:v.2.1.set d (b0 (J I v.2.1 d) (ins (ak (J I v.2.1 d)) (nameOf r) v.1))=S at *
 have WD:(S++[n]).Pairwise fun a b=>aX a<aX b:=by
  rw [List.pairwise_append]
  refine⟨n3,List.pairwise_singleton _ _,fun a ha b hb=>?_⟩
  rw [List.mem_singleton.1 hb,Aq]
  have:=NG a ha
  omega
 have i_:=kT WD
 have xr:∀a b,E S a b→E (S++[n]) a b:=by
  intro a b
  rw [h5 (kT n3),h5 i_]
  rintro ⟨z,hz,h⟩
  exact⟨z,List.mem_append.2 (.inl hz),h⟩
 have hE:∀a b,E v.2.1 a b→E (S++[n]) a b:=fun a b h=>xr a b (NF a b h)
 have aiB:∀id,bl S id=bl v.2.1 id:=fun id=>by rw [← dN];exact Ac _ bJ id
 have Gp:∀id,(bl v.2.1 id).isSome=true→(bl (S++[n]) id).isSome=true:=by
  intro id b3
  obtain ⟨y,aO,he⟩:=nw.1 (show(bl S id).isSome=true by rw [aiB];exact b3)
  exact nw.2 ⟨y,List.mem_append.2 (.inl aO),he⟩
 have aiC:(bl (S++[n]) v.1).isSome=true:=nw.2 ⟨n,List.mem_append.2 (.inr (List.mem_singleton.2 rfl)),Aq⟩
 have hdl:=hm.ids _ (cE bJ)
 have aiD:=p2.named Gp hQ jA (show v.1≠1 by show gb v≠1;omega) aiC hl eZ
 have oP:(0≤c.1∧c.1≤1000)∧(0≤c.2.1∧c.2.1≤1000):=by
  unfold dm at hc
  simp only [Bool.and_eq_true] at hc
  exact⟨dJ.1 hc.1,dJ.1 hc.2.1⟩
 have aiE:kP (S++[n]) n:=by
  have nX:0≤eU n∧eU n≤2047:=by
   rw [← hn]
   show 0≤uZ x (J I v.2.1 d)∧uZ x (J I v.2.1 d)≤2047
   unfold uZ
   by_cases jM:aE x=10
   ·rw [if_pos jM];omega
   rw [if_neg jM]
   unfold qU at j0
   rw [cd jM] at j0
   simp only [cond_false,Bool.not_eq_false'] at j0
   have hr:=dJ.1 j0
   split
   ·exact agL hr.1 hr.2
   ·exact hr
  have pM:0≤e9 n∧e9 n≤1000:=by
   rw [← hn]
   show 0≤z7 c (J I v.2.1 d)∧z7 c (J I v.2.1 d)≤1000
   unfold z7
   split
   ·exact p2.gid
   ·exact oP.2
  have jI:kindOf n=F6 x:=by rw [← hn];rfl
  have NH:bM n=if aE x=10 then iS x else []:=by rw [← hn];rfl
  have qe:en n=c.1:=by rw [← hn];rfl
  have F7:eU n=uZ x (J I v.2.1 d):=by rw [← hn];rfl
  have fW:eM n=0:=by rw [← hn];rfl
  have hi0:ez n=0:=by rw [← hn];rfl
  unfold F6 at jI
  refine⟨nX,by rw [qe];exact oP.1,pM,?_,fun _=>⟨fW,hi0,Ar⟩,fun h1=>?_,fun h3=>?_,fun h2=>?_,fun e he=>(by rw [Ar] at he;cases he),by rw [Ar];exact List.Pairwise.nil⟩
  ·rw [jI];split
   ·exact .inr (.inl rfl)
   ·split
    ·exact .inr (.inr rfl)
    ·exact .inl rfl
  ·rw [NH]
   split
   ·have:=hx.sm;omega
   ·simp
  ·have jM:aE x=10:=by
    rw [jI] at h3
    split at h3
    ·cases h3
    ·split at h3
     ·assumption
     ·cases h3
   unfold qU at j0
   rw [cD jM] at j0
   simp only [cond_true,Bool.not_eq_false'] at j0
   refine⟨by rw [NH,if_pos jM];exact j0,?_⟩
   rw [F7]
   unfold uZ
   rw [if_pos jM]
  ·have jM:aE x≠10:=by
    intro jM
    rw [jI,if_neg (by omega),if_pos jM] at h2
    cases h2
   rw [NH,if_neg jM,fW,hi0,Ar]
   exact⟨rfl,by omega,by omega,by simp⟩
 have NI:∀z,z∈v.2.1→aX z≠1→dM (S++[n]) 1 (aX z):=fun z hz hne=>xn hE (hm.reach z hz hne)
 have aiF:∀b,cg (S++[n]) b=cg v.2.1 b+cond (v.1==b) 1 0:=by
  intro b
  rw [aiv,Ar,← dN,NC bJ];rfl
 have kb:=Gn.1 hf
 refine mA.2 ⟨?_,?_,WD,?_,?_,?_,?_,?_,kb.1,kb.2⟩
 ·show 2≤gb v+1∧gb v+1≤100000
  omega
 ·show(S++[n]).length≤24
  rw [List.length_append,List.length_singleton,← dN,List.length_set];omega
 ·obtain ⟨z,hz,iY,hz2⟩:=hm.root
  by_cases Ap:aX z=aX (J I v.2.1 d)
  ·exact⟨_,List.mem_append.2 (.inl (nv.2 (.inl rfl))),by rw [aO,← Ap];exact iY,hQ⟩
  ·exact⟨z,List.mem_append.2 (.inl (nv.2 (.inr ⟨hz,by rw [aO];exact Ap⟩))),iY,hz2⟩
 ·intro z hz
  show 1≤aX z∧aX z≤gb v+1-1
  rcases List.mem_append.1 hz with hz | hz
  ·have:=NG z hz;omega
  ·rw [List.mem_singleton.1 hz,Aq];omega
 ·intro z hz
  rcases List.mem_append.1 hz with hz | hz
  ·rcases nv.1 hz with rfl | ⟨hz,_⟩
   ·exact aiD
   ·exact(hm.ino z hz).to fun e _ h=>Gp _ h
  ·rw [List.mem_singleton.1 hz];exact aiE
 ·intro z hz hne
  rcases List.mem_append.1 hz with hz | hz
  ·rcases nv.1 hz with rfl | ⟨hz,_⟩
   ·rw [aO] at hne ⊢;exact NI _ (cE bJ) hne
   ·exact NI z hz hne
  ·rw [List.mem_singleton.1 hz,Aq]
   by_cases h1:aX (J I v.2.1 d)=1
   ·exact .single (xr _ _ (h1 ▸ xq))
   ·exact .tail (NI _ (cE bJ) h1) (xr _ _ xq)
 ·intro z hz hne aiG
  show cg (S++[n]) (aX z)=1
  rw [aiF]
  rcases List.mem_append.1 hz with hz | hz
  ·have cz:=NG z hz
   rw [cd (show v.1≠aX z by show gb v≠aX z;omega)]
   rcases nv.1 hz with rfl | ⟨hz,_⟩
   ·rw [aO] at hne ⊢;exact hm.once _ (cE bJ) hne hQ
   ·exact hm.once z hz hne aiG
  ·rw [List.mem_singleton.1 hz,Aq,show cg v.2.1 (gb v)=0 from aiy hv.hp jK,cD (show v.1=gb v from rfl)];rfl
theorem Ai.ok{v:af.D}{c:aH.D}{x:aK.D}{w:af.D}(hv:bH v)(h:Ai v c x w):bH w:=by
 obtain ⟨h0,h1,r,i,_,_,hi,rfl⟩:=h.out
 have bJ:=(bS hi).1
 have bO:=hv.ino i bJ
 exact hv.keep bJ (y:=iT (J I v.2.1 i) (eU (J I v.2.1 i)) (bR x) (ea x)) rfl rfl rfl ⟨bO.mode,h0,h1,bO.kind,bO.plain,bO.file,bO.mw,bO.dir,bO.names,bO.sorted⟩ (Gg hv bJ _ _ _)
theorem Gh.ok{v:af.D}{c:aH.D}{x:aK.D}{w:af.D}(hv:bH v)(h:Gh v c x w):bH w:=by
 obtain ⟨h0,h1,_,r,i,_,_,hi,hk,rfl,hf⟩:=h.out
 have bJ:=(bS hi).1
 have bO:=hv.ino i bJ
 exact hv.keep bJ (y:=my (J I v.2.1 i) (bR x) (ea x)) rfl rfl rfl ⟨bO.mode,bO.uid,bO.gid,bO.kind,fun ee=>absurd hk ee,bO.file,bO.mw,fun ee=>⟨(bO.dir ee).1,h0,h1,(bO.dir ee).2.2.2⟩,bO.names,bO.sorted⟩ hf
theorem aiH(s:aF)(a:Nat)(d:aF)(hs:s.length≤64)(h:a+d.length≤64):(kQ s a d).length≤64:=by
 unfold kQ
 rw [List.length_append,List.length_append,pJ,List.length_drop];omega
theorem xk.ok{v:af.D}{c:aH.D}{x:aK.D}{w:af.D}(hv:bH v)(h:xk v c x w):bH w:=by
 obtain ⟨r,i,_,_,hi,hk,ji,_,ha,h⟩:=h.out
 have bJ:=(bS hi).1
 have bO:=hv.ino i bJ
 have ag:=hv.fA bJ
 rcases h with⟨_,_,rfl⟩ | ⟨_,hle,rfl,hf⟩
 ·exact hv
 ·have hlen:(iw x (J I v.2.1 i)).length≤64:=by
   unfold iw
   split
   ·rename_i bE
    rw [pJ]
    have:ej x (J I v.2.1 i)=bR x:=by unfold ej;rw [if_neg (by omega)]
    omega
   ·exact aiH _ _ _ ag (by omega)
  exact hv.keep bJ (y:=nB (J I v.2.1 i) (iw x (J I v.2.1 i))) rfl rfl rfl ⟨bO.mode,bO.uid,bO.gid,bO.kind,bO.plain,fun _=>hlen,fun h3=>absurd h3 ji,fun h2=>absurd h2 hk,bO.names,bO.sorted⟩ hf
theorem aiI{m:Int}(h:0≤m)(h':m≤2047):0≤andNot m 1024∧andNot m 1024≤2047:=by
 obtain ⟨n,rfl⟩:∃n:Nat,m=(n:Int):=⟨m.toNat,by omega⟩
 unfold andNot
 rw [show(1024:Int)=((1024:Nat):Int) from rfl,bits_nat]
 simp only
 have h1:(BitVec.ofNat 64 n &&& ~~~BitVec.ofNat 64 1024).toNat≤n:=by
  rw [BitVec.toNat_and,BitVec.toNat_ofNat,Nat.mod_eq_of_lt (show n<2 ^ 64 by omega)]
  exact Nat.and_le_left
 rw [show IntKind.wrap .i64 (((BitVec.ofNat 64 n &&& ~~~BitVec.ofNat 64 1024).toNat:Nat):Int)=(((BitVec.ofNat 64 n &&& ~~~BitVec.ofNat 64 1024).toNat:Nat):Int) from sG (by omega) (by omega)]
 omega
theorem Ah.ok{v:af.D}{c:aH.D}{x:aK.D}{w:af.D}(hv:bH v)(h:Ah v c x w):bH w:=by
 obtain ⟨h0,h1,r,i,_,_,hi,ji,_,rfl⟩:=h.out
 have bJ:=(bS hi).1
 have bO:=hv.ino i bJ
 have hm:0≤qV c x (J I v.2.1 i)∧qV c x (J I v.2.1 i)≤2047:=by
  unfold qV
  split
  ·exact aiI h0 h1
  ·exact⟨h0,h1⟩
 exact hv.keep bJ (y:=iT (J I v.2.1 i) (qV c x (J I v.2.1 i)) (en (J I v.2.1 i)) (e9 (J I v.2.1 i))) rfl rfl rfl ⟨hm,bO.uid,bO.gid,bO.kind,bO.plain,bO.file,fun h3=>absurd h3 ji,bO.dir,bO.names,bO.sorted⟩ (Gg hv bJ _ _ _)
open Classical in
noncomputable def pX(l:List aL)(id:Int):List aL:=l.filter fun x=>decide (dM l id (aX x))
theorem WE(l:List aL):l=(List.range l.length).map fun i=>J I l i:=by
 refine List.ext_getElem (by simp) fun i h1 h2=>?_
 rw [List.getElem_map,List.getElem_range,c7 h1]
open Classical in
theorem WG{l:List aL}(ag:hV l)(id:Int):(ov l (dL l id)).map (fun i=>J I l i)=pX l id:=by
 unfold pX
 conv=>rhs;rw [WE l]
 rw [List.filter_map]
 unfold ov
 congr 1
 refine List.filter_congr fun i hi=>?_
 have hi:=List.mem_range.1 hi
 have h:=w7 l ag id hi
 unfold T at h
 have e:(J .bool (dL l id) i:Bool)=decide (dM l id (aX (J I l i))):=by
  rw [Bool.eq_iff_iff,decide_eq_true_iff];exact h
 rw [e]
 simp only [Function.comp]
 rw [← WE l]
theorem WH{l:List aL}(ag:hV l)(id:Int):jB l (dL l id)=(pX l id).length:=by
 rw [← WG ag id,List.length_map];rfl
theorem WI{l:List aL}(ag:hV l)(id:Int):jf l (dL l id)=((pX l id).map fun x=>(bM x).length).sum:=by
 rw [← WG ag id,List.map_map];rfl
theorem NJ{l:List aL} : ga l=false↔∀x,x∈l→hW l x=false:=by
 unfold ga
 constructor
 ·intro h x hx
  obtain ⟨i,hi,rfl⟩:=e8 hx
  cases ha:fe l.length fun i => !hW l (J I l i) with
  | true=>simpa using kK.1 ha i hi
  | false=>rw [ha] at h;cases h
 ·intro h
  rw [kK.2 fun i hi=>by rw [h _ (cE hi)];rfl];rfl
def prs(l:List aL):List (Int×Nat):=l.map fun x=>(aX x,(bM x).length)
open Classical in
noncomputable def As(l:List aL)(id:Int):List (Int×Nat):=(prs l).filter fun p=>decide (dM l id p.1)
open Classical in
theorem Gq(l:List aL)(id:Int):(pX l id).length=(As l id).length∧((pX l id).map fun x=>(bM x).length).sum=((As l id).map fun p=>p.2).sum:=by
 have e:As l id=(pX l id).map fun x=>(aX x,(bM x).length):=by
  unfold As pX prs
  rw [List.filter_map];rfl
 rw [e,List.length_map,List.map_map]
 exact⟨rfl,rfl⟩
theorem WJ{α : Type}(f : α → Nat){kk L:List α}(h:kk.Sublist L)(p q : α → Bool)(NK:∀a,p a=true→q a=true):((kk.filter p).map f).sum≤((L.filter q).map f).sum:=by
 induction h with
 | slnil=>simp
 | cons a h ih =>
  rw [List.filter_cons (x:=a)]
  split
  ·rw [List.map_cons,List.sum_cons];omega
  ·exact ih
 | cons_cons a h ih =>
  rw [List.filter_cons,List.filter_cons]
  by_cases au:p a=true
  ·rw [if_pos au,if_pos (NK a au),List.map_cons,List.map_cons,List.sum_cons,List.sum_cons];omega
  ·rw [if_neg au]
   split
   ·rw [List.map_cons,List.sum_cons];omega
   ·exact ih
theorem NL{α : Type} : ∀L:List α,(L.map fun _=>1).sum=L.length
 | []=>rfl
 | a :: L=>by rw [List.map_cons,List.sum_cons,NL L,List.length_cons];omega
theorem aiJ{α : Type}{kk L:List α}(h:kk.Sublist L)(p q : α → Bool)(NK:∀a,p a=true→q a=true):(kk.filter p).length≤(L.filter q).length:=by
 rw [← NL,← NL]
 exact WJ (fun _=>1) h p q NK
theorem aiK{l l':List aL}(ag:hV l)(i_:hV l')(hs:(prs l').Sublist (prs l))(hE:∀a b,dM l' a b→dM l a b)(id:Int):jB l' (dL l' id)≤jB l (dL l id)∧jf l' (dL l' id)≤jf l (dL l id):=by
 rw [WH ag,WH i_,WI ag,WI i_,(Gq l id).1,(Gq l id).2,(Gq l' id).1,(Gq l' id).2]
 unfold As
 exact⟨aiJ hs _ _ fun a h=>by simp only [decide_eq_true_iff] at h ⊢;exact hE _ _ h,WJ _ hs _ _ fun a h=>by simp only [decide_eq_true_iff] at h ⊢;exact hE _ _ h⟩
theorem aiL{l l':List aL}(ag:hV l)(i_:hV l')(hs:(prs l').Sublist (prs l))(hE:∀a b,dM l' a b→dM l a b)
  (hm:∀bz,bz∈l'→∃x,x∈l∧aX x=aX bz∧eM x=eM bz∧ez x=ez bz) (h:ga l=false):ga l'=false:=by
 rw [NJ] at h ⊢
 intro bz lW
 obtain ⟨x,hx,h1,h2,h3⟩:=hm bz lW
 have h0:=h x hx
 have hu:=aiK ag i_ hs hE (aX bz)
 unfold hW at h0 ⊢
 have e:x.1=bz.1:=h1
 rw [Bool.or_eq_false_iff,Bool.and_eq_false_iff,Bool.and_eq_false_iff,decide_eq_false_iff_not,decide_eq_false_iff_not,decide_eq_false_iff_not,decide_eq_false_iff_not] at h0 ⊢
 rw [e,h2,h3] at h0
 have vP:jB l' (dL l' bz.1)≤jB l (dL l bz.1):=hu.1
 have ru:jf l' (dL l' bz.1)≤jf l (dL l bz.1):=hu.2
 refine⟨h0.1.imp id fun h=>by omega,h0.2.imp id fun h=>by omega⟩
theorem aiM{l:List aL}{p:aL→Bool}(b:Int)(h:∀x,x∈l→p x=false→ak x=[]):cg (l.filter p) b=cg l b:=by
 unfold cg
 induction l with
 | nil=>rfl
 | cons x l ih =>
  have ih:=ih fun y aO=>h y (List.mem_cons_of_mem _ aO)
  rw [List.filter_cons]
  cases au:p x with
  | true =>
   rw [if_pos rfl,List.map_cons,List.map_cons,List.sum_cons,List.sum_cons,ih]
  | false =>
   rw [if_neg (by decide),List.map_cons,List.sum_cons,ih,h x List.mem_cons_self au]
   simp [dq]
theorem aiN{l:List aL}{i:Nat}(hi:i<l.length){y:aL}(h1:aX y=aX (J I l i))(h2:bM y=bM (J I l i)):prs (l.set i y)=prs l:=by
 unfold prs
 rw [List.map_set,h1,h2,c7 hi]
 refine List.ext_getElem (by simp) fun j a b=>?_
 rw [List.getElem_set]
 split
 ·rename_i h;subst h;rw [List.getElem_map]
 ·rfl
theorem aiO{l:List aL}{b:Int}(h:cg l b≠0):∃x,x∈l∧∃d,d∈ak x∧d.2.1=b:=by
 refine Decidable.byContradiction fun hn=>h (WA fun x hx d ag he=>hn ⟨x,hx,d,ag,he⟩)
theorem WK{v:af.D}(hv:bH v){i:Nat}(hi:i<v.2.1.length){s:aF}{k:Int}(ny:dE (ak (J I v.2.1 i)) s=k)(hk0:k≠0){j:Nat}(hj:bl v.2.1 k=some j)(he:ak (J I v.2.1 j)=[]):bH (kl v i s):=by
 have hm:=mA.1 hv
 have ag:=kT hm.j4
 have hjl:=bS hj
 have pM:=cE (t:=I) hi
 have NM:=cE (t:=I) hjl.1
 have bO:=hm.ino _ pM
 obtain ⟨d,sx,Gr,fP⟩:=qQ (N:=ak (J I v.2.1 i)) (s:=s) (by rw [ny];exact hk0)
 rw [ny] at fP
 have hk1:k≠1:=fP ▸ (bO.names d sx).2.1
 have lj:aX (J I v.2.1 j)=k:=hjl.2
 have ix:aX (J I v.2.1 i)≠k:=by
  intro h
  have:=mB ag pM NM (h.trans lj.symm)
  rw [this,he] at sx;cases sx
 have aO:aX (b0 (J I v.2.1 i) (b9 (ak (J I v.2.1 i)) s))=aX (J I v.2.1 i):=so _ _
 have hr1:=u4 hm.j4 hi aO
 have Gs:=fun {x:aL} => mem_set (x:=x) ag hi aO
 have aiP:∀b,¬E v.2.1 k b:=by
  intro b h
  obtain ⟨x,hx,aiQ,e,hex,_⟩:=(h5 ag).1 h
  have:=mB ag hx NM (aiQ.trans lj.symm)
  rw [this,he] at hex;cases hex
 have aiR:∀b,cg (v.2.1.set i (b0 (J I v.2.1 i) (b9 (ak (J I v.2.1 i)) s))) b+cond (k==b) 1 0=cg v.2.1 b:=by
  intro b
  have h1:=Gm (y:=b0 (J I v.2.1 i) (b9 (ak (J I v.2.1 i)) s)) hi b
  have h2:=NA bO.sorted sx b
  rw [iR] at h1
  rw [Gr,fP] at h2
  omega
 have WL:prs (v.2.1.set i (b0 (J I v.2.1 i) (b9 (ak (J I v.2.1 i)) s)))=prs v.2.1:=aiN hi aO rfl
 have aiS:bytesOf (v.2.1.set i (b0 (J I v.2.1 i) (b9 (ak (J I v.2.1 i)) s)))=bytesOf v.2.1:=by
  have h:=VK (y:=b0 (J I v.2.1 i) (b9 (ak (J I v.2.1 i)) s)) hi
  rw [show bM (b0 (J I v.2.1 i) (b9 (ak (J I v.2.1 i)) s))=bM (J I v.2.1 i) from rfl] at h
  omega
 have lh:∀x,x∈v.2.1.set i (b0 (J I v.2.1 i) (b9 (ak (J I v.2.1 i)) s))→∃bz,bz∈v.2.1∧aX bz=aX x∧kindOf bz=kindOf x∧eM bz=eM x∧ez bz=ez x∧(∀e,e∈ak x→e∈ak bz)∧(aX x=k→ak x=[]):=by
  intro x hx
  rcases Gs.1 hx with rfl | ⟨hx,hne⟩
  ·exact⟨_,pM,rfl,rfl,rfl,rfl,fun e h=>sn h,fun h=>absurd (aO ▸ h) ix⟩
  ·exact⟨x,hx,rfl,rfl,rfl,rfl,fun e h=>h,fun h=>by rw [mB ag hx NM (h.trans lj.symm)];exact he⟩
 have NN:∀x,x∈v.2.1→∃bz,bz∈v.2.1.set i (b0 (J I v.2.1 i) (b9 (ak (J I v.2.1 i)) s))∧aX bz=aX x∧kindOf bz=kindOf x∧∀e,e∈ak x→e.2.1≠k→e∈ak bz:=by
  intro x hx
  by_cases gS:aX x=aX (J I v.2.1 i)
  ·have lW:=mB ag hx pM gS
   subst lW
   refine⟨_,Gs.2 (.inl rfl),aO,rfl,fun e h NO=>List.mem_filter.2 ⟨h,?_⟩⟩
   have:e.1≠s:=fun h1=>NO (by rw [← Ga bO.sorted h,h1,ny])
   unfold br
   simp [this]
  ·exact⟨x,Gs.2 (.inr ⟨hx,by rw [aO];exact gS⟩),rfl,rfl,fun e h _=>h⟩
 have aiT:∀x,x∈v.2.1.set i (b0 (J I v.2.1 i) (b9 (ak (J I v.2.1 i)) s))→kP v.2.1 x:=by
  intro x hx
  rcases Gs.1 hx with rfl | ⟨hx,hne⟩
  ·exact⟨bO.mode,bO.uid,bO.gid,bO.kind,fun h=>⟨(bO.plain h).1,(bO.plain h).2.1,by
    show b9 _ s=[]
    rw [(bO.plain h).2.2];rfl⟩,bO.file,bO.mw,fun h=>⟨(bO.dir h).1,(bO.dir h).2.1,(bO.dir h).2.2.1,Nat.le_trans (uX _ _) (bO.dir h).2.2.2⟩,fun e h=>bO.names e (sn h),u1 bO.sorted s⟩
  ·exact hm.ino x hx
 show bH (v.1,goN (v.2.1.set i (b0 (J I v.2.1 i) (b9 (ak (J I v.2.1 i)) s))) (dE (ak (J I v.2.1 i)) s),())
 rw [ny]
 generalize v.2.1.set i (b0 (J I v.2.1 i) (b9 (ak (J I v.2.1 i)) s))=S at *
 have fV:=kT hr1
 have i':∀x,x∈goN S k↔x∈S∧(cg S k=0→aX x≠k):=by
  intro x
  unfold goN
  by_cases h0:cg S k=0
  ·rw [decide_eq_true h0]
   simp only [cond_true,List.mem_filter,Bool.not_eq_true',beq_eq_false_iff_ne]
   exact⟨fun h=>⟨h.1,fun _=>h.2⟩,fun h=>⟨h.1,h.2 h0⟩⟩
  ·rw [decide_eq_false h0]
   exact⟨fun h=>⟨h,fun h1=>absurd h1 h0⟩,fun h=>h.1⟩
 have kv:(goN S k).Sublist S:=by
  unfold goN
  cases decide (cg S k=0)
  ·exact List.Sublist.refl _
  ·exact List.filter_sublist
 have gq:=hr1.sublist kv
 have ij:=kT gq
 have aiU:∀a b,E (goN S k) a b→E v.2.1 a b:=by
  intro a b h
  obtain ⟨x,hx,jk,e,hex,mC⟩:=(h5 ij).1 h
  obtain ⟨bz,h1,h2,_,_,_,h3,_⟩:=lh x ((i' x).1 hx).1
  exact(h5 ag).2 ⟨bz,h1,h2.trans jk,e,h3 e hex,mC⟩
 have xr:∀a b,E S a b→E (goN S k) a b:=by
  intro a b h
  obtain ⟨x,hx,jk,e,hex,mC⟩:=(h5 fV).1 h
  refine(h5 ij).2 ⟨x,(i' x).2 ⟨hx,fun _ hk=>?_⟩,jk,e,hex,mC⟩
  obtain ⟨_,_,_,_,_,_,_,jr⟩:=lh x hx
  rw [jr hk] at hex;cases hex
 have WM:∀a b,b≠k→E v.2.1 a b→E (goN S k) a b:=by
  intro a b hb h
  obtain ⟨x,hx,jk,e,hex,mC⟩:=(h5 ag).1 h
  obtain ⟨bz,h1,h2,_,h3⟩:=NN x hx
  exact xr a b ((h5 fV).2 ⟨bz,h1,h2.trans jk,e,h3 e hex (mC ▸ hb),mC⟩)
 have fp:∀b,dM v.2.1 1 b→b≠k→dM (goN S k) 1 b:=by
  intro b h
  induction h with
  | single h=>exact fun hb=>.single (WM _ _ hb h)
  | tail h1 h2 ih=>exact fun hb=>.tail (ih fun h=>aiP _ (h ▸ h2)) (WM _ _ hb h2)
 have aiV:∀b,cg (goN S k) b=cg S b:=by
  intro b
  unfold goN
  cases decide (cg S k=0)
  ·rfl
  ·refine aiM b fun x hx au=>?_
   obtain ⟨_,_,_,_,_,_,_,jr⟩:=lh x hx
   have e:x.1=k:=by simpa using au
   exact jr e
 have Gp:∀x,x∈goN S k→∀e,e∈ak x→(bl v.2.1 e.2.1).isSome=true→(bl (goN S k) e.2.1).isSome=true:=by
  intro x hx e hex hs
  obtain ⟨y,aO,w9⟩:=nw.1 hs
  obtain ⟨lM,h1,h2,_,_⟩:=NN y aO
  refine nw.2 ⟨lM,(i' lM).2 ⟨h1,fun h0 hk=>?_⟩,h2.trans w9⟩
  refine F3 h0 x ((i' x).1 hx).1 e hex ?_
  exact w9.symm.trans (h2.symm.trans hk)
 refine mA.2 ⟨hm.next,Nat.le_trans kv.length_le ?_,gq,?_,?_,?_,?_,?_,?_,?_⟩
 ·have:=congrArg List.length WL
  unfold prs at this
  rw [List.length_map,List.length_map] at this
  rw [this];exact hm.len
 ·obtain ⟨z,hz,iY,hz2⟩:=hm.root
  obtain ⟨js,h1,h2,h3,_⟩:=NN z hz
  exact⟨js,(i' js).2 ⟨h1,fun _ h=>hk1 (h.symm.trans (h2.trans iY))⟩,h2.trans iY,h3.trans hz2⟩
 ·intro x hx
  obtain ⟨bz,h1,h2,_⟩:=lh x ((i' x).1 hx).1
  rw [← h2];exact hm.ids bz h1
 ·intro x hx
  exact(aiT x ((i' x).1 hx).1).to fun e hex h=>Gp x hx e hex h
 ·intro x hx hne
  obtain ⟨bz,h1,h2,_⟩:=lh x ((i' x).1 hx).1
  by_cases hk:aX x=k
  ·have h0:cg S k≠0:=fun h0=>((i' x).1 hx).2 h0 hk
   obtain ⟨z,hz,e,NP,NO⟩:=aiO h0
   have WN:E (goN S k) (aX z) k:=xr _ _ ((h5 fV).2 ⟨z,hz,rfl,e,NP,NO⟩)
   obtain ⟨js,g1,g2,_,_,_,_,g9⟩:=lh z hz
   rw [hk]
   by_cases iY:aX z=1
   ·exact .single (iY ▸ WN)
   ·refine .tail (fp _ (g2 ▸ hm.reach js g1 (by rw [g2];exact iY)) fun h=>?_) WN
    rw [g9 h] at NP;cases NP
  ·exact fp _ (h2 ▸ hm.reach bz h1 (by rw [h2];exact hne)) hk
 ·intro x hx hne aiW
  obtain ⟨bz,h1,h2,h3,_⟩:=lh x ((i' x).1 hx).1
  have ho:=hm.once bz h1 (by rw [h2];exact hne) (h3.trans aiW)
  have hn:=aiR (aX x)
  rw [h2] at ho
  show cg (goN S k) (aX x)=1
  rw [aiV]
  by_cases hk:aX x=k
  ·exfalso
   rw [cD hk.symm] at hn
   simp only [cond_true] at hn
   exact((i' x).1 hx).2 (by rw [← hk];omega) hk
  ·rw [cd (fun h=>hk h.symm)] at hn
   simp only [cond_false] at hn
   omega
 ·refine Nat.le_trans ?_ (aiS ▸ hm.bytes)
  unfold goN
  cases decide (cg S k=0)
  ·exact Nat.le_refl _
  ·exact F4 _ _ S
 ·refine aiL ag ij ?_ (fun a b h=>xn aiU h) (fun x hx=>?_) hm.over
  ·rw [← WL];exact kv.map _
  ·obtain ⟨bz,h1,h2,_,h4,a7,_⟩:=lh x ((i' x).1 hx).1
   exact⟨bz,h1,h2,h4,a7⟩
theorem z'.ok{v:af.D}{c:aH.D}{x:aK.D}{w:af.D}(hv:bH v)(h:z' v c x w):bH w:=by
 obtain ⟨r,i,j,hr,hc,hn,hi,_,hl,hj,he,_,_,rfl⟩:=h.out
 exact WK hv (bS hi).1 hl (hr.named hc hn).1 hj he
theorem WO{u:af.D}(hu:bH u){rd jj:Int}{ir it:Nat}{cq dF:aF}{bA:Int}(h:pG u.2.1 rd jj ir it cq dF bA)(htn:hU dF=true)(hlen:rd≠jj→(ak (J I u.2.1 it)).length<12)
  (hb:∀j,bl u.2.1 bA=some j→kindOf (J I u.2.1 j)=2→jj≠bA∧¬dM u.2.1 bA jj) (hf:e_ (c9 u.2.1 ir cq it dF bA)=0):bH (u.1,c9 u.2.1 ir cq it dF bA,()):=by
 have hm:=mA.1 hu
 have ag:=kT hm.j4
 have u5:=bS h.hr
 have At:=bS h.ht
 have nA:=cE (t:=I) u5.1
 have bO:=hm.ino _ nA
 have aiX:aX (J I u.2.1 ir)=rd:=u5.2
 have xt:aX (J I u.2.1 it)=jj:=At.2
 obtain ⟨j,hj⟩:=Option.isSome_iff_exists.1 h.ex
 have hjl:=bS hj
 have WQ:aX (J I u.2.1 j)=bA:=hjl.2
 obtain ⟨d,sx,Gr,fP⟩:=qQ (N:=ak (J I u.2.1 ir)) (s:=cq) (by rw [h.look];exact h.V1)
 rw [h.look] at fP
 have aiY:bA≠1:=fP ▸ (bO.names d sx).2.1
 have xu:aX (b0 (J I u.2.1 ir) (b9 (ak (J I u.2.1 ir)) cq))=aX (J I u.2.1 ir):=so _ _
 have xv:=fun {x:aL} => mem_set (x:=x) ag u5.1 xu
 have hr1:(cP u.2.1 ir cq).Pairwise fun a b=>aX a<aX b:=u4 hm.j4 u5.1 xu
 have fV:=kT hr1
 have Au:∀id,bl (cP u.2.1 ir cq) id=bl u.2.1 id:=fun id=>Nd u5.1 id
 have hl1:(cP u.2.1 ir cq).length=u.2.1.length:=List.length_set
 have xw:it<(cP u.2.1 ir cq).length:=by rw [hl1];exact At.1
 have aiZ:∀b,cg (cP u.2.1 ir cq) b+cond (bA==b) 1 0=cg u.2.1 b:=by
  intro b
  have h1:=Gm (y:=b0 (J I u.2.1 ir) (b9 (ak (J I u.2.1 ir)) cq)) u5.1 b
  have h2:=NA bO.sorted sx b
  rw [iR] at h1
  rw [Gr,fP] at h2
  show cg (List.set _ _ _) b+_=_
  omega
 have WR:∀x,x∈cP u.2.1 ir cq→kP (cP u.2.1 ir cq) x:=by
  intro x hx
  rcases xv.1 hx with rfl | ⟨hx,hne⟩
  ·exact⟨bO.mode,bO.uid,bO.gid,bO.kind,fun hk=>absurd h.Ab hk,bO.file,bO.mw,fun hk=>⟨(bO.dir hk).1,(bO.dir hk).2.1,(bO.dir hk).2.2.1,Nat.le_trans (uX _ _) (bO.dir hk).2.2.2⟩,fun e he=>by
    rw [Au];exact bO.names e (sn he),u1 bO.sorted cq⟩
  ·exact(hm.ino x hx).to fun e _ hs=>by rw [Au];exact hs
 have NF:∀a b,b≠bA→E u.2.1 a b→E (cP u.2.1 ir cq) a b:=by
  intro a b dA hE
  obtain ⟨x,hx,jk,e,hex,mC⟩:=(h5 ag).1 hE
  by_cases gS:aX x=aX (J I u.2.1 ir)
  ·have lW:=mB ag hx nA gS
   subst lW
   refine(h5 fV).2 ⟨_,xv.2 (.inl rfl),xu.trans jk,e,List.mem_filter.2 ⟨hex,?_⟩,mC⟩
   have:e.1≠cq:=fun h1=>dA (by rw [← mC,← Ga bO.sorted hex,h1,h.look])
   unfold br
   simp [this]
  ·exact(h5 fV).2 ⟨x,xv.2 (.inr ⟨hx,by rw [xu];exact gS⟩),jk,e,hex,mC⟩
 have ai0:∀x,x∈u.2.1→∃bz,bz∈cP u.2.1 ir cq∧aX bz=aX x∧kindOf bz=kindOf x:=by
  intro x hx
  by_cases gS:aX x=aX (J I u.2.1 ir)
  ·exact⟨_,xv.2 (.inl rfl),xu.trans gS.symm,by rw [mB ag hx nA gS];rfl⟩
  ·exact⟨x,xv.2 (.inr ⟨hx,by rw [xu];exact gS⟩),rfl,rfl⟩
 have WS:∀x,x∈cP u.2.1 ir cq→∃bz,bz∈u.2.1∧aX bz=aX x∧kindOf bz=kindOf x:=by
  intro x hx
  rcases xv.1 hx with rfl | ⟨hx,hne⟩
  ·exact⟨_,nA,rfl,rfl⟩
  ·exact⟨x,hx,rfl,rfl⟩
 have pI:kindOf (J I (cP u.2.1 ir cq) it)=2∧(ak (J I (cP u.2.1 ir cq) it)).length<12∧(∀e,e∈ak (J I (cP u.2.1 ir cq) it)→e.1≠dF)∧aX (J I (cP u.2.1 ir cq) it)=jj:=by
  unfold cP
  rw [gR u5.1]
  by_cases hii:ir=it
  ·subst hii
   rw [if_pos rfl]
   refine⟨h.Ab,?_,fun e he=>h.no e (sn he),xt⟩
   show(b9 (ak (J I u.2.1 ir)) cq).length<12
   have lg:=(bO.dir h.Ab).2.2.2
   have:(b9 (ak (J I u.2.1 ir)) cq).length<(ak (J I u.2.1 ir)).length:=by
    unfold b9
    refine List.length_filter_lt_length_iff_exists.2 ⟨d,sx,?_⟩
    unfold br
    simp [Gr]
   omega
  ·rw [if_neg hii]
   refine⟨h.Nc,hlen fun he=>hii ?_,h.no,xt⟩
   have:=mB ag nA (cE At.1) (by rw [aiX,xt];exact he)
   have e1:=h.hr
   rw [he,h.ht] at e1
   exact(aV e1).symm
 have NQ:=cE (t:=I) xw
 have Av:aX (b0 (J I (cP u.2.1 ir cq) it) (ins (ak (J I (cP u.2.1 ir cq) it)) dF bA))=aX (J I (cP u.2.1 ir cq) it):=so _ _
 have Gt:=fun {x:aL} => mem_set (x:=x) fV xw Av
 have gq:(c9 u.2.1 ir cq it dF bA).Pairwise fun a b=>aX a<aX b:=u4 hr1 xw Av
 obtain ⟨xq,Aw⟩:=NB hr1 xw dF bA
 rw [pI.2.2.2] at Aw
 have xq:∀a b,E (cP u.2.1 ir cq) a b→E (c9 u.2.1 ir cq it dF bA) a b:=xq
 have Aw:E (c9 u.2.1 ir cq it dF bA) jj bA:=Aw
 have NR:∀id,bl (c9 u.2.1 ir cq it dF bA) id=bl u.2.1 id:=fun id=>(V2 xw id).trans (Au id)
 have ai1:∀b,cg (c9 u.2.1 ir cq it dF bA) b=cg u.2.1 b:=by
  intro b
  have h1:cg (c9 u.2.1 ir cq it dF bA) b=cg (cP u.2.1 ir cq) b+cond (bA==b) 1 0:=NC xw dF bA b
  have h2:=aiZ b
  omega
 have ai2:∀x,x∈u.2.1→∃bz,bz∈c9 u.2.1 ir cq it dF bA∧aX bz=aX x∧kindOf bz=kindOf x:=by
  intro x hx
  obtain ⟨U,a1,a2,a3⟩:=ai0 x hx
  by_cases gS:aX U=aX (J I (cP u.2.1 ir cq) it)
  ·exact⟨_,Gt.2 (.inl rfl),Av.trans (gS.symm.trans a2),by rw [← a3,mB fV a1 NQ gS];rfl⟩
  ·exact⟨U,Gt.2 (.inr ⟨a1,by rw [Av];exact gS⟩),a2,a3⟩
 have hbk:∀x,x∈c9 u.2.1 ir cq it dF bA→∃bz,bz∈u.2.1∧aX bz=aX x∧kindOf bz=kindOf x:=by
  intro x hx
  rcases Gt.1 hx with rfl | ⟨hx,hne⟩
  ·obtain ⟨bz,a1,a2,a3⟩:=WS _ NQ
   exact⟨bz,a1,a2.trans Av.symm,a3⟩
  ·exact WS x hx
 have hE:∀a b,b≠bA→E u.2.1 a b→E (c9 u.2.1 ir cq it dF bA) a b:=fun a b dA he=>xq a b (NF a b dA he)
 have WT:jj≠bA∧¬dM u.2.1 bA jj:=by
  by_cases hk:kindOf (J I u.2.1 j)=2
  ·exact hb j hj hk
  ·have ai3:∀b,¬E u.2.1 bA b:=by
    intro b he
    obtain ⟨x,hx,jk,e,hex,_⟩:=(h5 ag).1 he
    rw [mB ag hx (cE hjl.1) (jk.trans WQ.symm),((hm.ino _ (cE hjl.1)).plain hk).2.2] at hex
    cases hex
   refine⟨fun he=>hk ?_,fun fp=>?_⟩
   ·rw [← mB ag (cE At.1) (cE hjl.1) (by rw [xt,WQ];exact he)];exact h.Nc
   ·have:∀c,dM u.2.1 bA c→False:=by
     intro c hc
     induction hc with
     | single h=>exact ai3 _ h
     | tail _ _ ih=>exact ih
    exact this _ fp
 have s_:∀c,dM u.2.1 1 c→c≠bA→¬dM u.2.1 bA c→dM (c9 u.2.1 ir cq it dF bA) 1 c:=by
  intro c hc
  induction hc with
  | single h1=>exact fun hne _=>.single (hE _ _ hne h1)
  | tail h1 h2 ih=>exact fun hne lZ=>.tail (ih (fun he=>lZ (.single (he ▸ h2))) fun fp=>lZ (.tail fp h2)) (hE _ _ hne h2)
 have WU:dM (c9 u.2.1 ir cq it dF bA) 1 bA:=by
  by_cases h1:jj=1
  ·exact .single (h1 ▸ Aw)
  ·refine .tail (s_ jj ?_ WT.1 WT.2) Aw
   have:=hm.reach _ (cE At.1) (by rw [xt];exact h1)
   rwa [xt] at this
 have hA:∀c,dM u.2.1 1 c→dM (c9 u.2.1 ir cq it dF bA) 1 c:=by
  intro c hc
  induction hc with
  | @single b h1 =>
   by_cases Ax:b=bA
   ·rw [Ax];exact WU
   ·exact .single (hE _ _ Ax h1)
  | @tail b c h1 h2 ih =>
   by_cases Ax:c=bA
   ·rw [Ax];exact WU
   ·exact .tail ih (hE _ _ Ax h2)
 have kb:=Gn.1 hf
 refine mA.2 ⟨hm.next,?_,gq,?_,?_,?_,?_,?_,kb.1,kb.2⟩
 ·show(List.set _ _ _).length≤24
  rw [List.length_set,hl1];exact hm.len
 ·obtain ⟨z,hz,iY,hz2⟩:=hm.root
  obtain ⟨js,a1,a2,a3⟩:=ai2 z hz
  exact⟨js,a1,a2.trans iY,a3.trans hz2⟩
 ·intro x hx
  obtain ⟨bz,a1,a2,a3⟩:=hbk x hx
  rw [← a2];exact hm.ids bz a1
 ·intro x hx
  rcases Gt.1 hx with rfl | ⟨hx,hne⟩
  ·refine(WR _ NQ).named (l':=c9 u.2.1 ir cq it dF bA) (fun id hs=>?_) pI.1 htn aiY (by rw [NR];exact h.ex) pI.2.1 pI.2.2.1
   rw [NR];rwa [Au] at hs
  ·refine(WR x hx).to fun e _ hs=>?_
   show(bl (c9 u.2.1 ir cq it dF bA) e.2.1).isSome=true
   rw [NR];rwa [Au] at hs
 ·intro x hx hne
  obtain ⟨bz,a1,a2,a3⟩:=hbk x hx
  rw [← a2];exact hA _ (hm.reach bz a1 (by rw [a2];exact hne))
 ·intro x hx hne hk
  obtain ⟨bz,a1,a2,a3⟩:=hbk x hx
  show cg (c9 u.2.1 ir cq it dF bA) (aX x)=1
  rw [ai1,← a2]
  exact hm.once bz a1 (by rw [a2];exact hne) (a3.trans hk)
theorem ai4{v:af.D}{s:aF}(hv:bH v){i:Nat}(hi:i<v.2.1.length)(hw:bH (kl v i s))(a b:Int)(h:E (kl v i s).2.1 a b):E v.2.1 a b:=by
 have hm:=mA.1 hv
 have ag:=kT hm.j4
 have ij:=kT (mA.1 hw).j4
 have aO:aX (b0 (J I v.2.1 i) (b9 (ak (J I v.2.1 i)) s))=aX (J I v.2.1 i):=so _ _
 obtain ⟨x,hx,jk,e,hex,mC⟩:=(h5 ij).1 h
 have kv:x∈v.2.1.set i (b0 (J I v.2.1 i) (b9 (ak (J I v.2.1 i)) s)):=by
  unfold kl goN at hx
  cases hc:decide (cg (v.2.1.set i (b0 (J I v.2.1 i) (b9 (ak (J I v.2.1 i)) s))) (dE (ak (J I v.2.1 i)) s)=0) with
  | true=>rw [hc] at hx;exact(List.mem_filter.1 hx).1
  | false=>rw [hc] at hx;exact hx
 rcases (mem_set ag hi aO).1 kv with rfl | ⟨hx,_⟩
 ·exact(h5 ag).2 ⟨_,cE hi,aO.symm.trans jk,e,sn hex,mC⟩
 ·exact(h5 ag).2 ⟨x,hx,jk,e,hex,mC⟩
theorem u2.ok{v:af.D}{c:aH.D}{x:aK.D}{w:af.D}(hv:bH v)(h:u2 v c x w):bH w:=by
 obtain ⟨r,t,j,hr,hc,nx,hj,ht,htn,pH,_,h⟩:=h.out
 have iL:hU (nameOf t)=true:=by
  rcases pH with h0 | h2
  ·exact(ht.named h0 htn).2.1
  ·exact(ht.new h2 htn).2.1
 rcases h with⟨_,rfl⟩ | ⟨hne,lZ,l,ir,it,au,rfl,hf,h⟩
 ·exact hv
 rcases h with⟨_,rfl,hlen⟩ | ⟨i2,ew,gr,hk2,iZ,qa,dO,hkk,rfl⟩
 ·refine WO hv au iL hlen (fun ku hj' hk=>?_) hf
  obtain rfl:ku=j:=aV (hj'.symm.trans hj)
  exact lZ hk
 ·have uU:=bS gr
  have oz:bb t≠0:=by
   have:=hv.VP (cE (bS iZ).1)
   have e:aX (J I v.2.1 ew)=bb t:=(bS iZ).2
   omega
  have hu:=WK hv uU.1 dO oz iZ qa
  obtain ⟨_,hK⟩:=V7 hv uU.1 hk2 (nameOf t)
  have hE:=fun a b=>ai4 (s:=nameOf t) hv uU.1 hu a b
  have gD:(ak (J I (kl v i2 (nameOf t)).2.1 it)).length<12:=by
   have j1:bY t≠dE (ak (J I v.2.1 i2)) (nameOf t):=by
    rw [dO]
    intro e
    rw [← e,gr] at iZ
    rw [← aV iZ] at qa
    obtain ⟨d,fV,_⟩:=qQ (N:=ak (J I v.2.1 i2)) (s:=nameOf t) (by rw [dO];exact oz)
    rw [qa] at fV;cases fV
   obtain ⟨k',ee,aA⟩:=hK (bY t) j1 i2 gr
   obtain rfl:k'=it:=aV (ee.symm.trans au.ht)
   rw [aA,if_pos rfl,iR]
   have lg:=((hv.ino i2 uU.1).dir hk2).2.2.2
   obtain ⟨d,fV,ij,_⟩:=qQ (N:=ak (J I v.2.1 i2)) (s:=nameOf t) (by rw [dO];exact oz)
   have:(b9 (ak (J I v.2.1 i2)) (nameOf t)).length<(ak (J I v.2.1 i2)).length:=by
    unfold b9
    refine List.length_filter_lt_length_iff_exists.2 ⟨d,fV,?_⟩
    unfold br
    simp [ij]
   omega
  refine WO hu au iL (fun _=>gD) (fun ku hj' hk=>?_) hf
  have NS:bb r≠dE (ak (J I v.2.1 i2)) (nameOf t):=by rw [dO];exact fun e=>hne e.symm
  obtain ⟨k',ee,aA⟩:=hK (bb r) NS j hj
  obtain rfl:k'=ku:=aV (ee.symm.trans hj')
  have qN:kindOf (J I v.2.1 j)=2:=by
   rw [aA] at hk
   split at hk
   ·rename_i e;subst e;exact hk
   ·exact hk
  exact⟨(lZ qN).1,fun fp=>(lZ qN).2 (xn hE fp)⟩
theorem oB.ok{v:af.D}{c:aH.D}{x:aK.D}{w:af.D}(hv:bH v)(hc:dm c=true)(hx:iu x)(h:oB v c x w):bH w:=by
 rcases h with⟨hk,h⟩ | ⟨_,h⟩ | ⟨_,h⟩ | ⟨_,h⟩ | ⟨_,h⟩ | ⟨_,h⟩ | ⟨_,h⟩ | ⟨_,h⟩ | ⟨_,h⟩
 ·exact h.ok hv hc hx hk
 ·exact h.ok hv
 ·exact h.ok hv hx
 ·exact h.ok hv
 ·exact h.ok hv
 ·exact h.ok hv
 ·exact h.ok hv
 ·exact h.ok hv
 ·rw [h];exact hv
theorem Am.ok{v:af.D}{c:aH.D}{x:aK.D}{w:af.D}{k:Int}{t:aF}(h:Am v c x w k t)(hv:jY v=true):jY w=true:=by
 have h0:w=v→jY w=true:=fun e=>by rw [e];exact hv
 cases hc:dm c with
 | false=>exact h0 (h.Wu hv hc).1
 | true =>
 cases hcall:jW x with
 | false=>exact h0 (h.call hv hc (.inl hcall)).1
 | true =>
 by_cases kn:20<aE x
 ·exact h0 (h.call hv hc (.inr kn)).1
 by_cases hk:k=0
 ·exact py.2 ((h.done hv hc hcall (by omega) hk).ok (py.1 hv) hc (xi.1 hcall))
 ·exact h0 (h.no hv hk)
end Go.LM.kc
