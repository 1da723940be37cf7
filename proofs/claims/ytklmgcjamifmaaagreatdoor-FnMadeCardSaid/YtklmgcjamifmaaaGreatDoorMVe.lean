/- Tellings, the call as a whole; a right volume stays right. Conditions: each theorem's own hypotheses. -/
import Derived.Test.YtklmgcjamifmaaaGreatDoorMVd
set_option linter.unusedVariables false
set_option linter.unusedSimpArgs false
namespace Go.LM.kD
def l6(a:Int):aF:=gB [IntKind.wrap .u8 (aG (48+a))]
theorem rb(a:Int):(l6 a).length=1:=rfl
def lr(x:Int):Int:=if Int.tmod x 10<0 then -(Int.tmod x 10) else Int.tmod x 10
def s4(b:Bool)(t:aF):aF:=cond b ([45]++t) t
theorem WH(m:Nat)(x:Int)(t:aF)(b:Bool):pM (m+1) x t b=zy (pM m) x t b:=rfl
theorem aii(m:Nat)(y:Int)(t:aF)(x:Int):(mO (m+1)).ba y t x=Lr (mO m) y t x:=rfl
theorem aij(m:Nat)(y:Int)(t:aF)(x a:Int):(mO (m+1)).dj y t x a=Ls (mO m) y t x a:=rfl
theorem NL(x:Int):(-9≤Int.tmod x 10∧Int.tmod x 10≤9)∧(0≤x→0≤Int.tmod x 10)∧(x≤0→Int.tmod x 10≤0):=by
 have h1:=Int.tmod_lt_of_pos x (show(0:Int)<10 by decide)
 have h2:=Int.lt_tmod_of_pos x (show(0:Int)<10 by decide)
 refine⟨by omega,fun h=>Int.tmod_nonneg _ h,fun h=>?_⟩
 have h3:0≤Int.tmod (-x) 10:=Int.tmod_nonneg _ (by omega)
 rw [Int.neg_tmod] at h3
 omega
theorem NM(x:Int):10*Int.tdiv x 10+Int.tmod x 10=x:=Int.mul_tdiv_add_tmod x 10
theorem WI(neg:Bool)(t:aF)(h:t.length≤1000) :
  cond neg (cond (room (([45]:aF).length+t.length)) (some (([45]:aF)++t,())) none) (some (t,()))=some (s4 neg t,()):=by
 rw [cI (by simp;omega)]
 cases neg <;> rfl
theorem aik(m:Nat)(t:aF)(neg:Bool)(h:t.length≤1000):pM (m+1) 0 t neg=some (s4 neg t,()):=by
 rw [WH]
 unfold zy
 rw [show((0:Int) != 0)=false from rfl]
 simp only [cond_false]
 exact WI neg t h
theorem WJ(m:Nat)(x:Int)(t:aF)(neg:Bool)(hx:x≠0)(h:t.length≤1000)(hb : -4000000000000000000≤x∧x≤4000000000000000000):pM (m+1) x t neg=pM m (Int.tdiv x 10) (l6 (lr x)++t) neg:=by
 have h1:=NL x
 have h2:=NM x
 rw [WH]
 unfold zy
 rw [cV hx]
 simp only [cond_true]
 rw [dI (a:=Int.tdiv x 10) (by omega) (by omega)]
 by_cases hn:Int.tmod x 10<0
 ·rw [decide_eq_true hn]
  simp only [cond_true]
  rw [dI (a:=0-Int.tmod x 10) (by omega) (by omega)]
  rw [show lr x=0-Int.tmod x 10 by unfold lr;rw [if_pos hn];omega]
  rw [show gB [IntKind.wrap .u8 (aG (48 +(0-Int.tmod x 10)))]=l6 (0-Int.tmod x 10) from rfl,cI (by rw [rb];omega)]
  rfl
 ·rw [decide_eq_false hn]
  simp only [cond_false]
  rw [show lr x=Int.tmod x 10 by unfold lr;rw [if_neg hn]]
  rw [show gB [IntKind.wrap .u8 (aG (48+Int.tmod x 10))]=l6 (Int.tmod x 10) from rfl,cI (by rw [rb];omega)]
  rfl
theorem NN(m:Nat)(y x:Int)(t:aF)(h:t.length≤900)(hb : -4000000000000000000≤x∧x≤4000000000000000000) :
  (mO (m+2)).ba y t x=cond (c0 x (-9) 9) (some (s4 (decide (y<0)) (l6 (lr x)++t),())) ((mO m).ba y (l6 (lr x)++t) (Int.tdiv x 10)):=by
 have h1:=NL x
 have h2:=NM x
 have key:∀a,(mO (m+1)).dj y t x a=cond (c0 x (-9) 9) (some (s4 (decide (y<0)) (l6 a++t),())) ((mO m).ba y (l6 a++t) (Int.tdiv x 10)):=by
  intro a
  rw [aij]
  unfold Ls
  rw [show gB [IntKind.wrap .u8 (aG (48+a))]=l6 a from rfl,cI (by rw [rb];omega),jw,dI (a:=Int.tdiv x 10) (by omega) (by omega)]
  simp only [cond_true,av]
  rw [WI (decide (y<0)) (l6 a++t) (by rw [List.length_append,rb];omega)]
 rw [aii]
 unfold Lr
 by_cases hn:Int.tmod x 10<0
 ·rw [decide_eq_true hn]
  simp only [cond_true]
  rw [dI (a:=0-Int.tmod x 10) (by omega) (by omega),key,show lr x=0-Int.tmod x 10 by unfold lr;rw [if_pos hn];omega]
 ·rw [decide_eq_false hn]
  simp only [cond_false]
  rw [key,show lr x=Int.tmod x 10 by unfold lr;rw [if_neg hn]]
theorem ail:∀(k:Nat) (x:Int),k≤18→x≠0 → -(10 ^ k:Int)<x→x<(10 ^ k:Int) →
  ∃t:aF,t.length≤k∧(∀(m:Nat) (a:aF) (neg:Bool),k<m→a.length+k≤500→pM m x a neg=some (s4 neg (t++a),())) ∧
   (∀(m:Nat) (y:Int) (a:aF),2*k<m→a.length+k≤500→(mO m).ba y a x=some (s4 (decide (y<0)) (t++a),())):=by
 intro k
 induction k with
 | zero=>intro x hk h0 h1 h2;simp at h1 h2;omega
 | succ k ih =>
  intro x hk h0 h1 h2
  have ag:=NL x
  have hm:=NM x
  have AG:(10 ^ k:Int)≤100000000000000000:=by
   have:(10:Nat) ^ k≤10 ^ 17:=Nat.pow_le_pow_right (by decide) (by omega)
   have h3:((10 ^ k:Nat):Int)≤((10 ^ 17:Nat):Int):=Int.ofNat_le.2 this
   simpa using h3
  have au:(10 ^ (k+1):Int)=10*10 ^ k:=by rw [Int.pow_succ];omega
  rw [au] at h1 h2
  generalize hg:(10 ^ k:Int)=P at *
  by_cases iZ : -9≤x∧x≤9
  ·refine⟨l6 (lr x),by rw [rb];omega,fun m a neg pt ha=>?_,fun m y a pt ha=>?_⟩
   ·obtain ⟨m,rfl⟩:∃q,m=q+1+1:=⟨m-2,by omega⟩
    rw [WJ _ x a neg h0 (by omega) (by omega),show Int.tdiv x 10=0 by omega]
    exact aik m _ neg (by rw [List.length_append,rb];omega)
   ·obtain ⟨m,rfl⟩:∃q,m=q+2:=⟨m-2,by omega⟩
    rw [NN m y x a (by omega) (by omega),show c0 x (-9) 9=true from dM.2 iZ];rfl
  ·obtain ⟨t,ht,hs,hi⟩:=ih (Int.tdiv x 10) (by omega) (by omega) (by omega) (by omega)
   refine⟨t++l6 (lr x),by rw [List.length_append,rb];omega,fun m a neg pt ha=>?_,fun m y a pt ha=>?_⟩
   ·obtain ⟨m,rfl⟩:∃q,m=q+1:=⟨m-1,by omega⟩
    rw [WJ _ x a neg h0 (by omega) (by omega)]
    rw [hs m (l6 (lr x)++a) neg (by omega) (by rw [List.length_append,rb];omega),List.append_assoc]
   ·obtain ⟨m,rfl⟩:∃q,m=q+2:=⟨m-2,by omega⟩
    rw [NN m y x a (by omega) (by omega),show c0 x (-9) 9=false from Bool.eq_false_iff.2 fun h=>iZ (dM.1 h)]
    simp only [cond_false]
    rw [hi m y (l6 (lr x)++a) (by omega) (by rw [List.length_append,rb];omega),List.append_assoc]
def p7(x:Int):aF:=match zU (x,()) with | some r=>r.1 | none=>[]
theorem lu(x:Int)(h : -1000000000000<x∧x<1000000000000):(p7 x).length≤20∧hO (x,())=some (p7 x,())∧zU (x,())=some (p7 x,()):=by
 obtain ⟨t,h1,h2,h3⟩:∃t:aF,t.length≤20∧hO (x,())=some (t,())∧zU (x,())=some (t,()):=by
  by_cases h0:x=0
  ·subst h0
   refine⟨[48],by simp,rfl,?_⟩
   obtain ⟨q,hq,_⟩:=iI 2
   show(mO aP).ba 0 [] 0=_
   rw [hq,NN q 0 0 [] (by simp) (by omega)];rfl
  ·obtain ⟨t,ht,hs,hi⟩:=ail 12 x (by omega) h0 (by simpa using h.1) (by simpa using h.2)
   refine⟨s4 (decide (x<0)) t,?_,?_,?_⟩
   ·unfold s4
    cases decide (x<0)
    ·simp only [cond_false];omega
    ·simp only [cond_true,List.length_append,List.length_cons,List.length_nil];omega
   ·show cond (x==0) _ (pM aP x [] (decide (x<0)))=_
    rw [b5 h0]
    simp only [cond_false]
    rw [hs aP [] _ (ju (by omega)) (by simp),List.append_nil]
   ·show(mO aP).ba x [] x=_
    rw [hi aP x [] (ju (by omega)) (by simp),List.append_nil]
 have e:p7 x=t:=by unfold p7;rw [h3]
 rw [e]
 exact⟨h1,h2,h3⟩
theorem aim(xs:List aF)(sep:aF)(B:Nat)(h:∀t,t∈xs→t.length≤B):(Lib.joinTail sep xs).length≤xs.length*(sep.length+B):=by
 induction xs with
 | nil=>simp [Lib.joinTail]
 | cons y r ih =>
  have h1:=h y (by simp)
  have h2:=ih fun t ht=>h t (by simp [ht])
  simp only [Lib.joinTail,List.map_cons,List.flatten_cons,List.length_append,List.length_cons,Nat.add_one_mul] at h2 ⊢
  omega
theorem GK(xs:List aF)(sep:aF)(B:Nat)(h:∀t,t∈xs→t.length≤B):(Lib.join xs sep).length≤xs.length*(sep.length+B):=by
 cases xs with
 | nil=>simp [Lib.join_nil]
 | cons y r =>
  have h1:=h y (by simp)
  have h2:=aim r sep B fun t ht=>h t (by simp [ht])
  rw [Lib.join_cons,List.length_append,List.length_cons,Nat.add_one_mul]
  omega
theorem ain(xs:List aF)(y sep:aF)(h:xs≠[]):Lib.join (xs++[y]) sep=Lib.join xs sep++sep++y:=by
 cases xs with
 | nil=>exact absurd rfl h
 | cons x r=>simp [Lib.join_cons,Lib.joinTail,List.append_assoc]
theorem WK(xs:List aF)(sep:aF)(B:Nat)(h:∀t,t∈xs→t.length≤B)(hl:xs.length*(sep.length+B)≤68719476736)(hn:xs.length≤68719476736):joinF xs sep=some (Lib.join xs sep,()):=by
 unfold joinF
 rw [if_pos ⟨hn,Nat.le_trans (GK xs sep B h) hl⟩]
theorem NO(L:List Int)(hl:L.length≤100)(h:∀x,x∈L → -1000000000000<x∧x<1000000000000):qT (L,())=some (Lib.join (L.map p7) [32],()):=by
 show vg aP L (L.length:Int) 0 []=_
 have:=mQ L.length (by omega) (fun m i=>vg m L (L.length:Int) i ((L.take i.toNat).map p7)) (fun _=>some (Lib.join (L.map p7) [32],())) (fun _=>True) (fun m _=>by
  simp only [vg,E_]
  rw [cM (Nat.le_refl _),Int.toNat_natCast,List.take_length]
  simp only [cond_false]
  show Option.bind (joinF (L.map p7) [32]) _=_
  rw [WK _ _ 20 (fun t ht=>by
   obtain ⟨x,hx,rfl⟩:=List.mem_map.1 ht
   exact(lu x (h x hx)).1) (by simp;omega) (by simp;omega)];rfl) (fun m i hi _ hw ih=>by
  have hx:L[i]∈L:=List.getElem_mem hi
  have ih:=ih trivial
  rw [Int.toNat_natCast_add_one,List.take_succ_eq_append_getElem hi,List.map_append] at ih
  simp only [vg,E_,hw]
  rw [cp hi,bx hi,Int.toNat_natCast]
  simp only [cond_true,av]
  rw [show J (ad.int .i64) L i=L[i] from c6 hi,(lu _ (h _ hx)).2.2]
  simp only [av]
  rw [cI (by simp;omega)]
  exact ih) L.length 0 aP (by omega) (ju (by omega)) trivial
 simpa using this
def dD(v:ae.D)(c:aH.D)(x:aI.D)(a:Option (aL.D×aK.D×Unit))(b:Option (aL.D×Unit)):Prop:=∃res:aL.D,a=some (res,(v,c,x,()),())∧b=some (res,())∧res.2.1.length≤1000∧(res.1=0∨res.2.1=[])
theorem dD.is{v:ae.D}{c:aH.D}{x:aI.D}{a:Option (aL.D×aK.D×Unit)}{b:Option (aL.D×Unit)}(k:Int)(t:aF)(ha:a=some ((k,t,()),(v,c,x,()),()))(hb:b=some ((k,t,()),()))(hl:t.length≤1000:=by simp)(h0:k=0∨t=[]:=by simp):dD v c x a b:=⟨(k,t,()),ha,hb,hl,h0⟩
theorem aio(m:Nat)(a b d e):(fz (m+1)).bt a b d e=J9 (fz m) a b d e:=rfl
theorem xW(m:Nat)(a b d e f):(fz (m+1)).dh a b d e f=sd (fz m) a b d e f:=rfl
theorem WL(m:Nat)(a b d e f):(fz (m+1)).iH a b d e f=DB (fz m) a b d e f:=rfl
theorem WM(m:Nat)(a b d e):(fz (m+1)).sc a b d e=DC (fz m) a b d e:=rfl
theorem aip(m:Nat)(a b d e):(fz (m+1)).DA a b d e=J_ (fz m) a b d e:=rfl
def m3(x:aI.D):Bool:=az x != 11&&(az x != 14||bO x==0)
def n7(x:aI.D):Bool:=(az x==14&&(bO x != 0&&bO x != 1))||(az x==17 && !c0 (bO x) 0 7)
def s5:aL.D:=(0,([]:aF),())
theorem aiq(m:Nat)(v:ae.D)(c:aH.D)(x:aI.D)(z:aL.D):(fz (m+1)).bt v c x z=Option.bind (dv (v,c,da x,m3 x,())) fun r=>(fz m).dh v c x z r.1:=by
 rw [aio]
 unfold J9 m3
 show cond (az x != 11) (cond (az x != 14) (Option.bind (dv (v,c,da x,true,())) _) (Option.bind (dv (v,c,da x,bO x==0,())) _)) (Option.bind (dv (v,c,da x,false,())) _)=_
 cases az x != 11
 ·rfl
 ·cases az x != 14 <;> rfl
theorem NP(K:nH)(v:ae.D)(c:aH.D)(x:aI.D)(hk:az x≠18):qH K v c x=cond (n7 x) (some ((22,[],()),())) (K.bt v c x s5):=by
 unfold qH n7
 have air:∀k:Option (aL.D×Unit),Option.bind (eg (bO x,0,7,())) (fun v4=>cond (!v4.1) (some ((22,([]:aF),()),())) k)=cond (!c0 (bO x) 0 7) (some ((22,([]:aF),()),())) k:=fun k=>by rw [jv];rfl
 show cond (az x==18) _ (cond (az x==14) (cond (bO x != 0) (cond (bO x != 1) _ (cond (az x==17) (Option.bind (eg (bO x,0,7,())) _) _)) (cond (az x==17) (Option.bind (eg (bO x,0,7,())) _) _)) (cond (az x==17) (Option.bind (eg (bO x,0,7,())) (fun v4=>cond (!v4.1) (some ((22,([]:aF),()),())) (K.bt v c x s5))) (K.bt v c x s5)))=_
 rw [b5 hk]
 simp only [cond_false]
 by_cases wx:az x=14
 ·rw [cF wx,b5 (show az x≠17 by omega)]
  cases bO x != 0 <;> cases bO x != 1 <;> rfl
 ·rw [b5 wx]
  simp only [cond_false,Bool.false_and,Bool.false_or]
  rw [air]
  cases az x==17
  ·rfl
  ·cases c0 (bO x) 0 7 <;> rfl
theorem xX(v:ae.D)(c:aH.D)(x:aI.D)(hk:az x≠18)(hb:n7 x=false)(b7:n0 v.2.1)(r:aS.D)(hs:dv (v,c,da x,m3 x,())=some (r,())) :
  ∃q,4611686018427387904<q∧k_ (v,c,x,())=(fz (q+1)).dh v c x s5 r:=by
 obtain ⟨q,hq,h9⟩:=iI 2
 refine⟨q,h9,?_⟩
 show qH (fz aP) v c x=_
 rw [NP _ _ _ _ hk,hb,hq]
 simp only [cond_false]
 rw [aiq,hs];rfl
theorem xY(v:ae.D)(c:aH.D)(x:aI.D)(q:Nat)(r:aS.D)(h:bE r≠0):(fz (q+1)).dh v c x s5 r=some ((bE r,[],()),()):=by
 rw [xW]
 unfold sd
 show cond (bE r != 0) _ _=_
 rw [cV h];rfl
theorem ais(v:ae.D)(c:aH.D)(x:aI.D)(hv:bz v)(hc:c9 c=true)(hx:gM x)(hk:az x=11):dD v c x (E8 ((v,c,x,()),())) (k_ (v,c,x,())):=by
 have b7:=hv.fP
 have au:=hx.path
 obtain ⟨r,hr,fB,km,kn⟩:=sZ v c x false b7 hc (by omega)
 obtain ⟨q,hq,bZ⟩:=xX v c x (by omega) (by unfold n7;rw [b5 (show az x≠14 by omega),b5 (show az x≠17 by omega)];rfl) b7 r (by
  rw [show m3 x=false by unfold m3;rw [dt hk];rfl];exact fB)
 show dD v c x (Lq (v,c,x,())) _
 rw [bZ]
 unfold Lq
 by_cases b3:bE r=0
 case neg =>
  rw [km b3,xY v c x q r b3]
  simp only [av]
  rw [cV b3]
  exact dD.is (bE r) [] rfl rfl
 obtain ⟨i,hi,e5⟩:=kn b3
 have bR:=bT hi
 rw [e5,xW]
 unfold sd
 show dD v c x _ (cond (bE r != 0) _ (Option.bind (e_ (v,bp r,())) _))
 rw [dt b3,iK v _ b7.len hi]
 simp only [cond_false,av]
 rw [show((0:Int) != 0)=false from rfl,bx bR.1]
 simp only [cond_false,av]
 show dD v c x (cond (kindOf (J I v.2.1 i) != 3) _ _) (cond (az x==4) _ (cond (az x==11) (cond (kindOf (J I v.2.1 i) != 3) _ _) _))
 rw [b5 (show az x≠4 by omega),cF hk]
 simp only [cond_false,cond_true]
 cases kindOf (J I v.2.1 i) != 3 with
 | true=>exact dD.is 22 [] rfl rfl
 | false=>exact dD.is 0 (bw (J I v.2.1 i)) rfl rfl (by have:=hv.fO bR.1;omega)
theorem ait(v:ae.D)(c:aH.D)(x:aI.D)(hv:bz v)(hc:c9 c=true)(hx:gM x)(hk:az x=17) :
  dD v c x (Option.bind (Fo ((v,c,x,()),())) fun v6=>Option.bind (e4 (v6.1,())) fun bu=>some (bu.1,v6.2.1,())) (k_ (v,c,x,())):=by
 have b7:=hv.fP
 have au:=hx.path
 show dD v c x (Option.bind (Ly (v,c,x,())) _) _
 unfold Ly
 show dD v c x (Option.bind (Option.bind (eO (bO x,0,7,())) _) _) _
 rw [jw]
 simp only [av]
 cases hN:c0 (bO x) 0 7 with
 | false =>
  have dQ:k_ (v,c,x,())=some ((22,[],()),()):=by
   show qH (fz aP) v c x=_
   rw [NP _ _ _ _ (by omega),show n7 x=true by unfold n7;rw [cF hk,hN];simp];rfl
  rw [dQ]
  exact dD.is 22 [] rfl rfl
 | true =>
 obtain ⟨r,hr,fB,km,kn⟩:=sZ v c x true b7 hc (by omega)
 obtain ⟨q,hq,bZ⟩:=xX v c x (by omega) (by unfold n7;rw [b5 (show az x≠14 by omega),hN];simp) b7 r (by
  rw [show m3 x=true by unfold m3;rw [cV (show az x≠11 by omega),cV (show az x≠14 by omega)];rfl];exact fB)
 rw [bZ]
 simp only [Bool.not_true,cond_false]
 by_cases b3:bE r=0
 case neg =>
  rw [km b3,xY v c x q r b3]
  simp only [av]
  rw [cV b3]
  exact dD.is (bE r) [] rfl rfl
 obtain ⟨i,hi,e5⟩:=kn b3
 have bR:=bT hi
 rw [e5,xW]
 unfold sd
 show dD v c x _ (cond (bE r != 0) _ (Option.bind (e_ (v,bp r,())) _))
 rw [dt b3,iK v _ b7.len hi]
 simp only [cond_false,av]
 rw [show((0:Int) != 0)=false from rfl,bx bR.1]
 simp only [cond_false,av]
 show dD v c x (Option.bind (Option.bind (pP (c,J I v.2.1 i,bO x,())) _) _) (cond (az x==4) _ (cond (az x==11) _ (cond (az x==13) _ (cond (az x==14) _ (cond (az x==17) (Option.bind (j_ (c,J I v.2.1 i,bO x,())) _) _)))))
 rw [b5 (show az x≠4 by omega),b5 (show az x≠11 by omega),b5 (show az x≠13 by omega),b5 (show az x≠14 by omega),cF hk]
 simp only [cond_false,cond_true]
 rw [Ap c _ _ hc,nX c _ _ hc]
 simp only [av]
 cases may c (J I v.2.1 i) (bO x) with
 | false=>exact dD.is 13 [] rfl rfl
 | true=>exact dD.is 0 [] rfl rfl
theorem NQ(L:List Int)(hl:L.length≤40)(h:∀x,x∈L → -1000000000000<x∧x<1000000000000):(Lib.join (L.map p7) [32]).length≤1000:=by
 refine Nat.le_trans (GK _ _ 20 fun t ht=>?_) ?_
 ·obtain ⟨x,hx,rfl⟩:=List.mem_map.1 ht
  exact(lu x (h x hx)).1
 ·rw [List.length_map,List.length_singleton];omega
theorem aiu(N:List aw.D)(hN:N.length≤12)(cG:∀d,d∈N→d.1.length≤8):(Lib.join (N.map fun d=>d.1) [47]).length≤1000:=by
 refine Nat.le_trans (GK _ _ 8 fun t ht=>?_) ?_
 ·obtain ⟨d,ag,rfl⟩:=List.mem_map.1 ht
  exact cG d ag
 ·rw [List.length_map,List.length_singleton];omega
theorem aiv(v:ae.D)(c:aH.D)(x:aI.D)(hv:bz v)(hk:az x=18) :
  dD v c x (Option.bind (sk (v,())) fun dd=>Option.bind (qT ([(v.2.1.length:Int),dd.1],())) fun v9=>some ((0,v9.1,()),(v,c,x,()),())) (k_ (v,c,x,())):=by
 have hl:=hv.len
 have hb:=hv.bytes
 show dD v c x _ (qH (fz aP) v c x)
 unfold qH
 show dD v c x _ (cond (az x==18) (Option.bind (hO ((v.2.1.length:Int),())) _) _)
 have d1:=lu (v.2.1.length:Int) (by omega)
 have d2:=lu (bytesOf v.2.1:Int) (by omega)
 rw [cF hk,MI v (by omega) (by omega),d1.2.1]
 simp only [cond_true,av]
 rw [cI (by simp;omega),MH v (by omega) (by omega)]
 simp only [cond_true,av]
 rw [d2.2.1]
 simp only [av]
 rw [cI (by simp;omega),NO _ (by simp) (by intro y aN;simp at aN;omega)]
 refine dD.is 0 _ rfl ?_ (NQ _ (by simp) (by intro y aN;simp at aN;omega))
 simp [Lib.join_cons,Lib.joinTail,List.append_assoc]
def o5(P:Int→Prop)(v:ae.D)(c:aH.D)(x:aI.D)(a:Option (aL.D×aK.D×Unit))(b:Option (aL.D×Unit)):Prop:=∃res:aL.D,a=some (res,(v,c,x,()),())∧b=some (res,())∧res.2.1.length≤1000∧(res.1=0∨res.2.1=[])∧P res.1
theorem o5.is{P:Int→Prop}{v:ae.D}{c:aH.D}{x:aI.D}{a:Option (aL.D×aK.D×Unit)}{b:Option (aL.D×Unit)}(k:Int)(t:aF)(ha:a=some ((k,t,()),(v,c,x,()),()))(hb:b=some ((k,t,()),()))(hg:P k)(hl:t.length≤1000:=by simp)(h0:k=0∨t=[]:=by simp):o5 P v c x a b:=⟨(k,t,()),ha,hb,hl,h0,hg⟩
def xZ(v:ae.D)(c:aH.D)(x:aI.D)(k:Int):Prop:=∀r,c0 (bO x) 0 1=true→dv (v,c,da x,bO x==0,())=some (r,())→bE r=0→k=0
theorem WN(v:ae.D)(c:aH.D)(x:aI.D)(hv:bz v)(hc:c9 c=true)(hx:gM x)(hk:az x=14):o5 (xZ v c x) v c x (zX ((v,c,x,()),())) (k_ (v,c,x,())):=by
 have b7:=hv.fP
 have au:=hx.path
 show o5 (xZ v c x) v c x (Lt (v,c,x,())) _
 unfold Lt
 show o5 (xZ v c x) v c x (Option.bind (eO (bO x,0,1,())) fun v1=>cond (!v1.1) _ (Option.bind (mN ((v,c,x,()),bO x==0,())) _)) _
 rw [jw]
 simp only [av]
 cases hN:c0 (bO x) 0 1 with
 | false =>
  have dQ:k_ (v,c,x,())=some ((22,[],()),()):=by
   show qH (fz aP) v c x=_
   have hn:¬(0≤bO x∧bO x≤1):=fun h=>by rw [dM.2 h] at hN;cases hN
   rw [NP _ _ _ _ (by omega),show n7 x=true by unfold n7;rw [cF hk,cV (show bO x≠0 by omega),cV (show bO x≠1 by omega)];rfl];rfl
  rw [dQ]
  exact o5.is 22 [] rfl rfl (fun r h=>by rw [hN] at h;cases h)
 | true =>
 have p4:=dM.1 hN
 obtain ⟨r,hr,fB,km,kn⟩:=sZ v c x (bO x==0) b7 hc (by omega)
 obtain ⟨q,hq,bZ⟩:=xX v c x (by omega) (by
  unfold n7
  rw [b5 (show az x≠17 by omega)]
  rcases (show bO x=0∨bO x=1 by omega) with h | h
  ·rw [dt h];simp
  ·rw [dt h];simp) b7 r (by
  rw [show m3 x=(bO x==0) by unfold m3;rw [cV (show az x≠11 by omega),dt hk];rfl];exact fB)
 rw [bZ]
 simp only [Bool.not_true,cond_false]
 by_cases b3:bE r=0
 case neg =>
  rw [km b3,xY v c x q r b3]
  simp only [av]
  rw [cV b3]
  exact o5.is (bE r) [] rfl rfl (fun ec _ h h0=>by
   rw [fB] at h
   have e:r=ec:=congrArg Prod.fst (aT h)
   rw [e] at b3
   exact absurd h0 b3)
 obtain ⟨i,hi,e5⟩:=kn b3
 have bR:=bT hi
 rw [e5,xW]
 unfold sd
 show o5 (xZ v c x) v c x _ (cond (bE r != 0) _ (Option.bind (e_ (v,bp r,())) _))
 rw [dt b3,iK v _ b7.len hi]
 simp only [cond_false,av]
 rw [show((0:Int) != 0)=false from rfl,bx bR.1]
 simp only [cond_false,av]
 have bS:=hv.ino i bR.1
 have GL:=hv.fO bR.1
 have hnl:(ak (J I v.2.1 i)).length≤1048576:=Nat.le_trans (fI bR.1) b7.cC
 have o6:0≤o2 v.2.1 (J I v.2.1 i)∧o2 v.2.1 (J I v.2.1 i)<100000000:=by
  unfold o2
  have h1:=U2 v.2.1 (J I v.2.1 i).1
  have h2:mV v.2.1 (ak (J I v.2.1 i))≤(ak (J I v.2.1 i)).length:=List.length_filter_le _ _
  have h3:=b7.cC
  cases kindOf (J I v.2.1 i) != 2
  ·simp only [cond_false];omega
  ·simp only [cond_true];omega
 rw [VB v _ b7.len b7.cC hnl]
 simp only [av]
 show o5 (xZ v c x) v c x (Option.bind (qT ([kindOf (J I v.2.1 i),e' (J I v.2.1 i),ew (J I v.2.1 i),fk (J I v.2.1 i),o2 v.2.1 (J I v.2.1 i),((bw (J I v.2.1 i)).length:Int)],())) _)
  (cond (az x==4) _ (cond (az x==11) _ (cond (az x==13) _ (cond (az x==14) (Option.bind (hO (kindOf (J I v.2.1 i),())) fun v4=>cond _ (Option.bind (hO (e' (J I v.2.1 i),())) fun v5=>cond _ (cond _ (Option.bind (hO (ew (J I v.2.1 i),())) fun v6=>cond _ (cond _ (Option.bind (hO (fk (J I v.2.1 i),())) fun bu=>cond _ (cond _ (Option.bind (Dz (v,aX (J I v.2.1 i),())) _) _) _) _) _) _) _) _) _))))
 have n8:1≤kindOf (J I v.2.1 i)∧kindOf (J I v.2.1 i)≤3:=by rcases bS.kind with h | h | h <;> omega
 have hm:=bS.mode
 have hu:=bS.uid
 have aB:=bS.gid
 have d1:=lu (kindOf (J I v.2.1 i)) (by omega)
 have d2:=lu (e' (J I v.2.1 i)) (by omega)
 have d3:=lu (ew (J I v.2.1 i)) (by omega)
 have d4:=lu (fk (J I v.2.1 i)) (by omega)
 have d5:=lu (o2 v.2.1 (J I v.2.1 i)) (by omega)
 have d6:=lu ((bw (J I v.2.1 i)).length:Int) (by omega)
 rw [b5 (show az x≠4 by omega),b5 (show az x≠11 by omega),b5 (show az x≠13 by omega),cF hk]
 simp only [cond_false,cond_true]
 rw [NO _ (by simp) (by intro y aN;simp at aN;omega),d1.2.1]
 simp only [av]
 rw [cI (by simp;omega),d2.2.1]
 simp only [cond_true,av]
 rw [cI (by simp;omega),cI (by simp;omega),d3.2.1]
 simp only [cond_true,av]
 rw [cI (by simp;omega),cI (by simp;omega),d4.2.1]
 simp only [cond_true,av]
 rw [cI (by simp;omega),cI (by simp;omega),agA v (aX (J I v.2.1 i)) b7.len b7.cC (b7.fM i bR.1)]
 simp only [cond_true,av]
 rw [d5.2.1]
 simp only [cond_true,av]
 rw [cI (by simp;omega),cI (by simp;omega)]
 simp only [cond_true]
 show o5 (xZ v c x) v c x _ (Option.bind (hO (((bw (J I v.2.1 i)).length:Int),())) _)
 rw [d6.2.1]
 simp only [cond_true,av]
 rw [cI (by simp;omega)]
 refine o5.is 0 _ rfl ?_ (fun _ _ _ _=>rfl) (NQ _ (by simp) (by intro y aN;simp at aN;omega))
 simp [Lib.join_cons,Lib.joinTail,List.append_assoc]
theorem aiw(v:ae.D)(c:aH.D)(x:aI.D)(hv:bz v)(hc:c9 c=true)(hx:gM x)(hk:az x=14):dD v c x (zX ((v,c,x,()),())) (k_ (v,c,x,())):=by
 obtain ⟨res,h1,h2,h3,h4,_⟩:=WN v c x hv hc hx hk
 exact⟨res,h1,h2,h3,h4⟩
theorem GM{s:aF}(h:ig s=true):s.length≤8:=by
 unfold ig at h
 simp only [Bool.and_eq_true] at h
 have:=dM.1 h.2.1
 omega
theorem aix{v:ae.D}(hv:bz v){i:Nat}(bR:i<v.2.1.length)(h:kindOf (J I v.2.1 i)=2):(ak (J I v.2.1 i)).length≤12∧∀d,d∈ak (J I v.2.1 i)→d.1.length≤8:=by
 have bS:=hv.ino i bR
 exact⟨(bS.dir h).2.2.2,fun d ag=>GM (bS.names d ag).1⟩
theorem WO(l:List aJ)(F:Flags):jS l F≤l.length:=by
 unfold jS o0
 refine Nat.le_trans (List.length_filter_le _ _) ?_
 rw [List.length_range];exact Nat.le_refl _
theorem GN{α : Type}(f : α → Nat)(B:Nat):∀L:List α,(∀i,i∈L→f i≤B)→(L.map f).sum≤L.length*B
 | [],_=>by simp
 | y :: r,h=>by
  have h1:=h y (by simp)
  have h2:=GN f B r fun t ht=>h t (by simp [ht])
  rw [List.map_cons,List.sum_cons,List.length_cons,Nat.add_one_mul]
  omega
theorem aiy{v:ae.D}(hv:bz v)(F:Flags):jz v.2.1 F≤v.2.1.length*64:=by
 unfold jz
 refine Nat.le_trans (GN _ 64 _ fun i hi=>?_) (Nat.mul_le_mul_right _ (WO v.2.1 F))
 unfold o0 at hi
 exact hv.fO (List.mem_range.1 (List.mem_filter.1 hi).1)
theorem aiz(N:List aw.D)(hN:N.length≤12)(cG:∀d,d∈N→d.1.length≤8)(y:aK.D)(z:aL.D) :
  qU aP N (N.length:Int) 0 z [] y=some ((0,Lib.join (N.map fun d=>d.1) [47],()),y,()):=by
 have:=mQ N.length (by omega) (fun m i=>qU m N (N.length:Int) i z ((N.take i.toNat).map fun d=>d.1) y) (fun _=>some ((0,Lib.join (N.map fun d=>d.1) [47],()),y,())) (fun _=>True) (fun m _=>by
  simp only [qU,Fb]
  rw [cM (Nat.le_refl _),Int.toNat_natCast,List.take_length]
  simp only [cond_false]
  show Option.bind (joinF (N.map fun d=>d.1) [47]) _=_
  rw [WK _ _ 8 (fun t ht=>by
   obtain ⟨d,ag,rfl⟩:=List.mem_map.1 ht
   exact cG d ag) (by simp;omega) (by simp;omega)];rfl) (fun m i hi _ hw ih=>by
  have ih:=ih trivial
  rw [Int.toNat_natCast_add_one,List.take_succ_eq_append_getElem hi,List.map_append] at ih
  simp only [qU,Fb,hw]
  rw [cp hi,bx hi,Int.toNat_natCast]
  simp only [cond_true,av]
  rw [show J aw N i=N[i] from c6 hi]
  rw [cI (by simp;omega)]
  exact ih) N.length 0 aP (by omega) (ju (by omega)) trivial
 simpa using this
theorem aiA(n:aJ)(hN:(ak n).length≤12)(cG:∀d,d∈ak n→d.1.length≤8)(z:aL.D)(q:Nat)(hq:1000<q) :
  (fz q).sc [] 0 z n=some ((0,Lib.join ((ak n).map fun d=>d.1) [47],()),()):=by
 have hb:∀i,(Lib.join (((ak n).take i).map fun d=>d.1) [47]).length≤108:=by
  intro i
  refine Nat.le_trans (GK _ _ 8 fun t ht=>?_) ?_
  ·obtain ⟨d,ag,rfl⟩:=List.mem_map.1 ht
   exact cG d (List.mem_of_mem_take ag)
  ·simp;omega
 have key:=o1 2 (fun m i=>(fz m).sc (Lib.join (((ak n).take i).map fun d=>d.1) [47]) (i:Int) z n) (some ((0,Lib.join ((ak n).map fun d=>d.1) [47],()),())) (ak n).length 1 (fun i hi B y he=>by
  have alG:((ak n)[i]).1.length≤8:=cG _ (List.getElem_mem hi)
  have wk:=hb i
  refine he.jump 2 fun m=>?_
  rw [WM]
  unfold DC
  show cond (decide ((i:Int)<((ak n).length:Int))) _ _=_
  rw [cp hi]
  simp only [cond_true]
  have WQ:∀t:aF,t.length≤200→(fz (m+1)).DA t (i:Int) z n=(fz m).sc (t++((ak n)[i]).1) ((i+1:Nat):Int) z n:=fun t ht=>by
   rw [aip]
   unfold J_
   show Option.bind (aM (ak n).length (i:Int)) (fun v1=>cond (room (t.length +((J aw (ak n) v1).1).length)) ((fz m).sc (t++((J aw (ak n) v1).1)) (aG ((i:Int)+1)) z n) none)=_
   rw [bx hi]
   simp only [av]
   rw [show J aw (ak n) i=(ak n)[i] from c6 hi,cI (by omega),df i (by omega)];rfl
  have e1:((ak n).take (i+1)).map (fun d=>d.1)=((ak n).take i).map (fun d=>d.1)++[((ak n)[i]).1]:=by
   rw [List.take_succ_eq_append_getElem hi,List.map_append];rfl
  rw [e1]
  by_cases h0:i=0
  ·subst h0
   rw [show decide (((0:Nat):Int)>0)=false from rfl]
   simp only [cond_false]
   rw [WQ _ (by omega)]
   simp [Lib.join_nil,Lib.join_one]
  ·rw [decide_eq_true (show(i:Int)>0 by omega),cI (by rw [List.length_singleton];omega)]
   simp only [cond_true]
   rw [WQ _ (by rw [List.length_append,List.length_singleton];omega),ain]
   intro h
   have:=congrArg List.length h
   simp only [List.length_map,List.length_take,List.length_nil] at this
   omega) (bW.done fun m=>by
  rw [WM]
  unfold DC
  show cond (decide (((ak n).length:Int)<((ak n).length:Int))) _ _=_
  rw [cM (Nat.le_refl _),List.take_length];rfl)
 have:=key q (by omega)
 simpa [Lib.join_nil] using this
theorem aiB(v:ae.D)(c:aH.D)(x:aI.D)(hv:bz v)(hc:c9 c=true)(hx:gM x)(hk:az x=13∨az x=20):dD v c x (zW ((v,c,x,()),())) (k_ (v,c,x,())):=by
 have b7:=hv.fP
 have au:=hx.path
 obtain ⟨r,hr,fB,km,kn⟩:=sZ v c x true b7 hc (by omega)
 obtain ⟨q,hq,bZ⟩:=xX v c x (by omega) (by unfold n7;rw [b5 (show az x≠14 by omega),b5 (show az x≠17 by omega)];rfl) b7 r (by
  rw [show m3 x=true by unfold m3;rw [cV (show az x≠11 by omega),cV (show az x≠14 by omega)];rfl];exact fB)
 show dD v c x (Fa (qU aP) (v,c,x,())) _
 rw [bZ]
 unfold Fa
 by_cases b3:bE r=0
 case neg =>
  rw [km b3,xY v c x q r b3]
  simp only [av]
  rw [cV b3]
  exact dD.is (bE r) [] rfl rfl
 obtain ⟨i,hi,e5⟩:=kn b3
 have bR:=bT hi
 rw [e5,xW]
 unfold sd
 show dD v c x _ (cond (bE r != 0) _ (Option.bind (e_ (v,bp r,())) _))
 rw [dt b3,iK v _ b7.len hi]
 simp only [cond_false,av]
 rw [show((0:Int) != 0)=false from rfl,bx bR.1]
 simp only [cond_false,av]
 show dD v c x (cond (kindOf (J I v.2.1 i) != 2) _ (Option.bind (pP (c,J I v.2.1 i,4,())) fun v6=>cond (!v6.1) _ (cond (az x==20) (Option.bind (xl (v,aX (J I v.2.1 i),())) fun v9=>Option.bind (qT ([eT (J I v.2.1 i),eD (J I v.2.1 i),v9.1,v9.2.1],())) _) (qU aP (ak (J I v.2.1 i)) ((ak (J I v.2.1 i)).length:Int) 0 (0,([]:aF),()) [] (v,c,x,())))))
  (cond (az x==4) _ (cond (az x==11) _ (cond (az x==13) (cond (!(kindOf (J I v.2.1 i)==2)) _ (Option.bind (j_ (c,J I v.2.1 i,4,())) fun v3=>cond (!v3.1) _ ((fz q).sc [] 0 s5 (J I v.2.1 i)))) (cond (az x==14) _ (cond (az x==17) _ (cond (!(kindOf (J I v.2.1 i)==2)) _ (Option.bind (j_ (c,J I v.2.1 i,4,())) fun v12=>cond (!v12.1) _ (Option.bind (zj (v,aX (J I v.2.1 i),())) fun jR=>Option.bind (hO (eT (J I v.2.1 i),())) fun mL=>cond _ (Option.bind (hO (eD (J I v.2.1 i),())) _) _))))))))
 rw [b5 (show az x≠4 by omega),b5 (show az x≠11 by omega),b5 (show az x≠14 by omega),b5 (show az x≠17 by omega)]
 simp only [cond_false]
 by_cases ag:kindOf (J I v.2.1 i)=2
 case neg =>
  rw [cV ag,b5 ag]
  refine dD.is 20 [] rfl ?_
  cases az x==13 <;> rfl
 rw [dt ag,cF ag,nX c _ 4 hc,Ap c _ 4 hc]
 simp only [cond_false,av,Bool.not_true]
 cases may c (J I v.2.1 i) 4 with
 | false =>
  refine dD.is 13 [] rfl ?_
  cases az x==13 <;> rfl
 | true =>
 simp only [cond_false,Bool.not_true]
 have bS:=hv.ino i bR.1
 have n8:=aix hv bR.1 ag
 rcases hk with hk | hk
 ·rw [cF hk,b5 (show az x≠20 by omega)]
  simp only [cond_false,cond_true]
  rw [aiz _ n8.1 n8.2,aiA _ n8.1 n8.2 _ q (by omega)]
  exact dD.is 0 _ rfl rfl (aiu _ n8.1 n8.2)
 ·rw [cF hk,b5 (show az x≠13 by omega)]
  simp only [cond_false,cond_true]
  have hvl:=hv.len
  have Pz:=hv.bytes
  obtain ⟨out,hf,hu⟩:=MU v (aX (J I v.2.1 i)) b7.len b7.cC (by omega)
  obtain ⟨lC,ib⟩:=MV hv.fM hv.f_ hf
  rw [lC,ib] at hu
  have rC:jS v.2.1 (dO v.2.1 (aX (J I v.2.1 i)))≤v.2.1.length:=WO _ _
  have jn:jz v.2.1 (dO v.2.1 (aX (J I v.2.1 i)))≤v.2.1.length*64:=aiy hv _
  have o4:=bS.dir ag
  have d1:=lu (eT (J I v.2.1 i)) (by omega)
  have d2:=lu (eD (J I v.2.1 i)) (by omega)
  have d3:=lu (jz v.2.1 (dO v.2.1 (aX (J I v.2.1 i))):Int) (by omega)
  have d4:=lu (jS v.2.1 (dO v.2.1 (aX (J I v.2.1 i))):Int) (by omega)
  rw [hu,Vh v _ b7.len b7.cC (by omega)]
  simp only [av]
  rw [NO _ (by simp) (by intro y aN;simp at aN;omega),d1.2.1]
  simp only [av]
  rw [cI (by simp;omega),d2.2.1]
  simp only [cond_true,av]
  rw [cI (by simp;omega),cI (by simp;omega),d3.2.1]
  simp only [cond_true,av]
  rw [cI (by simp;omega),cI (by simp;omega),d4.2.1]
  simp only [cond_true,av]
  rw [cI (by simp;omega)]
  refine dD.is 0 _ rfl ?_ (NQ _ (by simp) (by intro y aN;simp at aN;omega))
  simp [Lib.join_cons,Lib.joinTail,List.append_assoc]
theorem aiC(n:aJ)(x:aI.D)(a:Nat)(ha:(a:Int)=bO x)(yK:a≤1000000)(b:Nat)(hb:(b:Int)=dX x)(hb2:b≤1000000)(hl:(bw n).length≤64)(z:aL.D)(q:Nat)(hq:1000<q) :
  (fz q).iH (a:Int) x z n []=some ((0,((bw n).drop a).take b,()),()):=by
 have key:∀(k m j:Nat),k<m→min (bw n).length (a+b)-j≤k→a≤j→j≤a+64∧j≤a+b→(fz m).iH (j:Int) x z n (ez (((bw n).drop a).take (j-a)))=some ((0,((bw n).drop a).take b,()),()):=by
  intro k
  induction k with
  | zero =>
   intro m j hm h1 h2 h3
   obtain ⟨m,rfl⟩:∃p,m=p+1:=⟨m-1,by omega⟩
   rw [WL]
   unfold DB
   show cond (decide ((j:Int)<((bw n).length:Int))) (cond (decide ((j:Int)<aG (bO x+dX x))) _ _) _=_
   rw [← ha,← hb,dI (by omega) (by omega)]
   have e:∀w,w=some ((0,gB (ez (((bw n).drop a).take (j-a))),()),())→w=some (((0:Int),((bw n).drop a).take b,()),()):=fun w hw=>by
    rw [hw,Wx]
    have:((bw n).drop a).take (j-a)=((bw n).drop a).take b:=by
     rw [List.take_eq_take_iff,List.length_drop];omega
    rw [this]
   by_cases hj:j<(bw n).length
   ·rw [cp hj,decide_eq_false (show ¬(j:Int)<(a:Int) +(b:Int) by omega)]
    exact e _ rfl
   ·rw [cM (by omega)]
    exact e _ rfl
  | succ k ih =>
   intro m j hm h1 h2 h3
   by_cases NH:min (bw n).length (a+b)-j≤k
   ·exact ih m j (by omega) NH h2 h3
   obtain ⟨m,rfl⟩:∃p,m=p+1:=⟨m-1,by omega⟩
   rw [WL]
   unfold DB
   show cond (decide ((j:Int)<((bw n).length:Int))) (cond (decide ((j:Int)<aG (bO x+dX x))) (Option.bind (aM (bw n).length (j:Int)) fun v1=>cond (room ((ez (((bw n).drop a).take (j-a))).length+[(((bw n).getD v1 0).toNat:Int)].length)) ((fz m).iH (aG ((j:Int)+1)) x z n (ez (((bw n).drop a).take (j-a))++[(((bw n).getD v1 0).toNat:Int)])) none) _) _=_
   have hj:j<(bw n).length:=by omega
   rw [← ha,← hb,dI (a:=(a:Int) +(b:Int)) (by omega) (by omega),cp hj,decide_eq_true (show(j:Int)<(a:Int) +(b:Int) by omega),bx hj,df j (by omega)]
   simp only [cond_true,av]
   rw [cI (by rw [GG,List.length_take,List.length_drop,List.length_singleton];omega)]
   simp only [cond_true]
   have:=ih m (j+1) (by omega) (by omega) (by omega) (by omega)
   rw [show ez (((bw n).drop a).take (j-a))++[(((bw n).getD j 0).toNat:Int)]=ez (((bw n).drop a).take (j+1-a)) by
    rw [show j+1-a=(j-a)+1 by omega,List.take_succ_eq_append_getElem (by rw [List.length_drop];omega)]
    unfold ez
    rw [List.map_append,List.getElem_drop,List.getD_eq_getElem?_getD,List.getElem?_eq_getElem hj]
    simp [show a +(j-a)=j by omega]]
   exact this
 have:=key 64 q a (by omega) (by omega) (by omega) (by omega)
 rw [Nat.sub_self] at this
 exact this
theorem aiD(v:ae.D)(c:aH.D)(x:aI.D)(hv:bz v)(hc:c9 c=true)(hx:gM x)(hk:az x=4):dD v c x (E4 ((v,c,x,()),())) (k_ (v,c,x,())):=by
 have b7:=hv.fP
 have au:=hx.path
 obtain ⟨r,hr,fB,km,kn⟩:=Wz v c x 4 b7 hc (by omega)
 obtain ⟨q,hq,bZ⟩:=xX v c x (by omega) (by unfold n7;rw [b5 (show az x≠14 by omega),b5 (show az x≠17 by omega)];rfl) b7 r (by
  rw [show m3 x=true by unfold m3;rw [cV (show az x≠11 by omega),cV (show az x≠14 by omega)];rfl];exact fB)
 show dD v c x (Ll (v,c,x,())) _
 rw [bZ]
 unfold Ll
 by_cases b3:bE r=0
 case neg =>
  rw [km b3,xY v c x q r b3]
  simp only [av]
  rw [cV b3]
  exact dD.is (bE r) [] rfl rfl
 obtain ⟨i,hi,e5⟩:=kn b3
 have bR:=bT hi
 rw [e5,xW]
 unfold sd
 show dD v c x _ (cond (bE r != 0) _ (Option.bind (e_ (v,bp r,())) _))
 rw [dt b3,iK v _ b7.len hi]
 simp only [cond_false,av]
 show dD v c x _ (cond (az x==4) (cond (kindOf (J I v.2.1 i)==2) _ (Option.bind (j_ (c,J I v.2.1 i,4,())) fun v2=>cond (!v2.1) _ (cond (decide (bO x<0)) _ (cond (decide (dX x<0)) _ ((fz q).iH (bO x) x s5 (J I v.2.1 i) []))))) _)
 rw [cF hk,nX c _ 4 hc]
 simp only [cond_true,av]
 cases kindOf (J I v.2.1 i)==2 with
 | true=>exact dD.is 21 [] rfl rfl
 | false =>
 cases may c (J I v.2.1 i) 4 with
 | false=>exact dD.is 13 [] rfl rfl
 | true =>
 simp only [cond_false,Bool.not_true,av]
 rw [show((0:Int) != 0)=false from rfl]
 simp only [cond_false]
 show dD v c x (cond (decide (bO x<0)) _ (cond (decide (dX x<0)) _ _)) _
 by_cases hn:bO x<0
 ·rw [decide_eq_true hn]
  exact dD.is 22 [] rfl rfl
 by_cases hm:dX x<0
 ·rw [decide_eq_false hn,decide_eq_true hm]
  exact dD.is 22 [] rfl rfl
 rw [decide_eq_false hn,decide_eq_false hm]
 simp only [cond_false]
 have GL:=hv.fO bR.1
 have alH:=hx.n
 have nv:=hx.m
 obtain ⟨a,ha⟩:∃a:Nat,(a:Int)=bO x:=⟨(bO x).toNat,by omega⟩
 obtain ⟨b,hb⟩:∃b:Nat,(b:Int)=dX x:=⟨(dX x).toNat,by omega⟩
 rw [← ha,aiC _ x a ha (by omega) b hb (by omega) GL s5 q (by omega),bx bR.1]
 simp only [av]
 show dD v c x (Option.bind (d_ (bw (J I v.2.1 i)).length (jG (bO x) ((bw (J I v.2.1 i)).length:Int)) ((bw (J I v.2.1 i)).length:Int)) fun bu=>Option.bind (d_ ((part (bw (J I v.2.1 i)) bu.1 (bu.2-bu.1)).length) 0 (jG (dX x) (((part (bw (J I v.2.1 i)) bu.1 (bu.2-bu.1)).length:Nat):Int))) fun dd=>some ((0,part (part (bw (J I v.2.1 i)) bu.1 (bu.2-bu.1)) dd.1 (dd.2-dd.1),()),(v,c,x,()),())) _
 generalize bw (J I v.2.1 i)=d at *
 have e1:jG (bO x) (d.length:Int)=((min a d.length:Nat):Int):=by unfold jG;split <;> omega
 rw [e1,kr (by omega) (by omega)]
 simp only [av]
 have e2:part d (min a d.length) (d.length-min a d.length)=d.drop a:=by
  unfold part
  rw [List.take_of_length_le (by rw [List.length_drop];omega)]
  by_cases h:a≤d.length
  ·rw [Nat.min_eq_left h]
  ·rw [List.drop_eq_nil_of_le (by omega),List.drop_eq_nil_of_le (by omega)]
 rw [e2]
 have e3:jG (dX x) ((d.drop a).length:Int)=((min b (d.drop a).length:Nat):Int):=by unfold jG;split <;> omega
 rw [e3]
 have fX:d_ (d.drop a).length 0 ((min b (d.drop a).length:Nat):Int)=some (0,min b (d.drop a).length):=kr (lo:=0) (Nat.zero_le _) (Nat.min_le_right _ _)
 rw [fX]
 simp only [av,Nat.sub_zero]
 rw [Ai]
 refine dD.is 0 _ rfl ?_ (by rw [List.length_take,List.length_drop];omega)
 have tv:(d.drop a).take b=(d.drop a).take (min b (d.drop a).length):=List.take_eq_take_iff.2 (by omega)
 rw [tv]
def NR(v:ae.D)(c:aH.D)(x:aI.D)(a:Option (aL.D×aK.D×Unit))(b:Option (ae.D×aL.D×Unit))(Q:ae.D→Prop):Prop :=
 ∃(k:Int) (t:aF) (w:ae.D),a=some ((k,t,()),(w,c,x,()),())∧b=some (cond (k==0) w v,(k,t,()),())∧(k=0→Q w)∧t.length≤1000∧(k=0∨t=[])
theorem br.up{v:ae.D}{c:aH.D}{x:aI.D}{a:Option (Int×aK.D×Unit)}{b:Option (ae.D×aL.D×Unit)}{Q Q':ae.D→Prop}(h:br v c x a b Q)(nA:∀w,Q w→Q' w) :
  NR v c x (a.bind fun v1=>(e4 (v1.1,())).bind fun v2=>some (v2.1,v1.2.1,())) (b.bind fun v2=>some (v2.1,v2.2.1,())) Q':=by
 obtain ⟨k,w,rfl,rfl,hq⟩:=h
 exact⟨k,[],w,rfl,rfl,fun h0=>nA w (hq h0),by simp,.inr rfl⟩
theorem dD.up{v:ae.D}{c:aH.D}{x:aI.D}{a:Option (aL.D×aK.D×Unit)}{b:Option (aL.D×Unit)}{Q':ae.D→Prop}(h:dD v c x a b)(nA:Q' v) :
  NR v c x (a.bind fun v1=>some (v1.1,v1.2.1,())) (b.bind fun v2=>some (v,v2.1,())) Q':=by
 obtain ⟨⟨k,t,⟨⟩⟩,rfl,rfl,hl,h0⟩:=h
 exact⟨k,t,v,rfl,by cases k==0 <;> rfl,fun _=>nA,hl,h0⟩
def o7(v:ae.D)(c:aH.D)(x:aI.D)(w:ae.D):Prop :=
 ((az x=1∨az x=3∨az x=10)∧Made v c x w)∨((az x=2∨az x=8)∧AH v c x w)∨(az x=9∧GA v c x w)∨(az x=12∧xT v c x w)∨((az x=5∨az x=6∨az x=7)∧xU v c x w) ∨
  (az x=15∧AO v c x w)∨(az x=16∧AP v c x w)∨(az x=19∧GJ v c x w)∨((az x=4∨az x=11∨az x=13∨az x=14∨az x=17∨az x=18∨az x=20)∧w=v)
noncomputable def vB(v:ae.D)(c:aH.D)(x:aI.D):Option (ae.D×aL.D×Unit) :=
 if az x=1∨az x=3∨az x=10 then(r8 (v,c,x,())).bind fun v2=>some (v2.1,v2.2.1,())
 else if az x=2∨az x=8 then(w_ (v,c,x,())).bind fun v2=>some (v2.1,v2.2.1,())
 else if az x=9 then(Dm (v,c,x,())).bind fun v2=>some (v2.1,v2.2.1,())
 else if az x=12 then(Ds (v,c,x,())).bind fun v2=>some (v2.1,v2.2.1,())
 else if az x=5∨az x=6∨az x=7 then(xb (v,c,x,())).bind fun v2=>some (v2.1,v2.2.1,())
 else if az x=15∨az x=16∨az x=19 then(sb (v,c,x,())).bind fun v2=>some (v2.1,v2.2.1,())
 else(k_ (v,c,x,())).bind fun v2=>some (v,v2.1,())
theorem AQ(v:ae.D)(c:aH.D)(x:aI.D)(hx:gM x)(kO:az x≤20):kH (v,c,x,())=vB v c x:=by
 obtain ⟨q,hq,_⟩:=iI 4
 show sf (zz aP) v c x=_
 unfold sf
 rw [hq,ME,vw.2 hx]
 simp only [av,Bool.not_true,cond_false]
 rw [decide_eq_false (show ¬x.1>20 from Int.not_lt.2 kO)]
 simp only [cond_false]
 have hk:=hx.cP
 obtain ⟨cP,rest⟩:=x
 have:az (cP,rest)=1∨az (cP,rest)=2∨az (cP,rest)=3∨az (cP,rest)=4∨az (cP,rest)=5∨az (cP,rest)=6∨az (cP,rest)=7∨az (cP,rest)=8∨az (cP,rest)=9∨az (cP,rest)=10∨az (cP,rest)=11∨az (cP,rest)=12∨az (cP,rest)=13∨az (cP,rest)=14∨az (cP,rest)=15∨az (cP,rest)=16∨az (cP,rest)=17∨az (cP,rest)=18∨az (cP,rest)=19∨az (cP,rest)=20:=by omega
 clear hx hk kO
 unfold vB
 rcases this with h | h | h | h | h | h | h | h | h | h | h | h | h | h | h | h | h | h | h | h <;>(replace h:cP=_:=h;subst h;rfl)
noncomputable def NS(v:ae.D)(c:aH.D)(x:aI.D):Option (aL.D×aK.D×Unit) :=
 if az x=1∨az x=3∨az x=10 then(zR ((v,c,x,()),())).bind fun v1=>(e4 (v1.1,())).bind fun v2=>some (v2.1,v1.2.1,())
 else if az x=2∨az x=8 then(EZ ((v,c,x,()),())).bind fun v1=>(e4 (v1.1,())).bind fun v2=>some (v2.1,v1.2.1,())
 else if az x=9 then(E0 ((v,c,x,()),())).bind fun v1=>(e4 (v1.1,())).bind fun v2=>some (v2.1,v1.2.1,())
 else if az x=12 then(E3 ((v,c,x,()),())).bind fun v1=>(e4 (v1.1,())).bind fun v2=>some (v2.1,v1.2.1,())
 else if az x=5∨az x=6∨az x=7 then(E7 ((v,c,x,()),())).bind fun v1=>(e4 (v1.1,())).bind fun v2=>some (v2.1,v1.2.1,())
 else if az x=15 then(Fj ((v,c,x,()),())).bind fun v1=>(e4 (v1.1,())).bind fun v2=>some (v2.1,v1.2.1,())
 else if az x=16 then(Fm ((v,c,x,()),())).bind fun v1=>(e4 (v1.1,())).bind fun v2=>some (v2.1,v1.2.1,())
 else if az x=19 then(Fq ((v,c,x,()),())).bind fun v1=>(e4 (v1.1,())).bind fun v2=>some (v2.1,v1.2.1,())
 else if az x=4 then(E4 ((v,c,x,()),())).bind fun v1=>some (v1.1,v1.2.1,())
 else if az x=11 then(E8 ((v,c,x,()),())).bind fun v1=>some (v1.1,v1.2.1,())
 else if az x=13∨az x=20 then(zW ((v,c,x,()),())).bind fun v1=>some (v1.1,v1.2.1,())
 else if az x=14 then(zX ((v,c,x,()),())).bind fun v1=>some (v1.1,v1.2.1,())
 else if az x=17 then(Option.bind (Fo ((v,c,x,()),())) fun v6=>Option.bind (e4 (v6.1,())) fun bu=>some (bu.1,v6.2.1,()))
 else(Option.bind (sk (v,())) fun dd=>Option.bind (qT ([(v.2.1.length:Int),dd.1],())) fun v9=>some ((0,v9.1,()),(v,c,x,()),()))
theorem aiE(v:ae.D)(c:aH.D)(x:aI.D)(hx:gM x)(kO:az x≤20):Ft ((v,c,x,()),())=NS v c x:=by
 obtain ⟨q,hq,_⟩:=iI 8
 show Fs (LC aP) (v,c,x,())=_
 unfold Fs
 rw [hq]
 have hk:=hx.cP
 obtain ⟨cP,rest⟩:=x
 have:az (cP,rest)=1∨az (cP,rest)=2∨az (cP,rest)=3∨az (cP,rest)=4∨az (cP,rest)=5∨az (cP,rest)=6∨az (cP,rest)=7∨az (cP,rest)=8∨az (cP,rest)=9∨az (cP,rest)=10∨az (cP,rest)=11∨az (cP,rest)=12∨az (cP,rest)=13∨az (cP,rest)=14∨az (cP,rest)=15∨az (cP,rest)=16∨az (cP,rest)=17∨az (cP,rest)=18∨az (cP,rest)=19∨az (cP,rest)=20:=by omega
 clear hx hk kO
 unfold NS
 rcases this with h | h | h | h | h | h | h | h | h | h | h | h | h | h | h | h | h | h | h | h <;>(replace h:cP=_:=h;subst h;rfl)
theorem WR(a:Option (aL.D×aK.D×Unit)):(a.bind fun v1=>some (v1.1,v1.2.1,()))=a:=by
 cases a with
 | none=>rfl
 | some r=>rfl
theorem WS(v:ae.D)(c:aH.D)(x:aI.D)(hv:bz v)(hc:c9 c=true)(hx:gM x)(kO:az x≤20):NR v c x (Ft ((v,c,x,()),())) (kH (v,c,x,())) (o7 v c x):=by
 rw [aiE v c x hx kO,AQ v c x hx kO]
 have hk:=hx.cP
 unfold NS vB
 by_cases h1:az x=1∨az x=3∨az x=10
 ·rw [if_pos h1,if_pos h1]
  exact(ag' v c x hv hc hx).up fun w h=>.inl ⟨h1,h⟩
 rw [if_neg h1,if_neg h1]
 by_cases h2:az x=2∨az x=8
 ·rw [if_pos h2,if_pos h2]
  exact(ahg v c x hv hc hx h2).up fun w h=>.inr (.inl ⟨h2,h⟩)
 rw [if_neg h2,if_neg h2]
 by_cases h3:az x=9
 ·rw [if_pos h3,if_pos h3]
  exact(ahk v c x hv hc hx).up fun w h=>.inr (.inr (.inl ⟨h3,h⟩))
 rw [if_neg h3,if_neg h3]
 by_cases h4:az x=12
 ·rw [if_pos h4,if_pos h4]
  exact(ahL v c x hv hc hx).up fun w h=>.inr (.inr (.inr (.inl ⟨h4,h⟩)))
 rw [if_neg h4,if_neg h4]
 by_cases a7:az x=5∨az x=6∨az x=7
 ·rw [if_pos a7,if_pos a7]
  exact(ah5 v c x hv hc hx a7).up fun w h=>.inr (.inr (.inr (.inr (.inl ⟨a7,h⟩))))
 rw [if_neg a7,if_neg a7]
 by_cases bh:az x=15
 ·rw [if_pos bh,if_pos (.inl bh)]
  exact(aid v c x hv hc hx bh).up fun w h=>.inr (.inr (.inr (.inr (.inr (.inl ⟨bh,h⟩)))))
 rw [if_neg bh]
 by_cases bH:az x=16
 ·rw [if_pos bH,if_pos (.inr (.inl bH))]
  exact(aie v c x hv hc hx bH).up fun w h=>.inr (.inr (.inr (.inr (.inr (.inr (.inl ⟨bH,h⟩))))))
 rw [if_neg bH]
 by_cases cG:az x=19
 ·rw [if_pos cG,if_pos (.inr (.inr cG))]
  exact(aih v c x hv hc hx cG).up fun w h=>.inr (.inr (.inr (.inr (.inr (.inr (.inr (.inl ⟨cG,h⟩)))))))
 rw [if_neg cG,if_neg (show ¬(az x=15∨az x=16∨az x=19) by omega)]
 have nA:o7 v c x v:=.inr (.inr (.inr (.inr (.inr (.inr (.inr (.inr ⟨by omega,rfl⟩)))))))
 by_cases iZ:az x=4
 ·rw [if_pos iZ]
  exact(aiD v c x hv hc hx iZ).up nA
 rw [if_neg iZ]
 by_cases j6:az x=11
 ·rw [if_pos j6]
  exact(ais v c x hv hc hx j6).up nA
 rw [if_neg j6]
 by_cases tF:az x=13∨az x=20
 ·rw [if_pos tF]
  exact(aiB v c x hv hc hx tF).up nA
 rw [if_neg tF]
 by_cases lP:az x=14
 ·rw [if_pos lP]
  exact(aiw v c x hv hc hx lP).up nA
 rw [if_neg lP]
 by_cases wv:az x=17
 ·rw [if_pos wv]
  have:=(ait v c x hv hc hx wv).up (Q':=o7 v c x) nA
  rwa [WR] at this
 rw [if_neg wv]
 have:=(aiv v c x hv (by omega)).up (Q':=o7 v c x) nA
 rwa [WR] at this
theorem bz.GO{v:ae.D}(h:bz v):lZ (v,())=some (v,()):=vq v h.fP.len fun i hi=>Nat.le_trans (fI hi) h.fP.cC
theorem bz.aiF{v:ae.D}(h:bz v):sm (v,())=some (v,()):=agz v h.fP.len fun i hi=>Nat.le_trans (fI hi) h.fP.cC
structure AR(v:ae.D)(c:aH.D)(x:aI.D)(w:ae.D)(k:Int)(t:aF):Prop where
 bad:jA v=false→w=(0,[],())∧k=22∧t=[]
 WT:jA v=true→c9 c=false→w=v∧k=22∧t=[]
 call:jA v=true→c9 c=true→(ke x=false∨20<az x)→w=v∧k=22∧t=[]
 no:jA v=true→k≠0→w=v
 len:t.length≤1000
 data:k=0∨t=[]
 done:jA v=true→c9 c=true→ke x=true→az x≤20→k=0→o7 v c x w
theorem AS(v:ae.D)(c:aH.D)(x:aI.D)(hv:vp v):∃w k t,xu (v,c,x,())=some (w,(k,t,()),())∧jg (v,c,x,())=some (w,(k,t,()),())∧AR v c x w k t:=by
 show ∃w k t,z1 v c x=_∧LF v c x=_∧_
 unfold z1 LF
 rw [MX v hv,F8 v hv]
 simp only [av]
 cases ca:jA v with
 | false=>exact⟨(0,[],()),22,[],rfl,rfl,fun _=>⟨rfl,rfl,rfl⟩,fun h=>by simp [ca] at h,fun h=>by simp [ca] at h,fun h=>by simp [ca] at h,by simp,.inr rfl,fun h=>by simp [ca] at h⟩
 | true =>
 have dJ:=mW.1 ca
 simp only [Bool.not_true,cond_false]
 have aiG:(Option.bind (LD (v,c,x,())) fun v3=>some (v3.1,v3.2.1,()))=zY v c x:=by
  show(Option.bind (zY v c x) fun v3=>some (v3.1,v3.2.1,()))=_
  cases zY v c x <;> rfl
 rw [aiG]
 unfold zY
 rw [xK,F9,af0,dJ.aiF,dJ.GO]
 simp only [av]
 cases hc:c9 c with
 | false=>exact⟨v,22,[],rfl,rfl,fun h=>by simp [ca] at h,fun _ _=>⟨rfl,rfl,rfl⟩,fun _ h=>by simp [hc] at h,fun _ _=>rfl,by simp,.inr rfl,fun _ h=>by simp [hc] at h⟩
 | true =>
 simp only [Bool.not_true,cond_false]
 have aiH:∀A:Option (ae.D×aL.D×Unit),both (both (Option.bind A fun v5=>dup (some (v5.1,v5.2.1,()))) (dup (dup (Option.bind A fun v5=>some (v5.1,v5.2.1,()))))) (dup (both (dup (Option.bind A fun v5=>some (v5.1,v5.2.1,()))) (Option.bind A fun v5=>some (v5.1,v5.2.1,()))))=A:=by
  intro A
  simp only [k7,uc]
  cases A <;> rfl
 rw [aiH]
 have bad:ke x=false∨20<az x→kH (v,c,x,())=some (v,(22,[],()),()):=by
  intro h
  show sf (zz aP) v c x=_
  unfold sf
  rw [ME]
  simp only [av]
  cases hcall:ke x with
  | false=>rfl
  | true =>
   rcases h with h | h
   ·rw [hcall] at h;cases h
   ·simp only [Bool.not_true,cond_false]
    rw [decide_eq_true (show x.1>20 from h)];rfl
 cases hcall:ke x with
 | false =>
  rw [bad (.inl hcall)]
  exact⟨v,22,[],rfl,rfl,fun h=>by simp [ca] at h,fun _ h=>by simp [hc] at h,fun _ _ _=>⟨rfl,rfl,rfl⟩,fun _ _=>rfl,by simp,.inr rfl,fun _ _ h=>by simp [hcall] at h⟩
 | true =>
 have hx:=vw.1 hcall
 simp only [Bool.not_true,cond_false]
 by_cases kO:az x≤20
 case neg =>
  rw [bad (.inr (by omega)),decide_eq_true (show x.1>20 from Int.not_le.1 kO)]
  exact⟨v,22,[],rfl,rfl,fun h=>by simp [ca] at h,fun _ h=>by simp [hc] at h,fun _ _ _=>⟨rfl,rfl,rfl⟩,fun _ _=>rfl,by simp,.inr rfl,fun _ _ _ h=>absurd h kO⟩
 rw [decide_eq_false (show ¬x.1>20 from Int.not_lt.2 kO)]
 simp only [cond_false]
 obtain ⟨k,t,w,h1,h2,h3,h4,a7⟩:=WS v c x dJ hc hx kO
 rw [h1,h2]
 simp only [av]
 refine⟨cond (k==0) w v,k,t,rfl,?_,fun h=>by simp [ca] at h,fun _ h=>by simp [hc] at h,fun _ _ h=>?_,fun _ h=>by rw [b5 h];rfl,h4,a7,fun _ _ _ _ h0=>by rw [cF h0];exact h3 h0⟩
 ·by_cases h0:k=0
  ·rw [dt h0,cF h0];rfl
  ·rw [cV h0,b5 h0];rfl
 ·rcases h with h | h
  ·simp [hcall] at h
  ·omega
structure fK(n:Nat)(x:aJ):Prop where
 fO:(bw x).length≤200
 cC:(ak x).length≤n
 each:∀d,d∈ak x→d.1.length≤8
structure eV(n:Nat)(l:List aJ):Prop where
 len:l.length≤n
 po:∀x,x∈l→fK n x
theorem fK.mono{n m:Nat}{x:aJ}(h:fK n x)(hm:n≤m):fK m x:=⟨h.fO,Nat.le_trans h.cC hm,h.each⟩
theorem eV.mono{n m:Nat}{l:List aJ}(h:eV n l)(hm:n≤m):eV m l:=⟨Nat.le_trans h.len hm,fun x hx=>(h.po x hx).mono hm⟩
theorem eV.get{n:Nat}{l:List aJ}(h:eV n l){i:Nat}(hi:i<l.length):fK n (J I l i):=h.po _ (cJ hi)
theorem eV.set{n:Nat}{l:List aJ}(h:eV n l)(i:Nat){y:aJ}(aN:fK n y):eV n (l.set i y):=⟨by rw [List.length_set];exact h.len,fun x hx=>by
 rcases List.mem_or_eq_of_mem_set hx with hx | rfl
 ·exact h.po x hx
 ·exact aN⟩
theorem eV.go{n:Nat}{l:List aJ}(h:eV n l)(id:Int):eV n (goN l id):=by
 unfold goN
 cases decide (ck l id=0)
 ·exact h
 ·exact⟨Nat.le_trans (List.length_filter_le _ _) h.len,fun x hx=>h.po x (List.mem_filter.1 hx).1⟩
theorem eV.app{n:Nat}{l:List aJ}(h:eV n l){y:aJ}(aN:fK n y):eV (n+1) (l++[y]):=⟨by simp only [List.length_append,List.length_singleton];have:=h.len;omega,fun x hx=>by
 rcases List.mem_append.1 hx with hx | hx
 ·exact(h.po x hx).mono (by omega)
 ·rw [List.mem_singleton.1 hx];exact aN.mono (by omega)⟩
theorem fK.ins{n:Nat}{x:aJ}(h:fK n x){s:aF}(hs:s.length≤8)(id:Int):fK (n+1) (b0 x (ins (ak x) s id)):=⟨h.fO,by
 show(kD.ins (ak x) s id).length≤_
 rw [xR];have:=h.cC;omega,fun d ag=>by
 rcases l5.1 ag with ag | rfl
 ·exact h.each d ag
 ·exact hs⟩
theorem fK.un{n:Nat}{x:aJ}(h:fK n x)(s:aF):fK n (b0 x (cf (ak x) s)):=⟨h.fO,Nat.le_trans (vu _ _) h.cC,fun d ag=>h.each d (sV ag)⟩
theorem WU{v:ae.D}{n:Nat}(h:eV n v.2.1):ad.cost ae v≤n+n*(200+9*n):=by
 rw [MW]
 have h1:=GN q2 (200+9*n) v.2.1 fun x hx=>by
  have au:=h.po x hx
  have h2:=GN (fun d:aw.D=>ad.cost aw d) 8 (ak x) fun d ag=>by
   rw [Vn];exact au.each d ag
  unfold q2
  rw [F6,UT]
  have:=au.fO
  have:=au.cC
  omega
 have h3:v.2.1.length*(200+9*n)≤n*(200+9*n):=Nat.mul_le_mul_right _ h.len
 have:=h.len
 omega
theorem bz.sz{v:ae.D}(h:bz v):eV 24 v.2.1:=by
 refine⟨h.len.2,fun x hx=>?_⟩
 obtain ⟨i,hi,rfl⟩:=fg hx
 have bS:=h.ino i hi
 refine⟨by have:=h.fO hi;omega,?_,fun d ag=>GM (bS.names d ag).1⟩
 by_cases hk:kindOf (J I v.2.1 i)=2
 ·have:=(bS.dir hk).2.2.2;omega
 ·rw [(bS.plain hk).2.2];simp
theorem NT{l:List aJ}{r:aS.D}(h:l3 l r)(hn:nameOf r≠[])(hc:bE r=0∨bE r=2):(nameOf r).length≤8:=by
 rcases hc with hc | hc
 ·exact GM (h.named hc hn).2.1
 ·exact GM (h.new hc hn).2.1
theorem WV{v:ae.D}{n:Nat}(h:eV n v.2.1){i:Nat}(hi:i<v.2.1.length)(s:aF):eV n (hU v i s).2.1:=(h.set i ((h.get hi).un s)).go _
theorem aiI{l:List aJ}{n:Nat}(h:eV n l){ir it:Nat}(hr:ir<l.length)(ht:it<l.length)(ct:aF){dY:aF}(hs:dY.length≤8)(id:Int):eV (n+1) (eP l ir ct it dY id):=by
 have h1:eV n (dC l ir ct):=h.set ir ((h.get hr).un ct)
 refine(h1.mono (by omega)).set it (fK.ins (n:=n) (h1.get ?_) hs id)
 unfold dC
 rw [List.length_set];exact ht
theorem aiJ(s:aF)(a:Nat)(d:aF)(hs:s.length≤64)(h:a+d.length≤64):(lq s a d).length≤200:=by
 unfold lq
 rw [List.length_append,List.length_append,p6,List.length_drop];omega
theorem o7.sz{v:ae.D}{c:aH.D}{x:aI.D}{w:ae.D}(hv:bz v)(hx:gM x)(h:o7 v c x w):eV 30 w.2.1:=by
 have jV:=hv.sz
 rcases h with⟨_,h⟩ | ⟨_,h⟩ | ⟨_,h⟩ | ⟨_,h⟩ | ⟨_,h⟩ | ⟨_,h⟩ | ⟨_,h⟩ | ⟨_,h⟩ | ⟨_,h⟩
 ·obtain ⟨r,i,hr,hc,hn,hi,_,_,_,_,_,rfl,_⟩:=h.out
  have bR:=(bT hi).1
  have:=hx.sS
  have h1:eV 25 (v.2.1.set i (b0 (J I v.2.1 i) (ins (ak (J I v.2.1 i)) (nameOf r) v.1))):=(jV.mono (by omega)).set i ((jV.get bR).ins (NT hr hn (.inr hc)) _)
  refine(h1.app (y:=fQ v c x (J I v.2.1 i)) ⟨?_,by simp [fQ,ak],by simp [fQ,ak]⟩).mono (by omega)
  show(if az x=10 then iN x else []).length≤200
  split
  ·omega
  ·simp
 ·obtain ⟨r,i,j,_,_,_,hi,_,_,_,_,_,_,rfl⟩:=h.out
  exact(WV jV (bT hi).1 _).mono (by omega)
 ·obtain ⟨r,t,i,j,_,_,_,_,ht,q',htn,hi,_,_,rfl,_⟩:=h.out
  exact((jV.mono (by omega)).set i ((jV.get (bT hi).1).ins (NT ht htn (.inr q')) _)).mono (by omega)
 ·obtain ⟨r,t,j,hr,hc,hn,hj,ht,htn,q',_,h⟩:=h.out
  rcases h with⟨_,rfl⟩ | ⟨_,_,l,ir,it,au,rfl,_,h⟩
  ·exact jV.mono (by omega)
  ·have hl:eV 24 l:=by
    rcases h with⟨_,rfl,_⟩ | ⟨i2,eY,eL,_,_,_,_,_,rfl⟩
    ·exact jV
    ·exact WV jV (bT eL).1 _
   exact(aiI hl (bT au.hr).1 (bT au.ht).1 _ (NT ht htn q') _).mono (by omega)
 ·obtain ⟨r,i,hr,hc,hi,_,_,_,ha,_,h⟩:=h.out
  rcases h with⟨_,_,rfl⟩ | ⟨_,hle,rfl,_⟩
  ·exact jV.mono (by omega)
  ·have au:=jV.get (bT hi).1
   refine(jV.mono (by omega)).set i ⟨?_,by have:=au.cC;exact Nat.le_trans this (by omega),au.each⟩
   show(iO x (J I v.2.1 i)).length≤200
   have ag:=hv.fO (bT hi).1
   unfold iO
   split
   ·rename_i bH
    rw [p6]
    have:er x (J I v.2.1 i)=bO x:=by unfold er;rw [if_neg (by omega)]
    omega
   ·exact aiJ _ _ _ ag (by omega)
 ·obtain ⟨_,_,r,i,_,_,hi,_,_,rfl⟩:=h.out
  have au:=jV.get (bT hi).1
  exact(jV.mono (by omega)).set i ⟨au.fO,Nat.le_trans au.cC (by omega),au.each⟩
 ·obtain ⟨_,_,r,i,_,_,hi,rfl⟩:=h.out
  have au:=jV.get (bT hi).1
  exact(jV.mono (by omega)).set i ⟨au.fO,Nat.le_trans au.cC (by omega),au.each⟩
 ·obtain ⟨_,_,_,r,i,_,_,hi,_,rfl,_⟩:=h.out
  have au:=jV.get (bT hi).1
  exact(jV.mono (by omega)).set i ⟨au.fO,Nat.le_trans au.cC (by omega),au.each⟩
 ·rw [h];exact jV.mono (by omega)
theorem AR.cost{v:ae.D}{c:aH.D}{x:aI.D}{w:ae.D}{k:Int}{t:aF}(h:AR v c x w k t)(hv:ad.cost ae v≤1048576):ad.cost ae w≤1048576:=by
 have h0:w=v→ad.cost ae w≤1048576:=fun e=>by rw [e];exact hv
 cases ca:jA v with
 | false=>rw [(h.bad ca).1,MW];simp
 | true =>
 cases hc:c9 c with
 | false=>exact h0 (h.WT ca hc).1
 | true =>
 cases hcall:ke x with
 | false=>exact h0 (h.call ca hc (.inl hcall)).1
 | true =>
 by_cases kO:20<az x
 ·exact h0 (h.call ca hc (.inr kO)).1
 by_cases hk:k=0
 ·have:=WU ((h.done ca hc hcall (by omega) hk).sz (mW.1 ca) (vw.1 hcall))
  omega
 ·exact h0 (h.no ca hk)
structure aiK(n:Int)(l:List aJ):Prop where
 next:2≤n∧n≤100000
 len:l.length≤24
 ko:l.Pairwise fun a b=>aX a<aX b
 root:∃x,x∈l∧aX x=1∧kindOf x=2
 ids:∀x,x∈l→1≤aX x∧aX x≤n-1
 ino:∀x,x∈l→lp l x
 reach:∀x,x∈l→aX x≠1→dP l 1 (aX x)
 once:∀x,x∈l→aX x≠1→kindOf x=2→ck l (aX x)=1
 bytes:bytesOf l≤400
 over:gp l=false
theorem aiL{l:List aJ}(h:l.Pairwise fun a b=>aX a<aX b):Aw l:=h.imp fun h=>by omega
theorem lv{l:List aJ}(h:l.Pairwise fun a b=>aX a<aX b):ij l:=Ax.2 (aiL h)
theorem GP{l:List aJ}(h:l.Pairwise fun a b=>aX a<aX b){i j:Nat}(iP:i<j)(hj:j<l.length):aX (J I l i)<aX (J I l j):=by
 rw [c6 (by omega),c6 hj]
 exact List.pairwise_iff_getElem.1 h i j (by omega) hj iP
theorem WW{l:List aJ}(h:∀i,i+1<l.length→aX (J I l i)<aX (J I l (i+1))):l.Pairwise fun a b=>aX a<aX b:=by
 have cz:∀d j,j+d+1<l.length→aX (J I l j)<aX (J I l (j+d+1)):=by
  intro d
  induction d with
  | zero=>intro j hj;exact h j hj
  | succ d ih=>intro j hj;exact Int.lt_trans (ih j (by omega)) (h (j+d+1) hj)
 rw [List.pairwise_iff_getElem]
 intro i j hi hj iP
 have:=cz (j-i-1) i (by omega)
 rw [show i +(j-i-1)+1=j by omega,c6 hi,c6 hj] at this
 exact this
theorem m4{v:ae.D} : bz v↔aiK (dn v) v.2.1:=by
 constructor
 ·intro h
  have h0:0<v.2.1.length:=by have:=h.len;omega
  have b2:∀i,i<v.2.1.length→aX (J I v.2.1 i)≠1→1≤i:=by
   intro i hi hne
   rcases Nat.eq_zero_or_pos i with h | h
   ·subst h;exact absurd (bz.root ‹_›).1 hne
   ·exact h
  refine⟨h.next,h.len.2,WW h.Gj,⟨_,cJ h0,h.root⟩,?_,?_,?_,?_,h.bytes,h.over⟩
  ·intro x hx;obtain ⟨i,hi,rfl⟩:=fg hx;exact h.ids i hi
  ·intro x hx;obtain ⟨i,hi,rfl⟩:=fg hx;exact h.ino i hi
  ·intro x hx hne;obtain ⟨i,hi,rfl⟩:=fg hx;exact h.reach i (b2 i hi hne) hi
  ·intro x hx hne hk;obtain ⟨i,hi,rfl⟩:=fg hx;exact h.once i (b2 i hi hne) hi hk
 ·intro h
  obtain ⟨x,hx,hx1,hx2⟩:=h.root
  obtain ⟨k,hk,rfl⟩:=fg hx
  have hk0:k=0:=by
   rcases Nat.eq_zero_or_pos k with h0 | h0
   ·exact h0
   ·have h1:=GP h.ko h0 hk
    have h2:=h.ids _ (cJ (show 0<v.2.1.length by omega))
    omega
  subst hk0
  have hne:∀i,1≤i→i<v.2.1.length→aX (J I v.2.1 i)≠1:=by
   intro i hi hl
   have:=GP h.ko (show 0<i by omega) hl
   omega
  exact⟨h.next,⟨by omega,h.len⟩,⟨hx1,hx2⟩,fun i hi=>h.ids _ (cJ hi),fun i hi=>GP h.ko (Nat.lt_succ_self i) hi,fun i hi=>h.ino _ (cJ hi),fun i h1 hi=>h.reach _ (cJ hi) (hne i h1 hi),fun i h1 hi hk=>h.once _ (cJ hi) (hne i h1 hi) hk,h.bytes,h.over⟩
theorem im{l:List aJ}(ag:ij l){a b:Int} : E l a b↔∃x,x∈l∧aX x=a∧∃d,d∈ak x∧d.2.1=b:=by
 constructor
 ·rintro ⟨i,d,hi,hm,he⟩
  exact⟨J I l i,cJ (bT hi).1,(bT hi).2,d,hm,he⟩
 ·rintro ⟨x,hx,rfl,d,hm,he⟩
  obtain ⟨i,hi,rfl⟩:=fg hx
  exact⟨i,d,ag i hi,hm,he⟩
theorem x0{l l':List aJ}(h:∀a b,E l a b→E l' a b){a b:Int}(hb:dP l a b):dP l' a b:=by
 induction hb with
 | single h1=>exact .single (h _ _ h1)
 | tail _ h1 ih=>exact .tail ih (h _ _ h1)
theorem lp.to{l l':List aJ}{x:aJ}(h:lp l x)(hn:∀d,d∈ak x→(bd l d.2.1).isSome=true→(bd l' d.2.1).isSome=true):lp l' x :=
 ⟨h.mode,h.uid,h.gid,h.kind,h.plain,h.file,h.l2,h.dir,fun d ag=>⟨(h.names d ag).1,(h.names d ag).2.1,hn d ag (h.names d ag).2.2⟩,h.sorted⟩
theorem mem_set{l:List aJ}(ag:ij l){i:Nat}(hi:i<l.length){y:aJ}(aN:aX y=aX (J I l i)){x:aJ} : x∈l.set i y↔x=y∨(x∈l∧aX x≠aX y):=by
 constructor
 ·intro hx
  obtain ⟨j,hj,rfl⟩:=fg hx
  rw [List.length_set] at hj
  rw [iM hi]
  split
  ·exact .inl rfl
  ·rename_i iP
   refine .inr ⟨cJ hj,fun he=>iP ?_⟩
   have h1:=ag i hi
   have h2:=ag j hj
   have:(J I l j).1=(J I l i).1:=(show aX (J I l j)=aX (J I l i) by rw [he,aN])
   rw [this,h1] at h2
   exact aT h2
 ·rintro (rfl | ⟨hx,hne⟩)
  ·exact List.mem_iff_getElem.2 ⟨i,by rw [List.length_set];exact hi,by rw [List.getElem_set_self]⟩
  ·obtain ⟨j,hj,rfl⟩:=fg hx
   have iP:i≠j:=fun h=>hne (by subst h;exact aN.symm)
   have:J I (l.set i y) j=J I l j:=by rw [iM hi,if_neg iP]
   rw [← this]
   exact cJ (by rw [List.length_set];exact hj)
theorem vC{l:List aJ}(h:l.Pairwise fun a b=>aX a<aX b){i:Nat}(hi:i<l.length){y:aJ}(aN:aX y=aX (J I l i)):(l.set i y).Pairwise fun a b=>aX a<aX b:=by
 refine WW fun j hj=>?_
 rw [List.length_set] at hj
 have key:∀k,aX (J I (l.set i y) k)=aX (J I l k):=by
  intro k
  rw [iM hi]
  split
  ·rename_i h;subst h;exact aN
  ·rfl
 rw [key,key]
 exact GP h (Nat.lt_succ_self j) hj
theorem GQ{l:List aJ}{i:Nat}{y:aJ}(hi:i<l.length)(b:Int):ck (l.set i y) b+du (ak (J I l i)) b=ck l b+du (ak y) b:=by
 unfold ck
 induction l generalizing i with
 | nil=>simp at hi
 | cons z l ih =>
  cases i with
  | zero =>
   simp only [List.set_cons_zero,List.map_cons,List.sum_cons]
   rw [show J I (z :: l) 0=z from rfl];omega
  | succ i =>
   simp only [List.set_cons_succ,List.map_cons,List.sum_cons]
   have:=ih (i:=i) (by simpa using hi)
   rw [show J I (z :: l) (i+1)=J I l i from rfl];omega
theorem WX(l:List aJ)(n:aJ)(b:Int):ck (l++[n]) b=ck l b+du (ak n) b:=by
 unfold ck
 rw [List.map_append,List.sum_append_nat];simp
theorem x1(N M:List aw.D)(b:Int):du (N++M) b=du N b+du M b:=by
 unfold du
 rw [List.filter_append,List.length_append]
theorem WY(s:aF)(id b:Int):du [((s,id,()):aw.D)] b=cond (id==b) 1 0:=by
 unfold du
 rw [List.filter_cons]
 cases h:(((s,id,()):aw.D).2.1==b)
 ·rfl
 ·rfl
theorem aiM(N:List aw.D)(s:aF)(id b:Int):du (ins N s id) b=du N b+cond (id==b) 1 0:=by
 unfold ins
 rw [x1,x1,WY]
 have:du N b=du (N.takeWhile (dW s)) b+du (N.dropWhile (dW s)) b:=by rw [← x1,List.takeWhile_append_dropWhile]
 omega
theorem aiN{N:List aw.D}{b:Int}(h:∀d,d∈N→d.2.1≠b):du N b=0:=by
 unfold du
 rw [List.filter_eq_nil_iff.2 fun d ag=>by rw [beq_iff_eq];exact h d ag];rfl
theorem WZ{l:List aJ}{b:Int}(h:∀x,x∈l→∀d,d∈ak x→d.2.1≠b):ck l b=0:=by
 unfold ck
 exact Ns fun x hx=>aiN (h x hx)
theorem W0{l:List aJ}(hx:q0 l){b:Int}(h:bd l b=none):ck l b=0:=by
 refine WZ fun x aiO d ag he=>?_
 obtain ⟨i,hi,rfl⟩:=fg aiO
 have:=hx i hi d ag
 rw [he,h] at this
 cases this
theorem NU:∀ {N:List aw.D},jh N→∀ {d:aw.D},d∈N→∀b:Int,du (cf N d.1) b+cond (d.2.1==b) 1 0=du N b
 | [],_,d,ag,_=>by cases ag
 | x :: N,hs,d,ag,b=>by
  have h1:=List.pairwise_cons.1 hs
  rcases List.mem_cons.1 ag with rfl | ag
  ·have e:cf (d :: N) d.1=N:=by
    unfold cf
    rw [List.filter_cons,show(!bn d.1 d.1)=false by unfold bn;simp]
    simp only [Bool.false_eq_true,if_false]
    refine List.filter_eq_self.2 fun y aN=>?_
    have:=Gh (h1.1 y aN)
    unfold bn
    simp only [Bool.not_eq_true',decide_eq_false_iff_not]
    exact fun e=>this e.symm
   rw [e]
   show _=du ([d]++N) b
   rw [x1]
   have:du [d] b=cond (d.2.1==b) 1 0:=WY d.1 d.2.1 b
   omega
  ·have e:cf (x :: N) d.1=x :: cf N d.1:=by
    unfold cf
    rw [List.filter_cons,show(!bn x.1 d.1)=true by
     have:=Gh (h1.1 d ag)
     unfold bn;simp [this]]
    rfl
   have ih:=NU h1.2 ag b
   rw [e]
   show du ([x]++cf N d.1) b+_=du ([x]++N) b
   rw [x1,x1]
   omega
theorem GR{l:List aJ} : fl l=0↔bytesOf l≤400∧gp l=false:=by
 unfold fl
 by_cases h:(bytesOf l:Int)>400
 ·rw [decide_eq_true h]
  constructor
  ·intro h0;cases h0
  ·intro h0;omega
 ·rw [decide_eq_false h]
  cases gp l with
  | true =>
   constructor
   ·intro h0;cases h0
   ·intro h0;cases h0.2
  | false=>exact⟨fun _=>⟨by omega,rfl⟩,fun _=>rfl⟩
theorem bz.keep{v:ae.D}(hv:bz v){i:Nat}(hi:i<v.2.1.length){y:aJ}(h1:aX y=aX (J I v.2.1 i))(h2:kindOf y=kindOf (J I v.2.1 i))(h3:ak y=ak (J I v.2.1 i))(hS:lp v.2.1 y)
  (hf:fl (v.2.1.set i y)=0):bz (v.1,v.2.1.set i y,()):=by
 have h:=m4.1 hv
 have ag:=lv h.ko
 have AT:∀id,bd (v.2.1.set i y) id=bd v.2.1 id:=fun id=>Av hi h1 id
 have iz:=vC h.ko hi h1
 have hE:∀a b,E v.2.1 a b→E (v.2.1.set i y) a b:=by
  intro a b
  rw [im ag,im (lv iz)]
  rintro ⟨x,hx,jD,d,h8,AU⟩
  by_cases hB:aX x=aX y
  ·refine⟨y,(mem_set ag hi h1).2 (.inl rfl),by rw [← hB];exact jD,d,?_,AU⟩
   obtain ⟨j,hj,rfl⟩:=fg hx
   have e1:=ag i hi
   have e2:=ag j hj
   have:(J I v.2.1 j).1=(J I v.2.1 i).1:=(show aX _=aX _ by rw [hB,h1])
   rw [this,e1] at e2
   obtain rfl:=aT e2
   rw [h3];exact h8
  ·exact⟨x,(mem_set ag hi h1).2 (.inr ⟨hx,hB⟩),jD,d,h8,AU⟩
 have gv:∀a b,dP v.2.1 a b→dP (v.2.1.set i y) a b:=fun a b hb=>x0 hE hb
 have hQ:∀b,ck (v.2.1.set i y) b=ck v.2.1 b:=by
  intro b
  have:=GQ (y:=y) hi b
  rw [h3] at this
  omega
 have p8:=cJ (t:=I) hi
 have kC:=GR.1 hf
 refine m4.2 ⟨h.next,by rw [List.length_set];exact h.len,iz,?_,?_,?_,?_,?_,kC.1,kC.2⟩
 ·obtain ⟨x,hx,hx1,hx2⟩:=h.root
  by_cases hB:aX x=aX y
  ·refine⟨y,(mem_set ag hi h1).2 (.inl rfl),by rw [← hB];exact hx1,?_⟩
   obtain ⟨j,hj,rfl⟩:=fg hx
   have e1:=ag i hi
   have e2:=ag j hj
   have:(J I v.2.1 j).1=(J I v.2.1 i).1:=(show aX _=aX _ by rw [hB,h1])
   rw [this,e1] at e2
   obtain rfl:=aT e2
   rw [h2];exact hx2
  ·exact⟨x,(mem_set ag hi h1).2 (.inr ⟨hx,hB⟩),hx1,hx2⟩
 ·intro x hx
  rcases (mem_set ag hi h1).1 hx with rfl | ⟨hx,_⟩
  ·rw [h1];exact h.ids _ p8
  ·exact h.ids x hx
 ·intro x hx
  rcases (mem_set ag hi h1).1 hx with rfl | ⟨hx,_⟩
  ·exact hS.to fun d _ h=>by rw [AT];exact h
  ·exact(h.ino x hx).to fun d _ h=>by rw [AT];exact h
 ·intro x hx hne
  rcases (mem_set ag hi h1).1 hx with rfl | ⟨hx,_⟩
  ·rw [h1] at hne ⊢;exact gv _ _ (h.reach _ p8 hne)
  ·exact gv _ _ (h.reach x hx hne)
 ·intro x hx hne hk
  rw [hQ]
  rcases (mem_set ag hi h1).1 hx with rfl | ⟨hx,_⟩
  ·rw [h1] at hne ⊢;rw [h2] at hk;exact h.once _ p8 hne hk
  ·exact h.once x hx hne hk
theorem bz.get{v:ae.D}(h:bz v){x:aJ}(hx:x∈v.2.1):lp v.2.1 x:=(m4.1 h).ino x hx
theorem m5{l:List aJ}(ag:ij l){x y:aJ}(hx:x∈l)(aN:y∈l)(h:aX x=aX y):x=y:=by
 obtain ⟨i,hi,rfl⟩:=fg hx
 obtain ⟨j,hj,rfl⟩:=fg aN
 have e1:=ag i hi
 have e2:=ag j hj
 have:(J I l i).1=(J I l j).1:=h
 rw [this,e2] at e1
 rw [aT e1]
theorem lp.named{l l':List aJ}{x:aJ}(h:lp l x)(kV:∀id,(bd l id).isSome=true→(bd l' id).isSome=true)(hk:kindOf x=2){s:aF}{id:Int}(hs:ig s=true)(h1:id≠1)(b2:(bd l' id).isSome=true)(hl:(ak x).length<12)(hn:∀d,d∈ak x→d.1≠s):lp l' (b0 x (ins (ak x) s id)) :=
 ⟨h.mode,h.uid,h.gid,h.kind,fun en=>absurd hk en,h.file,h.l2,fun en=>⟨(h.dir en).1,(h.dir en).2.1,(h.dir en).2.2.1,by
  show(ins (ak x) s id).length≤12
  rw [xR];omega⟩,fun d ag=>by
  rcases l5.1 ag with ag | rfl
  ·exact⟨(h.names d ag).1,(h.names d ag).2.1,kV _ (h.names d ag).2.2⟩
  ·exact⟨hs,h1,b2⟩,Wj h.sorted hn⟩
theorem NV{l:List aJ}(hr:l.Pairwise fun a b=>aX a<aX b){i:Nat}(hi:i<l.length)(s:aF)(id:Int) :
  (∀a b,E l a b→E (l.set i (b0 (J I l i) (ins (ak (J I l i)) s id))) a b)∧E (l.set i (b0 (J I l i) (ins (ak (J I l i)) s id))) (aX (J I l i)) id:=by
 have ag:=lv hr
 have aN:aX (b0 (J I l i) (ins (ak (J I l i)) s id))=aX (J I l i):=sX _ _
 have js:=lv (vC hr hi aN)
 have W4:b0 (J I l i) (ins (ak (J I l i)) s id)∈l.set i (b0 (J I l i) (ins (ak (J I l i)) s id)):=(mem_set ag hi aN).2 (.inl rfl)
 constructor
 ·intro a b
  rw [im ag,im js]
  rintro ⟨x,hx,jD,d,h8,AU⟩
  by_cases hB:aX x=aX (J I l i)
  ·obtain rfl:=m5 ag hx (cJ hi) hB
   exact⟨_,W4,aN.trans jD,d,l5.2 (.inl h8),AU⟩
  ·exact⟨x,(mem_set ag hi aN).2 (.inr ⟨hx,by rw [aN];exact hB⟩),jD,d,h8,AU⟩
 ·rw [im js]
  exact⟨_,W4,aN,(s,id,()),l5.2 (.inr rfl),rfl⟩
theorem NW{l:List aJ}{i:Nat}(hi:i<l.length)(s:aF)(id b:Int):ck (l.set i (b0 (J I l i) (ins (ak (J I l i)) s id))) b=ck l b+cond (id==b) 1 0:=by
 have h:=GQ (y:=b0 (J I l i) (ins (ak (J I l i)) s id)) hi b
 rw [hy,aiM] at h
 omega
theorem GA.ok{v:ae.D}{c:aH.D}{x:aI.D}{w:ae.D}(hv:bz v)(hx:gM x)(h:GA v c x w):bz w:=by
 obtain ⟨r,t,i,j,hr,hc,hj,q1,ht,q',htn,hi,gW,hl,rfl,hf,_⟩:=h.out
 have hm:=m4.1 hv
 have ag:=lv hm.ko
 have bR:=(bT hi).1
 have hjl:=bT hj
 obtain ⟨o3,hQ,d,gh,iC,NX⟩:=ht.new q' htn
 obtain rfl:d=i:=aT (gh.symm.trans hi)
 have fi:=AB NX fun e he=>hv.AD bR he
 have yR:bp r≠1:=by
  intro h1
  obtain ⟨z,hz,jr,hz2⟩:=hm.root
  have:J I v.2.1 j=z:=m5 ag (cJ hjl.1) hz (by rw [jr];exact hjl.2.trans h1)
  rw [this] at q1
  exact q1 hz2
 have hS:=(hm.ino _ (cJ bR)).named (fun _ h=>h) gW hQ yR (by rw [hj];rfl) hl fi
 obtain ⟨hE,_⟩:=NV hm.ko bR (nameOf t) (bp r)
 have aN:aX (b0 (J I v.2.1 d) (ins (ak (J I v.2.1 d)) (nameOf t) (bp r)))=aX (J I v.2.1 d):=sX _ _
 have AT:∀id,bd (v.2.1.set d (b0 (J I v.2.1 d) (ins (ak (J I v.2.1 d)) (nameOf t) (bp r)))) id=bd v.2.1 id:=fun id=>AK _ bR id
 have kC:=GR.1 hf
 refine m4.2 ⟨hm.next,by show(List.set _ _ _).length≤24;rw [List.length_set];exact hm.len,vC hm.ko bR aN,?_,?_,?_,?_,?_,kC.1,kC.2⟩
 ·obtain ⟨z,hz,jr,hz2⟩:=hm.root
  by_cases AV:aX z=aX (J I v.2.1 d)
  ·exact⟨_,(mem_set ag bR aN).2 (.inl rfl),by rw [aN,← AV];exact jr,gW⟩
  ·exact⟨z,(mem_set ag bR aN).2 (.inr ⟨hz,by rw [aN];exact AV⟩),jr,hz2⟩
 ·intro z hz
  rcases (mem_set ag bR aN).1 hz with rfl | ⟨hz,_⟩
  ·rw [aN];exact hm.ids _ (cJ bR)
  ·exact hm.ids z hz
 ·intro z hz
  rcases (mem_set ag bR aN).1 hz with rfl | ⟨hz,_⟩
  ·exact hS.to fun e _ h=>by rw [vy,AT];exact h
  ·exact(hm.ino z hz).to fun e _ h=>by rw [vy,AT];exact h
 ·intro z hz hne
  rcases (mem_set ag bR aN).1 hz with rfl | ⟨hz,_⟩
  ·rw [aN] at hne ⊢;exact x0 hE (hm.reach _ (cJ bR) hne)
  ·exact x0 hE (hm.reach z hz hne)
 ·have W5:∀z,z∈v.2.1→aX z≠1→kindOf z=2→ck (v.2.1.set d (b0 (J I v.2.1 d) (ins (ak (J I v.2.1 d)) (nameOf t) (bp r)))) (aX z)=1:=by
   intro z hz hne hk
   rw [NW bR,hm.once z hz hne hk]
   have:bp r≠aX z:=fun e=>by
    have:J I v.2.1 j=z:=m5 ag (cJ hjl.1) hz (hjl.2.trans e)
    rw [this] at q1;exact q1 hk
   rw [b5 this];rfl
  intro z hz hne hk
  rcases (mem_set ag bR aN).1 hz with rfl | ⟨hz,_⟩
  ·rw [aN] at hne ⊢;exact W5 _ (cJ bR) hne gW
  ·exact W5 z hz hne hk
theorem Made.ok{v:ae.D}{c:aH.D}{x:aI.D}{w:ae.D}(hv:bz v)(hc:c9 c=true)(hx:gM x)(hk:az x=1∨az x=3∨az x=10)(h:Made v c x w):bz w:=by
 obtain ⟨r,i,hr,aiP,p3,hi,gW,_,hl,hlen,Gw,rfl,hf,_⟩:=h.out
 have kk:=h.bad
 have hm:=m4.1 hv
 have ag:=lv hm.ko
 have bR:=(bT hi).1
 obtain ⟨o3,hQ,d,gh,iC,NX⟩:=hr.new aiP p3
 obtain rfl:d=i:=aT (gh.symm.trans hi)
 have fi:=AB NX fun e he=>hv.AD bR he
 have j4:bd v.2.1 v.1=none:=hv.free
 have qv:=hm.next
 have ql:=hm.ino _ (cJ bR)
 have aN:aX (b0 (J I v.2.1 d) (ins (ak (J I v.2.1 d)) (nameOf r) v.1))=aX (J I v.2.1 d):=sX _ _
 obtain ⟨NY,x2⟩:=NV hm.ko bR (nameOf r) v.1
 have oC:=vC hm.ko bR aN
 have AW:aX (fQ v c x (J I v.2.1 d))=dn v:=rfl
 have AX:ak (fQ v c x (J I v.2.1 d))=[]:=rfl
 have n1:=fun {z:aJ} => mem_set (x:=z) ag bR aN
 have NZ:∀z,z∈v.2.1.set d (b0 (J I v.2.1 d) (ins (ak (J I v.2.1 d)) (nameOf r) v.1))→1≤aX z∧aX z≤dn v-1:=by
  intro z hz
  rcases n1.1 hz with rfl | ⟨hz,_⟩
  ·rw [aN];exact hm.ids _ (cJ bR)
  ·exact hm.ids z hz
 generalize hn:fQ v c x (J I v.2.1 d)=n at *
 generalize dQ:v.2.1.set d (b0 (J I v.2.1 d) (ins (ak (J I v.2.1 d)) (nameOf r) v.1))=S at *
 have W6:(S++[n]).Pairwise fun a b=>aX a<aX b:=by
  rw [List.pairwise_append]
  refine⟨oC,List.pairwise_singleton _ _,fun a ha b hb=>?_⟩
  rw [List.mem_singleton.1 hb,AW]
  have:=NZ a ha
  omega
 have js:=lv W6
 have x3:∀a b,E S a b→E (S++[n]) a b:=by
  intro a b
  rw [im (lv oC),im js]
  rintro ⟨z,hz,h⟩
  exact⟨z,List.mem_append.2 (.inl hz),h⟩
 have hE:∀a b,E v.2.1 a b→E (S++[n]) a b:=fun a b h=>x3 a b (NY a b h)
 have aiQ:∀id,bd S id=bd v.2.1 id:=fun id=>by rw [← dQ];exact AK _ bR id
 have GS:∀id,(bd v.2.1 id).isSome=true→(bd (S++[n]) id).isSome=true:=by
  intro id b2
  obtain ⟨y,aN,he⟩:=n2.1 (show(bd S id).isSome=true by rw [aiQ];exact b2)
  exact n2.2 ⟨y,List.mem_append.2 (.inl aN),he⟩
 have aiR:(bd (S++[n]) v.1).isSome=true:=n2.2 ⟨n,List.mem_append.2 (.inr (List.mem_singleton.2 rfl)),AW⟩
 have hdl:=hm.ids _ (cJ bR)
 have aiS:=ql.named GS gW hQ (show v.1≠1 by show dn v≠1;omega) aiR hl fi
 have pj:(0≤c.1∧c.1≤1000)∧(0≤c.2.1∧c.2.1≤1000):=by
  unfold c9 at hc
  simp only [Bool.and_eq_true] at hc
  exact⟨dM.1 hc.1,dM.1 hc.2.1⟩
 have aiT:lp (S++[n]) n:=by
  have ox:0≤e' n∧e' n≤2047:=by
   rw [← hn]
   show 0≤vx x (J I v.2.1 d)∧vx x (J I v.2.1 d)≤2047
   unfold vx
   by_cases j6:az x=10
   ·rw [if_pos j6];omega
   rw [if_neg j6]
   unfold p2 at kk
   rw [b5 j6] at kk
   simp only [cond_false,Bool.not_eq_false'] at kk
   have hr:=dM.1 kk
   split
   ·exact ag5 hr.1 hr.2
   ·exact hr
  have p8:0≤fk n∧fk n≤1000:=by
   rw [← hn]
   show 0≤AE c (J I v.2.1 d)∧AE c (J I v.2.1 d)≤1000
   unfold AE
   split
   ·exact ql.gid
   ·exact pj.2
  have iX:kindOf n=q9 x:=by rw [← hn];rfl
  have N0:bw n=if az x=10 then iN x else []:=by rw [← hn];rfl
  have wN:ew n=c.1:=by rw [← hn];rfl
  have Gz:e' n=vx x (J I v.2.1 d):=by rw [← hn];rfl
  have gi:eT n=0:=by rw [← hn];rfl
  have hi0:eD n=0:=by rw [← hn];rfl
  unfold q9 at iX
  refine⟨ox,by rw [wN];exact pj.1,p8,?_,fun _=>⟨gi,hi0,AX⟩,fun h1=>?_,fun h3=>?_,fun h2=>?_,fun e he=>(by rw [AX] at he;cases he),by rw [AX];exact List.Pairwise.nil⟩
  ·rw [iX];split
   ·exact .inr (.inl rfl)
   ·split
    ·exact .inr (.inr rfl)
    ·exact .inl rfl
  ·rw [N0]
   split
   ·have:=hx.sS;omega
   ·simp
  ·have j6:az x=10:=by
    rw [iX] at h3
    split at h3
    ·cases h3
    ·split at h3
     ·assumption
     ·cases h3
   unfold p2 at kk
   rw [cF j6] at kk
   simp only [cond_true,Bool.not_eq_false'] at kk
   refine⟨by rw [N0,if_pos j6];exact kk,?_⟩
   rw [Gz]
   unfold vx
   rw [if_pos j6]
  ·have j6:az x≠10:=by
    intro j6
    rw [iX,if_neg (by omega),if_pos j6] at h2
    cases h2
   rw [N0,if_neg j6,gi,hi0,AX]
   exact⟨rfl,by omega,by omega,by simp⟩
 have N1:∀z,z∈v.2.1→aX z≠1→dP (S++[n]) 1 (aX z):=fun z hz hne=>x0 hE (hm.reach z hz hne)
 have aiU:∀b,ck (S++[n]) b=ck v.2.1 b+cond (v.1==b) 1 0:=by
  intro b
  rw [WX,AX,← dQ,NW bR];rfl
 have kC:=GR.1 hf
 refine m4.2 ⟨?_,?_,W6,?_,?_,?_,?_,?_,kC.1,kC.2⟩
 ·show 2≤dn v+1∧dn v+1≤100000
  omega
 ·show(S++[n]).length≤24
  rw [List.length_append,List.length_singleton,← dQ,List.length_set];omega
 ·obtain ⟨z,hz,jr,hz2⟩:=hm.root
  by_cases AV:aX z=aX (J I v.2.1 d)
  ·exact⟨_,List.mem_append.2 (.inl (n1.2 (.inl rfl))),by rw [aN,← AV];exact jr,gW⟩
  ·exact⟨z,List.mem_append.2 (.inl (n1.2 (.inr ⟨hz,by rw [aN];exact AV⟩))),jr,hz2⟩
 ·intro z hz
  show 1≤aX z∧aX z≤dn v+1-1
  rcases List.mem_append.1 hz with hz | hz
  ·have:=NZ z hz;omega
  ·rw [List.mem_singleton.1 hz,AW];omega
 ·intro z hz
  rcases List.mem_append.1 hz with hz | hz
  ·rcases n1.1 hz with rfl | ⟨hz,_⟩
   ·exact aiS
   ·exact(hm.ino z hz).to fun e _ h=>GS _ h
  ·rw [List.mem_singleton.1 hz];exact aiT
 ·intro z hz hne
  rcases List.mem_append.1 hz with hz | hz
  ·rcases n1.1 hz with rfl | ⟨hz,_⟩
   ·rw [aN] at hne ⊢;exact N1 _ (cJ bR) hne
   ·exact N1 z hz hne
  ·rw [List.mem_singleton.1 hz,AW]
   by_cases h1:aX (J I v.2.1 d)=1
   ·exact .single (x3 _ _ (h1 ▸ x2))
   ·exact .tail (N1 _ (cJ bR) h1) (x3 _ _ x2)
 ·intro z hz hne aiV
  show ck (S++[n]) (aX z)=1
  rw [aiU]
  rcases List.mem_append.1 hz with hz | hz
  ·have cz:=NZ z hz
   rw [b5 (show v.1≠aX z by show dn v≠aX z;omega)]
   rcases n1.1 hz with rfl | ⟨hz,_⟩
   ·rw [aN] at hne ⊢;exact hm.once _ (cJ bR) hne gW
   ·exact hm.once z hz hne aiV
  ·rw [List.mem_singleton.1 hz,AW,show ck v.2.1 (dn v)=0 from W0 hv.f_ j4,cF (show v.1=dn v from rfl)];rfl
theorem AP.ok{v:ae.D}{c:aH.D}{x:aI.D}{w:ae.D}(hv:bz v)(h:AP v c x w):bz w:=by
 obtain ⟨h0,h1,r,i,_,_,hi,rfl⟩:=h.out
 have bR:=(bT hi).1
 have bS:=hv.ino i bR
 exact hv.keep bR (y:=jj (J I v.2.1 i) (e' (J I v.2.1 i)) (bO x) (dX x)) rfl rfl rfl ⟨bS.mode,h0,h1,bS.kind,bS.plain,bS.file,bS.l2,bS.dir,bS.names,bS.sorted⟩ (GI hv bR _ _ _)
theorem GJ.ok{v:ae.D}{c:aH.D}{x:aI.D}{w:ae.D}(hv:bz v)(h:GJ v c x w):bz w:=by
 obtain ⟨h0,h1,_,r,i,_,_,hi,hk,rfl,hf⟩:=h.out
 have bR:=(bT hi).1
 have bS:=hv.ino i bR
 exact hv.keep bR (y:=m2 (J I v.2.1 i) (bO x) (dX x)) rfl rfl rfl ⟨bS.mode,bS.uid,bS.gid,bS.kind,fun en=>absurd hk en,bS.file,bS.l2,fun en=>⟨(bS.dir en).1,h0,h1,(bS.dir en).2.2.2⟩,bS.names,bS.sorted⟩ hf
theorem aiW(s:aF)(a:Nat)(d:aF)(hs:s.length≤64)(h:a+d.length≤64):(lq s a d).length≤64:=by
 unfold lq
 rw [List.length_append,List.length_append,p6,List.length_drop];omega
theorem xU.ok{v:ae.D}{c:aH.D}{x:aI.D}{w:ae.D}(hv:bz v)(h:xU v c x w):bz w:=by
 obtain ⟨r,i,_,_,hi,hk,il,_,ha,_,h⟩:=h.out
 have bR:=(bT hi).1
 have bS:=hv.ino i bR
 have ag:=hv.fO bR
 rcases h with⟨_,_,rfl⟩ | ⟨_,hle,rfl,hf⟩
 ·exact hv
 ·have hlen:(iO x (J I v.2.1 i)).length≤64:=by
   unfold iO
   split
   ·rename_i bH
    rw [p6]
    have:er x (J I v.2.1 i)=bO x:=by unfold er;rw [if_neg (by omega)]
    omega
   ·exact aiW _ _ _ ag (by omega)
  exact hv.keep bR (y:=n6 (J I v.2.1 i) (iO x (J I v.2.1 i))) rfl rfl rfl ⟨bS.mode,bS.uid,bS.gid,bS.kind,bS.plain,fun _=>hlen,fun h3=>absurd h3 il,fun h2=>absurd h2 hk,bS.names,bS.sorted⟩ hf
theorem aiX{m:Int}(h:0≤m)(h':m≤2047):0≤andNot m 1024∧andNot m 1024≤2047:=by
 obtain ⟨n,rfl⟩:∃n:Nat,m=(n:Int):=⟨m.toNat,by omega⟩
 unfold andNot
 rw [show(1024:Int)=((1024:Nat):Int) from rfl,bits_nat]
 simp only
 have h1:(BitVec.ofNat 64 n &&& ~~~BitVec.ofNat 64 1024).toNat≤n:=by
  rw [BitVec.toNat_and,BitVec.toNat_ofNat,Nat.mod_eq_of_lt (show n<2 ^ 64 by omega)]
  exact Nat.and_le_left
 rw [show IntKind.wrap .i64 (((BitVec.ofNat 64 n &&& ~~~BitVec.ofNat 64 1024).toNat:Nat):Int)=(((BitVec.ofNat 64 n &&& ~~~BitVec.ofNat 64 1024).toNat:Nat):Int) from te (by omega) (by omega)]
 omega
theorem AO.ok{v:ae.D}{c:aH.D}{x:aI.D}{w:ae.D}(hv:bz v)(h:AO v c x w):bz w:=by
 obtain ⟨h0,h1,r,i,_,_,hi,il,_,rfl⟩:=h.out
 have bR:=(bT hi).1
 have bS:=hv.ino i bR
 have hm:0≤ra c x (J I v.2.1 i)∧ra c x (J I v.2.1 i)≤2047:=by
  unfold ra
  split
  ·exact aiX h0 h1
  ·exact⟨h0,h1⟩
 exact hv.keep bR (y:=jj (J I v.2.1 i) (ra c x (J I v.2.1 i)) (ew (J I v.2.1 i)) (fk (J I v.2.1 i))) rfl rfl rfl ⟨hm,bS.uid,bS.gid,bS.kind,bS.plain,bS.file,fun h3=>absurd h3 il,bS.dir,bS.names,bS.sorted⟩ (GI hv bR _ _ _)
open Classical in
noncomputable def qh(l:List aJ)(id:Int):List aJ:=l.filter fun x=>decide (dP l id (aX x))
theorem W7(l:List aJ):l=(List.range l.length).map fun i=>J I l i:=by
 refine List.ext_getElem (by simp) fun i h1 h2=>?_
 rw [List.getElem_map,List.getElem_range,c6 h1]
open Classical in
theorem W8{l:List aJ}(ag:ij l)(id:Int):(o0 l (dO l id)).map (fun i=>J I l i)=qh l id:=by
 unfold qh
 conv=>rhs;rw [W7 l]
 rw [List.filter_map]
 unfold o0
 congr 1
 refine List.filter_congr fun i hi=>?_
 have hi:=List.mem_range.1 hi
 have h:=xH l ag id hi
 unfold T at h
 have e:(J .bool (dO l id) i:Bool)=decide (dP l id (aX (J I l i))):=by
  rw [Bool.eq_iff_iff,decide_eq_true_iff];exact h
 rw [e]
 simp only [Function.comp]
 rw [← W7 l]
theorem W9{l:List aJ}(ag:ij l)(id:Int):jS l (dO l id)=(qh l id).length:=by
 rw [← W8 ag id,List.length_map];rfl
theorem W_{l:List aJ}(ag:ij l)(id:Int):jz l (dO l id)=((qh l id).map fun x=>(bw x).length).sum:=by
 rw [← W8 ag id,List.map_map];rfl
theorem N2{l:List aJ} : gp l=false↔∀x,x∈l→ik l x=false:=by
 unfold gp
 constructor
 ·intro h x hx
  obtain ⟨i,hi,rfl⟩:=fg hx
  cases ha:fr l.length fun i => !ik l (J I l i) with
  | true=>simpa using lj.1 ha i hi
  | false=>rw [ha] at h;cases h
 ·intro h
  rw [lj.2 fun i hi=>by rw [h _ (cJ hi)];rfl];rfl
def prs(l:List aJ):List (Int×Nat):=l.map fun x=>(aX x,(bw x).length)
open Classical in
noncomputable def AY(l:List aJ)(id:Int):List (Int×Nat):=(prs l).filter fun p=>decide (dP l id p.1)
open Classical in
theorem GU(l:List aJ)(id:Int):(qh l id).length=(AY l id).length∧((qh l id).map fun x=>(bw x).length).sum=((AY l id).map fun p=>p.2).sum:=by
 have e:AY l id=(qh l id).map fun x=>(aX x,(bw x).length):=by
  unfold AY qh prs
  rw [List.filter_map];rfl
 rw [e,List.length_map,List.map_map]
 exact⟨rfl,rfl⟩
theorem Xa{α : Type}(f : α → Nat){ft L:List α}(h:ft.Sublist L)(p q : α → Bool)(N3:∀a,p a=true→q a=true):((ft.filter p).map f).sum≤((L.filter q).map f).sum:=by
 induction h with
 | slnil=>simp
 | cons a h ih =>
  rw [List.filter_cons (x:=a)]
  split
  ·rw [List.map_cons,List.sum_cons];omega
  ·exact ih
 | cons_cons a h ih =>
  rw [List.filter_cons,List.filter_cons]
  by_cases au:p a=true
  ·rw [if_pos au,if_pos (N3 a au),List.map_cons,List.map_cons,List.sum_cons,List.sum_cons];omega
  ·rw [if_neg au]
   split
   ·rw [List.map_cons,List.sum_cons];omega
   ·exact ih
theorem N4{α : Type} : ∀L:List α,(L.map fun _=>1).sum=L.length
 | []=>rfl
 | a :: L=>by rw [List.map_cons,List.sum_cons,N4 L,List.length_cons];omega
theorem aiY{α : Type}{ft L:List α}(h:ft.Sublist L)(p q : α → Bool)(N3:∀a,p a=true→q a=true):(ft.filter p).length≤(L.filter q).length:=by
 rw [← N4,← N4]
 exact Xa (fun _=>1) h p q N3
theorem aiZ{l l':List aJ}(ag:ij l)(js:ij l')(hs:(prs l').Sublist (prs l))(hE:∀a b,dP l' a b→dP l a b)(id:Int):jS l' (dO l' id)≤jS l (dO l id)∧jz l' (dO l' id)≤jz l (dO l id):=by
 rw [W9 ag,W9 js,W_ ag,W_ js,(GU l id).1,(GU l id).2,(GU l' id).1,(GU l' id).2]
 unfold AY
 exact⟨aiY hs _ _ fun a h=>by simp only [decide_eq_true_iff] at h ⊢;exact hE _ _ h,Xa _ hs _ _ fun a h=>by simp only [decide_eq_true_iff] at h ⊢;exact hE _ _ h⟩
theorem ai0{l l':List aJ}(ag:ij l)(js:ij l')(hs:(prs l').Sublist (prs l))(hE:∀a b,dP l' a b→dP l a b)
  (hm:∀bB,bB∈l'→∃x,x∈l∧aX x=aX bB∧eT x=eT bB∧eD x=eD bB) (h:gp l=false):gp l'=false:=by
 rw [N2] at h ⊢
 intro bB mm
 obtain ⟨x,hx,h1,h2,h3⟩:=hm bB mm
 have h0:=h x hx
 have hu:=aiZ ag js hs hE (aX bB)
 unfold ik at h0 ⊢
 have e:x.1=bB.1:=h1
 rw [Bool.or_eq_false_iff,Bool.and_eq_false_iff,Bool.and_eq_false_iff,decide_eq_false_iff_not,decide_eq_false_iff_not,decide_eq_false_iff_not,decide_eq_false_iff_not] at h0 ⊢
 rw [e,h2,h3] at h0
 have wB:jS l' (dO l' bB.1)≤jS l (dO l bB.1):=hu.1
 have rR:jz l' (dO l' bB.1)≤jz l (dO l bB.1):=hu.2
 refine⟨h0.1.imp id fun h=>by omega,h0.2.imp id fun h=>by omega⟩
theorem ai1{l:List aJ}{p:aJ→Bool}(b:Int)(h:∀x,x∈l→p x=false→ak x=[]):ck (l.filter p) b=ck l b:=by
 unfold ck
 induction l with
 | nil=>rfl
 | cons x l ih =>
  have ih:=ih fun y aN=>h y (List.mem_cons_of_mem _ aN)
  rw [List.filter_cons]
  cases au:p x with
  | true =>
   rw [if_pos rfl,List.map_cons,List.map_cons,List.sum_cons,List.sum_cons,ih]
  | false =>
   rw [if_neg (by decide),List.map_cons,List.sum_cons,ih,h x List.mem_cons_self au]
   simp [du]
theorem ai2{l:List aJ}{i:Nat}(hi:i<l.length){y:aJ}(h1:aX y=aX (J I l i))(h2:bw y=bw (J I l i)):prs (l.set i y)=prs l:=by
 unfold prs
 rw [List.map_set,h1,h2,c6 hi]
 refine List.ext_getElem (by simp) fun j a b=>?_
 rw [List.getElem_set]
 split
 ·rename_i h;subst h;rw [List.getElem_map]
 ·rfl
theorem ai3{l:List aJ}{b:Int}(h:ck l b≠0):∃x,x∈l∧∃d,d∈ak x∧d.2.1=b:=by
 refine Decidable.byContradiction fun hn=>h (WZ fun x hx d ag he=>hn ⟨x,hx,d,ag,he⟩)
theorem Xb{v:ae.D}(hv:bz v){i:Nat}(hi:i<v.2.1.length){s:aF}{k:Int}(n3:cW (ak (J I v.2.1 i)) s=k)(hk0:k≠0){j:Nat}(hj:bd v.2.1 k=some j)(he:ak (J I v.2.1 j)=[]):bz (hU v i s):=by
 have hm:=m4.1 hv
 have ag:=lv hm.ko
 have hjl:=bT hj
 have p8:=cJ (t:=I) hi
 have N5:=cJ (t:=I) hjl.1
 have bS:=hm.ino _ p8
 obtain ⟨d,s6,GV,eE⟩:=mX (N:=ak (J I v.2.1 i)) (s:=s) (by rw [n3];exact hk0)
 rw [n3] at eE
 have hk1:k≠1:=eE ▸ (bS.names d s6).2.1
 have lR:aX (J I v.2.1 j)=k:=hjl.2
 have iP:aX (J I v.2.1 i)≠k:=by
  intro h
  have:=m5 ag p8 N5 (h.trans lR.symm)
  rw [this,he] at s6;cases s6
 have aN:aX (b0 (J I v.2.1 i) (cf (ak (J I v.2.1 i)) s))=aX (J I v.2.1 i):=sX _ _
 have hr1:=vC hm.ko hi aN
 have GW:=fun {x:aJ} => mem_set (x:=x) ag hi aN
 have ai4:∀b,¬E v.2.1 k b:=by
  intro b h
  obtain ⟨x,hx,ai5,e,hex,_⟩:=(im ag).1 h
  have:=m5 ag hx N5 (ai5.trans lR.symm)
  rw [this,he] at hex;cases hex
 have ai6:∀b,ck (v.2.1.set i (b0 (J I v.2.1 i) (cf (ak (J I v.2.1 i)) s))) b+cond (k==b) 1 0=ck v.2.1 b:=by
  intro b
  have h1:=GQ (y:=b0 (J I v.2.1 i) (cf (ak (J I v.2.1 i)) s)) hi b
  have h2:=NU bS.sorted s6 b
  rw [hy] at h1
  rw [GV,eE] at h2
  omega
 have Xc:prs (v.2.1.set i (b0 (J I v.2.1 i) (cf (ak (J I v.2.1 i)) s)))=prs v.2.1:=ai2 hi aN rfl
 have ai7:bytesOf (v.2.1.set i (b0 (J I v.2.1 i) (cf (ak (J I v.2.1 i)) s)))=bytesOf v.2.1:=by
  have h:=V3 (y:=b0 (J I v.2.1 i) (cf (ak (J I v.2.1 i)) s)) hi
  rw [show bw (b0 (J I v.2.1 i) (cf (ak (J I v.2.1 i)) s))=bw (J I v.2.1 i) from rfl] at h
  omega
 have lQ:∀x,x∈v.2.1.set i (b0 (J I v.2.1 i) (cf (ak (J I v.2.1 i)) s))→∃bB,bB∈v.2.1∧aX bB=aX x∧kindOf bB=kindOf x∧eT bB=eT x∧eD bB=eD x∧(∀e,e∈ak x→e∈ak bB)∧(aX x=k→ak x=[]):=by
  intro x hx
  rcases GW.1 hx with rfl | ⟨hx,hne⟩
  ·exact⟨_,p8,rfl,rfl,rfl,rfl,fun e h=>sV h,fun h=>absurd (aN ▸ h) iP⟩
  ·exact⟨x,hx,rfl,rfl,rfl,rfl,fun e h=>h,fun h=>by rw [m5 ag hx N5 (h.trans lR.symm)];exact he⟩
 have N6:∀x,x∈v.2.1→∃bB,bB∈v.2.1.set i (b0 (J I v.2.1 i) (cf (ak (J I v.2.1 i)) s))∧aX bB=aX x∧kindOf bB=kindOf x∧∀e,e∈ak x→e.2.1≠k→e∈ak bB:=by
  intro x hx
  by_cases hB:aX x=aX (J I v.2.1 i)
  ·have mm:=m5 ag hx p8 hB
   subst mm
   refine⟨_,GW.2 (.inl rfl),aN,rfl,fun e h N7=>List.mem_filter.2 ⟨h,?_⟩⟩
   have:e.1≠s:=fun h1=>N7 (by rw [← sU bS.sorted h,h1,n3])
   unfold bn
   simp [this]
  ·exact⟨x,GW.2 (.inr ⟨hx,by rw [aN];exact hB⟩),rfl,rfl,fun e h _=>h⟩
 have ai8:∀x,x∈v.2.1.set i (b0 (J I v.2.1 i) (cf (ak (J I v.2.1 i)) s))→lp v.2.1 x:=by
  intro x hx
  rcases GW.1 hx with rfl | ⟨hx,hne⟩
  ·exact⟨bS.mode,bS.uid,bS.gid,bS.kind,fun h=>⟨(bS.plain h).1,(bS.plain h).2.1,by
    show cf _ s=[]
    rw [(bS.plain h).2.2];rfl⟩,bS.file,bS.l2,fun h=>⟨(bS.dir h).1,(bS.dir h).2.1,(bS.dir h).2.2.1,Nat.le_trans (vu _ _) (bS.dir h).2.2.2⟩,fun e h=>bS.names e (sV h),vz bS.sorted s⟩
  ·exact hm.ino x hx
 show bz (v.1,goN (v.2.1.set i (b0 (J I v.2.1 i) (cf (ak (J I v.2.1 i)) s))) (cW (ak (J I v.2.1 i)) s),())
 rw [n3]
 generalize v.2.1.set i (b0 (J I v.2.1 i) (cf (ak (J I v.2.1 i)) s))=S at *
 have gh:=lv hr1
 have jt:∀x,x∈goN S k↔x∈S∧(ck S k=0→aX x≠k):=by
  intro x
  unfold goN
  by_cases h0:ck S k=0
  ·rw [decide_eq_true h0]
   simp only [cond_true,List.mem_filter,Bool.not_eq_true',beq_eq_false_iff_ne]
   exact⟨fun h=>⟨h.1,fun _=>h.2⟩,fun h=>⟨h.1,h.2 h0⟩⟩
  ·rw [decide_eq_false h0]
   exact⟨fun h=>⟨h,fun h1=>absurd h1 h0⟩,fun h=>h.1⟩
 have kV:(goN S k).Sublist S:=by
  unfold goN
  cases decide (ck S k=0)
  ·exact List.Sublist.refl _
  ·exact List.filter_sublist
 have gD:=hr1.sublist kV
 have iC:=lv gD
 have ai9:∀a b,E (goN S k) a b→E v.2.1 a b:=by
  intro a b h
  obtain ⟨x,hx,jD,e,hex,m6⟩:=(im iC).1 h
  obtain ⟨bB,h1,h2,_,_,_,h3,_⟩:=lQ x ((jt x).1 hx).1
  exact(im ag).2 ⟨bB,h1,h2.trans jD,e,h3 e hex,m6⟩
 have x3:∀a b,E S a b→E (goN S k) a b:=by
  intro a b h
  obtain ⟨x,hx,jD,e,hex,m6⟩:=(im gh).1 h
  refine(im iC).2 ⟨x,(jt x).2 ⟨hx,fun _ hk=>?_⟩,jD,e,hex,m6⟩
  obtain ⟨_,_,_,_,_,_,_,iZ⟩:=lQ x hx
  rw [iZ hk] at hex;cases hex
 have Xd:∀a b,b≠k→E v.2.1 a b→E (goN S k) a b:=by
  intro a b hb h
  obtain ⟨x,hx,jD,e,hex,m6⟩:=(im ag).1 h
  obtain ⟨bB,h1,h2,_,h3⟩:=N6 x hx
  exact x3 a b ((im gh).2 ⟨bB,h1,h2.trans jD,e,h3 e hex (m6 ▸ hb),m6⟩)
 have gv:∀b,dP v.2.1 1 b→b≠k→dP (goN S k) 1 b:=by
  intro b h
  induction h with
  | single h=>exact fun hb=>.single (Xd _ _ hb h)
  | tail h1 h2 ih=>exact fun hb=>.tail (ih fun h=>ai4 _ (h ▸ h2)) (Xd _ _ hb h2)
 have ai_:∀b,ck (goN S k) b=ck S b:=by
  intro b
  unfold goN
  cases decide (ck S k=0)
  ·rfl
  ·refine ai1 b fun x hx au=>?_
   obtain ⟨_,_,_,_,_,_,_,iZ⟩:=lQ x hx
   have e:x.1=k:=by simpa using au
   exact iZ e
 have GS:∀x,x∈goN S k→∀e,e∈ak x→(bd v.2.1 e.2.1).isSome=true→(bd (goN S k) e.2.1).isSome=true:=by
  intro x hx e hex hs
  obtain ⟨y,aN,xI⟩:=n2.1 hs
  obtain ⟨kv,h1,h2,_,_⟩:=N6 y aN
  refine n2.2 ⟨kv,(jt kv).2 ⟨h1,fun h0 hk=>?_⟩,h2.trans xI⟩
  refine Gs h0 x ((jt x).1 hx).1 e hex ?_
  exact xI.symm.trans (h2.symm.trans hk)
 refine m4.2 ⟨hm.next,Nat.le_trans kV.length_le ?_,gD,?_,?_,?_,?_,?_,?_,?_⟩
 ·have:=congrArg List.length Xc
  unfold prs at this
  rw [List.length_map,List.length_map] at this
  rw [this];exact hm.len
 ·obtain ⟨z,hz,jr,hz2⟩:=hm.root
  obtain ⟨jK,h1,h2,h3,_⟩:=N6 z hz
  exact⟨jK,(jt jK).2 ⟨h1,fun _ h=>hk1 (h.symm.trans (h2.trans jr))⟩,h2.trans jr,h3.trans hz2⟩
 ·intro x hx
  obtain ⟨bB,h1,h2,_⟩:=lQ x ((jt x).1 hx).1
  rw [← h2];exact hm.ids bB h1
 ·intro x hx
  exact(ai8 x ((jt x).1 hx).1).to fun e hex h=>GS x hx e hex h
 ·intro x hx hne
  obtain ⟨bB,h1,h2,_⟩:=lQ x ((jt x).1 hx).1
  by_cases hk:aX x=k
  ·have h0:ck S k≠0:=fun h0=>((jt x).1 hx).2 h0 hk
   obtain ⟨z,hz,e,N8,N7⟩:=ai3 h0
   have Xe:E (goN S k) (aX z) k:=x3 _ _ ((im gh).2 ⟨z,hz,rfl,e,N8,N7⟩)
   obtain ⟨jK,g1,g2,_,_,_,_,g9⟩:=lQ z hz
   rw [hk]
   by_cases jr:aX z=1
   ·exact .single (jr ▸ Xe)
   ·refine .tail (gv _ (g2 ▸ hm.reach jK g1 (by rw [g2];exact jr)) fun h=>?_) Xe
    rw [g9 h] at N8;cases N8
  ·exact gv _ (h2 ▸ hm.reach bB h1 (by rw [h2];exact hne)) hk
 ·intro x hx hne Xf
  obtain ⟨bB,h1,h2,h3,_⟩:=lQ x ((jt x).1 hx).1
  have ho:=hm.once bB h1 (by rw [h2];exact hne) (h3.trans Xf)
  have hn:=ai6 (aX x)
  rw [h2] at ho
  show ck (goN S k) (aX x)=1
  rw [ai_]
  by_cases hk:aX x=k
  ·exfalso
   rw [cF hk.symm] at hn
   simp only [cond_true] at hn
   exact((jt x).1 hx).2 (by rw [← hk];omega) hk
  ·rw [b5 (fun h=>hk h.symm)] at hn
   simp only [cond_false] at hn
   omega
 ·refine Nat.le_trans ?_ (ai7 ▸ hm.bytes)
  unfold goN
  cases decide (ck S k=0)
  ·exact Nat.le_refl _
  ·exact Gt _ _ S
 ·refine ai0 ag iC ?_ (fun a b h=>x0 ai9 h) (fun x hx=>?_) hm.over
  ·rw [← Xc];exact kV.map _
  ·obtain ⟨bB,h1,h2,_,h4,a7,_⟩:=lQ x ((jt x).1 hx).1
   exact⟨bB,h1,h2,h4,a7⟩
theorem AH.ok{v:ae.D}{c:aH.D}{x:aI.D}{w:ae.D}(hv:bz v)(h:AH v c x w):bz w:=by
 obtain ⟨r,i,j,hr,hc,hn,hi,_,hl,hj,he,_,_,rfl⟩:=h.out
 exact Xb hv (bT hi).1 hl (hr.named hc hn).1 hj he
theorem Xg{u:ae.D}(hu:bz u){rd jC:Int}{ir it:Nat}{ct dY:aF}{bF:Int}(h:sW u.2.1 rd jC ir it ct dY bF)(htn:ig dY=true)(hlen:rd≠jC→(ak (J I u.2.1 it)).length<12)
  (hb:∀j,bd u.2.1 bF=some j→kindOf (J I u.2.1 j)=2→jC≠bF∧¬dP u.2.1 bF jC) (hf:fl (eP u.2.1 ir ct it dY bF)=0):bz (u.1,eP u.2.1 ir ct it dY bF,()):=by
 have hm:=m4.1 hu
 have ag:=lv hm.ko
 have vD:=bT h.hr
 have AZ:=bT h.ht
 have n5:=cJ (t:=I) vD.1
 have bS:=hm.ino _ n5
 have ai':aX (J I u.2.1 ir)=rd:=vD.2
 have x4:aX (J I u.2.1 it)=jC:=AZ.2
 obtain ⟨j,hj⟩:=Option.isSome_iff_exists.1 h.ex
 have hjl:=bT hj
 have Xh:aX (J I u.2.1 j)=bF:=hjl.2
 obtain ⟨d,s6,GV,eE⟩:=mX (N:=ak (J I u.2.1 ir)) (s:=ct) (by rw [h.look];exact h.Wk)
 rw [h.look] at eE
 have aja:bF≠1:=eE ▸ (bS.names d s6).2.1
 have x5:aX (b0 (J I u.2.1 ir) (cf (ak (J I u.2.1 ir)) ct))=aX (J I u.2.1 ir):=sX _ _
 have x6:=fun {x:aJ} => mem_set (x:=x) ag vD.1 x5
 have hr1:(dC u.2.1 ir ct).Pairwise fun a b=>aX a<aX b:=vC hm.ko vD.1 x5
 have gh:=lv hr1
 have A0:∀id,bd (dC u.2.1 ir ct) id=bd u.2.1 id:=fun id=>Ny vD.1 id
 have hl1:(dC u.2.1 ir ct).length=u.2.1.length:=List.length_set
 have x7:it<(dC u.2.1 ir ct).length:=by rw [hl1];exact AZ.1
 have ajb:∀b,ck (dC u.2.1 ir ct) b+cond (bF==b) 1 0=ck u.2.1 b:=by
  intro b
  have h1:=GQ (y:=b0 (J I u.2.1 ir) (cf (ak (J I u.2.1 ir)) ct)) vD.1 b
  have h2:=NU bS.sorted s6 b
  rw [hy] at h1
  rw [GV,eE] at h2
  show ck (List.set _ _ _) b+_=_
  omega
 have Xi:∀x,x∈dC u.2.1 ir ct→lp (dC u.2.1 ir ct) x:=by
  intro x hx
  rcases x6.1 hx with rfl | ⟨hx,hne⟩
  ·exact⟨bS.mode,bS.uid,bS.gid,bS.kind,fun hk=>absurd h.AJ hk,bS.file,bS.l2,fun hk=>⟨(bS.dir hk).1,(bS.dir hk).2.1,(bS.dir hk).2.2.1,Nat.le_trans (vu _ _) (bS.dir hk).2.2.2⟩,fun e he=>by
    rw [A0];exact bS.names e (sV he),vz bS.sorted ct⟩
  ·exact(hm.ino x hx).to fun e _ hs=>by rw [A0];exact hs
 have NY:∀a b,b≠bF→E u.2.1 a b→E (dC u.2.1 ir ct) a b:=by
  intro a b dG hE
  obtain ⟨x,hx,jD,e,hex,m6⟩:=(im ag).1 hE
  by_cases hB:aX x=aX (J I u.2.1 ir)
  ·have mm:=m5 ag hx n5 hB
   subst mm
   refine(im gh).2 ⟨_,x6.2 (.inl rfl),x5.trans jD,e,List.mem_filter.2 ⟨hex,?_⟩,m6⟩
   have:e.1≠ct:=fun h1=>dG (by rw [← m6,← sU bS.sorted hex,h1,h.look])
   unfold bn
   simp [this]
  ·exact(im gh).2 ⟨x,x6.2 (.inr ⟨hx,by rw [x5];exact hB⟩),jD,e,hex,m6⟩
 have ajc:∀x,x∈u.2.1→∃bB,bB∈dC u.2.1 ir ct∧aX bB=aX x∧kindOf bB=kindOf x:=by
  intro x hx
  by_cases hB:aX x=aX (J I u.2.1 ir)
  ·exact⟨_,x6.2 (.inl rfl),x5.trans hB.symm,by rw [m5 ag hx n5 hB];rfl⟩
  ·exact⟨x,x6.2 (.inr ⟨hx,by rw [x5];exact hB⟩),rfl,rfl⟩
 have Xj:∀x,x∈dC u.2.1 ir ct→∃bB,bB∈u.2.1∧aX bB=aX x∧kindOf bB=kindOf x:=by
  intro x hx
  rcases x6.1 hx with rfl | ⟨hx,hne⟩
  ·exact⟨_,n5,rfl,rfl⟩
  ·exact⟨x,hx,rfl,rfl⟩
 have p5:kindOf (J I (dC u.2.1 ir ct) it)=2∧(ak (J I (dC u.2.1 ir ct) it)).length<12∧(∀e,e∈ak (J I (dC u.2.1 ir ct) it)→e.1≠dY)∧aX (J I (dC u.2.1 ir ct) it)=jC:=by
  unfold dC
  rw [iM vD.1]
  by_cases hii:ir=it
  ·subst hii
   rw [if_pos rfl]
   refine⟨h.AJ,?_,fun e he=>h.no e (sV he),x4⟩
   show(cf (ak (J I u.2.1 ir)) ct).length<12
   have lP:=(bS.dir h.AJ).2.2.2
   have:(cf (ak (J I u.2.1 ir)) ct).length<(ak (J I u.2.1 ir)).length:=by
    unfold cf
    refine List.length_filter_lt_length_iff_exists.2 ⟨d,s6,?_⟩
    unfold bn
    simp [GV]
   omega
  ·rw [if_neg hii]
   refine⟨h.Nx,hlen fun he=>hii ?_,h.no,x4⟩
   have:=m5 ag n5 (cJ AZ.1) (by rw [ai',x4];exact he)
   have e1:=h.hr
   rw [he,h.ht] at e1
   exact(aT e1).symm
 have N9:=cJ (t:=I) x7
 have A1:aX (b0 (J I (dC u.2.1 ir ct) it) (ins (ak (J I (dC u.2.1 ir ct) it)) dY bF))=aX (J I (dC u.2.1 ir ct) it):=sX _ _
 have GX:=fun {x:aJ} => mem_set (x:=x) gh x7 A1
 have gD:(eP u.2.1 ir ct it dY bF).Pairwise fun a b=>aX a<aX b:=vC hr1 x7 A1
 obtain ⟨x2,A2⟩:=NV hr1 x7 dY bF
 rw [p5.2.2.2] at A2
 have x2:∀a b,E (dC u.2.1 ir ct) a b→E (eP u.2.1 ir ct it dY bF) a b:=x2
 have A2:E (eP u.2.1 ir ct it dY bF) jC bF:=A2
 have N_:∀id,bd (eP u.2.1 ir ct it dY bF) id=bd u.2.1 id:=fun id=>(Wl x7 id).trans (A0 id)
 have ajd:∀b,ck (eP u.2.1 ir ct it dY bF) b=ck u.2.1 b:=by
  intro b
  have h1:ck (eP u.2.1 ir ct it dY bF) b=ck (dC u.2.1 ir ct) b+cond (bF==b) 1 0:=NW x7 dY bF b
  have h2:=ajb b
  omega
 have aje:∀x,x∈u.2.1→∃bB,bB∈eP u.2.1 ir ct it dY bF∧aX bB=aX x∧kindOf bB=kindOf x:=by
  intro x hx
  obtain ⟨U,a1,a2,a3⟩:=ajc x hx
  by_cases hB:aX U=aX (J I (dC u.2.1 ir ct) it)
  ·exact⟨_,GX.2 (.inl rfl),A1.trans (hB.symm.trans a2),by rw [← a3,m5 gh a1 N9 hB];rfl⟩
  ·exact⟨U,GX.2 (.inr ⟨a1,by rw [A1];exact hB⟩),a2,a3⟩
 have hbk:∀x,x∈eP u.2.1 ir ct it dY bF→∃bB,bB∈u.2.1∧aX bB=aX x∧kindOf bB=kindOf x:=by
  intro x hx
  rcases GX.1 hx with rfl | ⟨hx,hne⟩
  ·obtain ⟨bB,a1,a2,a3⟩:=Xj _ N9
   exact⟨bB,a1,a2.trans A1.symm,a3⟩
  ·exact Xj x hx
 have hE:∀a b,b≠bF→E u.2.1 a b→E (eP u.2.1 ir ct it dY bF) a b:=fun a b dG he=>x2 a b (NY a b dG he)
 have Xk:jC≠bF∧¬dP u.2.1 bF jC:=by
  by_cases hk:kindOf (J I u.2.1 j)=2
  ·exact hb j hj hk
  ·have ajf:∀b,¬E u.2.1 bF b:=by
    intro b he
    obtain ⟨x,hx,jD,e,hex,_⟩:=(im ag).1 he
    rw [m5 ag hx (cJ hjl.1) (jD.trans Xh.symm),((hm.ino _ (cJ hjl.1)).plain hk).2.2] at hex
    cases hex
   refine⟨fun he=>hk ?_,fun gv=>?_⟩
   ·rw [← m5 ag (cJ AZ.1) (cJ hjl.1) (by rw [x4,Xh];exact he)];exact h.Nx
   ·have:∀c,dP u.2.1 bF c→False:=by
     intro c hc
     induction hc with
     | single h=>exact ajf _ h
     | tail _ _ ih=>exact ih
    exact this _ gv
 have tG:∀c,dP u.2.1 1 c→c≠bF→¬dP u.2.1 bF c→dP (eP u.2.1 ir ct it dY bF) 1 c:=by
  intro c hc
  induction hc with
  | single h1=>exact fun hne _=>.single (hE _ _ hne h1)
  | tail h1 h2 ih=>exact fun hne mq=>.tail (ih (fun he=>mq (.single (he ▸ h2))) fun gv=>mq (.tail gv h2)) (hE _ _ hne h2)
 have Xl:dP (eP u.2.1 ir ct it dY bF) 1 bF:=by
  by_cases h1:jC=1
  ·exact .single (h1 ▸ A2)
  ·refine .tail (tG jC ?_ Xk.1 Xk.2) A2
   have:=hm.reach _ (cJ AZ.1) (by rw [x4];exact h1)
   rwa [x4] at this
 have hA:∀c,dP u.2.1 1 c→dP (eP u.2.1 ir ct it dY bF) 1 c:=by
  intro c hc
  induction hc with
  | @single b h1 =>
   by_cases A3:b=bF
   ·rw [A3];exact Xl
   ·exact .single (hE _ _ A3 h1)
  | @tail b c h1 h2 ih =>
   by_cases A3:c=bF
   ·rw [A3];exact Xl
   ·exact .tail ih (hE _ _ A3 h2)
 have kC:=GR.1 hf
 refine m4.2 ⟨hm.next,?_,gD,?_,?_,?_,?_,?_,kC.1,kC.2⟩
 ·show(List.set _ _ _).length≤24
  rw [List.length_set,hl1];exact hm.len
 ·obtain ⟨z,hz,jr,hz2⟩:=hm.root
  obtain ⟨jK,a1,a2,a3⟩:=aje z hz
  exact⟨jK,a1,a2.trans jr,a3.trans hz2⟩
 ·intro x hx
  obtain ⟨bB,a1,a2,a3⟩:=hbk x hx
  rw [← a2];exact hm.ids bB a1
 ·intro x hx
  rcases GX.1 hx with rfl | ⟨hx,hne⟩
  ·refine(Xi _ N9).named (l':=eP u.2.1 ir ct it dY bF) (fun id hs=>?_) p5.1 htn aja (by rw [N_];exact h.ex) p5.2.1 p5.2.2.1
   rw [N_];rwa [A0] at hs
  ·refine(Xi x hx).to fun e _ hs=>?_
   show(bd (eP u.2.1 ir ct it dY bF) e.2.1).isSome=true
   rw [N_];rwa [A0] at hs
 ·intro x hx hne
  obtain ⟨bB,a1,a2,a3⟩:=hbk x hx
  rw [← a2];exact hA _ (hm.reach bB a1 (by rw [a2];exact hne))
 ·intro x hx hne hk
  obtain ⟨bB,a1,a2,a3⟩:=hbk x hx
  show ck (eP u.2.1 ir ct it dY bF) (aX x)=1
  rw [ajd,← a2]
  exact hm.once bB a1 (by rw [a2];exact hne) (a3.trans hk)
theorem ajg{v:ae.D}{s:aF}(hv:bz v){i:Nat}(hi:i<v.2.1.length)(hw:bz (hU v i s))(a b:Int)(h:E (hU v i s).2.1 a b):E v.2.1 a b:=by
 have hm:=m4.1 hv
 have ag:=lv hm.ko
 have iC:=lv (m4.1 hw).ko
 have aN:aX (b0 (J I v.2.1 i) (cf (ak (J I v.2.1 i)) s))=aX (J I v.2.1 i):=sX _ _
 obtain ⟨x,hx,jD,e,hex,m6⟩:=(im iC).1 h
 have kV:x∈v.2.1.set i (b0 (J I v.2.1 i) (cf (ak (J I v.2.1 i)) s)):=by
  unfold hU goN at hx
  cases hc:decide (ck (v.2.1.set i (b0 (J I v.2.1 i) (cf (ak (J I v.2.1 i)) s))) (cW (ak (J I v.2.1 i)) s)=0) with
  | true=>rw [hc] at hx;exact(List.mem_filter.1 hx).1
  | false=>rw [hc] at hx;exact hx
 rcases (mem_set ag hi aN).1 kV with rfl | ⟨hx,_⟩
 ·exact(im ag).2 ⟨_,cJ hi,aN.symm.trans jD,e,sV hex,m6⟩
 ·exact(im ag).2 ⟨x,hx,jD,e,hex,m6⟩
theorem xT.ok{v:ae.D}{c:aH.D}{x:aI.D}{w:ae.D}(hv:bz v)(h:xT v c x w):bz w:=by
 obtain ⟨r,t,j,hr,hc,p3,hj,ht,htn,q',_,h⟩:=h.out
 have jb:ig (nameOf t)=true:=by
  rcases q' with h0 | h2
  ·exact(ht.named h0 htn).2.1
  ·exact(ht.new h2 htn).2.1
 rcases h with⟨_,rfl⟩ | ⟨hne,mq,l,ir,it,au,rfl,hf,h⟩
 ·exact hv
 rcases h with⟨_,rfl,hlen⟩ | ⟨i2,eY,eL,hk2,kA,k4,dR,hkk,rfl⟩
 ·refine Xg hv au jb hlen (fun kU hj' hk=>?_) hf
  obtain rfl:kU=j:=aT (hj'.symm.trans hj)
  exact mq hk
 ·have pX:=bT eL
  have o3:bp t≠0:=by
   have:=hv.V8 (cJ (bT kA).1)
   have e:aX (J I v.2.1 eY)=bp t:=(bT kA).2
   omega
  have hu:=Xb hv pX.1 dR o3 kA k4
  obtain ⟨_,h8⟩:=Wq hv pX.1 hk2 (nameOf t)
  have hE:=fun a b=>ajg (s:=nameOf t) hv pX.1 hu a b
  have jk:(ak (J I (hU v i2 (nameOf t)).2.1 it)).length<12:=by
   have kl:cd t≠cW (ak (J I v.2.1 i2)) (nameOf t):=by
    rw [dR]
    intro e
    rw [← e,eL] at kA
    rw [← aT kA] at k4
    obtain ⟨d,gh,_⟩:=mX (N:=ak (J I v.2.1 i2)) (s:=nameOf t) (by rw [dR];exact o3)
    rw [k4] at gh;cases gh
   obtain ⟨k',en,aB⟩:=h8 (cd t) kl i2 eL
   obtain rfl:k'=it:=aT (en.symm.trans au.ht)
   rw [aB,if_pos rfl,hy]
   have lP:=((hv.ino i2 pX.1).dir hk2).2.2.2
   obtain ⟨d,gh,iC,_⟩:=mX (N:=ak (J I v.2.1 i2)) (s:=nameOf t) (by rw [dR];exact o3)
   have:(cf (ak (J I v.2.1 i2)) (nameOf t)).length<(ak (J I v.2.1 i2)).length:=by
    unfold cf
    refine List.length_filter_lt_length_iff_exists.2 ⟨d,gh,?_⟩
    unfold bn
    simp [iC]
   omega
  refine Xg hu au jb (fun _=>jk) (fun kU hj' hk=>?_) hf
  have ajh:bp r≠cW (ak (J I v.2.1 i2)) (nameOf t):=by rw [dR];exact fun e=>hne e.symm
  obtain ⟨k',en,aB⟩:=h8 (bp r) ajh j hj
  obtain rfl:k'=kU:=aT (en.symm.trans hj')
  have q1:kindOf (J I v.2.1 j)=2:=by
   rw [aB] at hk
   split at hk
   ·rename_i e;subst e;exact hk
   ·exact hk
  exact⟨(mq q1).1,fun gv=>(mq q1).2 (x0 hE gv)⟩
theorem o7.ok{v:ae.D}{c:aH.D}{x:aI.D}{w:ae.D}(hv:bz v)(hc:c9 c=true)(hx:gM x)(h:o7 v c x w):bz w:=by
 rcases h with⟨hk,h⟩ | ⟨_,h⟩ | ⟨_,h⟩ | ⟨_,h⟩ | ⟨_,h⟩ | ⟨_,h⟩ | ⟨_,h⟩ | ⟨_,h⟩ | ⟨_,h⟩
 ·exact h.ok hv hc hx hk
 ·exact h.ok hv
 ·exact h.ok hv hx
 ·exact h.ok hv
 ·exact h.ok hv
 ·exact h.ok hv
 ·exact h.ok hv
 ·exact h.ok hv
 ·rw [h];exact hv
theorem AR.ok{v:ae.D}{c:aH.D}{x:aI.D}{w:ae.D}{k:Int}{t:aF}(h:AR v c x w k t)(hv:jA v=true):jA w=true:=by
 have h0:w=v→jA w=true:=fun e=>by rw [e];exact hv
 cases hc:c9 c with
 | false=>exact h0 (h.WT hv hc).1
 | true =>
 cases hcall:ke x with
 | false=>exact h0 (h.call hv hc (.inl hcall)).1
 | true =>
 by_cases kO:20<az x
 ·exact h0 (h.call hv hc (.inr kO)).1
 by_cases hk:k=0
 ·exact mW.2 ((h.done hv hc hcall (by omega) hk).ok (mW.1 hv) hc (vw.1 hcall))
 ·exact h0 (h.no hv hk)
end Go.LM.kD
