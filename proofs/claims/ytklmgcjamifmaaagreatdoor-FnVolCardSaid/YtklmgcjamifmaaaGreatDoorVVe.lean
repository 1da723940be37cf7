/- Tellings, the call as a whole; a right volume stays right. Conditions: each theorem's own hypotheses. -/
import Derived.Test.YtklmgcjamifmaaaGreatDoorVVd
set_option linter.unusedVariables false
set_option linter.unusedSimpArgs false
namespace Go.LM.kb
def lD(a:Int):aF:=gl [IntKind.wrap .u8 (aH (48+a))]
theorem qO(a:Int):(lD a).length=1:=rfl
def kP(x:Int):Int:=if Int.tmod x 10<0 then -(Int.tmod x 10) else Int.tmod x 10
def sk(b:Bool)(t:aF):aF:=cond b ([45]++t) t
theorem VU(m:Nat)(x:Int)(t:aF)(b:Bool):o8 (m+1) x t b=yO (o8 m) x t b:=rfl
theorem ahr(m:Nat)(y:Int)(t:aF)(x:Int):(mg (m+1)).bf y t x=KR (mg m) y t x:=rfl
theorem ahs(m:Nat)(y:Int)(t:aF)(x a:Int):(mg (m+1)).dh y t x a=KS (mg m) y t x a:=rfl
theorem M3(x:Int):(-9≤Int.tmod x 10∧Int.tmod x 10≤9)∧(0≤x→0≤Int.tmod x 10)∧(x≤0→Int.tmod x 10≤0):=by
 have h1:=Int.tmod_lt_of_pos x (show(0:Int)<10 by decide)
 have h2:=Int.lt_tmod_of_pos x (show(0:Int)<10 by decide)
 refine⟨by omega,fun h=>Int.tmod_nonneg _ h,fun h=>?_⟩
 have h3:0≤Int.tmod (-x) 10:=Int.tmod_nonneg _ (by omega)
 rw [Int.neg_tmod] at h3
 omega
theorem M4(x:Int):10*Int.tdiv x 10+Int.tmod x 10=x:=Int.mul_tdiv_add_tmod x 10
theorem VV(neg:Bool)(t:aF)(h:t.length≤1000) :
  cond neg (cond (room (([45]:aF).length+t.length)) (some (([45]:aF)++t,())) none) (some (t,()))=some (sk neg t,()):=by
 rw [cE (by simp;omega)]
 cases neg <;> rfl
theorem aht(m:Nat)(t:aF)(neg:Bool)(h:t.length≤1000):o8 (m+1) 0 t neg=some (sk neg t,()):=by
 rw [VU]
 unfold yO
 rw [show((0:Int) != 0)=false from rfl]
 simp only [cond_false]
 exact VV neg t h
theorem VW(m:Nat)(x:Int)(t:aF)(neg:Bool)(hx:x≠0)(h:t.length≤1000)(hb : -4000000000000000000≤x∧x≤4000000000000000000):o8 (m+1) x t neg=o8 m (Int.tdiv x 10) (lD (kP x)++t) neg:=by
 have h1:=M3 x
 have h2:=M4 x
 rw [VU]
 unfold yO
 rw [c0 hx]
 simp only [cond_true]
 rw [dI (a:=Int.tdiv x 10) (by omega) (by omega)]
 by_cases hn:Int.tmod x 10<0
 ·rw [decide_eq_true hn]
  simp only [cond_true]
  rw [dI (a:=0-Int.tmod x 10) (by omega) (by omega)]
  rw [show kP x=0-Int.tmod x 10 by unfold kP;rw [if_pos hn];omega]
  rw [show gl [IntKind.wrap .u8 (aH (48 +(0-Int.tmod x 10)))]=lD (0-Int.tmod x 10) from rfl,cE (by rw [qO];omega)]
  rfl
 ·rw [decide_eq_false hn]
  simp only [cond_false]
  rw [show kP x=Int.tmod x 10 by unfold kP;rw [if_neg hn]]
  rw [show gl [IntKind.wrap .u8 (aH (48+Int.tmod x 10))]=lD (Int.tmod x 10) from rfl,cE (by rw [qO];omega)]
  rfl
theorem M5(m:Nat)(y x:Int)(t:aF)(h:t.length≤900)(hb : -4000000000000000000≤x∧x≤4000000000000000000) :
  (mg (m+2)).bf y t x=cond (c3 x (-9) 9) (some (sk (decide (y<0)) (lD (kP x)++t),())) ((mg m).bf y (lD (kP x)++t) (Int.tdiv x 10)):=by
 have h1:=M3 x
 have h2:=M4 x
 have key:∀a,(mg (m+1)).dh y t x a=cond (c3 x (-9) 9) (some (sk (decide (y<0)) (lD a++t),())) ((mg m).bf y (lD a++t) (Int.tdiv x 10)):=by
  intro a
  rw [ahs]
  unfold KS
  rw [show gl [IntKind.wrap .u8 (aH (48+a))]=lD a from rfl,cE (by rw [qO];omega),i',dI (a:=Int.tdiv x 10) (by omega) (by omega)]
  simp only [cond_true,av]
  rw [VV (decide (y<0)) (lD a++t) (by rw [List.length_append,qO];omega)]
 rw [ahr]
 unfold KR
 by_cases hn:Int.tmod x 10<0
 ·rw [decide_eq_true hn]
  simp only [cond_true]
  rw [dI (a:=0-Int.tmod x 10) (by omega) (by omega),key,show kP x=0-Int.tmod x 10 by unfold kP;rw [if_pos hn];omega]
 ·rw [decide_eq_false hn]
  simp only [cond_false]
  rw [key,show kP x=Int.tmod x 10 by unfold kP;rw [if_neg hn]]
theorem ahu:∀(k:Nat) (x:Int),k≤18→x≠0 → -(10 ^ k:Int)<x→x<(10 ^ k:Int) →
  ∃t:aF,t.length≤k∧(∀(m:Nat) (a:aF) (neg:Bool),k<m→a.length+k≤500→o8 m x a neg=some (sk neg (t++a),())) ∧
   (∀(m:Nat) (y:Int) (a:aF),2*k<m→a.length+k≤500→(mg m).bf y a x=some (sk (decide (y<0)) (t++a),())):=by
 intro k
 induction k with
 | zero=>intro x hk h0 h1 h2;simp at h1 h2;omega
 | succ k ih =>
  intro x hk h0 h1 h2
  have ag:=M3 x
  have hm:=M4 x
  have zQ:(10 ^ k:Int)≤100000000000000000:=by
   have:(10:Nat) ^ k≤10 ^ 17:=Nat.pow_le_pow_right (by decide) (by omega)
   have h3:((10 ^ k:Nat):Int)≤((10 ^ 17:Nat):Int):=Int.ofNat_le.2 this
   simpa using h3
  have au:(10 ^ (k+1):Int)=10*10 ^ k:=by rw [Int.pow_succ];omega
  rw [au] at h1 h2
  generalize zx:(10 ^ k:Int)=P at *
  by_cases jo : -9≤x∧x≤9
  ·refine⟨lD (kP x),by rw [qO];omega,fun m a neg oN ha=>?_,fun m y a oN ha=>?_⟩
   ·obtain ⟨m,rfl⟩:∃q,m=q+1+1:=⟨m-2,by omega⟩
    rw [VW _ x a neg h0 (by omega) (by omega),show Int.tdiv x 10=0 by omega]
    exact aht m _ neg (by rw [List.length_append,qO];omega)
   ·obtain ⟨m,rfl⟩:∃q,m=q+2:=⟨m-2,by omega⟩
    rw [M5 m y x a (by omega) (by omega),show c3 x (-9) 9=true from dG.2 jo];rfl
  ·obtain ⟨t,ht,hs,hi⟩:=ih (Int.tdiv x 10) (by omega) (by omega) (by omega) (by omega)
   refine⟨t++lD (kP x),by rw [List.length_append,qO];omega,fun m a neg oN ha=>?_,fun m y a oN ha=>?_⟩
   ·obtain ⟨m,rfl⟩:∃q,m=q+1:=⟨m-1,by omega⟩
    rw [VW _ x a neg h0 (by omega) (by omega)]
    rw [hs m (lD (kP x)++a) neg (by omega) (by rw [List.length_append,qO];omega),List.append_assoc]
   ·obtain ⟨m,rfl⟩:∃q,m=q+2:=⟨m-2,by omega⟩
    rw [M5 m y x a (by omega) (by omega),show c3 x (-9) 9=false from Bool.eq_false_iff.2 fun h=>jo (dG.1 h)]
    simp only [cond_false]
    rw [hi m y (lD (kP x)++a) (by omega) (by rw [List.length_append,qO];omega),List.append_assoc]
def pD(x:Int):aF:=match y' (x,()) with | some r=>r.1 | none=>[]
theorem kQ(x:Int)(h : -1000000000000<x∧x<1000000000000):(pD x).length≤20∧gX (x,())=some (pD x,())∧y' (x,())=some (pD x,()):=by
 obtain ⟨t,h1,h2,h3⟩:∃t:aF,t.length≤20∧gX (x,())=some (t,())∧y' (x,())=some (t,()):=by
  by_cases h0:x=0
  ·subst h0
   refine⟨[48],by simp,rfl,?_⟩
   obtain ⟨q,hq,_⟩:=i_ 2
   show(mg aP).bf 0 [] 0=_
   rw [hq,M5 q 0 0 [] (by simp) (by omega)];rfl
  ·obtain ⟨t,ht,hs,hi⟩:=ahu 12 x (by omega) h0 (by simpa using h.1) (by simpa using h.2)
   refine⟨sk (decide (x<0)) t,?_,?_,?_⟩
   ·unfold sk
    cases decide (x<0)
    ·simp only [cond_false];omega
    ·simp only [cond_true,List.length_append,List.length_cons,List.length_nil];omega
   ·show cond (x==0) _ (o8 aP x [] (decide (x<0)))=_
    rw [bG h0]
    simp only [cond_false]
    rw [hs aP [] _ (iZ (by omega)) (by simp),List.append_nil]
   ·show(mg aP).bf x [] x=_
    rw [hi aP x [] (iZ (by omega)) (by simp),List.append_nil]
 have e:pD x=t:=by unfold pD;rw [h3]
 rw [e]
 exact⟨h1,h2,h3⟩
theorem ahv(xs:List aF)(sep:aF)(B:Nat)(h:∀t,t∈xs→t.length≤B):(Lib.joinTail sep xs).length≤xs.length*(sep.length+B):=by
 induction xs with
 | nil=>simp [Lib.joinTail]
 | cons y r ih =>
  have h1:=h y (by simp)
  have h2:=ih fun t ht=>h t (by simp [ht])
  simp only [Lib.joinTail,List.map_cons,List.flatten_cons,List.length_append,List.length_cons,Nat.add_one_mul] at h2 ⊢
  omega
theorem F4(xs:List aF)(sep:aF)(B:Nat)(h:∀t,t∈xs→t.length≤B):(Lib.join xs sep).length≤xs.length*(sep.length+B):=by
 cases xs with
 | nil=>simp [Lib.join_nil]
 | cons y r =>
  have h1:=h y (by simp)
  have h2:=ahv r sep B fun t ht=>h t (by simp [ht])
  rw [Lib.join_cons,List.length_append,List.length_cons,Nat.add_one_mul]
  omega
theorem ahw(xs:List aF)(y sep:aF)(h:xs≠[]):Lib.join (xs++[y]) sep=Lib.join xs sep++sep++y:=by
 cases xs with
 | nil=>exact absurd rfl h
 | cons x r=>simp [Lib.join_cons,Lib.joinTail,List.append_assoc]
theorem VX(xs:List aF)(sep:aF)(B:Nat)(h:∀t,t∈xs→t.length≤B)(hl:xs.length*(sep.length+B)≤68719476736)(hn:xs.length≤68719476736):joinF xs sep=some (Lib.join xs sep,()):=by
 unfold joinF
 rw [if_pos ⟨hn,Nat.le_trans (F4 xs sep B h) hl⟩]
theorem M6(L:List Int)(hl:L.length≤100)(h:∀x,x∈L → -1000000000000<x∧x<1000000000000):qt (L,())=some (Lib.join (L.map pD) [32],()):=by
 show uz aP L (L.length:Int) 0 []=_
 have:=mj L.length (by omega) (fun m i=>uz m L (L.length:Int) i ((L.take i.toNat).map pD)) (fun _=>some (Lib.join (L.map pD) [32],())) (fun _=>True) (fun m _=>by
  simp only [uz,Ek]
  rw [cG (Nat.le_refl _),Int.toNat_natCast,List.take_length]
  simp only [cond_false]
  show Option.bind (joinF (L.map pD) [32]) _=_
  rw [VX _ _ 20 (fun t ht=>by
   obtain ⟨x,hx,rfl⟩:=List.mem_map.1 ht
   exact(kQ x (h x hx)).1) (by simp;omega) (by simp;omega)];rfl) (fun m i hi _ hw ih=>by
  have hx:L[i]∈L:=List.getElem_mem hi
  have ih:=ih trivial
  rw [Int.toNat_natCast_add_one,List.take_succ_eq_append_getElem hi,List.map_append] at ih
  simp only [uz,Ek,hw]
  rw [ck hi,bx hi,Int.toNat_natCast]
  simp only [cond_true,av]
  rw [show J (ad.int .i64) L i=L[i] from c6 hi,(kQ _ (h _ hx)).2.2]
  simp only [av]
  rw [cE (by simp;omega)]
  exact ih) L.length 0 aP (by omega) (iZ (by omega)) trivial
 simpa using this
def c7(v:af.D)(c:aJ.D)(x:aG.D)(a:Option (aV.D×aI.D×Unit))(b:Option (aV.D×Unit)):Prop:=∃res:aV.D,a=some (res,(v,c,x,()),())∧b=some (res,())∧res.2.1.length≤1000∧(res.1=0∨res.2.1=[])
theorem c7.is{v:af.D}{c:aJ.D}{x:aG.D}{a:Option (aV.D×aI.D×Unit)}{b:Option (aV.D×Unit)}(k:Int)(t:aF)(ha:a=some ((k,t,()),(v,c,x,()),()))(hb:b=some ((k,t,()),()))(hl:t.length≤1000:=by simp)(h0:k=0∨t=[]:=by simp):c7 v c x a b:=⟨(k,t,()),ha,hb,hl,h0⟩
theorem ahx(m:Nat)(a b d e):(fk (m+1)).bs a b d e=Jx (fk m) a b d e:=rfl
theorem w_(m:Nat)(a b d e f):(fk (m+1)).c_ a b d e f=rL (fk m) a b d e f:=rfl
theorem VY(m:Nat)(a b d e f):(fk (m+1)).n9 a b d e f=CP (fk m) a b d e f:=rfl
theorem VZ(m:Nat)(a b d e):(fk (m+1)).rK a b d e=CQ (fk m) a b d e:=rfl
theorem ahy(m:Nat)(a b d e):(fk (m+1)).CO a b d e=Jy (fk m) a b d e:=rfl
def mw(x:aG.D):Bool:=aA x != 11&&(aA x != 14||bR x==0)
def nx(x:aG.D):Bool:=(aA x==14&&(bR x != 0&&bR x != 1))||(aA x==17 && !c3 (bR x) 0 7)
def sm:aV.D:=(0,([]:aF),())
theorem ahz(m:Nat)(v:af.D)(c:aJ.D)(x:aG.D)(z:aV.D):(fk (m+1)).bs v c x z=Option.bind (fK (v,c,fx x,mw x,())) fun r=>(fk m).c_ v c x z r.1:=by
 rw [ahx]
 unfold Jx mw
 show cond (aA x != 11) (cond (aA x != 14) (Option.bind (fK (v,c,fx x,true,())) _) (Option.bind (fK (v,c,fx x,bR x==0,())) _)) (Option.bind (fK (v,c,fx x,false,())) _)=_
 cases aA x != 11
 ·rfl
 ·cases aA x != 14 <;> rfl
theorem M7(K:m4)(v:af.D)(c:aJ.D)(x:aG.D)(hk:aA x≠18):qg K v c x=cond (nx x) (some ((22,[],()),())) (K.bs v c x sm):=by
 unfold qg nx
 have ahA:∀k:Option (aV.D×Unit),Option.bind (eg (bR x,0,7,())) (fun v4=>cond (!v4.1) (some ((22,([]:aF),()),())) k)=cond (!c3 (bR x) 0 7) (some ((22,([]:aF),()),())) k:=fun k=>by rw [jy];rfl
 show cond (aA x==18) _ (cond (aA x==14) (cond (bR x != 0) (cond (bR x != 1) _ (cond (aA x==17) (Option.bind (eg (bR x,0,7,())) _) _)) (cond (aA x==17) (Option.bind (eg (bR x,0,7,())) _) _)) (cond (aA x==17) (Option.bind (eg (bR x,0,7,())) (fun v4=>cond (!v4.1) (some ((22,([]:aF),()),())) (K.bs v c x sm))) (K.bs v c x sm)))=_
 rw [bG hk]
 simp only [cond_false]
 by_cases vC:aA x=14
 ·rw [cB vC,bG (show aA x≠17 by omega)]
  cases bR x != 0 <;> cases bR x != 1 <;> rfl
 ·rw [bG vC]
  simp only [cond_false,Bool.false_and,Bool.false_or]
  rw [ahA]
  cases aA x==17
  ·rfl
  ·cases c3 (bR x) 0 7 <;> rfl
theorem z1(v:af.D)(c:aJ.D)(x:aG.D)(hk:aA x≠18)(hb:nx x=false)(cn:pr v.2.1)(r:aW.D)(hs:fK (v,c,fx x,mw x,())=some (r,())) :
  ∃q,4611686018427387904<q∧lx (v,c,x,())=(fk (q+1)).c_ v c x sm r:=by
 obtain ⟨q,hq,hI⟩:=i_ 2
 refine⟨q,hI,?_⟩
 show qg (fk aP) v c x=_
 rw [M7 _ _ _ _ hk,hb,hq]
 simp only [cond_false]
 rw [ahz,hs];rfl
theorem z6(v:af.D)(c:aJ.D)(x:aG.D)(q:Nat)(r:aW.D)(h:bM r≠0):(fk (q+1)).c_ v c x sm r=some ((bM r,[],()),()):=by
 rw [w_]
 unfold rL
 show cond (bM r != 0) _ _=_
 rw [c0 h];rfl
theorem ahB(v:af.D)(c:aJ.D)(x:aG.D)(hv:bI v)(hc:df c=true)(hx:ij x)(hk:aA x=11):c7 v c x (Ei ((v,c,x,()),())) (lx (v,c,x,())):=by
 have cn:=hv.iM
 have au:=hx.path
 obtain ⟨r,hr,gk,j0,j1⟩:=si v c x false cn hc (by omega)
 obtain ⟨q,hq,bW⟩:=z1 v c x (by omega) (by unfold nx;rw [bG (show aA x≠14 by omega),bG (show aA x≠17 by omega)];rfl) cn r (by
  rw [show mw x=false by unfold mw;rw [dH hk];rfl];exact gk)
 show c7 v c x (KQ (v,c,x,())) _
 rw [bW]
 unfold KQ
 by_cases b0:bM r=0
 case neg =>
  rw [j0 b0,z6 v c x q r b0]
  simp only [av]
  rw [c0 b0]
  exact c7.is (bM r) [] rfl rfl
 obtain ⟨i,hi,eP⟩:=j1 b0
 have bJ:=bX hi
 rw [eP,w_]
 unfold rL
 show c7 v c x _ (cond (bM r != 0) _ (Option.bind (e7 (v,bp r,())) _))
 rw [dH b0,je v _ cn.len hi]
 simp only [cond_false,av]
 rw [show((0:Int) != 0)=false from rfl,bx bJ.1]
 simp only [cond_false,av]
 show c7 v c x (cond (kindOf (J I v.2.1 i) != 3) _ _) (cond (aA x==4) _ (cond (aA x==11) (cond (kindOf (J I v.2.1 i) != 3) _ _) _))
 rw [bG (show aA x≠4 by omega),cB hk]
 simp only [cond_false,cond_true]
 cases kindOf (J I v.2.1 i) != 3 with
 | true=>exact c7.is 22 [] rfl rfl
 | false=>exact c7.is 0 (bN (J I v.2.1 i)) rfl rfl (by have:=hv.fy bJ.1;omega)
theorem ahC(v:af.D)(c:aJ.D)(x:aG.D)(hv:bI v)(hc:df c=true)(hx:ij x)(hk:aA x=17) :
  c7 v c x (Option.bind (EA ((v,c,x,()),())) fun v6=>Option.bind (eO (v6.1,())) fun bt=>some (bt.1,v6.2.1,())) (lx (v,c,x,())):=by
 have cn:=hv.iM
 have au:=hx.path
 show c7 v c x (Option.bind (KY (v,c,x,())) _) _
 unfold KY
 show c7 v c x (Option.bind (Option.bind (eG (bR x,0,7,())) _) _) _
 rw [i']
 simp only [av]
 cases hN:c3 (bR x) 0 7 with
 | false =>
  have dM:lx (v,c,x,())=some ((22,[],()),()):=by
   show qg (fk aP) v c x=_
   rw [M7 _ _ _ _ (by omega),show nx x=true by unfold nx;rw [cB hk,hN];simp];rfl
  rw [dM]
  exact c7.is 22 [] rfl rfl
 | true =>
 obtain ⟨r,hr,gk,j0,j1⟩:=si v c x true cn hc (by omega)
 obtain ⟨q,hq,bW⟩:=z1 v c x (by omega) (by unfold nx;rw [bG (show aA x≠14 by omega),hN];simp) cn r (by
  rw [show mw x=true by unfold mw;rw [c0 (show aA x≠11 by omega),c0 (show aA x≠14 by omega)];rfl];exact gk)
 rw [bW]
 simp only [Bool.not_true,cond_false]
 by_cases b0:bM r=0
 case neg =>
  rw [j0 b0,z6 v c x q r b0]
  simp only [av]
  rw [c0 b0]
  exact c7.is (bM r) [] rfl rfl
 obtain ⟨i,hi,eP⟩:=j1 b0
 have bJ:=bX hi
 rw [eP,w_]
 unfold rL
 show c7 v c x _ (cond (bM r != 0) _ (Option.bind (e7 (v,bp r,())) _))
 rw [dH b0,je v _ cn.len hi]
 simp only [cond_false,av]
 rw [show((0:Int) != 0)=false from rfl,bx bJ.1]
 simp only [cond_false,av]
 show c7 v c x (Option.bind (Option.bind (pa (c,J I v.2.1 i,bR x,())) _) _) (cond (aA x==4) _ (cond (aA x==11) _ (cond (aA x==13) _ (cond (aA x==14) _ (cond (aA x==17) (Option.bind (jO (c,J I v.2.1 i,bR x,())) _) _)))))
 rw [bG (show aA x≠4 by omega),bG (show aA x≠11 by omega),bG (show aA x≠13 by omega),bG (show aA x≠14 by omega),cB hk]
 simp only [cond_false,cond_true]
 rw [zC c _ _ hc,pj c _ _ hc]
 simp only [av]
 cases may c (J I v.2.1 i) (bR x) with
 | false=>exact c7.is 13 [] rfl rfl
 | true=>exact c7.is 0 [] rfl rfl
theorem M8(L:List Int)(hl:L.length≤40)(h:∀x,x∈L → -1000000000000<x∧x<1000000000000):(Lib.join (L.map pD) [32]).length≤1000:=by
 refine Nat.le_trans (F4 _ _ 20 fun t ht=>?_) ?_
 ·obtain ⟨x,hx,rfl⟩:=List.mem_map.1 ht
  exact(kQ x (h x hx)).1
 ·rw [List.length_map,List.length_singleton];omega
theorem ahD(N:List aw.D)(hN:N.length≤12)(cU:∀d,d∈N→d.1.length≤8):(Lib.join (N.map fun d=>d.1) [47]).length≤1000:=by
 refine Nat.le_trans (F4 _ _ 8 fun t ht=>?_) ?_
 ·obtain ⟨d,ag,rfl⟩:=List.mem_map.1 ht
  exact cU d ag
 ·rw [List.length_map,List.length_singleton];omega
theorem ahE(v:af.D)(c:aJ.D)(x:aG.D)(hv:bI v)(hk:aA x=18) :
  c7 v c x (Option.bind (rS (v,())) fun dw=>Option.bind (qt ([(v.2.1.length:Int),dw.1],())) fun v9=>some ((0,v9.1,()),(v,c,x,()),())) (lx (v,c,x,())):=by
 have hl:=hv.len
 have hb:=hv.bytes
 show c7 v c x _ (qg (fk aP) v c x)
 unfold qg
 show c7 v c x _ (cond (aA x==18) (Option.bind (gX ((v.2.1.length:Int),())) _) _)
 have d1:=kQ (v.2.1.length:Int) (by omega)
 have d2:=kQ (bytesOf v.2.1:Int) (by omega)
 rw [cB hk,L8 v (by omega) (by omega),d1.2.1]
 simp only [cond_true,av]
 rw [cE (by simp;omega),L7 v (by omega) (by omega)]
 simp only [cond_true,av]
 rw [d2.2.1]
 simp only [av]
 rw [cE (by simp;omega),M6 _ (by simp) (by intro y aM;simp at aM;omega)]
 refine c7.is 0 _ rfl ?_ (M8 _ (by simp) (by intro y aM;simp at aM;omega))
 simp [Lib.join_cons,Lib.joinTail,List.append_assoc]
theorem ahF(v:af.D)(c:aJ.D)(x:aG.D)(hv:bI v)(hc:df c=true)(hx:ij x)(hk:aA x=14):c7 v c x (Et ((v,c,x,()),())) (lx (v,c,x,())):=by
 have cn:=hv.iM
 have au:=hx.path
 show c7 v c x (KT (v,c,x,())) _
 unfold KT
 show c7 v c x (Option.bind (eG (bR x,0,1,())) fun v1=>cond (!v1.1) _ (Option.bind (mf ((v,c,x,()),bR x==0,())) _)) _
 rw [i']
 simp only [av]
 cases hN:c3 (bR x) 0 1 with
 | false =>
  have dM:lx (v,c,x,())=some ((22,[],()),()):=by
   show qg (fk aP) v c x=_
   have hn:¬(0≤bR x∧bR x≤1):=fun h=>by rw [dG.2 h] at hN;cases hN
   rw [M7 _ _ _ _ (by omega),show nx x=true by unfold nx;rw [cB hk,c0 (show bR x≠0 by omega),c0 (show bR x≠1 by omega)];rfl];rfl
  rw [dM]
  exact c7.is 22 [] rfl rfl
 | true =>
 have pA:=dG.1 hN
 obtain ⟨r,hr,gk,j0,j1⟩:=si v c x (bR x==0) cn hc (by omega)
 obtain ⟨q,hq,bW⟩:=z1 v c x (by omega) (by
  unfold nx
  rw [bG (show aA x≠17 by omega)]
  rcases (show bR x=0∨bR x=1 by omega) with h | h
  ·rw [dH h];simp
  ·rw [dH h];simp) cn r (by
  rw [show mw x=(bR x==0) by unfold mw;rw [c0 (show aA x≠11 by omega),dH hk];rfl];exact gk)
 rw [bW]
 simp only [Bool.not_true,cond_false]
 by_cases b0:bM r=0
 case neg =>
  rw [j0 b0,z6 v c x q r b0]
  simp only [av]
  rw [c0 b0]
  exact c7.is (bM r) [] rfl rfl
 obtain ⟨i,hi,eP⟩:=j1 b0
 have bJ:=bX hi
 rw [eP,w_]
 unfold rL
 show c7 v c x _ (cond (bM r != 0) _ (Option.bind (e7 (v,bp r,())) _))
 rw [dH b0,je v _ cn.len hi]
 simp only [cond_false,av]
 rw [show((0:Int) != 0)=false from rfl,bx bJ.1]
 simp only [cond_false,av]
 have bP:=hv.ino i bJ.1
 have F5:=hv.fy bJ.1
 have hnl:(ak (J I v.2.1 i)).length≤1048576:=Nat.le_trans (fM bJ.1) cn.cJ
 have akl:0≤oq v.2.1 (J I v.2.1 i)∧oq v.2.1 (J I v.2.1 i)<100000000:=by
  unfold oq
  have h1:=Ub v.2.1 (J I v.2.1 i).1
  have h2:mq v.2.1 (ak (J I v.2.1 i))≤(ak (J I v.2.1 i)).length:=List.length_filter_le _ _
  have h3:=cn.cJ
  cases kindOf (J I v.2.1 i) != 2
  ·simp only [cond_false];omega
  ·simp only [cond_true];omega
 rw [UM v _ cn.len cn.cJ hnl]
 simp only [av]
 show c7 v c x (Option.bind (qt ([kindOf (J I v.2.1 i),eU (J I v.2.1 i),ek (J I v.2.1 i),e9 (J I v.2.1 i),oq v.2.1 (J I v.2.1 i),((bN (J I v.2.1 i)).length:Int)],())) _)
  (cond (aA x==4) _ (cond (aA x==11) _ (cond (aA x==13) _ (cond (aA x==14) (Option.bind (gX (kindOf (J I v.2.1 i),())) fun v4=>cond _ (Option.bind (gX (eU (J I v.2.1 i),())) fun v5=>cond _ (cond _ (Option.bind (gX (ek (J I v.2.1 i),())) fun v6=>cond _ (cond _ (Option.bind (gX (e9 (J I v.2.1 i),())) fun bt=>cond _ (cond _ (Option.bind (CN (v,a7 (J I v.2.1 i),())) _) _) _) _) _) _) _) _) _))))
 have uU:1≤kindOf (J I v.2.1 i)∧kindOf (J I v.2.1 i)≤3:=by rcases bP.kind with h | h | h <;> omega
 have hm:=bP.mode
 have hu:=bP.uid
 have az:=bP.gid
 have d1:=kQ (kindOf (J I v.2.1 i)) (by omega)
 have d2:=kQ (eU (J I v.2.1 i)) (by omega)
 have d3:=kQ (ek (J I v.2.1 i)) (by omega)
 have d4:=kQ (e9 (J I v.2.1 i)) (by omega)
 have d5:=kQ (oq v.2.1 (J I v.2.1 i)) (by omega)
 have d6:=kQ ((bN (J I v.2.1 i)).length:Int) (by omega)
 rw [bG (show aA x≠4 by omega),bG (show aA x≠11 by omega),bG (show aA x≠13 by omega),cB hk]
 simp only [cond_false,cond_true]
 rw [M6 _ (by simp) (by intro y aM;simp at aM;omega),d1.2.1]
 simp only [av]
 rw [cE (by simp;omega),d2.2.1]
 simp only [cond_true,av]
 rw [cE (by simp;omega),cE (by simp;omega),d3.2.1]
 simp only [cond_true,av]
 rw [cE (by simp;omega),cE (by simp;omega),d4.2.1]
 simp only [cond_true,av]
 rw [cE (by simp;omega),cE (by simp;omega),afw v (a7 (J I v.2.1 i)) cn.len cn.cJ (cn.ga i bJ.1)]
 simp only [cond_true,av]
 rw [d5.2.1]
 simp only [cond_true,av]
 rw [cE (by simp;omega),cE (by simp;omega)]
 simp only [cond_true]
 show c7 v c x _ (Option.bind (gX (((bN (J I v.2.1 i)).length:Int),())) _)
 rw [d6.2.1]
 simp only [cond_true,av]
 rw [cE (by simp;omega)]
 refine c7.is 0 _ rfl ?_ (M8 _ (by simp) (by intro y aM;simp at aM;omega))
 simp [Lib.join_cons,Lib.joinTail,List.append_assoc]
theorem F6{s:aF}(h:hQ s=true):s.length≤8:=by
 unfold hQ at h
 simp only [Bool.and_eq_true] at h
 have:=dG.1 h.2.1
 omega
theorem ahG{v:af.D}(hv:bI v){i:Nat}(bJ:i<v.2.1.length)(h:kindOf (J I v.2.1 i)=2):(ak (J I v.2.1 i)).length≤12∧∀d,d∈ak (J I v.2.1 i)→d.1.length≤8:=by
 have bP:=hv.ino i bJ
 exact⟨(bP.dir h).2.2.2,fun d ag=>F6 (bP.names d ag).1⟩
theorem V0(l:List aK)(F:Flags):jA l F≤l.length:=by
 unfold jA om
 refine Nat.le_trans (List.length_filter_le _ _) ?_
 rw [List.length_range];exact Nat.le_refl _
theorem F7{α : Type}(f : α → Nat)(B:Nat):∀L:List α,(∀i,i∈L→f i≤B)→(L.map f).sum≤L.length*B
 | [],_=>by simp
 | y :: r,h=>by
  have h1:=h y (by simp)
  have h2:=F7 f B r fun t ht=>h t (by simp [ht])
  rw [List.map_cons,List.sum_cons,List.length_cons,Nat.add_one_mul]
  omega
theorem ahH{v:af.D}(hv:bI v)(F:Flags):jc v.2.1 F≤v.2.1.length*64:=by
 unfold jc
 refine Nat.le_trans (F7 _ 64 _ fun i hi=>?_) (Nat.mul_le_mul_right _ (V0 v.2.1 F))
 unfold om at hi
 exact hv.fy (List.mem_range.1 (List.mem_filter.1 hi).1)
theorem ahI(N:List aw.D)(hN:N.length≤12)(cU:∀d,d∈N→d.1.length≤8)(y:aI.D)(z:aV.D) :
  qu aP N (N.length:Int) 0 z [] y=some ((0,Lib.join (N.map fun d=>d.1) [47],()),y,()):=by
 have:=mj N.length (by omega) (fun m i=>qu m N (N.length:Int) i z ((N.take i.toNat).map fun d=>d.1) y) (fun _=>some ((0,Lib.join (N.map fun d=>d.1) [47],()),y,())) (fun _=>True) (fun m _=>by
  simp only [qu,En]
  rw [cG (Nat.le_refl _),Int.toNat_natCast,List.take_length]
  simp only [cond_false]
  show Option.bind (joinF (N.map fun d=>d.1) [47]) _=_
  rw [VX _ _ 8 (fun t ht=>by
   obtain ⟨d,ag,rfl⟩:=List.mem_map.1 ht
   exact cU d ag) (by simp;omega) (by simp;omega)];rfl) (fun m i hi _ hw ih=>by
  have ih:=ih trivial
  rw [Int.toNat_natCast_add_one,List.take_succ_eq_append_getElem hi,List.map_append] at ih
  simp only [qu,En,hw]
  rw [ck hi,bx hi,Int.toNat_natCast]
  simp only [cond_true,av]
  rw [show J aw N i=N[i] from c6 hi]
  rw [cE (by simp;omega)]
  exact ih) N.length 0 aP (by omega) (iZ (by omega)) trivial
 simpa using this
theorem ahJ(n:aK)(hN:(ak n).length≤12)(cU:∀d,d∈ak n→d.1.length≤8)(z:aV.D)(q:Nat)(hq:1000<q) :
  (fk q).rK [] 0 z n=some ((0,Lib.join ((ak n).map fun d=>d.1) [47],()),()):=by
 have hb:∀i,(Lib.join (((ak n).take i).map fun d=>d.1) [47]).length≤108:=by
  intro i
  refine Nat.le_trans (F4 _ _ 8 fun t ht=>?_) ?_
  ·obtain ⟨d,ag,rfl⟩:=List.mem_map.1 ht
   exact cU d (List.mem_of_mem_take ag)
  ·simp;omega
 have key:=oo 2 (fun m i=>(fk m).rK (Lib.join (((ak n).take i).map fun d=>d.1) [47]) (i:Int) z n) (some ((0,Lib.join ((ak n).map fun d=>d.1) [47],()),())) (ak n).length 1 (fun i hi B y he=>by
  have akm:((ak n)[i]).1.length≤8:=cU _ (List.getElem_mem hi)
  have vw:=hb i
  refine he.jump 2 fun m=>?_
  rw [VZ]
  unfold CQ
  show cond (decide ((i:Int)<((ak n).length:Int))) _ _=_
  rw [ck hi]
  simp only [cond_true]
  have V1:∀t:aF,t.length≤200→(fk (m+1)).CO t (i:Int) z n=(fk m).rK (t++((ak n)[i]).1) ((i+1:Nat):Int) z n:=fun t ht=>by
   rw [ahy]
   unfold Jy
   show Option.bind (aN (ak n).length (i:Int)) (fun v1=>cond (room (t.length +((J aw (ak n) v1).1).length)) ((fk m).rK (t++((J aw (ak n) v1).1)) (aH ((i:Int)+1)) z n) none)=_
   rw [bx hi]
   simp only [av]
   rw [show J aw (ak n) i=(ak n)[i] from c6 hi,cE (by omega),db i (by omega)];rfl
  have e1:((ak n).take (i+1)).map (fun d=>d.1)=((ak n).take i).map (fun d=>d.1)++[((ak n)[i]).1]:=by
   rw [List.take_succ_eq_append_getElem hi,List.map_append];rfl
  rw [e1]
  by_cases h0:i=0
  ·subst h0
   rw [show decide (((0:Nat):Int)>0)=false from rfl]
   simp only [cond_false]
   rw [V1 _ (by omega)]
   simp [Lib.join_nil,Lib.join_one]
  ·rw [decide_eq_true (show(i:Int)>0 by omega),cE (by rw [List.length_singleton];omega)]
   simp only [cond_true]
   rw [V1 _ (by rw [List.length_append,List.length_singleton];omega),ahw]
   intro h
   have:=congrArg List.length h
   simp only [List.length_map,List.length_take,List.length_nil] at this
   omega) (bZ.done fun m=>by
  rw [VZ]
  unfold CQ
  show cond (decide (((ak n).length:Int)<((ak n).length:Int))) _ _=_
  rw [cG (Nat.le_refl _),List.take_length];rfl)
 have:=key q (by omega)
 simpa [Lib.join_nil] using this
theorem ahK(v:af.D)(c:aJ.D)(x:aG.D)(hv:bI v)(hc:df c=true)(hx:ij x)(hk:aA x=13∨aA x=20):c7 v c x (zb ((v,c,x,()),())) (lx (v,c,x,())):=by
 have cn:=hv.iM
 have au:=hx.path
 obtain ⟨r,hr,gk,j0,j1⟩:=si v c x true cn hc (by omega)
 obtain ⟨q,hq,bW⟩:=z1 v c x (by omega) (by unfold nx;rw [bG (show aA x≠14 by omega),bG (show aA x≠17 by omega)];rfl) cn r (by
  rw [show mw x=true by unfold mw;rw [c0 (show aA x≠11 by omega),c0 (show aA x≠14 by omega)];rfl];exact gk)
 show c7 v c x (Em (qu aP) (v,c,x,())) _
 rw [bW]
 unfold Em
 by_cases b0:bM r=0
 case neg =>
  rw [j0 b0,z6 v c x q r b0]
  simp only [av]
  rw [c0 b0]
  exact c7.is (bM r) [] rfl rfl
 obtain ⟨i,hi,eP⟩:=j1 b0
 have bJ:=bX hi
 rw [eP,w_]
 unfold rL
 show c7 v c x _ (cond (bM r != 0) _ (Option.bind (e7 (v,bp r,())) _))
 rw [dH b0,je v _ cn.len hi]
 simp only [cond_false,av]
 rw [show((0:Int) != 0)=false from rfl,bx bJ.1]
 simp only [cond_false,av]
 show c7 v c x (cond (kindOf (J I v.2.1 i) != 2) _ (Option.bind (pa (c,J I v.2.1 i,4,())) fun v6=>cond (!v6.1) _ (cond (aA x==20) (Option.bind (wB (v,a7 (J I v.2.1 i),())) fun v9=>Option.bind (qt ([ej (J I v.2.1 i),dC (J I v.2.1 i),v9.1,v9.2.1],())) _) (qu aP (ak (J I v.2.1 i)) ((ak (J I v.2.1 i)).length:Int) 0 (0,([]:aF),()) [] (v,c,x,())))))
  (cond (aA x==4) _ (cond (aA x==11) _ (cond (aA x==13) (cond (!(kindOf (J I v.2.1 i)==2)) _ (Option.bind (jO (c,J I v.2.1 i,4,())) fun v3=>cond (!v3.1) _ ((fk q).rK [] 0 sm (J I v.2.1 i)))) (cond (aA x==14) _ (cond (aA x==17) _ (cond (!(kindOf (J I v.2.1 i)==2)) _ (Option.bind (jO (c,J I v.2.1 i,4,())) fun v12=>cond (!v12.1) _ (Option.bind (yy (v,a7 (J I v.2.1 i),())) fun jx=>Option.bind (gX (ej (J I v.2.1 i),())) fun mb=>cond _ (Option.bind (gX (dC (J I v.2.1 i),())) _) _))))))))
 rw [bG (show aA x≠4 by omega),bG (show aA x≠11 by omega),bG (show aA x≠14 by omega),bG (show aA x≠17 by omega)]
 simp only [cond_false]
 by_cases ag:kindOf (J I v.2.1 i)=2
 case neg =>
  rw [c0 ag,bG ag]
  refine c7.is 20 [] rfl ?_
  cases aA x==13 <;> rfl
 rw [dH ag,cB ag,pj c _ 4 hc,zC c _ 4 hc]
 simp only [cond_false,av,Bool.not_true]
 cases may c (J I v.2.1 i) 4 with
 | false =>
  refine c7.is 13 [] rfl ?_
  cases aA x==13 <;> rfl
 | true =>
 simp only [cond_false,Bool.not_true]
 have bP:=hv.ino i bJ.1
 have uU:=ahG hv bJ.1 ag
 rcases hk with hk | hk
 ·rw [cB hk,bG (show aA x≠20 by omega)]
  simp only [cond_false,cond_true]
  rw [ahI _ uU.1 uU.2,ahJ _ uU.1 uU.2 _ q (by omega)]
  exact c7.is 0 _ rfl rfl (ahD _ uU.1 uU.2)
 ·rw [cB hk,bG (show aA x≠13 by omega)]
  simp only [cond_false,cond_true]
  have hvl:=hv.len
  have OJ:=hv.bytes
  obtain ⟨out,hf,hu⟩:=Mi v (a7 (J I v.2.1 i)) cn.len cn.cJ (by omega)
  obtain ⟨kX,hK⟩:=Mj hv.ga hv.gZ hf
  rw [kX,hK] at hu
  have q6:jA v.2.1 (dK v.2.1 (a7 (J I v.2.1 i)))≤v.2.1.length:=V0 _ _
  have iS:jc v.2.1 (dK v.2.1 (a7 (J I v.2.1 i)))≤v.2.1.length*64:=ahH hv _
  have ou:=bP.dir ag
  have d1:=kQ (ej (J I v.2.1 i)) (by omega)
  have d2:=kQ (dC (J I v.2.1 i)) (by omega)
  have d3:=kQ (jc v.2.1 (dK v.2.1 (a7 (J I v.2.1 i))):Int) (by omega)
  have d4:=kQ (jA v.2.1 (dK v.2.1 (a7 (J I v.2.1 i))):Int) (by omega)
  rw [hu,Us v _ cn.len cn.cJ (by omega)]
  simp only [av]
  rw [M6 _ (by simp) (by intro y aM;simp at aM;omega),d1.2.1]
  simp only [av]
  rw [cE (by simp;omega),d2.2.1]
  simp only [cond_true,av]
  rw [cE (by simp;omega),cE (by simp;omega),d3.2.1]
  simp only [cond_true,av]
  rw [cE (by simp;omega),cE (by simp;omega),d4.2.1]
  simp only [cond_true,av]
  rw [cE (by simp;omega)]
  refine c7.is 0 _ rfl ?_ (M8 _ (by simp) (by intro y aM;simp at aM;omega))
  simp [Lib.join_cons,Lib.joinTail,List.append_assoc]
theorem ahL(n:aK)(x:aG.D)(a:Nat)(ha:(a:Int)=bR x)(xX:a≤1000000)(b:Nat)(hb:(b:Int)=d' x)(hb2:b≤1000000)(hl:(bN n).length≤64)(z:aV.D)(q:Nat)(hq:1000<q) :
  (fk q).n9 (a:Int) x z n []=some ((0,((bN n).drop a).take b,()),()):=by
 have key:∀(k m j:Nat),k<m→min (bN n).length (a+b)-j≤k→a≤j→j≤a+64∧j≤a+b→(fk m).n9 (j:Int) x z n (en (((bN n).drop a).take (j-a)))=some ((0,((bN n).drop a).take b,()),()):=by
  intro k
  induction k with
  | zero =>
   intro m j hm h1 h2 h3
   obtain ⟨m,rfl⟩:∃p,m=p+1:=⟨m-1,by omega⟩
   rw [VY]
   unfold CP
   show cond (decide ((j:Int)<((bN n).length:Int))) (cond (decide ((j:Int)<aH (bR x+d' x))) _ _) _=_
   rw [← ha,← hb,dI (by omega) (by omega)]
   have e:∀w,w=some ((0,gl (en (((bN n).drop a).take (j-a))),()),())→w=some (((0:Int),((bN n).drop a).take b,()),()):=fun w hw=>by
    rw [hw,VM]
    have:((bN n).drop a).take (j-a)=((bN n).drop a).take b:=by
     rw [List.take_eq_take_iff,List.length_drop];omega
    rw [this]
   by_cases hj:j<(bN n).length
   ·rw [ck hj,decide_eq_false (show ¬(j:Int)<(a:Int) +(b:Int) by omega)]
    exact e _ rfl
   ·rw [cG (by omega)]
    exact e _ rfl
  | succ k ih =>
   intro m j hm h1 h2 h3
   by_cases MY:min (bN n).length (a+b)-j≤k
   ·exact ih m j (by omega) MY h2 h3
   obtain ⟨m,rfl⟩:∃p,m=p+1:=⟨m-1,by omega⟩
   rw [VY]
   unfold CP
   show cond (decide ((j:Int)<((bN n).length:Int))) (cond (decide ((j:Int)<aH (bR x+d' x))) (Option.bind (aN (bN n).length (j:Int)) fun v1=>cond (room ((en (((bN n).drop a).take (j-a))).length+[(((bN n).getD v1 0).toNat:Int)].length)) ((fk m).n9 (aH ((j:Int)+1)) x z n (en (((bN n).drop a).take (j-a))++[(((bN n).getD v1 0).toNat:Int)])) none) _) _=_
   have hj:j<(bN n).length:=by omega
   rw [← ha,← hb,dI (a:=(a:Int) +(b:Int)) (by omega) (by omega),ck hj,decide_eq_true (show(j:Int)<(a:Int) +(b:Int) by omega),bx hj,db j (by omega)]
   simp only [cond_true,av]
   rw [cE (by rw [FY,List.length_take,List.length_drop,List.length_singleton];omega)]
   simp only [cond_true]
   have:=ih m (j+1) (by omega) (by omega) (by omega) (by omega)
   rw [show en (((bN n).drop a).take (j-a))++[(((bN n).getD j 0).toNat:Int)]=en (((bN n).drop a).take (j+1-a)) by
    rw [show j+1-a=(j-a)+1 by omega,List.take_succ_eq_append_getElem (by rw [List.length_drop];omega)]
    unfold en
    rw [List.map_append,List.getElem_drop,List.getD_eq_getElem?_getD,List.getElem?_eq_getElem hj]
    simp [show a +(j-a)=j by omega]]
   exact this
 have:=key 64 q a (by omega) (by omega) (by omega) (by omega)
 rw [Nat.sub_self] at this
 exact this
theorem ahM(v:af.D)(c:aJ.D)(x:aG.D)(hv:bI v)(hc:df c=true)(hx:ij x)(hk:aA x=4):c7 v c x (Ee ((v,c,x,()),())) (lx (v,c,x,())):=by
 have cn:=hv.iM
 have au:=hx.path
 obtain ⟨r,hr,gk,j0,j1⟩:=VO v c x 4 cn hc (by omega)
 obtain ⟨q,hq,bW⟩:=z1 v c x (by omega) (by unfold nx;rw [bG (show aA x≠14 by omega),bG (show aA x≠17 by omega)];rfl) cn r (by
  rw [show mw x=true by unfold mw;rw [c0 (show aA x≠11 by omega),c0 (show aA x≠14 by omega)];rfl];exact gk)
 show c7 v c x (KL (v,c,x,())) _
 rw [bW]
 unfold KL
 by_cases b0:bM r=0
 case neg =>
  rw [j0 b0,z6 v c x q r b0]
  simp only [av]
  rw [c0 b0]
  exact c7.is (bM r) [] rfl rfl
 obtain ⟨i,hi,eP⟩:=j1 b0
 have bJ:=bX hi
 rw [eP,w_]
 unfold rL
 show c7 v c x _ (cond (bM r != 0) _ (Option.bind (e7 (v,bp r,())) _))
 rw [dH b0,je v _ cn.len hi]
 simp only [cond_false,av]
 show c7 v c x _ (cond (aA x==4) (cond (kindOf (J I v.2.1 i)==2) _ (Option.bind (jO (c,J I v.2.1 i,4,())) fun v2=>cond (!v2.1) _ (cond (decide (bR x<0)) _ (cond (decide (d' x<0)) _ ((fk q).n9 (bR x) x sm (J I v.2.1 i) []))))) _)
 rw [cB hk,pj c _ 4 hc]
 simp only [cond_true,av]
 cases kindOf (J I v.2.1 i)==2 with
 | true=>exact c7.is 21 [] rfl rfl
 | false =>
 cases may c (J I v.2.1 i) 4 with
 | false=>exact c7.is 13 [] rfl rfl
 | true =>
 simp only [cond_false,Bool.not_true,av]
 rw [show((0:Int) != 0)=false from rfl]
 simp only [cond_false]
 show c7 v c x (cond (decide (bR x<0)) _ (cond (decide (d' x<0)) _ _)) _
 by_cases hn:bR x<0
 ·rw [decide_eq_true hn]
  exact c7.is 22 [] rfl rfl
 by_cases hm:d' x<0
 ·rw [decide_eq_false hn,decide_eq_true hm]
  exact c7.is 22 [] rfl rfl
 rw [decide_eq_false hn,decide_eq_false hm]
 simp only [cond_false]
 have F5:=hv.fy bJ.1
 have akn:=hx.n
 have mT:=hx.m
 obtain ⟨a,ha⟩:∃a:Nat,(a:Int)=bR x:=⟨(bR x).toNat,by omega⟩
 obtain ⟨b,hb⟩:∃b:Nat,(b:Int)=d' x:=⟨(d' x).toNat,by omega⟩
 rw [← ha,ahL _ x a ha (by omega) b hb (by omega) F5 sm q (by omega),bx bJ.1]
 simp only [av]
 show c7 v c x (Option.bind (dZ (bN (J I v.2.1 i)).length (jk (bR x) ((bN (J I v.2.1 i)).length:Int)) ((bN (J I v.2.1 i)).length:Int)) fun bt=>Option.bind (dZ ((part (bN (J I v.2.1 i)) bt.1 (bt.2-bt.1)).length) 0 (jk (d' x) (((part (bN (J I v.2.1 i)) bt.1 (bt.2-bt.1)).length:Nat):Int))) fun dw=>some ((0,part (part (bN (J I v.2.1 i)) bt.1 (bt.2-bt.1)) dw.1 (dw.2-dw.1),()),(v,c,x,()),())) _
 generalize bN (J I v.2.1 i)=d at *
 have e1:jk (bR x) (d.length:Int)=((min a d.length:Nat):Int):=by unfold jk;split <;> omega
 rw [e1,kn (by omega) (by omega)]
 simp only [av]
 have e2:part d (min a d.length) (d.length-min a d.length)=d.drop a:=by
  unfold part
  rw [List.take_of_length_le (by rw [List.length_drop];omega)]
  by_cases h:a≤d.length
  ·rw [Nat.min_eq_left h]
  ·rw [List.drop_eq_nil_of_le (by omega),List.drop_eq_nil_of_le (by omega)]
 rw [e2]
 have e3:jk (d' x) ((d.drop a).length:Int)=((min b (d.drop a).length:Nat):Int):=by unfold jk;split <;> omega
 rw [e3]
 have fH:dZ (d.drop a).length 0 ((min b (d.drop a).length:Nat):Int)=some (0,min b (d.drop a).length):=kn (lo:=0) (Nat.zero_le _) (Nat.min_le_right _ _)
 rw [fH]
 simp only [av,Nat.sub_zero]
 rw [zt]
 refine c7.is 0 _ rfl ?_ (by rw [List.length_take,List.length_drop];omega)
 have sP:(d.drop a).take b=(d.drop a).take (min b (d.drop a).length):=List.take_eq_take_iff.2 (by omega)
 rw [sP]
def M9(v:af.D)(c:aJ.D)(x:aG.D)(a:Option (aV.D×aI.D×Unit))(b:Option (af.D×aV.D×Unit))(Q:af.D→Prop):Prop :=
 ∃(k:Int) (t:aF) (w:af.D),a=some ((k,t,()),(w,c,x,()),())∧b=some (cond (k==0) w v,(k,t,()),())∧(k=0→Q w)∧t.length≤1000∧(k=0∨t=[])
theorem bq.up{v:af.D}{c:aJ.D}{x:aG.D}{a:Option (Int×aI.D×Unit)}{b:Option (af.D×aV.D×Unit)}{Q Q':af.D→Prop}(h:bq v c x a b Q)(mY:∀w,Q w→Q' w) :
  M9 v c x (a.bind fun v1=>(eO (v1.1,())).bind fun v2=>some (v2.1,v1.2.1,())) (b.bind fun v2=>some (v2.1,v2.2.1,())) Q':=by
 obtain ⟨k,w,rfl,rfl,hq⟩:=h
 exact⟨k,[],w,rfl,rfl,fun h0=>mY w (hq h0),by simp,.inr rfl⟩
theorem c7.up{v:af.D}{c:aJ.D}{x:aG.D}{a:Option (aV.D×aI.D×Unit)}{b:Option (aV.D×Unit)}{Q':af.D→Prop}(h:c7 v c x a b)(mY:Q' v) :
  M9 v c x (a.bind fun v1=>some (v1.1,v1.2.1,())) (b.bind fun v2=>some (v,v2.1,())) Q':=by
 obtain ⟨⟨k,t,⟨⟩⟩,rfl,rfl,hl,h0⟩:=h
 exact⟨k,t,v,rfl,by cases k==0 <;> rfl,fun _=>mY,hl,h0⟩
def ov(v:af.D)(c:aJ.D)(x:aG.D)(w:af.D):Prop :=
 ((aA x=1∨aA x=3∨aA x=10)∧Made v c x w)∨((aA x=2∨aA x=8)∧zR v c x w)∨(aA x=9∧FR v c x w)∨(aA x=12∧w7 v c x w)∨((aA x=5∨aA x=6∨aA x=7)∧w8 v c x w) ∨
  (aA x=15∧zY v c x w)∨(aA x=16∧zZ v c x w)∨(aA x=19∧F3 v c x w)∨((aA x=4∨aA x=11∨aA x=13∨aA x=14∨aA x=17∨aA x=18∨aA x=20)∧w=v)
noncomputable def M_(v:af.D)(c:aJ.D)(x:aG.D):Option (af.D×aV.D×Unit) :=
 if aA x=1∨aA x=3∨aA x=10 then(tF (v,c,x,())).bind fun v2=>some (v2.1,v2.2.1,())
 else if aA x=2∨aA x=8 then(yI (v,c,x,())).bind fun v2=>some (v2.1,v2.2.1,())
 else if aA x=9 then(CB (v,c,x,())).bind fun v2=>some (v2.1,v2.2.1,())
 else if aA x=12 then(CG (v,c,x,())).bind fun v2=>some (v2.1,v2.2.1,())
 else if aA x=5∨aA x=6∨aA x=7 then(wm (v,c,x,())).bind fun v2=>some (v2.1,v2.2.1,())
 else if aA x=15∨aA x=16∨aA x=19 then(rJ (v,c,x,())).bind fun v2=>some (v2.1,v2.2.1,())
 else(lx (v,c,x,())).bind fun v2=>some (v,v2.1,())
theorem ahN(v:af.D)(c:aJ.D)(x:aG.D)(hx:ij x)(iO:aA x≤20):m6 (v,c,x,())=M_ v c x:=by
 obtain ⟨q,hq,_⟩:=i_ 4
 show rN (yP aP) v c x=_
 unfold rN
 rw [hq,L4,w5.2 hx]
 simp only [av,Bool.not_true,cond_false]
 rw [decide_eq_false (show ¬x.1>20 from Int.not_lt.2 iO)]
 simp only [cond_false]
 have hk:=hx.da
 obtain ⟨da,rest⟩:=x
 have:aA (da,rest)=1∨aA (da,rest)=2∨aA (da,rest)=3∨aA (da,rest)=4∨aA (da,rest)=5∨aA (da,rest)=6∨aA (da,rest)=7∨aA (da,rest)=8∨aA (da,rest)=9∨aA (da,rest)=10∨aA (da,rest)=11∨aA (da,rest)=12∨aA (da,rest)=13∨aA (da,rest)=14∨aA (da,rest)=15∨aA (da,rest)=16∨aA (da,rest)=17∨aA (da,rest)=18∨aA (da,rest)=19∨aA (da,rest)=20:=by omega
 clear hx hk iO
 unfold M_
 rcases this with h | h | h | h | h | h | h | h | h | h | h | h | h | h | h | h | h | h | h | h <;>(replace h:da=_:=h;subst h;rfl)
noncomputable def M'(v:af.D)(c:aJ.D)(x:aG.D):Option (aV.D×aI.D×Unit) :=
 if aA x=1∨aA x=3∨aA x=10 then(y8 ((v,c,x,()),())).bind fun v1=>(eO (v1.1,())).bind fun v2=>some (v2.1,v1.2.1,())
 else if aA x=2∨aA x=8 then(D' ((v,c,x,()),())).bind fun v1=>(eO (v1.1,())).bind fun v2=>some (v2.1,v1.2.1,())
 else if aA x=9 then(Ea ((v,c,x,()),())).bind fun v1=>(eO (v1.1,())).bind fun v2=>some (v2.1,v1.2.1,())
 else if aA x=12 then(Ed ((v,c,x,()),())).bind fun v1=>(eO (v1.1,())).bind fun v2=>some (v2.1,v1.2.1,())
 else if aA x=5∨aA x=6∨aA x=7 then(Eh ((v,c,x,()),())).bind fun v1=>(eO (v1.1,())).bind fun v2=>some (v2.1,v1.2.1,())
 else if aA x=15 then(Ew ((v,c,x,()),())).bind fun v1=>(eO (v1.1,())).bind fun v2=>some (v2.1,v1.2.1,())
 else if aA x=16 then(Ez ((v,c,x,()),())).bind fun v1=>(eO (v1.1,())).bind fun v2=>some (v2.1,v1.2.1,())
 else if aA x=19 then(EC ((v,c,x,()),())).bind fun v1=>(eO (v1.1,())).bind fun v2=>some (v2.1,v1.2.1,())
 else if aA x=4 then(Ee ((v,c,x,()),())).bind fun v1=>some (v1.1,v1.2.1,())
 else if aA x=11 then(Ei ((v,c,x,()),())).bind fun v1=>some (v1.1,v1.2.1,())
 else if aA x=13∨aA x=20 then(zb ((v,c,x,()),())).bind fun v1=>some (v1.1,v1.2.1,())
 else if aA x=14 then(Et ((v,c,x,()),())).bind fun v1=>some (v1.1,v1.2.1,())
 else if aA x=17 then(Option.bind (EA ((v,c,x,()),())) fun v6=>Option.bind (eO (v6.1,())) fun bt=>some (bt.1,v6.2.1,()))
 else(Option.bind (rS (v,())) fun dw=>Option.bind (qt ([(v.2.1.length:Int),dw.1],())) fun v9=>some ((0,v9.1,()),(v,c,x,()),()))
theorem ahO(v:af.D)(c:aJ.D)(x:aG.D)(hx:ij x)(iO:aA x≤20):EE ((v,c,x,()),())=M' v c x:=by
 obtain ⟨q,hq,_⟩:=i_ 8
 show ED (K1 aP) (v,c,x,())=_
 unfold ED
 rw [hq]
 have hk:=hx.da
 obtain ⟨da,rest⟩:=x
 have:aA (da,rest)=1∨aA (da,rest)=2∨aA (da,rest)=3∨aA (da,rest)=4∨aA (da,rest)=5∨aA (da,rest)=6∨aA (da,rest)=7∨aA (da,rest)=8∨aA (da,rest)=9∨aA (da,rest)=10∨aA (da,rest)=11∨aA (da,rest)=12∨aA (da,rest)=13∨aA (da,rest)=14∨aA (da,rest)=15∨aA (da,rest)=16∨aA (da,rest)=17∨aA (da,rest)=18∨aA (da,rest)=19∨aA (da,rest)=20:=by omega
 clear hx hk iO
 unfold M'
 rcases this with h | h | h | h | h | h | h | h | h | h | h | h | h | h | h | h | h | h | h | h <;>(replace h:da=_:=h;subst h;rfl)
theorem V2(a:Option (aV.D×aI.D×Unit)):(a.bind fun v1=>some (v1.1,v1.2.1,()))=a:=by
 cases a with
 | none=>rfl
 | some r=>rfl
theorem V3(v:af.D)(c:aJ.D)(x:aG.D)(hv:bI v)(hc:df c=true)(hx:ij x)(iO:aA x≤20):M9 v c x (EE ((v,c,x,()),())) (m6 (v,c,x,())) (ov v c x):=by
 rw [ahO v c x hx iO,ahN v c x hx iO]
 have hk:=hx.da
 unfold M' M_
 by_cases h1:aA x=1∨aA x=3∨aA x=10
 ·rw [if_pos h1,if_pos h1]
  exact(agf v c x hv hc hx).up fun w h=>.inl ⟨h1,h⟩
 rw [if_neg h1,if_neg h1]
 by_cases h2:aA x=2∨aA x=8
 ·rw [if_pos h2,if_pos h2]
  exact(agq v c x hv hc hx h2).up fun w h=>.inr (.inl ⟨h2,h⟩)
 rw [if_neg h2,if_neg h2]
 by_cases h3:aA x=9
 ·rw [if_pos h3,if_pos h3]
  exact(agu v c x hv hc hx).up fun w h=>.inr (.inr (.inl ⟨h3,h⟩))
 rw [if_neg h3,if_neg h3]
 by_cases h4:aA x=12
 ·rw [if_pos h4,if_pos h4]
  exact(agV v c x hv hc hx).up fun w h=>.inr (.inr (.inr (.inl ⟨h4,h⟩)))
 rw [if_neg h4,if_neg h4]
 by_cases aZ:aA x=5∨aA x=6∨aA x=7
 ·rw [if_pos aZ,if_pos aZ]
  exact(ahd v c x hv hc hx aZ).up fun w h=>.inr (.inr (.inr (.inr (.inl ⟨aZ,h⟩))))
 rw [if_neg aZ,if_neg aZ]
 by_cases bd:aA x=15
 ·rw [if_pos bd,if_pos (.inl bd)]
  exact(ahn v c x hv hc hx bd).up fun w h=>.inr (.inr (.inr (.inr (.inr (.inl ⟨bd,h⟩)))))
 rw [if_neg bd]
 by_cases bC:aA x=16
 ·rw [if_pos bC,if_pos (.inr (.inl bC))]
  exact(aho v c x hv hc hx bC).up fun w h=>.inr (.inr (.inr (.inr (.inr (.inr (.inl ⟨bC,h⟩))))))
 rw [if_neg bC]
 by_cases cU:aA x=19
 ·rw [if_pos cU,if_pos (.inr (.inr cU))]
  exact(ahq v c x hv hc hx cU).up fun w h=>.inr (.inr (.inr (.inr (.inr (.inr (.inr (.inl ⟨cU,h⟩)))))))
 rw [if_neg cU,if_neg (show ¬(aA x=15∨aA x=16∨aA x=19) by omega)]
 have mY:ov v c x v:=.inr (.inr (.inr (.inr (.inr (.inr (.inr (.inr ⟨by omega,rfl⟩)))))))
 by_cases jo:aA x=4
 ·rw [if_pos jo]
  exact(ahM v c x hv hc hx jo).up mY
 rw [if_neg jo]
 by_cases jL:aA x=11
 ·rw [if_pos jL]
  exact(ahB v c x hv hc hx jL).up mY
 rw [if_neg jL]
 by_cases xM:aA x=13∨aA x=20
 ·rw [if_pos xM]
  exact(ahK v c x hv hc hx xM).up mY
 rw [if_neg xM]
 by_cases ld:aA x=14
 ·rw [if_pos ld]
  exact(ahF v c x hv hc hx ld).up mY
 rw [if_neg ld]
 by_cases vB:aA x=17
 ·rw [if_pos vB]
  have:=(ahC v c x hv hc hx vB).up (Q':=ov v c x) mY
  rwa [V2] at this
 rw [if_neg vB]
 have:=(ahE v c x hv (by omega)).up (Q':=ov v c x) mY
 rwa [V2] at this
theorem bI.V4{v:af.D}(h:bI v):lu (v,())=some (v,()):=uK v h.iM.len fun i hi=>Nat.le_trans (fM hi) h.iM.cJ
theorem bI.ahP{v:af.D}(h:bI v):rT (v,())=some (v,()):=afu v h.iM.len fun i hi=>Nat.le_trans (fM hi) h.iM.cJ
structure qP(v:af.D)(c:aJ.D)(x:aG.D)(w:af.D)(k:Int)(t:aF):Prop where
 bad:jd v=false→w=(0,[],())∧k=22∧t=[]
 F8:jd v=true→df c=false→w=v∧k=22∧t=[]
 call:jd v=true→df c=true→(jU x=false∨20<aA x)→w=v∧k=22∧t=[]
 no:jd v=true→k≠0→w=v
 len:t.length≤1000
 data:k=0∨t=[]
 done:jd v=true→df c=true→jU x=true→aA x≤20→k=0→ov v c x w
theorem ahQ(v:af.D)(c:aJ.D)(x:aG.D)(hv:uJ v):∃w k t,aa2 (v,c,x,())=some (w,(k,t,()),())∧K4 (v,c,x,())=some (w,(k,t,()),())∧qP v c x w k t:=by
 show ∃w k t,K' v c x=_∧K3 v c x=_∧_
 unfold K' K3
 rw [Ml v hv,Fm v hv]
 simp only [av]
 cases b9:jd v with
 | false=>exact⟨(0,[],()),22,[],rfl,rfl,fun _=>⟨rfl,rfl,rfl⟩,fun h=>by simp [b9] at h,fun h=>by simp [b9] at h,fun h=>by simp [b9] at h,by simp,.inr rfl,fun h=>by simp [b9] at h⟩
 | true =>
 have dt:=pq.1 b9
 simp only [Bool.not_true,cond_false]
 have ahR:(Option.bind (K2 (v,c,x,())) fun v3=>some (v3.1,v3.2.1,()))=zc v c x:=by
  show(Option.bind (zc v c x) fun v3=>some (v3.1,v3.2.1,()))=_
  cases zc v c x <;> rfl
 rw [ahR]
 unfold zc
 rw [Fo,Fp,aeW,dt.ahP,dt.V4]
 simp only [av]
 cases hc:df c with
 | false=>exact⟨v,22,[],rfl,rfl,fun h=>by simp [b9] at h,fun _ _=>⟨rfl,rfl,rfl⟩,fun _ h=>by simp [hc] at h,fun _ _=>rfl,by simp,.inr rfl,fun _ h=>by simp [hc] at h⟩
 | true =>
 simp only [Bool.not_true,cond_false]
 have ahS:∀A:Option (af.D×aV.D×Unit),both (both (Option.bind A fun v5=>dup (some (v5.1,v5.2.1,()))) (dup (dup (Option.bind A fun v5=>some (v5.1,v5.2.1,()))))) (dup (both (dup (Option.bind A fun v5=>some (v5.1,v5.2.1,()))) (Option.bind A fun v5=>some (v5.1,v5.2.1,()))))=A:=by
  intro A
  simp only [o0,IT]
  cases A <;> rfl
 rw [ahS]
 have bad:jU x=false∨20<aA x→m6 (v,c,x,())=some (v,(22,[],()),()):=by
  intro h
  show rN (yP aP) v c x=_
  unfold rN
  rw [L4]
  simp only [av]
  cases hcall:jU x with
  | false=>rfl
  | true =>
   rcases h with h | h
   ·rw [hcall] at h;cases h
   ·simp only [Bool.not_true,cond_false]
    rw [decide_eq_true (show x.1>20 from h)];rfl
 cases hcall:jU x with
 | false =>
  rw [bad (.inl hcall)]
  exact⟨v,22,[],rfl,rfl,fun h=>by simp [b9] at h,fun _ h=>by simp [hc] at h,fun _ _ _=>⟨rfl,rfl,rfl⟩,fun _ _=>rfl,by simp,.inr rfl,fun _ _ h=>by simp [hcall] at h⟩
 | true =>
 have hx:=w5.1 hcall
 simp only [Bool.not_true,cond_false]
 by_cases iO:aA x≤20
 case neg =>
  rw [bad (.inr (by omega)),decide_eq_true (show x.1>20 from Int.not_le.1 iO)]
  exact⟨v,22,[],rfl,rfl,fun h=>by simp [b9] at h,fun _ h=>by simp [hc] at h,fun _ _ _=>⟨rfl,rfl,rfl⟩,fun _ _=>rfl,by simp,.inr rfl,fun _ _ _ h=>absurd h iO⟩
 rw [decide_eq_false (show ¬x.1>20 from Int.not_lt.2 iO)]
 simp only [cond_false]
 obtain ⟨k,t,w,h1,h2,h3,h4,aZ⟩:=V3 v c x dt hc hx iO
 rw [h1,h2]
 simp only [av]
 refine⟨cond (k==0) w v,k,t,rfl,?_,fun h=>by simp [b9] at h,fun _ h=>by simp [hc] at h,fun _ _ h=>?_,fun _ h=>by rw [bG h];rfl,h4,aZ,fun _ _ _ _ h0=>by rw [cB h0];exact h3 h0⟩
 ·by_cases h0:k=0
  ·rw [dH h0,cB h0];rfl
  ·rw [c0 h0,bG h0];rfl
 ·rcases h with h | h
  ·simp [hcall] at h
  ·omega
structure fw(n:Nat)(x:aK):Prop where
 fy:(bN x).length≤200
 cJ:(ak x).length≤n
 each:∀d,d∈ak x→d.1.length≤8
structure eQ(n:Nat)(l:List aK):Prop where
 len:l.length≤n
 po:∀x,x∈l→fw n x
theorem fw.mono{n m:Nat}{x:aK}(h:fw n x)(hm:n≤m):fw m x:=⟨h.fy,Nat.le_trans h.cJ hm,h.each⟩
theorem eQ.mono{n m:Nat}{l:List aK}(h:eQ n l)(hm:n≤m):eQ m l:=⟨Nat.le_trans h.len hm,fun x hx=>(h.po x hx).mono hm⟩
theorem eQ.get{n:Nat}{l:List aK}(h:eQ n l){i:Nat}(hi:i<l.length):fw n (J I l i):=h.po _ (cI hi)
theorem eQ.set{n:Nat}{l:List aK}(h:eQ n l)(i:Nat){y:aK}(aM:fw n y):eQ n (l.set i y):=⟨by rw [List.length_set];exact h.len,fun x hx=>by
 rcases List.mem_or_eq_of_mem_set hx with hx | rfl
 ·exact h.po x hx
 ·exact aM⟩
theorem eQ.go{n:Nat}{l:List aK}(h:eQ n l)(id:Int):eQ n (goN l id):=by
 unfold goN
 cases decide (cg l id=0)
 ·exact h
 ·exact⟨Nat.le_trans (List.length_filter_le _ _) h.len,fun x hx=>h.po x (List.mem_filter.1 hx).1⟩
theorem eQ.app{n:Nat}{l:List aK}(h:eQ n l){y:aK}(aM:fw n y):eQ (n+1) (l++[y]):=⟨by simp only [List.length_append,List.length_singleton];have:=h.len;omega,fun x hx=>by
 rcases List.mem_append.1 hx with hx | hx
 ·exact(h.po x hx).mono (by omega)
 ·rw [List.mem_singleton.1 hx];exact aM.mono (by omega)⟩
theorem fw.ins{n:Nat}{x:aK}(h:fw n x){s:aF}(hs:s.length≤8)(id:Int):fw (n+1) (b1 x (ins (ak x) s id)):=⟨h.fy,by
 show(kb.ins (ak x) s id).length≤_
 rw [w4];have:=h.cJ;omega,fun d ag=>by
 rcases qK.1 ag with ag | rfl
 ·exact h.each d ag
 ·exact hs⟩
theorem fw.un{n:Nat}{x:aK}(h:fw n x)(s:aF):fw n (b1 x (ca (ak x) s)):=⟨h.fy,Nat.le_trans (uO _ _) h.cJ,fun d ag=>h.each d (se ag)⟩
theorem V5{v:af.D}{n:Nat}(h:eQ n v.2.1):ad.cost af v≤n+n*(200+9*n):=by
 rw [Mk]
 have h1:=F7 qE (200+9*n) v.2.1 fun x hx=>by
  have au:=h.po x hx
  have h2:=F7 (fun d:aw.D=>ad.cost aw d) 8 (ak x) fun d ag=>by
   rw [Uy];exact au.each d ag
  unfold qE
  rw [Fk,T3]
  have:=au.fy
  have:=au.cJ
  omega
 have h3:v.2.1.length*(200+9*n)≤n*(200+9*n):=Nat.mul_le_mul_right _ h.len
 have:=h.len
 omega
theorem bI.sz{v:af.D}(h:bI v):eQ 24 v.2.1:=by
 refine⟨h.len.2,fun x hx=>?_⟩
 obtain ⟨i,hi,rfl⟩:=fg hx
 have bP:=h.ino i hi
 refine⟨by have:=h.fy hi;omega,?_,fun d ag=>F6 (bP.names d ag).1⟩
 by_cases hk:kindOf (J I v.2.1 i)=2
 ·have:=(bP.dir hk).2.2.2;omega
 ·rw [(bP.plain hk).2.2];simp
theorem Na{l:List aK}{r:aW.D}(h:lB l r)(hn:nameOf r≠[])(hc:bM r=0∨bM r=2):(nameOf r).length≤8:=by
 rcases hc with hc | hc
 ·exact F6 (h.named hc hn).2.1
 ·exact F6 (h.new hc hn).2.1
theorem V6{v:af.D}{n:Nat}(h:eQ n v.2.1){i:Nat}(hi:i<v.2.1.length)(s:aF):eQ n (kk v i s).2.1:=(h.set i ((h.get hi).un s)).go _
theorem ahT{l:List aK}{n:Nat}(h:eQ n l){ir it:Nat}(hr:ir<l.length)(ht:it<l.length)(cr:aF){dS:aF}(hs:dS.length≤8)(id:Int):eQ (n+1) (eI l ir cr it dS id):=by
 have h1:eQ n (dy l ir cr):=h.set ir ((h.get hr).un cr)
 refine(h1.mono (by omega)).set it (fw.ins (n:=n) (h1.get ?_) hs id)
 unfold dy
 rw [List.length_set];exact ht
theorem ahU(s:aF)(a:Nat)(d:aF)(hs:s.length≤64)(h:a+d.length≤64):(kO s a d).length≤200:=by
 unfold kO
 rw [List.length_append,List.length_append,pC,List.length_drop];omega
theorem ov.sz{v:af.D}{c:aJ.D}{x:aG.D}{w:af.D}(hv:bI v)(hx:ij x)(h:ov v c x w):eQ 30 w.2.1:=by
 have jB:=hv.sz
 rcases h with⟨_,h⟩ | ⟨_,h⟩ | ⟨_,h⟩ | ⟨_,h⟩ | ⟨_,h⟩ | ⟨_,h⟩ | ⟨_,h⟩ | ⟨_,h⟩ | ⟨_,h⟩
 ·obtain ⟨r,i,hr,hc,hn,hi,_,_,_,_,_,rfl,_⟩:=h.out
  have bJ:=(bX hi).1
  have:=hx.sd
  have h1:eQ 25 (v.2.1.set i (b1 (J I v.2.1 i) (ins (ak (J I v.2.1 i)) (nameOf r) v.1))):=(jB.mono (by omega)).set i ((jB.get bJ).ins (Na hr hn (.inr hc)) _)
  refine(h1.app (y:=gj v c x (J I v.2.1 i)) ⟨?_,by simp [gj,ak],by simp [gj,ak]⟩).mono (by omega)
  show(if aA x=10 then iL x else []).length≤200
  split
  ·omega
  ·simp
 ·obtain ⟨r,i,j,_,_,_,hi,_,_,_,_,_,_,rfl⟩:=h.out
  exact(V6 jB (bX hi).1 _).mono (by omega)
 ·obtain ⟨r,t,i,j,_,_,_,_,ht,qM,htn,hi,_,_,rfl,_⟩:=h.out
  exact((jB.mono (by omega)).set i ((jB.get (bX hi).1).ins (Na ht htn (.inr qM)) _)).mono (by omega)
 ·obtain ⟨r,t,j,hr,hc,hn,hj,ht,htn,qM,_,h⟩:=h.out
  rcases h with⟨_,rfl⟩ | ⟨_,_,l,ir,it,au,rfl,_,h⟩
  ·exact jB.mono (by omega)
  ·have hl:eQ 24 l:=by
    rcases h with⟨_,rfl,_⟩ | ⟨i2,eN,fV,_,_,_,_,_,rfl⟩
    ·exact jB
    ·exact V6 jB (bX fV).1 _
   exact(ahT hl (bX au.hr).1 (bX au.ht).1 _ (Na ht htn qM) _).mono (by omega)
 ·obtain ⟨r,i,hr,hc,hi,_,_,_,ha,h⟩:=h.out
  rcases h with⟨_,_,rfl⟩ | ⟨_,hle,rfl,_⟩
  ·exact jB.mono (by omega)
  ·have au:=jB.get (bX hi).1
   refine(jB.mono (by omega)).set i ⟨?_,by have:=au.cJ;exact Nat.le_trans this (by omega),au.each⟩
   show(ik x (J I v.2.1 i)).length≤200
   have ag:=hv.fy (bX hi).1
   unfold ik
   split
   ·rename_i bC
    rw [pC]
    have:eh x (J I v.2.1 i)=bR x:=by unfold eh;rw [if_neg (by omega)]
    omega
   ·exact ahU _ _ _ ag (by omega)
 ·obtain ⟨_,_,r,i,_,_,hi,_,_,rfl⟩:=h.out
  have au:=jB.get (bX hi).1
  exact(jB.mono (by omega)).set i ⟨au.fy,Nat.le_trans au.cJ (by omega),au.each⟩
 ·obtain ⟨_,_,r,i,_,_,hi,rfl⟩:=h.out
  have au:=jB.get (bX hi).1
  exact(jB.mono (by omega)).set i ⟨au.fy,Nat.le_trans au.cJ (by omega),au.each⟩
 ·obtain ⟨_,_,_,r,i,_,_,hi,_,rfl,_⟩:=h.out
  have au:=jB.get (bX hi).1
  exact(jB.mono (by omega)).set i ⟨au.fy,Nat.le_trans au.cJ (by omega),au.each⟩
 ·rw [h];exact jB.mono (by omega)
theorem qP.cost{v:af.D}{c:aJ.D}{x:aG.D}{w:af.D}{k:Int}{t:aF}(h:qP v c x w k t)(hv:ad.cost af v≤1048576):ad.cost af w≤1048576:=by
 have h0:w=v→ad.cost af w≤1048576:=fun e=>by rw [e];exact hv
 cases b9:jd v with
 | false=>rw [(h.bad b9).1,Mk];simp
 | true =>
 cases hc:df c with
 | false=>exact h0 (h.F8 b9 hc).1
 | true =>
 cases hcall:jU x with
 | false=>exact h0 (h.call b9 hc (.inl hcall)).1
 | true =>
 by_cases iO:20<aA x
 ·exact h0 (h.call b9 hc (.inr iO)).1
 by_cases hk:k=0
 ·have:=V5 ((h.done b9 hc hcall (by omega) hk).sz (pq.1 b9) (w5.1 hcall))
  omega
 ·exact h0 (h.no b9 hk)
structure ahV(n:Int)(l:List aK):Prop where
 next:2≤n∧n≤100000
 len:l.length≤24
 j2:l.Pairwise fun a b=>a7 a<a7 b
 root:∃x,x∈l∧a7 x=1∧kindOf x=2
 ids:∀x,x∈l→1≤a7 x∧a7 x≤n-1
 ino:∀x,x∈l→kN l x
 reach:∀x,x∈l→a7 x≠1→dL l 1 (a7 x)
 once:∀x,x∈l→a7 x≠1→kindOf x=2→cg l (a7 x)=1
 bytes:bytesOf l≤400
 over:f' l=false
theorem ahW{l:List aK}(h:l.Pairwise fun a b=>a7 a<a7 b):zH l:=h.imp fun h=>by omega
theorem kR{l:List aK}(h:l.Pairwise fun a b=>a7 a<a7 b):hR l:=zI.2 (ahW h)
theorem F9{l:List aK}(h:l.Pairwise fun a b=>a7 a<a7 b){i j:Nat}(il:i<j)(hj:j<l.length):a7 (J I l i)<a7 (J I l j):=by
 rw [c6 (by omega),c6 hj]
 exact List.pairwise_iff_getElem.1 h i j (by omega) hj il
theorem V7{l:List aK}(h:∀i,i+1<l.length→a7 (J I l i)<a7 (J I l (i+1))):l.Pairwise fun a b=>a7 a<a7 b:=by
 have cw:∀d j,j+d+1<l.length→a7 (J I l j)<a7 (J I l (j+d+1)):=by
  intro d
  induction d with
  | zero=>intro j hj;exact h j hj
  | succ d ih=>intro j hj;exact Int.lt_trans (ih j (by omega)) (h (j+d+1) hj)
 rw [List.pairwise_iff_getElem]
 intro i j hi hj il
 have:=cw (j-i-1) i (by omega)
 rw [show i +(j-i-1)+1=j by omega,c6 hi,c6 hj] at this
 exact this
theorem mx{v:af.D} : bI v↔ahV (et v) v.2.1:=by
 constructor
 ·intro h
  have h0:0<v.2.1.length:=by have:=h.len;omega
  have b5:∀i,i<v.2.1.length→a7 (J I v.2.1 i)≠1→1≤i:=by
   intro i hi hne
   rcases Nat.eq_zero_or_pos i with h | h
   ·subst h;exact absurd (bI.root ‹_›).1 hne
   ·exact h
  refine⟨h.next,h.len.2,V7 h.Fz,⟨_,cI h0,h.root⟩,?_,?_,?_,?_,h.bytes,h.over⟩
  ·intro x hx;obtain ⟨i,hi,rfl⟩:=fg hx;exact h.ids i hi
  ·intro x hx;obtain ⟨i,hi,rfl⟩:=fg hx;exact h.ino i hi
  ·intro x hx hne;obtain ⟨i,hi,rfl⟩:=fg hx;exact h.reach i (b5 i hi hne) hi
  ·intro x hx hne hk;obtain ⟨i,hi,rfl⟩:=fg hx;exact h.once i (b5 i hi hne) hi hk
 ·intro h
  obtain ⟨x,hx,hx1,hx2⟩:=h.root
  obtain ⟨k,hk,rfl⟩:=fg hx
  have hk0:k=0:=by
   rcases Nat.eq_zero_or_pos k with h0 | h0
   ·exact h0
   ·have h1:=F9 h.j2 h0 hk
    have h2:=h.ids _ (cI (show 0<v.2.1.length by omega))
    omega
  subst hk0
  have hne:∀i,1≤i→i<v.2.1.length→a7 (J I v.2.1 i)≠1:=by
   intro i hi hl
   have:=F9 h.j2 (show 0<i by omega) hl
   omega
  exact⟨h.next,⟨by omega,h.len⟩,⟨hx1,hx2⟩,fun i hi=>h.ids _ (cI hi),fun i hi=>F9 h.j2 (Nat.lt_succ_self i) hi,fun i hi=>h.ino _ (cI hi),fun i h1 hi=>h.reach _ (cI hi) (hne i h1 hi),fun i h1 hi hk=>h.once _ (cI hi) (hne i h1 hi) hk,h.bytes,h.over⟩
theorem hU{l:List aK}(ag:hR l){a b:Int} : E l a b↔∃x,x∈l∧a7 x=a∧∃d,d∈ak x∧d.2.1=b:=by
 constructor
 ·rintro ⟨i,d,hi,hm,he⟩
  exact⟨J I l i,cI (bX hi).1,(bX hi).2,d,hm,he⟩
 ·rintro ⟨x,hx,rfl,d,hm,he⟩
  obtain ⟨i,hi,rfl⟩:=fg hx
  exact⟨i,d,ag i hi,hm,he⟩
theorem xa{l l':List aK}(h:∀a b,E l a b→E l' a b){a b:Int}(hb:dL l a b):dL l' a b:=by
 induction hb with
 | single h1=>exact .single (h _ _ h1)
 | tail _ h1 ih=>exact .tail ih (h _ _ h1)
theorem kN.to{l l':List aK}{x:aK}(h:kN l x)(hn:∀d,d∈ak x→(bj l d.2.1).isSome=true→(bj l' d.2.1).isSome=true):kN l' x :=
 ⟨h.mode,h.uid,h.gid,h.kind,h.plain,h.file,h.mr,h.dir,fun d ag=>⟨(h.names d ag).1,(h.names d ag).2.1,hn d ag (h.names d ag).2.2⟩,h.sorted⟩
theorem mem_set{l:List aK}(ag:hR l){i:Nat}(hi:i<l.length){y:aK}(aM:a7 y=a7 (J I l i)){x:aK} : x∈l.set i y↔x=y∨(x∈l∧a7 x≠a7 y):=by
 constructor
 ·intro hx
  obtain ⟨j,hj,rfl⟩:=fg hx
  rw [List.length_set] at hj
  rw [iK hi]
  split
  ·exact .inl rfl
  ·rename_i il
   refine .inr ⟨cI hj,fun he=>il ?_⟩
   have h1:=ag i hi
   have h2:=ag j hj
   have:(J I l j).1=(J I l i).1:=(show a7 (J I l j)=a7 (J I l i) by rw [he,aM])
   rw [this,h1] at h2
   exact aU h2
 ·rintro (rfl | ⟨hx,hne⟩)
  ·exact List.mem_iff_getElem.2 ⟨i,by rw [List.length_set];exact hi,by rw [List.getElem_set_self]⟩
  ·obtain ⟨j,hj,rfl⟩:=fg hx
   have il:i≠j:=fun h=>hne (by subst h;exact aM.symm)
   have:J I (l.set i y) j=J I l j:=by rw [iK hi,if_neg il]
   rw [← this]
   exact cI (by rw [List.length_set];exact hj)
theorem uV{l:List aK}(h:l.Pairwise fun a b=>a7 a<a7 b){i:Nat}(hi:i<l.length){y:aK}(aM:a7 y=a7 (J I l i)):(l.set i y).Pairwise fun a b=>a7 a<a7 b:=by
 refine V7 fun j hj=>?_
 rw [List.length_set] at hj
 have key:∀k,a7 (J I (l.set i y) k)=a7 (J I l k):=by
  intro k
  rw [iK hi]
  split
  ·rename_i h;subst h;exact aM
  ·rfl
 rw [key,key]
 exact F9 h (Nat.lt_succ_self j) hj
theorem F_{l:List aK}{i:Nat}{y:aK}(hi:i<l.length)(b:Int):cg (l.set i y) b+dm (ak (J I l i)) b=cg l b+dm (ak y) b:=by
 unfold cg
 induction l generalizing i with
 | nil=>simp at hi
 | cons z l ih =>
  cases i with
  | zero =>
   simp only [List.set_cons_zero,List.map_cons,List.sum_cons]
   rw [show J I (z :: l) 0=z from rfl];omega
  | succ i =>
   simp only [List.set_cons_succ,List.map_cons,List.sum_cons]
   have:=ih (i:=i) (by simpa using hi)
   rw [show J I (z :: l) (i+1)=J I l i from rfl];omega
theorem ahX(l:List aK)(n:aK)(b:Int):cg (l++[n]) b=cg l b+dm (ak n) b:=by
 unfold cg
 rw [List.map_append,List.sum_append_nat];simp
theorem xb(N M:List aw.D)(b:Int):dm (N++M) b=dm N b+dm M b:=by
 unfold dm
 rw [List.filter_append,List.length_append]
theorem V8(s:aF)(id b:Int):dm [((s,id,()):aw.D)] b=cond (id==b) 1 0:=by
 unfold dm
 rw [List.filter_cons]
 cases h:(((s,id,()):aw.D).2.1==b)
 ·rfl
 ·rfl
theorem ahY(N:List aw.D)(s:aF)(id b:Int):dm (ins N s id) b=dm N b+cond (id==b) 1 0:=by
 unfold ins
 rw [xb,xb,V8]
 have:dm N b=dm (N.takeWhile (dR s)) b+dm (N.dropWhile (dR s)) b:=by rw [← xb,List.takeWhile_append_dropWhile]
 omega
theorem ahZ{N:List aw.D}{b:Int}(h:∀d,d∈N→d.2.1≠b):dm N b=0:=by
 unfold dm
 rw [List.filter_eq_nil_iff.2 fun d ag=>by rw [beq_iff_eq];exact h d ag];rfl
theorem V9{l:List aK}{b:Int}(h:∀x,x∈l→∀d,d∈ak x→d.2.1≠b):cg l b=0:=by
 unfold cg
 exact MK fun x hx=>ahZ (h x hx)
theorem ah0{l:List aK}(hx:qC l){b:Int}(h:bj l b=none):cg l b=0:=by
 refine V9 fun x ah1 d ag he=>?_
 obtain ⟨i,hi,rfl⟩:=fg ah1
 have:=hx i hi d ag
 rw [he,h] at this
 cases this
theorem Nb:∀ {N:List aw.D},iJ N→∀ {d:aw.D},d∈N→∀b:Int,dm (ca N d.1) b+cond (d.2.1==b) 1 0=dm N b
 | [],_,d,ag,_=>by cases ag
 | x :: N,hs,d,ag,b=>by
  have h1:=List.pairwise_cons.1 hs
  rcases List.mem_cons.1 ag with rfl | ag
  ·have e:ca (d :: N) d.1=N:=by
    unfold ca
    rw [List.filter_cons,show(!bu d.1 d.1)=false by unfold bu;simp]
    simp only [Bool.false_eq_true,if_false]
    refine List.filter_eq_self.2 fun y aM=>?_
    have:=Fx (h1.1 y aM)
    unfold bu
    simp only [Bool.not_eq_true',decide_eq_false_iff_not]
    exact fun e=>this e.symm
   rw [e]
   show _=dm ([d]++N) b
   rw [xb]
   have:dm [d] b=cond (d.2.1==b) 1 0:=V8 d.1 d.2.1 b
   omega
  ·have e:ca (x :: N) d.1=x :: ca N d.1:=by
    unfold ca
    rw [List.filter_cons,show(!bu x.1 d.1)=true by
     have:=Fx (h1.1 d ag)
     unfold bu;simp [this]]
    rfl
   have ih:=Nb h1.2 ag b
   rw [e]
   show dm ([x]++ca N d.1) b+_=dm ([x]++N) b
   rw [xb,xb]
   omega
theorem Ga{l:List aK} : e_ l=0↔bytesOf l≤400∧f' l=false:=by
 unfold e_
 by_cases h:(bytesOf l:Int)>400
 ·rw [decide_eq_true h]
  constructor
  ·intro h0;cases h0
  ·intro h0;omega
 ·rw [decide_eq_false h]
  cases f' l with
  | true =>
   constructor
   ·intro h0;cases h0
   ·intro h0;cases h0.2
  | false=>exact⟨fun _=>⟨by omega,rfl⟩,fun _=>rfl⟩
theorem bI.keep{v:af.D}(hv:bI v){i:Nat}(hi:i<v.2.1.length){y:aK}(h1:a7 y=a7 (J I v.2.1 i))(h2:kindOf y=kindOf (J I v.2.1 i))(h3:ak y=ak (J I v.2.1 i))(g_:kN v.2.1 y)
  (hf:e_ (v.2.1.set i y)=0):bI (v.1,v.2.1.set i y,()):=by
 have h:=mx.1 hv
 have ag:=kR h.j2
 have z7:∀id,bj (v.2.1.set i y) id=bj v.2.1 id:=fun id=>FK hi h1 id
 have h8:=uV h.j2 hi h1
 have hE:∀a b,E v.2.1 a b→E (v.2.1.set i y) a b:=by
  intro a b
  rw [hU ag,hU (kR h8)]
  rintro ⟨x,hx,ji,d,hH,z8⟩
  by_cases gO:a7 x=a7 y
  ·refine⟨y,(mem_set ag hi h1).2 (.inl rfl),by rw [← gO];exact ji,d,?_,z8⟩
   obtain ⟨j,hj,rfl⟩:=fg hx
   have e1:=ag i hi
   have e2:=ag j hj
   have:(J I v.2.1 j).1=(J I v.2.1 i).1:=(show a7 _=a7 _ by rw [gO,h1])
   rw [this,e1] at e2
   obtain rfl:=aU e2
   rw [h3];exact hH
  ·exact⟨x,(mem_set ag hi h1).2 (.inr ⟨hx,gO⟩),ji,d,hH,z8⟩
 have fI:∀a b,dL v.2.1 a b→dL (v.2.1.set i y) a b:=fun a b hb=>xa hE hb
 have jz:∀b,cg (v.2.1.set i y) b=cg v.2.1 b:=by
  intro b
  have:=F_ (y:=y) hi b
  rw [h3] at this
  omega
 have pE:=cI (t:=I) hi
 have ka:=Ga.1 hf
 refine mx.2 ⟨h.next,by rw [List.length_set];exact h.len,h8,?_,?_,?_,?_,?_,ka.1,ka.2⟩
 ·obtain ⟨x,hx,hx1,hx2⟩:=h.root
  by_cases gO:a7 x=a7 y
  ·refine⟨y,(mem_set ag hi h1).2 (.inl rfl),by rw [← gO];exact hx1,?_⟩
   obtain ⟨j,hj,rfl⟩:=fg hx
   have e1:=ag i hi
   have e2:=ag j hj
   have:(J I v.2.1 j).1=(J I v.2.1 i).1:=(show a7 _=a7 _ by rw [gO,h1])
   rw [this,e1] at e2
   obtain rfl:=aU e2
   rw [h2];exact hx2
  ·exact⟨x,(mem_set ag hi h1).2 (.inr ⟨hx,gO⟩),hx1,hx2⟩
 ·intro x hx
  rcases (mem_set ag hi h1).1 hx with rfl | ⟨hx,_⟩
  ·rw [h1];exact h.ids _ pE
  ·exact h.ids x hx
 ·intro x hx
  rcases (mem_set ag hi h1).1 hx with rfl | ⟨hx,_⟩
  ·exact g_.to fun d _ h=>by rw [z7];exact h
  ·exact(h.ino x hx).to fun d _ h=>by rw [z7];exact h
 ·intro x hx hne
  rcases (mem_set ag hi h1).1 hx with rfl | ⟨hx,_⟩
  ·rw [h1] at hne ⊢;exact fI _ _ (h.reach _ pE hne)
  ·exact fI _ _ (h.reach x hx hne)
 ·intro x hx hne hk
  rw [jz]
  rcases (mem_set ag hi h1).1 hx with rfl | ⟨hx,_⟩
  ·rw [h1] at hne ⊢;rw [h2] at hk;exact h.once _ pE hne hk
  ·exact h.once x hx hne hk
theorem bI.get{v:af.D}(h:bI v){x:aK}(hx:x∈v.2.1):kN v.2.1 x:=(mx.1 h).ino x hx
theorem my{l:List aK}(ag:hR l){x y:aK}(hx:x∈l)(aM:y∈l)(h:a7 x=a7 y):x=y:=by
 obtain ⟨i,hi,rfl⟩:=fg hx
 obtain ⟨j,hj,rfl⟩:=fg aM
 have e1:=ag i hi
 have e2:=ag j hj
 have:(J I l i).1=(J I l j).1:=h
 rw [this,e2] at e1
 rw [aU e1]
theorem kN.named{l l':List aK}{x:aK}(h:kN l x)(kt:∀id,(bj l id).isSome=true→(bj l' id).isSome=true)(hk:kindOf x=2){s:aF}{id:Int}(hs:hQ s=true)(h1:id≠1)(b5:(bj l' id).isSome=true)(hl:(ak x).length<12)(hn:∀d,d∈ak x→d.1≠s):kN l' (b1 x (ins (ak x) s id)) :=
 ⟨h.mode,h.uid,h.gid,h.kind,fun ed=>absurd hk ed,h.file,h.mr,fun ed=>⟨(h.dir ed).1,(h.dir ed).2.1,(h.dir ed).2.2.1,by
  show(ins (ak x) s id).length≤12
  rw [w4];omega⟩,fun d ag=>by
  rcases qK.1 ag with ag | rfl
  ·exact⟨(h.names d ag).1,(h.names d ag).2.1,kt _ (h.names d ag).2.2⟩
  ·exact⟨hs,h1,b5⟩,Vy h.sorted hn⟩
theorem Nc{l:List aK}(hr:l.Pairwise fun a b=>a7 a<a7 b){i:Nat}(hi:i<l.length)(s:aF)(id:Int) :
  (∀a b,E l a b→E (l.set i (b1 (J I l i) (ins (ak (J I l i)) s id))) a b)∧E (l.set i (b1 (J I l i) (ins (ak (J I l i)) s id))) (a7 (J I l i)) id:=by
 have ag:=kR hr
 have aM:a7 (b1 (J I l i) (ins (ak (J I l i)) s id))=a7 (J I l i):=sg _ _
 have iW:=kR (uV hr hi aM)
 have V_:b1 (J I l i) (ins (ak (J I l i)) s id)∈l.set i (b1 (J I l i) (ins (ak (J I l i)) s id)):=(mem_set ag hi aM).2 (.inl rfl)
 constructor
 ·intro a b
  rw [hU ag,hU iW]
  rintro ⟨x,hx,ji,d,hH,z8⟩
  by_cases gO:a7 x=a7 (J I l i)
  ·obtain rfl:=my ag hx (cI hi) gO
   exact⟨_,V_,aM.trans ji,d,qK.2 (.inl hH),z8⟩
  ·exact⟨x,(mem_set ag hi aM).2 (.inr ⟨hx,by rw [aM];exact gO⟩),ji,d,hH,z8⟩
 ·rw [hU iW]
  exact⟨_,V_,aM,(s,id,()),qK.2 (.inr rfl),rfl⟩
theorem Nd{l:List aK}{i:Nat}(hi:i<l.length)(s:aF)(id b:Int):cg (l.set i (b1 (J I l i) (ins (ak (J I l i)) s id))) b=cg l b+cond (id==b) 1 0:=by
 have h:=F_ (y:=b1 (J I l i) (ins (ak (J I l i)) s id)) hi b
 rw [jX,ahY] at h
 omega
theorem FR.ok{v:af.D}{c:aJ.D}{x:aG.D}{w:af.D}(hv:bI v)(hx:ij x)(h:FR v c x w):bI w:=by
 obtain ⟨r,t,i,j,hr,hc,hj,qD,ht,qM,htn,hi,hM,hl,rfl,hf⟩:=h.out
 have hm:=mx.1 hv
 have ag:=kR hm.j2
 have bJ:=(bX hi).1
 have hjl:=bX hj
 obtain ⟨ot,jz,d,fU,ia,Nf⟩:=ht.new qM htn
 obtain rfl:d=i:=aU (fU.symm.trans hi)
 have e4:=zM Nf fun e he=>hv.zN bJ he
 have x4:bp r≠1:=by
  intro h1
  obtain ⟨z,hz,iV,hz2⟩:=hm.root
  have:J I v.2.1 j=z:=my ag (cI hjl.1) hz (by rw [iV];exact hjl.2.trans h1)
  rw [this] at qD
  exact qD hz2
 have g_:=(hm.ino _ (cI bJ)).named (fun _ h=>h) hM jz x4 (by rw [hj];rfl) hl e4
 obtain ⟨hE,_⟩:=Nc hm.j2 bJ (nameOf t) (bp r)
 have aM:a7 (b1 (J I v.2.1 d) (ins (ak (J I v.2.1 d)) (nameOf t) (bp r)))=a7 (J I v.2.1 d):=sg _ _
 have z7:∀id,bj (v.2.1.set d (b1 (J I v.2.1 d) (ins (ak (J I v.2.1 d)) (nameOf t) (bp r)))) id=bj v.2.1 id:=fun id=>zU _ bJ id
 have ka:=Ga.1 hf
 refine mx.2 ⟨hm.next,by show(List.set _ _ _).length≤24;rw [List.length_set];exact hm.len,uV hm.j2 bJ aM,?_,?_,?_,?_,?_,ka.1,ka.2⟩
 ·obtain ⟨z,hz,iV,hz2⟩:=hm.root
  by_cases z_:a7 z=a7 (J I v.2.1 d)
  ·exact⟨_,(mem_set ag bJ aM).2 (.inl rfl),by rw [aM,← z_];exact iV,hM⟩
  ·exact⟨z,(mem_set ag bJ aM).2 (.inr ⟨hz,by rw [aM];exact z_⟩),iV,hz2⟩
 ·intro z hz
  rcases (mem_set ag bJ aM).1 hz with rfl | ⟨hz,_⟩
  ·rw [aM];exact hm.ids _ (cI bJ)
  ·exact hm.ids z hz
 ·intro z hz
  rcases (mem_set ag bJ aM).1 hz with rfl | ⟨hz,_⟩
  ·exact g_.to fun e _ h=>by rw [uR,z7];exact h
  ·exact(hm.ino z hz).to fun e _ h=>by rw [uR,z7];exact h
 ·intro z hz hne
  rcases (mem_set ag bJ aM).1 hz with rfl | ⟨hz,_⟩
  ·rw [aM] at hne ⊢;exact xa hE (hm.reach _ (cI bJ) hne)
  ·exact xa hE (hm.reach z hz hne)
 ·have V':∀z,z∈v.2.1→a7 z≠1→kindOf z=2→cg (v.2.1.set d (b1 (J I v.2.1 d) (ins (ak (J I v.2.1 d)) (nameOf t) (bp r)))) (a7 z)=1:=by
   intro z hz hne hk
   rw [Nd bJ,hm.once z hz hne hk]
   have:bp r≠a7 z:=fun e=>by
    have:J I v.2.1 j=z:=my ag (cI hjl.1) hz (hjl.2.trans e)
    rw [this] at qD;exact qD hk
   rw [bG this];rfl
  intro z hz hne hk
  rcases (mem_set ag bJ aM).1 hz with rfl | ⟨hz,_⟩
  ·rw [aM] at hne ⊢;exact V' _ (cI bJ) hne hM
  ·exact V' z hz hne hk
theorem Made.ok{v:af.D}{c:aJ.D}{x:aG.D}{w:af.D}(hv:bI v)(hc:df c=true)(hx:ij x)(hk:aA x=1∨aA x=3∨aA x=10)(h:Made v c x w):bI w:=by
 obtain ⟨r,i,hr,ah2,pz,hi,hM,_,hl,hlen,FP,rfl,hf⟩:=h.out
 have jY:=h.bad
 have hm:=mx.1 hv
 have ag:=kR hm.j2
 have bJ:=(bX hi).1
 obtain ⟨ot,jz,d,fU,ia,Nf⟩:=hr.new ah2 pz
 obtain rfl:d=i:=aU (fU.symm.trans hi)
 have e4:=zM Nf fun e he=>hv.zN bJ he
 have jJ:bj v.2.1 v.1=none:=hv.free
 have p5:=hm.next
 have pT:=hm.ino _ (cI bJ)
 have aM:a7 (b1 (J I v.2.1 d) (ins (ak (J I v.2.1 d)) (nameOf r) v.1))=a7 (J I v.2.1 d):=sg _ _
 obtain ⟨Ng,xc⟩:=Nc hm.j2 bJ (nameOf r) v.1
 have nY:=uV hm.j2 bJ aM
 have z':a7 (gj v c x (J I v.2.1 d))=et v:=rfl
 have Aa:ak (gj v c x (J I v.2.1 d))=[]:=rfl
 have nr:=fun {z:aK} => mem_set (x:=z) ag bJ aM
 have Nh:∀z,z∈v.2.1.set d (b1 (J I v.2.1 d) (ins (ak (J I v.2.1 d)) (nameOf r) v.1))→1≤a7 z∧a7 z≤et v-1:=by
  intro z hz
  rcases nr.1 hz with rfl | ⟨hz,_⟩
  ·rw [aM];exact hm.ids _ (cI bJ)
  ·exact hm.ids z hz
 generalize hn:gj v c x (J I v.2.1 d)=n at *
 generalize dM:v.2.1.set d (b1 (J I v.2.1 d) (ins (ak (J I v.2.1 d)) (nameOf r) v.1))=S at *
 have Wa:(S++[n]).Pairwise fun a b=>a7 a<a7 b:=by
  rw [List.pairwise_append]
  refine⟨nY,List.pairwise_singleton _ _,fun a ha b hb=>?_⟩
  rw [List.mem_singleton.1 hb,z']
  have:=Nh a ha
  omega
 have iW:=kR Wa
 have xd:∀a b,E S a b→E (S++[n]) a b:=by
  intro a b
  rw [hU (kR nY),hU iW]
  rintro ⟨z,hz,h⟩
  exact⟨z,List.mem_append.2 (.inl hz),h⟩
 have hE:∀a b,E v.2.1 a b→E (S++[n]) a b:=fun a b h=>xd a b (Ng a b h)
 have ah3:∀id,bj S id=bj v.2.1 id:=fun id=>by rw [← dM];exact zU _ bJ id
 have Gb:∀id,(bj v.2.1 id).isSome=true→(bj (S++[n]) id).isSome=true:=by
  intro id b5
  obtain ⟨y,aM,he⟩:=ns.1 (show(bj S id).isSome=true by rw [ah3];exact b5)
  exact ns.2 ⟨y,List.mem_append.2 (.inl aM),he⟩
 have ah4:(bj (S++[n]) v.1).isSome=true:=ns.2 ⟨n,List.mem_append.2 (.inr (List.mem_singleton.2 rfl)),z'⟩
 have hdl:=hm.ids _ (cI bJ)
 have ah5:=pT.named Gb hM jz (show v.1≠1 by show et v≠1;omega) ah4 hl e4
 have oI:(0≤c.1∧c.1≤1000)∧(0≤c.2.1∧c.2.1≤1000):=by
  unfold df at hc
  simp only [Bool.and_eq_true] at hc
  exact⟨dG.1 hc.1,dG.1 hc.2.1⟩
 have ah6:kN (S++[n]) n:=by
  have nS:0≤eU n∧eU n≤2047:=by
   rw [← hn]
   show 0≤uQ x (J I v.2.1 d)∧uQ x (J I v.2.1 d)≤2047
   unfold uQ
   by_cases jL:aA x=10
   ·rw [if_pos jL];omega
   rw [if_neg jL]
   unfold qL at jY
   rw [bG jL] at jY
   simp only [cond_false,Bool.not_eq_false'] at jY
   have hr:=dG.1 jY
   split
   ·exact af' hr.1 hr.2
   ·exact hr
  have pE:0≤e9 n∧e9 n≤1000:=by
   rw [← hn]
   show 0≤zO c (J I v.2.1 d)∧zO c (J I v.2.1 d)≤1000
   unfold zO
   split
   ·exact pT.gid
   ·exact oI.2
  have jH:kindOf n=FO x:=by rw [← hn];rfl
  have Ni:bN n=if aA x=10 then iL x else []:=by rw [← hn];rfl
  have vS:ek n=c.1:=by rw [← hn];rfl
  have FQ:eU n=uQ x (J I v.2.1 d):=by rw [← hn];rfl
  have fW:ej n=0:=by rw [← hn];rfl
  have hi0:dC n=0:=by rw [← hn];rfl
  unfold FO at jH
  refine⟨nS,by rw [vS];exact oI.1,pE,?_,fun _=>⟨fW,hi0,Aa⟩,fun h1=>?_,fun h3=>?_,fun h2=>?_,fun e he=>(by rw [Aa] at he;cases he),by rw [Aa];exact List.Pairwise.nil⟩
  ·rw [jH];split
   ·exact .inr (.inl rfl)
   ·split
    ·exact .inr (.inr rfl)
    ·exact .inl rfl
  ·rw [Ni]
   split
   ·have:=hx.sd;omega
   ·simp
  ·have jL:aA x=10:=by
    rw [jH] at h3
    split at h3
    ·cases h3
    ·split at h3
     ·assumption
     ·cases h3
   unfold qL at jY
   rw [cB jL] at jY
   simp only [cond_true,Bool.not_eq_false'] at jY
   refine⟨by rw [Ni,if_pos jL];exact jY,?_⟩
   rw [FQ]
   unfold uQ
   rw [if_pos jL]
  ·have jL:aA x≠10:=by
    intro jL
    rw [jH,if_neg (by omega),if_pos jL] at h2
    cases h2
   rw [Ni,if_neg jL,fW,hi0,Aa]
   exact⟨rfl,by omega,by omega,by simp⟩
 have Nj:∀z,z∈v.2.1→a7 z≠1→dL (S++[n]) 1 (a7 z):=fun z hz hne=>xa hE (hm.reach z hz hne)
 have ah7:∀b,cg (S++[n]) b=cg v.2.1 b+cond (v.1==b) 1 0:=by
  intro b
  rw [ahX,Aa,← dM,Nd bJ];rfl
 have ka:=Ga.1 hf
 refine mx.2 ⟨?_,?_,Wa,?_,?_,?_,?_,?_,ka.1,ka.2⟩
 ·show 2≤et v+1∧et v+1≤100000
  omega
 ·show(S++[n]).length≤24
  rw [List.length_append,List.length_singleton,← dM,List.length_set];omega
 ·obtain ⟨z,hz,iV,hz2⟩:=hm.root
  by_cases z_:a7 z=a7 (J I v.2.1 d)
  ·exact⟨_,List.mem_append.2 (.inl (nr.2 (.inl rfl))),by rw [aM,← z_];exact iV,hM⟩
  ·exact⟨z,List.mem_append.2 (.inl (nr.2 (.inr ⟨hz,by rw [aM];exact z_⟩))),iV,hz2⟩
 ·intro z hz
  show 1≤a7 z∧a7 z≤et v+1-1
  rcases List.mem_append.1 hz with hz | hz
  ·have:=Nh z hz;omega
  ·rw [List.mem_singleton.1 hz,z'];omega
 ·intro z hz
  rcases List.mem_append.1 hz with hz | hz
  ·rcases nr.1 hz with rfl | ⟨hz,_⟩
   ·exact ah5
   ·exact(hm.ino z hz).to fun e _ h=>Gb _ h
  ·rw [List.mem_singleton.1 hz];exact ah6
 ·intro z hz hne
  rcases List.mem_append.1 hz with hz | hz
  ·rcases nr.1 hz with rfl | ⟨hz,_⟩
   ·rw [aM] at hne ⊢;exact Nj _ (cI bJ) hne
   ·exact Nj z hz hne
  ·rw [List.mem_singleton.1 hz,z']
   by_cases h1:a7 (J I v.2.1 d)=1
   ·exact .single (xd _ _ (h1 ▸ xc))
   ·exact .tail (Nj _ (cI bJ) h1) (xd _ _ xc)
 ·intro z hz hne ah8
  show cg (S++[n]) (a7 z)=1
  rw [ah7]
  rcases List.mem_append.1 hz with hz | hz
  ·have cw:=Nh z hz
   rw [bG (show v.1≠a7 z by show et v≠a7 z;omega)]
   rcases nr.1 hz with rfl | ⟨hz,_⟩
   ·rw [aM] at hne ⊢;exact hm.once _ (cI bJ) hne hM
   ·exact hm.once z hz hne ah8
  ·rw [List.mem_singleton.1 hz,z',show cg v.2.1 (et v)=0 from ah0 hv.gZ jJ,cB (show v.1=et v from rfl)];rfl
theorem zZ.ok{v:af.D}{c:aJ.D}{x:aG.D}{w:af.D}(hv:bI v)(h:zZ v c x w):bI w:=by
 obtain ⟨h0,h1,r,i,_,_,hi,rfl⟩:=h.out
 have bJ:=(bX hi).1
 have bP:=hv.ino i bJ
 exact hv.keep bJ (y:=iN (J I v.2.1 i) (eU (J I v.2.1 i)) (bR x) (d' x)) rfl rfl rfl ⟨bP.mode,h0,h1,bP.kind,bP.plain,bP.file,bP.mr,bP.dir,bP.names,bP.sorted⟩ (F2 hv bJ _ _ _)
theorem F3.ok{v:af.D}{c:aJ.D}{x:aG.D}{w:af.D}(hv:bI v)(h:F3 v c x w):bI w:=by
 obtain ⟨h0,h1,_,r,i,_,_,hi,hk,rfl,hf⟩:=h.out
 have bJ:=(bX hi).1
 have bP:=hv.ino i bJ
 exact hv.keep bJ (y:=mv (J I v.2.1 i) (bR x) (d' x)) rfl rfl rfl ⟨bP.mode,bP.uid,bP.gid,bP.kind,fun ed=>absurd hk ed,bP.file,bP.mr,fun ed=>⟨(bP.dir ed).1,h0,h1,(bP.dir ed).2.2.2⟩,bP.names,bP.sorted⟩ hf
theorem ah9(s:aF)(a:Nat)(d:aF)(hs:s.length≤64)(h:a+d.length≤64):(kO s a d).length≤64:=by
 unfold kO
 rw [List.length_append,List.length_append,pC,List.length_drop];omega
theorem w8.ok{v:af.D}{c:aJ.D}{x:aG.D}{w:af.D}(hv:bI v)(h:w8 v c x w):bI w:=by
 obtain ⟨r,i,_,_,hi,hk,jg,_,ha,h⟩:=h.out
 have bJ:=(bX hi).1
 have bP:=hv.ino i bJ
 have ag:=hv.fy bJ
 rcases h with⟨_,_,rfl⟩ | ⟨_,hle,rfl,hf⟩
 ·exact hv
 ·have hlen:(ik x (J I v.2.1 i)).length≤64:=by
   unfold ik
   split
   ·rename_i bC
    rw [pC]
    have:eh x (J I v.2.1 i)=bR x:=by unfold eh;rw [if_neg (by omega)]
    omega
   ·exact ah9 _ _ _ ag (by omega)
  exact hv.keep bJ (y:=nw (J I v.2.1 i) (ik x (J I v.2.1 i))) rfl rfl rfl ⟨bP.mode,bP.uid,bP.gid,bP.kind,bP.plain,fun _=>hlen,fun h3=>absurd h3 jg,fun h2=>absurd h2 hk,bP.names,bP.sorted⟩ hf
theorem ah_{m:Int}(h:0≤m)(h':m≤2047):0≤andNot m 1024∧andNot m 1024≤2047:=by
 obtain ⟨n,rfl⟩:∃n:Nat,m=(n:Int):=⟨m.toNat,by omega⟩
 unfold andNot
 rw [show(1024:Int)=((1024:Nat):Int) from rfl,bits_nat]
 simp only
 have h1:(BitVec.ofNat 64 n &&& ~~~BitVec.ofNat 64 1024).toNat≤n:=by
  rw [BitVec.toNat_and,BitVec.toNat_ofNat,Nat.mod_eq_of_lt (show n<2 ^ 64 by omega)]
  exact Nat.and_le_left
 rw [show IntKind.wrap .i64 (((BitVec.ofNat 64 n &&& ~~~BitVec.ofNat 64 1024).toNat:Nat):Int)=(((BitVec.ofNat 64 n &&& ~~~BitVec.ofNat 64 1024).toNat:Nat):Int) from sy (by omega) (by omega)]
 omega
theorem zY.ok{v:af.D}{c:aJ.D}{x:aG.D}{w:af.D}(hv:bI v)(h:zY v c x w):bI w:=by
 obtain ⟨h0,h1,r,i,_,_,hi,jg,_,rfl⟩:=h.out
 have bJ:=(bX hi).1
 have bP:=hv.ino i bJ
 have hm:0≤qN c x (J I v.2.1 i)∧qN c x (J I v.2.1 i)≤2047:=by
  unfold qN
  split
  ·exact ah_ h0 h1
  ·exact⟨h0,h1⟩
 exact hv.keep bJ (y:=iN (J I v.2.1 i) (qN c x (J I v.2.1 i)) (ek (J I v.2.1 i)) (e9 (J I v.2.1 i))) rfl rfl rfl ⟨hm,bP.uid,bP.gid,bP.kind,bP.plain,bP.file,fun h3=>absurd h3 jg,bP.dir,bP.names,bP.sorted⟩ (F2 hv bJ _ _ _)
open Classical in
noncomputable def pO(l:List aK)(id:Int):List aK:=l.filter fun x=>decide (dL l id (a7 x))
theorem Wb(l:List aK):l=(List.range l.length).map fun i=>J I l i:=by
 refine List.ext_getElem (by simp) fun i h1 h2=>?_
 rw [List.getElem_map,List.getElem_range,c6 h1]
open Classical in
theorem Wc{l:List aK}(ag:hR l)(id:Int):(om l (dK l id)).map (fun i=>J I l i)=pO l id:=by
 unfold pO
 conv=>rhs;rw [Wb l]
 rw [List.filter_map]
 unfold om
 congr 1
 refine List.filter_congr fun i hi=>?_
 have hi:=List.mem_range.1 hi
 have h:=wT l ag id hi
 unfold T at h
 have e:(J .bool (dK l id) i:Bool)=decide (dL l id (a7 (J I l i))):=by
  rw [Bool.eq_iff_iff,decide_eq_true_iff];exact h
 rw [e]
 simp only [Function.comp]
 rw [← Wb l]
theorem Wd{l:List aK}(ag:hR l)(id:Int):jA l (dK l id)=(pO l id).length:=by
 rw [← Wc ag id,List.length_map];rfl
theorem We{l:List aK}(ag:hR l)(id:Int):jc l (dK l id)=((pO l id).map fun x=>(bN x).length).sum:=by
 rw [← Wc ag id,List.map_map];rfl
theorem Nk{l:List aK} : f' l=false↔∀x,x∈l→hS l x=false:=by
 unfold f'
 constructor
 ·intro h x hx
  obtain ⟨i,hi,rfl⟩:=fg hx
  cases ha:fe l.length fun i => !hS l (J I l i) with
  | true=>simpa using kI.1 ha i hi
  | false=>rw [ha] at h;cases h
 ·intro h
  rw [kI.2 fun i hi=>by rw [h _ (cI hi)];rfl];rfl
def prs(l:List aK):List (Int×Nat):=l.map fun x=>(a7 x,(bN x).length)
open Classical in
noncomputable def Ab(l:List aK)(id:Int):List (Int×Nat):=(prs l).filter fun p=>decide (dL l id p.1)
open Classical in
theorem Gc(l:List aK)(id:Int):(pO l id).length=(Ab l id).length∧((pO l id).map fun x=>(bN x).length).sum=((Ab l id).map fun p=>p.2).sum:=by
 have e:Ab l id=(pO l id).map fun x=>(a7 x,(bN x).length):=by
  unfold Ab pO prs
  rw [List.filter_map];rfl
 rw [e,List.length_map,List.map_map]
 exact⟨rfl,rfl⟩
theorem Wf{α : Type}(f : α → Nat){kj L:List α}(h:kj.Sublist L)(p q : α → Bool)(Nl:∀a,p a=true→q a=true):((kj.filter p).map f).sum≤((L.filter q).map f).sum:=by
 induction h with
 | slnil=>simp
 | cons a h ih =>
  rw [List.filter_cons (x:=a)]
  split
  ·rw [List.map_cons,List.sum_cons];omega
  ·exact ih
 | cons_cons a h ih =>
  rw [List.filter_cons,List.filter_cons]
  by_cases au:p a=true
  ·rw [if_pos au,if_pos (Nl a au),List.map_cons,List.map_cons,List.sum_cons,List.sum_cons];omega
  ·rw [if_neg au]
   split
   ·rw [List.map_cons,List.sum_cons];omega
   ·exact ih
theorem Nn{α : Type} : ∀L:List α,(L.map fun _=>1).sum=L.length
 | []=>rfl
 | a :: L=>by rw [List.map_cons,List.sum_cons,Nn L,List.length_cons];omega
theorem ah'{α : Type}{kj L:List α}(h:kj.Sublist L)(p q : α → Bool)(Nl:∀a,p a=true→q a=true):(kj.filter p).length≤(L.filter q).length:=by
 rw [← Nn,← Nn]
 exact Wf (fun _=>1) h p q Nl
theorem aia{l l':List aK}(ag:hR l)(iW:hR l')(hs:(prs l').Sublist (prs l))(hE:∀a b,dL l' a b→dL l a b)(id:Int):jA l' (dK l' id)≤jA l (dK l id)∧jc l' (dK l' id)≤jc l (dK l id):=by
 rw [Wd ag,Wd iW,We ag,We iW,(Gc l id).1,(Gc l id).2,(Gc l' id).1,(Gc l' id).2]
 unfold Ab
 exact⟨ah' hs _ _ fun a h=>by simp only [decide_eq_true_iff] at h ⊢;exact hE _ _ h,Wf _ hs _ _ fun a h=>by simp only [decide_eq_true_iff] at h ⊢;exact hE _ _ h⟩
theorem aib{l l':List aK}(ag:hR l)(iW:hR l')(hs:(prs l').Sublist (prs l))(hE:∀a b,dL l' a b→dL l a b)
  (hm:∀bz,bz∈l'→∃x,x∈l∧a7 x=a7 bz∧ej x=ej bz∧dC x=dC bz) (h:f' l=false):f' l'=false:=by
 rw [Nk] at h ⊢
 intro bz lR
 obtain ⟨x,hx,h1,h2,h3⟩:=hm bz lR
 have h0:=h x hx
 have hu:=aia ag iW hs hE (a7 bz)
 unfold hS at h0 ⊢
 have e:x.1=bz.1:=h1
 rw [Bool.or_eq_false_iff,Bool.and_eq_false_iff,Bool.and_eq_false_iff,decide_eq_false_iff_not,decide_eq_false_iff_not,decide_eq_false_iff_not,decide_eq_false_iff_not] at h0 ⊢
 rw [e,h2,h3] at h0
 have vG:jA l' (dK l' bz.1)≤jA l (dK l bz.1):=hu.1
 have rl:jc l' (dK l' bz.1)≤jc l (dK l bz.1):=hu.2
 refine⟨h0.1.imp id fun h=>by omega,h0.2.imp id fun h=>by omega⟩
theorem aic{l:List aK}{p:aK→Bool}(b:Int)(h:∀x,x∈l→p x=false→ak x=[]):cg (l.filter p) b=cg l b:=by
 unfold cg
 induction l with
 | nil=>rfl
 | cons x l ih =>
  have ih:=ih fun y aM=>h y (List.mem_cons_of_mem _ aM)
  rw [List.filter_cons]
  cases au:p x with
  | true =>
   rw [if_pos rfl,List.map_cons,List.map_cons,List.sum_cons,List.sum_cons,ih]
  | false =>
   rw [if_neg (by decide),List.map_cons,List.sum_cons,ih,h x List.mem_cons_self au]
   simp [dm]
theorem aid{l:List aK}{i:Nat}(hi:i<l.length){y:aK}(h1:a7 y=a7 (J I l i))(h2:bN y=bN (J I l i)):prs (l.set i y)=prs l:=by
 unfold prs
 rw [List.map_set,h1,h2,c6 hi]
 refine List.ext_getElem (by simp) fun j a b=>?_
 rw [List.getElem_set]
 split
 ·rename_i h;subst h;rw [List.getElem_map]
 ·rfl
theorem aie{l:List aK}{b:Int}(h:cg l b≠0):∃x,x∈l∧∃d,d∈ak x∧d.2.1=b:=by
 refine Decidable.byContradiction fun hn=>h (V9 fun x hx d ag he=>hn ⟨x,hx,d,ag,he⟩)
theorem Wg{v:af.D}(hv:bI v){i:Nat}(hi:i<v.2.1.length){s:aF}{k:Int}(nt:dD (ak (J I v.2.1 i)) s=k)(hk0:k≠0){j:Nat}(hj:bj v.2.1 k=some j)(he:ak (J I v.2.1 j)=[]):bI (kk v i s):=by
 have hm:=mx.1 hv
 have ag:=kR hm.j2
 have hjl:=bX hj
 have pE:=cI (t:=I) hi
 have No:=cI (t:=I) hjl.1
 have bP:=hm.ino _ pE
 obtain ⟨d,sn,Gd,fO⟩:=qG (N:=ak (J I v.2.1 i)) (s:=s) (by rw [nt];exact hk0)
 rw [nt] at fO
 have hk1:k≠1:=fO ▸ (bP.names d sn).2.1
 have lg:a7 (J I v.2.1 j)=k:=hjl.2
 have il:a7 (J I v.2.1 i)≠k:=by
  intro h
  have:=my ag pE No (h.trans lg.symm)
  rw [this,he] at sn;cases sn
 have aM:a7 (b1 (J I v.2.1 i) (ca (ak (J I v.2.1 i)) s))=a7 (J I v.2.1 i):=sg _ _
 have hr1:=uV hm.j2 hi aM
 have Ge:=fun {x:aK} => mem_set (x:=x) ag hi aM
 have aif:∀b,¬E v.2.1 k b:=by
  intro b h
  obtain ⟨x,hx,aih,e,hex,_⟩:=(hU ag).1 h
  have:=my ag hx No (aih.trans lg.symm)
  rw [this,he] at hex;cases hex
 have aii:∀b,cg (v.2.1.set i (b1 (J I v.2.1 i) (ca (ak (J I v.2.1 i)) s))) b+cond (k==b) 1 0=cg v.2.1 b:=by
  intro b
  have h1:=F_ (y:=b1 (J I v.2.1 i) (ca (ak (J I v.2.1 i)) s)) hi b
  have h2:=Nb bP.sorted sn b
  rw [jX] at h1
  rw [Gd,fO] at h2
  omega
 have Wh:prs (v.2.1.set i (b1 (J I v.2.1 i) (ca (ak (J I v.2.1 i)) s)))=prs v.2.1:=aid hi aM rfl
 have aij:bytesOf (v.2.1.set i (b1 (J I v.2.1 i) (ca (ak (J I v.2.1 i)) s)))=bytesOf v.2.1:=by
  have h:=Vj (y:=b1 (J I v.2.1 i) (ca (ak (J I v.2.1 i)) s)) hi
  rw [show bN (b1 (J I v.2.1 i) (ca (ak (J I v.2.1 i)) s))=bN (J I v.2.1 i) from rfl] at h
  omega
 have lf:∀x,x∈v.2.1.set i (b1 (J I v.2.1 i) (ca (ak (J I v.2.1 i)) s))→∃bz,bz∈v.2.1∧a7 bz=a7 x∧kindOf bz=kindOf x∧ej bz=ej x∧dC bz=dC x∧(∀e,e∈ak x→e∈ak bz)∧(a7 x=k→ak x=[]):=by
  intro x hx
  rcases Ge.1 hx with rfl | ⟨hx,hne⟩
  ·exact⟨_,pE,rfl,rfl,rfl,rfl,fun e h=>se h,fun h=>absurd (aM ▸ h) il⟩
  ·exact⟨x,hx,rfl,rfl,rfl,rfl,fun e h=>h,fun h=>by rw [my ag hx No (h.trans lg.symm)];exact he⟩
 have Np:∀x,x∈v.2.1→∃bz,bz∈v.2.1.set i (b1 (J I v.2.1 i) (ca (ak (J I v.2.1 i)) s))∧a7 bz=a7 x∧kindOf bz=kindOf x∧∀e,e∈ak x→e.2.1≠k→e∈ak bz:=by
  intro x hx
  by_cases gO:a7 x=a7 (J I v.2.1 i)
  ·have lR:=my ag hx pE gO
   subst lR
   refine⟨_,Ge.2 (.inl rfl),aM,rfl,fun e h Nq=>List.mem_filter.2 ⟨h,?_⟩⟩
   have:e.1≠s:=fun h1=>Nq (by rw [← FV bP.sorted h,h1,nt])
   unfold bu
   simp [this]
  ·exact⟨x,Ge.2 (.inr ⟨hx,by rw [aM];exact gO⟩),rfl,rfl,fun e h _=>h⟩
 have aik:∀x,x∈v.2.1.set i (b1 (J I v.2.1 i) (ca (ak (J I v.2.1 i)) s))→kN v.2.1 x:=by
  intro x hx
  rcases Ge.1 hx with rfl | ⟨hx,hne⟩
  ·exact⟨bP.mode,bP.uid,bP.gid,bP.kind,fun h=>⟨(bP.plain h).1,(bP.plain h).2.1,by
    show ca _ s=[]
    rw [(bP.plain h).2.2];rfl⟩,bP.file,bP.mr,fun h=>⟨(bP.dir h).1,(bP.dir h).2.1,(bP.dir h).2.2.1,Nat.le_trans (uO _ _) (bP.dir h).2.2.2⟩,fun e h=>bP.names e (se h),uS bP.sorted s⟩
  ·exact hm.ino x hx
 show bI (v.1,goN (v.2.1.set i (b1 (J I v.2.1 i) (ca (ak (J I v.2.1 i)) s))) (dD (ak (J I v.2.1 i)) s),())
 rw [nt]
 generalize v.2.1.set i (b1 (J I v.2.1 i) (ca (ak (J I v.2.1 i)) s))=S at *
 have fU:=kR hr1
 have iX:∀x,x∈goN S k↔x∈S∧(cg S k=0→a7 x≠k):=by
  intro x
  unfold goN
  by_cases h0:cg S k=0
  ·rw [decide_eq_true h0]
   simp only [cond_true,List.mem_filter,Bool.not_eq_true',beq_eq_false_iff_ne]
   exact⟨fun h=>⟨h.1,fun _=>h.2⟩,fun h=>⟨h.1,h.2 h0⟩⟩
  ·rw [decide_eq_false h0]
   exact⟨fun h=>⟨h,fun h1=>absurd h1 h0⟩,fun h=>h.1⟩
 have kt:(goN S k).Sublist S:=by
  unfold goN
  cases decide (cg S k=0)
  ·exact List.Sublist.refl _
  ·exact List.filter_sublist
 have gn:=hr1.sublist kt
 have ia:=kR gn
 have ail:∀a b,E (goN S k) a b→E v.2.1 a b:=by
  intro a b h
  obtain ⟨x,hx,ji,e,hex,mz⟩:=(hU ia).1 h
  obtain ⟨bz,h1,h2,_,_,_,h3,_⟩:=lf x ((iX x).1 hx).1
  exact(hU ag).2 ⟨bz,h1,h2.trans ji,e,h3 e hex,mz⟩
 have xd:∀a b,E S a b→E (goN S k) a b:=by
  intro a b h
  obtain ⟨x,hx,ji,e,hex,mz⟩:=(hU fU).1 h
  refine(hU ia).2 ⟨x,(iX x).2 ⟨hx,fun _ hk=>?_⟩,ji,e,hex,mz⟩
  obtain ⟨_,_,_,_,_,_,_,jo⟩:=lf x hx
  rw [jo hk] at hex;cases hex
 have Wi:∀a b,b≠k→E v.2.1 a b→E (goN S k) a b:=by
  intro a b hb h
  obtain ⟨x,hx,ji,e,hex,mz⟩:=(hU ag).1 h
  obtain ⟨bz,h1,h2,_,h3⟩:=Np x hx
  exact xd a b ((hU fU).2 ⟨bz,h1,h2.trans ji,e,h3 e hex (mz ▸ hb),mz⟩)
 have fI:∀b,dL v.2.1 1 b→b≠k→dL (goN S k) 1 b:=by
  intro b h
  induction h with
  | single h=>exact fun hb=>.single (Wi _ _ hb h)
  | tail h1 h2 ih=>exact fun hb=>.tail (ih fun h=>aif _ (h ▸ h2)) (Wi _ _ hb h2)
 have aim:∀b,cg (goN S k) b=cg S b:=by
  intro b
  unfold goN
  cases decide (cg S k=0)
  ·rfl
  ·refine aic b fun x hx au=>?_
   obtain ⟨_,_,_,_,_,_,_,jo⟩:=lf x hx
   have e:x.1=k:=by simpa using au
   exact jo e
 have Gb:∀x,x∈goN S k→∀e,e∈ak x→(bj v.2.1 e.2.1).isSome=true→(bj (goN S k) e.2.1).isSome=true:=by
  intro x hx e hex hs
  obtain ⟨y,aM,wV⟩:=ns.1 hs
  obtain ⟨lI,h1,h2,_,_⟩:=Np y aM
  refine ns.2 ⟨lI,(iX lI).2 ⟨h1,fun h0 hk=>?_⟩,h2.trans wV⟩
  refine FL h0 x ((iX x).1 hx).1 e hex ?_
  exact wV.symm.trans (h2.symm.trans hk)
 refine mx.2 ⟨hm.next,Nat.le_trans kt.length_le ?_,gn,?_,?_,?_,?_,?_,?_,?_⟩
 ·have:=congrArg List.length Wh
  unfold prs at this
  rw [List.length_map,List.length_map] at this
  rw [this];exact hm.len
 ·obtain ⟨z,hz,iV,hz2⟩:=hm.root
  obtain ⟨jq,h1,h2,h3,_⟩:=Np z hz
  exact⟨jq,(iX jq).2 ⟨h1,fun _ h=>hk1 (h.symm.trans (h2.trans iV))⟩,h2.trans iV,h3.trans hz2⟩
 ·intro x hx
  obtain ⟨bz,h1,h2,_⟩:=lf x ((iX x).1 hx).1
  rw [← h2];exact hm.ids bz h1
 ·intro x hx
  exact(aik x ((iX x).1 hx).1).to fun e hex h=>Gb x hx e hex h
 ·intro x hx hne
  obtain ⟨bz,h1,h2,_⟩:=lf x ((iX x).1 hx).1
  by_cases hk:a7 x=k
  ·have h0:cg S k≠0:=fun h0=>((iX x).1 hx).2 h0 hk
   obtain ⟨z,hz,e,Nr,Nq⟩:=aie h0
   have Wj:E (goN S k) (a7 z) k:=xd _ _ ((hU fU).2 ⟨z,hz,rfl,e,Nr,Nq⟩)
   obtain ⟨jq,g1,g2,_,_,_,_,g9⟩:=lf z hz
   rw [hk]
   by_cases iV:a7 z=1
   ·exact .single (iV ▸ Wj)
   ·refine .tail (fI _ (g2 ▸ hm.reach jq g1 (by rw [g2];exact iV)) fun h=>?_) Wj
    rw [g9 h] at Nr;cases Nr
  ·exact fI _ (h2 ▸ hm.reach bz h1 (by rw [h2];exact hne)) hk
 ·intro x hx hne ain
  obtain ⟨bz,h1,h2,h3,_⟩:=lf x ((iX x).1 hx).1
  have ho:=hm.once bz h1 (by rw [h2];exact hne) (h3.trans ain)
  have hn:=aii (a7 x)
  rw [h2] at ho
  show cg (goN S k) (a7 x)=1
  rw [aim]
  by_cases hk:a7 x=k
  ·exfalso
   rw [cB hk.symm] at hn
   simp only [cond_true] at hn
   exact((iX x).1 hx).2 (by rw [← hk];omega) hk
  ·rw [bG (fun h=>hk h.symm)] at hn
   simp only [cond_false] at hn
   omega
 ·refine Nat.le_trans ?_ (aij ▸ hm.bytes)
  unfold goN
  cases decide (cg S k=0)
  ·exact Nat.le_refl _
  ·exact FM _ _ S
 ·refine aib ag ia ?_ (fun a b h=>xa ail h) (fun x hx=>?_) hm.over
  ·rw [← Wh];exact kt.map _
  ·obtain ⟨bz,h1,h2,_,h4,aZ,_⟩:=lf x ((iX x).1 hx).1
   exact⟨bz,h1,h2,h4,aZ⟩
theorem zR.ok{v:af.D}{c:aJ.D}{x:aG.D}{w:af.D}(hv:bI v)(h:zR v c x w):bI w:=by
 obtain ⟨r,i,j,hr,hc,hn,hi,_,hl,hj,he,_,_,rfl⟩:=h.out
 exact Wg hv (bX hi).1 hl (hr.named hc hn).1 hj he
theorem Wk{u:af.D}(hu:bI u){rd jh:Int}{ir it:Nat}{cr dS:aF}{bB:Int}(h:sf u.2.1 rd jh ir it cr dS bB)(htn:hQ dS=true)(hlen:rd≠jh→(ak (J I u.2.1 it)).length<12)
  (hb:∀j,bj u.2.1 bB=some j→kindOf (J I u.2.1 j)=2→jh≠bB∧¬dL u.2.1 bB jh) (hf:e_ (eI u.2.1 ir cr it dS bB)=0):bI (u.1,eI u.2.1 ir cr it dS bB,()):=by
 have hm:=mx.1 hu
 have ag:=kR hm.j2
 have uW:=bX h.hr
 have Ac:=bX h.ht
 have nv:=cI (t:=I) uW.1
 have bP:=hm.ino _ nv
 have aio:a7 (J I u.2.1 ir)=rd:=uW.2
 have xe:a7 (J I u.2.1 it)=jh:=Ac.2
 obtain ⟨j,hj⟩:=Option.isSome_iff_exists.1 h.ex
 have hjl:=bX hj
 have Wl:a7 (J I u.2.1 j)=bB:=hjl.2
 obtain ⟨d,sn,Gd,fO⟩:=qG (N:=ak (J I u.2.1 ir)) (s:=cr) (by rw [h.look];exact h.Vz)
 rw [h.look] at fO
 have aip:bB≠1:=fO ▸ (bP.names d sn).2.1
 have xf:a7 (b1 (J I u.2.1 ir) (ca (ak (J I u.2.1 ir)) cr))=a7 (J I u.2.1 ir):=sg _ _
 have xg:=fun {x:aK} => mem_set (x:=x) ag uW.1 xf
 have hr1:(dy u.2.1 ir cr).Pairwise fun a b=>a7 a<a7 b:=uV hm.j2 uW.1 xf
 have fU:=kR hr1
 have Ad:∀id,bj (dy u.2.1 ir cr) id=bj u.2.1 id:=fun id=>MQ uW.1 id
 have hl1:(dy u.2.1 ir cr).length=u.2.1.length:=List.length_set
 have xh:it<(dy u.2.1 ir cr).length:=by rw [hl1];exact Ac.1
 have aiq:∀b,cg (dy u.2.1 ir cr) b+cond (bB==b) 1 0=cg u.2.1 b:=by
  intro b
  have h1:=F_ (y:=b1 (J I u.2.1 ir) (ca (ak (J I u.2.1 ir)) cr)) uW.1 b
  have h2:=Nb bP.sorted sn b
  rw [jX] at h1
  rw [Gd,fO] at h2
  show cg (List.set _ _ _) b+_=_
  omega
 have Wm:∀x,x∈dy u.2.1 ir cr→kN (dy u.2.1 ir cr) x:=by
  intro x hx
  rcases xg.1 hx with rfl | ⟨hx,hne⟩
  ·exact⟨bP.mode,bP.uid,bP.gid,bP.kind,fun hk=>absurd h.zT hk,bP.file,bP.mr,fun hk=>⟨(bP.dir hk).1,(bP.dir hk).2.1,(bP.dir hk).2.2.1,Nat.le_trans (uO _ _) (bP.dir hk).2.2.2⟩,fun e he=>by
    rw [Ad];exact bP.names e (se he),uS bP.sorted cr⟩
  ·exact(hm.ino x hx).to fun e _ hs=>by rw [Ad];exact hs
 have Ng:∀a b,b≠bB→E u.2.1 a b→E (dy u.2.1 ir cr) a b:=by
  intro a b dj hE
  obtain ⟨x,hx,ji,e,hex,mz⟩:=(hU ag).1 hE
  by_cases gO:a7 x=a7 (J I u.2.1 ir)
  ·have lR:=my ag hx nv gO
   subst lR
   refine(hU fU).2 ⟨_,xg.2 (.inl rfl),xf.trans ji,e,List.mem_filter.2 ⟨hex,?_⟩,mz⟩
   have:e.1≠cr:=fun h1=>dj (by rw [← mz,← FV bP.sorted hex,h1,h.look])
   unfold bu
   simp [this]
  ·exact(hU fU).2 ⟨x,xg.2 (.inr ⟨hx,by rw [xf];exact gO⟩),ji,e,hex,mz⟩
 have air:∀x,x∈u.2.1→∃bz,bz∈dy u.2.1 ir cr∧a7 bz=a7 x∧kindOf bz=kindOf x:=by
  intro x hx
  by_cases gO:a7 x=a7 (J I u.2.1 ir)
  ·exact⟨_,xg.2 (.inl rfl),xf.trans gO.symm,by rw [my ag hx nv gO];rfl⟩
  ·exact⟨x,xg.2 (.inr ⟨hx,by rw [xf];exact gO⟩),rfl,rfl⟩
 have Wn:∀x,x∈dy u.2.1 ir cr→∃bz,bz∈u.2.1∧a7 bz=a7 x∧kindOf bz=kindOf x:=by
  intro x hx
  rcases xg.1 hx with rfl | ⟨hx,hne⟩
  ·exact⟨_,nv,rfl,rfl⟩
  ·exact⟨x,hx,rfl,rfl⟩
 have pB:kindOf (J I (dy u.2.1 ir cr) it)=2∧(ak (J I (dy u.2.1 ir cr) it)).length<12∧(∀e,e∈ak (J I (dy u.2.1 ir cr) it)→e.1≠dS)∧a7 (J I (dy u.2.1 ir cr) it)=jh:=by
  unfold dy
  rw [iK uW.1]
  by_cases hii:ir=it
  ·subst hii
   rw [if_pos rfl]
   refine⟨h.zT,?_,fun e he=>h.no e (se he),xe⟩
   show(ca (ak (J I u.2.1 ir)) cr).length<12
   have ld:=(bP.dir h.zT).2.2.2
   have:(ca (ak (J I u.2.1 ir)) cr).length<(ak (J I u.2.1 ir)).length:=by
    unfold ca
    refine List.length_filter_lt_length_iff_exists.2 ⟨d,sn,?_⟩
    unfold bu
    simp [Gd]
   omega
  ·rw [if_neg hii]
   refine⟨h.MP,hlen fun he=>hii ?_,h.no,xe⟩
   have:=my ag nv (cI Ac.1) (by rw [aio,xe];exact he)
   have e1:=h.hr
   rw [he,h.ht] at e1
   exact(aU e1).symm
 have Ns:=cI (t:=I) xh
 have Ae:a7 (b1 (J I (dy u.2.1 ir cr) it) (ins (ak (J I (dy u.2.1 ir cr) it)) dS bB))=a7 (J I (dy u.2.1 ir cr) it):=sg _ _
 have Gf:=fun {x:aK} => mem_set (x:=x) fU xh Ae
 have gn:(eI u.2.1 ir cr it dS bB).Pairwise fun a b=>a7 a<a7 b:=uV hr1 xh Ae
 obtain ⟨xc,Af⟩:=Nc hr1 xh dS bB
 rw [pB.2.2.2] at Af
 have xc:∀a b,E (dy u.2.1 ir cr) a b→E (eI u.2.1 ir cr it dS bB) a b:=xc
 have Af:E (eI u.2.1 ir cr it dS bB) jh bB:=Af
 have Nt:∀id,bj (eI u.2.1 ir cr it dS bB) id=bj u.2.1 id:=fun id=>(VA xh id).trans (Ad id)
 have ais:∀b,cg (eI u.2.1 ir cr it dS bB) b=cg u.2.1 b:=by
  intro b
  have h1:cg (eI u.2.1 ir cr it dS bB) b=cg (dy u.2.1 ir cr) b+cond (bB==b) 1 0:=Nd xh dS bB b
  have h2:=aiq b
  omega
 have ait:∀x,x∈u.2.1→∃bz,bz∈eI u.2.1 ir cr it dS bB∧a7 bz=a7 x∧kindOf bz=kindOf x:=by
  intro x hx
  obtain ⟨U,a1,a2,a3⟩:=air x hx
  by_cases gO:a7 U=a7 (J I (dy u.2.1 ir cr) it)
  ·exact⟨_,Gf.2 (.inl rfl),Ae.trans (gO.symm.trans a2),by rw [← a3,my fU a1 Ns gO];rfl⟩
  ·exact⟨U,Gf.2 (.inr ⟨a1,by rw [Ae];exact gO⟩),a2,a3⟩
 have hbk:∀x,x∈eI u.2.1 ir cr it dS bB→∃bz,bz∈u.2.1∧a7 bz=a7 x∧kindOf bz=kindOf x:=by
  intro x hx
  rcases Gf.1 hx with rfl | ⟨hx,hne⟩
  ·obtain ⟨bz,a1,a2,a3⟩:=Wn _ Ns
   exact⟨bz,a1,a2.trans Ae.symm,a3⟩
  ·exact Wn x hx
 have hE:∀a b,b≠bB→E u.2.1 a b→E (eI u.2.1 ir cr it dS bB) a b:=fun a b dj he=>xc a b (Ng a b dj he)
 have Wo:jh≠bB∧¬dL u.2.1 bB jh:=by
  by_cases hk:kindOf (J I u.2.1 j)=2
  ·exact hb j hj hk
  ·have aiu:∀b,¬E u.2.1 bB b:=by
    intro b he
    obtain ⟨x,hx,ji,e,hex,_⟩:=(hU ag).1 he
    rw [my ag hx (cI hjl.1) (ji.trans Wl.symm),((hm.ino _ (cI hjl.1)).plain hk).2.2] at hex
    cases hex
   refine⟨fun he=>hk ?_,fun fI=>?_⟩
   ·rw [← my ag (cI Ac.1) (cI hjl.1) (by rw [xe,Wl];exact he)];exact h.MP
   ·have:∀c,dL u.2.1 bB c→False:=by
     intro c hc
     induction hc with
     | single h=>exact aiu _ h
     | tail _ _ ih=>exact ih
    exact this _ fI
 have sZ:∀c,dL u.2.1 1 c→c≠bB→¬dL u.2.1 bB c→dL (eI u.2.1 ir cr it dS bB) 1 c:=by
  intro c hc
  induction hc with
  | single h1=>exact fun hne _=>.single (hE _ _ hne h1)
  | tail h1 h2 ih=>exact fun hne lU=>.tail (ih (fun he=>lU (.single (he ▸ h2))) fun fI=>lU (.tail fI h2)) (hE _ _ hne h2)
 have Wp:dL (eI u.2.1 ir cr it dS bB) 1 bB:=by
  by_cases h1:jh=1
  ·exact .single (h1 ▸ Af)
  ·refine .tail (sZ jh ?_ Wo.1 Wo.2) Af
   have:=hm.reach _ (cI Ac.1) (by rw [xe];exact h1)
   rwa [xe] at this
 have hA:∀c,dL u.2.1 1 c→dL (eI u.2.1 ir cr it dS bB) 1 c:=by
  intro c hc
  induction hc with
  | @single b h1 =>
   by_cases Ag:b=bB
   ·rw [Ag];exact Wp
   ·exact .single (hE _ _ Ag h1)
  | @tail b c h1 h2 ih =>
   by_cases Ag:c=bB
   ·rw [Ag];exact Wp
   ·exact .tail ih (hE _ _ Ag h2)
 have ka:=Ga.1 hf
 refine mx.2 ⟨hm.next,?_,gn,?_,?_,?_,?_,?_,ka.1,ka.2⟩
 ·show(List.set _ _ _).length≤24
  rw [List.length_set,hl1];exact hm.len
 ·obtain ⟨z,hz,iV,hz2⟩:=hm.root
  obtain ⟨jq,a1,a2,a3⟩:=ait z hz
  exact⟨jq,a1,a2.trans iV,a3.trans hz2⟩
 ·intro x hx
  obtain ⟨bz,a1,a2,a3⟩:=hbk x hx
  rw [← a2];exact hm.ids bz a1
 ·intro x hx
  rcases Gf.1 hx with rfl | ⟨hx,hne⟩
  ·refine(Wm _ Ns).named (l':=eI u.2.1 ir cr it dS bB) (fun id hs=>?_) pB.1 htn aip (by rw [Nt];exact h.ex) pB.2.1 pB.2.2.1
   rw [Nt];rwa [Ad] at hs
  ·refine(Wm x hx).to fun e _ hs=>?_
   show(bj (eI u.2.1 ir cr it dS bB) e.2.1).isSome=true
   rw [Nt];rwa [Ad] at hs
 ·intro x hx hne
  obtain ⟨bz,a1,a2,a3⟩:=hbk x hx
  rw [← a2];exact hA _ (hm.reach bz a1 (by rw [a2];exact hne))
 ·intro x hx hne hk
  obtain ⟨bz,a1,a2,a3⟩:=hbk x hx
  show cg (eI u.2.1 ir cr it dS bB) (a7 x)=1
  rw [ais,← a2]
  exact hm.once bz a1 (by rw [a2];exact hne) (a3.trans hk)
theorem aiv{v:af.D}{s:aF}(hv:bI v){i:Nat}(hi:i<v.2.1.length)(hw:bI (kk v i s))(a b:Int)(h:E (kk v i s).2.1 a b):E v.2.1 a b:=by
 have hm:=mx.1 hv
 have ag:=kR hm.j2
 have ia:=kR (mx.1 hw).j2
 have aM:a7 (b1 (J I v.2.1 i) (ca (ak (J I v.2.1 i)) s))=a7 (J I v.2.1 i):=sg _ _
 obtain ⟨x,hx,ji,e,hex,mz⟩:=(hU ia).1 h
 have kt:x∈v.2.1.set i (b1 (J I v.2.1 i) (ca (ak (J I v.2.1 i)) s)):=by
  unfold kk goN at hx
  cases hc:decide (cg (v.2.1.set i (b1 (J I v.2.1 i) (ca (ak (J I v.2.1 i)) s))) (dD (ak (J I v.2.1 i)) s)=0) with
  | true=>rw [hc] at hx;exact(List.mem_filter.1 hx).1
  | false=>rw [hc] at hx;exact hx
 rcases (mem_set ag hi aM).1 kt with rfl | ⟨hx,_⟩
 ·exact(hU ag).2 ⟨_,cI hi,aM.symm.trans ji,e,se hex,mz⟩
 ·exact(hU ag).2 ⟨x,hx,ji,e,hex,mz⟩
theorem w7.ok{v:af.D}{c:aJ.D}{x:aG.D}{w:af.D}(hv:bI v)(h:w7 v c x w):bI w:=by
 obtain ⟨r,t,j,hr,hc,pz,hj,ht,htn,qM,_,h⟩:=h.out
 have iE:hQ (nameOf t)=true:=by
  rcases qM with h0 | h2
  ·exact(ht.named h0 htn).2.1
  ·exact(ht.new h2 htn).2.1
 rcases h with⟨_,rfl⟩ | ⟨hne,lU,l,ir,it,au,rfl,hf,h⟩
 ·exact hv
 rcases h with⟨_,rfl,hlen⟩ | ⟨i2,eN,fV,hk2,j_,p2,dN,hkk,rfl⟩
 ·refine Wk hv au iE hlen (fun ks hj' hk=>?_) hf
  obtain rfl:ks=j:=aU (hj'.symm.trans hj)
  exact lU hk
 ·have uL:=bX fV
  have ot:bp t≠0:=by
   have:=hv.Vo (cI (bX j_).1)
   have e:a7 (J I v.2.1 eN)=bp t:=(bX j_).2
   omega
  have hu:=Wg hv uL.1 dN ot j_ p2
  obtain ⟨_,hH⟩:=VF hv uL.1 hk2 (nameOf t)
  have hE:=fun a b=>aiv (s:=nameOf t) hv uL.1 hu a b
  have iP:(ak (J I (kk v i2 (nameOf t)).2.1 it)).length<12:=by
   have jZ:cd t≠dD (ak (J I v.2.1 i2)) (nameOf t):=by
    rw [dN]
    intro e
    rw [← e,fV] at j_
    rw [← aU j_] at p2
    obtain ⟨d,fU,_⟩:=qG (N:=ak (J I v.2.1 i2)) (s:=nameOf t) (by rw [dN];exact ot)
    rw [p2] at fU;cases fU
   obtain ⟨k',ed,az⟩:=hH (cd t) jZ i2 fV
   obtain rfl:k'=it:=aU (ed.symm.trans au.ht)
   rw [az,if_pos rfl,jX]
   have ld:=((hv.ino i2 uL.1).dir hk2).2.2.2
   obtain ⟨d,fU,ia,_⟩:=qG (N:=ak (J I v.2.1 i2)) (s:=nameOf t) (by rw [dN];exact ot)
   have:(ca (ak (J I v.2.1 i2)) (nameOf t)).length<(ak (J I v.2.1 i2)).length:=by
    unfold ca
    refine List.length_filter_lt_length_iff_exists.2 ⟨d,fU,?_⟩
    unfold bu
    simp [ia]
   omega
  refine Wk hu au iE (fun _=>iP) (fun ks hj' hk=>?_) hf
  have aiw:bp r≠dD (ak (J I v.2.1 i2)) (nameOf t):=by rw [dN];exact fun e=>hne e.symm
  obtain ⟨k',ed,az⟩:=hH (bp r) aiw j hj
  obtain rfl:k'=ks:=aU (ed.symm.trans hj')
  have qD:kindOf (J I v.2.1 j)=2:=by
   rw [az] at hk
   split at hk
   ·rename_i e;subst e;exact hk
   ·exact hk
  exact⟨(lU qD).1,fun fI=>(lU qD).2 (xa hE fI)⟩
theorem ov.ok{v:af.D}{c:aJ.D}{x:aG.D}{w:af.D}(hv:bI v)(hc:df c=true)(hx:ij x)(h:ov v c x w):bI w:=by
 rcases h with⟨hk,h⟩ | ⟨_,h⟩ | ⟨_,h⟩ | ⟨_,h⟩ | ⟨_,h⟩ | ⟨_,h⟩ | ⟨_,h⟩ | ⟨_,h⟩ | ⟨_,h⟩
 ·exact h.ok hv hc hx hk
 ·exact h.ok hv
 ·exact h.ok hv hx
 ·exact h.ok hv
 ·exact h.ok hv
 ·exact h.ok hv
 ·exact h.ok hv
 ·exact h.ok hv
 ·rw [h];exact hv
theorem qP.ok{v:af.D}{c:aJ.D}{x:aG.D}{w:af.D}{k:Int}{t:aF}(h:qP v c x w k t)(hv:jd v=true):jd w=true:=by
 have h0:w=v→jd w=true:=fun e=>by rw [e];exact hv
 cases hc:df c with
 | false=>exact h0 (h.F8 hv hc).1
 | true =>
 cases hcall:jU x with
 | false=>exact h0 (h.call hv hc (.inl hcall)).1
 | true =>
 by_cases iO:20<aA x
 ·exact h0 (h.call hv hc (.inr iO)).1
 by_cases hk:k=0
 ·exact pq.2 ((h.done hv hc hcall (by omega) hk).ok (pq.1 hv) hc (w5.1 hcall))
 ·exact h0 (h.no hv hk)
end Go.LM.kb
