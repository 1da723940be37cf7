/- Tellings, the call as a whole; a right volume stays right. Conditions: each theorem's own hypotheses. -/
import Derived.Test.YtklmgcjamifmaaaGreatDoorLVd
set_option linter.unusedVariables false
set_option linter.unusedSimpArgs false
namespace Go.LM.kA
def l5(a:Int):aF:=gF [IntKind.wrap .u8 (aK (48+a))]
theorem rj(a:Int):(l5 a).length=1:=rfl
def lp(x:Int):Int:=if Int.tmod x 10<0 then -(Int.tmod x 10) else Int.tmod x 10
def s4(b:Bool)(t:aF):aF:=cond b ([45]++t) t
theorem WU(m:Nat)(x:Int)(t:aF)(b:Bool):pO (m+1) x t b=zz (pO m) x t b:=rfl
theorem ait(m:Nat)(y:Int)(t:aF)(x:Int):(mN (m+1)).bb y t x=LH (mN m) y t x:=rfl
theorem aiu(m:Nat)(y:Int)(t:aF)(x a:Int):(mN (m+1)).c5 y t x a=LI (mN m) y t x a:=rfl
theorem N3(x:Int):(-9≤Int.tmod x 10∧Int.tmod x 10≤9)∧(0≤x→0≤Int.tmod x 10)∧(x≤0→Int.tmod x 10≤0):=by
 have h1:=Int.tmod_lt_of_pos x (show(0:Int)<10 by decide)
 have h2:=Int.lt_tmod_of_pos x (show(0:Int)<10 by decide)
 refine⟨by omega,fun h=>Int.tmod_nonneg _ h,fun h=>?_⟩
 have h3:0≤Int.tmod (-x) 10:=Int.tmod_nonneg _ (by omega)
 rw [Int.neg_tmod] at h3
 omega
theorem N4(x:Int):10*Int.tdiv x 10+Int.tmod x 10=x:=Int.mul_tdiv_add_tmod x 10
theorem WV(neg:Bool)(t:aF)(h:t.length≤1000) :
  cond neg (cond (room (([45]:aF).length+t.length)) (some (([45]:aF)++t,())) none) (some (t,()))=some (s4 neg t,()):=by
 rw [cH (by simp;omega)]
 cases neg <;> rfl
theorem aiv(m:Nat)(t:aF)(neg:Bool)(h:t.length≤1000):pO (m+1) 0 t neg=some (s4 neg t,()):=by
 rw [WU]
 unfold zz
 rw [show((0:Int) != 0)=false from rfl]
 simp only [cond_false]
 exact WV neg t h
theorem WW(m:Nat)(x:Int)(t:aF)(neg:Bool)(hx:x≠0)(h:t.length≤1000)(hb : -4000000000000000000≤x∧x≤4000000000000000000):pO (m+1) x t neg=pO m (Int.tdiv x 10) (l5 (lp x)++t) neg:=by
 have h1:=N3 x
 have h2:=N4 x
 rw [WU]
 unfold zz
 rw [cI hx]
 simp only [cond_true]
 rw [eh (a:=Int.tdiv x 10) (by omega) (by omega)]
 by_cases hn:Int.tmod x 10<0
 ·rw [decide_eq_true hn]
  simp only [cond_true]
  rw [eh (a:=0-Int.tmod x 10) (by omega) (by omega)]
  rw [show lp x=0-Int.tmod x 10 by unfold lp;rw [if_pos hn];omega]
  rw [show gF [IntKind.wrap .u8 (aK (48 +(0-Int.tmod x 10)))]=l5 (0-Int.tmod x 10) from rfl,cH (by rw [rj];omega)]
  rfl
 ·rw [decide_eq_false hn]
  simp only [cond_false]
  rw [show lp x=Int.tmod x 10 by unfold lp;rw [if_neg hn]]
  rw [show gF [IntKind.wrap .u8 (aK (48+Int.tmod x 10))]=l5 (Int.tmod x 10) from rfl,cH (by rw [rj];omega)]
  rfl
theorem N5(m:Nat)(y x:Int)(t:aF)(h:t.length≤900)(hb : -4000000000000000000≤x∧x≤4000000000000000000) :
  (mN (m+2)).bb y t x=cond (c2 x (-9) 9) (some (s4 (decide (y<0)) (l5 (lp x)++t),())) ((mN m).bb y (l5 (lp x)++t) (Int.tdiv x 10)):=by
 have h1:=N3 x
 have h2:=N4 x
 have key:∀a,(mN (m+1)).c5 y t x a=cond (c2 x (-9) 9) (some (s4 (decide (y<0)) (l5 a++t),())) ((mN m).bb y (l5 a++t) (Int.tdiv x 10)):=by
  intro a
  rw [aiu]
  unfold LI
  rw [show gF [IntKind.wrap .u8 (aK (48+a))]=l5 a from rfl,cH (by rw [rj];omega),js,eh (a:=Int.tdiv x 10) (by omega) (by omega)]
  simp only [cond_true,av]
  rw [WV (decide (y<0)) (l5 a++t) (by rw [List.length_append,rj];omega)]
 rw [ait]
 unfold LH
 by_cases hn:Int.tmod x 10<0
 ·rw [decide_eq_true hn]
  simp only [cond_true]
  rw [eh (a:=0-Int.tmod x 10) (by omega) (by omega),key,show lp x=0-Int.tmod x 10 by unfold lp;rw [if_pos hn];omega]
 ·rw [decide_eq_false hn]
  simp only [cond_false]
  rw [key,show lp x=Int.tmod x 10 by unfold lp;rw [if_neg hn]]
theorem aiw:∀(k:Nat) (x:Int),k≤18→x≠0 → -(10 ^ k:Int)<x→x<(10 ^ k:Int) →
  ∃t:aF,t.length≤k∧(∀(m:Nat) (a:aF) (neg:Bool),k<m→a.length+k≤500→pO m x a neg=some (s4 neg (t++a),())) ∧
   (∀(m:Nat) (y:Int) (a:aF),2*k<m→a.length+k≤500→(mN m).bb y a x=some (s4 (decide (y<0)) (t++a),())):=by
 intro k
 induction k with
 | zero=>intro x hk h0 h1 h2;simp at h1 h2;omega
 | succ k ih =>
  intro x hk h0 h1 h2
  have ag:=N3 x
  have hm:=N4 x
  have AI:(10 ^ k:Int)≤100000000000000000:=by
   have:(10:Nat) ^ k≤10 ^ 17:=Nat.pow_le_pow_right (by decide) (by omega)
   have h3:((10 ^ k:Nat):Int)≤((10 ^ 17:Nat):Int):=Int.ofNat_le.2 this
   simpa using h3
  have au:(10 ^ (k+1):Int)=10*10 ^ k:=by rw [Int.pow_succ];omega
  rw [au] at h1 h2
  generalize vl:(10 ^ k:Int)=P at *
  by_cases iV : -9≤x∧x≤9
  ·refine⟨l5 (lp x),by rw [rj];omega,fun m a neg pw ha=>?_,fun m y a pw ha=>?_⟩
   ·obtain ⟨m,rfl⟩:∃q,m=q+1+1:=⟨m-2,by omega⟩
    rw [WW _ x a neg h0 (by omega) (by omega),show Int.tdiv x 10=0 by omega]
    exact aiv m _ neg (by rw [List.length_append,rj];omega)
   ·obtain ⟨m,rfl⟩:∃q,m=q+2:=⟨m-2,by omega⟩
    rw [N5 m y x a (by omega) (by omega),show c2 x (-9) 9=true from dN.2 iV];rfl
  ·obtain ⟨t,ht,hs,hi⟩:=ih (Int.tdiv x 10) (by omega) (by omega) (by omega) (by omega)
   refine⟨t++l5 (lp x),by rw [List.length_append,rj];omega,fun m a neg pw ha=>?_,fun m y a pw ha=>?_⟩
   ·obtain ⟨m,rfl⟩:∃q,m=q+1:=⟨m-1,by omega⟩
    rw [WW _ x a neg h0 (by omega) (by omega)]
    rw [hs m (l5 (lp x)++a) neg (by omega) (by rw [List.length_append,rj];omega),List.append_assoc]
   ·obtain ⟨m,rfl⟩:∃q,m=q+2:=⟨m-2,by omega⟩
    rw [N5 m y x a (by omega) (by omega),show c2 x (-9) 9=false from Bool.eq_false_iff.2 fun h=>iV (dN.1 h)]
    simp only [cond_false]
    rw [hi m y (l5 (lp x)++a) (by omega) (by rw [List.length_append,rj];omega),List.append_assoc]
def p_(x:Int):aF:=match zV (x,()) with | some r=>r.1 | none=>[]
theorem lq(x:Int)(h : -1000000000000<x∧x<1000000000000):(p_ x).length≤20∧hO (x,())=some (p_ x,())∧zV (x,())=some (p_ x,()):=by
 obtain ⟨t,h1,h2,h3⟩:∃t:aF,t.length≤20∧hO (x,())=some (t,())∧zV (x,())=some (t,()):=by
  by_cases h0:x=0
  ·subst h0
   refine⟨[48],by simp,rfl,?_⟩
   obtain ⟨q,hq,_⟩:=iI 2
   show(mN aQ).bb 0 [] 0=_
   rw [hq,N5 q 0 0 [] (by simp) (by omega)];rfl
  ·obtain ⟨t,ht,hs,hi⟩:=aiw 12 x (by omega) h0 (by simpa using h.1) (by simpa using h.2)
   refine⟨s4 (decide (x<0)) t,?_,?_,?_⟩
   ·unfold s4
    cases decide (x<0)
    ·simp only [cond_false];omega
    ·simp only [cond_true,List.length_append,List.length_cons,List.length_nil];omega
   ·show cond (x==0) _ (pO aQ x [] (decide (x<0)))=_
    rw [b4 h0]
    simp only [cond_false]
    rw [hs aQ [] _ (jq (by omega)) (by simp),List.append_nil]
   ·show(mN aQ).bb x [] x=_
    rw [hi aQ x [] (jq (by omega)) (by simp),List.append_nil]
 have e:p_ x=t:=by unfold p_;rw [h3]
 rw [e]
 exact⟨h1,h2,h3⟩
theorem aix(xs:List aF)(sep:aF)(B:Nat)(h:∀t,t∈xs→t.length≤B):(Lib.joinTail sep xs).length≤xs.length*(sep.length+B):=by
 induction xs with
 | nil=>simp [Lib.joinTail]
 | cons y r ih =>
  have h1:=h y (by simp)
  have h2:=ih fun t ht=>h t (by simp [ht])
  simp only [Lib.joinTail,List.map_cons,List.flatten_cons,List.length_append,List.length_cons,Nat.add_one_mul] at h2 ⊢
  omega
theorem GS(xs:List aF)(sep:aF)(B:Nat)(h:∀t,t∈xs→t.length≤B):(Lib.join xs sep).length≤xs.length*(sep.length+B):=by
 cases xs with
 | nil=>simp [Lib.join_nil]
 | cons y r =>
  have h1:=h y (by simp)
  have h2:=aix r sep B fun t ht=>h t (by simp [ht])
  rw [Lib.join_cons,List.length_append,List.length_cons,Nat.add_one_mul]
  omega
theorem aiy(xs:List aF)(y sep:aF)(h:xs≠[]):Lib.join (xs++[y]) sep=Lib.join xs sep++sep++y:=by
 cases xs with
 | nil=>exact absurd rfl h
 | cons x r=>simp [Lib.join_cons,Lib.joinTail,List.append_assoc]
theorem WX(xs:List aF)(sep:aF)(B:Nat)(h:∀t,t∈xs→t.length≤B)(hl:xs.length*(sep.length+B)≤68719476736)(hn:xs.length≤68719476736):joinF xs sep=some (Lib.join xs sep,()):=by
 unfold joinF
 rw [if_pos ⟨hn,Nat.le_trans (GS xs sep B h) hl⟩]
theorem N6(L:List Int)(hl:L.length≤100)(h:∀x,x∈L → -1000000000000<x∧x<1000000000000):q2 (L,())=some (Lib.join (L.map p_) [32],()):=by
 show ve aQ L (L.length:Int) 0 []=_
 have:=mQ L.length (by omega) (fun m i=>ve m L (L.length:Int) i ((L.take i.toNat).map p_)) (fun _=>some (Lib.join (L.map p_) [32],())) (fun _=>True) (fun m _=>by
  simp only [ve,Ff]
  rw [cT (Nat.le_refl _),Int.toNat_natCast,List.take_length]
  simp only [cond_false]
  show Option.bind (joinF (L.map p_) [32]) _=_
  rw [WX _ _ 20 (fun t ht=>by
   obtain ⟨x,hx,rfl⟩:=List.mem_map.1 ht
   exact(lq x (h x hx)).1) (by simp;omega) (by simp;omega)];rfl) (fun m i hi _ hw ih=>by
  have hx:L[i]∈L:=List.getElem_mem hi
  have ih:=ih trivial
  rw [Int.toNat_natCast_add_one,List.take_succ_eq_append_getElem hi,List.map_append] at ih
  simp only [ve,Ff,hw]
  rw [cq hi,bC hi,Int.toNat_natCast]
  simp only [cond_true,av]
  rw [show J (ad.int .i64) L i=L[i] from c7 hi,(lq _ (h _ hx)).2.2]
  simp only [av]
  rw [cH (by simp;omega)]
  exact ih) L.length 0 aQ (by omega) (jq (by omega)) trivial
 simpa using this
def dC(v:af.D)(c:aI.D)(x:aH.D)(a:Option (aG.D×aL.D×Unit))(b:Option (aG.D×Unit)):Prop:=∃res:aG.D,a=some (res,(v,c,x,()),())∧b=some (res,())∧res.2.1.length≤1000∧(res.1=0∨res.2.1=[])
theorem dC.is{v:af.D}{c:aI.D}{x:aH.D}{a:Option (aG.D×aL.D×Unit)}{b:Option (aG.D×Unit)}(k:Int)(t:aF)(ha:a=some ((k,t,()),(v,c,x,()),()))(hb:b=some ((k,t,()),()))(hl:t.length≤1000:=by simp)(h0:k=0∨t=[]:=by simp):dC v c x a b:=⟨(k,t,()),ha,hb,hl,h0⟩
theorem aiz(m:Nat)(a b d e):(fs (m+1)).bw a b d e=Kl (fs m) a b d e:=rfl
theorem vy(m:Nat)(a b d e f):(fs (m+1)).da a b d e f=qQ (fs m) a b d e f:=rfl
theorem WY(m:Nat)(a b d e f):(fs (m+1)).nJ a b d e f=DH (fs m) a b d e f:=rfl
theorem WZ(m:Nat)(a b d e):(fs (m+1)).sf a b d e=DI (fs m) a b d e:=rfl
theorem aiA(m:Nat)(a b d e):(fs (m+1)).DG a b d e=Km (fs m) a b d e:=rfl
def lr(x:aH.D):Bool:=az x != 11&&(az x != 14||bO x==0)
def m4(x:aH.D):Bool:=(az x==14&&(bO x != 0&&bO x != 1))||(az x==17 && !c2 (bO x) 0 7)
def qa:aG.D:=(0,([]:aF),())
theorem aiB(m:Nat)(v:af.D)(c:aI.D)(x:aH.D)(z:aG.D):(fs (m+1)).bw v c x z=Option.bind (dX (v,c,ew x,lr x,())) fun r=>(fs m).da v c x z r.1:=by
 rw [aiz]
 unfold Kl lr
 show cond (az x != 11) (cond (az x != 14) (Option.bind (dX (v,c,ew x,true,())) _) (Option.bind (dX (v,c,ew x,bO x==0,())) _)) (Option.bind (dX (v,c,ew x,false,())) _)=_
 cases az x != 11
 ·rfl
 ·cases az x != 14 <;> rfl
theorem N7(K:nI)(v:af.D)(c:aI.D)(x:aH.D)(hk:az x≠18):qP K v c x=cond (m4 x) (some ((22,[],()),())) (K.bw v c x qa):=by
 unfold qP m4
 have N8:∀k:Option (aG.D×Unit),Option.bind (eg (bO x,0,7,())) (fun v4=>cond (!v4.1) (some ((22,([]:aF),()),())) k)=cond (!c2 (bO x) 0 7) (some ((22,([]:aF),()),())) k:=fun k=>by rw [jr];rfl
 show cond (az x==18) _ (cond (az x==14) (cond (bO x != 0) (cond (bO x != 1) _ (cond (az x==17) (Option.bind (eg (bO x,0,7,())) _) _)) (cond (az x==17) (Option.bind (eg (bO x,0,7,())) _) _)) (cond (az x==17) (Option.bind (eg (bO x,0,7,())) (fun v4=>cond (!v4.1) (some ((22,([]:aF),()),())) (K.bw v c x qa))) (K.bw v c x qa)))=_
 rw [b4 hk]
 simp only [cond_false]
 by_cases wu:az x=14
 ·rw [cF wu,b4 (show az x≠17 by omega)]
  cases bO x != 0 <;> cases bO x != 1 <;> rfl
 ·rw [b4 wu]
  simp only [cond_false,Bool.false_and,Bool.false_or]
  rw [N8]
  cases az x==17
  ·rfl
  ·cases c2 (bO x) 0 7 <;> rfl
theorem xS(v:af.D)(c:aI.D)(x:aH.D)(hk:az x≠18)(hb:m4 x=false)(cf:n0 v.2.1)(r:aV.D)(hs:dX (v,c,ew x,lr x,())=some (r,())) :
  ∃q,4611686018427387904<q∧kE (v,c,x,())=(fs (q+1)).da v c x qa r:=by
 obtain ⟨q,hq,h7⟩:=iI 2
 refine⟨q,h7,?_⟩
 show qP (fs aQ) v c x=_
 rw [N7 _ _ _ _ hk,hb,hq]
 simp only [cond_false]
 rw [aiB,hs];rfl
theorem AU(v:af.D)(c:aI.D)(x:aH.D)(q:Nat)(r:aV.D)(h:bG r≠0):(fs (q+1)).da v c x qa r=some ((bG r,[],()),()):=by
 rw [vy]
 unfold qQ
 show cond (bG r != 0) _ _=_
 rw [cI h];rfl
theorem aiC(v:af.D)(c:aI.D)(x:aH.D)(hv:bz v)(hc:dd c=true)(hx:im x)(hk:az x=11):dC v c x (Fc ((v,c,x,()),())) (kE (v,c,x,())):=by
 have cf:=hv.hy
 have au:=hx.path
 obtain ⟨r,hr,fG,kj,kk⟩:=sZ v c x false cf hc (by omega)
 obtain ⟨q,hq,b1⟩:=xS v c x (by omega) (by unfold m4;rw [b4 (show az x≠14 by omega),b4 (show az x≠17 by omega)];rfl) cf r (by
  rw [show lr x=false by unfold lr;rw [dq hk];rfl];exact fG)
 show dC v c x (LG (v,c,x,())) _
 rw [b1]
 unfold LG
 by_cases b3:bG r=0
 case neg =>
  rw [kj b3,AU v c x q r b3]
  simp only [av]
  rw [cI b3]
  exact dC.is (bG r) [] rfl rfl
 obtain ⟨i,hi,eY⟩:=kk b3
 have bR:=bZ hi
 rw [eY,vy]
 unfold qQ
 show dC v c x _ (cond (bG r != 0) _ (Option.bind (eW (v,bn r,())) _))
 rw [dq b3,ik v _ cf.len hi]
 simp only [cond_false,av]
 rw [show((0:Int) != 0)=false from rfl,bC bR.1]
 simp only [cond_false,av]
 show dC v c x (cond (kindOf (J I v.2.1 i) != 3) _ _) (cond (az x==4) _ (cond (az x==11) (cond (kindOf (J I v.2.1 i) != 3) _ _) _))
 rw [b4 (show az x≠4 by omega),cF hk]
 simp only [cond_false,cond_true]
 cases kindOf (J I v.2.1 i) != 3 with
 | true=>exact dC.is 22 [] rfl rfl
 | false=>exact dC.is 0 (bA (J I v.2.1 i)) rfl rfl (by have:=hv.fF bR.1;omega)
theorem aiD(v:af.D)(c:aI.D)(x:aH.D)(hv:bz v)(hc:dd c=true)(hx:im x)(hk:az x=17) :
  dC v c x (Option.bind (Fv ((v,c,x,()),())) fun v6=>Option.bind (eX (v6.1,())) fun bt=>some (bt.1,v6.2.1,())) (kE (v,c,x,())):=by
 have cf:=hv.hy
 have au:=hx.path
 show dC v c x (Option.bind (LP (v,c,x,())) _) _
 unfold LP
 show dC v c x (Option.bind (Option.bind (eL (bO x,0,7,())) _) _) _
 rw [js]
 simp only [av]
 cases hN:c2 (bO x) 0 7 with
 | false =>
  have dS:kE (v,c,x,())=some ((22,[],()),()):=by
   show qP (fs aQ) v c x=_
   rw [N7 _ _ _ _ (by omega),show m4 x=true by unfold m4;rw [cF hk,hN];simp];rfl
  rw [dS]
  exact dC.is 22 [] rfl rfl
 | true =>
 obtain ⟨r,hr,fG,kj,kk⟩:=sZ v c x true cf hc (by omega)
 obtain ⟨q,hq,b1⟩:=xS v c x (by omega) (by unfold m4;rw [b4 (show az x≠14 by omega),hN];simp) cf r (by
  rw [show lr x=true by unfold lr;rw [cI (show az x≠11 by omega),cI (show az x≠14 by omega)];rfl];exact fG)
 rw [b1]
 simp only [Bool.not_true,cond_false]
 by_cases b3:bG r=0
 case neg =>
  rw [kj b3,AU v c x q r b3]
  simp only [av]
  rw [cI b3]
  exact dC.is (bG r) [] rfl rfl
 obtain ⟨i,hi,eY⟩:=kk b3
 have bR:=bZ hi
 rw [eY,vy]
 unfold qQ
 show dC v c x _ (cond (bG r != 0) _ (Option.bind (eW (v,bn r,())) _))
 rw [dq b3,ik v _ cf.len hi]
 simp only [cond_false,av]
 rw [show((0:Int) != 0)=false from rfl,bC bR.1]
 simp only [cond_false,av]
 show dC v c x (Option.bind (Option.bind (pR (c,J I v.2.1 i,bO x,())) _) _) (cond (az x==4) _ (cond (az x==11) _ (cond (az x==13) _ (cond (az x==14) _ (cond (az x==17) (Option.bind (jL (c,J I v.2.1 i,bO x,())) _) _)))))
 rw [b4 (show az x≠4 by omega),b4 (show az x≠11 by omega),b4 (show az x≠13 by omega),b4 (show az x≠14 by omega),cF hk]
 simp only [cond_false,cond_true]
 rw [Aq c _ _ hc,mV c _ _ hc]
 simp only [av]
 cases may c (J I v.2.1 i) (bO x) with
 | false=>exact dC.is 13 [] rfl rfl
 | true=>exact dC.is 0 [] rfl rfl
theorem N9(L:List Int)(hl:L.length≤40)(h:∀x,x∈L → -1000000000000<x∧x<1000000000000):(Lib.join (L.map p_) [32]).length≤1000:=by
 refine Nat.le_trans (GS _ _ 20 fun t ht=>?_) ?_
 ·obtain ⟨x,hx,rfl⟩:=List.mem_map.1 ht
  exact(lq x (h x hx)).1
 ·rw [List.length_map,List.length_singleton];omega
theorem aiE(N:List ax.D)(hN:N.length≤12)(cV:∀d,d∈N→d.1.length≤8):(Lib.join (N.map fun d=>d.1) [47]).length≤1000:=by
 refine Nat.le_trans (GS _ _ 8 fun t ht=>?_) ?_
 ·obtain ⟨d,ag,rfl⟩:=List.mem_map.1 ht
  exact cV d ag
 ·rw [List.length_map,List.length_singleton];omega
theorem aiF(v:af.D)(c:aI.D)(x:aH.D)(hv:bz v)(hk:az x=18) :
  dC v c x (Option.bind (sn (v,())) fun dn=>Option.bind (q2 ([(v.2.1.length:Int),dn.1],())) fun v9=>some ((0,v9.1,()),(v,c,x,()),())) (kE (v,c,x,())):=by
 have hl:=hv.len
 have hb:=hv.bytes
 show dC v c x _ (qP (fs aQ) v c x)
 unfold qP
 show dC v c x _ (cond (az x==18) (Option.bind (hO ((v.2.1.length:Int),())) _) _)
 have d1:=lq (v.2.1.length:Int) (by omega)
 have d2:=lq (bytesOf v.2.1:Int) (by omega)
 rw [cF hk,M1 v (by omega) (by omega),d1.2.1]
 simp only [cond_true,av]
 rw [cH (by simp;omega),M0 v (by omega) (by omega)]
 simp only [cond_true,av]
 rw [d2.2.1]
 simp only [av]
 rw [cH (by simp;omega),N6 _ (by simp) (by intro y aN;simp at aN;omega)]
 refine dC.is 0 _ rfl ?_ (N9 _ (by simp) (by intro y aN;simp at aN;omega))
 simp [Lib.join_cons,Lib.joinTail,List.append_assoc]
def o6(P:Int→Prop)(v:af.D)(c:aI.D)(x:aH.D)(a:Option (aG.D×aL.D×Unit))(b:Option (aG.D×Unit)):Prop:=∃res:aG.D,a=some (res,(v,c,x,()),())∧b=some (res,())∧res.2.1.length≤1000∧(res.1=0∨res.2.1=[])∧P res.1
theorem o6.is{P:Int→Prop}{v:af.D}{c:aI.D}{x:aH.D}{a:Option (aG.D×aL.D×Unit)}{b:Option (aG.D×Unit)}(k:Int)(t:aF)(ha:a=some ((k,t,()),(v,c,x,()),()))(hb:b=some ((k,t,()),()))(vl:P k)(hl:t.length≤1000:=by simp)(h0:k=0∨t=[]:=by simp):o6 P v c x a b:=⟨(k,t,()),ha,hb,hl,h0,vl⟩
def xT(v:af.D)(c:aI.D)(x:aH.D)(k:Int):Prop:=∀r,c2 (bO x) 0 1=true→dX (v,c,ew x,bO x==0,())=some (r,())→bG r=0→k=0
theorem aiG(v:af.D)(c:aI.D)(x:aH.D)(hv:bz v)(hc:dd c=true)(hx:im x)(hk:az x=14):o6 (xT v c x) v c x (zY ((v,c,x,()),())) (kE (v,c,x,())):=by
 have cf:=hv.hy
 have au:=hx.path
 show o6 (xT v c x) v c x (LJ (v,c,x,())) _
 unfold LJ
 show o6 (xT v c x) v c x (Option.bind (eL (bO x,0,1,())) fun v1=>cond (!v1.1) _ (Option.bind (mM ((v,c,x,()),bO x==0,())) _)) _
 rw [js]
 simp only [av]
 cases hN:c2 (bO x) 0 1 with
 | false =>
  have dS:kE (v,c,x,())=some ((22,[],()),()):=by
   show qP (fs aQ) v c x=_
   have hn:¬(0≤bO x∧bO x≤1):=fun h=>by rw [dN.2 h] at hN;cases hN
   rw [N7 _ _ _ _ (by omega),show m4 x=true by unfold m4;rw [cF hk,cI (show bO x≠0 by omega),cI (show bO x≠1 by omega)];rfl];rfl
  rw [dS]
  exact o6.is 22 [] rfl rfl (fun r h=>by rw [hN] at h;cases h)
 | true =>
 have p6:=dN.1 hN
 obtain ⟨r,hr,fG,kj,kk⟩:=sZ v c x (bO x==0) cf hc (by omega)
 obtain ⟨q,hq,b1⟩:=xS v c x (by omega) (by
  unfold m4
  rw [b4 (show az x≠17 by omega)]
  rcases (show bO x=0∨bO x=1 by omega) with h | h
  ·rw [dq h];simp
  ·rw [dq h];simp) cf r (by
  rw [show lr x=(bO x==0) by unfold lr;rw [cI (show az x≠11 by omega),dq hk];rfl];exact fG)
 rw [b1]
 simp only [Bool.not_true,cond_false]
 by_cases b3:bG r=0
 case neg =>
  rw [kj b3,AU v c x q r b3]
  simp only [av]
  rw [cI b3]
  exact o6.is (bG r) [] rfl rfl (fun ed _ h h0=>by
   rw [fG] at h
   have e:r=ed:=congrArg Prod.fst (aS h)
   rw [e] at b3
   exact absurd h0 b3)
 obtain ⟨i,hi,eY⟩:=kk b3
 have bR:=bZ hi
 rw [eY,vy]
 unfold qQ
 show o6 (xT v c x) v c x _ (cond (bG r != 0) _ (Option.bind (eW (v,bn r,())) _))
 rw [dq b3,ik v _ cf.len hi]
 simp only [cond_false,av]
 rw [show((0:Int) != 0)=false from rfl,bC bR.1]
 simp only [cond_false,av]
 have bS:=hv.ino i bR.1
 have GU:=hv.fF bR.1
 have hnl:(ak (J I v.2.1 i)).length≤1048576:=Nat.le_trans (fO bR.1) cf.cG
 have qb:0≤mZ v.2.1 (J I v.2.1 i)∧mZ v.2.1 (J I v.2.1 i)<100000000:=by
  unfold mZ
  have h1:=Ve v.2.1 (J I v.2.1 i).1
  have h2:mY v.2.1 (ak (J I v.2.1 i))≤(ak (J I v.2.1 i)).length:=List.length_filter_le _ _
  have h3:=cf.cG
  cases kindOf (J I v.2.1 i) != 2
  ·simp only [cond_false];omega
  ·simp only [cond_true];omega
 rw [VP v _ cf.len cf.cG hnl]
 simp only [av]
 show o6 (xT v c x) v c x (Option.bind (q2 ([kindOf (J I v.2.1 i),e7 (J I v.2.1 i),et (J I v.2.1 i),fi (J I v.2.1 i),mZ v.2.1 (J I v.2.1 i),((bA (J I v.2.1 i)).length:Int)],())) _)
  (cond (az x==4) _ (cond (az x==11) _ (cond (az x==13) _ (cond (az x==14) (Option.bind (hO (kindOf (J I v.2.1 i),())) fun v4=>cond _ (Option.bind (hO (e7 (J I v.2.1 i),())) fun v5=>cond _ (cond _ (Option.bind (hO (et (J I v.2.1 i),())) fun v6=>cond _ (cond _ (Option.bind (hO (fi (J I v.2.1 i),())) fun bt=>cond _ (cond _ (Option.bind (DF (v,aY (J I v.2.1 i),())) _) _) _) _) _) _) _) _) _))))
 have eR:1≤kindOf (J I v.2.1 i)∧kindOf (J I v.2.1 i)≤3:=by rcases bS.kind with h | h | h <;> omega
 have hm:=bS.mode
 have hu:=bS.uid
 have aB:=bS.gid
 have d1:=lq (kindOf (J I v.2.1 i)) (by omega)
 have d2:=lq (e7 (J I v.2.1 i)) (by omega)
 have d3:=lq (et (J I v.2.1 i)) (by omega)
 have d4:=lq (fi (J I v.2.1 i)) (by omega)
 have d5:=lq (mZ v.2.1 (J I v.2.1 i)) (by omega)
 have d6:=lq ((bA (J I v.2.1 i)).length:Int) (by omega)
 rw [b4 (show az x≠4 by omega),b4 (show az x≠11 by omega),b4 (show az x≠13 by omega),cF hk]
 simp only [cond_false,cond_true]
 rw [N6 _ (by simp) (by intro y aN;simp at aN;omega),d1.2.1]
 simp only [av]
 rw [cH (by simp;omega),d2.2.1]
 simp only [cond_true,av]
 rw [cH (by simp;omega),cH (by simp;omega),d3.2.1]
 simp only [cond_true,av]
 rw [cH (by simp;omega),cH (by simp;omega),d4.2.1]
 simp only [cond_true,av]
 rw [cH (by simp;omega),cH (by simp;omega),agJ v (aY (J I v.2.1 i)) cf.len cf.cG (cf.fR i bR.1)]
 simp only [cond_true,av]
 rw [d5.2.1]
 simp only [cond_true,av]
 rw [cH (by simp;omega),cH (by simp;omega)]
 simp only [cond_true]
 show o6 (xT v c x) v c x _ (Option.bind (hO (((bA (J I v.2.1 i)).length:Int),())) _)
 rw [d6.2.1]
 simp only [cond_true,av]
 rw [cH (by simp;omega)]
 refine o6.is 0 _ rfl ?_ (fun _ _ _ _=>rfl) (N9 _ (by simp) (by intro y aN;simp at aN;omega))
 simp [Lib.join_cons,Lib.joinTail,List.append_assoc]
theorem aiH(v:af.D)(c:aI.D)(x:aH.D)(hv:bz v)(hc:dd c=true)(hx:im x)(hk:az x=14):dC v c x (zY ((v,c,x,()),())) (kE (v,c,x,())):=by
 obtain ⟨res,h1,h2,h3,h4,_⟩:=aiG v c x hv hc hx hk
 exact⟨res,h1,h2,h3,h4⟩
theorem GV{s:aF}(h:ie s=true):s.length≤8:=by
 unfold ie at h
 simp only [Bool.and_eq_true] at h
 have:=dN.1 h.2.1
 omega
theorem aiI{v:af.D}(hv:bz v){i:Nat}(bR:i<v.2.1.length)(h:kindOf (J I v.2.1 i)=2):(ak (J I v.2.1 i)).length≤12∧∀d,d∈ak (J I v.2.1 i)→d.1.length≤8:=by
 have bS:=hv.ino i bR
 exact⟨(bS.dir h).2.2.2,fun d ag=>GV (bS.names d ag).1⟩
theorem W0(l:List aJ)(F:Flags):jR l F≤l.length:=by
 unfold jR o3
 refine Nat.le_trans (List.length_filter_le _ _) ?_
 rw [List.length_range];exact Nat.le_refl _
theorem GW{α : Type}(f : α → Nat)(B:Nat):∀L:List α,(∀i,i∈L→f i≤B)→(L.map f).sum≤L.length*B
 | [],_=>by simp
 | y :: r,h=>by
  have h1:=h y (by simp)
  have h2:=GW f B r fun t ht=>h t (by simp [ht])
  rw [List.map_cons,List.sum_cons,List.length_cons,Nat.add_one_mul]
  omega
theorem aiJ{v:af.D}(hv:bz v)(F:Flags):jv v.2.1 F≤v.2.1.length*64:=by
 unfold jv
 refine Nat.le_trans (GW _ 64 _ fun i hi=>?_) (Nat.mul_le_mul_right _ (W0 v.2.1 F))
 unfold o3 at hi
 exact hv.fF (List.mem_range.1 (List.mem_filter.1 hi).1)
theorem aiK(N:List ax.D)(hN:N.length≤12)(cV:∀d,d∈N→d.1.length≤8)(y:aL.D)(z:aG.D) :
  q3 aQ N (N.length:Int) 0 z [] y=some ((0,Lib.join (N.map fun d=>d.1) [47],()),y,()):=by
 have:=mQ N.length (by omega) (fun m i=>q3 m N (N.length:Int) i z ((N.take i.toNat).map fun d=>d.1) y) (fun _=>some ((0,Lib.join (N.map fun d=>d.1) [47],()),y,())) (fun _=>True) (fun m _=>by
  simp only [q3,Fi]
  rw [cT (Nat.le_refl _),Int.toNat_natCast,List.take_length]
  simp only [cond_false]
  show Option.bind (joinF (N.map fun d=>d.1) [47]) _=_
  rw [WX _ _ 8 (fun t ht=>by
   obtain ⟨d,ag,rfl⟩:=List.mem_map.1 ht
   exact cV d ag) (by simp;omega) (by simp;omega)];rfl) (fun m i hi _ hw ih=>by
  have ih:=ih trivial
  rw [Int.toNat_natCast_add_one,List.take_succ_eq_append_getElem hi,List.map_append] at ih
  simp only [q3,Fi,hw]
  rw [cq hi,bC hi,Int.toNat_natCast]
  simp only [cond_true,av]
  rw [show J ax N i=N[i] from c7 hi]
  rw [cH (by simp;omega)]
  exact ih) N.length 0 aQ (by omega) (jq (by omega)) trivial
 simpa using this
theorem aiL(n:aJ)(hN:(ak n).length≤12)(cV:∀d,d∈ak n→d.1.length≤8)(z:aG.D)(q:Nat)(hq:1000<q) :
  (fs q).sf [] 0 z n=some ((0,Lib.join ((ak n).map fun d=>d.1) [47],()),()):=by
 have hb:∀i,(Lib.join (((ak n).take i).map fun d=>d.1) [47]).length≤108:=by
  intro i
  refine Nat.le_trans (GS _ _ 8 fun t ht=>?_) ?_
  ·obtain ⟨d,ag,rfl⟩:=List.mem_map.1 ht
   exact cV d (List.mem_of_mem_take ag)
  ·simp;omega
 have key:=o4 2 (fun m i=>(fs m).sf (Lib.join (((ak n).take i).map fun d=>d.1) [47]) (i:Int) z n) (some ((0,Lib.join ((ak n).map fun d=>d.1) [47],()),())) (ak n).length 1 (fun i hi B y he=>by
  have alP:((ak n)[i]).1.length≤8:=cV _ (List.getElem_mem hi)
  have wi:=hb i
  refine he.jump 2 fun m=>?_
  rw [WZ]
  unfold DI
  show cond (decide ((i:Int)<((ak n).length:Int))) _ _=_
  rw [cq hi]
  simp only [cond_true]
  have W4:∀t:aF,t.length≤200→(fs (m+1)).DG t (i:Int) z n=(fs m).sf (t++((ak n)[i]).1) ((i+1:Nat):Int) z n:=fun t ht=>by
   rw [aiA]
   unfold Km
   show Option.bind (aO (ak n).length (i:Int)) (fun v1=>cond (room (t.length +((J ax (ak n) v1).1).length)) ((fs m).sf (t++((J ax (ak n) v1).1)) (aK ((i:Int)+1)) z n) none)=_
   rw [bC hi]
   simp only [av]
   rw [show J ax (ak n) i=(ak n)[i] from c7 hi,cH (by omega),dg i (by omega)];rfl
  have e1:((ak n).take (i+1)).map (fun d=>d.1)=((ak n).take i).map (fun d=>d.1)++[((ak n)[i]).1]:=by
   rw [List.take_succ_eq_append_getElem hi,List.map_append];rfl
  rw [e1]
  by_cases h0:i=0
  ·subst h0
   rw [show decide (((0:Nat):Int)>0)=false from rfl]
   simp only [cond_false]
   rw [W4 _ (by omega)]
   simp [Lib.join_nil,Lib.join_one]
  ·rw [decide_eq_true (show(i:Int)>0 by omega),cH (by rw [List.length_singleton];omega)]
   simp only [cond_true]
   rw [W4 _ (by rw [List.length_append,List.length_singleton];omega),aiy]
   intro h
   have:=congrArg List.length h
   simp only [List.length_map,List.length_take,List.length_nil] at this
   omega) (bV.done fun m=>by
  rw [WZ]
  unfold DI
  show cond (decide (((ak n).length:Int)<((ak n).length:Int))) _ _=_
  rw [cT (Nat.le_refl _),List.take_length];rfl)
 have:=key q (by omega)
 simpa [Lib.join_nil] using this
theorem aiM(v:af.D)(c:aI.D)(x:aH.D)(hv:bz v)(hc:dd c=true)(hx:im x)(hk:az x=13∨az x=20):dC v c x (zX ((v,c,x,()),())) (kE (v,c,x,())):=by
 have cf:=hv.hy
 have au:=hx.path
 obtain ⟨r,hr,fG,kj,kk⟩:=sZ v c x true cf hc (by omega)
 obtain ⟨q,hq,b1⟩:=xS v c x (by omega) (by unfold m4;rw [b4 (show az x≠14 by omega),b4 (show az x≠17 by omega)];rfl) cf r (by
  rw [show lr x=true by unfold lr;rw [cI (show az x≠11 by omega),cI (show az x≠14 by omega)];rfl];exact fG)
 show dC v c x (Fh (q3 aQ) (v,c,x,())) _
 rw [b1]
 unfold Fh
 by_cases b3:bG r=0
 case neg =>
  rw [kj b3,AU v c x q r b3]
  simp only [av]
  rw [cI b3]
  exact dC.is (bG r) [] rfl rfl
 obtain ⟨i,hi,eY⟩:=kk b3
 have bR:=bZ hi
 rw [eY,vy]
 unfold qQ
 show dC v c x _ (cond (bG r != 0) _ (Option.bind (eW (v,bn r,())) _))
 rw [dq b3,ik v _ cf.len hi]
 simp only [cond_false,av]
 rw [show((0:Int) != 0)=false from rfl,bC bR.1]
 simp only [cond_false,av]
 show dC v c x (cond (kindOf (J I v.2.1 i) != 2) _ (Option.bind (pR (c,J I v.2.1 i,4,())) fun v6=>cond (!v6.1) _ (cond (az x==20) (Option.bind (xk (v,aY (J I v.2.1 i),())) fun v9=>Option.bind (q2 ([eP (J I v.2.1 i),eD (J I v.2.1 i),v9.1,v9.2.1],())) _) (q3 aQ (ak (J I v.2.1 i)) ((ak (J I v.2.1 i)).length:Int) 0 (0,([]:aF),()) [] (v,c,x,())))))
  (cond (az x==4) _ (cond (az x==11) _ (cond (az x==13) (cond (!(kindOf (J I v.2.1 i)==2)) _ (Option.bind (jL (c,J I v.2.1 i,4,())) fun v3=>cond (!v3.1) _ ((fs q).sf [] 0 qa (J I v.2.1 i)))) (cond (az x==14) _ (cond (az x==17) _ (cond (!(kindOf (J I v.2.1 i)==2)) _ (Option.bind (jL (c,J I v.2.1 i,4,())) fun v12=>cond (!v12.1) _ (Option.bind (zk (v,aY (J I v.2.1 i),())) fun jO=>Option.bind (hO (eP (J I v.2.1 i),())) fun mK=>cond _ (Option.bind (hO (eD (J I v.2.1 i),())) _) _))))))))
 rw [b4 (show az x≠4 by omega),b4 (show az x≠11 by omega),b4 (show az x≠14 by omega),b4 (show az x≠17 by omega)]
 simp only [cond_false]
 by_cases ag:kindOf (J I v.2.1 i)=2
 case neg =>
  rw [cI ag,b4 ag]
  refine dC.is 20 [] rfl ?_
  cases az x==13 <;> rfl
 rw [dq ag,cF ag,mV c _ 4 hc,Aq c _ 4 hc]
 simp only [cond_false,av,Bool.not_true]
 cases may c (J I v.2.1 i) 4 with
 | false =>
  refine dC.is 13 [] rfl ?_
  cases az x==13 <;> rfl
 | true =>
 simp only [cond_false,Bool.not_true]
 have bS:=hv.ino i bR.1
 have eR:=aiI hv bR.1 ag
 rcases hk with hk | hk
 ·rw [cF hk,b4 (show az x≠20 by omega)]
  simp only [cond_false,cond_true]
  rw [aiK _ eR.1 eR.2,aiL _ eR.1 eR.2 _ q (by omega)]
  exact dC.is 0 _ rfl rfl (aiE _ eR.1 eR.2)
 ·rw [cF hk,b4 (show az x≠13 by omega)]
  simp only [cond_false,cond_true]
  have hvl:=hv.len
  have PQ:=hv.bytes
  obtain ⟨out,hf,hu⟩:=Nb v (aY (J I v.2.1 i)) cf.len cf.cG (by omega)
  obtain ⟨lC,h_⟩:=Nc hv.fR hv.gN hf
  rw [lC,h_] at hu
  have rG:jR v.2.1 (dP v.2.1 (aY (J I v.2.1 i)))≤v.2.1.length:=W0 _ _
  have ji:jv v.2.1 (dP v.2.1 (aY (J I v.2.1 i)))≤v.2.1.length*64:=aiJ hv _
  have o5:=bS.dir ag
  have d1:=lq (eP (J I v.2.1 i)) (by omega)
  have d2:=lq (eD (J I v.2.1 i)) (by omega)
  have d3:=lq (jv v.2.1 (dP v.2.1 (aY (J I v.2.1 i))):Int) (by omega)
  have d4:=lq (jR v.2.1 (dP v.2.1 (aY (J I v.2.1 i))):Int) (by omega)
  rw [hu,Vv v _ cf.len cf.cG (by omega)]
  simp only [av]
  rw [N6 _ (by simp) (by intro y aN;simp at aN;omega),d1.2.1]
  simp only [av]
  rw [cH (by simp;omega),d2.2.1]
  simp only [cond_true,av]
  rw [cH (by simp;omega),cH (by simp;omega),d3.2.1]
  simp only [cond_true,av]
  rw [cH (by simp;omega),cH (by simp;omega),d4.2.1]
  simp only [cond_true,av]
  rw [cH (by simp;omega)]
  refine dC.is 0 _ rfl ?_ (N9 _ (by simp) (by intro y aN;simp at aN;omega))
  simp [Lib.join_cons,Lib.joinTail,List.append_assoc]
theorem W5(n:aJ)(x:aH.D)(a:Nat)(ha:(a:Int)=bO x)(tJ:a≤1000000)(b:Nat)(hb:(b:Int)=dR x)(hb2:b≤1000000)(hl:(bA n).length≤64)(z:aG.D)(q:Nat)(hq:1000<q) :
  (fs q).nJ (a:Int) x z n []=some ((0,((bA n).drop a).take b,()),()):=by
 have key:∀(k m j:Nat),k<m→min (bA n).length (a+b)-j≤k→a≤j→j≤a+64∧j≤a+b→(fs m).nJ (j:Int) x z n (ez (((bA n).drop a).take (j-a)))=some ((0,((bA n).drop a).take b,()),()):=by
  intro k
  induction k with
  | zero =>
   intro m j hm h1 h2 h3
   obtain ⟨m,rfl⟩:∃p,m=p+1:=⟨m-1,by omega⟩
   rw [WY]
   unfold DH
   show cond (decide ((j:Int)<((bA n).length:Int))) (cond (decide ((j:Int)<aK (bO x+dR x))) _ _) _=_
   rw [← ha,← hb,eh (by omega) (by omega)]
   have e:∀w,w=some ((0,gF (ez (((bA n).drop a).take (j-a))),()),())→w=some (((0:Int),((bA n).drop a).take b,()),()):=fun w hw=>by
    rw [hw,WL]
    have:((bA n).drop a).take (j-a)=((bA n).drop a).take b:=by
     rw [List.take_eq_take_iff,List.length_drop];omega
    rw [this]
   by_cases hj:j<(bA n).length
   ·rw [cq hj,decide_eq_false (show ¬(j:Int)<(a:Int) +(b:Int) by omega)]
    exact e _ rfl
   ·rw [cT (by omega)]
    exact e _ rfl
  | succ k ih =>
   intro m j hm h1 h2 h3
   by_cases NZ:min (bA n).length (a+b)-j≤k
   ·exact ih m j (by omega) NZ h2 h3
   obtain ⟨m,rfl⟩:∃p,m=p+1:=⟨m-1,by omega⟩
   rw [WY]
   unfold DH
   show cond (decide ((j:Int)<((bA n).length:Int))) (cond (decide ((j:Int)<aK (bO x+dR x))) (Option.bind (aO (bA n).length (j:Int)) fun v1=>cond (room ((ez (((bA n).drop a).take (j-a))).length+[(((bA n).getD v1 0).toNat:Int)].length)) ((fs m).nJ (aK ((j:Int)+1)) x z n (ez (((bA n).drop a).take (j-a))++[(((bA n).getD v1 0).toNat:Int)])) none) _) _=_
   have hj:j<(bA n).length:=by omega
   rw [← ha,← hb,eh (a:=(a:Int) +(b:Int)) (by omega) (by omega),cq hj,decide_eq_true (show(j:Int)<(a:Int) +(b:Int) by omega),bC hj,dg j (by omega)]
   simp only [cond_true,av]
   rw [cH (by rw [GO,List.length_take,List.length_drop,List.length_singleton];omega)]
   simp only [cond_true]
   have:=ih m (j+1) (by omega) (by omega) (by omega) (by omega)
   rw [show ez (((bA n).drop a).take (j-a))++[(((bA n).getD j 0).toNat:Int)]=ez (((bA n).drop a).take (j+1-a)) by
    rw [show j+1-a=(j-a)+1 by omega,List.take_succ_eq_append_getElem (by rw [List.length_drop];omega)]
    unfold ez
    rw [List.map_append,List.getElem_drop,List.getD_eq_getElem?_getD,List.getElem?_eq_getElem hj]
    simp [show a +(j-a)=j by omega]]
   exact this
 have:=key 64 q a (by omega) (by omega) (by omega) (by omega)
 rw [Nat.sub_self] at this
 exact this
theorem aiN(v:af.D)(c:aI.D)(x:aH.D)(hv:bz v)(hc:dd c=true)(hx:im x)(hk:az x=4):dC v c x (E_ ((v,c,x,()),())) (kE (v,c,x,())):=by
 have cf:=hv.hy
 have au:=hx.path
 obtain ⟨r,hr,fG,kj,kk⟩:=WN v c x 4 cf hc (by omega)
 obtain ⟨q,hq,b1⟩:=xS v c x (by omega) (by unfold m4;rw [b4 (show az x≠14 by omega),b4 (show az x≠17 by omega)];rfl) cf r (by
  rw [show lr x=true by unfold lr;rw [cI (show az x≠11 by omega),cI (show az x≠14 by omega)];rfl];exact fG)
 show dC v c x (LA (v,c,x,())) _
 rw [b1]
 unfold LA
 by_cases b3:bG r=0
 case neg =>
  rw [kj b3,AU v c x q r b3]
  simp only [av]
  rw [cI b3]
  exact dC.is (bG r) [] rfl rfl
 obtain ⟨i,hi,eY⟩:=kk b3
 have bR:=bZ hi
 rw [eY,vy]
 unfold qQ
 show dC v c x _ (cond (bG r != 0) _ (Option.bind (eW (v,bn r,())) _))
 rw [dq b3,ik v _ cf.len hi]
 simp only [cond_false,av]
 show dC v c x _ (cond (az x==4) (cond (kindOf (J I v.2.1 i)==2) _ (Option.bind (jL (c,J I v.2.1 i,4,())) fun v2=>cond (!v2.1) _ (cond (decide (bO x<0)) _ (cond (decide (dR x<0)) _ ((fs q).nJ (bO x) x qa (J I v.2.1 i) []))))) _)
 rw [cF hk,mV c _ 4 hc]
 simp only [cond_true,av]
 cases kindOf (J I v.2.1 i)==2 with
 | true=>exact dC.is 21 [] rfl rfl
 | false =>
 cases may c (J I v.2.1 i) 4 with
 | false=>exact dC.is 13 [] rfl rfl
 | true =>
 simp only [cond_false,Bool.not_true,av]
 rw [show((0:Int) != 0)=false from rfl]
 simp only [cond_false]
 show dC v c x (cond (decide (bO x<0)) _ (cond (decide (dR x<0)) _ _)) _
 by_cases hn:bO x<0
 ·rw [decide_eq_true hn]
  exact dC.is 22 [] rfl rfl
 by_cases hm:dR x<0
 ·rw [decide_eq_false hn,decide_eq_true hm]
  exact dC.is 22 [] rfl rfl
 rw [decide_eq_false hn,decide_eq_false hm]
 simp only [cond_false]
 have GU:=hv.fF bR.1
 have alQ:=hx.n
 have nx:=hx.m
 obtain ⟨a,ha⟩:∃a:Nat,(a:Int)=bO x:=⟨(bO x).toNat,by omega⟩
 obtain ⟨b,hb⟩:∃b:Nat,(b:Int)=dR x:=⟨(dR x).toNat,by omega⟩
 rw [← ha,W5 _ x a ha (by omega) b hb (by omega) GU qa q (by omega),bC bR.1]
 simp only [av]
 show dC v c x (Option.bind (d' (bA (J I v.2.1 i)).length (jC (bO x) ((bA (J I v.2.1 i)).length:Int)) ((bA (J I v.2.1 i)).length:Int)) fun bt=>Option.bind (d' ((part (bA (J I v.2.1 i)) bt.1 (bt.2-bt.1)).length) 0 (jC (dR x) (((part (bA (J I v.2.1 i)) bt.1 (bt.2-bt.1)).length:Nat):Int))) fun dn=>some ((0,part (part (bA (J I v.2.1 i)) bt.1 (bt.2-bt.1)) dn.1 (dn.2-dn.1),()),(v,c,x,()),())) _
 generalize bA (J I v.2.1 i)=d at *
 have e1:jC (bO x) (d.length:Int)=((min a d.length:Nat):Int):=by unfold jC;split <;> omega
 rw [e1,kp (by omega) (by omega)]
 simp only [av]
 have e2:part d (min a d.length) (d.length-min a d.length)=d.drop a:=by
  unfold part
  rw [List.take_of_length_le (by rw [List.length_drop];omega)]
  by_cases h:a≤d.length
  ·rw [Nat.min_eq_left h]
  ·rw [List.drop_eq_nil_of_le (by omega),List.drop_eq_nil_of_le (by omega)]
 rw [e2]
 have e3:jC (dR x) ((d.drop a).length:Int)=((min b (d.drop a).length:Nat):Int):=by unfold jC;split <;> omega
 rw [e3]
 have fr:d' (d.drop a).length 0 ((min b (d.drop a).length:Nat):Int)=some (0,min b (d.drop a).length):=kp (lo:=0) (Nat.zero_le _) (Nat.min_le_right _ _)
 rw [fr]
 simp only [av,Nat.sub_zero]
 rw [Ai]
 refine dC.is 0 _ rfl ?_ (by rw [List.length_take,List.length_drop];omega)
 have qq:(d.drop a).take b=(d.drop a).take (min b (d.drop a).length):=List.take_eq_take_iff.2 (by omega)
 rw [qq]
def N_(v:af.D)(c:aI.D)(x:aH.D)(a:Option (aG.D×aL.D×Unit))(b:Option (af.D×aG.D×Unit))(Q:af.D→Prop):Prop :=
 ∃(k:Int) (t:aF) (w:af.D),a=some ((k,t,()),(w,c,x,()),())∧b=some (cond (k==0) w v,(k,t,()),())∧(k=0→Q w)∧t.length≤1000∧(k=0∨t=[])
theorem br.up{v:af.D}{c:aI.D}{x:aH.D}{a:Option (Int×aL.D×Unit)}{b:Option (af.D×aG.D×Unit)}{Q Q':af.D→Prop}(h:br v c x a b Q)(nB:∀w,Q w→Q' w) :
  N_ v c x (a.bind fun v1=>(eX (v1.1,())).bind fun v2=>some (v2.1,v1.2.1,())) (b.bind fun v2=>some (v2.1,v2.2.1,())) Q':=by
 obtain ⟨k,w,rfl,rfl,hq⟩:=h
 exact⟨k,[],w,rfl,rfl,fun h0=>nB w (hq h0),by simp,.inr rfl⟩
theorem dC.up{v:af.D}{c:aI.D}{x:aH.D}{a:Option (aG.D×aL.D×Unit)}{b:Option (aG.D×Unit)}{Q':af.D→Prop}(h:dC v c x a b)(nB:Q' v) :
  N_ v c x (a.bind fun v1=>some (v1.1,v1.2.1,())) (b.bind fun v2=>some (v,v2.1,())) Q':=by
 obtain ⟨⟨k,t,⟨⟩⟩,rfl,rfl,hl,h0⟩:=h
 exact⟨k,t,v,rfl,by cases k==0 <;> rfl,fun _=>nB,hl,h0⟩
def o7(v:af.D)(c:aI.D)(x:aH.D)(w:af.D):Prop :=
 ((az x=1∨az x=3∨az x=10)∧Made v c x w)∨((az x=2∨az x=8)∧AJ v c x w)∨(az x=9∧AL v c x w)∨(az x=12∧xQ v c x w)∨((az x=5∨az x=6∨az x=7)∧vx v c x w) ∨
  (az x=15∧AS v c x w)∨(az x=16∧AT v c x w)∨(az x=19∧GR v c x w)∨((az x=4∨az x=11∨az x=13∨az x=14∨az x=17∨az x=18∨az x=20)∧w=v)
noncomputable def xU(v:af.D)(c:aI.D)(x:aH.D):Option (af.D×aG.D×Unit) :=
 if az x=1∨az x=3∨az x=10 then(r' (v,c,x,())).bind fun v2=>some (v2.1,v2.2.1,())
 else if az x=2∨az x=8 then(w_ (v,c,x,())).bind fun v2=>some (v2.1,v2.2.1,())
 else if az x=9 then(Dt (v,c,x,())).bind fun v2=>some (v2.1,v2.2.1,())
 else if az x=12 then(Dy (v,c,x,())).bind fun v2=>some (v2.1,v2.2.1,())
 else if az x=5∨az x=6∨az x=7 then(xb (v,c,x,())).bind fun v2=>some (v2.1,v2.2.1,())
 else if az x=15∨az x=16∨az x=19 then(se (v,c,x,())).bind fun v2=>some (v2.1,v2.2.1,())
 else(kE (v,c,x,())).bind fun v2=>some (v,v2.1,())
theorem GX(v:af.D)(c:aI.D)(x:aH.D)(hx:im x)(kN:az x≤20):k7 (v,c,x,())=xU v c x:=by
 obtain ⟨q,hq,_⟩:=iI 4
 show sh (zA aQ) v c x=_
 unfold sh
 rw [hq,MX,rf.2 hx]
 simp only [av,Bool.not_true,cond_false]
 rw [decide_eq_false (show ¬x.1>20 from Int.not_lt.2 kN)]
 simp only [cond_false]
 have hk:=hx.di
 obtain ⟨di,rest⟩:=x
 have:az (di,rest)=1∨az (di,rest)=2∨az (di,rest)=3∨az (di,rest)=4∨az (di,rest)=5∨az (di,rest)=6∨az (di,rest)=7∨az (di,rest)=8∨az (di,rest)=9∨az (di,rest)=10∨az (di,rest)=11∨az (di,rest)=12∨az (di,rest)=13∨az (di,rest)=14∨az (di,rest)=15∨az (di,rest)=16∨az (di,rest)=17∨az (di,rest)=18∨az (di,rest)=19∨az (di,rest)=20:=by omega
 clear hx hk kN
 unfold xU
 rcases this with h | h | h | h | h | h | h | h | h | h | h | h | h | h | h | h | h | h | h | h <;>(replace h:di=_:=h;subst h;rfl)
noncomputable def N'(v:af.D)(c:aI.D)(x:aH.D):Option (aG.D×aL.D×Unit) :=
 if az x=1∨az x=3∨az x=10 then(zS ((v,c,x,()),())).bind fun v1=>(eX (v1.1,())).bind fun v2=>some (v2.1,v1.2.1,())
 else if az x=2∨az x=8 then(E5 ((v,c,x,()),())).bind fun v1=>(eX (v1.1,())).bind fun v2=>some (v2.1,v1.2.1,())
 else if az x=9 then(E6 ((v,c,x,()),())).bind fun v1=>(eX (v1.1,())).bind fun v2=>some (v2.1,v1.2.1,())
 else if az x=12 then(E9 ((v,c,x,()),())).bind fun v1=>(eX (v1.1,())).bind fun v2=>some (v2.1,v1.2.1,())
 else if az x=5∨az x=6∨az x=7 then(Fb ((v,c,x,()),())).bind fun v1=>(eX (v1.1,())).bind fun v2=>some (v2.1,v1.2.1,())
 else if az x=15 then(Fq ((v,c,x,()),())).bind fun v1=>(eX (v1.1,())).bind fun v2=>some (v2.1,v1.2.1,())
 else if az x=16 then(Fu ((v,c,x,()),())).bind fun v1=>(eX (v1.1,())).bind fun v2=>some (v2.1,v1.2.1,())
 else if az x=19 then(Fx ((v,c,x,()),())).bind fun v1=>(eX (v1.1,())).bind fun v2=>some (v2.1,v1.2.1,())
 else if az x=4 then(E_ ((v,c,x,()),())).bind fun v1=>some (v1.1,v1.2.1,())
 else if az x=11 then(Fc ((v,c,x,()),())).bind fun v1=>some (v1.1,v1.2.1,())
 else if az x=13∨az x=20 then(zX ((v,c,x,()),())).bind fun v1=>some (v1.1,v1.2.1,())
 else if az x=14 then(zY ((v,c,x,()),())).bind fun v1=>some (v1.1,v1.2.1,())
 else if az x=17 then(Option.bind (Fv ((v,c,x,()),())) fun v6=>Option.bind (eX (v6.1,())) fun bt=>some (bt.1,v6.2.1,()))
 else(Option.bind (sn (v,())) fun dn=>Option.bind (q2 ([(v.2.1.length:Int),dn.1],())) fun v9=>some ((0,v9.1,()),(v,c,x,()),()))
theorem aiO(v:af.D)(c:aI.D)(x:aH.D)(hx:im x)(kN:az x≤20):Fz ((v,c,x,()),())=N' v c x:=by
 obtain ⟨q,hq,_⟩:=iI 8
 show Fy (LS aQ) (v,c,x,())=_
 unfold Fy
 rw [hq]
 have hk:=hx.di
 obtain ⟨di,rest⟩:=x
 have:az (di,rest)=1∨az (di,rest)=2∨az (di,rest)=3∨az (di,rest)=4∨az (di,rest)=5∨az (di,rest)=6∨az (di,rest)=7∨az (di,rest)=8∨az (di,rest)=9∨az (di,rest)=10∨az (di,rest)=11∨az (di,rest)=12∨az (di,rest)=13∨az (di,rest)=14∨az (di,rest)=15∨az (di,rest)=16∨az (di,rest)=17∨az (di,rest)=18∨az (di,rest)=19∨az (di,rest)=20:=by omega
 clear hx hk kN
 unfold N'
 rcases this with h | h | h | h | h | h | h | h | h | h | h | h | h | h | h | h | h | h | h | h <;>(replace h:di=_:=h;subst h;rfl)
theorem W6(a:Option (aG.D×aL.D×Unit)):(a.bind fun v1=>some (v1.1,v1.2.1,()))=a:=by
 cases a with
 | none=>rfl
 | some r=>rfl
theorem W7(v:af.D)(c:aI.D)(x:aH.D)(hv:bz v)(hc:dd c=true)(hx:im x)(kN:az x≤20):N_ v c x (Fz ((v,c,x,()),())) (k7 (v,c,x,())) (o7 v c x):=by
 rw [aiO v c x hx kN,GX v c x hx kN]
 have hk:=hx.di
 unfold N' xU
 by_cases h1:az x=1∨az x=3∨az x=10
 ·rw [if_pos h1,if_pos h1]
  exact(ahk v c x hv hc hx).up fun w h=>.inl ⟨h1,h⟩
 rw [if_neg h1,if_neg h1]
 by_cases h2:az x=2∨az x=8
 ·rw [if_pos h2,if_pos h2]
  exact(ahr v c x hv hc hx h2).up fun w h=>.inr (.inl ⟨h2,h⟩)
 rw [if_neg h2,if_neg h2]
 by_cases h3:az x=9
 ·rw [if_pos h3,if_pos h3]
  exact(ahv v c x hv hc hx).up fun w h=>.inr (.inr (.inl ⟨h3,h⟩))
 rw [if_neg h3,if_neg h3]
 by_cases h4:az x=12
 ·rw [if_pos h4,if_pos h4]
  exact(ahW v c x hv hc hx).up fun w h=>.inr (.inr (.inr (.inl ⟨h4,h⟩)))
 rw [if_neg h4,if_neg h4]
 by_cases a7:az x=5∨az x=6∨az x=7
 ·rw [if_pos a7,if_pos a7]
  exact(aie v c x hv hc hx a7).up fun w h=>.inr (.inr (.inr (.inr (.inl ⟨a7,h⟩))))
 rw [if_neg a7,if_neg a7]
 by_cases bg:az x=15
 ·rw [if_pos bg,if_pos (.inl bg)]
  exact(aip v c x hv hc hx bg).up fun w h=>.inr (.inr (.inr (.inr (.inr (.inl ⟨bg,h⟩)))))
 rw [if_neg bg]
 by_cases bH:az x=16
 ·rw [if_pos bH,if_pos (.inr (.inl bH))]
  exact(aiq v c x hv hc hx bH).up fun w h=>.inr (.inr (.inr (.inr (.inr (.inr (.inl ⟨bH,h⟩))))))
 rw [if_neg bH]
 by_cases cV:az x=19
 ·rw [if_pos cV,if_pos (.inr (.inr cV))]
  exact(ais v c x hv hc hx cV).up fun w h=>.inr (.inr (.inr (.inr (.inr (.inr (.inr (.inl ⟨cV,h⟩)))))))
 rw [if_neg cV,if_neg (show ¬(az x=15∨az x=16∨az x=19) by omega)]
 have nB:o7 v c x v:=.inr (.inr (.inr (.inr (.inr (.inr (.inr (.inr ⟨by omega,rfl⟩)))))))
 by_cases iV:az x=4
 ·rw [if_pos iV]
  exact(aiN v c x hv hc hx iV).up nB
 rw [if_neg iV]
 by_cases j4:az x=11
 ·rw [if_pos j4]
  exact(aiC v c x hv hc hx j4).up nB
 rw [if_neg j4]
 by_cases tF:az x=13∨az x=20
 ·rw [if_pos tF]
  exact(aiM v c x hv hc hx tF).up nB
 rw [if_neg tF]
 by_cases lO:az x=14
 ·rw [if_pos lO]
  exact(aiH v c x hv hc hx lO).up nB
 rw [if_neg lO]
 by_cases wq:az x=17
 ·rw [if_pos wq]
  have:=(aiD v c x hv hc hx wq).up (Q':=o7 v c x) nB
  rwa [W6] at this
 rw [if_neg wq]
 have:=(aiF v c x hv (by omega)).up (Q':=o7 v c x) nB
 rwa [W6] at this
theorem bz.GY{v:af.D}(h:bz v):lZ (v,())=some (v,()):=vn v h.hy.len fun i hi=>Nat.le_trans (fO hi) h.hy.cG
theorem bz.aiP{v:af.D}(h:bz v):so (v,())=some (v,()):=agI v h.hy.len fun i hi=>Nat.le_trans (fO hi) h.hy.cG
structure AV(v:af.D)(c:aI.D)(x:aH.D)(w:af.D)(k:Int)(t:aF):Prop where
 bad:kc v=false→w=(0,[],())∧k=22∧t=[]
 W8:kc v=true→dd c=false→w=v∧k=22∧t=[]
 call:kc v=true→dd c=true→(kH x=false∨20<az x)→w=v∧k=22∧t=[]
 no:kc v=true→k≠0→w=v
 len:t.length≤1000
 data:k=0∨t=[]
 done:kc v=true→dd c=true→kH x=true→az x≤20→k=0→o7 v c x w
theorem xV(v:af.D)(c:aI.D)(x:aH.D)(hv:vm v):∃w k t,ka (v,c,x,())=some (w,(k,t,()),())∧gp (v,c,x,())=some (w,(k,t,()),())∧AV v c x w k t:=by
 show ∃w k t,z1 v c x=_∧LV v c x=_∧_
 unfold z1 LV
 rw [Nf v hv,Gd v hv]
 simp only [av]
 cases cd:kc v with
 | false=>exact⟨(0,[],()),22,[],rfl,rfl,fun _=>⟨rfl,rfl,rfl⟩,fun h=>by simp [cd] at h,fun h=>by simp [cd] at h,fun h=>by simp [cd] at h,by simp,.inr rfl,fun h=>by simp [cd] at h⟩
 | true =>
 have dK:=ll.1 cd
 simp only [Bool.not_true,cond_false]
 have aiQ:(Option.bind (LU (v,c,x,())) fun v3=>some (v3.1,v3.2.1,()))=zZ v c x:=by
  show(Option.bind (zZ v c x) fun v3=>some (v3.1,v3.2.1,()))=_
  cases zZ v c x <;> rfl
 rw [aiQ]
 unfold zZ
 rw [Ap,Ge,af9,dK.aiP,dK.GY]
 simp only [av]
 cases hc:dd c with
 | false=>exact⟨v,22,[],rfl,rfl,fun h=>by simp [cd] at h,fun _ _=>⟨rfl,rfl,rfl⟩,fun _ h=>by simp [hc] at h,fun _ _=>rfl,by simp,.inr rfl,fun _ h=>by simp [hc] at h⟩
 | true =>
 simp only [Bool.not_true,cond_false]
 have aiR:∀A:Option (af.D×aG.D×Unit),both (both (Option.bind A fun v5=>dup (some (v5.1,v5.2.1,()))) (dup (dup (Option.bind A fun v5=>some (v5.1,v5.2.1,()))))) (dup (both (dup (Option.bind A fun v5=>some (v5.1,v5.2.1,()))) (Option.bind A fun v5=>some (v5.1,v5.2.1,()))))=A:=by
  intro A
  simp only [jo,oH]
  cases A <;> rfl
 rw [aiR]
 have bad:kH x=false∨20<az x→k7 (v,c,x,())=some (v,(22,[],()),()):=by
  intro h
  show sh (zA aQ) v c x=_
  unfold sh
  rw [MX]
  simp only [av]
  cases hcall:kH x with
  | false=>rfl
  | true =>
   rcases h with h | h
   ·rw [hcall] at h;cases h
   ·simp only [Bool.not_true,cond_false]
    rw [decide_eq_true (show x.1>20 from h)];rfl
 cases hcall:kH x with
 | false =>
  rw [bad (.inl hcall)]
  exact⟨v,22,[],rfl,rfl,fun h=>by simp [cd] at h,fun _ h=>by simp [hc] at h,fun _ _ _=>⟨rfl,rfl,rfl⟩,fun _ _=>rfl,by simp,.inr rfl,fun _ _ h=>by simp [hcall] at h⟩
 | true =>
 have hx:=rf.1 hcall
 simp only [Bool.not_true,cond_false]
 by_cases kN:az x≤20
 case neg =>
  rw [bad (.inr (by omega)),decide_eq_true (show x.1>20 from Int.not_le.1 kN)]
  exact⟨v,22,[],rfl,rfl,fun h=>by simp [cd] at h,fun _ h=>by simp [hc] at h,fun _ _ _=>⟨rfl,rfl,rfl⟩,fun _ _=>rfl,by simp,.inr rfl,fun _ _ _ h=>absurd h kN⟩
 rw [decide_eq_false (show ¬x.1>20 from Int.not_lt.2 kN)]
 simp only [cond_false]
 obtain ⟨k,t,w,h1,h2,h3,h4,a7⟩:=W7 v c x dK hc hx kN
 rw [h1,h2]
 simp only [av]
 refine⟨cond (k==0) w v,k,t,rfl,?_,fun h=>by simp [cd] at h,fun _ h=>by simp [hc] at h,fun _ _ h=>?_,fun _ h=>by rw [b4 h];rfl,h4,a7,fun _ _ _ _ h0=>by rw [cF h0];exact h3 h0⟩
 ·by_cases h0:k=0
  ·rw [dq h0,cF h0];rfl
  ·rw [cI h0,b4 h0];rfl
 ·rcases h with h | h
  ·simp [hcall] at h
  ·omega
structure fQ(n:Nat)(x:aJ):Prop where
 fF:(bA x).length≤200
 cG:(ak x).length≤n
 each:∀d,d∈ak x→d.1.length≤8
structure e8(n:Nat)(l:List aJ):Prop where
 len:l.length≤n
 po:∀x,x∈l→fQ n x
theorem fQ.mono{n m:Nat}{x:aJ}(h:fQ n x)(hm:n≤m):fQ m x:=⟨h.fF,Nat.le_trans h.cG hm,h.each⟩
theorem e8.mono{n m:Nat}{l:List aJ}(h:e8 n l)(hm:n≤m):e8 m l:=⟨Nat.le_trans h.len hm,fun x hx=>(h.po x hx).mono hm⟩
theorem e8.get{n:Nat}{l:List aJ}(h:e8 n l){i:Nat}(hi:i<l.length):fQ n (J I l i):=h.po _ (cP hi)
theorem e8.set{n:Nat}{l:List aJ}(h:e8 n l)(i:Nat){y:aJ}(aN:fQ n y):e8 n (l.set i y):=⟨by rw [List.length_set];exact h.len,fun x hx=>by
 rcases List.mem_or_eq_of_mem_set hx with hx | rfl
 ·exact h.po x hx
 ·exact aN⟩
theorem e8.go{n:Nat}{l:List aJ}(h:e8 n l)(id:Int):e8 n (goN l id):=by
 unfold goN
 cases decide (ca l id=0)
 ·exact h
 ·exact⟨Nat.le_trans (List.length_filter_le _ _) h.len,fun x hx=>h.po x (List.mem_filter.1 hx).1⟩
theorem e8.app{n:Nat}{l:List aJ}(h:e8 n l){y:aJ}(aN:fQ n y):e8 (n+1) (l++[y]):=⟨by simp only [List.length_append,List.length_singleton];have:=h.len;omega,fun x hx=>by
 rcases List.mem_append.1 hx with hx | hx
 ·exact(h.po x hx).mono (by omega)
 ·rw [List.mem_singleton.1 hx];exact aN.mono (by omega)⟩
theorem fQ.ins{n:Nat}{x:aJ}(h:fQ n x){s:aF}(hs:s.length≤8)(id:Int):fQ (n+1) (bX x (ins (ak x) s id)):=⟨h.fF,by
 show(kA.ins (ak x) s id).length≤_
 rw [xO];have:=h.cG;omega,fun d ag=>by
 rcases n4.1 ag with ag | rfl
 ·exact h.each d ag
 ·exact hs⟩
theorem fQ.un{n:Nat}{x:aJ}(h:fQ n x)(s:aF):fQ n (bX x (b8 (ak x) s)):=⟨h.fF,Nat.le_trans (vq _ _) h.cG,fun d ag=>h.each d (sV ag)⟩
theorem W9{v:af.D}{n:Nat}(h:e8 n v.2.1):ad.cost af v≤n+n*(200+9*n):=by
 rw [Nd]
 have h1:=GW q_ (200+9*n) v.2.1 fun x hx=>by
  have au:=h.po x hx
  have h2:=GW (fun d:ax.D=>ad.cost ax d) 8 (ak x) fun d ag=>by
   rw [VB];exact au.each d ag
  unfold q_
  rw [Gb,U8]
  have:=au.fF
  have:=au.cG
  omega
 have h3:v.2.1.length*(200+9*n)≤n*(200+9*n):=Nat.mul_le_mul_right _ h.len
 have:=h.len
 omega
theorem bz.sz{v:af.D}(h:bz v):e8 24 v.2.1:=by
 refine⟨h.len.2,fun x hx=>?_⟩
 obtain ⟨i,hi,rfl⟩:=fx hx
 have bS:=h.ino i hi
 refine⟨by have:=h.fF hi;omega,?_,fun d ag=>GV (bS.names d ag).1⟩
 by_cases hk:kindOf (J I v.2.1 i)=2
 ·have:=(bS.dir hk).2.2.2;omega
 ·rw [(bS.plain hk).2.2];simp
theorem Oa{l:List aJ}{r:aV.D}(h:l4 l r)(hn:nameOf r≠[])(hc:bG r=0∨bG r=2):(nameOf r).length≤8:=by
 rcases hc with hc | hc
 ·exact GV (h.named hc hn).2.1
 ·exact GV (h.new hc hn).2.1
theorem W_{v:af.D}{n:Nat}(h:e8 n v.2.1){i:Nat}(hi:i<v.2.1.length)(s:aF):e8 n (iL v i s).2.1:=(h.set i ((h.get hi).un s)).go _
theorem aiS{l:List aJ}{n:Nat}(h:e8 n l){ir it:Nat}(hr:ir<l.length)(ht:it<l.length)(ct:aF){dZ:aF}(hs:dZ.length≤8)(id:Int):e8 (n+1) (eM l ir ct it dZ id):=by
 have h1:e8 n (dB l ir ct):=h.set ir ((h.get hr).un ct)
 refine(h1.mono (by omega)).set it (fQ.ins (n:=n) (h1.get ?_) hs id)
 unfold dB
 rw [List.length_set];exact ht
theorem aiT(s:aF)(a:Nat)(d:aF)(hs:s.length≤64)(h:a+d.length≤64):(ln s a d).length≤200:=by
 unfold ln
 rw [List.length_append,List.length_append,p8,List.length_drop];omega
theorem o7.sz{v:af.D}{c:aI.D}{x:aH.D}{w:af.D}(hv:bz v)(hx:im x)(h:o7 v c x w):e8 30 w.2.1:=by
 have jT:=hv.sz
 rcases h with⟨_,h⟩ | ⟨_,h⟩ | ⟨_,h⟩ | ⟨_,h⟩ | ⟨_,h⟩ | ⟨_,h⟩ | ⟨_,h⟩ | ⟨_,h⟩ | ⟨_,h⟩
 ·obtain ⟨r,i,hr,hc,hn,hi,_,_,_,_,_,rfl,_⟩:=h.out
  have bR:=(bZ hi).1
  have:=hx.sU
  have h1:e8 25 (v.2.1.set i (bX (J I v.2.1 i) (ins (ak (J I v.2.1 i)) (nameOf r) v.1))):=(jT.mono (by omega)).set i ((jT.get bR).ins (Oa hr hn (.inr hc)) _)
  refine(h1.app (y:=gw v c x (J I v.2.1 i)) ⟨?_,by simp [gw,ak],by simp [gw,ak]⟩).mono (by omega)
  show(if az x=10 then iK x else []).length≤200
  split
  ·omega
  ·simp
 ·obtain ⟨r,i,j,_,_,_,hi,_,_,_,_,_,_,rfl⟩:=h.out
  exact(W_ jT (bZ hi).1 _).mono (by omega)
 ·obtain ⟨r,t,i,j,_,_,_,_,ht,n8,htn,hi,_,_,rfl,_⟩:=h.out
  exact((jT.mono (by omega)).set i ((jT.get (bZ hi).1).ins (Oa ht htn (.inr n8)) _)).mono (by omega)
 ·obtain ⟨r,t,j,hr,hc,hn,hj,ht,htn,n8,_,h⟩:=h.out
  rcases h with⟨_,rfl⟩ | ⟨_,_,l,ir,it,au,rfl,_,h⟩
  ·exact jT.mono (by omega)
  ·have hl:e8 24 l:=by
    rcases h with⟨_,rfl,_⟩ | ⟨i2,eU,e',_,_,_,_,_,rfl⟩
    ·exact jT
    ·exact W_ jT (bZ e').1 _
   exact(aiS hl (bZ au.hr).1 (bZ au.ht).1 _ (Oa ht htn n8) _).mono (by omega)
 ·obtain ⟨r,i,hr,hc,hi,_,_,_,ha,_,h⟩:=h.out
  rcases h with⟨_,_,rfl⟩ | ⟨_,hle,rfl,_⟩
  ·exact jT.mono (by omega)
  ·have au:=jT.get (bZ hi).1
   refine(jT.mono (by omega)).set i ⟨?_,by have:=au.cG;exact Nat.le_trans this (by omega),au.each⟩
   show(hT x (J I v.2.1 i)).length≤200
   have ag:=hv.fF (bZ hi).1
   unfold hT
   split
   ·rename_i bH
    rw [p8]
    have:ei x (J I v.2.1 i)=bO x:=by unfold ei;rw [if_neg (by omega)]
    omega
   ·exact aiT _ _ _ ag (by omega)
 ·obtain ⟨_,_,r,i,_,_,hi,_,_,rfl⟩:=h.out
  have au:=jT.get (bZ hi).1
  exact(jT.mono (by omega)).set i ⟨au.fF,Nat.le_trans au.cG (by omega),au.each⟩
 ·obtain ⟨_,_,r,i,_,_,hi,rfl⟩:=h.out
  have au:=jT.get (bZ hi).1
  exact(jT.mono (by omega)).set i ⟨au.fF,Nat.le_trans au.cG (by omega),au.each⟩
 ·obtain ⟨_,_,_,r,i,_,_,hi,_,rfl,_⟩:=h.out
  have au:=jT.get (bZ hi).1
  exact(jT.mono (by omega)).set i ⟨au.fF,Nat.le_trans au.cG (by omega),au.each⟩
 ·rw [h];exact jT.mono (by omega)
theorem AV.cost{v:af.D}{c:aI.D}{x:aH.D}{w:af.D}{k:Int}{t:aF}(h:AV v c x w k t)(hv:ad.cost af v≤1048576):ad.cost af w≤1048576:=by
 have h0:w=v→ad.cost af w≤1048576:=fun e=>by rw [e];exact hv
 cases cd:kc v with
 | false=>rw [(h.bad cd).1,Nd];simp
 | true =>
 cases hc:dd c with
 | false=>exact h0 (h.W8 cd hc).1
 | true =>
 cases hcall:kH x with
 | false=>exact h0 (h.call cd hc (.inl hcall)).1
 | true =>
 by_cases kN:20<az x
 ·exact h0 (h.call cd hc (.inr kN)).1
 by_cases hk:k=0
 ·have:=W9 ((h.done cd hc hcall (by omega) hk).sz (ll.1 cd) (rf.1 hcall))
  omega
 ·exact h0 (h.no cd hk)
structure aiU(n:Int)(l:List aJ):Prop where
 next:2≤n∧n≤100000
 len:l.length≤24
 kl:l.Pairwise fun a b=>aY a<aY b
 root:∃x,x∈l∧aY x=1∧kindOf x=2
 ids:∀x,x∈l→1≤aY x∧aY x≤n-1
 ino:∀x,x∈l→lk l x
 reach:∀x,x∈l→aY x≠1→dQ l 1 (aY x)
 once:∀x,x∈l→aY x≠1→kindOf x=2→ca l (aY x)=1
 bytes:bytesOf l≤400
 over:gr l=false
theorem aiV{l:List aJ}(h:l.Pairwise fun a b=>aY a<aY b):Ax l:=h.imp fun h=>by omega
theorem lu{l:List aJ}(h:l.Pairwise fun a b=>aY a<aY b):ig l:=Ay.2 (aiV h)
theorem GZ{l:List aJ}(h:l.Pairwise fun a b=>aY a<aY b){i j:Nat}(iM:i<j)(hj:j<l.length):aY (J I l i)<aY (J I l j):=by
 rw [c7 (by omega),c7 hj]
 exact List.pairwise_iff_getElem.1 h i j (by omega) hj iM
theorem Xa{l:List aJ}(h:∀i,i+1<l.length→aY (J I l i)<aY (J I l (i+1))):l.Pairwise fun a b=>aY a<aY b:=by
 have cA:∀d j,j+d+1<l.length→aY (J I l j)<aY (J I l (j+d+1)):=by
  intro d
  induction d with
  | zero=>intro j hj;exact h j hj
  | succ d ih=>intro j hj;exact Int.lt_trans (ih j (by omega)) (h (j+d+1) hj)
 rw [List.pairwise_iff_getElem]
 intro i j hi hj iM
 have:=cA (j-i-1) i (by omega)
 rw [show i +(j-i-1)+1=j by omega,c7 hi,c7 hj] at this
 exact this
theorem m5{v:af.D} : bz v↔aiU (cw v) v.2.1:=by
 constructor
 ·intro h
  have h0:0<v.2.1.length:=by have:=h.len;omega
  have b7:∀i,i<v.2.1.length→aY (J I v.2.1 i)≠1→1≤i:=by
   intro i hi hne
   rcases Nat.eq_zero_or_pos i with h | h
   ·subst h;exact absurd (bz.root ‹_›).1 hne
   ·exact h
  refine⟨h.next,h.len.2,Xa h.Gr,⟨_,cP h0,h.root⟩,?_,?_,?_,?_,h.bytes,h.over⟩
  ·intro x hx;obtain ⟨i,hi,rfl⟩:=fx hx;exact h.ids i hi
  ·intro x hx;obtain ⟨i,hi,rfl⟩:=fx hx;exact h.ino i hi
  ·intro x hx hne;obtain ⟨i,hi,rfl⟩:=fx hx;exact h.reach i (b7 i hi hne) hi
  ·intro x hx hne hk;obtain ⟨i,hi,rfl⟩:=fx hx;exact h.once i (b7 i hi hne) hi hk
 ·intro h
  obtain ⟨x,hx,hx1,hx2⟩:=h.root
  obtain ⟨k,hk,rfl⟩:=fx hx
  have hk0:k=0:=by
   rcases Nat.eq_zero_or_pos k with h0 | h0
   ·exact h0
   ·have h1:=GZ h.kl h0 hk
    have h2:=h.ids _ (cP (show 0<v.2.1.length by omega))
    omega
  subst hk0
  have hne:∀i,1≤i→i<v.2.1.length→aY (J I v.2.1 i)≠1:=by
   intro i hi hl
   have:=GZ h.kl (show 0<i by omega) hl
   omega
  exact⟨h.next,⟨by omega,h.len⟩,⟨hx1,hx2⟩,fun i hi=>h.ids _ (cP hi),fun i hi=>GZ h.kl (Nat.lt_succ_self i) hi,fun i hi=>h.ino _ (cP hi),fun i h1 hi=>h.reach _ (cP hi) (hne i h1 hi),fun i h1 hi hk=>h.once _ (cP hi) (hne i h1 hi) hk,h.bytes,h.over⟩
theorem iq{l:List aJ}(ag:ig l){a b:Int} : E l a b↔∃x,x∈l∧aY x=a∧∃d,d∈ak x∧d.2.1=b:=by
 constructor
 ·rintro ⟨i,d,hi,hm,he⟩
  exact⟨J I l i,cP (bZ hi).1,(bZ hi).2,d,hm,he⟩
 ·rintro ⟨x,hx,rfl,d,hm,he⟩
  obtain ⟨i,hi,rfl⟩:=fx hx
  exact⟨i,d,ag i hi,hm,he⟩
theorem xW{l l':List aJ}(h:∀a b,E l a b→E l' a b){a b:Int}(hb:dQ l a b):dQ l' a b:=by
 induction hb with
 | single h1=>exact .single (h _ _ h1)
 | tail _ h1 ih=>exact .tail ih (h _ _ h1)
theorem lk.to{l l':List aJ}{x:aJ}(h:lk l x)(hn:∀d,d∈ak x→(ba l d.2.1).isSome=true→(ba l' d.2.1).isSome=true):lk l' x :=
 ⟨h.mode,h.uid,h.gid,h.kind,h.plain,h.file,h.l3,h.dir,fun d ag=>⟨(h.names d ag).1,(h.names d ag).2.1,hn d ag (h.names d ag).2.2⟩,h.sorted⟩
theorem mem_set{l:List aJ}(ag:ig l){i:Nat}(hi:i<l.length){y:aJ}(aN:aY y=aY (J I l i)){x:aJ} : x∈l.set i y↔x=y∨(x∈l∧aY x≠aY y):=by
 constructor
 ·intro hx
  obtain ⟨j,hj,rfl⟩:=fx hx
  rw [List.length_set] at hj
  rw [gv hi]
  split
  ·exact .inl rfl
  ·rename_i iM
   refine .inr ⟨cP hj,fun he=>iM ?_⟩
   have h1:=ag i hi
   have h2:=ag j hj
   have:(J I l j).1=(J I l i).1:=(show aY (J I l j)=aY (J I l i) by rw [he,aN])
   rw [this,h1] at h2
   exact aS h2
 ·rintro (rfl | ⟨hx,hne⟩)
  ·exact List.mem_iff_getElem.2 ⟨i,by rw [List.length_set];exact hi,by rw [List.getElem_set_self]⟩
  ·obtain ⟨j,hj,rfl⟩:=fx hx
   have iM:i≠j:=fun h=>hne (by subst h;exact aN.symm)
   have:J I (l.set i y) j=J I l j:=by rw [gv hi,if_neg iM]
   rw [← this]
   exact cP (by rw [List.length_set];exact hj)
theorem vz{l:List aJ}(h:l.Pairwise fun a b=>aY a<aY b){i:Nat}(hi:i<l.length){y:aJ}(aN:aY y=aY (J I l i)):(l.set i y).Pairwise fun a b=>aY a<aY b:=by
 refine Xa fun j hj=>?_
 rw [List.length_set] at hj
 have key:∀k,aY (J I (l.set i y) k)=aY (J I l k):=by
  intro k
  rw [gv hi]
  split
  ·rename_i h;subst h;exact aN
  ·rfl
 rw [key,key]
 exact GZ h (Nat.lt_succ_self j) hj
theorem s5{l:List aJ}{i:Nat}{y:aJ}(hi:i<l.length)(b:Int):ca (l.set i y) b+dr (ak (J I l i)) b=ca l b+dr (ak y) b:=by
 unfold ca
 induction l generalizing i with
 | nil=>simp at hi
 | cons z l ih =>
  cases i with
  | zero =>
   simp only [List.set_cons_zero,List.map_cons,List.sum_cons]
   rw [show J I (z :: l) 0=z from rfl];omega
  | succ i =>
   simp only [List.set_cons_succ,List.map_cons,List.sum_cons]
   have:=ih (i:=i) (by simpa using hi)
   rw [show J I (z :: l) (i+1)=J I l i from rfl];omega
theorem Xb(l:List aJ)(n:aJ)(b:Int):ca (l++[n]) b=ca l b+dr (ak n) b:=by
 unfold ca
 rw [List.map_append,List.sum_append_nat];simp
theorem xX(N M:List ax.D)(b:Int):dr (N++M) b=dr N b+dr M b:=by
 unfold dr
 rw [List.filter_append,List.length_append]
theorem Xc(s:aF)(id b:Int):dr [((s,id,()):ax.D)] b=cond (id==b) 1 0:=by
 unfold dr
 rw [List.filter_cons]
 cases h:(((s,id,()):ax.D).2.1==b)
 ·rfl
 ·rfl
theorem Ob(N:List ax.D)(s:aF)(id b:Int):dr (ins N s id) b=dr N b+cond (id==b) 1 0:=by
 unfold ins
 rw [xX,xX,Xc]
 have:dr N b=dr (N.takeWhile (dY s)) b+dr (N.dropWhile (dY s)) b:=by rw [← xX,List.takeWhile_append_dropWhile]
 omega
theorem aiW{N:List ax.D}{b:Int}(h:∀d,d∈N→d.2.1≠b):dr N b=0:=by
 unfold dr
 rw [List.filter_eq_nil_iff.2 fun d ag=>by rw [beq_iff_eq];exact h d ag];rfl
theorem Xd{l:List aJ}{b:Int}(h:∀x,x∈l→∀d,d∈ak x→d.2.1≠b):ca l b=0:=by
 unfold ca
 exact NL fun x hx=>aiW (h x hx)
theorem Xe{l:List aJ}(hx:q9 l){b:Int}(h:ba l b=none):ca l b=0:=by
 refine Xd fun x aiX d ag he=>?_
 obtain ⟨i,hi,rfl⟩:=fx aiX
 have:=hx i hi d ag
 rw [he,h] at this
 cases this
theorem G0:∀ {N:List ax.D},jb N→∀ {d:ax.D},d∈N→∀b:Int,dr (b8 N d.1) b+cond (d.2.1==b) 1 0=dr N b
 | [],_,d,ag,_=>by cases ag
 | x :: N,hs,d,ag,b=>by
  have h1:=List.pairwise_cons.1 hs
  rcases List.mem_cons.1 ag with rfl | ag
  ·have e:b8 (d :: N) d.1=N:=by
    unfold b8
    rw [List.filter_cons,show(!bs d.1 d.1)=false by unfold bs;simp]
    simp only [Bool.false_eq_true,if_false]
    refine List.filter_eq_self.2 fun y aN=>?_
    have:=Gp (h1.1 y aN)
    unfold bs
    simp only [Bool.not_eq_true',decide_eq_false_iff_not]
    exact fun e=>this e.symm
   rw [e]
   show _=dr ([d]++N) b
   rw [xX]
   have:dr [d] b=cond (d.2.1==b) 1 0:=Xc d.1 d.2.1 b
   omega
  ·have e:b8 (x :: N) d.1=x :: b8 N d.1:=by
    unfold b8
    rw [List.filter_cons,show(!bs x.1 d.1)=true by
     have:=Gp (h1.1 d ag)
     unfold bs;simp [this]]
    rfl
   have ih:=G0 h1.2 ag b
   rw [e]
   show dr ([x]++b8 N d.1) b+_=dr ([x]++N) b
   rw [xX,xX]
   omega
theorem G4{l:List aJ} : fj l=0↔bytesOf l≤400∧gr l=false:=by
 unfold fj
 by_cases h:(bytesOf l:Int)>400
 ·rw [decide_eq_true h]
  constructor
  ·intro h0;cases h0
  ·intro h0;omega
 ·rw [decide_eq_false h]
  cases gr l with
  | true =>
   constructor
   ·intro h0;cases h0
   ·intro h0;cases h0.2
  | false=>exact⟨fun _=>⟨by omega,rfl⟩,fun _=>rfl⟩
theorem bz.keep{v:af.D}(hv:bz v){i:Nat}(hi:i<v.2.1.length){y:aJ}(h1:aY y=aY (J I v.2.1 i))(h2:kindOf y=kindOf (J I v.2.1 i))(h3:ak y=ak (J I v.2.1 i))(hQ:lk v.2.1 y)
  (hf:fj (v.2.1.set i y)=0):bz (v.1,v.2.1.set i y,()):=by
 have h:=m5.1 hv
 have ag:=lu h.kl
 have AW:∀id,ba (v.2.1.set i y) id=ba v.2.1 id:=fun id=>GA hi h1 id
 have fI:=vz h.kl hi h1
 have hE:∀a b,E v.2.1 a b→E (v.2.1.set i y) a b:=by
  intro a b
  rw [iq ag,iq (lu fI)]
  rintro ⟨x,hx,jz,d,h6,AX⟩
  by_cases hB:aY x=aY y
  ·refine⟨y,(mem_set ag hi h1).2 (.inl rfl),by rw [← hB];exact jz,d,?_,AX⟩
   obtain ⟨j,hj,rfl⟩:=fx hx
   have e1:=ag i hi
   have e2:=ag j hj
   have:(J I v.2.1 j).1=(J I v.2.1 i).1:=(show aY _=aY _ by rw [hB,h1])
   rw [this,e1] at e2
   obtain rfl:=aS e2
   rw [h3];exact h6
  ·exact⟨x,(mem_set ag hi h1).2 (.inr ⟨hx,hB⟩),jz,d,h6,AX⟩
 have gz:∀a b,dQ v.2.1 a b→dQ (v.2.1.set i y) a b:=fun a b hb=>xW hE hb
 have jQ:∀b,ca (v.2.1.set i y) b=ca v.2.1 b:=by
  intro b
  have:=s5 (y:=y) hi b
  rw [h3] at this
  omega
 have qc:=cP (t:=I) hi
 have kz:=G4.1 hf
 refine m5.2 ⟨h.next,by rw [List.length_set];exact h.len,fI,?_,?_,?_,?_,?_,kz.1,kz.2⟩
 ·obtain ⟨x,hx,hx1,hx2⟩:=h.root
  by_cases hB:aY x=aY y
  ·refine⟨y,(mem_set ag hi h1).2 (.inl rfl),by rw [← hB];exact hx1,?_⟩
   obtain ⟨j,hj,rfl⟩:=fx hx
   have e1:=ag i hi
   have e2:=ag j hj
   have:(J I v.2.1 j).1=(J I v.2.1 i).1:=(show aY _=aY _ by rw [hB,h1])
   rw [this,e1] at e2
   obtain rfl:=aS e2
   rw [h2];exact hx2
  ·exact⟨x,(mem_set ag hi h1).2 (.inr ⟨hx,hB⟩),hx1,hx2⟩
 ·intro x hx
  rcases (mem_set ag hi h1).1 hx with rfl | ⟨hx,_⟩
  ·rw [h1];exact h.ids _ qc
  ·exact h.ids x hx
 ·intro x hx
  rcases (mem_set ag hi h1).1 hx with rfl | ⟨hx,_⟩
  ·exact hQ.to fun d _ h=>by rw [AW];exact h
  ·exact(h.ino x hx).to fun d _ h=>by rw [AW];exact h
 ·intro x hx hne
  rcases (mem_set ag hi h1).1 hx with rfl | ⟨hx,_⟩
  ·rw [h1] at hne ⊢;exact gz _ _ (h.reach _ qc hne)
  ·exact gz _ _ (h.reach x hx hne)
 ·intro x hx hne hk
  rw [jQ]
  rcases (mem_set ag hi h1).1 hx with rfl | ⟨hx,_⟩
  ·rw [h1] at hne ⊢;rw [h2] at hk;exact h.once _ qc hne hk
  ·exact h.once x hx hne hk
theorem bz.get{v:af.D}(h:bz v){x:aJ}(hx:x∈v.2.1):lk v.2.1 x:=(m5.1 h).ino x hx
theorem m6{l:List aJ}(ag:ig l){x y:aJ}(hx:x∈l)(aN:y∈l)(h:aY x=aY y):x=y:=by
 obtain ⟨i,hi,rfl⟩:=fx hx
 obtain ⟨j,hj,rfl⟩:=fx aN
 have e1:=ag i hi
 have e2:=ag j hj
 have:(J I l i).1=(J I l j).1:=h
 rw [this,e2] at e1
 rw [aS e1]
theorem lk.named{l l':List aJ}{x:aJ}(h:lk l x)(kU:∀id,(ba l id).isSome=true→(ba l' id).isSome=true)(hk:kindOf x=2){s:aF}{id:Int}(hs:ie s=true)(h1:id≠1)(b7:(ba l' id).isSome=true)(hl:(ak x).length<12)(hn:∀d,d∈ak x→d.1≠s):lk l' (bX x (ins (ak x) s id)) :=
 ⟨h.mode,h.uid,h.gid,h.kind,fun eo=>absurd hk eo,h.file,h.l3,fun eo=>⟨(h.dir eo).1,(h.dir eo).2.1,(h.dir eo).2.2.1,by
  show(ins (ak x) s id).length≤12
  rw [xO];omega⟩,fun d ag=>by
  rcases n4.1 ag with ag | rfl
  ·exact⟨(h.names d ag).1,(h.names d ag).2.1,kU _ (h.names d ag).2.2⟩
  ·exact⟨hs,h1,b7⟩,Ww h.sorted hn⟩
theorem Oc{l:List aJ}(hr:l.Pairwise fun a b=>aY a<aY b){i:Nat}(hi:i<l.length)(s:aF)(id:Int) :
  (∀a b,E l a b→E (l.set i (bX (J I l i) (ins (ak (J I l i)) s id))) a b)∧E (l.set i (bX (J I l i) (ins (ak (J I l i)) s id))) (aY (J I l i)) id:=by
 have ag:=lu hr
 have aN:aY (bX (J I l i) (ins (ak (J I l i)) s id))=aY (J I l i):=sX _ _
 have jm:=lu (vz hr hi aN)
 have Xf:bX (J I l i) (ins (ak (J I l i)) s id)∈l.set i (bX (J I l i) (ins (ak (J I l i)) s id)):=(mem_set ag hi aN).2 (.inl rfl)
 constructor
 ·intro a b
  rw [iq ag,iq jm]
  rintro ⟨x,hx,jz,d,h6,AX⟩
  by_cases hB:aY x=aY (J I l i)
  ·obtain rfl:=m6 ag hx (cP hi) hB
   exact⟨_,Xf,aN.trans jz,d,n4.2 (.inl h6),AX⟩
  ·exact⟨x,(mem_set ag hi aN).2 (.inr ⟨hx,by rw [aN];exact hB⟩),jz,d,h6,AX⟩
 ·rw [iq jm]
  exact⟨_,Xf,aN,(s,id,()),n4.2 (.inr rfl),rfl⟩
theorem Od{l:List aJ}{i:Nat}(hi:i<l.length)(s:aF)(id b:Int):ca (l.set i (bX (J I l i) (ins (ak (J I l i)) s id))) b=ca l b+cond (id==b) 1 0:=by
 have h:=s5 (y:=bX (J I l i) (ins (ak (J I l i)) s id)) hi b
 rw [hp,Ob] at h
 omega
theorem AL.ok{v:af.D}{c:aI.D}{x:aH.D}{w:af.D}(hv:bz v)(hx:im x)(h:AL v c x w):bz w:=by
 obtain ⟨r,t,i,j,hr,hc,hj,pX,ht,n8,htn,hi,gL,hl,rfl,hf,_⟩:=h.out
 have hm:=m5.1 hv
 have ag:=lu hm.kl
 have bR:=(bZ hi).1
 have hjl:=bZ hj
 obtain ⟨kg,jQ,d,gi,iC,Oe⟩:=ht.new n8 htn
 obtain rfl:d=i:=aS (gi.symm.trans hi)
 have ff:=AD Oe fun e he=>hv.AE bR he
 have yR:bn r≠1:=by
  intro h1
  obtain ⟨z,hz,jl,hz2⟩:=hm.root
  have:J I v.2.1 j=z:=m6 ag (cP hjl.1) hz (by rw [jl];exact hjl.2.trans h1)
  rw [this] at pX
  exact pX hz2
 have hQ:=(hm.ino _ (cP bR)).named (fun _ h=>h) gL jQ yR (by rw [hj];rfl) hl ff
 obtain ⟨hE,_⟩:=Oc hm.kl bR (nameOf t) (bn r)
 have aN:aY (bX (J I v.2.1 d) (ins (ak (J I v.2.1 d)) (nameOf t) (bn r)))=aY (J I v.2.1 d):=sX _ _
 have AW:∀id,ba (v.2.1.set d (bX (J I v.2.1 d) (ins (ak (J I v.2.1 d)) (nameOf t) (bn r)))) id=ba v.2.1 id:=fun id=>AO _ bR id
 have kz:=G4.1 hf
 refine m5.2 ⟨hm.next,by show(List.set _ _ _).length≤24;rw [List.length_set];exact hm.len,vz hm.kl bR aN,?_,?_,?_,?_,?_,kz.1,kz.2⟩
 ·obtain ⟨z,hz,jl,hz2⟩:=hm.root
  by_cases AY:aY z=aY (J I v.2.1 d)
  ·exact⟨_,(mem_set ag bR aN).2 (.inl rfl),by rw [aN,← AY];exact jl,gL⟩
  ·exact⟨z,(mem_set ag bR aN).2 (.inr ⟨hz,by rw [aN];exact AY⟩),jl,hz2⟩
 ·intro z hz
  rcases (mem_set ag bR aN).1 hz with rfl | ⟨hz,_⟩
  ·rw [aN];exact hm.ids _ (cP bR)
  ·exact hm.ids z hz
 ·intro z hz
  rcases (mem_set ag bR aN).1 hz with rfl | ⟨hz,_⟩
  ·exact hQ.to fun e _ h=>by rw [vu,AW];exact h
  ·exact(hm.ino z hz).to fun e _ h=>by rw [vu,AW];exact h
 ·intro z hz hne
  rcases (mem_set ag bR aN).1 hz with rfl | ⟨hz,_⟩
  ·rw [aN] at hne ⊢;exact xW hE (hm.reach _ (cP bR) hne)
  ·exact xW hE (hm.reach z hz hne)
 ·have Xg:∀z,z∈v.2.1→aY z≠1→kindOf z=2→ca (v.2.1.set d (bX (J I v.2.1 d) (ins (ak (J I v.2.1 d)) (nameOf t) (bn r)))) (aY z)=1:=by
   intro z hz hne hk
   rw [Od bR,hm.once z hz hne hk]
   have:bn r≠aY z:=fun e=>by
    have:J I v.2.1 j=z:=m6 ag (cP hjl.1) hz (hjl.2.trans e)
    rw [this] at pX;exact pX hk
   rw [b4 this];rfl
  intro z hz hne hk
  rcases (mem_set ag bR aN).1 hz with rfl | ⟨hz,_⟩
  ·rw [aN] at hne ⊢;exact Xg _ (cP bR) hne gL
  ·exact Xg z hz hne hk
theorem Made.ok{v:af.D}{c:aI.D}{x:aH.D}{w:af.D}(hv:bz v)(hc:dd c=true)(hx:im x)(hk:az x=1∨az x=3∨az x=10)(h:Made v c x w):bz w:=by
 obtain ⟨r,i,hr,Of,p5,hi,gL,_,hl,hlen,GI,rfl,hf,_⟩:=h.out
 have kh:=h.bad
 have hm:=m5.1 hv
 have ag:=lu hm.kl
 have bR:=(bZ hi).1
 obtain ⟨kg,jQ,d,gi,iC,Oe⟩:=hr.new Of p5
 obtain rfl:d=i:=aS (gi.symm.trans hi)
 have ff:=AD Oe fun e he=>hv.AE bR he
 have j2:ba v.2.1 v.1=none:=hv.free
 have qC:=hm.next
 have qt:=hm.ino _ (cP bR)
 have aN:aY (bX (J I v.2.1 d) (ins (ak (J I v.2.1 d)) (nameOf r) v.1))=aY (J I v.2.1 d):=sX _ _
 obtain ⟨Og,xY⟩:=Oc hm.kl bR (nameOf r) v.1
 have oC:=vz hm.kl bR aN
 have AZ:aY (gw v c x (J I v.2.1 d))=cw v:=rfl
 have A0:ak (gw v c x (J I v.2.1 d))=[]:=rfl
 have n2:=fun {z:aJ} => mem_set (x:=z) ag bR aN
 have Oh:∀z,z∈v.2.1.set d (bX (J I v.2.1 d) (ins (ak (J I v.2.1 d)) (nameOf r) v.1))→1≤aY z∧aY z≤cw v-1:=by
  intro z hz
  rcases n2.1 hz with rfl | ⟨hz,_⟩
  ·rw [aN];exact hm.ids _ (cP bR)
  ·exact hm.ids z hz
 generalize hn:gw v c x (J I v.2.1 d)=n at *
 generalize dS:v.2.1.set d (bX (J I v.2.1 d) (ins (ak (J I v.2.1 d)) (nameOf r) v.1))=S at *
 have Xh:(S++[n]).Pairwise fun a b=>aY a<aY b:=by
  rw [List.pairwise_append]
  refine⟨oC,List.pairwise_singleton _ _,fun a ha b hb=>?_⟩
  rw [List.mem_singleton.1 hb,AZ]
  have:=Oh a ha
  omega
 have jm:=lu Xh
 have xZ:∀a b,E S a b→E (S++[n]) a b:=by
  intro a b
  rw [iq (lu oC),iq jm]
  rintro ⟨z,hz,h⟩
  exact⟨z,List.mem_append.2 (.inl hz),h⟩
 have hE:∀a b,E v.2.1 a b→E (S++[n]) a b:=fun a b h=>xZ a b (Og a b h)
 have aiY:∀id,ba S id=ba v.2.1 id:=fun id=>by rw [← dS];exact AO _ bR id
 have G5:∀id,(ba v.2.1 id).isSome=true→(ba (S++[n]) id).isSome=true:=by
  intro id b7
  obtain ⟨y,aN,he⟩:=n3.1 (show(ba S id).isSome=true by rw [aiY];exact b7)
  exact n3.2 ⟨y,List.mem_append.2 (.inl aN),he⟩
 have aiZ:(ba (S++[n]) v.1).isSome=true:=n3.2 ⟨n,List.mem_append.2 (.inr (List.mem_singleton.2 rfl)),AZ⟩
 have hdl:=hm.ids _ (cP bR)
 have ai0:=qt.named G5 gL jQ (show v.1≠1 by show cw v≠1;omega) aiZ hl ff
 have pn:(0≤c.1∧c.1≤1000)∧(0≤c.2.1∧c.2.1≤1000):=by
  unfold dd at hc
  simp only [Bool.and_eq_true] at hc
  exact⟨dN.1 hc.1,dN.1 hc.2.1⟩
 have ai1:lk (S++[n]) n:=by
  have ow:0≤e7 n∧e7 n≤2047:=by
   rw [← hn]
   show 0≤vt x (J I v.2.1 d)∧vt x (J I v.2.1 d)≤2047
   unfold vt
   by_cases j4:az x=10
   ·rw [if_pos j4];omega
   rw [if_neg j4]
   unfold rh at kh
   rw [b4 j4] at kh
   simp only [cond_false,Bool.not_eq_false'] at kh
   have hr:=dN.1 kh
   split
   ·exact ahe hr.1 hr.2
   ·exact hr
  have qc:0≤fi n∧fi n≤1000:=by
   rw [← hn]
   show 0≤AF c (J I v.2.1 d)∧AF c (J I v.2.1 d)≤1000
   unfold AF
   split
   ·exact qt.gid
   ·exact pn.2
  have j0:kindOf n=GH x:=by rw [← hn];rfl
  have Oi:bA n=if az x=10 then iK x else []:=by rw [← hn];rfl
  have wL:et n=c.1:=by rw [← hn];rfl
  have GJ:e7 n=vt x (J I v.2.1 d):=by rw [← hn];rfl
  have gj:eP n=0:=by rw [← hn];rfl
  have hi0:eD n=0:=by rw [← hn];rfl
  unfold GH at j0
  refine⟨ow,by rw [wL];exact pn.1,qc,?_,fun _=>⟨gj,hi0,A0⟩,fun h1=>?_,fun h3=>?_,fun h2=>?_,fun e he=>(by rw [A0] at he;cases he),by rw [A0];exact List.Pairwise.nil⟩
  ·rw [j0];split
   ·exact .inr (.inl rfl)
   ·split
    ·exact .inr (.inr rfl)
    ·exact .inl rfl
  ·rw [Oi]
   split
   ·have:=hx.sU;omega
   ·simp
  ·have j4:az x=10:=by
    rw [j0] at h3
    split at h3
    ·cases h3
    ·split at h3
     ·assumption
     ·cases h3
   unfold rh at kh
   rw [cF j4] at kh
   simp only [cond_true,Bool.not_eq_false'] at kh
   refine⟨by rw [Oi,if_pos j4];exact kh,?_⟩
   rw [GJ]
   unfold vt
   rw [if_pos j4]
  ·have j4:az x≠10:=by
    intro j4
    rw [j0,if_neg (by omega),if_pos j4] at h2
    cases h2
   rw [Oi,if_neg j4,gj,hi0,A0]
   exact⟨rfl,by omega,by omega,by simp⟩
 have Oj:∀z,z∈v.2.1→aY z≠1→dQ (S++[n]) 1 (aY z):=fun z hz hne=>xW hE (hm.reach z hz hne)
 have ai2:∀b,ca (S++[n]) b=ca v.2.1 b+cond (v.1==b) 1 0:=by
  intro b
  rw [Xb,A0,← dS,Od bR];rfl
 have kz:=G4.1 hf
 refine m5.2 ⟨?_,?_,Xh,?_,?_,?_,?_,?_,kz.1,kz.2⟩
 ·show 2≤cw v+1∧cw v+1≤100000
  omega
 ·show(S++[n]).length≤24
  rw [List.length_append,List.length_singleton,← dS,List.length_set];omega
 ·obtain ⟨z,hz,jl,hz2⟩:=hm.root
  by_cases AY:aY z=aY (J I v.2.1 d)
  ·exact⟨_,List.mem_append.2 (.inl (n2.2 (.inl rfl))),by rw [aN,← AY];exact jl,gL⟩
  ·exact⟨z,List.mem_append.2 (.inl (n2.2 (.inr ⟨hz,by rw [aN];exact AY⟩))),jl,hz2⟩
 ·intro z hz
  show 1≤aY z∧aY z≤cw v+1-1
  rcases List.mem_append.1 hz with hz | hz
  ·have:=Oh z hz;omega
  ·rw [List.mem_singleton.1 hz,AZ];omega
 ·intro z hz
  rcases List.mem_append.1 hz with hz | hz
  ·rcases n2.1 hz with rfl | ⟨hz,_⟩
   ·exact ai0
   ·exact(hm.ino z hz).to fun e _ h=>G5 _ h
  ·rw [List.mem_singleton.1 hz];exact ai1
 ·intro z hz hne
  rcases List.mem_append.1 hz with hz | hz
  ·rcases n2.1 hz with rfl | ⟨hz,_⟩
   ·rw [aN] at hne ⊢;exact Oj _ (cP bR) hne
   ·exact Oj z hz hne
  ·rw [List.mem_singleton.1 hz,AZ]
   by_cases h1:aY (J I v.2.1 d)=1
   ·exact .single (xZ _ _ (h1 ▸ xY))
   ·exact .tail (Oj _ (cP bR) h1) (xZ _ _ xY)
 ·intro z hz hne ai3
  show ca (S++[n]) (aY z)=1
  rw [ai2]
  rcases List.mem_append.1 hz with hz | hz
  ·have cA:=Oh z hz
   rw [b4 (show v.1≠aY z by show cw v≠aY z;omega)]
   rcases n2.1 hz with rfl | ⟨hz,_⟩
   ·rw [aN] at hne ⊢;exact hm.once _ (cP bR) hne gL
   ·exact hm.once z hz hne ai3
  ·rw [List.mem_singleton.1 hz,AZ,show ca v.2.1 (cw v)=0 from Xe hv.gN j2,cF (show v.1=cw v from rfl)];rfl
theorem AT.ok{v:af.D}{c:aI.D}{x:aH.D}{w:af.D}(hv:bz v)(h:AT v c x w):bz w:=by
 obtain ⟨h0,h1,r,i,_,_,hi,rfl⟩:=h.out
 have bR:=(bZ hi).1
 have bS:=hv.ino i bR
 exact hv.keep bR (y:=je (J I v.2.1 i) (e7 (J I v.2.1 i)) (bO x) (dR x)) rfl rfl rfl ⟨bS.mode,h0,h1,bS.kind,bS.plain,bS.file,bS.l3,bS.dir,bS.names,bS.sorted⟩ (GQ hv bR _ _ _)
theorem GR.ok{v:af.D}{c:aI.D}{x:aH.D}{w:af.D}(hv:bz v)(h:GR v c x w):bz w:=by
 obtain ⟨h0,h1,_,r,i,_,_,hi,hk,rfl,hf⟩:=h.out
 have bR:=(bZ hi).1
 have bS:=hv.ino i bR
 exact hv.keep bR (y:=m3 (J I v.2.1 i) (bO x) (dR x)) rfl rfl rfl ⟨bS.mode,bS.uid,bS.gid,bS.kind,fun eo=>absurd hk eo,bS.file,bS.l3,fun eo=>⟨(bS.dir eo).1,h0,h1,(bS.dir eo).2.2.2⟩,bS.names,bS.sorted⟩ hf
theorem ai4(s:aF)(a:Nat)(d:aF)(hs:s.length≤64)(h:a+d.length≤64):(ln s a d).length≤64:=by
 unfold ln
 rw [List.length_append,List.length_append,p8,List.length_drop];omega
theorem vx.ok{v:af.D}{c:aI.D}{x:aH.D}{w:af.D}(hv:bz v)(h:vx v c x w):bz w:=by
 obtain ⟨r,i,_,_,hi,hk,il,_,ha,_,h⟩:=h.out
 have bR:=(bZ hi).1
 have bS:=hv.ino i bR
 have ag:=hv.fF bR
 rcases h with⟨_,_,rfl⟩ | ⟨_,hle,rfl,hf⟩
 ·exact hv
 ·have hlen:(hT x (J I v.2.1 i)).length≤64:=by
   unfold hT
   split
   ·rename_i bH
    rw [p8]
    have:ei x (J I v.2.1 i)=bO x:=by unfold ei;rw [if_neg (by omega)]
    omega
   ·exact ai4 _ _ _ ag (by omega)
  exact hv.keep bR (y:=jd (J I v.2.1 i) (hT x (J I v.2.1 i))) rfl rfl rfl ⟨bS.mode,bS.uid,bS.gid,bS.kind,bS.plain,fun _=>hlen,fun h3=>absurd h3 il,fun h2=>absurd h2 hk,bS.names,bS.sorted⟩ hf
theorem ai5{m:Int}(h:0≤m)(h':m≤2047):0≤andNot m 1024∧andNot m 1024≤2047:=by
 obtain ⟨n,rfl⟩:∃n:Nat,m=(n:Int):=⟨m.toNat,by omega⟩
 unfold andNot
 rw [show(1024:Int)=((1024:Nat):Int) from rfl,bits_nat]
 simp only
 have h1:(BitVec.ofNat 64 n &&& ~~~BitVec.ofNat 64 1024).toNat≤n:=by
  rw [BitVec.toNat_and,BitVec.toNat_ofNat,Nat.mod_eq_of_lt (show n<2 ^ 64 by omega)]
  exact Nat.and_le_left
 rw [show IntKind.wrap .i64 (((BitVec.ofNat 64 n &&& ~~~BitVec.ofNat 64 1024).toNat:Nat):Int)=(((BitVec.ofNat 64 n &&& ~~~BitVec.ofNat 64 1024).toNat:Nat):Int) from tf (by omega) (by omega)]
 omega
theorem AS.ok{v:af.D}{c:aI.D}{x:aH.D}{w:af.D}(hv:bz v)(h:AS v c x w):bz w:=by
 obtain ⟨h0,h1,r,i,_,_,hi,il,_,rfl⟩:=h.out
 have bR:=(bZ hi).1
 have bS:=hv.ino i bR
 have hm:0≤ri c x (J I v.2.1 i)∧ri c x (J I v.2.1 i)≤2047:=by
  unfold ri
  split
  ·exact ai5 h0 h1
  ·exact⟨h0,h1⟩
 exact hv.keep bR (y:=je (J I v.2.1 i) (ri c x (J I v.2.1 i)) (et (J I v.2.1 i)) (fi (J I v.2.1 i))) rfl rfl rfl ⟨hm,bS.uid,bS.gid,bS.kind,bS.plain,bS.file,fun h3=>absurd h3 il,bS.dir,bS.names,bS.sorted⟩ (GQ hv bR _ _ _)
open Classical in
noncomputable def qm(l:List aJ)(id:Int):List aJ:=l.filter fun x=>decide (dQ l id (aY x))
theorem Xi(l:List aJ):l=(List.range l.length).map fun i=>J I l i:=by
 refine List.ext_getElem (by simp) fun i h1 h2=>?_
 rw [List.getElem_map,List.getElem_range,c7 h1]
open Classical in
theorem Xj{l:List aJ}(ag:ig l)(id:Int):(o3 l (dP l id)).map (fun i=>J I l i)=qm l id:=by
 unfold qm
 conv=>rhs;rw [Xi l]
 rw [List.filter_map]
 unfold o3
 congr 1
 refine List.filter_congr fun i hi=>?_
 have hi:=List.mem_range.1 hi
 have h:=xE l ag id hi
 unfold T at h
 have e:(J .bool (dP l id) i:Bool)=decide (dQ l id (aY (J I l i))):=by
  rw [Bool.eq_iff_iff,decide_eq_true_iff];exact h
 rw [e]
 simp only [Function.comp]
 rw [← Xi l]
theorem Xk{l:List aJ}(ag:ig l)(id:Int):jR l (dP l id)=(qm l id).length:=by
 rw [← Xj ag id,List.length_map];rfl
theorem Xl{l:List aJ}(ag:ig l)(id:Int):jv l (dP l id)=((qm l id).map fun x=>(bA x).length).sum:=by
 rw [← Xj ag id,List.map_map];rfl
theorem Ok{l:List aJ} : gr l=false↔∀x,x∈l→ij l x=false:=by
 unfold gr
 constructor
 ·intro h x hx
  obtain ⟨i,hi,rfl⟩:=fx hx
  cases ha:ft l.length fun i => !ij l (J I l i) with
  | true=>simpa using lf.1 ha i hi
  | false=>rw [ha] at h;cases h
 ·intro h
  rw [lf.2 fun i hi=>by rw [h _ (cP hi)];rfl];rfl
def prs(l:List aJ):List (Int×Nat):=l.map fun x=>(aY x,(bA x).length)
open Classical in
noncomputable def A1(l:List aJ)(id:Int):List (Int×Nat):=(prs l).filter fun p=>decide (dQ l id p.1)
open Classical in
theorem G6(l:List aJ)(id:Int):(qm l id).length=(A1 l id).length∧((qm l id).map fun x=>(bA x).length).sum=((A1 l id).map fun p=>p.2).sum:=by
 have e:A1 l id=(qm l id).map fun x=>(aY x,(bA x).length):=by
  unfold A1 qm prs
  rw [List.filter_map];rfl
 rw [e,List.length_map,List.map_map]
 exact⟨rfl,rfl⟩
theorem Xm{α : Type}(f : α → Nat){fy L:List α}(h:fy.Sublist L)(p q : α → Bool)(Ol:∀a,p a=true→q a=true):((fy.filter p).map f).sum≤((L.filter q).map f).sum:=by
 induction h with
 | slnil=>simp
 | cons a h ih =>
  rw [List.filter_cons (x:=a)]
  split
  ·rw [List.map_cons,List.sum_cons];omega
  ·exact ih
 | cons_cons a h ih =>
  rw [List.filter_cons,List.filter_cons]
  by_cases au:p a=true
  ·rw [if_pos au,if_pos (Ol a au),List.map_cons,List.map_cons,List.sum_cons,List.sum_cons];omega
  ·rw [if_neg au]
   split
   ·rw [List.map_cons,List.sum_cons];omega
   ·exact ih
theorem Om{α : Type} : ∀L:List α,(L.map fun _=>1).sum=L.length
 | []=>rfl
 | a :: L=>by rw [List.map_cons,List.sum_cons,Om L,List.length_cons];omega
theorem ai6{α : Type}{fy L:List α}(h:fy.Sublist L)(p q : α → Bool)(Ol:∀a,p a=true→q a=true):(fy.filter p).length≤(L.filter q).length:=by
 rw [← Om,← Om]
 exact Xm (fun _=>1) h p q Ol
theorem ai7{l l':List aJ}(ag:ig l)(jm:ig l')(hs:(prs l').Sublist (prs l))(hE:∀a b,dQ l' a b→dQ l a b)(id:Int):jR l' (dP l' id)≤jR l (dP l id)∧jv l' (dP l' id)≤jv l (dP l id):=by
 rw [Xk ag,Xk jm,Xl ag,Xl jm,(G6 l id).1,(G6 l id).2,(G6 l' id).1,(G6 l' id).2]
 unfold A1
 exact⟨ai6 hs _ _ fun a h=>by simp only [decide_eq_true_iff] at h ⊢;exact hE _ _ h,Xm _ hs _ _ fun a h=>by simp only [decide_eq_true_iff] at h ⊢;exact hE _ _ h⟩
theorem ai8{l l':List aJ}(ag:ig l)(jm:ig l')(hs:(prs l').Sublist (prs l))(hE:∀a b,dQ l' a b→dQ l a b)
  (hm:∀bD,bD∈l'→∃x,x∈l∧aY x=aY bD∧eP x=eP bD∧eD x=eD bD) (h:gr l=false):gr l'=false:=by
 rw [Ok] at h ⊢
 intro bD ml
 obtain ⟨x,hx,h1,h2,h3⟩:=hm bD ml
 have h0:=h x hx
 have hu:=ai7 ag jm hs hE (aY bD)
 unfold ij at h0 ⊢
 have e:x.1=bD.1:=h1
 rw [Bool.or_eq_false_iff,Bool.and_eq_false_iff,Bool.and_eq_false_iff,decide_eq_false_iff_not,decide_eq_false_iff_not,decide_eq_false_iff_not,decide_eq_false_iff_not] at h0 ⊢
 rw [e,h2,h3] at h0
 have wz:jR l' (dP l' bD.1)≤jR l (dP l bD.1):=hu.1
 have rV:jv l' (dP l' bD.1)≤jv l (dP l bD.1):=hu.2
 refine⟨h0.1.imp id fun h=>by omega,h0.2.imp id fun h=>by omega⟩
theorem ai9{l:List aJ}{p:aJ→Bool}(b:Int)(h:∀x,x∈l→p x=false→ak x=[]):ca (l.filter p) b=ca l b:=by
 unfold ca
 induction l with
 | nil=>rfl
 | cons x l ih =>
  have ih:=ih fun y aN=>h y (List.mem_cons_of_mem _ aN)
  rw [List.filter_cons]
  cases au:p x with
  | true =>
   rw [if_pos rfl,List.map_cons,List.map_cons,List.sum_cons,List.sum_cons,ih]
  | false =>
   rw [if_neg (by decide),List.map_cons,List.sum_cons,ih,h x List.mem_cons_self au]
   simp [dr]
theorem ai_{l:List aJ}{i:Nat}(hi:i<l.length){y:aJ}(h1:aY y=aY (J I l i))(h2:bA y=bA (J I l i)):prs (l.set i y)=prs l:=by
 unfold prs
 rw [List.map_set,h1,h2,c7 hi]
 refine List.ext_getElem (by simp) fun j a b=>?_
 rw [List.getElem_set]
 split
 ·rename_i h;subst h;rw [List.getElem_map]
 ·rfl
theorem ai'{l:List aJ}{b:Int}(h:ca l b≠0):∃x,x∈l∧∃d,d∈ak x∧d.2.1=b:=by
 refine Decidable.byContradiction fun hn=>h (Xd fun x hx d ag he=>hn ⟨x,hx,d,ag,he⟩)
theorem Xn{v:af.D}(hv:bz v){i:Nat}(hi:i<v.2.1.length){s:aF}{k:Int}(n5:cJ (ak (J I v.2.1 i)) s=k)(hk0:k≠0){j:Nat}(hj:ba v.2.1 k=some j)(he:ak (J I v.2.1 j)=[]):bz (iL v i s):=by
 have hm:=m5.1 hv
 have ag:=lu hm.kl
 have hjl:=bZ hj
 have qc:=cP (t:=I) hi
 have On:=cP (t:=I) hjl.1
 have bS:=hm.ino _ qc
 obtain ⟨d,s6,G7,fc⟩:=pZ (N:=ak (J I v.2.1 i)) (s:=s) (by rw [n5];exact hk0)
 rw [n5] at fc
 have hk1:k≠1:=fc ▸ (bS.names d s6).2.1
 have lQ:aY (J I v.2.1 j)=k:=hjl.2
 have iM:aY (J I v.2.1 i)≠k:=by
  intro h
  have:=m6 ag qc On (h.trans lQ.symm)
  rw [this,he] at s6;cases s6
 have aN:aY (bX (J I v.2.1 i) (b8 (ak (J I v.2.1 i)) s))=aY (J I v.2.1 i):=sX _ _
 have hr1:=vz hm.kl hi aN
 have G8:=fun {x:aJ} => mem_set (x:=x) ag hi aN
 have aja:∀b,¬E v.2.1 k b:=by
  intro b h
  obtain ⟨x,hx,ajb,e,hex,_⟩:=(iq ag).1 h
  have:=m6 ag hx On (ajb.trans lQ.symm)
  rw [this,he] at hex;cases hex
 have ajc:∀b,ca (v.2.1.set i (bX (J I v.2.1 i) (b8 (ak (J I v.2.1 i)) s))) b+cond (k==b) 1 0=ca v.2.1 b:=by
  intro b
  have h1:=s5 (y:=bX (J I v.2.1 i) (b8 (ak (J I v.2.1 i)) s)) hi b
  have h2:=G0 bS.sorted s6 b
  rw [hp] at h1
  rw [G7,fc] at h2
  omega
 have Xo:prs (v.2.1.set i (bX (J I v.2.1 i) (b8 (ak (J I v.2.1 i)) s)))=prs v.2.1:=ai_ hi aN rfl
 have ajd:bytesOf (v.2.1.set i (bX (J I v.2.1 i) (b8 (ak (J I v.2.1 i)) s)))=bytesOf v.2.1:=by
  have h:=We (y:=bX (J I v.2.1 i) (b8 (ak (J I v.2.1 i)) s)) hi
  rw [show bA (bX (J I v.2.1 i) (b8 (ak (J I v.2.1 i)) s))=bA (J I v.2.1 i) from rfl] at h
  omega
 have lP:∀x,x∈v.2.1.set i (bX (J I v.2.1 i) (b8 (ak (J I v.2.1 i)) s))→∃bD,bD∈v.2.1∧aY bD=aY x∧kindOf bD=kindOf x∧eP bD=eP x∧eD bD=eD x∧(∀e,e∈ak x→e∈ak bD)∧(aY x=k→ak x=[]):=by
  intro x hx
  rcases G8.1 hx with rfl | ⟨hx,hne⟩
  ·exact⟨_,qc,rfl,rfl,rfl,rfl,fun e h=>sV h,fun h=>absurd (aN ▸ h) iM⟩
  ·exact⟨x,hx,rfl,rfl,rfl,rfl,fun e h=>h,fun h=>by rw [m6 ag hx On (h.trans lQ.symm)];exact he⟩
 have Oo:∀x,x∈v.2.1→∃bD,bD∈v.2.1.set i (bX (J I v.2.1 i) (b8 (ak (J I v.2.1 i)) s))∧aY bD=aY x∧kindOf bD=kindOf x∧∀e,e∈ak x→e.2.1≠k→e∈ak bD:=by
  intro x hx
  by_cases hB:aY x=aY (J I v.2.1 i)
  ·have ml:=m6 ag hx qc hB
   subst ml
   refine⟨_,G8.2 (.inl rfl),aN,rfl,fun e h Oq=>List.mem_filter.2 ⟨h,?_⟩⟩
   have:e.1≠s:=fun h1=>Oq (by rw [← AM bS.sorted h,h1,n5])
   unfold bs
   simp [this]
  ·exact⟨x,G8.2 (.inr ⟨hx,by rw [aN];exact hB⟩),rfl,rfl,fun e h _=>h⟩
 have aje:∀x,x∈v.2.1.set i (bX (J I v.2.1 i) (b8 (ak (J I v.2.1 i)) s))→lk v.2.1 x:=by
  intro x hx
  rcases G8.1 hx with rfl | ⟨hx,hne⟩
  ·exact⟨bS.mode,bS.uid,bS.gid,bS.kind,fun h=>⟨(bS.plain h).1,(bS.plain h).2.1,by
    show b8 _ s=[]
    rw [(bS.plain h).2.2];rfl⟩,bS.file,bS.l3,fun h=>⟨(bS.dir h).1,(bS.dir h).2.1,(bS.dir h).2.2.1,Nat.le_trans (vq _ _) (bS.dir h).2.2.2⟩,fun e h=>bS.names e (sV h),vv bS.sorted s⟩
  ·exact hm.ino x hx
 show bz (v.1,goN (v.2.1.set i (bX (J I v.2.1 i) (b8 (ak (J I v.2.1 i)) s))) (cJ (ak (J I v.2.1 i)) s),())
 rw [n5]
 generalize v.2.1.set i (bX (J I v.2.1 i) (b8 (ak (J I v.2.1 i)) s))=S at *
 have gi:=lu hr1
 have jn:∀x,x∈goN S k↔x∈S∧(ca S k=0→aY x≠k):=by
  intro x
  unfold goN
  by_cases h0:ca S k=0
  ·rw [decide_eq_true h0]
   simp only [cond_true,List.mem_filter,Bool.not_eq_true',beq_eq_false_iff_ne]
   exact⟨fun h=>⟨h.1,fun _=>h.2⟩,fun h=>⟨h.1,h.2 h0⟩⟩
  ·rw [decide_eq_false h0]
   exact⟨fun h=>⟨h,fun h1=>absurd h1 h0⟩,fun h=>h.1⟩
 have kU:(goN S k).Sublist S:=by
  unfold goN
  cases decide (ca S k=0)
  ·exact List.Sublist.refl _
  ·exact List.filter_sublist
 have fX:=hr1.sublist kU
 have iC:=lu fX
 have ajf:∀a b,E (goN S k) a b→E v.2.1 a b:=by
  intro a b h
  obtain ⟨x,hx,jz,e,hex,m7⟩:=(iq iC).1 h
  obtain ⟨bD,h1,h2,_,_,_,h3,_⟩:=lP x ((jn x).1 hx).1
  exact(iq ag).2 ⟨bD,h1,h2.trans jz,e,h3 e hex,m7⟩
 have xZ:∀a b,E S a b→E (goN S k) a b:=by
  intro a b h
  obtain ⟨x,hx,jz,e,hex,m7⟩:=(iq gi).1 h
  refine(iq iC).2 ⟨x,(jn x).2 ⟨hx,fun _ hk=>?_⟩,jz,e,hex,m7⟩
  obtain ⟨_,_,_,_,_,_,_,iV⟩:=lP x hx
  rw [iV hk] at hex;cases hex
 have Xp:∀a b,b≠k→E v.2.1 a b→E (goN S k) a b:=by
  intro a b hb h
  obtain ⟨x,hx,jz,e,hex,m7⟩:=(iq ag).1 h
  obtain ⟨bD,h1,h2,_,h3⟩:=Oo x hx
  exact xZ a b ((iq gi).2 ⟨bD,h1,h2.trans jz,e,h3 e hex (m7 ▸ hb),m7⟩)
 have gz:∀b,dQ v.2.1 1 b→b≠k→dQ (goN S k) 1 b:=by
  intro b h
  induction h with
  | single h=>exact fun hb=>.single (Xp _ _ hb h)
  | tail h1 h2 ih=>exact fun hb=>.tail (ih fun h=>aja _ (h ▸ h2)) (Xp _ _ hb h2)
 have ajg:∀b,ca (goN S k) b=ca S b:=by
  intro b
  unfold goN
  cases decide (ca S k=0)
  ·rfl
  ·refine ai9 b fun x hx au=>?_
   obtain ⟨_,_,_,_,_,_,_,iV⟩:=lP x hx
   have e:x.1=k:=by simpa using au
   exact iV e
 have G5:∀x,x∈goN S k→∀e,e∈ak x→(ba v.2.1 e.2.1).isSome=true→(ba (goN S k) e.2.1).isSome=true:=by
  intro x hx e hex hs
  obtain ⟨y,aN,xG⟩:=n3.1 hs
  obtain ⟨ma,h1,h2,_,_⟩:=Oo y aN
  refine n3.2 ⟨ma,(jn ma).2 ⟨h1,fun h0 hk=>?_⟩,h2.trans xG⟩
  refine GC h0 x ((jn x).1 hx).1 e hex ?_
  exact xG.symm.trans (h2.symm.trans hk)
 refine m5.2 ⟨hm.next,Nat.le_trans kU.length_le ?_,fX,?_,?_,?_,?_,?_,?_,?_⟩
 ·have:=congrArg List.length Xo
  unfold prs at this
  rw [List.length_map,List.length_map] at this
  rw [this];exact hm.len
 ·obtain ⟨z,hz,jl,hz2⟩:=hm.root
  obtain ⟨jG,h1,h2,h3,_⟩:=Oo z hz
  exact⟨jG,(jn jG).2 ⟨h1,fun _ h=>hk1 (h.symm.trans (h2.trans jl))⟩,h2.trans jl,h3.trans hz2⟩
 ·intro x hx
  obtain ⟨bD,h1,h2,_⟩:=lP x ((jn x).1 hx).1
  rw [← h2];exact hm.ids bD h1
 ·intro x hx
  exact(aje x ((jn x).1 hx).1).to fun e hex h=>G5 x hx e hex h
 ·intro x hx hne
  obtain ⟨bD,h1,h2,_⟩:=lP x ((jn x).1 hx).1
  by_cases hk:aY x=k
  ·have h0:ca S k≠0:=fun h0=>((jn x).1 hx).2 h0 hk
   obtain ⟨z,hz,e,Ot,Oq⟩:=ai' h0
   have Xq:E (goN S k) (aY z) k:=xZ _ _ ((iq gi).2 ⟨z,hz,rfl,e,Ot,Oq⟩)
   obtain ⟨jG,g1,g2,_,_,_,_,g9⟩:=lP z hz
   rw [hk]
   by_cases jl:aY z=1
   ·exact .single (jl ▸ Xq)
   ·refine .tail (gz _ (g2 ▸ hm.reach jG g1 (by rw [g2];exact jl)) fun h=>?_) Xq
    rw [g9 h] at Ot;cases Ot
  ·exact gz _ (h2 ▸ hm.reach bD h1 (by rw [h2];exact hne)) hk
 ·intro x hx hne ajh
  obtain ⟨bD,h1,h2,h3,_⟩:=lP x ((jn x).1 hx).1
  have ho:=hm.once bD h1 (by rw [h2];exact hne) (h3.trans ajh)
  have hn:=ajc (aY x)
  rw [h2] at ho
  show ca (goN S k) (aY x)=1
  rw [ajg]
  by_cases hk:aY x=k
  ·exfalso
   rw [cF hk.symm] at hn
   simp only [cond_true] at hn
   exact((jn x).1 hx).2 (by rw [← hk];omega) hk
  ·rw [b4 (fun h=>hk h.symm)] at hn
   simp only [cond_false] at hn
   omega
 ·refine Nat.le_trans ?_ (ajd ▸ hm.bytes)
  unfold goN
  cases decide (ca S k=0)
  ·exact Nat.le_refl _
  ·exact GD _ _ S
 ·refine ai8 ag iC ?_ (fun a b h=>xW ajf h) (fun x hx=>?_) hm.over
  ·rw [← Xo];exact kU.map _
  ·obtain ⟨bD,h1,h2,_,h4,a7,_⟩:=lP x ((jn x).1 hx).1
   exact⟨bD,h1,h2,h4,a7⟩
theorem AJ.ok{v:af.D}{c:aI.D}{x:aH.D}{w:af.D}(hv:bz v)(h:AJ v c x w):bz w:=by
 obtain ⟨r,i,j,hr,hc,hn,hi,_,hl,hj,he,_,_,rfl⟩:=h.out
 exact Xn hv (bZ hi).1 hl (hr.named hc hn).1 hj he
theorem Xr{u:af.D}(hu:bz u){rd jy:Int}{ir it:Nat}{ct dZ:aF}{bE:Int}(h:sW u.2.1 rd jy ir it ct dZ bE)(htn:ie dZ=true)(hlen:rd≠jy→(ak (J I u.2.1 it)).length<12)
  (hb:∀j,ba u.2.1 bE=some j→kindOf (J I u.2.1 j)=2→jy≠bE∧¬dQ u.2.1 bE jy) (hf:fj (eM u.2.1 ir ct it dZ bE)=0):bz (u.1,eM u.2.1 ir ct it dZ bE,()):=by
 have hm:=m5.1 hu
 have ag:=lu hm.kl
 have vA:=bZ h.hr
 have A2:=bZ h.ht
 have n7:=cP (t:=I) vA.1
 have bS:=hm.ino _ n7
 have aji:aY (J I u.2.1 ir)=rd:=vA.2
 have x0:aY (J I u.2.1 it)=jy:=A2.2
 obtain ⟨j,hj⟩:=Option.isSome_iff_exists.1 h.ex
 have hjl:=bZ hj
 have Xs:aY (J I u.2.1 j)=bE:=hjl.2
 obtain ⟨d,s6,G7,fc⟩:=pZ (N:=ak (J I u.2.1 ir)) (s:=ct) (by rw [h.look];exact h.Wx)
 rw [h.look] at fc
 have ajj:bE≠1:=fc ▸ (bS.names d s6).2.1
 have x1:aY (bX (J I u.2.1 ir) (b8 (ak (J I u.2.1 ir)) ct))=aY (J I u.2.1 ir):=sX _ _
 have x2:=fun {x:aJ} => mem_set (x:=x) ag vA.1 x1
 have hr1:(dB u.2.1 ir ct).Pairwise fun a b=>aY a<aY b:=vz hm.kl vA.1 x1
 have gi:=lu hr1
 have A3:∀id,ba (dB u.2.1 ir ct) id=ba u.2.1 id:=fun id=>NR vA.1 id
 have hl1:(dB u.2.1 ir ct).length=u.2.1.length:=List.length_set
 have x3:it<(dB u.2.1 ir ct).length:=by rw [hl1];exact A2.1
 have ajk:∀b,ca (dB u.2.1 ir ct) b+cond (bE==b) 1 0=ca u.2.1 b:=by
  intro b
  have h1:=s5 (y:=bX (J I u.2.1 ir) (b8 (ak (J I u.2.1 ir)) ct)) vA.1 b
  have h2:=G0 bS.sorted s6 b
  rw [hp] at h1
  rw [G7,fc] at h2
  show ca (List.set _ _ _) b+_=_
  omega
 have Xt:∀x,x∈dB u.2.1 ir ct→lk (dB u.2.1 ir ct) x:=by
  intro x hx
  rcases x2.1 hx with rfl | ⟨hx,hne⟩
  ·exact⟨bS.mode,bS.uid,bS.gid,bS.kind,fun hk=>absurd h.AN hk,bS.file,bS.l3,fun hk=>⟨(bS.dir hk).1,(bS.dir hk).2.1,(bS.dir hk).2.2.1,Nat.le_trans (vq _ _) (bS.dir hk).2.2.2⟩,fun e he=>by
    rw [A3];exact bS.names e (sV he),vv bS.sorted ct⟩
  ·exact(hm.ino x hx).to fun e _ hs=>by rw [A3];exact hs
 have Og:∀a b,b≠bE→E u.2.1 a b→E (dB u.2.1 ir ct) a b:=by
  intro a b dG hE
  obtain ⟨x,hx,jz,e,hex,m7⟩:=(iq ag).1 hE
  by_cases hB:aY x=aY (J I u.2.1 ir)
  ·have ml:=m6 ag hx n7 hB
   subst ml
   refine(iq gi).2 ⟨_,x2.2 (.inl rfl),x1.trans jz,e,List.mem_filter.2 ⟨hex,?_⟩,m7⟩
   have:e.1≠ct:=fun h1=>dG (by rw [← m7,← AM bS.sorted hex,h1,h.look])
   unfold bs
   simp [this]
  ·exact(iq gi).2 ⟨x,x2.2 (.inr ⟨hx,by rw [x1];exact hB⟩),jz,e,hex,m7⟩
 have ajl:∀x,x∈u.2.1→∃bD,bD∈dB u.2.1 ir ct∧aY bD=aY x∧kindOf bD=kindOf x:=by
  intro x hx
  by_cases hB:aY x=aY (J I u.2.1 ir)
  ·exact⟨_,x2.2 (.inl rfl),x1.trans hB.symm,by rw [m6 ag hx n7 hB];rfl⟩
  ·exact⟨x,x2.2 (.inr ⟨hx,by rw [x1];exact hB⟩),rfl,rfl⟩
 have Xu:∀x,x∈dB u.2.1 ir ct→∃bD,bD∈u.2.1∧aY bD=aY x∧kindOf bD=kindOf x:=by
  intro x hx
  rcases x2.1 hx with rfl | ⟨hx,hne⟩
  ·exact⟨_,n7,rfl,rfl⟩
  ·exact⟨x,hx,rfl,rfl⟩
 have p7:kindOf (J I (dB u.2.1 ir ct) it)=2∧(ak (J I (dB u.2.1 ir ct) it)).length<12∧(∀e,e∈ak (J I (dB u.2.1 ir ct) it)→e.1≠dZ)∧aY (J I (dB u.2.1 ir ct) it)=jy:=by
  unfold dB
  rw [gv vA.1]
  by_cases hii:ir=it
  ·subst hii
   rw [if_pos rfl]
   refine⟨h.AN,?_,fun e he=>h.no e (sV he),x0⟩
   show(b8 (ak (J I u.2.1 ir)) ct).length<12
   have lO:=(bS.dir h.AN).2.2.2
   have:(b8 (ak (J I u.2.1 ir)) ct).length<(ak (J I u.2.1 ir)).length:=by
    unfold b8
    refine List.length_filter_lt_length_iff_exists.2 ⟨d,s6,?_⟩
    unfold bs
    simp [G7]
   omega
  ·rw [if_neg hii]
   refine⟨h.NQ,hlen fun he=>hii ?_,h.no,x0⟩
   have:=m6 ag n7 (cP A2.1) (by rw [aji,x0];exact he)
   have e1:=h.hr
   rw [he,h.ht] at e1
   exact(aS e1).symm
 have Ou:=cP (t:=I) x3
 have A4:aY (bX (J I (dB u.2.1 ir ct) it) (ins (ak (J I (dB u.2.1 ir ct) it)) dZ bE))=aY (J I (dB u.2.1 ir ct) it):=sX _ _
 have G9:=fun {x:aJ} => mem_set (x:=x) gi x3 A4
 have fX:(eM u.2.1 ir ct it dZ bE).Pairwise fun a b=>aY a<aY b:=vz hr1 x3 A4
 obtain ⟨xY,A5⟩:=Oc hr1 x3 dZ bE
 rw [p7.2.2.2] at A5
 have xY:∀a b,E (dB u.2.1 ir ct) a b→E (eM u.2.1 ir ct it dZ bE) a b:=xY
 have A5:E (eM u.2.1 ir ct it dZ bE) jy bE:=A5
 have Ov:∀id,ba (eM u.2.1 ir ct it dZ bE) id=ba u.2.1 id:=fun id=>(Wy x3 id).trans (A3 id)
 have ajm:∀b,ca (eM u.2.1 ir ct it dZ bE) b=ca u.2.1 b:=by
  intro b
  have h1:ca (eM u.2.1 ir ct it dZ bE) b=ca (dB u.2.1 ir ct) b+cond (bE==b) 1 0:=Od x3 dZ bE b
  have h2:=ajk b
  omega
 have ajn:∀x,x∈u.2.1→∃bD,bD∈eM u.2.1 ir ct it dZ bE∧aY bD=aY x∧kindOf bD=kindOf x:=by
  intro x hx
  obtain ⟨U,a1,a2,a3⟩:=ajl x hx
  by_cases hB:aY U=aY (J I (dB u.2.1 ir ct) it)
  ·exact⟨_,G9.2 (.inl rfl),A4.trans (hB.symm.trans a2),by rw [← a3,m6 gi a1 Ou hB];rfl⟩
  ·exact⟨U,G9.2 (.inr ⟨a1,by rw [A4];exact hB⟩),a2,a3⟩
 have hbk:∀x,x∈eM u.2.1 ir ct it dZ bE→∃bD,bD∈u.2.1∧aY bD=aY x∧kindOf bD=kindOf x:=by
  intro x hx
  rcases G9.1 hx with rfl | ⟨hx,hne⟩
  ·obtain ⟨bD,a1,a2,a3⟩:=Xu _ Ou
   exact⟨bD,a1,a2.trans A4.symm,a3⟩
  ·exact Xu x hx
 have hE:∀a b,b≠bE→E u.2.1 a b→E (eM u.2.1 ir ct it dZ bE) a b:=fun a b dG he=>xY a b (Og a b dG he)
 have Xv:jy≠bE∧¬dQ u.2.1 bE jy:=by
  by_cases hk:kindOf (J I u.2.1 j)=2
  ·exact hb j hj hk
  ·have ajo:∀b,¬E u.2.1 bE b:=by
    intro b he
    obtain ⟨x,hx,jz,e,hex,_⟩:=(iq ag).1 he
    rw [m6 ag hx (cP hjl.1) (jz.trans Xs.symm),((hm.ino _ (cP hjl.1)).plain hk).2.2] at hex
    cases hex
   refine⟨fun he=>hk ?_,fun gz=>?_⟩
   ·rw [← m6 ag (cP A2.1) (cP hjl.1) (by rw [x0,Xs];exact he)];exact h.NQ
   ·have:∀c,dQ u.2.1 bE c→False:=by
     intro c hc
     induction hc with
     | single h=>exact ajo _ h
     | tail _ _ ih=>exact ih
    exact this _ gz
 have tG:∀c,dQ u.2.1 1 c→c≠bE→¬dQ u.2.1 bE c→dQ (eM u.2.1 ir ct it dZ bE) 1 c:=by
  intro c hc
  induction hc with
  | single h1=>exact fun hne _=>.single (hE _ _ hne h1)
  | tail h1 h2 ih=>exact fun hne mo=>.tail (ih (fun he=>mo (.single (he ▸ h2))) fun gz=>mo (.tail gz h2)) (hE _ _ hne h2)
 have Xw:dQ (eM u.2.1 ir ct it dZ bE) 1 bE:=by
  by_cases h1:jy=1
  ·exact .single (h1 ▸ A5)
  ·refine .tail (tG jy ?_ Xv.1 Xv.2) A5
   have:=hm.reach _ (cP A2.1) (by rw [x0];exact h1)
   rwa [x0] at this
 have hA:∀c,dQ u.2.1 1 c→dQ (eM u.2.1 ir ct it dZ bE) 1 c:=by
  intro c hc
  induction hc with
  | @single b h1 =>
   by_cases A6:b=bE
   ·rw [A6];exact Xw
   ·exact .single (hE _ _ A6 h1)
  | @tail b c h1 h2 ih =>
   by_cases A6:c=bE
   ·rw [A6];exact Xw
   ·exact .tail ih (hE _ _ A6 h2)
 have kz:=G4.1 hf
 refine m5.2 ⟨hm.next,?_,fX,?_,?_,?_,?_,?_,kz.1,kz.2⟩
 ·show(List.set _ _ _).length≤24
  rw [List.length_set,hl1];exact hm.len
 ·obtain ⟨z,hz,jl,hz2⟩:=hm.root
  obtain ⟨jG,a1,a2,a3⟩:=ajn z hz
  exact⟨jG,a1,a2.trans jl,a3.trans hz2⟩
 ·intro x hx
  obtain ⟨bD,a1,a2,a3⟩:=hbk x hx
  rw [← a2];exact hm.ids bD a1
 ·intro x hx
  rcases G9.1 hx with rfl | ⟨hx,hne⟩
  ·refine(Xt _ Ou).named (l':=eM u.2.1 ir ct it dZ bE) (fun id hs=>?_) p7.1 htn ajj (by rw [Ov];exact h.ex) p7.2.1 p7.2.2.1
   rw [Ov];rwa [A3] at hs
  ·refine(Xt x hx).to fun e _ hs=>?_
   show(ba (eM u.2.1 ir ct it dZ bE) e.2.1).isSome=true
   rw [Ov];rwa [A3] at hs
 ·intro x hx hne
  obtain ⟨bD,a1,a2,a3⟩:=hbk x hx
  rw [← a2];exact hA _ (hm.reach bD a1 (by rw [a2];exact hne))
 ·intro x hx hne hk
  obtain ⟨bD,a1,a2,a3⟩:=hbk x hx
  show ca (eM u.2.1 ir ct it dZ bE) (aY x)=1
  rw [ajm,← a2]
  exact hm.once bD a1 (by rw [a2];exact hne) (a3.trans hk)
theorem ajp{v:af.D}{s:aF}(hv:bz v){i:Nat}(hi:i<v.2.1.length)(hw:bz (iL v i s))(a b:Int)(h:E (iL v i s).2.1 a b):E v.2.1 a b:=by
 have hm:=m5.1 hv
 have ag:=lu hm.kl
 have iC:=lu (m5.1 hw).kl
 have aN:aY (bX (J I v.2.1 i) (b8 (ak (J I v.2.1 i)) s))=aY (J I v.2.1 i):=sX _ _
 obtain ⟨x,hx,jz,e,hex,m7⟩:=(iq iC).1 h
 have kU:x∈v.2.1.set i (bX (J I v.2.1 i) (b8 (ak (J I v.2.1 i)) s)):=by
  unfold iL goN at hx
  cases hc:decide (ca (v.2.1.set i (bX (J I v.2.1 i) (b8 (ak (J I v.2.1 i)) s))) (cJ (ak (J I v.2.1 i)) s)=0) with
  | true=>rw [hc] at hx;exact(List.mem_filter.1 hx).1
  | false=>rw [hc] at hx;exact hx
 rcases (mem_set ag hi aN).1 kU with rfl | ⟨hx,_⟩
 ·exact(iq ag).2 ⟨_,cP hi,aN.symm.trans jz,e,sV hex,m7⟩
 ·exact(iq ag).2 ⟨x,hx,jz,e,hex,m7⟩
theorem xQ.ok{v:af.D}{c:aI.D}{x:aH.D}{w:af.D}(hv:bz v)(h:xQ v c x w):bz w:=by
 obtain ⟨r,t,j,hr,hc,p5,hj,ht,htn,n8,_,h⟩:=h.out
 have iZ:ie (nameOf t)=true:=by
  rcases n8 with h0 | h2
  ·exact(ht.named h0 htn).2.1
  ·exact(ht.new h2 htn).2.1
 rcases h with⟨_,rfl⟩ | ⟨hne,mo,l,ir,it,au,rfl,hf,h⟩
 ·exact hv
 rcases h with⟨_,rfl,hlen⟩ | ⟨i2,eU,e',hk2,kx,oz,dF,hkk,rfl⟩
 ·refine Xr hv au iZ hlen (fun kT hj' hk=>?_) hf
  obtain rfl:kT=j:=aS (hj'.symm.trans hj)
  exact mo hk
 ·have p0:=bZ e'
  have kg:bn t≠0:=by
   have:=hv.Wj (cP (bZ kx).1)
   have e:aY (J I v.2.1 eU)=bn t:=(bZ kx).2
   omega
  have hu:=Xn hv p0.1 dF kg kx oz
  obtain ⟨_,h6⟩:=WD hv p0.1 hk2 (nameOf t)
  have hE:=fun a b=>ajp (s:=nameOf t) hv p0.1 hu a b
  have jf:(ak (J I (iL v i2 (nameOf t)).2.1 it)).length<12:=by
   have ki:cc t≠cJ (ak (J I v.2.1 i2)) (nameOf t):=by
    rw [dF]
    intro e
    rw [← e,e'] at kx
    rw [← aS kx] at oz
    obtain ⟨d,gi,_⟩:=pZ (N:=ak (J I v.2.1 i2)) (s:=nameOf t) (by rw [dF];exact kg)
    rw [oz] at gi;cases gi
   obtain ⟨k',eo,aB⟩:=h6 (cc t) ki i2 e'
   obtain rfl:k'=it:=aS (eo.symm.trans au.ht)
   rw [aB,if_pos rfl,hp]
   have lO:=((hv.ino i2 p0.1).dir hk2).2.2.2
   obtain ⟨d,gi,iC,_⟩:=pZ (N:=ak (J I v.2.1 i2)) (s:=nameOf t) (by rw [dF];exact kg)
   have:(b8 (ak (J I v.2.1 i2)) (nameOf t)).length<(ak (J I v.2.1 i2)).length:=by
    unfold b8
    refine List.length_filter_lt_length_iff_exists.2 ⟨d,gi,?_⟩
    unfold bs
    simp [iC]
   omega
  refine Xr hu au iZ (fun _=>jf) (fun kT hj' hk=>?_) hf
  have ajq:bn r≠cJ (ak (J I v.2.1 i2)) (nameOf t):=by rw [dF];exact fun e=>hne e.symm
  obtain ⟨k',eo,aB⟩:=h6 (bn r) ajq j hj
  obtain rfl:k'=kT:=aS (eo.symm.trans hj')
  have pX:kindOf (J I v.2.1 j)=2:=by
   rw [aB] at hk
   split at hk
   ·rename_i e;subst e;exact hk
   ·exact hk
  exact⟨(mo pX).1,fun gz=>(mo pX).2 (xW hE gz)⟩
theorem o7.ok{v:af.D}{c:aI.D}{x:aH.D}{w:af.D}(hv:bz v)(hc:dd c=true)(hx:im x)(h:o7 v c x w):bz w:=by
 rcases h with⟨hk,h⟩ | ⟨_,h⟩ | ⟨_,h⟩ | ⟨_,h⟩ | ⟨_,h⟩ | ⟨_,h⟩ | ⟨_,h⟩ | ⟨_,h⟩ | ⟨_,h⟩
 ·exact h.ok hv hc hx hk
 ·exact h.ok hv
 ·exact h.ok hv hx
 ·exact h.ok hv
 ·exact h.ok hv
 ·exact h.ok hv
 ·exact h.ok hv
 ·exact h.ok hv
 ·rw [h];exact hv
theorem AV.ok{v:af.D}{c:aI.D}{x:aH.D}{w:af.D}{k:Int}{t:aF}(h:AV v c x w k t)(hv:kc v=true):kc w=true:=by
 have h0:w=v→kc w=true:=fun e=>by rw [e];exact hv
 cases hc:dd c with
 | false=>exact h0 (h.W8 hv hc).1
 | true =>
 cases hcall:kH x with
 | false=>exact h0 (h.call hv hc (.inl hcall)).1
 | true =>
 by_cases kN:20<az x
 ·exact h0 (h.call hv hc (.inr kN)).1
 by_cases hk:k=0
 ·exact ll.2 ((h.done hv hc hcall (by omega) hk).ok (ll.1 hv) hc (rf.1 hcall))
 ·exact h0 (h.no hv hk)
end Go.LM.kA
