/- Tellings, the call as a whole; a right volume stays right. Conditions: each theorem's own hypotheses. -/
import Derived.Test.YtklmgcjamifmaaaGreatDoorWVd
set_option linter.unusedVariables false
set_option linter.unusedSimpArgs false
namespace Go.LM.kF
def l8(a:Int):aG:=gI [IntKind.wrap .u8 (aK (48+a))]
theorem rn(a:Int):(l8 a).length=1:=rfl
def lu(x:Int):Int:=if Int.tmod x 10<0 then -(Int.tmod x 10) else Int.tmod x 10
def s7(b:Bool)(t:aG):aG:=cond b ([45]++t) t
theorem WQ(m:Nat)(x:Int)(t:aG)(b:Bool):pS (m+1) x t b=zB (pS m) x t b:=rfl
theorem aip(m:Nat)(y:Int)(t:aG)(x:Int):(mS (m+1)).bg y t x=Ls (mS m) y t x:=rfl
theorem aiq(m:Nat)(y:Int)(t:aG)(x a:Int):(mS (m+1)).da y t x a=Lt (mS m) y t x a:=rfl
theorem N5(x:Int):(-9≤Int.tmod x 10∧Int.tmod x 10≤9)∧(0≤x→0≤Int.tmod x 10)∧(x≤0→Int.tmod x 10≤0):=by
 have h1:=Int.tmod_lt_of_pos x (show(0:Int)<10 by decide)
 have h2:=Int.lt_tmod_of_pos x (show(0:Int)<10 by decide)
 refine⟨by omega,fun h=>Int.tmod_nonneg _ h,fun h=>?_⟩
 have h3:0≤Int.tmod (-x) 10:=Int.tmod_nonneg _ (by omega)
 rw [Int.neg_tmod] at h3
 omega
theorem N6(x:Int):10*Int.tdiv x 10+Int.tmod x 10=x:=Int.mul_tdiv_add_tmod x 10
theorem WR(neg:Bool)(t:aG)(h:t.length≤1000) :
  cond neg (cond (room (([45]:aG).length+t.length)) (some (([45]:aG)++t,())) none) (some (t,()))=some (s7 neg t,()):=by
 rw [cH (by simp;omega)]
 cases neg <;> rfl
theorem air(m:Nat)(t:aG)(neg:Bool)(h:t.length≤1000):pS (m+1) 0 t neg=some (s7 neg t,()):=by
 rw [WQ]
 unfold zB
 rw [show((0:Int) != 0)=false from rfl]
 simp only [cond_false]
 exact WR neg t h
theorem WS(m:Nat)(x:Int)(t:aG)(neg:Bool)(hx:x≠0)(h:t.length≤1000)(hb : -4000000000000000000≤x∧x≤4000000000000000000):pS (m+1) x t neg=pS m (Int.tdiv x 10) (l8 (lu x)++t) neg:=by
 have h1:=N5 x
 have h2:=N6 x
 rw [WQ]
 unfold zB
 rw [cP hx]
 simp only [cond_true]
 rw [ed (a:=Int.tdiv x 10) (by omega) (by omega)]
 by_cases hn:Int.tmod x 10<0
 ·rw [decide_eq_true hn]
  simp only [cond_true]
  rw [ed (a:=0-Int.tmod x 10) (by omega) (by omega)]
  rw [show lu x=0-Int.tmod x 10 by unfold lu;rw [if_pos hn];omega]
  rw [show gI [IntKind.wrap .u8 (aK (48 +(0-Int.tmod x 10)))]=l8 (0-Int.tmod x 10) from rfl,cH (by rw [rn];omega)]
  rfl
 ·rw [decide_eq_false hn]
  simp only [cond_false]
  rw [show lu x=Int.tmod x 10 by unfold lu;rw [if_neg hn]]
  rw [show gI [IntKind.wrap .u8 (aK (48+Int.tmod x 10))]=l8 (Int.tmod x 10) from rfl,cH (by rw [rn];omega)]
  rfl
theorem N7(m:Nat)(y x:Int)(t:aG)(h:t.length≤900)(hb : -4000000000000000000≤x∧x≤4000000000000000000) :
  (mS (m+2)).bg y t x=cond (c3 x (-9) 9) (some (s7 (decide (y<0)) (l8 (lu x)++t),())) ((mS m).bg y (l8 (lu x)++t) (Int.tdiv x 10)):=by
 have h1:=N5 x
 have h2:=N6 x
 have key:∀a,(mS (m+1)).da y t x a=cond (c3 x (-9) 9) (some (s7 (decide (y<0)) (l8 a++t),())) ((mS m).bg y (l8 a++t) (Int.tdiv x 10)):=by
  intro a
  rw [aiq]
  unfold Lt
  rw [show gI [IntKind.wrap .u8 (aK (48+a))]=l8 a from rfl,cH (by rw [rn];omega),jA,ed (a:=Int.tdiv x 10) (by omega) (by omega)]
  simp only [cond_true,av]
  rw [WR (decide (y<0)) (l8 a++t) (by rw [List.length_append,rn];omega)]
 rw [aip]
 unfold Ls
 by_cases hn:Int.tmod x 10<0
 ·rw [decide_eq_true hn]
  simp only [cond_true]
  rw [ed (a:=0-Int.tmod x 10) (by omega) (by omega),key,show lu x=0-Int.tmod x 10 by unfold lu;rw [if_pos hn];omega]
 ·rw [decide_eq_false hn]
  simp only [cond_false]
  rw [key,show lu x=Int.tmod x 10 by unfold lu;rw [if_neg hn]]
theorem ais:∀(k:Nat) (x:Int),k≤18→x≠0 → -(10 ^ k:Int)<x→x<(10 ^ k:Int) →
  ∃t:aG,t.length≤k∧(∀(m:Nat) (a:aG) (neg:Bool),k<m→a.length+k≤500→pS m x a neg=some (s7 neg (t++a),())) ∧
   (∀(m:Nat) (y:Int) (a:aG),2*k<m→a.length+k≤500→(mS m).bg y a x=some (s7 (decide (y<0)) (t++a),())):=by
 intro k
 induction k with
 | zero=>intro x hk h0 h1 h2;simp at h1 h2;omega
 | succ k ih =>
  intro x hk h0 h1 h2
  have ag:=N5 x
  have hm:=N6 x
  have AH:(10 ^ k:Int)≤100000000000000000:=by
   have:(10:Nat) ^ k≤10 ^ 17:=Nat.pow_le_pow_right (by decide) (by omega)
   have h3:((10 ^ k:Nat):Int)≤((10 ^ 17:Nat):Int):=Int.ofNat_le.2 this
   simpa using h3
  have au:(10 ^ (k+1):Int)=10*10 ^ k:=by rw [Int.pow_succ];omega
  rw [au] at h1 h2
  generalize vt:(10 ^ k:Int)=P at *
  by_cases jK : -9≤x∧x≤9
  ·refine⟨l8 (lu x),by rw [rn];omega,fun m a neg pz ha=>?_,fun m y a pz ha=>?_⟩
   ·obtain ⟨m,rfl⟩:∃q,m=q+1+1:=⟨m-2,by omega⟩
    rw [WS _ x a neg h0 (by omega) (by omega),show Int.tdiv x 10=0 by omega]
    exact air m _ neg (by rw [List.length_append,rn];omega)
   ·obtain ⟨m,rfl⟩:∃q,m=q+2:=⟨m-2,by omega⟩
    rw [N7 m y x a (by omega) (by omega),show c3 x (-9) 9=true from dR.2 jK];rfl
  ·obtain ⟨t,ht,hs,hi⟩:=ih (Int.tdiv x 10) (by omega) (by omega) (by omega) (by omega)
   refine⟨t++l8 (lu x),by rw [List.length_append,rn];omega,fun m a neg pz ha=>?_,fun m y a pz ha=>?_⟩
   ·obtain ⟨m,rfl⟩:∃q,m=q+1:=⟨m-1,by omega⟩
    rw [WS _ x a neg h0 (by omega) (by omega)]
    rw [hs m (l8 (lu x)++a) neg (by omega) (by rw [List.length_append,rn];omega),List.append_assoc]
   ·obtain ⟨m,rfl⟩:∃q,m=q+2:=⟨m-2,by omega⟩
    rw [N7 m y x a (by omega) (by omega),show c3 x (-9) 9=false from Bool.eq_false_iff.2 fun h=>jK (dR.1 h)]
    simp only [cond_false]
    rw [hi m y (l8 (lu x)++a) (by omega) (by rw [List.length_append,rn];omega),List.append_assoc]
def qd(x:Int):aG:=match zW (x,()) with | some r=>r.1 | none=>[]
theorem lv(x:Int)(h : -1000000000000<x∧x<1000000000000):(qd x).length≤20∧h6 (x,())=some (qd x,())∧zW (x,())=some (qd x,()):=by
 obtain ⟨t,h1,h2,h3⟩:∃t:aG,t.length≤20∧h6 (x,())=some (t,())∧zW (x,())=some (t,()):=by
  by_cases h0:x=0
  ·subst h0
   refine⟨[48],by simp,rfl,?_⟩
   obtain ⟨q,hq,_⟩:=jm 2
   show(mS aQ).bg 0 [] 0=_
   rw [hq,N7 q 0 0 [] (by simp) (by omega)];rfl
  ·obtain ⟨t,ht,hs,hi⟩:=ais 12 x (by omega) h0 (by simpa using h.1) (by simpa using h.2)
   refine⟨s7 (decide (x<0)) t,?_,?_,?_⟩
   ·unfold s7
    cases decide (x<0)
    ·simp only [cond_false];omega
    ·simp only [cond_true,List.length_append,List.length_cons,List.length_nil];omega
   ·show cond (x==0) _ (pS aQ x [] (decide (x<0)))=_
    rw [ca h0]
    simp only [cond_false]
    rw [hs aQ [] _ (jz (by omega)) (by simp),List.append_nil]
   ·show(mS aQ).bg x [] x=_
    rw [hi aQ x [] (jz (by omega)) (by simp),List.append_nil]
 have e:qd x=t:=by unfold qd;rw [h3]
 rw [e]
 exact⟨h1,h2,h3⟩
theorem ait(xs:List aG)(sep:aG)(B:Nat)(h:∀t,t∈xs→t.length≤B):(Lib.joinTail sep xs).length≤xs.length*(sep.length+B):=by
 induction xs with
 | nil=>simp [Lib.joinTail]
 | cons y r ih =>
  have h1:=h y (by simp)
  have h2:=ih fun t ht=>h t (by simp [ht])
  simp only [Lib.joinTail,List.map_cons,List.flatten_cons,List.length_append,List.length_cons,Nat.add_one_mul] at h2 ⊢
  omega
theorem GH(xs:List aG)(sep:aG)(B:Nat)(h:∀t,t∈xs→t.length≤B):(Lib.join xs sep).length≤xs.length*(sep.length+B):=by
 cases xs with
 | nil=>simp [Lib.join_nil]
 | cons y r =>
  have h1:=h y (by simp)
  have h2:=ait r sep B fun t ht=>h t (by simp [ht])
  rw [Lib.join_cons,List.length_append,List.length_cons,Nat.add_one_mul]
  omega
theorem aiu(xs:List aG)(y sep:aG)(h:xs≠[]):Lib.join (xs++[y]) sep=Lib.join xs sep++sep++y:=by
 cases xs with
 | nil=>exact absurd rfl h
 | cons x r=>simp [Lib.join_cons,Lib.joinTail,List.append_assoc]
theorem WT(xs:List aG)(sep:aG)(B:Nat)(h:∀t,t∈xs→t.length≤B)(hl:xs.length*(sep.length+B)≤68719476736)(hn:xs.length≤68719476736):joinF xs sep=some (Lib.join xs sep,()):=by
 unfold joinF
 rw [if_pos ⟨hn,Nat.le_trans (GH xs sep B h) hl⟩]
theorem N8(L:List Int)(hl:L.length≤100)(h:∀x,x∈L → -1000000000000<x∧x<1000000000000):q3 (L,())=some (Lib.join (L.map qd) [32],()):=by
 show vk aQ L (L.length:Int) 0 []=_
 have:=mV L.length (by omega) (fun m i=>vk m L (L.length:Int) i ((L.take i.toNat).map qd)) (fun _=>some (Lib.join (L.map qd) [32],())) (fun _=>True) (fun m _=>by
  simp only [vk,E_]
  rw [cS (Nat.le_refl _),Int.toNat_natCast,List.take_length]
  simp only [cond_false]
  show Option.bind (joinF (L.map qd) [32]) _=_
  rw [WT _ _ 20 (fun t ht=>by
   obtain ⟨x,hx,rfl⟩:=List.mem_map.1 ht
   exact(lv x (h x hx)).1) (by simp;omega) (by simp;omega)];rfl) (fun m i hi _ hw ih=>by
  have hx:L[i]∈L:=List.getElem_mem hi
  have ih:=ih trivial
  rw [Int.toNat_natCast_add_one,List.take_succ_eq_append_getElem hi,List.map_append] at ih
  simp only [vk,E_,hw]
  rw [cr hi,bB hi,Int.toNat_natCast]
  simp only [cond_true,av]
  rw [show J (ad.int .i64) L i=L[i] from c8 hi,(lv _ (h _ hx)).2.2]
  simp only [av]
  rw [cH (by simp;omega)]
  exact ih) L.length 0 aQ (by omega) (jz (by omega)) trivial
 simpa using this
def dG(v:af.D)(c:aH.D)(x:aJ.D)(a:Option (aF.D×aL.D×Unit))(b:Option (aF.D×Unit)):Prop:=∃res:aF.D,a=some (res,(v,c,x,()),())∧b=some (res,())∧res.2.1.length≤1000∧(res.1=0∨res.2.1=[])
theorem dG.is{v:af.D}{c:aH.D}{x:aJ.D}{a:Option (aF.D×aL.D×Unit)}{b:Option (aF.D×Unit)}(k:Int)(t:aG)(ha:a=some ((k,t,()),(v,c,x,()),()))(hb:b=some ((k,t,()),()))(hl:t.length≤1000:=by simp)(h0:k=0∨t=[]:=by simp):dG v c x a b:=⟨(k,t,()),ha,hb,hl,h0⟩
theorem aiv(m:Nat)(a b d e):(fr (m+1)).bx a b d e=J_ (fr m) a b d e:=rfl
theorem s8(m:Nat)(a b d e f):(fr (m+1)).dg a b d e f=pT (fr m) a b d e f:=rfl
theorem WU(m:Nat)(a b d e f):(fr (m+1)).nI a b d e f=DB (fr m) a b d e f:=rfl
theorem WV(m:Nat)(a b d e):(fr (m+1)).si a b d e=DC (fr m) a b d e:=rfl
theorem aiw(m:Nat)(a b d e):(fr (m+1)).DA a b d e=J' (fr m) a b d e:=rfl
def ks(x:aJ.D):Bool:=aE x != 11&&(aE x != 14||bQ x==0)
def l9(x:aJ.D):Bool:=(aE x==14&&(bQ x != 0&&bQ x != 1))||(aE x==17 && !c3 (bQ x) 0 7)
def qe:aF.D:=(0,([]:aG),())
theorem aix(m:Nat)(v:af.D)(c:aH.D)(x:aJ.D)(z:aF.D):(fr (m+1)).bx v c x z=Option.bind (dQ (v,c,eU x,ks x,())) fun r=>(fr m).dg v c x z r.1:=by
 rw [aiv]
 unfold J_ ks
 show cond (aE x != 11) (cond (aE x != 14) (Option.bind (dQ (v,c,eU x,true,())) _) (Option.bind (dQ (v,c,eU x,bQ x==0,())) _)) (Option.bind (dQ (v,c,eU x,false,())) _)=_
 cases aE x != 11
 ·rfl
 ·cases aE x != 14 <;> rfl
theorem N9(K:nH)(v:af.D)(c:aH.D)(x:aJ.D)(hk:aE x≠18):qR K v c x=cond (l9 x) (some ((22,[],()),())) (K.bx v c x qe):=by
 unfold qR l9
 have aiy:∀k:Option (aF.D×Unit),Option.bind (ep (bQ x,0,7,())) (fun v4=>cond (!v4.1) (some ((22,([]:aG),()),())) k)=cond (!c3 (bQ x) 0 7) (some ((22,([]:aG),()),())) k:=fun k=>by rw [jW];rfl
 show cond (aE x==18) _ (cond (aE x==14) (cond (bQ x != 0) (cond (bQ x != 1) _ (cond (aE x==17) (Option.bind (ep (bQ x,0,7,())) _) _)) (cond (aE x==17) (Option.bind (ep (bQ x,0,7,())) _) _)) (cond (aE x==17) (Option.bind (ep (bQ x,0,7,())) (fun v4=>cond (!v4.1) (some ((22,([]:aG),()),())) (K.bx v c x qe))) (K.bx v c x qe)))=_
 rw [ca hk]
 simp only [cond_false]
 by_cases wC:aE x=14
 ·rw [cF wC,ca (show aE x≠17 by omega)]
  cases bQ x != 0 <;> cases bQ x != 1 <;> rfl
 ·rw [ca wC]
  simp only [cond_false,Bool.false_and,Bool.false_or]
  rw [aiy]
  cases aE x==17
  ·rfl
  ·cases c3 (bQ x) 0 7 <;> rfl
theorem vG(v:af.D)(c:aH.D)(x:aJ.D)(hk:aE x≠18)(hb:l9 x=false)(b8:nY v.2.1)(r:aV.D)(hs:dQ (v,c,eU x,ks x,())=some (r,())) :
  ∃q,4611686018427387904<q∧jU (v,c,x,())=(fr (q+1)).dg v c x qe r:=by
 obtain ⟨q,hq,iq⟩:=jm 2
 refine⟨q,iq,?_⟩
 show qR (fr aQ) v c x=_
 rw [N9 _ _ _ _ hk,hb,hq]
 simp only [cond_false]
 rw [aix,hs];rfl
theorem xX(v:af.D)(c:aH.D)(x:aJ.D)(q:Nat)(r:aV.D)(h:bC r≠0):(fr (q+1)).dg v c x qe r=some ((bC r,[],()),()):=by
 rw [s8]
 unfold pT
 show cond (bC r != 0) _ _=_
 rw [cP h];rfl
theorem aiz(v:af.D)(c:aH.D)(x:aJ.D)(hv:bE v)(hc:c9 c=true)(hx:ib x)(hk:aE x=11):dG v c x (E8 ((v,c,x,()),())) (jU (v,c,x,())):=by
 have b8:=hv.gy
 have au:=hx.path
 obtain ⟨r,hr,fF,kq,kr⟩:=s5 v c x false b8 hc (by omega)
 obtain ⟨q,hq,bX⟩:=vG v c x (by omega) (by unfold l9;rw [ca (show aE x≠14 by omega),ca (show aE x≠17 by omega)];rfl) b8 r (by
  rw [show ks x=false by unfold ks;rw [dk hk];rfl];exact fF)
 show dG v c x (Lr (v,c,x,())) _
 rw [bX]
 unfold Lr
 by_cases bT:bC r=0
 case neg =>
  rw [kq bT,xX v c x q r bT]
  simp only [av]
  rw [cP bT]
  exact dG.is (bC r) [] rfl rfl
 obtain ⟨i,hi,e4⟩:=kr bT
 have bI:=bY hi
 rw [e4,s8]
 unfold pT
 show dG v c x _ (cond (bC r != 0) _ (Option.bind (eS (v,bj r,())) _))
 rw [dk bT,h_ v _ b8.len hi]
 simp only [cond_false,av]
 rw [show((0:Int) != 0)=false from rfl,bB bI.1]
 simp only [cond_false,av]
 show dG v c x (cond (kindOf (J I v.2.1 i) != 3) _ _) (cond (aE x==4) _ (cond (aE x==11) (cond (kindOf (J I v.2.1 i) != 3) _ _) _))
 rw [ca (show aE x≠4 by omega),cF hk]
 simp only [cond_false,cond_true]
 cases kindOf (J I v.2.1 i) != 3 with
 | true=>exact dG.is 22 [] rfl rfl
 | false=>exact dG.is 0 (bh (J I v.2.1 i)) rfl rfl (by have:=hv.fe bI.1;omega)
theorem aiA(v:af.D)(c:aH.D)(x:aJ.D)(hv:bE v)(hc:c9 c=true)(hx:ib x)(hk:aE x=17) :
  dG v c x (Option.bind (Fo ((v,c,x,()),())) fun v6=>Option.bind (eZ (v6.1,())) fun bp=>some (bp.1,v6.2.1,())) (jU (v,c,x,())):=by
 have b8:=hv.gy
 have au:=hx.path
 show dG v c x (Option.bind (LA (v,c,x,())) _) _
 unfold LA
 show dG v c x (Option.bind (Option.bind (eL (bQ x,0,7,())) _) _) _
 rw [jA]
 simp only [av]
 cases hN:c3 (bQ x) 0 7 with
 | false =>
  have dm:jU (v,c,x,())=some ((22,[],()),()):=by
   show qR (fr aQ) v c x=_
   rw [N9 _ _ _ _ (by omega),show l9 x=true by unfold l9;rw [cF hk,hN];simp];rfl
  rw [dm]
  exact dG.is 22 [] rfl rfl
 | true =>
 obtain ⟨r,hr,fF,kq,kr⟩:=s5 v c x true b8 hc (by omega)
 obtain ⟨q,hq,bX⟩:=vG v c x (by omega) (by unfold l9;rw [ca (show aE x≠14 by omega),hN];simp) b8 r (by
  rw [show ks x=true by unfold ks;rw [cP (show aE x≠11 by omega),cP (show aE x≠14 by omega)];rfl];exact fF)
 rw [bX]
 simp only [Bool.not_true,cond_false]
 by_cases bT:bC r=0
 case neg =>
  rw [kq bT,xX v c x q r bT]
  simp only [av]
  rw [cP bT]
  exact dG.is (bC r) [] rfl rfl
 obtain ⟨i,hi,e4⟩:=kr bT
 have bI:=bY hi
 rw [e4,s8]
 unfold pT
 show dG v c x _ (cond (bC r != 0) _ (Option.bind (eS (v,bj r,())) _))
 rw [dk bT,h_ v _ b8.len hi]
 simp only [cond_false,av]
 rw [show((0:Int) != 0)=false from rfl,bB bI.1]
 simp only [cond_false,av]
 show dG v c x (Option.bind (Option.bind (pW (c,J I v.2.1 i,bQ x,())) _) _) (cond (aE x==4) _ (cond (aE x==11) _ (cond (aE x==13) _ (cond (aE x==14) _ (cond (aE x==17) (Option.bind (jj (c,J I v.2.1 i,bQ x,())) _) _)))))
 rw [ca (show aE x≠4 by omega),ca (show aE x≠11 by omega),ca (show aE x≠13 by omega),ca (show aE x≠14 by omega),cF hk]
 simp only [cond_false,cond_true]
 rw [Ar c _ _ hc,m0 c _ _ hc]
 simp only [av]
 cases may c (J I v.2.1 i) (bQ x) with
 | false=>exact dG.is 13 [] rfl rfl
 | true=>exact dG.is 0 [] rfl rfl
theorem N_(L:List Int)(hl:L.length≤40)(h:∀x,x∈L → -1000000000000<x∧x<1000000000000):(Lib.join (L.map qd) [32]).length≤1000:=by
 refine Nat.le_trans (GH _ _ 20 fun t ht=>?_) ?_
 ·obtain ⟨x,hx,rfl⟩:=List.mem_map.1 ht
  exact(lv x (h x hx)).1
 ·rw [List.length_map,List.length_singleton];omega
theorem aiB(N:List ay.D)(hN:N.length≤12)(cV:∀d,d∈N→d.1.length≤8):(Lib.join (N.map fun d=>d.1) [47]).length≤1000:=by
 refine Nat.le_trans (GH _ _ 8 fun t ht=>?_) ?_
 ·obtain ⟨d,ag,rfl⟩:=List.mem_map.1 ht
  exact cV d ag
 ·rw [List.length_map,List.length_singleton];omega
theorem aiC(v:af.D)(c:aH.D)(x:aJ.D)(hv:bE v)(hk:aE x=18) :
  dG v c x (Option.bind (sr (v,())) fun dC=>Option.bind (q3 ([(v.2.1.length:Int),dC.1],())) fun v9=>some ((0,v9.1,()),(v,c,x,()),())) (jU (v,c,x,())):=by
 have hl:=hv.len
 have hb:=hv.bytes
 show dG v c x _ (qR (fr aQ) v c x)
 unfold qR
 show dG v c x _ (cond (aE x==18) (Option.bind (h6 ((v.2.1.length:Int),())) _) _)
 have d1:=lv (v.2.1.length:Int) (by omega)
 have d2:=lv (bytesOf v.2.1:Int) (by omega)
 rw [cF hk,MU v (by omega) (by omega),d1.2.1]
 simp only [cond_true,av]
 rw [cH (by simp;omega),MT v (by omega) (by omega)]
 simp only [cond_true,av]
 rw [d2.2.1]
 simp only [av]
 rw [cH (by simp;omega),N8 _ (by simp) (by intro y aN;simp at aN;omega)]
 refine dG.is 0 _ rfl ?_ (N_ _ (by simp) (by intro y aN;simp at aN;omega))
 simp [Lib.join_cons,Lib.joinTail,List.append_assoc]
def o7(P:Int→Prop)(v:af.D)(c:aH.D)(x:aJ.D)(a:Option (aF.D×aL.D×Unit))(b:Option (aF.D×Unit)):Prop:=∃res:aF.D,a=some (res,(v,c,x,()),())∧b=some (res,())∧res.2.1.length≤1000∧(res.1=0∨res.2.1=[])∧P res.1
theorem o7.is{P:Int→Prop}{v:af.D}{c:aH.D}{x:aJ.D}{a:Option (aF.D×aL.D×Unit)}{b:Option (aF.D×Unit)}(k:Int)(t:aG)(ha:a=some ((k,t,()),(v,c,x,()),()))(hb:b=some ((k,t,()),()))(vt:P k)(hl:t.length≤1000:=by simp)(h0:k=0∨t=[]:=by simp):o7 P v c x a b:=⟨(k,t,()),ha,hb,hl,h0,vt⟩
def xY(v:af.D)(c:aH.D)(x:aJ.D)(k:Int):Prop:=∀r,c3 (bQ x) 0 1=true→dQ (v,c,eU x,bQ x==0,())=some (r,())→bC r=0→k=0
theorem aiD(v:af.D)(c:aH.D)(x:aJ.D)(hv:bE v)(hc:c9 c=true)(hx:ib x)(hk:aE x=14):o7 (xY v c x) v c x (zZ ((v,c,x,()),())) (jU (v,c,x,())):=by
 have b8:=hv.gy
 have au:=hx.path
 show o7 (xY v c x) v c x (Lu (v,c,x,())) _
 unfold Lu
 show o7 (xY v c x) v c x (Option.bind (eL (bQ x,0,1,())) fun v1=>cond (!v1.1) _ (Option.bind (mR ((v,c,x,()),bQ x==0,())) _)) _
 rw [jA]
 simp only [av]
 cases hN:c3 (bQ x) 0 1 with
 | false =>
  have dm:jU (v,c,x,())=some ((22,[],()),()):=by
   show qR (fr aQ) v c x=_
   have hn:¬(0≤bQ x∧bQ x≤1):=fun h=>by rw [dR.2 h] at hN;cases hN
   rw [N9 _ _ _ _ (by omega),show l9 x=true by unfold l9;rw [cF hk,cP (show bQ x≠0 by omega),cP (show bQ x≠1 by omega)];rfl];rfl
  rw [dm]
  exact o7.is 22 [] rfl rfl (fun r h=>by rw [hN] at h;cases h)
 | true =>
 have qa:=dR.1 hN
 obtain ⟨r,hr,fF,kq,kr⟩:=s5 v c x (bQ x==0) b8 hc (by omega)
 obtain ⟨q,hq,bX⟩:=vG v c x (by omega) (by
  unfold l9
  rw [ca (show aE x≠17 by omega)]
  rcases (show bQ x=0∨bQ x=1 by omega) with h | h
  ·rw [dk h];simp
  ·rw [dk h];simp) b8 r (by
  rw [show ks x=(bQ x==0) by unfold ks;rw [cP (show aE x≠11 by omega),dk hk];rfl];exact fF)
 rw [bX]
 simp only [Bool.not_true,cond_false]
 by_cases bT:bC r=0
 case neg =>
  rw [kq bT,xX v c x q r bT]
  simp only [av]
  rw [cP bT]
  exact o7.is (bC r) [] rfl rfl (fun dU _ h h0=>by
   rw [fF] at h
   have e:r=dU:=congrArg Prod.fst (aU h)
   rw [e] at bT
   exact absurd h0 bT)
 obtain ⟨i,hi,e4⟩:=kr bT
 have bI:=bY hi
 rw [e4,s8]
 unfold pT
 show o7 (xY v c x) v c x _ (cond (bC r != 0) _ (Option.bind (eS (v,bj r,())) _))
 rw [dk bT,h_ v _ b8.len hi]
 simp only [cond_false,av]
 rw [show((0:Int) != 0)=false from rfl,bB bI.1]
 simp only [cond_false,av]
 have bS:=hv.ino i bI.1
 have xZ:=hv.fe bI.1
 have hnl:(ak (J I v.2.1 i)).length≤1048576:=Nat.le_trans (fN bI.1) b8.cG
 have s9:0≤o3 v.2.1 (J I v.2.1 i)∧o3 v.2.1 (J I v.2.1 i)<100000000:=by
  unfold o3
  have h1:=Vf v.2.1 (J I v.2.1 i).1
  have h2:m2 v.2.1 (ak (J I v.2.1 i))≤(ak (J I v.2.1 i)).length:=List.length_filter_le _ _
  have h3:=b8.cG
  cases kindOf (J I v.2.1 i) != 2
  ·simp only [cond_false];omega
  ·simp only [cond_true];omega
 rw [VQ v _ b8.len b8.cG hnl]
 simp only [av]
 show o7 (xY v c x) v c x (Option.bind (q3 ([kindOf (J I v.2.1 i),e7 (J I v.2.1 i),ez (J I v.2.1 i),fj (J I v.2.1 i),o3 v.2.1 (J I v.2.1 i),((bh (J I v.2.1 i)).length:Int)],())) _)
  (cond (aE x==4) _ (cond (aE x==11) _ (cond (aE x==13) _ (cond (aE x==14) (Option.bind (h6 (kindOf (J I v.2.1 i),())) fun v4=>cond _ (Option.bind (h6 (e7 (J I v.2.1 i),())) fun v5=>cond _ (cond _ (Option.bind (h6 (ez (J I v.2.1 i),())) fun v6=>cond _ (cond _ (Option.bind (h6 (fj (J I v.2.1 i),())) fun bp=>cond _ (cond _ (Option.bind (Dz (v,a6 (J I v.2.1 i),())) _) _) _) _) _) _) _) _) _))))
 have fR:1≤kindOf (J I v.2.1 i)∧kindOf (J I v.2.1 i)≤3:=by rcases bS.kind with h | h | h <;> omega
 have hm:=bS.mode
 have hu:=bS.uid
 have aA:=bS.gid
 have d1:=lv (kindOf (J I v.2.1 i)) (by omega)
 have d2:=lv (e7 (J I v.2.1 i)) (by omega)
 have d3:=lv (ez (J I v.2.1 i)) (by omega)
 have d4:=lv (fj (J I v.2.1 i)) (by omega)
 have d5:=lv (o3 v.2.1 (J I v.2.1 i)) (by omega)
 have d6:=lv ((bh (J I v.2.1 i)).length:Int) (by omega)
 rw [ca (show aE x≠4 by omega),ca (show aE x≠11 by omega),ca (show aE x≠13 by omega),cF hk]
 simp only [cond_false,cond_true]
 rw [N8 _ (by simp) (by intro y aN;simp at aN;omega),d1.2.1]
 simp only [av]
 rw [cH (by simp;omega),d2.2.1]
 simp only [cond_true,av]
 rw [cH (by simp;omega),cH (by simp;omega),d3.2.1]
 simp only [cond_true,av]
 rw [cH (by simp;omega),cH (by simp;omega),d4.2.1]
 simp only [cond_true,av]
 rw [cH (by simp;omega),cH (by simp;omega),agE v (a6 (J I v.2.1 i)) b8.len b8.cG (b8.ga i bI.1)]
 simp only [cond_true,av]
 rw [d5.2.1]
 simp only [cond_true,av]
 rw [cH (by simp;omega),cH (by simp;omega)]
 simp only [cond_true]
 show o7 (xY v c x) v c x _ (Option.bind (h6 (((bh (J I v.2.1 i)).length:Int),())) _)
 rw [d6.2.1]
 simp only [cond_true,av]
 rw [cH (by simp;omega)]
 refine o7.is 0 _ rfl ?_ (fun _ _ _ _=>rfl) (N_ _ (by simp) (by intro y aN;simp at aN;omega))
 simp [Lib.join_cons,Lib.joinTail,List.append_assoc]
theorem aiE(v:af.D)(c:aH.D)(x:aJ.D)(hv:bE v)(hc:c9 c=true)(hx:ib x)(hk:aE x=14):dG v c x (zZ ((v,c,x,()),())) (jU (v,c,x,())):=by
 obtain ⟨res,h1,h2,h3,h4,_⟩:=aiD v c x hv hc hx hk
 exact⟨res,h1,h2,h3,h4⟩
theorem GI{s:aG}(h:iz s=true):s.length≤8:=by
 unfold iz at h
 simp only [Bool.and_eq_true] at h
 have:=dR.1 h.2.1
 omega
theorem aiF{v:af.D}(hv:bE v){i:Nat}(bI:i<v.2.1.length)(h:kindOf (J I v.2.1 i)=2):(ak (J I v.2.1 i)).length≤12∧∀d,d∈ak (J I v.2.1 i)→d.1.length≤8:=by
 have bS:=hv.ino i bI
 exact⟨(bS.dir h).2.2.2,fun d ag=>GI (bS.names d ag).1⟩
theorem WW(l:List aI)(F:Flags):jn l F≤l.length:=by
 unfold jn o0
 refine Nat.le_trans (List.length_filter_le _ _) ?_
 rw [List.length_range];exact Nat.le_refl _
theorem GJ{α : Type}(f : α → Nat)(B:Nat):∀L:List α,(∀i,i∈L→f i≤B)→(L.map f).sum≤L.length*B
 | [],_=>by simp
 | y :: r,h=>by
  have h1:=h y (by simp)
  have h2:=GJ f B r fun t ht=>h t (by simp [ht])
  rw [List.map_cons,List.sum_cons,List.length_cons,Nat.add_one_mul]
  omega
theorem aiG{v:af.D}(hv:bE v)(F:Flags):iQ v.2.1 F≤v.2.1.length*64:=by
 unfold iQ
 refine Nat.le_trans (GJ _ 64 _ fun i hi=>?_) (Nat.mul_le_mul_right _ (WW v.2.1 F))
 unfold o0 at hi
 exact hv.fe (List.mem_range.1 (List.mem_filter.1 hi).1)
theorem aiH(N:List ay.D)(hN:N.length≤12)(cV:∀d,d∈N→d.1.length≤8)(y:aL.D)(z:aF.D) :
  q4 aQ N (N.length:Int) 0 z [] y=some ((0,Lib.join (N.map fun d=>d.1) [47],()),y,()):=by
 have:=mV N.length (by omega) (fun m i=>q4 m N (N.length:Int) i z ((N.take i.toNat).map fun d=>d.1) y) (fun _=>some ((0,Lib.join (N.map fun d=>d.1) [47],()),y,())) (fun _=>True) (fun m _=>by
  simp only [q4,Fb]
  rw [cS (Nat.le_refl _),Int.toNat_natCast,List.take_length]
  simp only [cond_false]
  show Option.bind (joinF (N.map fun d=>d.1) [47]) _=_
  rw [WT _ _ 8 (fun t ht=>by
   obtain ⟨d,ag,rfl⟩:=List.mem_map.1 ht
   exact cV d ag) (by simp;omega) (by simp;omega)];rfl) (fun m i hi _ hw ih=>by
  have ih:=ih trivial
  rw [Int.toNat_natCast_add_one,List.take_succ_eq_append_getElem hi,List.map_append] at ih
  simp only [q4,Fb,hw]
  rw [cr hi,bB hi,Int.toNat_natCast]
  simp only [cond_true,av]
  rw [show J ay N i=N[i] from c8 hi]
  rw [cH (by simp;omega)]
  exact ih) N.length 0 aQ (by omega) (jz (by omega)) trivial
 simpa using this
theorem aiI(n:aI)(hN:(ak n).length≤12)(cV:∀d,d∈ak n→d.1.length≤8)(z:aF.D)(q:Nat)(hq:1000<q) :
  (fr q).si [] 0 z n=some ((0,Lib.join ((ak n).map fun d=>d.1) [47],()),()):=by
 have hb:∀i,(Lib.join (((ak n).take i).map fun d=>d.1) [47]).length≤108:=by
  intro i
  refine Nat.le_trans (GH _ _ 8 fun t ht=>?_) ?_
  ·obtain ⟨d,ag,rfl⟩:=List.mem_map.1 ht
   exact cV d (List.mem_of_mem_take ag)
  ·simp;omega
 have key:=o2 2 (fun m i=>(fr m).si (Lib.join (((ak n).take i).map fun d=>d.1) [47]) (i:Int) z n) (some ((0,Lib.join ((ak n).map fun d=>d.1) [47],()),())) (ak n).length 1 (fun i hi B y he=>by
  have alG:((ak n)[i]).1.length≤8:=cV _ (List.getElem_mem hi)
  have wv:=hb i
  refine he.jump 2 fun m=>?_
  rw [WV]
  unfold DC
  show cond (decide ((i:Int)<((ak n).length:Int))) _ _=_
  rw [cr hi]
  simp only [cond_true]
  have WX:∀t:aG,t.length≤200→(fr (m+1)).DA t (i:Int) z n=(fr m).si (t++((ak n)[i]).1) ((i+1:Nat):Int) z n:=fun t ht=>by
   rw [aiw]
   unfold J'
   show Option.bind (aO (ak n).length (i:Int)) (fun v1=>cond (room (t.length +((J ay (ak n) v1).1).length)) ((fr m).si (t++((J ay (ak n) v1).1)) (aK ((i:Int)+1)) z n) none)=_
   rw [bB hi]
   simp only [av]
   rw [show J ay (ak n) i=(ak n)[i] from c8 hi,cH (by omega),de i (by omega)];rfl
  have e1:((ak n).take (i+1)).map (fun d=>d.1)=((ak n).take i).map (fun d=>d.1)++[((ak n)[i]).1]:=by
   rw [List.take_succ_eq_append_getElem hi,List.map_append];rfl
  rw [e1]
  by_cases h0:i=0
  ·subst h0
   rw [show decide (((0:Nat):Int)>0)=false from rfl]
   simp only [cond_false]
   rw [WX _ (by omega)]
   simp [Lib.join_nil,Lib.join_one]
  ·rw [decide_eq_true (show(i:Int)>0 by omega),cH (by rw [List.length_singleton];omega)]
   simp only [cond_true]
   rw [WX _ (by rw [List.length_append,List.length_singleton];omega),aiu]
   intro h
   have:=congrArg List.length h
   simp only [List.length_map,List.length_take,List.length_nil] at this
   omega) (bW.done fun m=>by
  rw [WV]
  unfold DC
  show cond (decide (((ak n).length:Int)<((ak n).length:Int))) _ _=_
  rw [cS (Nat.le_refl _),List.take_length];rfl)
 have:=key q (by omega)
 simpa [Lib.join_nil] using this
theorem aiJ(v:af.D)(c:aH.D)(x:aJ.D)(hv:bE v)(hc:c9 c=true)(hx:ib x)(hk:aE x=13∨aE x=20):dG v c x (zY ((v,c,x,()),())) (jU (v,c,x,())):=by
 have b8:=hv.gy
 have au:=hx.path
 obtain ⟨r,hr,fF,kq,kr⟩:=s5 v c x true b8 hc (by omega)
 obtain ⟨q,hq,bX⟩:=vG v c x (by omega) (by unfold l9;rw [ca (show aE x≠14 by omega),ca (show aE x≠17 by omega)];rfl) b8 r (by
  rw [show ks x=true by unfold ks;rw [cP (show aE x≠11 by omega),cP (show aE x≠14 by omega)];rfl];exact fF)
 show dG v c x (Fa (q4 aQ) (v,c,x,())) _
 rw [bX]
 unfold Fa
 by_cases bT:bC r=0
 case neg =>
  rw [kq bT,xX v c x q r bT]
  simp only [av]
  rw [cP bT]
  exact dG.is (bC r) [] rfl rfl
 obtain ⟨i,hi,e4⟩:=kr bT
 have bI:=bY hi
 rw [e4,s8]
 unfold pT
 show dG v c x _ (cond (bC r != 0) _ (Option.bind (eS (v,bj r,())) _))
 rw [dk bT,h_ v _ b8.len hi]
 simp only [cond_false,av]
 rw [show((0:Int) != 0)=false from rfl,bB bI.1]
 simp only [cond_false,av]
 show dG v c x (cond (kindOf (J I v.2.1 i) != 2) _ (Option.bind (pW (c,J I v.2.1 i,4,())) fun v6=>cond (!v6.1) _ (cond (aE x==20) (Option.bind (xn (v,a6 (J I v.2.1 i),())) fun v9=>Option.bind (q3 ([eE (J I v.2.1 i),et (J I v.2.1 i),v9.1,v9.2.1],())) _) (q4 aQ (ak (J I v.2.1 i)) ((ak (J I v.2.1 i)).length:Int) 0 (0,([]:aG),()) [] (v,c,x,())))))
  (cond (aE x==4) _ (cond (aE x==11) _ (cond (aE x==13) (cond (!(kindOf (J I v.2.1 i)==2)) _ (Option.bind (jj (c,J I v.2.1 i,4,())) fun v3=>cond (!v3.1) _ ((fr q).si [] 0 qe (J I v.2.1 i)))) (cond (aE x==14) _ (cond (aE x==17) _ (cond (!(kindOf (J I v.2.1 i)==2)) _ (Option.bind (jj (c,J I v.2.1 i,4,())) fun v12=>cond (!v12.1) _ (Option.bind (zn (v,a6 (J I v.2.1 i),())) fun jT=>Option.bind (h6 (eE (J I v.2.1 i),())) fun mP=>cond _ (Option.bind (h6 (et (J I v.2.1 i),())) _) _))))))))
 rw [ca (show aE x≠4 by omega),ca (show aE x≠11 by omega),ca (show aE x≠14 by omega),ca (show aE x≠17 by omega)]
 simp only [cond_false]
 by_cases ag:kindOf (J I v.2.1 i)=2
 case neg =>
  rw [cP ag,ca ag]
  refine dG.is 20 [] rfl ?_
  cases aE x==13 <;> rfl
 rw [dk ag,cF ag,m0 c _ 4 hc,Ar c _ 4 hc]
 simp only [cond_false,av,Bool.not_true]
 cases may c (J I v.2.1 i) 4 with
 | false =>
  refine dG.is 13 [] rfl ?_
  cases aE x==13 <;> rfl
 | true =>
 simp only [cond_false,Bool.not_true]
 have bS:=hv.ino i bI.1
 have fR:=aiF hv bI.1 ag
 rcases hk with hk | hk
 ·rw [cF hk,ca (show aE x≠20 by omega)]
  simp only [cond_false,cond_true]
  rw [aiH _ fR.1 fR.2,aiI _ fR.1 fR.2 _ q (by omega)]
  exact dG.is 0 _ rfl rfl (aiB _ fR.1 fR.2)
 ·rw [cF hk,ca (show aE x≠13 by omega)]
  simp only [cond_false,cond_true]
  have hvl:=hv.len
  have PQ:=hv.bytes
  obtain ⟨out,hf,hu⟩:=M8 v (a6 (J I v.2.1 i)) b8.len b8.cG (by omega)
  obtain ⟨kW,hp⟩:=M9 hv.ga hv.gT hf
  rw [kW,hp] at hu
  have og:jn v.2.1 (dw v.2.1 (a6 (J I v.2.1 i)))≤v.2.1.length:=WW _ _
  have jc:iQ v.2.1 (dw v.2.1 (a6 (J I v.2.1 i)))≤v.2.1.length*64:=aiG hv _
  have o5:=bS.dir ag
  have d1:=lv (eE (J I v.2.1 i)) (by omega)
  have d2:=lv (et (J I v.2.1 i)) (by omega)
  have d3:=lv (iQ v.2.1 (dw v.2.1 (a6 (J I v.2.1 i))):Int) (by omega)
  have d4:=lv (jn v.2.1 (dw v.2.1 (a6 (J I v.2.1 i))):Int) (by omega)
  rw [hu,Vw v _ b8.len b8.cG (by omega)]
  simp only [av]
  rw [N8 _ (by simp) (by intro y aN;simp at aN;omega),d1.2.1]
  simp only [av]
  rw [cH (by simp;omega),d2.2.1]
  simp only [cond_true,av]
  rw [cH (by simp;omega),cH (by simp;omega),d3.2.1]
  simp only [cond_true,av]
  rw [cH (by simp;omega),cH (by simp;omega),d4.2.1]
  simp only [cond_true,av]
  rw [cH (by simp;omega)]
  refine dG.is 0 _ rfl ?_ (N_ _ (by simp) (by intro y aN;simp at aN;omega))
  simp [Lib.join_cons,Lib.joinTail,List.append_assoc]
theorem WY(n:aI)(x:aJ.D)(a:Nat)(ha:(a:Int)=bQ x)(tN:a≤1000000)(b:Nat)(hb:(b:Int)=dV x)(hb2:b≤1000000)(hl:(bh n).length≤64)(z:aF.D)(q:Nat)(hq:1000<q) :
  (fr q).nI (a:Int) x z n []=some ((0,((bh n).drop a).take b,()),()):=by
 have key:∀(k m j:Nat),k<m→min (bh n).length (a+b)-j≤k→a≤j→j≤a+64∧j≤a+b→(fr m).nI (j:Int) x z n (eA (((bh n).drop a).take (j-a)))=some ((0,((bh n).drop a).take b,()),()):=by
  intro k
  induction k with
  | zero =>
   intro m j hm h1 h2 h3
   obtain ⟨m,rfl⟩:∃p,m=p+1:=⟨m-1,by omega⟩
   rw [WU]
   unfold DB
   show cond (decide ((j:Int)<((bh n).length:Int))) (cond (decide ((j:Int)<aK (bQ x+dV x))) _ _) _=_
   rw [← ha,← hb,ed (by omega) (by omega)]
   have e:∀w,w=some ((0,gI (eA (((bh n).drop a).take (j-a))),()),())→w=some (((0:Int),((bh n).drop a).take b,()),()):=fun w hw=>by
    rw [hw,WG]
    have:((bh n).drop a).take (j-a)=((bh n).drop a).take b:=by
     rw [List.take_eq_take_iff,List.length_drop];omega
    rw [this]
   by_cases hj:j<(bh n).length
   ·rw [cr hj,decide_eq_false (show ¬(j:Int)<(a:Int) +(b:Int) by omega)]
    exact e _ rfl
   ·rw [cS (by omega)]
    exact e _ rfl
  | succ k ih =>
   intro m j hm h1 h2 h3
   by_cases N1:min (bh n).length (a+b)-j≤k
   ·exact ih m j (by omega) N1 h2 h3
   obtain ⟨m,rfl⟩:∃p,m=p+1:=⟨m-1,by omega⟩
   rw [WU]
   unfold DB
   show cond (decide ((j:Int)<((bh n).length:Int))) (cond (decide ((j:Int)<aK (bQ x+dV x))) (Option.bind (aO (bh n).length (j:Int)) fun v1=>cond (room ((eA (((bh n).drop a).take (j-a))).length+[(((bh n).getD v1 0).toNat:Int)].length)) ((fr m).nI (aK ((j:Int)+1)) x z n (eA (((bh n).drop a).take (j-a))++[(((bh n).getD v1 0).toNat:Int)])) none) _) _=_
   have hj:j<(bh n).length:=by omega
   rw [← ha,← hb,ed (a:=(a:Int) +(b:Int)) (by omega) (by omega),cr hj,decide_eq_true (show(j:Int)<(a:Int) +(b:Int) by omega),bB hj,de j (by omega)]
   simp only [cond_true,av]
   rw [cH (by rw [GC,List.length_take,List.length_drop,List.length_singleton];omega)]
   simp only [cond_true]
   have:=ih m (j+1) (by omega) (by omega) (by omega) (by omega)
   rw [show eA (((bh n).drop a).take (j-a))++[(((bh n).getD j 0).toNat:Int)]=eA (((bh n).drop a).take (j+1-a)) by
    rw [show j+1-a=(j-a)+1 by omega,List.take_succ_eq_append_getElem (by rw [List.length_drop];omega)]
    unfold eA
    rw [List.map_append,List.getElem_drop,List.getD_eq_getElem?_getD,List.getElem?_eq_getElem hj]
    simp [show a +(j-a)=j by omega]]
   exact this
 have:=key 64 q a (by omega) (by omega) (by omega) (by omega)
 rw [Nat.sub_self] at this
 exact this
theorem aiK(v:af.D)(c:aH.D)(x:aJ.D)(hv:bE v)(hc:c9 c=true)(hx:ib x)(hk:aE x=4):dG v c x (E4 ((v,c,x,()),())) (jU (v,c,x,())):=by
 have b8:=hv.gy
 have au:=hx.path
 obtain ⟨r,hr,fF,kq,kr⟩:=WH v c x 4 b8 hc (by omega)
 obtain ⟨q,hq,bX⟩:=vG v c x (by omega) (by unfold l9;rw [ca (show aE x≠14 by omega),ca (show aE x≠17 by omega)];rfl) b8 r (by
  rw [show ks x=true by unfold ks;rw [cP (show aE x≠11 by omega),cP (show aE x≠14 by omega)];rfl];exact fF)
 show dG v c x (Lm (v,c,x,())) _
 rw [bX]
 unfold Lm
 by_cases bT:bC r=0
 case neg =>
  rw [kq bT,xX v c x q r bT]
  simp only [av]
  rw [cP bT]
  exact dG.is (bC r) [] rfl rfl
 obtain ⟨i,hi,e4⟩:=kr bT
 have bI:=bY hi
 rw [e4,s8]
 unfold pT
 show dG v c x _ (cond (bC r != 0) _ (Option.bind (eS (v,bj r,())) _))
 rw [dk bT,h_ v _ b8.len hi]
 simp only [cond_false,av]
 show dG v c x _ (cond (aE x==4) (cond (kindOf (J I v.2.1 i)==2) _ (Option.bind (jj (c,J I v.2.1 i,4,())) fun v2=>cond (!v2.1) _ (cond (decide (bQ x<0)) _ (cond (decide (dV x<0)) _ ((fr q).nI (bQ x) x qe (J I v.2.1 i) []))))) _)
 rw [cF hk,m0 c _ 4 hc]
 simp only [cond_true,av]
 cases kindOf (J I v.2.1 i)==2 with
 | true=>exact dG.is 21 [] rfl rfl
 | false =>
 cases may c (J I v.2.1 i) 4 with
 | false=>exact dG.is 13 [] rfl rfl
 | true =>
 simp only [cond_false,Bool.not_true,av]
 rw [show((0:Int) != 0)=false from rfl]
 simp only [cond_false]
 show dG v c x (cond (decide (bQ x<0)) _ (cond (decide (dV x<0)) _ _)) _
 by_cases hn:bQ x<0
 ·rw [decide_eq_true hn]
  exact dG.is 22 [] rfl rfl
 by_cases hm:dV x<0
 ·rw [decide_eq_false hn,decide_eq_true hm]
  exact dG.is 22 [] rfl rfl
 rw [decide_eq_false hn,decide_eq_false hm]
 simp only [cond_false]
 have xZ:=hv.fe bI.1
 have alH:=hx.n
 have nw:=hx.m
 obtain ⟨a,ha⟩:∃a:Nat,(a:Int)=bQ x:=⟨(bQ x).toNat,by omega⟩
 obtain ⟨b,hb⟩:∃b:Nat,(b:Int)=dV x:=⟨(dV x).toNat,by omega⟩
 rw [← ha,WY _ x a ha (by omega) b hb (by omega) xZ qe q (by omega),bB bI.1]
 simp only [av]
 show dG v c x (Option.bind (du (bh (J I v.2.1 i)).length (jG (bQ x) ((bh (J I v.2.1 i)).length:Int)) ((bh (J I v.2.1 i)).length:Int)) fun bp=>Option.bind (du ((part (bh (J I v.2.1 i)) bp.1 (bp.2-bp.1)).length) 0 (jG (dV x) (((part (bh (J I v.2.1 i)) bp.1 (bp.2-bp.1)).length:Nat):Int))) fun dC=>some ((0,part (part (bh (J I v.2.1 i)) bp.1 (bp.2-bp.1)) dC.1 (dC.2-dC.1),()),(v,c,x,()),())) _
 generalize bh (J I v.2.1 i)=d at *
 have e1:jG (bQ x) (d.length:Int)=((min a d.length:Nat):Int):=by unfold jG;split <;> omega
 rw [e1,iW (by omega) (by omega)]
 simp only [av]
 have e2:part d (min a d.length) (d.length-min a d.length)=d.drop a:=by
  unfold part
  rw [List.take_of_length_le (by rw [List.length_drop];omega)]
  by_cases h:a≤d.length
  ·rw [Nat.min_eq_left h]
  ·rw [List.drop_eq_nil_of_le (by omega),List.drop_eq_nil_of_le (by omega)]
 rw [e2]
 have e3:jG (dV x) ((d.drop a).length:Int)=((min b (d.drop a).length:Nat):Int):=by unfold jG;split <;> omega
 rw [e3]
 have fY:du (d.drop a).length 0 ((min b (d.drop a).length:Nat):Int)=some (0,min b (d.drop a).length):=iW (lo:=0) (Nat.zero_le _) (Nat.min_le_right _ _)
 rw [fY]
 simp only [av,Nat.sub_zero]
 rw [vq]
 refine dG.is 0 _ rfl ?_ (by rw [List.length_take,List.length_drop];omega)
 have tB:(d.drop a).take b=(d.drop a).take (min b (d.drop a).length):=List.take_eq_take_iff.2 (by omega)
 rw [tB]
def N'(v:af.D)(c:aH.D)(x:aJ.D)(a:Option (aF.D×aL.D×Unit))(b:Option (af.D×aF.D×Unit))(Q:af.D→Prop):Prop :=
 ∃(k:Int) (t:aG) (w:af.D),a=some ((k,t,()),(w,c,x,()),())∧b=some (cond (k==0) w v,(k,t,()),())∧(k=0→Q w)∧t.length≤1000∧(k=0∨t=[])
theorem bt.up{v:af.D}{c:aH.D}{x:aJ.D}{a:Option (Int×aL.D×Unit)}{b:Option (af.D×aF.D×Unit)}{Q Q':af.D→Prop}(h:bt v c x a b Q)(nB:∀w,Q w→Q' w) :
  N' v c x (a.bind fun v1=>(eZ (v1.1,())).bind fun v2=>some (v2.1,v1.2.1,())) (b.bind fun v2=>some (v2.1,v2.2.1,())) Q':=by
 obtain ⟨k,w,rfl,rfl,hq⟩:=h
 exact⟨k,[],w,rfl,rfl,fun h0=>nB w (hq h0),by simp,.inr rfl⟩
theorem dG.up{v:af.D}{c:aH.D}{x:aJ.D}{a:Option (aF.D×aL.D×Unit)}{b:Option (aF.D×Unit)}{Q':af.D→Prop}(h:dG v c x a b)(nB:Q' v) :
  N' v c x (a.bind fun v1=>some (v1.1,v1.2.1,())) (b.bind fun v2=>some (v,v2.1,())) Q':=by
 obtain ⟨⟨k,t,⟨⟩⟩,rfl,rfl,hl,h0⟩:=h
 exact⟨k,t,v,rfl,by cases k==0 <;> rfl,fun _=>nB,hl,h0⟩
def o8(v:af.D)(c:aH.D)(x:aJ.D)(w:af.D):Prop :=
 ((aE x=1∨aE x=3∨aE x=10)∧Made v c x w)∨((aE x=2∨aE x=8)∧AI v c x w)∨(aE x=9∧Gu v c x w)∨(aE x=12∧xW v c x w)∨((aE x=5∨aE x=6∨aE x=7)∧vF v c x w) ∨
  (aE x=15∧AP v c x w)∨(aE x=16∧AQ v c x w)∨(aE x=19∧GG v c x w)∨((aE x=4∨aE x=11∨aE x=13∨aE x=14∨aE x=17∨aE x=18∨aE x=20)∧w=v)
noncomputable def x0(v:af.D)(c:aH.D)(x:aJ.D):Option (af.D×aF.D×Unit) :=
 if aE x=1∨aE x=3∨aE x=10 then(uD (v,c,x,())).bind fun v2=>some (v2.1,v2.2.1,())
 else if aE x=2∨aE x=8 then(zv (v,c,x,())).bind fun v2=>some (v2.1,v2.2.1,())
 else if aE x=9 then(Dl (v,c,x,())).bind fun v2=>some (v2.1,v2.2.1,())
 else if aE x=12 then(Dr (v,c,x,())).bind fun v2=>some (v2.1,v2.2.1,())
 else if aE x=5∨aE x=6∨aE x=7 then(qP (v,c,x,())).bind fun v2=>some (v2.1,v2.2.1,())
 else if aE x=15∨aE x=16∨aE x=19 then(sh (v,c,x,())).bind fun v2=>some (v2.1,v2.2.1,())
 else(jU (v,c,x,())).bind fun v2=>some (v,v2.1,())
theorem GK(v:af.D)(c:aH.D)(x:aJ.D)(hx:ib x)(kP:aE x≤20):ke (v,c,x,())=x0 v c x:=by
 obtain ⟨q,hq,_⟩:=jm 4
 show sk (zC aQ) v c x=_
 unfold sk
 rw [hq,MQ,p9.2 hx]
 simp only [av,Bool.not_true,cond_false]
 rw [decide_eq_false (show ¬x.1>20 from Int.not_lt.2 kP)]
 simp only [cond_false]
 have hk:=hx.dh
 obtain ⟨dh,rest⟩:=x
 have:aE (dh,rest)=1∨aE (dh,rest)=2∨aE (dh,rest)=3∨aE (dh,rest)=4∨aE (dh,rest)=5∨aE (dh,rest)=6∨aE (dh,rest)=7∨aE (dh,rest)=8∨aE (dh,rest)=9∨aE (dh,rest)=10∨aE (dh,rest)=11∨aE (dh,rest)=12∨aE (dh,rest)=13∨aE (dh,rest)=14∨aE (dh,rest)=15∨aE (dh,rest)=16∨aE (dh,rest)=17∨aE (dh,rest)=18∨aE (dh,rest)=19∨aE (dh,rest)=20:=by omega
 clear hx hk kP
 unfold x0
 rcases this with h | h | h | h | h | h | h | h | h | h | h | h | h | h | h | h | h | h | h | h <;>(replace h:dh=_:=h;subst h;rfl)
noncomputable def Oa(v:af.D)(c:aH.D)(x:aJ.D):Option (aF.D×aL.D×Unit) :=
 if aE x=1∨aE x=3∨aE x=10 then(zT ((v,c,x,()),())).bind fun v1=>(eZ (v1.1,())).bind fun v2=>some (v2.1,v1.2.1,())
 else if aE x=2∨aE x=8 then(EZ ((v,c,x,()),())).bind fun v1=>(eZ (v1.1,())).bind fun v2=>some (v2.1,v1.2.1,())
 else if aE x=9 then(E0 ((v,c,x,()),())).bind fun v1=>(eZ (v1.1,())).bind fun v2=>some (v2.1,v1.2.1,())
 else if aE x=12 then(E3 ((v,c,x,()),())).bind fun v1=>(eZ (v1.1,())).bind fun v2=>some (v2.1,v1.2.1,())
 else if aE x=5∨aE x=6∨aE x=7 then(E7 ((v,c,x,()),())).bind fun v1=>(eZ (v1.1,())).bind fun v2=>some (v2.1,v1.2.1,())
 else if aE x=15 then(Fj ((v,c,x,()),())).bind fun v1=>(eZ (v1.1,())).bind fun v2=>some (v2.1,v1.2.1,())
 else if aE x=16 then(Fm ((v,c,x,()),())).bind fun v1=>(eZ (v1.1,())).bind fun v2=>some (v2.1,v1.2.1,())
 else if aE x=19 then(Fq ((v,c,x,()),())).bind fun v1=>(eZ (v1.1,())).bind fun v2=>some (v2.1,v1.2.1,())
 else if aE x=4 then(E4 ((v,c,x,()),())).bind fun v1=>some (v1.1,v1.2.1,())
 else if aE x=11 then(E8 ((v,c,x,()),())).bind fun v1=>some (v1.1,v1.2.1,())
 else if aE x=13∨aE x=20 then(zY ((v,c,x,()),())).bind fun v1=>some (v1.1,v1.2.1,())
 else if aE x=14 then(zZ ((v,c,x,()),())).bind fun v1=>some (v1.1,v1.2.1,())
 else if aE x=17 then(Option.bind (Fo ((v,c,x,()),())) fun v6=>Option.bind (eZ (v6.1,())) fun bp=>some (bp.1,v6.2.1,()))
 else(Option.bind (sr (v,())) fun dC=>Option.bind (q3 ([(v.2.1.length:Int),dC.1],())) fun v9=>some ((0,v9.1,()),(v,c,x,()),()))
theorem aiL(v:af.D)(c:aH.D)(x:aJ.D)(hx:ib x)(kP:aE x≤20):Ft ((v,c,x,()),())=Oa v c x:=by
 obtain ⟨q,hq,_⟩:=jm 8
 show Fs (LD aQ) (v,c,x,())=_
 unfold Fs
 rw [hq]
 have hk:=hx.dh
 obtain ⟨dh,rest⟩:=x
 have:aE (dh,rest)=1∨aE (dh,rest)=2∨aE (dh,rest)=3∨aE (dh,rest)=4∨aE (dh,rest)=5∨aE (dh,rest)=6∨aE (dh,rest)=7∨aE (dh,rest)=8∨aE (dh,rest)=9∨aE (dh,rest)=10∨aE (dh,rest)=11∨aE (dh,rest)=12∨aE (dh,rest)=13∨aE (dh,rest)=14∨aE (dh,rest)=15∨aE (dh,rest)=16∨aE (dh,rest)=17∨aE (dh,rest)=18∨aE (dh,rest)=19∨aE (dh,rest)=20:=by omega
 clear hx hk kP
 unfold Oa
 rcases this with h | h | h | h | h | h | h | h | h | h | h | h | h | h | h | h | h | h | h | h <;>(replace h:dh=_:=h;subst h;rfl)
theorem WZ(a:Option (aF.D×aL.D×Unit)):(a.bind fun v1=>some (v1.1,v1.2.1,()))=a:=by
 cases a with
 | none=>rfl
 | some r=>rfl
theorem W0(v:af.D)(c:aH.D)(x:aJ.D)(hv:bE v)(hc:c9 c=true)(hx:ib x)(kP:aE x≤20):N' v c x (Ft ((v,c,x,()),())) (ke (v,c,x,())) (o8 v c x):=by
 rw [aiL v c x hx kP,GK v c x hx kP]
 have hk:=hx.dh
 unfold Oa x0
 by_cases h1:aE x=1∨aE x=3∨aE x=10
 ·rw [if_pos h1,if_pos h1]
  exact(ahf v c x hv hc hx).up fun w h=>.inl ⟨h1,h⟩
 rw [if_neg h1,if_neg h1]
 by_cases h2:aE x=2∨aE x=8
 ·rw [if_pos h2,if_pos h2]
  exact(ahp v c x hv hc hx h2).up fun w h=>.inr (.inl ⟨h2,h⟩)
 rw [if_neg h2,if_neg h2]
 by_cases h3:aE x=9
 ·rw [if_pos h3,if_pos h3]
  exact(aht v c x hv hc hx).up fun w h=>.inr (.inr (.inl ⟨h3,h⟩))
 rw [if_neg h3,if_neg h3]
 by_cases h4:aE x=12
 ·rw [if_pos h4,if_pos h4]
  exact(ahU v c x hv hc hx).up fun w h=>.inr (.inr (.inr (.inl ⟨h4,h⟩)))
 rw [if_neg h4,if_neg h4]
 by_cases a8:aE x=5∨aE x=6∨aE x=7
 ·rw [if_pos a8,if_pos a8]
  exact(aia v c x hv hc hx a8).up fun w h=>.inr (.inr (.inr (.inr (.inl ⟨a8,h⟩))))
 rw [if_neg a8,if_neg a8]
 by_cases bl:aE x=15
 ·rw [if_pos bl,if_pos (.inl bl)]
  exact(ail v c x hv hc hx bl).up fun w h=>.inr (.inr (.inr (.inr (.inr (.inl ⟨bl,h⟩)))))
 rw [if_neg bl]
 by_cases bK:aE x=16
 ·rw [if_pos bK,if_pos (.inr (.inl bK))]
  exact(aim v c x hv hc hx bK).up fun w h=>.inr (.inr (.inr (.inr (.inr (.inr (.inl ⟨bK,h⟩))))))
 rw [if_neg bK]
 by_cases cV:aE x=19
 ·rw [if_pos cV,if_pos (.inr (.inr cV))]
  exact(aio v c x hv hc hx cV).up fun w h=>.inr (.inr (.inr (.inr (.inr (.inr (.inr (.inl ⟨cV,h⟩)))))))
 rw [if_neg cV,if_neg (show ¬(aE x=15∨aE x=16∨aE x=19) by omega)]
 have nB:o8 v c x v:=.inr (.inr (.inr (.inr (.inr (.inr (.inr (.inr ⟨by omega,rfl⟩)))))))
 by_cases jK:aE x=4
 ·rw [if_pos jK]
  exact(aiK v c x hv hc hx jK).up nB
 rw [if_neg jK]
 by_cases j_:aE x=11
 ·rw [if_pos j_]
  exact(aiz v c x hv hc hx j_).up nB
 rw [if_neg j_]
 by_cases yD:aE x=13∨aE x=20
 ·rw [if_pos yD]
  exact(aiJ v c x hv hc hx yD).up nB
 rw [if_neg yD]
 by_cases lP:aE x=14
 ·rw [if_pos lP]
  exact(aiE v c x hv hc hx lP).up nB
 rw [if_neg lP]
 by_cases wB:aE x=17
 ·rw [if_pos wB]
  have:=(aiA v c x hv hc hx wB).up (Q':=o8 v c x) nB
  rwa [WZ] at this
 rw [if_neg wB]
 have:=(aiC v c x hv (by omega)).up (Q':=o8 v c x) nB
 rwa [WZ] at this
theorem bE.GL{v:af.D}(h:bE v):lZ (v,())=some (v,()):=vv v h.gy.len fun i hi=>Nat.le_trans (fN hi) h.gy.cG
theorem bE.aiM{v:af.D}(h:bE v):su (v,())=some (v,()):=agD v h.gy.len fun i hi=>Nat.le_trans (fN hi) h.gy.cG
structure AR(v:af.D)(c:aH.D)(x:aJ.D)(w:af.D)(k:Int)(t:aG):Prop where
 bad:ki v=false→w=(0,[],())∧k=22∧t=[]
 W4:ki v=true→c9 c=false→w=v∧k=22∧t=[]
 call:ki v=true→c9 c=true→(h8 x=false∨20<aE x)→w=v∧k=22∧t=[]
 no:ki v=true→k≠0→w=v
 len:t.length≤1000
 data:k=0∨t=[]
 done:ki v=true→c9 c=true→h8 x=true→aE x≤20→k=0→o8 v c x w
theorem vH(v:af.D)(c:aH.D)(x:aJ.D)(hv:vu v):∃w k t,jV (v,c,x,())=some (w,(k,t,()),())∧eM (v,c,x,())=some (w,(k,t,()),())∧AR v c x w k t:=by
 show ∃w k t,z6 v c x=_∧LG v c x=_∧_
 unfold z6 LG
 rw [M' v hv,F7 v hv]
 simp only [av]
 cases cd:ki v with
 | false=>exact⟨(0,[],()),22,[],rfl,rfl,fun _=>⟨rfl,rfl,rfl⟩,fun h=>by simp [cd] at h,fun h=>by simp [cd] at h,fun h=>by simp [cd] at h,by simp,.inr rfl,fun h=>by simp [cd] at h⟩
 | true =>
 have dM:=lr.1 cd
 simp only [Bool.not_true,cond_false]
 have aiN:(Option.bind (LF (v,c,x,())) fun v3=>some (v3.1,v3.2.1,()))=z1 v c x:=by
  show(Option.bind (z1 v c x) fun v3=>some (v3.1,v3.2.1,()))=_
  cases z1 v c x <;> rfl
 rw [aiN]
 unfold z1
 rw [Aq,F8,af5,dM.aiM,dM.GL]
 simp only [av]
 cases hc:c9 c with
 | false=>exact⟨v,22,[],rfl,rfl,fun h=>by simp [cd] at h,fun _ _=>⟨rfl,rfl,rfl⟩,fun _ h=>by simp [hc] at h,fun _ _=>rfl,by simp,.inr rfl,fun _ h=>by simp [hc] at h⟩
 | true =>
 simp only [Bool.not_true,cond_false]
 have aiO:∀A:Option (af.D×aF.D×Unit),both (both (Option.bind A fun v5=>dup (some (v5.1,v5.2.1,()))) (dup (dup (Option.bind A fun v5=>some (v5.1,v5.2.1,()))))) (dup (both (dup (Option.bind A fun v5=>some (v5.1,v5.2.1,()))) (Option.bind A fun v5=>some (v5.1,v5.2.1,()))))=A:=by
  intro A
  simp only [ji,nE]
  cases A <;> rfl
 rw [aiO]
 have bad:h8 x=false∨20<aE x→ke (v,c,x,())=some (v,(22,[],()),()):=by
  intro h
  show sk (zC aQ) v c x=_
  unfold sk
  rw [MQ]
  simp only [av]
  cases hcall:h8 x with
  | false=>rfl
  | true =>
   rcases h with h | h
   ·rw [hcall] at h;cases h
   ·simp only [Bool.not_true,cond_false]
    rw [decide_eq_true (show x.1>20 from h)];rfl
 cases hcall:h8 x with
 | false =>
  rw [bad (.inl hcall)]
  exact⟨v,22,[],rfl,rfl,fun h=>by simp [cd] at h,fun _ h=>by simp [hc] at h,fun _ _ _=>⟨rfl,rfl,rfl⟩,fun _ _=>rfl,by simp,.inr rfl,fun _ _ h=>by simp [hcall] at h⟩
 | true =>
 have hx:=p9.1 hcall
 simp only [Bool.not_true,cond_false]
 by_cases kP:aE x≤20
 case neg =>
  rw [bad (.inr (by omega)),decide_eq_true (show x.1>20 from Int.not_le.1 kP)]
  exact⟨v,22,[],rfl,rfl,fun h=>by simp [cd] at h,fun _ h=>by simp [hc] at h,fun _ _ _=>⟨rfl,rfl,rfl⟩,fun _ _=>rfl,by simp,.inr rfl,fun _ _ _ h=>absurd h kP⟩
 rw [decide_eq_false (show ¬x.1>20 from Int.not_lt.2 kP)]
 simp only [cond_false]
 obtain ⟨k,t,w,h1,h2,h3,h4,a8⟩:=W0 v c x dM hc hx kP
 rw [h1,h2]
 simp only [av]
 refine⟨cond (k==0) w v,k,t,rfl,?_,fun h=>by simp [cd] at h,fun _ h=>by simp [hc] at h,fun _ _ h=>?_,fun _ h=>by rw [ca h];rfl,h4,a8,fun _ _ _ _ h0=>by rw [cF h0];exact h3 h0⟩
 ·by_cases h0:k=0
  ·rw [dk h0,cF h0];rfl
  ·rw [cP h0,ca h0];rfl
 ·rcases h with h | h
  ·simp [hcall] at h
  ·omega
structure fP(n:Nat)(x:aI):Prop where
 fe:(bh x).length≤200
 cG:(ak x).length≤n
 each:∀d,d∈ak x→d.1.length≤8
structure e9(n:Nat)(l:List aI):Prop where
 len:l.length≤n
 po:∀x,x∈l→fP n x
theorem fP.mono{n m:Nat}{x:aI}(h:fP n x)(hm:n≤m):fP m x:=⟨h.fe,Nat.le_trans h.cG hm,h.each⟩
theorem e9.mono{n m:Nat}{l:List aI}(h:e9 n l)(hm:n≤m):e9 m l:=⟨Nat.le_trans h.len hm,fun x hx=>(h.po x hx).mono hm⟩
theorem e9.get{n:Nat}{l:List aI}(h:e9 n l){i:Nat}(hi:i<l.length):fP n (J I l i):=h.po _ (cJ hi)
theorem e9.set{n:Nat}{l:List aI}(h:e9 n l)(i:Nat){y:aI}(aN:fP n y):e9 n (l.set i y):=⟨by rw [List.length_set];exact h.len,fun x hx=>by
 rcases List.mem_or_eq_of_mem_set hx with hx | rfl
 ·exact h.po x hx
 ·exact aN⟩
theorem e9.go{n:Nat}{l:List aI}(h:e9 n l)(id:Int):e9 n (goN l id):=by
 unfold goN
 cases decide (cl l id=0)
 ·exact h
 ·exact⟨Nat.le_trans (List.length_filter_le _ _) h.len,fun x hx=>h.po x (List.mem_filter.1 hx).1⟩
theorem e9.app{n:Nat}{l:List aI}(h:e9 n l){y:aI}(aN:fP n y):e9 (n+1) (l++[y]):=⟨by simp only [List.length_append,List.length_singleton];have:=h.len;omega,fun x hx=>by
 rcases List.mem_append.1 hx with hx | hx
 ·exact(h.po x hx).mono (by omega)
 ·rw [List.mem_singleton.1 hx];exact aN.mono (by omega)⟩
theorem fP.ins{n:Nat}{x:aI}(h:fP n x){s:aG}(hs:s.length≤8)(id:Int):fP (n+1) (b2 x (ins (ak x) s id)):=⟨h.fe,by
 show(kF.ins (ak x) s id).length≤_
 rw [xT];have:=h.cG;omega,fun d ag=>by
 rcases rj.1 ag with ag | rfl
 ·exact h.each d ag
 ·exact hs⟩
theorem fP.un{n:Nat}{x:aI}(h:fP n x)(s:aG):fP n (b2 x (cg (ak x) s)):=⟨h.fe,Nat.le_trans (vy _ _) h.cG,fun d ag=>h.each d (sX ag)⟩
theorem W5{v:af.D}{n:Nat}(h:e9 n v.2.1):ad.cost af v≤n+n*(200+9*n):=by
 rw [M_]
 have h1:=GJ ra (200+9*n) v.2.1 fun x hx=>by
  have au:=h.po x hx
  have h2:=GJ (fun d:ay.D=>ad.cost ay d) 8 (ak x) fun d ag=>by
   rw [VC];exact au.each d ag
  unfold ra
  rw [F5,U9]
  have:=au.fe
  have:=au.cG
  omega
 have h3:v.2.1.length*(200+9*n)≤n*(200+9*n):=Nat.mul_le_mul_right _ h.len
 have:=h.len
 omega
theorem bE.sz{v:af.D}(h:bE v):e9 24 v.2.1:=by
 refine⟨h.len.2,fun x hx=>?_⟩
 obtain ⟨i,hi,rfl⟩:=fw hx
 have bS:=h.ino i hi
 refine⟨by have:=h.fe hi;omega,?_,fun d ag=>GI (bS.names d ag).1⟩
 by_cases hk:kindOf (J I v.2.1 i)=2
 ·have:=(bS.dir hk).2.2.2;omega
 ·rw [(bS.plain hk).2.2];simp
theorem Ob{l:List aI}{r:aV.D}(h:l6 l r)(hn:nameOf r≠[])(hc:bC r=0∨bC r=2):(nameOf r).length≤8:=by
 rcases hc with hc | hc
 ·exact GI (h.named hc hn).2.1
 ·exact GI (h.new hc hn).2.1
theorem W6{v:af.D}{n:Nat}(h:e9 n v.2.1){i:Nat}(hi:i<v.2.1.length)(s:aG):e9 n (kO v i s).2.1:=(h.set i ((h.get hi).un s)).go _
theorem aiP{l:List aI}{n:Nat}(h:e9 n l){ir it:Nat}(hr:ir<l.length)(ht:it<l.length)(cA:aG){d_:aG}(hs:d_.length≤8)(id:Int):e9 (n+1) (eO l ir cA it d_ id):=by
 have h1:e9 n (dE l ir cA):=h.set ir ((h.get hr).un cA)
 refine(h1.mono (by omega)).set it (fP.ins (n:=n) (h1.get ?_) hs id)
 unfold dE
 rw [List.length_set];exact ht
theorem aiQ(s:aG)(a:Nat)(d:aG)(hs:s.length≤64)(h:a+d.length≤64):(iS s a d).length≤200:=by
 unfold iS
 rw [List.length_append,List.length_append,o6,List.length_drop];omega
theorem o8.sz{v:af.D}{c:aH.D}{x:aJ.D}{w:af.D}(hv:bE v)(hx:ib x)(h:o8 v c x w):e9 30 w.2.1:=by
 have jZ:=hv.sz
 rcases h with⟨_,h⟩ | ⟨_,h⟩ | ⟨_,h⟩ | ⟨_,h⟩ | ⟨_,h⟩ | ⟨_,h⟩ | ⟨_,h⟩ | ⟨_,h⟩ | ⟨_,h⟩
 ·obtain ⟨r,i,hr,hc,hn,hi,_,_,_,_,_,rfl,_⟩:=h.out
  have bI:=(bY hi).1
  have:=hx.sV
  have h1:e9 25 (v.2.1.set i (b2 (J I v.2.1 i) (ins (ak (J I v.2.1 i)) (nameOf r) v.1))):=(jZ.mono (by omega)).set i ((jZ.get bI).ins (Ob hr hn (.inr hc)) _)
  refine(h1.app (y:=gH v c x (J I v.2.1 i)) ⟨?_,by simp [gH,ak],by simp [gH,ak]⟩).mono (by omega)
  show(if aE x=10 then iR x else []).length≤200
  split
  ·omega
  ·simp
 ·obtain ⟨r,i,j,_,_,_,hi,_,_,_,_,_,_,rfl⟩:=h.out
  exact(W6 jZ (bY hi).1 _).mono (by omega)
 ·obtain ⟨r,t,i,j,_,_,_,_,ht,rl,htn,hi,_,_,rfl,_⟩:=h.out
  exact((jZ.mono (by omega)).set i ((jZ.get (bY hi).1).ins (Ob ht htn (.inr rl)) _)).mono (by omega)
 ·obtain ⟨r,t,j,hr,hc,hn,hj,ht,htn,rl,_,h⟩:=h.out
  rcases h with⟨_,rfl⟩ | ⟨_,_,l,ir,it,au,rfl,_,h⟩
  ·exact jZ.mono (by omega)
  ·have hl:e9 24 l:=by
    rcases h with⟨_,rfl,_⟩ | ⟨i2,eX,fo,_,_,_,_,_,rfl⟩
    ·exact jZ
    ·exact W6 jZ (bY fo).1 _
   exact(aiP hl (bY au.hr).1 (bY au.ht).1 _ (Ob ht htn rl) _).mono (by omega)
 ·obtain ⟨r,i,hr,hc,hi,_,_,_,ha,_,h⟩:=h.out
  rcases h with⟨_,_,rfl⟩ | ⟨_,hle,rfl,_⟩
  ·exact jZ.mono (by omega)
  ·have au:=jZ.get (bY hi).1
   refine(jZ.mono (by omega)).set i ⟨?_,by have:=au.cG;exact Nat.le_trans this (by omega),au.each⟩
   show(ig x (J I v.2.1 i)).length≤200
   have ag:=hv.fe (bY hi).1
   unfold ig
   split
   ·rename_i bK
    rw [o6]
    have:eg x (J I v.2.1 i)=bQ x:=by unfold eg;rw [if_neg (by omega)]
    omega
   ·exact aiQ _ _ _ ag (by omega)
 ·obtain ⟨_,_,r,i,_,_,hi,_,_,rfl⟩:=h.out
  have au:=jZ.get (bY hi).1
  exact(jZ.mono (by omega)).set i ⟨au.fe,Nat.le_trans au.cG (by omega),au.each⟩
 ·obtain ⟨_,_,r,i,_,_,hi,rfl⟩:=h.out
  have au:=jZ.get (bY hi).1
  exact(jZ.mono (by omega)).set i ⟨au.fe,Nat.le_trans au.cG (by omega),au.each⟩
 ·obtain ⟨_,_,_,r,i,_,_,hi,_,rfl,_⟩:=h.out
  have au:=jZ.get (bY hi).1
  exact(jZ.mono (by omega)).set i ⟨au.fe,Nat.le_trans au.cG (by omega),au.each⟩
 ·rw [h];exact jZ.mono (by omega)
theorem AR.cost{v:af.D}{c:aH.D}{x:aJ.D}{w:af.D}{k:Int}{t:aG}(h:AR v c x w k t)(hv:ad.cost af v≤1048576):ad.cost af w≤1048576:=by
 have h0:w=v→ad.cost af w≤1048576:=fun e=>by rw [e];exact hv
 cases cd:ki v with
 | false=>rw [(h.bad cd).1,M_];simp
 | true =>
 cases hc:c9 c with
 | false=>exact h0 (h.W4 cd hc).1
 | true =>
 cases hcall:h8 x with
 | false=>exact h0 (h.call cd hc (.inl hcall)).1
 | true =>
 by_cases kP:20<aE x
 ·exact h0 (h.call cd hc (.inr kP)).1
 by_cases hk:k=0
 ·have:=W5 ((h.done cd hc hcall (by omega) hk).sz (lr.1 cd) (p9.1 hcall))
  omega
 ·exact h0 (h.no cd hk)
structure aiR(n:Int)(l:List aI):Prop where
 next:2≤n∧n≤100000
 len:l.length≤24
 j0:l.Pairwise fun a b=>a6 a<a6 b
 root:∃x,x∈l∧a6 x=1∧kindOf x=2
 ids:∀x,x∈l→1≤a6 x∧a6 x≤n-1
 ino:∀x,x∈l→lq l x
 reach:∀x,x∈l→a6 x≠1→dt l 1 (a6 x)
 once:∀x,x∈l→a6 x≠1→kindOf x=2→cl l (a6 x)=1
 bytes:bytesOf l≤400
 over:gw l=false
theorem aiS{l:List aI}(h:l.Pairwise fun a b=>a6 a<a6 b):Ay l:=h.imp fun h=>by omega
theorem kQ{l:List aI}(h:l.Pairwise fun a b=>a6 a<a6 b):h9 l:=Az.2 (aiS h)
theorem GM{l:List aI}(h:l.Pairwise fun a b=>a6 a<a6 b){i j:Nat}(iV:i<j)(hj:j<l.length):a6 (J I l i)<a6 (J I l j):=by
 rw [c8 (by omega),c8 hj]
 exact List.pairwise_iff_getElem.1 h i j (by omega) hj iV
theorem W7{l:List aI}(h:∀i,i+1<l.length→a6 (J I l i)<a6 (J I l (i+1))):l.Pairwise fun a b=>a6 a<a6 b:=by
 have cw:∀d j,j+d+1<l.length→a6 (J I l j)<a6 (J I l (j+d+1)):=by
  intro d
  induction d with
  | zero=>intro j hj;exact h j hj
  | succ d ih=>intro j hj;exact Int.lt_trans (ih j (by omega)) (h (j+d+1) hj)
 rw [List.pairwise_iff_getElem]
 intro i j hi hj iV
 have:=cw (j-i-1) i (by omega)
 rw [show i +(j-i-1)+1=j by omega,c8 hi,c8 hj] at this
 exact this
theorem l_{v:af.D} : bE v↔aiR (fE v) v.2.1:=by
 constructor
 ·intro h
  have h0:0<v.2.1.length:=by have:=h.len;omega
  have b6:∀i,i<v.2.1.length→a6 (J I v.2.1 i)≠1→1≤i:=by
   intro i hi hne
   rcases Nat.eq_zero_or_pos i with h | h
   ·subst h;exact absurd (bE.root ‹_›).1 hne
   ·exact h
  refine⟨h.next,h.len.2,W7 h.Gh,⟨_,cJ h0,h.root⟩,?_,?_,?_,?_,h.bytes,h.over⟩
  ·intro x hx;obtain ⟨i,hi,rfl⟩:=fw hx;exact h.ids i hi
  ·intro x hx;obtain ⟨i,hi,rfl⟩:=fw hx;exact h.ino i hi
  ·intro x hx hne;obtain ⟨i,hi,rfl⟩:=fw hx;exact h.reach i (b6 i hi hne) hi
  ·intro x hx hne hk;obtain ⟨i,hi,rfl⟩:=fw hx;exact h.once i (b6 i hi hne) hi hk
 ·intro h
  obtain ⟨x,hx,hx1,hx2⟩:=h.root
  obtain ⟨k,hk,rfl⟩:=fw hx
  have hk0:k=0:=by
   rcases Nat.eq_zero_or_pos k with h0 | h0
   ·exact h0
   ·have h1:=GM h.j0 h0 hk
    have h2:=h.ids _ (cJ (show 0<v.2.1.length by omega))
    omega
  subst hk0
  have hne:∀i,1≤i→i<v.2.1.length→a6 (J I v.2.1 i)≠1:=by
   intro i hi hl
   have:=GM h.j0 (show 0<i by omega) hl
   omega
  exact⟨h.next,⟨by omega,h.len⟩,⟨hx1,hx2⟩,fun i hi=>h.ids _ (cJ hi),fun i hi=>GM h.j0 (Nat.lt_succ_self i) hi,fun i hi=>h.ino _ (cJ hi),fun i h1 hi=>h.reach _ (cJ hi) (hne i h1 hi),fun i h1 hi hk=>h.once _ (cJ hi) (hne i h1 hi) hk,h.bytes,h.over⟩
theorem iA{l:List aI}(ag:h9 l){a b:Int} : E l a b↔∃x,x∈l∧a6 x=a∧∃d,d∈ak x∧d.2.1=b:=by
 constructor
 ·rintro ⟨i,d,hi,hm,he⟩
  exact⟨J I l i,cJ (bY hi).1,(bY hi).2,d,hm,he⟩
 ·rintro ⟨x,hx,rfl,d,hm,he⟩
  obtain ⟨i,hi,rfl⟩:=fw hx
  exact⟨i,d,ag i hi,hm,he⟩
theorem s_{l l':List aI}(h:∀a b,E l a b→E l' a b){a b:Int}(hb:dt l a b):dt l' a b:=by
 induction hb with
 | single h1=>exact .single (h _ _ h1)
 | tail _ h1 ih=>exact .tail ih (h _ _ h1)
theorem lq.to{l l':List aI}{x:aI}(h:lq l x)(hn:∀d,d∈ak x→(bd l d.2.1).isSome=true→(bd l' d.2.1).isSome=true):lq l' x :=
 ⟨h.mode,h.uid,h.gid,h.kind,h.plain,h.file,h.l5,h.dir,fun d ag=>⟨(h.names d ag).1,(h.names d ag).2.1,hn d ag (h.names d ag).2.2⟩,h.sorted⟩
theorem mem_set{l:List aI}(ag:h9 l){i:Nat}(hi:i<l.length){y:aI}(aN:a6 y=a6 (J I l i)){x:aI} : x∈l.set i y↔x=y∨(x∈l∧a6 x≠a6 y):=by
 constructor
 ·intro hx
  obtain ⟨j,hj,rfl⟩:=fw hx
  rw [List.length_set] at hj
  rw [gb hi]
  split
  ·exact .inl rfl
  ·rename_i iV
   refine .inr ⟨cJ hj,fun he=>iV ?_⟩
   have h1:=ag i hi
   have h2:=ag j hj
   have:(J I l j).1=(J I l i).1:=(show a6 (J I l j)=a6 (J I l i) by rw [he,aN])
   rw [this,h1] at h2
   exact aU h2
 ·rintro (rfl | ⟨hx,hne⟩)
  ·exact List.mem_iff_getElem.2 ⟨i,by rw [List.length_set];exact hi,by rw [List.getElem_set_self]⟩
  ·obtain ⟨j,hj,rfl⟩:=fw hx
   have iV:i≠j:=fun h=>hne (by subst h;exact aN.symm)
   have:J I (l.set i y) j=J I l j:=by rw [gb hi,if_neg iV]
   rw [← this]
   exact cJ (by rw [List.length_set];exact hj)
theorem s'{l:List aI}(h:l.Pairwise fun a b=>a6 a<a6 b){i:Nat}(hi:i<l.length){y:aI}(aN:a6 y=a6 (J I l i)):(l.set i y).Pairwise fun a b=>a6 a<a6 b:=by
 refine W7 fun j hj=>?_
 rw [List.length_set] at hj
 have key:∀k,a6 (J I (l.set i y) k)=a6 (J I l k):=by
  intro k
  rw [gb hi]
  split
  ·rename_i h;subst h;exact aN
  ·rfl
 rw [key,key]
 exact GM h (Nat.lt_succ_self j) hj
theorem GN{l:List aI}{i:Nat}{y:aI}(hi:i<l.length)(b:Int):cl (l.set i y) b+dx (ak (J I l i)) b=cl l b+dx (ak y) b:=by
 unfold cl
 induction l generalizing i with
 | nil=>simp at hi
 | cons z l ih =>
  cases i with
  | zero =>
   simp only [List.set_cons_zero,List.map_cons,List.sum_cons]
   rw [show J I (z :: l) 0=z from rfl];omega
  | succ i =>
   simp only [List.set_cons_succ,List.map_cons,List.sum_cons]
   have:=ih (i:=i) (by simpa using hi)
   rw [show J I (z :: l) (i+1)=J I l i from rfl];omega
theorem aiT(l:List aI)(n:aI)(b:Int):cl (l++[n]) b=cl l b+dx (ak n) b:=by
 unfold cl
 rw [List.map_append,List.sum_append_nat];simp
theorem x1(N M:List ay.D)(b:Int):dx (N++M) b=dx N b+dx M b:=by
 unfold dx
 rw [List.filter_append,List.length_append]
theorem W8(s:aG)(id b:Int):dx [((s,id,()):ay.D)] b=cond (id==b) 1 0:=by
 unfold dx
 rw [List.filter_cons]
 cases h:(((s,id,()):ay.D).2.1==b)
 ·rfl
 ·rfl
theorem aiU(N:List ay.D)(s:aG)(id b:Int):dx (ins N s id) b=dx N b+cond (id==b) 1 0:=by
 unfold ins
 rw [x1,x1,W8]
 have:dx N b=dx (N.takeWhile (dZ s)) b+dx (N.dropWhile (dZ s)) b:=by rw [← x1,List.takeWhile_append_dropWhile]
 omega
theorem aiV{N:List ay.D}{b:Int}(h:∀d,d∈N→d.2.1≠b):dx N b=0:=by
 unfold dx
 rw [List.filter_eq_nil_iff.2 fun d ag=>by rw [beq_iff_eq];exact h d ag];rfl
theorem W9{l:List aI}{b:Int}(h:∀x,x∈l→∀d,d∈ak x→d.2.1≠b):cl l b=0:=by
 unfold cl
 exact NM fun x hx=>aiV (h x hx)
theorem aiW{l:List aI}(hx:q_ l){b:Int}(h:bd l b=none):cl l b=0:=by
 refine W9 fun x aiX d ag he=>?_
 obtain ⟨i,hi,rfl⟩:=fw aiX
 have:=hx i hi d ag
 rw [he,h] at this
 cases this
theorem Oc:∀ {N:List ay.D},jo N→∀ {d:ay.D},d∈N→∀b:Int,dx (cg N d.1) b+cond (d.2.1==b) 1 0=dx N b
 | [],_,d,ag,_=>by cases ag
 | x :: N,hs,d,ag,b=>by
  have h1:=List.pairwise_cons.1 hs
  rcases List.mem_cons.1 ag with rfl | ag
  ·have e:cg (d :: N) d.1=N:=by
    unfold cg
    rw [List.filter_cons,show(!bs d.1 d.1)=false by unfold bs;simp]
    simp only [Bool.false_eq_true,if_false]
    refine List.filter_eq_self.2 fun y aN=>?_
    have:=Gf (h1.1 y aN)
    unfold bs
    simp only [Bool.not_eq_true',decide_eq_false_iff_not]
    exact fun e=>this e.symm
   rw [e]
   show _=dx ([d]++N) b
   rw [x1]
   have:dx [d] b=cond (d.2.1==b) 1 0:=W8 d.1 d.2.1 b
   omega
  ·have e:cg (x :: N) d.1=x :: cg N d.1:=by
    unfold cg
    rw [List.filter_cons,show(!bs x.1 d.1)=true by
     have:=Gf (h1.1 d ag)
     unfold bs;simp [this]]
    rfl
   have ih:=Oc h1.2 ag b
   rw [e]
   show dx ([x]++cg N d.1) b+_=dx ([x]++N) b
   rw [x1,x1]
   omega
theorem AS{l:List aI} : e8 l=0↔bytesOf l≤400∧gw l=false:=by
 unfold e8
 by_cases h:(bytesOf l:Int)>400
 ·rw [decide_eq_true h]
  constructor
  ·intro h0;cases h0
  ·intro h0;omega
 ·rw [decide_eq_false h]
  cases gw l with
  | true =>
   constructor
   ·intro h0;cases h0
   ·intro h0;cases h0.2
  | false=>exact⟨fun _=>⟨by omega,rfl⟩,fun _=>rfl⟩
theorem bE.keep{v:af.D}(hv:bE v){i:Nat}(hi:i<v.2.1.length){y:aI}(h1:a6 y=a6 (J I v.2.1 i))(h2:kindOf y=kindOf (J I v.2.1 i))(h3:ak y=ak (J I v.2.1 i))(ia:lq v.2.1 y)
  (hf:e8 (v.2.1.set i y)=0):bE (v.1,v.2.1.set i y,()):=by
 have h:=l_.1 hv
 have ag:=kQ h.j0
 have AT:∀id,bd (v.2.1.set i y) id=bd v.2.1 id:=fun id=>ri hi h1 id
 have iH:=s' h.j0 hi h1
 have hE:∀a b,E v.2.1 a b→E (v.2.1.set i y) a b:=by
  intro a b
  rw [iA ag,iA (kQ iH)]
  rintro ⟨x,hx,iT,d,im,AU⟩
  by_cases hP:a6 x=a6 y
  ·refine⟨y,(mem_set ag hi h1).2 (.inl rfl),by rw [← hP];exact iT,d,?_,AU⟩
   obtain ⟨j,hj,rfl⟩:=fw hx
   have e1:=ag i hi
   have e2:=ag j hj
   have:(J I v.2.1 j).1=(J I v.2.1 i).1:=(show a6 _=a6 _ by rw [hP,h1])
   rw [this,e1] at e2
   obtain rfl:=aU e2
   rw [h3];exact im
  ·exact⟨x,(mem_set ag hi h1).2 (.inr ⟨hx,hP⟩),iT,d,im,AU⟩
 have fZ:∀a b,dt v.2.1 a b→dt (v.2.1.set i y) a b:=fun a b hb=>s_ hE hb
 have jX:∀b,cl (v.2.1.set i y) b=cl v.2.1 b:=by
  intro b
  have:=GN (y:=y) hi b
  rw [h3] at this
  omega
 have qf:=cJ (t:=I) hi
 have kE:=AS.1 hf
 refine l_.2 ⟨h.next,by rw [List.length_set];exact h.len,iH,?_,?_,?_,?_,?_,kE.1,kE.2⟩
 ·obtain ⟨x,hx,hx1,hx2⟩:=h.root
  by_cases hP:a6 x=a6 y
  ·refine⟨y,(mem_set ag hi h1).2 (.inl rfl),by rw [← hP];exact hx1,?_⟩
   obtain ⟨j,hj,rfl⟩:=fw hx
   have e1:=ag i hi
   have e2:=ag j hj
   have:(J I v.2.1 j).1=(J I v.2.1 i).1:=(show a6 _=a6 _ by rw [hP,h1])
   rw [this,e1] at e2
   obtain rfl:=aU e2
   rw [h2];exact hx2
  ·exact⟨x,(mem_set ag hi h1).2 (.inr ⟨hx,hP⟩),hx1,hx2⟩
 ·intro x hx
  rcases (mem_set ag hi h1).1 hx with rfl | ⟨hx,_⟩
  ·rw [h1];exact h.ids _ qf
  ·exact h.ids x hx
 ·intro x hx
  rcases (mem_set ag hi h1).1 hx with rfl | ⟨hx,_⟩
  ·exact ia.to fun d _ h=>by rw [AT];exact h
  ·exact(h.ino x hx).to fun d _ h=>by rw [AT];exact h
 ·intro x hx hne
  rcases (mem_set ag hi h1).1 hx with rfl | ⟨hx,_⟩
  ·rw [h1] at hne ⊢;exact fZ _ _ (h.reach _ qf hne)
  ·exact fZ _ _ (h.reach x hx hne)
 ·intro x hx hne hk
  rw [jX]
  rcases (mem_set ag hi h1).1 hx with rfl | ⟨hx,_⟩
  ·rw [h1] at hne ⊢;rw [h2] at hk;exact h.once _ qf hne hk
  ·exact h.once x hx hne hk
theorem bE.get{v:af.D}(h:bE v){x:aI}(hx:x∈v.2.1):lq v.2.1 x:=(l_.1 h).ino x hx
theorem m6{l:List aI}(ag:h9 l){x y:aI}(hx:x∈l)(aN:y∈l)(h:a6 x=a6 y):x=y:=by
 obtain ⟨i,hi,rfl⟩:=fw hx
 obtain ⟨j,hj,rfl⟩:=fw aN
 have e1:=ag i hi
 have e2:=ag j hj
 have:(J I l i).1=(J I l j).1:=h
 rw [this,e2] at e1
 rw [aU e1]
theorem lq.named{l l':List aI}{x:aI}(h:lq l x)(kY:∀id,(bd l id).isSome=true→(bd l' id).isSome=true)(hk:kindOf x=2){s:aG}{id:Int}(hs:iz s=true)(h1:id≠1)(b6:(bd l' id).isSome=true)(hl:(ak x).length<12)(hn:∀d,d∈ak x→d.1≠s):lq l' (b2 x (ins (ak x) s id)) :=
 ⟨h.mode,h.uid,h.gid,h.kind,fun eb=>absurd hk eb,h.file,h.l5,fun eb=>⟨(h.dir eb).1,(h.dir eb).2.1,(h.dir eb).2.2.1,by
  show(ins (ak x) s id).length≤12
  rw [xT];omega⟩,fun d ag=>by
  rcases rj.1 ag with ag | rfl
  ·exact⟨(h.names d ag).1,(h.names d ag).2.1,kY _ (h.names d ag).2.2⟩
  ·exact⟨hs,h1,b6⟩,Ws h.sorted hn⟩
theorem Od{l:List aI}(hr:l.Pairwise fun a b=>a6 a<a6 b){i:Nat}(hi:i<l.length)(s:aG)(id:Int) :
  (∀a b,E l a b→E (l.set i (b2 (J I l i) (ins (ak (J I l i)) s id))) a b)∧E (l.set i (b2 (J I l i) (ins (ak (J I l i)) s id))) (a6 (J I l i)) id:=by
 have ag:=kQ hr
 have aN:a6 (b2 (J I l i) (ins (ak (J I l i)) s id))=a6 (J I l i):=sZ _ _
 have jx:=kQ (s' hr hi aN)
 have W_:b2 (J I l i) (ins (ak (J I l i)) s id)∈l.set i (b2 (J I l i) (ins (ak (J I l i)) s id)):=(mem_set ag hi aN).2 (.inl rfl)
 constructor
 ·intro a b
  rw [iA ag,iA jx]
  rintro ⟨x,hx,iT,d,im,AU⟩
  by_cases hP:a6 x=a6 (J I l i)
  ·obtain rfl:=m6 ag hx (cJ hi) hP
   exact⟨_,W_,aN.trans iT,d,rj.2 (.inl im),AU⟩
  ·exact⟨x,(mem_set ag hi aN).2 (.inr ⟨hx,by rw [aN];exact hP⟩),iT,d,im,AU⟩
 ·rw [iA jx]
  exact⟨_,W_,aN,(s,id,()),rj.2 (.inr rfl),rfl⟩
theorem Oe{l:List aI}{i:Nat}(hi:i<l.length)(s:aG)(id b:Int):cl (l.set i (b2 (J I l i) (ins (ak (J I l i)) s id))) b=cl l b+cond (id==b) 1 0:=by
 have h:=GN (y:=b2 (J I l i) (ins (ak (J I l i)) s id)) hi b
 rw [kn,aiU] at h
 omega
theorem Gu.ok{v:af.D}{c:aH.D}{x:aJ.D}{w:af.D}(hv:bE v)(hx:ib x)(h:Gu v c x w):bE w:=by
 obtain ⟨r,t,i,j,hr,hc,hj,q',ht,rl,htn,hi,fM,hl,rfl,hf,_⟩:=h.out
 have hm:=l_.1 hv
 have ag:=kQ hm.j0
 have bI:=(bY hi).1
 have hjl:=bY hj
 obtain ⟨o4,jX,d,gm,iK,Of⟩:=ht.new rl htn
 obtain rfl:d=i:=aU (gm.symm.trans hi)
 have fg:=AD Of fun e he=>hv.AE bI he
 have yT:bj r≠1:=by
  intro h1
  obtain ⟨z,hz,jw,hz2⟩:=hm.root
  have:J I v.2.1 j=z:=m6 ag (cJ hjl.1) hz (by rw [jw];exact hjl.2.trans h1)
  rw [this] at q'
  exact q' hz2
 have ia:=(hm.ino _ (cJ bI)).named (fun _ h=>h) fM jX yT (by rw [hj];rfl) hl fg
 obtain ⟨hE,_⟩:=Od hm.j0 bI (nameOf t) (bj r)
 have aN:a6 (b2 (J I v.2.1 d) (ins (ak (J I v.2.1 d)) (nameOf t) (bj r)))=a6 (J I v.2.1 d):=sZ _ _
 have AT:∀id,bd (v.2.1.set d (b2 (J I v.2.1 d) (ins (ak (J I v.2.1 d)) (nameOf t) (bj r)))) id=bd v.2.1 id:=fun id=>AL _ bI id
 have kE:=AS.1 hf
 refine l_.2 ⟨hm.next,by show(List.set _ _ _).length≤24;rw [List.length_set];exact hm.len,s' hm.j0 bI aN,?_,?_,?_,?_,?_,kE.1,kE.2⟩
 ·obtain ⟨z,hz,jw,hz2⟩:=hm.root
  by_cases AV:a6 z=a6 (J I v.2.1 d)
  ·exact⟨_,(mem_set ag bI aN).2 (.inl rfl),by rw [aN,← AV];exact jw,fM⟩
  ·exact⟨z,(mem_set ag bI aN).2 (.inr ⟨hz,by rw [aN];exact AV⟩),jw,hz2⟩
 ·intro z hz
  rcases (mem_set ag bI aN).1 hz with rfl | ⟨hz,_⟩
  ·rw [aN];exact hm.ids _ (cJ bI)
  ·exact hm.ids z hz
 ·intro z hz
  rcases (mem_set ag bI aN).1 hz with rfl | ⟨hz,_⟩
  ·exact ia.to fun e _ h=>by rw [vB,AT];exact h
  ·exact(hm.ino z hz).to fun e _ h=>by rw [vB,AT];exact h
 ·intro z hz hne
  rcases (mem_set ag bI aN).1 hz with rfl | ⟨hz,_⟩
  ·rw [aN] at hne ⊢;exact s_ hE (hm.reach _ (cJ bI) hne)
  ·exact s_ hE (hm.reach z hz hne)
 ·have Xa:∀z,z∈v.2.1→a6 z≠1→kindOf z=2→cl (v.2.1.set d (b2 (J I v.2.1 d) (ins (ak (J I v.2.1 d)) (nameOf t) (bj r)))) (a6 z)=1:=by
   intro z hz hne hk
   rw [Oe bI,hm.once z hz hne hk]
   have:bj r≠a6 z:=fun e=>by
    have:J I v.2.1 j=z:=m6 ag (cJ hjl.1) hz (hjl.2.trans e)
    rw [this] at q';exact q' hk
   rw [ca this];rfl
  intro z hz hne hk
  rcases (mem_set ag bI aN).1 hz with rfl | ⟨hz,_⟩
  ·rw [aN] at hne ⊢;exact Xa _ (cJ bI) hne fM
  ·exact Xa z hz hne hk
theorem Made.ok{v:af.D}{c:aH.D}{x:aJ.D}{w:af.D}(hv:bE v)(hc:c9 c=true)(hx:ib x)(hk:aE x=1∨aE x=3∨aE x=10)(h:Made v c x w):bE w:=by
 obtain ⟨r,i,hr,aiY,p_,hi,fM,_,hl,hlen,NJ,rfl,hf,_⟩:=h.out
 have ko:=h.bad
 have hm:=l_.1 hv
 have ag:=kQ hm.j0
 have bI:=(bY hi).1
 obtain ⟨o4,jX,d,gm,iK,Of⟩:=hr.new aiY p_
 obtain rfl:d=i:=aU (gm.symm.trans hi)
 have fg:=AD Of fun e he=>hv.AE bI he
 have j8:bd v.2.1 v.1=none:=hv.free
 have qB:=hm.next
 have lM:=hm.ino _ (cJ bI)
 have aN:a6 (b2 (J I v.2.1 d) (ins (ak (J I v.2.1 d)) (nameOf r) v.1))=a6 (J I v.2.1 d):=sZ _ _
 obtain ⟨Og,x2⟩:=Od hm.j0 bI (nameOf r) v.1
 have oD:=s' hm.j0 bI aN
 have AW:a6 (gH v c x (J I v.2.1 d))=fE v:=rfl
 have AX:ak (gH v c x (J I v.2.1 d))=[]:=rfl
 have n0:=fun {z:aI} => mem_set (x:=z) ag bI aN
 have Oh:∀z,z∈v.2.1.set d (b2 (J I v.2.1 d) (ins (ak (J I v.2.1 d)) (nameOf r) v.1))→1≤a6 z∧a6 z≤fE v-1:=by
  intro z hz
  rcases n0.1 hz with rfl | ⟨hz,_⟩
  ·rw [aN];exact hm.ids _ (cJ bI)
  ·exact hm.ids z hz
 generalize hn:gH v c x (J I v.2.1 d)=n at *
 generalize dm:v.2.1.set d (b2 (J I v.2.1 d) (ins (ak (J I v.2.1 d)) (nameOf r) v.1))=S at *
 have Xb:(S++[n]).Pairwise fun a b=>a6 a<a6 b:=by
  rw [List.pairwise_append]
  refine⟨oD,List.pairwise_singleton _ _,fun a ha b hb=>?_⟩
  rw [List.mem_singleton.1 hb,AW]
  have:=Oh a ha
  omega
 have jx:=kQ Xb
 have x3:∀a b,E S a b→E (S++[n]) a b:=by
  intro a b
  rw [iA (kQ oD),iA jx]
  rintro ⟨z,hz,h⟩
  exact⟨z,List.mem_append.2 (.inl hz),h⟩
 have hE:∀a b,E v.2.1 a b→E (S++[n]) a b:=fun a b h=>x3 a b (Og a b h)
 have aiZ:∀id,bd S id=bd v.2.1 id:=fun id=>by rw [← dm];exact AL _ bI id
 have GO:∀id,(bd v.2.1 id).isSome=true→(bd (S++[n]) id).isSome=true:=by
  intro id b6
  obtain ⟨y,aN,he⟩:=n1.1 (show(bd S id).isSome=true by rw [aiZ];exact b6)
  exact n1.2 ⟨y,List.mem_append.2 (.inl aN),he⟩
 have ai0:(bd (S++[n]) v.1).isSome=true:=n1.2 ⟨n,List.mem_append.2 (.inr (List.mem_singleton.2 rfl)),AW⟩
 have hdl:=hm.ids _ (cJ bI)
 have ai1:=lM.named GO fM jX (show v.1≠1 by show fE v≠1;omega) ai0 hl fg
 have pr:(0≤c.1∧c.1≤1000)∧(0≤c.2.1∧c.2.1≤1000):=by
  unfold c9 at hc
  simp only [Bool.and_eq_true] at hc
  exact⟨dR.1 hc.1,dR.1 hc.2.1⟩
 have ai2:lq (S++[n]) n:=by
  have ov:0≤e7 n∧e7 n≤2047:=by
   rw [← hn]
   show 0≤vA x (J I v.2.1 d)∧vA x (J I v.2.1 d)≤2047
   unfold vA
   by_cases j_:aE x=10
   ·rw [if_pos j_];omega
   rw [if_neg j_]
   unfold rk at ko
   rw [ca j_] at ko
   simp only [cond_false,Bool.not_eq_false'] at ko
   have hr:=dR.1 ko
   split
   ·exact ag' hr.1 hr.2
   ·exact hr
  have qf:0≤fj n∧fj n≤1000:=by
   rw [← hn]
   show 0≤AF c (J I v.2.1 d)∧AF c (J I v.2.1 d)≤1000
   unfold AF
   split
   ·exact lM.gid
   ·exact pr.2
  have j6:kindOf n=Gs x:=by rw [← hn];rfl
  have AY:bh n=if aE x=10 then iR x else []:=by rw [← hn];rfl
  have wS:ez n=c.1:=by rw [← hn];rfl
  have Gt:e7 n=vA x (J I v.2.1 d):=by rw [← hn];rfl
  have gn:eE n=0:=by rw [← hn];rfl
  have hi0:et n=0:=by rw [← hn];rfl
  unfold Gs at j6
  refine⟨ov,by rw [wS];exact pr.1,qf,?_,fun _=>⟨gn,hi0,AX⟩,fun h1=>?_,fun h3=>?_,fun h2=>?_,fun e he=>(by rw [AX] at he;cases he),by rw [AX];exact List.Pairwise.nil⟩
  ·rw [j6];split
   ·exact .inr (.inl rfl)
   ·split
    ·exact .inr (.inr rfl)
    ·exact .inl rfl
  ·rw [AY]
   split
   ·have:=hx.sV;omega
   ·simp
  ·have j_:aE x=10:=by
    rw [j6] at h3
    split at h3
    ·cases h3
    ·split at h3
     ·assumption
     ·cases h3
   unfold rk at ko
   rw [cF j_] at ko
   simp only [cond_true,Bool.not_eq_false'] at ko
   refine⟨by rw [AY,if_pos j_];exact ko,?_⟩
   rw [Gt]
   unfold vA
   rw [if_pos j_]
  ·have j_:aE x≠10:=by
    intro j_
    rw [j6,if_neg (by omega),if_pos j_] at h2
    cases h2
   rw [AY,if_neg j_,gn,hi0,AX]
   exact⟨rfl,by omega,by omega,by simp⟩
 have Oi:∀z,z∈v.2.1→a6 z≠1→dt (S++[n]) 1 (a6 z):=fun z hz hne=>s_ hE (hm.reach z hz hne)
 have ai3:∀b,cl (S++[n]) b=cl v.2.1 b+cond (v.1==b) 1 0:=by
  intro b
  rw [aiT,AX,← dm,Oe bI];rfl
 have kE:=AS.1 hf
 refine l_.2 ⟨?_,?_,Xb,?_,?_,?_,?_,?_,kE.1,kE.2⟩
 ·show 2≤fE v+1∧fE v+1≤100000
  omega
 ·show(S++[n]).length≤24
  rw [List.length_append,List.length_singleton,← dm,List.length_set];omega
 ·obtain ⟨z,hz,jw,hz2⟩:=hm.root
  by_cases AV:a6 z=a6 (J I v.2.1 d)
  ·exact⟨_,List.mem_append.2 (.inl (n0.2 (.inl rfl))),by rw [aN,← AV];exact jw,fM⟩
  ·exact⟨z,List.mem_append.2 (.inl (n0.2 (.inr ⟨hz,by rw [aN];exact AV⟩))),jw,hz2⟩
 ·intro z hz
  show 1≤a6 z∧a6 z≤fE v+1-1
  rcases List.mem_append.1 hz with hz | hz
  ·have:=Oh z hz;omega
  ·rw [List.mem_singleton.1 hz,AW];omega
 ·intro z hz
  rcases List.mem_append.1 hz with hz | hz
  ·rcases n0.1 hz with rfl | ⟨hz,_⟩
   ·exact ai1
   ·exact(hm.ino z hz).to fun e _ h=>GO _ h
  ·rw [List.mem_singleton.1 hz];exact ai2
 ·intro z hz hne
  rcases List.mem_append.1 hz with hz | hz
  ·rcases n0.1 hz with rfl | ⟨hz,_⟩
   ·rw [aN] at hne ⊢;exact Oi _ (cJ bI) hne
   ·exact Oi z hz hne
  ·rw [List.mem_singleton.1 hz,AW]
   by_cases h1:a6 (J I v.2.1 d)=1
   ·exact .single (x3 _ _ (h1 ▸ x2))
   ·exact .tail (Oi _ (cJ bI) h1) (x3 _ _ x2)
 ·intro z hz hne ai4
  show cl (S++[n]) (a6 z)=1
  rw [ai3]
  rcases List.mem_append.1 hz with hz | hz
  ·have cw:=Oh z hz
   rw [ca (show v.1≠a6 z by show fE v≠a6 z;omega)]
   rcases n0.1 hz with rfl | ⟨hz,_⟩
   ·rw [aN] at hne ⊢;exact hm.once _ (cJ bI) hne fM
   ·exact hm.once z hz hne ai4
  ·rw [List.mem_singleton.1 hz,AW,show cl v.2.1 (fE v)=0 from aiW hv.gT j8,cF (show v.1=fE v from rfl)];rfl
theorem AQ.ok{v:af.D}{c:aH.D}{x:aJ.D}{w:af.D}(hv:bE v)(h:AQ v c x w):bE w:=by
 obtain ⟨h0,h1,r,i,_,_,hi,rfl⟩:=h.out
 have bI:=(bY hi).1
 have bS:=hv.ino i bI
 exact hv.keep bI (y:=jr (J I v.2.1 i) (e7 (J I v.2.1 i)) (bQ x) (dV x)) rfl rfl rfl ⟨bS.mode,h0,h1,bS.kind,bS.plain,bS.file,bS.l5,bS.dir,bS.names,bS.sorted⟩ (GF hv bI _ _ _)
theorem GG.ok{v:af.D}{c:aH.D}{x:aJ.D}{w:af.D}(hv:bE v)(h:GG v c x w):bE w:=by
 obtain ⟨h0,h1,_,r,i,_,_,hi,hk,rfl,hf⟩:=h.out
 have bI:=(bY hi).1
 have bS:=hv.ino i bI
 exact hv.keep bI (y:=m5 (J I v.2.1 i) (bQ x) (dV x)) rfl rfl rfl ⟨bS.mode,bS.uid,bS.gid,bS.kind,fun eb=>absurd hk eb,bS.file,bS.l5,fun eb=>⟨(bS.dir eb).1,h0,h1,(bS.dir eb).2.2.2⟩,bS.names,bS.sorted⟩ hf
theorem ai5(s:aG)(a:Nat)(d:aG)(hs:s.length≤64)(h:a+d.length≤64):(iS s a d).length≤64:=by
 unfold iS
 rw [List.length_append,List.length_append,o6,List.length_drop];omega
theorem vF.ok{v:af.D}{c:aH.D}{x:aJ.D}{w:af.D}(hv:bE v)(h:vF v c x w):bE w:=by
 obtain ⟨r,i,_,_,hi,hk,gU,_,ha,_,h⟩:=h.out
 have bI:=(bY hi).1
 have bS:=hv.ino i bI
 have ag:=hv.fe bI
 rcases h with⟨_,_,rfl⟩ | ⟨_,hle,rfl,hf⟩
 ·exact hv
 ·have hlen:(ig x (J I v.2.1 i)).length≤64:=by
   unfold ig
   split
   ·rename_i bK
    rw [o6]
    have:eg x (J I v.2.1 i)=bQ x:=by unfold eg;rw [if_neg (by omega)]
    omega
   ·exact ai5 _ _ _ ag (by omega)
  exact hv.keep bI (y:=dF (J I v.2.1 i) (ig x (J I v.2.1 i))) rfl rfl rfl ⟨bS.mode,bS.uid,bS.gid,bS.kind,bS.plain,fun _=>hlen,fun h3=>absurd h3 gU,fun h2=>absurd h2 hk,bS.names,bS.sorted⟩ hf
theorem ai6{m:Int}(h:0≤m)(h':m≤2047):0≤andNot m 1024∧andNot m 1024≤2047:=by
 obtain ⟨n,rfl⟩:∃n:Nat,m=(n:Int):=⟨m.toNat,by omega⟩
 unfold andNot
 rw [show(1024:Int)=((1024:Nat):Int) from rfl,bits_nat]
 simp only
 have h1:(BitVec.ofNat 64 n &&& ~~~BitVec.ofNat 64 1024).toNat≤n:=by
  rw [BitVec.toNat_and,BitVec.toNat_ofNat,Nat.mod_eq_of_lt (show n<2 ^ 64 by omega)]
  exact Nat.and_le_left
 rw [show IntKind.wrap .i64 (((BitVec.ofNat 64 n &&& ~~~BitVec.ofNat 64 1024).toNat:Nat):Int)=(((BitVec.ofNat 64 n &&& ~~~BitVec.ofNat 64 1024).toNat:Nat):Int) from tj (by omega) (by omega)]
 omega
theorem AP.ok{v:af.D}{c:aH.D}{x:aJ.D}{w:af.D}(hv:bE v)(h:AP v c x w):bE w:=by
 obtain ⟨h0,h1,r,i,_,_,hi,gU,_,rfl⟩:=h.out
 have bI:=(bY hi).1
 have bS:=hv.ino i bI
 have hm:0≤rm c x (J I v.2.1 i)∧rm c x (J I v.2.1 i)≤2047:=by
  unfold rm
  split
  ·exact ai6 h0 h1
  ·exact⟨h0,h1⟩
 exact hv.keep bI (y:=jr (J I v.2.1 i) (rm c x (J I v.2.1 i)) (ez (J I v.2.1 i)) (fj (J I v.2.1 i))) rfl rfl rfl ⟨hm,bS.uid,bS.gid,bS.kind,bS.plain,bS.file,fun h3=>absurd h3 gU,bS.dir,bS.names,bS.sorted⟩ (GF hv bI _ _ _)
open Classical in
noncomputable def ml(l:List aI)(id:Int):List aI:=l.filter fun x=>decide (dt l id (a6 x))
theorem Xc(l:List aI):l=(List.range l.length).map fun i=>J I l i:=by
 refine List.ext_getElem (by simp) fun i h1 h2=>?_
 rw [List.getElem_map,List.getElem_range,c8 h1]
open Classical in
theorem Xd{l:List aI}(ag:h9 l)(id:Int):(o0 l (dw l id)).map (fun i=>J I l i)=ml l id:=by
 unfold ml
 conv=>rhs;rw [Xc l]
 rw [List.filter_map]
 unfold o0
 congr 1
 refine List.filter_congr fun i hi=>?_
 have hi:=List.mem_range.1 hi
 have h:=xH l ag id hi
 unfold T at h
 have e:(J .bool (dw l id) i:Bool)=decide (dt l id (a6 (J I l i))):=by
  rw [Bool.eq_iff_iff,decide_eq_true_iff];exact h
 rw [e]
 simp only [Function.comp]
 rw [← Xc l]
theorem GP{l:List aI}(ag:h9 l)(id:Int):jn l (dw l id)=(ml l id).length:=by
 rw [← Xd ag id,List.length_map];rfl
theorem GQ{l:List aI}(ag:h9 l)(id:Int):iQ l (dw l id)=((ml l id).map fun x=>(bh x).length).sum:=by
 rw [← Xd ag id,List.map_map];rfl
theorem AZ{l:List aI} : gw l=false↔∀x,x∈l→hO l x=false:=by
 unfold gw
 constructor
 ·intro h x hx
  obtain ⟨i,hi,rfl⟩:=fw hx
  cases ha:fs l.length fun i => !hO l (J I l i) with
  | true=>simpa using lk.1 ha i hi
  | false=>rw [ha] at h;cases h
 ·intro h
  rw [lk.2 fun i hi=>by rw [h _ (cJ hi)];rfl];rfl
def prs(l:List aI):List (Int×Nat):=l.map fun x=>(a6 x,(bh x).length)
open Classical in
noncomputable def A0(l:List aI)(id:Int):List (Int×Nat):=(prs l).filter fun p=>decide (dt l id p.1)
open Classical in
theorem GR(l:List aI)(id:Int):(ml l id).length=(A0 l id).length∧((ml l id).map fun x=>(bh x).length).sum=((A0 l id).map fun p=>p.2).sum:=by
 have e:A0 l id=(ml l id).map fun x=>(a6 x,(bh x).length):=by
  unfold A0 ml prs
  rw [List.filter_map];rfl
 rw [e,List.length_map,List.map_map]
 exact⟨rfl,rfl⟩
theorem Xe{α : Type}(f : α → Nat){fy L:List α}(h:fy.Sublist L)(p q : α → Bool)(Oj:∀a,p a=true→q a=true):((fy.filter p).map f).sum≤((L.filter q).map f).sum:=by
 induction h with
 | slnil=>simp
 | cons a h ih =>
  rw [List.filter_cons (x:=a)]
  split
  ·rw [List.map_cons,List.sum_cons];omega
  ·exact ih
 | cons_cons a h ih =>
  rw [List.filter_cons,List.filter_cons]
  by_cases au:p a=true
  ·rw [if_pos au,if_pos (Oj a au),List.map_cons,List.map_cons,List.sum_cons,List.sum_cons];omega
  ·rw [if_neg au]
   split
   ·rw [List.map_cons,List.sum_cons];omega
   ·exact ih
theorem Ok{α : Type} : ∀L:List α,(L.map fun _=>1).sum=L.length
 | []=>rfl
 | a :: L=>by rw [List.map_cons,List.sum_cons,Ok L,List.length_cons];omega
theorem ai7{α : Type}{fy L:List α}(h:fy.Sublist L)(p q : α → Bool)(Oj:∀a,p a=true→q a=true):(fy.filter p).length≤(L.filter q).length:=by
 rw [← Ok,← Ok]
 exact Xe (fun _=>1) h p q Oj
theorem ai8{l l':List aI}(ag:h9 l)(jx:h9 l')(hs:(prs l').Sublist (prs l))(hE:∀a b,dt l' a b→dt l a b)(id:Int):jn l' (dw l' id)≤jn l (dw l id)∧iQ l' (dw l' id)≤iQ l (dw l id):=by
 rw [GP ag,GP jx,GQ ag,GQ jx,(GR l id).1,(GR l id).2,(GR l' id).1,(GR l' id).2]
 unfold A0
 exact⟨ai7 hs _ _ fun a h=>by simp only [decide_eq_true_iff] at h ⊢;exact hE _ _ h,Xe _ hs _ _ fun a h=>by simp only [decide_eq_true_iff] at h ⊢;exact hE _ _ h⟩
theorem ai9{l l':List aI}(ag:h9 l)(jx:h9 l')(hs:(prs l').Sublist (prs l))(hE:∀a b,dt l' a b→dt l a b)
  (hm:∀bF,bF∈l'→∃x,x∈l∧a6 x=a6 bF∧eE x=eE bF∧et x=et bF) (h:gw l=false):gw l'=false:=by
 rw [AZ] at h ⊢
 intro bF mv
 obtain ⟨x,hx,h1,h2,h3⟩:=hm bF mv
 have h0:=h x hx
 have hu:=ai8 ag jx hs hE (a6 bF)
 unfold hO at h0 ⊢
 have e:x.1=bF.1:=h1
 rw [Bool.or_eq_false_iff,Bool.and_eq_false_iff,Bool.and_eq_false_iff,decide_eq_false_iff_not,decide_eq_false_iff_not,decide_eq_false_iff_not,decide_eq_false_iff_not] at h0 ⊢
 rw [e,h2,h3] at h0
 have wG:jn l' (dw l' bF.1)≤jn l (dw l bF.1):=hu.1
 have rY:iQ l' (dw l' bF.1)≤iQ l (dw l bF.1):=hu.2
 refine⟨h0.1.imp id fun h=>by omega,h0.2.imp id fun h=>by omega⟩
theorem ai_{l:List aI}{p:aI→Bool}(b:Int)(h:∀x,x∈l→p x=false→ak x=[]):cl (l.filter p) b=cl l b:=by
 unfold cl
 induction l with
 | nil=>rfl
 | cons x l ih =>
  have ih:=ih fun y aN=>h y (List.mem_cons_of_mem _ aN)
  rw [List.filter_cons]
  cases au:p x with
  | true =>
   rw [if_pos rfl,List.map_cons,List.map_cons,List.sum_cons,List.sum_cons,ih]
  | false =>
   rw [if_neg (by decide),List.map_cons,List.sum_cons,ih,h x List.mem_cons_self au]
   simp [dx]
theorem ai'{l:List aI}{i:Nat}(hi:i<l.length){y:aI}(h1:a6 y=a6 (J I l i))(h2:bh y=bh (J I l i)):prs (l.set i y)=prs l:=by
 unfold prs
 rw [List.map_set,h1,h2,c8 hi]
 refine List.ext_getElem (by simp) fun j a b=>?_
 rw [List.getElem_set]
 split
 ·rename_i h;subst h;rw [List.getElem_map]
 ·rfl
theorem aja{l:List aI}{b:Int}(h:cl l b≠0):∃x,x∈l∧∃d,d∈ak x∧d.2.1=b:=by
 refine Decidable.byContradiction fun hn=>h (W9 fun x hx d ag he=>hn ⟨x,hx,d,ag,he⟩)
theorem Xf{v:af.D}(hv:bE v){i:Nat}(hi:i<v.2.1.length){s:aG}{k:Int}(n2:c6 (ak (J I v.2.1 i)) s=k)(hk0:k≠0){j:Nat}(hj:bd v.2.1 k=some j)(he:ak (J I v.2.1 j)=[]):bE (kO v i s):=by
 have hm:=l_.1 hv
 have ag:=kQ hm.j0
 have hjl:=bY hj
 have qf:=cJ (t:=I) hi
 have Ol:=cJ (t:=I) hjl.1
 have bS:=hm.ino _ qf
 obtain ⟨d,ta,GS,fx⟩:=p3 (N:=ak (J I v.2.1 i)) (s:=s) (by rw [n2];exact hk0)
 rw [n2] at fx
 have hk1:k≠1:=fx ▸ (bS.names d ta).2.1
 have lR:a6 (J I v.2.1 j)=k:=hjl.2
 have iV:a6 (J I v.2.1 i)≠k:=by
  intro h
  have:=m6 ag qf Ol (h.trans lR.symm)
  rw [this,he] at ta;cases ta
 have aN:a6 (b2 (J I v.2.1 i) (cg (ak (J I v.2.1 i)) s))=a6 (J I v.2.1 i):=sZ _ _
 have hr1:=s' hm.j0 hi aN
 have GU:=fun {x:aI} => mem_set (x:=x) ag hi aN
 have ajb:∀b,¬E v.2.1 k b:=by
  intro b h
  obtain ⟨x,hx,ajc,e,hex,_⟩:=(iA ag).1 h
  have:=m6 ag hx Ol (ajc.trans lR.symm)
  rw [this,he] at hex;cases hex
 have ajd:∀b,cl (v.2.1.set i (b2 (J I v.2.1 i) (cg (ak (J I v.2.1 i)) s))) b+cond (k==b) 1 0=cl v.2.1 b:=by
  intro b
  have h1:=GN (y:=b2 (J I v.2.1 i) (cg (ak (J I v.2.1 i)) s)) hi b
  have h2:=Oc bS.sorted ta b
  rw [kn] at h1
  rw [GS,fx] at h2
  omega
 have Xg:prs (v.2.1.set i (b2 (J I v.2.1 i) (cg (ak (J I v.2.1 i)) s)))=prs v.2.1:=ai' hi aN rfl
 have aje:bytesOf (v.2.1.set i (b2 (J I v.2.1 i) (cg (ak (J I v.2.1 i)) s)))=bytesOf v.2.1:=by
  have h:=ND (y:=b2 (J I v.2.1 i) (cg (ak (J I v.2.1 i)) s)) hi
  rw [show bh (b2 (J I v.2.1 i) (cg (ak (J I v.2.1 i)) s))=bh (J I v.2.1 i) from rfl] at h
  omega
 have lQ:∀x,x∈v.2.1.set i (b2 (J I v.2.1 i) (cg (ak (J I v.2.1 i)) s))→∃bF,bF∈v.2.1∧a6 bF=a6 x∧kindOf bF=kindOf x∧eE bF=eE x∧et bF=et x∧(∀e,e∈ak x→e∈ak bF)∧(a6 x=k→ak x=[]):=by
  intro x hx
  rcases GU.1 hx with rfl | ⟨hx,hne⟩
  ·exact⟨_,qf,rfl,rfl,rfl,rfl,fun e h=>sX h,fun h=>absurd (aN ▸ h) iV⟩
  ·exact⟨x,hx,rfl,rfl,rfl,rfl,fun e h=>h,fun h=>by rw [m6 ag hx Ol (h.trans lR.symm)];exact he⟩
 have Om:∀x,x∈v.2.1→∃bF,bF∈v.2.1.set i (b2 (J I v.2.1 i) (cg (ak (J I v.2.1 i)) s))∧a6 bF=a6 x∧kindOf bF=kindOf x∧∀e,e∈ak x→e.2.1≠k→e∈ak bF:=by
  intro x hx
  by_cases hP:a6 x=a6 (J I v.2.1 i)
  ·have mv:=m6 ag hx qf hP
   subst mv
   refine⟨_,GU.2 (.inl rfl),aN,rfl,fun e h On=>List.mem_filter.2 ⟨h,?_⟩⟩
   have:e.1≠s:=fun h1=>On (by rw [← Gz bS.sorted h,h1,n2])
   unfold bs
   simp [this]
  ·exact⟨x,GU.2 (.inr ⟨hx,by rw [aN];exact hP⟩),rfl,rfl,fun e h _=>h⟩
 have ajf:∀x,x∈v.2.1.set i (b2 (J I v.2.1 i) (cg (ak (J I v.2.1 i)) s))→lq v.2.1 x:=by
  intro x hx
  rcases GU.1 hx with rfl | ⟨hx,hne⟩
  ·exact⟨bS.mode,bS.uid,bS.gid,bS.kind,fun h=>⟨(bS.plain h).1,(bS.plain h).2.1,by
    show cg _ s=[]
    rw [(bS.plain h).2.2];rfl⟩,bS.file,bS.l5,fun h=>⟨(bS.dir h).1,(bS.dir h).2.1,(bS.dir h).2.2.1,Nat.le_trans (vy _ _) (bS.dir h).2.2.2⟩,fun e h=>bS.names e (sX h),vC bS.sorted s⟩
  ·exact hm.ino x hx
 show bE (v.1,goN (v.2.1.set i (b2 (J I v.2.1 i) (cg (ak (J I v.2.1 i)) s))) (c6 (ak (J I v.2.1 i)) s),())
 rw [n2]
 generalize v.2.1.set i (b2 (J I v.2.1 i) (cg (ak (J I v.2.1 i)) s))=S at *
 have gm:=kQ hr1
 have jy:∀x,x∈goN S k↔x∈S∧(cl S k=0→a6 x≠k):=by
  intro x
  unfold goN
  by_cases h0:cl S k=0
  ·rw [decide_eq_true h0]
   simp only [cond_true,List.mem_filter,Bool.not_eq_true',beq_eq_false_iff_ne]
   exact⟨fun h=>⟨h.1,fun _=>h.2⟩,fun h=>⟨h.1,h.2 h0⟩⟩
  ·rw [decide_eq_false h0]
   exact⟨fun h=>⟨h,fun h1=>absurd h1 h0⟩,fun h=>h.1⟩
 have kY:(goN S k).Sublist S:=by
  unfold goN
  cases decide (cl S k=0)
  ·exact List.Sublist.refl _
  ·exact List.filter_sublist
 have gK:=hr1.sublist kY
 have iK:=kQ gK
 have ajg:∀a b,E (goN S k) a b→E v.2.1 a b:=by
  intro a b h
  obtain ⟨x,hx,iT,e,hex,m7⟩:=(iA iK).1 h
  obtain ⟨bF,h1,h2,_,_,_,h3,_⟩:=lQ x ((jy x).1 hx).1
  exact(iA ag).2 ⟨bF,h1,h2.trans iT,e,h3 e hex,m7⟩
 have x3:∀a b,E S a b→E (goN S k) a b:=by
  intro a b h
  obtain ⟨x,hx,iT,e,hex,m7⟩:=(iA gm).1 h
  refine(iA iK).2 ⟨x,(jy x).2 ⟨hx,fun _ hk=>?_⟩,iT,e,hex,m7⟩
  obtain ⟨_,_,_,_,_,_,_,jK⟩:=lQ x hx
  rw [jK hk] at hex;cases hex
 have Xh:∀a b,b≠k→E v.2.1 a b→E (goN S k) a b:=by
  intro a b hb h
  obtain ⟨x,hx,iT,e,hex,m7⟩:=(iA ag).1 h
  obtain ⟨bF,h1,h2,_,h3⟩:=Om x hx
  exact x3 a b ((iA gm).2 ⟨bF,h1,h2.trans iT,e,h3 e hex (m7 ▸ hb),m7⟩)
 have fZ:∀b,dt v.2.1 1 b→b≠k→dt (goN S k) 1 b:=by
  intro b h
  induction h with
  | single h=>exact fun hb=>.single (Xh _ _ hb h)
  | tail h1 h2 ih=>exact fun hb=>.tail (ih fun h=>ajb _ (h ▸ h2)) (Xh _ _ hb h2)
 have ajh:∀b,cl (goN S k) b=cl S b:=by
  intro b
  unfold goN
  cases decide (cl S k=0)
  ·rfl
  ·refine ai_ b fun x hx au=>?_
   obtain ⟨_,_,_,_,_,_,_,jK⟩:=lQ x hx
   have e:x.1=k:=by simpa using au
   exact jK e
 have GO:∀x,x∈goN S k→∀e,e∈ak x→(bd v.2.1 e.2.1).isSome=true→(bd (goN S k) e.2.1).isSome=true:=by
  intro x hx e hex hs
  obtain ⟨y,aN,xJ⟩:=n1.1 hs
  obtain ⟨mg,h1,h2,_,_⟩:=Om y aN
  refine n1.2 ⟨mg,(jy mg).2 ⟨h1,fun h0 hk=>?_⟩,h2.trans xJ⟩
  refine Gp h0 x ((jy x).1 hx).1 e hex ?_
  exact xJ.symm.trans (h2.symm.trans hk)
 refine l_.2 ⟨hm.next,Nat.le_trans kY.length_le ?_,gK,?_,?_,?_,?_,?_,?_,?_⟩
 ·have:=congrArg List.length Xg
  unfold prs at this
  rw [List.length_map,List.length_map] at this
  rw [this];exact hm.len
 ·obtain ⟨z,hz,jw,hz2⟩:=hm.root
  obtain ⟨jL,h1,h2,h3,_⟩:=Om z hz
  exact⟨jL,(jy jL).2 ⟨h1,fun _ h=>hk1 (h.symm.trans (h2.trans jw))⟩,h2.trans jw,h3.trans hz2⟩
 ·intro x hx
  obtain ⟨bF,h1,h2,_⟩:=lQ x ((jy x).1 hx).1
  rw [← h2];exact hm.ids bF h1
 ·intro x hx
  exact(ajf x ((jy x).1 hx).1).to fun e hex h=>GO x hx e hex h
 ·intro x hx hne
  obtain ⟨bF,h1,h2,_⟩:=lQ x ((jy x).1 hx).1
  by_cases hk:a6 x=k
  ·have h0:cl S k≠0:=fun h0=>((jy x).1 hx).2 h0 hk
   obtain ⟨z,hz,e,Oo,On⟩:=aja h0
   have Xi:E (goN S k) (a6 z) k:=x3 _ _ ((iA gm).2 ⟨z,hz,rfl,e,Oo,On⟩)
   obtain ⟨jL,g1,g2,_,_,_,_,g9⟩:=lQ z hz
   rw [hk]
   by_cases jw:a6 z=1
   ·exact .single (jw ▸ Xi)
   ·refine .tail (fZ _ (g2 ▸ hm.reach jL g1 (by rw [g2];exact jw)) fun h=>?_) Xi
    rw [g9 h] at Oo;cases Oo
  ·exact fZ _ (h2 ▸ hm.reach bF h1 (by rw [h2];exact hne)) hk
 ·intro x hx hne x4
  obtain ⟨bF,h1,h2,h3,_⟩:=lQ x ((jy x).1 hx).1
  have ho:=hm.once bF h1 (by rw [h2];exact hne) (h3.trans x4)
  have hn:=ajd (a6 x)
  rw [h2] at ho
  show cl (goN S k) (a6 x)=1
  rw [ajh]
  by_cases hk:a6 x=k
  ·exfalso
   rw [cF hk.symm] at hn
   simp only [cond_true] at hn
   exact((jy x).1 hx).2 (by rw [← hk];omega) hk
  ·rw [ca (fun h=>hk h.symm)] at hn
   simp only [cond_false] at hn
   omega
 ·refine Nat.le_trans ?_ (aje ▸ hm.bytes)
  unfold goN
  cases decide (cl S k=0)
  ·exact Nat.le_refl _
  ·exact Gq _ _ S
 ·refine ai9 ag iK ?_ (fun a b h=>s_ ajg h) (fun x hx=>?_) hm.over
  ·rw [← Xg];exact kY.map _
  ·obtain ⟨bF,h1,h2,_,h4,a8,_⟩:=lQ x ((jy x).1 hx).1
   exact⟨bF,h1,h2,h4,a8⟩
theorem AI.ok{v:af.D}{c:aH.D}{x:aJ.D}{w:af.D}(hv:bE v)(h:AI v c x w):bE w:=by
 obtain ⟨r,i,j,hr,hc,hn,hi,_,hl,hj,he,_,_,rfl⟩:=h.out
 exact Xf hv (bY hi).1 hl (hr.named hc hn).1 hj he
theorem Xj{u:af.D}(hu:bE u){rd jE:Int}{ir it:Nat}{cA d_:aG}{bG:Int}(h:sY u.2.1 rd jE ir it cA d_ bG)(htn:iz d_=true)(hlen:rd≠jE→(ak (J I u.2.1 it)).length<12)
  (hb:∀j,bd u.2.1 bG=some j→kindOf (J I u.2.1 j)=2→jE≠bG∧¬dt u.2.1 bG jE) (hf:e8 (eO u.2.1 ir cA it d_ bG)=0):bE (u.1,eO u.2.1 ir cA it d_ bG,()):=by
 have hm:=l_.1 hu
 have ag:=kQ hm.j0
 have vI:=bY h.hr
 have A1:=bY h.ht
 have n4:=cJ (t:=I) vI.1
 have bS:=hm.ino _ n4
 have aji:a6 (J I u.2.1 ir)=rd:=vI.2
 have x5:a6 (J I u.2.1 it)=jE:=A1.2
 obtain ⟨j,hj⟩:=Option.isSome_iff_exists.1 h.ex
 have hjl:=bY hj
 have Xk:a6 (J I u.2.1 j)=bG:=hjl.2
 obtain ⟨d,ta,GS,fx⟩:=p3 (N:=ak (J I u.2.1 ir)) (s:=cA) (by rw [h.look];exact h.Wt)
 rw [h.look] at fx
 have ajj:bG≠1:=fx ▸ (bS.names d ta).2.1
 have x6:a6 (b2 (J I u.2.1 ir) (cg (ak (J I u.2.1 ir)) cA))=a6 (J I u.2.1 ir):=sZ _ _
 have x7:=fun {x:aI} => mem_set (x:=x) ag vI.1 x6
 have hr1:(dE u.2.1 ir cA).Pairwise fun a b=>a6 a<a6 b:=s' hm.j0 vI.1 x6
 have gm:=kQ hr1
 have A2:∀id,bd (dE u.2.1 ir cA) id=bd u.2.1 id:=fun id=>NS vI.1 id
 have hl1:(dE u.2.1 ir cA).length=u.2.1.length:=List.length_set
 have x8:it<(dE u.2.1 ir cA).length:=by rw [hl1];exact A1.1
 have ajk:∀b,cl (dE u.2.1 ir cA) b+cond (bG==b) 1 0=cl u.2.1 b:=by
  intro b
  have h1:=GN (y:=b2 (J I u.2.1 ir) (cg (ak (J I u.2.1 ir)) cA)) vI.1 b
  have h2:=Oc bS.sorted ta b
  rw [kn] at h1
  rw [GS,fx] at h2
  show cl (List.set _ _ _) b+_=_
  omega
 have Xl:∀x,x∈dE u.2.1 ir cA→lq (dE u.2.1 ir cA) x:=by
  intro x hx
  rcases x7.1 hx with rfl | ⟨hx,hne⟩
  ·exact⟨bS.mode,bS.uid,bS.gid,bS.kind,fun hk=>absurd h.AK hk,bS.file,bS.l5,fun hk=>⟨(bS.dir hk).1,(bS.dir hk).2.1,(bS.dir hk).2.2.1,Nat.le_trans (vy _ _) (bS.dir hk).2.2.2⟩,fun e he=>by
    rw [A2];exact bS.names e (sX he),vC bS.sorted cA⟩
  ·exact(hm.ino x hx).to fun e _ hs=>by rw [A2];exact hs
 have Og:∀a b,b≠bG→E u.2.1 a b→E (dE u.2.1 ir cA) a b:=by
  intro a b dJ hE
  obtain ⟨x,hx,iT,e,hex,m7⟩:=(iA ag).1 hE
  by_cases hP:a6 x=a6 (J I u.2.1 ir)
  ·have mv:=m6 ag hx n4 hP
   subst mv
   refine(iA gm).2 ⟨_,x7.2 (.inl rfl),x6.trans iT,e,List.mem_filter.2 ⟨hex,?_⟩,m7⟩
   have:e.1≠cA:=fun h1=>dJ (by rw [← m7,← Gz bS.sorted hex,h1,h.look])
   unfold bs
   simp [this]
  ·exact(iA gm).2 ⟨x,x7.2 (.inr ⟨hx,by rw [x6];exact hP⟩),iT,e,hex,m7⟩
 have ajl:∀x,x∈u.2.1→∃bF,bF∈dE u.2.1 ir cA∧a6 bF=a6 x∧kindOf bF=kindOf x:=by
  intro x hx
  by_cases hP:a6 x=a6 (J I u.2.1 ir)
  ·exact⟨_,x7.2 (.inl rfl),x6.trans hP.symm,by rw [m6 ag hx n4 hP];rfl⟩
  ·exact⟨x,x7.2 (.inr ⟨hx,by rw [x6];exact hP⟩),rfl,rfl⟩
 have Xm:∀x,x∈dE u.2.1 ir cA→∃bF,bF∈u.2.1∧a6 bF=a6 x∧kindOf bF=kindOf x:=by
  intro x hx
  rcases x7.1 hx with rfl | ⟨hx,hne⟩
  ·exact⟨_,n4,rfl,rfl⟩
  ·exact⟨x,hx,rfl,rfl⟩
 have qb:kindOf (J I (dE u.2.1 ir cA) it)=2∧(ak (J I (dE u.2.1 ir cA) it)).length<12∧(∀e,e∈ak (J I (dE u.2.1 ir cA) it)→e.1≠d_)∧a6 (J I (dE u.2.1 ir cA) it)=jE:=by
  unfold dE
  rw [gb vI.1]
  by_cases hii:ir=it
  ·subst hii
   rw [if_pos rfl]
   refine⟨h.AK,?_,fun e he=>h.no e (sX he),x5⟩
   show(cg (ak (J I u.2.1 ir)) cA).length<12
   have lP:=(bS.dir h.AK).2.2.2
   have:(cg (ak (J I u.2.1 ir)) cA).length<(ak (J I u.2.1 ir)).length:=by
    unfold cg
    refine List.length_filter_lt_length_iff_exists.2 ⟨d,ta,?_⟩
    unfold bs
    simp [GS]
   omega
  ·rw [if_neg hii]
   refine⟨h.NR,hlen fun he=>hii ?_,h.no,x5⟩
   have:=m6 ag n4 (cJ A1.1) (by rw [aji,x5];exact he)
   have e1:=h.hr
   rw [he,h.ht] at e1
   exact(aU e1).symm
 have Oq:=cJ (t:=I) x8
 have vJ:a6 (b2 (J I (dE u.2.1 ir cA) it) (ins (ak (J I (dE u.2.1 ir cA) it)) d_ bG))=a6 (J I (dE u.2.1 ir cA) it):=sZ _ _
 have GV:=fun {x:aI} => mem_set (x:=x) gm x8 vJ
 have gK:(eO u.2.1 ir cA it d_ bG).Pairwise fun a b=>a6 a<a6 b:=s' hr1 x8 vJ
 obtain ⟨x2,A3⟩:=Od hr1 x8 d_ bG
 rw [qb.2.2.2] at A3
 have x2:∀a b,E (dE u.2.1 ir cA) a b→E (eO u.2.1 ir cA it d_ bG) a b:=x2
 have A3:E (eO u.2.1 ir cA it d_ bG) jE bG:=A3
 have Ot:∀id,bd (eO u.2.1 ir cA it d_ bG) id=bd u.2.1 id:=fun id=>(Wu x8 id).trans (A2 id)
 have ajm:∀b,cl (eO u.2.1 ir cA it d_ bG) b=cl u.2.1 b:=by
  intro b
  have h1:cl (eO u.2.1 ir cA it d_ bG) b=cl (dE u.2.1 ir cA) b+cond (bG==b) 1 0:=Oe x8 d_ bG b
  have h2:=ajk b
  omega
 have ajn:∀x,x∈u.2.1→∃bF,bF∈eO u.2.1 ir cA it d_ bG∧a6 bF=a6 x∧kindOf bF=kindOf x:=by
  intro x hx
  obtain ⟨U,a1,a2,a3⟩:=ajl x hx
  by_cases hP:a6 U=a6 (J I (dE u.2.1 ir cA) it)
  ·exact⟨_,GV.2 (.inl rfl),vJ.trans (hP.symm.trans a2),by rw [← a3,m6 gm a1 Oq hP];rfl⟩
  ·exact⟨U,GV.2 (.inr ⟨a1,by rw [vJ];exact hP⟩),a2,a3⟩
 have hbk:∀x,x∈eO u.2.1 ir cA it d_ bG→∃bF,bF∈u.2.1∧a6 bF=a6 x∧kindOf bF=kindOf x:=by
  intro x hx
  rcases GV.1 hx with rfl | ⟨hx,hne⟩
  ·obtain ⟨bF,a1,a2,a3⟩:=Xm _ Oq
   exact⟨bF,a1,a2.trans vJ.symm,a3⟩
  ·exact Xm x hx
 have hE:∀a b,b≠bG→E u.2.1 a b→E (eO u.2.1 ir cA it d_ bG) a b:=fun a b dJ he=>x2 a b (Og a b dJ he)
 have Xn:jE≠bG∧¬dt u.2.1 bG jE:=by
  by_cases hk:kindOf (J I u.2.1 j)=2
  ·exact hb j hj hk
  ·have ajo:∀b,¬E u.2.1 bG b:=by
    intro b he
    obtain ⟨x,hx,iT,e,hex,_⟩:=(iA ag).1 he
    rw [m6 ag hx (cJ hjl.1) (iT.trans Xk.symm),((hm.ino _ (cJ hjl.1)).plain hk).2.2] at hex
    cases hex
   refine⟨fun he=>hk ?_,fun fZ=>?_⟩
   ·rw [← m6 ag (cJ A1.1) (cJ hjl.1) (by rw [x5,Xk];exact he)];exact h.NR
   ·have:∀c,dt u.2.1 bG c→False:=by
     intro c hc
     induction hc with
     | single h=>exact ajo _ h
     | tail _ _ ih=>exact ih
    exact this _ fZ
 have tK:∀c,dt u.2.1 1 c→c≠bG→¬dt u.2.1 bG c→dt (eO u.2.1 ir cA it d_ bG) 1 c:=by
  intro c hc
  induction hc with
  | single h1=>exact fun hne _=>.single (hE _ _ hne h1)
  | tail h1 h2 ih=>exact fun hne my=>.tail (ih (fun he=>my (.single (he ▸ h2))) fun fZ=>my (.tail fZ h2)) (hE _ _ hne h2)
 have Xo:dt (eO u.2.1 ir cA it d_ bG) 1 bG:=by
  by_cases h1:jE=1
  ·exact .single (h1 ▸ A3)
  ·refine .tail (tK jE ?_ Xn.1 Xn.2) A3
   have:=hm.reach _ (cJ A1.1) (by rw [x5];exact h1)
   rwa [x5] at this
 have hA:∀c,dt u.2.1 1 c→dt (eO u.2.1 ir cA it d_ bG) 1 c:=by
  intro c hc
  induction hc with
  | @single b h1 =>
   by_cases A4:b=bG
   ·rw [A4];exact Xo
   ·exact .single (hE _ _ A4 h1)
  | @tail b c h1 h2 ih =>
   by_cases A4:c=bG
   ·rw [A4];exact Xo
   ·exact .tail ih (hE _ _ A4 h2)
 have kE:=AS.1 hf
 refine l_.2 ⟨hm.next,?_,gK,?_,?_,?_,?_,?_,kE.1,kE.2⟩
 ·show(List.set _ _ _).length≤24
  rw [List.length_set,hl1];exact hm.len
 ·obtain ⟨z,hz,jw,hz2⟩:=hm.root
  obtain ⟨jL,a1,a2,a3⟩:=ajn z hz
  exact⟨jL,a1,a2.trans jw,a3.trans hz2⟩
 ·intro x hx
  obtain ⟨bF,a1,a2,a3⟩:=hbk x hx
  rw [← a2];exact hm.ids bF a1
 ·intro x hx
  rcases GV.1 hx with rfl | ⟨hx,hne⟩
  ·refine(Xl _ Oq).named (l':=eO u.2.1 ir cA it d_ bG) (fun id hs=>?_) qb.1 htn ajj (by rw [Ot];exact h.ex) qb.2.1 qb.2.2.1
   rw [Ot];rwa [A2] at hs
  ·refine(Xl x hx).to fun e _ hs=>?_
   show(bd (eO u.2.1 ir cA it d_ bG) e.2.1).isSome=true
   rw [Ot];rwa [A2] at hs
 ·intro x hx hne
  obtain ⟨bF,a1,a2,a3⟩:=hbk x hx
  rw [← a2];exact hA _ (hm.reach bF a1 (by rw [a2];exact hne))
 ·intro x hx hne hk
  obtain ⟨bF,a1,a2,a3⟩:=hbk x hx
  show cl (eO u.2.1 ir cA it d_ bG) (a6 x)=1
  rw [ajm,← a2]
  exact hm.once bF a1 (by rw [a2];exact hne) (a3.trans hk)
theorem ajp{v:af.D}{s:aG}(hv:bE v){i:Nat}(hi:i<v.2.1.length)(hw:bE (kO v i s))(a b:Int)(h:E (kO v i s).2.1 a b):E v.2.1 a b:=by
 have hm:=l_.1 hv
 have ag:=kQ hm.j0
 have iK:=kQ (l_.1 hw).j0
 have aN:a6 (b2 (J I v.2.1 i) (cg (ak (J I v.2.1 i)) s))=a6 (J I v.2.1 i):=sZ _ _
 obtain ⟨x,hx,iT,e,hex,m7⟩:=(iA iK).1 h
 have kY:x∈v.2.1.set i (b2 (J I v.2.1 i) (cg (ak (J I v.2.1 i)) s)):=by
  unfold kO goN at hx
  cases hc:decide (cl (v.2.1.set i (b2 (J I v.2.1 i) (cg (ak (J I v.2.1 i)) s))) (c6 (ak (J I v.2.1 i)) s)=0) with
  | true=>rw [hc] at hx;exact(List.mem_filter.1 hx).1
  | false=>rw [hc] at hx;exact hx
 rcases (mem_set ag hi aN).1 kY with rfl | ⟨hx,_⟩
 ·exact(iA ag).2 ⟨_,cJ hi,aN.symm.trans iT,e,sX hex,m7⟩
 ·exact(iA ag).2 ⟨x,hx,iT,e,hex,m7⟩
theorem xW.ok{v:af.D}{c:aH.D}{x:aJ.D}{w:af.D}(hv:bE v)(h:xW v c x w):bE w:=by
 obtain ⟨r,t,j,hr,hc,p_,hj,ht,htn,rl,_,h⟩:=h.out
 have jg:iz (nameOf t)=true:=by
  rcases rl with h0 | h2
  ·exact(ht.named h0 htn).2.1
  ·exact(ht.new h2 htn).2.1
 rcases h with⟨_,rfl⟩ | ⟨hne,my,l,ir,it,au,rfl,hf,h⟩
 ·exact hv
 rcases h with⟨_,rfl,hlen⟩ | ⟨i2,eX,fo,hk2,kC,oz,dW,hkk,rfl⟩
 ·refine Xj hv au jg hlen (fun kX hj' hk=>?_) hf
  obtain rfl:kX=j:=aU (hj'.symm.trans hj)
  exact my hk
 ·have p4:=bY fo
  have o4:bj t≠0:=by
   have:=hv.Wi (cJ (bY kC).1)
   have e:a6 (J I v.2.1 eX)=bj t:=(bY kC).2
   omega
  have hu:=Xf hv p4.1 dW o4 kC oz
  obtain ⟨_,im⟩:=Wy hv p4.1 hk2 (nameOf t)
  have hE:=fun a b=>ajp (s:=nameOf t) hv p4.1 hu a b
  have js:(ak (J I (kO v i2 (nameOf t)).2.1 it)).length<12:=by
   have kp:ch t≠c6 (ak (J I v.2.1 i2)) (nameOf t):=by
    rw [dW]
    intro e
    rw [← e,fo] at kC
    rw [← aU kC] at oz
    obtain ⟨d,gm,_⟩:=p3 (N:=ak (J I v.2.1 i2)) (s:=nameOf t) (by rw [dW];exact o4)
    rw [oz] at gm;cases gm
   obtain ⟨k',eb,aA⟩:=im (ch t) kp i2 fo
   obtain rfl:k'=it:=aU (eb.symm.trans au.ht)
   rw [aA,if_pos rfl,kn]
   have lP:=((hv.ino i2 p4.1).dir hk2).2.2.2
   obtain ⟨d,gm,iK,_⟩:=p3 (N:=ak (J I v.2.1 i2)) (s:=nameOf t) (by rw [dW];exact o4)
   have:(cg (ak (J I v.2.1 i2)) (nameOf t)).length<(ak (J I v.2.1 i2)).length:=by
    unfold cg
    refine List.length_filter_lt_length_iff_exists.2 ⟨d,gm,?_⟩
    unfold bs
    simp [iK]
   omega
  refine Xj hu au jg (fun _=>js) (fun kX hj' hk=>?_) hf
  have ajq:bj r≠c6 (ak (J I v.2.1 i2)) (nameOf t):=by rw [dW];exact fun e=>hne e.symm
  obtain ⟨k',eb,aA⟩:=im (bj r) ajq j hj
  obtain rfl:k'=kX:=aU (eb.symm.trans hj')
  have q':kindOf (J I v.2.1 j)=2:=by
   rw [aA] at hk
   split at hk
   ·rename_i e;subst e;exact hk
   ·exact hk
  exact⟨(my q').1,fun fZ=>(my q').2 (s_ hE fZ)⟩
theorem o8.ok{v:af.D}{c:aH.D}{x:aJ.D}{w:af.D}(hv:bE v)(hc:c9 c=true)(hx:ib x)(h:o8 v c x w):bE w:=by
 rcases h with⟨hk,h⟩ | ⟨_,h⟩ | ⟨_,h⟩ | ⟨_,h⟩ | ⟨_,h⟩ | ⟨_,h⟩ | ⟨_,h⟩ | ⟨_,h⟩ | ⟨_,h⟩
 ·exact h.ok hv hc hx hk
 ·exact h.ok hv
 ·exact h.ok hv hx
 ·exact h.ok hv
 ·exact h.ok hv
 ·exact h.ok hv
 ·exact h.ok hv
 ·exact h.ok hv
 ·rw [h];exact hv
theorem AR.ok{v:af.D}{c:aH.D}{x:aJ.D}{w:af.D}{k:Int}{t:aG}(h:AR v c x w k t)(hv:ki v=true):ki w=true:=by
 have h0:w=v→ki w=true:=fun e=>by rw [e];exact hv
 cases hc:c9 c with
 | false=>exact h0 (h.W4 hv hc).1
 | true =>
 cases hcall:h8 x with
 | false=>exact h0 (h.call hv hc (.inl hcall)).1
 | true =>
 by_cases kP:20<aE x
 ·exact h0 (h.call hv hc (.inr kP)).1
 by_cases hk:k=0
 ·exact lr.2 ((h.done hv hc hcall (by omega) hk).ok (lr.1 hv) hc (p9.1 hcall))
 ·exact h0 (h.no hv hk)
end Go.LM.kF
