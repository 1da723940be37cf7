/- Tellings, and a call as a whole. Conditions: each theorem's own hypotheses. -/
import Derived.Test.YtlkbjdmfbadhaaaGreatDoorTVd
set_option linter.unusedVariables false
set_option linter.unusedSimpArgs false
namespace Go.LM.jH
def lM(a:Int):aS:=ga [IntKind.wrap .u8 (ay (48+a))]
theorem rl(a:Int):(lM a).length=1:=rfl
def kZ(x:Int):Int:=if Int.tmod x 10<0 then -(Int.tmod x 10) else Int.tmod x 10
def sZ(b:Bool)(t:aS):aS:=cond b ([45]++t) t
theorem aaP(m:Nat)(x:Int)(t:aS)(b:Bool):pk (m+1) x t b=Ah (pk m) x t b:=rfl
theorem anM(m:Nat)(y:Int)(t:aS)(x:Int):(mg (m+1)).bf y t x=LN (mg m) y t x:=rfl
theorem anN(m:Nat)(y:Int)(t:aS)(x a:Int):(mg (m+1)).dG y t x a=LO (mg m) y t x a:=rfl
theorem QM(x:Int):(-9≤Int.tmod x 10∧Int.tmod x 10≤9)∧(0≤x→0≤Int.tmod x 10)∧(x≤0→Int.tmod x 10≤0):=by
 have h1:=Int.tmod_lt_of_pos x (show(0:Int)<10 by decide)
 have h2:=Int.lt_tmod_of_pos x (show(0:Int)<10 by decide)
 refine⟨by omega,fun h=>Int.tmod_nonneg _ h,fun h=>?_⟩
 have h3:0≤Int.tmod (-x) 10:=Int.tmod_nonneg _ (by omega)
 rw [Int.neg_tmod] at h3
 omega
theorem QN(x:Int):10*Int.tdiv x 10+Int.tmod x 10=x:=Int.mul_tdiv_add_tmod x 10
theorem aaQ(neg:Bool)(t:aS)(h:t.length≤1000) :
  cond neg (cond (room (([45]:aS).length+t.length)) (some (([45]:aS)++t,())) none) (some (t,()))=some (sZ neg t,()):=by
 rw [ck (by simp;omega)]
 cases neg <;> rfl
theorem anO(m:Nat)(t:aS)(neg:Bool)(h:t.length≤1000):pk (m+1) 0 t neg=some (sZ neg t,()):=by
 rw [aaP]
 unfold Ah
 rw [show((0:Int) != 0)=false from rfl]
 simp only [cond_false]
 exact aaQ neg t h
theorem aaR(m:Nat)(x:Int)(t:aS)(neg:Bool)(hx:x≠0)(h:t.length≤1000)(hb : -4000000000000000000≤x∧x≤4000000000000000000):pk (m+1) x t neg=pk m (Int.tdiv x 10) (lM (kZ x)++t) neg:=by
 have h1:=QM x
 have h2:=QN x
 rw [aaP]
 unfold Ah
 rw [c4 hx]
 simp only [cond_true]
 rw [ed (a:=Int.tdiv x 10) (by omega) (by omega)]
 by_cases hn:Int.tmod x 10<0
 ·rw [decide_eq_true hn]
  simp only [cond_true]
  rw [ed (a:=0-Int.tmod x 10) (by omega) (by omega)]
  rw [show kZ x=0-Int.tmod x 10 by unfold kZ;rw [if_pos hn];omega]
  rw [show ga [IntKind.wrap .u8 (ay (48 +(0-Int.tmod x 10)))]=lM (0-Int.tmod x 10) from rfl,ck (by rw [rl];omega)]
  rfl
 ·rw [decide_eq_false hn]
  simp only [cond_false]
  rw [show kZ x=Int.tmod x 10 by unfold kZ;rw [if_neg hn]]
  rw [show ga [IntKind.wrap .u8 (ay (48+Int.tmod x 10))]=lM (Int.tmod x 10) from rfl,ck (by rw [rl];omega)]
  rfl
theorem QO(m:Nat)(y x:Int)(t:aS)(h:t.length≤900)(hb : -4000000000000000000≤x∧x≤4000000000000000000) :
  (mg (m+2)).bf y t x=cond (cg x (-9) 9) (some (sZ (decide (y<0)) (lM (kZ x)++t),())) ((mg m).bf y (lM (kZ x)++t) (Int.tdiv x 10)):=by
 have h1:=QM x
 have h2:=QN x
 have key:∀a,(mg (m+1)).dG y t x a=cond (cg x (-9) 9) (some (sZ (decide (y<0)) (lM a++t),())) ((mg m).bf y (lM a++t) (Int.tdiv x 10)):=by
  intro a
  rw [anN]
  unfold LO
  rw [show ga [IntKind.wrap .u8 (ay (48+a))]=lM a from rfl,ck (by rw [rl];omega),gE,ed (a:=Int.tdiv x 10) (by omega) (by omega)]
  simp only [cond_true,ak]
  rw [aaQ (decide (y<0)) (lM a++t) (by rw [List.length_append,rl];omega)]
 rw [anM]
 unfold LN
 by_cases hn:Int.tmod x 10<0
 ·rw [decide_eq_true hn]
  simp only [cond_true]
  rw [ed (a:=0-Int.tmod x 10) (by omega) (by omega),key,show kZ x=0-Int.tmod x 10 by unfold kZ;rw [if_pos hn];omega]
 ·rw [decide_eq_false hn]
  simp only [cond_false]
  rw [key,show kZ x=Int.tmod x 10 by unfold kZ;rw [if_neg hn]]
theorem anP:∀(k:Nat) (x:Int),k≤18→x≠0 → -(10 ^ k:Int)<x→x<(10 ^ k:Int) →
  ∃t:aS,t.length≤k∧(∀(m:Nat) (a:aS) (neg:Bool),k<m→a.length+k≤500→pk m x a neg=some (sZ neg (t++a),())) ∧
   (∀(m:Nat) (y:Int) (a:aS),2*k<m→a.length+k≤500→(mg m).bf y a x=some (sZ (decide (y<0)) (t++a),())):=by
 intro k
 induction k with
 | zero=>intro x hk h0 h1 h2;simp at h1 h2;omega
 | succ k ih =>
  intro x hk h0 h1 h2
  have ah:=QM x
  have hm:=QN x
  have Bc:(10 ^ k:Int)≤100000000000000000:=by
   have:(10:Nat) ^ k≤10 ^ 17:=Nat.pow_le_pow_right (by decide) (by omega)
   have h3:((10 ^ k:Nat):Int)≤((10 ^ 17:Nat):Int):=Int.ofNat_le.2 this
   simpa using h3
  have av:(10 ^ (k+1):Int)=10*10 ^ k:=by rw [Int.pow_succ];omega
  rw [av] at h1 h2
  generalize v_:(10 ^ k:Int)=P at *
  by_cases lq : -9≤x∧x≤9
  ·refine⟨lM (kZ x),by rw [rl];omega,fun m a neg o0 ha=>?_,fun m y a o0 ha=>?_⟩
   ·obtain ⟨m,rfl⟩:∃q,m=q+1+1:=⟨m-2,by omega⟩
    rw [aaR _ x a neg h0 (by omega) (by omega),show Int.tdiv x 10=0 by omega]
    exact anO m _ neg (by rw [List.length_append,rl];omega)
   ·obtain ⟨m,rfl⟩:∃q,m=q+2:=⟨m-2,by omega⟩
    rw [QO m y x a (by omega) (by omega),show cg x (-9) 9=true from dm.2 lq];rfl
  ·obtain ⟨t,ht,hs,hi⟩:=ih (Int.tdiv x 10) (by omega) (by omega) (by omega) (by omega)
   refine⟨t++lM (kZ x),by rw [List.length_append,rl];omega,fun m a neg o0 ha=>?_,fun m y a o0 ha=>?_⟩
   ·obtain ⟨m,rfl⟩:∃q,m=q+1:=⟨m-1,by omega⟩
    rw [aaR _ x a neg h0 (by omega) (by omega)]
    rw [hs m (lM (kZ x)++a) neg (by omega) (by rw [List.length_append,rl];omega),List.append_assoc]
   ·obtain ⟨m,rfl⟩:∃q,m=q+2:=⟨m-2,by omega⟩
    rw [QO m y x a (by omega) (by omega),show cg x (-9) 9=false from Bool.eq_false_iff.2 fun h=>lq (dm.1 h)]
    simp only [cond_false]
    rw [hi m y (lM (kZ x)++a) (by omega) (by rw [List.length_append,rl];omega),List.append_assoc]
def gr(x:Int):aS:=match uS (x,()) with | some r=>r.1 | none=>[]
theorem fy(x:Int)(h : -1000000000000<x∧x<1000000000000):(gr x).length≤20∧eY (x,())=some (gr x,())∧uS (x,())=some (gr x,()):=by
 obtain ⟨t,h1,h2,h3⟩:∃t:aS,t.length≤20∧eY (x,())=some (t,())∧uS (x,())=some (t,()):=by
  by_cases h0:x=0
  ·subst h0
   refine⟨[48],by simp,rfl,?_⟩
   obtain ⟨q,hq,_⟩:=jl 2
   show(mg aK).bf 0 [] 0=_
   rw [hq,QO q 0 0 [] (by simp) (by omega)];rfl
  ·obtain ⟨t,ht,hs,hi⟩:=anP 12 x (by omega) h0 (by simpa using h.1) (by simpa using h.2)
   refine⟨sZ (decide (x<0)) t,?_,?_,?_⟩
   ·unfold sZ
    cases decide (x<0)
    ·simp only [cond_false];omega
    ·simp only [cond_true,List.length_append,List.length_cons,List.length_nil];omega
   ·show cond (x==0) _ (pk aK x [] (decide (x<0)))=_
    rw [bV h0]
    simp only [cond_false]
    rw [hs aK [] _ (jk (by omega)) (by simp),List.append_nil]
   ·show(mg aK).bf x [] x=_
    rw [hi aK x [] (jk (by omega)) (by simp),List.append_nil]
 have e:gr x=t:=by unfold gr;rw [h3]
 rw [e]
 exact⟨h1,h2,h3⟩
theorem anQ(xs:List aS)(sep:aS)(B:Nat)(h:∀t,t∈xs→t.length≤B):(Lib.joinTail sep xs).length≤xs.length*(sep.length+B):=by
 induction xs with
 | nil=>simp [Lib.joinTail]
 | cons y r ih =>
  have h1:=h y (by simp)
  have h2:=ih fun t ht=>h t (by simp [ht])
  simp only [Lib.joinTail,List.map_cons,List.flatten_cons,List.length_append,List.length_cons,Nat.add_one_mul] at h2 ⊢
  omega
theorem IE(xs:List aS)(sep:aS)(B:Nat)(h:∀t,t∈xs→t.length≤B):(Lib.join xs sep).length≤xs.length*(sep.length+B):=by
 cases xs with
 | nil=>simp [Lib.join_nil]
 | cons y r =>
  have h1:=h y (by simp)
  have h2:=anQ r sep B fun t ht=>h t (by simp [ht])
  rw [Lib.join_cons,List.length_append,List.length_cons,Nat.add_one_mul]
  omega
theorem anR(xs:List aS)(y sep:aS)(h:xs≠[]):Lib.join (xs++[y]) sep=Lib.join xs sep++sep++y:=by
 cases xs with
 | nil=>exact absurd rfl h
 | cons x r=>simp [Lib.join_cons,Lib.joinTail,List.append_assoc]
theorem aaS(xs:List aS)(sep:aS)(B:Nat)(h:∀t,t∈xs→t.length≤B)(hl:xs.length*(sep.length+B)≤68719476736)(hn:xs.length≤68719476736):joinF xs sep=some (Lib.join xs sep,()):=by
 unfold joinF
 rw [if_pos ⟨hn,Nat.le_trans (IE xs sep B h) hl⟩]
theorem QP(L:List Int)(hl:L.length≤100)(h:∀x,x∈L → -1000000000000<x∧x<1000000000000):qD (L,())=some (Lib.join (L.map gr) [32],()):=by
 show u2 aK L (L.length:Int) 0 []=_
 have:=mr L.length (by omega) (fun m i=>u2 m L (L.length:Int) i ((L.take i.toNat).map gr)) (fun _=>some (Lib.join (L.map gr) [32],())) (fun _=>True) (fun m _=>by
  simp only [u2,EB]
  rw [b0 (Nat.le_refl _),Int.toNat_natCast,List.take_length]
  simp only [cond_false]
  show Option.bind (joinF (L.map gr) [32]) _=_
  rw [aaS _ _ 20 (fun t ht=>by
   obtain ⟨x,hx,rfl⟩:=List.mem_map.1 ht
   exact(fy x (h x hx)).1) (by simp;omega) (by simp;omega)];rfl) (fun m i hi _ hw ih=>by
  have hx:L[i]∈L:=List.getElem_mem hi
  have ih:=ih trivial
  rw [Int.toNat_natCast_add_one,List.take_succ_eq_append_getElem hi,List.map_append] at ih
  simp only [u2,EB,hw]
  rw [bx hi,ba hi,Int.toNat_natCast]
  simp only [cond_true,ak]
  rw [show J (aa.int .i64) L i=L[i] from di hi,(fy _ (h _ hx)).2.2]
  simp only [ak]
  rw [ck (by simp;omega)]
  exact ih) L.length 0 aK (by omega) (jk (by omega)) trivial
 simpa using this
def dz(v:af.D)(c:aP.D)(x:aN.D)(a:Option (aA.D×aQ.D×Unit))(b:Option (aA.D×Unit)):Prop:=∃res:aA.D,a=some (res,(v,c,x,()),())∧b=some (res,())∧res.2.1.length≤1000∧(res.1=0∨res.2.1=[])
theorem dz.is{v:af.D}{c:aP.D}{x:aN.D}{a:Option (aA.D×aQ.D×Unit)}{b:Option (aA.D×Unit)}(k:Int)(t:aS)(ha:a=some ((k,t,()),(v,c,x,()),()))(hb:b=some ((k,t,()),()))(hl:t.length≤1000:=by simp)(h0:k=0∨t=[]:=by simp):dz v c x a b:=⟨(k,t,()),ha,hb,hl,h0⟩
theorem anS(m:Nat)(a b d e):(fm (m+1)).bm a b d e=NA (fm m) a b d e:=rfl
theorem yr(m:Nat)(a b d e f):(fm (m+1)).dJ a b d e f=sA (fm m) a b d e f:=rfl
theorem aaT(m:Nat)(a b d e f):(fm (m+1)).vA a b d e f=Gl (fm m) a b d e f:=rfl
theorem aaU(m:Nat)(a b d e):(fm (m+1)).sy a b d e=Gm (fm m) a b d e:=rfl
theorem anT(m:Nat)(a b d e):(fm (m+1)).Gk a b d e=NB (fm m) a b d e:=rfl
def mC(x:aN.D):Bool:=aG x != 11&&(aG x != 14||bO x==0)
def nC(x:aN.D):Bool:=(aG x==14&&(bO x != 0&&bO x != 1))||(aG x==17 && !cg (bO x) 0 7)
def s4:aA.D:=(0,([]:aS),())
theorem anU(m:Nat)(v:af.D)(c:aP.D)(x:aN.D)(z:aA.D):(fm (m+1)).bm v c x z=Option.bind (eT (v,c,eZ x,mC x,())) fun r=>(fm m).dJ v c x z r.1:=by
 rw [anS]
 unfold NA mC
 show cond (aG x != 11) (cond (aG x != 14) (Option.bind (eT (v,c,eZ x,true,())) _) (Option.bind (eT (v,c,eZ x,bO x==0,())) _)) (Option.bind (eT (v,c,eZ x,false,())) _)=_
 cases aG x != 11
 ·rfl
 ·cases aG x != 14 <;> rfl
theorem QQ(K:nq)(v:af.D)(c:aP.D)(x:aN.D)(hk:aG x≠18):qS K v c x=cond (nC x) (some ((22,[],()),())) (K.bm v c x s4):=by
 unfold qS nC
 have anV:∀k:Option (aA.D×Unit),Option.bind (cS (bO x,0,7,())) (fun v4=>cond (!v4.1) (some ((22,([]:aS),()),())) k)=cond (!cg (bO x) 0 7) (some ((22,([]:aS),()),())) k:=fun k=>by rw [gU];rfl
 show cond (aG x==18) _ (cond (aG x==14) (cond (bO x != 0) (cond (bO x != 1) _ (cond (aG x==17) (Option.bind (cS (bO x,0,7,())) _) _)) (cond (aG x==17) (Option.bind (cS (bO x,0,7,())) _) _)) (cond (aG x==17) (Option.bind (cS (bO x,0,7,())) (fun v4=>cond (!v4.1) (some ((22,([]:aS),()),())) (K.bm v c x s4))) (K.bm v c x s4)))=_
 rw [bV hk]
 simp only [cond_false]
 by_cases w_:aG x=14
 ·rw [cA w_,bV (show aG x≠17 by omega)]
  cases bO x != 0 <;> cases bO x != 1 <;> rfl
 ·rw [bV w_]
  simp only [cond_false,Bool.false_and,Bool.false_or]
  rw [anV]
  cases aG x==17
  ·rfl
  ·cases cg (bO x) 0 7 <;> rfl
theorem Bm(v:af.D)(c:aP.D)(x:aN.D)(hk:aG x≠18)(hb:nC x=false)(cp:rh v.2.1)(r:aY.D)(hs:eT (v,c,eZ x,mC x,())=some (r,())) :
  ∃q,4611686018427387904<q∧kT (v,c,x,())=(fm (q+1)).dJ v c x s4 r:=by
 obtain ⟨q,hq,hQ⟩:=jl 2
 refine⟨q,hQ,?_⟩
 show qS (fm aK) v c x=_
 rw [QQ _ _ _ _ hk,hb,hq]
 simp only [cond_false]
 rw [anU,hs];rfl
theorem Bn(v:af.D)(c:aP.D)(x:aN.D)(q:Nat)(r:aY.D)(h:bH r≠0):(fm (q+1)).dJ v c x s4 r=some ((bH r,[],()),()):=by
 rw [yr]
 unfold sA
 show cond (bH r != 0) _ _=_
 rw [c4 h];rfl
theorem anW(v:af.D)(c:aP.D)(x:aN.D)(hv:cG v)(hc:dY c=true)(hx:jv x)(hk:aG x=11):dz v c x (Ez ((v,c,x,()),())) (kT (v,c,x,())):=by
 have cp:=hv.iY
 have av:=hx.path
 obtain ⟨r,hr,fx,ke,kf⟩:=sW v c x false cp hc (by omega)
 obtain ⟨q,hq,bX⟩:=Bm v c x (by omega) (by unfold nC;rw [bV (show aG x≠14 by omega),bV (show aG x≠17 by omega)];rfl) cp r (by
  rw [show mC x=false by unfold mC;rw [dL hk];rfl];exact fx)
 show dz v c x (My (v,c,x,())) _
 rw [bX]
 unfold My
 by_cases bZ:bH r=0
 case neg =>
  rw [ke bZ,Bn v c x q r bZ]
  simp only [ak]
  rw [c4 bZ]
  exact dz.is (bH r) [] rfl rfl
 obtain ⟨i,hi,eQ⟩:=kf bZ
 have bN:=cq hi
 rw [eQ,yr]
 unfold sA
 show dz v c x _ (cond (bH r != 0) _ (Option.bind (e8 (v,bu r,())) _))
 rw [dL bZ,jr v _ cp.len hi]
 simp only [cond_false,ak]
 rw [show((0:Int) != 0)=false from rfl,ba bN.1]
 simp only [cond_false,ak]
 show dz v c x (cond (kindOf (J I v.2.1 i) != 3) _ _) (cond (aG x==4) _ (cond (aG x==11) (cond (kindOf (J I v.2.1 i) != 3) _ _) _))
 rw [bV (show aG x≠4 by omega),cA hk]
 simp only [cond_false,cond_true]
 cases kindOf (J I v.2.1 i) != 3 with
 | true=>exact dz.is 22 [] rfl rfl
 | false=>exact dz.is 0 (bS (J I v.2.1 i)) rfl rfl (by have:=hv.iw bN.1;omega)
theorem anX(v:af.D)(c:aP.D)(x:aN.D)(hv:cG v)(hc:dY c=true)(hx:jv x)(hk:aG x=17) :
  dz v c x (Option.bind (EO ((v,c,x,()),())) fun v6=>Option.bind (ec (v6.1,())) fun bn=>some (bn.1,v6.2.1,())) (kT (v,c,x,())):=by
 have cp:=hv.iY
 have av:=hx.path
 show dz v c x (Option.bind (MF (v,c,x,())) _) _
 unfold MF
 show dz v c x (Option.bind (Option.bind (cZ (bO x,0,7,())) _) _) _
 rw [gE]
 simp only [ak]
 cases hN:cg (bO x) 0 7 with
 | false =>
  have ef:kT (v,c,x,())=some ((22,[],()),()):=by
   show qS (fm aK) v c x=_
   rw [QQ _ _ _ _ (by omega),show nC x=true by unfold nC;rw [cA hk,hN];simp];rfl
  rw [ef]
  exact dz.is 22 [] rfl rfl
 | true =>
 obtain ⟨r,hr,fx,ke,kf⟩:=sW v c x true cp hc (by omega)
 obtain ⟨q,hq,bX⟩:=Bm v c x (by omega) (by unfold nC;rw [bV (show aG x≠14 by omega),hN];simp) cp r (by
  rw [show mC x=true by unfold mC;rw [c4 (show aG x≠11 by omega),c4 (show aG x≠14 by omega)];rfl];exact fx)
 rw [bX]
 simp only [Bool.not_true,cond_false]
 by_cases bZ:bH r=0
 case neg =>
  rw [ke bZ,Bn v c x q r bZ]
  simp only [ak]
  rw [c4 bZ]
  exact dz.is (bH r) [] rfl rfl
 obtain ⟨i,hi,eQ⟩:=kf bZ
 have bN:=cq hi
 rw [eQ,yr]
 unfold sA
 show dz v c x _ (cond (bH r != 0) _ (Option.bind (e8 (v,bu r,())) _))
 rw [dL bZ,jr v _ cp.len hi]
 simp only [cond_false,ak]
 rw [show((0:Int) != 0)=false from rfl,ba bN.1]
 simp only [cond_false,ak]
 show dz v c x (Option.bind (Option.bind (pf (c,J I v.2.1 i,bO x,())) _) _) (cond (aG x==4) _ (cond (aG x==11) _ (cond (aG x==13) _ (cond (aG x==14) _ (cond (aG x==17) (Option.bind (j7 (c,J I v.2.1 i,bO x,())) _) _)))))
 rw [bV (show aG x≠4 by omega),bV (show aG x≠11 by omega),bV (show aG x≠13 by omega),bV (show aG x≠14 by omega),cA hk]
 simp only [cond_false,cond_true]
 rw [A0 c _ _ hc,pI c _ _ hc]
 simp only [ak]
 cases may c (J I v.2.1 i) (bO x) with
 | false=>exact dz.is 13 [] rfl rfl
 | true=>exact dz.is 0 [] rfl rfl
theorem QR(L:List Int)(hl:L.length≤40)(h:∀x,x∈L → -1000000000000<x∧x<1000000000000):(Lib.join (L.map gr) [32]).length≤1000:=by
 refine Nat.le_trans (IE _ _ 20 fun t ht=>?_) ?_
 ·obtain ⟨x,hx,rfl⟩:=List.mem_map.1 ht
  exact(fy x (h x hx)).1
 ·rw [List.length_map,List.length_singleton];omega
theorem anY(N:List au.D)(hN:N.length≤12)(c7:∀d,d∈N→d.1.length≤8):(Lib.join (N.map fun d=>d.1) [47]).length≤1000:=by
 refine Nat.le_trans (IE _ _ 8 fun t ht=>?_) ?_
 ·obtain ⟨d,ah,rfl⟩:=List.mem_map.1 ht
  exact c7 d ah
 ·rw [List.length_map,List.length_singleton];omega
theorem anZ(v:af.D)(c:aP.D)(x:aN.D)(hv:cG v)(hk:aG x=18) :
  dz v c x (Option.bind (r_ (v,())) fun bM=>Option.bind (qD ([(v.2.1.length:Int),bM.1],())) fun v9=>some ((0,v9.1,()),(v,c,x,()),())) (kT (v,c,x,())):=by
 have hl:=hv.len
 have hb:=hv.bytes
 show dz v c x _ (qS (fm aK) v c x)
 unfold qS
 show dz v c x _ (cond (aG x==18) (Option.bind (eY ((v.2.1.length:Int),())) _) _)
 have d1:=fy (v.2.1.length:Int) (by omega)
 have d2:=fy (bytesOf v.2.1:Int) (by omega)
 rw [cA hk,PI v (by omega) (by omega),d1.2.1]
 simp only [cond_true,ak]
 rw [ck (by simp;omega),PH v (by omega) (by omega)]
 simp only [cond_true,ak]
 rw [d2.2.1]
 simp only [ak]
 rw [ck (by simp;omega),QP _ (by simp) (by intro y a_;simp at a_;omega)]
 refine dz.is 0 _ rfl ?_ (QR _ (by simp) (by intro y a_;simp at a_;omega))
 simp [Lib.join_cons,Lib.joinTail,List.append_assoc]
def oG(P:Int→Prop)(v:af.D)(c:aP.D)(x:aN.D)(a:Option (aA.D×aQ.D×Unit))(b:Option (aA.D×Unit)):Prop:=∃res:aA.D,a=some (res,(v,c,x,()),())∧b=some (res,())∧res.2.1.length≤1000∧(res.1=0∨res.2.1=[])∧P res.1
theorem oG.is{P:Int→Prop}{v:af.D}{c:aP.D}{x:aN.D}{a:Option (aA.D×aQ.D×Unit)}{b:Option (aA.D×Unit)}(k:Int)(t:aS)(ha:a=some ((k,t,()),(v,c,x,()),()))(hb:b=some ((k,t,()),()))(v_:P k)(hl:t.length≤1000:=by simp)(h0:k=0∨t=[]:=by simp):oG P v c x a b:=⟨(k,t,()),ha,hb,hl,h0,v_⟩
def yt(v:af.D)(c:aP.D)(x:aN.D)(k:Int):Prop:=∀r,cg (bO x) 0 1=true→eT (v,c,eZ x,bO x==0,())=some (r,())→bH r=0→k=0
theorem an0(v:af.D)(c:aP.D)(x:aN.D)(hv:cG v)(hc:dY c=true)(hx:jv x)(hk:aG x=14):oG (yt v c x) v c x (zX ((v,c,x,()),())) (kT (v,c,x,())):=by
 have cp:=hv.iY
 have av:=hx.path
 show oG (yt v c x) v c x (MA (v,c,x,())) _
 unfold MA
 show oG (yt v c x) v c x (Option.bind (cZ (bO x,0,1,())) fun v1=>cond (!v1.1) _ (Option.bind (mh ((v,c,x,()),bO x==0,())) _)) _
 rw [gE]
 simp only [ak]
 cases hN:cg (bO x) 0 1 with
 | false =>
  have ef:kT (v,c,x,())=some ((22,[],()),()):=by
   show qS (fm aK) v c x=_
   have hn:¬(0≤bO x∧bO x≤1):=fun h=>by rw [dm.2 h] at hN;cases hN
   rw [QQ _ _ _ _ (by omega),show nC x=true by unfold nC;rw [cA hk,c4 (show bO x≠0 by omega),c4 (show bO x≠1 by omega)];rfl];rfl
  rw [ef]
  exact oG.is 22 [] rfl rfl (fun r h=>by rw [hN] at h;cases h)
 | true =>
 have pR:=dm.1 hN
 obtain ⟨r,hr,fx,ke,kf⟩:=sW v c x (bO x==0) cp hc (by omega)
 obtain ⟨q,hq,bX⟩:=Bm v c x (by omega) (by
  unfold nC
  rw [bV (show aG x≠17 by omega)]
  rcases (show bO x=0∨bO x=1 by omega) with h | h
  ·rw [dL h];simp
  ·rw [dL h];simp) cp r (by
  rw [show mC x=(bO x==0) by unfold mC;rw [c4 (show aG x≠11 by omega),dL hk];rfl];exact fx)
 rw [bX]
 simp only [Bool.not_true,cond_false]
 by_cases bZ:bH r=0
 case neg =>
  rw [ke bZ,Bn v c x q r bZ]
  simp only [ak]
  rw [c4 bZ]
  exact oG.is (bH r) [] rfl rfl (fun ei _ h h0=>by
   rw [fx] at h
   have e:r=ei:=congrArg Prod.fst (aX h)
   rw [e] at bZ
   exact absurd h0 bZ)
 obtain ⟨i,hi,eQ⟩:=kf bZ
 have bN:=cq hi
 rw [eQ,yr]
 unfold sA
 show oG (yt v c x) v c x _ (cond (bH r != 0) _ (Option.bind (e8 (v,bu r,())) _))
 rw [dL bZ,jr v _ cp.len hi]
 simp only [cond_false,ak]
 rw [show((0:Int) != 0)=false from rfl,ba bN.1]
 simp only [cond_false,ak]
 have eI:=hv.ino i bN.1
 have aaV:=hv.iw bN.1
 have hnl:(ax (J I v.2.1 i)).length≤1048576:=Nat.le_trans (fZ bN.1) cp.db
 have arx:0≤rf v.2.1 (J I v.2.1 i)∧rf v.2.1 (J I v.2.1 i)<100000000:=by
  unfold rf
  have h1:=YW v.2.1 (J I v.2.1 i).1
  have h2:my v.2.1 (ax (J I v.2.1 i))≤(ax (J I v.2.1 i)).length:=List.length_filter_le _ _
  have h3:=cp.db
  cases kindOf (J I v.2.1 i) != 2
  ·simp only [cond_false];omega
  ·simp only [cond_true];omega
 rw [alI v _ cp.len cp.db hnl]
 simp only [ak]
 show oG (yt v c x) v c x (Option.bind (qD ([kindOf (J I v.2.1 i),ft (J I v.2.1 i),eF (J I v.2.1 i),fK (J I v.2.1 i),rf v.2.1 (J I v.2.1 i),((bS (J I v.2.1 i)).length:Int)],())) _)
  (cond (aG x==4) _ (cond (aG x==11) _ (cond (aG x==13) _ (cond (aG x==14) (Option.bind (eY (kindOf (J I v.2.1 i),())) fun v4=>cond _ (Option.bind (eY (ft (J I v.2.1 i),())) fun v5=>cond _ (cond _ (Option.bind (eY (eF (J I v.2.1 i),())) fun v6=>cond _ (cond _ (Option.bind (eY (fK (J I v.2.1 i),())) fun bn=>cond _ (cond _ (Option.bind (Gj (v,fw (J I v.2.1 i),())) _) _) _) _) _) _) _) _) _))))
 have wq:1≤kindOf (J I v.2.1 i)∧kindOf (J I v.2.1 i)≤3:=by rcases eI.kind with h | h | h <;> omega
 have hm:=eI.mode
 have hu:=eI.uid
 have aD:=eI.gid
 have d1:=fy (kindOf (J I v.2.1 i)) (by omega)
 have d2:=fy (ft (J I v.2.1 i)) (by omega)
 have d3:=fy (eF (J I v.2.1 i)) (by omega)
 have d4:=fy (fK (J I v.2.1 i)) (by omega)
 have d5:=fy (rf v.2.1 (J I v.2.1 i)) (by omega)
 have d6:=fy ((bS (J I v.2.1 i)).length:Int) (by omega)
 rw [bV (show aG x≠4 by omega),bV (show aG x≠11 by omega),bV (show aG x≠13 by omega),cA hk]
 simp only [cond_false,cond_true]
 rw [QP _ (by simp) (by intro y a_;simp at a_;omega),d1.2.1]
 simp only [ak]
 rw [ck (by simp;omega),d2.2.1]
 simp only [cond_true,ak]
 rw [ck (by simp;omega),ck (by simp;omega),d3.2.1]
 simp only [cond_true,ak]
 rw [ck (by simp;omega),ck (by simp;omega),d4.2.1]
 simp only [cond_true,ak]
 rw [ck (by simp;omega),ck (by simp;omega),alH v (fw (J I v.2.1 i)) cp.len cp.db (cp.iv i bN.1)]
 simp only [cond_true,ak]
 rw [d5.2.1]
 simp only [cond_true,ak]
 rw [ck (by simp;omega),ck (by simp;omega)]
 simp only [cond_true]
 show oG (yt v c x) v c x _ (Option.bind (eY (((bS (J I v.2.1 i)).length:Int),())) _)
 rw [d6.2.1]
 simp only [cond_true,ak]
 rw [ck (by simp;omega)]
 refine oG.is 0 _ rfl ?_ (fun _ _ _ _=>rfl) (QR _ (by simp) (by intro y a_;simp at a_;omega))
 simp [Lib.join_cons,Lib.joinTail,List.append_assoc]
theorem an1(v:af.D)(c:aP.D)(x:aN.D)(hv:cG v)(hc:dY c=true)(hx:jv x)(hk:aG x=14):dz v c x (zX ((v,c,x,()),())) (kT (v,c,x,())):=by
 obtain ⟨res,h1,h2,h3,h4,_⟩:=an0 v c x hv hc hx hk
 exact⟨res,h1,h2,h3,h4⟩
theorem IF{s:aS}(h:jm s=true):s.length≤8:=by
 unfold jm at h
 simp only [Bool.and_eq_true] at h
 have:=dm.1 h.2.1
 omega
theorem an2{v:af.D}(hv:cG v){i:Nat}(bN:i<v.2.1.length)(h:kindOf (J I v.2.1 i)=2):(ax (J I v.2.1 i)).length≤12∧∀d,d∈ax (J I v.2.1 i)→d.1.length≤8:=by
 have eI:=hv.ino i bN
 exact⟨(eI.dir h).2.2.2,fun d ah=>IF (eI.names d ah).1⟩
theorem aaW(l:List a6)(F:Flags):mv l F≤l.length:=by
 unfold mv q'
 refine Nat.le_trans (List.length_filter_le _ _) ?_
 rw [List.length_range];exact Nat.le_refl _
theorem Bo{α : Type}(f : α → Nat)(B:Nat):∀L:List α,(∀i,i∈L→f i≤B)→(L.map f).sum≤L.length*B
 | [],_=>by simp
 | y :: r,h=>by
  have h1:=h y (by simp)
  have h2:=Bo f B r fun t ht=>h t (by simp [ht])
  rw [List.map_cons,List.sum_cons,List.length_cons,Nat.add_one_mul]
  omega
theorem an3{v:af.D}(hv:cG v)(F:Flags):lI v.2.1 F≤v.2.1.length*64:=by
 unfold lI
 refine Nat.le_trans (Bo _ 64 _ fun i hi=>?_) (Nat.mul_le_mul_right _ (aaW v.2.1 F))
 unfold q' at hi
 exact hv.iw (List.mem_range.1 (List.mem_filter.1 hi).1)
theorem an4(N:List au.D)(hN:N.length≤12)(c7:∀d,d∈N→d.1.length≤8)(y:aQ.D)(z:aA.D) :
  qE aK N (N.length:Int) 0 z [] y=some ((0,Lib.join (N.map fun d=>d.1) [47],()),y,()):=by
 have:=mr N.length (by omega) (fun m i=>qE m N (N.length:Int) i z ((N.take i.toNat).map fun d=>d.1) y) (fun _=>some ((0,Lib.join (N.map fun d=>d.1) [47],()),y,())) (fun _=>True) (fun m _=>by
  simp only [qE,EE]
  rw [b0 (Nat.le_refl _),Int.toNat_natCast,List.take_length]
  simp only [cond_false]
  show Option.bind (joinF (N.map fun d=>d.1) [47]) _=_
  rw [aaS _ _ 8 (fun t ht=>by
   obtain ⟨d,ah,rfl⟩:=List.mem_map.1 ht
   exact c7 d ah) (by simp;omega) (by simp;omega)];rfl) (fun m i hi _ hw ih=>by
  have ih:=ih trivial
  rw [Int.toNat_natCast_add_one,List.take_succ_eq_append_getElem hi,List.map_append] at ih
  simp only [qE,EE,hw]
  rw [bx hi,ba hi,Int.toNat_natCast]
  simp only [cond_true,ak]
  rw [show J au N i=N[i] from di hi]
  rw [ck (by simp;omega)]
  exact ih) N.length 0 aK (by omega) (jk (by omega)) trivial
 simpa using this
theorem an5(n:a6)(hN:(ax n).length≤12)(c7:∀d,d∈ax n→d.1.length≤8)(z:aA.D)(q:Nat)(hq:1000<q) :
  (fm q).sy [] 0 z n=some ((0,Lib.join ((ax n).map fun d=>d.1) [47],()),()):=by
 have hb:∀i,(Lib.join (((ax n).take i).map fun d=>d.1) [47]).length≤108:=by
  intro i
  refine Nat.le_trans (IE _ _ 8 fun t ht=>?_) ?_
  ·obtain ⟨d,ah,rfl⟩:=List.mem_map.1 ht
   exact c7 d (List.mem_of_mem_take ah)
  ·simp;omega
 have key:=oB 2 (fun m i=>(fm m).sy (Lib.join (((ax n).take i).map fun d=>d.1) [47]) (i:Int) z n) (some ((0,Lib.join ((ax n).map fun d=>d.1) [47],()),())) (ax n).length 1 (fun i hi B y he=>by
  have ary:((ax n)[i]).1.length≤8:=c7 _ (List.getElem_mem hi)
  have w4:=hb i
  refine he.jump 2 fun m=>?_
  rw [aaU]
  unfold Gm
  show cond (decide ((i:Int)<((ax n).length:Int))) _ _=_
  rw [bx hi]
  simp only [cond_true]
  have aaX:∀t:aS,t.length≤200→(fm (m+1)).Gk t (i:Int) z n=(fm m).sy (t++((ax n)[i]).1) ((i+1:Nat):Int) z n:=fun t ht=>by
   rw [anT]
   unfold NB
   show Option.bind (aL (ax n).length (i:Int)) (fun v1=>cond (room (t.length +((J au (ax n) v1).1).length)) ((fm m).sy (t++((J au (ax n) v1).1)) (ay ((i:Int)+1)) z n) none)=_
   rw [ba hi]
   simp only [ak]
   rw [show J au (ax n) i=(ax n)[i] from di hi,ck (by omega),de i (by omega)];rfl
  have e1:((ax n).take (i+1)).map (fun d=>d.1)=((ax n).take i).map (fun d=>d.1)++[((ax n)[i]).1]:=by
   rw [List.take_succ_eq_append_getElem hi,List.map_append];rfl
  rw [e1]
  by_cases h0:i=0
  ·subst h0
   rw [show decide (((0:Nat):Int)>0)=false from rfl]
   simp only [cond_false]
   rw [aaX _ (by omega)]
   simp [Lib.join_nil,Lib.join_one]
  ·rw [decide_eq_true (show(i:Int)>0 by omega),ck (by rw [List.length_singleton];omega)]
   simp only [cond_true]
   rw [aaX _ (by rw [List.length_append,List.length_singleton];omega),anR]
   intro h
   have:=congrArg List.length h
   simp only [List.length_map,List.length_take,List.length_nil] at this
   omega) (b1.done fun m=>by
  rw [aaU]
  unfold Gm
  show cond (decide (((ax n).length:Int)<((ax n).length:Int))) _ _=_
  rw [b0 (Nat.le_refl _),List.take_length];rfl)
 have:=key q (by omega)
 simpa [Lib.join_nil] using this
theorem an6(v:af.D)(c:aP.D)(x:aN.D)(hv:cG v)(hc:dY c=true)(hx:jv x)(hk:aG x=13∨aG x=20):dz v c x (zW ((v,c,x,()),())) (kT (v,c,x,())):=by
 have cp:=hv.iY
 have av:=hx.path
 obtain ⟨r,hr,fx,ke,kf⟩:=sW v c x true cp hc (by omega)
 obtain ⟨q,hq,bX⟩:=Bm v c x (by omega) (by unfold nC;rw [bV (show aG x≠14 by omega),bV (show aG x≠17 by omega)];rfl) cp r (by
  rw [show mC x=true by unfold mC;rw [c4 (show aG x≠11 by omega),c4 (show aG x≠14 by omega)];rfl];exact fx)
 show dz v c x (ED (qE aK) (v,c,x,())) _
 rw [bX]
 unfold ED
 by_cases bZ:bH r=0
 case neg =>
  rw [ke bZ,Bn v c x q r bZ]
  simp only [ak]
  rw [c4 bZ]
  exact dz.is (bH r) [] rfl rfl
 obtain ⟨i,hi,eQ⟩:=kf bZ
 have bN:=cq hi
 rw [eQ,yr]
 unfold sA
 show dz v c x _ (cond (bH r != 0) _ (Option.bind (e8 (v,bu r,())) _))
 rw [dL bZ,jr v _ cp.len hi]
 simp only [cond_false,ak]
 rw [show((0:Int) != 0)=false from rfl,ba bN.1]
 simp only [cond_false,ak]
 show dz v c x (cond (kindOf (J I v.2.1 i) != 2) _ (Option.bind (pf (c,J I v.2.1 i,4,())) fun v6=>cond (!v6.1) _ (cond (aG x==20) (Option.bind (zJ (v,fw (J I v.2.1 i),())) fun v9=>Option.bind (qD ([fJ (J I v.2.1 i),ff (J I v.2.1 i),v9.1,v9.2.1],())) _) (qE aK (ax (J I v.2.1 i)) ((ax (J I v.2.1 i)).length:Int) 0 (0,([]:aS),()) [] (v,c,x,())))))
  (cond (aG x==4) _ (cond (aG x==11) _ (cond (aG x==13) (cond (!(kindOf (J I v.2.1 i)==2)) _ (Option.bind (j7 (c,J I v.2.1 i,4,())) fun v3=>cond (!v3.1) _ ((fm q).sy [] 0 s4 (J I v.2.1 i)))) (cond (aG x==14) _ (cond (aG x==17) _ (cond (!(kindOf (J I v.2.1 i)==2)) _ (Option.bind (j7 (c,J I v.2.1 i,4,())) fun v12=>cond (!v12.1) _ (Option.bind (Ac (v,fw (J I v.2.1 i),())) fun iO=>Option.bind (eY (fJ (J I v.2.1 i),())) fun hU=>cond _ (Option.bind (eY (ff (J I v.2.1 i),())) _) _))))))))
 rw [bV (show aG x≠4 by omega),bV (show aG x≠11 by omega),bV (show aG x≠14 by omega),bV (show aG x≠17 by omega)]
 simp only [cond_false]
 by_cases ah:kindOf (J I v.2.1 i)=2
 case neg =>
  rw [c4 ah,bV ah]
  refine dz.is 20 [] rfl ?_
  cases aG x==13 <;> rfl
 rw [dL ah,cA ah,pI c _ 4 hc,A0 c _ 4 hc]
 simp only [cond_false,ak,Bool.not_true]
 cases may c (J I v.2.1 i) 4 with
 | false =>
  refine dz.is 13 [] rfl ?_
  cases aG x==13 <;> rfl
 | true =>
 simp only [cond_false,Bool.not_true]
 have eI:=hv.ino i bN.1
 have wq:=an2 hv bN.1 ah
 rcases hk with hk | hk
 ·rw [cA hk,bV (show aG x≠20 by omega)]
  simp only [cond_false,cond_true]
  rw [an4 _ wq.1 wq.2,an5 _ wq.1 wq.2 _ q (by omega)]
  exact dz.is 0 _ rfl rfl (anY _ wq.1 wq.2)
 ·rw [cA hk,bV (show aG x≠13 by omega)]
  simp only [cond_false,cond_true]
  have hvl:=hv.len
  have Sn:=hv.bytes
  obtain ⟨out,hf,hu⟩:=Zd v (fw (J I v.2.1 i)) cp.len cp.db (by omega)
  obtain ⟨mJ,iK⟩:=Ze hv.iv hv.iV hf
  rw [mJ,iK] at hu
  have rJ:mv v.2.1 (e_ v.2.1 (fw (J I v.2.1 i)))≤v.2.1.length:=aaW _ _
  have iF:lI v.2.1 (e_ v.2.1 (fw (J I v.2.1 i)))≤v.2.1.length*64:=an3 hv _
  have oE:=eI.dir ah
  have d1:=fy (fJ (J I v.2.1 i)) (by omega)
  have d2:=fy (ff (J I v.2.1 i)) (by omega)
  have d3:=fy (lI v.2.1 (e_ v.2.1 (fw (J I v.2.1 i))):Int) (by omega)
  have d4:=fy (mv v.2.1 (e_ v.2.1 (fw (J I v.2.1 i))):Int) (by omega)
  rw [hu,Zb v _ cp.len cp.db (by omega)]
  simp only [ak]
  rw [QP _ (by simp) (by intro y a_;simp at a_;omega),d1.2.1]
  simp only [ak]
  rw [ck (by simp;omega),d2.2.1]
  simp only [cond_true,ak]
  rw [ck (by simp;omega),ck (by simp;omega),d3.2.1]
  simp only [cond_true,ak]
  rw [ck (by simp;omega),ck (by simp;omega),d4.2.1]
  simp only [cond_true,ak]
  rw [ck (by simp;omega)]
  refine dz.is 0 _ rfl ?_ (QR _ (by simp) (by intro y a_;simp at a_;omega))
  simp [Lib.join_cons,Lib.joinTail,List.append_assoc]
theorem an7(n:a6)(x:aN.D)(a:Nat)(ha:(a:Int)=bO x)(zf:a≤1000000)(b:Nat)(hb:(b:Int)=ej x)(hb2:b≤1000000)(hl:(bS n).length≤64)(z:aA.D)(q:Nat)(hq:1000<q) :
  (fm q).vA (a:Int) x z n []=some ((0,((bS n).drop a).take b,()),()):=by
 have key:∀(k m j:Nat),k<m→min (bS n).length (a+b)-j≤k→a≤j→j≤a+64∧j≤a+b→(fm m).vA (j:Int) x z n (ek (((bS n).drop a).take (j-a)))=some ((0,((bS n).drop a).take b,()),()):=by
  intro k
  induction k with
  | zero =>
   intro m j hm h1 h2 h3
   obtain ⟨m,rfl⟩:∃p,m=p+1:=⟨m-1,by omega⟩
   rw [aaT]
   unfold Gl
   show cond (decide ((j:Int)<((bS n).length:Int))) (cond (decide ((j:Int)<ay (bO x+ej x))) _ _) _=_
   rw [← ha,← hb,ed (by omega) (by omega)]
   have e:∀w,w=some ((0,ga (ek (((bS n).drop a).take (j-a))),()),())→w=some (((0:Int),((bS n).drop a).take b,()),()):=fun w hw=>by
    rw [hw,aaF]
    have:((bS n).drop a).take (j-a)=((bS n).drop a).take b:=by
     rw [List.take_eq_take_iff,List.length_drop];omega
    rw [this]
   by_cases hj:j<(bS n).length
   ·rw [bx hj,decide_eq_false (show ¬(j:Int)<(a:Int) +(b:Int) by omega)]
    exact e _ rfl
   ·rw [b0 (by omega)]
    exact e _ rfl
  | succ k ih =>
   intro m j hm h1 h2 h3
   by_cases QG:min (bS n).length (a+b)-j≤k
   ·exact ih m j (by omega) QG h2 h3
   obtain ⟨m,rfl⟩:∃p,m=p+1:=⟨m-1,by omega⟩
   rw [aaT]
   unfold Gl
   show cond (decide ((j:Int)<((bS n).length:Int))) (cond (decide ((j:Int)<ay (bO x+ej x))) (Option.bind (aL (bS n).length (j:Int)) fun v1=>cond (room ((ek (((bS n).drop a).take (j-a))).length+[(((bS n).getD v1 0).toNat:Int)].length)) ((fm m).vA (ay ((j:Int)+1)) x z n (ek (((bS n).drop a).take (j-a))++[(((bS n).getD v1 0).toNat:Int)])) none) _) _=_
   have hj:j<(bS n).length:=by omega
   rw [← ha,← hb,ed (a:=(a:Int) +(b:Int)) (by omega) (by omega),bx hj,decide_eq_true (show(j:Int)<(a:Int) +(b:Int) by omega),ba hj,de j (by omega)]
   simp only [cond_true,ak]
   rw [ck (by rw [IB,List.length_take,List.length_drop,List.length_singleton];omega)]
   simp only [cond_true]
   have:=ih m (j+1) (by omega) (by omega) (by omega) (by omega)
   rw [show ek (((bS n).drop a).take (j-a))++[(((bS n).getD j 0).toNat:Int)]=ek (((bS n).drop a).take (j+1-a)) by
    rw [show j+1-a=(j-a)+1 by omega,List.take_succ_eq_append_getElem (by rw [List.length_drop];omega)]
    unfold ek
    rw [List.map_append,List.getElem_drop,List.getD_eq_getElem?_getD,List.getElem?_eq_getElem hj]
    simp [show a +(j-a)=j by omega]]
   exact this
 have:=key 64 q a (by omega) (by omega) (by omega) (by omega)
 rw [Nat.sub_self] at this
 exact this
theorem an8(v:af.D)(c:aP.D)(x:aN.D)(hv:cG v)(hc:dY c=true)(hx:jv x)(hk:aG x=4):dz v c x (Ev ((v,c,x,()),())) (kT (v,c,x,())):=by
 have cp:=hv.iY
 have av:=hx.path
 obtain ⟨r,hr,fx,ke,kf⟩:=aaH v c x 4 cp hc (by omega)
 obtain ⟨q,hq,bX⟩:=Bm v c x (by omega) (by unfold nC;rw [bV (show aG x≠14 by omega),bV (show aG x≠17 by omega)];rfl) cp r (by
  rw [show mC x=true by unfold mC;rw [c4 (show aG x≠11 by omega),c4 (show aG x≠14 by omega)];rfl];exact fx)
 show dz v c x (Mt (v,c,x,())) _
 rw [bX]
 unfold Mt
 by_cases bZ:bH r=0
 case neg =>
  rw [ke bZ,Bn v c x q r bZ]
  simp only [ak]
  rw [c4 bZ]
  exact dz.is (bH r) [] rfl rfl
 obtain ⟨i,hi,eQ⟩:=kf bZ
 have bN:=cq hi
 rw [eQ,yr]
 unfold sA
 show dz v c x _ (cond (bH r != 0) _ (Option.bind (e8 (v,bu r,())) _))
 rw [dL bZ,jr v _ cp.len hi]
 simp only [cond_false,ak]
 show dz v c x _ (cond (aG x==4) (cond (kindOf (J I v.2.1 i)==2) _ (Option.bind (j7 (c,J I v.2.1 i,4,())) fun v2=>cond (!v2.1) _ (cond (decide (bO x<0)) _ (cond (decide (ej x<0)) _ ((fm q).vA (bO x) x s4 (J I v.2.1 i) []))))) _)
 rw [cA hk,pI c _ 4 hc]
 simp only [cond_true,ak]
 cases kindOf (J I v.2.1 i)==2 with
 | true=>exact dz.is 21 [] rfl rfl
 | false =>
 cases may c (J I v.2.1 i) 4 with
 | false=>exact dz.is 13 [] rfl rfl
 | true =>
 simp only [cond_false,Bool.not_true,ak]
 rw [show((0:Int) != 0)=false from rfl]
 simp only [cond_false]
 show dz v c x (cond (decide (bO x<0)) _ (cond (decide (ej x<0)) _ _)) _
 by_cases hn:bO x<0
 ·rw [decide_eq_true hn]
  exact dz.is 22 [] rfl rfl
 by_cases hm:ej x<0
 ·rw [decide_eq_false hn,decide_eq_true hm]
  exact dz.is 22 [] rfl rfl
 rw [decide_eq_false hn,decide_eq_false hm]
 simp only [cond_false]
 have aaV:=hv.iw bN.1
 have arz:=hx.n
 have m2:=hx.m
 obtain ⟨a,ha⟩:∃a:Nat,(a:Int)=bO x:=⟨(bO x).toNat,by omega⟩
 obtain ⟨b,hb⟩:∃b:Nat,(b:Int)=ej x:=⟨(ej x).toNat,by omega⟩
 rw [← ha,an7 _ x a ha (by omega) b hb (by omega) aaV s4 q (by omega),ba bN.1]
 simp only [ak]
 show dz v c x (Option.bind (dN (bS (J I v.2.1 i)).length (jz (bO x) ((bS (J I v.2.1 i)).length:Int)) ((bS (J I v.2.1 i)).length:Int)) fun bn=>Option.bind (dN ((part (bS (J I v.2.1 i)) bn.1 (bn.2-bn.1)).length) 0 (jz (ej x) (((part (bS (J I v.2.1 i)) bn.1 (bn.2-bn.1)).length:Nat):Int))) fun bM=>some ((0,part (part (bS (J I v.2.1 i)) bn.1 (bn.2-bn.1)) bM.1 (bM.2-bM.1),()),(v,c,x,()),())) _
 generalize bS (J I v.2.1 i)=d at *
 have e1:jz (bO x) (d.length:Int)=((min a d.length:Nat):Int):=by unfold jz;split <;> omega
 rw [e1,jc (by omega) (by omega)]
 simp only [ak]
 have e2:part d (min a d.length) (d.length-min a d.length)=d.drop a:=by
  unfold part
  rw [List.take_of_length_le (by rw [List.length_drop];omega)]
  by_cases h:a≤d.length
  ·rw [Nat.min_eq_left h]
  ·rw [List.drop_eq_nil_of_le (by omega),List.drop_eq_nil_of_le (by omega)]
 rw [e2]
 have e3:jz (ej x) ((d.drop a).length:Int)=((min b (d.drop a).length:Nat):Int):=by unfold jz;split <;> omega
 rw [e3]
 have eH:dN (d.drop a).length 0 ((min b (d.drop a).length:Nat):Int)=some (0,min b (d.drop a).length):=jc (lo:=0) (Nat.zero_le _) (Nat.min_le_right _ _)
 rw [eH]
 simp only [ak,Nat.sub_zero]
 rw [sP]
 refine dz.is 0 _ rfl ?_ (by rw [List.length_take,List.length_drop];omega)
 have lk:(d.drop a).take b=(d.drop a).take (min b (d.drop a).length):=List.take_eq_take_iff.2 (by omega)
 rw [lk]
def QS(v:af.D)(c:aP.D)(x:aN.D)(a:Option (aA.D×aQ.D×Unit))(b:Option (af.D×aA.D×Unit))(Q:af.D→Prop):Prop :=
 ∃(k:Int) (t:aS) (w:af.D),a=some ((k,t,()),(w,c,x,()),())∧b=some (cond (k==0) w v,(k,t,()),())∧(k=0→Q w)∧t.length≤1000∧(k=0∨t=[])
theorem br.up{v:af.D}{c:aP.D}{x:aN.D}{a:Option (Int×aQ.D×Unit)}{b:Option (af.D×aA.D×Unit)}{Q Q':af.D→Prop}(h:br v c x a b Q)(m8:∀w,Q w→Q' w) :
  QS v c x (a.bind fun v1=>(ec (v1.1,())).bind fun v2=>some (v2.1,v1.2.1,())) (b.bind fun v2=>some (v2.1,v2.2.1,())) Q':=by
 obtain ⟨k,w,rfl,rfl,hq⟩:=h
 exact⟨k,[],w,rfl,rfl,fun h0=>m8 w (hq h0),by simp,.inr rfl⟩
theorem dz.up{v:af.D}{c:aP.D}{x:aN.D}{a:Option (aA.D×aQ.D×Unit)}{b:Option (aA.D×Unit)}{Q':af.D→Prop}(h:dz v c x a b)(m8:Q' v) :
  QS v c x (a.bind fun v1=>some (v1.1,v1.2.1,())) (b.bind fun v2=>some (v,v2.1,())) Q':=by
 obtain ⟨⟨k,t,⟨⟩⟩,rfl,rfl,hl,h0⟩:=h
 exact⟨k,t,v,rfl,by cases k==0 <;> rfl,fun _=>m8,hl,h0⟩
def wu(v:af.D)(c:aP.D)(x:aN.D)(w:af.D):Prop :=
 ((aG x=1∨aG x=3∨aG x=10)∧Made v c x w)∨((aG x=2∨aG x=8)∧Qr v c x w)∨(aG x=9∧aak v c x w)∨(aG x=12∧Iy v c x w)∨((aG x=5∨aG x=6∨aG x=7)∧IC v c x w) ∨
  (aG x=15∧QJ v c x w)∨(aG x=16∧QK v c x w)∨(aG x=19∧aaO v c x w)∨((aG x=4∨aG x=11∨aG x=13∨aG x=14∨aG x=17∨aG x=18∨aG x=20)∧w=v)
noncomputable def QT(v:af.D)(c:aP.D)(x:aN.D):Option (af.D×aA.D×Unit) :=
 if aG x=1∨aG x=3∨aG x=10 then(vt (v,c,x,())).bind fun v2=>some (v2.1,v2.2.1,())
 else if aG x=2∨aG x=8 then(At (v,c,x,())).bind fun v2=>some (v2.1,v2.2.1,())
 else if aG x=9 then(F9 (v,c,x,())).bind fun v2=>some (v2.1,v2.2.1,())
 else if aG x=12 then(Gd (v,c,x,())).bind fun v2=>some (v2.1,v2.2.1,())
 else if aG x=5∨aG x=6∨aG x=7 then(xY (v,c,x,())).bind fun v2=>some (v2.1,v2.2.1,())
 else if aG x=15∨aG x=16∨aG x=19 then(sx (v,c,x,())).bind fun v2=>some (v2.1,v2.2.1,())
 else(kT (v,c,x,())).bind fun v2=>some (v,v2.1,())
theorem an9(v:af.D)(c:aP.D)(x:aN.D)(hx:jv x)(kg:aG x≤20):vB (v,c,x,())=QT v c x:=by
 obtain ⟨q,hq,_⟩:=jl 4
 show xZ (Gn aK) v c x=_
 unfold xZ
 rw [hq,HR,Iv.2 hx]
 simp only [ak,Bool.not_true,cond_false]
 rw [decide_eq_false (show ¬x.1>20 from Int.not_lt.2 kg)]
 simp only [cond_false]
 have hk:=hx.da
 obtain ⟨da,rest⟩:=x
 have:aG (da,rest)=1∨aG (da,rest)=2∨aG (da,rest)=3∨aG (da,rest)=4∨aG (da,rest)=5∨aG (da,rest)=6∨aG (da,rest)=7∨aG (da,rest)=8∨aG (da,rest)=9∨aG (da,rest)=10∨aG (da,rest)=11∨aG (da,rest)=12∨aG (da,rest)=13∨aG (da,rest)=14∨aG (da,rest)=15∨aG (da,rest)=16∨aG (da,rest)=17∨aG (da,rest)=18∨aG (da,rest)=19∨aG (da,rest)=20:=by omega
 clear hx hk kg
 unfold QT
 rcases this with h | h | h | h | h | h | h | h | h | h | h | h | h | h | h | h | h | h | h | h <;>(replace h:da=_:=h;subst h;rfl)
noncomputable def QU(v:af.D)(c:aP.D)(x:aN.D):Option (aA.D×aQ.D×Unit) :=
 if aG x=1∨aG x=3∨aG x=10 then(zR ((v,c,x,()),())).bind fun v1=>(ec (v1.1,())).bind fun v2=>some (v2.1,v1.2.1,())
 else if aG x=2∨aG x=8 then(Ep ((v,c,x,()),())).bind fun v1=>(ec (v1.1,())).bind fun v2=>some (v2.1,v1.2.1,())
 else if aG x=9 then(Er ((v,c,x,()),())).bind fun v1=>(ec (v1.1,())).bind fun v2=>some (v2.1,v1.2.1,())
 else if aG x=12 then(Eu ((v,c,x,()),())).bind fun v1=>(ec (v1.1,())).bind fun v2=>some (v2.1,v1.2.1,())
 else if aG x=5∨aG x=6∨aG x=7 then(Ey ((v,c,x,()),())).bind fun v1=>(ec (v1.1,())).bind fun v2=>some (v2.1,v1.2.1,())
 else if aG x=15 then(EK ((v,c,x,()),())).bind fun v1=>(ec (v1.1,())).bind fun v2=>some (v2.1,v1.2.1,())
 else if aG x=16 then(EN ((v,c,x,()),())).bind fun v1=>(ec (v1.1,())).bind fun v2=>some (v2.1,v1.2.1,())
 else if aG x=19 then(ER ((v,c,x,()),())).bind fun v1=>(ec (v1.1,())).bind fun v2=>some (v2.1,v1.2.1,())
 else if aG x=4 then(Ev ((v,c,x,()),())).bind fun v1=>some (v1.1,v1.2.1,())
 else if aG x=11 then(Ez ((v,c,x,()),())).bind fun v1=>some (v1.1,v1.2.1,())
 else if aG x=13∨aG x=20 then(zW ((v,c,x,()),())).bind fun v1=>some (v1.1,v1.2.1,())
 else if aG x=14 then(zX ((v,c,x,()),())).bind fun v1=>some (v1.1,v1.2.1,())
 else if aG x=17 then(Option.bind (EO ((v,c,x,()),())) fun v6=>Option.bind (ec (v6.1,())) fun bn=>some (bn.1,v6.2.1,()))
 else(Option.bind (r_ (v,())) fun bM=>Option.bind (qD ([(v.2.1.length:Int),bM.1],())) fun v9=>some ((0,v9.1,()),(v,c,x,()),()))
theorem an_(v:af.D)(c:aP.D)(x:aN.D)(hx:jv x)(kg:aG x≤20):ET ((v,c,x,()),())=QU v c x:=by
 obtain ⟨q,hq,_⟩:=jl 8
 show ES (MI aK) (v,c,x,())=_
 unfold ES
 rw [hq]
 have hk:=hx.da
 obtain ⟨da,rest⟩:=x
 have:aG (da,rest)=1∨aG (da,rest)=2∨aG (da,rest)=3∨aG (da,rest)=4∨aG (da,rest)=5∨aG (da,rest)=6∨aG (da,rest)=7∨aG (da,rest)=8∨aG (da,rest)=9∨aG (da,rest)=10∨aG (da,rest)=11∨aG (da,rest)=12∨aG (da,rest)=13∨aG (da,rest)=14∨aG (da,rest)=15∨aG (da,rest)=16∨aG (da,rest)=17∨aG (da,rest)=18∨aG (da,rest)=19∨aG (da,rest)=20:=by omega
 clear hx hk kg
 unfold QU
 rcases this with h | h | h | h | h | h | h | h | h | h | h | h | h | h | h | h | h | h | h | h <;>(replace h:da=_:=h;subst h;rfl)
theorem aaY(a:Option (aA.D×aQ.D×Unit)):(a.bind fun v1=>some (v1.1,v1.2.1,()))=a:=by
 cases a with
 | none=>rfl
 | some r=>rfl
theorem an'(v:af.D)(c:aP.D)(x:aN.D)(hv:cG v)(hc:dY c=true)(hx:jv x)(kg:aG x≤20):QS v c x (ET ((v,c,x,()),())) (vB (v,c,x,())) (wu v c x):=by
 rw [an_ v c x hx kg,an9 v c x hx kg]
 have hk:=hx.da
 unfold QU QT
 by_cases h1:aG x=1∨aG x=3∨aG x=10
 ·rw [if_pos h1,if_pos h1]
  exact(amt v c x hv hc hx).up fun w h=>.inl ⟨h1,h⟩
 rw [if_neg h1,if_neg h1]
 by_cases h2:aG x=2∨aG x=8
 ·rw [if_pos h2,if_pos h2]
  exact(amD v c x hv hc hx h2).up fun w h=>.inr (.inl ⟨h2,h⟩)
 rw [if_neg h2,if_neg h2]
 by_cases h3:aG x=9
 ·rw [if_pos h3,if_pos h3]
  exact(amH v c x hv hc hx).up fun w h=>.inr (.inr (.inl ⟨h3,h⟩))
 rw [if_neg h3,if_neg h3]
 by_cases h4:aG x=12
 ·rw [if_pos h4,if_pos h4]
  exact(anc v c x hv hc hx).up fun w h=>.inr (.inr (.inr (.inl ⟨h4,h⟩)))
 rw [if_neg h4,if_neg h4]
 by_cases a7:aG x=5∨aG x=6∨aG x=7
 ·rw [if_pos a7,if_pos a7]
  exact(anx v c x hv hc hx a7).up fun w h=>.inr (.inr (.inr (.inr (.inl ⟨a7,h⟩))))
 rw [if_neg a7,if_neg a7]
 by_cases bp:aG x=15
 ·rw [if_pos bp,if_pos (.inl bp)]
  exact(anI v c x hv hc hx bp).up fun w h=>.inr (.inr (.inr (.inr (.inr (.inl ⟨bp,h⟩)))))
 rw [if_neg bp]
 by_cases bI:aG x=16
 ·rw [if_pos bI,if_pos (.inr (.inl bI))]
  exact(anJ v c x hv hc hx bI).up fun w h=>.inr (.inr (.inr (.inr (.inr (.inr (.inl ⟨bI,h⟩))))))
 rw [if_neg bI]
 by_cases c7:aG x=19
 ·rw [if_pos c7,if_pos (.inr (.inr c7))]
  exact(anL v c x hv hc hx c7).up fun w h=>.inr (.inr (.inr (.inr (.inr (.inr (.inr (.inl ⟨c7,h⟩)))))))
 rw [if_neg c7,if_neg (show ¬(aG x=15∨aG x=16∨aG x=19) by omega)]
 have m8:wu v c x v:=.inr (.inr (.inr (.inr (.inr (.inr (.inr (.inr ⟨by omega,rfl⟩)))))))
 by_cases lq:aG x=4
 ·rw [if_pos lq]
  exact(an8 v c x hv hc hx lq).up m8
 rw [if_neg lq]
 by_cases y4:aG x=11
 ·rw [if_pos y4]
  exact(anW v c x hv hc hx y4).up m8
 rw [if_neg y4]
 by_cases qj:aG x=13∨aG x=20
 ·rw [if_pos qj]
  exact(an6 v c x hv hc hx qj).up m8
 rw [if_neg qj]
 by_cases kp:aG x=14
 ·rw [if_pos kp]
  exact(an1 v c x hv hc hx kp).up m8
 rw [if_neg kp]
 by_cases w9:aG x=17
 ·rw [if_pos w9]
  have:=(anX v c x hv hc hx w9).up (Q':=wu v c x) m8
  rwa [aaY] at this
 rw [if_neg w9]
 have:=(anZ v c x hv (by omega)).up (Q':=wu v c x) m8
 rwa [aaY] at this
theorem cG.aoa{v:af.D}(h:cG v):pq (v,())=some (v,()):=v' v h.iY.len fun i hi=>Nat.le_trans (fZ hi) h.iY.db
theorem cG.aaZ{v:af.D}(h:cG v):qw (v,())=some (v,()):=alE v h.iY.len fun i hi=>Nat.le_trans (fZ hi) h.iY.db
structure IG(v:af.D)(c:aP.D)(x:aN.D)(w:af.D)(k:Int)(t:aS):Prop where
 bad:jq v=false→w=(0,[],())∧k=22∧t=[]
 aob:jq v=true→dY c=false→w=v∧k=22∧t=[]
 call:jq v=true→dY c=true→(gV x=false∨20<aG x)→w=v∧k=22∧t=[]
 no:jq v=true→k≠0→w=v
 len:t.length≤1000
 data:k=0∨t=[]
 done:jq v=true→dY c=true→gV x=true→aG x≤20→k=0→wu v c x w
theorem aoc(v:af.D)(c:aP.D)(x:aN.D)(cw:jq v=true)(hc:dY c=true):∃w k t,vB (v,c,x,())=some (w,(k,t,()),())∧zY (v,c,x,())=some (w,(k,t,()),())∧IG v c x w k t:=by
 have eM:=Ih.1 cw
 show ∃w k t,_∧MJ v c x=_∧_
 unfold MJ
 rw [H',PE,eM.aaZ]
 simp only [ak]
 rw [hc]
 simp only [Bool.not_true,cond_false]
 have bad:gV x=false∨20<aG x→vB (v,c,x,())=some (v,(22,[],()),()):=by
  intro h
  show xZ (Gn aK) v c x=_
  unfold xZ
  rw [HR]
  simp only [ak]
  cases hcall:gV x with
  | false=>rfl
  | true =>
   rcases h with h | h
   ·rw [hcall] at h;cases h
   ·simp only [Bool.not_true,cond_false]
    rw [decide_eq_true (show x.1>20 from h)];rfl
 cases hcall:gV x with
 | false =>
  rw [bad (.inl hcall)]
  exact⟨v,22,[],rfl,rfl,fun h=>by simp [cw] at h,fun _ h=>by simp [hc] at h,fun _ _ _=>⟨rfl,rfl,rfl⟩,fun _ _=>rfl,by simp,.inr rfl,fun _ _ h=>by simp [hcall] at h⟩
 | true =>
 have hx:=Iv.1 hcall
 simp only [Bool.not_true,cond_false]
 by_cases kg:aG x≤20
 case neg =>
  rw [bad (.inr (by omega)),decide_eq_true (show x.1>20 from Int.not_le.1 kg)]
  exact⟨v,22,[],rfl,rfl,fun h=>by simp [cw] at h,fun _ h=>by simp [hc] at h,fun _ _ _=>⟨rfl,rfl,rfl⟩,fun _ _=>rfl,by simp,.inr rfl,fun _ _ _ h=>absurd h kg⟩
 rw [decide_eq_false (show ¬x.1>20 from Int.not_lt.2 kg)]
 simp only [cond_false]
 obtain ⟨k,t,w,h1,h2,h3,h4,a7⟩:=an' v c x eM hc hx kg
 rw [h1,h2]
 simp only [ak]
 refine⟨cond (k==0) w v,k,t,rfl,?_,fun h=>by simp [cw] at h,fun _ h=>by simp [hc] at h,fun _ _ h=>?_,fun _ h=>by rw [bV h];rfl,h4,a7,fun _ _ _ _ h0=>by rw [cA h0];exact h3 h0⟩
 ·by_cases h0:k=0
  ·rw [dL h0,cA h0];rfl
  ·rw [c4 h0,bV h0];rfl
 ·rcases h with h | h
  ·simp [hcall] at h
  ·omega
structure fI(n:Nat)(x:a6):Prop where
 iw:(bS x).length≤200
 db:(ax x).length≤n
 each:∀d,d∈ax x→d.1.length≤8
structure gY(n:Nat)(l:List a6):Prop where
 len:l.length≤n
 po:∀x,x∈l→fI n x
theorem fI.mono{n m:Nat}{x:a6}(h:fI n x)(hm:n≤m):fI m x:=⟨h.iw,Nat.le_trans h.db hm,h.each⟩
theorem gY.mono{n m:Nat}{l:List a6}(h:gY n l)(hm:n≤m):gY m l:=⟨Nat.le_trans h.len hm,fun x hx=>(h.po x hx).mono hm⟩
theorem gY.get{n:Nat}{l:List a6}(h:gY n l){i:Nat}(hi:i<l.length):fI n (J I l i):=h.po _ (gX hi)
theorem gY.set{n:Nat}{l:List a6}(h:gY n l)(i:Nat){y:a6}(a_:fI n y):gY n (l.set i y):=⟨by rw [List.length_set];exact h.len,fun x hx=>by
 rcases List.mem_or_eq_of_mem_set hx with hx | rfl
 ·exact h.po x hx
 ·exact a_⟩
theorem gY.go{n:Nat}{l:List a6}(h:gY n l)(id:Int):gY n (goN l id):=by
 unfold goN
 cases decide (eE l id=0)
 ·exact h
 ·exact⟨Nat.le_trans (List.length_filter_le _ _) h.len,fun x hx=>h.po x (List.mem_filter.1 hx).1⟩
theorem gY.app{n:Nat}{l:List a6}(h:gY n l){y:a6}(a_:fI n y):gY (n+1) (l++[y]):=⟨by simp only [List.length_append,List.length_singleton];have:=h.len;omega,fun x hx=>by
 rcases List.mem_append.1 hx with hx | hx
 ·exact(h.po x hx).mono (by omega)
 ·rw [List.mem_singleton.1 hx];exact a_.mono (by omega)⟩
theorem fI.ins{n:Nat}{x:a6}(h:fI n x){s:aS}(hs:s.length≤8)(id:Int):fI (n+1) (cT x (ins (ax x) s id)):=⟨h.iw,by
 show(jH.ins (ax x) s id).length≤_
 rw [A7];have:=h.db;omega,fun d ah=>by
 rcases ym.1 ah with ah | rfl
 ·exact h.each d ah
 ·exact hs⟩
theorem fI.un{n:Nat}{x:a6}(h:fI n x)(s:aS):fI n (cT x (c5 (ax x) s)):=⟨h.iw,Nat.le_trans (A8 _ _) h.db,fun d ah=>h.each d (Qx ah)⟩
theorem aod{v:af.D}{n:Nat}(h:gY n v.2.1):aa.cost af v≤n+n*(200+9*n):=by
 rw [H9]
 have h1:=Bo ra (200+9*n) v.2.1 fun x hx=>by
  have av:=h.po x hx
  have h2:=Bo (fun d:au.D=>aa.cost au d) 8 (ax x) fun d ah=>by
   rw [Zj];exact av.each d ah
  unfold ra
  rw [H8,oA]
  have:=av.iw
  have:=av.db
  omega
 have h3:v.2.1.length*(200+9*n)≤n*(200+9*n):=Nat.mul_le_mul_right _ h.len
 have:=h.len
 omega
theorem cG.sz{v:af.D}(h:cG v):gY 24 v.2.1:=by
 refine⟨h.len.2,fun x hx=>?_⟩
 obtain ⟨i,hi,rfl⟩:=jL hx
 have eI:=h.ino i hi
 refine⟨by have:=h.iw hi;omega,?_,fun d ah=>IF (eI.names d ah).1⟩
 by_cases hk:kindOf (J I v.2.1 i)=2
 ·have:=(eI.dir hk).2.2.2;omega
 ·rw [(eI.plain hk).2.2];simp
theorem QV{l:List a6}{r:aY.D}(h:lK l r)(hn:nameOf r≠[])(hc:bH r=0∨bH r=2):(nameOf r).length≤8:=by
 rcases hc with hc | hc
 ·exact IF (h.named hc hn).2.1
 ·exact IF (h.new hc hn).2.1
theorem aa0{v:af.D}{n:Nat}(h:gY n v.2.1){i:Nat}(hi:i<v.2.1.length)(s:aS):gY n (oD v i s).2.1:=(h.set i ((h.get hi).un s)).go _
theorem aoe{l:List a6}{n:Nat}(h:gY n l){ir it:Nat}(hr:ir<l.length)(ht:it<l.length)(fW:aS){jw:aS}(hs:jw.length≤8)(id:Int):gY (n+1) (iZ l ir fW it jw id):=by
 have h1:gY n (gG l ir fW):=h.set ir ((h.get hr).un fW)
 refine(h1.mono (by omega)).set it (fI.ins (n:=n) (h1.get ?_) hs id)
 unfold gG
 rw [List.length_set];exact ht
theorem aof(s:aS)(a:Nat)(d:aS)(hs:s.length≤64)(h:a+d.length≤64):(mB s a d).length≤200:=by
 unfold mB
 rw [List.length_append,List.length_append,sX,List.length_drop];omega
theorem wu.sz{v:af.D}{c:aP.D}{x:aN.D}{w:af.D}(hv:cG v)(hx:jv x)(h:wu v c x w):gY 30 w.2.1:=by
 have jO:=hv.sz
 rcases h with⟨_,h⟩ | ⟨_,h⟩ | ⟨_,h⟩ | ⟨_,h⟩ | ⟨_,h⟩ | ⟨_,h⟩ | ⟨_,h⟩ | ⟨_,h⟩ | ⟨_,h⟩
 ·obtain ⟨r,i,hr,hc,hn,hi,_,_,_,_,_,rfl,_⟩:=h.out
  have bN:=(cq hi).1
  have:=hx.wg
  have h1:gY 25 (v.2.1.set i (cT (J I v.2.1 i) (ins (ax (J I v.2.1 i)) (nameOf r) v.1))):=(jO.mono (by omega)).set i ((jO.get bN).ins (QV hr hn (.inr hc)) _)
  refine(h1.app (y:=hC v c x (J I v.2.1 i)) ⟨?_,by simp [hC,ax],by simp [hC,ax]⟩).mono (by omega)
  show(if aG x=10 then iX x else []).length≤200
  split
  ·omega
  ·simp
 ·obtain ⟨r,i,j,_,_,_,hi,_,_,_,_,_,_,rfl⟩:=h.out
  exact(aa0 jO (cq hi).1 _).mono (by omega)
 ·obtain ⟨r,t,i,j,_,_,_,_,ht,Bi,htn,hi,_,_,rfl,_⟩:=h.out
  exact((jO.mono (by omega)).set i ((jO.get (cq hi).1).ins (QV ht htn (.inr Bi)) _)).mono (by omega)
 ·obtain ⟨r,t,j,hr,hc,hn,hj,ht,htn,Bi,_,h⟩:=h.out
  rcases h with⟨_,rfl⟩ | ⟨_,_,l,ir,it,av,rfl,_,h⟩
  ·exact jO.mono (by omega)
  ·have hl:gY 24 l:=by
    rcases h with⟨_,rfl,_⟩ | ⟨i2,eW,ia,_,_,_,_,_,rfl⟩
    ·exact jO
    ·exact aa0 jO (cq ia).1 _
   exact(aoe hl (cq av.hr).1 (cq av.ht).1 _ (QV ht htn Bi) _).mono (by omega)
 ·obtain ⟨r,i,hr,hc,hi,_,_,_,ha,_,h⟩:=h.out
  rcases h with⟨_,_,rfl⟩ | ⟨_,hle,rfl,_⟩
  ·exact jO.mono (by omega)
  ·have av:=jO.get (cq hi).1
   refine(jO.mono (by omega)).set i ⟨?_,by have:=av.db;exact Nat.le_trans this (by omega),av.each⟩
   show(jM x (J I v.2.1 i)).length≤200
   have ah:=hv.iw (cq hi).1
   unfold jM
   split
   ·rename_i bI
    rw [sX]
    have:er x (J I v.2.1 i)=bO x:=by unfold er;rw [if_neg (by omega)]
    omega
   ·exact aof _ _ _ ah (by omega)
 ·obtain ⟨_,_,r,i,_,_,hi,_,_,rfl⟩:=h.out
  have av:=jO.get (cq hi).1
  exact(jO.mono (by omega)).set i ⟨av.iw,Nat.le_trans av.db (by omega),av.each⟩
 ·obtain ⟨_,_,r,i,_,_,hi,rfl⟩:=h.out
  have av:=jO.get (cq hi).1
  exact(jO.mono (by omega)).set i ⟨av.iw,Nat.le_trans av.db (by omega),av.each⟩
 ·obtain ⟨_,_,_,r,i,_,_,hi,_,rfl,_⟩:=h.out
  have av:=jO.get (cq hi).1
  exact(jO.mono (by omega)).set i ⟨av.iw,Nat.le_trans av.db (by omega),av.each⟩
 ·rw [h];exact jO.mono (by omega)
theorem IG.cost{v:af.D}{c:aP.D}{x:aN.D}{w:af.D}{k:Int}{t:aS}(h:IG v c x w k t)(hv:aa.cost af v≤1048576):aa.cost af w≤1048576:=by
 have h0:w=v→aa.cost af w≤1048576:=fun e=>by rw [e];exact hv
 cases cw:jq v with
 | false=>rw [(h.bad cw).1,H9];simp
 | true =>
 cases hc:dY c with
 | false=>exact h0 (h.aob cw hc).1
 | true =>
 cases hcall:gV x with
 | false=>exact h0 (h.call cw hc (.inl hcall)).1
 | true =>
 by_cases kg:20<aG x
 ·exact h0 (h.call cw hc (.inr kg)).1
 by_cases hk:k=0
 ·have:=aod ((h.done cw hc hcall (by omega) hk).sz (Ih.1 cw) (Iv.1 hcall))
  omega
 ·exact h0 (h.no cw hk)
end Go.LM.jH
