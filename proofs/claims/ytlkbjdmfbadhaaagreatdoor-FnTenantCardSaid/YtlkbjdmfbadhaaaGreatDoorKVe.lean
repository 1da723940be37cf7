/- Tellings, a call as a whole; a right volume stays right. Conditions: each theorem's own hypotheses. -/
import Derived.Test.YtlkbjdmfbadhaaaGreatDoorKVd
set_option linter.unusedVariables false
set_option linter.unusedSimpArgs false
namespace Go.LM.kO
def mm(a:Int):aK:=gP [IntKind.wrap .u8 (aH (48+a))]
theorem rW(a:Int):(mm a).length=1:=rfl
def lL(x:Int):Int:=if Int.tmod x 10<0 then -(Int.tmod x 10) else Int.tmod x 10
def tH(b:Bool)(t:aK):aK:=cond b ([45]++t) t
theorem aaw(m:Nat)(x:Int)(t:aK)(b:Bool):oX (m+1) x t b=AW (oX m) x t b:=rfl
theorem anF(m:Nat)(y:Int)(t:aK)(x:Int):(mX (m+1)).bg y t x=Mc (mX m) y t x:=rfl
theorem anG(m:Nat)(y:Int)(t:aK)(x a:Int):(mX (m+1)).dq y t x a=Md (mX m) y t x a:=rfl
theorem QK(x:Int):(-9≤Int.tmod x 10∧Int.tmod x 10≤9)∧(0≤x→0≤Int.tmod x 10)∧(x≤0→Int.tmod x 10≤0):=by have h1:=Int.tmod_lt_of_pos x (show(0:Int)<10 by decide);have h2:=Int.lt_tmod_of_pos x (show(0:Int)<10 by decide);refine⟨by omega,fun h=>Int.tmod_nonneg _ h,fun h=>?_⟩;have h3:0≤Int.tmod (-x) 10:=Int.tmod_nonneg _ (by omega);rw [Int.neg_tmod] at h3;omega
theorem QL(x:Int):10*Int.tdiv x 10+Int.tmod x 10=x:=Int.mul_tdiv_add_tmod x 10
theorem aax(neg:Bool)(t:aK)(h:t.length≤1000) :
  cond neg (cond (room (([45]:aK).length+t.length)) (some (([45]:aK)++t,())) none) (some (t,()))=some (tH neg t,()):=by
 rw [b7 (by simp;omega)];cases neg <;> rfl
theorem anH(m:Nat)(t:aK)(neg:Bool)(h:t.length≤1000):oX (m+1) 0 t neg=some (tH neg t,()):=by rw [aaw];unfold AW;rw [show((0:Int) != 0)=false from rfl];simp only [cond_false];exact aax neg t h
theorem aay(m:Nat)(x:Int)(t:aK)(neg:Bool)(hx:x≠0)(h:t.length≤1000)(hb : -4000000000000000000≤x∧x≤4000000000000000000):oX (m+1) x t neg=oX m (Int.tdiv x 10) (mm (lL x)++t) neg:=by
 have h1:=QK x;have h2:=QL x;rw [aaw];unfold AW;rw [dj hx];simp only [cond_true];rw [cT (a:=Int.tdiv x 10) (by omega) (by omega)];by_cases hn:Int.tmod x 10<0
 ·rw [decide_eq_true hn];simp only [cond_true];rw [cT (a:=0-Int.tmod x 10) (by omega) (by omega)];rw [show lL x=0-Int.tmod x 10 by unfold lL;rw [if_pos hn];omega];rw [show gP [IntKind.wrap .u8 (aH (48 +(0-Int.tmod x 10)))]=mm (0-Int.tmod x 10) from rfl,b7 (by rw [rW];omega)];rfl
 ·rw [decide_eq_false hn];simp only [cond_false];rw [show lL x=Int.tmod x 10 by unfold lL;rw [if_neg hn]];rw [show gP [IntKind.wrap .u8 (aH (48+Int.tmod x 10))]=mm (Int.tmod x 10) from rfl,b7 (by rw [rW];omega)];rfl
theorem QM(m:Nat)(y x:Int)(t:aK)(h:t.length≤900)(hb : -4000000000000000000≤x∧x≤4000000000000000000) :
  (mX (m+2)).bg y t x=cond (cz x (-9) 9) (some (tH (decide (y<0)) (mm (lL x)++t),())) ((mX m).bg y (mm (lL x)++t) (Int.tdiv x 10)):=by
 have h1:=QK x;have h2:=QL x;have key:∀a,(mX (m+1)).dq y t x a=cond (cz x (-9) 9) (some (tH (decide (y<0)) (mm a++t),())) ((mX m).bg y (mm a++t) (Int.tdiv x 10)):=by intro a;rw [anG];unfold Md;rw [show gP [IntKind.wrap .u8 (aH (48+a))]=mm a from rfl,b7 (by rw [rW];omega),g_,cT (a:=Int.tdiv x 10) (by omega) (by omega)];simp only [cond_true,aw];rw [aax (decide (y<0)) (mm a++t) (by rw [List.length_append,rW];omega)]
 rw [anF];unfold Mc;by_cases hn:Int.tmod x 10<0
 ·rw [decide_eq_true hn];simp only [cond_true];rw [cT (a:=0-Int.tmod x 10) (by omega) (by omega),key,show lL x=0-Int.tmod x 10 by unfold lL;rw [if_pos hn];omega]
 ·rw [decide_eq_false hn];simp only [cond_false];rw [key,show lL x=Int.tmod x 10 by unfold lL;rw [if_neg hn]]
theorem aaz:∀(k:Nat) (x:Int),k≤18→x≠0 → -(10 ^ k:Int)<x→x<(10 ^ k:Int) →
  ∃t:aK,t.length≤k∧(∀(m:Nat) (a:aK) (neg:Bool),k<m→a.length+k≤500→oX m x a neg=some (tH neg (t++a),())) ∧
   (∀(m:Nat) (y:Int) (a:aK),2*k<m→a.length+k≤500→(mX m).bg y a x=some (tH (decide (y<0)) (t++a),())):=by
 intro k
 induction k with
 | zero=>intro x hk h0 h1 h2;simp at h1 h2;omega
 | succ k ih=>
  intro x hk h0 h1 h2;have ah:=QK x;have hm:=QL x;have BX:(10 ^ k:Int)≤100000000000000000:=by have:(10:Nat) ^ k≤10 ^ 17:=Nat.pow_le_pow_right (by decide) (by omega);have h3:((10 ^ k:Nat):Int)≤((10 ^ 17:Nat):Int):=Int.ofNat_le.2 this;simpa using h3
  have av:(10 ^ (k+1):Int)=10*10 ^ k:=by rw [Int.pow_succ];omega
  rw [av] at h1 h2;generalize wB:(10 ^ k:Int)=P at *;by_cases j3 : -9≤x∧x≤9
  ·refine⟨mm (lL x),by rw [rW];omega,fun m a neg pO ha=>?_,fun m y a pO ha=>?_⟩
   ·obtain ⟨m,rfl⟩:∃q,m=q+1+1:=⟨m-2,by omega⟩
    rw [aay _ x a neg h0 (by omega) (by omega),show Int.tdiv x 10=0 by omega];exact anH m _ neg (by rw [List.length_append,rW];omega)
   ·obtain ⟨m,rfl⟩:∃q,m=q+2:=⟨m-2,by omega⟩
    rw [QM m y x a (by omega) (by omega),show cz x (-9) 9=true from di.2 j3];rfl
  ·obtain ⟨t,ht,hs,hi⟩:=ih (Int.tdiv x 10) (by omega) (by omega) (by omega) (by omega);refine⟨t++mm (lL x),by rw [List.length_append,rW];omega,fun m a neg pO ha=>?_,fun m y a pO ha=>?_⟩
   ·obtain ⟨m,rfl⟩:∃q,m=q+1:=⟨m-1,by omega⟩
    rw [aay _ x a neg h0 (by omega) (by omega)];rw [hs m (mm (lL x)++a) neg (by omega) (by rw [List.length_append,rW];omega),List.append_assoc]
   ·obtain ⟨m,rfl⟩:∃q,m=q+2:=⟨m-2,by omega⟩
    rw [QM m y x a (by omega) (by omega),show cz x (-9) 9=false from Bool.eq_false_iff.2 fun h=>j3 (di.1 h)];simp only [cond_false];rw [hi m y (mm (lL x)++a) (by omega) (by rw [List.length_append,rW];omega),List.append_assoc]
def fX(x:Int):aK:=match vj (x,()) with | some r=>r.1 | none=>[]
theorem fH(x:Int)(h : -1000000000000<x∧x<1000000000000):(fX x).length≤20∧e' (x,())=some (fX x,())∧vj (x,())=some (fX x,()):=by
 obtain ⟨t,h1,h2,h3⟩:∃t:aK,t.length≤20∧e' (x,())=some (t,())∧vj (x,())=some (t,()):=by
  by_cases h0:x=0
  ·subst h0;refine⟨[48],by simp,rfl,?_⟩;obtain ⟨q,hq,_⟩:=iS 2;show(mX aN).bg 0 [] 0=_;rw [hq,QM q 0 0 [] (by simp) (by omega)];rfl
  ·obtain ⟨t,ht,hs,hi⟩:=aaz 12 x (by omega) h0 (by simpa using h.1) (by simpa using h.2);refine⟨tH (decide (x<0)) t,?_,?_,?_⟩
   ·unfold tH;cases decide (x<0)
    ·simp only [cond_false];omega
    ·simp only [cond_true,List.length_append,List.length_cons,List.length_nil];omega
   ·show cond (x==0) _ (oX aN x [] (decide (x<0)))=_;rw [bX h0];simp only [cond_false];rw [hs aN [] _ (jN (by omega)) (by simp),List.append_nil]
   ·show(mX aN).bg x [] x=_;rw [hi aN x [] (jN (by omega)) (by simp),List.append_nil]
 have e:fX x=t:=by unfold fX;rw [h3]
 rw [e];exact⟨h1,h2,h3⟩
theorem anI(xs:List aK)(sep:aK)(B:Nat)(h:∀t,t∈xs→t.length≤B):(Lib.joinTail sep xs).length≤xs.length*(sep.length+B):=by
 induction xs with
 | nil=>simp [Lib.joinTail]
 | cons y r ih=>
  have h1:=h y (by simp);have h2:=ih fun t ht=>h t (by simp [ht])
  simp only [Lib.joinTail,List.map_cons,List.flatten_cons,List.length_append,List.length_cons,Nat.add_one_mul] at h2 ⊢;omega
theorem I3(xs:List aK)(sep:aK)(B:Nat)(h:∀t,t∈xs→t.length≤B):(Lib.join xs sep).length≤xs.length*(sep.length+B):=by
 cases xs with
 | nil=>simp [Lib.join_nil]
 | cons y r=>
  have h1:=h y (by simp);have h2:=anI r sep B fun t ht=>h t (by simp [ht])
  rw [Lib.join_cons,List.length_append,List.length_cons,Nat.add_one_mul];omega
theorem anJ(xs:List aK)(y sep:aK)(h:xs≠[]):Lib.join (xs++[y]) sep=Lib.join xs sep++sep++y:=by
 cases xs with
 | nil=>exact absurd rfl h
 | cons x r=>simp [Lib.join_cons,Lib.joinTail,List.append_assoc]
theorem aaA(xs:List aK)(sep:aK)(B:Nat)(h:∀t,t∈xs→t.length≤B)(hl:xs.length*(sep.length+B)≤68719476736)(hn:xs.length≤68719476736):joinF xs sep=some (Lib.join xs sep,()):=by unfold joinF;rw [if_pos ⟨hn,Nat.le_trans (I3 xs sep B h) hl⟩]
theorem QN(L:List Int)(hl:L.length≤100)(h:∀x,x∈L → -1000000000000<x∧x<1000000000000):q9 (L,())=some (Lib.join (L.map fX) [32],()):=by
 show vu aN L (L.length:Int) 0 []=_
 have:=m5 L.length (by omega) (fun m i=>vu m L (L.length:Int) i ((L.take i.toNat).map fX)) (fun _=>some (Lib.join (L.map fX) [32],())) (fun _=>True) (fun m _=>by
  simp only [vu,Ft];rw [cA (Nat.le_refl _),Int.toNat_natCast,List.take_length];simp only [cond_false];show Option.bind (joinF (L.map fX) [32]) _=_
  rw [aaA _ _ 20 (fun t ht=>by
   obtain ⟨x,hx,rfl⟩:=List.mem_map.1 ht
   exact(fH x (h x hx)).1) (by simp;omega) (by simp;omega)];rfl) (fun m i hi _ hw ih=>by
  have hx:L[i]∈L:=List.getElem_mem hi;have ih:=ih trivial;rw [Int.toNat_natCast_add_one,List.take_succ_eq_append_getElem hi,List.map_append] at ih;simp only [vu,Ft,hw];rw [b9 hi,bu hi,Int.toNat_natCast];simp only [cond_true,aw];rw [show I (ae.int .i64) L i=L[i] from c0 hi,(fH _ (h _ hx)).2.2];simp only [aw];rw [b7 (by simp;omega)]
  exact ih) L.length 0 aN (by omega) (jN (by omega)) trivial
 simpa using this
def dM(v:af.D)(c:aL.D)(x:aG.D)(a:Option (aF.D×aP.D×Unit))(b:Option (aF.D×Unit)):Prop:=∃res:aF.D,a=some (res,(v,c,x,()),())∧b=some (res,())∧res.2.1.length≤400∧(res.1=0∨res.2.1=[])∧0≤res.1∧res.1≤200
theorem dM.is{v:af.D}{c:aL.D}{x:aG.D}{a:Option (aF.D×aP.D×Unit)}{b:Option (aF.D×Unit)}(k:Int)(t:aK)(ha:a=some ((k,t,()),(v,c,x,()),()))(hb:b=some ((k,t,()),()))(hl:t.length≤400:=by simp)(h0:k=0∨t=[]:=by simp)(hr:0≤k∧k≤200:=by decide):dM v c x a b:=⟨(k,t,()),ha,hb,hl,h0,hr⟩
theorem anK(m:Nat)(a b d e):(fM (m+1)).bx a b d e=N0 (fM m) a b d e:=rfl
theorem y0(m:Nat)(a b d e f):(fM (m+1)).du a b d e f=ta (fM m) a b d e f:=rfl
theorem aaB(m:Nat)(a b d e f):(fM (m+1)).o4 a b d e f=Hg (fM m) a b d e f:=rfl
theorem aaC(m:Nat)(a b d e):(fM (m+1)).s' a b d e=Hh (fM m) a b d e:=rfl
theorem anL(m:Nat)(a b d e):(fM (m+1)).Hf a b d e=N1 (fM m) a b d e:=rfl
def nd(x:aG.D):Bool:=aD x != 11&&(aD x != 14||bU x==0)
def og(x:aG.D):Bool:=(aD x==14&&(bU x != 0&&bU x != 1))||(aD x==17 && !cz (bU x) 0 7)
def tI:aF.D:=(0,([]:aK),())
theorem anM(m:Nat)(v:af.D)(c:aL.D)(x:aG.D)(z:aF.D):(fM (m+1)).bx v c x z=Option.bind (fg (v,c,fo x,nd x,())) fun r=>(fM m).du v c x z r.1:=by
 rw [anK];unfold N0 nd;show cond (aD x != 11) (cond (aD x != 14) (Option.bind (fg (v,c,fo x,true,())) _) (Option.bind (fg (v,c,fo x,bU x==0,())) _)) (Option.bind (fg (v,c,fo x,false,())) _)=_;cases aD x != 11
 ·rfl
 ·cases aD x != 14 <;> rfl
theorem QO(K:nZ)(v:af.D)(c:aL.D)(x:aG.D)(hk:aD x≠18):rq K v c x=cond (og x) (some ((22,[],()),())) (K.bx v c x tI):=by
 unfold rq og;have anN:∀k:Option (aF.D×Unit),Option.bind (c_ (bU x,0,7,())) (fun v4=>cond (!v4.1) (some ((22,([]:aK),()),())) k)=cond (!cz (bU x) 0 7) (some ((22,([]:aK),()),())) k:=fun k=>by rw [hO];rfl
 show cond (aD x==18) _ (cond (aD x==14) (cond (bU x != 0) (cond (bU x != 1) _ (cond (aD x==17) (Option.bind (c_ (bU x,0,7,())) _) _)) (cond (aD x==17) (Option.bind (c_ (bU x,0,7,())) _) _)) (cond (aD x==17) (Option.bind (c_ (bU x,0,7,())) (fun v4=>cond (!v4.1) (some ((22,([]:aK),()),())) (K.bx v c x tI))) (K.bx v c x tI)))=_;rw [bX hk];simp only [cond_false];by_cases xy:aD x=14
 ·rw [cr xy,bX (show aD x≠17 by omega)];cases bU x != 0 <;> cases bU x != 1 <;> rfl
 ·rw [bX xy];simp only [cond_false,Bool.false_and,Bool.false_or];rw [anN];cases aD x==17
  ·rfl
  ·cases cz (bU x) 0 7 <;> rfl
theorem B6(v:af.D)(c:aL.D)(x:aG.D)(hk:aD x≠18)(hb:og x=false)(cH:rN v.2.1)(r:a6.D)(hs:fg (v,c,fo x,nd x,())=some (r,())) :
  ∃q,4611686018427387904<q∧lB (v,c,x,())=(fM (q+1)).du v c x tI r:=by
 obtain ⟨q,hq,ij⟩:=iS 2;refine⟨q,ij,?_⟩;show rq (fM aN) v c x=_;rw [QO _ _ _ _ hk,hb,hq];simp only [cond_false];rw [anM,hs];rfl
theorem B7(v:af.D)(c:aL.D)(x:aG.D)(q:Nat)(r:a6.D)(h:bO r≠0):(fM (q+1)).du v c x tI r=some ((bO r,[],()),()):=by rw [y0];unfold ta;show cond (bO r != 0) _ _=_;rw [dj h];rfl
theorem anO(v:af.D)(c:aL.D)(x:aG.D)(hv:bW v)(hc:dy c=true)(hx:iy x)(hk:aD x=11):dM v c x (Fq ((v,c,x,()),())) (lB (v,c,x,())):=by
 have cH:=hv.jA;have av:=hx.path;obtain ⟨r,hr,fN,kB,kC⟩:=tF v c x false cH hc (by omega);obtain ⟨q,hq,b3⟩:=B6 v c x (by omega) (by unfold og;rw [bX (show aD x≠14 by omega),bX (show aD x≠17 by omega)];rfl) cH r (by rw [show nd x=false by unfold nd;rw [ed hk];rfl];exact fN);show dM v c x (MY (v,c,x,())) _;rw [b3];unfold MY;by_cases b6:bO r=0
 case neg=>rw [kB b6,B7 v c x q r b6];simp only [aw];rw [dj b6];exact dM.is (bO r) [] rfl rfl (by simp) (.inr rfl) (hr.1.rg)
 obtain ⟨i,hi,fa⟩:=kC b6;have bm:=b5 hi;rw [fa,y0];unfold ta;show dM v c x _ (cond (bO r != 0) _ (Option.bind (fy (v,bA r,())) _));rw [ed b6,jR v _ cH.len hi];simp only [cond_false,aw];rw [show((0:Int) != 0)=false from rfl,bu bm.1];simp only [cond_false,aw];show dM v c x (cond (kindOf (I J v.2.1 i) != 3) _ _) (cond (aD x==4) _ (cond (aD x==11) (cond (kindOf (I J v.2.1 i) != 3) _ _) _));rw [bX (show aD x≠4 by omega),cr hk];simp only [cond_false,cond_true]
 cases kindOf (I J v.2.1 i) != 3 with
 | true=>exact dM.is 22 [] rfl rfl
 | false=>exact dM.is 0 (bT (I J v.2.1 i)) rfl rfl (by have:=hv.fW bm.1;omega)
theorem anP(v:af.D)(c:aL.D)(x:aG.D)(hv:bW v)(hc:dy c=true)(hx:iy x)(hk:aD x=17) :
  dM v c x (Option.bind (FG ((v,c,x,()),())) fun v6=>Option.bind (eA (v6.1,())) fun bn=>some (bn.1,v6.2.1,())) (lB (v,c,x,())):=by
 have cH:=hv.jA;have av:=hx.path;show dM v c x (Option.bind (M6 (v,c,x,())) _) _;unfold M6;show dM v c x (Option.bind (Option.bind (dh (bU x,0,7,())) _) _) _;rw [g_];simp only [aw]
 cases hN:cz (bU x) 0 7 with
 | false=>
  have dZ:lB (v,c,x,())=some ((22,[],()),()):=by show rq (fM aN) v c x=_;rw [QO _ _ _ _ (by omega),show og x=true by unfold og;rw [cr hk,hN];simp];rfl
  rw [dZ];exact dM.is 22 [] rfl rfl
 | true=>
 obtain ⟨r,hr,fN,kB,kC⟩:=tF v c x true cH hc (by omega);obtain ⟨q,hq,b3⟩:=B6 v c x (by omega) (by unfold og;rw [bX (show aD x≠14 by omega),hN];simp) cH r (by rw [show nd x=true by unfold nd;rw [dj (show aD x≠11 by omega),dj (show aD x≠14 by omega)];rfl];exact fN);rw [b3];simp only [Bool.not_true,cond_false];by_cases b6:bO r=0
 case neg=>rw [kB b6,B7 v c x q r b6];simp only [aw];rw [dj b6];exact dM.is (bO r) [] rfl rfl (by simp) (.inr rfl) (hr.1.rg)
 obtain ⟨i,hi,fa⟩:=kC b6;have bm:=b5 hi;rw [fa,y0];unfold ta;show dM v c x _ (cond (bO r != 0) _ (Option.bind (fy (v,bA r,())) _));rw [ed b6,jR v _ cH.len hi];simp only [cond_false,aw];rw [show((0:Int) != 0)=false from rfl,bu bm.1];simp only [cond_false,aw];show dM v c x (Option.bind (Option.bind (p1 (c,I J v.2.1 i,bU x,())) _) _) (cond (aD x==4) _ (cond (aD x==11) _ (cond (aD x==13) _ (cond (aD x==14) _ (cond (aD x==17) (Option.bind (ks (c,I J v.2.1 i,bU x,())) _) _)))));rw [bX (show aD x≠4 by omega),bX (show aD x≠11 by omega),bX (show aD x≠13 by omega),bX (show aD x≠14 by omega),cr hk];simp only [cond_false,cond_true];rw [BI c _ _ hc,qj c _ _ hc];simp only [aw]
 cases may c (I J v.2.1 i) (bU x) with
 | false=>exact dM.is 13 [] rfl rfl
 | true=>exact dM.is 0 [] rfl rfl
theorem QP(L:List Int)(hl:L.length≤18)(h:∀x,x∈L → -1000000000000<x∧x<1000000000000):(Lib.join (L.map fX) [32]).length≤400:=by
 refine Nat.le_trans (I3 _ _ 20 fun t ht=>?_) ?_
 ·obtain ⟨x,hx,rfl⟩:=List.mem_map.1 ht;exact(fH x (h x hx)).1
 ·rw [List.length_map,List.length_singleton];omega
theorem anQ(N:List aB.D)(hN:N.length≤12)(dg:∀d,d∈N→d.1.length≤8):(Lib.join (N.map fun d=>d.1) [47]).length≤400:=by
 refine Nat.le_trans (I3 _ _ 8 fun t ht=>?_) ?_
 ·obtain ⟨d,ah,rfl⟩:=List.mem_map.1 ht;exact dg d ah
 ·rw [List.length_map,List.length_singleton];omega
theorem anR(v:af.D)(c:aL.D)(x:aG.D)(hv:bW v)(hk:aD x=18) :
  dM v c x (Option.bind (sK (v,())) fun cF=>Option.bind (q9 ([(v.2.1.length:Int),cF.1],())) fun v9=>some ((0,v9.1,()),(v,c,x,()),())) (lB (v,c,x,())):=by
 have hl:=hv.len;have hb:=hv.bytes;show dM v c x _ (rq (fM aN) v c x);unfold rq;show dM v c x _ (cond (aD x==18) (Option.bind (e' ((v.2.1.length:Int),())) _) _);have d1:=fH (v.2.1.length:Int) (by omega);have d2:=fH (bytesOf v.2.1:Int) (by omega);rw [cr hk,PN v (by omega) (by omega),d1.2.1];simp only [cond_true,aw];rw [b7 (by simp;omega),PM v (by omega) (by omega)];simp only [cond_true,aw];rw [d2.2.1];simp only [aw];rw [b7 (by simp;omega),QN _ (by simp) (by intro y aT;simp at aT;omega)];refine dM.is 0 _ rfl ?_ (QP _ (by simp) (by intro y aT;simp at aT;omega));simp [Lib.join_cons,Lib.joinTail,List.append_assoc]
def ph(P:Int→Prop)(v:af.D)(c:aL.D)(x:aG.D)(a:Option (aF.D×aP.D×Unit))(b:Option (aF.D×Unit)):Prop:=∃res:aF.D,a=some (res,(v,c,x,()),())∧b=some (res,())∧res.2.1.length≤400∧(res.1=0∨res.2.1=[])∧0≤res.1∧res.1≤200∧P res.1
theorem ph.is{P:Int→Prop}{v:af.D}{c:aL.D}{x:aG.D}{a:Option (aF.D×aP.D×Unit)}{b:Option (aF.D×Unit)}(k:Int)(t:aK)(ha:a=some ((k,t,()),(v,c,x,()),()))(hb:b=some ((k,t,()),()))(wB:P k)(hl:t.length≤400:=by simp)(h0:k=0∨t=[]:=by simp)(hr:0≤k∧k≤200:=by decide):ph P v c x a b:=⟨(k,t,()),ha,hb,hl,h0,hr.1,hr.2,wB⟩
def y1(v:af.D)(c:aL.D)(x:aG.D)(k:Int):Prop:=∀r,cz (bU x) 0 1=true→fg (v,c,fo x,bU x==0,())=some (r,())→bO r=0→k=0
theorem anS(v:af.D)(c:aL.D)(x:aG.D)(hv:bW v)(hc:dy c=true)(hx:iy x)(hk:aD x=14):ph (y1 v c x) v c x (AE ((v,c,x,()),())) (lB (v,c,x,())):=by
 have cH:=hv.jA;have av:=hx.path;show ph (y1 v c x) v c x (M0 (v,c,x,())) _;unfold M0;show ph (y1 v c x) v c x (Option.bind (dh (bU x,0,1,())) fun v1=>cond (!v1.1) _ (Option.bind (mZ ((v,c,x,()),bU x==0,())) _)) _;rw [g_];simp only [aw]
 cases hN:cz (bU x) 0 1 with
 | false=>
  have dZ:lB (v,c,x,())=some ((22,[],()),()):=by
   show rq (fM aN) v c x=_;have hn:¬(0≤bU x∧bU x≤1):=fun h=>by rw [di.2 h] at hN;cases hN
   rw [QO _ _ _ _ (by omega),show og x=true by unfold og;rw [cr hk,dj (show bU x≠0 by omega),dj (show bU x≠1 by omega)];rfl];rfl
  rw [dZ];exact ph.is 22 [] rfl rfl (fun r h=>by rw [hN] at h;cases h)
 | true=>
 have qt:=di.1 hN;obtain ⟨r,hr,fN,kB,kC⟩:=tF v c x (bU x==0) cH hc (by omega)
 obtain ⟨q,hq,b3⟩:=B6 v c x (by omega) (by
  unfold og;rw [bX (show aD x≠17 by omega)];rcases (show bU x=0∨bU x=1 by omega) with h | h
  ·rw [ed h];simp
  ·rw [ed h];simp) cH r (by
  rw [show nd x=(bU x==0) by unfold nd;rw [dj (show aD x≠11 by omega),ed hk];rfl];exact fN)
 rw [b3];simp only [Bool.not_true,cond_false];by_cases b6:bO r=0
 case neg=>
  rw [kB b6,B7 v c x q r b6];simp only [aw];rw [dj b6];refine ph.is (bO r) [] rfl rfl ?_ (by simp) (.inr rfl) hr.1.rg
  exact(fun eH _ h h0=>by
   rw [fN] at h;have e:r=eH:=congrArg Prod.fst (aZ h);rw [e] at b6
   exact absurd h0 b6)
 obtain ⟨i,hi,fa⟩:=kC b6;have bm:=b5 hi;rw [fa,y0];unfold ta;show ph (y1 v c x) v c x _ (cond (bO r != 0) _ (Option.bind (fy (v,bA r,())) _));rw [ed b6,jR v _ cH.len hi];simp only [cond_false,aw];rw [show((0:Int) != 0)=false from rfl,bu bm.1];simp only [cond_false,aw];have bP:=hv.ino i bm.1;have I4:=hv.fW bm.1;have hnl:(an (I J v.2.1 i)).length≤1048576:=Nat.le_trans (gk bm.1) cH.c6
 have arC:0≤rM v.2.1 (I J v.2.1 i)∧rM v.2.1 (I J v.2.1 i)<100000000:=by
  unfold rM;have h1:=YN v.2.1 (I J v.2.1 i).1;have h2:m9 v.2.1 (an (I J v.2.1 i))≤(an (I J v.2.1 i)).length:=List.length_filter_le _ _;have h3:=cH.c6;cases kindOf (I J v.2.1 i) != 2
  ·simp only [cond_false];omega
  ·simp only [cond_true];omega
 rw [alL v _ cH.len cH.c6 hnl];simp only [aw]
 show ph (y1 v c x) v c x (Option.bind (q9 ([kindOf (I J v.2.1 i),fi (I J v.2.1 i),eG (I J v.2.1 i),fB (I J v.2.1 i),rM v.2.1 (I J v.2.1 i),((bT (I J v.2.1 i)).length:Int)],())) _)
  (cond (aD x==4) _ (cond (aD x==11) _ (cond (aD x==13) _ (cond (aD x==14) (Option.bind (e' (kindOf (I J v.2.1 i),())) fun v4=>cond _ (Option.bind (e' (fi (I J v.2.1 i),())) fun v5=>cond _ (cond _ (Option.bind (e' (eG (I J v.2.1 i),())) fun v6=>cond _ (cond _ (Option.bind (e' (fB (I J v.2.1 i),())) fun bn=>cond _ (cond _ (Option.bind (He (v,bj (I J v.2.1 i),())) _) _) _) _) _) _) _) _) _))))
 have wN:1≤kindOf (I J v.2.1 i)∧kindOf (I J v.2.1 i)≤3:=by rcases bP.kind with h | h | h <;> omega
 have hm:=bP.mode;have hu:=bP.uid;have aI:=bP.gid;have d1:=fH (kindOf (I J v.2.1 i)) (by omega);have d2:=fH (fi (I J v.2.1 i)) (by omega);have d3:=fH (eG (I J v.2.1 i)) (by omega);have d4:=fH (fB (I J v.2.1 i)) (by omega);have d5:=fH (rM v.2.1 (I J v.2.1 i)) (by omega);have d6:=fH ((bT (I J v.2.1 i)).length:Int) (by omega);rw [bX (show aD x≠4 by omega),bX (show aD x≠11 by omega),bX (show aD x≠13 by omega),cr hk];simp only [cond_false,cond_true];rw [QN _ (by simp) (by intro y aT;simp at aT;omega),d1.2.1];simp only [aw];rw [b7 (by simp;omega),d2.2.1];simp only [cond_true,aw];rw [b7 (by simp;omega),b7 (by simp;omega),d3.2.1];simp only [cond_true,aw];rw [b7 (by simp;omega),b7 (by simp;omega),d4.2.1];simp only [cond_true,aw];rw [b7 (by simp;omega),b7 (by simp;omega),alK v (bj (I J v.2.1 i)) cH.len cH.c6 (cH.iU i bm.1)];simp only [cond_true,aw];rw [d5.2.1];simp only [cond_true,aw];rw [b7 (by simp;omega),b7 (by simp;omega)];simp only [cond_true];show ph (y1 v c x) v c x _ (Option.bind (e' (((bT (I J v.2.1 i)).length:Int),())) _);rw [d6.2.1];simp only [cond_true,aw];rw [b7 (by simp;omega)];refine ph.is 0 _ rfl ?_ (fun _ _ _ _=>rfl) (QP _ (by simp) (by intro y aT;simp at aT;omega));simp [Lib.join_cons,Lib.joinTail,List.append_assoc]
theorem anT(v:af.D)(c:aL.D)(x:aG.D)(hv:bW v)(hc:dy c=true)(hx:iy x)(hk:aD x=14):dM v c x (AE ((v,c,x,()),())) (lB (v,c,x,())):=by obtain ⟨res,h1,h2,h3,h4,a',br,_⟩:=anS v c x hv hc hx hk;exact⟨res,h1,h2,h3,h4,a',br⟩
theorem I5{s:aK}(h:iw s=true):s.length≤8:=by unfold iw at h;simp only [Bool.and_eq_true] at h;have:=di.1 h.2.1;omega
theorem anU{v:af.D}(hv:bW v){i:Nat}(bm:i<v.2.1.length)(h:kindOf (I J v.2.1 i)=2):(an (I J v.2.1 i)).length≤12∧∀d,d∈an (I J v.2.1 i)→d.1.length≤8:=by have bP:=hv.ino i bm;exact⟨(bP.dir h).2.2.2,fun d ah=>I5 (bP.names d ah).1⟩
theorem aaD(l:List aS)(F:Flags):kb l F≤l.length:=by unfold kb pc;refine Nat.le_trans (List.length_filter_le _ _) ?_;rw [List.length_range];exact Nat.le_refl _
theorem B8{α : Type}(f : α → Nat)(B:Nat):∀L:List α,(∀i,i∈L→f i≤B)→(L.map f).sum≤L.length*B
 | [],_=>by simp
 | y :: r,h=>by
  have h1:=h y (by simp);have h2:=B8 f B r fun t ht=>h t (by simp [ht])
  rw [List.map_cons,List.sum_cons,List.length_cons,Nat.add_one_mul];omega
theorem anV{v:af.D}(hv:bW v)(F:Flags):jQ v.2.1 F≤v.2.1.length*64:=by unfold jQ;refine Nat.le_trans (B8 _ 64 _ fun i hi=>?_) (Nat.mul_le_mul_right _ (aaD v.2.1 F));unfold pc at hi;exact hv.fW (List.mem_range.1 (List.mem_filter.1 hi).1)
theorem anW(N:List aB.D)(hN:N.length≤12)(dg:∀d,d∈N→d.1.length≤8)(y:aP.D)(z:aF.D) :
  q_ aN N (N.length:Int) 0 z [] y=some ((0,Lib.join (N.map fun d=>d.1) [47],()),y,()):=by
 have:=m5 N.length (by omega) (fun m i=>q_ m N (N.length:Int) i z ((N.take i.toNat).map fun d=>d.1) y) (fun _=>some ((0,Lib.join (N.map fun d=>d.1) [47],()),y,())) (fun _=>True) (fun m _=>by
  simp only [q_,Fw];rw [cA (Nat.le_refl _),Int.toNat_natCast,List.take_length];simp only [cond_false];show Option.bind (joinF (N.map fun d=>d.1) [47]) _=_
  rw [aaA _ _ 8 (fun t ht=>by
   obtain ⟨d,ah,rfl⟩:=List.mem_map.1 ht
   exact dg d ah) (by simp;omega) (by simp;omega)];rfl) (fun m i hi _ hw ih=>by
  have ih:=ih trivial;rw [Int.toNat_natCast_add_one,List.take_succ_eq_append_getElem hi,List.map_append] at ih;simp only [q_,Fw,hw];rw [b9 hi,bu hi,Int.toNat_natCast];simp only [cond_true,aw];rw [show I aB N i=N[i] from c0 hi];rw [b7 (by simp;omega)]
  exact ih) N.length 0 aN (by omega) (jN (by omega)) trivial
 simpa using this
theorem anX(n:aS)(hN:(an n).length≤12)(dg:∀d,d∈an n→d.1.length≤8)(z:aF.D)(q:Nat)(hq:1000<q) :
  (fM q).s' [] 0 z n=some ((0,Lib.join ((an n).map fun d=>d.1) [47],()),()):=by
 have hb:∀i,(Lib.join (((an n).take i).map fun d=>d.1) [47]).length≤108:=by
  intro i;refine Nat.le_trans (I3 _ _ 8 fun t ht=>?_) ?_
  ·obtain ⟨d,ah,rfl⟩:=List.mem_map.1 ht;exact dg d (List.mem_of_mem_take ah)
  ·simp;omega
 have key:=pd 2 (fun m i=>(fM m).s' (Lib.join (((an n).take i).map fun d=>d.1) [47]) (i:Int) z n) (some ((0,Lib.join ((an n).map fun d=>d.1) [47],()),())) (an n).length 1 (fun i hi B y he=>by
  have arD:((an n)[i]).1.length≤8:=dg _ (List.getElem_mem hi);have xq:=hb i;refine he.jump 2 fun m=>?_
  rw [aaC];unfold Hh;show cond (decide ((i:Int)<((an n).length:Int))) _ _=_;rw [b9 hi];simp only [cond_true];have aaE:∀t:aK,t.length≤200→(fM (m+1)).Hf t (i:Int) z n=(fM m).s' (t++((an n)[i]).1) ((i+1:Nat):Int) z n:=fun t ht=>by rw [anL];unfold N1;show Option.bind (aM (an n).length (i:Int)) (fun v1=>cond (room (t.length +((I aB (an n) v1).1).length)) ((fM m).s' (t++((I aB (an n) v1).1)) (aH ((i:Int)+1)) z n) none)=_;rw [bu hi];simp only [aw];rw [show I aB (an n) i=(an n)[i] from c0 hi,b7 (by omega),dv i (by omega)];rfl
  have e1:((an n).take (i+1)).map (fun d=>d.1)=((an n).take i).map (fun d=>d.1)++[((an n)[i]).1]:=by rw [List.take_succ_eq_append_getElem hi,List.map_append];rfl
  rw [e1];by_cases h0:i=0
  ·subst h0;rw [show decide (((0:Nat):Int)>0)=false from rfl];simp only [cond_false];rw [aaE _ (by omega)];simp [Lib.join_nil,Lib.join_one]
  ·rw [decide_eq_true (show(i:Int)>0 by omega),b7 (by rw [List.length_singleton];omega)];simp only [cond_true];rw [aaE _ (by rw [List.length_append,List.length_singleton];omega),anJ];intro h;have:=congrArg List.length h;simp only [List.length_map,List.length_take,List.length_nil] at this
   omega) (b8.done fun m=>by
  rw [aaC];unfold Hh;show cond (decide (((an n).length:Int)<((an n).length:Int))) _ _=_
  rw [cA (Nat.le_refl _),List.take_length];rfl)
 have:=key q (by omega);simpa [Lib.join_nil] using this
theorem anY(v:af.D)(c:aL.D)(x:aG.D)(hv:bW v)(hc:dy c=true)(hx:iy x)(hk:aD x=13∨aD x=20):dM v c x (AD ((v,c,x,()),())) (lB (v,c,x,())):=by
 have cH:=hv.jA;have av:=hx.path;obtain ⟨r,hr,fN,kB,kC⟩:=tF v c x true cH hc (by omega);obtain ⟨q,hq,b3⟩:=B6 v c x (by omega) (by unfold og;rw [bX (show aD x≠14 by omega),bX (show aD x≠17 by omega)];rfl) cH r (by rw [show nd x=true by unfold nd;rw [dj (show aD x≠11 by omega),dj (show aD x≠14 by omega)];rfl];exact fN);show dM v c x (Fv (q_ aN) (v,c,x,())) _;rw [b3];unfold Fv;by_cases b6:bO r=0
 case neg=>rw [kB b6,B7 v c x q r b6];simp only [aw];rw [dj b6];exact dM.is (bO r) [] rfl rfl (by simp) (.inr rfl) (hr.1.rg)
 obtain ⟨i,hi,fa⟩:=kC b6;have bm:=b5 hi;rw [fa,y0];unfold ta;show dM v c x _ (cond (bO r != 0) _ (Option.bind (fy (v,bA r,())) _));rw [ed b6,jR v _ cH.len hi];simp only [cond_false,aw];rw [show((0:Int) != 0)=false from rfl,bu bm.1];simp only [cond_false,aw]
 show dM v c x (cond (kindOf (I J v.2.1 i) != 2) _ (Option.bind (p1 (c,I J v.2.1 i,4,())) fun v6=>cond (!v6.1) _ (cond (aD x==20) (Option.bind (Ap (v,bj (I J v.2.1 i),())) fun v9=>Option.bind (q9 ([fh (I J v.2.1 i),eZ (I J v.2.1 i),v9.1,v9.2.1],())) _) (q_ aN (an (I J v.2.1 i)) ((an (I J v.2.1 i)).length:Int) 0 (0,([]:aK),()) [] (v,c,x,())))))
  (cond (aD x==4) _ (cond (aD x==11) _ (cond (aD x==13) (cond (!(kindOf (I J v.2.1 i)==2)) _ (Option.bind (ks (c,I J v.2.1 i,4,())) fun v3=>cond (!v3.1) _ ((fM q).s' [] 0 tI (I J v.2.1 i)))) (cond (aD x==14) _ (cond (aD x==17) _ (cond (!(kindOf (I J v.2.1 i)==2)) _ (Option.bind (ks (c,I J v.2.1 i,4,())) fun v12=>cond (!v12.1) _ (Option.bind (AP (v,bj (I J v.2.1 i),())) fun gz=>Option.bind (e' (fh (I J v.2.1 i),())) fun hY=>cond _ (Option.bind (e' (eZ (I J v.2.1 i),())) _) _))))))))
 rw [bX (show aD x≠4 by omega),bX (show aD x≠11 by omega),bX (show aD x≠14 by omega),bX (show aD x≠17 by omega)];simp only [cond_false];by_cases ah:kindOf (I J v.2.1 i)=2
 case neg=>rw [dj ah,bX ah];refine dM.is 20 [] rfl ?_;cases aD x==13 <;> rfl
 rw [ed ah,cr ah,qj c _ 4 hc,BI c _ 4 hc];simp only [cond_false,aw,Bool.not_true]
 cases may c (I J v.2.1 i) 4 with
 | false=>refine dM.is 13 [] rfl ?_;cases aD x==13 <;> rfl
 | true=>
 simp only [cond_false,Bool.not_true];have bP:=hv.ino i bm.1;have wN:=anU hv bm.1 ah;rcases hk with hk | hk
 ·rw [cr hk,bX (show aD x≠20 by omega)];simp only [cond_false,cond_true];rw [anW _ wN.1 wN.2,anX _ wN.1 wN.2 _ q (by omega)];exact dM.is 0 _ rfl rfl (anQ _ wN.1 wN.2)
 ·rw [cr hk,bX (show aD x≠13 by omega)];simp only [cond_false,cond_true];have hvl:=hv.len;have SI:=hv.bytes;obtain ⟨out,hf,hu⟩:=Y6 v (bj (I J v.2.1 i)) cH.len cH.c6 (by omega);obtain ⟨nq,jk⟩:=Y7 hv.iU hv.iV hf;rw [nq,jk] at hu;have pD:kb v.2.1 (dX v.2.1 (bj (I J v.2.1 i)))≤v.2.1.length:=aaD _ _;have iI:jQ v.2.1 (dX v.2.1 (bj (I J v.2.1 i)))≤v.2.1.length*64:=anV hv _;have pg:=bP.dir ah;have d1:=fH (fh (I J v.2.1 i)) (by omega);have d2:=fH (eZ (I J v.2.1 i)) (by omega);have d3:=fH (jQ v.2.1 (dX v.2.1 (bj (I J v.2.1 i))):Int) (by omega);have d4:=fH (kb v.2.1 (dX v.2.1 (bj (I J v.2.1 i))):Int) (by omega);rw [hu,Y4 v _ cH.len cH.c6 (by omega)];simp only [aw];rw [QN _ (by simp) (by intro y aT;simp at aT;omega),d1.2.1];simp only [aw];rw [b7 (by simp;omega),d2.2.1];simp only [cond_true,aw];rw [b7 (by simp;omega),b7 (by simp;omega),d3.2.1];simp only [cond_true,aw];rw [b7 (by simp;omega),b7 (by simp;omega),d4.2.1];simp only [cond_true,aw];rw [b7 (by simp;omega)];refine dM.is 0 _ rfl ?_ (QP _ (by simp) (by intro y aT;simp at aT;omega));simp [Lib.join_cons,Lib.joinTail,List.append_assoc]
theorem anZ(n:aS)(x:aG.D)(a:Nat)(ha:(a:Int)=bU x)(zS:a≤1000000)(b:Nat)(hb:(b:Int)=ep x)(hb2:b≤1000000)(hl:(bT n).length≤64)(z:aF.D)(q:Nat)(hq:1000<q) :
  (fM q).o4 (a:Int) x z n []=some ((0,((bT n).drop a).take b,()),()):=by
 have key:∀(k m j:Nat),k<m→min (bT n).length (a+b)-j≤k→a≤j→j≤a+64∧j≤a+b→(fM m).o4 (j:Int) x z n (eI (((bT n).drop a).take (j-a)))=some ((0,((bT n).drop a).take b,()),()):=by
  intro k
  induction k with
  | zero=>
   intro m j hm h1 h2 h3;obtain ⟨m,rfl⟩:∃p,m=p+1:=⟨m-1,by omega⟩
   rw [aaB];unfold Hg;show cond (decide ((j:Int)<((bT n).length:Int))) (cond (decide ((j:Int)<aH (bU x+ep x))) _ _) _=_;rw [← ha,← hb,cT (by omega) (by omega)]
   have e:∀w,w=some ((0,gP (eI (((bT n).drop a).take (j-a))),()),())→w=some (((0:Int),((bT n).drop a).take b,()),()):=fun w hw=>by
    rw [hw,aao];have:((bT n).drop a).take (j-a)=((bT n).drop a).take b:=by rw [List.take_eq_take_iff,List.length_drop];omega
    rw [this]
   by_cases hj:j<(bT n).length
   ·rw [b9 hj,decide_eq_false (show ¬(j:Int)<(a:Int) +(b:Int) by omega)];exact e _ rfl
   ·rw [cA (by omega)];exact e _ rfl
  | succ k ih=>
   intro m j hm h1 h2 h3;by_cases QG:min (bT n).length (a+b)-j≤k
   ·exact ih m j (by omega) QG h2 h3
   obtain ⟨m,rfl⟩:∃p,m=p+1:=⟨m-1,by omega⟩
   rw [aaB];unfold Hg;show cond (decide ((j:Int)<((bT n).length:Int))) (cond (decide ((j:Int)<aH (bU x+ep x))) (Option.bind (aM (bT n).length (j:Int)) fun v1=>cond (room ((eI (((bT n).drop a).take (j-a))).length+[(((bT n).getD v1 0).toNat:Int)].length)) ((fM m).o4 (aH ((j:Int)+1)) x z n (eI (((bT n).drop a).take (j-a))++[(((bT n).getD v1 0).toNat:Int)])) none) _) _=_;have hj:j<(bT n).length:=by omega
   rw [← ha,← hb,cT (a:=(a:Int) +(b:Int)) (by omega) (by omega),b9 hj,decide_eq_true (show(j:Int)<(a:Int) +(b:Int) by omega),bu hj,dv j (by omega)];simp only [cond_true,aw];rw [b7 (by rw [IZ,List.length_take,List.length_drop,List.length_singleton];omega)];simp only [cond_true];have:=ih m (j+1) (by omega) (by omega) (by omega) (by omega)
   rw [show eI (((bT n).drop a).take (j-a))++[(((bT n).getD j 0).toNat:Int)]=eI (((bT n).drop a).take (j+1-a)) by
    rw [show j+1-a=(j-a)+1 by omega,List.take_succ_eq_append_getElem (by rw [List.length_drop];omega)];unfold eI;rw [List.map_append,List.getElem_drop,List.getD_eq_getElem?_getD,List.getElem?_eq_getElem hj]
    simp [show a +(j-a)=j by omega]]
   exact this
 have:=key 64 q a (by omega) (by omega) (by omega) (by omega);rw [Nat.sub_self] at this;exact this
theorem an0(v:af.D)(c:aL.D)(x:aG.D)(hv:bW v)(hc:dy c=true)(hx:iy x)(hk:aD x=4):dM v c x (Fl ((v,c,x,()),())) (lB (v,c,x,())):=by
 have cH:=hv.jA;have av:=hx.path;obtain ⟨r,hr,fN,kB,kC⟩:=aaq v c x 4 cH hc (by omega);obtain ⟨q,hq,b3⟩:=B6 v c x (by omega) (by unfold og;rw [bX (show aD x≠14 by omega),bX (show aD x≠17 by omega)];rfl) cH r (by rw [show nd x=true by unfold nd;rw [dj (show aD x≠11 by omega),dj (show aD x≠14 by omega)];rfl];exact fN);show dM v c x (MT (v,c,x,())) _;rw [b3];unfold MT;by_cases b6:bO r=0
 case neg=>rw [kB b6,B7 v c x q r b6];simp only [aw];rw [dj b6];exact dM.is (bO r) [] rfl rfl (by simp) (.inr rfl) (hr.1.rg)
 obtain ⟨i,hi,fa⟩:=kC b6;have bm:=b5 hi;rw [fa,y0];unfold ta;show dM v c x _ (cond (bO r != 0) _ (Option.bind (fy (v,bA r,())) _));rw [ed b6,jR v _ cH.len hi];simp only [cond_false,aw];show dM v c x _ (cond (aD x==4) (cond (kindOf (I J v.2.1 i)==2) _ (Option.bind (ks (c,I J v.2.1 i,4,())) fun v2=>cond (!v2.1) _ (cond (decide (bU x<0)) _ (cond (decide (ep x<0)) _ ((fM q).o4 (bU x) x tI (I J v.2.1 i) []))))) _);rw [cr hk,qj c _ 4 hc];simp only [cond_true,aw]
 cases kindOf (I J v.2.1 i)==2 with
 | true=>exact dM.is 21 [] rfl rfl
 | false=>
 cases may c (I J v.2.1 i) 4 with
 | false=>exact dM.is 13 [] rfl rfl
 | true=>
 simp only [cond_false,Bool.not_true,aw];rw [show((0:Int) != 0)=false from rfl];simp only [cond_false];show dM v c x (cond (decide (bU x<0)) _ (cond (decide (ep x<0)) _ _)) _;by_cases hn:bU x<0
 ·rw [decide_eq_true hn];exact dM.is 22 [] rfl rfl
 by_cases hm:ep x<0
 ·rw [decide_eq_false hn,decide_eq_true hm];exact dM.is 22 [] rfl rfl
 rw [decide_eq_false hn,decide_eq_false hm];simp only [cond_false];have I4:=hv.fW bm.1;have arE:=hx.n;have nI:=hx.m;obtain ⟨a,ha⟩:∃a:Nat,(a:Int)=bU x:=⟨(bU x).toNat,by omega⟩
 obtain ⟨b,hb⟩:∃b:Nat,(b:Int)=ep x:=⟨(ep x).toNat,by omega⟩
 rw [← ha,anZ _ x a ha (by omega) b hb (by omega) I4 tI q (by omega),bu bm.1];simp only [aw];show dM v c x (Option.bind (eh (bT (I J v.2.1 i)).length (j0 (bU x) ((bT (I J v.2.1 i)).length:Int)) ((bT (I J v.2.1 i)).length:Int)) fun bn=>Option.bind (eh ((part (bT (I J v.2.1 i)) bn.1 (bn.2-bn.1)).length) 0 (j0 (ep x) (((part (bT (I J v.2.1 i)) bn.1 (bn.2-bn.1)).length:Nat):Int))) fun cF=>some ((0,part (part (bT (I J v.2.1 i)) bn.1 (bn.2-bn.1)) cF.1 (cF.2-cF.1),()),(v,c,x,()),())) _;generalize bT (I J v.2.1 i)=d at *;have e1:j0 (bU x) (d.length:Int)=((min a d.length:Nat):Int):=by unfold j0;split <;> omega
 rw [e1,jD (by omega) (by omega)];simp only [aw]
 have e2:part d (min a d.length) (d.length-min a d.length)=d.drop a:=by
  unfold part;rw [List.take_of_length_le (by rw [List.length_drop];omega)];by_cases h:a≤d.length
  ·rw [Nat.min_eq_left h]
  ·rw [List.drop_eq_nil_of_le (by omega),List.drop_eq_nil_of_le (by omega)]
 rw [e2];have e3:j0 (ep x) ((d.drop a).length:Int)=((min b (d.drop a).length:Nat):Int):=by unfold j0;split <;> omega
 rw [e3];have ft:eh (d.drop a).length 0 ((min b (d.drop a).length:Nat):Int)=some (0,min b (d.drop a).length):=jD (lo:=0) (Nat.zero_le _) (Nat.min_le_right _ _);rw [ft];simp only [aw,Nat.sub_zero];rw [tm];refine dM.is 0 _ rfl ?_ (by rw [List.length_take,List.length_drop];omega);have pK:(d.drop a).take b=(d.drop a).take (min b (d.drop a).length):=List.take_eq_take_iff.2 (by omega);rw [pK]
def QQ(v:af.D)(c:aL.D)(x:aG.D)(a:Option (aF.D×aP.D×Unit))(b:Option (af.D×aF.D×Unit))(Q:af.D→Prop):Prop:=
 ∃(k:Int) (t:aK) (w:af.D),a=some ((k,t,()),(w,c,x,()),())∧b=some (cond (k==0) w v,(k,t,()),())∧(k=0→Q w)∧t.length≤400∧(k=0∨t=[])∧0≤k∧k≤200
theorem bs.up{v:af.D}{c:aL.D}{x:aG.D}{a:Option (Int×aP.D×Unit)}{b:Option (af.D×aF.D×Unit)}{Q Q':af.D→Prop}(h:bs v c x a b Q)(nN:∀w,Q w→Q' w) :
  QQ v c x (a.bind fun v1=>(eA (v1.1,())).bind fun v2=>some (v2.1,v1.2.1,())) (b.bind fun v2=>some (v2.1,v2.2.1,())) Q':=by
 obtain ⟨k,w,rfl,rfl,hq,hr⟩:=h;exact⟨k,[],w,rfl,rfl,fun h0=>nN w (hq h0),by simp,.inr rfl,hr⟩
theorem dM.up{v:af.D}{c:aL.D}{x:aG.D}{a:Option (aF.D×aP.D×Unit)}{b:Option (aF.D×Unit)}{Q':af.D→Prop}(h:dM v c x a b)(nN:Q' v) :
  QQ v c x (a.bind fun v1=>some (v1.1,v1.2.1,())) (b.bind fun v2=>some (v,v2.1,())) Q':=by
 obtain ⟨res,e1,e2,hl,h0,hr⟩:=h;obtain ⟨k,t,⟨⟩⟩:=res;subst e1 e2;exact⟨k,t,v,rfl,by cases k==0 <;> rfl,fun _=>nN,hl,h0,hr⟩
def rX(v:af.D)(c:aL.D)(x:aG.D)(w:af.D):Prop:=
 ((aD x=1∨aD x=3∨aD x=10)∧Made v c x w)∨((aD x=2∨aD x=8)∧BY v c x w)∨(aD x=9∧IT v c x w)∨(aD x=12∧yX v c x w)∨((aD x=5∨aD x=6∨aD x=7)∧yY v c x w) ∨
  (aD x=15∧B4 v c x w)∨(aD x=16∧B5 v c x w)∨(aD x=19∧I2 v c x w)∨((aD x=4∨aD x=11∨aD x=13∨aD x=14∨aD x=17∨aD x=18∨aD x=20)∧w=v)
noncomputable def QR(v:af.D)(c:aL.D)(x:aG.D):Option (af.D×aF.D×Unit):=
 if aD x=1∨aD x=3∨aD x=10 then(vT (v,c,x,())).bind fun v2=>some (v2.1,v2.2.1,())
 else if aD x=2∨aD x=8 then(A' (v,c,x,())).bind fun v2=>some (v2.1,v2.2.1,())
 else if aD x=9 then(G5 (v,c,x,())).bind fun v2=>some (v2.1,v2.2.1,())
 else if aD x=12 then(G_ (v,c,x,())).bind fun v2=>some (v2.1,v2.2.1,())
 else if aD x=5∨aD x=6∨aD x=7 then(yj (v,c,x,())).bind fun v2=>some (v2.1,v2.2.1,())
 else if aD x=15∨aD x=16∨aD x=19 then(s_ (v,c,x,())).bind fun v2=>some (v2.1,v2.2.1,())
 else(lB (v,c,x,())).bind fun v2=>some (v,v2.1,())
theorem an1(v:af.D)(c:aL.D)(x:aG.D)(hx:iy x)(jW:aD x≤20):o5 (v,c,x,())=QR v c x:=by
 obtain ⟨q,hq,_⟩:=iS 4;show tc (Bf aN) v c x=_;unfold tc;rw [hq,BA,tz.2 hx];simp only [aw,Bool.not_true,cond_false];rw [decide_eq_false (show ¬x.1>20 from Int.not_lt.2 jW)];simp only [cond_false];have hk:=hx.dn;obtain ⟨dn,rest⟩:=x;have:aD (dn,rest)=1∨aD (dn,rest)=2∨aD (dn,rest)=3∨aD (dn,rest)=4∨aD (dn,rest)=5∨aD (dn,rest)=6∨aD (dn,rest)=7∨aD (dn,rest)=8∨aD (dn,rest)=9∨aD (dn,rest)=10∨aD (dn,rest)=11∨aD (dn,rest)=12∨aD (dn,rest)=13∨aD (dn,rest)=14∨aD (dn,rest)=15∨aD (dn,rest)=16∨aD (dn,rest)=17∨aD (dn,rest)=18∨aD (dn,rest)=19∨aD (dn,rest)=20:=by omega
 clear hx hk jW;unfold QR;rcases this with h | h | h | h | h | h | h | h | h | h | h | h | h | h | h | h | h | h | h | h <;>(replace h:dn=_:=h;subst h;rfl)
noncomputable def QS(v:af.D)(c:aL.D)(x:aG.D):Option (aF.D×aP.D×Unit):=
 if aD x=1∨aD x=3∨aD x=10 then(Ax ((v,c,x,()),())).bind fun v1=>(eA (v1.1,())).bind fun v2=>some (v2.1,v1.2.1,())
 else if aD x=2∨aD x=8 then(Fg ((v,c,x,()),())).bind fun v1=>(eA (v1.1,())).bind fun v2=>some (v2.1,v1.2.1,())
 else if aD x=9 then(Fh ((v,c,x,()),())).bind fun v1=>(eA (v1.1,())).bind fun v2=>some (v2.1,v1.2.1,())
 else if aD x=12 then(Fk ((v,c,x,()),())).bind fun v1=>(eA (v1.1,())).bind fun v2=>some (v2.1,v1.2.1,())
 else if aD x=5∨aD x=6∨aD x=7 then(Fp ((v,c,x,()),())).bind fun v1=>(eA (v1.1,())).bind fun v2=>some (v2.1,v1.2.1,())
 else if aD x=15 then(FC ((v,c,x,()),())).bind fun v1=>(eA (v1.1,())).bind fun v2=>some (v2.1,v1.2.1,())
 else if aD x=16 then(FF ((v,c,x,()),())).bind fun v1=>(eA (v1.1,())).bind fun v2=>some (v2.1,v1.2.1,())
 else if aD x=19 then(FI ((v,c,x,()),())).bind fun v1=>(eA (v1.1,())).bind fun v2=>some (v2.1,v1.2.1,())
 else if aD x=4 then(Fl ((v,c,x,()),())).bind fun v1=>some (v1.1,v1.2.1,())
 else if aD x=11 then(Fq ((v,c,x,()),())).bind fun v1=>some (v1.1,v1.2.1,())
 else if aD x=13∨aD x=20 then(AD ((v,c,x,()),())).bind fun v1=>some (v1.1,v1.2.1,())
 else if aD x=14 then(AE ((v,c,x,()),())).bind fun v1=>some (v1.1,v1.2.1,())
 else if aD x=17 then(Option.bind (FG ((v,c,x,()),())) fun v6=>Option.bind (eA (v6.1,())) fun bn=>some (bn.1,v6.2.1,()))
 else(Option.bind (sK (v,())) fun cF=>Option.bind (q9 ([(v.2.1.length:Int),cF.1],())) fun v9=>some ((0,v9.1,()),(v,c,x,()),()))
theorem an2(v:af.D)(c:aL.D)(x:aG.D)(hx:iy x)(jW:aD x≤20):FK ((v,c,x,()),())=QS v c x:=by
 obtain ⟨q,hq,_⟩:=iS 8;show FJ (M9 aN) (v,c,x,())=_;unfold FJ;rw [hq];have hk:=hx.dn;obtain ⟨dn,rest⟩:=x;have:aD (dn,rest)=1∨aD (dn,rest)=2∨aD (dn,rest)=3∨aD (dn,rest)=4∨aD (dn,rest)=5∨aD (dn,rest)=6∨aD (dn,rest)=7∨aD (dn,rest)=8∨aD (dn,rest)=9∨aD (dn,rest)=10∨aD (dn,rest)=11∨aD (dn,rest)=12∨aD (dn,rest)=13∨aD (dn,rest)=14∨aD (dn,rest)=15∨aD (dn,rest)=16∨aD (dn,rest)=17∨aD (dn,rest)=18∨aD (dn,rest)=19∨aD (dn,rest)=20:=by omega
 clear hx hk jW;unfold QS;rcases this with h | h | h | h | h | h | h | h | h | h | h | h | h | h | h | h | h | h | h | h <;>(replace h:dn=_:=h;subst h;rfl)
theorem aaF(a:Option (aF.D×aP.D×Unit)):(a.bind fun v1=>some (v1.1,v1.2.1,()))=a:=by
 cases a with
 | none=>rfl
 | some r=>rfl
theorem aaG(v:af.D)(c:aL.D)(x:aG.D)(hv:bW v)(hc:dy c=true)(hx:iy x)(jW:aD x≤20):QQ v c x (FK ((v,c,x,()),())) (o5 (v,c,x,())) (rX v c x):=by
 rw [an2 v c x hx jW,an1 v c x hx jW];have hk:=hx.dn;unfold QS QR;by_cases h1:aD x=1∨aD x=3∨aD x=10
 ·rw [if_pos h1,if_pos h1];exact(amt v c x hv hc hx).up fun w h=>.inl ⟨h1,h⟩
 rw [if_neg h1,if_neg h1];by_cases h2:aD x=2∨aD x=8
 ·rw [if_pos h2,if_pos h2];exact(amD v c x hv hc hx h2).up fun w h=>.inr (.inl ⟨h2,h⟩)
 rw [if_neg h2,if_neg h2];by_cases h3:aD x=9
 ·rw [if_pos h3,if_pos h3];exact(amH v c x hv hc hx).up fun w h=>.inr (.inr (.inl ⟨h3,h⟩))
 rw [if_neg h3,if_neg h3];by_cases h4:aD x=12
 ·rw [if_pos h4,if_pos h4];exact(am7 v c x hv hc hx).up fun w h=>.inr (.inr (.inr (.inl ⟨h4,h⟩)))
 rw [if_neg h4,if_neg h4];by_cases a':aD x=5∨aD x=6∨aD x=7
 ·rw [if_pos a',if_pos a'];exact(anq v c x hv hc hx a').up fun w h=>.inr (.inr (.inr (.inr (.inl ⟨a',h⟩))))
 rw [if_neg a',if_neg a'];by_cases br:aD x=15
 ·rw [if_pos br,if_pos (.inl br)];exact(anB v c x hv hc hx br).up fun w h=>.inr (.inr (.inr (.inr (.inr (.inl ⟨br,h⟩)))))
 rw [if_neg br];by_cases bL:aD x=16
 ·rw [if_pos bL,if_pos (.inr (.inl bL))];exact(anC v c x hv hc hx bL).up fun w h=>.inr (.inr (.inr (.inr (.inr (.inr (.inl ⟨bL,h⟩))))))
 rw [if_neg bL];by_cases dg:aD x=19
 ·rw [if_pos dg,if_pos (.inr (.inr dg))];exact(anE v c x hv hc hx dg).up fun w h=>.inr (.inr (.inr (.inr (.inr (.inr (.inr (.inl ⟨dg,h⟩)))))))
 rw [if_neg dg,if_neg (show ¬(aD x=15∨aD x=16∨aD x=19) by omega)];have nN:rX v c x v:=.inr (.inr (.inr (.inr (.inr (.inr (.inr (.inr ⟨by omega,rfl⟩)))))));by_cases j3:aD x=4
 ·rw [if_pos j3];exact(an0 v c x hv hc hx j3).up nN
 rw [if_neg j3];by_cases kn:aD x=11
 ·rw [if_pos kn];exact(anO v c x hv hc hx kn).up nN
 rw [if_neg kn];by_cases qO:aD x=13∨aD x=20
 ·rw [if_pos qO];exact(anY v c x hv hc hx qO).up nN
 rw [if_neg qO];by_cases j5:aD x=14
 ·rw [if_pos j5];exact(anT v c x hv hc hx j5).up nN
 rw [if_neg j5];by_cases xx:aD x=17
 ·rw [if_pos xx];have:=(anP v c x hv hc hx xx).up (Q':=rX v c x) nN;rwa [aaF] at this
 rw [if_neg xx];have:=(anR v c x hv (by omega)).up (Q':=rX v c x) nN;rwa [aaF] at this
theorem bW.aaH{v:af.D}(h:bW v):oY (v,())=some (v,()):=wC v h.jA.len fun i hi=>Nat.le_trans (gk hi) h.jA.c6
theorem bW.aaI{v:af.D}(h:bW v):q3 (v,())=some (v,()):=alH v h.jA.len fun i hi=>Nat.le_trans (gk hi) h.jA.c6
structure y2(v:af.D)(c:aL.D)(x:aG.D)(w:af.D)(k:Int)(t:aK):Prop where
 bad:g' v=false→w=(0,[],())∧k=22∧t=[]
 aaJ:g' v=true→dy c=false→w=v∧k=22∧t=[]
 call:g' v=true→dy c=true→(gj x=false∨20<aD x)→w=v∧k=22∧t=[]
 no:g' v=true→k≠0→w=v
 len:t.length≤400
 rg:0≤k∧k≤200
 data:k=0∨t=[]
 done:g' v=true→dy c=true→gj x=true→aD x≤20→k=0→rX v c x w
theorem an3(v:af.D)(c:aL.D)(x:aG.D)(cK:g' v=true)(hc:dy c=true):∃w k t,o5 (v,c,x,())=some (w,(k,t,()),())∧AF (v,c,x,())=some (w,(k,t,()),())∧y2 v c x w k t:=by
 have d_:=tu.1 cK;show ∃w k t,_∧M_ v c x=_∧_
 unfold M_;rw [Iu,PJ,d_.aaI];simp only [aw];rw [hc];simp only [Bool.not_true,cond_false]
 have bad:gj x=false∨20<aD x→o5 (v,c,x,())=some (v,(22,[],()),()):=by
  intro h;show tc (Bf aN) v c x=_;unfold tc;rw [BA];simp only [aw]
  cases hcall:gj x with
  | false=>rfl
  | true=>
   rcases h with h | h
   ·rw [hcall] at h;cases h
   ·simp only [Bool.not_true,cond_false];rw [decide_eq_true (show x.1>20 from h)];rfl
 cases hcall:gj x with
 | false=>rw [bad (.inl hcall)];exact⟨v,22,[],rfl,rfl,fun h=>by simp [cK] at h,fun _ h=>by simp [hc] at h,fun _ _ _=>⟨rfl,rfl,rfl⟩,fun _ _=>rfl,by simp,by decide,.inr rfl,fun _ _ h=>by simp [hcall] at h⟩
 | true=>
 have hx:=tz.1 hcall;simp only [Bool.not_true,cond_false];by_cases jW:aD x≤20
 case neg=>rw [bad (.inr (by omega)),decide_eq_true (show x.1>20 from Int.not_le.1 jW)];exact⟨v,22,[],rfl,rfl,fun h=>by simp [cK] at h,fun _ h=>by simp [hc] at h,fun _ _ _=>⟨rfl,rfl,rfl⟩,fun _ _=>rfl,by simp,by decide,.inr rfl,fun _ _ _ h=>absurd h jW⟩
 rw [decide_eq_false (show ¬x.1>20 from Int.not_lt.2 jW)];simp only [cond_false];obtain ⟨k,t,w,h1,h2,h3,h4,a',br⟩:=aaG v c x d_ hc hx jW;rw [h1,h2];simp only [aw];refine⟨cond (k==0) w v,k,t,rfl,?_,fun h=>by simp [cK] at h,fun _ h=>by simp [hc] at h,fun _ _ h=>?_,fun _ h=>by rw [bX h];rfl,h4,br,a',fun _ _ _ _ h0=>by rw [cr h0];exact h3 h0⟩
 ·by_cases h0:k=0
  ·rw [ed h0,cr h0];rfl
  ·rw [dj h0,bX h0];rfl
 ·rcases h with h | h
  ·simp [hcall] at h
  ·omega
structure fV(n:Nat)(x:aS):Prop where
 fW:(bT x).length≤200
 c6:(an x).length≤n
 each:∀d,d∈an x→d.1.length≤8
structure eV(n:Nat)(l:List aS):Prop where
 len:l.length≤n
 po:∀x,x∈l→fV n x
theorem fV.mono{n m:Nat}{x:aS}(h:fV n x)(hm:n≤m):fV m x:=⟨h.fW,Nat.le_trans h.c6 hm,h.each⟩
theorem eV.mono{n m:Nat}{l:List aS}(h:eV n l)(hm:n≤m):eV m l:=⟨Nat.le_trans h.len hm,fun x hx=>(h.po x hx).mono hm⟩
theorem eV.get{n:Nat}{l:List aS}(h:eV n l){i:Nat}(hi:i<l.length):fV n (I J l i):=h.po _ (cR hi)
theorem eV.set{n:Nat}{l:List aS}(h:eV n l)(i:Nat){y:aS}(aT:fV n y):eV n (l.set i y):=⟨by rw [List.length_set];exact h.len,fun x hx=>by
 rcases List.mem_or_eq_of_mem_set hx with hx | rfl
 ·exact h.po x hx
 ·exact aT⟩
theorem eV.go{n:Nat}{l:List aS}(h:eV n l)(id:Int):eV n (goN l id):=by
 unfold goN;cases decide (cD l id=0)
 ·exact h
 ·exact⟨Nat.le_trans (List.length_filter_le _ _) h.len,fun x hx=>h.po x (List.mem_filter.1 hx).1⟩
theorem eV.app{n:Nat}{l:List aS}(h:eV n l){y:aS}(aT:fV n y):eV (n+1) (l++[y]):=⟨by simp only [List.length_append,List.length_singleton];have:=h.len;omega,fun x hx=>by
 rcases List.mem_append.1 hx with hx | hx
 ·exact(h.po x hx).mono (by omega)
 ·rw [List.mem_singleton.1 hx];exact aT.mono (by omega)⟩
theorem fV.ins{n:Nat}{x:aS}(h:fV n x){s:aK}(hs:s.length≤8)(id:Int):fV (n+1) (b_ x (ins (an x) s id)):=⟨h.fW,by
 show(kO.ins (an x) s id).length≤_
 rw [yV];have:=h.c6;omega,fun d ah=>by
 rcases rS.1 ah with ah | rfl
 ·exact h.each d ah
 ·exact hs⟩
theorem fV.un{n:Nat}{x:aS}(h:fV n x)(s:aK):fV n (b_ x (cl (an x) s)):=⟨h.fW,Nat.le_trans (wG _ _) h.c6,fun d ah=>h.each d (tA ah)⟩
theorem QT{v:af.D}{n:Nat}(h:eV n v.2.1):ae.cost af v≤n+n*(200+9*n):=by
 rw [Ir]
 have h1:=B8 rK (200+9*n) v.2.1 fun x hx=>by
  have av:=h.po x hx;have h2:=B8 (fun d:aB.D=>ae.cost aB d) 8 (an x) fun d ah=>by rw [Za];exact av.each d ah
  unfold rK;rw [Iq,H_];have:=av.fW;have:=av.c6;omega
 have h3:v.2.1.length*(200+9*n)≤n*(200+9*n):=Nat.mul_le_mul_right _ h.len;have:=h.len;omega
theorem bW.sz{v:af.D}(h:bW v):eV 24 v.2.1:=by
 refine⟨h.len.2,fun x hx=>?_⟩;obtain ⟨i,hi,rfl⟩:=fb hx;have bP:=h.ino i hi;refine⟨by have:=h.fW hi;omega,?_,fun d ah=>I5 (bP.names d ah).1⟩;by_cases hk:kindOf (I J v.2.1 i)=2
 ·have:=(bP.dir hk).2.2.2;omega
 ·rw [(bP.plain hk).2.2];simp
theorem QU{l:List aS}{r:a6.D}(h:h7 l r)(hn:nameOf r≠[])(hc:bO r=0∨bO r=2):(nameOf r).length≤8:=by
 rcases hc with hc | hc
 ·exact I5 (h.named hc hn).2.1
 ·exact I5 (h.new hc hn).2.1
theorem aaK{v:af.D}{n:Nat}(h:eV n v.2.1){i:Nat}(hi:i<v.2.1.length)(s:aK):eV n (k4 v i s).2.1:=(h.set i ((h.get hi).un s)).go _
theorem an4{l:List aS}{n:Nat}(h:eV n l){ir it:Nat}(hr:ir<l.length)(ht:it<l.length)(cM:aK){ef:aK}(hs:ef.length≤8)(id:Int):eV (n+1) (eU l ir cM it ef id):=by have h1:eV n (dL l ir cM):=h.set ir ((h.get hr).un cM);refine(h1.mono (by omega)).set it (fV.ins (n:=n) (h1.get ?_) hs id);unfold dL;rw [List.length_set];exact ht
theorem an5(s:aK)(a:Nat)(d:aK)(hs:s.length≤64)(h:a+d.length≤64):(lK s a d).length≤200:=by unfold lK;rw [List.length_append,List.length_append,qu,List.length_drop];omega
theorem rX.sz{v:af.D}{c:aL.D}{x:aG.D}{w:af.D}(hv:bW v)(hx:iy x)(h:rX v c x w):eV 30 w.2.1:=by
 have kc:=hv.sz;rcases h with⟨_,h⟩ | ⟨_,h⟩ | ⟨_,h⟩ | ⟨_,h⟩ | ⟨_,h⟩ | ⟨_,h⟩ | ⟨_,h⟩ | ⟨_,h⟩ | ⟨_,h⟩
 ·obtain ⟨r,i,hr,hc,hn,hi,_,_,_,_,_,rfl,_⟩:=h.out;have bm:=(b5 hi).1;have:=hx.tx;have h1:eV 25 (v.2.1.set i (b_ (I J v.2.1 i) (ins (an (I J v.2.1 i)) (nameOf r) v.1))):=(kc.mono (by omega)).set i ((kc.get bm).ins (QU hr hn (.inr hc)) _);refine(h1.app (y:=gN v c x (I J v.2.1 i)) ⟨?_,by simp [gN,an],by simp [gN,an]⟩).mono (by omega);show(if aD x=10 then iW x else []).length≤200;split
  ·omega
  ·simp
 ·obtain ⟨r,i,j,_,_,_,hi,_,_,_,_,_,_,rfl⟩:=h.out;exact(aaK kc (b5 hi).1 _).mono (by omega)
 ·obtain ⟨r,t,i,j,_,_,_,_,ht,rU,htn,hi,_,_,rfl,_⟩:=h.out;exact((kc.mono (by omega)).set i ((kc.get (b5 hi).1).ins (QU ht htn (.inr rU)) _)).mono (by omega)
 ·obtain ⟨r,t,j,hr,hc,hn,hj,ht,htn,rU,_,h⟩:=h.out;rcases h with⟨_,rfl⟩ | ⟨_,_,l,ir,it,av,rfl,_,h⟩
  ·exact kc.mono (by omega)
  ·have hl:eV 24 l:=by
    rcases h with⟨_,rfl,_⟩ | ⟨i2,e_,gw,_,_,_,_,_,rfl⟩
    ·exact kc
    ·exact aaK kc (b5 gw).1 _
   exact(an4 hl (b5 av.hr).1 (b5 av.ht).1 _ (QU ht htn rU) _).mono (by omega)
 ·obtain ⟨r,i,hr,hc,hi,_,_,_,ha,_,h⟩:=h.out;rcases h with⟨_,_,rfl⟩ | ⟨_,hle,rfl,_⟩
  ·exact kc.mono (by omega)
  ·have av:=kc.get (b5 hi).1;refine(kc.mono (by omega)).set i ⟨?_,by have:=av.c6;exact Nat.le_trans this (by omega),av.each⟩;show(iX x (I J v.2.1 i)).length≤200;have ah:=hv.fW (b5 hi).1;unfold iX;split
   ·rename_i bL;rw [qu];have:eC x (I J v.2.1 i)=bU x:=by unfold eC;rw [if_neg (by omega)]
    omega
   ·exact an5 _ _ _ ah (by omega)
 ·obtain ⟨_,_,r,i,_,_,hi,_,_,rfl⟩:=h.out;have av:=kc.get (b5 hi).1;exact(kc.mono (by omega)).set i ⟨av.fW,Nat.le_trans av.c6 (by omega),av.each⟩
 ·obtain ⟨_,_,r,i,_,_,hi,rfl⟩:=h.out;have av:=kc.get (b5 hi).1;exact(kc.mono (by omega)).set i ⟨av.fW,Nat.le_trans av.c6 (by omega),av.each⟩
 ·obtain ⟨_,_,_,r,i,_,_,hi,_,rfl,_⟩:=h.out;have av:=kc.get (b5 hi).1;exact(kc.mono (by omega)).set i ⟨av.fW,Nat.le_trans av.c6 (by omega),av.each⟩
 ·rw [h];exact kc.mono (by omega)
theorem y2.cost{v:af.D}{c:aL.D}{x:aG.D}{w:af.D}{k:Int}{t:aK}(h:y2 v c x w k t)(hv:ae.cost af v≤1048576):ae.cost af w≤1048576:=by
 have h0:w=v→ae.cost af w≤1048576:=fun e=>by rw [e];exact hv
 cases cK:g' v with
 | false=>rw [(h.bad cK).1,Ir];simp
 | true=>
 cases hc:dy c with
 | false=>exact h0 (h.aaJ cK hc).1
 | true=>
 cases hcall:gj x with
 | false=>exact h0 (h.call cK hc (.inl hcall)).1
 | true=>
 by_cases jW:20<aD x
 ·exact h0 (h.call cK hc (.inr jW)).1
 by_cases hk:k=0
 ·have:=QT ((h.done cK hc hcall (by omega) hk).sz (tu.1 cK) (tz.1 hcall));omega
 ·exact h0 (h.no cK hk)
structure an6(n:Int)(l:List aS):Prop where
 next:2≤n∧n≤100000
 len:l.length≤24
 kD:l.Pairwise fun a b=>bj a<bj b
 root:∃x,x∈l∧bj x=1∧kindOf x=2
 ids:∀x,x∈l→1≤bj x∧bj x≤n-1
 ino:∀x,x∈l→lJ l x
 reach:∀x,x∈l→bj x≠1→dY l 1 (bj x)
 once:∀x,x∈l→bj x≠1→kindOf x=2→cD l (bj x)=1
 bytes:bytesOf l≤400
 over:gl l=false
theorem an7{l:List aS}(h:l.Pairwise fun a b=>bj a<bj b):BO l:=h.imp fun h=>by omega
theorem lM{l:List aS}(h:l.Pairwise fun a b=>bj a<bj b):ix l:=BP.2 (an7 h)
theorem I6{l:List aS}(h:l.Pairwise fun a b=>bj a<bj b){i j:Nat}(i':i<j)(hj:j<l.length):bj (I J l i)<bj (I J l j):=by rw [c0 (by omega),c0 hj];exact List.pairwise_iff_getElem.1 h i j (by omega) hj i'
theorem aaL{l:List aS}(h:∀i,i+1<l.length→bj (I J l i)<bj (I J l (i+1))):l.Pairwise fun a b=>bj a<bj b:=by
 have b2:∀d j,j+d+1<l.length→bj (I J l j)<bj (I J l (j+d+1)):=by
  intro d
  induction d with
  | zero=>intro j hj;exact h j hj
  | succ d ih=>intro j hj;exact Int.lt_trans (ih j (by omega)) (h (j+d+1) hj)
 rw [List.pairwise_iff_getElem];intro i j hi hj i';have:=b2 (j-i-1) i (by omega);rw [show i +(j-i-1)+1=j by omega,c0 hi,c0 hj] at this;exact this
theorem nf{v:af.D} : bW v↔an6 (gC v) v.2.1:=by
 constructor
 ·intro h;have h0:0<v.2.1.length:=by have:=h.len;omega
  have cf:∀i,i<v.2.1.length→bj (I J v.2.1 i)≠1→1≤i:=by
   intro i hi hne;rcases Nat.eq_zero_or_pos i with h | h
   ·subst h;exact absurd (bW.root ‹_›).1 hne
   ·exact h
  refine⟨h.next,h.len.2,aaL h.IB,⟨_,cR h0,h.root⟩,?_,?_,?_,?_,h.bytes,h.over⟩
  ·intro x hx;obtain ⟨i,hi,rfl⟩:=fb hx;exact h.ids i hi
  ·intro x hx;obtain ⟨i,hi,rfl⟩:=fb hx;exact h.ino i hi
  ·intro x hx hne;obtain ⟨i,hi,rfl⟩:=fb hx;exact h.reach i (cf i hi hne) hi
  ·intro x hx hne hk;obtain ⟨i,hi,rfl⟩:=fb hx;exact h.once i (cf i hi hne) hi hk
 ·intro h;obtain ⟨x,hx,hx1,hx2⟩:=h.root;obtain ⟨k,hk,rfl⟩:=fb hx
  have hk0:k=0:=by
   rcases Nat.eq_zero_or_pos k with h0 | h0
   ·exact h0
   ·have h1:=I6 h.kD h0 hk;have h2:=h.ids _ (cR (show 0<v.2.1.length by omega));omega
  subst hk0;have hne:∀i,1≤i→i<v.2.1.length→bj (I J v.2.1 i)≠1:=by intro i hi hl;have:=I6 h.kD (show 0<i by omega) hl;omega
  exact⟨h.next,⟨by omega,h.len⟩,⟨hx1,hx2⟩,fun i hi=>h.ids _ (cR hi),fun i hi=>I6 h.kD (Nat.lt_succ_self i) hi,fun i hi=>h.ino _ (cR hi),fun i h1 hi=>h.reach _ (cR hi) (hne i h1 hi),fun i h1 hi hk=>h.once _ (cR hi) (hne i h1 hi) hk,h.bytes,h.over⟩
theorem iz{l:List aS}(ah:ix l){a b:Int} : E l a b↔∃x,x∈l∧bj x=a∧∃d,d∈an x∧d.2.1=b:=by
 constructor
 ·rintro ⟨i,d,hi,hm,he⟩
  exact⟨I J l i,cR (b5 hi).1,(b5 hi).2,d,hm,he⟩
 ·rintro ⟨x,hx,rfl,d,hm,he⟩
  obtain ⟨i,hi,rfl⟩:=fb hx;exact⟨i,d,ah i hi,hm,he⟩
theorem y3{l l':List aS}(h:∀a b,E l a b→E l' a b){a b:Int}(hb:dY l a b):dY l' a b:=by
 induction hb with
 | single h1=>exact .single (h _ _ h1)
 | tail _ h1 ih=>exact .tail ih (h _ _ h1)
theorem lJ.to{l l':List aS}{x:aS}(h:lJ l x)(hn:∀d,d∈an x→(bz l d.2.1).isSome=true→(bz l' d.2.1).isSome=true):lJ l' x:=
 ⟨h.mode,h.uid,h.gid,h.kind,h.plain,h.file,h.n7,h.dir,fun d ah=>⟨(h.names d ah).1,(h.names d ah).2.1,hn d ah (h.names d ah).2.2⟩,h.sorted⟩
theorem mem_set{l:List aS}(ah:ix l){i:Nat}(hi:i<l.length){y:aS}(aT:bj y=bj (I J l i)){x:aS} : x∈l.set i y↔x=y∨(x∈l∧bj x≠bj y):=by
 constructor
 ·intro hx;obtain ⟨j,hj,rfl⟩:=fb hx;rw [List.length_set] at hj;rw [jz hi];split
  ·exact .inl rfl
  ·rename_i i';refine .inr ⟨cR hj,fun he=>i' ?_⟩;have h1:=ah i hi;have h2:=ah j hj;have:(I J l j).1=(I J l i).1:=(show bj (I J l j)=bj (I J l i) by rw [he,aT]);rw [this,h1] at h2;exact aZ h2
 ·rintro (rfl | ⟨hx,hne⟩)
  ·exact List.mem_iff_getElem.2 ⟨i,by rw [List.length_set];exact hi,by rw [List.getElem_set_self]⟩
  ·obtain ⟨j,hj,rfl⟩:=fb hx;have i':i≠j:=fun h=>hne (by subst h;exact aT.symm)
   have:I J (l.set i y) j=I J l j:=by rw [jz hi,if_neg i']
   rw [← this];exact cR (by rw [List.length_set];exact hj)
theorem wO{l:List aS}(h:l.Pairwise fun a b=>bj a<bj b){i:Nat}(hi:i<l.length){y:aS}(aT:bj y=bj (I J l i)):(l.set i y).Pairwise fun a b=>bj a<bj b:=by
 refine aaL fun j hj=>?_
 rw [List.length_set] at hj
 have key:∀k,bj (I J (l.set i y) k)=bj (I J l k):=by
  intro k;rw [jz hi];split
  ·rename_i h;subst h;exact aT
  ·rfl
 rw [key,key];exact I6 h (Nat.lt_succ_self j) hj
theorem I7{l:List aS}{i:Nat}{y:aS}(hi:i<l.length)(b:Int):cD (l.set i y) b+dD (an (I J l i)) b=cD l b+dD (an y) b:=by
 unfold cD
 induction l generalizing i with
 | nil=>simp at hi
 | cons z l ih=>
  cases i with
  | zero=>simp only [List.set_cons_zero,List.map_cons,List.sum_cons];rw [show I J (z :: l) 0=z from rfl];omega
  | succ i=>simp only [List.set_cons_succ,List.map_cons,List.sum_cons];have:=ih (i:=i) (by simpa using hi);rw [show I J (z :: l) (i+1)=I J l i from rfl];omega
theorem an8(l:List aS)(n:aS)(b:Int):cD (l++[n]) b=cD l b+dD (an n) b:=by unfold cD;rw [List.map_append,List.sum_append_nat];simp
theorem y4(N M:List aB.D)(b:Int):dD (N++M) b=dD N b+dD M b:=by unfold dD;rw [List.filter_append,List.length_append]
theorem aaM(s:aK)(id b:Int):dD [((s,id,()):aB.D)] b=cond (id==b) 1 0:=by
 unfold dD;rw [List.filter_cons];cases h:(((s,id,()):aB.D).2.1==b)
 ·rfl
 ·rfl
theorem an9(N:List aB.D)(s:aK)(id b:Int):dD (ins N s id) b=dD N b+cond (id==b) 1 0:=by
 unfold ins;rw [y4,y4,aaM];have:dD N b=dD (N.takeWhile (ee s)) b+dD (N.dropWhile (ee s)) b:=by rw [← y4,List.takeWhile_append_dropWhile]
 omega
theorem an_{N:List aB.D}{b:Int}(h:∀d,d∈N→d.2.1≠b):dD N b=0:=by unfold dD;rw [List.filter_eq_nil_iff.2 fun d ah=>by rw [beq_iff_eq];exact h d ah];rfl
theorem aaN{l:List aS}{b:Int}(h:∀x,x∈l→∀d,d∈an x→d.2.1≠b):cD l b=0:=by unfold cD;exact Qs fun x hx=>an_ (h x hx)
theorem an'{l:List aS}(hx:rI l){b:Int}(h:bz l b=none):cD l b=0:=by
 refine aaN fun x aoa d ah he=>?_
 obtain ⟨i,hi,rfl⟩:=fb aoa;have:=hx i hi d ah;rw [he,h] at this;cases this
theorem QV:∀ {N:List aB.D},jy N→∀ {d:aB.D},d∈N→∀b:Int,dD (cl N d.1) b+cond (d.2.1==b) 1 0=dD N b
 | [],_,d,ah,_=>by cases ah
 | x :: N,hs,d,ah,b=>by
  have h1:=List.pairwise_cons.1 hs;rcases List.mem_cons.1 ah with rfl | ah
  ·have e:cl (d :: N) d.1=N:=by
    unfold cl;rw [List.filter_cons,show(!bD d.1 d.1)=false by unfold bD;simp];simp only [Bool.false_eq_true,if_false];refine List.filter_eq_self.2 fun y aT=>?_
    have:=Iz (h1.1 y aT);unfold bD;simp only [Bool.not_eq_true',decide_eq_false_iff_not];exact fun e=>this e.symm
   rw [e];show _=dD ([d]++N) b;rw [y4];have:dD [d] b=cond (d.2.1==b) 1 0:=aaM d.1 d.2.1 b;omega
  ·have e:cl (x :: N) d.1=x :: cl N d.1:=by
    unfold cl
    rw [List.filter_cons,show(!bD x.1 d.1)=true by
     have:=Iz (h1.1 d ah)
     unfold bD;simp [this]]
    rfl
   have ih:=QV h1.2 ah b;rw [e];show dD ([x]++cl N d.1) b+_=dD ([x]++N) b;rw [y4,y4];omega
theorem I8{l:List aS} : fc l=0↔bytesOf l≤400∧gl l=false:=by
 unfold fc;by_cases h:(bytesOf l:Int)>400
 ·rw [decide_eq_true h];constructor
  ·intro h0;cases h0
  ·intro h0;omega
 ·rw [decide_eq_false h]
  cases gl l with
  | true=>
   constructor
   ·intro h0;cases h0
   ·intro h0;cases h0.2
  | false=>exact⟨fun _=>⟨by omega,rfl⟩,fun _=>rfl⟩
theorem bW.keep{v:af.D}(hv:bW v){i:Nat}(hi:i<v.2.1.length){y:aS}(h1:bj y=bj (I J v.2.1 i))(h2:kindOf y=kindOf (I J v.2.1 i))(h3:an y=an (I J v.2.1 i))(h8:lJ v.2.1 y)
  (hf:fc (v.2.1.set i y)=0):bW (v.1,v.2.1.set i y,()):=by
 have h:=nf.1 hv;have ah:=lM h.kD;have B9:∀id,bz (v.2.1.set i y) id=bz v.2.1 id:=fun id=>IM hi h1 id
 have iJ:=wO h.kD hi h1
 have hE:∀a b,E v.2.1 a b→E (v.2.1.set i y) a b:=by
  intro a b;rw [iz ah,iz (lM iJ)]
  rintro ⟨x,hx,jX,d,ig,B_⟩
  by_cases hQ:bj x=bj y
  ·refine⟨y,(mem_set ah hi h1).2 (.inl rfl),by rw [← hQ];exact jX,d,?_,B_⟩;obtain ⟨j,hj,rfl⟩:=fb hx;have e1:=ah i hi;have e2:=ah j hj;have:(I J v.2.1 j).1=(I J v.2.1 i).1:=(show bj _=bj _ by rw [hQ,h1]);rw [this,e1] at e2;obtain rfl:=aZ e2;rw [h3];exact ig
  ·exact⟨x,(mem_set ah hi h1).2 (.inr ⟨hx,hQ⟩),jX,d,ig,B_⟩
 have hC:∀a b,dY v.2.1 a b→dY (v.2.1.set i y) a b:=fun a b hb=>y3 hE hb
 have ka:∀b,cD (v.2.1.set i y) b=cD v.2.1 b:=by intro b;have:=I7 (y:=y) hi b;rw [h3] at this;omega
 have qv:=cR (t:=J) hi;have kN:=I8.1 hf;refine nf.2 ⟨h.next,by rw [List.length_set];exact h.len,iJ,?_,?_,?_,?_,?_,kN.1,kN.2⟩
 ·obtain ⟨x,hx,hx1,hx2⟩:=h.root;by_cases hQ:bj x=bj y
  ·refine⟨y,(mem_set ah hi h1).2 (.inl rfl),by rw [← hQ];exact hx1,?_⟩;obtain ⟨j,hj,rfl⟩:=fb hx;have e1:=ah i hi;have e2:=ah j hj;have:(I J v.2.1 j).1=(I J v.2.1 i).1:=(show bj _=bj _ by rw [hQ,h1]);rw [this,e1] at e2;obtain rfl:=aZ e2;rw [h2];exact hx2
  ·exact⟨x,(mem_set ah hi h1).2 (.inr ⟨hx,hQ⟩),hx1,hx2⟩
 ·intro x hx;rcases (mem_set ah hi h1).1 hx with rfl | ⟨hx,_⟩
  ·rw [h1];exact h.ids _ qv
  ·exact h.ids x hx
 ·intro x hx;rcases (mem_set ah hi h1).1 hx with rfl | ⟨hx,_⟩
  ·exact h8.to fun d _ h=>by rw [B9];exact h
  ·exact(h.ino x hx).to fun d _ h=>by rw [B9];exact h
 ·intro x hx hne;rcases (mem_set ah hi h1).1 hx with rfl | ⟨hx,_⟩
  ·rw [h1] at hne ⊢;exact hC _ _ (h.reach _ qv hne)
  ·exact hC _ _ (h.reach x hx hne)
 ·intro x hx hne hk;rw [ka];rcases (mem_set ah hi h1).1 hx with rfl | ⟨hx,_⟩
  ·rw [h1] at hne ⊢;rw [h2] at hk;exact h.once _ qv hne hk
  ·exact h.once x hx hne hk
theorem bW.get{v:af.D}(h:bW v){x:aS}(hx:x∈v.2.1):lJ v.2.1 x:=(nf.1 h).ino x hx
theorem ng{l:List aS}(ah:ix l){x y:aS}(hx:x∈l)(aT:y∈l)(h:bj x=bj y):x=y:=by obtain ⟨i,hi,rfl⟩:=fb hx;obtain ⟨j,hj,rfl⟩:=fb aT;have e1:=ah i hi;have e2:=ah j hj;have:(I J l i).1=(I J l j).1:=h;rw [this,e2] at e1;rw [aZ e1]
theorem lJ.named{l l':List aS}{x:aS}(h:lJ l x)(lk:∀id,(bz l id).isSome=true→(bz l' id).isSome=true)(hk:kindOf x=2){s:aK}{id:Int}(hs:iw s=true)(h1:id≠1)(cf:(bz l' id).isSome=true)(hl:(an x).length<12)(hn:∀d,d∈an x→d.1≠s):lJ l' (b_ x (ins (an x) s id)):=
 ⟨h.mode,h.uid,h.gid,h.kind,fun ew=>absurd hk ew,h.file,h.n7,fun ew=>⟨(h.dir ew).1,(h.dir ew).2.1,(h.dir ew).2.2.1,by
  show(ins (an x) s id).length≤12
  rw [yV];omega⟩,fun d ah=>by
  rcases rS.1 ah with ah | rfl
  ·exact⟨(h.names d ah).1,(h.names d ah).2.1,lk _ (h.names d ah).2.2⟩
  ·exact⟨hs,h1,cf⟩,aaa h.sorted hn⟩
theorem QW{l:List aS}(hr:l.Pairwise fun a b=>bj a<bj b){i:Nat}(hi:i<l.length)(s:aK)(id:Int) :
  (∀a b,E l a b→E (l.set i (b_ (I J l i) (ins (an (I J l i)) s id))) a b)∧E (l.set i (b_ (I J l i) (ins (an (I J l i)) s id))) (bj (I J l i)) id:=by
 have ah:=lM hr;have aT:bj (b_ (I J l i) (ins (an (I J l i)) s id))=bj (I J l i):=tD _ _;have jK:=lM (wO hr hi aT);have aaO:b_ (I J l i) (ins (an (I J l i)) s id)∈l.set i (b_ (I J l i) (ins (an (I J l i)) s id)):=(mem_set ah hi aT).2 (.inl rfl);constructor
 ·intro a b;rw [iz ah,iz jK]
  rintro ⟨x,hx,jX,d,ig,B_⟩
  by_cases hQ:bj x=bj (I J l i)
  ·obtain rfl:=ng ah hx (cR hi) hQ;exact⟨_,aaO,aT.trans jX,d,rS.2 (.inl ig),B_⟩
  ·exact⟨x,(mem_set ah hi aT).2 (.inr ⟨hx,by rw [aT];exact hQ⟩),jX,d,ig,B_⟩
 ·rw [iz jK];exact⟨_,aaO,aT,(s,id,()),rS.2 (.inr rfl),rfl⟩
theorem QX{l:List aS}{i:Nat}(hi:i<l.length)(s:aK)(id b:Int):cD (l.set i (b_ (I J l i) (ins (an (I J l i)) s id))) b=cD l b+cond (id==b) 1 0:=by have h:=I7 (y:=b_ (I J l i) (ins (an (I J l i)) s id)) hi b;rw [ky,an9] at h;omega
theorem IT.ok{v:af.D}{c:aL.D}{x:aG.D}{w:af.D}(hv:bW v)(hx:iy x)(h:IT v c x w):bW w:=by
 obtain ⟨r,t,i,j,hr,hc,hj,rJ,ht,rU,htn,hi,im,hl,rfl,hf,_⟩:=h.out;have hm:=nf.1 hv;have ah:=lM hm.kD;have bm:=(b5 hi).1;have hjl:=b5 hj;obtain ⟨pf,ka,d,gv,iM,QY⟩:=ht.new rU htn;obtain rfl:d=i:=aZ (gv.symm.trans hi);have fs:=BT QY fun e he=>hv.BU bm he
 have K6:bA r≠1:=by intro h1;obtain ⟨z,hz,jJ,hz2⟩:=hm.root;have:I J v.2.1 j=z:=ng ah (cR hjl.1) hz (by rw [jJ];exact hjl.2.trans h1);rw [this] at rJ;exact rJ hz2
 have h8:=(hm.ino _ (cR bm)).named (fun _ h=>h) im ka K6 (by rw [hj];rfl) hl fs;obtain ⟨hE,_⟩:=QW hm.kD bm (nameOf t) (bA r);have aT:bj (b_ (I J v.2.1 d) (ins (an (I J v.2.1 d)) (nameOf t) (bA r)))=bj (I J v.2.1 d):=tD _ _;have B9:∀id,bz (v.2.1.set d (b_ (I J v.2.1 d) (ins (an (I J v.2.1 d)) (nameOf t) (bA r)))) id=bz v.2.1 id:=fun id=>B0 _ bm id
 have kN:=I8.1 hf;refine nf.2 ⟨hm.next,by show(List.set _ _ _).length≤24;rw [List.length_set];exact hm.len,wO hm.kD bm aT,?_,?_,?_,?_,?_,kN.1,kN.2⟩
 ·obtain ⟨z,hz,jJ,hz2⟩:=hm.root;by_cases B':bj z=bj (I J v.2.1 d)
  ·exact⟨_,(mem_set ah bm aT).2 (.inl rfl),by rw [aT,← B'];exact jJ,im⟩
  ·exact⟨z,(mem_set ah bm aT).2 (.inr ⟨hz,by rw [aT];exact B'⟩),jJ,hz2⟩
 ·intro z hz;rcases (mem_set ah bm aT).1 hz with rfl | ⟨hz,_⟩
  ·rw [aT];exact hm.ids _ (cR bm)
  ·exact hm.ids z hz
 ·intro z hz;rcases (mem_set ah bm aT).1 hz with rfl | ⟨hz,_⟩
  ·exact h8.to fun e _ h=>by rw [wJ,B9];exact h
  ·exact(hm.ino z hz).to fun e _ h=>by rw [wJ,B9];exact h
 ·intro z hz hne;rcases (mem_set ah bm aT).1 hz with rfl | ⟨hz,_⟩
  ·rw [aT] at hne ⊢;exact y3 hE (hm.reach _ (cR bm) hne)
  ·exact y3 hE (hm.reach z hz hne)
 ·have aaP:∀z,z∈v.2.1→bj z≠1→kindOf z=2→cD (v.2.1.set d (b_ (I J v.2.1 d) (ins (an (I J v.2.1 d)) (nameOf t) (bA r)))) (bj z)=1:=by
   intro z hz hne hk;rw [QX bm,hm.once z hz hne hk];have:bA r≠bj z:=fun e=>by have:I J v.2.1 j=z:=ng ah (cR hjl.1) hz (hjl.2.trans e);rw [this] at rJ;exact rJ hk
   rw [bX this];rfl
  intro z hz hne hk;rcases (mem_set ah bm aT).1 hz with rfl | ⟨hz,_⟩
  ·rw [aT] at hne ⊢;exact aaP _ (cR bm) hne im
  ·exact aaP z hz hne hk
theorem Made.ok{v:af.D}{c:aL.D}{x:aG.D}{w:af.D}(hv:bW v)(hc:dy c=true)(hx:iy x)(hk:aD x=1∨aD x=3∨aD x=10)(h:Made v c x w):bW w:=by
 obtain ⟨r,i,hr,aob,qs,hi,im,_,hl,hlen,Qp,rfl,hf,_⟩:=h.out;have kz:=h.bad;have hm:=nf.1 hv;have ah:=lM hm.kD;have bm:=(b5 hi).1;obtain ⟨pf,ka,d,gv,iM,QY⟩:=hr.new aob qs;obtain rfl:d=i:=aZ (gv.symm.trans hi);have fs:=BT QY fun e he=>hv.BU bm he
 have kk:bz v.2.1 v.1=none:=hv.free;have qX:=hm.next;have cQ:=hm.ino _ (cR bm);have aT:bj (b_ (I J v.2.1 d) (ins (an (I J v.2.1 d)) (nameOf r) v.1))=bj (I J v.2.1 d):=tD _ _;obtain ⟨QZ,y5⟩:=QW hm.kD bm (nameOf r) v.1;have oN:=wO hm.kD bm aT;have Ca:bj (gN v c x (I J v.2.1 d))=gC v:=rfl;have Cb:an (gN v c x (I J v.2.1 d))=[]:=rfl;have jU:=fun {z:aS}=> mem_set (x:=z) ah bm aT
 have Q0:∀z,z∈v.2.1.set d (b_ (I J v.2.1 d) (ins (an (I J v.2.1 d)) (nameOf r) v.1))→1≤bj z∧bj z≤gC v-1:=by
  intro z hz;rcases jU.1 hz with rfl | ⟨hz,_⟩
  ·rw [aT];exact hm.ids _ (cR bm)
  ·exact hm.ids z hz
 generalize hn:gN v c x (I J v.2.1 d)=n at *;generalize dZ:v.2.1.set d (b_ (I J v.2.1 d) (ins (an (I J v.2.1 d)) (nameOf r) v.1))=S at *;have aaQ:(S++[n]).Pairwise fun a b=>bj a<bj b:=by rw [List.pairwise_append];refine⟨oN,List.pairwise_singleton _ _,fun a ha b hb=>?_⟩;rw [List.mem_singleton.1 hb,Ca];have:=Q0 a ha;omega
 have jK:=lM aaQ
 have y6:∀a b,E S a b→E (S++[n]) a b:=by
  intro a b;rw [iz (lM oN),iz jK]
  rintro ⟨z,hz,h⟩
  exact⟨z,List.mem_append.2 (.inl hz),h⟩
 have hE:∀a b,E v.2.1 a b→E (S++[n]) a b:=fun a b h=>y6 a b (QZ a b h)
 have aoc:∀id,bz S id=bz v.2.1 id:=fun id=>by rw [← dZ];exact B0 _ bm id
 have I9:∀id,(bz v.2.1 id).isSome=true→(bz (S++[n]) id).isSome=true:=by intro id cf;obtain ⟨y,aT,he⟩:=n'.1 (show(bz S id).isSome=true by rw [aoc];exact cf);exact n'.2 ⟨y,List.mem_append.2 (.inl aT),he⟩
 have aod:(bz (S++[n]) v.1).isSome=true:=n'.2 ⟨n,List.mem_append.2 (.inr (List.mem_singleton.2 rfl)),Ca⟩;have hdl:=hm.ids _ (cR bm);have aoe:=cQ.named I9 im ka (show v.1≠1 by show gC v≠1;omega) aod hl fs;have pJ:(0≤c.1∧c.1≤1000)∧(0≤c.2.1∧c.2.1≤1000):=by unfold dy at hc;simp only [Bool.and_eq_true] at hc;exact⟨di.1 hc.1,di.1 hc.2.1⟩
 have aof:lJ (S++[n]) n:=by
  have oH:0≤fi n∧fi n≤2047:=by
   rw [← hn];show 0≤wI x (I J v.2.1 d)∧wI x (I J v.2.1 d)≤2047;unfold wI;by_cases kn:aD x=10
   ·rw [if_pos kn];omega
   rw [if_neg kn];unfold rT at kz;rw [bX kn] at kz;simp only [cond_false,Bool.not_eq_false'] at kz;have hr:=di.1 kz;split
   ·exact amn hr.1 hr.2
   ·exact hr
  have qv:0≤fB n∧fB n≤1000:=by
   rw [← hn];show 0≤BV c (I J v.2.1 d)∧BV c (I J v.2.1 d)≤1000;unfold BV;split
   ·exact cQ.gid
   ·exact pJ.2
  have ki:kindOf n=IQ x:=by rw [← hn];rfl
  have Q1:bT n=if aD x=10 then iW x else []:=by rw [← hn];rfl
  have xO:eG n=c.1:=by rw [← hn];rfl
  have IS:fi n=wI x (I J v.2.1 d):=by rw [← hn];rfl
  have gx:fh n=0:=by rw [← hn];rfl
  have hi0:eZ n=0:=by rw [← hn];rfl
  unfold IQ at ki;refine⟨oH,by rw [xO];exact pJ.1,qv,?_,fun _=>⟨gx,hi0,Cb⟩,fun h1=>?_,fun h3=>?_,fun h2=>?_,fun e he=>(by rw [Cb] at he;cases he),by rw [Cb];exact List.Pairwise.nil⟩
  ·rw [ki];split
   ·exact .inr (.inl rfl)
   ·split
    ·exact .inr (.inr rfl)
    ·exact .inl rfl
  ·rw [Q1];split
   ·have:=hx.tx;omega
   ·simp
  ·have kn:aD x=10:=by
    rw [ki] at h3;split at h3
    ·cases h3
    ·split at h3
     ·assumption
     ·cases h3
   unfold rT at kz;rw [cr kn] at kz;simp only [cond_true,Bool.not_eq_false'] at kz;refine⟨by rw [Q1,if_pos kn];exact kz,?_⟩;rw [IS];unfold wI;rw [if_pos kn]
  ·have kn:aD x≠10:=by
    intro kn;rw [ki,if_neg (by omega),if_pos kn] at h2;cases h2
   rw [Q1,if_neg kn,gx,hi0,Cb];exact⟨rfl,by omega,by omega,by simp⟩
 have Q2:∀z,z∈v.2.1→bj z≠1→dY (S++[n]) 1 (bj z):=fun z hz hne=>y3 hE (hm.reach z hz hne)
 have aog:∀b,cD (S++[n]) b=cD v.2.1 b+cond (v.1==b) 1 0:=by intro b;rw [an8,Cb,← dZ,QX bm];rfl
 have kN:=I8.1 hf;refine nf.2 ⟨?_,?_,aaQ,?_,?_,?_,?_,?_,kN.1,kN.2⟩
 ·show 2≤gC v+1∧gC v+1≤100000;omega
 ·show(S++[n]).length≤24;rw [List.length_append,List.length_singleton,← dZ,List.length_set];omega
 ·obtain ⟨z,hz,jJ,hz2⟩:=hm.root;by_cases B':bj z=bj (I J v.2.1 d)
  ·exact⟨_,List.mem_append.2 (.inl (jU.2 (.inl rfl))),by rw [aT,← B'];exact jJ,im⟩
  ·exact⟨z,List.mem_append.2 (.inl (jU.2 (.inr ⟨hz,by rw [aT];exact B'⟩))),jJ,hz2⟩
 ·intro z hz;show 1≤bj z∧bj z≤gC v+1-1;rcases List.mem_append.1 hz with hz | hz
  ·have:=Q0 z hz;omega
  ·rw [List.mem_singleton.1 hz,Ca];omega
 ·intro z hz;rcases List.mem_append.1 hz with hz | hz
  ·rcases jU.1 hz with rfl | ⟨hz,_⟩
   ·exact aoe
   ·exact(hm.ino z hz).to fun e _ h=>I9 _ h
  ·rw [List.mem_singleton.1 hz];exact aof
 ·intro z hz hne;rcases List.mem_append.1 hz with hz | hz
  ·rcases jU.1 hz with rfl | ⟨hz,_⟩
   ·rw [aT] at hne ⊢;exact Q2 _ (cR bm) hne
   ·exact Q2 z hz hne
  ·rw [List.mem_singleton.1 hz,Ca];by_cases h1:bj (I J v.2.1 d)=1
   ·exact .single (y6 _ _ (h1 ▸ y5))
   ·exact .tail (Q2 _ (cR bm) h1) (y6 _ _ y5)
 ·intro z hz hne aoh;show cD (S++[n]) (bj z)=1;rw [aog];rcases List.mem_append.1 hz with hz | hz
  ·have b2:=Q0 z hz;rw [bX (show v.1≠bj z by show gC v≠bj z;omega)];rcases jU.1 hz with rfl | ⟨hz,_⟩
   ·rw [aT] at hne ⊢;exact hm.once _ (cR bm) hne im
   ·exact hm.once z hz hne aoh
  ·rw [List.mem_singleton.1 hz,Ca,show cD v.2.1 (gC v)=0 from an' hv.iV kk,cr (show v.1=gC v from rfl)];rfl
theorem B5.ok{v:af.D}{c:aL.D}{x:aG.D}{w:af.D}(hv:bW v)(h:B5 v c x w):bW w:=by obtain ⟨h0,h1,r,i,_,_,hi,rfl⟩:=h.out;have bm:=(b5 hi).1;have bP:=hv.ino i bm;exact hv.keep bm (y:=jB (I J v.2.1 i) (fi (I J v.2.1 i)) (bU x) (ep x)) rfl rfl rfl ⟨bP.mode,h0,h1,bP.kind,bP.plain,bP.file,bP.n7,bP.dir,bP.names,bP.sorted⟩ (I1 hv bm _ _ _)
theorem I2.ok{v:af.D}{c:aL.D}{x:aG.D}{w:af.D}(hv:bW v)(h:I2 v c x w):bW w:=by obtain ⟨h0,h1,_,r,i,_,_,hi,hk,rfl,hf⟩:=h.out;have bm:=(b5 hi).1;have bP:=hv.ino i bm;exact hv.keep bm (y:=nc (I J v.2.1 i) (bU x) (ep x)) rfl rfl rfl ⟨bP.mode,bP.uid,bP.gid,bP.kind,fun ew=>absurd hk ew,bP.file,bP.n7,fun ew=>⟨(bP.dir ew).1,h0,h1,(bP.dir ew).2.2.2⟩,bP.names,bP.sorted⟩ hf
theorem aoi(s:aK)(a:Nat)(d:aK)(hs:s.length≤64)(h:a+d.length≤64):(lK s a d).length≤64:=by unfold lK;rw [List.length_append,List.length_append,qu,List.length_drop];omega
theorem yY.ok{v:af.D}{c:aL.D}{x:aG.D}{w:af.D}(hv:bW v)(h:yY v c x w):bW w:=by
 obtain ⟨r,i,_,_,hi,hk,jT,_,ha,_,h⟩:=h.out;have bm:=(b5 hi).1;have bP:=hv.ino i bm;have ah:=hv.fW bm;rcases h with⟨_,_,rfl⟩ | ⟨_,hle,rfl,hf⟩
 ·exact hv
 ·have hlen:(iX x (I J v.2.1 i)).length≤64:=by
   unfold iX;split
   ·rename_i bL;rw [qu];have:eC x (I J v.2.1 i)=bU x:=by unfold eC;rw [if_neg (by omega)]
    omega
   ·exact aoi _ _ _ ah (by omega)
  exact hv.keep bm (y:=oe (I J v.2.1 i) (iX x (I J v.2.1 i))) rfl rfl rfl ⟨bP.mode,bP.uid,bP.gid,bP.kind,bP.plain,fun _=>hlen,fun h3=>absurd h3 jT,fun h2=>absurd h2 hk,bP.names,bP.sorted⟩ hf
theorem aoj{m:Int}(h:0≤m)(h':m≤2047):0≤andNot m 1024∧andNot m 1024≤2047:=by
 obtain ⟨n,rfl⟩:∃n:Nat,m=(n:Int):=⟨m.toNat,by omega⟩
 unfold andNot;rw [show(1024:Int)=((1024:Nat):Int) from rfl,bits_nat];simp only;have h1:(BitVec.ofNat 64 n &&& ~~~BitVec.ofNat 64 1024).toNat≤n:=by rw [BitVec.toNat_and,BitVec.toNat_ofNat,Nat.mod_eq_of_lt (show n<2 ^ 64 by omega)];exact Nat.and_le_left
 rw [show IntKind.wrap .i64 (((BitVec.ofNat 64 n &&& ~~~BitVec.ofNat 64 1024).toNat:Nat):Int)=(((BitVec.ofNat 64 n &&& ~~~BitVec.ofNat 64 1024).toNat:Nat):Int) from tY (by omega) (by omega)];omega
theorem B4.ok{v:af.D}{c:aL.D}{x:aG.D}{w:af.D}(hv:bW v)(h:B4 v c x w):bW w:=by
 obtain ⟨h0,h1,r,i,_,_,hi,jT,_,rfl⟩:=h.out;have bm:=(b5 hi).1;have bP:=hv.ino i bm
 have hm:0≤rV c x (I J v.2.1 i)∧rV c x (I J v.2.1 i)≤2047:=by
  unfold rV;split
  ·exact aoj h0 h1
  ·exact⟨h0,h1⟩
 exact hv.keep bm (y:=jB (I J v.2.1 i) (rV c x (I J v.2.1 i)) (eG (I J v.2.1 i)) (fB (I J v.2.1 i))) rfl rfl rfl ⟨hm,bP.uid,bP.gid,bP.kind,bP.plain,bP.file,fun h3=>absurd h3 jT,bP.dir,bP.names,bP.sorted⟩ (I1 hv bm _ _ _)
open Classical in
noncomputable def qG(l:List aS)(id:Int):List aS:=l.filter fun x=>decide (dY l id (bj x))
theorem aaR(l:List aS):l=(List.range l.length).map fun i=>I J l i:=by
 refine List.ext_getElem (by simp) fun i h1 h2=>?_
 rw [List.getElem_map,List.getElem_range,c0 h1]
open Classical in
theorem aaS{l:List aS}(ah:ix l)(id:Int):(pc l (dX l id)).map (fun i=>I J l i)=qG l id:=by
 unfold qG
 conv=>rhs;rw [aaR l]
 rw [List.filter_map];unfold pc;congr 1;refine List.filter_congr fun i hi=>?_
 have hi:=List.mem_range.1 hi;have h:=yL l ah id hi;unfold T at h;have e:(I .bool (dX l id) i:Bool)=decide (dY l id (bj (I J l i))):=by rw [Bool.eq_iff_iff,decide_eq_true_iff];exact h
 rw [e];simp only [Function.comp];rw [← aaR l]
theorem aaT{l:List aS}(ah:ix l)(id:Int):kb l (dX l id)=(qG l id).length:=by rw [← aaS ah id,List.length_map];rfl
theorem aaU{l:List aS}(ah:ix l)(id:Int):jQ l (dX l id)=((qG l id).map fun x=>(bT x).length).sum:=by rw [← aaS ah id,List.map_map];rfl
theorem aok{l:List aS} : gl l=false↔∀x,x∈l→jx l x=false:=by
 unfold gl;constructor
 ·intro h x hx;obtain ⟨i,hi,rfl⟩:=fb hx
  cases ha:eo l.length fun i=> !jx l (I J l i) with
  | true=>simpa using iu.1 ha i hi
  | false=>rw [ha] at h;cases h
 ·intro h;rw [iu.2 fun i hi=>by rw [h _ (cR hi)];rfl];rfl
def prs(l:List aS):List (Int×Nat):=l.map fun x=>(bj x,(bT x).length)
open Classical in
noncomputable def Cc(l:List aS)(id:Int):List (Int×Nat):=(prs l).filter fun p=>decide (dY l id p.1)
open Classical in
theorem I_(l:List aS)(id:Int):(qG l id).length=(Cc l id).length∧((qG l id).map fun x=>(bT x).length).sum=((Cc l id).map fun p=>p.2).sum:=by
 have e:Cc l id=(qG l id).map fun x=>(bj x,(bT x).length):=by unfold Cc qG prs;rw [List.filter_map];rfl
 rw [e,List.length_map,List.map_map];exact⟨rfl,rfl⟩
theorem aaV{α : Type}(f : α → Nat){k0 L:List α}(h:k0.Sublist L)(p q : α → Bool)(Q3:∀a,p a=true→q a=true):((k0.filter p).map f).sum≤((L.filter q).map f).sum:=by
 induction h with
 | slnil=>simp
 | cons a h ih=>
  rw [List.filter_cons (x:=a)];split
  ·rw [List.map_cons,List.sum_cons];omega
  ·exact ih
 | cons_cons a h ih=>
  rw [List.filter_cons,List.filter_cons];by_cases av:p a=true
  ·rw [if_pos av,if_pos (Q3 a av),List.map_cons,List.map_cons,List.sum_cons,List.sum_cons];omega
  ·rw [if_neg av];split
   ·rw [List.map_cons,List.sum_cons];omega
   ·exact ih
theorem Q4{α : Type} : ∀L:List α,(L.map fun _=>1).sum=L.length
 | []=>rfl
 | a :: L=>by rw [List.map_cons,List.sum_cons,Q4 L,List.length_cons];omega
theorem aol{α : Type}{k0 L:List α}(h:k0.Sublist L)(p q : α → Bool)(Q3:∀a,p a=true→q a=true):(k0.filter p).length≤(L.filter q).length:=by rw [← Q4,← Q4];exact aaV (fun _=>1) h p q Q3
theorem aom{l l':List aS}(ah:ix l)(jK:ix l')(hs:(prs l').Sublist (prs l))(hE:∀a b,dY l' a b→dY l a b)(id:Int):kb l' (dX l' id)≤kb l (dX l id)∧jQ l' (dX l' id)≤jQ l (dX l id):=by rw [aaT ah,aaT jK,aaU ah,aaU jK,(I_ l id).1,(I_ l id).2,(I_ l' id).1,(I_ l' id).2];unfold Cc;exact⟨aol hs _ _ fun a h=>by simp only [decide_eq_true_iff] at h ⊢;exact hE _ _ h,aaV _ hs _ _ fun a h=>by simp only [decide_eq_true_iff] at h ⊢;exact hE _ _ h⟩
theorem aon{l l':List aS}(ah:ix l)(jK:ix l')(hs:(prs l').Sublist (prs l))(hE:∀a b,dY l' a b→dY l a b)
  (hm:∀bG,bG∈l'→∃x,x∈l∧bj x=bj bG∧fh x=fh bG∧eZ x=eZ bG) (h:gl l=false):gl l'=false:=by
 rw [aok] at h ⊢;intro bG lp;obtain ⟨x,hx,h1,h2,h3⟩:=hm bG lp;have h0:=h x hx;have hu:=aom ah jK hs hE (bj bG);unfold jx at h0 ⊢;have e:x.1=bG.1:=h1;rw [Bool.or_eq_false_iff,Bool.and_eq_false_iff,Bool.and_eq_false_iff,decide_eq_false_iff_not,decide_eq_false_iff_not,decide_eq_false_iff_not,decide_eq_false_iff_not] at h0 ⊢;rw [e,h2,h3] at h0;have xC:kb l' (dX l' bG.1)≤kb l (dX l bG.1):=hu.1;have sw:jQ l' (dX l' bG.1)≤jQ l (dX l bG.1):=hu.2;refine⟨h0.1.imp id fun h=>by omega,h0.2.imp id fun h=>by omega⟩
theorem aoo{l:List aS}{p:aS→Bool}(b:Int)(h:∀x,x∈l→p x=false→an x=[]):cD (l.filter p) b=cD l b:=by
 unfold cD
 induction l with
 | nil=>rfl
 | cons x l ih=>
  have ih:=ih fun y aT=>h y (List.mem_cons_of_mem _ aT)
  rw [List.filter_cons]
  cases av:p x with
  | true=>rw [if_pos rfl,List.map_cons,List.map_cons,List.sum_cons,List.sum_cons,ih]
  | false=>rw [if_neg (by decide),List.map_cons,List.sum_cons,ih,h x List.mem_cons_self av];simp [dD]
theorem aop{l:List aS}{i:Nat}(hi:i<l.length){y:aS}(h1:bj y=bj (I J l i))(h2:bT y=bT (I J l i)):prs (l.set i y)=prs l:=by
 unfold prs;rw [List.map_set,h1,h2,c0 hi];refine List.ext_getElem (by simp) fun j a b=>?_
 rw [List.getElem_set];split
 ·rename_i h;subst h;rw [List.getElem_map]
 ·rfl
theorem aoq{l:List aS}{b:Int}(h:cD l b≠0):∃x,x∈l∧∃d,d∈an x∧d.2.1=b:=by refine Decidable.byContradiction fun hn=>h (aaN fun x hx d ah he=>hn ⟨x,hx,d,ah,he⟩)
theorem aaW{v:af.D}(hv:bW v){i:Nat}(hi:i<v.2.1.length){s:aK}{k:Int}(oa:dR (an (I J v.2.1 i)) s=k)(hk0:k≠0){j:Nat}(hj:bz v.2.1 k=some j)(he:an (I J v.2.1 j)=[]):bW (k4 v i s):=by
 have hm:=nf.1 hv;have ah:=lM hm.kD;have hjl:=b5 hj;have qv:=cR (t:=J) hi;have Q5:=cR (t:=J) hjl.1;have bP:=hm.ino _ qv;obtain ⟨d,tJ,I',gm⟩:=rO (N:=an (I J v.2.1 i)) (s:=s) (by rw [oa];exact hk0);rw [oa] at gm;have hk1:k≠1:=gm ▸ (bP.names d tJ).2.1;have l6:bj (I J v.2.1 j)=k:=hjl.2;have i':bj (I J v.2.1 i)≠k:=by intro h;have:=ng ah qv Q5 (h.trans l6.symm);rw [this,he] at tJ;cases tJ
 have aT:bj (b_ (I J v.2.1 i) (cl (an (I J v.2.1 i)) s))=bj (I J v.2.1 i):=tD _ _;have hr1:=wO hm.kD hi aT;have Ja:=fun {x:aS}=> mem_set (x:=x) ah hi aT
 have aor:∀b,¬E v.2.1 k b:=by intro b h;obtain ⟨x,hx,aos,e,hex,_⟩:=(iz ah).1 h;have:=ng ah hx Q5 (aos.trans l6.symm);rw [this,he] at hex;cases hex
 have aot:∀b,cD (v.2.1.set i (b_ (I J v.2.1 i) (cl (an (I J v.2.1 i)) s))) b+cond (k==b) 1 0=cD v.2.1 b:=by intro b;have h1:=I7 (y:=b_ (I J v.2.1 i) (cl (an (I J v.2.1 i)) s)) hi b;have h2:=QV bP.sorted tJ b;rw [ky] at h1;rw [I',gm] at h2;omega
 have aaX:prs (v.2.1.set i (b_ (I J v.2.1 i) (cl (an (I J v.2.1 i)) s)))=prs v.2.1:=aop hi aT rfl;have aou:bytesOf (v.2.1.set i (b_ (I J v.2.1 i) (cl (an (I J v.2.1 i)) s)))=bytesOf v.2.1:=by have h:=ZU (y:=b_ (I J v.2.1 i) (cl (an (I J v.2.1 i)) s)) hi;rw [show bT (b_ (I J v.2.1 i) (cl (an (I J v.2.1 i)) s))=bT (I J v.2.1 i) from rfl] at h;omega
 have l5:∀x,x∈v.2.1.set i (b_ (I J v.2.1 i) (cl (an (I J v.2.1 i)) s))→∃bG,bG∈v.2.1∧bj bG=bj x∧kindOf bG=kindOf x∧fh bG=fh x∧eZ bG=eZ x∧(∀e,e∈an x→e∈an bG)∧(bj x=k→an x=[]):=by
  intro x hx;rcases Ja.1 hx with rfl | ⟨hx,hne⟩
  ·exact⟨_,qv,rfl,rfl,rfl,rfl,fun e h=>tA h,fun h=>absurd (aT ▸ h) i'⟩
  ·exact⟨x,hx,rfl,rfl,rfl,rfl,fun e h=>h,fun h=>by rw [ng ah hx Q5 (h.trans l6.symm)];exact he⟩
 have Q6:∀x,x∈v.2.1→∃bG,bG∈v.2.1.set i (b_ (I J v.2.1 i) (cl (an (I J v.2.1 i)) s))∧bj bG=bj x∧kindOf bG=kindOf x∧∀e,e∈an x→e.2.1≠k→e∈an bG:=by
  intro x hx;by_cases hQ:bj x=bj (I J v.2.1 i)
  ·have lp:=ng ah hx qv hQ;subst lp;refine⟨_,Ja.2 (.inl rfl),aT,rfl,fun e h Q7=>List.mem_filter.2 ⟨h,?_⟩⟩;have:e.1≠s:=fun h1=>Q7 (by rw [← IW bP.sorted h,h1,oa])
   unfold bD;simp [this]
  ·exact⟨x,Ja.2 (.inr ⟨hx,by rw [aT];exact hQ⟩),rfl,rfl,fun e h _=>h⟩
 have aov:∀x,x∈v.2.1.set i (b_ (I J v.2.1 i) (cl (an (I J v.2.1 i)) s))→lJ v.2.1 x:=by
  intro x hx;rcases Ja.1 hx with rfl | ⟨hx,hne⟩
  ·exact⟨bP.mode,bP.uid,bP.gid,bP.kind,fun h=>⟨(bP.plain h).1,(bP.plain h).2.1,by
    show cl _ s=[]
    rw [(bP.plain h).2.2];rfl⟩,bP.file,bP.n7,fun h=>⟨(bP.dir h).1,(bP.dir h).2.1,(bP.dir h).2.2.1,Nat.le_trans (wG _ _) (bP.dir h).2.2.2⟩,fun e h=>bP.names e (tA h),wL bP.sorted s⟩
  ·exact hm.ino x hx
 show bW (v.1,goN (v.2.1.set i (b_ (I J v.2.1 i) (cl (an (I J v.2.1 i)) s))) (dR (an (I J v.2.1 i)) s),());rw [oa];generalize v.2.1.set i (b_ (I J v.2.1 i) (cl (an (I J v.2.1 i)) s))=S at *;have gv:=lM hr1
 have jL:∀x,x∈goN S k↔x∈S∧(cD S k=0→bj x≠k):=by
  intro x;unfold goN;by_cases h0:cD S k=0
  ·rw [decide_eq_true h0];simp only [cond_true,List.mem_filter,Bool.not_eq_true',beq_eq_false_iff_ne];exact⟨fun h=>⟨h.1,fun _=>h.2⟩,fun h=>⟨h.1,h.2 h0⟩⟩
  ·rw [decide_eq_false h0];exact⟨fun h=>⟨h,fun h1=>absurd h1 h0⟩,fun h=>h.1⟩
 have lk:(goN S k).Sublist S:=by
  unfold goN;cases decide (cD S k=0)
  ·exact List.Sublist.refl _
  ·exact List.filter_sublist
 have gS:=hr1.sublist lk;have iM:=lM gS;have aow:∀a b,E (goN S k) a b→E v.2.1 a b:=by intro a b h;obtain ⟨x,hx,jX,e,hex,nh⟩:=(iz iM).1 h;obtain ⟨bG,h1,h2,_,_,_,h3,_⟩:=l5 x ((jL x).1 hx).1;exact(iz ah).2 ⟨bG,h1,h2.trans jX,e,h3 e hex,nh⟩
 have y6:∀a b,E S a b→E (goN S k) a b:=by intro a b h;obtain ⟨x,hx,jX,e,hex,nh⟩:=(iz gv).1 h;refine(iz iM).2 ⟨x,(jL x).2 ⟨hx,fun _ hk=>?_⟩,jX,e,hex,nh⟩;obtain ⟨_,_,_,_,_,_,_,j3⟩:=l5 x hx;rw [j3 hk] at hex;cases hex
 have aaY:∀a b,b≠k→E v.2.1 a b→E (goN S k) a b:=by intro a b hb h;obtain ⟨x,hx,jX,e,hex,nh⟩:=(iz ah).1 h;obtain ⟨bG,h1,h2,_,h3⟩:=Q6 x hx;exact y6 a b ((iz gv).2 ⟨bG,h1,h2.trans jX,e,h3 e hex (nh ▸ hb),nh⟩)
 have hC:∀b,dY v.2.1 1 b→b≠k→dY (goN S k) 1 b:=by
  intro b h
  induction h with
  | single h=>exact fun hb=>.single (aaY _ _ hb h)
  | tail h1 h2 ih=>exact fun hb=>.tail (ih fun h=>aor _ (h ▸ h2)) (aaY _ _ hb h2)
 have aox:∀b,cD (goN S k) b=cD S b:=by
  intro b;unfold goN;cases decide (cD S k=0)
  ·rfl
  ·refine aoo b fun x hx av=>?_
   obtain ⟨_,_,_,_,_,_,_,j3⟩:=l5 x hx;have e:x.1=k:=by simpa using av
   exact j3 e
 have I9:∀x,x∈goN S k→∀e,e∈an x→(bz v.2.1 e.2.1).isSome=true→(bz (goN S k) e.2.1).isSome=true:=by intro x hx e hex hs;obtain ⟨y,aT,yN⟩:=n'.1 hs;obtain ⟨mx,h1,h2,_,_⟩:=Q6 y aT;refine n'.2 ⟨mx,(jL mx).2 ⟨h1,fun h0 hk=>?_⟩,h2.trans yN⟩;refine Qj h0 x ((jL x).1 hx).1 e hex ?_;exact yN.symm.trans (h2.symm.trans hk)
 refine nf.2 ⟨hm.next,Nat.le_trans lk.length_le ?_,gS,?_,?_,?_,?_,?_,?_,?_⟩
 ·have:=congrArg List.length aaX;unfold prs at this;rw [List.length_map,List.length_map] at this;rw [this];exact hm.len
 ·obtain ⟨z,hz,jJ,hz2⟩:=hm.root;obtain ⟨j4,h1,h2,h3,_⟩:=Q6 z hz;exact⟨j4,(jL j4).2 ⟨h1,fun _ h=>hk1 (h.symm.trans (h2.trans jJ))⟩,h2.trans jJ,h3.trans hz2⟩
 ·intro x hx;obtain ⟨bG,h1,h2,_⟩:=l5 x ((jL x).1 hx).1;rw [← h2];exact hm.ids bG h1
 ·intro x hx;exact(aov x ((jL x).1 hx).1).to fun e hex h=>I9 x hx e hex h
 ·intro x hx hne;obtain ⟨bG,h1,h2,_⟩:=l5 x ((jL x).1 hx).1;by_cases hk:bj x=k
  ·have h0:cD S k≠0:=fun h0=>((jL x).1 hx).2 h0 hk
   obtain ⟨z,hz,e,Q8,Q7⟩:=aoq h0;have aaZ:E (goN S k) (bj z) k:=y6 _ _ ((iz gv).2 ⟨z,hz,rfl,e,Q8,Q7⟩);obtain ⟨j4,g1,g2,_,_,_,_,g9⟩:=l5 z hz;rw [hk];by_cases jJ:bj z=1
   ·exact .single (jJ ▸ aaZ)
   ·refine .tail (hC _ (g2 ▸ hm.reach j4 g1 (by rw [g2];exact jJ)) fun h=>?_) aaZ;rw [g9 h] at Q8;cases Q8
  ·exact hC _ (h2 ▸ hm.reach bG h1 (by rw [h2];exact hne)) hk
 ·intro x hx hne aoy;obtain ⟨bG,h1,h2,h3,_⟩:=l5 x ((jL x).1 hx).1;have ho:=hm.once bG h1 (by rw [h2];exact hne) (h3.trans aoy);have hn:=aot (bj x);rw [h2] at ho;show cD (goN S k) (bj x)=1;rw [aox];by_cases hk:bj x=k
  ·exfalso;rw [cr hk.symm] at hn;simp only [cond_true] at hn;exact((jL x).1 hx).2 (by rw [← hk];omega) hk
  ·rw [bX (fun h=>hk h.symm)] at hn;simp only [cond_false] at hn;omega
 ·refine Nat.le_trans ?_ (aou ▸ hm.bytes);unfold goN;cases decide (cD S k=0)
  ·exact Nat.le_refl _
  ·exact IN _ _ S
 ·refine aon ah iM ?_ (fun a b h=>y3 aow h) (fun x hx=>?_) hm.over
  ·rw [← aaX];exact lk.map _
  ·obtain ⟨bG,h1,h2,_,h4,a',_⟩:=l5 x ((jL x).1 hx).1;exact⟨bG,h1,h2,h4,a'⟩
theorem BY.ok{v:af.D}{c:aL.D}{x:aG.D}{w:af.D}(hv:bW v)(h:BY v c x w):bW w:=by obtain ⟨r,i,j,hr,hc,hn,hi,_,hl,hj,he,_,_,rfl⟩:=h.out;exact aaW hv (b5 hi).1 hl (hr.named hc hn).1 hj he
theorem aa0{u:af.D}(hu:bW u){rd jV:Int}{ir it:Nat}{cM ef:aK}{bI:Int}(h:tB u.2.1 rd jV ir it cM ef bI)(htn:iw ef=true)(hlen:rd≠jV→(an (I J u.2.1 it)).length<12)
  (hb:∀j,bz u.2.1 bI=some j→kindOf (I J u.2.1 j)=2→jV≠bI∧¬dY u.2.1 bI jV) (hf:fc (eU u.2.1 ir cM it ef bI)=0):bW (u.1,eU u.2.1 ir cM it ef bI,()):=by
 have hm:=nf.1 hu;have ah:=lM hm.kD;have wP:=b5 h.hr;have Cd:=b5 h.ht;have oc:=cR (t:=J) wP.1;have bP:=hm.ino _ oc;have aoz:bj (I J u.2.1 ir)=rd:=wP.2;have y7:bj (I J u.2.1 it)=jV:=Cd.2;obtain ⟨j,hj⟩:=Option.isSome_iff_exists.1 h.ex;have hjl:=b5 hj;have aa1:bj (I J u.2.1 j)=bI:=hjl.2;obtain ⟨d,tJ,I',gm⟩:=rO (N:=an (I J u.2.1 ir)) (s:=cM) (by rw [h.look];exact h.aab);rw [h.look] at gm;have aoA:bI≠1:=gm ▸ (bP.names d tJ).2.1;have y8:bj (b_ (I J u.2.1 ir) (cl (an (I J u.2.1 ir)) cM))=bj (I J u.2.1 ir):=tD _ _;have y9:=fun {x:aS}=> mem_set (x:=x) ah wP.1 y8
 have hr1:(dL u.2.1 ir cM).Pairwise fun a b=>bj a<bj b:=wO hm.kD wP.1 y8
 have gv:=lM hr1;have Ce:∀id,bz (dL u.2.1 ir cM) id=bz u.2.1 id:=fun id=>Qy wP.1 id
 have hl1:(dL u.2.1 ir cM).length=u.2.1.length:=List.length_set;have y_:it<(dL u.2.1 ir cM).length:=by rw [hl1];exact Cd.1
 have aoB:∀b,cD (dL u.2.1 ir cM) b+cond (bI==b) 1 0=cD u.2.1 b:=by intro b;have h1:=I7 (y:=b_ (I J u.2.1 ir) (cl (an (I J u.2.1 ir)) cM)) wP.1 b;have h2:=QV bP.sorted tJ b;rw [ky] at h1;rw [I',gm] at h2;show cD (List.set _ _ _) b+_=_;omega
 have aa2:∀x,x∈dL u.2.1 ir cM→lJ (dL u.2.1 ir cM) x:=by
  intro x hx;rcases y9.1 hx with rfl | ⟨hx,hne⟩
  ·exact⟨bP.mode,bP.uid,bP.gid,bP.kind,fun hk=>absurd h.tC hk,bP.file,bP.n7,fun hk=>⟨(bP.dir hk).1,(bP.dir hk).2.1,(bP.dir hk).2.2.1,Nat.le_trans (wG _ _) (bP.dir hk).2.2.2⟩,fun e he=>by rw [Ce];exact bP.names e (tA he),wL bP.sorted cM⟩
  ·exact(hm.ino x hx).to fun e _ hs=>by rw [Ce];exact hs
 have QZ:∀a b,b≠bI→E u.2.1 a b→E (dL u.2.1 ir cM) a b:=by
  intro a b dP hE;obtain ⟨x,hx,jX,e,hex,nh⟩:=(iz ah).1 hE;by_cases hQ:bj x=bj (I J u.2.1 ir)
  ·have lp:=ng ah hx oc hQ;subst lp;refine(iz gv).2 ⟨_,y9.2 (.inl rfl),y8.trans jX,e,List.mem_filter.2 ⟨hex,?_⟩,nh⟩;have:e.1≠cM:=fun h1=>dP (by rw [← nh,← IW bP.sorted hex,h1,h.look])
   unfold bD;simp [this]
  ·exact(iz gv).2 ⟨x,y9.2 (.inr ⟨hx,by rw [y8];exact hQ⟩),jX,e,hex,nh⟩
 have aoC:∀x,x∈u.2.1→∃bG,bG∈dL u.2.1 ir cM∧bj bG=bj x∧kindOf bG=kindOf x:=by
  intro x hx;by_cases hQ:bj x=bj (I J u.2.1 ir)
  ·exact⟨_,y9.2 (.inl rfl),y8.trans hQ.symm,by rw [ng ah hx oc hQ];rfl⟩
  ·exact⟨x,y9.2 (.inr ⟨hx,by rw [y8];exact hQ⟩),rfl,rfl⟩
 have aa3:∀x,x∈dL u.2.1 ir cM→∃bG,bG∈u.2.1∧bj bG=bj x∧kindOf bG=kindOf x:=by
  intro x hx;rcases y9.1 hx with rfl | ⟨hx,hne⟩
  ·exact⟨_,oc,rfl,rfl⟩
  ·exact⟨x,hx,rfl,rfl⟩
 have od:kindOf (I J (dL u.2.1 ir cM) it)=2∧(an (I J (dL u.2.1 ir cM) it)).length<12∧(∀e,e∈an (I J (dL u.2.1 ir cM) it)→e.1≠ef)∧bj (I J (dL u.2.1 ir cM) it)=jV:=by
  unfold dL;rw [jz wP.1];by_cases hii:ir=it
  ·subst hii;rw [if_pos rfl];refine⟨h.tC,?_,fun e he=>h.no e (tA he),y7⟩;show(cl (an (I J u.2.1 ir)) cM).length<12;have j5:=(bP.dir h.tC).2.2.2;have:(cl (an (I J u.2.1 ir)) cM).length<(an (I J u.2.1 ir)).length:=by unfold cl;refine List.length_filter_lt_length_iff_exists.2 ⟨d,tJ,?_⟩;unfold bD;simp [I']
   omega
  ·rw [if_neg hii];refine⟨h.Qx,hlen fun he=>hii ?_,h.no,y7⟩;have:=ng ah oc (cR Cd.1) (by rw [aoz,y7];exact he);have e1:=h.hr;rw [he,h.ht] at e1;exact(aZ e1).symm
 have Q9:=cR (t:=J) y_;have Cf:bj (b_ (I J (dL u.2.1 ir cM) it) (ins (an (I J (dL u.2.1 ir cM) it)) ef bI))=bj (I J (dL u.2.1 ir cM) it):=tD _ _;have Jb:=fun {x:aS}=> mem_set (x:=x) gv y_ Cf
 have gS:(eU u.2.1 ir cM it ef bI).Pairwise fun a b=>bj a<bj b:=wO hr1 y_ Cf
 obtain ⟨y5,Cg⟩:=QW hr1 y_ ef bI;rw [od.2.2.2] at Cg;have y5:∀a b,E (dL u.2.1 ir cM) a b→E (eU u.2.1 ir cM it ef bI) a b:=y5
 have Cg:E (eU u.2.1 ir cM it ef bI) jV bI:=Cg;have Q_:∀id,bz (eU u.2.1 ir cM it ef bI) id=bz u.2.1 id:=fun id=>(aac y_ id).trans (Ce id)
 have aoD:∀b,cD (eU u.2.1 ir cM it ef bI) b=cD u.2.1 b:=by intro b;have h1:cD (eU u.2.1 ir cM it ef bI) b=cD (dL u.2.1 ir cM) b+cond (bI==b) 1 0:=QX y_ ef bI b;have h2:=aoB b;omega
 have aoE:∀x,x∈u.2.1→∃bG,bG∈eU u.2.1 ir cM it ef bI∧bj bG=bj x∧kindOf bG=kindOf x:=by
  intro x hx;obtain ⟨U,a1,a2,a3⟩:=aoC x hx;by_cases hQ:bj U=bj (I J (dL u.2.1 ir cM) it)
  ·exact⟨_,Jb.2 (.inl rfl),Cf.trans (hQ.symm.trans a2),by rw [← a3,ng gv a1 Q9 hQ];rfl⟩
  ·exact⟨U,Jb.2 (.inr ⟨a1,by rw [Cf];exact hQ⟩),a2,a3⟩
 have hbk:∀x,x∈eU u.2.1 ir cM it ef bI→∃bG,bG∈u.2.1∧bj bG=bj x∧kindOf bG=kindOf x:=by
  intro x hx;rcases Jb.1 hx with rfl | ⟨hx,hne⟩
  ·obtain ⟨bG,a1,a2,a3⟩:=aa3 _ Q9;exact⟨bG,a1,a2.trans Cf.symm,a3⟩
  ·exact aa3 x hx
 have hE:∀a b,b≠bI→E u.2.1 a b→E (eU u.2.1 ir cM it ef bI) a b:=fun a b dP he=>y5 a b (QZ a b dP he)
 have aa4:jV≠bI∧¬dY u.2.1 bI jV:=by
  by_cases hk:kindOf (I J u.2.1 j)=2
  ·exact hb j hj hk
  ·have aoF:∀b,¬E u.2.1 bI b:=by
    intro b he;obtain ⟨x,hx,jX,e,hex,_⟩:=(iz ah).1 he;rw [ng ah hx (cR hjl.1) (jX.trans aa1.symm),((hm.ino _ (cR hjl.1)).plain hk).2.2] at hex;cases hex
   refine⟨fun he=>hk ?_,fun hC=>?_⟩
   ·rw [← ng ah (cR Cd.1) (cR hjl.1) (by rw [y7,aa1];exact he)];exact h.Qx
   ·have:∀c,dY u.2.1 bI c→False:=by
     intro c hc
     induction hc with
     | single h=>exact aoF _ h
     | tail _ _ ih=>exact ih
    exact this _ hC
 have uA:∀c,dY u.2.1 1 c→c≠bI→¬dY u.2.1 bI c→dY (eU u.2.1 ir cM it ef bI) 1 c:=by
  intro c hc
  induction hc with
  | single h1=>exact fun hne _=>.single (hE _ _ hne h1)
  | tail h1 h2 ih=>exact fun hne mI=>.tail (ih (fun he=>mI (.single (he ▸ h2))) fun hC=>mI (.tail hC h2)) (hE _ _ hne h2)
 have aa5:dY (eU u.2.1 ir cM it ef bI) 1 bI:=by
  by_cases h1:jV=1
  ·exact .single (h1 ▸ Cg)
  ·refine .tail (uA jV ?_ aa4.1 aa4.2) Cg;have:=hm.reach _ (cR Cd.1) (by rw [y7];exact h1);rwa [y7] at this
 have hA:∀c,dY u.2.1 1 c→dY (eU u.2.1 ir cM it ef bI) 1 c:=by
  intro c hc
  induction hc with
  | @single b h1=>
   by_cases Ch:b=bI
   ·rw [Ch];exact aa5
   ·exact .single (hE _ _ Ch h1)
  | @tail b c h1 h2 ih=>
   by_cases Ch:c=bI
   ·rw [Ch];exact aa5
   ·exact .tail ih (hE _ _ Ch h2)
 have kN:=I8.1 hf;refine nf.2 ⟨hm.next,?_,gS,?_,?_,?_,?_,?_,kN.1,kN.2⟩
 ·show(List.set _ _ _).length≤24;rw [List.length_set,hl1];exact hm.len
 ·obtain ⟨z,hz,jJ,hz2⟩:=hm.root;obtain ⟨j4,a1,a2,a3⟩:=aoE z hz;exact⟨j4,a1,a2.trans jJ,a3.trans hz2⟩
 ·intro x hx;obtain ⟨bG,a1,a2,a3⟩:=hbk x hx;rw [← a2];exact hm.ids bG a1
 ·intro x hx;rcases Jb.1 hx with rfl | ⟨hx,hne⟩
  ·refine(aa2 _ Q9).named (l':=eU u.2.1 ir cM it ef bI) (fun id hs=>?_) od.1 htn aoA (by rw [Q_];exact h.ex) od.2.1 od.2.2.1;rw [Q_];rwa [Ce] at hs
  ·refine(aa2 x hx).to fun e _ hs=>?_
   show(bz (eU u.2.1 ir cM it ef bI) e.2.1).isSome=true;rw [Q_];rwa [Ce] at hs
 ·intro x hx hne;obtain ⟨bG,a1,a2,a3⟩:=hbk x hx;rw [← a2];exact hA _ (hm.reach bG a1 (by rw [a2];exact hne))
 ·intro x hx hne hk;obtain ⟨bG,a1,a2,a3⟩:=hbk x hx;show cD (eU u.2.1 ir cM it ef bI) (bj x)=1;rw [aoD,← a2];exact hm.once bG a1 (by rw [a2];exact hne) (a3.trans hk)
theorem aoG{v:af.D}{s:aK}(hv:bW v){i:Nat}(hi:i<v.2.1.length)(hw:bW (k4 v i s))(a b:Int)(h:E (k4 v i s).2.1 a b):E v.2.1 a b:=by
 have hm:=nf.1 hv;have ah:=lM hm.kD;have iM:=lM (nf.1 hw).kD;have aT:bj (b_ (I J v.2.1 i) (cl (an (I J v.2.1 i)) s))=bj (I J v.2.1 i):=tD _ _;obtain ⟨x,hx,jX,e,hex,nh⟩:=(iz iM).1 h
 have lk:x∈v.2.1.set i (b_ (I J v.2.1 i) (cl (an (I J v.2.1 i)) s)):=by
  unfold k4 goN at hx
  cases hc:decide (cD (v.2.1.set i (b_ (I J v.2.1 i) (cl (an (I J v.2.1 i)) s))) (dR (an (I J v.2.1 i)) s)=0) with
  | true=>rw [hc] at hx;exact(List.mem_filter.1 hx).1
  | false=>rw [hc] at hx;exact hx
 rcases (mem_set ah hi aT).1 lk with rfl | ⟨hx,_⟩
 ·exact(iz ah).2 ⟨_,cR hi,aT.symm.trans jX,e,tA hex,nh⟩
 ·exact(iz ah).2 ⟨x,hx,jX,e,hex,nh⟩
theorem yX.ok{v:af.D}{c:aL.D}{x:aG.D}{w:af.D}(hv:bW v)(h:yX v c x w):bW w:=by
 obtain ⟨r,t,j,hr,hc,qs,hj,ht,htn,rU,_,h⟩:=h.out
 have jo:iw (nameOf t)=true:=by
  rcases rU with h0 | h2
  ·exact(ht.named h0 htn).2.1
  ·exact(ht.new h2 htn).2.1
 rcases h with⟨_,rfl⟩ | ⟨hne,mI,l,ir,it,av,rfl,hf,h⟩
 ·exact hv
 rcases h with⟨_,rfl,hlen⟩ | ⟨i2,e_,gw,hk2,l_,qT,d',hkk,rfl⟩
 ·refine aa0 hv av jo hlen (fun lj hj' hk=>?_) hf;obtain rfl:lj=j:=aZ (hj'.symm.trans hj);exact mI hk
 ·have wD:=b5 gw;have pf:bA t≠0:=by have:=hv.Z1 (cR (b5 l_).1);have e:bj (I J v.2.1 e_)=bA t:=(b5 l_).2;omega
  have hu:=aaW hv wD.1 d' pf l_ qT;obtain ⟨_,ig⟩:=aah hv wD.1 hk2 (nameOf t);have hE:=fun a b=>aoG (s:=nameOf t) hv wD.1 hu a b
  have jC:(an (I J (k4 v i2 (nameOf t)).2.1 it)).length<12:=by
   have kA:cp t≠dR (an (I J v.2.1 i2)) (nameOf t):=by rw [d'];intro e;rw [← e,gw] at l_;rw [← aZ l_] at qT;obtain ⟨d,gv,_⟩:=rO (N:=an (I J v.2.1 i2)) (s:=nameOf t) (by rw [d'];exact pf);rw [qT] at gv;cases gv
   obtain ⟨k',ew,aI⟩:=ig (cp t) kA i2 gw;obtain rfl:k'=it:=aZ (ew.symm.trans av.ht);rw [aI,if_pos rfl,ky];have j5:=((hv.ino i2 wD.1).dir hk2).2.2.2;obtain ⟨d,gv,iM,_⟩:=rO (N:=an (I J v.2.1 i2)) (s:=nameOf t) (by rw [d'];exact pf);have:(cl (an (I J v.2.1 i2)) (nameOf t)).length<(an (I J v.2.1 i2)).length:=by unfold cl;refine List.length_filter_lt_length_iff_exists.2 ⟨d,gv,?_⟩;unfold bD;simp [iM]
   omega
  refine aa0 hu av jo (fun _=>jC) (fun lj hj' hk=>?_) hf;have aoH:bA r≠dR (an (I J v.2.1 i2)) (nameOf t):=by rw [d'];exact fun e=>hne e.symm
  obtain ⟨k',ew,aI⟩:=ig (bA r) aoH j hj;obtain rfl:k'=lj:=aZ (ew.symm.trans hj')
  have rJ:kindOf (I J v.2.1 j)=2:=by
   rw [aI] at hk;split at hk
   ·rename_i e;subst e;exact hk
   ·exact hk
  exact⟨(mI rJ).1,fun hC=>(mI rJ).2 (y3 hE hC)⟩
theorem rX.ok{v:af.D}{c:aL.D}{x:aG.D}{w:af.D}(hv:bW v)(hc:dy c=true)(hx:iy x)(h:rX v c x w):bW w:=by
 rcases h with⟨hk,h⟩ | ⟨_,h⟩ | ⟨_,h⟩ | ⟨_,h⟩ | ⟨_,h⟩ | ⟨_,h⟩ | ⟨_,h⟩ | ⟨_,h⟩ | ⟨_,h⟩
 ·exact h.ok hv hc hx hk
 ·exact h.ok hv
 ·exact h.ok hv hx
 ·exact h.ok hv
 ·exact h.ok hv
 ·exact h.ok hv
 ·exact h.ok hv
 ·exact h.ok hv
 ·rw [h];exact hv
theorem y2.ok{v:af.D}{c:aL.D}{x:aG.D}{w:af.D}{k:Int}{t:aK}(h:y2 v c x w k t)(hv:g' v=true):g' w=true:=by
 have h0:w=v→g' w=true:=fun e=>by rw [e];exact hv
 cases hc:dy c with
 | false=>exact h0 (h.aaJ hv hc).1
 | true=>
 cases hcall:gj x with
 | false=>exact h0 (h.call hv hc (.inl hcall)).1
 | true=>
 by_cases jW:20<aD x
 ·exact h0 (h.call hv hc (.inr jW)).1
 by_cases hk:k=0
 ·exact tu.2 ((h.done hv hc hcall (by omega) hk).ok (tu.1 hv) hc (tz.1 hcall))
 ·exact h0 (h.no hv hk)
end Go.LM.kO
