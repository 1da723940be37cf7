/- Tellings, the call as a whole, and the law. Conditions: each theorem's own hypotheses. -/
import Derived.Test.YtklmgcjamifmaaaGreatDoorEVd
import Derived.Test.YtklmgcjamifmaaaGreatDoorEVp
set_option linter.unusedVariables false
set_option linter.unusedSimpArgs false
namespace Go.LM.Vg
def dg(a:Int):Txt:=bytesStr [IntKind.wrap .u8 (w64 (48+a))]
theorem dg_len(a:Int):(dg a).length=1:=rfl
def lowD(x:Int):Int:=if Int.tmod x 10<0 then -(Int.tmod x 10) else Int.tmod x 10
def sgn(b:Bool)(t:Txt):Txt:=cond b ([45]++t) t
theorem dcS5(m:Nat)(x:Int)(t:Txt)(b:Bool):spec_Dec_L5 (m+1) x t b=spec_Dec_b5 (spec_Dec_L5 m) x t b:=rfl
theorem dcI4(m:Nat)(y:Int)(t:Txt)(x:Int):(impl_Dec_L (m+1)).k4 y t x=impl_Dec_b4 (impl_Dec_L m) y t x:=rfl
theorem dcI7(m:Nat)(y:Int)(t:Txt)(x a:Int):(impl_Dec_L (m+1)).k7 y t x a=impl_Dec_b7 (impl_Dec_L m) y t x a:=rfl
theorem tmod10(x:Int):(-9≤Int.tmod x 10∧Int.tmod x 10≤9)∧(0≤x→0≤Int.tmod x 10)∧(x≤0→Int.tmod x 10≤0):=by
 have h1:=Int.tmod_lt_of_pos x (show(0:Int)<10 by decide)
 have h2:=Int.lt_tmod_of_pos x (show(0:Int)<10 by decide)
 refine⟨by omega,fun h=>Int.tmod_nonneg _ h,fun h=>?_⟩
 have h3:0≤Int.tmod (-x) 10:=Int.tmod_nonneg _ (by omega)
 rw [Int.neg_tmod] at h3
 omega
theorem tdiv10(x:Int):10*Int.tdiv x 10+Int.tmod x 10=x:=Int.mul_tdiv_add_tmod x 10
theorem sgn_fin(neg:Bool)(t:Txt)(h:t.length≤1000) :
  cond neg (cond (room (([45]:Txt).length+t.length)) (some (([45]:Txt)++t,())) none) (some (t,()))=some (sgn neg t,()):=by
 rw [room_t (by simp;omega)]
 cases neg <;> rfl
theorem dec_spec0(m:Nat)(t:Txt)(neg:Bool)(h:t.length≤1000):spec_Dec_L5 (m+1) 0 t neg=some (sgn neg t,()):=by
 rw [dcS5]
 unfold spec_Dec_b5
 rw [show((0:Int) != 0)=false from rfl]
 simp only [cond_false]
 exact sgn_fin neg t h
theorem dec_specS(m:Nat)(x:Int)(t:Txt)(neg:Bool)(hx:x≠0)(h:t.length≤1000)(hb : -4000000000000000000≤x∧x≤4000000000000000000):spec_Dec_L5 (m+1) x t neg=spec_Dec_L5 m (Int.tdiv x 10) (dg (lowD x)++t) neg:=by
 have h1:=tmod10 x
 have h2:=tdiv10 x
 rw [dcS5]
 unfold spec_Dec_b5
 rw [bne_t hx]
 simp only [cond_true]
 rw [w64_sm (a:=Int.tdiv x 10) (by omega) (by omega)]
 by_cases hn:Int.tmod x 10<0
 ·rw [decide_eq_true hn]
  simp only [cond_true]
  rw [w64_sm (a:=0-Int.tmod x 10) (by omega) (by omega)]
  rw [show lowD x=0-Int.tmod x 10 by unfold lowD;rw [if_pos hn];omega]
  rw [show bytesStr [IntKind.wrap .u8 (w64 (48 +(0-Int.tmod x 10)))]=dg (0-Int.tmod x 10) from rfl,room_t (by rw [dg_len];omega)]
  rfl
 ·rw [decide_eq_false hn]
  simp only [cond_false]
  rw [show lowD x=Int.tmod x 10 by unfold lowD;rw [if_neg hn]]
  rw [show bytesStr [IntKind.wrap .u8 (w64 (48+Int.tmod x 10))]=dg (Int.tmod x 10) from rfl,room_t (by rw [dg_len];omega)]
  rfl
theorem dec_implS(m:Nat)(y x:Int)(t:Txt)(h:t.length≤900)(hb : -4000000000000000000≤x∧x≤4000000000000000000) :
  (impl_Dec_L (m+2)).k4 y t x=cond (inR x (-9) 9) (some (sgn (decide (y<0)) (dg (lowD x)++t),())) ((impl_Dec_L m).k4 y (dg (lowD x)++t) (Int.tdiv x 10)):=by
 have h1:=tmod10 x
 have h2:=tdiv10 x
 have key:∀a,(impl_Dec_L (m+1)).k7 y t x a=cond (inR x (-9) 9) (some (sgn (decide (y<0)) (dg a++t),())) ((impl_Dec_L m).k4 y (dg a++t) (Int.tdiv x 10)):=by
  intro a
  rw [dcI7]
  unfold impl_Dec_b7
  rw [show bytesStr [IntKind.wrap .u8 (w64 (48+a))]=dg a from rfl,room_t (by rw [dg_len];omega),within_eq,w64_sm (a:=Int.tdiv x 10) (by omega) (by omega)]
  simp only [cond_true,obs]
  rw [sgn_fin (decide (y<0)) (dg a++t) (by rw [List.length_append,dg_len];omega)]
 rw [dcI4]
 unfold impl_Dec_b4
 by_cases hn:Int.tmod x 10<0
 ·rw [decide_eq_true hn]
  simp only [cond_true]
  rw [w64_sm (a:=0-Int.tmod x 10) (by omega) (by omega),key,show lowD x=0-Int.tmod x 10 by unfold lowD;rw [if_pos hn];omega]
 ·rw [decide_eq_false hn]
  simp only [cond_false]
  rw [key,show lowD x=Int.tmod x 10 by unfold lowD;rw [if_neg hn]]
theorem dec_both:∀(k:Nat) (x:Int),k≤18→x≠0 → -(10 ^ k:Int)<x→x<(10 ^ k:Int) →
  ∃t:Txt,t.length≤k∧(∀(m:Nat) (a:Txt) (neg:Bool),k<m→a.length+k≤500→spec_Dec_L5 m x a neg=some (sgn neg (t++a),())) ∧
   (∀(m:Nat) (y:Int) (a:Txt),2*k<m→a.length+k≤500→(impl_Dec_L m).k4 y a x=some (sgn (decide (y<0)) (t++a),())):=by
 intro k
 induction k with
 | zero=>intro x hk h0 h1 h2;simp at h1 h2;omega
 | succ k ih =>
  intro x hk h0 h1 h2
  have hd:=tmod10 x
  have hm:=tdiv10 x
  have h18:(10 ^ k:Int)≤100000000000000000:=by
   have:(10:Nat) ^ k≤10 ^ 17:=Nat.pow_le_pow_right (by decide) (by omega)
   have h3:((10 ^ k:Nat):Int)≤((10 ^ 17:Nat):Int):=Int.ofNat_le.2 this
   simpa using h3
  have hp:(10 ^ (k+1):Int)=10*10 ^ k:=by rw [Int.pow_succ];omega
  rw [hp] at h1 h2
  generalize hP:(10 ^ k:Int)=P at *
  by_cases h9 : -9≤x∧x≤9
  ·refine⟨dg (lowD x),by rw [dg_len];omega,fun m a neg hm' ha=>?_,fun m y a hm' ha=>?_⟩
   ·obtain ⟨m,rfl⟩:∃q,m=q+1+1:=⟨m-2,by omega⟩
    rw [dec_specS _ x a neg h0 (by omega) (by omega),show Int.tdiv x 10=0 by omega]
    exact dec_spec0 m _ neg (by rw [List.length_append,dg_len];omega)
   ·obtain ⟨m,rfl⟩:∃q,m=q+2:=⟨m-2,by omega⟩
    rw [dec_implS m y x a (by omega) (by omega),show inR x (-9) 9=true from inR_iff.2 h9];rfl
  ·obtain ⟨t,ht,hs,hi⟩:=ih (Int.tdiv x 10) (by omega) (by omega) (by omega) (by omega)
   refine⟨t++dg (lowD x),by rw [List.length_append,dg_len];omega,fun m a neg hm' ha=>?_,fun m y a hm' ha=>?_⟩
   ·obtain ⟨m,rfl⟩:∃q,m=q+1:=⟨m-1,by omega⟩
    rw [dec_specS _ x a neg h0 (by omega) (by omega)]
    rw [hs m (dg (lowD x)++a) neg (by omega) (by rw [List.length_append,dg_len];omega),List.append_assoc]
   ·obtain ⟨m,rfl⟩:∃q,m=q+2:=⟨m-2,by omega⟩
    rw [dec_implS m y x a (by omega) (by omega),show inR x (-9) 9=false from Bool.eq_false_iff.2 fun h=>h9 (inR_iff.1 h)]
    simp only [cond_false]
    rw [hi m y (dg (lowD x)++a) (by omega) (by rw [List.length_append,dg_len];omega),List.append_assoc]
def decT(x:Int):Txt:=match impl_Dec (x,()) with | some r=>r.1 | none=>[]
theorem dec_all(x:Int)(h : -1000000000000<x∧x<1000000000000):(decT x).length≤20∧spec_Dec (x,())=some (decT x,())∧impl_Dec (x,())=some (decT x,()):=by
 obtain ⟨t,h1,h2,h3⟩:∃t:Txt,t.length≤20∧spec_Dec (x,())=some (t,())∧impl_Dec (x,())=some (t,()):=by
  by_cases h0:x=0
  ·subst h0
   refine⟨[48],by simp,rfl,?_⟩
   obtain ⟨q,hq,_⟩:=big_pred 2
   show(impl_Dec_L BIG).k4 0 [] 0=_
   rw [hq,dec_implS q 0 0 [] (by simp) (by omega)];rfl
  ·obtain ⟨t,ht,hs,hi⟩:=dec_both 12 x (by omega) h0 (by simpa using h.1) (by simpa using h.2)
   refine⟨sgn (decide (x<0)) t,?_,?_,?_⟩
   ·unfold sgn
    cases decide (x<0)
    ·simp only [cond_false];omega
    ·simp only [cond_true,List.length_append,List.length_cons,List.length_nil];omega
   ·show cond (x==0) _ (spec_Dec_L5 BIG x [] (decide (x<0)))=_
    rw [beq_f h0]
    simp only [cond_false]
    rw [hs BIG [] _ (big_gt (by omega)) (by simp),List.append_nil]
   ·show(impl_Dec_L BIG).k4 x [] x=_
    rw [hi BIG x [] (big_gt (by omega)) (by simp),List.append_nil]
 have e:decT x=t:=by unfold decT;rw [h3]
 rw [e]
 exact⟨h1,h2,h3⟩
theorem tail_len(xs:List Txt)(sep:Txt)(B:Nat)(h:∀t,t∈xs→t.length≤B):(Lib.joinTail sep xs).length≤xs.length*(sep.length+B):=by
 induction xs with
 | nil=>simp [Lib.joinTail]
 | cons y r ih =>
  have h1:=h y (by simp)
  have h2:=ih fun t ht=>h t (by simp [ht])
  simp only [Lib.joinTail,List.map_cons,List.flatten_cons,List.length_append,List.length_cons,Nat.add_one_mul] at h2 ⊢
  omega
theorem join_len(xs:List Txt)(sep:Txt)(B:Nat)(h:∀t,t∈xs→t.length≤B):(Lib.join xs sep).length≤xs.length*(sep.length+B):=by
 cases xs with
 | nil=>simp [Lib.join_nil]
 | cons y r =>
  have h1:=h y (by simp)
  have h2:=tail_len r sep B fun t ht=>h t (by simp [ht])
  rw [Lib.join_cons,List.length_append,List.length_cons,Nat.add_one_mul]
  omega
theorem join_snoc(xs:List Txt)(y sep:Txt)(h:xs≠[]):Lib.join (xs++[y]) sep=Lib.join xs sep++sep++y:=by
 cases xs with
 | nil=>exact absurd rfl h
 | cons x r=>simp [Lib.join_cons,Lib.joinTail,List.append_assoc]
theorem joinF_eq(xs:List Txt)(sep:Txt)(B:Nat)(h:∀t,t∈xs→t.length≤B)(hl:xs.length*(sep.length+B)≤68719476736)(hn:xs.length≤68719476736):joinF xs sep=some (Lib.join xs sep,()):=by
 unfold joinF
 rw [if_pos ⟨hn,Nat.le_trans (join_len xs sep B h) hl⟩]
theorem numbers_eq(L:List Int)(hl:L.length≤100)(h:∀x,x∈L → -1000000000000<x∧x<1000000000000):impl_numbers (L,())=some (Lib.join (L.map decT) [32],()):=by
 show impl_numbers_L3 BIG L (L.length:Int) 0 []=_
 have:=lpI L.length (by omega) (fun m i=>impl_numbers_L3 m L (L.length:Int) i ((L.take i.toNat).map decT)) (fun _=>some (Lib.join (L.map decT) [32],())) (fun _=>True) (fun m _=>by
  simp only [impl_numbers_L3,impl_numbers_b3]
  rw [lt_f (Nat.le_refl _),Int.toNat_natCast,List.take_length]
  simp only [cond_false]
  show Option.bind (joinF (L.map decT) [32]) _=_
  rw [joinF_eq _ _ 20 (fun t ht=>by
   obtain ⟨x,hx,rfl⟩:=List.mem_map.1 ht
   exact(dec_all x (h x hx)).1) (by simp;omega) (by simp;omega)];rfl) (fun m i hi _ hw ih=>by
  have hx:L[i]∈L:=List.getElem_mem hi
  have ih:=ih trivial
  rw [Int.toNat_natCast_add_one,List.take_succ_eq_append_getElem hi,List.map_append] at ih
  simp only [impl_numbers_L3,impl_numbers_b3,hw]
  rw [lt_t hi,ix_nat hi,Int.toNat_natCast]
  simp only [cond_true,obs]
  rw [show gd (Ty.int .i64) L i=L[i] from gd_eq hi,(dec_all _ (h _ hx)).2.2]
  simp only [obs]
  rw [room_t (by simp;omega)]
  exact ih) L.length 0 BIG (by omega) (big_gt (by omega)) trivial
 simpa using this
def Tell2(v:tVol.D)(c:tCred.D)(x:tCall.D)(a:Option (tResult.D×tDoer.D×Unit))(b:Option (tResult.D×Unit)):Prop:=∃res:tResult.D,a=some (res,(v,c,x,()),())∧b=some (res,())∧res.2.1.length≤1000
theorem Tell2.is{v:tVol.D}{c:tCred.D}{x:tCall.D}{a:Option (tResult.D×tDoer.D×Unit)}{b:Option (tResult.D×Unit)}(k:Int)(t:Txt)(ha:a=some ((k,t,()),(v,c,x,()),()))(hb:b=some ((k,t,()),()))(hl:t.length≤1000:=by simp):Tell2 v c x a b:=⟨(k,t,()),ha,hb,hl⟩
theorem tlS5(m:Nat)(a b d e):(spec_l7Tell_L (m+1)).k5 a b d e=spec_l7Tell_b5 (spec_l7Tell_L m) a b d e:=rfl
theorem tlS6(m:Nat)(a b d e f):(spec_l7Tell_L (m+1)).k6 a b d e f=spec_l7Tell_b6 (spec_l7Tell_L m) a b d e f:=rfl
theorem tlS20(m:Nat)(a b d e f):(spec_l7Tell_L (m+1)).k20 a b d e f=spec_l7Tell_b20 (spec_l7Tell_L m) a b d e f:=rfl
theorem tlS35(m:Nat)(a b d e):(spec_l7Tell_L (m+1)).k35 a b d e=spec_l7Tell_b35 (spec_l7Tell_L m) a b d e:=rfl
theorem tlS39(m:Nat)(a b d e):(spec_l7Tell_L (m+1)).k39 a b d e=spec_l7Tell_b39 (spec_l7Tell_L m) a b d e:=rfl
def foOf(x:tCall.D):Bool:=kdC x != 11&&(kdC x != 14||nC x==0)
def badTell(x:tCall.D):Bool:=(kdC x==14&&(nC x != 0&&nC x != 1))||(kdC x==17 && !inR (nC x) 0 7)
def tz:tResult.D:=(0,([]:Txt),())
theorem tell5(m:Nat)(v:tVol.D)(c:tCred.D)(x:tCall.D)(z:tResult.D):(spec_l7Tell_L (m+1)).k5 v c x z=Option.bind (spec_l7There (v,c,pathC x,foOf x,())) fun r=>(spec_l7Tell_L m).k6 v c x z r.1:=by
 rw [tlS5]
 unfold spec_l7Tell_b5 foOf
 show cond (kdC x != 11) (cond (kdC x != 14) (Option.bind (spec_l7There (v,c,pathC x,true,())) _) (Option.bind (spec_l7There (v,c,pathC x,nC x==0,())) _)) (Option.bind (spec_l7There (v,c,pathC x,false,())) _)=_
 cases kdC x != 11
 ·rfl
 ·cases kdC x != 14 <;> rfl
theorem tell_s(K:spec_l7Tell_K)(v:tVol.D)(c:tCred.D)(x:tCall.D)(hk:kdC x≠18):spec_l7Tell_s K v c x=cond (badTell x) (some ((22,[],()),())) (K.k5 v c x tz):=by
 unfold spec_l7Tell_s badTell
 have e17:∀k:Option (tResult.D×Unit),Option.bind (spec_l1In (nC x,0,7,())) (fun v4=>cond (!v4.1) (some ((22,([]:Txt),()),())) k)=cond (!inR (nC x) 0 7) (some ((22,([]:Txt),()),())) k:=fun k=>by rw [l1In_eq];rfl
 show cond (kdC x==18) _ (cond (kdC x==14) (cond (nC x != 0) (cond (nC x != 1) _ (cond (kdC x==17) (Option.bind (spec_l1In (nC x,0,7,())) _) _)) (cond (kdC x==17) (Option.bind (spec_l1In (nC x,0,7,())) _) _)) (cond (kdC x==17) (Option.bind (spec_l1In (nC x,0,7,())) (fun v4=>cond (!v4.1) (some ((22,([]:Txt),()),())) (K.k5 v c x tz))) (K.k5 v c x tz)))=_
 rw [beq_f hk]
 simp only [cond_false]
 by_cases h14:kdC x=14
 ·rw [beq_t h14,beq_f (show kdC x≠17 by omega)]
  cases nC x != 0 <;> cases nC x != 1 <;> rfl
 ·rw [beq_f h14]
  simp only [cond_false,Bool.false_and,Bool.false_or]
  rw [e17]
  cases kdC x==17
  ·rfl
  ·cases inR (nC x) 0 7 <;> rfl
theorem tell_at(v:tVol.D)(c:tCred.D)(x:tCall.D)(hk:kdC x≠18)(hb:badTell x=false)(hwk:Wk v.2.1)(r:tSpot.D)(hs:spec_l7There (v,c,pathC x,foOf x,())=some (r,())) :
  ∃q,4611686018427387904<q∧spec_l7Tell (v,c,x,())=(spec_l7Tell_L (q+1)).k6 v c x tz r:=by
 obtain ⟨q,hq,hq2⟩:=big_pred 2
 refine⟨q,hq2,?_⟩
 show spec_l7Tell_s (spec_l7Tell_L BIG) v c x=_
 rw [tell_s _ _ _ _ hk,hb,hq]
 simp only [cond_false]
 rw [tell5,hs];rfl
theorem tell_no(v:tVol.D)(c:tCred.D)(x:tCall.D)(q:Nat)(r:tSpot.D)(h:codeS r≠0):(spec_l7Tell_L (q+1)).k6 v c x tz r=some ((codeS r,[],()),()):=by
 rw [tlS6]
 unfold spec_l7Tell_b6
 show cond (codeS r != 0) _ _=_
 rw [bne_t h];rfl
theorem readlink_both(v:tVol.D)(c:tCred.D)(x:tCall.D)(hv:VolR v)(hc:credOk c=true)(hx:CallR x)(hk:kdC x=11):Tell2 v c x (impl_doer_readlink ((v,c,x,()),())) (spec_l7Tell (v,c,x,())):=by
 have hwk:=hv.wk'
 have hp:=hx.path
 obtain ⟨r,hr,hsS,hI1,hI2⟩:=there_eq v c x false hwk hc (by omega)
 obtain ⟨q,hq,hT⟩:=tell_at v c x (by omega) (by unfold badTell;rw [beq_f (show kdC x≠14 by omega),beq_f (show kdC x≠17 by omega)];rfl) hwk r (by
  rw [show foOf x=false by unfold foOf;rw [bne_f hk];rfl];exact hsS)
 show Tell2 v c x (impl_doer_readlink_s (v,c,x,())) _
 rw [hT]
 unfold impl_doer_readlink_s
 by_cases hcode:codeS r=0
 case neg =>
  rw [hI1 hcode,tell_no v c x q r hcode]
  simp only [obs]
  rw [bne_t hcode]
  exact Tell2.is (codeS r) [] rfl rfl
 obtain ⟨i,hi,hI⟩:=hI2 hcode
 have hil:=iat_lt hi
 rw [hI,tlS6]
 unfold spec_l7Tell_b6
 show Tell2 v c x _ (cond (codeS r != 0) _ (Option.bind (spec_l7Node (v,idS r,())) _))
 rw [bne_f hcode,spec_Node_eq v _ hwk.len hi]
 simp only [cond_false,obs]
 rw [show((0:Int) != 0)=false from rfl,ix_nat hil.1]
 simp only [cond_false,obs]
 show Tell2 v c x (cond (kindOf (gd tInode v.2.1 i) != 3) _ _) (cond (kdC x==4) _ (cond (kdC x==11) (cond (kindOf (gd tInode v.2.1 i) != 3) _ _) _))
 rw [beq_f (show kdC x≠4 by omega),beq_t hk]
 simp only [cond_false,cond_true]
 cases kindOf (gd tInode v.2.1 i) != 3 with
 | true=>exact Tell2.is 22 [] rfl rfl
 | false=>exact Tell2.is 0 (dataOf (gd tInode v.2.1 i)) rfl rfl (by have:=hv.dat hil.1;omega)
theorem access_both(v:tVol.D)(c:tCred.D)(x:tCall.D)(hv:VolR v)(hc:credOk c=true)(hx:CallR x)(hk:kdC x=17) :
  Tell2 v c x (Option.bind (impl_doer_access ((v,c,x,()),())) fun v6=>Option.bind (impl_code (v6.1,())) fun v7=>some (v7.1,v6.2.1,())) (spec_l7Tell (v,c,x,())):=by
 have hwk:=hv.wk'
 have hp:=hx.path
 show Tell2 v c x (Option.bind (impl_doer_access_s (v,c,x,())) _) _
 unfold impl_doer_access_s
 show Tell2 v c x (Option.bind (Option.bind (impl_within (nC x,0,7,())) _) _) _
 rw [within_eq]
 simp only [obs]
 cases hN:inR (nC x) 0 7 with
 | false =>
  have hS:spec_l7Tell (v,c,x,())=some ((22,[],()),()):=by
   show spec_l7Tell_s (spec_l7Tell_L BIG) v c x=_
   rw [tell_s _ _ _ _ (by omega),show badTell x=true by unfold badTell;rw [beq_t hk,hN];simp];rfl
  rw [hS]
  exact Tell2.is 22 [] rfl rfl
 | true =>
 obtain ⟨r,hr,hsS,hI1,hI2⟩:=there_eq v c x true hwk hc (by omega)
 obtain ⟨q,hq,hT⟩:=tell_at v c x (by omega) (by unfold badTell;rw [beq_f (show kdC x≠14 by omega),hN];simp) hwk r (by
  rw [show foOf x=true by unfold foOf;rw [bne_t (show kdC x≠11 by omega),bne_t (show kdC x≠14 by omega)];rfl];exact hsS)
 rw [hT]
 simp only [Bool.not_true,cond_false]
 by_cases hcode:codeS r=0
 case neg =>
  rw [hI1 hcode,tell_no v c x q r hcode]
  simp only [obs]
  rw [bne_t hcode]
  exact Tell2.is (codeS r) [] rfl rfl
 obtain ⟨i,hi,hI⟩:=hI2 hcode
 have hil:=iat_lt hi
 rw [hI,tlS6]
 unfold spec_l7Tell_b6
 show Tell2 v c x _ (cond (codeS r != 0) _ (Option.bind (spec_l7Node (v,idS r,())) _))
 rw [bne_f hcode,spec_Node_eq v _ hwk.len hi]
 simp only [cond_false,obs]
 rw [show((0:Int) != 0)=false from rfl,ix_nat hil.1]
 simp only [cond_false,obs]
 show Tell2 v c x (Option.bind (Option.bind (impl_May (c,gd tInode v.2.1 i,nC x,())) _) _) (cond (kdC x==4) _ (cond (kdC x==11) _ (cond (kdC x==13) _ (cond (kdC x==14) _ (cond (kdC x==17) (Option.bind (spec_May (c,gd tInode v.2.1 i,nC x,())) _) _)))))
 rw [beq_f (show kdC x≠4 by omega),beq_f (show kdC x≠11 by omega),beq_f (show kdC x≠13 by omega),beq_f (show kdC x≠14 by omega),beq_t hk]
 simp only [cond_false,cond_true]
 rw [impl_May_eq c _ _ hc,spec_May_eq c _ _ hc]
 simp only [obs]
 cases may c (gd tInode v.2.1 i) (nC x) with
 | false=>exact Tell2.is 13 [] rfl rfl
 | true=>exact Tell2.is 0 [] rfl rfl
theorem num_len(L:List Int)(hl:L.length≤40)(h:∀x,x∈L → -1000000000000<x∧x<1000000000000):(Lib.join (L.map decT) [32]).length≤1000:=by
 refine Nat.le_trans (join_len _ _ 20 fun t ht=>?_) ?_
 ·obtain ⟨x,hx,rfl⟩:=List.mem_map.1 ht
  exact(dec_all x (h x hx)).1
 ·rw [List.length_map,List.length_singleton];omega
theorem list_len(N:List tDirent.D)(hN:N.length≤12)(h8:∀d,d∈N→d.1.length≤8):(Lib.join (N.map fun d=>d.1) [47]).length≤1000:=by
 refine Nat.le_trans (join_len _ _ 8 fun t ht=>?_) ?_
 ·obtain ⟨d,hd,rfl⟩:=List.mem_map.1 ht
  exact h8 d hd
 ·rw [List.length_map,List.length_singleton];omega
theorem statfs_both(v:tVol.D)(c:tCred.D)(x:tCall.D)(hv:VolR v)(hk:kdC x=18) :
  Tell2 v c x (Option.bind (impl_Vol_total (v,())) fun v8=>Option.bind (impl_numbers ([(v.2.1.length:Int),v8.1],())) fun v9=>some ((0,v9.1,()),(v,c,x,()),())) (spec_l7Tell (v,c,x,())):=by
 have hl:=hv.len
 have hb:=hv.bytes
 show Tell2 v c x _ (spec_l7Tell_s (spec_l7Tell_L BIG) v c x)
 unfold spec_l7Tell_s
 show Tell2 v c x _ (cond (kdC x==18) (Option.bind (spec_Dec ((v.2.1.length:Int),())) _) _)
 have d1:=dec_all (v.2.1.length:Int) (by omega)
 have d2:=dec_all (bytesOf v.2.1:Int) (by omega)
 rw [beq_t hk,impl_total_eq v (by omega) (by omega),d1.2.1]
 simp only [cond_true,obs]
 rw [room_t (by simp;omega),spec_Bytes_eq v (by omega) (by omega)]
 simp only [cond_true,obs]
 rw [d2.2.1]
 simp only [obs]
 rw [room_t (by simp;omega),numbers_eq _ (by simp) (by intro y hy;simp at hy;omega)]
 refine Tell2.is 0 _ rfl ?_ (num_len _ (by simp) (by intro y hy;simp at hy;omega))
 simp [Lib.join_cons,Lib.joinTail,List.append_assoc]
theorem stat_both(v:tVol.D)(c:tCred.D)(x:tCall.D)(hv:VolR v)(hc:credOk c=true)(hx:CallR x)(hk:kdC x=14):Tell2 v c x (impl_doer_stat ((v,c,x,()),())) (spec_l7Tell (v,c,x,())):=by
 have hwk:=hv.wk'
 have hp:=hx.path
 show Tell2 v c x (impl_doer_stat_s (v,c,x,())) _
 unfold impl_doer_stat_s
 show Tell2 v c x (Option.bind (impl_within (nC x,0,1,())) fun v1=>cond (!v1.1) _ (Option.bind (impl_doer_there ((v,c,x,()),nC x==0,())) _)) _
 rw [within_eq]
 simp only [obs]
 cases hN:inR (nC x) 0 1 with
 | false =>
  have hS:spec_l7Tell (v,c,x,())=some ((22,[],()),()):=by
   show spec_l7Tell_s (spec_l7Tell_L BIG) v c x=_
   have hn:¬(0≤nC x∧nC x≤1):=fun h=>by rw [inR_iff.2 h] at hN;cases hN
   rw [tell_s _ _ _ _ (by omega),show badTell x=true by unfold badTell;rw [beq_t hk,bne_t (show nC x≠0 by omega),bne_t (show nC x≠1 by omega)];rfl];rfl
  rw [hS]
  exact Tell2.is 22 [] rfl rfl
 | true =>
 have hNr:=inR_iff.1 hN
 obtain ⟨r,hr,hsS,hI1,hI2⟩:=there_eq v c x (nC x==0) hwk hc (by omega)
 obtain ⟨q,hq,hT⟩:=tell_at v c x (by omega) (by
  unfold badTell
  rw [beq_f (show kdC x≠17 by omega)]
  rcases (show nC x=0∨nC x=1 by omega) with h | h
  ·rw [bne_f h];simp
  ·rw [bne_f h];simp) hwk r (by
  rw [show foOf x=(nC x==0) by unfold foOf;rw [bne_t (show kdC x≠11 by omega),bne_f hk];rfl];exact hsS)
 rw [hT]
 simp only [Bool.not_true,cond_false]
 by_cases hcode:codeS r=0
 case neg =>
  rw [hI1 hcode,tell_no v c x q r hcode]
  simp only [obs]
  rw [bne_t hcode]
  exact Tell2.is (codeS r) [] rfl rfl
 obtain ⟨i,hi,hI⟩:=hI2 hcode
 have hil:=iat_lt hi
 rw [hI,tlS6]
 unfold spec_l7Tell_b6
 show Tell2 v c x _ (cond (codeS r != 0) _ (Option.bind (spec_l7Node (v,idS r,())) _))
 rw [bne_f hcode,spec_Node_eq v _ hwk.len hi]
 simp only [cond_false,obs]
 rw [show((0:Int) != 0)=false from rfl,ix_nat hil.1]
 simp only [cond_false,obs]
 have hno:=hv.ino i hil.1
 have hdat:=hv.dat hil.1
 have hnl:(nmsOf (gd tInode v.2.1 i)).length≤1048576:=Nat.le_trans (nms_get hil.1) hwk.nms
 have hlk:0≤linksN v.2.1 (gd tInode v.2.1 i)∧linksN v.2.1 (gd tInode v.2.1 i)<100000000:=by
  unfold linksN
  have h1:=named_le v.2.1 (gd tInode v.2.1 i).1
  have h2:dirsN v.2.1 (nmsOf (gd tInode v.2.1 i))≤(nmsOf (gd tInode v.2.1 i)).length:=List.length_filter_le _ _
  have h3:=hwk.nms
  cases kindOf (gd tInode v.2.1 i) != 2
  ·simp only [cond_false];omega
  ·simp only [cond_true];omega
 rw [impl_links_eq v _ hwk.len hwk.nms hnl]
 simp only [obs]
 show Tell2 v c x (Option.bind (impl_numbers ([kindOf (gd tInode v.2.1 i),modeOf (gd tInode v.2.1 i),uidOf (gd tInode v.2.1 i),gidOf (gd tInode v.2.1 i),linksN v.2.1 (gd tInode v.2.1 i),((dataOf (gd tInode v.2.1 i)).length:Int)],())) _)
  (cond (kdC x==4) _ (cond (kdC x==11) _ (cond (kdC x==13) _ (cond (kdC x==14) (Option.bind (spec_Dec (kindOf (gd tInode v.2.1 i),())) fun v4=>cond _ (Option.bind (spec_Dec (modeOf (gd tInode v.2.1 i),())) fun v5=>cond _ (cond _ (Option.bind (spec_Dec (uidOf (gd tInode v.2.1 i),())) fun v6=>cond _ (cond _ (Option.bind (spec_Dec (gidOf (gd tInode v.2.1 i),())) fun v7=>cond _ (cond _ (Option.bind (spec_l4Links (v,idOf (gd tInode v.2.1 i),())) _) _) _) _) _) _) _) _) _))))
 have hkd:1≤kindOf (gd tInode v.2.1 i)∧kindOf (gd tInode v.2.1 i)≤3:=by rcases hno.kind with h | h | h <;> omega
 have hm:=hno.mode
 have hu:=hno.uid
 have hg:=hno.gid
 have d1:=dec_all (kindOf (gd tInode v.2.1 i)) (by omega)
 have d2:=dec_all (modeOf (gd tInode v.2.1 i)) (by omega)
 have d3:=dec_all (uidOf (gd tInode v.2.1 i)) (by omega)
 have d4:=dec_all (gidOf (gd tInode v.2.1 i)) (by omega)
 have d5:=dec_all (linksN v.2.1 (gd tInode v.2.1 i)) (by omega)
 have d6:=dec_all ((dataOf (gd tInode v.2.1 i)).length:Int) (by omega)
 rw [beq_f (show kdC x≠4 by omega),beq_f (show kdC x≠11 by omega),beq_f (show kdC x≠13 by omega),beq_t hk]
 simp only [cond_false,cond_true]
 rw [numbers_eq _ (by simp) (by intro y hy;simp at hy;omega),d1.2.1]
 simp only [obs]
 rw [room_t (by simp;omega),d2.2.1]
 simp only [cond_true,obs]
 rw [room_t (by simp;omega),room_t (by simp;omega),d3.2.1]
 simp only [cond_true,obs]
 rw [room_t (by simp;omega),room_t (by simp;omega),d4.2.1]
 simp only [cond_true,obs]
 rw [room_t (by simp;omega),room_t (by simp;omega),spec_Links_eq v (idOf (gd tInode v.2.1 i)) hwk.len hwk.nms (hwk.dist i hil.1)]
 simp only [cond_true,obs]
 rw [d5.2.1]
 simp only [cond_true,obs]
 rw [room_t (by simp;omega),room_t (by simp;omega)]
 simp only [cond_true]
 show Tell2 v c x _ (Option.bind (spec_Dec (((dataOf (gd tInode v.2.1 i)).length:Int),())) _)
 rw [d6.2.1]
 simp only [cond_true,obs]
 rw [room_t (by simp;omega)]
 refine Tell2.is 0 _ rfl ?_ (num_len _ (by simp) (by intro y hy;simp at hy;omega))
 simp [Lib.join_cons,Lib.joinTail,List.append_assoc]
theorem name_len8{s:Txt}(h:nameOk s=true):s.length≤8:=by
 unfold nameOk at h
 simp only [Bool.and_eq_true] at h
 have:=inR_iff.1 h.2.1
 omega
theorem kdir{v:tVol.D}(hv:VolR v){i:Nat}(hil:i<v.2.1.length)(h:kindOf (gd tInode v.2.1 i)=2):(nmsOf (gd tInode v.2.1 i)).length≤12∧∀d,d∈nmsOf (gd tInode v.2.1 i)→d.1.length≤8:=by
 have hno:=hv.ino i hil
 exact⟨(hno.dir h).2.2.2,fun d hd=>name_len8 (hno.names d hd).1⟩
theorem useN_le(l:List Ino)(F:Flags):useN l F≤l.length:=by
 unfold useN inL
 refine Nat.le_trans (List.length_filter_le _ _) ?_
 rw [List.length_range];exact Nat.le_refl _
theorem sum_leB{α : Type}(f : α → Nat)(B:Nat):∀L:List α,(∀i,i∈L→f i≤B)→(L.map f).sum≤L.length*B
 | [],_=>by simp
 | y :: r,h=>by
  have h1:=h y (by simp)
  have h2:=sum_leB f B r fun t ht=>h t (by simp [ht])
  rw [List.map_cons,List.sum_cons,List.length_cons,Nat.add_one_mul]
  omega
theorem useB_le{v:tVol.D}(hv:VolR v)(F:Flags):useB v.2.1 F≤v.2.1.length*64:=by
 unfold useB
 refine Nat.le_trans (sum_leB _ 64 _ fun i hi=>?_) (Nat.mul_le_mul_right _ (useN_le v.2.1 F))
 unfold inL at hi
 exact hv.dat (List.mem_range.1 (List.mem_filter.1 hi).1)
theorem list_impl(N:List tDirent.D)(hN:N.length≤12)(h8:∀d,d∈N→d.1.length≤8)(y:tDoer.D)(z:tResult.D) :
  impl_doer_list_L13 BIG N (N.length:Int) 0 z [] y=some ((0,Lib.join (N.map fun d=>d.1) [47],()),y,()):=by
 have:=lpI N.length (by omega) (fun m i=>impl_doer_list_L13 m N (N.length:Int) i z ((N.take i.toNat).map fun d=>d.1) y) (fun _=>some ((0,Lib.join (N.map fun d=>d.1) [47],()),y,())) (fun _=>True) (fun m _=>by
  simp only [impl_doer_list_L13,impl_doer_list_b13]
  rw [lt_f (Nat.le_refl _),Int.toNat_natCast,List.take_length]
  simp only [cond_false]
  show Option.bind (joinF (N.map fun d=>d.1) [47]) _=_
  rw [joinF_eq _ _ 8 (fun t ht=>by
   obtain ⟨d,hd,rfl⟩:=List.mem_map.1 ht
   exact h8 d hd) (by simp;omega) (by simp;omega)];rfl) (fun m i hi _ hw ih=>by
  have ih:=ih trivial
  rw [Int.toNat_natCast_add_one,List.take_succ_eq_append_getElem hi,List.map_append] at ih
  simp only [impl_doer_list_L13,impl_doer_list_b13,hw]
  rw [lt_t hi,ix_nat hi,Int.toNat_natCast]
  simp only [cond_true,obs]
  rw [show gd tDirent N i=N[i] from gd_eq hi]
  rw [room_t (by simp;omega)]
  exact ih) N.length 0 BIG (by omega) (big_gt (by omega)) trivial
 simpa using this
theorem list_spec(n:Ino)(hN:(nmsOf n).length≤12)(h8:∀d,d∈nmsOf n→d.1.length≤8)(z:tResult.D)(q:Nat)(hq:1000<q) :
  (spec_l7Tell_L q).k35 [] 0 z n=some ((0,Lib.join ((nmsOf n).map fun d=>d.1) [47],()),()):=by
 have hb:∀i,(Lib.join (((nmsOf n).take i).map fun d=>d.1) [47]).length≤108:=by
  intro i
  refine Nat.le_trans (join_len _ _ 8 fun t ht=>?_) ?_
  ·obtain ⟨d,hd,rfl⟩:=List.mem_map.1 ht
   exact h8 d (List.mem_of_mem_take hd)
  ·simp;omega
 have key:=stepsEv 2 (fun m i=>(spec_l7Tell_L m).k35 (Lib.join (((nmsOf n).take i).map fun d=>d.1) [47]) (i:Int) z n) (some ((0,Lib.join ((nmsOf n).map fun d=>d.1) [47],()),())) (nmsOf n).length 1 (fun i hi B y he=>by
  have h8i:((nmsOf n)[i]).1.length≤8:=h8 _ (List.getElem_mem hi)
  have hbi:=hb i
  refine he.jump 2 fun m=>?_
  rw [tlS35]
  unfold spec_l7Tell_b35
  show cond (decide ((i:Int)<((nmsOf n).length:Int))) _ _=_
  rw [lt_t hi]
  simp only [cond_true]
  have h39:∀t:Txt,t.length≤200→(spec_l7Tell_L (m+1)).k39 t (i:Int) z n=(spec_l7Tell_L m).k35 (t++((nmsOf n)[i]).1) ((i+1:Nat):Int) z n:=fun t ht=>by
   rw [tlS39]
   unfold spec_l7Tell_b39
   show Option.bind (ix (nmsOf n).length (i:Int)) (fun v1=>cond (room (t.length +((gd tDirent (nmsOf n) v1).1).length)) ((spec_l7Tell_L m).k35 (t++((gd tDirent (nmsOf n) v1).1)) (w64 ((i:Int)+1)) z n) none)=_
   rw [ix_nat hi]
   simp only [obs]
   rw [show gd tDirent (nmsOf n) i=(nmsOf n)[i] from gd_eq hi,room_t (by omega),inc_i i (by omega)];rfl
  have e1:((nmsOf n).take (i+1)).map (fun d=>d.1)=((nmsOf n).take i).map (fun d=>d.1)++[((nmsOf n)[i]).1]:=by
   rw [List.take_succ_eq_append_getElem hi,List.map_append];rfl
  rw [e1]
  by_cases h0:i=0
  ·subst h0
   rw [show decide (((0:Nat):Int)>0)=false from rfl]
   simp only [cond_false]
   rw [h39 _ (by omega)]
   simp [Lib.join_nil,Lib.join_one]
  ·rw [decide_eq_true (show(i:Int)>0 by omega),room_t (by rw [List.length_singleton];omega)]
   simp only [cond_true]
   rw [h39 _ (by rw [List.length_append,List.length_singleton];omega),join_snoc]
   intro h
   have:=congrArg List.length h
   simp only [List.length_map,List.length_take,List.length_nil] at this
   omega) (Ev.done fun m=>by
  rw [tlS35]
  unfold spec_l7Tell_b35
  show cond (decide (((nmsOf n).length:Int)<((nmsOf n).length:Int))) _ _=_
  rw [lt_f (Nat.le_refl _),List.take_length];rfl)
 have:=key q (by omega)
 simpa [Lib.join_nil] using this
theorem list_both(v:tVol.D)(c:tCred.D)(x:tCall.D)(hv:VolR v)(hc:credOk c=true)(hx:CallR x)(hk:kdC x=13∨kdC x=20):Tell2 v c x (impl_doer_list ((v,c,x,()),())) (spec_l7Tell (v,c,x,())):=by
 have hwk:=hv.wk'
 have hp:=hx.path
 obtain ⟨r,hr,hsS,hI1,hI2⟩:=there_eq v c x true hwk hc (by omega)
 obtain ⟨q,hq,hT⟩:=tell_at v c x (by omega) (by unfold badTell;rw [beq_f (show kdC x≠14 by omega),beq_f (show kdC x≠17 by omega)];rfl) hwk r (by
  rw [show foOf x=true by unfold foOf;rw [bne_t (show kdC x≠11 by omega),bne_t (show kdC x≠14 by omega)];rfl];exact hsS)
 show Tell2 v c x (impl_doer_list_s (impl_doer_list_L13 BIG) (v,c,x,())) _
 rw [hT]
 unfold impl_doer_list_s
 by_cases hcode:codeS r=0
 case neg =>
  rw [hI1 hcode,tell_no v c x q r hcode]
  simp only [obs]
  rw [bne_t hcode]
  exact Tell2.is (codeS r) [] rfl rfl
 obtain ⟨i,hi,hI⟩:=hI2 hcode
 have hil:=iat_lt hi
 rw [hI,tlS6]
 unfold spec_l7Tell_b6
 show Tell2 v c x _ (cond (codeS r != 0) _ (Option.bind (spec_l7Node (v,idS r,())) _))
 rw [bne_f hcode,spec_Node_eq v _ hwk.len hi]
 simp only [cond_false,obs]
 rw [show((0:Int) != 0)=false from rfl,ix_nat hil.1]
 simp only [cond_false,obs]
 show Tell2 v c x (cond (kindOf (gd tInode v.2.1 i) != 2) _ (Option.bind (impl_May (c,gd tInode v.2.1 i,4,())) fun v6=>cond (!v6.1) _ (cond (kdC x==20) (Option.bind (impl_Vol_usage (v,idOf (gd tInode v.2.1 i),())) fun v9=>Option.bind (impl_numbers ([maxB (gd tInode v.2.1 i),maxI (gd tInode v.2.1 i),v9.1,v9.2.1],())) _) (impl_doer_list_L13 BIG (nmsOf (gd tInode v.2.1 i)) ((nmsOf (gd tInode v.2.1 i)).length:Int) 0 (0,([]:Txt),()) [] (v,c,x,())))))
  (cond (kdC x==4) _ (cond (kdC x==11) _ (cond (kdC x==13) (cond (!(kindOf (gd tInode v.2.1 i)==2)) _ (Option.bind (spec_May (c,gd tInode v.2.1 i,4,())) fun v3=>cond (!v3.1) _ ((spec_l7Tell_L q).k35 [] 0 tz (gd tInode v.2.1 i)))) (cond (kdC x==14) _ (cond (kdC x==17) _ (cond (!(kindOf (gd tInode v.2.1 i)==2)) _ (Option.bind (spec_May (c,gd tInode v.2.1 i,4,())) fun v12=>cond (!v12.1) _ (Option.bind (spec_l4Usage (v,idOf (gd tInode v.2.1 i),())) fun v13=>Option.bind (spec_Dec (maxB (gd tInode v.2.1 i),())) fun v14=>cond _ (Option.bind (spec_Dec (maxI (gd tInode v.2.1 i),())) _) _))))))))
 rw [beq_f (show kdC x≠4 by omega),beq_f (show kdC x≠11 by omega),beq_f (show kdC x≠14 by omega),beq_f (show kdC x≠17 by omega)]
 simp only [cond_false]
 by_cases hd:kindOf (gd tInode v.2.1 i)=2
 case neg =>
  rw [bne_t hd,beq_f hd]
  refine Tell2.is 20 [] rfl ?_
  cases kdC x==13 <;> rfl
 rw [bne_f hd,beq_t hd,spec_May_eq c _ 4 hc,impl_May_eq c _ 4 hc]
 simp only [cond_false,obs,Bool.not_true]
 cases may c (gd tInode v.2.1 i) 4 with
 | false =>
  refine Tell2.is 13 [] rfl ?_
  cases kdC x==13 <;> rfl
 | true =>
 simp only [cond_false,Bool.not_true]
 have hno:=hv.ino i hil.1
 have hkd:=kdir hv hil.1 hd
 rcases hk with hk | hk
 ·rw [beq_t hk,beq_f (show kdC x≠20 by omega)]
  simp only [cond_false,cond_true]
  rw [list_impl _ hkd.1 hkd.2,list_spec _ hkd.1 hkd.2 _ q (by omega)]
  exact Tell2.is 0 _ rfl rfl (list_len _ hkd.1 hkd.2)
 ·rw [beq_t hk,beq_f (show kdC x≠13 by omega)]
  simp only [cond_false,cond_true]
  have hvl:=hv.len
  have hbs:=hv.bytes
  obtain ⟨out,hf,hu⟩:=impl_usage_eq v (idOf (gd tInode v.2.1 i)) hwk.len hwk.nms (by omega)
  obtain ⟨u1,u2⟩:=found_use hv.dist hv.exs hf
  rw [u1,u2] at hu
  have b2:useN v.2.1 (belowF v.2.1 (idOf (gd tInode v.2.1 i)))≤v.2.1.length:=useN_le _ _
  have b1:useB v.2.1 (belowF v.2.1 (idOf (gd tInode v.2.1 i)))≤v.2.1.length*64:=useB_le hv _
  have hdr:=hno.dir hd
  have d1:=dec_all (maxB (gd tInode v.2.1 i)) (by omega)
  have d2:=dec_all (maxI (gd tInode v.2.1 i)) (by omega)
  have d3:=dec_all (useB v.2.1 (belowF v.2.1 (idOf (gd tInode v.2.1 i))):Int) (by omega)
  have d4:=dec_all (useN v.2.1 (belowF v.2.1 (idOf (gd tInode v.2.1 i))):Int) (by omega)
  rw [hu,spec_Usage_eq v _ hwk.len hwk.nms (by omega)]
  simp only [obs]
  rw [numbers_eq _ (by simp) (by intro y hy;simp at hy;omega),d1.2.1]
  simp only [obs]
  rw [room_t (by simp;omega),d2.2.1]
  simp only [cond_true,obs]
  rw [room_t (by simp;omega),room_t (by simp;omega),d3.2.1]
  simp only [cond_true,obs]
  rw [room_t (by simp;omega),room_t (by simp;omega),d4.2.1]
  simp only [cond_true,obs]
  rw [room_t (by simp;omega)]
  refine Tell2.is 0 _ rfl ?_ (num_len _ (by simp) (by intro y hy;simp at hy;omega))
  simp [Lib.join_cons,Lib.joinTail,List.append_assoc]
theorem read_spec(n:Ino)(x:tCall.D)(a:Nat)(ha:(a:Int)=nC x)(ha2:a≤1000000)(b:Nat)(hb:(b:Int)=mC x)(hb2:b≤1000000)(hl:(dataOf n).length≤64)(z:tResult.D)(q:Nat)(hq:1000<q) :
  (spec_l7Tell_L q).k20 (a:Int) x z n []=some ((0,((dataOf n).drop a).take b,()),()):=by
 have key:∀(k m j:Nat),k<m→min (dataOf n).length (a+b)-j≤k→a≤j→j≤a+64∧j≤a+b→(spec_l7Tell_L m).k20 (j:Int) x z n (strBytes (((dataOf n).drop a).take (j-a)))=some ((0,((dataOf n).drop a).take b,()),()):=by
  intro k
  induction k with
  | zero =>
   intro m j hm h1 h2 h3
   obtain ⟨m,rfl⟩:∃p,m=p+1:=⟨m-1,by omega⟩
   rw [tlS20]
   unfold spec_l7Tell_b20
   show cond (decide ((j:Int)<((dataOf n).length:Int))) (cond (decide ((j:Int)<w64 (nC x+mC x))) _ _) _=_
   rw [← ha,← hb,w64_sm (by omega) (by omega)]
   have e:∀w,w=some ((0,bytesStr (strBytes (((dataOf n).drop a).take (j-a))),()),())→w=some (((0:Int),((dataOf n).drop a).take b,()),()):=fun w hw=>by
    rw [hw,str_bytes]
    have:((dataOf n).drop a).take (j-a)=((dataOf n).drop a).take b:=by
     rw [List.take_eq_take_iff,List.length_drop];omega
    rw [this]
   by_cases hj:j<(dataOf n).length
   ·rw [lt_t hj,decide_eq_false (show ¬(j:Int)<(a:Int) +(b:Int) by omega)]
    exact e _ rfl
   ·rw [lt_f (by omega)]
    exact e _ rfl
  | succ k ih =>
   intro m j hm h1 h2 h3
   by_cases hdone:min (dataOf n).length (a+b)-j≤k
   ·exact ih m j (by omega) hdone h2 h3
   obtain ⟨m,rfl⟩:∃p,m=p+1:=⟨m-1,by omega⟩
   rw [tlS20]
   unfold spec_l7Tell_b20
   show cond (decide ((j:Int)<((dataOf n).length:Int))) (cond (decide ((j:Int)<w64 (nC x+mC x))) (Option.bind (ix (dataOf n).length (j:Int)) fun v1=>cond (room ((strBytes (((dataOf n).drop a).take (j-a))).length+[(((dataOf n).getD v1 0).toNat:Int)].length)) ((spec_l7Tell_L m).k20 (w64 ((j:Int)+1)) x z n (strBytes (((dataOf n).drop a).take (j-a))++[(((dataOf n).getD v1 0).toNat:Int)])) none) _) _=_
   have hj:j<(dataOf n).length:=by omega
   rw [← ha,← hb,w64_sm (a:=(a:Int) +(b:Int)) (by omega) (by omega),lt_t hj,decide_eq_true (show(j:Int)<(a:Int) +(b:Int) by omega),ix_nat hj,inc_i j (by omega)]
   simp only [cond_true,obs]
   rw [room_t (by rw [str_len,List.length_take,List.length_drop,List.length_singleton];omega)]
   simp only [cond_true]
   have:=ih m (j+1) (by omega) (by omega) (by omega) (by omega)
   rw [show strBytes (((dataOf n).drop a).take (j-a))++[(((dataOf n).getD j 0).toNat:Int)]=strBytes (((dataOf n).drop a).take (j+1-a)) by
    rw [show j+1-a=(j-a)+1 by omega,List.take_succ_eq_append_getElem (by rw [List.length_drop];omega)]
    unfold strBytes
    rw [List.map_append,List.getElem_drop,List.getD_eq_getElem?_getD,List.getElem?_eq_getElem hj]
    simp [show a +(j-a)=j by omega]]
   exact this
 have:=key 64 q a (by omega) (by omega) (by omega) (by omega)
 rw [Nat.sub_self] at this
 exact this
theorem read_both(v:tVol.D)(c:tCred.D)(x:tCall.D)(hv:VolR v)(hc:credOk c=true)(hx:CallR x)(hk:kdC x=4):Tell2 v c x (impl_doer_read ((v,c,x,()),())) (spec_l7Tell (v,c,x,())):=by
 have hwk:=hv.wk'
 have hp:=hx.path
 obtain ⟨r,hr,hsS,hI1,hI2⟩:=file_eq v c x 4 hwk hc (by omega)
 obtain ⟨q,hq,hT⟩:=tell_at v c x (by omega) (by unfold badTell;rw [beq_f (show kdC x≠14 by omega),beq_f (show kdC x≠17 by omega)];rfl) hwk r (by
  rw [show foOf x=true by unfold foOf;rw [bne_t (show kdC x≠11 by omega),bne_t (show kdC x≠14 by omega)];rfl];exact hsS)
 show Tell2 v c x (impl_doer_read_s (v,c,x,())) _
 rw [hT]
 unfold impl_doer_read_s
 by_cases hcode:codeS r=0
 case neg =>
  rw [hI1 hcode,tell_no v c x q r hcode]
  simp only [obs]
  rw [bne_t hcode]
  exact Tell2.is (codeS r) [] rfl rfl
 obtain ⟨i,hi,hI⟩:=hI2 hcode
 have hil:=iat_lt hi
 rw [hI,tlS6]
 unfold spec_l7Tell_b6
 show Tell2 v c x _ (cond (codeS r != 0) _ (Option.bind (spec_l7Node (v,idS r,())) _))
 rw [bne_f hcode,spec_Node_eq v _ hwk.len hi]
 simp only [cond_false,obs]
 show Tell2 v c x _ (cond (kdC x==4) (cond (kindOf (gd tInode v.2.1 i)==2) _ (Option.bind (spec_May (c,gd tInode v.2.1 i,4,())) fun v2=>cond (!v2.1) _ (cond (decide (nC x<0)) _ (cond (decide (mC x<0)) _ ((spec_l7Tell_L q).k20 (nC x) x tz (gd tInode v.2.1 i) []))))) _)
 rw [beq_t hk,spec_May_eq c _ 4 hc]
 simp only [cond_true,obs]
 cases kindOf (gd tInode v.2.1 i)==2 with
 | true=>exact Tell2.is 21 [] rfl rfl
 | false =>
 cases may c (gd tInode v.2.1 i) 4 with
 | false=>exact Tell2.is 13 [] rfl rfl
 | true =>
 simp only [cond_false,Bool.not_true,obs]
 rw [show((0:Int) != 0)=false from rfl]
 simp only [cond_false]
 show Tell2 v c x (cond (decide (nC x<0)) _ (cond (decide (mC x<0)) _ _)) _
 by_cases hn:nC x<0
 ·rw [decide_eq_true hn]
  exact Tell2.is 22 [] rfl rfl
 by_cases hm:mC x<0
 ·rw [decide_eq_false hn,decide_eq_true hm]
  exact Tell2.is 22 [] rfl rfl
 rw [decide_eq_false hn,decide_eq_false hm]
 simp only [cond_false]
 have hdat:=hv.dat hil.1
 have hnr:=hx.n
 have hmr:=hx.m
 obtain ⟨a,ha⟩:∃a:Nat,(a:Int)=nC x:=⟨(nC x).toNat,by omega⟩
 obtain ⟨b,hb⟩:∃b:Nat,(b:Int)=mC x:=⟨(mC x).toNat,by omega⟩
 rw [← ha,read_spec _ x a ha (by omega) b hb (by omega) hdat tz q (by omega),ix_nat hil.1]
 simp only [obs]
 show Tell2 v c x (Option.bind (rng (dataOf (gd tInode v.2.1 i)).length (mnI (nC x) ((dataOf (gd tInode v.2.1 i)).length:Int)) ((dataOf (gd tInode v.2.1 i)).length:Int)) fun v7=>Option.bind (rng ((part (dataOf (gd tInode v.2.1 i)) v7.1 (v7.2-v7.1)).length) 0 (mnI (mC x) (((part (dataOf (gd tInode v.2.1 i)) v7.1 (v7.2-v7.1)).length:Nat):Int))) fun v8=>some ((0,part (part (dataOf (gd tInode v.2.1 i)) v7.1 (v7.2-v7.1)) v8.1 (v8.2-v8.1),()),(v,c,x,()),())) _
 generalize dataOf (gd tInode v.2.1 i)=d at *
 have e1:mnI (nC x) (d.length:Int)=((min a d.length:Nat):Int):=by unfold mnI;split <;> omega
 rw [e1,rng_nat (by omega) (by omega)]
 simp only [obs]
 have e2:part d (min a d.length) (d.length-min a d.length)=d.drop a:=by
  unfold part
  rw [List.take_of_length_le (by rw [List.length_drop];omega)]
  by_cases h:a≤d.length
  ·rw [Nat.min_eq_left h]
  ·rw [List.drop_eq_nil_of_le (by omega),List.drop_eq_nil_of_le (by omega)]
 rw [e2]
 have e3:mnI (mC x) ((d.drop a).length:Int)=((min b (d.drop a).length:Nat):Int):=by unfold mnI;split <;> omega
 rw [e3]
 have e4:rng (d.drop a).length 0 ((min b (d.drop a).length:Nat):Int)=some (0,min b (d.drop a).length):=rng_nat (lo:=0) (Nat.zero_le _) (Nat.min_le_right _ _)
 rw [e4]
 simp only [obs,Nat.sub_zero]
 rw [part_take]
 refine Tell2.is 0 _ rfl ?_ (by rw [List.length_take,List.length_drop];omega)
 have e5:(d.drop a).take b=(d.drop a).take (min b (d.drop a).length):=List.take_eq_take_iff.2 (by omega)
 rw [e5]
def Do2(v:tVol.D)(c:tCred.D)(x:tCall.D)(a:Option (tResult.D×tDoer.D×Unit))(b:Option (tVol.D×tResult.D×Unit))(Q:tVol.D→Prop):Prop :=
 ∃(k:Int) (t:Txt) (w:tVol.D),a=some ((k,t,()),(w,c,x,()),())∧b=some (cond (k==0) w v,(k,t,()),())∧(k=0→Q w)∧t.length≤1000
theorem Same2.up{v:tVol.D}{c:tCred.D}{x:tCall.D}{a:Option (Int×tDoer.D×Unit)}{b:Option (tVol.D×tResult.D×Unit)}{Q Q':tVol.D→Prop}(h:Same2 v c x a b Q)(hQ:∀w,Q w→Q' w) :
  Do2 v c x (a.bind fun v1=>(impl_code (v1.1,())).bind fun v2=>some (v2.1,v1.2.1,())) (b.bind fun v2=>some (v2.1,v2.2.1,())) Q':=by
 obtain ⟨k,w,rfl,rfl,hq⟩:=h
 exact⟨k,[],w,rfl,rfl,fun h0=>hQ w (hq h0),by simp⟩
theorem Tell2.up{v:tVol.D}{c:tCred.D}{x:tCall.D}{a:Option (tResult.D×tDoer.D×Unit)}{b:Option (tResult.D×Unit)}{Q':tVol.D→Prop}(h:Tell2 v c x a b)(hQ:Q' v) :
  Do2 v c x (a.bind fun v1=>some (v1.1,v1.2.1,())) (b.bind fun v2=>some (v,v2.1,())) Q':=by
 obtain ⟨⟨k,t,⟨⟩⟩,rfl,rfl,hl⟩:=h
 exact⟨k,t,v,rfl,by cases k==0 <;> rfl,fun _=>hQ,hl⟩
def Done(v:tVol.D)(c:tCred.D)(x:tCall.D)(w:tVol.D):Prop :=
 ((kdC x=1∨kdC x=3∨kdC x=10)∧Made v c x w)∨((kdC x=2∨kdC x=8)∧Removed v c x w)∨(kdC x=9∧Linked v c x w)∨(kdC x=12∧Moved v c x w)∨((kdC x=5∨kdC x=6∨kdC x=7)∧Wrote v c x w) ∨
  (kdC x=15∧Moded v c x w)∨(kdC x=16∧Owned v c x w)∨(kdC x=19∧Quoted v c x w)∨((kdC x=4∨kdC x=11∨kdC x=13∨kdC x=14∨kdC x=17∨kdC x=18∨kdC x=20)∧w=v)
noncomputable def doS(v:tVol.D)(c:tCred.D)(x:tCall.D):Option (tVol.D×tResult.D×Unit) :=
 if kdC x=1∨kdC x=3∨kdC x=10 then(spec_l7Make (v,c,x,())).bind fun v2=>some (v2.1,v2.2.1,())
 else if kdC x=2∨kdC x=8 then(spec_l7Remove (v,c,x,())).bind fun v2=>some (v2.1,v2.2.1,())
 else if kdC x=9 then(spec_l7Link (v,c,x,())).bind fun v2=>some (v2.1,v2.2.1,())
 else if kdC x=12 then(spec_l7Rename (v,c,x,())).bind fun v2=>some (v2.1,v2.2.1,())
 else if kdC x=5∨kdC x=6∨kdC x=7 then(spec_l7Write (v,c,x,())).bind fun v2=>some (v2.1,v2.2.1,())
 else if kdC x=15∨kdC x=16∨kdC x=19 then(spec_l7Set (v,c,x,())).bind fun v2=>some (v2.1,v2.2.1,())
 else(spec_l7Tell (v,c,x,())).bind fun v2=>some (v,v2.1,())
theorem do_spec(v:tVol.D)(c:tCred.D)(x:tCall.D)(hx:CallR x)(h20:kdC x≤20):spec_l7Do (v,c,x,())=doS v c x:=by
 obtain ⟨q,hq,_⟩:=big_pred 4
 show spec_l7Do_s (spec_l7Do_L BIG) v c x=_
 unfold spec_l7Do_s
 rw [hq,spec_CallOk_eq,callOk_iff.2 hx]
 simp only [obs,Bool.not_true,cond_false]
 rw [decide_eq_false (show ¬x.1>20 from Int.not_lt.2 h20)]
 simp only [cond_false]
 have hk:=hx.kd
 obtain ⟨kd,rest⟩:=x
 have:kdC (kd,rest)=1∨kdC (kd,rest)=2∨kdC (kd,rest)=3∨kdC (kd,rest)=4∨kdC (kd,rest)=5∨kdC (kd,rest)=6∨kdC (kd,rest)=7∨kdC (kd,rest)=8∨kdC (kd,rest)=9∨kdC (kd,rest)=10∨kdC (kd,rest)=11∨kdC (kd,rest)=12∨kdC (kd,rest)=13∨kdC (kd,rest)=14∨kdC (kd,rest)=15∨kdC (kd,rest)=16∨kdC (kd,rest)=17∨kdC (kd,rest)=18∨kdC (kd,rest)=19∨kdC (kd,rest)=20:=by omega
 clear hx hk h20
 unfold doS
 rcases this with h | h | h | h | h | h | h | h | h | h | h | h | h | h | h | h | h | h | h | h <;>(replace h:kd=_:=h;subst h;rfl)
noncomputable def doI(v:tVol.D)(c:tCred.D)(x:tCall.D):Option (tResult.D×tDoer.D×Unit) :=
 if kdC x=1∨kdC x=3∨kdC x=10 then(impl_doer_make ((v,c,x,()),())).bind fun v1=>(impl_code (v1.1,())).bind fun v2=>some (v2.1,v1.2.1,())
 else if kdC x=2∨kdC x=8 then(impl_doer_remove ((v,c,x,()),())).bind fun v1=>(impl_code (v1.1,())).bind fun v2=>some (v2.1,v1.2.1,())
 else if kdC x=9 then(impl_doer_link ((v,c,x,()),())).bind fun v1=>(impl_code (v1.1,())).bind fun v2=>some (v2.1,v1.2.1,())
 else if kdC x=12 then(impl_doer_rename ((v,c,x,()),())).bind fun v1=>(impl_code (v1.1,())).bind fun v2=>some (v2.1,v1.2.1,())
 else if kdC x=5∨kdC x=6∨kdC x=7 then(impl_doer_change ((v,c,x,()),())).bind fun v1=>(impl_code (v1.1,())).bind fun v2=>some (v2.1,v1.2.1,())
 else if kdC x=15 then(impl_doer_mode ((v,c,x,()),())).bind fun v1=>(impl_code (v1.1,())).bind fun v2=>some (v2.1,v1.2.1,())
 else if kdC x=16 then(impl_doer_owner ((v,c,x,()),())).bind fun v1=>(impl_code (v1.1,())).bind fun v2=>some (v2.1,v1.2.1,())
 else if kdC x=19 then(impl_doer_quota ((v,c,x,()),())).bind fun v1=>(impl_code (v1.1,())).bind fun v2=>some (v2.1,v1.2.1,())
 else if kdC x=4 then(impl_doer_read ((v,c,x,()),())).bind fun v1=>some (v1.1,v1.2.1,())
 else if kdC x=11 then(impl_doer_readlink ((v,c,x,()),())).bind fun v1=>some (v1.1,v1.2.1,())
 else if kdC x=13∨kdC x=20 then(impl_doer_list ((v,c,x,()),())).bind fun v1=>some (v1.1,v1.2.1,())
 else if kdC x=14 then(impl_doer_stat ((v,c,x,()),())).bind fun v1=>some (v1.1,v1.2.1,())
 else if kdC x=17 then(Option.bind (impl_doer_access ((v,c,x,()),())) fun v6=>Option.bind (impl_code (v6.1,())) fun v7=>some (v7.1,v6.2.1,()))
 else(Option.bind (impl_Vol_total (v,())) fun v8=>Option.bind (impl_numbers ([(v.2.1.length:Int),v8.1],())) fun v9=>some ((0,v9.1,()),(v,c,x,()),()))
theorem do_impl(v:tVol.D)(c:tCred.D)(x:tCall.D)(hx:CallR x)(h20:kdC x≤20):impl_doer_do ((v,c,x,()),())=doI v c x:=by
 obtain ⟨q,hq,_⟩:=big_pred 8
 show impl_doer_do_s (impl_doer_do_L BIG) (v,c,x,())=_
 unfold impl_doer_do_s
 rw [hq]
 have hk:=hx.kd
 obtain ⟨kd,rest⟩:=x
 have:kdC (kd,rest)=1∨kdC (kd,rest)=2∨kdC (kd,rest)=3∨kdC (kd,rest)=4∨kdC (kd,rest)=5∨kdC (kd,rest)=6∨kdC (kd,rest)=7∨kdC (kd,rest)=8∨kdC (kd,rest)=9∨kdC (kd,rest)=10∨kdC (kd,rest)=11∨kdC (kd,rest)=12∨kdC (kd,rest)=13∨kdC (kd,rest)=14∨kdC (kd,rest)=15∨kdC (kd,rest)=16∨kdC (kd,rest)=17∨kdC (kd,rest)=18∨kdC (kd,rest)=19∨kdC (kd,rest)=20:=by omega
 clear hx hk h20
 unfold doI
 rcases this with h | h | h | h | h | h | h | h | h | h | h | h | h | h | h | h | h | h | h | h <;>(replace h:kd=_:=h;subst h;rfl)
theorem bind_id2(a:Option (tResult.D×tDoer.D×Unit)):(a.bind fun v1=>some (v1.1,v1.2.1,()))=a:=by
 cases a with
 | none=>rfl
 | some r=>rfl
theorem do_both(v:tVol.D)(c:tCred.D)(x:tCall.D)(hv:VolR v)(hc:credOk c=true)(hx:CallR x)(h20:kdC x≤20):Do2 v c x (impl_doer_do ((v,c,x,()),())) (spec_l7Do (v,c,x,())) (Done v c x):=by
 rw [do_impl v c x hx h20,do_spec v c x hx h20]
 have hk:=hx.kd
 unfold doI doS
 by_cases h1:kdC x=1∨kdC x=3∨kdC x=10
 ·rw [if_pos h1,if_pos h1]
  exact(make_both v c x hv hc hx).up fun w h=>.inl ⟨h1,h⟩
 rw [if_neg h1,if_neg h1]
 by_cases h2:kdC x=2∨kdC x=8
 ·rw [if_pos h2,if_pos h2]
  exact(remove_both v c x hv hc hx h2).up fun w h=>.inr (.inl ⟨h2,h⟩)
 rw [if_neg h2,if_neg h2]
 by_cases h3:kdC x=9
 ·rw [if_pos h3,if_pos h3]
  exact(link_both v c x hv hc hx).up fun w h=>.inr (.inr (.inl ⟨h3,h⟩))
 rw [if_neg h3,if_neg h3]
 by_cases h4:kdC x=12
 ·rw [if_pos h4,if_pos h4]
  exact(rename_both v c x hv hc hx).up fun w h=>.inr (.inr (.inr (.inl ⟨h4,h⟩)))
 rw [if_neg h4,if_neg h4]
 by_cases h5:kdC x=5∨kdC x=6∨kdC x=7
 ·rw [if_pos h5,if_pos h5]
  exact(write_both v c x hv hc hx h5).up fun w h=>.inr (.inr (.inr (.inr (.inl ⟨h5,h⟩))))
 rw [if_neg h5,if_neg h5]
 by_cases h6:kdC x=15
 ·rw [if_pos h6,if_pos (.inl h6)]
  exact(mode_both v c x hv hc hx h6).up fun w h=>.inr (.inr (.inr (.inr (.inr (.inl ⟨h6,h⟩)))))
 rw [if_neg h6]
 by_cases h7:kdC x=16
 ·rw [if_pos h7,if_pos (.inr (.inl h7))]
  exact(owner_both v c x hv hc hx h7).up fun w h=>.inr (.inr (.inr (.inr (.inr (.inr (.inl ⟨h7,h⟩))))))
 rw [if_neg h7]
 by_cases h8:kdC x=19
 ·rw [if_pos h8,if_pos (.inr (.inr h8))]
  exact(quota_both v c x hv hc hx h8).up fun w h=>.inr (.inr (.inr (.inr (.inr (.inr (.inr (.inl ⟨h8,h⟩)))))))
 rw [if_neg h8,if_neg (show ¬(kdC x=15∨kdC x=16∨kdC x=19) by omega)]
 have hQ:Done v c x v:=.inr (.inr (.inr (.inr (.inr (.inr (.inr (.inr ⟨by omega,rfl⟩)))))))
 by_cases h9:kdC x=4
 ·rw [if_pos h9]
  exact(read_both v c x hv hc hx h9).up hQ
 rw [if_neg h9]
 by_cases h10:kdC x=11
 ·rw [if_pos h10]
  exact(readlink_both v c x hv hc hx h10).up hQ
 rw [if_neg h10]
 by_cases h11:kdC x=13∨kdC x=20
 ·rw [if_pos h11]
  exact(list_both v c x hv hc hx h11).up hQ
 rw [if_neg h11]
 by_cases h12:kdC x=14
 ·rw [if_pos h12]
  exact(stat_both v c x hv hc hx h12).up hQ
 rw [if_neg h12]
 by_cases h13:kdC x=17
 ·rw [if_pos h13]
  have:=(access_both v c x hv hc hx h13).up (Q':=Done v c x) hQ
  rwa [bind_id2] at this
 rw [if_neg h13]
 have:=(statfs_both v c x hv (by omega)).up (Q':=Done v c x) hQ
 rwa [bind_id2] at this
theorem VolR.copyS{v:tVol.D}(h:VolR v):spec_l4Copy (v,())=some (v,()):=spec_Copy_eq v h.wk'.len fun i hi=>Nat.le_trans (nms_get hi) h.wk'.nms
theorem VolR.copyI{v:tVol.D}(h:VolR v):impl_copyVol (v,())=some (v,()):=impl_Copy_eq v h.wk'.len fun i hi=>Nat.le_trans (nms_get hi) h.wk'.nms
structure Ran(v:tVol.D)(c:tCred.D)(x:tCall.D)(w:tVol.D)(k:Int)(t:Txt):Prop where
 bad:volOk v=false→w=(0,[],())∧k=22∧t=[]
 cred:volOk v=true→credOk c=false→w=v∧k=22∧t=[]
 call:volOk v=true→credOk c=true→(callOk x=false∨20<kdC x)→w=v∧k=22∧t=[]
 no:volOk v=true→k≠0→w=v
 len:t.length≤1000
 done:volOk v=true→credOk c=true→callOk x=true→kdC x≤20→k=0→Done v c x w
theorem vol_both(v:tVol.D)(c:tCred.D)(x:tCall.D)(hv:VB v):∃w k t,spec_VolDo (v,c,x,())=some (w,(k,t,()),())∧impl_VolDo (v,c,x,())=some (w,(k,t,()),())∧Ran v c x w k t:=by
 show ∃w k t,spec_VolDo_s v c x=_∧impl_VolDo_s v c x=_∧_
 unfold spec_VolDo_s impl_VolDo_s
 rw [spec_VolOk_eq v hv,impl_VolOk_eq v hv]
 simp only [obs]
 cases hok:volOk v with
 | false=>exact⟨(0,[],()),22,[],rfl,rfl,fun _=>⟨rfl,rfl,rfl⟩,fun h=>by simp [hok] at h,fun h=>by simp [hok] at h,fun h=>by simp [hok] at h,by simp,fun h=>by simp [hok] at h⟩
 | true =>
 have hR:=volOk_iff.1 hok
 simp only [Bool.not_true,cond_false]
 have eI:(Option.bind (impl_volDo (v,c,x,())) fun v3=>some (v3.1,v3.2.1,()))=impl_volDo_s v c x:=by
  show(Option.bind (impl_volDo_s v c x) fun v3=>some (v3.1,v3.2.1,()))=_
  cases impl_volDo_s v c x <;> rfl
 rw [eI]
 unfold impl_volDo_s
 rw [spec_CredOk_eq,impl_CredOk_eq,impl_CallOk_eq,hR.copyI,hR.copyS]
 simp only [obs]
 cases hc:credOk c with
 | false=>exact⟨v,22,[],rfl,rfl,fun h=>by simp [hok] at h,fun _ _=>⟨rfl,rfl,rfl⟩,fun _ h=>by simp [hc] at h,fun _ _=>rfl,by simp,fun _ h=>by simp [hc] at h⟩
 | true =>
 simp only [Bool.not_true,cond_false]
 have eS:∀A:Option (tVol.D×tResult.D×Unit),both (both (Option.bind A fun v5=>dup (some (v5.1,v5.2.1,()))) (dup (dup (Option.bind A fun v5=>some (v5.1,v5.2.1,()))))) (dup (both (dup (Option.bind A fun v5=>some (v5.1,v5.2.1,()))) (Option.bind A fun v5=>some (v5.1,v5.2.1,()))))=A:=by
  intro A
  simp only [dup_eq,both_same]
  cases A <;> rfl
 rw [eS]
 have bad:callOk x=false∨20<kdC x→spec_l7Do (v,c,x,())=some (v,(22,[],()),()):=by
  intro h
  show spec_l7Do_s (spec_l7Do_L BIG) v c x=_
  unfold spec_l7Do_s
  rw [spec_CallOk_eq]
  simp only [obs]
  cases hcall:callOk x with
  | false=>rfl
  | true =>
   rcases h with h | h
   ·rw [hcall] at h;cases h
   ·simp only [Bool.not_true,cond_false]
    rw [decide_eq_true (show x.1>20 from h)];rfl
 cases hcall:callOk x with
 | false =>
  rw [bad (.inl hcall)]
  exact⟨v,22,[],rfl,rfl,fun h=>by simp [hok] at h,fun _ h=>by simp [hc] at h,fun _ _ _=>⟨rfl,rfl,rfl⟩,fun _ _=>rfl,by simp,fun _ _ h=>by simp [hcall] at h⟩
 | true =>
 have hx:=callOk_iff.1 hcall
 simp only [Bool.not_true,cond_false]
 by_cases h20:kdC x≤20
 case neg =>
  rw [bad (.inr (by omega)),decide_eq_true (show x.1>20 from Int.not_le.1 h20)]
  exact⟨v,22,[],rfl,rfl,fun h=>by simp [hok] at h,fun _ h=>by simp [hc] at h,fun _ _ _=>⟨rfl,rfl,rfl⟩,fun _ _=>rfl,by simp,fun _ _ _ h=>absurd h h20⟩
 rw [decide_eq_false (show ¬x.1>20 from Int.not_lt.2 h20)]
 simp only [cond_false]
 obtain ⟨k,t,w,h1,h2,h3,h4⟩:=do_both v c x hR hc hx h20
 rw [h1,h2]
 simp only [obs]
 refine⟨cond (k==0) w v,k,t,rfl,?_,fun h=>by simp [hok] at h,fun _ h=>by simp [hc] at h,fun _ _ h=>?_,fun _ h=>by rw [beq_f h];rfl,h4,fun _ _ _ _ h0=>by rw [beq_t h0];exact h3 h0⟩
 ·by_cases h0:k=0
  ·rw [bne_f h0,beq_t h0];rfl
  ·rw [bne_t h0,beq_f h0];rfl
 ·rcases h with h | h
  ·simp [hcall] at h
  ·omega
structure Po(n:Nat)(x:Ino):Prop where
 dat:(dataOf x).length≤200
 nms:(nmsOf x).length≤n
 each:∀d,d∈nmsOf x→d.1.length≤8
structure Sz(n:Nat)(l:List Ino):Prop where
 len:l.length≤n
 po:∀x,x∈l→Po n x
theorem Po.mono{n m:Nat}{x:Ino}(h:Po n x)(hm:n≤m):Po m x:=⟨h.dat,Nat.le_trans h.nms hm,h.each⟩
theorem Sz.mono{n m:Nat}{l:List Ino}(h:Sz n l)(hm:n≤m):Sz m l:=⟨Nat.le_trans h.len hm,fun x hx=>(h.po x hx).mono hm⟩
theorem Sz.get{n:Nat}{l:List Ino}(h:Sz n l){i:Nat}(hi:i<l.length):Po n (gd tInode l i):=h.po _ (gd_mem' hi)
theorem Sz.set{n:Nat}{l:List Ino}(h:Sz n l)(i:Nat){y:Ino}(hy:Po n y):Sz n (l.set i y):=⟨by rw [List.length_set];exact h.len,fun x hx=>by
 rcases List.mem_or_eq_of_mem_set hx with hx | rfl
 ·exact h.po x hx
 ·exact hy⟩
theorem Sz.go{n:Nat}{l:List Ino}(h:Sz n l)(id:Int):Sz n (goN l id):=by
 unfold goN
 cases decide (namedN l id=0)
 ·exact h
 ·exact⟨Nat.le_trans (List.length_filter_le _ _) h.len,fun x hx=>h.po x (List.mem_filter.1 hx).1⟩
theorem Sz.app{n:Nat}{l:List Ino}(h:Sz n l){y:Ino}(hy:Po n y):Sz (n+1) (l++[y]):=⟨by simp only [List.length_append,List.length_singleton];have:=h.len;omega,fun x hx=>by
 rcases List.mem_append.1 hx with hx | hx
 ·exact(h.po x hx).mono (by omega)
 ·rw [List.mem_singleton.1 hx];exact hy.mono (by omega)⟩
theorem Po.ins{n:Nat}{x:Ino}(h:Po n x){s:Txt}(hs:s.length≤8)(id:Int):Po (n+1) (setN x (ins (nmsOf x) s id)):=⟨h.dat,by
 show(Vg.ins (nmsOf x) s id).length≤_
 rw [ins_len];have:=h.nms;omega,fun d hd=>by
 rcases mem_ins.1 hd with hd | rfl
 ·exact h.each d hd
 ·exact hs⟩
theorem Po.un{n:Nat}{x:Ino}(h:Po n x)(s:Txt):Po n (setN x (unN (nmsOf x) s)):=⟨h.dat,Nat.le_trans (un_len _ _) h.nms,fun d hd=>h.each d (un_mem hd)⟩
theorem sz_cost{v:tVol.D}{n:Nat}(h:Sz n v.2.1):Ty.cost tVol v≤n+n*(200+9*n):=by
 rw [vol_cost]
 have h1:=sum_leB costI (200+9*n) v.2.1 fun x hx=>by
  have hp:=h.po x hx
  have h2:=sum_leB (fun d:tDirent.D=>Ty.cost tDirent d) 8 (nmsOf x) fun d hd=>by
   rw [dir_cost];exact hp.each d hd
  unfold costI
  rw [ino_cost,cost_sl]
  have:=hp.dat
  have:=hp.nms
  omega
 have h3:v.2.1.length*(200+9*n)≤n*(200+9*n):=Nat.mul_le_mul_right _ h.len
 have:=h.len
 omega
theorem VolR.sz{v:tVol.D}(h:VolR v):Sz 24 v.2.1:=by
 refine⟨h.len.2,fun x hx=>?_⟩
 obtain ⟨i,hi,rfl⟩:=mem_gd hx
 have hno:=h.ino i hi
 refine⟨by have:=h.dat hi;omega,?_,fun d hd=>name_len8 (hno.names d hd).1⟩
 by_cases hk:kindOf (gd tInode v.2.1 i)=2
 ·have:=(hno.dir hk).2.2.2;omega
 ·rw [(hno.plain hk).2.2];simp
theorem spot_len{l:List Ino}{r:tSpot.D}(h:SpotOk l r)(hn:nameOf r≠[])(hc:codeS r=0∨codeS r=2):(nameOf r).length≤8:=by
 rcases hc with hc | hc
 ·exact name_len8 (h.named hc hn).2.1
 ·exact name_len8 (h.new hc hn).2.1
theorem drop_sz{v:tVol.D}{n:Nat}(h:Sz n v.2.1){i:Nat}(hi:i<v.2.1.length)(s:Txt):Sz n (dropV v i s).2.1:=(h.set i ((h.get hi).un s)).go _
theorem mov_sz{l:List Ino}{n:Nat}(h:Sz n l){ir it:Nat}(hr:ir<l.length)(ht:it<l.length)(rn:Txt){tn:Txt}(hs:tn.length≤8)(id:Int):Sz (n+1) (movL l ir rn it tn id):=by
 have h1:Sz n (unL l ir rn):=h.set ir ((h.get hr).un rn)
 refine(h1.mono (by omega)).set it (Po.ins (n:=n) (h1.get ?_) hs id)
 unfold unL
 rw [List.length_set];exact ht
theorem put_len(s:Txt)(a:Nat)(d:Txt)(hs:s.length≤64)(h:a+d.length≤64):(putM s a d).length≤200:=by
 unfold putM
 rw [List.length_append,List.length_append,fill_len,List.length_drop];omega
theorem Done.sz{v:tVol.D}{c:tCred.D}{x:tCall.D}{w:tVol.D}(hv:VolR v)(hx:CallR x)(h:Done v c x w):Sz 30 w.2.1:=by
 have s24:=hv.sz
 rcases h with⟨_,h⟩ | ⟨_,h⟩ | ⟨_,h⟩ | ⟨_,h⟩ | ⟨_,h⟩ | ⟨_,h⟩ | ⟨_,h⟩ | ⟨_,h⟩ | ⟨_,h⟩
 ·obtain ⟨r,i,hr,hc,hn,hi,_,_,_,_,_,rfl,_⟩:=h.out
  have hil:=(iat_lt hi).1
  have:=hx.toL
  have h1:Sz 25 (v.2.1.set i (setN (gd tInode v.2.1 i) (ins (nmsOf (gd tInode v.2.1 i)) (nameOf r) v.1))):=(s24.mono (by omega)).set i ((s24.get hil).ins (spot_len hr hn (.inr hc)) _)
  refine(h1.app (y:=newI v c x (gd tInode v.2.1 i)) ⟨?_,by simp [newI,nmsOf],by simp [newI,nmsOf]⟩).mono (by omega)
  show(if kdC x=10 then toC x else []).length≤200
  split
  ·omega
  ·simp
 ·obtain ⟨r,i,j,_,_,_,hi,_,_,_,_,_,_,rfl⟩:=h.out
  exact(drop_sz s24 (iat_lt hi).1 _).mono (by omega)
 ·obtain ⟨r,t,i,j,_,_,_,_,ht,htc,htn,hi,_,_,rfl,_⟩:=h.out
  exact((s24.mono (by omega)).set i ((s24.get (iat_lt hi).1).ins (spot_len ht htn (.inr htc)) _)).mono (by omega)
 ·obtain ⟨r,t,j,hr,hc,hn,hj,ht,htn,htc,h⟩:=h.out
  rcases h with⟨_,rfl⟩ | ⟨_,_,l,ir,it,hp,rfl,_,h⟩
  ·exact s24.mono (by omega)
  ·have hl:Sz 24 l:=by
    rcases h with⟨_,rfl,_⟩ | ⟨i2,j2,hi2,_,_,_,_,_,rfl⟩
    ·exact s24
    ·exact drop_sz s24 (iat_lt hi2).1 _
   exact(mov_sz hl (iat_lt hp.hr).1 (iat_lt hp.ht).1 _ (spot_len ht htn htc) _).mono (by omega)
 ·obtain ⟨r,i,hr,hc,hi,_,_,ha,h⟩:=h.out
  rcases h with⟨_,_,rfl⟩ | ⟨_,hle,rfl,_⟩
  ·exact s24.mono (by omega)
  ·have hp:=s24.get (iat_lt hi).1
   refine(s24.mono (by omega)).set i ⟨?_,by have:=hp.nms;exact Nat.le_trans this (by omega),hp.each⟩
   show(newD x (gd tInode v.2.1 i)).length≤200
   have hd:=hv.dat (iat_lt hi).1
   unfold newD
   split
   ·rename_i h7
    rw [fill_len]
    have:atOf x (gd tInode v.2.1 i)=nC x:=by unfold atOf;rw [if_neg (by omega)]
    omega
   ·exact put_len _ _ _ hd (by omega)
 ·obtain ⟨_,_,r,i,_,_,hi,_,rfl⟩:=h.out
  have hp:=s24.get (iat_lt hi).1
  exact(s24.mono (by omega)).set i ⟨hp.dat,Nat.le_trans hp.nms (by omega),hp.each⟩
 ·obtain ⟨_,_,r,i,_,_,hi,rfl⟩:=h.out
  have hp:=s24.get (iat_lt hi).1
  exact(s24.mono (by omega)).set i ⟨hp.dat,Nat.le_trans hp.nms (by omega),hp.each⟩
 ·obtain ⟨_,_,_,r,i,_,_,hi,_,rfl,_⟩:=h.out
  have hp:=s24.get (iat_lt hi).1
  exact(s24.mono (by omega)).set i ⟨hp.dat,Nat.le_trans hp.nms (by omega),hp.each⟩
 ·rw [h];exact s24.mono (by omega)
theorem Ran.cost{v:tVol.D}{c:tCred.D}{x:tCall.D}{w:tVol.D}{k:Int}{t:Txt}(h:Ran v c x w k t)(hv:Ty.cost tVol v≤1048576):Ty.cost tVol w≤1048576:=by
 have h0:w=v→Ty.cost tVol w≤1048576:=fun e=>by rw [e];exact hv
 cases hok:volOk v with
 | false=>rw [(h.bad hok).1,vol_cost];simp
 | true =>
 cases hc:credOk c with
 | false=>exact h0 (h.cred hok hc).1
 | true =>
 cases hcall:callOk x with
 | false=>exact h0 (h.call hok hc (.inl hcall)).1
 | true =>
 by_cases h20:20<kdC x
 ·exact h0 (h.call hok hc (.inr h20)).1
 by_cases hk:k=0
 ·have:=sz_cost ((h.done hok hc hcall (by omega) hk).sz (volOk_iff.1 hok) (callOk_iff.1 hcall))
  omega
 ·exact h0 (h.no hok hk)
theorem wt_small{t:Ty}(x:t.D)(h:t.cost x≤2097152)(hl:t.lv≤1000):t.wt x≤10000000000:=by
 have h1:=Ty.wt_le t x
 have h2:t.lv*(1+t.cost x)≤1000*2097153:=Nat.mul_le_mul hl (by omega)
 omega
theorem res_cost(k:Int)(t:Txt):Ty.cost tResult (k,t,())=t.length:=by
 simp only [cost_st,cost_cons,cost_nil,cost_int,cost_bool,cost_str,Nat.zero_add,Nat.add_zero]
theorem VolDo_law(v:tVol.D)(c:tCred.D)(x:tCall.D)(hwv:Ty.wfD tVol v)(hwc:Ty.wfD tCred c)(hwx:Ty.wfD tCall x):laws_FnExactVolDo (v,c,x,())=some (true,()):=by
 obtain ⟨q,hq,_⟩:=big_pred 3
 show laws_FnExactVolDo_s (laws_FnExactVolDo_L BIG) v c x=_
 unfold laws_FnExactVolDo_s
 rw [sz_Vol v 1048576 (by omega) (by omega) hwv]
 simp only [obs]
 by_cases g1:((Ty.cost tVol v:Nat):Int)≤1048576
 case neg=>rw [szR_no g1];rfl
 rw [szR_ok g1,dec_f (by omega)]
 simp only [cond_false]
 rw [sz_Cred c _ (by omega) (by omega) hwc]
 simp only [obs]
 by_cases g2:((Ty.cost tCred c:Nat):Int)≤1048576-((Ty.cost tVol v:Nat):Int)
 case neg=>rw [szR_no g2];rfl
 rw [szR_ok g2,dec_f (by omega)]
 simp only [cond_false]
 rw [sz_Call x _ (by omega) (by omega) hwx]
 simp only [obs]
 by_cases g3:((Ty.cost tCall x:Nat):Int)≤1048576-((Ty.cost tVol v:Nat):Int)-((Ty.cost tCred c:Nat):Int)
 case neg=>rw [szR_no g3];rfl
 rw [szR_ok g3,dec_f (by omega)]
 simp only [cond_false]
 have c1:Ty.cost tVol v≤1048576:=by omega
 have c2:Ty.cost tCred c≤1048576:=by omega
 have c3:Ty.cost tCall x≤1048576:=by omega
 obtain ⟨w,k,t,hs,hi,hran⟩:=vol_both v c x (vb_of c1)
 have c4:=hran.cost c1
 have c5:=hran.len
 have c6:=res_cost k t
 have w1:=wt_small v (by omega) (by decide)
 have w2:=wt_small c (by omega) (by decide)
 have w3:=wt_small w (by omega) (by decide)
 obtain ⟨k1,y1,m1,v1,b1⟩:=mark_Vol v 1 (by omega) (by omega) (by omega)
 have p1:=mkv_Vol_mono v1
 obtain ⟨k2,y2,m2,v2,b2⟩:=mark_Cred c k1 (by omega) (by omega) (by omega)
 have p2:=mkv_Cred_mono v2
 obtain ⟨k3,y3,m3,v3,b3⟩:=mark_Vol w 1 (by omega) (by omega) (by omega)
 have p3:=mkv_Vol_mono v3
 have hh:laws_heldVol ((w.1,y3.2.1,()),1,())=some (k3,()):=held_Vol (w.1,y3.2.1,()) 1 k3 (by omega) (by omega) v3
 have q1:=eq_Vol w (by omega)
 have q2:=eq_Result (k,t,()) (by omega)
 have q3:=eq_Vol v (by omega)
 have q4:=eq_Cred c (by omega)
 have k35:(laws_FnExactVolDo_L (q+1)).k35 k3 w c.2.2.1 v.2.1 (k,t,()) (w.1,y3.2.1,()) w (k,t,())=some (true,()):=by
  show laws_FnExactVolDo_b35 (laws_FnExactVolDo_L q) k3 w c.2.2.1 v.2.1 (k,t,()) (w.1,y3.2.1,()) w (k,t,())=_
  unfold laws_FnExactVolDo_b35
  rw [q1];simp only [obs,Bool.not_true,cond_false]
  rw [q2];simp only [obs,Bool.not_true,cond_false]
  rw [hh];simp only [obs]
  rw [dec_f (by omega)];simp only [cond_false,bne_self_eq_false]
 have k15:(laws_FnExactVolDo_L (q+2)).k15 v c x w c.2.2.1 v.2.1 (k,t,()) v c w (k,t,())=some (true,()):=by
  show laws_FnExactVolDo_b15 (laws_FnExactVolDo_L (q+1)) _ _ _ _ _ _ _ _ _ _ _=_
  unfold laws_FnExactVolDo_b15
  rw [q1];simp only [obs,Bool.not_true,cond_false]
  rw [q2];simp only [obs,Bool.not_true,cond_false]
  rw [to_Vol v c1];simp only [obs]
  rw [q3];simp only [obs,Bool.not_true,cond_false]
  rw [to_Cred c c2];simp only [obs]
  rw [q4];simp only [obs,Bool.not_true,cond_false]
  rw [m1];simp only [obs]
  rw [m2];simp only [obs]
  rw [dec_f (by omega)];simp only [cond_false]
  rw [m3];simp only [obs]
  rw [hh];simp only [obs]
  rw [dec_f (by omega)];simp only [cond_false,bne_self_eq_false]
  rw [to_Call x c3];simp only [obs]
  rw [hi];simp only [obs,dup_eq,both_same]
  exact k35
 have k12:(laws_FnExactVolDo_L BIG).k12 v c x w c.2.2.1 v.2.1 (k,t,())=some (true,()):=by
  rw [hq]
  show laws_FnExactVolDo_b12 (laws_FnExactVolDo_L (q+2)) _ _ _ _ _ _ _=_
  unfold laws_FnExactVolDo_b12
  rw [to_Vol v c1];simp only [obs]
  rw [to_Cred c c2];simp only [obs]
  rw [to_Call x c3];simp only [obs]
  rw [hi];simp only [obs,dup_eq,both_same]
  exact k15
 rw [to_Vol v c1];simp only [obs]
 rw [to_Cred c c2];simp only [obs]
 rw [to_Call x c3];simp only [obs]
 rw [hs];simp only [obs,dup_eq,both_same]
 exact k12
end Go.LM.Vg
