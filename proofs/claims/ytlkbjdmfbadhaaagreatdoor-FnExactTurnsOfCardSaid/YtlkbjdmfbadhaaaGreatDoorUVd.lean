/- Calls on volumes: both sides come to the same. Conditions: each theorem's own hypotheses. -/
import Derived.Test.YtlkbjdmfbadhaaaGreatDoorUVc
set_option linter.unusedVariables false
set_option linter.unusedSimpArgs false
namespace Go.LM.j7
theorem aaP{n:Nat}(h:n≤68719476736):n+1<aM:=by unfold aM;omega
theorem zi{α : Type}{l:List α}{k:Nat}(h:k<l.length):l.drop k=l[k] :: l.drop (k+1):=List.drop_eq_getElem_cons h
def qJ(y:aJ.D)(id:aO):Bool:=bw y.1 id
theorem aaQ(y:aJ.D)(id:aO):Fw (y,id,())=some (qJ y id,()):=rfl
def w3(id:aO):List aJ.D→Nat→Int
 | [],_=> -1
 | y :: l,k=>cond (qJ y id) (k:Int) (w3 id l (k+1))
theorem anw(ys:List aJ.D)(id:aO)(hn:ys.length≤68719476736):∀(r k m:Nat),k+r=ys.length→r<m →
  yw m ys id (ys.length:Int) (k:Int)=some (w3 id (ys.drop k) k,()):=by
 intro r
 induction r with
 | zero=>
  intro k m hk hm;obtain ⟨m,rfl⟩:∃q,m=q+1:=⟨m-1,by omega⟩
  simp only [yw,Fy];rw [cw (by omega),List.drop_of_length_le (by omega)];rfl
 | succ r ih=>
  intro k m hk hm;obtain ⟨m,rfl⟩:∃q,m=q+1:=⟨m-1,by omega⟩
  have iJ:k<ys.length:=by omega
  simp only [yw,Fy];rw [b1 iJ,br iJ];simp only [cond_true,al];rw [aaQ,qV iJ,zi iJ];simp only [al,w3];cases qJ ys[k] id
  ·simp only [cond_false];rw [dA _ (by omega)];exact ih (k+1) m (by omega) (by omega)
  ·rfl
theorem aaR(id:aO):∀(l:List aJ.D) (k:Nat),(w3 id l k = -1∧l.filter (fun y=> !qJ y id)=l)∨∃j,j<l.length∧w3 id l k=((k+j:Nat):Int)∧(l.filter (fun y=> !qJ y id))=l.take j++(l.drop (j+1)).filter (fun y=> !qJ y id)
 | [],_=>.inl ⟨rfl,rfl⟩
 | y :: l,k=>by
  rw [List.filter_cons];unfold w3;cases h:qJ y id
  ·rcases aaR id l (k+1) with⟨h1,h2⟩ | ⟨j,h1,h2,h3⟩
   ·exact .inl ⟨by simp only [cond_false];exact h1,by simp [h2]⟩
   ·exact .inr ⟨j+1,by simpa using h1,by simp only [cond_false];rw [h2];congr 1;omega,by simp [h3]⟩
  ·exact .inr ⟨0,by simp,by simp,by simp⟩
theorem anx(ys:List aJ.D)(id:aO)(hn:ys.length≤68719476736):∀(r j i m:Nat) (xs:List aJ.D),j+r=ys.length→i≤j→xs.length=ys.length→xs.drop j=ys.drop j→r<m →
  yy m id (i:Int) (j:Int) xs=some (xs.take i++(ys.drop j).filter (fun y=> !qJ y id),()):=by
 intro r
 induction r with
 | zero=>
  intro j i m xs hj jc hl af hm;obtain ⟨m,rfl⟩:∃q,m=q+1:=⟨m-1,by omega⟩
  simp only [yy,FB];rw [cw (by omega),jd (by omega) (Nat.le_refl _)];simp only [cond_false,al,V7,Nat.zero_add];generalize ((([]:aj),0,()):aJ.D)=z;have hlen:(xs.take i++List.replicate (xs.length-i) z++xs.drop (i +(xs.length-i))).length=xs.length:=by simp;omega
  rw [show(0:Int)=((0:Nat):Int) from rfl,jd (Nat.zero_le _) (by rw [hlen];omega)];simp only [al,Nat.sub_zero,Nat.zero_add];rw [List.drop_of_length_le (l:=ys) (by omega),List.filter_nil,List.append_nil];congr 2;unfold part;rw [List.drop_zero,List.append_assoc,List.take_append_of_le_length (by simp;omega),List.take_take];simp
 | succ r ih=>
  intro j i m xs hj jc hl af hm;obtain ⟨m,rfl⟩:∃q,m=q+1:=⟨m-1,by omega⟩
  have hjl:j<xs.length:=by omega
  have zO:j<ys.length:=by omega
  have he:xs[j]=ys[j]∧xs.drop (j+1)=ys.drop (j+1):=by rw [zi hjl,zi zO] at af;exact List.cons.inj af
  simp only [yy,FB];rw [b1 hjl,br hjl];simp only [cond_true,al,Nat.zero_add];rw [aaQ,qV hjl,he.1,zi zO,List.filter_cons];simp only [al];cases hh:qJ ys[j] id
  ·simp only [Bool.not_false,cond_true,if_true];rw [br (show i<xs.length by omega)];simp only [al,Nat.zero_add];rw [dA _ (by omega),dA _ (by omega),ih (j+1) (i+1) m (xs.set i ys[j]) (by omega) (by omega) (by simpa using hl) (by rw [List.drop_set_of_lt (by omega)];exact he.2) (by omega)];congr 2;rw [List.take_add_one,List.take_set_of_le (Nat.le_refl _),List.getElem?_set_self (by omega)];simp
  ·simp only [Bool.not_true,cond_false,Bool.false_eq_true,if_false];rw [dA _ (by omega)];exact ih (j+1) i m xs (by omega) (by omega) hl he.2 (by omega)
theorem anz(ys:List aJ.D)(id:aO)(hn:room ys.length=true):FC (ys,id,())=some (ys.filter (fun y=> !qJ y id),()):=by
 have hn:ys.length≤68719476736:=Nat.le_of_ble_eq_true hn;show FA _ ys id=_;unfold FA;have hi:Np (ys,id,())=some (w3 id ys 0,()):=by have:=anw ys id hn ys.length 0 aM (by omega) (by have:=aaP hn;omega);rw [List.drop_zero] at this;exact this
 rw [hi];simp only [al];rcases aaR id ys 0 with⟨h1,h2⟩ | ⟨j,h1,h2,h3⟩
 ·rw [h1,h2];rfl
 ·rw [h2,h3,Nat.zero_add,show((j:Int) == -1)=false from by rw [beq_eq_false_iff_ne];omega];simp only [cond_false];rw [dA _ (by omega)];exact anx ys id hn (ys.length-(j+1)) (j+1) j aM ys (by omega) (by omega) rfl rfl (by have:=aaP hn;omega)
theorem B6(v:ah.D)(c:aK.D)(x:aI.D)(path:aO)(cd:Bool)(hw:r3 v.2.1)(hc:dQ c=true)(aw:path.length≤1048576) :
  ∃r,tV cd v.2.1 r∧lB ((v,c,x,()),path,cd,())=some (r,())∧fh (v,c,path,cd,())=some (r,()):=by
 cases hk:tT path with
 | false=>
  refine⟨((0:Int),([]:aO),(0:Int),(22:Int),()),zd cd _ (by decide) 0 0 (.inr trivial),?_,?_⟩
  ·show rv (v,c,x,()) path cd=_;unfold rv;rw [I0 _ (by omega),hk];rfl
  ·show wj v c path cd=_;unfold wj;rw [B2,hk];rfl
 | true=>
  obtain ⟨r,bE,cp,gi⟩:=aaO v c path cd hw hc hk;refine⟨r,bE,?_,?_⟩
  ·show rv (v,c,x,()) path cd=_;unfold rv;rw [I0 _ (by omega),hk];simp only [al,Bool.not_true,cond_false];rw [cp];rfl
  ·show wj v c path cd=_;unfold wj;rw [B2,hk];simp only [al,Bool.not_true,cond_false];rw [gi];rfl
theorem oi{s:aO} : bw s []=true↔s=[]:=by unfold bw;simp
theorem aaS(v:ah.D)(c:aK.D)(x:aI.D)(path:aO)(hw:r3 v.2.1)(hc:dQ c=true)(aw:path.length≤1048576) :
  ∃r eL code,vK ((v,c,x,()),path,())=some (r,code,())∧wg (v,c,path,())=some (eL,code,())∧(0≤code∧code≤200)∧(code=0→eL=r∧h_ v.2.1 r∧bN r=2∧nameOf r≠[]∧fh (v,c,path,false,())=some (r,())):=by
 cases hk:tT path with
 | false=>
  refine⟨((0:Int),([]:aO),(0:Int),(22:Int),()),((0:Int),([]:aO),(0:Int),(0:Int),()),22,?_,?_,by decide,fun h=>by cases h⟩
  ·show AV (v,c,x,()) path=_;unfold AV;have:lB ((v,c,x,()),path,false,())=some (((0:Int),([]:aO),(0:Int),(22:Int),()),()):=by show rv (v,c,x,()) path false=_;unfold rv;rw [I0 _ (by omega),hk];rfl
   rw [this];rfl
  ·show Bi v c path=_;unfold Bi;rw [B2,hk];rfl
 | true=>
  obtain ⟨r,bE,cp,gi⟩:=aaO v c path false hw hc hk
  have e':vK ((v,c,x,()),path,())=cond (bN r==2) (cond (!(bw (nameOf r) [])) (some (r,0,())) (cond (bN r==0) (some (r,17,())) (some (r,bN r,())))) (cond (bN r==0) (some (r,17,())) (some (r,bN r,()))):=by
   show AV (v,c,x,()) path=_;unfold AV;have:lB ((v,c,x,()),path,false,())=some (r,()):=by show rv (v,c,x,()) path false=_;unfold rv;rw [I0 _ (by omega),hk];simp only [al,Bool.not_true,cond_false];rw [cp];rfl
   rw [this];rfl
  have de:wg (v,c,path,())=cond (bN r==0) (some (r,17,())) (cond (bN r==2) (cond (!(bw (nameOf r) [])) (some (r,0,())) (some (r,bN r,()))) (some (r,bN r,()))):=by show Bi v c path=_;unfold Bi;rw [B2,hk];simp only [al,Bool.not_true,cond_false];rw [gi];rfl
  rw [e',de];by_cases h0:bN r=0
  ·rw [cK h0,bY (show bN r≠2 by omega)];exact⟨r,r,17,rfl,rfl,by decide,fun h=>by cases h⟩
  ·rw [bY h0];by_cases h2:bN r=2
   ·rw [cK h2]
    cases hn:bw (nameOf r) [] with
    | true=>exact⟨r,r,bN r,rfl,rfl,bE.1.rg,fun h=>absurd h h0⟩
    | false=>exact⟨r,r,0,rfl,rfl,by decide,fun _=>⟨rfl,bE.1,h2,fun h=>(by rw [oi.2 h] at hn;cases hn),by
     show wj v c path false=_;unfold wj;rw [B2,hk];simp only [al,Bool.not_true,cond_false]
     rw [gi];rfl⟩⟩
   ·rw [bY h2];exact⟨r,r,bN r,rfl,rfl,bE.1.rg,fun h=>absurd h h0⟩
def ca(x:aS)(N:List aJ.D):aS:=(x.1,x.2.1,x.2.2.1,x.2.2.2.1,x.2.2.2.2.1,x.2.2.2.2.2.1,N,x.2.2.2.2.2.2.2.1,x.2.2.2.2.2.2.2.2.1,())
def ec(s:aO)(d:aJ.D):Bool:=eg d.1 s
def ins(N:List aJ.D)(s:aO)(id:Int):List aJ.D:=N.takeWhile (ec s)++[(s,id,())]++N.dropWhile (ec s)
theorem Jb{α : Type}(p : α → Bool)(l:List α):l.take (l.takeWhile p).length=l.takeWhile p:=by have:=List.take_left' (l₁:=l.takeWhile p) (l₂:=l.dropWhile p) rfl;rwa [List.takeWhile_append_dropWhile] at this
theorem Jc{α : Type}(p : α → Bool)(l:List α):l.drop (l.takeWhile p).length=l.dropWhile p:=by have:=List.drop_left' (l₁:=l.takeWhile p) (l₂:=l.dropWhile p) rfl;rwa [List.takeWhile_append_dropWhile] at this
theorem QV{α : Type}{p : α → Bool}{x : α} : ∀ {l:List α},x∈l.takeWhile p→p x=true
 | [],h=>by simp at h
 | y :: l,h=>by
  rw [List.takeWhile_cons] at h;cases aR:p y
  ·rw [aR] at h;simp at h
  ·rw [aR] at h;simp only [if_true,List.mem_cons] at h;rcases h with rfl | h
   ·exact aR
   ·exact QV h
theorem aaT{α : Type}{p : α → Bool}{x : α}{r:List α} : ∀ {l:List α},l.dropWhile p=x :: r→p x=false
 | [],h=>by simp at h
 | y :: l,h=>by
  rw [List.dropWhile_cons] at h;cases aR:p y
  ·rw [aR] at h;simp only [Bool.false_eq_true,if_false] at h;injection h with h1 h2
   rw [← h1];exact aR
  ·rw [aR] at h;simp only [if_true] at h;exact aaT h
theorem QW{α : Type}(p : α → Bool)(l:List α):(l.takeWhile p).length≤l.length:=by have:=congrArg List.length (List.takeWhile_append_dropWhile (p:=p) (l:=l));rw [List.length_append] at this;omega
theorem zj(N:List aJ.D)(s:aO)(id:Int):(ins N s id).length=N.length+1:=by have:=congrArg List.length (List.takeWhile_append_dropWhile (p:=ec s) (l:=N));rw [List.length_append] at this;unfold ins;simp only [List.length_append,List.length_cons,List.length_nil];omega
theorem aaU{N:List aJ.D}{s:aO} : ∀ {j:Nat},j<(N.takeWhile (ec s)).length→eg (I aJ N j).1 s=true:=by
 intro j hj;have Jd:j<N.length:=Nat.lt_of_lt_of_le hj (QW _ _);have h1:(N.takeWhile (ec s))[j]∈N.takeWhile (ec s):=List.getElem_mem hj;have h2:=QV h1
 have e:(N.takeWhile (ec s))[j]=I aJ N j:=by
  rw [c2 Jd];have:=List.takeWhile_append_dropWhile (p:=ec s) (l:=N);have h3:(N.takeWhile (ec s)++N.dropWhile (ec s))[j]?=N[j]?:=by rw [this]
  rw [List.getElem?_append_left hj,List.getElem?_eq_getElem hj,List.getElem?_eq_getElem Jd] at h3;exact aW h3
 rw [e] at h2;exact h2
theorem aaV{N:List aJ.D}{s:aO}(h:(N.takeWhile (ec s)).length<N.length):eg (I aJ N (N.takeWhile (ec s)).length).1 s=false:=by have h1:=Jc (ec s) N;have h2:=zi h;rw [h1] at h2;rw [c2 h];exact aaT (p:=ec s) h2
theorem QX(v:ah.D)(c:aK.D)(x:aI.D)(dir:Int)(s:aO)(id:Int)(hl:v.2.1.length≤1048576){i:Nat}(h:bC v.2.1 dir=some i)(hn:(ay (I J v.2.1 i)).length≤1048576) :
  tj ((v,c,x,()),dir,s,id,())=some (((v.1,v.2.1.set i (ca (I J v.2.1 i) (ins (ay (I J v.2.1 i)) s id)),()),c,x,()),()):=by
 show Fu (ti aM) (v,c,x,()) dir s id=_;unfold Fu;rw [QM v dir hl,h];simp only [al,iB];obtain ⟨hi,cj⟩:=b9 h;generalize hN:ay (I J v.2.1 i)=N at hn;have cC:=QW (ec s) N;have o8:∀m,(ti (m+1)).bs s id (i:Int) ((N.takeWhile (ec s)).length:Int) (v,c,x,())=some (((v.1,v.2.1.set i (ca (I J v.2.1 i) (ins N s id)),()),c,x,()),()):=by intro m;show Nj (ti m) s id (i:Int) ((N.takeWhile (ec s)).length:Int) (v,c,x,())=_;unfold Nj;rw [br hi];simp only [al,Nat.beq_refl,cond_true];show Option.bind (insF (ay (I J v.2.1 i)) ((N.takeWhile (ec s)).length:Int) [(s,id,())]) _=_;rw [hN];unfold insF;rw [if_pos ⟨Int.natCast_nonneg _,Int.ofNat_le.2 cC,rfl,by omega⟩];simp only [al,Int.toNat_natCast];rw [Jb,Jc];rfl
 have kc:=px 1 (fun m j=>(ti m).k2 s id (i:Int) (j:Int) (v,c,x,())) (some (((v.1,v.2.1.set i (ca (I J v.2.1 i) (ins N s id)),()),c,x,()),())) (N.takeWhile (ec s)).length 2 (fun j hj B y he=>he.step fun m=>by
  show AW (ti m) s id (i:Int) (j:Int) (v,c,x,())=_;unfold AW;rw [br hi];simp only [al];show cond (decide ((j:Int)<((ay (I J v.2.1 i)).length:Int))) ((ix (ay (I J v.2.1 i)).length (j:Int)).bind fun v3=>cond (eg (I aJ (ay (I J v.2.1 i)) v3).1 s) _ _) _=_;rw [hN,b1 (by omega),br (by omega)];simp only [cond_true,al]
  rw [aaU hj,dA j (by omega)];rfl) (b3.now 2 fun m=>by
  show AW (ti (m+1)) s id (i:Int) ((N.takeWhile (ec s)).length:Int) (v,c,x,())=_;unfold AW;rw [br hi];simp only [al];show cond (decide (((N.takeWhile (ec s)).length:Int)<((ay (I J v.2.1 i)).length:Int))) ((ix (ay (I J v.2.1 i)).length ((N.takeWhile (ec s)).length:Int)).bind fun v3=>cond (eg (I aJ (ay (I J v.2.1 i)) v3).1 s) _ _) _=_;rw [hN];rcases Nat.lt_or_ge (N.takeWhile (ec s)).length N.length with h1 | h1
  ·rw [b1 h1,br h1];simp only [cond_true,al];rw [aaV h1];exact o8 m
  ·rw [cw h1]
   exact o8 m)
 exact lH kc (by omega)
def cn(N:List aJ.D)(s:aO):List aJ.D:=N.filter fun d=> !bw d.1 s
def goN(l:List aS)(id:Int):List aS:=cond (decide (cA l id=0)) (l.filter fun y=> !(y.1==id)) l
theorem Je{l:List aS}{i:Nat}{y:aS}(hi:i<l.length):dP (l.set i y) +(ay (I J l i)).length=dP l +(ay y).length:=by
 unfold dP
 induction l generalizing i with
 | nil=>simp at hi
 | cons z l ih=>
  cases i with
  | zero=>simp only [List.set_cons_zero,List.map_cons,List.sum_cons];show _ +(ay z).length=_;omega
  | succ i=>have:=ih (i:=i) (by simpa using hi);simp only [List.set_cons_succ,List.map_cons,List.sum_cons];show _ +(ay (I J l i)).length=_;omega
theorem kE(x:aS)(N:List aJ.D):ay (ca x N)=N:=rfl
theorem w4(N:List aJ.D)(s:aO):(cn N s).length≤N.length:=List.length_filter_le _ _
theorem QY(v:ah.D)(c:aK.D)(x:aI.D)(dir:Int)(s:aO)(goes:Bool)(hl:v.2.1.length≤1048576)(hm:dP v.2.1≤1048576){i:Nat}(h:bC v.2.1 dir=some i) :
  pb ((v,c,x,()),dir,s,goes,())=some (((v.1,cond goes (goN (v.2.1.set i (ca (I J v.2.1 i) (cn (ay (I J v.2.1 i)) s))) (dR (ay (I J v.2.1 i)) s)) (v.2.1.set i (ca (I J v.2.1 i) (cn (ay (I J v.2.1 i)) s))),()),c,x,()),()):=by
 show Nr (v,c,x,()) dir s goes=_;unfold Nr;rw [QM v dir hl,h];simp only [al,iB];obtain ⟨hi,cj⟩:=b9 h;have hn:=Nat.le_trans (gA hi) hm;rw [br hi];simp only [al,Nat.beq_refl,cond_true];rw [aao _ _ hn];simp only [al];show Option.bind (FC (ay (I J v.2.1 i),s,())) _=_;rw [anz _ _ (b_ (by omega))];simp only [al];show Nq goes ((i:Int),v,()) (dR (ay (I J v.2.1 i)) s,()) (v,c,x,()) (v.2.1.set i (ca (I J v.2.1 i) (cn (ay (I J v.2.1 i)) s)))=_;have oa:(v.2.1.set i (ca (I J v.2.1 i) (cn (ay (I J v.2.1 i)) s))).length≤1048576:=by rw [List.length_set];exact hl
 have lK:dP (v.2.1.set i (ca (I J v.2.1 i) (cn (ay (I J v.2.1 i)) s)))≤1048576:=by have:=Je (l:=v.2.1) (y:=ca (I J v.2.1 i) (cn (ay (I J v.2.1 i)) s)) hi;rw [kE] at this;have:=w4 (ay (I J v.2.1 i)) s;omega
 generalize v.2.1.set i (ca (I J v.2.1 i) (cn (ay (I J v.2.1 i)) s))=l at oa lK;generalize dR (ay (I J v.2.1 i)) s=id;unfold Nq;cases goes
 ·rfl
 ·simp only [cond_true];show Option.bind (AQ (((v.1,l,()):ah.D),id,())) _=_;rw [Z1 (v.1,l,()) id oa lK];simp only [al];unfold goN;by_cases h0:cA l id=0
  ·rw [show(((cA l id:Nat):Int)==0)=true by rw [h0];rfl,decide_eq_true h0];simp only [cond_true];show Option.bind (cond (room l.length) _ none) _=_;rw [b_ (by omega)];rfl
  ·rw [show(((cA l id:Nat):Int)==0)=false by rw [beq_eq_false_iff_ne];omega,decide_eq_false h0];rfl
theorem Jf(v:ah.D)(n:aS)(hl:v.2.1.length≤1048576){i:Nat}(h:bC v.2.1 n.1=some i):pf (v,n,())=some ((v.1,v.2.1.set i n,()),()):=by show Bj v n=_;unfold Bj;rw [qy v _ hl,h];simp only [al];rw [show decide (iB (some i)<0)=false from IL];simp only [cond_false,iB];rw [br (b9 h).1];simp only [al,Nat.zero_add]
theorem anA(v:ah.D)(n:aS)(hl:v.2.1.length≤1048576)(h:bC v.2.1 n.1=none):pf (v,n,())=some ((v.1,v.2.1++[n],()),()):=by show Bj v n=_;unfold Bj;rw [qy v _ hl,h];simp only [al,IL,Option.isNone_none,cond_true];rw [b_ (by simp;omega)];rfl
theorem QZ(v:ah.D)(dir:Int)(s:aO)(id:Int)(hl:v.2.1.length≤1048576){i:Nat}(h:bC v.2.1 dir=some i)(hn:(ay (I J v.2.1 i)).length≤1048576)(hs:∀d,d∈ay (I J v.2.1 i)→d.1≠s) :
  tt (v,dir,s,id,())=some ((v.1,v.2.1.set i (ca (I J v.2.1 i) (ins (ay (I J v.2.1 i)) s id)),()),()):=by
 show Hd (iT aM) v dir s id=_;unfold Hd;rw [jR v dir hl h];simp only [al];obtain ⟨hi,cj⟩:=b9 h;generalize hN:ay (I J v.2.1 i)=N at hn hs;have cC:=QW (ec s) N;have hw:bC v.2.1 (ca (I J v.2.1 i) (ins N s id)).1=some i:=by rw [show(ca (I J v.2.1 i) (ins N s id)).1=dir from cj];exact h
 have aaW:∀m,(iT (m+1)).vO v (0,([]:List J.D),()) (I J v.2.1 i) (ins N s id)=some ((v.1,v.2.1.set i (ca (I J v.2.1 i) (ins N s id)),()),()):=by intro m;show On (iT m) v (0,([]:List J.D),()) (I J v.2.1 i) (ins N s id)=_;unfold On;show Option.bind (pf (v,ca (I J v.2.1 i) (ins N s id),())) _=_;rw [Jf v _ hl hw];rfl
 have anB:∀(r j:Nat) (acc:List aJ.D),j+r=N.length→acc++N.drop j=ins N s id→acc.length≤j+1→b3 (fun m=>(iT m).bp s id true (j:Int) v (0,([]:List J.D),()) (I J v.2.1 i) acc) (2*r+2) (some ((v.1,v.2.1.set i (ca (I J v.2.1 i) (ins N s id)),()),())):=by
  intro r
  induction r with
  | zero=>
   intro j acc hj he ha;refine b3.now 2 fun m=>?_
   show pg (iT (m+1)) s id true (j:Int) v (0,([]:List J.D),()) (I J v.2.1 i) acc=_;unfold pg;show cond (decide ((j:Int)<((ay (I J v.2.1 i)).length:Int))) _ _=_;rw [hN,cw (by omega)];rw [List.drop_of_length_le (by omega),List.append_nil] at he;rw [he];exact aaW m
  | succ r ih=>
   intro j acc hj he ha;have hjl:j<N.length:=by omega
   have:=ih (j+1) (acc++[I aJ N j]) (by omega) (by rw [List.append_assoc,List.singleton_append,← drop_cons (t:=aJ) hjl];exact he) (by simp;omega);refine(this.jump (f:=fun m=>(iT m).bp s id true (j:Int) v (0,([]:List J.D),()) (I J v.2.1 i) acc) 2 fun m=>?_).mono (by omega);show pg (iT (m+1)) s id true (j:Int) v (0,([]:List J.D),()) (I J v.2.1 i) acc=_;unfold pg;show cond (decide ((j:Int)<((ay (I J v.2.1 i)).length:Int))) _ _=_;rw [hN,b1 hjl];simp only [cond_true,Bool.not_true,cond_false];show wh (iT m) s id true (j:Int) v (0,([]:List J.D),()) (I J v.2.1 i) acc=_;unfold wh;show Option.bind (ix (ay (I J v.2.1 i)).length (j:Int)) (fun v1=>cond (room (acc.length+1)) ((iT m).bp s id true (ax ((j:Int)+1)) v (0,([]:List J.D),()) (I J v.2.1 i) (acc++[I aJ (ay (I J v.2.1 i)) v1])) none)=_;rw [hN,br hjl];simp only [al];rw [b_ (by omega),dA j (by omega)];rfl
 have kc:=px 2 (fun m j=>(iT m).bp s id false (j:Int) v (0,([]:List J.D),()) (I J v.2.1 i) (N.take j)) (some ((v.1,v.2.1.set i (ca (I J v.2.1 i) (ins N s id)),()),())) (N.takeWhile (ec s)).length (2*N.length+8) (fun j hj B y he=>(he.jump (f:=fun m=>(iT m).bp s id false (j:Int) v (0,([]:List J.D),()) (I J v.2.1 i) (N.take j)) 2 fun m=>by
  have hjl:j<N.length:=by omega
  show pg (iT (m+1)) s id false (j:Int) v (0,([]:List J.D),()) (I J v.2.1 i) (N.take j)=_;unfold pg;show cond (decide ((j:Int)<((ay (I J v.2.1 i)).length:Int))) (cond (!false) ((ix (ay (I J v.2.1 i)).length (j:Int)).bind fun v1=>cond (eg s (I aJ (ay (I J v.2.1 i)) v1).1) _ _) _) _=_;rw [hN,b1 hjl,br hjl];simp only [cond_true,Bool.not_false,al];rw [aaC (aaU hj)];simp only [cond_false];show wh (iT m) s id false (j:Int) v (0,([]:List J.D),()) (I J v.2.1 i) (N.take j)=_;unfold wh;show Option.bind (ix (ay (I J v.2.1 i)).length (j:Int)) (fun v1=>cond (room ((N.take j).length+1)) ((iT m).bp s id false (ax ((j:Int)+1)) v (0,([]:List J.D),()) (I J v.2.1 i) (N.take j++[I aJ (ay (I J v.2.1 i)) v1])) none)=_;rw [hN,br hjl];simp only [al]
  rw [b_ (by rw [List.length_take];omega),dA j (by omega),c2 hjl,← List.take_succ_eq_append_getElem hjl];rfl)) (by
  rcases Nat.lt_or_ge (N.takeWhile (ec s)).length N.length with h1 | h1
  ·
   generalize hj:(N.takeWhile (ec s)).length=j at h1 cC;have r7:N.take j++[(s,id,())]++N.drop j=ins N s id:=by rw [← hj,Jb,Jc];rfl
   have bO:eg s (I aJ N j).1=true:=by have:=aaV (N:=N) (s:=s) (by omega);rw [hj] at this;rw [QR (hs _ (c9 h1)),this];rfl
   have:=anB (N.length-(j+1)) (j+1) (N.take j++[(s,id,())]++[I aJ N j]) (by omega) (by rw [List.append_assoc _ [I aJ N j],List.singleton_append,← drop_cons (t:=aJ) h1];exact r7) (by simp;omega);refine(this.jump (f:=fun m=>(iT m).bp s id false (j:Int) v (0,([]:List J.D),()) (I J v.2.1 i) (N.take j)) 2 fun m=>?_).mono (by omega);show pg (iT (m+1)) s id false (j:Int) v (0,([]:List J.D),()) (I J v.2.1 i) (N.take j)=_;unfold pg;show cond (decide ((j:Int)<((ay (I J v.2.1 i)).length:Int))) (cond (!false) ((ix (ay (I J v.2.1 i)).length (j:Int)).bind fun v1=>cond (eg s (I aJ (ay (I J v.2.1 i)) v1).1) _ _) _) _=_;rw [hN,b1 h1,br h1];simp only [cond_true,Bool.not_false,al];rw [bO];simp only [cond_true];rw [b_ (by simp;omega)];simp only [cond_true];show wh (iT m) s id true (j:Int) v (0,([]:List J.D),()) (I J v.2.1 i) (N.take j++[(s,id,())])=_;unfold wh;show Option.bind (ix (ay (I J v.2.1 i)).length (j:Int)) (fun v1=>cond (room ((N.take j++[(s,id,())]).length+1)) ((iT m).bp s id true (ax ((j:Int)+1)) v (0,([]:List J.D),()) (I J v.2.1 i) ((N.take j++[(s,id,())])++[I aJ (ay (I J v.2.1 i)) v1])) none)=_;rw [hN,br h1];simp only [al];rw [b_ (by simp;omega),dA j (by omega)];rfl
  ·
   have hj:(N.takeWhile (ec s)).length=N.length:=by omega
   have r7:N++[(s,id,())]=ins N s id:=by unfold ins;rw [← Jc,← Jb,hj,List.take_length,List.drop_length,List.append_nil]
   rw [hj,List.take_length];refine(b3.now 2 fun m=>?_).mono (by omega);show pg (iT (m+1)) s id false (N.length:Int) v (0,([]:List J.D),()) (I J v.2.1 i) N=_;unfold pg;show cond (decide ((N.length:Int)<((ay (I J v.2.1 i)).length:Int))) _ _=_;rw [hN,cw (Nat.le_refl _)];simp only [cond_false,Bool.not_false,cond_true];rw [b_ (by simp;omega),r7]
   exact aaW m)
 exact lH kc (by omega)
theorem jC{l:List aS}{i j:Nat}{y:aS}(hi:i<l.length):I J (l.set i y) j=if i=j then y else I J l j:=by
 by_cases hj:j<l.length
 ·rw [c2 (by rw [List.length_set];exact hj),c2 hj,List.getElem_set]
 ·rw [if_neg (by omega)];unfold I;rw [List.getD_eq_getElem?_getD,List.getD_eq_getElem?_getD,List.getElem?_eq_none (by rw [List.length_set];omega),List.getElem?_eq_none (by omega)]
theorem aaX{n:Nat}{P Q:Nat→Bool}(h:∀i,i<n→P i=Q i):fy n P=fy n Q:=by
 cases hq:fy n Q with
 | none=>exact mm.2 fun i hi=>by rw [h i hi];exact mm.1 hq i hi
 | some k=>obtain ⟨h1,h2,h3⟩:=iV.1 hq;exact iV.2 ⟨h1,by rw [h k h1];exact h2,fun j hj=>by rw [h j (by omega)];exact h3 j hj⟩
theorem Jg{l:List aS}{i:Nat}{y:aS}(hi:i<l.length)(aR:y.1=(I J l i).1)(id:Int):bC (l.set i y) id=bC l id:=by
 unfold bC;rw [List.length_set];refine aaX fun j hj=>?_
 rw [jC hi];split
 ·rename_i h;rw [aR,h]
 ·rfl
def B7(l:List aS):Prop:=l.Pairwise fun a b=>bf a≠bf b
theorem B8{l:List aS} : iX l↔B7 l:=by
 unfold B7;rw [List.pairwise_iff_getElem];constructor
 ·intro h i j hi hj jc he;have h1:=h i hi;have h2:=h j hj;rw [c2 hi] at h1;rw [c2 hj] at h2;have:(l[i]).1=(l[j]).1:=he;rw [this,h2] at h1;have:=aW h1;omega
 ·intro h x hx;unfold bC;rw [iV];refine⟨hx,by simp,fun j hj=>?_⟩;rw [beq_eq_false_iff_ne,c2 hx,c2 (i:=j) (by omega)];exact h j x (by omega) hx hj
theorem oj{l:List aS}{id:Int} :(bC l id).isSome=true↔∃x,x∈l∧x.1=id:=by
 constructor
 ·intro h;obtain ⟨i,hi⟩:=Option.isSome_iff_exists.1 h;obtain ⟨h1,h2⟩:=b9 hi;exact⟨_,c9 h1,h2⟩
 ·rintro ⟨x,hx,he⟩
  obtain ⟨i,hi,aC⟩:=fA hx
  cases h:bC l id with
  | some k=>rfl
  | none=>have:=mm.1 h i hi;rw [aC,he] at this;simp at this
theorem anC{l:List aS}{n:aS}{id:Int}{i:Nat}(h:bC l id=some i):bC (l++[n]) id=some i:=by
 obtain ⟨h1,h2,h3⟩:=iV.1 h;have aC:∀j,j<l.length→I J (l++[n]) j=I J l j:=fun j hj=>by rw [c2 (by simp;omega),c2 hj,List.getElem_append_left hj]
 exact iV.2 ⟨by simp;omega,by rw [aC i h1];exact h2,fun j hj=>by rw [aC j (by omega)];exact h3 j hj⟩
theorem Q0{l:List aS}{n:aS}{j:Nat}(hj:j<l.length):I J (l++[n]) j=I J l j:=by rw [c2 (by simp;omega),c2 hj,List.getElem_append_left hj]
theorem aaY{l:List aS}{n y:aS}{i:Nat}(hi:i<l.length):(l++[n]).set i y=l.set i y++[n]:=by rw [List.set_append_left _ _ hi]
theorem Q1{l:List aS}{id:Int}(h:cA l id=0):∀x,x∈l→∀d,d∈ay x→d.2.1≠id:=by
 intro x hx d af he;have h1:dB (ay x) id≤cA l id:=by unfold cA;exact QF (f:=fun x=>dB (ay x) id) hx
 have h2:d∈(ay x).filter fun d=>d.2.1==id:=List.mem_filter.2 ⟨af,by simpa using he⟩
 have h3:0<dB (ay x) id:=List.length_pos_of_mem h2;omega
theorem aaZ{l:List aS}{i:Nat}{y:aS}(hi:i<l.length):bytesOf (l.set i y) +(bX (I J l i)).length=bytesOf l +(bX y).length:=by
 unfold bytesOf
 induction l generalizing i with
 | nil=>simp at hi
 | cons z l ih=>
  cases i with
  | zero=>simp only [List.set_cons_zero,List.map_cons,List.sum_cons];show _ +(bX z).length=_;omega
  | succ i=>have:=ih (i:=i) (by simpa using hi);simp only [List.set_cons_succ,List.map_cons,List.sum_cons];show _ +(bX (I J l i)).length=_;omega
theorem Jh{α : Type}(f : α → Nat)(p : α → Bool):∀l:List α,((l.filter p).map f).sum≤(l.map f).sum
 | []=>Nat.le_refl _
 | x :: l=>by
  have:=Jh f p l;rw [List.filter_cons];split
  ·simp only [List.map_cons,List.sum_cons];omega
  ·simp only [List.map_cons,List.sum_cons];omega
structure ar(B:Nat)(l:List aS):Prop where
 len:l.length≤B
 dw:dP l≤B
 bytes:bytesOf l≤B
 iY:iX l
 iZ:tQ l
 bare:∀i,i<l.length→kindOf (I J l i)≠2→fQ (I J l i)=0∧fB (I J l i)=0∧ay (I J l i)=[]
theorem ar.mono{B kp:Nat}{l:List aS}(h:ar B l)(hb:B≤kp):ar kp l:=⟨Nat.le_trans h.len hb,Nat.le_trans h.dw hb,Nat.le_trans h.bytes hb,h.iY,h.iZ,h.bare⟩
theorem b4.dw{v:ah.D}(h:b4 v):dP v.2.1≤288:=by
 have key:∀l:List aS,(∀x,x∈l→(ay x).length≤12)→dP l≤l.length*12:=by
  intro l
  induction l with
  | nil=>intro _;exact Nat.le_refl _
  | cons x l ih=>
   intro hx;have h1:=hx x List.mem_cons_self;have h2:=ih fun y aR=>hx y (List.mem_cons_of_mem _ aR)
   show(ay x).length+dP l≤(l.length+1)*12;omega
 have:=key v.2.1 fun x hx=>by
  obtain ⟨i,hi,he⟩:=fA hx;have h1:=h.ino i hi;rw [he] at h1;by_cases hk:kindOf x=2
  ·exact(h1.dir hk).2.2.2
  ·rw [(h1.plain hk).2.2];simp
 have:=h.len;omega
theorem b4.st{v:ah.D}(h:b4 v):ar 400 v.2.1:=
 ⟨by have:=h.len;omega,by have:=h.dw;omega,h.bytes,h.iY,h.iZ,fun i hi hk=>(h.ino i hi).plain hk⟩
theorem Ji{l:List aS} : tQ l↔∀x,x∈l→∀d,d∈ay x→∃y,y∈l∧y.1=d.2.1:=by
 constructor
 ·intro h x hx d af;obtain ⟨i,hi,he⟩:=fA hx;exact oj.1 (h i hi d (by rw [he];exact af))
 ·intro h i hi d af;exact oj.2 (h _ (c9 hi) d af)
theorem ar.set{B k:Nat}{l:List aS}{i:Nat}{y:aS}(h:ar B l)(hi:i<l.length)(aR:y.1=(I J l i).1)(hex:∀d,d∈ay y→(bC l d.2.1).isSome=true)
  (hb:kindOf y≠2→fQ y=0∧fB y=0∧ay y=[]) (hn:(ay y).length≤(ay (I J l i)).length+k) (af:(bX y).length≤(bX (I J l i)).length+k):ar (B+k) (l.set i y):=by
 have h1:=Je (l:=l) (y:=y) hi;have h2:=aaZ (l:=l) (y:=y) hi;have h3:=h.dw;have h4:=h.bytes;have a7:=h.len;refine⟨by rw [List.length_set];omega,by omega,by omega,fun x hx=>?_,fun j hj d af=>?_,fun j hj hk=>?_⟩
 ·rw [List.length_set] at hx;rw [Jg hi aR,jC hi];split
  ·rename_i he;subst he;rw [aR];exact h.iY i hx
  ·exact h.iY x hx
 ·rw [List.length_set] at hj;rw [jC hi] at af;rw [Jg hi aR];split at af
  ·exact hex d af
  ·exact h.iZ j hj d af
 ·rw [List.length_set] at hj;rw [jC hi] at hk ⊢;split at hk
  ·rename_i he;rw [if_pos he];exact hb hk
  ·rename_i he;rw [if_neg he];exact h.bare j hj hk
theorem anD{l:List aS}(p:aS→Bool)(h:B7 l):B7 (l.filter p):=List.Pairwise.sublist (List.filter_sublist) h
theorem ar.go{B:Nat}{l:List aS}(h:ar B l)(id:Int):ar B (goN l id):=by
 unfold goN;by_cases h0:cA l id=0
 ·rw [decide_eq_true h0];simp only [cond_true];refine⟨Nat.le_trans (List.length_filter_le _ _) h.len,Nat.le_trans (Jh _ _ _) h.dw,Nat.le_trans (Jh _ _ _) h.bytes,B8.2 (anD _ (B8.1 h.iY)),Ji.2 fun x hx d af=>?_,fun i hi hk=>?_⟩
  ·have hx:=(List.mem_filter.1 hx).1;obtain ⟨y,aR,he⟩:=Ji.1 h.iZ x hx d af;refine⟨y,List.mem_filter.2 ⟨aR,?_⟩,he⟩;have:=Q1 h0 x hx d af;rw [Bool.not_eq_true',beq_eq_false_iff_ne,he];exact this
  ·have hx:=(List.mem_filter.1 (c9 (t:=J) hi)).1;obtain ⟨j,hj,he⟩:=fA hx;rw [← he] at hk ⊢;exact h.bare j hj hk
 ·rw [decide_eq_false h0];exact h
theorem ar.app{B k:Nat}{l:List aS}{n:aS}(h:ar B l)(cj:bC l n.1=none)(hn:ay n=[])(af:(bX n).length≤k)(hk:1≤k)(hb:kindOf n≠2→fQ n=0∧fB n=0):ar (B+k) (l++[n]):=by
 have h3:=h.dw;have h4:=h.bytes;have a7:=h.len;refine⟨by simp;omega,by unfold dP at *;simp [hn];omega,by unfold bytesOf at *;simp;omega,B8.2 ?_,Ji.2 fun x hx d jO=>?_,fun i hi hk=>?_⟩
 ·refine List.pairwise_append.2 ⟨B8.1 h.iY,List.pairwise_singleton _ _,fun a ha b dM he=>?_⟩;simp only [List.mem_singleton] at dM;subst dM;have:(bC l b.1).isSome=true:=oj.2 ⟨a,ha,he⟩;rw [cj] at this;cases this
 ·rcases List.mem_append.1 hx with hx | hx
  ·obtain ⟨y,aR,he⟩:=Ji.1 h.iZ x hx d jO;exact⟨y,List.mem_append_left _ aR,he⟩
  ·simp only [List.mem_singleton] at hx;subst hx;rw [hn] at jO;simp at jO
 ·rcases Nat.lt_or_ge i l.length with hl | hl
  ·rw [Q0 hl] at hk ⊢;exact h.bare i hl hk
  ·have:i=l.length:=by simp at hi;omega
   subst this;have he:I J (l++[n]) l.length=n:=by rw [c2 (by simp)];simp
   rw [he] at hk ⊢;exact⟨(hb hk).1,(hb hk).2,hn⟩
def fa(l:List aS):Int:=cond (decide ((bytesOf l:Int)>400)) 28 (cond (jA l) 122 0)
theorem aa0(l:List aS):0≤fa l∧fa l≤200:=by unfold fa;cases decide ((bytesOf l:Int)>400) <;> cases jA l <;> decide
theorem B9{B:Nat}(v:ah.D)(c:aK.D)(x:aI.D)(h:ar B v.2.1)(hC:B≤1048576):n7 ((v,c,x,()),())=some (fa v.2.1,()):=by have h1:=Nat.le_trans h.len hC;have h2:=Nat.le_trans h.dw hC;have h3:=Nat.le_trans h.bytes hC;show Nk (v,c,x,())=_;unfold Nk fa;show Option.bind (vw (v,())) _=_;rw [ZW v h1 h3];simp only [al];show cond _ _ (Option.bind (E0 (v.2.1,v,())) _)=_;rw [amV v h1 h2 h3 h.iY h.iZ];simp only [al];cases decide ((bytesOf v.2.1:Int)>400) <;> cases jA v.2.1 <;> rfl
theorem anE{B:Nat}(v:ah.D)(h:ar B v.2.1)(hC:B≤1048576):Ol (v,())=some (fa v.2.1,()):=by have h1:=Nat.le_trans h.len hC;have h2:=Nat.le_trans h.dw hC;have h3:=Nat.le_trans h.bytes hC;show Ok v=_;unfold Ok fa;rw [ZV v h1 h3];simp only [al];rw [amW v h1 h2 h3 (fun i hi hk=>⟨(h.bare i hi hk).1,(h.bare i hi hk).2.1⟩)];simp only [al];cases decide ((bytesOf v.2.1:Int)>400) <;> cases jA v.2.1 <;> rfl
theorem B_{B:Nat}(u v:ah.D)(h:ar B v.2.1)(hC:B≤1048576):rK (u,v,())=some (cond (fa v.2.1==0) v u,(fa v.2.1,[],()),()):=by
 show Om u v=_;unfold Om;rw [anE v h hC];simp only [al];by_cases h0:fa v.2.1=0
 ·rw [ek h0,cK h0,h0];rfl
 ·rw [dq h0,bY h0];rfl
def B':List aJ.D→aO→Int
 | [],_=>0
 | d :: r,s=>cond (bw d.1 s) d.2.1 (B' r s)
theorem anF{n:Nat}{P:Nat→Bool} : fy (n+1) P=cond (P 0) (some 0) ((fy n fun i=>P (i+1)).map (· + 1)):=by
 cases h0:P 0
 ·simp only [cond_false]
  cases h:fy n fun i=>P (i+1) with
  | none=>
   refine mm.2 fun i hi=>?_
   cases i with
   | zero=>exact h0
   | succ i=>exact mm.1 h i (by omega)
  | some k=>
   obtain ⟨h1,h2,h3⟩:=iV.1 h;refine iV.2 ⟨show k+1<n+1 by omega,h2,fun j hj=>?_⟩;have hj:j<k+1:=hj
   cases j with
   | zero=>exact h0
   | succ j=>exact h3 j (by omega)
 ·exact iV.2 ⟨by omega,h0,fun j hj=>by omega⟩
theorem look_eq(s:aO):∀N:List aJ.D,dR N s=B' N s
 | []=>rfl
 | d :: r=>by
  unfold dR B';rw [List.length_cons,anF];show B3 (d :: r) (cond (bw d.1 s) _ _)=_;cases af:bw d.1 s
  ·simp only [cond_false];rw [← look_eq s r];unfold dR;show B3 (d :: r) ((fy r.length (r1 r s)).map (· + 1))=_;cases fy r.length (r1 r s) <;> rfl
  ·rfl
def w5(N:List aJ.D)(s:aO)(id:Int):Int:=N.foldl (fun a d=>cond (bw d.1 s) d.2.1 a) id
theorem aa1{s:aO}{id:Int} : ∀ {N:List aJ.D},(∀d,d∈N→d.1≠s)→w5 N s id=id
 | [],_=>rfl
 | d :: r,h=>by
  have h1:bw d.1 s=false:=by unfold bw;simpa using h d List.mem_cons_self
  unfold w5;rw [List.foldl_cons,h1];exact aa1 fun e he=>h e (List.mem_cons_of_mem _ he)
theorem aa2{s:aO} : ∀ {N:List aJ.D},jB N→w5 N s 0=dR N s
 | [],_=>rfl
 | d :: r,h=>by
  obtain ⟨h1,h2⟩:=List.pairwise_cons.1 h;rw [look_eq,B',← look_eq];unfold w5;rw [List.foldl_cons];cases af:bw d.1 s
  ·exact aa2 h2
  ·have af:d.1=s:=by unfold bw at af;simpa using af
   refine aa1 fun e he=>?_
   have:=h1 e he;rw [af] at this;exact(I4 this).symm
theorem Q2(v:ah.D)(dir:Int)(s:aO)(hl:v.2.1.length≤1048576)(hm:dP v.2.1≤1048576){i:Nat}(h:bC v.2.1 dir=some i)(hs:jB (ay (I J v.2.1 i))) :
  pj (v,dir,s,())=some ((v.1,goN (v.2.1.set i (ca (I J v.2.1 i) (cn (ay (I J v.2.1 i)) s))) (dR (ay (I J v.2.1 i)) s),()),()):=by
 show Hf (lD aM) v dir s=_;unfold Hf;rw [jR v dir hl h];simp only [al];obtain ⟨hi,cj⟩:=b9 h;have hn:=Nat.le_trans (gA hi) hm;have lK:dP (v.2.1.set i (ca (I J v.2.1 i) (cn (ay (I J v.2.1 i)) s)))≤1048576:=by have:=Je (l:=v.2.1) (y:=ca (I J v.2.1 i) (cn (ay (I J v.2.1 i)) s)) hi;rw [kE] at this;have:=w4 (ay (I J v.2.1 i)) s;omega
 have oa:(v.2.1.set i (ca (I J v.2.1 i) (cn (ay (I J v.2.1 i)) s))).length≤1048576:=by rw [List.length_set];exact hl
 rw [← aa2 hs];generalize hN:ay (I J v.2.1 i)=N at hn hs lK oa;have hw:bC v.2.1 (ca (I J v.2.1 i) (cn N s)).1=some i:=by rw [show(ca (I J v.2.1 i) (cn N s)).1=dir from cj];exact h
 have key:∀(r j:Nat) (id:Int),j+r=N.length→b3 (fun m=>(lD m).bp s id (j:Int) v (0,([]:List J.D),()) (I J v.2.1 i) (cn (N.take j) s)) (r+1048580) (some ((v.1,goN (v.2.1.set i (ca (I J v.2.1 i) (cn N s))) (w5 (N.drop j) s id),()),())):=by
  intro r
  induction r with
  | zero=>
   intro j id hj;have Jd:j=N.length:=by omega
   subst Jd;rw [List.drop_length,List.take_length];show b3 _ _ (some ((v.1,goN (v.2.1.set i (ca (I J v.2.1 i) (cn N s))) id,()),()))
   have hb:∀m,(lD (m+1)).bp s id (N.length:Int) v (0,([]:List J.D),()) (I J v.2.1 i) (cn N s) =
     cond (decide (((cA (v.2.1.set i (ca (I J v.2.1 i) (cn N s))) id:Nat):Int)>0)) (some ((v.1,v.2.1.set i (ca (I J v.2.1 i) (cn N s)),()),())) ((lD m).rA id 0 (v.1,v.2.1.set i (ca (I J v.2.1 i) (cn N s)),()) (0,([]:List J.D),()) ([]:List J.D)):=by
    intro m;show Bl (lD m) s id (N.length:Int) v (0,([]:List J.D),()) (I J v.2.1 i) (cn N s)=_;unfold Bl;show cond (decide ((N.length:Int)<((ay (I J v.2.1 i)).length:Int))) _ (Option.bind (pf (v,ca (I J v.2.1 i) (cn N s),())) _)=_;rw [hN,cw (Nat.le_refl _),Jf v _ hl hw];simp only [cond_false,al];rw [ZZ (v.1,v.2.1.set i (ca (I J v.2.1 i) (cn N s)),()) id oa lK];rfl
   generalize v.2.1.set i (ca (I J v.2.1 i) (cn N s))=l at hb oa;unfold goN;by_cases h0:cA l id=0
   ·rw [decide_eq_true h0];simp only [cond_true]
    have anG:=px 1 (fun m j=>(lD m).rA id (j:Int) (v.1,l,()) (0,([]:List J.D),()) ((l.take j).filter fun y=> !(y.1==id))) (some ((v.1,l.filter fun y=> !(y.1==id),()),())) l.length 1 (fun j hj B y he=>he.step fun m=>by
     have iw:((l.take j).filter fun y=> !(y.1==id)).length≤j:=Nat.le_trans (List.length_filter_le _ _) (by rw [List.length_take];omega);show Bm (lD m) id (j:Int) (v.1,l,()) (0,([]:List J.D),()) ((l.take j).filter fun y=> !(y.1==id))=_;unfold Bm;show cond (decide ((j:Int)<(l.length:Int))) ((ix l.length (j:Int)).bind fun v1=>cond (!((I J l (0+v1)).1==id)) _ _) _=_;rw [b1 hj,br hj];simp only [cond_true,al,Nat.zero_add];rw [dA j (by omega),List.take_succ_eq_append_getElem hj,List.filter_append,List.filter_cons,List.filter_nil,c2 hj];cases hc:(!((l[j]).1==id))
     ·simp
     ·simp only [cond_true,if_true]
      rw [b_ (by simp only [List.length_cons,List.length_nil];omega)];rfl) (b3.now 1 fun m=>by
     show Bm (lD m) id (l.length:Int) (v.1,l,()) (0,([]:List J.D),()) ((l.take l.length).filter fun y=> !(y.1==id))=_;unfold Bm;show cond (decide ((l.length:Int)<(l.length:Int))) _ _=_
     rw [cw (Nat.le_refl _),List.take_length];rfl)
    refine(anG.jump (f:=fun m=>(lD m).bp s id (N.length:Int) v (0,([]:List J.D),()) (I J v.2.1 i) (cn N s)) 1 fun m=>?_).mono (by omega);rw [hb m,decide_eq_false (by omega)];rfl
   ·rw [decide_eq_false h0];simp only [cond_false];refine(b3.now 1 fun m=>?_).mono (by omega);rw [hb m,decide_eq_true (by omega)];rfl
  | succ r ih=>
   intro j id hj;have hjl:j<N.length:=by omega
   have ih:=ih (j+1) (cond (bw (I aJ N j).1 s) (I aJ N j).2.1 id) (by omega);have ib:w5 (N.drop (j+1)) s (cond (bw (I aJ N j).1 s) (I aJ N j).2.1 id)=w5 (N.drop j) s id:=by rw [drop_cons (t:=aJ) hjl];rfl
   rw [ib] at ih;refine(ih.jump (f:=fun m=>(lD m).bp s id (j:Int) v (0,([]:List J.D),()) (I J v.2.1 i) (cn (N.take j) s)) 1 fun m=>?_).mono (by omega);have iw:(cn (N.take j) s).length≤j:=Nat.le_trans (List.length_filter_le _ _) (by rw [List.length_take];omega);show Bl (lD m) s id (j:Int) v (0,([]:List J.D),()) (I J v.2.1 i) (cn (N.take j) s)=_;unfold Bl
   show cond (decide ((j:Int)<((ay (I J v.2.1 i)).length:Int))) ((ix (ay (I J v.2.1 i)).length (j:Int)).bind fun v1=>cond (bw (I aJ (ay (I J v.2.1 i)) v1).1 s)
    ((ix (ay (I J v.2.1 i)).length (j:Int)).bind fun v2=>(lD m).bp s (I aJ (ay (I J v.2.1 i)) v2).2.1 (ax ((j:Int)+1)) v (0,([]:List J.D),()) (I J v.2.1 i) (cn (N.take j) s))
    ((ix (ay (I J v.2.1 i)).length (j:Int)).bind fun v3=>cond (room ((cn (N.take j) s).length+1)) ((lD m).bp s id (ax ((j:Int)+1)) v (0,([]:List J.D),()) (I J v.2.1 i) (cn (N.take j) s++[I aJ (ay (I J v.2.1 i)) v3])) none)) _=_
   rw [hN,b1 hjl,br hjl];simp only [cond_true,al];rw [dA j (by omega)];have ya:cn (N.take (j+1)) s=cn (N.take j) s++cond (bw (I aJ N j).1 s) [] [I aJ N j]:=by unfold cn;rw [List.take_succ_eq_append_getElem hjl,List.filter_append,List.filter_cons,List.filter_nil,c2 hjl];cases bw (N[j]).1 s <;> rfl
   rw [ya];cases bw (I aJ N j).1 s
   ·simp only [cond_false];rw [b_ (by omega)];rfl
   ·simp only [cond_true,List.append_nil]
 have:=key N.length 0 0 (by omega);rw [List.drop_zero] at this;exact lH this (by omega)
theorem bits_nat(op:BinOp)(x y:Nat):cY op .i64 (x:Int) (y:Int)=(match op with
 | .and=>IntKind.wrap .i64 ((BitVec.ofNat 64 x &&& BitVec.ofNat 64 y).toNat:Int)
 | .or=>IntKind.wrap .i64 ((BitVec.ofNat 64 x ||| BitVec.ofNat 64 y).toNat:Int)
 | .xor=>IntKind.wrap .i64 ((BitVec.ofNat 64 x ^^^ BitVec.ofNat 64 y).toNat:Int)
 | _=>IntKind.wrap .i64 ((BitVec.ofNat 64 x &&& ~~~BitVec.ofNat 64 y).toNat:Int)):=by
 unfold cY;rw [show(IntKind.i64).bits=64 from rfl];simp only [BitVec.ofInt_natCast];cases op <;> rfl
theorem anH{x y:Nat}(hx:x<4611686018427387904)(aR:y<4611686018427387904):cY .and .i64 (x:Int) (y:Int)=((x &&& y:Nat):Int):=by rw [bits_nat];simp only;rw [BitVec.toNat_and,BitVec.toNat_ofNat,BitVec.toNat_ofNat,Nat.mod_eq_of_lt (show x<2 ^ 64 by omega),Nat.mod_eq_of_lt (show y<2 ^ 64 by omega)];have:x &&& y≤x:=Nat.and_le_left;exact fT (by omega) (by omega)
theorem aa3{x y:Nat}(hx:x<4611686018427387904)(aR:y<4611686018427387904):cY .or .i64 (x:Int) (y:Int)=((x ||| y:Nat):Int):=by
 rw [bits_nat];simp only;rw [BitVec.toNat_or,BitVec.toNat_ofNat,BitVec.toNat_ofNat,Nat.mod_eq_of_lt (show x<2 ^ 64 by omega),Nat.mod_eq_of_lt (show y<2 ^ 64 by omega)];have:x ||| y<2 ^ 62:=Nat.or_lt_two_pow (by omega) (by omega)
 exact fT (by omega) (by omega)
theorem anI{x:Nat}(h:x<2048):x &&& 1024=1024*(x / 1024):=by have h1:(x &&& 1024) / 2 ^ 10=x / 2 ^ 10 &&& 1024 / 2 ^ 10:=Nat.and_div_two_pow;have h2:(x &&& 1024) % 2 ^ 10=x % 2 ^ 10 &&& 1024 % 2 ^ 10:=Nat.and_mod_two_pow;rw [show 1024 / 2 ^ 10=1 from rfl,Nat.and_one_is_mod] at h1;rw [show 1024 % 2 ^ 10=0 from rfl,Nat.and_zero] at h2;omega
theorem anJ{m:Int}(h:0≤m)(h':m≤2047):cY .and .i64 m 1024=0∨cY .and .i64 m 1024=1024:=by
 obtain ⟨n,rfl⟩:∃n:Nat,m=n:=⟨m.toNat,by omega⟩
 have:=anH (x:=n) (y:=1024) (by omega) (by omega);rw [show((1024:Nat):Int)=1024 from rfl] at this;rw [this,anI (by omega)];omega
theorem anK{m:Int}(h:0≤m)(h':m≤2047):cY .or .i64 m 0=m:=by
 obtain ⟨n,rfl⟩:∃n:Nat,m=n:=⟨m.toNat,by omega⟩
 have:=aa3 (x:=n) (y:=0) (by omega) (by omega);rw [show((0:Nat):Int)=0 from rfl] at this;rw [this,Nat.or_zero]
theorem anL{m:Int}(h:0≤m)(h':m≤2047):0≤cY .or .i64 m 1024∧cY .or .i64 m 1024≤2047:=by
 obtain ⟨n,rfl⟩:∃n:Nat,m=n:=⟨m.toNat,by omega⟩
 have:=aa3 (x:=n) (y:=1024) (by omega) (by omega);rw [show((1024:Nat):Int)=1024 from rfl] at this;rw [this];have:n ||| 1024<2 ^ 11:=Nat.or_lt_two_pow (by omega) (by omega)
 omega
def aD(x:aI.D):Int:=x.1
def fp(x:aI.D):aO:=x.2.1
def i_(x:aI.D):aO:=x.2.2.1
def bU(x:aI.D):Int:=x.2.2.2.1
def en(x:aI.D):Int:=x.2.2.2.2.1
def dH(x:aI.D):aO:=x.2.2.2.2.2.1
structure iC(x:aI.D):Prop where
 dj:1≤aD x∧aD x≤22
 path:(fp x).length≤60
 pA:(i_ x).length≤60
 g_:(dH x).length≤64
 n : -1000000≤bU x∧bU x≤1000000
 m : -1000000≤en x∧en x≤1000000
 anM:i_ x=[]∨aD x=9∨aD x=10∨aD x=12
 aa4:dH x=[]∨aD x=5∨aD x=6
theorem r8{x:aI.D} : eZ x=true↔iC x:=by
 unfold eZ;simp only [Bool.and_eq_true,Bool.or_eq_true,decide_eq_true_eq,beq_iff_eq,oi];constructor
 ·rintro ⟨⟨⟨⟨⟨⟨⟨h1,h2⟩,h3⟩,h4⟩,a7⟩,bh⟩,bJ⟩,dg⟩
  exact⟨cR.1 h1,Int.ofNat_le.1 h2,Int.ofNat_le.1 h3,Int.ofNat_le.1 h4,cR.1 a7,cR.1 bh,bJ,dg⟩
 ·intro h;exact⟨⟨⟨⟨⟨⟨⟨cR.2 h.dj,Int.ofNat_le.2 h.path⟩,Int.ofNat_le.2 h.pA⟩,Int.ofNat_le.2 h.g_⟩,cR.2 h.n⟩,cR.2 h.m⟩,h.anM⟩,h.aa4⟩
theorem r9{N:List aJ.D}{s:aO}{id:Int}{d:aJ.D} : d∈ins N s id↔d∈N∨d=(s,id,()):=by
 have:=List.takeWhile_append_dropWhile (p:=ec s) (l:=N);unfold ins
 conv=>rhs;rw [← this]
 simp only [List.mem_append,List.mem_singleton];constructor
 ·rintro ((h | h) | h)
  ·exact .inl (.inl h)
  ·exact .inr h
  ·exact .inl (.inr h)
 ·rintro ((h | h) | h)
  ·exact .inl (.inl h)
  ·exact .inr h
  ·exact .inl (.inr h)
theorem Ca{N:List aJ.D}{s:aO}(h:dR N s=0)(h0:∀d,d∈N→d.2.1≠0):∀d,d∈N→d.1≠s:=by
 intro d af he;obtain ⟨i,hi,aC⟩:=fA af;unfold dR at h
 cases hf:fy N.length (r1 N s) with
 | none=>have:=mm.1 hf i hi;unfold r1 bw at this;rw [aC] at this;simp [he] at this
 | some j=>rw [hf] at h;obtain ⟨h1,_,_⟩:=iV.1 hf;exact h0 _ (c9 h1) h
theorem b4.aa5{v:ah.D}(h:b4 v){x:aS}(hx:x∈v.2.1):1≤bf x∧bf x≤gC v-1:=by obtain ⟨i,hi,he⟩:=fA hx;have:=h.ids i hi;rw [he] at this;exact this
theorem b4.Cb{v:ah.D}(h:b4 v){i:Nat}(hi:i<v.2.1.length){d:aJ.D}(af:d∈ay (I J v.2.1 i)):d.2.1≠0:=by obtain ⟨y,aR,he⟩:=oj.1 (h.iZ i hi d af);have h1:=h.aa5 aR;intro h0;have:bf y=0:=he.trans h0;omega
theorem b4.free{v:ah.D}(h:b4 v):bC v.2.1 v.1=none:=by
 cases hi:bC v.2.1 v.1 with
 | none=>rfl
 | some i=>obtain ⟨h1,h2⟩:=b9 hi;have:=h.ids i h1;have h2:bf (I J v.2.1 i)=gC v:=h2;omega
theorem b4.kd{v:ah.D}(h:b4 v):r3 v.2.1:=
 ⟨by have:=h.len;omega,by have:=h.dw;omega,h.iY,h.iZ,fun i hi hk=>((h.ino i hi).plain hk).2.2,fun i hi hk=>((h.ino i hi).oe hk).1,0,by
  have:=h.iY 0 (by have:=h.len;omega)
  rwa [show(I J v.2.1 0).1=1 from h.root.1] at this,h.root.2⟩
def bq(v:ah.D)(c:aK.D)(x:aI.D)(a:Option (Int×aN.D×Unit))(b:Option (ah.D×an.D×Unit))(Q:ah.D→Prop):Prop:=
 ∃(code:Int) (w:ah.D),a=some (code,(w,c,x,()),())∧b=some (cond (code==0) w v,(code,[],()),())∧(code=0→Q w)∧0≤code∧code≤200
theorem bq.no{v:ah.D}{c:aK.D}{x:aI.D}{a:Option (Int×aN.D×Unit)}{b:Option (ah.D×an.D×Unit)}{Q:ah.D→Prop}(code:Int)(h0:code≠0)(ha:a=some (code,(v,c,x,()),()))(hb:b=some (v,(code,[],()),()))(hr:0≤code∧code≤200:=by decide):bq v c x a b Q:=
 ⟨code,v,ha,by rw [bY h0];exact hb,fun h=>absurd h h0,hr⟩
theorem bq.yes{v:ah.D}{c:aK.D}{x:aI.D}{a:Option (Int×aN.D×Unit)}{b:Option (ah.D×an.D×Unit)}{Q:ah.D→Prop}(code:Int)(w:ah.D)(hq:code=0→Q w)(ha:a=some (code,(w,c,x,()),()))(hb:b=some (cond (code==0) w v,(code,[],()),()))(hr:0≤code∧code≤200:=by first | decide | exact aa0 _):bq v c x a b Q:=
 ⟨code,w,ha,hb,hq,hr⟩
def Jj(x:aI.D):Int:=if aD x=1 then 2 else if aD x=10 then 3 else 1
def w6(x:aI.D)(d:aS):Int:=if aD x=10 then 511 else if aD x=1∧cY .and .i64 (fi d) 1024≠0 then cY .or .i64 (bU x) 1024 else bU x
def Cc(c:aK.D)(d:aS):Int:=if cY .and .i64 (fi d) 1024≠0 then fC d else c.2.1
def gM(v:ah.D)(c:aK.D)(x:aI.D)(d:aS):aS:=(v.1,Jj x,w6 x d,c.1,Cc c d,if aD x=10 then i_ x else [],[],0,0,())
def r_(x:aI.D):Bool:=cond (aD x==10) (!kD (i_ x)) (!ct (bU x) 0 2047)
structure Made(v:ah.D)(c:aK.D)(x:aI.D)(w:ah.D):Prop where
 bad:r_ x=false
 out:∃r i,h_ v.2.1 r∧bN r=2∧nameOf r≠[]∧bC v.2.1 (cq r)=some i∧kindOf (I J v.2.1 i)=2∧may c (I J v.2.1 i) 3=true∧(ay (I J v.2.1 i)).length<12∧v.2.1.length<24∧gC v<100000 ∧
  w=(v.1+1,v.2.1.set i (ca (I J v.2.1 i) (ins (ay (I J v.2.1 i)) (nameOf r) v.1))++[gM v c x (I J v.2.1 i)],())∧fa w.2.1=0∧fh (v,c,fp x,false,())=some (r,())
theorem anN(m:Nat)(a b):(lC (m+1)).bs a b=Nl (lC m) a b:=rfl
theorem anO(m:Nat)(a b d):(lC (m+1)).h8 a b d=Nn (lC m) a b d:=rfl
theorem anP(m:Nat)(a b d e f):(j_ (m+1)).k3 a b d e f=Oo (j_ m) a b d e f:=rfl
theorem anQ(m:Nat)(a b d e f):(j_ (m+1)).j9 a b d e f=Oq (j_ m) a b d e f:=rfl
theorem Cd(v:ah.D)(c:aK.D)(x:aI.D)(id:Int)(hl:v.2.1.length≤1048576)(hc:dQ c=true){i:Nat}(h:bC v.2.1 id=some i):n6 ((v,c,x,()),id,())=some (may c (I J v.2.1 i) 3,()):=by show Ni (v,c,x,()) id=_;unfold Ni;show Option.bind (gm (v,id,())) _=_;rw [od v id hl h];simp only [al,List.isEmpty_cons,Bool.not_false,cond_true];show Option.bind (qe (c,I J v.2.1 i,3,())) _=_;rw [B1 c _ 3 hc];rfl
theorem anR(v:ah.D)(c:aK.D)(x:aI.D)(hv:b4 v)(hc:dQ c=true)(hx:iC x):bq v c x (AX ((v,c,x,()),())) (wi (v,c,x,())) (Made v c x):=by
 have cE:=hv.kd;have hl:v.2.1.length≤1048576:=cE.len;have aw:=hx.path;obtain ⟨q,hq,jn⟩:=kC 4
 have e':AX ((v,c,x,()),())=cond (r_ x) (some (22,(v,c,x,()),())) ((lC aM).bs (v,c,x,()) x):=by
  show Fv (lC aM) (v,c,x,())=_;unfold Fv r_;show cond (aD x==10) (Option.bind (AL (i_ x,())) fun v1=>cond (!v1.1) _ (cond (!(aD x==10)) _ _)) (cond (!(aD x==10)) (Option.bind (dG (bU x,0,2047,())) _) _)=_;rw [ZT _ (by have:=hx.pA;omega)];cases aD x==10
  ·simp only [cond_false,Bool.not_false,cond_true,al];rw [jx];rfl
  ·simp only [cond_true,Bool.not_true,cond_false,al]
 have de:wi (v,c,x,())=cond (r_ x) (some (v,(22,[],()),())) ((j_ aM).k3 v c x (0,([]:List J.D),()) (0,([]:aO),())):=by
  show He (j_ aM) v c x=_;unfold He r_;show cond (aD x==10) (Option.bind (Gg (i_ x,())) fun v1=>cond (!v1.1) _ (cond (!(aD x==10)) _ _)) (cond (!(aD x==10)) (Option.bind (dz (bU x,0,2047,())) _) _)=_;rw [amx];cases aD x==10
  ·simp only [cond_false,Bool.not_false,cond_true,al];rw [ka];rfl
  ·simp only [cond_true,Bool.not_true,cond_false,al]
 rw [e',de]
 cases hb:r_ x with
 | true=>exact bq.no 22 (by decide) rfl rfl
 | false=>
 simp only [cond_false];rw [hq,anN,anP];unfold Nl Oo;obtain ⟨r,eL,code,Q3,Q4,gL,Q5⟩:=aaS v c x (fp x) cE hc (by omega);show bq v c x (Option.bind (vK ((v,c,x,()),fp x,())) _) (Option.bind (wg (v,c,fp x,())) _) _;rw [Q3,Q4];simp only [al];by_cases b7:code=0
 case neg=>rw [dq b7];exact bq.no code b7 rfl rfl gL
 obtain ⟨rfl,hr,gR,qK,Q6⟩:=Q5 b7;rw [ek b7];simp only [cond_false];obtain ⟨pB,k0,d,af,gn,om⟩:=hr.new gR qK;have hdl:=b9 af;show bq v c x (Option.bind (n6 ((v,c,x,()),cq eL,())) _) (Option.bind (fx (v,cq eL,())) _) _;rw [Cd v c x _ hl hc af,jR v _ hl af];simp only [al];rw [qD c _ 3 hc];simp only [al]
 cases hm:may c (I J v.2.1 d) 3 with
 | false=>exact bq.no 13 (by decide) rfl rfl
 | true=>
 simp only [Bool.not_true,cond_false];show bq v c x (Option.bind (gm (v,cq eL,())) _) _ _;rw [od v _ hl af];simp only [al,List.isEmpty_cons,Bool.not_false,cond_true];have ia:=hv.ino d hdl.1;have aa6:=(ia.dir gn).2.2.2;show bq v c x (cond (((ay (I J v.2.1 d)).length:Int)==12) _ (cond ((v.2.1.length:Int)==24) _ (cond (gC v==100000) _ _))) (cond (decide (((ay (I J v.2.1 d)).length:Int)≥12)) _ (cond (decide ((v.2.1.length:Int)≥24)) _ (cond (decide (gC v≥100000)) _ _))) _;by_cases j4:(ay (I J v.2.1 d)).length=12
 ·rw [show(((ay (I J v.2.1 d)).length:Int)==12)=true by rw [j4];rfl,decide_eq_true (by omega)];exact bq.no 28 (by decide) rfl rfl
 rw [show(((ay (I J v.2.1 d)).length:Int)==12)=false by rw [beq_eq_false_iff_ne];omega,decide_eq_false (show ¬((ay (I J v.2.1 d)).length:Int)≥12 by omega)];simp only [cond_false];have hlen:=hv.len;have rk:=hv.next;by_cases anS:v.2.1.length=24
 ·rw [show((v.2.1.length:Int)==24)=true by rw [anS];rfl,decide_eq_true (by omega)];exact bq.no 28 (by decide) rfl rfl
 rw [show((v.2.1.length:Int)==24)=false by rw [beq_eq_false_iff_ne];omega,decide_eq_false (show ¬(v.2.1.length:Int)≥24 by omega)];simp only [cond_false];by_cases Q7:gC v=100000
 ·rw [cK Q7,decide_eq_true (show gC v≥100000 by omega)];exact bq.no 28 (by decide) rfl rfl
 rw [bY Q7,decide_eq_false (show ¬gC v≥100000 by omega)];simp only [cond_false];obtain ⟨w,hw⟩:∃w:ah.D,w=(v.1+1,v.2.1.set d (ca (I J v.2.1 d) (ins (ay (I J v.2.1 d)) (nameOf eL) v.1))++[gM v c x (I J v.2.1 d)],()):=⟨_,rfl⟩
 have anT:ax (v.1+1)=v.1+1:=cG (a:=gC v+1) (by omega) (by omega)
 have atQ:ar 1000 (v.2.1++[gM v c x (I J v.2.1 d)]):=(hv.st.app (k:=100) (n:=gM v c x (I J v.2.1 d)) hv.free rfl (by
  show(if aD x=10 then i_ x else []).length≤100;have:=hx.pA;split
  ·omega
  ·simp) (by omega) (fun _=>⟨rfl,rfl⟩)).mono (by omega)
 have hst:ar 1000 w.2.1:=by
  rw [hw];have aC:I J (v.2.1++[gM v c x (I J v.2.1 d)]) d=I J v.2.1 d:=Q0 hdl.1
  have:=(hv.st.app (k:=100) (n:=gM v c x (I J v.2.1 d)) hv.free rfl (by
   show(if aD x=10 then i_ x else []).length≤100;have:=hx.pA;split
   ·omega
   ·simp) (by omega) (fun _=>⟨rfl,rfl⟩)).set (k:=1) (i:=d) (y:=ca (I J v.2.1 d) (ins (ay (I J v.2.1 d)) (nameOf eL) v.1)) (by simp;omega) (by rw [aC];rfl) (by
    intro e he;rcases r9.1 he with he | rfl
    ·obtain ⟨y,aR,y'⟩:=oj.1 (hv.iZ d hdl.1 e he);exact oj.2 ⟨y,List.mem_append_left _ aR,y'⟩
    ·exact oj.2 ⟨gM v c x (I J v.2.1 d),List.mem_append_right _ (List.mem_singleton.2 rfl),rfl⟩) (fun hk=>absurd gn hk) (by
    rw [aC];show(ins (ay (I J v.2.1 d)) (nameOf eL) v.1).length≤_;rw [zj];omega) (by rw [aC];exact Nat.le_add_right _ _)
  rw [aaY hdl.1] at this;exact this.mono (by omega)
 have hfin:∀m n,bq v c x ((lC (m+1)).h8 (v,c,x,()) eL (gM v c x (I J v.2.1 d))) ((j_ (n+1)).j9 v (0,([]:List J.D),()) (0,([]:aO),()) eL (gM v c x (I J v.2.1 d))) (Made v c x):=by
  intro m n;rw [anO,anQ];unfold Nn Oq;rw [zc v hl (fun i hi=>Nat.le_trans (gA hi) cE.dw)];simp only [al];rw [anT];show bq v c x (Option.bind (tj (((v.1+1,v.2.1,()),c,x,()),cq eL,nameOf eL,v.1,())) _) (Option.bind (pf ((v.1+1,v.2.1,()),gM v c x (I J v.2.1 d),())) _) _;rw [QX (v.1+1,v.2.1,()) c x (cq eL) (nameOf eL) v.1 hl af (Nat.le_trans (gA hdl.1) cE.dw),anA (v.1+1,v.2.1,()) _ hl hv.free];simp only [al];have aC:I J (v.2.1++[gM v c x (I J v.2.1 d)]) d=I J v.2.1 d:=Q0 hdl.1
  have IV:=QZ (v.1+1,v.2.1++[gM v c x (I J v.2.1 d)],()) (cq eL) (nameOf eL) v.1 (by simp;omega) (anC af) (by
   show(ay (I J (v.2.1++[gM v c x (I J v.2.1 d)]) d)).length≤_
   rw [aC];exact Nat.le_trans (gA hdl.1) cE.dw) (by
   show ∀e,e∈ay (I J (v.2.1++[gM v c x (I J v.2.1 d)]) d)→_
   rw [aC];exact Ca om fun e he=>hv.Cb hdl.1 he)
  rw [show((v.1+1,v.2.1++[gM v c x (I J v.2.1 d)],()):ah.D).2.1=v.2.1++[gM v c x (I J v.2.1 d)] from rfl,aC,aaY hdl.1,← hw] at IV;show bq v c x _ (Option.bind (tt ((v.1+1,v.2.1++[gM v c x (I J v.2.1 d)],()),cq eL,nameOf eL,v.1,())) _) _;rw [IV];simp only [al];rw [B_ v w hst (by omega)];simp only [al];rw [b_ (by simp;omega)];simp only [cond_true];show bq v c x (Option.bind (n7 (((v.1+1,v.2.1.set d (ca (I J v.2.1 d) (ins (ay (I J v.2.1 d)) (nameOf eL) v.1))++[gM v c x (I J v.2.1 d)],()),c,x,()),())) fun v2=>some (v2.1,((v.1+1,v.2.1.set d (ca (I J v.2.1 d) (ins (ay (I J v.2.1 d)) (nameOf eL) v.1))++[gM v c x (I J v.2.1 d)],()),c,x,()),())) _ _;rw [← hw,B9 w c x hst (by omega)];exact⟨fa w.2.1,w,rfl,rfl,fun h=>⟨hb,eL,d,hr,gR,qK,af,gn,hm,by omega,by omega,by omega,hw,h,Q6⟩,aa0 _⟩
 have hN:aD x≠10→0≤bU x∧bU x≤2047:=by intro hk;unfold r_ at hb;rw [bY hk] at hb;simp only [cond_false,Bool.not_eq_false'] at hb;exact cR.1 hb
 have Jk:=ia.mode;have Q8:=anJ Jk.1 Jk.2
 show bq v c x (cond (cY .and .i64 (fi (I J v.2.1 d)) 1024 != 0)
   (cond (aD x==1) ((lC (q+3)).h8 (v,c,x,()) eL (v.1,2,cY .or .i64 (bU x) (cY .and .i64 (fi (I J v.2.1 d)) 1024),c.1,fC (I J v.2.1 d),[],[],0,0,()))
    (cond (aD x==10) ((lC (q+3)).h8 (v,c,x,()) eL (v.1,3,511,c.1,fC (I J v.2.1 d),i_ x,[],0,0,())) ((lC (q+3)).h8 (v,c,x,()) eL (v.1,1,bU x,c.1,fC (I J v.2.1 d),[],[],0,0,()))))
   (cond (aD x==1) ((lC (q+3)).h8 (v,c,x,()) eL (v.1,2,cY .or .i64 (bU x) (cY .and .i64 (fi (I J v.2.1 d)) 1024),c.1,c.2.1,[],[],0,0,()))
    (cond (aD x==10) ((lC (q+3)).h8 (v,c,x,()) eL (v.1,3,511,c.1,c.2.1,i_ x,[],0,0,())) ((lC (q+3)).h8 (v,c,x,()) eL (v.1,1,bU x,c.1,c.2.1,[],[],0,0,())))))
  (cond (aD x==1) ((j_ (q+3)).Bk v x (0,([]:List J.D),()) (0,([]:aO),()) eL (I J v.2.1 d) (v.1,2,bU x,c.1,c.2.1,[],[],0,0,())) ((j_ (q+3)).Bk v x (0,([]:List J.D),()) (0,([]:aO),()) eL (I J v.2.1 d) (v.1,1,bU x,c.1,c.2.1,[],[],0,0,()))) (Made v c x)
 have xW:∀(n:aS),(j_ (q+3)).Bk v x (0,([]:List J.D),()) (0,([]:aO),()) eL (I J v.2.1 d) n=cond (aD x==10) ((j_ (q+2)).gY v (0,([]:List J.D),()) (0,([]:aO),()) eL (I J v.2.1 d) (n.1,3,511,n.2.2.2.1,n.2.2.2.2.1,i_ x,n.2.2.2.2.2.2.1,n.2.2.2.2.2.2.2.1,n.2.2.2.2.2.2.2.2.1,())) ((j_ (q+2)).gY v (0,([]:List J.D),()) (0,([]:aO),()) eL (I J v.2.1 d) n):=fun n=>rfl
 have Ce:∀(n:aS),(j_ (q+2)).gY v (0,([]:List J.D),()) (0,([]:aO),()) eL (I J v.2.1 d) n=cond (cY .and .i64 (fi (I J v.2.1 d)) 1024 != 0)
   (cond (n.2.1==2) ((j_ (q+1)).j9 v (0,([]:List J.D),()) (0,([]:aO),()) eL (n.1,n.2.1,cY .or .i64 n.2.2.1 1024,n.2.2.2.1,fC (I J v.2.1 d),n.2.2.2.2.2.1,n.2.2.2.2.2.2.1,n.2.2.2.2.2.2.2.1,n.2.2.2.2.2.2.2.2.1,()))
    ((j_ (q+1)).j9 v (0,([]:List J.D),()) (0,([]:aO),()) eL (n.1,n.2.1,n.2.2.1,n.2.2.2.1,fC (I J v.2.1 d),n.2.2.2.2.2.1,n.2.2.2.2.2.2.1,n.2.2.2.2.2.2.2.1,n.2.2.2.2.2.2.2.2.1,()))) ((j_ (q+1)).j9 v (0,([]:List J.D),()) (0,([]:aO),()) eL n):=fun n=>rfl
 simp only [xW,Ce];have ic:=hfin (q+2) q;unfold gM Jj w6 Cc at ic;by_cases k1:aD x=1
 ·have dd:aD x≠10:=by omega
  have qL:=hN dd;rw [cK k1,bY dd];rw [if_pos k1,if_neg dd,if_neg dd] at ic;simp only [cond_true,cond_false];rcases Q8 with gx | gx
  ·rw [gx] at ic ⊢;rw [if_neg (by simp),if_neg (by simp)] at ic;rw [anK qL.1 qL.2];exact ic
  ·rw [gx] at ic ⊢;rw [if_pos ⟨k1,by decide⟩,if_pos (by decide)] at ic;exact ic
 ·rw [bY k1];rw [if_neg k1] at ic;by_cases dd:aD x=10
  ·rw [cK dd];rw [if_pos dd,if_pos dd,if_pos dd] at ic;simp only [cond_true,cond_false];rcases Q8 with gx | gx
   ·rw [gx] at ic ⊢;rw [if_neg (by simp)] at ic;exact ic
   ·rw [gx] at ic ⊢;rw [if_pos (by decide)] at ic;exact ic
  ·rw [bY dd];rw [if_neg dd,if_neg dd,if_neg dd,if_neg (fun h=>k1 h.1)] at ic;simp only [cond_false];rcases Q8 with gx | gx
   ·rw [gx] at ic ⊢;rw [if_neg (by simp)] at ic;exact ic
   ·rw [gx] at ic ⊢;rw [if_pos (by decide)] at ic;exact ic
def k8(v:ah.D)(i:Nat)(s:aO):ah.D:=(v.1,goN (v.2.1.set i (ca (I J v.2.1 i) (cn (ay (I J v.2.1 i)) s))) (dR (ay (I J v.2.1 i)) s),())
structure Cf(v:ah.D)(c:aK.D)(x:aI.D)(w:ah.D):Prop where
 out:∃r i j,h_ v.2.1 r∧bN r=0∧nameOf r≠[]∧bC v.2.1 (cq r)=some i∧kindOf (I J v.2.1 i)=2∧dR (ay (I J v.2.1 i)) (nameOf r)=bx r∧bC v.2.1 (bx r)=some j∧ay (I J v.2.1 j)=[] ∧
  (aD x=2→kindOf (I J v.2.1 j)=2)∧(aD x=8→kindOf (I J v.2.1 j)≠2)∧w=k8 v i (nameOf r)
theorem anU(m:Nat)(a b d):(pc (m+1)).bp a b d=Ns (pc m) a b d:=rfl
theorem anV(m:Nat)(a b d):(pc (m+1)).dW a b d=Nt (pc m) a b d:=rfl
theorem anW(m:Nat)(a b d):(pc (m+1)).fV a b d=Nu (pc m) a b d:=rfl
theorem anX(m:Nat)(a b d):(pc (m+1)).dm a b d=Nv (pc m) a b d:=rfl
theorem anY(m:Nat)(a b d e f g h):(rN (m+1)).dW a b d e f g h=Ou (rN m) a b d e f g h:=rfl
theorem anZ(m:Nat)(a b d e f g h):(rN (m+1)).fV a b d e f g h=Ov (rN m) a b d e f g h:=rfl
theorem an0(m:Nat)(a b d e f g):(rN (m+1)).dm a b d e f g=Ow (rN m) a b d e f g:=rfl
theorem an1(v:ah.D)(c:aK.D)(x:aI.D)(hv:b4 v)(hc:dQ c=true)(hx:iC x)(hk:aD x=2∨aD x=8):bq v c x (FE ((v,c,x,()),())) (Bn (v,c,x,())) (Cf v c x):=by
 have cE:=hv.kd;have hl:v.2.1.length≤1048576:=cE.len;have aw:=hx.path;obtain ⟨q,hq,jn⟩:=kC 4;show bq v c x (FD (pc aM) (v,c,x,())) (Hg (rN aM) v c x) _;unfold FD Hg;obtain ⟨r,⟨hr,_⟩,Cg,fR⟩:=B6 v c x (fp x) false cE hc (by omega);show bq v c x (Option.bind (lB ((v,c,x,()),fp x,false,())) _) (Option.bind (fh (v,c,fp x,false,())) _) _;rw [Cg,fR];simp only [al];show bq v c x (cond (bN r != 0) (some (bN r,(v,c,x,()),())) _) (cond (bN r != 0) (some (v,(bN r,[],()),())) _) _;by_cases b7:bN r=0
 case neg=>rw [dq b7];exact bq.no (bN r) b7 rfl rfl (h_.rg ‹_›)
 rw [ek b7];simp only [cond_false,o9];obtain ⟨j,hj⟩:=hr.there b7;have hjl:=b9 hj;show bq v c x (Option.bind (gm (v,bx r,())) _) (Option.bind (fx (v,bx r,())) _) _;rw [od v _ hl hj,jR v _ hl hj];simp only [al,List.isEmpty_cons,Bool.not_false,cond_true];rw [hq,anU];unfold Ns;rw [anV,anY];show bq v c x (cond (aD x==2) (cond (bw (nameOf r) []) _ _) _) (cond (aD x==2) (cond (bw (nameOf r) []) _ _) _) _;have an2:nameOf r=[]→kindOf (I J v.2.1 j)=2:=by intro h;obtain ⟨e8,h1,h2⟩:=hr.bare b7 h;rw [hj] at h1;rw [aW h1];exact h2
 by_cases c8:aD x=2∧nameOf r=[]
 ·rw [cK c8.1,oi.2 c8.2];exact bq.no 16 (by decide) rfl rfl
 have q':∀ {α : Type} (a b : α),cond (aD x==2) (cond (bw (nameOf r) []) a b) b=b:=by
  intro α a b;by_cases h2:aD x=2
  ·rw [cK h2];have:bw (nameOf r) []=false:=by rw [← Bool.not_eq_true,oi];exact fun h=>c8 ⟨h2,h⟩
   rw [this];rfl
  ·rw [bY h2];rfl
 rw [q',q'];unfold Nt Ou;rw [anW,anZ];show bq v c x (cond (aD x==2) (cond (kindOf (I J v.2.1 j) != 2) _ _) _) (cond (aD x==2) (cond (kindOf (I J v.2.1 j) != 2) _ _) _) _;by_cases iA:aD x=2∧kindOf (I J v.2.1 j)≠2
 ·rw [cK iA.1,dq iA.2];exact bq.no 20 (by decide) rfl rfl
 have aa7:∀ {α : Type} (a b : α),cond (aD x==2) (cond (kindOf (I J v.2.1 j) != 2) a b) b=b:=by
  intro α a b;by_cases h2:aD x=2
  ·rw [cK h2,ek (Decidable.byContradiction fun h=>iA ⟨h2,h⟩)];rfl
  ·rw [bY h2];rfl
 rw [aa7,aa7];unfold Nu Ov;rw [anX,an0];show bq v c x (cond (aD x==8) (cond (kindOf (I J v.2.1 j)==2) _ _) _) (cond (aD x==8) (cond (kindOf (I J v.2.1 j)==2) _ _) _) _;by_cases cj:aD x=8∧kindOf (I J v.2.1 j)=2
 ·rw [cK cj.1,cK cj.2];exact bq.no 21 (by decide) rfl rfl
 have aa8:∀ {α : Type} (a b : α),cond (aD x==8) (cond (kindOf (I J v.2.1 j)==2) a b) b=b:=by
  intro α a b;by_cases h2:aD x=8
  ·rw [cK h2,bY (fun h=>cj ⟨h2,h⟩)];rfl
  ·rw [bY h2];rfl
 rw [aa8,aa8]
 have ju:nameOf r≠[]:=by
  intro h;rcases hk with h2 | dg
  ·exact c8 ⟨h2,h⟩
  ·exact cj ⟨dg,an2 h⟩
 obtain ⟨pB,k0,d,af,gn,om⟩:=hr.named b7 ju;have hdl:=b9 af;have ia:=hv.ino d hdl.1;unfold Nv Ow;show bq v c x (Option.bind (n6 ((v,c,x,()),cq r,())) _) (Option.bind (fx (v,cq r,())) _) _;rw [Cd v c x _ hl hc af,jR v _ hl af];simp only [al];rw [qD c _ 3 hc];simp only [al]
 cases hm:may c (I J v.2.1 d) 3 with
 | false=>exact bq.no 13 (by decide) rfl rfl
 | true=>
 simp only [Bool.not_true,cond_false];show bq v c x (Option.bind (gm (v,cq r,())) _) _ _;rw [od v _ hl af];simp only [al,List.isEmpty_cons,Bool.not_false,cond_true];show bq v c x (Option.bind (tk (c,I J v.2.1 d,I J v.2.1 j,())) _) _ _;rw [QL c _ _ hc,QK c _ _ hc];simp only [al]
 cases ht:qE c (I J v.2.1 d) (I J v.2.1 j) with
 | false=>exact bq.no 1 (by decide) rfl rfl
 | true=>
 simp only [Bool.not_true,cond_false];show bq v c x (cond (aD x==2) (cond (decide (((ay (I J v.2.1 j)).length:Int)>0)) _ _) _) (cond (decide (((ay (I J v.2.1 j)).length:Int)>0)) _ _) _;rw [zc v hl (fun i hi=>Nat.le_trans (gA hi) cE.dw)];simp only [al]
 show bq v c x (cond (aD x==2) (cond (decide (((ay (I J v.2.1 j)).length:Int)>0)) (some (39,(v,c,x,()),())) (Option.bind (pb ((v,c,x,()),cq r,nameOf r,true,())) fun v4=>some (0,v4.1,()))) (Option.bind (pb ((v,c,x,()),cq r,nameOf r,true,())) fun v4=>some (0,v4.1,())))
  (cond (decide (((ay (I J v.2.1 j)).length:Int)>0)) (some (v,(39,[],()),())) (Option.bind (pj (v,cq r,nameOf r,())) fun v5=>some (v5.1,(0,[],()),()))) _
 rw [QY v c x _ _ true hl cE.dw af,Q2 v _ _ hl cE.dw af ia.sorted];simp only [al,cond_true];by_cases h0:ay (I J v.2.1 j)=[]
 ·rw [h0,show decide ((([]:List aJ.D).length:Int)>0)=false from rfl];have:Cf v c x (k8 v d (nameOf r)):=⟨r,d,j,hr,b7,ju,af,gn,om,hj,h0,fun h=>Decidable.byContradiction fun h'=>iA ⟨h,h'⟩,fun h h'=>cj ⟨h,h'⟩,rfl⟩;refine bq.yes 0 (k8 v d (nameOf r)) (fun _=>this) ?_ rfl;cases aD x==2 <;> rfl
 ·have an3:0<(ay (I J v.2.1 j)).length:=List.length_pos_iff.2 h0;have l8:kindOf (I J v.2.1 j)=2:=Decidable.byContradiction fun h=>h0 ((hv.ino j hjl.1).plain h).2.2
  have hk2:aD x=2:=by
   rcases hk with h | h
   ·exact h
   ·exact absurd ⟨h,l8⟩ cj
  rw [decide_eq_true (by omega),cK hk2];exact bq.no 39 (by decide) rfl rfl
def w7(v:ah.D)(i:Nat)(s:aO)(id:Int):ah.D:=(v.1,v.2.1.set i (ca (I J v.2.1 i) (ins (ay (I J v.2.1 i)) s id)),())
structure Jl(v:ah.D)(c:aK.D)(x:aI.D)(w:ah.D):Prop where
 out:∃r t i j,h_ v.2.1 r∧bN r=0∧bC v.2.1 (bx r)=some j∧kindOf (I J v.2.1 j)≠2∧h_ v.2.1 t∧bN t=2∧nameOf t≠[]∧bC v.2.1 (cq t)=some i∧kindOf (I J v.2.1 i)=2 ∧
  (ay (I J v.2.1 i)).length<12∧w=w7 v i (nameOf t) (bx r)∧fa w.2.1=0∧fh (v,c,fp x,false,())=some (r,())∧fh (v,c,i_ x,false,())=some (t,())
theorem an4{v:ah.D}(hv:b4 v){i:Nat}(hi:i<v.2.1.length)(hk:kindOf (I J v.2.1 i)=2)(s:aO){id:Int}(cj:(bC v.2.1 id).isSome=true):ar 1000 (w7 v i s id).2.1:=by
 have:=hv.st.set (k:=1) (i:=i) (y:=ca (I J v.2.1 i) (ins (ay (I J v.2.1 i)) s id)) hi rfl (by
  intro e he;rcases r9.1 he with he | rfl
  ·exact hv.iZ i hi e he
  ·exact cj) (fun h=>absurd hk h) (by show(ins (ay (I J v.2.1 i)) s id).length≤_;rw [zj];omega) (Nat.le_add_right _ _)
 exact this.mono (by omega)
theorem an5(v:ah.D)(c:aK.D)(x:aI.D)(hv:b4 v)(hc:dQ c=true)(hx:iC x):bq v c x (FF ((v,c,x,()),())) (Hh (v,c,x,())) (Jl v c x):=by
 have cE:=hv.kd;have hl:v.2.1.length≤1048576:=cE.len;have aw:=hx.path;have an6:=hx.pA;show bq v c x (Nx (v,c,x,())) (Oy v c x) _;unfold Nx Oy;obtain ⟨r,⟨hr,_⟩,Cg,fR⟩:=B6 v c x (fp x) false cE hc (by omega);show bq v c x (Option.bind (lB ((v,c,x,()),fp x,false,())) _) (Option.bind (fh (v,c,fp x,false,())) _) _;rw [Cg,fR];simp only [al];show bq v c x (cond (bN r != 0) (some (bN r,(v,c,x,()),())) _) (cond (bN r != 0) (some (v,(bN r,[],()),())) _) _;by_cases b7:bN r=0
 case neg=>rw [dq b7];exact bq.no (bN r) b7 rfl rfl (h_.rg ‹_›)
 rw [ek b7];simp only [cond_false];obtain ⟨j,hj⟩:=hr.there b7;have hjl:=b9 hj;show bq v c x (Option.bind (AY (v,bx r,())) _) (Option.bind (yH (v,bx r,())) _) _;rw [aan v _ hl,aam v _ hl];simp only [al]
 cases Q9:py v.2.1 (bx r) with
 | true=>exact bq.no 1 (by decide) rfl rfl
 | false=>
 simp only [cond_false];have l8:kindOf (I J v.2.1 j)≠2:=by unfold py at Q9;rw [hj] at Q9;exact beq_eq_false_iff_ne.1 Q9
 obtain ⟨t,cO,code,Q3,Q4,gL,Q5⟩:=aaS v c x (i_ x) cE hc (by omega);show bq v c x (Option.bind (vK ((v,c,x,()),i_ x,())) _) (Option.bind (wg (v,c,i_ x,())) _) _;rw [Q3,Q4];simp only [al];by_cases Jm:code=0
 case neg=>rw [dq Jm];exact bq.no code Jm rfl rfl gL
 obtain ⟨rfl,ht,aa9,htn,Q6⟩:=Q5 Jm;rw [ek Jm];simp only [cond_false];obtain ⟨pB,k0,d,af,gn,om⟩:=ht.new aa9 htn;have hdl:=b9 af;show bq v c x (Option.bind (n6 ((v,c,x,()),cq cO,())) _) (Option.bind (fx (v,cq cO,())) _) _;rw [Cd v c x _ hl hc af,jR v _ hl af];simp only [al];rw [qD c _ 3 hc];simp only [al]
 cases hm:may c (I J v.2.1 d) 3 with
 | false=>exact bq.no 13 (by decide) rfl rfl
 | true=>
 simp only [Bool.not_true,cond_false];show bq v c x (Option.bind (gm (v,cq cO,())) _) _ _;rw [od v _ hl af];simp only [al,List.isEmpty_cons,Bool.not_false,cond_true];have ia:=hv.ino d hdl.1;have aa6:=(ia.dir gn).2.2.2;show bq v c x (cond (((ay (I J v.2.1 d)).length:Int)==12) _ _) (cond (decide (((ay (I J v.2.1 d)).length:Int)≥12)) _ _) _;by_cases j4:(ay (I J v.2.1 d)).length=12
 ·rw [show(((ay (I J v.2.1 d)).length:Int)==12)=true by rw [j4];rfl,decide_eq_true (by omega)];exact bq.no 28 (by decide) rfl rfl
 rw [show(((ay (I J v.2.1 d)).length:Int)==12)=false by rw [beq_eq_false_iff_ne];omega,decide_eq_false (show ¬((ay (I J v.2.1 d)).length:Int)≥12 by omega)];simp only [cond_false];rw [zc v hl (fun i hi=>Nat.le_trans (gA hi) cE.dw)];simp only [al];have hnl:=Nat.le_trans (gA hdl.1) cE.dw;show bq v c x (Option.bind (tj ((v,c,x,()),cq cO,nameOf cO,bx r,())) _) (Option.bind (tt (v,cq cO,nameOf cO,bx r,())) _) _;rw [QX v c x _ _ _ hl af hnl,QZ v _ _ _ hl af hnl (Ca om fun e he=>hv.Cb hdl.1 he)];simp only [al];show bq v c x (Option.bind (n7 ((w7 v d (nameOf cO) (bx r),c,x,()),())) fun bA=>some (bA.1,(w7 v d (nameOf cO) (bx r),c,x,()),())) (Option.bind (rK (v,w7 v d (nameOf cO) (bx r),())) fun cF=>some (cF.1,cF.2.1,())) _;have hst:=an4 hv hdl.1 gn (nameOf cO) (id:=bx r) (by rw [hj];rfl);rw [B9 _ c x hst (by omega),B_ v _ hst (by omega)];exact bq.yes _ _ (fun h=>⟨r,cO,d,j,hr,b7,hj,l8,ht,aa9,htn,af,gn,by omega,rfl,h,fR,Q6⟩) rfl rfl
def oo(l:List aS):Nat→Int→Int→Bool
 | 0,_,_=>false
 | k+1,id,top=>cond (id==top) true (cond (id==1) false (oo l k (k6 l id) top))
theorem an7(v:ah.D)(id top:Int)(hl:v.2.1.length≤1048576)(hn:dP v.2.1≤1048576):Bo (v,id,top,())=some (oo v.2.1 (v.2.1.length+1) id top,()):=by
 show Hj (wm aM) v id top=_;unfold Hj
 have key:∀(r k m:Nat) (id:Int),k+r=v.2.1.length+1→r<m→wm m id top (k:Int) v=some (oo v.2.1 r id top,()):=by
  intro r
  induction r with
  | zero=>intro k m id hk hm;obtain ⟨m,rfl,_⟩:=fuel hm;simp only [wm,Hk];rw [decide_eq_false (by omega)];rfl
  | succ r ih=>intro k m id hk hm;obtain ⟨m,rfl,p0⟩:=fuel hm;simp only [wm,Hk];rw [decide_eq_true (show(k:Int)≤(v.2.1.length:Int) by omega),aap v id hl hn,dA k (by omega)];simp only [cond_true,al];rw [ih (k+1) m _ (by omega) (by omega),oo];cases id==top <;> cases id==1 <;> rfl
 exact key (v.2.1.length+1) 0 aM id (by omega) (iU (by omega))
theorem Q_{α : Type}{f : α → Nat} : ∀ {l:List α},(∀x,x∈l→f x=0)→(l.map f).sum=0
 | [],_=>rfl
 | x :: l,h=>by simp only [List.map_cons,List.sum_cons];rw [h x List.mem_cons_self,Q_ fun y aR=>h y (List.mem_cons_of_mem _ aR)]
def up(l:List aS):Nat→Int→Int
 | 0,d=>d
 | k+1,d=>up l k (k6 l d)
theorem Ra{α : Type}(f : α → Nat):∀(l:List α) (i j:Nat) (hi:i<l.length) (hj:j<l.length),i<j→f l[i]+f l[j]≤(l.map f).sum
 | [],_,_,hi,_,_=>by simp at hi
 | x :: l,i,j+1,hi,hj,jc=>by
  cases i with
  | zero=>simp only [List.getElem_cons_zero,List.getElem_cons_succ,List.map_cons,List.sum_cons];have:=QF (f:=f) (List.getElem_mem (l:=l) (by simpa using hj:j<l.length));omega
  | succ i=>simp only [List.getElem_cons_succ,List.map_cons,List.sum_cons];have:=Ra f l i j (by simpa using hi) (by simpa using hj) (by omega);omega
theorem Rb{N:List aJ.D}{id:Int} : qF N id=true↔0<dB N id:=by
 constructor
 ·intro h;obtain ⟨j,h1,h2,_⟩:=I2 h;unfold lI at h2;exact List.length_pos_of_mem (List.mem_filter.2 ⟨c9 h1,h2⟩)
 ·intro h;obtain ⟨d,af⟩:=List.exists_mem_of_length_pos h;obtain ⟨h1,h2⟩:=List.mem_filter.1 af;obtain ⟨i,hi,he⟩:=fA h1
  cases hb:qF N id with
  | true=>rfl
  | false=>have:=QO hb i hi;unfold lI at this;rw [he,h2] at this;cases this
theorem Jn{l:List aS}(af:iX l){b d:Int}(h1:cA l d=1)(h:E l b d):k6 l d=b:=by
 obtain ⟨i,e,hi,he,rfl⟩:=h;obtain ⟨bj,pv⟩:=b9 hi;have hci:0<dB (ay (I J l i)) e.2.1:=List.length_pos_of_mem (List.mem_filter.2 ⟨he,by simp⟩);unfold k6
 cases aw:I1 l e.2.1 with
 | none=>have:=mm.1 aw i bj;rw [Rb.2 hci] at this;cases this
 | some j=>
  obtain ⟨hj,an8,_⟩:=iV.1 aw;have aa_:=Rb.1 an8
  have:j=i:=by
   refine Decidable.byContradiction fun hne=>?_
   rcases Nat.lt_or_gt_of_ne hne with h | h
   ·have:=Ra (fun x=>dB (ay x) e.2.1) l j i hj bj h;rw [c2 hj] at aa_;rw [c2 bj] at hci;unfold cA at h1;have h2:dB (ay l[j]) e.2.1+dB (ay l[i]) e.2.1≤(l.map fun x=>dB (ay x) e.2.1).sum:=this;omega
   ·have:=Ra (fun x=>dB (ay x) e.2.1) l i j bj hj h;rw [c2 hj] at aa_;rw [c2 bj] at hci;unfold cA at h1;have h2:dB (ay l[i]) e.2.1+dB (ay l[j]) e.2.1≤(l.map fun x=>dB (ay x) e.2.1).sum:=this;omega
  subst this;exact pv
theorem b4.Rc{v:ah.D}(h:b4 v){a:Int} : ¬dY v.2.1 a 1:=by
 intro hb
 have hE:∀b,¬E v.2.1 b 1:=by
  rintro b ⟨i,d,hi,af,he⟩
  exact((h.ino i (b9 hi).1).names d af).2.1 he
 cases hb with
 | single h=>exact hE _ h
 | tail _ h=>exact hE _ h
theorem b4.aa'{v:ah.D}(h:b4 v){b d:Int}(he:E v.2.1 b d):d≠1:=by
 rintro rfl
 exact h.Rc (.single he)
theorem b4.Rd{v:ah.D}(h:b4 v){d:Int}(af:mn v.2.1 d)(h1:d≠1):cA v.2.1 d=1:=by
 obtain ⟨i,hi,hk⟩:=af;obtain ⟨bj,cj⟩:=b9 hi
 have:=h.once i (by
  rcases Nat.eq_zero_or_pos i with h0 | h0
  ·subst h0;exact absurd ((show(I J v.2.1 0).1=1 from h.root.1).symm.trans cj).symm h1
  ·exact h0) bj hk
 rwa [cj] at this
theorem b4.an9{v:ah.D}(h:b4 v){b d:Int}(he:E v.2.1 b d):mn v.2.1 b:=by obtain ⟨i,e,hi,hm,_⟩:=he;refine⟨i,hi,Decidable.byContradiction fun hk=>?_⟩;rw [((h.ino i (b9 hi).1).plain hk).2.2] at hm;simp at hm
theorem b4.an_{v:ah.D}(h:b4 v){a d:Int}(af:mn v.2.1 d)(h1:d≠1):dY v.2.1 a d↔a=k6 v.2.1 d∨dY v.2.1 a (k6 v.2.1 d):=by
 have ho:=h.Rd af h1;constructor
 ·intro hb
  cases hb with
  | single he=>exact .inl (Jn h.iY ho he).symm
  | tail hb he=>rw [Jn h.iY ho he];exact .inr hb
 ·intro hb
  have hE:E v.2.1 (k6 v.2.1 d) d:=by
   cases aw:I1 v.2.1 d with
   | none=>
    exfalso;have h0:=mm.1 aw
    have:cA v.2.1 d=0:=by
     unfold cA;refine Q_ fun x hx=>?_
     obtain ⟨i,hi,aC⟩:=fA hx;have:=h0 i hi;rw [aC] at this;refine Decidable.byContradiction fun hc=>?_
     rw [Rb.2 (by omega)] at this;cases this
    omega
   | some i=>obtain ⟨hi,hh,_⟩:=iV.1 aw;obtain ⟨j,hj,aba,_⟩:=I2 hh;unfold k6;rw [aw];exact⟨i,I aJ (ay (I J v.2.1 i)) j,h.iY i hi,c9 hj,by unfold lI at aba;simpa using aba⟩
  rcases hb with rfl | hb
  ·exact .single hE
  ·exact .tail hb hE
theorem an'{v:ah.D}(h:b4 v)(top:Int):∀(n k:Nat) (d:Int),mn v.2.1 d→up v.2.1 n d=1→n<k→(oo v.2.1 k d top=true↔d=top∨dY v.2.1 top d):=by
 intro n
 induction n with
 | zero=>
  intro k d af hu hk;obtain ⟨k,rfl,_⟩:=fuel hk;have hu:d=1:=hu;subst hu;rw [oo];by_cases h1:(1:Int)=top
  ·rw [cK h1];exact⟨fun _=>.inl h1,fun _=>rfl⟩
  ·rw [bY h1];exact⟨fun h=>(by cases h),fun h'=>h'.elim (fun h=>absurd h h1) fun hb=>absurd hb h.Rc⟩
 | succ n ih=>
  intro k d af hu hk;obtain ⟨k,rfl,dO⟩:=fuel hk;rw [oo];by_cases h1:d=top
  ·rw [cK h1];exact⟨fun _=>.inl h1,fun _=>rfl⟩
  ·rw [bY h1];by_cases h2:d=1
   ·rw [cK h2];subst h2;exact⟨fun h=>(by cases h),fun h'=>h'.elim (fun h=>absurd h h1) fun hb=>absurd hb h.Rc⟩
   ·rw [bY h2];simp only [cond_false];rw [ih k (k6 v.2.1 d) (QT h.kd _) hu (by omega),h.an_ af h2];constructor
    ·rintro (h | h)
     ·exact .inr (.inl h.symm)
     ·exact .inr (.inr h)
    ·rintro (h | h | h)
     ·exact absurd h h1
     ·exact .inl h.symm
     ·exact .inr h
theorem up_add(l:List aS)(a:Nat):∀(b:Nat) (d:Int),up l (a+b) d=up l a (up l b d)
 | 0,_=>rfl
 | b+1,d=>up_add l a b (k6 l d)
theorem b4.aoa{v:ah.D}(h:b4 v){d:Int}(af:mn v.2.1 d):∃n,up v.2.1 n d=1:=by
 obtain ⟨i,hi,hk⟩:=af;obtain ⟨bj,cj⟩:=b9 hi;rcases Nat.eq_zero_or_pos i with h0 | h0
 ·subst h0;exact⟨0,cj.symm.trans (show(I J v.2.1 0).1=1 from h.root.1)⟩
 ·have hb:=h.reach i h0 bj;rw [cj] at hb
  have key:∀d,dY v.2.1 1 d→mn v.2.1 d→∃n,up v.2.1 n d=1:=by
   intro d hb
   induction hb with
   | single he=>intro af;have h1:=h.aa' he;exact⟨1,Jn h.iY (h.Rd af h1) he⟩
   | tail hb he ih=>intro af;have h1:=h.aa' he;obtain ⟨n,hn⟩:=ih (h.an9 he);exact⟨n+1,by show up v.2.1 n (k6 v.2.1 _)=1;rw [Jn h.iY (h.Rd af h1) he];exact hn⟩
  exact key d hb ⟨i,hi,hk⟩
theorem least{P:Nat→Prop} : ∀n,P n→∃m,P m∧∀k,k<m→¬P k:=by
 intro n
 induction n using Nat.strongRecOn with
 | _ n ih=>
  intro hn;by_cases h:∃k,k<n∧P k
  ·obtain ⟨k,hk,aw⟩:=h;exact ih k hk aw
  ·exact⟨n,hn,fun k hk aw=>h ⟨k,hk,aw⟩⟩
theorem abb{v:ah.D}(h:b4 v):∀(n:Nat) {d:Int},mn v.2.1 d→mn v.2.1 (up v.2.1 n d)
 | 0,_,af=>af
 | n+1,d,_=>abb h n (QT h.kd d)
theorem b4.aob{v:ah.D}(h:b4 v){d:Int}(af:mn v.2.1 d):∃n,n<v.2.1.length∧up v.2.1 n d=1:=by
 obtain ⟨aoc,h0⟩:=h.aoa af;obtain ⟨n,hn,aod⟩:=least (P:=fun n=>up v.2.1 n d=1) aoc h0;refine⟨n,?_,hn⟩;have iA:((List.range (n+1)).map fun i=>up v.2.1 i d).Nodup:=by unfold List.Nodup;rw [List.pairwise_iff_getElem];intro i j hi hj jc he;simp only [List.length_map,List.length_range] at hi hj;simp only [List.getElem_map,List.getElem_range] at he;refine aod (n-(j-i)) (by omega) ?_;show up v.2.1 (n-(j-i)) d=1;rw [show n-(j-i)=(n-j)+i by omega,up_add,he,← up_add,show n-j+j=n by omega];exact hn
 have lp:((List.range (n+1)).map fun i=>up v.2.1 i d)⊆v.2.1.map fun x=>x.1:=by intro a ha;obtain ⟨i,_,rfl⟩:=List.mem_map.1 ha;obtain ⟨j,hj,_⟩:=abb h i af;obtain ⟨h1,h2⟩:=b9 hj;exact List.mem_map.2 ⟨_,c9 h1,h2⟩
 have:=iA.length_le_of_subset lp;simp only [List.length_map,List.length_range] at this;omega
theorem abc{v:ah.D}(h:b4 v){d:Int}(af:mn v.2.1 d)(top:Int):oo v.2.1 (v.2.1.length+1) d top=true↔d=top∨dY v.2.1 top d:=by obtain ⟨n,h1,h2⟩:=h.aob af;exact an' h top n _ d af h2 (by omega)
theorem zk{N:List aJ.D}(t:aO)(h:jB N):N.takeWhile (ec t)=N.filter (ec t)∧N.dropWhile (ec t)=N.filter fun d=> !ec t d:=by
 induction N with
 | nil=>exact⟨rfl,rfl⟩
 | cons d r ih=>
  obtain ⟨h1,h2⟩:=List.pairwise_cons.1 h;obtain ⟨i1,i2⟩:=ih h2;rw [List.takeWhile_cons,List.dropWhile_cons,List.filter_cons,List.filter_cons]
  cases af:ec t d with
  | true=>simp [i1,i2]
  | false=>
   have bS:∀e,e∈r→ec t e=false:=by
    intro e he;have h3:=h1 e he
    cases hk:ec t e with
    | false=>rfl
    | true=>have:=B5 h3 hk;unfold ec at af;rw [af] at this;cases this
   have f1:r.filter (ec t)=[]:=List.filter_eq_nil_iff.2 fun e he=>by rw [bS e he];simp
   have f2:(r.filter fun d=> !ec t d)=r:=List.filter_eq_self.2 fun e he=>by rw [bS e he];rfl
   simp [f1,f2]
theorem w8{N:List aJ.D}(h:jB N)(s:aO):jB (cn N s):=List.Pairwise.sublist List.filter_sublist h
theorem aoe{N:List aJ.D}(h:jB N){r t:aO}{id:Int}(hne:t≠r):cn (ins N t id) r=ins (cn N r) t id:=by
 unfold ins;rw [(zk t h).1,(zk t h).2,(zk t (w8 h r)).1,(zk t (w8 h r)).2];unfold cn;rw [List.filter_append,List.filter_append,List.filter_cons,List.filter_nil,List.filter_filter,List.filter_filter,List.filter_filter,List.filter_filter];have:bw t r=false:=by unfold bw;simpa using hne
 rw [this];simp only [Bool.not_false,if_true];congr 1
 ·congr 1;exact List.filter_congr fun d _=>Bool.and_comm _ _
 ·exact List.filter_congr fun d _=>Bool.and_comm _ _
theorem abd{N:List aJ.D}(h:jB N){t:aO}{id:Int}(hn:∀d,d∈N→d.1≠t):jB (ins N t id):=by
 unfold ins;rw [(zk t h).1,(zk t h).2];unfold jB;rw [List.append_assoc,List.pairwise_append];refine⟨List.Pairwise.sublist List.filter_sublist h,?_,fun a ha b hb=>?_⟩
 ·rw [List.singleton_append,List.pairwise_cons];refine⟨fun b hb=>?_,List.Pairwise.sublist List.filter_sublist h⟩;obtain ⟨h1,h2⟩:=List.mem_filter.1 hb;unfold ec at h2;rw [QR (hn b h1)];exact h2
 ·obtain ⟨h1,h2⟩:=List.mem_filter.1 ha;have h2:eg a.1 t=true:=h2;rcases List.mem_append.1 hb with hb | hb
  ·simp only [List.mem_singleton] at hb;subst hb;exact h2
  ·obtain ⟨h3,h4⟩:=List.mem_filter.1 hb;unfold ec at h4;refine B5 h2 ?_;rw [QR (hn b h3)];exact h4
theorem Jo{N:List aJ.D}(h:jB N){d:aJ.D}(af:d∈N):dR N d.1=d.2.1:=by
 rw [look_eq]
 induction N with
 | nil=>simp at af
 | cons e r ih=>
  obtain ⟨h1,h2⟩:=List.pairwise_cons.1 h;rw [B'];rcases List.mem_cons.1 af with rfl | af
  ·have:bw d.1 d.1=true:=by unfold bw;simp
   rw [this];rfl
  ·have:bw e.1 d.1=false:=by unfold bw;simpa using I4 (h1 d af)
   rw [this];exact ih h2 af
theorem aof{N:List aJ.D}{s:aO} : ∀d,d∈cn N s→d.1≠s:=by intro d af;have:=(List.mem_filter.1 af).2;unfold bw at this;simpa using this
theorem tX{N:List aJ.D}{s:aO}{d:aJ.D}(h:d∈cn N s):d∈N:=(List.mem_filter.1 h).1
def dI(l:List aS)(ir:Nat)(cJ:aO):List aS:=l.set ir (ca (I J l ir) (cn (ay (I J l ir)) cJ))
def ie(l:List aS)(it:Nat)(tn:aO)(bF:Int):List aS:=l.set it (ca (I J l it) (ins (ay (I J l it)) tn bF))
def eX(l:List aS)(ir:Nat)(cJ:aO)(it:Nat)(tn:aO)(bF:Int):List aS:=ie (dI l ir cJ) it tn bF
structure tY(l:List aS)(rd jU:Int)(ir it:Nat)(cJ tn:aO)(bF:Int):Prop where
 st:ar 1000 l
 hr:bC l rd=some ir
 ht:bC l jU=some it
 tZ:kindOf (I J l ir)=2
 Re:kindOf (I J l it)=2
 Mz:jB (ay (I J l ir))
 aog:jB (ay (I J l it))
 look:dR (ay (I J l ir)) cJ=bF
 abe:bF≠0
 ex:(bC l bF).isSome=true
 no:∀d,d∈ay (I J l it)→d.1≠tn
 ne:ir=it→cJ≠tn
theorem t_(x:aS)(N:List aJ.D):(ca x N).1=x.1:=rfl
theorem Ch{l:List aS}{i:Nat}(N:List aJ.D)(hi:i<l.length)(id:Int):bC (l.set i (ca (I J l i) N)) id=bC l id:=Jg hi (t_ _ N) id
theorem Rf{l:List aS}{ir:Nat}{cJ:aO}(hi:ir<l.length)(id:Int):bC (dI l ir cJ) id=bC l id:=Ch _ hi id
theorem abf{l:List aS}{it:Nat}{tn:aO}{bF:Int}(hi:it<l.length)(id:Int):bC (ie l it tn bF) id=bC l id:=Ch _ hi id
theorem aoh{l:List aS}{rd jU:Int}{ir it:Nat}{cJ tn:aO}{bF:Int}(h:tY l rd jU ir it cJ tn bF):dI (ie l it tn bF) ir cJ=eX l ir cJ it tn bF:=by
 have hr:=(b9 h.hr).1;have ht:=(b9 h.ht).1;unfold eX dI ie;rw [jC ht,jC hr];by_cases he:it=ir
 ·subst he;rw [if_pos rfl,if_pos rfl,List.set_set,List.set_set,kE,kE,aoe h.Mz (fun e=>h.ne rfl e.symm)];rfl
 ·rw [if_neg he,if_neg (fun e=>he e.symm),List.set_comm _ _ he]
theorem abg{l:List aS}{rd jU:Int}{ir it:Nat}{cJ tn:aO}{bF:Int}(h:tY l rd jU ir it cJ tn bF):ar 1001 (dI l ir cJ)∧ar 1003 (eX l ir cJ it tn bF):=by
 have hr:=(b9 h.hr).1;have ht:=(b9 h.ht).1;have h1:ar 1001 (dI l ir cJ):=h.st.set (k:=1) hr rfl (fun d af=>h.st.iZ ir hr d (tX af)) (fun hk=>absurd h.tZ hk) (Nat.le_trans (w4 _ _) (by omega)) (Nat.le_add_right _ _)
 have aC:kindOf (I J (dI l ir cJ) it)=2∧(I J (dI l ir cJ) it).1=jU:=by
  unfold dI;rw [jC hr];split
  ·rename_i he;exact⟨h.tZ,by show(I J l ir).1=jU;rw [he];exact(b9 h.ht).2⟩
  ·exact⟨h.Re,(b9 h.ht).2⟩
 have hex:∀id,(bC (dI l ir cJ) id).isSome=(bC l id).isSome:=fun id=>by rw [Rf hr]
 refine⟨h1,(h1.set (k:=1) (i:=it) (y:=ca (I J (dI l ir cJ) it) (ins (ay (I J (dI l ir cJ) it)) tn bF)) (by unfold dI;rw [List.length_set];exact ht) rfl (fun d af=>?_) (fun hk=>absurd aC.1 hk) (by rw [kE,zj];omega) (Nat.le_add_right _ _)).mono (by omega)⟩;rcases r9.1 af with af | rfl
 ·exact h1.iZ it (by unfold dI;rw [List.length_set];exact ht) d af
 ·rw [hex];exact h.ex
theorem aoi(m:Nat)(a b d):(jw (m+1)).pd a b d=NC (jw m) a b d:=rfl
theorem aoj(m:Nat)(a b d e):(jw (m+1)).rA a b d e=NB (jw m) a b d e:=rfl
theorem aok(m:Nat)(a b d e):(jw (m+1)).dd a b d e=NA (jw m) a b d e:=rfl
theorem aol(m:Nat)(a b d):(jw (m+1)).dW a b d=Nz (jw m) a b d:=rfl
theorem aom(m:Nat)(a b d e f g):(gJ (m+1)).m9 a b d e f g=OD (gJ m) a b d e f g:=rfl
theorem aon(m:Nat)(a b d e f g h i):(gJ (m+1)).Oz a b d e f g h i=OE (gJ m) a b d e f g h i:=rfl
theorem aoo(m:Nat)(a b d e f g h i):(gJ (m+1)).qk a b d e f g h i=OC (gJ m) a b d e f g h i:=rfl
theorem aop(m:Nat)(a b d e f g h i):(gJ (m+1)).gY a b d e f g h i=OB (gJ m) a b d e f g h i:=rfl
theorem aoq(m:Nat)(a b d e f g):(gJ (m+1)).dW a b d e f g=OA (gJ m) a b d e f g:=rfl
theorem abh{n:Int}{l:List aS}(c:aK.D)(x:aI.D)(r t:a8.D){ir it:Nat}(h:tY l (cq r) (cq t) ir it (nameOf r) (nameOf t) (bx r))(m:Nat) :
  (jw (m+1)).pd ((n,l,()),c,x,()) r t=some (fa (eX l ir (nameOf r) it (nameOf t) (bx r)),((n,eX l ir (nameOf r) it (nameOf t) (bx r),()),c,x,()),()):=by
 have hr:=(b9 h.hr).1;have ht:=(b9 h.ht).1;obtain ⟨s1,s2⟩:=abg h;have jl:=h.st.len;have nH:=h.st.dw;have oS:=s1.len;have zZ:=s1.dw;rw [aoi];unfold NC;show Option.bind (pb (((n,l,()),c,x,()),cq r,nameOf r,false,())) _=_;rw [QY (n,l,()) c x _ _ false (show l.length≤1048576 by omega) (show dP l≤1048576 by omega) h.hr];simp only [al,cond_false];show Option.bind (tj (((n,dI l ir (nameOf r),()),c,x,()),cq t,nameOf t,bx r,())) _=_;have jG:bC (dI l ir (nameOf r)) (cq t)=some it:=by rw [Rf hr];exact h.ht
 rw [QX (n,dI l ir (nameOf r),()) c x _ _ _ (show(dI l ir (nameOf r)).length≤1048576 by omega) jG (by
  have:=gA (l:=dI l ir (nameOf r)) (i:=it) (b9 jG).1;show(ay (I J (dI l ir (nameOf r)) it)).length≤_
  omega)]
 simp only [al];show Option.bind (n7 (((n,eX l ir (nameOf r) it (nameOf t) (bx r),()),c,x,()),())) (fun v3=>some (v3.1,((n,eX l ir (nameOf r) it (nameOf t) (bx r),()),c,x,()),()))=_;rw [B9 (n,eX l ir (nameOf r) it (nameOf t) (bx r),()) c x s2 (by omega)];rfl
theorem abi{n:Int}{l:List aS}(v:ah.D)(z:ah.D)(hH:an.D)(r t:a8.D){ir it:Nat}(h:tY l (cq r) (cq t) ir it (nameOf r) (nameOf t) (bx r))(m:Nat) :
  (gJ (m+1)).m9 v z hH r t (n,l,())=some (cond (fa (eX l ir (nameOf r) it (nameOf t) (bx r))==0) (n,eX l ir (nameOf r) it (nameOf t) (bx r),()) v,(fa (eX l ir (nameOf r) it (nameOf t) (bx r)),[],()),()):=by
 have hr:=(b9 h.hr).1;have ht:=(b9 h.ht).1;obtain ⟨s1,s2⟩:=abg h;have jl:=h.st.len;have nH:=h.st.dw;have oS:=gA ht;rw [aom];unfold OD;show Option.bind (tt ((n,l,()),cq t,nameOf t,bx r,())) _=_;rw [QZ (n,l,()) _ _ _ (show l.length≤1048576 by omega) h.ht (show(ay (I J l it)).length≤1048576 by omega) h.no];simp only [al];show Option.bind (pj ((n,ie l it (nameOf t) (bx r),()),cq r,nameOf r,())) _=_;have oq:I J (ie l it (nameOf t) (bx r)) ir=if it=ir then ca (I J l it) (ins (ay (I J l it)) (nameOf t) (bx r)) else I J l ir:=by unfold ie;rw [jC ht]
 have abj:jB (ay (I J (ie l it (nameOf t) (bx r)) ir)):=by
  rw [oq];split
  ·rw [kE];exact abd h.aog h.no
  ·exact h.Mz
 have bj:bC (ie l it (nameOf t) (bx r)) (cq r)=some ir:=by rw [abf ht];exact h.hr
 have Ci:(ie l it (nameOf t) (bx r)).length≤1048576:=by unfold ie;rw [List.length_set];omega
 have aor:dP (ie l it (nameOf t) (bx r))≤1048576:=by have:=Je (l:=l) (y:=ca (I J l it) (ins (ay (I J l it)) (nameOf t) (bx r))) ht;rw [kE,zj] at this;unfold ie;omega
 rw [Q2 (n,ie l it (nameOf t) (bx r),()) _ _ Ci aor bj abj]
 have om:dR (ay (I J (ie l it (nameOf t) (bx r)) ir)) (nameOf r)=bx r:=by
  obtain ⟨e,he,aaJ,ri⟩:=r4 (N:=ay (I J l ir)) (s:=nameOf r) (by rw [h.look];exact h.abe)
  have aos:e∈ay (I J (ie l it (nameOf t) (bx r)) ir):=by
   rw [oq];split
   ·rename_i hh;rw [kE,hh];exact r9.2 (.inl he)
   ·exact he
  have:=Jo abj aos;rw [aaJ,ri,h.look] at this;exact this
 rw [show((n,ie l it (nameOf t) (bx r),()):ah.D).2.1=ie l it (nameOf t) (bx r) from rfl,om]
 have kc:goN ((ie l it (nameOf t) (bx r)).set ir (ca (I J (ie l it (nameOf t) (bx r)) ir) (cn (ay (I J (ie l it (nameOf t) (bx r)) ir)) (nameOf r)))) (bx r)=eX l ir (nameOf r) it (nameOf t) (bx r):=by
  have hc:=aoh h;unfold dI at hc;rw [hc];unfold goN;rw [decide_eq_false];rfl;intro h0;have d':it<(dI l ir (nameOf r)).length:=by unfold dI;rw [List.length_set];exact ht
  have kU:I J (eX l ir (nameOf r) it (nameOf t) (bx r)) it∈eX l ir (nameOf r) it (nameOf t) (bx r):=c9 (by unfold eX ie;rw [List.length_set];exact d');refine Q1 h0 _ kU (nameOf t,bx r,()) ?_ rfl;unfold eX ie;rw [jC d',if_pos rfl,kE];exact r9.2 (.inr rfl)
 rw [kc];simp only [al];show Option.bind (rK (v,(n,eX l ir (nameOf r) it (nameOf t) (bx r),()),())) _=_;rw [B_ v (n,eX l ir (nameOf r) it (nameOf t) (bx r),()) s2 (by omega)];rfl
def Rg(c:aK.D)(d n m:aS):Int:=
 cond (!qE c d m) 1 (cond (kindOf n==2) (cond (kindOf m != 2) 20 (cond (decide (((ay m).length:Int)>0)) 39 0)) (cond (kindOf m==2) 21 0))
theorem aot(v:ah.D)(c:aK.D)(x:aI.D)(n:aS)(t:a8.D)(hl:v.2.1.length≤1048576)(hc:dQ c=true){i j:Nat}(hi:bC v.2.1 (cq t)=some i)(hj:bC v.2.1 (bx t)=some j) :
  FG ((v,c,x,()),n,t,())=some (Rg c (I J v.2.1 i) n (I J v.2.1 j),()):=by
 show Ny (v,c,x,()) n t=_;unfold Ny Rg;rw [o9];show Option.bind (gm (v,bx t,())) _=_;rw [od v _ hl hj];simp only [al,List.isEmpty_cons,Bool.not_false,cond_true];show Option.bind (gm (v,cq t,())) _=_;rw [od v _ hl hi];simp only [al,List.isEmpty_cons,Bool.not_false,cond_true];show Option.bind (tk (c,I J v.2.1 i,I J v.2.1 j,())) _=_;rw [QL c _ _ hc];simp only [al];show cond (!qE c (I J v.2.1 i) (I J v.2.1 j)) _ (cond (kindOf n==2) (cond (!(kindOf (I J v.2.1 j)==2)) _ (cond (kindOf n==2) (cond (decide (((ay (I J v.2.1 j)).length:Int)>0)) _ (cond (!(kindOf n==2)) (cond (kindOf (I J v.2.1 j)==2) _ _) _)) _)) (cond (kindOf n==2) _ (cond (!(kindOf n==2)) (cond (kindOf (I J v.2.1 j)==2) _ _) _)))=_;unfold bne;cases qE c (I J v.2.1 i) (I J v.2.1 j) <;> cases kindOf n==2 <;> cases kindOf (I J v.2.1 j)==2 <;> cases decide (((ay (I J v.2.1 j)).length:Int)>0) <;> rfl
structure zl(v:ah.D)(c:aK.D)(x:aI.D)(w:ah.D):Prop where
 out:∃r t j,h_ v.2.1 r∧bN r=0∧nameOf r≠[]∧bC v.2.1 (bx r)=some j∧h_ v.2.1 t∧nameOf t≠[]∧(bN t=0∨bN t=2)∧(fh (v,c,fp x,false,())=some (r,())∧fh (v,c,i_ x,false,())=some (t,())) ∧
  (bx t=bx r∧w=v∨bx t≠bx r∧(kindOf (I J v.2.1 j)=2→cq t≠bx r∧¬dY v.2.1 (bx r) (cq t)) ∧
   ∃l ir it,tY l (cq r) (cq t) ir it (nameOf r) (nameOf t) (bx r)∧w=(v.1,eX l ir (nameOf r) it (nameOf t) (bx r),())∧fa w.2.1=0 ∧
    ((bx t=0∧l=v.2.1∧(cq r≠cq t→(ay (I J l it)).length<12)) ∨
     (∃i2 e8,bC v.2.1 (cq t)=some i2∧kindOf (I J v.2.1 i2)=2∧bC v.2.1 (bx t)=some e8∧ay (I J v.2.1 e8)=[]∧dR (ay (I J v.2.1 i2)) (nameOf t)=bx t∧(kindOf (I J v.2.1 j)=2↔kindOf (I J v.2.1 e8)=2)∧l=(k8 v i2 (nameOf t)).2.1)))
theorem abk{v:ah.D}(hv:b4 v){i2:Nat}(hi:i2<v.2.1.length)(hk:kindOf (I J v.2.1 i2)=2)(s:aO):ar 1000 (k8 v i2 s).2.1 ∧
  ∀id,id≠dR (ay (I J v.2.1 i2)) s→∀k,bC v.2.1 id=some k→∃k',bC (k8 v i2 s).2.1 id=some k'∧I J (k8 v i2 s).2.1 k'=if i2=k then ca (I J v.2.1 i2) (cn (ay (I J v.2.1 i2)) s) else I J v.2.1 k:=by
 have hs1:ar 1000 (v.2.1.set i2 (ca (I J v.2.1 i2) (cn (ay (I J v.2.1 i2)) s))):=(hv.st.set (k:=0) (y:=ca (I J v.2.1 i2) (cn (ay (I J v.2.1 i2)) s)) hi rfl (fun d af=>hv.iZ i2 hi d (tX af)) (fun h=>absurd hk h) (w4 _ _) (Nat.le_refl _)).mono (by omega);refine⟨hs1.go _,fun id hne k cj=>?_⟩;obtain ⟨iJ,iz⟩:=b9 cj;show ∃k',bC (goN (v.2.1.set i2 (ca (I J v.2.1 i2) (cn (ay (I J v.2.1 i2)) s))) (dR (ay (I J v.2.1 i2)) s)) id=some k'∧I J (goN (v.2.1.set i2 (ca (I J v.2.1 i2) (cn (ay (I J v.2.1 i2)) s))) (dR (ay (I J v.2.1 i2)) s)) k'=_
 have aC:I J (v.2.1.set i2 (ca (I J v.2.1 i2) (cn (ay (I J v.2.1 i2)) s))) k=if i2=k then ca (I J v.2.1 i2) (cn (ay (I J v.2.1 i2)) s) else I J v.2.1 k:=jC hi
 have Rh:bC (v.2.1.set i2 (ca (I J v.2.1 i2) (cn (ay (I J v.2.1 i2)) s))) id=some k:=by rw [Ch _ hi];exact cj
 rw [← aC];generalize v.2.1.set i2 (ca (I J v.2.1 i2) (cn (ay (I J v.2.1 i2)) s))=ea at hs1 Rh;generalize dR (ay (I J v.2.1 i2)) s=gone at hne;have kc:=hs1.go gone;unfold goN at kc ⊢;by_cases h0:cA ea gone=0
 ·rw [decide_eq_true h0] at kc ⊢;simp only [cond_true] at kc ⊢;obtain ⟨h1,h2⟩:=b9 Rh;have hm:I J ea k∈ea.filter fun y=> !(y.1==gone):=List.mem_filter.2 ⟨c9 h1,by rw [h2,Bool.not_eq_true',beq_eq_false_iff_ne];exact hne⟩
  obtain ⟨k',dO,he⟩:=fA hm;refine⟨k',?_,he⟩;have:=kc.iY k' dO;rwa [he,h2] at this
 ·rw [decide_eq_false h0];exact⟨k,Rh,rfl⟩
theorem aou(v:ah.D)(c:aK.D)(x:aI.D)(hv:b4 v)(hc:dQ c=true)(hx:iC x):bq v c x (FI ((v,c,x,()),())) (Hm (v,c,x,())) (zl v c x):=by
 have cE:=hv.kd;have hl:v.2.1.length≤1048576:=cE.len;have aw:=hx.path;have an6:=hx.pA;obtain ⟨q,hq,jn⟩:=kC 6;show bq v c x (FH (jw aM) (v,c,x,())) (Hl (gJ aM) v c x) _;unfold FH Hl;obtain ⟨r,⟨hr,_⟩,Cg,fR⟩:=B6 v c x (fp x) false cE hc (by omega);show bq v c x (Option.bind (lB ((v,c,x,()),fp x,false,())) _) (Option.bind (fh (v,c,fp x,false,())) _) _;rw [Cg,fR];simp only [al];show bq v c x (cond (bN r != 0) (some (bN r,(v,c,x,()),())) _) (cond (bN r != 0) (some (v,(bN r,[],()),())) _) _;by_cases b7:bN r=0
 case neg=>rw [dq b7];exact bq.no (bN r) b7 rfl rfl (h_.rg ‹_›)
 rw [ek b7];simp only [cond_false];obtain ⟨t,⟨ht,_⟩,aov,Jp⟩:=B6 v c x (i_ x) false cE hc (by omega);show bq v c x (Option.bind (lB ((v,c,x,()),i_ x,false,())) _) (Option.bind (fh (v,c,i_ x,false,())) _) _;rw [aov,Jp];simp only [al]
 show bq v c x (cond (bN t != 0) (cond (bN t != 2) (some (bN t,(v,c,x,()),())) (cond (bw (nameOf t) []) (some (bN t,(v,c,x,()),())) ((jw aM).dW (v,c,x,()) r t))) ((jw aM).dW (v,c,x,()) r t))
  (cond (bN t != 0) (cond (bN t != 2) (some (v,(bN t,[],()),())) (cond (bw (nameOf t) []) (some (v,(bN t,[],()),())) ((gJ aM).dW v c (0,([]:List J.D),()) (0,([]:aO),()) r t))) ((gJ aM).dW v c (0,([]:List J.D),()) (0,([]:aO),()) r t)) _
 by_cases kF:bN t≠0∧(bN t≠2∨nameOf t=[])
 ·rw [dq kF.1];by_cases h2:bN t=2
  ·have k0:nameOf t=[]:=kF.2.elim (fun h=>absurd h2 h) id;rw [ek h2,oi.2 k0];exact bq.no (bN t) kF.1 rfl rfl (h_.rg ‹_›)
  ·rw [dq h2];exact bq.no (bN t) kF.1 rfl rfl (h_.rg ‹_›)
 have Ri:bN t=0∨bN t=2:=by
  by_cases h0:bN t=0
  ·exact .inl h0
  ·exact .inr (Decidable.byContradiction fun h=>kF ⟨h0,.inl h⟩)
 have q':∀ {α : Type} (a b : α),cond (bN t != 0) (cond (bN t != 2) a (cond (bw (nameOf t) []) a b)) b=b:=by
  intro α a b;by_cases h0:bN t=0
  ·rw [ek h0];rfl
  ·rw [dq h0];have h2:bN t=2:=Decidable.byContradiction fun h=>kF ⟨h0,.inl h⟩
   rw [ek h2];have k0:bw (nameOf t) []=false:=by rw [← Bool.not_eq_true,oi];exact fun h=>kF ⟨h0,.inr h⟩
   rw [k0];rfl
 rw [q',q',hq,aol,aoq];unfold Nz OA;show bq v c x (cond (bw (nameOf r) []) _ (cond (bw (nameOf t) []) _ _)) (cond (bw (nameOf r) []) _ (cond (bw (nameOf t) []) _ _)) _
 cases abl:bw (nameOf r) [] with
 | true=>exact bq.no 16 (by decide) rfl rfl
 | false=>
 cases abm:bw (nameOf t) [] with
 | true=>exact bq.no 16 (by decide) rfl rfl
 | false=>
 simp only [cond_false,o9];have qK:nameOf r≠[]:=fun h=>by rw [oi.2 h] at abl;cases abl
 have htn:nameOf t≠[]:=fun h=>by rw [oi.2 h] at abm;cases abm
 obtain ⟨j,hj⟩:=hr.there b7;have hjl:=b9 hj;obtain ⟨pB,atS,im,pC,abn,w9⟩:=hr.named b7 qK;have aow:=b9 pC
 obtain ⟨gy,kG,t',Cj,r'⟩:∃d,bC v.2.1 (cq t)=some d∧kindOf (I J v.2.1 d)=2∧dR (ay (I J v.2.1 d)) (nameOf t)=bx t∧(bx t=0∨∃e8,bC v.2.1 (bx t)=some e8):=by
  by_cases h0:bN t=0
  ·obtain ⟨a1,a2,d,a3,a4,a5⟩:=ht.named h0 htn;exact⟨d,a3,a4,a5,.inr (ht.there h0)⟩
  ·have h2:bN t=2:=Decidable.byContradiction fun h=>kF ⟨h0,.inl h⟩
   obtain ⟨a1,a2,d,a3,a4,a5⟩:=ht.new h2 htn;exact⟨d,a3,a4,by rw [a5,a1],.inl a1⟩
 have Rj:=b9 kG;show bq v c x (Option.bind (gm (v,bx r,())) _) (Option.bind (fx (v,cq r,())) fun v1=>Option.bind (fx (v,cq t,())) fun v2=>Option.bind (fx (v,bx r,())) _) _;rw [od v _ hl hj,jR v _ hl pC,jR v _ hl kG,jR v _ hl hj];simp only [al,List.isEmpty_cons,Bool.not_false,cond_true];rw [aok];unfold NA;show bq v c x (Option.bind (n6 ((v,c,x,()),cq r,())) fun v1=>cond (!v1.1) _ (Option.bind (n6 ((v,c,x,()),cq t,())) _)) _ _;rw [Cd v c x _ hl hc pC,Cd v c x _ hl hc kG,qD c _ 3 hc,qD c _ 3 hc];simp only [al]
 cases may c (I J v.2.1 im) 3 with
 | false=>exact bq.no 13 (by decide) rfl rfl
 | true=>
 simp only [Bool.not_true,cond_false]
 cases may c (I J v.2.1 gy) 3 with
 | false=>exact bq.no 13 (by decide) rfl rfl
 | true=>
 simp only [Bool.not_true,cond_false];show bq v c x (Option.bind (gm (v,cq r,())) _) _ _;rw [od v _ hl pC];simp only [al,List.isEmpty_cons,Bool.not_false,cond_true];show bq v c x (Option.bind (tk (c,I J v.2.1 im,I J v.2.1 j,())) _) _ _;rw [QL c _ _ hc,QK c _ _ hc];simp only [al]
 cases qE c (I J v.2.1 im) (I J v.2.1 j) with
 | false=>exact bq.no 1 (by decide) rfl rfl
 | true=>
 simp only [Bool.not_true,cond_false];obtain ⟨out,Rk,aox⟩:=aab v hl cE.dw (bx r);have aoy:=an7 v (cq t) (bx r) hl cE.dw
 have aoz:∀(K:Option (Int×aN.D×Unit)),cond ((I J v.2.1 j).2.1==2) (cond (t.1==r.2.2.1) (some (22,(v,c,x,()),())) (Option.bind (yq (v,r.2.2.1,())) fun v5=>Option.bind (vr (v5.1,t.1,())) fun v6=>cond v6.1 (some (22,(v,c,x,()),())) K)) K =
   cond (kindOf (I J v.2.1 j)==2&&oo v.2.1 (v.2.1.length+1) (cq t) (bx r)) (some (22,(v,c,x,()),())) K:=by
  intro K;show cond (kindOf (I J v.2.1 j)==2) (cond (cq t==bx r) (some (22,(v,c,x,()),())) (Option.bind (yq (v,bx r,())) fun v5=>Option.bind (vr (v5.1,cq t,())) fun v6=>cond v6.1 (some (22,(v,c,x,()),())) K)) K=_;cases kindOf (I J v.2.1 j)==2
  ·rfl
  ·simp only [cond_true,Bool.true_and];have pv:=abc hv (d:=cq t) ⟨gy,kG,t'⟩ (bx r);rw [aox];simp only [al]
   rw [contains_eq _ _ (by
    have:=Rk.len;have:=cE.dw
    omega)]
   simp only [al];by_cases h1:cq t=bx r
   ·rw [cK h1,pv.2 (.inl h1)];rfl
   ·rw [bY h1];simp only [cond_false];by_cases hb:dY v.2.1 (bx r) (cq t)
    ·rw [pv.2 (.inr hb),decide_eq_true ((Rk.iff _).2 hb)]
    ·have:oo v.2.1 (v.2.1.length+1) (cq t) (bx r)=false:=by
      rw [← Bool.not_eq_true];exact fun h=>(pv.1 h).elim h1 hb
     rw [this,decide_eq_false (fun h=>hb ((Rk.iff _).1 h))]
 have aoA:∀(K:Option (ah.D×an.D×Unit)),cond ((I J v.2.1 j).2.1==2) (Option.bind (Bo (v,t.1,r.2.2.1,())) fun bA=>cond bA.1 (some (v,(22,[],()),())) K) K =
   cond (kindOf (I J v.2.1 j)==2&&oo v.2.1 (v.2.1.length+1) (cq t) (bx r)) (some (v,(22,[],()),())) K:=by
  intro K;show cond (kindOf (I J v.2.1 j)==2) (Option.bind (Bo (v,cq t,bx r,())) _) K=_;rw [aoy];cases kindOf (I J v.2.1 j)==2 <;> rfl
 rw [nr];rw [aoz,aoA]
 cases r7:kindOf (I J v.2.1 j)==2&&oo v.2.1 (v.2.1.length+1) (cq t) (bx r) with
 | true=>exact bq.no 22 (by decide) rfl rfl
 | false=>
 simp only [cond_false];have mP:kindOf (I J v.2.1 j)=2→cq t≠bx r∧¬dY v.2.1 (bx r) (cq t):=by intro hk;rw [cK hk,Bool.true_and] at r7;have pv:=abc hv (d:=cq t) ⟨gy,kG,t'⟩ (bx r);exact⟨fun h=>(by rw [pv.2 (.inl h)] at r7;cases r7),fun h=>(by rw [pv.2 (.inr h)] at r7;cases r7)⟩
 rw [aoj,aop];unfold NB OB;rw [zc v hl (fun i hi=>Nat.le_trans (gA hi) cE.dw)];simp only [al]
 show bq v c x (cond (bx t==bx r) (some (0,(v,c,x,()),())) (cond (!(bx t==0)) (Option.bind (FG ((v,c,x,()),I J v.2.1 j,t,())) fun v1=>cond (v1.1 != 0) (some (v1.1,(v,c,x,()),())) (Option.bind (pb ((v,c,x,()),cq t,nameOf t,true,())) fun v2=>(jw (q+3)).pd v2.1 r t))
   (cond (!(cq r==cq t)) (Option.bind (gm (v,cq t,())) fun v3=>cond (!List.isEmpty v3.1) (cond (((ay (I J v3.1 0)).length:Int)==12) (some (28,(v,c,x,()),())) ((jw (q+3)).pd (v,c,x,()) r t)) none) ((jw (q+3)).pd (v,c,x,()) r t))))
  (cond (decide (bx t>0)) (cond (bx t==bx r) (some (v,(0,[],()),())) (Option.bind (fx (v,bx t,())) fun v2=>Option.bind (yG (c,I J v.2.1 gy,v2.1,())) fun v3=>cond (!v3.1) (some (v,(1,[],()),())) (cond (kindOf (I J v.2.1 j)==2) (cond (kindOf v2.1 != 2) (some (v,(20,[],()),())) ((gJ (q+4)).qk v (0,([]:List J.D),()) (0,([]:aO),()) r t (I J v.2.1 j) v v2.1)) ((gJ (q+4)).qk v (0,([]:List J.D),()) (0,([]:aO),()) r t (I J v.2.1 j) v v2.1))))
   (cond (!(cq r==cq t)) (cond (decide (((ay (I J v.2.1 gy)).length:Int)≥12)) (some (v,(28,[],()),())) ((gJ (q+4)).m9 v (0,([]:List J.D),()) (0,([]:aO),()) r t v)) ((gJ (q+4)).m9 v (0,([]:List J.D),()) (0,([]:aO),()) r t v))) _
 have atT:0<bx r:=by have h1:=hv.ids j hjl.1;have h2:bf (I J v.2.1 j)=bx r:=hjl.2;omega
 have abo:=hv.ino im aow.1;have mb:=hv.ino gy Rj.1;by_cases nQ:bx t=bx r
 ·rw [cK nQ,decide_eq_true (show bx t>0 by omega)];exact bq.yes 0 v (fun _=>⟨r,t,j,hr,b7,qK,hj,ht,htn,Ri,⟨fR,Jp⟩,.inl ⟨nQ,rfl⟩⟩) rfl rfl
 rw [bY nQ];simp only [cond_false]
 have hne:im=gy→nameOf r≠nameOf t:=by
  rintro rfl he
  rw [he,Cj] at w9;exact nQ w9
 by_cases pY:bx t=0
 ·
  rw [cK pY,decide_eq_false (show ¬bx t>0 by omega)];simp only [Bool.not_true,cond_false]
  have hpre:tY v.2.1 (cq r) (cq t) im gy (nameOf r) (nameOf t) (bx r):=
   ⟨hv.st.mono (by omega),pC,kG,abn,t',abo.sorted,mb.sorted,w9,by omega,by rw [hj];rfl,Ca (by rw [Cj,pY]) fun e he=>hv.Cb Rj.1 he,hne⟩
  have hfin:(cq r≠cq t→(ay (I J v.2.1 gy)).length<12)→bq v c x ((jw (q+3)).pd (v,c,x,()) r t) ((gJ (q+4)).m9 v (0,([]:List J.D),()) (0,([]:aO),()) r t v) (zl v c x):=by intro bO;have h1:=abh (n:=v.1) c x r t hpre (q+2);have h2:=abi (n:=v.1) v (0,([]:List J.D),()) (0,([]:aO),()) r t hpre (q+3);exact bq.yes _ _ (fun h=>⟨r,t,j,hr,b7,qK,hj,ht,htn,Ri,⟨fR,Jp⟩,.inr ⟨nQ,mP,v.2.1,im,gy,hpre,rfl,h,.inl ⟨pY,rfl,bO⟩⟩⟩) h1 h2
  by_cases Rl:cq r=cq t
  ·rw [cK Rl];exact hfin fun h=>absurd Rl h
  ·rw [bY Rl];simp only [Bool.not_false,cond_true];rw [od v _ hl kG];simp only [al,List.isEmpty_cons,Bool.not_false,cond_true];show bq v c x (cond (((ay (I J v.2.1 gy)).length:Int)==12) _ _) _ _;have aa6:=(mb.dir t').2.2.2;by_cases j4:(ay (I J v.2.1 gy)).length=12
   ·rw [show(((ay (I J v.2.1 gy)).length:Int)==12)=true by rw [j4];rfl,decide_eq_true (by omega)];exact bq.no 28 (by decide) rfl rfl
   ·rw [show(((ay (I J v.2.1 gy)).length:Int)==12)=false by rw [beq_eq_false_iff_ne];omega,decide_eq_false (show ¬((ay (I J v.2.1 gy)).length:Int)≥12 by omega)];exact hfin fun _=>by omega
 ·
  obtain ⟨e8,ma⟩:=r'.resolve_left pY;have Rm:=b9 ma;have zg:0<bx t:=by have h1:=hv.ids e8 Rm.1;have h2:bf (I J v.2.1 e8)=bx t:=Rm.2;omega
  rw [bY pY,decide_eq_true (show bx t>0 from zg)];simp only [Bool.not_false,cond_true];rw [aot v c x _ t hl hc kG ma,jR v _ hl ma];simp only [al];rw [QK c _ _ hc];simp only [al];unfold Rg
  cases qE c (I J v.2.1 gy) (I J v.2.1 e8) with
  | false=>exact bq.no 1 (by decide) rfl rfl
  | true=>
  simp only [Bool.not_true,cond_false]
  have aoB:(gJ (q+4)).qk v (0,([]:List J.D),()) (0,([]:aO),()) r t (I J v.2.1 j) v (I J v.2.1 e8)=cond (kindOf (I J v.2.1 j)==2) (cond (decide (((ay (I J v.2.1 e8)).length:Int)>0)) (some (v,(39,[],()),())) (Option.bind (pj (v,cq t,nameOf t,())) fun v2=>(gJ (q+2)).m9 v (0,([]:List J.D),()) (0,([]:aO),()) r t v2.1))
    (cond (kindOf (I J v.2.1 e8)==2) (some (v,(21,[],()),())) (Option.bind (pj (v,cq t,nameOf t,())) fun v2=>(gJ (q+2)).m9 v (0,([]:List J.D),()) (0,([]:aO),()) r t v2.1)):=by
   rw [aoo];unfold OC;rw [aon];unfold OE;show cond (kindOf (I J v.2.1 j)==2) (cond (decide (((ay (I J v.2.1 e8)).length:Int)>0)) _ (cond (!(kindOf (I J v.2.1 j)==2)) (cond (kindOf (I J v.2.1 e8)==2) _ _) _)) (cond (!(kindOf (I J v.2.1 j)==2)) (cond (kindOf (I J v.2.1 e8)==2) _ _) _)=_;cases kindOf (I J v.2.1 j)==2 <;> rfl
  rw [aoB]
  have hfin:ay (I J v.2.1 e8)=[]→(kindOf (I J v.2.1 j)=2↔kindOf (I J v.2.1 e8)=2)→bq v c x (Option.bind (pb ((v,c,x,()),cq t,nameOf t,true,())) fun v2=>(jw (q+3)).pd v2.1 r t) (Option.bind (pj (v,cq t,nameOf t,())) fun v2=>(gJ (q+2)).m9 v (0,([]:List J.D),()) (0,([]:aO),()) r t v2.1) (zl v c x):=by
   intro pS hkk;rw [QY v c x _ _ true hl cE.dw kG,Q2 v _ _ hl cE.dw kG mb.sorted];simp only [al,cond_true];obtain ⟨hst,Jq⟩:=abk hv Rj.1 t' (nameOf t);rw [Cj] at Jq;have aoC:cq r≠bx t:=by intro he;rw [he,ma] at pC;have:e8=im:=aW pC;subst this;obtain ⟨e,h1,_,_⟩:=r4 (N:=ay (I J v.2.1 e8)) (s:=nameOf r) (by rw [w9];exact pB);rw [pS] at h1;simp at h1
   have aoD:cq t≠bx t:=by intro he;rw [he,ma] at kG;have:e8=gy:=aW kG;subst this;obtain ⟨e,h1,_,_⟩:=r4 (N:=ay (I J v.2.1 e8)) (s:=nameOf t) (by rw [Cj];exact pY);rw [pS] at h1;simp at h1
   obtain ⟨ir,abp,oq⟩:=Jq _ aoC _ pC;obtain ⟨it,jG,ot⟩:=Jq _ aoD _ kG;obtain ⟨atU,jc,_⟩:=Jq _ (Ne.symm nQ) _ hj;rw [if_pos rfl] at ot
   have aoE:ir=it→im=gy:=by
    rintro rfl
    have h1:=(b9 abp).2;have h2:=(b9 jG).2;rw [h1] at h2;rw [h2,kG] at pC;exact(aW pC).symm
   have hpre:tY (k8 v gy (nameOf t)).2.1 (cq r) (cq t) ir it (nameOf r) (nameOf t) (bx r):=by
    refine⟨hst,abp,jG,?_,?_,?_,?_,?_,by omega,by rw [jc];rfl,?_,fun e=>hne (aoE e)⟩
    ·rw [oq];split
     ·exact t'
     ·exact abn
    ·rw [ot];exact t'
    ·rw [oq];split
     ·rw [kE];exact w8 mb.sorted _
     ·exact abo.sorted
    ·rw [ot,kE];exact w8 mb.sorted _
    ·rw [oq];split
     ·rename_i he;subst he;rw [kE];obtain ⟨e,h1,h2,h3⟩:=r4 (N:=ay (I J v.2.1 gy)) (s:=nameOf r) (by rw [w9];exact pB);have hm:e∈cn (ay (I J v.2.1 gy)) (nameOf t):=List.mem_filter.2 ⟨h1,by unfold bw;rw [h2];simpa using hne rfl⟩;have:=Jo (w8 mb.sorted (nameOf t)) hm;rw [h2,h3,w9] at this;exact this
     ·exact w9
    ·rw [ot,kE];exact aof
   show bq v c x ((jw (q+3)).pd ((v.1,(k8 v gy (nameOf t)).2.1,()),c,x,()) r t) ((gJ (q+2)).m9 v (0,([]:List J.D),()) (0,([]:aO),()) r t (v.1,(k8 v gy (nameOf t)).2.1,())) _;have h1:=abh (n:=v.1) c x r t hpre (q+2);have h2:=abi (n:=v.1) v (0,([]:List J.D),()) (0,([]:aO),()) r t hpre (q+1);exact bq.yes _ _ (fun h=>⟨r,t,j,hr,b7,qK,hj,ht,htn,Ri,⟨fR,Jp⟩,.inr ⟨nQ,mP,_,ir,it,hpre,rfl,h,.inr ⟨gy,e8,kG,t',ma,pS,Cj,hkk,rfl⟩⟩⟩) h1 h2
  by_cases hk:kindOf (I J v.2.1 j)=2
  ·rw [cK hk];simp only [cond_true];by_cases hk2:kindOf (I J v.2.1 e8)=2
   ·rw [ek hk2];simp only [cond_false];by_cases pS:ay (I J v.2.1 e8)=[]
    ·rw [pS,show decide ((([]:List aJ.D).length:Int)>0)=false from rfl];exact hfin pS ⟨fun _=>hk2,fun _=>hk⟩
    ·have an3:0<(ay (I J v.2.1 e8)).length:=List.length_pos_iff.2 pS;rw [decide_eq_true (by omega)];exact bq.no 39 (by decide) rfl rfl
   ·rw [dq hk2];exact bq.no 20 (by decide) rfl rfl
  ·rw [bY hk];simp only [cond_false];by_cases hk2:kindOf (I J v.2.1 e8)=2
   ·rw [cK hk2];exact bq.no 21 (by decide) rfl rfl
   ·rw [bY hk2];exact hfin ((hv.ino e8 Rm.1).plain hk2).2.2 ⟨fun h=>absurd h hk,fun h=>absurd h hk2⟩
theorem ua(v:ah.D)(c:aK.D)(x:aI.D)(cd:Bool)(hw:r3 v.2.1)(hc:dQ c=true)(aw:(fp x).length≤1048576) :
  ∃r,tV cd v.2.1 r∧fh (v,c,fp x,cd,())=some (r,())∧(bN r≠0→m5 ((v,c,x,()),cd,())=some (-1,bN r,(v,c,x,()),())) ∧
   (bN r=0→∃i,bC v.2.1 (bx r)=some i∧m5 ((v,c,x,()),cd,())=some ((i:Int),0,(v,c,x,()),())):=by
 obtain ⟨r,h1,h2,h3⟩:=B6 v c x (fp x) cd hw hc aw;have e':m5 ((v,c,x,()),cd,())=cond (bN r != 0) (some (-1,bN r,(v,c,x,()),())) (Option.bind (yp (v,bx r,())) fun v2=>some (v2.1,0,(v2.2.1,c,x,()),())):=by show ND (v,c,x,()) cd=_;unfold ND;show Option.bind (lB ((v,c,x,()),fp x,cd,())) _=_;rw [h2];rfl
 refine⟨r,h1,h3,fun h0=>by rw [e',dq h0];rfl,fun h0=>?_⟩;obtain ⟨i,hi⟩:=h1.1.there h0;refine⟨i,hi,?_⟩;rw [e',ek h0,QM v _ hw.len,hi];rfl
def g'(n:Nat):aO:=List.replicate n 0
def k9(s:aO)(n:Nat):aO:=(s++g' (n-s.length)).take n
def lL(s:aO)(at_:Nat)(d:aO):aO:=k9 s at_++d++s.drop (at_+d.length)
theorem qM(s:aO)(n:Nat):(k9 s n).length=n:=by unfold k9 g';rw [List.length_take,List.length_append,List.length_replicate];omega
theorem abq:∀n,Lib.repeatL [0] n=g' n
 | 0=>rfl
 | n+1=>by rw [Lib.repeatL,abq n];rfl
theorem aoF(s:aO)(n:Nat)(hs:s.length≤1048576)(hn:n≤1048576):FK (s,(n:Int),())=some (k9 s n,()):=by
 show NG s (n:Int)=_;unfold NG k9;by_cases h:n≤s.length
 ·rw [decide_eq_true (show(s.length:Int)≥(n:Int) by omega)];simp only [cond_true];show Option.bind (dh s.length ((0:Nat):Int) (n:Int)) _=_;rw [jd (by omega) h];simp only [al,Nat.sub_zero];rw [pz,show n-s.length=0 by omega];simp [g']
 ·rw [decide_eq_false (show ¬(s.length:Int)≥(n:Int) by omega)];simp only [cond_false];show Option.bind (repF [0] (ax ((n:Int)-(s.length:Int)))) _=_;rw [show ax ((n:Int)-(s.length:Int))=((n-s.length:Nat):Int) by rw [cG (by omega) (by omega)];omega];unfold repF;rw [if_pos ⟨by omega,by omega,by simp;omega⟩,Int.toNat_natCast,abq];simp only [al];rw [b_ (by unfold g';rw [List.length_replicate];omega)];simp only [cond_true];rw [List.take_of_length_le (by unfold g';rw [List.length_append,List.length_replicate];omega)]
theorem abr(t:aO):eS (eM t)=t:=by
 unfold eS eM;rw [List.map_map]
 conv=>rhs;rw [← List.map_id t]
 refine List.map_congr_left fun b _=>?_
 simp
theorem Jr(t:aO):(eM t).length=t.length:=by unfold eM;simp
theorem aoG(t:aO):eM t++[0]=eM (t++[0]):=by unfold eM;simp
theorem aoH(t:aO)(i:Nat)(b:UInt8):(eM t).set i (b.toNat:Int)=eM (t.set i b):=by unfold eM;rw [List.map_set]
theorem abt(s:aO)(at_:Nat)(d:aO)(hs:s.length≤1048576)(ha:at_≤1048576)(af:d.length≤1048576) :
  tw (s,(at_:Int),d,())=some ((s++g' (at_+d.length-s.length)).take at_++d++(s++g' (at_+d.length-s.length)).drop (at_+d.length),()):=by
 show Hn (n_ aM) s (at_:Int) d=_;unfold Hn;have hw:ax ((at_:Int) +(d.length:Int))=((at_+d.length:Nat):Int):=by rw [cG (by omega) (by omega)];omega
 generalize ht:s++g' (at_+d.length-s.length)=t;have mM:at_+d.length≤t.length∧t.length≤4194304:=by rw [← ht];unfold g';rw [List.length_append,List.length_replicate];omega
 have a7:∀(r i:Nat),i+r=d.length→b3 (fun m=>(n_ m).bp (at_:Int) d (i:Int) (eM (t.take at_++d.take i++t.drop (at_+i)))) (r+1) (some (t.take at_++d++t.drop (at_+d.length),())):=by
  intro r
  induction r with
  | zero=>
   intro i hi;refine b3.now 1 fun m=>?_
   show Bq (n_ m) _ _ _ _=_;unfold Bq;rw [cw (by omega)];simp only [cond_false];rw [abr,show i=d.length by omega,List.take_length]
  | succ r ih=>
   intro i hi;have bO:i<d.length:=by omega
   refine((ih (i+1) (by omega)).jump (f:=fun m=>(n_ m).bp (at_:Int) d (i:Int) (eM (t.take at_++d.take i++t.drop (at_+i)))) 1 fun m=>?_).mono (by omega);show Bq (n_ m) _ _ _ _=_;unfold Bq;rw [b1 bO,br bO];simp only [cond_true,al];have Ci:(t.take at_++d.take i).length=at_+i:=by rw [List.length_append,List.length_take,List.length_take];omega
   have hlen:at_+i<(eM (t.take at_++d.take i++t.drop (at_+i))).length:=by rw [Jr,List.length_append,Ci,List.length_drop];omega
   rw [show ax ((at_:Int) +(i:Int))=((at_+i:Nat):Int) by rw [cG (by omega) (by omega)];omega,br hlen];simp only [al,Nat.zero_add];unfold WI;rw [dA i (by omega),aoH];congr 2;rw [zi (show at_+i<t.length by omega),List.set_append_right _ _ (by rw [Ci];omega),Ci,Nat.sub_self,List.set_cons_zero,List.take_succ_eq_append_getElem bO,List.getD_eq_getElem?_getD,List.getElem?_eq_getElem bO,show at_ +(i+1)=at_+i+1 by omega];simp only [List.append_assoc,List.singleton_append,List.cons_append,List.nil_append,Option.getD_some]
 have h2:∀(r k:Nat),k+r=at_+d.length-s.length→b3 (fun m=>(n_ m).k2 (at_:Int) d (eM (s++g' k))) (r+d.length+3) (some (t.take at_++d++t.drop (at_+d.length),())):=by
  intro r
  induction r with
  | zero=>
   intro k hk;have hk:k=at_+d.length-s.length:=by omega
   subst hk;rw [ht];have:=a7 d.length 0 (by omega);rw [List.take_zero,List.append_nil,Nat.add_zero,List.take_append_drop] at this;refine(this.jump (f:=fun m=>(n_ m).k2 (at_:Int) d (eM t)) 1 fun m=>?_).mono (by omega);show Bp (n_ m) _ _ _=_;unfold Bp;rw [hw,Jr,cw (by omega)];rfl
  | succ r ih=>
   intro k hk;refine((ih (k+1) (by omega)).jump (f:=fun m=>(n_ m).k2 (at_:Int) d (eM (s++g' k))) 1 fun m=>?_).mono (by omega);show Bp (n_ m) _ _ _=_;unfold Bp;have hl:(eM (s++g' k)).length=s.length+k:=by rw [Jr,List.length_append];unfold g';rw [List.length_replicate]
   rw [hw,b1 (by rw [hl];omega)];simp only [cond_true];rw [b_ (by rw [hl];simp only [List.length_cons,List.length_nil];omega)];simp only [cond_true];rw [aoG,List.append_assoc];have:g' k++[0]=g' (k+1):=by unfold g';rw [List.replicate_succ']
   rw [this]
 have:=h2 (at_+d.length-s.length) 0 (by omega);rw [show g' 0=[] from rfl,List.append_nil] at this;exact lH this (by omega)
theorem put_eq(s:aO)(at_:Nat)(d:aO):(s++g' (at_+d.length-s.length)).take at_++d++(s++g' (at_+d.length-s.length)).drop (at_+d.length)=lL s at_ d:=by
 unfold lL k9;congr 1
 ·congr 1;rw [List.take_append,List.take_append];congr 1;unfold g';rw [List.take_replicate,List.take_replicate];congr 1;omega
 ·rw [List.drop_append];have:(g' (at_+d.length-s.length)).drop (at_+d.length-s.length)=[]:=List.drop_of_length_le (by unfold g';rw [List.length_replicate];omega);rw [this,List.append_nil]
theorem aoI(s:aO)(at_:Nat):((s++g' (at_ +([]:aO).length-s.length)).take at_++([]:aO)++(s++g' (at_ +([]:aO).length-s.length)).drop (at_ +([]:aO).length)).take at_=k9 s at_:=by rw [put_eq];unfold lL;rw [List.append_nil,List.take_append_of_le_length (by rw [qM];omega),List.take_of_length_le (by rw [qM];omega)]
def ou(x:aS)(d:aO):aS:=(x.1,x.2.1,x.2.2.1,x.2.2.2.1,x.2.2.2.2.1,d,x.2.2.2.2.2.2.1,x.2.2.2.2.2.2.2.1,x.2.2.2.2.2.2.2.2.1,())
def eH(x:aI.D)(n:aS):Int:=if aD x=6 then((bX n).length:Int) else bU x
def i'(x:aI.D)(n:aS):aO:=if aD x=7 then k9 (bX n) (bU x).toNat else lL (bX n) (eH x n).toNat (dH x)
structure zm(v:ah.D)(c:aK.D)(x:aI.D)(w:ah.D):Prop where
 out:∃r i,h_ v.2.1 r∧bN r=0∧bC v.2.1 (bx r)=some i∧kindOf (I J v.2.1 i)≠2∧kindOf (I J v.2.1 i)≠3∧may c (I J v.2.1 i) 2=true∧0≤eH x (I J v.2.1 i)∧fh (v,c,fp x,true,())=some (r,()) ∧
  ((aD x≠7∧dH x=[]∧w=v)∨((aD x≠7→dH x≠[])∧eH x (I J v.2.1 i) +(dH x).length≤64∧w=(v.1,v.2.1.set i (ou (I J v.2.1 i) (i' x (I J v.2.1 i))),())∧fa w.2.1=0))
theorem abu(v:ah.D)(c:aK.D)(x:aI.D)(want:Int)(hw:r3 v.2.1)(hc:dQ c=true)(aw:(fp x).length≤1048576) :
  ∃r,tV true v.2.1 r∧fh (v,c,fp x,true,())=some (r,())∧(bN r≠0→A0 ((v,c,x,()),want,())=some (-1,bN r,(v,c,x,()),())) ∧
   (bN r=0→∃i,bC v.2.1 (bx r)=some i∧A0 ((v,c,x,()),want,())=cond (kindOf (I J v.2.1 i)==2) (some (-1,21,(v,c,x,()),())) (cond (!may c (I J v.2.1 i) want) (some (-1,13,(v,c,x,()),())) (some ((i:Int),0,(v,c,x,()),())))):=by
 obtain ⟨r,h1,h2,h3,h4⟩:=ua v c x true hw hc aw;refine⟨r,h1,h2,fun h0=>?_,fun h0=>?_⟩
 ·show AZ (v,c,x,()) want=_;unfold AZ;rw [h3 h0];simp only [al];rw [dq h0];rfl
 ·obtain ⟨i,hi,a7⟩:=h4 h0;refine⟨i,hi,?_⟩;show AZ (v,c,x,()) want=_;unfold AZ;rw [a7];simp only [al];rw [show((0:Int) != 0)=false from rfl];simp only [cond_false];rw [br (b9 hi).1];simp only [al];rw [B1 c _ want hc];rfl
theorem aoJ(m:Nat)(a b d):(gI (m+1)).dW a b d=NH (gI m) a b d:=rfl
theorem aoK(m:Nat)(a b d):(gI (m+1)).dm a b d=NI (gI m) a b d:=rfl
theorem aoL(m:Nat)(a b d):(gI (m+1)).gY a b d=NJ (gI m) a b d:=rfl
theorem aoM(m:Nat)(a b d e f g):(kA (m+1)).eF a b d e f g=OF (kA m) a b d e f g:=rfl
theorem aoN(m:Nat)(a b d e):(kA (m+1)).h8 a b d e=OG (kA m) a b d e:=rfl
theorem b4.g_{v:ah.D}(h:b4 v){i:Nat}(hi:i<v.2.1.length):(bX (I J v.2.1 i)).length≤64:=by
 have:=h.ino i hi;rcases this.kind with k | k | k
 ·exact this.file k
 ·rw [(this.dir k).1];simp
 ·have:=QU (this.oe k).1;omega
theorem aoO(v:ah.D)(c:aK.D)(x:aI.D)(hv:b4 v)(hc:dQ c=true)(hx:iC x)(hk:aD x=5∨aD x=6∨aD x=7):bq v c x (FM ((v,c,x,()),())) (yI (v,c,x,())) (zm v c x):=by
 have cE:=hv.kd;have hl:v.2.1.length≤1048576:=cE.len;have aw:=hx.path;have atV:=hx.g_;have mP:=hx.n;obtain ⟨q,hq,jn⟩:=kC 4;show bq v c x (FL (gI aM) (v,c,x,())) (Ho (kA aM) v c x) _;unfold FL Ho;obtain ⟨r,⟨hr,zn⟩,fR,kH,kI⟩:=abu v c x 2 cE hc (by omega);show bq v c x _ (Option.bind (fh (v,c,fp x,true,())) _) _;rw [fR];simp only [al];show bq v c x _ (cond (bN r != 0) (some (v,(bN r,[],()),())) _) _;by_cases b7:bN r=0
 case neg=>rw [kH b7,dq b7];simp only [al];rw [dq b7];exact bq.no (bN r) b7 rfl rfl (h_.rg ‹_›)
 obtain ⟨i,hi,e'⟩:=kI b7;have bj:=b9 hi;rw [e',ek b7];simp only [cond_false];show bq v c x _ (Option.bind (fx (v,bx r,())) _) _;rw [jR v _ hl hi];simp only [al];show bq v c x _ (cond (kindOf (I J v.2.1 i)==2) _ _) _;by_cases iz:kindOf (I J v.2.1 i)=2
 ·rw [cK iz];exact bq.no 21 (by decide) rfl rfl
 rw [bY iz];simp only [cond_false];rw [qD c _ 2 hc];simp only [al]
 cases hm:may c (I J v.2.1 i) 2 with
 | false=>exact bq.no 13 (by decide) rfl rfl
 | true=>
 simp only [Bool.not_true,cond_false,al];rw [show((0:Int) != 0)=false from rfl];simp only [cond_false];have atW:=hv.g_ bj.1
 have aoP:cond (x.1==6) ((ix v.2.1.length (i:Int)).bind fun v2=>(gI aM).dW (i:Int) ((I J v.2.1 v2).2.2.2.2.2.1.length:Int) (v,c,x,())) ((gI aM).dW (i:Int) x.2.2.2.1 (v,c,x,()))=(gI aM).dW (i:Int) (eH x (I J v.2.1 i)) (v,c,x,()):=by
  rw [br bj.1];unfold eH;show cond (aD x==6) _ _=_;by_cases bh:aD x=6
  ·rw [cK bh,if_pos bh];rfl
  ·rw [bY bh,if_neg bh];rfl
 have aoQ:cond (x.1==6) ((kA aM).eF ((I J v.2.1 i).2.2.2.2.2.1.length:Int) v x (0,([]:List J.D),()) (0,([]:aO),()) (I J v.2.1 i)) ((kA aM).eF x.2.2.2.1 v x (0,([]:List J.D),()) (0,([]:aO),()) (I J v.2.1 i))=(kA aM).eF (eH x (I J v.2.1 i)) v x (0,([]:List J.D),()) (0,([]:aO),()) (I J v.2.1 i):=by
  unfold eH;show cond (aD x==6) _ _=_;by_cases bh:aD x=6
  ·rw [cK bh,if_pos bh];rfl
  ·rw [bY bh,if_neg bh];rfl
 show bq v c x (cond (x.1==6) ((ix v.2.1.length (i:Int)).bind fun v2=>(gI aM).dW (i:Int) ((I J v.2.1 v2).2.2.2.2.2.1.length:Int) (v,c,x,())) ((gI aM).dW (i:Int) x.2.2.2.1 (v,c,x,())))
  (cond (x.1==6) ((kA aM).eF ((I J v.2.1 i).2.2.2.2.2.1.length:Int) v x (0,([]:List J.D),()) (0,([]:aO),()) (I J v.2.1 i)) ((kA aM).eF x.2.2.2.1 v x (0,([]:List J.D),()) (0,([]:aO),()) (I J v.2.1 i))) _
 rw [aoP,aoQ,hq,aoJ,aoM];unfold NH OF;by_cases sP:eH x (I J v.2.1 i)<0
 ·rw [decide_eq_true sP];exact bq.no 22 (by decide) rfl rfl
 rw [decide_eq_false sP];simp only [cond_false];obtain ⟨a,ha⟩:∃a:Nat,eH x (I J v.2.1 i)=a:=⟨(eH x (I J v.2.1 i)).toNat,by omega⟩
 have atX:a≤1000000:=by
  have:eH x (I J v.2.1 i)≤1000000:=by
   unfold eH;split
   ·omega
   ·exact mP.2
  omega
 show bq v c x (cond (!(aD x==7)) (cond (bw (dH x) []) (some (0,(v,c,x,()),())) ((gI (q+3)).dm (i:Int) (eH x (I J v.2.1 i)) (v,c,x,()))) ((gI (q+3)).dm (i:Int) (eH x (I J v.2.1 i)) (v,c,x,())))
  (cond (aD x==7) (cond (decide (eH x (I J v.2.1 i)>64)) (some (v,(27,[],()),())) (Option.bind (tw (bX (I J v.2.1 i),eH x (I J v.2.1 i),[],())) fun v1=>Option.bind (dh v1.1.length 0 (eH x (I J v.2.1 i))) fun v2=>(kA (q+3)).h8 v (0,([]:List J.D),()) (0,([]:aO),()) (ou (I J v.2.1 i) (part v1.1 v2.1 (v2.2-v2.1)))))
   (cond (bw (dH x) []) (some (v,(0,[],()),())) (cond (decide (eH x (I J v.2.1 i)>ax (64-((dH x).length:Int)))) (some (v,(27,[],()),())) (Option.bind (tw (bX (I J v.2.1 i),eH x (I J v.2.1 i),dH x,())) fun v3=>(kA (q+3)).h8 v (0,([]:List J.D),()) (0,([]:aO),()) (ou (I J v.2.1 i) v3.1))))) _
 have Rn:aD x≠7→dH x=[]→zm v c x v:=fun bJ af=>⟨r,i,hr,b7,hi,iz,zn rfl b7 i hi,hm,by omega,fR,.inl ⟨bJ,af,rfl⟩⟩
 by_cases ub:aD x≠7∧dH x=[]
 ·rw [bY ub.1,oi.2 ub.2];exact bq.yes 0 v (fun _=>Rn ub.1 ub.2) rfl rfl
 have aoR:cond (!(aD x==7)) (cond (bw (dH x) []) (some (0,(v,c,x,()),())) ((gI (q+3)).dm (i:Int) (eH x (I J v.2.1 i)) (v,c,x,()))) ((gI (q+3)).dm (i:Int) (eH x (I J v.2.1 i)) (v,c,x,()))=(gI (q+3)).dm (i:Int) (eH x (I J v.2.1 i)) (v,c,x,()):=by
  by_cases bJ:aD x=7
  ·rw [cK bJ];rfl
  ·rw [bY bJ];have:bw (dH x) []=false:=by rw [← Bool.not_eq_true,oi];exact fun h=>ub ⟨bJ,h⟩
   rw [this];rfl
 rw [aoR,aoK];unfold NI;show bq v c x (cond (decide (ax (eH x (I J v.2.1 i) +((dH x).length:Int))>64)) _ _) _ _;have abv:aD x=7→dH x=[]:=fun bJ=>hx.aa4.elim id fun h=>by omega
 have aoS:ax (eH x (I J v.2.1 i) +((dH x).length:Int))=((a +(dH x).length:Nat):Int):=by rw [ha,cG (by omega) (by omega)];omega
 rw [aoS];by_cases Js:a +(dH x).length>64
 ·rw [decide_eq_true (by omega)]
  have:cond (aD x==7) (cond (decide (eH x (I J v.2.1 i)>64)) (some (v,((27:Int),([]:aO),()),())) (Option.bind (tw (bX (I J v.2.1 i),eH x (I J v.2.1 i),[],())) fun v1=>Option.bind (dh v1.1.length 0 (eH x (I J v.2.1 i))) fun v2=>(kA (q+3)).h8 v (0,([]:List J.D),()) (0,([]:aO),()) (ou (I J v.2.1 i) (part v1.1 v2.1 (v2.2-v2.1)))))
   (cond (bw (dH x) []) (some (v,(0,[],()),())) (cond (decide (eH x (I J v.2.1 i)>ax (64-((dH x).length:Int)))) (some (v,(27,[],()),())) (Option.bind (tw (bX (I J v.2.1 i),eH x (I J v.2.1 i),dH x,())) fun v3=>(kA (q+3)).h8 v (0,([]:List J.D),()) (0,([]:aO),()) (ou (I J v.2.1 i) v3.1))))=some (v,(27,[],()),()):=by
   by_cases bJ:aD x=7
   ·have h0:=abv bJ;rw [h0] at Js;simp only [List.length_nil] at Js;rw [cK bJ,decide_eq_true (show eH x (I J v.2.1 i)>64 by omega)];rfl
   ·rw [bY bJ];have h0:bw (dH x) []=false:=by rw [← Bool.not_eq_true,oi];exact fun h=>ub ⟨bJ,h⟩
    rw [h0,show ax (64-((dH x).length:Int))=64-((dH x).length:Int) from cG (by omega) (by omega),decide_eq_true (show eH x (I J v.2.1 i)>64-((dH x).length:Int) by omega)];rfl
  rw [this];exact bq.no 27 (by decide) rfl rfl
 rw [decide_eq_false (by omega)];simp only [cond_false];obtain ⟨w,hw⟩:∃w:ah.D,w=(v.1,v.2.1.set i (ou (I J v.2.1 i) (i' x (I J v.2.1 i))),()):=⟨_,rfl⟩
 have hnl:(i' x (I J v.2.1 i)).length≤200:=by
  have hf:∀s n,(k9 s n).length=n:=qM
  unfold i' lL;rw [ha,Int.toNat_natCast];split
  ·rename_i bJ;have:eH x (I J v.2.1 i)=bU x:=by unfold eH;rw [if_neg (by omega)]
   rw [hf];omega
  ·rw [List.length_append,List.length_append,hf,List.length_drop];omega
 have hst:ar 1000 w.2.1:=by
  rw [hw]
  exact(hv.st.set (k:=200) (i:=i) (y:=ou (I J v.2.1 i) (i' x (I J v.2.1 i))) bj.1 rfl (fun d af=>hv.iZ i bj.1 d af) (fun dO=>hv.st.bare i bj.1 dO) (Nat.le_add_right _ _) (by
   show(i' x (I J v.2.1 i)).length≤_
   omega)).mono (by omega)
 have hwr:fa w.2.1=0→zm v c x w:=fun hf=>⟨r,i,hr,b7,hi,iz,zn rfl b7 i hi,hm,by omega,fR,.inr ⟨fun bJ h=>ub ⟨bJ,h⟩,by omega,hw,hf⟩⟩
 have Ce:∀m,(gI (m+1)).gY (i:Int) (i' x (I J v.2.1 i)) (v,c,x,())=some (fa w.2.1,(w,c,x,()),()):=by intro m;rw [aoL];unfold NJ;show Option.bind (ix v.2.1.length (i:Int)) _=_;rw [br bj.1];show Option.bind (n7 (((v.1,v.2.1.set i (ou (I J v.2.1 i) (i' x (I J v.2.1 i))),()),c,x,()),())) (fun v3=>some (v3.1,((v.1,v.2.1.set i (ou (I J v.2.1 i) (i' x (I J v.2.1 i))),()),c,x,()),()))=_;rw [← hw,B9 w c x hst (by omega)];rfl
 have abw:∀m,(kA (m+1)).h8 v (0,([]:List J.D),()) (0,([]:aO),()) (ou (I J v.2.1 i) (i' x (I J v.2.1 i)))=some (cond (fa w.2.1==0) w v,(fa w.2.1,[],()),()):=by intro m;rw [aoN];unfold OG;rw [zc v hl (fun i hi=>Nat.le_trans (gA hi) cE.dw)];simp only [al];rw [Jf v _ hl (show bC v.2.1 (ou (I J v.2.1 i) (i' x (I J v.2.1 i))).1=some i from(show(I J v.2.1 i).1=bx r from bj.2) ▸ hi),← hw];simp only [al];rw [B_ v w hst (by omega)];rfl
 have aoT:(cond (decide (((bX (I J v.2.1 i)).length:Int) >((k9 (bX (I J v.2.1 i)) a++dH x).length:Int)))
   ((dh (bX (I J v.2.1 i)).length ((k9 (bX (I J v.2.1 i)) a++dH x).length:Int) ((bX (I J v.2.1 i)).length:Int)).bind fun v5=>cond (room ((k9 (bX (I J v.2.1 i)) a++dH x).length +(part (bX (I J v.2.1 i)) v5.1 (v5.2-v5.1)).length))
    ((gI (q+2)).gY (i:Int) ((k9 (bX (I J v.2.1 i)) a++dH x)++part (bX (I J v.2.1 i)) v5.1 (v5.2-v5.1)) (v,c,x,())) none)
   ((gI (q+2)).gY (i:Int) (k9 (bX (I J v.2.1 i)) a++dH x) (v,c,x,())))=(gI (q+2)).gY (i:Int) (lL (bX (I J v.2.1 i)) a (dH x)) (v,c,x,()):=by
  have iw:(k9 (bX (I J v.2.1 i)) a++dH x).length=a +(dH x).length:=by rw [List.length_append,qM]
  rw [iw];unfold lL;by_cases ot:(bX (I J v.2.1 i)).length>a +(dH x).length
  ·rw [decide_eq_true (by omega)];simp only [cond_true];rw [jd (by omega) (Nat.le_refl _)];simp only [al];rw [tU,b_ (by rw [List.length_drop];omega)];rfl
  ·rw [decide_eq_false (by omega)];simp only [cond_false];rw [List.drop_of_length_le (by omega),List.append_nil]
 show bq v c x (Option.bind (ix v.2.1.length (i:Int)) fun v1=>Option.bind (FK (bX (I J v.2.1 v1),eH x (I J v.2.1 i),())) fun v2=>cond (!(aD x==7)) (cond (room (v2.1.length +(dH x).length)) (Option.bind (ix v.2.1.length (i:Int)) fun v3=>cond (decide (((bX (I J v.2.1 v3)).length:Int) >((v2.1++dH x).length:Int)))
   (Option.bind (ix v.2.1.length (i:Int)) fun v4=>(dh (bX (I J v.2.1 v4)).length ((v2.1++dH x).length:Int) ((bX (I J v.2.1 v4)).length:Int)).bind fun v5=>cond (room ((v2.1++dH x).length +(part (bX (I J v.2.1 v4)) v5.1 (v5.2-v5.1)).length))
    ((gI (q+2)).gY (i:Int) ((v2.1++dH x)++part (bX (I J v.2.1 v4)) v5.1 (v5.2-v5.1)) (v,c,x,())) none)
   ((gI (q+2)).gY (i:Int) (v2.1++dH x) (v,c,x,()))) none) ((gI (q+2)).gY (i:Int) v2.1 (v,c,x,()))) _ _
 rw [br bj.1,ha];simp only [al];rw [aoF _ _ (by omega) (by omega)];simp only [al];rw [b_ (by rw [qM];omega)];simp only [cond_true];rw [aoT];by_cases bJ:aD x=7
 ·have u4:=abv bJ
  have iA:i' x (I J v.2.1 i)=k9 (bX (I J v.2.1 i)) a:=by
   unfold i';rw [if_pos bJ];have:eH x (I J v.2.1 i)=bU x:=by unfold eH;rw [if_neg (by omega)]
   rw [← this,ha,Int.toNat_natCast]
  rw [cK bJ];rw [u4] at Js;simp only [List.length_nil] at Js;rw [decide_eq_false (show ¬((a:Int)>64) by omega)];simp only [Bool.not_true,cond_false,cond_true];rw [abt _ _ _ (by omega) (by omega) (by simp)];simp only [al];rw [put_eq];show bq v c x _ (Option.bind (dh (lL (bX (I J v.2.1 i)) a []).length ((0:Nat):Int) (a:Int)) _) _;rw [jd (by omega) (by unfold lL;rw [List.length_append,List.length_append,qM];omega)];simp only [al,Nat.sub_zero];have mK:part (lL (bX (I J v.2.1 i)) a []) 0 a=i' x (I J v.2.1 i):=by rw [pz,iA,← aoI,put_eq]
  rw [mK,← iA,Ce (q+1),abw (q+2)];exact bq.yes _ _ (hwr) rfl rfl
 ·have iA:i' x (I J v.2.1 i)=lL (bX (I J v.2.1 i)) a (dH x):=by
   unfold i';rw [if_neg bJ,ha,Int.toNat_natCast]
  rw [bY bJ];have h0:bw (dH x) []=false:=by rw [← Bool.not_eq_true,oi];exact fun h=>ub ⟨bJ,h⟩
  rw [h0,show ax (64-((dH x).length:Int))=64-((dH x).length:Int) from cG (by omega) (by omega),decide_eq_false (show ¬((a:Int)>64-((dH x).length:Int)) by omega)];simp only [Bool.not_false,cond_true,cond_false];rw [abt _ _ _ (by omega) (by omega) (by omega)];simp only [al];rw [put_eq,← iA,Ce (q+1),abw (q+2)];exact bq.yes _ _ (hwr) rfl rfl
theorem abx(l:List aS):bytesOf l=((List.range l.length).map fun i=>(bX (I J l i)).length).sum:=by
 unfold bytesOf;congr 1;refine List.ext_getElem (by simp) fun i h1 h2=>?_
 simp only [List.length_map] at h1;rw [List.getElem_map,List.getElem_map,List.getElem_range,c2 h1]
structure Alike(l l':List aS):Prop where
 len:l'.length=l.length
 id:∀i,(I J l' i).1=(I J l i).1
 g_:∀i,bX (I J l' i)=bX (I J l i)
 dw:∀i,ay (I J l' i)=ay (I J l i)
theorem Alike.bC{l l':List aS}(h:Alike l l'):j7.bC l'=j7.bC l:=by
 funext id
 unfold j7.bC;rw [h.len];refine aaX fun i _=>?_
 rw [h.id]
theorem Alike.below{l l':List aS}(h:Alike l l'):eG l'=eG l:=by
 have e1:jP l'=jP l:=by
  funext i j s
  unfold jP;rw [h.bC,h.dw]
 have e2:iW l'=iW l:=by
  funext i s
  unfold iW;rw [e1,h.dw]
 have e3:fI l'=fI l:=by
  funext s
  unfold fI;rw [e2,h.len]
 funext id
 unfold eG;rw [h.bC,h.len,e3]
theorem Alike.aoU{l l':List aS}(h:Alike l l')(x bz:aS)(h1:bz.1=x.1)(h2:fQ bz=fQ x)(h3:fB bz=fB x):jz l' bz=jz l x:=by
 have e1:jQ l'=jQ l:=by
  funext F
  unfold jQ pw dl;rw [h.len];congr 2
  funext i
  rw [h.g_]
 have e2:kb l'=kb l:=by
  funext F
  unfold kb pw;rw [h.len]
 unfold jz;rw [e1,e2,h.below,h1,h2,h3]
theorem Alike.fits{l l':List aS}(h:Alike l l')(hb:∀i,fQ (I J l' i)=fQ (I J l i))(hi:∀i,fB (I J l' i)=fB (I J l i)):fa l'=fa l:=by
 have e1:bytesOf l'=bytesOf l:=by
  rw [abx,abx,h.len];congr 2
  funext i
  rw [h.g_]
 have e2:jA l'=jA l:=by
  unfold jA;rw [h.len];congr 2
  funext i
  rw [h.aoU (I J l i) (I J l' i) (h.id i) (hb i) (hi i)]
 unfold fa;rw [e1,e2]
theorem aoV{l:List aS}{i:Nat}{y:aS}(hi:i<l.length)(h1:y.1=(I J l i).1)(h2:bX y=bX (I J l i))(h3:ay y=ay (I J l i)):Alike l (l.set i y):=by
 refine⟨List.length_set,fun j=>?_,fun j=>?_,fun j=>?_⟩ <;>
  ·rw [jC hi];split
   ·rename_i he;subst he;assumption
   ·rfl
def jD(x:aS)(m u g:Int):aS:=(x.1,x.2.1,m,u,g,x.2.2.2.2.2.1,x.2.2.2.2.2.2.1,x.2.2.2.2.2.2.2.1,x.2.2.2.2.2.2.2.2.1,())
theorem aby(x:aS)(m u g:Int):(jD x m u g).1=x.1:=rfl
theorem Jt{v:ah.D}(hv:b4 v){i:Nat}(hi:i<v.2.1.length)(m u g:Int):fa (v.2.1.set i (jD (I J v.2.1 i) m u g))=0:=by
 have ha:Alike v.2.1 (v.2.1.set i (jD (I J v.2.1 i) m u g)):=aoV hi rfl rfl rfl
 rw [ha.fits (fun j=>by
  rw [jC hi];split
  ·rename_i he;subst he;rfl
  ·rfl) (fun j=>by
  rw [jC hi];split
  ·rename_i he;subst he;rfl
  ·rfl)]
 unfold fa;rw [decide_eq_false (by have:=hv.bytes;omega),hv.over];rfl
theorem abz{v:ah.D}(hv:b4 v){i:Nat}(hi:i<v.2.1.length)(m u g:Int):ar 1000 (v.2.1.set i (jD (I J v.2.1 i) m u g)):=
 (hv.st.set (k:=1) (i:=i) (y:=jD (I J v.2.1 i) m u g) hi rfl (fun d af=>hv.iZ i hi d af) (fun hk=>hv.st.bare i hi hk) (Nat.le_add_right _ _) (Nat.le_add_right _ _)).mono (by omega)
def andNot(a b:Int):Int:=cY .andNot .i64 a b
def sa(c:aK.D)(x:aI.D)(n:aS):Int:=if c.1≠0∧np c (fC n)=false then andNot (bU x) 1024 else bU x
theorem Ck(m:Nat)(a b d e f g):(h9 (m+1)).cV a b d e f g=Br (h9 m) a b d e f g:=rfl
theorem Ro(m:Nat)(a b d e f):(h9 (m+1)).eF a b d e f=Bs (h9 m) a b d e f:=rfl
theorem aoW(m:Nat)(a b d e f g):(h9 (m+1)).qg a b d e f g=OH (h9 m) a b d e f g:=rfl
theorem aoX(m:Nat)(a b d e):(h9 (m+1)).na a b d e=OI (h9 m) a b d e:=rfl
theorem Rp{v:ah.D}(hv:b4 v)(z:ah.D)(hH:an.D){i:Nat}(hi:i<v.2.1.length)(n:aS)(hn:n.1=(I J v.2.1 i).1)(hst:ar 1000 (v.2.1.set i n))(m:Nat) :
  (h9 (m+1)).na v z hH n=some (cond (fa (v.2.1.set i n)==0) (v.1,v.2.1.set i n,()) v,(fa (v.2.1.set i n),[],()),()):=by
 have cE:=hv.kd;rw [aoX];unfold OI;rw [zc v cE.len (fun i hi=>Nat.le_trans (gA hi) cE.dw)];simp only [al];rw [Jf v n cE.len (show bC v.2.1 n.1=some i from hn ▸ hv.iY i hi)];simp only [al];rw [B_ v (v.1,v.2.1.set i n,()) hst (by omega)];rfl
structure Cl(v:ah.D)(c:aK.D)(x:aI.D)(w:ah.D):Prop where
 out:0≤bU x∧bU x≤2047∧∃r i,h_ v.2.1 r∧bN r=0∧bC v.2.1 (bx r)=some i∧kindOf (I J v.2.1 i)≠3∧(c.1≠0→c.1=eK (I J v.2.1 i)) ∧
  w=(v.1,v.2.1.set i (jD (I J v.2.1 i) (sa c x (I J v.2.1 i)) (eK (I J v.2.1 i)) (fC (I J v.2.1 i))),())
theorem aoY(v:ah.D)(c:aK.D)(x:aI.D)(hv:b4 v)(hc:dQ c=true)(hx:iC x)(hk:aD x=15):bq v c x (FZ ((v,c,x,()),())) (tz (v,c,x,())) (Cl v c x):=by
 have cE:=hv.kd;have hl:v.2.1.length≤1048576:=cE.len;have aw:=hx.path;obtain ⟨q,hq,jn⟩:=kC 4;show bq v c x (FY (rD aM) (v,c,x,())) (tx (h9 aM) v c x) _;unfold FY tx;show bq v c x (Option.bind (dG (bU x,0,2047,())) _) (cond (aD x==15) (Option.bind (dz (bU x,0,2047,())) _) _) _;rw [cK hk,jx,ka];simp only [cond_true,al];rw [hq,Ck];unfold Br
 cases hN:ct (bU x) 0 2047 with
 | false=>exact bq.no 22 (by decide) rfl rfl
 | true=>
 have qL:=cR.1 hN;simp only [Bool.not_true,cond_false];show bq v c x _ (cond (aD x==19) _ _) _;rw [bY (show aD x≠19 by omega),Ro];simp only [cond_false];unfold Bs;obtain ⟨r,⟨hr,zn⟩,fR,kH,kI⟩:=ua v c x true cE hc (by omega);show bq v c x _ (Option.bind (fh (v,c,fp x,true,())) _) _;rw [fR];simp only [al];show bq v c x _ (cond (bN r != 0) (some (v,(bN r,[],()),())) _) _;by_cases b7:bN r=0
 case neg=>rw [kH b7,dq b7];simp only [al];rw [dq b7];exact bq.no (bN r) b7 rfl rfl (h_.rg ‹_›)
 obtain ⟨i,hi,e'⟩:=kI b7;have bj:=b9 hi;rw [e',ek b7];simp only [cond_false,al];rw [show((0:Int) != 0)=false from rfl];simp only [cond_false];show bq v c x _ (Option.bind (fx (v,bx r,())) _) _;rw [jR v _ hl hi,br bj.1];simp only [al]
 show bq v c x (cond (c.1 != 0) (cond (c.1 != eK (I J v.2.1 i)) (some (1,(v,c,x,()),())) (rD (q+4) (i:Int) (v,c,x,()))) (rD (q+4) (i:Int) (v,c,x,())))
  (cond (aD x==15) (cond (c.1 != 0) (cond (c.1 != eK (I J v.2.1 i)) (some (v,(1,[],()),())) ((h9 (q+2)).qg v c x (0,([]:List J.D),()) (0,([]:aO),()) (I J v.2.1 i))) ((h9 (q+2)).qg v c x (0,([]:List J.D),()) (0,([]:aO),()) (I J v.2.1 i))) _) _
 rw [cK hk];simp only [cond_true]
 have hfin:(c.1≠0→c.1=eK (I J v.2.1 i))→bq v c x (rD (q+4) (i:Int) (v,c,x,())) ((h9 (q+2)).qg v c x (0,([]:List J.D),()) (0,([]:aO),()) (I J v.2.1 i)) (Cl v c x):=by
  intro hu
  have e':rD (q+4) (i:Int) (v,c,x,())=some (0,((v.1,v.2.1.set i (jD (I J v.2.1 i) (sa c x (I J v.2.1 i)) (eK (I J v.2.1 i)) (fC (I J v.2.1 i))),()),c,x,()),()):=by
   rw [rD,NO];show Option.bind (ix v.2.1.length (i:Int)) (fun v1=>NN (v,c,x,()) (i:Int) (v.2.1.set v1 (jD (I J v.2.1 v1) (bU x) (eK (I J v.2.1 v1)) (fC (I J v.2.1 v1)))))=_;rw [br bj.1];simp only [al];unfold NN sa;have aC:I J (v.2.1.set i (jD (I J v.2.1 i) (bU x) (eK (I J v.2.1 i)) (fC (I J v.2.1 i)))) i=jD (I J v.2.1 i) (bU x) (eK (I J v.2.1 i)) (fC (I J v.2.1 i)):=by rw [jC bj.1,if_pos rfl]
   have fz:ix (v.2.1.set i (jD (I J v.2.1 i) (bU x) (eK (I J v.2.1 i)) (fC (I J v.2.1 i)))).length (i:Int)=some i:=br (by rw [List.length_set];exact bj.1);show cond (c.1 != 0) _ _=_;by_cases h0:c.1=0
   ·rw [ek h0,if_neg (fun h=>h.1 h0)];rfl
   ·rw [dq h0,fz];simp only [cond_true,al];rw [aC];show Option.bind (vG (c,fC (I J v.2.1 i),())) _=_;rw [QJ c _ hc];simp only [al]
    cases DJ:np c (fC (I J v.2.1 i)) with
    | true=>rw [if_neg (fun h=>by cases h.2)];rfl
    | false=>rw [if_pos ⟨h0,rfl⟩];simp only [Bool.not_false,cond_true];unfold Wg;rw [List.set_set];rfl
  have de:(h9 (q+2)).qg v c x (0,([]:List J.D),()) (0,([]:aO),()) (I J v.2.1 i)=(h9 (q+1)).na v (0,([]:List J.D),()) (0,([]:aO),()) (jD (I J v.2.1 i) (sa c x (I J v.2.1 i)) (eK (I J v.2.1 i)) (fC (I J v.2.1 i))):=by
   rw [aoW];unfold OH sa;show cond (c.1 != 0) (Option.bind (wa (c,fC (I J v.2.1 i),())) _) _=_;by_cases h0:c.1=0
   ·rw [ek h0,if_neg (fun h=>h.1 h0)];rfl
   ·rw [dq h0,QI c _ hc];simp only [cond_true,al]
    cases DJ:np c (fC (I J v.2.1 i)) with
    | true=>rw [if_neg (fun h=>by cases h.2)];rfl
    | false=>rw [if_pos ⟨h0,rfl⟩];rfl
  rw [e',de,Rp hv _ _ bj.1 _ (aby _ _ _ _) (abz hv bj.1 _ _ _),Jt hv bj.1];exact bq.yes 0 _ (fun _=>⟨qL.1,qL.2,r,i,hr,b7,hi,zn rfl b7 i hi,hu,rfl⟩) rfl rfl
 by_cases h0:c.1=0
 ·rw [ek h0];exact hfin fun h=>absurd h0 h
 ·rw [dq h0];simp only [cond_true];by_cases hu:c.1=eK (I J v.2.1 i)
  ·rw [ek hu];exact hfin fun _=>hu
  ·rw [dq hu];exact bq.no 1 (by decide) rfl rfl
structure Cm(v:ah.D)(c:aK.D)(x:aI.D)(w:ah.D):Prop where
 out:(0≤bU x∧bU x≤1000)∧(0≤en x∧en x≤1000)∧∃r i,h_ v.2.1 r∧bN r=0∧bC v.2.1 (bx r)=some i∧w=(v.1,v.2.1.set i (jD (I J v.2.1 i) (fi (I J v.2.1 i)) (bU x) (en x)),())
theorem aoZ(v:ah.D)(c:aK.D)(x:aI.D)(hv:b4 v)(hc:dQ c=true)(hx:iC x)(hk:aD x=16):bq v c x (F4 ((v,c,x,()),())) (tz (v,c,x,())) (Cm v c x):=by
 have cE:=hv.kd;have hl:v.2.1.length≤1048576:=cE.len;have aw:=hx.path;obtain ⟨q,hq,jn⟩:=kC 4;show bq v c x (F3 (rE aM) (v,c,x,())) (tx (h9 aM) v c x) _;unfold F3 tx;show bq v c x (Option.bind (dG (bU x,0,1000,())) fun v1=>cond (!v1.1) _ (Option.bind (dG (en x,0,1000,())) _)) (cond (aD x==15) _ (cond (aD x==16) (Option.bind (dz (bU x,0,1000,())) fun v2=>cond (!v2.1) _ (Option.bind (dz (en x,0,1000,())) _)) _)) _;rw [bY (show aD x≠15 by omega),cK hk];simp only [cond_true,cond_false];rw [jx,ka];simp only [al];rw [hq]
 cases hN:ct (bU x) 0 1000 with
 | false=>simp only [Bool.not_false,cond_true];rw [Ck];exact bq.no 22 (by decide) rfl rfl
 | true=>
 have qL:=cR.1 hN;simp only [Bool.not_true,cond_false];rw [jx,ka];simp only [al];rw [Ck];unfold Br
 cases jN:ct (en x) 0 1000 with
 | false=>exact bq.no 22 (by decide) rfl rfl
 | true=>
 have Rq:=cR.1 jN;simp only [Bool.not_true,cond_false];show bq v c x _ (cond (aD x==19) _ _) _;rw [bY (show aD x≠19 by omega),Ro];simp only [cond_false];unfold Bs;obtain ⟨r,⟨hr,zn⟩,fR,kH,kI⟩:=ua v c x true cE hc (by omega);show bq v c x _ (Option.bind (fh (v,c,fp x,true,())) _) _;rw [fR];simp only [al];show bq v c x _ (cond (bN r != 0) (some (v,(bN r,[],()),())) _) _;by_cases b7:bN r=0
 case neg=>rw [kH b7,dq b7];simp only [al];rw [dq b7];exact bq.no (bN r) b7 rfl rfl (h_.rg ‹_›)
 obtain ⟨i,hi,e'⟩:=kI b7;have bj:=b9 hi;rw [e',ek b7];simp only [cond_false,al];rw [show((0:Int) != 0)=false from rfl];simp only [cond_false];show bq v c x _ (Option.bind (fx (v,bx r,())) _) _;rw [jR v _ hl hi,br bj.1];simp only [al]
 show bq v c x (cond (c.1 != 0) (cond (c.1 != eK (I J v.2.1 i)) (some (1,(v,c,x,()),())) (cond (bU x != eK (I J v.2.1 i)) (some (1,(v,c,x,()),())) (Option.bind (vG (c,en x,())) fun v6=>cond (!v6.1) (some (1,(v,c,x,()),())) (rE (q+4) (i:Int) (v,c,x,()))))) (rE (q+4) (i:Int) (v,c,x,())))
  (cond (aD x==15) _ (cond (aD x==16) (cond (c.1 != 0) (cond (c.1 != eK (I J v.2.1 i)) (some (v,(1,[],()),())) (cond (bU x != eK (I J v.2.1 i)) (some (v,(1,[],()),())) (Option.bind (wa (c,en x,())) fun v3=>cond (!v3.1) (some (v,(1,[],()),())) ((h9 (q+2)).na v (0,([]:List J.D),()) (0,([]:aO),()) (jD (I J v.2.1 i) (fi (I J v.2.1 i)) (bU x) (en x))))))
   ((h9 (q+2)).na v (0,([]:List J.D),()) (0,([]:aO),()) (jD (I J v.2.1 i) (fi (I J v.2.1 i)) (bU x) (en x)))) _)) _
 rw [bY (show aD x≠15 by omega),cK hk,QJ c _ hc,QI c _ hc];simp only [cond_true,cond_false,al]
 have hfin:bq v c x (rE (q+4) (i:Int) (v,c,x,())) ((h9 (q+2)).na v (0,([]:List J.D),()) (0,([]:aO),()) (jD (I J v.2.1 i) (fi (I J v.2.1 i)) (bU x) (en x))) (Cm v c x):=by
  have e':rE (q+4) (i:Int) (v,c,x,())=some (0,((v.1,v.2.1.set i (jD (I J v.2.1 i) (fi (I J v.2.1 i)) (bU x) (en x)),()),c,x,()),()):=by rw [rE,NQ];show Option.bind (ix v.2.1.length (i:Int)) (fun v1=>NP (i:Int) (v,c,x,()) (v.2.1.set v1 (jD (I J v.2.1 v1) (fi (I J v.2.1 v1)) (bU x) (fC (I J v.2.1 v1)))))=_;rw [br bj.1];simp only [al];unfold NP;rw [br (by rw [List.length_set];exact bj.1)];simp only [al];unfold Wh;rw [List.set_set,jC bj.1,if_pos rfl];rfl
  rw [e',Rp hv _ _ bj.1 _ (aby _ _ _ _) (abz hv bj.1 _ _ _),Jt hv bj.1];exact bq.yes 0 _ (fun _=>⟨qL,Rq,r,i,hr,b7,hi,rfl⟩) rfl rfl
 by_cases h0:c.1=0
 ·rw [ek h0];exact hfin
 ·rw [dq h0];simp only [cond_true];by_cases hu:c.1=eK (I J v.2.1 i)
  ·rw [ek hu];simp only [cond_false];by_cases hn:bU x=eK (I J v.2.1 i)
   ·rw [ek hn];simp only [cond_false]
    cases np c (en x) with
    | false=>exact bq.no 1 (by decide) rfl rfl
    | true=>exact hfin
   ·rw [dq hn];exact bq.no 1 (by decide) rfl rfl
  ·rw [dq hu];exact bq.no 1 (by decide) rfl rfl
def ns(x:aS)(b k:Int):aS:=(x.1,x.2.1,x.2.2.1,x.2.2.2.1,x.2.2.2.2.1,x.2.2.2.2.2.1,x.2.2.2.2.2.2.1,b,k,())
theorem ao0(x:aS)(b k:Int):(ns x b k).1=x.1:=rfl
structure Ju(v:ah.D)(c:aK.D)(x:aI.D)(w:ah.D):Prop where
 out:(0≤bU x∧bU x≤400)∧(0≤en x∧en x≤24)∧c.1=0∧∃r i,h_ v.2.1 r∧bN r=0∧bC v.2.1 (bx r)=some i∧kindOf (I J v.2.1 i)=2∧w=(v.1,v.2.1.set i (ns (I J v.2.1 i) (bU x) (en x)),())∧fa w.2.1=0
theorem ao1(v:ah.D)(c:aK.D)(x:aI.D)(hv:b4 v)(hc:dQ c=true)(hx:iC x)(hk:aD x=19):bq v c x (F7 ((v,c,x,()),())) (tz (v,c,x,())) (Ju v c x):=by
 have cE:=hv.kd;have hl:v.2.1.length≤1048576:=cE.len;have aw:=hx.path;obtain ⟨q,hq,jn⟩:=kC 4;show bq v c x (NT (v,c,x,())) (tx (h9 aM) v c x) _;unfold NT tx;show bq v c x (Option.bind (dG (bU x,0,400,())) fun v1=>cond (!v1.1) _ (Option.bind (dG (en x,0,24,())) _)) (cond (aD x==15) _ (cond (aD x==16) _ (Option.bind (dz (bU x,0,400,())) fun v2=>cond (!v2.1) _ (Option.bind (dz (en x,0,24,())) _)))) _;rw [bY (show aD x≠15 by omega),bY (show aD x≠16 by omega)];simp only [cond_true,cond_false];rw [jx,ka];simp only [al];rw [hq]
 cases hN:ct (bU x) 0 400 with
 | false=>simp only [Bool.not_false,cond_true];rw [Ck];exact bq.no 22 (by decide) rfl rfl
 | true=>
 have qL:=cR.1 hN;simp only [Bool.not_true,cond_false];rw [jx,ka];simp only [al];rw [Ck];unfold Br
 cases jN:ct (en x) 0 24 with
 | false=>exact bq.no 22 (by decide) rfl rfl
 | true=>
 have Rq:=cR.1 jN;simp only [Bool.not_true,cond_false];show bq v c x (cond (c.1 != 0) _ _) (cond (aD x==19) (cond (c.1 != 0) _ _) _) _;rw [cK hk];simp only [cond_true];by_cases h0:c.1=0
 case neg=>rw [dq h0];exact bq.no 1 (by decide) rfl rfl
 rw [ek h0];simp only [cond_false];rw [Ro];unfold Bs;obtain ⟨r,⟨hr,zn⟩,fR,kH,kI⟩:=ua v c x true cE hc (by omega);show bq v c x _ (Option.bind (fh (v,c,fp x,true,())) _) _;rw [fR];simp only [al];show bq v c x _ (cond (bN r != 0) (some (v,(bN r,[],()),())) _) _;by_cases b7:bN r=0
 case neg=>rw [kH b7,dq b7];simp only [al];rw [dq b7];exact bq.no (bN r) b7 rfl rfl (h_.rg ‹_›)
 obtain ⟨i,hi,e'⟩:=kI b7;have bj:=b9 hi;rw [e',ek b7];simp only [cond_false,al];rw [show((0:Int) != 0)=false from rfl];simp only [cond_false];show bq v c x _ (Option.bind (fx (v,bx r,())) _) _;rw [jR v _ hl hi,br bj.1];simp only [al]
 show bq v c x (cond (kindOf (I J v.2.1 i) != 2) (some (20,(v,c,x,()),())) (F6 ((i:Int),0,(v,c,x,()),()) (v.2.1.set i (ns (I J v.2.1 i) (bU x) (fB (I J v.2.1 i))))))
  (cond (aD x==15) _ (cond (aD x==16) _ (cond (kindOf (I J v.2.1 i) != 2) (some (v,(20,[],()),())) ((h9 (q+2)).na v (0,([]:List J.D),()) (0,([]:aO),()) (ns (I J v.2.1 i) (bU x) (en x)))))) _
 rw [bY (show aD x≠15 by omega),bY (show aD x≠16 by omega)];simp only [cond_false];by_cases iz:kindOf (I J v.2.1 i)=2
 case neg=>rw [dq iz];exact bq.no 20 (by decide) rfl rfl
 rw [ek iz];simp only [cond_false];have hst:ar 1000 (v.2.1.set i (ns (I J v.2.1 i) (bU x) (en x))):=(hv.st.set (k:=1) (i:=i) (y:=ns (I J v.2.1 i) (bU x) (en x)) bj.1 rfl (fun d af=>hv.iZ i bj.1 d af) (fun hk=>absurd iz hk) (Nat.le_add_right _ _) (Nat.le_add_right _ _)).mono (by omega);have e':F6 ((i:Int),0,(v,c,x,()),()) (v.2.1.set i (ns (I J v.2.1 i) (bU x) (fB (I J v.2.1 i))))=some (fa (v.2.1.set i (ns (I J v.2.1 i) (bU x) (en x))),((v.1,v.2.1.set i (ns (I J v.2.1 i) (bU x) (en x)),()),c,x,()),()):=by unfold F6;rw [br (by rw [List.length_set];exact bj.1)];simp only [al];rw [List.set_set,jC bj.1,if_pos rfl];show NS ((i:Int),0,(v,c,x,()),()) (v.2.1.set i (ns (I J v.2.1 i) (bU x) (en x)))=_;unfold NS;show Option.bind (n7 (((v.1,v.2.1.set i (ns (I J v.2.1 i) (bU x) (en x)),()),c,x,()),())) _=_;rw [B9 (v.1,v.2.1.set i (ns (I J v.2.1 i) (bU x) (en x)),()) c x hst (by omega)];rfl
 rw [e',Rp hv _ _ bj.1 _ (ao0 _ _ _) hst];exact bq.yes _ _ (fun h=>⟨qL,Rq,h0,r,i,hr,b7,hi,iz,rfl,h⟩) rfl rfl
end Go.LM.j7
