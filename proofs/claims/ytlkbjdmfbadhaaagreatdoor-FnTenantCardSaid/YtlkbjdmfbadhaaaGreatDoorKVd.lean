/- Calls on volumes: both sides come to the same. Conditions: each theorem's own hypotheses. -/
import Derived.Test.YtlkbjdmfbadhaaaGreatDoorKVc
set_option linter.unusedVariables false
set_option linter.unusedSimpArgs false
namespace Go.LM.kO
theorem ZK{n:Nat}(h:n≤68719476736):n+1<aN:=by unfold aN;omega
theorem yU{α : Type}{l:List α}{k:Nat}(h:k<l.length):l.drop k=l[k] :: l.drop (k+1):=List.drop_eq_getElem_cons h
def qp(y:aB.D)(id:aK):Bool:=bD y.1 id
theorem ZL(y:aB.D)(id:aK):E9 (y,id,())=some (qp y id,()):=rfl
def wF(id:aK):List aB.D→Nat→Int
 | [],_=> -1
 | y :: l,k=>cond (qp y id) (k:Int) (wF id l (k+1))
theorem al'(ys:List aB.D)(id:aK)(hn:ys.length≤68719476736):∀(r k m:Nat),k+r=ys.length→r<m →
  x9 m ys id (ys.length:Int) (k:Int)=some (wF id (ys.drop k) k,()):=by
 intro r
 induction r with
 | zero=>
  intro k m hk hm;obtain ⟨m,rfl⟩:∃q,m=q+1:=⟨m-1,by omega⟩
  simp only [x9,E'];rw [cA (by omega),List.drop_of_length_le (by omega)];rfl
 | succ r ih=>
  intro k m hk hm;obtain ⟨m,rfl⟩:∃q,m=q+1:=⟨m-1,by omega⟩
  have nm:k<ys.length:=by omega
  simp only [x9,E'];rw [b9 nm,bu nm];simp only [cond_true,aw];rw [ZL,tZ nm,yU nm];simp only [aw,wF];cases qp ys[k] id
  ·simp only [cond_false];rw [dv _ (by omega)];exact ih (k+1) m (by omega) (by omega)
  ·rfl
theorem ZM(id:aK):∀(l:List aB.D) (k:Nat),(wF id l k = -1∧l.filter (fun y=> !qp y id)=l)∨∃j,j<l.length∧wF id l k=((k+j:Nat):Int)∧(l.filter (fun y=> !qp y id))=l.take j++(l.drop (j+1)).filter (fun y=> !qp y id)
 | [],_=>.inl ⟨rfl,rfl⟩
 | y :: l,k=>by
  rw [List.filter_cons];unfold wF;cases h:qp y id
  ·rcases ZM id l (k+1) with⟨h1,h2⟩ | ⟨j,h1,h2,h3⟩
   ·exact .inl ⟨by simp only [cond_false];exact h1,by simp [h2]⟩
   ·exact .inr ⟨j+1,by simpa using h1,by simp only [cond_false];rw [h2];congr 1;omega,by simp [h3]⟩
  ·exact .inr ⟨0,by simp,by simp,by simp⟩
theorem ama(ys:List aB.D)(id:aK)(hn:ys.length≤68719476736):∀(r j i m:Nat) (xs:List aB.D),j+r=ys.length→i≤j→xs.length=ys.length→xs.drop j=ys.drop j→r<m →
  x' m id (i:Int) (j:Int) xs=some (xs.take i++(ys.drop j).filter (fun y=> !qp y id),()):=by
 intro r
 induction r with
 | zero=>
  intro j i m xs hj i' hl ah hm;obtain ⟨m,rfl⟩:∃q,m=q+1:=⟨m-1,by omega⟩
  simp only [x',Fc];rw [cA (by omega),jD (by omega) (Nat.le_refl _)];simp only [cond_false,aw,Vg,Nat.zero_add];generalize ((([]:aj),0,()):aB.D)=z;have hlen:(xs.take i++List.replicate (xs.length-i) z++xs.drop (i +(xs.length-i))).length=xs.length:=by simp;omega
  rw [show(0:Int)=((0:Nat):Int) from rfl,jD (Nat.zero_le _) (by rw [hlen];omega)];simp only [aw,Nat.sub_zero,Nat.zero_add];rw [List.drop_of_length_le (l:=ys) (by omega),List.filter_nil,List.append_nil];congr 2;unfold part;rw [List.drop_zero,List.append_assoc,List.take_append_of_le_length (by simp;omega),List.take_take];simp
 | succ r ih=>
  intro j i m xs hj i' hl ah hm;obtain ⟨m,rfl⟩:∃q,m=q+1:=⟨m-1,by omega⟩
  have hjl:j<xs.length:=by omega
  have zo:j<ys.length:=by omega
  have he:xs[j]=ys[j]∧xs.drop (j+1)=ys.drop (j+1):=by rw [yU hjl,yU zo] at ah;exact List.cons.inj ah
  simp only [x',Fc];rw [b9 hjl,bu hjl];simp only [cond_true,aw,Nat.zero_add];rw [ZL,tZ hjl,he.1,yU zo,List.filter_cons];simp only [aw];cases hh:qp ys[j] id
  ·simp only [Bool.not_false,cond_true,if_true];rw [bu (show i<xs.length by omega)];simp only [aw,Nat.zero_add];rw [dv _ (by omega),dv _ (by omega),ih (j+1) (i+1) m (xs.set i ys[j]) (by omega) (by omega) (by simpa using hl) (by rw [List.drop_set_of_lt (by omega)];exact he.2) (by omega)];congr 2;rw [List.take_add_one,List.take_set_of_le (Nat.le_refl _),List.getElem?_set_self (by omega)];simp
  ·simp only [Bool.not_true,cond_false,Bool.false_eq_true,if_false];rw [dv _ (by omega)];exact ih (j+1) i m xs (by omega) (by omega) hl he.2 (by omega)
theorem amb(ys:List aB.D)(id:aK)(hn:room ys.length=true):Fe (ys,id,())=some (ys.filter (fun y=> !qp y id),()):=by
 have hn:ys.length≤68719476736:=Nat.le_of_ble_eq_true hn;show Fb _ ys id=_;unfold Fb;have hi:ME (ys,id,())=some (wF id ys 0,()):=by have:=al' ys id hn ys.length 0 aN (by omega) (by have:=ZK hn;omega);rw [List.drop_zero] at this;exact this
 rw [hi];simp only [aw];rcases ZM id ys 0 with⟨h1,h2⟩ | ⟨j,h1,h2,h3⟩
 ·rw [h1,h2];rfl
 ·rw [h2,h3,Nat.zero_add,show((j:Int) == -1)=false from by rw [beq_eq_false_iff_ne];omega];simp only [cond_false];rw [dv _ (by omega)];exact ama ys id hn (ys.length-(j+1)) (j+1) j aN ys (by omega) (by omega) rfl rfl (by have:=ZK hn;omega)
theorem BN(v:af.D)(c:aL.D)(x:aG.D)(path:aK)(cc:Bool)(hw:rN v.2.1)(hc:dy c=true)(av:path.length≤1048576) :
  ∃r,tv cc v.2.1 r∧ly ((v,c,x,()),path,cc,())=some (r,())∧fg (v,c,path,cc,())=some (r,()):=by
 cases hk:tt path with
 | false=>
  refine⟨((0:Int),([]:aK),(0:Int),(22:Int),()),yP cc _ (by decide) 0 0 (.inr trivial),?_,?_⟩
  ·show q6 (v,c,x,()) path cc=_;unfold q6;rw [Iv _ (by omega),hk];rfl
  ·show vU v c path cc=_;unfold vU;rw [BJ,hk];rfl
 | true=>
  obtain ⟨r,bH,cm,gQ⟩:=ZJ v c path cc hw hc hk;refine⟨r,bH,?_,?_⟩
  ·show q6 (v,c,x,()) path cc=_;unfold q6;rw [Iv _ (by omega),hk];simp only [aw,Bool.not_true,cond_false];rw [cm];rfl
  ·show vU v c path cc=_;unfold vU;rw [BJ,hk];simp only [aw,Bool.not_true,cond_false];rw [gQ];rfl
theorem n_{s:aK} : bD s []=true↔s=[]:=by unfold bD;simp
theorem ZN(v:af.D)(c:aL.D)(x:aG.D)(path:aK)(hw:rN v.2.1)(hc:dy c=true)(av:path.length≤1048576) :
  ∃r eH code,vq ((v,c,x,()),path,())=some (r,code,())∧vR (v,c,path,())=some (eH,code,())∧(0≤code∧code≤200)∧(code=0→eH=r∧h7 v.2.1 r∧bO r=2∧nameOf r≠[]∧fg (v,c,path,false,())=some (r,())):=by
 cases hk:tt path with
 | false=>
  refine⟨((0:Int),([]:aK),(0:Int),(22:Int),()),((0:Int),([]:aK),(0:Int),(0:Int),()),22,?_,?_,by decide,fun h=>by cases h⟩
  ·show Av (v,c,x,()) path=_;unfold Av;have:ly ((v,c,x,()),path,false,())=some (((0:Int),([]:aK),(0:Int),(22:Int),()),()):=by show q6 (v,c,x,()) path false=_;unfold q6;rw [Iv _ (by omega),hk];rfl
   rw [this];rfl
  ·show A6 v c path=_;unfold A6;rw [BJ,hk];rfl
 | true=>
  obtain ⟨r,bH,cm,gQ⟩:=ZJ v c path false hw hc hk
  have fa:vq ((v,c,x,()),path,())=cond (bO r==2) (cond (!(bD (nameOf r) [])) (some (r,0,())) (cond (bO r==0) (some (r,17,())) (some (r,bO r,())))) (cond (bO r==0) (some (r,17,())) (some (r,bO r,()))):=by
   show Av (v,c,x,()) path=_;unfold Av;have:ly ((v,c,x,()),path,false,())=some (r,()):=by show q6 (v,c,x,()) path false=_;unfold q6;rw [Iv _ (by omega),hk];simp only [aw,Bool.not_true,cond_false];rw [cm];rfl
   rw [this];rfl
  have dZ:vR (v,c,path,())=cond (bO r==0) (some (r,17,())) (cond (bO r==2) (cond (!(bD (nameOf r) [])) (some (r,0,())) (some (r,bO r,()))) (some (r,bO r,()))):=by show A6 v c path=_;unfold A6;rw [BJ,hk];simp only [aw,Bool.not_true,cond_false];rw [gQ];rfl
  rw [fa,dZ];by_cases h0:bO r=0
  ·rw [cr h0,bX (show bO r≠2 by omega)];exact⟨r,r,17,rfl,rfl,by decide,fun h=>by cases h⟩
  ·rw [bX h0];by_cases h2:bO r=2
   ·rw [cr h2]
    cases hn:bD (nameOf r) [] with
    | true=>exact⟨r,r,bO r,rfl,rfl,bH.1.rg,fun h=>absurd h h0⟩
    | false=>exact⟨r,r,0,rfl,rfl,by decide,fun _=>⟨rfl,bH.1,h2,fun h=>(by rw [n_.2 h] at hn;cases hn),by
     show vU v c path false=_;unfold vU;rw [BJ,hk];simp only [aw,Bool.not_true,cond_false]
     rw [gQ];rfl⟩⟩
   ·rw [bX h2];exact⟨r,r,bO r,rfl,rfl,bH.1.rg,fun h=>absurd h h0⟩
def b_(x:aS)(N:List aB.D):aS:=(x.1,x.2.1,x.2.2.1,x.2.2.2.1,x.2.2.2.2.1,x.2.2.2.2.2.1,N,x.2.2.2.2.2.2.2.1,x.2.2.2.2.2.2.2.2.1,())
def ee(s:aK)(d:aB.D):Bool:=dG d.1 s
def ins(N:List aB.D)(s:aK)(id:Int):List aB.D:=N.takeWhile (ee s)++[(s,id,())]++N.dropWhile (ee s)
theorem IH{α : Type}(p : α → Bool)(l:List α):l.take (l.takeWhile p).length=l.takeWhile p:=by have:=List.take_left' (l₁:=l.takeWhile p) (l₂:=l.dropWhile p) rfl;rwa [List.takeWhile_append_dropWhile] at this
theorem II{α : Type}(p : α → Bool)(l:List α):l.drop (l.takeWhile p).length=l.dropWhile p:=by have:=List.drop_left' (l₁:=l.takeWhile p) (l₂:=l.dropWhile p) rfl;rwa [List.takeWhile_append_dropWhile] at this
theorem Qd{α : Type}{p : α → Bool}{x : α} : ∀ {l:List α},x∈l.takeWhile p→p x=true
 | [],h=>by simp at h
 | y :: l,h=>by
  rw [List.takeWhile_cons] at h;cases aT:p y
  ·rw [aT] at h;simp at h
  ·rw [aT] at h;simp only [if_true,List.mem_cons] at h;rcases h with rfl | h
   ·exact aT
   ·exact Qd h
theorem ZO{α : Type}{p : α → Bool}{x : α}{r:List α} : ∀ {l:List α},l.dropWhile p=x :: r→p x=false
 | [],h=>by simp at h
 | y :: l,h=>by
  rw [List.dropWhile_cons] at h;cases aT:p y
  ·rw [aT] at h;simp only [Bool.false_eq_true,if_false] at h;injection h with h1 h2
   rw [← h1];exact aT
  ·rw [aT] at h;simp only [if_true] at h;exact ZO h
theorem Qe{α : Type}(p : α → Bool)(l:List α):(l.takeWhile p).length≤l.length:=by have:=congrArg List.length (List.takeWhile_append_dropWhile (p:=p) (l:=l));rw [List.length_append] at this;omega
theorem yV(N:List aB.D)(s:aK)(id:Int):(ins N s id).length=N.length+1:=by have:=congrArg List.length (List.takeWhile_append_dropWhile (p:=ee s) (l:=N));rw [List.length_append] at this;unfold ins;simp only [List.length_append,List.length_cons,List.length_nil];omega
theorem ZP{N:List aB.D}{s:aK} : ∀ {j:Nat},j<(N.takeWhile (ee s)).length→dG (I aB N j).1 s=true:=by
 intro j hj;have IJ:j<N.length:=Nat.lt_of_lt_of_le hj (Qe _ _);have h1:(N.takeWhile (ee s))[j]∈N.takeWhile (ee s):=List.getElem_mem hj;have h2:=Qd h1
 have e:(N.takeWhile (ee s))[j]=I aB N j:=by
  rw [c0 IJ];have:=List.takeWhile_append_dropWhile (p:=ee s) (l:=N);have h3:(N.takeWhile (ee s)++N.dropWhile (ee s))[j]?=N[j]?:=by rw [this]
  rw [List.getElem?_append_left hj,List.getElem?_eq_getElem hj,List.getElem?_eq_getElem IJ] at h3;exact aZ h3
 rw [e] at h2;exact h2
theorem ZQ{N:List aB.D}{s:aK}(h:(N.takeWhile (ee s)).length<N.length):dG (I aB N (N.takeWhile (ee s)).length).1 s=false:=by have h1:=II (ee s) N;have h2:=yU h;rw [h1] at h2;rw [c0 h];exact ZO (p:=ee s) h2
theorem Qf(v:af.D)(c:aL.D)(x:aG.D)(dir:Int)(s:aK)(id:Int)(hl:v.2.1.length≤1048576){i:Nat}(h:bz v.2.1 dir=some i)(hn:(an (I J v.2.1 i)).length≤1048576) :
  sR ((v,c,x,()),dir,s,id,())=some (((v.1,v.2.1.set i (b_ (I J v.2.1 i) (ins (an (I J v.2.1 i)) s id)),()),c,x,()),()):=by
 show E7 (sQ aN) (v,c,x,()) dir s id=_;unfold E7;rw [P6 v dir hl,h];simp only [aw,hP];obtain ⟨hi,cf⟩:=b5 h;generalize hN:an (I J v.2.1 i)=N at hn;have cB:=Qe (ee s) N;have me:∀m,(sQ (m+1)).bg s id (i:Int) ((N.takeWhile (ee s)).length:Int) (v,c,x,())=some (((v.1,v.2.1.set i (b_ (I J v.2.1 i) (ins N s id)),()),c,x,()),()):=by intro m;show Mz (sQ m) s id (i:Int) ((N.takeWhile (ee s)).length:Int) (v,c,x,())=_;unfold Mz;rw [bu hi];simp only [aw,Nat.beq_refl,cond_true];show Option.bind (insF (an (I J v.2.1 i)) ((N.takeWhile (ee s)).length:Int) [(s,id,())]) _=_;rw [hN];unfold insF;rw [if_pos ⟨Int.natCast_nonneg _,Int.ofNat_le.2 cB,rfl,by omega⟩];simp only [aw,Int.toNat_natCast];rw [IH,II];rfl
 have qq:=pd 1 (fun m j=>(sQ m).k2 s id (i:Int) (j:Int) (v,c,x,())) (some (((v.1,v.2.1.set i (b_ (I J v.2.1 i) (ins N s id)),()),c,x,()),())) (N.takeWhile (ee s)).length 2 (fun j hj B y he=>he.step fun m=>by
  show Aw (sQ m) s id (i:Int) (j:Int) (v,c,x,())=_;unfold Aw;rw [bu hi];simp only [aw];show cond (decide ((j:Int)<((an (I J v.2.1 i)).length:Int))) ((aM (an (I J v.2.1 i)).length (j:Int)).bind fun v3=>cond (dG (I aB (an (I J v.2.1 i)) v3).1 s) _ _) _=_;rw [hN,b9 (by omega),bu (by omega)];simp only [cond_true,aw]
  rw [ZP hj,dv j (by omega)];rfl) (b8.now 2 fun m=>by
  show Aw (sQ (m+1)) s id (i:Int) ((N.takeWhile (ee s)).length:Int) (v,c,x,())=_;unfold Aw;rw [bu hi];simp only [aw];show cond (decide (((N.takeWhile (ee s)).length:Int)<((an (I J v.2.1 i)).length:Int))) ((aM (an (I J v.2.1 i)).length ((N.takeWhile (ee s)).length:Int)).bind fun v3=>cond (dG (I aB (an (I J v.2.1 i)) v3).1 s) _ _) _=_;rw [hN];rcases Nat.lt_or_ge (N.takeWhile (ee s)).length N.length with h1 | h1
  ·rw [b9 h1,bu h1];simp only [cond_true,aw];rw [ZQ h1];exact me m
  ·rw [cA h1]
   exact me m)
 exact lH qq (by omega)
def cl(N:List aB.D)(s:aK):List aB.D:=N.filter fun d=> !bD d.1 s
def goN(l:List aS)(id:Int):List aS:=cond (decide (cD l id=0)) (l.filter fun y=> !(y.1==id)) l
theorem IK{l:List aS}{i:Nat}{y:aS}(hi:i<l.length):dE (l.set i y) +(an (I J l i)).length=dE l +(an y).length:=by
 unfold dE
 induction l generalizing i with
 | nil=>simp at hi
 | cons z l ih=>
  cases i with
  | zero=>simp only [List.set_cons_zero,List.map_cons,List.sum_cons];show _ +(an z).length=_;omega
  | succ i=>have:=ih (i:=i) (by simpa using hi);simp only [List.set_cons_succ,List.map_cons,List.sum_cons];show _ +(an (I J l i)).length=_;omega
theorem ky(x:aS)(N:List aB.D):an (b_ x N)=N:=rfl
theorem wG(N:List aB.D)(s:aK):(cl N s).length≤N.length:=List.length_filter_le _ _
theorem Qg(v:af.D)(c:aL.D)(x:aG.D)(dir:Int)(s:aK)(goes:Bool)(hl:v.2.1.length≤1048576)(hm:dE v.2.1≤1048576){i:Nat}(h:bz v.2.1 dir=some i) :
  oU ((v,c,x,()),dir,s,goes,())=some (((v.1,cond goes (goN (v.2.1.set i (b_ (I J v.2.1 i) (cl (an (I J v.2.1 i)) s))) (dR (an (I J v.2.1 i)) s)) (v.2.1.set i (b_ (I J v.2.1 i) (cl (an (I J v.2.1 i)) s))),()),c,x,()),()):=by
 show MG (v,c,x,()) dir s goes=_;unfold MG;rw [P6 v dir hl,h];simp only [aw,hP];obtain ⟨hi,cf⟩:=b5 h;have hn:=Nat.le_trans (gk hi) hm;rw [bu hi];simp only [aw,Nat.beq_refl,cond_true];rw [Zk _ _ hn];simp only [aw];show Option.bind (Fe (an (I J v.2.1 i),s,())) _=_;rw [amb _ _ (b7 (by omega))];simp only [aw];show MF goes ((i:Int),v,()) (dR (an (I J v.2.1 i)) s,()) (v,c,x,()) (v.2.1.set i (b_ (I J v.2.1 i) (cl (an (I J v.2.1 i)) s)))=_;have m6:(v.2.1.set i (b_ (I J v.2.1 i) (cl (an (I J v.2.1 i)) s))).length≤1048576:=by rw [List.length_set];exact hl
 have jU:dE (v.2.1.set i (b_ (I J v.2.1 i) (cl (an (I J v.2.1 i)) s)))≤1048576:=by have:=IK (l:=v.2.1) (y:=b_ (I J v.2.1 i) (cl (an (I J v.2.1 i)) s)) hi;rw [ky] at this;have:=wG (an (I J v.2.1 i)) s;omega
 generalize v.2.1.set i (b_ (I J v.2.1 i) (cl (an (I J v.2.1 i)) s))=l at m6 jU;generalize dR (an (I J v.2.1 i)) s=id;unfold MF;cases goes
 ·rfl
 ·simp only [cond_true];show Option.bind (x4 (((v.1,l,()):af.D),id,())) _=_;rw [Ie (v.1,l,()) id m6 jU];simp only [aw];unfold goN;by_cases h0:cD l id=0
  ·rw [show(((cD l id:Nat):Int)==0)=true by rw [h0];rfl,decide_eq_true h0];simp only [cond_true];show Option.bind (cond (room l.length) _ none) _=_;rw [b7 (by omega)];rfl
  ·rw [show(((cD l id:Nat):Int)==0)=false by rw [beq_eq_false_iff_ne];omega,decide_eq_false h0];rfl
theorem IL(v:af.D)(n:aS)(hl:v.2.1.length≤1048576){i:Nat}(h:bz v.2.1 n.1=some i):oZ (v,n,())=some ((v.1,v.2.1.set i n,()),()):=by show A7 v n=_;unfold A7;rw [n2 v _ hl,h];simp only [aw];rw [show decide (hP (some i)<0)=false from BB];simp only [cond_false,hP];rw [bu (b5 h).1];simp only [aw,Nat.zero_add]
theorem amc(v:af.D)(n:aS)(hl:v.2.1.length≤1048576)(h:bz v.2.1 n.1=none):oZ (v,n,())=some ((v.1,v.2.1++[n],()),()):=by show A7 v n=_;unfold A7;rw [n2 v _ hl,h];simp only [aw,BB,Option.isNone_none,cond_true];rw [b7 (by simp;omega)];rfl
theorem Qh(v:af.D)(dir:Int)(s:aK)(id:Int)(hl:v.2.1.length≤1048576){i:Nat}(h:bz v.2.1 dir=some i)(hn:(an (I J v.2.1 i)).length≤1048576)(hs:∀d,d∈an (I J v.2.1 i)→d.1≠s) :
  s5 (v,dir,s,id,())=some ((v.1,v.2.1.set i (b_ (I J v.2.1 i) (ins (an (I J v.2.1 i)) s id)),()),()):=by
 show GY (iQ aN) v dir s id=_;unfold GY;rw [jR v dir hl h];simp only [aw];obtain ⟨hi,cf⟩:=b5 h;generalize hN:an (I J v.2.1 i)=N at hn hs;have cB:=Qe (ee s) N;have hw:bz v.2.1 (b_ (I J v.2.1 i) (ins N s id)).1=some i:=by rw [show(b_ (I J v.2.1 i) (ins N s id)).1=dir from cf];exact h
 have ZR:∀m,(iQ (m+1)).m0 v (0,([]:List J.D),()) (I J v.2.1 i) (ins N s id)=some ((v.1,v.2.1.set i (b_ (I J v.2.1 i) (ins N s id)),()),()):=by intro m;show NH (iQ m) v (0,([]:List J.D),()) (I J v.2.1 i) (ins N s id)=_;unfold NH;show Option.bind (oZ (v,b_ (I J v.2.1 i) (ins N s id),())) _=_;rw [IL v _ hl hw];rfl
 have amd:∀(r j:Nat) (acc:List aB.D),j+r=N.length→acc++N.drop j=ins N s id→acc.length≤j+1→b8 (fun m=>(iQ m).bx s id true (j:Int) v (0,([]:List J.D),()) (I J v.2.1 i) acc) (2*r+2) (some ((v.1,v.2.1.set i (b_ (I J v.2.1 i) (ins N s id)),()),())):=by
  intro r
  induction r with
  | zero=>
   intro j acc hj he ha;refine b8.now 2 fun m=>?_
   show o0 (iQ (m+1)) s id true (j:Int) v (0,([]:List J.D),()) (I J v.2.1 i) acc=_;unfold o0;show cond (decide ((j:Int)<((an (I J v.2.1 i)).length:Int))) _ _=_;rw [hN,cA (by omega)];rw [List.drop_of_length_le (by omega),List.append_nil] at he;rw [he];exact ZR m
  | succ r ih=>
   intro j acc hj he ha;have hjl:j<N.length:=by omega
   have:=ih (j+1) (acc++[I aB N j]) (by omega) (by rw [List.append_assoc,List.singleton_append,← drop_cons (t:=aB) hjl];exact he) (by simp;omega);refine(this.jump (f:=fun m=>(iQ m).bx s id true (j:Int) v (0,([]:List J.D),()) (I J v.2.1 i) acc) 2 fun m=>?_).mono (by omega);show o0 (iQ (m+1)) s id true (j:Int) v (0,([]:List J.D),()) (I J v.2.1 i) acc=_;unfold o0;show cond (decide ((j:Int)<((an (I J v.2.1 i)).length:Int))) _ _=_;rw [hN,b9 hjl];simp only [cond_true,Bool.not_true,cond_false];show vS (iQ m) s id true (j:Int) v (0,([]:List J.D),()) (I J v.2.1 i) acc=_;unfold vS;show Option.bind (aM (an (I J v.2.1 i)).length (j:Int)) (fun v1=>cond (room (acc.length+1)) ((iQ m).bx s id true (aH ((j:Int)+1)) v (0,([]:List J.D),()) (I J v.2.1 i) (acc++[I aB (an (I J v.2.1 i)) v1])) none)=_;rw [hN,bu hjl];simp only [aw];rw [b7 (by omega),dv j (by omega)];rfl
 have qq:=pd 2 (fun m j=>(iQ m).bx s id false (j:Int) v (0,([]:List J.D),()) (I J v.2.1 i) (N.take j)) (some ((v.1,v.2.1.set i (b_ (I J v.2.1 i) (ins N s id)),()),())) (N.takeWhile (ee s)).length (2*N.length+8) (fun j hj B y he=>(he.jump (f:=fun m=>(iQ m).bx s id false (j:Int) v (0,([]:List J.D),()) (I J v.2.1 i) (N.take j)) 2 fun m=>by
  have hjl:j<N.length:=by omega
  show o0 (iQ (m+1)) s id false (j:Int) v (0,([]:List J.D),()) (I J v.2.1 i) (N.take j)=_;unfold o0;show cond (decide ((j:Int)<((an (I J v.2.1 i)).length:Int))) (cond (!false) ((aM (an (I J v.2.1 i)).length (j:Int)).bind fun v1=>cond (dG s (I aB (an (I J v.2.1 i)) v1).1) _ _) _) _=_;rw [hN,b9 hjl,bu hjl];simp only [cond_true,Bool.not_false,aw];rw [Zy (ZP hj)];simp only [cond_false];show vS (iQ m) s id false (j:Int) v (0,([]:List J.D),()) (I J v.2.1 i) (N.take j)=_;unfold vS;show Option.bind (aM (an (I J v.2.1 i)).length (j:Int)) (fun v1=>cond (room ((N.take j).length+1)) ((iQ m).bx s id false (aH ((j:Int)+1)) v (0,([]:List J.D),()) (I J v.2.1 i) (N.take j++[I aB (an (I J v.2.1 i)) v1])) none)=_;rw [hN,bu hjl];simp only [aw]
  rw [b7 (by rw [List.length_take];omega),dv j (by omega),c0 hjl,← List.take_succ_eq_append_getElem hjl];rfl)) (by
  rcases Nat.lt_or_ge (N.takeWhile (ee s)).length N.length with h1 | h1
  ·
   generalize hj:(N.takeWhile (ee s)).length=j at h1 cB;have rR:N.take j++[(s,id,())]++N.drop j=ins N s id:=by rw [← hj,IH,II];rfl
   have b2:dG s (I aB N j).1=true:=by have:=ZQ (N:=N) (s:=s) (by omega);rw [hj] at this;rw [P' (hs _ (cR h1)),this];rfl
   have:=amd (N.length-(j+1)) (j+1) (N.take j++[(s,id,())]++[I aB N j]) (by omega) (by rw [List.append_assoc _ [I aB N j],List.singleton_append,← drop_cons (t:=aB) h1];exact rR) (by simp;omega);refine(this.jump (f:=fun m=>(iQ m).bx s id false (j:Int) v (0,([]:List J.D),()) (I J v.2.1 i) (N.take j)) 2 fun m=>?_).mono (by omega);show o0 (iQ (m+1)) s id false (j:Int) v (0,([]:List J.D),()) (I J v.2.1 i) (N.take j)=_;unfold o0;show cond (decide ((j:Int)<((an (I J v.2.1 i)).length:Int))) (cond (!false) ((aM (an (I J v.2.1 i)).length (j:Int)).bind fun v1=>cond (dG s (I aB (an (I J v.2.1 i)) v1).1) _ _) _) _=_;rw [hN,b9 h1,bu h1];simp only [cond_true,Bool.not_false,aw];rw [b2];simp only [cond_true];rw [b7 (by simp;omega)];simp only [cond_true];show vS (iQ m) s id true (j:Int) v (0,([]:List J.D),()) (I J v.2.1 i) (N.take j++[(s,id,())])=_;unfold vS;show Option.bind (aM (an (I J v.2.1 i)).length (j:Int)) (fun v1=>cond (room ((N.take j++[(s,id,())]).length+1)) ((iQ m).bx s id true (aH ((j:Int)+1)) v (0,([]:List J.D),()) (I J v.2.1 i) ((N.take j++[(s,id,())])++[I aB (an (I J v.2.1 i)) v1])) none)=_;rw [hN,bu h1];simp only [aw];rw [b7 (by simp;omega),dv j (by omega)];rfl
  ·
   have hj:(N.takeWhile (ee s)).length=N.length:=by omega
   have rR:N++[(s,id,())]=ins N s id:=by unfold ins;rw [← II,← IH,hj,List.take_length,List.drop_length,List.append_nil]
   rw [hj,List.take_length];refine(b8.now 2 fun m=>?_).mono (by omega);show o0 (iQ (m+1)) s id false (N.length:Int) v (0,([]:List J.D),()) (I J v.2.1 i) N=_;unfold o0;show cond (decide ((N.length:Int)<((an (I J v.2.1 i)).length:Int))) _ _=_;rw [hN,cA (Nat.le_refl _)];simp only [cond_false,Bool.not_false,cond_true];rw [b7 (by simp;omega),rR]
   exact ZR m)
 exact lH qq (by omega)
theorem jz{l:List aS}{i j:Nat}{y:aS}(hi:i<l.length):I J (l.set i y) j=if i=j then y else I J l j:=by
 by_cases hj:j<l.length
 ·rw [c0 (by rw [List.length_set];exact hj),c0 hj,List.getElem_set]
 ·rw [if_neg (by omega)];unfold I;rw [List.getD_eq_getElem?_getD,List.getD_eq_getElem?_getD,List.getElem?_eq_none (by rw [List.length_set];omega),List.getElem?_eq_none (by omega)]
theorem ZS{n:Nat}{P Q:Nat→Bool}(h:∀i,i<n→P i=Q i):fA n P=fA n Q:=by
 cases hq:fA n Q with
 | none=>exact mi.2 fun i hi=>by rw [h i hi];exact mi.1 hq i hi
 | some k=>obtain ⟨h1,h2,h3⟩:=iv.1 hq;exact iv.2 ⟨h1,by rw [h k h1];exact h2,fun j hj=>by rw [h j (by omega)];exact h3 j hj⟩
theorem IM{l:List aS}{i:Nat}{y:aS}(hi:i<l.length)(aT:y.1=(I J l i).1)(id:Int):bz (l.set i y) id=bz l id:=by
 unfold bz;rw [List.length_set];refine ZS fun j hj=>?_
 rw [jz hi];split
 ·rename_i h;rw [aT,h]
 ·rfl
def BO(l:List aS):Prop:=l.Pairwise fun a b=>bj a≠bj b
theorem BP{l:List aS} : ix l↔BO l:=by
 unfold BO;rw [List.pairwise_iff_getElem];constructor
 ·intro h i j hi hj i' he;have h1:=h i hi;have h2:=h j hj;rw [c0 hi] at h1;rw [c0 hj] at h2;have:(l[i]).1=(l[j]).1:=he;rw [this,h2] at h1;have:=aZ h1;omega
 ·intro h x hx;unfold bz;rw [iv];refine⟨hx,by simp,fun j hj=>?_⟩;rw [beq_eq_false_iff_ne,c0 hx,c0 (i:=j) (by omega)];exact h j x (by omega) hx hj
theorem n'{l:List aS}{id:Int} :(bz l id).isSome=true↔∃x,x∈l∧x.1=id:=by
 constructor
 ·intro h;obtain ⟨i,hi⟩:=Option.isSome_iff_exists.1 h;obtain ⟨h1,h2⟩:=b5 hi;exact⟨_,cR h1,h2⟩
 ·rintro ⟨x,hx,he⟩
  obtain ⟨i,hi,aI⟩:=fb hx
  cases h:bz l id with
  | some k=>rfl
  | none=>have:=mi.1 h i hi;rw [aI,he] at this;simp at this
theorem ame{l:List aS}{n:aS}{id:Int}{i:Nat}(h:bz l id=some i):bz (l++[n]) id=some i:=by
 obtain ⟨h1,h2,h3⟩:=iv.1 h;have aI:∀j,j<l.length→I J (l++[n]) j=I J l j:=fun j hj=>by rw [c0 (by simp;omega),c0 hj,List.getElem_append_left hj]
 exact iv.2 ⟨by simp;omega,by rw [aI i h1];exact h2,fun j hj=>by rw [aI j (by omega)];exact h3 j hj⟩
theorem Qi{l:List aS}{n:aS}{j:Nat}(hj:j<l.length):I J (l++[n]) j=I J l j:=by rw [c0 (by simp;omega),c0 hj,List.getElem_append_left hj]
theorem ZT{l:List aS}{n y:aS}{i:Nat}(hi:i<l.length):(l++[n]).set i y=l.set i y++[n]:=by rw [List.set_append_left _ _ hi]
theorem Qj{l:List aS}{id:Int}(h:cD l id=0):∀x,x∈l→∀d,d∈an x→d.2.1≠id:=by
 intro x hx d ah he;have h1:dD (an x) id≤cD l id:=by unfold cD;exact Ip (f:=fun x=>dD (an x) id) hx
 have h2:d∈(an x).filter fun d=>d.2.1==id:=List.mem_filter.2 ⟨ah,by simpa using he⟩
 have h3:0<dD (an x) id:=List.length_pos_of_mem h2;omega
theorem ZU{l:List aS}{i:Nat}{y:aS}(hi:i<l.length):bytesOf (l.set i y) +(bT (I J l i)).length=bytesOf l +(bT y).length:=by
 unfold bytesOf
 induction l generalizing i with
 | nil=>simp at hi
 | cons z l ih=>
  cases i with
  | zero=>simp only [List.set_cons_zero,List.map_cons,List.sum_cons];show _ +(bT z).length=_;omega
  | succ i=>have:=ih (i:=i) (by simpa using hi);simp only [List.set_cons_succ,List.map_cons,List.sum_cons];show _ +(bT (I J l i)).length=_;omega
theorem IN{α : Type}(f : α → Nat)(p : α → Bool):∀l:List α,((l.filter p).map f).sum≤(l.map f).sum
 | []=>Nat.le_refl _
 | x :: l=>by
  have:=IN f p l;rw [List.filter_cons];split
  ·simp only [List.map_cons,List.sum_cons];omega
  ·simp only [List.map_cons,List.sum_cons];omega
structure aq(B:Nat)(l:List aS):Prop where
 len:l.length≤B
 c6:dE l≤B
 bytes:bytesOf l≤B
 iU:ix l
 iV:rI l
 bare:∀i,i<l.length→kindOf (I J l i)≠2→fh (I J l i)=0∧eZ (I J l i)=0∧an (I J l i)=[]
theorem aq.mono{B kl:Nat}{l:List aS}(h:aq B l)(hb:B≤kl):aq kl l:=⟨Nat.le_trans h.len hb,Nat.le_trans h.c6 hb,Nat.le_trans h.bytes hb,h.iU,h.iV,h.bare⟩
theorem bW.c6{v:af.D}(h:bW v):dE v.2.1≤288:=by
 have key:∀l:List aS,(∀x,x∈l→(an x).length≤12)→dE l≤l.length*12:=by
  intro l
  induction l with
  | nil=>intro _;exact Nat.le_refl _
  | cons x l ih=>
   intro hx;have h1:=hx x List.mem_cons_self;have h2:=ih fun y aT=>hx y (List.mem_cons_of_mem _ aT)
   show(an x).length+dE l≤(l.length+1)*12;omega
 have:=key v.2.1 fun x hx=>by
  obtain ⟨i,hi,he⟩:=fb hx;have h1:=h.ino i hi;rw [he] at h1;by_cases hk:kindOf x=2
  ·exact(h1.dir hk).2.2.2
  ·rw [(h1.plain hk).2.2];simp
 have:=h.len;omega
theorem bW.st{v:af.D}(h:bW v):aq 400 v.2.1:=
 ⟨by have:=h.len;omega,by have:=h.c6;omega,h.bytes,h.iU,h.iV,fun i hi hk=>(h.ino i hi).plain hk⟩
theorem IP{l:List aS} : rI l↔∀x,x∈l→∀d,d∈an x→∃y,y∈l∧y.1=d.2.1:=by
 constructor
 ·intro h x hx d ah;obtain ⟨i,hi,he⟩:=fb hx;exact n'.1 (h i hi d (by rw [he];exact ah))
 ·intro h i hi d ah;exact n'.2 (h _ (cR hi) d ah)
theorem aq.set{B k:Nat}{l:List aS}{i:Nat}{y:aS}(h:aq B l)(hi:i<l.length)(aT:y.1=(I J l i).1)(hex:∀d,d∈an y→(bz l d.2.1).isSome=true)
  (hb:kindOf y≠2→fh y=0∧eZ y=0∧an y=[]) (hn:(an y).length≤(an (I J l i)).length+k) (ah:(bT y).length≤(bT (I J l i)).length+k):aq (B+k) (l.set i y):=by
 have h1:=IK (l:=l) (y:=y) hi;have h2:=ZU (l:=l) (y:=y) hi;have h3:=h.c6;have h4:=h.bytes;have a':=h.len;refine⟨by rw [List.length_set];omega,by omega,by omega,fun x hx=>?_,fun j hj d ah=>?_,fun j hj hk=>?_⟩
 ·rw [List.length_set] at hx;rw [IM hi aT,jz hi];split
  ·rename_i he;subst he;rw [aT];exact h.iU i hx
  ·exact h.iU x hx
 ·rw [List.length_set] at hj;rw [jz hi] at ah;rw [IM hi aT];split at ah
  ·exact hex d ah
  ·exact h.iV j hj d ah
 ·rw [List.length_set] at hj;rw [jz hi] at hk ⊢;split at hk
  ·rename_i he;rw [if_pos he];exact hb hk
  ·rename_i he;rw [if_neg he];exact h.bare j hj hk
theorem amf{l:List aS}(p:aS→Bool)(h:BO l):BO (l.filter p):=List.Pairwise.sublist (List.filter_sublist) h
theorem aq.go{B:Nat}{l:List aS}(h:aq B l)(id:Int):aq B (goN l id):=by
 unfold goN;by_cases h0:cD l id=0
 ·rw [decide_eq_true h0];simp only [cond_true];refine⟨Nat.le_trans (List.length_filter_le _ _) h.len,Nat.le_trans (IN _ _ _) h.c6,Nat.le_trans (IN _ _ _) h.bytes,BP.2 (amf _ (BP.1 h.iU)),IP.2 fun x hx d ah=>?_,fun i hi hk=>?_⟩
  ·have hx:=(List.mem_filter.1 hx).1;obtain ⟨y,aT,he⟩:=IP.1 h.iV x hx d ah;refine⟨y,List.mem_filter.2 ⟨aT,?_⟩,he⟩;have:=Qj h0 x hx d ah;rw [Bool.not_eq_true',beq_eq_false_iff_ne,he];exact this
  ·have hx:=(List.mem_filter.1 (cR (t:=J) hi)).1;obtain ⟨j,hj,he⟩:=fb hx;rw [← he] at hk ⊢;exact h.bare j hj hk
 ·rw [decide_eq_false h0];exact h
theorem aq.app{B k:Nat}{l:List aS}{n:aS}(h:aq B l)(cf:bz l n.1=none)(hn:an n=[])(ah:(bT n).length≤k)(hk:1≤k)(hb:kindOf n≠2→fh n=0∧eZ n=0):aq (B+k) (l++[n]):=by
 have h3:=h.c6;have h4:=h.bytes;have a':=h.len;refine⟨by simp;omega,by unfold dE at *;simp [hn];omega,by unfold bytesOf at *;simp;omega,BP.2 ?_,IP.2 fun x hx d jK=>?_,fun i hi hk=>?_⟩
 ·refine List.pairwise_append.2 ⟨BP.1 h.iU,List.pairwise_singleton _ _,fun a ha b dP he=>?_⟩;simp only [List.mem_singleton] at dP;subst dP;have:(bz l b.1).isSome=true:=n'.2 ⟨a,ha,he⟩;rw [cf] at this;cases this
 ·rcases List.mem_append.1 hx with hx | hx
  ·obtain ⟨y,aT,he⟩:=IP.1 h.iV x hx d jK;exact⟨y,List.mem_append_left _ aT,he⟩
  ·simp only [List.mem_singleton] at hx;subst hx;rw [hn] at jK;simp at jK
 ·rcases Nat.lt_or_ge i l.length with hl | hl
  ·rw [Qi hl] at hk ⊢;exact h.bare i hl hk
  ·have:i=l.length:=by simp at hi;omega
   subst this;have he:I J (l++[n]) l.length=n:=by rw [c0 (by simp)];simp
   rw [he] at hk ⊢;exact⟨(hb hk).1,(hb hk).2,hn⟩
def fc(l:List aS):Int:=cond (decide ((bytesOf l:Int)>400)) 28 (cond (gl l) 122 0)
theorem ZV(l:List aS):0≤fc l∧fc l≤200:=by unfold fc;cases decide ((bytesOf l:Int)>400) <;> cases gl l <;> decide
theorem BQ{B:Nat}(v:af.D)(c:aL.D)(x:aG.D)(h:aq B v.2.1)(hC:B≤1048576):nU ((v,c,x,()),())=some (fc v.2.1,()):=by have h1:=Nat.le_trans h.len hC;have h2:=Nat.le_trans h.c6 hC;have h3:=Nat.le_trans h.bytes hC;show MA (v,c,x,())=_;unfold MA fc;show Option.bind (sK (v,())) _=_;rw [PN v h1 h3];simp only [aw];show cond _ _ (Option.bind (Aq (v.2.1,v,())) _)=_;rw [Y8 v h1 h2 h3 h.iU h.iV];simp only [aw];cases decide ((bytesOf v.2.1:Int)>400) <;> cases gl v.2.1 <;> rfl
theorem amg{B:Nat}(v:af.D)(h:aq B v.2.1)(hC:B≤1048576):NF (v,())=some (fc v.2.1,()):=by have h1:=Nat.le_trans h.len hC;have h2:=Nat.le_trans h.c6 hC;have h3:=Nat.le_trans h.bytes hC;show ND v=_;unfold ND fc;rw [PM v h1 h3];simp only [aw];rw [Y9 v h1 h2 h3 (fun i hi hk=>⟨(h.bare i hi hk).1,(h.bare i hi hk).2.1⟩)];simp only [aw];cases decide ((bytesOf v.2.1:Int)>400) <;> cases gl v.2.1 <;> rfl
theorem BR{B:Nat}(u v:af.D)(h:aq B v.2.1)(hC:B≤1048576):rk (u,v,())=some (cond (fc v.2.1==0) v u,(fc v.2.1,[],()),()):=by
 show NG u v=_;unfold NG;rw [amg v h hC];simp only [aw];by_cases h0:fc v.2.1=0
 ·rw [ed h0,cr h0,h0];rfl
 ·rw [dj h0,bX h0];rfl
def BS:List aB.D→aK→Int
 | [],_=>0
 | d :: r,s=>cond (bD d.1 s) d.2.1 (BS r s)
theorem amh{n:Nat}{P:Nat→Bool} : fA (n+1) P=cond (P 0) (some 0) ((fA n fun i=>P (i+1)).map (· + 1)):=by
 cases h0:P 0
 ·simp only [cond_false]
  cases h:fA n fun i=>P (i+1) with
  | none=>
   refine mi.2 fun i hi=>?_
   cases i with
   | zero=>exact h0
   | succ i=>exact mi.1 h i (by omega)
  | some k=>
   obtain ⟨h1,h2,h3⟩:=iv.1 h;refine iv.2 ⟨show k+1<n+1 by omega,h2,fun j hj=>?_⟩;have hj:j<k+1:=hj
   cases j with
   | zero=>exact h0
   | succ j=>exact h3 j (by omega)
 ·exact iv.2 ⟨by omega,h0,fun j hj=>by omega⟩
theorem look_eq(s:aK):∀N:List aB.D,dR N s=BS N s
 | []=>rfl
 | d :: r=>by
  unfold dR BS;rw [List.length_cons,amh];show BK (d :: r) (cond (bD d.1 s) _ _)=_;cases ah:bD d.1 s
  ·simp only [cond_false];rw [← look_eq s r];unfold dR;show BK (d :: r) ((fA r.length (rL r s)).map (· + 1))=_;cases fA r.length (rL r s) <;> rfl
  ·rfl
def wH(N:List aB.D)(s:aK)(id:Int):Int:=N.foldl (fun a d=>cond (bD d.1 s) d.2.1 a) id
theorem ZW{s:aK}{id:Int} : ∀ {N:List aB.D},(∀d,d∈N→d.1≠s)→wH N s id=id
 | [],_=>rfl
 | d :: r,h=>by
  have h1:bD d.1 s=false:=by unfold bD;simpa using h d List.mem_cons_self
  unfold wH;rw [List.foldl_cons,h1];exact ZW fun e he=>h e (List.mem_cons_of_mem _ he)
theorem ZX{s:aK} : ∀ {N:List aB.D},jy N→wH N s 0=dR N s
 | [],_=>rfl
 | d :: r,h=>by
  obtain ⟨h1,h2⟩:=List.pairwise_cons.1 h;rw [look_eq,BS,← look_eq];unfold wH;rw [List.foldl_cons];cases ah:bD d.1 s
  ·exact ZX h2
  ·have ah:d.1=s:=by unfold bD at ah;simpa using ah
   refine ZW fun e he=>?_
   have:=h1 e he;rw [ah] at this;exact(Iz this).symm
theorem Qk(v:af.D)(dir:Int)(s:aK)(hl:v.2.1.length≤1048576)(hm:dE v.2.1≤1048576){i:Nat}(h:bz v.2.1 dir=some i)(hs:jy (an (I J v.2.1 i))) :
  o2 (v,dir,s,())=some ((v.1,goN (v.2.1.set i (b_ (I J v.2.1 i) (cl (an (I J v.2.1 i)) s))) (dR (an (I J v.2.1 i)) s),()),()):=by
 show G0 (lA aN) v dir s=_;unfold G0;rw [jR v dir hl h];simp only [aw];obtain ⟨hi,cf⟩:=b5 h;have hn:=Nat.le_trans (gk hi) hm;have jU:dE (v.2.1.set i (b_ (I J v.2.1 i) (cl (an (I J v.2.1 i)) s)))≤1048576:=by have:=IK (l:=v.2.1) (y:=b_ (I J v.2.1 i) (cl (an (I J v.2.1 i)) s)) hi;rw [ky] at this;have:=wG (an (I J v.2.1 i)) s;omega
 have m6:(v.2.1.set i (b_ (I J v.2.1 i) (cl (an (I J v.2.1 i)) s))).length≤1048576:=by rw [List.length_set];exact hl
 rw [← ZX hs];generalize hN:an (I J v.2.1 i)=N at hn hs jU m6;have hw:bz v.2.1 (b_ (I J v.2.1 i) (cl N s)).1=some i:=by rw [show(b_ (I J v.2.1 i) (cl N s)).1=dir from cf];exact h
 have key:∀(r j:Nat) (id:Int),j+r=N.length→b8 (fun m=>(lA m).bx s id (j:Int) v (0,([]:List J.D),()) (I J v.2.1 i) (cl (N.take j) s)) (r+1048580) (some ((v.1,goN (v.2.1.set i (b_ (I J v.2.1 i) (cl N s))) (wH (N.drop j) s id),()),())):=by
  intro r
  induction r with
  | zero=>
   intro j id hj;have IJ:j=N.length:=by omega
   subst IJ;rw [List.drop_length,List.take_length];show b8 _ _ (some ((v.1,goN (v.2.1.set i (b_ (I J v.2.1 i) (cl N s))) id,()),()))
   have hb:∀m,(lA (m+1)).bx s id (N.length:Int) v (0,([]:List J.D),()) (I J v.2.1 i) (cl N s) =
     cond (decide (((cD (v.2.1.set i (b_ (I J v.2.1 i) (cl N s))) id:Nat):Int)>0)) (some ((v.1,v.2.1.set i (b_ (I J v.2.1 i) (cl N s)),()),())) ((lA m).mY id 0 (v.1,v.2.1.set i (b_ (I J v.2.1 i) (cl N s)),()) (0,([]:List J.D),()) ([]:List J.D)):=by
    intro m;show A9 (lA m) s id (N.length:Int) v (0,([]:List J.D),()) (I J v.2.1 i) (cl N s)=_;unfold A9;show cond (decide ((N.length:Int)<((an (I J v.2.1 i)).length:Int))) _ (Option.bind (oZ (v,b_ (I J v.2.1 i) (cl N s),())) _)=_;rw [hN,cA (Nat.le_refl _),IL v _ hl hw];simp only [cond_false,aw];rw [Ic (v.1,v.2.1.set i (b_ (I J v.2.1 i) (cl N s)),()) id m6 jU];rfl
   generalize v.2.1.set i (b_ (I J v.2.1 i) (cl N s))=l at hb m6;unfold goN;by_cases h0:cD l id=0
   ·rw [decide_eq_true h0];simp only [cond_true]
    have ami:=pd 1 (fun m j=>(lA m).mY id (j:Int) (v.1,l,()) (0,([]:List J.D),()) ((l.take j).filter fun y=> !(y.1==id))) (some ((v.1,l.filter fun y=> !(y.1==id),()),())) l.length 1 (fun j hj B y he=>he.step fun m=>by
     have ik:((l.take j).filter fun y=> !(y.1==id)).length≤j:=Nat.le_trans (List.length_filter_le _ _) (by rw [List.length_take];omega);show A_ (lA m) id (j:Int) (v.1,l,()) (0,([]:List J.D),()) ((l.take j).filter fun y=> !(y.1==id))=_;unfold A_;show cond (decide ((j:Int)<(l.length:Int))) ((aM l.length (j:Int)).bind fun v1=>cond (!((I J l (0+v1)).1==id)) _ _) _=_;rw [b9 hj,bu hj];simp only [cond_true,aw,Nat.zero_add];rw [dv j (by omega),List.take_succ_eq_append_getElem hj,List.filter_append,List.filter_cons,List.filter_nil,c0 hj];cases hc:(!((l[j]).1==id))
     ·simp
     ·simp only [cond_true,if_true]
      rw [b7 (by simp only [List.length_cons,List.length_nil];omega)];rfl) (b8.now 1 fun m=>by
     show A_ (lA m) id (l.length:Int) (v.1,l,()) (0,([]:List J.D),()) ((l.take l.length).filter fun y=> !(y.1==id))=_;unfold A_;show cond (decide ((l.length:Int)<(l.length:Int))) _ _=_
     rw [cA (Nat.le_refl _),List.take_length];rfl)
    refine(ami.jump (f:=fun m=>(lA m).bx s id (N.length:Int) v (0,([]:List J.D),()) (I J v.2.1 i) (cl N s)) 1 fun m=>?_).mono (by omega);rw [hb m,decide_eq_false (by omega)];rfl
   ·rw [decide_eq_false h0];simp only [cond_false];refine(b8.now 1 fun m=>?_).mono (by omega);rw [hb m,decide_eq_true (by omega)];rfl
  | succ r ih=>
   intro j id hj;have hjl:j<N.length:=by omega
   have ih:=ih (j+1) (cond (bD (I aB N j).1 s) (I aB N j).2.1 id) (by omega);have gM:wH (N.drop (j+1)) s (cond (bD (I aB N j).1 s) (I aB N j).2.1 id)=wH (N.drop j) s id:=by rw [drop_cons (t:=aB) hjl];rfl
   rw [gM] at ih;refine(ih.jump (f:=fun m=>(lA m).bx s id (j:Int) v (0,([]:List J.D),()) (I J v.2.1 i) (cl (N.take j) s)) 1 fun m=>?_).mono (by omega);have ik:(cl (N.take j) s).length≤j:=Nat.le_trans (List.length_filter_le _ _) (by rw [List.length_take];omega);show A9 (lA m) s id (j:Int) v (0,([]:List J.D),()) (I J v.2.1 i) (cl (N.take j) s)=_;unfold A9
   show cond (decide ((j:Int)<((an (I J v.2.1 i)).length:Int))) ((aM (an (I J v.2.1 i)).length (j:Int)).bind fun v1=>cond (bD (I aB (an (I J v.2.1 i)) v1).1 s)
    ((aM (an (I J v.2.1 i)).length (j:Int)).bind fun v2=>(lA m).bx s (I aB (an (I J v.2.1 i)) v2).2.1 (aH ((j:Int)+1)) v (0,([]:List J.D),()) (I J v.2.1 i) (cl (N.take j) s))
    ((aM (an (I J v.2.1 i)).length (j:Int)).bind fun v3=>cond (room ((cl (N.take j) s).length+1)) ((lA m).bx s id (aH ((j:Int)+1)) v (0,([]:List J.D),()) (I J v.2.1 i) (cl (N.take j) s++[I aB (an (I J v.2.1 i)) v3])) none)) _=_
   rw [hN,b9 hjl,bu hjl];simp only [cond_true,aw];rw [dv j (by omega)];have xO:cl (N.take (j+1)) s=cl (N.take j) s++cond (bD (I aB N j).1 s) [] [I aB N j]:=by unfold cl;rw [List.take_succ_eq_append_getElem hjl,List.filter_append,List.filter_cons,List.filter_nil,c0 hjl];cases bD (N[j]).1 s <;> rfl
   rw [xO];cases bD (I aB N j).1 s
   ·simp only [cond_false];rw [b7 (by omega)];rfl
   ·simp only [cond_true,List.append_nil]
 have:=key N.length 0 0 (by omega);rw [List.drop_zero] at this;exact lH this (by omega)
theorem bits_nat(op:BinOp)(x y:Nat):cY op .i64 (x:Int) (y:Int)=(match op with
 | .and=>IntKind.wrap .i64 ((BitVec.ofNat 64 x &&& BitVec.ofNat 64 y).toNat:Int)
 | .or=>IntKind.wrap .i64 ((BitVec.ofNat 64 x ||| BitVec.ofNat 64 y).toNat:Int)
 | .xor=>IntKind.wrap .i64 ((BitVec.ofNat 64 x ^^^ BitVec.ofNat 64 y).toNat:Int)
 | _=>IntKind.wrap .i64 ((BitVec.ofNat 64 x &&& ~~~BitVec.ofNat 64 y).toNat:Int)):=by
 unfold cY;rw [show(IntKind.i64).bits=64 from rfl];simp only [BitVec.ofInt_natCast];cases op <;> rfl
theorem amj{x y:Nat}(hx:x<4611686018427387904)(aT:y<4611686018427387904):cY .and .i64 (x:Int) (y:Int)=((x &&& y:Nat):Int):=by rw [bits_nat];simp only;rw [BitVec.toNat_and,BitVec.toNat_ofNat,BitVec.toNat_ofNat,Nat.mod_eq_of_lt (show x<2 ^ 64 by omega),Nat.mod_eq_of_lt (show y<2 ^ 64 by omega)];have:x &&& y≤x:=Nat.and_le_left;exact tY (by omega) (by omega)
theorem ZY{x y:Nat}(hx:x<4611686018427387904)(aT:y<4611686018427387904):cY .or .i64 (x:Int) (y:Int)=((x ||| y:Nat):Int):=by
 rw [bits_nat];simp only;rw [BitVec.toNat_or,BitVec.toNat_ofNat,BitVec.toNat_ofNat,Nat.mod_eq_of_lt (show x<2 ^ 64 by omega),Nat.mod_eq_of_lt (show y<2 ^ 64 by omega)];have:x ||| y<2 ^ 62:=Nat.or_lt_two_pow (by omega) (by omega)
 exact tY (by omega) (by omega)
theorem amk{x:Nat}(h:x<2048):x &&& 1024=1024*(x / 1024):=by have h1:(x &&& 1024) / 2 ^ 10=x / 2 ^ 10 &&& 1024 / 2 ^ 10:=Nat.and_div_two_pow;have h2:(x &&& 1024) % 2 ^ 10=x % 2 ^ 10 &&& 1024 % 2 ^ 10:=Nat.and_mod_two_pow;rw [show 1024 / 2 ^ 10=1 from rfl,Nat.and_one_is_mod] at h1;rw [show 1024 % 2 ^ 10=0 from rfl,Nat.and_zero] at h2;omega
theorem aml{m:Int}(h:0≤m)(h':m≤2047):cY .and .i64 m 1024=0∨cY .and .i64 m 1024=1024:=by
 obtain ⟨n,rfl⟩:∃n:Nat,m=n:=⟨m.toNat,by omega⟩
 have:=amj (x:=n) (y:=1024) (by omega) (by omega);rw [show((1024:Nat):Int)=1024 from rfl] at this;rw [this,amk (by omega)];omega
theorem amm{m:Int}(h:0≤m)(h':m≤2047):cY .or .i64 m 0=m:=by
 obtain ⟨n,rfl⟩:∃n:Nat,m=n:=⟨m.toNat,by omega⟩
 have:=ZY (x:=n) (y:=0) (by omega) (by omega);rw [show((0:Nat):Int)=0 from rfl] at this;rw [this,Nat.or_zero]
theorem amn{m:Int}(h:0≤m)(h':m≤2047):0≤cY .or .i64 m 1024∧cY .or .i64 m 1024≤2047:=by
 obtain ⟨n,rfl⟩:∃n:Nat,m=n:=⟨m.toNat,by omega⟩
 have:=ZY (x:=n) (y:=1024) (by omega) (by omega);rw [show((1024:Nat):Int)=1024 from rfl] at this;rw [this];have:n ||| 1024<2 ^ 11:=Nat.or_lt_two_pow (by omega) (by omega)
 omega
def aD(x:aG.D):Int:=x.1
def fo(x:aG.D):aK:=x.2.1
def iW(x:aG.D):aK:=x.2.2.1
def bU(x:aG.D):Int:=x.2.2.2.1
def ep(x:aG.D):Int:=x.2.2.2.2.1
def dK(x:aG.D):aK:=x.2.2.2.2.2.1
structure iy(x:aG.D):Prop where
 dn:1≤aD x∧aD x≤22
 path:(fo x).length≤60
 tx:(iW x).length≤60
 fW:(dK x).length≤64
 n : -1000000≤bU x∧bU x≤1000000
 m : -1000000≤ep x∧ep x≤1000000
 amo:iW x=[]∨aD x=9∨aD x=10∨aD x=12
 ZZ:dK x=[]∨aD x=5∨aD x=6
theorem tz{x:aG.D} : gj x=true↔iy x:=by
 unfold gj;simp only [Bool.and_eq_true,Bool.or_eq_true,decide_eq_true_eq,beq_iff_eq,n_];constructor
 ·rintro ⟨⟨⟨⟨⟨⟨⟨h1,h2⟩,h3⟩,h4⟩,a'⟩,br⟩,bL⟩,dg⟩
  exact⟨di.1 h1,Int.ofNat_le.1 h2,Int.ofNat_le.1 h3,Int.ofNat_le.1 h4,di.1 a',di.1 br,bL,dg⟩
 ·intro h;exact⟨⟨⟨⟨⟨⟨⟨di.2 h.dn,Int.ofNat_le.2 h.path⟩,Int.ofNat_le.2 h.tx⟩,Int.ofNat_le.2 h.fW⟩,di.2 h.n⟩,di.2 h.m⟩,h.amo⟩,h.ZZ⟩
theorem rS{N:List aB.D}{s:aK}{id:Int}{d:aB.D} : d∈ins N s id↔d∈N∨d=(s,id,()):=by
 have:=List.takeWhile_append_dropWhile (p:=ee s) (l:=N);unfold ins
 conv=>rhs;rw [← this]
 simp only [List.mem_append,List.mem_singleton];constructor
 ·rintro ((h | h) | h)
  ·exact .inl (.inl h)
  ·exact .inr h
  ·exact .inl (.inr h)
 ·rintro ((h | h) | h)
  ·exact .inl (.inl h)
  ·exact .inr h
  ·exact .inl (.inr h)
theorem BT{N:List aB.D}{s:aK}(h:dR N s=0)(h0:∀d,d∈N→d.2.1≠0):∀d,d∈N→d.1≠s:=by
 intro d ah he;obtain ⟨i,hi,aI⟩:=fb ah;unfold dR at h
 cases hf:fA N.length (rL N s) with
 | none=>have:=mi.1 hf i hi;unfold rL bD at this;rw [aI] at this;simp [he] at this
 | some j=>rw [hf] at h;obtain ⟨h1,_,_⟩:=iv.1 hf;exact h0 _ (cR h1) h
theorem bW.Z1{v:af.D}(h:bW v){x:aS}(hx:x∈v.2.1):1≤bj x∧bj x≤gC v-1:=by obtain ⟨i,hi,he⟩:=fb hx;have:=h.ids i hi;rw [he] at this;exact this
theorem bW.BU{v:af.D}(h:bW v){i:Nat}(hi:i<v.2.1.length){d:aB.D}(ah:d∈an (I J v.2.1 i)):d.2.1≠0:=by obtain ⟨y,aT,he⟩:=n'.1 (h.iV i hi d ah);have h1:=h.Z1 aT;intro h0;have:bj y=0:=he.trans h0;omega
theorem bW.free{v:af.D}(h:bW v):bz v.2.1 v.1=none:=by
 cases hi:bz v.2.1 v.1 with
 | none=>rfl
 | some i=>obtain ⟨h1,h2⟩:=b5 hi;have:=h.ids i h1;have h2:bj (I J v.2.1 i)=gC v:=h2;omega
theorem bW.jA{v:af.D}(h:bW v):rN v.2.1:=
 ⟨by have:=h.len;omega,by have:=h.c6;omega,h.iU,h.iV,fun i hi hk=>((h.ino i hi).plain hk).2.2,fun i hi hk=>((h.ino i hi).n7 hk).1,0,by
  have:=h.iU 0 (by have:=h.len;omega)
  rwa [show(I J v.2.1 0).1=1 from h.root.1] at this,h.root.2⟩
def bs(v:af.D)(c:aL.D)(x:aG.D)(a:Option (Int×aP.D×Unit))(b:Option (af.D×aF.D×Unit))(Q:af.D→Prop):Prop:=
 ∃(code:Int) (w:af.D),a=some (code,(w,c,x,()),())∧b=some (cond (code==0) w v,(code,[],()),())∧(code=0→Q w)∧0≤code∧code≤200
theorem bs.no{v:af.D}{c:aL.D}{x:aG.D}{a:Option (Int×aP.D×Unit)}{b:Option (af.D×aF.D×Unit)}{Q:af.D→Prop}(code:Int)(h0:code≠0)(ha:a=some (code,(v,c,x,()),()))(hb:b=some (v,(code,[],()),()))(hr:0≤code∧code≤200:=by decide):bs v c x a b Q:=
 ⟨code,v,ha,by rw [bX h0];exact hb,fun h=>absurd h h0,hr⟩
theorem bs.yes{v:af.D}{c:aL.D}{x:aG.D}{a:Option (Int×aP.D×Unit)}{b:Option (af.D×aF.D×Unit)}{Q:af.D→Prop}(code:Int)(w:af.D)(hq:code=0→Q w)(ha:a=some (code,(w,c,x,()),()))(hb:b=some (cond (code==0) w v,(code,[],()),()))(hr:0≤code∧code≤200:=by first | decide | exact ZV _):bs v c x a b Q:=
 ⟨code,w,ha,hb,hq,hr⟩
def IQ(x:aG.D):Int:=if aD x=1 then 2 else if aD x=10 then 3 else 1
def wI(x:aG.D)(d:aS):Int:=if aD x=10 then 511 else if aD x=1∧cY .and .i64 (fi d) 1024≠0 then cY .or .i64 (bU x) 1024 else bU x
def BV(c:aL.D)(d:aS):Int:=if cY .and .i64 (fi d) 1024≠0 then fB d else c.2.1
def gN(v:af.D)(c:aL.D)(x:aG.D)(d:aS):aS:=(v.1,IQ x,wI x d,c.1,BV c d,if aD x=10 then iW x else [],[],0,0,())
def rT(x:aG.D):Bool:=cond (aD x==10) (!jO (iW x)) (!cz (bU x) 0 2047)
structure Made(v:af.D)(c:aL.D)(x:aG.D)(w:af.D):Prop where
 bad:rT x=false
 out:∃r i,h7 v.2.1 r∧bO r=2∧nameOf r≠[]∧bz v.2.1 (cp r)=some i∧kindOf (I J v.2.1 i)=2∧may c (I J v.2.1 i) 3=true∧(an (I J v.2.1 i)).length<12∧v.2.1.length<24∧gC v<100000 ∧
  w=(v.1+1,v.2.1.set i (b_ (I J v.2.1 i) (ins (an (I J v.2.1 i)) (nameOf r) v.1))++[gN v c x (I J v.2.1 i)],())∧fc w.2.1=0∧fg (v,c,fo x,false,())=some (r,())
theorem amp(m:Nat)(a b):(lz (m+1)).bg a b=MB (lz m) a b:=rfl
theorem amq(m:Nat)(a b d):(lz (m+1)).h5 a b d=MC (lz m) a b d:=rfl
theorem amr(m:Nat)(a b d e f):(j' (m+1)).k3 a b d e f=NI (j' m) a b d e f:=rfl
theorem ams(m:Nat)(a b d e f):(j' (m+1)).j_ a b d e f=NJ (j' m) a b d e f:=rfl
theorem BW(v:af.D)(c:aL.D)(x:aG.D)(id:Int)(hl:v.2.1.length≤1048576)(hc:dy c=true){i:Nat}(h:bz v.2.1 id=some i):nT ((v,c,x,()),id,())=some (may c (I J v.2.1 i) 3,()):=by show My (v,c,x,()) id=_;unfold My;show Option.bind (fS (v,id,())) _=_;rw [n6 v id hl h];simp only [aw,List.isEmpty_cons,Bool.not_false,cond_true];show Option.bind (p1 (c,I J v.2.1 i,3,())) _=_;rw [BI c _ 3 hc];rfl
theorem amt(v:af.D)(c:aL.D)(x:aG.D)(hv:bW v)(hc:dy c=true)(hx:iy x):bs v c x (Ax ((v,c,x,()),())) (vT (v,c,x,())) (Made v c x):=by
 have cH:=hv.jA;have hl:v.2.1.length≤1048576:=cH.len;have av:=hx.path;obtain ⟨q,hq,ij⟩:=iS 4
 have fa:Ax ((v,c,x,()),())=cond (rT x) (some (22,(v,c,x,()),())) ((lz aN).bg (v,c,x,()) x):=by
  show E8 (lz aN) (v,c,x,())=_;unfold E8 rT;show cond (aD x==10) (Option.bind (x2 (iW x,())) fun v1=>cond (!v1.1) _ (cond (!(aD x==10)) _ _)) (cond (!(aD x==10)) (Option.bind (dh (bU x,0,2047,())) _) _)=_;rw [PK _ (by have:=hx.tx;omega)];cases aD x==10
  ·simp only [cond_false,Bool.not_false,cond_true,aw];rw [g_];rfl
  ·simp only [cond_true,Bool.not_true,cond_false,aw]
 have dZ:vT (v,c,x,())=cond (rT x) (some (v,(22,[],()),())) ((j' aN).k3 v c x (0,([]:List J.D),()) (0,([]:aK),())):=by
  show GZ (j' aN) v c x=_;unfold GZ rT;show cond (aD x==10) (Option.bind (AH (iW x,())) fun v1=>cond (!v1.1) _ (cond (!(aD x==10)) _ _)) (cond (!(aD x==10)) (Option.bind (c_ (bU x,0,2047,())) _) _)=_;rw [YL];cases aD x==10
  ·simp only [cond_false,Bool.not_false,cond_true,aw];rw [hO];rfl
  ·simp only [cond_true,Bool.not_true,cond_false,aw]
 rw [fa,dZ]
 cases hb:rT x with
 | true=>exact bs.no 22 (by decide) rfl rfl
 | false=>
 simp only [cond_false];rw [hq,amp,amr];unfold MB NI;obtain ⟨r,eH,code,Ql,Qm,gL,Qn⟩:=ZN v c x (fo x) cH hc (by omega);show bs v c x (Option.bind (vq ((v,c,x,()),fo x,())) _) (Option.bind (vR (v,c,fo x,())) _) _;rw [Ql,Qm];simp only [aw];by_cases b6:code=0
 case neg=>rw [dj b6];exact bs.no code b6 rfl rfl gL
 obtain ⟨rfl,hr,gS,qs,Qo⟩:=Qn b6;rw [ed b6];simp only [cond_false];obtain ⟨pf,ka,d,ah,gm,oa⟩:=hr.new gS qs;have hdl:=b5 ah;show bs v c x (Option.bind (nT ((v,c,x,()),cp eH,())) _) (Option.bind (fy (v,cp eH,())) _) _;rw [BW v c x _ hl hc ah,jR v _ hl ah];simp only [aw];rw [qj c _ 3 hc];simp only [aw]
 cases hm:may c (I J v.2.1 d) 3 with
 | false=>exact bs.no 13 (by decide) rfl rfl
 | true=>
 simp only [Bool.not_true,cond_false];show bs v c x (Option.bind (fS (v,cp eH,())) _) _ _;rw [n6 v _ hl ah];simp only [aw,List.isEmpty_cons,Bool.not_false,cond_true];have h8:=hv.ino d hdl.1;have Z2:=(h8.dir gm).2.2.2;show bs v c x (cond (((an (I J v.2.1 d)).length:Int)==12) _ (cond ((v.2.1.length:Int)==24) _ (cond (gC v==100000) _ _))) (cond (decide (((an (I J v.2.1 d)).length:Int)≥12)) _ (cond (decide ((v.2.1.length:Int)≥24)) _ (cond (decide (gC v≥100000)) _ _))) _;by_cases j5:(an (I J v.2.1 d)).length=12
 ·rw [show(((an (I J v.2.1 d)).length:Int)==12)=true by rw [j5];rfl,decide_eq_true (by omega)];exact bs.no 28 (by decide) rfl rfl
 rw [show(((an (I J v.2.1 d)).length:Int)==12)=false by rw [beq_eq_false_iff_ne];omega,decide_eq_false (show ¬((an (I J v.2.1 d)).length:Int)≥12 by omega)];simp only [cond_false];have hlen:=hv.len;have qX:=hv.next;by_cases amu:v.2.1.length=24
 ·rw [show((v.2.1.length:Int)==24)=true by rw [amu];rfl,decide_eq_true (by omega)];exact bs.no 28 (by decide) rfl rfl
 rw [show((v.2.1.length:Int)==24)=false by rw [beq_eq_false_iff_ne];omega,decide_eq_false (show ¬(v.2.1.length:Int)≥24 by omega)];simp only [cond_false];by_cases Qp:gC v=100000
 ·rw [cr Qp,decide_eq_true (show gC v≥100000 by omega)];exact bs.no 28 (by decide) rfl rfl
 rw [bX Qp,decide_eq_false (show ¬gC v≥100000 by omega)];simp only [cond_false];obtain ⟨w,hw⟩:∃w:af.D,w=(v.1+1,v.2.1.set d (b_ (I J v.2.1 d) (ins (an (I J v.2.1 d)) (nameOf eH) v.1))++[gN v c x (I J v.2.1 d)],()):=⟨_,rfl⟩
 have amv:aH (v.1+1)=v.1+1:=cT (a:=gC v+1) (by omega) (by omega)
 have arv:aq 1000 (v.2.1++[gN v c x (I J v.2.1 d)]):=(hv.st.app (k:=100) (n:=gN v c x (I J v.2.1 d)) hv.free rfl (by
  show(if aD x=10 then iW x else []).length≤100;have:=hx.tx;split
  ·omega
  ·simp) (by omega) (fun _=>⟨rfl,rfl⟩)).mono (by omega)
 have hst:aq 1000 w.2.1:=by
  rw [hw];have aI:I J (v.2.1++[gN v c x (I J v.2.1 d)]) d=I J v.2.1 d:=Qi hdl.1
  have:=(hv.st.app (k:=100) (n:=gN v c x (I J v.2.1 d)) hv.free rfl (by
   show(if aD x=10 then iW x else []).length≤100;have:=hx.tx;split
   ·omega
   ·simp) (by omega) (fun _=>⟨rfl,rfl⟩)).set (k:=1) (i:=d) (y:=b_ (I J v.2.1 d) (ins (an (I J v.2.1 d)) (nameOf eH) v.1)) (by simp;omega) (by rw [aI];rfl) (by
    intro e he;rcases rS.1 he with he | rfl
    ·obtain ⟨y,aT,yN⟩:=n'.1 (hv.iV d hdl.1 e he);exact n'.2 ⟨y,List.mem_append_left _ aT,yN⟩
    ·exact n'.2 ⟨gN v c x (I J v.2.1 d),List.mem_append_right _ (List.mem_singleton.2 rfl),rfl⟩) (fun hk=>absurd gm hk) (by
    rw [aI];show(ins (an (I J v.2.1 d)) (nameOf eH) v.1).length≤_;rw [yV];omega) (by rw [aI];exact Nat.le_add_right _ _)
  rw [ZT hdl.1] at this;exact this.mono (by omega)
 have hfin:∀m n,bs v c x ((lz (m+1)).h5 (v,c,x,()) eH (gN v c x (I J v.2.1 d))) ((j' (n+1)).j_ v (0,([]:List J.D),()) (0,([]:aK),()) eH (gN v c x (I J v.2.1 d))) (Made v c x):=by
  intro m n;rw [amq,ams];unfold MC NJ;rw [wC v hl (fun i hi=>Nat.le_trans (gk hi) cH.c6)];simp only [aw];rw [amv];show bs v c x (Option.bind (sR (((v.1+1,v.2.1,()),c,x,()),cp eH,nameOf eH,v.1,())) _) (Option.bind (oZ ((v.1+1,v.2.1,()),gN v c x (I J v.2.1 d),())) _) _;rw [Qf (v.1+1,v.2.1,()) c x (cp eH) (nameOf eH) v.1 hl ah (Nat.le_trans (gk hdl.1) cH.c6),amc (v.1+1,v.2.1,()) _ hl hv.free];simp only [aw];have aI:I J (v.2.1++[gN v c x (I J v.2.1 d)]) d=I J v.2.1 d:=Qi hdl.1
  have Im:=Qh (v.1+1,v.2.1++[gN v c x (I J v.2.1 d)],()) (cp eH) (nameOf eH) v.1 (by simp;omega) (ame ah) (by
   show(an (I J (v.2.1++[gN v c x (I J v.2.1 d)]) d)).length≤_
   rw [aI];exact Nat.le_trans (gk hdl.1) cH.c6) (by
   show ∀e,e∈an (I J (v.2.1++[gN v c x (I J v.2.1 d)]) d)→_
   rw [aI];exact BT oa fun e he=>hv.BU hdl.1 he)
  rw [show((v.1+1,v.2.1++[gN v c x (I J v.2.1 d)],()):af.D).2.1=v.2.1++[gN v c x (I J v.2.1 d)] from rfl,aI,ZT hdl.1,← hw] at Im;show bs v c x _ (Option.bind (s5 ((v.1+1,v.2.1++[gN v c x (I J v.2.1 d)],()),cp eH,nameOf eH,v.1,())) _) _;rw [Im];simp only [aw];rw [BR v w hst (by omega)];simp only [aw];rw [b7 (by simp;omega)];simp only [cond_true];show bs v c x (Option.bind (nU (((v.1+1,v.2.1.set d (b_ (I J v.2.1 d) (ins (an (I J v.2.1 d)) (nameOf eH) v.1))++[gN v c x (I J v.2.1 d)],()),c,x,()),())) fun v2=>some (v2.1,((v.1+1,v.2.1.set d (b_ (I J v.2.1 d) (ins (an (I J v.2.1 d)) (nameOf eH) v.1))++[gN v c x (I J v.2.1 d)],()),c,x,()),())) _ _;rw [← hw,BQ w c x hst (by omega)];exact⟨fc w.2.1,w,rfl,rfl,fun h=>⟨hb,eH,d,hr,gS,qs,ah,gm,hm,by omega,by omega,by omega,hw,h,Qo⟩,ZV _⟩
 have hN:aD x≠10→0≤bU x∧bU x≤2047:=by intro hk;unfold rT at hb;rw [bX hk] at hb;simp only [cond_false,Bool.not_eq_false'] at hb;exact di.1 hb
 have IS:=h8.mode;have Qq:=aml IS.1 IS.2
 show bs v c x (cond (cY .and .i64 (fi (I J v.2.1 d)) 1024 != 0)
   (cond (aD x==1) ((lz (q+3)).h5 (v,c,x,()) eH (v.1,2,cY .or .i64 (bU x) (cY .and .i64 (fi (I J v.2.1 d)) 1024),c.1,fB (I J v.2.1 d),[],[],0,0,()))
    (cond (aD x==10) ((lz (q+3)).h5 (v,c,x,()) eH (v.1,3,511,c.1,fB (I J v.2.1 d),iW x,[],0,0,())) ((lz (q+3)).h5 (v,c,x,()) eH (v.1,1,bU x,c.1,fB (I J v.2.1 d),[],[],0,0,()))))
   (cond (aD x==1) ((lz (q+3)).h5 (v,c,x,()) eH (v.1,2,cY .or .i64 (bU x) (cY .and .i64 (fi (I J v.2.1 d)) 1024),c.1,c.2.1,[],[],0,0,()))
    (cond (aD x==10) ((lz (q+3)).h5 (v,c,x,()) eH (v.1,3,511,c.1,c.2.1,iW x,[],0,0,())) ((lz (q+3)).h5 (v,c,x,()) eH (v.1,1,bU x,c.1,c.2.1,[],[],0,0,())))))
  (cond (aD x==1) ((j' (q+3)).A8 v x (0,([]:List J.D),()) (0,([]:aK),()) eH (I J v.2.1 d) (v.1,2,bU x,c.1,c.2.1,[],[],0,0,())) ((j' (q+3)).A8 v x (0,([]:List J.D),()) (0,([]:aK),()) eH (I J v.2.1 d) (v.1,1,bU x,c.1,c.2.1,[],[],0,0,()))) (Made v c x)
 have xy:∀(n:aS),(j' (q+3)).A8 v x (0,([]:List J.D),()) (0,([]:aK),()) eH (I J v.2.1 d) n=cond (aD x==10) ((j' (q+2)).gZ v (0,([]:List J.D),()) (0,([]:aK),()) eH (I J v.2.1 d) (n.1,3,511,n.2.2.2.1,n.2.2.2.2.1,iW x,n.2.2.2.2.2.2.1,n.2.2.2.2.2.2.2.1,n.2.2.2.2.2.2.2.2.1,())) ((j' (q+2)).gZ v (0,([]:List J.D),()) (0,([]:aK),()) eH (I J v.2.1 d) n):=fun n=>rfl
 have BX:∀(n:aS),(j' (q+2)).gZ v (0,([]:List J.D),()) (0,([]:aK),()) eH (I J v.2.1 d) n=cond (cY .and .i64 (fi (I J v.2.1 d)) 1024 != 0)
   (cond (n.2.1==2) ((j' (q+1)).j_ v (0,([]:List J.D),()) (0,([]:aK),()) eH (n.1,n.2.1,cY .or .i64 n.2.2.1 1024,n.2.2.2.1,fB (I J v.2.1 d),n.2.2.2.2.2.1,n.2.2.2.2.2.2.1,n.2.2.2.2.2.2.2.1,n.2.2.2.2.2.2.2.2.1,()))
    ((j' (q+1)).j_ v (0,([]:List J.D),()) (0,([]:aK),()) eH (n.1,n.2.1,n.2.2.1,n.2.2.2.1,fB (I J v.2.1 d),n.2.2.2.2.2.1,n.2.2.2.2.2.2.1,n.2.2.2.2.2.2.2.1,n.2.2.2.2.2.2.2.2.1,()))) ((j' (q+1)).j_ v (0,([]:List J.D),()) (0,([]:aK),()) eH n):=fun n=>rfl
 simp only [xy,BX];have h9:=hfin (q+2) q;unfold gN IQ wI BV at h9;by_cases k1:aD x=1
 ·have dC:aD x≠10:=by omega
  have qt:=hN dC;rw [cr k1,bX dC];rw [if_pos k1,if_neg dC,if_neg dC] at h9;simp only [cond_true,cond_false];rcases Qq with gx | gx
  ·rw [gx] at h9 ⊢;rw [if_neg (by simp),if_neg (by simp)] at h9;rw [amm qt.1 qt.2];exact h9
  ·rw [gx] at h9 ⊢;rw [if_pos ⟨k1,by decide⟩,if_pos (by decide)] at h9;exact h9
 ·rw [bX k1];rw [if_neg k1] at h9;by_cases dC:aD x=10
  ·rw [cr dC];rw [if_pos dC,if_pos dC,if_pos dC] at h9;simp only [cond_true,cond_false];rcases Qq with gx | gx
   ·rw [gx] at h9 ⊢;rw [if_neg (by simp)] at h9;exact h9
   ·rw [gx] at h9 ⊢;rw [if_pos (by decide)] at h9;exact h9
  ·rw [bX dC];rw [if_neg dC,if_neg dC,if_neg dC,if_neg (fun h=>k1 h.1)] at h9;simp only [cond_false];rcases Qq with gx | gx
   ·rw [gx] at h9 ⊢;rw [if_neg (by simp)] at h9;exact h9
   ·rw [gx] at h9 ⊢;rw [if_pos (by decide)] at h9;exact h9
def k4(v:af.D)(i:Nat)(s:aK):af.D:=(v.1,goN (v.2.1.set i (b_ (I J v.2.1 i) (cl (an (I J v.2.1 i)) s))) (dR (an (I J v.2.1 i)) s),())
structure BY(v:af.D)(c:aL.D)(x:aG.D)(w:af.D):Prop where
 out:∃r i j,h7 v.2.1 r∧bO r=0∧nameOf r≠[]∧bz v.2.1 (cp r)=some i∧kindOf (I J v.2.1 i)=2∧dR (an (I J v.2.1 i)) (nameOf r)=bA r∧bz v.2.1 (bA r)=some j∧an (I J v.2.1 j)=[] ∧
  (aD x=2→kindOf (I J v.2.1 j)=2)∧(aD x=8→kindOf (I J v.2.1 j)≠2)∧w=k4 v i (nameOf r)
theorem amw(m:Nat)(a b d):(oV (m+1)).bx a b d=MH (oV m) a b d:=rfl
theorem amx(m:Nat)(a b d):(oV (m+1)).dq a b d=MI (oV m) a b d:=rfl
theorem amy(m:Nat)(a b d):(oV (m+1)).eY a b d=MJ (oV m) a b d:=rfl
theorem amz(m:Nat)(a b d):(oV (m+1)).cL a b d=MK (oV m) a b d:=rfl
theorem amA(m:Nat)(a b d e f g h):(rn (m+1)).dq a b d e f g h=NL (rn m) a b d e f g h:=rfl
theorem amB(m:Nat)(a b d e f g h):(rn (m+1)).eY a b d e f g h=NM (rn m) a b d e f g h:=rfl
theorem amC(m:Nat)(a b d e f g):(rn (m+1)).cL a b d e f g=NN (rn m) a b d e f g:=rfl
theorem amD(v:af.D)(c:aL.D)(x:aG.D)(hv:bW v)(hc:dy c=true)(hx:iy x)(hk:aD x=2∨aD x=8):bs v c x (Fg ((v,c,x,()),())) (A' (v,c,x,())) (BY v c x):=by
 have cH:=hv.jA;have hl:v.2.1.length≤1048576:=cH.len;have av:=hx.path;obtain ⟨q,hq,ij⟩:=iS 4;show bs v c x (Ff (oV aN) (v,c,x,())) (G4 (rn aN) v c x) _;unfold Ff G4;obtain ⟨r,⟨hr,_⟩,BZ,fN⟩:=BN v c x (fo x) false cH hc (by omega);show bs v c x (Option.bind (ly ((v,c,x,()),fo x,false,())) _) (Option.bind (fg (v,c,fo x,false,())) _) _;rw [BZ,fN];simp only [aw];show bs v c x (cond (bO r != 0) (some (bO r,(v,c,x,()),())) _) (cond (bO r != 0) (some (v,(bO r,[],()),())) _) _;by_cases b6:bO r=0
 case neg=>rw [dj b6];exact bs.no (bO r) b6 rfl rfl (h7.rg ‹_›)
 rw [ed b6];simp only [cond_false,oR];obtain ⟨j,hj⟩:=hr.there b6;have hjl:=b5 hj;show bs v c x (Option.bind (fS (v,bA r,())) _) (Option.bind (fy (v,bA r,())) _) _;rw [n6 v _ hl hj,jR v _ hl hj];simp only [aw,List.isEmpty_cons,Bool.not_false,cond_true];rw [hq,amw];unfold MH;rw [amx,amA];show bs v c x (cond (aD x==2) (cond (bD (nameOf r) []) _ _) _) (cond (aD x==2) (cond (bD (nameOf r) []) _ _) _) _;have amE:nameOf r=[]→kindOf (I J v.2.1 j)=2:=by intro h;obtain ⟨e_,h1,h2⟩:=hr.bare b6 h;rw [hj] at h1;rw [aZ h1];exact h2
 by_cases de:aD x=2∧nameOf r=[]
 ·rw [cr de.1,n_.2 de.2];exact bs.no 16 (by decide) rfl rfl
 have qM:∀ {α : Type} (a b : α),cond (aD x==2) (cond (bD (nameOf r) []) a b) b=b:=by
  intro α a b;by_cases h2:aD x=2
  ·rw [cr h2];have:bD (nameOf r) []=false:=by rw [← Bool.not_eq_true,n_];exact fun h=>de ⟨h2,h⟩
   rw [this];rfl
  ·rw [bX h2];rfl
 rw [qM,qM];unfold MI NL;rw [amy,amB];show bs v c x (cond (aD x==2) (cond (kindOf (I J v.2.1 j) != 2) _ _) _) (cond (aD x==2) (cond (kindOf (I J v.2.1 j) != 2) _ _) _) _;by_cases iq:aD x=2∧kindOf (I J v.2.1 j)≠2
 ·rw [cr iq.1,dj iq.2];exact bs.no 20 (by decide) rfl rfl
 have Z3:∀ {α : Type} (a b : α),cond (aD x==2) (cond (kindOf (I J v.2.1 j) != 2) a b) b=b:=by
  intro α a b;by_cases h2:aD x=2
  ·rw [cr h2,ed (Decidable.byContradiction fun h=>iq ⟨h2,h⟩)];rfl
  ·rw [bX h2];rfl
 rw [Z3,Z3];unfold MJ NM;rw [amz,amC];show bs v c x (cond (aD x==8) (cond (kindOf (I J v.2.1 j)==2) _ _) _) (cond (aD x==8) (cond (kindOf (I J v.2.1 j)==2) _ _) _) _;by_cases cf:aD x=8∧kindOf (I J v.2.1 j)=2
 ·rw [cr cf.1,cr cf.2];exact bs.no 21 (by decide) rfl rfl
 have Z4:∀ {α : Type} (a b : α),cond (aD x==8) (cond (kindOf (I J v.2.1 j)==2) a b) b=b:=by
  intro α a b;by_cases h2:aD x=8
  ·rw [cr h2,bX (fun h=>cf ⟨h2,h⟩)];rfl
  ·rw [bX h2];rfl
 rw [Z4,Z4]
 have jo:nameOf r≠[]:=by
  intro h;rcases hk with h2 | dg
  ·exact de ⟨h2,h⟩
  ·exact cf ⟨dg,amE h⟩
 obtain ⟨pf,ka,d,ah,gm,oa⟩:=hr.named b6 jo;have hdl:=b5 ah;have h8:=hv.ino d hdl.1;unfold MK NN;show bs v c x (Option.bind (nT ((v,c,x,()),cp r,())) _) (Option.bind (fy (v,cp r,())) _) _;rw [BW v c x _ hl hc ah,jR v _ hl ah];simp only [aw];rw [qj c _ 3 hc];simp only [aw]
 cases hm:may c (I J v.2.1 d) 3 with
 | false=>exact bs.no 13 (by decide) rfl rfl
 | true=>
 simp only [Bool.not_true,cond_false];show bs v c x (Option.bind (fS (v,cp r,())) _) _ _;rw [n6 v _ hl ah];simp only [aw,List.isEmpty_cons,Bool.not_false,cond_true];show bs v c x (Option.bind (sS (c,I J v.2.1 d,I J v.2.1 j,())) _) _ _;rw [P5 c _ _ hc,P4 c _ _ hc];simp only [aw]
 cases ht:qk c (I J v.2.1 d) (I J v.2.1 j) with
 | false=>exact bs.no 1 (by decide) rfl rfl
 | true=>
 simp only [Bool.not_true,cond_false];show bs v c x (cond (aD x==2) (cond (decide (((an (I J v.2.1 j)).length:Int)>0)) _ _) _) (cond (decide (((an (I J v.2.1 j)).length:Int)>0)) _ _) _;rw [wC v hl (fun i hi=>Nat.le_trans (gk hi) cH.c6)];simp only [aw]
 show bs v c x (cond (aD x==2) (cond (decide (((an (I J v.2.1 j)).length:Int)>0)) (some (39,(v,c,x,()),())) (Option.bind (oU ((v,c,x,()),cp r,nameOf r,true,())) fun v4=>some (0,v4.1,()))) (Option.bind (oU ((v,c,x,()),cp r,nameOf r,true,())) fun v4=>some (0,v4.1,())))
  (cond (decide (((an (I J v.2.1 j)).length:Int)>0)) (some (v,(39,[],()),())) (Option.bind (o2 (v,cp r,nameOf r,())) fun v5=>some (v5.1,(0,[],()),()))) _
 rw [Qg v c x _ _ true hl cH.c6 ah,Qk v _ _ hl cH.c6 ah h8.sorted];simp only [aw,cond_true];by_cases h0:an (I J v.2.1 j)=[]
 ·rw [h0,show decide ((([]:List aB.D).length:Int)>0)=false from rfl];have:BY v c x (k4 v d (nameOf r)):=⟨r,d,j,hr,b6,jo,ah,gm,oa,hj,h0,fun h=>Decidable.byContradiction fun h'=>iq ⟨h,h'⟩,fun h h'=>cf ⟨h,h'⟩,rfl⟩;refine bs.yes 0 (k4 v d (nameOf r)) (fun _=>this) ?_ rfl;cases aD x==2 <;> rfl
 ·have amF:0<(an (I J v.2.1 j)).length:=List.length_pos_iff.2 h0;have l6:kindOf (I J v.2.1 j)=2:=Decidable.byContradiction fun h=>h0 ((hv.ino j hjl.1).plain h).2.2
  have hk2:aD x=2:=by
   rcases hk with h | h
   ·exact h
   ·exact absurd ⟨h,l6⟩ cf
  rw [decide_eq_true (by omega),cr hk2];exact bs.no 39 (by decide) rfl rfl
def wJ(v:af.D)(i:Nat)(s:aK)(id:Int):af.D:=(v.1,v.2.1.set i (b_ (I J v.2.1 i) (ins (an (I J v.2.1 i)) s id)),())
structure IT(v:af.D)(c:aL.D)(x:aG.D)(w:af.D):Prop where
 out:∃r t i j,h7 v.2.1 r∧bO r=0∧bz v.2.1 (bA r)=some j∧kindOf (I J v.2.1 j)≠2∧h7 v.2.1 t∧bO t=2∧nameOf t≠[]∧bz v.2.1 (cp t)=some i∧kindOf (I J v.2.1 i)=2 ∧
  (an (I J v.2.1 i)).length<12∧w=wJ v i (nameOf t) (bA r)∧fc w.2.1=0∧fg (v,c,fo x,false,())=some (r,())∧fg (v,c,iW x,false,())=some (t,())
theorem amG{v:af.D}(hv:bW v){i:Nat}(hi:i<v.2.1.length)(hk:kindOf (I J v.2.1 i)=2)(s:aK){id:Int}(cf:(bz v.2.1 id).isSome=true):aq 1000 (wJ v i s id).2.1:=by
 have:=hv.st.set (k:=1) (i:=i) (y:=b_ (I J v.2.1 i) (ins (an (I J v.2.1 i)) s id)) hi rfl (by
  intro e he;rcases rS.1 he with he | rfl
  ·exact hv.iV i hi e he
  ·exact cf) (fun h=>absurd hk h) (by show(ins (an (I J v.2.1 i)) s id).length≤_;rw [yV];omega) (Nat.le_add_right _ _)
 exact this.mono (by omega)
theorem amH(v:af.D)(c:aL.D)(x:aG.D)(hv:bW v)(hc:dy c=true)(hx:iy x):bs v c x (Fh ((v,c,x,()),())) (G5 (v,c,x,())) (IT v c x):=by
 have cH:=hv.jA;have hl:v.2.1.length≤1048576:=cH.len;have av:=hx.path;have wK:=hx.tx;show bs v c x (MM (v,c,x,())) (NP v c x) _;unfold MM NP;obtain ⟨r,⟨hr,_⟩,BZ,fN⟩:=BN v c x (fo x) false cH hc (by omega);show bs v c x (Option.bind (ly ((v,c,x,()),fo x,false,())) _) (Option.bind (fg (v,c,fo x,false,())) _) _;rw [BZ,fN];simp only [aw];show bs v c x (cond (bO r != 0) (some (bO r,(v,c,x,()),())) _) (cond (bO r != 0) (some (v,(bO r,[],()),())) _) _;by_cases b6:bO r=0
 case neg=>rw [dj b6];exact bs.no (bO r) b6 rfl rfl (h7.rg ‹_›)
 rw [ed b6];simp only [cond_false];obtain ⟨j,hj⟩:=hr.there b6;have hjl:=b5 hj;show bs v c x (Option.bind (Ay (v,bA r,())) _) (Option.bind (yi (v,bA r,())) _) _;rw [Zj v _ hl,Zi v _ hl];simp only [aw]
 cases Qr:pe v.2.1 (bA r) with
 | true=>exact bs.no 1 (by decide) rfl rfl
 | false=>
 simp only [cond_false];have l6:kindOf (I J v.2.1 j)≠2:=by unfold pe at Qr;rw [hj] at Qr;exact beq_eq_false_iff_ne.1 Qr
 obtain ⟨t,cq,code,Ql,Qm,gL,Qn⟩:=ZN v c x (iW x) cH hc (by omega);show bs v c x (Option.bind (vq ((v,c,x,()),iW x,())) _) (Option.bind (vR (v,c,iW x,())) _) _;rw [Ql,Qm];simp only [aw];by_cases IU:code=0
 case neg=>rw [dj IU];exact bs.no code IU rfl rfl gL
 obtain ⟨rfl,ht,Z5,htn,Qo⟩:=Qn IU;rw [ed IU];simp only [cond_false];obtain ⟨pf,ka,d,ah,gm,oa⟩:=ht.new Z5 htn;have hdl:=b5 ah;show bs v c x (Option.bind (nT ((v,c,x,()),cp cq,())) _) (Option.bind (fy (v,cp cq,())) _) _;rw [BW v c x _ hl hc ah,jR v _ hl ah];simp only [aw];rw [qj c _ 3 hc];simp only [aw]
 cases hm:may c (I J v.2.1 d) 3 with
 | false=>exact bs.no 13 (by decide) rfl rfl
 | true=>
 simp only [Bool.not_true,cond_false];show bs v c x (Option.bind (fS (v,cp cq,())) _) _ _;rw [n6 v _ hl ah];simp only [aw,List.isEmpty_cons,Bool.not_false,cond_true];have h8:=hv.ino d hdl.1;have Z2:=(h8.dir gm).2.2.2;show bs v c x (cond (((an (I J v.2.1 d)).length:Int)==12) _ _) (cond (decide (((an (I J v.2.1 d)).length:Int)≥12)) _ _) _;by_cases j5:(an (I J v.2.1 d)).length=12
 ·rw [show(((an (I J v.2.1 d)).length:Int)==12)=true by rw [j5];rfl,decide_eq_true (by omega)];exact bs.no 28 (by decide) rfl rfl
 rw [show(((an (I J v.2.1 d)).length:Int)==12)=false by rw [beq_eq_false_iff_ne];omega,decide_eq_false (show ¬((an (I J v.2.1 d)).length:Int)≥12 by omega)];simp only [cond_false];rw [wC v hl (fun i hi=>Nat.le_trans (gk hi) cH.c6)];simp only [aw];have hnl:=Nat.le_trans (gk hdl.1) cH.c6;show bs v c x (Option.bind (sR ((v,c,x,()),cp cq,nameOf cq,bA r,())) _) (Option.bind (s5 (v,cp cq,nameOf cq,bA r,())) _) _;rw [Qf v c x _ _ _ hl ah hnl,Qh v _ _ _ hl ah hnl (BT oa fun e he=>hv.BU hdl.1 he)];simp only [aw];show bs v c x (Option.bind (nU ((wJ v d (nameOf cq) (bA r),c,x,()),())) fun bn=>some (bn.1,(wJ v d (nameOf cq) (bA r),c,x,()),())) (Option.bind (rk (v,wJ v d (nameOf cq) (bA r),())) fun cF=>some (cF.1,cF.2.1,())) _;have hst:=amG hv hdl.1 gm (nameOf cq) (id:=bA r) (by rw [hj];rfl);rw [BQ _ c x hst (by omega),BR v _ hst (by omega)];exact bs.yes _ _ (fun h=>⟨r,cq,d,j,hr,b6,hj,l6,ht,Z5,htn,ah,gm,by omega,rfl,h,fN,Qo⟩) rfl rfl
def ob(l:List aS):Nat→Int→Int→Bool
 | 0,_,_=>false
 | k+1,id,top=>cond (id==top) true (cond (id==1) false (ob l k (kZ l id) top))
theorem amI(v:af.D)(id top:Int)(hl:v.2.1.length≤1048576)(hn:dE v.2.1≤1048576):Ba (v,id,top,())=some (ob v.2.1 (v.2.1.length+1) id top,()):=by
 show G7 (vW aN) v id top=_;unfold G7
 have key:∀(r k m:Nat) (id:Int),k+r=v.2.1.length+1→r<m→vW m id top (k:Int) v=some (ob v.2.1 r id top,()):=by
  intro r
  induction r with
  | zero=>intro k m id hk hm;obtain ⟨m,rfl,_⟩:=fuel hm;simp only [vW,G8];rw [decide_eq_false (by omega)];rfl
  | succ r ih=>intro k m id hk hm;obtain ⟨m,rfl,pO⟩:=fuel hm;simp only [vW,G8];rw [decide_eq_true (show(k:Int)≤(v.2.1.length:Int) by omega),Zl v id hl hn,dv k (by omega)];simp only [cond_true,aw];rw [ih (k+1) m _ (by omega) (by omega),ob];cases id==top <;> cases id==1 <;> rfl
 exact key (v.2.1.length+1) 0 aN id (by omega) (jN (by omega))
theorem Qs{α : Type}{f : α → Nat} : ∀ {l:List α},(∀x,x∈l→f x=0)→(l.map f).sum=0
 | [],_=>rfl
 | x :: l,h=>by simp only [List.map_cons,List.sum_cons];rw [h x List.mem_cons_self,Qs fun y aT=>h y (List.mem_cons_of_mem _ aT)]
def up(l:List aS):Nat→Int→Int
 | 0,d=>d
 | k+1,d=>up l k (kZ l d)
theorem Qt{α : Type}(f : α → Nat):∀(l:List α) (i j:Nat) (hi:i<l.length) (hj:j<l.length),i<j→f l[i]+f l[j]≤(l.map f).sum
 | [],_,_,hi,_,_=>by simp at hi
 | x :: l,i,j+1,hi,hj,i'=>by
  cases i with
  | zero=>simp only [List.getElem_cons_zero,List.getElem_cons_succ,List.map_cons,List.sum_cons];have:=Ip (f:=f) (List.getElem_mem (l:=l) (by simpa using hj:j<l.length));omega
  | succ i=>simp only [List.getElem_cons_succ,List.map_cons,List.sum_cons];have:=Qt f l i j (by simpa using hi) (by simpa using hj) (by omega);omega
theorem Qu{N:List aB.D}{id:Int} : ql N id=true↔0<dD N id:=by
 constructor
 ·intro h;obtain ⟨j,h1,h2,_⟩:=Ix h;unfold lI at h2;exact List.length_pos_of_mem (List.mem_filter.2 ⟨cR h1,h2⟩)
 ·intro h;obtain ⟨d,ah⟩:=List.exists_mem_of_length_pos h;obtain ⟨h1,h2⟩:=List.mem_filter.1 ah;obtain ⟨i,hi,he⟩:=fb h1
  cases hb:ql N id with
  | true=>rfl
  | false=>have:=P8 hb i hi;unfold lI at this;rw [he,h2] at this;cases this
theorem IV{l:List aS}(ah:ix l){b d:Int}(h1:cD l d=1)(h:E l b d):kZ l d=b:=by
 obtain ⟨i,e,hi,he,rfl⟩:=h;obtain ⟨bm,pa⟩:=b5 hi;have hci:0<dD (an (I J l i)) e.2.1:=List.length_pos_of_mem (List.mem_filter.2 ⟨he,by simp⟩);unfold kZ
 cases av:Iw l e.2.1 with
 | none=>have:=mi.1 av i bm;rw [Qu.2 hci] at this;cases this
 | some j=>
  obtain ⟨hj,amJ,_⟩:=iv.1 av;have Z6:=Qu.1 amJ
  have:j=i:=by
   refine Decidable.byContradiction fun hne=>?_
   rcases Nat.lt_or_gt_of_ne hne with h | h
   ·have:=Qt (fun x=>dD (an x) e.2.1) l j i hj bm h;rw [c0 hj] at Z6;rw [c0 bm] at hci;unfold cD at h1;have h2:dD (an l[j]) e.2.1+dD (an l[i]) e.2.1≤(l.map fun x=>dD (an x) e.2.1).sum:=this;omega
   ·have:=Qt (fun x=>dD (an x) e.2.1) l i j bm hj h;rw [c0 hj] at Z6;rw [c0 bm] at hci;unfold cD at h1;have h2:dD (an l[i]) e.2.1+dD (an l[j]) e.2.1≤(l.map fun x=>dD (an x) e.2.1).sum:=this;omega
  subst this;exact pa
theorem bW.Qv{v:af.D}(h:bW v){a:Int} : ¬dY v.2.1 a 1:=by
 intro hb
 have hE:∀b,¬E v.2.1 b 1:=by
  rintro b ⟨i,d,hi,ah,he⟩
  exact((h.ino i (b5 hi).1).names d ah).2.1 he
 cases hb with
 | single h=>exact hE _ h
 | tail _ h=>exact hE _ h
theorem bW.Z7{v:af.D}(h:bW v){b d:Int}(he:E v.2.1 b d):d≠1:=by
 rintro rfl
 exact h.Qv (.single he)
theorem bW.Qw{v:af.D}(h:bW v){d:Int}(ah:mj v.2.1 d)(h1:d≠1):cD v.2.1 d=1:=by
 obtain ⟨i,hi,hk⟩:=ah;obtain ⟨bm,cf⟩:=b5 hi
 have:=h.once i (by
  rcases Nat.eq_zero_or_pos i with h0 | h0
  ·subst h0;exact absurd ((show(I J v.2.1 0).1=1 from h.root.1).symm.trans cf).symm h1
  ·exact h0) bm hk
 rwa [cf] at this
theorem bW.amK{v:af.D}(h:bW v){b d:Int}(he:E v.2.1 b d):mj v.2.1 b:=by obtain ⟨i,e,hi,hm,_⟩:=he;refine⟨i,hi,Decidable.byContradiction fun hk=>?_⟩;rw [((h.ino i (b5 hi).1).plain hk).2.2] at hm;simp at hm
theorem bW.amL{v:af.D}(h:bW v){a d:Int}(ah:mj v.2.1 d)(h1:d≠1):dY v.2.1 a d↔a=kZ v.2.1 d∨dY v.2.1 a (kZ v.2.1 d):=by
 have ho:=h.Qw ah h1;constructor
 ·intro hb
  cases hb with
  | single he=>exact .inl (IV h.iU ho he).symm
  | tail hb he=>rw [IV h.iU ho he];exact .inr hb
 ·intro hb
  have hE:E v.2.1 (kZ v.2.1 d) d:=by
   cases av:Iw v.2.1 d with
   | none=>
    exfalso;have h0:=mi.1 av
    have:cD v.2.1 d=0:=by
     unfold cD;refine Qs fun x hx=>?_
     obtain ⟨i,hi,aI⟩:=fb hx;have:=h0 i hi;rw [aI] at this;refine Decidable.byContradiction fun hc=>?_
     rw [Qu.2 (by omega)] at this;cases this
    omega
   | some i=>obtain ⟨hi,hh,_⟩:=iv.1 av;obtain ⟨j,hj,Z8,_⟩:=Ix hh;unfold kZ;rw [av];exact⟨i,I aB (an (I J v.2.1 i)) j,h.iU i hi,cR hj,by unfold lI at Z8;simpa using Z8⟩
  rcases hb with rfl | hb
  ·exact .single hE
  ·exact .tail hb hE
theorem amM{v:af.D}(h:bW v)(top:Int):∀(n k:Nat) (d:Int),mj v.2.1 d→up v.2.1 n d=1→n<k→(ob v.2.1 k d top=true↔d=top∨dY v.2.1 top d):=by
 intro n
 induction n with
 | zero=>
  intro k d ah hu hk;obtain ⟨k,rfl,_⟩:=fuel hk;have hu:d=1:=hu;subst hu;rw [ob];by_cases h1:(1:Int)=top
  ·rw [cr h1];exact⟨fun _=>.inl h1,fun _=>rfl⟩
  ·rw [bX h1];exact⟨fun h=>(by cases h),fun h'=>h'.elim (fun h=>absurd h h1) fun hb=>absurd hb h.Qv⟩
 | succ n ih=>
  intro k d ah hu hk;obtain ⟨k,rfl,ew⟩:=fuel hk;rw [ob];by_cases h1:d=top
  ·rw [cr h1];exact⟨fun _=>.inl h1,fun _=>rfl⟩
  ·rw [bX h1];by_cases h2:d=1
   ·rw [cr h2];subst h2;exact⟨fun h=>(by cases h),fun h'=>h'.elim (fun h=>absurd h h1) fun hb=>absurd hb h.Qv⟩
   ·rw [bX h2];simp only [cond_false];rw [ih k (kZ v.2.1 d) (Qb h.jA _) hu (by omega),h.amL ah h2];constructor
    ·rintro (h | h)
     ·exact .inr (.inl h.symm)
     ·exact .inr (.inr h)
    ·rintro (h | h | h)
     ·exact absurd h h1
     ·exact .inl h.symm
     ·exact .inr h
theorem up_add(l:List aS)(a:Nat):∀(b:Nat) (d:Int),up l (a+b) d=up l a (up l b d)
 | 0,_=>rfl
 | b+1,d=>up_add l a b (kZ l d)
theorem bW.amN{v:af.D}(h:bW v){d:Int}(ah:mj v.2.1 d):∃n,up v.2.1 n d=1:=by
 obtain ⟨i,hi,hk⟩:=ah;obtain ⟨bm,cf⟩:=b5 hi;rcases Nat.eq_zero_or_pos i with h0 | h0
 ·subst h0;exact⟨0,cf.symm.trans (show(I J v.2.1 0).1=1 from h.root.1)⟩
 ·have hb:=h.reach i h0 bm;rw [cf] at hb
  have key:∀d,dY v.2.1 1 d→mj v.2.1 d→∃n,up v.2.1 n d=1:=by
   intro d hb
   induction hb with
   | single he=>intro ah;have h1:=h.Z7 he;exact⟨1,IV h.iU (h.Qw ah h1) he⟩
   | tail hb he ih=>intro ah;have h1:=h.Z7 he;obtain ⟨n,hn⟩:=ih (h.amK he);exact⟨n+1,by show up v.2.1 n (kZ v.2.1 _)=1;rw [IV h.iU (h.Qw ah h1) he];exact hn⟩
  exact key d hb ⟨i,hi,hk⟩
theorem least{P:Nat→Prop} : ∀n,P n→∃m,P m∧∀k,k<m→¬P k:=by
 intro n
 induction n using Nat.strongRecOn with
 | _ n ih=>
  intro hn;by_cases h:∃k,k<n∧P k
  ·obtain ⟨k,hk,av⟩:=h;exact ih k hk av
  ·exact⟨n,hn,fun k hk av=>h ⟨k,hk,av⟩⟩
theorem Z9{v:af.D}(h:bW v):∀(n:Nat) {d:Int},mj v.2.1 d→mj v.2.1 (up v.2.1 n d)
 | 0,_,ah=>ah
 | n+1,d,_=>Z9 h n (Qb h.jA d)
theorem bW.amO{v:af.D}(h:bW v){d:Int}(ah:mj v.2.1 d):∃n,n<v.2.1.length∧up v.2.1 n d=1:=by
 obtain ⟨amP,h0⟩:=h.amN ah;obtain ⟨n,hn,amQ⟩:=least (P:=fun n=>up v.2.1 n d=1) amP h0;refine⟨n,?_,hn⟩;have iq:((List.range (n+1)).map fun i=>up v.2.1 i d).Nodup:=by unfold List.Nodup;rw [List.pairwise_iff_getElem];intro i j hi hj i' he;simp only [List.length_map,List.length_range] at hi hj;simp only [List.getElem_map,List.getElem_range] at he;refine amQ (n-(j-i)) (by omega) ?_;show up v.2.1 (n-(j-i)) d=1;rw [show n-(j-i)=(n-j)+i by omega,up_add,he,← up_add,show n-j+j=n by omega];exact hn
 have lk:((List.range (n+1)).map fun i=>up v.2.1 i d)⊆v.2.1.map fun x=>x.1:=by intro a ha;obtain ⟨i,_,rfl⟩:=List.mem_map.1 ha;obtain ⟨j,hj,_⟩:=Z9 h i ah;obtain ⟨h1,h2⟩:=b5 hj;exact List.mem_map.2 ⟨_,cR h1,h2⟩
 have:=iq.length_le_of_subset lk;simp only [List.length_map,List.length_range] at this;omega
theorem Z_{v:af.D}(h:bW v){d:Int}(ah:mj v.2.1 d)(top:Int):ob v.2.1 (v.2.1.length+1) d top=true↔d=top∨dY v.2.1 top d:=by obtain ⟨n,h1,h2⟩:=h.amO ah;exact amM h top n _ d ah h2 (by omega)
theorem yW{N:List aB.D}(t:aK)(h:jy N):N.takeWhile (ee t)=N.filter (ee t)∧N.dropWhile (ee t)=N.filter fun d=> !ee t d:=by
 induction N with
 | nil=>exact⟨rfl,rfl⟩
 | cons d r ih=>
  obtain ⟨h1,h2⟩:=List.pairwise_cons.1 h;obtain ⟨i1,i2⟩:=ih h2;rw [List.takeWhile_cons,List.dropWhile_cons,List.filter_cons,List.filter_cons]
  cases ah:ee t d with
  | true=>simp [i1,i2]
  | false=>
   have bP:∀e,e∈r→ee t e=false:=by
    intro e he;have h3:=h1 e he
    cases hk:ee t e with
    | false=>rfl
    | true=>have:=BM h3 hk;unfold ee at ah;rw [ah] at this;cases this
   have f1:r.filter (ee t)=[]:=List.filter_eq_nil_iff.2 fun e he=>by rw [bP e he];simp
   have f2:(r.filter fun d=> !ee t d)=r:=List.filter_eq_self.2 fun e he=>by rw [bP e he];rfl
   simp [f1,f2]
theorem wL{N:List aB.D}(h:jy N)(s:aK):jy (cl N s):=List.Pairwise.sublist List.filter_sublist h
theorem amR{N:List aB.D}(h:jy N){r t:aK}{id:Int}(hne:t≠r):cl (ins N t id) r=ins (cl N r) t id:=by
 unfold ins;rw [(yW t h).1,(yW t h).2,(yW t (wL h r)).1,(yW t (wL h r)).2];unfold cl;rw [List.filter_append,List.filter_append,List.filter_cons,List.filter_nil,List.filter_filter,List.filter_filter,List.filter_filter,List.filter_filter];have:bD t r=false:=by unfold bD;simpa using hne
 rw [this];simp only [Bool.not_false,if_true];congr 1
 ·congr 1;exact List.filter_congr fun d _=>Bool.and_comm _ _
 ·exact List.filter_congr fun d _=>Bool.and_comm _ _
theorem aaa{N:List aB.D}(h:jy N){t:aK}{id:Int}(hn:∀d,d∈N→d.1≠t):jy (ins N t id):=by
 unfold ins;rw [(yW t h).1,(yW t h).2];unfold jy;rw [List.append_assoc,List.pairwise_append];refine⟨List.Pairwise.sublist List.filter_sublist h,?_,fun a ha b hb=>?_⟩
 ·rw [List.singleton_append,List.pairwise_cons];refine⟨fun b hb=>?_,List.Pairwise.sublist List.filter_sublist h⟩;obtain ⟨h1,h2⟩:=List.mem_filter.1 hb;unfold ee at h2;rw [P' (hn b h1)];exact h2
 ·obtain ⟨h1,h2⟩:=List.mem_filter.1 ha;have h2:dG a.1 t=true:=h2;rcases List.mem_append.1 hb with hb | hb
  ·simp only [List.mem_singleton] at hb;subst hb;exact h2
  ·obtain ⟨h3,h4⟩:=List.mem_filter.1 hb;unfold ee at h4;refine BM h2 ?_;rw [P' (hn b h3)];exact h4
theorem IW{N:List aB.D}(h:jy N){d:aB.D}(ah:d∈N):dR N d.1=d.2.1:=by
 rw [look_eq]
 induction N with
 | nil=>simp at ah
 | cons e r ih=>
  obtain ⟨h1,h2⟩:=List.pairwise_cons.1 h;rw [BS];rcases List.mem_cons.1 ah with rfl | ah
  ·have:bD d.1 d.1=true:=by unfold bD;simp
   rw [this];rfl
  ·have:bD e.1 d.1=false:=by unfold bD;simpa using Iz (h1 d ah)
   rw [this];exact ih h2 ah
theorem amS{N:List aB.D}{s:aK} : ∀d,d∈cl N s→d.1≠s:=by intro d ah;have:=(List.mem_filter.1 ah).2;unfold bD at this;simpa using this
theorem tA{N:List aB.D}{s:aK}{d:aB.D}(h:d∈cl N s):d∈N:=(List.mem_filter.1 h).1
def dL(l:List aS)(ir:Nat)(cM:aK):List aS:=l.set ir (b_ (I J l ir) (cl (an (I J l ir)) cM))
def h_(l:List aS)(it:Nat)(ef:aK)(bI:Int):List aS:=l.set it (b_ (I J l it) (ins (an (I J l it)) ef bI))
def eU(l:List aS)(ir:Nat)(cM:aK)(it:Nat)(ef:aK)(bI:Int):List aS:=h_ (dL l ir cM) it ef bI
structure tB(l:List aS)(rd jV:Int)(ir it:Nat)(cM ef:aK)(bI:Int):Prop where
 st:aq 1000 l
 hr:bz l rd=some ir
 ht:bz l jV=some it
 tC:kindOf (I J l ir)=2
 Qx:kindOf (I J l it)=2
 LJ:jy (an (I J l ir))
 amT:jy (an (I J l it))
 look:dR (an (I J l ir)) cM=bI
 aab:bI≠0
 ex:(bz l bI).isSome=true
 no:∀d,d∈an (I J l it)→d.1≠ef
 ne:ir=it→cM≠ef
theorem tD(x:aS)(N:List aB.D):(b_ x N).1=x.1:=rfl
theorem B0{l:List aS}{i:Nat}(N:List aB.D)(hi:i<l.length)(id:Int):bz (l.set i (b_ (I J l i) N)) id=bz l id:=IM hi (tD _ N) id
theorem Qy{l:List aS}{ir:Nat}{cM:aK}(hi:ir<l.length)(id:Int):bz (dL l ir cM) id=bz l id:=B0 _ hi id
theorem aac{l:List aS}{it:Nat}{ef:aK}{bI:Int}(hi:it<l.length)(id:Int):bz (h_ l it ef bI) id=bz l id:=B0 _ hi id
theorem amU{l:List aS}{rd jV:Int}{ir it:Nat}{cM ef:aK}{bI:Int}(h:tB l rd jV ir it cM ef bI):dL (h_ l it ef bI) ir cM=eU l ir cM it ef bI:=by
 have hr:=(b5 h.hr).1;have ht:=(b5 h.ht).1;unfold eU dL h_;rw [jz ht,jz hr];by_cases he:it=ir
 ·subst he;rw [if_pos rfl,if_pos rfl,List.set_set,List.set_set,ky,ky,amR h.LJ (fun e=>h.ne rfl e.symm)];rfl
 ·rw [if_neg he,if_neg (fun e=>he e.symm),List.set_comm _ _ he]
theorem aad{l:List aS}{rd jV:Int}{ir it:Nat}{cM ef:aK}{bI:Int}(h:tB l rd jV ir it cM ef bI):aq 1001 (dL l ir cM)∧aq 1003 (eU l ir cM it ef bI):=by
 have hr:=(b5 h.hr).1;have ht:=(b5 h.ht).1;have h1:aq 1001 (dL l ir cM):=h.st.set (k:=1) hr rfl (fun d ah=>h.st.iV ir hr d (tA ah)) (fun hk=>absurd h.tC hk) (Nat.le_trans (wG _ _) (by omega)) (Nat.le_add_right _ _)
 have aI:kindOf (I J (dL l ir cM) it)=2∧(I J (dL l ir cM) it).1=jV:=by
  unfold dL;rw [jz hr];split
  ·rename_i he;exact⟨h.tC,by show(I J l ir).1=jV;rw [he];exact(b5 h.ht).2⟩
  ·exact⟨h.Qx,(b5 h.ht).2⟩
 have hex:∀id,(bz (dL l ir cM) id).isSome=(bz l id).isSome:=fun id=>by rw [Qy hr]
 refine⟨h1,(h1.set (k:=1) (i:=it) (y:=b_ (I J (dL l ir cM) it) (ins (an (I J (dL l ir cM) it)) ef bI)) (by unfold dL;rw [List.length_set];exact ht) rfl (fun d ah=>?_) (fun hk=>absurd aI.1 hk) (by rw [ky,yV];omega) (Nat.le_add_right _ _)).mono (by omega)⟩;rcases rS.1 ah with ah | rfl
 ·exact h1.iV it (by unfold dL;rw [List.length_set];exact ht) d ah
 ·rw [hex];exact h.ex
theorem amV(m:Nat)(a b d):(ju (m+1)).oW a b d=MR (ju m) a b d:=rfl
theorem amW(m:Nat)(a b d e):(ju (m+1)).mY a b d e=MQ (ju m) a b d e:=rfl
theorem amX(m:Nat)(a b d e):(ju (m+1)).dC a b d e=MP (ju m) a b d e:=rfl
theorem amY(m:Nat)(a b d):(ju (m+1)).dq a b d=MO (ju m) a b d:=rfl
theorem amZ(m:Nat)(a b d e f g):(gJ (m+1)).m3 a b d e f g=NU (gJ m) a b d e f g:=rfl
theorem am0(m:Nat)(a b d e f g h i):(gJ (m+1)).NQ a b d e f g h i=NV (gJ m) a b d e f g h i:=rfl
theorem am1(m:Nat)(a b d e f g h i):(gJ (m+1)).p8 a b d e f g h i=NT (gJ m) a b d e f g h i:=rfl
theorem am2(m:Nat)(a b d e f g h i):(gJ (m+1)).gZ a b d e f g h i=NS (gJ m) a b d e f g h i:=rfl
theorem am3(m:Nat)(a b d e f g):(gJ (m+1)).dq a b d e f g=NR (gJ m) a b d e f g:=rfl
theorem aae{n:Int}{l:List aS}(c:aL.D)(x:aG.D)(r t:a6.D){ir it:Nat}(h:tB l (cp r) (cp t) ir it (nameOf r) (nameOf t) (bA r))(m:Nat) :
  (ju (m+1)).oW ((n,l,()),c,x,()) r t=some (fc (eU l ir (nameOf r) it (nameOf t) (bA r)),((n,eU l ir (nameOf r) it (nameOf t) (bA r),()),c,x,()),()):=by
 have hr:=(b5 h.hr).1;have ht:=(b5 h.ht).1;obtain ⟨s1,s2⟩:=aad h;have iI:=h.st.len;have pD:=h.st.c6;have sk:=s1.len;have CP:=s1.c6;rw [amV];unfold MR;show Option.bind (oU (((n,l,()),c,x,()),cp r,nameOf r,false,())) _=_;rw [Qg (n,l,()) c x _ _ false (show l.length≤1048576 by omega) (show dE l≤1048576 by omega) h.hr];simp only [aw,cond_false];show Option.bind (sR (((n,dL l ir (nameOf r),()),c,x,()),cp t,nameOf t,bA r,())) _=_;have jC:bz (dL l ir (nameOf r)) (cp t)=some it:=by rw [Qy hr];exact h.ht
 rw [Qf (n,dL l ir (nameOf r),()) c x _ _ _ (show(dL l ir (nameOf r)).length≤1048576 by omega) jC (by
  have:=gk (l:=dL l ir (nameOf r)) (i:=it) (b5 jC).1;show(an (I J (dL l ir (nameOf r)) it)).length≤_
  omega)]
 simp only [aw];show Option.bind (nU (((n,eU l ir (nameOf r) it (nameOf t) (bA r),()),c,x,()),())) (fun v3=>some (v3.1,((n,eU l ir (nameOf r) it (nameOf t) (bA r),()),c,x,()),()))=_;rw [BQ (n,eU l ir (nameOf r) it (nameOf t) (bA r),()) c x s2 (by omega)];rfl
theorem aaf{n:Int}{l:List aS}(v:af.D)(z:af.D)(j4:aF.D)(r t:a6.D){ir it:Nat}(h:tB l (cp r) (cp t) ir it (nameOf r) (nameOf t) (bA r))(m:Nat) :
  (gJ (m+1)).m3 v z j4 r t (n,l,())=some (cond (fc (eU l ir (nameOf r) it (nameOf t) (bA r))==0) (n,eU l ir (nameOf r) it (nameOf t) (bA r),()) v,(fc (eU l ir (nameOf r) it (nameOf t) (bA r)),[],()),()):=by
 have hr:=(b5 h.hr).1;have ht:=(b5 h.ht).1;obtain ⟨s1,s2⟩:=aad h;have iI:=h.st.len;have pD:=h.st.c6;have sk:=gk ht;rw [amZ];unfold NU;show Option.bind (s5 ((n,l,()),cp t,nameOf t,bA r,())) _=_;rw [Qh (n,l,()) _ _ _ (show l.length≤1048576 by omega) h.ht (show(an (I J l it)).length≤1048576 by omega) h.no];simp only [aw];show Option.bind (o2 ((n,h_ l it (nameOf t) (bA r),()),cp r,nameOf r,())) _=_;have oc:I J (h_ l it (nameOf t) (bA r)) ir=if it=ir then b_ (I J l it) (ins (an (I J l it)) (nameOf t) (bA r)) else I J l ir:=by unfold h_;rw [jz ht]
 have aag:jy (an (I J (h_ l it (nameOf t) (bA r)) ir)):=by
  rw [oc];split
  ·rw [ky];exact aaa h.amT h.no
  ·exact h.LJ
 have bm:bz (h_ l it (nameOf t) (bA r)) (cp r)=some ir:=by rw [aac ht];exact h.hr
 have B1:(h_ l it (nameOf t) (bA r)).length≤1048576:=by unfold h_;rw [List.length_set];omega
 have am4:dE (h_ l it (nameOf t) (bA r))≤1048576:=by have:=IK (l:=l) (y:=b_ (I J l it) (ins (an (I J l it)) (nameOf t) (bA r))) ht;rw [ky,yV] at this;unfold h_;omega
 rw [Qk (n,h_ l it (nameOf t) (bA r),()) _ _ B1 am4 bm aag]
 have oa:dR (an (I J (h_ l it (nameOf t) (bA r)) ir)) (nameOf r)=bA r:=by
  obtain ⟨e,he,ZF,qT⟩:=rO (N:=an (I J l ir)) (s:=nameOf r) (by rw [h.look];exact h.aab)
  have am5:e∈an (I J (h_ l it (nameOf t) (bA r)) ir):=by
   rw [oc];split
   ·rename_i hh;rw [ky,hh];exact rS.2 (.inl he)
   ·exact he
  have:=IW aag am5;rw [ZF,qT,h.look] at this;exact this
 rw [show((n,h_ l it (nameOf t) (bA r),()):af.D).2.1=h_ l it (nameOf t) (bA r) from rfl,oa]
 have qq:goN ((h_ l it (nameOf t) (bA r)).set ir (b_ (I J (h_ l it (nameOf t) (bA r)) ir) (cl (an (I J (h_ l it (nameOf t) (bA r)) ir)) (nameOf r)))) (bA r)=eU l ir (nameOf r) it (nameOf t) (bA r):=by
  have hc:=amU h;unfold dL at hc;rw [hc];unfold goN;rw [decide_eq_false];rfl;intro h0;have d':it<(dL l ir (nameOf r)).length:=by unfold dL;rw [List.length_set];exact ht
  have jL:I J (eU l ir (nameOf r) it (nameOf t) (bA r)) it∈eU l ir (nameOf r) it (nameOf t) (bA r):=cR (by unfold eU h_;rw [List.length_set];exact d');refine Qj h0 _ jL (nameOf t,bA r,()) ?_ rfl;unfold eU h_;rw [jz d',if_pos rfl,ky];exact rS.2 (.inr rfl)
 rw [qq];simp only [aw];show Option.bind (rk (v,(n,eU l ir (nameOf r) it (nameOf t) (bA r),()),())) _=_;rw [BR v (n,eU l ir (nameOf r) it (nameOf t) (bA r),()) s2 (by omega)];rfl
def Qz(c:aL.D)(d n m:aS):Int:=
 cond (!qk c d m) 1 (cond (kindOf n==2) (cond (kindOf m != 2) 20 (cond (decide (((an m).length:Int)>0)) 39 0)) (cond (kindOf m==2) 21 0))
theorem am6(v:af.D)(c:aL.D)(x:aG.D)(n:aS)(t:a6.D)(hl:v.2.1.length≤1048576)(hc:dy c=true){i j:Nat}(hi:bz v.2.1 (cp t)=some i)(hj:bz v.2.1 (bA t)=some j) :
  Fi ((v,c,x,()),n,t,())=some (Qz c (I J v.2.1 i) n (I J v.2.1 j),()):=by
 show MN (v,c,x,()) n t=_;unfold MN Qz;rw [oR];show Option.bind (fS (v,bA t,())) _=_;rw [n6 v _ hl hj];simp only [aw,List.isEmpty_cons,Bool.not_false,cond_true];show Option.bind (fS (v,cp t,())) _=_;rw [n6 v _ hl hi];simp only [aw,List.isEmpty_cons,Bool.not_false,cond_true];show Option.bind (sS (c,I J v.2.1 i,I J v.2.1 j,())) _=_;rw [P5 c _ _ hc];simp only [aw];show cond (!qk c (I J v.2.1 i) (I J v.2.1 j)) _ (cond (kindOf n==2) (cond (!(kindOf (I J v.2.1 j)==2)) _ (cond (kindOf n==2) (cond (decide (((an (I J v.2.1 j)).length:Int)>0)) _ (cond (!(kindOf n==2)) (cond (kindOf (I J v.2.1 j)==2) _ _) _)) _)) (cond (kindOf n==2) _ (cond (!(kindOf n==2)) (cond (kindOf (I J v.2.1 j)==2) _ _) _)))=_;unfold bne;cases qk c (I J v.2.1 i) (I J v.2.1 j) <;> cases kindOf n==2 <;> cases kindOf (I J v.2.1 j)==2 <;> cases decide (((an (I J v.2.1 j)).length:Int)>0) <;> rfl
structure yX(v:af.D)(c:aL.D)(x:aG.D)(w:af.D):Prop where
 out:∃r t j,h7 v.2.1 r∧bO r=0∧nameOf r≠[]∧bz v.2.1 (bA r)=some j∧h7 v.2.1 t∧nameOf t≠[]∧(bO t=0∨bO t=2)∧(fg (v,c,fo x,false,())=some (r,())∧fg (v,c,iW x,false,())=some (t,())) ∧
  (bA t=bA r∧w=v∨bA t≠bA r∧(kindOf (I J v.2.1 j)=2→cp t≠bA r∧¬dY v.2.1 (bA r) (cp t)) ∧
   ∃l ir it,tB l (cp r) (cp t) ir it (nameOf r) (nameOf t) (bA r)∧w=(v.1,eU l ir (nameOf r) it (nameOf t) (bA r),())∧fc w.2.1=0 ∧
    ((bA t=0∧l=v.2.1∧(cp r≠cp t→(an (I J l it)).length<12)) ∨
     (∃i2 e_,bz v.2.1 (cp t)=some i2∧kindOf (I J v.2.1 i2)=2∧bz v.2.1 (bA t)=some e_∧an (I J v.2.1 e_)=[]∧dR (an (I J v.2.1 i2)) (nameOf t)=bA t∧(kindOf (I J v.2.1 j)=2↔kindOf (I J v.2.1 e_)=2)∧l=(k4 v i2 (nameOf t)).2.1)))
theorem aah{v:af.D}(hv:bW v){i2:Nat}(hi:i2<v.2.1.length)(hk:kindOf (I J v.2.1 i2)=2)(s:aK):aq 1000 (k4 v i2 s).2.1 ∧
  ∀id,id≠dR (an (I J v.2.1 i2)) s→∀k,bz v.2.1 id=some k→∃k',bz (k4 v i2 s).2.1 id=some k'∧I J (k4 v i2 s).2.1 k'=if i2=k then b_ (I J v.2.1 i2) (cl (an (I J v.2.1 i2)) s) else I J v.2.1 k:=by
 have hs1:aq 1000 (v.2.1.set i2 (b_ (I J v.2.1 i2) (cl (an (I J v.2.1 i2)) s))):=(hv.st.set (k:=0) (y:=b_ (I J v.2.1 i2) (cl (an (I J v.2.1 i2)) s)) hi rfl (fun d ah=>hv.iV i2 hi d (tA ah)) (fun h=>absurd hk h) (wG _ _) (Nat.le_refl _)).mono (by omega);refine⟨hs1.go _,fun id hne k cf=>?_⟩;obtain ⟨nm,im⟩:=b5 cf;show ∃k',bz (goN (v.2.1.set i2 (b_ (I J v.2.1 i2) (cl (an (I J v.2.1 i2)) s))) (dR (an (I J v.2.1 i2)) s)) id=some k'∧I J (goN (v.2.1.set i2 (b_ (I J v.2.1 i2) (cl (an (I J v.2.1 i2)) s))) (dR (an (I J v.2.1 i2)) s)) k'=_
 have aI:I J (v.2.1.set i2 (b_ (I J v.2.1 i2) (cl (an (I J v.2.1 i2)) s))) k=if i2=k then b_ (I J v.2.1 i2) (cl (an (I J v.2.1 i2)) s) else I J v.2.1 k:=jz hi
 have QA:bz (v.2.1.set i2 (b_ (I J v.2.1 i2) (cl (an (I J v.2.1 i2)) s))) id=some k:=by rw [B0 _ hi];exact cf
 rw [← aI];generalize v.2.1.set i2 (b_ (I J v.2.1 i2) (cl (an (I J v.2.1 i2)) s))=eb at hs1 QA;generalize dR (an (I J v.2.1 i2)) s=gone at hne;have qq:=hs1.go gone;unfold goN at qq ⊢;by_cases h0:cD eb gone=0
 ·rw [decide_eq_true h0] at qq ⊢;simp only [cond_true] at qq ⊢;obtain ⟨h1,h2⟩:=b5 QA;have hm:I J eb k∈eb.filter fun y=> !(y.1==gone):=List.mem_filter.2 ⟨cR h1,by rw [h2,Bool.not_eq_true',beq_eq_false_iff_ne];exact hne⟩
  obtain ⟨k',ew,he⟩:=fb hm;refine⟨k',?_,he⟩;have:=qq.iU k' ew;rwa [he,h2] at this
 ·rw [decide_eq_false h0];exact⟨k,QA,rfl⟩
theorem am7(v:af.D)(c:aL.D)(x:aG.D)(hv:bW v)(hc:dy c=true)(hx:iy x):bs v c x (Fk ((v,c,x,()),())) (G_ (v,c,x,())) (yX v c x):=by
 have cH:=hv.jA;have hl:v.2.1.length≤1048576:=cH.len;have av:=hx.path;have wK:=hx.tx;obtain ⟨q,hq,ij⟩:=iS 6;show bs v c x (Fj (ju aN) (v,c,x,())) (G9 (gJ aN) v c x) _;unfold Fj G9;obtain ⟨r,⟨hr,_⟩,BZ,fN⟩:=BN v c x (fo x) false cH hc (by omega);show bs v c x (Option.bind (ly ((v,c,x,()),fo x,false,())) _) (Option.bind (fg (v,c,fo x,false,())) _) _;rw [BZ,fN];simp only [aw];show bs v c x (cond (bO r != 0) (some (bO r,(v,c,x,()),())) _) (cond (bO r != 0) (some (v,(bO r,[],()),())) _) _;by_cases b6:bO r=0
 case neg=>rw [dj b6];exact bs.no (bO r) b6 rfl rfl (h7.rg ‹_›)
 rw [ed b6];simp only [cond_false];obtain ⟨t,⟨ht,_⟩,am8,IX⟩:=BN v c x (iW x) false cH hc (by omega);show bs v c x (Option.bind (ly ((v,c,x,()),iW x,false,())) _) (Option.bind (fg (v,c,iW x,false,())) _) _;rw [am8,IX];simp only [aw]
 show bs v c x (cond (bO t != 0) (cond (bO t != 2) (some (bO t,(v,c,x,()),())) (cond (bD (nameOf t) []) (some (bO t,(v,c,x,()),())) ((ju aN).dq (v,c,x,()) r t))) ((ju aN).dq (v,c,x,()) r t))
  (cond (bO t != 0) (cond (bO t != 2) (some (v,(bO t,[],()),())) (cond (bD (nameOf t) []) (some (v,(bO t,[],()),())) ((gJ aN).dq v c (0,([]:List J.D),()) (0,([]:aK),()) r t))) ((gJ aN).dq v c (0,([]:List J.D),()) (0,([]:aK),()) r t)) _
 by_cases kz:bO t≠0∧(bO t≠2∨nameOf t=[])
 ·rw [dj kz.1];by_cases h2:bO t=2
  ·have ka:nameOf t=[]:=kz.2.elim (fun h=>absurd h2 h) id;rw [ed h2,n_.2 ka];exact bs.no (bO t) kz.1 rfl rfl (h7.rg ‹_›)
  ·rw [dj h2];exact bs.no (bO t) kz.1 rfl rfl (h7.rg ‹_›)
 have QB:bO t=0∨bO t=2:=by
  by_cases h0:bO t=0
  ·exact .inl h0
  ·exact .inr (Decidable.byContradiction fun h=>kz ⟨h0,.inl h⟩)
 have qM:∀ {α : Type} (a b : α),cond (bO t != 0) (cond (bO t != 2) a (cond (bD (nameOf t) []) a b)) b=b:=by
  intro α a b;by_cases h0:bO t=0
  ·rw [ed h0];rfl
  ·rw [dj h0];have h2:bO t=2:=Decidable.byContradiction fun h=>kz ⟨h0,.inl h⟩
   rw [ed h2];have ka:bD (nameOf t) []=false:=by rw [← Bool.not_eq_true,n_];exact fun h=>kz ⟨h0,.inr h⟩
   rw [ka];rfl
 rw [qM,qM,hq,amY,am3];unfold MO NR;show bs v c x (cond (bD (nameOf r) []) _ (cond (bD (nameOf t) []) _ _)) (cond (bD (nameOf r) []) _ (cond (bD (nameOf t) []) _ _)) _
 cases aai:bD (nameOf r) [] with
 | true=>exact bs.no 16 (by decide) rfl rfl
 | false=>
 cases aaj:bD (nameOf t) [] with
 | true=>exact bs.no 16 (by decide) rfl rfl
 | false=>
 simp only [cond_false,oR];have qs:nameOf r≠[]:=fun h=>by rw [n_.2 h] at aai;cases aai
 have htn:nameOf t≠[]:=fun h=>by rw [n_.2 h] at aaj;cases aaj
 obtain ⟨j,hj⟩:=hr.there b6;have hjl:=b5 hj;obtain ⟨pf,arw,ic,pg,aak,wM⟩:=hr.named b6 qs;have am9:=b5 pg
 obtain ⟨gy,kA,tE,B2,rU⟩:∃d,bz v.2.1 (cp t)=some d∧kindOf (I J v.2.1 d)=2∧dR (an (I J v.2.1 d)) (nameOf t)=bA t∧(bA t=0∨∃e_,bz v.2.1 (bA t)=some e_):=by
  by_cases h0:bO t=0
  ·obtain ⟨a1,a2,d,a3,a4,a5⟩:=ht.named h0 htn;exact⟨d,a3,a4,a5,.inr (ht.there h0)⟩
  ·have h2:bO t=2:=Decidable.byContradiction fun h=>kz ⟨h0,.inl h⟩
   obtain ⟨a1,a2,d,a3,a4,a5⟩:=ht.new h2 htn;exact⟨d,a3,a4,by rw [a5,a1],.inl a1⟩
 have QC:=b5 kA;show bs v c x (Option.bind (fS (v,bA r,())) _) (Option.bind (fy (v,cp r,())) fun v1=>Option.bind (fy (v,cp t,())) fun v2=>Option.bind (fy (v,bA r,())) _) _;rw [n6 v _ hl hj,jR v _ hl pg,jR v _ hl kA,jR v _ hl hj];simp only [aw,List.isEmpty_cons,Bool.not_false,cond_true];rw [amX];unfold MP;show bs v c x (Option.bind (nT ((v,c,x,()),cp r,())) fun v1=>cond (!v1.1) _ (Option.bind (nT ((v,c,x,()),cp t,())) _)) _ _;rw [BW v c x _ hl hc pg,BW v c x _ hl hc kA,qj c _ 3 hc,qj c _ 3 hc];simp only [aw]
 cases may c (I J v.2.1 ic) 3 with
 | false=>exact bs.no 13 (by decide) rfl rfl
 | true=>
 simp only [Bool.not_true,cond_false]
 cases may c (I J v.2.1 gy) 3 with
 | false=>exact bs.no 13 (by decide) rfl rfl
 | true=>
 simp only [Bool.not_true,cond_false];show bs v c x (Option.bind (fS (v,cp r,())) _) _ _;rw [n6 v _ hl pg];simp only [aw,List.isEmpty_cons,Bool.not_false,cond_true];show bs v c x (Option.bind (sS (c,I J v.2.1 ic,I J v.2.1 j,())) _) _ _;rw [P5 c _ _ hc,P4 c _ _ hc];simp only [aw]
 cases qk c (I J v.2.1 ic) (I J v.2.1 j) with
 | false=>exact bs.no 1 (by decide) rfl rfl
 | true=>
 simp only [Bool.not_true,cond_false];obtain ⟨out,QD,am_⟩:=PY v hl cH.c6 (bA r);have am':=amI v (cp t) (bA r) hl cH.c6
 have ana:∀(K:Option (Int×aP.D×Unit)),cond ((I J v.2.1 j).2.1==2) (cond (t.1==r.2.2.1) (some (22,(v,c,x,()),())) (Option.bind (u6 (v,r.2.2.1,())) fun v5=>Option.bind (sJ (v5.1,t.1,())) fun v6=>cond v6.1 (some (22,(v,c,x,()),())) K)) K =
   cond (kindOf (I J v.2.1 j)==2&&ob v.2.1 (v.2.1.length+1) (cp t) (bA r)) (some (22,(v,c,x,()),())) K:=by
  intro K;show cond (kindOf (I J v.2.1 j)==2) (cond (cp t==bA r) (some (22,(v,c,x,()),())) (Option.bind (u6 (v,bA r,())) fun v5=>Option.bind (sJ (v5.1,cp t,())) fun v6=>cond v6.1 (some (22,(v,c,x,()),())) K)) K=_;cases kindOf (I J v.2.1 j)==2
  ·rfl
  ·simp only [cond_true,Bool.true_and];have pa:=Z_ hv (d:=cp t) ⟨gy,kA,tE⟩ (bA r);rw [am_];simp only [aw]
   rw [contains_eq _ _ (by
    have:=QD.len;have:=cH.c6
    omega)]
   simp only [aw];by_cases h1:cp t=bA r
   ·rw [cr h1,pa.2 (.inl h1)];rfl
   ·rw [bX h1];simp only [cond_false];by_cases hb:dY v.2.1 (bA r) (cp t)
    ·rw [pa.2 (.inr hb),decide_eq_true ((QD.iff _).2 hb)]
    ·have:ob v.2.1 (v.2.1.length+1) (cp t) (bA r)=false:=by
      rw [← Bool.not_eq_true];exact fun h=>(pa.1 h).elim h1 hb
     rw [this,decide_eq_false (fun h=>hb ((QD.iff _).1 h))]
 have anb:∀(K:Option (af.D×aF.D×Unit)),cond ((I J v.2.1 j).2.1==2) (Option.bind (Ba (v,t.1,r.2.2.1,())) fun bn=>cond bn.1 (some (v,(22,[],()),())) K) K =
   cond (kindOf (I J v.2.1 j)==2&&ob v.2.1 (v.2.1.length+1) (cp t) (bA r)) (some (v,(22,[],()),())) K:=by
  intro K;show cond (kindOf (I J v.2.1 j)==2) (Option.bind (Ba (v,cp t,bA r,())) _) K=_;rw [am'];cases kindOf (I J v.2.1 j)==2 <;> rfl
 rw [na];rw [ana,anb]
 cases rR:kindOf (I J v.2.1 j)==2&&ob v.2.1 (v.2.1.length+1) (cp t) (bA r) with
 | true=>exact bs.no 22 (by decide) rfl rfl
 | false=>
 simp only [cond_false];have mI:kindOf (I J v.2.1 j)=2→cp t≠bA r∧¬dY v.2.1 (bA r) (cp t):=by intro hk;rw [cr hk,Bool.true_and] at rR;have pa:=Z_ hv (d:=cp t) ⟨gy,kA,tE⟩ (bA r);exact⟨fun h=>(by rw [pa.2 (.inl h)] at rR;cases rR),fun h=>(by rw [pa.2 (.inr h)] at rR;cases rR)⟩
 rw [amW,am2];unfold MQ NS;rw [wC v hl (fun i hi=>Nat.le_trans (gk hi) cH.c6)];simp only [aw]
 show bs v c x (cond (bA t==bA r) (some (0,(v,c,x,()),())) (cond (!(bA t==0)) (Option.bind (Fi ((v,c,x,()),I J v.2.1 j,t,())) fun v1=>cond (v1.1 != 0) (some (v1.1,(v,c,x,()),())) (Option.bind (oU ((v,c,x,()),cp t,nameOf t,true,())) fun v2=>(ju (q+3)).oW v2.1 r t))
   (cond (!(cp r==cp t)) (Option.bind (fS (v,cp t,())) fun v3=>cond (!List.isEmpty v3.1) (cond (((an (I J v3.1 0)).length:Int)==12) (some (28,(v,c,x,()),())) ((ju (q+3)).oW (v,c,x,()) r t)) none) ((ju (q+3)).oW (v,c,x,()) r t))))
  (cond (decide (bA t>0)) (cond (bA t==bA r) (some (v,(0,[],()),())) (Option.bind (fy (v,bA t,())) fun v2=>Option.bind (yh (c,I J v.2.1 gy,v2.1,())) fun v3=>cond (!v3.1) (some (v,(1,[],()),())) (cond (kindOf (I J v.2.1 j)==2) (cond (kindOf v2.1 != 2) (some (v,(20,[],()),())) ((gJ (q+4)).p8 v (0,([]:List J.D),()) (0,([]:aK),()) r t (I J v.2.1 j) v v2.1)) ((gJ (q+4)).p8 v (0,([]:List J.D),()) (0,([]:aK),()) r t (I J v.2.1 j) v v2.1))))
   (cond (!(cp r==cp t)) (cond (decide (((an (I J v.2.1 gy)).length:Int)≥12)) (some (v,(28,[],()),())) ((gJ (q+4)).m3 v (0,([]:List J.D),()) (0,([]:aK),()) r t v)) ((gJ (q+4)).m3 v (0,([]:List J.D),()) (0,([]:aK),()) r t v))) _
 have arx:0<bA r:=by have h1:=hv.ids j hjl.1;have h2:bj (I J v.2.1 j)=bA r:=hjl.2;omega
 have aal:=hv.ino ic am9.1;have ma:=hv.ino gy QC.1;by_cases nD:bA t=bA r
 ·rw [cr nD,decide_eq_true (show bA t>0 by omega)];exact bs.yes 0 v (fun _=>⟨r,t,j,hr,b6,qs,hj,ht,htn,QB,⟨fN,IX⟩,.inl ⟨nD,rfl⟩⟩) rfl rfl
 rw [bX nD];simp only [cond_false]
 have hne:ic=gy→nameOf r≠nameOf t:=by
  rintro rfl he
  rw [he,B2] at wM;exact nD wM
 by_cases pL:bA t=0
 ·
  rw [cr pL,decide_eq_false (show ¬bA t>0 by omega)];simp only [Bool.not_true,cond_false]
  have hpre:tB v.2.1 (cp r) (cp t) ic gy (nameOf r) (nameOf t) (bA r):=
   ⟨hv.st.mono (by omega),pg,kA,aak,tE,aal.sorted,ma.sorted,wM,by omega,by rw [hj];rfl,BT (by rw [B2,pL]) fun e he=>hv.BU QC.1 he,hne⟩
  have hfin:(cp r≠cp t→(an (I J v.2.1 gy)).length<12)→bs v c x ((ju (q+3)).oW (v,c,x,()) r t) ((gJ (q+4)).m3 v (0,([]:List J.D),()) (0,([]:aK),()) r t v) (yX v c x):=by intro b2;have h1:=aae (n:=v.1) c x r t hpre (q+2);have h2:=aaf (n:=v.1) v (0,([]:List J.D),()) (0,([]:aK),()) r t hpre (q+3);exact bs.yes _ _ (fun h=>⟨r,t,j,hr,b6,qs,hj,ht,htn,QB,⟨fN,IX⟩,.inr ⟨nD,mI,v.2.1,ic,gy,hpre,rfl,h,.inl ⟨pL,rfl,b2⟩⟩⟩) h1 h2
  by_cases QE:cp r=cp t
  ·rw [cr QE];exact hfin fun h=>absurd QE h
  ·rw [bX QE];simp only [Bool.not_false,cond_true];rw [n6 v _ hl kA];simp only [aw,List.isEmpty_cons,Bool.not_false,cond_true];show bs v c x (cond (((an (I J v.2.1 gy)).length:Int)==12) _ _) _ _;have Z2:=(ma.dir tE).2.2.2;by_cases j5:(an (I J v.2.1 gy)).length=12
   ·rw [show(((an (I J v.2.1 gy)).length:Int)==12)=true by rw [j5];rfl,decide_eq_true (by omega)];exact bs.no 28 (by decide) rfl rfl
   ·rw [show(((an (I J v.2.1 gy)).length:Int)==12)=false by rw [beq_eq_false_iff_ne];omega,decide_eq_false (show ¬((an (I J v.2.1 gy)).length:Int)≥12 by omega)];exact hfin fun _=>by omega
 ·
  obtain ⟨e_,l_⟩:=rU.resolve_left pL;have QF:=b5 l_;have yS:0<bA t:=by have h1:=hv.ids e_ QF.1;have h2:bj (I J v.2.1 e_)=bA t:=QF.2;omega
  rw [bX pL,decide_eq_true (show bA t>0 from yS)];simp only [Bool.not_false,cond_true];rw [am6 v c x _ t hl hc kA l_,jR v _ hl l_];simp only [aw];rw [P4 c _ _ hc];simp only [aw];unfold Qz
  cases qk c (I J v.2.1 gy) (I J v.2.1 e_) with
  | false=>exact bs.no 1 (by decide) rfl rfl
  | true=>
  simp only [Bool.not_true,cond_false]
  have anc:(gJ (q+4)).p8 v (0,([]:List J.D),()) (0,([]:aK),()) r t (I J v.2.1 j) v (I J v.2.1 e_)=cond (kindOf (I J v.2.1 j)==2) (cond (decide (((an (I J v.2.1 e_)).length:Int)>0)) (some (v,(39,[],()),())) (Option.bind (o2 (v,cp t,nameOf t,())) fun v2=>(gJ (q+2)).m3 v (0,([]:List J.D),()) (0,([]:aK),()) r t v2.1))
    (cond (kindOf (I J v.2.1 e_)==2) (some (v,(21,[],()),())) (Option.bind (o2 (v,cp t,nameOf t,())) fun v2=>(gJ (q+2)).m3 v (0,([]:List J.D),()) (0,([]:aK),()) r t v2.1)):=by
   rw [am1];unfold NT;rw [am0];unfold NV;show cond (kindOf (I J v.2.1 j)==2) (cond (decide (((an (I J v.2.1 e_)).length:Int)>0)) _ (cond (!(kindOf (I J v.2.1 j)==2)) (cond (kindOf (I J v.2.1 e_)==2) _ _) _)) (cond (!(kindOf (I J v.2.1 j)==2)) (cond (kindOf (I J v.2.1 e_)==2) _ _) _)=_;cases kindOf (I J v.2.1 j)==2 <;> rfl
  rw [anc]
  have hfin:an (I J v.2.1 e_)=[]→(kindOf (I J v.2.1 j)=2↔kindOf (I J v.2.1 e_)=2)→bs v c x (Option.bind (oU ((v,c,x,()),cp t,nameOf t,true,())) fun v2=>(ju (q+3)).oW v2.1 r t) (Option.bind (o2 (v,cp t,nameOf t,())) fun v2=>(gJ (q+2)).m3 v (0,([]:List J.D),()) (0,([]:aK),()) r t v2.1) (yX v c x):=by
   intro nt hkk;rw [Qg v c x _ _ true hl cH.c6 kA,Qk v _ _ hl cH.c6 kA ma.sorted];simp only [aw,cond_true];obtain ⟨hst,IY⟩:=aah hv QC.1 tE (nameOf t);rw [B2] at IY;have ane:cp r≠bA t:=by intro he;rw [he,l_] at pg;have:e_=ic:=aZ pg;subst this;obtain ⟨e,h1,_,_⟩:=rO (N:=an (I J v.2.1 e_)) (s:=nameOf r) (by rw [wM];exact pf);rw [nt] at h1;simp at h1
   have anf:cp t≠bA t:=by intro he;rw [he,l_] at kA;have:e_=gy:=aZ kA;subst this;obtain ⟨e,h1,_,_⟩:=rO (N:=an (I J v.2.1 e_)) (s:=nameOf t) (by rw [B2];exact pL);rw [nt] at h1;simp at h1
   obtain ⟨ir,aam,oc⟩:=IY _ ane _ pg;obtain ⟨it,jC,od⟩:=IY _ anf _ kA;obtain ⟨ary,i',_⟩:=IY _ (Ne.symm nD) _ hj;rw [if_pos rfl] at od
   have ang:ir=it→ic=gy:=by
    rintro rfl
    have h1:=(b5 aam).2;have h2:=(b5 jC).2;rw [h1] at h2;rw [h2,kA] at pg;exact(aZ pg).symm
   have hpre:tB (k4 v gy (nameOf t)).2.1 (cp r) (cp t) ir it (nameOf r) (nameOf t) (bA r):=by
    refine⟨hst,aam,jC,?_,?_,?_,?_,?_,by omega,by rw [i'];rfl,?_,fun e=>hne (ang e)⟩
    ·rw [oc];split
     ·exact tE
     ·exact aak
    ·rw [od];exact tE
    ·rw [oc];split
     ·rw [ky];exact wL ma.sorted _
     ·exact aal.sorted
    ·rw [od,ky];exact wL ma.sorted _
    ·rw [oc];split
     ·rename_i he;subst he;rw [ky];obtain ⟨e,h1,h2,h3⟩:=rO (N:=an (I J v.2.1 gy)) (s:=nameOf r) (by rw [wM];exact pf);have hm:e∈cl (an (I J v.2.1 gy)) (nameOf t):=List.mem_filter.2 ⟨h1,by unfold bD;rw [h2];simpa using hne rfl⟩;have:=IW (wL ma.sorted (nameOf t)) hm;rw [h2,h3,wM] at this;exact this
     ·exact wM
    ·rw [od,ky];exact amS
   show bs v c x ((ju (q+3)).oW ((v.1,(k4 v gy (nameOf t)).2.1,()),c,x,()) r t) ((gJ (q+2)).m3 v (0,([]:List J.D),()) (0,([]:aK),()) r t (v.1,(k4 v gy (nameOf t)).2.1,())) _;have h1:=aae (n:=v.1) c x r t hpre (q+2);have h2:=aaf (n:=v.1) v (0,([]:List J.D),()) (0,([]:aK),()) r t hpre (q+1);exact bs.yes _ _ (fun h=>⟨r,t,j,hr,b6,qs,hj,ht,htn,QB,⟨fN,IX⟩,.inr ⟨nD,mI,_,ir,it,hpre,rfl,h,.inr ⟨gy,e_,kA,tE,l_,nt,B2,hkk,rfl⟩⟩⟩) h1 h2
  by_cases hk:kindOf (I J v.2.1 j)=2
  ·rw [cr hk];simp only [cond_true];by_cases hk2:kindOf (I J v.2.1 e_)=2
   ·rw [ed hk2];simp only [cond_false];by_cases nt:an (I J v.2.1 e_)=[]
    ·rw [nt,show decide ((([]:List aB.D).length:Int)>0)=false from rfl];exact hfin nt ⟨fun _=>hk2,fun _=>hk⟩
    ·have amF:0<(an (I J v.2.1 e_)).length:=List.length_pos_iff.2 nt;rw [decide_eq_true (by omega)];exact bs.no 39 (by decide) rfl rfl
   ·rw [dj hk2];exact bs.no 20 (by decide) rfl rfl
  ·rw [bX hk];simp only [cond_false];by_cases hk2:kindOf (I J v.2.1 e_)=2
   ·rw [cr hk2];exact bs.no 21 (by decide) rfl rfl
   ·rw [bX hk2];exact hfin ((hv.ino e_ QF.1).plain hk2).2.2 ⟨fun h=>absurd h hk,fun h=>absurd h hk2⟩
theorem tF(v:af.D)(c:aL.D)(x:aG.D)(cc:Bool)(hw:rN v.2.1)(hc:dy c=true)(av:(fo x).length≤1048576) :
  ∃r,tv cc v.2.1 r∧fg (v,c,fo x,cc,())=some (r,())∧(bO r≠0→mZ ((v,c,x,()),cc,())=some (-1,bO r,(v,c,x,()),())) ∧
   (bO r=0→∃i,bz v.2.1 (bA r)=some i∧mZ ((v,c,x,()),cc,())=some ((i:Int),0,(v,c,x,()),())):=by
 obtain ⟨r,h1,h2,h3⟩:=BN v c x (fo x) cc hw hc av;have fa:mZ ((v,c,x,()),cc,())=cond (bO r != 0) (some (-1,bO r,(v,c,x,()),())) (Option.bind (x3 (v,bA r,())) fun v2=>some (v2.1,0,(v2.2.1,c,x,()),())):=by show MS (v,c,x,()) cc=_;unfold MS;show Option.bind (ly ((v,c,x,()),fo x,cc,())) _=_;rw [h2];rfl
 refine⟨r,h1,h3,fun h0=>by rw [fa,dj h0];rfl,fun h0=>?_⟩;obtain ⟨i,hi⟩:=h1.1.there h0;refine⟨i,hi,?_⟩;rw [fa,ed h0,P6 v _ hw.len,hi];rfl
def hd(n:Nat):aK:=List.replicate n 0
def k5(s:aK)(n:Nat):aK:=(s++hd (n-s.length)).take n
def lK(s:aK)(at_:Nat)(d:aK):aK:=k5 s at_++d++s.drop (at_+d.length)
theorem qu(s:aK)(n:Nat):(k5 s n).length=n:=by unfold k5 hd;rw [List.length_take,List.length_append,List.length_replicate];omega
theorem aan:∀n,Lib.repeatL [0] n=hd n
 | 0=>rfl
 | n+1=>by rw [Lib.repeatL,aan n];rfl
theorem anh(s:aK)(n:Nat)(hs:s.length≤1048576)(hn:n≤1048576):Fm (s,(n:Int),())=some (k5 s n,()):=by
 show MU s (n:Int)=_;unfold MU k5;by_cases h:n≤s.length
 ·rw [decide_eq_true (show(s.length:Int)≥(n:Int) by omega)];simp only [cond_true];show Option.bind (eh s.length ((0:Nat):Int) (n:Int)) _=_;rw [jD (by omega) h];simp only [aw,Nat.sub_zero];rw [tm,show n-s.length=0 by omega];simp [hd]
 ·rw [decide_eq_false (show ¬(s.length:Int)≥(n:Int) by omega)];simp only [cond_false];show Option.bind (repF [0] (aH ((n:Int)-(s.length:Int)))) _=_;rw [show aH ((n:Int)-(s.length:Int))=((n-s.length:Nat):Int) by rw [cT (by omega) (by omega)];omega];unfold repF;rw [if_pos ⟨by omega,by omega,by simp;omega⟩,Int.toNat_natCast,aan];simp only [aw];rw [b7 (by unfold hd;rw [List.length_replicate];omega)];simp only [cond_true];rw [List.take_of_length_le (by unfold hd;rw [List.length_append,List.length_replicate];omega)]
theorem aao(t:aK):gP (eI t)=t:=by
 unfold gP eI;rw [List.map_map]
 conv=>rhs;rw [← List.map_id t]
 refine List.map_congr_left fun b _=>?_
 simp
theorem IZ(t:aK):(eI t).length=t.length:=by unfold eI;simp
theorem ani(t:aK):eI t++[0]=eI (t++[0]):=by unfold eI;simp
theorem anj(t:aK)(i:Nat)(b:UInt8):(eI t).set i (b.toNat:Int)=eI (t.set i b):=by unfold eI;rw [List.map_set]
theorem aap(s:aK)(at_:Nat)(d:aK)(hs:s.length≤1048576)(ha:at_≤1048576)(ah:d.length≤1048576) :
  s8 (s,(at_:Int),d,())=some ((s++hd (at_+d.length-s.length)).take at_++d++(s++hd (at_+d.length-s.length)).drop (at_+d.length),()):=by
 show G' (nY aN) s (at_:Int) d=_;unfold G';have hw:aH ((at_:Int) +(d.length:Int))=((at_+d.length:Nat):Int):=by rw [cT (by omega) (by omega)];omega
 generalize ht:s++hd (at_+d.length-s.length)=t;have mF:at_+d.length≤t.length∧t.length≤4194304:=by rw [← ht];unfold hd;rw [List.length_append,List.length_replicate];omega
 have a':∀(r i:Nat),i+r=d.length→b8 (fun m=>(nY m).bx (at_:Int) d (i:Int) (eI (t.take at_++d.take i++t.drop (at_+i)))) (r+1) (some (t.take at_++d++t.drop (at_+d.length),())):=by
  intro r
  induction r with
  | zero=>
   intro i hi;refine b8.now 1 fun m=>?_
   show Bc (nY m) _ _ _ _=_;unfold Bc;rw [cA (by omega)];simp only [cond_false];rw [aao,show i=d.length by omega,List.take_length]
  | succ r ih=>
   intro i hi;have b2:i<d.length:=by omega
   refine((ih (i+1) (by omega)).jump (f:=fun m=>(nY m).bx (at_:Int) d (i:Int) (eI (t.take at_++d.take i++t.drop (at_+i)))) 1 fun m=>?_).mono (by omega);show Bc (nY m) _ _ _ _=_;unfold Bc;rw [b9 b2,bu b2];simp only [cond_true,aw];have B1:(t.take at_++d.take i).length=at_+i:=by rw [List.length_append,List.length_take,List.length_take];omega
   have hlen:at_+i<(eI (t.take at_++d.take i++t.drop (at_+i))).length:=by rw [IZ,List.length_append,B1,List.length_drop];omega
   rw [show aH ((at_:Int) +(i:Int))=((at_+i:Nat):Int) by rw [cT (by omega) (by omega)];omega,bu hlen];simp only [aw,Nat.zero_add];unfold VV;rw [dv i (by omega),anj];congr 2;rw [yU (show at_+i<t.length by omega),List.set_append_right _ _ (by rw [B1];omega),B1,Nat.sub_self,List.set_cons_zero,List.take_succ_eq_append_getElem b2,List.getD_eq_getElem?_getD,List.getElem?_eq_getElem b2,show at_ +(i+1)=at_+i+1 by omega];simp only [List.append_assoc,List.singleton_append,List.cons_append,List.nil_append,Option.getD_some]
 have h2:∀(r k:Nat),k+r=at_+d.length-s.length→b8 (fun m=>(nY m).k2 (at_:Int) d (eI (s++hd k))) (r+d.length+3) (some (t.take at_++d++t.drop (at_+d.length),())):=by
  intro r
  induction r with
  | zero=>
   intro k hk;have hk:k=at_+d.length-s.length:=by omega
   subst hk;rw [ht];have:=a' d.length 0 (by omega);rw [List.take_zero,List.append_nil,Nat.add_zero,List.take_append_drop] at this;refine(this.jump (f:=fun m=>(nY m).k2 (at_:Int) d (eI t)) 1 fun m=>?_).mono (by omega);show Bb (nY m) _ _ _=_;unfold Bb;rw [hw,IZ,cA (by omega)];rfl
  | succ r ih=>
   intro k hk;refine((ih (k+1) (by omega)).jump (f:=fun m=>(nY m).k2 (at_:Int) d (eI (s++hd k))) 1 fun m=>?_).mono (by omega);show Bb (nY m) _ _ _=_;unfold Bb;have hl:(eI (s++hd k)).length=s.length+k:=by rw [IZ,List.length_append];unfold hd;rw [List.length_replicate]
   rw [hw,b9 (by rw [hl];omega)];simp only [cond_true];rw [b7 (by rw [hl];simp only [List.length_cons,List.length_nil];omega)];simp only [cond_true];rw [ani,List.append_assoc];have:hd k++[0]=hd (k+1):=by unfold hd;rw [List.replicate_succ']
   rw [this]
 have:=h2 (at_+d.length-s.length) 0 (by omega);rw [show hd 0=[] from rfl,List.append_nil] at this;exact lH this (by omega)
theorem put_eq(s:aK)(at_:Nat)(d:aK):(s++hd (at_+d.length-s.length)).take at_++d++(s++hd (at_+d.length-s.length)).drop (at_+d.length)=lK s at_ d:=by
 unfold lK k5;congr 1
 ·congr 1;rw [List.take_append,List.take_append];congr 1;unfold hd;rw [List.take_replicate,List.take_replicate];congr 1;omega
 ·rw [List.drop_append];have:(hd (at_+d.length-s.length)).drop (at_+d.length-s.length)=[]:=List.drop_of_length_le (by unfold hd;rw [List.length_replicate];omega);rw [this,List.append_nil]
theorem ank(s:aK)(at_:Nat):((s++hd (at_ +([]:aK).length-s.length)).take at_++([]:aK)++(s++hd (at_ +([]:aK).length-s.length)).drop (at_ +([]:aK).length)).take at_=k5 s at_:=by rw [put_eq];unfold lK;rw [List.append_nil,List.take_append_of_le_length (by rw [qu];omega),List.take_of_length_le (by rw [qu];omega)]
def oe(x:aS)(d:aK):aS:=(x.1,x.2.1,x.2.2.1,x.2.2.2.1,x.2.2.2.2.1,d,x.2.2.2.2.2.2.1,x.2.2.2.2.2.2.2.1,x.2.2.2.2.2.2.2.2.1,())
def eC(x:aG.D)(n:aS):Int:=if aD x=6 then((bT n).length:Int) else bU x
def iX(x:aG.D)(n:aS):aK:=if aD x=7 then k5 (bT n) (bU x).toNat else lK (bT n) (eC x n).toNat (dK x)
structure yY(v:af.D)(c:aL.D)(x:aG.D)(w:af.D):Prop where
 out:∃r i,h7 v.2.1 r∧bO r=0∧bz v.2.1 (bA r)=some i∧kindOf (I J v.2.1 i)≠2∧kindOf (I J v.2.1 i)≠3∧may c (I J v.2.1 i) 2=true∧0≤eC x (I J v.2.1 i)∧fg (v,c,fo x,true,())=some (r,()) ∧
  ((aD x≠7∧dK x=[]∧w=v)∨((aD x≠7→dK x≠[])∧eC x (I J v.2.1 i) +(dK x).length≤64∧w=(v.1,v.2.1.set i (oe (I J v.2.1 i) (iX x (I J v.2.1 i))),())∧fc w.2.1=0))
theorem aaq(v:af.D)(c:aL.D)(x:aG.D)(want:Int)(hw:rN v.2.1)(hc:dy c=true)(av:(fo x).length≤1048576) :
  ∃r,tv true v.2.1 r∧fg (v,c,fo x,true,())=some (r,())∧(bO r≠0→AA ((v,c,x,()),want,())=some (-1,bO r,(v,c,x,()),())) ∧
   (bO r=0→∃i,bz v.2.1 (bA r)=some i∧AA ((v,c,x,()),want,())=cond (kindOf (I J v.2.1 i)==2) (some (-1,21,(v,c,x,()),())) (cond (!may c (I J v.2.1 i) want) (some (-1,13,(v,c,x,()),())) (some ((i:Int),0,(v,c,x,()),())))):=by
 obtain ⟨r,h1,h2,h3,h4⟩:=tF v c x true hw hc av;refine⟨r,h1,h2,fun h0=>?_,fun h0=>?_⟩
 ·show Az (v,c,x,()) want=_;unfold Az;rw [h3 h0];simp only [aw];rw [dj h0];rfl
 ·obtain ⟨i,hi,a'⟩:=h4 h0;refine⟨i,hi,?_⟩;show Az (v,c,x,()) want=_;unfold Az;rw [a'];simp only [aw];rw [show((0:Int) != 0)=false from rfl];simp only [cond_false];rw [bu (b5 hi).1];simp only [aw];rw [BI c _ want hc];rfl
theorem anl(m:Nat)(a b d):(gI (m+1)).dq a b d=MV (gI m) a b d:=rfl
theorem anm(m:Nat)(a b d):(gI (m+1)).cL a b d=MW (gI m) a b d:=rfl
theorem ann(m:Nat)(a b d):(gI (m+1)).gZ a b d=MX (gI m) a b d:=rfl
theorem ano(m:Nat)(a b d e f g):(ku (m+1)).fl a b d e f g=NW (ku m) a b d e f g:=rfl
theorem anp(m:Nat)(a b d e):(ku (m+1)).h5 a b d e=NX (ku m) a b d e:=rfl
theorem bW.fW{v:af.D}(h:bW v){i:Nat}(hi:i<v.2.1.length):(bT (I J v.2.1 i)).length≤64:=by
 have:=h.ino i hi;rcases this.kind with k | k | k
 ·exact this.file k
 ·rw [(this.dir k).1];simp
 ·have:=Qc (this.n7 k).1;omega
theorem anq(v:af.D)(c:aL.D)(x:aG.D)(hv:bW v)(hc:dy c=true)(hx:iy x)(hk:aD x=5∨aD x=6∨aD x=7):bs v c x (Fp ((v,c,x,()),())) (yj (v,c,x,())) (yY v c x):=by
 have cH:=hv.jA;have hl:v.2.1.length≤1048576:=cH.len;have av:=hx.path;have arz:=hx.fW;have mI:=hx.n;obtain ⟨q,hq,ij⟩:=iS 4;show bs v c x (Fo (gI aN) (v,c,x,())) (Ha (ku aN) v c x) _;unfold Fo Ha;obtain ⟨r,⟨hr,yZ⟩,fN,kB,kC⟩:=aaq v c x 2 cH hc (by omega);show bs v c x _ (Option.bind (fg (v,c,fo x,true,())) _) _;rw [fN];simp only [aw];show bs v c x _ (cond (bO r != 0) (some (v,(bO r,[],()),())) _) _;by_cases b6:bO r=0
 case neg=>rw [kB b6,dj b6];simp only [aw];rw [dj b6];exact bs.no (bO r) b6 rfl rfl (h7.rg ‹_›)
 obtain ⟨i,hi,fa⟩:=kC b6;have bm:=b5 hi;rw [fa,ed b6];simp only [cond_false];show bs v c x _ (Option.bind (fy (v,bA r,())) _) _;rw [jR v _ hl hi];simp only [aw];show bs v c x _ (cond (kindOf (I J v.2.1 i)==2) _ _) _;by_cases im:kindOf (I J v.2.1 i)=2
 ·rw [cr im];exact bs.no 21 (by decide) rfl rfl
 rw [bX im];simp only [cond_false];rw [qj c _ 2 hc];simp only [aw]
 cases hm:may c (I J v.2.1 i) 2 with
 | false=>exact bs.no 13 (by decide) rfl rfl
 | true=>
 simp only [Bool.not_true,cond_false,aw];rw [show((0:Int) != 0)=false from rfl];simp only [cond_false];have arA:=hv.fW bm.1
 have anr:cond (x.1==6) ((aM v.2.1.length (i:Int)).bind fun v2=>(gI aN).dq (i:Int) ((I J v.2.1 v2).2.2.2.2.2.1.length:Int) (v,c,x,())) ((gI aN).dq (i:Int) x.2.2.2.1 (v,c,x,()))=(gI aN).dq (i:Int) (eC x (I J v.2.1 i)) (v,c,x,()):=by
  rw [bu bm.1];unfold eC;show cond (aD x==6) _ _=_;by_cases br:aD x=6
  ·rw [cr br,if_pos br];rfl
  ·rw [bX br,if_neg br];rfl
 have ans:cond (x.1==6) ((ku aN).fl ((I J v.2.1 i).2.2.2.2.2.1.length:Int) v x (0,([]:List J.D),()) (0,([]:aK),()) (I J v.2.1 i)) ((ku aN).fl x.2.2.2.1 v x (0,([]:List J.D),()) (0,([]:aK),()) (I J v.2.1 i))=(ku aN).fl (eC x (I J v.2.1 i)) v x (0,([]:List J.D),()) (0,([]:aK),()) (I J v.2.1 i):=by
  unfold eC;show cond (aD x==6) _ _=_;by_cases br:aD x=6
  ·rw [cr br,if_pos br];rfl
  ·rw [bX br,if_neg br];rfl
 show bs v c x (cond (x.1==6) ((aM v.2.1.length (i:Int)).bind fun v2=>(gI aN).dq (i:Int) ((I J v.2.1 v2).2.2.2.2.2.1.length:Int) (v,c,x,())) ((gI aN).dq (i:Int) x.2.2.2.1 (v,c,x,())))
  (cond (x.1==6) ((ku aN).fl ((I J v.2.1 i).2.2.2.2.2.1.length:Int) v x (0,([]:List J.D),()) (0,([]:aK),()) (I J v.2.1 i)) ((ku aN).fl x.2.2.2.1 v x (0,([]:List J.D),()) (0,([]:aK),()) (I J v.2.1 i))) _
 rw [anr,ans,hq,anl,ano];unfold MV NW;by_cases sn:eC x (I J v.2.1 i)<0
 ·rw [decide_eq_true sn];exact bs.no 22 (by decide) rfl rfl
 rw [decide_eq_false sn];simp only [cond_false];obtain ⟨a,ha⟩:∃a:Nat,eC x (I J v.2.1 i)=a:=⟨(eC x (I J v.2.1 i)).toNat,by omega⟩
 have arB:a≤1000000:=by
  have:eC x (I J v.2.1 i)≤1000000:=by
   unfold eC;split
   ·omega
   ·exact mI.2
  omega
 show bs v c x (cond (!(aD x==7)) (cond (bD (dK x) []) (some (0,(v,c,x,()),())) ((gI (q+3)).cL (i:Int) (eC x (I J v.2.1 i)) (v,c,x,()))) ((gI (q+3)).cL (i:Int) (eC x (I J v.2.1 i)) (v,c,x,())))
  (cond (aD x==7) (cond (decide (eC x (I J v.2.1 i)>64)) (some (v,(27,[],()),())) (Option.bind (s8 (bT (I J v.2.1 i),eC x (I J v.2.1 i),[],())) fun v1=>Option.bind (eh v1.1.length 0 (eC x (I J v.2.1 i))) fun v2=>(ku (q+3)).h5 v (0,([]:List J.D),()) (0,([]:aK),()) (oe (I J v.2.1 i) (part v1.1 v2.1 (v2.2-v2.1)))))
   (cond (bD (dK x) []) (some (v,(0,[],()),())) (cond (decide (eC x (I J v.2.1 i)>aH (64-((dK x).length:Int)))) (some (v,(27,[],()),())) (Option.bind (s8 (bT (I J v.2.1 i),eC x (I J v.2.1 i),dK x,())) fun v3=>(ku (q+3)).h5 v (0,([]:List J.D),()) (0,([]:aK),()) (oe (I J v.2.1 i) v3.1))))) _
 have QG:aD x≠7→dK x=[]→yY v c x v:=fun bL ah=>⟨r,i,hr,b6,hi,im,yZ rfl b6 i hi,hm,by omega,fN,.inl ⟨bL,ah,rfl⟩⟩
 by_cases tG:aD x≠7∧dK x=[]
 ·rw [bX tG.1,n_.2 tG.2];exact bs.yes 0 v (fun _=>QG tG.1 tG.2) rfl rfl
 have ant:cond (!(aD x==7)) (cond (bD (dK x) []) (some (0,(v,c,x,()),())) ((gI (q+3)).cL (i:Int) (eC x (I J v.2.1 i)) (v,c,x,()))) ((gI (q+3)).cL (i:Int) (eC x (I J v.2.1 i)) (v,c,x,()))=(gI (q+3)).cL (i:Int) (eC x (I J v.2.1 i)) (v,c,x,()):=by
  by_cases bL:aD x=7
  ·rw [cr bL];rfl
  ·rw [bX bL];have:bD (dK x) []=false:=by rw [← Bool.not_eq_true,n_];exact fun h=>tG ⟨bL,h⟩
   rw [this];rfl
 rw [ant,anm];unfold MW;show bs v c x (cond (decide (aH (eC x (I J v.2.1 i) +((dK x).length:Int))>64)) _ _) _ _;have aar:aD x=7→dK x=[]:=fun bL=>hx.ZZ.elim id fun h=>by omega
 have anu:aH (eC x (I J v.2.1 i) +((dK x).length:Int))=((a +(dK x).length:Nat):Int):=by rw [ha,cT (by omega) (by omega)];omega
 rw [anu];by_cases I0:a +(dK x).length>64
 ·rw [decide_eq_true (by omega)]
  have:cond (aD x==7) (cond (decide (eC x (I J v.2.1 i)>64)) (some (v,((27:Int),([]:aK),()),())) (Option.bind (s8 (bT (I J v.2.1 i),eC x (I J v.2.1 i),[],())) fun v1=>Option.bind (eh v1.1.length 0 (eC x (I J v.2.1 i))) fun v2=>(ku (q+3)).h5 v (0,([]:List J.D),()) (0,([]:aK),()) (oe (I J v.2.1 i) (part v1.1 v2.1 (v2.2-v2.1)))))
   (cond (bD (dK x) []) (some (v,(0,[],()),())) (cond (decide (eC x (I J v.2.1 i)>aH (64-((dK x).length:Int)))) (some (v,(27,[],()),())) (Option.bind (s8 (bT (I J v.2.1 i),eC x (I J v.2.1 i),dK x,())) fun v3=>(ku (q+3)).h5 v (0,([]:List J.D),()) (0,([]:aK),()) (oe (I J v.2.1 i) v3.1))))=some (v,(27,[],()),()):=by
   by_cases bL:aD x=7
   ·have h0:=aar bL;rw [h0] at I0;simp only [List.length_nil] at I0;rw [cr bL,decide_eq_true (show eC x (I J v.2.1 i)>64 by omega)];rfl
   ·rw [bX bL];have h0:bD (dK x) []=false:=by rw [← Bool.not_eq_true,n_];exact fun h=>tG ⟨bL,h⟩
    rw [h0,show aH (64-((dK x).length:Int))=64-((dK x).length:Int) from cT (by omega) (by omega),decide_eq_true (show eC x (I J v.2.1 i)>64-((dK x).length:Int) by omega)];rfl
  rw [this];exact bs.no 27 (by decide) rfl rfl
 rw [decide_eq_false (by omega)];simp only [cond_false];obtain ⟨w,hw⟩:∃w:af.D,w=(v.1,v.2.1.set i (oe (I J v.2.1 i) (iX x (I J v.2.1 i))),()):=⟨_,rfl⟩
 have hnl:(iX x (I J v.2.1 i)).length≤200:=by
  have hf:∀s n,(k5 s n).length=n:=qu
  unfold iX lK;rw [ha,Int.toNat_natCast];split
  ·rename_i bL;have:eC x (I J v.2.1 i)=bU x:=by unfold eC;rw [if_neg (by omega)]
   rw [hf];omega
  ·rw [List.length_append,List.length_append,hf,List.length_drop];omega
 have hst:aq 1000 w.2.1:=by
  rw [hw]
  exact(hv.st.set (k:=200) (i:=i) (y:=oe (I J v.2.1 i) (iX x (I J v.2.1 i))) bm.1 rfl (fun d ah=>hv.iV i bm.1 d ah) (fun ew=>hv.st.bare i bm.1 ew) (Nat.le_add_right _ _) (by
   show(iX x (I J v.2.1 i)).length≤_
   omega)).mono (by omega)
 have hwr:fc w.2.1=0→yY v c x w:=fun hf=>⟨r,i,hr,b6,hi,im,yZ rfl b6 i hi,hm,by omega,fN,.inr ⟨fun bL h=>tG ⟨bL,h⟩,by omega,hw,hf⟩⟩
 have BX:∀m,(gI (m+1)).gZ (i:Int) (iX x (I J v.2.1 i)) (v,c,x,())=some (fc w.2.1,(w,c,x,()),()):=by intro m;rw [ann];unfold MX;show Option.bind (aM v.2.1.length (i:Int)) _=_;rw [bu bm.1];show Option.bind (nU (((v.1,v.2.1.set i (oe (I J v.2.1 i) (iX x (I J v.2.1 i))),()),c,x,()),())) (fun v3=>some (v3.1,((v.1,v.2.1.set i (oe (I J v.2.1 i) (iX x (I J v.2.1 i))),()),c,x,()),()))=_;rw [← hw,BQ w c x hst (by omega)];rfl
 have aas:∀m,(ku (m+1)).h5 v (0,([]:List J.D),()) (0,([]:aK),()) (oe (I J v.2.1 i) (iX x (I J v.2.1 i)))=some (cond (fc w.2.1==0) w v,(fc w.2.1,[],()),()):=by intro m;rw [anp];unfold NX;rw [wC v hl (fun i hi=>Nat.le_trans (gk hi) cH.c6)];simp only [aw];rw [IL v _ hl (show bz v.2.1 (oe (I J v.2.1 i) (iX x (I J v.2.1 i))).1=some i from(show(I J v.2.1 i).1=bA r from bm.2) ▸ hi),← hw];simp only [aw];rw [BR v w hst (by omega)];rfl
 have anv:(cond (decide (((bT (I J v.2.1 i)).length:Int) >((k5 (bT (I J v.2.1 i)) a++dK x).length:Int)))
   ((eh (bT (I J v.2.1 i)).length ((k5 (bT (I J v.2.1 i)) a++dK x).length:Int) ((bT (I J v.2.1 i)).length:Int)).bind fun v5=>cond (room ((k5 (bT (I J v.2.1 i)) a++dK x).length +(part (bT (I J v.2.1 i)) v5.1 (v5.2-v5.1)).length))
    ((gI (q+2)).gZ (i:Int) ((k5 (bT (I J v.2.1 i)) a++dK x)++part (bT (I J v.2.1 i)) v5.1 (v5.2-v5.1)) (v,c,x,())) none)
   ((gI (q+2)).gZ (i:Int) (k5 (bT (I J v.2.1 i)) a++dK x) (v,c,x,())))=(gI (q+2)).gZ (i:Int) (lK (bT (I J v.2.1 i)) a (dK x)) (v,c,x,()):=by
  have ik:(k5 (bT (I J v.2.1 i)) a++dK x).length=a +(dK x).length:=by rw [List.length_append,qu]
  rw [ik];unfold lK;by_cases od:(bT (I J v.2.1 i)).length>a +(dK x).length
  ·rw [decide_eq_true (by omega)];simp only [cond_true];rw [jD (by omega) (Nat.le_refl _)];simp only [aw];rw [Bz,b7 (by rw [List.length_drop];omega)];rfl
  ·rw [decide_eq_false (by omega)];simp only [cond_false];rw [List.drop_of_length_le (by omega),List.append_nil]
 show bs v c x (Option.bind (aM v.2.1.length (i:Int)) fun v1=>Option.bind (Fm (bT (I J v.2.1 v1),eC x (I J v.2.1 i),())) fun v2=>cond (!(aD x==7)) (cond (room (v2.1.length +(dK x).length)) (Option.bind (aM v.2.1.length (i:Int)) fun v3=>cond (decide (((bT (I J v.2.1 v3)).length:Int) >((v2.1++dK x).length:Int)))
   (Option.bind (aM v.2.1.length (i:Int)) fun v4=>(eh (bT (I J v.2.1 v4)).length ((v2.1++dK x).length:Int) ((bT (I J v.2.1 v4)).length:Int)).bind fun v5=>cond (room ((v2.1++dK x).length +(part (bT (I J v.2.1 v4)) v5.1 (v5.2-v5.1)).length))
    ((gI (q+2)).gZ (i:Int) ((v2.1++dK x)++part (bT (I J v.2.1 v4)) v5.1 (v5.2-v5.1)) (v,c,x,())) none)
   ((gI (q+2)).gZ (i:Int) (v2.1++dK x) (v,c,x,()))) none) ((gI (q+2)).gZ (i:Int) v2.1 (v,c,x,()))) _ _
 rw [bu bm.1,ha];simp only [aw];rw [anh _ _ (by omega) (by omega)];simp only [aw];rw [b7 (by rw [qu];omega)];simp only [cond_true];rw [anv];by_cases bL:aD x=7
 ·have uI:=aar bL
  have iq:iX x (I J v.2.1 i)=k5 (bT (I J v.2.1 i)) a:=by
   unfold iX;rw [if_pos bL];have:eC x (I J v.2.1 i)=bU x:=by unfold eC;rw [if_neg (by omega)]
   rw [← this,ha,Int.toNat_natCast]
  rw [cr bL];rw [uI] at I0;simp only [List.length_nil] at I0;rw [decide_eq_false (show ¬((a:Int)>64) by omega)];simp only [Bool.not_true,cond_false,cond_true];rw [aap _ _ _ (by omega) (by omega) (by simp)];simp only [aw];rw [put_eq];show bs v c x _ (Option.bind (eh (lK (bT (I J v.2.1 i)) a []).length ((0:Nat):Int) (a:Int)) _) _;rw [jD (by omega) (by unfold lK;rw [List.length_append,List.length_append,qu];omega)];simp only [aw,Nat.sub_zero];have mE:part (lK (bT (I J v.2.1 i)) a []) 0 a=iX x (I J v.2.1 i):=by rw [tm,iq,← ank,put_eq]
  rw [mE,← iq,BX (q+1),aas (q+2)];exact bs.yes _ _ (hwr) rfl rfl
 ·have iq:iX x (I J v.2.1 i)=lK (bT (I J v.2.1 i)) a (dK x):=by
   unfold iX;rw [if_neg bL,ha,Int.toNat_natCast]
  rw [bX bL];have h0:bD (dK x) []=false:=by rw [← Bool.not_eq_true,n_];exact fun h=>tG ⟨bL,h⟩
  rw [h0,show aH (64-((dK x).length:Int))=64-((dK x).length:Int) from cT (by omega) (by omega),decide_eq_false (show ¬((a:Int)>64-((dK x).length:Int)) by omega)];simp only [Bool.not_false,cond_true,cond_false];rw [aap _ _ _ (by omega) (by omega) (by omega)];simp only [aw];rw [put_eq,← iq,BX (q+1),aas (q+2)];exact bs.yes _ _ (hwr) rfl rfl
theorem aat(l:List aS):bytesOf l=((List.range l.length).map fun i=>(bT (I J l i)).length).sum:=by
 unfold bytesOf;congr 1;refine List.ext_getElem (by simp) fun i h1 h2=>?_
 simp only [List.length_map] at h1;rw [List.getElem_map,List.getElem_map,List.getElem_range,c0 h1]
structure Alike(l l':List aS):Prop where
 len:l'.length=l.length
 id:∀i,(I J l' i).1=(I J l i).1
 fW:∀i,bT (I J l' i)=bT (I J l i)
 c6:∀i,an (I J l' i)=an (I J l i)
theorem Alike.bz{l l':List aS}(h:Alike l l'):kO.bz l'=kO.bz l:=by
 funext id
 unfold kO.bz;rw [h.len];refine ZS fun i _=>?_
 rw [h.id]
theorem Alike.below{l l':List aS}(h:Alike l l'):dX l'=dX l:=by
 have e1:jP l'=jP l:=by
  funext i j s
  unfold jP;rw [h.bz,h.c6]
 have e2:iT l'=iT l:=by
  funext i s
  unfold iT;rw [e1,h.c6]
 have e3:fG l'=fG l:=by
  funext s
  unfold fG;rw [e2,h.len]
 funext id
 unfold dX;rw [h.bz,h.len,e3]
theorem Alike.anw{l l':List aS}(h:Alike l l')(x bG:aS)(h1:bG.1=x.1)(h2:fh bG=fh x)(h3:eZ bG=eZ x):jx l' bG=jx l x:=by
 have e1:jQ l'=jQ l:=by
  funext F
  unfold jQ pc dl;rw [h.len];congr 2
  funext i
  rw [h.fW]
 have e2:kb l'=kb l:=by
  funext F
  unfold kb pc;rw [h.len]
 unfold jx;rw [e1,e2,h.below,h1,h2,h3]
theorem Alike.fits{l l':List aS}(h:Alike l l')(hb:∀i,fh (I J l' i)=fh (I J l i))(hi:∀i,eZ (I J l' i)=eZ (I J l i)):fc l'=fc l:=by
 have e1:bytesOf l'=bytesOf l:=by
  rw [aat,aat,h.len];congr 2
  funext i
  rw [h.fW]
 have e2:gl l'=gl l:=by
  unfold gl;rw [h.len];congr 2
  funext i
  rw [h.anw (I J l i) (I J l' i) (h.id i) (hb i) (hi i)]
 unfold fc;rw [e1,e2]
theorem anx{l:List aS}{i:Nat}{y:aS}(hi:i<l.length)(h1:y.1=(I J l i).1)(h2:bT y=bT (I J l i))(h3:an y=an (I J l i)):Alike l (l.set i y):=by
 refine⟨List.length_set,fun j=>?_,fun j=>?_,fun j=>?_⟩ <;>
  ·rw [jz hi];split
   ·rename_i he;subst he;assumption
   ·rfl
def jB(x:aS)(m u g:Int):aS:=(x.1,x.2.1,m,u,g,x.2.2.2.2.2.1,x.2.2.2.2.2.2.1,x.2.2.2.2.2.2.2.1,x.2.2.2.2.2.2.2.2.1,())
theorem aau(x:aS)(m u g:Int):(jB x m u g).1=x.1:=rfl
theorem I1{v:af.D}(hv:bW v){i:Nat}(hi:i<v.2.1.length)(m u g:Int):fc (v.2.1.set i (jB (I J v.2.1 i) m u g))=0:=by
 have ha:Alike v.2.1 (v.2.1.set i (jB (I J v.2.1 i) m u g)):=anx hi rfl rfl rfl
 rw [ha.fits (fun j=>by
  rw [jz hi];split
  ·rename_i he;subst he;rfl
  ·rfl) (fun j=>by
  rw [jz hi];split
  ·rename_i he;subst he;rfl
  ·rfl)]
 unfold fc;rw [decide_eq_false (by have:=hv.bytes;omega),hv.over];rfl
theorem aav{v:af.D}(hv:bW v){i:Nat}(hi:i<v.2.1.length)(m u g:Int):aq 1000 (v.2.1.set i (jB (I J v.2.1 i) m u g)):=
 (hv.st.set (k:=1) (i:=i) (y:=jB (I J v.2.1 i) m u g) hi rfl (fun d ah=>hv.iV i hi d ah) (fun hk=>hv.st.bare i hi hk) (Nat.le_add_right _ _) (Nat.le_add_right _ _)).mono (by omega)
def andNot(a b:Int):Int:=cY .andNot .i64 a b
def rV(c:aL.D)(x:aG.D)(n:aS):Int:=if c.1≠0∧m8 c (fB n)=false then andNot (bU x) 1024 else bU x
theorem B3(m:Nat)(a b d e f g):(h6 (m+1)).df a b d e f g=Bd (h6 m) a b d e f g:=rfl
theorem QH(m:Nat)(a b d e f):(h6 (m+1)).fl a b d e f=Be (h6 m) a b d e f:=rfl
theorem anz(m:Nat)(a b d e f g):(h6 (m+1)).p3 a b d e f g=NY (h6 m) a b d e f g:=rfl
theorem anA(m:Nat)(a b d e):(h6 (m+1)).gi a b d e=NZ (h6 m) a b d e:=rfl
theorem QI{v:af.D}(hv:bW v)(z:af.D)(j4:aF.D){i:Nat}(hi:i<v.2.1.length)(n:aS)(hn:n.1=(I J v.2.1 i).1)(hst:aq 1000 (v.2.1.set i n))(m:Nat) :
  (h6 (m+1)).gi v z j4 n=some (cond (fc (v.2.1.set i n)==0) (v.1,v.2.1.set i n,()) v,(fc (v.2.1.set i n),[],()),()):=by
 have cH:=hv.jA;rw [anA];unfold NZ;rw [wC v cH.len (fun i hi=>Nat.le_trans (gk hi) cH.c6)];simp only [aw];rw [IL v n cH.len (show bz v.2.1 n.1=some i from hn ▸ hv.iU i hi)];simp only [aw];rw [BR v (v.1,v.2.1.set i n,()) hst (by omega)];rfl
structure B4(v:af.D)(c:aL.D)(x:aG.D)(w:af.D):Prop where
 out:0≤bU x∧bU x≤2047∧∃r i,h7 v.2.1 r∧bO r=0∧bz v.2.1 (bA r)=some i∧kindOf (I J v.2.1 i)≠3∧(c.1≠0→c.1=eG (I J v.2.1 i)) ∧
  w=(v.1,v.2.1.set i (jB (I J v.2.1 i) (rV c x (I J v.2.1 i)) (eG (I J v.2.1 i)) (fB (I J v.2.1 i))),())
theorem anB(v:af.D)(c:aL.D)(x:aG.D)(hv:bW v)(hc:dy c=true)(hx:iy x)(hk:aD x=15):bs v c x (FC ((v,c,x,()),())) (s_ (v,c,x,())) (B4 v c x):=by
 have cH:=hv.jA;have hl:v.2.1.length≤1048576:=cH.len;have av:=hx.path;obtain ⟨q,hq,ij⟩:=iS 4;show bs v c x (FB (q' aN) (v,c,x,())) (s9 (h6 aN) v c x) _;unfold FB s9;show bs v c x (Option.bind (dh (bU x,0,2047,())) _) (cond (aD x==15) (Option.bind (c_ (bU x,0,2047,())) _) _) _;rw [cr hk,g_,hO];simp only [cond_true,aw];rw [hq,B3];unfold Bd
 cases hN:cz (bU x) 0 2047 with
 | false=>exact bs.no 22 (by decide) rfl rfl
 | true=>
 have qt:=di.1 hN;simp only [Bool.not_true,cond_false];show bs v c x _ (cond (aD x==19) _ _) _;rw [bX (show aD x≠19 by omega),QH];simp only [cond_false];unfold Be;obtain ⟨r,⟨hr,yZ⟩,fN,kB,kC⟩:=tF v c x true cH hc (by omega);show bs v c x _ (Option.bind (fg (v,c,fo x,true,())) _) _;rw [fN];simp only [aw];show bs v c x _ (cond (bO r != 0) (some (v,(bO r,[],()),())) _) _;by_cases b6:bO r=0
 case neg=>rw [kB b6,dj b6];simp only [aw];rw [dj b6];exact bs.no (bO r) b6 rfl rfl (h7.rg ‹_›)
 obtain ⟨i,hi,fa⟩:=kC b6;have bm:=b5 hi;rw [fa,ed b6];simp only [cond_false,aw];rw [show((0:Int) != 0)=false from rfl];simp only [cond_false];show bs v c x _ (Option.bind (fy (v,bA r,())) _) _;rw [jR v _ hl hi,bu bm.1];simp only [aw]
 show bs v c x (cond (c.1 != 0) (cond (c.1 != eG (I J v.2.1 i)) (some (1,(v,c,x,()),())) (q' (q+4) (i:Int) (v,c,x,()))) (q' (q+4) (i:Int) (v,c,x,())))
  (cond (aD x==15) (cond (c.1 != 0) (cond (c.1 != eG (I J v.2.1 i)) (some (v,(1,[],()),())) ((h6 (q+2)).p3 v c x (0,([]:List J.D),()) (0,([]:aK),()) (I J v.2.1 i))) ((h6 (q+2)).p3 v c x (0,([]:List J.D),()) (0,([]:aK),()) (I J v.2.1 i))) _) _
 rw [cr hk];simp only [cond_true]
 have hfin:(c.1≠0→c.1=eG (I J v.2.1 i))→bs v c x (q' (q+4) (i:Int) (v,c,x,())) ((h6 (q+2)).p3 v c x (0,([]:List J.D),()) (0,([]:aK),()) (I J v.2.1 i)) (B4 v c x):=by
  intro hu
  have fa:q' (q+4) (i:Int) (v,c,x,())=some (0,((v.1,v.2.1.set i (jB (I J v.2.1 i) (rV c x (I J v.2.1 i)) (eG (I J v.2.1 i)) (fB (I J v.2.1 i))),()),c,x,()),()):=by
   rw [q',M3];show Option.bind (aM v.2.1.length (i:Int)) (fun v1=>M1 (v,c,x,()) (i:Int) (v.2.1.set v1 (jB (I J v.2.1 v1) (bU x) (eG (I J v.2.1 v1)) (fB (I J v.2.1 v1)))))=_;rw [bu bm.1];simp only [aw];unfold M1 rV;have aI:I J (v.2.1.set i (jB (I J v.2.1 i) (bU x) (eG (I J v.2.1 i)) (fB (I J v.2.1 i)))) i=jB (I J v.2.1 i) (bU x) (eG (I J v.2.1 i)) (fB (I J v.2.1 i)):=by rw [jz bm.1,if_pos rfl]
   have fT:aM (v.2.1.set i (jB (I J v.2.1 i) (bU x) (eG (I J v.2.1 i)) (fB (I J v.2.1 i)))).length (i:Int)=some i:=bu (by rw [List.length_set];exact bm.1);show cond (c.1 != 0) _ _=_;by_cases h0:c.1=0
   ·rw [ed h0,if_neg (fun h=>h.1 h0)];rfl
   ·rw [dj h0,fT];simp only [cond_true,aw];rw [aI];show Option.bind (vm (c,fB (I J v.2.1 i),())) _=_;rw [P3 c _ hc];simp only [aw]
    cases C9:m8 c (fB (I J v.2.1 i)) with
    | true=>rw [if_neg (fun h=>by cases h.2)];rfl
    | false=>rw [if_pos ⟨h0,rfl⟩];simp only [Bool.not_false,cond_true];unfold Vr;rw [List.set_set];rfl
  have dZ:(h6 (q+2)).p3 v c x (0,([]:List J.D),()) (0,([]:aK),()) (I J v.2.1 i)=(h6 (q+1)).gi v (0,([]:List J.D),()) (0,([]:aK),()) (jB (I J v.2.1 i) (rV c x (I J v.2.1 i)) (eG (I J v.2.1 i)) (fB (I J v.2.1 i))):=by
   rw [anz];unfold NY rV;show cond (c.1 != 0) (Option.bind (vN (c,fB (I J v.2.1 i),())) _) _=_;by_cases h0:c.1=0
   ·rw [ed h0,if_neg (fun h=>h.1 h0)];rfl
   ·rw [dj h0,P2 c _ hc];simp only [cond_true,aw]
    cases C9:m8 c (fB (I J v.2.1 i)) with
    | true=>rw [if_neg (fun h=>by cases h.2)];rfl
    | false=>rw [if_pos ⟨h0,rfl⟩];rfl
  rw [fa,dZ,QI hv _ _ bm.1 _ (aau _ _ _ _) (aav hv bm.1 _ _ _),I1 hv bm.1];exact bs.yes 0 _ (fun _=>⟨qt.1,qt.2,r,i,hr,b6,hi,yZ rfl b6 i hi,hu,rfl⟩) rfl rfl
 by_cases h0:c.1=0
 ·rw [ed h0];exact hfin fun h=>absurd h0 h
 ·rw [dj h0];simp only [cond_true];by_cases hu:c.1=eG (I J v.2.1 i)
  ·rw [ed hu];exact hfin fun _=>hu
  ·rw [dj hu];exact bs.no 1 (by decide) rfl rfl
structure B5(v:af.D)(c:aL.D)(x:aG.D)(w:af.D):Prop where
 out:(0≤bU x∧bU x≤1000)∧(0≤ep x∧ep x≤1000)∧∃r i,h7 v.2.1 r∧bO r=0∧bz v.2.1 (bA r)=some i∧w=(v.1,v.2.1.set i (jB (I J v.2.1 i) (fi (I J v.2.1 i)) (bU x) (ep x)),())
theorem anC(v:af.D)(c:aL.D)(x:aG.D)(hv:bW v)(hc:dy c=true)(hx:iy x)(hk:aD x=16):bs v c x (FF ((v,c,x,()),())) (s_ (v,c,x,())) (B5 v c x):=by
 have cH:=hv.jA;have hl:v.2.1.length≤1048576:=cH.len;have av:=hx.path;obtain ⟨q,hq,ij⟩:=iS 4;show bs v c x (FE (ra aN) (v,c,x,())) (s9 (h6 aN) v c x) _;unfold FE s9;show bs v c x (Option.bind (dh (bU x,0,1000,())) fun v1=>cond (!v1.1) _ (Option.bind (dh (ep x,0,1000,())) _)) (cond (aD x==15) _ (cond (aD x==16) (Option.bind (c_ (bU x,0,1000,())) fun v2=>cond (!v2.1) _ (Option.bind (c_ (ep x,0,1000,())) _)) _)) _;rw [bX (show aD x≠15 by omega),cr hk];simp only [cond_true,cond_false];rw [g_,hO];simp only [aw];rw [hq]
 cases hN:cz (bU x) 0 1000 with
 | false=>simp only [Bool.not_false,cond_true];rw [B3];exact bs.no 22 (by decide) rfl rfl
 | true=>
 have qt:=di.1 hN;simp only [Bool.not_true,cond_false];rw [g_,hO];simp only [aw];rw [B3];unfold Bd
 cases qU:cz (ep x) 0 1000 with
 | false=>exact bs.no 22 (by decide) rfl rfl
 | true=>
 have QJ:=di.1 qU;simp only [Bool.not_true,cond_false];show bs v c x _ (cond (aD x==19) _ _) _;rw [bX (show aD x≠19 by omega),QH];simp only [cond_false];unfold Be;obtain ⟨r,⟨hr,yZ⟩,fN,kB,kC⟩:=tF v c x true cH hc (by omega);show bs v c x _ (Option.bind (fg (v,c,fo x,true,())) _) _;rw [fN];simp only [aw];show bs v c x _ (cond (bO r != 0) (some (v,(bO r,[],()),())) _) _;by_cases b6:bO r=0
 case neg=>rw [kB b6,dj b6];simp only [aw];rw [dj b6];exact bs.no (bO r) b6 rfl rfl (h7.rg ‹_›)
 obtain ⟨i,hi,fa⟩:=kC b6;have bm:=b5 hi;rw [fa,ed b6];simp only [cond_false,aw];rw [show((0:Int) != 0)=false from rfl];simp only [cond_false];show bs v c x _ (Option.bind (fy (v,bA r,())) _) _;rw [jR v _ hl hi,bu bm.1];simp only [aw]
 show bs v c x (cond (c.1 != 0) (cond (c.1 != eG (I J v.2.1 i)) (some (1,(v,c,x,()),())) (cond (bU x != eG (I J v.2.1 i)) (some (1,(v,c,x,()),())) (Option.bind (vm (c,ep x,())) fun v6=>cond (!v6.1) (some (1,(v,c,x,()),())) (ra (q+4) (i:Int) (v,c,x,()))))) (ra (q+4) (i:Int) (v,c,x,())))
  (cond (aD x==15) _ (cond (aD x==16) (cond (c.1 != 0) (cond (c.1 != eG (I J v.2.1 i)) (some (v,(1,[],()),())) (cond (bU x != eG (I J v.2.1 i)) (some (v,(1,[],()),())) (Option.bind (vN (c,ep x,())) fun v3=>cond (!v3.1) (some (v,(1,[],()),())) ((h6 (q+2)).gi v (0,([]:List J.D),()) (0,([]:aK),()) (jB (I J v.2.1 i) (fi (I J v.2.1 i)) (bU x) (ep x))))))
   ((h6 (q+2)).gi v (0,([]:List J.D),()) (0,([]:aK),()) (jB (I J v.2.1 i) (fi (I J v.2.1 i)) (bU x) (ep x)))) _)) _
 rw [bX (show aD x≠15 by omega),cr hk,P3 c _ hc,P2 c _ hc];simp only [cond_true,cond_false,aw]
 have hfin:bs v c x (ra (q+4) (i:Int) (v,c,x,())) ((h6 (q+2)).gi v (0,([]:List J.D),()) (0,([]:aK),()) (jB (I J v.2.1 i) (fi (I J v.2.1 i)) (bU x) (ep x))) (B5 v c x):=by
  have fa:ra (q+4) (i:Int) (v,c,x,())=some (0,((v.1,v.2.1.set i (jB (I J v.2.1 i) (fi (I J v.2.1 i)) (bU x) (ep x)),()),c,x,()),()):=by rw [ra,M5];show Option.bind (aM v.2.1.length (i:Int)) (fun v1=>M4 (i:Int) (v,c,x,()) (v.2.1.set v1 (jB (I J v.2.1 v1) (fi (I J v.2.1 v1)) (bU x) (fB (I J v.2.1 v1)))))=_;rw [bu bm.1];simp only [aw];unfold M4;rw [bu (by rw [List.length_set];exact bm.1)];simp only [aw];unfold Vs;rw [List.set_set,jz bm.1,if_pos rfl];rfl
  rw [fa,QI hv _ _ bm.1 _ (aau _ _ _ _) (aav hv bm.1 _ _ _),I1 hv bm.1];exact bs.yes 0 _ (fun _=>⟨qt,QJ,r,i,hr,b6,hi,rfl⟩) rfl rfl
 by_cases h0:c.1=0
 ·rw [ed h0];exact hfin
 ·rw [dj h0];simp only [cond_true];by_cases hu:c.1=eG (I J v.2.1 i)
  ·rw [ed hu];simp only [cond_false];by_cases hn:bU x=eG (I J v.2.1 i)
   ·rw [ed hn];simp only [cond_false]
    cases m8 c (ep x) with
    | false=>exact bs.no 1 (by decide) rfl rfl
    | true=>exact hfin
   ·rw [dj hn];exact bs.no 1 (by decide) rfl rfl
  ·rw [dj hu];exact bs.no 1 (by decide) rfl rfl
def nc(x:aS)(b k:Int):aS:=(x.1,x.2.1,x.2.2.1,x.2.2.2.1,x.2.2.2.2.1,x.2.2.2.2.2.1,x.2.2.2.2.2.2.1,b,k,())
theorem anD(x:aS)(b k:Int):(nc x b k).1=x.1:=rfl
structure I2(v:af.D)(c:aL.D)(x:aG.D)(w:af.D):Prop where
 out:(0≤bU x∧bU x≤400)∧(0≤ep x∧ep x≤24)∧c.1=0∧∃r i,h7 v.2.1 r∧bO r=0∧bz v.2.1 (bA r)=some i∧kindOf (I J v.2.1 i)=2∧w=(v.1,v.2.1.set i (nc (I J v.2.1 i) (bU x) (ep x)),())∧fc w.2.1=0
theorem anE(v:af.D)(c:aL.D)(x:aG.D)(hv:bW v)(hc:dy c=true)(hx:iy x)(hk:aD x=19):bs v c x (FI ((v,c,x,()),())) (s_ (v,c,x,())) (I2 v c x):=by
 have cH:=hv.jA;have hl:v.2.1.length≤1048576:=cH.len;have av:=hx.path;obtain ⟨q,hq,ij⟩:=iS 4;show bs v c x (M8 (v,c,x,())) (s9 (h6 aN) v c x) _;unfold M8 s9;show bs v c x (Option.bind (dh (bU x,0,400,())) fun v1=>cond (!v1.1) _ (Option.bind (dh (ep x,0,24,())) _)) (cond (aD x==15) _ (cond (aD x==16) _ (Option.bind (c_ (bU x,0,400,())) fun v2=>cond (!v2.1) _ (Option.bind (c_ (ep x,0,24,())) _)))) _;rw [bX (show aD x≠15 by omega),bX (show aD x≠16 by omega)];simp only [cond_true,cond_false];rw [g_,hO];simp only [aw];rw [hq]
 cases hN:cz (bU x) 0 400 with
 | false=>simp only [Bool.not_false,cond_true];rw [B3];exact bs.no 22 (by decide) rfl rfl
 | true=>
 have qt:=di.1 hN;simp only [Bool.not_true,cond_false];rw [g_,hO];simp only [aw];rw [B3];unfold Bd
 cases qU:cz (ep x) 0 24 with
 | false=>exact bs.no 22 (by decide) rfl rfl
 | true=>
 have QJ:=di.1 qU;simp only [Bool.not_true,cond_false];show bs v c x (cond (c.1 != 0) _ _) (cond (aD x==19) (cond (c.1 != 0) _ _) _) _;rw [cr hk];simp only [cond_true];by_cases h0:c.1=0
 case neg=>rw [dj h0];exact bs.no 1 (by decide) rfl rfl
 rw [ed h0];simp only [cond_false];rw [QH];unfold Be;obtain ⟨r,⟨hr,yZ⟩,fN,kB,kC⟩:=tF v c x true cH hc (by omega);show bs v c x _ (Option.bind (fg (v,c,fo x,true,())) _) _;rw [fN];simp only [aw];show bs v c x _ (cond (bO r != 0) (some (v,(bO r,[],()),())) _) _;by_cases b6:bO r=0
 case neg=>rw [kB b6,dj b6];simp only [aw];rw [dj b6];exact bs.no (bO r) b6 rfl rfl (h7.rg ‹_›)
 obtain ⟨i,hi,fa⟩:=kC b6;have bm:=b5 hi;rw [fa,ed b6];simp only [cond_false,aw];rw [show((0:Int) != 0)=false from rfl];simp only [cond_false];show bs v c x _ (Option.bind (fy (v,bA r,())) _) _;rw [jR v _ hl hi,bu bm.1];simp only [aw]
 show bs v c x (cond (kindOf (I J v.2.1 i) != 2) (some (20,(v,c,x,()),())) (FH ((i:Int),0,(v,c,x,()),()) (v.2.1.set i (nc (I J v.2.1 i) (bU x) (eZ (I J v.2.1 i))))))
  (cond (aD x==15) _ (cond (aD x==16) _ (cond (kindOf (I J v.2.1 i) != 2) (some (v,(20,[],()),())) ((h6 (q+2)).gi v (0,([]:List J.D),()) (0,([]:aK),()) (nc (I J v.2.1 i) (bU x) (ep x)))))) _
 rw [bX (show aD x≠15 by omega),bX (show aD x≠16 by omega)];simp only [cond_false];by_cases im:kindOf (I J v.2.1 i)=2
 case neg=>rw [dj im];exact bs.no 20 (by decide) rfl rfl
 rw [ed im];simp only [cond_false];have hst:aq 1000 (v.2.1.set i (nc (I J v.2.1 i) (bU x) (ep x))):=(hv.st.set (k:=1) (i:=i) (y:=nc (I J v.2.1 i) (bU x) (ep x)) bm.1 rfl (fun d ah=>hv.iV i bm.1 d ah) (fun hk=>absurd im hk) (Nat.le_add_right _ _) (Nat.le_add_right _ _)).mono (by omega);have fa:FH ((i:Int),0,(v,c,x,()),()) (v.2.1.set i (nc (I J v.2.1 i) (bU x) (eZ (I J v.2.1 i))))=some (fc (v.2.1.set i (nc (I J v.2.1 i) (bU x) (ep x))),((v.1,v.2.1.set i (nc (I J v.2.1 i) (bU x) (ep x)),()),c,x,()),()):=by unfold FH;rw [bu (by rw [List.length_set];exact bm.1)];simp only [aw];rw [List.set_set,jz bm.1,if_pos rfl];show M7 ((i:Int),0,(v,c,x,()),()) (v.2.1.set i (nc (I J v.2.1 i) (bU x) (ep x)))=_;unfold M7;show Option.bind (nU (((v.1,v.2.1.set i (nc (I J v.2.1 i) (bU x) (ep x)),()),c,x,()),())) _=_;rw [BQ (v.1,v.2.1.set i (nc (I J v.2.1 i) (bU x) (ep x)),()) c x hst (by omega)];rfl
 rw [fa,QI hv _ _ bm.1 _ (anD _ _ _) hst];exact bs.yes _ _ (fun h=>⟨qt,QJ,h0,r,i,hr,b6,hi,im,rfl,h⟩) rfl rfl
end Go.LM.kO
