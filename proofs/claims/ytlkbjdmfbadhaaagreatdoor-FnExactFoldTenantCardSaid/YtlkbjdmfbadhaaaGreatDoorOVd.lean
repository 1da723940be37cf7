/- Calls on volumes: both sides come to the same. Conditions: each theorem's own hypotheses. -/
import Derived.Test.YtlkbjdmfbadhaaaGreatDoorOVc
set_option linter.unusedVariables false
set_option linter.unusedSimpArgs false
namespace Go.LM.ks
theorem acY{n:Nat}(h:n≤68719476736):n+1<aK:=by unfold aK;omega
theorem z'{α:Type}{l:List α}{k:Nat}(h:k<l.length):l.drop k=l[k]::l.drop (k+1):=List.drop_eq_getElem_cons h
def q3(y:aC.D)(id:aP):Bool:=bx y.1 id
theorem acZ(y:aC.D)(id:aP):GA (y,id,())=some (q3 y id,()):=rfl
def xR(id:aP):List aC.D→Nat→Int
 | [],_=> -1
 |y::l,k=>cond (q3 y id) (k:Int) (xR id l (k+1))
theorem aoq(ys:List aC.D)(id:aP)(hn:ys.length≤68719476736):∀(r k m:Nat),k+r=ys.length→r<m →
  zi m ys id (ys.length:Int) (k:Int)=some (xR id (ys.drop k) k,()):=by
 intro r
 induction r with
 |zero=>
  intro k m hk hm;obtain⟨m,rfl⟩:∃q,m=q+1:=⟨m-1,by omega⟩
  simp only[zi,GC];rw[cl (by omega),List.drop_of_length_le (by omega)];rfl
 |succ r ih=>
  intro k m hk hm;obtain⟨m,rfl⟩:∃q,m=q+1:=⟨m-1,by omega⟩
  have iU:k<ys.length:=by omega
  simp only[zi,GC];rw[bN iU,bf iU];simp only[cond_true,al];rw[acZ,rj iU,z' iU];simp only[al,xR];cases q3 ys[k] id
  ·simp only[cond_false];rw[dH _ (by omega)];exact ih (k+1) m (by omega) (by omega)
  ·rfl
theorem ac0(id:aP):∀(l:List aC.D) (k:Nat),(xR id l k = -1∧l.filter (fun y=> !q3 y id)=l)∨∃j,j<l.length∧xR id l k=((k+j:Nat):Int)∧(l.filter (fun y=> !q3 y id))=l.take j++(l.drop (j+1)).filter (fun y=> !q3 y id)
 | [],_=>.inl ⟨rfl,rfl⟩
 |y::l,k=>by
  rw[List.filter_cons];unfold xR;cases h:q3 y id
  ·rcases ac0 id l (k+1)with⟨h1,h2⟩|⟨j,h1,h2,h3⟩
   ·exact .inl ⟨by simp only[cond_false];exact h1,by simp[h2]⟩
   ·exact .inr ⟨j+1,by simpa using h1,by simp only[cond_false];rw[h2];congr 1;omega,by simp[h3]⟩
  ·exact .inr ⟨0,by simp,by simp,by simp⟩
theorem aor(ys:List aC.D)(id:aP)(hn:ys.length≤68719476736):∀(r j i m:Nat) (xs:List aC.D),j+r=ys.length→i≤j→xs.length=ys.length→xs.drop j=ys.drop j→r<m →
  zk m id (i:Int) (j:Int) xs=some (xs.take i++(ys.drop j).filter (fun y=> !q3 y id),()):=by
 intro r
 induction r with
 |zero=>
  intro j i m xs hj jm hl af hm;obtain⟨m,rfl⟩:∃q,m=q+1:=⟨m-1,by omega⟩
  simp only[zk,GG];rw[cl (by omega),jn (by omega) (Nat.le_refl _)];simp only[cond_false,al,XR,Nat.zero_add];generalize ((([]:aj),0,()):aC.D)=z;have hlen:(xs.take i++List.replicate (xs.length-i) z++xs.drop (i +(xs.length-i))).length=xs.length:=by simp;omega
  rw[show(0:Int)=((0:Nat):Int) from rfl,jn (Nat.zero_le _) (by rw[hlen];omega)];simp only[al,Nat.sub_zero,Nat.zero_add];rw[List.drop_of_length_le (l:=ys) (by omega),List.filter_nil,List.append_nil];congr 2;unfold part;rw[List.drop_zero,List.append_assoc,List.take_append_of_le_length (by simp;omega),List.take_take];simp
 |succ r ih=>
  intro j i m xs hj jm hl af hm;obtain⟨m,rfl⟩:∃q,m=q+1:=⟨m-1,by omega⟩
  have hjl:j<xs.length:=by omega
  have AG:j<ys.length:=by omega
  have he:xs[j]=ys[j]∧xs.drop (j+1)=ys.drop (j+1):=by rw[z' hjl,z' AG]at af;exact List.cons.inj af
  simp only[zk,GG];rw[bN hjl,bf hjl];simp only[cond_true,al,Nat.zero_add];rw[acZ,rj hjl,he.1,z' AG,List.filter_cons];simp only[al];cases hh:q3 ys[j] id
  ·simp only[Bool.not_false,cond_true,if_true];rw[bf (show i<xs.length by omega)];simp only[al,Nat.zero_add];rw[dH _ (by omega),dH _ (by omega),ih (j+1) (i+1) m (xs.set i ys[j]) (by omega) (by omega) (by simpa using hl) (by rw[List.drop_set_of_lt (by omega)];exact he.2) (by omega)];congr 2;rw[List.take_add_one,List.take_set_of_le (Nat.le_refl _),List.getElem?_set_self (by omega)];simp
  ·simp only[Bool.not_true,cond_false,Bool.false_eq_true,if_false];rw[dH _ (by omega)];exact ih (j+1) i m xs (by omega) (by omega) hl he.2 (by omega)
theorem aos(ys:List aC.D)(id:aP)(hn:room ys.length=true):GH (ys,id,())=some (ys.filter (fun y=> !q3 y id),()):=by
 have hn:ys.length≤68719476736:=Nat.le_of_ble_eq_true hn;show GF _ ys id=_;unfold GF;have hi:OE (ys,id,())=some (xR id ys 0,()):=by have:=aoq ys id hn ys.length 0 aK (by omega) (by have:=acY hn;omega);rw[List.drop_zero]at this;exact this
 rw[hi];simp only[al];rcases ac0 id ys 0 with⟨h1,h2⟩|⟨j,h1,h2,h3⟩
 ·rw[h1,h2];rfl
 ·rw[h2,h3,Nat.zero_add,show((j:Int) == -1)=false from by rw[beq_eq_false_iff_ne];omega];simp only[cond_false];rw[dH _ (by omega)];exact aor ys id hn (ys.length-(j+1)) (j+1) j aK ys (by omega) (by omega) rfl rfl (by have:=acY hn;omega)
theorem CV(v:ag.D)(c:aM.D)(x:aL.D)(path:aP)(cg:Bool)(hw:sB v.2.1)(hc:d' c=true)(av:path.length≤1048576):
  ∃r,uO cg v.2.1 r∧lU ((v,c,x,()),path,cg,())=some (r,())∧fo (v,c,path,cg,())=some (r,()):=by
 cases hk:uM path with
 |false=>
  refine⟨((0:Int),([]:aP),(0:Int),(22:Int),()),z1 cg _ (by decide) 0 0 (.inr trivial),?_,?_⟩
  ·show rU (v,c,x,()) path cg=_;unfold rU;rw[Kj _ (by omega),hk];rfl
  ·show xa v c path cg=_;unfold xa;rw[CQ,hk];rfl
 |true=>
  obtain⟨r,bF,cq,gu⟩:=acX v c path cg hw hc hk;refine⟨r,bF,?_,?_⟩
  ·show rU (v,c,x,()) path cg=_;unfold rU;rw[Kj _ (by omega),hk];simp only[al,Bool.not_true,cond_false];rw[cq];rfl
  ·show xa v c path cg=_;unfold xa;rw[CQ,hk];simp only[al,Bool.not_true,cond_false];rw[gu];rfl
theorem oH{s:aP}:bx s []=true↔s=[]:=by unfold bx;simp
theorem ac1(v:ag.D)(c:aM.D)(x:aL.D)(path:aP)(hw:sB v.2.1)(hc:d' c=true)(av:path.length≤1048576):
  ∃r eS code,wJ ((v,c,x,()),path,())=some (r,code,())∧w8 (v,c,path,())=some (eS,code,())∧(0≤code∧code≤200)∧(code=0→eS=r∧iu v.2.1 r∧bP r=2∧nameOf r≠[]∧fo (v,c,path,false,())=some (r,())):=by
 cases hk:uM path with
 |false=>
  refine⟨((0:Int),([]:aP),(0:Int),(22:Int),()),((0:Int),([]:aP),(0:Int),(0:Int),()),22,?_,?_,by decide,fun h=>by cases h⟩
  ·show BI (v,c,x,()) path=_;unfold BI;have:lU ((v,c,x,()),path,false,())=some (((0:Int),([]:aP),(0:Int),(22:Int),()),()):=by show rU (v,c,x,()) path false=_;unfold rU;rw[Kj _ (by omega),hk];rfl
   rw[this];rfl
  ·show B7 v c path=_;unfold B7;rw[CQ,hk];rfl
 |true=>
  obtain⟨r,bF,cq,gu⟩:=acX v c path false hw hc hk
  have fh:wJ ((v,c,x,()),path,())=cond (bP r==2) (cond (!(bx (nameOf r) [])) (some (r,0,())) (cond (bP r==0) (some (r,17,())) (some (r,bP r,())))) (cond (bP r==0) (some (r,17,())) (some (r,bP r,()))):=by
   show BI (v,c,x,()) path=_;unfold BI;have:lU ((v,c,x,()),path,false,())=some (r,()):=by show rU (v,c,x,()) path false=_;unfold rU;rw[Kj _ (by omega),hk];simp only[al,Bool.not_true,cond_false];rw[cq];rfl
   rw[this];rfl
  have dg:w8 (v,c,path,())=cond (bP r==0) (some (r,17,())) (cond (bP r==2) (cond (!(bx (nameOf r) [])) (some (r,0,())) (some (r,bP r,()))) (some (r,bP r,()))):=by show B7 v c path=_;unfold B7;rw[CQ,hk];simp only[al,Bool.not_true,cond_false];rw[gu];rfl
  rw[fh,dg];by_cases h0:bP r=0
  ·rw[cL h0,bY (show bP r≠2 by omega)];exact⟨r,r,17,rfl,rfl,by decide,fun h=>by cases h⟩
  ·rw[bY h0];by_cases h2:bP r=2
   ·rw[cL h2]
    cases hn:bx (nameOf r) []with
    |true=>exact⟨r,r,bP r,rfl,rfl,bF.1.rg,fun h=>absurd h h0⟩
    |false=>exact⟨r,r,0,rfl,rfl,by decide,fun _=>⟨rfl,bF.1,h2,fun h=>(by rw[oH.2 h]at hn;cases hn),by
     show xa v c path false=_;unfold xa;rw[CQ,hk];simp only[al,Bool.not_true,cond_false]
     rw[gu];rfl⟩⟩
   ·rw[bY h2];exact⟨r,r,bP r,rfl,rfl,bF.1.rg,fun h=>absurd h h0⟩
def cd(x:aT)(N:List aC.D):aT:=(x.1,x.2.1,x.2.2.1,x.2.2.2.1,x.2.2.2.2.1,x.2.2.2.2.2.1,N,x.2.2.2.2.2.2.2.1,x.2.2.2.2.2.2.2.2.1,())
def ek(s:aP)(d:aC.D):Bool:=eo d.1 s
def ins(N:List aC.D)(s:aP)(id:Int):List aC.D:=N.takeWhile (ek s)++[(s,id,())]++N.dropWhile (ek s)
theorem Kv{α:Type}(p:α→Bool)(l:List α):l.take (l.takeWhile p).length=l.takeWhile p:=by have:=List.take_left' (l₁:=l.takeWhile p) (l₂:=l.dropWhile p) rfl;rwa[List.takeWhile_append_dropWhile]at this
theorem Kw{α:Type}(p:α→Bool)(l:List α):l.drop (l.takeWhile p).length=l.dropWhile p:=by have:=List.drop_left' (l₁:=l.takeWhile p) (l₂:=l.dropWhile p) rfl;rwa[List.takeWhile_append_dropWhile]at this
theorem Su{α:Type}{p:α→Bool}{x:α}:∀{l:List α},x∈l.takeWhile p→p x=true
 | [],h=>by simp at h
 |y::l,h=>by
  rw[List.takeWhile_cons]at h;cases aR:p y
  ·rw[aR]at h;simp at h
  ·rw[aR]at h;simp only[if_true,List.mem_cons]at h;rcases h with rfl|h
   ·exact aR
   ·exact Su h
theorem ac2{α:Type}{p:α→Bool}{x:α}{r:List α}:∀{l:List α},l.dropWhile p=x::r→p x=false
 | [],h=>by simp at h
 |y::l,h=>by
  rw[List.dropWhile_cons]at h;cases aR:p y
  ·rw[aR]at h;simp only[Bool.false_eq_true,if_false]at h;injection h with h1 h2
   rw[←h1];exact aR
  ·rw[aR]at h;simp only[if_true]at h;exact ac2 h
theorem Sv{α:Type}(p:α→Bool)(l:List α):(l.takeWhile p).length≤l.length:=by have:=congrArg List.length (List.takeWhile_append_dropWhile (p:=p) (l:=l));rw[List.length_append]at this;omega
theorem Aa(N:List aC.D)(s:aP)(id:Int):(ins N s id).length=N.length+1:=by have:=congrArg List.length (List.takeWhile_append_dropWhile (p:=ek s) (l:=N));rw[List.length_append]at this;unfold ins;simp only[List.length_append,List.length_cons,List.length_nil];omega
theorem ac3{N:List aC.D}{s:aP}:∀{j:Nat},j<(N.takeWhile (ek s)).length→eo (I aC N j).1 s=true:=by
 intro j hj;have Kx:j<N.length:=Nat.lt_of_lt_of_le hj (Sv _ _);have h1:(N.takeWhile (ek s))[j]∈N.takeWhile (ek s):=List.getElem_mem hj;have h2:=Su h1
 have e:(N.takeWhile (ek s))[j]=I aC N j:=by
  rw[c3 Kx];have:=List.takeWhile_append_dropWhile (p:=ek s) (l:=N);have h3:(N.takeWhile (ek s)++N.dropWhile (ek s))[j]?=N[j]?:=by rw[this]
  rw[List.getElem?_append_left hj,List.getElem?_eq_getElem hj,List.getElem?_eq_getElem Kx]at h3;exact aX h3
 rw[e]at h2;exact h2
theorem ac4{N:List aC.D}{s:aP}(h:(N.takeWhile (ek s)).length<N.length):eo (I aC N (N.takeWhile (ek s)).length).1 s=false:=by have h1:=Kw (ek s) N;have h2:=z' h;rw[h1]at h2;rw[c3 h];exact ac2 (p:=ek s) h2
theorem Sw(v:ag.D)(c:aM.D)(x:aL.D)(dir:Int)(s:aP)(id:Int)(hl:v.2.1.length≤1048576){i:Nat}(h:bD v.2.1 dir=some i)(hn:(ax (I J v.2.1 i)).length≤1048576):
  uc ((v,c,x,()),dir,s,id,())=some (((v.1,v.2.1.set i (cd (I J v.2.1 i) (ins (ax (I J v.2.1 i)) s id)),()),c,x,()),()):=by
 show Gw (ub aK) (v,c,x,()) dir s id=_;unfold Gw;rw[Sl v dir hl,h];simp only[al,iN];obtain⟨hi,cm⟩:=ca h;generalize hN:ax (I J v.2.1 i)=N at hn;have cE:=Sv (ek s) N;have pw:∀m,(ub (m+1)).bn s id (i:Int) ((N.takeWhile (ek s)).length:Int) (v,c,x,())=some (((v.1,v.2.1.set i (cd (I J v.2.1 i) (ins N s id)),()),c,x,()),()):=by intro m;show Oz (ub m) s id (i:Int) ((N.takeWhile (ek s)).length:Int) (v,c,x,())=_;unfold Oz;rw[bf hi];simp only[al,Nat.beq_refl,cond_true];show Option.bind (insF (ax (I J v.2.1 i)) ((N.takeWhile (ek s)).length:Int) [(s,id,())]) _=_;rw[hN];unfold insF;rw[if_pos ⟨Int.natCast_nonneg _,Int.ofNat_le.2 cE,rfl,by omega⟩];simp only[al,Int.toNat_natCast];rw[Kv,Kw];rfl
 have kz:=pQ 1 (fun m j=>(ub m).k2 s id (i:Int) (j:Int) (v,c,x,())) (some (((v.1,v.2.1.set i (cd (I J v.2.1 i) (ins N s id)),()),c,x,()),())) (N.takeWhile (ek s)).length 2 (fun j hj B y he=>he.step fun m=>by
  show BJ (ub m) s id (i:Int) (j:Int) (v,c,x,())=_;unfold BJ;rw[bf hi];simp only[al];show cond (decide ((j:Int)<((ax (I J v.2.1 i)).length:Int))) ((ix (ax (I J v.2.1 i)).length (j:Int)).bind fun v3=>cond (eo (I aC (ax (I J v.2.1 i)) v3).1 s) _ _) _=_;rw[hN,bN (by omega),bf (by omega)];simp only[cond_true,al]
  rw[ac3 hj,dH j (by omega)];rfl) (b6.now 2 fun m=>by
  show BJ (ub (m+1)) s id (i:Int) ((N.takeWhile (ek s)).length:Int) (v,c,x,())=_;unfold BJ;rw[bf hi];simp only[al];show cond (decide (((N.takeWhile (ek s)).length:Int)<((ax (I J v.2.1 i)).length:Int))) ((ix (ax (I J v.2.1 i)).length ((N.takeWhile (ek s)).length:Int)).bind fun v3=>cond (eo (I aC (ax (I J v.2.1 i)) v3).1 s) _ _) _=_;rw[hN];rcases Nat.lt_or_ge (N.takeWhile (ek s)).length N.length with h1|h1
  ·rw[bN h1,bf h1];simp only[cond_true,al];rw[ac4 h1];exact pw m
  ·rw[cl h1]
   exact pw m)
 exact l0 kz (by omega)
def ct(N:List aC.D)(s:aP):List aC.D:=N.filter fun d=> !bx d.1 s
def goN(l:List aT)(id:Int):List aT:=cond (decide (cC l id=0)) (l.filter fun y=> !(y.1==id)) l
theorem Ky{l:List aT}{i:Nat}{y:aT}(hi:i<l.length):d_ (l.set i y) +(ax (I J l i)).length=d_ l +(ax y).length:=by
 unfold d_
 induction l generalizing i with
 |nil=>simp at hi
 |cons z l ih=>
  cases i with
  |zero=>simp only[List.set_cons_zero,List.map_cons,List.sum_cons];show _ +(ax z).length=_;omega
  |succ i=>have:=ih (i:=i) (by simpa using hi);simp only[List.set_cons_succ,List.map_cons,List.sum_cons];show _ +(ax (I J l i)).length=_;omega
theorem k5(x:aT)(N:List aC.D):ax (cd x N)=N:=rfl
theorem xS(N:List aC.D)(s:aP):(ct N s).length≤N.length:=List.length_filter_le _ _
theorem Sx(v:ag.D)(c:aM.D)(x:aL.D)(dir:Int)(s:aP)(goes:Bool)(hl:v.2.1.length≤1048576)(hm:d_ v.2.1≤1048576){i:Nat}(h:bD v.2.1 dir=some i):
  pz ((v,c,x,()),dir,s,goes,())=some (((v.1,cond goes (goN (v.2.1.set i (cd (I J v.2.1 i) (ct (ax (I J v.2.1 i)) s))) (ea (ax (I J v.2.1 i)) s)) (v.2.1.set i (cd (I J v.2.1 i) (ct (ax (I J v.2.1 i)) s))),()),c,x,()),()):=by
 show OG (v,c,x,()) dir s goes=_;unfold OG;rw[Sl v dir hl,h];simp only[al,iN];obtain⟨hi,cm⟩:=ca h;have hn:=Nat.le_trans (gK hi) hm;rw[bf hi];simp only[al,Nat.beq_refl,cond_true];rw[acx _ _ hn];simp only[al];show Option.bind (GH (ax (I J v.2.1 i),s,())) _=_;rw[aos _ _ (cc (by omega))];simp only[al];show OF goes ((i:Int),v,()) (ea (ax (I J v.2.1 i)) s,()) (v,c,x,()) (v.2.1.set i (cd (I J v.2.1 i) (ct (ax (I J v.2.1 i)) s)))=_;have oA:(v.2.1.set i (cd (I J v.2.1 i) (ct (ax (I J v.2.1 i)) s))).length≤1048576:=by rw[List.length_set];exact hl
 have l4:d_ (v.2.1.set i (cd (I J v.2.1 i) (ct (ax (I J v.2.1 i)) s)))≤1048576:=by have:=Ky (l:=v.2.1) (y:=cd (I J v.2.1 i) (ct (ax (I J v.2.1 i)) s)) hi;rw[k5]at this;have:=xS (ax (I J v.2.1 i)) s;omega
 generalize v.2.1.set i (cd (I J v.2.1 i) (ct (ax (I J v.2.1 i)) s))=l at oA l4;generalize ea (ax (I J v.2.1 i)) s=id;unfold OF;cases goes
 ·rfl
 ·simp only[cond_true];show Option.bind (BD (((v.1,l,()):ag.D),id,())) _=_;rw[ab9 (v.1,l,()) id oA l4];simp only[al];unfold goN;by_cases h0:cC l id=0
  ·rw[show(((cC l id:Nat):Int)==0)=true by rw[h0];rfl,decide_eq_true h0];simp only[cond_true];show Option.bind (cond (room l.length) _ none) _=_;rw[cc (by omega)];rfl
  ·rw[show(((cC l id:Nat):Int)==0)=false by rw[beq_eq_false_iff_ne];omega,decide_eq_false h0];rfl
theorem Kz(v:ag.D)(n:aT)(hl:v.2.1.length≤1048576){i:Nat}(h:bD v.2.1 n.1=some i):pD (v,n,())=some ((v.1,v.2.1.set i n,()),()):=by show B8 v n=_;unfold B8;rw[qT v _ hl,h];simp only[al];rw[show decide (iN (some i)<0)=false from J8];simp only[cond_false,iN];rw[bf (ca h).1];simp only[al,Nat.zero_add]
theorem aot(v:ag.D)(n:aT)(hl:v.2.1.length≤1048576)(h:bD v.2.1 n.1=none):pD (v,n,())=some ((v.1,v.2.1++[n],()),()):=by show B8 v n=_;unfold B8;rw[qT v _ hl,h];simp only[al,J8,Option.isNone_none,cond_true];rw[cc (by simp;omega)];rfl
theorem Sy(v:ag.D)(dir:Int)(s:aP)(id:Int)(hl:v.2.1.length≤1048576){i:Nat}(h:bD v.2.1 dir=some i)(hn:(ax (I J v.2.1 i)).length≤1048576)(hs:∀d,d∈ax (I J v.2.1 i)→d.1≠s):
  uk (v,dir,s,id,())=some ((v.1,v.2.1.set i (cd (I J v.2.1 i) (ins (ax (I J v.2.1 i)) s id)),()),()):=by
 show Ig (jb aK) v dir s id=_;unfold Ig;rw[kb v dir hl h];simp only[al];obtain⟨hi,cm⟩:=ca h;generalize hN:ax (I J v.2.1 i)=N at hn hs;have cE:=Sv (ek s) N;have hw:bD v.2.1 (cd (I J v.2.1 i) (ins N s id)).1=some i:=by rw[show(cd (I J v.2.1 i) (ins N s id)).1=dir from cm];exact h
 have ac5:∀m,(jb (m+1)).wN v (0,([]:List J.D),()) (I J v.2.1 i) (ins N s id)=some ((v.1,v.2.1.set i (cd (I J v.2.1 i) (ins N s id)),()),()):=by intro m;show PD (jb m) v (0,([]:List J.D),()) (I J v.2.1 i) (ins N s id)=_;unfold PD;show Option.bind (pD (v,cd (I J v.2.1 i) (ins N s id),())) _=_;rw[Kz v _ hl hw];rfl
 have aou:∀(r j:Nat) (acc:List aC.D),j+r=N.length→acc++N.drop j=ins N s id→acc.length≤j+1→b6 (fun m=>(jb m).bs s id true (j:Int) v (0,([]:List J.D),()) (I J v.2.1 i) acc) (2*r+2) (some ((v.1,v.2.1.set i (cd (I J v.2.1 i) (ins N s id)),()),())):=by
  intro r
  induction r with
  |zero=>
   intro j acc hj he ha;refine b6.now 2 fun m=>?_
   show pE (jb (m+1)) s id true (j:Int) v (0,([]:List J.D),()) (I J v.2.1 i) acc=_;unfold pE;show cond (decide ((j:Int)<((ax (I J v.2.1 i)).length:Int))) _ _=_;rw[hN,cl (by omega)];rw[List.drop_of_length_le (by omega),List.append_nil]at he;rw[he];exact ac5 m
  |succ r ih=>
   intro j acc hj he ha;have hjl:j<N.length:=by omega
   have:=ih (j+1) (acc++[I aC N j]) (by omega) (by rw[List.append_assoc,List.singleton_append,←drop_cons (t:=aC) hjl];exact he) (by simp;omega);refine(this.jump (f:=fun m=>(jb m).bs s id true (j:Int) v (0,([]:List J.D),()) (I J v.2.1 i) acc) 2 fun m=>?_).mono (by omega);show pE (jb (m+1)) s id true (j:Int) v (0,([]:List J.D),()) (I J v.2.1 i) acc=_;unfold pE;show cond (decide ((j:Int)<((ax (I J v.2.1 i)).length:Int))) _ _=_;rw[hN,bN hjl];simp only[cond_true,Bool.not_true,cond_false];show w9 (jb m) s id true (j:Int) v (0,([]:List J.D),()) (I J v.2.1 i) acc=_;unfold w9;show Option.bind (ix (ax (I J v.2.1 i)).length (j:Int)) (fun v1=>cond (room (acc.length+1)) ((jb m).bs s id true (aw ((j:Int)+1)) v (0,([]:List J.D),()) (I J v.2.1 i) (acc++[I aC (ax (I J v.2.1 i)) v1])) none)=_;rw[hN,bf hjl];simp only[al];rw[cc (by omega),dH j (by omega)];rfl
 have kz:=pQ 2 (fun m j=>(jb m).bs s id false (j:Int) v (0,([]:List J.D),()) (I J v.2.1 i) (N.take j)) (some ((v.1,v.2.1.set i (cd (I J v.2.1 i) (ins N s id)),()),())) (N.takeWhile (ek s)).length (2*N.length+8) (fun j hj B y he=>(he.jump (f:=fun m=>(jb m).bs s id false (j:Int) v (0,([]:List J.D),()) (I J v.2.1 i) (N.take j)) 2 fun m=>by
  have hjl:j<N.length:=by omega
  show pE (jb (m+1)) s id false (j:Int) v (0,([]:List J.D),()) (I J v.2.1 i) (N.take j)=_;unfold pE;show cond (decide ((j:Int)<((ax (I J v.2.1 i)).length:Int))) (cond (!false) ((ix (ax (I J v.2.1 i)).length (j:Int)).bind fun v1=>cond (eo s (I aC (ax (I J v.2.1 i)) v1).1) _ _) _) _=_;rw[hN,bN hjl,bf hjl];simp only[cond_true,Bool.not_false,al];rw[acL (ac3 hj)];simp only[cond_false];show w9 (jb m) s id false (j:Int) v (0,([]:List J.D),()) (I J v.2.1 i) (N.take j)=_;unfold w9;show Option.bind (ix (ax (I J v.2.1 i)).length (j:Int)) (fun v1=>cond (room ((N.take j).length+1)) ((jb m).bs s id false (aw ((j:Int)+1)) v (0,([]:List J.D),()) (I J v.2.1 i) (N.take j++[I aC (ax (I J v.2.1 i)) v1])) none)=_;rw[hN,bf hjl];simp only[al]
  rw[cc (by rw[List.length_take];omega),dH j (by omega),c3 hjl,←List.take_succ_eq_append_getElem hjl];rfl)) (by
  rcases Nat.lt_or_ge (N.takeWhile (ek s)).length N.length with h1|h1
  ·
   generalize hj:(N.takeWhile (ek s)).length=j at h1 cE;have sF:N.take j++[(s,id,())]++N.drop j=ins N s id:=by rw[←hj,Kv,Kw];rfl
   have bQ:eo s (I aC N j).1=true:=by have:=ac4 (N:=N) (s:=s) (by omega);rw[hj]at this;rw[Sq (hs _ (de h1)),this];rfl
   have:=aou (N.length-(j+1)) (j+1) (N.take j++[(s,id,())]++[I aC N j]) (by omega) (by rw[List.append_assoc _ [I aC N j],List.singleton_append,←drop_cons (t:=aC) h1];exact sF) (by simp;omega);refine(this.jump (f:=fun m=>(jb m).bs s id false (j:Int) v (0,([]:List J.D),()) (I J v.2.1 i) (N.take j)) 2 fun m=>?_).mono (by omega);show pE (jb (m+1)) s id false (j:Int) v (0,([]:List J.D),()) (I J v.2.1 i) (N.take j)=_;unfold pE;show cond (decide ((j:Int)<((ax (I J v.2.1 i)).length:Int))) (cond (!false) ((ix (ax (I J v.2.1 i)).length (j:Int)).bind fun v1=>cond (eo s (I aC (ax (I J v.2.1 i)) v1).1) _ _) _) _=_;rw[hN,bN h1,bf h1];simp only[cond_true,Bool.not_false,al];rw[bQ];simp only[cond_true];rw[cc (by simp;omega)];simp only[cond_true];show w9 (jb m) s id true (j:Int) v (0,([]:List J.D),()) (I J v.2.1 i) (N.take j++[(s,id,())])=_;unfold w9;show Option.bind (ix (ax (I J v.2.1 i)).length (j:Int)) (fun v1=>cond (room ((N.take j++[(s,id,())]).length+1)) ((jb m).bs s id true (aw ((j:Int)+1)) v (0,([]:List J.D),()) (I J v.2.1 i) ((N.take j++[(s,id,())])++[I aC (ax (I J v.2.1 i)) v1])) none)=_;rw[hN,bf h1];simp only[al];rw[cc (by simp;omega),dH j (by omega)];rfl
  ·
   have hj:(N.takeWhile (ek s)).length=N.length:=by omega
   have sF:N++[(s,id,())]=ins N s id:=by unfold ins;rw[←Kw,←Kv,hj,List.take_length,List.drop_length,List.append_nil]
   rw[hj,List.take_length];refine(b6.now 2 fun m=>?_).mono (by omega);show pE (jb (m+1)) s id false (N.length:Int) v (0,([]:List J.D),()) (I J v.2.1 i) N=_;unfold pE;show cond (decide ((N.length:Int)<((ax (I J v.2.1 i)).length:Int))) _ _=_;rw[hN,cl (Nat.le_refl _)];simp only[cond_false,Bool.not_false,cond_true];rw[cc (by simp;omega),sF]
   exact ac5 m)
 exact l0 kz (by omega)
theorem jU{l:List aT}{i j:Nat}{y:aT}(hi:i<l.length):I J (l.set i y) j=if i=j then y else I J l j:=by
 by_cases hj:j<l.length
 ·rw[c3 (by rw[List.length_set];exact hj),c3 hj,List.getElem_set]
 ·rw[if_neg (by omega)];unfold I;rw[List.getD_eq_getElem?_getD,List.getD_eq_getElem?_getD,List.getElem?_eq_none (by rw[List.length_set];omega),List.getElem?_eq_none (by omega)]
theorem ac6{n:Nat}{P Q:Nat→Bool}(h:∀i,i<n→P i=Q i):fH n P=fH n Q:=by
 cases hq:fH n Q with
 |none=>exact mK.2 fun i hi=>by rw[h i hi];exact mK.1 hq i hi
 |some k=>obtain⟨h1,h2,h3⟩:=jd.1 hq;exact jd.2 ⟨h1,by rw[h k h1];exact h2,fun j hj=>by rw[h j (by omega)];exact h3 j hj⟩
theorem KA{l:List aT}{i:Nat}{y:aT}(hi:i<l.length)(aR:y.1=(I J l i).1)(id:Int):bD (l.set i y) id=bD l id:=by
 unfold bD;rw[List.length_set];refine ac6 fun j hj=>?_
 rw[jU hi];split
 ·rename_i h;rw[aR,h]
 ·rfl
def CW(l:List aT):Prop:=l.Pairwise fun a b=>bh a≠bh b
theorem CX{l:List aT}:jf l↔CW l:=by
 unfold CW;rw[List.pairwise_iff_getElem];constructor
 ·intro h i j hi hj jm he;have h1:=h i hi;have h2:=h j hj;rw[c3 hi]at h1;rw[c3 hj]at h2;have:(l[i]).1=(l[j]).1:=he;rw[this,h2]at h1;have:=aX h1;omega
 ·intro h x hx;unfold bD;rw[jd];refine⟨hx,by simp,fun j hj=>?_⟩;rw[beq_eq_false_iff_ne,c3 hx,c3 (i:=j) (by omega)];exact h j x (by omega) hx hj
theorem oI{l:List aT}{id:Int}:(bD l id).isSome=true↔∃x,x∈l∧x.1=id:=by
 constructor
 ·intro h;obtain⟨i,hi⟩:=Option.isSome_iff_exists.1 h;obtain⟨h1,h2⟩:=ca hi;exact⟨_,de h1,h2⟩
 ·rintro⟨x,hx,he⟩
  obtain⟨i,hi,aB⟩:=fJ hx
  cases h:bD l id with
  |some k=>rfl
  |none=>have:=mK.1 h i hi;rw[aB,he]at this;simp at this
theorem aov{l:List aT}{n:aT}{id:Int}{i:Nat}(h:bD l id=some i):bD (l++[n]) id=some i:=by
 obtain⟨h1,h2,h3⟩:=jd.1 h;have aB:∀j,j<l.length→I J (l++[n]) j=I J l j:=fun j hj=>by rw[c3 (by simp;omega),c3 hj,List.getElem_append_left hj]
 exact jd.2 ⟨by simp;omega,by rw[aB i h1];exact h2,fun j hj=>by rw[aB j (by omega)];exact h3 j hj⟩
theorem Sz{l:List aT}{n:aT}{j:Nat}(hj:j<l.length):I J (l++[n]) j=I J l j:=by rw[c3 (by simp;omega),c3 hj,List.getElem_append_left hj]
theorem ac7{l:List aT}{n y:aT}{i:Nat}(hi:i<l.length):(l++[n]).set i y=l.set i y++[n]:=by rw[List.set_append_left _ _ hi]
theorem SA{l:List aT}{id:Int}(h:cC l id=0):∀x,x∈l→∀d,d∈ax x→d.2.1≠id:=by
 intro x hx d af he;have h1:dJ (ax x) id≤cC l id:=by unfold cC;exact Sd (f:=fun x=>dJ (ax x) id) hx
 have h2:d∈(ax x).filter fun d=>d.2.1==id:=List.mem_filter.2 ⟨af,by simpa using he⟩
 have h3:0<dJ (ax x) id:=List.length_pos_of_mem h2;omega
theorem ac8{l:List aT}{i:Nat}{y:aT}(hi:i<l.length):bytesOf (l.set i y) +(bX (I J l i)).length=bytesOf l +(bX y).length:=by
 unfold bytesOf
 induction l generalizing i with
 |nil=>simp at hi
 |cons z l ih=>
  cases i with
  |zero=>simp only[List.set_cons_zero,List.map_cons,List.sum_cons];show _ +(bX z).length=_;omega
  |succ i=>have:=ih (i:=i) (by simpa using hi);simp only[List.set_cons_succ,List.map_cons,List.sum_cons];show _ +(bX (I J l i)).length=_;omega
theorem KB{α:Type}(f:α→Nat)(p:α→Bool):∀l:List α,((l.filter p).map f).sum≤(l.map f).sum
 | []=>Nat.le_refl _
 |x::l=>by
  have:=KB f p l;rw[List.filter_cons];split
  ·simp only[List.map_cons,List.sum_cons];omega
  ·simp only[List.map_cons,List.sum_cons];omega
structure az(B:Nat)(l:List aT):Prop where
 len:l.length≤B
 dC:d_ l≤B
 bytes:bytesOf l≤B
 jg:jf l
 jh:uL l
 bare:∀i,i<l.length→kindOf (I J l i)≠2→fZ (I J l i)=0∧fK (I J l i)=0∧ax (I J l i)=[]
theorem az.mono{B kN:Nat}{l:List aT}(h:az B l)(hb:B≤kN):az kN l:=⟨Nat.le_trans h.len hb,Nat.le_trans h.dC hb,Nat.le_trans h.bytes hb,h.jg,h.jh,h.bare⟩
theorem b7.dC{v:ag.D}(h:b7 v):d_ v.2.1≤288:=by
 have key:∀l:List aT,(∀x,x∈l→(ax x).length≤12)→d_ l≤l.length*12:=by
  intro l
  induction l with
  |nil=>intro _;exact Nat.le_refl _
  |cons x l ih=>
   intro hx;have h1:=hx x List.mem_cons_self;have h2:=ih fun y aR=>hx y (List.mem_cons_of_mem _ aR)
   show(ax x).length+d_ l≤(l.length+1)*12;omega
 have:=key v.2.1 fun x hx=>by
  obtain⟨i,hi,he⟩:=fJ hx;have h1:=h.ino i hi;rw[he]at h1;by_cases hk:kindOf x=2
  ·exact(h1.dir hk).2.2.2
  ·rw[(h1.plain hk).2.2];simp
 have:=h.len;omega
theorem b7.st{v:ag.D}(h:b7 v):az 400 v.2.1:=
 ⟨by have:=h.len;omega,by have:=h.dC;omega,h.bytes,h.jg,h.jh,fun i hi hk=>(h.ino i hi).plain hk⟩
theorem KC{l:List aT}:uL l↔∀x,x∈l→∀d,d∈ax x→∃y,y∈l∧y.1=d.2.1:=by
 constructor
 ·intro h x hx d af;obtain⟨i,hi,he⟩:=fJ hx;exact oI.1 (h i hi d (by rw[he];exact af))
 ·intro h i hi d af;exact oI.2 (h _ (de hi) d af)
theorem az.set{B k:Nat}{l:List aT}{i:Nat}{y:aT}(h:az B l)(hi:i<l.length)(aR:y.1=(I J l i).1)(hex:∀d,d∈ax y→(bD l d.2.1).isSome=true)
  (hb:kindOf y≠2→fZ y=0∧fK y=0∧ax y=[]) (hn:(ax y).length≤(ax (I J l i)).length+k) (af:(bX y).length≤(bX (I J l i)).length+k):az (B+k) (l.set i y):=by
 have h1:=Ky (l:=l) (y:=y) hi;have h2:=ac8 (l:=l) (y:=y) hi;have h3:=h.dC;have h4:=h.bytes;have a6:=h.len;refine⟨by rw[List.length_set];omega,by omega,by omega,fun x hx=>?_,fun j hj d af=>?_,fun j hj hk=>?_⟩
 ·rw[List.length_set]at hx;rw[KA hi aR,jU hi];split
  ·rename_i he;subst he;rw[aR];exact h.jg i hx
  ·exact h.jg x hx
 ·rw[List.length_set]at hj;rw[jU hi]at af;rw[KA hi aR];split at af
  ·exact hex d af
  ·exact h.jh j hj d af
 ·rw[List.length_set]at hj;rw[jU hi]at hk⊢;split at hk
  ·rename_i he;rw[if_pos he];exact hb hk
  ·rename_i he;rw[if_neg he];exact h.bare j hj hk
theorem aow{l:List aT}(p:aT→Bool)(h:CW l):CW (l.filter p):=List.Pairwise.sublist (List.filter_sublist) h
theorem az.go{B:Nat}{l:List aT}(h:az B l)(id:Int):az B (goN l id):=by
 unfold goN;by_cases h0:cC l id=0
 ·rw[decide_eq_true h0];simp only[cond_true];refine⟨Nat.le_trans (List.length_filter_le _ _) h.len,Nat.le_trans (KB _ _ _) h.dC,Nat.le_trans (KB _ _ _) h.bytes,CX.2 (aow _ (CX.1 h.jg)),KC.2 fun x hx d af=>?_,fun i hi hk=>?_⟩
  ·have hx:=(List.mem_filter.1 hx).1;obtain⟨y,aR,he⟩:=KC.1 h.jh x hx d af;refine⟨y,List.mem_filter.2 ⟨aR,?_⟩,he⟩;have:=SA h0 x hx d af;rw[Bool.not_eq_true',beq_eq_false_iff_ne,he];exact this
  ·have hx:=(List.mem_filter.1 (de (t:=J) hi)).1;obtain⟨j,hj,he⟩:=fJ hx;rw[←he]at hk⊢;exact h.bare j hj hk
 ·rw[decide_eq_false h0];exact h
theorem az.app{B k:Nat}{l:List aT}{n:aT}(h:az B l)(cm:bD l n.1=none)(hn:ax n=[])(af:(bX n).length≤k)(hk:1≤k)(hb:kindOf n≠2→fZ n=0∧fK n=0):az (B+k) (l++[n]):=by
 have h3:=h.dC;have h4:=h.bytes;have a6:=h.len;refine⟨by simp;omega,by unfold d_ at *;simp[hn];omega,by unfold bytesOf at *;simp;omega,CX.2 ?_,KC.2 fun x hx d j8=>?_,fun i hi hk=>?_⟩
 ·refine List.pairwise_append.2 ⟨CX.1 h.jg,List.pairwise_singleton _ _,fun a ha b dV he=>?_⟩;simp only[List.mem_singleton]at dV;subst dV;have:(bD l b.1).isSome=true:=oI.2 ⟨a,ha,he⟩;rw[cm]at this;cases this
 ·rcases List.mem_append.1 hx with hx|hx
  ·obtain⟨y,aR,he⟩:=KC.1 h.jh x hx d j8;exact⟨y,List.mem_append_left _ aR,he⟩
  ·simp only[List.mem_singleton]at hx;subst hx;rw[hn]at j8;simp at j8
 ·rcases Nat.lt_or_ge i l.length with hl|hl
  ·rw[Sz hl]at hk⊢;exact h.bare i hl hk
  ·have:i=l.length:=by simp at hi;omega
   subst this;have he:I J (l++[n]) l.length=n:=by rw[c3 (by simp)];simp
   rw[he]at hk⊢;exact⟨(hb hk).1,(hb hk).2,hn⟩
def fi(l:List aT):Int:=cond (decide ((bytesOf l:Int)>400)) 28 (cond (jO l) 122 0)
theorem ac9(l:List aT):0≤fi l∧fi l≤200:=by unfold fi;cases decide ((bytesOf l:Int)>400)<;>cases jO l<;>decide
theorem CY{B:Nat}(v:ag.D)(c:aM.D)(x:aL.D)(h:az B v.2.1)(hM:B≤1048576):ot ((v,c,x,()),())=some (fi v.2.1,()):=by have h1:=Nat.le_trans h.len hM;have h2:=Nat.le_trans h.dC hM;have h3:=Nat.le_trans h.bytes hM;show OA (v,c,x,())=_;unfold OA fi;show Option.bind (wu (v,())) _=_;rw[ab5 v h1 h3];simp only[al];show cond _ _ (Option.bind (F3 (v.2.1,v,())) _)=_;rw[anQ v h1 h2 h3 h.jg h.jh];simp only[al];cases decide ((bytesOf v.2.1:Int)>400)<;>cases jO v.2.1<;>rfl
theorem aox{B:Nat}(v:ag.D)(h:az B v.2.1)(hM:B≤1048576):PB (v,())=some (fi v.2.1,()):=by have h1:=Nat.le_trans h.len hM;have h2:=Nat.le_trans h.dC hM;have h3:=Nat.le_trans h.bytes hM;show PA v=_;unfold PA fi;rw[ab4 v h1 h3];simp only[al];rw[anR v h1 h2 h3 (fun i hi hk=>⟨(h.bare i hi hk).1,(h.bare i hi hk).2.1⟩)];simp only[al];cases decide ((bytesOf v.2.1:Int)>400)<;>cases jO v.2.1<;>rfl
theorem CZ{B:Nat}(u v:ag.D)(h:az B v.2.1)(hM:B≤1048576):r7 (u,v,())=some (cond (fi v.2.1==0) v u,(fi v.2.1,[],()),()):=by
 show PC u v=_;unfold PC;rw[aox v h hM];simp only[al];by_cases h0:fi v.2.1=0
 ·rw[eA h0,cL h0,h0];rfl
 ·rw[dv h0,bY h0];rfl
def C0:List aC.D→aP→Int
 | [],_=>0
 |d::r,s=>cond (bx d.1 s) d.2.1 (C0 r s)
theorem aoy{n:Nat}{P:Nat→Bool}:fH (n+1) P=cond (P 0) (some 0) ((fH n fun i=>P (i+1)).map (· + 1)):=by
 cases h0:P 0
 ·simp only[cond_false]
  cases h:fH n fun i=>P (i+1)with
  |none=>
   refine mK.2 fun i hi=>?_
   cases i with
   |zero=>exact h0
   |succ i=>exact mK.1 h i (by omega)
  |some k=>
   obtain⟨h1,h2,h3⟩:=jd.1 h;refine jd.2 ⟨show k+1<n+1 by omega,h2,fun j hj=>?_⟩;have hj:j<k+1:=hj
   cases j with
   |zero=>exact h0
   |succ j=>exact h3 j (by omega)
 ·exact jd.2 ⟨by omega,h0,fun j hj=>by omega⟩
theorem look_eq(s:aP):∀N:List aC.D,ea N s=C0 N s
 | []=>rfl
 |d::r=>by
  unfold ea C0;rw[List.length_cons,aoy];show CR (d::r) (cond (bx d.1 s) _ _)=_;cases af:bx d.1 s
  ·simp only[cond_false];rw[←look_eq s r];unfold ea;show CR (d::r) ((fH r.length (sy r s)).map (· + 1))=_;cases fH r.length (sy r s)<;>rfl
  ·rfl
def xT(N:List aC.D)(s:aP)(id:Int):Int:=N.foldl (fun a d=>cond (bx d.1 s) d.2.1 a) id
theorem ac_{s:aP}{id:Int}:∀{N:List aC.D},(∀d,d∈N→d.1≠s)→xT N s id=id
 | [],_=>rfl
 |d::r,h=>by
  have h1:bx d.1 s=false:=by unfold bx;simpa using h d List.mem_cons_self
  unfold xT;rw[List.foldl_cons,h1];exact ac_ fun e he=>h e (List.mem_cons_of_mem _ he)
theorem ac'{s:aP}:∀{N:List aC.D},jT N→xT N s 0=ea N s
 | [],_=>rfl
 |d::r,h=>by
  obtain⟨h1,h2⟩:=List.pairwise_cons.1 h;rw[look_eq,C0,←look_eq];unfold xT;rw[List.foldl_cons];cases af:bx d.1 s
  ·exact ac' h2
  ·have af:d.1=s:=by unfold bx at af;simpa using af
   refine ac_ fun e he=>?_
   have:=h1 e he;rw[af]at this;exact(Kn this).symm
theorem SB(v:ag.D)(dir:Int)(s:aP)(hl:v.2.1.length≤1048576)(hm:d_ v.2.1≤1048576){i:Nat}(h:bD v.2.1 dir=some i)(hs:jT (ax (I J v.2.1 i))):
  pG (v,dir,s,())=some ((v.1,goN (v.2.1.set i (cd (I J v.2.1 i) (ct (ax (I J v.2.1 i)) s))) (ea (ax (I J v.2.1 i)) s),()),()):=by
 show Ii (lW aK) v dir s=_;unfold Ii;rw[kb v dir hl h];simp only[al];obtain⟨hi,cm⟩:=ca h;have hn:=Nat.le_trans (gK hi) hm;have l4:d_ (v.2.1.set i (cd (I J v.2.1 i) (ct (ax (I J v.2.1 i)) s)))≤1048576:=by have:=Ky (l:=v.2.1) (y:=cd (I J v.2.1 i) (ct (ax (I J v.2.1 i)) s)) hi;rw[k5]at this;have:=xS (ax (I J v.2.1 i)) s;omega
 have oA:(v.2.1.set i (cd (I J v.2.1 i) (ct (ax (I J v.2.1 i)) s))).length≤1048576:=by rw[List.length_set];exact hl
 rw[←ac' hs];generalize hN:ax (I J v.2.1 i)=N at hn hs l4 oA;have hw:bD v.2.1 (cd (I J v.2.1 i) (ct N s)).1=some i:=by rw[show(cd (I J v.2.1 i) (ct N s)).1=dir from cm];exact h
 have key:∀(r j:Nat) (id:Int),j+r=N.length→b6 (fun m=>(lW m).bs s id (j:Int) v (0,([]:List J.D),()) (I J v.2.1 i) (ct (N.take j) s)) (r+1048580) (some ((v.1,goN (v.2.1.set i (cd (I J v.2.1 i) (ct N s))) (xT (N.drop j) s id),()),())):=by
  intro r
  induction r with
  |zero=>
   intro j id hj;have Kx:j=N.length:=by omega
   subst Kx;rw[List.drop_length,List.take_length];show b6 _ _ (some ((v.1,goN (v.2.1.set i (cd (I J v.2.1 i) (ct N s))) id,()),()))
   have hb:∀m,(lW (m+1)).bs s id (N.length:Int) v (0,([]:List J.D),()) (I J v.2.1 i) (ct N s) =
     cond (decide (((cC (v.2.1.set i (cd (I J v.2.1 i) (ct N s))) id:Nat):Int)>0)) (some ((v.1,v.2.1.set i (cd (I J v.2.1 i) (ct N s)),()),())) ((lW m).rX id 0 (v.1,v.2.1.set i (cd (I J v.2.1 i) (ct N s)),()) (0,([]:List J.D),()) ([]:List J.D)):=by
    intro m;show B_ (lW m) s id (N.length:Int) v (0,([]:List J.D),()) (I J v.2.1 i) (ct N s)=_;unfold B_;show cond (decide ((N.length:Int)<((ax (I J v.2.1 i)).length:Int))) _ (Option.bind (pD (v,cd (I J v.2.1 i) (ct N s),())) _)=_;rw[hN,cl (Nat.le_refl _),Kz v _ hl hw];simp only[cond_false,al];rw[ab8 (v.1,v.2.1.set i (cd (I J v.2.1 i) (ct N s)),()) id oA l4];rfl
   generalize v.2.1.set i (cd (I J v.2.1 i) (ct N s))=l at hb oA;unfold goN;by_cases h0:cC l id=0
   ·rw[decide_eq_true h0];simp only[cond_true]
    have aoz:=pQ 1 (fun m j=>(lW m).rX id (j:Int) (v.1,l,()) (0,([]:List J.D),()) ((l.take j).filter fun y=> !(y.1==id))) (some ((v.1,l.filter fun y=> !(y.1==id),()),())) l.length 1 (fun j hj B y he=>he.step fun m=>by
     have iJ:((l.take j).filter fun y=> !(y.1==id)).length≤j:=Nat.le_trans (List.length_filter_le _ _) (by rw[List.length_take];omega);show B' (lW m) id (j:Int) (v.1,l,()) (0,([]:List J.D),()) ((l.take j).filter fun y=> !(y.1==id))=_;unfold B';show cond (decide ((j:Int)<(l.length:Int))) ((ix l.length (j:Int)).bind fun v1=>cond (!((I J l (0+v1)).1==id)) _ _) _=_;rw[bN hj,bf hj];simp only[cond_true,al,Nat.zero_add];rw[dH j (by omega),List.take_succ_eq_append_getElem hj,List.filter_append,List.filter_cons,List.filter_nil,c3 hj];cases hc:(!((l[j]).1==id))
     ·simp
     ·simp only[cond_true,if_true]
      rw[cc (by simp only[List.length_cons,List.length_nil];omega)];rfl) (b6.now 1 fun m=>by
     show B' (lW m) id (l.length:Int) (v.1,l,()) (0,([]:List J.D),()) ((l.take l.length).filter fun y=> !(y.1==id))=_;unfold B';show cond (decide ((l.length:Int)<(l.length:Int))) _ _=_
     rw[cl (Nat.le_refl _),List.take_length];rfl)
    refine(aoz.jump (f:=fun m=>(lW m).bs s id (N.length:Int) v (0,([]:List J.D),()) (I J v.2.1 i) (ct N s)) 1 fun m=>?_).mono (by omega);rw[hb m,decide_eq_false (by omega)];rfl
   ·rw[decide_eq_false h0];simp only[cond_false];refine(b6.now 1 fun m=>?_).mono (by omega);rw[hb m,decide_eq_true (by omega)];rfl
  |succ r ih=>
   intro j id hj;have hjl:j<N.length:=by omega
   have ih:=ih (j+1) (cond (bx (I aC N j).1 s) (I aC N j).2.1 id) (by omega);have iw:xT (N.drop (j+1)) s (cond (bx (I aC N j).1 s) (I aC N j).2.1 id)=xT (N.drop j) s id:=by rw[drop_cons (t:=aC) hjl];rfl
   rw[iw]at ih;refine(ih.jump (f:=fun m=>(lW m).bs s id (j:Int) v (0,([]:List J.D),()) (I J v.2.1 i) (ct (N.take j) s)) 1 fun m=>?_).mono (by omega);have iJ:(ct (N.take j) s).length≤j:=Nat.le_trans (List.length_filter_le _ _) (by rw[List.length_take];omega);show B_ (lW m) s id (j:Int) v (0,([]:List J.D),()) (I J v.2.1 i) (ct (N.take j) s)=_;unfold B_
   show cond (decide ((j:Int)<((ax (I J v.2.1 i)).length:Int))) ((ix (ax (I J v.2.1 i)).length (j:Int)).bind fun v1=>cond (bx (I aC (ax (I J v.2.1 i)) v1).1 s)
    ((ix (ax (I J v.2.1 i)).length (j:Int)).bind fun v2=>(lW m).bs s (I aC (ax (I J v.2.1 i)) v2).2.1 (aw ((j:Int)+1)) v (0,([]:List J.D),()) (I J v.2.1 i) (ct (N.take j) s))
    ((ix (ax (I J v.2.1 i)).length (j:Int)).bind fun v3=>cond (room ((ct (N.take j) s).length+1)) ((lW m).bs s id (aw ((j:Int)+1)) v (0,([]:List J.D),()) (I J v.2.1 i) (ct (N.take j) s++[I aC (ax (I J v.2.1 i)) v3])) none)) _=_
   rw[hN,bN hjl,bf hjl];simp only[cond_true,al];rw[dH j (by omega)];have y0:ct (N.take (j+1)) s=ct (N.take j) s++cond (bx (I aC N j).1 s) [] [I aC N j]:=by unfold ct;rw[List.take_succ_eq_append_getElem hjl,List.filter_append,List.filter_cons,List.filter_nil,c3 hjl];cases bx (N[j]).1 s<;>rfl
   rw[y0];cases bx (I aC N j).1 s
   ·simp only[cond_false];rw[cc (by omega)];rfl
   ·simp only[cond_true,List.append_nil]
 have:=key N.length 0 0 (by omega);rw[List.drop_zero]at this;exact l0 this (by omega)
theorem bits_nat(op:BinOp)(x y:Nat):cZ op .i64 (x:Int) (y:Int)=(match op with
 |.and=>IntKind.wrap .i64 ((BitVec.ofNat 64 x &&& BitVec.ofNat 64 y).toNat:Int)
 |.or=>IntKind.wrap .i64 ((BitVec.ofNat 64 x ||| BitVec.ofNat 64 y).toNat:Int)
 |.xor=>IntKind.wrap .i64 ((BitVec.ofNat 64 x ^^^ BitVec.ofNat 64 y).toNat:Int)
 |_=>IntKind.wrap .i64 ((BitVec.ofNat 64 x &&& ~~~BitVec.ofNat 64 y).toNat:Int)):=by
 unfold cZ;rw[show(IntKind.i64).bits=64 from rfl];simp only[BitVec.ofInt_natCast];cases op<;>rfl
theorem aoA{x y:Nat}(hx:x<4611686018427387904)(aR:y<4611686018427387904):cZ .and .i64 (x:Int) (y:Int)=((x &&& y:Nat):Int):=by rw[bits_nat];simp only;rw[BitVec.toNat_and,BitVec.toNat_ofNat,BitVec.toNat_ofNat,Nat.mod_eq_of_lt (show x<2^64 by omega),Nat.mod_eq_of_lt (show y<2^64 by omega)];have:x &&& y≤x:=Nat.and_le_left;exact dG (by omega) (by omega)
theorem ada{x y:Nat}(hx:x<4611686018427387904)(aR:y<4611686018427387904):cZ .or .i64 (x:Int) (y:Int)=((x ||| y:Nat):Int):=by
 rw[bits_nat];simp only;rw[BitVec.toNat_or,BitVec.toNat_ofNat,BitVec.toNat_ofNat,Nat.mod_eq_of_lt (show x<2^64 by omega),Nat.mod_eq_of_lt (show y<2^64 by omega)];have:x ||| y<2^62:=Nat.or_lt_two_pow (by omega) (by omega)
 exact dG (by omega) (by omega)
theorem aoB{x:Nat}(h:x<2048):x &&& 1024=1024*(x / 1024):=by have h1:(x &&& 1024) / 2^10=x / 2^10 &&& 1024 / 2^10:=Nat.and_div_two_pow;have h2:(x &&& 1024)%2^10=x%2^10 &&& 1024%2^10:=Nat.and_mod_two_pow;rw[show 1024 / 2^10=1 from rfl,Nat.and_one_is_mod]at h1;rw[show 1024%2^10=0 from rfl,Nat.and_zero]at h2;omega
theorem aoC{m:Int}(h:0≤m)(h':m≤2047):cZ .and .i64 m 1024=0∨cZ .and .i64 m 1024=1024:=by
 obtain⟨n,rfl⟩:∃n:Nat,m=n:=⟨m.toNat,by omega⟩
 have:=aoA (x:=n) (y:=1024) (by omega) (by omega);rw[show((1024:Nat):Int)=1024 from rfl]at this;rw[this,aoB (by omega)];omega
theorem aoD{m:Int}(h:0≤m)(h':m≤2047):cZ .or .i64 m 0=m:=by
 obtain⟨n,rfl⟩:∃n:Nat,m=n:=⟨m.toNat,by omega⟩
 have:=ada (x:=n) (y:=0) (by omega) (by omega);rw[show((0:Nat):Int)=0 from rfl]at this;rw[this,Nat.or_zero]
theorem aoE{m:Int}(h:0≤m)(h':m≤2047):0≤cZ .or .i64 m 1024∧cZ .or .i64 m 1024≤2047:=by
 obtain⟨n,rfl⟩:∃n:Nat,m=n:=⟨m.toNat,by omega⟩
 have:=ada (x:=n) (y:=1024) (by omega) (by omega);rw[show((1024:Nat):Int)=1024 from rfl]at this;rw[this];have:n ||| 1024<2^11:=Nat.or_lt_two_pow (by omega) (by omega)
 omega
def aD(x:aL.D):Int:=x.1
def fB(x:aL.D):aP:=x.2.1
def ji(x:aL.D):aP:=x.2.2.1
def bU(x:aL.D):Int:=x.2.2.2.1
def eB(x:aL.D):Int:=x.2.2.2.2.1
def dP(x:aL.D):aP:=x.2.2.2.2.2.1
structure iO(x:aL.D):Prop where
 dn:1≤aD x∧aD x≤22
 path:(fB x).length≤60
 q4:(ji x).length≤60
 h6:(dP x).length≤64
 n : -1000000≤bU x∧bU x≤1000000
 m : -1000000≤eB x∧eB x≤1000000
 aoF:ji x=[]∨aD x=9∨aD x=10∨aD x=12
 adb:dP x=[]∨aD x=5∨aD x=6
theorem uQ{x:aL.D}:fp x=true↔iO x:=by
 unfold fp;simp only[Bool.and_eq_true,Bool.or_eq_true,decide_eq_true_eq,beq_iff_eq,oH];constructor
 ·rintro⟨⟨⟨⟨⟨⟨⟨h1,h2⟩,h3⟩,h4⟩,a6⟩,bj⟩,bL⟩,dk⟩
  exact⟨cR.1 h1,Int.ofNat_le.1 h2,Int.ofNat_le.1 h3,Int.ofNat_le.1 h4,cR.1 a6,cR.1 bj,bL,dk⟩
 ·intro h;exact⟨⟨⟨⟨⟨⟨⟨cR.2 h.dn,Int.ofNat_le.2 h.path⟩,Int.ofNat_le.2 h.q4⟩,Int.ofNat_le.2 h.h6⟩,cR.2 h.n⟩,cR.2 h.m⟩,h.aoF⟩,h.adb⟩
theorem sG{N:List aC.D}{s:aP}{id:Int}{d:aC.D}:d∈ins N s id↔d∈N∨d=(s,id,()):=by
 have:=List.takeWhile_append_dropWhile (p:=ek s) (l:=N);unfold ins
 conv=>rhs;rw[←this]
 simp only[List.mem_append,List.mem_singleton];constructor
 ·rintro ((h|h)|h)
  ·exact .inl (.inl h)
  ·exact .inr h
  ·exact .inl (.inr h)
 ·rintro ((h|h)|h)
  ·exact .inl (.inl h)
  ·exact .inr h
  ·exact .inl (.inr h)
theorem C1{N:List aC.D}{s:aP}(h:ea N s=0)(h0:∀d,d∈N→d.2.1≠0):∀d,d∈N→d.1≠s:=by
 intro d af he;obtain⟨i,hi,aB⟩:=fJ af;unfold ea at h
 cases hf:fH N.length (sy N s)with
 |none=>have:=mK.1 hf i hi;unfold sy bx at this;rw[aB]at this;simp[he]at this
 |some j=>rw[hf]at h;obtain⟨h1,_,_⟩:=jd.1 hf;exact h0 _ (de h1) h
theorem b7.ade{v:ag.D}(h:b7 v){x:aT}(hx:x∈v.2.1):1≤bh x∧bh x≤gM v-1:=by obtain⟨i,hi,he⟩:=fJ hx;have:=h.ids i hi;rw[he]at this;exact this
theorem b7.C2{v:ag.D}(h:b7 v){i:Nat}(hi:i<v.2.1.length){d:aC.D}(af:d∈ax (I J v.2.1 i)):d.2.1≠0:=by obtain⟨y,aR,he⟩:=oI.1 (h.jh i hi d af);have h1:=h.ade aR;intro h0;have:bh y=0:=he.trans h0;omega
theorem b7.free{v:ag.D}(h:b7 v):bD v.2.1 v.1=none:=by
 cases hi:bD v.2.1 v.1 with
 |none=>rfl
 |some i=>obtain⟨h1,h2⟩:=ca hi;have:=h.ids i h1;have h2:bh (I J v.2.1 i)=gM v:=h2;omega
theorem b7.kA{v:ag.D}(h:b7 v):sB v.2.1:=
 ⟨by have:=h.len;omega,by have:=h.dC;omega,h.jg,h.jh,fun i hi hk=>((h.ino i hi).plain hk).2.2,fun i hi hk=>((h.ino i hi).oE hk).1,0,by
  have:=h.jg 0 (by have:=h.len;omega)
  rwa[show(I J v.2.1 0).1=1 from h.root.1]at this,h.root.2⟩
def bt(v:ag.D)(c:aM.D)(x:aL.D)(a:Option (Int×aO.D×Unit))(b:Option (ag.D×an.D×Unit))(Q:ag.D→Prop):Prop:=
 ∃(code:Int) (w:ag.D),a=some (code,(w,c,x,()),())∧b=some (cond (code==0) w v,(code,[],()),())∧(code=0→Q w)∧0≤code∧code≤200
theorem bt.no{v:ag.D}{c:aM.D}{x:aL.D}{a:Option (Int×aO.D×Unit)}{b:Option (ag.D×an.D×Unit)}{Q:ag.D→Prop}(code:Int)(h0:code≠0)(ha:a=some (code,(v,c,x,()),()))(hb:b=some (v,(code,[],()),()))(hr:0≤code∧code≤200:=by decide):bt v c x a b Q:=
 ⟨code,v,ha,by rw[bY h0];exact hb,fun h=>absurd h h0,hr⟩
theorem bt.yes{v:ag.D}{c:aM.D}{x:aL.D}{a:Option (Int×aO.D×Unit)}{b:Option (ag.D×an.D×Unit)}{Q:ag.D→Prop}(code:Int)(w:ag.D)(hq:code=0→Q w)(ha:a=some (code,(w,c,x,()),()))(hb:b=some (cond (code==0) w v,(code,[],()),()))(hr:0≤code∧code≤200:=by first|decide|exact ac9 _):bt v c x a b Q:=
 ⟨code,w,ha,hb,hq,hr⟩
def KD(x:aL.D):Int:=if aD x=1 then 2 else if aD x=10 then 3 else 1
def xU(x:aL.D)(d:aT):Int:=if aD x=10 then 511 else if aD x=1∧cZ .and .i64 (fr d) 1024≠0 then cZ .or .i64 (bU x) 1024 else bU x
def C3(c:aM.D)(d:aT):Int:=if cZ .and .i64 (fr d) 1024≠0 then fL d else c.2.1
def gV(v:ag.D)(c:aM.D)(x:aL.D)(d:aT):aT:=(v.1,KD x,xU x d,c.1,C3 c d,if aD x=10 then ji x else [],[],0,0,())
def sH(x:aL.D):Bool:=cond (aD x==10) (!k0 (ji x)) (!cA (bU x) 0 2047)
structure Made(v:ag.D)(c:aM.D)(x:aL.D)(w:ag.D):Prop where
 bad:sH x=false
 out:∃r i,iu v.2.1 r∧bP r=2∧nameOf r≠[]∧bD v.2.1 (cw r)=some i∧kindOf (I J v.2.1 i)=2∧may c (I J v.2.1 i) 3=true∧(ax (I J v.2.1 i)).length<12∧v.2.1.length<24∧gM v<100000 ∧
  w=(v.1+1,v.2.1.set i (cd (I J v.2.1 i) (ins (ax (I J v.2.1 i)) (nameOf r) v.1))++[gV v c x (I J v.2.1 i)],())∧fi w.2.1=0∧fo (v,c,fB x,false,())=some (r,())
theorem aoG(m:Nat)(a b):(lV (m+1)).bn a b=OB (lV m) a b:=rfl
theorem aoH(m:Nat)(a b d):(lV (m+1)).im a b d=OC (lV m) a b d:=rfl
theorem aoI(m:Nat)(a b d e f):(kv (m+1)).k3 a b d e f=PE (kv m) a b d e f:=rfl
theorem aoJ(m:Nat)(a b d e f):(kv (m+1)).ku a b d e f=PF (kv m) a b d e f:=rfl
theorem C4(v:ag.D)(c:aM.D)(x:aL.D)(id:Int)(hl:v.2.1.length≤1048576)(hc:d' c=true){i:Nat}(h:bD v.2.1 id=some i):oq ((v,c,x,()),id,())=some (may c (I J v.2.1 i) 3,()):=by show Oy (v,c,x,()) id=_;unfold Oy;show Option.bind (gy (v,id,())) _=_;rw[oD v id hl h];simp only[al,List.isEmpty_cons,Bool.not_false,cond_true];show Option.bind (qy (c,I J v.2.1 i,3,())) _=_;rw[CP c _ 3 hc];rfl
theorem aoK(v:ag.D)(c:aM.D)(x:aL.D)(hv:b7 v)(hc:d' c=true)(hx:iO x):bt v c x (BK ((v,c,x,()),())) (w_ (v,c,x,())) (Made v c x):=by
 have cG:=hv.kA;have hl:v.2.1.length≤1048576:=cG.len;have av:=hx.path;obtain⟨q,hq,jy⟩:=kZ 4
 have fh:BK ((v,c,x,()),())=cond (sH x) (some (22,(v,c,x,()),())) ((lV aK).bn (v,c,x,()) x):=by
  show Gz (lV aK) (v,c,x,())=_;unfold Gz sH;show cond (aD x==10) (Option.bind (By (ji x,())) fun v1=>cond (!v1.1) _ (cond (!(aD x==10)) _ _)) (cond (!(aD x==10)) (Option.bind (dO (bU x,0,2047,())) _) _)=_;rw[ab2 _ (by have:=hx.q4;omega)];cases aD x==10
  ·simp only[cond_false,Bool.not_false,cond_true,al];rw[jL];rfl
  ·simp only[cond_true,Bool.not_true,cond_false,al]
 have dg:w_ (v,c,x,())=cond (sH x) (some (v,(22,[],()),())) ((kv aK).k3 v c x (0,([]:List J.D),()) (0,([]:aP),())):=by
  show Ih (kv aK) v c x=_;unfold Ih sH;show cond (aD x==10) (Option.bind (Hl (ji x,())) fun v1=>cond (!v1.1) _ (cond (!(aD x==10)) _ _)) (cond (!(aD x==10)) (Option.bind (dF (bU x,0,2047,())) _) _)=_;rw[anr];cases aD x==10
  ·simp only[cond_false,Bool.not_false,cond_true,al];rw[j_];rfl
  ·simp only[cond_true,Bool.not_true,cond_false,al]
 rw[fh,dg]
 cases hb:sH x with
 |true=>exact bt.no 22 (by decide) rfl rfl
 |false=>
 simp only[cond_false];rw[hq,aoG,aoI];unfold OB PE;obtain⟨r,eS,code,SC,SD,gU,SE⟩:=ac1 v c x (fB x) cG hc (by omega);show bt v c x (Option.bind (wJ ((v,c,x,()),fB x,())) _) (Option.bind (w8 (v,c,fB x,())) _) _;rw[SC,SD];simp only[al];by_cases b_:code=0
 case neg=>rw[dv b_];exact bt.no code b_ rfl rfl gU
 obtain⟨rfl,hr,gZ,q5,SF⟩:=SE b_;rw[eA b_];simp only[cond_false];obtain⟨pT,lv,d,af,gz,oJ⟩:=hr.new gZ q5;have hdl:=ca af;show bt v c x (Option.bind (oq ((v,c,x,()),cw eS,())) _) (Option.bind (fG (v,cw eS,())) _) _;rw[C4 v c x _ hl hc af,kb v _ hl af];simp only[al];rw[qX c _ 3 hc];simp only[al]
 cases hm:may c (I J v.2.1 d) 3 with
 |false=>exact bt.no 13 (by decide) rfl rfl
 |true=>
 simp only[Bool.not_true,cond_false];show bt v c x (Option.bind (gy (v,cw eS,())) _) _ _;rw[oD v _ hl af];simp only[al,List.isEmpty_cons,Bool.not_false,cond_true];have iv:=hv.ino d hdl.1;have adf:=(iv.dir gz).2.2.2;show bt v c x (cond (((ax (I J v.2.1 d)).length:Int)==12) _ (cond ((v.2.1.length:Int)==24) _ (cond (gM v==100000) _ _))) (cond (decide (((ax (I J v.2.1 d)).length:Int)≥12)) _ (cond (decide ((v.2.1.length:Int)≥24)) _ (cond (decide (gM v≥100000)) _ _))) _;by_cases ko:(ax (I J v.2.1 d)).length=12
 ·rw[show(((ax (I J v.2.1 d)).length:Int)==12)=true by rw[ko];rfl,decide_eq_true (by omega)];exact bt.no 28 (by decide) rfl rfl
 rw[show(((ax (I J v.2.1 d)).length:Int)==12)=false by rw[beq_eq_false_iff_ne];omega,decide_eq_false (show ¬((ax (I J v.2.1 d)).length:Int)≥12 by omega)];simp only[cond_false];have hlen:=hv.len;have rM:=hv.next;by_cases aoL:v.2.1.length=24
 ·rw[show((v.2.1.length:Int)==24)=true by rw[aoL];rfl,decide_eq_true (by omega)];exact bt.no 28 (by decide) rfl rfl
 rw[show((v.2.1.length:Int)==24)=false by rw[beq_eq_false_iff_ne];omega,decide_eq_false (show ¬(v.2.1.length:Int)≥24 by omega)];simp only[cond_false];by_cases SG:gM v=100000
 ·rw[cL SG,decide_eq_true (show gM v≥100000 by omega)];exact bt.no 28 (by decide) rfl rfl
 rw[bY SG,decide_eq_false (show ¬gM v≥100000 by omega)];simp only[cond_false];obtain⟨w,hw⟩:∃w:ag.D,w=(v.1+1,v.2.1.set d (cd (I J v.2.1 d) (ins (ax (I J v.2.1 d)) (nameOf eS) v.1))++[gV v c x (I J v.2.1 d)],()):=⟨_,rfl⟩
 have aoM:aw (v.1+1)=v.1+1:=cH (a:=gM v+1) (by omega) (by omega)
 have au8:az 1000 (v.2.1++[gV v c x (I J v.2.1 d)]):=(hv.st.app (k:=100) (n:=gV v c x (I J v.2.1 d)) hv.free rfl (by
  show(if aD x=10 then ji x else []).length≤100;have:=hx.q4;split
  ·omega
  ·simp) (by omega) (fun _=>⟨rfl,rfl⟩)).mono (by omega)
 have hst:az 1000 w.2.1:=by
  rw[hw];have aB:I J (v.2.1++[gV v c x (I J v.2.1 d)]) d=I J v.2.1 d:=Sz hdl.1
  have:=(hv.st.app (k:=100) (n:=gV v c x (I J v.2.1 d)) hv.free rfl (by
   show(if aD x=10 then ji x else []).length≤100;have:=hx.q4;split
   ·omega
   ·simp) (by omega) (fun _=>⟨rfl,rfl⟩)).set (k:=1) (i:=d) (y:=cd (I J v.2.1 d) (ins (ax (I J v.2.1 d)) (nameOf eS) v.1)) (by simp;omega) (by rw[aB];rfl) (by
    intro e he;rcases sG.1 he with he|rfl
    ·obtain⟨y,aR,zX⟩:=oI.1 (hv.jh d hdl.1 e he);exact oI.2 ⟨y,List.mem_append_left _ aR,zX⟩
    ·exact oI.2 ⟨gV v c x (I J v.2.1 d),List.mem_append_right _ (List.mem_singleton.2 rfl),rfl⟩) (fun hk=>absurd gz hk) (by
    rw[aB];show(ins (ax (I J v.2.1 d)) (nameOf eS) v.1).length≤_;rw[Aa];omega) (by rw[aB];exact Nat.le_add_right _ _)
  rw[ac7 hdl.1]at this;exact this.mono (by omega)
 have hfin:∀m n,bt v c x ((lV (m+1)).im (v,c,x,()) eS (gV v c x (I J v.2.1 d))) ((kv (n+1)).ku v (0,([]:List J.D),()) (0,([]:aP),()) eS (gV v c x (I J v.2.1 d))) (Made v c x):=by
  intro m n;rw[aoH,aoJ];unfold OC PF;rw[zZ v hl (fun i hi=>Nat.le_trans (gK hi) cG.dC)];simp only[al];rw[aoM];show bt v c x (Option.bind (uc (((v.1+1,v.2.1,()),c,x,()),cw eS,nameOf eS,v.1,())) _) (Option.bind (pD ((v.1+1,v.2.1,()),gV v c x (I J v.2.1 d),())) _) _;rw[Sw (v.1+1,v.2.1,()) c x (cw eS) (nameOf eS) v.1 hl af (Nat.le_trans (gK hdl.1) cG.dC),aot (v.1+1,v.2.1,()) _ hl hv.free];simp only[al];have aB:I J (v.2.1++[gV v c x (I J v.2.1 d)]) d=I J v.2.1 d:=Sz hdl.1
  have Ke:=Sy (v.1+1,v.2.1++[gV v c x (I J v.2.1 d)],()) (cw eS) (nameOf eS) v.1 (by simp;omega) (aov af) (by
   show(ax (I J (v.2.1++[gV v c x (I J v.2.1 d)]) d)).length≤_
   rw[aB];exact Nat.le_trans (gK hdl.1) cG.dC) (by
   show ∀e,e∈ax (I J (v.2.1++[gV v c x (I J v.2.1 d)]) d)→_
   rw[aB];exact C1 oJ fun e he=>hv.C2 hdl.1 he)
  rw[show((v.1+1,v.2.1++[gV v c x (I J v.2.1 d)],()):ag.D).2.1=v.2.1++[gV v c x (I J v.2.1 d)] from rfl,aB,ac7 hdl.1,←hw]at Ke;show bt v c x _ (Option.bind (uk ((v.1+1,v.2.1++[gV v c x (I J v.2.1 d)],()),cw eS,nameOf eS,v.1,())) _) _;rw[Ke];simp only[al];rw[CZ v w hst (by omega)];simp only[al];rw[cc (by simp;omega)];simp only[cond_true];show bt v c x (Option.bind (ot (((v.1+1,v.2.1.set d (cd (I J v.2.1 d) (ins (ax (I J v.2.1 d)) (nameOf eS) v.1))++[gV v c x (I J v.2.1 d)],()),c,x,()),())) fun v2=>some (v2.1,((v.1+1,v.2.1.set d (cd (I J v.2.1 d) (ins (ax (I J v.2.1 d)) (nameOf eS) v.1))++[gV v c x (I J v.2.1 d)],()),c,x,()),())) _ _;rw[←hw,CY w c x hst (by omega)];exact⟨fi w.2.1,w,rfl,rfl,fun h=>⟨hb,eS,d,hr,gZ,q5,af,gz,hm,by omega,by omega,by omega,hw,h,SF⟩,ac9 _⟩
 have hN:aD x≠10→0≤bU x∧bU x≤2047:=by intro hk;unfold sH at hb;rw[bY hk]at hb;simp only[cond_false,Bool.not_eq_false']at hb;exact cR.1 hb
 have KE:=iv.mode;have SH:=aoC KE.1 KE.2
 show bt v c x (cond (cZ .and .i64 (fr (I J v.2.1 d)) 1024 != 0)
   (cond (aD x==1) ((lV (q+3)).im (v,c,x,()) eS (v.1,2,cZ .or .i64 (bU x) (cZ .and .i64 (fr (I J v.2.1 d)) 1024),c.1,fL (I J v.2.1 d),[],[],0,0,()))
    (cond (aD x==10) ((lV (q+3)).im (v,c,x,()) eS (v.1,3,511,c.1,fL (I J v.2.1 d),ji x,[],0,0,())) ((lV (q+3)).im (v,c,x,()) eS (v.1,1,bU x,c.1,fL (I J v.2.1 d),[],[],0,0,()))))
   (cond (aD x==1) ((lV (q+3)).im (v,c,x,()) eS (v.1,2,cZ .or .i64 (bU x) (cZ .and .i64 (fr (I J v.2.1 d)) 1024),c.1,c.2.1,[],[],0,0,()))
    (cond (aD x==10) ((lV (q+3)).im (v,c,x,()) eS (v.1,3,511,c.1,c.2.1,ji x,[],0,0,())) ((lV (q+3)).im (v,c,x,()) eS (v.1,1,bU x,c.1,c.2.1,[],[],0,0,())))))
  (cond (aD x==1) ((kv (q+3)).B9 v x (0,([]:List J.D),()) (0,([]:aP),()) eS (I J v.2.1 d) (v.1,2,bU x,c.1,c.2.1,[],[],0,0,())) ((kv (q+3)).B9 v x (0,([]:List J.D),()) (0,([]:aP),()) eS (I J v.2.1 d) (v.1,1,bU x,c.1,c.2.1,[],[],0,0,()))) (Made v c x)
 have yJ:∀(n:aT),(kv (q+3)).B9 v x (0,([]:List J.D),()) (0,([]:aP),()) eS (I J v.2.1 d) n=cond (aD x==10) ((kv (q+2)).hB v (0,([]:List J.D),()) (0,([]:aP),()) eS (I J v.2.1 d) (n.1,3,511,n.2.2.2.1,n.2.2.2.2.1,ji x,n.2.2.2.2.2.2.1,n.2.2.2.2.2.2.2.1,n.2.2.2.2.2.2.2.2.1,())) ((kv (q+2)).hB v (0,([]:List J.D),()) (0,([]:aP),()) eS (I J v.2.1 d) n):=fun n=>rfl
 have C5:∀(n:aT),(kv (q+2)).hB v (0,([]:List J.D),()) (0,([]:aP),()) eS (I J v.2.1 d) n=cond (cZ .and .i64 (fr (I J v.2.1 d)) 1024 != 0)
   (cond (n.2.1==2) ((kv (q+1)).ku v (0,([]:List J.D),()) (0,([]:aP),()) eS (n.1,n.2.1,cZ .or .i64 n.2.2.1 1024,n.2.2.2.1,fL (I J v.2.1 d),n.2.2.2.2.2.1,n.2.2.2.2.2.2.1,n.2.2.2.2.2.2.2.1,n.2.2.2.2.2.2.2.2.1,()))
    ((kv (q+1)).ku v (0,([]:List J.D),()) (0,([]:aP),()) eS (n.1,n.2.1,n.2.2.1,n.2.2.2.1,fL (I J v.2.1 d),n.2.2.2.2.2.1,n.2.2.2.2.2.2.1,n.2.2.2.2.2.2.2.1,n.2.2.2.2.2.2.2.2.1,()))) ((kv (q+1)).ku v (0,([]:List J.D),()) (0,([]:aP),()) eS n):=fun n=>rfl
 simp only[yJ,C5];have iy:=hfin (q+2) q;unfold gV KD xU C3 at iy;by_cases k1:aD x=1
 ·have dd:aD x≠10:=by omega
  have q6:=hN dd;rw[cL k1,bY dd];rw[if_pos k1,if_neg dd,if_neg dd]at iy;simp only[cond_true,cond_false];rcases SH with gG|gG
  ·rw[gG]at iy⊢;rw[if_neg (by simp),if_neg (by simp)]at iy;rw[aoD q6.1 q6.2];exact iy
  ·rw[gG]at iy⊢;rw[if_pos ⟨k1,by decide⟩,if_pos (by decide)]at iy;exact iy
 ·rw[bY k1];rw[if_neg k1]at iy;by_cases dd:aD x=10
  ·rw[cL dd];rw[if_pos dd,if_pos dd,if_pos dd]at iy;simp only[cond_true,cond_false];rcases SH with gG|gG
   ·rw[gG]at iy⊢;rw[if_neg (by simp)]at iy;exact iy
   ·rw[gG]at iy⊢;rw[if_pos (by decide)]at iy;exact iy
  ·rw[bY dd];rw[if_neg dd,if_neg dd,if_neg dd,if_neg (fun h=>k1 h.1)]at iy;simp only[cond_false];rcases SH with gG|gG
   ·rw[gG]at iy⊢;rw[if_neg (by simp)]at iy;exact iy
   ·rw[gG]at iy⊢;rw[if_pos (by decide)]at iy;exact iy
def lB(v:ag.D)(i:Nat)(s:aP):ag.D:=(v.1,goN (v.2.1.set i (cd (I J v.2.1 i) (ct (ax (I J v.2.1 i)) s))) (ea (ax (I J v.2.1 i)) s),())
structure C6(v:ag.D)(c:aM.D)(x:aL.D)(w:ag.D):Prop where
 out:∃r i j,iu v.2.1 r∧bP r=0∧nameOf r≠[]∧bD v.2.1 (cw r)=some i∧kindOf (I J v.2.1 i)=2∧ea (ax (I J v.2.1 i)) (nameOf r)=bz r∧bD v.2.1 (bz r)=some j∧ax (I J v.2.1 j)=[] ∧
  (aD x=2→kindOf (I J v.2.1 j)=2)∧(aD x=8→kindOf (I J v.2.1 j)≠2)∧w=lB v i (nameOf r)
theorem aoN(m:Nat)(a b d):(pA (m+1)).bs a b d=OH (pA m) a b d:=rfl
theorem aoO(m:Nat)(a b d):(pA (m+1)).ee a b d=OI (pA m) a b d:=rfl
theorem aoP(m:Nat)(a b d):(pA (m+1)).gd a b d=OJ (pA m) a b d:=rfl
theorem aoQ(m:Nat)(a b d):(pA (m+1)).dt a b d=OK (pA m) a b d:=rfl
theorem aoR(m:Nat)(a b d e f g h):(r_ (m+1)).ee a b d e f g h=PH (r_ m) a b d e f g h:=rfl
theorem aoS(m:Nat)(a b d e f g h):(r_ (m+1)).gd a b d e f g h=PI (r_ m) a b d e f g h:=rfl
theorem aoT(m:Nat)(a b d e f g):(r_ (m+1)).dt a b d e f g=PJ (r_ m) a b d e f g:=rfl
theorem aoU(v:ag.D)(c:aM.D)(x:aL.D)(hv:b7 v)(hc:d' c=true)(hx:iO x)(hk:aD x=2∨aD x=8):bt v c x (GJ ((v,c,x,()),())) (Ca (v,c,x,())) (C6 v c x):=by
 have cG:=hv.kA;have hl:v.2.1.length≤1048576:=cG.len;have av:=hx.path;obtain⟨q,hq,jy⟩:=kZ 4;show bt v c x (GI (pA aK) (v,c,x,())) (Ij (r_ aK) v c x) _;unfold GI Ij;obtain⟨r,⟨hr,_⟩,C7,f_⟩:=CV v c x (fB x) false cG hc (by omega);show bt v c x (Option.bind (lU ((v,c,x,()),fB x,false,())) _) (Option.bind (fo (v,c,fB x,false,())) _) _;rw[C7,f_];simp only[al];show bt v c x (cond (bP r != 0) (some (bP r,(v,c,x,()),())) _) (cond (bP r != 0) (some (v,(bP r,[],()),())) _) _;by_cases b_:bP r=0
 case neg=>rw[dv b_];exact bt.no (bP r) b_ rfl rfl (iu.rg ‹_›)
 rw[eA b_];simp only[cond_false,px];obtain⟨j,hj⟩:=hr.there b_;have hjl:=ca hj;show bt v c x (Option.bind (gy (v,bz r,())) _) (Option.bind (fG (v,bz r,())) _) _;rw[oD v _ hl hj,kb v _ hl hj];simp only[al,List.isEmpty_cons,Bool.not_false,cond_true];rw[hq,aoN];unfold OH;rw[aoO,aoR];show bt v c x (cond (aD x==2) (cond (bx (nameOf r) []) _ _) _) (cond (aD x==2) (cond (bx (nameOf r) []) _ _) _) _;have aoV:nameOf r=[]→kindOf (I J v.2.1 j)=2:=by intro h;obtain⟨fe,h1,h2⟩:=hr.bare b_ h;rw[hj]at h1;rw[aX h1];exact h2
 by_cases c_:aD x=2∧nameOf r=[]
 ·rw[cL c_.1,oH.2 c_.2];exact bt.no 16 (by decide) rfl rfl
 have rE:∀{α:Type} (a b:α),cond (aD x==2) (cond (bx (nameOf r) []) a b) b=b:=by
  intro α a b;by_cases h2:aD x=2
  ·rw[cL h2];have:bx (nameOf r) []=false:=by rw[←Bool.not_eq_true,oH];exact fun h=>c_ ⟨h2,h⟩
   rw[this];rfl
  ·rw[bY h2];rfl
 rw[rE,rE];unfold OI PH;rw[aoP,aoS];show bt v c x (cond (aD x==2) (cond (kindOf (I J v.2.1 j) != 2) _ _) _) (cond (aD x==2) (cond (kindOf (I J v.2.1 j) != 2) _ _) _) _;by_cases iM:aD x=2∧kindOf (I J v.2.1 j)≠2
 ·rw[cL iM.1,dv iM.2];exact bt.no 20 (by decide) rfl rfl
 have adg:∀{α:Type} (a b:α),cond (aD x==2) (cond (kindOf (I J v.2.1 j) != 2) a b) b=b:=by
  intro α a b;by_cases h2:aD x=2
  ·rw[cL h2,eA (Decidable.byContradiction fun h=>iM ⟨h2,h⟩)];rfl
  ·rw[bY h2];rfl
 rw[adg,adg];unfold OJ PI;rw[aoQ,aoT];show bt v c x (cond (aD x==8) (cond (kindOf (I J v.2.1 j)==2) _ _) _) (cond (aD x==8) (cond (kindOf (I J v.2.1 j)==2) _ _) _) _;by_cases cm:aD x=8∧kindOf (I J v.2.1 j)=2
 ·rw[cL cm.1,cL cm.2];exact bt.no 21 (by decide) rfl rfl
 have adh:∀{α:Type} (a b:α),cond (aD x==8) (cond (kindOf (I J v.2.1 j)==2) a b) b=b:=by
  intro α a b;by_cases h2:aD x=8
  ·rw[cL h2,bY (fun h=>cm ⟨h2,h⟩)];rfl
  ·rw[bY h2];rfl
 rw[adh,adh]
 have jG:nameOf r≠[]:=by
  intro h;rcases hk with h2|dk
  ·exact c_ ⟨h2,h⟩
  ·exact cm ⟨dk,aoV h⟩
 obtain⟨pT,lv,d,af,gz,oJ⟩:=hr.named b_ jG;have hdl:=ca af;have iv:=hv.ino d hdl.1;unfold OK PJ;show bt v c x (Option.bind (oq ((v,c,x,()),cw r,())) _) (Option.bind (fG (v,cw r,())) _) _;rw[C4 v c x _ hl hc af,kb v _ hl af];simp only[al];rw[qX c _ 3 hc];simp only[al]
 cases hm:may c (I J v.2.1 d) 3 with
 |false=>exact bt.no 13 (by decide) rfl rfl
 |true=>
 simp only[Bool.not_true,cond_false];show bt v c x (Option.bind (gy (v,cw r,())) _) _ _;rw[oD v _ hl af];simp only[al,List.isEmpty_cons,Bool.not_false,cond_true];show bt v c x (Option.bind (ud (c,I J v.2.1 d,I J v.2.1 j,())) _) _ _;rw[Sk c _ _ hc,Sj c _ _ hc];simp only[al]
 cases ht:qY c (I J v.2.1 d) (I J v.2.1 j)with
 |false=>exact bt.no 1 (by decide) rfl rfl
 |true=>
 simp only[Bool.not_true,cond_false];show bt v c x (cond (aD x==2) (cond (decide (((ax (I J v.2.1 j)).length:Int)>0)) _ _) _) (cond (decide (((ax (I J v.2.1 j)).length:Int)>0)) _ _) _;rw[zZ v hl (fun i hi=>Nat.le_trans (gK hi) cG.dC)];simp only[al]
 show bt v c x (cond (aD x==2) (cond (decide (((ax (I J v.2.1 j)).length:Int)>0)) (some (39,(v,c,x,()),())) (Option.bind (pz ((v,c,x,()),cw r,nameOf r,true,())) fun v4=>some (0,v4.1,()))) (Option.bind (pz ((v,c,x,()),cw r,nameOf r,true,())) fun v4=>some (0,v4.1,())))
  (cond (decide (((ax (I J v.2.1 j)).length:Int)>0)) (some (v,(39,[],()),())) (Option.bind (pG (v,cw r,nameOf r,())) fun v5=>some (v5.1,(0,[],()),()))) _
 rw[Sx v c x _ _ true hl cG.dC af,SB v _ _ hl cG.dC af iv.sorted];simp only[al,cond_true];by_cases h0:ax (I J v.2.1 j)=[]
 ·rw[h0,show decide ((([]:List aC.D).length:Int)>0)=false from rfl];have:C6 v c x (lB v d (nameOf r)):=⟨r,d,j,hr,b_,jG,af,gz,oJ,hj,h0,fun h=>Decidable.byContradiction fun h'=>iM ⟨h,h'⟩,fun h h'=>cm ⟨h,h'⟩,rfl⟩;refine bt.yes 0 (lB v d (nameOf r)) (fun _=>this) ?_ rfl;cases aD x==2<;>rfl
 ·have aoW:0<(ax (I J v.2.1 j)).length:=List.length_pos_iff.2 h0;have mw:kindOf (I J v.2.1 j)=2:=Decidable.byContradiction fun h=>h0 ((hv.ino j hjl.1).plain h).2.2
  have hk2:aD x=2:=by
   rcases hk with h|h
   ·exact h
   ·exact absurd ⟨h,mw⟩ cm
  rw[decide_eq_true (by omega),cL hk2];exact bt.no 39 (by decide) rfl rfl
def xV(v:ag.D)(i:Nat)(s:aP)(id:Int):ag.D:=(v.1,v.2.1.set i (cd (I J v.2.1 i) (ins (ax (I J v.2.1 i)) s id)),())
structure KF(v:ag.D)(c:aM.D)(x:aL.D)(w:ag.D):Prop where
 out:∃r t i j,iu v.2.1 r∧bP r=0∧bD v.2.1 (bz r)=some j∧kindOf (I J v.2.1 j)≠2∧iu v.2.1 t∧bP t=2∧nameOf t≠[]∧bD v.2.1 (cw t)=some i∧kindOf (I J v.2.1 i)=2 ∧
  (ax (I J v.2.1 i)).length<12∧w=xV v i (nameOf t) (bz r)∧fi w.2.1=0∧fo (v,c,fB x,false,())=some (r,())∧fo (v,c,ji x,false,())=some (t,())
theorem aoX{v:ag.D}(hv:b7 v){i:Nat}(hi:i<v.2.1.length)(hk:kindOf (I J v.2.1 i)=2)(s:aP){id:Int}(cm:(bD v.2.1 id).isSome=true):az 1000 (xV v i s id).2.1:=by
 have:=hv.st.set (k:=1) (i:=i) (y:=cd (I J v.2.1 i) (ins (ax (I J v.2.1 i)) s id)) hi rfl (by
  intro e he;rcases sG.1 he with he|rfl
  ·exact hv.jh i hi e he
  ·exact cm) (fun h=>absurd hk h) (by show(ins (ax (I J v.2.1 i)) s id).length≤_;rw[Aa];omega) (Nat.le_add_right _ _)
 exact this.mono (by omega)
theorem aoY(v:ag.D)(c:aM.D)(x:aL.D)(hv:b7 v)(hc:d' c=true)(hx:iO x):bt v c x (GK ((v,c,x,()),())) (Ik (v,c,x,())) (KF v c x):=by
 have cG:=hv.kA;have hl:v.2.1.length≤1048576:=cG.len;have av:=hx.path;have aoZ:=hx.q4;show bt v c x (OM (v,c,x,())) (PL v c x) _;unfold OM PL;obtain⟨r,⟨hr,_⟩,C7,f_⟩:=CV v c x (fB x) false cG hc (by omega);show bt v c x (Option.bind (lU ((v,c,x,()),fB x,false,())) _) (Option.bind (fo (v,c,fB x,false,())) _) _;rw[C7,f_];simp only[al];show bt v c x (cond (bP r != 0) (some (bP r,(v,c,x,()),())) _) (cond (bP r != 0) (some (v,(bP r,[],()),())) _) _;by_cases b_:bP r=0
 case neg=>rw[dv b_];exact bt.no (bP r) b_ rfl rfl (iu.rg ‹_›)
 rw[eA b_];simp only[cond_false];obtain⟨j,hj⟩:=hr.there b_;have hjl:=ca hj;show bt v c x (Option.bind (BL (v,bz r,())) _) (Option.bind (zt (v,bz r,())) _) _;rw[acw v _ hl,acv v _ hl];simp only[al]
 cases SI:pR v.2.1 (bz r)with
 |true=>exact bt.no 1 (by decide) rfl rfl
 |false=>
 simp only[cond_false];have mw:kindOf (I J v.2.1 j)≠2:=by unfold pR at SI;rw[hj]at SI;exact beq_eq_false_iff_ne.1 SI
 obtain⟨t,cQ,code,SC,SD,gU,SE⟩:=ac1 v c x (ji x) cG hc (by omega);show bt v c x (Option.bind (wJ ((v,c,x,()),ji x,())) _) (Option.bind (w8 (v,c,ji x,())) _) _;rw[SC,SD];simp only[al];by_cases KG:code=0
 case neg=>rw[dv KG];exact bt.no code KG rfl rfl gU
 obtain⟨rfl,ht,adi,htn,SF⟩:=SE KG;rw[eA KG];simp only[cond_false];obtain⟨pT,lv,d,af,gz,oJ⟩:=ht.new adi htn;have hdl:=ca af;show bt v c x (Option.bind (oq ((v,c,x,()),cw cQ,())) _) (Option.bind (fG (v,cw cQ,())) _) _;rw[C4 v c x _ hl hc af,kb v _ hl af];simp only[al];rw[qX c _ 3 hc];simp only[al]
 cases hm:may c (I J v.2.1 d) 3 with
 |false=>exact bt.no 13 (by decide) rfl rfl
 |true=>
 simp only[Bool.not_true,cond_false];show bt v c x (Option.bind (gy (v,cw cQ,())) _) _ _;rw[oD v _ hl af];simp only[al,List.isEmpty_cons,Bool.not_false,cond_true];have iv:=hv.ino d hdl.1;have adf:=(iv.dir gz).2.2.2;show bt v c x (cond (((ax (I J v.2.1 d)).length:Int)==12) _ _) (cond (decide (((ax (I J v.2.1 d)).length:Int)≥12)) _ _) _;by_cases ko:(ax (I J v.2.1 d)).length=12
 ·rw[show(((ax (I J v.2.1 d)).length:Int)==12)=true by rw[ko];rfl,decide_eq_true (by omega)];exact bt.no 28 (by decide) rfl rfl
 rw[show(((ax (I J v.2.1 d)).length:Int)==12)=false by rw[beq_eq_false_iff_ne];omega,decide_eq_false (show ¬((ax (I J v.2.1 d)).length:Int)≥12 by omega)];simp only[cond_false];rw[zZ v hl (fun i hi=>Nat.le_trans (gK hi) cG.dC)];simp only[al];have hnl:=Nat.le_trans (gK hdl.1) cG.dC;show bt v c x (Option.bind (uc ((v,c,x,()),cw cQ,nameOf cQ,bz r,())) _) (Option.bind (uk (v,cw cQ,nameOf cQ,bz r,())) _) _;rw[Sw v c x _ _ _ hl af hnl,Sy v _ _ _ hl af hnl (C1 oJ fun e he=>hv.C2 hdl.1 he)];simp only[al];show bt v c x (Option.bind (ot ((xV v d (nameOf cQ) (bz r),c,x,()),())) fun br=>some (br.1,(xV v d (nameOf cQ) (bz r),c,x,()),())) (Option.bind (r7 (v,xV v d (nameOf cQ) (bz r),())) fun cj=>some (cj.1,cj.2.1,())) _;have hst:=aoX hv hdl.1 gz (nameOf cQ) (id:=bz r) (by rw[hj];rfl);rw[CY _ c x hst (by omega),CZ v _ hst (by omega)];exact bt.yes _ _ (fun h=>⟨r,cQ,d,j,hr,b_,hj,mw,ht,adi,htn,af,gz,by omega,rfl,h,f_,SF⟩) rfl rfl
def oK(l:List aT):Nat→Int→Int→Bool
 |0,_,_=>false
 |k+1,id,top=>cond (id==top) true (cond (id==1) false (oK l k (lz l id) top))
theorem ao0(v:ag.D)(id top:Int)(hl:v.2.1.length≤1048576)(hn:d_ v.2.1≤1048576):Cb (v,id,top,())=some (oK v.2.1 (v.2.1.length+1) id top,()):=by
 show Im (xc aK) v id top=_;unfold Im
 have key:∀(r k m:Nat) (id:Int),k+r=v.2.1.length+1→r<m→xc m id top (k:Int) v=some (oK v.2.1 r id top,()):=by
  intro r
  induction r with
  |zero=>intro k m id hk hm;obtain⟨m,rfl,_⟩:=fuel hm;simp only[xc,Io];rw[decide_eq_false (by omega)];rfl
  |succ r ih=>intro k m id hk hm;obtain⟨m,rfl,qj⟩:=fuel hm;simp only[xc,Io];rw[decide_eq_true (show(k:Int)≤(v.2.1.length:Int) by omega),acy v id hl hn,dH k (by omega)];simp only[cond_true,al];rw[ih (k+1) m _ (by omega) (by omega),oK];cases id==top<;>cases id==1<;>rfl
 exact key (v.2.1.length+1) 0 aK id (by omega) (jc (by omega))
theorem SJ{α:Type}{f:α→Nat}:∀{l:List α},(∀x,x∈l→f x=0)→(l.map f).sum=0
 | [],_=>rfl
 |x::l,h=>by simp only[List.map_cons,List.sum_cons];rw[h x List.mem_cons_self,SJ fun y aR=>h y (List.mem_cons_of_mem _ aR)]
def up(l:List aT):Nat→Int→Int
 |0,d=>d
 |k+1,d=>up l k (lz l d)
theorem SK{α:Type}(f:α→Nat):∀(l:List α) (i j:Nat) (hi:i<l.length) (hj:j<l.length),i<j→f l[i]+f l[j]≤(l.map f).sum
 | [],_,_,hi,_,_=>by simp at hi
 |x::l,i,j+1,hi,hj,jm=>by
  cases i with
  |zero=>simp only[List.getElem_cons_zero,List.getElem_cons_succ,List.map_cons,List.sum_cons];have:=Sd (f:=f) (List.getElem_mem (l:=l) (by simpa using hj:j<l.length));omega
  |succ i=>simp only[List.getElem_cons_succ,List.map_cons,List.sum_cons];have:=SK f l i j (by simpa using hi) (by simpa using hj) (by omega);omega
theorem SL{N:List aC.D}{id:Int}:qZ N id=true↔0<dJ N id:=by
 constructor
 ·intro h;obtain⟨j,h1,h2,_⟩:=Kl h;unfold l2 at h2;exact List.length_pos_of_mem (List.mem_filter.2 ⟨de h1,h2⟩)
 ·intro h;obtain⟨d,af⟩:=List.exists_mem_of_length_pos h;obtain⟨h1,h2⟩:=List.mem_filter.1 af;obtain⟨i,hi,he⟩:=fJ h1
  cases hb:qZ N id with
  |true=>rfl
  |false=>have:=Sn hb i hi;unfold l2 at this;rw[he,h2]at this;cases this
theorem KH{l:List aT}(af:jf l){b d:Int}(h1:cC l d=1)(h:E l b d):lz l d=b:=by
 obtain⟨i,e,hi,he,rfl⟩:=h;obtain⟨bm,pO⟩:=ca hi;have hci:0<dJ (ax (I J l i)) e.2.1:=List.length_pos_of_mem (List.mem_filter.2 ⟨he,by simp⟩);unfold lz
 cases av:Kk l e.2.1 with
 |none=>have:=mK.1 av i bm;rw[SL.2 hci]at this;cases this
 |some j=>
  obtain⟨hj,ao1,_⟩:=jd.1 av;have adj:=SL.1 ao1
  have:j=i:=by
   refine Decidable.byContradiction fun hne=>?_
   rcases Nat.lt_or_gt_of_ne hne with h|h
   ·have:=SK (fun x=>dJ (ax x) e.2.1) l j i hj bm h;rw[c3 hj]at adj;rw[c3 bm]at hci;unfold cC at h1;have h2:dJ (ax l[j]) e.2.1+dJ (ax l[i]) e.2.1≤(l.map fun x=>dJ (ax x) e.2.1).sum:=this;omega
   ·have:=SK (fun x=>dJ (ax x) e.2.1) l i j bm hj h;rw[c3 hj]at adj;rw[c3 bm]at hci;unfold cC at h1;have h2:dJ (ax l[i]) e.2.1+dJ (ax l[j]) e.2.1≤(l.map fun x=>dJ (ax x) e.2.1).sum:=this;omega
  subst this;exact pO
theorem b7.SM{v:ag.D}(h:b7 v){a:Int}:¬eg v.2.1 a 1:=by
 intro hb
 have hE:∀b,¬E v.2.1 b 1:=by
  rintro b ⟨i,d,hi,af,he⟩
  exact((h.ino i (ca hi).1).names d af).2.1 he
 cases hb with
 |single h=>exact hE _ h
 |tail _ h=>exact hE _ h
theorem b7.adk{v:ag.D}(h:b7 v){b d:Int}(he:E v.2.1 b d):d≠1:=by
 rintro rfl
 exact h.SM (.single he)
theorem b7.SN{v:ag.D}(h:b7 v){d:Int}(af:mL v.2.1 d)(h1:d≠1):cC v.2.1 d=1:=by
 obtain⟨i,hi,hk⟩:=af;obtain⟨bm,cm⟩:=ca hi
 have:=h.once i (by
  rcases Nat.eq_zero_or_pos i with h0|h0
  ·subst h0;exact absurd ((show(I J v.2.1 0).1=1 from h.root.1).symm.trans cm).symm h1
  ·exact h0) bm hk
 rwa[cm]at this
theorem b7.ao2{v:ag.D}(h:b7 v){b d:Int}(he:E v.2.1 b d):mL v.2.1 b:=by obtain⟨i,e,hi,hm,_⟩:=he;refine⟨i,hi,Decidable.byContradiction fun hk=>?_⟩;rw[((h.ino i (ca hi).1).plain hk).2.2]at hm;simp at hm
theorem b7.ao3{v:ag.D}(h:b7 v){a d:Int}(af:mL v.2.1 d)(h1:d≠1):eg v.2.1 a d↔a=lz v.2.1 d∨eg v.2.1 a (lz v.2.1 d):=by
 have ho:=h.SN af h1;constructor
 ·intro hb
  cases hb with
  |single he=>exact .inl (KH h.jg ho he).symm
  |tail hb he=>rw[KH h.jg ho he];exact .inr hb
 ·intro hb
  have hE:E v.2.1 (lz v.2.1 d) d:=by
   cases av:Kk v.2.1 d with
   |none=>
    exfalso;have h0:=mK.1 av
    have:cC v.2.1 d=0:=by
     unfold cC;refine SJ fun x hx=>?_
     obtain⟨i,hi,aB⟩:=fJ hx;have:=h0 i hi;rw[aB]at this;refine Decidable.byContradiction fun hc=>?_
     rw[SL.2 (by omega)]at this;cases this
    omega
   |some i=>obtain⟨hi,hh,_⟩:=jd.1 av;obtain⟨j,hj,adl,_⟩:=Kl hh;unfold lz;rw[av];exact⟨i,I aC (ax (I J v.2.1 i)) j,h.jg i hi,de hj,by unfold l2 at adl;simpa using adl⟩
  rcases hb with rfl|hb
  ·exact .single hE
  ·exact .tail hb hE
theorem ao4{v:ag.D}(h:b7 v)(top:Int):∀(n k:Nat) (d:Int),mL v.2.1 d→up v.2.1 n d=1→n<k→(oK v.2.1 k d top=true↔d=top∨eg v.2.1 top d):=by
 intro n
 induction n with
 |zero=>
  intro k d af hu hk;obtain⟨k,rfl,_⟩:=fuel hk;have hu:d=1:=hu;subst hu;rw[oK];by_cases h1:(1:Int)=top
  ·rw[cL h1];exact⟨fun _=>.inl h1,fun _=>rfl⟩
  ·rw[bY h1];exact⟨fun h=>(by cases h),fun h'=>h'.elim (fun h=>absurd h h1) fun hb=>absurd hb h.SM⟩
 |succ n ih=>
  intro k d af hu hk;obtain⟨k,rfl,dy⟩:=fuel hk;rw[oK];by_cases h1:d=top
  ·rw[cL h1];exact⟨fun _=>.inl h1,fun _=>rfl⟩
  ·rw[bY h1];by_cases h2:d=1
   ·rw[cL h2];subst h2;exact⟨fun h=>(by cases h),fun h'=>h'.elim (fun h=>absurd h h1) fun hb=>absurd hb h.SM⟩
   ·rw[bY h2];simp only[cond_false];rw[ih k (lz v.2.1 d) (Ss h.kA _) hu (by omega),h.ao3 af h2];constructor
    ·rintro (h|h)
     ·exact .inr (.inl h.symm)
     ·exact .inr (.inr h)
    ·rintro (h|h|h)
     ·exact absurd h h1
     ·exact .inl h.symm
     ·exact .inr h
theorem up_add(l:List aT)(a:Nat):∀(b:Nat) (d:Int),up l (a+b) d=up l a (up l b d)
 |0,_=>rfl
 |b+1,d=>up_add l a b (lz l d)
theorem b7.ao5{v:ag.D}(h:b7 v){d:Int}(af:mL v.2.1 d):∃n,up v.2.1 n d=1:=by
 obtain⟨i,hi,hk⟩:=af;obtain⟨bm,cm⟩:=ca hi;rcases Nat.eq_zero_or_pos i with h0|h0
 ·subst h0;exact⟨0,cm.symm.trans (show(I J v.2.1 0).1=1 from h.root.1)⟩
 ·have hb:=h.reach i h0 bm;rw[cm]at hb
  have key:∀d,eg v.2.1 1 d→mL v.2.1 d→∃n,up v.2.1 n d=1:=by
   intro d hb
   induction hb with
   |single he=>intro af;have h1:=h.adk he;exact⟨1,KH h.jg (h.SN af h1) he⟩
   |tail hb he ih=>intro af;have h1:=h.adk he;obtain⟨n,hn⟩:=ih (h.ao2 he);exact⟨n+1,by show up v.2.1 n (lz v.2.1 _)=1;rw[KH h.jg (h.SN af h1) he];exact hn⟩
  exact key d hb ⟨i,hi,hk⟩
theorem least{P:Nat→Prop}:∀n,P n→∃m,P m∧∀k,k<m→¬P k:=by
 intro n
 induction n using Nat.strongRecOn with
 |_ n ih=>
  intro hn;by_cases h:∃k,k<n∧P k
  ·obtain⟨k,hk,av⟩:=h;exact ih k hk av
  ·exact⟨n,hn,fun k hk av=>h ⟨k,hk,av⟩⟩
theorem adm{v:ag.D}(h:b7 v):∀(n:Nat) {d:Int},mL v.2.1 d→mL v.2.1 (up v.2.1 n d)
 |0,_,af=>af
 |n+1,d,_=>adm h n (Ss h.kA d)
theorem b7.ao6{v:ag.D}(h:b7 v){d:Int}(af:mL v.2.1 d):∃n,n<v.2.1.length∧up v.2.1 n d=1:=by
 obtain⟨ao7,h0⟩:=h.ao5 af;obtain⟨n,hn,ao8⟩:=least (P:=fun n=>up v.2.1 n d=1) ao7 h0;refine⟨n,?_,hn⟩;have iM:((List.range (n+1)).map fun i=>up v.2.1 i d).Nodup:=by unfold List.Nodup;rw[List.pairwise_iff_getElem];intro i j hi hj jm he;simp only[List.length_map,List.length_range]at hi hj;simp only[List.getElem_map,List.getElem_range]at he;refine ao8 (n-(j-i)) (by omega) ?_;show up v.2.1 (n-(j-i)) d=1;rw[show n-(j-i)=(n-j)+i by omega,up_add,he,←up_add,show n-j+j=n by omega];exact hn
 have lL:((List.range (n+1)).map fun i=>up v.2.1 i d)⊆v.2.1.map fun x=>x.1:=by intro a ha;obtain⟨i,_,rfl⟩:=List.mem_map.1 ha;obtain⟨j,hj,_⟩:=adm h i af;obtain⟨h1,h2⟩:=ca hj;exact List.mem_map.2 ⟨_,de h1,h2⟩
 have:=iM.length_le_of_subset lL;simp only[List.length_map,List.length_range]at this;omega
theorem adn{v:ag.D}(h:b7 v){d:Int}(af:mL v.2.1 d)(top:Int):oK v.2.1 (v.2.1.length+1) d top=true↔d=top∨eg v.2.1 top d:=by obtain⟨n,h1,h2⟩:=h.ao6 af;exact ao4 h top n _ d af h2 (by omega)
theorem Ab{N:List aC.D}(t:aP)(h:jT N):N.takeWhile (ek t)=N.filter (ek t)∧N.dropWhile (ek t)=N.filter fun d=> !ek t d:=by
 induction N with
 |nil=>exact⟨rfl,rfl⟩
 |cons d r ih=>
  obtain⟨h1,h2⟩:=List.pairwise_cons.1 h;obtain⟨i1,i2⟩:=ih h2;rw[List.takeWhile_cons,List.dropWhile_cons,List.filter_cons,List.filter_cons]
  cases af:ek t d with
  |true=>simp[i1,i2]
  |false=>
   have bT:∀e,e∈r→ek t e=false:=by
    intro e he;have h3:=h1 e he
    cases hk:ek t e with
    |false=>rfl
    |true=>have:=CT h3 hk;unfold ek at af;rw[af]at this;cases this
   have f1:r.filter (ek t)=[]:=List.filter_eq_nil_iff.2 fun e he=>by rw[bT e he];simp
   have f2:(r.filter fun d=> !ek t d)=r:=List.filter_eq_self.2 fun e he=>by rw[bT e he];rfl
   simp[f1,f2]
theorem xW{N:List aC.D}(h:jT N)(s:aP):jT (ct N s):=List.Pairwise.sublist List.filter_sublist h
theorem ao9{N:List aC.D}(h:jT N){r t:aP}{id:Int}(hne:t≠r):ct (ins N t id) r=ins (ct N r) t id:=by
 unfold ins;rw[(Ab t h).1,(Ab t h).2,(Ab t (xW h r)).1,(Ab t (xW h r)).2];unfold ct;rw[List.filter_append,List.filter_append,List.filter_cons,List.filter_nil,List.filter_filter,List.filter_filter,List.filter_filter,List.filter_filter];have:bx t r=false:=by unfold bx;simpa using hne
 rw[this];simp only[Bool.not_false,if_true];congr 1
 ·congr 1;exact List.filter_congr fun d _=>Bool.and_comm _ _
 ·exact List.filter_congr fun d _=>Bool.and_comm _ _
theorem ado{N:List aC.D}(h:jT N){t:aP}{id:Int}(hn:∀d,d∈N→d.1≠t):jT (ins N t id):=by
 unfold ins;rw[(Ab t h).1,(Ab t h).2];unfold jT;rw[List.append_assoc,List.pairwise_append];refine⟨List.Pairwise.sublist List.filter_sublist h,?_,fun a ha b hb=>?_⟩
 ·rw[List.singleton_append,List.pairwise_cons];refine⟨fun b hb=>?_,List.Pairwise.sublist List.filter_sublist h⟩;obtain⟨h1,h2⟩:=List.mem_filter.1 hb;unfold ek at h2;rw[Sq (hn b h1)];exact h2
 ·obtain⟨h1,h2⟩:=List.mem_filter.1 ha;have h2:eo a.1 t=true:=h2;rcases List.mem_append.1 hb with hb|hb
  ·simp only[List.mem_singleton]at hb;subst hb;exact h2
  ·obtain⟨h3,h4⟩:=List.mem_filter.1 hb;unfold ek at h4;refine CT h2 ?_;rw[Sq (hn b h3)];exact h4
theorem KI{N:List aC.D}(h:jT N){d:aC.D}(af:d∈N):ea N d.1=d.2.1:=by
 rw[look_eq]
 induction N with
 |nil=>simp at af
 |cons e r ih=>
  obtain⟨h1,h2⟩:=List.pairwise_cons.1 h;rw[C0];rcases List.mem_cons.1 af with rfl|af
  ·have:bx d.1 d.1=true:=by unfold bx;simp
   rw[this];rfl
  ·have:bx e.1 d.1=false:=by unfold bx;simpa using Kn (h1 d af)
   rw[this];exact ih h2 af
theorem ao_{N:List aC.D}{s:aP}:∀d,d∈ct N s→d.1≠s:=by intro d af;have:=(List.mem_filter.1 af).2;unfold bx at this;simpa using this
theorem uR{N:List aC.D}{s:aP}{d:aC.D}(h:d∈ct N s):d∈N:=(List.mem_filter.1 h).1
def dQ(l:List aT)(ir:Nat)(cK:aP):List aT:=l.set ir (cd (I J l ir) (ct (ax (I J l ir)) cK))
def iz(l:List aT)(it:Nat)(tn:aP)(bH:Int):List aT:=l.set it (cd (I J l it) (ins (ax (I J l it)) tn bH))
def e7(l:List aT)(ir:Nat)(cK:aP)(it:Nat)(tn:aP)(bH:Int):List aT:=iz (dQ l ir cK) it tn bH
structure uS(l:List aT)(rd ke:Int)(ir it:Nat)(cK tn:aP)(bH:Int):Prop where
 st:az 1000 l
 hr:bD l rd=some ir
 ht:bD l ke=some it
 uT:kindOf (I J l ir)=2
 SO:kindOf (I J l it)=2
 NO:jT (ax (I J l ir))
 ao':jT (ax (I J l it))
 look:ea (ax (I J l ir)) cK=bH
 adp:bH≠0
 ex:(bD l bH).isSome=true
 no:∀d,d∈ax (I J l it)→d.1≠tn
 ne:ir=it→cK≠tn
theorem uU(x:aT)(N:List aC.D):(cd x N).1=x.1:=rfl
theorem C8{l:List aT}{i:Nat}(N:List aC.D)(hi:i<l.length)(id:Int):bD (l.set i (cd (I J l i) N)) id=bD l id:=KA hi (uU _ N) id
theorem SP{l:List aT}{ir:Nat}{cK:aP}(hi:ir<l.length)(id:Int):bD (dQ l ir cK) id=bD l id:=C8 _ hi id
theorem adq{l:List aT}{it:Nat}{tn:aP}{bH:Int}(hi:it<l.length)(id:Int):bD (iz l it tn bH) id=bD l id:=C8 _ hi id
theorem apa{l:List aT}{rd ke:Int}{ir it:Nat}{cK tn:aP}{bH:Int}(h:uS l rd ke ir it cK tn bH):dQ (iz l it tn bH) ir cK=e7 l ir cK it tn bH:=by
 have hr:=(ca h.hr).1;have ht:=(ca h.ht).1;unfold e7 dQ iz;rw[jU ht,jU hr];by_cases he:it=ir
 ·subst he;rw[if_pos rfl,if_pos rfl,List.set_set,List.set_set,k5,k5,ao9 h.NO (fun e=>h.ne rfl e.symm)];rfl
 ·rw[if_neg he,if_neg (fun e=>he e.symm),List.set_comm _ _ he]
theorem adr{l:List aT}{rd ke:Int}{ir it:Nat}{cK tn:aP}{bH:Int}(h:uS l rd ke ir it cK tn bH):az 1001 (dQ l ir cK)∧az 1003 (e7 l ir cK it tn bH):=by
 have hr:=(ca h.hr).1;have ht:=(ca h.ht).1;have h1:az 1001 (dQ l ir cK):=h.st.set (k:=1) hr rfl (fun d af=>h.st.jh ir hr d (uR af)) (fun hk=>absurd h.uT hk) (Nat.le_trans (xS _ _) (by omega)) (Nat.le_add_right _ _)
 have aB:kindOf (I J (dQ l ir cK) it)=2∧(I J (dQ l ir cK) it).1=ke:=by
  unfold dQ;rw[jU hr];split
  ·rename_i he;exact⟨h.uT,by show(I J l ir).1=ke;rw[he];exact(ca h.ht).2⟩
  ·exact⟨h.SO,(ca h.ht).2⟩
 have hex:∀id,(bD (dQ l ir cK) id).isSome=(bD l id).isSome:=fun id=>by rw[SP hr]
 refine⟨h1,(h1.set (k:=1) (i:=it) (y:=cd (I J (dQ l ir cK) it) (ins (ax (I J (dQ l ir cK) it)) tn bH)) (by unfold dQ;rw[List.length_set];exact ht) rfl (fun d af=>?_) (fun hk=>absurd aB.1 hk) (by rw[k5,Aa];omega) (Nat.le_add_right _ _)).mono (by omega)⟩;rcases sG.1 af with af|rfl
 ·exact h1.jh it (by unfold dQ;rw[List.length_set];exact ht) d af
 ·rw[hex];exact h.ex
theorem apb(m:Nat)(a b d):(jJ (m+1)).pB a b d=OR (jJ m) a b d:=rfl
theorem apc(m:Nat)(a b d e):(jJ (m+1)).rX a b d e=OQ (jJ m) a b d e:=rfl
theorem apd(m:Nat)(a b d e):(jJ (m+1)).dd a b d e=OP (jJ m) a b d e:=rfl
theorem ape(m:Nat)(a b d):(jJ (m+1)).ee a b d=OO (jJ m) a b d:=rfl
theorem apf(m:Nat)(a b d e f g):(gS (m+1)).nz a b d e f g=PR (gS m) a b d e f g:=rfl
theorem apg(m:Nat)(a b d e f g h i):(gS (m+1)).PM a b d e f g h i=PS (gS m) a b d e f g h i:=rfl
theorem aph(m:Nat)(a b d e f g h i):(gS (m+1)).qE a b d e f g h i=PQ (gS m) a b d e f g h i:=rfl
theorem api(m:Nat)(a b d e f g h i):(gS (m+1)).hB a b d e f g h i=PO (gS m) a b d e f g h i:=rfl
theorem apj(m:Nat)(a b d e f g):(gS (m+1)).ee a b d e f g=PN (gS m) a b d e f g:=rfl
theorem ads{n:Int}{l:List aT}(c:aM.D)(x:aL.D)(r t:a7.D){ir it:Nat}(h:uS l (cw r) (cw t) ir it (nameOf r) (nameOf t) (bz r))(m:Nat):
  (jJ (m+1)).pB ((n,l,()),c,x,()) r t=some (fi (e7 l ir (nameOf r) it (nameOf t) (bz r)),((n,e7 l ir (nameOf r) it (nameOf t) (bz r),()),c,x,()),()):=by
 have hr:=(ca h.hr).1;have ht:=(ca h.ht).1;obtain⟨s1,s2⟩:=adr h;have jw:=h.st.len;have nZ:=h.st.dC;have o_:=s1.len;have AR:=s1.dC;rw[apb];unfold OR;show Option.bind (pz (((n,l,()),c,x,()),cw r,nameOf r,false,())) _=_;rw[Sx (n,l,()) c x _ _ false (show l.length≤1048576 by omega) (show d_ l≤1048576 by omega) h.hr];simp only[al,cond_false];show Option.bind (uc (((n,dQ l ir (nameOf r),()),c,x,()),cw t,nameOf t,bz r,())) _=_;have j0:bD (dQ l ir (nameOf r)) (cw t)=some it:=by rw[SP hr];exact h.ht
 rw[Sw (n,dQ l ir (nameOf r),()) c x _ _ _ (show(dQ l ir (nameOf r)).length≤1048576 by omega) j0 (by
  have:=gK (l:=dQ l ir (nameOf r)) (i:=it) (ca j0).1;show(ax (I J (dQ l ir (nameOf r)) it)).length≤_
  omega)]
 simp only[al];show Option.bind (ot (((n,e7 l ir (nameOf r) it (nameOf t) (bz r),()),c,x,()),())) (fun v3=>some (v3.1,((n,e7 l ir (nameOf r) it (nameOf t) (bz r),()),c,x,()),()))=_;rw[CY (n,e7 l ir (nameOf r) it (nameOf t) (bz r),()) c x s2 (by omega)];rfl
theorem adt{n:Int}{l:List aT}(v:ag.D)(z:ag.D)(hP:an.D)(r t:a7.D){ir it:Nat}(h:uS l (cw r) (cw t) ir it (nameOf r) (nameOf t) (bz r))(m:Nat):
  (gS (m+1)).nz v z hP r t (n,l,())=some (cond (fi (e7 l ir (nameOf r) it (nameOf t) (bz r))==0) (n,e7 l ir (nameOf r) it (nameOf t) (bz r),()) v,(fi (e7 l ir (nameOf r) it (nameOf t) (bz r)),[],()),()):=by
 have hr:=(ca h.hr).1;have ht:=(ca h.ht).1;obtain⟨s1,s2⟩:=adr h;have jw:=h.st.len;have nZ:=h.st.dC;have o_:=gK ht;rw[apf];unfold PR;show Option.bind (uk ((n,l,()),cw t,nameOf t,bz r,())) _=_;rw[Sy (n,l,()) _ _ _ (show l.length≤1048576 by omega) h.ht (show(ax (I J l it)).length≤1048576 by omega) h.no];simp only[al];show Option.bind (pG ((n,iz l it (nameOf t) (bz r),()),cw r,nameOf r,())) _=_;have oL:I J (iz l it (nameOf t) (bz r)) ir=if it=ir then cd (I J l it) (ins (ax (I J l it)) (nameOf t) (bz r)) else I J l ir:=by unfold iz;rw[jU ht]
 have adu:jT (ax (I J (iz l it (nameOf t) (bz r)) ir)):=by
  rw[oL];split
  ·rw[k5];exact ado h.ao' h.no
  ·exact h.NO
 have bm:bD (iz l it (nameOf t) (bz r)) (cw r)=some ir:=by rw[adq ht];exact h.hr
 have C9:(iz l it (nameOf t) (bz r)).length≤1048576:=by unfold iz;rw[List.length_set];omega
 have apk:d_ (iz l it (nameOf t) (bz r))≤1048576:=by have:=Ky (l:=l) (y:=cd (I J l it) (ins (ax (I J l it)) (nameOf t) (bz r))) ht;rw[k5,Aa]at this;unfold iz;omega
 rw[SB (n,iz l it (nameOf t) (bz r),()) _ _ C9 apk bm adu]
 have oJ:ea (ax (I J (iz l it (nameOf t) (bz r)) ir)) (nameOf r)=bz r:=by
  obtain⟨e,he,acS,rK⟩:=sC (N:=ax (I J l ir)) (s:=nameOf r) (by rw[h.look];exact h.adp)
  have apl:e∈ax (I J (iz l it (nameOf t) (bz r)) ir):=by
   rw[oL];split
   ·rename_i hh;rw[k5,hh];exact sG.2 (.inl he)
   ·exact he
  have:=KI adu apl;rw[acS,rK,h.look]at this;exact this
 rw[show((n,iz l it (nameOf t) (bz r),()):ag.D).2.1=iz l it (nameOf t) (bz r) from rfl,oJ]
 have kz:goN ((iz l it (nameOf t) (bz r)).set ir (cd (I J (iz l it (nameOf t) (bz r)) ir) (ct (ax (I J (iz l it (nameOf t) (bz r)) ir)) (nameOf r)))) (bz r)=e7 l ir (nameOf r) it (nameOf t) (bz r):=by
  have hc:=apa h;unfold dQ at hc;rw[hc];unfold goN;rw[decide_eq_false];rfl;intro h0;have ei:it<(dQ l ir (nameOf r)).length:=by unfold dQ;rw[List.length_set];exact ht
  have ln:I J (e7 l ir (nameOf r) it (nameOf t) (bz r)) it∈e7 l ir (nameOf r) it (nameOf t) (bz r):=de (by unfold e7 iz;rw[List.length_set];exact ei);refine SA h0 _ ln (nameOf t,bz r,()) ?_ rfl;unfold e7 iz;rw[jU ei,if_pos rfl,k5];exact sG.2 (.inr rfl)
 rw[kz];simp only[al];show Option.bind (r7 (v,(n,e7 l ir (nameOf r) it (nameOf t) (bz r),()),())) _=_;rw[CZ v (n,e7 l ir (nameOf r) it (nameOf t) (bz r),()) s2 (by omega)];rfl
def SQ(c:aM.D)(d n m:aT):Int:=
 cond (!qY c d m) 1 (cond (kindOf n==2) (cond (kindOf m != 2) 20 (cond (decide (((ax m).length:Int)>0)) 39 0)) (cond (kindOf m==2) 21 0))
theorem apm(v:ag.D)(c:aM.D)(x:aL.D)(n:aT)(t:a7.D)(hl:v.2.1.length≤1048576)(hc:d' c=true){i j:Nat}(hi:bD v.2.1 (cw t)=some i)(hj:bD v.2.1 (bz t)=some j):
  GL ((v,c,x,()),n,t,())=some (SQ c (I J v.2.1 i) n (I J v.2.1 j),()):=by
 show ON (v,c,x,()) n t=_;unfold ON SQ;rw[px];show Option.bind (gy (v,bz t,())) _=_;rw[oD v _ hl hj];simp only[al,List.isEmpty_cons,Bool.not_false,cond_true];show Option.bind (gy (v,cw t,())) _=_;rw[oD v _ hl hi];simp only[al,List.isEmpty_cons,Bool.not_false,cond_true];show Option.bind (ud (c,I J v.2.1 i,I J v.2.1 j,())) _=_;rw[Sk c _ _ hc];simp only[al];show cond (!qY c (I J v.2.1 i) (I J v.2.1 j)) _ (cond (kindOf n==2) (cond (!(kindOf (I J v.2.1 j)==2)) _ (cond (kindOf n==2) (cond (decide (((ax (I J v.2.1 j)).length:Int)>0)) _ (cond (!(kindOf n==2)) (cond (kindOf (I J v.2.1 j)==2) _ _) _)) _)) (cond (kindOf n==2) _ (cond (!(kindOf n==2)) (cond (kindOf (I J v.2.1 j)==2) _ _) _)))=_;unfold bne;cases qY c (I J v.2.1 i) (I J v.2.1 j)<;>cases kindOf n==2<;>cases kindOf (I J v.2.1 j)==2<;>cases decide (((ax (I J v.2.1 j)).length:Int)>0)<;>rfl
structure Ac(v:ag.D)(c:aM.D)(x:aL.D)(w:ag.D):Prop where
 out:∃r t j,iu v.2.1 r∧bP r=0∧nameOf r≠[]∧bD v.2.1 (bz r)=some j∧iu v.2.1 t∧nameOf t≠[]∧(bP t=0∨bP t=2)∧(fo (v,c,fB x,false,())=some (r,())∧fo (v,c,ji x,false,())=some (t,())) ∧
  (bz t=bz r∧w=v∨bz t≠bz r∧(kindOf (I J v.2.1 j)=2→cw t≠bz r∧¬eg v.2.1 (bz r) (cw t)) ∧
   ∃l ir it,uS l (cw r) (cw t) ir it (nameOf r) (nameOf t) (bz r)∧w=(v.1,e7 l ir (nameOf r) it (nameOf t) (bz r),())∧fi w.2.1=0 ∧
    ((bz t=0∧l=v.2.1∧(cw r≠cw t→(ax (I J l it)).length<12)) ∨
     (∃i2 fe,bD v.2.1 (cw t)=some i2∧kindOf (I J v.2.1 i2)=2∧bD v.2.1 (bz t)=some fe∧ax (I J v.2.1 fe)=[]∧ea (ax (I J v.2.1 i2)) (nameOf t)=bz t∧(kindOf (I J v.2.1 j)=2↔kindOf (I J v.2.1 fe)=2)∧l=(lB v i2 (nameOf t)).2.1)))
theorem adv{v:ag.D}(hv:b7 v){i2:Nat}(hi:i2<v.2.1.length)(hk:kindOf (I J v.2.1 i2)=2)(s:aP):az 1000 (lB v i2 s).2.1 ∧
  ∀id,id≠ea (ax (I J v.2.1 i2)) s→∀k,bD v.2.1 id=some k→∃k',bD (lB v i2 s).2.1 id=some k'∧I J (lB v i2 s).2.1 k'=if i2=k then cd (I J v.2.1 i2) (ct (ax (I J v.2.1 i2)) s) else I J v.2.1 k:=by
 have hs1:az 1000 (v.2.1.set i2 (cd (I J v.2.1 i2) (ct (ax (I J v.2.1 i2)) s))):=(hv.st.set (k:=0) (y:=cd (I J v.2.1 i2) (ct (ax (I J v.2.1 i2)) s)) hi rfl (fun d af=>hv.jh i2 hi d (uR af)) (fun h=>absurd hk h) (xS _ _) (Nat.le_refl _)).mono (by omega);refine⟨hs1.go _,fun id hne k cm=>?_⟩;obtain⟨iU,iL⟩:=ca cm;show ∃k',bD (goN (v.2.1.set i2 (cd (I J v.2.1 i2) (ct (ax (I J v.2.1 i2)) s))) (ea (ax (I J v.2.1 i2)) s)) id=some k'∧I J (goN (v.2.1.set i2 (cd (I J v.2.1 i2) (ct (ax (I J v.2.1 i2)) s))) (ea (ax (I J v.2.1 i2)) s)) k'=_
 have aB:I J (v.2.1.set i2 (cd (I J v.2.1 i2) (ct (ax (I J v.2.1 i2)) s))) k=if i2=k then cd (I J v.2.1 i2) (ct (ax (I J v.2.1 i2)) s) else I J v.2.1 k:=jU hi
 have SR:bD (v.2.1.set i2 (cd (I J v.2.1 i2) (ct (ax (I J v.2.1 i2)) s))) id=some k:=by rw[C8 _ hi];exact cm
 rw[←aB];generalize v.2.1.set i2 (cd (I J v.2.1 i2) (ct (ax (I J v.2.1 i2)) s))=dI at hs1 SR;generalize ea (ax (I J v.2.1 i2)) s=gone at hne;have kz:=hs1.go gone;unfold goN at kz⊢;by_cases h0:cC dI gone=0
 ·rw[decide_eq_true h0]at kz⊢;simp only[cond_true]at kz⊢;obtain⟨h1,h2⟩:=ca SR;have hm:I J dI k∈dI.filter fun y=> !(y.1==gone):=List.mem_filter.2 ⟨de h1,by rw[h2,Bool.not_eq_true',beq_eq_false_iff_ne];exact hne⟩
  obtain⟨k',dy,he⟩:=fJ hm;refine⟨k',?_,he⟩;have:=kz.jg k' dy;rwa[he,h2]at this
 ·rw[decide_eq_false h0];exact⟨k,SR,rfl⟩
theorem apn(v:ag.D)(c:aM.D)(x:aL.D)(hv:b7 v)(hc:d' c=true)(hx:iO x):bt v c x (GN ((v,c,x,()),())) (Iq (v,c,x,())) (Ac v c x):=by
 have cG:=hv.kA;have hl:v.2.1.length≤1048576:=cG.len;have av:=hx.path;have aoZ:=hx.q4;obtain⟨q,hq,jy⟩:=kZ 6;show bt v c x (GM (jJ aK) (v,c,x,())) (Ip (gS aK) v c x) _;unfold GM Ip;obtain⟨r,⟨hr,_⟩,C7,f_⟩:=CV v c x (fB x) false cG hc (by omega);show bt v c x (Option.bind (lU ((v,c,x,()),fB x,false,())) _) (Option.bind (fo (v,c,fB x,false,())) _) _;rw[C7,f_];simp only[al];show bt v c x (cond (bP r != 0) (some (bP r,(v,c,x,()),())) _) (cond (bP r != 0) (some (v,(bP r,[],()),())) _) _;by_cases b_:bP r=0
 case neg=>rw[dv b_];exact bt.no (bP r) b_ rfl rfl (iu.rg ‹_›)
 rw[eA b_];simp only[cond_false];obtain⟨t,⟨ht,_⟩,apo,KJ⟩:=CV v c x (ji x) false cG hc (by omega);show bt v c x (Option.bind (lU ((v,c,x,()),ji x,false,())) _) (Option.bind (fo (v,c,ji x,false,())) _) _;rw[apo,KJ];simp only[al]
 show bt v c x (cond (bP t != 0) (cond (bP t != 2) (some (bP t,(v,c,x,()),())) (cond (bx (nameOf t) []) (some (bP t,(v,c,x,()),())) ((jJ aK).ee (v,c,x,()) r t))) ((jJ aK).ee (v,c,x,()) r t))
  (cond (bP t != 0) (cond (bP t != 2) (some (v,(bP t,[],()),())) (cond (bx (nameOf t) []) (some (v,(bP t,[],()),())) ((gS aK).ee v c (0,([]:List J.D),()) (0,([]:aP),()) r t))) ((gS aK).ee v c (0,([]:List J.D),()) (0,([]:aP),()) r t)) _
 by_cases k6:bP t≠0∧(bP t≠2∨nameOf t=[])
 ·rw[dv k6.1];by_cases h2:bP t=2
  ·have lv:nameOf t=[]:=k6.2.elim (fun h=>absurd h2 h) id;rw[eA h2,oH.2 lv];exact bt.no (bP t) k6.1 rfl rfl (iu.rg ‹_›)
  ·rw[dv h2];exact bt.no (bP t) k6.1 rfl rfl (iu.rg ‹_›)
 have SS:bP t=0∨bP t=2:=by
  by_cases h0:bP t=0
  ·exact .inl h0
  ·exact .inr (Decidable.byContradiction fun h=>k6 ⟨h0,.inl h⟩)
 have rE:∀{α:Type} (a b:α),cond (bP t != 0) (cond (bP t != 2) a (cond (bx (nameOf t) []) a b)) b=b:=by
  intro α a b;by_cases h0:bP t=0
  ·rw[eA h0];rfl
  ·rw[dv h0];have h2:bP t=2:=Decidable.byContradiction fun h=>k6 ⟨h0,.inl h⟩
   rw[eA h2];have lv:bx (nameOf t) []=false:=by rw[←Bool.not_eq_true,oH];exact fun h=>k6 ⟨h0,.inr h⟩
   rw[lv];rfl
 rw[rE,rE,hq,ape,apj];unfold OO PN;show bt v c x (cond (bx (nameOf r) []) _ (cond (bx (nameOf t) []) _ _)) (cond (bx (nameOf r) []) _ (cond (bx (nameOf t) []) _ _)) _
 cases adw:bx (nameOf r) []with
 |true=>exact bt.no 16 (by decide) rfl rfl
 |false=>
 cases adx:bx (nameOf t) []with
 |true=>exact bt.no 16 (by decide) rfl rfl
 |false=>
 simp only[cond_false,px];have q5:nameOf r≠[]:=fun h=>by rw[oH.2 h]at adw;cases adw
 have htn:nameOf t≠[]:=fun h=>by rw[oH.2 h]at adx;cases adx
 obtain⟨j,hj⟩:=hr.there b_;have hjl:=ca hj;obtain⟨pT,au9,iF,pU,ady,xX⟩:=hr.named b_ q5;have apq:=ca pU
 obtain⟨gH,k7,uV,C_,sI⟩:∃d,bD v.2.1 (cw t)=some d∧kindOf (I J v.2.1 d)=2∧ea (ax (I J v.2.1 d)) (nameOf t)=bz t∧(bz t=0∨∃fe,bD v.2.1 (bz t)=some fe):=by
  by_cases h0:bP t=0
  ·obtain⟨a1,a2,d,a3,a4,a5⟩:=ht.named h0 htn;exact⟨d,a3,a4,a5,.inr (ht.there h0)⟩
  ·have h2:bP t=2:=Decidable.byContradiction fun h=>k6 ⟨h0,.inl h⟩
   obtain⟨a1,a2,d,a3,a4,a5⟩:=ht.new h2 htn;exact⟨d,a3,a4,by rw[a5,a1],.inl a1⟩
 have SU:=ca k7;show bt v c x (Option.bind (gy (v,bz r,())) _) (Option.bind (fG (v,cw r,())) fun v1=>Option.bind (fG (v,cw t,())) fun v2=>Option.bind (fG (v,bz r,())) _) _;rw[oD v _ hl hj,kb v _ hl pU,kb v _ hl k7,kb v _ hl hj];simp only[al,List.isEmpty_cons,Bool.not_false,cond_true];rw[apd];unfold OP;show bt v c x (Option.bind (oq ((v,c,x,()),cw r,())) fun v1=>cond (!v1.1) _ (Option.bind (oq ((v,c,x,()),cw t,())) _)) _ _;rw[C4 v c x _ hl hc pU,C4 v c x _ hl hc k7,qX c _ 3 hc,qX c _ 3 hc];simp only[al]
 cases may c (I J v.2.1 iF) 3 with
 |false=>exact bt.no 13 (by decide) rfl rfl
 |true=>
 simp only[Bool.not_true,cond_false]
 cases may c (I J v.2.1 gH) 3 with
 |false=>exact bt.no 13 (by decide) rfl rfl
 |true=>
 simp only[Bool.not_true,cond_false];show bt v c x (Option.bind (gy (v,cw r,())) _) _ _;rw[oD v _ hl pU];simp only[al,List.isEmpty_cons,Bool.not_false,cond_true];show bt v c x (Option.bind (ud (c,I J v.2.1 iF,I J v.2.1 j,())) _) _ _;rw[Sk c _ _ hc,Sj c _ _ hc];simp only[al]
 cases qY c (I J v.2.1 iF) (I J v.2.1 j)with
 |false=>exact bt.no 1 (by decide) rfl rfl
 |true=>
 simp only[Bool.not_true,cond_false];obtain⟨out,SV,apr⟩:=acj v hl cG.dC (bz r);have aps:=ao0 v (cw t) (bz r) hl cG.dC
 have apt:∀(K:Option (Int×aO.D×Unit)),cond ((I J v.2.1 j).2.1==2) (cond (t.1==r.2.2.1) (some (22,(v,c,x,()),())) (Option.bind (zd (v,r.2.2.1,())) fun v5=>Option.bind (wk (v5.1,t.1,())) fun v6=>cond v6.1 (some (22,(v,c,x,()),())) K)) K =
   cond (kindOf (I J v.2.1 j)==2&&oK v.2.1 (v.2.1.length+1) (cw t) (bz r)) (some (22,(v,c,x,()),())) K:=by
  intro K;show cond (kindOf (I J v.2.1 j)==2) (cond (cw t==bz r) (some (22,(v,c,x,()),())) (Option.bind (zd (v,bz r,())) fun v5=>Option.bind (wk (v5.1,cw t,())) fun v6=>cond v6.1 (some (22,(v,c,x,()),())) K)) K=_;cases kindOf (I J v.2.1 j)==2
  ·rfl
  ·simp only[cond_true,Bool.true_and];have pO:=adn hv (d:=cw t) ⟨gH,k7,uV⟩ (bz r);rw[apr];simp only[al]
   rw[contains_eq _ _ (by
    have:=SV.len;have:=cG.dC
    omega)]
   simp only[al];by_cases h1:cw t=bz r
   ·rw[cL h1,pO.2 (.inl h1)];rfl
   ·rw[bY h1];simp only[cond_false];by_cases hb:eg v.2.1 (bz r) (cw t)
    ·rw[pO.2 (.inr hb),decide_eq_true ((SV.iff _).2 hb)]
    ·have:oK v.2.1 (v.2.1.length+1) (cw t) (bz r)=false:=by
      rw[←Bool.not_eq_true];exact fun h=>(pO.1 h).elim h1 hb
     rw[this,decide_eq_false (fun h=>hb ((SV.iff _).1 h))]
 have apu:∀(K:Option (ag.D×an.D×Unit)),cond ((I J v.2.1 j).2.1==2) (Option.bind (Cb (v,t.1,r.2.2.1,())) fun br=>cond br.1 (some (v,(22,[],()),())) K) K =
   cond (kindOf (I J v.2.1 j)==2&&oK v.2.1 (v.2.1.length+1) (cw t) (bz r)) (some (v,(22,[],()),())) K:=by
  intro K;show cond (kindOf (I J v.2.1 j)==2) (Option.bind (Cb (v,cw t,bz r,())) _) K=_;rw[aps];cases kindOf (I J v.2.1 j)==2<;>rfl
 rw[nJ];rw[apt,apu]
 cases sF:kindOf (I J v.2.1 j)==2&&oK v.2.1 (v.2.1.length+1) (cw t) (bz r)with
 |true=>exact bt.no 22 (by decide) rfl rfl
 |false=>
 simp only[cond_false];have nc:kindOf (I J v.2.1 j)=2→cw t≠bz r∧¬eg v.2.1 (bz r) (cw t):=by intro hk;rw[cL hk,Bool.true_and]at sF;have pO:=adn hv (d:=cw t) ⟨gH,k7,uV⟩ (bz r);exact⟨fun h=>(by rw[pO.2 (.inl h)]at sF;cases sF),fun h=>(by rw[pO.2 (.inr h)]at sF;cases sF)⟩
 rw[apc,api];unfold OQ PO;rw[zZ v hl (fun i hi=>Nat.le_trans (gK hi) cG.dC)];simp only[al]
 show bt v c x (cond (bz t==bz r) (some (0,(v,c,x,()),())) (cond (!(bz t==0)) (Option.bind (GL ((v,c,x,()),I J v.2.1 j,t,())) fun v1=>cond (v1.1 != 0) (some (v1.1,(v,c,x,()),())) (Option.bind (pz ((v,c,x,()),cw t,nameOf t,true,())) fun v2=>(jJ (q+3)).pB v2.1 r t))
   (cond (!(cw r==cw t)) (Option.bind (gy (v,cw t,())) fun v3=>cond (!List.isEmpty v3.1) (cond (((ax (I J v3.1 0)).length:Int)==12) (some (28,(v,c,x,()),())) ((jJ (q+3)).pB (v,c,x,()) r t)) none) ((jJ (q+3)).pB (v,c,x,()) r t))))
  (cond (decide (bz t>0)) (cond (bz t==bz r) (some (v,(0,[],()),())) (Option.bind (fG (v,bz t,())) fun v2=>Option.bind (zs (c,I J v.2.1 gH,v2.1,())) fun v3=>cond (!v3.1) (some (v,(1,[],()),())) (cond (kindOf (I J v.2.1 j)==2) (cond (kindOf v2.1 != 2) (some (v,(20,[],()),())) ((gS (q+4)).qE v (0,([]:List J.D),()) (0,([]:aP),()) r t (I J v.2.1 j) v v2.1)) ((gS (q+4)).qE v (0,([]:List J.D),()) (0,([]:aP),()) r t (I J v.2.1 j) v v2.1))))
   (cond (!(cw r==cw t)) (cond (decide (((ax (I J v.2.1 gH)).length:Int)≥12)) (some (v,(28,[],()),())) ((gS (q+4)).nz v (0,([]:List J.D),()) (0,([]:aP),()) r t v)) ((gS (q+4)).nz v (0,([]:List J.D),()) (0,([]:aP),()) r t v))) _
 have au_:0<bz r:=by have h1:=hv.ids j hjl.1;have h2:bh (I J v.2.1 j)=bz r:=hjl.2;omega
 have adz:=hv.ino iF apq.1;have mA:=hv.ino gH SU.1;by_cases n8:bz t=bz r
 ·rw[cL n8,decide_eq_true (show bz t>0 by omega)];exact bt.yes 0 v (fun _=>⟨r,t,j,hr,b_,q5,hj,ht,htn,SS,⟨f_,KJ⟩,.inl ⟨n8,rfl⟩⟩) rfl rfl
 rw[bY n8];simp only[cond_false]
 have hne:iF=gH→nameOf r≠nameOf t:=by
  rintro rfl he
  rw[he,C_]at xX;exact n8 xX
 by_cases qh:bz t=0
 ·
  rw[cL qh,decide_eq_false (show ¬bz t>0 by omega)];simp only[Bool.not_true,cond_false]
  have hpre:uS v.2.1 (cw r) (cw t) iF gH (nameOf r) (nameOf t) (bz r):=
   ⟨hv.st.mono (by omega),pU,k7,ady,uV,adz.sorted,mA.sorted,xX,by omega,by rw[hj];rfl,C1 (by rw[C_,qh]) fun e he=>hv.C2 SU.1 he,hne⟩
  have hfin:(cw r≠cw t→(ax (I J v.2.1 gH)).length<12)→bt v c x ((jJ (q+3)).pB (v,c,x,()) r t) ((gS (q+4)).nz v (0,([]:List J.D),()) (0,([]:aP),()) r t v) (Ac v c x):=by intro bQ;have h1:=ads (n:=v.1) c x r t hpre (q+2);have h2:=adt (n:=v.1) v (0,([]:List J.D),()) (0,([]:aP),()) r t hpre (q+3);exact bt.yes _ _ (fun h=>⟨r,t,j,hr,b_,q5,hj,ht,htn,SS,⟨f_,KJ⟩,.inr ⟨n8,nc,v.2.1,iF,gH,hpre,rfl,h,.inl ⟨qh,rfl,bQ⟩⟩⟩) h1 h2
  by_cases SW:cw r=cw t
  ·rw[cL SW];exact hfin fun h=>absurd SW h
  ·rw[bY SW];simp only[Bool.not_false,cond_true];rw[oD v _ hl k7];simp only[al,List.isEmpty_cons,Bool.not_false,cond_true];show bt v c x (cond (((ax (I J v.2.1 gH)).length:Int)==12) _ _) _ _;have adf:=(mA.dir uV).2.2.2;by_cases ko:(ax (I J v.2.1 gH)).length=12
   ·rw[show(((ax (I J v.2.1 gH)).length:Int)==12)=true by rw[ko];rfl,decide_eq_true (by omega)];exact bt.no 28 (by decide) rfl rfl
   ·rw[show(((ax (I J v.2.1 gH)).length:Int)==12)=false by rw[beq_eq_false_iff_ne];omega,decide_eq_false (show ¬((ax (I J v.2.1 gH)).length:Int)≥12 by omega)];exact hfin fun _=>by omega
 ·
  obtain⟨fe,mz⟩:=sI.resolve_left qh;have SX:=ca mz;have z8:0<bz t:=by have h1:=hv.ids fe SX.1;have h2:bh (I J v.2.1 fe)=bz t:=SX.2;omega
  rw[bY qh,decide_eq_true (show bz t>0 from z8)];simp only[Bool.not_false,cond_true];rw[apm v c x _ t hl hc k7 mz,kb v _ hl mz];simp only[al];rw[Sj c _ _ hc];simp only[al];unfold SQ
  cases qY c (I J v.2.1 gH) (I J v.2.1 fe)with
  |false=>exact bt.no 1 (by decide) rfl rfl
  |true=>
  simp only[Bool.not_true,cond_false]
  have apv:(gS (q+4)).qE v (0,([]:List J.D),()) (0,([]:aP),()) r t (I J v.2.1 j) v (I J v.2.1 fe)=cond (kindOf (I J v.2.1 j)==2) (cond (decide (((ax (I J v.2.1 fe)).length:Int)>0)) (some (v,(39,[],()),())) (Option.bind (pG (v,cw t,nameOf t,())) fun v2=>(gS (q+2)).nz v (0,([]:List J.D),()) (0,([]:aP),()) r t v2.1))
    (cond (kindOf (I J v.2.1 fe)==2) (some (v,(21,[],()),())) (Option.bind (pG (v,cw t,nameOf t,())) fun v2=>(gS (q+2)).nz v (0,([]:List J.D),()) (0,([]:aP),()) r t v2.1)):=by
   rw[aph];unfold PQ;rw[apg];unfold PS;show cond (kindOf (I J v.2.1 j)==2) (cond (decide (((ax (I J v.2.1 fe)).length:Int)>0)) _ (cond (!(kindOf (I J v.2.1 j)==2)) (cond (kindOf (I J v.2.1 fe)==2) _ _) _)) (cond (!(kindOf (I J v.2.1 j)==2)) (cond (kindOf (I J v.2.1 fe)==2) _ _) _)=_;cases kindOf (I J v.2.1 j)==2<;>rfl
  rw[apv]
  have hfin:ax (I J v.2.1 fe)=[]→(kindOf (I J v.2.1 j)=2↔kindOf (I J v.2.1 fe)=2)→bt v c x (Option.bind (pz ((v,c,x,()),cw t,nameOf t,true,())) fun v2=>(jJ (q+3)).pB v2.1 r t) (Option.bind (pG (v,cw t,nameOf t,())) fun v2=>(gS (q+2)).nz v (0,([]:List J.D),()) (0,([]:aP),()) r t v2.1) (Ac v c x):=by
   intro qb hkk;rw[Sx v c x _ _ true hl cG.dC k7,SB v _ _ hl cG.dC k7 mA.sorted];simp only[al,cond_true];obtain⟨hst,KK⟩:=adv hv SU.1 uV (nameOf t);rw[C_]at KK;have apw:cw r≠bz t:=by intro he;rw[he,mz]at pU;have:fe=iF:=aX pU;subst this;obtain⟨e,h1,_,_⟩:=sC (N:=ax (I J v.2.1 fe)) (s:=nameOf r) (by rw[xX];exact pT);rw[qb]at h1;simp at h1
   have apx:cw t≠bz t:=by intro he;rw[he,mz]at k7;have:fe=gH:=aX k7;subst this;obtain⟨e,h1,_,_⟩:=sC (N:=ax (I J v.2.1 fe)) (s:=nameOf t) (by rw[C_];exact qh);rw[qb]at h1;simp at h1
   obtain⟨ir,adA,oL⟩:=KK _ apw _ pU;obtain⟨it,j0,oM⟩:=KK _ apx _ k7;obtain⟨au',jm,_⟩:=KK _ (Ne.symm n8) _ hj;rw[if_pos rfl]at oM
   have apy:ir=it→iF=gH:=by
    rintro rfl
    have h1:=(ca adA).2;have h2:=(ca j0).2;rw[h1]at h2;rw[h2,k7]at pU;exact(aX pU).symm
   have hpre:uS (lB v gH (nameOf t)).2.1 (cw r) (cw t) ir it (nameOf r) (nameOf t) (bz r):=by
    refine⟨hst,adA,j0,?_,?_,?_,?_,?_,by omega,by rw[jm];rfl,?_,fun e=>hne (apy e)⟩
    ·rw[oL];split
     ·exact uV
     ·exact ady
    ·rw[oM];exact uV
    ·rw[oL];split
     ·rw[k5];exact xW mA.sorted _
     ·exact adz.sorted
    ·rw[oM,k5];exact xW mA.sorted _
    ·rw[oL];split
     ·rename_i he;subst he;rw[k5];obtain⟨e,h1,h2,h3⟩:=sC (N:=ax (I J v.2.1 gH)) (s:=nameOf r) (by rw[xX];exact pT);have hm:e∈ct (ax (I J v.2.1 gH)) (nameOf t):=List.mem_filter.2 ⟨h1,by unfold bx;rw[h2];simpa using hne rfl⟩;have:=KI (xW mA.sorted (nameOf t)) hm;rw[h2,h3,xX]at this;exact this
     ·exact xX
    ·rw[oM,k5];exact ao_
   show bt v c x ((jJ (q+3)).pB ((v.1,(lB v gH (nameOf t)).2.1,()),c,x,()) r t) ((gS (q+2)).nz v (0,([]:List J.D),()) (0,([]:aP),()) r t (v.1,(lB v gH (nameOf t)).2.1,())) _;have h1:=ads (n:=v.1) c x r t hpre (q+2);have h2:=adt (n:=v.1) v (0,([]:List J.D),()) (0,([]:aP),()) r t hpre (q+1);exact bt.yes _ _ (fun h=>⟨r,t,j,hr,b_,q5,hj,ht,htn,SS,⟨f_,KJ⟩,.inr ⟨n8,nc,_,ir,it,hpre,rfl,h,.inr ⟨gH,fe,k7,uV,mz,qb,C_,hkk,rfl⟩⟩⟩) h1 h2
  by_cases hk:kindOf (I J v.2.1 j)=2
  ·rw[cL hk];simp only[cond_true];by_cases hk2:kindOf (I J v.2.1 fe)=2
   ·rw[eA hk2];simp only[cond_false];by_cases qb:ax (I J v.2.1 fe)=[]
    ·rw[qb,show decide ((([]:List aC.D).length:Int)>0)=false from rfl];exact hfin qb ⟨fun _=>hk2,fun _=>hk⟩
    ·have aoW:0<(ax (I J v.2.1 fe)).length:=List.length_pos_iff.2 qb;rw[decide_eq_true (by omega)];exact bt.no 39 (by decide) rfl rfl
   ·rw[dv hk2];exact bt.no 20 (by decide) rfl rfl
  ·rw[bY hk];simp only[cond_false];by_cases hk2:kindOf (I J v.2.1 fe)=2
   ·rw[cL hk2];exact bt.no 21 (by decide) rfl rfl
   ·rw[bY hk2];exact hfin ((hv.ino fe SX.1).plain hk2).2.2 ⟨fun h=>absurd h hk,fun h=>absurd h hk2⟩
theorem uW(v:ag.D)(c:aM.D)(x:aL.D)(cg:Bool)(hw:sB v.2.1)(hc:d' c=true)(av:(fB x).length≤1048576):
  ∃r,uO cg v.2.1 r∧fo (v,c,fB x,cg,())=some (r,())∧(bP r≠0→nv ((v,c,x,()),cg,())=some (-1,bP r,(v,c,x,()),())) ∧
   (bP r=0→∃i,bD v.2.1 (bz r)=some i∧nv ((v,c,x,()),cg,())=some ((i:Int),0,(v,c,x,()),())):=by
 obtain⟨r,h1,h2,h3⟩:=CV v c x (fB x) cg hw hc av;have fh:nv ((v,c,x,()),cg,())=cond (bP r != 0) (some (-1,bP r,(v,c,x,()),())) (Option.bind (zc (v,bz r,())) fun v2=>some (v2.1,0,(v2.2.1,c,x,()),())):=by show OS (v,c,x,()) cg=_;unfold OS;show Option.bind (lU ((v,c,x,()),fB x,cg,())) _=_;rw[h2];rfl
 refine⟨r,h1,h3,fun h0=>by rw[fh,dv h0];rfl,fun h0=>?_⟩;obtain⟨i,hi⟩:=h1.1.there h0;refine⟨i,hi,?_⟩;rw[fh,eA h0,Sl v _ hw.len,hi];rfl
def hD(n:Nat):aP:=List.replicate n 0
def lC(s:aP)(n:Nat):aP:=(s++hD (n-s.length)).take n
def l5(s:aP)(at_:Nat)(d:aP):aP:=lC s at_++d++s.drop (at_+d.length)
theorem q7(s:aP)(n:Nat):(lC s n).length=n:=by unfold lC hD;rw[List.length_take,List.length_append,List.length_replicate];omega
theorem adB:∀n,Lib.repeatL [0] n=hD n
 |0=>rfl
 |n+1=>by rw[Lib.repeatL,adB n];rfl
theorem apz(s:aP)(n:Nat)(hs:s.length≤1048576)(hn:n≤1048576):GP (s,(n:Int),())=some (lC s n,()):=by
 show OU s (n:Int)=_;unfold OU lC;by_cases h:n≤s.length
 ·rw[decide_eq_true (show(s.length:Int)≥(n:Int) by omega)];simp only[cond_true];show Option.bind (dj s.length ((0:Nat):Int) (n:Int)) _=_;rw[jn (by omega) h];simp only[al,Nat.sub_zero];rw[pS,show n-s.length=0 by omega];simp[hD]
 ·rw[decide_eq_false (show ¬(s.length:Int)≥(n:Int) by omega)];simp only[cond_false];show Option.bind (repF [0] (aw ((n:Int)-(s.length:Int)))) _=_;rw[show aw ((n:Int)-(s.length:Int))=((n-s.length:Nat):Int) by rw[cH (by omega) (by omega)];omega];unfold repF;rw[if_pos ⟨by omega,by omega,by simp;omega⟩,Int.toNat_natCast,adB];simp only[al];rw[cc (by unfold hD;rw[List.length_replicate];omega)];simp only[cond_true];rw[List.take_of_length_le (by unfold hD;rw[List.length_append,List.length_replicate];omega)]
theorem adC(t:aP):eZ (eT t)=t:=by
 unfold eZ eT;rw[List.map_map]
 conv=>rhs;rw[←List.map_id t]
 refine List.map_congr_left fun b _=>?_
 simp
theorem KL(t:aP):(eT t).length=t.length:=by unfold eT;simp
theorem apA(t:aP):eT t++[0]=eT (t++[0]):=by unfold eT;simp
theorem apB(t:aP)(i:Nat)(b:UInt8):(eT t).set i (b.toNat:Int)=eT (t.set i b):=by unfold eT;rw[List.map_set]
theorem adD(s:aP)(at_:Nat)(d:aP)(hs:s.length≤1048576)(ha:at_≤1048576)(af:d.length≤1048576):
  uq (s,(at_:Int),d,())=some ((s++hD (at_+d.length-s.length)).take at_++d++(s++hD (at_+d.length-s.length)).drop (at_+d.length),()):=by
 show Ir (ow aK) s (at_:Int) d=_;unfold Ir;have hw:aw ((at_:Int) +(d.length:Int))=((at_+d.length:Nat):Int):=by rw[cH (by omega) (by omega)];omega
 generalize ht:s++hD (at_+d.length-s.length)=t;have m8:at_+d.length≤t.length∧t.length≤4194304:=by rw[←ht];unfold hD;rw[List.length_append,List.length_replicate];omega
 have a6:∀(r i:Nat),i+r=d.length→b6 (fun m=>(ow m).bs (at_:Int) d (i:Int) (eT (t.take at_++d.take i++t.drop (at_+i)))) (r+1) (some (t.take at_++d++t.drop (at_+d.length),())):=by
  intro r
  induction r with
  |zero=>
   intro i hi;refine b6.now 1 fun m=>?_
   show Cd (ow m) _ _ _ _=_;unfold Cd;rw[cl (by omega)];simp only[cond_false];rw[adC,show i=d.length by omega,List.take_length]
  |succ r ih=>
   intro i hi;have bQ:i<d.length:=by omega
   refine((ih (i+1) (by omega)).jump (f:=fun m=>(ow m).bs (at_:Int) d (i:Int) (eT (t.take at_++d.take i++t.drop (at_+i)))) 1 fun m=>?_).mono (by omega);show Cd (ow m) _ _ _ _=_;unfold Cd;rw[bN bQ,bf bQ];simp only[cond_true,al];have C9:(t.take at_++d.take i).length=at_+i:=by rw[List.length_append,List.length_take,List.length_take];omega
   have hlen:at_+i<(eT (t.take at_++d.take i++t.drop (at_+i))).length:=by rw[KL,List.length_append,C9,List.length_drop];omega
   rw[show aw ((at_:Int) +(i:Int))=((at_+i:Nat):Int) by rw[cH (by omega) (by omega)];omega,bf hlen];simp only[al,Nat.zero_add];unfold Yr;rw[dH i (by omega),apB];congr 2;rw[z' (show at_+i<t.length by omega),List.set_append_right _ _ (by rw[C9];omega),C9,Nat.sub_self,List.set_cons_zero,List.take_succ_eq_append_getElem bQ,List.getD_eq_getElem?_getD,List.getElem?_eq_getElem bQ,show at_ +(i+1)=at_+i+1 by omega];simp only[List.append_assoc,List.singleton_append,List.cons_append,List.nil_append,Option.getD_some]
 have h2:∀(r k:Nat),k+r=at_+d.length-s.length→b6 (fun m=>(ow m).k2 (at_:Int) d (eT (s++hD k))) (r+d.length+3) (some (t.take at_++d++t.drop (at_+d.length),())):=by
  intro r
  induction r with
  |zero=>
   intro k hk;have hk:k=at_+d.length-s.length:=by omega
   subst hk;rw[ht];have:=a6 d.length 0 (by omega);rw[List.take_zero,List.append_nil,Nat.add_zero,List.take_append_drop]at this;refine(this.jump (f:=fun m=>(ow m).k2 (at_:Int) d (eT t)) 1 fun m=>?_).mono (by omega);show Cc (ow m) _ _ _=_;unfold Cc;rw[hw,KL,cl (by omega)];rfl
  |succ r ih=>
   intro k hk;refine((ih (k+1) (by omega)).jump (f:=fun m=>(ow m).k2 (at_:Int) d (eT (s++hD k))) 1 fun m=>?_).mono (by omega);show Cc (ow m) _ _ _=_;unfold Cc;have hl:(eT (s++hD k)).length=s.length+k:=by rw[KL,List.length_append];unfold hD;rw[List.length_replicate]
   rw[hw,bN (by rw[hl];omega)];simp only[cond_true];rw[cc (by rw[hl];simp only[List.length_cons,List.length_nil];omega)];simp only[cond_true];rw[apA,List.append_assoc];have:hD k++[0]=hD (k+1):=by unfold hD;rw[List.replicate_succ']
   rw[this]
 have:=h2 (at_+d.length-s.length) 0 (by omega);rw[show hD 0=[] from rfl,List.append_nil]at this;exact l0 this (by omega)
theorem put_eq(s:aP)(at_:Nat)(d:aP):(s++hD (at_+d.length-s.length)).take at_++d++(s++hD (at_+d.length-s.length)).drop (at_+d.length)=l5 s at_ d:=by
 unfold l5 lC;congr 1
 ·congr 1;rw[List.take_append,List.take_append];congr 1;unfold hD;rw[List.take_replicate,List.take_replicate];congr 1;omega
 ·rw[List.drop_append];have:(hD (at_+d.length-s.length)).drop (at_+d.length-s.length)=[]:=List.drop_of_length_le (by unfold hD;rw[List.length_replicate];omega);rw[this,List.append_nil]
theorem apC(s:aP)(at_:Nat):((s++hD (at_ +([]:aP).length-s.length)).take at_++([]:aP)++(s++hD (at_ +([]:aP).length-s.length)).drop (at_ +([]:aP).length)).take at_=lC s at_:=by rw[put_eq];unfold l5;rw[List.append_nil,List.take_append_of_le_length (by rw[q7];omega),List.take_of_length_le (by rw[q7];omega)]
def oN(x:aT)(d:aP):aT:=(x.1,x.2.1,x.2.2.1,x.2.2.2.1,x.2.2.2.2.1,d,x.2.2.2.2.2.2.1,x.2.2.2.2.2.2.2.1,x.2.2.2.2.2.2.2.2.1,())
def eN(x:aL.D)(n:aT):Int:=if aD x=6 then((bX n).length:Int) else bU x
def jj(x:aL.D)(n:aT):aP:=if aD x=7 then lC (bX n) (bU x).toNat else l5 (bX n) (eN x n).toNat (dP x)
structure Ad(v:ag.D)(c:aM.D)(x:aL.D)(w:ag.D):Prop where
 out:∃r i,iu v.2.1 r∧bP r=0∧bD v.2.1 (bz r)=some i∧kindOf (I J v.2.1 i)≠2∧kindOf (I J v.2.1 i)≠3∧may c (I J v.2.1 i) 2=true∧0≤eN x (I J v.2.1 i)∧fo (v,c,fB x,true,())=some (r,()) ∧
  ((aD x≠7∧dP x=[]∧w=v)∨((aD x≠7→dP x≠[])∧eN x (I J v.2.1 i) +(dP x).length≤64∧w=(v.1,v.2.1.set i (oN (I J v.2.1 i) (jj x (I J v.2.1 i))),())∧fi w.2.1=0))
theorem adE(v:ag.D)(c:aM.D)(x:aL.D)(want:Int)(hw:sB v.2.1)(hc:d' c=true)(av:(fB x).length≤1048576):
  ∃r,uO true v.2.1 r∧fo (v,c,fB x,true,())=some (r,())∧(bP r≠0→BN ((v,c,x,()),want,())=some (-1,bP r,(v,c,x,()),())) ∧
   (bP r=0→∃i,bD v.2.1 (bz r)=some i∧BN ((v,c,x,()),want,())=cond (kindOf (I J v.2.1 i)==2) (some (-1,21,(v,c,x,()),())) (cond (!may c (I J v.2.1 i) want) (some (-1,13,(v,c,x,()),())) (some ((i:Int),0,(v,c,x,()),())))):=by
 obtain⟨r,h1,h2,h3,h4⟩:=uW v c x true hw hc av;refine⟨r,h1,h2,fun h0=>?_,fun h0=>?_⟩
 ·show BM (v,c,x,()) want=_;unfold BM;rw[h3 h0];simp only[al];rw[dv h0];rfl
 ·obtain⟨i,hi,a6⟩:=h4 h0;refine⟨i,hi,?_⟩;show BM (v,c,x,()) want=_;unfold BM;rw[a6];simp only[al];rw[show((0:Int) != 0)=false from rfl];simp only[cond_false];rw[bf (ca hi).1];simp only[al];rw[CP c _ want hc];rfl
theorem apD(m:Nat)(a b d):(gR (m+1)).ee a b d=OV (gR m) a b d:=rfl
theorem apE(m:Nat)(a b d):(gR (m+1)).dt a b d=OW (gR m) a b d:=rfl
theorem apF(m:Nat)(a b d):(gR (m+1)).hB a b d=OX (gR m) a b d:=rfl
theorem apG(m:Nat)(a b d e f g):(kX (m+1)).eL a b d e f g=PT (kX m) a b d e f g:=rfl
theorem apH(m:Nat)(a b d e):(kX (m+1)).im a b d e=PU (kX m) a b d e:=rfl
theorem b7.h6{v:ag.D}(h:b7 v){i:Nat}(hi:i<v.2.1.length):(bX (I J v.2.1 i)).length≤64:=by
 have:=h.ino i hi;rcases this.kind with k|k|k
 ·exact this.file k
 ·rw[(this.dir k).1];simp
 ·have:=St (this.oE k).1;omega
theorem apI(v:ag.D)(c:aM.D)(x:aL.D)(hv:b7 v)(hc:d' c=true)(hx:iO x)(hk:aD x=5∨aD x=6∨aD x=7):bt v c x (GR ((v,c,x,()),())) (zu (v,c,x,())) (Ad v c x):=by
 have cG:=hv.kA;have hl:v.2.1.length≤1048576:=cG.len;have av:=hx.path;have ava:=hx.h6;have nc:=hx.n;obtain⟨q,hq,jy⟩:=kZ 4;show bt v c x (GQ (gR aK) (v,c,x,())) (Is (kX aK) v c x) _;unfold GQ Is;obtain⟨r,⟨hr,Ae⟩,f_,k8,k9⟩:=adE v c x 2 cG hc (by omega);show bt v c x _ (Option.bind (fo (v,c,fB x,true,())) _) _;rw[f_];simp only[al];show bt v c x _ (cond (bP r != 0) (some (v,(bP r,[],()),())) _) _;by_cases b_:bP r=0
 case neg=>rw[k8 b_,dv b_];simp only[al];rw[dv b_];exact bt.no (bP r) b_ rfl rfl (iu.rg ‹_›)
 obtain⟨i,hi,fh⟩:=k9 b_;have bm:=ca hi;rw[fh,eA b_];simp only[cond_false];show bt v c x _ (Option.bind (fG (v,bz r,())) _) _;rw[kb v _ hl hi];simp only[al];show bt v c x _ (cond (kindOf (I J v.2.1 i)==2) _ _) _;by_cases iL:kindOf (I J v.2.1 i)=2
 ·rw[cL iL];exact bt.no 21 (by decide) rfl rfl
 rw[bY iL];simp only[cond_false];rw[qX c _ 2 hc];simp only[al]
 cases hm:may c (I J v.2.1 i) 2 with
 |false=>exact bt.no 13 (by decide) rfl rfl
 |true=>
 simp only[Bool.not_true,cond_false,al];rw[show((0:Int) != 0)=false from rfl];simp only[cond_false];have avb:=hv.h6 bm.1
 have apJ:cond (x.1==6) ((ix v.2.1.length (i:Int)).bind fun v2=>(gR aK).ee (i:Int) ((I J v.2.1 v2).2.2.2.2.2.1.length:Int) (v,c,x,())) ((gR aK).ee (i:Int) x.2.2.2.1 (v,c,x,()))=(gR aK).ee (i:Int) (eN x (I J v.2.1 i)) (v,c,x,()):=by
  rw[bf bm.1];unfold eN;show cond (aD x==6) _ _=_;by_cases bj:aD x=6
  ·rw[cL bj,if_pos bj];rfl
  ·rw[bY bj,if_neg bj];rfl
 have apK:cond (x.1==6) ((kX aK).eL ((I J v.2.1 i).2.2.2.2.2.1.length:Int) v x (0,([]:List J.D),()) (0,([]:aP),()) (I J v.2.1 i)) ((kX aK).eL x.2.2.2.1 v x (0,([]:List J.D),()) (0,([]:aP),()) (I J v.2.1 i))=(kX aK).eL (eN x (I J v.2.1 i)) v x (0,([]:List J.D),()) (0,([]:aP),()) (I J v.2.1 i):=by
  unfold eN;show cond (aD x==6) _ _=_;by_cases bj:aD x=6
  ·rw[cL bj,if_pos bj];rfl
  ·rw[bY bj,if_neg bj];rfl
 show bt v c x (cond (x.1==6) ((ix v.2.1.length (i:Int)).bind fun v2=>(gR aK).ee (i:Int) ((I J v.2.1 v2).2.2.2.2.2.1.length:Int) (v,c,x,())) ((gR aK).ee (i:Int) x.2.2.2.1 (v,c,x,())))
  (cond (x.1==6) ((kX aK).eL ((I J v.2.1 i).2.2.2.2.2.1.length:Int) v x (0,([]:List J.D),()) (0,([]:aP),()) (I J v.2.1 i)) ((kX aK).eL x.2.2.2.1 v x (0,([]:List J.D),()) (0,([]:aP),()) (I J v.2.1 i))) _
 rw[apJ,apK,hq,apD,apG];unfold OV PT;by_cases tB:eN x (I J v.2.1 i)<0
 ·rw[decide_eq_true tB];exact bt.no 22 (by decide) rfl rfl
 rw[decide_eq_false tB];simp only[cond_false];obtain⟨a,ha⟩:∃a:Nat,eN x (I J v.2.1 i)=a:=⟨(eN x (I J v.2.1 i)).toNat,by omega⟩
 have avc:a≤1000000:=by
  have:eN x (I J v.2.1 i)≤1000000:=by
   unfold eN;split
   ·omega
   ·exact nc.2
  omega
 show bt v c x (cond (!(aD x==7)) (cond (bx (dP x) []) (some (0,(v,c,x,()),())) ((gR (q+3)).dt (i:Int) (eN x (I J v.2.1 i)) (v,c,x,()))) ((gR (q+3)).dt (i:Int) (eN x (I J v.2.1 i)) (v,c,x,())))
  (cond (aD x==7) (cond (decide (eN x (I J v.2.1 i)>64)) (some (v,(27,[],()),())) (Option.bind (uq (bX (I J v.2.1 i),eN x (I J v.2.1 i),[],())) fun v1=>Option.bind (dj v1.1.length 0 (eN x (I J v.2.1 i))) fun v2=>(kX (q+3)).im v (0,([]:List J.D),()) (0,([]:aP),()) (oN (I J v.2.1 i) (part v1.1 v2.1 (v2.2-v2.1)))))
   (cond (bx (dP x) []) (some (v,(0,[],()),())) (cond (decide (eN x (I J v.2.1 i)>aw (64-((dP x).length:Int)))) (some (v,(27,[],()),())) (Option.bind (uq (bX (I J v.2.1 i),eN x (I J v.2.1 i),dP x,())) fun v3=>(kX (q+3)).im v (0,([]:List J.D),()) (0,([]:aP),()) (oN (I J v.2.1 i) v3.1))))) _
 have SY:aD x≠7→dP x=[]→Ad v c x v:=fun bL af=>⟨r,i,hr,b_,hi,iL,Ae rfl b_ i hi,hm,by omega,f_,.inl ⟨bL,af,rfl⟩⟩
 by_cases uX:aD x≠7∧dP x=[]
 ·rw[bY uX.1,oH.2 uX.2];exact bt.yes 0 v (fun _=>SY uX.1 uX.2) rfl rfl
 have apL:cond (!(aD x==7)) (cond (bx (dP x) []) (some (0,(v,c,x,()),())) ((gR (q+3)).dt (i:Int) (eN x (I J v.2.1 i)) (v,c,x,()))) ((gR (q+3)).dt (i:Int) (eN x (I J v.2.1 i)) (v,c,x,()))=(gR (q+3)).dt (i:Int) (eN x (I J v.2.1 i)) (v,c,x,()):=by
  by_cases bL:aD x=7
  ·rw[cL bL];rfl
  ·rw[bY bL];have:bx (dP x) []=false:=by rw[←Bool.not_eq_true,oH];exact fun h=>uX ⟨bL,h⟩
   rw[this];rfl
 rw[apL,apE];unfold OW;show bt v c x (cond (decide (aw (eN x (I J v.2.1 i) +((dP x).length:Int))>64)) _ _) _ _;have adF:aD x=7→dP x=[]:=fun bL=>hx.adb.elim id fun h=>by omega
 have apM:aw (eN x (I J v.2.1 i) +((dP x).length:Int))=((a +(dP x).length:Nat):Int):=by rw[ha,cH (by omega) (by omega)];omega
 rw[apM];by_cases KM:a +(dP x).length>64
 ·rw[decide_eq_true (by omega)]
  have:cond (aD x==7) (cond (decide (eN x (I J v.2.1 i)>64)) (some (v,((27:Int),([]:aP),()),())) (Option.bind (uq (bX (I J v.2.1 i),eN x (I J v.2.1 i),[],())) fun v1=>Option.bind (dj v1.1.length 0 (eN x (I J v.2.1 i))) fun v2=>(kX (q+3)).im v (0,([]:List J.D),()) (0,([]:aP),()) (oN (I J v.2.1 i) (part v1.1 v2.1 (v2.2-v2.1)))))
   (cond (bx (dP x) []) (some (v,(0,[],()),())) (cond (decide (eN x (I J v.2.1 i)>aw (64-((dP x).length:Int)))) (some (v,(27,[],()),())) (Option.bind (uq (bX (I J v.2.1 i),eN x (I J v.2.1 i),dP x,())) fun v3=>(kX (q+3)).im v (0,([]:List J.D),()) (0,([]:aP),()) (oN (I J v.2.1 i) v3.1))))=some (v,(27,[],()),()):=by
   by_cases bL:aD x=7
   ·have h0:=adF bL;rw[h0]at KM;simp only[List.length_nil]at KM;rw[cL bL,decide_eq_true (show eN x (I J v.2.1 i)>64 by omega)];rfl
   ·rw[bY bL];have h0:bx (dP x) []=false:=by rw[←Bool.not_eq_true,oH];exact fun h=>uX ⟨bL,h⟩
    rw[h0,show aw (64-((dP x).length:Int))=64-((dP x).length:Int) from cH (by omega) (by omega),decide_eq_true (show eN x (I J v.2.1 i)>64-((dP x).length:Int) by omega)];rfl
  rw[this];exact bt.no 27 (by decide) rfl rfl
 rw[decide_eq_false (by omega)];simp only[cond_false];obtain⟨w,hw⟩:∃w:ag.D,w=(v.1,v.2.1.set i (oN (I J v.2.1 i) (jj x (I J v.2.1 i))),()):=⟨_,rfl⟩
 have hnl:(jj x (I J v.2.1 i)).length≤200:=by
  have hf:∀s n,(lC s n).length=n:=q7
  unfold jj l5;rw[ha,Int.toNat_natCast];split
  ·rename_i bL;have:eN x (I J v.2.1 i)=bU x:=by unfold eN;rw[if_neg (by omega)]
   rw[hf];omega
  ·rw[List.length_append,List.length_append,hf,List.length_drop];omega
 have hst:az 1000 w.2.1:=by
  rw[hw]
  exact(hv.st.set (k:=200) (i:=i) (y:=oN (I J v.2.1 i) (jj x (I J v.2.1 i))) bm.1 rfl (fun d af=>hv.jh i bm.1 d af) (fun dy=>hv.st.bare i bm.1 dy) (Nat.le_add_right _ _) (by
   show(jj x (I J v.2.1 i)).length≤_
   omega)).mono (by omega)
 have hwr:fi w.2.1=0→Ad v c x w:=fun hf=>⟨r,i,hr,b_,hi,iL,Ae rfl b_ i hi,hm,by omega,f_,.inr ⟨fun bL h=>uX ⟨bL,h⟩,by omega,hw,hf⟩⟩
 have C5:∀m,(gR (m+1)).hB (i:Int) (jj x (I J v.2.1 i)) (v,c,x,())=some (fi w.2.1,(w,c,x,()),()):=by intro m;rw[apF];unfold OX;show Option.bind (ix v.2.1.length (i:Int)) _=_;rw[bf bm.1];show Option.bind (ot (((v.1,v.2.1.set i (oN (I J v.2.1 i) (jj x (I J v.2.1 i))),()),c,x,()),())) (fun v3=>some (v3.1,((v.1,v.2.1.set i (oN (I J v.2.1 i) (jj x (I J v.2.1 i))),()),c,x,()),()))=_;rw[←hw,CY w c x hst (by omega)];rfl
 have adG:∀m,(kX (m+1)).im v (0,([]:List J.D),()) (0,([]:aP),()) (oN (I J v.2.1 i) (jj x (I J v.2.1 i)))=some (cond (fi w.2.1==0) w v,(fi w.2.1,[],()),()):=by intro m;rw[apH];unfold PU;rw[zZ v hl (fun i hi=>Nat.le_trans (gK hi) cG.dC)];simp only[al];rw[Kz v _ hl (show bD v.2.1 (oN (I J v.2.1 i) (jj x (I J v.2.1 i))).1=some i from(show(I J v.2.1 i).1=bz r from bm.2)▸hi),←hw];simp only[al];rw[CZ v w hst (by omega)];rfl
 have apN:(cond (decide (((bX (I J v.2.1 i)).length:Int) >((lC (bX (I J v.2.1 i)) a++dP x).length:Int)))
   ((dj (bX (I J v.2.1 i)).length ((lC (bX (I J v.2.1 i)) a++dP x).length:Int) ((bX (I J v.2.1 i)).length:Int)).bind fun v5=>cond (room ((lC (bX (I J v.2.1 i)) a++dP x).length +(part (bX (I J v.2.1 i)) v5.1 (v5.2-v5.1)).length))
    ((gR (q+2)).hB (i:Int) ((lC (bX (I J v.2.1 i)) a++dP x)++part (bX (I J v.2.1 i)) v5.1 (v5.2-v5.1)) (v,c,x,())) none)
   ((gR (q+2)).hB (i:Int) (lC (bX (I J v.2.1 i)) a++dP x) (v,c,x,())))=(gR (q+2)).hB (i:Int) (l5 (bX (I J v.2.1 i)) a (dP x)) (v,c,x,()):=by
  have iJ:(lC (bX (I J v.2.1 i)) a++dP x).length=a +(dP x).length:=by rw[List.length_append,q7]
  rw[iJ];unfold l5;by_cases oM:(bX (I J v.2.1 i)).length>a +(dP x).length
  ·rw[decide_eq_true (by omega)];simp only[cond_true];rw[jn (by omega) (Nat.le_refl _)];simp only[al];rw[uN,cc (by rw[List.length_drop];omega)];rfl
  ·rw[decide_eq_false (by omega)];simp only[cond_false];rw[List.drop_of_length_le (by omega),List.append_nil]
 show bt v c x (Option.bind (ix v.2.1.length (i:Int)) fun v1=>Option.bind (GP (bX (I J v.2.1 v1),eN x (I J v.2.1 i),())) fun v2=>cond (!(aD x==7)) (cond (room (v2.1.length +(dP x).length)) (Option.bind (ix v.2.1.length (i:Int)) fun v3=>cond (decide (((bX (I J v.2.1 v3)).length:Int) >((v2.1++dP x).length:Int)))
   (Option.bind (ix v.2.1.length (i:Int)) fun v4=>(dj (bX (I J v.2.1 v4)).length ((v2.1++dP x).length:Int) ((bX (I J v.2.1 v4)).length:Int)).bind fun v5=>cond (room ((v2.1++dP x).length +(part (bX (I J v.2.1 v4)) v5.1 (v5.2-v5.1)).length))
    ((gR (q+2)).hB (i:Int) ((v2.1++dP x)++part (bX (I J v.2.1 v4)) v5.1 (v5.2-v5.1)) (v,c,x,())) none)
   ((gR (q+2)).hB (i:Int) (v2.1++dP x) (v,c,x,()))) none) ((gR (q+2)).hB (i:Int) v2.1 (v,c,x,()))) _ _
 rw[bf bm.1,ha];simp only[al];rw[apz _ _ (by omega) (by omega)];simp only[al];rw[cc (by rw[q7];omega)];simp only[cond_true];rw[apN];by_cases bL:aD x=7
 ·have vP:=adF bL
  have iM:jj x (I J v.2.1 i)=lC (bX (I J v.2.1 i)) a:=by
   unfold jj;rw[if_pos bL];have:eN x (I J v.2.1 i)=bU x:=by unfold eN;rw[if_neg (by omega)]
   rw[←this,ha,Int.toNat_natCast]
  rw[cL bL];rw[vP]at KM;simp only[List.length_nil]at KM;rw[decide_eq_false (show ¬((a:Int)>64) by omega)];simp only[Bool.not_true,cond_false,cond_true];rw[adD _ _ _ (by omega) (by omega) (by simp)];simp only[al];rw[put_eq];show bt v c x _ (Option.bind (dj (l5 (bX (I J v.2.1 i)) a []).length ((0:Nat):Int) (a:Int)) _) _;rw[jn (by omega) (by unfold l5;rw[List.length_append,List.length_append,q7];omega)];simp only[al,Nat.sub_zero];have m6:part (l5 (bX (I J v.2.1 i)) a []) 0 a=jj x (I J v.2.1 i):=by rw[pS,iM,←apC,put_eq]
  rw[m6,←iM,C5 (q+1),adG (q+2)];exact bt.yes _ _ (hwr) rfl rfl
 ·have iM:jj x (I J v.2.1 i)=l5 (bX (I J v.2.1 i)) a (dP x):=by
   unfold jj;rw[if_neg bL,ha,Int.toNat_natCast]
  rw[bY bL];have h0:bx (dP x) []=false:=by rw[←Bool.not_eq_true,oH];exact fun h=>uX ⟨bL,h⟩
  rw[h0,show aw (64-((dP x).length:Int))=64-((dP x).length:Int) from cH (by omega) (by omega),decide_eq_false (show ¬((a:Int)>64-((dP x).length:Int)) by omega)];simp only[Bool.not_false,cond_true,cond_false];rw[adD _ _ _ (by omega) (by omega) (by omega)];simp only[al];rw[put_eq,←iM,C5 (q+1),adG (q+2)];exact bt.yes _ _ (hwr) rfl rfl
theorem adH(l:List aT):bytesOf l=((List.range l.length).map fun i=>(bX (I J l i)).length).sum:=by
 unfold bytesOf;congr 1;refine List.ext_getElem (by simp) fun i h1 h2=>?_
 simp only[List.length_map]at h1;rw[List.getElem_map,List.getElem_map,List.getElem_range,c3 h1]
structure Alike(l l':List aT):Prop where
 len:l'.length=l.length
 id:∀i,(I J l' i).1=(I J l i).1
 h6:∀i,bX (I J l' i)=bX (I J l i)
 dC:∀i,ax (I J l' i)=ax (I J l i)
theorem Alike.bD{l l':List aT}(h:Alike l l'):ks.bD l'=ks.bD l:=by
 funext id
 unfold ks.bD;rw[h.len];refine ac6 fun i _=>?_
 rw[h.id]
theorem Alike.below{l l':List aT}(h:Alike l l'):eM l'=eM l:=by
 have e1:j' l'=j' l:=by
  funext i j s
  unfold j';rw[h.bD,h.dC]
 have e2:je l'=je l:=by
  funext i s
  unfold je;rw[e1,h.dC]
 have e3:fS l'=fS l:=by
  funext s
  unfold fS;rw[e2,h.len]
 funext id
 unfold eM;rw[h.bD,h.len,e3]
theorem Alike.apO{l l':List aT}(h:Alike l l')(x bA:aT)(h1:bA.1=x.1)(h2:fZ bA=fZ x)(h3:fK bA=fK x):jN l' bA=jN l x:=by
 have e1:ka l'=ka l:=by
  funext F
  unfold ka pP dl;rw[h.len];congr 2
  funext i
  rw[h.h6]
 have e2:ky l'=ky l:=by
  funext F
  unfold ky pP;rw[h.len]
 unfold jN;rw[e1,e2,h.below,h1,h2,h3]
theorem Alike.fits{l l':List aT}(h:Alike l l')(hb:∀i,fZ (I J l' i)=fZ (I J l i))(hi:∀i,fK (I J l' i)=fK (I J l i)):fi l'=fi l:=by
 have e1:bytesOf l'=bytesOf l:=by
  rw[adH,adH,h.len];congr 2
  funext i
  rw[h.h6]
 have e2:jO l'=jO l:=by
  unfold jO;rw[h.len];congr 2
  funext i
  rw[h.apO (I J l i) (I J l' i) (h.id i) (hb i) (hi i)]
 unfold fi;rw[e1,e2]
theorem apP{l:List aT}{i:Nat}{y:aT}(hi:i<l.length)(h1:y.1=(I J l i).1)(h2:bX y=bX (I J l i))(h3:ax y=ax (I J l i)):Alike l (l.set i y):=by
 refine⟨List.length_set,fun j=>?_,fun j=>?_,fun j=>?_⟩ <;>
  ·rw[jU hi];split
   ·rename_i he;subst he;assumption
   ·rfl
def jV(x:aT)(m u g:Int):aT:=(x.1,x.2.1,m,u,g,x.2.2.2.2.2.1,x.2.2.2.2.2.2.1,x.2.2.2.2.2.2.2.1,x.2.2.2.2.2.2.2.2.1,())
theorem adI(x:aT)(m u g:Int):(jV x m u g).1=x.1:=rfl
theorem KN{v:ag.D}(hv:b7 v){i:Nat}(hi:i<v.2.1.length)(m u g:Int):fi (v.2.1.set i (jV (I J v.2.1 i) m u g))=0:=by
 have ha:Alike v.2.1 (v.2.1.set i (jV (I J v.2.1 i) m u g)):=apP hi rfl rfl rfl
 rw[ha.fits (fun j=>by
  rw[jU hi];split
  ·rename_i he;subst he;rfl
  ·rfl) (fun j=>by
  rw[jU hi];split
  ·rename_i he;subst he;rfl
  ·rfl)]
 unfold fi;rw[decide_eq_false (by have:=hv.bytes;omega),hv.over];rfl
theorem adJ{v:ag.D}(hv:b7 v){i:Nat}(hi:i<v.2.1.length)(m u g:Int):az 1000 (v.2.1.set i (jV (I J v.2.1 i) m u g)):=
 (hv.st.set (k:=1) (i:=i) (y:=jV (I J v.2.1 i) m u g) hi rfl (fun d af=>hv.jh i hi d af) (fun hk=>hv.st.bare i hi hk) (Nat.le_add_right _ _) (Nat.le_add_right _ _)).mono (by omega)
def andNot(a b:Int):Int:=cZ .andNot .i64 a b
def sJ(c:aM.D)(x:aL.D)(n:aT):Int:=if c.1≠0∧nH c (fL n)=false then andNot (bU x) 1024 else bU x
theorem C'(m:Nat)(a b d e f g):(iq (m+1)).cW a b d e f g=Ce (iq m) a b d e f g:=rfl
theorem SZ(m:Nat)(a b d e f):(iq (m+1)).eL a b d e f=Cf (iq m) a b d e f:=rfl
theorem apQ(m:Nat)(a b d e f g):(iq (m+1)).qA a b d e f g=PV (iq m) a b d e f g:=rfl
theorem apR(m:Nat)(a b d e):(iq (m+1)).nA a b d e=PW (iq m) a b d e:=rfl
theorem S0{v:ag.D}(hv:b7 v)(z:ag.D)(hP:an.D){i:Nat}(hi:i<v.2.1.length)(n:aT)(hn:n.1=(I J v.2.1 i).1)(hst:az 1000 (v.2.1.set i n))(m:Nat):
  (iq (m+1)).nA v z hP n=some (cond (fi (v.2.1.set i n)==0) (v.1,v.2.1.set i n,()) v,(fi (v.2.1.set i n),[],()),()):=by
 have cG:=hv.kA;rw[apR];unfold PW;rw[zZ v cG.len (fun i hi=>Nat.le_trans (gK hi) cG.dC)];simp only[al];rw[Kz v n cG.len (show bD v.2.1 n.1=some i from hn▸hv.jg i hi)];simp only[al];rw[CZ v (v.1,v.2.1.set i n,()) hst (by omega)];rfl
structure Da(v:ag.D)(c:aM.D)(x:aL.D)(w:ag.D):Prop where
 out:0≤bU x∧bU x≤2047∧∃r i,iu v.2.1 r∧bP r=0∧bD v.2.1 (bz r)=some i∧kindOf (I J v.2.1 i)≠3∧(c.1≠0→c.1=eR (I J v.2.1 i)) ∧
  w=(v.1,v.2.1.set i (jV (I J v.2.1 i) (sJ c x (I J v.2.1 i)) (eR (I J v.2.1 i)) (fL (I J v.2.1 i))),())
theorem apS(v:ag.D)(c:aM.D)(x:aL.D)(hv:b7 v)(hc:d' c=true)(hx:iO x)(hk:aD x=15):bt v c x (G7 ((v,c,x,()),())) (uu (v,c,x,())) (Da v c x):=by
 have cG:=hv.kA;have hl:v.2.1.length≤1048576:=cG.len;have av:=hx.path;obtain⟨q,hq,jy⟩:=kZ 4;show bt v c x (G6 (r0 aK) (v,c,x,())) (ur (iq aK) v c x) _;unfold G6 ur;show bt v c x (Option.bind (dO (bU x,0,2047,())) _) (cond (aD x==15) (Option.bind (dF (bU x,0,2047,())) _) _) _;rw[cL hk,jL,j_];simp only[cond_true,al];rw[hq,C'];unfold Ce
 cases hN:cA (bU x) 0 2047 with
 |false=>exact bt.no 22 (by decide) rfl rfl
 |true=>
 have q6:=cR.1 hN;simp only[Bool.not_true,cond_false];show bt v c x _ (cond (aD x==19) _ _) _;rw[bY (show aD x≠19 by omega),SZ];simp only[cond_false];unfold Cf;obtain⟨r,⟨hr,Ae⟩,f_,k8,k9⟩:=uW v c x true cG hc (by omega);show bt v c x _ (Option.bind (fo (v,c,fB x,true,())) _) _;rw[f_];simp only[al];show bt v c x _ (cond (bP r != 0) (some (v,(bP r,[],()),())) _) _;by_cases b_:bP r=0
 case neg=>rw[k8 b_,dv b_];simp only[al];rw[dv b_];exact bt.no (bP r) b_ rfl rfl (iu.rg ‹_›)
 obtain⟨i,hi,fh⟩:=k9 b_;have bm:=ca hi;rw[fh,eA b_];simp only[cond_false,al];rw[show((0:Int) != 0)=false from rfl];simp only[cond_false];show bt v c x _ (Option.bind (fG (v,bz r,())) _) _;rw[kb v _ hl hi,bf bm.1];simp only[al]
 show bt v c x (cond (c.1 != 0) (cond (c.1 != eR (I J v.2.1 i)) (some (1,(v,c,x,()),())) (r0 (q+4) (i:Int) (v,c,x,()))) (r0 (q+4) (i:Int) (v,c,x,())))
  (cond (aD x==15) (cond (c.1 != 0) (cond (c.1 != eR (I J v.2.1 i)) (some (v,(1,[],()),())) ((iq (q+2)).qA v c x (0,([]:List J.D),()) (0,([]:aP),()) (I J v.2.1 i))) ((iq (q+2)).qA v c x (0,([]:List J.D),()) (0,([]:aP),()) (I J v.2.1 i))) _) _
 rw[cL hk];simp only[cond_true]
 have hfin:(c.1≠0→c.1=eR (I J v.2.1 i))→bt v c x (r0 (q+4) (i:Int) (v,c,x,())) ((iq (q+2)).qA v c x (0,([]:List J.D),()) (0,([]:aP),()) (I J v.2.1 i)) (Da v c x):=by
  intro hu
  have fh:r0 (q+4) (i:Int) (v,c,x,())=some (0,((v.1,v.2.1.set i (jV (I J v.2.1 i) (sJ c x (I J v.2.1 i)) (eR (I J v.2.1 i)) (fL (I J v.2.1 i))),()),c,x,()),()):=by
   rw[r0,O2];show Option.bind (ix v.2.1.length (i:Int)) (fun v1=>O1 (v,c,x,()) (i:Int) (v.2.1.set v1 (jV (I J v.2.1 v1) (bU x) (eR (I J v.2.1 v1)) (fL (I J v.2.1 v1)))))=_;rw[bf bm.1];simp only[al];unfold O1 sJ;have aB:I J (v.2.1.set i (jV (I J v.2.1 i) (bU x) (eR (I J v.2.1 i)) (fL (I J v.2.1 i)))) i=jV (I J v.2.1 i) (bU x) (eR (I J v.2.1 i)) (fL (I J v.2.1 i)):=by rw[jU bm.1,if_pos rfl]
   have fI:ix (v.2.1.set i (jV (I J v.2.1 i) (bU x) (eR (I J v.2.1 i)) (fL (I J v.2.1 i)))).length (i:Int)=some i:=bf (by rw[List.length_set];exact bm.1);show cond (c.1 != 0) _ _=_;by_cases h0:c.1=0
   ·rw[eA h0,if_neg (fun h=>h.1 h0)];rfl
   ·rw[dv h0,fI];simp only[cond_true,al];rw[aB];show Option.bind (wF (c,fL (I J v.2.1 i),())) _=_;rw[Si c _ hc];simp only[al]
    cases EH:nH c (fL (I J v.2.1 i))with
    |true=>rw[if_neg (fun h=>by cases h.2)];rfl
    |false=>rw[if_pos ⟨h0,rfl⟩];simp only[Bool.not_false,cond_true];unfold X2;rw[List.set_set];rfl
  have dg:(iq (q+2)).qA v c x (0,([]:List J.D),()) (0,([]:aP),()) (I J v.2.1 i)=(iq (q+1)).nA v (0,([]:List J.D),()) (0,([]:aP),()) (jV (I J v.2.1 i) (sJ c x (I J v.2.1 i)) (eR (I J v.2.1 i)) (fL (I J v.2.1 i))):=by
   rw[apQ];unfold PV sJ;show cond (c.1 != 0) (Option.bind (w4 (c,fL (I J v.2.1 i),())) _) _=_;by_cases h0:c.1=0
   ·rw[eA h0,if_neg (fun h=>h.1 h0)];rfl
   ·rw[dv h0,Sh c _ hc];simp only[cond_true,al]
    cases EH:nH c (fL (I J v.2.1 i))with
    |true=>rw[if_neg (fun h=>by cases h.2)];rfl
    |false=>rw[if_pos ⟨h0,rfl⟩];rfl
  rw[fh,dg,S0 hv _ _ bm.1 _ (adI _ _ _ _) (adJ hv bm.1 _ _ _),KN hv bm.1];exact bt.yes 0 _ (fun _=>⟨q6.1,q6.2,r,i,hr,b_,hi,Ae rfl b_ i hi,hu,rfl⟩) rfl rfl
 by_cases h0:c.1=0
 ·rw[eA h0];exact hfin fun h=>absurd h0 h
 ·rw[dv h0];simp only[cond_true];by_cases hu:c.1=eR (I J v.2.1 i)
  ·rw[eA hu];exact hfin fun _=>hu
  ·rw[dv hu];exact bt.no 1 (by decide) rfl rfl
structure Db(v:ag.D)(c:aM.D)(x:aL.D)(w:ag.D):Prop where
 out:(0≤bU x∧bU x≤1000)∧(0≤eB x∧eB x≤1000)∧∃r i,iu v.2.1 r∧bP r=0∧bD v.2.1 (bz r)=some i∧w=(v.1,v.2.1.set i (jV (I J v.2.1 i) (fr (I J v.2.1 i)) (bU x) (eB x)),())
theorem apT(v:ag.D)(c:aM.D)(x:aL.D)(hv:b7 v)(hc:d' c=true)(hx:iO x)(hk:aD x=16):bt v c x (G_ ((v,c,x,()),())) (uu (v,c,x,())) (Db v c x):=by
 have cG:=hv.kA;have hl:v.2.1.length≤1048576:=cG.len;have av:=hx.path;obtain⟨q,hq,jy⟩:=kZ 4;show bt v c x (G9 (r1 aK) (v,c,x,())) (ur (iq aK) v c x) _;unfold G9 ur;show bt v c x (Option.bind (dO (bU x,0,1000,())) fun v1=>cond (!v1.1) _ (Option.bind (dO (eB x,0,1000,())) _)) (cond (aD x==15) _ (cond (aD x==16) (Option.bind (dF (bU x,0,1000,())) fun v2=>cond (!v2.1) _ (Option.bind (dF (eB x,0,1000,())) _)) _)) _;rw[bY (show aD x≠15 by omega),cL hk];simp only[cond_true,cond_false];rw[jL,j_];simp only[al];rw[hq]
 cases hN:cA (bU x) 0 1000 with
 |false=>simp only[Bool.not_false,cond_true];rw[C'];exact bt.no 22 (by decide) rfl rfl
 |true=>
 have q6:=cR.1 hN;simp only[Bool.not_true,cond_false];rw[jL,j_];simp only[al];rw[C'];unfold Ce
 cases j7:cA (eB x) 0 1000 with
 |false=>exact bt.no 22 (by decide) rfl rfl
 |true=>
 have S1:=cR.1 j7;simp only[Bool.not_true,cond_false];show bt v c x _ (cond (aD x==19) _ _) _;rw[bY (show aD x≠19 by omega),SZ];simp only[cond_false];unfold Cf;obtain⟨r,⟨hr,Ae⟩,f_,k8,k9⟩:=uW v c x true cG hc (by omega);show bt v c x _ (Option.bind (fo (v,c,fB x,true,())) _) _;rw[f_];simp only[al];show bt v c x _ (cond (bP r != 0) (some (v,(bP r,[],()),())) _) _;by_cases b_:bP r=0
 case neg=>rw[k8 b_,dv b_];simp only[al];rw[dv b_];exact bt.no (bP r) b_ rfl rfl (iu.rg ‹_›)
 obtain⟨i,hi,fh⟩:=k9 b_;have bm:=ca hi;rw[fh,eA b_];simp only[cond_false,al];rw[show((0:Int) != 0)=false from rfl];simp only[cond_false];show bt v c x _ (Option.bind (fG (v,bz r,())) _) _;rw[kb v _ hl hi,bf bm.1];simp only[al]
 show bt v c x (cond (c.1 != 0) (cond (c.1 != eR (I J v.2.1 i)) (some (1,(v,c,x,()),())) (cond (bU x != eR (I J v.2.1 i)) (some (1,(v,c,x,()),())) (Option.bind (wF (c,eB x,())) fun v6=>cond (!v6.1) (some (1,(v,c,x,()),())) (r1 (q+4) (i:Int) (v,c,x,()))))) (r1 (q+4) (i:Int) (v,c,x,())))
  (cond (aD x==15) _ (cond (aD x==16) (cond (c.1 != 0) (cond (c.1 != eR (I J v.2.1 i)) (some (v,(1,[],()),())) (cond (bU x != eR (I J v.2.1 i)) (some (v,(1,[],()),())) (Option.bind (w4 (c,eB x,())) fun v3=>cond (!v3.1) (some (v,(1,[],()),())) ((iq (q+2)).nA v (0,([]:List J.D),()) (0,([]:aP),()) (jV (I J v.2.1 i) (fr (I J v.2.1 i)) (bU x) (eB x))))))
   ((iq (q+2)).nA v (0,([]:List J.D),()) (0,([]:aP),()) (jV (I J v.2.1 i) (fr (I J v.2.1 i)) (bU x) (eB x)))) _)) _
 rw[bY (show aD x≠15 by omega),cL hk,Si c _ hc,Sh c _ hc];simp only[cond_true,cond_false,al]
 have hfin:bt v c x (r1 (q+4) (i:Int) (v,c,x,())) ((iq (q+2)).nA v (0,([]:List J.D),()) (0,([]:aP),()) (jV (I J v.2.1 i) (fr (I J v.2.1 i)) (bU x) (eB x))) (Db v c x):=by
  have fh:r1 (q+4) (i:Int) (v,c,x,())=some (0,((v.1,v.2.1.set i (jV (I J v.2.1 i) (fr (I J v.2.1 i)) (bU x) (eB x)),()),c,x,()),()):=by rw[r1,O4];show Option.bind (ix v.2.1.length (i:Int)) (fun v1=>O3 (i:Int) (v,c,x,()) (v.2.1.set v1 (jV (I J v.2.1 v1) (fr (I J v.2.1 v1)) (bU x) (fL (I J v.2.1 v1)))))=_;rw[bf bm.1];simp only[al];unfold O3;rw[bf (by rw[List.length_set];exact bm.1)];simp only[al];unfold X3;rw[List.set_set,jU bm.1,if_pos rfl];rfl
  rw[fh,S0 hv _ _ bm.1 _ (adI _ _ _ _) (adJ hv bm.1 _ _ _),KN hv bm.1];exact bt.yes 0 _ (fun _=>⟨q6,S1,r,i,hr,b_,hi,rfl⟩) rfl rfl
 by_cases h0:c.1=0
 ·rw[eA h0];exact hfin
 ·rw[dv h0];simp only[cond_true];by_cases hu:c.1=eR (I J v.2.1 i)
  ·rw[eA hu];simp only[cond_false];by_cases hn:bU x=eR (I J v.2.1 i)
   ·rw[eA hn];simp only[cond_false]
    cases nH c (eB x)with
    |false=>exact bt.no 1 (by decide) rfl rfl
    |true=>exact hfin
   ·rw[dv hn];exact bt.no 1 (by decide) rfl rfl
  ·rw[dv hu];exact bt.no 1 (by decide) rfl rfl
def nK(x:aT)(b k:Int):aT:=(x.1,x.2.1,x.2.2.1,x.2.2.2.1,x.2.2.2.2.1,x.2.2.2.2.2.1,x.2.2.2.2.2.2.1,b,k,())
theorem apU(x:aT)(b k:Int):(nK x b k).1=x.1:=rfl
structure KO(v:ag.D)(c:aM.D)(x:aL.D)(w:ag.D):Prop where
 out:(0≤bU x∧bU x≤400)∧(0≤eB x∧eB x≤24)∧c.1=0∧∃r i,iu v.2.1 r∧bP r=0∧bD v.2.1 (bz r)=some i∧kindOf (I J v.2.1 i)=2∧w=(v.1,v.2.1.set i (nK (I J v.2.1 i) (bU x) (eB x)),())∧fi w.2.1=0
theorem apV(v:ag.D)(c:aM.D)(x:aL.D)(hv:b7 v)(hc:d' c=true)(hx:iO x)(hk:aD x=19):bt v c x (Hb ((v,c,x,()),())) (uu (v,c,x,())) (KO v c x):=by
 have cG:=hv.kA;have hl:v.2.1.length≤1048576:=cG.len;have av:=hx.path;obtain⟨q,hq,jy⟩:=kZ 4;show bt v c x (O7 (v,c,x,())) (ur (iq aK) v c x) _;unfold O7 ur;show bt v c x (Option.bind (dO (bU x,0,400,())) fun v1=>cond (!v1.1) _ (Option.bind (dO (eB x,0,24,())) _)) (cond (aD x==15) _ (cond (aD x==16) _ (Option.bind (dF (bU x,0,400,())) fun v2=>cond (!v2.1) _ (Option.bind (dF (eB x,0,24,())) _)))) _;rw[bY (show aD x≠15 by omega),bY (show aD x≠16 by omega)];simp only[cond_true,cond_false];rw[jL,j_];simp only[al];rw[hq]
 cases hN:cA (bU x) 0 400 with
 |false=>simp only[Bool.not_false,cond_true];rw[C'];exact bt.no 22 (by decide) rfl rfl
 |true=>
 have q6:=cR.1 hN;simp only[Bool.not_true,cond_false];rw[jL,j_];simp only[al];rw[C'];unfold Ce
 cases j7:cA (eB x) 0 24 with
 |false=>exact bt.no 22 (by decide) rfl rfl
 |true=>
 have S1:=cR.1 j7;simp only[Bool.not_true,cond_false];show bt v c x (cond (c.1 != 0) _ _) (cond (aD x==19) (cond (c.1 != 0) _ _) _) _;rw[cL hk];simp only[cond_true];by_cases h0:c.1=0
 case neg=>rw[dv h0];exact bt.no 1 (by decide) rfl rfl
 rw[eA h0];simp only[cond_false];rw[SZ];unfold Cf;obtain⟨r,⟨hr,Ae⟩,f_,k8,k9⟩:=uW v c x true cG hc (by omega);show bt v c x _ (Option.bind (fo (v,c,fB x,true,())) _) _;rw[f_];simp only[al];show bt v c x _ (cond (bP r != 0) (some (v,(bP r,[],()),())) _) _;by_cases b_:bP r=0
 case neg=>rw[k8 b_,dv b_];simp only[al];rw[dv b_];exact bt.no (bP r) b_ rfl rfl (iu.rg ‹_›)
 obtain⟨i,hi,fh⟩:=k9 b_;have bm:=ca hi;rw[fh,eA b_];simp only[cond_false,al];rw[show((0:Int) != 0)=false from rfl];simp only[cond_false];show bt v c x _ (Option.bind (fG (v,bz r,())) _) _;rw[kb v _ hl hi,bf bm.1];simp only[al]
 show bt v c x (cond (kindOf (I J v.2.1 i) != 2) (some (20,(v,c,x,()),())) (Ha ((i:Int),0,(v,c,x,()),()) (v.2.1.set i (nK (I J v.2.1 i) (bU x) (fK (I J v.2.1 i))))))
  (cond (aD x==15) _ (cond (aD x==16) _ (cond (kindOf (I J v.2.1 i) != 2) (some (v,(20,[],()),())) ((iq (q+2)).nA v (0,([]:List J.D),()) (0,([]:aP),()) (nK (I J v.2.1 i) (bU x) (eB x)))))) _
 rw[bY (show aD x≠15 by omega),bY (show aD x≠16 by omega)];simp only[cond_false];by_cases iL:kindOf (I J v.2.1 i)=2
 case neg=>rw[dv iL];exact bt.no 20 (by decide) rfl rfl
 rw[eA iL];simp only[cond_false];have hst:az 1000 (v.2.1.set i (nK (I J v.2.1 i) (bU x) (eB x))):=(hv.st.set (k:=1) (i:=i) (y:=nK (I J v.2.1 i) (bU x) (eB x)) bm.1 rfl (fun d af=>hv.jh i bm.1 d af) (fun hk=>absurd iL hk) (Nat.le_add_right _ _) (Nat.le_add_right _ _)).mono (by omega);have fh:Ha ((i:Int),0,(v,c,x,()),()) (v.2.1.set i (nK (I J v.2.1 i) (bU x) (fK (I J v.2.1 i))))=some (fi (v.2.1.set i (nK (I J v.2.1 i) (bU x) (eB x))),((v.1,v.2.1.set i (nK (I J v.2.1 i) (bU x) (eB x)),()),c,x,()),()):=by unfold Ha;rw[bf (by rw[List.length_set];exact bm.1)];simp only[al];rw[List.set_set,jU bm.1,if_pos rfl];show O6 ((i:Int),0,(v,c,x,()),()) (v.2.1.set i (nK (I J v.2.1 i) (bU x) (eB x)))=_;unfold O6;show Option.bind (ot (((v.1,v.2.1.set i (nK (I J v.2.1 i) (bU x) (eB x)),()),c,x,()),())) _=_;rw[CY (v.1,v.2.1.set i (nK (I J v.2.1 i) (bU x) (eB x)),()) c x hst (by omega)];rfl
 rw[fh,S0 hv _ _ bm.1 _ (apU _ _ _) hst];exact bt.yes _ _ (fun h=>⟨q6,S1,h0,r,i,hr,b_,hi,iL,rfl,h⟩) rfl rfl
end Go.LM.ks
