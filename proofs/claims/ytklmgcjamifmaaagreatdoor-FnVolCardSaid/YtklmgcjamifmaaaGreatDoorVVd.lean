/- Calls on volumes: both sides come to the same. Conditions: each theorem's own hypotheses. -/
import Derived.Test.YtklmgcjamifmaaaGreatDoorVVc
set_option linter.unusedVariables false
set_option linter.unusedSimpArgs false
namespace Go.LM.kb
theorem U_{n:Nat}(h:n≤68719476736):n+1<aP:=by unfold aP;omega
theorem w3{α : Type}{l:List α}{k:Nat}(h:k<l.length):l.drop k=l[k] :: l.drop (k+1):=List.drop_eq_getElem_cons h
def px(y:aw.D)(id:aF):Bool:=bu y.1 id
theorem U'(y:aw.D)(id:aF):D3 (y,id,())=some (px y id,()):=rfl
def uN(id:aF):List aw.D→Nat→Int
 | [],_ => -1
 | y :: l,k=>cond (px y id) (k:Int) (uN id l (k+1))
theorem afX(ys:List aw.D)(id:aF)(hn:ys.length≤68719476736):∀(r k m:Nat),k+r=ys.length→r<m →
  wF m ys id (ys.length:Int) (k:Int)=some (uN id (ys.drop k) k,()):=by
 intro r
 induction r with
 | zero =>
  intro k m hk hm
  obtain ⟨m,rfl⟩:∃q,m=q+1:=⟨m-1,by omega⟩
  simp only [wF,D5]
  rw [cG (by omega),List.drop_of_length_le (by omega)];rfl
 | succ r ih =>
  intro k m hk hm
  obtain ⟨m,rfl⟩:∃q,m=q+1:=⟨m-1,by omega⟩
  have nz:k<ys.length:=by omega
  simp only [wF,D5]
  rw [ck nz,bx nz]
  simp only [cond_true,av]
  rw [U',u2 nz,w3 nz]
  simp only [av,uN]
  cases px ys[k] id
  ·simp only [cond_false]
   rw [db _ (by omega)]
   exact ih (k+1) m (by omega) (by omega)
  ·rfl
theorem Va(id:aF):∀(l:List aw.D) (k:Nat),(uN id l k = -1∧l.filter (fun y => !px y id)=l)∨∃j,j<l.length∧uN id l k=((k+j:Nat):Int)∧(l.filter (fun y => !px y id))=l.take j++(l.drop (j+1)).filter (fun y => !px y id)
 | [],_=>.inl ⟨rfl,rfl⟩
 | y :: l,k=>by
  rw [List.filter_cons]
  unfold uN
  cases h:px y id
  ·rcases Va id l (k+1) with⟨h1,h2⟩ | ⟨j,h1,h2,h3⟩
   ·exact .inl ⟨by simp only [cond_false];exact h1,by simp [h2]⟩
   ·exact .inr ⟨j+1,by simpa using h1,by simp only [cond_false];rw [h2];congr 1;omega,by simp [h3]⟩
  ·exact .inr ⟨0,by simp,by simp,by simp⟩
theorem afY(ys:List aw.D)(id:aF)(hn:ys.length≤68719476736):∀(r j i m:Nat) (xs:List aw.D),j+r=ys.length→i≤j→xs.length=ys.length→xs.drop j=ys.drop j→r<m →
  wH m id (i:Int) (j:Int) xs=some (xs.take i++(ys.drop j).filter (fun y => !px y id),()):=by
 intro r
 induction r with
 | zero =>
  intro j i m xs hj il hl ag hm
  obtain ⟨m,rfl⟩:∃q,m=q+1:=⟨m-1,by omega⟩
  simp only [wH,D8]
  rw [cG (by omega),kn (by omega) (Nat.le_refl _)]
  simp only [cond_false,av,RT,Nat.zero_add]
  generalize ((([]:List UInt8),0,()):aw.D)=z
  have hlen:(xs.take i++List.replicate (xs.length-i) z++xs.drop (i +(xs.length-i))).length=xs.length:=by
   simp;omega
  rw [show(0:Int)=((0:Nat):Int) from rfl,kn (Nat.zero_le _) (by rw [hlen];omega)]
  simp only [av,Nat.sub_zero,Nat.zero_add]
  rw [List.drop_of_length_le (l:=ys) (by omega),List.filter_nil,List.append_nil]
  congr 2
  unfold part
  rw [List.drop_zero,List.append_assoc,List.take_append_of_le_length (by simp;omega),List.take_take]
  simp
 | succ r ih =>
  intro j i m xs hj il hl ag hm
  obtain ⟨m,rfl⟩:∃q,m=q+1:=⟨m-1,by omega⟩
  have hjl:j<xs.length:=by omega
  have xq:j<ys.length:=by omega
  have he:xs[j]=ys[j]∧xs.drop (j+1)=ys.drop (j+1):=by
   rw [w3 hjl,w3 xq] at ag
   exact List.cons.inj ag
  simp only [wH,D8]
  rw [ck hjl,bx hjl]
  simp only [cond_true,av,Nat.zero_add]
  rw [U',u2 hjl,he.1,w3 xq,List.filter_cons]
  simp only [av]
  cases hh:px ys[j] id
  ·simp only [Bool.not_false,cond_true,if_true]
   rw [bx (show i<xs.length by omega)]
   simp only [av,Nat.zero_add]
   rw [db _ (by omega),db _ (by omega),ih (j+1) (i+1) m (xs.set i ys[j]) (by omega) (by omega) (by simpa using hl) (by rw [List.drop_set_of_lt (by omega)];exact he.2) (by omega)]
   congr 2
   rw [List.take_add_one,List.take_set_of_le (Nat.le_refl _),List.getElem?_set_self (by omega)]
   simp
  ·simp only [Bool.not_true,cond_false,Bool.false_eq_true,if_false]
   rw [db _ (by omega)]
   exact ih (j+1) i m xs (by omega) (by omega) hl he.2 (by omega)
theorem afZ(ys:List aw.D)(id:aF)(hn:room ys.length=true):D9 (ys,id,())=some (ys.filter (fun y => !px y id),()):=by
 have hn:ys.length≤68719476736:=Nat.le_of_ble_eq_true hn
 show D7 _ ys id=_
 unfold D7
 have hi:Kw (ys,id,())=some (uN id ys 0,()):=by
  have:=afX ys id hn ys.length 0 aP (by omega) (by have:=U_ hn;omega)
  rw [List.drop_zero] at this
  exact this
 rw [hi]
 simp only [av]
 rcases Va id ys 0 with⟨h1,h2⟩ | ⟨j,h1,h2,h3⟩
 ·rw [h1,h2];rfl
 ·rw [h2,h3,Nat.zero_add,show((j:Int) == -1)=false from by rw [beq_eq_false_iff_ne];omega]
  simp only [cond_false]
  rw [db _ (by omega)]
  exact afY ys id hn (ys.length-(j+1)) (j+1) j aP ys (by omega) (by omega) rfl rfl (by have:=U_ hn;omega)
theorem zG(v:af.D)(c:aJ.D)(x:aG.D)(path:aF)(b3:Bool)(hw:pr v.2.1)(hc:df c=true)(au:path.length≤1048576) :
  ∃r,sb b3 v.2.1 r∧kF ((v,c,x,()),path,b3,())=some (r,())∧fK (v,c,path,b3,())=some (r,()):=by
 cases hk:sa path with
 | false =>
  refine⟨((0:Int),([]:aF),(0:Int),(22:Int),()),wX b3 _ (by decide) 0 0 (.inr trivial),?_,?_⟩
  ·show qp (v,c,x,()) path b3=_
   unfold qp
   rw [Fs _ (by omega),hk];rfl
  ·show yC v c path b3=_
   unfold yC
   rw [Fq,hk];rfl
 | true =>
  obtain ⟨r,bA,cc,gC⟩:=U9 v c path b3 hw hc hk
  refine⟨r,bA,?_,?_⟩
  ·show qp (v,c,x,()) path b3=_
   unfold qp
   rw [Fs _ (by omega),hk]
   simp only [av,Bool.not_true,cond_false]
   rw [cc];rfl
  ·show yC v c path b3=_
   unfold yC
   rw [Fq,hk]
   simp only [av,Bool.not_true,cond_false]
   rw [gC];rfl
theorem nq{s:aF} : bu s []=true↔s=[]:=by unfold bu;simp
theorem Vb(v:af.D)(c:aJ.D)(x:aG.D)(path:aF)(hw:pr v.2.1)(hc:df c=true)(au:path.length≤1048576) :
  ∃r eH code,uu ((v,c,x,()),path,())=some (r,code,())∧tz (v,c,path,())=some (eH,code,())∧(code=0→eH=r∧lB v.2.1 r∧bM r=2∧nameOf r≠[]):=by
 cases hk:sa path with
 | false =>
  refine⟨((0:Int),([]:aF),(0:Int),(22:Int),()),((0:Int),([]:aF),(0:Int),(0:Int),()),22,?_,?_,fun h=>by cases h⟩
  ·show y6 (v,c,x,()) path=_
   unfold y6
   have:kF ((v,c,x,()),path,false,())=some (((0:Int),([]:aF),(0:Int),(22:Int),()),()):=by
    show qp (v,c,x,()) path false=_
    unfold qp
    rw [Fs _ (by omega),hk];rfl
   rw [this];rfl
  ·show yu v c path=_
   unfold yu
   rw [Fq,hk];rfl
 | true =>
  obtain ⟨r,bA,cc,gC⟩:=U9 v c path false hw hc hk
  have eP:uu ((v,c,x,()),path,())=cond (bM r==2) (cond (!(bu (nameOf r) [])) (some (r,0,())) (cond (bM r==0) (some (r,17,())) (some (r,bM r,())))) (cond (bM r==0) (some (r,17,())) (some (r,bM r,()))):=by
   show y6 (v,c,x,()) path=_
   unfold y6
   have:kF ((v,c,x,()),path,false,())=some (r,()):=by
    show qp (v,c,x,()) path false=_
    unfold qp
    rw [Fs _ (by omega),hk]
    simp only [av,Bool.not_true,cond_false]
    rw [cc];rfl
   rw [this];rfl
  have dM:tz (v,c,path,())=cond (bM r==0) (some (r,17,())) (cond (bM r==2) (cond (!(bu (nameOf r) [])) (some (r,0,())) (some (r,bM r,()))) (some (r,bM r,()))):=by
   show yu v c path=_
   unfold yu
   rw [Fq,hk]
   simp only [av,Bool.not_true,cond_false]
   rw [gC];rfl
  rw [eP,dM]
  by_cases h0:bM r=0
  ·rw [cB h0,bG (show bM r≠2 by omega)]
   exact⟨r,r,17,rfl,rfl,fun h=>by cases h⟩
  ·rw [bG h0]
   by_cases h2:bM r=2
   ·rw [cB h2]
    cases hn:bu (nameOf r) [] with
    | true=>exact⟨r,r,bM r,rfl,rfl,fun h=>absurd h h0⟩
    | false=>exact⟨r,r,0,rfl,rfl,fun _=>⟨rfl,bA.1,h2,fun h=>by rw [nq.2 h] at hn;cases hn⟩⟩
   ·rw [bG h2]
    exact⟨r,r,bM r,rfl,rfl,fun h=>absurd h h0⟩
def b1(x:aK)(N:List aw.D):aK:=(x.1,x.2.1,x.2.2.1,x.2.2.2.1,x.2.2.2.2.1,x.2.2.2.2.2.1,N,x.2.2.2.2.2.2.2.1,x.2.2.2.2.2.2.2.2.1,())
def dR(s:aF)(d:aw.D):Bool:=dr d.1 s
def ins(N:List aw.D)(s:aF)(id:Int):List aw.D:=N.takeWhile (dR s)++[(s,id,())]++N.dropWhile (dR s)
theorem My{α : Type}(p : α → Bool)(l:List α):l.take (l.takeWhile p).length=l.takeWhile p:=by
 have:=List.take_left' (l₁:=l.takeWhile p) (l₂:=l.dropWhile p) rfl
 rwa [List.takeWhile_append_dropWhile] at this
theorem FG{α : Type}(p : α → Bool)(l:List α):l.drop (l.takeWhile p).length=l.dropWhile p:=by
 have:=List.drop_left' (l₁:=l.takeWhile p) (l₂:=l.dropWhile p) rfl
 rwa [List.takeWhile_append_dropWhile] at this
theorem Vc{α : Type}{p : α → Bool}{x : α} : ∀ {l:List α},x∈l.takeWhile p→p x=true
 | [],h=>by simp at h
 | y :: l,h=>by
  rw [List.takeWhile_cons] at h
  cases aM:p y
  ·rw [aM] at h;simp at h
  ·rw [aM] at h
   simp only [if_true,List.mem_cons] at h
   rcases h with rfl | h
   ·exact aM
   ·exact Vc h
theorem Vd{α : Type}{p : α → Bool}{x : α}{r:List α} : ∀ {l:List α},l.dropWhile p=x :: r→p x=false
 | [],h=>by simp at h
 | y :: l,h=>by
  rw [List.dropWhile_cons] at h
  cases aM:p y
  ·rw [aM] at h
   simp only [Bool.false_eq_true,if_false] at h
   injection h with h1 h2
   rw [← h1];exact aM
  ·rw [aM] at h
   simp only [if_true] at h
   exact Vd h
theorem Mz{α : Type}(p : α → Bool)(l:List α):(l.takeWhile p).length≤l.length:=by
 have:=congrArg List.length (List.takeWhile_append_dropWhile (p:=p) (l:=l))
 rw [List.length_append] at this;omega
theorem w4(N:List aw.D)(s:aF)(id:Int):(ins N s id).length=N.length+1:=by
 have:=congrArg List.length (List.takeWhile_append_dropWhile (p:=dR s) (l:=N))
 rw [List.length_append] at this
 unfold ins
 simp only [List.length_append,List.length_cons,List.length_nil];omega
theorem Ve{N:List aw.D}{s:aF} : ∀ {j:Nat},j<(N.takeWhile (dR s)).length→dr (J aw N j).1 s=true:=by
 intro j hj
 have FH:j<N.length:=Nat.lt_of_lt_of_le hj (Mz _ _)
 have h1:(N.takeWhile (dR s))[j]∈N.takeWhile (dR s):=List.getElem_mem hj
 have h2:=Vc h1
 have e:(N.takeWhile (dR s))[j]=J aw N j:=by
  rw [c6 FH]
  have:=List.takeWhile_append_dropWhile (p:=dR s) (l:=N)
  have h3:(N.takeWhile (dR s)++N.dropWhile (dR s))[j]?=N[j]?:=by rw [this]
  rw [List.getElem?_append_left hj,List.getElem?_eq_getElem hj,List.getElem?_eq_getElem FH] at h3
  exact aU h3
 rw [e] at h2
 exact h2
theorem Vf{N:List aw.D}{s:aF}(h:(N.takeWhile (dR s)).length<N.length):dr (J aw N (N.takeWhile (dR s)).length).1 s=false:=by
 have h1:=FG (dR s) N
 have h2:=w3 h
 rw [h1] at h2
 rw [c6 h]
 exact Vd (p:=dR s) h2
theorem MA(v:af.D)(c:aJ.D)(x:aG.D)(dir:Int)(s:aF)(id:Int)(hl:v.2.1.length≤1048576){i:Nat}(h:bj v.2.1 dir=some i)(hn:(ak (J I v.2.1 i)).length≤1048576) :
  rZ ((v,c,x,()),dir,s,id,())=some (((v.1,v.2.1.set i (b1 (J I v.2.1 i) (ins (ak (J I v.2.1 i)) s id)),()),c,x,()),()):=by
 show D1 (rY aP) (v,c,x,()) dir s id=_
 unfold D1
 rw [Mq v dir hl,h]
 simp only [av,gN]
 obtain ⟨hi,b5⟩:=bX h
 generalize hN:ak (J I v.2.1 i)=N at hn
 have cl:=Mz (dR s) N
 have lq:∀m,(rY (m+1)).bf s id (i:Int) ((N.takeWhile (dR s)).length:Int) (v,c,x,())=some (((v.1,v.2.1.set i (b1 (J I v.2.1 i) (ins N s id)),()),c,x,()),()):=by
  intro m
  show Kr (rY m) s id (i:Int) ((N.takeWhile (dR s)).length:Int) (v,c,x,())=_
  unfold Kr
  rw [bx hi]
  simp only [av,Nat.beq_refl,cond_true]
  show Option.bind (insF (ak (J I v.2.1 i)) ((N.takeWhile (dR s)).length:Int) [(s,id,())]) _=_
  rw [hN]
  unfold insF
  rw [if_pos ⟨Int.natCast_nonneg _,Int.ofNat_le.2 cl,rfl,by omega⟩]
  simp only [av,Int.toNat_natCast]
  rw [My,FG]
  rfl
 have py:=oo 1 (fun m j=>(rY m).k2 s id (i:Int) (j:Int) (v,c,x,())) (some (((v.1,v.2.1.set i (b1 (J I v.2.1 i) (ins N s id)),()),c,x,()),())) (N.takeWhile (dR s)).length 2 (fun j hj B y he=>he.step fun m=>by
  show y7 (rY m) s id (i:Int) (j:Int) (v,c,x,())=_
  unfold y7
  rw [bx hi]
  simp only [av]
  show cond (decide ((j:Int)<((ak (J I v.2.1 i)).length:Int))) ((aN (ak (J I v.2.1 i)).length (j:Int)).bind fun v3=>cond (dr (J aw (ak (J I v.2.1 i)) v3).1 s) _ _) _=_
  rw [hN,ck (by omega),bx (by omega)]
  simp only [cond_true,av]
  rw [Ve hj,db j (by omega)];rfl) (bZ.now 2 fun m=>by
  show y7 (rY (m+1)) s id (i:Int) ((N.takeWhile (dR s)).length:Int) (v,c,x,())=_
  unfold y7
  rw [bx hi]
  simp only [av]
  show cond (decide (((N.takeWhile (dR s)).length:Int)<((ak (J I v.2.1 i)).length:Int))) ((aN (ak (J I v.2.1 i)).length ((N.takeWhile (dR s)).length:Int)).bind fun v3=>cond (dr (J aw (ak (J I v.2.1 i)) v3).1 s) _ _) _=_
  rw [hN]
  rcases Nat.lt_or_ge (N.takeWhile (dR s)).length N.length with h1 | h1
  ·rw [ck h1,bx h1]
   simp only [cond_true,av]
   rw [Vf h1]
   exact lq m
  ·rw [cG h1]
   exact lq m)
 exact kK py (by omega)
def ca(N:List aw.D)(s:aF):List aw.D:=N.filter fun d => !bu d.1 s
def goN(l:List aK)(id:Int):List aK:=cond (decide (cg l id=0)) (l.filter fun y => !(y.1==id)) l
theorem FI{l:List aK}{i:Nat}{y:aK}(hi:i<l.length):dn (l.set i y) +(ak (J I l i)).length=dn l +(ak y).length:=by
 unfold dn
 induction l generalizing i with
 | nil=>simp at hi
 | cons z l ih =>
  cases i with
  | zero=>simp only [List.set_cons_zero,List.map_cons,List.sum_cons];show _ +(ak z).length=_;omega
  | succ i =>
   have:=ih (i:=i) (by simpa using hi)
   simp only [List.set_cons_succ,List.map_cons,List.sum_cons]
   show _ +(ak (J I l i)).length=_
   omega
theorem jX(x:aK)(N:List aw.D):ak (b1 x N)=N:=rfl
theorem uO(N:List aw.D)(s:aF):(ca N s).length≤N.length:=List.length_filter_le _ _
theorem MB(v:af.D)(c:aJ.D)(x:aG.D)(dir:Int)(s:aF)(goes:Bool)(hl:v.2.1.length≤1048576)(hm:dn v.2.1≤1048576){i:Nat}(h:bj v.2.1 dir=some i) :
  oc ((v,c,x,()),dir,s,goes,())=some (((v.1,cond goes (goN (v.2.1.set i (b1 (J I v.2.1 i) (ca (ak (J I v.2.1 i)) s))) (dD (ak (J I v.2.1 i)) s)) (v.2.1.set i (b1 (J I v.2.1 i) (ca (ak (J I v.2.1 i)) s))),()),c,x,()),()):=by
 show Ky (v,c,x,()) dir s goes=_
 unfold Ky
 rw [Mq v dir hl,h]
 simp only [av,gN]
 obtain ⟨hi,b5⟩:=bX h
 have hn:=Nat.le_trans (fM hi) hm
 rw [bx hi]
 simp only [av,Nat.beq_refl,cond_true]
 rw [UH _ _ hn]
 simp only [av]
 show Option.bind (D9 (ak (J I v.2.1 i),s,())) _=_
 rw [afZ _ _ (cE (by omega))]
 simp only [av]
 show Kx goes ((i:Int),v,()) (dD (ak (J I v.2.1 i)) s,()) (v,c,x,()) (v.2.1.set i (b1 (J I v.2.1 i) (ca (ak (J I v.2.1 i)) s)))=_
 have pf:(v.2.1.set i (b1 (J I v.2.1 i) (ca (ak (J I v.2.1 i)) s))).length≤1048576:=by rw [List.length_set];exact hl
 have nr:dn (v.2.1.set i (b1 (J I v.2.1 i) (ca (ak (J I v.2.1 i)) s)))≤1048576:=by
  have:=FI (l:=v.2.1) (y:=b1 (J I v.2.1 i) (ca (ak (J I v.2.1 i)) s)) hi
  rw [jX] at this
  have:=uO (ak (J I v.2.1 i)) s
  omega
 generalize v.2.1.set i (b1 (J I v.2.1 i) (ca (ak (J I v.2.1 i)) s))=l at pf nr
 generalize dD (ak (J I v.2.1 i)) s=id
 unfold Kx
 cases goes
 ·rfl
 ·simp only [cond_true]
  show Option.bind (wA (((v.1,l,()):af.D),id,())) _=_
  rw [E' (v.1,l,()) id pf nr]
  simp only [av]
  unfold goN
  by_cases h0:cg l id=0
  ·rw [show(((cg l id:Nat):Int)==0)=true by rw [h0];rfl,decide_eq_true h0]
   simp only [cond_true]
   show Option.bind (cond (room l.length) _ none) _=_
   rw [cE (by omega)];rfl
  ·rw [show(((cg l id:Nat):Int)==0)=false by rw [beq_eq_false_iff_ne];omega,decide_eq_false h0];rfl
theorem FJ(v:af.D)(n:aK)(hl:v.2.1.length≤1048576){i:Nat}(h:bj v.2.1 n.1=some i):n4 (v,n,())=some ((v.1,v.2.1.set i n,()),()):=by
 show yA v n=_
 unfold yA
 rw [ni v _ hl,h]
 simp only [av]
 rw [show decide (gN (some i)<0)=false from zu]
 simp only [cond_false,gN]
 rw [bx (bX h).1]
 simp only [av,Nat.zero_add]
theorem af0(v:af.D)(n:aK)(hl:v.2.1.length≤1048576)(h:bj v.2.1 n.1=none):n4 (v,n,())=some ((v.1,v.2.1++[n],()),()):=by
 show yA v n=_
 unfold yA
 rw [ni v _ hl,h]
 simp only [av,zu,Option.isNone_none,cond_true]
 rw [cE (by simp;omega)];rfl
theorem MC(v:af.D)(dir:Int)(s:aF)(id:Int)(hl:v.2.1.length≤1048576){i:Nat}(h:bj v.2.1 dir=some i)(hn:(ak (J I v.2.1 i)).length≤1048576)(hs:∀d,d∈ak (J I v.2.1 i)→d.1≠s) :
  rE (v,dir,s,id,())=some ((v.1,v.2.1.set i (b1 (J I v.2.1 i) (ins (ak (J I v.2.1 i)) s id)),()),()):=by
 show Cw (ie aP) v dir s id=_
 unfold Cw
 rw [je v dir hl h]
 simp only [av]
 obtain ⟨hi,b5⟩:=bX h
 generalize hN:ak (J I v.2.1 i)=N at hn hs
 have cl:=Mz (dR s) N
 have hw:bj v.2.1 (b1 (J I v.2.1 i) (ins N s id)).1=some i:=by rw [show(b1 (J I v.2.1 i) (ins N s id)).1=dir from b5];exact h
 have Vg:∀m,(ie (m+1)).l8 v (0,([]:List I.D),()) (J I v.2.1 i) (ins N s id)=some ((v.1,v.2.1.set i (b1 (J I v.2.1 i) (ins N s id)),()),()):=by
  intro m
  show Je (ie m) v (0,([]:List I.D),()) (J I v.2.1 i) (ins N s id)=_
  unfold Je
  show Option.bind (n4 (v,b1 (J I v.2.1 i) (ins N s id),())) _=_
  rw [FJ v _ hl hw];rfl
 have af1:∀(r j:Nat) (acc:List aw.D),j+r=N.length→acc++N.drop j=ins N s id→acc.length≤j+1→bZ (fun m=>(ie m).bs s id true (j:Int) v (0,([]:List I.D),()) (J I v.2.1 i) acc) (2*r+2) (some ((v.1,v.2.1.set i (b1 (J I v.2.1 i) (ins N s id)),()),())):=by
  intro r
  induction r with
  | zero =>
   intro j acc hj he ha
   refine bZ.now 2 fun m=>?_
   show n5 (ie (m+1)) s id true (j:Int) v (0,([]:List I.D),()) (J I v.2.1 i) acc=_
   unfold n5
   show cond (decide ((j:Int)<((ak (J I v.2.1 i)).length:Int))) _ _=_
   rw [hN,cG (by omega)]
   rw [List.drop_of_length_le (by omega),List.append_nil] at he
   rw [he]
   exact Vg m
  | succ r ih =>
   intro j acc hj he ha
   have hjl:j<N.length:=by omega
   have:=ih (j+1) (acc++[J aw N j]) (by omega) (by rw [List.append_assoc,List.singleton_append,← drop_cons (t:=aw) hjl];exact he) (by simp;omega)
   refine(this.jump (f:=fun m=>(ie m).bs s id true (j:Int) v (0,([]:List I.D),()) (J I v.2.1 i) acc) 2 fun m=>?_).mono (by omega)
   show n5 (ie (m+1)) s id true (j:Int) v (0,([]:List I.D),()) (J I v.2.1 i) acc=_
   unfold n5
   show cond (decide ((j:Int)<((ak (J I v.2.1 i)).length:Int))) _ _=_
   rw [hN,ck hjl]
   simp only [cond_true,Bool.not_true,cond_false]
   show tE (ie m) s id true (j:Int) v (0,([]:List I.D),()) (J I v.2.1 i) acc=_
   unfold tE
   show Option.bind (aN (ak (J I v.2.1 i)).length (j:Int)) (fun v1=>cond (room (acc.length+1)) ((ie m).bs s id true (aH ((j:Int)+1)) v (0,([]:List I.D),()) (J I v.2.1 i) (acc++[J aw (ak (J I v.2.1 i)) v1])) none)=_
   rw [hN,bx hjl]
   simp only [av]
   rw [cE (by omega),db j (by omega)];rfl
 have py:=oo 2 (fun m j=>(ie m).bs s id false (j:Int) v (0,([]:List I.D),()) (J I v.2.1 i) (N.take j)) (some ((v.1,v.2.1.set i (b1 (J I v.2.1 i) (ins N s id)),()),())) (N.takeWhile (dR s)).length (2*N.length+8) (fun j hj B y he=>(he.jump (f:=fun m=>(ie m).bs s id false (j:Int) v (0,([]:List I.D),()) (J I v.2.1 i) (N.take j)) 2 fun m=>by
  have hjl:j<N.length:=by omega
  show n5 (ie (m+1)) s id false (j:Int) v (0,([]:List I.D),()) (J I v.2.1 i) (N.take j)=_
  unfold n5
  show cond (decide ((j:Int)<((ak (J I v.2.1 i)).length:Int))) (cond (!false) ((aN (ak (J I v.2.1 i)).length (j:Int)).bind fun v1=>cond (dr s (J aw (ak (J I v.2.1 i)) v1).1) _ _) _) _=_
  rw [hN,ck hjl,bx hjl]
  simp only [cond_true,Bool.not_false,av]
  rw [UY (Ve hj)]
  simp only [cond_false]
  show tE (ie m) s id false (j:Int) v (0,([]:List I.D),()) (J I v.2.1 i) (N.take j)=_
  unfold tE
  show Option.bind (aN (ak (J I v.2.1 i)).length (j:Int)) (fun v1=>cond (room ((N.take j).length+1)) ((ie m).bs s id false (aH ((j:Int)+1)) v (0,([]:List I.D),()) (J I v.2.1 i) (N.take j++[J aw (ak (J I v.2.1 i)) v1])) none)=_
  rw [hN,bx hjl]
  simp only [av]
  rw [cE (by rw [List.length_take];omega),db j (by omega),c6 hjl,← List.take_succ_eq_append_getElem hjl];rfl)) (by
  rcases Nat.lt_or_ge (N.takeWhile (dR s)).length N.length with h1 | h1
  ·
   generalize hj:(N.takeWhile (dR s)).length=j at h1 cl
   have qJ:N.take j++[(s,id,())]++N.drop j=ins N s id:=by rw [← hj,My,FG];rfl
   have cw:dr s (J aw N j).1=true:=by
    have:=Vf (N:=N) (s:=s) (by omega)
    rw [hj] at this
    rw [Mv (hs _ (cI h1)),this];rfl
   have:=af1 (N.length-(j+1)) (j+1) (N.take j++[(s,id,())]++[J aw N j]) (by omega) (by rw [List.append_assoc _ [J aw N j],List.singleton_append,← drop_cons (t:=aw) h1];exact qJ) (by simp;omega)
   refine(this.jump (f:=fun m=>(ie m).bs s id false (j:Int) v (0,([]:List I.D),()) (J I v.2.1 i) (N.take j)) 2 fun m=>?_).mono (by omega)
   show n5 (ie (m+1)) s id false (j:Int) v (0,([]:List I.D),()) (J I v.2.1 i) (N.take j)=_
   unfold n5
   show cond (decide ((j:Int)<((ak (J I v.2.1 i)).length:Int))) (cond (!false) ((aN (ak (J I v.2.1 i)).length (j:Int)).bind fun v1=>cond (dr s (J aw (ak (J I v.2.1 i)) v1).1) _ _) _) _=_
   rw [hN,ck h1,bx h1]
   simp only [cond_true,Bool.not_false,av]
   rw [cw]
   simp only [cond_true]
   rw [cE (by simp;omega)]
   simp only [cond_true]
   show tE (ie m) s id true (j:Int) v (0,([]:List I.D),()) (J I v.2.1 i) (N.take j++[(s,id,())])=_
   unfold tE
   show Option.bind (aN (ak (J I v.2.1 i)).length (j:Int)) (fun v1=>cond (room ((N.take j++[(s,id,())]).length+1)) ((ie m).bs s id true (aH ((j:Int)+1)) v (0,([]:List I.D),()) (J I v.2.1 i) ((N.take j++[(s,id,())])++[J aw (ak (J I v.2.1 i)) v1])) none)=_
   rw [hN,bx h1]
   simp only [av]
   rw [cE (by simp;omega),db j (by omega)];rfl
  ·
   have hj:(N.takeWhile (dR s)).length=N.length:=by omega
   have qJ:N++[(s,id,())]=ins N s id:=by
    unfold ins
    rw [← FG,← My,hj,List.take_length,List.drop_length,List.append_nil]
   rw [hj,List.take_length]
   refine(bZ.now 2 fun m=>?_).mono (by omega)
   show n5 (ie (m+1)) s id false (N.length:Int) v (0,([]:List I.D),()) (J I v.2.1 i) N=_
   unfold n5
   show cond (decide ((N.length:Int)<((ak (J I v.2.1 i)).length:Int))) _ _=_
   rw [hN,cG (Nat.le_refl _)]
   simp only [cond_false,Bool.not_false,cond_true]
   rw [cE (by simp;omega),qJ]
   exact Vg m)
 exact kK py (by omega)
theorem iK{l:List aK}{i j:Nat}{y:aK}(hi:i<l.length):J I (l.set i y) j=if i=j then y else J I l j:=by
 by_cases hj:j<l.length
 ·rw [c6 (by rw [List.length_set];exact hj),c6 hj,List.getElem_set]
 ·rw [if_neg (by omega)]
  unfold J
  rw [List.getD_eq_getElem?_getD,List.getD_eq_getElem?_getD,List.getElem?_eq_none (by rw [List.length_set];omega),List.getElem?_eq_none (by omega)]
theorem Vh{n:Nat}{P Q:Nat→Bool}(h:∀i,i<n→P i=Q i):e8 n P=e8 n Q:=by
 cases hq:e8 n Q with
 | none=>exact lz.2 fun i hi=>by rw [h i hi];exact lz.1 hq i hi
 | some k =>
  obtain ⟨h1,h2,h3⟩:=hP.1 hq
  exact hP.2 ⟨h1,by rw [h k h1];exact h2,fun j hj=>by rw [h j (by omega)];exact h3 j hj⟩
theorem FK{l:List aK}{i:Nat}{y:aK}(hi:i<l.length)(aM:y.1=(J I l i).1)(id:Int):bj (l.set i y) id=bj l id:=by
 unfold bj
 rw [List.length_set]
 refine Vh fun j hj=>?_
 rw [iK hi]
 split
 ·rename_i h;rw [aM,h]
 ·rfl
def zH(l:List aK):Prop:=l.Pairwise fun a b=>a7 a≠a7 b
theorem zI{l:List aK} : hR l↔zH l:=by
 unfold zH
 rw [List.pairwise_iff_getElem]
 constructor
 ·intro h i j hi hj il he
  have h1:=h i hi
  have h2:=h j hj
  rw [c6 hi] at h1
  rw [c6 hj] at h2
  have:(l[i]).1=(l[j]).1:=he
  rw [this,h2] at h1
  have:=aU h1
  omega
 ·intro h x hx
  unfold bj
  rw [hP]
  refine⟨hx,by simp,fun j hj=>?_⟩
  rw [beq_eq_false_iff_ne,c6 hx,c6 (i:=j) (by omega)]
  exact h j x (by omega) hx hj
theorem ns{l:List aK}{id:Int} :(bj l id).isSome=true↔∃x,x∈l∧x.1=id:=by
 constructor
 ·intro h
  obtain ⟨i,hi⟩:=Option.isSome_iff_exists.1 h
  obtain ⟨h1,h2⟩:=bX hi
  exact⟨_,cI h1,h2⟩
 ·rintro ⟨x,hx,he⟩
  obtain ⟨i,hi,az⟩:=fg hx
  cases h:bj l id with
  | some k=>rfl
  | none =>
   have:=lz.1 h i hi
   rw [az,he] at this
   simp at this
theorem af2{l:List aK}{n:aK}{id:Int}{i:Nat}(h:bj l id=some i):bj (l++[n]) id=some i:=by
 obtain ⟨h1,h2,h3⟩:=hP.1 h
 have az:∀j,j<l.length→J I (l++[n]) j=J I l j:=fun j hj=>by rw [c6 (by simp;omega),c6 hj,List.getElem_append_left hj]
 exact hP.2 ⟨by simp;omega,by rw [az i h1];exact h2,fun j hj=>by rw [az j (by omega)];exact h3 j hj⟩
theorem MD{l:List aK}{n:aK}{j:Nat}(hj:j<l.length):J I (l++[n]) j=J I l j:=by rw [c6 (by simp;omega),c6 hj,List.getElem_append_left hj]
theorem Vi{l:List aK}{n y:aK}{i:Nat}(hi:i<l.length):(l++[n]).set i y=l.set i y++[n]:=by rw [List.set_append_left _ _ hi]
theorem FL{l:List aK}{id:Int}(h:cg l id=0):∀x,x∈l→∀d,d∈ak x→d.2.1≠id:=by
 intro x hx d ag he
 have h1:dm (ak x) id≤cg l id:=by
  unfold cg
  exact Fj (f:=fun x=>dm (ak x) id) hx
 have h2:d∈(ak x).filter fun d=>d.2.1==id:=List.mem_filter.2 ⟨ag,by simpa using he⟩
 have h3:0<dm (ak x) id:=List.length_pos_of_mem h2
 omega
theorem Vj{l:List aK}{i:Nat}{y:aK}(hi:i<l.length):bytesOf (l.set i y) +(bN (J I l i)).length=bytesOf l +(bN y).length:=by
 unfold bytesOf
 induction l generalizing i with
 | nil=>simp at hi
 | cons z l ih =>
  cases i with
  | zero=>simp only [List.set_cons_zero,List.map_cons,List.sum_cons];show _ +(bN z).length=_;omega
  | succ i =>
   have:=ih (i:=i) (by simpa using hi)
   simp only [List.set_cons_succ,List.map_cons,List.sum_cons]
   show _ +(bN (J I l i)).length=_
   omega
theorem FM{α : Type}(f : α → Nat)(p : α → Bool):∀l:List α,((l.filter p).map f).sum≤(l.map f).sum
 | []=>Nat.le_refl _
 | x :: l=>by
  have:=FM f p l
  rw [List.filter_cons]
  split
  ·simp only [List.map_cons,List.sum_cons];omega
  ·simp only [List.map_cons,List.sum_cons];omega
structure an(B:Nat)(l:List aK):Prop where
 len:l.length≤B
 cJ:dn l≤B
 bytes:bytesOf l≤B
 ga:hR l
 gZ:qC l
 bare:∀i,i<l.length→kindOf (J I l i)≠2→ej (J I l i)=0∧dC (J I l i)=0∧ak (J I l i)=[]
theorem an.mono{B mL:Nat}{l:List aK}(h:an B l)(hb:B≤mL):an mL l:=⟨Nat.le_trans h.len hb,Nat.le_trans h.cJ hb,Nat.le_trans h.bytes hb,h.ga,h.gZ,h.bare⟩
theorem bI.cJ{v:af.D}(h:bI v):dn v.2.1≤288:=by
 have key:∀l:List aK,(∀x,x∈l→(ak x).length≤12)→dn l≤l.length*12:=by
  intro l
  induction l with
  | nil=>intro _;exact Nat.le_refl _
  | cons x l ih =>
   intro hx
   have h1:=hx x List.mem_cons_self
   have h2:=ih fun y aM=>hx y (List.mem_cons_of_mem _ aM)
   show(ak x).length+dn l≤(l.length+1)*12
   omega
 have:=key v.2.1 fun x hx=>by
  obtain ⟨i,hi,he⟩:=fg hx
  have h1:=h.ino i hi
  rw [he] at h1
  by_cases hk:kindOf x=2
  ·exact(h1.dir hk).2.2.2
  ·rw [(h1.plain hk).2.2];simp
 have:=h.len
 omega
theorem bI.st{v:af.D}(h:bI v):an 400 v.2.1 :=
 ⟨by have:=h.len;omega,by have:=h.cJ;omega,h.bytes,h.ga,h.gZ,fun i hi hk=>(h.ino i hi).plain hk⟩
theorem FN{l:List aK} : qC l↔∀x,x∈l→∀d,d∈ak x→∃y,y∈l∧y.1=d.2.1:=by
 constructor
 ·intro h x hx d ag
  obtain ⟨i,hi,he⟩:=fg hx
  exact ns.1 (h i hi d (by rw [he];exact ag))
 ·intro h i hi d ag
  exact ns.2 (h _ (cI hi) d ag)
theorem an.set{B k:Nat}{l:List aK}{i:Nat}{y:aK}(h:an B l)(hi:i<l.length)(aM:y.1=(J I l i).1)(hex:∀d,d∈ak y→(bj l d.2.1).isSome=true)
  (hb:kindOf y≠2→ej y=0∧dC y=0∧ak y=[]) (hn:(ak y).length≤(ak (J I l i)).length+k) (ag:(bN y).length≤(bN (J I l i)).length+k):an (B+k) (l.set i y):=by
 have h1:=FI (l:=l) (y:=y) hi
 have h2:=Vj (l:=l) (y:=y) hi
 have h3:=h.cJ
 have h4:=h.bytes
 have aZ:=h.len
 refine⟨by rw [List.length_set];omega,by omega,by omega,fun x hx=>?_,fun j hj d ag=>?_,fun j hj hk=>?_⟩
 ·rw [List.length_set] at hx
  rw [FK hi aM,iK hi]
  split
  ·rename_i he;subst he;rw [aM];exact h.ga i hx
  ·exact h.ga x hx
 ·rw [List.length_set] at hj
  rw [iK hi] at ag
  rw [FK hi aM]
  split at ag
  ·exact hex d ag
  ·exact h.gZ j hj d ag
 ·rw [List.length_set] at hj
  rw [iK hi] at hk ⊢
  split at hk
  ·rename_i he;rw [if_pos he];exact hb hk
  ·rename_i he;rw [if_neg he];exact h.bare j hj hk
theorem af3{l:List aK}(p:aK→Bool)(h:zH l):zH (l.filter p):=List.Pairwise.sublist (List.filter_sublist) h
theorem an.go{B:Nat}{l:List aK}(h:an B l)(id:Int):an B (goN l id):=by
 unfold goN
 by_cases h0:cg l id=0
 ·rw [decide_eq_true h0]
  simp only [cond_true]
  refine⟨Nat.le_trans (List.length_filter_le _ _) h.len,Nat.le_trans (FM _ _ _) h.cJ,Nat.le_trans (FM _ _ _) h.bytes,zI.2 (af3 _ (zI.1 h.ga)),FN.2 fun x hx d ag=>?_,fun i hi hk=>?_⟩
  ·have hx:=(List.mem_filter.1 hx).1
   obtain ⟨y,aM,he⟩:=FN.1 h.gZ x hx d ag
   refine⟨y,List.mem_filter.2 ⟨aM,?_⟩,he⟩
   have:=FL h0 x hx d ag
   rw [Bool.not_eq_true',beq_eq_false_iff_ne,he];exact this
  ·have hx:=(List.mem_filter.1 (cI (t:=I) hi)).1
   obtain ⟨j,hj,he⟩:=fg hx
   rw [← he] at hk ⊢
   exact h.bare j hj hk
 ·rw [decide_eq_false h0];exact h
theorem an.app{B k:Nat}{l:List aK}{n:aK}(h:an B l)(b5:bj l n.1=none)(hn:ak n=[])(ag:(bN n).length≤k)(hk:1≤k)(hb:kindOf n≠2→ej n=0∧dC n=0):an (B+k) (l++[n]):=by
 have h3:=h.cJ
 have h4:=h.bytes
 have aZ:=h.len
 refine⟨by simp;omega,by unfold dn at *;simp [hn];omega,by unfold bytesOf at *;simp;omega,zI.2 ?_,FN.2 fun x hx d iW=>?_,fun i hi hk=>?_⟩
 ·refine List.pairwise_append.2 ⟨zI.1 h.ga,List.pairwise_singleton _ _,fun a ha b dj he=>?_⟩
  simp only [List.mem_singleton] at dj
  subst dj
  have:(bj l b.1).isSome=true:=ns.2 ⟨a,ha,he⟩
  rw [b5] at this;cases this
 ·rcases List.mem_append.1 hx with hx | hx
  ·obtain ⟨y,aM,he⟩:=FN.1 h.gZ x hx d iW
   exact⟨y,List.mem_append_left _ aM,he⟩
  ·simp only [List.mem_singleton] at hx
   subst hx
   rw [hn] at iW;simp at iW
 ·rcases Nat.lt_or_ge i l.length with hl | hl
  ·rw [MD hl] at hk ⊢;exact h.bare i hl hk
  ·have:i=l.length:=by simp at hi;omega
   subst this
   have he:J I (l++[n]) l.length=n:=by rw [c6 (by simp)];simp
   rw [he] at hk ⊢
   exact⟨(hb hk).1,(hb hk).2,hn⟩
def e_(l:List aK):Int:=cond (decide ((bytesOf l:Int)>400)) 28 (cond (f' l) 122 0)
theorem zJ{B:Nat}(v:af.D)(c:aJ.D)(x:aG.D)(h:an B v.2.1)(fI:B≤1048576):na ((v,c,x,()),())=some (e_ v.2.1,()):=by
 have h1:=Nat.le_trans h.len fI
 have h2:=Nat.le_trans h.cJ fI
 have h3:=Nat.le_trans h.bytes fI
 show Ks (v,c,x,())=_
 unfold Ks e_
 show Option.bind (rS (v,())) _=_
 rw [L8 v h1 h3]
 simp only [av]
 show cond _ _ (Option.bind (y3 (v.2.1,v,())) _)=_
 rw [Uu v h1 h2 h3 h.ga h.gZ]
 simp only [av]
 cases decide ((bytesOf v.2.1:Int)>400) <;> cases f' v.2.1 <;> rfl
theorem af4{B:Nat}(v:af.D)(h:an B v.2.1)(fI:B≤1048576):Jc (v,())=some (e_ v.2.1,()):=by
 have h1:=Nat.le_trans h.len fI
 have h2:=Nat.le_trans h.cJ fI
 have h3:=Nat.le_trans h.bytes fI
 show Jb v=_
 unfold Jb e_
 rw [L7 v h1 h3]
 simp only [av]
 rw [Uv v h1 h2 h3 (fun i hi hk=>⟨(h.bare i hi hk).1,(h.bare i hi hk).2.1⟩)]
 simp only [av]
 cases decide ((bytesOf v.2.1:Int)>400) <;> cases f' v.2.1 <;> rfl
theorem zK{B:Nat}(u v:af.D)(h:an B v.2.1)(fI:B≤1048576):qb (u,v,())=some (cond (e_ v.2.1==0) v u,(e_ v.2.1,[],()),()):=by
 show Jd u v=_
 unfold Jd
 rw [af4 v h fI]
 simp only [av]
 by_cases h0:e_ v.2.1=0
 ·rw [dH h0,cB h0,h0];rfl
 ·rw [c0 h0,bG h0];rfl
def zL:List aw.D→aF→Int
 | [],_=>0
 | d :: r,s=>cond (bu d.1 s) d.2.1 (zL r s)
theorem af5{n:Nat}{P:Nat→Bool} : e8 (n+1) P=cond (P 0) (some 0) ((e8 n fun i=>P (i+1)).map (· + 1)):=by
 cases h0:P 0
 ·simp only [cond_false]
  cases h:e8 n fun i=>P (i+1) with
  | none =>
   refine lz.2 fun i hi=>?_
   cases i with
   | zero=>exact h0
   | succ i=>exact lz.1 h i (by omega)
  | some k =>
   obtain ⟨h1,h2,h3⟩:=hP.1 h
   refine hP.2 ⟨show k+1<n+1 by omega,h2,fun j hj=>?_⟩
   have hj:j<k+1:=hj
   cases j with
   | zero=>exact h0
   | succ j=>exact h3 j (by omega)
 ·exact hP.2 ⟨by omega,h0,fun j hj=>by omega⟩
theorem look_eq(s:aF):∀N:List aw.D,dD N s=zL N s
 | []=>rfl
 | d :: r=>by
  unfold dD zL
  rw [List.length_cons,af5]
  show zD (d :: r) (cond (bu d.1 s) _ _)=_
  cases ag:bu d.1 s
  ·simp only [cond_false]
   rw [← look_eq s r]
   unfold dD
   show zD (d :: r) ((e8 r.length (qF r s)).map (· + 1))=_
   cases e8 r.length (qF r s) <;> rfl
  ·rfl
def uP(N:List aw.D)(s:aF)(id:Int):Int:=N.foldl (fun a d=>cond (bu d.1 s) d.2.1 a) id
theorem Vk{s:aF}{id:Int} : ∀ {N:List aw.D},(∀d,d∈N→d.1≠s)→uP N s id=id
 | [],_=>rfl
 | d :: r,h=>by
  have h1:bu d.1 s=false:=by unfold bu;simpa using h d List.mem_cons_self
  unfold uP
  rw [List.foldl_cons,h1]
  exact Vk fun e he=>h e (List.mem_cons_of_mem _ he)
theorem Vl{s:aF} : ∀ {N:List aw.D},iJ N→uP N s 0=dD N s
 | [],_=>rfl
 | d :: r,h=>by
  obtain ⟨h1,h2⟩:=List.pairwise_cons.1 h
  rw [look_eq,zL,← look_eq]
  unfold uP
  rw [List.foldl_cons]
  cases ag:bu d.1 s
  ·exact Vl h2
  ·have ag:d.1=s:=by unfold bu at ag;simpa using ag
   refine Vk fun e he=>?_
   have:=h1 e he
   rw [ag] at this
   exact(Fx this).symm
theorem ME(v:af.D)(dir:Int)(s:aF)(hl:v.2.1.length≤1048576)(hm:dn v.2.1≤1048576){i:Nat}(h:bj v.2.1 dir=some i)(hs:iJ (ak (J I v.2.1 i))) :
  n7 (v,dir,s,())=some ((v.1,goN (v.2.1.set i (b1 (J I v.2.1 i) (ca (ak (J I v.2.1 i)) s))) (dD (ak (J I v.2.1 i)) s),()),()):=by
 show Cz (kC aP) v dir s=_
 unfold Cz
 rw [je v dir hl h]
 simp only [av]
 obtain ⟨hi,b5⟩:=bX h
 have hn:=Nat.le_trans (fM hi) hm
 have nr:dn (v.2.1.set i (b1 (J I v.2.1 i) (ca (ak (J I v.2.1 i)) s)))≤1048576:=by
  have:=FI (l:=v.2.1) (y:=b1 (J I v.2.1 i) (ca (ak (J I v.2.1 i)) s)) hi
  rw [jX] at this
  have:=uO (ak (J I v.2.1 i)) s
  omega
 have pf:(v.2.1.set i (b1 (J I v.2.1 i) (ca (ak (J I v.2.1 i)) s))).length≤1048576:=by rw [List.length_set];exact hl
 rw [← Vl hs]
 generalize hN:ak (J I v.2.1 i)=N at hn hs nr pf
 have hw:bj v.2.1 (b1 (J I v.2.1 i) (ca N s)).1=some i:=by rw [show(b1 (J I v.2.1 i) (ca N s)).1=dir from b5];exact h
 have key:∀(r j:Nat) (id:Int),j+r=N.length→bZ (fun m=>(kC m).bs s id (j:Int) v (0,([]:List I.D),()) (J I v.2.1 i) (ca (N.take j) s)) (r+1048580) (some ((v.1,goN (v.2.1.set i (b1 (J I v.2.1 i) (ca N s))) (uP (N.drop j) s id),()),())):=by
  intro r
  induction r with
  | zero =>
   intro j id hj
   have FH:j=N.length:=by omega
   subst FH
   rw [List.drop_length,List.take_length]
   show bZ _ _ (some ((v.1,goN (v.2.1.set i (b1 (J I v.2.1 i) (ca N s))) id,()),()))
   have hb:∀m,(kC (m+1)).bs s id (N.length:Int) v (0,([]:List I.D),()) (J I v.2.1 i) (ca N s) =
     cond (decide (((cg (v.2.1.set i (b1 (J I v.2.1 i) (ca N s))) id:Nat):Int)>0)) (some ((v.1,v.2.1.set i (b1 (J I v.2.1 i) (ca N s)),()),())) ((kC m).l9 id 0 (v.1,v.2.1.set i (b1 (J I v.2.1 i) (ca N s)),()) (0,([]:List I.D),()) ([]:List I.D)):=by
    intro m
    show yG (kC m) s id (N.length:Int) v (0,([]:List I.D),()) (J I v.2.1 i) (ca N s)=_
    unfold yG
    show cond (decide ((N.length:Int)<((ak (J I v.2.1 i)).length:Int))) _ (Option.bind (n4 (v,b1 (J I v.2.1 i) (ca N s),())) _)=_
    rw [hN,cG (Nat.le_refl _),FJ v _ hl hw]
    simp only [cond_false,av]
    rw [E_ (v.1,v.2.1.set i (b1 (J I v.2.1 i) (ca N s)),()) id pf nr]
    rfl
   generalize v.2.1.set i (b1 (J I v.2.1 i) (ca N s))=l at hb pf
   unfold goN
   by_cases h0:cg l id=0
   ·rw [decide_eq_true h0]
    simp only [cond_true]
    have af6:=oo 1 (fun m j=>(kC m).l9 id (j:Int) (v.1,l,()) (0,([]:List I.D),()) ((l.take j).filter fun y => !(y.1==id))) (some ((v.1,l.filter fun y => !(y.1==id),()),())) l.length 1 (fun j hj B y he=>he.step fun m=>by
     have hJ:((l.take j).filter fun y => !(y.1==id)).length≤j:=Nat.le_trans (List.length_filter_le _ _) (by rw [List.length_take];omega)
     show yH (kC m) id (j:Int) (v.1,l,()) (0,([]:List I.D),()) ((l.take j).filter fun y => !(y.1==id))=_
     unfold yH
     show cond (decide ((j:Int)<(l.length:Int))) ((aN l.length (j:Int)).bind fun v1=>cond (!((J I l (0+v1)).1==id)) _ _) _=_
     rw [ck hj,bx hj]
     simp only [cond_true,av,Nat.zero_add]
     rw [db j (by omega),List.take_succ_eq_append_getElem hj,List.filter_append,List.filter_cons,List.filter_nil,c6 hj]
     cases hc:(!((l[j]).1==id))
     ·simp
     ·simp only [cond_true,if_true]
      rw [cE (by simp only [List.length_cons,List.length_nil];omega)];rfl) (bZ.now 1 fun m=>by
     show yH (kC m) id (l.length:Int) (v.1,l,()) (0,([]:List I.D),()) ((l.take l.length).filter fun y => !(y.1==id))=_
     unfold yH
     show cond (decide ((l.length:Int)<(l.length:Int))) _ _=_
     rw [cG (Nat.le_refl _),List.take_length];rfl)
    refine(af6.jump (f:=fun m=>(kC m).bs s id (N.length:Int) v (0,([]:List I.D),()) (J I v.2.1 i) (ca N s)) 1 fun m=>?_).mono (by omega)
    rw [hb m,decide_eq_false (by omega)];rfl
   ·rw [decide_eq_false h0]
    simp only [cond_false]
    refine(bZ.now 1 fun m=>?_).mono (by omega)
    rw [hb m,decide_eq_true (by omega)];rfl
  | succ r ih =>
   intro j id hj
   have hjl:j<N.length:=by omega
   have ih:=ih (j+1) (cond (bu (J aw N j).1 s) (J aw N j).2.1 id) (by omega)
   have g':uP (N.drop (j+1)) s (cond (bu (J aw N j).1 s) (J aw N j).2.1 id)=uP (N.drop j) s id:=by
    rw [drop_cons (t:=aw) hjl];rfl
   rw [g'] at ih
   refine(ih.jump (f:=fun m=>(kC m).bs s id (j:Int) v (0,([]:List I.D),()) (J I v.2.1 i) (ca (N.take j) s)) 1 fun m=>?_).mono (by omega)
   have hJ:(ca (N.take j) s).length≤j:=Nat.le_trans (List.length_filter_le _ _) (by rw [List.length_take];omega)
   show yG (kC m) s id (j:Int) v (0,([]:List I.D),()) (J I v.2.1 i) (ca (N.take j) s)=_
   unfold yG
   show cond (decide ((j:Int)<((ak (J I v.2.1 i)).length:Int))) ((aN (ak (J I v.2.1 i)).length (j:Int)).bind fun v1=>cond (bu (J aw (ak (J I v.2.1 i)) v1).1 s)
    ((aN (ak (J I v.2.1 i)).length (j:Int)).bind fun v2=>(kC m).bs s (J aw (ak (J I v.2.1 i)) v2).2.1 (aH ((j:Int)+1)) v (0,([]:List I.D),()) (J I v.2.1 i) (ca (N.take j) s))
    ((aN (ak (J I v.2.1 i)).length (j:Int)).bind fun v3=>cond (room ((ca (N.take j) s).length+1)) ((kC m).bs s id (aH ((j:Int)+1)) v (0,([]:List I.D),()) (J I v.2.1 i) (ca (N.take j) s++[J aw (ak (J I v.2.1 i)) v3])) none)) _=_
   rw [hN,ck hjl,bx hjl]
   simp only [cond_true,av]
   rw [db j (by omega)]
   have vS:ca (N.take (j+1)) s=ca (N.take j) s++cond (bu (J aw N j).1 s) [] [J aw N j]:=by
    unfold ca
    rw [List.take_succ_eq_append_getElem hjl,List.filter_append,List.filter_cons,List.filter_nil,c6 hjl]
    cases bu (N[j]).1 s <;> rfl
   rw [vS]
   cases bu (J aw N j).1 s
   ·simp only [cond_false]
    rw [cE (by omega)];rfl
   ·simp only [cond_true,List.append_nil]
 have:=key N.length 0 0 (by omega)
 rw [List.drop_zero] at this
 exact kK this (by omega)
theorem bits_nat(op:BinOp)(x y:Nat):cN op .i64 (x:Int) (y:Int)=(match op with
 | .and=>IntKind.wrap .i64 ((BitVec.ofNat 64 x &&& BitVec.ofNat 64 y).toNat:Int)
 | .or=>IntKind.wrap .i64 ((BitVec.ofNat 64 x ||| BitVec.ofNat 64 y).toNat:Int)
 | .xor=>IntKind.wrap .i64 ((BitVec.ofNat 64 x ^^^ BitVec.ofNat 64 y).toNat:Int)
 | _=>IntKind.wrap .i64 ((BitVec.ofNat 64 x &&& ~~~BitVec.ofNat 64 y).toNat:Int)):=by
 unfold cN
 rw [show(IntKind.i64).bits=64 from rfl]
 simp only [BitVec.ofInt_natCast]
 cases op <;> rfl
theorem af7{x y:Nat}(hx:x<4611686018427387904)(aM:y<4611686018427387904):cN .and .i64 (x:Int) (y:Int)=((x &&& y:Nat):Int):=by
 rw [bits_nat]
 simp only
 rw [BitVec.toNat_and,BitVec.toNat_ofNat,BitVec.toNat_ofNat,Nat.mod_eq_of_lt (show x<2 ^ 64 by omega),Nat.mod_eq_of_lt (show y<2 ^ 64 by omega)]
 have:x &&& y≤x:=Nat.and_le_left
 exact sy (by omega) (by omega)
theorem Vm{x y:Nat}(hx:x<4611686018427387904)(aM:y<4611686018427387904):cN .or .i64 (x:Int) (y:Int)=((x ||| y:Nat):Int):=by
 rw [bits_nat]
 simp only
 rw [BitVec.toNat_or,BitVec.toNat_ofNat,BitVec.toNat_ofNat,Nat.mod_eq_of_lt (show x<2 ^ 64 by omega),Nat.mod_eq_of_lt (show y<2 ^ 64 by omega)]
 have:x ||| y<2 ^ 62:=Nat.or_lt_two_pow (by omega) (by omega)
 exact sy (by omega) (by omega)
theorem af8{x:Nat}(h:x<2048):x &&& 1024=1024*(x / 1024):=by
 have h1:(x &&& 1024) / 2 ^ 10=x / 2 ^ 10 &&& 1024 / 2 ^ 10:=Nat.and_div_two_pow
 have h2:(x &&& 1024) % 2 ^ 10=x % 2 ^ 10 &&& 1024 % 2 ^ 10:=Nat.and_mod_two_pow
 rw [show 1024 / 2 ^ 10=1 from rfl,Nat.and_one_is_mod] at h1
 rw [show 1024 % 2 ^ 10=0 from rfl,Nat.and_zero] at h2
 omega
theorem af9{m:Int}(h:0≤m)(h':m≤2047):cN .and .i64 m 1024=0∨cN .and .i64 m 1024=1024:=by
 obtain ⟨n,rfl⟩:∃n:Nat,m=n:=⟨m.toNat,by omega⟩
 have:=af7 (x:=n) (y:=1024) (by omega) (by omega)
 rw [show((1024:Nat):Int)=1024 from rfl] at this
 rw [this,af8 (by omega)]
 omega
theorem af_{m:Int}(h:0≤m)(h':m≤2047):cN .or .i64 m 0=m:=by
 obtain ⟨n,rfl⟩:∃n:Nat,m=n:=⟨m.toNat,by omega⟩
 have:=Vm (x:=n) (y:=0) (by omega) (by omega)
 rw [show((0:Nat):Int)=0 from rfl] at this
 rw [this,Nat.or_zero]
theorem af'{m:Int}(h:0≤m)(h':m≤2047):0≤cN .or .i64 m 1024∧cN .or .i64 m 1024≤2047:=by
 obtain ⟨n,rfl⟩:∃n:Nat,m=n:=⟨m.toNat,by omega⟩
 have:=Vm (x:=n) (y:=1024) (by omega) (by omega)
 rw [show((1024:Nat):Int)=1024 from rfl] at this
 rw [this]
 have:n ||| 1024<2 ^ 11:=Nat.or_lt_two_pow (by omega) (by omega)
 omega
def aA(x:aG.D):Int:=x.1
def fx(x:aG.D):aF:=x.2.1
def iL(x:aG.D):aF:=x.2.2.1
def bR(x:aG.D):Int:=x.2.2.2.1
def d'(x:aG.D):Int:=x.2.2.2.2.1
def dx(x:aG.D):aF:=x.2.2.2.2.2.1
structure ij(x:aG.D):Prop where
 da:1≤aA x∧aA x≤22
 path:(fx x).length≤60
 sd:(iL x).length≤60
 fy:(dx x).length≤64
 n : -1000000≤bR x∧bR x≤1000000
 m : -1000000≤d' x∧d' x≤1000000
 aga:iL x=[]∨aA x=9∨aA x=10∨aA x=12
 Vn:dx x=[]∨aA x=5∨aA x=6
theorem w5{x:aG.D} : jU x=true↔ij x:=by
 unfold jU
 simp only [Bool.and_eq_true,Bool.or_eq_true,decide_eq_true_eq,beq_iff_eq,nq]
 constructor
 ·rintro ⟨⟨⟨⟨⟨⟨⟨h1,h2⟩,h3⟩,h4⟩,aZ⟩,bd⟩,bC⟩,cU⟩
  exact⟨dG.1 h1,Int.ofNat_le.1 h2,Int.ofNat_le.1 h3,Int.ofNat_le.1 h4,dG.1 aZ,dG.1 bd,bC,cU⟩
 ·intro h
  exact⟨⟨⟨⟨⟨⟨⟨dG.2 h.da,Int.ofNat_le.2 h.path⟩,Int.ofNat_le.2 h.sd⟩,Int.ofNat_le.2 h.fy⟩,dG.2 h.n⟩,dG.2 h.m⟩,h.aga⟩,h.Vn⟩
theorem qK{N:List aw.D}{s:aF}{id:Int}{d:aw.D} : d∈ins N s id↔d∈N∨d=(s,id,()):=by
 have:=List.takeWhile_append_dropWhile (p:=dR s) (l:=N)
 unfold ins
 conv=>rhs;rw [← this]
 simp only [List.mem_append,List.mem_singleton]
 constructor
 ·rintro ((h | h) | h)
  ·exact .inl (.inl h)
  ·exact .inr h
  ·exact .inl (.inr h)
 ·rintro ((h | h) | h)
  ·exact .inl (.inl h)
  ·exact .inr h
  ·exact .inl (.inr h)
theorem zM{N:List aw.D}{s:aF}(h:dD N s=0)(h0:∀d,d∈N→d.2.1≠0):∀d,d∈N→d.1≠s:=by
 intro d ag he
 obtain ⟨i,hi,az⟩:=fg ag
 unfold dD at h
 cases hf:e8 N.length (qF N s) with
 | none =>
  have:=lz.1 hf i hi
  unfold qF bu at this
  rw [az] at this
  simp [he] at this
 | some j =>
  rw [hf] at h
  obtain ⟨h1,_,_⟩:=hP.1 hf
  exact h0 _ (cI h1) h
theorem bI.Vo{v:af.D}(h:bI v){x:aK}(hx:x∈v.2.1):1≤a7 x∧a7 x≤et v-1:=by
 obtain ⟨i,hi,he⟩:=fg hx
 have:=h.ids i hi
 rw [he] at this;exact this
theorem bI.zN{v:af.D}(h:bI v){i:Nat}(hi:i<v.2.1.length){d:aw.D}(ag:d∈ak (J I v.2.1 i)):d.2.1≠0:=by
 obtain ⟨y,aM,he⟩:=ns.1 (h.gZ i hi d ag)
 have h1:=h.Vo aM
 intro h0
 have:a7 y=0:=he.trans h0
 omega
theorem bI.free{v:af.D}(h:bI v):bj v.2.1 v.1=none:=by
 cases hi:bj v.2.1 v.1 with
 | none=>rfl
 | some i =>
  obtain ⟨h1,h2⟩:=bX hi
  have:=h.ids i h1
  have h2:a7 (J I v.2.1 i)=et v:=h2
  omega
theorem bI.iM{v:af.D}(h:bI v):pr v.2.1 :=
 ⟨by have:=h.len;omega,by have:=h.cJ;omega,h.ga,h.gZ,fun i hi hk=>((h.ino i hi).plain hk).2.2,fun i hi hk=>((h.ino i hi).mr hk).1,0,by
  have:=h.ga 0 (by have:=h.len;omega)
  rwa [show(J I v.2.1 0).1=1 from h.root.1] at this,h.root.2⟩
def bq(v:af.D)(c:aJ.D)(x:aG.D)(a:Option (Int×aI.D×Unit))(b:Option (af.D×aV.D×Unit))(Q:af.D→Prop):Prop :=
 ∃(code:Int) (w:af.D),a=some (code,(w,c,x,()),())∧b=some (cond (code==0) w v,(code,[],()),())∧(code=0→Q w)
theorem bq.no{v:af.D}{c:aJ.D}{x:aG.D}{a:Option (Int×aI.D×Unit)}{b:Option (af.D×aV.D×Unit)}{Q:af.D→Prop}(code:Int)(h0:code≠0)(ha:a=some (code,(v,c,x,()),()))(hb:b=some (v,(code,[],()),())):bq v c x a b Q :=
 ⟨code,v,ha,by rw [bG h0];exact hb,fun h=>absurd h h0⟩
def FO(x:aG.D):Int:=if aA x=1 then 2 else if aA x=10 then 3 else 1
def uQ(x:aG.D)(d:aK):Int:=if aA x=10 then 511 else if aA x=1∧cN .and .i64 (eU d) 1024≠0 then cN .or .i64 (bR x) 1024 else bR x
def zO(c:aJ.D)(d:aK):Int:=if cN .and .i64 (eU d) 1024≠0 then e9 d else c.2.1
def gj(v:af.D)(c:aJ.D)(x:aG.D)(d:aK):aK:=(v.1,FO x,uQ x d,c.1,zO c d,if aA x=10 then iL x else [],[],0,0,())
def qL(x:aG.D):Bool:=cond (aA x==10) (!ja (iL x)) (!c3 (bR x) 0 2047)
structure Made(v:af.D)(c:aJ.D)(x:aG.D)(w:af.D):Prop where
 bad:qL x=false
 out:∃r i,lB v.2.1 r∧bM r=2∧nameOf r≠[]∧bj v.2.1 (cd r)=some i∧kindOf (J I v.2.1 i)=2∧may c (J I v.2.1 i) 3=true∧(ak (J I v.2.1 i)).length<12∧v.2.1.length<24∧et v<100000 ∧
  w=(v.1+1,v.2.1.set i (b1 (J I v.2.1 i) (ins (ak (J I v.2.1 i)) (nameOf r) v.1))++[gj v c x (J I v.2.1 i)],())∧e_ w.2.1=0
theorem agb(m:Nat)(a b):(kG (m+1)).bf a b=Kt (kG m) a b:=rfl
theorem agc(m:Nat)(a b d):(kG (m+1)).gV a b d=Ku (kG m) a b d:=rfl
theorem agd(m:Nat)(a b d e f):(jw (m+1)).k3 a b d e f=Jf (jw m) a b d e f:=rfl
theorem age(m:Nat)(a b d e f):(jw (m+1)).jv a b d e f=Jg (jw m) a b d e f:=rfl
theorem zP(v:af.D)(c:aJ.D)(x:aG.D)(id:Int)(hl:v.2.1.length≤1048576)(hc:df c=true){i:Nat}(h:bj v.2.1 id=some i):m9 ((v,c,x,()),id,())=some (may c (J I v.2.1 i) 3,()):=by
 show Kq (v,c,x,()) id=_
 unfold Kq
 show Option.bind (fl (v,id,())) _=_
 rw [mo v id hl h]
 simp only [av,List.isEmpty_cons,Bool.not_false,cond_true]
 show Option.bind (pa (c,J I v.2.1 i,3,())) _=_
 rw [zC c _ 3 hc];rfl
theorem agf(v:af.D)(c:aJ.D)(x:aG.D)(hv:bI v)(hc:df c=true)(hx:ij x):bq v c x (y8 ((v,c,x,()),())) (tF (v,c,x,())) (Made v c x):=by
 have cn:=hv.iM
 have hl:v.2.1.length≤1048576:=cn.len
 have au:=hx.path
 obtain ⟨q,hq,hI⟩:=i_ 4
 have eP:y8 ((v,c,x,()),())=cond (qL x) (some (22,(v,c,x,()),())) ((kG aP).bf (v,c,x,()) x):=by
  show D2 (kG aP) (v,c,x,())=_
  unfold D2 qL
  show cond (aA x==10) (Option.bind (wy (iL x,())) fun v1=>cond (!v1.1) _ (cond (!(aA x==10)) _ _)) (cond (!(aA x==10)) (Option.bind (eG (bR x,0,2047,())) _) _)=_
  rw [L5 _ (by have:=hx.sd;omega)]
  cases aA x==10
  ·simp only [cond_false,Bool.not_false,cond_true,av]
   rw [i'];rfl
  ·simp only [cond_true,Bool.not_true,cond_false,av]
 have dM:tF (v,c,x,())=cond (qL x) (some (v,(22,[],()),())) ((jw aP).k3 v c x (0,([]:List I.D),()) (0,([]:aF),())):=by
  show Cx (jw aP) v c x=_
  unfold Cx qL
  show cond (aA x==10) (Option.bind (yn (iL x,())) fun v1=>cond (!v1.1) _ (cond (!(aA x==10)) _ _)) (cond (!(aA x==10)) (Option.bind (eg (bR x,0,2047,())) _) _)=_
  rw [T_]
  cases aA x==10
  ·simp only [cond_false,Bool.not_false,cond_true,av]
   rw [jy];rfl
  ·simp only [cond_true,Bool.not_true,cond_false,av]
 rw [eP,dM]
 cases hb:qL x with
 | true=>exact bq.no 22 (by decide) rfl rfl
 | false =>
 simp only [cond_false]
 rw [hq,agb,agd]
 unfold Kt Jf
 obtain ⟨r,eH,code,MF,MG,MH⟩:=Vb v c x (fx x) cn hc (by omega)
 show bq v c x (Option.bind (uu ((v,c,x,()),fx x,())) _) (Option.bind (tz (v,c,fx x,())) _) _
 rw [MF,MG]
 simp only [av]
 by_cases b0:code=0
 case neg =>
  rw [c0 b0]
  exact bq.no code b0 rfl rfl
 obtain ⟨rfl,hr,gn,pz⟩:=MH b0
 rw [dH b0]
 simp only [cond_false]
 obtain ⟨ot,jz,d,ag,fO,nt⟩:=hr.new gn pz
 have hdl:=bX ag
 show bq v c x (Option.bind (m9 ((v,c,x,()),cd eH,())) _) (Option.bind (e7 (v,cd eH,())) _) _
 rw [zP v c x _ hl hc ag,je v _ hl ag]
 simp only [av]
 rw [pj c _ 3 hc]
 simp only [av]
 cases hm:may c (J I v.2.1 d) 3 with
 | false=>exact bq.no 13 (by decide) rfl rfl
 | true =>
 simp only [Bool.not_true,cond_false]
 show bq v c x (Option.bind (fl (v,cd eH,())) _) _ _
 rw [mo v _ hl ag]
 simp only [av,List.isEmpty_cons,Bool.not_false,cond_true]
 have g_:=hv.ino d hdl.1
 have Vp:=(g_.dir fO).2.2.2
 show bq v c x (cond (((ak (J I v.2.1 d)).length:Int)==12) _ (cond ((v.2.1.length:Int)==24) _ (cond (et v==100000) _ _))) (cond (decide (((ak (J I v.2.1 d)).length:Int)≥12)) _ (cond (decide ((v.2.1.length:Int)≥24)) _ (cond (decide (et v≥100000)) _ _))) _
 by_cases ld:(ak (J I v.2.1 d)).length=12
 ·rw [show(((ak (J I v.2.1 d)).length:Int)==12)=true by rw [ld];rfl,decide_eq_true (by omega)]
  exact bq.no 28 (by decide) rfl rfl
 rw [show(((ak (J I v.2.1 d)).length:Int)==12)=false by rw [beq_eq_false_iff_ne];omega,decide_eq_false (show ¬((ak (J I v.2.1 d)).length:Int)≥12 by omega)]
 simp only [cond_false]
 have hlen:=hv.len
 have p5:=hv.next
 by_cases agh:v.2.1.length=24
 ·rw [show((v.2.1.length:Int)==24)=true by rw [agh];rfl,decide_eq_true (by omega)]
  exact bq.no 28 (by decide) rfl rfl
 rw [show((v.2.1.length:Int)==24)=false by rw [beq_eq_false_iff_ne];omega,decide_eq_false (show ¬(v.2.1.length:Int)≥24 by omega)]
 simp only [cond_false]
 by_cases FP:et v=100000
 ·rw [cB FP,decide_eq_true (show et v≥100000 by omega)]
  exact bq.no 28 (by decide) rfl rfl
 rw [bG FP,decide_eq_false (show ¬et v≥100000 by omega)]
 simp only [cond_false]
 obtain ⟨w,hw⟩:∃w:af.D,w=(v.1+1,v.2.1.set d (b1 (J I v.2.1 d) (ins (ak (J I v.2.1 d)) (nameOf eH) v.1))++[gj v c x (J I v.2.1 d)],()):=⟨_,rfl⟩
 have agi:aH (v.1+1)=v.1+1:=dI (a:=et v+1) (by omega) (by omega)
 have ake:an 1000 (v.2.1++[gj v c x (J I v.2.1 d)]):=(hv.st.app (k:=100) (n:=gj v c x (J I v.2.1 d)) hv.free rfl (by
  show(if aA x=10 then iL x else []).length≤100
  have:=hx.sd
  split
  ·omega
  ·simp) (by omega) (fun _=>⟨rfl,rfl⟩)).mono (by omega)
 have hst:an 1000 w.2.1:=by
  rw [hw]
  have az:J I (v.2.1++[gj v c x (J I v.2.1 d)]) d=J I v.2.1 d:=MD hdl.1
  have:=(hv.st.app (k:=100) (n:=gj v c x (J I v.2.1 d)) hv.free rfl (by
   show(if aA x=10 then iL x else []).length≤100
   have:=hx.sd
   split
   ·omega
   ·simp) (by omega) (fun _=>⟨rfl,rfl⟩)).set (k:=1) (i:=d) (y:=b1 (J I v.2.1 d) (ins (ak (J I v.2.1 d)) (nameOf eH) v.1)) (by simp;omega) (by rw [az];rfl) (by
    intro e he
    rcases qK.1 he with he | rfl
    ·obtain ⟨y,aM,wV⟩:=ns.1 (hv.gZ d hdl.1 e he)
     exact ns.2 ⟨y,List.mem_append_left _ aM,wV⟩
    ·exact ns.2 ⟨gj v c x (J I v.2.1 d),List.mem_append_right _ (List.mem_singleton.2 rfl),rfl⟩) (fun hk=>absurd fO hk) (by
    rw [az];show(ins (ak (J I v.2.1 d)) (nameOf eH) v.1).length≤_;rw [w4];omega) (by rw [az];exact Nat.le_add_right _ _)
  rw [Vi hdl.1] at this
  exact this.mono (by omega)
 have hfin:∀m n,bq v c x ((kG (m+1)).gV (v,c,x,()) eH (gj v c x (J I v.2.1 d))) ((jw (n+1)).jv v (0,([]:List I.D),()) (0,([]:aF),()) eH (gj v c x (J I v.2.1 d))) (Made v c x):=by
  intro m n
  rw [agc,age]
  unfold Ku Jg
  rw [uK v hl (fun i hi=>Nat.le_trans (fM hi) cn.cJ)]
  simp only [av]
  rw [agi]
  show bq v c x (Option.bind (rZ (((v.1+1,v.2.1,()),c,x,()),cd eH,nameOf eH,v.1,())) _) (Option.bind (n4 ((v.1+1,v.2.1,()),gj v c x (J I v.2.1 d),())) _) _
  rw [MA (v.1+1,v.2.1,()) c x (cd eH) (nameOf eH) v.1 hl ag (Nat.le_trans (fM hdl.1) cn.cJ),af0 (v.1+1,v.2.1,()) _ hl hv.free]
  simp only [av]
  have az:J I (v.2.1++[gj v c x (J I v.2.1 d)]) d=J I v.2.1 d:=MD hdl.1
  have Fh:=MC (v.1+1,v.2.1++[gj v c x (J I v.2.1 d)],()) (cd eH) (nameOf eH) v.1 (by simp;omega) (af2 ag) (by
   show(ak (J I (v.2.1++[gj v c x (J I v.2.1 d)]) d)).length≤_
   rw [az];exact Nat.le_trans (fM hdl.1) cn.cJ) (by
   show ∀e,e∈ak (J I (v.2.1++[gj v c x (J I v.2.1 d)]) d)→_
   rw [az];exact zM nt fun e he=>hv.zN hdl.1 he)
  rw [show((v.1+1,v.2.1++[gj v c x (J I v.2.1 d)],()):af.D).2.1=v.2.1++[gj v c x (J I v.2.1 d)] from rfl,az,Vi hdl.1,← hw] at Fh
  show bq v c x _ (Option.bind (rE ((v.1+1,v.2.1++[gj v c x (J I v.2.1 d)],()),cd eH,nameOf eH,v.1,())) _) _
  rw [Fh]
  simp only [av]
  rw [zK v w hst (by omega)]
  simp only [av]
  rw [cE (by simp;omega)]
  simp only [cond_true]
  show bq v c x (Option.bind (na (((v.1+1,v.2.1.set d (b1 (J I v.2.1 d) (ins (ak (J I v.2.1 d)) (nameOf eH) v.1))++[gj v c x (J I v.2.1 d)],()),c,x,()),())) fun v2=>some (v2.1,((v.1+1,v.2.1.set d (b1 (J I v.2.1 d) (ins (ak (J I v.2.1 d)) (nameOf eH) v.1))++[gj v c x (J I v.2.1 d)],()),c,x,()),())) _ _
  rw [← hw,zJ w c x hst (by omega)]
  exact⟨e_ w.2.1,w,rfl,rfl,fun h=>⟨hb,eH,d,hr,gn,pz,ag,fO,hm,by omega,by omega,by omega,hw,h⟩⟩
 have hN:aA x≠10→0≤bR x∧bR x≤2047:=by
  intro hk
  unfold qL at hb
  rw [bG hk] at hb
  simp only [cond_false,Bool.not_eq_false'] at hb
  exact dG.1 hb
 have FQ:=g_.mode
 have MI:=af9 FQ.1 FQ.2
 show bq v c x (cond (cN .and .i64 (eU (J I v.2.1 d)) 1024 != 0)
   (cond (aA x==1) ((kG (q+3)).gV (v,c,x,()) eH (v.1,2,cN .or .i64 (bR x) (cN .and .i64 (eU (J I v.2.1 d)) 1024),c.1,e9 (J I v.2.1 d),[],[],0,0,()))
    (cond (aA x==10) ((kG (q+3)).gV (v,c,x,()) eH (v.1,3,511,c.1,e9 (J I v.2.1 d),iL x,[],0,0,())) ((kG (q+3)).gV (v,c,x,()) eH (v.1,1,bR x,c.1,e9 (J I v.2.1 d),[],[],0,0,()))))
   (cond (aA x==1) ((kG (q+3)).gV (v,c,x,()) eH (v.1,2,cN .or .i64 (bR x) (cN .and .i64 (eU (J I v.2.1 d)) 1024),c.1,c.2.1,[],[],0,0,()))
    (cond (aA x==10) ((kG (q+3)).gV (v,c,x,()) eH (v.1,3,511,c.1,c.2.1,iL x,[],0,0,())) ((kG (q+3)).gV (v,c,x,()) eH (v.1,1,bR x,c.1,c.2.1,[],[],0,0,())))))
  (cond (aA x==1) ((jw (q+3)).yB v x (0,([]:List I.D),()) (0,([]:aF),()) eH (J I v.2.1 d) (v.1,2,bR x,c.1,c.2.1,[],[],0,0,())) ((jw (q+3)).yB v x (0,([]:List I.D),()) (0,([]:aF),()) eH (J I v.2.1 d) (v.1,1,bR x,c.1,c.2.1,[],[],0,0,()))) (Made v c x)
 have vC:∀(n:aK),(jw (q+3)).yB v x (0,([]:List I.D),()) (0,([]:aF),()) eH (J I v.2.1 d) n=cond (aA x==10) ((jw (q+2)).gx v (0,([]:List I.D),()) (0,([]:aF),()) eH (J I v.2.1 d) (n.1,3,511,n.2.2.2.1,n.2.2.2.2.1,iL x,n.2.2.2.2.2.2.1,n.2.2.2.2.2.2.2.1,n.2.2.2.2.2.2.2.2.1,())) ((jw (q+2)).gx v (0,([]:List I.D),()) (0,([]:aF),()) eH (J I v.2.1 d) n):=fun n=>rfl
 have zQ:∀(n:aK),(jw (q+2)).gx v (0,([]:List I.D),()) (0,([]:aF),()) eH (J I v.2.1 d) n=cond (cN .and .i64 (eU (J I v.2.1 d)) 1024 != 0)
   (cond (n.2.1==2) ((jw (q+1)).jv v (0,([]:List I.D),()) (0,([]:aF),()) eH (n.1,n.2.1,cN .or .i64 n.2.2.1 1024,n.2.2.2.1,e9 (J I v.2.1 d),n.2.2.2.2.2.1,n.2.2.2.2.2.2.1,n.2.2.2.2.2.2.2.1,n.2.2.2.2.2.2.2.2.1,()))
    ((jw (q+1)).jv v (0,([]:List I.D),()) (0,([]:aF),()) eH (n.1,n.2.1,n.2.2.1,n.2.2.2.1,e9 (J I v.2.1 d),n.2.2.2.2.2.1,n.2.2.2.2.2.2.1,n.2.2.2.2.2.2.2.1,n.2.2.2.2.2.2.2.2.1,()))) ((jw (q+1)).jv v (0,([]:List I.D),()) (0,([]:aF),()) eH n):=fun n=>rfl
 simp only [vC,zQ]
 have hd:=hfin (q+2) q
 unfold gj FO uQ zO at hd
 by_cases k1:aA x=1
 ·have eX:aA x≠10:=by omega
  have pA:=hN eX
  rw [cB k1,bG eX]
  rw [if_pos k1,if_neg eX,if_neg eX] at hd
  simp only [cond_true,cond_false]
  rcases MI with fW | fW
  ·rw [fW] at hd ⊢
   rw [if_neg (by simp),if_neg (by simp)] at hd
   rw [af_ pA.1 pA.2]
   exact hd
  ·rw [fW] at hd ⊢
   rw [if_pos ⟨k1,by decide⟩,if_pos (by decide)] at hd
   exact hd
 ·rw [bG k1]
  rw [if_neg k1] at hd
  by_cases eX:aA x=10
  ·rw [cB eX]
   rw [if_pos eX,if_pos eX,if_pos eX] at hd
   simp only [cond_true,cond_false]
   rcases MI with fW | fW
   ·rw [fW] at hd ⊢
    rw [if_neg (by simp)] at hd
    exact hd
   ·rw [fW] at hd ⊢
    rw [if_pos (by decide)] at hd
    exact hd
  ·rw [bG eX]
   rw [if_neg eX,if_neg eX,if_neg eX,if_neg (fun h=>k1 h.1)] at hd
   simp only [cond_false]
   rcases MI with fW | fW
   ·rw [fW] at hd ⊢
    rw [if_neg (by simp)] at hd
    exact hd
   ·rw [fW] at hd ⊢
    rw [if_pos (by decide)] at hd
    exact hd
def kk(v:af.D)(i:Nat)(s:aF):af.D:=(v.1,goN (v.2.1.set i (b1 (J I v.2.1 i) (ca (ak (J I v.2.1 i)) s))) (dD (ak (J I v.2.1 i)) s),())
structure zR(v:af.D)(c:aJ.D)(x:aG.D)(w:af.D):Prop where
 out:∃r i j,lB v.2.1 r∧bM r=0∧nameOf r≠[]∧bj v.2.1 (cd r)=some i∧kindOf (J I v.2.1 i)=2∧dD (ak (J I v.2.1 i)) (nameOf r)=bp r∧bj v.2.1 (bp r)=some j∧ak (J I v.2.1 j)=[] ∧
  (aA x=2→kindOf (J I v.2.1 j)=2)∧(aA x=8→kindOf (J I v.2.1 j)≠2)∧w=kk v i (nameOf r)
theorem agj(m:Nat)(a b d):(od (m+1)).bs a b d=Kz (od m) a b d:=rfl
theorem agk(m:Nat)(a b d):(od (m+1)).dh a b d=KA (od m) a b d:=rfl
theorem agl(m:Nat)(a b d):(od (m+1)).gG a b d=KB (od m) a b d:=rfl
theorem agm(m:Nat)(a b d):(od (m+1)).cZ a b d=KC (od m) a b d:=rfl
theorem agn(m:Nat)(a b d e f g h):(qe (m+1)).dh a b d e f g h=Ji (qe m) a b d e f g h:=rfl
theorem ago(m:Nat)(a b d e f g h):(qe (m+1)).gG a b d e f g h=Jj (qe m) a b d e f g h:=rfl
theorem agp(m:Nat)(a b d e f g):(qe (m+1)).cZ a b d e f g=Jk (qe m) a b d e f g:=rfl
theorem agq(v:af.D)(c:aJ.D)(x:aG.D)(hv:bI v)(hc:df c=true)(hx:ij x)(hk:aA x=2∨aA x=8):bq v c x (D' ((v,c,x,()),())) (yI (v,c,x,())) (zR v c x):=by
 have cn:=hv.iM
 have hl:v.2.1.length≤1048576:=cn.len
 have au:=hx.path
 obtain ⟨q,hq,hI⟩:=i_ 4
 show bq v c x (D_ (od aP) (v,c,x,())) (CA (qe aP) v c x) _
 unfold D_ CA
 obtain ⟨r,⟨hr,_⟩,zS,gk⟩:=zG v c x (fx x) false cn hc (by omega)
 show bq v c x (Option.bind (kF ((v,c,x,()),fx x,false,())) _) (Option.bind (fK (v,c,fx x,false,())) _) _
 rw [zS,gk]
 simp only [av]
 show bq v c x (cond (bM r != 0) (some (bM r,(v,c,x,()),())) _) (cond (bM r != 0) (some (v,(bM r,[],()),())) _) _
 by_cases b0:bM r=0
 case neg =>
  rw [c0 b0]
  exact bq.no (bM r) b0 rfl rfl
 rw [dH b0]
 simp only [cond_false,o0]
 obtain ⟨j,hj⟩:=hr.there b0
 have hjl:=bX hj
 show bq v c x (Option.bind (fl (v,bp r,())) _) (Option.bind (e7 (v,bp r,())) _) _
 rw [mo v _ hl hj,je v _ hl hj]
 simp only [av,List.isEmpty_cons,Bool.not_false,cond_true]
 rw [hq,agj]
 unfold Kz
 rw [agk,agn]
 show bq v c x (cond (aA x==2) (cond (bu (nameOf r) []) _ _) _) (cond (aA x==2) (cond (bu (nameOf r) []) _ _) _) _
 have agr:nameOf r=[]→kindOf (J I v.2.1 j)=2:=by
  intro h
  obtain ⟨eN,h1,h2⟩:=hr.bare b0 h
  rw [hj] at h1
  rw [aU h1];exact h2
 by_cases c2:aA x=2∧nameOf r=[]
 ·rw [cB c2.1,nq.2 c2.2]
  exact bq.no 16 (by decide) rfl rfl
 have pW:∀ {α : Type} (a b : α),cond (aA x==2) (cond (bu (nameOf r) []) a b) b=b:=by
  intro α a b
  by_cases h2:aA x=2
  ·rw [cB h2]
   have:bu (nameOf r) []=false:=by
    rw [← Bool.not_eq_true,nq];exact fun h=>c2 ⟨h2,h⟩
   rw [this];rfl
  ·rw [bG h2];rfl
 rw [pW,pW]
 unfold KA Ji
 rw [agl,ago]
 show bq v c x (cond (aA x==2) (cond (kindOf (J I v.2.1 j) != 2) _ _) _) (cond (aA x==2) (cond (kindOf (J I v.2.1 j) != 2) _ _) _) _
 by_cases hO:aA x=2∧kindOf (J I v.2.1 j)≠2
 ·rw [cB hO.1,c0 hO.2]
  exact bq.no 20 (by decide) rfl rfl
 have Vq:∀ {α : Type} (a b : α),cond (aA x==2) (cond (kindOf (J I v.2.1 j) != 2) a b) b=b:=by
  intro α a b
  by_cases h2:aA x=2
  ·rw [cB h2,dH (Decidable.byContradiction fun h=>hO ⟨h2,h⟩)];rfl
  ·rw [bG h2];rfl
 rw [Vq,Vq]
 unfold KB Jj
 rw [agm,agp]
 show bq v c x (cond (aA x==8) (cond (kindOf (J I v.2.1 j)==2) _ _) _) (cond (aA x==8) (cond (kindOf (J I v.2.1 j)==2) _ _) _) _
 by_cases b5:aA x=8∧kindOf (J I v.2.1 j)=2
 ·rw [cB b5.1,cB b5.2]
  exact bq.no 21 (by decide) rfl rfl
 have Vr:∀ {α : Type} (a b : α),cond (aA x==8) (cond (kindOf (J I v.2.1 j)==2) a b) b=b:=by
  intro α a b
  by_cases h2:aA x=8
  ·rw [cB h2,bG (fun h=>b5 ⟨h2,h⟩)];rfl
  ·rw [bG h2];rfl
 rw [Vr,Vr]
 have iE:nameOf r≠[]:=by
  intro h
  rcases hk with h2 | cU
  ·exact c2 ⟨h2,h⟩
  ·exact b5 ⟨cU,agr h⟩
 obtain ⟨ot,jz,d,ag,fO,nt⟩:=hr.named b0 iE
 have hdl:=bX ag
 have g_:=hv.ino d hdl.1
 unfold KC Jk
 show bq v c x (Option.bind (m9 ((v,c,x,()),cd r,())) _) (Option.bind (e7 (v,cd r,())) _) _
 rw [zP v c x _ hl hc ag,je v _ hl ag]
 simp only [av]
 rw [pj c _ 3 hc]
 simp only [av]
 cases hm:may c (J I v.2.1 d) 3 with
 | false=>exact bq.no 13 (by decide) rfl rfl
 | true =>
 simp only [Bool.not_true,cond_false]
 show bq v c x (Option.bind (fl (v,cd r,())) _) _ _
 rw [mo v _ hl ag]
 simp only [av,List.isEmpty_cons,Bool.not_false,cond_true]
 show bq v c x (Option.bind (r0 (c,J I v.2.1 d,J I v.2.1 j,())) _) _ _
 rw [Mp c _ _ hc,Mo c _ _ hc]
 simp only [av]
 cases ht:pk c (J I v.2.1 d) (J I v.2.1 j) with
 | false=>exact bq.no 1 (by decide) rfl rfl
 | true =>
 simp only [Bool.not_true,cond_false]
 show bq v c x (cond (aA x==2) (cond (decide (((ak (J I v.2.1 j)).length:Int)>0)) _ _) _) (cond (decide (((ak (J I v.2.1 j)).length:Int)>0)) _ _) _
 rw [uK v hl (fun i hi=>Nat.le_trans (fM hi) cn.cJ)]
 simp only [av]
 show bq v c x (cond (aA x==2) (cond (decide (((ak (J I v.2.1 j)).length:Int)>0)) (some (39,(v,c,x,()),())) (Option.bind (oc ((v,c,x,()),cd r,nameOf r,true,())) fun v4=>some (0,v4.1,()))) (Option.bind (oc ((v,c,x,()),cd r,nameOf r,true,())) fun v4=>some (0,v4.1,())))
  (cond (decide (((ak (J I v.2.1 j)).length:Int)>0)) (some (v,(39,[],()),())) (Option.bind (n7 (v,cd r,nameOf r,())) fun v5=>some (v5.1,(0,[],()),()))) _
 rw [MB v c x _ _ true hl cn.cJ ag,ME v _ _ hl cn.cJ ag g_.sorted]
 simp only [av,cond_true]
 by_cases h0:ak (J I v.2.1 j)=[]
 ·rw [h0,show decide ((([]:List aw.D).length:Int)>0)=false from rfl]
  have:zR v c x (kk v d (nameOf r)):=⟨r,d,j,hr,b0,iE,ag,fO,nt,hj,h0,fun h=>Decidable.byContradiction fun h'=>hO ⟨h,h'⟩,fun h h'=>b5 ⟨h,h'⟩,rfl⟩
  refine⟨0,kk v d (nameOf r),?_,rfl,fun _=>this⟩
  cases aA x==2 <;> rfl
 ·have ags:0<(ak (J I v.2.1 j)).length:=List.length_pos_iff.2 h0
  have lg:kindOf (J I v.2.1 j)=2:=Decidable.byContradiction fun h=>h0 ((hv.ino j hjl.1).plain h).2.2
  have hk2:aA x=2:=by
   rcases hk with h | h
   ·exact h
   ·exact absurd ⟨h,lg⟩ b5
  rw [decide_eq_true (by omega),cB hk2]
  exact bq.no 39 (by decide) rfl rfl
def uR(v:af.D)(i:Nat)(s:aF)(id:Int):af.D:=(v.1,v.2.1.set i (b1 (J I v.2.1 i) (ins (ak (J I v.2.1 i)) s id)),())
structure FR(v:af.D)(c:aJ.D)(x:aG.D)(w:af.D):Prop where
 out:∃r t i j,lB v.2.1 r∧bM r=0∧bj v.2.1 (bp r)=some j∧kindOf (J I v.2.1 j)≠2∧lB v.2.1 t∧bM t=2∧nameOf t≠[]∧bj v.2.1 (cd t)=some i∧kindOf (J I v.2.1 i)=2 ∧
  (ak (J I v.2.1 i)).length<12∧w=uR v i (nameOf t) (bp r)∧e_ w.2.1=0
theorem agt{v:af.D}(hv:bI v){i:Nat}(hi:i<v.2.1.length)(hk:kindOf (J I v.2.1 i)=2)(s:aF){id:Int}(b5:(bj v.2.1 id).isSome=true):an 1000 (uR v i s id).2.1:=by
 have:=hv.st.set (k:=1) (i:=i) (y:=b1 (J I v.2.1 i) (ins (ak (J I v.2.1 i)) s id)) hi rfl (by
  intro e he
  rcases qK.1 he with he | rfl
  ·exact hv.gZ i hi e he
  ·exact b5) (fun h=>absurd hk h) (by show(ins (ak (J I v.2.1 i)) s id).length≤_;rw [w4];omega) (Nat.le_add_right _ _)
 exact this.mono (by omega)
theorem agu(v:af.D)(c:aJ.D)(x:aG.D)(hv:bI v)(hc:df c=true)(hx:ij x):bq v c x (Ea ((v,c,x,()),())) (CB (v,c,x,())) (FR v c x):=by
 have cn:=hv.iM
 have hl:v.2.1.length≤1048576:=cn.len
 have au:=hx.path
 have agv:=hx.sd
 show bq v c x (KE (v,c,x,())) (Jm v c x) _
 unfold KE Jm
 obtain ⟨r,⟨hr,_⟩,zS,gk⟩:=zG v c x (fx x) false cn hc (by omega)
 show bq v c x (Option.bind (kF ((v,c,x,()),fx x,false,())) _) (Option.bind (fK (v,c,fx x,false,())) _) _
 rw [zS,gk]
 simp only [av]
 show bq v c x (cond (bM r != 0) (some (bM r,(v,c,x,()),())) _) (cond (bM r != 0) (some (v,(bM r,[],()),())) _) _
 by_cases b0:bM r=0
 case neg =>
  rw [c0 b0]
  exact bq.no (bM r) b0 rfl rfl
 rw [dH b0]
 simp only [cond_false]
 obtain ⟨j,hj⟩:=hr.there b0
 have hjl:=bX hj
 show bq v c x (Option.bind (ux (v,bp r,())) _) (Option.bind (wk (v,bp r,())) _) _
 rw [Ft v _ hl,UG v _ hl]
 simp only [av]
 cases MJ:kL v.2.1 (bp r) with
 | true=>exact bq.no 1 (by decide) rfl rfl
 | false =>
 simp only [cond_false]
 have lg:kindOf (J I v.2.1 j)≠2:=by
  unfold kL at MJ
  rw [hj] at MJ
  exact beq_eq_false_iff_ne.1 MJ
 obtain ⟨t,dk,code,MF,MG,MH⟩:=Vb v c x (iL x) cn hc (by omega)
 show bq v c x (Option.bind (uu ((v,c,x,()),iL x,())) _) (Option.bind (tz (v,c,iL x,())) _) _
 rw [MF,MG]
 simp only [av]
 by_cases FT:code=0
 case neg =>
  rw [c0 FT]
  exact bq.no code FT rfl rfl
 obtain ⟨rfl,ht,Vs,htn⟩:=MH FT
 rw [dH FT]
 simp only [cond_false]
 obtain ⟨ot,jz,d,ag,fO,nt⟩:=ht.new Vs htn
 have hdl:=bX ag
 show bq v c x (Option.bind (m9 ((v,c,x,()),cd dk,())) _) (Option.bind (e7 (v,cd dk,())) _) _
 rw [zP v c x _ hl hc ag,je v _ hl ag]
 simp only [av]
 rw [pj c _ 3 hc]
 simp only [av]
 cases hm:may c (J I v.2.1 d) 3 with
 | false=>exact bq.no 13 (by decide) rfl rfl
 | true =>
 simp only [Bool.not_true,cond_false]
 show bq v c x (Option.bind (fl (v,cd dk,())) _) _ _
 rw [mo v _ hl ag]
 simp only [av,List.isEmpty_cons,Bool.not_false,cond_true]
 have g_:=hv.ino d hdl.1
 have Vp:=(g_.dir fO).2.2.2
 show bq v c x (cond (((ak (J I v.2.1 d)).length:Int)==12) _ _) (cond (decide (((ak (J I v.2.1 d)).length:Int)≥12)) _ _) _
 by_cases ld:(ak (J I v.2.1 d)).length=12
 ·rw [show(((ak (J I v.2.1 d)).length:Int)==12)=true by rw [ld];rfl,decide_eq_true (by omega)]
  exact bq.no 28 (by decide) rfl rfl
 rw [show(((ak (J I v.2.1 d)).length:Int)==12)=false by rw [beq_eq_false_iff_ne];omega,decide_eq_false (show ¬((ak (J I v.2.1 d)).length:Int)≥12 by omega)]
 simp only [cond_false]
 rw [uK v hl (fun i hi=>Nat.le_trans (fM hi) cn.cJ)]
 simp only [av]
 have hnl:=Nat.le_trans (fM hdl.1) cn.cJ
 show bq v c x (Option.bind (rZ ((v,c,x,()),cd dk,nameOf dk,bp r,())) _) (Option.bind (rE (v,cd dk,nameOf dk,bp r,())) _) _
 rw [MA v c x _ _ _ hl ag hnl,MC v _ _ _ hl ag hnl (zM nt fun e he=>hv.zN hdl.1 he)]
 simp only [av]
 show bq v c x (Option.bind (na ((uR v d (nameOf dk) (bp r),c,x,()),())) fun bt=>some (bt.1,(uR v d (nameOf dk) (bp r),c,x,()),())) (Option.bind (qb (v,uR v d (nameOf dk) (bp r),())) fun dw=>some (dw.1,dw.2.1,())) _
 have hst:=agt hv hdl.1 fO (nameOf dk) (id:=bp r) (by rw [hj];rfl)
 rw [zJ _ c x hst (by omega),zK v _ hst (by omega)]
 exact⟨_,_,rfl,rfl,fun h=>⟨r,dk,d,j,hr,b0,hj,lg,ht,Vs,htn,ag,fO,by omega,rfl,h⟩⟩
def nu(l:List aK):Nat→Int→Int→Bool
 | 0,_,_=>false
 | k+1,id,top=>cond (id==top) true (cond (id==1) false (nu l k (jW l id) top))
theorem agw(v:af.D)(id top:Int)(hl:v.2.1.length≤1048576)(hn:dn v.2.1≤1048576):yJ (v,id,top,())=some (nu v.2.1 (v.2.1.length+1) id top,()):=by
 show CD (tI aP) v id top=_
 unfold CD
 have key:∀(r k m:Nat) (id:Int),k+r=v.2.1.length+1→r<m→tI m id top (k:Int) v=some (nu v.2.1 r id top,()):=by
  intro r
  induction r with
  | zero =>
   intro k m id hk hm
   obtain ⟨m,rfl,_⟩:=fuel hm
   simp only [tI,CE]
   rw [decide_eq_false (by omega)];rfl
  | succ r ih =>
   intro k m id hk hm
   obtain ⟨m,rfl,oN⟩:=fuel hm
   simp only [tI,CE]
   rw [decide_eq_true (show(k:Int)≤(v.2.1.length:Int) by omega),UI v id hl hn,db k (by omega)]
   simp only [cond_true,av]
   rw [ih (k+1) m _ (by omega) (by omega),nu]
   cases id==top <;> cases id==1 <;> rfl
 exact key (v.2.1.length+1) 0 aP id (by omega) (iZ (by omega))
theorem MK{α : Type}{f : α → Nat} : ∀ {l:List α},(∀x,x∈l→f x=0)→(l.map f).sum=0
 | [],_=>rfl
 | x :: l,h=>by
  simp only [List.map_cons,List.sum_cons]
  rw [h x List.mem_cons_self,MK fun y aM=>h y (List.mem_cons_of_mem _ aM)]
def up(l:List aK):Nat→Int→Int
 | 0,d=>d
 | k+1,d=>up l k (jW l d)
theorem ML{α : Type}(f : α → Nat):∀(l:List α) (i j:Nat) (hi:i<l.length) (hj:j<l.length),i<j→f l[i]+f l[j]≤(l.map f).sum
 | [],_,_,hi,_,_=>by simp at hi
 | x :: l,i,j+1,hi,hj,il=>by
  cases i with
  | zero =>
   simp only [List.getElem_cons_zero,List.getElem_cons_succ,List.map_cons,List.sum_cons]
   have:=Fj (f:=f) (List.getElem_mem (l:=l) (by simpa using hj:j<l.length))
   omega
  | succ i =>
   simp only [List.getElem_cons_succ,List.map_cons,List.sum_cons]
   have:=ML f l i j (by simpa using hi) (by simpa using hj) (by omega)
   omega
theorem MM{N:List aw.D}{id:Int} : pn N id=true↔0<dm N id:=by
 constructor
 ·intro h
  obtain ⟨j,h1,h2,_⟩:=Fv h
  unfold kM at h2
  exact List.length_pos_of_mem (List.mem_filter.2 ⟨cI h1,h2⟩)
 ·intro h
  obtain ⟨d,ag⟩:=List.exists_mem_of_length_pos h
  obtain ⟨h1,h2⟩:=List.mem_filter.1 ag
  obtain ⟨i,hi,he⟩:=fg h1
  cases hb:pn N id with
  | true=>rfl
  | false =>
   have:=Ms hb i hi
   unfold kM at this
   rw [he,h2] at this;cases this
theorem FU{l:List aK}(ag:hR l){b d:Int}(h1:cg l d=1)(h:E l b d):jW l d=b:=by
 obtain ⟨i,e,hi,he,rfl⟩:=h
 obtain ⟨bJ,oi⟩:=bX hi
 have hci:0<dm (ak (J I l i)) e.2.1:=List.length_pos_of_mem (List.mem_filter.2 ⟨he,by simp⟩)
 unfold jW
 cases au:Fu l e.2.1 with
 | none =>
  have:=lz.1 au i bJ
  rw [MM.2 hci] at this;cases this
 | some j =>
  obtain ⟨hj,agx,_⟩:=hP.1 au
  have Vt:=MM.1 agx
  have:j=i:=by
   refine Decidable.byContradiction fun hne=>?_
   rcases Nat.lt_or_gt_of_ne hne with h | h
   ·have:=ML (fun x=>dm (ak x) e.2.1) l j i hj bJ h
    rw [c6 hj] at Vt
    rw [c6 bJ] at hci
    unfold cg at h1
    have h2:dm (ak l[j]) e.2.1+dm (ak l[i]) e.2.1≤(l.map fun x=>dm (ak x) e.2.1).sum:=this
    omega
   ·have:=ML (fun x=>dm (ak x) e.2.1) l i j bJ hj h
    rw [c6 hj] at Vt
    rw [c6 bJ] at hci
    unfold cg at h1
    have h2:dm (ak l[i]) e.2.1+dm (ak l[j]) e.2.1≤(l.map fun x=>dm (ak x) e.2.1).sum:=this
    omega
  subst this
  exact oi
theorem bI.MN{v:af.D}(h:bI v){a:Int} : ¬dL v.2.1 a 1:=by
 intro hb
 have hE:∀b,¬E v.2.1 b 1:=by
  rintro b ⟨i,d,hi,ag,he⟩
  exact((h.ino i (bX hi).1).names d ag).2.1 he
 cases hb with
 | single h=>exact hE _ h
 | tail _ h=>exact hE _ h
theorem bI.Vu{v:af.D}(h:bI v){b d:Int}(he:E v.2.1 b d):d≠1:=by
 rintro rfl
 exact h.MN (.single he)
theorem bI.MO{v:af.D}(h:bI v){d:Int}(ag:lA v.2.1 d)(h1:d≠1):cg v.2.1 d=1:=by
 obtain ⟨i,hi,hk⟩:=ag
 obtain ⟨bJ,b5⟩:=bX hi
 have:=h.once i (by
  rcases Nat.eq_zero_or_pos i with h0 | h0
  ·subst h0
   exact absurd ((show(J I v.2.1 0).1=1 from h.root.1).symm.trans b5).symm h1
  ·exact h0) bJ hk
 rwa [b5] at this
theorem bI.agy{v:af.D}(h:bI v){b d:Int}(he:E v.2.1 b d):lA v.2.1 b:=by
 obtain ⟨i,e,hi,hm,_⟩:=he
 refine⟨i,hi,Decidable.byContradiction fun hk=>?_⟩
 rw [((h.ino i (bX hi).1).plain hk).2.2] at hm
 simp at hm
theorem bI.agz{v:af.D}(h:bI v){a d:Int}(ag:lA v.2.1 d)(h1:d≠1):dL v.2.1 a d↔a=jW v.2.1 d∨dL v.2.1 a (jW v.2.1 d):=by
 have ho:=h.MO ag h1
 constructor
 ·intro hb
  cases hb with
  | single he=>exact .inl (FU h.ga ho he).symm
  | tail hb he=>rw [FU h.ga ho he];exact .inr hb
 ·intro hb
  have hE:E v.2.1 (jW v.2.1 d) d:=by
   cases au:Fu v.2.1 d with
   | none =>
    exfalso
    have h0:=lz.1 au
    have:cg v.2.1 d=0:=by
     unfold cg
     refine MK fun x hx=>?_
     obtain ⟨i,hi,az⟩:=fg hx
     have:=h0 i hi
     rw [az] at this
     refine Decidable.byContradiction fun hc=>?_
     rw [MM.2 (by omega)] at this;cases this
    omega
   | some i =>
    obtain ⟨hi,hh,_⟩:=hP.1 au
    obtain ⟨j,hj,Vv,_⟩:=Fv hh
    unfold jW
    rw [au]
    exact⟨i,J aw (ak (J I v.2.1 i)) j,h.ga i hi,cI hj,by unfold kM at Vv;simpa using Vv⟩
  rcases hb with rfl | hb
  ·exact .single hE
  ·exact .tail hb hE
theorem agA{v:af.D}(h:bI v)(top:Int):∀(n k:Nat) (d:Int),lA v.2.1 d→up v.2.1 n d=1→n<k→(nu v.2.1 k d top=true↔d=top∨dL v.2.1 top d):=by
 intro n
 induction n with
 | zero =>
  intro k d ag hu hk
  obtain ⟨k,rfl,_⟩:=fuel hk
  have hu:d=1:=hu
  subst hu
  rw [nu]
  by_cases h1:(1:Int)=top
  ·rw [cB h1];exact⟨fun _=>.inl h1,fun _=>rfl⟩
  ·rw [bG h1]
   exact⟨fun h=>(by cases h),fun h'=>h'.elim (fun h=>absurd h h1) fun hb=>absurd hb h.MN⟩
 | succ n ih =>
  intro k d ag hu hk
  obtain ⟨k,rfl,ed⟩:=fuel hk
  rw [nu]
  by_cases h1:d=top
  ·rw [cB h1];exact⟨fun _=>.inl h1,fun _=>rfl⟩
  ·rw [bG h1]
   by_cases h2:d=1
   ·rw [cB h2]
    subst h2
    exact⟨fun h=>(by cases h),fun h'=>h'.elim (fun h=>absurd h h1) fun hb=>absurd hb h.MN⟩
   ·rw [bG h2]
    simp only [cond_false]
    rw [ih k (jW v.2.1 d) (FA h.iM _) hu (by omega),h.agz ag h2]
    constructor
    ·rintro (h | h)
     ·exact .inr (.inl h.symm)
     ·exact .inr (.inr h)
    ·rintro (h | h | h)
     ·exact absurd h h1
     ·exact .inl h.symm
     ·exact .inr h
theorem up_add(l:List aK)(a:Nat):∀(b:Nat) (d:Int),up l (a+b) d=up l a (up l b d)
 | 0,_=>rfl
 | b+1,d=>up_add l a b (jW l d)
theorem bI.agB{v:af.D}(h:bI v){d:Int}(ag:lA v.2.1 d):∃n,up v.2.1 n d=1:=by
 obtain ⟨i,hi,hk⟩:=ag
 obtain ⟨bJ,b5⟩:=bX hi
 rcases Nat.eq_zero_or_pos i with h0 | h0
 ·subst h0
  exact⟨0,b5.symm.trans (show(J I v.2.1 0).1=1 from h.root.1)⟩
 ·have hb:=h.reach i h0 bJ
  rw [b5] at hb
  have key:∀d,dL v.2.1 1 d→lA v.2.1 d→∃n,up v.2.1 n d=1:=by
   intro d hb
   induction hb with
   | single he =>
    intro ag
    have h1:=h.Vu he
    exact⟨1,FU h.ga (h.MO ag h1) he⟩
   | tail hb he ih =>
    intro ag
    have h1:=h.Vu he
    obtain ⟨n,hn⟩:=ih (h.agy he)
    exact⟨n+1,by show up v.2.1 n (jW v.2.1 _)=1;rw [FU h.ga (h.MO ag h1) he];exact hn⟩
  exact key d hb ⟨i,hi,hk⟩
theorem least{P:Nat→Prop} : ∀n,P n→∃m,P m∧∀k,k<m→¬P k:=by
 intro n
 induction n using Nat.strongRecOn with
 | _ n ih =>
  intro hn
  by_cases h:∃k,k<n∧P k
  ·obtain ⟨k,hk,au⟩:=h
   exact ih k hk au
  ·exact⟨n,hn,fun k hk au=>h ⟨k,hk,au⟩⟩
theorem Vw{v:af.D}(h:bI v):∀(n:Nat) {d:Int},lA v.2.1 d→lA v.2.1 (up v.2.1 n d)
 | 0,_,ag=>ag
 | n+1,d,_=>Vw h n (FA h.iM d)
theorem bI.agC{v:af.D}(h:bI v){d:Int}(ag:lA v.2.1 d):∃n,n<v.2.1.length∧up v.2.1 n d=1:=by
 obtain ⟨agD,h0⟩:=h.agB ag
 obtain ⟨n,hn,agE⟩:=least (P:=fun n=>up v.2.1 n d=1) agD h0
 refine⟨n,?_,hn⟩
 have hO:((List.range (n+1)).map fun i=>up v.2.1 i d).Nodup:=by
  unfold List.Nodup
  rw [List.pairwise_iff_getElem]
  intro i j hi hj il he
  simp only [List.length_map,List.length_range] at hi hj
  simp only [List.getElem_map,List.getElem_range] at he
  refine agE (n-(j-i)) (by omega) ?_
  show up v.2.1 (n-(j-i)) d=1
  rw [show n-(j-i)=(n-j)+i by omega,up_add,he,← up_add,show n-j+j=n by omega]
  exact hn
 have kt:((List.range (n+1)).map fun i=>up v.2.1 i d)⊆v.2.1.map fun x=>x.1:=by
  intro a ha
  obtain ⟨i,_,rfl⟩:=List.mem_map.1 ha
  obtain ⟨j,hj,_⟩:=Vw h i ag
  obtain ⟨h1,h2⟩:=bX hj
  exact List.mem_map.2 ⟨_,cI h1,h2⟩
 have:=hO.length_le_of_subset kt
 simp only [List.length_map,List.length_range] at this
 omega
theorem Vx{v:af.D}(h:bI v){d:Int}(ag:lA v.2.1 d)(top:Int):nu v.2.1 (v.2.1.length+1) d top=true↔d=top∨dL v.2.1 top d:=by
 obtain ⟨n,h1,h2⟩:=h.agC ag
 exact agA h top n _ d ag h2 (by omega)
theorem w6{N:List aw.D}(t:aF)(h:iJ N):N.takeWhile (dR t)=N.filter (dR t)∧N.dropWhile (dR t)=N.filter fun d => !dR t d:=by
 induction N with
 | nil=>exact⟨rfl,rfl⟩
 | cons d r ih =>
  obtain ⟨h1,h2⟩:=List.pairwise_cons.1 h
  obtain ⟨i1,i2⟩:=ih h2
  rw [List.takeWhile_cons,List.dropWhile_cons,List.filter_cons,List.filter_cons]
  cases ag:dR t d with
  | true=>simp [i1,i2]
  | false =>
   have bP:∀e,e∈r→dR t e=false:=by
    intro e he
    have h3:=h1 e he
    cases hk:dR t e with
    | false=>rfl
    | true =>
     have:=zF h3 hk
     unfold dR at ag
     rw [ag] at this;cases this
   have f1:r.filter (dR t)=[]:=List.filter_eq_nil_iff.2 fun e he=>by rw [bP e he];simp
   have f2:(r.filter fun d => !dR t d)=r:=List.filter_eq_self.2 fun e he=>by rw [bP e he];rfl
   simp [f1,f2]
theorem uS{N:List aw.D}(h:iJ N)(s:aF):iJ (ca N s):=List.Pairwise.sublist List.filter_sublist h
theorem agF{N:List aw.D}(h:iJ N){r t:aF}{id:Int}(hne:t≠r):ca (ins N t id) r=ins (ca N r) t id:=by
 unfold ins
 rw [(w6 t h).1,(w6 t h).2,(w6 t (uS h r)).1,(w6 t (uS h r)).2]
 unfold ca
 rw [List.filter_append,List.filter_append,List.filter_cons,List.filter_nil,List.filter_filter,List.filter_filter,List.filter_filter,List.filter_filter]
 have:bu t r=false:=by unfold bu;simpa using hne
 rw [this]
 simp only [Bool.not_false,if_true]
 congr 1
 ·congr 1
  exact List.filter_congr fun d _=>Bool.and_comm _ _
 ·exact List.filter_congr fun d _=>Bool.and_comm _ _
theorem Vy{N:List aw.D}(h:iJ N){t:aF}{id:Int}(hn:∀d,d∈N→d.1≠t):iJ (ins N t id):=by
 unfold ins
 rw [(w6 t h).1,(w6 t h).2]
 unfold iJ
 rw [List.append_assoc,List.pairwise_append]
 refine⟨List.Pairwise.sublist List.filter_sublist h,?_,fun a ha b hb=>?_⟩
 ·rw [List.singleton_append,List.pairwise_cons]
  refine⟨fun b hb=>?_,List.Pairwise.sublist List.filter_sublist h⟩
  obtain ⟨h1,h2⟩:=List.mem_filter.1 hb
  unfold dR at h2
  rw [Mv (hn b h1)]
  exact h2
 ·obtain ⟨h1,h2⟩:=List.mem_filter.1 ha
  have h2:dr a.1 t=true:=h2
  rcases List.mem_append.1 hb with hb | hb
  ·simp only [List.mem_singleton] at hb
   subst hb;exact h2
  ·obtain ⟨h3,h4⟩:=List.mem_filter.1 hb
   unfold dR at h4
   refine zF h2 ?_
   rw [Mv (hn b h3)]
   exact h4
theorem FV{N:List aw.D}(h:iJ N){d:aw.D}(ag:d∈N):dD N d.1=d.2.1:=by
 rw [look_eq]
 induction N with
 | nil=>simp at ag
 | cons e r ih =>
  obtain ⟨h1,h2⟩:=List.pairwise_cons.1 h
  rw [zL]
  rcases List.mem_cons.1 ag with rfl | ag
  ·have:bu d.1 d.1=true:=by unfold bu;simp
   rw [this];rfl
  ·have:bu e.1 d.1=false:=by unfold bu;simpa using Fx (h1 d ag)
   rw [this]
   exact ih h2 ag
theorem agG{N:List aw.D}{s:aF} : ∀d,d∈ca N s→d.1≠s:=by
 intro d ag
 have:=(List.mem_filter.1 ag).2
 unfold bu at this
 simpa using this
theorem se{N:List aw.D}{s:aF}{d:aw.D}(h:d∈ca N s):d∈N:=(List.mem_filter.1 h).1
def dy(l:List aK)(ir:Nat)(cr:aF):List aK:=l.set ir (b1 (J I l ir) (ca (ak (J I l ir)) cr))
def hg(l:List aK)(it:Nat)(dS:aF)(bB:Int):List aK:=l.set it (b1 (J I l it) (ins (ak (J I l it)) dS bB))
def eI(l:List aK)(ir:Nat)(cr:aF)(it:Nat)(dS:aF)(bB:Int):List aK:=hg (dy l ir cr) it dS bB
structure sf(l:List aK)(rd jh:Int)(ir it:Nat)(cr dS:aF)(bB:Int):Prop where
 st:an 1000 l
 hr:bj l rd=some ir
 ht:bj l jh=some it
 zT:kindOf (J I l ir)=2
 MP:kindOf (J I l it)=2
 IU:iJ (ak (J I l ir))
 agH:iJ (ak (J I l it))
 look:dD (ak (J I l ir)) cr=bB
 Vz:bB≠0
 ex:(bj l bB).isSome=true
 no:∀d,d∈ak (J I l it)→d.1≠dS
 ne:ir=it→cr≠dS
theorem sg(x:aK)(N:List aw.D):(b1 x N).1=x.1:=rfl
theorem zU{l:List aK}{i:Nat}(N:List aw.D)(hi:i<l.length)(id:Int):bj (l.set i (b1 (J I l i) N)) id=bj l id:=FK hi (sg _ N) id
theorem MQ{l:List aK}{ir:Nat}{cr:aF}(hi:ir<l.length)(id:Int):bj (dy l ir cr) id=bj l id:=zU _ hi id
theorem VA{l:List aK}{it:Nat}{dS:aF}{bB:Int}(hi:it<l.length)(id:Int):bj (hg l it dS bB) id=bj l id:=zU _ hi id
theorem agI{l:List aK}{rd jh:Int}{ir it:Nat}{cr dS:aF}{bB:Int}(h:sf l rd jh ir it cr dS bB):dy (hg l it dS bB) ir cr=eI l ir cr it dS bB:=by
 have hr:=(bX h.hr).1
 have ht:=(bX h.ht).1
 unfold eI dy hg
 rw [iK ht,iK hr]
 by_cases he:it=ir
 ·subst he
  rw [if_pos rfl,if_pos rfl,List.set_set,List.set_set,jX,jX,agF h.IU (fun e=>h.ne rfl e.symm)]
  rfl
 ·rw [if_neg he,if_neg (fun e=>he e.symm),List.set_comm _ _ he]
theorem VB{l:List aK}{rd jh:Int}{ir it:Nat}{cr dS:aF}{bB:Int}(h:sf l rd jh ir it cr dS bB):an 1001 (dy l ir cr)∧an 1003 (eI l ir cr it dS bB):=by
 have hr:=(bX h.hr).1
 have ht:=(bX h.ht).1
 have h1:an 1001 (dy l ir cr):=h.st.set (k:=1) hr rfl (fun d ag=>h.st.gZ ir hr d (se ag)) (fun hk=>absurd h.zT hk) (Nat.le_trans (uO _ _) (by omega)) (Nat.le_add_right _ _)
 have az:kindOf (J I (dy l ir cr) it)=2∧(J I (dy l ir cr) it).1=jh:=by
  unfold dy
  rw [iK hr]
  split
  ·rename_i he;exact⟨h.zT,by show(J I l ir).1=jh;rw [he];exact(bX h.ht).2⟩
  ·exact⟨h.MP,(bX h.ht).2⟩
 have hex:∀id,(bj (dy l ir cr) id).isSome=(bj l id).isSome:=fun id=>by rw [MQ hr]
 refine⟨h1,(h1.set (k:=1) (i:=it) (y:=b1 (J I (dy l ir cr) it) (ins (ak (J I (dy l ir cr) it)) dS bB)) (by unfold dy;rw [List.length_set];exact ht) rfl (fun d ag=>?_) (fun hk=>absurd az.1 hk) (by rw [jX,w4];omega) (Nat.le_add_right _ _)).mono (by omega)⟩
 rcases qK.1 ag with ag | rfl
 ·exact h1.gZ it (by unfold dy;rw [List.length_set];exact ht) d ag
 ·rw [hex];exact h.ex
theorem agJ(m:Nat)(a b d):(iH (m+1)).oe a b d=KJ (iH m) a b d:=rfl
theorem agK(m:Nat)(a b d e):(iH (m+1)).l9 a b d e=KI (iH m) a b d e:=rfl
theorem agL(m:Nat)(a b d e):(iH (m+1)).eX a b d e=KH (iH m) a b d e:=rfl
theorem agM(m:Nat)(a b d):(iH (m+1)).dh a b d=KG (iH m) a b d:=rfl
theorem agN(m:Nat)(a b d e f g):(gg (m+1)).ma a b d e f g=Jr (gg m) a b d e f g:=rfl
theorem agO(m:Nat)(a b d e f g h i):(gg (m+1)).Jn a b d e f g h i=Js (gg m) a b d e f g h i:=rfl
theorem agP(m:Nat)(a b d e f g h i):(gg (m+1)).o4 a b d e f g h i=Jq (gg m) a b d e f g h i:=rfl
theorem agQ(m:Nat)(a b d e f g h i):(gg (m+1)).gx a b d e f g h i=Jp (gg m) a b d e f g h i:=rfl
theorem agR(m:Nat)(a b d e f g):(gg (m+1)).dh a b d e f g=Jo (gg m) a b d e f g:=rfl
theorem VC{n:Int}{l:List aK}(c:aJ.D)(x:aG.D)(r t:aW.D){ir it:Nat}(h:sf l (cd r) (cd t) ir it (nameOf r) (nameOf t) (bp r))(m:Nat) :
  (iH (m+1)).oe ((n,l,()),c,x,()) r t=some (e_ (eI l ir (nameOf r) it (nameOf t) (bp r)),((n,eI l ir (nameOf r) it (nameOf t) (bp r),()),c,x,()),()):=by
 have hr:=(bX h.hr).1
 have ht:=(bX h.ht).1
 obtain ⟨s1,s2⟩:=VB h
 have iS:=h.st.len
 have q6:=h.st.cJ
 have ra:=s1.len
 have AH:=s1.cJ
 rw [agJ]
 unfold KJ
 show Option.bind (oc (((n,l,()),c,x,()),cd r,nameOf r,false,())) _=_
 rw [MB (n,l,()) c x _ _ false (show l.length≤1048576 by omega) (show dn l≤1048576 by omega) h.hr]
 simp only [av,cond_false]
 show Option.bind (rZ (((n,dy l ir (nameOf r),()),c,x,()),cd t,nameOf t,bp r,())) _=_
 have iP:bj (dy l ir (nameOf r)) (cd t)=some it:=by rw [MQ hr];exact h.ht
 rw [MA (n,dy l ir (nameOf r),()) c x _ _ _ (show(dy l ir (nameOf r)).length≤1048576 by omega) iP (by
  have:=fM (l:=dy l ir (nameOf r)) (i:=it) (bX iP).1
  show(ak (J I (dy l ir (nameOf r)) it)).length≤_
  omega)]
 simp only [av]
 show Option.bind (na (((n,eI l ir (nameOf r) it (nameOf t) (bp r),()),c,x,()),())) (fun v3=>some (v3.1,((n,eI l ir (nameOf r) it (nameOf t) (bp r),()),c,x,()),()))=_
 rw [zJ (n,eI l ir (nameOf r) it (nameOf t) (bp r),()) c x s2 (by omega)];rfl
theorem VD{n:Int}{l:List aK}(v:af.D)(z:af.D)(jq:aV.D)(r t:aW.D){ir it:Nat}(h:sf l (cd r) (cd t) ir it (nameOf r) (nameOf t) (bp r))(m:Nat) :
  (gg (m+1)).ma v z jq r t (n,l,())=some (cond (e_ (eI l ir (nameOf r) it (nameOf t) (bp r))==0) (n,eI l ir (nameOf r) it (nameOf t) (bp r),()) v,(e_ (eI l ir (nameOf r) it (nameOf t) (bp r)),[],()),()):=by
 have hr:=(bX h.hr).1
 have ht:=(bX h.ht).1
 obtain ⟨s1,s2⟩:=VB h
 have iS:=h.st.len
 have q6:=h.st.cJ
 have ra:=fM ht
 rw [agN]
 unfold Jr
 show Option.bind (rE ((n,l,()),cd t,nameOf t,bp r,())) _=_
 rw [MC (n,l,()) _ _ _ (show l.length≤1048576 by omega) h.ht (show(ak (J I l it)).length≤1048576 by omega) h.no]
 simp only [av]
 show Option.bind (n7 ((n,hg l it (nameOf t) (bp r),()),cd r,nameOf r,())) _=_
 have nv:J I (hg l it (nameOf t) (bp r)) ir=if it=ir then b1 (J I l it) (ins (ak (J I l it)) (nameOf t) (bp r)) else J I l ir:=by unfold hg;rw [iK ht]
 have VE:iJ (ak (J I (hg l it (nameOf t) (bp r)) ir)):=by
  rw [nv]
  split
  ·rw [jX];exact Vy h.agH h.no
  ·exact h.IU
 have bJ:bj (hg l it (nameOf t) (bp r)) (cd r)=some ir:=by rw [VA ht];exact h.hr
 have zV:(hg l it (nameOf t) (bp r)).length≤1048576:=by unfold hg;rw [List.length_set];omega
 have agS:dn (hg l it (nameOf t) (bp r))≤1048576:=by
  have:=FI (l:=l) (y:=b1 (J I l it) (ins (ak (J I l it)) (nameOf t) (bp r))) ht
  rw [jX,w4] at this
  unfold hg;omega
 rw [ME (n,hg l it (nameOf t) (bp r),()) _ _ zV agS bJ VE]
 have nt:dD (ak (J I (hg l it (nameOf t) (bp r)) ir)) (nameOf r)=bp r:=by
  obtain ⟨e,he,U5,p2⟩:=qG (N:=ak (J I l ir)) (s:=nameOf r) (by rw [h.look];exact h.Vz)
  have agT:e∈ak (J I (hg l it (nameOf t) (bp r)) ir):=by
   rw [nv]
   split
   ·rename_i hh;rw [jX,hh];exact qK.2 (.inl he)
   ·exact he
  have:=FV VE agT
  rw [U5,p2,h.look] at this
  exact this
 rw [show((n,hg l it (nameOf t) (bp r),()):af.D).2.1=hg l it (nameOf t) (bp r) from rfl,nt]
 have py:goN ((hg l it (nameOf t) (bp r)).set ir (b1 (J I (hg l it (nameOf t) (bp r)) ir) (ca (ak (J I (hg l it (nameOf t) (bp r)) ir)) (nameOf r)))) (bp r)=eI l ir (nameOf r) it (nameOf t) (bp r):=by
  have hc:=agI h
  unfold dy at hc
  rw [hc]
  unfold goN
  rw [decide_eq_false];rfl
  intro h0
  have dN:it<(dy l ir (nameOf r)).length:=by unfold dy;rw [List.length_set];exact ht
  have iX:J I (eI l ir (nameOf r) it (nameOf t) (bp r)) it∈eI l ir (nameOf r) it (nameOf t) (bp r):=cI (by unfold eI hg;rw [List.length_set];exact dN)
  refine FL h0 _ iX (nameOf t,bp r,()) ?_ rfl
  unfold eI hg
  rw [iK dN,if_pos rfl,jX]
  exact qK.2 (.inr rfl)
 rw [py]
 simp only [av]
 show Option.bind (qb (v,(n,eI l ir (nameOf r) it (nameOf t) (bp r),()),())) _=_
 rw [zK v (n,eI l ir (nameOf r) it (nameOf t) (bp r),()) s2 (by omega)];rfl
def MR(c:aJ.D)(d n m:aK):Int :=
 cond (!pk c d m) 1 (cond (kindOf n==2) (cond (kindOf m != 2) 20 (cond (decide (((ak m).length:Int)>0)) 39 0)) (cond (kindOf m==2) 21 0))
theorem agU(v:af.D)(c:aJ.D)(x:aG.D)(n:aK)(t:aW.D)(hl:v.2.1.length≤1048576)(hc:df c=true){i j:Nat}(hi:bj v.2.1 (cd t)=some i)(hj:bj v.2.1 (bp t)=some j) :
  Eb ((v,c,x,()),n,t,())=some (MR c (J I v.2.1 i) n (J I v.2.1 j),()):=by
 show KF (v,c,x,()) n t=_
 unfold KF MR
 rw [o0]
 show Option.bind (fl (v,bp t,())) _=_
 rw [mo v _ hl hj]
 simp only [av,List.isEmpty_cons,Bool.not_false,cond_true]
 show Option.bind (fl (v,cd t,())) _=_
 rw [mo v _ hl hi]
 simp only [av,List.isEmpty_cons,Bool.not_false,cond_true]
 show Option.bind (r0 (c,J I v.2.1 i,J I v.2.1 j,())) _=_
 rw [Mp c _ _ hc]
 simp only [av]
 show cond (!pk c (J I v.2.1 i) (J I v.2.1 j)) _ (cond (kindOf n==2) (cond (!(kindOf (J I v.2.1 j)==2)) _ (cond (kindOf n==2) (cond (decide (((ak (J I v.2.1 j)).length:Int)>0)) _ (cond (!(kindOf n==2)) (cond (kindOf (J I v.2.1 j)==2) _ _) _)) _)) (cond (kindOf n==2) _ (cond (!(kindOf n==2)) (cond (kindOf (J I v.2.1 j)==2) _ _) _)))=_
 unfold bne
 cases pk c (J I v.2.1 i) (J I v.2.1 j) <;> cases kindOf n==2 <;> cases kindOf (J I v.2.1 j)==2 <;> cases decide (((ak (J I v.2.1 j)).length:Int)>0) <;> rfl
structure w7(v:af.D)(c:aJ.D)(x:aG.D)(w:af.D):Prop where
 out:∃r t j,lB v.2.1 r∧bM r=0∧nameOf r≠[]∧bj v.2.1 (bp r)=some j∧lB v.2.1 t∧nameOf t≠[]∧(bM t=0∨bM t=2)∧(fK (v,c,fx x,false,())=some (r,())∧fK (v,c,iL x,false,())=some (t,())) ∧
  (bp t=bp r∧w=v∨bp t≠bp r∧(kindOf (J I v.2.1 j)=2→cd t≠bp r∧¬dL v.2.1 (bp r) (cd t)) ∧
   ∃l ir it,sf l (cd r) (cd t) ir it (nameOf r) (nameOf t) (bp r)∧w=(v.1,eI l ir (nameOf r) it (nameOf t) (bp r),())∧e_ w.2.1=0 ∧
    ((bp t=0∧l=v.2.1∧(cd r≠cd t→(ak (J I l it)).length<12)) ∨
     (∃i2 eN,bj v.2.1 (cd t)=some i2∧kindOf (J I v.2.1 i2)=2∧bj v.2.1 (bp t)=some eN∧ak (J I v.2.1 eN)=[]∧dD (ak (J I v.2.1 i2)) (nameOf t)=bp t∧(kindOf (J I v.2.1 j)=2↔kindOf (J I v.2.1 eN)=2)∧l=(kk v i2 (nameOf t)).2.1)))
theorem VF{v:af.D}(hv:bI v){i2:Nat}(hi:i2<v.2.1.length)(hk:kindOf (J I v.2.1 i2)=2)(s:aF):an 1000 (kk v i2 s).2.1 ∧
  ∀id,id≠dD (ak (J I v.2.1 i2)) s→∀k,bj v.2.1 id=some k→∃k',bj (kk v i2 s).2.1 id=some k'∧J I (kk v i2 s).2.1 k'=if i2=k then b1 (J I v.2.1 i2) (ca (ak (J I v.2.1 i2)) s) else J I v.2.1 k:=by
 have hs1:an 1000 (v.2.1.set i2 (b1 (J I v.2.1 i2) (ca (ak (J I v.2.1 i2)) s))):=(hv.st.set (k:=0) (y:=b1 (J I v.2.1 i2) (ca (ak (J I v.2.1 i2)) s)) hi rfl (fun d ag=>hv.gZ i2 hi d (se ag)) (fun h=>absurd hk h) (uO _ _) (Nat.le_refl _)).mono (by omega)
 refine⟨hs1.go _,fun id hne k b5=>?_⟩
 obtain ⟨nz,hM⟩:=bX b5
 show ∃k',bj (goN (v.2.1.set i2 (b1 (J I v.2.1 i2) (ca (ak (J I v.2.1 i2)) s))) (dD (ak (J I v.2.1 i2)) s)) id=some k'∧J I (goN (v.2.1.set i2 (b1 (J I v.2.1 i2) (ca (ak (J I v.2.1 i2)) s))) (dD (ak (J I v.2.1 i2)) s)) k'=_
 have az:J I (v.2.1.set i2 (b1 (J I v.2.1 i2) (ca (ak (J I v.2.1 i2)) s))) k=if i2=k then b1 (J I v.2.1 i2) (ca (ak (J I v.2.1 i2)) s) else J I v.2.1 k:=iK hi
 have MS:bj (v.2.1.set i2 (b1 (J I v.2.1 i2) (ca (ak (J I v.2.1 i2)) s))) id=some k:=by rw [zU _ hi];exact b5
 rw [← az]
 generalize v.2.1.set i2 (b1 (J I v.2.1 i2) (ca (ak (J I v.2.1 i2)) s))=dO at hs1 MS
 generalize dD (ak (J I v.2.1 i2)) s=gone at hne
 have py:=hs1.go gone
 unfold goN at py ⊢
 by_cases h0:cg dO gone=0
 ·rw [decide_eq_true h0] at py ⊢
  simp only [cond_true] at py ⊢
  obtain ⟨h1,h2⟩:=bX MS
  have hm:J I dO k∈dO.filter fun y => !(y.1==gone):=List.mem_filter.2 ⟨cI h1,by rw [h2,Bool.not_eq_true',beq_eq_false_iff_ne];exact hne⟩
  obtain ⟨k',ed,he⟩:=fg hm
  refine⟨k',?_,he⟩
  have:=py.ga k' ed
  rwa [he,h2] at this
 ·rw [decide_eq_false h0]
  exact⟨k,MS,rfl⟩
theorem agV(v:af.D)(c:aJ.D)(x:aG.D)(hv:bI v)(hc:df c=true)(hx:ij x):bq v c x (Ed ((v,c,x,()),())) (CG (v,c,x,())) (w7 v c x):=by
 have cn:=hv.iM
 have hl:v.2.1.length≤1048576:=cn.len
 have au:=hx.path
 have agv:=hx.sd
 obtain ⟨q,hq,hI⟩:=i_ 6
 show bq v c x (Ec (iH aP) (v,c,x,())) (CF (gg aP) v c x) _
 unfold Ec CF
 obtain ⟨r,⟨hr,_⟩,zS,gk⟩:=zG v c x (fx x) false cn hc (by omega)
 show bq v c x (Option.bind (kF ((v,c,x,()),fx x,false,())) _) (Option.bind (fK (v,c,fx x,false,())) _) _
 rw [zS,gk]
 simp only [av]
 show bq v c x (cond (bM r != 0) (some (bM r,(v,c,x,()),())) _) (cond (bM r != 0) (some (v,(bM r,[],()),())) _) _
 by_cases b0:bM r=0
 case neg =>
  rw [c0 b0]
  exact bq.no (bM r) b0 rfl rfl
 rw [dH b0]
 simp only [cond_false]
 obtain ⟨t,⟨ht,_⟩,agW,FW⟩:=zG v c x (iL x) false cn hc (by omega)
 show bq v c x (Option.bind (kF ((v,c,x,()),iL x,false,())) _) (Option.bind (fK (v,c,iL x,false,())) _) _
 rw [agW,FW]
 simp only [av]
 show bq v c x (cond (bM t != 0) (cond (bM t != 2) (some (bM t,(v,c,x,()),())) (cond (bu (nameOf t) []) (some (bM t,(v,c,x,()),())) ((iH aP).dh (v,c,x,()) r t))) ((iH aP).dh (v,c,x,()) r t))
  (cond (bM t != 0) (cond (bM t != 2) (some (v,(bM t,[],()),())) (cond (bu (nameOf t) []) (some (v,(bM t,[],()),())) ((gg aP).dh v c (0,([]:List I.D),()) (0,([]:aF),()) r t))) ((gg aP).dh v c (0,([]:List I.D),()) (0,([]:aF),()) r t)) _
 by_cases jY:bM t≠0∧(bM t≠2∨nameOf t=[])
 ·rw [c0 jY.1]
  by_cases h2:bM t=2
  ·have jz:nameOf t=[]:=jY.2.elim (fun h=>absurd h2 h) id
   rw [dH h2,nq.2 jz]
   exact bq.no (bM t) jY.1 rfl rfl
  ·rw [c0 h2]
   exact bq.no (bM t) jY.1 rfl rfl
 have MT:bM t=0∨bM t=2:=by
  by_cases h0:bM t=0
  ·exact .inl h0
  ·exact .inr (Decidable.byContradiction fun h=>jY ⟨h0,.inl h⟩)
 have pW:∀ {α : Type} (a b : α),cond (bM t != 0) (cond (bM t != 2) a (cond (bu (nameOf t) []) a b)) b=b:=by
  intro α a b
  by_cases h0:bM t=0
  ·rw [dH h0];rfl
  ·rw [c0 h0]
   have h2:bM t=2:=Decidable.byContradiction fun h=>jY ⟨h0,.inl h⟩
   rw [dH h2]
   have jz:bu (nameOf t) []=false:=by
    rw [← Bool.not_eq_true,nq]
    exact fun h=>jY ⟨h0,.inr h⟩
   rw [jz];rfl
 rw [pW,pW,hq,agM,agR]
 unfold KG Jo
 show bq v c x (cond (bu (nameOf r) []) _ (cond (bu (nameOf t) []) _ _)) (cond (bu (nameOf r) []) _ (cond (bu (nameOf t) []) _ _)) _
 cases VG:bu (nameOf r) [] with
 | true=>exact bq.no 16 (by decide) rfl rfl
 | false =>
 cases VH:bu (nameOf t) [] with
 | true=>exact bq.no 16 (by decide) rfl rfl
 | false =>
 simp only [cond_false,o0]
 have pz:nameOf r≠[]:=fun h=>by rw [nq.2 h] at VG;cases VG
 have htn:nameOf t≠[]:=fun h=>by rw [nq.2 h] at VH;cases VH
 obtain ⟨j,hj⟩:=hr.there b0
 have hjl:=bX hj
 obtain ⟨ot,akf,hC,ou,VI,uT⟩:=hr.named b0 pz
 have agX:=bX ou
 obtain ⟨fX,jZ,sh,zW,qM⟩:∃d,bj v.2.1 (cd t)=some d∧kindOf (J I v.2.1 d)=2∧dD (ak (J I v.2.1 d)) (nameOf t)=bp t∧(bp t=0∨∃eN,bj v.2.1 (bp t)=some eN):=by
  by_cases h0:bM t=0
  ·obtain ⟨a1,a2,d,a3,a4,a5⟩:=ht.named h0 htn
   exact⟨d,a3,a4,a5,.inr (ht.there h0)⟩
  ·have h2:bM t=2:=Decidable.byContradiction fun h=>jY ⟨h0,.inl h⟩
   obtain ⟨a1,a2,d,a3,a4,a5⟩:=ht.new h2 htn
   exact⟨d,a3,a4,by rw [a5,a1],.inl a1⟩
 have MU:=bX jZ
 show bq v c x (Option.bind (fl (v,bp r,())) _) (Option.bind (e7 (v,cd r,())) fun v1=>Option.bind (e7 (v,cd t,())) fun v2=>Option.bind (e7 (v,bp r,())) _) _
 rw [mo v _ hl hj,je v _ hl ou,je v _ hl jZ,je v _ hl hj]
 simp only [av,List.isEmpty_cons,Bool.not_false,cond_true]
 rw [agL]
 unfold KH
 show bq v c x (Option.bind (m9 ((v,c,x,()),cd r,())) fun v1=>cond (!v1.1) _ (Option.bind (m9 ((v,c,x,()),cd t,())) _)) _ _
 rw [zP v c x _ hl hc ou,zP v c x _ hl hc jZ,pj c _ 3 hc,pj c _ 3 hc]
 simp only [av]
 cases may c (J I v.2.1 hC) 3 with
 | false=>exact bq.no 13 (by decide) rfl rfl
 | true =>
 simp only [Bool.not_true,cond_false]
 cases may c (J I v.2.1 fX) 3 with
 | false=>exact bq.no 13 (by decide) rfl rfl
 | true =>
 simp only [Bool.not_true,cond_false]
 show bq v c x (Option.bind (fl (v,cd r,())) _) _ _
 rw [mo v _ hl ou]
 simp only [av,List.isEmpty_cons,Bool.not_false,cond_true]
 show bq v c x (Option.bind (r0 (c,J I v.2.1 hC,J I v.2.1 j,())) _) _ _
 rw [Mp c _ _ hc,Mo c _ _ hc]
 simp only [av]
 cases pk c (J I v.2.1 hC) (J I v.2.1 j) with
 | false=>exact bq.no 1 (by decide) rfl rfl
 | true =>
 simp only [Bool.not_true,cond_false]
 obtain ⟨out,MV,agY⟩:=Mg v hl cn.cJ (bp r)
 have agZ:=agw v (cd t) (bp r) hl cn.cJ
 have ag0:∀(K:Option (Int×aI.D×Unit)),cond ((J I v.2.1 j).2.1==2) (cond (t.1==r.2.2.1) (some (22,(v,c,x,()),())) (Option.bind (ub (v,r.2.2.1,())) fun v5=>Option.bind (rR (v5.1,t.1,())) fun v6=>cond v6.1 (some (22,(v,c,x,()),())) K)) K =
   cond (kindOf (J I v.2.1 j)==2&&nu v.2.1 (v.2.1.length+1) (cd t) (bp r)) (some (22,(v,c,x,()),())) K:=by
  intro K
  show cond (kindOf (J I v.2.1 j)==2) (cond (cd t==bp r) (some (22,(v,c,x,()),())) (Option.bind (ub (v,bp r,())) fun v5=>Option.bind (rR (v5.1,cd t,())) fun v6=>cond v6.1 (some (22,(v,c,x,()),())) K)) K=_
  cases kindOf (J I v.2.1 j)==2
  ·rfl
  ·simp only [cond_true,Bool.true_and]
   have oi:=Vx hv (d:=cd t) ⟨fX,jZ,sh⟩ (bp r)
   rw [agY]
   simp only [av]
   rw [contains_eq _ _ (by
    have:=MV.len
    have:=cn.cJ
    omega)]
   simp only [av]
   by_cases h1:cd t=bp r
   ·rw [cB h1,oi.2 (.inl h1)];rfl
   ·rw [bG h1]
    simp only [cond_false]
    by_cases hb:dL v.2.1 (bp r) (cd t)
    ·rw [oi.2 (.inr hb),decide_eq_true ((MV.iff _).2 hb)]
    ·have:nu v.2.1 (v.2.1.length+1) (cd t) (bp r)=false:=by
      rw [← Bool.not_eq_true];exact fun h=>(oi.1 h).elim h1 hb
     rw [this,decide_eq_false (fun h=>hb ((MV.iff _).1 h))]
 have ag1:∀(K:Option (af.D×aV.D×Unit)),cond ((J I v.2.1 j).2.1==2) (Option.bind (yJ (v,t.1,r.2.2.1,())) fun bt=>cond bt.1 (some (v,(22,[],()),())) K) K =
   cond (kindOf (J I v.2.1 j)==2&&nu v.2.1 (v.2.1.length+1) (cd t) (bp r)) (some (v,(22,[],()),())) K:=by
  intro K
  show cond (kindOf (J I v.2.1 j)==2) (Option.bind (yJ (v,cd t,bp r,())) _) K=_
  rw [agZ]
  cases kindOf (J I v.2.1 j)==2 <;> rfl
 rw [mu]
 rw [ag0,ag1]
 cases qJ:kindOf (J I v.2.1 j)==2&&nu v.2.1 (v.2.1.length+1) (cd t) (bp r) with
 | true=>exact bq.no 22 (by decide) rfl rfl
 | false =>
 simp only [cond_false]
 have lU:kindOf (J I v.2.1 j)=2→cd t≠bp r∧¬dL v.2.1 (bp r) (cd t):=by
  intro hk
  rw [cB hk,Bool.true_and] at qJ
  have oi:=Vx hv (d:=cd t) ⟨fX,jZ,sh⟩ (bp r)
  exact⟨fun h=>(by rw [oi.2 (.inl h)] at qJ;cases qJ),fun h=>(by rw [oi.2 (.inr h)] at qJ;cases qJ)⟩
 rw [agK,agQ]
 unfold KI Jp
 rw [uK v hl (fun i hi=>Nat.le_trans (fM hi) cn.cJ)]
 simp only [av]
 show bq v c x (cond (bp t==bp r) (some (0,(v,c,x,()),())) (cond (!(bp t==0)) (Option.bind (Eb ((v,c,x,()),J I v.2.1 j,t,())) fun v1=>cond (v1.1 != 0) (some (v1.1,(v,c,x,()),())) (Option.bind (oc ((v,c,x,()),cd t,nameOf t,true,())) fun v2=>(iH (q+3)).oe v2.1 r t))
   (cond (!(cd r==cd t)) (Option.bind (fl (v,cd t,())) fun v3=>cond (!List.isEmpty v3.1) (cond (((ak (J I v3.1 0)).length:Int)==12) (some (28,(v,c,x,()),())) ((iH (q+3)).oe (v,c,x,()) r t)) none) ((iH (q+3)).oe (v,c,x,()) r t))))
  (cond (decide (bp t>0)) (cond (bp t==bp r) (some (v,(0,[],()),())) (Option.bind (e7 (v,bp t,())) fun v2=>Option.bind (wj (c,J I v.2.1 fX,v2.1,())) fun v3=>cond (!v3.1) (some (v,(1,[],()),())) (cond (kindOf (J I v.2.1 j)==2) (cond (kindOf v2.1 != 2) (some (v,(20,[],()),())) ((gg (q+4)).o4 v (0,([]:List I.D),()) (0,([]:aF),()) r t (J I v.2.1 j) v v2.1)) ((gg (q+4)).o4 v (0,([]:List I.D),()) (0,([]:aF),()) r t (J I v.2.1 j) v v2.1))))
   (cond (!(cd r==cd t)) (cond (decide (((ak (J I v.2.1 fX)).length:Int)≥12)) (some (v,(28,[],()),())) ((gg (q+4)).ma v (0,([]:List I.D),()) (0,([]:aF),()) r t v)) ((gg (q+4)).ma v (0,([]:List I.D),()) (0,([]:aF),()) r t v))) _
 have akg:0<bp r:=by
  have h1:=hv.ids j hjl.1
  have h2:a7 (J I v.2.1 j)=bp r:=hjl.2
  omega
 have VJ:=hv.ino hC agX.1
 have ll:=hv.ino fX MU.1
 by_cases mO:bp t=bp r
 ·rw [cB mO,decide_eq_true (show bp t>0 by omega)]
  exact⟨0,v,rfl,rfl,fun _=>⟨r,t,j,hr,b0,pz,hj,ht,htn,MT,⟨gk,FW⟩,.inl ⟨mO,rfl⟩⟩⟩
 rw [bG mO]
 simp only [cond_false]
 have hne:hC=fX→nameOf r≠nameOf t:=by
  rintro rfl he
  rw [he,zW] at uT
  exact mO uT
 by_cases oK:bp t=0
 ·
  rw [cB oK,decide_eq_false (show ¬bp t>0 by omega)]
  simp only [Bool.not_true,cond_false]
  have hpre:sf v.2.1 (cd r) (cd t) hC fX (nameOf r) (nameOf t) (bp r) :=
   ⟨hv.st.mono (by omega),ou,jZ,VI,sh,VJ.sorted,ll.sorted,uT,by omega,by rw [hj];rfl,zM (by rw [zW,oK]) fun e he=>hv.zN MU.1 he,hne⟩
  have hfin:(cd r≠cd t→(ak (J I v.2.1 fX)).length<12)→bq v c x ((iH (q+3)).oe (v,c,x,()) r t) ((gg (q+4)).ma v (0,([]:List I.D),()) (0,([]:aF),()) r t v) (w7 v c x):=by
   intro cw
   have h1:=VC (n:=v.1) c x r t hpre (q+2)
   have h2:=VD (n:=v.1) v (0,([]:List I.D),()) (0,([]:aF),()) r t hpre (q+3)
   exact⟨_,_,h1,h2,fun h=>⟨r,t,j,hr,b0,pz,hj,ht,htn,MT,⟨gk,FW⟩,.inr ⟨mO,lU,v.2.1,hC,fX,hpre,rfl,h,.inl ⟨oK,rfl,cw⟩⟩⟩⟩
  by_cases MW:cd r=cd t
  ·rw [cB MW]
   exact hfin fun h=>absurd MW h
  ·rw [bG MW]
   simp only [Bool.not_false,cond_true]
   rw [mo v _ hl jZ]
   simp only [av,List.isEmpty_cons,Bool.not_false,cond_true]
   show bq v c x (cond (((ak (J I v.2.1 fX)).length:Int)==12) _ _) _ _
   have Vp:=(ll.dir sh).2.2.2
   by_cases ld:(ak (J I v.2.1 fX)).length=12
   ·rw [show(((ak (J I v.2.1 fX)).length:Int)==12)=true by rw [ld];rfl,decide_eq_true (by omega)]
    exact bq.no 28 (by decide) rfl rfl
   ·rw [show(((ak (J I v.2.1 fX)).length:Int)==12)=false by rw [beq_eq_false_iff_ne];omega,decide_eq_false (show ¬((ak (J I v.2.1 fX)).length:Int)≥12 by omega)]
    exact hfin fun _=>by omega
 ·
  obtain ⟨eN,j_⟩:=qM.resolve_left oK
  have MX:=bX j_
  have w1:0<bp t:=by
   have h1:=hv.ids eN MX.1
   have h2:a7 (J I v.2.1 eN)=bp t:=MX.2
   omega
  rw [bG oK,decide_eq_true (show bp t>0 from w1)]
  simp only [Bool.not_false,cond_true]
  rw [agU v c x _ t hl hc jZ j_,je v _ hl j_]
  simp only [av]
  rw [Mo c _ _ hc]
  simp only [av]
  unfold MR
  cases pk c (J I v.2.1 fX) (J I v.2.1 eN) with
  | false=>exact bq.no 1 (by decide) rfl rfl
  | true =>
  simp only [Bool.not_true,cond_false]
  have ag2:(gg (q+4)).o4 v (0,([]:List I.D),()) (0,([]:aF),()) r t (J I v.2.1 j) v (J I v.2.1 eN)=cond (kindOf (J I v.2.1 j)==2) (cond (decide (((ak (J I v.2.1 eN)).length:Int)>0)) (some (v,(39,[],()),())) (Option.bind (n7 (v,cd t,nameOf t,())) fun v2=>(gg (q+2)).ma v (0,([]:List I.D),()) (0,([]:aF),()) r t v2.1))
    (cond (kindOf (J I v.2.1 eN)==2) (some (v,(21,[],()),())) (Option.bind (n7 (v,cd t,nameOf t,())) fun v2=>(gg (q+2)).ma v (0,([]:List I.D),()) (0,([]:aF),()) r t v2.1)):=by
   rw [agP]
   unfold Jq
   rw [agO]
   unfold Js
   show cond (kindOf (J I v.2.1 j)==2) (cond (decide (((ak (J I v.2.1 eN)).length:Int)>0)) _ (cond (!(kindOf (J I v.2.1 j)==2)) (cond (kindOf (J I v.2.1 eN)==2) _ _) _)) (cond (!(kindOf (J I v.2.1 j)==2)) (cond (kindOf (J I v.2.1 eN)==2) _ _) _)=_
   cases kindOf (J I v.2.1 j)==2 <;> rfl
  rw [ag2]
  have hfin:ak (J I v.2.1 eN)=[]→(kindOf (J I v.2.1 j)=2↔kindOf (J I v.2.1 eN)=2)→bq v c x (Option.bind (oc ((v,c,x,()),cd t,nameOf t,true,())) fun v2=>(iH (q+3)).oe v2.1 r t) (Option.bind (n7 (v,cd t,nameOf t,())) fun v2=>(gg (q+2)).ma v (0,([]:List I.D),()) (0,([]:aF),()) r t v2.1) (w7 v c x):=by
   intro oD hkk
   rw [MB v c x _ _ true hl cn.cJ jZ,ME v _ _ hl cn.cJ jZ ll.sorted]
   simp only [av,cond_true]
   obtain ⟨hst,FX⟩:=VF hv MU.1 sh (nameOf t)
   rw [zW] at FX
   have ag3:cd r≠bp t:=by
    intro he
    rw [he,j_] at ou
    have:eN=hC:=aU ou
    subst this
    obtain ⟨e,h1,_,_⟩:=qG (N:=ak (J I v.2.1 eN)) (s:=nameOf r) (by rw [uT];exact ot)
    rw [oD] at h1;simp at h1
   have ag4:cd t≠bp t:=by
    intro he
    rw [he,j_] at jZ
    have:eN=fX:=aU jZ
    subst this
    obtain ⟨e,h1,_,_⟩:=qG (N:=ak (J I v.2.1 eN)) (s:=nameOf t) (by rw [zW];exact oK)
    rw [oD] at h1;simp at h1
   obtain ⟨ir,VK,nv⟩:=FX _ ag3 _ ou
   obtain ⟨it,iP,pB⟩:=FX _ ag4 _ jZ
   obtain ⟨akh,il,_⟩:=FX _ (Ne.symm mO) _ hj
   rw [if_pos rfl] at pB
   have ag5:ir=it→hC=fX:=by
    rintro rfl
    have h1:=(bX VK).2
    have h2:=(bX iP).2
    rw [h1] at h2
    rw [h2,jZ] at ou
    exact(aU ou).symm
   have hpre:sf (kk v fX (nameOf t)).2.1 (cd r) (cd t) ir it (nameOf r) (nameOf t) (bp r):=by
    refine⟨hst,VK,iP,?_,?_,?_,?_,?_,by omega,by rw [il];rfl,?_,fun e=>hne (ag5 e)⟩
    ·rw [nv];split
     ·exact sh
     ·exact VI
    ·rw [pB];exact sh
    ·rw [nv];split
     ·rw [jX];exact uS ll.sorted _
     ·exact VJ.sorted
    ·rw [pB,jX];exact uS ll.sorted _
    ·rw [nv];split
     ·rename_i he
      subst he
      rw [jX]
      obtain ⟨e,h1,h2,h3⟩:=qG (N:=ak (J I v.2.1 fX)) (s:=nameOf r) (by rw [uT];exact ot)
      have hm:e∈ca (ak (J I v.2.1 fX)) (nameOf t):=List.mem_filter.2 ⟨h1,by unfold bu;rw [h2];simpa using hne rfl⟩
      have:=FV (uS ll.sorted (nameOf t)) hm
      rw [h2,h3,uT] at this
      exact this
     ·exact uT
    ·rw [pB,jX];exact agG
   show bq v c x ((iH (q+3)).oe ((v.1,(kk v fX (nameOf t)).2.1,()),c,x,()) r t) ((gg (q+2)).ma v (0,([]:List I.D),()) (0,([]:aF),()) r t (v.1,(kk v fX (nameOf t)).2.1,())) _
   have h1:=VC (n:=v.1) c x r t hpre (q+2)
   have h2:=VD (n:=v.1) v (0,([]:List I.D),()) (0,([]:aF),()) r t hpre (q+1)
   exact⟨_,_,h1,h2,fun h=>⟨r,t,j,hr,b0,pz,hj,ht,htn,MT,⟨gk,FW⟩,.inr ⟨mO,lU,_,ir,it,hpre,rfl,h,.inr ⟨fX,eN,jZ,sh,j_,oD,zW,hkk,rfl⟩⟩⟩⟩
  by_cases hk:kindOf (J I v.2.1 j)=2
  ·rw [cB hk]
   simp only [cond_true]
   by_cases hk2:kindOf (J I v.2.1 eN)=2
   ·rw [dH hk2]
    simp only [cond_false]
    by_cases oD:ak (J I v.2.1 eN)=[]
    ·rw [oD,show decide ((([]:List aw.D).length:Int)>0)=false from rfl]
     exact hfin oD ⟨fun _=>hk2,fun _=>hk⟩
    ·have ags:0<(ak (J I v.2.1 eN)).length:=List.length_pos_iff.2 oD
     rw [decide_eq_true (by omega)]
     exact bq.no 39 (by decide) rfl rfl
   ·rw [c0 hk2]
    exact bq.no 20 (by decide) rfl rfl
  ·rw [bG hk]
   simp only [cond_false]
   by_cases hk2:kindOf (J I v.2.1 eN)=2
   ·rw [cB hk2]
    exact bq.no 21 (by decide) rfl rfl
   ·rw [bG hk2]
    exact hfin ((hv.ino eN MX.1).plain hk2).2.2 ⟨fun h=>absurd h hk,fun h=>absurd h hk2⟩
theorem si(v:af.D)(c:aJ.D)(x:aG.D)(b3:Bool)(hw:pr v.2.1)(hc:df c=true)(au:(fx x).length≤1048576) :
  ∃r,sb b3 v.2.1 r∧fK (v,c,fx x,b3,())=some (r,())∧(bM r≠0→mf ((v,c,x,()),b3,())=some (-1,bM r,(v,c,x,()),())) ∧
   (bM r=0→∃i,bj v.2.1 (bp r)=some i∧mf ((v,c,x,()),b3,())=some ((i:Int),0,(v,c,x,()),())):=by
 obtain ⟨r,h1,h2,h3⟩:=zG v c x (fx x) b3 hw hc au
 have eP:mf ((v,c,x,()),b3,())=cond (bM r != 0) (some (-1,bM r,(v,c,x,()),())) (Option.bind (wz (v,bp r,())) fun v2=>some (v2.1,0,(v2.2.1,c,x,()),())):=by
  show KK (v,c,x,()) b3=_
  unfold KK
  show Option.bind (kF ((v,c,x,()),fx x,b3,())) _=_
  rw [h2];rfl
 refine⟨r,h1,h3,fun h0=>by rw [eP,c0 h0];rfl,fun h0=>?_⟩
 obtain ⟨i,hi⟩:=h1.1.there h0
 refine⟨i,hi,?_⟩
 rw [eP,dH h0,Mq v _ hw.len,hi];rfl
def gy(n:Nat):aF:=List.replicate n 0
def kl(s:aF)(n:Nat):aF:=(s++gy (n-s.length)).take n
def kO(s:aF)(at_:Nat)(d:aF):aF:=kl s at_++d++s.drop (at_+d.length)
theorem pC(s:aF)(n:Nat):(kl s n).length=n:=by unfold kl gy;rw [List.length_take,List.length_append,List.length_replicate];omega
theorem VL:∀n,Lib.repeatL [0] n=gy n
 | 0=>rfl
 | n+1=>by rw [Lib.repeatL,VL n];rfl
theorem ag6(s:aF)(n:Nat)(hs:s.length≤1048576)(hn:n≤1048576):Ef (s,(n:Int),())=some (kl s n,()):=by
 show KM s (n:Int)=_
 unfold KM kl
 by_cases h:n≤s.length
 ·rw [decide_eq_true (show(s.length:Int)≥(n:Int) by omega)]
  simp only [cond_true]
  show Option.bind (dZ s.length ((0:Nat):Int) (n:Int)) _=_
  rw [kn (by omega) h]
  simp only [av,Nat.sub_zero]
  rw [zt,show n-s.length=0 by omega]
  simp [gy]
 ·rw [decide_eq_false (show ¬(s.length:Int)≥(n:Int) by omega)]
  simp only [cond_false]
  show Option.bind (repF [0] (aH ((n:Int)-(s.length:Int)))) _=_
  rw [show aH ((n:Int)-(s.length:Int))=((n-s.length:Nat):Int) by rw [dI (by omega) (by omega)];omega]
  unfold repF
  rw [if_pos ⟨by omega,by omega,by simp;omega⟩,Int.toNat_natCast,VL]
  simp only [av]
  rw [cE (by unfold gy;rw [List.length_replicate];omega)]
  simp only [cond_true]
  rw [List.take_of_length_le (by unfold gy;rw [List.length_append,List.length_replicate];omega)]
theorem VM(t:aF):gl (en t)=t:=by
 unfold gl en
 rw [List.map_map]
 conv=>rhs;rw [← List.map_id t]
 refine List.map_congr_left fun b _=>?_
 simp
theorem FY(t:aF):(en t).length=t.length:=by unfold en;simp
theorem ag7(t:aF):en t++[0]=en (t++[0]):=by unfold en;simp
theorem ag8(t:aF)(i:Nat)(b:UInt8):(en t).set i (b.toNat:Int)=en (t.set i b):=by unfold en;rw [List.map_set]
theorem VN(s:aF)(at_:Nat)(d:aF)(hs:s.length≤1048576)(ha:at_≤1048576)(ag:d.length≤1048576) :
  rH (s,(at_:Int),d,())=some ((s++gy (at_+d.length-s.length)).take at_++d++(s++gy (at_+d.length-s.length)).drop (at_+d.length),()):=by
 show CH (m2 aP) s (at_:Int) d=_
 unfold CH
 have hw:aH ((at_:Int) +(d.length:Int))=((at_+d.length:Nat):Int):=by rw [dI (by omega) (by omega)];omega
 generalize ht:s++gy (at_+d.length-s.length)=t
 have rh:at_+d.length≤t.length∧t.length≤4194304:=by rw [← ht];unfold gy;rw [List.length_append,List.length_replicate];omega
 have aZ:∀(r i:Nat),i+r=d.length→bZ (fun m=>(m2 m).bs (at_:Int) d (i:Int) (en (t.take at_++d.take i++t.drop (at_+i)))) (r+1) (some (t.take at_++d++t.drop (at_+d.length),())):=by
  intro r
  induction r with
  | zero =>
   intro i hi
   refine bZ.now 1 fun m=>?_
   show yL (m2 m) _ _ _ _=_
   unfold yL
   rw [cG (by omega)]
   simp only [cond_false]
   rw [VM,show i=d.length by omega,List.take_length]
  | succ r ih =>
   intro i hi
   have cw:i<d.length:=by omega
   refine((ih (i+1) (by omega)).jump (f:=fun m=>(m2 m).bs (at_:Int) d (i:Int) (en (t.take at_++d.take i++t.drop (at_+i)))) 1 fun m=>?_).mono (by omega)
   show yL (m2 m) _ _ _ _=_
   unfold yL
   rw [ck cw,bx cw]
   simp only [cond_true,av]
   have zV:(t.take at_++d.take i).length=at_+i:=by rw [List.length_append,List.length_take,List.length_take];omega
   have hlen:at_+i<(en (t.take at_++d.take i++t.drop (at_+i))).length:=by
    rw [FY,List.length_append,zV,List.length_drop];omega
   rw [show aH ((at_:Int) +(i:Int))=((at_+i:Nat):Int) by rw [dI (by omega) (by omega)];omega,bx hlen]
   simp only [av,Nat.zero_add]
   unfold Q8
   rw [db i (by omega),ag8]
   congr 2
   rw [w3 (show at_+i<t.length by omega),List.set_append_right _ _ (by rw [zV];omega),zV,Nat.sub_self,List.set_cons_zero,List.take_succ_eq_append_getElem cw,List.getD_eq_getElem?_getD,List.getElem?_eq_getElem cw,show at_ +(i+1)=at_+i+1 by omega]
   simp only [List.append_assoc,List.singleton_append,List.cons_append,List.nil_append,Option.getD_some]
 have h2:∀(r k:Nat),k+r=at_+d.length-s.length→bZ (fun m=>(m2 m).k2 (at_:Int) d (en (s++gy k))) (r+d.length+3) (some (t.take at_++d++t.drop (at_+d.length),())):=by
  intro r
  induction r with
  | zero =>
   intro k hk
   have hk:k=at_+d.length-s.length:=by omega
   subst hk
   rw [ht]
   have:=aZ d.length 0 (by omega)
   rw [List.take_zero,List.append_nil,Nat.add_zero,List.take_append_drop] at this
   refine(this.jump (f:=fun m=>(m2 m).k2 (at_:Int) d (en t)) 1 fun m=>?_).mono (by omega)
   show yK (m2 m) _ _ _=_
   unfold yK
   rw [hw,FY,cG (by omega)];rfl
  | succ r ih =>
   intro k hk
   refine((ih (k+1) (by omega)).jump (f:=fun m=>(m2 m).k2 (at_:Int) d (en (s++gy k))) 1 fun m=>?_).mono (by omega)
   show yK (m2 m) _ _ _=_
   unfold yK
   have hl:(en (s++gy k)).length=s.length+k:=by rw [FY,List.length_append];unfold gy;rw [List.length_replicate]
   rw [hw,ck (by rw [hl];omega)]
   simp only [cond_true]
   rw [cE (by rw [hl];simp only [List.length_cons,List.length_nil];omega)]
   simp only [cond_true]
   rw [ag7,List.append_assoc]
   have:gy k++[0]=gy (k+1):=by unfold gy;rw [List.replicate_succ']
   rw [this]
 have:=h2 (at_+d.length-s.length) 0 (by omega)
 rw [show gy 0=[] from rfl,List.append_nil] at this
 exact kK this (by omega)
theorem put_eq(s:aF)(at_:Nat)(d:aF):(s++gy (at_+d.length-s.length)).take at_++d++(s++gy (at_+d.length-s.length)).drop (at_+d.length)=kO s at_ d:=by
 unfold kO kl
 congr 1
 ·congr 1
  rw [List.take_append,List.take_append]
  congr 1
  unfold gy
  rw [List.take_replicate,List.take_replicate]
  congr 1
  omega
 ·rw [List.drop_append]
  have:(gy (at_+d.length-s.length)).drop (at_+d.length-s.length)=[]:=List.drop_of_length_le (by unfold gy;rw [List.length_replicate];omega)
  rw [this,List.append_nil]
theorem ag9(s:aF)(at_:Nat):((s++gy (at_ +([]:aF).length-s.length)).take at_++([]:aF)++(s++gy (at_ +([]:aF).length-s.length)).drop (at_ +([]:aF).length)).take at_=kl s at_:=by
 rw [put_eq]
 unfold kO
 rw [List.append_nil,List.take_append_of_le_length (by rw [pC];omega),List.take_of_length_le (by rw [pC];omega)]
def nw(x:aK)(d:aF):aK:=(x.1,x.2.1,x.2.2.1,x.2.2.2.1,x.2.2.2.2.1,d,x.2.2.2.2.2.2.1,x.2.2.2.2.2.2.2.1,x.2.2.2.2.2.2.2.2.1,())
def eh(x:aG.D)(n:aK):Int:=if aA x=6 then((bN n).length:Int) else bR x
def ik(x:aG.D)(n:aK):aF:=if aA x=7 then kl (bN n) (bR x).toNat else kO (bN n) (eh x n).toNat (dx x)
structure w8(v:af.D)(c:aJ.D)(x:aG.D)(w:af.D):Prop where
 out:∃r i,lB v.2.1 r∧bM r=0∧bj v.2.1 (bp r)=some i∧kindOf (J I v.2.1 i)≠2∧kindOf (J I v.2.1 i)≠3∧may c (J I v.2.1 i) 2=true∧0≤eh x (J I v.2.1 i) ∧
  ((aA x≠7∧dx x=[]∧w=v)∨((aA x≠7→dx x≠[])∧eh x (J I v.2.1 i) +(dx x).length≤64∧w=(v.1,v.2.1.set i (nw (J I v.2.1 i) (ik x (J I v.2.1 i))),())∧e_ w.2.1=0))
theorem VO(v:af.D)(c:aJ.D)(x:aG.D)(want:Int)(hw:pr v.2.1)(hc:df c=true)(au:(fx x).length≤1048576) :
  ∃r,sb true v.2.1 r∧fK (v,c,fx x,true,())=some (r,())∧(bM r≠0→y_ ((v,c,x,()),want,())=some (-1,bM r,(v,c,x,()),())) ∧
   (bM r=0→∃i,bj v.2.1 (bp r)=some i∧y_ ((v,c,x,()),want,())=cond (kindOf (J I v.2.1 i)==2) (some (-1,21,(v,c,x,()),())) (cond (!may c (J I v.2.1 i) want) (some (-1,13,(v,c,x,()),())) (some ((i:Int),0,(v,c,x,()),())))):=by
 obtain ⟨r,h1,h2,h3,h4⟩:=si v c x true hw hc au
 refine⟨r,h1,h2,fun h0=>?_,fun h0=>?_⟩
 ·show y9 (v,c,x,()) want=_
  unfold y9
  rw [h3 h0]
  simp only [av]
  rw [c0 h0];rfl
 ·obtain ⟨i,hi,aZ⟩:=h4 h0
  refine⟨i,hi,?_⟩
  show y9 (v,c,x,()) want=_
  unfold y9
  rw [aZ]
  simp only [av]
  rw [show((0:Int) != 0)=false from rfl]
  simp only [cond_false]
  rw [bx (bX hi).1]
  simp only [av]
  rw [zC c _ want hc];rfl
theorem ag_(m:Nat)(a b d):(gh (m+1)).dh a b d=KN (gh m) a b d:=rfl
theorem ag'(m:Nat)(a b d):(gh (m+1)).cZ a b d=KO (gh m) a b d:=rfl
theorem aha(m:Nat)(a b d):(gh (m+1)).gx a b d=KP (gh m) a b d:=rfl
theorem ahb(m:Nat)(a b d e f g):(jS (m+1)).m3 a b d e f g=Jt (jS m) a b d e f g:=rfl
theorem ahc(m:Nat)(a b d e):(jS (m+1)).gV a b d e=Ju (jS m) a b d e:=rfl
theorem bI.fy{v:af.D}(h:bI v){i:Nat}(hi:i<v.2.1.length):(bN (J I v.2.1 i)).length≤64:=by
 have:=h.ino i hi
 rcases this.kind with k | k | k
 ·exact this.file k
 ·rw [(this.dir k).1];simp
 ·have:=Mx (this.mr k).1;omega
theorem ahd(v:af.D)(c:aJ.D)(x:aG.D)(hv:bI v)(hc:df c=true)(hx:ij x)(hk:aA x=5∨aA x=6∨aA x=7):bq v c x (Eh ((v,c,x,()),())) (wm (v,c,x,())) (w8 v c x):=by
 have cn:=hv.iM
 have hl:v.2.1.length≤1048576:=cn.len
 have au:=hx.path
 have aki:=hx.fy
 have lU:=hx.n
 obtain ⟨q,hq,hI⟩:=i_ 4
 show bq v c x (Eg (gh aP) (v,c,x,())) (CI (jS aP) v c x) _
 unfold Eg CI
 obtain ⟨r,⟨hr,w9⟩,gk,j0,j1⟩:=VO v c x 2 cn hc (by omega)
 show bq v c x _ (Option.bind (fK (v,c,fx x,true,())) _) _
 rw [gk]
 simp only [av]
 show bq v c x _ (cond (bM r != 0) (some (v,(bM r,[],()),())) _) _
 by_cases b0:bM r=0
 case neg =>
  rw [j0 b0,c0 b0]
  simp only [av]
  rw [c0 b0]
  exact bq.no (bM r) b0 rfl rfl
 obtain ⟨i,hi,eP⟩:=j1 b0
 have bJ:=bX hi
 rw [eP,dH b0]
 simp only [cond_false]
 show bq v c x _ (Option.bind (e7 (v,bp r,())) _) _
 rw [je v _ hl hi]
 simp only [av]
 show bq v c x _ (cond (kindOf (J I v.2.1 i)==2) _ _) _
 by_cases hM:kindOf (J I v.2.1 i)=2
 ·rw [cB hM]
  exact bq.no 21 (by decide) rfl rfl
 rw [bG hM]
 simp only [cond_false]
 rw [pj c _ 2 hc]
 simp only [av]
 cases hm:may c (J I v.2.1 i) 2 with
 | false=>exact bq.no 13 (by decide) rfl rfl
 | true =>
 simp only [Bool.not_true,cond_false,av]
 rw [show((0:Int) != 0)=false from rfl]
 simp only [cond_false]
 have akj:=hv.fy bJ.1
 have ahe:cond (x.1==6) ((aN v.2.1.length (i:Int)).bind fun v2=>(gh aP).dh (i:Int) ((J I v.2.1 v2).2.2.2.2.2.1.length:Int) (v,c,x,())) ((gh aP).dh (i:Int) x.2.2.2.1 (v,c,x,()))=(gh aP).dh (i:Int) (eh x (J I v.2.1 i)) (v,c,x,()):=by
  rw [bx bJ.1]
  unfold eh
  show cond (aA x==6) _ _=_
  by_cases bd:aA x=6
  ·rw [cB bd,if_pos bd];rfl
  ·rw [bG bd,if_neg bd];rfl
 have ahf:cond (x.1==6) ((jS aP).m3 ((J I v.2.1 i).2.2.2.2.2.1.length:Int) v x (0,([]:List I.D),()) (0,([]:aF),()) (J I v.2.1 i)) ((jS aP).m3 x.2.2.2.1 v x (0,([]:List I.D),()) (0,([]:aF),()) (J I v.2.1 i))=(jS aP).m3 (eh x (J I v.2.1 i)) v x (0,([]:List I.D),()) (0,([]:aF),()) (J I v.2.1 i):=by
  unfold eh
  show cond (aA x==6) _ _=_
  by_cases bd:aA x=6
  ·rw [cB bd,if_pos bd];rfl
  ·rw [bG bd,if_neg bd];rfl
 show bq v c x (cond (x.1==6) ((aN v.2.1.length (i:Int)).bind fun v2=>(gh aP).dh (i:Int) ((J I v.2.1 v2).2.2.2.2.2.1.length:Int) (v,c,x,())) ((gh aP).dh (i:Int) x.2.2.2.1 (v,c,x,())))
  (cond (x.1==6) ((jS aP).m3 ((J I v.2.1 i).2.2.2.2.2.1.length:Int) v x (0,([]:List I.D),()) (0,([]:aF),()) (J I v.2.1 i)) ((jS aP).m3 x.2.2.2.1 v x (0,([]:List I.D),()) (0,([]:aF),()) (J I v.2.1 i))) _
 rw [ahe,ahf,hq,ag_,ahb]
 unfold KN Jt
 by_cases AK:eh x (J I v.2.1 i)<0
 ·rw [decide_eq_true AK]
  exact bq.no 22 (by decide) rfl rfl
 rw [decide_eq_false AK]
 simp only [cond_false]
 obtain ⟨a,ha⟩:∃a:Nat,eh x (J I v.2.1 i)=a:=⟨(eh x (J I v.2.1 i)).toNat,by omega⟩
 have akk:a≤1000000:=by
  have:eh x (J I v.2.1 i)≤1000000:=by
   unfold eh
   split
   ·omega
   ·exact lU.2
  omega
 show bq v c x (cond (!(aA x==7)) (cond (bu (dx x) []) (some (0,(v,c,x,()),())) ((gh (q+3)).cZ (i:Int) (eh x (J I v.2.1 i)) (v,c,x,()))) ((gh (q+3)).cZ (i:Int) (eh x (J I v.2.1 i)) (v,c,x,())))
  (cond (aA x==7) (cond (decide (eh x (J I v.2.1 i)>64)) (some (v,(27,[],()),())) (Option.bind (rH (bN (J I v.2.1 i),eh x (J I v.2.1 i),[],())) fun v1=>Option.bind (dZ v1.1.length 0 (eh x (J I v.2.1 i))) fun v2=>(jS (q+3)).gV v (0,([]:List I.D),()) (0,([]:aF),()) (nw (J I v.2.1 i) (part v1.1 v2.1 (v2.2-v2.1)))))
   (cond (bu (dx x) []) (some (v,(0,[],()),())) (cond (decide (eh x (J I v.2.1 i)>aH (64-((dx x).length:Int)))) (some (v,(27,[],()),())) (Option.bind (rH (bN (J I v.2.1 i),eh x (J I v.2.1 i),dx x,())) fun v3=>(jS (q+3)).gV v (0,([]:List I.D),()) (0,([]:aF),()) (nw (J I v.2.1 i) v3.1))))) _
 have MY:aA x≠7→dx x=[]→w8 v c x v:=fun bC ag=>⟨r,i,hr,b0,hi,hM,w9 rfl b0 i hi,hm,by omega,.inl ⟨bC,ag,rfl⟩⟩
 by_cases sj:aA x≠7∧dx x=[]
 ·rw [bG sj.1,nq.2 sj.2]
  exact⟨0,v,rfl,rfl,fun _=>MY sj.1 sj.2⟩
 have ahg:cond (!(aA x==7)) (cond (bu (dx x) []) (some (0,(v,c,x,()),())) ((gh (q+3)).cZ (i:Int) (eh x (J I v.2.1 i)) (v,c,x,()))) ((gh (q+3)).cZ (i:Int) (eh x (J I v.2.1 i)) (v,c,x,()))=(gh (q+3)).cZ (i:Int) (eh x (J I v.2.1 i)) (v,c,x,()):=by
  by_cases bC:aA x=7
  ·rw [cB bC];rfl
  ·rw [bG bC]
   have:bu (dx x) []=false:=by rw [← Bool.not_eq_true,nq];exact fun h=>sj ⟨bC,h⟩
   rw [this];rfl
 rw [ahg,ag']
 unfold KO
 show bq v c x (cond (decide (aH (eh x (J I v.2.1 i) +((dx x).length:Int))>64)) _ _) _ _
 have VP:aA x=7→dx x=[]:=fun bC=>hx.Vn.elim id fun h=>by omega
 have ahh:aH (eh x (J I v.2.1 i) +((dx x).length:Int))=((a +(dx x).length:Nat):Int):=by rw [ha,dI (by omega) (by omega)];omega
 rw [ahh]
 by_cases FZ:a +(dx x).length>64
 ·rw [decide_eq_true (by omega)]
  have:cond (aA x==7) (cond (decide (eh x (J I v.2.1 i)>64)) (some (v,((27:Int),([]:aF),()),())) (Option.bind (rH (bN (J I v.2.1 i),eh x (J I v.2.1 i),[],())) fun v1=>Option.bind (dZ v1.1.length 0 (eh x (J I v.2.1 i))) fun v2=>(jS (q+3)).gV v (0,([]:List I.D),()) (0,([]:aF),()) (nw (J I v.2.1 i) (part v1.1 v2.1 (v2.2-v2.1)))))
   (cond (bu (dx x) []) (some (v,(0,[],()),())) (cond (decide (eh x (J I v.2.1 i)>aH (64-((dx x).length:Int)))) (some (v,(27,[],()),())) (Option.bind (rH (bN (J I v.2.1 i),eh x (J I v.2.1 i),dx x,())) fun v3=>(jS (q+3)).gV v (0,([]:List I.D),()) (0,([]:aF),()) (nw (J I v.2.1 i) v3.1))))=some (v,(27,[],()),()):=by
   by_cases bC:aA x=7
   ·have h0:=VP bC
    rw [h0] at FZ
    simp only [List.length_nil] at FZ
    rw [cB bC,decide_eq_true (show eh x (J I v.2.1 i)>64 by omega)];rfl
   ·rw [bG bC]
    have h0:bu (dx x) []=false:=by rw [← Bool.not_eq_true,nq];exact fun h=>sj ⟨bC,h⟩
    rw [h0,show aH (64-((dx x).length:Int))=64-((dx x).length:Int) from dI (by omega) (by omega),decide_eq_true (show eh x (J I v.2.1 i)>64-((dx x).length:Int) by omega)];rfl
  rw [this]
  exact bq.no 27 (by decide) rfl rfl
 rw [decide_eq_false (by omega)]
 simp only [cond_false]
 obtain ⟨w,hw⟩:∃w:af.D,w=(v.1,v.2.1.set i (nw (J I v.2.1 i) (ik x (J I v.2.1 i))),()):=⟨_,rfl⟩
 have hnl:(ik x (J I v.2.1 i)).length≤200:=by
  have hf:∀s n,(kl s n).length=n:=pC
  unfold ik kO
  rw [ha,Int.toNat_natCast]
  split
  ·rename_i bC
   have:eh x (J I v.2.1 i)=bR x:=by unfold eh;rw [if_neg (by omega)]
   rw [hf];omega
  ·rw [List.length_append,List.length_append,hf,List.length_drop];omega
 have hst:an 1000 w.2.1:=by
  rw [hw]
  exact(hv.st.set (k:=200) (i:=i) (y:=nw (J I v.2.1 i) (ik x (J I v.2.1 i))) bJ.1 rfl (fun d ag=>hv.gZ i bJ.1 d ag) (fun ed=>hv.st.bare i bJ.1 ed) (Nat.le_add_right _ _) (by
   show(ik x (J I v.2.1 i)).length≤_
   omega)).mono (by omega)
 have hwr:e_ w.2.1=0→w8 v c x w:=fun hf=>⟨r,i,hr,b0,hi,hM,w9 rfl b0 i hi,hm,by omega,.inr ⟨fun bC h=>sj ⟨bC,h⟩,by omega,hw,hf⟩⟩
 have zQ:∀m,(gh (m+1)).gx (i:Int) (ik x (J I v.2.1 i)) (v,c,x,())=some (e_ w.2.1,(w,c,x,()),()):=by
  intro m
  rw [aha]
  unfold KP
  show Option.bind (aN v.2.1.length (i:Int)) _=_
  rw [bx bJ.1]
  show Option.bind (na (((v.1,v.2.1.set i (nw (J I v.2.1 i) (ik x (J I v.2.1 i))),()),c,x,()),())) (fun v3=>some (v3.1,((v.1,v.2.1.set i (nw (J I v.2.1 i) (ik x (J I v.2.1 i))),()),c,x,()),()))=_
  rw [← hw,zJ w c x hst (by omega)];rfl
 have VQ:∀m,(jS (m+1)).gV v (0,([]:List I.D),()) (0,([]:aF),()) (nw (J I v.2.1 i) (ik x (J I v.2.1 i)))=some (cond (e_ w.2.1==0) w v,(e_ w.2.1,[],()),()):=by
  intro m
  rw [ahc]
  unfold Ju
  rw [uK v hl (fun i hi=>Nat.le_trans (fM hi) cn.cJ)]
  simp only [av]
  rw [FJ v _ hl (show bj v.2.1 (nw (J I v.2.1 i) (ik x (J I v.2.1 i))).1=some i from(show(J I v.2.1 i).1=bp r from bJ.2) ▸ hi),← hw]
  simp only [av]
  rw [zK v w hst (by omega)];rfl
 have ahi:(cond (decide (((bN (J I v.2.1 i)).length:Int) >((kl (bN (J I v.2.1 i)) a++dx x).length:Int)))
   ((dZ (bN (J I v.2.1 i)).length ((kl (bN (J I v.2.1 i)) a++dx x).length:Int) ((bN (J I v.2.1 i)).length:Int)).bind fun v5=>cond (room ((kl (bN (J I v.2.1 i)) a++dx x).length +(part (bN (J I v.2.1 i)) v5.1 (v5.2-v5.1)).length))
    ((gh (q+2)).gx (i:Int) ((kl (bN (J I v.2.1 i)) a++dx x)++part (bN (J I v.2.1 i)) v5.1 (v5.2-v5.1)) (v,c,x,())) none)
   ((gh (q+2)).gx (i:Int) (kl (bN (J I v.2.1 i)) a++dx x) (v,c,x,())))=(gh (q+2)).gx (i:Int) (kO (bN (J I v.2.1 i)) a (dx x)) (v,c,x,()):=by
  have hJ:(kl (bN (J I v.2.1 i)) a++dx x).length=a +(dx x).length:=by rw [List.length_append,pC]
  rw [hJ]
  unfold kO
  by_cases pB:(bN (J I v.2.1 i)).length>a +(dx x).length
  ·rw [decide_eq_true (by omega)]
   simp only [cond_true]
   rw [kn (by omega) (Nat.le_refl _)]
   simp only [av]
   rw [LZ,cE (by rw [List.length_drop];omega)];rfl
  ·rw [decide_eq_false (by omega)]
   simp only [cond_false]
   rw [List.drop_of_length_le (by omega),List.append_nil]
 show bq v c x (Option.bind (aN v.2.1.length (i:Int)) fun v1=>Option.bind (Ef (bN (J I v.2.1 v1),eh x (J I v.2.1 i),())) fun v2=>cond (!(aA x==7)) (cond (room (v2.1.length +(dx x).length)) (Option.bind (aN v.2.1.length (i:Int)) fun v3=>cond (decide (((bN (J I v.2.1 v3)).length:Int) >((v2.1++dx x).length:Int)))
   (Option.bind (aN v.2.1.length (i:Int)) fun v4=>(dZ (bN (J I v.2.1 v4)).length ((v2.1++dx x).length:Int) ((bN (J I v.2.1 v4)).length:Int)).bind fun v5=>cond (room ((v2.1++dx x).length +(part (bN (J I v.2.1 v4)) v5.1 (v5.2-v5.1)).length))
    ((gh (q+2)).gx (i:Int) ((v2.1++dx x)++part (bN (J I v.2.1 v4)) v5.1 (v5.2-v5.1)) (v,c,x,())) none)
   ((gh (q+2)).gx (i:Int) (v2.1++dx x) (v,c,x,()))) none) ((gh (q+2)).gx (i:Int) v2.1 (v,c,x,()))) _ _
 rw [bx bJ.1,ha]
 simp only [av]
 rw [ag6 _ _ (by omega) (by omega)]
 simp only [av]
 rw [cE (by rw [pC];omega)]
 simp only [cond_true]
 rw [ahi]
 by_cases bC:aA x=7
 ·have s':=VP bC
  have hO:ik x (J I v.2.1 i)=kl (bN (J I v.2.1 i)) a:=by
   unfold ik
   rw [if_pos bC]
   have:eh x (J I v.2.1 i)=bR x:=by unfold eh;rw [if_neg (by omega)]
   rw [← this,ha,Int.toNat_natCast]
  rw [cB bC]
  rw [s'] at FZ
  simp only [List.length_nil] at FZ
  rw [decide_eq_false (show ¬((a:Int)>64) by omega)]
  simp only [Bool.not_true,cond_false,cond_true]
  rw [VN _ _ _ (by omega) (by omega) (by simp)]
  simp only [av]
  rw [put_eq]
  show bq v c x _ (Option.bind (dZ (kO (bN (J I v.2.1 i)) a []).length ((0:Nat):Int) (a:Int)) _) _
  rw [kn (by omega) (by unfold kO;rw [List.length_append,List.length_append,pC];omega)]
  simp only [av,Nat.sub_zero]
  have lQ:part (kO (bN (J I v.2.1 i)) a []) 0 a=ik x (J I v.2.1 i):=by
   rw [zt,hO,← ag9,put_eq]
  rw [lQ,← hO,zQ (q+1),VQ (q+2)]
  exact⟨_,_,rfl,rfl,hwr⟩
 ·have hO:ik x (J I v.2.1 i)=kO (bN (J I v.2.1 i)) a (dx x):=by
   unfold ik
   rw [if_neg bC,ha,Int.toNat_natCast]
  rw [bG bC]
  have h0:bu (dx x) []=false:=by rw [← Bool.not_eq_true,nq];exact fun h=>sj ⟨bC,h⟩
  rw [h0,show aH (64-((dx x).length:Int))=64-((dx x).length:Int) from dI (by omega) (by omega),decide_eq_false (show ¬((a:Int)>64-((dx x).length:Int)) by omega)]
  simp only [Bool.not_false,cond_true,cond_false]
  rw [VN _ _ _ (by omega) (by omega) (by omega)]
  simp only [av]
  rw [put_eq,← hO,zQ (q+1),VQ (q+2)]
  exact⟨_,_,rfl,rfl,hwr⟩
theorem VR(l:List aK):bytesOf l=((List.range l.length).map fun i=>(bN (J I l i)).length).sum:=by
 unfold bytesOf
 congr 1
 refine List.ext_getElem (by simp) fun i h1 h2=>?_
 simp only [List.length_map] at h1
 rw [List.getElem_map,List.getElem_map,List.getElem_range,c6 h1]
structure Alike(l l':List aK):Prop where
 len:l'.length=l.length
 id:∀i,(J I l' i).1=(J I l i).1
 fy:∀i,bN (J I l' i)=bN (J I l i)
 cJ:∀i,ak (J I l' i)=ak (J I l i)
theorem Alike.bj{l l':List aK}(h:Alike l l'):kb.bj l'=kb.bj l:=by
 funext id
 unfold kb.bj
 rw [h.len]
 refine Vh fun i _=>?_
 rw [h.id]
theorem Alike.below{l l':List aK}(h:Alike l l'):dK l'=dK l:=by
 have e1:jb l'=jb l:=by
  funext i j s
  unfold jb
  rw [h.bj,h.cJ]
 have e2:ig l'=ig l:=by
  funext i s
  unfold ig
  rw [e1,h.cJ]
 have e3:ff l'=ff l:=by
  funext s
  unfold ff
  rw [e2,h.len]
 funext id
 unfold dK
 rw [h.bj,h.len,e3]
theorem Alike.ahj{l l':List aK}(h:Alike l l')(x bz:aK)(h1:bz.1=x.1)(h2:ej bz=ej x)(h3:dC bz=dC x):hS l' bz=hS l x:=by
 have e1:jc l'=jc l:=by
  funext F
  unfold jc om dl
  rw [h.len]
  congr 2
  funext i
  rw [h.fy]
 have e2:jA l'=jA l:=by
  funext F
  unfold jA om
  rw [h.len]
 unfold hS
 rw [e1,e2,h.below,h1,h2,h3]
theorem Alike.fits{l l':List aK}(h:Alike l l')(hb:∀i,ej (J I l' i)=ej (J I l i))(hi:∀i,dC (J I l' i)=dC (J I l i)):e_ l'=e_ l:=by
 have e1:bytesOf l'=bytesOf l:=by
  rw [VR,VR,h.len]
  congr 2
  funext i
  rw [h.fy]
 have e2:f' l'=f' l:=by
  unfold f'
  rw [h.len]
  congr 2
  funext i
  rw [h.ahj (J I l i) (J I l' i) (h.id i) (hb i) (hi i)]
 unfold e_
 rw [e1,e2]
theorem ahk{l:List aK}{i:Nat}{y:aK}(hi:i<l.length)(h1:y.1=(J I l i).1)(h2:bN y=bN (J I l i))(h3:ak y=ak (J I l i)):Alike l (l.set i y):=by
 refine⟨List.length_set,fun j=>?_,fun j=>?_,fun j=>?_⟩ <;>
  ·rw [iK hi]
   split
   ·rename_i he;subst he;assumption
   ·rfl
def iN(x:aK)(m u g:Int):aK:=(x.1,x.2.1,m,u,g,x.2.2.2.2.2.1,x.2.2.2.2.2.2.1,x.2.2.2.2.2.2.2.1,x.2.2.2.2.2.2.2.2.1,())
theorem VS(x:aK)(m u g:Int):(iN x m u g).1=x.1:=rfl
theorem F2{v:af.D}(hv:bI v){i:Nat}(hi:i<v.2.1.length)(m u g:Int):e_ (v.2.1.set i (iN (J I v.2.1 i) m u g))=0:=by
 have ha:Alike v.2.1 (v.2.1.set i (iN (J I v.2.1 i) m u g)):=ahk hi rfl rfl rfl
 rw [ha.fits (fun j=>by
  rw [iK hi]
  split
  ·rename_i he;subst he;rfl
  ·rfl) (fun j=>by
  rw [iK hi]
  split
  ·rename_i he;subst he;rfl
  ·rfl)]
 unfold e_
 rw [decide_eq_false (by have:=hv.bytes;omega),hv.over];rfl
theorem VT{v:af.D}(hv:bI v){i:Nat}(hi:i<v.2.1.length)(m u g:Int):an 1000 (v.2.1.set i (iN (J I v.2.1 i) m u g)) :=
 (hv.st.set (k:=1) (i:=i) (y:=iN (J I v.2.1 i) m u g) hi rfl (fun d ag=>hv.gZ i hi d ag) (fun hk=>hv.st.bare i hi hk) (Nat.le_add_right _ _) (Nat.le_add_right _ _)).mono (by omega)
def andNot(a b:Int):Int:=cN .andNot .i64 a b
def qN(c:aJ.D)(x:aG.D)(n:aK):Int:=if c.1≠0∧mn c (e9 n)=false then andNot (bR x) 1024 else bR x
theorem zX(m:Nat)(a b d e f g):(gW (m+1)).ee a b d e f g=yM (gW m) a b d e f g:=rfl
theorem MZ(m:Nat)(a b d e f):(gW (m+1)).m3 a b d e f=yN (gW m) a b d e f:=rfl
theorem ahl(m:Nat)(a b d e f g):(gW (m+1)).o7 a b d e f g=Jv (gW m) a b d e f g:=rfl
theorem ahm(m:Nat)(a b d e):(gW (m+1)).fL a b d e=Jw (gW m) a b d e:=rfl
theorem M0{v:af.D}(hv:bI v)(z:af.D)(jq:aV.D){i:Nat}(hi:i<v.2.1.length)(n:aK)(hn:n.1=(J I v.2.1 i).1)(hst:an 1000 (v.2.1.set i n))(m:Nat) :
  (gW (m+1)).fL v z jq n=some (cond (e_ (v.2.1.set i n)==0) (v.1,v.2.1.set i n,()) v,(e_ (v.2.1.set i n),[],()),()):=by
 have cn:=hv.iM
 rw [ahm]
 unfold Jw
 rw [uK v cn.len (fun i hi=>Nat.le_trans (fM hi) cn.cJ)]
 simp only [av]
 rw [FJ v n cn.len (show bj v.2.1 n.1=some i from hn ▸ hv.ga i hi)]
 simp only [av]
 rw [zK v (v.1,v.2.1.set i n,()) hst (by omega)];rfl
structure zY(v:af.D)(c:aJ.D)(x:aG.D)(w:af.D):Prop where
 out:0≤bR x∧bR x≤2047∧∃r i,lB v.2.1 r∧bM r=0∧bj v.2.1 (bp r)=some i∧kindOf (J I v.2.1 i)≠3∧(c.1≠0→c.1=ek (J I v.2.1 i)) ∧
  w=(v.1,v.2.1.set i (iN (J I v.2.1 i) (qN c x (J I v.2.1 i)) (ek (J I v.2.1 i)) (e9 (J I v.2.1 i))),())
theorem ahn(v:af.D)(c:aJ.D)(x:aG.D)(hv:bI v)(hc:df c=true)(hx:ij x)(hk:aA x=15):bq v c x (Ew ((v,c,x,()),())) (rJ (v,c,x,())) (zY v c x):=by
 have cn:=hv.iM
 have hl:v.2.1.length≤1048576:=cn.len
 have au:=hx.path
 obtain ⟨q,hq,hI⟩:=i_ 4
 show bq v c x (Ev (qv aP) (v,c,x,())) (rI (gW aP) v c x) _
 unfold Ev rI
 show bq v c x (Option.bind (eG (bR x,0,2047,())) _) (cond (aA x==15) (Option.bind (eg (bR x,0,2047,())) _) _) _
 rw [cB hk,i',jy]
 simp only [cond_true,av]
 rw [hq,zX]
 unfold yM
 cases hN:c3 (bR x) 0 2047 with
 | false=>exact bq.no 22 (by decide) rfl rfl
 | true =>
 have pA:=dG.1 hN
 simp only [Bool.not_true,cond_false]
 show bq v c x _ (cond (aA x==19) _ _) _
 rw [bG (show aA x≠19 by omega),MZ]
 simp only [cond_false]
 unfold yN
 obtain ⟨r,⟨hr,w9⟩,gk,j0,j1⟩:=si v c x true cn hc (by omega)
 show bq v c x _ (Option.bind (fK (v,c,fx x,true,())) _) _
 rw [gk]
 simp only [av]
 show bq v c x _ (cond (bM r != 0) (some (v,(bM r,[],()),())) _) _
 by_cases b0:bM r=0
 case neg =>
  rw [j0 b0,c0 b0]
  simp only [av]
  rw [c0 b0]
  exact bq.no (bM r) b0 rfl rfl
 obtain ⟨i,hi,eP⟩:=j1 b0
 have bJ:=bX hi
 rw [eP,dH b0]
 simp only [cond_false,av]
 rw [show((0:Int) != 0)=false from rfl]
 simp only [cond_false]
 show bq v c x _ (Option.bind (e7 (v,bp r,())) _) _
 rw [je v _ hl hi,bx bJ.1]
 simp only [av]
 show bq v c x (cond (c.1 != 0) (cond (c.1 != ek (J I v.2.1 i)) (some (1,(v,c,x,()),())) (qv (q+4) (i:Int) (v,c,x,()))) (qv (q+4) (i:Int) (v,c,x,())))
  (cond (aA x==15) (cond (c.1 != 0) (cond (c.1 != ek (J I v.2.1 i)) (some (v,(1,[],()),())) ((gW (q+2)).o7 v c x (0,([]:List I.D),()) (0,([]:aF),()) (J I v.2.1 i))) ((gW (q+2)).o7 v c x (0,([]:List I.D),()) (0,([]:aF),()) (J I v.2.1 i))) _) _
 rw [cB hk]
 simp only [cond_true]
 have hfin:(c.1≠0→c.1=ek (J I v.2.1 i))→bq v c x (qv (q+4) (i:Int) (v,c,x,())) ((gW (q+2)).o7 v c x (0,([]:List I.D),()) (0,([]:aF),()) (J I v.2.1 i)) (zY v c x):=by
  intro hu
  have eP:qv (q+4) (i:Int) (v,c,x,())=some (0,((v.1,v.2.1.set i (iN (J I v.2.1 i) (qN c x (J I v.2.1 i)) (ek (J I v.2.1 i)) (e9 (J I v.2.1 i))),()),c,x,()),()):=by
   rw [qv,KV]
   show Option.bind (aN v.2.1.length (i:Int)) (fun v1=>KU (v,c,x,()) (i:Int) (v.2.1.set v1 (iN (J I v.2.1 v1) (bR x) (ek (J I v.2.1 v1)) (e9 (J I v.2.1 v1)))))=_
   rw [bx bJ.1]
   simp only [av]
   unfold KU qN
   have az:J I (v.2.1.set i (iN (J I v.2.1 i) (bR x) (ek (J I v.2.1 i)) (e9 (J I v.2.1 i)))) i=iN (J I v.2.1 i) (bR x) (ek (J I v.2.1 i)) (e9 (J I v.2.1 i)):=by rw [iK bJ.1,if_pos rfl]
   have fN:aN (v.2.1.set i (iN (J I v.2.1 i) (bR x) (ek (J I v.2.1 i)) (e9 (J I v.2.1 i)))).length (i:Int)=some i:=bx (by rw [List.length_set];exact bJ.1)
   show cond (c.1 != 0) _ _=_
   by_cases h0:c.1=0
   ·rw [dH h0,if_neg (fun h=>h.1 h0)];rfl
   ·rw [c0 h0,fN]
    simp only [cond_true,av]
    rw [az]
    show Option.bind (ur (c,e9 (J I v.2.1 i),())) _=_
    rw [Mn c _ hc]
    simp only [av]
    cases A2:mn c (e9 (J I v.2.1 i)) with
    | true=>rw [if_neg (fun h=>by cases h.2)];rfl
    | false =>
     rw [if_pos ⟨h0,rfl⟩]
     simp only [Bool.not_false,cond_true]
     unfold R6
     rw [List.set_set];rfl
  have dM:(gW (q+2)).o7 v c x (0,([]:List I.D),()) (0,([]:aF),()) (J I v.2.1 i)=(gW (q+1)).fL v (0,([]:List I.D),()) (0,([]:aF),()) (iN (J I v.2.1 i) (qN c x (J I v.2.1 i)) (ek (J I v.2.1 i)) (e9 (J I v.2.1 i))):=by
   rw [ahl]
   unfold Jv qN
   show cond (c.1 != 0) (Option.bind (ts (c,e9 (J I v.2.1 i),())) _) _=_
   by_cases h0:c.1=0
   ·rw [dH h0,if_neg (fun h=>h.1 h0)];rfl
   ·rw [c0 h0,Mm c _ hc]
    simp only [cond_true,av]
    cases A2:mn c (e9 (J I v.2.1 i)) with
    | true=>rw [if_neg (fun h=>by cases h.2)];rfl
    | false=>rw [if_pos ⟨h0,rfl⟩];rfl
  rw [eP,dM,M0 hv _ _ bJ.1 _ (VS _ _ _ _) (VT hv bJ.1 _ _ _),F2 hv bJ.1]
  exact⟨0,_,rfl,rfl,fun _=>⟨pA.1,pA.2,r,i,hr,b0,hi,w9 rfl b0 i hi,hu,rfl⟩⟩
 by_cases h0:c.1=0
 ·rw [dH h0]
  exact hfin fun h=>absurd h0 h
 ·rw [c0 h0]
  simp only [cond_true]
  by_cases hu:c.1=ek (J I v.2.1 i)
  ·rw [dH hu]
   exact hfin fun _=>hu
  ·rw [c0 hu]
   exact bq.no 1 (by decide) rfl rfl
structure zZ(v:af.D)(c:aJ.D)(x:aG.D)(w:af.D):Prop where
 out:(0≤bR x∧bR x≤1000)∧(0≤d' x∧d' x≤1000)∧∃r i,lB v.2.1 r∧bM r=0∧bj v.2.1 (bp r)=some i∧w=(v.1,v.2.1.set i (iN (J I v.2.1 i) (eU (J I v.2.1 i)) (bR x) (d' x)),())
theorem aho(v:af.D)(c:aJ.D)(x:aG.D)(hv:bI v)(hc:df c=true)(hx:ij x)(hk:aA x=16):bq v c x (Ez ((v,c,x,()),())) (rJ (v,c,x,())) (zZ v c x):=by
 have cn:=hv.iM
 have hl:v.2.1.length≤1048576:=cn.len
 have au:=hx.path
 obtain ⟨q,hq,hI⟩:=i_ 4
 show bq v c x (Ey (qw aP) (v,c,x,())) (rI (gW aP) v c x) _
 unfold Ey rI
 show bq v c x (Option.bind (eG (bR x,0,1000,())) fun v1=>cond (!v1.1) _ (Option.bind (eG (d' x,0,1000,())) _)) (cond (aA x==15) _ (cond (aA x==16) (Option.bind (eg (bR x,0,1000,())) fun v2=>cond (!v2.1) _ (Option.bind (eg (d' x,0,1000,())) _)) _)) _
 rw [bG (show aA x≠15 by omega),cB hk]
 simp only [cond_true,cond_false]
 rw [i',jy]
 simp only [av]
 rw [hq]
 cases hN:c3 (bR x) 0 1000 with
 | false =>
  simp only [Bool.not_false,cond_true]
  rw [zX]
  exact bq.no 22 (by decide) rfl rfl
 | true =>
 have pA:=dG.1 hN
 simp only [Bool.not_true,cond_false]
 rw [i',jy]
 simp only [av]
 rw [zX]
 unfold yM
 cases p3:c3 (d' x) 0 1000 with
 | false=>exact bq.no 22 (by decide) rfl rfl
 | true =>
 have M1:=dG.1 p3
 simp only [Bool.not_true,cond_false]
 show bq v c x _ (cond (aA x==19) _ _) _
 rw [bG (show aA x≠19 by omega),MZ]
 simp only [cond_false]
 unfold yN
 obtain ⟨r,⟨hr,w9⟩,gk,j0,j1⟩:=si v c x true cn hc (by omega)
 show bq v c x _ (Option.bind (fK (v,c,fx x,true,())) _) _
 rw [gk]
 simp only [av]
 show bq v c x _ (cond (bM r != 0) (some (v,(bM r,[],()),())) _) _
 by_cases b0:bM r=0
 case neg =>
  rw [j0 b0,c0 b0]
  simp only [av]
  rw [c0 b0]
  exact bq.no (bM r) b0 rfl rfl
 obtain ⟨i,hi,eP⟩:=j1 b0
 have bJ:=bX hi
 rw [eP,dH b0]
 simp only [cond_false,av]
 rw [show((0:Int) != 0)=false from rfl]
 simp only [cond_false]
 show bq v c x _ (Option.bind (e7 (v,bp r,())) _) _
 rw [je v _ hl hi,bx bJ.1]
 simp only [av]
 show bq v c x (cond (c.1 != 0) (cond (c.1 != ek (J I v.2.1 i)) (some (1,(v,c,x,()),())) (cond (bR x != ek (J I v.2.1 i)) (some (1,(v,c,x,()),())) (Option.bind (ur (c,d' x,())) fun v6=>cond (!v6.1) (some (1,(v,c,x,()),())) (qw (q+4) (i:Int) (v,c,x,()))))) (qw (q+4) (i:Int) (v,c,x,())))
  (cond (aA x==15) _ (cond (aA x==16) (cond (c.1 != 0) (cond (c.1 != ek (J I v.2.1 i)) (some (v,(1,[],()),())) (cond (bR x != ek (J I v.2.1 i)) (some (v,(1,[],()),())) (Option.bind (ts (c,d' x,())) fun v3=>cond (!v3.1) (some (v,(1,[],()),())) ((gW (q+2)).fL v (0,([]:List I.D),()) (0,([]:aF),()) (iN (J I v.2.1 i) (eU (J I v.2.1 i)) (bR x) (d' x))))))
   ((gW (q+2)).fL v (0,([]:List I.D),()) (0,([]:aF),()) (iN (J I v.2.1 i) (eU (J I v.2.1 i)) (bR x) (d' x)))) _)) _
 rw [bG (show aA x≠15 by omega),cB hk,Mn c _ hc,Mm c _ hc]
 simp only [cond_true,cond_false,av]
 have hfin:bq v c x (qw (q+4) (i:Int) (v,c,x,())) ((gW (q+2)).fL v (0,([]:List I.D),()) (0,([]:aF),()) (iN (J I v.2.1 i) (eU (J I v.2.1 i)) (bR x) (d' x))) (zZ v c x):=by
  have eP:qw (q+4) (i:Int) (v,c,x,())=some (0,((v.1,v.2.1.set i (iN (J I v.2.1 i) (eU (J I v.2.1 i)) (bR x) (d' x)),()),c,x,()),()):=by
   rw [qw,KX]
   show Option.bind (aN v.2.1.length (i:Int)) (fun v1=>KW (i:Int) (v,c,x,()) (v.2.1.set v1 (iN (J I v.2.1 v1) (eU (J I v.2.1 v1)) (bR x) (e9 (J I v.2.1 v1)))))=_
   rw [bx bJ.1]
   simp only [av]
   unfold KW
   rw [bx (by rw [List.length_set];exact bJ.1)]
   simp only [av]
   unfold R7
   rw [List.set_set,iK bJ.1,if_pos rfl];rfl
  rw [eP,M0 hv _ _ bJ.1 _ (VS _ _ _ _) (VT hv bJ.1 _ _ _),F2 hv bJ.1]
  exact⟨0,_,rfl,rfl,fun _=>⟨pA,M1,r,i,hr,b0,hi,rfl⟩⟩
 by_cases h0:c.1=0
 ·rw [dH h0]
  exact hfin
 ·rw [c0 h0]
  simp only [cond_true]
  by_cases hu:c.1=ek (J I v.2.1 i)
  ·rw [dH hu]
   simp only [cond_false]
   by_cases hn:bR x=ek (J I v.2.1 i)
   ·rw [dH hn]
    simp only [cond_false]
    cases mn c (d' x) with
    | false=>exact bq.no 1 (by decide) rfl rfl
    | true=>exact hfin
   ·rw [c0 hn]
    exact bq.no 1 (by decide) rfl rfl
  ·rw [c0 hu]
   exact bq.no 1 (by decide) rfl rfl
def mv(x:aK)(b k:Int):aK:=(x.1,x.2.1,x.2.2.1,x.2.2.2.1,x.2.2.2.2.1,x.2.2.2.2.2.1,x.2.2.2.2.2.2.1,b,k,())
theorem ahp(x:aK)(b k:Int):(mv x b k).1=x.1:=rfl
structure F3(v:af.D)(c:aJ.D)(x:aG.D)(w:af.D):Prop where
 out:(0≤bR x∧bR x≤400)∧(0≤d' x∧d' x≤24)∧c.1=0∧∃r i,lB v.2.1 r∧bM r=0∧bj v.2.1 (bp r)=some i∧kindOf (J I v.2.1 i)=2∧w=(v.1,v.2.1.set i (mv (J I v.2.1 i) (bR x) (d' x)),())∧e_ w.2.1=0
theorem ahq(v:af.D)(c:aJ.D)(x:aG.D)(hv:bI v)(hc:df c=true)(hx:ij x)(hk:aA x=19):bq v c x (EC ((v,c,x,()),())) (rJ (v,c,x,())) (F3 v c x):=by
 have cn:=hv.iM
 have hl:v.2.1.length≤1048576:=cn.len
 have au:=hx.path
 obtain ⟨q,hq,hI⟩:=i_ 4
 show bq v c x (K0 (v,c,x,())) (rI (gW aP) v c x) _
 unfold K0 rI
 show bq v c x (Option.bind (eG (bR x,0,400,())) fun v1=>cond (!v1.1) _ (Option.bind (eG (d' x,0,24,())) _)) (cond (aA x==15) _ (cond (aA x==16) _ (Option.bind (eg (bR x,0,400,())) fun v2=>cond (!v2.1) _ (Option.bind (eg (d' x,0,24,())) _)))) _
 rw [bG (show aA x≠15 by omega),bG (show aA x≠16 by omega)]
 simp only [cond_true,cond_false]
 rw [i',jy]
 simp only [av]
 rw [hq]
 cases hN:c3 (bR x) 0 400 with
 | false =>
  simp only [Bool.not_false,cond_true]
  rw [zX]
  exact bq.no 22 (by decide) rfl rfl
 | true =>
 have pA:=dG.1 hN
 simp only [Bool.not_true,cond_false]
 rw [i',jy]
 simp only [av]
 rw [zX]
 unfold yM
 cases p3:c3 (d' x) 0 24 with
 | false=>exact bq.no 22 (by decide) rfl rfl
 | true =>
 have M1:=dG.1 p3
 simp only [Bool.not_true,cond_false]
 show bq v c x (cond (c.1 != 0) _ _) (cond (aA x==19) (cond (c.1 != 0) _ _) _) _
 rw [cB hk]
 simp only [cond_true]
 by_cases h0:c.1=0
 case neg =>
  rw [c0 h0]
  exact bq.no 1 (by decide) rfl rfl
 rw [dH h0]
 simp only [cond_false]
 rw [MZ]
 unfold yN
 obtain ⟨r,⟨hr,w9⟩,gk,j0,j1⟩:=si v c x true cn hc (by omega)
 show bq v c x _ (Option.bind (fK (v,c,fx x,true,())) _) _
 rw [gk]
 simp only [av]
 show bq v c x _ (cond (bM r != 0) (some (v,(bM r,[],()),())) _) _
 by_cases b0:bM r=0
 case neg =>
  rw [j0 b0,c0 b0]
  simp only [av]
  rw [c0 b0]
  exact bq.no (bM r) b0 rfl rfl
 obtain ⟨i,hi,eP⟩:=j1 b0
 have bJ:=bX hi
 rw [eP,dH b0]
 simp only [cond_false,av]
 rw [show((0:Int) != 0)=false from rfl]
 simp only [cond_false]
 show bq v c x _ (Option.bind (e7 (v,bp r,())) _) _
 rw [je v _ hl hi,bx bJ.1]
 simp only [av]
 show bq v c x (cond (kindOf (J I v.2.1 i) != 2) (some (20,(v,c,x,()),())) (EB ((i:Int),0,(v,c,x,()),()) (v.2.1.set i (mv (J I v.2.1 i) (bR x) (dC (J I v.2.1 i))))))
  (cond (aA x==15) _ (cond (aA x==16) _ (cond (kindOf (J I v.2.1 i) != 2) (some (v,(20,[],()),())) ((gW (q+2)).fL v (0,([]:List I.D),()) (0,([]:aF),()) (mv (J I v.2.1 i) (bR x) (d' x)))))) _
 rw [bG (show aA x≠15 by omega),bG (show aA x≠16 by omega)]
 simp only [cond_false]
 by_cases hM:kindOf (J I v.2.1 i)=2
 case neg =>
  rw [c0 hM]
  exact bq.no 20 (by decide) rfl rfl
 rw [dH hM]
 simp only [cond_false]
 have hst:an 1000 (v.2.1.set i (mv (J I v.2.1 i) (bR x) (d' x))):=(hv.st.set (k:=1) (i:=i) (y:=mv (J I v.2.1 i) (bR x) (d' x)) bJ.1 rfl (fun d ag=>hv.gZ i bJ.1 d ag) (fun hk=>absurd hM hk) (Nat.le_add_right _ _) (Nat.le_add_right _ _)).mono (by omega)
 have eP:EB ((i:Int),0,(v,c,x,()),()) (v.2.1.set i (mv (J I v.2.1 i) (bR x) (dC (J I v.2.1 i))))=some (e_ (v.2.1.set i (mv (J I v.2.1 i) (bR x) (d' x))),((v.1,v.2.1.set i (mv (J I v.2.1 i) (bR x) (d' x)),()),c,x,()),()):=by
  unfold EB
  rw [bx (by rw [List.length_set];exact bJ.1)]
  simp only [av]
  rw [List.set_set,iK bJ.1,if_pos rfl]
  show KZ ((i:Int),0,(v,c,x,()),()) (v.2.1.set i (mv (J I v.2.1 i) (bR x) (d' x)))=_
  unfold KZ
  show Option.bind (na (((v.1,v.2.1.set i (mv (J I v.2.1 i) (bR x) (d' x)),()),c,x,()),())) _=_
  rw [zJ (v.1,v.2.1.set i (mv (J I v.2.1 i) (bR x) (d' x)),()) c x hst (by omega)];rfl
 rw [eP,M0 hv _ _ bJ.1 _ (ahp _ _ _) hst]
 exact⟨_,_,rfl,rfl,fun h=>⟨pA,M1,h0,r,i,hr,b0,hi,hM,rfl,h⟩⟩
end Go.LM.kb
