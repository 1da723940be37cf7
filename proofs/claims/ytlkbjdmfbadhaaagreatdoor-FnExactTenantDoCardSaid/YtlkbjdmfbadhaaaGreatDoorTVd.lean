/- Calls on volumes: both sides come to the same. Conditions: each theorem's own hypotheses. -/
import Derived.Test.YtlkbjdmfbadhaaaGreatDoorTVc
set_option linter.unusedVariables false
set_option linter.unusedSimpArgs false
namespace Go.LM.jH
theorem ZX{n:Nat}(h:n≤68719476736):n+1<aK:=by unfold aK;omega
theorem yl{α : Type}{l:List α}{k:Nat}(h:k<l.length):l.drop k=l[k] :: l.drop (k+1):=List.drop_eq_getElem_cons h
def pP(y:au.D)(id:aS):Bool:=bB y.1 id
theorem ZY(y:au.D)(id:aS):Eh (y,id,())=some (pP y id,()):=rfl
def wb(id:aS):List au.D→Nat→Int
 | [],_ => -1
 | y :: l,k=>cond (pP y id) (k:Int) (wb id l (k+1))
theorem al9(ys:List au.D)(id:aS)(hn:ys.length≤68719476736):∀(r k m:Nat),k+r=ys.length→r<m →
  xN m ys id (ys.length:Int) (k:Int)=some (wb id (ys.drop k) k,()):=by
 intro r
 induction r with
 | zero =>
  intro k m hk hm
  obtain ⟨m,rfl⟩:∃q,m=q+1:=⟨m-1,by omega⟩
  simp only [xN,Ej]
  rw [b0 (by omega),List.drop_of_length_le (by omega)];rfl
 | succ r ih =>
  intro k m hk hm
  obtain ⟨m,rfl⟩:∃q,m=q+1:=⟨m-1,by omega⟩
  have nK:k<ys.length:=by omega
  simp only [xN,Ej]
  rw [bx nK,ba nK]
  simp only [cond_true,ak]
  rw [ZY,p2 nK,yl nK]
  simp only [ak,wb]
  cases pP ys[k] id
  ·simp only [cond_false]
   rw [de _ (by omega)]
   exact ih (k+1) m (by omega) (by omega)
  ·rfl
theorem ZZ(id:aS):∀(l:List au.D) (k:Nat),(wb id l k = -1∧l.filter (fun y => !pP y id)=l)∨∃j,j<l.length∧wb id l k=((k+j:Nat):Int)∧(l.filter (fun y => !pP y id))=l.take j++(l.drop (j+1)).filter (fun y => !pP y id)
 | [],_=>.inl ⟨rfl,rfl⟩
 | y :: l,k=>by
  rw [List.filter_cons]
  unfold wb
  cases h:pP y id
  ·rcases ZZ id l (k+1) with⟨h1,h2⟩ | ⟨j,h1,h2,h3⟩
   ·exact .inl ⟨by simp only [cond_false];exact h1,by simp [h2]⟩
   ·exact .inr ⟨j+1,by simpa using h1,by simp only [cond_false];rw [h2];congr 1;omega,by simp [h3]⟩
  ·exact .inr ⟨0,by simp,by simp,by simp⟩
theorem al_(ys:List au.D)(id:aS)(hn:ys.length≤68719476736):∀(r j i m:Nat) (xs:List au.D),j+r=ys.length→i≤j→xs.length=ys.length→xs.drop j=ys.drop j→r<m →
  xP m id (i:Int) (j:Int) xs=some (xs.take i++(ys.drop j).filter (fun y => !pP y id),()):=by
 intro r
 induction r with
 | zero =>
  intro j i m xs hj nL hl ah hm
  obtain ⟨m,rfl⟩:∃q,m=q+1:=⟨m-1,by omega⟩
  simp only [xP,Em]
  rw [b0 (by omega),jc (by omega) (Nat.le_refl _)]
  simp only [cond_false,ak,U3,Nat.zero_add]
  generalize ((([]:List UInt8),0,()):au.D)=z
  have hlen:(xs.take i++List.replicate (xs.length-i) z++xs.drop (i +(xs.length-i))).length=xs.length:=by
   simp;omega
  rw [show(0:Int)=((0:Nat):Int) from rfl,jc (Nat.zero_le _) (by rw [hlen];omega)]
  simp only [ak,Nat.sub_zero,Nat.zero_add]
  rw [List.drop_of_length_le (l:=ys) (by omega),List.filter_nil,List.append_nil]
  congr 2
  unfold part
  rw [List.drop_zero,List.append_assoc,List.take_append_of_le_length (by simp;omega),List.take_take]
  simp
 | succ r ih =>
  intro j i m xs hj nL hl ah hm
  obtain ⟨m,rfl⟩:∃q,m=q+1:=⟨m-1,by omega⟩
  have hjl:j<xs.length:=by omega
  have yK:j<ys.length:=by omega
  have he:xs[j]=ys[j]∧xs.drop (j+1)=ys.drop (j+1):=by
   rw [yl hjl,yl yK] at ah
   exact List.cons.inj ah
  simp only [xP,Em]
  rw [bx hjl,ba hjl]
  simp only [cond_true,ak,Nat.zero_add]
  rw [ZY,p2 hjl,he.1,yl yK,List.filter_cons]
  simp only [ak]
  cases hh:pP ys[j] id
  ·simp only [Bool.not_false,cond_true,if_true]
   rw [ba (show i<xs.length by omega)]
   simp only [ak,Nat.zero_add]
   rw [de _ (by omega),de _ (by omega),ih (j+1) (i+1) m (xs.set i ys[j]) (by omega) (by omega) (by simpa using hl) (by rw [List.drop_set_of_lt (by omega)];exact he.2) (by omega)]
   congr 2
   rw [List.take_add_one,List.take_set_of_le (Nat.le_refl _),List.getElem?_set_self (by omega)]
   simp
  ·simp only [Bool.not_true,cond_false,Bool.false_eq_true,if_false]
   rw [de _ (by omega)]
   exact ih (j+1) i m xs (by omega) (by omega) hl he.2 (by omega)
theorem al'(ys:List au.D)(id:aS)(hn:room ys.length=true):En (ys,id,())=some (ys.filter (fun y => !pP y id),()):=by
 have hn:ys.length≤68719476736:=Nat.le_of_ble_eq_true hn
 show El _ ys id=_
 unfold El
 have hi:Me (ys,id,())=some (wb id ys 0,()):=by
  have:=al9 ys id hn ys.length 0 aK (by omega) (by have:=ZX hn;omega)
  rw [List.drop_zero] at this
  exact this
 rw [hi]
 simp only [ak]
 rcases ZZ id ys 0 with⟨h1,h2⟩ | ⟨j,h1,h2,h3⟩
 ·rw [h1,h2];rfl
 ·rw [h2,h3,Nat.zero_add,show((j:Int) == -1)=false from by rw [beq_eq_false_iff_ne];omega]
  simp only [cond_false]
  rw [de _ (by omega)]
  exact al_ ys id hn (ys.length-(j+1)) (j+1) j aK ys (by omega) (by omega) rfl rfl (by have:=ZX hn;omega)
theorem A6(v:af.D)(c:aP.D)(x:aN.D)(path:aS)(b3:Bool)(hw:rh v.2.1)(hc:dY c=true)(av:path.length≤1048576) :
  ∃r,sQ b3 v.2.1 r∧kP ((v,c,x,()),path,b3,())=some (r,())∧eT (v,c,path,b3,())=some (r,()):=by
 cases hk:sO path with
 | false =>
  refine⟨((0:Int),([]:aS),(0:Int),(22:Int),()),yg b3 _ (by decide) 0 0 (.inr trivial),?_,?_⟩
  ·show qz (v,c,x,()) path b3=_
   unfold qz
   rw [Ia _ (by omega),hk];rfl
  ·show vu v c path b3=_
   unfold vu
   rw [A1,hk];rfl
 | true =>
  obtain ⟨r,bw,b9,gd⟩:=ZW v c path b3 hw hc hk
  refine⟨r,bw,?_,?_⟩
  ·show qz (v,c,x,()) path b3=_
   unfold qz
   rw [Ia _ (by omega),hk]
   simp only [ak,Bool.not_true,cond_false]
   rw [b9];rfl
  ·show vu v c path b3=_
   unfold vu
   rw [A1,hk]
   simp only [ak,Bool.not_true,cond_false]
   rw [gd];rfl
theorem nz{s:aS} : bB s []=true↔s=[]:=by unfold bB;simp
theorem Z1(v:af.D)(c:aP.D)(x:aN.D)(path:aS)(hw:rh v.2.1)(hc:dY c=true)(av:path.length≤1048576) :
  ∃r ei code,uZ ((v,c,x,()),path,())=some (r,code,())∧vq (v,c,path,())=some (ei,code,())∧(code=0→ei=r∧lK v.2.1 r∧bH r=2∧nameOf r≠[]∧eT (v,c,path,false,())=some (r,())):=by
 cases hk:sO path with
 | false =>
  refine⟨((0:Int),([]:aS),(0:Int),(22:Int),()),((0:Int),([]:aS),(0:Int),(0:Int),()),22,?_,?_,fun h=>by cases h⟩
  ·show zP (v,c,x,()) path=_
   unfold zP
   have:kP ((v,c,x,()),path,false,())=some (((0:Int),([]:aS),(0:Int),(22:Int),()),()):=by
    show qz (v,c,x,()) path false=_
    unfold qz
    rw [Ia _ (by omega),hk];rfl
   rw [this];rfl
  ·show Ao v c path=_
   unfold Ao
   rw [A1,hk];rfl
 | true =>
  obtain ⟨r,bw,b9,gd⟩:=ZW v c path false hw hc hk
  have eQ:uZ ((v,c,x,()),path,())=cond (bH r==2) (cond (!(bB (nameOf r) [])) (some (r,0,())) (cond (bH r==0) (some (r,17,())) (some (r,bH r,())))) (cond (bH r==0) (some (r,17,())) (some (r,bH r,()))):=by
   show zP (v,c,x,()) path=_
   unfold zP
   have:kP ((v,c,x,()),path,false,())=some (r,()):=by
    show qz (v,c,x,()) path false=_
    unfold qz
    rw [Ia _ (by omega),hk]
    simp only [ak,Bool.not_true,cond_false]
    rw [b9];rfl
   rw [this];rfl
  have ef:vq (v,c,path,())=cond (bH r==0) (some (r,17,())) (cond (bH r==2) (cond (!(bB (nameOf r) [])) (some (r,0,())) (some (r,bH r,()))) (some (r,bH r,()))):=by
   show Ao v c path=_
   unfold Ao
   rw [A1,hk]
   simp only [ak,Bool.not_true,cond_false]
   rw [gd];rfl
  rw [eQ,ef]
  by_cases h0:bH r=0
  ·rw [cA h0,bV (show bH r≠2 by omega)]
   exact⟨r,r,17,rfl,rfl,fun h=>by cases h⟩
  ·rw [bV h0]
   by_cases h2:bH r=2
   ·rw [cA h2]
    cases hn:bB (nameOf r) [] with
    | true=>exact⟨r,r,bH r,rfl,rfl,fun h=>absurd h h0⟩
    | false=>exact⟨r,r,0,rfl,rfl,fun _=>⟨rfl,bw.1,h2,fun h=>(by rw [nz.2 h] at hn;cases hn),by
     show vu v c path false=_
     unfold vu
     rw [A1,hk]
     simp only [ak,Bool.not_true,cond_false]
     rw [gd];rfl⟩⟩
   ·rw [bV h2]
    exact⟨r,r,bH r,rfl,rfl,fun h=>absurd h h0⟩
def cT(x:a6)(N:List au.D):a6:=(x.1,x.2.1,x.2.2.1,x.2.2.2.1,x.2.2.2.2.1,x.2.2.2.2.2.1,N,x.2.2.2.2.2.2.2.1,x.2.2.2.2.2.2.2.2.1,())
def dZ(s:aS)(d:au.D):Bool:=dv d.1 s
def ins(N:List au.D)(s:aS)(id:Int):List au.D:=N.takeWhile (dZ s)++[(s,id,())]++N.dropWhile (dZ s)
theorem Qb{α : Type}(p : α → Bool)(l:List α):l.take (l.takeWhile p).length=l.takeWhile p:=by
 have:=List.take_left' (l₁:=l.takeWhile p) (l₂:=l.dropWhile p) rfl
 rwa [List.takeWhile_append_dropWhile] at this
theorem Io{α : Type}(p : α → Bool)(l:List α):l.drop (l.takeWhile p).length=l.dropWhile p:=by
 have:=List.drop_left' (l₁:=l.takeWhile p) (l₂:=l.dropWhile p) rfl
 rwa [List.takeWhile_append_dropWhile] at this
theorem Z2{α : Type}{p : α → Bool}{x : α} : ∀ {l:List α},x∈l.takeWhile p→p x=true
 | [],h=>by simp at h
 | y :: l,h=>by
  rw [List.takeWhile_cons] at h
  cases a_:p y
  ·rw [a_] at h;simp at h
  ·rw [a_] at h
   simp only [if_true,List.mem_cons] at h
   rcases h with rfl | h
   ·exact a_
   ·exact Z2 h
theorem Z3{α : Type}{p : α → Bool}{x : α}{r:List α} : ∀ {l:List α},l.dropWhile p=x :: r→p x=false
 | [],h=>by simp at h
 | y :: l,h=>by
  rw [List.dropWhile_cons] at h
  cases a_:p y
  ·rw [a_] at h
   simp only [Bool.false_eq_true,if_false] at h
   injection h with h1 h2
   rw [← h1];exact a_
  ·rw [a_] at h
   simp only [if_true] at h
   exact Z3 h
theorem Qc{α : Type}(p : α → Bool)(l:List α):(l.takeWhile p).length≤l.length:=by
 have:=congrArg List.length (List.takeWhile_append_dropWhile (p:=p) (l:=l))
 rw [List.length_append] at this;omega
theorem A7(N:List au.D)(s:aS)(id:Int):(ins N s id).length=N.length+1:=by
 have:=congrArg List.length (List.takeWhile_append_dropWhile (p:=dZ s) (l:=N))
 rw [List.length_append] at this
 unfold ins
 simp only [List.length_append,List.length_cons,List.length_nil];omega
theorem Z4{N:List au.D}{s:aS} : ∀ {j:Nat},j<(N.takeWhile (dZ s)).length→dv (J au N j).1 s=true:=by
 intro j hj
 have Ip:j<N.length:=Nat.lt_of_lt_of_le hj (Qc _ _)
 have h1:(N.takeWhile (dZ s))[j]∈N.takeWhile (dZ s):=List.getElem_mem hj
 have h2:=Z2 h1
 have e:(N.takeWhile (dZ s))[j]=J au N j:=by
  rw [di Ip]
  have:=List.takeWhile_append_dropWhile (p:=dZ s) (l:=N)
  have h3:(N.takeWhile (dZ s)++N.dropWhile (dZ s))[j]?=N[j]?:=by rw [this]
  rw [List.getElem?_append_left hj,List.getElem?_eq_getElem hj,List.getElem?_eq_getElem Ip] at h3
  exact aX h3
 rw [e] at h2
 exact h2
theorem Z5{N:List au.D}{s:aS}(h:(N.takeWhile (dZ s)).length<N.length):dv (J au N (N.takeWhile (dZ s)).length).1 s=false:=by
 have h1:=Io (dZ s) N
 have h2:=yl h
 rw [h1] at h2
 rw [di h]
 exact Z3 (p:=dZ s) h2
theorem Qd(v:af.D)(c:aP.D)(x:aN.D)(dir:Int)(s:aS)(id:Int)(hl:v.2.1.length≤1048576){i:Nat}(h:bG v.2.1 dir=some i)(hn:(ax (J I v.2.1 i)).length≤1048576) :
  sf ((v,c,x,()),dir,s,id,())=some (((v.1,v.2.1.set i (cT (J I v.2.1 i) (ins (ax (J I v.2.1 i)) s id)),()),c,x,()),()):=by
 show Ef (se aK) (v,c,x,()) dir s id=_
 unfold Ef
 rw [P2 v dir hl,h]
 simp only [ak,hY]
 obtain ⟨hi,cd⟩:=cq h
 generalize hN:ax (J I v.2.1 i)=N at hn
 have cm:=Qc (dZ s) N
 have oe:∀m,(se (m+1)).bf s id (i:Int) ((N.takeWhile (dZ s)).length:Int) (v,c,x,())=some (((v.1,v.2.1.set i (cT (J I v.2.1 i) (ins N s id)),()),c,x,()),()):=by
  intro m
  show L' (se m) s id (i:Int) ((N.takeWhile (dZ s)).length:Int) (v,c,x,())=_
  unfold L'
  rw [ba hi]
  simp only [ak,Nat.beq_refl,cond_true]
  show Option.bind (insF (ax (J I v.2.1 i)) ((N.takeWhile (dZ s)).length:Int) [(s,id,())]) _=_
  rw [hN]
  unfold insF
  rw [if_pos ⟨Int.natCast_nonneg _,Int.ofNat_le.2 cm,rfl,by omega⟩]
  simp only [ak,Int.toNat_natCast]
  rw [Qb,Io]
  rfl
 have pQ:=oB 1 (fun m j=>(se m).k2 s id (i:Int) (j:Int) (v,c,x,())) (some (((v.1,v.2.1.set i (cT (J I v.2.1 i) (ins N s id)),()),c,x,()),())) (N.takeWhile (dZ s)).length 2 (fun j hj B y he=>he.step fun m=>by
  show zQ (se m) s id (i:Int) (j:Int) (v,c,x,())=_
  unfold zQ
  rw [ba hi]
  simp only [ak]
  show cond (decide ((j:Int)<((ax (J I v.2.1 i)).length:Int))) ((aL (ax (J I v.2.1 i)).length (j:Int)).bind fun v3=>cond (dv (J au (ax (J I v.2.1 i)) v3).1 s) _ _) _=_
  rw [hN,bx (by omega),ba (by omega)]
  simp only [cond_true,ak]
  rw [Z4 hj,de j (by omega)];rfl) (b1.now 2 fun m=>by
  show zQ (se (m+1)) s id (i:Int) ((N.takeWhile (dZ s)).length:Int) (v,c,x,())=_
  unfold zQ
  rw [ba hi]
  simp only [ak]
  show cond (decide (((N.takeWhile (dZ s)).length:Int)<((ax (J I v.2.1 i)).length:Int))) ((aL (ax (J I v.2.1 i)).length ((N.takeWhile (dZ s)).length:Int)).bind fun v3=>cond (dv (J au (ax (J I v.2.1 i)) v3).1 s) _ _) _=_
  rw [hN]
  rcases Nat.lt_or_ge (N.takeWhile (dZ s)).length N.length with h1 | h1
  ·rw [bx h1,ba h1]
   simp only [cond_true,ak]
   rw [Z5 h1]
   exact oe m
  ·rw [b0 h1]
   exact oe m)
 exact kV pQ (by omega)
def c5(N:List au.D)(s:aS):List au.D:=N.filter fun d => !bB d.1 s
def goN(l:List a6)(id:Int):List a6:=cond (decide (eE l id=0)) (l.filter fun y => !(y.1==id)) l
theorem Iq{l:List a6}{i:Nat}{y:a6}(hi:i<l.length):dt (l.set i y) +(ax (J I l i)).length=dt l +(ax y).length:=by
 unfold dt
 induction l generalizing i with
 | nil=>simp at hi
 | cons z l ih =>
  cases i with
  | zero=>simp only [List.set_cons_zero,List.map_cons,List.sum_cons];show _ +(ax z).length=_;omega
  | succ i =>
   have:=ih (i:=i) (by simpa using hi)
   simp only [List.set_cons_succ,List.map_cons,List.sum_cons]
   show _ +(ax (J I l i)).length=_
   omega
theorem mA(x:a6)(N:List au.D):ax (cT x N)=N:=rfl
theorem A8(N:List au.D)(s:aS):(c5 N s).length≤N.length:=List.length_filter_le _ _
theorem Qe(v:af.D)(c:aP.D)(x:aN.D)(dir:Int)(s:aS)(goes:Bool)(hl:v.2.1.length≤1048576)(hm:dt v.2.1≤1048576){i:Nat}(h:bG v.2.1 dir=some i) :
  oh ((v,c,x,()),dir,s,goes,())=some (((v.1,cond goes (goN (v.2.1.set i (cT (J I v.2.1 i) (c5 (ax (J I v.2.1 i)) s))) (ee (ax (J I v.2.1 i)) s)) (v.2.1.set i (cT (J I v.2.1 i) (c5 (ax (J I v.2.1 i)) s))),()),c,x,()),()):=by
 show Mg (v,c,x,()) dir s goes=_
 unfold Mg
 rw [P2 v dir hl,h]
 simp only [ak,hY]
 obtain ⟨hi,cd⟩:=cq h
 have hn:=Nat.le_trans (fZ hi) hm
 rw [ba hi]
 simp only [ak,Nat.beq_refl,cond_true]
 rw [Zu _ _ hn]
 simp only [ak]
 show Option.bind (En (ax (J I v.2.1 i),s,())) _=_
 rw [al' _ _ (ck (by omega))]
 simp only [ak]
 show Mf goes ((i:Int),v,()) (ee (ax (J I v.2.1 i)) s,()) (v,c,x,()) (v.2.1.set i (cT (J I v.2.1 i) (c5 (ax (J I v.2.1 i)) s)))=_
 have mu:(v.2.1.set i (cT (J I v.2.1 i) (c5 (ax (J I v.2.1 i)) s))).length≤1048576:=by rw [List.length_set];exact hl
 have sS:dt (v.2.1.set i (cT (J I v.2.1 i) (c5 (ax (J I v.2.1 i)) s)))≤1048576:=by
  have:=Iq (l:=v.2.1) (y:=cT (J I v.2.1 i) (c5 (ax (J I v.2.1 i)) s)) hi
  rw [mA] at this
  have:=A8 (ax (J I v.2.1 i)) s
  omega
 generalize v.2.1.set i (cT (J I v.2.1 i) (c5 (ax (J I v.2.1 i)) s))=l at mu sS
 generalize ee (ax (J I v.2.1 i)) s=id
 unfold Mf
 cases goes
 ·rfl
 ·simp only [cond_true]
  show Option.bind (xI (((v.1,l,()):af.D),id,())) _=_
  rw [HV (v.1,l,()) id mu sS]
  simp only [ak]
  unfold goN
  by_cases h0:eE l id=0
  ·rw [show(((eE l id:Nat):Int)==0)=true by rw [h0];rfl,decide_eq_true h0]
   simp only [cond_true]
   show Option.bind (cond (room l.length) _ none) _=_
   rw [ck (by omega)];rfl
  ·rw [show(((eE l id:Nat):Int)==0)=false by rw [beq_eq_false_iff_ne];omega,decide_eq_false h0];rfl
theorem Ir(v:af.D)(n:a6)(hl:v.2.1.length≤1048576){i:Nat}(h:bG v.2.1 n.1=some i):om (v,n,())=some ((v.1,v.2.1.set i n,()),()):=by
 show Ap v n=_
 unfold Ap
 rw [ow v _ hl,h]
 simp only [ak]
 rw [show decide (hY (some i)<0)=false from AP]
 simp only [cond_false,hY]
 rw [ba (cq h).1]
 simp only [ak,Nat.zero_add]
theorem ama(v:af.D)(n:a6)(hl:v.2.1.length≤1048576)(h:bG v.2.1 n.1=none):om (v,n,())=some ((v.1,v.2.1++[n],()),()):=by
 show Ap v n=_
 unfold Ap
 rw [ow v _ hl,h]
 simp only [ak,AP,Option.isNone_none,cond_true]
 rw [ck (by simp;omega)];rfl
theorem Qf(v:af.D)(dir:Int)(s:aS)(id:Int)(hl:v.2.1.length≤1048576){i:Nat}(h:bG v.2.1 dir=some i)(hn:(ax (J I v.2.1 i)).length≤1048576)(hs:∀d,d∈ax (J I v.2.1 i)→d.1≠s) :
  sq (v,dir,s,id,())=some ((v.1,v.2.1.set i (cT (J I v.2.1 i) (ins (ax (J I v.2.1 i)) s id)),()),()):=by
 show F5 (il aK) v dir s id=_
 unfold F5
 rw [jr v dir hl h]
 simp only [ak]
 obtain ⟨hi,cd⟩:=cq h
 generalize hN:ax (J I v.2.1 i)=N at hn hs
 have cm:=Qc (dZ s) N
 have hw:bG v.2.1 (cT (J I v.2.1 i) (ins N s id)).1=some i:=by rw [show(cT (J I v.2.1 i) (ins N s id)).1=dir from cd];exact h
 have Z6:∀m,(il (m+1)).mi v (0,([]:List I.D),()) (J I v.2.1 i) (ins N s id)=some ((v.1,v.2.1.set i (cT (J I v.2.1 i) (ins N s id)),()),()):=by
  intro m
  show Ng (il m) v (0,([]:List I.D),()) (J I v.2.1 i) (ins N s id)=_
  unfold Ng
  show Option.bind (om (v,cT (J I v.2.1 i) (ins N s id),())) _=_
  rw [Ir v _ hl hw];rfl
 have amb:∀(r j:Nat) (acc:List au.D),j+r=N.length→acc++N.drop j=ins N s id→acc.length≤j+1→b1 (fun m=>(il m).bm s id true (j:Int) v (0,([]:List I.D),()) (J I v.2.1 i) acc) (2*r+2) (some ((v.1,v.2.1.set i (cT (J I v.2.1 i) (ins N s id)),()),())):=by
  intro r
  induction r with
  | zero =>
   intro j acc hj he ha
   refine b1.now 2 fun m=>?_
   show oo (il (m+1)) s id true (j:Int) v (0,([]:List I.D),()) (J I v.2.1 i) acc=_
   unfold oo
   show cond (decide ((j:Int)<((ax (J I v.2.1 i)).length:Int))) _ _=_
   rw [hN,b0 (by omega)]
   rw [List.drop_of_length_le (by omega),List.append_nil] at he
   rw [he]
   exact Z6 m
  | succ r ih =>
   intro j acc hj he ha
   have hjl:j<N.length:=by omega
   have:=ih (j+1) (acc++[J au N j]) (by omega) (by rw [List.append_assoc,List.singleton_append,← drop_cons (t:=au) hjl];exact he) (by simp;omega)
   refine(this.jump (f:=fun m=>(il m).bm s id true (j:Int) v (0,([]:List I.D),()) (J I v.2.1 i) acc) 2 fun m=>?_).mono (by omega)
   show oo (il (m+1)) s id true (j:Int) v (0,([]:List I.D),()) (J I v.2.1 i) acc=_
   unfold oo
   show cond (decide ((j:Int)<((ax (J I v.2.1 i)).length:Int))) _ _=_
   rw [hN,bx hjl]
   simp only [cond_true,Bool.not_true,cond_false]
   show vr (il m) s id true (j:Int) v (0,([]:List I.D),()) (J I v.2.1 i) acc=_
   unfold vr
   show Option.bind (aL (ax (J I v.2.1 i)).length (j:Int)) (fun v1=>cond (room (acc.length+1)) ((il m).bm s id true (ay ((j:Int)+1)) v (0,([]:List I.D),()) (J I v.2.1 i) (acc++[J au (ax (J I v.2.1 i)) v1])) none)=_
   rw [hN,ba hjl]
   simp only [ak]
   rw [ck (by omega),de j (by omega)];rfl
 have pQ:=oB 2 (fun m j=>(il m).bm s id false (j:Int) v (0,([]:List I.D),()) (J I v.2.1 i) (N.take j)) (some ((v.1,v.2.1.set i (cT (J I v.2.1 i) (ins N s id)),()),())) (N.takeWhile (dZ s)).length (2*N.length+8) (fun j hj B y he=>(he.jump (f:=fun m=>(il m).bm s id false (j:Int) v (0,([]:List I.D),()) (J I v.2.1 i) (N.take j)) 2 fun m=>by
  have hjl:j<N.length:=by omega
  show oo (il (m+1)) s id false (j:Int) v (0,([]:List I.D),()) (J I v.2.1 i) (N.take j)=_
  unfold oo
  show cond (decide ((j:Int)<((ax (J I v.2.1 i)).length:Int))) (cond (!false) ((aL (ax (J I v.2.1 i)).length (j:Int)).bind fun v1=>cond (dv s (J au (ax (J I v.2.1 i)) v1).1) _ _) _) _=_
  rw [hN,bx hjl,ba hjl]
  simp only [cond_true,Bool.not_false,ak]
  rw [ZI (Z4 hj)]
  simp only [cond_false]
  show vr (il m) s id false (j:Int) v (0,([]:List I.D),()) (J I v.2.1 i) (N.take j)=_
  unfold vr
  show Option.bind (aL (ax (J I v.2.1 i)).length (j:Int)) (fun v1=>cond (room ((N.take j).length+1)) ((il m).bm s id false (ay ((j:Int)+1)) v (0,([]:List I.D),()) (J I v.2.1 i) (N.take j++[J au (ax (J I v.2.1 i)) v1])) none)=_
  rw [hN,ba hjl]
  simp only [ak]
  rw [ck (by rw [List.length_take];omega),de j (by omega),di hjl,← List.take_succ_eq_append_getElem hjl];rfl)) (by
  rcases Nat.lt_or_ge (N.takeWhile (dZ s)).length N.length with h1 | h1
  ·
   generalize hj:(N.takeWhile (dZ s)).length=j at h1 cm
   have rk:N.take j++[(s,id,())]++N.drop j=ins N s id:=by rw [← hj,Qb,Io];rfl
   have bY:dv s (J au N j).1=true:=by
    have:=Z5 (N:=N) (s:=s) (by omega)
    rw [hj] at this
    rw [P7 (hs _ (gX h1)),this];rfl
   have:=amb (N.length-(j+1)) (j+1) (N.take j++[(s,id,())]++[J au N j]) (by omega) (by rw [List.append_assoc _ [J au N j],List.singleton_append,← drop_cons (t:=au) h1];exact rk) (by simp;omega)
   refine(this.jump (f:=fun m=>(il m).bm s id false (j:Int) v (0,([]:List I.D),()) (J I v.2.1 i) (N.take j)) 2 fun m=>?_).mono (by omega)
   show oo (il (m+1)) s id false (j:Int) v (0,([]:List I.D),()) (J I v.2.1 i) (N.take j)=_
   unfold oo
   show cond (decide ((j:Int)<((ax (J I v.2.1 i)).length:Int))) (cond (!false) ((aL (ax (J I v.2.1 i)).length (j:Int)).bind fun v1=>cond (dv s (J au (ax (J I v.2.1 i)) v1).1) _ _) _) _=_
   rw [hN,bx h1,ba h1]
   simp only [cond_true,Bool.not_false,ak]
   rw [bY]
   simp only [cond_true]
   rw [ck (by simp;omega)]
   simp only [cond_true]
   show vr (il m) s id true (j:Int) v (0,([]:List I.D),()) (J I v.2.1 i) (N.take j++[(s,id,())])=_
   unfold vr
   show Option.bind (aL (ax (J I v.2.1 i)).length (j:Int)) (fun v1=>cond (room ((N.take j++[(s,id,())]).length+1)) ((il m).bm s id true (ay ((j:Int)+1)) v (0,([]:List I.D),()) (J I v.2.1 i) ((N.take j++[(s,id,())])++[J au (ax (J I v.2.1 i)) v1])) none)=_
   rw [hN,ba h1]
   simp only [ak]
   rw [ck (by simp;omega),de j (by omega)];rfl
  ·
   have hj:(N.takeWhile (dZ s)).length=N.length:=by omega
   have rk:N++[(s,id,())]=ins N s id:=by
    unfold ins
    rw [← Io,← Qb,hj,List.take_length,List.drop_length,List.append_nil]
   rw [hj,List.take_length]
   refine(b1.now 2 fun m=>?_).mono (by omega)
   show oo (il (m+1)) s id false (N.length:Int) v (0,([]:List I.D),()) (J I v.2.1 i) N=_
   unfold oo
   show cond (decide ((N.length:Int)<((ax (J I v.2.1 i)).length:Int))) _ _=_
   rw [hN,b0 (Nat.le_refl _)]
   simp only [cond_false,Bool.not_false,cond_true]
   rw [ck (by simp;omega),rk]
   exact Z6 m)
 exact kV pQ (by omega)
theorem kB{l:List a6}{i j:Nat}{y:a6}(hi:i<l.length):J I (l.set i y) j=if i=j then y else J I l j:=by
 by_cases hj:j<l.length
 ·rw [di (by rw [List.length_set];exact hj),di hj,List.getElem_set]
 ·rw [if_neg (by omega)]
  unfold J
  rw [List.getD_eq_getElem?_getD,List.getD_eq_getElem?_getD,List.getElem?_eq_none (by rw [List.length_set];omega),List.getElem?_eq_none (by omega)]
theorem Z7{n:Nat}{P Q:Nat→Bool}(h:∀i,i<n→P i=Q i):e9 n P=e9 n Q:=by
 cases hq:e9 n Q with
 | none=>exact lH.2 fun i hi=>by rw [h i hi];exact lH.1 hq i hi
 | some k =>
  obtain ⟨h1,h2,h3⟩:=hW.1 hq
  exact hW.2 ⟨h1,by rw [h k h1];exact h2,fun j hj=>by rw [h j (by omega)];exact h3 j hj⟩
theorem Qg{l:List a6}{i:Nat}{y:a6}(hi:i<l.length)(a_:y.1=(J I l i).1)(id:Int):bG (l.set i y) id=bG l id:=by
 unfold bG
 rw [List.length_set]
 refine Z7 fun j hj=>?_
 rw [kB hi]
 split
 ·rename_i h;rw [a_,h]
 ·rfl
def Is(l:List a6):Prop:=l.Pairwise fun a b=>fw a≠fw b
theorem It{l:List a6} : ox l↔Is l:=by
 unfold Is
 rw [List.pairwise_iff_getElem]
 constructor
 ·intro h i j hi hj nL he
  have h1:=h i hi
  have h2:=h j hj
  rw [di hi] at h1
  rw [di hj] at h2
  have:(l[i]).1=(l[j]).1:=he
  rw [this,h2] at h1
  have:=aX h1
  omega
 ·intro h x hx
  unfold bG
  rw [hW]
  refine⟨hx,by simp,fun j hj=>?_⟩
  rw [beq_eq_false_iff_ne,di hx,di (i:=j) (by omega)]
  exact h j x (by omega) hx hj
theorem wc{l:List a6}{id:Int} :(bG l id).isSome=true↔∃x,x∈l∧x.1=id:=by
 constructor
 ·intro h
  obtain ⟨i,hi⟩:=Option.isSome_iff_exists.1 h
  obtain ⟨h1,h2⟩:=cq hi
  exact⟨_,gX h1,h2⟩
 ·rintro ⟨x,hx,he⟩
  obtain ⟨i,hi,aD⟩:=jL hx
  cases h:bG l id with
  | some k=>rfl
  | none =>
   have:=lH.1 h i hi
   rw [aD,he] at this
   simp at this
theorem amc{l:List a6}{n:a6}{id:Int}{i:Nat}(h:bG l id=some i):bG (l++[n]) id=some i:=by
 obtain ⟨h1,h2,h3⟩:=hW.1 h
 have aD:∀j,j<l.length→J I (l++[n]) j=J I l j:=fun j hj=>by rw [di (by simp;omega),di hj,List.getElem_append_left hj]
 exact hW.2 ⟨by simp;omega,by rw [aD i h1];exact h2,fun j hj=>by rw [aD j (by omega)];exact h3 j hj⟩
theorem Qh{l:List a6}{n:a6}{j:Nat}(hj:j<l.length):J I (l++[n]) j=J I l j:=by rw [di (by simp;omega),di hj,List.getElem_append_left hj]
theorem Z8{l:List a6}{n y:a6}{i:Nat}(hi:i<l.length):(l++[n]).set i y=l.set i y++[n]:=by rw [List.set_append_left _ _ hi]
theorem Z9{l:List a6}{id:Int}(h:eE l id=0):∀x,x∈l→∀d,d∈ax x→d.2.1≠id:=by
 intro x hx d ah he
 have h1:gW (ax x) id≤eE l id:=by
  unfold eE
  exact H7 (f:=fun x=>gW (ax x) id) hx
 have h2:d∈(ax x).filter fun d=>d.2.1==id:=List.mem_filter.2 ⟨ah,by simpa using he⟩
 have h3:0<gW (ax x) id:=List.length_pos_of_mem h2
 omega
theorem amd{l:List a6}{i:Nat}{y:a6}(hi:i<l.length):bytesOf (l.set i y) +(bS (J I l i)).length=bytesOf l +(bS y).length:=by
 unfold bytesOf
 induction l generalizing i with
 | nil=>simp at hi
 | cons z l ih =>
  cases i with
  | zero=>simp only [List.set_cons_zero,List.map_cons,List.sum_cons];show _ +(bS z).length=_;omega
  | succ i =>
   have:=ih (i:=i) (by simpa using hi)
   simp only [List.set_cons_succ,List.map_cons,List.sum_cons]
   show _ +(bS (J I l i)).length=_
   omega
theorem Qi{α : Type}(f : α → Nat)(p : α → Bool):∀l:List α,((l.filter p).map f).sum≤(l.map f).sum
 | []=>Nat.le_refl _
 | x :: l=>by
  have:=Qi f p l
  rw [List.filter_cons]
  split
  ·simp only [List.map_cons,List.sum_cons];omega
  ·simp only [List.map_cons,List.sum_cons];omega
structure al(B:Nat)(l:List a6):Prop where
 len:l.length≤B
 db:dt l≤B
 bytes:bytesOf l≤B
 iv:ox l
 iV:sM l
 bare:∀i,i<l.length→kindOf (J I l i)≠2→fJ (J I l i)=0∧ff (J I l i)=0∧ax (J I l i)=[]
theorem al.mono{B jZ:Nat}{l:List a6}(h:al B l)(hb:B≤jZ):al jZ l:=⟨Nat.le_trans h.len hb,Nat.le_trans h.db hb,Nat.le_trans h.bytes hb,h.iv,h.iV,h.bare⟩
theorem cG.db{v:af.D}(h:cG v):dt v.2.1≤288:=by
 have key:∀l:List a6,(∀x,x∈l→(ax x).length≤12)→dt l≤l.length*12:=by
  intro l
  induction l with
  | nil=>intro _;exact Nat.le_refl _
  | cons x l ih =>
   intro hx
   have h1:=hx x List.mem_cons_self
   have h2:=ih fun y a_=>hx y (List.mem_cons_of_mem _ a_)
   show(ax x).length+dt l≤(l.length+1)*12
   omega
 have:=key v.2.1 fun x hx=>by
  obtain ⟨i,hi,he⟩:=jL hx
  have h1:=h.ino i hi
  rw [he] at h1
  by_cases hk:kindOf x=2
  ·exact(h1.dir hk).2.2.2
  ·rw [(h1.plain hk).2.2];simp
 have:=h.len
 omega
theorem cG.st{v:af.D}(h:cG v):al 400 v.2.1 :=
 ⟨by have:=h.len;omega,by have:=h.db;omega,h.bytes,h.iv,h.iV,fun i hi hk=>(h.ino i hi).plain hk⟩
theorem Iu{l:List a6} : sM l↔∀x,x∈l→∀d,d∈ax x→∃y,y∈l∧y.1=d.2.1:=by
 constructor
 ·intro h x hx d ah
  obtain ⟨i,hi,he⟩:=jL hx
  exact wc.1 (h i hi d (by rw [he];exact ah))
 ·intro h i hi d ah
  exact wc.2 (h _ (gX hi) d ah)
theorem al.set{B k:Nat}{l:List a6}{i:Nat}{y:a6}(h:al B l)(hi:i<l.length)(a_:y.1=(J I l i).1)(hex:∀d,d∈ax y→(bG l d.2.1).isSome=true)
  (hb:kindOf y≠2→fJ y=0∧ff y=0∧ax y=[]) (hn:(ax y).length≤(ax (J I l i)).length+k) (ah:(bS y).length≤(bS (J I l i)).length+k):al (B+k) (l.set i y):=by
 have h1:=Iq (l:=l) (y:=y) hi
 have h2:=amd (l:=l) (y:=y) hi
 have h3:=h.db
 have h4:=h.bytes
 have a7:=h.len
 refine⟨by rw [List.length_set];omega,by omega,by omega,fun x hx=>?_,fun j hj d ah=>?_,fun j hj hk=>?_⟩
 ·rw [List.length_set] at hx
  rw [Qg hi a_,kB hi]
  split
  ·rename_i he;subst he;rw [a_];exact h.iv i hx
  ·exact h.iv x hx
 ·rw [List.length_set] at hj
  rw [kB hi] at ah
  rw [Qg hi a_]
  split at ah
  ·exact hex d ah
  ·exact h.iV j hj d ah
 ·rw [List.length_set] at hj
  rw [kB hi] at hk ⊢
  split at hk
  ·rename_i he;rw [if_pos he];exact hb hk
  ·rename_i he;rw [if_neg he];exact h.bare j hj hk
theorem ame{l:List a6}(p:a6→Bool)(h:Is l):Is (l.filter p):=List.Pairwise.sublist (List.filter_sublist) h
theorem al.go{B:Nat}{l:List a6}(h:al B l)(id:Int):al B (goN l id):=by
 unfold goN
 by_cases h0:eE l id=0
 ·rw [decide_eq_true h0]
  simp only [cond_true]
  refine⟨Nat.le_trans (List.length_filter_le _ _) h.len,Nat.le_trans (Qi _ _ _) h.db,Nat.le_trans (Qi _ _ _) h.bytes,It.2 (ame _ (It.1 h.iv)),Iu.2 fun x hx d ah=>?_,fun i hi hk=>?_⟩
  ·have hx:=(List.mem_filter.1 hx).1
   obtain ⟨y,a_,he⟩:=Iu.1 h.iV x hx d ah
   refine⟨y,List.mem_filter.2 ⟨a_,?_⟩,he⟩
   have:=Z9 h0 x hx d ah
   rw [Bool.not_eq_true',beq_eq_false_iff_ne,he];exact this
  ·have hx:=(List.mem_filter.1 (gX (t:=I) hi)).1
   obtain ⟨j,hj,he⟩:=jL hx
   rw [← he] at hk ⊢
   exact h.bare j hj hk
 ·rw [decide_eq_false h0];exact h
theorem al.app{B k:Nat}{l:List a6}{n:a6}(h:al B l)(cd:bG l n.1=none)(hn:ax n=[])(ah:(bS n).length≤k)(hk:1≤k)(hb:kindOf n≠2→fJ n=0∧ff n=0):al (B+k) (l++[n]):=by
 have h3:=h.db
 have h4:=h.bytes
 have a7:=h.len
 refine⟨by simp;omega,by unfold dt at *;simp [hn];omega,by unfold bytesOf at *;simp;omega,It.2 ?_,Iu.2 fun x hx d qp=>?_,fun i hi hk=>?_⟩
 ·refine List.pairwise_append.2 ⟨It.1 h.iv,List.pairwise_singleton _ _,fun a ha b dV he=>?_⟩
  simp only [List.mem_singleton] at dV
  subst dV
  have:(bG l b.1).isSome=true:=wc.2 ⟨a,ha,he⟩
  rw [cd] at this;cases this
 ·rcases List.mem_append.1 hx with hx | hx
  ·obtain ⟨y,a_,he⟩:=Iu.1 h.iV x hx d qp
   exact⟨y,List.mem_append_left _ a_,he⟩
  ·simp only [List.mem_singleton] at hx
   subst hx
   rw [hn] at qp;simp at qp
 ·rcases Nat.lt_or_ge i l.length with hl | hl
  ·rw [Qh hl] at hk ⊢;exact h.bare i hl hk
  ·have:i=l.length:=by simp at hi;omega
   subst this
   have he:J I (l++[n]) l.length=n:=by rw [di (by simp)];simp
   rw [he] at hk ⊢
   exact⟨(hb hk).1,(hb hk).2,hn⟩
def f_(l:List a6):Int:=cond (decide ((bytesOf l:Int)>400)) 28 (cond (iT l) 122 0)
theorem A9{B:Nat}(v:af.D)(c:aP.D)(x:aN.D)(h:al B v.2.1)(mU:B≤1048576):nj ((v,c,x,()),())=some (f_ v.2.1,()):=by
 have h1:=Nat.le_trans h.len mU
 have h2:=Nat.le_trans h.db mU
 have h3:=Nat.le_trans h.bytes mU
 show Ma (v,c,x,())=_
 unfold Ma f_
 show Option.bind (r_ (v,())) _=_
 rw [PI v h1 h3]
 simp only [ak]
 show cond _ _ (Option.bind (zK (v.2.1,v,())) _)=_
 rw [Zf v h1 h2 h3 h.iv h.iV]
 simp only [ak]
 cases decide ((bytesOf v.2.1:Int)>400) <;> cases iT v.2.1 <;> rfl
theorem amf{B:Nat}(v:af.D)(h:al B v.2.1)(mU:B≤1048576):Nd (v,())=some (f_ v.2.1,()):=by
 have h1:=Nat.le_trans h.len mU
 have h2:=Nat.le_trans h.db mU
 have h3:=Nat.le_trans h.bytes mU
 show Nc v=_
 unfold Nc f_
 rw [PH v h1 h3]
 simp only [ak]
 rw [Zg v h1 h2 h3 (fun i hi hk=>⟨(h.bare i hi hk).1,(h.bare i hi hk).2.1⟩)]
 simp only [ak]
 cases decide ((bytesOf v.2.1:Int)>400) <;> cases iT v.2.1 <;> rfl
theorem A_{B:Nat}(u v:af.D)(h:al B v.2.1)(mU:B≤1048576):qN (u,v,())=some (cond (f_ v.2.1==0) v u,(f_ v.2.1,[],()),()):=by
 show Nf u v=_
 unfold Nf
 rw [amf v h mU]
 simp only [ak]
 by_cases h0:f_ v.2.1=0
 ·rw [dL h0,cA h0,h0];rfl
 ·rw [c4 h0,bV h0];rfl
def A':List au.D→aS→Int
 | [],_=>0
 | d :: r,s=>cond (bB d.1 s) d.2.1 (A' r s)
theorem amg{n:Nat}{P:Nat→Bool} : e9 (n+1) P=cond (P 0) (some 0) ((e9 n fun i=>P (i+1)).map (· + 1)):=by
 cases h0:P 0
 ·simp only [cond_false]
  cases h:e9 n fun i=>P (i+1) with
  | none =>
   refine lH.2 fun i hi=>?_
   cases i with
   | zero=>exact h0
   | succ i=>exact lH.1 h i (by omega)
  | some k =>
   obtain ⟨h1,h2,h3⟩:=hW.1 h
   refine hW.2 ⟨show k+1<n+1 by omega,h2,fun j hj=>?_⟩
   have hj:j<k+1:=hj
   cases j with
   | zero=>exact h0
   | succ j=>exact h3 j (by omega)
 ·exact hW.2 ⟨by omega,h0,fun j hj=>by omega⟩
theorem look_eq(s:aS):∀N:List au.D,ee N s=A' N s
 | []=>rfl
 | d :: r=>by
  unfold ee A'
  rw [List.length_cons,amg]
  show A2 (d :: r) (cond (bB d.1 s) _ _)=_
  cases ah:bB d.1 s
  ·simp only [cond_false]
   rw [← look_eq s r]
   unfold ee
   show A2 (d :: r) ((e9 r.length (re r s)).map (· + 1))=_
   cases e9 r.length (re r s) <;> rfl
  ·rfl
def we(N:List au.D)(s:aS)(id:Int):Int:=N.foldl (fun a d=>cond (bB d.1 s) d.2.1 a) id
theorem Z_{s:aS}{id:Int} : ∀ {N:List au.D},(∀d,d∈N→d.1≠s)→we N s id=id
 | [],_=>rfl
 | d :: r,h=>by
  have h1:bB d.1 s=false:=by unfold bB;simpa using h d List.mem_cons_self
  unfold we
  rw [List.foldl_cons,h1]
  exact Z_ fun e he=>h e (List.mem_cons_of_mem _ he)
theorem aaa{s:aS} : ∀ {N:List au.D},jt N→we N s 0=ee N s
 | [],_=>rfl
 | d :: r,h=>by
  obtain ⟨h1,h2⟩:=List.pairwise_cons.1 h
  rw [look_eq,A',← look_eq]
  unfold we
  rw [List.foldl_cons]
  cases ah:bB d.1 s
  ·exact aaa h2
  ·have ah:d.1=s:=by unfold bB at ah;simpa using ah
   refine Z_ fun e he=>?_
   have:=h1 e he
   rw [ah] at this
   exact(ZJ this).symm
theorem Qj(v:af.D)(dir:Int)(s:aS)(hl:v.2.1.length≤1048576)(hm:dt v.2.1≤1048576){i:Nat}(h:bG v.2.1 dir=some i)(hs:jt (ax (J I v.2.1 i))) :
  ot (v,dir,s,())=some ((v.1,goN (v.2.1.set i (cT (J I v.2.1 i) (c5 (ax (J I v.2.1 i)) s))) (ee (ax (J I v.2.1 i)) s),()),()):=by
 show F7 (kS aK) v dir s=_
 unfold F7
 rw [jr v dir hl h]
 simp only [ak]
 obtain ⟨hi,cd⟩:=cq h
 have hn:=Nat.le_trans (fZ hi) hm
 have sS:dt (v.2.1.set i (cT (J I v.2.1 i) (c5 (ax (J I v.2.1 i)) s)))≤1048576:=by
  have:=Iq (l:=v.2.1) (y:=cT (J I v.2.1 i) (c5 (ax (J I v.2.1 i)) s)) hi
  rw [mA] at this
  have:=A8 (ax (J I v.2.1 i)) s
  omega
 have mu:(v.2.1.set i (cT (J I v.2.1 i) (c5 (ax (J I v.2.1 i)) s))).length≤1048576:=by rw [List.length_set];exact hl
 rw [← aaa hs]
 generalize hN:ax (J I v.2.1 i)=N at hn hs sS mu
 have hw:bG v.2.1 (cT (J I v.2.1 i) (c5 N s)).1=some i:=by rw [show(cT (J I v.2.1 i) (c5 N s)).1=dir from cd];exact h
 have key:∀(r j:Nat) (id:Int),j+r=N.length→b1 (fun m=>(kS m).bm s id (j:Int) v (0,([]:List I.D),()) (J I v.2.1 i) (c5 (N.take j) s)) (r+1048580) (some ((v.1,goN (v.2.1.set i (cT (J I v.2.1 i) (c5 N s))) (we (N.drop j) s id),()),())):=by
  intro r
  induction r with
  | zero =>
   intro j id hj
   have Ip:j=N.length:=by omega
   subst Ip
   rw [List.drop_length,List.take_length]
   show b1 _ _ (some ((v.1,goN (v.2.1.set i (cT (J I v.2.1 i) (c5 N s))) id,()),()))
   have hb:∀m,(kS (m+1)).bm s id (N.length:Int) v (0,([]:List I.D),()) (J I v.2.1 i) (c5 N s) =
     cond (decide (((eE (v.2.1.set i (cT (J I v.2.1 i) (c5 N s))) id:Nat):Int)>0)) (some ((v.1,v.2.1.set i (cT (J I v.2.1 i) (c5 N s)),()),())) ((kS m).qC id 0 (v.1,v.2.1.set i (cT (J I v.2.1 i) (c5 N s)),()) (0,([]:List I.D),()) ([]:List I.D)):=by
    intro m
    show Ar (kS m) s id (N.length:Int) v (0,([]:List I.D),()) (J I v.2.1 i) (c5 N s)=_
    unfold Ar
    show cond (decide ((N.length:Int)<((ax (J I v.2.1 i)).length:Int))) _ (Option.bind (om (v,cT (J I v.2.1 i) (c5 N s),())) _)=_
    rw [hN,b0 (Nat.le_refl _),Ir v _ hl hw]
    simp only [cond_false,ak]
    rw [HU (v.1,v.2.1.set i (cT (J I v.2.1 i) (c5 N s)),()) id mu sS]
    rfl
   generalize v.2.1.set i (cT (J I v.2.1 i) (c5 N s))=l at hb mu
   unfold goN
   by_cases h0:eE l id=0
   ·rw [decide_eq_true h0]
    simp only [cond_true]
    have amh:=oB 1 (fun m j=>(kS m).qC id (j:Int) (v.1,l,()) (0,([]:List I.D),()) ((l.take j).filter fun y => !(y.1==id))) (some ((v.1,l.filter fun y => !(y.1==id),()),())) l.length 1 (fun j hj B y he=>he.step fun m=>by
     have hR:((l.take j).filter fun y => !(y.1==id)).length≤j:=Nat.le_trans (List.length_filter_le _ _) (by rw [List.length_take];omega)
     show As (kS m) id (j:Int) (v.1,l,()) (0,([]:List I.D),()) ((l.take j).filter fun y => !(y.1==id))=_
     unfold As
     show cond (decide ((j:Int)<(l.length:Int))) ((aL l.length (j:Int)).bind fun v1=>cond (!((J I l (0+v1)).1==id)) _ _) _=_
     rw [bx hj,ba hj]
     simp only [cond_true,ak,Nat.zero_add]
     rw [de j (by omega),List.take_succ_eq_append_getElem hj,List.filter_append,List.filter_cons,List.filter_nil,di hj]
     cases hc:(!((l[j]).1==id))
     ·simp
     ·simp only [cond_true,if_true]
      rw [ck (by simp only [List.length_cons,List.length_nil];omega)];rfl) (b1.now 1 fun m=>by
     show As (kS m) id (l.length:Int) (v.1,l,()) (0,([]:List I.D),()) ((l.take l.length).filter fun y => !(y.1==id))=_
     unfold As
     show cond (decide ((l.length:Int)<(l.length:Int))) _ _=_
     rw [b0 (Nat.le_refl _),List.take_length];rfl)
    refine(amh.jump (f:=fun m=>(kS m).bm s id (N.length:Int) v (0,([]:List I.D),()) (J I v.2.1 i) (c5 N s)) 1 fun m=>?_).mono (by omega)
    rw [hb m,decide_eq_false (by omega)];rfl
   ·rw [decide_eq_false h0]
    simp only [cond_false]
    refine(b1.now 1 fun m=>?_).mono (by omega)
    rw [hb m,decide_eq_true (by omega)];rfl
  | succ r ih =>
   intro j id hj
   have hjl:j<N.length:=by omega
   have ih:=ih (j+1) (cond (bB (J au N j).1 s) (J au N j).2.1 id) (by omega)
   have hB:we (N.drop (j+1)) s (cond (bB (J au N j).1 s) (J au N j).2.1 id)=we (N.drop j) s id:=by
    rw [drop_cons (t:=au) hjl];rfl
   rw [hB] at ih
   refine(ih.jump (f:=fun m=>(kS m).bm s id (j:Int) v (0,([]:List I.D),()) (J I v.2.1 i) (c5 (N.take j) s)) 1 fun m=>?_).mono (by omega)
   have hR:(c5 (N.take j) s).length≤j:=Nat.le_trans (List.length_filter_le _ _) (by rw [List.length_take];omega)
   show Ar (kS m) s id (j:Int) v (0,([]:List I.D),()) (J I v.2.1 i) (c5 (N.take j) s)=_
   unfold Ar
   show cond (decide ((j:Int)<((ax (J I v.2.1 i)).length:Int))) ((aL (ax (J I v.2.1 i)).length (j:Int)).bind fun v1=>cond (bB (J au (ax (J I v.2.1 i)) v1).1 s)
    ((aL (ax (J I v.2.1 i)).length (j:Int)).bind fun v2=>(kS m).bm s (J au (ax (J I v.2.1 i)) v2).2.1 (ay ((j:Int)+1)) v (0,([]:List I.D),()) (J I v.2.1 i) (c5 (N.take j) s))
    ((aL (ax (J I v.2.1 i)).length (j:Int)).bind fun v3=>cond (room ((c5 (N.take j) s).length+1)) ((kS m).bm s id (ay ((j:Int)+1)) v (0,([]:List I.D),()) (J I v.2.1 i) (c5 (N.take j) s++[J au (ax (J I v.2.1 i)) v3])) none)) _=_
   rw [hN,bx hjl,ba hjl]
   simp only [cond_true,ak]
   rw [de j (by omega)]
   have CG:c5 (N.take (j+1)) s=c5 (N.take j) s++cond (bB (J au N j).1 s) [] [J au N j]:=by
    unfold c5
    rw [List.take_succ_eq_append_getElem hjl,List.filter_append,List.filter_cons,List.filter_nil,di hjl]
    cases bB (N[j]).1 s <;> rfl
   rw [CG]
   cases bB (J au N j).1 s
   ·simp only [cond_false]
    rw [ck (by omega)];rfl
   ·simp only [cond_true,List.append_nil]
 have:=key N.length 0 0 (by omega)
 rw [List.drop_zero] at this
 exact kV this (by omega)
theorem bits_nat(op:BinOp)(x y:Nat):c_ op .i64 (x:Int) (y:Int)=(match op with
 | .and=>IntKind.wrap .i64 ((BitVec.ofNat 64 x &&& BitVec.ofNat 64 y).toNat:Int)
 | .or=>IntKind.wrap .i64 ((BitVec.ofNat 64 x ||| BitVec.ofNat 64 y).toNat:Int)
 | .xor=>IntKind.wrap .i64 ((BitVec.ofNat 64 x ^^^ BitVec.ofNat 64 y).toNat:Int)
 | _=>IntKind.wrap .i64 ((BitVec.ofNat 64 x &&& ~~~BitVec.ofNat 64 y).toNat:Int)):=by
 unfold c_
 rw [show(IntKind.i64).bits=64 from rfl]
 simp only [BitVec.ofInt_natCast]
 cases op <;> rfl
theorem ami{x y:Nat}(hx:x<4611686018427387904)(a_:y<4611686018427387904):c_ .and .i64 (x:Int) (y:Int)=((x &&& y:Nat):Int):=by
 rw [bits_nat]
 simp only
 rw [BitVec.toNat_and,BitVec.toNat_ofNat,BitVec.toNat_ofNat,Nat.mod_eq_of_lt (show x<2 ^ 64 by omega),Nat.mod_eq_of_lt (show y<2 ^ 64 by omega)]
 have:x &&& y≤x:=Nat.and_le_left
 exact c0 (by omega) (by omega)
theorem amj{x y:Nat}(hx:x<4611686018427387904)(a_:y<4611686018427387904):c_ .or .i64 (x:Int) (y:Int)=((x ||| y:Nat):Int):=by
 rw [bits_nat]
 simp only
 rw [BitVec.toNat_or,BitVec.toNat_ofNat,BitVec.toNat_ofNat,Nat.mod_eq_of_lt (show x<2 ^ 64 by omega),Nat.mod_eq_of_lt (show y<2 ^ 64 by omega)]
 have:x ||| y<2 ^ 62:=Nat.or_lt_two_pow (by omega) (by omega)
 exact c0 (by omega) (by omega)
theorem amk{x:Nat}(h:x<2048):x &&& 1024=1024*(x / 1024):=by
 have h1:(x &&& 1024) / 2 ^ 10=x / 2 ^ 10 &&& 1024 / 2 ^ 10:=Nat.and_div_two_pow
 have h2:(x &&& 1024) % 2 ^ 10=x % 2 ^ 10 &&& 1024 % 2 ^ 10:=Nat.and_mod_two_pow
 rw [show 1024 / 2 ^ 10=1 from rfl,Nat.and_one_is_mod] at h1
 rw [show 1024 % 2 ^ 10=0 from rfl,Nat.and_zero] at h2
 omega
theorem aml{m:Int}(h:0≤m)(h':m≤2047):c_ .and .i64 m 1024=0∨c_ .and .i64 m 1024=1024:=by
 obtain ⟨n,rfl⟩:∃n:Nat,m=n:=⟨m.toNat,by omega⟩
 have:=ami (x:=n) (y:=1024) (by omega) (by omega)
 rw [show((1024:Nat):Int)=1024 from rfl] at this
 rw [this,amk (by omega)]
 omega
theorem amm{m:Int}(h:0≤m)(h':m≤2047):c_ .or .i64 m 0=m:=by
 obtain ⟨n,rfl⟩:∃n:Nat,m=n:=⟨m.toNat,by omega⟩
 have:=amj (x:=n) (y:=0) (by omega) (by omega)
 rw [show((0:Nat):Int)=0 from rfl] at this
 rw [this,Nat.or_zero]
def aG(x:aN.D):Int:=x.1
def eZ(x:aN.D):aS:=x.2.1
def iX(x:aN.D):aS:=x.2.2.1
def bO(x:aN.D):Int:=x.2.2.2.1
def ej(x:aN.D):Int:=x.2.2.2.2.1
def dy(x:aN.D):aS:=x.2.2.2.2.2.1
structure jv(x:aN.D):Prop where
 da:1≤aG x∧aG x≤22
 path:(eZ x).length≤60
 wg:(iX x).length≤60
 iw:(dy x).length≤64
 n : -1000000≤bO x∧bO x≤1000000
 m : -1000000≤ej x∧ej x≤1000000
 amn:iX x=[]∨aG x=9∨aG x=10∨aG x=12
 aab:dy x=[]∨aG x=5∨aG x=6
theorem Iv{x:aN.D} : gV x=true↔jv x:=by
 unfold gV
 simp only [Bool.and_eq_true,Bool.or_eq_true,decide_eq_true_eq,beq_iff_eq,nz]
 constructor
 ·rintro ⟨⟨⟨⟨⟨⟨⟨h1,h2⟩,h3⟩,h4⟩,a7⟩,bp⟩,bI⟩,c7⟩
  exact⟨dm.1 h1,Int.ofNat_le.1 h2,Int.ofNat_le.1 h3,Int.ofNat_le.1 h4,dm.1 a7,dm.1 bp,bI,c7⟩
 ·intro h
  exact⟨⟨⟨⟨⟨⟨⟨dm.2 h.da,Int.ofNat_le.2 h.path⟩,Int.ofNat_le.2 h.wg⟩,Int.ofNat_le.2 h.iw⟩,dm.2 h.n⟩,dm.2 h.m⟩,h.amn⟩,h.aab⟩
theorem ym{N:List au.D}{s:aS}{id:Int}{d:au.D} : d∈ins N s id↔d∈N∨d=(s,id,()):=by
 have:=List.takeWhile_append_dropWhile (p:=dZ s) (l:=N)
 unfold ins
 conv=>rhs;rw [← this]
 simp only [List.mem_append,List.mem_singleton]
 constructor
 ·rintro ((h | h) | h)
  ·exact .inl (.inl h)
  ·exact .inr h
  ·exact .inl (.inr h)
 ·rintro ((h | h) | h)
  ·exact .inl (.inl h)
  ·exact .inr h
  ·exact .inl (.inr h)
theorem Qk{N:List au.D}{s:aS}(h:ee N s=0)(h0:∀d,d∈N→d.2.1≠0):∀d,d∈N→d.1≠s:=by
 intro d ah he
 obtain ⟨i,hi,aD⟩:=jL ah
 unfold ee at h
 cases hf:e9 N.length (re N s) with
 | none =>
  have:=lH.1 hf i hi
  unfold re bB at this
  rw [aD] at this
  simp [he] at this
 | some j =>
  rw [hf] at h
  obtain ⟨h1,_,_⟩:=hW.1 hf
  exact h0 _ (gX h1) h
theorem cG.amo{v:af.D}(h:cG v){x:a6}(hx:x∈v.2.1):1≤fw x∧fw x≤kd v-1:=by
 obtain ⟨i,hi,he⟩:=jL hx
 have:=h.ids i hi
 rw [he] at this;exact this
theorem cG.Ql{v:af.D}(h:cG v){i:Nat}(hi:i<v.2.1.length){d:au.D}(ah:d∈ax (J I v.2.1 i)):d.2.1≠0:=by
 obtain ⟨y,a_,he⟩:=wc.1 (h.iV i hi d ah)
 have h1:=h.amo a_
 intro h0
 have:fw y=0:=he.trans h0
 omega
theorem cG.free{v:af.D}(h:cG v):bG v.2.1 v.1=none:=by
 cases hi:bG v.2.1 v.1 with
 | none=>rfl
 | some i =>
  obtain ⟨h1,h2⟩:=cq hi
  have:=h.ids i h1
  have h2:fw (J I v.2.1 i)=kd v:=h2
  omega
theorem cG.iY{v:af.D}(h:cG v):rh v.2.1 :=
 ⟨by have:=h.len;omega,by have:=h.db;omega,h.iv,h.iV,fun i hi hk=>((h.ino i hi).plain hk).2.2,fun i hi hk=>((h.ino i hi).yf hk).1,0,by
  have:=h.iv 0 (by have:=h.len;omega)
  rwa [show(J I v.2.1 0).1=1 from h.root.1] at this,h.root.2⟩
def br(v:af.D)(c:aP.D)(x:aN.D)(a:Option (Int×aQ.D×Unit))(b:Option (af.D×aA.D×Unit))(Q:af.D→Prop):Prop :=
 ∃(code:Int) (w:af.D),a=some (code,(w,c,x,()),())∧b=some (cond (code==0) w v,(code,[],()),())∧(code=0→Q w)
theorem br.no{v:af.D}{c:aP.D}{x:aN.D}{a:Option (Int×aQ.D×Unit)}{b:Option (af.D×aA.D×Unit)}{Q:af.D→Prop}(code:Int)(h0:code≠0)(ha:a=some (code,(v,c,x,()),()))(hb:b=some (v,(code,[],()),())):br v c x a b Q :=
 ⟨code,v,ha,by rw [bV h0];exact hb,fun h=>absurd h h0⟩
def aac(x:aN.D):Int:=if aG x=1 then 2 else if aG x=10 then 3 else 1
def aad(x:aN.D)(d:a6):Int:=if aG x=10 then 511 else if aG x=1∧c_ .and .i64 (ft d) 1024≠0 then c_ .or .i64 (bO x) 1024 else bO x
def aae(c:aP.D)(d:a6):Int:=if c_ .and .i64 (ft d) 1024≠0 then fK d else c.2.1
def hC(v:af.D)(c:aP.D)(x:aN.D)(d:a6):a6:=(v.1,aac x,aad x d,c.1,aae c d,if aG x=10 then iX x else [],[],0,0,())
def wh(x:aN.D):Bool:=cond (aG x==10) (!jn (iX x)) (!cg (bO x) 0 2047)
structure Made(v:af.D)(c:aP.D)(x:aN.D)(w:af.D):Prop where
 bad:wh x=false
 out:∃r i,lK v.2.1 r∧bH r=2∧nameOf r≠[]∧bG v.2.1 (cf r)=some i∧kindOf (J I v.2.1 i)=2∧may c (J I v.2.1 i) 3=true∧(ax (J I v.2.1 i)).length<12∧v.2.1.length<24∧kd v<100000 ∧
  w=(v.1+1,v.2.1.set i (cT (J I v.2.1 i) (ins (ax (J I v.2.1 i)) (nameOf r) v.1))++[hC v c x (J I v.2.1 i)],())∧f_ w.2.1=0∧eT (v,c,eZ x,false,())=some (r,())
theorem amp(m:Nat)(a b):(kQ (m+1)).bf a b=Mb (kQ m) a b:=rfl
theorem amq(m:Nat)(a b d):(kQ (m+1)).hp a b d=Mc (kQ m) a b d:=rfl
theorem amr(m:Nat)(a b d e f):(jK (m+1)).k3 a b d e f=Nh (jK m) a b d e f:=rfl
theorem ams(m:Nat)(a b d e f):(jK (m+1)).jJ a b d e f=Ni (jK m) a b d e f:=rfl
theorem Ba(v:af.D)(c:aP.D)(x:aN.D)(id:Int)(hl:v.2.1.length≤1048576)(hc:dY c=true){i:Nat}(h:bG v.2.1 id=some i):ni ((v,c,x,()),id,())=some (may c (J I v.2.1 i) 3,()):=by
 show L_ (v,c,x,()) id=_
 unfold L_
 show Option.bind (fF (v,id,())) _=_
 rw [nw v id hl h]
 simp only [ak,List.isEmpty_cons,Bool.not_false,cond_true]
 show Option.bind (pf (c,J I v.2.1 i,3,())) _=_
 rw [A0 c _ 3 hc];rfl
theorem amt(v:af.D)(c:aP.D)(x:aN.D)(hv:cG v)(hc:dY c=true)(hx:jv x):br v c x (zR ((v,c,x,()),())) (vt (v,c,x,())) (Made v c x):=by
 have cp:=hv.iY
 have hl:v.2.1.length≤1048576:=cp.len
 have av:=hx.path
 obtain ⟨q,hq,hQ⟩:=jl 4
 have eQ:zR ((v,c,x,()),())=cond (wh x) (some (22,(v,c,x,()),())) ((kQ aK).bf (v,c,x,()) x):=by
  show Eg (kQ aK) (v,c,x,())=_
  unfold Eg wh
  show cond (aG x==10) (Option.bind (xG (iX x,())) fun v1=>cond (!v1.1) _ (cond (!(aG x==10)) _ _)) (cond (!(aG x==10)) (Option.bind (cZ (bO x,0,2047,())) _) _)=_
  rw [PF _ (by have:=hx.wg;omega)]
  cases aG x==10
  ·simp only [cond_false,Bool.not_false,cond_true,ak]
   rw [gE];rfl
  ·simp only [cond_true,Bool.not_true,cond_false,ak]
 have ef:vt (v,c,x,())=cond (wh x) (some (v,(22,[],()),())) ((jK aK).k3 v c x (0,([]:List I.D),()) (0,([]:aS),())):=by
  show F6 (jK aK) v c x=_
  unfold F6 wh
  show cond (aG x==10) (Option.bind (z1 (iX x,())) fun v1=>cond (!v1.1) _ (cond (!(aG x==10)) _ _)) (cond (!(aG x==10)) (Option.bind (cS (bO x,0,2047,())) _) _)=_
  rw [YU]
  cases aG x==10
  ·simp only [cond_false,Bool.not_false,cond_true,ak]
   rw [gU];rfl
  ·simp only [cond_true,Bool.not_true,cond_false,ak]
 rw [eQ,ef]
 cases hb:wh x with
 | true=>exact br.no 22 (by decide) rfl rfl
 | false =>
 simp only [cond_false]
 rw [hq,amp,amr]
 unfold Mb Nh
 obtain ⟨r,ei,code,Qm,Qn,Qo⟩:=Z1 v c x (eZ x) cp hc (by omega)
 show br v c x (Option.bind (uZ ((v,c,x,()),eZ x,())) _) (Option.bind (vq (v,c,eZ x,())) _) _
 rw [Qm,Qn]
 simp only [ak]
 by_cases bZ:code=0
 case neg =>
  rw [c4 bZ]
  exact br.no code bZ rfl rfl
 obtain ⟨rfl,hr,iG,wi,Qp⟩:=Qo bZ
 rw [dL bZ]
 simp only [cond_false]
 obtain ⟨Bb,pH,d,ah,iW,wj⟩:=hr.new iG wi
 have hdl:=cq ah
 show br v c x (Option.bind (ni ((v,c,x,()),cf ei,())) _) (Option.bind (e8 (v,cf ei,())) _) _
 rw [Ba v c x _ hl hc ah,jr v _ hl ah]
 simp only [ak]
 rw [pI c _ 3 hc]
 simp only [ak]
 cases hm:may c (J I v.2.1 d) 3 with
 | false=>exact br.no 13 (by decide) rfl rfl
 | true =>
 simp only [Bool.not_true,cond_false]
 show br v c x (Option.bind (fF (v,cf ei,())) _) _ _
 rw [nw v _ hl ah]
 simp only [ak,List.isEmpty_cons,Bool.not_false,cond_true]
 have ju:=hv.ino d hdl.1
 have aaf:=(ju.dir iW).2.2.2
 show br v c x (cond (((ax (J I v.2.1 d)).length:Int)==12) _ (cond ((v.2.1.length:Int)==24) _ (cond (kd v==100000) _ _))) (cond (decide (((ax (J I v.2.1 d)).length:Int)≥12)) _ (cond (decide ((v.2.1.length:Int)≥24)) _ (cond (decide (kd v≥100000)) _ _))) _
 by_cases kp:(ax (J I v.2.1 d)).length=12
 ·rw [show(((ax (J I v.2.1 d)).length:Int)==12)=true by rw [kp];rfl,decide_eq_true (by omega)]
  exact br.no 28 (by decide) rfl rfl
 rw [show(((ax (J I v.2.1 d)).length:Int)==12)=false by rw [beq_eq_false_iff_ne];omega,decide_eq_false (show ¬((ax (J I v.2.1 d)).length:Int)≥12 by omega)]
 simp only [cond_false]
 have hlen:=hv.len
 have rZ:=hv.next
 by_cases amu:v.2.1.length=24
 ·rw [show((v.2.1.length:Int)==24)=true by rw [amu];rfl,decide_eq_true (by omega)]
  exact br.no 28 (by decide) rfl rfl
 rw [show((v.2.1.length:Int)==24)=false by rw [beq_eq_false_iff_ne];omega,decide_eq_false (show ¬(v.2.1.length:Int)≥24 by omega)]
 simp only [cond_false]
 by_cases aag:kd v=100000
 ·rw [cA aag,decide_eq_true (show kd v≥100000 by omega)]
  exact br.no 28 (by decide) rfl rfl
 rw [bV aag,decide_eq_false (show ¬kd v≥100000 by omega)]
 simp only [cond_false]
 obtain ⟨w,hw⟩:∃w:af.D,w=(v.1+1,v.2.1.set d (cT (J I v.2.1 d) (ins (ax (J I v.2.1 d)) (nameOf ei) v.1))++[hC v c x (J I v.2.1 d)],()):=⟨_,rfl⟩
 have amv:ay (v.1+1)=v.1+1:=ed (a:=kd v+1) (by omega) (by omega)
 have arp:al 1000 (v.2.1++[hC v c x (J I v.2.1 d)]):=(hv.st.app (k:=100) (n:=hC v c x (J I v.2.1 d)) hv.free rfl (by
  show(if aG x=10 then iX x else []).length≤100
  have:=hx.wg
  split
  ·omega
  ·simp) (by omega) (fun _=>⟨rfl,rfl⟩)).mono (by omega)
 have hst:al 1000 w.2.1:=by
  rw [hw]
  have aD:J I (v.2.1++[hC v c x (J I v.2.1 d)]) d=J I v.2.1 d:=Qh hdl.1
  have:=(hv.st.app (k:=100) (n:=hC v c x (J I v.2.1 d)) hv.free rfl (by
   show(if aG x=10 then iX x else []).length≤100
   have:=hx.wg
   split
   ·omega
   ·simp) (by omega) (fun _=>⟨rfl,rfl⟩)).set (k:=1) (i:=d) (y:=cT (J I v.2.1 d) (ins (ax (J I v.2.1 d)) (nameOf ei) v.1)) (by simp;omega) (by rw [aD];rfl) (by
    intro e he
    rcases ym.1 he with he | rfl
    ·obtain ⟨y,a_,PR⟩:=wc.1 (hv.iV d hdl.1 e he)
     exact wc.2 ⟨y,List.mem_append_left _ a_,PR⟩
    ·exact wc.2 ⟨hC v c x (J I v.2.1 d),List.mem_append_right _ (List.mem_singleton.2 rfl),rfl⟩) (fun hk=>absurd iW hk) (by
    rw [aD];show(ins (ax (J I v.2.1 d)) (nameOf ei) v.1).length≤_;rw [A7];omega) (by rw [aD];exact Nat.le_add_right _ _)
  rw [Z8 hdl.1] at this
  exact this.mono (by omega)
 have hfin:∀m n,br v c x ((kQ (m+1)).hp (v,c,x,()) ei (hC v c x (J I v.2.1 d))) ((jK (n+1)).jJ v (0,([]:List I.D),()) (0,([]:aS),()) ei (hC v c x (J I v.2.1 d))) (Made v c x):=by
  intro m n
  rw [amq,ams]
  unfold Mc Ni
  rw [v' v hl (fun i hi=>Nat.le_trans (fZ hi) cp.db)]
  simp only [ak]
  rw [amv]
  show br v c x (Option.bind (sf (((v.1+1,v.2.1,()),c,x,()),cf ei,nameOf ei,v.1,())) _) (Option.bind (om ((v.1+1,v.2.1,()),hC v c x (J I v.2.1 d),())) _) _
  rw [Qd (v.1+1,v.2.1,()) c x (cf ei) (nameOf ei) v.1 hl ah (Nat.le_trans (fZ hdl.1) cp.db),ama (v.1+1,v.2.1,()) _ hl hv.free]
  simp only [ak]
  have aD:J I (v.2.1++[hC v c x (J I v.2.1 d)]) d=J I v.2.1 d:=Qh hdl.1
  have H5:=Qf (v.1+1,v.2.1++[hC v c x (J I v.2.1 d)],()) (cf ei) (nameOf ei) v.1 (by simp;omega) (amc ah) (by
   show(ax (J I (v.2.1++[hC v c x (J I v.2.1 d)]) d)).length≤_
   rw [aD];exact Nat.le_trans (fZ hdl.1) cp.db) (by
   show ∀e,e∈ax (J I (v.2.1++[hC v c x (J I v.2.1 d)]) d)→_
   rw [aD];exact Qk wj fun e he=>hv.Ql hdl.1 he)
  rw [show((v.1+1,v.2.1++[hC v c x (J I v.2.1 d)],()):af.D).2.1=v.2.1++[hC v c x (J I v.2.1 d)] from rfl,aD,Z8 hdl.1,← hw] at H5
  show br v c x _ (Option.bind (sq ((v.1+1,v.2.1++[hC v c x (J I v.2.1 d)],()),cf ei,nameOf ei,v.1,())) _) _
  rw [H5]
  simp only [ak]
  rw [A_ v w hst (by omega)]
  simp only [ak]
  rw [ck (by simp;omega)]
  simp only [cond_true]
  show br v c x (Option.bind (nj (((v.1+1,v.2.1.set d (cT (J I v.2.1 d) (ins (ax (J I v.2.1 d)) (nameOf ei) v.1))++[hC v c x (J I v.2.1 d)],()),c,x,()),())) fun v2=>some (v2.1,((v.1+1,v.2.1.set d (cT (J I v.2.1 d) (ins (ax (J I v.2.1 d)) (nameOf ei) v.1))++[hC v c x (J I v.2.1 d)],()),c,x,()),())) _ _
  rw [← hw,A9 w c x hst (by omega)]
  exact⟨f_ w.2.1,w,rfl,rfl,fun h=>⟨hb,ei,d,hr,iG,wi,ah,iW,hm,by omega,by omega,by omega,hw,h,Qp⟩⟩
 have hN:aG x≠10→0≤bO x∧bO x≤2047:=by
  intro hk
  unfold wh at hb
  rw [bV hk] at hb
  simp only [cond_false,Bool.not_eq_false'] at hb
  exact dm.1 hb
 have aah:=ju.mode
 have Qq:=aml aah.1 aah.2
 show br v c x (cond (c_ .and .i64 (ft (J I v.2.1 d)) 1024 != 0)
   (cond (aG x==1) ((kQ (q+3)).hp (v,c,x,()) ei (v.1,2,c_ .or .i64 (bO x) (c_ .and .i64 (ft (J I v.2.1 d)) 1024),c.1,fK (J I v.2.1 d),[],[],0,0,()))
    (cond (aG x==10) ((kQ (q+3)).hp (v,c,x,()) ei (v.1,3,511,c.1,fK (J I v.2.1 d),iX x,[],0,0,())) ((kQ (q+3)).hp (v,c,x,()) ei (v.1,1,bO x,c.1,fK (J I v.2.1 d),[],[],0,0,()))))
   (cond (aG x==1) ((kQ (q+3)).hp (v,c,x,()) ei (v.1,2,c_ .or .i64 (bO x) (c_ .and .i64 (ft (J I v.2.1 d)) 1024),c.1,c.2.1,[],[],0,0,()))
    (cond (aG x==10) ((kQ (q+3)).hp (v,c,x,()) ei (v.1,3,511,c.1,c.2.1,iX x,[],0,0,())) ((kQ (q+3)).hp (v,c,x,()) ei (v.1,1,bO x,c.1,c.2.1,[],[],0,0,())))))
  (cond (aG x==1) ((jK (q+3)).Aq v x (0,([]:List I.D),()) (0,([]:aS),()) ei (J I v.2.1 d) (v.1,2,bO x,c.1,c.2.1,[],[],0,0,())) ((jK (q+3)).Aq v x (0,([]:List I.D),()) (0,([]:aS),()) ei (J I v.2.1 d) (v.1,1,bO x,c.1,c.2.1,[],[],0,0,()))) (Made v c x)
 have w_:∀(n:a6),(jK (q+3)).Aq v x (0,([]:List I.D),()) (0,([]:aS),()) ei (J I v.2.1 d) n=cond (aG x==10) ((jK (q+2)).gD v (0,([]:List I.D),()) (0,([]:aS),()) ei (J I v.2.1 d) (n.1,3,511,n.2.2.2.1,n.2.2.2.2.1,iX x,n.2.2.2.2.2.2.1,n.2.2.2.2.2.2.2.1,n.2.2.2.2.2.2.2.2.1,())) ((jK (q+2)).gD v (0,([]:List I.D),()) (0,([]:aS),()) ei (J I v.2.1 d) n):=fun n=>rfl
 have Bc:∀(n:a6),(jK (q+2)).gD v (0,([]:List I.D),()) (0,([]:aS),()) ei (J I v.2.1 d) n=cond (c_ .and .i64 (ft (J I v.2.1 d)) 1024 != 0)
   (cond (n.2.1==2) ((jK (q+1)).jJ v (0,([]:List I.D),()) (0,([]:aS),()) ei (n.1,n.2.1,c_ .or .i64 n.2.2.1 1024,n.2.2.2.1,fK (J I v.2.1 d),n.2.2.2.2.2.1,n.2.2.2.2.2.2.1,n.2.2.2.2.2.2.2.1,n.2.2.2.2.2.2.2.2.1,()))
    ((jK (q+1)).jJ v (0,([]:List I.D),()) (0,([]:aS),()) ei (n.1,n.2.1,n.2.2.1,n.2.2.2.1,fK (J I v.2.1 d),n.2.2.2.2.2.1,n.2.2.2.2.2.2.1,n.2.2.2.2.2.2.2.1,n.2.2.2.2.2.2.2.2.1,()))) ((jK (q+1)).jJ v (0,([]:List I.D),()) (0,([]:aS),()) ei n):=fun n=>rfl
 simp only [w_,Bc]
 have hD:=hfin (q+2) q
 unfold hC aac aad aae at hD
 by_cases k1:aG x=1
 ·have dr:aG x≠10:=by omega
  have pR:=hN dr
  rw [cA k1,bV dr]
  rw [if_pos k1,if_neg dr,if_neg dr] at hD
  simp only [cond_true,cond_false]
  rcases Qq with gM | gM
  ·rw [gM] at hD ⊢
   rw [if_neg (by simp),if_neg (by simp)] at hD
   rw [amm pR.1 pR.2]
   exact hD
  ·rw [gM] at hD ⊢
   rw [if_pos ⟨k1,by decide⟩,if_pos (by decide)] at hD
   exact hD
 ·rw [bV k1]
  rw [if_neg k1] at hD
  by_cases dr:aG x=10
  ·rw [cA dr]
   rw [if_pos dr,if_pos dr,if_pos dr] at hD
   simp only [cond_true,cond_false]
   rcases Qq with gM | gM
   ·rw [gM] at hD ⊢
    rw [if_neg (by simp)] at hD
    exact hD
   ·rw [gM] at hD ⊢
    rw [if_pos (by decide)] at hD
    exact hD
  ·rw [bV dr]
   rw [if_neg dr,if_neg dr,if_neg dr,if_neg (fun h=>k1 h.1)] at hD
   simp only [cond_false]
   rcases Qq with gM | gM
   ·rw [gM] at hD ⊢
    rw [if_neg (by simp)] at hD
    exact hD
   ·rw [gM] at hD ⊢
    rw [if_pos (by decide)] at hD
    exact hD
def oD(v:af.D)(i:Nat)(s:aS):af.D:=(v.1,goN (v.2.1.set i (cT (J I v.2.1 i) (c5 (ax (J I v.2.1 i)) s))) (ee (ax (J I v.2.1 i)) s),())
structure Qr(v:af.D)(c:aP.D)(x:aN.D)(w:af.D):Prop where
 out:∃r i j,lK v.2.1 r∧bH r=0∧nameOf r≠[]∧bG v.2.1 (cf r)=some i∧kindOf (J I v.2.1 i)=2∧ee (ax (J I v.2.1 i)) (nameOf r)=bu r∧bG v.2.1 (bu r)=some j∧ax (J I v.2.1 j)=[] ∧
  (aG x=2→kindOf (J I v.2.1 j)=2)∧(aG x=8→kindOf (J I v.2.1 j)≠2)∧w=oD v i (nameOf r)
theorem amw(m:Nat)(a b d):(oi (m+1)).bm a b d=Mh (oi m) a b d:=rfl
theorem amx(m:Nat)(a b d):(oi (m+1)).dG a b d=Mi (oi m) a b d:=rfl
theorem amy(m:Nat)(a b d):(oi (m+1)).eb a b d=Mj (oi m) a b d:=rfl
theorem amz(m:Nat)(a b d):(oi (m+1)).cC a b d=Mk (oi m) a b d:=rfl
theorem amA(m:Nat)(a b d e f g h):(qQ (m+1)).dG a b d e f g h=Nk (qQ m) a b d e f g h:=rfl
theorem amB(m:Nat)(a b d e f g h):(qQ (m+1)).eb a b d e f g h=Nl (qQ m) a b d e f g h:=rfl
theorem amC(m:Nat)(a b d e f g):(qQ (m+1)).cC a b d e f g=Nn (qQ m) a b d e f g:=rfl
theorem amD(v:af.D)(c:aP.D)(x:aN.D)(hv:cG v)(hc:dY c=true)(hx:jv x)(hk:aG x=2∨aG x=8):br v c x (Ep ((v,c,x,()),())) (At (v,c,x,())) (Qr v c x):=by
 have cp:=hv.iY
 have hl:v.2.1.length≤1048576:=cp.len
 have av:=hx.path
 obtain ⟨q,hq,hQ⟩:=jl 4
 show br v c x (Eo (oi aK) (v,c,x,())) (F8 (qQ aK) v c x) _
 unfold Eo F8
 obtain ⟨r,⟨hr,_⟩,Bd,fx⟩:=A6 v c x (eZ x) false cp hc (by omega)
 show br v c x (Option.bind (kP ((v,c,x,()),eZ x,false,())) _) (Option.bind (eT (v,c,eZ x,false,())) _) _
 rw [Bd,fx]
 simp only [ak]
 show br v c x (cond (bH r != 0) (some (bH r,(v,c,x,()),())) _) (cond (bH r != 0) (some (v,(bH r,[],()),())) _) _
 by_cases bZ:bH r=0
 case neg =>
  rw [c4 bZ]
  exact br.no (bH r) bZ rfl rfl
 rw [dL bZ]
 simp only [cond_false,nc]
 obtain ⟨j,hj⟩:=hr.there bZ
 have hjl:=cq hj
 show br v c x (Option.bind (fF (v,bu r,())) _) (Option.bind (e8 (v,bu r,())) _) _
 rw [nw v _ hl hj,jr v _ hl hj]
 simp only [ak,List.isEmpty_cons,Bool.not_false,cond_true]
 rw [hq,amw]
 unfold Mh
 rw [amx,amA]
 show br v c x (cond (aG x==2) (cond (bB (nameOf r) []) _ _) _) (cond (aG x==2) (cond (bB (nameOf r) []) _ _) _) _
 have amE:nameOf r=[]→kindOf (J I v.2.1 j)=2:=by
  intro h
  obtain ⟨eW,h1,h2⟩:=hr.bare bZ h
  rw [hj] at h1
  rw [aX h1];exact h2
 by_cases cX:aG x=2∧nameOf r=[]
 ·rw [cA cX.1,nz.2 cX.2]
  exact br.no 16 (by decide) rfl rfl
 have qh:∀ {α : Type} (a b : α),cond (aG x==2) (cond (bB (nameOf r) []) a b) b=b:=by
  intro α a b
  by_cases h2:aG x=2
  ·rw [cA h2]
   have:bB (nameOf r) []=false:=by
    rw [← Bool.not_eq_true,nz];exact fun h=>cX ⟨h2,h⟩
   rw [this];rfl
  ·rw [bV h2];rfl
 rw [qh,qh]
 unfold Mi Nk
 rw [amy,amB]
 show br v c x (cond (aG x==2) (cond (kindOf (J I v.2.1 j) != 2) _ _) _) (cond (aG x==2) (cond (kindOf (J I v.2.1 j) != 2) _ _) _) _
 by_cases hT:aG x=2∧kindOf (J I v.2.1 j)≠2
 ·rw [cA hT.1,c4 hT.2]
  exact br.no 20 (by decide) rfl rfl
 have aai:∀ {α : Type} (a b : α),cond (aG x==2) (cond (kindOf (J I v.2.1 j) != 2) a b) b=b:=by
  intro α a b
  by_cases h2:aG x=2
  ·rw [cA h2,dL (Decidable.byContradiction fun h=>hT ⟨h2,h⟩)];rfl
  ·rw [bV h2];rfl
 rw [aai,aai]
 unfold Mj Nl
 rw [amz,amC]
 show br v c x (cond (aG x==8) (cond (kindOf (J I v.2.1 j)==2) _ _) _) (cond (aG x==8) (cond (kindOf (J I v.2.1 j)==2) _ _) _) _
 by_cases cd:aG x=8∧kindOf (J I v.2.1 j)=2
 ·rw [cA cd.1,cA cd.2]
  exact br.no 21 (by decide) rfl rfl
 have aaj:∀ {α : Type} (a b : α),cond (aG x==8) (cond (kindOf (J I v.2.1 j)==2) a b) b=b:=by
  intro α a b
  by_cases h2:aG x=8
  ·rw [cA h2,bV (fun h=>cd ⟨h2,h⟩)];rfl
  ·rw [bV h2];rfl
 rw [aaj,aaj]
 have j1:nameOf r≠[]:=by
  intro h
  rcases hk with h2 | c7
  ·exact cX ⟨h2,h⟩
  ·exact cd ⟨c7,amE h⟩
 obtain ⟨Bb,pH,d,ah,iW,wj⟩:=hr.named bZ j1
 have hdl:=cq ah
 have ju:=hv.ino d hdl.1
 unfold Mk Nn
 show br v c x (Option.bind (ni ((v,c,x,()),cf r,())) _) (Option.bind (e8 (v,cf r,())) _) _
 rw [Ba v c x _ hl hc ah,jr v _ hl ah]
 simp only [ak]
 rw [pI c _ 3 hc]
 simp only [ak]
 cases hm:may c (J I v.2.1 d) 3 with
 | false=>exact br.no 13 (by decide) rfl rfl
 | true =>
 simp only [Bool.not_true,cond_false]
 show br v c x (Option.bind (fF (v,cf r,())) _) _ _
 rw [nw v _ hl ah]
 simp only [ak,List.isEmpty_cons,Bool.not_false,cond_true]
 show br v c x (Option.bind (sg (c,J I v.2.1 d,J I v.2.1 j,())) _) _ _
 rw [P1 c _ _ hc,P0 c _ _ hc]
 simp only [ak]
 cases ht:pJ c (J I v.2.1 d) (J I v.2.1 j) with
 | false=>exact br.no 1 (by decide) rfl rfl
 | true =>
 simp only [Bool.not_true,cond_false]
 show br v c x (cond (aG x==2) (cond (decide (((ax (J I v.2.1 j)).length:Int)>0)) _ _) _) (cond (decide (((ax (J I v.2.1 j)).length:Int)>0)) _ _) _
 rw [v' v hl (fun i hi=>Nat.le_trans (fZ hi) cp.db)]
 simp only [ak]
 show br v c x (cond (aG x==2) (cond (decide (((ax (J I v.2.1 j)).length:Int)>0)) (some (39,(v,c,x,()),())) (Option.bind (oh ((v,c,x,()),cf r,nameOf r,true,())) fun v4=>some (0,v4.1,()))) (Option.bind (oh ((v,c,x,()),cf r,nameOf r,true,())) fun v4=>some (0,v4.1,())))
  (cond (decide (((ax (J I v.2.1 j)).length:Int)>0)) (some (v,(39,[],()),())) (Option.bind (ot (v,cf r,nameOf r,())) fun v5=>some (v5.1,(0,[],()),()))) _
 rw [Qe v c x _ _ true hl cp.db ah,Qj v _ _ hl cp.db ah ju.sorted]
 simp only [ak,cond_true]
 by_cases h0:ax (J I v.2.1 j)=[]
 ·rw [h0,show decide ((([]:List au.D).length:Int)>0)=false from rfl]
  have:Qr v c x (oD v d (nameOf r)):=⟨r,d,j,hr,bZ,j1,ah,iW,wj,hj,h0,fun h=>Decidable.byContradiction fun h'=>hT ⟨h,h'⟩,fun h h'=>cd ⟨h,h'⟩,rfl⟩
  refine⟨0,oD v d (nameOf r),?_,rfl,fun _=>this⟩
  cases aG x==2 <;> rfl
 ·have amF:0<(ax (J I v.2.1 j)).length:=List.length_pos_iff.2 h0
  have o3:kindOf (J I v.2.1 j)=2:=Decidable.byContradiction fun h=>h0 ((hv.ino j hjl.1).plain h).2.2
  have hk2:aG x=2:=by
   rcases hk with h | h
   ·exact h
   ·exact absurd ⟨h,o3⟩ cd
  rw [decide_eq_true (by omega),cA hk2]
  exact br.no 39 (by decide) rfl rfl
def Be(v:af.D)(i:Nat)(s:aS)(id:Int):af.D:=(v.1,v.2.1.set i (cT (J I v.2.1 i) (ins (ax (J I v.2.1 i)) s id)),())
structure aak(v:af.D)(c:aP.D)(x:aN.D)(w:af.D):Prop where
 out:∃r t i j,lK v.2.1 r∧bH r=0∧bG v.2.1 (bu r)=some j∧kindOf (J I v.2.1 j)≠2∧lK v.2.1 t∧bH t=2∧nameOf t≠[]∧bG v.2.1 (cf t)=some i∧kindOf (J I v.2.1 i)=2 ∧
  (ax (J I v.2.1 i)).length<12∧w=Be v i (nameOf t) (bu r)∧f_ w.2.1=0∧eT (v,c,eZ x,false,())=some (r,())∧eT (v,c,iX x,false,())=some (t,())
theorem amG{v:af.D}(hv:cG v){i:Nat}(hi:i<v.2.1.length)(hk:kindOf (J I v.2.1 i)=2)(s:aS){id:Int}(cd:(bG v.2.1 id).isSome=true):al 1000 (Be v i s id).2.1:=by
 have:=hv.st.set (k:=1) (i:=i) (y:=cT (J I v.2.1 i) (ins (ax (J I v.2.1 i)) s id)) hi rfl (by
  intro e he
  rcases ym.1 he with he | rfl
  ·exact hv.iV i hi e he
  ·exact cd) (fun h=>absurd hk h) (by show(ins (ax (J I v.2.1 i)) s id).length≤_;rw [A7];omega) (Nat.le_add_right _ _)
 exact this.mono (by omega)
theorem amH(v:af.D)(c:aP.D)(x:aN.D)(hv:cG v)(hc:dY c=true)(hx:jv x):br v c x (Er ((v,c,x,()),())) (F9 (v,c,x,())) (aak v c x):=by
 have cp:=hv.iY
 have hl:v.2.1.length≤1048576:=cp.len
 have av:=hx.path
 have amI:=hx.wg
 show br v c x (Mm (v,c,x,())) (Np v c x) _
 unfold Mm Np
 obtain ⟨r,⟨hr,_⟩,Bd,fx⟩:=A6 v c x (eZ x) false cp hc (by omega)
 show br v c x (Option.bind (kP ((v,c,x,()),eZ x,false,())) _) (Option.bind (eT (v,c,eZ x,false,())) _) _
 rw [Bd,fx]
 simp only [ak]
 show br v c x (cond (bH r != 0) (some (bH r,(v,c,x,()),())) _) (cond (bH r != 0) (some (v,(bH r,[],()),())) _) _
 by_cases bZ:bH r=0
 case neg =>
  rw [c4 bZ]
  exact br.no (bH r) bZ rfl rfl
 rw [dL bZ]
 simp only [cond_false]
 obtain ⟨j,hj⟩:=hr.there bZ
 have hjl:=cq hj
 show br v c x (Option.bind (zS (v,bu r,())) _) (Option.bind (xX (v,bu r,())) _) _
 rw [Zt v _ hl,Zs v _ hl]
 simp only [ak]
 cases Qs:oC v.2.1 (bu r) with
 | true=>exact br.no 1 (by decide) rfl rfl
 | false =>
 simp only [cond_false]
 have o3:kindOf (J I v.2.1 j)≠2:=by
  unfold oC at Qs
  rw [hj] at Qs
  exact beq_eq_false_iff_ne.1 Qs
 obtain ⟨t,cE,code,Qm,Qn,Qo⟩:=Z1 v c x (iX x) cp hc (by omega)
 show br v c x (Option.bind (uZ ((v,c,x,()),iX x,())) _) (Option.bind (vq (v,c,iX x,())) _) _
 rw [Qm,Qn]
 simp only [ak]
 by_cases Iw:code=0
 case neg =>
  rw [c4 Iw]
  exact br.no code Iw rfl rfl
 obtain ⟨rfl,ht,aal,htn,Qp⟩:=Qo Iw
 rw [dL Iw]
 simp only [cond_false]
 obtain ⟨Bb,pH,d,ah,iW,wj⟩:=ht.new aal htn
 have hdl:=cq ah
 show br v c x (Option.bind (ni ((v,c,x,()),cf cE,())) _) (Option.bind (e8 (v,cf cE,())) _) _
 rw [Ba v c x _ hl hc ah,jr v _ hl ah]
 simp only [ak]
 rw [pI c _ 3 hc]
 simp only [ak]
 cases hm:may c (J I v.2.1 d) 3 with
 | false=>exact br.no 13 (by decide) rfl rfl
 | true =>
 simp only [Bool.not_true,cond_false]
 show br v c x (Option.bind (fF (v,cf cE,())) _) _ _
 rw [nw v _ hl ah]
 simp only [ak,List.isEmpty_cons,Bool.not_false,cond_true]
 have ju:=hv.ino d hdl.1
 have aaf:=(ju.dir iW).2.2.2
 show br v c x (cond (((ax (J I v.2.1 d)).length:Int)==12) _ _) (cond (decide (((ax (J I v.2.1 d)).length:Int)≥12)) _ _) _
 by_cases kp:(ax (J I v.2.1 d)).length=12
 ·rw [show(((ax (J I v.2.1 d)).length:Int)==12)=true by rw [kp];rfl,decide_eq_true (by omega)]
  exact br.no 28 (by decide) rfl rfl
 rw [show(((ax (J I v.2.1 d)).length:Int)==12)=false by rw [beq_eq_false_iff_ne];omega,decide_eq_false (show ¬((ax (J I v.2.1 d)).length:Int)≥12 by omega)]
 simp only [cond_false]
 rw [v' v hl (fun i hi=>Nat.le_trans (fZ hi) cp.db)]
 simp only [ak]
 have hnl:=Nat.le_trans (fZ hdl.1) cp.db
 show br v c x (Option.bind (sf ((v,c,x,()),cf cE,nameOf cE,bu r,())) _) (Option.bind (sq (v,cf cE,nameOf cE,bu r,())) _) _
 rw [Qd v c x _ _ _ hl ah hnl,Qf v _ _ _ hl ah hnl (Qk wj fun e he=>hv.Ql hdl.1 he)]
 simp only [ak]
 show br v c x (Option.bind (nj ((Be v d (nameOf cE) (bu r),c,x,()),())) fun bn=>some (bn.1,(Be v d (nameOf cE) (bu r),c,x,()),())) (Option.bind (qN (v,Be v d (nameOf cE) (bu r),())) fun bM=>some (bM.1,bM.2.1,())) _
 have hst:=amG hv hdl.1 iW (nameOf cE) (id:=bu r) (by rw [hj];rfl)
 rw [A9 _ c x hst (by omega),A_ v _ hst (by omega)]
 exact⟨_,_,rfl,rfl,fun h=>⟨r,cE,d,j,hr,bZ,hj,o3,ht,aal,htn,ah,iW,by omega,rfl,h,fx,Qp⟩⟩
def nA(l:List a6):Nat→Int→Int→Bool
 | 0,_,_=>false
 | k+1,id,top=>cond (id==top) true (cond (id==1) false (nA l k (kA l id) top))
theorem amJ(v:af.D)(id top:Int)(hl:v.2.1.length≤1048576)(hn:dt v.2.1≤1048576):Au (v,id,top,())=some (nA v.2.1 (v.2.1.length+1) id top,()):=by
 show Ga (vw aK) v id top=_
 unfold Ga
 have key:∀(r k m:Nat) (id:Int),k+r=v.2.1.length+1→r<m→vw m id top (k:Int) v=some (nA v.2.1 r id top,()):=by
  intro r
  induction r with
  | zero =>
   intro k m id hk hm
   obtain ⟨m,rfl,_⟩:=fuel hm
   simp only [vw,Gb]
   rw [decide_eq_false (by omega)];rfl
  | succ r ih =>
   intro k m id hk hm
   obtain ⟨m,rfl,o0⟩:=fuel hm
   simp only [vw,Gb]
   rw [decide_eq_true (show(k:Int)≤(v.2.1.length:Int) by omega),Zv v id hl hn,de k (by omega)]
   simp only [cond_true,ak]
   rw [ih (k+1) m _ (by omega) (by omega),nA]
   cases id==top <;> cases id==1 <;> rfl
 exact key (v.2.1.length+1) 0 aK id (by omega) (jk (by omega))
theorem aam{α : Type}{f : α → Nat} : ∀ {l:List α},(∀x,x∈l→f x=0)→(l.map f).sum=0
 | [],_=>rfl
 | x :: l,h=>by
  simp only [List.map_cons,List.sum_cons]
  rw [h x List.mem_cons_self,aam fun y a_=>h y (List.mem_cons_of_mem _ a_)]
def up(l:List a6):Nat→Int→Int
 | 0,d=>d
 | k+1,d=>up l k (kA l d)
theorem Qt{α : Type}(f : α → Nat):∀(l:List α) (i j:Nat) (hi:i<l.length) (hj:j<l.length),i<j→f l[i]+f l[j]≤(l.map f).sum
 | [],_,_,hi,_,_=>by simp at hi
 | x :: l,i,j+1,hi,hj,nL=>by
  cases i with
  | zero =>
   simp only [List.getElem_cons_zero,List.getElem_cons_succ,List.map_cons,List.sum_cons]
   have:=H7 (f:=f) (List.getElem_mem (l:=l) (by simpa using hj:j<l.length))
   omega
  | succ i =>
   simp only [List.getElem_cons_succ,List.map_cons,List.sum_cons]
   have:=Qt f l i j (by simpa using hi) (by simpa using hj) (by omega)
   omega
theorem Qu{N:List au.D}{id:Int} : pK N id=true↔0<gW N id:=by
 constructor
 ·intro h
  obtain ⟨j,h1,h2,_⟩:=Ic h
  unfold kW at h2
  exact List.length_pos_of_mem (List.mem_filter.2 ⟨gX h1,h2⟩)
 ·intro h
  obtain ⟨d,ah⟩:=List.exists_mem_of_length_pos h
  obtain ⟨h1,h2⟩:=List.mem_filter.1 ah
  obtain ⟨i,hi,he⟩:=jL h1
  cases hb:pK N id with
  | true=>rfl
  | false =>
   have:=P4 hb i hi
   unfold kW at this
   rw [he,h2] at this;cases this
theorem Ix{l:List a6}(ah:ox l){b d:Int}(h1:eE l d=1)(h:E l b d):kA l d=b:=by
 obtain ⟨i,e,hi,he,rfl⟩:=h
 obtain ⟨bN,oy⟩:=cq hi
 have hci:0<gW (ax (J I l i)) e.2.1:=List.length_pos_of_mem (List.mem_filter.2 ⟨he,by simp⟩)
 unfold kA
 cases av:Ib l e.2.1 with
 | none =>
  have:=lH.1 av i bN
  rw [Qu.2 hci] at this;cases this
 | some j =>
  obtain ⟨hj,amK,_⟩:=hW.1 av
  have aan:=Qu.1 amK
  have:j=i:=by
   refine Decidable.byContradiction fun hne=>?_
   rcases Nat.lt_or_gt_of_ne hne with h | h
   ·have:=Qt (fun x=>gW (ax x) e.2.1) l j i hj bN h
    rw [di hj] at aan
    rw [di bN] at hci
    unfold eE at h1
    have h2:gW (ax l[j]) e.2.1+gW (ax l[i]) e.2.1≤(l.map fun x=>gW (ax x) e.2.1).sum:=this
    omega
   ·have:=Qt (fun x=>gW (ax x) e.2.1) l i j bN hj h
    rw [di hj] at aan
    rw [di bN] at hci
    unfold eE at h1
    have h2:gW (ax l[i]) e.2.1+gW (ax l[j]) e.2.1≤(l.map fun x=>gW (ax x) e.2.1).sum:=this
    omega
  subst this
  exact oy
theorem cG.Qv{v:af.D}(h:cG v){a:Int} : ¬iR v.2.1 a 1:=by
 intro hb
 have hE:∀b,¬E v.2.1 b 1:=by
  rintro b ⟨i,d,hi,ah,he⟩
  exact((h.ino i (cq hi).1).names d ah).2.1 he
 cases hb with
 | single h=>exact hE _ h
 | tail _ h=>exact hE _ h
theorem cG.aao{v:af.D}(h:cG v){b d:Int}(he:E v.2.1 b d):d≠1:=by
 rintro rfl
 exact h.Qv (.single he)
theorem cG.Qw{v:af.D}(h:cG v){d:Int}(ah:lJ v.2.1 d)(h1:d≠1):eE v.2.1 d=1:=by
 obtain ⟨i,hi,hk⟩:=ah
 obtain ⟨bN,cd⟩:=cq hi
 have:=h.once i (by
  rcases Nat.eq_zero_or_pos i with h0 | h0
  ·subst h0
   exact absurd ((show(J I v.2.1 0).1=1 from h.root.1).symm.trans cd).symm h1
  ·exact h0) bN hk
 rwa [cd] at this
theorem cG.amL{v:af.D}(h:cG v){b d:Int}(he:E v.2.1 b d):lJ v.2.1 b:=by
 obtain ⟨i,e,hi,hm,_⟩:=he
 refine⟨i,hi,Decidable.byContradiction fun hk=>?_⟩
 rw [((h.ino i (cq hi).1).plain hk).2.2] at hm
 simp at hm
theorem cG.amM{v:af.D}(h:cG v){a d:Int}(ah:lJ v.2.1 d)(h1:d≠1):iR v.2.1 a d↔a=kA v.2.1 d∨iR v.2.1 a (kA v.2.1 d):=by
 have ho:=h.Qw ah h1
 constructor
 ·intro hb
  cases hb with
  | single he=>exact .inl (Ix h.iv ho he).symm
  | tail hb he=>rw [Ix h.iv ho he];exact .inr hb
 ·intro hb
  have hE:E v.2.1 (kA v.2.1 d) d:=by
   cases av:Ib v.2.1 d with
   | none =>
    exfalso
    have h0:=lH.1 av
    have:eE v.2.1 d=0:=by
     unfold eE
     refine aam fun x hx=>?_
     obtain ⟨i,hi,aD⟩:=jL hx
     have:=h0 i hi
     rw [aD] at this
     refine Decidable.byContradiction fun hc=>?_
     rw [Qu.2 (by omega)] at this;cases this
    omega
   | some i =>
    obtain ⟨hi,hh,_⟩:=hW.1 av
    obtain ⟨j,hj,aap,_⟩:=Ic hh
    unfold kA
    rw [av]
    exact⟨i,J au (ax (J I v.2.1 i)) j,h.iv i hi,gX hj,by unfold kW at aap;simpa using aap⟩
  rcases hb with rfl | hb
  ·exact .single hE
  ·exact .tail hb hE
theorem amN{v:af.D}(h:cG v)(top:Int):∀(n k:Nat) (d:Int),lJ v.2.1 d→up v.2.1 n d=1→n<k→(nA v.2.1 k d top=true↔d=top∨iR v.2.1 top d):=by
 intro n
 induction n with
 | zero =>
  intro k d ah hu hk
  obtain ⟨k,rfl,_⟩:=fuel hk
  have hu:d=1:=hu
  subst hu
  rw [nA]
  by_cases h1:(1:Int)=top
  ·rw [cA h1];exact⟨fun _=>.inl h1,fun _=>rfl⟩
  ·rw [bV h1]
   exact⟨fun h=>(by cases h),fun h'=>h'.elim (fun h=>absurd h h1) fun hb=>absurd hb h.Qv⟩
 | succ n ih =>
  intro k d ah hu hk
  obtain ⟨k,rfl,eN⟩:=fuel hk
  rw [nA]
  by_cases h1:d=top
  ·rw [cA h1];exact⟨fun _=>.inl h1,fun _=>rfl⟩
  ·rw [bV h1]
   by_cases h2:d=1
   ·rw [cA h2]
    subst h2
    exact⟨fun h=>(by cases h),fun h'=>h'.elim (fun h=>absurd h h1) fun hb=>absurd hb h.Qv⟩
   ·rw [bV h2]
    simp only [cond_false]
    rw [ih k (kA v.2.1 d) (P' h.iY _) hu (by omega),h.amM ah h2]
    constructor
    ·rintro (h | h)
     ·exact .inr (.inl h.symm)
     ·exact .inr (.inr h)
    ·rintro (h | h | h)
     ·exact absurd h h1
     ·exact .inl h.symm
     ·exact .inr h
theorem up_add(l:List a6)(a:Nat):∀(b:Nat) (d:Int),up l (a+b) d=up l a (up l b d)
 | 0,_=>rfl
 | b+1,d=>up_add l a b (kA l d)
theorem cG.amO{v:af.D}(h:cG v){d:Int}(ah:lJ v.2.1 d):∃n,up v.2.1 n d=1:=by
 obtain ⟨i,hi,hk⟩:=ah
 obtain ⟨bN,cd⟩:=cq hi
 rcases Nat.eq_zero_or_pos i with h0 | h0
 ·subst h0
  exact⟨0,cd.symm.trans (show(J I v.2.1 0).1=1 from h.root.1)⟩
 ·have hb:=h.reach i h0 bN
  rw [cd] at hb
  have key:∀d,iR v.2.1 1 d→lJ v.2.1 d→∃n,up v.2.1 n d=1:=by
   intro d hb
   induction hb with
   | single he =>
    intro ah
    have h1:=h.aao he
    exact⟨1,Ix h.iv (h.Qw ah h1) he⟩
   | tail hb he ih =>
    intro ah
    have h1:=h.aao he
    obtain ⟨n,hn⟩:=ih (h.amL he)
    exact⟨n+1,by show up v.2.1 n (kA v.2.1 _)=1;rw [Ix h.iv (h.Qw ah h1) he];exact hn⟩
  exact key d hb ⟨i,hi,hk⟩
theorem least{P:Nat→Prop} : ∀n,P n→∃m,P m∧∀k,k<m→¬P k:=by
 intro n
 induction n using Nat.strongRecOn with
 | _ n ih =>
  intro hn
  by_cases h:∃k,k<n∧P k
  ·obtain ⟨k,hk,av⟩:=h
   exact ih k hk av
  ·exact⟨n,hn,fun k hk av=>h ⟨k,hk,av⟩⟩
theorem aaq{v:af.D}(h:cG v):∀(n:Nat) {d:Int},lJ v.2.1 d→lJ v.2.1 (up v.2.1 n d)
 | 0,_,ah=>ah
 | n+1,d,_=>aaq h n (P' h.iY d)
theorem cG.amP{v:af.D}(h:cG v){d:Int}(ah:lJ v.2.1 d):∃n,n<v.2.1.length∧up v.2.1 n d=1:=by
 obtain ⟨amQ,h0⟩:=h.amO ah
 obtain ⟨n,hn,amR⟩:=least (P:=fun n=>up v.2.1 n d=1) amQ h0
 refine⟨n,?_,hn⟩
 have hT:((List.range (n+1)).map fun i=>up v.2.1 i d).Nodup:=by
  unfold List.Nodup
  rw [List.pairwise_iff_getElem]
  intro i j hi hj nL he
  simp only [List.length_map,List.length_range] at hi hj
  simp only [List.getElem_map,List.getElem_range] at he
  refine amR (n-(j-i)) (by omega) ?_
  show up v.2.1 (n-(j-i)) d=1
  rw [show n-(j-i)=(n-j)+i by omega,up_add,he,← up_add,show n-j+j=n by omega]
  exact hn
 have tI:((List.range (n+1)).map fun i=>up v.2.1 i d)⊆v.2.1.map fun x=>x.1:=by
  intro a ha
  obtain ⟨i,_,rfl⟩:=List.mem_map.1 ha
  obtain ⟨j,hj,_⟩:=aaq h i ah
  obtain ⟨h1,h2⟩:=cq hj
  exact List.mem_map.2 ⟨_,gX h1,h2⟩
 have:=hT.length_le_of_subset tI
 simp only [List.length_map,List.length_range] at this
 omega
theorem aar{v:af.D}(h:cG v){d:Int}(ah:lJ v.2.1 d)(top:Int):nA v.2.1 (v.2.1.length+1) d top=true↔d=top∨iR v.2.1 top d:=by
 obtain ⟨n,h1,h2⟩:=h.amP ah
 exact amN h top n _ d ah h2 (by omega)
theorem yn{N:List au.D}(t:aS)(h:jt N):N.takeWhile (dZ t)=N.filter (dZ t)∧N.dropWhile (dZ t)=N.filter fun d => !dZ t d:=by
 induction N with
 | nil=>exact⟨rfl,rfl⟩
 | cons d r ih =>
  obtain ⟨h1,h2⟩:=List.pairwise_cons.1 h
  obtain ⟨i1,i2⟩:=ih h2
  rw [List.takeWhile_cons,List.dropWhile_cons,List.filter_cons,List.filter_cons]
  cases ah:dZ t d with
  | true=>simp [i1,i2]
  | false =>
   have eI:∀e,e∈r→dZ t e=false:=by
    intro e he
    have h3:=h1 e he
    cases hk:dZ t e with
    | false=>rfl
    | true =>
     have:=A4 h3 hk
     unfold dZ at ah
     rw [ah] at this;cases this
   have f1:r.filter (dZ t)=[]:=List.filter_eq_nil_iff.2 fun e he=>by rw [eI e he];simp
   have f2:(r.filter fun d => !dZ t d)=r:=List.filter_eq_self.2 fun e he=>by rw [eI e he];rfl
   simp [f1,f2]
theorem Bf{N:List au.D}(h:jt N)(s:aS):jt (c5 N s):=List.Pairwise.sublist List.filter_sublist h
theorem amS{N:List au.D}(h:jt N){r t:aS}{id:Int}(hne:t≠r):c5 (ins N t id) r=ins (c5 N r) t id:=by
 unfold ins
 rw [(yn t h).1,(yn t h).2,(yn t (Bf h r)).1,(yn t (Bf h r)).2]
 unfold c5
 rw [List.filter_append,List.filter_append,List.filter_cons,List.filter_nil,List.filter_filter,List.filter_filter,List.filter_filter,List.filter_filter]
 have:bB t r=false:=by unfold bB;simpa using hne
 rw [this]
 simp only [Bool.not_false,if_true]
 congr 1
 ·congr 1
  exact List.filter_congr fun d _=>Bool.and_comm _ _
 ·exact List.filter_congr fun d _=>Bool.and_comm _ _
theorem amT{N:List au.D}(h:jt N){t:aS}{id:Int}(hn:∀d,d∈N→d.1≠t):jt (ins N t id):=by
 unfold ins
 rw [(yn t h).1,(yn t h).2]
 unfold jt
 rw [List.append_assoc,List.pairwise_append]
 refine⟨List.Pairwise.sublist List.filter_sublist h,?_,fun a ha b hb=>?_⟩
 ·rw [List.singleton_append,List.pairwise_cons]
  refine⟨fun b hb=>?_,List.Pairwise.sublist List.filter_sublist h⟩
  obtain ⟨h1,h2⟩:=List.mem_filter.1 hb
  unfold dZ at h2
  rw [P7 (hn b h1)]
  exact h2
 ·obtain ⟨h1,h2⟩:=List.mem_filter.1 ha
  have h2:dv a.1 t=true:=h2
  rcases List.mem_append.1 hb with hb | hb
  ·simp only [List.mem_singleton] at hb
   subst hb;exact h2
  ·obtain ⟨h3,h4⟩:=List.mem_filter.1 hb
   unfold dZ at h4
   refine A4 h2 ?_
   rw [P7 (hn b h3)]
   exact h4
theorem aas{N:List au.D}(h:jt N){d:au.D}(ah:d∈N):ee N d.1=d.2.1:=by
 rw [look_eq]
 induction N with
 | nil=>simp at ah
 | cons e r ih =>
  obtain ⟨h1,h2⟩:=List.pairwise_cons.1 h
  rw [A']
  rcases List.mem_cons.1 ah with rfl | ah
  ·have:bB d.1 d.1=true:=by unfold bB;simp
   rw [this];rfl
  ·have:bB e.1 d.1=false:=by unfold bB;simpa using ZJ (h1 d ah)
   rw [this]
   exact ih h2 ah
theorem amU{N:List au.D}{s:aS} : ∀d,d∈c5 N s→d.1≠s:=by
 intro d ah
 have:=(List.mem_filter.1 ah).2
 unfold bB at this
 simpa using this
theorem Qx{N:List au.D}{s:aS}{d:au.D}(h:d∈c5 N s):d∈N:=(List.mem_filter.1 h).1
def gG(l:List a6)(ir:Nat)(fW:aS):List a6:=l.set ir (cT (J I l ir) (c5 (ax (J I l ir)) fW))
def hH(l:List a6)(it:Nat)(jw:aS)(ca:Int):List a6:=l.set it (cT (J I l it) (ins (ax (J I l it)) jw ca))
def iZ(l:List a6)(ir:Nat)(fW:aS)(it:Nat)(jw:aS)(ca:Int):List a6:=hH (gG l ir fW) it jw ca
structure wk(l:List a6)(rd wm:Int)(ir it:Nat)(fW jw:aS)(ca:Int):Prop where
 st:al 1000 l
 hr:bG l rd=some ir
 ht:bG l wm=some it
 aat:kindOf (J I l ir)=2
 amV:kindOf (J I l it)=2
 Lh:jt (ax (J I l ir))
 amW:jt (ax (J I l it))
 look:ee (ax (J I l ir)) fW=ca
 amX:ca≠0
 ex:(bG l ca).isSome=true
 no:∀d,d∈ax (J I l it)→d.1≠jw
 ne:ir=it→fW≠jw
theorem amY(x:a6)(N:List au.D):(cT x N).1=x.1:=rfl
theorem Qy{l:List a6}{i:Nat}(N:List au.D)(hi:i<l.length)(id:Int):bG (l.set i (cT (J I l i) N)) id=bG l id:=Qg hi (amY _ N) id
theorem aau{l:List a6}{ir:Nat}{fW:aS}(hi:ir<l.length)(id:Int):bG (gG l ir fW) id=bG l id:=Qy _ hi id
theorem amZ{l:List a6}{it:Nat}{jw:aS}{ca:Int}(hi:it<l.length)(id:Int):bG (hH l it jw ca) id=bG l id:=Qy _ hi id
theorem am0{l:List a6}{rd wm:Int}{ir it:Nat}{fW jw:aS}{ca:Int}(h:wk l rd wm ir it fW jw ca):gG (hH l it jw ca) ir fW=iZ l ir fW it jw ca:=by
 have hr:=(cq h.hr).1
 have ht:=(cq h.ht).1
 unfold iZ gG hH
 rw [kB ht,kB hr]
 by_cases he:it=ir
 ·subst he
  rw [if_pos rfl,if_pos rfl,List.set_set,List.set_set,mA,mA,amS h.Lh (fun e=>h.ne rfl e.symm)]
  rfl
 ·rw [if_neg he,if_neg (fun e=>he e.symm),List.set_comm _ _ he]
theorem aav{l:List a6}{rd wm:Int}{ir it:Nat}{fW jw:aS}{ca:Int}(h:wk l rd wm ir it fW jw ca):al 1001 (gG l ir fW)∧al 1003 (iZ l ir fW it jw ca):=by
 have hr:=(cq h.hr).1
 have ht:=(cq h.ht).1
 have h1:al 1001 (gG l ir fW):=h.st.set (k:=1) hr rfl (fun d ah=>h.st.iV ir hr d (Qx ah)) (fun hk=>absurd h.aat hk) (Nat.le_trans (A8 _ _) (by omega)) (Nat.le_add_right _ _)
 have aD:kindOf (J I (gG l ir fW) it)=2∧(J I (gG l ir fW) it).1=wm:=by
  unfold gG
  rw [kB hr]
  split
  ·rename_i he;exact⟨h.aat,by show(J I l ir).1=wm;rw [he];exact(cq h.ht).2⟩
  ·exact⟨h.amV,(cq h.ht).2⟩
 have hex:∀id,(bG (gG l ir fW) id).isSome=(bG l id).isSome:=fun id=>by rw [aau hr]
 refine⟨h1,(h1.set (k:=1) (i:=it) (y:=cT (J I (gG l ir fW) it) (ins (ax (J I (gG l ir fW) it)) jw ca)) (by unfold gG;rw [List.length_set];exact ht) rfl (fun d ah=>?_) (fun hk=>absurd aD.1 hk) (by rw [mA,A7];omega) (Nat.le_add_right _ _)).mono (by omega)⟩
 rcases ym.1 ah with ah | rfl
 ·exact h1.iV it (by unfold gG;rw [List.length_set];exact ht) d ah
 ·rw [hex];exact h.ex
theorem am1(m:Nat)(a b d):(iP (m+1)).oj a b d=Mr (iP m) a b d:=rfl
theorem am2(m:Nat)(a b d e):(iP (m+1)).qC a b d e=Mq (iP m) a b d e:=rfl
theorem am3(m:Nat)(a b d e):(iP (m+1)).dr a b d e=Mp (iP m) a b d e:=rfl
theorem am4(m:Nat)(a b d):(iP (m+1)).dG a b d=Mo (iP m) a b d:=rfl
theorem am5(m:Nat)(a b d e f g):(gp (m+1)).mm a b d e f g=Nu (gp m) a b d e f g:=rfl
theorem am6(m:Nat)(a b d e f g h i):(gp (m+1)).Nq a b d e f g h i=Nv (gp m) a b d e f g h i:=rfl
theorem am7(m:Nat)(a b d e f g h i):(gp (m+1)).pt a b d e f g h i=Nt (gp m) a b d e f g h i:=rfl
theorem am8(m:Nat)(a b d e f g h i):(gp (m+1)).gD a b d e f g h i=Ns (gp m) a b d e f g h i:=rfl
theorem am9(m:Nat)(a b d e f g):(gp (m+1)).dG a b d e f g=Nr (gp m) a b d e f g:=rfl
theorem aaw{n:Int}{l:List a6}(c:aP.D)(x:aN.D)(r t:aY.D){ir it:Nat}(h:wk l (cf r) (cf t) ir it (nameOf r) (nameOf t) (bu r))(m:Nat) :
  (iP (m+1)).oj ((n,l,()),c,x,()) r t=some (f_ (iZ l ir (nameOf r) it (nameOf t) (bu r)),((n,iZ l ir (nameOf r) it (nameOf t) (bu r),()),c,x,()),()):=by
 have hr:=(cq h.hr).1
 have ht:=(cq h.ht).1
 obtain ⟨s1,s2⟩:=aav h
 have iF:=h.st.len
 have rJ:=h.st.db
 have qd:=s1.len
 have BW:=s1.db
 rw [am1]
 unfold Mr
 show Option.bind (oh (((n,l,()),c,x,()),cf r,nameOf r,false,())) _=_
 rw [Qe (n,l,()) c x _ _ false (show l.length≤1048576 by omega) (show dt l≤1048576 by omega) h.hr]
 simp only [ak,cond_false]
 show Option.bind (sf (((n,gG l ir (nameOf r),()),c,x,()),cf t,nameOf t,bu r,())) _=_
 have jR:bG (gG l ir (nameOf r)) (cf t)=some it:=by rw [aau hr];exact h.ht
 rw [Qd (n,gG l ir (nameOf r),()) c x _ _ _ (show(gG l ir (nameOf r)).length≤1048576 by omega) jR (by
  have:=fZ (l:=gG l ir (nameOf r)) (i:=it) (cq jR).1
  show(ax (J I (gG l ir (nameOf r)) it)).length≤_
  omega)]
 simp only [ak]
 show Option.bind (nj (((n,iZ l ir (nameOf r) it (nameOf t) (bu r),()),c,x,()),())) (fun v3=>some (v3.1,((n,iZ l ir (nameOf r) it (nameOf t) (bu r),()),c,x,()),()))=_
 rw [A9 (n,iZ l ir (nameOf r) it (nameOf t) (bu r),()) c x s2 (by omega)];rfl
theorem aax{n:Int}{l:List a6}(v:af.D)(z:af.D)(n4:aA.D)(r t:aY.D){ir it:Nat}(h:wk l (cf r) (cf t) ir it (nameOf r) (nameOf t) (bu r))(m:Nat) :
  (gp (m+1)).mm v z n4 r t (n,l,())=some (cond (f_ (iZ l ir (nameOf r) it (nameOf t) (bu r))==0) (n,iZ l ir (nameOf r) it (nameOf t) (bu r),()) v,(f_ (iZ l ir (nameOf r) it (nameOf t) (bu r)),[],()),()):=by
 have hr:=(cq h.hr).1
 have ht:=(cq h.ht).1
 obtain ⟨s1,s2⟩:=aav h
 have iF:=h.st.len
 have rJ:=h.st.db
 have qd:=fZ ht
 rw [am5]
 unfold Nu
 show Option.bind (sq ((n,l,()),cf t,nameOf t,bu r,())) _=_
 rw [Qf (n,l,()) _ _ _ (show l.length≤1048576 by omega) h.ht (show(ax (J I l it)).length≤1048576 by omega) h.no]
 simp only [ak]
 show Option.bind (ot ((n,hH l it (nameOf t) (bu r),()),cf r,nameOf r,())) _=_
 have yp:J I (hH l it (nameOf t) (bu r)) ir=if it=ir then cT (J I l it) (ins (ax (J I l it)) (nameOf t) (bu r)) else J I l ir:=by unfold hH;rw [kB ht]
 have aay:jt (ax (J I (hH l it (nameOf t) (bu r)) ir)):=by
  rw [yp]
  split
  ·rw [mA];exact amT h.amW h.no
  ·exact h.Lh
 have bN:bG (hH l it (nameOf t) (bu r)) (cf r)=some ir:=by rw [amZ ht];exact h.hr
 have Bg:(hH l it (nameOf t) (bu r)).length≤1048576:=by unfold hH;rw [List.length_set];omega
 have am_:dt (hH l it (nameOf t) (bu r))≤1048576:=by
  have:=Iq (l:=l) (y:=cT (J I l it) (ins (ax (J I l it)) (nameOf t) (bu r))) ht
  rw [mA,A7] at this
  unfold hH;omega
 rw [Qj (n,hH l it (nameOf t) (bu r),()) _ _ Bg am_ bN aay]
 have wj:ee (ax (J I (hH l it (nameOf t) (bu r)) ir)) (nameOf r)=bu r:=by
  obtain ⟨e,he,ZQ,zj⟩:=A5 (N:=ax (J I l ir)) (s:=nameOf r) (by rw [h.look];exact h.amX)
  have am':e∈ax (J I (hH l it (nameOf t) (bu r)) ir):=by
   rw [yp]
   split
   ·rename_i hh;rw [mA,hh];exact ym.2 (.inl he)
   ·exact he
  have:=aas aay am'
  rw [ZQ,zj,h.look] at this
  exact this
 rw [show((n,hH l it (nameOf t) (bu r),()):af.D).2.1=hH l it (nameOf t) (bu r) from rfl,wj]
 have pQ:goN ((hH l it (nameOf t) (bu r)).set ir (cT (J I (hH l it (nameOf t) (bu r)) ir) (c5 (ax (J I (hH l it (nameOf t) (bu r)) ir)) (nameOf r)))) (bu r)=iZ l ir (nameOf r) it (nameOf t) (bu r):=by
  have hc:=am0 h
  unfold gG at hc
  rw [hc]
  unfold goN
  rw [decide_eq_false];rfl
  intro h0
  have eB:it<(gG l ir (nameOf r)).length:=by unfold gG;rw [List.length_set];exact ht
  have xw:J I (iZ l ir (nameOf r) it (nameOf t) (bu r)) it∈iZ l ir (nameOf r) it (nameOf t) (bu r):=gX (by unfold iZ hH;rw [List.length_set];exact eB)
  refine Z9 h0 _ xw (nameOf t,bu r,()) ?_ rfl
  unfold iZ hH
  rw [kB eB,if_pos rfl,mA]
  exact ym.2 (.inr rfl)
 rw [pQ]
 simp only [ak]
 show Option.bind (qN (v,(n,iZ l ir (nameOf r) it (nameOf t) (bu r),()),())) _=_
 rw [A_ v (n,iZ l ir (nameOf r) it (nameOf t) (bu r),()) s2 (by omega)];rfl
def Qz(c:aP.D)(d n m:a6):Int :=
 cond (!pJ c d m) 1 (cond (kindOf n==2) (cond (kindOf m != 2) 20 (cond (decide (((ax m).length:Int)>0)) 39 0)) (cond (kindOf m==2) 21 0))
theorem ana(v:af.D)(c:aP.D)(x:aN.D)(n:a6)(t:aY.D)(hl:v.2.1.length≤1048576)(hc:dY c=true){i j:Nat}(hi:bG v.2.1 (cf t)=some i)(hj:bG v.2.1 (bu t)=some j) :
  Es ((v,c,x,()),n,t,())=some (Qz c (J I v.2.1 i) n (J I v.2.1 j),()):=by
 show Mn (v,c,x,()) n t=_
 unfold Mn Qz
 rw [nc]
 show Option.bind (fF (v,bu t,())) _=_
 rw [nw v _ hl hj]
 simp only [ak,List.isEmpty_cons,Bool.not_false,cond_true]
 show Option.bind (fF (v,cf t,())) _=_
 rw [nw v _ hl hi]
 simp only [ak,List.isEmpty_cons,Bool.not_false,cond_true]
 show Option.bind (sg (c,J I v.2.1 i,J I v.2.1 j,())) _=_
 rw [P1 c _ _ hc]
 simp only [ak]
 show cond (!pJ c (J I v.2.1 i) (J I v.2.1 j)) _ (cond (kindOf n==2) (cond (!(kindOf (J I v.2.1 j)==2)) _ (cond (kindOf n==2) (cond (decide (((ax (J I v.2.1 j)).length:Int)>0)) _ (cond (!(kindOf n==2)) (cond (kindOf (J I v.2.1 j)==2) _ _) _)) _)) (cond (kindOf n==2) _ (cond (!(kindOf n==2)) (cond (kindOf (J I v.2.1 j)==2) _ _) _)))=_
 unfold bne
 cases pJ c (J I v.2.1 i) (J I v.2.1 j) <;> cases kindOf n==2 <;> cases kindOf (J I v.2.1 j)==2 <;> cases decide (((ax (J I v.2.1 j)).length:Int)>0) <;> rfl
structure Iy(v:af.D)(c:aP.D)(x:aN.D)(w:af.D):Prop where
 out:∃r t j,lK v.2.1 r∧bH r=0∧nameOf r≠[]∧bG v.2.1 (bu r)=some j∧lK v.2.1 t∧nameOf t≠[]∧(bH t=0∨bH t=2)∧(eT (v,c,eZ x,false,())=some (r,())∧eT (v,c,iX x,false,())=some (t,())) ∧
  (bu t=bu r∧w=v∨bu t≠bu r∧(kindOf (J I v.2.1 j)=2→cf t≠bu r∧¬iR v.2.1 (bu r) (cf t)) ∧
   ∃l ir it,wk l (cf r) (cf t) ir it (nameOf r) (nameOf t) (bu r)∧w=(v.1,iZ l ir (nameOf r) it (nameOf t) (bu r),())∧f_ w.2.1=0 ∧
    ((bu t=0∧l=v.2.1∧(cf r≠cf t→(ax (J I l it)).length<12)) ∨
     (∃i2 eW,bG v.2.1 (cf t)=some i2∧kindOf (J I v.2.1 i2)=2∧bG v.2.1 (bu t)=some eW∧ax (J I v.2.1 eW)=[]∧ee (ax (J I v.2.1 i2)) (nameOf t)=bu t∧(kindOf (J I v.2.1 j)=2↔kindOf (J I v.2.1 eW)=2)∧l=(oD v i2 (nameOf t)).2.1)))
theorem anb{v:af.D}(hv:cG v){i2:Nat}(hi:i2<v.2.1.length)(hk:kindOf (J I v.2.1 i2)=2)(s:aS):al 1000 (oD v i2 s).2.1 ∧
  ∀id,id≠ee (ax (J I v.2.1 i2)) s→∀k,bG v.2.1 id=some k→∃k',bG (oD v i2 s).2.1 id=some k'∧J I (oD v i2 s).2.1 k'=if i2=k then cT (J I v.2.1 i2) (c5 (ax (J I v.2.1 i2)) s) else J I v.2.1 k:=by
 have hs1:al 1000 (v.2.1.set i2 (cT (J I v.2.1 i2) (c5 (ax (J I v.2.1 i2)) s))):=(hv.st.set (k:=0) (y:=cT (J I v.2.1 i2) (c5 (ax (J I v.2.1 i2)) s)) hi rfl (fun d ah=>hv.iV i2 hi d (Qx ah)) (fun h=>absurd hk h) (A8 _ _) (Nat.le_refl _)).mono (by omega)
 refine⟨hs1.go _,fun id hne k cd=>?_⟩
 obtain ⟨nK,ly⟩:=cq cd
 show ∃k',bG (goN (v.2.1.set i2 (cT (J I v.2.1 i2) (c5 (ax (J I v.2.1 i2)) s))) (ee (ax (J I v.2.1 i2)) s)) id=some k'∧J I (goN (v.2.1.set i2 (cT (J I v.2.1 i2) (c5 (ax (J I v.2.1 i2)) s))) (ee (ax (J I v.2.1 i2)) s)) k'=_
 have aD:J I (v.2.1.set i2 (cT (J I v.2.1 i2) (c5 (ax (J I v.2.1 i2)) s))) k=if i2=k then cT (J I v.2.1 i2) (c5 (ax (J I v.2.1 i2)) s) else J I v.2.1 k:=kB hi
 have QA:bG (v.2.1.set i2 (cT (J I v.2.1 i2) (c5 (ax (J I v.2.1 i2)) s))) id=some k:=by rw [Qy _ hi];exact cd
 rw [← aD]
 generalize v.2.1.set i2 (cT (J I v.2.1 i2) (c5 (ax (J I v.2.1 i2)) s))=dn at hs1 QA
 generalize ee (ax (J I v.2.1 i2)) s=gone at hne
 have pQ:=hs1.go gone
 unfold goN at pQ ⊢
 by_cases h0:eE dn gone=0
 ·rw [decide_eq_true h0] at pQ ⊢
  simp only [cond_true] at pQ ⊢
  obtain ⟨h1,h2⟩:=cq QA
  have hm:J I dn k∈dn.filter fun y => !(y.1==gone):=List.mem_filter.2 ⟨gX h1,by rw [h2,Bool.not_eq_true',beq_eq_false_iff_ne];exact hne⟩
  obtain ⟨k',eN,he⟩:=jL hm
  refine⟨k',?_,he⟩
  have:=pQ.iv k' eN
  rwa [he,h2] at this
 ·rw [decide_eq_false h0]
  exact⟨k,QA,rfl⟩
theorem anc(v:af.D)(c:aP.D)(x:aN.D)(hv:cG v)(hc:dY c=true)(hx:jv x):br v c x (Eu ((v,c,x,()),())) (Gd (v,c,x,())) (Iy v c x):=by
 have cp:=hv.iY
 have hl:v.2.1.length≤1048576:=cp.len
 have av:=hx.path
 have amI:=hx.wg
 obtain ⟨q,hq,hQ⟩:=jl 6
 show br v c x (Et (iP aK) (v,c,x,())) (Gc (gp aK) v c x) _
 unfold Et Gc
 obtain ⟨r,⟨hr,_⟩,Bd,fx⟩:=A6 v c x (eZ x) false cp hc (by omega)
 show br v c x (Option.bind (kP ((v,c,x,()),eZ x,false,())) _) (Option.bind (eT (v,c,eZ x,false,())) _) _
 rw [Bd,fx]
 simp only [ak]
 show br v c x (cond (bH r != 0) (some (bH r,(v,c,x,()),())) _) (cond (bH r != 0) (some (v,(bH r,[],()),())) _) _
 by_cases bZ:bH r=0
 case neg =>
  rw [c4 bZ]
  exact br.no (bH r) bZ rfl rfl
 rw [dL bZ]
 simp only [cond_false]
 obtain ⟨t,⟨ht,_⟩,ane,Iz⟩:=A6 v c x (iX x) false cp hc (by omega)
 show br v c x (Option.bind (kP ((v,c,x,()),iX x,false,())) _) (Option.bind (eT (v,c,iX x,false,())) _) _
 rw [ane,Iz]
 simp only [ak]
 show br v c x (cond (bH t != 0) (cond (bH t != 2) (some (bH t,(v,c,x,()),())) (cond (bB (nameOf t) []) (some (bH t,(v,c,x,()),())) ((iP aK).dG (v,c,x,()) r t))) ((iP aK).dG (v,c,x,()) r t))
  (cond (bH t != 0) (cond (bH t != 2) (some (v,(bH t,[],()),())) (cond (bB (nameOf t) []) (some (v,(bH t,[],()),())) ((gp aK).dG v c (0,([]:List I.D),()) (0,([]:aS),()) r t))) ((gp aK).dG v c (0,([]:List I.D),()) (0,([]:aS),()) r t)) _
 by_cases sU:bH t≠0∧(bH t≠2∨nameOf t=[])
 ·rw [c4 sU.1]
  by_cases h2:bH t=2
  ·have pH:nameOf t=[]:=sU.2.elim (fun h=>absurd h2 h) id
   rw [dL h2,nz.2 pH]
   exact br.no (bH t) sU.1 rfl rfl
  ·rw [c4 h2]
   exact br.no (bH t) sU.1 rfl rfl
 have QB:bH t=0∨bH t=2:=by
  by_cases h0:bH t=0
  ·exact .inl h0
  ·exact .inr (Decidable.byContradiction fun h=>sU ⟨h0,.inl h⟩)
 have qh:∀ {α : Type} (a b : α),cond (bH t != 0) (cond (bH t != 2) a (cond (bB (nameOf t) []) a b)) b=b:=by
  intro α a b
  by_cases h0:bH t=0
  ·rw [dL h0];rfl
  ·rw [c4 h0]
   have h2:bH t=2:=Decidable.byContradiction fun h=>sU ⟨h0,.inl h⟩
   rw [dL h2]
   have pH:bB (nameOf t) []=false:=by
    rw [← Bool.not_eq_true,nz]
    exact fun h=>sU ⟨h0,.inr h⟩
   rw [pH];rfl
 rw [qh,qh,hq,am4,am9]
 unfold Mo Nr
 show br v c x (cond (bB (nameOf r) []) _ (cond (bB (nameOf t) []) _ _)) (cond (bB (nameOf r) []) _ (cond (bB (nameOf t) []) _ _)) _
 cases aaz:bB (nameOf r) [] with
 | true=>exact br.no 16 (by decide) rfl rfl
 | false =>
 cases aaA:bB (nameOf t) [] with
 | true=>exact br.no 16 (by decide) rfl rfl
 | false =>
 simp only [cond_false,nc]
 have wi:nameOf r≠[]:=fun h=>by rw [nz.2 h] at aaz;cases aaz
 have htn:nameOf t≠[]:=fun h=>by rw [nz.2 h] at aaA;cases aaA
 obtain ⟨j,hj⟩:=hr.there bZ
 have hjl:=cq hj
 obtain ⟨Bb,arq,hM,oE,aaB,wo⟩:=hr.named bZ wi
 have anf:=cq oE
 obtain ⟨gg,kY,sV,Bh,Bi⟩:∃d,bG v.2.1 (cf t)=some d∧kindOf (J I v.2.1 d)=2∧ee (ax (J I v.2.1 d)) (nameOf t)=bu t∧(bu t=0∨∃eW,bG v.2.1 (bu t)=some eW):=by
  by_cases h0:bH t=0
  ·obtain ⟨a1,a2,d,a3,a4,a5⟩:=ht.named h0 htn
   exact⟨d,a3,a4,a5,.inr (ht.there h0)⟩
  ·have h2:bH t=2:=Decidable.byContradiction fun h=>sU ⟨h0,.inl h⟩
   obtain ⟨a1,a2,d,a3,a4,a5⟩:=ht.new h2 htn
   exact⟨d,a3,a4,by rw [a5,a1],.inl a1⟩
 have QC:=cq kY
 show br v c x (Option.bind (fF (v,bu r,())) _) (Option.bind (e8 (v,cf r,())) fun v1=>Option.bind (e8 (v,cf t,())) fun v2=>Option.bind (e8 (v,bu r,())) _) _
 rw [nw v _ hl hj,jr v _ hl oE,jr v _ hl kY,jr v _ hl hj]
 simp only [ak,List.isEmpty_cons,Bool.not_false,cond_true]
 rw [am3]
 unfold Mp
 show br v c x (Option.bind (ni ((v,c,x,()),cf r,())) fun v1=>cond (!v1.1) _ (Option.bind (ni ((v,c,x,()),cf t,())) _)) _ _
 rw [Ba v c x _ hl hc oE,Ba v c x _ hl hc kY,pI c _ 3 hc,pI c _ 3 hc]
 simp only [ak]
 cases may c (J I v.2.1 hM) 3 with
 | false=>exact br.no 13 (by decide) rfl rfl
 | true =>
 simp only [Bool.not_true,cond_false]
 cases may c (J I v.2.1 gg) 3 with
 | false=>exact br.no 13 (by decide) rfl rfl
 | true =>
 simp only [Bool.not_true,cond_false]
 show br v c x (Option.bind (fF (v,cf r,())) _) _ _
 rw [nw v _ hl oE]
 simp only [ak,List.isEmpty_cons,Bool.not_false,cond_true]
 show br v c x (Option.bind (sg (c,J I v.2.1 hM,J I v.2.1 j,())) _) _ _
 rw [P1 c _ _ hc,P0 c _ _ hc]
 simp only [ak]
 cases pJ c (J I v.2.1 hM) (J I v.2.1 j) with
 | false=>exact br.no 1 (by decide) rfl rfl
 | true =>
 simp only [Bool.not_true,cond_false]
 obtain ⟨out,QD,ang⟩:=PU v hl cp.db (bu r)
 have anh:=amJ v (cf t) (bu r) hl cp.db
 have ani:∀(K:Option (Int×aQ.D×Unit)),cond ((J I v.2.1 j).2.1==2) (cond (t.1==r.2.2.1) (some (22,(v,c,x,()),())) (Option.bind (uG (v,r.2.2.1,())) fun v5=>Option.bind (r9 (v5.1,t.1,())) fun v6=>cond v6.1 (some (22,(v,c,x,()),())) K)) K =
   cond (kindOf (J I v.2.1 j)==2&&nA v.2.1 (v.2.1.length+1) (cf t) (bu r)) (some (22,(v,c,x,()),())) K:=by
  intro K
  show cond (kindOf (J I v.2.1 j)==2) (cond (cf t==bu r) (some (22,(v,c,x,()),())) (Option.bind (uG (v,bu r,())) fun v5=>Option.bind (r9 (v5.1,cf t,())) fun v6=>cond v6.1 (some (22,(v,c,x,()),())) K)) K=_
  cases kindOf (J I v.2.1 j)==2
  ·rfl
  ·simp only [cond_true,Bool.true_and]
   have oy:=aar hv (d:=cf t) ⟨gg,kY,sV⟩ (bu r)
   rw [ang]
   simp only [ak]
   rw [contains_eq _ _ (by
    have:=QD.len
    have:=cp.db
    omega)]
   simp only [ak]
   by_cases h1:cf t=bu r
   ·rw [cA h1,oy.2 (.inl h1)];rfl
   ·rw [bV h1]
    simp only [cond_false]
    by_cases hb:iR v.2.1 (bu r) (cf t)
    ·rw [oy.2 (.inr hb),decide_eq_true ((QD.iff _).2 hb)]
    ·have:nA v.2.1 (v.2.1.length+1) (cf t) (bu r)=false:=by
      rw [← Bool.not_eq_true];exact fun h=>(oy.1 h).elim h1 hb
     rw [this,decide_eq_false (fun h=>hb ((QD.iff _).1 h))]
 have anj:∀(K:Option (af.D×aA.D×Unit)),cond ((J I v.2.1 j).2.1==2) (Option.bind (Au (v,t.1,r.2.2.1,())) fun bn=>cond bn.1 (some (v,(22,[],()),())) K) K =
   cond (kindOf (J I v.2.1 j)==2&&nA v.2.1 (v.2.1.length+1) (cf t) (bu r)) (some (v,(22,[],()),())) K:=by
  intro K
  show cond (kindOf (J I v.2.1 j)==2) (Option.bind (Au (v,cf t,bu r,())) _) K=_
  rw [anh]
  cases kindOf (J I v.2.1 j)==2 <;> rfl
 rw [mz]
 rw [ani,anj]
 cases rk:kindOf (J I v.2.1 j)==2&&nA v.2.1 (v.2.1.length+1) (cf t) (bu r) with
 | true=>exact br.no 22 (by decide) rfl rfl
 | false =>
 simp only [cond_false]
 have xb:kindOf (J I v.2.1 j)=2→cf t≠bu r∧¬iR v.2.1 (bu r) (cf t):=by
  intro hk
  rw [cA hk,Bool.true_and] at rk
  have oy:=aar hv (d:=cf t) ⟨gg,kY,sV⟩ (bu r)
  exact⟨fun h=>(by rw [oy.2 (.inl h)] at rk;cases rk),fun h=>(by rw [oy.2 (.inr h)] at rk;cases rk)⟩
 rw [am2,am8]
 unfold Mq Ns
 rw [v' v hl (fun i hi=>Nat.le_trans (fZ hi) cp.db)]
 simp only [ak]
 show br v c x (cond (bu t==bu r) (some (0,(v,c,x,()),())) (cond (!(bu t==0)) (Option.bind (Es ((v,c,x,()),J I v.2.1 j,t,())) fun v1=>cond (v1.1 != 0) (some (v1.1,(v,c,x,()),())) (Option.bind (oh ((v,c,x,()),cf t,nameOf t,true,())) fun v2=>(iP (q+3)).oj v2.1 r t))
   (cond (!(cf r==cf t)) (Option.bind (fF (v,cf t,())) fun v3=>cond (!List.isEmpty v3.1) (cond (((ax (J I v3.1 0)).length:Int)==12) (some (28,(v,c,x,()),())) ((iP (q+3)).oj (v,c,x,()) r t)) none) ((iP (q+3)).oj (v,c,x,()) r t))))
  (cond (decide (bu t>0)) (cond (bu t==bu r) (some (v,(0,[],()),())) (Option.bind (e8 (v,bu t,())) fun v2=>Option.bind (xW (c,J I v.2.1 gg,v2.1,())) fun v3=>cond (!v3.1) (some (v,(1,[],()),())) (cond (kindOf (J I v.2.1 j)==2) (cond (kindOf v2.1 != 2) (some (v,(20,[],()),())) ((gp (q+4)).pt v (0,([]:List I.D),()) (0,([]:aS),()) r t (J I v.2.1 j) v v2.1)) ((gp (q+4)).pt v (0,([]:List I.D),()) (0,([]:aS),()) r t (J I v.2.1 j) v v2.1))))
   (cond (!(cf r==cf t)) (cond (decide (((ax (J I v.2.1 gg)).length:Int)≥12)) (some (v,(28,[],()),())) ((gp (q+4)).mm v (0,([]:List I.D),()) (0,([]:aS),()) r t v)) ((gp (q+4)).mm v (0,([]:List I.D),()) (0,([]:aS),()) r t v))) _
 have ars:0<bu r:=by
  have h1:=hv.ids j hjl.1
  have h2:fw (J I v.2.1 j)=bu r:=hjl.2
  omega
 have aaC:=hv.ino hM anf.1
 have lx:=hv.ino gg QC.1
 by_cases mX:bu t=bu r
 ·rw [cA mX,decide_eq_true (show bu t>0 by omega)]
  exact⟨0,v,rfl,rfl,fun _=>⟨r,t,j,hr,bZ,wi,hj,ht,htn,QB,⟨fx,Iz⟩,.inl ⟨mX,rfl⟩⟩⟩
 rw [bV mX]
 simp only [cond_false]
 have hne:hM=gg→nameOf r≠nameOf t:=by
  rintro rfl he
  rw [he,Bh] at wo
  exact mX wo
 by_cases oW:bu t=0
 ·
  rw [cA oW,decide_eq_false (show ¬bu t>0 by omega)]
  simp only [Bool.not_true,cond_false]
  have hpre:wk v.2.1 (cf r) (cf t) hM gg (nameOf r) (nameOf t) (bu r) :=
   ⟨hv.st.mono (by omega),oE,kY,aaB,sV,aaC.sorted,lx.sorted,wo,by omega,by rw [hj];rfl,Qk (by rw [Bh,oW]) fun e he=>hv.Ql QC.1 he,hne⟩
  have hfin:(cf r≠cf t→(ax (J I v.2.1 gg)).length<12)→br v c x ((iP (q+3)).oj (v,c,x,()) r t) ((gp (q+4)).mm v (0,([]:List I.D),()) (0,([]:aS),()) r t v) (Iy v c x):=by
   intro bY
   have h1:=aaw (n:=v.1) c x r t hpre (q+2)
   have h2:=aax (n:=v.1) v (0,([]:List I.D),()) (0,([]:aS),()) r t hpre (q+3)
   exact⟨_,_,h1,h2,fun h=>⟨r,t,j,hr,bZ,wi,hj,ht,htn,QB,⟨fx,Iz⟩,.inr ⟨mX,xb,v.2.1,hM,gg,hpre,rfl,h,.inl ⟨oW,rfl,bY⟩⟩⟩⟩
  by_cases QE:cf r=cf t
  ·rw [cA QE]
   exact hfin fun h=>absurd QE h
  ·rw [bV QE]
   simp only [Bool.not_false,cond_true]
   rw [nw v _ hl kY]
   simp only [ak,List.isEmpty_cons,Bool.not_false,cond_true]
   show br v c x (cond (((ax (J I v.2.1 gg)).length:Int)==12) _ _) _ _
   have aaf:=(lx.dir sV).2.2.2
   by_cases kp:(ax (J I v.2.1 gg)).length=12
   ·rw [show(((ax (J I v.2.1 gg)).length:Int)==12)=true by rw [kp];rfl,decide_eq_true (by omega)]
    exact br.no 28 (by decide) rfl rfl
   ·rw [show(((ax (J I v.2.1 gg)).length:Int)==12)=false by rw [beq_eq_false_iff_ne];omega,decide_eq_false (show ¬((ax (J I v.2.1 gg)).length:Int)≥12 by omega)]
    exact hfin fun _=>by omega
 ·
  obtain ⟨eW,rY⟩:=Bi.resolve_left oW
  have QF:=cq rY
  have yj:0<bu t:=by
   have h1:=hv.ids eW QF.1
   have h2:fw (J I v.2.1 eW)=bu t:=QF.2
   omega
  rw [bV oW,decide_eq_true (show bu t>0 from yj)]
  simp only [Bool.not_false,cond_true]
  rw [ana v c x _ t hl hc kY rY,jr v _ hl rY]
  simp only [ak]
  rw [P0 c _ _ hc]
  simp only [ak]
  unfold Qz
  cases pJ c (J I v.2.1 gg) (J I v.2.1 eW) with
  | false=>exact br.no 1 (by decide) rfl rfl
  | true =>
  simp only [Bool.not_true,cond_false]
  have ank:(gp (q+4)).pt v (0,([]:List I.D),()) (0,([]:aS),()) r t (J I v.2.1 j) v (J I v.2.1 eW)=cond (kindOf (J I v.2.1 j)==2) (cond (decide (((ax (J I v.2.1 eW)).length:Int)>0)) (some (v,(39,[],()),())) (Option.bind (ot (v,cf t,nameOf t,())) fun v2=>(gp (q+2)).mm v (0,([]:List I.D),()) (0,([]:aS),()) r t v2.1))
    (cond (kindOf (J I v.2.1 eW)==2) (some (v,(21,[],()),())) (Option.bind (ot (v,cf t,nameOf t,())) fun v2=>(gp (q+2)).mm v (0,([]:List I.D),()) (0,([]:aS),()) r t v2.1)):=by
   rw [am7]
   unfold Nt
   rw [am6]
   unfold Nv
   show cond (kindOf (J I v.2.1 j)==2) (cond (decide (((ax (J I v.2.1 eW)).length:Int)>0)) _ (cond (!(kindOf (J I v.2.1 j)==2)) (cond (kindOf (J I v.2.1 eW)==2) _ _) _)) (cond (!(kindOf (J I v.2.1 j)==2)) (cond (kindOf (J I v.2.1 eW)==2) _ _) _)=_
   cases kindOf (J I v.2.1 j)==2 <;> rfl
  rw [ank]
  have hfin:ax (J I v.2.1 eW)=[]→(kindOf (J I v.2.1 j)=2↔kindOf (J I v.2.1 eW)=2)→br v c x (Option.bind (oh ((v,c,x,()),cf t,nameOf t,true,())) fun v2=>(iP (q+3)).oj v2.1 r t) (Option.bind (ot (v,cf t,nameOf t,())) fun v2=>(gp (q+2)).mm v (0,([]:List I.D),()) (0,([]:aS),()) r t v2.1) (Iy v c x):=by
   intro oR hkk
   rw [Qe v c x _ _ true hl cp.db kY,Qj v _ _ hl cp.db kY lx.sorted]
   simp only [ak,cond_true]
   obtain ⟨hst,IA⟩:=anb hv QC.1 sV (nameOf t)
   rw [Bh] at IA
   have anl:cf r≠bu t:=by
    intro he
    rw [he,rY] at oE
    have:eW=hM:=aX oE
    subst this
    obtain ⟨e,h1,_,_⟩:=A5 (N:=ax (J I v.2.1 eW)) (s:=nameOf r) (by rw [wo];exact Bb)
    rw [oR] at h1;simp at h1
   have anm:cf t≠bu t:=by
    intro he
    rw [he,rY] at kY
    have:eW=gg:=aX kY
    subst this
    obtain ⟨e,h1,_,_⟩:=A5 (N:=ax (J I v.2.1 eW)) (s:=nameOf t) (by rw [Bh];exact oW)
    rw [oR] at h1;simp at h1
   obtain ⟨ir,aaD,yp⟩:=IA _ anl _ oE
   obtain ⟨it,jR,Bj⟩:=IA _ anm _ kY
   obtain ⟨art,nL,_⟩:=IA _ (Ne.symm mX) _ hj
   rw [if_pos rfl] at Bj
   have ann:ir=it→hM=gg:=by
    rintro rfl
    have h1:=(cq aaD).2
    have h2:=(cq jR).2
    rw [h1] at h2
    rw [h2,kY] at oE
    exact(aX oE).symm
   have hpre:wk (oD v gg (nameOf t)).2.1 (cf r) (cf t) ir it (nameOf r) (nameOf t) (bu r):=by
    refine⟨hst,aaD,jR,?_,?_,?_,?_,?_,by omega,by rw [nL];rfl,?_,fun e=>hne (ann e)⟩
    ·rw [yp];split
     ·exact sV
     ·exact aaB
    ·rw [Bj];exact sV
    ·rw [yp];split
     ·rw [mA];exact Bf lx.sorted _
     ·exact aaC.sorted
    ·rw [Bj,mA];exact Bf lx.sorted _
    ·rw [yp];split
     ·rename_i he
      subst he
      rw [mA]
      obtain ⟨e,h1,h2,h3⟩:=A5 (N:=ax (J I v.2.1 gg)) (s:=nameOf r) (by rw [wo];exact Bb)
      have hm:e∈c5 (ax (J I v.2.1 gg)) (nameOf t):=List.mem_filter.2 ⟨h1,by unfold bB;rw [h2];simpa using hne rfl⟩
      have:=aas (Bf lx.sorted (nameOf t)) hm
      rw [h2,h3,wo] at this
      exact this
     ·exact wo
    ·rw [Bj,mA];exact amU
   show br v c x ((iP (q+3)).oj ((v.1,(oD v gg (nameOf t)).2.1,()),c,x,()) r t) ((gp (q+2)).mm v (0,([]:List I.D),()) (0,([]:aS),()) r t (v.1,(oD v gg (nameOf t)).2.1,())) _
   have h1:=aaw (n:=v.1) c x r t hpre (q+2)
   have h2:=aax (n:=v.1) v (0,([]:List I.D),()) (0,([]:aS),()) r t hpre (q+1)
   exact⟨_,_,h1,h2,fun h=>⟨r,t,j,hr,bZ,wi,hj,ht,htn,QB,⟨fx,Iz⟩,.inr ⟨mX,xb,_,ir,it,hpre,rfl,h,.inr ⟨gg,eW,kY,sV,rY,oR,Bh,hkk,rfl⟩⟩⟩⟩
  by_cases hk:kindOf (J I v.2.1 j)=2
  ·rw [cA hk]
   simp only [cond_true]
   by_cases hk2:kindOf (J I v.2.1 eW)=2
   ·rw [dL hk2]
    simp only [cond_false]
    by_cases oR:ax (J I v.2.1 eW)=[]
    ·rw [oR,show decide ((([]:List au.D).length:Int)>0)=false from rfl]
     exact hfin oR ⟨fun _=>hk2,fun _=>hk⟩
    ·have amF:0<(ax (J I v.2.1 eW)).length:=List.length_pos_iff.2 oR
     rw [decide_eq_true (by omega)]
     exact br.no 39 (by decide) rfl rfl
   ·rw [c4 hk2]
    exact br.no 20 (by decide) rfl rfl
  ·rw [bV hk]
   simp only [cond_false]
   by_cases hk2:kindOf (J I v.2.1 eW)=2
   ·rw [cA hk2]
    exact br.no 21 (by decide) rfl rfl
   ·rw [bV hk2]
    exact hfin ((hv.ino eW QF.1).plain hk2).2.2 ⟨fun h=>absurd h hk,fun h=>absurd h hk2⟩
theorem sW(v:af.D)(c:aP.D)(x:aN.D)(b3:Bool)(hw:rh v.2.1)(hc:dY c=true)(av:(eZ x).length≤1048576) :
  ∃r,sQ b3 v.2.1 r∧eT (v,c,eZ x,b3,())=some (r,())∧(bH r≠0→mh ((v,c,x,()),b3,())=some (-1,bH r,(v,c,x,()),())) ∧
   (bH r=0→∃i,bG v.2.1 (bu r)=some i∧mh ((v,c,x,()),b3,())=some ((i:Int),0,(v,c,x,()),())):=by
 obtain ⟨r,h1,h2,h3⟩:=A6 v c x (eZ x) b3 hw hc av
 have eQ:mh ((v,c,x,()),b3,())=cond (bH r != 0) (some (-1,bH r,(v,c,x,()),())) (Option.bind (xH (v,bu r,())) fun v2=>some (v2.1,0,(v2.2.1,c,x,()),())):=by
  show Ms (v,c,x,()) b3=_
  unfold Ms
  show Option.bind (kP ((v,c,x,()),eZ x,b3,())) _=_
  rw [h2];rfl
 refine⟨r,h1,h3,fun h0=>by rw [eQ,c4 h0];rfl,fun h0=>?_⟩
 obtain ⟨i,hi⟩:=h1.1.there h0
 refine⟨i,hi,?_⟩
 rw [eQ,dL h0,P2 v _ hw.len,hi];rfl
def gH(n:Nat):aS:=List.replicate n 0
def kC(s:aS)(n:Nat):aS:=(s++gH (n-s.length)).take n
def mB(s:aS)(at_:Nat)(d:aS):aS:=kC s at_++d++s.drop (at_+d.length)
theorem sX(s:aS)(n:Nat):(kC s n).length=n:=by unfold kC gH;rw [List.length_take,List.length_append,List.length_replicate];omega
theorem aaE:∀n,Lib.repeatL [0] n=gH n
 | 0=>rfl
 | n+1=>by rw [Lib.repeatL,aaE n];rfl
theorem ano(s:aS)(n:Nat)(hs:s.length≤1048576)(hn:n≤1048576):Ew (s,(n:Int),())=some (kC s n,()):=by
 show Mu s (n:Int)=_
 unfold Mu kC
 by_cases h:n≤s.length
 ·rw [decide_eq_true (show(s.length:Int)≥(n:Int) by omega)]
  simp only [cond_true]
  show Option.bind (dN s.length ((0:Nat):Int) (n:Int)) _=_
  rw [jc (by omega) h]
  simp only [ak,Nat.sub_zero]
  rw [sP,show n-s.length=0 by omega]
  simp [gH]
 ·rw [decide_eq_false (show ¬(s.length:Int)≥(n:Int) by omega)]
  simp only [cond_false]
  show Option.bind (repF [0] (ay ((n:Int)-(s.length:Int)))) _=_
  rw [show ay ((n:Int)-(s.length:Int))=((n-s.length:Nat):Int) by rw [ed (by omega) (by omega)];omega]
  unfold repF
  rw [if_pos ⟨by omega,by omega,by simp;omega⟩,Int.toNat_natCast,aaE]
  simp only [ak]
  rw [ck (by unfold gH;rw [List.length_replicate];omega)]
  simp only [cond_true]
  rw [List.take_of_length_le (by unfold gH;rw [List.length_append,List.length_replicate];omega)]
theorem aaF(t:aS):ga (ek t)=t:=by
 unfold ga ek
 rw [List.map_map]
 conv=>rhs;rw [← List.map_id t]
 refine List.map_congr_left fun b _=>?_
 simp
theorem IB(t:aS):(ek t).length=t.length:=by unfold ek;simp
theorem anp(t:aS):ek t++[0]=ek (t++[0]):=by unfold ek;simp
theorem anq(t:aS)(i:Nat)(b:UInt8):(ek t).set i (b.toNat:Int)=ek (t.set i b):=by unfold ek;rw [List.map_set]
theorem aaG(s:aS)(at_:Nat)(d:aS)(hs:s.length≤1048576)(ha:at_≤1048576)(ah:d.length≤1048576) :
  sv (s,(at_:Int),d,())=some ((s++gH (at_+d.length-s.length)).take at_++d++(s++gH (at_+d.length-s.length)).drop (at_+d.length),()):=by
 show Ge (np aK) s (at_:Int) d=_
 unfold Ge
 have hw:ay ((at_:Int) +(d.length:Int))=((at_+d.length:Nat):Int):=by rw [ed (by omega) (by omega)];omega
 generalize ht:s++gH (at_+d.length-s.length)=t
 have l1:at_+d.length≤t.length∧t.length≤4194304:=by rw [← ht];unfold gH;rw [List.length_append,List.length_replicate];omega
 have a7:∀(r i:Nat),i+r=d.length→b1 (fun m=>(np m).bm (at_:Int) d (i:Int) (ek (t.take at_++d.take i++t.drop (at_+i)))) (r+1) (some (t.take at_++d++t.drop (at_+d.length),())):=by
  intro r
  induction r with
  | zero =>
   intro i hi
   refine b1.now 1 fun m=>?_
   show Aw (np m) _ _ _ _=_
   unfold Aw
   rw [b0 (by omega)]
   simp only [cond_false]
   rw [aaF,show i=d.length by omega,List.take_length]
  | succ r ih =>
   intro i hi
   have bY:i<d.length:=by omega
   refine((ih (i+1) (by omega)).jump (f:=fun m=>(np m).bm (at_:Int) d (i:Int) (ek (t.take at_++d.take i++t.drop (at_+i)))) 1 fun m=>?_).mono (by omega)
   show Aw (np m) _ _ _ _=_
   unfold Aw
   rw [bx bY,ba bY]
   simp only [cond_true,ak]
   have Bg:(t.take at_++d.take i).length=at_+i:=by rw [List.length_append,List.length_take,List.length_take];omega
   have hlen:at_+i<(ek (t.take at_++d.take i++t.drop (at_+i))).length:=by
    rw [IB,List.length_append,Bg,List.length_drop];omega
   rw [show ay ((at_:Int) +(i:Int))=((at_+i:Nat):Int) by rw [ed (by omega) (by omega)];omega,ba hlen]
   simp only [ak,Nat.zero_add]
   unfold VH
   rw [de i (by omega),anq]
   congr 2
   rw [yl (show at_+i<t.length by omega),List.set_append_right _ _ (by rw [Bg];omega),Bg,Nat.sub_self,List.set_cons_zero,List.take_succ_eq_append_getElem bY,List.getD_eq_getElem?_getD,List.getElem?_eq_getElem bY,show at_ +(i+1)=at_+i+1 by omega]
   simp only [List.append_assoc,List.singleton_append,List.cons_append,List.nil_append,Option.getD_some]
 have h2:∀(r k:Nat),k+r=at_+d.length-s.length→b1 (fun m=>(np m).k2 (at_:Int) d (ek (s++gH k))) (r+d.length+3) (some (t.take at_++d++t.drop (at_+d.length),())):=by
  intro r
  induction r with
  | zero =>
   intro k hk
   have hk:k=at_+d.length-s.length:=by omega
   subst hk
   rw [ht]
   have:=a7 d.length 0 (by omega)
   rw [List.take_zero,List.append_nil,Nat.add_zero,List.take_append_drop] at this
   refine(this.jump (f:=fun m=>(np m).k2 (at_:Int) d (ek t)) 1 fun m=>?_).mono (by omega)
   show Av (np m) _ _ _=_
   unfold Av
   rw [hw,IB,b0 (by omega)];rfl
  | succ r ih =>
   intro k hk
   refine((ih (k+1) (by omega)).jump (f:=fun m=>(np m).k2 (at_:Int) d (ek (s++gH k))) 1 fun m=>?_).mono (by omega)
   show Av (np m) _ _ _=_
   unfold Av
   have hl:(ek (s++gH k)).length=s.length+k:=by rw [IB,List.length_append];unfold gH;rw [List.length_replicate]
   rw [hw,bx (by rw [hl];omega)]
   simp only [cond_true]
   rw [ck (by rw [hl];simp only [List.length_cons,List.length_nil];omega)]
   simp only [cond_true]
   rw [anp,List.append_assoc]
   have:gH k++[0]=gH (k+1):=by unfold gH;rw [List.replicate_succ']
   rw [this]
 have:=h2 (at_+d.length-s.length) 0 (by omega)
 rw [show gH 0=[] from rfl,List.append_nil] at this
 exact kV this (by omega)
theorem put_eq(s:aS)(at_:Nat)(d:aS):(s++gH (at_+d.length-s.length)).take at_++d++(s++gH (at_+d.length-s.length)).drop (at_+d.length)=mB s at_ d:=by
 unfold mB kC
 congr 1
 ·congr 1
  rw [List.take_append,List.take_append]
  congr 1
  unfold gH
  rw [List.take_replicate,List.take_replicate]
  congr 1
  omega
 ·rw [List.drop_append]
  have:(gH (at_+d.length-s.length)).drop (at_+d.length-s.length)=[]:=List.drop_of_length_le (by unfold gH;rw [List.length_replicate];omega)
  rw [this,List.append_nil]
theorem anr(s:aS)(at_:Nat):((s++gH (at_ +([]:aS).length-s.length)).take at_++([]:aS)++(s++gH (at_ +([]:aS).length-s.length)).drop (at_ +([]:aS).length)).take at_=kC s at_:=by
 rw [put_eq]
 unfold mB
 rw [List.append_nil,List.take_append_of_le_length (by rw [sX];omega),List.take_of_length_le (by rw [sX];omega)]
def oF(x:a6)(d:aS):a6:=(x.1,x.2.1,x.2.2.1,x.2.2.2.1,x.2.2.2.2.1,d,x.2.2.2.2.2.2.1,x.2.2.2.2.2.2.2.1,x.2.2.2.2.2.2.2.2.1,())
def er(x:aN.D)(n:a6):Int:=if aG x=6 then((bS n).length:Int) else bO x
def jM(x:aN.D)(n:a6):aS:=if aG x=7 then kC (bS n) (bO x).toNat else mB (bS n) (er x n).toNat (dy x)
structure IC(v:af.D)(c:aP.D)(x:aN.D)(w:af.D):Prop where
 out:∃r i,lK v.2.1 r∧bH r=0∧bG v.2.1 (bu r)=some i∧kindOf (J I v.2.1 i)≠2∧kindOf (J I v.2.1 i)≠3∧may c (J I v.2.1 i) 2=true∧0≤er x (J I v.2.1 i)∧eT (v,c,eZ x,true,())=some (r,()) ∧
  ((aG x≠7∧dy x=[]∧w=v)∨((aG x≠7→dy x≠[])∧er x (J I v.2.1 i) +(dy x).length≤64∧w=(v.1,v.2.1.set i (oF (J I v.2.1 i) (jM x (J I v.2.1 i))),())∧f_ w.2.1=0))
theorem aaH(v:af.D)(c:aP.D)(x:aN.D)(want:Int)(hw:rh v.2.1)(hc:dY c=true)(av:(eZ x).length≤1048576) :
  ∃r,sQ true v.2.1 r∧eT (v,c,eZ x,true,())=some (r,())∧(bH r≠0→zU ((v,c,x,()),want,())=some (-1,bH r,(v,c,x,()),())) ∧
   (bH r=0→∃i,bG v.2.1 (bu r)=some i∧zU ((v,c,x,()),want,())=cond (kindOf (J I v.2.1 i)==2) (some (-1,21,(v,c,x,()),())) (cond (!may c (J I v.2.1 i) want) (some (-1,13,(v,c,x,()),())) (some ((i:Int),0,(v,c,x,()),())))):=by
 obtain ⟨r,h1,h2,h3,h4⟩:=sW v c x true hw hc av
 refine⟨r,h1,h2,fun h0=>?_,fun h0=>?_⟩
 ·show zT (v,c,x,()) want=_
  unfold zT
  rw [h3 h0]
  simp only [ak]
  rw [c4 h0];rfl
 ·obtain ⟨i,hi,a7⟩:=h4 h0
  refine⟨i,hi,?_⟩
  show zT (v,c,x,()) want=_
  unfold zT
  rw [a7]
  simp only [ak]
  rw [show((0:Int) != 0)=false from rfl]
  simp only [cond_false]
  rw [ba (cq hi).1]
  simp only [ak]
  rw [A0 c _ want hc];rfl
theorem ans(m:Nat)(a b d):(gn (m+1)).dG a b d=Mv (gn m) a b d:=rfl
theorem ant(m:Nat)(a b d):(gn (m+1)).cC a b d=Mw (gn m) a b d:=rfl
theorem anu(m:Nat)(a b d):(gn (m+1)).gD a b d=Mx (gn m) a b d:=rfl
theorem anv(m:Nat)(a b d e f g):(j8 (m+1)).eX a b d e f g=Nw (j8 m) a b d e f g:=rfl
theorem anw(m:Nat)(a b d e):(j8 (m+1)).hp a b d e=Nx (j8 m) a b d e:=rfl
theorem cG.iw{v:af.D}(h:cG v){i:Nat}(hi:i<v.2.1.length):(bS (J I v.2.1 i)).length≤64:=by
 have:=h.ino i hi
 rcases this.kind with k | k | k
 ·exact this.file k
 ·rw [(this.dir k).1];simp
 ·have:=Qa (this.yf k).1;omega
theorem anx(v:af.D)(c:aP.D)(x:aN.D)(hv:cG v)(hc:dY c=true)(hx:jv x)(hk:aG x=5∨aG x=6∨aG x=7):br v c x (Ey ((v,c,x,()),())) (xY (v,c,x,())) (IC v c x):=by
 have cp:=hv.iY
 have hl:v.2.1.length≤1048576:=cp.len
 have av:=hx.path
 have aru:=hx.iw
 have xb:=hx.n
 obtain ⟨q,hq,hQ⟩:=jl 4
 show br v c x (Ex (gn aK) (v,c,x,())) (Gf (j8 aK) v c x) _
 unfold Ex Gf
 obtain ⟨r,⟨hr,yq⟩,fx,ke,kf⟩:=aaH v c x 2 cp hc (by omega)
 show br v c x _ (Option.bind (eT (v,c,eZ x,true,())) _) _
 rw [fx]
 simp only [ak]
 show br v c x _ (cond (bH r != 0) (some (v,(bH r,[],()),())) _) _
 by_cases bZ:bH r=0
 case neg =>
  rw [ke bZ,c4 bZ]
  simp only [ak]
  rw [c4 bZ]
  exact br.no (bH r) bZ rfl rfl
 obtain ⟨i,hi,eQ⟩:=kf bZ
 have bN:=cq hi
 rw [eQ,dL bZ]
 simp only [cond_false]
 show br v c x _ (Option.bind (e8 (v,bu r,())) _) _
 rw [jr v _ hl hi]
 simp only [ak]
 show br v c x _ (cond (kindOf (J I v.2.1 i)==2) _ _) _
 by_cases ly:kindOf (J I v.2.1 i)=2
 ·rw [cA ly]
  exact br.no 21 (by decide) rfl rfl
 rw [bV ly]
 simp only [cond_false]
 rw [pI c _ 2 hc]
 simp only [ak]
 cases hm:may c (J I v.2.1 i) 2 with
 | false=>exact br.no 13 (by decide) rfl rfl
 | true =>
 simp only [Bool.not_true,cond_false,ak]
 rw [show((0:Int) != 0)=false from rfl]
 simp only [cond_false]
 have arv:=hv.iw bN.1
 have anz:cond (x.1==6) ((aL v.2.1.length (i:Int)).bind fun v2=>(gn aK).dG (i:Int) ((J I v.2.1 v2).2.2.2.2.2.1.length:Int) (v,c,x,())) ((gn aK).dG (i:Int) x.2.2.2.1 (v,c,x,()))=(gn aK).dG (i:Int) (er x (J I v.2.1 i)) (v,c,x,()):=by
  rw [ba bN.1]
  unfold er
  show cond (aG x==6) _ _=_
  by_cases bp:aG x=6
  ·rw [cA bp,if_pos bp];rfl
  ·rw [bV bp,if_neg bp];rfl
 have anA:cond (x.1==6) ((j8 aK).eX ((J I v.2.1 i).2.2.2.2.2.1.length:Int) v x (0,([]:List I.D),()) (0,([]:aS),()) (J I v.2.1 i)) ((j8 aK).eX x.2.2.2.1 v x (0,([]:List I.D),()) (0,([]:aS),()) (J I v.2.1 i))=(j8 aK).eX (er x (J I v.2.1 i)) v x (0,([]:List I.D),()) (0,([]:aS),()) (J I v.2.1 i):=by
  unfold er
  show cond (aG x==6) _ _=_
  by_cases bp:aG x=6
  ·rw [cA bp,if_pos bp];rfl
  ·rw [bV bp,if_neg bp];rfl
 show br v c x (cond (x.1==6) ((aL v.2.1.length (i:Int)).bind fun v2=>(gn aK).dG (i:Int) ((J I v.2.1 v2).2.2.2.2.2.1.length:Int) (v,c,x,())) ((gn aK).dG (i:Int) x.2.2.2.1 (v,c,x,())))
  (cond (x.1==6) ((j8 aK).eX ((J I v.2.1 i).2.2.2.2.2.1.length:Int) v x (0,([]:List I.D),()) (0,([]:aS),()) (J I v.2.1 i)) ((j8 aK).eX x.2.2.2.1 v x (0,([]:List I.D),()) (0,([]:aS),()) (J I v.2.1 i))) _
 rw [anz,anA,hq,ans,anv]
 unfold Mv Nw
 by_cases rQ:er x (J I v.2.1 i)<0
 ·rw [decide_eq_true rQ]
  exact br.no 22 (by decide) rfl rfl
 rw [decide_eq_false rQ]
 simp only [cond_false]
 obtain ⟨a,ha⟩:∃a:Nat,er x (J I v.2.1 i)=a:=⟨(er x (J I v.2.1 i)).toNat,by omega⟩
 have arw:a≤1000000:=by
  have:er x (J I v.2.1 i)≤1000000:=by
   unfold er
   split
   ·omega
   ·exact xb.2
  omega
 show br v c x (cond (!(aG x==7)) (cond (bB (dy x) []) (some (0,(v,c,x,()),())) ((gn (q+3)).cC (i:Int) (er x (J I v.2.1 i)) (v,c,x,()))) ((gn (q+3)).cC (i:Int) (er x (J I v.2.1 i)) (v,c,x,())))
  (cond (aG x==7) (cond (decide (er x (J I v.2.1 i)>64)) (some (v,(27,[],()),())) (Option.bind (sv (bS (J I v.2.1 i),er x (J I v.2.1 i),[],())) fun v1=>Option.bind (dN v1.1.length 0 (er x (J I v.2.1 i))) fun v2=>(j8 (q+3)).hp v (0,([]:List I.D),()) (0,([]:aS),()) (oF (J I v.2.1 i) (part v1.1 v2.1 (v2.2-v2.1)))))
   (cond (bB (dy x) []) (some (v,(0,[],()),())) (cond (decide (er x (J I v.2.1 i)>ay (64-((dy x).length:Int)))) (some (v,(27,[],()),())) (Option.bind (sv (bS (J I v.2.1 i),er x (J I v.2.1 i),dy x,())) fun v3=>(j8 (q+3)).hp v (0,([]:List I.D),()) (0,([]:aS),()) (oF (J I v.2.1 i) v3.1))))) _
 have QG:aG x≠7→dy x=[]→IC v c x v:=fun bI ah=>⟨r,i,hr,bZ,hi,ly,yq rfl bZ i hi,hm,by omega,fx,.inl ⟨bI,ah,rfl⟩⟩
 by_cases sY:aG x≠7∧dy x=[]
 ·rw [bV sY.1,nz.2 sY.2]
  exact⟨0,v,rfl,rfl,fun _=>QG sY.1 sY.2⟩
 have anB:cond (!(aG x==7)) (cond (bB (dy x) []) (some (0,(v,c,x,()),())) ((gn (q+3)).cC (i:Int) (er x (J I v.2.1 i)) (v,c,x,()))) ((gn (q+3)).cC (i:Int) (er x (J I v.2.1 i)) (v,c,x,()))=(gn (q+3)).cC (i:Int) (er x (J I v.2.1 i)) (v,c,x,()):=by
  by_cases bI:aG x=7
  ·rw [cA bI];rfl
  ·rw [bV bI]
   have:bB (dy x) []=false:=by rw [← Bool.not_eq_true,nz];exact fun h=>sY ⟨bI,h⟩
   rw [this];rfl
 rw [anB,ant]
 unfold Mw
 show br v c x (cond (decide (ay (er x (J I v.2.1 i) +((dy x).length:Int))>64)) _ _) _ _
 have aaI:aG x=7→dy x=[]:=fun bI=>hx.aab.elim id fun h=>by omega
 have anC:ay (er x (J I v.2.1 i) +((dy x).length:Int))=((a +(dy x).length:Nat):Int):=by rw [ha,ed (by omega) (by omega)];omega
 rw [anC]
 by_cases ID:a +(dy x).length>64
 ·rw [decide_eq_true (by omega)]
  have:cond (aG x==7) (cond (decide (er x (J I v.2.1 i)>64)) (some (v,((27:Int),([]:aS),()),())) (Option.bind (sv (bS (J I v.2.1 i),er x (J I v.2.1 i),[],())) fun v1=>Option.bind (dN v1.1.length 0 (er x (J I v.2.1 i))) fun v2=>(j8 (q+3)).hp v (0,([]:List I.D),()) (0,([]:aS),()) (oF (J I v.2.1 i) (part v1.1 v2.1 (v2.2-v2.1)))))
   (cond (bB (dy x) []) (some (v,(0,[],()),())) (cond (decide (er x (J I v.2.1 i)>ay (64-((dy x).length:Int)))) (some (v,(27,[],()),())) (Option.bind (sv (bS (J I v.2.1 i),er x (J I v.2.1 i),dy x,())) fun v3=>(j8 (q+3)).hp v (0,([]:List I.D),()) (0,([]:aS),()) (oF (J I v.2.1 i) v3.1))))=some (v,(27,[],()),()):=by
   by_cases bI:aG x=7
   ·have h0:=aaI bI
    rw [h0] at ID
    simp only [List.length_nil] at ID
    rw [cA bI,decide_eq_true (show er x (J I v.2.1 i)>64 by omega)];rfl
   ·rw [bV bI]
    have h0:bB (dy x) []=false:=by rw [← Bool.not_eq_true,nz];exact fun h=>sY ⟨bI,h⟩
    rw [h0,show ay (64-((dy x).length:Int))=64-((dy x).length:Int) from ed (by omega) (by omega),decide_eq_true (show er x (J I v.2.1 i)>64-((dy x).length:Int) by omega)];rfl
  rw [this]
  exact br.no 27 (by decide) rfl rfl
 rw [decide_eq_false (by omega)]
 simp only [cond_false]
 obtain ⟨w,hw⟩:∃w:af.D,w=(v.1,v.2.1.set i (oF (J I v.2.1 i) (jM x (J I v.2.1 i))),()):=⟨_,rfl⟩
 have hnl:(jM x (J I v.2.1 i)).length≤200:=by
  have hf:∀s n,(kC s n).length=n:=sX
  unfold jM mB
  rw [ha,Int.toNat_natCast]
  split
  ·rename_i bI
   have:er x (J I v.2.1 i)=bO x:=by unfold er;rw [if_neg (by omega)]
   rw [hf];omega
  ·rw [List.length_append,List.length_append,hf,List.length_drop];omega
 have hst:al 1000 w.2.1:=by
  rw [hw]
  exact(hv.st.set (k:=200) (i:=i) (y:=oF (J I v.2.1 i) (jM x (J I v.2.1 i))) bN.1 rfl (fun d ah=>hv.iV i bN.1 d ah) (fun eN=>hv.st.bare i bN.1 eN) (Nat.le_add_right _ _) (by
   show(jM x (J I v.2.1 i)).length≤_
   omega)).mono (by omega)
 have hwr:f_ w.2.1=0→IC v c x w:=fun hf=>⟨r,i,hr,bZ,hi,ly,yq rfl bZ i hi,hm,by omega,fx,.inr ⟨fun bI h=>sY ⟨bI,h⟩,by omega,hw,hf⟩⟩
 have Bc:∀m,(gn (m+1)).gD (i:Int) (jM x (J I v.2.1 i)) (v,c,x,())=some (f_ w.2.1,(w,c,x,()),()):=by
  intro m
  rw [anu]
  unfold Mx
  show Option.bind (aL v.2.1.length (i:Int)) _=_
  rw [ba bN.1]
  show Option.bind (nj (((v.1,v.2.1.set i (oF (J I v.2.1 i) (jM x (J I v.2.1 i))),()),c,x,()),())) (fun v3=>some (v3.1,((v.1,v.2.1.set i (oF (J I v.2.1 i) (jM x (J I v.2.1 i))),()),c,x,()),()))=_
  rw [← hw,A9 w c x hst (by omega)];rfl
 have aaJ:∀m,(j8 (m+1)).hp v (0,([]:List I.D),()) (0,([]:aS),()) (oF (J I v.2.1 i) (jM x (J I v.2.1 i)))=some (cond (f_ w.2.1==0) w v,(f_ w.2.1,[],()),()):=by
  intro m
  rw [anw]
  unfold Nx
  rw [v' v hl (fun i hi=>Nat.le_trans (fZ hi) cp.db)]
  simp only [ak]
  rw [Ir v _ hl (show bG v.2.1 (oF (J I v.2.1 i) (jM x (J I v.2.1 i))).1=some i from(show(J I v.2.1 i).1=bu r from bN.2) ▸ hi),← hw]
  simp only [ak]
  rw [A_ v w hst (by omega)];rfl
 have anD:(cond (decide (((bS (J I v.2.1 i)).length:Int) >((kC (bS (J I v.2.1 i)) a++dy x).length:Int)))
   ((dN (bS (J I v.2.1 i)).length ((kC (bS (J I v.2.1 i)) a++dy x).length:Int) ((bS (J I v.2.1 i)).length:Int)).bind fun v5=>cond (room ((kC (bS (J I v.2.1 i)) a++dy x).length +(part (bS (J I v.2.1 i)) v5.1 (v5.2-v5.1)).length))
    ((gn (q+2)).gD (i:Int) ((kC (bS (J I v.2.1 i)) a++dy x)++part (bS (J I v.2.1 i)) v5.1 (v5.2-v5.1)) (v,c,x,())) none)
   ((gn (q+2)).gD (i:Int) (kC (bS (J I v.2.1 i)) a++dy x) (v,c,x,())))=(gn (q+2)).gD (i:Int) (mB (bS (J I v.2.1 i)) a (dy x)) (v,c,x,()):=by
  have hR:(kC (bS (J I v.2.1 i)) a++dy x).length=a +(dy x).length:=by rw [List.length_append,sX]
  rw [hR]
  unfold mB
  by_cases Bj:(bS (J I v.2.1 i)).length>a +(dy x).length
  ·rw [decide_eq_true (by omega)]
   simp only [cond_true]
   rw [jc (by omega) (Nat.le_refl _)]
   simp only [ak]
   rw [AZ,ck (by rw [List.length_drop];omega)];rfl
  ·rw [decide_eq_false (by omega)]
   simp only [cond_false]
   rw [List.drop_of_length_le (by omega),List.append_nil]
 show br v c x (Option.bind (aL v.2.1.length (i:Int)) fun v1=>Option.bind (Ew (bS (J I v.2.1 v1),er x (J I v.2.1 i),())) fun v2=>cond (!(aG x==7)) (cond (room (v2.1.length +(dy x).length)) (Option.bind (aL v.2.1.length (i:Int)) fun v3=>cond (decide (((bS (J I v.2.1 v3)).length:Int) >((v2.1++dy x).length:Int)))
   (Option.bind (aL v.2.1.length (i:Int)) fun v4=>(dN (bS (J I v.2.1 v4)).length ((v2.1++dy x).length:Int) ((bS (J I v.2.1 v4)).length:Int)).bind fun v5=>cond (room ((v2.1++dy x).length +(part (bS (J I v.2.1 v4)) v5.1 (v5.2-v5.1)).length))
    ((gn (q+2)).gD (i:Int) ((v2.1++dy x)++part (bS (J I v.2.1 v4)) v5.1 (v5.2-v5.1)) (v,c,x,())) none)
   ((gn (q+2)).gD (i:Int) (v2.1++dy x) (v,c,x,()))) none) ((gn (q+2)).gD (i:Int) v2.1 (v,c,x,()))) _ _
 rw [ba bN.1,ha]
 simp only [ak]
 rw [ano _ _ (by omega) (by omega)]
 simp only [ak]
 rw [ck (by rw [sX];omega)]
 simp only [cond_true]
 rw [anD]
 by_cases bI:aG x=7
 ·have ue:=aaI bI
  have hT:jM x (J I v.2.1 i)=kC (bS (J I v.2.1 i)) a:=by
   unfold jM
   rw [if_pos bI]
   have:er x (J I v.2.1 i)=bO x:=by unfold er;rw [if_neg (by omega)]
   rw [← this,ha,Int.toNat_natCast]
  rw [cA bI]
  rw [ue] at ID
  simp only [List.length_nil] at ID
  rw [decide_eq_false (show ¬((a:Int)>64) by omega)]
  simp only [Bool.not_true,cond_false,cond_true]
  rw [aaG _ _ _ (by omega) (by omega) (by simp)]
  simp only [ak]
  rw [put_eq]
  show br v c x _ (Option.bind (dN (mB (bS (J I v.2.1 i)) a []).length ((0:Nat):Int) (a:Int)) _) _
  rw [jc (by omega) (by unfold mB;rw [List.length_append,List.length_append,sX];omega)]
  simp only [ak,Nat.sub_zero]
  have l0:part (mB (bS (J I v.2.1 i)) a []) 0 a=jM x (J I v.2.1 i):=by
   rw [sP,hT,← anr,put_eq]
  rw [l0,← hT,Bc (q+1),aaJ (q+2)]
  exact⟨_,_,rfl,rfl,hwr⟩
 ·have hT:jM x (J I v.2.1 i)=mB (bS (J I v.2.1 i)) a (dy x):=by
   unfold jM
   rw [if_neg bI,ha,Int.toNat_natCast]
  rw [bV bI]
  have h0:bB (dy x) []=false:=by rw [← Bool.not_eq_true,nz];exact fun h=>sY ⟨bI,h⟩
  rw [h0,show ay (64-((dy x).length:Int))=64-((dy x).length:Int) from ed (by omega) (by omega),decide_eq_false (show ¬((a:Int)>64-((dy x).length:Int)) by omega)]
  simp only [Bool.not_false,cond_true,cond_false]
  rw [aaG _ _ _ (by omega) (by omega) (by omega)]
  simp only [ak]
  rw [put_eq,← hT,Bc (q+1),aaJ (q+2)]
  exact⟨_,_,rfl,rfl,hwr⟩
theorem aaK(l:List a6):bytesOf l=((List.range l.length).map fun i=>(bS (J I l i)).length).sum:=by
 unfold bytesOf
 congr 1
 refine List.ext_getElem (by simp) fun i h1 h2=>?_
 simp only [List.length_map] at h1
 rw [List.getElem_map,List.getElem_map,List.getElem_range,di h1]
structure Alike(l dh:List a6):Prop where
 len:dh.length=l.length
 id:∀i,(J I dh i).1=(J I l i).1
 iw:∀i,bS (J I dh i)=bS (J I l i)
 db:∀i,ax (J I dh i)=ax (J I l i)
theorem Alike.bG{l dh:List a6}(h:Alike l dh):jH.bG dh=jH.bG l:=by
 funext id
 unfold jH.bG
 rw [h.len]
 refine Z7 fun i _=>?_
 rw [h.id]
theorem Alike.below{l dh:List a6}(h:Alike l dh):e_ dh=e_ l:=by
 have e1:jo dh=jo l:=by
  funext i j s
  unfold jo
  rw [h.bG,h.db]
 have e2:iu dh=iu l:=by
  funext i s
  unfold iu
  rw [e1,h.db]
 have e3:fe dh=fe l:=by
  funext s
  unfold fe
  rw [e2,h.len]
 funext id
 unfold e_
 rw [h.bG,h.len,e3]
theorem Alike.anE{l dh:List a6}(h:Alike l dh)(x cl:a6)(h1:cl.1=x.1)(h2:fJ cl=fJ x)(h3:ff cl=ff x):kb dh cl=kb l x:=by
 have e1:lI dh=lI l:=by
  funext F
  unfold lI q' dl
  rw [h.len]
  congr 2
  funext i
  rw [h.iw]
 have e2:mv dh=mv l:=by
  funext F
  unfold mv q'
  rw [h.len]
 unfold kb
 rw [e1,e2,h.below,h1,h2,h3]
theorem Alike.fits{l dh:List a6}(h:Alike l dh)(hb:∀i,fJ (J I dh i)=fJ (J I l i))(hi:∀i,ff (J I dh i)=ff (J I l i)):f_ dh=f_ l:=by
 have e1:bytesOf dh=bytesOf l:=by
  rw [aaK,aaK,h.len]
  congr 2
  funext i
  rw [h.iw]
 have e2:iT dh=iT l:=by
  unfold iT
  rw [h.len]
  congr 2
  funext i
  rw [h.anE (J I l i) (J I dh i) (h.id i) (hb i) (hi i)]
 unfold f_
 rw [e1,e2]
theorem anF{l:List a6}{i:Nat}{y:a6}(hi:i<l.length)(h1:y.1=(J I l i).1)(h2:bS y=bS (J I l i))(h3:ax y=ax (J I l i)):Alike l (l.set i y):=by
 refine⟨List.length_set,fun j=>?_,fun j=>?_,fun j=>?_⟩ <;>
  ·rw [kB hi]
   split
   ·rename_i he;subst he;assumption
   ·rfl
def jN(x:a6)(m u g:Int):a6:=(x.1,x.2.1,m,u,g,x.2.2.2.2.2.1,x.2.2.2.2.2.2.1,x.2.2.2.2.2.2.2.1,x.2.2.2.2.2.2.2.2.1,())
theorem aaL(x:a6)(m u g:Int):(jN x m u g).1=x.1:=rfl
theorem aaM{v:af.D}(hv:cG v){i:Nat}(hi:i<v.2.1.length)(m u g:Int):f_ (v.2.1.set i (jN (J I v.2.1 i) m u g))=0:=by
 have ha:Alike v.2.1 (v.2.1.set i (jN (J I v.2.1 i) m u g)):=anF hi rfl rfl rfl
 rw [ha.fits (fun j=>by
  rw [kB hi]
  split
  ·rename_i he;subst he;rfl
  ·rfl) (fun j=>by
  rw [kB hi]
  split
  ·rename_i he;subst he;rfl
  ·rfl)]
 unfold f_
 rw [decide_eq_false (by have:=hv.bytes;omega),hv.over];rfl
theorem aaN{v:af.D}(hv:cG v){i:Nat}(hi:i<v.2.1.length)(m u g:Int):al 1000 (v.2.1.set i (jN (J I v.2.1 i) m u g)) :=
 (hv.st.set (k:=1) (i:=i) (y:=jN (J I v.2.1 i) m u g) hi rfl (fun d ah=>hv.iV i hi d ah) (fun hk=>hv.st.bare i hi hk) (Nat.le_add_right _ _) (Nat.le_add_right _ _)).mono (by omega)
def andNot(a b:Int):Int:=c_ .andNot .i64 a b
def Bk(c:aP.D)(x:aN.D)(n:a6):Int:=if c.1≠0∧mx c (fK n)=false then andNot (bO x) 1024 else bO x
theorem Bl(m:Nat)(a b d e f g):(hy (m+1)).cY a b d e f g=Ax (hy m) a b d e f g:=rfl
theorem QH(m:Nat)(a b d e f):(hy (m+1)).eX a b d e f=Ay (hy m) a b d e f:=rfl
theorem anG(m:Nat)(a b d e f g):(hy (m+1)).ph a b d e f g=Ny (hy m) a b d e f g:=rfl
theorem anH(m:Nat)(a b d e):(hy (m+1)).mn a b d e=Nz (hy m) a b d e:=rfl
theorem QI{v:af.D}(hv:cG v)(z:af.D)(n4:aA.D){i:Nat}(hi:i<v.2.1.length)(n:a6)(hn:n.1=(J I v.2.1 i).1)(hst:al 1000 (v.2.1.set i n))(m:Nat) :
  (hy (m+1)).mn v z n4 n=some (cond (f_ (v.2.1.set i n)==0) (v.1,v.2.1.set i n,()) v,(f_ (v.2.1.set i n),[],()),()):=by
 have cp:=hv.iY
 rw [anH]
 unfold Nz
 rw [v' v cp.len (fun i hi=>Nat.le_trans (fZ hi) cp.db)]
 simp only [ak]
 rw [Ir v n cp.len (show bG v.2.1 n.1=some i from hn ▸ hv.iv i hi)]
 simp only [ak]
 rw [A_ v (v.1,v.2.1.set i n,()) hst (by omega)];rfl
structure QJ(v:af.D)(c:aP.D)(x:aN.D)(w:af.D):Prop where
 out:0≤bO x∧bO x≤2047∧∃r i,lK v.2.1 r∧bH r=0∧bG v.2.1 (bu r)=some i∧kindOf (J I v.2.1 i)≠3∧(c.1≠0→c.1=eF (J I v.2.1 i)) ∧
  w=(v.1,v.2.1.set i (jN (J I v.2.1 i) (Bk c x (J I v.2.1 i)) (eF (J I v.2.1 i)) (fK (J I v.2.1 i))),())
theorem anI(v:af.D)(c:aP.D)(x:aN.D)(hv:cG v)(hc:dY c=true)(hx:jv x)(hk:aG x=15):br v c x (EK ((v,c,x,()),())) (sx (v,c,x,())) (QJ v c x):=by
 have cp:=hv.iY
 have hl:v.2.1.length≤1048576:=cp.len
 have av:=hx.path
 obtain ⟨q,hq,hQ⟩:=jl 4
 show br v c x (EJ (qF aK) (v,c,x,())) (sw (hy aK) v c x) _
 unfold EJ sw
 show br v c x (Option.bind (cZ (bO x,0,2047,())) _) (cond (aG x==15) (Option.bind (cS (bO x,0,2047,())) _) _) _
 rw [cA hk,gE,gU]
 simp only [cond_true,ak]
 rw [hq,Bl]
 unfold Ax
 cases hN:cg (bO x) 0 2047 with
 | false=>exact br.no 22 (by decide) rfl rfl
 | true =>
 have pR:=dm.1 hN
 simp only [Bool.not_true,cond_false]
 show br v c x _ (cond (aG x==19) _ _) _
 rw [bV (show aG x≠19 by omega),QH]
 simp only [cond_false]
 unfold Ay
 obtain ⟨r,⟨hr,yq⟩,fx,ke,kf⟩:=sW v c x true cp hc (by omega)
 show br v c x _ (Option.bind (eT (v,c,eZ x,true,())) _) _
 rw [fx]
 simp only [ak]
 show br v c x _ (cond (bH r != 0) (some (v,(bH r,[],()),())) _) _
 by_cases bZ:bH r=0
 case neg =>
  rw [ke bZ,c4 bZ]
  simp only [ak]
  rw [c4 bZ]
  exact br.no (bH r) bZ rfl rfl
 obtain ⟨i,hi,eQ⟩:=kf bZ
 have bN:=cq hi
 rw [eQ,dL bZ]
 simp only [cond_false,ak]
 rw [show((0:Int) != 0)=false from rfl]
 simp only [cond_false]
 show br v c x _ (Option.bind (e8 (v,bu r,())) _) _
 rw [jr v _ hl hi,ba bN.1]
 simp only [ak]
 show br v c x (cond (c.1 != 0) (cond (c.1 != eF (J I v.2.1 i)) (some (1,(v,c,x,()),())) (qF (q+4) (i:Int) (v,c,x,()))) (qF (q+4) (i:Int) (v,c,x,())))
  (cond (aG x==15) (cond (c.1 != 0) (cond (c.1 != eF (J I v.2.1 i)) (some (v,(1,[],()),())) ((hy (q+2)).ph v c x (0,([]:List I.D),()) (0,([]:aS),()) (J I v.2.1 i))) ((hy (q+2)).ph v c x (0,([]:List I.D),()) (0,([]:aS),()) (J I v.2.1 i))) _) _
 rw [cA hk]
 simp only [cond_true]
 have hfin:(c.1≠0→c.1=eF (J I v.2.1 i))→br v c x (qF (q+4) (i:Int) (v,c,x,())) ((hy (q+2)).ph v c x (0,([]:List I.D),()) (0,([]:aS),()) (J I v.2.1 i)) (QJ v c x):=by
  intro hu
  have eQ:qF (q+4) (i:Int) (v,c,x,())=some (0,((v.1,v.2.1.set i (jN (J I v.2.1 i) (Bk c x (J I v.2.1 i)) (eF (J I v.2.1 i)) (fK (J I v.2.1 i))),()),c,x,()),()):=by
   rw [qF,MC]
   show Option.bind (aL v.2.1.length (i:Int)) (fun v1=>MB (v,c,x,()) (i:Int) (v.2.1.set v1 (jN (J I v.2.1 v1) (bO x) (eF (J I v.2.1 v1)) (fK (J I v.2.1 v1)))))=_
   rw [ba bN.1]
   simp only [ak]
   unfold MB Bk
   have aD:J I (v.2.1.set i (jN (J I v.2.1 i) (bO x) (eF (J I v.2.1 i)) (fK (J I v.2.1 i)))) i=jN (J I v.2.1 i) (bO x) (eF (J I v.2.1 i)) (fK (J I v.2.1 i)):=by rw [kB bN.1,if_pos rfl]
   have fG:aL (v.2.1.set i (jN (J I v.2.1 i) (bO x) (eF (J I v.2.1 i)) (fK (J I v.2.1 i)))).length (i:Int)=some i:=ba (by rw [List.length_set];exact bN.1)
   show cond (c.1 != 0) _ _=_
   by_cases h0:c.1=0
   ·rw [dL h0,if_neg (fun h=>h.1 h0)];rfl
   ·rw [c4 h0,fG]
    simp only [cond_true,ak]
    rw [aD]
    show Option.bind (uV (c,fK (J I v.2.1 i),())) _=_
    rw [PZ c _ hc]
    simp only [ak]
    cases Cf:mx c (fK (J I v.2.1 i)) with
    | true=>rw [if_neg (fun h=>by cases h.2)];rfl
    | false =>
     rw [if_pos ⟨h0,rfl⟩]
     simp only [Bool.not_false,cond_true]
     unfold Vc
     rw [List.set_set];rfl
  have ef:(hy (q+2)).ph v c x (0,([]:List I.D),()) (0,([]:aS),()) (J I v.2.1 i)=(hy (q+1)).mn v (0,([]:List I.D),()) (0,([]:aS),()) (jN (J I v.2.1 i) (Bk c x (J I v.2.1 i)) (eF (J I v.2.1 i)) (fK (J I v.2.1 i))):=by
   rw [anG]
   unfold Ny Bk
   show cond (c.1 != 0) (Option.bind (vm (c,fK (J I v.2.1 i),())) _) _=_
   by_cases h0:c.1=0
   ·rw [dL h0,if_neg (fun h=>h.1 h0)];rfl
   ·rw [c4 h0,PY c _ hc]
    simp only [cond_true,ak]
    cases Cf:mx c (fK (J I v.2.1 i)) with
    | true=>rw [if_neg (fun h=>by cases h.2)];rfl
    | false=>rw [if_pos ⟨h0,rfl⟩];rfl
  rw [eQ,ef,QI hv _ _ bN.1 _ (aaL _ _ _ _) (aaN hv bN.1 _ _ _),aaM hv bN.1]
  exact⟨0,_,rfl,rfl,fun _=>⟨pR.1,pR.2,r,i,hr,bZ,hi,yq rfl bZ i hi,hu,rfl⟩⟩
 by_cases h0:c.1=0
 ·rw [dL h0]
  exact hfin fun h=>absurd h0 h
 ·rw [c4 h0]
  simp only [cond_true]
  by_cases hu:c.1=eF (J I v.2.1 i)
  ·rw [dL hu]
   exact hfin fun _=>hu
  ·rw [c4 hu]
   exact br.no 1 (by decide) rfl rfl
structure QK(v:af.D)(c:aP.D)(x:aN.D)(w:af.D):Prop where
 out:(0≤bO x∧bO x≤1000)∧(0≤ej x∧ej x≤1000)∧∃r i,lK v.2.1 r∧bH r=0∧bG v.2.1 (bu r)=some i∧w=(v.1,v.2.1.set i (jN (J I v.2.1 i) (ft (J I v.2.1 i)) (bO x) (ej x)),())
theorem anJ(v:af.D)(c:aP.D)(x:aN.D)(hv:cG v)(hc:dY c=true)(hx:jv x)(hk:aG x=16):br v c x (EN ((v,c,x,()),())) (sx (v,c,x,())) (QK v c x):=by
 have cp:=hv.iY
 have hl:v.2.1.length≤1048576:=cp.len
 have av:=hx.path
 obtain ⟨q,hq,hQ⟩:=jl 4
 show br v c x (EM (qG aK) (v,c,x,())) (sw (hy aK) v c x) _
 unfold EM sw
 show br v c x (Option.bind (cZ (bO x,0,1000,())) fun v1=>cond (!v1.1) _ (Option.bind (cZ (ej x,0,1000,())) _)) (cond (aG x==15) _ (cond (aG x==16) (Option.bind (cS (bO x,0,1000,())) fun v2=>cond (!v2.1) _ (Option.bind (cS (ej x,0,1000,())) _)) _)) _
 rw [bV (show aG x≠15 by omega),cA hk]
 simp only [cond_true,cond_false]
 rw [gE,gU]
 simp only [ak]
 rw [hq]
 cases hN:cg (bO x) 0 1000 with
 | false =>
  simp only [Bool.not_false,cond_true]
  rw [Bl]
  exact br.no 22 (by decide) rfl rfl
 | true =>
 have pR:=dm.1 hN
 simp only [Bool.not_true,cond_false]
 rw [gE,gU]
 simp only [ak]
 rw [Bl]
 unfold Ax
 cases jj:cg (ej x) 0 1000 with
 | false=>exact br.no 22 (by decide) rfl rfl
 | true =>
 have QL:=dm.1 jj
 simp only [Bool.not_true,cond_false]
 show br v c x _ (cond (aG x==19) _ _) _
 rw [bV (show aG x≠19 by omega),QH]
 simp only [cond_false]
 unfold Ay
 obtain ⟨r,⟨hr,yq⟩,fx,ke,kf⟩:=sW v c x true cp hc (by omega)
 show br v c x _ (Option.bind (eT (v,c,eZ x,true,())) _) _
 rw [fx]
 simp only [ak]
 show br v c x _ (cond (bH r != 0) (some (v,(bH r,[],()),())) _) _
 by_cases bZ:bH r=0
 case neg =>
  rw [ke bZ,c4 bZ]
  simp only [ak]
  rw [c4 bZ]
  exact br.no (bH r) bZ rfl rfl
 obtain ⟨i,hi,eQ⟩:=kf bZ
 have bN:=cq hi
 rw [eQ,dL bZ]
 simp only [cond_false,ak]
 rw [show((0:Int) != 0)=false from rfl]
 simp only [cond_false]
 show br v c x _ (Option.bind (e8 (v,bu r,())) _) _
 rw [jr v _ hl hi,ba bN.1]
 simp only [ak]
 show br v c x (cond (c.1 != 0) (cond (c.1 != eF (J I v.2.1 i)) (some (1,(v,c,x,()),())) (cond (bO x != eF (J I v.2.1 i)) (some (1,(v,c,x,()),())) (Option.bind (uV (c,ej x,())) fun v6=>cond (!v6.1) (some (1,(v,c,x,()),())) (qG (q+4) (i:Int) (v,c,x,()))))) (qG (q+4) (i:Int) (v,c,x,())))
  (cond (aG x==15) _ (cond (aG x==16) (cond (c.1 != 0) (cond (c.1 != eF (J I v.2.1 i)) (some (v,(1,[],()),())) (cond (bO x != eF (J I v.2.1 i)) (some (v,(1,[],()),())) (Option.bind (vm (c,ej x,())) fun v3=>cond (!v3.1) (some (v,(1,[],()),())) ((hy (q+2)).mn v (0,([]:List I.D),()) (0,([]:aS),()) (jN (J I v.2.1 i) (ft (J I v.2.1 i)) (bO x) (ej x))))))
   ((hy (q+2)).mn v (0,([]:List I.D),()) (0,([]:aS),()) (jN (J I v.2.1 i) (ft (J I v.2.1 i)) (bO x) (ej x)))) _)) _
 rw [bV (show aG x≠15 by omega),cA hk,PZ c _ hc,PY c _ hc]
 simp only [cond_true,cond_false,ak]
 have hfin:br v c x (qG (q+4) (i:Int) (v,c,x,())) ((hy (q+2)).mn v (0,([]:List I.D),()) (0,([]:aS),()) (jN (J I v.2.1 i) (ft (J I v.2.1 i)) (bO x) (ej x))) (QK v c x):=by
  have eQ:qG (q+4) (i:Int) (v,c,x,())=some (0,((v.1,v.2.1.set i (jN (J I v.2.1 i) (ft (J I v.2.1 i)) (bO x) (ej x)),()),c,x,()),()):=by
   rw [qG,ME]
   show Option.bind (aL v.2.1.length (i:Int)) (fun v1=>MD (i:Int) (v,c,x,()) (v.2.1.set v1 (jN (J I v.2.1 v1) (ft (J I v.2.1 v1)) (bO x) (fK (J I v.2.1 v1)))))=_
   rw [ba bN.1]
   simp only [ak]
   unfold MD
   rw [ba (by rw [List.length_set];exact bN.1)]
   simp only [ak]
   unfold Vd
   rw [List.set_set,kB bN.1,if_pos rfl];rfl
  rw [eQ,QI hv _ _ bN.1 _ (aaL _ _ _ _) (aaN hv bN.1 _ _ _),aaM hv bN.1]
  exact⟨0,_,rfl,rfl,fun _=>⟨pR,QL,r,i,hr,bZ,hi,rfl⟩⟩
 by_cases h0:c.1=0
 ·rw [dL h0]
  exact hfin
 ·rw [c4 h0]
  simp only [cond_true]
  by_cases hu:c.1=eF (J I v.2.1 i)
  ·rw [dL hu]
   simp only [cond_false]
   by_cases hn:bO x=eF (J I v.2.1 i)
   ·rw [dL hn]
    simp only [cond_false]
    cases mx c (ej x) with
    | false=>exact br.no 1 (by decide) rfl rfl
    | true=>exact hfin
   ·rw [c4 hn]
    exact br.no 1 (by decide) rfl rfl
  ·rw [c4 hu]
   exact br.no 1 (by decide) rfl rfl
def nB(x:a6)(b k:Int):a6:=(x.1,x.2.1,x.2.2.1,x.2.2.2.1,x.2.2.2.2.1,x.2.2.2.2.2.1,x.2.2.2.2.2.2.1,b,k,())
theorem anK(x:a6)(b k:Int):(nB x b k).1=x.1:=rfl
structure aaO(v:af.D)(c:aP.D)(x:aN.D)(w:af.D):Prop where
 out:(0≤bO x∧bO x≤400)∧(0≤ej x∧ej x≤24)∧c.1=0∧∃r i,lK v.2.1 r∧bH r=0∧bG v.2.1 (bu r)=some i∧kindOf (J I v.2.1 i)=2∧w=(v.1,v.2.1.set i (nB (J I v.2.1 i) (bO x) (ej x)),())∧f_ w.2.1=0
theorem anL(v:af.D)(c:aP.D)(x:aN.D)(hv:cG v)(hc:dY c=true)(hx:jv x)(hk:aG x=19):br v c x (ER ((v,c,x,()),())) (sx (v,c,x,())) (aaO v c x):=by
 have cp:=hv.iY
 have hl:v.2.1.length≤1048576:=cp.len
 have av:=hx.path
 obtain ⟨q,hq,hQ⟩:=jl 4
 show br v c x (MH (v,c,x,())) (sw (hy aK) v c x) _
 unfold MH sw
 show br v c x (Option.bind (cZ (bO x,0,400,())) fun v1=>cond (!v1.1) _ (Option.bind (cZ (ej x,0,24,())) _)) (cond (aG x==15) _ (cond (aG x==16) _ (Option.bind (cS (bO x,0,400,())) fun v2=>cond (!v2.1) _ (Option.bind (cS (ej x,0,24,())) _)))) _
 rw [bV (show aG x≠15 by omega),bV (show aG x≠16 by omega)]
 simp only [cond_true,cond_false]
 rw [gE,gU]
 simp only [ak]
 rw [hq]
 cases hN:cg (bO x) 0 400 with
 | false =>
  simp only [Bool.not_false,cond_true]
  rw [Bl]
  exact br.no 22 (by decide) rfl rfl
 | true =>
 have pR:=dm.1 hN
 simp only [Bool.not_true,cond_false]
 rw [gE,gU]
 simp only [ak]
 rw [Bl]
 unfold Ax
 cases jj:cg (ej x) 0 24 with
 | false=>exact br.no 22 (by decide) rfl rfl
 | true =>
 have QL:=dm.1 jj
 simp only [Bool.not_true,cond_false]
 show br v c x (cond (c.1 != 0) _ _) (cond (aG x==19) (cond (c.1 != 0) _ _) _) _
 rw [cA hk]
 simp only [cond_true]
 by_cases h0:c.1=0
 case neg =>
  rw [c4 h0]
  exact br.no 1 (by decide) rfl rfl
 rw [dL h0]
 simp only [cond_false]
 rw [QH]
 unfold Ay
 obtain ⟨r,⟨hr,yq⟩,fx,ke,kf⟩:=sW v c x true cp hc (by omega)
 show br v c x _ (Option.bind (eT (v,c,eZ x,true,())) _) _
 rw [fx]
 simp only [ak]
 show br v c x _ (cond (bH r != 0) (some (v,(bH r,[],()),())) _) _
 by_cases bZ:bH r=0
 case neg =>
  rw [ke bZ,c4 bZ]
  simp only [ak]
  rw [c4 bZ]
  exact br.no (bH r) bZ rfl rfl
 obtain ⟨i,hi,eQ⟩:=kf bZ
 have bN:=cq hi
 rw [eQ,dL bZ]
 simp only [cond_false,ak]
 rw [show((0:Int) != 0)=false from rfl]
 simp only [cond_false]
 show br v c x _ (Option.bind (e8 (v,bu r,())) _) _
 rw [jr v _ hl hi,ba bN.1]
 simp only [ak]
 show br v c x (cond (kindOf (J I v.2.1 i) != 2) (some (20,(v,c,x,()),())) (EP ((i:Int),0,(v,c,x,()),()) (v.2.1.set i (nB (J I v.2.1 i) (bO x) (ff (J I v.2.1 i))))))
  (cond (aG x==15) _ (cond (aG x==16) _ (cond (kindOf (J I v.2.1 i) != 2) (some (v,(20,[],()),())) ((hy (q+2)).mn v (0,([]:List I.D),()) (0,([]:aS),()) (nB (J I v.2.1 i) (bO x) (ej x)))))) _
 rw [bV (show aG x≠15 by omega),bV (show aG x≠16 by omega)]
 simp only [cond_false]
 by_cases ly:kindOf (J I v.2.1 i)=2
 case neg =>
  rw [c4 ly]
  exact br.no 20 (by decide) rfl rfl
 rw [dL ly]
 simp only [cond_false]
 have hst:al 1000 (v.2.1.set i (nB (J I v.2.1 i) (bO x) (ej x))):=(hv.st.set (k:=1) (i:=i) (y:=nB (J I v.2.1 i) (bO x) (ej x)) bN.1 rfl (fun d ah=>hv.iV i bN.1 d ah) (fun hk=>absurd ly hk) (Nat.le_add_right _ _) (Nat.le_add_right _ _)).mono (by omega)
 have eQ:EP ((i:Int),0,(v,c,x,()),()) (v.2.1.set i (nB (J I v.2.1 i) (bO x) (ff (J I v.2.1 i))))=some (f_ (v.2.1.set i (nB (J I v.2.1 i) (bO x) (ej x))),((v.1,v.2.1.set i (nB (J I v.2.1 i) (bO x) (ej x)),()),c,x,()),()):=by
  unfold EP
  rw [ba (by rw [List.length_set];exact bN.1)]
  simp only [ak]
  rw [List.set_set,kB bN.1,if_pos rfl]
  show MG ((i:Int),0,(v,c,x,()),()) (v.2.1.set i (nB (J I v.2.1 i) (bO x) (ej x)))=_
  unfold MG
  show Option.bind (nj (((v.1,v.2.1.set i (nB (J I v.2.1 i) (bO x) (ej x)),()),c,x,()),())) _=_
  rw [A9 (v.1,v.2.1.set i (nB (J I v.2.1 i) (bO x) (ej x)),()) c x hst (by omega)];rfl
 rw [eQ,QI hv _ _ bN.1 _ (anK _ _ _) hst]
 exact⟨_,_,rfl,rfl,fun h=>⟨pR,QL,h0,r,i,hr,bZ,hi,ly,rfl,h⟩⟩
end Go.LM.jH
