/- Calls on volumes: both sides come to the same. Conditions: each theorem's own hypotheses. -/
import Derived.Test.YtklmgcjamifmaaaGreatDoorLVc
set_option linter.unusedVariables false
set_option linter.unusedSimpArgs false
namespace Go.LM.kA
theorem V5{n:Nat}(h:n≤68719476736):n+1<aQ:=by unfold aQ;omega
theorem xN{α : Type}{l:List α}{k:Nat}(h:k<l.length):l.drop k=l[k] :: l.drop (k+1):=List.drop_eq_getElem_cons h
def p3(y:ax.D)(id:aF):Bool:=bs y.1 id
theorem V6(y:ax.D)(id:aF):EX (y,id,())=some (p3 y id,()):=rfl
def vp(id:aF):List ax.D→Nat→Int
 | [],_ => -1
 | y :: l,k=>cond (p3 y id) (k:Int) (vp id l (k+1))
theorem ag2(ys:List ax.D)(id:aF)(hn:ys.length≤68719476736):∀(r k m:Nat),k+r=ys.length→r<m →
  xp m ys id (ys.length:Int) (k:Int)=some (vp id (ys.drop k) k,()):=by
 intro r
 induction r with
 | zero =>
  intro k m hk hm
  obtain ⟨m,rfl⟩:∃q,m=q+1:=⟨m-1,by omega⟩
  simp only [xp,EZ]
  rw [cT (by omega),List.drop_of_length_le (by omega)];rfl
 | succ r ih =>
  intro k m hk hm
  obtain ⟨m,rfl⟩:∃q,m=q+1:=⟨m-1,by omega⟩
  have n_:k<ys.length:=by omega
  simp only [xp,EZ]
  rw [cq n_,bC n_]
  simp only [cond_true,av]
  rw [V6,vI n_,xN n_]
  simp only [av,vp]
  cases p3 ys[k] id
  ·simp only [cond_false]
   rw [dg _ (by omega)]
   exact ih (k+1) m (by omega) (by omega)
  ·rfl
theorem V7(id:aF):∀(l:List ax.D) (k:Nat),(vp id l k = -1∧l.filter (fun y => !p3 y id)=l)∨∃j,j<l.length∧vp id l k=((k+j:Nat):Int)∧(l.filter (fun y => !p3 y id))=l.take j++(l.drop (j+1)).filter (fun y => !p3 y id)
 | [],_=>.inl ⟨rfl,rfl⟩
 | y :: l,k=>by
  rw [List.filter_cons]
  unfold vp
  cases h:p3 y id
  ·rcases V7 id l (k+1) with⟨h1,h2⟩ | ⟨j,h1,h2,h3⟩
   ·exact .inl ⟨by simp only [cond_false];exact h1,by simp [h2]⟩
   ·exact .inr ⟨j+1,by simpa using h1,by simp only [cond_false];rw [h2];congr 1;omega,by simp [h3]⟩
  ·exact .inr ⟨0,by simp,by simp,by simp⟩
theorem ag3(ys:List ax.D)(id:aF)(hn:ys.length≤68719476736):∀(r j i m:Nat) (xs:List ax.D),j+r=ys.length→i≤j→xs.length=ys.length→xs.drop j=ys.drop j→r<m →
  xr m id (i:Int) (j:Int) xs=some (xs.take i++(ys.drop j).filter (fun y => !p3 y id),()):=by
 intro r
 induction r with
 | zero =>
  intro j i m xs hj iM hl ag hm
  obtain ⟨m,rfl⟩:∃q,m=q+1:=⟨m-1,by omega⟩
  simp only [xr,E2]
  rw [cT (by omega),kp (by omega) (Nat.le_refl _)]
  simp only [cond_false,av,SX,Nat.zero_add]
  generalize ((([]:List UInt8),0,()):ax.D)=z
  have hlen:(xs.take i++List.replicate (xs.length-i) z++xs.drop (i +(xs.length-i))).length=xs.length:=by
   simp;omega
  rw [show(0:Int)=((0:Nat):Int) from rfl,kp (Nat.zero_le _) (by rw [hlen];omega)]
  simp only [av,Nat.sub_zero,Nat.zero_add]
  rw [List.drop_of_length_le (l:=ys) (by omega),List.filter_nil,List.append_nil]
  congr 2
  unfold part
  rw [List.drop_zero,List.append_assoc,List.take_append_of_le_length (by simp;omega),List.take_take]
  simp
 | succ r ih =>
  intro j i m xs hj iM hl ag hm
  obtain ⟨m,rfl⟩:∃q,m=q+1:=⟨m-1,by omega⟩
  have hjl:j<xs.length:=by omega
  have yd:j<ys.length:=by omega
  have he:xs[j]=ys[j]∧xs.drop (j+1)=ys.drop (j+1):=by
   rw [xN hjl,xN yd] at ag
   exact List.cons.inj ag
  simp only [xr,E2]
  rw [cq hjl,bC hjl]
  simp only [cond_true,av,Nat.zero_add]
  rw [V6,vI hjl,he.1,xN yd,List.filter_cons]
  simp only [av]
  cases hh:p3 ys[j] id
  ·simp only [Bool.not_false,cond_true,if_true]
   rw [bC (show i<xs.length by omega)]
   simp only [av,Nat.zero_add]
   rw [dg _ (by omega),dg _ (by omega),ih (j+1) (i+1) m (xs.set i ys[j]) (by omega) (by omega) (by simpa using hl) (by rw [List.drop_set_of_lt (by omega)];exact he.2) (by omega)]
   congr 2
   rw [List.take_add_one,List.take_set_of_le (Nat.le_refl _),List.getElem?_set_self (by omega)]
   simp
  ·simp only [Bool.not_true,cond_false,Bool.false_eq_true,if_false]
   rw [dg _ (by omega)]
   exact ih (j+1) i m xs (by omega) (by omega) hl he.2 (by omega)
theorem ag4(ys:List ax.D)(id:aF)(hn:room ys.length=true):E3 (ys,id,())=some (ys.filter (fun y => !p3 y id),()):=by
 have hn:ys.length≤68719476736:=Nat.le_of_ble_eq_true hn
 show E1 _ ys id=_
 unfold E1
 have hi:Lk (ys,id,())=some (vp id ys 0,()):=by
  have:=ag2 ys id hn ys.length 0 aQ (by omega) (by have:=V5 hn;omega)
  rw [List.drop_zero] at this
  exact this
 rw [hi]
 simp only [av]
 rcases V7 id ys 0 with⟨h1,h2⟩ | ⟨j,h1,h2,h3⟩
 ·rw [h1,h2];rfl
 ·rw [h2,h3,Nat.zero_add,show((j:Int) == -1)=false from by rw [beq_eq_false_iff_ne];omega]
  simp only [cond_false]
  rw [dg _ (by omega)]
  exact ag3 ys id hn (ys.length-(j+1)) (j+1) j aQ ys (by omega) (by omega) rfl rfl (by have:=V5 hn;omega)
theorem Aw(v:af.D)(c:aI.D)(x:aH.D)(path:aF)(bl:Bool)(hw:n0 v.2.1)(hc:dd c=true)(au:path.length≤1048576) :
  ∃r,sP bl v.2.1 r∧k_ ((v,c,x,()),path,bl,())=some (r,())∧dX (v,c,path,bl,())=some (r,()):=by
 cases hk:mW path with
 | false =>
  refine⟨((0:Int),([]:aF),(0:Int),(22:Int),()),xI bl _ (by decide) 0 0 (.inr trivial),?_,?_⟩
  ·show qZ (v,c,x,()) path bl=_
   unfold qZ
   rw [Gg _ (by omega),hk];rfl
  ·show oN v c path bl=_
   unfold oN
   rw [sN,hk];rfl
 | true =>
  obtain ⟨r,bx,ch,gd⟩:=V4 v c path bl hw hc hk
  refine⟨r,bx,?_,?_⟩
  ·show qZ (v,c,x,()) path bl=_
   unfold qZ
   rw [Gg _ (by omega),hk]
   simp only [av,Bool.not_true,cond_false]
   rw [ch];rfl
  ·show oN v c path bl=_
   unfold oN
   rw [sN,hk]
   simp only [av,Bool.not_true,cond_false]
   rw [gd];rfl
theorem m2{s:aF} : bs s []=true↔s=[]:=by unfold bs;simp
theorem V8(v:af.D)(c:aI.D)(x:aH.D)(path:aF)(hw:n0 v.2.1)(hc:dd c=true)(au:path.length≤1048576) :
  ∃r ed code,u9 ((v,c,x,()),path,())=some (r,code,())∧qI (v,c,path,())=some (ed,code,())∧(code=0→ed=r∧l4 v.2.1 r∧bG r=2∧nameOf r≠[]∧dX (v,c,path,false,())=some (r,())):=by
 cases hk:mW path with
 | false =>
  refine⟨((0:Int),([]:aF),(0:Int),(22:Int),()),((0:Int),([]:aF),(0:Int),(0:Int),()),22,?_,?_,fun h=>by cases h⟩
  ·show zQ (v,c,x,()) path=_
   unfold zQ
   have:k_ ((v,c,x,()),path,false,())=some (((0:Int),([]:aF),(0:Int),(22:Int),()),()):=by
    show qZ (v,c,x,()) path false=_
    unfold qZ
    rw [Gg _ (by omega),hk];rfl
   rw [this];rfl
  ·show ur v c path=_
   unfold ur
   rw [sN,hk];rfl
 | true =>
  obtain ⟨r,bx,ch,gd⟩:=V4 v c path false hw hc hk
  have eY:u9 ((v,c,x,()),path,())=cond (bG r==2) (cond (!(bs (nameOf r) [])) (some (r,0,())) (cond (bG r==0) (some (r,17,())) (some (r,bG r,())))) (cond (bG r==0) (some (r,17,())) (some (r,bG r,()))):=by
   show zQ (v,c,x,()) path=_
   unfold zQ
   have:k_ ((v,c,x,()),path,false,())=some (r,()):=by
    show qZ (v,c,x,()) path false=_
    unfold qZ
    rw [Gg _ (by omega),hk]
    simp only [av,Bool.not_true,cond_false]
    rw [ch];rfl
   rw [this];rfl
  have dS:qI (v,c,path,())=cond (bG r==0) (some (r,17,())) (cond (bG r==2) (cond (!(bs (nameOf r) [])) (some (r,0,())) (some (r,bG r,()))) (some (r,bG r,()))):=by
   show ur v c path=_
   unfold ur
   rw [sN,hk]
   simp only [av,Bool.not_true,cond_false]
   rw [gd];rfl
  rw [eY,dS]
  by_cases h0:bG r=0
  ·rw [cF h0,b4 (show bG r≠2 by omega)]
   exact⟨r,r,17,rfl,rfl,fun h=>by cases h⟩
  ·rw [b4 h0]
   by_cases h2:bG r=2
   ·rw [cF h2]
    cases hn:bs (nameOf r) [] with
    | true=>exact⟨r,r,bG r,rfl,rfl,fun h=>absurd h h0⟩
    | false=>exact⟨r,r,0,rfl,rfl,fun _=>⟨rfl,bx.1,h2,fun h=>(by rw [m2.2 h] at hn;cases hn),by
     show oN v c path false=_
     unfold oN
     rw [sN,hk]
     simp only [av,Bool.not_true,cond_false]
     rw [gd];rfl⟩⟩
   ·rw [b4 h2]
    exact⟨r,r,bG r,rfl,rfl,fun h=>absurd h h0⟩
def bX(x:aJ)(N:List ax.D):aJ:=(x.1,x.2.1,x.2.2.1,x.2.2.2.1,x.2.2.2.2.1,x.2.2.2.2.2.1,N,x.2.2.2.2.2.2.2.1,x.2.2.2.2.2.2.2.2.1,())
def dY(s:aF)(d:ax.D):Bool:=dx d.1 s
def ins(N:List ax.D)(s:aF)(id:Int):List ax.D:=N.takeWhile (dY s)++[(s,id,())]++N.dropWhile (dY s)
theorem NA{α : Type}(p : α → Bool)(l:List α):l.take (l.takeWhile p).length=l.takeWhile p:=by
 have:=List.take_left' (l₁:=l.takeWhile p) (l₂:=l.dropWhile p) rfl
 rwa [List.takeWhile_append_dropWhile] at this
theorem Gu{α : Type}(p : α → Bool)(l:List α):l.drop (l.takeWhile p).length=l.dropWhile p:=by
 have:=List.drop_left' (l₁:=l.takeWhile p) (l₂:=l.dropWhile p) rfl
 rwa [List.takeWhile_append_dropWhile] at this
theorem V9{α : Type}{p : α → Bool}{x : α} : ∀ {l:List α},x∈l.takeWhile p→p x=true
 | [],h=>by simp at h
 | y :: l,h=>by
  rw [List.takeWhile_cons] at h
  cases aN:p y
  ·rw [aN] at h;simp at h
  ·rw [aN] at h
   simp only [if_true,List.mem_cons] at h
   rcases h with rfl | h
   ·exact aN
   ·exact V9 h
theorem V_{α : Type}{p : α → Bool}{x : α}{r:List α} : ∀ {l:List α},l.dropWhile p=x :: r→p x=false
 | [],h=>by simp at h
 | y :: l,h=>by
  rw [List.dropWhile_cons] at h
  cases aN:p y
  ·rw [aN] at h
   simp only [Bool.false_eq_true,if_false] at h
   injection h with h1 h2
   rw [← h1];exact aN
  ·rw [aN] at h
   simp only [if_true] at h
   exact V_ h
theorem NB{α : Type}(p : α → Bool)(l:List α):(l.takeWhile p).length≤l.length:=by
 have:=congrArg List.length (List.takeWhile_append_dropWhile (p:=p) (l:=l))
 rw [List.length_append] at this;omega
theorem xO(N:List ax.D)(s:aF)(id:Int):(ins N s id).length=N.length+1:=by
 have:=congrArg List.length (List.takeWhile_append_dropWhile (p:=dY s) (l:=N))
 rw [List.length_append] at this
 unfold ins
 simp only [List.length_append,List.length_cons,List.length_nil];omega
theorem V'{N:List ax.D}{s:aF} : ∀ {j:Nat},j<(N.takeWhile (dY s)).length→dx (J ax N j).1 s=true:=by
 intro j hj
 have Gv:j<N.length:=Nat.lt_of_lt_of_le hj (NB _ _)
 have h1:(N.takeWhile (dY s))[j]∈N.takeWhile (dY s):=List.getElem_mem hj
 have h2:=V9 h1
 have e:(N.takeWhile (dY s))[j]=J ax N j:=by
  rw [c7 Gv]
  have:=List.takeWhile_append_dropWhile (p:=dY s) (l:=N)
  have h3:(N.takeWhile (dY s)++N.dropWhile (dY s))[j]?=N[j]?:=by rw [this]
  rw [List.getElem?_append_left hj,List.getElem?_eq_getElem hj,List.getElem?_eq_getElem Gv] at h3
  exact aS h3
 rw [e] at h2
 exact h2
theorem Wa{N:List ax.D}{s:aF}(h:(N.takeWhile (dY s)).length<N.length):dx (J ax N (N.takeWhile (dY s)).length).1 s=false:=by
 have h1:=Gu (dY s) N
 have h2:=xN h
 rw [h1] at h2
 rw [c7 h]
 exact V_ (p:=dY s) h2
theorem NC(v:af.D)(c:aI.D)(x:aH.D)(dir:Int)(s:aF)(id:Int)(hl:v.2.1.length≤1048576){i:Nat}(h:ba v.2.1 dir=some i)(hn:(ak (J I v.2.1 i)).length≤1048576) :
  sx ((v,c,x,()),dir,s,id,())=some (((v.1,v.2.1.set i (bX (J I v.2.1 i) (ins (ak (J I v.2.1 i)) s id)),()),c,x,()),()):=by
 show EV (sw aQ) (v,c,x,()) dir s id=_
 unfold EV
 rw [Nj v dir hl,h]
 simp only [av,hg]
 obtain ⟨hi,b7⟩:=bZ h
 generalize hN:ak (J I v.2.1 i)=N at hn
 have ck:=NB (dY s) N
 have lX:∀m,(sw (m+1)).bb s id (i:Int) ((N.takeWhile (dY s)).length:Int) (v,c,x,())=some (((v.1,v.2.1.set i (bX (J I v.2.1 i) (ins N s id)),()),c,x,()),()):=by
  intro m
  show Lf (sw m) s id (i:Int) ((N.takeWhile (dY s)).length:Int) (v,c,x,())=_
  unfold Lf
  rw [bC hi]
  simp only [av,Nat.beq_refl,cond_true]
  show Option.bind (insF (ak (J I v.2.1 i)) ((N.takeWhile (dY s)).length:Int) [(s,id,())]) _=_
  rw [hN]
  unfold insF
  rw [if_pos ⟨Int.natCast_nonneg _,Int.ofNat_le.2 ck,rfl,by omega⟩]
  simp only [av,Int.toNat_natCast]
  rw [NA,Gu]
  rfl
 have p4:=o4 1 (fun m j=>(sw m).k2 s id (i:Int) (j:Int) (v,c,x,())) (some (((v.1,v.2.1.set i (bX (J I v.2.1 i) (ins N s id)),()),c,x,()),())) (N.takeWhile (dY s)).length 2 (fun j hj B y he=>he.step fun m=>by
  show zR (sw m) s id (i:Int) (j:Int) (v,c,x,())=_
  unfold zR
  rw [bC hi]
  simp only [av]
  show cond (decide ((j:Int)<((ak (J I v.2.1 i)).length:Int))) ((aO (ak (J I v.2.1 i)).length (j:Int)).bind fun v3=>cond (dx (J ax (ak (J I v.2.1 i)) v3).1 s) _ _) _=_
  rw [hN,cq (by omega),bC (by omega)]
  simp only [cond_true,av]
  rw [V' hj,dg j (by omega)];rfl) (bV.now 2 fun m=>by
  show zR (sw (m+1)) s id (i:Int) ((N.takeWhile (dY s)).length:Int) (v,c,x,())=_
  unfold zR
  rw [bC hi]
  simp only [av]
  show cond (decide (((N.takeWhile (dY s)).length:Int)<((ak (J I v.2.1 i)).length:Int))) ((aO (ak (J I v.2.1 i)).length ((N.takeWhile (dY s)).length:Int)).bind fun v3=>cond (dx (J ax (ak (J I v.2.1 i)) v3).1 s) _ _) _=_
  rw [hN]
  rcases Nat.lt_or_ge (N.takeWhile (dY s)).length N.length with h1 | h1
  ·rw [cq h1,bC h1]
   simp only [cond_true,av]
   rw [Wa h1]
   exact lX m
  ·rw [cT h1]
   exact lX m)
 exact kI p4 (by omega)
def b8(N:List ax.D)(s:aF):List ax.D:=N.filter fun d => !bs d.1 s
def goN(l:List aJ)(id:Int):List aJ:=cond (decide (ca l id=0)) (l.filter fun y => !(y.1==id)) l
theorem Gw{l:List aJ}{i:Nat}{y:aJ}(hi:i<l.length):dv (l.set i y) +(ak (J I l i)).length=dv l +(ak y).length:=by
 unfold dv
 induction l generalizing i with
 | nil=>simp at hi
 | cons z l ih =>
  cases i with
  | zero=>simp only [List.set_cons_zero,List.map_cons,List.sum_cons];show _ +(ak z).length=_;omega
  | succ i =>
   have:=ih (i:=i) (by simpa using hi)
   simp only [List.set_cons_succ,List.map_cons,List.sum_cons]
   show _ +(ak (J I l i)).length=_
   omega
theorem hp(x:aJ)(N:List ax.D):ak (bX x N)=N:=rfl
theorem vq(N:List ax.D)(s:aF):(b8 N s).length≤N.length:=List.length_filter_le _ _
theorem ND(v:af.D)(c:aI.D)(x:aH.D)(dir:Int)(s:aF)(goes:Bool)(hl:v.2.1.length≤1048576)(hm:dv v.2.1≤1048576){i:Nat}(h:ba v.2.1 dir=some i) :
  oU ((v,c,x,()),dir,s,goes,())=some (((v.1,cond goes (goN (v.2.1.set i (bX (J I v.2.1 i) (b8 (ak (J I v.2.1 i)) s))) (cJ (ak (J I v.2.1 i)) s)) (v.2.1.set i (bX (J I v.2.1 i) (b8 (ak (J I v.2.1 i)) s))),()),c,x,()),()):=by
 show Lm (v,c,x,()) dir s goes=_
 unfold Lm
 rw [Nj v dir hl,h]
 simp only [av,hg]
 obtain ⟨hi,b7⟩:=bZ h
 have hn:=Nat.le_trans (fO hi) hm
 rw [bC hi]
 simp only [av,Nat.beq_refl,cond_true]
 rw [VL _ _ hn]
 simp only [av]
 show Option.bind (E3 (ak (J I v.2.1 i),s,())) _=_
 rw [ag4 _ _ (cH (by omega))]
 simp only [av]
 show Ll goes ((i:Int),v,()) (cJ (ak (J I v.2.1 i)) s,()) (v,c,x,()) (v.2.1.set i (bX (J I v.2.1 i) (b8 (ak (J I v.2.1 i)) s)))=_
 have mS:(v.2.1.set i (bX (J I v.2.1 i) (b8 (ak (J I v.2.1 i)) s))).length≤1048576:=by rw [List.length_set];exact hl
 have n2:dv (v.2.1.set i (bX (J I v.2.1 i) (b8 (ak (J I v.2.1 i)) s)))≤1048576:=by
  have:=Gw (l:=v.2.1) (y:=bX (J I v.2.1 i) (b8 (ak (J I v.2.1 i)) s)) hi
  rw [hp] at this
  have:=vq (ak (J I v.2.1 i)) s
  omega
 generalize v.2.1.set i (bX (J I v.2.1 i) (b8 (ak (J I v.2.1 i)) s))=l at mS n2
 generalize cJ (ak (J I v.2.1 i)) s=id
 unfold Ll
 cases goes
 ·rfl
 ·simp only [cond_true]
  show Option.bind (xj (((v.1,l,()):af.D),id,())) _=_
  rw [F2 (v.1,l,()) id mS n2]
  simp only [av]
  unfold goN
  by_cases h0:ca l id=0
  ·rw [show(((ca l id:Nat):Int)==0)=true by rw [h0];rfl,decide_eq_true h0]
   simp only [cond_true]
   show Option.bind (cond (room l.length) _ none) _=_
   rw [cH (by omega)];rfl
  ·rw [show(((ca l id:Nat):Int)==0)=false by rw [beq_eq_false_iff_ne];omega,decide_eq_false h0];rfl
theorem Gz(v:af.D)(n:aJ)(hl:v.2.1.length≤1048576){i:Nat}(h:ba v.2.1 n.1=some i):oK (v,n,())=some ((v.1,v.2.1.set i n,()),()):=by
 show zm v n=_
 unfold zm
 rw [l2 v _ hl,h]
 simp only [av]
 rw [show decide (hg (some i)<0)=false from Aj]
 simp only [cond_false,hg]
 rw [bC (bZ h).1]
 simp only [av,Nat.zero_add]
theorem ag5(v:af.D)(n:aJ)(hl:v.2.1.length≤1048576)(h:ba v.2.1 n.1=none):oK (v,n,())=some ((v.1,v.2.1++[n],()),()):=by
 show zm v n=_
 unfold zm
 rw [l2 v _ hl,h]
 simp only [av,Aj,Option.isNone_none,cond_true]
 rw [cH (by simp;omega)];rfl
theorem NF(v:af.D)(dir:Int)(s:aF)(id:Int)(hl:v.2.1.length≤1048576){i:Nat}(h:ba v.2.1 dir=some i)(hn:(ak (J I v.2.1 i)).length≤1048576)(hs:∀d,d∈ak (J I v.2.1 i)→d.1≠s) :
  r_ (v,dir,s,id,())=some ((v.1,v.2.1.set i (bX (J I v.2.1 i) (ins (ak (J I v.2.1 i)) s id)),()),()):=by
 show Dm (iG aQ) v dir s id=_
 unfold Dm
 rw [ik v dir hl h]
 simp only [av]
 obtain ⟨hi,b7⟩:=bZ h
 generalize hN:ak (J I v.2.1 i)=N at hn hs
 have ck:=NB (dY s) N
 have hw:ba v.2.1 (bX (J I v.2.1 i) (ins N s id)).1=some i:=by rw [show(bX (J I v.2.1 i) (ins N s id)).1=dir from b7];exact h
 have Wb:∀m,(iG (m+1)).mH v (0,([]:List I.D),()) (J I v.2.1 i) (ins N s id)=some ((v.1,v.2.1.set i (bX (J I v.2.1 i) (ins N s id)),()),()):=by
  intro m
  show J8 (iG m) v (0,([]:List I.D),()) (J I v.2.1 i) (ins N s id)=_
  unfold J8
  show Option.bind (oK (v,bX (J I v.2.1 i) (ins N s id),())) _=_
  rw [Gz v _ hl hw];rfl
 have ag6:∀(r j:Nat) (acc:List ax.D),j+r=N.length→acc++N.drop j=ins N s id→acc.length≤j+1→bV (fun m=>(iG m).bw s id true (j:Int) v (0,([]:List I.D),()) (J I v.2.1 i) acc) (2*r+2) (some ((v.1,v.2.1.set i (bX (J I v.2.1 i) (ins N s id)),()),())):=by
  intro r
  induction r with
  | zero =>
   intro j acc hj he ha
   refine bV.now 2 fun m=>?_
   show oL (iG (m+1)) s id true (j:Int) v (0,([]:List I.D),()) (J I v.2.1 i) acc=_
   unfold oL
   show cond (decide ((j:Int)<((ak (J I v.2.1 i)).length:Int))) _ _=_
   rw [hN,cT (by omega)]
   rw [List.drop_of_length_le (by omega),List.append_nil] at he
   rw [he]
   exact Wb m
  | succ r ih =>
   intro j acc hj he ha
   have hjl:j<N.length:=by omega
   have:=ih (j+1) (acc++[J ax N j]) (by omega) (by rw [List.append_assoc,List.singleton_append,← drop_cons (t:=ax) hjl];exact he) (by simp;omega)
   refine(this.jump (f:=fun m=>(iG m).bw s id true (j:Int) v (0,([]:List I.D),()) (J I v.2.1 i) acc) 2 fun m=>?_).mono (by omega)
   show oL (iG (m+1)) s id true (j:Int) v (0,([]:List I.D),()) (J I v.2.1 i) acc=_
   unfold oL
   show cond (decide ((j:Int)<((ak (J I v.2.1 i)).length:Int))) _ _=_
   rw [hN,cq hjl]
   simp only [cond_true,Bool.not_true,cond_false]
   show uy (iG m) s id true (j:Int) v (0,([]:List I.D),()) (J I v.2.1 i) acc=_
   unfold uy
   show Option.bind (aO (ak (J I v.2.1 i)).length (j:Int)) (fun v1=>cond (room (acc.length+1)) ((iG m).bw s id true (aK ((j:Int)+1)) v (0,([]:List I.D),()) (J I v.2.1 i) (acc++[J ax (ak (J I v.2.1 i)) v1])) none)=_
   rw [hN,bC hjl]
   simp only [av]
   rw [cH (by omega),dg j (by omega)];rfl
 have p4:=o4 2 (fun m j=>(iG m).bw s id false (j:Int) v (0,([]:List I.D),()) (J I v.2.1 i) (N.take j)) (some ((v.1,v.2.1.set i (bX (J I v.2.1 i) (ins N s id)),()),())) (N.takeWhile (dY s)).length (2*N.length+8) (fun j hj B y he=>(he.jump (f:=fun m=>(iG m).bw s id false (j:Int) v (0,([]:List I.D),()) (J I v.2.1 i) (N.take j)) 2 fun m=>by
  have hjl:j<N.length:=by omega
  show oL (iG (m+1)) s id false (j:Int) v (0,([]:List I.D),()) (J I v.2.1 i) (N.take j)=_
  unfold oL
  show cond (decide ((j:Int)<((ak (J I v.2.1 i)).length:Int))) (cond (!false) ((aO (ak (J I v.2.1 i)).length (j:Int)).bind fun v1=>cond (dx s (J ax (ak (J I v.2.1 i)) v1).1) _ _) _) _=_
  rw [hN,cq hjl,bC hjl]
  simp only [cond_true,Bool.not_false,av]
  rw [VX (V' hj)]
  simp only [cond_false]
  show uy (iG m) s id false (j:Int) v (0,([]:List I.D),()) (J I v.2.1 i) (N.take j)=_
  unfold uy
  show Option.bind (aO (ak (J I v.2.1 i)).length (j:Int)) (fun v1=>cond (room ((N.take j).length+1)) ((iG m).bw s id false (aK ((j:Int)+1)) v (0,([]:List I.D),()) (J I v.2.1 i) (N.take j++[J ax (ak (J I v.2.1 i)) v1])) none)=_
  rw [hN,bC hjl]
  simp only [av]
  rw [cH (by rw [List.length_take];omega),dg j (by omega),c7 hjl,← List.take_succ_eq_append_getElem hjl];rfl)) (by
  rcases Nat.lt_or_ge (N.takeWhile (dY s)).length N.length with h1 | h1
  ·
   generalize hj:(N.takeWhile (dY s)).length=j at h1 ck
   have re:N.take j++[(s,id,())]++N.drop j=ins N s id:=by rw [← hj,NA,Gu];rfl
   have cA:dx s (J ax N j).1=true:=by
    have:=Wa (N:=N) (s:=s) (by omega)
    rw [hj] at this
    rw [Nq (hs _ (cP h1)),this];rfl
   have:=ag6 (N.length-(j+1)) (j+1) (N.take j++[(s,id,())]++[J ax N j]) (by omega) (by rw [List.append_assoc _ [J ax N j],List.singleton_append,← drop_cons (t:=ax) h1];exact re) (by simp;omega)
   refine(this.jump (f:=fun m=>(iG m).bw s id false (j:Int) v (0,([]:List I.D),()) (J I v.2.1 i) (N.take j)) 2 fun m=>?_).mono (by omega)
   show oL (iG (m+1)) s id false (j:Int) v (0,([]:List I.D),()) (J I v.2.1 i) (N.take j)=_
   unfold oL
   show cond (decide ((j:Int)<((ak (J I v.2.1 i)).length:Int))) (cond (!false) ((aO (ak (J I v.2.1 i)).length (j:Int)).bind fun v1=>cond (dx s (J ax (ak (J I v.2.1 i)) v1).1) _ _) _) _=_
   rw [hN,cq h1,bC h1]
   simp only [cond_true,Bool.not_false,av]
   rw [cA]
   simp only [cond_true]
   rw [cH (by simp;omega)]
   simp only [cond_true]
   show uy (iG m) s id true (j:Int) v (0,([]:List I.D),()) (J I v.2.1 i) (N.take j++[(s,id,())])=_
   unfold uy
   show Option.bind (aO (ak (J I v.2.1 i)).length (j:Int)) (fun v1=>cond (room ((N.take j++[(s,id,())]).length+1)) ((iG m).bw s id true (aK ((j:Int)+1)) v (0,([]:List I.D),()) (J I v.2.1 i) ((N.take j++[(s,id,())])++[J ax (ak (J I v.2.1 i)) v1])) none)=_
   rw [hN,bC h1]
   simp only [av]
   rw [cH (by simp;omega),dg j (by omega)];rfl
  ·
   have hj:(N.takeWhile (dY s)).length=N.length:=by omega
   have re:N++[(s,id,())]=ins N s id:=by
    unfold ins
    rw [← Gu,← NA,hj,List.take_length,List.drop_length,List.append_nil]
   rw [hj,List.take_length]
   refine(bV.now 2 fun m=>?_).mono (by omega)
   show oL (iG (m+1)) s id false (N.length:Int) v (0,([]:List I.D),()) (J I v.2.1 i) N=_
   unfold oL
   show cond (decide ((N.length:Int)<((ak (J I v.2.1 i)).length:Int))) _ _=_
   rw [hN,cT (Nat.le_refl _)]
   simp only [cond_false,Bool.not_false,cond_true]
   rw [cH (by simp;omega),re]
   exact Wb m)
 exact kI p4 (by omega)
theorem gv{l:List aJ}{i j:Nat}{y:aJ}(hi:i<l.length):J I (l.set i y) j=if i=j then y else J I l j:=by
 by_cases hj:j<l.length
 ·rw [c7 (by rw [List.length_set];exact hj),c7 hj,List.getElem_set]
 ·rw [if_neg (by omega)]
  unfold J
  rw [List.getD_eq_getElem?_getD,List.getD_eq_getElem?_getD,List.getElem?_eq_none (by rw [List.length_set];omega),List.getElem?_eq_none (by omega)]
theorem Wc{n:Nat}{P Q:Nat→Bool}(h:∀i,i<n→P i=Q i):fh n P=fh n Q:=by
 cases hq:fh n Q with
 | none=>exact l1.2 fun i hi=>by rw [h i hi];exact l1.1 hq i hi
 | some k =>
  obtain ⟨h1,h2,h3⟩:=ic.1 hq
  exact ic.2 ⟨h1,by rw [h k h1];exact h2,fun j hj=>by rw [h j (by omega)];exact h3 j hj⟩
theorem GA{l:List aJ}{i:Nat}{y:aJ}(hi:i<l.length)(aN:y.1=(J I l i).1)(id:Int):ba (l.set i y) id=ba l id:=by
 unfold ba
 rw [List.length_set]
 refine Wc fun j hj=>?_
 rw [gv hi]
 split
 ·rename_i h;rw [aN,h]
 ·rfl
def Ax(l:List aJ):Prop:=l.Pairwise fun a b=>aY a≠aY b
theorem Ay{l:List aJ} : ig l↔Ax l:=by
 unfold Ax
 rw [List.pairwise_iff_getElem]
 constructor
 ·intro h i j hi hj iM he
  have h1:=h i hi
  have h2:=h j hj
  rw [c7 hi] at h1
  rw [c7 hj] at h2
  have:(l[i]).1=(l[j]).1:=he
  rw [this,h2] at h1
  have:=aS h1
  omega
 ·intro h x hx
  unfold ba
  rw [ic]
  refine⟨hx,by simp,fun j hj=>?_⟩
  rw [beq_eq_false_iff_ne,c7 hx,c7 (i:=j) (by omega)]
  exact h j x (by omega) hx hj
theorem n3{l:List aJ}{id:Int} :(ba l id).isSome=true↔∃x,x∈l∧x.1=id:=by
 constructor
 ·intro h
  obtain ⟨i,hi⟩:=Option.isSome_iff_exists.1 h
  obtain ⟨h1,h2⟩:=bZ hi
  exact⟨_,cP h1,h2⟩
 ·rintro ⟨x,hx,he⟩
  obtain ⟨i,hi,aB⟩:=fx hx
  cases h:ba l id with
  | some k=>rfl
  | none =>
   have:=l1.1 h i hi
   rw [aB,he] at this
   simp at this
theorem ag7{l:List aJ}{n:aJ}{id:Int}{i:Nat}(h:ba l id=some i):ba (l++[n]) id=some i:=by
 obtain ⟨h1,h2,h3⟩:=ic.1 h
 have aB:∀j,j<l.length→J I (l++[n]) j=J I l j:=fun j hj=>by rw [c7 (by simp;omega),c7 hj,List.getElem_append_left hj]
 exact ic.2 ⟨by simp;omega,by rw [aB i h1];exact h2,fun j hj=>by rw [aB j (by omega)];exact h3 j hj⟩
theorem GB{l:List aJ}{n:aJ}{j:Nat}(hj:j<l.length):J I (l++[n]) j=J I l j:=by rw [c7 (by simp;omega),c7 hj,List.getElem_append_left hj]
theorem Wd{l:List aJ}{n y:aJ}{i:Nat}(hi:i<l.length):(l++[n]).set i y=l.set i y++[n]:=by rw [List.set_append_left _ _ hi]
theorem GC{l:List aJ}{id:Int}(h:ca l id=0):∀x,x∈l→∀d,d∈ak x→d.2.1≠id:=by
 intro x hx d ag he
 have h1:dr (ak x) id≤ca l id:=by
  unfold ca
  exact Ga (f:=fun x=>dr (ak x) id) hx
 have h2:d∈(ak x).filter fun d=>d.2.1==id:=List.mem_filter.2 ⟨ag,by simpa using he⟩
 have h3:0<dr (ak x) id:=List.length_pos_of_mem h2
 omega
theorem We{l:List aJ}{i:Nat}{y:aJ}(hi:i<l.length):bytesOf (l.set i y) +(bA (J I l i)).length=bytesOf l +(bA y).length:=by
 unfold bytesOf
 induction l generalizing i with
 | nil=>simp at hi
 | cons z l ih =>
  cases i with
  | zero=>simp only [List.set_cons_zero,List.map_cons,List.sum_cons];show _ +(bA z).length=_;omega
  | succ i =>
   have:=ih (i:=i) (by simpa using hi)
   simp only [List.set_cons_succ,List.map_cons,List.sum_cons]
   show _ +(bA (J I l i)).length=_
   omega
theorem GD{α : Type}(f : α → Nat)(p : α → Bool):∀l:List α,((l.filter p).map f).sum≤(l.map f).sum
 | []=>Nat.le_refl _
 | x :: l=>by
  have:=GD f p l
  rw [List.filter_cons]
  split
  ·simp only [List.map_cons,List.sum_cons];omega
  ·simp only [List.map_cons,List.sum_cons];omega
structure an(B:Nat)(l:List aJ):Prop where
 len:l.length≤B
 cG:dv l≤B
 bytes:bytesOf l≤B
 fR:ig l
 gN:q9 l
 bare:∀i,i<l.length→kindOf (J I l i)≠2→eP (J I l i)=0∧eD (J I l i)=0∧ak (J I l i)=[]
theorem an.mono{B nn:Nat}{l:List aJ}(h:an B l)(hb:B≤nn):an nn l:=⟨Nat.le_trans h.len hb,Nat.le_trans h.cG hb,Nat.le_trans h.bytes hb,h.fR,h.gN,h.bare⟩
theorem bz.cG{v:af.D}(h:bz v):dv v.2.1≤288:=by
 have key:∀l:List aJ,(∀x,x∈l→(ak x).length≤12)→dv l≤l.length*12:=by
  intro l
  induction l with
  | nil=>intro _;exact Nat.le_refl _
  | cons x l ih =>
   intro hx
   have h1:=hx x List.mem_cons_self
   have h2:=ih fun y aN=>hx y (List.mem_cons_of_mem _ aN)
   show(ak x).length+dv l≤(l.length+1)*12
   omega
 have:=key v.2.1 fun x hx=>by
  obtain ⟨i,hi,he⟩:=fx hx
  have h1:=h.ino i hi
  rw [he] at h1
  by_cases hk:kindOf x=2
  ·exact(h1.dir hk).2.2.2
  ·rw [(h1.plain hk).2.2];simp
 have:=h.len
 omega
theorem bz.st{v:af.D}(h:bz v):an 400 v.2.1 :=
 ⟨by have:=h.len;omega,by have:=h.cG;omega,h.bytes,h.fR,h.gN,fun i hi hk=>(h.ino i hi).plain hk⟩
theorem GF{l:List aJ} : q9 l↔∀x,x∈l→∀d,d∈ak x→∃y,y∈l∧y.1=d.2.1:=by
 constructor
 ·intro h x hx d ag
  obtain ⟨i,hi,he⟩:=fx hx
  exact n3.1 (h i hi d (by rw [he];exact ag))
 ·intro h i hi d ag
  exact n3.2 (h _ (cP hi) d ag)
theorem an.set{B k:Nat}{l:List aJ}{i:Nat}{y:aJ}(h:an B l)(hi:i<l.length)(aN:y.1=(J I l i).1)(hex:∀d,d∈ak y→(ba l d.2.1).isSome=true)
  (hb:kindOf y≠2→eP y=0∧eD y=0∧ak y=[]) (hn:(ak y).length≤(ak (J I l i)).length+k) (ag:(bA y).length≤(bA (J I l i)).length+k):an (B+k) (l.set i y):=by
 have h1:=Gw (l:=l) (y:=y) hi
 have h2:=We (l:=l) (y:=y) hi
 have h3:=h.cG
 have h4:=h.bytes
 have a7:=h.len
 refine⟨by rw [List.length_set];omega,by omega,by omega,fun x hx=>?_,fun j hj d ag=>?_,fun j hj hk=>?_⟩
 ·rw [List.length_set] at hx
  rw [GA hi aN,gv hi]
  split
  ·rename_i he;subst he;rw [aN];exact h.fR i hx
  ·exact h.fR x hx
 ·rw [List.length_set] at hj
  rw [gv hi] at ag
  rw [GA hi aN]
  split at ag
  ·exact hex d ag
  ·exact h.gN j hj d ag
 ·rw [List.length_set] at hj
  rw [gv hi] at hk ⊢
  split at hk
  ·rename_i he;rw [if_pos he];exact hb hk
  ·rename_i he;rw [if_neg he];exact h.bare j hj hk
theorem ag8{l:List aJ}(p:aJ→Bool)(h:Ax l):Ax (l.filter p):=List.Pairwise.sublist (List.filter_sublist) h
theorem an.go{B:Nat}{l:List aJ}(h:an B l)(id:Int):an B (goN l id):=by
 unfold goN
 by_cases h0:ca l id=0
 ·rw [decide_eq_true h0]
  simp only [cond_true]
  refine⟨Nat.le_trans (List.length_filter_le _ _) h.len,Nat.le_trans (GD _ _ _) h.cG,Nat.le_trans (GD _ _ _) h.bytes,Ay.2 (ag8 _ (Ay.1 h.fR)),GF.2 fun x hx d ag=>?_,fun i hi hk=>?_⟩
  ·have hx:=(List.mem_filter.1 hx).1
   obtain ⟨y,aN,he⟩:=GF.1 h.gN x hx d ag
   refine⟨y,List.mem_filter.2 ⟨aN,?_⟩,he⟩
   have:=GC h0 x hx d ag
   rw [Bool.not_eq_true',beq_eq_false_iff_ne,he];exact this
  ·have hx:=(List.mem_filter.1 (cP (t:=I) hi)).1
   obtain ⟨j,hj,he⟩:=fx hx
   rw [← he] at hk ⊢
   exact h.bare j hj hk
 ·rw [decide_eq_false h0];exact h
theorem an.app{B k:Nat}{l:List aJ}{n:aJ}(h:an B l)(b7:ba l n.1=none)(hn:ak n=[])(ag:(bA n).length≤k)(hk:1≤k)(hb:kindOf n≠2→eP n=0∧eD n=0):an (B+k) (l++[n]):=by
 have h3:=h.cG
 have h4:=h.bytes
 have a7:=h.len
 refine⟨by simp;omega,by unfold dv at *;simp [hn];omega,by unfold bytesOf at *;simp;omega,Ay.2 ?_,GF.2 fun x hx d jm=>?_,fun i hi hk=>?_⟩
 ·refine List.pairwise_append.2 ⟨Ay.1 h.fR,List.pairwise_singleton _ _,fun a ha b dG he=>?_⟩
  simp only [List.mem_singleton] at dG
  subst dG
  have:(ba l b.1).isSome=true:=n3.2 ⟨a,ha,he⟩
  rw [b7] at this;cases this
 ·rcases List.mem_append.1 hx with hx | hx
  ·obtain ⟨y,aN,he⟩:=GF.1 h.gN x hx d jm
   exact⟨y,List.mem_append_left _ aN,he⟩
  ·simp only [List.mem_singleton] at hx
   subst hx
   rw [hn] at jm;simp at jm
 ·rcases Nat.lt_or_ge i l.length with hl | hl
  ·rw [GB hl] at hk ⊢;exact h.bare i hl hk
  ·have:i=l.length:=by simp at hi;omega
   subst this
   have he:J I (l++[n]) l.length=n:=by rw [c7 (by simp)];simp
   rw [he] at hk ⊢
   exact⟨(hb hk).1,(hb hk).2,hn⟩
def fj(l:List aJ):Int:=cond (decide ((bytesOf l:Int)>400)) 28 (cond (gr l) 122 0)
theorem Az{B:Nat}(v:af.D)(c:aI.D)(x:aH.D)(h:an B v.2.1)(gz:B≤1048576):nO ((v,c,x,()),())=some (fj v.2.1,()):=by
 have h1:=Nat.le_trans h.len gz
 have h2:=Nat.le_trans h.cG gz
 have h3:=Nat.le_trans h.bytes gz
 show Lg (v,c,x,())=_
 unfold Lg fj
 show Option.bind (sn (v,())) _=_
 rw [M1 v h1 h3]
 simp only [av]
 show cond _ _ (Option.bind (zN (v.2.1,v,())) _)=_
 rw [Vx v h1 h2 h3 h.fR h.gN]
 simp only [av]
 cases decide ((bytesOf v.2.1:Int)>400) <;> cases gr v.2.1 <;> rfl
theorem ag9{B:Nat}(v:af.D)(h:an B v.2.1)(gz:B≤1048576):J6 (v,())=some (fj v.2.1,()):=by
 have h1:=Nat.le_trans h.len gz
 have h2:=Nat.le_trans h.cG gz
 have h3:=Nat.le_trans h.bytes gz
 show J5 v=_
 unfold J5 fj
 rw [M0 v h1 h3]
 simp only [av]
 rw [Vy v h1 h2 h3 (fun i hi hk=>⟨(h.bare i hi hk).1,(h.bare i hi hk).2.1⟩)]
 simp only [av]
 cases decide ((bytesOf v.2.1:Int)>400) <;> cases gr v.2.1 <;> rfl
theorem AA{B:Nat}(u v:af.D)(h:an B v.2.1)(gz:B≤1048576):qL (u,v,())=some (cond (fj v.2.1==0) v u,(fj v.2.1,[],()),()):=by
 show J7 u v=_
 unfold J7
 rw [ag9 v h gz]
 simp only [av]
 by_cases h0:fj v.2.1=0
 ·rw [dq h0,cF h0,h0];rfl
 ·rw [cI h0,b4 h0];rfl
def AB:List ax.D→aF→Int
 | [],_=>0
 | d :: r,s=>cond (bs d.1 s) d.2.1 (AB r s)
theorem ag_{n:Nat}{P:Nat→Bool} : fh (n+1) P=cond (P 0) (some 0) ((fh n fun i=>P (i+1)).map (· + 1)):=by
 cases h0:P 0
 ·simp only [cond_false]
  cases h:fh n fun i=>P (i+1) with
  | none =>
   refine l1.2 fun i hi=>?_
   cases i with
   | zero=>exact h0
   | succ i=>exact l1.1 h i (by omega)
  | some k =>
   obtain ⟨h1,h2,h3⟩:=ic.1 h
   refine ic.2 ⟨show k+1<n+1 by omega,h2,fun j hj=>?_⟩
   have hj:j<k+1:=hj
   cases j with
   | zero=>exact h0
   | succ j=>exact h3 j (by omega)
 ·exact ic.2 ⟨by omega,h0,fun j hj=>by omega⟩
theorem look_eq(s:aF):∀N:List ax.D,cJ N s=AB N s
 | []=>rfl
 | d :: r=>by
  unfold cJ AB
  rw [List.length_cons,ag_]
  show Ar (d :: r) (cond (bs d.1 s) _ _)=_
  cases ag:bs d.1 s
  ·simp only [cond_false]
   rw [← look_eq s r]
   unfold cJ
   show Ar (d :: r) ((fh r.length (q' r s)).map (· + 1))=_
   cases fh r.length (q' r s) <;> rfl
  ·rfl
def vr(N:List ax.D)(s:aF)(id:Int):Int:=N.foldl (fun a d=>cond (bs d.1 s) d.2.1 a) id
theorem Wf{s:aF}{id:Int} : ∀ {N:List ax.D},(∀d,d∈N→d.1≠s)→vr N s id=id
 | [],_=>rfl
 | d :: r,h=>by
  have h1:bs d.1 s=false:=by unfold bs;simpa using h d List.mem_cons_self
  unfold vr
  rw [List.foldl_cons,h1]
  exact Wf fun e he=>h e (List.mem_cons_of_mem _ he)
theorem Wg{s:aF} : ∀ {N:List ax.D},jb N→vr N s 0=cJ N s
 | [],_=>rfl
 | d :: r,h=>by
  obtain ⟨h1,h2⟩:=List.pairwise_cons.1 h
  rw [look_eq,AB,← look_eq]
  unfold vr
  rw [List.foldl_cons]
  cases ag:bs d.1 s
  ·exact Wg h2
  ·have ag:d.1=s:=by unfold bs at ag;simpa using ag
   refine Wf fun e he=>?_
   have:=h1 e he
   rw [ag] at this
   exact(Gp this).symm
theorem GG(v:af.D)(dir:Int)(s:aF)(hl:v.2.1.length≤1048576)(hm:dv v.2.1≤1048576){i:Nat}(h:ba v.2.1 dir=some i)(hs:jb (ak (J I v.2.1 i))) :
  nF (v,dir,s,())=some ((v.1,goN (v.2.1.set i (bX (J I v.2.1 i) (b8 (ak (J I v.2.1 i)) s))) (cJ (ak (J I v.2.1 i)) s),()),()):=by
 show Dp (k5 aQ) v dir s=_
 unfold Dp
 rw [ik v dir hl h]
 simp only [av]
 obtain ⟨hi,b7⟩:=bZ h
 have hn:=Nat.le_trans (fO hi) hm
 have n2:dv (v.2.1.set i (bX (J I v.2.1 i) (b8 (ak (J I v.2.1 i)) s)))≤1048576:=by
  have:=Gw (l:=v.2.1) (y:=bX (J I v.2.1 i) (b8 (ak (J I v.2.1 i)) s)) hi
  rw [hp] at this
  have:=vq (ak (J I v.2.1 i)) s
  omega
 have mS:(v.2.1.set i (bX (J I v.2.1 i) (b8 (ak (J I v.2.1 i)) s))).length≤1048576:=by rw [List.length_set];exact hl
 rw [← Wg hs]
 generalize hN:ak (J I v.2.1 i)=N at hn hs n2 mS
 have hw:ba v.2.1 (bX (J I v.2.1 i) (b8 N s)).1=some i:=by rw [show(bX (J I v.2.1 i) (b8 N s)).1=dir from b7];exact h
 have key:∀(r j:Nat) (id:Int),j+r=N.length→bV (fun m=>(k5 m).bw s id (j:Int) v (0,([]:List I.D),()) (J I v.2.1 i) (b8 (N.take j) s)) (r+1048580) (some ((v.1,goN (v.2.1.set i (bX (J I v.2.1 i) (b8 N s))) (vr (N.drop j) s id),()),())):=by
  intro r
  induction r with
  | zero =>
   intro j id hj
   have Gv:j=N.length:=by omega
   subst Gv
   rw [List.drop_length,List.take_length]
   show bV _ _ (some ((v.1,goN (v.2.1.set i (bX (J I v.2.1 i) (b8 N s))) id,()),()))
   have hb:∀m,(k5 (m+1)).bw s id (N.length:Int) v (0,([]:List I.D),()) (J I v.2.1 i) (b8 N s) =
     cond (decide (((ca (v.2.1.set i (bX (J I v.2.1 i) (b8 N s))) id:Nat):Int)>0)) (some ((v.1,v.2.1.set i (bX (J I v.2.1 i) (b8 N s)),()),())) ((k5 m).jN id 0 (v.1,v.2.1.set i (bX (J I v.2.1 i) (b8 N s)),()) (0,([]:List I.D),()) ([]:List I.D)):=by
    intro m
    show zs (k5 m) s id (N.length:Int) v (0,([]:List I.D),()) (J I v.2.1 i) (b8 N s)=_
    unfold zs
    show cond (decide ((N.length:Int)<((ak (J I v.2.1 i)).length:Int))) _ (Option.bind (oK (v,bX (J I v.2.1 i) (b8 N s),())) _)=_
    rw [hN,cT (Nat.le_refl _),Gz v _ hl hw]
    simp only [cond_false,av]
    rw [FZ (v.1,v.2.1.set i (bX (J I v.2.1 i) (b8 N s)),()) id mS n2]
    rfl
   generalize v.2.1.set i (bX (J I v.2.1 i) (b8 N s))=l at hb mS
   unfold goN
   by_cases h0:ca l id=0
   ·rw [decide_eq_true h0]
    simp only [cond_true]
    have ag':=o4 1 (fun m j=>(k5 m).jN id (j:Int) (v.1,l,()) (0,([]:List I.D),()) ((l.take j).filter fun y => !(y.1==id))) (some ((v.1,l.filter fun y => !(y.1==id),()),())) l.length 1 (fun j hj B y he=>he.step fun m=>by
     have h9:((l.take j).filter fun y => !(y.1==id)).length≤j:=Nat.le_trans (List.length_filter_le _ _) (by rw [List.length_take];omega)
     show zt (k5 m) id (j:Int) (v.1,l,()) (0,([]:List I.D),()) ((l.take j).filter fun y => !(y.1==id))=_
     unfold zt
     show cond (decide ((j:Int)<(l.length:Int))) ((aO l.length (j:Int)).bind fun v1=>cond (!((J I l (0+v1)).1==id)) _ _) _=_
     rw [cq hj,bC hj]
     simp only [cond_true,av,Nat.zero_add]
     rw [dg j (by omega),List.take_succ_eq_append_getElem hj,List.filter_append,List.filter_cons,List.filter_nil,c7 hj]
     cases hc:(!((l[j]).1==id))
     ·simp
     ·simp only [cond_true,if_true]
      rw [cH (by simp only [List.length_cons,List.length_nil];omega)];rfl) (bV.now 1 fun m=>by
     show zt (k5 m) id (l.length:Int) (v.1,l,()) (0,([]:List I.D),()) ((l.take l.length).filter fun y => !(y.1==id))=_
     unfold zt
     show cond (decide ((l.length:Int)<(l.length:Int))) _ _=_
     rw [cT (Nat.le_refl _),List.take_length];rfl)
    refine(ag'.jump (f:=fun m=>(k5 m).bw s id (N.length:Int) v (0,([]:List I.D),()) (J I v.2.1 i) (b8 N s)) 1 fun m=>?_).mono (by omega)
    rw [hb m,decide_eq_false (by omega)];rfl
   ·rw [decide_eq_false h0]
    simp only [cond_false]
    refine(bV.now 1 fun m=>?_).mono (by omega)
    rw [hb m,decide_eq_true (by omega)];rfl
  | succ r ih =>
   intro j id hj
   have hjl:j<N.length:=by omega
   have ih:=ih (j+1) (cond (bs (J ax N j).1 s) (J ax N j).2.1 id) (by omega)
   have gu:vr (N.drop (j+1)) s (cond (bs (J ax N j).1 s) (J ax N j).2.1 id)=vr (N.drop j) s id:=by
    rw [drop_cons (t:=ax) hjl];rfl
   rw [gu] at ih
   refine(ih.jump (f:=fun m=>(k5 m).bw s id (j:Int) v (0,([]:List I.D),()) (J I v.2.1 i) (b8 (N.take j) s)) 1 fun m=>?_).mono (by omega)
   have h9:(b8 (N.take j) s).length≤j:=Nat.le_trans (List.length_filter_le _ _) (by rw [List.length_take];omega)
   show zs (k5 m) s id (j:Int) v (0,([]:List I.D),()) (J I v.2.1 i) (b8 (N.take j) s)=_
   unfold zs
   show cond (decide ((j:Int)<((ak (J I v.2.1 i)).length:Int))) ((aO (ak (J I v.2.1 i)).length (j:Int)).bind fun v1=>cond (bs (J ax (ak (J I v.2.1 i)) v1).1 s)
    ((aO (ak (J I v.2.1 i)).length (j:Int)).bind fun v2=>(k5 m).bw s (J ax (ak (J I v.2.1 i)) v2).2.1 (aK ((j:Int)+1)) v (0,([]:List I.D),()) (J I v.2.1 i) (b8 (N.take j) s))
    ((aO (ak (J I v.2.1 i)).length (j:Int)).bind fun v3=>cond (room ((b8 (N.take j) s).length+1)) ((k5 m).bw s id (aK ((j:Int)+1)) v (0,([]:List I.D),()) (J I v.2.1 i) (b8 (N.take j) s++[J ax (ak (J I v.2.1 i)) v3])) none)) _=_
   rw [hN,cq hjl,bC hjl]
   simp only [cond_true,av]
   rw [dg j (by omega)]
   have wL:b8 (N.take (j+1)) s=b8 (N.take j) s++cond (bs (J ax N j).1 s) [] [J ax N j]:=by
    unfold b8
    rw [List.take_succ_eq_append_getElem hjl,List.filter_append,List.filter_cons,List.filter_nil,c7 hjl]
    cases bs (N[j]).1 s <;> rfl
   rw [wL]
   cases bs (J ax N j).1 s
   ·simp only [cond_false]
    rw [cH (by omega)];rfl
   ·simp only [cond_true,List.append_nil]
 have:=key N.length 0 0 (by omega)
 rw [List.drop_zero] at this
 exact kI this (by omega)
theorem bits_nat(op:BinOp)(x y:Nat):cQ op .i64 (x:Int) (y:Int)=(match op with
 | .and=>IntKind.wrap .i64 ((BitVec.ofNat 64 x &&& BitVec.ofNat 64 y).toNat:Int)
 | .or=>IntKind.wrap .i64 ((BitVec.ofNat 64 x ||| BitVec.ofNat 64 y).toNat:Int)
 | .xor=>IntKind.wrap .i64 ((BitVec.ofNat 64 x ^^^ BitVec.ofNat 64 y).toNat:Int)
 | _=>IntKind.wrap .i64 ((BitVec.ofNat 64 x &&& ~~~BitVec.ofNat 64 y).toNat:Int)):=by
 unfold cQ
 rw [show(IntKind.i64).bits=64 from rfl]
 simp only [BitVec.ofInt_natCast]
 cases op <;> rfl
theorem aha{x y:Nat}(hx:x<4611686018427387904)(aN:y<4611686018427387904):cQ .and .i64 (x:Int) (y:Int)=((x &&& y:Nat):Int):=by
 rw [bits_nat]
 simp only
 rw [BitVec.toNat_and,BitVec.toNat_ofNat,BitVec.toNat_ofNat,Nat.mod_eq_of_lt (show x<2 ^ 64 by omega),Nat.mod_eq_of_lt (show y<2 ^ 64 by omega)]
 have:x &&& y≤x:=Nat.and_le_left
 exact tf (by omega) (by omega)
theorem Wh{x y:Nat}(hx:x<4611686018427387904)(aN:y<4611686018427387904):cQ .or .i64 (x:Int) (y:Int)=((x ||| y:Nat):Int):=by
 rw [bits_nat]
 simp only
 rw [BitVec.toNat_or,BitVec.toNat_ofNat,BitVec.toNat_ofNat,Nat.mod_eq_of_lt (show x<2 ^ 64 by omega),Nat.mod_eq_of_lt (show y<2 ^ 64 by omega)]
 have:x ||| y<2 ^ 62:=Nat.or_lt_two_pow (by omega) (by omega)
 exact tf (by omega) (by omega)
theorem ahb{x:Nat}(h:x<2048):x &&& 1024=1024*(x / 1024):=by
 have h1:(x &&& 1024) / 2 ^ 10=x / 2 ^ 10 &&& 1024 / 2 ^ 10:=Nat.and_div_two_pow
 have h2:(x &&& 1024) % 2 ^ 10=x % 2 ^ 10 &&& 1024 % 2 ^ 10:=Nat.and_mod_two_pow
 rw [show 1024 / 2 ^ 10=1 from rfl,Nat.and_one_is_mod] at h1
 rw [show 1024 % 2 ^ 10=0 from rfl,Nat.and_zero] at h2
 omega
theorem ahc{m:Int}(h:0≤m)(h':m≤2047):cQ .and .i64 m 1024=0∨cQ .and .i64 m 1024=1024:=by
 obtain ⟨n,rfl⟩:∃n:Nat,m=n:=⟨m.toNat,by omega⟩
 have:=aha (x:=n) (y:=1024) (by omega) (by omega)
 rw [show((1024:Nat):Int)=1024 from rfl] at this
 rw [this,ahb (by omega)]
 omega
theorem ahd{m:Int}(h:0≤m)(h':m≤2047):cQ .or .i64 m 0=m:=by
 obtain ⟨n,rfl⟩:∃n:Nat,m=n:=⟨m.toNat,by omega⟩
 have:=Wh (x:=n) (y:=0) (by omega) (by omega)
 rw [show((0:Nat):Int)=0 from rfl] at this
 rw [this,Nat.or_zero]
theorem ahe{m:Int}(h:0≤m)(h':m≤2047):0≤cQ .or .i64 m 1024∧cQ .or .i64 m 1024≤2047:=by
 obtain ⟨n,rfl⟩:∃n:Nat,m=n:=⟨m.toNat,by omega⟩
 have:=Wh (x:=n) (y:=1024) (by omega) (by omega)
 rw [show((1024:Nat):Int)=1024 from rfl] at this
 rw [this]
 have:n ||| 1024<2 ^ 11:=Nat.or_lt_two_pow (by omega) (by omega)
 omega
def az(x:aH.D):Int:=x.1
def ew(x:aH.D):aF:=x.2.1
def iK(x:aH.D):aF:=x.2.2.1
def bO(x:aH.D):Int:=x.2.2.2.1
def dR(x:aH.D):Int:=x.2.2.2.2.1
def dA(x:aH.D):aF:=x.2.2.2.2.2.1
structure im(x:aH.D):Prop where
 di:1≤az x∧az x≤22
 path:(ew x).length≤60
 sU:(iK x).length≤60
 fF:(dA x).length≤64
 n : -1000000≤bO x∧bO x≤1000000
 m : -1000000≤dR x∧dR x≤1000000
 ahf:iK x=[]∨az x=9∨az x=10∨az x=12
 Wi:dA x=[]∨az x=5∨az x=6
theorem rf{x:aH.D} : kH x=true↔im x:=by
 unfold kH
 simp only [Bool.and_eq_true,Bool.or_eq_true,decide_eq_true_eq,beq_iff_eq,m2]
 constructor
 ·rintro ⟨⟨⟨⟨⟨⟨⟨h1,h2⟩,h3⟩,h4⟩,a7⟩,bg⟩,bH⟩,cV⟩
  exact⟨dN.1 h1,Int.ofNat_le.1 h2,Int.ofNat_le.1 h3,Int.ofNat_le.1 h4,dN.1 a7,dN.1 bg,bH,cV⟩
 ·intro h
  exact⟨⟨⟨⟨⟨⟨⟨dN.2 h.di,Int.ofNat_le.2 h.path⟩,Int.ofNat_le.2 h.sU⟩,Int.ofNat_le.2 h.fF⟩,dN.2 h.n⟩,dN.2 h.m⟩,h.ahf⟩,h.Wi⟩
theorem n4{N:List ax.D}{s:aF}{id:Int}{d:ax.D} : d∈ins N s id↔d∈N∨d=(s,id,()):=by
 have:=List.takeWhile_append_dropWhile (p:=dY s) (l:=N)
 unfold ins
 conv=>rhs;rw [← this]
 simp only [List.mem_append,List.mem_singleton]
 constructor
 ·rintro ((h | h) | h)
  ·exact .inl (.inl h)
  ·exact .inr h
  ·exact .inl (.inr h)
 ·rintro ((h | h) | h)
  ·exact .inl (.inl h)
  ·exact .inr h
  ·exact .inl (.inr h)
theorem AD{N:List ax.D}{s:aF}(h:cJ N s=0)(h0:∀d,d∈N→d.2.1≠0):∀d,d∈N→d.1≠s:=by
 intro d ag he
 obtain ⟨i,hi,aB⟩:=fx ag
 unfold cJ at h
 cases hf:fh N.length (q' N s) with
 | none =>
  have:=l1.1 hf i hi
  unfold q' bs at this
  rw [aB] at this
  simp [he] at this
 | some j =>
  rw [hf] at h
  obtain ⟨h1,_,_⟩:=ic.1 hf
  exact h0 _ (cP h1) h
theorem bz.Wj{v:af.D}(h:bz v){x:aJ}(hx:x∈v.2.1):1≤aY x∧aY x≤cw v-1:=by
 obtain ⟨i,hi,he⟩:=fx hx
 have:=h.ids i hi
 rw [he] at this;exact this
theorem bz.AE{v:af.D}(h:bz v){i:Nat}(hi:i<v.2.1.length){d:ax.D}(ag:d∈ak (J I v.2.1 i)):d.2.1≠0:=by
 obtain ⟨y,aN,he⟩:=n3.1 (h.gN i hi d ag)
 have h1:=h.Wj aN
 intro h0
 have:aY y=0:=he.trans h0
 omega
theorem bz.free{v:af.D}(h:bz v):ba v.2.1 v.1=none:=by
 cases hi:ba v.2.1 v.1 with
 | none=>rfl
 | some i =>
  obtain ⟨h1,h2⟩:=bZ hi
  have:=h.ids i h1
  have h2:aY (J I v.2.1 i)=cw v:=h2
  omega
theorem bz.hy{v:af.D}(h:bz v):n0 v.2.1 :=
 ⟨by have:=h.len;omega,by have:=h.cG;omega,h.fR,h.gN,fun i hi hk=>((h.ino i hi).plain hk).2.2,fun i hi hk=>((h.ino i hi).l3 hk).1,0,by
  have:=h.fR 0 (by have:=h.len;omega)
  rwa [show(J I v.2.1 0).1=1 from h.root.1] at this,h.root.2⟩
def br(v:af.D)(c:aI.D)(x:aH.D)(a:Option (Int×aL.D×Unit))(b:Option (af.D×aG.D×Unit))(Q:af.D→Prop):Prop :=
 ∃(code:Int) (w:af.D),a=some (code,(w,c,x,()),())∧b=some (cond (code==0) w v,(code,[],()),())∧(code=0→Q w)
theorem br.no{v:af.D}{c:aI.D}{x:aH.D}{a:Option (Int×aL.D×Unit)}{b:Option (af.D×aG.D×Unit)}{Q:af.D→Prop}(code:Int)(h0:code≠0)(ha:a=some (code,(v,c,x,()),()))(hb:b=some (v,(code,[],()),())):br v c x a b Q :=
 ⟨code,v,ha,by rw [b4 h0];exact hb,fun h=>absurd h h0⟩
def GH(x:aH.D):Int:=if az x=1 then 2 else if az x=10 then 3 else 1
def vt(x:aH.D)(d:aJ):Int:=if az x=10 then 511 else if az x=1∧cQ .and .i64 (e7 d) 1024≠0 then cQ .or .i64 (bO x) 1024 else bO x
def AF(c:aI.D)(d:aJ):Int:=if cQ .and .i64 (e7 d) 1024≠0 then fi d else c.2.1
def gw(v:af.D)(c:aI.D)(x:aH.D)(d:aJ):aJ:=(v.1,GH x,vt x d,c.1,AF c d,if az x=10 then iK x else [],[],0,0,())
def rh(x:aH.D):Bool:=cond (az x==10) (!jt (iK x)) (!c2 (bO x) 0 2047)
structure Made(v:af.D)(c:aI.D)(x:aH.D)(w:af.D):Prop where
 bad:rh x=false
 out:∃r i,l4 v.2.1 r∧bG r=2∧nameOf r≠[]∧ba v.2.1 (cc r)=some i∧kindOf (J I v.2.1 i)=2∧may c (J I v.2.1 i) 3=true∧(ak (J I v.2.1 i)).length<12∧v.2.1.length<24∧cw v<100000 ∧
  w=(v.1+1,v.2.1.set i (bX (J I v.2.1 i) (ins (ak (J I v.2.1 i)) (nameOf r) v.1))++[gw v c x (J I v.2.1 i)],())∧fj w.2.1=0∧dX (v,c,ew x,false,())=some (r,())
theorem ahg(m:Nat)(a b):(la (m+1)).bb a b=Lh (la m) a b:=rfl
theorem ahh(m:Nat)(a b d):(la (m+1)).hL a b d=Li (la m) a b d:=rfl
theorem ahi(m:Nat)(a b d e f):(iH (m+1)).k3 a b d e f=zo (iH m) a b d e f:=rfl
theorem ahj(m:Nat)(a b d e f):(iH (m+1)).iF a b d e f=J9 (iH m) a b d e f:=rfl
theorem AG(v:af.D)(c:aI.D)(x:aH.D)(id:Int)(hl:v.2.1.length≤1048576)(hc:dd c=true){i:Nat}(h:ba v.2.1 id=some i):nN ((v,c,x,()),id,())=some (may c (J I v.2.1 i) 3,()):=by
 show Le (v,c,x,()) id=_
 unfold Le
 show Option.bind (fE (v,id,())) _=_
 rw [mX v id hl h]
 simp only [av,List.isEmpty_cons,Bool.not_false,cond_true]
 show Option.bind (pR (c,J I v.2.1 i,3,())) _=_
 rw [Aq c _ 3 hc];rfl
theorem ahk(v:af.D)(c:aI.D)(x:aH.D)(hv:bz v)(hc:dd c=true)(hx:im x):br v c x (zS ((v,c,x,()),())) (r' (v,c,x,())) (Made v c x):=by
 have cf:=hv.hy
 have hl:v.2.1.length≤1048576:=cf.len
 have au:=hx.path
 obtain ⟨q,hq,h7⟩:=iI 4
 have eY:zS ((v,c,x,()),())=cond (rh x) (some (22,(v,c,x,()),())) ((la aQ).bb (v,c,x,()) x):=by
  show EW (la aQ) (v,c,x,())=_
  unfold EW rh
  show cond (az x==10) (Option.bind (xh (iK x,())) fun v1=>cond (!v1.1) _ (cond (!(az x==10)) _ _)) (cond (!(az x==10)) (Option.bind (eL (bO x,0,2047,())) _) _)=_
  rw [MY _ (by have:=hx.sU;omega)]
  cases az x==10
  ·simp only [cond_false,Bool.not_false,cond_true,av]
   rw [js];rfl
  ·simp only [cond_true,Bool.not_true,cond_false,av]
 have dS:r' (v,c,x,())=cond (rh x) (some (v,(22,[],()),())) ((iH aQ).k3 v c x (0,([]:List I.D),()) (0,([]:aF),())):=by
  show w7 (iH aQ) v c x=_
  unfold w7 rh
  show cond (az x==10) (Option.bind (zb (iK x,())) fun v1=>cond (!v1.1) _ (cond (!(az x==10)) _ _)) (cond (!(az x==10)) (Option.bind (eg (bO x,0,2047,())) _) _)=_
  rw [Vc]
  cases az x==10
  ·simp only [cond_false,Bool.not_false,cond_true,av]
   rw [jr];rfl
  ·simp only [cond_true,Bool.not_true,cond_false,av]
 rw [eY,dS]
 cases hb:rh x with
 | true=>exact br.no 22 (by decide) rfl rfl
 | false =>
 simp only [cond_false]
 rw [hq,ahg,ahi]
 unfold Lh zo
 obtain ⟨r,ed,code,NG,NH,NI⟩:=V8 v c x (ew x) cf hc (by omega)
 show br v c x (Option.bind (u9 ((v,c,x,()),ew x,())) _) (Option.bind (qI (v,c,ew x,())) _) _
 rw [NG,NH]
 simp only [av]
 by_cases b3:code=0
 case neg =>
  rw [cI b3]
  exact br.no code b3 rfl rfl
 obtain ⟨rfl,hr,fX,p5,AH⟩:=NI b3
 rw [dq b3]
 simp only [cond_false]
 obtain ⟨kg,jQ,d,ag,fc,n5⟩:=hr.new fX p5
 have hdl:=bZ ag
 show br v c x (Option.bind (nN ((v,c,x,()),cc ed,())) _) (Option.bind (eW (v,cc ed,())) _) _
 rw [AG v c x _ hl hc ag,ik v _ hl ag]
 simp only [av]
 rw [mV c _ 3 hc]
 simp only [av]
 cases hm:may c (J I v.2.1 d) 3 with
 | false=>exact br.no 13 (by decide) rfl rfl
 | true =>
 simp only [Bool.not_true,cond_false]
 show br v c x (Option.bind (fE (v,cc ed,())) _) _ _
 rw [mX v _ hl ag]
 simp only [av,List.isEmpty_cons,Bool.not_false,cond_true]
 have hQ:=hv.ino d hdl.1
 have Wk:=(hQ.dir fc).2.2.2
 show br v c x (cond (((ak (J I v.2.1 d)).length:Int)==12) _ (cond ((v.2.1.length:Int)==24) _ (cond (cw v==100000) _ _))) (cond (decide (((ak (J I v.2.1 d)).length:Int)≥12)) _ (cond (decide ((v.2.1.length:Int)≥24)) _ (cond (decide (cw v≥100000)) _ _))) _
 by_cases lO:(ak (J I v.2.1 d)).length=12
 ·rw [show(((ak (J I v.2.1 d)).length:Int)==12)=true by rw [lO];rfl,decide_eq_true (by omega)]
  exact br.no 28 (by decide) rfl rfl
 rw [show(((ak (J I v.2.1 d)).length:Int)==12)=false by rw [beq_eq_false_iff_ne];omega,decide_eq_false (show ¬((ak (J I v.2.1 d)).length:Int)≥12 by omega)]
 simp only [cond_false]
 have hlen:=hv.len
 have qC:=hv.next
 by_cases ahl:v.2.1.length=24
 ·rw [show((v.2.1.length:Int)==24)=true by rw [ahl];rfl,decide_eq_true (by omega)]
  exact br.no 28 (by decide) rfl rfl
 rw [show((v.2.1.length:Int)==24)=false by rw [beq_eq_false_iff_ne];omega,decide_eq_false (show ¬(v.2.1.length:Int)≥24 by omega)]
 simp only [cond_false]
 by_cases GI:cw v=100000
 ·rw [cF GI,decide_eq_true (show cw v≥100000 by omega)]
  exact br.no 28 (by decide) rfl rfl
 rw [b4 GI,decide_eq_false (show ¬cw v≥100000 by omega)]
 simp only [cond_false]
 obtain ⟨w,hw⟩:∃w:af.D,w=(v.1+1,v.2.1.set d (bX (J I v.2.1 d) (ins (ak (J I v.2.1 d)) (nameOf ed) v.1))++[gw v c x (J I v.2.1 d)],()):=⟨_,rfl⟩
 have ahm:aK (v.1+1)=v.1+1:=eh (a:=cw v+1) (by omega) (by omega)
 have alI:an 1000 (v.2.1++[gw v c x (J I v.2.1 d)]):=(hv.st.app (k:=100) (n:=gw v c x (J I v.2.1 d)) hv.free rfl (by
  show(if az x=10 then iK x else []).length≤100
  have:=hx.sU
  split
  ·omega
  ·simp) (by omega) (fun _=>⟨rfl,rfl⟩)).mono (by omega)
 have hst:an 1000 w.2.1:=by
  rw [hw]
  have aB:J I (v.2.1++[gw v c x (J I v.2.1 d)]) d=J I v.2.1 d:=GB hdl.1
  have:=(hv.st.app (k:=100) (n:=gw v c x (J I v.2.1 d)) hv.free rfl (by
   show(if az x=10 then iK x else []).length≤100
   have:=hx.sU
   split
   ·omega
   ·simp) (by omega) (fun _=>⟨rfl,rfl⟩)).set (k:=1) (i:=d) (y:=bX (J I v.2.1 d) (ins (ak (J I v.2.1 d)) (nameOf ed) v.1)) (by simp;omega) (by rw [aB];rfl) (by
    intro e he
    rcases n4.1 he with he | rfl
    ·obtain ⟨y,aN,xG⟩:=n3.1 (hv.gN d hdl.1 e he)
     exact n3.2 ⟨y,List.mem_append_left _ aN,xG⟩
    ·exact n3.2 ⟨gw v c x (J I v.2.1 d),List.mem_append_right _ (List.mem_singleton.2 rfl),rfl⟩) (fun hk=>absurd fc hk) (by
    rw [aB];show(ins (ak (J I v.2.1 d)) (nameOf ed) v.1).length≤_;rw [xO];omega) (by rw [aB];exact Nat.le_add_right _ _)
  rw [Wd hdl.1] at this
  exact this.mono (by omega)
 have hfin:∀m n,br v c x ((la (m+1)).hL (v,c,x,()) ed (gw v c x (J I v.2.1 d))) ((iH (n+1)).iF v (0,([]:List I.D),()) (0,([]:aF),()) ed (gw v c x (J I v.2.1 d))) (Made v c x):=by
  intro m n
  rw [ahh,ahj]
  unfold Li J9
  rw [vn v hl (fun i hi=>Nat.le_trans (fO hi) cf.cG)]
  simp only [av]
  rw [ahm]
  show br v c x (Option.bind (sx (((v.1+1,v.2.1,()),c,x,()),cc ed,nameOf ed,v.1,())) _) (Option.bind (oK ((v.1+1,v.2.1,()),gw v c x (J I v.2.1 d),())) _) _
  rw [NC (v.1+1,v.2.1,()) c x (cc ed) (nameOf ed) v.1 hl ag (Nat.le_trans (fO hdl.1) cf.cG),ag5 (v.1+1,v.2.1,()) _ hl hv.free]
  simp only [av]
  have aB:J I (v.2.1++[gw v c x (J I v.2.1 d)]) d=J I v.2.1 d:=GB hdl.1
  have F9:=NF (v.1+1,v.2.1++[gw v c x (J I v.2.1 d)],()) (cc ed) (nameOf ed) v.1 (by simp;omega) (ag7 ag) (by
   show(ak (J I (v.2.1++[gw v c x (J I v.2.1 d)]) d)).length≤_
   rw [aB];exact Nat.le_trans (fO hdl.1) cf.cG) (by
   show ∀e,e∈ak (J I (v.2.1++[gw v c x (J I v.2.1 d)]) d)→_
   rw [aB];exact AD n5 fun e he=>hv.AE hdl.1 he)
  rw [show((v.1+1,v.2.1++[gw v c x (J I v.2.1 d)],()):af.D).2.1=v.2.1++[gw v c x (J I v.2.1 d)] from rfl,aB,Wd hdl.1,← hw] at F9
  show br v c x _ (Option.bind (r_ ((v.1+1,v.2.1++[gw v c x (J I v.2.1 d)],()),cc ed,nameOf ed,v.1,())) _) _
  rw [F9]
  simp only [av]
  rw [AA v w hst (by omega)]
  simp only [av]
  rw [cH (by simp;omega)]
  simp only [cond_true]
  show br v c x (Option.bind (nO (((v.1+1,v.2.1.set d (bX (J I v.2.1 d) (ins (ak (J I v.2.1 d)) (nameOf ed) v.1))++[gw v c x (J I v.2.1 d)],()),c,x,()),())) fun v2=>some (v2.1,((v.1+1,v.2.1.set d (bX (J I v.2.1 d) (ins (ak (J I v.2.1 d)) (nameOf ed) v.1))++[gw v c x (J I v.2.1 d)],()),c,x,()),())) _ _
  rw [← hw,Az w c x hst (by omega)]
  exact⟨fj w.2.1,w,rfl,rfl,fun h=>⟨hb,ed,d,hr,fX,p5,ag,fc,hm,by omega,by omega,by omega,hw,h,AH⟩⟩
 have hN:az x≠10→0≤bO x∧bO x≤2047:=by
  intro hk
  unfold rh at hb
  rw [b4 hk] at hb
  simp only [cond_false,Bool.not_eq_false'] at hb
  exact dN.1 hb
 have GJ:=hQ.mode
 have NJ:=ahc GJ.1 GJ.2
 show br v c x (cond (cQ .and .i64 (e7 (J I v.2.1 d)) 1024 != 0)
   (cond (az x==1) ((la (q+3)).hL (v,c,x,()) ed (v.1,2,cQ .or .i64 (bO x) (cQ .and .i64 (e7 (J I v.2.1 d)) 1024),c.1,fi (J I v.2.1 d),[],[],0,0,()))
    (cond (az x==10) ((la (q+3)).hL (v,c,x,()) ed (v.1,3,511,c.1,fi (J I v.2.1 d),iK x,[],0,0,())) ((la (q+3)).hL (v,c,x,()) ed (v.1,1,bO x,c.1,fi (J I v.2.1 d),[],[],0,0,()))))
   (cond (az x==1) ((la (q+3)).hL (v,c,x,()) ed (v.1,2,cQ .or .i64 (bO x) (cQ .and .i64 (e7 (J I v.2.1 d)) 1024),c.1,c.2.1,[],[],0,0,()))
    (cond (az x==10) ((la (q+3)).hL (v,c,x,()) ed (v.1,3,511,c.1,c.2.1,iK x,[],0,0,())) ((la (q+3)).hL (v,c,x,()) ed (v.1,1,bO x,c.1,c.2.1,[],[],0,0,())))))
  (cond (az x==1) ((iH (q+3)).zn v x (0,([]:List I.D),()) (0,([]:aF),()) ed (J I v.2.1 d) (v.1,2,bO x,c.1,c.2.1,[],[],0,0,())) ((iH (q+3)).zn v x (0,([]:List I.D),()) (0,([]:aF),()) ed (J I v.2.1 d) (v.1,1,bO x,c.1,c.2.1,[],[],0,0,()))) (Made v c x)
 have wu:∀(n:aJ),(iH (q+3)).zn v x (0,([]:List I.D),()) (0,([]:aF),()) ed (J I v.2.1 d) n=cond (az x==10) ((iH (q+2)).fD v (0,([]:List I.D),()) (0,([]:aF),()) ed (J I v.2.1 d) (n.1,3,511,n.2.2.2.1,n.2.2.2.2.1,iK x,n.2.2.2.2.2.2.1,n.2.2.2.2.2.2.2.1,n.2.2.2.2.2.2.2.2.1,())) ((iH (q+2)).fD v (0,([]:List I.D),()) (0,([]:aF),()) ed (J I v.2.1 d) n):=fun n=>rfl
 have AI:∀(n:aJ),(iH (q+2)).fD v (0,([]:List I.D),()) (0,([]:aF),()) ed (J I v.2.1 d) n=cond (cQ .and .i64 (e7 (J I v.2.1 d)) 1024 != 0)
   (cond (n.2.1==2) ((iH (q+1)).iF v (0,([]:List I.D),()) (0,([]:aF),()) ed (n.1,n.2.1,cQ .or .i64 n.2.2.1 1024,n.2.2.2.1,fi (J I v.2.1 d),n.2.2.2.2.2.1,n.2.2.2.2.2.2.1,n.2.2.2.2.2.2.2.1,n.2.2.2.2.2.2.2.2.1,()))
    ((iH (q+1)).iF v (0,([]:List I.D),()) (0,([]:aF),()) ed (n.1,n.2.1,n.2.2.1,n.2.2.2.1,fi (J I v.2.1 d),n.2.2.2.2.2.1,n.2.2.2.2.2.2.1,n.2.2.2.2.2.2.2.1,n.2.2.2.2.2.2.2.2.1,()))) ((iH (q+1)).iF v (0,([]:List I.D),()) (0,([]:aF),()) ed n):=fun n=>rfl
 simp only [wu,AI]
 have hR:=hfin (q+2) q
 unfold gw GH vt AF at hR
 by_cases k1:az x=1
 ·have gk:az x≠10:=by omega
  have p6:=hN gk
  rw [cF k1,b4 gk]
  rw [if_pos k1,if_neg gk,if_neg gk] at hR
  simp only [cond_true,cond_false]
  rcases NJ with gj | gj
  ·rw [gj] at hR ⊢
   rw [if_neg (by simp),if_neg (by simp)] at hR
   rw [ahd p6.1 p6.2]
   exact hR
  ·rw [gj] at hR ⊢
   rw [if_pos ⟨k1,by decide⟩,if_pos (by decide)] at hR
   exact hR
 ·rw [b4 k1]
  rw [if_neg k1] at hR
  by_cases gk:az x=10
  ·rw [cF gk]
   rw [if_pos gk,if_pos gk,if_pos gk] at hR
   simp only [cond_true,cond_false]
   rcases NJ with gj | gj
   ·rw [gj] at hR ⊢
    rw [if_neg (by simp)] at hR
    exact hR
   ·rw [gj] at hR ⊢
    rw [if_pos (by decide)] at hR
    exact hR
  ·rw [b4 gk]
   rw [if_neg gk,if_neg gk,if_neg gk,if_neg (fun h=>k1 h.1)] at hR
   simp only [cond_false]
   rcases NJ with gj | gj
   ·rw [gj] at hR ⊢
    rw [if_neg (by simp)] at hR
    exact hR
   ·rw [gj] at hR ⊢
    rw [if_pos (by decide)] at hR
    exact hR
def iL(v:af.D)(i:Nat)(s:aF):af.D:=(v.1,goN (v.2.1.set i (bX (J I v.2.1 i) (b8 (ak (J I v.2.1 i)) s))) (cJ (ak (J I v.2.1 i)) s),())
structure AJ(v:af.D)(c:aI.D)(x:aH.D)(w:af.D):Prop where
 out:∃r i j,l4 v.2.1 r∧bG r=0∧nameOf r≠[]∧ba v.2.1 (cc r)=some i∧kindOf (J I v.2.1 i)=2∧cJ (ak (J I v.2.1 i)) (nameOf r)=bn r∧ba v.2.1 (bn r)=some j∧ak (J I v.2.1 j)=[] ∧
  (az x=2→kindOf (J I v.2.1 j)=2)∧(az x=8→kindOf (J I v.2.1 j)≠2)∧w=iL v i (nameOf r)
theorem ahn(m:Nat)(a b d):(oV (m+1)).bw a b d=Ln (oV m) a b d:=rfl
theorem aho(m:Nat)(a b d):(oV (m+1)).c5 a b d=Lo (oV m) a b d:=rfl
theorem ahp(m:Nat)(a b d):(oV (m+1)).fB a b d=Lp (oV m) a b d:=rfl
theorem ahq(m:Nat)(a b d):(oV (m+1)).db a b d=Lq (oV m) a b d:=rfl
theorem Wl(m:Nat)(a b d e f g h):(k6 (m+1)).c5 a b d e f g h=Dq (k6 m) a b d e f g h:=rfl
theorem Wm(m:Nat)(a b d e f g h):(k6 (m+1)).fB a b d e f g h=Dr (k6 m) a b d e f g h:=rfl
theorem Wn(m:Nat)(a b d e f g):(k6 (m+1)).db a b d e f g=Ds (k6 m) a b d e f g:=rfl
theorem ahr(v:af.D)(c:aI.D)(x:aH.D)(hv:bz v)(hc:dd c=true)(hx:im x)(hk:az x=2∨az x=8):br v c x (E5 ((v,c,x,()),())) (w_ (v,c,x,())) (AJ v c x):=by
 have cf:=hv.hy
 have hl:v.2.1.length≤1048576:=cf.len
 have au:=hx.path
 obtain ⟨q,hq,h7⟩:=iI 4
 show br v c x (E4 (oV aQ) (v,c,x,())) (w9 (k6 aQ) v c x) _
 unfold E4 w9
 obtain ⟨r,⟨hr,_⟩,AK,fG⟩:=Aw v c x (ew x) false cf hc (by omega)
 show br v c x (Option.bind (k_ ((v,c,x,()),ew x,false,())) _) (Option.bind (dX (v,c,ew x,false,())) _) _
 rw [AK,fG]
 simp only [av]
 show br v c x (cond (bG r != 0) (some (bG r,(v,c,x,()),())) _) (cond (bG r != 0) (some (v,(bG r,[],()),())) _) _
 by_cases b3:bG r=0
 case neg =>
  rw [cI b3]
  exact br.no (bG r) b3 rfl rfl
 rw [dq b3]
 simp only [cond_false,jo]
 obtain ⟨j,hj⟩:=hr.there b3
 have hjl:=bZ hj
 show br v c x (Option.bind (fE (v,bn r,())) _) (Option.bind (eW (v,bn r,())) _) _
 rw [mX v _ hl hj,ik v _ hl hj]
 simp only [av,List.isEmpty_cons,Bool.not_false,cond_true]
 rw [hq,ahn]
 unfold Ln
 rw [aho,Wl]
 show br v c x (cond (az x==2) (cond (bs (nameOf r) []) _ _) _) (cond (az x==2) (cond (bs (nameOf r) []) _ _) _) _
 have ahs:nameOf r=[]→kindOf (J I v.2.1 j)=2:=by
  intro h
  obtain ⟨eU,h1,h2⟩:=hr.bare b3 h
  rw [hj] at h1
  rw [aS h1];exact h2
 by_cases c8:az x=2∧nameOf r=[]
 ·rw [cF c8.1,m2.2 c8.2]
  exact br.no 16 (by decide) rfl rfl
 have nu:∀ {α : Type} (a b : α),cond (az x==2) (cond (bs (nameOf r) []) a b) b=b:=by
  intro α a b
  by_cases h2:az x=2
  ·rw [cF h2]
   have:bs (nameOf r) []=false:=by
    rw [← Bool.not_eq_true,m2];exact fun h=>c8 ⟨h2,h⟩
   rw [this];rfl
  ·rw [b4 h2];rfl
 rw [nu,nu]
 unfold Lo Dq
 rw [ahp,Wm]
 show br v c x (cond (az x==2) (cond (kindOf (J I v.2.1 j) != 2) _ _) _) (cond (az x==2) (cond (kindOf (J I v.2.1 j) != 2) _ _) _) _
 by_cases gZ:az x=2∧kindOf (J I v.2.1 j)≠2
 ·rw [cF gZ.1,cI gZ.2]
  exact br.no 20 (by decide) rfl rfl
 have Wo:∀ {α : Type} (a b : α),cond (az x==2) (cond (kindOf (J I v.2.1 j) != 2) a b) b=b:=by
  intro α a b
  by_cases h2:az x=2
  ·rw [cF h2,dq (Decidable.byContradiction fun h=>gZ ⟨h2,h⟩)];rfl
  ·rw [b4 h2];rfl
 rw [Wo,Wo]
 unfold Lp Dr
 rw [ahq,Wn]
 show br v c x (cond (az x==8) (cond (kindOf (J I v.2.1 j)==2) _ _) _) (cond (az x==8) (cond (kindOf (J I v.2.1 j)==2) _ _) _) _
 by_cases b7:az x=8∧kindOf (J I v.2.1 j)=2
 ·rw [cF b7.1,cF b7.2]
  exact br.no 21 (by decide) rfl rfl
 have Wp:∀ {α : Type} (a b : α),cond (az x==8) (cond (kindOf (J I v.2.1 j)==2) a b) b=b:=by
  intro α a b
  by_cases h2:az x=8
  ·rw [cF h2,b4 (fun h=>b7 ⟨h2,h⟩)];rfl
  ·rw [b4 h2];rfl
 rw [Wp,Wp]
 have iZ:nameOf r≠[]:=by
  intro h
  rcases hk with h2 | cV
  ·exact c8 ⟨h2,h⟩
  ·exact b7 ⟨cV,ahs h⟩
 obtain ⟨kg,jQ,d,ag,fc,n5⟩:=hr.named b3 iZ
 have hdl:=bZ ag
 have hQ:=hv.ino d hdl.1
 unfold Lq Ds
 show br v c x (Option.bind (nN ((v,c,x,()),cc r,())) _) (Option.bind (eW (v,cc r,())) _) _
 rw [AG v c x _ hl hc ag,ik v _ hl ag]
 simp only [av]
 rw [mV c _ 3 hc]
 simp only [av]
 cases hm:may c (J I v.2.1 d) 3 with
 | false=>exact br.no 13 (by decide) rfl rfl
 | true =>
 simp only [Bool.not_true,cond_false]
 show br v c x (Option.bind (fE (v,cc r,())) _) _ _
 rw [mX v _ hl ag]
 simp only [av,List.isEmpty_cons,Bool.not_false,cond_true]
 show br v c x (Option.bind (sy (c,J I v.2.1 d,J I v.2.1 j,())) _) _ _
 rw [Ni c _ _ hc,Gf c _ _ hc]
 simp only [av]
 cases ht:nZ c (J I v.2.1 d) (J I v.2.1 j) with
 | false=>exact br.no 1 (by decide) rfl rfl
 | true =>
 simp only [Bool.not_true,cond_false]
 show br v c x (cond (az x==2) (cond (decide (((ak (J I v.2.1 j)).length:Int)>0)) _ _) _) (cond (decide (((ak (J I v.2.1 j)).length:Int)>0)) _ _) _
 rw [vn v hl (fun i hi=>Nat.le_trans (fO hi) cf.cG)]
 simp only [av]
 show br v c x (cond (az x==2) (cond (decide (((ak (J I v.2.1 j)).length:Int)>0)) (some (39,(v,c,x,()),())) (Option.bind (oU ((v,c,x,()),cc r,nameOf r,true,())) fun v4=>some (0,v4.1,()))) (Option.bind (oU ((v,c,x,()),cc r,nameOf r,true,())) fun v4=>some (0,v4.1,())))
  (cond (decide (((ak (J I v.2.1 j)).length:Int)>0)) (some (v,(39,[],()),())) (Option.bind (nF (v,cc r,nameOf r,())) fun v5=>some (v5.1,(0,[],()),()))) _
 rw [ND v c x _ _ true hl cf.cG ag,GG v _ _ hl cf.cG ag hQ.sorted]
 simp only [av,cond_true]
 by_cases h0:ak (J I v.2.1 j)=[]
 ·rw [h0,show decide ((([]:List ax.D).length:Int)>0)=false from rfl]
  have:AJ v c x (iL v d (nameOf r)):=⟨r,d,j,hr,b3,iZ,ag,fc,n5,hj,h0,fun h=>Decidable.byContradiction fun h'=>gZ ⟨h,h'⟩,fun h h'=>b7 ⟨h,h'⟩,rfl⟩
  refine⟨0,iL v d (nameOf r),?_,rfl,fun _=>this⟩
  cases az x==2 <;> rfl
 ·have aht:0<(ak (J I v.2.1 j)).length:=List.length_pos_iff.2 h0
  have lQ:kindOf (J I v.2.1 j)=2:=Decidable.byContradiction fun h=>h0 ((hv.ino j hjl.1).plain h).2.2
  have hk2:az x=2:=by
   rcases hk with h | h
   ·exact h
   ·exact absurd ⟨h,lQ⟩ b7
  rw [decide_eq_true (by omega),cF hk2]
  exact br.no 39 (by decide) rfl rfl
def vu(v:af.D)(i:Nat)(s:aF)(id:Int):af.D:=(v.1,v.2.1.set i (bX (J I v.2.1 i) (ins (ak (J I v.2.1 i)) s id)),())
structure AL(v:af.D)(c:aI.D)(x:aH.D)(w:af.D):Prop where
 out:∃r t i j,l4 v.2.1 r∧bG r=0∧ba v.2.1 (bn r)=some j∧kindOf (J I v.2.1 j)≠2∧l4 v.2.1 t∧bG t=2∧nameOf t≠[]∧ba v.2.1 (cc t)=some i∧kindOf (J I v.2.1 i)=2 ∧
  (ak (J I v.2.1 i)).length<12∧w=vu v i (nameOf t) (bn r)∧fj w.2.1=0∧dX (v,c,ew x,false,())=some (r,())∧dX (v,c,iK x,false,())=some (t,())
theorem ahu{v:af.D}(hv:bz v){i:Nat}(hi:i<v.2.1.length)(hk:kindOf (J I v.2.1 i)=2)(s:aF){id:Int}(b7:(ba v.2.1 id).isSome=true):an 1000 (vu v i s id).2.1:=by
 have:=hv.st.set (k:=1) (i:=i) (y:=bX (J I v.2.1 i) (ins (ak (J I v.2.1 i)) s id)) hi rfl (by
  intro e he
  rcases n4.1 he with he | rfl
  ·exact hv.gN i hi e he
  ·exact b7) (fun h=>absurd hk h) (by show(ins (ak (J I v.2.1 i)) s id).length≤_;rw [xO];omega) (Nat.le_add_right _ _)
 exact this.mono (by omega)
theorem ahv(v:af.D)(c:aI.D)(x:aH.D)(hv:bz v)(hc:dd c=true)(hx:im x):br v c x (E6 ((v,c,x,()),())) (Dt (v,c,x,())) (AL v c x):=by
 have cf:=hv.hy
 have hl:v.2.1.length≤1048576:=cf.len
 have au:=hx.path
 have ahw:=hx.sU
 show br v c x (Ls (v,c,x,())) (Ka v c x) _
 unfold Ls Ka
 obtain ⟨r,⟨hr,_⟩,AK,fG⟩:=Aw v c x (ew x) false cf hc (by omega)
 show br v c x (Option.bind (k_ ((v,c,x,()),ew x,false,())) _) (Option.bind (dX (v,c,ew x,false,())) _) _
 rw [AK,fG]
 simp only [av]
 show br v c x (cond (bG r != 0) (some (bG r,(v,c,x,()),())) _) (cond (bG r != 0) (some (v,(bG r,[],()),())) _) _
 by_cases b3:bG r=0
 case neg =>
  rw [cI b3]
  exact br.no (bG r) b3 rfl rfl
 rw [dq b3]
 simp only [cond_false]
 obtain ⟨j,hj⟩:=hr.there b3
 have hjl:=bZ hj
 show br v c x (Option.bind (va (v,bn r,())) _) (Option.bind (xa (v,bn r,())) _) _
 rw [Gh v _ hl,VJ v _ hl]
 simp only [av]
 cases NK:lh v.2.1 (bn r) with
 | true=>exact br.no 1 (by decide) rfl rfl
 | false =>
 simp only [cond_false]
 have lQ:kindOf (J I v.2.1 j)≠2:=by
  unfold lh at NK
  rw [hj] at NK
  exact beq_eq_false_iff_ne.1 NK
 obtain ⟨t,dm,code,NG,NH,NI⟩:=V8 v c x (iK x) cf hc (by omega)
 show br v c x (Option.bind (u9 ((v,c,x,()),iK x,())) _) (Option.bind (qI (v,c,iK x,())) _) _
 rw [NG,NH]
 simp only [av]
 by_cases GK:code=0
 case neg =>
  rw [cI GK]
  exact br.no code GK rfl rfl
 obtain ⟨rfl,ht,Wq,htn,AH⟩:=NI GK
 rw [dq GK]
 simp only [cond_false]
 obtain ⟨kg,jQ,d,ag,fc,n5⟩:=ht.new Wq htn
 have hdl:=bZ ag
 show br v c x (Option.bind (nN ((v,c,x,()),cc dm,())) _) (Option.bind (eW (v,cc dm,())) _) _
 rw [AG v c x _ hl hc ag,ik v _ hl ag]
 simp only [av]
 rw [mV c _ 3 hc]
 simp only [av]
 cases hm:may c (J I v.2.1 d) 3 with
 | false=>exact br.no 13 (by decide) rfl rfl
 | true =>
 simp only [Bool.not_true,cond_false]
 show br v c x (Option.bind (fE (v,cc dm,())) _) _ _
 rw [mX v _ hl ag]
 simp only [av,List.isEmpty_cons,Bool.not_false,cond_true]
 have hQ:=hv.ino d hdl.1
 have Wk:=(hQ.dir fc).2.2.2
 show br v c x (cond (((ak (J I v.2.1 d)).length:Int)==12) _ _) (cond (decide (((ak (J I v.2.1 d)).length:Int)≥12)) _ _) _
 by_cases lO:(ak (J I v.2.1 d)).length=12
 ·rw [show(((ak (J I v.2.1 d)).length:Int)==12)=true by rw [lO];rfl,decide_eq_true (by omega)]
  exact br.no 28 (by decide) rfl rfl
 rw [show(((ak (J I v.2.1 d)).length:Int)==12)=false by rw [beq_eq_false_iff_ne];omega,decide_eq_false (show ¬((ak (J I v.2.1 d)).length:Int)≥12 by omega)]
 simp only [cond_false]
 rw [vn v hl (fun i hi=>Nat.le_trans (fO hi) cf.cG)]
 simp only [av]
 have hnl:=Nat.le_trans (fO hdl.1) cf.cG
 show br v c x (Option.bind (sx ((v,c,x,()),cc dm,nameOf dm,bn r,())) _) (Option.bind (r_ (v,cc dm,nameOf dm,bn r,())) _) _
 rw [NC v c x _ _ _ hl ag hnl,NF v _ _ _ hl ag hnl (AD n5 fun e he=>hv.AE hdl.1 he)]
 simp only [av]
 show br v c x (Option.bind (nO ((vu v d (nameOf dm) (bn r),c,x,()),())) fun bt=>some (bt.1,(vu v d (nameOf dm) (bn r),c,x,()),())) (Option.bind (qL (v,vu v d (nameOf dm) (bn r),())) fun dn=>some (dn.1,dn.2.1,())) _
 have hst:=ahu hv hdl.1 fc (nameOf dm) (id:=bn r) (by rw [hj];rfl)
 rw [Az _ c x hst (by omega),AA v _ hst (by omega)]
 exact⟨_,_,rfl,rfl,fun h=>⟨r,dm,d,j,hr,b3,hj,lQ,ht,Wq,htn,ag,fc,by omega,rfl,h,fG,AH⟩⟩
def n6(l:List aJ):Nat→Int→Int→Bool
 | 0,_,_=>false
 | k+1,id,top=>cond (id==top) true (cond (id==1) false (n6 l k (jw l id) top))
theorem ahx(v:af.D)(id top:Int)(hl:v.2.1.length≤1048576)(hn:dv v.2.1≤1048576):zu (v,id,top,())=some (n6 v.2.1 (v.2.1.length+1) id top,()):=by
 show Dv (uB aQ) v id top=_
 unfold Dv
 have key:∀(r k m:Nat) (id:Int),k+r=v.2.1.length+1→r<m→uB m id top (k:Int) v=some (n6 v.2.1 r id top,()):=by
  intro r
  induction r with
  | zero =>
   intro k m id hk hm
   obtain ⟨m,rfl,_⟩:=fuel hm
   simp only [uB,Dw]
   rw [decide_eq_false (by omega)];rfl
  | succ r ih =>
   intro k m id hk hm
   obtain ⟨m,rfl,pw⟩:=fuel hm
   simp only [uB,Dw]
   rw [decide_eq_true (show(k:Int)≤(v.2.1.length:Int) by omega),Nn v id hl hn,dg k (by omega)]
   simp only [cond_true,av]
   rw [ih (k+1) m _ (by omega) (by omega),n6]
   cases id==top <;> cases id==1 <;> rfl
 exact key (v.2.1.length+1) 0 aQ id (by omega) (jq (by omega))
theorem NL{α : Type}{f : α → Nat} : ∀ {l:List α},(∀x,x∈l→f x=0)→(l.map f).sum=0
 | [],_=>rfl
 | x :: l,h=>by
  simp only [List.map_cons,List.sum_cons]
  rw [h x List.mem_cons_self,NL fun y aN=>h y (List.mem_cons_of_mem _ aN)]
def up(l:List aJ):Nat→Int→Int
 | 0,d=>d
 | k+1,d=>up l k (jw l d)
theorem NM{α : Type}(f : α → Nat):∀(l:List α) (i j:Nat) (hi:i<l.length) (hj:j<l.length),i<j→f l[i]+f l[j]≤(l.map f).sum
 | [],_,_,hi,_,_=>by simp at hi
 | x :: l,i,j+1,hi,hj,iM=>by
  cases i with
  | zero =>
   simp only [List.getElem_cons_zero,List.getElem_cons_succ,List.map_cons,List.sum_cons]
   have:=Ga (f:=f) (List.getElem_mem (l:=l) (by simpa using hj:j<l.length))
   omega
  | succ i =>
   simp only [List.getElem_cons_succ,List.map_cons,List.sum_cons]
   have:=NM f l i j (by simpa using hi) (by simpa using hj) (by omega)
   omega
theorem NN{N:List ax.D}{id:Int} : pY N id=true↔0<dr N id:=by
 constructor
 ·intro h
  obtain ⟨j,h1,h2,_⟩:=Gj h
  unfold lj at h2
  exact List.length_pos_of_mem (List.mem_filter.2 ⟨cP h1,h2⟩)
 ·intro h
  obtain ⟨d,ag⟩:=List.exists_mem_of_length_pos h
  obtain ⟨h1,h2⟩:=List.mem_filter.1 ag
  obtain ⟨i,hi,he⟩:=fx h1
  cases hb:pY N id with
  | true=>rfl
  | false =>
   have:=Nl hb i hi
   unfold lj at this
   rw [he,h2] at this;cases this
theorem GL{l:List aJ}(ag:ig l){b d:Int}(h1:ca l d=1)(h:E l b d):jw l d=b:=by
 obtain ⟨i,e,hi,he,rfl⟩:=h
 obtain ⟨bR,o1⟩:=bZ hi
 have hci:0<dr (ak (J I l i)) e.2.1:=List.length_pos_of_mem (List.mem_filter.2 ⟨he,by simp⟩)
 unfold jw
 cases au:Gi l e.2.1 with
 | none =>
  have:=l1.1 au i bR
  rw [NN.2 hci] at this;cases this
 | some j =>
  obtain ⟨hj,ahy,_⟩:=ic.1 au
  have Wr:=NN.1 ahy
  have:j=i:=by
   refine Decidable.byContradiction fun hne=>?_
   rcases Nat.lt_or_gt_of_ne hne with h | h
   ·have:=NM (fun x=>dr (ak x) e.2.1) l j i hj bR h
    rw [c7 hj] at Wr
    rw [c7 bR] at hci
    unfold ca at h1
    have h2:dr (ak l[j]) e.2.1+dr (ak l[i]) e.2.1≤(l.map fun x=>dr (ak x) e.2.1).sum:=this
    omega
   ·have:=NM (fun x=>dr (ak x) e.2.1) l i j bR hj h
    rw [c7 hj] at Wr
    rw [c7 bR] at hci
    unfold ca at h1
    have h2:dr (ak l[i]) e.2.1+dr (ak l[j]) e.2.1≤(l.map fun x=>dr (ak x) e.2.1).sum:=this
    omega
  subst this
  exact o1
theorem bz.NO{v:af.D}(h:bz v){a:Int} : ¬dQ v.2.1 a 1:=by
 intro hb
 have hE:∀b,¬E v.2.1 b 1:=by
  rintro b ⟨i,d,hi,ag,he⟩
  exact((h.ino i (bZ hi).1).names d ag).2.1 he
 cases hb with
 | single h=>exact hE _ h
 | tail _ h=>exact hE _ h
theorem bz.Ws{v:af.D}(h:bz v){b d:Int}(he:E v.2.1 b d):d≠1:=by
 rintro rfl
 exact h.NO (.single he)
theorem bz.NP{v:af.D}(h:bz v){d:Int}(ag:kL v.2.1 d)(h1:d≠1):ca v.2.1 d=1:=by
 obtain ⟨i,hi,hk⟩:=ag
 obtain ⟨bR,b7⟩:=bZ hi
 have:=h.once i (by
  rcases Nat.eq_zero_or_pos i with h0 | h0
  ·subst h0
   exact absurd ((show(J I v.2.1 0).1=1 from h.root.1).symm.trans b7).symm h1
  ·exact h0) bR hk
 rwa [b7] at this
theorem bz.ahz{v:af.D}(h:bz v){b d:Int}(he:E v.2.1 b d):kL v.2.1 b:=by
 obtain ⟨i,e,hi,hm,_⟩:=he
 refine⟨i,hi,Decidable.byContradiction fun hk=>?_⟩
 rw [((h.ino i (bZ hi).1).plain hk).2.2] at hm
 simp at hm
theorem bz.ahA{v:af.D}(h:bz v){a d:Int}(ag:kL v.2.1 d)(h1:d≠1):dQ v.2.1 a d↔a=jw v.2.1 d∨dQ v.2.1 a (jw v.2.1 d):=by
 have ho:=h.NP ag h1
 constructor
 ·intro hb
  cases hb with
  | single he=>exact .inl (GL h.fR ho he).symm
  | tail hb he=>rw [GL h.fR ho he];exact .inr hb
 ·intro hb
  have hE:E v.2.1 (jw v.2.1 d) d:=by
   cases au:Gi v.2.1 d with
   | none =>
    exfalso
    have h0:=l1.1 au
    have:ca v.2.1 d=0:=by
     unfold ca
     refine NL fun x hx=>?_
     obtain ⟨i,hi,aB⟩:=fx hx
     have:=h0 i hi
     rw [aB] at this
     refine Decidable.byContradiction fun hc=>?_
     rw [NN.2 (by omega)] at this;cases this
    omega
   | some i =>
    obtain ⟨hi,hh,_⟩:=ic.1 au
    obtain ⟨j,hj,Wt,_⟩:=Gj hh
    unfold jw
    rw [au]
    exact⟨i,J ax (ak (J I v.2.1 i)) j,h.fR i hi,cP hj,by unfold lj at Wt;simpa using Wt⟩
  rcases hb with rfl | hb
  ·exact .single hE
  ·exact .tail hb hE
theorem ahB{v:af.D}(h:bz v)(top:Int):∀(n k:Nat) (d:Int),kL v.2.1 d→up v.2.1 n d=1→n<k→(n6 v.2.1 k d top=true↔d=top∨dQ v.2.1 top d):=by
 intro n
 induction n with
 | zero =>
  intro k d ag hu hk
  obtain ⟨k,rfl,_⟩:=fuel hk
  have hu:d=1:=hu
  subst hu
  rw [n6]
  by_cases h1:(1:Int)=top
  ·rw [cF h1];exact⟨fun _=>.inl h1,fun _=>rfl⟩
  ·rw [b4 h1]
   exact⟨fun h=>(by cases h),fun h'=>h'.elim (fun h=>absurd h h1) fun hb=>absurd hb h.NO⟩
 | succ n ih =>
  intro k d ag hu hk
  obtain ⟨k,rfl,eo⟩:=fuel hk
  rw [n6]
  by_cases h1:d=top
  ·rw [cF h1];exact⟨fun _=>.inl h1,fun _=>rfl⟩
  ·rw [b4 h1]
   by_cases h2:d=1
   ·rw [cF h2]
    subst h2
    exact⟨fun h=>(by cases h),fun h'=>h'.elim (fun h=>absurd h h1) fun hb=>absurd hb h.NO⟩
   ·rw [b4 h2]
    simp only [cond_false]
    rw [ih k (jw v.2.1 d) (At h.hy _) hu (by omega),h.ahA ag h2]
    constructor
    ·rintro (h | h)
     ·exact .inr (.inl h.symm)
     ·exact .inr (.inr h)
    ·rintro (h | h | h)
     ·exact absurd h h1
     ·exact .inl h.symm
     ·exact .inr h
theorem up_add(l:List aJ)(a:Nat):∀(b:Nat) (d:Int),up l (a+b) d=up l a (up l b d)
 | 0,_=>rfl
 | b+1,d=>up_add l a b (jw l d)
theorem bz.ahC{v:af.D}(h:bz v){d:Int}(ag:kL v.2.1 d):∃n,up v.2.1 n d=1:=by
 obtain ⟨i,hi,hk⟩:=ag
 obtain ⟨bR,b7⟩:=bZ hi
 rcases Nat.eq_zero_or_pos i with h0 | h0
 ·subst h0
  exact⟨0,b7.symm.trans (show(J I v.2.1 0).1=1 from h.root.1)⟩
 ·have hb:=h.reach i h0 bR
  rw [b7] at hb
  have key:∀d,dQ v.2.1 1 d→kL v.2.1 d→∃n,up v.2.1 n d=1:=by
   intro d hb
   induction hb with
   | single he =>
    intro ag
    have h1:=h.Ws he
    exact⟨1,GL h.fR (h.NP ag h1) he⟩
   | tail hb he ih =>
    intro ag
    have h1:=h.Ws he
    obtain ⟨n,hn⟩:=ih (h.ahz he)
    exact⟨n+1,by show up v.2.1 n (jw v.2.1 _)=1;rw [GL h.fR (h.NP ag h1) he];exact hn⟩
  exact key d hb ⟨i,hi,hk⟩
theorem least{P:Nat→Prop} : ∀n,P n→∃m,P m∧∀k,k<m→¬P k:=by
 intro n
 induction n using Nat.strongRecOn with
 | _ n ih =>
  intro hn
  by_cases h:∃k,k<n∧P k
  ·obtain ⟨k,hk,au⟩:=h
   exact ih k hk au
  ·exact⟨n,hn,fun k hk au=>h ⟨k,hk,au⟩⟩
theorem Wu{v:af.D}(h:bz v):∀(n:Nat) {d:Int},kL v.2.1 d→kL v.2.1 (up v.2.1 n d)
 | 0,_,ag=>ag
 | n+1,d,_=>Wu h n (At h.hy d)
theorem bz.ahD{v:af.D}(h:bz v){d:Int}(ag:kL v.2.1 d):∃n,n<v.2.1.length∧up v.2.1 n d=1:=by
 obtain ⟨ahE,h0⟩:=h.ahC ag
 obtain ⟨n,hn,ahF⟩:=least (P:=fun n=>up v.2.1 n d=1) ahE h0
 refine⟨n,?_,hn⟩
 have gZ:((List.range (n+1)).map fun i=>up v.2.1 i d).Nodup:=by
  unfold List.Nodup
  rw [List.pairwise_iff_getElem]
  intro i j hi hj iM he
  simp only [List.length_map,List.length_range] at hi hj
  simp only [List.getElem_map,List.getElem_range] at he
  refine ahF (n-(j-i)) (by omega) ?_
  show up v.2.1 (n-(j-i)) d=1
  rw [show n-(j-i)=(n-j)+i by omega,up_add,he,← up_add,show n-j+j=n by omega]
  exact hn
 have kU:((List.range (n+1)).map fun i=>up v.2.1 i d)⊆v.2.1.map fun x=>x.1:=by
  intro a ha
  obtain ⟨i,_,rfl⟩:=List.mem_map.1 ha
  obtain ⟨j,hj,_⟩:=Wu h i ag
  obtain ⟨h1,h2⟩:=bZ hj
  exact List.mem_map.2 ⟨_,cP h1,h2⟩
 have:=gZ.length_le_of_subset kU
 simp only [List.length_map,List.length_range] at this
 omega
theorem Wv{v:af.D}(h:bz v){d:Int}(ag:kL v.2.1 d)(top:Int):n6 v.2.1 (v.2.1.length+1) d top=true↔d=top∨dQ v.2.1 top d:=by
 obtain ⟨n,h1,h2⟩:=h.ahD ag
 exact ahB h top n _ d ag h2 (by omega)
theorem xP{N:List ax.D}(t:aF)(h:jb N):N.takeWhile (dY t)=N.filter (dY t)∧N.dropWhile (dY t)=N.filter fun d => !dY t d:=by
 induction N with
 | nil=>exact⟨rfl,rfl⟩
 | cons d r ih =>
  obtain ⟨h1,h2⟩:=List.pairwise_cons.1 h
  obtain ⟨i1,i2⟩:=ih h2
  rw [List.takeWhile_cons,List.dropWhile_cons,List.filter_cons,List.filter_cons]
  cases ag:dY t d with
  | true=>simp [i1,i2]
  | false =>
   have bS:∀e,e∈r→dY t e=false:=by
    intro e he
    have h3:=h1 e he
    cases hk:dY t e with
    | false=>rfl
    | true =>
     have:=As h3 hk
     unfold dY at ag
     rw [ag] at this;cases this
   have f1:r.filter (dY t)=[]:=List.filter_eq_nil_iff.2 fun e he=>by rw [bS e he];simp
   have f2:(r.filter fun d => !dY t d)=r:=List.filter_eq_self.2 fun e he=>by rw [bS e he];rfl
   simp [f1,f2]
theorem vv{N:List ax.D}(h:jb N)(s:aF):jb (b8 N s):=List.Pairwise.sublist List.filter_sublist h
theorem ahG{N:List ax.D}(h:jb N){r t:aF}{id:Int}(hne:t≠r):b8 (ins N t id) r=ins (b8 N r) t id:=by
 unfold ins
 rw [(xP t h).1,(xP t h).2,(xP t (vv h r)).1,(xP t (vv h r)).2]
 unfold b8
 rw [List.filter_append,List.filter_append,List.filter_cons,List.filter_nil,List.filter_filter,List.filter_filter,List.filter_filter,List.filter_filter]
 have:bs t r=false:=by unfold bs;simpa using hne
 rw [this]
 simp only [Bool.not_false,if_true]
 congr 1
 ·congr 1
  exact List.filter_congr fun d _=>Bool.and_comm _ _
 ·exact List.filter_congr fun d _=>Bool.and_comm _ _
theorem Ww{N:List ax.D}(h:jb N){t:aF}{id:Int}(hn:∀d,d∈N→d.1≠t):jb (ins N t id):=by
 unfold ins
 rw [(xP t h).1,(xP t h).2]
 unfold jb
 rw [List.append_assoc,List.pairwise_append]
 refine⟨List.Pairwise.sublist List.filter_sublist h,?_,fun a ha b hb=>?_⟩
 ·rw [List.singleton_append,List.pairwise_cons]
  refine⟨fun b hb=>?_,List.Pairwise.sublist List.filter_sublist h⟩
  obtain ⟨h1,h2⟩:=List.mem_filter.1 hb
  unfold dY at h2
  rw [Nq (hn b h1)]
  exact h2
 ·obtain ⟨h1,h2⟩:=List.mem_filter.1 ha
  have h2:dx a.1 t=true:=h2
  rcases List.mem_append.1 hb with hb | hb
  ·simp only [List.mem_singleton] at hb
   subst hb;exact h2
  ·obtain ⟨h3,h4⟩:=List.mem_filter.1 hb
   unfold dY at h4
   refine As h2 ?_
   rw [Nq (hn b h3)]
   exact h4
theorem AM{N:List ax.D}(h:jb N){d:ax.D}(ag:d∈N):cJ N d.1=d.2.1:=by
 rw [look_eq]
 induction N with
 | nil=>simp at ag
 | cons e r ih =>
  obtain ⟨h1,h2⟩:=List.pairwise_cons.1 h
  rw [AB]
  rcases List.mem_cons.1 ag with rfl | ag
  ·have:bs d.1 d.1=true:=by unfold bs;simp
   rw [this];rfl
  ·have:bs e.1 d.1=false:=by unfold bs;simpa using Gp (h1 d ag)
   rw [this]
   exact ih h2 ag
theorem ahH{N:List ax.D}{s:aF} : ∀d,d∈b8 N s→d.1≠s:=by
 intro d ag
 have:=(List.mem_filter.1 ag).2
 unfold bs at this
 simpa using this
theorem sV{N:List ax.D}{s:aF}{d:ax.D}(h:d∈b8 N s):d∈N:=(List.mem_filter.1 h).1
def dB(l:List aJ)(ir:Nat)(ct:aF):List aJ:=l.set ir (bX (J I l ir) (b8 (ak (J I l ir)) ct))
def hS(l:List aJ)(it:Nat)(dZ:aF)(bE:Int):List aJ:=l.set it (bX (J I l it) (ins (ak (J I l it)) dZ bE))
def eM(l:List aJ)(ir:Nat)(ct:aF)(it:Nat)(dZ:aF)(bE:Int):List aJ:=hS (dB l ir ct) it dZ bE
structure sW(l:List aJ)(rd jy:Int)(ir it:Nat)(ct dZ:aF)(bE:Int):Prop where
 st:an 1000 l
 hr:ba l rd=some ir
 ht:ba l jy=some it
 AN:kindOf (J I l ir)=2
 NQ:kindOf (J I l it)=2
 JM:jb (ak (J I l ir))
 ahI:jb (ak (J I l it))
 look:cJ (ak (J I l ir)) ct=bE
 Wx:bE≠0
 ex:(ba l bE).isSome=true
 no:∀d,d∈ak (J I l it)→d.1≠dZ
 ne:ir=it→ct≠dZ
theorem sX(x:aJ)(N:List ax.D):(bX x N).1=x.1:=rfl
theorem AO{l:List aJ}{i:Nat}(N:List ax.D)(hi:i<l.length)(id:Int):ba (l.set i (bX (J I l i) N)) id=ba l id:=GA hi (sX _ N) id
theorem NR{l:List aJ}{ir:Nat}{ct:aF}(hi:ir<l.length)(id:Int):ba (dB l ir ct) id=ba l id:=AO _ hi id
theorem Wy{l:List aJ}{it:Nat}{dZ:aF}{bE:Int}(hi:it<l.length)(id:Int):ba (hS l it dZ bE) id=ba l id:=AO _ hi id
theorem ahJ{l:List aJ}{rd jy:Int}{ir it:Nat}{ct dZ:aF}{bE:Int}(h:sW l rd jy ir it ct dZ bE):dB (hS l it dZ bE) ir ct=eM l ir ct it dZ bE:=by
 have hr:=(bZ h.hr).1
 have ht:=(bZ h.ht).1
 unfold eM dB hS
 rw [gv ht,gv hr]
 by_cases he:it=ir
 ·subst he
  rw [if_pos rfl,if_pos rfl,List.set_set,List.set_set,hp,hp,ahG h.JM (fun e=>h.ne rfl e.symm)]
  rfl
 ·rw [if_neg he,if_neg (fun e=>he e.symm),List.set_comm _ _ he]
theorem Wz{l:List aJ}{rd jy:Int}{ir it:Nat}{ct dZ:aF}{bE:Int}(h:sW l rd jy ir it ct dZ bE):an 1001 (dB l ir ct)∧an 1003 (eM l ir ct it dZ bE):=by
 have hr:=(bZ h.hr).1
 have ht:=(bZ h.ht).1
 have h1:an 1001 (dB l ir ct):=h.st.set (k:=1) hr rfl (fun d ag=>h.st.gN ir hr d (sV ag)) (fun hk=>absurd h.AN hk) (Nat.le_trans (vq _ _) (by omega)) (Nat.le_add_right _ _)
 have aB:kindOf (J I (dB l ir ct) it)=2∧(J I (dB l ir ct) it).1=jy:=by
  unfold dB
  rw [gv hr]
  split
  ·rename_i he;exact⟨h.AN,by show(J I l ir).1=jy;rw [he];exact(bZ h.ht).2⟩
  ·exact⟨h.NQ,(bZ h.ht).2⟩
 have hex:∀id,(ba (dB l ir ct) id).isSome=(ba l id).isSome:=fun id=>by rw [NR hr]
 refine⟨h1,(h1.set (k:=1) (i:=it) (y:=bX (J I (dB l ir ct) it) (ins (ak (J I (dB l ir ct) it)) dZ bE)) (by unfold dB;rw [List.length_set];exact ht) rfl (fun d ag=>?_) (fun hk=>absurd aB.1 hk) (by rw [hp,xO];omega) (Nat.le_add_right _ _)).mono (by omega)⟩
 rcases n4.1 ag with ag | rfl
 ·exact h1.gN it (by unfold dB;rw [List.length_set];exact ht) d ag
 ·rw [hex];exact h.ex
theorem ahK(m:Nat)(a b d):(ja (m+1)).oW a b d=Lx (ja m) a b d:=rfl
theorem ahL(m:Nat)(a b d e):(ja (m+1)).jN a b d e=Lw (ja m) a b d e:=rfl
theorem ahM(m:Nat)(a b d e):(ja (m+1)).gk a b d e=Lv (ja m) a b d e:=rfl
theorem ahN(m:Nat)(a b d):(ja (m+1)).c5 a b d=Lu (ja m) a b d:=rfl
theorem ahO(m:Nat)(a b d e f g):(gB (m+1)).mJ a b d e f g=Kf (gB m) a b d e f g:=rfl
theorem ahP(m:Nat)(a b d e f g h i):(gB (m+1)).Kb a b d e f g h i=Kg (gB m) a b d e f g h i:=rfl
theorem ahQ(m:Nat)(a b d e f g h i):(gB (m+1)).oJ a b d e f g h i=Ke (gB m) a b d e f g h i:=rfl
theorem ahR(m:Nat)(a b d e f g h i):(gB (m+1)).fD a b d e f g h i=Kd (gB m) a b d e f g h i:=rfl
theorem ahS(m:Nat)(a b d e f g):(gB (m+1)).c5 a b d e f g=Kc (gB m) a b d e f g:=rfl
theorem WA{n:Int}{l:List aJ}(c:aI.D)(x:aH.D)(r t:aV.D){ir it:Nat}(h:sW l (cc r) (cc t) ir it (nameOf r) (nameOf t) (bn r))(m:Nat) :
  (ja (m+1)).oW ((n,l,()),c,x,()) r t=some (fj (eM l ir (nameOf r) it (nameOf t) (bn r)),((n,eM l ir (nameOf r) it (nameOf t) (bn r),()),c,x,()),()):=by
 have hr:=(bZ h.hr).1
 have ht:=(bZ h.ht).1
 obtain ⟨s1,s2⟩:=Wz h
 have ji:=h.st.len
 have rG:=h.st.cG
 have rM:=s1.len
 have BB:=s1.cG
 rw [ahK]
 unfold Lx
 show Option.bind (oU (((n,l,()),c,x,()),cc r,nameOf r,false,())) _=_
 rw [ND (n,l,()) c x _ _ false (show l.length≤1048576 by omega) (show dv l≤1048576 by omega) h.hr]
 simp only [av,cond_false]
 show Option.bind (sx (((n,dB l ir (nameOf r),()),c,x,()),cc t,nameOf t,bn r,())) _=_
 have jf:ba (dB l ir (nameOf r)) (cc t)=some it:=by rw [NR hr];exact h.ht
 rw [NC (n,dB l ir (nameOf r),()) c x _ _ _ (show(dB l ir (nameOf r)).length≤1048576 by omega) jf (by
  have:=fO (l:=dB l ir (nameOf r)) (i:=it) (bZ jf).1
  show(ak (J I (dB l ir (nameOf r)) it)).length≤_
  omega)]
 simp only [av]
 show Option.bind (nO (((n,eM l ir (nameOf r) it (nameOf t) (bn r),()),c,x,()),())) (fun v3=>some (v3.1,((n,eM l ir (nameOf r) it (nameOf t) (bn r),()),c,x,()),()))=_
 rw [Az (n,eM l ir (nameOf r) it (nameOf t) (bn r),()) c x s2 (by omega)];rfl
theorem WB{n:Int}{l:List aJ}(v:af.D)(z:af.D)(jG:aG.D)(r t:aV.D){ir it:Nat}(h:sW l (cc r) (cc t) ir it (nameOf r) (nameOf t) (bn r))(m:Nat) :
  (gB (m+1)).mJ v z jG r t (n,l,())=some (cond (fj (eM l ir (nameOf r) it (nameOf t) (bn r))==0) (n,eM l ir (nameOf r) it (nameOf t) (bn r),()) v,(fj (eM l ir (nameOf r) it (nameOf t) (bn r)),[],()),()):=by
 have hr:=(bZ h.hr).1
 have ht:=(bZ h.ht).1
 obtain ⟨s1,s2⟩:=Wz h
 have ji:=h.st.len
 have rG:=h.st.cG
 have rM:=fO ht
 rw [ahO]
 unfold Kf
 show Option.bind (r_ ((n,l,()),cc t,nameOf t,bn r,())) _=_
 rw [NF (n,l,()) _ _ _ (show l.length≤1048576 by omega) h.ht (show(ak (J I l it)).length≤1048576 by omega) h.no]
 simp only [av]
 show Option.bind (nF ((n,hS l it (nameOf t) (bn r),()),cc r,nameOf r,())) _=_
 have n7:J I (hS l it (nameOf t) (bn r)) ir=if it=ir then bX (J I l it) (ins (ak (J I l it)) (nameOf t) (bn r)) else J I l ir:=by unfold hS;rw [gv ht]
 have WC:jb (ak (J I (hS l it (nameOf t) (bn r)) ir)):=by
  rw [n7]
  split
  ·rw [hp];exact Ww h.ahI h.no
  ·exact h.JM
 have bR:ba (hS l it (nameOf t) (bn r)) (cc r)=some ir:=by rw [Wy ht];exact h.hr
 have AP:(hS l it (nameOf t) (bn r)).length≤1048576:=by unfold hS;rw [List.length_set];omega
 have ahT:dv (hS l it (nameOf t) (bn r))≤1048576:=by
  have:=Gw (l:=l) (y:=bX (J I l it) (ins (ak (J I l it)) (nameOf t) (bn r))) ht
  rw [hp,xO] at this
  unfold hS;omega
 rw [GG (n,hS l it (nameOf t) (bn r),()) _ _ AP ahT bR WC]
 have n5:cJ (ak (J I (hS l it (nameOf t) (bn r)) ir)) (nameOf r)=bn r:=by
  obtain ⟨e,he,Nx,oz⟩:=pZ (N:=ak (J I l ir)) (s:=nameOf r) (by rw [h.look];exact h.Wx)
  have ahU:e∈ak (J I (hS l it (nameOf t) (bn r)) ir):=by
   rw [n7]
   split
   ·rename_i hh;rw [hp,hh];exact n4.2 (.inl he)
   ·exact he
  have:=AM WC ahU
  rw [Nx,oz,h.look] at this
  exact this
 rw [show((n,hS l it (nameOf t) (bn r),()):af.D).2.1=hS l it (nameOf t) (bn r) from rfl,n5]
 have p4:goN ((hS l it (nameOf t) (bn r)).set ir (bX (J I (hS l it (nameOf t) (bn r)) ir) (b8 (ak (J I (hS l it (nameOf t) (bn r)) ir)) (nameOf r)))) (bn r)=eM l ir (nameOf r) it (nameOf t) (bn r):=by
  have hc:=ahJ h
  unfold dB at hc
  rw [hc]
  unfold goN
  rw [decide_eq_false];rfl
  intro h0
  have dF:it<(dB l ir (nameOf r)).length:=by unfold dB;rw [List.length_set];exact ht
  have jn:J I (eM l ir (nameOf r) it (nameOf t) (bn r)) it∈eM l ir (nameOf r) it (nameOf t) (bn r):=cP (by unfold eM hS;rw [List.length_set];exact dF)
  refine GC h0 _ jn (nameOf t,bn r,()) ?_ rfl
  unfold eM hS
  rw [gv dF,if_pos rfl,hp]
  exact n4.2 (.inr rfl)
 rw [p4]
 simp only [av]
 show Option.bind (qL (v,(n,eM l ir (nameOf r) it (nameOf t) (bn r),()),())) _=_
 rw [AA v (n,eM l ir (nameOf r) it (nameOf t) (bn r),()) s2 (by omega)];rfl
def NS(c:aI.D)(d n m:aJ):Int :=
 cond (!nZ c d m) 1 (cond (kindOf n==2) (cond (kindOf m != 2) 20 (cond (decide (((ak m).length:Int)>0)) 39 0)) (cond (kindOf m==2) 21 0))
theorem ahV(v:af.D)(c:aI.D)(x:aH.D)(n:aJ)(t:aV.D)(hl:v.2.1.length≤1048576)(hc:dd c=true){i j:Nat}(hi:ba v.2.1 (cc t)=some i)(hj:ba v.2.1 (bn t)=some j) :
  E7 ((v,c,x,()),n,t,())=some (NS c (J I v.2.1 i) n (J I v.2.1 j),()):=by
 show Lt (v,c,x,()) n t=_
 unfold Lt NS
 rw [jo]
 show Option.bind (fE (v,bn t,())) _=_
 rw [mX v _ hl hj]
 simp only [av,List.isEmpty_cons,Bool.not_false,cond_true]
 show Option.bind (fE (v,cc t,())) _=_
 rw [mX v _ hl hi]
 simp only [av,List.isEmpty_cons,Bool.not_false,cond_true]
 show Option.bind (sy (c,J I v.2.1 i,J I v.2.1 j,())) _=_
 rw [Ni c _ _ hc]
 simp only [av]
 show cond (!nZ c (J I v.2.1 i) (J I v.2.1 j)) _ (cond (kindOf n==2) (cond (!(kindOf (J I v.2.1 j)==2)) _ (cond (kindOf n==2) (cond (decide (((ak (J I v.2.1 j)).length:Int)>0)) _ (cond (!(kindOf n==2)) (cond (kindOf (J I v.2.1 j)==2) _ _) _)) _)) (cond (kindOf n==2) _ (cond (!(kindOf n==2)) (cond (kindOf (J I v.2.1 j)==2) _ _) _)))=_
 unfold bne
 cases nZ c (J I v.2.1 i) (J I v.2.1 j) <;> cases kindOf n==2 <;> cases kindOf (J I v.2.1 j)==2 <;> cases decide (((ak (J I v.2.1 j)).length:Int)>0) <;> rfl
structure xQ(v:af.D)(c:aI.D)(x:aH.D)(w:af.D):Prop where
 out:∃r t j,l4 v.2.1 r∧bG r=0∧nameOf r≠[]∧ba v.2.1 (bn r)=some j∧l4 v.2.1 t∧nameOf t≠[]∧(bG t=0∨bG t=2)∧(dX (v,c,ew x,false,())=some (r,())∧dX (v,c,iK x,false,())=some (t,())) ∧
  (bn t=bn r∧w=v∨bn t≠bn r∧(kindOf (J I v.2.1 j)=2→cc t≠bn r∧¬dQ v.2.1 (bn r) (cc t)) ∧
   ∃l ir it,sW l (cc r) (cc t) ir it (nameOf r) (nameOf t) (bn r)∧w=(v.1,eM l ir (nameOf r) it (nameOf t) (bn r),())∧fj w.2.1=0 ∧
    ((bn t=0∧l=v.2.1∧(cc r≠cc t→(ak (J I l it)).length<12)) ∨
     (∃i2 eU,ba v.2.1 (cc t)=some i2∧kindOf (J I v.2.1 i2)=2∧ba v.2.1 (bn t)=some eU∧ak (J I v.2.1 eU)=[]∧cJ (ak (J I v.2.1 i2)) (nameOf t)=bn t∧(kindOf (J I v.2.1 j)=2↔kindOf (J I v.2.1 eU)=2)∧l=(iL v i2 (nameOf t)).2.1)))
theorem WD{v:af.D}(hv:bz v){i2:Nat}(hi:i2<v.2.1.length)(hk:kindOf (J I v.2.1 i2)=2)(s:aF):an 1000 (iL v i2 s).2.1 ∧
  ∀id,id≠cJ (ak (J I v.2.1 i2)) s→∀k,ba v.2.1 id=some k→∃k',ba (iL v i2 s).2.1 id=some k'∧J I (iL v i2 s).2.1 k'=if i2=k then bX (J I v.2.1 i2) (b8 (ak (J I v.2.1 i2)) s) else J I v.2.1 k:=by
 have hs1:an 1000 (v.2.1.set i2 (bX (J I v.2.1 i2) (b8 (ak (J I v.2.1 i2)) s))):=(hv.st.set (k:=0) (y:=bX (J I v.2.1 i2) (b8 (ak (J I v.2.1 i2)) s)) hi rfl (fun d ag=>hv.gN i2 hi d (sV ag)) (fun h=>absurd hk h) (vq _ _) (Nat.le_refl _)).mono (by omega)
 refine⟨hs1.go _,fun id hne k b7=>?_⟩
 obtain ⟨n_,gL⟩:=bZ b7
 show ∃k',ba (goN (v.2.1.set i2 (bX (J I v.2.1 i2) (b8 (ak (J I v.2.1 i2)) s))) (cJ (ak (J I v.2.1 i2)) s)) id=some k'∧J I (goN (v.2.1.set i2 (bX (J I v.2.1 i2) (b8 (ak (J I v.2.1 i2)) s))) (cJ (ak (J I v.2.1 i2)) s)) k'=_
 have aB:J I (v.2.1.set i2 (bX (J I v.2.1 i2) (b8 (ak (J I v.2.1 i2)) s))) k=if i2=k then bX (J I v.2.1 i2) (b8 (ak (J I v.2.1 i2)) s) else J I v.2.1 k:=gv hi
 have NT:ba (v.2.1.set i2 (bX (J I v.2.1 i2) (b8 (ak (J I v.2.1 i2)) s))) id=some k:=by rw [AO _ hi];exact b7
 rw [← aB]
 generalize v.2.1.set i2 (bX (J I v.2.1 i2) (b8 (ak (J I v.2.1 i2)) s))=dU at hs1 NT
 generalize cJ (ak (J I v.2.1 i2)) s=gone at hne
 have p4:=hs1.go gone
 unfold goN at p4 ⊢
 by_cases h0:ca dU gone=0
 ·rw [decide_eq_true h0] at p4 ⊢
  simp only [cond_true] at p4 ⊢
  obtain ⟨h1,h2⟩:=bZ NT
  have hm:J I dU k∈dU.filter fun y => !(y.1==gone):=List.mem_filter.2 ⟨cP h1,by rw [h2,Bool.not_eq_true',beq_eq_false_iff_ne];exact hne⟩
  obtain ⟨k',eo,he⟩:=fx hm
  refine⟨k',?_,he⟩
  have:=p4.fR k' eo
  rwa [he,h2] at this
 ·rw [decide_eq_false h0]
  exact⟨k,NT,rfl⟩
theorem ahW(v:af.D)(c:aI.D)(x:aH.D)(hv:bz v)(hc:dd c=true)(hx:im x):br v c x (E9 ((v,c,x,()),())) (Dy (v,c,x,())) (xQ v c x):=by
 have cf:=hv.hy
 have hl:v.2.1.length≤1048576:=cf.len
 have au:=hx.path
 have ahw:=hx.sU
 obtain ⟨q,hq,h7⟩:=iI 6
 show br v c x (E8 (ja aQ) (v,c,x,())) (Dx (gB aQ) v c x) _
 unfold E8 Dx
 obtain ⟨r,⟨hr,_⟩,AK,fG⟩:=Aw v c x (ew x) false cf hc (by omega)
 show br v c x (Option.bind (k_ ((v,c,x,()),ew x,false,())) _) (Option.bind (dX (v,c,ew x,false,())) _) _
 rw [AK,fG]
 simp only [av]
 show br v c x (cond (bG r != 0) (some (bG r,(v,c,x,()),())) _) (cond (bG r != 0) (some (v,(bG r,[],()),())) _) _
 by_cases b3:bG r=0
 case neg =>
  rw [cI b3]
  exact br.no (bG r) b3 rfl rfl
 rw [dq b3]
 simp only [cond_false]
 obtain ⟨t,⟨ht,_⟩,ahX,GM⟩:=Aw v c x (iK x) false cf hc (by omega)
 show br v c x (Option.bind (k_ ((v,c,x,()),iK x,false,())) _) (Option.bind (dX (v,c,iK x,false,())) _) _
 rw [ahX,GM]
 simp only [av]
 show br v c x (cond (bG t != 0) (cond (bG t != 2) (some (bG t,(v,c,x,()),())) (cond (bs (nameOf t) []) (some (bG t,(v,c,x,()),())) ((ja aQ).c5 (v,c,x,()) r t))) ((ja aQ).c5 (v,c,x,()) r t))
  (cond (bG t != 0) (cond (bG t != 2) (some (v,(bG t,[],()),())) (cond (bs (nameOf t) []) (some (v,(bG t,[],()),())) ((gB aQ).c5 v c (0,([]:List I.D),()) (0,([]:aF),()) r t))) ((gB aQ).c5 v c (0,([]:List I.D),()) (0,([]:aF),()) r t)) _
 by_cases kh:bG t≠0∧(bG t≠2∨nameOf t=[])
 ·rw [cI kh.1]
  by_cases h2:bG t=2
  ·have jQ:nameOf t=[]:=kh.2.elim (fun h=>absurd h2 h) id
   rw [dq h2,m2.2 jQ]
   exact br.no (bG t) kh.1 rfl rfl
  ·rw [cI h2]
   exact br.no (bG t) kh.1 rfl rfl
 have NU:bG t=0∨bG t=2:=by
  by_cases h0:bG t=0
  ·exact .inl h0
  ·exact .inr (Decidable.byContradiction fun h=>kh ⟨h0,.inl h⟩)
 have nu:∀ {α : Type} (a b : α),cond (bG t != 0) (cond (bG t != 2) a (cond (bs (nameOf t) []) a b)) b=b:=by
  intro α a b
  by_cases h0:bG t=0
  ·rw [dq h0];rfl
  ·rw [cI h0]
   have h2:bG t=2:=Decidable.byContradiction fun h=>kh ⟨h0,.inl h⟩
   rw [dq h2]
   have jQ:bs (nameOf t) []=false:=by
    rw [← Bool.not_eq_true,m2]
    exact fun h=>kh ⟨h0,.inr h⟩
   rw [jQ];rfl
 rw [nu,nu,hq,ahN,ahS]
 unfold Lu Kc
 show br v c x (cond (bs (nameOf r) []) _ (cond (bs (nameOf t) []) _ _)) (cond (bs (nameOf r) []) _ (cond (bs (nameOf t) []) _ _)) _
 cases WE:bs (nameOf r) [] with
 | true=>exact br.no 16 (by decide) rfl rfl
 | false =>
 cases WG:bs (nameOf t) [] with
 | true=>exact br.no 16 (by decide) rfl rfl
 | false =>
 simp only [cond_false,jo]
 have p5:nameOf r≠[]:=fun h=>by rw [m2.2 h] at WE;cases WE
 have htn:nameOf t≠[]:=fun h=>by rw [m2.2 h] at WG;cases WG
 obtain ⟨j,hj⟩:=hr.there b3
 have hjl:=bZ hj
 obtain ⟨kg,alJ,hY,o5,WH,vw⟩:=hr.named b3 p5
 have ahY:=bZ o5
 obtain ⟨gl,ki,sY,AQ,n8⟩:∃d,ba v.2.1 (cc t)=some d∧kindOf (J I v.2.1 d)=2∧cJ (ak (J I v.2.1 d)) (nameOf t)=bn t∧(bn t=0∨∃eU,ba v.2.1 (bn t)=some eU):=by
  by_cases h0:bG t=0
  ·obtain ⟨a1,a2,d,a3,a4,a5⟩:=ht.named h0 htn
   exact⟨d,a3,a4,a5,.inr (ht.there h0)⟩
  ·have h2:bG t=2:=Decidable.byContradiction fun h=>kh ⟨h0,.inl h⟩
   obtain ⟨a1,a2,d,a3,a4,a5⟩:=ht.new h2 htn
   exact⟨d,a3,a4,by rw [a5,a1],.inl a1⟩
 have NV:=bZ ki
 show br v c x (Option.bind (fE (v,bn r,())) _) (Option.bind (eW (v,cc r,())) fun v1=>Option.bind (eW (v,cc t,())) fun v2=>Option.bind (eW (v,bn r,())) _) _
 rw [mX v _ hl hj,ik v _ hl o5,ik v _ hl ki,ik v _ hl hj]
 simp only [av,List.isEmpty_cons,Bool.not_false,cond_true]
 rw [ahM]
 unfold Lv
 show br v c x (Option.bind (nN ((v,c,x,()),cc r,())) fun v1=>cond (!v1.1) _ (Option.bind (nN ((v,c,x,()),cc t,())) _)) _ _
 rw [AG v c x _ hl hc o5,AG v c x _ hl hc ki,mV c _ 3 hc,mV c _ 3 hc]
 simp only [av]
 cases may c (J I v.2.1 hY) 3 with
 | false=>exact br.no 13 (by decide) rfl rfl
 | true =>
 simp only [Bool.not_true,cond_false]
 cases may c (J I v.2.1 gl) 3 with
 | false=>exact br.no 13 (by decide) rfl rfl
 | true =>
 simp only [Bool.not_true,cond_false]
 show br v c x (Option.bind (fE (v,cc r,())) _) _ _
 rw [mX v _ hl o5]
 simp only [av,List.isEmpty_cons,Bool.not_false,cond_true]
 show br v c x (Option.bind (sy (c,J I v.2.1 hY,J I v.2.1 j,())) _) _ _
 rw [Ni c _ _ hc,Gf c _ _ hc]
 simp only [av]
 cases nZ c (J I v.2.1 hY) (J I v.2.1 j) with
 | false=>exact br.no 1 (by decide) rfl rfl
 | true =>
 simp only [Bool.not_true,cond_false]
 obtain ⟨out,NW,ahZ⟩:=M' v hl cf.cG (bn r)
 have ah0:=ahx v (cc t) (bn r) hl cf.cG
 have ah1:∀(K:Option (Int×aL.D×Unit)),cond ((J I v.2.1 j).2.1==2) (cond (t.1==r.2.2.1) (some (22,(v,c,x,()),())) (Option.bind (uU (v,r.2.2.1,())) fun v5=>Option.bind (sm (v5.1,t.1,())) fun v6=>cond v6.1 (some (22,(v,c,x,()),())) K)) K =
   cond (kindOf (J I v.2.1 j)==2&&n6 v.2.1 (v.2.1.length+1) (cc t) (bn r)) (some (22,(v,c,x,()),())) K:=by
  intro K
  show cond (kindOf (J I v.2.1 j)==2) (cond (cc t==bn r) (some (22,(v,c,x,()),())) (Option.bind (uU (v,bn r,())) fun v5=>Option.bind (sm (v5.1,cc t,())) fun v6=>cond v6.1 (some (22,(v,c,x,()),())) K)) K=_
  cases kindOf (J I v.2.1 j)==2
  ·rfl
  ·simp only [cond_true,Bool.true_and]
   have o1:=Wv hv (d:=cc t) ⟨gl,ki,sY⟩ (bn r)
   rw [ahZ]
   simp only [av]
   rw [contains_eq _ _ (by
    have:=NW.len
    have:=cf.cG
    omega)]
   simp only [av]
   by_cases h1:cc t=bn r
   ·rw [cF h1,o1.2 (.inl h1)];rfl
   ·rw [b4 h1]
    simp only [cond_false]
    by_cases hb:dQ v.2.1 (bn r) (cc t)
    ·rw [o1.2 (.inr hb),decide_eq_true ((NW.iff _).2 hb)]
    ·have:n6 v.2.1 (v.2.1.length+1) (cc t) (bn r)=false:=by
      rw [← Bool.not_eq_true];exact fun h=>(o1.1 h).elim h1 hb
     rw [this,decide_eq_false (fun h=>hb ((NW.iff _).1 h))]
 have ah2:∀(K:Option (af.D×aG.D×Unit)),cond ((J I v.2.1 j).2.1==2) (Option.bind (zu (v,t.1,r.2.2.1,())) fun bt=>cond bt.1 (some (v,(22,[],()),())) K) K =
   cond (kindOf (J I v.2.1 j)==2&&n6 v.2.1 (v.2.1.length+1) (cc t) (bn r)) (some (v,(22,[],()),())) K:=by
  intro K
  show cond (kindOf (J I v.2.1 j)==2) (Option.bind (zu (v,cc t,bn r,())) _) K=_
  rw [ah0]
  cases kindOf (J I v.2.1 j)==2 <;> rfl
 rw [m0]
 rw [ah1,ah2]
 cases re:kindOf (J I v.2.1 j)==2&&n6 v.2.1 (v.2.1.length+1) (cc t) (bn r) with
 | true=>exact br.no 22 (by decide) rfl rfl
 | false =>
 simp only [cond_false]
 have mo:kindOf (J I v.2.1 j)=2→cc t≠bn r∧¬dQ v.2.1 (bn r) (cc t):=by
  intro hk
  rw [cF hk,Bool.true_and] at re
  have o1:=Wv hv (d:=cc t) ⟨gl,ki,sY⟩ (bn r)
  exact⟨fun h=>(by rw [o1.2 (.inl h)] at re;cases re),fun h=>(by rw [o1.2 (.inr h)] at re;cases re)⟩
 rw [ahL,ahR]
 unfold Lw Kd
 rw [vn v hl (fun i hi=>Nat.le_trans (fO hi) cf.cG)]
 simp only [av]
 show br v c x (cond (bn t==bn r) (some (0,(v,c,x,()),())) (cond (!(bn t==0)) (Option.bind (E7 ((v,c,x,()),J I v.2.1 j,t,())) fun v1=>cond (v1.1 != 0) (some (v1.1,(v,c,x,()),())) (Option.bind (oU ((v,c,x,()),cc t,nameOf t,true,())) fun v2=>(ja (q+3)).oW v2.1 r t))
   (cond (!(cc r==cc t)) (Option.bind (fE (v,cc t,())) fun v3=>cond (!List.isEmpty v3.1) (cond (((ak (J I v3.1 0)).length:Int)==12) (some (28,(v,c,x,()),())) ((ja (q+3)).oW (v,c,x,()) r t)) none) ((ja (q+3)).oW (v,c,x,()) r t))))
  (cond (decide (bn t>0)) (cond (bn t==bn r) (some (v,(0,[],()),())) (Option.bind (eW (v,bn t,())) fun v2=>Option.bind (w8 (c,J I v.2.1 gl,v2.1,())) fun v3=>cond (!v3.1) (some (v,(1,[],()),())) (cond (kindOf (J I v.2.1 j)==2) (cond (kindOf v2.1 != 2) (some (v,(20,[],()),())) ((gB (q+4)).oJ v (0,([]:List I.D),()) (0,([]:aF),()) r t (J I v.2.1 j) v v2.1)) ((gB (q+4)).oJ v (0,([]:List I.D),()) (0,([]:aF),()) r t (J I v.2.1 j) v v2.1))))
   (cond (!(cc r==cc t)) (cond (decide (((ak (J I v.2.1 gl)).length:Int)≥12)) (some (v,(28,[],()),())) ((gB (q+4)).mJ v (0,([]:List I.D),()) (0,([]:aF),()) r t v)) ((gB (q+4)).mJ v (0,([]:List I.D),()) (0,([]:aF),()) r t v))) _
 have alK:0<bn r:=by
  have h1:=hv.ids j hjl.1
  have h2:aY (J I v.2.1 j)=bn r:=hjl.2
  omega
 have WI:=hv.ino hY ahY.1
 have lU:=hv.ino gl NV.1
 by_cases nr:bn t=bn r
 ·rw [cF nr,decide_eq_true (show bn t>0 by omega)]
  exact⟨0,v,rfl,rfl,fun _=>⟨r,t,j,hr,b3,p5,hj,ht,htn,NU,⟨fG,GM⟩,.inl ⟨nr,rfl⟩⟩⟩
 rw [b4 nr]
 simp only [cond_false]
 have hne:hY=gl→nameOf r≠nameOf t:=by
  rintro rfl he
  rw [he,AQ] at vw
  exact nr vw
 by_cases pr:bn t=0
 ·
  rw [cF pr,decide_eq_false (show ¬bn t>0 by omega)]
  simp only [Bool.not_true,cond_false]
  have hpre:sW v.2.1 (cc r) (cc t) hY gl (nameOf r) (nameOf t) (bn r) :=
   ⟨hv.st.mono (by omega),o5,ki,WH,sY,WI.sorted,lU.sorted,vw,by omega,by rw [hj];rfl,AD (by rw [AQ,pr]) fun e he=>hv.AE NV.1 he,hne⟩
  have hfin:(cc r≠cc t→(ak (J I v.2.1 gl)).length<12)→br v c x ((ja (q+3)).oW (v,c,x,()) r t) ((gB (q+4)).mJ v (0,([]:List I.D),()) (0,([]:aF),()) r t v) (xQ v c x):=by
   intro cA
   have h1:=WA (n:=v.1) c x r t hpre (q+2)
   have h2:=WB (n:=v.1) v (0,([]:List I.D),()) (0,([]:aF),()) r t hpre (q+3)
   exact⟨_,_,h1,h2,fun h=>⟨r,t,j,hr,b3,p5,hj,ht,htn,NU,⟨fG,GM⟩,.inr ⟨nr,mo,v.2.1,hY,gl,hpre,rfl,h,.inl ⟨pr,rfl,cA⟩⟩⟩⟩
  by_cases NX:cc r=cc t
  ·rw [cF NX]
   exact hfin fun h=>absurd NX h
  ·rw [b4 NX]
   simp only [Bool.not_false,cond_true]
   rw [mX v _ hl ki]
   simp only [av,List.isEmpty_cons,Bool.not_false,cond_true]
   show br v c x (cond (((ak (J I v.2.1 gl)).length:Int)==12) _ _) _ _
   have Wk:=(lU.dir sY).2.2.2
   by_cases lO:(ak (J I v.2.1 gl)).length=12
   ·rw [show(((ak (J I v.2.1 gl)).length:Int)==12)=true by rw [lO];rfl,decide_eq_true (by omega)]
    exact br.no 28 (by decide) rfl rfl
   ·rw [show(((ak (J I v.2.1 gl)).length:Int)==12)=false by rw [beq_eq_false_iff_ne];omega,decide_eq_false (show ¬((ak (J I v.2.1 gl)).length:Int)≥12 by omega)]
    exact hfin fun _=>by omega
 ·
  obtain ⟨eU,kx⟩:=n8.resolve_left pr
  have NY:=bZ kx
  have p1:0<bn t:=by
   have h1:=hv.ids eU NY.1
   have h2:aY (J I v.2.1 eU)=bn t:=NY.2
   omega
  rw [b4 pr,decide_eq_true (show bn t>0 from p1)]
  simp only [Bool.not_false,cond_true]
  rw [ahV v c x _ t hl hc ki kx,ik v _ hl kx]
  simp only [av]
  rw [Gf c _ _ hc]
  simp only [av]
  unfold NS
  cases nZ c (J I v.2.1 gl) (J I v.2.1 eU) with
  | false=>exact br.no 1 (by decide) rfl rfl
  | true =>
  simp only [Bool.not_true,cond_false]
  have ah3:(gB (q+4)).oJ v (0,([]:List I.D),()) (0,([]:aF),()) r t (J I v.2.1 j) v (J I v.2.1 eU)=cond (kindOf (J I v.2.1 j)==2) (cond (decide (((ak (J I v.2.1 eU)).length:Int)>0)) (some (v,(39,[],()),())) (Option.bind (nF (v,cc t,nameOf t,())) fun v2=>(gB (q+2)).mJ v (0,([]:List I.D),()) (0,([]:aF),()) r t v2.1))
    (cond (kindOf (J I v.2.1 eU)==2) (some (v,(21,[],()),())) (Option.bind (nF (v,cc t,nameOf t,())) fun v2=>(gB (q+2)).mJ v (0,([]:List I.D),()) (0,([]:aF),()) r t v2.1)):=by
   rw [ahQ]
   unfold Ke
   rw [ahP]
   unfold Kg
   show cond (kindOf (J I v.2.1 j)==2) (cond (decide (((ak (J I v.2.1 eU)).length:Int)>0)) _ (cond (!(kindOf (J I v.2.1 j)==2)) (cond (kindOf (J I v.2.1 eU)==2) _ _) _)) (cond (!(kindOf (J I v.2.1 j)==2)) (cond (kindOf (J I v.2.1 eU)==2) _ _) _)=_
   cases kindOf (J I v.2.1 j)==2 <;> rfl
  rw [ah3]
  have hfin:ak (J I v.2.1 eU)=[]→(kindOf (J I v.2.1 j)=2↔kindOf (J I v.2.1 eU)=2)→br v c x (Option.bind (oU ((v,c,x,()),cc t,nameOf t,true,())) fun v2=>(ja (q+3)).oW v2.1 r t) (Option.bind (nF (v,cc t,nameOf t,())) fun v2=>(gB (q+2)).mJ v (0,([]:List I.D),()) (0,([]:aF),()) r t v2.1) (xQ v c x):=by
   intro nf hkk
   rw [ND v c x _ _ true hl cf.cG ki,GG v _ _ hl cf.cG ki lU.sorted]
   simp only [av,cond_true]
   obtain ⟨hst,GN⟩:=WD hv NV.1 sY (nameOf t)
   rw [AQ] at GN
   have ah4:cc r≠bn t:=by
    intro he
    rw [he,kx] at o5
    have:eU=hY:=aS o5
    subst this
    obtain ⟨e,h1,_,_⟩:=pZ (N:=ak (J I v.2.1 eU)) (s:=nameOf r) (by rw [vw];exact kg)
    rw [nf] at h1;simp at h1
   have ah5:cc t≠bn t:=by
    intro he
    rw [he,kx] at ki
    have:eU=gl:=aS ki
    subst this
    obtain ⟨e,h1,_,_⟩:=pZ (N:=ak (J I v.2.1 eU)) (s:=nameOf t) (by rw [AQ];exact pr)
    rw [nf] at h1;simp at h1
   obtain ⟨ir,WJ,n7⟩:=GN _ ah4 _ o5
   obtain ⟨it,jf,p7⟩:=GN _ ah5 _ ki
   obtain ⟨alL,iM,_⟩:=GN _ (Ne.symm nr) _ hj
   rw [if_pos rfl] at p7
   have ah6:ir=it→hY=gl:=by
    rintro rfl
    have h1:=(bZ WJ).2
    have h2:=(bZ jf).2
    rw [h1] at h2
    rw [h2,ki] at o5
    exact(aS o5).symm
   have hpre:sW (iL v gl (nameOf t)).2.1 (cc r) (cc t) ir it (nameOf r) (nameOf t) (bn r):=by
    refine⟨hst,WJ,jf,?_,?_,?_,?_,?_,by omega,by rw [iM];rfl,?_,fun e=>hne (ah6 e)⟩
    ·rw [n7];split
     ·exact sY
     ·exact WH
    ·rw [p7];exact sY
    ·rw [n7];split
     ·rw [hp];exact vv lU.sorted _
     ·exact WI.sorted
    ·rw [p7,hp];exact vv lU.sorted _
    ·rw [n7];split
     ·rename_i he
      subst he
      rw [hp]
      obtain ⟨e,h1,h2,h3⟩:=pZ (N:=ak (J I v.2.1 gl)) (s:=nameOf r) (by rw [vw];exact kg)
      have hm:e∈b8 (ak (J I v.2.1 gl)) (nameOf t):=List.mem_filter.2 ⟨h1,by unfold bs;rw [h2];simpa using hne rfl⟩
      have:=AM (vv lU.sorted (nameOf t)) hm
      rw [h2,h3,vw] at this
      exact this
     ·exact vw
    ·rw [p7,hp];exact ahH
   show br v c x ((ja (q+3)).oW ((v.1,(iL v gl (nameOf t)).2.1,()),c,x,()) r t) ((gB (q+2)).mJ v (0,([]:List I.D),()) (0,([]:aF),()) r t (v.1,(iL v gl (nameOf t)).2.1,())) _
   have h1:=WA (n:=v.1) c x r t hpre (q+2)
   have h2:=WB (n:=v.1) v (0,([]:List I.D),()) (0,([]:aF),()) r t hpre (q+1)
   exact⟨_,_,h1,h2,fun h=>⟨r,t,j,hr,b3,p5,hj,ht,htn,NU,⟨fG,GM⟩,.inr ⟨nr,mo,_,ir,it,hpre,rfl,h,.inr ⟨gl,eU,ki,sY,kx,nf,AQ,hkk,rfl⟩⟩⟩⟩
  by_cases hk:kindOf (J I v.2.1 j)=2
  ·rw [cF hk]
   simp only [cond_true]
   by_cases hk2:kindOf (J I v.2.1 eU)=2
   ·rw [dq hk2]
    simp only [cond_false]
    by_cases nf:ak (J I v.2.1 eU)=[]
    ·rw [nf,show decide ((([]:List ax.D).length:Int)>0)=false from rfl]
     exact hfin nf ⟨fun _=>hk2,fun _=>hk⟩
    ·have aht:0<(ak (J I v.2.1 eU)).length:=List.length_pos_iff.2 nf
     rw [decide_eq_true (by omega)]
     exact br.no 39 (by decide) rfl rfl
   ·rw [cI hk2]
    exact br.no 20 (by decide) rfl rfl
  ·rw [b4 hk]
   simp only [cond_false]
   by_cases hk2:kindOf (J I v.2.1 eU)=2
   ·rw [cF hk2]
    exact br.no 21 (by decide) rfl rfl
   ·rw [b4 hk2]
    exact hfin ((hv.ino eU NY.1).plain hk2).2.2 ⟨fun h=>absurd h hk,fun h=>absurd h hk2⟩
theorem sZ(v:af.D)(c:aI.D)(x:aH.D)(bl:Bool)(hw:n0 v.2.1)(hc:dd c=true)(au:(ew x).length≤1048576) :
  ∃r,sP bl v.2.1 r∧dX (v,c,ew x,bl,())=some (r,())∧(bG r≠0→mM ((v,c,x,()),bl,())=some (-1,bG r,(v,c,x,()),())) ∧
   (bG r=0→∃i,ba v.2.1 (bn r)=some i∧mM ((v,c,x,()),bl,())=some ((i:Int),0,(v,c,x,()),())):=by
 obtain ⟨r,h1,h2,h3⟩:=Aw v c x (ew x) bl hw hc au
 have eY:mM ((v,c,x,()),bl,())=cond (bG r != 0) (some (-1,bG r,(v,c,x,()),())) (Option.bind (xi (v,bn r,())) fun v2=>some (v2.1,0,(v2.2.1,c,x,()),())):=by
  show Ly (v,c,x,()) bl=_
  unfold Ly
  show Option.bind (k_ ((v,c,x,()),ew x,bl,())) _=_
  rw [h2];rfl
 refine⟨r,h1,h3,fun h0=>by rw [eY,cI h0];rfl,fun h0=>?_⟩
 obtain ⟨i,hi⟩:=h1.1.there h0
 refine⟨i,hi,?_⟩
 rw [eY,dq h0,Nj v _ hw.len,hi];rfl
def gO(n:Nat):aF:=List.replicate n 0
def kM(s:aF)(n:Nat):aF:=(s++gO (n-s.length)).take n
def ln(s:aF)(at_:Nat)(d:aF):aF:=kM s at_++d++s.drop (at_+d.length)
theorem p8(s:aF)(n:Nat):(kM s n).length=n:=by unfold kM gO;rw [List.length_take,List.length_append,List.length_replicate];omega
theorem WK:∀n,Lib.repeatL [0] n=gO n
 | 0=>rfl
 | n+1=>by rw [Lib.repeatL,WK n];rfl
theorem ah7(s:aF)(n:Nat)(hs:s.length≤1048576)(hn:n≤1048576):E' (s,(n:Int),())=some (kM s n,()):=by
 show LB s (n:Int)=_
 unfold LB kM
 by_cases h:n≤s.length
 ·rw [decide_eq_true (show(s.length:Int)≥(n:Int) by omega)]
  simp only [cond_true]
  show Option.bind (d' s.length ((0:Nat):Int) (n:Int)) _=_
  rw [kp (by omega) h]
  simp only [av,Nat.sub_zero]
  rw [Ai,show n-s.length=0 by omega]
  simp [gO]
 ·rw [decide_eq_false (show ¬(s.length:Int)≥(n:Int) by omega)]
  simp only [cond_false]
  show Option.bind (repF [0] (aK ((n:Int)-(s.length:Int)))) _=_
  rw [show aK ((n:Int)-(s.length:Int))=((n-s.length:Nat):Int) by rw [eh (by omega) (by omega)];omega]
  unfold repF
  rw [if_pos ⟨by omega,by omega,by simp;omega⟩,Int.toNat_natCast,WK]
  simp only [av]
  rw [cH (by unfold gO;rw [List.length_replicate];omega)]
  simp only [cond_true]
  rw [List.take_of_length_le (by unfold gO;rw [List.length_append,List.length_replicate];omega)]
theorem WL(t:aF):gF (ez t)=t:=by
 unfold gF ez
 rw [List.map_map]
 conv=>rhs;rw [← List.map_id t]
 refine List.map_congr_left fun b _=>?_
 simp
theorem GO(t:aF):(ez t).length=t.length:=by unfold ez;simp
theorem ah8(t:aF):ez t++[0]=ez (t++[0]):=by unfold ez;simp
theorem ah9(t:aF)(i:Nat)(b:UInt8):(ez t).set i (b.toNat:Int)=ez (t.set i b):=by unfold ez;rw [List.map_set]
theorem WM(s:aF)(at_:Nat)(d:aF)(hs:s.length≤1048576)(ha:at_≤1048576)(ag:d.length≤1048576) :
  sc (s,(at_:Int),d,())=some ((s++gO (at_+d.length-s.length)).take at_++d++(s++gO (at_+d.length-s.length)).drop (at_+d.length),()):=by
 show Dz (nG aQ) s (at_:Int) d=_
 unfold Dz
 have hw:aK ((at_:Int) +(d.length:Int))=((at_+d.length:Nat):Int):=by rw [eh (by omega) (by omega)];omega
 generalize ht:s++gO (at_+d.length-s.length)=t
 have rR:at_+d.length≤t.length∧t.length≤4194304:=by rw [← ht];unfold gO;rw [List.length_append,List.length_replicate];omega
 have a7:∀(r i:Nat),i+r=d.length→bV (fun m=>(nG m).bw (at_:Int) d (i:Int) (ez (t.take at_++d.take i++t.drop (at_+i)))) (r+1) (some (t.take at_++d++t.drop (at_+d.length),())):=by
  intro r
  induction r with
  | zero =>
   intro i hi
   refine bV.now 1 fun m=>?_
   show zw (nG m) _ _ _ _=_
   unfold zw
   rw [cT (by omega)]
   simp only [cond_false]
   rw [WL,show i=d.length by omega,List.take_length]
  | succ r ih =>
   intro i hi
   have cA:i<d.length:=by omega
   refine((ih (i+1) (by omega)).jump (f:=fun m=>(nG m).bw (at_:Int) d (i:Int) (ez (t.take at_++d.take i++t.drop (at_+i)))) 1 fun m=>?_).mono (by omega)
   show zw (nG m) _ _ _ _=_
   unfold zw
   rw [cq cA,bC cA]
   simp only [cond_true,av]
   have AP:(t.take at_++d.take i).length=at_+i:=by rw [List.length_append,List.length_take,List.length_take];omega
   have hlen:at_+i<(ez (t.take at_++d.take i++t.drop (at_+i))).length:=by
    rw [GO,List.length_append,AP,List.length_drop];omega
   rw [show aK ((at_:Int) +(i:Int))=((at_+i:Nat):Int) by rw [eh (by omega) (by omega)];omega,bC hlen]
   simp only [av,Nat.zero_add]
   unfold Sa
   rw [dg i (by omega),ah9]
   congr 2
   rw [xN (show at_+i<t.length by omega),List.set_append_right _ _ (by rw [AP];omega),AP,Nat.sub_self,List.set_cons_zero,List.take_succ_eq_append_getElem cA,List.getD_eq_getElem?_getD,List.getElem?_eq_getElem cA,show at_ +(i+1)=at_+i+1 by omega]
   simp only [List.append_assoc,List.singleton_append,List.cons_append,List.nil_append,Option.getD_some]
 have h2:∀(r k:Nat),k+r=at_+d.length-s.length→bV (fun m=>(nG m).k2 (at_:Int) d (ez (s++gO k))) (r+d.length+3) (some (t.take at_++d++t.drop (at_+d.length),())):=by
  intro r
  induction r with
  | zero =>
   intro k hk
   have hk:k=at_+d.length-s.length:=by omega
   subst hk
   rw [ht]
   have:=a7 d.length 0 (by omega)
   rw [List.take_zero,List.append_nil,Nat.add_zero,List.take_append_drop] at this
   refine(this.jump (f:=fun m=>(nG m).k2 (at_:Int) d (ez t)) 1 fun m=>?_).mono (by omega)
   show zv (nG m) _ _ _=_
   unfold zv
   rw [hw,GO,cT (by omega)];rfl
  | succ r ih =>
   intro k hk
   refine((ih (k+1) (by omega)).jump (f:=fun m=>(nG m).k2 (at_:Int) d (ez (s++gO k))) 1 fun m=>?_).mono (by omega)
   show zv (nG m) _ _ _=_
   unfold zv
   have hl:(ez (s++gO k)).length=s.length+k:=by rw [GO,List.length_append];unfold gO;rw [List.length_replicate]
   rw [hw,cq (by rw [hl];omega)]
   simp only [cond_true]
   rw [cH (by rw [hl];simp only [List.length_cons,List.length_nil];omega)]
   simp only [cond_true]
   rw [ah8,List.append_assoc]
   have:gO k++[0]=gO (k+1):=by unfold gO;rw [List.replicate_succ']
   rw [this]
 have:=h2 (at_+d.length-s.length) 0 (by omega)
 rw [show gO 0=[] from rfl,List.append_nil] at this
 exact kI this (by omega)
theorem put_eq(s:aF)(at_:Nat)(d:aF):(s++gO (at_+d.length-s.length)).take at_++d++(s++gO (at_+d.length-s.length)).drop (at_+d.length)=ln s at_ d:=by
 unfold ln kM
 congr 1
 ·congr 1
  rw [List.take_append,List.take_append]
  congr 1
  unfold gO
  rw [List.take_replicate,List.take_replicate]
  congr 1
  omega
 ·rw [List.drop_append]
  have:(gO (at_+d.length-s.length)).drop (at_+d.length-s.length)=[]:=List.drop_of_length_le (by unfold gO;rw [List.length_replicate];omega)
  rw [this,List.append_nil]
theorem ah_(s:aF)(at_:Nat):((s++gO (at_ +([]:aF).length-s.length)).take at_++([]:aF)++(s++gO (at_ +([]:aF).length-s.length)).drop (at_ +([]:aF).length)).take at_=kM s at_:=by
 rw [put_eq]
 unfold ln
 rw [List.append_nil,List.take_append_of_le_length (by rw [p8];omega),List.take_of_length_le (by rw [p8];omega)]
def jd(x:aJ)(d:aF):aJ:=(x.1,x.2.1,x.2.2.1,x.2.2.2.1,x.2.2.2.2.1,d,x.2.2.2.2.2.2.1,x.2.2.2.2.2.2.2.1,x.2.2.2.2.2.2.2.2.1,())
def ei(x:aH.D)(n:aJ):Int:=if az x=6 then((bA n).length:Int) else bO x
def hT(x:aH.D)(n:aJ):aF:=if az x=7 then kM (bA n) (bO x).toNat else ln (bA n) (ei x n).toNat (dA x)
structure vx(v:af.D)(c:aI.D)(x:aH.D)(w:af.D):Prop where
 out:∃r i,l4 v.2.1 r∧bG r=0∧ba v.2.1 (bn r)=some i∧kindOf (J I v.2.1 i)≠2∧kindOf (J I v.2.1 i)≠3∧may c (J I v.2.1 i) 2=true∧0≤ei x (J I v.2.1 i)∧dX (v,c,ew x,true,())=some (r,()) ∧
  ((az x≠7∧dA x=[]∧w=v)∨((az x≠7→dA x≠[])∧ei x (J I v.2.1 i) +(dA x).length≤64∧w=(v.1,v.2.1.set i (jd (J I v.2.1 i) (hT x (J I v.2.1 i))),())∧fj w.2.1=0))
theorem WN(v:af.D)(c:aI.D)(x:aH.D)(want:Int)(hw:n0 v.2.1)(hc:dd c=true)(au:(ew x).length≤1048576) :
  ∃r,sP true v.2.1 r∧dX (v,c,ew x,true,())=some (r,())∧(bG r≠0→zU ((v,c,x,()),want,())=some (-1,bG r,(v,c,x,()),())) ∧
   (bG r=0→∃i,ba v.2.1 (bn r)=some i∧zU ((v,c,x,()),want,())=cond (kindOf (J I v.2.1 i)==2) (some (-1,21,(v,c,x,()),())) (cond (!may c (J I v.2.1 i) want) (some (-1,13,(v,c,x,()),())) (some ((i:Int),0,(v,c,x,()),())))):=by
 obtain ⟨r,h1,h2,h3,h4⟩:=sZ v c x true hw hc au
 refine⟨r,h1,h2,fun h0=>?_,fun h0=>?_⟩
 ·show zT (v,c,x,()) want=_
  unfold zT
  rw [h3 h0]
  simp only [av]
  rw [cI h0];rfl
 ·obtain ⟨i,hi,a7⟩:=h4 h0
  refine⟨i,hi,?_⟩
  show zT (v,c,x,()) want=_
  unfold zT
  rw [a7]
  simp only [av]
  rw [show((0:Int) != 0)=false from rfl]
  simp only [cond_false]
  rw [bC (bZ hi).1]
  simp only [av]
  rw [Aq c _ want hc];rfl
theorem ah'(m:Nat)(a b d):(gC (m+1)).c5 a b d=LC (gC m) a b d:=rfl
theorem aia(m:Nat)(a b d):(gC (m+1)).db a b d=LD (gC m) a b d:=rfl
theorem aib(m:Nat)(a b d):(gC (m+1)).fD a b d=LF (gC m) a b d:=rfl
theorem aic(m:Nat)(a b d e f g):(j_ (m+1)).nH a b d e f g=Kh (j_ m) a b d e f g:=rfl
theorem aid(m:Nat)(a b d e):(j_ (m+1)).hL a b d e=Ki (j_ m) a b d e:=rfl
theorem bz.fF{v:af.D}(h:bz v){i:Nat}(hi:i<v.2.1.length):(bA (J I v.2.1 i)).length≤64:=by
 have:=h.ino i hi
 rcases this.kind with k | k | k
 ·exact this.file k
 ·rw [(this.dir k).1];simp
 ·have:=Au (this.l3 k).1;omega
theorem aie(v:af.D)(c:aI.D)(x:aH.D)(hv:bz v)(hc:dd c=true)(hx:im x)(hk:az x=5∨az x=6∨az x=7):br v c x (Fb ((v,c,x,()),())) (xb (v,c,x,())) (vx v c x):=by
 have cf:=hv.hy
 have hl:v.2.1.length≤1048576:=cf.len
 have au:=hx.path
 have alM:=hx.fF
 have mo:=hx.n
 obtain ⟨q,hq,h7⟩:=iI 4
 show br v c x (Fa (gC aQ) (v,c,x,())) (DA (j_ aQ) v c x) _
 unfold Fa DA
 obtain ⟨r,⟨hr,xR⟩,fG,kj,kk⟩:=WN v c x 2 cf hc (by omega)
 show br v c x _ (Option.bind (dX (v,c,ew x,true,())) _) _
 rw [fG]
 simp only [av]
 show br v c x _ (cond (bG r != 0) (some (v,(bG r,[],()),())) _) _
 by_cases b3:bG r=0
 case neg =>
  rw [kj b3,cI b3]
  simp only [av]
  rw [cI b3]
  exact br.no (bG r) b3 rfl rfl
 obtain ⟨i,hi,eY⟩:=kk b3
 have bR:=bZ hi
 rw [eY,dq b3]
 simp only [cond_false]
 show br v c x _ (Option.bind (eW (v,bn r,())) _) _
 rw [ik v _ hl hi]
 simp only [av]
 show br v c x _ (cond (kindOf (J I v.2.1 i)==2) _ _) _
 by_cases gL:kindOf (J I v.2.1 i)=2
 ·rw [cF gL]
  exact br.no 21 (by decide) rfl rfl
 rw [b4 gL]
 simp only [cond_false]
 rw [mV c _ 2 hc]
 simp only [av]
 cases hm:may c (J I v.2.1 i) 2 with
 | false=>exact br.no 13 (by decide) rfl rfl
 | true =>
 simp only [Bool.not_true,cond_false,av]
 rw [show((0:Int) != 0)=false from rfl]
 simp only [cond_false]
 have alN:=hv.fF bR.1
 have aif:cond (x.1==6) ((aO v.2.1.length (i:Int)).bind fun v2=>(gC aQ).c5 (i:Int) ((J I v.2.1 v2).2.2.2.2.2.1.length:Int) (v,c,x,())) ((gC aQ).c5 (i:Int) x.2.2.2.1 (v,c,x,()))=(gC aQ).c5 (i:Int) (ei x (J I v.2.1 i)) (v,c,x,()):=by
  rw [bC bR.1]
  unfold ei
  show cond (az x==6) _ _=_
  by_cases bg:az x=6
  ·rw [cF bg,if_pos bg];rfl
  ·rw [b4 bg,if_neg bg];rfl
 have aih:cond (x.1==6) ((j_ aQ).nH ((J I v.2.1 i).2.2.2.2.2.1.length:Int) v x (0,([]:List I.D),()) (0,([]:aF),()) (J I v.2.1 i)) ((j_ aQ).nH x.2.2.2.1 v x (0,([]:List I.D),()) (0,([]:aF),()) (J I v.2.1 i))=(j_ aQ).nH (ei x (J I v.2.1 i)) v x (0,([]:List I.D),()) (0,([]:aF),()) (J I v.2.1 i):=by
  unfold ei
  show cond (az x==6) _ _=_
  by_cases bg:az x=6
  ·rw [cF bg,if_pos bg];rfl
  ·rw [b4 bg,if_neg bg];rfl
 show br v c x (cond (x.1==6) ((aO v.2.1.length (i:Int)).bind fun v2=>(gC aQ).c5 (i:Int) ((J I v.2.1 v2).2.2.2.2.2.1.length:Int) (v,c,x,())) ((gC aQ).c5 (i:Int) x.2.2.2.1 (v,c,x,())))
  (cond (x.1==6) ((j_ aQ).nH ((J I v.2.1 i).2.2.2.2.2.1.length:Int) v x (0,([]:List I.D),()) (0,([]:aF),()) (J I v.2.1 i)) ((j_ aQ).nH x.2.2.2.1 v x (0,([]:List I.D),()) (0,([]:aF),()) (J I v.2.1 i))) _
 rw [aif,aih,hq,ah',aic]
 unfold LC Kh
 by_cases BE:ei x (J I v.2.1 i)<0
 ·rw [decide_eq_true BE]
  exact br.no 22 (by decide) rfl rfl
 rw [decide_eq_false BE]
 simp only [cond_false]
 obtain ⟨a,ha⟩:∃a:Nat,ei x (J I v.2.1 i)=a:=⟨(ei x (J I v.2.1 i)).toNat,by omega⟩
 have alO:a≤1000000:=by
  have:ei x (J I v.2.1 i)≤1000000:=by
   unfold ei
   split
   ·omega
   ·exact mo.2
  omega
 show br v c x (cond (!(az x==7)) (cond (bs (dA x) []) (some (0,(v,c,x,()),())) ((gC (q+3)).db (i:Int) (ei x (J I v.2.1 i)) (v,c,x,()))) ((gC (q+3)).db (i:Int) (ei x (J I v.2.1 i)) (v,c,x,())))
  (cond (az x==7) (cond (decide (ei x (J I v.2.1 i)>64)) (some (v,(27,[],()),())) (Option.bind (sc (bA (J I v.2.1 i),ei x (J I v.2.1 i),[],())) fun v1=>Option.bind (d' v1.1.length 0 (ei x (J I v.2.1 i))) fun v2=>(j_ (q+3)).hL v (0,([]:List I.D),()) (0,([]:aF),()) (jd (J I v.2.1 i) (part v1.1 v2.1 (v2.2-v2.1)))))
   (cond (bs (dA x) []) (some (v,(0,[],()),())) (cond (decide (ei x (J I v.2.1 i)>aK (64-((dA x).length:Int)))) (some (v,(27,[],()),())) (Option.bind (sc (bA (J I v.2.1 i),ei x (J I v.2.1 i),dA x,())) fun v3=>(j_ (q+3)).hL v (0,([]:List I.D),()) (0,([]:aF),()) (jd (J I v.2.1 i) v3.1))))) _
 have NZ:az x≠7→dA x=[]→vx v c x v:=fun bH ag=>⟨r,i,hr,b3,hi,gL,xR rfl b3 i hi,hm,by omega,fG,.inl ⟨bH,ag,rfl⟩⟩
 by_cases p9:az x≠7∧dA x=[]
 ·rw [b4 p9.1,m2.2 p9.2]
  exact⟨0,v,rfl,rfl,fun _=>NZ p9.1 p9.2⟩
 have aii:cond (!(az x==7)) (cond (bs (dA x) []) (some (0,(v,c,x,()),())) ((gC (q+3)).db (i:Int) (ei x (J I v.2.1 i)) (v,c,x,()))) ((gC (q+3)).db (i:Int) (ei x (J I v.2.1 i)) (v,c,x,()))=(gC (q+3)).db (i:Int) (ei x (J I v.2.1 i)) (v,c,x,()):=by
  by_cases bH:az x=7
  ·rw [cF bH];rfl
  ·rw [b4 bH]
   have:bs (dA x) []=false:=by rw [← Bool.not_eq_true,m2];exact fun h=>p9 ⟨bH,h⟩
   rw [this];rfl
 rw [aii,aia]
 unfold LD
 show br v c x (cond (decide (aK (ei x (J I v.2.1 i) +((dA x).length:Int))>64)) _ _) _ _
 have WO:az x=7→dA x=[]:=fun bH=>hx.Wi.elim id fun h=>by omega
 have aij:aK (ei x (J I v.2.1 i) +((dA x).length:Int))=((a +(dA x).length:Nat):Int):=by rw [ha,eh (by omega) (by omega)];omega
 rw [aij]
 by_cases GP:a +(dA x).length>64
 ·rw [decide_eq_true (by omega)]
  have:cond (az x==7) (cond (decide (ei x (J I v.2.1 i)>64)) (some (v,((27:Int),([]:aF),()),())) (Option.bind (sc (bA (J I v.2.1 i),ei x (J I v.2.1 i),[],())) fun v1=>Option.bind (d' v1.1.length 0 (ei x (J I v.2.1 i))) fun v2=>(j_ (q+3)).hL v (0,([]:List I.D),()) (0,([]:aF),()) (jd (J I v.2.1 i) (part v1.1 v2.1 (v2.2-v2.1)))))
   (cond (bs (dA x) []) (some (v,(0,[],()),())) (cond (decide (ei x (J I v.2.1 i)>aK (64-((dA x).length:Int)))) (some (v,(27,[],()),())) (Option.bind (sc (bA (J I v.2.1 i),ei x (J I v.2.1 i),dA x,())) fun v3=>(j_ (q+3)).hL v (0,([]:List I.D),()) (0,([]:aF),()) (jd (J I v.2.1 i) v3.1))))=some (v,(27,[],()),()):=by
   by_cases bH:az x=7
   ·have h0:=WO bH
    rw [h0] at GP
    simp only [List.length_nil] at GP
    rw [cF bH,decide_eq_true (show ei x (J I v.2.1 i)>64 by omega)];rfl
   ·rw [b4 bH]
    have h0:bs (dA x) []=false:=by rw [← Bool.not_eq_true,m2];exact fun h=>p9 ⟨bH,h⟩
    rw [h0,show aK (64-((dA x).length:Int))=64-((dA x).length:Int) from eh (by omega) (by omega),decide_eq_true (show ei x (J I v.2.1 i)>64-((dA x).length:Int) by omega)];rfl
  rw [this]
  exact br.no 27 (by decide) rfl rfl
 rw [decide_eq_false (by omega)]
 simp only [cond_false]
 obtain ⟨w,hw⟩:∃w:af.D,w=(v.1,v.2.1.set i (jd (J I v.2.1 i) (hT x (J I v.2.1 i))),()):=⟨_,rfl⟩
 have hnl:(hT x (J I v.2.1 i)).length≤200:=by
  have hf:∀s n,(kM s n).length=n:=p8
  unfold hT ln
  rw [ha,Int.toNat_natCast]
  split
  ·rename_i bH
   have:ei x (J I v.2.1 i)=bO x:=by unfold ei;rw [if_neg (by omega)]
   rw [hf];omega
  ·rw [List.length_append,List.length_append,hf,List.length_drop];omega
 have hst:an 1000 w.2.1:=by
  rw [hw]
  exact(hv.st.set (k:=200) (i:=i) (y:=jd (J I v.2.1 i) (hT x (J I v.2.1 i))) bR.1 rfl (fun d ag=>hv.gN i bR.1 d ag) (fun eo=>hv.st.bare i bR.1 eo) (Nat.le_add_right _ _) (by
   show(hT x (J I v.2.1 i)).length≤_
   omega)).mono (by omega)
 have hwr:fj w.2.1=0→vx v c x w:=fun hf=>⟨r,i,hr,b3,hi,gL,xR rfl b3 i hi,hm,by omega,fG,.inr ⟨fun bH h=>p9 ⟨bH,h⟩,by omega,hw,hf⟩⟩
 have AI:∀m,(gC (m+1)).fD (i:Int) (hT x (J I v.2.1 i)) (v,c,x,())=some (fj w.2.1,(w,c,x,()),()):=by
  intro m
  rw [aib]
  unfold LF
  show Option.bind (aO v.2.1.length (i:Int)) _=_
  rw [bC bR.1]
  show Option.bind (nO (((v.1,v.2.1.set i (jd (J I v.2.1 i) (hT x (J I v.2.1 i))),()),c,x,()),())) (fun v3=>some (v3.1,((v.1,v.2.1.set i (jd (J I v.2.1 i) (hT x (J I v.2.1 i))),()),c,x,()),()))=_
  rw [← hw,Az w c x hst (by omega)];rfl
 have WQ:∀m,(j_ (m+1)).hL v (0,([]:List I.D),()) (0,([]:aF),()) (jd (J I v.2.1 i) (hT x (J I v.2.1 i)))=some (cond (fj w.2.1==0) w v,(fj w.2.1,[],()),()):=by
  intro m
  rw [aid]
  unfold Ki
  rw [vn v hl (fun i hi=>Nat.le_trans (fO hi) cf.cG)]
  simp only [av]
  rw [Gz v _ hl (show ba v.2.1 (jd (J I v.2.1 i) (hT x (J I v.2.1 i))).1=some i from(show(J I v.2.1 i).1=bn r from bR.2) ▸ hi),← hw]
  simp only [av]
  rw [AA v w hst (by omega)];rfl
 have aik:(cond (decide (((bA (J I v.2.1 i)).length:Int) >((kM (bA (J I v.2.1 i)) a++dA x).length:Int)))
   ((d' (bA (J I v.2.1 i)).length ((kM (bA (J I v.2.1 i)) a++dA x).length:Int) ((bA (J I v.2.1 i)).length:Int)).bind fun v5=>cond (room ((kM (bA (J I v.2.1 i)) a++dA x).length +(part (bA (J I v.2.1 i)) v5.1 (v5.2-v5.1)).length))
    ((gC (q+2)).fD (i:Int) ((kM (bA (J I v.2.1 i)) a++dA x)++part (bA (J I v.2.1 i)) v5.1 (v5.2-v5.1)) (v,c,x,())) none)
   ((gC (q+2)).fD (i:Int) (kM (bA (J I v.2.1 i)) a++dA x) (v,c,x,())))=(gC (q+2)).fD (i:Int) (ln (bA (J I v.2.1 i)) a (dA x)) (v,c,x,()):=by
  have h9:(kM (bA (J I v.2.1 i)) a++dA x).length=a +(dA x).length:=by rw [List.length_append,p8]
  rw [h9]
  unfold ln
  by_cases p7:(bA (J I v.2.1 i)).length>a +(dA x).length
  ·rw [decide_eq_true (by omega)]
   simp only [cond_true]
   rw [kp (by omega) (Nat.le_refl _)]
   simp only [av]
   rw [MS,cH (by rw [List.length_drop];omega)];rfl
  ·rw [decide_eq_false (by omega)]
   simp only [cond_false]
   rw [List.drop_of_length_le (by omega),List.append_nil]
 show br v c x (Option.bind (aO v.2.1.length (i:Int)) fun v1=>Option.bind (E' (bA (J I v.2.1 v1),ei x (J I v.2.1 i),())) fun v2=>cond (!(az x==7)) (cond (room (v2.1.length +(dA x).length)) (Option.bind (aO v.2.1.length (i:Int)) fun v3=>cond (decide (((bA (J I v.2.1 v3)).length:Int) >((v2.1++dA x).length:Int)))
   (Option.bind (aO v.2.1.length (i:Int)) fun v4=>(d' (bA (J I v.2.1 v4)).length ((v2.1++dA x).length:Int) ((bA (J I v.2.1 v4)).length:Int)).bind fun v5=>cond (room ((v2.1++dA x).length +(part (bA (J I v.2.1 v4)) v5.1 (v5.2-v5.1)).length))
    ((gC (q+2)).fD (i:Int) ((v2.1++dA x)++part (bA (J I v.2.1 v4)) v5.1 (v5.2-v5.1)) (v,c,x,())) none)
   ((gC (q+2)).fD (i:Int) (v2.1++dA x) (v,c,x,()))) none) ((gC (q+2)).fD (i:Int) v2.1 (v,c,x,()))) _ _
 rw [bC bR.1,ha]
 simp only [av]
 rw [ah7 _ _ (by omega) (by omega)]
 simp only [av]
 rw [cH (by rw [p8];omega)]
 simp only [cond_true]
 rw [aik]
 by_cases bH:az x=7
 ·have tP:=WO bH
  have gZ:hT x (J I v.2.1 i)=kM (bA (J I v.2.1 i)) a:=by
   unfold hT
   rw [if_pos bH]
   have:ei x (J I v.2.1 i)=bO x:=by unfold ei;rw [if_neg (by omega)]
   rw [← this,ha,Int.toNat_natCast]
  rw [cF bH]
  rw [tP] at GP
  simp only [List.length_nil] at GP
  rw [decide_eq_false (show ¬((a:Int)>64) by omega)]
  simp only [Bool.not_true,cond_false,cond_true]
  rw [WM _ _ _ (by omega) (by omega) (by simp)]
  simp only [av]
  rw [put_eq]
  show br v c x _ (Option.bind (d' (ln (bA (J I v.2.1 i)) a []).length ((0:Nat):Int) (a:Int)) _) _
  rw [kp (by omega) (by unfold ln;rw [List.length_append,List.length_append,p8];omega)]
  simp only [av,Nat.sub_zero]
  have mi:part (ln (bA (J I v.2.1 i)) a []) 0 a=hT x (J I v.2.1 i):=by
   rw [Ai,gZ,← ah_,put_eq]
  rw [mi,← gZ,AI (q+1),WQ (q+2)]
  exact⟨_,_,rfl,rfl,hwr⟩
 ·have gZ:hT x (J I v.2.1 i)=ln (bA (J I v.2.1 i)) a (dA x):=by
   unfold hT
   rw [if_neg bH,ha,Int.toNat_natCast]
  rw [b4 bH]
  have h0:bs (dA x) []=false:=by rw [← Bool.not_eq_true,m2];exact fun h=>p9 ⟨bH,h⟩
  rw [h0,show aK (64-((dA x).length:Int))=64-((dA x).length:Int) from eh (by omega) (by omega),decide_eq_false (show ¬((a:Int)>64-((dA x).length:Int)) by omega)]
  simp only [Bool.not_false,cond_true,cond_false]
  rw [WM _ _ _ (by omega) (by omega) (by omega)]
  simp only [av]
  rw [put_eq,← gZ,AI (q+1),WQ (q+2)]
  exact⟨_,_,rfl,rfl,hwr⟩
theorem WR(l:List aJ):bytesOf l=((List.range l.length).map fun i=>(bA (J I l i)).length).sum:=by
 unfold bytesOf
 congr 1
 refine List.ext_getElem (by simp) fun i h1 h2=>?_
 simp only [List.length_map] at h1
 rw [List.getElem_map,List.getElem_map,List.getElem_range,c7 h1]
structure Alike(l l':List aJ):Prop where
 len:l'.length=l.length
 id:∀i,(J I l' i).1=(J I l i).1
 fF:∀i,bA (J I l' i)=bA (J I l i)
 cG:∀i,ak (J I l' i)=ak (J I l i)
theorem Alike.ba{l l':List aJ}(h:Alike l l'):kA.ba l'=kA.ba l:=by
 funext id
 unfold kA.ba
 rw [h.len]
 refine Wc fun i _=>?_
 rw [h.id]
theorem Alike.below{l l':List aJ}(h:Alike l l'):dP l'=dP l:=by
 have e1:ju l'=ju l:=by
  funext i j s
  unfold ju
  rw [h.ba,h.cG]
 have e2:iJ l'=iJ l:=by
  funext i s
  unfold iJ
  rw [e1,h.cG]
 have e3:fw l'=fw l:=by
  funext s
  unfold fw
  rw [e2,h.len]
 funext id
 unfold dP
 rw [h.ba,h.len,e3]
theorem Alike.ail{l l':List aJ}(h:Alike l l')(x bD:aJ)(h1:bD.1=x.1)(h2:eP bD=eP x)(h3:eD bD=eD x):ij l' bD=ij l x:=by
 have e1:jv l'=jv l:=by
  funext F
  unfold jv o3 dl
  rw [h.len]
  congr 2
  funext i
  rw [h.fF]
 have e2:jR l'=jR l:=by
  funext F
  unfold jR o3
  rw [h.len]
 unfold ij
 rw [e1,e2,h.below,h1,h2,h3]
theorem Alike.fits{l l':List aJ}(h:Alike l l')(hb:∀i,eP (J I l' i)=eP (J I l i))(hi:∀i,eD (J I l' i)=eD (J I l i)):fj l'=fj l:=by
 have e1:bytesOf l'=bytesOf l:=by
  rw [WR,WR,h.len]
  congr 2
  funext i
  rw [h.fF]
 have e2:gr l'=gr l:=by
  unfold gr
  rw [h.len]
  congr 2
  funext i
  rw [h.ail (J I l i) (J I l' i) (h.id i) (hb i) (hi i)]
 unfold fj
 rw [e1,e2]
theorem aim{l:List aJ}{i:Nat}{y:aJ}(hi:i<l.length)(h1:y.1=(J I l i).1)(h2:bA y=bA (J I l i))(h3:ak y=ak (J I l i)):Alike l (l.set i y):=by
 refine⟨List.length_set,fun j=>?_,fun j=>?_,fun j=>?_⟩ <;>
  ·rw [gv hi]
   split
   ·rename_i he;subst he;assumption
   ·rfl
def je(x:aJ)(m u g:Int):aJ:=(x.1,x.2.1,m,u,g,x.2.2.2.2.2.1,x.2.2.2.2.2.2.1,x.2.2.2.2.2.2.2.1,x.2.2.2.2.2.2.2.2.1,())
theorem WS(x:aJ)(m u g:Int):(je x m u g).1=x.1:=rfl
theorem GQ{v:af.D}(hv:bz v){i:Nat}(hi:i<v.2.1.length)(m u g:Int):fj (v.2.1.set i (je (J I v.2.1 i) m u g))=0:=by
 have ha:Alike v.2.1 (v.2.1.set i (je (J I v.2.1 i) m u g)):=aim hi rfl rfl rfl
 rw [ha.fits (fun j=>by
  rw [gv hi]
  split
  ·rename_i he;subst he;rfl
  ·rfl) (fun j=>by
  rw [gv hi]
  split
  ·rename_i he;subst he;rfl
  ·rfl)]
 unfold fj
 rw [decide_eq_false (by have:=hv.bytes;omega),hv.over];rfl
theorem WT{v:af.D}(hv:bz v){i:Nat}(hi:i<v.2.1.length)(m u g:Int):an 1000 (v.2.1.set i (je (J I v.2.1 i) m u g)) :=
 (hv.st.set (k:=1) (i:=i) (y:=je (J I v.2.1 i) m u g) hi rfl (fun d ag=>hv.gN i hi d ag) (fun hk=>hv.st.bare i hi hk) (Nat.le_add_right _ _) (Nat.le_add_right _ _)).mono (by omega)
def andNot(a b:Int):Int:=cQ .andNot .i64 a b
def ri(c:aI.D)(x:aH.D)(n:aJ):Int:=if c.1≠0∧mU c (fi n)=false then andNot (bO x) 1024 else bO x
theorem AR(m:Nat)(a b d e f g):(hM (m+1)).dI a b d e f g=zx (hM m) a b d e f g:=rfl
theorem N0(m:Nat)(a b d e f):(hM (m+1)).nH a b d e f=zy (hM m) a b d e f:=rfl
theorem ain(m:Nat)(a b d e f g):(hM (m+1)).pN a b d e f g=Kj (hM m) a b d e f g:=rfl
theorem aio(m:Nat)(a b d e):(hM (m+1)).fZ a b d e=Kk (hM m) a b d e:=rfl
theorem N1{v:af.D}(hv:bz v)(z:af.D)(jG:aG.D){i:Nat}(hi:i<v.2.1.length)(n:aJ)(hn:n.1=(J I v.2.1 i).1)(hst:an 1000 (v.2.1.set i n))(m:Nat) :
  (hM (m+1)).fZ v z jG n=some (cond (fj (v.2.1.set i n)==0) (v.1,v.2.1.set i n,()) v,(fj (v.2.1.set i n),[],()),()):=by
 have cf:=hv.hy
 rw [aio]
 unfold Kk
 rw [vn v cf.len (fun i hi=>Nat.le_trans (fO hi) cf.cG)]
 simp only [av]
 rw [Gz v n cf.len (show ba v.2.1 n.1=some i from hn ▸ hv.fR i hi)]
 simp only [av]
 rw [AA v (v.1,v.2.1.set i n,()) hst (by omega)];rfl
structure AS(v:af.D)(c:aI.D)(x:aH.D)(w:af.D):Prop where
 out:0≤bO x∧bO x≤2047∧∃r i,l4 v.2.1 r∧bG r=0∧ba v.2.1 (bn r)=some i∧kindOf (J I v.2.1 i)≠3∧(c.1≠0→c.1=et (J I v.2.1 i)) ∧
  w=(v.1,v.2.1.set i (je (J I v.2.1 i) (ri c x (J I v.2.1 i)) (et (J I v.2.1 i)) (fi (J I v.2.1 i))),())
theorem aip(v:af.D)(c:aI.D)(x:aH.D)(hv:bz v)(hc:dd c=true)(hx:im x)(hk:az x=15):br v c x (Fq ((v,c,x,()),())) (se (v,c,x,())) (AS v c x):=by
 have cf:=hv.hy
 have hl:v.2.1.length≤1048576:=cf.len
 have au:=hx.path
 obtain ⟨q,hq,h7⟩:=iI 4
 show br v c x (Fp (q4 aQ) (v,c,x,())) (sd (hM aQ) v c x) _
 unfold Fp sd
 show br v c x (Option.bind (eL (bO x,0,2047,())) _) (cond (az x==15) (Option.bind (eg (bO x,0,2047,())) _) _) _
 rw [cF hk,js,jr]
 simp only [cond_true,av]
 rw [hq,AR]
 unfold zx
 cases hN:c2 (bO x) 0 2047 with
 | false=>exact br.no 22 (by decide) rfl rfl
 | true =>
 have p6:=dN.1 hN
 simp only [Bool.not_true,cond_false]
 show br v c x _ (cond (az x==19) _ _) _
 rw [b4 (show az x≠19 by omega),N0]
 simp only [cond_false]
 unfold zy
 obtain ⟨r,⟨hr,xR⟩,fG,kj,kk⟩:=sZ v c x true cf hc (by omega)
 show br v c x _ (Option.bind (dX (v,c,ew x,true,())) _) _
 rw [fG]
 simp only [av]
 show br v c x _ (cond (bG r != 0) (some (v,(bG r,[],()),())) _) _
 by_cases b3:bG r=0
 case neg =>
  rw [kj b3,cI b3]
  simp only [av]
  rw [cI b3]
  exact br.no (bG r) b3 rfl rfl
 obtain ⟨i,hi,eY⟩:=kk b3
 have bR:=bZ hi
 rw [eY,dq b3]
 simp only [cond_false,av]
 rw [show((0:Int) != 0)=false from rfl]
 simp only [cond_false]
 show br v c x _ (Option.bind (eW (v,bn r,())) _) _
 rw [ik v _ hl hi,bC bR.1]
 simp only [av]
 show br v c x (cond (c.1 != 0) (cond (c.1 != et (J I v.2.1 i)) (some (1,(v,c,x,()),())) (q4 (q+4) (i:Int) (v,c,x,()))) (q4 (q+4) (i:Int) (v,c,x,())))
  (cond (az x==15) (cond (c.1 != 0) (cond (c.1 != et (J I v.2.1 i)) (some (v,(1,[],()),())) ((hM (q+2)).pN v c x (0,([]:List I.D),()) (0,([]:aF),()) (J I v.2.1 i))) ((hM (q+2)).pN v c x (0,([]:List I.D),()) (0,([]:aF),()) (J I v.2.1 i))) _) _
 rw [cF hk]
 simp only [cond_true]
 have hfin:(c.1≠0→c.1=et (J I v.2.1 i))→br v c x (q4 (q+4) (i:Int) (v,c,x,())) ((hM (q+2)).pN v c x (0,([]:List I.D),()) (0,([]:aF),()) (J I v.2.1 i)) (AS v c x):=by
  intro hu
  have eY:q4 (q+4) (i:Int) (v,c,x,())=some (0,((v.1,v.2.1.set i (je (J I v.2.1 i) (ri c x (J I v.2.1 i)) (et (J I v.2.1 i)) (fi (J I v.2.1 i))),()),c,x,()),()):=by
   rw [q4,LL]
   show Option.bind (aO v.2.1.length (i:Int)) (fun v1=>LK (v,c,x,()) (i:Int) (v.2.1.set v1 (je (J I v.2.1 v1) (bO x) (et (J I v.2.1 v1)) (fi (J I v.2.1 v1)))))=_
   rw [bC bR.1]
   simp only [av]
   unfold LK ri
   have aB:J I (v.2.1.set i (je (J I v.2.1 i) (bO x) (et (J I v.2.1 i)) (fi (J I v.2.1 i)))) i=je (J I v.2.1 i) (bO x) (et (J I v.2.1 i)) (fi (J I v.2.1 i)):=by rw [gv bR.1,if_pos rfl]
   have eZ:aO (v.2.1.set i (je (J I v.2.1 i) (bO x) (et (J I v.2.1 i)) (fi (J I v.2.1 i)))).length (i:Int)=some i:=bC (by rw [List.length_set];exact bR.1)
   show cond (c.1 != 0) _ _=_
   by_cases h0:c.1=0
   ·rw [dq h0,if_neg (fun h=>h.1 h0)];rfl
   ·rw [cI h0,eZ]
    simp only [cond_true,av]
    rw [aB]
    show Option.bind (u7 (c,fi (J I v.2.1 i),())) _=_
    rw [Nh c _ hc]
    simp only [av]
    cases BW:mU c (fi (J I v.2.1 i)) with
    | true=>rw [if_neg (fun h=>by cases h.2)];rfl
    | false =>
     rw [if_pos ⟨h0,rfl⟩]
     simp only [Bool.not_false,cond_true]
     unfold S_
     rw [List.set_set];rfl
  have dS:(hM (q+2)).pN v c x (0,([]:List I.D),()) (0,([]:aF),()) (J I v.2.1 i)=(hM (q+1)).fZ v (0,([]:List I.D),()) (0,([]:aF),()) (je (J I v.2.1 i) (ri c x (J I v.2.1 i)) (et (J I v.2.1 i)) (fi (J I v.2.1 i))):=by
   rw [ain]
   unfold Kj ri
   show cond (c.1 != 0) (Option.bind (uh (c,fi (J I v.2.1 i),())) _) _=_
   by_cases h0:c.1=0
   ·rw [dq h0,if_neg (fun h=>h.1 h0)];rfl
   ·rw [cI h0,Ng c _ hc]
    simp only [cond_true,av]
    cases BW:mU c (fi (J I v.2.1 i)) with
    | true=>rw [if_neg (fun h=>by cases h.2)];rfl
    | false=>rw [if_pos ⟨h0,rfl⟩];rfl
  rw [eY,dS,N1 hv _ _ bR.1 _ (WS _ _ _ _) (WT hv bR.1 _ _ _),GQ hv bR.1]
  exact⟨0,_,rfl,rfl,fun _=>⟨p6.1,p6.2,r,i,hr,b3,hi,xR rfl b3 i hi,hu,rfl⟩⟩
 by_cases h0:c.1=0
 ·rw [dq h0]
  exact hfin fun h=>absurd h0 h
 ·rw [cI h0]
  simp only [cond_true]
  by_cases hu:c.1=et (J I v.2.1 i)
  ·rw [dq hu]
   exact hfin fun _=>hu
  ·rw [cI hu]
   exact br.no 1 (by decide) rfl rfl
structure AT(v:af.D)(c:aI.D)(x:aH.D)(w:af.D):Prop where
 out:(0≤bO x∧bO x≤1000)∧(0≤dR x∧dR x≤1000)∧∃r i,l4 v.2.1 r∧bG r=0∧ba v.2.1 (bn r)=some i∧w=(v.1,v.2.1.set i (je (J I v.2.1 i) (e7 (J I v.2.1 i)) (bO x) (dR x)),())
theorem aiq(v:af.D)(c:aI.D)(x:aH.D)(hv:bz v)(hc:dd c=true)(hx:im x)(hk:az x=16):br v c x (Fu ((v,c,x,()),())) (se (v,c,x,())) (AT v c x):=by
 have cf:=hv.hy
 have hl:v.2.1.length≤1048576:=cf.len
 have au:=hx.path
 obtain ⟨q,hq,h7⟩:=iI 4
 show br v c x (Ft (q5 aQ) (v,c,x,())) (sd (hM aQ) v c x) _
 unfold Ft sd
 show br v c x (Option.bind (eL (bO x,0,1000,())) fun v1=>cond (!v1.1) _ (Option.bind (eL (dR x,0,1000,())) _)) (cond (az x==15) _ (cond (az x==16) (Option.bind (eg (bO x,0,1000,())) fun v2=>cond (!v2.1) _ (Option.bind (eg (dR x,0,1000,())) _)) _)) _
 rw [b4 (show az x≠15 by omega),cF hk]
 simp only [cond_true,cond_false]
 rw [js,jr]
 simp only [av]
 rw [hq]
 cases hN:c2 (bO x) 0 1000 with
 | false =>
  simp only [Bool.not_false,cond_true]
  rw [AR]
  exact br.no 22 (by decide) rfl rfl
 | true =>
 have p6:=dN.1 hN
 simp only [Bool.not_true,cond_false]
 rw [js,jr]
 simp only [av]
 rw [AR]
 unfold zx
 cases mB:c2 (dR x) 0 1000 with
 | false=>exact br.no 22 (by decide) rfl rfl
 | true =>
 have N2:=dN.1 mB
 simp only [Bool.not_true,cond_false]
 show br v c x _ (cond (az x==19) _ _) _
 rw [b4 (show az x≠19 by omega),N0]
 simp only [cond_false]
 unfold zy
 obtain ⟨r,⟨hr,xR⟩,fG,kj,kk⟩:=sZ v c x true cf hc (by omega)
 show br v c x _ (Option.bind (dX (v,c,ew x,true,())) _) _
 rw [fG]
 simp only [av]
 show br v c x _ (cond (bG r != 0) (some (v,(bG r,[],()),())) _) _
 by_cases b3:bG r=0
 case neg =>
  rw [kj b3,cI b3]
  simp only [av]
  rw [cI b3]
  exact br.no (bG r) b3 rfl rfl
 obtain ⟨i,hi,eY⟩:=kk b3
 have bR:=bZ hi
 rw [eY,dq b3]
 simp only [cond_false,av]
 rw [show((0:Int) != 0)=false from rfl]
 simp only [cond_false]
 show br v c x _ (Option.bind (eW (v,bn r,())) _) _
 rw [ik v _ hl hi,bC bR.1]
 simp only [av]
 show br v c x (cond (c.1 != 0) (cond (c.1 != et (J I v.2.1 i)) (some (1,(v,c,x,()),())) (cond (bO x != et (J I v.2.1 i)) (some (1,(v,c,x,()),())) (Option.bind (u7 (c,dR x,())) fun v6=>cond (!v6.1) (some (1,(v,c,x,()),())) (q5 (q+4) (i:Int) (v,c,x,()))))) (q5 (q+4) (i:Int) (v,c,x,())))
  (cond (az x==15) _ (cond (az x==16) (cond (c.1 != 0) (cond (c.1 != et (J I v.2.1 i)) (some (v,(1,[],()),())) (cond (bO x != et (J I v.2.1 i)) (some (v,(1,[],()),())) (Option.bind (uh (c,dR x,())) fun v3=>cond (!v3.1) (some (v,(1,[],()),())) ((hM (q+2)).fZ v (0,([]:List I.D),()) (0,([]:aF),()) (je (J I v.2.1 i) (e7 (J I v.2.1 i)) (bO x) (dR x))))))
   ((hM (q+2)).fZ v (0,([]:List I.D),()) (0,([]:aF),()) (je (J I v.2.1 i) (e7 (J I v.2.1 i)) (bO x) (dR x)))) _)) _
 rw [b4 (show az x≠15 by omega),cF hk,Nh c _ hc,Ng c _ hc]
 simp only [cond_true,cond_false,av]
 have hfin:br v c x (q5 (q+4) (i:Int) (v,c,x,())) ((hM (q+2)).fZ v (0,([]:List I.D),()) (0,([]:aF),()) (je (J I v.2.1 i) (e7 (J I v.2.1 i)) (bO x) (dR x))) (AT v c x):=by
  have eY:q5 (q+4) (i:Int) (v,c,x,())=some (0,((v.1,v.2.1.set i (je (J I v.2.1 i) (e7 (J I v.2.1 i)) (bO x) (dR x)),()),c,x,()),()):=by
   rw [q5,LO]
   show Option.bind (aO v.2.1.length (i:Int)) (fun v1=>LN (i:Int) (v,c,x,()) (v.2.1.set v1 (je (J I v.2.1 v1) (e7 (J I v.2.1 v1)) (bO x) (fi (J I v.2.1 v1)))))=_
   rw [bC bR.1]
   simp only [av]
   unfold LN
   rw [bC (by rw [List.length_set];exact bR.1)]
   simp only [av]
   unfold S'
   rw [List.set_set,gv bR.1,if_pos rfl];rfl
  rw [eY,N1 hv _ _ bR.1 _ (WS _ _ _ _) (WT hv bR.1 _ _ _),GQ hv bR.1]
  exact⟨0,_,rfl,rfl,fun _=>⟨p6,N2,r,i,hr,b3,hi,rfl⟩⟩
 by_cases h0:c.1=0
 ·rw [dq h0]
  exact hfin
 ·rw [cI h0]
  simp only [cond_true]
  by_cases hu:c.1=et (J I v.2.1 i)
  ·rw [dq hu]
   simp only [cond_false]
   by_cases hn:bO x=et (J I v.2.1 i)
   ·rw [dq hn]
    simp only [cond_false]
    cases mU c (dR x) with
    | false=>exact br.no 1 (by decide) rfl rfl
    | true=>exact hfin
   ·rw [cI hn]
    exact br.no 1 (by decide) rfl rfl
  ·rw [cI hu]
   exact br.no 1 (by decide) rfl rfl
def m3(x:aJ)(b k:Int):aJ:=(x.1,x.2.1,x.2.2.1,x.2.2.2.1,x.2.2.2.2.1,x.2.2.2.2.2.1,x.2.2.2.2.2.2.1,b,k,())
theorem air(x:aJ)(b k:Int):(m3 x b k).1=x.1:=rfl
structure GR(v:af.D)(c:aI.D)(x:aH.D)(w:af.D):Prop where
 out:(0≤bO x∧bO x≤400)∧(0≤dR x∧dR x≤24)∧c.1=0∧∃r i,l4 v.2.1 r∧bG r=0∧ba v.2.1 (bn r)=some i∧kindOf (J I v.2.1 i)=2∧w=(v.1,v.2.1.set i (m3 (J I v.2.1 i) (bO x) (dR x)),())∧fj w.2.1=0
theorem ais(v:af.D)(c:aI.D)(x:aH.D)(hv:bz v)(hc:dd c=true)(hx:im x)(hk:az x=19):br v c x (Fx ((v,c,x,()),())) (se (v,c,x,())) (GR v c x):=by
 have cf:=hv.hy
 have hl:v.2.1.length≤1048576:=cf.len
 have au:=hx.path
 obtain ⟨q,hq,h7⟩:=iI 4
 show br v c x (LR (v,c,x,())) (sd (hM aQ) v c x) _
 unfold LR sd
 show br v c x (Option.bind (eL (bO x,0,400,())) fun v1=>cond (!v1.1) _ (Option.bind (eL (dR x,0,24,())) _)) (cond (az x==15) _ (cond (az x==16) _ (Option.bind (eg (bO x,0,400,())) fun v2=>cond (!v2.1) _ (Option.bind (eg (dR x,0,24,())) _)))) _
 rw [b4 (show az x≠15 by omega),b4 (show az x≠16 by omega)]
 simp only [cond_true,cond_false]
 rw [js,jr]
 simp only [av]
 rw [hq]
 cases hN:c2 (bO x) 0 400 with
 | false =>
  simp only [Bool.not_false,cond_true]
  rw [AR]
  exact br.no 22 (by decide) rfl rfl
 | true =>
 have p6:=dN.1 hN
 simp only [Bool.not_true,cond_false]
 rw [js,jr]
 simp only [av]
 rw [AR]
 unfold zx
 cases mB:c2 (dR x) 0 24 with
 | false=>exact br.no 22 (by decide) rfl rfl
 | true =>
 have N2:=dN.1 mB
 simp only [Bool.not_true,cond_false]
 show br v c x (cond (c.1 != 0) _ _) (cond (az x==19) (cond (c.1 != 0) _ _) _) _
 rw [cF hk]
 simp only [cond_true]
 by_cases h0:c.1=0
 case neg =>
  rw [cI h0]
  exact br.no 1 (by decide) rfl rfl
 rw [dq h0]
 simp only [cond_false]
 rw [N0]
 unfold zy
 obtain ⟨r,⟨hr,xR⟩,fG,kj,kk⟩:=sZ v c x true cf hc (by omega)
 show br v c x _ (Option.bind (dX (v,c,ew x,true,())) _) _
 rw [fG]
 simp only [av]
 show br v c x _ (cond (bG r != 0) (some (v,(bG r,[],()),())) _) _
 by_cases b3:bG r=0
 case neg =>
  rw [kj b3,cI b3]
  simp only [av]
  rw [cI b3]
  exact br.no (bG r) b3 rfl rfl
 obtain ⟨i,hi,eY⟩:=kk b3
 have bR:=bZ hi
 rw [eY,dq b3]
 simp only [cond_false,av]
 rw [show((0:Int) != 0)=false from rfl]
 simp only [cond_false]
 show br v c x _ (Option.bind (eW (v,bn r,())) _) _
 rw [ik v _ hl hi,bC bR.1]
 simp only [av]
 show br v c x (cond (kindOf (J I v.2.1 i) != 2) (some (20,(v,c,x,()),())) (Fw ((i:Int),0,(v,c,x,()),()) (v.2.1.set i (m3 (J I v.2.1 i) (bO x) (eD (J I v.2.1 i))))))
  (cond (az x==15) _ (cond (az x==16) _ (cond (kindOf (J I v.2.1 i) != 2) (some (v,(20,[],()),())) ((hM (q+2)).fZ v (0,([]:List I.D),()) (0,([]:aF),()) (m3 (J I v.2.1 i) (bO x) (dR x)))))) _
 rw [b4 (show az x≠15 by omega),b4 (show az x≠16 by omega)]
 simp only [cond_false]
 by_cases gL:kindOf (J I v.2.1 i)=2
 case neg =>
  rw [cI gL]
  exact br.no 20 (by decide) rfl rfl
 rw [dq gL]
 simp only [cond_false]
 have hst:an 1000 (v.2.1.set i (m3 (J I v.2.1 i) (bO x) (dR x))):=(hv.st.set (k:=1) (i:=i) (y:=m3 (J I v.2.1 i) (bO x) (dR x)) bR.1 rfl (fun d ag=>hv.gN i bR.1 d ag) (fun hk=>absurd gL hk) (Nat.le_add_right _ _) (Nat.le_add_right _ _)).mono (by omega)
 have eY:Fw ((i:Int),0,(v,c,x,()),()) (v.2.1.set i (m3 (J I v.2.1 i) (bO x) (eD (J I v.2.1 i))))=some (fj (v.2.1.set i (m3 (J I v.2.1 i) (bO x) (dR x))),((v.1,v.2.1.set i (m3 (J I v.2.1 i) (bO x) (dR x)),()),c,x,()),()):=by
  unfold Fw
  rw [bC (by rw [List.length_set];exact bR.1)]
  simp only [av]
  rw [List.set_set,gv bR.1,if_pos rfl]
  show LQ ((i:Int),0,(v,c,x,()),()) (v.2.1.set i (m3 (J I v.2.1 i) (bO x) (dR x)))=_
  unfold LQ
  show Option.bind (nO (((v.1,v.2.1.set i (m3 (J I v.2.1 i) (bO x) (dR x)),()),c,x,()),())) _=_
  rw [Az (v.1,v.2.1.set i (m3 (J I v.2.1 i) (bO x) (dR x)),()) c x hst (by omega)];rfl
 rw [eY,N1 hv _ _ bR.1 _ (air _ _ _) hst]
 exact⟨_,_,rfl,rfl,fun h=>⟨p6,N2,h0,r,i,hr,b3,hi,gL,rfl,h⟩⟩
end Go.LM.kA
