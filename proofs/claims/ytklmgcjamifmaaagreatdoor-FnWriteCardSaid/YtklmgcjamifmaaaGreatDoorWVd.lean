/- Calls on volumes: both sides come to the same. Conditions: each theorem's own hypotheses. -/
import Derived.Test.YtklmgcjamifmaaaGreatDoorWVc
set_option linter.unusedVariables false
set_option linter.unusedSimpArgs false
namespace Go.LM.kF
theorem V6{n:Nat}(h:n≤68719476736):n+1<aQ:=by unfold aQ;omega
theorem xR{α : Type}{l:List α}{k:Nat}(h:k<l.length):l.drop k=l[k] :: l.drop (k+1):=List.drop_eq_getElem_cons h
def p7(y:ay.D)(id:aG):Bool:=bs y.1 id
theorem V7(y:ay.D)(id:aG):ER (y,id,())=some (p7 y id,()):=rfl
def vx(id:aG):List ay.D→Nat→Int
 | [],_ => -1
 | y :: l,k=>cond (p7 y id) (k:Int) (vx id l (k+1))
theorem agX(ys:List ay.D)(id:aG)(hn:ys.length≤68719476736):∀(r k m:Nat),k+r=ys.length→r<m →
  xt m ys id (ys.length:Int) (k:Int)=some (vx id (ys.drop k) k,()):=by
 intro r
 induction r with
 | zero =>
  intro k m hk hm
  obtain ⟨m,rfl⟩:∃q,m=q+1:=⟨m-1,by omega⟩
  simp only [xt,ET]
  rw [cS (by omega),List.drop_of_length_le (by omega)];rfl
 | succ r ih =>
  intro k m hk hm
  obtain ⟨m,rfl⟩:∃q,m=q+1:=⟨m-1,by omega⟩
  have n7:k<ys.length:=by omega
  simp only [xt,ET]
  rw [cr n7,bB n7]
  simp only [cond_true,av]
  rw [V7,vP n7,xR n7]
  simp only [av,vx]
  cases p7 ys[k] id
  ·simp only [cond_false]
   rw [de _ (by omega)]
   exact ih (k+1) m (by omega) (by omega)
  ·rfl
theorem V8(id:aG):∀(l:List ay.D) (k:Nat),(vx id l k = -1∧l.filter (fun y => !p7 y id)=l)∨∃j,j<l.length∧vx id l k=((k+j:Nat):Int)∧(l.filter (fun y => !p7 y id))=l.take j++(l.drop (j+1)).filter (fun y => !p7 y id)
 | [],_=>.inl ⟨rfl,rfl⟩
 | y :: l,k=>by
  rw [List.filter_cons]
  unfold vx
  cases h:p7 y id
  ·rcases V8 id l (k+1) with⟨h1,h2⟩ | ⟨j,h1,h2,h3⟩
   ·exact .inl ⟨by simp only [cond_false];exact h1,by simp [h2]⟩
   ·exact .inr ⟨j+1,by simpa using h1,by simp only [cond_false];rw [h2];congr 1;omega,by simp [h3]⟩
  ·exact .inr ⟨0,by simp,by simp,by simp⟩
theorem agY(ys:List ay.D)(id:aG)(hn:ys.length≤68719476736):∀(r j i m:Nat) (xs:List ay.D),j+r=ys.length→i≤j→xs.length=ys.length→xs.drop j=ys.drop j→r<m →
  xv m id (i:Int) (j:Int) xs=some (xs.take i++(ys.drop j).filter (fun y => !p7 y id),()):=by
 intro r
 induction r with
 | zero =>
  intro j i m xs hj iV hl ag hm
  obtain ⟨m,rfl⟩:∃q,m=q+1:=⟨m-1,by omega⟩
  simp only [xv,EW]
  rw [cS (by omega),iW (by omega) (Nat.le_refl _)]
  simp only [cond_false,av,SW,Nat.zero_add]
  generalize ((([]:List UInt8),0,()):ay.D)=z
  have hlen:(xs.take i++List.replicate (xs.length-i) z++xs.drop (i +(xs.length-i))).length=xs.length:=by
   simp;omega
  rw [show(0:Int)=((0:Nat):Int) from rfl,iW (Nat.zero_le _) (by rw [hlen];omega)]
  simp only [av,Nat.sub_zero,Nat.zero_add]
  rw [List.drop_of_length_le (l:=ys) (by omega),List.filter_nil,List.append_nil]
  congr 2
  unfold part
  rw [List.drop_zero,List.append_assoc,List.take_append_of_le_length (by simp;omega),List.take_take]
  simp
 | succ r ih =>
  intro j i m xs hj iV hl ag hm
  obtain ⟨m,rfl⟩:∃q,m=q+1:=⟨m-1,by omega⟩
  have hjl:j<xs.length:=by omega
  have yg:j<ys.length:=by omega
  have he:xs[j]=ys[j]∧xs.drop (j+1)=ys.drop (j+1):=by
   rw [xR hjl,xR yg] at ag
   exact List.cons.inj ag
  simp only [xv,EW]
  rw [cr hjl,bB hjl]
  simp only [cond_true,av,Nat.zero_add]
  rw [V7,vP hjl,he.1,xR yg,List.filter_cons]
  simp only [av]
  cases hh:p7 ys[j] id
  ·simp only [Bool.not_false,cond_true,if_true]
   rw [bB (show i<xs.length by omega)]
   simp only [av,Nat.zero_add]
   rw [de _ (by omega),de _ (by omega),ih (j+1) (i+1) m (xs.set i ys[j]) (by omega) (by omega) (by simpa using hl) (by rw [List.drop_set_of_lt (by omega)];exact he.2) (by omega)]
   congr 2
   rw [List.take_add_one,List.take_set_of_le (Nat.le_refl _),List.getElem?_set_self (by omega)]
   simp
  ·simp only [Bool.not_true,cond_false,Bool.false_eq_true,if_false]
   rw [de _ (by omega)]
   exact ih (j+1) i m xs (by omega) (by omega) hl he.2 (by omega)
theorem agZ(ys:List ay.D)(id:aG)(hn:room ys.length=true):EX (ys,id,())=some (ys.filter (fun y => !p7 y id),()):=by
 have hn:ys.length≤68719476736:=Nat.le_of_ble_eq_true hn
 show EV _ ys id=_
 unfold EV
 have hi:K9 (ys,id,())=some (vx id ys 0,()):=by
  have:=agX ys id hn ys.length 0 aQ (by omega) (by have:=V6 hn;omega)
  rw [List.drop_zero] at this
  exact this
 rw [hi]
 simp only [av]
 rcases V8 id ys 0 with⟨h1,h2⟩ | ⟨j,h1,h2,h3⟩
 ·rw [h1,h2];rfl
 ·rw [h2,h3,Nat.zero_add,show((j:Int) == -1)=false from by rw [beq_eq_false_iff_ne];omega]
  simp only [cond_false]
  rw [de _ (by omega)]
  exact agY ys id hn (ys.length-(j+1)) (j+1) j aQ ys (by omega) (by omega) rfl rfl (by have:=V6 hn;omega)
theorem xS(v:af.D)(c:aH.D)(x:aJ.D)(path:aG)(bw:Bool)(hw:nY v.2.1)(hc:c9 c=true)(au:path.length≤1048576) :
  ∃r,sR bw v.2.1 r∧lg ((v,c,x,()),path,bw,())=some (r,())∧dQ (v,c,path,bw,())=some (r,()):=by
 cases hk:o1 path with
 | false =>
  refine⟨((0:Int),([]:aG),(0:Int),(22:Int),()),xM bw _ (by decide) 0 0 (.inr trivial),?_,?_⟩
  ·show q0 (v,c,x,()) path bw=_
   unfold q0
   rw [F9 _ (by omega),hk];rfl
  ·show qL v c path bw=_
   unfold qL
   rw [xL,hk];rfl
 | true =>
  obtain ⟨r,bz,cc,gj⟩:=V5 v c path bw hw hc hk
  refine⟨r,bz,?_,?_⟩
  ·show q0 (v,c,x,()) path bw=_
   unfold q0
   rw [F9 _ (by omega),hk]
   simp only [av,Bool.not_true,cond_false]
   rw [cc];rfl
  ·show qL v c path bw=_
   unfold qL
   rw [xL,hk]
   simp only [av,Bool.not_true,cond_false]
   rw [gj];rfl
theorem l7{s:aG} : bs s []=true↔s=[]:=by unfold bs;simp
theorem V9(v:af.D)(c:aH.D)(x:aJ.D)(path:aG)(hw:nY v.2.1)(hc:c9 c=true)(au:path.length≤1048576) :
  ∃r dU code,vf ((v,c,x,()),path,())=some (r,code,())∧ux (v,c,path,())=some (dU,code,())∧(code=0→dU=r∧l6 v.2.1 r∧bC r=2∧nameOf r≠[]∧dQ (v,c,path,false,())=some (r,())):=by
 cases hk:o1 path with
 | false =>
  refine⟨((0:Int),([]:aG),(0:Int),(22:Int),()),((0:Int),([]:aG),(0:Int),(0:Int),()),22,?_,?_,fun h=>by cases h⟩
  ·show zR (v,c,x,()) path=_
   unfold zR
   have:lg ((v,c,x,()),path,false,())=some (((0:Int),([]:aG),(0:Int),(22:Int),()),()):=by
    show q0 (v,c,x,()) path false=_
    unfold q0
    rw [F9 _ (by omega),hk];rfl
   rw [this];rfl
  ·show zj v c path=_
   unfold zj
   rw [xL,hk];rfl
 | true =>
  obtain ⟨r,bz,cc,gj⟩:=V5 v c path false hw hc hk
  have e4:vf ((v,c,x,()),path,())=cond (bC r==2) (cond (!(bs (nameOf r) [])) (some (r,0,())) (cond (bC r==0) (some (r,17,())) (some (r,bC r,())))) (cond (bC r==0) (some (r,17,())) (some (r,bC r,()))):=by
   show zR (v,c,x,()) path=_
   unfold zR
   have:lg ((v,c,x,()),path,false,())=some (r,()):=by
    show q0 (v,c,x,()) path false=_
    unfold q0
    rw [F9 _ (by omega),hk]
    simp only [av,Bool.not_true,cond_false]
    rw [cc];rfl
   rw [this];rfl
  have dm:ux (v,c,path,())=cond (bC r==0) (some (r,17,())) (cond (bC r==2) (cond (!(bs (nameOf r) [])) (some (r,0,())) (some (r,bC r,()))) (some (r,bC r,()))):=by
   show zj v c path=_
   unfold zj
   rw [xL,hk]
   simp only [av,Bool.not_true,cond_false]
   rw [gj];rfl
  rw [e4,dm]
  by_cases h0:bC r=0
  ·rw [cF h0,ca (show bC r≠2 by omega)]
   exact⟨r,r,17,rfl,rfl,fun h=>by cases h⟩
  ·rw [ca h0]
   by_cases h2:bC r=2
   ·rw [cF h2]
    cases hn:bs (nameOf r) [] with
    | true=>exact⟨r,r,bC r,rfl,rfl,fun h=>absurd h h0⟩
    | false=>exact⟨r,r,0,rfl,rfl,fun _=>⟨rfl,bz.1,h2,fun h=>(by rw [l7.2 h] at hn;cases hn),by
     show qL v c path false=_
     unfold qL
     rw [xL,hk]
     simp only [av,Bool.not_true,cond_false]
     rw [gj];rfl⟩⟩
   ·rw [ca h2]
    exact⟨r,r,bC r,rfl,rfl,fun h=>absurd h h0⟩
def b2(x:aI)(N:List ay.D):aI:=(x.1,x.2.1,x.2.2.1,x.2.2.2.1,x.2.2.2.2.1,x.2.2.2.2.2.1,N,x.2.2.2.2.2.2.2.1,x.2.2.2.2.2.2.2.2.1,())
def dZ(s:aG)(d:ay.D):Bool:=dz d.1 s
def ins(N:List ay.D)(s:aG)(id:Int):List ay.D:=N.takeWhile (dZ s)++[(s,id,())]++N.dropWhile (dZ s)
theorem Nw{α : Type}(p : α → Bool)(l:List α):l.take (l.takeWhile p).length=l.takeWhile p:=by
 have:=List.take_left' (l₁:=l.takeWhile p) (l₂:=l.dropWhile p) rfl
 rwa [List.takeWhile_append_dropWhile] at this
theorem Gl{α : Type}(p : α → Bool)(l:List α):l.drop (l.takeWhile p).length=l.dropWhile p:=by
 have:=List.drop_left' (l₁:=l.takeWhile p) (l₂:=l.dropWhile p) rfl
 rwa [List.takeWhile_append_dropWhile] at this
theorem V_{α : Type}{p : α → Bool}{x : α} : ∀ {l:List α},x∈l.takeWhile p→p x=true
 | [],h=>by simp at h
 | y :: l,h=>by
  rw [List.takeWhile_cons] at h
  cases aN:p y
  ·rw [aN] at h;simp at h
  ·rw [aN] at h
   simp only [if_true,List.mem_cons] at h
   rcases h with rfl | h
   ·exact aN
   ·exact V_ h
theorem V'{α : Type}{p : α → Bool}{x : α}{r:List α} : ∀ {l:List α},l.dropWhile p=x :: r→p x=false
 | [],h=>by simp at h
 | y :: l,h=>by
  rw [List.dropWhile_cons] at h
  cases aN:p y
  ·rw [aN] at h
   simp only [Bool.false_eq_true,if_false] at h
   injection h with h1 h2
   rw [← h1];exact aN
  ·rw [aN] at h
   simp only [if_true] at h
   exact V' h
theorem Nx{α : Type}(p : α → Bool)(l:List α):(l.takeWhile p).length≤l.length:=by
 have:=congrArg List.length (List.takeWhile_append_dropWhile (p:=p) (l:=l))
 rw [List.length_append] at this;omega
theorem xT(N:List ay.D)(s:aG)(id:Int):(ins N s id).length=N.length+1:=by
 have:=congrArg List.length (List.takeWhile_append_dropWhile (p:=dZ s) (l:=N))
 rw [List.length_append] at this
 unfold ins
 simp only [List.length_append,List.length_cons,List.length_nil];omega
theorem Wa{N:List ay.D}{s:aG} : ∀ {j:Nat},j<(N.takeWhile (dZ s)).length→dz (J ay N j).1 s=true:=by
 intro j hj
 have Gm:j<N.length:=Nat.lt_of_lt_of_le hj (Nx _ _)
 have h1:(N.takeWhile (dZ s))[j]∈N.takeWhile (dZ s):=List.getElem_mem hj
 have h2:=V_ h1
 have e:(N.takeWhile (dZ s))[j]=J ay N j:=by
  rw [c8 Gm]
  have:=List.takeWhile_append_dropWhile (p:=dZ s) (l:=N)
  have h3:(N.takeWhile (dZ s)++N.dropWhile (dZ s))[j]?=N[j]?:=by rw [this]
  rw [List.getElem?_append_left hj,List.getElem?_eq_getElem hj,List.getElem?_eq_getElem Gm] at h3
  exact aU h3
 rw [e] at h2
 exact h2
theorem Wb{N:List ay.D}{s:aG}(h:(N.takeWhile (dZ s)).length<N.length):dz (J ay N (N.takeWhile (dZ s)).length).1 s=false:=by
 have h1:=Gl (dZ s) N
 have h2:=xR h
 rw [h1] at h2
 rw [c8 h]
 exact V' (p:=dZ s) h2
theorem Ny(v:af.D)(c:aH.D)(x:aJ.D)(dir:Int)(s:aG)(id:Int)(hl:v.2.1.length≤1048576){i:Nat}(h:bd v.2.1 dir=some i)(hn:(ak (J I v.2.1 i)).length≤1048576) :
  sB ((v,c,x,()),dir,s,id,())=some (((v.1,v.2.1.set i (b2 (J I v.2.1 i) (ins (ak (J I v.2.1 i)) s id)),()),c,x,()),()):=by
 show EO (sA aQ) (v,c,x,()) dir s id=_
 unfold EO
 rw [Nf v dir hl,h]
 simp only [av,hL]
 obtain ⟨hi,b6⟩:=bY h
 generalize hN:ak (J I v.2.1 i)=N at hn
 have ck:=Nx (dZ s) N
 have lX:∀m,(sA (m+1)).bg s id (i:Int) ((N.takeWhile (dZ s)).length:Int) (v,c,x,())=some (((v.1,v.2.1.set i (b2 (J I v.2.1 i) (ins N s id)),()),c,x,()),()):=by
  intro m
  show K4 (sA m) s id (i:Int) ((N.takeWhile (dZ s)).length:Int) (v,c,x,())=_
  unfold K4
  rw [bB hi]
  simp only [av,Nat.beq_refl,cond_true]
  show Option.bind (insF (ak (J I v.2.1 i)) ((N.takeWhile (dZ s)).length:Int) [(s,id,())]) _=_
  rw [hN]
  unfold insF
  rw [if_pos ⟨Int.natCast_nonneg _,Int.ofNat_le.2 ck,rfl,by omega⟩]
  simp only [av,Int.toNat_natCast]
  rw [Nw,Gl]
  rfl
 have p8:=o2 1 (fun m j=>(sA m).k2 s id (i:Int) (j:Int) (v,c,x,())) (some (((v.1,v.2.1.set i (b2 (J I v.2.1 i) (ins N s id)),()),c,x,()),())) (N.takeWhile (dZ s)).length 2 (fun j hj B y he=>he.step fun m=>by
  show zS (sA m) s id (i:Int) (j:Int) (v,c,x,())=_
  unfold zS
  rw [bB hi]
  simp only [av]
  show cond (decide ((j:Int)<((ak (J I v.2.1 i)).length:Int))) ((aO (ak (J I v.2.1 i)).length (j:Int)).bind fun v3=>cond (dz (J ay (ak (J I v.2.1 i)) v3).1 s) _ _) _=_
  rw [hN,cr (by omega),bB (by omega)]
  simp only [cond_true,av]
  rw [Wa hj,de j (by omega)];rfl) (bW.now 2 fun m=>by
  show zS (sA (m+1)) s id (i:Int) ((N.takeWhile (dZ s)).length:Int) (v,c,x,())=_
  unfold zS
  rw [bB hi]
  simp only [av]
  show cond (decide (((N.takeWhile (dZ s)).length:Int)<((ak (J I v.2.1 i)).length:Int))) ((aO (ak (J I v.2.1 i)).length ((N.takeWhile (dZ s)).length:Int)).bind fun v3=>cond (dz (J ay (ak (J I v.2.1 i)) v3).1 s) _ _) _=_
  rw [hN]
  rcases Nat.lt_or_ge (N.takeWhile (dZ s)).length N.length with h1 | h1
  ·rw [cr h1,bB h1]
   simp only [cond_true,av]
   rw [Wb h1]
   exact lX m
  ·rw [cS h1]
   exact lX m)
 exact kL p8 (by omega)
def cg(N:List ay.D)(s:aG):List ay.D:=N.filter fun d => !bs d.1 s
def goN(l:List aI)(id:Int):List aI:=cond (decide (cl l id=0)) (l.filter fun y => !(y.1==id)) l
theorem Gn{l:List aI}{i:Nat}{y:aI}(hi:i<l.length):dy (l.set i y) +(ak (J I l i)).length=dy l +(ak y).length:=by
 unfold dy
 induction l generalizing i with
 | nil=>simp at hi
 | cons z l ih =>
  cases i with
  | zero=>simp only [List.set_cons_zero,List.map_cons,List.sum_cons];show _ +(ak z).length=_;omega
  | succ i =>
   have:=ih (i:=i) (by simpa using hi)
   simp only [List.set_cons_succ,List.map_cons,List.sum_cons]
   show _ +(ak (J I l i)).length=_
   omega
theorem kn(x:aI)(N:List ay.D):ak (b2 x N)=N:=rfl
theorem vy(N:List ay.D)(s:aG):(cg N s).length≤N.length:=List.length_filter_le _ _
theorem Nz(v:af.D)(c:aH.D)(x:aJ.D)(dir:Int)(s:aG)(goes:Bool)(hl:v.2.1.length≤1048576)(hm:dy v.2.1≤1048576){i:Nat}(h:bd v.2.1 dir=some i) :
  oT ((v,c,x,()),dir,s,goes,())=some (((v.1,cond goes (goN (v.2.1.set i (b2 (J I v.2.1 i) (cg (ak (J I v.2.1 i)) s))) (c6 (ak (J I v.2.1 i)) s)) (v.2.1.set i (b2 (J I v.2.1 i) (cg (ak (J I v.2.1 i)) s))),()),c,x,()),()):=by
 show K' (v,c,x,()) dir s goes=_
 unfold K'
 rw [Nf v dir hl,h]
 simp only [av,hL]
 obtain ⟨hi,b6⟩:=bY h
 have hn:=Nat.le_trans (fN hi) hm
 rw [bB hi]
 simp only [av,Nat.beq_refl,cond_true]
 rw [VM _ _ hn]
 simp only [av]
 show Option.bind (EX (ak (J I v.2.1 i),s,())) _=_
 rw [agZ _ _ (cH (by omega))]
 simp only [av]
 show K_ goes ((i:Int),v,()) (c6 (ak (J I v.2.1 i)) s,()) (v,c,x,()) (v.2.1.set i (b2 (J I v.2.1 i) (cg (ak (J I v.2.1 i)) s)))=_
 have l4:(v.2.1.set i (b2 (J I v.2.1 i) (cg (ak (J I v.2.1 i)) s))).length≤1048576:=by rw [List.length_set];exact hl
 have n0:dy (v.2.1.set i (b2 (J I v.2.1 i) (cg (ak (J I v.2.1 i)) s)))≤1048576:=by
  have:=Gn (l:=v.2.1) (y:=b2 (J I v.2.1 i) (cg (ak (J I v.2.1 i)) s)) hi
  rw [kn] at this
  have:=vy (ak (J I v.2.1 i)) s
  omega
 generalize v.2.1.set i (b2 (J I v.2.1 i) (cg (ak (J I v.2.1 i)) s))=l at l4 n0
 generalize c6 (ak (J I v.2.1 i)) s=id
 unfold K_
 cases goes
 ·rfl
 ·simp only [cond_true]
  show Option.bind (xm (((v.1,l,()):af.D),id,())) _=_
  rw [FT (v.1,l,()) id l4 n0]
  simp only [av]
  unfold goN
  by_cases h0:cl l id=0
  ·rw [show(((cl l id:Nat):Int)==0)=true by rw [h0];rfl,decide_eq_true h0]
   simp only [cond_true]
   show Option.bind (cond (room l.length) _ none) _=_
   rw [cH (by omega)];rfl
  ·rw [show(((cl l id:Nat):Int)==0)=false by rw [beq_eq_false_iff_ne];omega,decide_eq_false h0];rfl
theorem Ax(v:af.D)(n:aI)(hl:v.2.1.length≤1048576){i:Nat}(h:bd v.2.1 n.1=some i):oK (v,n,())=some ((v.1,v.2.1.set i n,()),()):=by
 show zp v n=_
 unfold zp
 rw [l3 v _ hl,h]
 simp only [av]
 rw [show decide (hL (some i)<0)=false from Ak]
 simp only [cond_false,hL]
 rw [bB (bY h).1]
 simp only [av,Nat.zero_add]
theorem ag0(v:af.D)(n:aI)(hl:v.2.1.length≤1048576)(h:bd v.2.1 n.1=none):oK (v,n,())=some ((v.1,v.2.1++[n],()),()):=by
 show zp v n=_
 unfold zp
 rw [l3 v _ hl,h]
 simp only [av,Ak,Option.isNone_none,cond_true]
 rw [cH (by simp;omega)];rfl
theorem NA(v:af.D)(dir:Int)(s:aG)(id:Int)(hl:v.2.1.length≤1048576){i:Nat}(h:bd v.2.1 dir=some i)(hn:(ak (J I v.2.1 i)).length≤1048576)(hs:∀d,d∈ak (J I v.2.1 i)→d.1≠s) :
  sc (v,dir,s,id,())=some ((v.1,v.2.1.set i (b2 (J I v.2.1 i) (ins (ak (J I v.2.1 i)) s id)),()),()):=by
 show Dg (iO aQ) v dir s id=_
 unfold Dg
 rw [h_ v dir hl h]
 simp only [av]
 obtain ⟨hi,b6⟩:=bY h
 generalize hN:ak (J I v.2.1 i)=N at hn hs
 have ck:=Nx (dZ s) N
 have hw:bd v.2.1 (b2 (J I v.2.1 i) (ins N s id)).1=some i:=by rw [show(b2 (J I v.2.1 i) (ins N s id)).1=dir from b6];exact h
 have Wc:∀m,(iO (m+1)).hW v (0,([]:List I.D),()) (J I v.2.1 i) (ins N s id)=some ((v.1,v.2.1.set i (b2 (J I v.2.1 i) (ins N s id)),()),()):=by
  intro m
  show JT (iO m) v (0,([]:List I.D),()) (J I v.2.1 i) (ins N s id)=_
  unfold JT
  show Option.bind (oK (v,b2 (J I v.2.1 i) (ins N s id),())) _=_
  rw [Ax v _ hl hw];rfl
 have ag1:∀(r j:Nat) (acc:List ay.D),j+r=N.length→acc++N.drop j=ins N s id→acc.length≤j+1→bW (fun m=>(iO m).bx s id true (j:Int) v (0,([]:List I.D),()) (J I v.2.1 i) acc) (2*r+2) (some ((v.1,v.2.1.set i (b2 (J I v.2.1 i) (ins N s id)),()),())):=by
  intro r
  induction r with
  | zero =>
   intro j acc hj he ha
   refine bW.now 2 fun m=>?_
   show oL (iO (m+1)) s id true (j:Int) v (0,([]:List I.D),()) (J I v.2.1 i) acc=_
   unfold oL
   show cond (decide ((j:Int)<((ak (J I v.2.1 i)).length:Int))) _ _=_
   rw [hN,cS (by omega)]
   rw [List.drop_of_length_le (by omega),List.append_nil] at he
   rw [he]
   exact Wc m
  | succ r ih =>
   intro j acc hj he ha
   have hjl:j<N.length:=by omega
   have:=ih (j+1) (acc++[J ay N j]) (by omega) (by rw [List.append_assoc,List.singleton_append,← drop_cons (t:=ay) hjl];exact he) (by simp;omega)
   refine(this.jump (f:=fun m=>(iO m).bx s id true (j:Int) v (0,([]:List I.D),()) (J I v.2.1 i) acc) 2 fun m=>?_).mono (by omega)
   show oL (iO (m+1)) s id true (j:Int) v (0,([]:List I.D),()) (J I v.2.1 i) acc=_
   unfold oL
   show cond (decide ((j:Int)<((ak (J I v.2.1 i)).length:Int))) _ _=_
   rw [hN,cr hjl]
   simp only [cond_true,Bool.not_true,cond_false]
   show uC (iO m) s id true (j:Int) v (0,([]:List I.D),()) (J I v.2.1 i) acc=_
   unfold uC
   show Option.bind (aO (ak (J I v.2.1 i)).length (j:Int)) (fun v1=>cond (room (acc.length+1)) ((iO m).bx s id true (aK ((j:Int)+1)) v (0,([]:List I.D),()) (J I v.2.1 i) (acc++[J ay (ak (J I v.2.1 i)) v1])) none)=_
   rw [hN,bB hjl]
   simp only [av]
   rw [cH (by omega),de j (by omega)];rfl
 have p8:=o2 2 (fun m j=>(iO m).bx s id false (j:Int) v (0,([]:List I.D),()) (J I v.2.1 i) (N.take j)) (some ((v.1,v.2.1.set i (b2 (J I v.2.1 i) (ins N s id)),()),())) (N.takeWhile (dZ s)).length (2*N.length+8) (fun j hj B y he=>(he.jump (f:=fun m=>(iO m).bx s id false (j:Int) v (0,([]:List I.D),()) (J I v.2.1 i) (N.take j)) 2 fun m=>by
  have hjl:j<N.length:=by omega
  show oL (iO (m+1)) s id false (j:Int) v (0,([]:List I.D),()) (J I v.2.1 i) (N.take j)=_
  unfold oL
  show cond (decide ((j:Int)<((ak (J I v.2.1 i)).length:Int))) (cond (!false) ((aO (ak (J I v.2.1 i)).length (j:Int)).bind fun v1=>cond (dz s (J ay (ak (J I v.2.1 i)) v1).1) _ _) _) _=_
  rw [hN,cr hjl,bB hjl]
  simp only [cond_true,Bool.not_false,av]
  rw [VY (Wa hj)]
  simp only [cond_false]
  show uC (iO m) s id false (j:Int) v (0,([]:List I.D),()) (J I v.2.1 i) (N.take j)=_
  unfold uC
  show Option.bind (aO (ak (J I v.2.1 i)).length (j:Int)) (fun v1=>cond (room ((N.take j).length+1)) ((iO m).bx s id false (aK ((j:Int)+1)) v (0,([]:List I.D),()) (J I v.2.1 i) (N.take j++[J ay (ak (J I v.2.1 i)) v1])) none)=_
  rw [hN,bB hjl]
  simp only [av]
  rw [cH (by rw [List.length_take];omega),de j (by omega),c8 hjl,← List.take_succ_eq_append_getElem hjl];rfl)) (by
  rcases Nat.lt_or_ge (N.takeWhile (dZ s)).length N.length with h1 | h1
  ·
   generalize hj:(N.takeWhile (dZ s)).length=j at h1 ck
   have rh:N.take j++[(s,id,())]++N.drop j=ins N s id:=by rw [← hj,Nw,Gl];rfl
   have cw:dz s (J ay N j).1=true:=by
    have:=Wb (N:=N) (s:=s) (by omega)
    rw [hj] at this
    rw [Nl (hs _ (cJ h1)),this];rfl
   have:=ag1 (N.length-(j+1)) (j+1) (N.take j++[(s,id,())]++[J ay N j]) (by omega) (by rw [List.append_assoc _ [J ay N j],List.singleton_append,← drop_cons (t:=ay) h1];exact rh) (by simp;omega)
   refine(this.jump (f:=fun m=>(iO m).bx s id false (j:Int) v (0,([]:List I.D),()) (J I v.2.1 i) (N.take j)) 2 fun m=>?_).mono (by omega)
   show oL (iO (m+1)) s id false (j:Int) v (0,([]:List I.D),()) (J I v.2.1 i) (N.take j)=_
   unfold oL
   show cond (decide ((j:Int)<((ak (J I v.2.1 i)).length:Int))) (cond (!false) ((aO (ak (J I v.2.1 i)).length (j:Int)).bind fun v1=>cond (dz s (J ay (ak (J I v.2.1 i)) v1).1) _ _) _) _=_
   rw [hN,cr h1,bB h1]
   simp only [cond_true,Bool.not_false,av]
   rw [cw]
   simp only [cond_true]
   rw [cH (by simp;omega)]
   simp only [cond_true]
   show uC (iO m) s id true (j:Int) v (0,([]:List I.D),()) (J I v.2.1 i) (N.take j++[(s,id,())])=_
   unfold uC
   show Option.bind (aO (ak (J I v.2.1 i)).length (j:Int)) (fun v1=>cond (room ((N.take j++[(s,id,())]).length+1)) ((iO m).bx s id true (aK ((j:Int)+1)) v (0,([]:List I.D),()) (J I v.2.1 i) ((N.take j++[(s,id,())])++[J ay (ak (J I v.2.1 i)) v1])) none)=_
   rw [hN,bB h1]
   simp only [av]
   rw [cH (by simp;omega),de j (by omega)];rfl
  ·
   have hj:(N.takeWhile (dZ s)).length=N.length:=by omega
   have rh:N++[(s,id,())]=ins N s id:=by
    unfold ins
    rw [← Gl,← Nw,hj,List.take_length,List.drop_length,List.append_nil]
   rw [hj,List.take_length]
   refine(bW.now 2 fun m=>?_).mono (by omega)
   show oL (iO (m+1)) s id false (N.length:Int) v (0,([]:List I.D),()) (J I v.2.1 i) N=_
   unfold oL
   show cond (decide ((N.length:Int)<((ak (J I v.2.1 i)).length:Int))) _ _=_
   rw [hN,cS (Nat.le_refl _)]
   simp only [cond_false,Bool.not_false,cond_true]
   rw [cH (by simp;omega),rh]
   exact Wc m)
 exact kL p8 (by omega)
theorem gb{l:List aI}{i j:Nat}{y:aI}(hi:i<l.length):J I (l.set i y) j=if i=j then y else J I l j:=by
 by_cases hj:j<l.length
 ·rw [c8 (by rw [List.length_set];exact hj),c8 hj,List.getElem_set]
 ·rw [if_neg (by omega)]
  unfold J
  rw [List.getD_eq_getElem?_getD,List.getD_eq_getElem?_getD,List.getElem?_eq_none (by rw [List.length_set];omega),List.getElem?_eq_none (by omega)]
theorem NB{n:Nat}{P Q:Nat→Bool}(h:∀i,i<n→P i=Q i):fi n P=fi n Q:=by
 cases hq:fi n Q with
 | none=>exact l2.2 fun i hi=>by rw [h i hi];exact l2.1 hq i hi
 | some k =>
  obtain ⟨h1,h2,h3⟩:=iy.1 hq
  exact iy.2 ⟨h1,by rw [h k h1];exact h2,fun j hj=>by rw [h j (by omega)];exact h3 j hj⟩
theorem ri{l:List aI}{i:Nat}{y:aI}(hi:i<l.length)(aN:y.1=(J I l i).1)(id:Int):bd (l.set i y) id=bd l id:=by
 unfold bd
 rw [List.length_set]
 refine NB fun j hj=>?_
 rw [gb hi]
 split
 ·rename_i h;rw [aN,h]
 ·rfl
def Ay(l:List aI):Prop:=l.Pairwise fun a b=>a6 a≠a6 b
theorem Az{l:List aI} : h9 l↔Ay l:=by
 unfold Ay
 rw [List.pairwise_iff_getElem]
 constructor
 ·intro h i j hi hj iV he
  have h1:=h i hi
  have h2:=h j hj
  rw [c8 hi] at h1
  rw [c8 hj] at h2
  have:(l[i]).1=(l[j]).1:=he
  rw [this,h2] at h1
  have:=aU h1
  omega
 ·intro h x hx
  unfold bd
  rw [iy]
  refine⟨hx,by simp,fun j hj=>?_⟩
  rw [beq_eq_false_iff_ne,c8 hx,c8 (i:=j) (by omega)]
  exact h j x (by omega) hx hj
theorem n1{l:List aI}{id:Int} :(bd l id).isSome=true↔∃x,x∈l∧x.1=id:=by
 constructor
 ·intro h
  obtain ⟨i,hi⟩:=Option.isSome_iff_exists.1 h
  obtain ⟨h1,h2⟩:=bY hi
  exact⟨_,cJ h1,h2⟩
 ·rintro ⟨x,hx,he⟩
  obtain ⟨i,hi,aA⟩:=fw hx
  cases h:bd l id with
  | some k=>rfl
  | none =>
   have:=l2.1 h i hi
   rw [aA,he] at this
   simp at this
theorem ag2{l:List aI}{n:aI}{id:Int}{i:Nat}(h:bd l id=some i):bd (l++[n]) id=some i:=by
 obtain ⟨h1,h2,h3⟩:=iy.1 h
 have aA:∀j,j<l.length→J I (l++[n]) j=J I l j:=fun j hj=>by rw [c8 (by simp;omega),c8 hj,List.getElem_append_left hj]
 exact iy.2 ⟨by simp;omega,by rw [aA i h1];exact h2,fun j hj=>by rw [aA j (by omega)];exact h3 j hj⟩
theorem NC{l:List aI}{n:aI}{j:Nat}(hj:j<l.length):J I (l++[n]) j=J I l j:=by rw [c8 (by simp;omega),c8 hj,List.getElem_append_left hj]
theorem Wd{l:List aI}{n y:aI}{i:Nat}(hi:i<l.length):(l++[n]).set i y=l.set i y++[n]:=by rw [List.set_append_left _ _ hi]
theorem Gp{l:List aI}{id:Int}(h:cl l id=0):∀x,x∈l→∀d,d∈ak x→d.2.1≠id:=by
 intro x hx d ag he
 have h1:dx (ak x) id≤cl l id:=by
  unfold cl
  exact F4 (f:=fun x=>dx (ak x) id) hx
 have h2:d∈(ak x).filter fun d=>d.2.1==id:=List.mem_filter.2 ⟨ag,by simpa using he⟩
 have h3:0<dx (ak x) id:=List.length_pos_of_mem h2
 omega
theorem ND{l:List aI}{i:Nat}{y:aI}(hi:i<l.length):bytesOf (l.set i y) +(bh (J I l i)).length=bytesOf l +(bh y).length:=by
 unfold bytesOf
 induction l generalizing i with
 | nil=>simp at hi
 | cons z l ih =>
  cases i with
  | zero=>simp only [List.set_cons_zero,List.map_cons,List.sum_cons];show _ +(bh z).length=_;omega
  | succ i =>
   have:=ih (i:=i) (by simpa using hi)
   simp only [List.set_cons_succ,List.map_cons,List.sum_cons]
   show _ +(bh (J I l i)).length=_
   omega
theorem Gq{α : Type}(f : α → Nat)(p : α → Bool):∀l:List α,((l.filter p).map f).sum≤(l.map f).sum
 | []=>Nat.le_refl _
 | x :: l=>by
  have:=Gq f p l
  rw [List.filter_cons]
  split
  ·simp only [List.map_cons,List.sum_cons];omega
  ·simp only [List.map_cons,List.sum_cons];omega
structure aq(B:Nat)(l:List aI):Prop where
 len:l.length≤B
 cG:dy l≤B
 bytes:bytesOf l≤B
 ga:h9 l
 gT:q_ l
 bare:∀i,i<l.length→kindOf (J I l i)≠2→eE (J I l i)=0∧et (J I l i)=0∧ak (J I l i)=[]
theorem aq.mono{B nn:Nat}{l:List aI}(h:aq B l)(hb:B≤nn):aq nn l:=⟨Nat.le_trans h.len hb,Nat.le_trans h.cG hb,Nat.le_trans h.bytes hb,h.ga,h.gT,h.bare⟩
theorem bE.cG{v:af.D}(h:bE v):dy v.2.1≤288:=by
 have key:∀l:List aI,(∀x,x∈l→(ak x).length≤12)→dy l≤l.length*12:=by
  intro l
  induction l with
  | nil=>intro _;exact Nat.le_refl _
  | cons x l ih =>
   intro hx
   have h1:=hx x List.mem_cons_self
   have h2:=ih fun y aN=>hx y (List.mem_cons_of_mem _ aN)
   show(ak x).length+dy l≤(l.length+1)*12
   omega
 have:=key v.2.1 fun x hx=>by
  obtain ⟨i,hi,he⟩:=fw hx
  have h1:=h.ino i hi
  rw [he] at h1
  by_cases hk:kindOf x=2
  ·exact(h1.dir hk).2.2.2
  ·rw [(h1.plain hk).2.2];simp
 have:=h.len
 omega
theorem bE.st{v:af.D}(h:bE v):aq 400 v.2.1 :=
 ⟨by have:=h.len;omega,by have:=h.cG;omega,h.bytes,h.ga,h.gT,fun i hi hk=>(h.ino i hi).plain hk⟩
theorem Gr{l:List aI} : q_ l↔∀x,x∈l→∀d,d∈ak x→∃y,y∈l∧y.1=d.2.1:=by
 constructor
 ·intro h x hx d ag
  obtain ⟨i,hi,he⟩:=fw hx
  exact n1.1 (h i hi d (by rw [he];exact ag))
 ·intro h i hi d ag
  exact n1.2 (h _ (cJ hi) d ag)
theorem aq.set{B k:Nat}{l:List aI}{i:Nat}{y:aI}(h:aq B l)(hi:i<l.length)(aN:y.1=(J I l i).1)(hex:∀d,d∈ak y→(bd l d.2.1).isSome=true)
  (hb:kindOf y≠2→eE y=0∧et y=0∧ak y=[]) (hn:(ak y).length≤(ak (J I l i)).length+k) (ag:(bh y).length≤(bh (J I l i)).length+k):aq (B+k) (l.set i y):=by
 have h1:=Gn (l:=l) (y:=y) hi
 have h2:=ND (l:=l) (y:=y) hi
 have h3:=h.cG
 have h4:=h.bytes
 have a8:=h.len
 refine⟨by rw [List.length_set];omega,by omega,by omega,fun x hx=>?_,fun j hj d ag=>?_,fun j hj hk=>?_⟩
 ·rw [List.length_set] at hx
  rw [ri hi aN,gb hi]
  split
  ·rename_i he;subst he;rw [aN];exact h.ga i hx
  ·exact h.ga x hx
 ·rw [List.length_set] at hj
  rw [gb hi] at ag
  rw [ri hi aN]
  split at ag
  ·exact hex d ag
  ·exact h.gT j hj d ag
 ·rw [List.length_set] at hj
  rw [gb hi] at hk ⊢
  split at hk
  ·rename_i he;rw [if_pos he];exact hb hk
  ·rename_i he;rw [if_neg he];exact h.bare j hj hk
theorem ag3{l:List aI}(p:aI→Bool)(h:Ay l):Ay (l.filter p):=List.Pairwise.sublist (List.filter_sublist) h
theorem aq.go{B:Nat}{l:List aI}(h:aq B l)(id:Int):aq B (goN l id):=by
 unfold goN
 by_cases h0:cl l id=0
 ·rw [decide_eq_true h0]
  simp only [cond_true]
  refine⟨Nat.le_trans (List.length_filter_le _ _) h.len,Nat.le_trans (Gq _ _ _) h.cG,Nat.le_trans (Gq _ _ _) h.bytes,Az.2 (ag3 _ (Az.1 h.ga)),Gr.2 fun x hx d ag=>?_,fun i hi hk=>?_⟩
  ·have hx:=(List.mem_filter.1 hx).1
   obtain ⟨y,aN,he⟩:=Gr.1 h.gT x hx d ag
   refine⟨y,List.mem_filter.2 ⟨aN,?_⟩,he⟩
   have:=Gp h0 x hx d ag
   rw [Bool.not_eq_true',beq_eq_false_iff_ne,he];exact this
  ·have hx:=(List.mem_filter.1 (cJ (t:=I) hi)).1
   obtain ⟨j,hj,he⟩:=fw hx
   rw [← he] at hk ⊢
   exact h.bare j hj hk
 ·rw [decide_eq_false h0];exact h
theorem aq.app{B k:Nat}{l:List aI}{n:aI}(h:aq B l)(b6:bd l n.1=none)(hn:ak n=[])(ag:(bh n).length≤k)(hk:1≤k)(hb:kindOf n≠2→eE n=0∧et n=0):aq (B+k) (l++[n]):=by
 have h3:=h.cG
 have h4:=h.bytes
 have a8:=h.len
 refine⟨by simp;omega,by unfold dy at *;simp [hn];omega,by unfold bytesOf at *;simp;omega,Az.2 ?_,Gr.2 fun x hx d jx=>?_,fun i hi hk=>?_⟩
 ·refine List.pairwise_append.2 ⟨Az.1 h.ga,List.pairwise_singleton _ _,fun a ha b dJ he=>?_⟩
  simp only [List.mem_singleton] at dJ
  subst dJ
  have:(bd l b.1).isSome=true:=n1.2 ⟨a,ha,he⟩
  rw [b6] at this;cases this
 ·rcases List.mem_append.1 hx with hx | hx
  ·obtain ⟨y,aN,he⟩:=Gr.1 h.gT x hx d jx
   exact⟨y,List.mem_append_left _ aN,he⟩
  ·simp only [List.mem_singleton] at hx
   subst hx
   rw [hn] at jx;simp at jx
 ·rcases Nat.lt_or_ge i l.length with hl | hl
  ·rw [NC hl] at hk ⊢;exact h.bare i hl hk
  ·have:i=l.length:=by simp at hi;omega
   subst this
   have he:J I (l++[n]) l.length=n:=by rw [c8 (by simp)];simp
   rw [he] at hk ⊢
   exact⟨(hb hk).1,(hb hk).2,hn⟩
def e8(l:List aI):Int:=cond (decide ((bytesOf l:Int)>400)) 28 (cond (gw l) 122 0)
theorem AA{B:Nat}(v:af.D)(c:aH.D)(x:aJ.D)(h:aq B v.2.1)(fZ:B≤1048576):nN ((v,c,x,()),())=some (e8 v.2.1,()):=by
 have h1:=Nat.le_trans h.len fZ
 have h2:=Nat.le_trans h.cG fZ
 have h3:=Nat.le_trans h.bytes fZ
 show K5 (v,c,x,())=_
 unfold K5 e8
 show Option.bind (sr (v,())) _=_
 rw [MU v h1 h3]
 simp only [av]
 show cond _ _ (Option.bind (zO (v.2.1,v,())) _)=_
 rw [Vy v h1 h2 h3 h.ga h.gT]
 simp only [av]
 cases decide ((bytesOf v.2.1:Int)>400) <;> cases gw v.2.1 <;> rfl
theorem ag4{B:Nat}(v:af.D)(h:aq B v.2.1)(fZ:B≤1048576):JR (v,())=some (e8 v.2.1,()):=by
 have h1:=Nat.le_trans h.len fZ
 have h2:=Nat.le_trans h.cG fZ
 have h3:=Nat.le_trans h.bytes fZ
 show JQ v=_
 unfold JQ e8
 rw [MT v h1 h3]
 simp only [av]
 rw [Vz v h1 h2 h3 (fun i hi hk=>⟨(h.bare i hi hk).1,(h.bare i hi hk).2.1⟩)]
 simp only [av]
 cases decide ((bytesOf v.2.1:Int)>400) <;> cases gw v.2.1 <;> rfl
theorem xU{B:Nat}(u v:af.D)(h:aq B v.2.1)(fZ:B≤1048576):qJ (u,v,())=some (cond (e8 v.2.1==0) v u,(e8 v.2.1,[],()),()):=by
 show JS u v=_
 unfold JS
 rw [ag4 v h fZ]
 simp only [av]
 by_cases h0:e8 v.2.1=0
 ·rw [dk h0,cF h0,h0];rfl
 ·rw [cP h0,ca h0];rfl
def AB:List ay.D→aG→Int
 | [],_=>0
 | d :: r,s=>cond (bs d.1 s) d.2.1 (AB r s)
theorem ag5{n:Nat}{P:Nat→Bool} : fi (n+1) P=cond (P 0) (some 0) ((fi n fun i=>P (i+1)).map (· + 1)):=by
 cases h0:P 0
 ·simp only [cond_false]
  cases h:fi n fun i=>P (i+1) with
  | none =>
   refine l2.2 fun i hi=>?_
   cases i with
   | zero=>exact h0
   | succ i=>exact l2.1 h i (by omega)
  | some k =>
   obtain ⟨h1,h2,h3⟩:=iy.1 h
   refine iy.2 ⟨show k+1<n+1 by omega,h2,fun j hj=>?_⟩
   have hj:j<k+1:=hj
   cases j with
   | zero=>exact h0
   | succ j=>exact h3 j (by omega)
 ·exact iy.2 ⟨by omega,h0,fun j hj=>by omega⟩
theorem look_eq(s:aG):∀N:List ay.D,c6 N s=AB N s
 | []=>rfl
 | d :: r=>by
  unfold c6 AB
  rw [List.length_cons,ag5]
  show As (d :: r) (cond (bs d.1 s) _ _)=_
  cases ag:bs d.1 s
  ·simp only [cond_false]
   rw [← look_eq s r]
   unfold c6
   show As (d :: r) ((fi r.length (rb r s)).map (· + 1))=_
   cases fi r.length (rb r s) <;> rfl
  ·rfl
def vz(N:List ay.D)(s:aG)(id:Int):Int:=N.foldl (fun a d=>cond (bs d.1 s) d.2.1 a) id
theorem We{s:aG}{id:Int} : ∀ {N:List ay.D},(∀d,d∈N→d.1≠s)→vz N s id=id
 | [],_=>rfl
 | d :: r,h=>by
  have h1:bs d.1 s=false:=by unfold bs;simpa using h d List.mem_cons_self
  unfold vz
  rw [List.foldl_cons,h1]
  exact We fun e he=>h e (List.mem_cons_of_mem _ he)
theorem Wf{s:aG} : ∀ {N:List ay.D},jo N→vz N s 0=c6 N s
 | [],_=>rfl
 | d :: r,h=>by
  obtain ⟨h1,h2⟩:=List.pairwise_cons.1 h
  rw [look_eq,AB,← look_eq]
  unfold vz
  rw [List.foldl_cons]
  cases ag:bs d.1 s
  ·exact Wf h2
  ·have ag:d.1=s:=by unfold bs at ag;simpa using ag
   refine We fun e he=>?_
   have:=h1 e he
   rw [ag] at this
   exact(Gf this).symm
theorem NF(v:af.D)(dir:Int)(s:aG)(hl:v.2.1.length≤1048576)(hm:dy v.2.1≤1048576){i:Nat}(h:bd v.2.1 dir=some i)(hs:jo (ak (J I v.2.1 i))) :
  oN (v,dir,s,())=some ((v.1,goN (v.2.1.set i (b2 (J I v.2.1 i) (cg (ak (J I v.2.1 i)) s))) (c6 (ak (J I v.2.1 i)) s),()),()):=by
 show Dj (k_ aQ) v dir s=_
 unfold Dj
 rw [h_ v dir hl h]
 simp only [av]
 obtain ⟨hi,b6⟩:=bY h
 have hn:=Nat.le_trans (fN hi) hm
 have n0:dy (v.2.1.set i (b2 (J I v.2.1 i) (cg (ak (J I v.2.1 i)) s)))≤1048576:=by
  have:=Gn (l:=v.2.1) (y:=b2 (J I v.2.1 i) (cg (ak (J I v.2.1 i)) s)) hi
  rw [kn] at this
  have:=vy (ak (J I v.2.1 i)) s
  omega
 have l4:(v.2.1.set i (b2 (J I v.2.1 i) (cg (ak (J I v.2.1 i)) s))).length≤1048576:=by rw [List.length_set];exact hl
 rw [← Wf hs]
 generalize hN:ak (J I v.2.1 i)=N at hn hs n0 l4
 have hw:bd v.2.1 (b2 (J I v.2.1 i) (cg N s)).1=some i:=by rw [show(b2 (J I v.2.1 i) (cg N s)).1=dir from b6];exact h
 have key:∀(r j:Nat) (id:Int),j+r=N.length→bW (fun m=>(k_ m).bx s id (j:Int) v (0,([]:List I.D),()) (J I v.2.1 i) (cg (N.take j) s)) (r+1048580) (some ((v.1,goN (v.2.1.set i (b2 (J I v.2.1 i) (cg N s))) (vz (N.drop j) s id),()),())):=by
  intro r
  induction r with
  | zero =>
   intro j id hj
   have Gm:j=N.length:=by omega
   subst Gm
   rw [List.drop_length,List.take_length]
   show bW _ _ (some ((v.1,goN (v.2.1.set i (b2 (J I v.2.1 i) (cg N s))) id,()),()))
   have hb:∀m,(k_ (m+1)).bx s id (N.length:Int) v (0,([]:List I.D),()) (J I v.2.1 i) (cg N s) =
     cond (decide (((cl (v.2.1.set i (b2 (J I v.2.1 i) (cg N s))) id:Nat):Int)>0)) (some ((v.1,v.2.1.set i (b2 (J I v.2.1 i) (cg N s)),()),())) ((k_ m).jS id 0 (v.1,v.2.1.set i (b2 (J I v.2.1 i) (cg N s)),()) (0,([]:List I.D),()) ([]:List I.D)):=by
    intro m
    show zt (k_ m) s id (N.length:Int) v (0,([]:List I.D),()) (J I v.2.1 i) (cg N s)=_
    unfold zt
    show cond (decide ((N.length:Int)<((ak (J I v.2.1 i)).length:Int))) _ (Option.bind (oK (v,b2 (J I v.2.1 i) (cg N s),())) _)=_
    rw [hN,cS (Nat.le_refl _),Ax v _ hl hw]
    simp only [cond_false,av]
    rw [FR (v.1,v.2.1.set i (b2 (J I v.2.1 i) (cg N s)),()) id l4 n0]
    rfl
   generalize v.2.1.set i (b2 (J I v.2.1 i) (cg N s))=l at hb l4
   unfold goN
   by_cases h0:cl l id=0
   ·rw [decide_eq_true h0]
    simp only [cond_true]
    have ag6:=o2 1 (fun m j=>(k_ m).jS id (j:Int) (v.1,l,()) (0,([]:List I.D),()) ((l.take j).filter fun y => !(y.1==id))) (some ((v.1,l.filter fun y => !(y.1==id),()),())) l.length 1 (fun j hj B y he=>he.step fun m=>by
     have fp:((l.take j).filter fun y => !(y.1==id)).length≤j:=Nat.le_trans (List.length_filter_le _ _) (by rw [List.length_take];omega)
     show zu (k_ m) id (j:Int) (v.1,l,()) (0,([]:List I.D),()) ((l.take j).filter fun y => !(y.1==id))=_
     unfold zu
     show cond (decide ((j:Int)<(l.length:Int))) ((aO l.length (j:Int)).bind fun v1=>cond (!((J I l (0+v1)).1==id)) _ _) _=_
     rw [cr hj,bB hj]
     simp only [cond_true,av,Nat.zero_add]
     rw [de j (by omega),List.take_succ_eq_append_getElem hj,List.filter_append,List.filter_cons,List.filter_nil,c8 hj]
     cases hc:(!((l[j]).1==id))
     ·simp
     ·simp only [cond_true,if_true]
      rw [cH (by simp only [List.length_cons,List.length_nil];omega)];rfl) (bW.now 1 fun m=>by
     show zu (k_ m) id (l.length:Int) (v.1,l,()) (0,([]:List I.D),()) ((l.take l.length).filter fun y => !(y.1==id))=_
     unfold zu
     show cond (decide ((l.length:Int)<(l.length:Int))) _ _=_
     rw [cS (Nat.le_refl _),List.take_length];rfl)
    refine(ag6.jump (f:=fun m=>(k_ m).bx s id (N.length:Int) v (0,([]:List I.D),()) (J I v.2.1 i) (cg N s)) 1 fun m=>?_).mono (by omega)
    rw [hb m,decide_eq_false (by omega)];rfl
   ·rw [decide_eq_false h0]
    simp only [cond_false]
    refine(bW.now 1 fun m=>?_).mono (by omega)
    rw [hb m,decide_eq_true (by omega)];rfl
  | succ r ih =>
   intro j id hj
   have hjl:j<N.length:=by omega
   have ih:=ih (j+1) (cond (bs (J ay N j).1 s) (J ay N j).2.1 id) (by omega)
   have gx:vz (N.drop (j+1)) s (cond (bs (J ay N j).1 s) (J ay N j).2.1 id)=vz (N.drop j) s id:=by
    rw [drop_cons (t:=ay) hjl];rfl
   rw [gx] at ih
   refine(ih.jump (f:=fun m=>(k_ m).bx s id (j:Int) v (0,([]:List I.D),()) (J I v.2.1 i) (cg (N.take j) s)) 1 fun m=>?_).mono (by omega)
   have fp:(cg (N.take j) s).length≤j:=Nat.le_trans (List.length_filter_le _ _) (by rw [List.length_take];omega)
   show zt (k_ m) s id (j:Int) v (0,([]:List I.D),()) (J I v.2.1 i) (cg (N.take j) s)=_
   unfold zt
   show cond (decide ((j:Int)<((ak (J I v.2.1 i)).length:Int))) ((aO (ak (J I v.2.1 i)).length (j:Int)).bind fun v1=>cond (bs (J ay (ak (J I v.2.1 i)) v1).1 s)
    ((aO (ak (J I v.2.1 i)).length (j:Int)).bind fun v2=>(k_ m).bx s (J ay (ak (J I v.2.1 i)) v2).2.1 (aK ((j:Int)+1)) v (0,([]:List I.D),()) (J I v.2.1 i) (cg (N.take j) s))
    ((aO (ak (J I v.2.1 i)).length (j:Int)).bind fun v3=>cond (room ((cg (N.take j) s).length+1)) ((k_ m).bx s id (aK ((j:Int)+1)) v (0,([]:List I.D),()) (J I v.2.1 i) (cg (N.take j) s++[J ay (ak (J I v.2.1 i)) v3])) none)) _=_
   rw [hN,cr hjl,bB hjl]
   simp only [cond_true,av]
   rw [de j (by omega)]
   have wS:cg (N.take (j+1)) s=cg (N.take j) s++cond (bs (J ay N j).1 s) [] [J ay N j]:=by
    unfold cg
    rw [List.take_succ_eq_append_getElem hjl,List.filter_append,List.filter_cons,List.filter_nil,c8 hjl]
    cases bs (N[j]).1 s <;> rfl
   rw [wS]
   cases bs (J ay N j).1 s
   ·simp only [cond_false]
    rw [cH (by omega)];rfl
   ·simp only [cond_true,List.append_nil]
 have:=key N.length 0 0 (by omega)
 rw [List.drop_zero] at this
 exact kL this (by omega)
theorem bits_nat(op:BinOp)(x y:Nat):cQ op .i64 (x:Int) (y:Int)=(match op with
 | .and=>IntKind.wrap .i64 ((BitVec.ofNat 64 x &&& BitVec.ofNat 64 y).toNat:Int)
 | .or=>IntKind.wrap .i64 ((BitVec.ofNat 64 x ||| BitVec.ofNat 64 y).toNat:Int)
 | .xor=>IntKind.wrap .i64 ((BitVec.ofNat 64 x ^^^ BitVec.ofNat 64 y).toNat:Int)
 | _=>IntKind.wrap .i64 ((BitVec.ofNat 64 x &&& ~~~BitVec.ofNat 64 y).toNat:Int)):=by
 unfold cQ
 rw [show(IntKind.i64).bits=64 from rfl]
 simp only [BitVec.ofInt_natCast]
 cases op <;> rfl
theorem ag7{x y:Nat}(hx:x<4611686018427387904)(aN:y<4611686018427387904):cQ .and .i64 (x:Int) (y:Int)=((x &&& y:Nat):Int):=by
 rw [bits_nat]
 simp only
 rw [BitVec.toNat_and,BitVec.toNat_ofNat,BitVec.toNat_ofNat,Nat.mod_eq_of_lt (show x<2 ^ 64 by omega),Nat.mod_eq_of_lt (show y<2 ^ 64 by omega)]
 have:x &&& y≤x:=Nat.and_le_left
 exact tj (by omega) (by omega)
theorem Wg{x y:Nat}(hx:x<4611686018427387904)(aN:y<4611686018427387904):cQ .or .i64 (x:Int) (y:Int)=((x ||| y:Nat):Int):=by
 rw [bits_nat]
 simp only
 rw [BitVec.toNat_or,BitVec.toNat_ofNat,BitVec.toNat_ofNat,Nat.mod_eq_of_lt (show x<2 ^ 64 by omega),Nat.mod_eq_of_lt (show y<2 ^ 64 by omega)]
 have:x ||| y<2 ^ 62:=Nat.or_lt_two_pow (by omega) (by omega)
 exact tj (by omega) (by omega)
theorem ag8{x:Nat}(h:x<2048):x &&& 1024=1024*(x / 1024):=by
 have h1:(x &&& 1024) / 2 ^ 10=x / 2 ^ 10 &&& 1024 / 2 ^ 10:=Nat.and_div_two_pow
 have h2:(x &&& 1024) % 2 ^ 10=x % 2 ^ 10 &&& 1024 % 2 ^ 10:=Nat.and_mod_two_pow
 rw [show 1024 / 2 ^ 10=1 from rfl,Nat.and_one_is_mod] at h1
 rw [show 1024 % 2 ^ 10=0 from rfl,Nat.and_zero] at h2
 omega
theorem ag9{m:Int}(h:0≤m)(h':m≤2047):cQ .and .i64 m 1024=0∨cQ .and .i64 m 1024=1024:=by
 obtain ⟨n,rfl⟩:∃n:Nat,m=n:=⟨m.toNat,by omega⟩
 have:=ag7 (x:=n) (y:=1024) (by omega) (by omega)
 rw [show((1024:Nat):Int)=1024 from rfl] at this
 rw [this,ag8 (by omega)]
 omega
theorem ag_{m:Int}(h:0≤m)(h':m≤2047):cQ .or .i64 m 0=m:=by
 obtain ⟨n,rfl⟩:∃n:Nat,m=n:=⟨m.toNat,by omega⟩
 have:=Wg (x:=n) (y:=0) (by omega) (by omega)
 rw [show((0:Nat):Int)=0 from rfl] at this
 rw [this,Nat.or_zero]
theorem ag'{m:Int}(h:0≤m)(h':m≤2047):0≤cQ .or .i64 m 1024∧cQ .or .i64 m 1024≤2047:=by
 obtain ⟨n,rfl⟩:∃n:Nat,m=n:=⟨m.toNat,by omega⟩
 have:=Wg (x:=n) (y:=1024) (by omega) (by omega)
 rw [show((1024:Nat):Int)=1024 from rfl] at this
 rw [this]
 have:n ||| 1024<2 ^ 11:=Nat.or_lt_two_pow (by omega) (by omega)
 omega
def aE(x:aJ.D):Int:=x.1
def eU(x:aJ.D):aG:=x.2.1
def iR(x:aJ.D):aG:=x.2.2.1
def bQ(x:aJ.D):Int:=x.2.2.2.1
def dV(x:aJ.D):Int:=x.2.2.2.2.1
def dD(x:aJ.D):aG:=x.2.2.2.2.2.1
structure ib(x:aJ.D):Prop where
 dh:1≤aE x∧aE x≤22
 path:(eU x).length≤60
 sV:(iR x).length≤60
 fe:(dD x).length≤64
 n : -1000000≤bQ x∧bQ x≤1000000
 m : -1000000≤dV x∧dV x≤1000000
 aha:iR x=[]∨aE x=9∨aE x=10∨aE x=12
 Wh:dD x=[]∨aE x=5∨aE x=6
theorem p9{x:aJ.D} : h8 x=true↔ib x:=by
 unfold h8
 simp only [Bool.and_eq_true,Bool.or_eq_true,decide_eq_true_eq,beq_iff_eq,l7]
 constructor
 ·rintro ⟨⟨⟨⟨⟨⟨⟨h1,h2⟩,h3⟩,h4⟩,a8⟩,bl⟩,bK⟩,cV⟩
  exact⟨dR.1 h1,Int.ofNat_le.1 h2,Int.ofNat_le.1 h3,Int.ofNat_le.1 h4,dR.1 a8,dR.1 bl,bK,cV⟩
 ·intro h
  exact⟨⟨⟨⟨⟨⟨⟨dR.2 h.dh,Int.ofNat_le.2 h.path⟩,Int.ofNat_le.2 h.sV⟩,Int.ofNat_le.2 h.fe⟩,dR.2 h.n⟩,dR.2 h.m⟩,h.aha⟩,h.Wh⟩
theorem rj{N:List ay.D}{s:aG}{id:Int}{d:ay.D} : d∈ins N s id↔d∈N∨d=(s,id,()):=by
 have:=List.takeWhile_append_dropWhile (p:=dZ s) (l:=N)
 unfold ins
 conv=>rhs;rw [← this]
 simp only [List.mem_append,List.mem_singleton]
 constructor
 ·rintro ((h | h) | h)
  ·exact .inl (.inl h)
  ·exact .inr h
  ·exact .inl (.inr h)
 ·rintro ((h | h) | h)
  ·exact .inl (.inl h)
  ·exact .inr h
  ·exact .inl (.inr h)
theorem AD{N:List ay.D}{s:aG}(h:c6 N s=0)(h0:∀d,d∈N→d.2.1≠0):∀d,d∈N→d.1≠s:=by
 intro d ag he
 obtain ⟨i,hi,aA⟩:=fw ag
 unfold c6 at h
 cases hf:fi N.length (rb N s) with
 | none =>
  have:=l2.1 hf i hi
  unfold rb bs at this
  rw [aA] at this
  simp [he] at this
 | some j =>
  rw [hf] at h
  obtain ⟨h1,_,_⟩:=iy.1 hf
  exact h0 _ (cJ h1) h
theorem bE.Wi{v:af.D}(h:bE v){x:aI}(hx:x∈v.2.1):1≤a6 x∧a6 x≤fE v-1:=by
 obtain ⟨i,hi,he⟩:=fw hx
 have:=h.ids i hi
 rw [he] at this;exact this
theorem bE.AE{v:af.D}(h:bE v){i:Nat}(hi:i<v.2.1.length){d:ay.D}(ag:d∈ak (J I v.2.1 i)):d.2.1≠0:=by
 obtain ⟨y,aN,he⟩:=n1.1 (h.gT i hi d ag)
 have h1:=h.Wi aN
 intro h0
 have:a6 y=0:=he.trans h0
 omega
theorem bE.free{v:af.D}(h:bE v):bd v.2.1 v.1=none:=by
 cases hi:bd v.2.1 v.1 with
 | none=>rfl
 | some i =>
  obtain ⟨h1,h2⟩:=bY hi
  have:=h.ids i h1
  have h2:a6 (J I v.2.1 i)=fE v:=h2
  omega
theorem bE.gy{v:af.D}(h:bE v):nY v.2.1 :=
 ⟨by have:=h.len;omega,by have:=h.cG;omega,h.ga,h.gT,fun i hi hk=>((h.ino i hi).plain hk).2.2,fun i hi hk=>((h.ino i hi).l5 hk).1,0,by
  have:=h.ga 0 (by have:=h.len;omega)
  rwa [show(J I v.2.1 0).1=1 from h.root.1] at this,h.root.2⟩
def bt(v:af.D)(c:aH.D)(x:aJ.D)(a:Option (Int×aL.D×Unit))(b:Option (af.D×aF.D×Unit))(Q:af.D→Prop):Prop :=
 ∃(code:Int) (w:af.D),a=some (code,(w,c,x,()),())∧b=some (cond (code==0) w v,(code,[],()),())∧(code=0→Q w)
theorem bt.no{v:af.D}{c:aH.D}{x:aJ.D}{a:Option (Int×aL.D×Unit)}{b:Option (af.D×aF.D×Unit)}{Q:af.D→Prop}(code:Int)(h0:code≠0)(ha:a=some (code,(v,c,x,()),()))(hb:b=some (v,(code,[],()),())):bt v c x a b Q :=
 ⟨code,v,ha,by rw [ca h0];exact hb,fun h=>absurd h h0⟩
def Gs(x:aJ.D):Int:=if aE x=1 then 2 else if aE x=10 then 3 else 1
def vA(x:aJ.D)(d:aI):Int:=if aE x=10 then 511 else if aE x=1∧cQ .and .i64 (e7 d) 1024≠0 then cQ .or .i64 (bQ x) 1024 else bQ x
def AF(c:aH.D)(d:aI):Int:=if cQ .and .i64 (e7 d) 1024≠0 then fj d else c.2.1
def gH(v:af.D)(c:aH.D)(x:aJ.D)(d:aI):aI:=(v.1,Gs x,vA x d,c.1,AF c d,if aE x=10 then iR x else [],[],0,0,())
def rk(x:aJ.D):Bool:=cond (aE x==10) (!jB (iR x)) (!c3 (bQ x) 0 2047)
structure Made(v:af.D)(c:aH.D)(x:aJ.D)(w:af.D):Prop where
 bad:rk x=false
 out:∃r i,l6 v.2.1 r∧bC r=2∧nameOf r≠[]∧bd v.2.1 (ch r)=some i∧kindOf (J I v.2.1 i)=2∧may c (J I v.2.1 i) 3=true∧(ak (J I v.2.1 i)).length<12∧v.2.1.length<24∧fE v<100000 ∧
  w=(v.1+1,v.2.1.set i (b2 (J I v.2.1 i) (ins (ak (J I v.2.1 i)) (nameOf r) v.1))++[gH v c x (J I v.2.1 i)],())∧e8 w.2.1=0∧dQ (v,c,eU x,false,())=some (r,())
theorem ahb(m:Nat)(a b):(lh (m+1)).bg a b=K6 (lh m) a b:=rfl
theorem ahc(m:Nat)(a b d):(lh (m+1)).hK a b d=K7 (lh m) a b d:=rfl
theorem ahd(m:Nat)(a b d e f):(jR (m+1)).k3 a b d e f=JU (jR m) a b d e f:=rfl
theorem ahe(m:Nat)(a b d e f):(jR (m+1)).gD a b d e f=JV (jR m) a b d e f:=rfl
theorem AG(v:af.D)(c:aH.D)(x:aJ.D)(id:Int)(hl:v.2.1.length≤1048576)(hc:c9 c=true){i:Nat}(h:bd v.2.1 id=some i):nM ((v,c,x,()),id,())=some (may c (J I v.2.1 i) 3,()):=by
 show K3 (v,c,x,()) id=_
 unfold K3
 show Option.bind (fC (v,id,())) _=_
 rw [m1 v id hl h]
 simp only [av,List.isEmpty_cons,Bool.not_false,cond_true]
 show Option.bind (pW (c,J I v.2.1 i,3,())) _=_
 rw [Ar c _ 3 hc];rfl
theorem ahf(v:af.D)(c:aH.D)(x:aJ.D)(hv:bE v)(hc:c9 c=true)(hx:ib x):bt v c x (zT ((v,c,x,()),())) (uD (v,c,x,())) (Made v c x):=by
 have b8:=hv.gy
 have hl:v.2.1.length≤1048576:=b8.len
 have au:=hx.path
 obtain ⟨q,hq,iq⟩:=jm 4
 have e4:zT ((v,c,x,()),())=cond (rk x) (some (22,(v,c,x,()),())) ((lh aQ).bg (v,c,x,()) x):=by
  show EP (lh aQ) (v,c,x,())=_
  unfold EP rk
  show cond (aE x==10) (Option.bind (xk (iR x,())) fun v1=>cond (!v1.1) _ (cond (!(aE x==10)) _ _)) (cond (!(aE x==10)) (Option.bind (eL (bQ x,0,2047,())) _) _)=_
  rw [MR _ (by have:=hx.sV;omega)]
  cases aE x==10
  ·simp only [cond_false,Bool.not_false,cond_true,av]
   rw [jA];rfl
  ·simp only [cond_true,Bool.not_true,cond_false,av]
 have dm:uD (v,c,x,())=cond (rk x) (some (v,(22,[],()),())) ((jR aQ).k3 v c x (0,([]:List I.D),()) (0,([]:aG),())):=by
  show Dh (jR aQ) v c x=_
  unfold Dh rk
  show cond (aE x==10) (Option.bind (zd (iR x,())) fun v1=>cond (!v1.1) _ (cond (!(aE x==10)) _ _)) (cond (!(aE x==10)) (Option.bind (ep (bQ x,0,2047,())) _) _)=_
  rw [Vd]
  cases aE x==10
  ·simp only [cond_false,Bool.not_false,cond_true,av]
   rw [jW];rfl
  ·simp only [cond_true,Bool.not_true,cond_false,av]
 rw [e4,dm]
 cases hb:rk x with
 | true=>exact bt.no 22 (by decide) rfl rfl
 | false =>
 simp only [cond_false]
 rw [hq,ahb,ahd]
 unfold K6 JU
 obtain ⟨r,dU,code,NG,NH,NI⟩:=V9 v c x (eU x) b8 hc (by omega)
 show bt v c x (Option.bind (vf ((v,c,x,()),eU x,())) _) (Option.bind (ux (v,c,eU x,())) _) _
 rw [NG,NH]
 simp only [av]
 by_cases bT:code=0
 case neg =>
  rw [cP bT]
  exact bt.no code bT rfl rfl
 obtain ⟨rfl,hr,gK,p_,sW⟩:=NI bT
 rw [dk bT]
 simp only [cond_false]
 obtain ⟨o4,jX,d,ag,fx,n2⟩:=hr.new gK p_
 have hdl:=bY ag
 show bt v c x (Option.bind (nM ((v,c,x,()),ch dU,())) _) (Option.bind (eS (v,ch dU,())) _) _
 rw [AG v c x _ hl hc ag,h_ v _ hl ag]
 simp only [av]
 rw [m0 c _ 3 hc]
 simp only [av]
 cases hm:may c (J I v.2.1 d) 3 with
 | false=>exact bt.no 13 (by decide) rfl rfl
 | true =>
 simp only [Bool.not_true,cond_false]
 show bt v c x (Option.bind (fC (v,ch dU,())) _) _ _
 rw [m1 v _ hl ag]
 simp only [av,List.isEmpty_cons,Bool.not_false,cond_true]
 have ia:=hv.ino d hdl.1
 have Wj:=(ia.dir fx).2.2.2
 show bt v c x (cond (((ak (J I v.2.1 d)).length:Int)==12) _ (cond ((v.2.1.length:Int)==24) _ (cond (fE v==100000) _ _))) (cond (decide (((ak (J I v.2.1 d)).length:Int)≥12)) _ (cond (decide ((v.2.1.length:Int)≥24)) _ (cond (decide (fE v≥100000)) _ _))) _
 by_cases lP:(ak (J I v.2.1 d)).length=12
 ·rw [show(((ak (J I v.2.1 d)).length:Int)==12)=true by rw [lP];rfl,decide_eq_true (by omega)]
  exact bt.no 28 (by decide) rfl rfl
 rw [show(((ak (J I v.2.1 d)).length:Int)==12)=false by rw [beq_eq_false_iff_ne];omega,decide_eq_false (show ¬((ak (J I v.2.1 d)).length:Int)≥12 by omega)]
 simp only [cond_false]
 have hlen:=hv.len
 have qB:=hv.next
 by_cases ahg:v.2.1.length=24
 ·rw [show((v.2.1.length:Int)==24)=true by rw [ahg];rfl,decide_eq_true (by omega)]
  exact bt.no 28 (by decide) rfl rfl
 rw [show((v.2.1.length:Int)==24)=false by rw [beq_eq_false_iff_ne];omega,decide_eq_false (show ¬(v.2.1.length:Int)≥24 by omega)]
 simp only [cond_false]
 by_cases NJ:fE v=100000
 ·rw [cF NJ,decide_eq_true (show fE v≥100000 by omega)]
  exact bt.no 28 (by decide) rfl rfl
 rw [ca NJ,decide_eq_false (show ¬fE v≥100000 by omega)]
 simp only [cond_false]
 obtain ⟨w,hw⟩:∃w:af.D,w=(v.1+1,v.2.1.set d (b2 (J I v.2.1 d) (ins (ak (J I v.2.1 d)) (nameOf dU) v.1))++[gH v c x (J I v.2.1 d)],()):=⟨_,rfl⟩
 have ahh:aK (v.1+1)=v.1+1:=ed (a:=fE v+1) (by omega) (by omega)
 have alz:aq 1000 (v.2.1++[gH v c x (J I v.2.1 d)]):=(hv.st.app (k:=100) (n:=gH v c x (J I v.2.1 d)) hv.free rfl (by
  show(if aE x=10 then iR x else []).length≤100
  have:=hx.sV
  split
  ·omega
  ·simp) (by omega) (fun _=>⟨rfl,rfl⟩)).mono (by omega)
 have hst:aq 1000 w.2.1:=by
  rw [hw]
  have aA:J I (v.2.1++[gH v c x (J I v.2.1 d)]) d=J I v.2.1 d:=NC hdl.1
  have:=(hv.st.app (k:=100) (n:=gH v c x (J I v.2.1 d)) hv.free rfl (by
   show(if aE x=10 then iR x else []).length≤100
   have:=hx.sV
   split
   ·omega
   ·simp) (by omega) (fun _=>⟨rfl,rfl⟩)).set (k:=1) (i:=d) (y:=b2 (J I v.2.1 d) (ins (ak (J I v.2.1 d)) (nameOf dU) v.1)) (by simp;omega) (by rw [aA];rfl) (by
    intro e he
    rcases rj.1 he with he | rfl
    ·obtain ⟨y,aN,xJ⟩:=n1.1 (hv.gT d hdl.1 e he)
     exact n1.2 ⟨y,List.mem_append_left _ aN,xJ⟩
    ·exact n1.2 ⟨gH v c x (J I v.2.1 d),List.mem_append_right _ (List.mem_singleton.2 rfl),rfl⟩) (fun hk=>absurd fx hk) (by
    rw [aA];show(ins (ak (J I v.2.1 d)) (nameOf dU) v.1).length≤_;rw [xT];omega) (by rw [aA];exact Nat.le_add_right _ _)
  rw [Wd hdl.1] at this
  exact this.mono (by omega)
 have hfin:∀m n,bt v c x ((lh (m+1)).hK (v,c,x,()) dU (gH v c x (J I v.2.1 d))) ((jR (n+1)).gD v (0,([]:List I.D),()) (0,([]:aG),()) dU (gH v c x (J I v.2.1 d))) (Made v c x):=by
  intro m n
  rw [ahc,ahe]
  unfold K7 JV
  rw [vv v hl (fun i hi=>Nat.le_trans (fN hi) b8.cG)]
  simp only [av]
  rw [ahh]
  show bt v c x (Option.bind (sB (((v.1+1,v.2.1,()),c,x,()),ch dU,nameOf dU,v.1,())) _) (Option.bind (oK ((v.1+1,v.2.1,()),gH v c x (J I v.2.1 d),())) _) _
  rw [Ny (v.1+1,v.2.1,()) c x (ch dU) (nameOf dU) v.1 hl ag (Nat.le_trans (fN hdl.1) b8.cG),ag0 (v.1+1,v.2.1,()) _ hl hv.free]
  simp only [av]
  have aA:J I (v.2.1++[gH v c x (J I v.2.1 d)]) d=J I v.2.1 d:=NC hdl.1
  have F2:=NA (v.1+1,v.2.1++[gH v c x (J I v.2.1 d)],()) (ch dU) (nameOf dU) v.1 (by simp;omega) (ag2 ag) (by
   show(ak (J I (v.2.1++[gH v c x (J I v.2.1 d)]) d)).length≤_
   rw [aA];exact Nat.le_trans (fN hdl.1) b8.cG) (by
   show ∀e,e∈ak (J I (v.2.1++[gH v c x (J I v.2.1 d)]) d)→_
   rw [aA];exact AD n2 fun e he=>hv.AE hdl.1 he)
  rw [show((v.1+1,v.2.1++[gH v c x (J I v.2.1 d)],()):af.D).2.1=v.2.1++[gH v c x (J I v.2.1 d)] from rfl,aA,Wd hdl.1,← hw] at F2
  show bt v c x _ (Option.bind (sc ((v.1+1,v.2.1++[gH v c x (J I v.2.1 d)],()),ch dU,nameOf dU,v.1,())) _) _
  rw [F2]
  simp only [av]
  rw [xU v w hst (by omega)]
  simp only [av]
  rw [cH (by simp;omega)]
  simp only [cond_true]
  show bt v c x (Option.bind (nN (((v.1+1,v.2.1.set d (b2 (J I v.2.1 d) (ins (ak (J I v.2.1 d)) (nameOf dU) v.1))++[gH v c x (J I v.2.1 d)],()),c,x,()),())) fun v2=>some (v2.1,((v.1+1,v.2.1.set d (b2 (J I v.2.1 d) (ins (ak (J I v.2.1 d)) (nameOf dU) v.1))++[gH v c x (J I v.2.1 d)],()),c,x,()),())) _ _
  rw [← hw,AA w c x hst (by omega)]
  exact⟨e8 w.2.1,w,rfl,rfl,fun h=>⟨hb,dU,d,hr,gK,p_,ag,fx,hm,by omega,by omega,by omega,hw,h,sW⟩⟩
 have hN:aE x≠10→0≤bQ x∧bQ x≤2047:=by
  intro hk
  unfold rk at hb
  rw [ca hk] at hb
  simp only [cond_false,Bool.not_eq_false'] at hb
  exact dR.1 hb
 have Gt:=ia.mode
 have NK:=ag9 Gt.1 Gt.2
 show bt v c x (cond (cQ .and .i64 (e7 (J I v.2.1 d)) 1024 != 0)
   (cond (aE x==1) ((lh (q+3)).hK (v,c,x,()) dU (v.1,2,cQ .or .i64 (bQ x) (cQ .and .i64 (e7 (J I v.2.1 d)) 1024),c.1,fj (J I v.2.1 d),[],[],0,0,()))
    (cond (aE x==10) ((lh (q+3)).hK (v,c,x,()) dU (v.1,3,511,c.1,fj (J I v.2.1 d),iR x,[],0,0,())) ((lh (q+3)).hK (v,c,x,()) dU (v.1,1,bQ x,c.1,fj (J I v.2.1 d),[],[],0,0,()))))
   (cond (aE x==1) ((lh (q+3)).hK (v,c,x,()) dU (v.1,2,cQ .or .i64 (bQ x) (cQ .and .i64 (e7 (J I v.2.1 d)) 1024),c.1,c.2.1,[],[],0,0,()))
    (cond (aE x==10) ((lh (q+3)).hK (v,c,x,()) dU (v.1,3,511,c.1,c.2.1,iR x,[],0,0,())) ((lh (q+3)).hK (v,c,x,()) dU (v.1,1,bQ x,c.1,c.2.1,[],[],0,0,())))))
  (cond (aE x==1) ((jR (q+3)).pO v x (0,([]:List I.D),()) (0,([]:aG),()) dU (J I v.2.1 d) (v.1,2,bQ x,c.1,c.2.1,[],[],0,0,())) ((jR (q+3)).pO v x (0,([]:List I.D),()) (0,([]:aG),()) dU (J I v.2.1 d) (v.1,1,bQ x,c.1,c.2.1,[],[],0,0,()))) (Made v c x)
 have wC:∀(n:aI),(jR (q+3)).pO v x (0,([]:List I.D),()) (0,([]:aG),()) dU (J I v.2.1 d) n=cond (aE x==10) ((jR (q+2)).gR v (0,([]:List I.D),()) (0,([]:aG),()) dU (J I v.2.1 d) (n.1,3,511,n.2.2.2.1,n.2.2.2.2.1,iR x,n.2.2.2.2.2.2.1,n.2.2.2.2.2.2.2.1,n.2.2.2.2.2.2.2.2.1,())) ((jR (q+2)).gR v (0,([]:List I.D),()) (0,([]:aG),()) dU (J I v.2.1 d) n):=fun n=>rfl
 have AH:∀(n:aI),(jR (q+2)).gR v (0,([]:List I.D),()) (0,([]:aG),()) dU (J I v.2.1 d) n=cond (cQ .and .i64 (e7 (J I v.2.1 d)) 1024 != 0)
   (cond (n.2.1==2) ((jR (q+1)).gD v (0,([]:List I.D),()) (0,([]:aG),()) dU (n.1,n.2.1,cQ .or .i64 n.2.2.1 1024,n.2.2.2.1,fj (J I v.2.1 d),n.2.2.2.2.2.1,n.2.2.2.2.2.2.1,n.2.2.2.2.2.2.2.1,n.2.2.2.2.2.2.2.2.1,()))
    ((jR (q+1)).gD v (0,([]:List I.D),()) (0,([]:aG),()) dU (n.1,n.2.1,n.2.2.1,n.2.2.2.1,fj (J I v.2.1 d),n.2.2.2.2.2.1,n.2.2.2.2.2.2.1,n.2.2.2.2.2.2.2.1,n.2.2.2.2.2.2.2.2.1,()))) ((jR (q+1)).gD v (0,([]:List I.D),()) (0,([]:aG),()) dU n):=fun n=>rfl
 simp only [wC,AH]
 have ic:=hfin (q+2) q
 unfold gH Gs vA AF at ic
 by_cases k1:aE x=1
 ·have gp:aE x≠10:=by omega
  have qa:=hN gp
  rw [cF k1,ca gp]
  rw [if_pos k1,if_neg gp,if_neg gp] at ic
  simp only [cond_true,cond_false]
  rcases NK with gn | gn
  ·rw [gn] at ic ⊢
   rw [if_neg (by simp),if_neg (by simp)] at ic
   rw [ag_ qa.1 qa.2]
   exact ic
  ·rw [gn] at ic ⊢
   rw [if_pos ⟨k1,by decide⟩,if_pos (by decide)] at ic
   exact ic
 ·rw [ca k1]
  rw [if_neg k1] at ic
  by_cases gp:aE x=10
  ·rw [cF gp]
   rw [if_pos gp,if_pos gp,if_pos gp] at ic
   simp only [cond_true,cond_false]
   rcases NK with gn | gn
   ·rw [gn] at ic ⊢
    rw [if_neg (by simp)] at ic
    exact ic
   ·rw [gn] at ic ⊢
    rw [if_pos (by decide)] at ic
    exact ic
  ·rw [ca gp]
   rw [if_neg gp,if_neg gp,if_neg gp,if_neg (fun h=>k1 h.1)] at ic
   simp only [cond_false]
   rcases NK with gn | gn
   ·rw [gn] at ic ⊢
    rw [if_neg (by simp)] at ic
    exact ic
   ·rw [gn] at ic ⊢
    rw [if_pos (by decide)] at ic
    exact ic
def kO(v:af.D)(i:Nat)(s:aG):af.D:=(v.1,goN (v.2.1.set i (b2 (J I v.2.1 i) (cg (ak (J I v.2.1 i)) s))) (c6 (ak (J I v.2.1 i)) s),())
structure AI(v:af.D)(c:aH.D)(x:aJ.D)(w:af.D):Prop where
 out:∃r i j,l6 v.2.1 r∧bC r=0∧nameOf r≠[]∧bd v.2.1 (ch r)=some i∧kindOf (J I v.2.1 i)=2∧c6 (ak (J I v.2.1 i)) (nameOf r)=bj r∧bd v.2.1 (bj r)=some j∧ak (J I v.2.1 j)=[] ∧
  (aE x=2→kindOf (J I v.2.1 j)=2)∧(aE x=8→kindOf (J I v.2.1 j)≠2)∧w=kO v i (nameOf r)
theorem ahi(m:Nat)(a b d):(oU (m+1)).bx a b d=La (oU m) a b d:=rfl
theorem ahj(m:Nat)(a b d):(oU (m+1)).da a b d=Lb (oU m) a b d:=rfl
theorem ahk(m:Nat)(a b d):(oU (m+1)).hg a b d=Lc (oU m) a b d:=rfl
theorem ahl(m:Nat)(a b d):(oU (m+1)).db a b d=Ld (oU m) a b d:=rfl
theorem ahm(m:Nat)(a b d e f g h):(qN (m+1)).da a b d e f g h=JX (qN m) a b d e f g h:=rfl
theorem ahn(m:Nat)(a b d e f g h):(qN (m+1)).hg a b d e f g h=JY (qN m) a b d e f g h:=rfl
theorem aho(m:Nat)(a b d e f g):(qN (m+1)).db a b d e f g=JZ (qN m) a b d e f g:=rfl
theorem ahp(v:af.D)(c:aH.D)(x:aJ.D)(hv:bE v)(hc:c9 c=true)(hx:ib x)(hk:aE x=2∨aE x=8):bt v c x (EZ ((v,c,x,()),())) (zv (v,c,x,())) (AI v c x):=by
 have b8:=hv.gy
 have hl:v.2.1.length≤1048576:=b8.len
 have au:=hx.path
 obtain ⟨q,hq,iq⟩:=jm 4
 show bt v c x (EY (oU aQ) (v,c,x,())) (Dk (qN aQ) v c x) _
 unfold EY Dk
 obtain ⟨r,⟨hr,_⟩,AJ,fF⟩:=xS v c x (eU x) false b8 hc (by omega)
 show bt v c x (Option.bind (lg ((v,c,x,()),eU x,false,())) _) (Option.bind (dQ (v,c,eU x,false,())) _) _
 rw [AJ,fF]
 simp only [av]
 show bt v c x (cond (bC r != 0) (some (bC r,(v,c,x,()),())) _) (cond (bC r != 0) (some (v,(bC r,[],()),())) _) _
 by_cases bT:bC r=0
 case neg =>
  rw [cP bT]
  exact bt.no (bC r) bT rfl rfl
 rw [dk bT]
 simp only [cond_false,ji]
 obtain ⟨j,hj⟩:=hr.there bT
 have hjl:=bY hj
 show bt v c x (Option.bind (fC (v,bj r,())) _) (Option.bind (eS (v,bj r,())) _) _
 rw [m1 v _ hl hj,h_ v _ hl hj]
 simp only [av,List.isEmpty_cons,Bool.not_false,cond_true]
 rw [hq,ahi]
 unfold La
 rw [ahj,ahm]
 show bt v c x (cond (aE x==2) (cond (bs (nameOf r) []) _ _) _) (cond (aE x==2) (cond (bs (nameOf r) []) _ _) _) _
 have ahq:nameOf r=[]→kindOf (J I v.2.1 j)=2:=by
  intro h
  obtain ⟨eX,h1,h2⟩:=hr.bare bT h
  rw [hj] at h1
  rw [aU h1];exact h2
 by_cases c5:aE x=2∧nameOf r=[]
 ·rw [cF c5.1,l7.2 c5.2]
  exact bt.no 16 (by decide) rfl rfl
 have nt:∀ {α : Type} (a b : α),cond (aE x==2) (cond (bs (nameOf r) []) a b) b=b:=by
  intro α a b
  by_cases h2:aE x=2
  ·rw [cF h2]
   have:bs (nameOf r) []=false:=by
    rw [← Bool.not_eq_true,l7];exact fun h=>c5 ⟨h2,h⟩
   rw [this];rfl
  ·rw [ca h2];rfl
 rw [nt,nt]
 unfold Lb JX
 rw [ahk,ahn]
 show bt v c x (cond (aE x==2) (cond (kindOf (J I v.2.1 j) != 2) _ _) _) (cond (aE x==2) (cond (kindOf (J I v.2.1 j) != 2) _ _) _) _
 by_cases hH:aE x=2∧kindOf (J I v.2.1 j)≠2
 ·rw [cF hH.1,cP hH.2]
  exact bt.no 20 (by decide) rfl rfl
 have Wk:∀ {α : Type} (a b : α),cond (aE x==2) (cond (kindOf (J I v.2.1 j) != 2) a b) b=b:=by
  intro α a b
  by_cases h2:aE x=2
  ·rw [cF h2,dk (Decidable.byContradiction fun h=>hH ⟨h2,h⟩)];rfl
  ·rw [ca h2];rfl
 rw [Wk,Wk]
 unfold Lc JY
 rw [ahl,aho]
 show bt v c x (cond (aE x==8) (cond (kindOf (J I v.2.1 j)==2) _ _) _) (cond (aE x==8) (cond (kindOf (J I v.2.1 j)==2) _ _) _) _
 by_cases b6:aE x=8∧kindOf (J I v.2.1 j)=2
 ·rw [cF b6.1,cF b6.2]
  exact bt.no 21 (by decide) rfl rfl
 have Wl:∀ {α : Type} (a b : α),cond (aE x==8) (cond (kindOf (J I v.2.1 j)==2) a b) b=b:=by
  intro α a b
  by_cases h2:aE x=8
  ·rw [cF h2,ca (fun h=>b6 ⟨h2,h⟩)];rfl
  ·rw [ca h2];rfl
 rw [Wl,Wl]
 have jg:nameOf r≠[]:=by
  intro h
  rcases hk with h2 | cV
  ·exact c5 ⟨h2,h⟩
  ·exact b6 ⟨cV,ahq h⟩
 obtain ⟨o4,jX,d,ag,fx,n2⟩:=hr.named bT jg
 have hdl:=bY ag
 have ia:=hv.ino d hdl.1
 unfold Ld JZ
 show bt v c x (Option.bind (nM ((v,c,x,()),ch r,())) _) (Option.bind (eS (v,ch r,())) _) _
 rw [AG v c x _ hl hc ag,h_ v _ hl ag]
 simp only [av]
 rw [m0 c _ 3 hc]
 simp only [av]
 cases hm:may c (J I v.2.1 d) 3 with
 | false=>exact bt.no 13 (by decide) rfl rfl
 | true =>
 simp only [Bool.not_true,cond_false]
 show bt v c x (Option.bind (fC (v,ch r,())) _) _ _
 rw [m1 v _ hl ag]
 simp only [av,List.isEmpty_cons,Bool.not_false,cond_true]
 show bt v c x (Option.bind (sC (c,J I v.2.1 d,J I v.2.1 j,())) _) _ _
 rw [Nd c _ _ hc,Nc c _ _ hc]
 simp only [av]
 cases ht:p2 c (J I v.2.1 d) (J I v.2.1 j) with
 | false=>exact bt.no 1 (by decide) rfl rfl
 | true =>
 simp only [Bool.not_true,cond_false]
 show bt v c x (cond (aE x==2) (cond (decide (((ak (J I v.2.1 j)).length:Int)>0)) _ _) _) (cond (decide (((ak (J I v.2.1 j)).length:Int)>0)) _ _) _
 rw [vv v hl (fun i hi=>Nat.le_trans (fN hi) b8.cG)]
 simp only [av]
 show bt v c x (cond (aE x==2) (cond (decide (((ak (J I v.2.1 j)).length:Int)>0)) (some (39,(v,c,x,()),())) (Option.bind (oT ((v,c,x,()),ch r,nameOf r,true,())) fun v4=>some (0,v4.1,()))) (Option.bind (oT ((v,c,x,()),ch r,nameOf r,true,())) fun v4=>some (0,v4.1,())))
  (cond (decide (((ak (J I v.2.1 j)).length:Int)>0)) (some (v,(39,[],()),())) (Option.bind (oN (v,ch r,nameOf r,())) fun v5=>some (v5.1,(0,[],()),()))) _
 rw [Nz v c x _ _ true hl b8.cG ag,NF v _ _ hl b8.cG ag ia.sorted]
 simp only [av,cond_true]
 by_cases h0:ak (J I v.2.1 j)=[]
 ·rw [h0,show decide ((([]:List ay.D).length:Int)>0)=false from rfl]
  have:AI v c x (kO v d (nameOf r)):=⟨r,d,j,hr,bT,jg,ag,fx,n2,hj,h0,fun h=>Decidable.byContradiction fun h'=>hH ⟨h,h'⟩,fun h h'=>b6 ⟨h,h'⟩,rfl⟩
  refine⟨0,kO v d (nameOf r),?_,rfl,fun _=>this⟩
  cases aE x==2 <;> rfl
 ·have ahr:0<(ak (J I v.2.1 j)).length:=List.length_pos_iff.2 h0
  have lR:kindOf (J I v.2.1 j)=2:=Decidable.byContradiction fun h=>h0 ((hv.ino j hjl.1).plain h).2.2
  have hk2:aE x=2:=by
   rcases hk with h | h
   ·exact h
   ·exact absurd ⟨h,lR⟩ b6
  rw [decide_eq_true (by omega),cF hk2]
  exact bt.no 39 (by decide) rfl rfl
def vB(v:af.D)(i:Nat)(s:aG)(id:Int):af.D:=(v.1,v.2.1.set i (b2 (J I v.2.1 i) (ins (ak (J I v.2.1 i)) s id)),())
structure Gu(v:af.D)(c:aH.D)(x:aJ.D)(w:af.D):Prop where
 out:∃r t i j,l6 v.2.1 r∧bC r=0∧bd v.2.1 (bj r)=some j∧kindOf (J I v.2.1 j)≠2∧l6 v.2.1 t∧bC t=2∧nameOf t≠[]∧bd v.2.1 (ch t)=some i∧kindOf (J I v.2.1 i)=2 ∧
  (ak (J I v.2.1 i)).length<12∧w=vB v i (nameOf t) (bj r)∧e8 w.2.1=0∧dQ (v,c,eU x,false,())=some (r,())∧dQ (v,c,iR x,false,())=some (t,())
theorem ahs{v:af.D}(hv:bE v){i:Nat}(hi:i<v.2.1.length)(hk:kindOf (J I v.2.1 i)=2)(s:aG){id:Int}(b6:(bd v.2.1 id).isSome=true):aq 1000 (vB v i s id).2.1:=by
 have:=hv.st.set (k:=1) (i:=i) (y:=b2 (J I v.2.1 i) (ins (ak (J I v.2.1 i)) s id)) hi rfl (by
  intro e he
  rcases rj.1 he with he | rfl
  ·exact hv.gT i hi e he
  ·exact b6) (fun h=>absurd hk h) (by show(ins (ak (J I v.2.1 i)) s id).length≤_;rw [xT];omega) (Nat.le_add_right _ _)
 exact this.mono (by omega)
theorem aht(v:af.D)(c:aH.D)(x:aJ.D)(hv:bE v)(hc:c9 c=true)(hx:ib x):bt v c x (E0 ((v,c,x,()),())) (Dl (v,c,x,())) (Gu v c x):=by
 have b8:=hv.gy
 have hl:v.2.1.length≤1048576:=b8.len
 have au:=hx.path
 have ahu:=hx.sV
 show bt v c x (Lf (v,c,x,())) (J1 v c x) _
 unfold Lf J1
 obtain ⟨r,⟨hr,_⟩,AJ,fF⟩:=xS v c x (eU x) false b8 hc (by omega)
 show bt v c x (Option.bind (lg ((v,c,x,()),eU x,false,())) _) (Option.bind (dQ (v,c,eU x,false,())) _) _
 rw [AJ,fF]
 simp only [av]
 show bt v c x (cond (bC r != 0) (some (bC r,(v,c,x,()),())) _) (cond (bC r != 0) (some (v,(bC r,[],()),())) _) _
 by_cases bT:bC r=0
 case neg =>
  rw [cP bT]
  exact bt.no (bC r) bT rfl rfl
 rw [dk bT]
 simp only [cond_false]
 obtain ⟨j,hj⟩:=hr.there bT
 have hjl:=bY hj
 show bt v c x (Option.bind (vi (v,bj r,())) _) (Option.bind (xd (v,bj r,())) _) _
 rw [F_ v _ hl,VK v _ hl]
 simp only [av]
 cases NL:ln v.2.1 (bj r) with
 | true=>exact bt.no 1 (by decide) rfl rfl
 | false =>
 simp only [cond_false]
 have lR:kindOf (J I v.2.1 j)≠2:=by
  unfold ln at NL
  rw [hj] at NL
  exact beq_eq_false_iff_ne.1 NL
 obtain ⟨t,dn,code,NG,NH,NI⟩:=V9 v c x (iR x) b8 hc (by omega)
 show bt v c x (Option.bind (vf ((v,c,x,()),iR x,())) _) (Option.bind (ux (v,c,iR x,())) _) _
 rw [NG,NH]
 simp only [av]
 by_cases Gv:code=0
 case neg =>
  rw [cP Gv]
  exact bt.no code Gv rfl rfl
 obtain ⟨rfl,ht,Wm,htn,sW⟩:=NI Gv
 rw [dk Gv]
 simp only [cond_false]
 obtain ⟨o4,jX,d,ag,fx,n2⟩:=ht.new Wm htn
 have hdl:=bY ag
 show bt v c x (Option.bind (nM ((v,c,x,()),ch dn,())) _) (Option.bind (eS (v,ch dn,())) _) _
 rw [AG v c x _ hl hc ag,h_ v _ hl ag]
 simp only [av]
 rw [m0 c _ 3 hc]
 simp only [av]
 cases hm:may c (J I v.2.1 d) 3 with
 | false=>exact bt.no 13 (by decide) rfl rfl
 | true =>
 simp only [Bool.not_true,cond_false]
 show bt v c x (Option.bind (fC (v,ch dn,())) _) _ _
 rw [m1 v _ hl ag]
 simp only [av,List.isEmpty_cons,Bool.not_false,cond_true]
 have ia:=hv.ino d hdl.1
 have Wj:=(ia.dir fx).2.2.2
 show bt v c x (cond (((ak (J I v.2.1 d)).length:Int)==12) _ _) (cond (decide (((ak (J I v.2.1 d)).length:Int)≥12)) _ _) _
 by_cases lP:(ak (J I v.2.1 d)).length=12
 ·rw [show(((ak (J I v.2.1 d)).length:Int)==12)=true by rw [lP];rfl,decide_eq_true (by omega)]
  exact bt.no 28 (by decide) rfl rfl
 rw [show(((ak (J I v.2.1 d)).length:Int)==12)=false by rw [beq_eq_false_iff_ne];omega,decide_eq_false (show ¬((ak (J I v.2.1 d)).length:Int)≥12 by omega)]
 simp only [cond_false]
 rw [vv v hl (fun i hi=>Nat.le_trans (fN hi) b8.cG)]
 simp only [av]
 have hnl:=Nat.le_trans (fN hdl.1) b8.cG
 show bt v c x (Option.bind (sB ((v,c,x,()),ch dn,nameOf dn,bj r,())) _) (Option.bind (sc (v,ch dn,nameOf dn,bj r,())) _) _
 rw [Ny v c x _ _ _ hl ag hnl,NA v _ _ _ hl ag hnl (AD n2 fun e he=>hv.AE hdl.1 he)]
 simp only [av]
 show bt v c x (Option.bind (nN ((vB v d (nameOf dn) (bj r),c,x,()),())) fun bp=>some (bp.1,(vB v d (nameOf dn) (bj r),c,x,()),())) (Option.bind (qJ (v,vB v d (nameOf dn) (bj r),())) fun dC=>some (dC.1,dC.2.1,())) _
 have hst:=ahs hv hdl.1 fx (nameOf dn) (id:=bj r) (by rw [hj];rfl)
 rw [AA _ c x hst (by omega),xU v _ hst (by omega)]
 exact⟨_,_,rfl,rfl,fun h=>⟨r,dn,d,j,hr,bT,hj,lR,ht,Wm,htn,ag,fx,by omega,rfl,h,fF,sW⟩⟩
def n3(l:List aI):Nat→Int→Int→Bool
 | 0,_,_=>false
 | k+1,id,top=>cond (id==top) true (cond (id==1) false (n3 l k (gS l id) top))
theorem ahv(v:af.D)(id top:Int)(hl:v.2.1.length≤1048576)(hn:dy v.2.1≤1048576):zw (v,id,top,())=some (n3 v.2.1 (v.2.1.length+1) id top,()):=by
 show Dn (uG aQ) v id top=_
 unfold Dn
 have key:∀(r k m:Nat) (id:Int),k+r=v.2.1.length+1→r<m→uG m id top (k:Int) v=some (n3 v.2.1 r id top,()):=by
  intro r
  induction r with
  | zero =>
   intro k m id hk hm
   obtain ⟨m,rfl,_⟩:=fuel hm
   simp only [uG,Dp]
   rw [decide_eq_false (by omega)];rfl
  | succ r ih =>
   intro k m id hk hm
   obtain ⟨m,rfl,pz⟩:=fuel hm
   simp only [uG,Dp]
   rw [decide_eq_true (show(k:Int)≤(v.2.1.length:Int) by omega),Ni v id hl hn,de k (by omega)]
   simp only [cond_true,av]
   rw [ih (k+1) m _ (by omega) (by omega),n3]
   cases id==top <;> cases id==1 <;> rfl
 exact key (v.2.1.length+1) 0 aQ id (by omega) (jz (by omega))
theorem NM{α : Type}{f : α → Nat} : ∀ {l:List α},(∀x,x∈l→f x=0)→(l.map f).sum=0
 | [],_=>rfl
 | x :: l,h=>by
  simp only [List.map_cons,List.sum_cons]
  rw [h x List.mem_cons_self,NM fun y aN=>h y (List.mem_cons_of_mem _ aN)]
def up(l:List aI):Nat→Int→Int
 | 0,d=>d
 | k+1,d=>up l k (gS l d)
theorem NN{α : Type}(f : α → Nat):∀(l:List α) (i j:Nat) (hi:i<l.length) (hj:j<l.length),i<j→f l[i]+f l[j]≤(l.map f).sum
 | [],_,_,hi,_,_=>by simp at hi
 | x :: l,i,j+1,hi,hj,iV=>by
  cases i with
  | zero =>
   simp only [List.getElem_cons_zero,List.getElem_cons_succ,List.map_cons,List.sum_cons]
   have:=F4 (f:=f) (List.getElem_mem (l:=l) (by simpa using hj:j<l.length))
   omega
  | succ i =>
   simp only [List.getElem_cons_succ,List.map_cons,List.sum_cons]
   have:=NN f l i j (by simpa using hi) (by simpa using hj) (by omega)
   omega
theorem NO{N:List ay.D}{id:Int} : nX N id=true↔0<dx N id:=by
 constructor
 ·intro h
  obtain ⟨j,h1,h2,_⟩:=Ga h
  unfold lp at h2
  exact List.length_pos_of_mem (List.mem_filter.2 ⟨cJ h1,h2⟩)
 ·intro h
  obtain ⟨d,ag⟩:=List.exists_mem_of_length_pos h
  obtain ⟨h1,h2⟩:=List.mem_filter.1 ag
  obtain ⟨i,hi,he⟩:=fw h1
  cases hb:nX N id with
  | true=>rfl
  | false =>
   have:=Nh hb i hi
   unfold lp at this
   rw [he,h2] at this;cases this
theorem Gw{l:List aI}(ag:h9 l){b d:Int}(h1:cl l d=1)(h:E l b d):gS l d=b:=by
 obtain ⟨i,e,hi,he,rfl⟩:=h
 obtain ⟨bI,mX⟩:=bY hi
 have hci:0<dx (ak (J I l i)) e.2.1:=List.length_pos_of_mem (List.mem_filter.2 ⟨he,by simp⟩)
 unfold gS
 cases au:sP l e.2.1 with
 | none =>
  have:=l2.1 au i bI
  rw [NO.2 hci] at this;cases this
 | some j =>
  obtain ⟨hj,ahw,_⟩:=iy.1 au
  have Wn:=NO.1 ahw
  have:j=i:=by
   refine Decidable.byContradiction fun hne=>?_
   rcases Nat.lt_or_gt_of_ne hne with h | h
   ·have:=NN (fun x=>dx (ak x) e.2.1) l j i hj bI h
    rw [c8 hj] at Wn
    rw [c8 bI] at hci
    unfold cl at h1
    have h2:dx (ak l[j]) e.2.1+dx (ak l[i]) e.2.1≤(l.map fun x=>dx (ak x) e.2.1).sum:=this
    omega
   ·have:=NN (fun x=>dx (ak x) e.2.1) l i j bI hj h
    rw [c8 hj] at Wn
    rw [c8 bI] at hci
    unfold cl at h1
    have h2:dx (ak l[i]) e.2.1+dx (ak l[j]) e.2.1≤(l.map fun x=>dx (ak x) e.2.1).sum:=this
    omega
  subst this
  exact mX
theorem bE.NP{v:af.D}(h:bE v){a:Int} : ¬dt v.2.1 a 1:=by
 intro hb
 have hE:∀b,¬E v.2.1 b 1:=by
  rintro b ⟨i,d,hi,ag,he⟩
  exact((h.ino i (bY hi).1).names d ag).2.1 he
 cases hb with
 | single h=>exact hE _ h
 | tail _ h=>exact hE _ h
theorem bE.Wo{v:af.D}(h:bE v){b d:Int}(he:E v.2.1 b d):d≠1:=by
 rintro rfl
 exact h.NP (.single he)
theorem bE.NQ{v:af.D}(h:bE v){d:Int}(ag:kN v.2.1 d)(h1:d≠1):cl v.2.1 d=1:=by
 obtain ⟨i,hi,hk⟩:=ag
 obtain ⟨bI,b6⟩:=bY hi
 have:=h.once i (by
  rcases Nat.eq_zero_or_pos i with h0 | h0
  ·subst h0
   exact absurd ((show(J I v.2.1 0).1=1 from h.root.1).symm.trans b6).symm h1
  ·exact h0) bI hk
 rwa [b6] at this
theorem bE.ahx{v:af.D}(h:bE v){b d:Int}(he:E v.2.1 b d):kN v.2.1 b:=by
 obtain ⟨i,e,hi,hm,_⟩:=he
 refine⟨i,hi,Decidable.byContradiction fun hk=>?_⟩
 rw [((h.ino i (bY hi).1).plain hk).2.2] at hm
 simp at hm
theorem bE.ahy{v:af.D}(h:bE v){a d:Int}(ag:kN v.2.1 d)(h1:d≠1):dt v.2.1 a d↔a=gS v.2.1 d∨dt v.2.1 a (gS v.2.1 d):=by
 have ho:=h.NQ ag h1
 constructor
 ·intro hb
  cases hb with
  | single he=>exact .inl (Gw h.ga ho he).symm
  | tail hb he=>rw [Gw h.ga ho he];exact .inr hb
 ·intro hb
  have hE:E v.2.1 (gS v.2.1 d) d:=by
   cases au:sP v.2.1 d with
   | none =>
    exfalso
    have h0:=l2.1 au
    have:cl v.2.1 d=0:=by
     unfold cl
     refine NM fun x hx=>?_
     obtain ⟨i,hi,aA⟩:=fw hx
     have:=h0 i hi
     rw [aA] at this
     refine Decidable.byContradiction fun hc=>?_
     rw [NO.2 (by omega)] at this;cases this
    omega
   | some i =>
    obtain ⟨hi,hh,_⟩:=iy.1 au
    obtain ⟨j,hj,Wp,_⟩:=Ga hh
    unfold gS
    rw [au]
    exact⟨i,J ay (ak (J I v.2.1 i)) j,h.ga i hi,cJ hj,by unfold lp at Wp;simpa using Wp⟩
  rcases hb with rfl | hb
  ·exact .single hE
  ·exact .tail hb hE
theorem ahz{v:af.D}(h:bE v)(top:Int):∀(n k:Nat) (d:Int),kN v.2.1 d→up v.2.1 n d=1→n<k→(n3 v.2.1 k d top=true↔d=top∨dt v.2.1 top d):=by
 intro n
 induction n with
 | zero =>
  intro k d ag hu hk
  obtain ⟨k,rfl,_⟩:=fuel hk
  have hu:d=1:=hu
  subst hu
  rw [n3]
  by_cases h1:(1:Int)=top
  ·rw [cF h1];exact⟨fun _=>.inl h1,fun _=>rfl⟩
  ·rw [ca h1]
   exact⟨fun h=>(by cases h),fun h'=>h'.elim (fun h=>absurd h h1) fun hb=>absurd hb h.NP⟩
 | succ n ih =>
  intro k d ag hu hk
  obtain ⟨k,rfl,eb⟩:=fuel hk
  rw [n3]
  by_cases h1:d=top
  ·rw [cF h1];exact⟨fun _=>.inl h1,fun _=>rfl⟩
  ·rw [ca h1]
   by_cases h2:d=1
   ·rw [cF h2]
    subst h2
    exact⟨fun h=>(by cases h),fun h'=>h'.elim (fun h=>absurd h h1) fun hb=>absurd hb h.NP⟩
   ·rw [ca h2]
    simp only [cond_false]
    rw [ih k (gS v.2.1 d) (Au h.gy _) hu (by omega),h.ahy ag h2]
    constructor
    ·rintro (h | h)
     ·exact .inr (.inl h.symm)
     ·exact .inr (.inr h)
    ·rintro (h | h | h)
     ·exact absurd h h1
     ·exact .inl h.symm
     ·exact .inr h
theorem up_add(l:List aI)(a:Nat):∀(b:Nat) (d:Int),up l (a+b) d=up l a (up l b d)
 | 0,_=>rfl
 | b+1,d=>up_add l a b (gS l d)
theorem bE.ahA{v:af.D}(h:bE v){d:Int}(ag:kN v.2.1 d):∃n,up v.2.1 n d=1:=by
 obtain ⟨i,hi,hk⟩:=ag
 obtain ⟨bI,b6⟩:=bY hi
 rcases Nat.eq_zero_or_pos i with h0 | h0
 ·subst h0
  exact⟨0,b6.symm.trans (show(J I v.2.1 0).1=1 from h.root.1)⟩
 ·have hb:=h.reach i h0 bI
  rw [b6] at hb
  have key:∀d,dt v.2.1 1 d→kN v.2.1 d→∃n,up v.2.1 n d=1:=by
   intro d hb
   induction hb with
   | single he =>
    intro ag
    have h1:=h.Wo he
    exact⟨1,Gw h.ga (h.NQ ag h1) he⟩
   | tail hb he ih =>
    intro ag
    have h1:=h.Wo he
    obtain ⟨n,hn⟩:=ih (h.ahx he)
    exact⟨n+1,by show up v.2.1 n (gS v.2.1 _)=1;rw [Gw h.ga (h.NQ ag h1) he];exact hn⟩
  exact key d hb ⟨i,hi,hk⟩
theorem least{P:Nat→Prop} : ∀n,P n→∃m,P m∧∀k,k<m→¬P k:=by
 intro n
 induction n using Nat.strongRecOn with
 | _ n ih =>
  intro hn
  by_cases h:∃k,k<n∧P k
  ·obtain ⟨k,hk,au⟩:=h
   exact ih k hk au
  ·exact⟨n,hn,fun k hk au=>h ⟨k,hk,au⟩⟩
theorem Wq{v:af.D}(h:bE v):∀(n:Nat) {d:Int},kN v.2.1 d→kN v.2.1 (up v.2.1 n d)
 | 0,_,ag=>ag
 | n+1,d,_=>Wq h n (Au h.gy d)
theorem bE.ahB{v:af.D}(h:bE v){d:Int}(ag:kN v.2.1 d):∃n,n<v.2.1.length∧up v.2.1 n d=1:=by
 obtain ⟨ahC,h0⟩:=h.ahA ag
 obtain ⟨n,hn,ahD⟩:=least (P:=fun n=>up v.2.1 n d=1) ahC h0
 refine⟨n,?_,hn⟩
 have hH:((List.range (n+1)).map fun i=>up v.2.1 i d).Nodup:=by
  unfold List.Nodup
  rw [List.pairwise_iff_getElem]
  intro i j hi hj iV he
  simp only [List.length_map,List.length_range] at hi hj
  simp only [List.getElem_map,List.getElem_range] at he
  refine ahD (n-(j-i)) (by omega) ?_
  show up v.2.1 (n-(j-i)) d=1
  rw [show n-(j-i)=(n-j)+i by omega,up_add,he,← up_add,show n-j+j=n by omega]
  exact hn
 have kY:((List.range (n+1)).map fun i=>up v.2.1 i d)⊆v.2.1.map fun x=>x.1:=by
  intro a ha
  obtain ⟨i,_,rfl⟩:=List.mem_map.1 ha
  obtain ⟨j,hj,_⟩:=Wq h i ag
  obtain ⟨h1,h2⟩:=bY hj
  exact List.mem_map.2 ⟨_,cJ h1,h2⟩
 have:=hH.length_le_of_subset kY
 simp only [List.length_map,List.length_range] at this
 omega
theorem Wr{v:af.D}(h:bE v){d:Int}(ag:kN v.2.1 d)(top:Int):n3 v.2.1 (v.2.1.length+1) d top=true↔d=top∨dt v.2.1 top d:=by
 obtain ⟨n,h1,h2⟩:=h.ahB ag
 exact ahz h top n _ d ag h2 (by omega)
theorem xV{N:List ay.D}(t:aG)(h:jo N):N.takeWhile (dZ t)=N.filter (dZ t)∧N.dropWhile (dZ t)=N.filter fun d => !dZ t d:=by
 induction N with
 | nil=>exact⟨rfl,rfl⟩
 | cons d r ih =>
  obtain ⟨h1,h2⟩:=List.pairwise_cons.1 h
  obtain ⟨i1,i2⟩:=ih h2
  rw [List.takeWhile_cons,List.dropWhile_cons,List.filter_cons,List.filter_cons]
  cases ag:dZ t d with
  | true=>simp [i1,i2]
  | false =>
   have bS:∀e,e∈r→dZ t e=false:=by
    intro e he
    have h3:=h1 e he
    cases hk:dZ t e with
    | false=>rfl
    | true =>
     have:=At h3 hk
     unfold dZ at ag
     rw [ag] at this;cases this
   have f1:r.filter (dZ t)=[]:=List.filter_eq_nil_iff.2 fun e he=>by rw [bS e he];simp
   have f2:(r.filter fun d => !dZ t d)=r:=List.filter_eq_self.2 fun e he=>by rw [bS e he];rfl
   simp [f1,f2]
theorem vC{N:List ay.D}(h:jo N)(s:aG):jo (cg N s):=List.Pairwise.sublist List.filter_sublist h
theorem ahE{N:List ay.D}(h:jo N){r t:aG}{id:Int}(hne:t≠r):cg (ins N t id) r=ins (cg N r) t id:=by
 unfold ins
 rw [(xV t h).1,(xV t h).2,(xV t (vC h r)).1,(xV t (vC h r)).2]
 unfold cg
 rw [List.filter_append,List.filter_append,List.filter_cons,List.filter_nil,List.filter_filter,List.filter_filter,List.filter_filter,List.filter_filter]
 have:bs t r=false:=by unfold bs;simpa using hne
 rw [this]
 simp only [Bool.not_false,if_true]
 congr 1
 ·congr 1
  exact List.filter_congr fun d _=>Bool.and_comm _ _
 ·exact List.filter_congr fun d _=>Bool.and_comm _ _
theorem Ws{N:List ay.D}(h:jo N){t:aG}{id:Int}(hn:∀d,d∈N→d.1≠t):jo (ins N t id):=by
 unfold ins
 rw [(xV t h).1,(xV t h).2]
 unfold jo
 rw [List.append_assoc,List.pairwise_append]
 refine⟨List.Pairwise.sublist List.filter_sublist h,?_,fun a ha b hb=>?_⟩
 ·rw [List.singleton_append,List.pairwise_cons]
  refine⟨fun b hb=>?_,List.Pairwise.sublist List.filter_sublist h⟩
  obtain ⟨h1,h2⟩:=List.mem_filter.1 hb
  unfold dZ at h2
  rw [Nl (hn b h1)]
  exact h2
 ·obtain ⟨h1,h2⟩:=List.mem_filter.1 ha
  have h2:dz a.1 t=true:=h2
  rcases List.mem_append.1 hb with hb | hb
  ·simp only [List.mem_singleton] at hb
   subst hb;exact h2
  ·obtain ⟨h3,h4⟩:=List.mem_filter.1 hb
   unfold dZ at h4
   refine At h2 ?_
   rw [Nl (hn b h3)]
   exact h4
theorem Gz{N:List ay.D}(h:jo N){d:ay.D}(ag:d∈N):c6 N d.1=d.2.1:=by
 rw [look_eq]
 induction N with
 | nil=>simp at ag
 | cons e r ih =>
  obtain ⟨h1,h2⟩:=List.pairwise_cons.1 h
  rw [AB]
  rcases List.mem_cons.1 ag with rfl | ag
  ·have:bs d.1 d.1=true:=by unfold bs;simp
   rw [this];rfl
  ·have:bs e.1 d.1=false:=by unfold bs;simpa using Gf (h1 d ag)
   rw [this]
   exact ih h2 ag
theorem ahF{N:List ay.D}{s:aG} : ∀d,d∈cg N s→d.1≠s:=by
 intro d ag
 have:=(List.mem_filter.1 ag).2
 unfold bs at this
 simpa using this
theorem sX{N:List ay.D}{s:aG}{d:ay.D}(h:d∈cg N s):d∈N:=(List.mem_filter.1 h).1
def dE(l:List aI)(ir:Nat)(cA:aG):List aI:=l.set ir (b2 (J I l ir) (cg (ak (J I l ir)) cA))
def ie(l:List aI)(it:Nat)(d_:aG)(bG:Int):List aI:=l.set it (b2 (J I l it) (ins (ak (J I l it)) d_ bG))
def eO(l:List aI)(ir:Nat)(cA:aG)(it:Nat)(d_:aG)(bG:Int):List aI:=ie (dE l ir cA) it d_ bG
structure sY(l:List aI)(rd jE:Int)(ir it:Nat)(cA d_:aG)(bG:Int):Prop where
 st:aq 1000 l
 hr:bd l rd=some ir
 ht:bd l jE=some it
 AK:kindOf (J I l ir)=2
 NR:kindOf (J I l it)=2
 Jz:jo (ak (J I l ir))
 ahG:jo (ak (J I l it))
 look:c6 (ak (J I l ir)) cA=bG
 Wt:bG≠0
 ex:(bd l bG).isSome=true
 no:∀d,d∈ak (J I l it)→d.1≠d_
 ne:ir=it→cA≠d_
theorem sZ(x:aI)(N:List ay.D):(b2 x N).1=x.1:=rfl
theorem AL{l:List aI}{i:Nat}(N:List ay.D)(hi:i<l.length)(id:Int):bd (l.set i (b2 (J I l i) N)) id=bd l id:=ri hi (sZ _ N) id
theorem NS{l:List aI}{ir:Nat}{cA:aG}(hi:ir<l.length)(id:Int):bd (dE l ir cA) id=bd l id:=AL _ hi id
theorem Wu{l:List aI}{it:Nat}{d_:aG}{bG:Int}(hi:it<l.length)(id:Int):bd (ie l it d_ bG) id=bd l id:=AL _ hi id
theorem ahH{l:List aI}{rd jE:Int}{ir it:Nat}{cA d_:aG}{bG:Int}(h:sY l rd jE ir it cA d_ bG):dE (ie l it d_ bG) ir cA=eO l ir cA it d_ bG:=by
 have hr:=(bY h.hr).1
 have ht:=(bY h.ht).1
 unfold eO dE ie
 rw [gb ht,gb hr]
 by_cases he:it=ir
 ·subst he
  rw [if_pos rfl,if_pos rfl,List.set_set,List.set_set,kn,kn,ahE h.Jz (fun e=>h.ne rfl e.symm)]
  rfl
 ·rw [if_neg he,if_neg (fun e=>he e.symm),List.set_comm _ _ he]
theorem Wv{l:List aI}{rd jE:Int}{ir it:Nat}{cA d_:aG}{bG:Int}(h:sY l rd jE ir it cA d_ bG):aq 1001 (dE l ir cA)∧aq 1003 (eO l ir cA it d_ bG):=by
 have hr:=(bY h.hr).1
 have ht:=(bY h.ht).1
 have h1:aq 1001 (dE l ir cA):=h.st.set (k:=1) hr rfl (fun d ag=>h.st.gT ir hr d (sX ag)) (fun hk=>absurd h.AK hk) (Nat.le_trans (vy _ _) (by omega)) (Nat.le_add_right _ _)
 have aA:kindOf (J I (dE l ir cA) it)=2∧(J I (dE l ir cA) it).1=jE:=by
  unfold dE
  rw [gb hr]
  split
  ·rename_i he;exact⟨h.AK,by show(J I l ir).1=jE;rw [he];exact(bY h.ht).2⟩
  ·exact⟨h.NR,(bY h.ht).2⟩
 have hex:∀id,(bd (dE l ir cA) id).isSome=(bd l id).isSome:=fun id=>by rw [NS hr]
 refine⟨h1,(h1.set (k:=1) (i:=it) (y:=b2 (J I (dE l ir cA) it) (ins (ak (J I (dE l ir cA) it)) d_ bG)) (by unfold dE;rw [List.length_set];exact ht) rfl (fun d ag=>?_) (fun hk=>absurd aA.1 hk) (by rw [kn,xT];omega) (Nat.le_add_right _ _)).mono (by omega)⟩
 rcases rj.1 ag with ag | rfl
 ·exact h1.gT it (by unfold dE;rw [List.length_set];exact ht) d ag
 ·rw [hex];exact h.ex
theorem ahI(m:Nat)(a b d):(jl (m+1)).oV a b d=Lk (jl m) a b d:=rfl
theorem ahJ(m:Nat)(a b d e):(jl (m+1)).jS a b d e=Lj (jl m) a b d e:=rfl
theorem ahK(m:Nat)(a b d e):(jl (m+1)).gp a b d e=Li (jl m) a b d e:=rfl
theorem ahL(m:Nat)(a b d):(jl (m+1)).da a b d=Lh (jl m) a b d:=rfl
theorem ahM(m:Nat)(a b d e f g):(gE (m+1)).mO a b d e f g=J6 (gE m) a b d e f g:=rfl
theorem ahN(m:Nat)(a b d e f g h i):(gE (m+1)).J2 a b d e f g h i=J7 (gE m) a b d e f g h i:=rfl
theorem ahO(m:Nat)(a b d e f g h i):(gE (m+1)).oJ a b d e f g h i=J5 (gE m) a b d e f g h i:=rfl
theorem ahP(m:Nat)(a b d e f g h i):(gE (m+1)).gR a b d e f g h i=J4 (gE m) a b d e f g h i:=rfl
theorem ahQ(m:Nat)(a b d e f g):(gE (m+1)).da a b d e f g=J3 (gE m) a b d e f g:=rfl
theorem Ww{n:Int}{l:List aI}(c:aH.D)(x:aJ.D)(r t:aV.D){ir it:Nat}(h:sY l (ch r) (ch t) ir it (nameOf r) (nameOf t) (bj r))(m:Nat) :
  (jl (m+1)).oV ((n,l,()),c,x,()) r t=some (e8 (eO l ir (nameOf r) it (nameOf t) (bj r)),((n,eO l ir (nameOf r) it (nameOf t) (bj r),()),c,x,()),()):=by
 have hr:=(bY h.hr).1
 have ht:=(bY h.ht).1
 obtain ⟨s1,s2⟩:=Wv h
 have jc:=h.st.len
 have og:=h.st.cG
 have pv:=s1.len
 have Bu:=s1.cG
 rw [ahI]
 unfold Lk
 show Option.bind (oT (((n,l,()),c,x,()),ch r,nameOf r,false,())) _=_
 rw [Nz (n,l,()) c x _ _ false (show l.length≤1048576 by omega) (show dy l≤1048576 by omega) h.hr]
 simp only [av,cond_false]
 show Option.bind (sB (((n,dE l ir (nameOf r),()),c,x,()),ch t,nameOf t,bj r,())) _=_
 have js:bd (dE l ir (nameOf r)) (ch t)=some it:=by rw [NS hr];exact h.ht
 rw [Ny (n,dE l ir (nameOf r),()) c x _ _ _ (show(dE l ir (nameOf r)).length≤1048576 by omega) js (by
  have:=fN (l:=dE l ir (nameOf r)) (i:=it) (bY js).1
  show(ak (J I (dE l ir (nameOf r)) it)).length≤_
  omega)]
 simp only [av]
 show Option.bind (nN (((n,eO l ir (nameOf r) it (nameOf t) (bj r),()),c,x,()),())) (fun v3=>some (v3.1,((n,eO l ir (nameOf r) it (nameOf t) (bj r),()),c,x,()),()))=_
 rw [AA (n,eO l ir (nameOf r) it (nameOf t) (bj r),()) c x s2 (by omega)];rfl
theorem Wx{n:Int}{l:List aI}(v:af.D)(z:af.D)(jL:aF.D)(r t:aV.D){ir it:Nat}(h:sY l (ch r) (ch t) ir it (nameOf r) (nameOf t) (bj r))(m:Nat) :
  (gE (m+1)).mO v z jL r t (n,l,())=some (cond (e8 (eO l ir (nameOf r) it (nameOf t) (bj r))==0) (n,eO l ir (nameOf r) it (nameOf t) (bj r),()) v,(e8 (eO l ir (nameOf r) it (nameOf t) (bj r)),[],()),()):=by
 have hr:=(bY h.hr).1
 have ht:=(bY h.ht).1
 obtain ⟨s1,s2⟩:=Wv h
 have jc:=h.st.len
 have og:=h.st.cG
 have pv:=fN ht
 rw [ahM]
 unfold J6
 show Option.bind (sc ((n,l,()),ch t,nameOf t,bj r,())) _=_
 rw [NA (n,l,()) _ _ _ (show l.length≤1048576 by omega) h.ht (show(ak (J I l it)).length≤1048576 by omega) h.no]
 simp only [av]
 show Option.bind (oN ((n,ie l it (nameOf t) (bj r),()),ch r,nameOf r,())) _=_
 have n4:J I (ie l it (nameOf t) (bj r)) ir=if it=ir then b2 (J I l it) (ins (ak (J I l it)) (nameOf t) (bj r)) else J I l ir:=by unfold ie;rw [gb ht]
 have vD:jo (ak (J I (ie l it (nameOf t) (bj r)) ir)):=by
  rw [n4]
  split
  ·rw [kn];exact Ws h.ahG h.no
  ·exact h.Jz
 have bI:bd (ie l it (nameOf t) (bj r)) (ch r)=some ir:=by rw [Wu ht];exact h.hr
 have AM:(ie l it (nameOf t) (bj r)).length≤1048576:=by unfold ie;rw [List.length_set];omega
 have ahR:dy (ie l it (nameOf t) (bj r))≤1048576:=by
  have:=Gn (l:=l) (y:=b2 (J I l it) (ins (ak (J I l it)) (nameOf t) (bj r))) ht
  rw [kn,xT] at this
  unfold ie;omega
 rw [NF (n,ie l it (nameOf t) (bj r),()) _ _ AM ahR bI vD]
 have n2:c6 (ak (J I (ie l it (nameOf t) (bj r)) ir)) (nameOf r)=bj r:=by
  obtain ⟨e,he,Nt,oz⟩:=p3 (N:=ak (J I l ir)) (s:=nameOf r) (by rw [h.look];exact h.Wt)
  have ahS:e∈ak (J I (ie l it (nameOf t) (bj r)) ir):=by
   rw [n4]
   split
   ·rename_i hh;rw [kn,hh];exact rj.2 (.inl he)
   ·exact he
  have:=Gz vD ahS
  rw [Nt,oz,h.look] at this
  exact this
 rw [show((n,ie l it (nameOf t) (bj r),()):af.D).2.1=ie l it (nameOf t) (bj r) from rfl,n2]
 have p8:goN ((ie l it (nameOf t) (bj r)).set ir (b2 (J I (ie l it (nameOf t) (bj r)) ir) (cg (ak (J I (ie l it (nameOf t) (bj r)) ir)) (nameOf r)))) (bj r)=eO l ir (nameOf r) it (nameOf t) (bj r):=by
  have hc:=ahH h
  unfold dE at hc
  rw [hc]
  unfold goN
  rw [decide_eq_false];rfl
  intro h0
  have dW:it<(dE l ir (nameOf r)).length:=by unfold dE;rw [List.length_set];exact ht
  have jy:J I (eO l ir (nameOf r) it (nameOf t) (bj r)) it∈eO l ir (nameOf r) it (nameOf t) (bj r):=cJ (by unfold eO ie;rw [List.length_set];exact dW)
  refine Gp h0 _ jy (nameOf t,bj r,()) ?_ rfl
  unfold eO ie
  rw [gb dW,if_pos rfl,kn]
  exact rj.2 (.inr rfl)
 rw [p8]
 simp only [av]
 show Option.bind (qJ (v,(n,eO l ir (nameOf r) it (nameOf t) (bj r),()),())) _=_
 rw [xU v (n,eO l ir (nameOf r) it (nameOf t) (bj r),()) s2 (by omega)];rfl
def NT(c:aH.D)(d n m:aI):Int :=
 cond (!p2 c d m) 1 (cond (kindOf n==2) (cond (kindOf m != 2) 20 (cond (decide (((ak m).length:Int)>0)) 39 0)) (cond (kindOf m==2) 21 0))
theorem ahT(v:af.D)(c:aH.D)(x:aJ.D)(n:aI)(t:aV.D)(hl:v.2.1.length≤1048576)(hc:c9 c=true){i j:Nat}(hi:bd v.2.1 (ch t)=some i)(hj:bd v.2.1 (bj t)=some j) :
  E1 ((v,c,x,()),n,t,())=some (NT c (J I v.2.1 i) n (J I v.2.1 j),()):=by
 show Lg (v,c,x,()) n t=_
 unfold Lg NT
 rw [ji]
 show Option.bind (fC (v,bj t,())) _=_
 rw [m1 v _ hl hj]
 simp only [av,List.isEmpty_cons,Bool.not_false,cond_true]
 show Option.bind (fC (v,ch t,())) _=_
 rw [m1 v _ hl hi]
 simp only [av,List.isEmpty_cons,Bool.not_false,cond_true]
 show Option.bind (sC (c,J I v.2.1 i,J I v.2.1 j,())) _=_
 rw [Nd c _ _ hc]
 simp only [av]
 show cond (!p2 c (J I v.2.1 i) (J I v.2.1 j)) _ (cond (kindOf n==2) (cond (!(kindOf (J I v.2.1 j)==2)) _ (cond (kindOf n==2) (cond (decide (((ak (J I v.2.1 j)).length:Int)>0)) _ (cond (!(kindOf n==2)) (cond (kindOf (J I v.2.1 j)==2) _ _) _)) _)) (cond (kindOf n==2) _ (cond (!(kindOf n==2)) (cond (kindOf (J I v.2.1 j)==2) _ _) _)))=_
 unfold bne
 cases p2 c (J I v.2.1 i) (J I v.2.1 j) <;> cases kindOf n==2 <;> cases kindOf (J I v.2.1 j)==2 <;> cases decide (((ak (J I v.2.1 j)).length:Int)>0) <;> rfl
structure xW(v:af.D)(c:aH.D)(x:aJ.D)(w:af.D):Prop where
 out:∃r t j,l6 v.2.1 r∧bC r=0∧nameOf r≠[]∧bd v.2.1 (bj r)=some j∧l6 v.2.1 t∧nameOf t≠[]∧(bC t=0∨bC t=2)∧(dQ (v,c,eU x,false,())=some (r,())∧dQ (v,c,iR x,false,())=some (t,())) ∧
  (bj t=bj r∧w=v∨bj t≠bj r∧(kindOf (J I v.2.1 j)=2→ch t≠bj r∧¬dt v.2.1 (bj r) (ch t)) ∧
   ∃l ir it,sY l (ch r) (ch t) ir it (nameOf r) (nameOf t) (bj r)∧w=(v.1,eO l ir (nameOf r) it (nameOf t) (bj r),())∧e8 w.2.1=0 ∧
    ((bj t=0∧l=v.2.1∧(ch r≠ch t→(ak (J I l it)).length<12)) ∨
     (∃i2 eX,bd v.2.1 (ch t)=some i2∧kindOf (J I v.2.1 i2)=2∧bd v.2.1 (bj t)=some eX∧ak (J I v.2.1 eX)=[]∧c6 (ak (J I v.2.1 i2)) (nameOf t)=bj t∧(kindOf (J I v.2.1 j)=2↔kindOf (J I v.2.1 eX)=2)∧l=(kO v i2 (nameOf t)).2.1)))
theorem Wy{v:af.D}(hv:bE v){i2:Nat}(hi:i2<v.2.1.length)(hk:kindOf (J I v.2.1 i2)=2)(s:aG):aq 1000 (kO v i2 s).2.1 ∧
  ∀id,id≠c6 (ak (J I v.2.1 i2)) s→∀k,bd v.2.1 id=some k→∃k',bd (kO v i2 s).2.1 id=some k'∧J I (kO v i2 s).2.1 k'=if i2=k then b2 (J I v.2.1 i2) (cg (ak (J I v.2.1 i2)) s) else J I v.2.1 k:=by
 have hs1:aq 1000 (v.2.1.set i2 (b2 (J I v.2.1 i2) (cg (ak (J I v.2.1 i2)) s))):=(hv.st.set (k:=0) (y:=b2 (J I v.2.1 i2) (cg (ak (J I v.2.1 i2)) s)) hi rfl (fun d ag=>hv.gT i2 hi d (sX ag)) (fun h=>absurd hk h) (vy _ _) (Nat.le_refl _)).mono (by omega)
 refine⟨hs1.go _,fun id hne k b6=>?_⟩
 obtain ⟨n7,fM⟩:=bY b6
 show ∃k',bd (goN (v.2.1.set i2 (b2 (J I v.2.1 i2) (cg (ak (J I v.2.1 i2)) s))) (c6 (ak (J I v.2.1 i2)) s)) id=some k'∧J I (goN (v.2.1.set i2 (b2 (J I v.2.1 i2) (cg (ak (J I v.2.1 i2)) s))) (c6 (ak (J I v.2.1 i2)) s)) k'=_
 have aA:J I (v.2.1.set i2 (b2 (J I v.2.1 i2) (cg (ak (J I v.2.1 i2)) s))) k=if i2=k then b2 (J I v.2.1 i2) (cg (ak (J I v.2.1 i2)) s) else J I v.2.1 k:=gb hi
 have NU:bd (v.2.1.set i2 (b2 (J I v.2.1 i2) (cg (ak (J I v.2.1 i2)) s))) id=some k:=by rw [AL _ hi];exact b6
 rw [← aA]
 generalize v.2.1.set i2 (b2 (J I v.2.1 i2) (cg (ak (J I v.2.1 i2)) s))=dN at hs1 NU
 generalize c6 (ak (J I v.2.1 i2)) s=gone at hne
 have p8:=hs1.go gone
 unfold goN at p8 ⊢
 by_cases h0:cl dN gone=0
 ·rw [decide_eq_true h0] at p8 ⊢
  simp only [cond_true] at p8 ⊢
  obtain ⟨h1,h2⟩:=bY NU
  have hm:J I dN k∈dN.filter fun y => !(y.1==gone):=List.mem_filter.2 ⟨cJ h1,by rw [h2,Bool.not_eq_true',beq_eq_false_iff_ne];exact hne⟩
  obtain ⟨k',eb,he⟩:=fw hm
  refine⟨k',?_,he⟩
  have:=p8.ga k' eb
  rwa [he,h2] at this
 ·rw [decide_eq_false h0]
  exact⟨k,NU,rfl⟩
theorem ahU(v:af.D)(c:aH.D)(x:aJ.D)(hv:bE v)(hc:c9 c=true)(hx:ib x):bt v c x (E3 ((v,c,x,()),())) (Dr (v,c,x,())) (xW v c x):=by
 have b8:=hv.gy
 have hl:v.2.1.length≤1048576:=b8.len
 have au:=hx.path
 have ahu:=hx.sV
 obtain ⟨q,hq,iq⟩:=jm 6
 show bt v c x (E2 (jl aQ) (v,c,x,())) (Dq (gE aQ) v c x) _
 unfold E2 Dq
 obtain ⟨r,⟨hr,_⟩,AJ,fF⟩:=xS v c x (eU x) false b8 hc (by omega)
 show bt v c x (Option.bind (lg ((v,c,x,()),eU x,false,())) _) (Option.bind (dQ (v,c,eU x,false,())) _) _
 rw [AJ,fF]
 simp only [av]
 show bt v c x (cond (bC r != 0) (some (bC r,(v,c,x,()),())) _) (cond (bC r != 0) (some (v,(bC r,[],()),())) _) _
 by_cases bT:bC r=0
 case neg =>
  rw [cP bT]
  exact bt.no (bC r) bT rfl rfl
 rw [dk bT]
 simp only [cond_false]
 obtain ⟨t,⟨ht,_⟩,ahV,GA⟩:=xS v c x (iR x) false b8 hc (by omega)
 show bt v c x (Option.bind (lg ((v,c,x,()),iR x,false,())) _) (Option.bind (dQ (v,c,iR x,false,())) _) _
 rw [ahV,GA]
 simp only [av]
 show bt v c x (cond (bC t != 0) (cond (bC t != 2) (some (bC t,(v,c,x,()),())) (cond (bs (nameOf t) []) (some (bC t,(v,c,x,()),())) ((jl aQ).da (v,c,x,()) r t))) ((jl aQ).da (v,c,x,()) r t))
  (cond (bC t != 0) (cond (bC t != 2) (some (v,(bC t,[],()),())) (cond (bs (nameOf t) []) (some (v,(bC t,[],()),())) ((gE aQ).da v c (0,([]:List I.D),()) (0,([]:aG),()) r t))) ((gE aQ).da v c (0,([]:List I.D),()) (0,([]:aG),()) r t)) _
 by_cases ko:bC t≠0∧(bC t≠2∨nameOf t=[])
 ·rw [cP ko.1]
  by_cases h2:bC t=2
  ·have jX:nameOf t=[]:=ko.2.elim (fun h=>absurd h2 h) id
   rw [dk h2,l7.2 jX]
   exact bt.no (bC t) ko.1 rfl rfl
  ·rw [cP h2]
   exact bt.no (bC t) ko.1 rfl rfl
 have NV:bC t=0∨bC t=2:=by
  by_cases h0:bC t=0
  ·exact .inl h0
  ·exact .inr (Decidable.byContradiction fun h=>ko ⟨h0,.inl h⟩)
 have nt:∀ {α : Type} (a b : α),cond (bC t != 0) (cond (bC t != 2) a (cond (bs (nameOf t) []) a b)) b=b:=by
  intro α a b
  by_cases h0:bC t=0
  ·rw [dk h0];rfl
  ·rw [cP h0]
   have h2:bC t=2:=Decidable.byContradiction fun h=>ko ⟨h0,.inl h⟩
   rw [dk h2]
   have jX:bs (nameOf t) []=false:=by
    rw [← Bool.not_eq_true,l7]
    exact fun h=>ko ⟨h0,.inr h⟩
   rw [jX];rfl
 rw [nt,nt,hq,ahL,ahQ]
 unfold Lh J3
 show bt v c x (cond (bs (nameOf r) []) _ (cond (bs (nameOf t) []) _ _)) (cond (bs (nameOf r) []) _ (cond (bs (nameOf t) []) _ _)) _
 cases Wz:bs (nameOf r) [] with
 | true=>exact bt.no 16 (by decide) rfl rfl
 | false =>
 cases WA:bs (nameOf t) [] with
 | true=>exact bt.no 16 (by decide) rfl rfl
 | false =>
 simp only [cond_false,ji]
 have p_:nameOf r≠[]:=fun h=>by rw [l7.2 h] at Wz;cases Wz
 have htn:nameOf t≠[]:=fun h=>by rw [l7.2 h] at WA;cases WA
 obtain ⟨j,hj⟩:=hr.there bT
 have hjl:=bY hj
 obtain ⟨o4,alA,ik,o5,WB,vE⟩:=hr.named bT p_
 have ahW:=bY o5
 obtain ⟨gq,kp,s4,AN,rl⟩:∃d,bd v.2.1 (ch t)=some d∧kindOf (J I v.2.1 d)=2∧c6 (ak (J I v.2.1 d)) (nameOf t)=bj t∧(bj t=0∨∃eX,bd v.2.1 (bj t)=some eX):=by
  by_cases h0:bC t=0
  ·obtain ⟨a1,a2,d,a3,a4,a5⟩:=ht.named h0 htn
   exact⟨d,a3,a4,a5,.inr (ht.there h0)⟩
  ·have h2:bC t=2:=Decidable.byContradiction fun h=>ko ⟨h0,.inl h⟩
   obtain ⟨a1,a2,d,a3,a4,a5⟩:=ht.new h2 htn
   exact⟨d,a3,a4,by rw [a5,a1],.inl a1⟩
 have NW:=bY kp
 show bt v c x (Option.bind (fC (v,bj r,())) _) (Option.bind (eS (v,ch r,())) fun v1=>Option.bind (eS (v,ch t,())) fun v2=>Option.bind (eS (v,bj r,())) _) _
 rw [m1 v _ hl hj,h_ v _ hl o5,h_ v _ hl kp,h_ v _ hl hj]
 simp only [av,List.isEmpty_cons,Bool.not_false,cond_true]
 rw [ahK]
 unfold Li
 show bt v c x (Option.bind (nM ((v,c,x,()),ch r,())) fun v1=>cond (!v1.1) _ (Option.bind (nM ((v,c,x,()),ch t,())) _)) _ _
 rw [AG v c x _ hl hc o5,AG v c x _ hl hc kp,m0 c _ 3 hc,m0 c _ 3 hc]
 simp only [av]
 cases may c (J I v.2.1 ik) 3 with
 | false=>exact bt.no 13 (by decide) rfl rfl
 | true =>
 simp only [Bool.not_true,cond_false]
 cases may c (J I v.2.1 gq) 3 with
 | false=>exact bt.no 13 (by decide) rfl rfl
 | true =>
 simp only [Bool.not_true,cond_false]
 show bt v c x (Option.bind (fC (v,ch r,())) _) _ _
 rw [m1 v _ hl o5]
 simp only [av,List.isEmpty_cons,Bool.not_false,cond_true]
 show bt v c x (Option.bind (sC (c,J I v.2.1 ik,J I v.2.1 j,())) _) _ _
 rw [Nd c _ _ hc,Nc c _ _ hc]
 simp only [av]
 cases p2 c (J I v.2.1 ik) (J I v.2.1 j) with
 | false=>exact bt.no 1 (by decide) rfl rfl
 | true =>
 simp only [Bool.not_true,cond_false]
 obtain ⟨out,NX,ahX⟩:=M6 v hl b8.cG (bj r)
 have ahY:=ahv v (ch t) (bj r) hl b8.cG
 have ahZ:∀(K:Option (Int×aL.D×Unit)),cond ((J I v.2.1 j).2.1==2) (cond (t.1==r.2.2.1) (some (22,(v,c,x,()),())) (Option.bind (u0 (v,r.2.2.1,())) fun v5=>Option.bind (sq (v5.1,t.1,())) fun v6=>cond v6.1 (some (22,(v,c,x,()),())) K)) K =
   cond (kindOf (J I v.2.1 j)==2&&n3 v.2.1 (v.2.1.length+1) (ch t) (bj r)) (some (22,(v,c,x,()),())) K:=by
  intro K
  show cond (kindOf (J I v.2.1 j)==2) (cond (ch t==bj r) (some (22,(v,c,x,()),())) (Option.bind (u0 (v,bj r,())) fun v5=>Option.bind (sq (v5.1,ch t,())) fun v6=>cond v6.1 (some (22,(v,c,x,()),())) K)) K=_
  cases kindOf (J I v.2.1 j)==2
  ·rfl
  ·simp only [cond_true,Bool.true_and]
   have mX:=Wr hv (d:=ch t) ⟨gq,kp,s4⟩ (bj r)
   rw [ahX]
   simp only [av]
   rw [contains_eq _ _ (by
    have:=NX.len
    have:=b8.cG
    omega)]
   simp only [av]
   by_cases h1:ch t=bj r
   ·rw [cF h1,mX.2 (.inl h1)];rfl
   ·rw [ca h1]
    simp only [cond_false]
    by_cases hb:dt v.2.1 (bj r) (ch t)
    ·rw [mX.2 (.inr hb),decide_eq_true ((NX.iff _).2 hb)]
    ·have:n3 v.2.1 (v.2.1.length+1) (ch t) (bj r)=false:=by
      rw [← Bool.not_eq_true];exact fun h=>(mX.1 h).elim h1 hb
     rw [this,decide_eq_false (fun h=>hb ((NX.iff _).1 h))]
 have ah0:∀(K:Option (af.D×aF.D×Unit)),cond ((J I v.2.1 j).2.1==2) (Option.bind (zw (v,t.1,r.2.2.1,())) fun bp=>cond bp.1 (some (v,(22,[],()),())) K) K =
   cond (kindOf (J I v.2.1 j)==2&&n3 v.2.1 (v.2.1.length+1) (ch t) (bj r)) (some (v,(22,[],()),())) K:=by
  intro K
  show cond (kindOf (J I v.2.1 j)==2) (Option.bind (zw (v,ch t,bj r,())) _) K=_
  rw [ahY]
  cases kindOf (J I v.2.1 j)==2 <;> rfl
 rw [m3]
 rw [ahZ,ah0]
 cases rh:kindOf (J I v.2.1 j)==2&&n3 v.2.1 (v.2.1.length+1) (ch t) (bj r) with
 | true=>exact bt.no 22 (by decide) rfl rfl
 | false =>
 simp only [cond_false]
 have my:kindOf (J I v.2.1 j)=2→ch t≠bj r∧¬dt v.2.1 (bj r) (ch t):=by
  intro hk
  rw [cF hk,Bool.true_and] at rh
  have mX:=Wr hv (d:=ch t) ⟨gq,kp,s4⟩ (bj r)
  exact⟨fun h=>(by rw [mX.2 (.inl h)] at rh;cases rh),fun h=>(by rw [mX.2 (.inr h)] at rh;cases rh)⟩
 rw [ahJ,ahP]
 unfold Lj J4
 rw [vv v hl (fun i hi=>Nat.le_trans (fN hi) b8.cG)]
 simp only [av]
 show bt v c x (cond (bj t==bj r) (some (0,(v,c,x,()),())) (cond (!(bj t==0)) (Option.bind (E1 ((v,c,x,()),J I v.2.1 j,t,())) fun v1=>cond (v1.1 != 0) (some (v1.1,(v,c,x,()),())) (Option.bind (oT ((v,c,x,()),ch t,nameOf t,true,())) fun v2=>(jl (q+3)).oV v2.1 r t))
   (cond (!(ch r==ch t)) (Option.bind (fC (v,ch t,())) fun v3=>cond (!List.isEmpty v3.1) (cond (((ak (J I v3.1 0)).length:Int)==12) (some (28,(v,c,x,()),())) ((jl (q+3)).oV (v,c,x,()) r t)) none) ((jl (q+3)).oV (v,c,x,()) r t))))
  (cond (decide (bj t>0)) (cond (bj t==bj r) (some (v,(0,[],()),())) (Option.bind (eS (v,bj t,())) fun v2=>Option.bind (xc (c,J I v.2.1 gq,v2.1,())) fun v3=>cond (!v3.1) (some (v,(1,[],()),())) (cond (kindOf (J I v.2.1 j)==2) (cond (kindOf v2.1 != 2) (some (v,(20,[],()),())) ((gE (q+4)).oJ v (0,([]:List I.D),()) (0,([]:aG),()) r t (J I v.2.1 j) v v2.1)) ((gE (q+4)).oJ v (0,([]:List I.D),()) (0,([]:aG),()) r t (J I v.2.1 j) v v2.1))))
   (cond (!(ch r==ch t)) (cond (decide (((ak (J I v.2.1 gq)).length:Int)≥12)) (some (v,(28,[],()),())) ((gE (q+4)).mO v (0,([]:List I.D),()) (0,([]:aG),()) r t v)) ((gE (q+4)).mO v (0,([]:List I.D),()) (0,([]:aG),()) r t v))) _
 have alB:0<bj r:=by
  have h1:=hv.ids j hjl.1
  have h2:a6 (J I v.2.1 j)=bj r:=hjl.2
  omega
 have WC:=hv.ino ik ahW.1
 have iL:=hv.ino gq NW.1
 by_cases k4:bj t=bj r
 ·rw [cF k4,decide_eq_true (show bj t>0 by omega)]
  exact⟨0,v,rfl,rfl,fun _=>⟨r,t,j,hr,bT,p_,hj,ht,htn,NV,⟨fF,GA⟩,.inl ⟨k4,rfl⟩⟩⟩
 rw [ca k4]
 simp only [cond_false]
 have hne:ik=gq→nameOf r≠nameOf t:=by
  rintro rfl he
  rw [he,AN] at vE
  exact k4 vE
 by_cases pw:bj t=0
 ·
  rw [cF pw,decide_eq_false (show ¬bj t>0 by omega)]
  simp only [Bool.not_true,cond_false]
  have hpre:sY v.2.1 (ch r) (ch t) ik gq (nameOf r) (nameOf t) (bj r) :=
   ⟨hv.st.mono (by omega),o5,kp,WB,s4,WC.sorted,iL.sorted,vE,by omega,by rw [hj];rfl,AD (by rw [AN,pw]) fun e he=>hv.AE NW.1 he,hne⟩
  have hfin:(ch r≠ch t→(ak (J I v.2.1 gq)).length<12)→bt v c x ((jl (q+3)).oV (v,c,x,()) r t) ((gE (q+4)).mO v (0,([]:List I.D),()) (0,([]:aG),()) r t v) (xW v c x):=by
   intro cw
   have h1:=Ww (n:=v.1) c x r t hpre (q+2)
   have h2:=Wx (n:=v.1) v (0,([]:List I.D),()) (0,([]:aG),()) r t hpre (q+3)
   exact⟨_,_,h1,h2,fun h=>⟨r,t,j,hr,bT,p_,hj,ht,htn,NV,⟨fF,GA⟩,.inr ⟨k4,my,v.2.1,ik,gq,hpre,rfl,h,.inl ⟨pw,rfl,cw⟩⟩⟩⟩
  by_cases NY:ch r=ch t
  ·rw [cF NY]
   exact hfin fun h=>absurd NY h
  ·rw [ca NY]
   simp only [Bool.not_false,cond_true]
   rw [m1 v _ hl kp]
   simp only [av,List.isEmpty_cons,Bool.not_false,cond_true]
   show bt v c x (cond (((ak (J I v.2.1 gq)).length:Int)==12) _ _) _ _
   have Wj:=(iL.dir s4).2.2.2
   by_cases lP:(ak (J I v.2.1 gq)).length=12
   ·rw [show(((ak (J I v.2.1 gq)).length:Int)==12)=true by rw [lP];rfl,decide_eq_true (by omega)]
    exact bt.no 28 (by decide) rfl rfl
   ·rw [show(((ak (J I v.2.1 gq)).length:Int)==12)=false by rw [beq_eq_false_iff_ne];omega,decide_eq_false (show ¬((ak (J I v.2.1 gq)).length:Int)≥12 by omega)]
    exact hfin fun _=>by omega
 ·
  obtain ⟨eX,kC⟩:=rl.resolve_left pw
  have NZ:=bY kC
  have p5:0<bj t:=by
   have h1:=hv.ids eX NZ.1
   have h2:a6 (J I v.2.1 eX)=bj t:=NZ.2
   omega
  rw [ca pw,decide_eq_true (show bj t>0 from p5)]
  simp only [Bool.not_false,cond_true]
  rw [ahT v c x _ t hl hc kp kC,h_ v _ hl kC]
  simp only [av]
  rw [Nc c _ _ hc]
  simp only [av]
  unfold NT
  cases p2 c (J I v.2.1 gq) (J I v.2.1 eX) with
  | false=>exact bt.no 1 (by decide) rfl rfl
  | true =>
  simp only [Bool.not_true,cond_false]
  have ah1:(gE (q+4)).oJ v (0,([]:List I.D),()) (0,([]:aG),()) r t (J I v.2.1 j) v (J I v.2.1 eX)=cond (kindOf (J I v.2.1 j)==2) (cond (decide (((ak (J I v.2.1 eX)).length:Int)>0)) (some (v,(39,[],()),())) (Option.bind (oN (v,ch t,nameOf t,())) fun v2=>(gE (q+2)).mO v (0,([]:List I.D),()) (0,([]:aG),()) r t v2.1))
    (cond (kindOf (J I v.2.1 eX)==2) (some (v,(21,[],()),())) (Option.bind (oN (v,ch t,nameOf t,())) fun v2=>(gE (q+2)).mO v (0,([]:List I.D),()) (0,([]:aG),()) r t v2.1)):=by
   rw [ahO]
   unfold J5
   rw [ahN]
   unfold J7
   show cond (kindOf (J I v.2.1 j)==2) (cond (decide (((ak (J I v.2.1 eX)).length:Int)>0)) _ (cond (!(kindOf (J I v.2.1 j)==2)) (cond (kindOf (J I v.2.1 eX)==2) _ _) _)) (cond (!(kindOf (J I v.2.1 j)==2)) (cond (kindOf (J I v.2.1 eX)==2) _ _) _)=_
   cases kindOf (J I v.2.1 j)==2 <;> rfl
  rw [ah1]
  have hfin:ak (J I v.2.1 eX)=[]→(kindOf (J I v.2.1 j)=2↔kindOf (J I v.2.1 eX)=2)→bt v c x (Option.bind (oT ((v,c,x,()),ch t,nameOf t,true,())) fun v2=>(jl (q+3)).oV v2.1 r t) (Option.bind (oN (v,ch t,nameOf t,())) fun v2=>(gE (q+2)).mO v (0,([]:List I.D),()) (0,([]:aG),()) r t v2.1) (xW v c x):=by
   intro ph hkk
   rw [Nz v c x _ _ true hl b8.cG kp,NF v _ _ hl b8.cG kp iL.sorted]
   simp only [av,cond_true]
   obtain ⟨hst,GB⟩:=Wy hv NW.1 s4 (nameOf t)
   rw [AN] at GB
   have ah2:ch r≠bj t:=by
    intro he
    rw [he,kC] at o5
    have:eX=ik:=aU o5
    subst this
    obtain ⟨e,h1,_,_⟩:=p3 (N:=ak (J I v.2.1 eX)) (s:=nameOf r) (by rw [vE];exact o4)
    rw [ph] at h1;simp at h1
   have ah3:ch t≠bj t:=by
    intro he
    rw [he,kC] at kp
    have:eX=gq:=aU kp
    subst this
    obtain ⟨e,h1,_,_⟩:=p3 (N:=ak (J I v.2.1 eX)) (s:=nameOf t) (by rw [AN];exact pw)
    rw [ph] at h1;simp at h1
   obtain ⟨ir,WD,n4⟩:=GB _ ah2 _ o5
   obtain ⟨it,js,qb⟩:=GB _ ah3 _ kp
   obtain ⟨alC,iV,_⟩:=GB _ (Ne.symm k4) _ hj
   rw [if_pos rfl] at qb
   have ah4:ir=it→ik=gq:=by
    rintro rfl
    have h1:=(bY WD).2
    have h2:=(bY js).2
    rw [h1] at h2
    rw [h2,kp] at o5
    exact(aU o5).symm
   have hpre:sY (kO v gq (nameOf t)).2.1 (ch r) (ch t) ir it (nameOf r) (nameOf t) (bj r):=by
    refine⟨hst,WD,js,?_,?_,?_,?_,?_,by omega,by rw [iV];rfl,?_,fun e=>hne (ah4 e)⟩
    ·rw [n4];split
     ·exact s4
     ·exact WB
    ·rw [qb];exact s4
    ·rw [n4];split
     ·rw [kn];exact vC iL.sorted _
     ·exact WC.sorted
    ·rw [qb,kn];exact vC iL.sorted _
    ·rw [n4];split
     ·rename_i he
      subst he
      rw [kn]
      obtain ⟨e,h1,h2,h3⟩:=p3 (N:=ak (J I v.2.1 gq)) (s:=nameOf r) (by rw [vE];exact o4)
      have hm:e∈cg (ak (J I v.2.1 gq)) (nameOf t):=List.mem_filter.2 ⟨h1,by unfold bs;rw [h2];simpa using hne rfl⟩
      have:=Gz (vC iL.sorted (nameOf t)) hm
      rw [h2,h3,vE] at this
      exact this
     ·exact vE
    ·rw [qb,kn];exact ahF
   show bt v c x ((jl (q+3)).oV ((v.1,(kO v gq (nameOf t)).2.1,()),c,x,()) r t) ((gE (q+2)).mO v (0,([]:List I.D),()) (0,([]:aG),()) r t (v.1,(kO v gq (nameOf t)).2.1,())) _
   have h1:=Ww (n:=v.1) c x r t hpre (q+2)
   have h2:=Wx (n:=v.1) v (0,([]:List I.D),()) (0,([]:aG),()) r t hpre (q+1)
   exact⟨_,_,h1,h2,fun h=>⟨r,t,j,hr,bT,p_,hj,ht,htn,NV,⟨fF,GA⟩,.inr ⟨k4,my,_,ir,it,hpre,rfl,h,.inr ⟨gq,eX,kp,s4,kC,ph,AN,hkk,rfl⟩⟩⟩⟩
  by_cases hk:kindOf (J I v.2.1 j)=2
  ·rw [cF hk]
   simp only [cond_true]
   by_cases hk2:kindOf (J I v.2.1 eX)=2
   ·rw [dk hk2]
    simp only [cond_false]
    by_cases ph:ak (J I v.2.1 eX)=[]
    ·rw [ph,show decide ((([]:List ay.D).length:Int)>0)=false from rfl]
     exact hfin ph ⟨fun _=>hk2,fun _=>hk⟩
    ·have ahr:0<(ak (J I v.2.1 eX)).length:=List.length_pos_iff.2 ph
     rw [decide_eq_true (by omega)]
     exact bt.no 39 (by decide) rfl rfl
   ·rw [cP hk2]
    exact bt.no 20 (by decide) rfl rfl
  ·rw [ca hk]
   simp only [cond_false]
   by_cases hk2:kindOf (J I v.2.1 eX)=2
   ·rw [cF hk2]
    exact bt.no 21 (by decide) rfl rfl
   ·rw [ca hk2]
    exact hfin ((hv.ino eX NZ.1).plain hk2).2.2 ⟨fun h=>absurd h hk,fun h=>absurd h hk2⟩
theorem s5(v:af.D)(c:aH.D)(x:aJ.D)(bw:Bool)(hw:nY v.2.1)(hc:c9 c=true)(au:(eU x).length≤1048576) :
  ∃r,sR bw v.2.1 r∧dQ (v,c,eU x,bw,())=some (r,())∧(bC r≠0→mR ((v,c,x,()),bw,())=some (-1,bC r,(v,c,x,()),())) ∧
   (bC r=0→∃i,bd v.2.1 (bj r)=some i∧mR ((v,c,x,()),bw,())=some ((i:Int),0,(v,c,x,()),())):=by
 obtain ⟨r,h1,h2,h3⟩:=xS v c x (eU x) bw hw hc au
 have e4:mR ((v,c,x,()),bw,())=cond (bC r != 0) (some (-1,bC r,(v,c,x,()),())) (Option.bind (xl (v,bj r,())) fun v2=>some (v2.1,0,(v2.2.1,c,x,()),())):=by
  show Ll (v,c,x,()) bw=_
  unfold Ll
  show Option.bind (lg ((v,c,x,()),eU x,bw,())) _=_
  rw [h2];rfl
 refine⟨r,h1,h3,fun h0=>by rw [e4,cP h0];rfl,fun h0=>?_⟩
 obtain ⟨i,hi⟩:=h1.1.there h0
 refine⟨i,hi,?_⟩
 rw [e4,dk h0,Nf v _ hw.len,hi];rfl
def gV(n:Nat):aG:=List.replicate n 0
def gd(s:aG)(n:Nat):aG:=(s++gV (n-s.length)).take n
def iS(s:aG)(at_:Nat)(d:aG):aG:=gd s at_++d++s.drop (at_+d.length)
theorem o6(s:aG)(n:Nat):(gd s n).length=n:=by unfold gd gV;rw [List.length_take,List.length_append,List.length_replicate];omega
theorem WE:∀n,Lib.repeatL [0] n=gV n
 | 0=>rfl
 | n+1=>by rw [Lib.repeatL,WE n];rfl
theorem ah5(s:aG)(n:Nat)(hs:s.length≤1048576)(hn:n≤1048576):E5 (s,(n:Int),())=some (gd s n,()):=by
 show Ln s (n:Int)=_
 unfold Ln gd
 by_cases h:n≤s.length
 ·rw [decide_eq_true (show(s.length:Int)≥(n:Int) by omega)]
  simp only [cond_true]
  show Option.bind (du s.length ((0:Nat):Int) (n:Int)) _=_
  rw [iW (by omega) h]
  simp only [av,Nat.sub_zero]
  rw [vq,show n-s.length=0 by omega]
  simp [gV]
 ·rw [decide_eq_false (show ¬(s.length:Int)≥(n:Int) by omega)]
  simp only [cond_false]
  show Option.bind (repF [0] (aK ((n:Int)-(s.length:Int)))) _=_
  rw [show aK ((n:Int)-(s.length:Int))=((n-s.length:Nat):Int) by rw [ed (by omega) (by omega)];omega]
  unfold repF
  rw [if_pos ⟨by omega,by omega,by simp;omega⟩,Int.toNat_natCast,WE]
  simp only [av]
  rw [cH (by unfold gV;rw [List.length_replicate];omega)]
  simp only [cond_true]
  rw [List.take_of_length_le (by unfold gV;rw [List.length_append,List.length_replicate];omega)]
theorem WG(t:aG):gI (eA t)=t:=by
 unfold gI eA
 rw [List.map_map]
 conv=>rhs;rw [← List.map_id t]
 refine List.map_congr_left fun b _=>?_
 simp
theorem GC(t:aG):(eA t).length=t.length:=by unfold eA;simp
theorem ah6(t:aG):eA t++[0]=eA (t++[0]):=by unfold eA;simp
theorem ah7(t:aG)(i:Nat)(b:UInt8):(eA t).set i (b.toNat:Int)=eA (t.set i b):=by unfold eA;rw [List.map_set]
theorem N0(s:aG)(at_:Nat)(d:aG)(hs:s.length≤1048576)(ha:at_≤1048576)(ag:d.length≤1048576) :
  qO (s,(at_:Int),d,())=some ((s++gV (at_+d.length-s.length)).take at_++d++(s++gV (at_+d.length-s.length)).drop (at_+d.length),()):=by
 show Ds (nG aQ) s (at_:Int) d=_
 unfold Ds
 have hw:aK ((at_:Int) +(d.length:Int))=((at_+d.length:Nat):Int):=by rw [ed (by omega) (by omega)];omega
 generalize ht:s++gV (at_+d.length-s.length)=t
 have rU:at_+d.length≤t.length∧t.length≤4194304:=by rw [← ht];unfold gV;rw [List.length_append,List.length_replicate];omega
 have a8:∀(r i:Nat),i+r=d.length→bW (fun m=>(nG m).bx (at_:Int) d (i:Int) (eA (t.take at_++d.take i++t.drop (at_+i)))) (r+1) (some (t.take at_++d++t.drop (at_+d.length),())):=by
  intro r
  induction r with
  | zero =>
   intro i hi
   refine bW.now 1 fun m=>?_
   show zy (nG m) _ _ _ _=_
   unfold zy
   rw [cS (by omega)]
   simp only [cond_false]
   rw [WG,show i=d.length by omega,List.take_length]
  | succ r ih =>
   intro i hi
   have cw:i<d.length:=by omega
   refine((ih (i+1) (by omega)).jump (f:=fun m=>(nG m).bx (at_:Int) d (i:Int) (eA (t.take at_++d.take i++t.drop (at_+i)))) 1 fun m=>?_).mono (by omega)
   show zy (nG m) _ _ _ _=_
   unfold zy
   rw [cr cw,bB cw]
   simp only [cond_true,av]
   have AM:(t.take at_++d.take i).length=at_+i:=by rw [List.length_append,List.length_take,List.length_take];omega
   have hlen:at_+i<(eA (t.take at_++d.take i++t.drop (at_+i))).length:=by
    rw [GC,List.length_append,AM,List.length_drop];omega
   rw [show aK ((at_:Int) +(i:Int))=((at_+i:Nat):Int) by rw [ed (by omega) (by omega)];omega,bB hlen]
   simp only [av,Nat.zero_add]
   unfold R'
   rw [de i (by omega),ah7]
   congr 2
   rw [xR (show at_+i<t.length by omega),List.set_append_right _ _ (by rw [AM];omega),AM,Nat.sub_self,List.set_cons_zero,List.take_succ_eq_append_getElem cw,List.getD_eq_getElem?_getD,List.getElem?_eq_getElem cw,show at_ +(i+1)=at_+i+1 by omega]
   simp only [List.append_assoc,List.singleton_append,List.cons_append,List.nil_append,Option.getD_some]
 have h2:∀(r k:Nat),k+r=at_+d.length-s.length→bW (fun m=>(nG m).k2 (at_:Int) d (eA (s++gV k))) (r+d.length+3) (some (t.take at_++d++t.drop (at_+d.length),())):=by
  intro r
  induction r with
  | zero =>
   intro k hk
   have hk:k=at_+d.length-s.length:=by omega
   subst hk
   rw [ht]
   have:=a8 d.length 0 (by omega)
   rw [List.take_zero,List.append_nil,Nat.add_zero,List.take_append_drop] at this
   refine(this.jump (f:=fun m=>(nG m).k2 (at_:Int) d (eA t)) 1 fun m=>?_).mono (by omega)
   show zx (nG m) _ _ _=_
   unfold zx
   rw [hw,GC,cS (by omega)];rfl
  | succ r ih =>
   intro k hk
   refine((ih (k+1) (by omega)).jump (f:=fun m=>(nG m).k2 (at_:Int) d (eA (s++gV k))) 1 fun m=>?_).mono (by omega)
   show zx (nG m) _ _ _=_
   unfold zx
   have hl:(eA (s++gV k)).length=s.length+k:=by rw [GC,List.length_append];unfold gV;rw [List.length_replicate]
   rw [hw,cr (by rw [hl];omega)]
   simp only [cond_true]
   rw [cH (by rw [hl];simp only [List.length_cons,List.length_nil];omega)]
   simp only [cond_true]
   rw [ah6,List.append_assoc]
   have:gV k++[0]=gV (k+1):=by unfold gV;rw [List.replicate_succ']
   rw [this]
 have:=h2 (at_+d.length-s.length) 0 (by omega)
 rw [show gV 0=[] from rfl,List.append_nil] at this
 exact kL this (by omega)
theorem put_eq(s:aG)(at_:Nat)(d:aG):(s++gV (at_+d.length-s.length)).take at_++d++(s++gV (at_+d.length-s.length)).drop (at_+d.length)=iS s at_ d:=by
 unfold iS gd
 congr 1
 ·congr 1
  rw [List.take_append,List.take_append]
  congr 1
  unfold gV
  rw [List.take_replicate,List.take_replicate]
  congr 1
  omega
 ·rw [List.drop_append]
  have:(gV (at_+d.length-s.length)).drop (at_+d.length-s.length)=[]:=List.drop_of_length_le (by unfold gV;rw [List.length_replicate];omega)
  rw [this,List.append_nil]
theorem ah8(s:aG)(at_:Nat):((s++gV (at_ +([]:aG).length-s.length)).take at_++([]:aG)++(s++gV (at_ +([]:aG).length-s.length)).drop (at_ +([]:aG).length)).take at_=gd s at_:=by
 rw [put_eq]
 unfold iS
 rw [List.append_nil,List.take_append_of_le_length (by rw [o6];omega),List.take_of_length_le (by rw [o6];omega)]
def dF(x:aI)(d:aG):aI:=(x.1,x.2.1,x.2.2.1,x.2.2.2.1,x.2.2.2.2.1,d,x.2.2.2.2.2.2.1,x.2.2.2.2.2.2.2.1,x.2.2.2.2.2.2.2.2.1,())
def eg(x:aJ.D)(n:aI):Int:=if aE x=6 then((bh n).length:Int) else bQ x
def ig(x:aJ.D)(n:aI):aG:=if aE x=7 then gd (bh n) (bQ x).toNat else iS (bh n) (eg x n).toNat (dD x)
structure vF(v:af.D)(c:aH.D)(x:aJ.D)(w:af.D):Prop where
 out:∃r i,l6 v.2.1 r∧bC r=0∧bd v.2.1 (bj r)=some i∧kindOf (J I v.2.1 i)≠2∧kindOf (J I v.2.1 i)≠3∧may c (J I v.2.1 i) 2=true∧0≤eg x (J I v.2.1 i)∧dQ (v,c,eU x,true,())=some (r,()) ∧
  ((aE x≠7∧dD x=[]∧w=v)∨((aE x≠7→dD x≠[])∧eg x (J I v.2.1 i) +(dD x).length≤64∧w=(v.1,v.2.1.set i (dF (J I v.2.1 i) (ig x (J I v.2.1 i))),())∧e8 w.2.1=0))
theorem WH(v:af.D)(c:aH.D)(x:aJ.D)(want:Int)(hw:nY v.2.1)(hc:c9 c=true)(au:(eU x).length≤1048576) :
  ∃r,sR true v.2.1 r∧dQ (v,c,eU x,true,())=some (r,())∧(bC r≠0→zV ((v,c,x,()),want,())=some (-1,bC r,(v,c,x,()),())) ∧
   (bC r=0→∃i,bd v.2.1 (bj r)=some i∧zV ((v,c,x,()),want,())=cond (kindOf (J I v.2.1 i)==2) (some (-1,21,(v,c,x,()),())) (cond (!may c (J I v.2.1 i) want) (some (-1,13,(v,c,x,()),())) (some ((i:Int),0,(v,c,x,()),())))):=by
 obtain ⟨r,h1,h2,h3,h4⟩:=s5 v c x true hw hc au
 refine⟨r,h1,h2,fun h0=>?_,fun h0=>?_⟩
 ·show zU (v,c,x,()) want=_
  unfold zU
  rw [h3 h0]
  simp only [av]
  rw [cP h0];rfl
 ·obtain ⟨i,hi,a8⟩:=h4 h0
  refine⟨i,hi,?_⟩
  show zU (v,c,x,()) want=_
  unfold zU
  rw [a8]
  simp only [av]
  rw [show((0:Int) != 0)=false from rfl]
  simp only [cond_false]
  rw [bB (bY hi).1]
  simp only [av]
  rw [Ar c _ want hc];rfl
theorem ah9(m:Nat)(a b d):(gF (m+1)).da a b d=Lo (gF m) a b d:=rfl
theorem ah_(m:Nat)(a b d):(gF (m+1)).db a b d=Lp (gF m) a b d:=rfl
theorem ah'(m:Nat)(a b d):(gF (m+1)).gR a b d=Lq (gF m) a b d:=rfl
theorem WI(m:Nat)(a b d e f g):(hY (m+1)).la a b d e f g=Dt (hY m) a b d e f g:=rfl
theorem WJ(m:Nat)(a b d e):(hY (m+1)).hK a b d e=Du (hY m) a b d e:=rfl
theorem bE.fe{v:af.D}(h:bE v){i:Nat}(hi:i<v.2.1.length):(bh (J I v.2.1 i)).length≤64:=by
 have:=h.ino i hi
 rcases this.kind with k | k | k
 ·exact this.file k
 ·rw [(this.dir k).1];simp
 ·have:=Av (this.l5 k).1;omega
theorem aia(v:af.D)(c:aH.D)(x:aJ.D)(hv:bE v)(hc:c9 c=true)(hx:ib x)(hk:aE x=5∨aE x=6∨aE x=7):bt v c x (E7 ((v,c,x,()),())) (qP (v,c,x,())) (vF v c x):=by
 have b8:=hv.gy
 have hl:v.2.1.length≤1048576:=b8.len
 have au:=hx.path
 have alD:=hx.fe
 have my:=hx.n
 obtain ⟨q,hq,iq⟩:=jm 4
 show bt v c x (E6 (gF aQ) (v,c,x,())) (sf (hY aQ) v c x) _
 unfold E6 sf
 obtain ⟨r,⟨hr,s6⟩,fF,kq,kr⟩:=WH v c x 2 b8 hc (by omega)
 show bt v c x _ (Option.bind (dQ (v,c,eU x,true,())) _) _
 rw [fF]
 simp only [av]
 show bt v c x _ (cond (bC r != 0) (some (v,(bC r,[],()),())) _) _
 by_cases bT:bC r=0
 case neg =>
  rw [kq bT,cP bT]
  simp only [av]
  rw [cP bT]
  exact bt.no (bC r) bT rfl rfl
 obtain ⟨i,hi,e4⟩:=kr bT
 have bI:=bY hi
 rw [e4,dk bT]
 simp only [cond_false]
 show bt v c x _ (Option.bind (eS (v,bj r,())) _) _
 rw [h_ v _ hl hi]
 simp only [av]
 show bt v c x _ (cond (kindOf (J I v.2.1 i)==2) _ _) _
 by_cases fM:kindOf (J I v.2.1 i)=2
 ·rw [cF fM]
  exact bt.no 21 (by decide) rfl rfl
 rw [ca fM]
 simp only [cond_false]
 rw [m0 c _ 2 hc]
 simp only [av]
 cases hm:may c (J I v.2.1 i) 2 with
 | false=>exact bt.no 13 (by decide) rfl rfl
 | true =>
 simp only [Bool.not_true,cond_false,av]
 rw [show((0:Int) != 0)=false from rfl]
 simp only [cond_false]
 have alE:=hv.fe bI.1
 have aib:cond (x.1==6) ((aO v.2.1.length (i:Int)).bind fun v2=>(gF aQ).da (i:Int) ((J I v.2.1 v2).2.2.2.2.2.1.length:Int) (v,c,x,())) ((gF aQ).da (i:Int) x.2.2.2.1 (v,c,x,()))=(gF aQ).da (i:Int) (eg x (J I v.2.1 i)) (v,c,x,()):=by
  rw [bB bI.1]
  unfold eg
  show cond (aE x==6) _ _=_
  by_cases bl:aE x=6
  ·rw [cF bl,if_pos bl];rfl
  ·rw [ca bl,if_neg bl];rfl
 have aic:cond (x.1==6) ((hY aQ).la ((J I v.2.1 i).2.2.2.2.2.1.length:Int) v x (0,([]:List I.D),()) (0,([]:aG),()) (J I v.2.1 i)) ((hY aQ).la x.2.2.2.1 v x (0,([]:List I.D),()) (0,([]:aG),()) (J I v.2.1 i))=(hY aQ).la (eg x (J I v.2.1 i)) v x (0,([]:List I.D),()) (0,([]:aG),()) (J I v.2.1 i):=by
  unfold eg
  show cond (aE x==6) _ _=_
  by_cases bl:aE x=6
  ·rw [cF bl,if_pos bl];rfl
  ·rw [ca bl,if_neg bl];rfl
 show bt v c x (cond (x.1==6) ((aO v.2.1.length (i:Int)).bind fun v2=>(gF aQ).da (i:Int) ((J I v.2.1 v2).2.2.2.2.2.1.length:Int) (v,c,x,())) ((gF aQ).da (i:Int) x.2.2.2.1 (v,c,x,())))
  (cond (x.1==6) ((hY aQ).la ((J I v.2.1 i).2.2.2.2.2.1.length:Int) v x (0,([]:List I.D),()) (0,([]:aG),()) (J I v.2.1 i)) ((hY aQ).la x.2.2.2.1 v x (0,([]:List I.D),()) (0,([]:aG),()) (J I v.2.1 i))) _
 rw [aib,aic,hq,ah9,WI]
 unfold Lo Dt
 by_cases Bx:eg x (J I v.2.1 i)<0
 ·rw [decide_eq_true Bx]
  exact bt.no 22 (by decide) rfl rfl
 rw [decide_eq_false Bx]
 simp only [cond_false]
 obtain ⟨a,ha⟩:∃a:Nat,eg x (J I v.2.1 i)=a:=⟨(eg x (J I v.2.1 i)).toNat,by omega⟩
 have alF:a≤1000000:=by
  have:eg x (J I v.2.1 i)≤1000000:=by
   unfold eg
   split
   ·omega
   ·exact my.2
  omega
 show bt v c x (cond (!(aE x==7)) (cond (bs (dD x) []) (some (0,(v,c,x,()),())) ((gF (q+3)).db (i:Int) (eg x (J I v.2.1 i)) (v,c,x,()))) ((gF (q+3)).db (i:Int) (eg x (J I v.2.1 i)) (v,c,x,())))
  (cond (aE x==7) (cond (decide (eg x (J I v.2.1 i)>64)) (some (v,(27,[],()),())) (Option.bind (qO (bh (J I v.2.1 i),eg x (J I v.2.1 i),[],())) fun v1=>Option.bind (du v1.1.length 0 (eg x (J I v.2.1 i))) fun v2=>(hY (q+3)).hK v (0,([]:List I.D),()) (0,([]:aG),()) (dF (J I v.2.1 i) (part v1.1 v2.1 (v2.2-v2.1)))))
   (cond (bs (dD x) []) (some (v,(0,[],()),())) (cond (decide (eg x (J I v.2.1 i)>aK (64-((dD x).length:Int)))) (some (v,(27,[],()),())) (Option.bind (qO (bh (J I v.2.1 i),eg x (J I v.2.1 i),dD x,())) fun v3=>(hY (q+3)).hK v (0,([]:List I.D),()) (0,([]:aG),()) (dF (J I v.2.1 i) v3.1))))) _
 have N1:aE x≠7→dD x=[]→vF v c x v:=fun bK ag=>⟨r,i,hr,bT,hi,fM,s6 rfl bT i hi,hm,by omega,fF,.inl ⟨bK,ag,rfl⟩⟩
 by_cases qc:aE x≠7∧dD x=[]
 ·rw [ca qc.1,l7.2 qc.2]
  exact⟨0,v,rfl,rfl,fun _=>N1 qc.1 qc.2⟩
 have aid:cond (!(aE x==7)) (cond (bs (dD x) []) (some (0,(v,c,x,()),())) ((gF (q+3)).db (i:Int) (eg x (J I v.2.1 i)) (v,c,x,()))) ((gF (q+3)).db (i:Int) (eg x (J I v.2.1 i)) (v,c,x,()))=(gF (q+3)).db (i:Int) (eg x (J I v.2.1 i)) (v,c,x,()):=by
  by_cases bK:aE x=7
  ·rw [cF bK];rfl
  ·rw [ca bK]
   have:bs (dD x) []=false:=by rw [← Bool.not_eq_true,l7];exact fun h=>qc ⟨bK,h⟩
   rw [this];rfl
 rw [aid,ah_]
 unfold Lp
 show bt v c x (cond (decide (aK (eg x (J I v.2.1 i) +((dD x).length:Int))>64)) _ _) _ _
 have WK:aE x=7→dD x=[]:=fun bK=>hx.Wh.elim id fun h=>by omega
 have aie:aK (eg x (J I v.2.1 i) +((dD x).length:Int))=((a +(dD x).length:Nat):Int):=by rw [ha,ed (by omega) (by omega)];omega
 rw [aie]
 by_cases GD:a +(dD x).length>64
 ·rw [decide_eq_true (by omega)]
  have:cond (aE x==7) (cond (decide (eg x (J I v.2.1 i)>64)) (some (v,((27:Int),([]:aG),()),())) (Option.bind (qO (bh (J I v.2.1 i),eg x (J I v.2.1 i),[],())) fun v1=>Option.bind (du v1.1.length 0 (eg x (J I v.2.1 i))) fun v2=>(hY (q+3)).hK v (0,([]:List I.D),()) (0,([]:aG),()) (dF (J I v.2.1 i) (part v1.1 v2.1 (v2.2-v2.1)))))
   (cond (bs (dD x) []) (some (v,(0,[],()),())) (cond (decide (eg x (J I v.2.1 i)>aK (64-((dD x).length:Int)))) (some (v,(27,[],()),())) (Option.bind (qO (bh (J I v.2.1 i),eg x (J I v.2.1 i),dD x,())) fun v3=>(hY (q+3)).hK v (0,([]:List I.D),()) (0,([]:aG),()) (dF (J I v.2.1 i) v3.1))))=some (v,(27,[],()),()):=by
   by_cases bK:aE x=7
   ·have h0:=WK bK
    rw [h0] at GD
    simp only [List.length_nil] at GD
    rw [cF bK,decide_eq_true (show eg x (J I v.2.1 i)>64 by omega)];rfl
   ·rw [ca bK]
    have h0:bs (dD x) []=false:=by rw [← Bool.not_eq_true,l7];exact fun h=>qc ⟨bK,h⟩
    rw [h0,show aK (64-((dD x).length:Int))=64-((dD x).length:Int) from ed (by omega) (by omega),decide_eq_true (show eg x (J I v.2.1 i)>64-((dD x).length:Int) by omega)];rfl
  rw [this]
  exact bt.no 27 (by decide) rfl rfl
 rw [decide_eq_false (by omega)]
 simp only [cond_false]
 obtain ⟨w,hw⟩:∃w:af.D,w=(v.1,v.2.1.set i (dF (J I v.2.1 i) (ig x (J I v.2.1 i))),()):=⟨_,rfl⟩
 have hnl:(ig x (J I v.2.1 i)).length≤200:=by
  have hf:∀s n,(gd s n).length=n:=o6
  unfold ig iS
  rw [ha,Int.toNat_natCast]
  split
  ·rename_i bK
   have:eg x (J I v.2.1 i)=bQ x:=by unfold eg;rw [if_neg (by omega)]
   rw [hf];omega
  ·rw [List.length_append,List.length_append,hf,List.length_drop];omega
 have hst:aq 1000 w.2.1:=by
  rw [hw]
  exact(hv.st.set (k:=200) (i:=i) (y:=dF (J I v.2.1 i) (ig x (J I v.2.1 i))) bI.1 rfl (fun d ag=>hv.gT i bI.1 d ag) (fun eb=>hv.st.bare i bI.1 eb) (Nat.le_add_right _ _) (by
   show(ig x (J I v.2.1 i)).length≤_
   omega)).mono (by omega)
 have hwr:e8 w.2.1=0→vF v c x w:=fun hf=>⟨r,i,hr,bT,hi,fM,s6 rfl bT i hi,hm,by omega,fF,.inr ⟨fun bK h=>qc ⟨bK,h⟩,by omega,hw,hf⟩⟩
 have AH:∀m,(gF (m+1)).gR (i:Int) (ig x (J I v.2.1 i)) (v,c,x,())=some (e8 w.2.1,(w,c,x,()),()):=by
  intro m
  rw [ah']
  unfold Lq
  show Option.bind (aO v.2.1.length (i:Int)) _=_
  rw [bB bI.1]
  show Option.bind (nN (((v.1,v.2.1.set i (dF (J I v.2.1 i) (ig x (J I v.2.1 i))),()),c,x,()),())) (fun v3=>some (v3.1,((v.1,v.2.1.set i (dF (J I v.2.1 i) (ig x (J I v.2.1 i))),()),c,x,()),()))=_
  rw [← hw,AA w c x hst (by omega)];rfl
 have WL:∀m,(hY (m+1)).hK v (0,([]:List I.D),()) (0,([]:aG),()) (dF (J I v.2.1 i) (ig x (J I v.2.1 i)))=some (cond (e8 w.2.1==0) w v,(e8 w.2.1,[],()),()):=by
  intro m
  rw [WJ]
  unfold Du
  rw [vv v hl (fun i hi=>Nat.le_trans (fN hi) b8.cG)]
  simp only [av]
  rw [Ax v _ hl (show bd v.2.1 (dF (J I v.2.1 i) (ig x (J I v.2.1 i))).1=some i from(show(J I v.2.1 i).1=bj r from bI.2) ▸ hi),← hw]
  simp only [av]
  rw [xU v w hst (by omega)];rfl
 have aif:(cond (decide (((bh (J I v.2.1 i)).length:Int) >((gd (bh (J I v.2.1 i)) a++dD x).length:Int)))
   ((du (bh (J I v.2.1 i)).length ((gd (bh (J I v.2.1 i)) a++dD x).length:Int) ((bh (J I v.2.1 i)).length:Int)).bind fun v5=>cond (room ((gd (bh (J I v.2.1 i)) a++dD x).length +(part (bh (J I v.2.1 i)) v5.1 (v5.2-v5.1)).length))
    ((gF (q+2)).gR (i:Int) ((gd (bh (J I v.2.1 i)) a++dD x)++part (bh (J I v.2.1 i)) v5.1 (v5.2-v5.1)) (v,c,x,())) none)
   ((gF (q+2)).gR (i:Int) (gd (bh (J I v.2.1 i)) a++dD x) (v,c,x,())))=(gF (q+2)).gR (i:Int) (iS (bh (J I v.2.1 i)) a (dD x)) (v,c,x,()):=by
  have fp:(gd (bh (J I v.2.1 i)) a++dD x).length=a +(dD x).length:=by rw [List.length_append,o6]
  rw [fp]
  unfold iS
  by_cases qb:(bh (J I v.2.1 i)).length>a +(dD x).length
  ·rw [decide_eq_true (by omega)]
   simp only [cond_true]
   rw [iW (by omega) (Nat.le_refl _)]
   simp only [av]
   rw [Aj,cH (by rw [List.length_drop];omega)];rfl
  ·rw [decide_eq_false (by omega)]
   simp only [cond_false]
   rw [List.drop_of_length_le (by omega),List.append_nil]
 show bt v c x (Option.bind (aO v.2.1.length (i:Int)) fun v1=>Option.bind (E5 (bh (J I v.2.1 v1),eg x (J I v.2.1 i),())) fun v2=>cond (!(aE x==7)) (cond (room (v2.1.length +(dD x).length)) (Option.bind (aO v.2.1.length (i:Int)) fun v3=>cond (decide (((bh (J I v.2.1 v3)).length:Int) >((v2.1++dD x).length:Int)))
   (Option.bind (aO v.2.1.length (i:Int)) fun v4=>(du (bh (J I v.2.1 v4)).length ((v2.1++dD x).length:Int) ((bh (J I v.2.1 v4)).length:Int)).bind fun v5=>cond (room ((v2.1++dD x).length +(part (bh (J I v.2.1 v4)) v5.1 (v5.2-v5.1)).length))
    ((gF (q+2)).gR (i:Int) ((v2.1++dD x)++part (bh (J I v.2.1 v4)) v5.1 (v5.2-v5.1)) (v,c,x,())) none)
   ((gF (q+2)).gR (i:Int) (v2.1++dD x) (v,c,x,()))) none) ((gF (q+2)).gR (i:Int) v2.1 (v,c,x,()))) _ _
 rw [bB bI.1,ha]
 simp only [av]
 rw [ah5 _ _ (by omega) (by omega)]
 simp only [av]
 rw [cH (by rw [o6];omega)]
 simp only [cond_true]
 rw [aif]
 by_cases bK:aE x=7
 ·have tV:=WK bK
  have hH:ig x (J I v.2.1 i)=gd (bh (J I v.2.1 i)) a:=by
   unfold ig
   rw [if_pos bK]
   have:eg x (J I v.2.1 i)=bQ x:=by unfold eg;rw [if_neg (by omega)]
   rw [← this,ha,Int.toNat_natCast]
  rw [cF bK]
  rw [tV] at GD
  simp only [List.length_nil] at GD
  rw [decide_eq_false (show ¬((a:Int)>64) by omega)]
  simp only [Bool.not_true,cond_false,cond_true]
  rw [N0 _ _ _ (by omega) (by omega) (by simp)]
  simp only [av]
  rw [put_eq]
  show bt v c x _ (Option.bind (du (iS (bh (J I v.2.1 i)) a []).length ((0:Nat):Int) (a:Int)) _) _
  rw [iW (by omega) (by unfold iS;rw [List.length_append,List.length_append,o6];omega)]
  simp only [av,Nat.sub_zero]
  have mu:part (iS (bh (J I v.2.1 i)) a []) 0 a=ig x (J I v.2.1 i):=by
   rw [vq,hH,← ah8,put_eq]
  rw [mu,← hH,AH (q+1),WL (q+2)]
  exact⟨_,_,rfl,rfl,hwr⟩
 ·have hH:ig x (J I v.2.1 i)=iS (bh (J I v.2.1 i)) a (dD x):=by
   unfold ig
   rw [if_neg bK,ha,Int.toNat_natCast]
  rw [ca bK]
  have h0:bs (dD x) []=false:=by rw [← Bool.not_eq_true,l7];exact fun h=>qc ⟨bK,h⟩
  rw [h0,show aK (64-((dD x).length:Int))=64-((dD x).length:Int) from ed (by omega) (by omega),decide_eq_false (show ¬((a:Int)>64-((dD x).length:Int)) by omega)]
  simp only [Bool.not_false,cond_true,cond_false]
  rw [N0 _ _ _ (by omega) (by omega) (by omega)]
  simp only [av]
  rw [put_eq,← hH,AH (q+1),WL (q+2)]
  exact⟨_,_,rfl,rfl,hwr⟩
theorem WM(l:List aI):bytesOf l=((List.range l.length).map fun i=>(bh (J I l i)).length).sum:=by
 unfold bytesOf
 congr 1
 refine List.ext_getElem (by simp) fun i h1 h2=>?_
 simp only [List.length_map] at h1
 rw [List.getElem_map,List.getElem_map,List.getElem_range,c8 h1]
structure Alike(l l':List aI):Prop where
 len:l'.length=l.length
 id:∀i,(J I l' i).1=(J I l i).1
 fe:∀i,bh (J I l' i)=bh (J I l i)
 cG:∀i,ak (J I l' i)=ak (J I l i)
theorem Alike.bd{l l':List aI}(h:Alike l l'):kF.bd l'=kF.bd l:=by
 funext id
 unfold kF.bd
 rw [h.len]
 refine NB fun i _=>?_
 rw [h.id]
theorem Alike.below{l l':List aI}(h:Alike l l'):dw l'=dw l:=by
 have e1:jC l'=jC l:=by
  funext i j s
  unfold jC
  rw [h.bd,h.cG]
 have e2:iP l'=iP l:=by
  funext i s
  unfold iP
  rw [e1,h.cG]
 have e3:ft l'=ft l:=by
  funext s
  unfold ft
  rw [e2,h.len]
 funext id
 unfold dw
 rw [h.bd,h.len,e3]
theorem Alike.aih{l l':List aI}(h:Alike l l')(x bF:aI)(h1:bF.1=x.1)(h2:eE bF=eE x)(h3:et bF=et x):hO l' bF=hO l x:=by
 have e1:iQ l'=iQ l:=by
  funext F
  unfold iQ o0 dl
  rw [h.len]
  congr 2
  funext i
  rw [h.fe]
 have e2:jn l'=jn l:=by
  funext F
  unfold jn o0
  rw [h.len]
 unfold hO
 rw [e1,e2,h.below,h1,h2,h3]
theorem Alike.fits{l l':List aI}(h:Alike l l')(hb:∀i,eE (J I l' i)=eE (J I l i))(hi:∀i,et (J I l' i)=et (J I l i)):e8 l'=e8 l:=by
 have e1:bytesOf l'=bytesOf l:=by
  rw [WM,WM,h.len]
  congr 2
  funext i
  rw [h.fe]
 have e2:gw l'=gw l:=by
  unfold gw
  rw [h.len]
  congr 2
  funext i
  rw [h.aih (J I l i) (J I l' i) (h.id i) (hb i) (hi i)]
 unfold e8
 rw [e1,e2]
theorem aii{l:List aI}{i:Nat}{y:aI}(hi:i<l.length)(h1:y.1=(J I l i).1)(h2:bh y=bh (J I l i))(h3:ak y=ak (J I l i)):Alike l (l.set i y):=by
 refine⟨List.length_set,fun j=>?_,fun j=>?_,fun j=>?_⟩ <;>
  ·rw [gb hi]
   split
   ·rename_i he;subst he;assumption
   ·rfl
def jr(x:aI)(m u g:Int):aI:=(x.1,x.2.1,m,u,g,x.2.2.2.2.2.1,x.2.2.2.2.2.2.1,x.2.2.2.2.2.2.2.1,x.2.2.2.2.2.2.2.2.1,())
theorem WN(x:aI)(m u g:Int):(jr x m u g).1=x.1:=rfl
theorem GF{v:af.D}(hv:bE v){i:Nat}(hi:i<v.2.1.length)(m u g:Int):e8 (v.2.1.set i (jr (J I v.2.1 i) m u g))=0:=by
 have ha:Alike v.2.1 (v.2.1.set i (jr (J I v.2.1 i) m u g)):=aii hi rfl rfl rfl
 rw [ha.fits (fun j=>by
  rw [gb hi]
  split
  ·rename_i he;subst he;rfl
  ·rfl) (fun j=>by
  rw [gb hi]
  split
  ·rename_i he;subst he;rfl
  ·rfl)]
 unfold e8
 rw [decide_eq_false (by have:=hv.bytes;omega),hv.over];rfl
theorem WO{v:af.D}(hv:bE v){i:Nat}(hi:i<v.2.1.length)(m u g:Int):aq 1000 (v.2.1.set i (jr (J I v.2.1 i) m u g)) :=
 (hv.st.set (k:=1) (i:=i) (y:=jr (J I v.2.1 i) m u g) hi rfl (fun d ag=>hv.gT i hi d ag) (fun hk=>hv.st.bare i hi hk) (Nat.le_add_right _ _) (Nat.le_add_right _ _)).mono (by omega)
def andNot(a b:Int):Int:=cQ .andNot .i64 a b
def rm(c:aH.D)(x:aJ.D)(n:aI):Int:=if c.1≠0∧mZ c (fj n)=false then andNot (bQ x) 1024 else bQ x
theorem AO(m:Nat)(a b d e f g):(h5 (m+1)).dL a b d e f g=zz (h5 m) a b d e f g:=rfl
theorem N2(m:Nat)(a b d e f):(h5 (m+1)).la a b d e f=zA (h5 m) a b d e f:=rfl
theorem aij(m:Nat)(a b d e f g):(h5 (m+1)).pR a b d e f g=J8 (h5 m) a b d e f g:=rfl
theorem aik(m:Nat)(a b d e):(h5 (m+1)).f_ a b d e=J9 (h5 m) a b d e:=rfl
theorem N3{v:af.D}(hv:bE v)(z:af.D)(jL:aF.D){i:Nat}(hi:i<v.2.1.length)(n:aI)(hn:n.1=(J I v.2.1 i).1)(hst:aq 1000 (v.2.1.set i n))(m:Nat) :
  (h5 (m+1)).f_ v z jL n=some (cond (e8 (v.2.1.set i n)==0) (v.1,v.2.1.set i n,()) v,(e8 (v.2.1.set i n),[],()),()):=by
 have b8:=hv.gy
 rw [aik]
 unfold J9
 rw [vv v b8.len (fun i hi=>Nat.le_trans (fN hi) b8.cG)]
 simp only [av]
 rw [Ax v n b8.len (show bd v.2.1 n.1=some i from hn ▸ hv.ga i hi)]
 simp only [av]
 rw [xU v (v.1,v.2.1.set i n,()) hst (by omega)];rfl
structure AP(v:af.D)(c:aH.D)(x:aJ.D)(w:af.D):Prop where
 out:0≤bQ x∧bQ x≤2047∧∃r i,l6 v.2.1 r∧bC r=0∧bd v.2.1 (bj r)=some i∧kindOf (J I v.2.1 i)≠3∧(c.1≠0→c.1=ez (J I v.2.1 i)) ∧
  w=(v.1,v.2.1.set i (jr (J I v.2.1 i) (rm c x (J I v.2.1 i)) (ez (J I v.2.1 i)) (fj (J I v.2.1 i))),())
theorem ail(v:af.D)(c:aH.D)(x:aJ.D)(hv:bE v)(hc:c9 c=true)(hx:ib x)(hk:aE x=15):bt v c x (Fj ((v,c,x,()),())) (sh (v,c,x,())) (AP v c x):=by
 have b8:=hv.gy
 have hl:v.2.1.length≤1048576:=b8.len
 have au:=hx.path
 obtain ⟨q,hq,iq⟩:=jm 4
 show bt v c x (Fi (q5 aQ) (v,c,x,())) (sg (h5 aQ) v c x) _
 unfold Fi sg
 show bt v c x (Option.bind (eL (bQ x,0,2047,())) _) (cond (aE x==15) (Option.bind (ep (bQ x,0,2047,())) _) _) _
 rw [cF hk,jA,jW]
 simp only [cond_true,av]
 rw [hq,AO]
 unfold zz
 cases hN:c3 (bQ x) 0 2047 with
 | false=>exact bt.no 22 (by decide) rfl rfl
 | true =>
 have qa:=dR.1 hN
 simp only [Bool.not_true,cond_false]
 show bt v c x _ (cond (aE x==19) _ _) _
 rw [ca (show aE x≠19 by omega),N2]
 simp only [cond_false]
 unfold zA
 obtain ⟨r,⟨hr,s6⟩,fF,kq,kr⟩:=s5 v c x true b8 hc (by omega)
 show bt v c x _ (Option.bind (dQ (v,c,eU x,true,())) _) _
 rw [fF]
 simp only [av]
 show bt v c x _ (cond (bC r != 0) (some (v,(bC r,[],()),())) _) _
 by_cases bT:bC r=0
 case neg =>
  rw [kq bT,cP bT]
  simp only [av]
  rw [cP bT]
  exact bt.no (bC r) bT rfl rfl
 obtain ⟨i,hi,e4⟩:=kr bT
 have bI:=bY hi
 rw [e4,dk bT]
 simp only [cond_false,av]
 rw [show((0:Int) != 0)=false from rfl]
 simp only [cond_false]
 show bt v c x _ (Option.bind (eS (v,bj r,())) _) _
 rw [h_ v _ hl hi,bB bI.1]
 simp only [av]
 show bt v c x (cond (c.1 != 0) (cond (c.1 != ez (J I v.2.1 i)) (some (1,(v,c,x,()),())) (q5 (q+4) (i:Int) (v,c,x,()))) (q5 (q+4) (i:Int) (v,c,x,())))
  (cond (aE x==15) (cond (c.1 != 0) (cond (c.1 != ez (J I v.2.1 i)) (some (v,(1,[],()),())) ((h5 (q+2)).pR v c x (0,([]:List I.D),()) (0,([]:aG),()) (J I v.2.1 i))) ((h5 (q+2)).pR v c x (0,([]:List I.D),()) (0,([]:aG),()) (J I v.2.1 i))) _) _
 rw [cF hk]
 simp only [cond_true]
 have hfin:(c.1≠0→c.1=ez (J I v.2.1 i))→bt v c x (q5 (q+4) (i:Int) (v,c,x,())) ((h5 (q+2)).pR v c x (0,([]:List I.D),()) (0,([]:aG),()) (J I v.2.1 i)) (AP v c x):=by
  intro hu
  have e4:q5 (q+4) (i:Int) (v,c,x,())=some (0,((v.1,v.2.1.set i (jr (J I v.2.1 i) (rm c x (J I v.2.1 i)) (ez (J I v.2.1 i)) (fj (J I v.2.1 i))),()),c,x,()),()):=by
   rw [q5,Lw]
   show Option.bind (aO v.2.1.length (i:Int)) (fun v1=>Lv (v,c,x,()) (i:Int) (v.2.1.set v1 (jr (J I v.2.1 v1) (bQ x) (ez (J I v.2.1 v1)) (fj (J I v.2.1 v1)))))=_
   rw [bB bI.1]
   simp only [av]
   unfold Lv rm
   have aA:J I (v.2.1.set i (jr (J I v.2.1 i) (bQ x) (ez (J I v.2.1 i)) (fj (J I v.2.1 i)))) i=jr (J I v.2.1 i) (bQ x) (ez (J I v.2.1 i)) (fj (J I v.2.1 i)):=by rw [gb bI.1,if_pos rfl]
   have eN:aO (v.2.1.set i (jr (J I v.2.1 i) (bQ x) (ez (J I v.2.1 i)) (fj (J I v.2.1 i)))).length (i:Int)=some i:=bB (by rw [List.length_set];exact bI.1)
   show cond (c.1 != 0) _ _=_
   by_cases h0:c.1=0
   ·rw [dk h0,if_neg (fun h=>h.1 h0)];rfl
   ·rw [cP h0,eN]
    simp only [cond_true,av]
    rw [aA]
    show Option.bind (ve (c,fj (J I v.2.1 i),())) _=_
    rw [Nb c _ hc]
    simp only [av]
    cases BP:mZ c (fj (J I v.2.1 i)) with
    | true=>rw [if_neg (fun h=>by cases h.2)];rfl
    | false =>
     rw [if_pos ⟨h0,rfl⟩]
     simp only [Bool.not_false,cond_true]
     unfold S9
     rw [List.set_set];rfl
  have dm:(h5 (q+2)).pR v c x (0,([]:List I.D),()) (0,([]:aG),()) (J I v.2.1 i)=(h5 (q+1)).f_ v (0,([]:List I.D),()) (0,([]:aG),()) (jr (J I v.2.1 i) (rm c x (J I v.2.1 i)) (ez (J I v.2.1 i)) (fj (J I v.2.1 i))):=by
   rw [aij]
   unfold J8 rm
   show cond (c.1 != 0) (Option.bind (um (c,fj (J I v.2.1 i),())) _) _=_
   by_cases h0:c.1=0
   ·rw [dk h0,if_neg (fun h=>h.1 h0)];rfl
   ·rw [cP h0,Na c _ hc]
    simp only [cond_true,av]
    cases BP:mZ c (fj (J I v.2.1 i)) with
    | true=>rw [if_neg (fun h=>by cases h.2)];rfl
    | false=>rw [if_pos ⟨h0,rfl⟩];rfl
  rw [e4,dm,N3 hv _ _ bI.1 _ (WN _ _ _ _) (WO hv bI.1 _ _ _),GF hv bI.1]
  exact⟨0,_,rfl,rfl,fun _=>⟨qa.1,qa.2,r,i,hr,bT,hi,s6 rfl bT i hi,hu,rfl⟩⟩
 by_cases h0:c.1=0
 ·rw [dk h0]
  exact hfin fun h=>absurd h0 h
 ·rw [cP h0]
  simp only [cond_true]
  by_cases hu:c.1=ez (J I v.2.1 i)
  ·rw [dk hu]
   exact hfin fun _=>hu
  ·rw [cP hu]
   exact bt.no 1 (by decide) rfl rfl
structure AQ(v:af.D)(c:aH.D)(x:aJ.D)(w:af.D):Prop where
 out:(0≤bQ x∧bQ x≤1000)∧(0≤dV x∧dV x≤1000)∧∃r i,l6 v.2.1 r∧bC r=0∧bd v.2.1 (bj r)=some i∧w=(v.1,v.2.1.set i (jr (J I v.2.1 i) (e7 (J I v.2.1 i)) (bQ x) (dV x)),())
theorem aim(v:af.D)(c:aH.D)(x:aJ.D)(hv:bE v)(hc:c9 c=true)(hx:ib x)(hk:aE x=16):bt v c x (Fm ((v,c,x,()),())) (sh (v,c,x,())) (AQ v c x):=by
 have b8:=hv.gy
 have hl:v.2.1.length≤1048576:=b8.len
 have au:=hx.path
 obtain ⟨q,hq,iq⟩:=jm 4
 show bt v c x (Fl (q6 aQ) (v,c,x,())) (sg (h5 aQ) v c x) _
 unfold Fl sg
 show bt v c x (Option.bind (eL (bQ x,0,1000,())) fun v1=>cond (!v1.1) _ (Option.bind (eL (dV x,0,1000,())) _)) (cond (aE x==15) _ (cond (aE x==16) (Option.bind (ep (bQ x,0,1000,())) fun v2=>cond (!v2.1) _ (Option.bind (ep (dV x,0,1000,())) _)) _)) _
 rw [ca (show aE x≠15 by omega),cF hk]
 simp only [cond_true,cond_false]
 rw [jA,jW]
 simp only [av]
 rw [hq]
 cases hN:c3 (bQ x) 0 1000 with
 | false =>
  simp only [Bool.not_false,cond_true]
  rw [AO]
  exact bt.no 22 (by decide) rfl rfl
 | true =>
 have qa:=dR.1 hN
 simp only [Bool.not_true,cond_false]
 rw [jA,jW]
 simp only [av]
 rw [AO]
 unfold zz
 cases nA:c3 (dV x) 0 1000 with
 | false=>exact bt.no 22 (by decide) rfl rfl
 | true =>
 have N4:=dR.1 nA
 simp only [Bool.not_true,cond_false]
 show bt v c x _ (cond (aE x==19) _ _) _
 rw [ca (show aE x≠19 by omega),N2]
 simp only [cond_false]
 unfold zA
 obtain ⟨r,⟨hr,s6⟩,fF,kq,kr⟩:=s5 v c x true b8 hc (by omega)
 show bt v c x _ (Option.bind (dQ (v,c,eU x,true,())) _) _
 rw [fF]
 simp only [av]
 show bt v c x _ (cond (bC r != 0) (some (v,(bC r,[],()),())) _) _
 by_cases bT:bC r=0
 case neg =>
  rw [kq bT,cP bT]
  simp only [av]
  rw [cP bT]
  exact bt.no (bC r) bT rfl rfl
 obtain ⟨i,hi,e4⟩:=kr bT
 have bI:=bY hi
 rw [e4,dk bT]
 simp only [cond_false,av]
 rw [show((0:Int) != 0)=false from rfl]
 simp only [cond_false]
 show bt v c x _ (Option.bind (eS (v,bj r,())) _) _
 rw [h_ v _ hl hi,bB bI.1]
 simp only [av]
 show bt v c x (cond (c.1 != 0) (cond (c.1 != ez (J I v.2.1 i)) (some (1,(v,c,x,()),())) (cond (bQ x != ez (J I v.2.1 i)) (some (1,(v,c,x,()),())) (Option.bind (ve (c,dV x,())) fun v6=>cond (!v6.1) (some (1,(v,c,x,()),())) (q6 (q+4) (i:Int) (v,c,x,()))))) (q6 (q+4) (i:Int) (v,c,x,())))
  (cond (aE x==15) _ (cond (aE x==16) (cond (c.1 != 0) (cond (c.1 != ez (J I v.2.1 i)) (some (v,(1,[],()),())) (cond (bQ x != ez (J I v.2.1 i)) (some (v,(1,[],()),())) (Option.bind (um (c,dV x,())) fun v3=>cond (!v3.1) (some (v,(1,[],()),())) ((h5 (q+2)).f_ v (0,([]:List I.D),()) (0,([]:aG),()) (jr (J I v.2.1 i) (e7 (J I v.2.1 i)) (bQ x) (dV x))))))
   ((h5 (q+2)).f_ v (0,([]:List I.D),()) (0,([]:aG),()) (jr (J I v.2.1 i) (e7 (J I v.2.1 i)) (bQ x) (dV x)))) _)) _
 rw [ca (show aE x≠15 by omega),cF hk,Nb c _ hc,Na c _ hc]
 simp only [cond_true,cond_false,av]
 have hfin:bt v c x (q6 (q+4) (i:Int) (v,c,x,())) ((h5 (q+2)).f_ v (0,([]:List I.D),()) (0,([]:aG),()) (jr (J I v.2.1 i) (e7 (J I v.2.1 i)) (bQ x) (dV x))) (AQ v c x):=by
  have e4:q6 (q+4) (i:Int) (v,c,x,())=some (0,((v.1,v.2.1.set i (jr (J I v.2.1 i) (e7 (J I v.2.1 i)) (bQ x) (dV x)),()),c,x,()),()):=by
   rw [q6,Ly]
   show Option.bind (aO v.2.1.length (i:Int)) (fun v1=>Lx (i:Int) (v,c,x,()) (v.2.1.set v1 (jr (J I v.2.1 v1) (e7 (J I v.2.1 v1)) (bQ x) (fj (J I v.2.1 v1)))))=_
   rw [bB bI.1]
   simp only [av]
   unfold Lx
   rw [bB (by rw [List.length_set];exact bI.1)]
   simp only [av]
   unfold S_
   rw [List.set_set,gb bI.1,if_pos rfl];rfl
  rw [e4,N3 hv _ _ bI.1 _ (WN _ _ _ _) (WO hv bI.1 _ _ _),GF hv bI.1]
  exact⟨0,_,rfl,rfl,fun _=>⟨qa,N4,r,i,hr,bT,hi,rfl⟩⟩
 by_cases h0:c.1=0
 ·rw [dk h0]
  exact hfin
 ·rw [cP h0]
  simp only [cond_true]
  by_cases hu:c.1=ez (J I v.2.1 i)
  ·rw [dk hu]
   simp only [cond_false]
   by_cases hn:bQ x=ez (J I v.2.1 i)
   ·rw [dk hn]
    simp only [cond_false]
    cases mZ c (dV x) with
    | false=>exact bt.no 1 (by decide) rfl rfl
    | true=>exact hfin
   ·rw [cP hn]
    exact bt.no 1 (by decide) rfl rfl
  ·rw [cP hu]
   exact bt.no 1 (by decide) rfl rfl
def m5(x:aI)(b k:Int):aI:=(x.1,x.2.1,x.2.2.1,x.2.2.2.1,x.2.2.2.2.1,x.2.2.2.2.2.1,x.2.2.2.2.2.2.1,b,k,())
theorem ain(x:aI)(b k:Int):(m5 x b k).1=x.1:=rfl
structure GG(v:af.D)(c:aH.D)(x:aJ.D)(w:af.D):Prop where
 out:(0≤bQ x∧bQ x≤400)∧(0≤dV x∧dV x≤24)∧c.1=0∧∃r i,l6 v.2.1 r∧bC r=0∧bd v.2.1 (bj r)=some i∧kindOf (J I v.2.1 i)=2∧w=(v.1,v.2.1.set i (m5 (J I v.2.1 i) (bQ x) (dV x)),())∧e8 w.2.1=0
theorem aio(v:af.D)(c:aH.D)(x:aJ.D)(hv:bE v)(hc:c9 c=true)(hx:ib x)(hk:aE x=19):bt v c x (Fq ((v,c,x,()),())) (sh (v,c,x,())) (GG v c x):=by
 have b8:=hv.gy
 have hl:v.2.1.length≤1048576:=b8.len
 have au:=hx.path
 obtain ⟨q,hq,iq⟩:=jm 4
 show bt v c x (LC (v,c,x,())) (sg (h5 aQ) v c x) _
 unfold LC sg
 show bt v c x (Option.bind (eL (bQ x,0,400,())) fun v1=>cond (!v1.1) _ (Option.bind (eL (dV x,0,24,())) _)) (cond (aE x==15) _ (cond (aE x==16) _ (Option.bind (ep (bQ x,0,400,())) fun v2=>cond (!v2.1) _ (Option.bind (ep (dV x,0,24,())) _)))) _
 rw [ca (show aE x≠15 by omega),ca (show aE x≠16 by omega)]
 simp only [cond_true,cond_false]
 rw [jA,jW]
 simp only [av]
 rw [hq]
 cases hN:c3 (bQ x) 0 400 with
 | false =>
  simp only [Bool.not_false,cond_true]
  rw [AO]
  exact bt.no 22 (by decide) rfl rfl
 | true =>
 have qa:=dR.1 hN
 simp only [Bool.not_true,cond_false]
 rw [jA,jW]
 simp only [av]
 rw [AO]
 unfold zz
 cases nA:c3 (dV x) 0 24 with
 | false=>exact bt.no 22 (by decide) rfl rfl
 | true =>
 have N4:=dR.1 nA
 simp only [Bool.not_true,cond_false]
 show bt v c x (cond (c.1 != 0) _ _) (cond (aE x==19) (cond (c.1 != 0) _ _) _) _
 rw [cF hk]
 simp only [cond_true]
 by_cases h0:c.1=0
 case neg =>
  rw [cP h0]
  exact bt.no 1 (by decide) rfl rfl
 rw [dk h0]
 simp only [cond_false]
 rw [N2]
 unfold zA
 obtain ⟨r,⟨hr,s6⟩,fF,kq,kr⟩:=s5 v c x true b8 hc (by omega)
 show bt v c x _ (Option.bind (dQ (v,c,eU x,true,())) _) _
 rw [fF]
 simp only [av]
 show bt v c x _ (cond (bC r != 0) (some (v,(bC r,[],()),())) _) _
 by_cases bT:bC r=0
 case neg =>
  rw [kq bT,cP bT]
  simp only [av]
  rw [cP bT]
  exact bt.no (bC r) bT rfl rfl
 obtain ⟨i,hi,e4⟩:=kr bT
 have bI:=bY hi
 rw [e4,dk bT]
 simp only [cond_false,av]
 rw [show((0:Int) != 0)=false from rfl]
 simp only [cond_false]
 show bt v c x _ (Option.bind (eS (v,bj r,())) _) _
 rw [h_ v _ hl hi,bB bI.1]
 simp only [av]
 show bt v c x (cond (kindOf (J I v.2.1 i) != 2) (some (20,(v,c,x,()),())) (Fp ((i:Int),0,(v,c,x,()),()) (v.2.1.set i (m5 (J I v.2.1 i) (bQ x) (et (J I v.2.1 i))))))
  (cond (aE x==15) _ (cond (aE x==16) _ (cond (kindOf (J I v.2.1 i) != 2) (some (v,(20,[],()),())) ((h5 (q+2)).f_ v (0,([]:List I.D),()) (0,([]:aG),()) (m5 (J I v.2.1 i) (bQ x) (dV x)))))) _
 rw [ca (show aE x≠15 by omega),ca (show aE x≠16 by omega)]
 simp only [cond_false]
 by_cases fM:kindOf (J I v.2.1 i)=2
 case neg =>
  rw [cP fM]
  exact bt.no 20 (by decide) rfl rfl
 rw [dk fM]
 simp only [cond_false]
 have hst:aq 1000 (v.2.1.set i (m5 (J I v.2.1 i) (bQ x) (dV x))):=(hv.st.set (k:=1) (i:=i) (y:=m5 (J I v.2.1 i) (bQ x) (dV x)) bI.1 rfl (fun d ag=>hv.gT i bI.1 d ag) (fun hk=>absurd fM hk) (Nat.le_add_right _ _) (Nat.le_add_right _ _)).mono (by omega)
 have e4:Fp ((i:Int),0,(v,c,x,()),()) (v.2.1.set i (m5 (J I v.2.1 i) (bQ x) (et (J I v.2.1 i))))=some (e8 (v.2.1.set i (m5 (J I v.2.1 i) (bQ x) (dV x))),((v.1,v.2.1.set i (m5 (J I v.2.1 i) (bQ x) (dV x)),()),c,x,()),()):=by
  unfold Fp
  rw [bB (by rw [List.length_set];exact bI.1)]
  simp only [av]
  rw [List.set_set,gb bI.1,if_pos rfl]
  show LB ((i:Int),0,(v,c,x,()),()) (v.2.1.set i (m5 (J I v.2.1 i) (bQ x) (dV x)))=_
  unfold LB
  show Option.bind (nN (((v.1,v.2.1.set i (m5 (J I v.2.1 i) (bQ x) (dV x)),()),c,x,()),())) _=_
  rw [AA (v.1,v.2.1.set i (m5 (J I v.2.1 i) (bQ x) (dV x)),()) c x hst (by omega)];rfl
 rw [e4,N3 hv _ _ bI.1 _ (ain _ _ _) hst]
 exact⟨_,_,rfl,rfl,fun h=>⟨qa,N4,h0,r,i,hr,bT,hi,fM,rfl,h⟩⟩
end Go.LM.kF
