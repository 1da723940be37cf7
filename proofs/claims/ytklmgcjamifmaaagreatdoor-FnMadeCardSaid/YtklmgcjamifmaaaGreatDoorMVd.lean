/- Calls on volumes: both sides come to the same. Conditions: each theorem's own hypotheses. -/
import Derived.Test.YtklmgcjamifmaaaGreatDoorMVc
set_option linter.unusedVariables false
set_option linter.unusedSimpArgs false
namespace Go.LM.kD
theorem VR{n:Nat}(h:n≤68719476736):n+1<aP:=by unfold aP;omega
theorem xQ{α : Type}{l:List α}{k:Nat}(h:k<l.length):l.drop k=l[k] :: l.drop (k+1):=List.drop_eq_getElem_cons h
def p1(y:aw.D)(id:aF):Bool:=bn y.1 id
theorem VS(y:aw.D)(id:aF):ER (y,id,())=some (p1 y id,()):=rfl
def vt(id:aF):List aw.D→Nat→Int
 | [],_ => -1
 | y :: l,k=>cond (p1 y id) (k:Int) (vt id l (k+1))
theorem agS(ys:List aw.D)(id:aF)(hn:ys.length≤68719476736):∀(r k m:Nat),k+r=ys.length→r<m →
  xq m ys id (ys.length:Int) (k:Int)=some (vt id (ys.drop k) k,()):=by
 intro r
 induction r with
 | zero =>
  intro k m hk hm
  obtain ⟨m,rfl⟩:∃q,m=q+1:=⟨m-1,by omega⟩
  simp only [xq,ET]
  rw [cM (by omega),List.drop_of_length_le (by omega)];rfl
 | succ r ih =>
  intro k m hk hm
  obtain ⟨m,rfl⟩:∃q,m=q+1:=⟨m-1,by omega⟩
  have n_:k<ys.length:=by omega
  simp only [xq,ET]
  rw [cp n_,bx n_]
  simp only [cond_true,av]
  rw [VS,vK n_,xQ n_]
  simp only [av,vt]
  cases p1 ys[k] id
  ·simp only [cond_false]
   rw [df _ (by omega)]
   exact ih (k+1) m (by omega) (by omega)
  ·rfl
theorem VT(id:aF):∀(l:List aw.D) (k:Nat),(vt id l k = -1∧l.filter (fun y => !p1 y id)=l)∨∃j,j<l.length∧vt id l k=((k+j:Nat):Int)∧(l.filter (fun y => !p1 y id))=l.take j++(l.drop (j+1)).filter (fun y => !p1 y id)
 | [],_=>.inl ⟨rfl,rfl⟩
 | y :: l,k=>by
  rw [List.filter_cons]
  unfold vt
  cases h:p1 y id
  ·rcases VT id l (k+1) with⟨h1,h2⟩ | ⟨j,h1,h2,h3⟩
   ·exact .inl ⟨by simp only [cond_false];exact h1,by simp [h2]⟩
   ·exact .inr ⟨j+1,by simpa using h1,by simp only [cond_false];rw [h2];congr 1;omega,by simp [h3]⟩
  ·exact .inr ⟨0,by simp,by simp,by simp⟩
theorem agT(ys:List aw.D)(id:aF)(hn:ys.length≤68719476736):∀(r j i m:Nat) (xs:List aw.D),j+r=ys.length→i≤j→xs.length=ys.length→xs.drop j=ys.drop j→r<m →
  xt m id (i:Int) (j:Int) xs=some (xs.take i++(ys.drop j).filter (fun y => !p1 y id),()):=by
 intro r
 induction r with
 | zero =>
  intro j i m xs hj iP hl ag hm
  obtain ⟨m,rfl⟩:∃q,m=q+1:=⟨m-1,by omega⟩
  simp only [xt,EW]
  rw [cM (by omega),kr (by omega) (Nat.le_refl _)]
  simp only [cond_false,av,SG,Nat.zero_add]
  generalize ((([]:List UInt8),0,()):aw.D)=z
  have hlen:(xs.take i++List.replicate (xs.length-i) z++xs.drop (i +(xs.length-i))).length=xs.length:=by
   simp;omega
  rw [show(0:Int)=((0:Nat):Int) from rfl,kr (Nat.zero_le _) (by rw [hlen];omega)]
  simp only [av,Nat.sub_zero,Nat.zero_add]
  rw [List.drop_of_length_le (l:=ys) (by omega),List.filter_nil,List.append_nil]
  congr 2
  unfold part
  rw [List.drop_zero,List.append_assoc,List.take_append_of_le_length (by simp;omega),List.take_take]
  simp
 | succ r ih =>
  intro j i m xs hj iP hl ag hm
  obtain ⟨m,rfl⟩:∃q,m=q+1:=⟨m-1,by omega⟩
  have hjl:j<xs.length:=by omega
  have ye:j<ys.length:=by omega
  have he:xs[j]=ys[j]∧xs.drop (j+1)=ys.drop (j+1):=by
   rw [xQ hjl,xQ ye] at ag
   exact List.cons.inj ag
  simp only [xt,EW]
  rw [cp hjl,bx hjl]
  simp only [cond_true,av,Nat.zero_add]
  rw [VS,vK hjl,he.1,xQ ye,List.filter_cons]
  simp only [av]
  cases hh:p1 ys[j] id
  ·simp only [Bool.not_false,cond_true,if_true]
   rw [bx (show i<xs.length by omega)]
   simp only [av,Nat.zero_add]
   rw [df _ (by omega),df _ (by omega),ih (j+1) (i+1) m (xs.set i ys[j]) (by omega) (by omega) (by simpa using hl) (by rw [List.drop_set_of_lt (by omega)];exact he.2) (by omega)]
   congr 2
   rw [List.take_add_one,List.take_set_of_le (Nat.le_refl _),List.getElem?_set_self (by omega)]
   simp
  ·simp only [Bool.not_true,cond_false,Bool.false_eq_true,if_false]
   rw [df _ (by omega)]
   exact ih (j+1) i m xs (by omega) (by omega) hl he.2 (by omega)
theorem agU(ys:List aw.D)(id:aF)(hn:room ys.length=true):EX (ys,id,())=some (ys.filter (fun y => !p1 y id),()):=by
 have hn:ys.length≤68719476736:=Nat.le_of_ble_eq_true hn
 show EV _ ys id=_
 unfold EV
 have hi:K8 (ys,id,())=some (vt id ys 0,()):=by
  have:=agS ys id hn ys.length 0 aP (by omega) (by have:=VR hn;omega)
  rw [List.drop_zero] at this
  exact this
 rw [hi]
 simp only [av]
 rcases VT id ys 0 with⟨h1,h2⟩ | ⟨j,h1,h2,h3⟩
 ·rw [h1,h2];rfl
 ·rw [h2,h3,Nat.zero_add,show((j:Int) == -1)=false from by rw [beq_eq_false_iff_ne];omega]
  simp only [cond_false]
  rw [df _ (by omega)]
  exact agT ys id hn (ys.length-(j+1)) (j+1) j aP ys (by omega) (by omega) rfl rfl (by have:=VR hn;omega)
theorem Au(v:ae.D)(c:aH.D)(x:aI.D)(path:aF)(bA:Bool)(hw:n0 v.2.1)(hc:c9 c=true)(au:path.length≤1048576) :
  ∃r,sO bA v.2.1 r∧lf ((v,c,x,()),path,bA,())=some (r,())∧dv (v,c,path,bA,())=some (r,()):=by
 cases hk:ll path with
 | false =>
  refine⟨((0:Int),([]:aF),(0:Int),(22:Int),()),xL bA _ (by decide) 0 0 (.inr trivial),?_,?_⟩
  ·show qQ (v,c,x,()) path bA=_
   unfold qQ
   rw [Ga _ (by omega),hk];rfl
  ·show mH v c path bA=_
   unfold mH
   rw [q3,hk];rfl
 | true =>
  obtain ⟨r,bD,cg,gd⟩:=VQ v c path bA hw hc hk
  refine⟨r,bD,?_,?_⟩
  ·show qQ (v,c,x,()) path bA=_
   unfold qQ
   rw [Ga _ (by omega),hk]
   simp only [av,Bool.not_true,cond_false]
   rw [cg];rfl
  ·show mH v c path bA=_
   unfold mH
   rw [q3,hk]
   simp only [av,Bool.not_true,cond_false]
   rw [gd];rfl
theorem m0{s:aF} : bn s []=true↔s=[]:=by unfold bn;simp
theorem VU(v:ae.D)(c:aH.D)(x:aI.D)(path:aF)(hw:n0 v.2.1)(hc:c9 c=true)(au:path.length≤1048576) :
  ∃r ec code,u' ((v,c,x,()),path,())=some (r,code,())∧qB (v,c,path,())=some (ec,code,())∧(code=0→ec=r∧l3 v.2.1 r∧bE r=2∧nameOf r≠[]∧dv (v,c,path,false,())=some (r,())):=by
 cases hk:ll path with
 | false =>
  refine⟨((0:Int),([]:aF),(0:Int),(22:Int),()),((0:Int),([]:aF),(0:Int),(0:Int),()),22,?_,?_,fun h=>by cases h⟩
  ·show zP (v,c,x,()) path=_
   unfold zP
   have:lf ((v,c,x,()),path,false,())=some (((0:Int),([]:aF),(0:Int),(22:Int),()),()):=by
    show qQ (v,c,x,()) path false=_
    unfold qQ
    rw [Ga _ (by omega),hk];rfl
   rw [this];rfl
  ·show uv v c path=_
   unfold uv
   rw [q3,hk];rfl
 | true =>
  obtain ⟨r,bD,cg,gd⟩:=VQ v c path false hw hc hk
  have e5:u' ((v,c,x,()),path,())=cond (bE r==2) (cond (!(bn (nameOf r) [])) (some (r,0,())) (cond (bE r==0) (some (r,17,())) (some (r,bE r,())))) (cond (bE r==0) (some (r,17,())) (some (r,bE r,()))):=by
   show zP (v,c,x,()) path=_
   unfold zP
   have:lf ((v,c,x,()),path,false,())=some (r,()):=by
    show qQ (v,c,x,()) path false=_
    unfold qQ
    rw [Ga _ (by omega),hk]
    simp only [av,Bool.not_true,cond_false]
    rw [cg];rfl
   rw [this];rfl
  have dQ:qB (v,c,path,())=cond (bE r==0) (some (r,17,())) (cond (bE r==2) (cond (!(bn (nameOf r) [])) (some (r,0,())) (some (r,bE r,()))) (some (r,bE r,()))):=by
   show uv v c path=_
   unfold uv
   rw [q3,hk]
   simp only [av,Bool.not_true,cond_false]
   rw [gd];rfl
  rw [e5,dQ]
  by_cases h0:bE r=0
  ·rw [cF h0,b5 (show bE r≠2 by omega)]
   exact⟨r,r,17,rfl,rfl,fun h=>by cases h⟩
  ·rw [b5 h0]
   by_cases h2:bE r=2
   ·rw [cF h2]
    cases hn:bn (nameOf r) [] with
    | true=>exact⟨r,r,bE r,rfl,rfl,fun h=>absurd h h0⟩
    | false=>exact⟨r,r,0,rfl,rfl,fun _=>⟨rfl,bD.1,h2,fun h=>(by rw [m0.2 h] at hn;cases hn),by
     show mH v c path false=_
     unfold mH
     rw [q3,hk]
     simp only [av,Bool.not_true,cond_false]
     rw [gd];rfl⟩⟩
   ·rw [b5 h2]
    exact⟨r,r,bE r,rfl,rfl,fun h=>absurd h h0⟩
def b0(x:aJ)(N:List aw.D):aJ:=(x.1,x.2.1,x.2.2.1,x.2.2.2.1,x.2.2.2.2.1,x.2.2.2.2.2.1,N,x.2.2.2.2.2.2.2.1,x.2.2.2.2.2.2.2.2.1,())
def dW(s:aF)(d:aw.D):Bool:=dy d.1 s
def ins(N:List aw.D)(s:aF)(id:Int):List aw.D:=N.takeWhile (dW s)++[(s,id,())]++N.dropWhile (dW s)
theorem Nh{α : Type}(p : α → Bool)(l:List α):l.take (l.takeWhile p).length=l.takeWhile p:=by
 have:=List.take_left' (l₁:=l.takeWhile p) (l₂:=l.dropWhile p) rfl
 rwa [List.takeWhile_append_dropWhile] at this
theorem Gm{α : Type}(p : α → Bool)(l:List α):l.drop (l.takeWhile p).length=l.dropWhile p:=by
 have:=List.drop_left' (l₁:=l.takeWhile p) (l₂:=l.dropWhile p) rfl
 rwa [List.takeWhile_append_dropWhile] at this
theorem VV{α : Type}{p : α → Bool}{x : α} : ∀ {l:List α},x∈l.takeWhile p→p x=true
 | [],h=>by simp at h
 | y :: l,h=>by
  rw [List.takeWhile_cons] at h
  cases aN:p y
  ·rw [aN] at h;simp at h
  ·rw [aN] at h
   simp only [if_true,List.mem_cons] at h
   rcases h with rfl | h
   ·exact aN
   ·exact VV h
theorem VW{α : Type}{p : α → Bool}{x : α}{r:List α} : ∀ {l:List α},l.dropWhile p=x :: r→p x=false
 | [],h=>by simp at h
 | y :: l,h=>by
  rw [List.dropWhile_cons] at h
  cases aN:p y
  ·rw [aN] at h
   simp only [Bool.false_eq_true,if_false] at h
   injection h with h1 h2
   rw [← h1];exact aN
  ·rw [aN] at h
   simp only [if_true] at h
   exact VW h
theorem Ni{α : Type}(p : α → Bool)(l:List α):(l.takeWhile p).length≤l.length:=by
 have:=congrArg List.length (List.takeWhile_append_dropWhile (p:=p) (l:=l))
 rw [List.length_append] at this;omega
theorem xR(N:List aw.D)(s:aF)(id:Int):(ins N s id).length=N.length+1:=by
 have:=congrArg List.length (List.takeWhile_append_dropWhile (p:=dW s) (l:=N))
 rw [List.length_append] at this
 unfold ins
 simp only [List.length_append,List.length_cons,List.length_nil];omega
theorem VX{N:List aw.D}{s:aF} : ∀ {j:Nat},j<(N.takeWhile (dW s)).length→dy (J aw N j).1 s=true:=by
 intro j hj
 have Gn:j<N.length:=Nat.lt_of_lt_of_le hj (Ni _ _)
 have h1:(N.takeWhile (dW s))[j]∈N.takeWhile (dW s):=List.getElem_mem hj
 have h2:=VV h1
 have e:(N.takeWhile (dW s))[j]=J aw N j:=by
  rw [c6 Gn]
  have:=List.takeWhile_append_dropWhile (p:=dW s) (l:=N)
  have h3:(N.takeWhile (dW s)++N.dropWhile (dW s))[j]?=N[j]?:=by rw [this]
  rw [List.getElem?_append_left hj,List.getElem?_eq_getElem hj,List.getElem?_eq_getElem Gn] at h3
  exact aT h3
 rw [e] at h2
 exact h2
theorem VY{N:List aw.D}{s:aF}(h:(N.takeWhile (dW s)).length<N.length):dy (J aw N (N.takeWhile (dW s)).length).1 s=false:=by
 have h1:=Gm (dW s) N
 have h2:=xQ h
 rw [h1] at h2
 rw [c6 h]
 exact VW (p:=dW s) h2
theorem Nj(v:ae.D)(c:aH.D)(x:aI.D)(dir:Int)(s:aF)(id:Int)(hl:v.2.1.length≤1048576){i:Nat}(h:bd v.2.1 dir=some i)(hn:(ak (J I v.2.1 i)).length≤1048576) :
  sv ((v,c,x,()),dir,s,id,())=some (((v.1,v.2.1.set i (b0 (J I v.2.1 i) (ins (ak (J I v.2.1 i)) s id)),()),c,x,()),()):=by
 show EO (su aP) (v,c,x,()) dir s id=_
 unfold EO
 rw [M1 v dir hl,h]
 simp only [av,hd]
 obtain ⟨hi,b2⟩:=bT h
 generalize hN:ak (J I v.2.1 i)=N at hn
 have b4:=Ni (dW s) N
 have jd:∀m,(su (m+1)).ba s id (i:Int) ((N.takeWhile (dW s)).length:Int) (v,c,x,())=some (((v.1,v.2.1.set i (b0 (J I v.2.1 i) (ins N s id)),()),c,x,()),()):=by
  intro m
  show K3 (su m) s id (i:Int) ((N.takeWhile (dW s)).length:Int) (v,c,x,())=_
  unfold K3
  rw [bx hi]
  simp only [av,Nat.beq_refl,cond_true]
  show Option.bind (insF (ak (J I v.2.1 i)) ((N.takeWhile (dW s)).length:Int) [(s,id,())]) _=_
  rw [hN]
  unfold insF
  rw [if_pos ⟨Int.natCast_nonneg _,Int.ofNat_le.2 b4,rfl,by omega⟩]
  simp only [av,Int.toNat_natCast]
  rw [Nh,Gm]
  rfl
 have m1:=o1 1 (fun m j=>(su m).k2 s id (i:Int) (j:Int) (v,c,x,())) (some (((v.1,v.2.1.set i (b0 (J I v.2.1 i) (ins N s id)),()),c,x,()),())) (N.takeWhile (dW s)).length 2 (fun j hj B y he=>he.step fun m=>by
  show zQ (su m) s id (i:Int) (j:Int) (v,c,x,())=_
  unfold zQ
  rw [bx hi]
  simp only [av]
  show cond (decide ((j:Int)<((ak (J I v.2.1 i)).length:Int))) ((aM (ak (J I v.2.1 i)).length (j:Int)).bind fun v3=>cond (dy (J aw (ak (J I v.2.1 i)) v3).1 s) _ _) _=_
  rw [hN,cp (by omega),bx (by omega)]
  simp only [cond_true,av]
  rw [VX hj,df j (by omega)];rfl) (bW.now 2 fun m=>by
  show zQ (su (m+1)) s id (i:Int) ((N.takeWhile (dW s)).length:Int) (v,c,x,())=_
  unfold zQ
  rw [bx hi]
  simp only [av]
  show cond (decide (((N.takeWhile (dW s)).length:Int)<((ak (J I v.2.1 i)).length:Int))) ((aM (ak (J I v.2.1 i)).length ((N.takeWhile (dW s)).length:Int)).bind fun v3=>cond (dy (J aw (ak (J I v.2.1 i)) v3).1 s) _ _) _=_
  rw [hN]
  rcases Nat.lt_or_ge (N.takeWhile (dW s)).length N.length with h1 | h1
  ·rw [cp h1,bx h1]
   simp only [cond_true,av]
   rw [VY h1]
   exact jd m
  ·rw [cM h1]
   exact jd m)
 exact kK m1 (by omega)
def cf(N:List aw.D)(s:aF):List aw.D:=N.filter fun d => !bn d.1 s
def goN(l:List aJ)(id:Int):List aJ:=cond (decide (ck l id=0)) (l.filter fun y => !(y.1==id)) l
theorem Gp{l:List aJ}{i:Nat}{y:aJ}(hi:i<l.length):dw (l.set i y) +(ak (J I l i)).length=dw l +(ak y).length:=by
 unfold dw
 induction l generalizing i with
 | nil=>simp at hi
 | cons z l ih =>
  cases i with
  | zero=>simp only [List.set_cons_zero,List.map_cons,List.sum_cons];show _ +(ak z).length=_;omega
  | succ i =>
   have:=ih (i:=i) (by simpa using hi)
   simp only [List.set_cons_succ,List.map_cons,List.sum_cons]
   show _ +(ak (J I l i)).length=_
   omega
theorem hy(x:aJ)(N:List aw.D):ak (b0 x N)=N:=rfl
theorem vu(N:List aw.D)(s:aF):(cf N s).length≤N.length:=List.length_filter_le _ _
theorem Nk(v:ae.D)(c:aH.D)(x:aI.D)(dir:Int)(s:aF)(goes:Bool)(hl:v.2.1.length≤1048576)(hm:dw v.2.1≤1048576){i:Nat}(h:bd v.2.1 dir=some i) :
  oR ((v,c,x,()),dir,s,goes,())=some (((v.1,cond goes (goN (v.2.1.set i (b0 (J I v.2.1 i) (cf (ak (J I v.2.1 i)) s))) (cW (ak (J I v.2.1 i)) s)) (v.2.1.set i (b0 (J I v.2.1 i) (cf (ak (J I v.2.1 i)) s))),()),c,x,()),()):=by
 show K_ (v,c,x,()) dir s goes=_
 unfold K_
 rw [M1 v dir hl,h]
 simp only [av,hd]
 obtain ⟨hi,b2⟩:=bT h
 have hn:=Nat.le_trans (fI hi) hm
 rw [bx hi]
 simp only [av,Nat.beq_refl,cond_true]
 rw [Vx _ _ hn]
 simp only [av]
 show Option.bind (EX (ak (J I v.2.1 i),s,())) _=_
 rw [agU _ _ (cI (by omega))]
 simp only [av]
 show K9 goes ((i:Int),v,()) (cW (ak (J I v.2.1 i)) s,()) (v,c,x,()) (v.2.1.set i (b0 (J I v.2.1 i) (cf (ak (J I v.2.1 i)) s)))=_
 have pU:(v.2.1.set i (b0 (J I v.2.1 i) (cf (ak (J I v.2.1 i)) s))).length≤1048576:=by rw [List.length_set];exact hl
 have n1:dw (v.2.1.set i (b0 (J I v.2.1 i) (cf (ak (J I v.2.1 i)) s)))≤1048576:=by
  have:=Gp (l:=v.2.1) (y:=b0 (J I v.2.1 i) (cf (ak (J I v.2.1 i)) s)) hi
  rw [hy] at this
  have:=vu (ak (J I v.2.1 i)) s
  omega
 generalize v.2.1.set i (b0 (J I v.2.1 i) (cf (ak (J I v.2.1 i)) s))=l at pU n1
 generalize cW (ak (J I v.2.1 i)) s=id
 unfold K9
 cases goes
 ·rfl
 ·simp only [cond_true]
  show Option.bind (xk (((v.1,l,()):ae.D),id,())) _=_
  rw [FU (v.1,l,()) id pU n1]
  simp only [av]
  unfold goN
  by_cases h0:ck l id=0
  ·rw [show(((ck l id:Nat):Int)==0)=true by rw [h0];rfl,decide_eq_true h0]
   simp only [cond_true]
   show Option.bind (cond (room l.length) _ none) _=_
   rw [cI (by omega)];rfl
  ·rw [show(((ck l id:Nat):Int)==0)=false by rw [beq_eq_false_iff_ne];omega,decide_eq_false h0];rfl
theorem Gq(v:ae.D)(n:aJ)(hl:v.2.1.length≤1048576){i:Nat}(h:bd v.2.1 n.1=some i):oJ (v,n,())=some ((v.1,v.2.1.set i n,()),()):=by
 show zl v n=_
 unfold zl
 rw [l1 v _ hl,h]
 simp only [av]
 rw [show decide (hd (some i)<0)=false from Aj]
 simp only [cond_false,hd]
 rw [bx (bT h).1]
 simp only [av,Nat.zero_add]
theorem agV(v:ae.D)(n:aJ)(hl:v.2.1.length≤1048576)(h:bd v.2.1 n.1=none):oJ (v,n,())=some ((v.1,v.2.1++[n],()),()):=by
 show zl v n=_
 unfold zl
 rw [l1 v _ hl,h]
 simp only [av,Aj,Option.isNone_none,cond_true]
 rw [cI (by simp;omega)];rfl
theorem Nl(v:ae.D)(dir:Int)(s:aF)(id:Int)(hl:v.2.1.length≤1048576){i:Nat}(h:bd v.2.1 dir=some i)(hn:(ak (J I v.2.1 i)).length≤1048576)(hs:∀d,d∈ak (J I v.2.1 i)→d.1≠s) :
  r7 (v,dir,s,id,())=some ((v.1,v.2.1.set i (b0 (J I v.2.1 i) (ins (ak (J I v.2.1 i)) s id)),()),()):=by
 show Dg (iF aP) v dir s id=_
 unfold Dg
 rw [iK v dir hl h]
 simp only [av]
 obtain ⟨hi,b2⟩:=bT h
 generalize hN:ak (J I v.2.1 i)=N at hn hs
 have b4:=Ni (dW s) N
 have hw:bd v.2.1 (b0 (J I v.2.1 i) (ins N s id)).1=some i:=by rw [show(b0 (J I v.2.1 i) (ins N s id)).1=dir from b2];exact h
 have VZ:∀m,(iF (m+1)).mG v (0,([]:List I.D),()) (J I v.2.1 i) (ins N s id)=some ((v.1,v.2.1.set i (b0 (J I v.2.1 i) (ins N s id)),()),()):=by
  intro m
  show JU (iF m) v (0,([]:List I.D),()) (J I v.2.1 i) (ins N s id)=_
  unfold JU
  show Option.bind (oJ (v,b0 (J I v.2.1 i) (ins N s id),())) _=_
  rw [Gq v _ hl hw];rfl
 have agW:∀(r j:Nat) (acc:List aw.D),j+r=N.length→acc++N.drop j=ins N s id→acc.length≤j+1→bW (fun m=>(iF m).bt s id true (j:Int) v (0,([]:List I.D),()) (J I v.2.1 i) acc) (2*r+2) (some ((v.1,v.2.1.set i (b0 (J I v.2.1 i) (ins N s id)),()),())):=by
  intro r
  induction r with
  | zero =>
   intro j acc hj he ha
   refine bW.now 2 fun m=>?_
   show oK (iF (m+1)) s id true (j:Int) v (0,([]:List I.D),()) (J I v.2.1 i) acc=_
   unfold oK
   show cond (decide ((j:Int)<((ak (J I v.2.1 i)).length:Int))) _ _=_
   rw [hN,cM (by omega)]
   rw [List.drop_of_length_le (by omega),List.append_nil] at he
   rw [he]
   exact VZ m
  | succ r ih =>
   intro j acc hj he ha
   have hjl:j<N.length:=by omega
   have:=ih (j+1) (acc++[J aw N j]) (by omega) (by rw [List.append_assoc,List.singleton_append,← drop_cons (t:=aw) hjl];exact he) (by simp;omega)
   refine(this.jump (f:=fun m=>(iF m).bt s id true (j:Int) v (0,([]:List I.D),()) (J I v.2.1 i) acc) 2 fun m=>?_).mono (by omega)
   show oK (iF (m+1)) s id true (j:Int) v (0,([]:List I.D),()) (J I v.2.1 i) acc=_
   unfold oK
   show cond (decide ((j:Int)<((ak (J I v.2.1 i)).length:Int))) _ _=_
   rw [hN,cp hjl]
   simp only [cond_true,Bool.not_true,cond_false]
   show uA (iF m) s id true (j:Int) v (0,([]:List I.D),()) (J I v.2.1 i) acc=_
   unfold uA
   show Option.bind (aM (ak (J I v.2.1 i)).length (j:Int)) (fun v1=>cond (room (acc.length+1)) ((iF m).bt s id true (aG ((j:Int)+1)) v (0,([]:List I.D),()) (J I v.2.1 i) (acc++[J aw (ak (J I v.2.1 i)) v1])) none)=_
   rw [hN,bx hjl]
   simp only [av]
   rw [cI (by omega),df j (by omega)];rfl
 have m1:=o1 2 (fun m j=>(iF m).bt s id false (j:Int) v (0,([]:List I.D),()) (J I v.2.1 i) (N.take j)) (some ((v.1,v.2.1.set i (b0 (J I v.2.1 i) (ins N s id)),()),())) (N.takeWhile (dW s)).length (2*N.length+8) (fun j hj B y he=>(he.jump (f:=fun m=>(iF m).bt s id false (j:Int) v (0,([]:List I.D),()) (J I v.2.1 i) (N.take j)) 2 fun m=>by
  have hjl:j<N.length:=by omega
  show oK (iF (m+1)) s id false (j:Int) v (0,([]:List I.D),()) (J I v.2.1 i) (N.take j)=_
  unfold oK
  show cond (decide ((j:Int)<((ak (J I v.2.1 i)).length:Int))) (cond (!false) ((aM (ak (J I v.2.1 i)).length (j:Int)).bind fun v1=>cond (dy s (J aw (ak (J I v.2.1 i)) v1).1) _ _) _) _=_
  rw [hN,cp hjl,bx hjl]
  simp only [cond_true,Bool.not_false,av]
  rw [VJ (VX hj)]
  simp only [cond_false]
  show uA (iF m) s id false (j:Int) v (0,([]:List I.D),()) (J I v.2.1 i) (N.take j)=_
  unfold uA
  show Option.bind (aM (ak (J I v.2.1 i)).length (j:Int)) (fun v1=>cond (room ((N.take j).length+1)) ((iF m).bt s id false (aG ((j:Int)+1)) v (0,([]:List I.D),()) (J I v.2.1 i) (N.take j++[J aw (ak (J I v.2.1 i)) v1])) none)=_
  rw [hN,bx hjl]
  simp only [av]
  rw [cI (by rw [List.length_take];omega),df j (by omega),c6 hjl,← List.take_succ_eq_append_getElem hjl];rfl)) (by
  rcases Nat.lt_or_ge (N.takeWhile (dW s)).length N.length with h1 | h1
  ·
   generalize hj:(N.takeWhile (dW s)).length=j at h1 b4
   have q8:N.take j++[(s,id,())]++N.drop j=ins N s id:=by rw [← hj,Nh,Gm];rfl
   have cz:dy s (J aw N j).1=true:=by
    have:=VY (N:=N) (s:=s) (by omega)
    rw [hj] at this
    rw [M8 (hs _ (cJ h1)),this];rfl
   have:=agW (N.length-(j+1)) (j+1) (N.take j++[(s,id,())]++[J aw N j]) (by omega) (by rw [List.append_assoc _ [J aw N j],List.singleton_append,← drop_cons (t:=aw) h1];exact q8) (by simp;omega)
   refine(this.jump (f:=fun m=>(iF m).bt s id false (j:Int) v (0,([]:List I.D),()) (J I v.2.1 i) (N.take j)) 2 fun m=>?_).mono (by omega)
   show oK (iF (m+1)) s id false (j:Int) v (0,([]:List I.D),()) (J I v.2.1 i) (N.take j)=_
   unfold oK
   show cond (decide ((j:Int)<((ak (J I v.2.1 i)).length:Int))) (cond (!false) ((aM (ak (J I v.2.1 i)).length (j:Int)).bind fun v1=>cond (dy s (J aw (ak (J I v.2.1 i)) v1).1) _ _) _) _=_
   rw [hN,cp h1,bx h1]
   simp only [cond_true,Bool.not_false,av]
   rw [cz]
   simp only [cond_true]
   rw [cI (by simp;omega)]
   simp only [cond_true]
   show uA (iF m) s id true (j:Int) v (0,([]:List I.D),()) (J I v.2.1 i) (N.take j++[(s,id,())])=_
   unfold uA
   show Option.bind (aM (ak (J I v.2.1 i)).length (j:Int)) (fun v1=>cond (room ((N.take j++[(s,id,())]).length+1)) ((iF m).bt s id true (aG ((j:Int)+1)) v (0,([]:List I.D),()) (J I v.2.1 i) ((N.take j++[(s,id,())])++[J aw (ak (J I v.2.1 i)) v1])) none)=_
   rw [hN,bx h1]
   simp only [av]
   rw [cI (by simp;omega),df j (by omega)];rfl
  ·
   have hj:(N.takeWhile (dW s)).length=N.length:=by omega
   have q8:N++[(s,id,())]=ins N s id:=by
    unfold ins
    rw [← Gm,← Nh,hj,List.take_length,List.drop_length,List.append_nil]
   rw [hj,List.take_length]
   refine(bW.now 2 fun m=>?_).mono (by omega)
   show oK (iF (m+1)) s id false (N.length:Int) v (0,([]:List I.D),()) (J I v.2.1 i) N=_
   unfold oK
   show cond (decide ((N.length:Int)<((ak (J I v.2.1 i)).length:Int))) _ _=_
   rw [hN,cM (Nat.le_refl _)]
   simp only [cond_false,Bool.not_false,cond_true]
   rw [cI (by simp;omega),q8]
   exact VZ m)
 exact kK m1 (by omega)
theorem iM{l:List aJ}{i j:Nat}{y:aJ}(hi:i<l.length):J I (l.set i y) j=if i=j then y else J I l j:=by
 by_cases hj:j<l.length
 ·rw [c6 (by rw [List.length_set];exact hj),c6 hj,List.getElem_set]
 ·rw [if_neg (by omega)]
  unfold J
  rw [List.getD_eq_getElem?_getD,List.getD_eq_getElem?_getD,List.getElem?_eq_none (by rw [List.length_set];omega),List.getElem?_eq_none (by omega)]
theorem V0{n:Nat}{P Q:Nat→Bool}(h:∀i,i<n→P i=Q i):eR n P=eR n Q:=by
 cases hq:eR n Q with
 | none=>exact kf.2 fun i hi=>by rw [h i hi];exact kf.1 hq i hi
 | some k =>
  obtain ⟨h1,h2,h3⟩:=gA.1 hq
  exact gA.2 ⟨h1,by rw [h k h1];exact h2,fun j hj=>by rw [h j (by omega)];exact h3 j hj⟩
theorem Av{l:List aJ}{i:Nat}{y:aJ}(hi:i<l.length)(aN:y.1=(J I l i).1)(id:Int):bd (l.set i y) id=bd l id:=by
 unfold bd
 rw [List.length_set]
 refine V0 fun j hj=>?_
 rw [iM hi]
 split
 ·rename_i h;rw [aN,h]
 ·rfl
def Aw(l:List aJ):Prop:=l.Pairwise fun a b=>aX a≠aX b
theorem Ax{l:List aJ} : ij l↔Aw l:=by
 unfold Aw
 rw [List.pairwise_iff_getElem]
 constructor
 ·intro h i j hi hj iP he
  have h1:=h i hi
  have h2:=h j hj
  rw [c6 hi] at h1
  rw [c6 hj] at h2
  have:(l[i]).1=(l[j]).1:=he
  rw [this,h2] at h1
  have:=aT h1
  omega
 ·intro h x hx
  unfold bd
  rw [gA]
  refine⟨hx,by simp,fun j hj=>?_⟩
  rw [beq_eq_false_iff_ne,c6 hx,c6 (i:=j) (by omega)]
  exact h j x (by omega) hx hj
theorem n2{l:List aJ}{id:Int} :(bd l id).isSome=true↔∃x,x∈l∧x.1=id:=by
 constructor
 ·intro h
  obtain ⟨i,hi⟩:=Option.isSome_iff_exists.1 h
  obtain ⟨h1,h2⟩:=bT hi
  exact⟨_,cJ h1,h2⟩
 ·rintro ⟨x,hx,he⟩
  obtain ⟨i,hi,aB⟩:=fg hx
  cases h:bd l id with
  | some k=>rfl
  | none =>
   have:=kf.1 h i hi
   rw [aB,he] at this
   simp at this
theorem V1{l:List aJ}{n:aJ}{id:Int}{i:Nat}(h:bd l id=some i):bd (l++[n]) id=some i:=by
 obtain ⟨h1,h2,h3⟩:=gA.1 h
 have aB:∀j,j<l.length→J I (l++[n]) j=J I l j:=fun j hj=>by rw [c6 (by simp;omega),c6 hj,List.getElem_append_left hj]
 exact gA.2 ⟨by simp;omega,by rw [aB i h1];exact h2,fun j hj=>by rw [aB j (by omega)];exact h3 j hj⟩
theorem Gr{l:List aJ}{n:aJ}{j:Nat}(hj:j<l.length):J I (l++[n]) j=J I l j:=by rw [c6 (by simp;omega),c6 hj,List.getElem_append_left hj]
theorem V2{l:List aJ}{n y:aJ}{i:Nat}(hi:i<l.length):(l++[n]).set i y=l.set i y++[n]:=by rw [List.set_append_left _ _ hi]
theorem Gs{l:List aJ}{id:Int}(h:ck l id=0):∀x,x∈l→∀d,d∈ak x→d.2.1≠id:=by
 intro x hx d ag he
 have h1:du (ak x) id≤ck l id:=by
  unfold ck
  exact F5 (f:=fun x=>du (ak x) id) hx
 have h2:d∈(ak x).filter fun d=>d.2.1==id:=List.mem_filter.2 ⟨ag,by simpa using he⟩
 have h3:0<du (ak x) id:=List.length_pos_of_mem h2
 omega
theorem V3{l:List aJ}{i:Nat}{y:aJ}(hi:i<l.length):bytesOf (l.set i y) +(bw (J I l i)).length=bytesOf l +(bw y).length:=by
 unfold bytesOf
 induction l generalizing i with
 | nil=>simp at hi
 | cons z l ih =>
  cases i with
  | zero=>simp only [List.set_cons_zero,List.map_cons,List.sum_cons];show _ +(bw z).length=_;omega
  | succ i =>
   have:=ih (i:=i) (by simpa using hi)
   simp only [List.set_cons_succ,List.map_cons,List.sum_cons]
   show _ +(bw (J I l i)).length=_
   omega
theorem Gt{α : Type}(f : α → Nat)(p : α → Bool):∀l:List α,((l.filter p).map f).sum≤(l.map f).sum
 | []=>Nat.le_refl _
 | x :: l=>by
  have:=Gt f p l
  rw [List.filter_cons]
  split
  ·simp only [List.map_cons,List.sum_cons];omega
  ·simp only [List.map_cons,List.sum_cons];omega
structure an(B:Nat)(l:List aJ):Prop where
 len:l.length≤B
 cC:dw l≤B
 bytes:bytesOf l≤B
 fM:ij l
 f_:q0 l
 bare:∀i,i<l.length→kindOf (J I l i)≠2→eT (J I l i)=0∧eD (J I l i)=0∧ak (J I l i)=[]
theorem an.mono{B nm:Nat}{l:List aJ}(h:an B l)(hb:B≤nm):an nm l:=⟨Nat.le_trans h.len hb,Nat.le_trans h.cC hb,Nat.le_trans h.bytes hb,h.fM,h.f_,h.bare⟩
theorem bz.cC{v:ae.D}(h:bz v):dw v.2.1≤288:=by
 have key:∀l:List aJ,(∀x,x∈l→(ak x).length≤12)→dw l≤l.length*12:=by
  intro l
  induction l with
  | nil=>intro _;exact Nat.le_refl _
  | cons x l ih =>
   intro hx
   have h1:=hx x List.mem_cons_self
   have h2:=ih fun y aN=>hx y (List.mem_cons_of_mem _ aN)
   show(ak x).length+dw l≤(l.length+1)*12
   omega
 have:=key v.2.1 fun x hx=>by
  obtain ⟨i,hi,he⟩:=fg hx
  have h1:=h.ino i hi
  rw [he] at h1
  by_cases hk:kindOf x=2
  ·exact(h1.dir hk).2.2.2
  ·rw [(h1.plain hk).2.2];simp
 have:=h.len
 omega
theorem bz.st{v:ae.D}(h:bz v):an 400 v.2.1 :=
 ⟨by have:=h.len;omega,by have:=h.cC;omega,h.bytes,h.fM,h.f_,fun i hi hk=>(h.ino i hi).plain hk⟩
theorem Gu{l:List aJ} : q0 l↔∀x,x∈l→∀d,d∈ak x→∃y,y∈l∧y.1=d.2.1:=by
 constructor
 ·intro h x hx d ag
  obtain ⟨i,hi,he⟩:=fg hx
  exact n2.1 (h i hi d (by rw [he];exact ag))
 ·intro h i hi d ag
  exact n2.2 (h _ (cJ hi) d ag)
theorem an.set{B k:Nat}{l:List aJ}{i:Nat}{y:aJ}(h:an B l)(hi:i<l.length)(aN:y.1=(J I l i).1)(hex:∀d,d∈ak y→(bd l d.2.1).isSome=true)
  (hb:kindOf y≠2→eT y=0∧eD y=0∧ak y=[]) (hn:(ak y).length≤(ak (J I l i)).length+k) (ag:(bw y).length≤(bw (J I l i)).length+k):an (B+k) (l.set i y):=by
 have h1:=Gp (l:=l) (y:=y) hi
 have h2:=V3 (l:=l) (y:=y) hi
 have h3:=h.cC
 have h4:=h.bytes
 have a7:=h.len
 refine⟨by rw [List.length_set];omega,by omega,by omega,fun x hx=>?_,fun j hj d ag=>?_,fun j hj hk=>?_⟩
 ·rw [List.length_set] at hx
  rw [Av hi aN,iM hi]
  split
  ·rename_i he;subst he;rw [aN];exact h.fM i hx
  ·exact h.fM x hx
 ·rw [List.length_set] at hj
  rw [iM hi] at ag
  rw [Av hi aN]
  split at ag
  ·exact hex d ag
  ·exact h.f_ j hj d ag
 ·rw [List.length_set] at hj
  rw [iM hi] at hk ⊢
  split at hk
  ·rename_i he;rw [if_pos he];exact hb hk
  ·rename_i he;rw [if_neg he];exact h.bare j hj hk
theorem agX{l:List aJ}(p:aJ→Bool)(h:Aw l):Aw (l.filter p):=List.Pairwise.sublist (List.filter_sublist) h
theorem an.go{B:Nat}{l:List aJ}(h:an B l)(id:Int):an B (goN l id):=by
 unfold goN
 by_cases h0:ck l id=0
 ·rw [decide_eq_true h0]
  simp only [cond_true]
  refine⟨Nat.le_trans (List.length_filter_le _ _) h.len,Nat.le_trans (Gt _ _ _) h.cC,Nat.le_trans (Gt _ _ _) h.bytes,Ax.2 (agX _ (Ax.1 h.fM)),Gu.2 fun x hx d ag=>?_,fun i hi hk=>?_⟩
  ·have hx:=(List.mem_filter.1 hx).1
   obtain ⟨y,aN,he⟩:=Gu.1 h.f_ x hx d ag
   refine⟨y,List.mem_filter.2 ⟨aN,?_⟩,he⟩
   have:=Gs h0 x hx d ag
   rw [Bool.not_eq_true',beq_eq_false_iff_ne,he];exact this
  ·have hx:=(List.mem_filter.1 (cJ (t:=I) hi)).1
   obtain ⟨j,hj,he⟩:=fg hx
   rw [← he] at hk ⊢
   exact h.bare j hj hk
 ·rw [decide_eq_false h0];exact h
theorem an.app{B k:Nat}{l:List aJ}{n:aJ}(h:an B l)(b2:bd l n.1=none)(hn:ak n=[])(ag:(bw n).length≤k)(hk:1≤k)(hb:kindOf n≠2→eT n=0∧eD n=0):an (B+k) (l++[n]):=by
 have h3:=h.cC
 have h4:=h.bytes
 have a7:=h.len
 refine⟨by simp;omega,by unfold dw at *;simp [hn];omega,by unfold bytesOf at *;simp;omega,Ax.2 ?_,Gu.2 fun x hx d js=>?_,fun i hi hk=>?_⟩
 ·refine List.pairwise_append.2 ⟨Ax.1 h.fM,List.pairwise_singleton _ _,fun a ha b dG he=>?_⟩
  simp only [List.mem_singleton] at dG
  subst dG
  have:(bd l b.1).isSome=true:=n2.2 ⟨a,ha,he⟩
  rw [b2] at this;cases this
 ·rcases List.mem_append.1 hx with hx | hx
  ·obtain ⟨y,aN,he⟩:=Gu.1 h.f_ x hx d js
   exact⟨y,List.mem_append_left _ aN,he⟩
  ·simp only [List.mem_singleton] at hx
   subst hx
   rw [hn] at js;simp at js
 ·rcases Nat.lt_or_ge i l.length with hl | hl
  ·rw [Gr hl] at hk ⊢;exact h.bare i hl hk
  ·have:i=l.length:=by simp at hi;omega
   subst this
   have he:J I (l++[n]) l.length=n:=by rw [c6 (by simp)];simp
   rw [he] at hk ⊢
   exact⟨(hb hk).1,(hb hk).2,hn⟩
def fl(l:List aJ):Int:=cond (decide ((bytesOf l:Int)>400)) 28 (cond (gp l) 122 0)
theorem Ay{B:Nat}(v:ae.D)(c:aH.D)(x:aI.D)(h:an B v.2.1)(gv:B≤1048576):nM ((v,c,x,()),())=some (fl v.2.1,()):=by
 have h1:=Nat.le_trans h.len gv
 have h2:=Nat.le_trans h.cC gv
 have h3:=Nat.le_trans h.bytes gv
 show K4 (v,c,x,())=_
 unfold K4 fl
 show Option.bind (sk (v,())) _=_
 rw [MI v h1 h3]
 simp only [av]
 show cond _ _ (Option.bind (zM (v.2.1,v,())) _)=_
 rw [Vj v h1 h2 h3 h.fM h.f_]
 simp only [av]
 cases decide ((bytesOf v.2.1:Int)>400) <;> cases gp v.2.1 <;> rfl
theorem agY{B:Nat}(v:ae.D)(h:an B v.2.1)(gv:B≤1048576):JS (v,())=some (fl v.2.1,()):=by
 have h1:=Nat.le_trans h.len gv
 have h2:=Nat.le_trans h.cC gv
 have h3:=Nat.le_trans h.bytes gv
 show JR v=_
 unfold JR fl
 rw [MH v h1 h3]
 simp only [av]
 rw [Vk v h1 h2 h3 (fun i hi hk=>⟨(h.bare i hi hk).1,(h.bare i hi hk).2.1⟩)]
 simp only [av]
 cases decide ((bytesOf v.2.1:Int)>400) <;> cases gp v.2.1 <;> rfl
theorem Az{B:Nat}(u v:ae.D)(h:an B v.2.1)(gv:B≤1048576):qD (u,v,())=some (cond (fl v.2.1==0) v u,(fl v.2.1,[],()),()):=by
 show JT u v=_
 unfold JT
 rw [agY v h gv]
 simp only [av]
 by_cases h0:fl v.2.1=0
 ·rw [dt h0,cF h0,h0];rfl
 ·rw [cV h0,b5 h0];rfl
def AA:List aw.D→aF→Int
 | [],_=>0
 | d :: r,s=>cond (bn d.1 s) d.2.1 (AA r s)
theorem agZ{n:Nat}{P:Nat→Bool} : eR (n+1) P=cond (P 0) (some 0) ((eR n fun i=>P (i+1)).map (· + 1)):=by
 cases h0:P 0
 ·simp only [cond_false]
  cases h:eR n fun i=>P (i+1) with
  | none =>
   refine kf.2 fun i hi=>?_
   cases i with
   | zero=>exact h0
   | succ i=>exact kf.1 h i (by omega)
  | some k =>
   obtain ⟨h1,h2,h3⟩:=gA.1 h
   refine gA.2 ⟨show k+1<n+1 by omega,h2,fun j hj=>?_⟩
   have hj:j<k+1:=hj
   cases j with
   | zero=>exact h0
   | succ j=>exact h3 j (by omega)
 ·exact gA.2 ⟨by omega,h0,fun j hj=>by omega⟩
theorem look_eq(s:aF):∀N:List aw.D,cW N s=AA N s
 | []=>rfl
 | d :: r=>by
  unfold cW AA
  rw [List.length_cons,agZ]
  show Aq (d :: r) (cond (bn d.1 s) _ _)=_
  cases ag:bn d.1 s
  ·simp only [cond_false]
   rw [← look_eq s r]
   unfold cW
   show Aq (d :: r) ((eR r.length (q4 r s)).map (· + 1))=_
   cases eR r.length (q4 r s) <;> rfl
  ·rfl
def vv(N:List aw.D)(s:aF)(id:Int):Int:=N.foldl (fun a d=>cond (bn d.1 s) d.2.1 a) id
theorem V4{s:aF}{id:Int} : ∀ {N:List aw.D},(∀d,d∈N→d.1≠s)→vv N s id=id
 | [],_=>rfl
 | d :: r,h=>by
  have h1:bn d.1 s=false:=by unfold bn;simpa using h d List.mem_cons_self
  unfold vv
  rw [List.foldl_cons,h1]
  exact V4 fun e he=>h e (List.mem_cons_of_mem _ he)
theorem V5{s:aF} : ∀ {N:List aw.D},jh N→vv N s 0=cW N s
 | [],_=>rfl
 | d :: r,h=>by
  obtain ⟨h1,h2⟩:=List.pairwise_cons.1 h
  rw [look_eq,AA,← look_eq]
  unfold vv
  rw [List.foldl_cons]
  cases ag:bn d.1 s
  ·exact V5 h2
  ·have ag:d.1=s:=by unfold bn at ag;simpa using ag
   refine V4 fun e he=>?_
   have:=h1 e he
   rw [ag] at this
   exact(Gh this).symm
theorem Gv(v:ae.D)(dir:Int)(s:aF)(hl:v.2.1.length≤1048576)(hm:dw v.2.1≤1048576){i:Nat}(h:bd v.2.1 dir=some i)(hs:jh (ak (J I v.2.1 i))) :
  nE (v,dir,s,())=some ((v.1,goN (v.2.1.set i (b0 (J I v.2.1 i) (cf (ak (J I v.2.1 i)) s))) (cW (ak (J I v.2.1 i)) s),()),()):=by
 show Di (k8 aP) v dir s=_
 unfold Di
 rw [iK v dir hl h]
 simp only [av]
 obtain ⟨hi,b2⟩:=bT h
 have hn:=Nat.le_trans (fI hi) hm
 have n1:dw (v.2.1.set i (b0 (J I v.2.1 i) (cf (ak (J I v.2.1 i)) s)))≤1048576:=by
  have:=Gp (l:=v.2.1) (y:=b0 (J I v.2.1 i) (cf (ak (J I v.2.1 i)) s)) hi
  rw [hy] at this
  have:=vu (ak (J I v.2.1 i)) s
  omega
 have pU:(v.2.1.set i (b0 (J I v.2.1 i) (cf (ak (J I v.2.1 i)) s))).length≤1048576:=by rw [List.length_set];exact hl
 rw [← V5 hs]
 generalize hN:ak (J I v.2.1 i)=N at hn hs n1 pU
 have hw:bd v.2.1 (b0 (J I v.2.1 i) (cf N s)).1=some i:=by rw [show(b0 (J I v.2.1 i) (cf N s)).1=dir from b2];exact h
 have key:∀(r j:Nat) (id:Int),j+r=N.length→bW (fun m=>(k8 m).bt s id (j:Int) v (0,([]:List I.D),()) (J I v.2.1 i) (cf (N.take j) s)) (r+1048580) (some ((v.1,goN (v.2.1.set i (b0 (J I v.2.1 i) (cf N s))) (vv (N.drop j) s id),()),())):=by
  intro r
  induction r with
  | zero =>
   intro j id hj
   have Gn:j=N.length:=by omega
   subst Gn
   rw [List.drop_length,List.take_length]
   show bW _ _ (some ((v.1,goN (v.2.1.set i (b0 (J I v.2.1 i) (cf N s))) id,()),()))
   have hb:∀m,(k8 (m+1)).bt s id (N.length:Int) v (0,([]:List I.D),()) (J I v.2.1 i) (cf N s) =
     cond (decide (((ck (v.2.1.set i (b0 (J I v.2.1 i) (cf N s))) id:Nat):Int)>0)) (some ((v.1,v.2.1.set i (b0 (J I v.2.1 i) (cf N s)),()),())) ((k8 m).mI id 0 (v.1,v.2.1.set i (b0 (J I v.2.1 i) (cf N s)),()) (0,([]:List I.D),()) ([]:List I.D)):=by
    intro m
    show zr (k8 m) s id (N.length:Int) v (0,([]:List I.D),()) (J I v.2.1 i) (cf N s)=_
    unfold zr
    show cond (decide ((N.length:Int)<((ak (J I v.2.1 i)).length:Int))) _ (Option.bind (oJ (v,b0 (J I v.2.1 i) (cf N s),())) _)=_
    rw [hN,cM (Nat.le_refl _),Gq v _ hl hw]
    simp only [cond_false,av]
    rw [FT (v.1,v.2.1.set i (b0 (J I v.2.1 i) (cf N s)),()) id pU n1]
    rfl
   generalize v.2.1.set i (b0 (J I v.2.1 i) (cf N s))=l at hb pU
   unfold goN
   by_cases h0:ck l id=0
   ·rw [decide_eq_true h0]
    simp only [cond_true]
    have ag0:=o1 1 (fun m j=>(k8 m).mI id (j:Int) (v.1,l,()) (0,([]:List I.D),()) ((l.take j).filter fun y => !(y.1==id))) (some ((v.1,l.filter fun y => !(y.1==id),()),())) l.length 1 (fun j hj B y he=>he.step fun m=>by
     have ia:((l.take j).filter fun y => !(y.1==id)).length≤j:=Nat.le_trans (List.length_filter_le _ _) (by rw [List.length_take];omega)
     show zs (k8 m) id (j:Int) (v.1,l,()) (0,([]:List I.D),()) ((l.take j).filter fun y => !(y.1==id))=_
     unfold zs
     show cond (decide ((j:Int)<(l.length:Int))) ((aM l.length (j:Int)).bind fun v1=>cond (!((J I l (0+v1)).1==id)) _ _) _=_
     rw [cp hj,bx hj]
     simp only [cond_true,av,Nat.zero_add]
     rw [df j (by omega),List.take_succ_eq_append_getElem hj,List.filter_append,List.filter_cons,List.filter_nil,c6 hj]
     cases hc:(!((l[j]).1==id))
     ·simp
     ·simp only [cond_true,if_true]
      rw [cI (by simp only [List.length_cons,List.length_nil];omega)];rfl) (bW.now 1 fun m=>by
     show zs (k8 m) id (l.length:Int) (v.1,l,()) (0,([]:List I.D),()) ((l.take l.length).filter fun y => !(y.1==id))=_
     unfold zs
     show cond (decide ((l.length:Int)<(l.length:Int))) _ _=_
     rw [cM (Nat.le_refl _),List.take_length];rfl)
    refine(ag0.jump (f:=fun m=>(k8 m).bt s id (N.length:Int) v (0,([]:List I.D),()) (J I v.2.1 i) (cf N s)) 1 fun m=>?_).mono (by omega)
    rw [hb m,decide_eq_false (by omega)];rfl
   ·rw [decide_eq_false h0]
    simp only [cond_false]
    refine(bW.now 1 fun m=>?_).mono (by omega)
    rw [hb m,decide_eq_true (by omega)];rfl
  | succ r ih =>
   intro j id hj
   have hjl:j<N.length:=by omega
   have ih:=ih (j+1) (cond (bn (J aw N j).1 s) (J aw N j).2.1 id) (by omega)
   have gq:vv (N.drop (j+1)) s (cond (bn (J aw N j).1 s) (J aw N j).2.1 id)=vv (N.drop j) s id:=by
    rw [drop_cons (t:=aw) hjl];rfl
   rw [gq] at ih
   refine(ih.jump (f:=fun m=>(k8 m).bt s id (j:Int) v (0,([]:List I.D),()) (J I v.2.1 i) (cf (N.take j) s)) 1 fun m=>?_).mono (by omega)
   have ia:(cf (N.take j) s).length≤j:=Nat.le_trans (List.length_filter_le _ _) (by rw [List.length_take];omega)
   show zr (k8 m) s id (j:Int) v (0,([]:List I.D),()) (J I v.2.1 i) (cf (N.take j) s)=_
   unfold zr
   show cond (decide ((j:Int)<((ak (J I v.2.1 i)).length:Int))) ((aM (ak (J I v.2.1 i)).length (j:Int)).bind fun v1=>cond (bn (J aw (ak (J I v.2.1 i)) v1).1 s)
    ((aM (ak (J I v.2.1 i)).length (j:Int)).bind fun v2=>(k8 m).bt s (J aw (ak (J I v.2.1 i)) v2).2.1 (aG ((j:Int)+1)) v (0,([]:List I.D),()) (J I v.2.1 i) (cf (N.take j) s))
    ((aM (ak (J I v.2.1 i)).length (j:Int)).bind fun v3=>cond (room ((cf (N.take j) s).length+1)) ((k8 m).bt s id (aG ((j:Int)+1)) v (0,([]:List I.D),()) (J I v.2.1 i) (cf (N.take j) s++[J aw (ak (J I v.2.1 i)) v3])) none)) _=_
   rw [hN,cp hjl,bx hjl]
   simp only [cond_true,av]
   rw [df j (by omega)]
   have wN:cf (N.take (j+1)) s=cf (N.take j) s++cond (bn (J aw N j).1 s) [] [J aw N j]:=by
    unfold cf
    rw [List.take_succ_eq_append_getElem hjl,List.filter_append,List.filter_cons,List.filter_nil,c6 hjl]
    cases bn (N[j]).1 s <;> rfl
   rw [wN]
   cases bn (J aw N j).1 s
   ·simp only [cond_false]
    rw [cI (by omega)];rfl
   ·simp only [cond_true,List.append_nil]
 have:=key N.length 0 0 (by omega)
 rw [List.drop_zero] at this
 exact kK this (by omega)
theorem bits_nat(op:BinOp)(x y:Nat):cR op .i64 (x:Int) (y:Int)=(match op with
 | .and=>IntKind.wrap .i64 ((BitVec.ofNat 64 x &&& BitVec.ofNat 64 y).toNat:Int)
 | .or=>IntKind.wrap .i64 ((BitVec.ofNat 64 x ||| BitVec.ofNat 64 y).toNat:Int)
 | .xor=>IntKind.wrap .i64 ((BitVec.ofNat 64 x ^^^ BitVec.ofNat 64 y).toNat:Int)
 | _=>IntKind.wrap .i64 ((BitVec.ofNat 64 x &&& ~~~BitVec.ofNat 64 y).toNat:Int)):=by
 unfold cR
 rw [show(IntKind.i64).bits=64 from rfl]
 simp only [BitVec.ofInt_natCast]
 cases op <;> rfl
theorem ag1{x y:Nat}(hx:x<4611686018427387904)(aN:y<4611686018427387904):cR .and .i64 (x:Int) (y:Int)=((x &&& y:Nat):Int):=by
 rw [bits_nat]
 simp only
 rw [BitVec.toNat_and,BitVec.toNat_ofNat,BitVec.toNat_ofNat,Nat.mod_eq_of_lt (show x<2 ^ 64 by omega),Nat.mod_eq_of_lt (show y<2 ^ 64 by omega)]
 have:x &&& y≤x:=Nat.and_le_left
 exact te (by omega) (by omega)
theorem V6{x y:Nat}(hx:x<4611686018427387904)(aN:y<4611686018427387904):cR .or .i64 (x:Int) (y:Int)=((x ||| y:Nat):Int):=by
 rw [bits_nat]
 simp only
 rw [BitVec.toNat_or,BitVec.toNat_ofNat,BitVec.toNat_ofNat,Nat.mod_eq_of_lt (show x<2 ^ 64 by omega),Nat.mod_eq_of_lt (show y<2 ^ 64 by omega)]
 have:x ||| y<2 ^ 62:=Nat.or_lt_two_pow (by omega) (by omega)
 exact te (by omega) (by omega)
theorem ag2{x:Nat}(h:x<2048):x &&& 1024=1024*(x / 1024):=by
 have h1:(x &&& 1024) / 2 ^ 10=x / 2 ^ 10 &&& 1024 / 2 ^ 10:=Nat.and_div_two_pow
 have h2:(x &&& 1024) % 2 ^ 10=x % 2 ^ 10 &&& 1024 % 2 ^ 10:=Nat.and_mod_two_pow
 rw [show 1024 / 2 ^ 10=1 from rfl,Nat.and_one_is_mod] at h1
 rw [show 1024 % 2 ^ 10=0 from rfl,Nat.and_zero] at h2
 omega
theorem ag3{m:Int}(h:0≤m)(h':m≤2047):cR .and .i64 m 1024=0∨cR .and .i64 m 1024=1024:=by
 obtain ⟨n,rfl⟩:∃n:Nat,m=n:=⟨m.toNat,by omega⟩
 have:=ag1 (x:=n) (y:=1024) (by omega) (by omega)
 rw [show((1024:Nat):Int)=1024 from rfl] at this
 rw [this,ag2 (by omega)]
 omega
theorem ag4{m:Int}(h:0≤m)(h':m≤2047):cR .or .i64 m 0=m:=by
 obtain ⟨n,rfl⟩:∃n:Nat,m=n:=⟨m.toNat,by omega⟩
 have:=V6 (x:=n) (y:=0) (by omega) (by omega)
 rw [show((0:Nat):Int)=0 from rfl] at this
 rw [this,Nat.or_zero]
theorem ag5{m:Int}(h:0≤m)(h':m≤2047):0≤cR .or .i64 m 1024∧cR .or .i64 m 1024≤2047:=by
 obtain ⟨n,rfl⟩:∃n:Nat,m=n:=⟨m.toNat,by omega⟩
 have:=V6 (x:=n) (y:=1024) (by omega) (by omega)
 rw [show((1024:Nat):Int)=1024 from rfl] at this
 rw [this]
 have:n ||| 1024<2 ^ 11:=Nat.or_lt_two_pow (by omega) (by omega)
 omega
def az(x:aI.D):Int:=x.1
def da(x:aI.D):aF:=x.2.1
def iN(x:aI.D):aF:=x.2.2.1
def bO(x:aI.D):Int:=x.2.2.2.1
def dX(x:aI.D):Int:=x.2.2.2.2.1
def dB(x:aI.D):aF:=x.2.2.2.2.2.1
structure gM(x:aI.D):Prop where
 cP:1≤az x∧az x≤22
 path:(da x).length≤60
 sS:(iN x).length≤60
 fO:(dB x).length≤64
 n : -1000000≤bO x∧bO x≤1000000
 m : -1000000≤dX x∧dX x≤1000000
 ag6:iN x=[]∨az x=9∨az x=10∨az x=12
 V7:dB x=[]∨az x=5∨az x=6
theorem vw{x:aI.D} : ke x=true↔gM x:=by
 unfold ke
 simp only [Bool.and_eq_true,Bool.or_eq_true,decide_eq_true_eq,beq_iff_eq,m0]
 constructor
 ·rintro ⟨⟨⟨⟨⟨⟨⟨h1,h2⟩,h3⟩,h4⟩,a7⟩,bh⟩,bH⟩,cG⟩
  exact⟨dM.1 h1,Int.ofNat_le.1 h2,Int.ofNat_le.1 h3,Int.ofNat_le.1 h4,dM.1 a7,dM.1 bh,bH,cG⟩
 ·intro h
  exact⟨⟨⟨⟨⟨⟨⟨dM.2 h.cP,Int.ofNat_le.2 h.path⟩,Int.ofNat_le.2 h.sS⟩,Int.ofNat_le.2 h.fO⟩,dM.2 h.n⟩,dM.2 h.m⟩,h.ag6⟩,h.V7⟩
theorem l5{N:List aw.D}{s:aF}{id:Int}{d:aw.D} : d∈ins N s id↔d∈N∨d=(s,id,()):=by
 have:=List.takeWhile_append_dropWhile (p:=dW s) (l:=N)
 unfold ins
 conv=>rhs;rw [← this]
 simp only [List.mem_append,List.mem_singleton]
 constructor
 ·rintro ((h | h) | h)
  ·exact .inl (.inl h)
  ·exact .inr h
  ·exact .inl (.inr h)
 ·rintro ((h | h) | h)
  ·exact .inl (.inl h)
  ·exact .inr h
  ·exact .inl (.inr h)
theorem AB{N:List aw.D}{s:aF}(h:cW N s=0)(h0:∀d,d∈N→d.2.1≠0):∀d,d∈N→d.1≠s:=by
 intro d ag he
 obtain ⟨i,hi,aB⟩:=fg ag
 unfold cW at h
 cases hf:eR N.length (q4 N s) with
 | none =>
  have:=kf.1 hf i hi
  unfold q4 bn at this
  rw [aB] at this
  simp [he] at this
 | some j =>
  rw [hf] at h
  obtain ⟨h1,_,_⟩:=gA.1 hf
  exact h0 _ (cJ h1) h
theorem bz.V8{v:ae.D}(h:bz v){x:aJ}(hx:x∈v.2.1):1≤aX x∧aX x≤dn v-1:=by
 obtain ⟨i,hi,he⟩:=fg hx
 have:=h.ids i hi
 rw [he] at this;exact this
theorem bz.AD{v:ae.D}(h:bz v){i:Nat}(hi:i<v.2.1.length){d:aw.D}(ag:d∈ak (J I v.2.1 i)):d.2.1≠0:=by
 obtain ⟨y,aN,he⟩:=n2.1 (h.f_ i hi d ag)
 have h1:=h.V8 aN
 intro h0
 have:aX y=0:=he.trans h0
 omega
theorem bz.free{v:ae.D}(h:bz v):bd v.2.1 v.1=none:=by
 cases hi:bd v.2.1 v.1 with
 | none=>rfl
 | some i =>
  obtain ⟨h1,h2⟩:=bT hi
  have:=h.ids i h1
  have h2:aX (J I v.2.1 i)=dn v:=h2
  omega
theorem bz.fP{v:ae.D}(h:bz v):n0 v.2.1 :=
 ⟨by have:=h.len;omega,by have:=h.cC;omega,h.fM,h.f_,fun i hi hk=>((h.ino i hi).plain hk).2.2,fun i hi hk=>((h.ino i hi).l2 hk).1,0,by
  have:=h.fM 0 (by have:=h.len;omega)
  rwa [show(J I v.2.1 0).1=1 from h.root.1] at this,h.root.2⟩
def br(v:ae.D)(c:aH.D)(x:aI.D)(a:Option (Int×aK.D×Unit))(b:Option (ae.D×aL.D×Unit))(Q:ae.D→Prop):Prop :=
 ∃(code:Int) (w:ae.D),a=some (code,(w,c,x,()),())∧b=some (cond (code==0) w v,(code,[],()),())∧(code=0→Q w)
theorem br.no{v:ae.D}{c:aH.D}{x:aI.D}{a:Option (Int×aK.D×Unit)}{b:Option (ae.D×aL.D×Unit)}{Q:ae.D→Prop}(code:Int)(h0:code≠0)(ha:a=some (code,(v,c,x,()),()))(hb:b=some (v,(code,[],()),())):br v c x a b Q :=
 ⟨code,v,ha,by rw [b5 h0];exact hb,fun h=>absurd h h0⟩
def q9(x:aI.D):Int:=if az x=1 then 2 else if az x=10 then 3 else 1
def vx(x:aI.D)(d:aJ):Int:=if az x=10 then 511 else if az x=1∧cR .and .i64 (e' d) 1024≠0 then cR .or .i64 (bO x) 1024 else bO x
def AE(c:aH.D)(d:aJ):Int:=if cR .and .i64 (e' d) 1024≠0 then fk d else c.2.1
def fQ(v:ae.D)(c:aH.D)(x:aI.D)(d:aJ):aJ:=(v.1,q9 x,vx x d,c.1,AE c d,if az x=10 then iN x else [],[],0,0,())
def p2(x:aI.D):Bool:=cond (az x==10) (!jx (iN x)) (!c0 (bO x) 0 2047)
structure Made(v:ae.D)(c:aH.D)(x:aI.D)(w:ae.D):Prop where
 bad:p2 x=false
 out:∃r i,l3 v.2.1 r∧bE r=2∧nameOf r≠[]∧bd v.2.1 (cd r)=some i∧kindOf (J I v.2.1 i)=2∧may c (J I v.2.1 i) 3=true∧(ak (J I v.2.1 i)).length<12∧v.2.1.length<24∧dn v<100000 ∧
  w=(v.1+1,v.2.1.set i (b0 (J I v.2.1 i) (ins (ak (J I v.2.1 i)) (nameOf r) v.1))++[fQ v c x (J I v.2.1 i)],())∧fl w.2.1=0∧dv (v,c,da x,false,())=some (r,())
theorem ag7(m:Nat)(a b):(lg (m+1)).ba a b=K5 (lg m) a b:=rfl
theorem ag8(m:Nat)(a b d):(lg (m+1)).hL a b d=K6 (lg m) a b d:=rfl
theorem ag9(m:Nat)(a b d e f):(iG (m+1)).k3 a b d e f=zn (iG m) a b d e f:=rfl
theorem ag_(m:Nat)(a b d e f):(iG (m+1)).gx a b d e f=JV (iG m) a b d e f:=rfl
theorem AF(v:ae.D)(c:aH.D)(x:aI.D)(id:Int)(hl:v.2.1.length≤1048576)(hc:c9 c=true){i:Nat}(h:bd v.2.1 id=some i):nL ((v,c,x,()),id,())=some (may c (J I v.2.1 i) 3,()):=by
 show K2 (v,c,x,()) id=_
 unfold K2
 show Option.bind (fA (v,id,())) _=_
 rw [mU v id hl h]
 simp only [av,List.isEmpty_cons,Bool.not_false,cond_true]
 show Option.bind (pP (c,J I v.2.1 i,3,())) _=_
 rw [Ap c _ 3 hc];rfl
theorem ag'(v:ae.D)(c:aH.D)(x:aI.D)(hv:bz v)(hc:c9 c=true)(hx:gM x):br v c x (zR ((v,c,x,()),())) (r8 (v,c,x,())) (Made v c x):=by
 have b7:=hv.fP
 have hl:v.2.1.length≤1048576:=b7.len
 have au:=hx.path
 obtain ⟨q,hq,h9⟩:=iI 4
 have e5:zR ((v,c,x,()),())=cond (p2 x) (some (22,(v,c,x,()),())) ((lg aP).ba (v,c,x,()) x):=by
  show EP (lg aP) (v,c,x,())=_
  unfold EP p2
  show cond (az x==10) (Option.bind (xi (iN x,())) fun v1=>cond (!v1.1) _ (cond (!(az x==10)) _ _)) (cond (!(az x==10)) (Option.bind (eO (bO x,0,2047,())) _) _)=_
  rw [MF _ (by have:=hx.sS;omega)]
  cases az x==10
  ·simp only [cond_false,Bool.not_false,cond_true,av]
   rw [jw];rfl
  ·simp only [cond_true,Bool.not_true,cond_false,av]
 have dQ:r8 (v,c,x,())=cond (p2 x) (some (v,(22,[],()),())) ((iG aP).k3 v c x (0,([]:List I.D),()) (0,([]:aF),())):=by
  show w7 (iG aP) v c x=_
  unfold w7 p2
  show cond (az x==10) (Option.bind (za (iN x,())) fun v1=>cond (!v1.1) _ (cond (!(az x==10)) _ _)) (cond (!(az x==10)) (Option.bind (eg (bO x,0,2047,())) _) _)=_
  rw [U0]
  cases az x==10
  ·simp only [cond_false,Bool.not_false,cond_true,av]
   rw [jv];rfl
  ·simp only [cond_true,Bool.not_true,cond_false,av]
 rw [e5,dQ]
 cases hb:p2 x with
 | true=>exact br.no 22 (by decide) rfl rfl
 | false =>
 simp only [cond_false]
 rw [hq,ag7,ag9]
 unfold K5 zn
 obtain ⟨r,ec,code,Nn,No,Np⟩:=VU v c x (da x) b7 hc (by omega)
 show br v c x (Option.bind (u' ((v,c,x,()),da x,())) _) (Option.bind (qB (v,c,da x,())) _) _
 rw [Nn,No]
 simp only [av]
 by_cases b3:code=0
 case neg =>
  rw [cV b3]
  exact br.no code b3 rfl rfl
 obtain ⟨rfl,hr,gD,p3,q_⟩:=Np b3
 rw [dt b3]
 simp only [cond_false]
 obtain ⟨o3,hQ,d,ag,eE,n3⟩:=hr.new gD p3
 have hdl:=bT ag
 show br v c x (Option.bind (nL ((v,c,x,()),cd ec,())) _) (Option.bind (e_ (v,cd ec,())) _) _
 rw [AF v c x _ hl hc ag,iK v _ hl ag]
 simp only [av]
 rw [nX c _ 3 hc]
 simp only [av]
 cases hm:may c (J I v.2.1 d) 3 with
 | false=>exact br.no 13 (by decide) rfl rfl
 | true =>
 simp only [Bool.not_true,cond_false]
 show br v c x (Option.bind (fA (v,cd ec,())) _) _ _
 rw [mU v _ hl ag]
 simp only [av,List.isEmpty_cons,Bool.not_false,cond_true]
 have hS:=hv.ino d hdl.1
 have V9:=(hS.dir eE).2.2.2
 show br v c x (cond (((ak (J I v.2.1 d)).length:Int)==12) _ (cond ((v.2.1.length:Int)==24) _ (cond (dn v==100000) _ _))) (cond (decide (((ak (J I v.2.1 d)).length:Int)≥12)) _ (cond (decide ((v.2.1.length:Int)≥24)) _ (cond (decide (dn v≥100000)) _ _))) _
 by_cases lP:(ak (J I v.2.1 d)).length=12
 ·rw [show(((ak (J I v.2.1 d)).length:Int)==12)=true by rw [lP];rfl,decide_eq_true (by omega)]
  exact br.no 28 (by decide) rfl rfl
 rw [show(((ak (J I v.2.1 d)).length:Int)==12)=false by rw [beq_eq_false_iff_ne];omega,decide_eq_false (show ¬((ak (J I v.2.1 d)).length:Int)≥12 by omega)]
 simp only [cond_false]
 have hlen:=hv.len
 have qv:=hv.next
 by_cases aha:v.2.1.length=24
 ·rw [show((v.2.1.length:Int)==24)=true by rw [aha];rfl,decide_eq_true (by omega)]
  exact br.no 28 (by decide) rfl rfl
 rw [show((v.2.1.length:Int)==24)=false by rw [beq_eq_false_iff_ne];omega,decide_eq_false (show ¬(v.2.1.length:Int)≥24 by omega)]
 simp only [cond_false]
 by_cases Gw:dn v=100000
 ·rw [cF Gw,decide_eq_true (show dn v≥100000 by omega)]
  exact br.no 28 (by decide) rfl rfl
 rw [b5 Gw,decide_eq_false (show ¬dn v≥100000 by omega)]
 simp only [cond_false]
 obtain ⟨w,hw⟩:∃w:ae.D,w=(v.1+1,v.2.1.set d (b0 (J I v.2.1 d) (ins (ak (J I v.2.1 d)) (nameOf ec) v.1))++[fQ v c x (J I v.2.1 d)],()):=⟨_,rfl⟩
 have ahb:aG (v.1+1)=v.1+1:=dI (a:=dn v+1) (by omega) (by omega)
 have alA:an 1000 (v.2.1++[fQ v c x (J I v.2.1 d)]):=(hv.st.app (k:=100) (n:=fQ v c x (J I v.2.1 d)) hv.free rfl (by
  show(if az x=10 then iN x else []).length≤100
  have:=hx.sS
  split
  ·omega
  ·simp) (by omega) (fun _=>⟨rfl,rfl⟩)).mono (by omega)
 have hst:an 1000 w.2.1:=by
  rw [hw]
  have aB:J I (v.2.1++[fQ v c x (J I v.2.1 d)]) d=J I v.2.1 d:=Gr hdl.1
  have:=(hv.st.app (k:=100) (n:=fQ v c x (J I v.2.1 d)) hv.free rfl (by
   show(if az x=10 then iN x else []).length≤100
   have:=hx.sS
   split
   ·omega
   ·simp) (by omega) (fun _=>⟨rfl,rfl⟩)).set (k:=1) (i:=d) (y:=b0 (J I v.2.1 d) (ins (ak (J I v.2.1 d)) (nameOf ec) v.1)) (by simp;omega) (by rw [aB];rfl) (by
    intro e he
    rcases l5.1 he with he | rfl
    ·obtain ⟨y,aN,xI⟩:=n2.1 (hv.f_ d hdl.1 e he)
     exact n2.2 ⟨y,List.mem_append_left _ aN,xI⟩
    ·exact n2.2 ⟨fQ v c x (J I v.2.1 d),List.mem_append_right _ (List.mem_singleton.2 rfl),rfl⟩) (fun hk=>absurd eE hk) (by
    rw [aB];show(ins (ak (J I v.2.1 d)) (nameOf ec) v.1).length≤_;rw [xR];omega) (by rw [aB];exact Nat.le_add_right _ _)
  rw [V2 hdl.1] at this
  exact this.mono (by omega)
 have hfin:∀m n,br v c x ((lg (m+1)).hL (v,c,x,()) ec (fQ v c x (J I v.2.1 d))) ((iG (n+1)).gx v (0,([]:List I.D),()) (0,([]:aF),()) ec (fQ v c x (J I v.2.1 d))) (Made v c x):=by
  intro m n
  rw [ag8,ag_]
  unfold K6 JV
  rw [vq v hl (fun i hi=>Nat.le_trans (fI hi) b7.cC)]
  simp only [av]
  rw [ahb]
  show br v c x (Option.bind (sv (((v.1+1,v.2.1,()),c,x,()),cd ec,nameOf ec,v.1,())) _) (Option.bind (oJ ((v.1+1,v.2.1,()),fQ v c x (J I v.2.1 d),())) _) _
  rw [Nj (v.1+1,v.2.1,()) c x (cd ec) (nameOf ec) v.1 hl ag (Nat.le_trans (fI hdl.1) b7.cC),agV (v.1+1,v.2.1,()) _ hl hv.free]
  simp only [av]
  have aB:J I (v.2.1++[fQ v c x (J I v.2.1 d)]) d=J I v.2.1 d:=Gr hdl.1
  have F3:=Nl (v.1+1,v.2.1++[fQ v c x (J I v.2.1 d)],()) (cd ec) (nameOf ec) v.1 (by simp;omega) (V1 ag) (by
   show(ak (J I (v.2.1++[fQ v c x (J I v.2.1 d)]) d)).length≤_
   rw [aB];exact Nat.le_trans (fI hdl.1) b7.cC) (by
   show ∀e,e∈ak (J I (v.2.1++[fQ v c x (J I v.2.1 d)]) d)→_
   rw [aB];exact AB n3 fun e he=>hv.AD hdl.1 he)
  rw [show((v.1+1,v.2.1++[fQ v c x (J I v.2.1 d)],()):ae.D).2.1=v.2.1++[fQ v c x (J I v.2.1 d)] from rfl,aB,V2 hdl.1,← hw] at F3
  show br v c x _ (Option.bind (r7 ((v.1+1,v.2.1++[fQ v c x (J I v.2.1 d)],()),cd ec,nameOf ec,v.1,())) _) _
  rw [F3]
  simp only [av]
  rw [Az v w hst (by omega)]
  simp only [av]
  rw [cI (by simp;omega)]
  simp only [cond_true]
  show br v c x (Option.bind (nM (((v.1+1,v.2.1.set d (b0 (J I v.2.1 d) (ins (ak (J I v.2.1 d)) (nameOf ec) v.1))++[fQ v c x (J I v.2.1 d)],()),c,x,()),())) fun v2=>some (v2.1,((v.1+1,v.2.1.set d (b0 (J I v.2.1 d) (ins (ak (J I v.2.1 d)) (nameOf ec) v.1))++[fQ v c x (J I v.2.1 d)],()),c,x,()),())) _ _
  rw [← hw,Ay w c x hst (by omega)]
  exact⟨fl w.2.1,w,rfl,rfl,fun h=>⟨hb,ec,d,hr,gD,p3,ag,eE,hm,by omega,by omega,by omega,hw,h,q_⟩⟩
 have hN:az x≠10→0≤bO x∧bO x≤2047:=by
  intro hk
  unfold p2 at hb
  rw [b5 hk] at hb
  simp only [cond_false,Bool.not_eq_false'] at hb
  exact dM.1 hb
 have Gz:=hS.mode
 have Nq:=ag3 Gz.1 Gz.2
 show br v c x (cond (cR .and .i64 (e' (J I v.2.1 d)) 1024 != 0)
   (cond (az x==1) ((lg (q+3)).hL (v,c,x,()) ec (v.1,2,cR .or .i64 (bO x) (cR .and .i64 (e' (J I v.2.1 d)) 1024),c.1,fk (J I v.2.1 d),[],[],0,0,()))
    (cond (az x==10) ((lg (q+3)).hL (v,c,x,()) ec (v.1,3,511,c.1,fk (J I v.2.1 d),iN x,[],0,0,())) ((lg (q+3)).hL (v,c,x,()) ec (v.1,1,bO x,c.1,fk (J I v.2.1 d),[],[],0,0,()))))
   (cond (az x==1) ((lg (q+3)).hL (v,c,x,()) ec (v.1,2,cR .or .i64 (bO x) (cR .and .i64 (e' (J I v.2.1 d)) 1024),c.1,c.2.1,[],[],0,0,()))
    (cond (az x==10) ((lg (q+3)).hL (v,c,x,()) ec (v.1,3,511,c.1,c.2.1,iN x,[],0,0,())) ((lg (q+3)).hL (v,c,x,()) ec (v.1,1,bO x,c.1,c.2.1,[],[],0,0,())))))
  (cond (az x==1) ((iG (q+3)).zm v x (0,([]:List I.D),()) (0,([]:aF),()) ec (J I v.2.1 d) (v.1,2,bO x,c.1,c.2.1,[],[],0,0,())) ((iG (q+3)).zm v x (0,([]:List I.D),()) (0,([]:aF),()) ec (J I v.2.1 d) (v.1,1,bO x,c.1,c.2.1,[],[],0,0,()))) (Made v c x)
 have wx:∀(n:aJ),(iG (q+3)).zm v x (0,([]:List I.D),()) (0,([]:aF),()) ec (J I v.2.1 d) n=cond (az x==10) ((iG (q+2)).gL v (0,([]:List I.D),()) (0,([]:aF),()) ec (J I v.2.1 d) (n.1,3,511,n.2.2.2.1,n.2.2.2.2.1,iN x,n.2.2.2.2.2.2.1,n.2.2.2.2.2.2.2.1,n.2.2.2.2.2.2.2.2.1,())) ((iG (q+2)).gL v (0,([]:List I.D),()) (0,([]:aF),()) ec (J I v.2.1 d) n):=fun n=>rfl
 have AG:∀(n:aJ),(iG (q+2)).gL v (0,([]:List I.D),()) (0,([]:aF),()) ec (J I v.2.1 d) n=cond (cR .and .i64 (e' (J I v.2.1 d)) 1024 != 0)
   (cond (n.2.1==2) ((iG (q+1)).gx v (0,([]:List I.D),()) (0,([]:aF),()) ec (n.1,n.2.1,cR .or .i64 n.2.2.1 1024,n.2.2.2.1,fk (J I v.2.1 d),n.2.2.2.2.2.1,n.2.2.2.2.2.2.1,n.2.2.2.2.2.2.2.1,n.2.2.2.2.2.2.2.2.1,()))
    ((iG (q+1)).gx v (0,([]:List I.D),()) (0,([]:aF),()) ec (n.1,n.2.1,n.2.2.1,n.2.2.2.1,fk (J I v.2.1 d),n.2.2.2.2.2.1,n.2.2.2.2.2.2.1,n.2.2.2.2.2.2.2.1,n.2.2.2.2.2.2.2.2.1,()))) ((iG (q+1)).gx v (0,([]:List I.D),()) (0,([]:aF),()) ec n):=fun n=>rfl
 simp only [wx,AG]
 have hT:=hfin (q+2) q
 unfold fQ q9 vx AE at hT
 by_cases k1:az x=1
 ·have gj:az x≠10:=by omega
  have p4:=hN gj
  rw [cF k1,b5 gj]
  rw [if_pos k1,if_neg gj,if_neg gj] at hT
  simp only [cond_true,cond_false]
  rcases Nq with gi | gi
  ·rw [gi] at hT ⊢
   rw [if_neg (by simp),if_neg (by simp)] at hT
   rw [ag4 p4.1 p4.2]
   exact hT
  ·rw [gi] at hT ⊢
   rw [if_pos ⟨k1,by decide⟩,if_pos (by decide)] at hT
   exact hT
 ·rw [b5 k1]
  rw [if_neg k1] at hT
  by_cases gj:az x=10
  ·rw [cF gj]
   rw [if_pos gj,if_pos gj,if_pos gj] at hT
   simp only [cond_true,cond_false]
   rcases Nq with gi | gi
   ·rw [gi] at hT ⊢
    rw [if_neg (by simp)] at hT
    exact hT
   ·rw [gi] at hT ⊢
    rw [if_pos (by decide)] at hT
    exact hT
  ·rw [b5 gj]
   rw [if_neg gj,if_neg gj,if_neg gj,if_neg (fun h=>k1 h.1)] at hT
   simp only [cond_false]
   rcases Nq with gi | gi
   ·rw [gi] at hT ⊢
    rw [if_neg (by simp)] at hT
    exact hT
   ·rw [gi] at hT ⊢
    rw [if_pos (by decide)] at hT
    exact hT
def hU(v:ae.D)(i:Nat)(s:aF):ae.D:=(v.1,goN (v.2.1.set i (b0 (J I v.2.1 i) (cf (ak (J I v.2.1 i)) s))) (cW (ak (J I v.2.1 i)) s),())
structure AH(v:ae.D)(c:aH.D)(x:aI.D)(w:ae.D):Prop where
 out:∃r i j,l3 v.2.1 r∧bE r=0∧nameOf r≠[]∧bd v.2.1 (cd r)=some i∧kindOf (J I v.2.1 i)=2∧cW (ak (J I v.2.1 i)) (nameOf r)=bp r∧bd v.2.1 (bp r)=some j∧ak (J I v.2.1 j)=[] ∧
  (az x=2→kindOf (J I v.2.1 j)=2)∧(az x=8→kindOf (J I v.2.1 j)≠2)∧w=hU v i (nameOf r)
theorem ahc(m:Nat)(a b d):(oS (m+1)).bt a b d=K' (oS m) a b d:=rfl
theorem ahd(m:Nat)(a b d):(oS (m+1)).dj a b d=La (oS m) a b d:=rfl
theorem ahe(m:Nat)(a b d):(oS (m+1)).gG a b d=Lb (oS m) a b d:=rfl
theorem ahf(m:Nat)(a b d):(oS (m+1)).c3 a b d=Lc (oS m) a b d:=rfl
theorem V_(m:Nat)(a b d e f g h):(k9 (m+1)).dj a b d e f g h=Dj (k9 m) a b d e f g h:=rfl
theorem V'(m:Nat)(a b d e f g h):(k9 (m+1)).gG a b d e f g h=Dk (k9 m) a b d e f g h:=rfl
theorem Wa(m:Nat)(a b d e f g):(k9 (m+1)).c3 a b d e f g=Dl (k9 m) a b d e f g:=rfl
theorem ahg(v:ae.D)(c:aH.D)(x:aI.D)(hv:bz v)(hc:c9 c=true)(hx:gM x)(hk:az x=2∨az x=8):br v c x (EZ ((v,c,x,()),())) (w_ (v,c,x,())) (AH v c x):=by
 have b7:=hv.fP
 have hl:v.2.1.length≤1048576:=b7.len
 have au:=hx.path
 obtain ⟨q,hq,h9⟩:=iI 4
 show br v c x (EY (oS aP) (v,c,x,())) (w9 (k9 aP) v c x) _
 unfold EY w9
 obtain ⟨r,⟨hr,_⟩,AI,fB⟩:=Au v c x (da x) false b7 hc (by omega)
 show br v c x (Option.bind (lf ((v,c,x,()),da x,false,())) _) (Option.bind (dv (v,c,da x,false,())) _) _
 rw [AI,fB]
 simp only [av]
 show br v c x (cond (bE r != 0) (some (bE r,(v,c,x,()),())) _) (cond (bE r != 0) (some (v,(bE r,[],()),())) _) _
 by_cases b3:bE r=0
 case neg =>
  rw [cV b3]
  exact br.no (bE r) b3 rfl rfl
 rw [dt b3]
 simp only [cond_false,k7]
 obtain ⟨j,hj⟩:=hr.there b3
 have hjl:=bT hj
 show br v c x (Option.bind (fA (v,bp r,())) _) (Option.bind (e_ (v,bp r,())) _) _
 rw [mU v _ hl hj,iK v _ hl hj]
 simp only [av,List.isEmpty_cons,Bool.not_false,cond_true]
 rw [hq,ahc]
 unfold K'
 rw [ahd,V_]
 show br v c x (cond (az x==2) (cond (bn (nameOf r) []) _ _) _) (cond (az x==2) (cond (bn (nameOf r) []) _ _) _) _
 have ahh:nameOf r=[]→kindOf (J I v.2.1 j)=2:=by
  intro h
  obtain ⟨eY,h1,h2⟩:=hr.bare b3 h
  rw [hj] at h1
  rw [aT h1];exact h2
 by_cases c7:az x=2∧nameOf r=[]
 ·rw [cF c7.1,m0.2 c7.2]
  exact br.no 16 (by decide) rfl rfl
 have ns:∀ {α : Type} (a b : α),cond (az x==2) (cond (bn (nameOf r) []) a b) b=b:=by
  intro α a b
  by_cases h2:az x=2
  ·rw [cF h2]
   have:bn (nameOf r) []=false:=by
    rw [← Bool.not_eq_true,m0];exact fun h=>c7 ⟨h2,h⟩
   rw [this];rfl
  ·rw [b5 h2];rfl
 rw [ns,ns]
 unfold La Dj
 rw [ahe,V']
 show br v c x (cond (az x==2) (cond (kindOf (J I v.2.1 j) != 2) _ _) _) (cond (az x==2) (cond (kindOf (J I v.2.1 j) != 2) _ _) _) _
 by_cases gZ:az x=2∧kindOf (J I v.2.1 j)≠2
 ·rw [cF gZ.1,cV gZ.2]
  exact br.no 20 (by decide) rfl rfl
 have Wb:∀ {α : Type} (a b : α),cond (az x==2) (cond (kindOf (J I v.2.1 j) != 2) a b) b=b:=by
  intro α a b
  by_cases h2:az x=2
  ·rw [cF h2,dt (Decidable.byContradiction fun h=>gZ ⟨h2,h⟩)];rfl
  ·rw [b5 h2];rfl
 rw [Wb,Wb]
 unfold Lb Dk
 rw [ahf,Wa]
 show br v c x (cond (az x==8) (cond (kindOf (J I v.2.1 j)==2) _ _) _) (cond (az x==8) (cond (kindOf (J I v.2.1 j)==2) _ _) _) _
 by_cases b2:az x=8∧kindOf (J I v.2.1 j)=2
 ·rw [cF b2.1,cF b2.2]
  exact br.no 21 (by decide) rfl rfl
 have Wc:∀ {α : Type} (a b : α),cond (az x==8) (cond (kindOf (J I v.2.1 j)==2) a b) b=b:=by
  intro α a b
  by_cases h2:az x=8
  ·rw [cF h2,b5 (fun h=>b2 ⟨h2,h⟩)];rfl
  ·rw [b5 h2];rfl
 rw [Wc,Wc]
 have jb:nameOf r≠[]:=by
  intro h
  rcases hk with h2 | cG
  ·exact c7 ⟨h2,h⟩
  ·exact b2 ⟨cG,ahh h⟩
 obtain ⟨o3,hQ,d,ag,eE,n3⟩:=hr.named b3 jb
 have hdl:=bT ag
 have hS:=hv.ino d hdl.1
 unfold Lc Dl
 show br v c x (Option.bind (nL ((v,c,x,()),cd r,())) _) (Option.bind (e_ (v,cd r,())) _) _
 rw [AF v c x _ hl hc ag,iK v _ hl ag]
 simp only [av]
 rw [nX c _ 3 hc]
 simp only [av]
 cases hm:may c (J I v.2.1 d) 3 with
 | false=>exact br.no 13 (by decide) rfl rfl
 | true =>
 simp only [Bool.not_true,cond_false]
 show br v c x (Option.bind (fA (v,cd r,())) _) _ _
 rw [mU v _ hl ag]
 simp only [av,List.isEmpty_cons,Bool.not_false,cond_true]
 show br v c x (Option.bind (sw (c,J I v.2.1 d,J I v.2.1 j,())) _) _ _
 rw [M0 c _ _ hc,F_ c _ _ hc]
 simp only [av]
 cases ht:nY c (J I v.2.1 d) (J I v.2.1 j) with
 | false=>exact br.no 1 (by decide) rfl rfl
 | true =>
 simp only [Bool.not_true,cond_false]
 show br v c x (cond (az x==2) (cond (decide (((ak (J I v.2.1 j)).length:Int)>0)) _ _) _) (cond (decide (((ak (J I v.2.1 j)).length:Int)>0)) _ _) _
 rw [vq v hl (fun i hi=>Nat.le_trans (fI hi) b7.cC)]
 simp only [av]
 show br v c x (cond (az x==2) (cond (decide (((ak (J I v.2.1 j)).length:Int)>0)) (some (39,(v,c,x,()),())) (Option.bind (oR ((v,c,x,()),cd r,nameOf r,true,())) fun v4=>some (0,v4.1,()))) (Option.bind (oR ((v,c,x,()),cd r,nameOf r,true,())) fun v4=>some (0,v4.1,())))
  (cond (decide (((ak (J I v.2.1 j)).length:Int)>0)) (some (v,(39,[],()),())) (Option.bind (nE (v,cd r,nameOf r,())) fun v5=>some (v5.1,(0,[],()),()))) _
 rw [Nk v c x _ _ true hl b7.cC ag,Gv v _ _ hl b7.cC ag hS.sorted]
 simp only [av,cond_true]
 by_cases h0:ak (J I v.2.1 j)=[]
 ·rw [h0,show decide ((([]:List aw.D).length:Int)>0)=false from rfl]
  have:AH v c x (hU v d (nameOf r)):=⟨r,d,j,hr,b3,jb,ag,eE,n3,hj,h0,fun h=>Decidable.byContradiction fun h'=>gZ ⟨h,h'⟩,fun h h'=>b2 ⟨h,h'⟩,rfl⟩
  refine⟨0,hU v d (nameOf r),?_,rfl,fun _=>this⟩
  cases az x==2 <;> rfl
 ·have ahi:0<(ak (J I v.2.1 j)).length:=List.length_pos_iff.2 h0
  have lR:kindOf (J I v.2.1 j)=2:=Decidable.byContradiction fun h=>h0 ((hv.ino j hjl.1).plain h).2.2
  have hk2:az x=2:=by
   rcases hk with h | h
   ·exact h
   ·exact absurd ⟨h,lR⟩ b2
  rw [decide_eq_true (by omega),cF hk2]
  exact br.no 39 (by decide) rfl rfl
def vy(v:ae.D)(i:Nat)(s:aF)(id:Int):ae.D:=(v.1,v.2.1.set i (b0 (J I v.2.1 i) (ins (ak (J I v.2.1 i)) s id)),())
structure GA(v:ae.D)(c:aH.D)(x:aI.D)(w:ae.D):Prop where
 out:∃r t i j,l3 v.2.1 r∧bE r=0∧bd v.2.1 (bp r)=some j∧kindOf (J I v.2.1 j)≠2∧l3 v.2.1 t∧bE t=2∧nameOf t≠[]∧bd v.2.1 (cd t)=some i∧kindOf (J I v.2.1 i)=2 ∧
  (ak (J I v.2.1 i)).length<12∧w=vy v i (nameOf t) (bp r)∧fl w.2.1=0∧dv (v,c,da x,false,())=some (r,())∧dv (v,c,iN x,false,())=some (t,())
theorem ahj{v:ae.D}(hv:bz v){i:Nat}(hi:i<v.2.1.length)(hk:kindOf (J I v.2.1 i)=2)(s:aF){id:Int}(b2:(bd v.2.1 id).isSome=true):an 1000 (vy v i s id).2.1:=by
 have:=hv.st.set (k:=1) (i:=i) (y:=b0 (J I v.2.1 i) (ins (ak (J I v.2.1 i)) s id)) hi rfl (by
  intro e he
  rcases l5.1 he with he | rfl
  ·exact hv.f_ i hi e he
  ·exact b2) (fun h=>absurd hk h) (by show(ins (ak (J I v.2.1 i)) s id).length≤_;rw [xR];omega) (Nat.le_add_right _ _)
 exact this.mono (by omega)
theorem ahk(v:ae.D)(c:aH.D)(x:aI.D)(hv:bz v)(hc:c9 c=true)(hx:gM x):br v c x (E0 ((v,c,x,()),())) (Dm (v,c,x,())) (GA v c x):=by
 have b7:=hv.fP
 have hl:v.2.1.length≤1048576:=b7.len
 have au:=hx.path
 have ahl:=hx.sS
 show br v c x (Le (v,c,x,())) (JY v c x) _
 unfold Le JY
 obtain ⟨r,⟨hr,_⟩,AI,fB⟩:=Au v c x (da x) false b7 hc (by omega)
 show br v c x (Option.bind (lf ((v,c,x,()),da x,false,())) _) (Option.bind (dv (v,c,da x,false,())) _) _
 rw [AI,fB]
 simp only [av]
 show br v c x (cond (bE r != 0) (some (bE r,(v,c,x,()),())) _) (cond (bE r != 0) (some (v,(bE r,[],()),())) _) _
 by_cases b3:bE r=0
 case neg =>
  rw [cV b3]
  exact br.no (bE r) b3 rfl rfl
 rw [dt b3]
 simp only [cond_false]
 obtain ⟨j,hj⟩:=hr.there b3
 have hjl:=bT hj
 show br v c x (Option.bind (ve (v,bp r,())) _) (Option.bind (xa (v,bp r,())) _) _
 rw [Gb v _ hl,Vv v _ hl]
 simp only [av]
 cases Nr:ln v.2.1 (bp r) with
 | true=>exact br.no 1 (by decide) rfl rfl
 | false =>
 simp only [cond_false]
 have lR:kindOf (J I v.2.1 j)≠2:=by
  unfold ln at Nr
  rw [hj] at Nr
  exact beq_eq_false_iff_ne.1 Nr
 obtain ⟨t,di,code,Nn,No,Np⟩:=VU v c x (iN x) b7 hc (by omega)
 show br v c x (Option.bind (u' ((v,c,x,()),iN x,())) _) (Option.bind (qB (v,c,iN x,())) _) _
 rw [Nn,No]
 simp only [av]
 by_cases GB:code=0
 case neg =>
  rw [cV GB]
  exact br.no code GB rfl rfl
 obtain ⟨rfl,ht,Wd,htn,q_⟩:=Np GB
 rw [dt GB]
 simp only [cond_false]
 obtain ⟨o3,hQ,d,ag,eE,n3⟩:=ht.new Wd htn
 have hdl:=bT ag
 show br v c x (Option.bind (nL ((v,c,x,()),cd di,())) _) (Option.bind (e_ (v,cd di,())) _) _
 rw [AF v c x _ hl hc ag,iK v _ hl ag]
 simp only [av]
 rw [nX c _ 3 hc]
 simp only [av]
 cases hm:may c (J I v.2.1 d) 3 with
 | false=>exact br.no 13 (by decide) rfl rfl
 | true =>
 simp only [Bool.not_true,cond_false]
 show br v c x (Option.bind (fA (v,cd di,())) _) _ _
 rw [mU v _ hl ag]
 simp only [av,List.isEmpty_cons,Bool.not_false,cond_true]
 have hS:=hv.ino d hdl.1
 have V9:=(hS.dir eE).2.2.2
 show br v c x (cond (((ak (J I v.2.1 d)).length:Int)==12) _ _) (cond (decide (((ak (J I v.2.1 d)).length:Int)≥12)) _ _) _
 by_cases lP:(ak (J I v.2.1 d)).length=12
 ·rw [show(((ak (J I v.2.1 d)).length:Int)==12)=true by rw [lP];rfl,decide_eq_true (by omega)]
  exact br.no 28 (by decide) rfl rfl
 rw [show(((ak (J I v.2.1 d)).length:Int)==12)=false by rw [beq_eq_false_iff_ne];omega,decide_eq_false (show ¬((ak (J I v.2.1 d)).length:Int)≥12 by omega)]
 simp only [cond_false]
 rw [vq v hl (fun i hi=>Nat.le_trans (fI hi) b7.cC)]
 simp only [av]
 have hnl:=Nat.le_trans (fI hdl.1) b7.cC
 show br v c x (Option.bind (sv ((v,c,x,()),cd di,nameOf di,bp r,())) _) (Option.bind (r7 (v,cd di,nameOf di,bp r,())) _) _
 rw [Nj v c x _ _ _ hl ag hnl,Nl v _ _ _ hl ag hnl (AB n3 fun e he=>hv.AD hdl.1 he)]
 simp only [av]
 show br v c x (Option.bind (nM ((vy v d (nameOf di) (bp r),c,x,()),())) fun bu=>some (bu.1,(vy v d (nameOf di) (bp r),c,x,()),())) (Option.bind (qD (v,vy v d (nameOf di) (bp r),())) fun dd=>some (dd.1,dd.2.1,())) _
 have hst:=ahj hv hdl.1 eE (nameOf di) (id:=bp r) (by rw [hj];rfl)
 rw [Ay _ c x hst (by omega),Az v _ hst (by omega)]
 exact⟨_,_,rfl,rfl,fun h=>⟨r,di,d,j,hr,b3,hj,lR,ht,Wd,htn,ag,eE,by omega,rfl,h,fB,q_⟩⟩
def n4(l:List aJ):Nat→Int→Int→Bool
 | 0,_,_=>false
 | k+1,id,top=>cond (id==top) true (cond (id==1) false (n4 l k (hR l id) top))
theorem ahm(v:ae.D)(id top:Int)(hl:v.2.1.length≤1048576)(hn:dw v.2.1≤1048576):zt (v,id,top,())=some (n4 v.2.1 (v.2.1.length+1) id top,()):=by
 show Dp (uD aP) v id top=_
 unfold Dp
 have key:∀(r k m:Nat) (id:Int),k+r=v.2.1.length+1→r<m→uD m id top (k:Int) v=some (n4 v.2.1 r id top,()):=by
  intro r
  induction r with
  | zero =>
   intro k m id hk hm
   obtain ⟨m,rfl,_⟩:=fuel hm
   simp only [uD,Dq]
   rw [decide_eq_false (by omega)];rfl
  | succ r ih =>
   intro k m id hk hm
   obtain ⟨m,rfl,pt⟩:=fuel hm
   simp only [uD,Dq]
   rw [decide_eq_true (show(k:Int)≤(v.2.1.length:Int) by omega),M5 v id hl hn,df k (by omega)]
   simp only [cond_true,av]
   rw [ih (k+1) m _ (by omega) (by omega),n4]
   cases id==top <;> cases id==1 <;> rfl
 exact key (v.2.1.length+1) 0 aP id (by omega) (ju (by omega))
theorem Ns{α : Type}{f : α → Nat} : ∀ {l:List α},(∀x,x∈l→f x=0)→(l.map f).sum=0
 | [],_=>rfl
 | x :: l,h=>by
  simp only [List.map_cons,List.sum_cons]
  rw [h x List.mem_cons_self,Ns fun y aN=>h y (List.mem_cons_of_mem _ aN)]
def up(l:List aJ):Nat→Int→Int
 | 0,d=>d
 | k+1,d=>up l k (hR l d)
theorem Nt{α : Type}(f : α → Nat):∀(l:List α) (i j:Nat) (hi:i<l.length) (hj:j<l.length),i<j→f l[i]+f l[j]≤(l.map f).sum
 | [],_,_,hi,_,_=>by simp at hi
 | x :: l,i,j+1,hi,hj,iP=>by
  cases i with
  | zero =>
   simp only [List.getElem_cons_zero,List.getElem_cons_succ,List.map_cons,List.sum_cons]
   have:=F5 (f:=f) (List.getElem_mem (l:=l) (by simpa using hj:j<l.length))
   omega
  | succ i =>
   simp only [List.getElem_cons_succ,List.map_cons,List.sum_cons]
   have:=Nt f l i j (by simpa using hi) (by simpa using hj) (by omega)
   omega
theorem Nu{N:List aw.D}{id:Int} : nZ N id=true↔0<du N id:=by
 constructor
 ·intro h
  obtain ⟨j,h1,h2,_⟩:=Gc h
  unfold jT at h2
  exact List.length_pos_of_mem (List.mem_filter.2 ⟨cJ h1,h2⟩)
 ·intro h
  obtain ⟨d,ag⟩:=List.exists_mem_of_length_pos h
  obtain ⟨h1,h2⟩:=List.mem_filter.1 ag
  obtain ⟨i,hi,he⟩:=fg h1
  cases hb:nZ N id with
  | true=>rfl
  | false =>
   have:=M4 hb i hi
   unfold jT at this
   rw [he,h2] at this;cases this
theorem GC{l:List aJ}(ag:ij l){b d:Int}(h1:ck l d=1)(h:E l b d):hR l d=b:=by
 obtain ⟨i,e,hi,he,rfl⟩:=h
 obtain ⟨bR,oY⟩:=bT hi
 have hci:0<du (ak (J I l i)) e.2.1:=List.length_pos_of_mem (List.mem_filter.2 ⟨he,by simp⟩)
 unfold hR
 cases au:sM l e.2.1 with
 | none =>
  have:=kf.1 au i bR
  rw [Nu.2 hci] at this;cases this
 | some j =>
  obtain ⟨hj,ahn,_⟩:=gA.1 au
  have We:=Nu.1 ahn
  have:j=i:=by
   refine Decidable.byContradiction fun hne=>?_
   rcases Nat.lt_or_gt_of_ne hne with h | h
   ·have:=Nt (fun x=>du (ak x) e.2.1) l j i hj bR h
    rw [c6 hj] at We
    rw [c6 bR] at hci
    unfold ck at h1
    have h2:du (ak l[j]) e.2.1+du (ak l[i]) e.2.1≤(l.map fun x=>du (ak x) e.2.1).sum:=this
    omega
   ·have:=Nt (fun x=>du (ak x) e.2.1) l i j bR hj h
    rw [c6 hj] at We
    rw [c6 bR] at hci
    unfold ck at h1
    have h2:du (ak l[i]) e.2.1+du (ak l[j]) e.2.1≤(l.map fun x=>du (ak x) e.2.1).sum:=this
    omega
  subst this
  exact oY
theorem bz.Nv{v:ae.D}(h:bz v){a:Int} : ¬dP v.2.1 a 1:=by
 intro hb
 have hE:∀b,¬E v.2.1 b 1:=by
  rintro b ⟨i,d,hi,ag,he⟩
  exact((h.ino i (bT hi).1).names d ag).2.1 he
 cases hb with
 | single h=>exact hE _ h
 | tail _ h=>exact hE _ h
theorem bz.Wf{v:ae.D}(h:bz v){b d:Int}(he:E v.2.1 b d):d≠1:=by
 rintro rfl
 exact h.Nv (.single he)
theorem bz.Nw{v:ae.D}(h:bz v){d:Int}(ag:iL v.2.1 d)(h1:d≠1):ck v.2.1 d=1:=by
 obtain ⟨i,hi,hk⟩:=ag
 obtain ⟨bR,b2⟩:=bT hi
 have:=h.once i (by
  rcases Nat.eq_zero_or_pos i with h0 | h0
  ·subst h0
   exact absurd ((show(J I v.2.1 0).1=1 from h.root.1).symm.trans b2).symm h1
  ·exact h0) bR hk
 rwa [b2] at this
theorem bz.aho{v:ae.D}(h:bz v){b d:Int}(he:E v.2.1 b d):iL v.2.1 b:=by
 obtain ⟨i,e,hi,hm,_⟩:=he
 refine⟨i,hi,Decidable.byContradiction fun hk=>?_⟩
 rw [((h.ino i (bT hi).1).plain hk).2.2] at hm
 simp at hm
theorem bz.ahp{v:ae.D}(h:bz v){a d:Int}(ag:iL v.2.1 d)(h1:d≠1):dP v.2.1 a d↔a=hR v.2.1 d∨dP v.2.1 a (hR v.2.1 d):=by
 have ho:=h.Nw ag h1
 constructor
 ·intro hb
  cases hb with
  | single he=>exact .inl (GC h.fM ho he).symm
  | tail hb he=>rw [GC h.fM ho he];exact .inr hb
 ·intro hb
  have hE:E v.2.1 (hR v.2.1 d) d:=by
   cases au:sM v.2.1 d with
   | none =>
    exfalso
    have h0:=kf.1 au
    have:ck v.2.1 d=0:=by
     unfold ck
     refine Ns fun x hx=>?_
     obtain ⟨i,hi,aB⟩:=fg hx
     have:=h0 i hi
     rw [aB] at this
     refine Decidable.byContradiction fun hc=>?_
     rw [Nu.2 (by omega)] at this;cases this
    omega
   | some i =>
    obtain ⟨hi,hh,_⟩:=gA.1 au
    obtain ⟨j,hj,Wg,_⟩:=Gc hh
    unfold hR
    rw [au]
    exact⟨i,J aw (ak (J I v.2.1 i)) j,h.fM i hi,cJ hj,by unfold jT at Wg;simpa using Wg⟩
  rcases hb with rfl | hb
  ·exact .single hE
  ·exact .tail hb hE
theorem ahq{v:ae.D}(h:bz v)(top:Int):∀(n k:Nat) (d:Int),iL v.2.1 d→up v.2.1 n d=1→n<k→(n4 v.2.1 k d top=true↔d=top∨dP v.2.1 top d):=by
 intro n
 induction n with
 | zero =>
  intro k d ag hu hk
  obtain ⟨k,rfl,_⟩:=fuel hk
  have hu:d=1:=hu
  subst hu
  rw [n4]
  by_cases h1:(1:Int)=top
  ·rw [cF h1];exact⟨fun _=>.inl h1,fun _=>rfl⟩
  ·rw [b5 h1]
   exact⟨fun h=>(by cases h),fun h'=>h'.elim (fun h=>absurd h h1) fun hb=>absurd hb h.Nv⟩
 | succ n ih =>
  intro k d ag hu hk
  obtain ⟨k,rfl,en⟩:=fuel hk
  rw [n4]
  by_cases h1:d=top
  ·rw [cF h1];exact⟨fun _=>.inl h1,fun _=>rfl⟩
  ·rw [b5 h1]
   by_cases h2:d=1
   ·rw [cF h2]
    subst h2
    exact⟨fun h=>(by cases h),fun h'=>h'.elim (fun h=>absurd h h1) fun hb=>absurd hb h.Nv⟩
   ·rw [b5 h2]
    simp only [cond_false]
    rw [ih k (hR v.2.1 d) (vr h.fP _) hu (by omega),h.ahp ag h2]
    constructor
    ·rintro (h | h)
     ·exact .inr (.inl h.symm)
     ·exact .inr (.inr h)
    ·rintro (h | h | h)
     ·exact absurd h h1
     ·exact .inl h.symm
     ·exact .inr h
theorem up_add(l:List aJ)(a:Nat):∀(b:Nat) (d:Int),up l (a+b) d=up l a (up l b d)
 | 0,_=>rfl
 | b+1,d=>up_add l a b (hR l d)
theorem bz.ahr{v:ae.D}(h:bz v){d:Int}(ag:iL v.2.1 d):∃n,up v.2.1 n d=1:=by
 obtain ⟨i,hi,hk⟩:=ag
 obtain ⟨bR,b2⟩:=bT hi
 rcases Nat.eq_zero_or_pos i with h0 | h0
 ·subst h0
  exact⟨0,b2.symm.trans (show(J I v.2.1 0).1=1 from h.root.1)⟩
 ·have hb:=h.reach i h0 bR
  rw [b2] at hb
  have key:∀d,dP v.2.1 1 d→iL v.2.1 d→∃n,up v.2.1 n d=1:=by
   intro d hb
   induction hb with
   | single he =>
    intro ag
    have h1:=h.Wf he
    exact⟨1,GC h.fM (h.Nw ag h1) he⟩
   | tail hb he ih =>
    intro ag
    have h1:=h.Wf he
    obtain ⟨n,hn⟩:=ih (h.aho he)
    exact⟨n+1,by show up v.2.1 n (hR v.2.1 _)=1;rw [GC h.fM (h.Nw ag h1) he];exact hn⟩
  exact key d hb ⟨i,hi,hk⟩
theorem least{P:Nat→Prop} : ∀n,P n→∃m,P m∧∀k,k<m→¬P k:=by
 intro n
 induction n using Nat.strongRecOn with
 | _ n ih =>
  intro hn
  by_cases h:∃k,k<n∧P k
  ·obtain ⟨k,hk,au⟩:=h
   exact ih k hk au
  ·exact⟨n,hn,fun k hk au=>h ⟨k,hk,au⟩⟩
theorem Wh{v:ae.D}(h:bz v):∀(n:Nat) {d:Int},iL v.2.1 d→iL v.2.1 (up v.2.1 n d)
 | 0,_,ag=>ag
 | n+1,d,_=>Wh h n (vr h.fP d)
theorem bz.ahs{v:ae.D}(h:bz v){d:Int}(ag:iL v.2.1 d):∃n,n<v.2.1.length∧up v.2.1 n d=1:=by
 obtain ⟨aht,h0⟩:=h.ahr ag
 obtain ⟨n,hn,ahu⟩:=least (P:=fun n=>up v.2.1 n d=1) aht h0
 refine⟨n,?_,hn⟩
 have gZ:((List.range (n+1)).map fun i=>up v.2.1 i d).Nodup:=by
  unfold List.Nodup
  rw [List.pairwise_iff_getElem]
  intro i j hi hj iP he
  simp only [List.length_map,List.length_range] at hi hj
  simp only [List.getElem_map,List.getElem_range] at he
  refine ahu (n-(j-i)) (by omega) ?_
  show up v.2.1 (n-(j-i)) d=1
  rw [show n-(j-i)=(n-j)+i by omega,up_add,he,← up_add,show n-j+j=n by omega]
  exact hn
 have kV:((List.range (n+1)).map fun i=>up v.2.1 i d)⊆v.2.1.map fun x=>x.1:=by
  intro a ha
  obtain ⟨i,_,rfl⟩:=List.mem_map.1 ha
  obtain ⟨j,hj,_⟩:=Wh h i ag
  obtain ⟨h1,h2⟩:=bT hj
  exact List.mem_map.2 ⟨_,cJ h1,h2⟩
 have:=gZ.length_le_of_subset kV
 simp only [List.length_map,List.length_range] at this
 omega
theorem Wi{v:ae.D}(h:bz v){d:Int}(ag:iL v.2.1 d)(top:Int):n4 v.2.1 (v.2.1.length+1) d top=true↔d=top∨dP v.2.1 top d:=by
 obtain ⟨n,h1,h2⟩:=h.ahs ag
 exact ahq h top n _ d ag h2 (by omega)
theorem xS{N:List aw.D}(t:aF)(h:jh N):N.takeWhile (dW t)=N.filter (dW t)∧N.dropWhile (dW t)=N.filter fun d => !dW t d:=by
 induction N with
 | nil=>exact⟨rfl,rfl⟩
 | cons d r ih =>
  obtain ⟨h1,h2⟩:=List.pairwise_cons.1 h
  obtain ⟨i1,i2⟩:=ih h2
  rw [List.takeWhile_cons,List.dropWhile_cons,List.filter_cons,List.filter_cons]
  cases ag:dW t d with
  | true=>simp [i1,i2]
  | false =>
   have bS:∀e,e∈r→dW t e=false:=by
    intro e he
    have h3:=h1 e he
    cases hk:dW t e with
    | false=>rfl
    | true =>
     have:=Ar h3 hk
     unfold dW at ag
     rw [ag] at this;cases this
   have f1:r.filter (dW t)=[]:=List.filter_eq_nil_iff.2 fun e he=>by rw [bS e he];simp
   have f2:(r.filter fun d => !dW t d)=r:=List.filter_eq_self.2 fun e he=>by rw [bS e he];rfl
   simp [f1,f2]
theorem vz{N:List aw.D}(h:jh N)(s:aF):jh (cf N s):=List.Pairwise.sublist List.filter_sublist h
theorem ahv{N:List aw.D}(h:jh N){r t:aF}{id:Int}(hne:t≠r):cf (ins N t id) r=ins (cf N r) t id:=by
 unfold ins
 rw [(xS t h).1,(xS t h).2,(xS t (vz h r)).1,(xS t (vz h r)).2]
 unfold cf
 rw [List.filter_append,List.filter_append,List.filter_cons,List.filter_nil,List.filter_filter,List.filter_filter,List.filter_filter,List.filter_filter]
 have:bn t r=false:=by unfold bn;simpa using hne
 rw [this]
 simp only [Bool.not_false,if_true]
 congr 1
 ·congr 1
  exact List.filter_congr fun d _=>Bool.and_comm _ _
 ·exact List.filter_congr fun d _=>Bool.and_comm _ _
theorem Wj{N:List aw.D}(h:jh N){t:aF}{id:Int}(hn:∀d,d∈N→d.1≠t):jh (ins N t id):=by
 unfold ins
 rw [(xS t h).1,(xS t h).2]
 unfold jh
 rw [List.append_assoc,List.pairwise_append]
 refine⟨List.Pairwise.sublist List.filter_sublist h,?_,fun a ha b hb=>?_⟩
 ·rw [List.singleton_append,List.pairwise_cons]
  refine⟨fun b hb=>?_,List.Pairwise.sublist List.filter_sublist h⟩
  obtain ⟨h1,h2⟩:=List.mem_filter.1 hb
  unfold dW at h2
  rw [M8 (hn b h1)]
  exact h2
 ·obtain ⟨h1,h2⟩:=List.mem_filter.1 ha
  have h2:dy a.1 t=true:=h2
  rcases List.mem_append.1 hb with hb | hb
  ·simp only [List.mem_singleton] at hb
   subst hb;exact h2
  ·obtain ⟨h3,h4⟩:=List.mem_filter.1 hb
   unfold dW at h4
   refine Ar h2 ?_
   rw [M8 (hn b h3)]
   exact h4
theorem sU{N:List aw.D}(h:jh N){d:aw.D}(ag:d∈N):cW N d.1=d.2.1:=by
 rw [look_eq]
 induction N with
 | nil=>simp at ag
 | cons e r ih =>
  obtain ⟨h1,h2⟩:=List.pairwise_cons.1 h
  rw [AA]
  rcases List.mem_cons.1 ag with rfl | ag
  ·have:bn d.1 d.1=true:=by unfold bn;simp
   rw [this];rfl
  ·have:bn e.1 d.1=false:=by unfold bn;simpa using Gh (h1 d ag)
   rw [this]
   exact ih h2 ag
theorem ahw{N:List aw.D}{s:aF} : ∀d,d∈cf N s→d.1≠s:=by
 intro d ag
 have:=(List.mem_filter.1 ag).2
 unfold bn at this
 simpa using this
theorem sV{N:List aw.D}{s:aF}{d:aw.D}(h:d∈cf N s):d∈N:=(List.mem_filter.1 h).1
def dC(l:List aJ)(ir:Nat)(ct:aF):List aJ:=l.set ir (b0 (J I l ir) (cf (ak (J I l ir)) ct))
def hV(l:List aJ)(it:Nat)(dY:aF)(bF:Int):List aJ:=l.set it (b0 (J I l it) (ins (ak (J I l it)) dY bF))
def eP(l:List aJ)(ir:Nat)(ct:aF)(it:Nat)(dY:aF)(bF:Int):List aJ:=hV (dC l ir ct) it dY bF
structure sW(l:List aJ)(rd jC:Int)(ir it:Nat)(ct dY:aF)(bF:Int):Prop where
 st:an 1000 l
 hr:bd l rd=some ir
 ht:bd l jC=some it
 AJ:kindOf (J I l ir)=2
 Nx:kindOf (J I l it)=2
 Jy:jh (ak (J I l ir))
 ahx:jh (ak (J I l it))
 look:cW (ak (J I l ir)) ct=bF
 Wk:bF≠0
 ex:(bd l bF).isSome=true
 no:∀d,d∈ak (J I l it)→d.1≠dY
 ne:ir=it→ct≠dY
theorem sX(x:aJ)(N:List aw.D):(b0 x N).1=x.1:=rfl
theorem AK{l:List aJ}{i:Nat}(N:List aw.D)(hi:i<l.length)(id:Int):bd (l.set i (b0 (J I l i) N)) id=bd l id:=Av hi (sX _ N) id
theorem Ny{l:List aJ}{ir:Nat}{ct:aF}(hi:ir<l.length)(id:Int):bd (dC l ir ct) id=bd l id:=AK _ hi id
theorem Wl{l:List aJ}{it:Nat}{dY:aF}{bF:Int}(hi:it<l.length)(id:Int):bd (hV l it dY bF) id=bd l id:=AK _ hi id
theorem ahy{l:List aJ}{rd jC:Int}{ir it:Nat}{ct dY:aF}{bF:Int}(h:sW l rd jC ir it ct dY bF):dC (hV l it dY bF) ir ct=eP l ir ct it dY bF:=by
 have hr:=(bT h.hr).1
 have ht:=(bT h.ht).1
 unfold eP dC hV
 rw [iM ht,iM hr]
 by_cases he:it=ir
 ·subst he
  rw [if_pos rfl,if_pos rfl,List.set_set,List.set_set,hy,hy,ahv h.Jy (fun e=>h.ne rfl e.symm)]
  rfl
 ·rw [if_neg he,if_neg (fun e=>he e.symm),List.set_comm _ _ he]
theorem Wm{l:List aJ}{rd jC:Int}{ir it:Nat}{ct dY:aF}{bF:Int}(h:sW l rd jC ir it ct dY bF):an 1001 (dC l ir ct)∧an 1003 (eP l ir ct it dY bF):=by
 have hr:=(bT h.hr).1
 have ht:=(bT h.ht).1
 have h1:an 1001 (dC l ir ct):=h.st.set (k:=1) hr rfl (fun d ag=>h.st.f_ ir hr d (sV ag)) (fun hk=>absurd h.AJ hk) (Nat.le_trans (vu _ _) (by omega)) (Nat.le_add_right _ _)
 have aB:kindOf (J I (dC l ir ct) it)=2∧(J I (dC l ir ct) it).1=jC:=by
  unfold dC
  rw [iM hr]
  split
  ·rename_i he;exact⟨h.AJ,by show(J I l ir).1=jC;rw [he];exact(bT h.ht).2⟩
  ·exact⟨h.Nx,(bT h.ht).2⟩
 have hex:∀id,(bd (dC l ir ct) id).isSome=(bd l id).isSome:=fun id=>by rw [Ny hr]
 refine⟨h1,(h1.set (k:=1) (i:=it) (y:=b0 (J I (dC l ir ct) it) (ins (ak (J I (dC l ir ct) it)) dY bF)) (by unfold dC;rw [List.length_set];exact ht) rfl (fun d ag=>?_) (fun hk=>absurd aB.1 hk) (by rw [hy,xR];omega) (Nat.le_add_right _ _)).mono (by omega)⟩
 rcases l5.1 ag with ag | rfl
 ·exact h1.f_ it (by unfold dC;rw [List.length_set];exact ht) d ag
 ·rw [hex];exact h.ex
theorem ahz(m:Nat)(a b d):(jf (m+1)).oT a b d=Lj (jf m) a b d:=rfl
theorem ahA(m:Nat)(a b d e):(jf (m+1)).mI a b d e=Li (jf m) a b d e:=rfl
theorem ahB(m:Nat)(a b d e):(jf (m+1)).gj a b d e=Lh (jf m) a b d e:=rfl
theorem ahC(m:Nat)(a b d):(jf (m+1)).dj a b d=Lg (jf m) a b d:=rfl
theorem ahD(m:Nat)(a b d e f g):(gy (m+1)).mK a b d e f g=J3 (gy m) a b d e f g:=rfl
theorem ahE(m:Nat)(a b d e f g h i):(gy (m+1)).JZ a b d e f g h i=J4 (gy m) a b d e f g h i:=rfl
theorem ahF(m:Nat)(a b d e f g h i):(gy (m+1)).oI a b d e f g h i=J2 (gy m) a b d e f g h i:=rfl
theorem ahG(m:Nat)(a b d e f g h i):(gy (m+1)).gL a b d e f g h i=J1 (gy m) a b d e f g h i:=rfl
theorem ahH(m:Nat)(a b d e f g):(gy (m+1)).dj a b d e f g=J0 (gy m) a b d e f g:=rfl
theorem Wn{n:Int}{l:List aJ}(c:aH.D)(x:aI.D)(r t:aS.D){ir it:Nat}(h:sW l (cd r) (cd t) ir it (nameOf r) (nameOf t) (bp r))(m:Nat) :
  (jf (m+1)).oT ((n,l,()),c,x,()) r t=some (fl (eP l ir (nameOf r) it (nameOf t) (bp r)),((n,eP l ir (nameOf r) it (nameOf t) (bp r),()),c,x,()),()):=by
 have hr:=(bT h.hr).1
 have ht:=(bT h.ht).1
 obtain ⟨s1,s2⟩:=Wm h
 have jn:=h.st.len
 have rC:=h.st.cC
 have rI:=s1.len
 have Bt:=s1.cC
 rw [ahz]
 unfold Lj
 show Option.bind (oR (((n,l,()),c,x,()),cd r,nameOf r,false,())) _=_
 rw [Nk (n,l,()) c x _ _ false (show l.length≤1048576 by omega) (show dw l≤1048576 by omega) h.hr]
 simp only [av,cond_false]
 show Option.bind (sv (((n,dC l ir (nameOf r),()),c,x,()),cd t,nameOf t,bp r,())) _=_
 have jk:bd (dC l ir (nameOf r)) (cd t)=some it:=by rw [Ny hr];exact h.ht
 rw [Nj (n,dC l ir (nameOf r),()) c x _ _ _ (show(dC l ir (nameOf r)).length≤1048576 by omega) jk (by
  have:=fI (l:=dC l ir (nameOf r)) (i:=it) (bT jk).1
  show(ak (J I (dC l ir (nameOf r)) it)).length≤_
  omega)]
 simp only [av]
 show Option.bind (nM (((n,eP l ir (nameOf r) it (nameOf t) (bp r),()),c,x,()),())) (fun v3=>some (v3.1,((n,eP l ir (nameOf r) it (nameOf t) (bp r),()),c,x,()),()))=_
 rw [Ay (n,eP l ir (nameOf r) it (nameOf t) (bp r),()) c x s2 (by omega)];rfl
theorem Wo{n:Int}{l:List aJ}(v:ae.D)(z:ae.D)(jK:aL.D)(r t:aS.D){ir it:Nat}(h:sW l (cd r) (cd t) ir it (nameOf r) (nameOf t) (bp r))(m:Nat) :
  (gy (m+1)).mK v z jK r t (n,l,())=some (cond (fl (eP l ir (nameOf r) it (nameOf t) (bp r))==0) (n,eP l ir (nameOf r) it (nameOf t) (bp r),()) v,(fl (eP l ir (nameOf r) it (nameOf t) (bp r)),[],()),()):=by
 have hr:=(bT h.hr).1
 have ht:=(bT h.ht).1
 obtain ⟨s1,s2⟩:=Wm h
 have jn:=h.st.len
 have rC:=h.st.cC
 have rI:=fI ht
 rw [ahD]
 unfold J3
 show Option.bind (r7 ((n,l,()),cd t,nameOf t,bp r,())) _=_
 rw [Nl (n,l,()) _ _ _ (show l.length≤1048576 by omega) h.ht (show(ak (J I l it)).length≤1048576 by omega) h.no]
 simp only [av]
 show Option.bind (nE ((n,hV l it (nameOf t) (bp r),()),cd r,nameOf r,())) _=_
 have n5:J I (hV l it (nameOf t) (bp r)) ir=if it=ir then b0 (J I l it) (ins (ak (J I l it)) (nameOf t) (bp r)) else J I l ir:=by unfold hV;rw [iM ht]
 have Wp:jh (ak (J I (hV l it (nameOf t) (bp r)) ir)):=by
  rw [n5]
  split
  ·rw [hy];exact Wj h.ahx h.no
  ·exact h.Jy
 have bR:bd (hV l it (nameOf t) (bp r)) (cd r)=some ir:=by rw [Wl ht];exact h.hr
 have AL:(hV l it (nameOf t) (bp r)).length≤1048576:=by unfold hV;rw [List.length_set];omega
 have ahI:dw (hV l it (nameOf t) (bp r))≤1048576:=by
  have:=Gp (l:=l) (y:=b0 (J I l it) (ins (ak (J I l it)) (nameOf t) (bp r))) ht
  rw [hy,xR] at this
  unfold hV;omega
 rw [Gv (n,hV l it (nameOf t) (bp r),()) _ _ AL ahI bR Wp]
 have n3:cW (ak (J I (hV l it (nameOf t) (bp r)) ir)) (nameOf r)=bp r:=by
  obtain ⟨e,he,q6,k4⟩:=mX (N:=ak (J I l ir)) (s:=nameOf r) (by rw [h.look];exact h.Wk)
  have ahJ:e∈ak (J I (hV l it (nameOf t) (bp r)) ir):=by
   rw [n5]
   split
   ·rename_i hh;rw [hy,hh];exact l5.2 (.inl he)
   ·exact he
  have:=sU Wp ahJ
  rw [q6,k4,h.look] at this
  exact this
 rw [show((n,hV l it (nameOf t) (bp r),()):ae.D).2.1=hV l it (nameOf t) (bp r) from rfl,n3]
 have m1:goN ((hV l it (nameOf t) (bp r)).set ir (b0 (J I (hV l it (nameOf t) (bp r)) ir) (cf (ak (J I (hV l it (nameOf t) (bp r)) ir)) (nameOf r)))) (bp r)=eP l ir (nameOf r) it (nameOf t) (bp r):=by
  have hc:=ahy h
  unfold dC at hc
  rw [hc]
  unfold goN
  rw [decide_eq_false];rfl
  intro h0
  have dR:it<(dC l ir (nameOf r)).length:=by unfold dC;rw [List.length_set];exact ht
  have jt:J I (eP l ir (nameOf r) it (nameOf t) (bp r)) it∈eP l ir (nameOf r) it (nameOf t) (bp r):=cJ (by unfold eP hV;rw [List.length_set];exact dR)
  refine Gs h0 _ jt (nameOf t,bp r,()) ?_ rfl
  unfold eP hV
  rw [iM dR,if_pos rfl,hy]
  exact l5.2 (.inr rfl)
 rw [m1]
 simp only [av]
 show Option.bind (qD (v,(n,eP l ir (nameOf r) it (nameOf t) (bp r),()),())) _=_
 rw [Az v (n,eP l ir (nameOf r) it (nameOf t) (bp r),()) s2 (by omega)];rfl
def Nz(c:aH.D)(d n m:aJ):Int :=
 cond (!nY c d m) 1 (cond (kindOf n==2) (cond (kindOf m != 2) 20 (cond (decide (((ak m).length:Int)>0)) 39 0)) (cond (kindOf m==2) 21 0))
theorem ahK(v:ae.D)(c:aH.D)(x:aI.D)(n:aJ)(t:aS.D)(hl:v.2.1.length≤1048576)(hc:c9 c=true){i j:Nat}(hi:bd v.2.1 (cd t)=some i)(hj:bd v.2.1 (bp t)=some j) :
  E1 ((v,c,x,()),n,t,())=some (Nz c (J I v.2.1 i) n (J I v.2.1 j),()):=by
 show Lf (v,c,x,()) n t=_
 unfold Lf Nz
 rw [k7]
 show Option.bind (fA (v,bp t,())) _=_
 rw [mU v _ hl hj]
 simp only [av,List.isEmpty_cons,Bool.not_false,cond_true]
 show Option.bind (fA (v,cd t,())) _=_
 rw [mU v _ hl hi]
 simp only [av,List.isEmpty_cons,Bool.not_false,cond_true]
 show Option.bind (sw (c,J I v.2.1 i,J I v.2.1 j,())) _=_
 rw [M0 c _ _ hc]
 simp only [av]
 show cond (!nY c (J I v.2.1 i) (J I v.2.1 j)) _ (cond (kindOf n==2) (cond (!(kindOf (J I v.2.1 j)==2)) _ (cond (kindOf n==2) (cond (decide (((ak (J I v.2.1 j)).length:Int)>0)) _ (cond (!(kindOf n==2)) (cond (kindOf (J I v.2.1 j)==2) _ _) _)) _)) (cond (kindOf n==2) _ (cond (!(kindOf n==2)) (cond (kindOf (J I v.2.1 j)==2) _ _) _)))=_
 unfold bne
 cases nY c (J I v.2.1 i) (J I v.2.1 j) <;> cases kindOf n==2 <;> cases kindOf (J I v.2.1 j)==2 <;> cases decide (((ak (J I v.2.1 j)).length:Int)>0) <;> rfl
structure xT(v:ae.D)(c:aH.D)(x:aI.D)(w:ae.D):Prop where
 out:∃r t j,l3 v.2.1 r∧bE r=0∧nameOf r≠[]∧bd v.2.1 (bp r)=some j∧l3 v.2.1 t∧nameOf t≠[]∧(bE t=0∨bE t=2)∧(dv (v,c,da x,false,())=some (r,())∧dv (v,c,iN x,false,())=some (t,())) ∧
  (bp t=bp r∧w=v∨bp t≠bp r∧(kindOf (J I v.2.1 j)=2→cd t≠bp r∧¬dP v.2.1 (bp r) (cd t)) ∧
   ∃l ir it,sW l (cd r) (cd t) ir it (nameOf r) (nameOf t) (bp r)∧w=(v.1,eP l ir (nameOf r) it (nameOf t) (bp r),())∧fl w.2.1=0 ∧
    ((bp t=0∧l=v.2.1∧(cd r≠cd t→(ak (J I l it)).length<12)) ∨
     (∃i2 eY,bd v.2.1 (cd t)=some i2∧kindOf (J I v.2.1 i2)=2∧bd v.2.1 (bp t)=some eY∧ak (J I v.2.1 eY)=[]∧cW (ak (J I v.2.1 i2)) (nameOf t)=bp t∧(kindOf (J I v.2.1 j)=2↔kindOf (J I v.2.1 eY)=2)∧l=(hU v i2 (nameOf t)).2.1)))
theorem Wq{v:ae.D}(hv:bz v){i2:Nat}(hi:i2<v.2.1.length)(hk:kindOf (J I v.2.1 i2)=2)(s:aF):an 1000 (hU v i2 s).2.1 ∧
  ∀id,id≠cW (ak (J I v.2.1 i2)) s→∀k,bd v.2.1 id=some k→∃k',bd (hU v i2 s).2.1 id=some k'∧J I (hU v i2 s).2.1 k'=if i2=k then b0 (J I v.2.1 i2) (cf (ak (J I v.2.1 i2)) s) else J I v.2.1 k:=by
 have hs1:an 1000 (v.2.1.set i2 (b0 (J I v.2.1 i2) (cf (ak (J I v.2.1 i2)) s))):=(hv.st.set (k:=0) (y:=b0 (J I v.2.1 i2) (cf (ak (J I v.2.1 i2)) s)) hi rfl (fun d ag=>hv.f_ i2 hi d (sV ag)) (fun h=>absurd hk h) (vu _ _) (Nat.le_refl _)).mono (by omega)
 refine⟨hs1.go _,fun id hne k b2=>?_⟩
 obtain ⟨n_,gW⟩:=bT b2
 show ∃k',bd (goN (v.2.1.set i2 (b0 (J I v.2.1 i2) (cf (ak (J I v.2.1 i2)) s))) (cW (ak (J I v.2.1 i2)) s)) id=some k'∧J I (goN (v.2.1.set i2 (b0 (J I v.2.1 i2) (cf (ak (J I v.2.1 i2)) s))) (cW (ak (J I v.2.1 i2)) s)) k'=_
 have aB:J I (v.2.1.set i2 (b0 (J I v.2.1 i2) (cf (ak (J I v.2.1 i2)) s))) k=if i2=k then b0 (J I v.2.1 i2) (cf (ak (J I v.2.1 i2)) s) else J I v.2.1 k:=iM hi
 have NA:bd (v.2.1.set i2 (b0 (J I v.2.1 i2) (cf (ak (J I v.2.1 i2)) s))) id=some k:=by rw [AK _ hi];exact b2
 rw [← aB]
 generalize v.2.1.set i2 (b0 (J I v.2.1 i2) (cf (ak (J I v.2.1 i2)) s))=dS at hs1 NA
 generalize cW (ak (J I v.2.1 i2)) s=gone at hne
 have m1:=hs1.go gone
 unfold goN at m1 ⊢
 by_cases h0:ck dS gone=0
 ·rw [decide_eq_true h0] at m1 ⊢
  simp only [cond_true] at m1 ⊢
  obtain ⟨h1,h2⟩:=bT NA
  have hm:J I dS k∈dS.filter fun y => !(y.1==gone):=List.mem_filter.2 ⟨cJ h1,by rw [h2,Bool.not_eq_true',beq_eq_false_iff_ne];exact hne⟩
  obtain ⟨k',en,he⟩:=fg hm
  refine⟨k',?_,he⟩
  have:=m1.fM k' en
  rwa [he,h2] at this
 ·rw [decide_eq_false h0]
  exact⟨k,NA,rfl⟩
theorem ahL(v:ae.D)(c:aH.D)(x:aI.D)(hv:bz v)(hc:c9 c=true)(hx:gM x):br v c x (E3 ((v,c,x,()),())) (Ds (v,c,x,())) (xT v c x):=by
 have b7:=hv.fP
 have hl:v.2.1.length≤1048576:=b7.len
 have au:=hx.path
 have ahl:=hx.sS
 obtain ⟨q,hq,h9⟩:=iI 6
 show br v c x (E2 (jf aP) (v,c,x,())) (Dr (gy aP) v c x) _
 unfold E2 Dr
 obtain ⟨r,⟨hr,_⟩,AI,fB⟩:=Au v c x (da x) false b7 hc (by omega)
 show br v c x (Option.bind (lf ((v,c,x,()),da x,false,())) _) (Option.bind (dv (v,c,da x,false,())) _) _
 rw [AI,fB]
 simp only [av]
 show br v c x (cond (bE r != 0) (some (bE r,(v,c,x,()),())) _) (cond (bE r != 0) (some (v,(bE r,[],()),())) _) _
 by_cases b3:bE r=0
 case neg =>
  rw [cV b3]
  exact br.no (bE r) b3 rfl rfl
 rw [dt b3]
 simp only [cond_false]
 obtain ⟨t,⟨ht,_⟩,ahM,GD⟩:=Au v c x (iN x) false b7 hc (by omega)
 show br v c x (Option.bind (lf ((v,c,x,()),iN x,false,())) _) (Option.bind (dv (v,c,iN x,false,())) _) _
 rw [ahM,GD]
 simp only [av]
 show br v c x (cond (bE t != 0) (cond (bE t != 2) (some (bE t,(v,c,x,()),())) (cond (bn (nameOf t) []) (some (bE t,(v,c,x,()),())) ((jf aP).dj (v,c,x,()) r t))) ((jf aP).dj (v,c,x,()) r t))
  (cond (bE t != 0) (cond (bE t != 2) (some (v,(bE t,[],()),())) (cond (bn (nameOf t) []) (some (v,(bE t,[],()),())) ((gy aP).dj v c (0,([]:List I.D),()) (0,([]:aF),()) r t))) ((gy aP).dj v c (0,([]:List I.D),()) (0,([]:aF),()) r t)) _
 by_cases kk:bE t≠0∧(bE t≠2∨nameOf t=[])
 ·rw [cV kk.1]
  by_cases h2:bE t=2
  ·have hQ:nameOf t=[]:=kk.2.elim (fun h=>absurd h2 h) id
   rw [dt h2,m0.2 hQ]
   exact br.no (bE t) kk.1 rfl rfl
  ·rw [cV h2]
   exact br.no (bE t) kk.1 rfl rfl
 have NB:bE t=0∨bE t=2:=by
  by_cases h0:bE t=0
  ·exact .inl h0
  ·exact .inr (Decidable.byContradiction fun h=>kk ⟨h0,.inl h⟩)
 have ns:∀ {α : Type} (a b : α),cond (bE t != 0) (cond (bE t != 2) a (cond (bn (nameOf t) []) a b)) b=b:=by
  intro α a b
  by_cases h0:bE t=0
  ·rw [dt h0];rfl
  ·rw [cV h0]
   have h2:bE t=2:=Decidable.byContradiction fun h=>kk ⟨h0,.inl h⟩
   rw [dt h2]
   have hQ:bn (nameOf t) []=false:=by
    rw [← Bool.not_eq_true,m0]
    exact fun h=>kk ⟨h0,.inr h⟩
   rw [hQ];rfl
 rw [ns,ns,hq,ahC,ahH]
 unfold Lg J0
 show br v c x (cond (bn (nameOf r) []) _ (cond (bn (nameOf t) []) _ _)) (cond (bn (nameOf r) []) _ (cond (bn (nameOf t) []) _ _)) _
 cases Wr:bn (nameOf r) [] with
 | true=>exact br.no 16 (by decide) rfl rfl
 | false =>
 cases Ws:bn (nameOf t) [] with
 | true=>exact br.no 16 (by decide) rfl rfl
 | false =>
 simp only [cond_false,k7]
 have p3:nameOf r≠[]:=fun h=>by rw [m0.2 h] at Wr;cases Wr
 have htn:nameOf t≠[]:=fun h=>by rw [m0.2 h] at Ws;cases Ws
 obtain ⟨j,hj⟩:=hr.there b3
 have hjl:=bT hj
 obtain ⟨o3,alB,h6,o4,Wt,vA⟩:=hr.named b3 p3
 have ahN:=bT o4
 obtain ⟨gk,kl,sY,AM,q'⟩:∃d,bd v.2.1 (cd t)=some d∧kindOf (J I v.2.1 d)=2∧cW (ak (J I v.2.1 d)) (nameOf t)=bp t∧(bp t=0∨∃eY,bd v.2.1 (bp t)=some eY):=by
  by_cases h0:bE t=0
  ·obtain ⟨a1,a2,d,a3,a4,a5⟩:=ht.named h0 htn
   exact⟨d,a3,a4,a5,.inr (ht.there h0)⟩
  ·have h2:bE t=2:=Decidable.byContradiction fun h=>kk ⟨h0,.inl h⟩
   obtain ⟨a1,a2,d,a3,a4,a5⟩:=ht.new h2 htn
   exact⟨d,a3,a4,by rw [a5,a1],.inl a1⟩
 have NC:=bT kl
 show br v c x (Option.bind (fA (v,bp r,())) _) (Option.bind (e_ (v,cd r,())) fun v1=>Option.bind (e_ (v,cd t,())) fun v2=>Option.bind (e_ (v,bp r,())) _) _
 rw [mU v _ hl hj,iK v _ hl o4,iK v _ hl kl,iK v _ hl hj]
 simp only [av,List.isEmpty_cons,Bool.not_false,cond_true]
 rw [ahB]
 unfold Lh
 show br v c x (Option.bind (nL ((v,c,x,()),cd r,())) fun v1=>cond (!v1.1) _ (Option.bind (nL ((v,c,x,()),cd t,())) _)) _ _
 rw [AF v c x _ hl hc o4,AF v c x _ hl hc kl,nX c _ 3 hc,nX c _ 3 hc]
 simp only [av]
 cases may c (J I v.2.1 h6) 3 with
 | false=>exact br.no 13 (by decide) rfl rfl
 | true =>
 simp only [Bool.not_true,cond_false]
 cases may c (J I v.2.1 gk) 3 with
 | false=>exact br.no 13 (by decide) rfl rfl
 | true =>
 simp only [Bool.not_true,cond_false]
 show br v c x (Option.bind (fA (v,cd r,())) _) _ _
 rw [mU v _ hl o4]
 simp only [av,List.isEmpty_cons,Bool.not_false,cond_true]
 show br v c x (Option.bind (sw (c,J I v.2.1 h6,J I v.2.1 j,())) _) _ _
 rw [M0 c _ _ hc,F_ c _ _ hc]
 simp only [av]
 cases nY c (J I v.2.1 h6) (J I v.2.1 j) with
 | false=>exact br.no 1 (by decide) rfl rfl
 | true =>
 simp only [Bool.not_true,cond_false]
 obtain ⟨out,ND,ahO⟩:=MS v hl b7.cC (bp r)
 have ahP:=ahm v (cd t) (bp r) hl b7.cC
 have ahQ:∀(K:Option (Int×aK.D×Unit)),cond ((J I v.2.1 j).2.1==2) (cond (t.1==r.2.2.1) (some (22,(v,c,x,()),())) (Option.bind (uW (v,r.2.2.1,())) fun v5=>Option.bind (sj (v5.1,t.1,())) fun v6=>cond v6.1 (some (22,(v,c,x,()),())) K)) K =
   cond (kindOf (J I v.2.1 j)==2&&n4 v.2.1 (v.2.1.length+1) (cd t) (bp r)) (some (22,(v,c,x,()),())) K:=by
  intro K
  show cond (kindOf (J I v.2.1 j)==2) (cond (cd t==bp r) (some (22,(v,c,x,()),())) (Option.bind (uW (v,bp r,())) fun v5=>Option.bind (sj (v5.1,cd t,())) fun v6=>cond v6.1 (some (22,(v,c,x,()),())) K)) K=_
  cases kindOf (J I v.2.1 j)==2
  ·rfl
  ·simp only [cond_true,Bool.true_and]
   have oY:=Wi hv (d:=cd t) ⟨gk,kl,sY⟩ (bp r)
   rw [ahO]
   simp only [av]
   rw [contains_eq _ _ (by
    have:=ND.len
    have:=b7.cC
    omega)]
   simp only [av]
   by_cases h1:cd t=bp r
   ·rw [cF h1,oY.2 (.inl h1)];rfl
   ·rw [b5 h1]
    simp only [cond_false]
    by_cases hb:dP v.2.1 (bp r) (cd t)
    ·rw [oY.2 (.inr hb),decide_eq_true ((ND.iff _).2 hb)]
    ·have:n4 v.2.1 (v.2.1.length+1) (cd t) (bp r)=false:=by
      rw [← Bool.not_eq_true];exact fun h=>(oY.1 h).elim h1 hb
     rw [this,decide_eq_false (fun h=>hb ((ND.iff _).1 h))]
 have ahR:∀(K:Option (ae.D×aL.D×Unit)),cond ((J I v.2.1 j).2.1==2) (Option.bind (zt (v,t.1,r.2.2.1,())) fun bu=>cond bu.1 (some (v,(22,[],()),())) K) K =
   cond (kindOf (J I v.2.1 j)==2&&n4 v.2.1 (v.2.1.length+1) (cd t) (bp r)) (some (v,(22,[],()),())) K:=by
  intro K
  show cond (kindOf (J I v.2.1 j)==2) (Option.bind (zt (v,cd t,bp r,())) _) K=_
  rw [ahP]
  cases kindOf (J I v.2.1 j)==2 <;> rfl
 rw [mY]
 rw [ahQ,ahR]
 cases q8:kindOf (J I v.2.1 j)==2&&n4 v.2.1 (v.2.1.length+1) (cd t) (bp r) with
 | true=>exact br.no 22 (by decide) rfl rfl
 | false =>
 simp only [cond_false]
 have mq:kindOf (J I v.2.1 j)=2→cd t≠bp r∧¬dP v.2.1 (bp r) (cd t):=by
  intro hk
  rw [cF hk,Bool.true_and] at q8
  have oY:=Wi hv (d:=cd t) ⟨gk,kl,sY⟩ (bp r)
  exact⟨fun h=>(by rw [oY.2 (.inl h)] at q8;cases q8),fun h=>(by rw [oY.2 (.inr h)] at q8;cases q8)⟩
 rw [ahA,ahG]
 unfold Li J1
 rw [vq v hl (fun i hi=>Nat.le_trans (fI hi) b7.cC)]
 simp only [av]
 show br v c x (cond (bp t==bp r) (some (0,(v,c,x,()),())) (cond (!(bp t==0)) (Option.bind (E1 ((v,c,x,()),J I v.2.1 j,t,())) fun v1=>cond (v1.1 != 0) (some (v1.1,(v,c,x,()),())) (Option.bind (oR ((v,c,x,()),cd t,nameOf t,true,())) fun v2=>(jf (q+3)).oT v2.1 r t))
   (cond (!(cd r==cd t)) (Option.bind (fA (v,cd t,())) fun v3=>cond (!List.isEmpty v3.1) (cond (((ak (J I v3.1 0)).length:Int)==12) (some (28,(v,c,x,()),())) ((jf (q+3)).oT (v,c,x,()) r t)) none) ((jf (q+3)).oT (v,c,x,()) r t))))
  (cond (decide (bp t>0)) (cond (bp t==bp r) (some (v,(0,[],()),())) (Option.bind (e_ (v,bp t,())) fun v2=>Option.bind (w8 (c,J I v.2.1 gk,v2.1,())) fun v3=>cond (!v3.1) (some (v,(1,[],()),())) (cond (kindOf (J I v.2.1 j)==2) (cond (kindOf v2.1 != 2) (some (v,(20,[],()),())) ((gy (q+4)).oI v (0,([]:List I.D),()) (0,([]:aF),()) r t (J I v.2.1 j) v v2.1)) ((gy (q+4)).oI v (0,([]:List I.D),()) (0,([]:aF),()) r t (J I v.2.1 j) v v2.1))))
   (cond (!(cd r==cd t)) (cond (decide (((ak (J I v.2.1 gk)).length:Int)≥12)) (some (v,(28,[],()),())) ((gy (q+4)).mK v (0,([]:List I.D),()) (0,([]:aF),()) r t v)) ((gy (q+4)).mK v (0,([]:List I.D),()) (0,([]:aF),()) r t v))) _
 have alC:0<bp r:=by
  have h1:=hv.ids j hjl.1
  have h2:aX (J I v.2.1 j)=bp r:=hjl.2
  omega
 have Wu:=hv.ino h6 ahN.1
 have lV:=hv.ino gk NC.1
 by_cases lO:bp t=bp r
 ·rw [cF lO,decide_eq_true (show bp t>0 by omega)]
  exact⟨0,v,rfl,rfl,fun _=>⟨r,t,j,hr,b3,p3,hj,ht,htn,NB,⟨fB,GD⟩,.inl ⟨lO,rfl⟩⟩⟩
 rw [b5 lO]
 simp only [cond_false]
 have hne:h6=gk→nameOf r≠nameOf t:=by
  rintro rfl he
  rw [he,AM] at vA
  exact lO vA
 by_cases pn:bp t=0
 ·
  rw [cF pn,decide_eq_false (show ¬bp t>0 by omega)]
  simp only [Bool.not_true,cond_false]
  have hpre:sW v.2.1 (cd r) (cd t) h6 gk (nameOf r) (nameOf t) (bp r) :=
   ⟨hv.st.mono (by omega),o4,kl,Wt,sY,Wu.sorted,lV.sorted,vA,by omega,by rw [hj];rfl,AB (by rw [AM,pn]) fun e he=>hv.AD NC.1 he,hne⟩
  have hfin:(cd r≠cd t→(ak (J I v.2.1 gk)).length<12)→br v c x ((jf (q+3)).oT (v,c,x,()) r t) ((gy (q+4)).mK v (0,([]:List I.D),()) (0,([]:aF),()) r t v) (xT v c x):=by
   intro cz
   have h1:=Wn (n:=v.1) c x r t hpre (q+2)
   have h2:=Wo (n:=v.1) v (0,([]:List I.D),()) (0,([]:aF),()) r t hpre (q+3)
   exact⟨_,_,h1,h2,fun h=>⟨r,t,j,hr,b3,p3,hj,ht,htn,NB,⟨fB,GD⟩,.inr ⟨lO,mq,v.2.1,h6,gk,hpre,rfl,h,.inl ⟨pn,rfl,cz⟩⟩⟩⟩
  by_cases NF:cd r=cd t
  ·rw [cF NF]
   exact hfin fun h=>absurd NF h
  ·rw [b5 NF]
   simp only [Bool.not_false,cond_true]
   rw [mU v _ hl kl]
   simp only [av,List.isEmpty_cons,Bool.not_false,cond_true]
   show br v c x (cond (((ak (J I v.2.1 gk)).length:Int)==12) _ _) _ _
   have V9:=(lV.dir sY).2.2.2
   by_cases lP:(ak (J I v.2.1 gk)).length=12
   ·rw [show(((ak (J I v.2.1 gk)).length:Int)==12)=true by rw [lP];rfl,decide_eq_true (by omega)]
    exact br.no 28 (by decide) rfl rfl
   ·rw [show(((ak (J I v.2.1 gk)).length:Int)==12)=false by rw [beq_eq_false_iff_ne];omega,decide_eq_false (show ¬((ak (J I v.2.1 gk)).length:Int)≥12 by omega)]
    exact hfin fun _=>by omega
 ·
  obtain ⟨eY,kA⟩:=q'.resolve_left pn
  have NG:=bT kA
  have pY:0<bp t:=by
   have h1:=hv.ids eY NG.1
   have h2:aX (J I v.2.1 eY)=bp t:=NG.2
   omega
  rw [b5 pn,decide_eq_true (show bp t>0 from pY)]
  simp only [Bool.not_false,cond_true]
  rw [ahK v c x _ t hl hc kl kA,iK v _ hl kA]
  simp only [av]
  rw [F_ c _ _ hc]
  simp only [av]
  unfold Nz
  cases nY c (J I v.2.1 gk) (J I v.2.1 eY) with
  | false=>exact br.no 1 (by decide) rfl rfl
  | true =>
  simp only [Bool.not_true,cond_false]
  have ahS:(gy (q+4)).oI v (0,([]:List I.D),()) (0,([]:aF),()) r t (J I v.2.1 j) v (J I v.2.1 eY)=cond (kindOf (J I v.2.1 j)==2) (cond (decide (((ak (J I v.2.1 eY)).length:Int)>0)) (some (v,(39,[],()),())) (Option.bind (nE (v,cd t,nameOf t,())) fun v2=>(gy (q+2)).mK v (0,([]:List I.D),()) (0,([]:aF),()) r t v2.1))
    (cond (kindOf (J I v.2.1 eY)==2) (some (v,(21,[],()),())) (Option.bind (nE (v,cd t,nameOf t,())) fun v2=>(gy (q+2)).mK v (0,([]:List I.D),()) (0,([]:aF),()) r t v2.1)):=by
   rw [ahF]
   unfold J2
   rw [ahE]
   unfold J4
   show cond (kindOf (J I v.2.1 j)==2) (cond (decide (((ak (J I v.2.1 eY)).length:Int)>0)) _ (cond (!(kindOf (J I v.2.1 j)==2)) (cond (kindOf (J I v.2.1 eY)==2) _ _) _)) (cond (!(kindOf (J I v.2.1 j)==2)) (cond (kindOf (J I v.2.1 eY)==2) _ _) _)=_
   cases kindOf (J I v.2.1 j)==2 <;> rfl
  rw [ahS]
  have hfin:ak (J I v.2.1 eY)=[]→(kindOf (J I v.2.1 j)=2↔kindOf (J I v.2.1 eY)=2)→br v c x (Option.bind (oR ((v,c,x,()),cd t,nameOf t,true,())) fun v2=>(jf (q+3)).oT v2.1 r t) (Option.bind (nE (v,cd t,nameOf t,())) fun v2=>(gy (q+2)).mK v (0,([]:List I.D),()) (0,([]:aF),()) r t v2.1) (xT v c x):=by
   intro nd hkk
   rw [Nk v c x _ _ true hl b7.cC kl,Gv v _ _ hl b7.cC kl lV.sorted]
   simp only [av,cond_true]
   obtain ⟨hst,GF⟩:=Wq hv NC.1 sY (nameOf t)
   rw [AM] at GF
   have ahT:cd r≠bp t:=by
    intro he
    rw [he,kA] at o4
    have:eY=h6:=aT o4
    subst this
    obtain ⟨e,h1,_,_⟩:=mX (N:=ak (J I v.2.1 eY)) (s:=nameOf r) (by rw [vA];exact o3)
    rw [nd] at h1;simp at h1
   have ahU:cd t≠bp t:=by
    intro he
    rw [he,kA] at kl
    have:eY=gk:=aT kl
    subst this
    obtain ⟨e,h1,_,_⟩:=mX (N:=ak (J I v.2.1 eY)) (s:=nameOf t) (by rw [AM];exact pn)
    rw [nd] at h1;simp at h1
   obtain ⟨ir,Wv,n5⟩:=GF _ ahT _ o4
   obtain ⟨it,jk,p5⟩:=GF _ ahU _ kl
   obtain ⟨alD,iP,_⟩:=GF _ (Ne.symm lO) _ hj
   rw [if_pos rfl] at p5
   have ahV:ir=it→h6=gk:=by
    rintro rfl
    have h1:=(bT Wv).2
    have h2:=(bT jk).2
    rw [h1] at h2
    rw [h2,kl] at o4
    exact(aT o4).symm
   have hpre:sW (hU v gk (nameOf t)).2.1 (cd r) (cd t) ir it (nameOf r) (nameOf t) (bp r):=by
    refine⟨hst,Wv,jk,?_,?_,?_,?_,?_,by omega,by rw [iP];rfl,?_,fun e=>hne (ahV e)⟩
    ·rw [n5];split
     ·exact sY
     ·exact Wt
    ·rw [p5];exact sY
    ·rw [n5];split
     ·rw [hy];exact vz lV.sorted _
     ·exact Wu.sorted
    ·rw [p5,hy];exact vz lV.sorted _
    ·rw [n5];split
     ·rename_i he
      subst he
      rw [hy]
      obtain ⟨e,h1,h2,h3⟩:=mX (N:=ak (J I v.2.1 gk)) (s:=nameOf r) (by rw [vA];exact o3)
      have hm:e∈cf (ak (J I v.2.1 gk)) (nameOf t):=List.mem_filter.2 ⟨h1,by unfold bn;rw [h2];simpa using hne rfl⟩
      have:=sU (vz lV.sorted (nameOf t)) hm
      rw [h2,h3,vA] at this
      exact this
     ·exact vA
    ·rw [p5,hy];exact ahw
   show br v c x ((jf (q+3)).oT ((v.1,(hU v gk (nameOf t)).2.1,()),c,x,()) r t) ((gy (q+2)).mK v (0,([]:List I.D),()) (0,([]:aF),()) r t (v.1,(hU v gk (nameOf t)).2.1,())) _
   have h1:=Wn (n:=v.1) c x r t hpre (q+2)
   have h2:=Wo (n:=v.1) v (0,([]:List I.D),()) (0,([]:aF),()) r t hpre (q+1)
   exact⟨_,_,h1,h2,fun h=>⟨r,t,j,hr,b3,p3,hj,ht,htn,NB,⟨fB,GD⟩,.inr ⟨lO,mq,_,ir,it,hpre,rfl,h,.inr ⟨gk,eY,kl,sY,kA,nd,AM,hkk,rfl⟩⟩⟩⟩
  by_cases hk:kindOf (J I v.2.1 j)=2
  ·rw [cF hk]
   simp only [cond_true]
   by_cases hk2:kindOf (J I v.2.1 eY)=2
   ·rw [dt hk2]
    simp only [cond_false]
    by_cases nd:ak (J I v.2.1 eY)=[]
    ·rw [nd,show decide ((([]:List aw.D).length:Int)>0)=false from rfl]
     exact hfin nd ⟨fun _=>hk2,fun _=>hk⟩
    ·have ahi:0<(ak (J I v.2.1 eY)).length:=List.length_pos_iff.2 nd
     rw [decide_eq_true (by omega)]
     exact br.no 39 (by decide) rfl rfl
   ·rw [cV hk2]
    exact br.no 20 (by decide) rfl rfl
  ·rw [b5 hk]
   simp only [cond_false]
   by_cases hk2:kindOf (J I v.2.1 eY)=2
   ·rw [cF hk2]
    exact br.no 21 (by decide) rfl rfl
   ·rw [b5 hk2]
    exact hfin ((hv.ino eY NG.1).plain hk2).2.2 ⟨fun h=>absurd h hk,fun h=>absurd h hk2⟩
theorem sZ(v:ae.D)(c:aH.D)(x:aI.D)(bA:Bool)(hw:n0 v.2.1)(hc:c9 c=true)(au:(da x).length≤1048576) :
  ∃r,sO bA v.2.1 r∧dv (v,c,da x,bA,())=some (r,())∧(bE r≠0→mN ((v,c,x,()),bA,())=some (-1,bE r,(v,c,x,()),())) ∧
   (bE r=0→∃i,bd v.2.1 (bp r)=some i∧mN ((v,c,x,()),bA,())=some ((i:Int),0,(v,c,x,()),())):=by
 obtain ⟨r,h1,h2,h3⟩:=Au v c x (da x) bA hw hc au
 have e5:mN ((v,c,x,()),bA,())=cond (bE r != 0) (some (-1,bE r,(v,c,x,()),())) (Option.bind (xj (v,bp r,())) fun v2=>some (v2.1,0,(v2.2.1,c,x,()),())):=by
  show Lk (v,c,x,()) bA=_
  unfold Lk
  show Option.bind (lf ((v,c,x,()),da x,bA,())) _=_
  rw [h2];rfl
 refine⟨r,h1,h3,fun h0=>by rw [e5,cV h0];rfl,fun h0=>?_⟩
 obtain ⟨i,hi⟩:=h1.1.there h0
 refine⟨i,hi,?_⟩
 rw [e5,dt h0,M1 v _ hw.len,hi];rfl
def gN(n:Nat):aF:=List.replicate n 0
def kM(s:aF)(n:Nat):aF:=(s++gN (n-s.length)).take n
def lq(s:aF)(at_:Nat)(d:aF):aF:=kM s at_++d++s.drop (at_+d.length)
theorem p6(s:aF)(n:Nat):(kM s n).length=n:=by unfold kM gN;rw [List.length_take,List.length_append,List.length_replicate];omega
theorem Ww:∀n,Lib.repeatL [0] n=gN n
 | 0=>rfl
 | n+1=>by rw [Lib.repeatL,Ww n];rfl
theorem ahW(s:aF)(n:Nat)(hs:s.length≤1048576)(hn:n≤1048576):E5 (s,(n:Int),())=some (kM s n,()):=by
 show Lm s (n:Int)=_
 unfold Lm kM
 by_cases h:n≤s.length
 ·rw [decide_eq_true (show(s.length:Int)≥(n:Int) by omega)]
  simp only [cond_true]
  show Option.bind (d_ s.length ((0:Nat):Int) (n:Int)) _=_
  rw [kr (by omega) h]
  simp only [av,Nat.sub_zero]
  rw [Ai,show n-s.length=0 by omega]
  simp [gN]
 ·rw [decide_eq_false (show ¬(s.length:Int)≥(n:Int) by omega)]
  simp only [cond_false]
  show Option.bind (repF [0] (aG ((n:Int)-(s.length:Int)))) _=_
  rw [show aG ((n:Int)-(s.length:Int))=((n-s.length:Nat):Int) by rw [dI (by omega) (by omega)];omega]
  unfold repF
  rw [if_pos ⟨by omega,by omega,by simp;omega⟩,Int.toNat_natCast,Ww]
  simp only [av]
  rw [cI (by unfold gN;rw [List.length_replicate];omega)]
  simp only [cond_true]
  rw [List.take_of_length_le (by unfold gN;rw [List.length_append,List.length_replicate];omega)]
theorem Wx(t:aF):gB (ez t)=t:=by
 unfold gB ez
 rw [List.map_map]
 conv=>rhs;rw [← List.map_id t]
 refine List.map_congr_left fun b _=>?_
 simp
theorem GG(t:aF):(ez t).length=t.length:=by unfold ez;simp
theorem ahX(t:aF):ez t++[0]=ez (t++[0]):=by unfold ez;simp
theorem ahY(t:aF)(i:Nat)(b:UInt8):(ez t).set i (b.toNat:Int)=ez (t.set i b):=by unfold ez;rw [List.map_set]
theorem Wy(s:aF)(at_:Nat)(d:aF)(hs:s.length≤1048576)(ha:at_≤1048576)(ag:d.length≤1048576) :
  r' (s,(at_:Int),d,())=some ((s++gN (at_+d.length-s.length)).take at_++d++(s++gN (at_+d.length-s.length)).drop (at_+d.length),()):=by
 show Dt (nF aP) s (at_:Int) d=_
 unfold Dt
 have hw:aG ((at_:Int) +(d.length:Int))=((at_+d.length:Nat):Int):=by rw [dI (by omega) (by omega)];omega
 generalize ht:s++gN (at_+d.length-s.length)=t
 have rN:at_+d.length≤t.length∧t.length≤4194304:=by rw [← ht];unfold gN;rw [List.length_append,List.length_replicate];omega
 have a7:∀(r i:Nat),i+r=d.length→bW (fun m=>(nF m).bt (at_:Int) d (i:Int) (ez (t.take at_++d.take i++t.drop (at_+i)))) (r+1) (some (t.take at_++d++t.drop (at_+d.length),())):=by
  intro r
  induction r with
  | zero =>
   intro i hi
   refine bW.now 1 fun m=>?_
   show zv (nF m) _ _ _ _=_
   unfold zv
   rw [cM (by omega)]
   simp only [cond_false]
   rw [Wx,show i=d.length by omega,List.take_length]
  | succ r ih =>
   intro i hi
   have cz:i<d.length:=by omega
   refine((ih (i+1) (by omega)).jump (f:=fun m=>(nF m).bt (at_:Int) d (i:Int) (ez (t.take at_++d.take i++t.drop (at_+i)))) 1 fun m=>?_).mono (by omega)
   show zv (nF m) _ _ _ _=_
   unfold zv
   rw [cp cz,bx cz]
   simp only [cond_true,av]
   have AL:(t.take at_++d.take i).length=at_+i:=by rw [List.length_append,List.length_take,List.length_take];omega
   have hlen:at_+i<(ez (t.take at_++d.take i++t.drop (at_+i))).length:=by
    rw [GG,List.length_append,AL,List.length_drop];omega
   rw [show aG ((at_:Int) +(i:Int))=((at_+i:Nat):Int) by rw [dI (by omega) (by omega)];omega,bx hlen]
   simp only [av,Nat.zero_add]
   unfold RW
   rw [df i (by omega),ahY]
   congr 2
   rw [xQ (show at_+i<t.length by omega),List.set_append_right _ _ (by rw [AL];omega),AL,Nat.sub_self,List.set_cons_zero,List.take_succ_eq_append_getElem cz,List.getD_eq_getElem?_getD,List.getElem?_eq_getElem cz,show at_ +(i+1)=at_+i+1 by omega]
   simp only [List.append_assoc,List.singleton_append,List.cons_append,List.nil_append,Option.getD_some]
 have h2:∀(r k:Nat),k+r=at_+d.length-s.length→bW (fun m=>(nF m).k2 (at_:Int) d (ez (s++gN k))) (r+d.length+3) (some (t.take at_++d++t.drop (at_+d.length),())):=by
  intro r
  induction r with
  | zero =>
   intro k hk
   have hk:k=at_+d.length-s.length:=by omega
   subst hk
   rw [ht]
   have:=a7 d.length 0 (by omega)
   rw [List.take_zero,List.append_nil,Nat.add_zero,List.take_append_drop] at this
   refine(this.jump (f:=fun m=>(nF m).k2 (at_:Int) d (ez t)) 1 fun m=>?_).mono (by omega)
   show zu (nF m) _ _ _=_
   unfold zu
   rw [hw,GG,cM (by omega)];rfl
  | succ r ih =>
   intro k hk
   refine((ih (k+1) (by omega)).jump (f:=fun m=>(nF m).k2 (at_:Int) d (ez (s++gN k))) 1 fun m=>?_).mono (by omega)
   show zu (nF m) _ _ _=_
   unfold zu
   have hl:(ez (s++gN k)).length=s.length+k:=by rw [GG,List.length_append];unfold gN;rw [List.length_replicate]
   rw [hw,cp (by rw [hl];omega)]
   simp only [cond_true]
   rw [cI (by rw [hl];simp only [List.length_cons,List.length_nil];omega)]
   simp only [cond_true]
   rw [ahX,List.append_assoc]
   have:gN k++[0]=gN (k+1):=by unfold gN;rw [List.replicate_succ']
   rw [this]
 have:=h2 (at_+d.length-s.length) 0 (by omega)
 rw [show gN 0=[] from rfl,List.append_nil] at this
 exact kK this (by omega)
theorem put_eq(s:aF)(at_:Nat)(d:aF):(s++gN (at_+d.length-s.length)).take at_++d++(s++gN (at_+d.length-s.length)).drop (at_+d.length)=lq s at_ d:=by
 unfold lq kM
 congr 1
 ·congr 1
  rw [List.take_append,List.take_append]
  congr 1
  unfold gN
  rw [List.take_replicate,List.take_replicate]
  congr 1
  omega
 ·rw [List.drop_append]
  have:(gN (at_+d.length-s.length)).drop (at_+d.length-s.length)=[]:=List.drop_of_length_le (by unfold gN;rw [List.length_replicate];omega)
  rw [this,List.append_nil]
theorem ahZ(s:aF)(at_:Nat):((s++gN (at_ +([]:aF).length-s.length)).take at_++([]:aF)++(s++gN (at_ +([]:aF).length-s.length)).drop (at_ +([]:aF).length)).take at_=kM s at_:=by
 rw [put_eq]
 unfold lq
 rw [List.append_nil,List.take_append_of_le_length (by rw [p6];omega),List.take_of_length_le (by rw [p6];omega)]
def n6(x:aJ)(d:aF):aJ:=(x.1,x.2.1,x.2.2.1,x.2.2.2.1,x.2.2.2.2.1,d,x.2.2.2.2.2.2.1,x.2.2.2.2.2.2.2.1,x.2.2.2.2.2.2.2.2.1,())
def er(x:aI.D)(n:aJ):Int:=if az x=6 then((bw n).length:Int) else bO x
def iO(x:aI.D)(n:aJ):aF:=if az x=7 then kM (bw n) (bO x).toNat else lq (bw n) (er x n).toNat (dB x)
structure xU(v:ae.D)(c:aH.D)(x:aI.D)(w:ae.D):Prop where
 out:∃r i,l3 v.2.1 r∧bE r=0∧bd v.2.1 (bp r)=some i∧kindOf (J I v.2.1 i)≠2∧kindOf (J I v.2.1 i)≠3∧may c (J I v.2.1 i) 2=true∧0≤er x (J I v.2.1 i)∧dv (v,c,da x,true,())=some (r,()) ∧
  ((az x≠7∧dB x=[]∧w=v)∨((az x≠7→dB x≠[])∧er x (J I v.2.1 i) +(dB x).length≤64∧w=(v.1,v.2.1.set i (n6 (J I v.2.1 i) (iO x (J I v.2.1 i))),())∧fl w.2.1=0))
theorem Wz(v:ae.D)(c:aH.D)(x:aI.D)(want:Int)(hw:n0 v.2.1)(hc:c9 c=true)(au:(da x).length≤1048576) :
  ∃r,sO true v.2.1 r∧dv (v,c,da x,true,())=some (r,())∧(bE r≠0→zT ((v,c,x,()),want,())=some (-1,bE r,(v,c,x,()),())) ∧
   (bE r=0→∃i,bd v.2.1 (bp r)=some i∧zT ((v,c,x,()),want,())=cond (kindOf (J I v.2.1 i)==2) (some (-1,21,(v,c,x,()),())) (cond (!may c (J I v.2.1 i) want) (some (-1,13,(v,c,x,()),())) (some ((i:Int),0,(v,c,x,()),())))):=by
 obtain ⟨r,h1,h2,h3,h4⟩:=sZ v c x true hw hc au
 refine⟨r,h1,h2,fun h0=>?_,fun h0=>?_⟩
 ·show zS (v,c,x,()) want=_
  unfold zS
  rw [h3 h0]
  simp only [av]
  rw [cV h0];rfl
 ·obtain ⟨i,hi,a7⟩:=h4 h0
  refine⟨i,hi,?_⟩
  show zS (v,c,x,()) want=_
  unfold zS
  rw [a7]
  simp only [av]
  rw [show((0:Int) != 0)=false from rfl]
  simp only [cond_false]
  rw [bx (bT hi).1]
  simp only [av]
  rw [Ap c _ want hc];rfl
theorem ah0(m:Nat)(a b d):(gz (m+1)).dj a b d=Ln (gz m) a b d:=rfl
theorem ah1(m:Nat)(a b d):(gz (m+1)).c3 a b d=Lo (gz m) a b d:=rfl
theorem ah2(m:Nat)(a b d):(gz (m+1)).gL a b d=Lp (gz m) a b d:=rfl
theorem ah3(m:Nat)(a b d e f g):(kc (m+1)).nG a b d e f g=J5 (kc m) a b d e f g:=rfl
theorem ah4(m:Nat)(a b d e):(kc (m+1)).hL a b d e=J6 (kc m) a b d e:=rfl
theorem bz.fO{v:ae.D}(h:bz v){i:Nat}(hi:i<v.2.1.length):(bw (J I v.2.1 i)).length≤64:=by
 have:=h.ino i hi
 rcases this.kind with k | k | k
 ·exact this.file k
 ·rw [(this.dir k).1];simp
 ·have:=As (this.l2 k).1;omega
theorem ah5(v:ae.D)(c:aH.D)(x:aI.D)(hv:bz v)(hc:c9 c=true)(hx:gM x)(hk:az x=5∨az x=6∨az x=7):br v c x (E7 ((v,c,x,()),())) (xb (v,c,x,())) (xU v c x):=by
 have b7:=hv.fP
 have hl:v.2.1.length≤1048576:=b7.len
 have au:=hx.path
 have alE:=hx.fO
 have mq:=hx.n
 obtain ⟨q,hq,h9⟩:=iI 4
 show br v c x (E6 (gz aP) (v,c,x,())) (Du (kc aP) v c x) _
 unfold E6 Du
 obtain ⟨r,⟨hr,xV⟩,fB,km,kn⟩:=Wz v c x 2 b7 hc (by omega)
 show br v c x _ (Option.bind (dv (v,c,da x,true,())) _) _
 rw [fB]
 simp only [av]
 show br v c x _ (cond (bE r != 0) (some (v,(bE r,[],()),())) _) _
 by_cases b3:bE r=0
 case neg =>
  rw [km b3,cV b3]
  simp only [av]
  rw [cV b3]
  exact br.no (bE r) b3 rfl rfl
 obtain ⟨i,hi,e5⟩:=kn b3
 have bR:=bT hi
 rw [e5,dt b3]
 simp only [cond_false]
 show br v c x _ (Option.bind (e_ (v,bp r,())) _) _
 rw [iK v _ hl hi]
 simp only [av]
 show br v c x _ (cond (kindOf (J I v.2.1 i)==2) _ _) _
 by_cases gW:kindOf (J I v.2.1 i)=2
 ·rw [cF gW]
  exact br.no 21 (by decide) rfl rfl
 rw [b5 gW]
 simp only [cond_false]
 rw [nX c _ 2 hc]
 simp only [av]
 cases hm:may c (J I v.2.1 i) 2 with
 | false=>exact br.no 13 (by decide) rfl rfl
 | true =>
 simp only [Bool.not_true,cond_false,av]
 rw [show((0:Int) != 0)=false from rfl]
 simp only [cond_false]
 have WA:=hv.fO bR.1
 have ah6:cond (x.1==6) ((aM v.2.1.length (i:Int)).bind fun v2=>(gz aP).dj (i:Int) ((J I v.2.1 v2).2.2.2.2.2.1.length:Int) (v,c,x,())) ((gz aP).dj (i:Int) x.2.2.2.1 (v,c,x,()))=(gz aP).dj (i:Int) (er x (J I v.2.1 i)) (v,c,x,()):=by
  rw [bx bR.1]
  unfold er
  show cond (az x==6) _ _=_
  by_cases bh:az x=6
  ·rw [cF bh,if_pos bh];rfl
  ·rw [b5 bh,if_neg bh];rfl
 have ah7:cond (x.1==6) ((kc aP).nG ((J I v.2.1 i).2.2.2.2.2.1.length:Int) v x (0,([]:List I.D),()) (0,([]:aF),()) (J I v.2.1 i)) ((kc aP).nG x.2.2.2.1 v x (0,([]:List I.D),()) (0,([]:aF),()) (J I v.2.1 i))=(kc aP).nG (er x (J I v.2.1 i)) v x (0,([]:List I.D),()) (0,([]:aF),()) (J I v.2.1 i):=by
  unfold er
  show cond (az x==6) _ _=_
  by_cases bh:az x=6
  ·rw [cF bh,if_pos bh];rfl
  ·rw [b5 bh,if_neg bh];rfl
 show br v c x (cond (x.1==6) ((aM v.2.1.length (i:Int)).bind fun v2=>(gz aP).dj (i:Int) ((J I v.2.1 v2).2.2.2.2.2.1.length:Int) (v,c,x,())) ((gz aP).dj (i:Int) x.2.2.2.1 (v,c,x,())))
  (cond (x.1==6) ((kc aP).nG ((J I v.2.1 i).2.2.2.2.2.1.length:Int) v x (0,([]:List I.D),()) (0,([]:aF),()) (J I v.2.1 i)) ((kc aP).nG x.2.2.2.1 v x (0,([]:List I.D),()) (0,([]:aF),()) (J I v.2.1 i))) _
 rw [ah6,ah7,hq,ah0,ah3]
 unfold Ln J5
 by_cases Bw:er x (J I v.2.1 i)<0
 ·rw [decide_eq_true Bw]
  exact br.no 22 (by decide) rfl rfl
 rw [decide_eq_false Bw]
 simp only [cond_false]
 obtain ⟨a,ha⟩:∃a:Nat,er x (J I v.2.1 i)=a:=⟨(er x (J I v.2.1 i)).toNat,by omega⟩
 have alF:a≤1000000:=by
  have:er x (J I v.2.1 i)≤1000000:=by
   unfold er
   split
   ·omega
   ·exact mq.2
  omega
 show br v c x (cond (!(az x==7)) (cond (bn (dB x) []) (some (0,(v,c,x,()),())) ((gz (q+3)).c3 (i:Int) (er x (J I v.2.1 i)) (v,c,x,()))) ((gz (q+3)).c3 (i:Int) (er x (J I v.2.1 i)) (v,c,x,())))
  (cond (az x==7) (cond (decide (er x (J I v.2.1 i)>64)) (some (v,(27,[],()),())) (Option.bind (r' (bw (J I v.2.1 i),er x (J I v.2.1 i),[],())) fun v1=>Option.bind (d_ v1.1.length 0 (er x (J I v.2.1 i))) fun v2=>(kc (q+3)).hL v (0,([]:List I.D),()) (0,([]:aF),()) (n6 (J I v.2.1 i) (part v1.1 v2.1 (v2.2-v2.1)))))
   (cond (bn (dB x) []) (some (v,(0,[],()),())) (cond (decide (er x (J I v.2.1 i)>aG (64-((dB x).length:Int)))) (some (v,(27,[],()),())) (Option.bind (r' (bw (J I v.2.1 i),er x (J I v.2.1 i),dB x,())) fun v3=>(kc (q+3)).hL v (0,([]:List I.D),()) (0,([]:aF),()) (n6 (J I v.2.1 i) v3.1))))) _
 have NH:az x≠7→dB x=[]→xU v c x v:=fun bH ag=>⟨r,i,hr,b3,hi,gW,xV rfl b3 i hi,hm,by omega,fB,.inl ⟨bH,ag,rfl⟩⟩
 by_cases kN:az x≠7∧dB x=[]
 ·rw [b5 kN.1,m0.2 kN.2]
  exact⟨0,v,rfl,rfl,fun _=>NH kN.1 kN.2⟩
 have ah8:cond (!(az x==7)) (cond (bn (dB x) []) (some (0,(v,c,x,()),())) ((gz (q+3)).c3 (i:Int) (er x (J I v.2.1 i)) (v,c,x,()))) ((gz (q+3)).c3 (i:Int) (er x (J I v.2.1 i)) (v,c,x,()))=(gz (q+3)).c3 (i:Int) (er x (J I v.2.1 i)) (v,c,x,()):=by
  by_cases bH:az x=7
  ·rw [cF bH];rfl
  ·rw [b5 bH]
   have:bn (dB x) []=false:=by rw [← Bool.not_eq_true,m0];exact fun h=>kN ⟨bH,h⟩
   rw [this];rfl
 rw [ah8,ah1]
 unfold Lo
 show br v c x (cond (decide (aG (er x (J I v.2.1 i) +((dB x).length:Int))>64)) _ _) _ _
 have WB:az x=7→dB x=[]:=fun bH=>hx.V7.elim id fun h=>by omega
 have ah9:aG (er x (J I v.2.1 i) +((dB x).length:Int))=((a +(dB x).length:Nat):Int):=by rw [ha,dI (by omega) (by omega)];omega
 rw [ah9]
 by_cases GH:a +(dB x).length>64
 ·rw [decide_eq_true (by omega)]
  have:cond (az x==7) (cond (decide (er x (J I v.2.1 i)>64)) (some (v,((27:Int),([]:aF),()),())) (Option.bind (r' (bw (J I v.2.1 i),er x (J I v.2.1 i),[],())) fun v1=>Option.bind (d_ v1.1.length 0 (er x (J I v.2.1 i))) fun v2=>(kc (q+3)).hL v (0,([]:List I.D),()) (0,([]:aF),()) (n6 (J I v.2.1 i) (part v1.1 v2.1 (v2.2-v2.1)))))
   (cond (bn (dB x) []) (some (v,(0,[],()),())) (cond (decide (er x (J I v.2.1 i)>aG (64-((dB x).length:Int)))) (some (v,(27,[],()),())) (Option.bind (r' (bw (J I v.2.1 i),er x (J I v.2.1 i),dB x,())) fun v3=>(kc (q+3)).hL v (0,([]:List I.D),()) (0,([]:aF),()) (n6 (J I v.2.1 i) v3.1))))=some (v,(27,[],()),()):=by
   by_cases bH:az x=7
   ·have h0:=WB bH
    rw [h0] at GH
    simp only [List.length_nil] at GH
    rw [cF bH,decide_eq_true (show er x (J I v.2.1 i)>64 by omega)];rfl
   ·rw [b5 bH]
    have h0:bn (dB x) []=false:=by rw [← Bool.not_eq_true,m0];exact fun h=>kN ⟨bH,h⟩
    rw [h0,show aG (64-((dB x).length:Int))=64-((dB x).length:Int) from dI (by omega) (by omega),decide_eq_true (show er x (J I v.2.1 i)>64-((dB x).length:Int) by omega)];rfl
  rw [this]
  exact br.no 27 (by decide) rfl rfl
 rw [decide_eq_false (by omega)]
 simp only [cond_false]
 obtain ⟨w,hw⟩:∃w:ae.D,w=(v.1,v.2.1.set i (n6 (J I v.2.1 i) (iO x (J I v.2.1 i))),()):=⟨_,rfl⟩
 have hnl:(iO x (J I v.2.1 i)).length≤200:=by
  have hf:∀s n,(kM s n).length=n:=p6
  unfold iO lq
  rw [ha,Int.toNat_natCast]
  split
  ·rename_i bH
   have:er x (J I v.2.1 i)=bO x:=by unfold er;rw [if_neg (by omega)]
   rw [hf];omega
  ·rw [List.length_append,List.length_append,hf,List.length_drop];omega
 have hst:an 1000 w.2.1:=by
  rw [hw]
  exact(hv.st.set (k:=200) (i:=i) (y:=n6 (J I v.2.1 i) (iO x (J I v.2.1 i))) bR.1 rfl (fun d ag=>hv.f_ i bR.1 d ag) (fun en=>hv.st.bare i bR.1 en) (Nat.le_add_right _ _) (by
   show(iO x (J I v.2.1 i)).length≤_
   omega)).mono (by omega)
 have hwr:fl w.2.1=0→xU v c x w:=fun hf=>⟨r,i,hr,b3,hi,gW,xV rfl b3 i hi,hm,by omega,fB,.inr ⟨fun bH h=>kN ⟨bH,h⟩,by omega,hw,hf⟩⟩
 have AG:∀m,(gz (m+1)).gL (i:Int) (iO x (J I v.2.1 i)) (v,c,x,())=some (fl w.2.1,(w,c,x,()),()):=by
  intro m
  rw [ah2]
  unfold Lp
  show Option.bind (aM v.2.1.length (i:Int)) _=_
  rw [bx bR.1]
  show Option.bind (nM (((v.1,v.2.1.set i (n6 (J I v.2.1 i) (iO x (J I v.2.1 i))),()),c,x,()),())) (fun v3=>some (v3.1,((v.1,v.2.1.set i (n6 (J I v.2.1 i) (iO x (J I v.2.1 i))),()),c,x,()),()))=_
  rw [← hw,Ay w c x hst (by omega)];rfl
 have WC:∀m,(kc (m+1)).hL v (0,([]:List I.D),()) (0,([]:aF),()) (n6 (J I v.2.1 i) (iO x (J I v.2.1 i)))=some (cond (fl w.2.1==0) w v,(fl w.2.1,[],()),()):=by
  intro m
  rw [ah4]
  unfold J6
  rw [vq v hl (fun i hi=>Nat.le_trans (fI hi) b7.cC)]
  simp only [av]
  rw [Gq v _ hl (show bd v.2.1 (n6 (J I v.2.1 i) (iO x (J I v.2.1 i))).1=some i from(show(J I v.2.1 i).1=bp r from bR.2) ▸ hi),← hw]
  simp only [av]
  rw [Az v w hst (by omega)];rfl
 have ah_:(cond (decide (((bw (J I v.2.1 i)).length:Int) >((kM (bw (J I v.2.1 i)) a++dB x).length:Int)))
   ((d_ (bw (J I v.2.1 i)).length ((kM (bw (J I v.2.1 i)) a++dB x).length:Int) ((bw (J I v.2.1 i)).length:Int)).bind fun v5=>cond (room ((kM (bw (J I v.2.1 i)) a++dB x).length +(part (bw (J I v.2.1 i)) v5.1 (v5.2-v5.1)).length))
    ((gz (q+2)).gL (i:Int) ((kM (bw (J I v.2.1 i)) a++dB x)++part (bw (J I v.2.1 i)) v5.1 (v5.2-v5.1)) (v,c,x,())) none)
   ((gz (q+2)).gL (i:Int) (kM (bw (J I v.2.1 i)) a++dB x) (v,c,x,())))=(gz (q+2)).gL (i:Int) (lq (bw (J I v.2.1 i)) a (dB x)) (v,c,x,()):=by
  have ia:(kM (bw (J I v.2.1 i)) a++dB x).length=a +(dB x).length:=by rw [List.length_append,p6]
  rw [ia]
  unfold lq
  by_cases p5:(bw (J I v.2.1 i)).length>a +(dB x).length
  ·rw [decide_eq_true (by omega)]
   simp only [cond_true]
   rw [kr (by omega) (Nat.le_refl _)]
   simp only [av]
   rw [Mz,cI (by rw [List.length_drop];omega)];rfl
  ·rw [decide_eq_false (by omega)]
   simp only [cond_false]
   rw [List.drop_of_length_le (by omega),List.append_nil]
 show br v c x (Option.bind (aM v.2.1.length (i:Int)) fun v1=>Option.bind (E5 (bw (J I v.2.1 v1),er x (J I v.2.1 i),())) fun v2=>cond (!(az x==7)) (cond (room (v2.1.length +(dB x).length)) (Option.bind (aM v.2.1.length (i:Int)) fun v3=>cond (decide (((bw (J I v.2.1 v3)).length:Int) >((v2.1++dB x).length:Int)))
   (Option.bind (aM v.2.1.length (i:Int)) fun v4=>(d_ (bw (J I v.2.1 v4)).length ((v2.1++dB x).length:Int) ((bw (J I v.2.1 v4)).length:Int)).bind fun v5=>cond (room ((v2.1++dB x).length +(part (bw (J I v.2.1 v4)) v5.1 (v5.2-v5.1)).length))
    ((gz (q+2)).gL (i:Int) ((v2.1++dB x)++part (bw (J I v.2.1 v4)) v5.1 (v5.2-v5.1)) (v,c,x,())) none)
   ((gz (q+2)).gL (i:Int) (v2.1++dB x) (v,c,x,()))) none) ((gz (q+2)).gL (i:Int) v2.1 (v,c,x,()))) _ _
 rw [bx bR.1,ha]
 simp only [av]
 rw [ahW _ _ (by omega) (by omega)]
 simp only [av]
 rw [cI (by rw [p6];omega)]
 simp only [cond_true]
 rw [ah_]
 by_cases bH:az x=7
 ·have tP:=WB bH
  have gZ:iO x (J I v.2.1 i)=kM (bw (J I v.2.1 i)) a:=by
   unfold iO
   rw [if_pos bH]
   have:er x (J I v.2.1 i)=bO x:=by unfold er;rw [if_neg (by omega)]
   rw [← this,ha,Int.toNat_natCast]
  rw [cF bH]
  rw [tP] at GH
  simp only [List.length_nil] at GH
  rw [decide_eq_false (show ¬((a:Int)>64) by omega)]
  simp only [Bool.not_true,cond_false,cond_true]
  rw [Wy _ _ _ (by omega) (by omega) (by simp)]
  simp only [av]
  rw [put_eq]
  show br v c x _ (Option.bind (d_ (lq (bw (J I v.2.1 i)) a []).length ((0:Nat):Int) (a:Int)) _) _
  rw [kr (by omega) (by unfold lq;rw [List.length_append,List.length_append,p6];omega)]
  simp only [av,Nat.sub_zero]
  have mj:part (lq (bw (J I v.2.1 i)) a []) 0 a=iO x (J I v.2.1 i):=by
   rw [Ai,gZ,← ahZ,put_eq]
  rw [mj,← gZ,AG (q+1),WC (q+2)]
  exact⟨_,_,rfl,rfl,hwr⟩
 ·have gZ:iO x (J I v.2.1 i)=lq (bw (J I v.2.1 i)) a (dB x):=by
   unfold iO
   rw [if_neg bH,ha,Int.toNat_natCast]
  rw [b5 bH]
  have h0:bn (dB x) []=false:=by rw [← Bool.not_eq_true,m0];exact fun h=>kN ⟨bH,h⟩
  rw [h0,show aG (64-((dB x).length:Int))=64-((dB x).length:Int) from dI (by omega) (by omega),decide_eq_false (show ¬((a:Int)>64-((dB x).length:Int)) by omega)]
  simp only [Bool.not_false,cond_true,cond_false]
  rw [Wy _ _ _ (by omega) (by omega) (by omega)]
  simp only [av]
  rw [put_eq,← gZ,AG (q+1),WC (q+2)]
  exact⟨_,_,rfl,rfl,hwr⟩
theorem WD(l:List aJ):bytesOf l=((List.range l.length).map fun i=>(bw (J I l i)).length).sum:=by
 unfold bytesOf
 congr 1
 refine List.ext_getElem (by simp) fun i h1 h2=>?_
 simp only [List.length_map] at h1
 rw [List.getElem_map,List.getElem_map,List.getElem_range,c6 h1]
structure Alike(l l':List aJ):Prop where
 len:l'.length=l.length
 id:∀i,(J I l' i).1=(J I l i).1
 fO:∀i,bw (J I l' i)=bw (J I l i)
 cC:∀i,ak (J I l' i)=ak (J I l i)
theorem Alike.bd{l l':List aJ}(h:Alike l l'):kD.bd l'=kD.bd l:=by
 funext id
 unfold kD.bd
 rw [h.len]
 refine V0 fun i _=>?_
 rw [h.id]
theorem Alike.below{l l':List aJ}(h:Alike l l'):dO l'=dO l:=by
 have e1:jy l'=jy l:=by
  funext i j s
  unfold jy
  rw [h.bd,h.cC]
 have e2:iJ l'=iJ l:=by
  funext i s
  unfold iJ
  rw [e1,h.cC]
 have e3:fs l'=fs l:=by
  funext s
  unfold fs
  rw [e2,h.len]
 funext id
 unfold dO
 rw [h.bd,h.len,e3]
theorem Alike.ah'{l l':List aJ}(h:Alike l l')(x bB:aJ)(h1:bB.1=x.1)(h2:eT bB=eT x)(h3:eD bB=eD x):ik l' bB=ik l x:=by
 have e1:jz l'=jz l:=by
  funext F
  unfold jz o0 dl
  rw [h.len]
  congr 2
  funext i
  rw [h.fO]
 have e2:jS l'=jS l:=by
  funext F
  unfold jS o0
  rw [h.len]
 unfold ik
 rw [e1,e2,h.below,h1,h2,h3]
theorem Alike.fits{l l':List aJ}(h:Alike l l')(hb:∀i,eT (J I l' i)=eT (J I l i))(hi:∀i,eD (J I l' i)=eD (J I l i)):fl l'=fl l:=by
 have e1:bytesOf l'=bytesOf l:=by
  rw [WD,WD,h.len]
  congr 2
  funext i
  rw [h.fO]
 have e2:gp l'=gp l:=by
  unfold gp
  rw [h.len]
  congr 2
  funext i
  rw [h.ah' (J I l i) (J I l' i) (h.id i) (hb i) (hi i)]
 unfold fl
 rw [e1,e2]
theorem aia{l:List aJ}{i:Nat}{y:aJ}(hi:i<l.length)(h1:y.1=(J I l i).1)(h2:bw y=bw (J I l i))(h3:ak y=ak (J I l i)):Alike l (l.set i y):=by
 refine⟨List.length_set,fun j=>?_,fun j=>?_,fun j=>?_⟩ <;>
  ·rw [iM hi]
   split
   ·rename_i he;subst he;assumption
   ·rfl
def jj(x:aJ)(m u g:Int):aJ:=(x.1,x.2.1,m,u,g,x.2.2.2.2.2.1,x.2.2.2.2.2.2.1,x.2.2.2.2.2.2.2.1,x.2.2.2.2.2.2.2.2.1,())
theorem WE(x:aJ)(m u g:Int):(jj x m u g).1=x.1:=rfl
theorem GI{v:ae.D}(hv:bz v){i:Nat}(hi:i<v.2.1.length)(m u g:Int):fl (v.2.1.set i (jj (J I v.2.1 i) m u g))=0:=by
 have ha:Alike v.2.1 (v.2.1.set i (jj (J I v.2.1 i) m u g)):=aia hi rfl rfl rfl
 rw [ha.fits (fun j=>by
  rw [iM hi]
  split
  ·rename_i he;subst he;rfl
  ·rfl) (fun j=>by
  rw [iM hi]
  split
  ·rename_i he;subst he;rfl
  ·rfl)]
 unfold fl
 rw [decide_eq_false (by have:=hv.bytes;omega),hv.over];rfl
theorem WG{v:ae.D}(hv:bz v){i:Nat}(hi:i<v.2.1.length)(m u g:Int):an 1000 (v.2.1.set i (jj (J I v.2.1 i) m u g)) :=
 (hv.st.set (k:=1) (i:=i) (y:=jj (J I v.2.1 i) m u g) hi rfl (fun d ag=>hv.f_ i hi d ag) (fun hk=>hv.st.bare i hi hk) (Nat.le_add_right _ _) (Nat.le_add_right _ _)).mono (by omega)
def andNot(a b:Int):Int:=cR .andNot .i64 a b
def ra(c:aH.D)(x:aI.D)(n:aJ):Int:=if c.1≠0∧mT c (fk n)=false then andNot (bO x) 1024 else bO x
theorem AN(m:Nat)(a b d e f g):(hM (m+1)).eo a b d e f g=zw (hM m) a b d e f g:=rfl
theorem NI(m:Nat)(a b d e f):(hM (m+1)).nG a b d e f=zx (hM m) a b d e f:=rfl
theorem aib(m:Nat)(a b d e f g):(hM (m+1)).pL a b d e f g=J7 (hM m) a b d e f g:=rfl
theorem aic(m:Nat)(a b d e):(hM (m+1)).fZ a b d e=J8 (hM m) a b d e:=rfl
theorem NJ{v:ae.D}(hv:bz v)(z:ae.D)(jK:aL.D){i:Nat}(hi:i<v.2.1.length)(n:aJ)(hn:n.1=(J I v.2.1 i).1)(hst:an 1000 (v.2.1.set i n))(m:Nat) :
  (hM (m+1)).fZ v z jK n=some (cond (fl (v.2.1.set i n)==0) (v.1,v.2.1.set i n,()) v,(fl (v.2.1.set i n),[],()),()):=by
 have b7:=hv.fP
 rw [aic]
 unfold J8
 rw [vq v b7.len (fun i hi=>Nat.le_trans (fI hi) b7.cC)]
 simp only [av]
 rw [Gq v n b7.len (show bd v.2.1 n.1=some i from hn ▸ hv.fM i hi)]
 simp only [av]
 rw [Az v (v.1,v.2.1.set i n,()) hst (by omega)];rfl
structure AO(v:ae.D)(c:aH.D)(x:aI.D)(w:ae.D):Prop where
 out:0≤bO x∧bO x≤2047∧∃r i,l3 v.2.1 r∧bE r=0∧bd v.2.1 (bp r)=some i∧kindOf (J I v.2.1 i)≠3∧(c.1≠0→c.1=ew (J I v.2.1 i)) ∧
  w=(v.1,v.2.1.set i (jj (J I v.2.1 i) (ra c x (J I v.2.1 i)) (ew (J I v.2.1 i)) (fk (J I v.2.1 i))),())
theorem aid(v:ae.D)(c:aH.D)(x:aI.D)(hv:bz v)(hc:c9 c=true)(hx:gM x)(hk:az x=15):br v c x (Fj ((v,c,x,()),())) (sb (v,c,x,())) (AO v c x):=by
 have b7:=hv.fP
 have hl:v.2.1.length≤1048576:=b7.len
 have au:=hx.path
 obtain ⟨q,hq,h9⟩:=iI 4
 show br v c x (Fi (qV aP) (v,c,x,())) (sa (hM aP) v c x) _
 unfold Fi sa
 show br v c x (Option.bind (eO (bO x,0,2047,())) _) (cond (az x==15) (Option.bind (eg (bO x,0,2047,())) _) _) _
 rw [cF hk,jw,jv]
 simp only [cond_true,av]
 rw [hq,AN]
 unfold zw
 cases hN:c0 (bO x) 0 2047 with
 | false=>exact br.no 22 (by decide) rfl rfl
 | true =>
 have p4:=dM.1 hN
 simp only [Bool.not_true,cond_false]
 show br v c x _ (cond (az x==19) _ _) _
 rw [b5 (show az x≠19 by omega),NI]
 simp only [cond_false]
 unfold zx
 obtain ⟨r,⟨hr,xV⟩,fB,km,kn⟩:=sZ v c x true b7 hc (by omega)
 show br v c x _ (Option.bind (dv (v,c,da x,true,())) _) _
 rw [fB]
 simp only [av]
 show br v c x _ (cond (bE r != 0) (some (v,(bE r,[],()),())) _) _
 by_cases b3:bE r=0
 case neg =>
  rw [km b3,cV b3]
  simp only [av]
  rw [cV b3]
  exact br.no (bE r) b3 rfl rfl
 obtain ⟨i,hi,e5⟩:=kn b3
 have bR:=bT hi
 rw [e5,dt b3]
 simp only [cond_false,av]
 rw [show((0:Int) != 0)=false from rfl]
 simp only [cond_false]
 show br v c x _ (Option.bind (e_ (v,bp r,())) _) _
 rw [iK v _ hl hi,bx bR.1]
 simp only [av]
 show br v c x (cond (c.1 != 0) (cond (c.1 != ew (J I v.2.1 i)) (some (1,(v,c,x,()),())) (qV (q+4) (i:Int) (v,c,x,()))) (qV (q+4) (i:Int) (v,c,x,())))
  (cond (az x==15) (cond (c.1 != 0) (cond (c.1 != ew (J I v.2.1 i)) (some (v,(1,[],()),())) ((hM (q+2)).pL v c x (0,([]:List I.D),()) (0,([]:aF),()) (J I v.2.1 i))) ((hM (q+2)).pL v c x (0,([]:List I.D),()) (0,([]:aF),()) (J I v.2.1 i))) _) _
 rw [cF hk]
 simp only [cond_true]
 have hfin:(c.1≠0→c.1=ew (J I v.2.1 i))→br v c x (qV (q+4) (i:Int) (v,c,x,())) ((hM (q+2)).pL v c x (0,([]:List I.D),()) (0,([]:aF),()) (J I v.2.1 i)) (AO v c x):=by
  intro hu
  have e5:qV (q+4) (i:Int) (v,c,x,())=some (0,((v.1,v.2.1.set i (jj (J I v.2.1 i) (ra c x (J I v.2.1 i)) (ew (J I v.2.1 i)) (fk (J I v.2.1 i))),()),c,x,()),()):=by
   rw [qV,Lv]
   show Option.bind (aM v.2.1.length (i:Int)) (fun v1=>Lu (v,c,x,()) (i:Int) (v.2.1.set v1 (jj (J I v.2.1 v1) (bO x) (ew (J I v.2.1 v1)) (fk (J I v.2.1 v1)))))=_
   rw [bx bR.1]
   simp only [av]
   unfold Lu ra
   have aB:J I (v.2.1.set i (jj (J I v.2.1 i) (bO x) (ew (J I v.2.1 i)) (fk (J I v.2.1 i)))) i=jj (J I v.2.1 i) (bO x) (ew (J I v.2.1 i)) (fk (J I v.2.1 i)):=by rw [iM bR.1,if_pos rfl]
   have e6:aM (v.2.1.set i (jj (J I v.2.1 i) (bO x) (ew (J I v.2.1 i)) (fk (J I v.2.1 i)))).length (i:Int)=some i:=bx (by rw [List.length_set];exact bR.1)
   show cond (c.1 != 0) _ _=_
   by_cases h0:c.1=0
   ·rw [dt h0,if_neg (fun h=>h.1 h0)];rfl
   ·rw [cV h0,e6]
    simp only [cond_true,av]
    rw [aB]
    show Option.bind (u_ (c,fk (J I v.2.1 i),())) _=_
    rw [MZ c _ hc]
    simp only [av]
    cases BP:mT c (fk (J I v.2.1 i)) with
    | true=>rw [if_neg (fun h=>by cases h.2)];rfl
    | false =>
     rw [if_pos ⟨h0,rfl⟩]
     simp only [Bool.not_false,cond_true]
     unfold SU
     rw [List.set_set];rfl
  have dQ:(hM (q+2)).pL v c x (0,([]:List I.D),()) (0,([]:aF),()) (J I v.2.1 i)=(hM (q+1)).fZ v (0,([]:List I.D),()) (0,([]:aF),()) (jj (J I v.2.1 i) (ra c x (J I v.2.1 i)) (ew (J I v.2.1 i)) (fk (J I v.2.1 i))):=by
   rw [aib]
   unfold J7 ra
   show cond (c.1 != 0) (Option.bind (uj (c,fk (J I v.2.1 i),())) _) _=_
   by_cases h0:c.1=0
   ·rw [dt h0,if_neg (fun h=>h.1 h0)];rfl
   ·rw [cV h0,MY c _ hc]
    simp only [cond_true,av]
    cases BP:mT c (fk (J I v.2.1 i)) with
    | true=>rw [if_neg (fun h=>by cases h.2)];rfl
    | false=>rw [if_pos ⟨h0,rfl⟩];rfl
  rw [e5,dQ,NJ hv _ _ bR.1 _ (WE _ _ _ _) (WG hv bR.1 _ _ _),GI hv bR.1]
  exact⟨0,_,rfl,rfl,fun _=>⟨p4.1,p4.2,r,i,hr,b3,hi,xV rfl b3 i hi,hu,rfl⟩⟩
 by_cases h0:c.1=0
 ·rw [dt h0]
  exact hfin fun h=>absurd h0 h
 ·rw [cV h0]
  simp only [cond_true]
  by_cases hu:c.1=ew (J I v.2.1 i)
  ·rw [dt hu]
   exact hfin fun _=>hu
  ·rw [cV hu]
   exact br.no 1 (by decide) rfl rfl
structure AP(v:ae.D)(c:aH.D)(x:aI.D)(w:ae.D):Prop where
 out:(0≤bO x∧bO x≤1000)∧(0≤dX x∧dX x≤1000)∧∃r i,l3 v.2.1 r∧bE r=0∧bd v.2.1 (bp r)=some i∧w=(v.1,v.2.1.set i (jj (J I v.2.1 i) (e' (J I v.2.1 i)) (bO x) (dX x)),())
theorem aie(v:ae.D)(c:aH.D)(x:aI.D)(hv:bz v)(hc:c9 c=true)(hx:gM x)(hk:az x=16):br v c x (Fm ((v,c,x,()),())) (sb (v,c,x,())) (AP v c x):=by
 have b7:=hv.fP
 have hl:v.2.1.length≤1048576:=b7.len
 have au:=hx.path
 obtain ⟨q,hq,h9⟩:=iI 4
 show br v c x (Fl (qW aP) (v,c,x,())) (sa (hM aP) v c x) _
 unfold Fl sa
 show br v c x (Option.bind (eO (bO x,0,1000,())) fun v1=>cond (!v1.1) _ (Option.bind (eO (dX x,0,1000,())) _)) (cond (az x==15) _ (cond (az x==16) (Option.bind (eg (bO x,0,1000,())) fun v2=>cond (!v2.1) _ (Option.bind (eg (dX x,0,1000,())) _)) _)) _
 rw [b5 (show az x≠15 by omega),cF hk]
 simp only [cond_true,cond_false]
 rw [jw,jv]
 simp only [av]
 rw [hq]
 cases hN:c0 (bO x) 0 1000 with
 | false =>
  simp only [Bool.not_false,cond_true]
  rw [AN]
  exact br.no 22 (by decide) rfl rfl
 | true =>
 have p4:=dM.1 hN
 simp only [Bool.not_true,cond_false]
 rw [jw,jv]
 simp only [av]
 rw [AN]
 unfold zw
 cases j8:c0 (dX x) 0 1000 with
 | false=>exact br.no 22 (by decide) rfl rfl
 | true =>
 have NK:=dM.1 j8
 simp only [Bool.not_true,cond_false]
 show br v c x _ (cond (az x==19) _ _) _
 rw [b5 (show az x≠19 by omega),NI]
 simp only [cond_false]
 unfold zx
 obtain ⟨r,⟨hr,xV⟩,fB,km,kn⟩:=sZ v c x true b7 hc (by omega)
 show br v c x _ (Option.bind (dv (v,c,da x,true,())) _) _
 rw [fB]
 simp only [av]
 show br v c x _ (cond (bE r != 0) (some (v,(bE r,[],()),())) _) _
 by_cases b3:bE r=0
 case neg =>
  rw [km b3,cV b3]
  simp only [av]
  rw [cV b3]
  exact br.no (bE r) b3 rfl rfl
 obtain ⟨i,hi,e5⟩:=kn b3
 have bR:=bT hi
 rw [e5,dt b3]
 simp only [cond_false,av]
 rw [show((0:Int) != 0)=false from rfl]
 simp only [cond_false]
 show br v c x _ (Option.bind (e_ (v,bp r,())) _) _
 rw [iK v _ hl hi,bx bR.1]
 simp only [av]
 show br v c x (cond (c.1 != 0) (cond (c.1 != ew (J I v.2.1 i)) (some (1,(v,c,x,()),())) (cond (bO x != ew (J I v.2.1 i)) (some (1,(v,c,x,()),())) (Option.bind (u_ (c,dX x,())) fun v6=>cond (!v6.1) (some (1,(v,c,x,()),())) (qW (q+4) (i:Int) (v,c,x,()))))) (qW (q+4) (i:Int) (v,c,x,())))
  (cond (az x==15) _ (cond (az x==16) (cond (c.1 != 0) (cond (c.1 != ew (J I v.2.1 i)) (some (v,(1,[],()),())) (cond (bO x != ew (J I v.2.1 i)) (some (v,(1,[],()),())) (Option.bind (uj (c,dX x,())) fun v3=>cond (!v3.1) (some (v,(1,[],()),())) ((hM (q+2)).fZ v (0,([]:List I.D),()) (0,([]:aF),()) (jj (J I v.2.1 i) (e' (J I v.2.1 i)) (bO x) (dX x))))))
   ((hM (q+2)).fZ v (0,([]:List I.D),()) (0,([]:aF),()) (jj (J I v.2.1 i) (e' (J I v.2.1 i)) (bO x) (dX x)))) _)) _
 rw [b5 (show az x≠15 by omega),cF hk,MZ c _ hc,MY c _ hc]
 simp only [cond_true,cond_false,av]
 have hfin:br v c x (qW (q+4) (i:Int) (v,c,x,())) ((hM (q+2)).fZ v (0,([]:List I.D),()) (0,([]:aF),()) (jj (J I v.2.1 i) (e' (J I v.2.1 i)) (bO x) (dX x))) (AP v c x):=by
  have e5:qW (q+4) (i:Int) (v,c,x,())=some (0,((v.1,v.2.1.set i (jj (J I v.2.1 i) (e' (J I v.2.1 i)) (bO x) (dX x)),()),c,x,()),()):=by
   rw [qW,Lx]
   show Option.bind (aM v.2.1.length (i:Int)) (fun v1=>Lw (i:Int) (v,c,x,()) (v.2.1.set v1 (jj (J I v.2.1 v1) (e' (J I v.2.1 v1)) (bO x) (fk (J I v.2.1 v1)))))=_
   rw [bx bR.1]
   simp only [av]
   unfold Lw
   rw [bx (by rw [List.length_set];exact bR.1)]
   simp only [av]
   unfold SV
   rw [List.set_set,iM bR.1,if_pos rfl];rfl
  rw [e5,NJ hv _ _ bR.1 _ (WE _ _ _ _) (WG hv bR.1 _ _ _),GI hv bR.1]
  exact⟨0,_,rfl,rfl,fun _=>⟨p4,NK,r,i,hr,b3,hi,rfl⟩⟩
 by_cases h0:c.1=0
 ·rw [dt h0]
  exact hfin
 ·rw [cV h0]
  simp only [cond_true]
  by_cases hu:c.1=ew (J I v.2.1 i)
  ·rw [dt hu]
   simp only [cond_false]
   by_cases hn:bO x=ew (J I v.2.1 i)
   ·rw [dt hn]
    simp only [cond_false]
    cases mT c (dX x) with
    | false=>exact br.no 1 (by decide) rfl rfl
    | true=>exact hfin
   ·rw [cV hn]
    exact br.no 1 (by decide) rfl rfl
  ·rw [cV hu]
   exact br.no 1 (by decide) rfl rfl
def m2(x:aJ)(b k:Int):aJ:=(x.1,x.2.1,x.2.2.1,x.2.2.2.1,x.2.2.2.2.1,x.2.2.2.2.2.1,x.2.2.2.2.2.2.1,b,k,())
theorem aif(x:aJ)(b k:Int):(m2 x b k).1=x.1:=rfl
structure GJ(v:ae.D)(c:aH.D)(x:aI.D)(w:ae.D):Prop where
 out:(0≤bO x∧bO x≤400)∧(0≤dX x∧dX x≤24)∧c.1=0∧∃r i,l3 v.2.1 r∧bE r=0∧bd v.2.1 (bp r)=some i∧kindOf (J I v.2.1 i)=2∧w=(v.1,v.2.1.set i (m2 (J I v.2.1 i) (bO x) (dX x)),())∧fl w.2.1=0
theorem aih(v:ae.D)(c:aH.D)(x:aI.D)(hv:bz v)(hc:c9 c=true)(hx:gM x)(hk:az x=19):br v c x (Fq ((v,c,x,()),())) (sb (v,c,x,())) (GJ v c x):=by
 have b7:=hv.fP
 have hl:v.2.1.length≤1048576:=b7.len
 have au:=hx.path
 obtain ⟨q,hq,h9⟩:=iI 4
 show br v c x (LB (v,c,x,())) (sa (hM aP) v c x) _
 unfold LB sa
 show br v c x (Option.bind (eO (bO x,0,400,())) fun v1=>cond (!v1.1) _ (Option.bind (eO (dX x,0,24,())) _)) (cond (az x==15) _ (cond (az x==16) _ (Option.bind (eg (bO x,0,400,())) fun v2=>cond (!v2.1) _ (Option.bind (eg (dX x,0,24,())) _)))) _
 rw [b5 (show az x≠15 by omega),b5 (show az x≠16 by omega)]
 simp only [cond_true,cond_false]
 rw [jw,jv]
 simp only [av]
 rw [hq]
 cases hN:c0 (bO x) 0 400 with
 | false =>
  simp only [Bool.not_false,cond_true]
  rw [AN]
  exact br.no 22 (by decide) rfl rfl
 | true =>
 have p4:=dM.1 hN
 simp only [Bool.not_true,cond_false]
 rw [jw,jv]
 simp only [av]
 rw [AN]
 unfold zw
 cases j8:c0 (dX x) 0 24 with
 | false=>exact br.no 22 (by decide) rfl rfl
 | true =>
 have NK:=dM.1 j8
 simp only [Bool.not_true,cond_false]
 show br v c x (cond (c.1 != 0) _ _) (cond (az x==19) (cond (c.1 != 0) _ _) _) _
 rw [cF hk]
 simp only [cond_true]
 by_cases h0:c.1=0
 case neg =>
  rw [cV h0]
  exact br.no 1 (by decide) rfl rfl
 rw [dt h0]
 simp only [cond_false]
 rw [NI]
 unfold zx
 obtain ⟨r,⟨hr,xV⟩,fB,km,kn⟩:=sZ v c x true b7 hc (by omega)
 show br v c x _ (Option.bind (dv (v,c,da x,true,())) _) _
 rw [fB]
 simp only [av]
 show br v c x _ (cond (bE r != 0) (some (v,(bE r,[],()),())) _) _
 by_cases b3:bE r=0
 case neg =>
  rw [km b3,cV b3]
  simp only [av]
  rw [cV b3]
  exact br.no (bE r) b3 rfl rfl
 obtain ⟨i,hi,e5⟩:=kn b3
 have bR:=bT hi
 rw [e5,dt b3]
 simp only [cond_false,av]
 rw [show((0:Int) != 0)=false from rfl]
 simp only [cond_false]
 show br v c x _ (Option.bind (e_ (v,bp r,())) _) _
 rw [iK v _ hl hi,bx bR.1]
 simp only [av]
 show br v c x (cond (kindOf (J I v.2.1 i) != 2) (some (20,(v,c,x,()),())) (Fp ((i:Int),0,(v,c,x,()),()) (v.2.1.set i (m2 (J I v.2.1 i) (bO x) (eD (J I v.2.1 i))))))
  (cond (az x==15) _ (cond (az x==16) _ (cond (kindOf (J I v.2.1 i) != 2) (some (v,(20,[],()),())) ((hM (q+2)).fZ v (0,([]:List I.D),()) (0,([]:aF),()) (m2 (J I v.2.1 i) (bO x) (dX x)))))) _
 rw [b5 (show az x≠15 by omega),b5 (show az x≠16 by omega)]
 simp only [cond_false]
 by_cases gW:kindOf (J I v.2.1 i)=2
 case neg =>
  rw [cV gW]
  exact br.no 20 (by decide) rfl rfl
 rw [dt gW]
 simp only [cond_false]
 have hst:an 1000 (v.2.1.set i (m2 (J I v.2.1 i) (bO x) (dX x))):=(hv.st.set (k:=1) (i:=i) (y:=m2 (J I v.2.1 i) (bO x) (dX x)) bR.1 rfl (fun d ag=>hv.f_ i bR.1 d ag) (fun hk=>absurd gW hk) (Nat.le_add_right _ _) (Nat.le_add_right _ _)).mono (by omega)
 have e5:Fp ((i:Int),0,(v,c,x,()),()) (v.2.1.set i (m2 (J I v.2.1 i) (bO x) (eD (J I v.2.1 i))))=some (fl (v.2.1.set i (m2 (J I v.2.1 i) (bO x) (dX x))),((v.1,v.2.1.set i (m2 (J I v.2.1 i) (bO x) (dX x)),()),c,x,()),()):=by
  unfold Fp
  rw [bx (by rw [List.length_set];exact bR.1)]
  simp only [av]
  rw [List.set_set,iM bR.1,if_pos rfl]
  show LA ((i:Int),0,(v,c,x,()),()) (v.2.1.set i (m2 (J I v.2.1 i) (bO x) (dX x)))=_
  unfold LA
  show Option.bind (nM (((v.1,v.2.1.set i (m2 (J I v.2.1 i) (bO x) (dX x)),()),c,x,()),())) _=_
  rw [Ay (v.1,v.2.1.set i (m2 (J I v.2.1 i) (bO x) (dX x)),()) c x hst (by omega)];rfl
 rw [e5,NJ hv _ _ bR.1 _ (aif _ _ _) hst]
 exact⟨_,_,rfl,rfl,fun h=>⟨p4,NK,h0,r,i,hr,b3,hi,gW,rfl,h⟩⟩
end Go.LM.kD
