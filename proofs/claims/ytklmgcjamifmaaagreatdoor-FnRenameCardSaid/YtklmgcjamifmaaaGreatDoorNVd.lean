/- Calls on volumes: both sides come to the same. Conditions: each theorem's own hypotheses. -/
import Derived.Test.YtklmgcjamifmaaaGreatDoorNVc
set_option linter.unusedVariables false
set_option linter.unusedSimpArgs false
namespace Go.LM.kc
theorem Vz{n:Nat}(h:n≤68719476736):n+1<aR:=by unfold aR;omega
theorem xf{α : Type}{l:List α}{k:Nat}(h:k<l.length):l.drop k=l[k] :: l.drop (k+1):=List.drop_eq_getElem_cons h
def pD(y:aw.D)(id:aF):Bool:=br y.1 id
theorem VA(y:aw.D)(id:aF):Ej (y,id,())=some (pD y id,()):=rfl
def uW(id:aF):List aw.D→Nat→Int
 | [],_ => -1
 | y :: l,k=>cond (pD y id) (k:Int) (uW id l (k+1))
theorem agx(ys:List aw.D)(id:aF)(hn:ys.length≤68719476736):∀(r k m:Nat),k+r=ys.length→r<m →
  wN m ys id (ys.length:Int) (k:Int)=some (uW id (ys.drop k) k,()):=by
 intro r
 induction r with
 | zero =>
  intro k m hk hm
  obtain ⟨m,rfl⟩:∃q,m=q+1:=⟨m-1,by omega⟩
  simp only [wN,El]
  rw [cF (by omega),List.drop_of_length_le (by omega)];rfl
 | succ r ih =>
  intro k m hk hm
  obtain ⟨m,rfl⟩:∃q,m=q+1:=⟨m-1,by omega⟩
  have nE:k<ys.length:=by omega
  simp only [wN,El]
  rw [ch nE,bw nE]
  simp only [cond_true,av]
  rw [VA,va nE,xf nE]
  simp only [av,uW]
  cases pD ys[k] id
  ·simp only [cond_false]
   rw [df _ (by omega)]
   exact ih (k+1) m (by omega) (by omega)
  ·rfl
theorem VB(id:aF):∀(l:List aw.D) (k:Nat),(uW id l k = -1∧l.filter (fun y => !pD y id)=l)∨∃j,j<l.length∧uW id l k=((k+j:Nat):Int)∧(l.filter (fun y => !pD y id))=l.take j++(l.drop (j+1)).filter (fun y => !pD y id)
 | [],_=>.inl ⟨rfl,rfl⟩
 | y :: l,k=>by
  rw [List.filter_cons]
  unfold uW
  cases h:pD y id
  ·rcases VB id l (k+1) with⟨h1,h2⟩ | ⟨j,h1,h2,h3⟩
   ·exact .inl ⟨by simp only [cond_false];exact h1,by simp [h2]⟩
   ·exact .inr ⟨j+1,by simpa using h1,by simp only [cond_false];rw [h2];congr 1;omega,by simp [h3]⟩
  ·exact .inr ⟨0,by simp,by simp,by simp⟩
theorem agy(ys:List aw.D)(id:aF)(hn:ys.length≤68719476736):∀(r j i m:Nat) (xs:List aw.D),j+r=ys.length→i≤j→xs.length=ys.length→xs.drop j=ys.drop j→r<m →
  wP m id (i:Int) (j:Int) xs=some (xs.take i++(ys.drop j).filter (fun y => !pD y id),()):=by
 intro r
 induction r with
 | zero =>
  intro j i m xs hj ix hl ag hm
  obtain ⟨m,rfl⟩:∃q,m=q+1:=⟨m-1,by omega⟩
  simp only [wP,Eo]
  rw [cF (by omega),kp (by omega) (Nat.le_refl _)]
  simp only [cond_false,av,Sf,Nat.zero_add]
  generalize ((([]:List UInt8),0,()):aw.D)=z
  have hlen:(xs.take i++List.replicate (xs.length-i) z++xs.drop (i +(xs.length-i))).length=xs.length:=by
   simp;omega
  rw [show(0:Int)=((0:Nat):Int) from rfl,kp (Nat.zero_le _) (by rw [hlen];omega)]
  simp only [av,Nat.sub_zero,Nat.zero_add]
  rw [List.drop_of_length_le (l:=ys) (by omega),List.filter_nil,List.append_nil]
  congr 2
  unfold part
  rw [List.drop_zero,List.append_assoc,List.take_append_of_le_length (by simp;omega),List.take_take]
  simp
 | succ r ih =>
  intro j i m xs hj ix hl ag hm
  obtain ⟨m,rfl⟩:∃q,m=q+1:=⟨m-1,by omega⟩
  have hjl:j<xs.length:=by omega
  have xE:j<ys.length:=by omega
  have he:xs[j]=ys[j]∧xs.drop (j+1)=ys.drop (j+1):=by
   rw [xf hjl,xf xE] at ag
   exact List.cons.inj ag
  simp only [wP,Eo]
  rw [ch hjl,bw hjl]
  simp only [cond_true,av,Nat.zero_add]
  rw [VA,va hjl,he.1,xf xE,List.filter_cons]
  simp only [av]
  cases hh:pD ys[j] id
  ·simp only [Bool.not_false,cond_true,if_true]
   rw [bw (show i<xs.length by omega)]
   simp only [av,Nat.zero_add]
   rw [df _ (by omega),df _ (by omega),ih (j+1) (i+1) m (xs.set i ys[j]) (by omega) (by omega) (by simpa using hl) (by rw [List.drop_set_of_lt (by omega)];exact he.2) (by omega)]
   congr 2
   rw [List.take_add_one,List.take_set_of_le (Nat.le_refl _),List.getElem?_set_self (by omega)]
   simp
  ·simp only [Bool.not_true,cond_false,Bool.false_eq_true,if_false]
   rw [df _ (by omega)]
   exact ih (j+1) i m xs (by omega) (by omega) hl he.2 (by omega)
theorem agz(ys:List aw.D)(id:aF)(hn:room ys.length=true):Ep (ys,id,())=some (ys.filter (fun y => !pD y id),()):=by
 have hn:ys.length≤68719476736:=Nat.le_of_ble_eq_true hn
 show En _ ys id=_
 unfold En
 have hi:KJ (ys,id,())=some (uW id ys 0,()):=by
  have:=agx ys id hn ys.length 0 aR (by omega) (by have:=Vz hn;omega)
  rw [List.drop_zero] at this
  exact this
 rw [hi]
 simp only [av]
 rcases VB id ys 0 with⟨h1,h2⟩ | ⟨j,h1,h2,h3⟩
 ·rw [h1,h2];rfl
 ·rw [h2,h3,Nat.zero_add,show((j:Int) == -1)=false from by rw [beq_eq_false_iff_ne];omega]
  simp only [cond_false]
  rw [df _ (by omega)]
  exact agy ys id hn (ys.length-(j+1)) (j+1) j aR ys (by omega) (by omega) rfl rfl (by have:=Vz hn;omega)
theorem xg(v:af.D)(c:aH.D)(x:aK.D)(path:aF)(bZ:Bool)(hw:pz v.2.1)(hc:dm c=true)(au:path.length≤1048576) :
  ∃r,sj bZ v.2.1 r∧kH ((v,c,x,()),path,bZ,())=some (r,())∧fk (v,c,path,bZ,())=some (r,()):=by
 cases hk:pw path with
 | false =>
  refine⟨((0:Int),([]:aF),(0:Int),(22:Int),()),xa bZ _ (by decide) 0 0 (.inr trivial),?_,?_⟩
  ·show qB (v,c,x,()) path bZ=_
   unfold qB
   rw [FG _ (by omega),hk];rfl
  ·show rM v c path bZ=_
   unfold rM
   rw [zR,hk];rfl
 | true =>
  obtain ⟨r,bB,cc,gG⟩:=Vy v c path bZ hw hc hk
  refine⟨r,bB,?_,?_⟩
  ·show qB (v,c,x,()) path bZ=_
   unfold qB
   rw [FG _ (by omega),hk]
   simp only [av,Bool.not_true,cond_false]
   rw [cc];rfl
  ·show rM v c path bZ=_
   unfold rM
   rw [zR,hk]
   simp only [av,Bool.not_true,cond_false]
   rw [gG];rfl
theorem nu{s:aF} : br s []=true↔s=[]:=by unfold br;simp
theorem VC(v:af.D)(c:aH.D)(x:aK.D)(path:aF)(hw:pz v.2.1)(hc:dm c=true)(au:path.length≤1048576) :
  ∃r eJ code,uE ((v,c,x,()),path,())=some (r,code,())∧tI (v,c,path,())=some (eJ,code,())∧(code=0→eJ=r∧lF v.2.1 r∧bI r=2∧nameOf r≠[]):=by
 cases hk:pw path with
 | false =>
  refine⟨((0:Int),([]:aF),(0:Int),(22:Int),()),((0:Int),([]:aF),(0:Int),(0:Int),()),22,?_,?_,fun h=>by cases h⟩
  ·show zh (v,c,x,()) path=_
   unfold zh
   have:kH ((v,c,x,()),path,false,())=some (((0:Int),([]:aF),(0:Int),(22:Int),()),()):=by
    show qB (v,c,x,()) path false=_
    unfold qB
    rw [FG _ (by omega),hk];rfl
   rw [this];rfl
  ·show yI v c path=_
   unfold yI
   rw [zR,hk];rfl
 | true =>
  obtain ⟨r,bB,cc,gG⟩:=Vy v c path false hw hc hk
  have eS:uE ((v,c,x,()),path,())=cond (bI r==2) (cond (!(br (nameOf r) [])) (some (r,0,())) (cond (bI r==0) (some (r,17,())) (some (r,bI r,())))) (cond (bI r==0) (some (r,17,())) (some (r,bI r,()))):=by
   show zh (v,c,x,()) path=_
   unfold zh
   have:kH ((v,c,x,()),path,false,())=some (r,()):=by
    show qB (v,c,x,()) path false=_
    unfold qB
    rw [FG _ (by omega),hk]
    simp only [av,Bool.not_true,cond_false]
    rw [cc];rfl
   rw [this];rfl
  have dN:tI (v,c,path,())=cond (bI r==0) (some (r,17,())) (cond (bI r==2) (cond (!(br (nameOf r) [])) (some (r,0,())) (some (r,bI r,()))) (some (r,bI r,()))):=by
   show yI v c path=_
   unfold yI
   rw [zR,hk]
   simp only [av,Bool.not_true,cond_false]
   rw [gG];rfl
  rw [eS,dN]
  by_cases h0:bI r=0
  ·rw [cD h0,cd (show bI r≠2 by omega)]
   exact⟨r,r,17,rfl,rfl,fun h=>by cases h⟩
  ·rw [cd h0]
   by_cases h2:bI r=2
   ·rw [cD h2]
    cases hn:br (nameOf r) [] with
    | true=>exact⟨r,r,bI r,rfl,rfl,fun h=>absurd h h0⟩
    | false=>exact⟨r,r,0,rfl,rfl,fun _=>⟨rfl,bB.1,h2,fun h=>by rw [nu.2 h] at hn;cases hn⟩⟩
   ·rw [cd h2]
    exact⟨r,r,bI r,rfl,rfl,fun h=>absurd h h0⟩
def b0(x:aL)(N:List aw.D):aL:=(x.1,x.2.1,x.2.2.1,x.2.2.2.1,x.2.2.2.2.1,x.2.2.2.2.2.1,N,x.2.2.2.2.2.2.2.1,x.2.2.2.2.2.2.2.2.1,())
def dS(s:aF)(d:aw.D):Bool:=du d.1 s
def ins(N:List aw.D)(s:aF)(id:Int):List aw.D:=N.takeWhile (dS s)++[(s,id,())]++N.dropWhile (dS s)
theorem MV{α : Type}(p : α → Bool)(l:List α):l.take (l.takeWhile p).length=l.takeWhile p:=by
 have:=List.take_left' (l₁:=l.takeWhile p) (l₂:=l.dropWhile p) rfl
 rwa [List.takeWhile_append_dropWhile] at this
theorem FW{α : Type}(p : α → Bool)(l:List α):l.drop (l.takeWhile p).length=l.dropWhile p:=by
 have:=List.drop_left' (l₁:=l.takeWhile p) (l₂:=l.dropWhile p) rfl
 rwa [List.takeWhile_append_dropWhile] at this
theorem VD{α : Type}{p : α → Bool}{x : α} : ∀ {l:List α},x∈l.takeWhile p→p x=true
 | [],h=>by simp at h
 | y :: l,h=>by
  rw [List.takeWhile_cons] at h
  cases aO:p y
  ·rw [aO] at h;simp at h
  ·rw [aO] at h
   simp only [if_true,List.mem_cons] at h
   rcases h with rfl | h
   ·exact aO
   ·exact VD h
theorem VE{α : Type}{p : α → Bool}{x : α}{r:List α} : ∀ {l:List α},l.dropWhile p=x :: r→p x=false
 | [],h=>by simp at h
 | y :: l,h=>by
  rw [List.dropWhile_cons] at h
  cases aO:p y
  ·rw [aO] at h
   simp only [Bool.false_eq_true,if_false] at h
   injection h with h1 h2
   rw [← h1];exact aO
  ·rw [aO] at h
   simp only [if_true] at h
   exact VE h
theorem MW{α : Type}(p : α → Bool)(l:List α):(l.takeWhile p).length≤l.length:=by
 have:=congrArg List.length (List.takeWhile_append_dropWhile (p:=p) (l:=l))
 rw [List.length_append] at this;omega
theorem xh(N:List aw.D)(s:aF)(id:Int):(ins N s id).length=N.length+1:=by
 have:=congrArg List.length (List.takeWhile_append_dropWhile (p:=dS s) (l:=N))
 rw [List.length_append] at this
 unfold ins
 simp only [List.length_append,List.length_cons,List.length_nil];omega
theorem VF{N:List aw.D}{s:aF} : ∀ {j:Nat},j<(N.takeWhile (dS s)).length→du (J aw N j).1 s=true:=by
 intro j hj
 have FX:j<N.length:=Nat.lt_of_lt_of_le hj (MW _ _)
 have h1:(N.takeWhile (dS s))[j]∈N.takeWhile (dS s):=List.getElem_mem hj
 have h2:=VD h1
 have e:(N.takeWhile (dS s))[j]=J aw N j:=by
  rw [c7 FX]
  have:=List.takeWhile_append_dropWhile (p:=dS s) (l:=N)
  have h3:(N.takeWhile (dS s)++N.dropWhile (dS s))[j]?=N[j]?:=by rw [this]
  rw [List.getElem?_append_left hj,List.getElem?_eq_getElem hj,List.getElem?_eq_getElem FX] at h3
  exact aV h3
 rw [e] at h2
 exact h2
theorem VG{N:List aw.D}{s:aF}(h:(N.takeWhile (dS s)).length<N.length):du (J aw N (N.takeWhile (dS s)).length).1 s=false:=by
 have h1:=FW (dS s) N
 have h2:=xf h
 rw [h1] at h2
 rw [c7 h]
 exact VE (p:=dS s) h2
theorem MX(v:af.D)(c:aH.D)(x:aK.D)(dir:Int)(s:aF)(id:Int)(hl:v.2.1.length≤1048576){i:Nat}(h:bl v.2.1 dir=some i)(hn:(ak (J I v.2.1 i)).length≤1048576) :
  r7 ((v,c,x,()),dir,s,id,())=some (((v.1,v.2.1.set i (b0 (J I v.2.1 i) (ins (ak (J I v.2.1 i)) s id)),()),c,x,()),()):=by
 show Eh (r6 aR) (v,c,x,()) dir s id=_
 unfold Eh
 rw [MO v dir hl,h]
 simp only [av,gQ]
 obtain ⟨hi,b3⟩:=bS h
 generalize hN:ak (J I v.2.1 i)=N at hn
 have cl:=MW (dS s) N
 have lv:∀m,(r6 (m+1)).bh s id (i:Int) ((N.takeWhile (dS s)).length:Int) (v,c,x,())=some (((v.1,v.2.1.set i (b0 (J I v.2.1 i) (ins N s id)),()),c,x,()),()):=by
  intro m
  show KE (r6 m) s id (i:Int) ((N.takeWhile (dS s)).length:Int) (v,c,x,())=_
  unfold KE
  rw [bw hi]
  simp only [av,Nat.beq_refl,cond_true]
  show Option.bind (insF (ak (J I v.2.1 i)) ((N.takeWhile (dS s)).length:Int) [(s,id,())]) _=_
  rw [hN]
  unfold insF
  rw [if_pos ⟨Int.natCast_nonneg _,Int.ofNat_le.2 cl,rfl,by omega⟩]
  simp only [av,Int.toNat_natCast]
  rw [MV,FW]
  rfl
 have pE:=ow 1 (fun m j=>(r6 m).k2 s id (i:Int) (j:Int) (v,c,x,())) (some (((v.1,v.2.1.set i (b0 (J I v.2.1 i) (ins N s id)),()),c,x,()),())) (N.takeWhile (dS s)).length 2 (fun j hj B y he=>he.step fun m=>by
  show zi (r6 m) s id (i:Int) (j:Int) (v,c,x,())=_
  unfold zi
  rw [bw hi]
  simp only [av]
  show cond (decide ((j:Int)<((ak (J I v.2.1 i)).length:Int))) ((aN (ak (J I v.2.1 i)).length (j:Int)).bind fun v3=>cond (du (J aw (ak (J I v.2.1 i)) v3).1 s) _ _) _=_
  rw [hN,ch (by omega),bw (by omega)]
  simp only [cond_true,av]
  rw [VF hj,df j (by omega)];rfl) (b2.now 2 fun m=>by
  show zi (r6 (m+1)) s id (i:Int) ((N.takeWhile (dS s)).length:Int) (v,c,x,())=_
  unfold zi
  rw [bw hi]
  simp only [av]
  show cond (decide (((N.takeWhile (dS s)).length:Int)<((ak (J I v.2.1 i)).length:Int))) ((aN (ak (J I v.2.1 i)).length ((N.takeWhile (dS s)).length:Int)).bind fun v3=>cond (du (J aw (ak (J I v.2.1 i)) v3).1 s) _ _) _=_
  rw [hN]
  rcases Nat.lt_or_ge (N.takeWhile (dS s)).length N.length with h1 | h1
  ·rw [ch h1,bw h1]
   simp only [cond_true,av]
   rw [VG h1]
   exact lv m
  ·rw [cF h1]
   exact lv m)
 exact kM pE (by omega)
def b9(N:List aw.D)(s:aF):List aw.D:=N.filter fun d => !br d.1 s
def goN(l:List aL)(id:Int):List aL:=cond (decide (cg l id=0)) (l.filter fun y => !(y.1==id)) l
theorem FY{l:List aL}{i:Nat}{y:aL}(hi:i<l.length):dr (l.set i y) +(ak (J I l i)).length=dr l +(ak y).length:=by
 unfold dr
 induction l generalizing i with
 | nil=>simp at hi
 | cons z l ih =>
  cases i with
  | zero=>simp only [List.set_cons_zero,List.map_cons,List.sum_cons];show _ +(ak z).length=_;omega
  | succ i =>
   have:=ih (i:=i) (by simpa using hi)
   simp only [List.set_cons_succ,List.map_cons,List.sum_cons]
   show _ +(ak (J I l i)).length=_
   omega
theorem iR(x:aL)(N:List aw.D):ak (b0 x N)=N:=rfl
theorem uX(N:List aw.D)(s:aF):(b9 N s).length≤N.length:=List.length_filter_le _ _
theorem MY(v:af.D)(c:aH.D)(x:aK.D)(dir:Int)(s:aF)(goes:Bool)(hl:v.2.1.length≤1048576)(hm:dr v.2.1≤1048576){i:Nat}(h:bl v.2.1 dir=some i) :
  oi ((v,c,x,()),dir,s,goes,())=some (((v.1,cond goes (goN (v.2.1.set i (b0 (J I v.2.1 i) (b9 (ak (J I v.2.1 i)) s))) (dE (ak (J I v.2.1 i)) s)) (v.2.1.set i (b0 (J I v.2.1 i) (b9 (ak (J I v.2.1 i)) s))),()),c,x,()),()):=by
 show KL (v,c,x,()) dir s goes=_
 unfold KL
 rw [MO v dir hl,h]
 simp only [av,gQ]
 obtain ⟨hi,b3⟩:=bS h
 have hn:=Nat.le_trans (fM hi) hm
 rw [bw hi]
 simp only [av,Nat.beq_refl,cond_true]
 rw [U9 _ _ hn]
 simp only [av]
 show Option.bind (Ep (ak (J I v.2.1 i),s,())) _=_
 rw [agz _ _ (cG (by omega))]
 simp only [av]
 show KK goes ((i:Int),v,()) (dE (ak (J I v.2.1 i)) s,()) (v,c,x,()) (v.2.1.set i (b0 (J I v.2.1 i) (b9 (ak (J I v.2.1 i)) s)))=_
 have pn:(v.2.1.set i (b0 (J I v.2.1 i) (b9 (ak (J I v.2.1 i)) s))).length≤1048576:=by rw [List.length_set];exact hl
 have nv:dr (v.2.1.set i (b0 (J I v.2.1 i) (b9 (ak (J I v.2.1 i)) s)))≤1048576:=by
  have:=FY (l:=v.2.1) (y:=b0 (J I v.2.1 i) (b9 (ak (J I v.2.1 i)) s)) hi
  rw [iR] at this
  have:=uX (ak (J I v.2.1 i)) s
  omega
 generalize v.2.1.set i (b0 (J I v.2.1 i) (b9 (ak (J I v.2.1 i)) s))=l at pn nv
 generalize dE (ak (J I v.2.1 i)) s=id
 unfold KK
 cases goes
 ·rfl
 ·simp only [cond_true]
  show Option.bind (wI (((v.1,l,()):af.D),id,())) _=_
  rw [Fq (v.1,l,()) id pn nv]
  simp only [av]
  unfold goN
  by_cases h0:cg l id=0
  ·rw [show(((cg l id:Nat):Int)==0)=true by rw [h0];rfl,decide_eq_true h0]
   simp only [cond_true]
   show Option.bind (cond (room l.length) _ none) _=_
   rw [cG (by omega)];rfl
  ·rw [show(((cg l id:Nat):Int)==0)=false by rw [beq_eq_false_iff_ne];omega,decide_eq_false h0];rfl
theorem FZ(v:af.D)(n:aL)(hl:v.2.1.length≤1048576){i:Nat}(h:bl v.2.1 n.1=some i):n9 (v,n,())=some ((v.1,v.2.1.set i n,()),()):=by
 show yO v n=_
 unfold yO
 rw [nn v _ hl,h]
 simp only [av]
 rw [show decide (gQ (some i)<0)=false from zH]
 simp only [cond_false,gQ]
 rw [bw (bS h).1]
 simp only [av,Nat.zero_add]
theorem agA(v:af.D)(n:aL)(hl:v.2.1.length≤1048576)(h:bl v.2.1 n.1=none):n9 (v,n,())=some ((v.1,v.2.1++[n],()),()):=by
 show yO v n=_
 unfold yO
 rw [nn v _ hl,h]
 simp only [av,zH,Option.isNone_none,cond_true]
 rw [cG (by simp;omega)];rfl
theorem MZ(v:af.D)(dir:Int)(s:aF)(id:Int)(hl:v.2.1.length≤1048576){i:Nat}(h:bl v.2.1 dir=some i)(hn:(ak (J I v.2.1 i)).length≤1048576)(hs:∀d,d∈ak (J I v.2.1 i)→d.1≠s) :
  rL (v,dir,s,id,())=some ((v.1,v.2.1.set i (b0 (J I v.2.1 i) (ins (ak (J I v.2.1 i)) s id)),()),()):=by
 show CL (im aR) v dir s id=_
 unfold CL
 rw [jg v dir hl h]
 simp only [av]
 obtain ⟨hi,b3⟩:=bS h
 generalize hN:ak (J I v.2.1 i)=N at hn hs
 have cl:=MW (dS s) N
 have hw:bl v.2.1 (b0 (J I v.2.1 i) (ins N s id)).1=some i:=by rw [show(b0 (J I v.2.1 i) (ins N s id)).1=dir from b3];exact h
 have VH:∀m,(im (m+1)).mb v (0,([]:List I.D),()) (J I v.2.1 i) (ins N s id)=some ((v.1,v.2.1.set i (b0 (J I v.2.1 i) (ins N s id)),()),()):=by
  intro m
  show Ju (im m) v (0,([]:List I.D),()) (J I v.2.1 i) (ins N s id)=_
  unfold Ju
  show Option.bind (n9 (v,b0 (J I v.2.1 i) (ins N s id),())) _=_
  rw [FZ v _ hl hw];rfl
 have agB:∀(r j:Nat) (acc:List aw.D),j+r=N.length→acc++N.drop j=ins N s id→acc.length≤j+1→b2 (fun m=>(im m).bu s id true (j:Int) v (0,([]:List I.D),()) (J I v.2.1 i) acc) (2*r+2) (some ((v.1,v.2.1.set i (b0 (J I v.2.1 i) (ins N s id)),()),())):=by
  intro r
  induction r with
  | zero =>
   intro j acc hj he ha
   refine b2.now 2 fun m=>?_
   show n_ (im (m+1)) s id true (j:Int) v (0,([]:List I.D),()) (J I v.2.1 i) acc=_
   unfold n_
   show cond (decide ((j:Int)<((ak (J I v.2.1 i)).length:Int))) _ _=_
   rw [hN,cF (by omega)]
   rw [List.drop_of_length_le (by omega),List.append_nil] at he
   rw [he]
   exact VH m
  | succ r ih =>
   intro j acc hj he ha
   have hjl:j<N.length:=by omega
   have:=ih (j+1) (acc++[J aw N j]) (by omega) (by rw [List.append_assoc,List.singleton_append,← drop_cons (t:=aw) hjl];exact he) (by simp;omega)
   refine(this.jump (f:=fun m=>(im m).bu s id true (j:Int) v (0,([]:List I.D),()) (J I v.2.1 i) acc) 2 fun m=>?_).mono (by omega)
   show n_ (im (m+1)) s id true (j:Int) v (0,([]:List I.D),()) (J I v.2.1 i) acc=_
   unfold n_
   show cond (decide ((j:Int)<((ak (J I v.2.1 i)).length:Int))) _ _=_
   rw [hN,ch hjl]
   simp only [cond_true,Bool.not_true,cond_false]
   show tN (im m) s id true (j:Int) v (0,([]:List I.D),()) (J I v.2.1 i) acc=_
   unfold tN
   show Option.bind (aN (ak (J I v.2.1 i)).length (j:Int)) (fun v1=>cond (room (acc.length+1)) ((im m).bu s id true (aG ((j:Int)+1)) v (0,([]:List I.D),()) (J I v.2.1 i) (acc++[J aw (ak (J I v.2.1 i)) v1])) none)=_
   rw [hN,bw hjl]
   simp only [av]
   rw [cG (by omega),df j (by omega)];rfl
 have pE:=ow 2 (fun m j=>(im m).bu s id false (j:Int) v (0,([]:List I.D),()) (J I v.2.1 i) (N.take j)) (some ((v.1,v.2.1.set i (b0 (J I v.2.1 i) (ins N s id)),()),())) (N.takeWhile (dS s)).length (2*N.length+8) (fun j hj B y he=>(he.jump (f:=fun m=>(im m).bu s id false (j:Int) v (0,([]:List I.D),()) (J I v.2.1 i) (N.take j)) 2 fun m=>by
  have hjl:j<N.length:=by omega
  show n_ (im (m+1)) s id false (j:Int) v (0,([]:List I.D),()) (J I v.2.1 i) (N.take j)=_
  unfold n_
  show cond (decide ((j:Int)<((ak (J I v.2.1 i)).length:Int))) (cond (!false) ((aN (ak (J I v.2.1 i)).length (j:Int)).bind fun v1=>cond (du s (J aw (ak (J I v.2.1 i)) v1).1) _ _) _) _=_
  rw [hN,ch hjl,bw hjl]
  simp only [cond_true,Bool.not_false,av]
  rw [Vn (VF hj)]
  simp only [cond_false]
  show tN (im m) s id false (j:Int) v (0,([]:List I.D),()) (J I v.2.1 i) (N.take j)=_
  unfold tN
  show Option.bind (aN (ak (J I v.2.1 i)).length (j:Int)) (fun v1=>cond (room ((N.take j).length+1)) ((im m).bu s id false (aG ((j:Int)+1)) v (0,([]:List I.D),()) (J I v.2.1 i) (N.take j++[J aw (ak (J I v.2.1 i)) v1])) none)=_
  rw [hN,bw hjl]
  simp only [av]
  rw [cG (by rw [List.length_take];omega),df j (by omega),c7 hjl,← List.take_succ_eq_append_getElem hjl];rfl)) (by
  rcases Nat.lt_or_ge (N.takeWhile (dS s)).length N.length with h1 | h1
  ·
   generalize hj:(N.takeWhile (dS s)).length=j at h1 cl
   have qT:N.take j++[(s,id,())]++N.drop j=ins N s id:=by rw [← hj,MV,FW];rfl
   have cz:du s (J aw N j).1=true:=by
    have:=VG (N:=N) (s:=s) (by omega)
    rw [hj] at this
    rw [MT (hs _ (cE h1)),this];rfl
   have:=agB (N.length-(j+1)) (j+1) (N.take j++[(s,id,())]++[J aw N j]) (by omega) (by rw [List.append_assoc _ [J aw N j],List.singleton_append,← drop_cons (t:=aw) h1];exact qT) (by simp;omega)
   refine(this.jump (f:=fun m=>(im m).bu s id false (j:Int) v (0,([]:List I.D),()) (J I v.2.1 i) (N.take j)) 2 fun m=>?_).mono (by omega)
   show n_ (im (m+1)) s id false (j:Int) v (0,([]:List I.D),()) (J I v.2.1 i) (N.take j)=_
   unfold n_
   show cond (decide ((j:Int)<((ak (J I v.2.1 i)).length:Int))) (cond (!false) ((aN (ak (J I v.2.1 i)).length (j:Int)).bind fun v1=>cond (du s (J aw (ak (J I v.2.1 i)) v1).1) _ _) _) _=_
   rw [hN,ch h1,bw h1]
   simp only [cond_true,Bool.not_false,av]
   rw [cz]
   simp only [cond_true]
   rw [cG (by simp;omega)]
   simp only [cond_true]
   show tN (im m) s id true (j:Int) v (0,([]:List I.D),()) (J I v.2.1 i) (N.take j++[(s,id,())])=_
   unfold tN
   show Option.bind (aN (ak (J I v.2.1 i)).length (j:Int)) (fun v1=>cond (room ((N.take j++[(s,id,())]).length+1)) ((im m).bu s id true (aG ((j:Int)+1)) v (0,([]:List I.D),()) (J I v.2.1 i) ((N.take j++[(s,id,())])++[J aw (ak (J I v.2.1 i)) v1])) none)=_
   rw [hN,bw h1]
   simp only [av]
   rw [cG (by simp;omega),df j (by omega)];rfl
  ·
   have hj:(N.takeWhile (dS s)).length=N.length:=by omega
   have qT:N++[(s,id,())]=ins N s id:=by
    unfold ins
    rw [← FW,← MV,hj,List.take_length,List.drop_length,List.append_nil]
   rw [hj,List.take_length]
   refine(b2.now 2 fun m=>?_).mono (by omega)
   show n_ (im (m+1)) s id false (N.length:Int) v (0,([]:List I.D),()) (J I v.2.1 i) N=_
   unfold n_
   show cond (decide ((N.length:Int)<((ak (J I v.2.1 i)).length:Int))) _ _=_
   rw [hN,cF (Nat.le_refl _)]
   simp only [cond_false,Bool.not_false,cond_true]
   rw [cG (by simp;omega),qT]
   exact VH m)
 exact kM pE (by omega)
theorem gR{l:List aL}{i j:Nat}{y:aL}(hi:i<l.length):J I (l.set i y) j=if i=j then y else J I l j:=by
 by_cases hj:j<l.length
 ·rw [c7 (by rw [List.length_set];exact hj),c7 hj,List.getElem_set]
 ·rw [if_neg (by omega)]
  unfold J
  rw [List.getD_eq_getElem?_getD,List.getD_eq_getElem?_getD,List.getElem?_eq_none (by rw [List.length_set];omega),List.getElem?_eq_none (by omega)]
theorem VI{n:Nat}{P Q:Nat→Bool}(h:∀i,i<n→P i=Q i):e7 n P=e7 n Q:=by
 cases hq:e7 n Q with
 | none=>exact lD.2 fun i hi=>by rw [h i hi];exact lD.1 hq i hi
 | some k =>
  obtain ⟨h1,h2,h3⟩:=hT.1 hq
  exact hT.2 ⟨h1,by rw [h k h1];exact h2,fun j hj=>by rw [h j (by omega)];exact h3 j hj⟩
theorem F2{l:List aL}{i:Nat}{y:aL}(hi:i<l.length)(aO:y.1=(J I l i).1)(id:Int):bl (l.set i y) id=bl l id:=by
 unfold bl
 rw [List.length_set]
 refine VI fun j hj=>?_
 rw [gR hi]
 split
 ·rename_i h;rw [aO,h]
 ·rfl
def zV(l:List aL):Prop:=l.Pairwise fun a b=>aX a≠aX b
theorem zW{l:List aL} : hV l↔zV l:=by
 unfold zV
 rw [List.pairwise_iff_getElem]
 constructor
 ·intro h i j hi hj ix he
  have h1:=h i hi
  have h2:=h j hj
  rw [c7 hi] at h1
  rw [c7 hj] at h2
  have:(l[i]).1=(l[j]).1:=he
  rw [this,h2] at h1
  have:=aV h1
  omega
 ·intro h x hx
  unfold bl
  rw [hT]
  refine⟨hx,by simp,fun j hj=>?_⟩
  rw [beq_eq_false_iff_ne,c7 hx,c7 (i:=j) (by omega)]
  exact h j x (by omega) hx hj
theorem nw{l:List aL}{id:Int} :(bl l id).isSome=true↔∃x,x∈l∧x.1=id:=by
 constructor
 ·intro h
  obtain ⟨i,hi⟩:=Option.isSome_iff_exists.1 h
  obtain ⟨h1,h2⟩:=bS hi
  exact⟨_,cE h1,h2⟩
 ·rintro ⟨x,hx,he⟩
  obtain ⟨i,hi,aA⟩:=e8 hx
  cases h:bl l id with
  | some k=>rfl
  | none =>
   have:=lD.1 h i hi
   rw [aA,he] at this
   simp at this
theorem agC{l:List aL}{n:aL}{id:Int}{i:Nat}(h:bl l id=some i):bl (l++[n]) id=some i:=by
 obtain ⟨h1,h2,h3⟩:=hT.1 h
 have aA:∀j,j<l.length→J I (l++[n]) j=J I l j:=fun j hj=>by rw [c7 (by simp;omega),c7 hj,List.getElem_append_left hj]
 exact hT.2 ⟨by simp;omega,by rw [aA i h1];exact h2,fun j hj=>by rw [aA j (by omega)];exact h3 j hj⟩
theorem M0{l:List aL}{n:aL}{j:Nat}(hj:j<l.length):J I (l++[n]) j=J I l j:=by rw [c7 (by simp;omega),c7 hj,List.getElem_append_left hj]
theorem VJ{l:List aL}{n y:aL}{i:Nat}(hi:i<l.length):(l++[n]).set i y=l.set i y++[n]:=by rw [List.set_append_left _ _ hi]
theorem F3{l:List aL}{id:Int}(h:cg l id=0):∀x,x∈l→∀d,d∈ak x→d.2.1≠id:=by
 intro x hx d ag he
 have h1:dq (ak x) id≤cg l id:=by
  unfold cg
  exact FB (f:=fun x=>dq (ak x) id) hx
 have h2:d∈(ak x).filter fun d=>d.2.1==id:=List.mem_filter.2 ⟨ag,by simpa using he⟩
 have h3:0<dq (ak x) id:=List.length_pos_of_mem h2
 omega
theorem VK{l:List aL}{i:Nat}{y:aL}(hi:i<l.length):bytesOf (l.set i y) +(bM (J I l i)).length=bytesOf l +(bM y).length:=by
 unfold bytesOf
 induction l generalizing i with
 | nil=>simp at hi
 | cons z l ih =>
  cases i with
  | zero=>simp only [List.set_cons_zero,List.map_cons,List.sum_cons];show _ +(bM z).length=_;omega
  | succ i =>
   have:=ih (i:=i) (by simpa using hi)
   simp only [List.set_cons_succ,List.map_cons,List.sum_cons]
   show _ +(bM (J I l i)).length=_
   omega
theorem F4{α : Type}(f : α → Nat)(p : α → Bool):∀l:List α,((l.filter p).map f).sum≤(l.map f).sum
 | []=>Nat.le_refl _
 | x :: l=>by
  have:=F4 f p l
  rw [List.filter_cons]
  split
  ·simp only [List.map_cons,List.sum_cons];omega
  ·simp only [List.map_cons,List.sum_cons];omega
structure aq(B:Nat)(l:List aL):Prop where
 len:l.length≤B
 cH:dr l≤B
 bytes:bytesOf l≤B
 fO:hV l
 hp:qM l
 bare:∀i,i<l.length→kindOf (J I l i)≠2→eM (J I l i)=0∧ez (J I l i)=0∧ak (J I l i)=[]
theorem aq.mono{B mO:Nat}{l:List aL}(h:aq B l)(hb:B≤mO):aq mO l:=⟨Nat.le_trans h.len hb,Nat.le_trans h.cH hb,Nat.le_trans h.bytes hb,h.fO,h.hp,h.bare⟩
theorem bH.cH{v:af.D}(h:bH v):dr v.2.1≤288:=by
 have key:∀l:List aL,(∀x,x∈l→(ak x).length≤12)→dr l≤l.length*12:=by
  intro l
  induction l with
  | nil=>intro _;exact Nat.le_refl _
  | cons x l ih =>
   intro hx
   have h1:=hx x List.mem_cons_self
   have h2:=ih fun y aO=>hx y (List.mem_cons_of_mem _ aO)
   show(ak x).length+dr l≤(l.length+1)*12
   omega
 have:=key v.2.1 fun x hx=>by
  obtain ⟨i,hi,he⟩:=e8 hx
  have h1:=h.ino i hi
  rw [he] at h1
  by_cases hk:kindOf x=2
  ·exact(h1.dir hk).2.2.2
  ·rw [(h1.plain hk).2.2];simp
 have:=h.len
 omega
theorem bH.st{v:af.D}(h:bH v):aq 400 v.2.1 :=
 ⟨by have:=h.len;omega,by have:=h.cH;omega,h.bytes,h.fO,h.hp,fun i hi hk=>(h.ino i hi).plain hk⟩
theorem F5{l:List aL} : qM l↔∀x,x∈l→∀d,d∈ak x→∃y,y∈l∧y.1=d.2.1:=by
 constructor
 ·intro h x hx d ag
  obtain ⟨i,hi,he⟩:=e8 hx
  exact nw.1 (h i hi d (by rw [he];exact ag))
 ·intro h i hi d ag
  exact nw.2 (h _ (cE hi) d ag)
theorem aq.set{B k:Nat}{l:List aL}{i:Nat}{y:aL}(h:aq B l)(hi:i<l.length)(aO:y.1=(J I l i).1)(hex:∀d,d∈ak y→(bl l d.2.1).isSome=true)
  (hb:kindOf y≠2→eM y=0∧ez y=0∧ak y=[]) (hn:(ak y).length≤(ak (J I l i)).length+k) (ag:(bM y).length≤(bM (J I l i)).length+k):aq (B+k) (l.set i y):=by
 have h1:=FY (l:=l) (y:=y) hi
 have h2:=VK (l:=l) (y:=y) hi
 have h3:=h.cH
 have h4:=h.bytes
 have a7:=h.len
 refine⟨by rw [List.length_set];omega,by omega,by omega,fun x hx=>?_,fun j hj d ag=>?_,fun j hj hk=>?_⟩
 ·rw [List.length_set] at hx
  rw [F2 hi aO,gR hi]
  split
  ·rename_i he;subst he;rw [aO];exact h.fO i hx
  ·exact h.fO x hx
 ·rw [List.length_set] at hj
  rw [gR hi] at ag
  rw [F2 hi aO]
  split at ag
  ·exact hex d ag
  ·exact h.hp j hj d ag
 ·rw [List.length_set] at hj
  rw [gR hi] at hk ⊢
  split at hk
  ·rename_i he;rw [if_pos he];exact hb hk
  ·rename_i he;rw [if_neg he];exact h.bare j hj hk
theorem agD{l:List aL}(p:aL→Bool)(h:zV l):zV (l.filter p):=List.Pairwise.sublist (List.filter_sublist) h
theorem aq.go{B:Nat}{l:List aL}(h:aq B l)(id:Int):aq B (goN l id):=by
 unfold goN
 by_cases h0:cg l id=0
 ·rw [decide_eq_true h0]
  simp only [cond_true]
  refine⟨Nat.le_trans (List.length_filter_le _ _) h.len,Nat.le_trans (F4 _ _ _) h.cH,Nat.le_trans (F4 _ _ _) h.bytes,zW.2 (agD _ (zW.1 h.fO)),F5.2 fun x hx d ag=>?_,fun i hi hk=>?_⟩
  ·have hx:=(List.mem_filter.1 hx).1
   obtain ⟨y,aO,he⟩:=F5.1 h.hp x hx d ag
   refine⟨y,List.mem_filter.2 ⟨aO,?_⟩,he⟩
   have:=F3 h0 x hx d ag
   rw [Bool.not_eq_true',beq_eq_false_iff_ne,he];exact this
  ·have hx:=(List.mem_filter.1 (cE (t:=I) hi)).1
   obtain ⟨j,hj,he⟩:=e8 hx
   rw [← he] at hk ⊢
   exact h.bare j hj hk
 ·rw [decide_eq_false h0];exact h
theorem aq.app{B k:Nat}{l:List aL}{n:aL}(h:aq B l)(b3:bl l n.1=none)(hn:ak n=[])(ag:(bM n).length≤k)(hk:1≤k)(hb:kindOf n≠2→eM n=0∧ez n=0):aq (B+k) (l++[n]):=by
 have h3:=h.cH
 have h4:=h.bytes
 have a7:=h.len
 refine⟨by simp;omega,by unfold dr at *;simp [hn];omega,by unfold bytesOf at *;simp;omega,zW.2 ?_,F5.2 fun x hx d i_=>?_,fun i hi hk=>?_⟩
 ·refine List.pairwise_append.2 ⟨zW.1 h.fO,List.pairwise_singleton _ _,fun a ha b dA he=>?_⟩
  simp only [List.mem_singleton] at dA
  subst dA
  have:(bl l b.1).isSome=true:=nw.2 ⟨a,ha,he⟩
  rw [b3] at this;cases this
 ·rcases List.mem_append.1 hx with hx | hx
  ·obtain ⟨y,aO,he⟩:=F5.1 h.hp x hx d i_
   exact⟨y,List.mem_append_left _ aO,he⟩
  ·simp only [List.mem_singleton] at hx
   subst hx
   rw [hn] at i_;simp at i_
 ·rcases Nat.lt_or_ge i l.length with hl | hl
  ·rw [M0 hl] at hk ⊢;exact h.bare i hl hk
  ·have:i=l.length:=by simp at hi;omega
   subst this
   have he:J I (l++[n]) l.length=n:=by rw [c7 (by simp)];simp
   rw [he] at hk ⊢
   exact⟨(hb hk).1,(hb hk).2,hn⟩
def e_(l:List aL):Int:=cond (decide ((bytesOf l:Int)>400)) 28 (cond (ga l) 122 0)
theorem zX{B:Nat}(v:af.D)(c:aH.D)(x:aK.D)(h:aq B v.2.1)(fp:B≤1048576):nd ((v,c,x,()),())=some (e_ v.2.1,()):=by
 have h1:=Nat.le_trans h.len fp
 have h2:=Nat.le_trans h.cH fp
 have h3:=Nat.le_trans h.bytes fp
 show KF (v,c,x,())=_
 unfold KF e_
 show Option.bind (r0 (v,())) _=_
 rw [Mu v h1 h3]
 simp only [av]
 show cond _ _ (Option.bind (ze (v.2.1,v,())) _)=_
 rw [UX v h1 h2 h3 h.fO h.hp]
 simp only [av]
 cases decide ((bytesOf v.2.1:Int)>400) <;> cases ga v.2.1 <;> rfl
theorem agE{B:Nat}(v:af.D)(h:aq B v.2.1)(fp:B≤1048576):Js (v,())=some (e_ v.2.1,()):=by
 have h1:=Nat.le_trans h.len fp
 have h2:=Nat.le_trans h.cH fp
 have h3:=Nat.le_trans h.bytes fp
 show Jr v=_
 unfold Jr e_
 rw [Mt v h1 h3]
 simp only [av]
 rw [UY v h1 h2 h3 (fun i hi hk=>⟨(h.bare i hi hk).1,(h.bare i hi hk).2.1⟩)]
 simp only [av]
 cases decide ((bytesOf v.2.1:Int)>400) <;> cases ga v.2.1 <;> rfl
theorem zY{B:Nat}(u v:af.D)(h:aq B v.2.1)(fp:B≤1048576):qm (u,v,())=some (cond (e_ v.2.1==0) v u,(e_ v.2.1,[],()),()):=by
 show Jt u v=_
 unfold Jt
 rw [agE v h fp]
 simp only [av]
 by_cases h0:e_ v.2.1=0
 ·rw [dC h0,cD h0,h0];rfl
 ·rw [cY h0,cd h0];rfl
def zZ:List aw.D→aF→Int
 | [],_=>0
 | d :: r,s=>cond (br d.1 s) d.2.1 (zZ r s)
theorem agF{n:Nat}{P:Nat→Bool} : e7 (n+1) P=cond (P 0) (some 0) ((e7 n fun i=>P (i+1)).map (· + 1)):=by
 cases h0:P 0
 ·simp only [cond_false]
  cases h:e7 n fun i=>P (i+1) with
  | none =>
   refine lD.2 fun i hi=>?_
   cases i with
   | zero=>exact h0
   | succ i=>exact lD.1 h i (by omega)
  | some k =>
   obtain ⟨h1,h2,h3⟩:=hT.1 h
   refine hT.2 ⟨show k+1<n+1 by omega,h2,fun j hj=>?_⟩
   have hj:j<k+1:=hj
   cases j with
   | zero=>exact h0
   | succ j=>exact h3 j (by omega)
 ·exact hT.2 ⟨by omega,h0,fun j hj=>by omega⟩
theorem look_eq(s:aF):∀N:List aw.D,dE N s=zZ N s
 | []=>rfl
 | d :: r=>by
  unfold dE zZ
  rw [List.length_cons,agF]
  show zS (d :: r) (cond (br d.1 s) _ _)=_
  cases ag:br d.1 s
  ·simp only [cond_false]
   rw [← look_eq s r]
   unfold dE
   show zS (d :: r) ((e7 r.length (qP r s)).map (· + 1))=_
   cases e7 r.length (qP r s) <;> rfl
  ·rfl
def uY(N:List aw.D)(s:aF)(id:Int):Int:=N.foldl (fun a d=>cond (br d.1 s) d.2.1 a) id
theorem VL{s:aF}{id:Int} : ∀ {N:List aw.D},(∀d,d∈N→d.1≠s)→uY N s id=id
 | [],_=>rfl
 | d :: r,h=>by
  have h1:br d.1 s=false:=by unfold br;simpa using h d List.mem_cons_self
  unfold uY
  rw [List.foldl_cons,h1]
  exact VL fun e he=>h e (List.mem_cons_of_mem _ he)
theorem VM{s:aF} : ∀ {N:List aw.D},iQ N→uY N s 0=dE N s
 | [],_=>rfl
 | d :: r,h=>by
  obtain ⟨h1,h2⟩:=List.pairwise_cons.1 h
  rw [look_eq,zZ,← look_eq]
  unfold uY
  rw [List.foldl_cons]
  cases ag:br d.1 s
  ·exact VM h2
  ·have ag:d.1=s:=by unfold br at ag;simpa using ag
   refine VL fun e he=>?_
   have:=h1 e he
   rw [ag] at this
   exact(FL this).symm
theorem M1(v:af.D)(dir:Int)(s:aF)(hl:v.2.1.length≤1048576)(hm:dr v.2.1≤1048576){i:Nat}(h:bl v.2.1 dir=some i)(hs:iQ (ak (J I v.2.1 i))) :
  oa (v,dir,s,())=some ((v.1,goN (v.2.1.set i (b0 (J I v.2.1 i) (b9 (ak (J I v.2.1 i)) s))) (dE (ak (J I v.2.1 i)) s),()),()):=by
 show CO (kE aR) v dir s=_
 unfold CO
 rw [jg v dir hl h]
 simp only [av]
 obtain ⟨hi,b3⟩:=bS h
 have hn:=Nat.le_trans (fM hi) hm
 have nv:dr (v.2.1.set i (b0 (J I v.2.1 i) (b9 (ak (J I v.2.1 i)) s)))≤1048576:=by
  have:=FY (l:=v.2.1) (y:=b0 (J I v.2.1 i) (b9 (ak (J I v.2.1 i)) s)) hi
  rw [iR] at this
  have:=uX (ak (J I v.2.1 i)) s
  omega
 have pn:(v.2.1.set i (b0 (J I v.2.1 i) (b9 (ak (J I v.2.1 i)) s))).length≤1048576:=by rw [List.length_set];exact hl
 rw [← VM hs]
 generalize hN:ak (J I v.2.1 i)=N at hn hs nv pn
 have hw:bl v.2.1 (b0 (J I v.2.1 i) (b9 N s)).1=some i:=by rw [show(b0 (J I v.2.1 i) (b9 N s)).1=dir from b3];exact h
 have key:∀(r j:Nat) (id:Int),j+r=N.length→b2 (fun m=>(kE m).bu s id (j:Int) v (0,([]:List I.D),()) (J I v.2.1 i) (b9 (N.take j) s)) (r+1048580) (some ((v.1,goN (v.2.1.set i (b0 (J I v.2.1 i) (b9 N s))) (uY (N.drop j) s id),()),())):=by
  intro r
  induction r with
  | zero =>
   intro j id hj
   have FX:j=N.length:=by omega
   subst FX
   rw [List.drop_length,List.take_length]
   show b2 _ _ (some ((v.1,goN (v.2.1.set i (b0 (J I v.2.1 i) (b9 N s))) id,()),()))
   have hb:∀m,(kE (m+1)).bu s id (N.length:Int) v (0,([]:List I.D),()) (J I v.2.1 i) (b9 N s) =
     cond (decide (((cg (v.2.1.set i (b0 (J I v.2.1 i) (b9 N s))) id:Nat):Int)>0)) (some ((v.1,v.2.1.set i (b0 (J I v.2.1 i) (b9 N s)),()),())) ((kE m).mc id 0 (v.1,v.2.1.set i (b0 (J I v.2.1 i) (b9 N s)),()) (0,([]:List I.D),()) ([]:List I.D)):=by
    intro m
    show yT (kE m) s id (N.length:Int) v (0,([]:List I.D),()) (J I v.2.1 i) (b9 N s)=_
    unfold yT
    show cond (decide ((N.length:Int)<((ak (J I v.2.1 i)).length:Int))) _ (Option.bind (n9 (v,b0 (J I v.2.1 i) (b9 N s),())) _)=_
    rw [hN,cF (Nat.le_refl _),FZ v _ hl hw]
    simp only [cond_false,av]
    rw [Fp (v.1,v.2.1.set i (b0 (J I v.2.1 i) (b9 N s)),()) id pn nv]
    rfl
   generalize v.2.1.set i (b0 (J I v.2.1 i) (b9 N s))=l at hb pn
   unfold goN
   by_cases h0:cg l id=0
   ·rw [decide_eq_true h0]
    simp only [cond_true]
    have agG:=ow 1 (fun m j=>(kE m).mc id (j:Int) (v.1,l,()) (0,([]:List I.D),()) ((l.take j).filter fun y => !(y.1==id))) (some ((v.1,l.filter fun y => !(y.1==id),()),())) l.length 1 (fun j hj B y he=>he.step fun m=>by
     have hM:((l.take j).filter fun y => !(y.1==id)).length≤j:=Nat.le_trans (List.length_filter_le _ _) (by rw [List.length_take];omega)
     show yU (kE m) id (j:Int) (v.1,l,()) (0,([]:List I.D),()) ((l.take j).filter fun y => !(y.1==id))=_
     unfold yU
     show cond (decide ((j:Int)<(l.length:Int))) ((aN l.length (j:Int)).bind fun v1=>cond (!((J I l (0+v1)).1==id)) _ _) _=_
     rw [ch hj,bw hj]
     simp only [cond_true,av,Nat.zero_add]
     rw [df j (by omega),List.take_succ_eq_append_getElem hj,List.filter_append,List.filter_cons,List.filter_nil,c7 hj]
     cases hc:(!((l[j]).1==id))
     ·simp
     ·simp only [cond_true,if_true]
      rw [cG (by simp only [List.length_cons,List.length_nil];omega)];rfl) (b2.now 1 fun m=>by
     show yU (kE m) id (l.length:Int) (v.1,l,()) (0,([]:List I.D),()) ((l.take l.length).filter fun y => !(y.1==id))=_
     unfold yU
     show cond (decide ((l.length:Int)<(l.length:Int))) _ _=_
     rw [cF (Nat.le_refl _),List.take_length];rfl)
    refine(agG.jump (f:=fun m=>(kE m).bu s id (N.length:Int) v (0,([]:List I.D),()) (J I v.2.1 i) (b9 N s)) 1 fun m=>?_).mono (by omega)
    rw [hb m,decide_eq_false (by omega)];rfl
   ·rw [decide_eq_false h0]
    simp only [cond_false]
    refine(b2.now 1 fun m=>?_).mono (by omega)
    rw [hb m,decide_eq_true (by omega)];rfl
  | succ r ih =>
   intro j id hj
   have hjl:j<N.length:=by omega
   have ih:=ih (j+1) (cond (br (J aw N j).1 s) (J aw N j).2.1 id) (by omega)
   have hB:uY (N.drop (j+1)) s (cond (br (J aw N j).1 s) (J aw N j).2.1 id)=uY (N.drop j) s id:=by
    rw [drop_cons (t:=aw) hjl];rfl
   rw [hB] at ih
   refine(ih.jump (f:=fun m=>(kE m).bu s id (j:Int) v (0,([]:List I.D),()) (J I v.2.1 i) (b9 (N.take j) s)) 1 fun m=>?_).mono (by omega)
   have hM:(b9 (N.take j) s).length≤j:=Nat.le_trans (List.length_filter_le _ _) (by rw [List.length_take];omega)
   show yT (kE m) s id (j:Int) v (0,([]:List I.D),()) (J I v.2.1 i) (b9 (N.take j) s)=_
   unfold yT
   show cond (decide ((j:Int)<((ak (J I v.2.1 i)).length:Int))) ((aN (ak (J I v.2.1 i)).length (j:Int)).bind fun v1=>cond (br (J aw (ak (J I v.2.1 i)) v1).1 s)
    ((aN (ak (J I v.2.1 i)).length (j:Int)).bind fun v2=>(kE m).bu s (J aw (ak (J I v.2.1 i)) v2).2.1 (aG ((j:Int)+1)) v (0,([]:List I.D),()) (J I v.2.1 i) (b9 (N.take j) s))
    ((aN (ak (J I v.2.1 i)).length (j:Int)).bind fun v3=>cond (room ((b9 (N.take j) s).length+1)) ((kE m).bu s id (aG ((j:Int)+1)) v (0,([]:List I.D),()) (J I v.2.1 i) (b9 (N.take j) s++[J aw (ak (J I v.2.1 i)) v3])) none)) _=_
   rw [hN,ch hjl,bw hjl]
   simp only [cond_true,av]
   rw [df j (by omega)]
   have qe:b9 (N.take (j+1)) s=b9 (N.take j) s++cond (br (J aw N j).1 s) [] [J aw N j]:=by
    unfold b9
    rw [List.take_succ_eq_append_getElem hjl,List.filter_append,List.filter_cons,List.filter_nil,c7 hjl]
    cases br (N[j]).1 s <;> rfl
   rw [qe]
   cases br (J aw N j).1 s
   ·simp only [cond_false]
    rw [cG (by omega)];rfl
   ·simp only [cond_true,List.append_nil]
 have:=key N.length 0 0 (by omega)
 rw [List.drop_zero] at this
 exact kM this (by omega)
theorem bits_nat(op:BinOp)(x y:Nat):cN op .i64 (x:Int) (y:Int)=(match op with
 | .and=>IntKind.wrap .i64 ((BitVec.ofNat 64 x &&& BitVec.ofNat 64 y).toNat:Int)
 | .or=>IntKind.wrap .i64 ((BitVec.ofNat 64 x ||| BitVec.ofNat 64 y).toNat:Int)
 | .xor=>IntKind.wrap .i64 ((BitVec.ofNat 64 x ^^^ BitVec.ofNat 64 y).toNat:Int)
 | _=>IntKind.wrap .i64 ((BitVec.ofNat 64 x &&& ~~~BitVec.ofNat 64 y).toNat:Int)):=by
 unfold cN
 rw [show(IntKind.i64).bits=64 from rfl]
 simp only [BitVec.ofInt_natCast]
 cases op <;> rfl
theorem agH{x y:Nat}(hx:x<4611686018427387904)(aO:y<4611686018427387904):cN .and .i64 (x:Int) (y:Int)=((x &&& y:Nat):Int):=by
 rw [bits_nat]
 simp only
 rw [BitVec.toNat_and,BitVec.toNat_ofNat,BitVec.toNat_ofNat,Nat.mod_eq_of_lt (show x<2 ^ 64 by omega),Nat.mod_eq_of_lt (show y<2 ^ 64 by omega)]
 have:x &&& y≤x:=Nat.and_le_left
 exact sG (by omega) (by omega)
theorem VN{x y:Nat}(hx:x<4611686018427387904)(aO:y<4611686018427387904):cN .or .i64 (x:Int) (y:Int)=((x ||| y:Nat):Int):=by
 rw [bits_nat]
 simp only
 rw [BitVec.toNat_or,BitVec.toNat_ofNat,BitVec.toNat_ofNat,Nat.mod_eq_of_lt (show x<2 ^ 64 by omega),Nat.mod_eq_of_lt (show y<2 ^ 64 by omega)]
 have:x ||| y<2 ^ 62:=Nat.or_lt_two_pow (by omega) (by omega)
 exact sG (by omega) (by omega)
theorem agI{x:Nat}(h:x<2048):x &&& 1024=1024*(x / 1024):=by
 have h1:(x &&& 1024) / 2 ^ 10=x / 2 ^ 10 &&& 1024 / 2 ^ 10:=Nat.and_div_two_pow
 have h2:(x &&& 1024) % 2 ^ 10=x % 2 ^ 10 &&& 1024 % 2 ^ 10:=Nat.and_mod_two_pow
 rw [show 1024 / 2 ^ 10=1 from rfl,Nat.and_one_is_mod] at h1
 rw [show 1024 % 2 ^ 10=0 from rfl,Nat.and_zero] at h2
 omega
theorem agJ{m:Int}(h:0≤m)(h':m≤2047):cN .and .i64 m 1024=0∨cN .and .i64 m 1024=1024:=by
 obtain ⟨n,rfl⟩:∃n:Nat,m=n:=⟨m.toNat,by omega⟩
 have:=agH (x:=n) (y:=1024) (by omega) (by omega)
 rw [show((1024:Nat):Int)=1024 from rfl] at this
 rw [this,agI (by omega)]
 omega
theorem agK{m:Int}(h:0≤m)(h':m≤2047):cN .or .i64 m 0=m:=by
 obtain ⟨n,rfl⟩:∃n:Nat,m=n:=⟨m.toNat,by omega⟩
 have:=VN (x:=n) (y:=0) (by omega) (by omega)
 rw [show((0:Nat):Int)=0 from rfl] at this
 rw [this,Nat.or_zero]
theorem agL{m:Int}(h:0≤m)(h':m≤2047):0≤cN .or .i64 m 1024∧cN .or .i64 m 1024≤2047:=by
 obtain ⟨n,rfl⟩:∃n:Nat,m=n:=⟨m.toNat,by omega⟩
 have:=VN (x:=n) (y:=1024) (by omega) (by omega)
 rw [show((1024:Nat):Int)=1024 from rfl] at this
 rw [this]
 have:n ||| 1024<2 ^ 11:=Nat.or_lt_two_pow (by omega) (by omega)
 omega
def aE(x:aK.D):Int:=x.1
def fz(x:aK.D):aF:=x.2.1
def iS(x:aK.D):aF:=x.2.2.1
def bR(x:aK.D):Int:=x.2.2.2.1
def ea(x:aK.D):Int:=x.2.2.2.2.1
def dx(x:aK.D):aF:=x.2.2.2.2.2.1
structure iu(x:aK.D):Prop where
 de:1≤aE x∧aE x≤22
 path:(fz x).length≤60
 sm:(iS x).length≤60
 fA:(dx x).length≤64
 n : -1000000≤bR x∧bR x≤1000000
 m : -1000000≤ea x∧ea x≤1000000
 agM:iS x=[]∨aE x=9∨aE x=10∨aE x=12
 VO:dx x=[]∨aE x=5∨aE x=6
theorem xi{x:aK.D} : jW x=true↔iu x:=by
 unfold jW
 simp only [Bool.and_eq_true,Bool.or_eq_true,decide_eq_true_eq,beq_iff_eq,nu]
 constructor
 ·rintro ⟨⟨⟨⟨⟨⟨⟨h1,h2⟩,h3⟩,h4⟩,a7⟩,bj⟩,bE⟩,c3⟩
  exact⟨dJ.1 h1,Int.ofNat_le.1 h2,Int.ofNat_le.1 h3,Int.ofNat_le.1 h4,dJ.1 a7,dJ.1 bj,bE,c3⟩
 ·intro h
  exact⟨⟨⟨⟨⟨⟨⟨dJ.2 h.de,Int.ofNat_le.2 h.path⟩,Int.ofNat_le.2 h.sm⟩,Int.ofNat_le.2 h.fA⟩,dJ.2 h.n⟩,dJ.2 h.m⟩,h.agM⟩,h.VO⟩
theorem oy{N:List aw.D}{s:aF}{id:Int}{d:aw.D} : d∈ins N s id↔d∈N∨d=(s,id,()):=by
 have:=List.takeWhile_append_dropWhile (p:=dS s) (l:=N)
 unfold ins
 conv=>rhs;rw [← this]
 simp only [List.mem_append,List.mem_singleton]
 constructor
 ·rintro ((h | h) | h)
  ·exact .inl (.inl h)
  ·exact .inr h
  ·exact .inl (.inr h)
 ·rintro ((h | h) | h)
  ·exact .inl (.inl h)
  ·exact .inr h
  ·exact .inl (.inr h)
theorem z1{N:List aw.D}{s:aF}(h:dE N s=0)(h0:∀d,d∈N→d.2.1≠0):∀d,d∈N→d.1≠s:=by
 intro d ag he
 obtain ⟨i,hi,aA⟩:=e8 ag
 unfold dE at h
 cases hf:e7 N.length (qP N s) with
 | none =>
  have:=lD.1 hf i hi
  unfold qP br at this
  rw [aA] at this
  simp [he] at this
 | some j =>
  rw [hf] at h
  obtain ⟨h1,_,_⟩:=hT.1 hf
  exact h0 _ (cE h1) h
theorem bH.VP{v:af.D}(h:bH v){x:aL}(hx:x∈v.2.1):1≤aX x∧aX x≤gb v-1:=by
 obtain ⟨i,hi,he⟩:=e8 hx
 have:=h.ids i hi
 rw [he] at this;exact this
theorem bH.z6{v:af.D}(h:bH v){i:Nat}(hi:i<v.2.1.length){d:aw.D}(ag:d∈ak (J I v.2.1 i)):d.2.1≠0:=by
 obtain ⟨y,aO,he⟩:=nw.1 (h.hp i hi d ag)
 have h1:=h.VP aO
 intro h0
 have:aX y=0:=he.trans h0
 omega
theorem bH.free{v:af.D}(h:bH v):bl v.2.1 v.1=none:=by
 cases hi:bl v.2.1 v.1 with
 | none=>rfl
 | some i =>
  obtain ⟨h1,h2⟩:=bS hi
  have:=h.ids i h1
  have h2:aX (J I v.2.1 i)=gb v:=h2
  omega
theorem bH.iv{v:af.D}(h:bH v):pz v.2.1 :=
 ⟨by have:=h.len;omega,by have:=h.cH;omega,h.fO,h.hp,fun i hi hk=>((h.ino i hi).plain hk).2.2,fun i hi hk=>((h.ino i hi).mw hk).1,0,by
  have:=h.fO 0 (by have:=h.len;omega)
  rwa [show(J I v.2.1 0).1=1 from h.root.1] at this,h.root.2⟩
def bq(v:af.D)(c:aH.D)(x:aK.D)(a:Option (Int×aI.D×Unit))(b:Option (af.D×aS.D×Unit))(Q:af.D→Prop):Prop :=
 ∃(code:Int) (w:af.D),a=some (code,(w,c,x,()),())∧b=some (cond (code==0) w v,(code,[],()),())∧(code=0→Q w)
theorem bq.no{v:af.D}{c:aH.D}{x:aK.D}{a:Option (Int×aI.D×Unit)}{b:Option (af.D×aS.D×Unit)}{Q:af.D→Prop}(code:Int)(h0:code≠0)(ha:a=some (code,(v,c,x,()),()))(hb:b=some (v,(code,[],()),())):bq v c x a b Q :=
 ⟨code,v,ha,by rw [cd h0];exact hb,fun h=>absurd h h0⟩
def F6(x:aK.D):Int:=if aE x=1 then 2 else if aE x=10 then 3 else 1
def uZ(x:aK.D)(d:aL):Int:=if aE x=10 then 511 else if aE x=1∧cN .and .i64 (eU d) 1024≠0 then cN .or .i64 (bR x) 1024 else bR x
def z7(c:aH.D)(d:aL):Int:=if cN .and .i64 (eU d) 1024≠0 then e9 d else c.2.1
def gl(v:af.D)(c:aH.D)(x:aK.D)(d:aL):aL:=(v.1,F6 x,uZ x d,c.1,z7 c d,if aE x=10 then iS x else [],[],0,0,())
def qU(x:aK.D):Bool:=cond (aE x==10) (!jd (iS x)) (!c4 (bR x) 0 2047)
structure Made(v:af.D)(c:aH.D)(x:aK.D)(w:af.D):Prop where
 bad:qU x=false
 out:∃r i,lF v.2.1 r∧bI r=2∧nameOf r≠[]∧bl v.2.1 (bY r)=some i∧kindOf (J I v.2.1 i)=2∧may c (J I v.2.1 i) 3=true∧(ak (J I v.2.1 i)).length<12∧v.2.1.length<24∧gb v<100000 ∧
  w=(v.1+1,v.2.1.set i (b0 (J I v.2.1 i) (ins (ak (J I v.2.1 i)) (nameOf r) v.1))++[gl v c x (J I v.2.1 i)],())∧e_ w.2.1=0
theorem agN(m:Nat)(a b):(kI (m+1)).bh a b=KG (kI m) a b:=rfl
theorem agO(m:Nat)(a b d):(kI (m+1)).g_ a b d=KH (kI m) a b d:=rfl
theorem agP(m:Nat)(a b d e f):(jx (m+1)).k3 a b d e f=Jv (jx m) a b d e f:=rfl
theorem agQ(m:Nat)(a b d e f):(jx (m+1)).jw a b d e f=Jw (jx m) a b d e f:=rfl
theorem z8(v:af.D)(c:aH.D)(x:aK.D)(id:Int)(hl:v.2.1.length≤1048576)(hc:dm c=true){i:Nat}(h:bl v.2.1 id=some i):nc ((v,c,x,()),id,())=some (may c (J I v.2.1 i) 3,()):=by
 show KD (v,c,x,()) id=_
 unfold KD
 show Option.bind (fm (v,id,())) _=_
 rw [mu v id hl h]
 simp only [av,List.isEmpty_cons,Bool.not_false,cond_true]
 show Option.bind (pf (c,J I v.2.1 i,3,())) _=_
 rw [zQ c _ 3 hc];rfl
theorem agR(v:af.D)(c:aH.D)(x:aK.D)(hv:bH v)(hc:dm c=true)(hx:iu x):bq v c x (zj ((v,c,x,()),())) (tO (v,c,x,())) (Made v c x):=by
 have cn:=hv.iv
 have hl:v.2.1.length≤1048576:=cn.len
 have au:=hx.path
 obtain ⟨q,hq,hL⟩:=jb 4
 have eS:zj ((v,c,x,()),())=cond (qU x) (some (22,(v,c,x,()),())) ((kI aR).bh (v,c,x,()) x):=by
  show Ei (kI aR) (v,c,x,())=_
  unfold Ei qU
  show cond (aE x==10) (Option.bind (wG (iS x,())) fun v1=>cond (!v1.1) _ (cond (!(aE x==10)) _ _)) (cond (!(aE x==10)) (Option.bind (eI (bR x,0,2047,())) _) _)=_
  rw [Mr _ (by have:=hx.sm;omega)]
  cases aE x==10
  ·simp only [cond_false,Bool.not_false,cond_true,av]
   rw [jc];rfl
  ·simp only [cond_true,Bool.not_true,cond_false,av]
 have dN:tO (v,c,x,())=cond (qU x) (some (v,(22,[],()),())) ((jx aR).k3 v c x (0,([]:List I.D),()) (0,([]:aF),())):=by
  show CM (jx aR) v c x=_
  unfold CM qU
  show cond (aE x==10) (Option.bind (yB (iS x,())) fun v1=>cond (!v1.1) _ (cond (!(aE x==10)) _ _)) (cond (!(aE x==10)) (Option.bind (ei (bR x,0,2047,())) _) _)=_
  rw [UB]
  cases aE x==10
  ·simp only [cond_false,Bool.not_false,cond_true,av]
   rw [jz];rfl
  ·simp only [cond_true,Bool.not_true,cond_false,av]
 rw [eS,dN]
 cases hb:qU x with
 | true=>exact bq.no 22 (by decide) rfl rfl
 | false =>
 simp only [cond_false]
 rw [hq,agN,agP]
 unfold KG Jv
 obtain ⟨r,eJ,code,M3,M4,M5⟩:=VC v c x (fz x) cn hc (by omega)
 show bq v c x (Option.bind (uE ((v,c,x,()),fz x,())) _) (Option.bind (tI (v,c,fz x,())) _) _
 rw [M3,M4]
 simp only [av]
 by_cases b1:code=0
 case neg =>
  rw [cY b1]
  exact bq.no code b1 rfl rfl
 obtain ⟨rfl,hr,gq,nx⟩:=M5 b1
 rw [dC b1]
 simp only [cond_false]
 obtain ⟨oz,jA,d,ag,fP,ny⟩:=hr.new gq nx
 have hdl:=bS ag
 show bq v c x (Option.bind (nc ((v,c,x,()),bY eJ,())) _) (Option.bind (e6 (v,bY eJ,())) _) _
 rw [z8 v c x _ hl hc ag,jg v _ hl ag]
 simp only [av]
 rw [pt c _ 3 hc]
 simp only [av]
 cases hm:may c (J I v.2.1 d) 3 with
 | false=>exact bq.no 13 (by decide) rfl rfl
 | true =>
 simp only [Bool.not_true,cond_false]
 show bq v c x (Option.bind (fm (v,bY eJ,())) _) _ _
 rw [mu v _ hl ag]
 simp only [av,List.isEmpty_cons,Bool.not_false,cond_true]
 have hy:=hv.ino d hdl.1
 have VQ:=(hy.dir fP).2.2.2
 show bq v c x (cond (((ak (J I v.2.1 d)).length:Int)==12) _ (cond ((v.2.1.length:Int)==24) _ (cond (gb v==100000) _ _))) (cond (decide (((ak (J I v.2.1 d)).length:Int)≥12)) _ (cond (decide ((v.2.1.length:Int)≥24)) _ (cond (decide (gb v≥100000)) _ _))) _
 by_cases lg:(ak (J I v.2.1 d)).length=12
 ·rw [show(((ak (J I v.2.1 d)).length:Int)==12)=true by rw [lg];rfl,decide_eq_true (by omega)]
  exact bq.no 28 (by decide) rfl rfl
 rw [show(((ak (J I v.2.1 d)).length:Int)==12)=false by rw [beq_eq_false_iff_ne];omega,decide_eq_false (show ¬((ak (J I v.2.1 d)).length:Int)≥12 by omega)]
 simp only [cond_false]
 have hlen:=hv.len
 have qd:=hv.next
 by_cases agS:v.2.1.length=24
 ·rw [show((v.2.1.length:Int)==24)=true by rw [agS];rfl,decide_eq_true (by omega)]
  exact bq.no 28 (by decide) rfl rfl
 rw [show((v.2.1.length:Int)==24)=false by rw [beq_eq_false_iff_ne];omega,decide_eq_false (show ¬(v.2.1.length:Int)≥24 by omega)]
 simp only [cond_false]
 by_cases M6:gb v=100000
 ·rw [cD M6,decide_eq_true (show gb v≥100000 by omega)]
  exact bq.no 28 (by decide) rfl rfl
 rw [cd M6,decide_eq_false (show ¬gb v≥100000 by omega)]
 simp only [cond_false]
 obtain ⟨w,hw⟩:∃w:af.D,w=(v.1+1,v.2.1.set d (b0 (J I v.2.1 d) (ins (ak (J I v.2.1 d)) (nameOf eJ) v.1))++[gl v c x (J I v.2.1 d)],()):=⟨_,rfl⟩
 have agT:aG (v.1+1)=v.1+1:=dD (a:=gb v+1) (by omega) (by omega)
 have akQ:aq 1000 (v.2.1++[gl v c x (J I v.2.1 d)]):=(hv.st.app (k:=100) (n:=gl v c x (J I v.2.1 d)) hv.free rfl (by
  show(if aE x=10 then iS x else []).length≤100
  have:=hx.sm
  split
  ·omega
  ·simp) (by omega) (fun _=>⟨rfl,rfl⟩)).mono (by omega)
 have hst:aq 1000 w.2.1:=by
  rw [hw]
  have aA:J I (v.2.1++[gl v c x (J I v.2.1 d)]) d=J I v.2.1 d:=M0 hdl.1
  have:=(hv.st.app (k:=100) (n:=gl v c x (J I v.2.1 d)) hv.free rfl (by
   show(if aE x=10 then iS x else []).length≤100
   have:=hx.sm
   split
   ·omega
   ·simp) (by omega) (fun _=>⟨rfl,rfl⟩)).set (k:=1) (i:=d) (y:=b0 (J I v.2.1 d) (ins (ak (J I v.2.1 d)) (nameOf eJ) v.1)) (by simp;omega) (by rw [aA];rfl) (by
    intro e he
    rcases oy.1 he with he | rfl
    ·obtain ⟨y,aO,w9⟩:=nw.1 (hv.hp d hdl.1 e he)
     exact nw.2 ⟨y,List.mem_append_left _ aO,w9⟩
    ·exact nw.2 ⟨gl v c x (J I v.2.1 d),List.mem_append_right _ (List.mem_singleton.2 rfl),rfl⟩) (fun hk=>absurd fP hk) (by
    rw [aA];show(ins (ak (J I v.2.1 d)) (nameOf eJ) v.1).length≤_;rw [xh];omega) (by rw [aA];exact Nat.le_add_right _ _)
  rw [VJ hdl.1] at this
  exact this.mono (by omega)
 have hfin:∀m n,bq v c x ((kI (m+1)).g_ (v,c,x,()) eJ (gl v c x (J I v.2.1 d))) ((jx (n+1)).jw v (0,([]:List I.D),()) (0,([]:aF),()) eJ (gl v c x (J I v.2.1 d))) (Made v c x):=by
  intro m n
  rw [agO,agQ]
  unfold KH Jw
  rw [uT v hl (fun i hi=>Nat.le_trans (fM hi) cn.cH)]
  simp only [av]
  rw [agT]
  show bq v c x (Option.bind (r7 (((v.1+1,v.2.1,()),c,x,()),bY eJ,nameOf eJ,v.1,())) _) (Option.bind (n9 ((v.1+1,v.2.1,()),gl v c x (J I v.2.1 d),())) _) _
  rw [MX (v.1+1,v.2.1,()) c x (bY eJ) (nameOf eJ) v.1 hl ag (Nat.le_trans (fM hdl.1) cn.cH),agA (v.1+1,v.2.1,()) _ hl hv.free]
  simp only [av]
  have aA:J I (v.2.1++[gl v c x (J I v.2.1 d)]) d=J I v.2.1 d:=M0 hdl.1
  have Fy:=MZ (v.1+1,v.2.1++[gl v c x (J I v.2.1 d)],()) (bY eJ) (nameOf eJ) v.1 (by simp;omega) (agC ag) (by
   show(ak (J I (v.2.1++[gl v c x (J I v.2.1 d)]) d)).length≤_
   rw [aA];exact Nat.le_trans (fM hdl.1) cn.cH) (by
   show ∀e,e∈ak (J I (v.2.1++[gl v c x (J I v.2.1 d)]) d)→_
   rw [aA];exact z1 ny fun e he=>hv.z6 hdl.1 he)
  rw [show((v.1+1,v.2.1++[gl v c x (J I v.2.1 d)],()):af.D).2.1=v.2.1++[gl v c x (J I v.2.1 d)] from rfl,aA,VJ hdl.1,← hw] at Fy
  show bq v c x _ (Option.bind (rL ((v.1+1,v.2.1++[gl v c x (J I v.2.1 d)],()),bY eJ,nameOf eJ,v.1,())) _) _
  rw [Fy]
  simp only [av]
  rw [zY v w hst (by omega)]
  simp only [av]
  rw [cG (by simp;omega)]
  simp only [cond_true]
  show bq v c x (Option.bind (nd (((v.1+1,v.2.1.set d (b0 (J I v.2.1 d) (ins (ak (J I v.2.1 d)) (nameOf eJ) v.1))++[gl v c x (J I v.2.1 d)],()),c,x,()),())) fun v2=>some (v2.1,((v.1+1,v.2.1.set d (b0 (J I v.2.1 d) (ins (ak (J I v.2.1 d)) (nameOf eJ) v.1))++[gl v c x (J I v.2.1 d)],()),c,x,()),())) _ _
  rw [← hw,zX w c x hst (by omega)]
  exact⟨e_ w.2.1,w,rfl,rfl,fun h=>⟨hb,eJ,d,hr,gq,nx,ag,fP,hm,by omega,by omega,by omega,hw,h⟩⟩
 have hN:aE x≠10→0≤bR x∧bR x≤2047:=by
  intro hk
  unfold qU at hb
  rw [cd hk] at hb
  simp only [cond_false,Bool.not_eq_false'] at hb
  exact dJ.1 hb
 have F7:=hy.mode
 have M7:=agJ F7.1 F7.2
 show bq v c x (cond (cN .and .i64 (eU (J I v.2.1 d)) 1024 != 0)
   (cond (aE x==1) ((kI (q+3)).g_ (v,c,x,()) eJ (v.1,2,cN .or .i64 (bR x) (cN .and .i64 (eU (J I v.2.1 d)) 1024),c.1,e9 (J I v.2.1 d),[],[],0,0,()))
    (cond (aE x==10) ((kI (q+3)).g_ (v,c,x,()) eJ (v.1,3,511,c.1,e9 (J I v.2.1 d),iS x,[],0,0,())) ((kI (q+3)).g_ (v,c,x,()) eJ (v.1,1,bR x,c.1,e9 (J I v.2.1 d),[],[],0,0,()))))
   (cond (aE x==1) ((kI (q+3)).g_ (v,c,x,()) eJ (v.1,2,cN .or .i64 (bR x) (cN .and .i64 (eU (J I v.2.1 d)) 1024),c.1,c.2.1,[],[],0,0,()))
    (cond (aE x==10) ((kI (q+3)).g_ (v,c,x,()) eJ (v.1,3,511,c.1,c.2.1,iS x,[],0,0,())) ((kI (q+3)).g_ (v,c,x,()) eJ (v.1,1,bR x,c.1,c.2.1,[],[],0,0,())))))
  (cond (aE x==1) ((jx (q+3)).yP v x (0,([]:List I.D),()) (0,([]:aF),()) eJ (J I v.2.1 d) (v.1,2,bR x,c.1,c.2.1,[],[],0,0,())) ((jx (q+3)).yP v x (0,([]:List I.D),()) (0,([]:aF),()) eJ (J I v.2.1 d) (v.1,1,bR x,c.1,c.2.1,[],[],0,0,()))) (Made v c x)
 have vL:∀(n:aL),(jx (q+3)).yP v x (0,([]:List I.D),()) (0,([]:aF),()) eJ (J I v.2.1 d) n=cond (aE x==10) ((jx (q+2)).fc v (0,([]:List I.D),()) (0,([]:aF),()) eJ (J I v.2.1 d) (n.1,3,511,n.2.2.2.1,n.2.2.2.2.1,iS x,n.2.2.2.2.2.2.1,n.2.2.2.2.2.2.2.1,n.2.2.2.2.2.2.2.2.1,())) ((jx (q+2)).fc v (0,([]:List I.D),()) (0,([]:aF),()) eJ (J I v.2.1 d) n):=fun n=>rfl
 have z_:∀(n:aL),(jx (q+2)).fc v (0,([]:List I.D),()) (0,([]:aF),()) eJ (J I v.2.1 d) n=cond (cN .and .i64 (eU (J I v.2.1 d)) 1024 != 0)
   (cond (n.2.1==2) ((jx (q+1)).jw v (0,([]:List I.D),()) (0,([]:aF),()) eJ (n.1,n.2.1,cN .or .i64 n.2.2.1 1024,n.2.2.2.1,e9 (J I v.2.1 d),n.2.2.2.2.2.1,n.2.2.2.2.2.2.1,n.2.2.2.2.2.2.2.1,n.2.2.2.2.2.2.2.2.1,()))
    ((jx (q+1)).jw v (0,([]:List I.D),()) (0,([]:aF),()) eJ (n.1,n.2.1,n.2.2.1,n.2.2.2.1,e9 (J I v.2.1 d),n.2.2.2.2.2.1,n.2.2.2.2.2.2.1,n.2.2.2.2.2.2.2.1,n.2.2.2.2.2.2.2.2.1,()))) ((jx (q+1)).jw v (0,([]:List I.D),()) (0,([]:aF),()) eJ n):=fun n=>rfl
 simp only [vL,z_]
 have hC:=hfin (q+2) q
 unfold gl F6 uZ z7 at hC
 by_cases k1:aE x=1
 ·have fi:aE x≠10:=by omega
  have pF:=hN fi
  rw [cD k1,cd fi]
  rw [if_pos k1,if_neg fi,if_neg fi] at hC
  simp only [cond_true,cond_false]
  rcases M7 with fW | fW
  ·rw [fW] at hC ⊢
   rw [if_neg (by simp),if_neg (by simp)] at hC
   rw [agK pF.1 pF.2]
   exact hC
  ·rw [fW] at hC ⊢
   rw [if_pos ⟨k1,by decide⟩,if_pos (by decide)] at hC
   exact hC
 ·rw [cd k1]
  rw [if_neg k1] at hC
  by_cases fi:aE x=10
  ·rw [cD fi]
   rw [if_pos fi,if_pos fi,if_pos fi] at hC
   simp only [cond_true,cond_false]
   rcases M7 with fW | fW
   ·rw [fW] at hC ⊢
    rw [if_neg (by simp)] at hC
    exact hC
   ·rw [fW] at hC ⊢
    rw [if_pos (by decide)] at hC
    exact hC
  ·rw [cd fi]
   rw [if_neg fi,if_neg fi,if_neg fi,if_neg (fun h=>k1 h.1)] at hC
   simp only [cond_false]
   rcases M7 with fW | fW
   ·rw [fW] at hC ⊢
    rw [if_neg (by simp)] at hC
    exact hC
   ·rw [fW] at hC ⊢
    rw [if_pos (by decide)] at hC
    exact hC
def kl(v:af.D)(i:Nat)(s:aF):af.D:=(v.1,goN (v.2.1.set i (b0 (J I v.2.1 i) (b9 (ak (J I v.2.1 i)) s))) (dE (ak (J I v.2.1 i)) s),())
structure z'(v:af.D)(c:aH.D)(x:aK.D)(w:af.D):Prop where
 out:∃r i j,lF v.2.1 r∧bI r=0∧nameOf r≠[]∧bl v.2.1 (bY r)=some i∧kindOf (J I v.2.1 i)=2∧dE (ak (J I v.2.1 i)) (nameOf r)=bb r∧bl v.2.1 (bb r)=some j∧ak (J I v.2.1 j)=[] ∧
  (aE x=2→kindOf (J I v.2.1 j)=2)∧(aE x=8→kindOf (J I v.2.1 j)≠2)∧w=kl v i (nameOf r)
theorem agU(m:Nat)(a b d):(oj (m+1)).bu a b d=KM (oj m) a b d:=rfl
theorem agV(m:Nat)(a b d):(oj (m+1)).dj a b d=KN (oj m) a b d:=rfl
theorem agW(m:Nat)(a b d):(oj (m+1)).fX a b d=KO (oj m) a b d:=rfl
theorem agX(m:Nat)(a b d):(oj (m+1)).cR a b d=KP (oj m) a b d:=rfl
theorem agY(m:Nat)(a b d e f g h):(qp (m+1)).dj a b d e f g h=Jy (qp m) a b d e f g h:=rfl
theorem agZ(m:Nat)(a b d e f g h):(qp (m+1)).fX a b d e f g h=Jz (qp m) a b d e f g h:=rfl
theorem ag0(m:Nat)(a b d e f g):(qp (m+1)).cR a b d e f g=JA (qp m) a b d e f g:=rfl
theorem ag1(v:af.D)(c:aH.D)(x:aK.D)(hv:bH v)(hc:dm c=true)(hx:iu x)(hk:aE x=2∨aE x=8):bq v c x (Es ((v,c,x,()),())) (yV (v,c,x,())) (z' v c x):=by
 have cn:=hv.iv
 have hl:v.2.1.length≤1048576:=cn.len
 have au:=hx.path
 obtain ⟨q,hq,hL⟩:=jb 4
 show bq v c x (Er (oj aR) (v,c,x,())) (CP (qp aR) v c x) _
 unfold Er CP
 obtain ⟨r,⟨hr,_⟩,Aa,gm⟩:=xg v c x (fz x) false cn hc (by omega)
 show bq v c x (Option.bind (kH ((v,c,x,()),fz x,false,())) _) (Option.bind (fk (v,c,fz x,false,())) _) _
 rw [Aa,gm]
 simp only [av]
 show bq v c x (cond (bI r != 0) (some (bI r,(v,c,x,()),())) _) (cond (bI r != 0) (some (v,(bI r,[],()),())) _) _
 by_cases b1:bI r=0
 case neg =>
  rw [cY b1]
  exact bq.no (bI r) b1 rfl rfl
 rw [dC b1]
 simp only [cond_false,lx]
 obtain ⟨j,hj⟩:=hr.there b1
 have hjl:=bS hj
 show bq v c x (Option.bind (fm (v,bb r,())) _) (Option.bind (e6 (v,bb r,())) _) _
 rw [mu v _ hl hj,jg v _ hl hj]
 simp only [av,List.isEmpty_cons,Bool.not_false,cond_true]
 rw [hq,agU]
 unfold KM
 rw [agV,agY]
 show bq v c x (cond (aE x==2) (cond (br (nameOf r) []) _ _) _) (cond (aE x==2) (cond (br (nameOf r) []) _ _) _) _
 have ag2:nameOf r=[]→kindOf (J I v.2.1 j)=2:=by
  intro h
  obtain ⟨ew,h1,h2⟩:=hr.bare b1 h
  rw [hj] at h1
  rw [aV h1];exact h2
 by_cases c2:aE x=2∧nameOf r=[]
 ·rw [cD c2.1,nu.2 c2.2]
  exact bq.no 16 (by decide) rfl rfl
 have p5:∀ {α : Type} (a b : α),cond (aE x==2) (cond (br (nameOf r) []) a b) b=b:=by
  intro α a b
  by_cases h2:aE x=2
  ·rw [cD h2]
   have:br (nameOf r) []=false:=by
    rw [← Bool.not_eq_true,nu];exact fun h=>c2 ⟨h2,h⟩
   rw [this];rfl
  ·rw [cd h2];rfl
 rw [p5,p5]
 unfold KN Jy
 rw [agW,agZ]
 show bq v c x (cond (aE x==2) (cond (kindOf (J I v.2.1 j) != 2) _ _) _) (cond (aE x==2) (cond (kindOf (J I v.2.1 j) != 2) _ _) _) _
 by_cases hR:aE x=2∧kindOf (J I v.2.1 j)≠2
 ·rw [cD hR.1,cY hR.2]
  exact bq.no 20 (by decide) rfl rfl
 have VR:∀ {α : Type} (a b : α),cond (aE x==2) (cond (kindOf (J I v.2.1 j) != 2) a b) b=b:=by
  intro α a b
  by_cases h2:aE x=2
  ·rw [cD h2,dC (Decidable.byContradiction fun h=>hR ⟨h2,h⟩)];rfl
  ·rw [cd h2];rfl
 rw [VR,VR]
 unfold KO Jz
 rw [agX,ag0]
 show bq v c x (cond (aE x==8) (cond (kindOf (J I v.2.1 j)==2) _ _) _) (cond (aE x==8) (cond (kindOf (J I v.2.1 j)==2) _ _) _) _
 by_cases b3:aE x=8∧kindOf (J I v.2.1 j)=2
 ·rw [cD b3.1,cD b3.2]
  exact bq.no 21 (by decide) rfl rfl
 have VS:∀ {α : Type} (a b : α),cond (aE x==8) (cond (kindOf (J I v.2.1 j)==2) a b) b=b:=by
  intro α a b
  by_cases h2:aE x=8
  ·rw [cD h2,cd (fun h=>b3 ⟨h2,h⟩)];rfl
  ·rw [cd h2];rfl
 rw [VS,VS]
 have iL:nameOf r≠[]:=by
  intro h
  rcases hk with h2 | c3
  ·exact c2 ⟨h2,h⟩
  ·exact b3 ⟨c3,ag2 h⟩
 obtain ⟨oz,jA,d,ag,fP,ny⟩:=hr.named b1 iL
 have hdl:=bS ag
 have hy:=hv.ino d hdl.1
 unfold KP JA
 show bq v c x (Option.bind (nc ((v,c,x,()),bY r,())) _) (Option.bind (e6 (v,bY r,())) _) _
 rw [z8 v c x _ hl hc ag,jg v _ hl ag]
 simp only [av]
 rw [pt c _ 3 hc]
 simp only [av]
 cases hm:may c (J I v.2.1 d) 3 with
 | false=>exact bq.no 13 (by decide) rfl rfl
 | true =>
 simp only [Bool.not_true,cond_false]
 show bq v c x (Option.bind (fm (v,bY r,())) _) _ _
 rw [mu v _ hl ag]
 simp only [av,List.isEmpty_cons,Bool.not_false,cond_true]
 show bq v c x (Option.bind (r8 (c,J I v.2.1 d,J I v.2.1 j,())) _) _ _
 rw [MN c _ _ hc,MM c _ _ hc]
 simp only [av]
 cases ht:pv c (J I v.2.1 d) (J I v.2.1 j) with
 | false=>exact bq.no 1 (by decide) rfl rfl
 | true =>
 simp only [Bool.not_true,cond_false]
 show bq v c x (cond (aE x==2) (cond (decide (((ak (J I v.2.1 j)).length:Int)>0)) _ _) _) (cond (decide (((ak (J I v.2.1 j)).length:Int)>0)) _ _) _
 rw [uT v hl (fun i hi=>Nat.le_trans (fM hi) cn.cH)]
 simp only [av]
 show bq v c x (cond (aE x==2) (cond (decide (((ak (J I v.2.1 j)).length:Int)>0)) (some (39,(v,c,x,()),())) (Option.bind (oi ((v,c,x,()),bY r,nameOf r,true,())) fun v4=>some (0,v4.1,()))) (Option.bind (oi ((v,c,x,()),bY r,nameOf r,true,())) fun v4=>some (0,v4.1,())))
  (cond (decide (((ak (J I v.2.1 j)).length:Int)>0)) (some (v,(39,[],()),())) (Option.bind (oa (v,bY r,nameOf r,())) fun v5=>some (v5.1,(0,[],()),()))) _
 rw [MY v c x _ _ true hl cn.cH ag,M1 v _ _ hl cn.cH ag hy.sorted]
 simp only [av,cond_true]
 by_cases h0:ak (J I v.2.1 j)=[]
 ·rw [h0,show decide ((([]:List aw.D).length:Int)>0)=false from rfl]
  have:z' v c x (kl v d (nameOf r)):=⟨r,d,j,hr,b1,iL,ag,fP,ny,hj,h0,fun h=>Decidable.byContradiction fun h'=>hR ⟨h,h'⟩,fun h h'=>b3 ⟨h,h'⟩,rfl⟩
  refine⟨0,kl v d (nameOf r),?_,rfl,fun _=>this⟩
  cases aE x==2 <;> rfl
 ·have ag3:0<(ak (J I v.2.1 j)).length:=List.length_pos_iff.2 h0
  have lj:kindOf (J I v.2.1 j)=2:=Decidable.byContradiction fun h=>h0 ((hv.ino j hjl.1).plain h).2.2
  have hk2:aE x=2:=by
   rcases hk with h | h
   ·exact h
   ·exact absurd ⟨h,lj⟩ b3
  rw [decide_eq_true (by omega),cD hk2]
  exact bq.no 39 (by decide) rfl rfl
def u0(v:af.D)(i:Nat)(s:aF)(id:Int):af.D:=(v.1,v.2.1.set i (b0 (J I v.2.1 i) (ins (ak (J I v.2.1 i)) s id)),())
structure F8(v:af.D)(c:aH.D)(x:aK.D)(w:af.D):Prop where
 out:∃r t i j,lF v.2.1 r∧bI r=0∧bl v.2.1 (bb r)=some j∧kindOf (J I v.2.1 j)≠2∧lF v.2.1 t∧bI t=2∧nameOf t≠[]∧bl v.2.1 (bY t)=some i∧kindOf (J I v.2.1 i)=2 ∧
  (ak (J I v.2.1 i)).length<12∧w=u0 v i (nameOf t) (bb r)∧e_ w.2.1=0
theorem ag4{v:af.D}(hv:bH v){i:Nat}(hi:i<v.2.1.length)(hk:kindOf (J I v.2.1 i)=2)(s:aF){id:Int}(b3:(bl v.2.1 id).isSome=true):aq 1000 (u0 v i s id).2.1:=by
 have:=hv.st.set (k:=1) (i:=i) (y:=b0 (J I v.2.1 i) (ins (ak (J I v.2.1 i)) s id)) hi rfl (by
  intro e he
  rcases oy.1 he with he | rfl
  ·exact hv.hp i hi e he
  ·exact b3) (fun h=>absurd hk h) (by show(ins (ak (J I v.2.1 i)) s id).length≤_;rw [xh];omega) (Nat.le_add_right _ _)
 exact this.mono (by omega)
theorem ag5(v:af.D)(c:aH.D)(x:aK.D)(hv:bH v)(hc:dm c=true)(hx:iu x):bq v c x (Et ((v,c,x,()),())) (CQ (v,c,x,())) (F8 v c x):=by
 have cn:=hv.iv
 have hl:v.2.1.length≤1048576:=cn.len
 have au:=hx.path
 have ag6:=hx.sm
 show bq v c x (KR (v,c,x,())) (JC v c x) _
 unfold KR JC
 obtain ⟨r,⟨hr,_⟩,Aa,gm⟩:=xg v c x (fz x) false cn hc (by omega)
 show bq v c x (Option.bind (kH ((v,c,x,()),fz x,false,())) _) (Option.bind (fk (v,c,fz x,false,())) _) _
 rw [Aa,gm]
 simp only [av]
 show bq v c x (cond (bI r != 0) (some (bI r,(v,c,x,()),())) _) (cond (bI r != 0) (some (v,(bI r,[],()),())) _) _
 by_cases b1:bI r=0
 case neg =>
  rw [cY b1]
  exact bq.no (bI r) b1 rfl rfl
 rw [dC b1]
 simp only [cond_false]
 obtain ⟨j,hj⟩:=hr.there b1
 have hjl:=bS hj
 show bq v c x (Option.bind (uH (v,bb r,())) _) (Option.bind (wz (v,bb r,())) _) _
 rw [FH v _ hl,U8 v _ hl]
 simp only [av]
 cases M8:kN v.2.1 (bb r) with
 | true=>exact bq.no 1 (by decide) rfl rfl
 | false =>
 simp only [cond_false]
 have lj:kindOf (J I v.2.1 j)≠2:=by
  unfold kN at M8
  rw [hj] at M8
  exact beq_eq_false_iff_ne.1 M8
 obtain ⟨t,c8,code,M3,M4,M5⟩:=VC v c x (iS x) cn hc (by omega)
 show bq v c x (Option.bind (uE ((v,c,x,()),iS x,())) _) (Option.bind (tI (v,c,iS x,())) _) _
 rw [M3,M4]
 simp only [av]
 by_cases F9:code=0
 case neg =>
  rw [cY F9]
  exact bq.no code F9 rfl rfl
 obtain ⟨rfl,ht,VT,htn⟩:=M5 F9
 rw [dC F9]
 simp only [cond_false]
 obtain ⟨oz,jA,d,ag,fP,ny⟩:=ht.new VT htn
 have hdl:=bS ag
 show bq v c x (Option.bind (nc ((v,c,x,()),bY c8,())) _) (Option.bind (e6 (v,bY c8,())) _) _
 rw [z8 v c x _ hl hc ag,jg v _ hl ag]
 simp only [av]
 rw [pt c _ 3 hc]
 simp only [av]
 cases hm:may c (J I v.2.1 d) 3 with
 | false=>exact bq.no 13 (by decide) rfl rfl
 | true =>
 simp only [Bool.not_true,cond_false]
 show bq v c x (Option.bind (fm (v,bY c8,())) _) _ _
 rw [mu v _ hl ag]
 simp only [av,List.isEmpty_cons,Bool.not_false,cond_true]
 have hy:=hv.ino d hdl.1
 have VQ:=(hy.dir fP).2.2.2
 show bq v c x (cond (((ak (J I v.2.1 d)).length:Int)==12) _ _) (cond (decide (((ak (J I v.2.1 d)).length:Int)≥12)) _ _) _
 by_cases lg:(ak (J I v.2.1 d)).length=12
 ·rw [show(((ak (J I v.2.1 d)).length:Int)==12)=true by rw [lg];rfl,decide_eq_true (by omega)]
  exact bq.no 28 (by decide) rfl rfl
 rw [show(((ak (J I v.2.1 d)).length:Int)==12)=false by rw [beq_eq_false_iff_ne];omega,decide_eq_false (show ¬((ak (J I v.2.1 d)).length:Int)≥12 by omega)]
 simp only [cond_false]
 rw [uT v hl (fun i hi=>Nat.le_trans (fM hi) cn.cH)]
 simp only [av]
 have hnl:=Nat.le_trans (fM hdl.1) cn.cH
 show bq v c x (Option.bind (r7 ((v,c,x,()),bY c8,nameOf c8,bb r,())) _) (Option.bind (rL (v,bY c8,nameOf c8,bb r,())) _) _
 rw [MX v c x _ _ _ hl ag hnl,MZ v _ _ _ hl ag hnl (z1 ny fun e he=>hv.z6 hdl.1 he)]
 simp only [av]
 show bq v c x (Option.bind (nd ((u0 v d (nameOf c8) (bb r),c,x,()),())) fun bt=>some (bt.1,(u0 v d (nameOf c8) (bb r),c,x,()),())) (Option.bind (qm (v,u0 v d (nameOf c8) (bb r),())) fun dn=>some (dn.1,dn.2.1,())) _
 have hst:=ag4 hv hdl.1 fP (nameOf c8) (id:=bb r) (by rw [hj];rfl)
 rw [zX _ c x hst (by omega),zY v _ hst (by omega)]
 exact⟨_,_,rfl,rfl,fun h=>⟨r,c8,d,j,hr,b1,hj,lj,ht,VT,htn,ag,fP,by omega,rfl,h⟩⟩
def nz(l:List aL):Nat→Int→Int→Bool
 | 0,_,_=>false
 | k+1,id,top=>cond (id==top) true (cond (id==1) false (nz l k (jZ l id) top))
theorem ag7(v:af.D)(id top:Int)(hl:v.2.1.length≤1048576)(hn:dr v.2.1≤1048576):yW (v,id,top,())=some (nz v.2.1 (v.2.1.length+1) id top,()):=by
 show CS (tT aR) v id top=_
 unfold CS
 have key:∀(r k m:Nat) (id:Int),k+r=v.2.1.length+1→r<m→tT m id top (k:Int) v=some (nz v.2.1 r id top,()):=by
  intro r
  induction r with
  | zero =>
   intro k m id hk hm
   obtain ⟨m,rfl,_⟩:=fuel hm
   simp only [tT,CT]
   rw [decide_eq_false (by omega)];rfl
  | succ r ih =>
   intro k m id hk hm
   obtain ⟨m,rfl,oT⟩:=fuel hm
   simp only [tT,CT]
   rw [decide_eq_true (show(k:Int)≤(v.2.1.length:Int) by omega),U_ v id hl hn,df k (by omega)]
   simp only [cond_true,av]
   rw [ih (k+1) m _ (by omega) (by omega),nz]
   cases id==top <;> cases id==1 <;> rfl
 exact key (v.2.1.length+1) 0 aR id (by omega) (ja (by omega))
theorem M9{α : Type}{f : α → Nat} : ∀ {l:List α},(∀x,x∈l→f x=0)→(l.map f).sum=0
 | [],_=>rfl
 | x :: l,h=>by
  simp only [List.map_cons,List.sum_cons]
  rw [h x List.mem_cons_self,M9 fun y aO=>h y (List.mem_cons_of_mem _ aO)]
def up(l:List aL):Nat→Int→Int
 | 0,d=>d
 | k+1,d=>up l k (jZ l d)
theorem M_{α : Type}(f : α → Nat):∀(l:List α) (i j:Nat) (hi:i<l.length) (hj:j<l.length),i<j→f l[i]+f l[j]≤(l.map f).sum
 | [],_,_,hi,_,_=>by simp at hi
 | x :: l,i,j+1,hi,hj,ix=>by
  cases i with
  | zero =>
   simp only [List.getElem_cons_zero,List.getElem_cons_succ,List.map_cons,List.sum_cons]
   have:=FB (f:=f) (List.getElem_mem (l:=l) (by simpa using hj:j<l.length))
   omega
  | succ i =>
   simp only [List.getElem_cons_succ,List.map_cons,List.sum_cons]
   have:=M_ f l i j (by simpa using hi) (by simpa using hj) (by omega)
   omega
theorem M'{N:List aw.D}{id:Int} : px N id=true↔0<dq N id:=by
 constructor
 ·intro h
  obtain ⟨j,h1,h2,_⟩:=FJ h
  unfold kO at h2
  exact List.length_pos_of_mem (List.mem_filter.2 ⟨cE h1,h2⟩)
 ·intro h
  obtain ⟨d,ag⟩:=List.exists_mem_of_length_pos h
  obtain ⟨h1,h2⟩:=List.mem_filter.1 ag
  obtain ⟨i,hi,he⟩:=e8 h1
  cases hb:px N id with
  | true=>rfl
  | false =>
   have:=MQ hb i hi
   unfold kO at this
   rw [he,h2] at this;cases this
theorem F_{l:List aL}(ag:hV l){b d:Int}(h1:cg l d=1)(h:E l b d):jZ l d=b:=by
 obtain ⟨i,e,hi,he,rfl⟩:=h
 obtain ⟨bJ,ot⟩:=bS hi
 have hci:0<dq (ak (J I l i)) e.2.1:=List.length_pos_of_mem (List.mem_filter.2 ⟨he,by simp⟩)
 unfold jZ
 cases au:FI l e.2.1 with
 | none =>
  have:=lD.1 au i bJ
  rw [M'.2 hci] at this;cases this
 | some j =>
  obtain ⟨hj,ag8,_⟩:=hT.1 au
  have VU:=M'.1 ag8
  have:j=i:=by
   refine Decidable.byContradiction fun hne=>?_
   rcases Nat.lt_or_gt_of_ne hne with h | h
   ·have:=M_ (fun x=>dq (ak x) e.2.1) l j i hj bJ h
    rw [c7 hj] at VU
    rw [c7 bJ] at hci
    unfold cg at h1
    have h2:dq (ak l[j]) e.2.1+dq (ak l[i]) e.2.1≤(l.map fun x=>dq (ak x) e.2.1).sum:=this
    omega
   ·have:=M_ (fun x=>dq (ak x) e.2.1) l i j bJ hj h
    rw [c7 hj] at VU
    rw [c7 bJ] at hci
    unfold cg at h1
    have h2:dq (ak l[i]) e.2.1+dq (ak l[j]) e.2.1≤(l.map fun x=>dq (ak x) e.2.1).sum:=this
    omega
  subst this
  exact ot
theorem bH.Na{v:af.D}(h:bH v){a:Int} : ¬dM v.2.1 a 1:=by
 intro hb
 have hE:∀b,¬E v.2.1 b 1:=by
  rintro b ⟨i,d,hi,ag,he⟩
  exact((h.ino i (bS hi).1).names d ag).2.1 he
 cases hb with
 | single h=>exact hE _ h
 | tail _ h=>exact hE _ h
theorem bH.VV{v:af.D}(h:bH v){b d:Int}(he:E v.2.1 b d):d≠1:=by
 rintro rfl
 exact h.Na (.single he)
theorem bH.Nb{v:af.D}(h:bH v){d:Int}(ag:lE v.2.1 d)(h1:d≠1):cg v.2.1 d=1:=by
 obtain ⟨i,hi,hk⟩:=ag
 obtain ⟨bJ,b3⟩:=bS hi
 have:=h.once i (by
  rcases Nat.eq_zero_or_pos i with h0 | h0
  ·subst h0
   exact absurd ((show(J I v.2.1 0).1=1 from h.root.1).symm.trans b3).symm h1
  ·exact h0) bJ hk
 rwa [b3] at this
theorem bH.ag9{v:af.D}(h:bH v){b d:Int}(he:E v.2.1 b d):lE v.2.1 b:=by
 obtain ⟨i,e,hi,hm,_⟩:=he
 refine⟨i,hi,Decidable.byContradiction fun hk=>?_⟩
 rw [((h.ino i (bS hi).1).plain hk).2.2] at hm
 simp at hm
theorem bH.ag_{v:af.D}(h:bH v){a d:Int}(ag:lE v.2.1 d)(h1:d≠1):dM v.2.1 a d↔a=jZ v.2.1 d∨dM v.2.1 a (jZ v.2.1 d):=by
 have ho:=h.Nb ag h1
 constructor
 ·intro hb
  cases hb with
  | single he=>exact .inl (F_ h.fO ho he).symm
  | tail hb he=>rw [F_ h.fO ho he];exact .inr hb
 ·intro hb
  have hE:E v.2.1 (jZ v.2.1 d) d:=by
   cases au:FI v.2.1 d with
   | none =>
    exfalso
    have h0:=lD.1 au
    have:cg v.2.1 d=0:=by
     unfold cg
     refine M9 fun x hx=>?_
     obtain ⟨i,hi,aA⟩:=e8 hx
     have:=h0 i hi
     rw [aA] at this
     refine Decidable.byContradiction fun hc=>?_
     rw [M'.2 (by omega)] at this;cases this
    omega
   | some i =>
    obtain ⟨hi,hh,_⟩:=hT.1 au
    obtain ⟨j,hj,VW,_⟩:=FJ hh
    unfold jZ
    rw [au]
    exact⟨i,J aw (ak (J I v.2.1 i)) j,h.fO i hi,cE hj,by unfold kO at VW;simpa using VW⟩
  rcases hb with rfl | hb
  ·exact .single hE
  ·exact .tail hb hE
theorem ag'{v:af.D}(h:bH v)(top:Int):∀(n k:Nat) (d:Int),lE v.2.1 d→up v.2.1 n d=1→n<k→(nz v.2.1 k d top=true↔d=top∨dM v.2.1 top d):=by
 intro n
 induction n with
 | zero =>
  intro k d ag hu hk
  obtain ⟨k,rfl,_⟩:=fuel hk
  have hu:d=1:=hu
  subst hu
  rw [nz]
  by_cases h1:(1:Int)=top
  ·rw [cD h1];exact⟨fun _=>.inl h1,fun _=>rfl⟩
  ·rw [cd h1]
   exact⟨fun h=>(by cases h),fun h'=>h'.elim (fun h=>absurd h h1) fun hb=>absurd hb h.Na⟩
 | succ n ih =>
  intro k d ag hu hk
  obtain ⟨k,rfl,ee⟩:=fuel hk
  rw [nz]
  by_cases h1:d=top
  ·rw [cD h1];exact⟨fun _=>.inl h1,fun _=>rfl⟩
  ·rw [cd h1]
   by_cases h2:d=1
   ·rw [cD h2]
    subst h2
    exact⟨fun h=>(by cases h),fun h'=>h'.elim (fun h=>absurd h h1) fun hb=>absurd hb h.Na⟩
   ·rw [cd h2]
    simp only [cond_false]
    rw [ih k (jZ v.2.1 d) (FO h.iv _) hu (by omega),h.ag_ ag h2]
    constructor
    ·rintro (h | h)
     ·exact .inr (.inl h.symm)
     ·exact .inr (.inr h)
    ·rintro (h | h | h)
     ·exact absurd h h1
     ·exact .inl h.symm
     ·exact .inr h
theorem up_add(l:List aL)(a:Nat):∀(b:Nat) (d:Int),up l (a+b) d=up l a (up l b d)
 | 0,_=>rfl
 | b+1,d=>up_add l a b (jZ l d)
theorem bH.aha{v:af.D}(h:bH v){d:Int}(ag:lE v.2.1 d):∃n,up v.2.1 n d=1:=by
 obtain ⟨i,hi,hk⟩:=ag
 obtain ⟨bJ,b3⟩:=bS hi
 rcases Nat.eq_zero_or_pos i with h0 | h0
 ·subst h0
  exact⟨0,b3.symm.trans (show(J I v.2.1 0).1=1 from h.root.1)⟩
 ·have hb:=h.reach i h0 bJ
  rw [b3] at hb
  have key:∀d,dM v.2.1 1 d→lE v.2.1 d→∃n,up v.2.1 n d=1:=by
   intro d hb
   induction hb with
   | single he =>
    intro ag
    have h1:=h.VV he
    exact⟨1,F_ h.fO (h.Nb ag h1) he⟩
   | tail hb he ih =>
    intro ag
    have h1:=h.VV he
    obtain ⟨n,hn⟩:=ih (h.ag9 he)
    exact⟨n+1,by show up v.2.1 n (jZ v.2.1 _)=1;rw [F_ h.fO (h.Nb ag h1) he];exact hn⟩
  exact key d hb ⟨i,hi,hk⟩
theorem least{P:Nat→Prop} : ∀n,P n→∃m,P m∧∀k,k<m→¬P k:=by
 intro n
 induction n using Nat.strongRecOn with
 | _ n ih =>
  intro hn
  by_cases h:∃k,k<n∧P k
  ·obtain ⟨k,hk,au⟩:=h
   exact ih k hk au
  ·exact⟨n,hn,fun k hk au=>h ⟨k,hk,au⟩⟩
theorem VX{v:af.D}(h:bH v):∀(n:Nat) {d:Int},lE v.2.1 d→lE v.2.1 (up v.2.1 n d)
 | 0,_,ag=>ag
 | n+1,d,_=>VX h n (FO h.iv d)
theorem bH.ahb{v:af.D}(h:bH v){d:Int}(ag:lE v.2.1 d):∃n,n<v.2.1.length∧up v.2.1 n d=1:=by
 obtain ⟨ahc,h0⟩:=h.aha ag
 obtain ⟨n,hn,ahd⟩:=least (P:=fun n=>up v.2.1 n d=1) ahc h0
 refine⟨n,?_,hn⟩
 have hR:((List.range (n+1)).map fun i=>up v.2.1 i d).Nodup:=by
  unfold List.Nodup
  rw [List.pairwise_iff_getElem]
  intro i j hi hj ix he
  simp only [List.length_map,List.length_range] at hi hj
  simp only [List.getElem_map,List.getElem_range] at he
  refine ahd (n-(j-i)) (by omega) ?_
  show up v.2.1 (n-(j-i)) d=1
  rw [show n-(j-i)=(n-j)+i by omega,up_add,he,← up_add,show n-j+j=n by omega]
  exact hn
 have kv:((List.range (n+1)).map fun i=>up v.2.1 i d)⊆v.2.1.map fun x=>x.1:=by
  intro a ha
  obtain ⟨i,_,rfl⟩:=List.mem_map.1 ha
  obtain ⟨j,hj,_⟩:=VX h i ag
  obtain ⟨h1,h2⟩:=bS hj
  exact List.mem_map.2 ⟨_,cE h1,h2⟩
 have:=hR.length_le_of_subset kv
 simp only [List.length_map,List.length_range] at this
 omega
theorem VY{v:af.D}(h:bH v){d:Int}(ag:lE v.2.1 d)(top:Int):nz v.2.1 (v.2.1.length+1) d top=true↔d=top∨dM v.2.1 top d:=by
 obtain ⟨n,h1,h2⟩:=h.ahb ag
 exact ag' h top n _ d ag h2 (by omega)
theorem xj{N:List aw.D}(t:aF)(h:iQ N):N.takeWhile (dS t)=N.filter (dS t)∧N.dropWhile (dS t)=N.filter fun d => !dS t d:=by
 induction N with
 | nil=>exact⟨rfl,rfl⟩
 | cons d r ih =>
  obtain ⟨h1,h2⟩:=List.pairwise_cons.1 h
  obtain ⟨i1,i2⟩:=ih h2
  rw [List.takeWhile_cons,List.dropWhile_cons,List.filter_cons,List.filter_cons]
  cases ag:dS t d with
  | true=>simp [i1,i2]
  | false =>
   have bO:∀e,e∈r→dS t e=false:=by
    intro e he
    have h3:=h1 e he
    cases hk:dS t e with
    | false=>rfl
    | true =>
     have:=zU h3 hk
     unfold dS at ag
     rw [ag] at this;cases this
   have f1:r.filter (dS t)=[]:=List.filter_eq_nil_iff.2 fun e he=>by rw [bO e he];simp
   have f2:(r.filter fun d => !dS t d)=r:=List.filter_eq_self.2 fun e he=>by rw [bO e he];rfl
   simp [f1,f2]
theorem u1{N:List aw.D}(h:iQ N)(s:aF):iQ (b9 N s):=List.Pairwise.sublist List.filter_sublist h
theorem ahe{N:List aw.D}(h:iQ N){r t:aF}{id:Int}(hne:t≠r):b9 (ins N t id) r=ins (b9 N r) t id:=by
 unfold ins
 rw [(xj t h).1,(xj t h).2,(xj t (u1 h r)).1,(xj t (u1 h r)).2]
 unfold b9
 rw [List.filter_append,List.filter_append,List.filter_cons,List.filter_nil,List.filter_filter,List.filter_filter,List.filter_filter,List.filter_filter]
 have:br t r=false:=by unfold br;simpa using hne
 rw [this]
 simp only [Bool.not_false,if_true]
 congr 1
 ·congr 1
  exact List.filter_congr fun d _=>Bool.and_comm _ _
 ·exact List.filter_congr fun d _=>Bool.and_comm _ _
theorem VZ{N:List aw.D}(h:iQ N){t:aF}{id:Int}(hn:∀d,d∈N→d.1≠t):iQ (ins N t id):=by
 unfold ins
 rw [(xj t h).1,(xj t h).2]
 unfold iQ
 rw [List.append_assoc,List.pairwise_append]
 refine⟨List.Pairwise.sublist List.filter_sublist h,?_,fun a ha b hb=>?_⟩
 ·rw [List.singleton_append,List.pairwise_cons]
  refine⟨fun b hb=>?_,List.Pairwise.sublist List.filter_sublist h⟩
  obtain ⟨h1,h2⟩:=List.mem_filter.1 hb
  unfold dS at h2
  rw [MT (hn b h1)]
  exact h2
 ·obtain ⟨h1,h2⟩:=List.mem_filter.1 ha
  have h2:du a.1 t=true:=h2
  rcases List.mem_append.1 hb with hb | hb
  ·simp only [List.mem_singleton] at hb
   subst hb;exact h2
  ·obtain ⟨h3,h4⟩:=List.mem_filter.1 hb
   unfold dS at h4
   refine zU h2 ?_
   rw [MT (hn b h3)]
   exact h4
theorem Ga{N:List aw.D}(h:iQ N){d:aw.D}(ag:d∈N):dE N d.1=d.2.1:=by
 rw [look_eq]
 induction N with
 | nil=>simp at ag
 | cons e r ih =>
  obtain ⟨h1,h2⟩:=List.pairwise_cons.1 h
  rw [zZ]
  rcases List.mem_cons.1 ag with rfl | ag
  ·have:br d.1 d.1=true:=by unfold br;simp
   rw [this];rfl
  ·have:br e.1 d.1=false:=by unfold br;simpa using FL (h1 d ag)
   rw [this]
   exact ih h2 ag
theorem V0{N:List aw.D}{s:aF} : ∀d,d∈b9 N s→d.1≠s:=by
 intro d ag
 have:=(List.mem_filter.1 ag).2
 unfold br at this
 simpa using this
theorem sn{N:List aw.D}{s:aF}{d:aw.D}(h:d∈b9 N s):d∈N:=(List.mem_filter.1 h).1
def cP(l:List aL)(ir:Nat)(cq:aF):List aL:=l.set ir (b0 (J I l ir) (b9 (ak (J I l ir)) cq))
def gn(l:List aL)(it:Nat)(dF:aF)(bA:Int):List aL:=l.set it (b0 (J I l it) (ins (ak (J I l it)) dF bA))
def c9(l:List aL)(ir:Nat)(cq:aF)(it:Nat)(dF:aF)(bA:Int):List aL:=gn (cP l ir cq) it dF bA
structure pG(l:List aL)(rd jj:Int)(ir it:Nat)(cq dF:aF)(bA:Int):Prop where
 st:aq 1000 l
 hr:bl l rd=some ir
 ht:bl l jj=some it
 Ab:kindOf (J I l ir)=2
 Nc:kindOf (J I l it)=2
 I':iQ (ak (J I l ir))
 ahf:iQ (ak (J I l it))
 look:dE (ak (J I l ir)) cq=bA
 V1:bA≠0
 ex:(bl l bA).isSome=true
 no:∀d,d∈ak (J I l it)→d.1≠dF
 ne:ir=it→cq≠dF
theorem so(x:aL)(N:List aw.D):(b0 x N).1=x.1:=rfl
theorem Ac{l:List aL}{i:Nat}(N:List aw.D)(hi:i<l.length)(id:Int):bl (l.set i (b0 (J I l i) N)) id=bl l id:=F2 hi (so _ N) id
theorem Nd{l:List aL}{ir:Nat}{cq:aF}(hi:ir<l.length)(id:Int):bl (cP l ir cq) id=bl l id:=Ac _ hi id
theorem V2{l:List aL}{it:Nat}{dF:aF}{bA:Int}(hi:it<l.length)(id:Int):bl (gn l it dF bA) id=bl l id:=Ac _ hi id
theorem ahg{l:List aL}{rd jj:Int}{ir it:Nat}{cq dF:aF}{bA:Int}(h:pG l rd jj ir it cq dF bA):cP (gn l it dF bA) ir cq=c9 l ir cq it dF bA:=by
 have hr:=(bS h.hr).1
 have ht:=(bS h.ht).1
 unfold c9 cP gn
 rw [gR ht,gR hr]
 by_cases he:it=ir
 ·subst he
  rw [if_pos rfl,if_pos rfl,List.set_set,List.set_set,iR,iR,ahe h.I' (fun e=>h.ne rfl e.symm)]
  rfl
 ·rw [if_neg he,if_neg (fun e=>he e.symm),List.set_comm _ _ he]
theorem V3{l:List aL}{rd jj:Int}{ir it:Nat}{cq dF:aF}{bA:Int}(h:pG l rd jj ir it cq dF bA):aq 1001 (cP l ir cq)∧aq 1003 (c9 l ir cq it dF bA):=by
 have hr:=(bS h.hr).1
 have ht:=(bS h.ht).1
 have h1:aq 1001 (cP l ir cq):=h.st.set (k:=1) hr rfl (fun d ag=>h.st.hp ir hr d (sn ag)) (fun hk=>absurd h.Ab hk) (Nat.le_trans (uX _ _) (by omega)) (Nat.le_add_right _ _)
 have aA:kindOf (J I (cP l ir cq) it)=2∧(J I (cP l ir cq) it).1=jj:=by
  unfold cP
  rw [gR hr]
  split
  ·rename_i he;exact⟨h.Ab,by show(J I l ir).1=jj;rw [he];exact(bS h.ht).2⟩
  ·exact⟨h.Nc,(bS h.ht).2⟩
 have hex:∀id,(bl (cP l ir cq) id).isSome=(bl l id).isSome:=fun id=>by rw [Nd hr]
 refine⟨h1,(h1.set (k:=1) (i:=it) (y:=b0 (J I (cP l ir cq) it) (ins (ak (J I (cP l ir cq) it)) dF bA)) (by unfold cP;rw [List.length_set];exact ht) rfl (fun d ag=>?_) (fun hk=>absurd aA.1 hk) (by rw [iR,xh];omega) (Nat.le_add_right _ _)).mono (by omega)⟩
 rcases oy.1 ag with ag | rfl
 ·exact h1.hp it (by unfold cP;rw [List.length_set];exact ht) d ag
 ·rw [hex];exact h.ex
theorem ahh(m:Nat)(a b d):(iO (m+1)).hS a b d=KW (iO m) a b d:=rfl
theorem ahi(m:Nat)(a b d e):(iO (m+1)).mc a b d e=KV (iO m) a b d e:=rfl
theorem ahj(m:Nat)(a b d e):(iO (m+1)).fi a b d e=KU (iO m) a b d e:=rfl
theorem ahk(m:Nat)(a b d):(iO (m+1)).dj a b d=KT (iO m) a b d:=rfl
theorem ahl(m:Nat)(a b d e f g):(gi (m+1)).mf a b d e f g=JH (gi m) a b d e f g:=rfl
theorem ahm(m:Nat)(a b d e f g h i):(gi (m+1)).JD a b d e f g h i=JI (gi m) a b d e f g h i:=rfl
theorem ahn(m:Nat)(a b d e f g h i):(gi (m+1)).o9 a b d e f g h i=JG (gi m) a b d e f g h i:=rfl
theorem aho(m:Nat)(a b d e f g h i):(gi (m+1)).fc a b d e f g h i=JF (gi m) a b d e f g h i:=rfl
theorem ahp(m:Nat)(a b d e f g):(gi (m+1)).dj a b d e f g=JE (gi m) a b d e f g:=rfl
theorem V4{n:Int}{l:List aL}(c:aH.D)(x:aK.D)(r t:aJ.D){ir it:Nat}(h:pG l (bY r) (bY t) ir it (nameOf r) (nameOf t) (bb r))(m:Nat) :
  (iO (m+1)).hS ((n,l,()),c,x,()) r t=some (e_ (c9 l ir (nameOf r) it (nameOf t) (bb r)),((n,c9 l ir (nameOf r) it (nameOf t) (bb r),()),c,x,()),()):=by
 have hr:=(bS h.hr).1
 have ht:=(bS h.ht).1
 obtain ⟨s1,s2⟩:=V3 h
 have iF:=h.st.len
 have pV:=h.st.cH
 have rj:=s1.len
 have AY:=s1.cH
 rw [ahh]
 unfold KW
 show Option.bind (oi (((n,l,()),c,x,()),bY r,nameOf r,false,())) _=_
 rw [MY (n,l,()) c x _ _ false (show l.length≤1048576 by omega) (show dr l≤1048576 by omega) h.hr]
 simp only [av,cond_false]
 show Option.bind (r7 (((n,cP l ir (nameOf r),()),c,x,()),bY t,nameOf t,bb r,())) _=_
 have gD:bl (cP l ir (nameOf r)) (bY t)=some it:=by rw [Nd hr];exact h.ht
 rw [MX (n,cP l ir (nameOf r),()) c x _ _ _ (show(cP l ir (nameOf r)).length≤1048576 by omega) gD (by
  have:=fM (l:=cP l ir (nameOf r)) (i:=it) (bS gD).1
  show(ak (J I (cP l ir (nameOf r)) it)).length≤_
  omega)]
 simp only [av]
 show Option.bind (nd (((n,c9 l ir (nameOf r) it (nameOf t) (bb r),()),c,x,()),())) (fun v3=>some (v3.1,((n,c9 l ir (nameOf r) it (nameOf t) (bb r),()),c,x,()),()))=_
 rw [zX (n,c9 l ir (nameOf r) it (nameOf t) (bb r),()) c x s2 (by omega)];rfl
theorem V5{n:Int}{l:List aL}(v:af.D)(z:af.D)(js:aS.D)(r t:aJ.D){ir it:Nat}(h:pG l (bY r) (bY t) ir it (nameOf r) (nameOf t) (bb r))(m:Nat) :
  (gi (m+1)).mf v z js r t (n,l,())=some (cond (e_ (c9 l ir (nameOf r) it (nameOf t) (bb r))==0) (n,c9 l ir (nameOf r) it (nameOf t) (bb r),()) v,(e_ (c9 l ir (nameOf r) it (nameOf t) (bb r)),[],()),()):=by
 have hr:=(bS h.hr).1
 have ht:=(bS h.ht).1
 obtain ⟨s1,s2⟩:=V3 h
 have iF:=h.st.len
 have pV:=h.st.cH
 have rj:=fM ht
 rw [ahl]
 unfold JH
 show Option.bind (rL ((n,l,()),bY t,nameOf t,bb r,())) _=_
 rw [MZ (n,l,()) _ _ _ (show l.length≤1048576 by omega) h.ht (show(ak (J I l it)).length≤1048576 by omega) h.no]
 simp only [av]
 show Option.bind (oa ((n,gn l it (nameOf t) (bb r),()),bY r,nameOf r,())) _=_
 have nA:J I (gn l it (nameOf t) (bb r)) ir=if it=ir then b0 (J I l it) (ins (ak (J I l it)) (nameOf t) (bb r)) else J I l ir:=by unfold gn;rw [gR ht]
 have V6:iQ (ak (J I (gn l it (nameOf t) (bb r)) ir)):=by
  rw [nA]
  split
  ·rw [iR];exact VZ h.ahf h.no
  ·exact h.I'
 have bJ:bl (gn l it (nameOf t) (bb r)) (bY r)=some ir:=by rw [V2 ht];exact h.hr
 have Ad:(gn l it (nameOf t) (bb r)).length≤1048576:=by unfold gn;rw [List.length_set];omega
 have ahq:dr (gn l it (nameOf t) (bb r))≤1048576:=by
  have:=FY (l:=l) (y:=b0 (J I l it) (ins (ak (J I l it)) (nameOf t) (bb r))) ht
  rw [iR,xh] at this
  unfold gn;omega
 rw [M1 (n,gn l it (nameOf t) (bb r),()) _ _ Ad ahq bJ V6]
 have ny:dE (ak (J I (gn l it (nameOf t) (bb r)) ir)) (nameOf r)=bb r:=by
  obtain ⟨e,he,Vu,qa⟩:=qQ (N:=ak (J I l ir)) (s:=nameOf r) (by rw [h.look];exact h.V1)
  have ahr:e∈ak (J I (gn l it (nameOf t) (bb r)) ir):=by
   rw [nA]
   split
   ·rename_i hh;rw [iR,hh];exact oy.2 (.inl he)
   ·exact he
  have:=Ga V6 ahr
  rw [Vu,qa,h.look] at this
  exact this
 rw [show((n,gn l it (nameOf t) (bb r),()):af.D).2.1=gn l it (nameOf t) (bb r) from rfl,ny]
 have pE:goN ((gn l it (nameOf t) (bb r)).set ir (b0 (J I (gn l it (nameOf t) (bb r)) ir) (b9 (ak (J I (gn l it (nameOf t) (bb r)) ir)) (nameOf r)))) (bb r)=c9 l ir (nameOf r) it (nameOf t) (bb r):=by
  have hc:=ahg h
  unfold cP at hc
  rw [hc]
  unfold goN
  rw [decide_eq_false];rfl
  intro h0
  have dO:it<(cP l ir (nameOf r)).length:=by unfold cP;rw [List.length_set];exact ht
  have i':J I (c9 l ir (nameOf r) it (nameOf t) (bb r)) it∈c9 l ir (nameOf r) it (nameOf t) (bb r):=cE (by unfold c9 gn;rw [List.length_set];exact dO)
  refine F3 h0 _ i' (nameOf t,bb r,()) ?_ rfl
  unfold c9 gn
  rw [gR dO,if_pos rfl,iR]
  exact oy.2 (.inr rfl)
 rw [pE]
 simp only [av]
 show Option.bind (qm (v,(n,c9 l ir (nameOf r) it (nameOf t) (bb r),()),())) _=_
 rw [zY v (n,c9 l ir (nameOf r) it (nameOf t) (bb r),()) s2 (by omega)];rfl
def Nf(c:aH.D)(d n m:aL):Int :=
 cond (!pv c d m) 1 (cond (kindOf n==2) (cond (kindOf m != 2) 20 (cond (decide (((ak m).length:Int)>0)) 39 0)) (cond (kindOf m==2) 21 0))
theorem ahs(v:af.D)(c:aH.D)(x:aK.D)(n:aL)(t:aJ.D)(hl:v.2.1.length≤1048576)(hc:dm c=true){i j:Nat}(hi:bl v.2.1 (bY t)=some i)(hj:bl v.2.1 (bb t)=some j) :
  Eu ((v,c,x,()),n,t,())=some (Nf c (J I v.2.1 i) n (J I v.2.1 j),()):=by
 show KS (v,c,x,()) n t=_
 unfold KS Nf
 rw [lx]
 show Option.bind (fm (v,bb t,())) _=_
 rw [mu v _ hl hj]
 simp only [av,List.isEmpty_cons,Bool.not_false,cond_true]
 show Option.bind (fm (v,bY t,())) _=_
 rw [mu v _ hl hi]
 simp only [av,List.isEmpty_cons,Bool.not_false,cond_true]
 show Option.bind (r8 (c,J I v.2.1 i,J I v.2.1 j,())) _=_
 rw [MN c _ _ hc]
 simp only [av]
 show cond (!pv c (J I v.2.1 i) (J I v.2.1 j)) _ (cond (kindOf n==2) (cond (!(kindOf (J I v.2.1 j)==2)) _ (cond (kindOf n==2) (cond (decide (((ak (J I v.2.1 j)).length:Int)>0)) _ (cond (!(kindOf n==2)) (cond (kindOf (J I v.2.1 j)==2) _ _) _)) _)) (cond (kindOf n==2) _ (cond (!(kindOf n==2)) (cond (kindOf (J I v.2.1 j)==2) _ _) _)))=_
 unfold bne
 cases pv c (J I v.2.1 i) (J I v.2.1 j) <;> cases kindOf n==2 <;> cases kindOf (J I v.2.1 j)==2 <;> cases decide (((ak (J I v.2.1 j)).length:Int)>0) <;> rfl
structure u2(v:af.D)(c:aH.D)(x:aK.D)(w:af.D):Prop where
 out:∃r t j,lF v.2.1 r∧bI r=0∧nameOf r≠[]∧bl v.2.1 (bb r)=some j∧lF v.2.1 t∧nameOf t≠[]∧(bI t=0∨bI t=2)∧(fk (v,c,fz x,false,())=some (r,())∧fk (v,c,iS x,false,())=some (t,())) ∧
  (bb t=bb r∧w=v∨bb t≠bb r∧(kindOf (J I v.2.1 j)=2→bY t≠bb r∧¬dM v.2.1 (bb r) (bY t)) ∧
   ∃l ir it,pG l (bY r) (bY t) ir it (nameOf r) (nameOf t) (bb r)∧w=(v.1,c9 l ir (nameOf r) it (nameOf t) (bb r),())∧e_ w.2.1=0 ∧
    ((bb t=0∧l=v.2.1∧(bY r≠bY t→(ak (J I l it)).length<12)) ∨
     (∃i2 ew,bl v.2.1 (bY t)=some i2∧kindOf (J I v.2.1 i2)=2∧bl v.2.1 (bb t)=some ew∧ak (J I v.2.1 ew)=[]∧dE (ak (J I v.2.1 i2)) (nameOf t)=bb t∧(kindOf (J I v.2.1 j)=2↔kindOf (J I v.2.1 ew)=2)∧l=(kl v i2 (nameOf t)).2.1)))
theorem V7{v:af.D}(hv:bH v){i2:Nat}(hi:i2<v.2.1.length)(hk:kindOf (J I v.2.1 i2)=2)(s:aF):aq 1000 (kl v i2 s).2.1 ∧
  ∀id,id≠dE (ak (J I v.2.1 i2)) s→∀k,bl v.2.1 id=some k→∃k',bl (kl v i2 s).2.1 id=some k'∧J I (kl v i2 s).2.1 k'=if i2=k then b0 (J I v.2.1 i2) (b9 (ak (J I v.2.1 i2)) s) else J I v.2.1 k:=by
 have hs1:aq 1000 (v.2.1.set i2 (b0 (J I v.2.1 i2) (b9 (ak (J I v.2.1 i2)) s))):=(hv.st.set (k:=0) (y:=b0 (J I v.2.1 i2) (b9 (ak (J I v.2.1 i2)) s)) hi rfl (fun d ag=>hv.hp i2 hi d (sn ag)) (fun h=>absurd hk h) (uX _ _) (Nat.le_refl _)).mono (by omega)
 refine⟨hs1.go _,fun id hne k b3=>?_⟩
 obtain ⟨nE,hQ⟩:=bS b3
 show ∃k',bl (goN (v.2.1.set i2 (b0 (J I v.2.1 i2) (b9 (ak (J I v.2.1 i2)) s))) (dE (ak (J I v.2.1 i2)) s)) id=some k'∧J I (goN (v.2.1.set i2 (b0 (J I v.2.1 i2) (b9 (ak (J I v.2.1 i2)) s))) (dE (ak (J I v.2.1 i2)) s)) k'=_
 have aA:J I (v.2.1.set i2 (b0 (J I v.2.1 i2) (b9 (ak (J I v.2.1 i2)) s))) k=if i2=k then b0 (J I v.2.1 i2) (b9 (ak (J I v.2.1 i2)) s) else J I v.2.1 k:=gR hi
 have Ng:bl (v.2.1.set i2 (b0 (J I v.2.1 i2) (b9 (ak (J I v.2.1 i2)) s))) id=some k:=by rw [Ac _ hi];exact b3
 rw [← aA]
 generalize v.2.1.set i2 (b0 (J I v.2.1 i2) (b9 (ak (J I v.2.1 i2)) s))=dP at hs1 Ng
 generalize dE (ak (J I v.2.1 i2)) s=gone at hne
 have pE:=hs1.go gone
 unfold goN at pE ⊢
 by_cases h0:cg dP gone=0
 ·rw [decide_eq_true h0] at pE ⊢
  simp only [cond_true] at pE ⊢
  obtain ⟨h1,h2⟩:=bS Ng
  have hm:J I dP k∈dP.filter fun y => !(y.1==gone):=List.mem_filter.2 ⟨cE h1,by rw [h2,Bool.not_eq_true',beq_eq_false_iff_ne];exact hne⟩
  obtain ⟨k',ee,he⟩:=e8 hm
  refine⟨k',?_,he⟩
  have:=pE.fO k' ee
  rwa [he,h2] at this
 ·rw [decide_eq_false h0]
  exact⟨k,Ng,rfl⟩
theorem aht(v:af.D)(c:aH.D)(x:aK.D)(hv:bH v)(hc:dm c=true)(hx:iu x):bq v c x (Ew ((v,c,x,()),())) (CV (v,c,x,())) (u2 v c x):=by
 have cn:=hv.iv
 have hl:v.2.1.length≤1048576:=cn.len
 have au:=hx.path
 have ag6:=hx.sm
 obtain ⟨q,hq,hL⟩:=jb 6
 show bq v c x (Ev (iO aR) (v,c,x,())) (CU (gi aR) v c x) _
 unfold Ev CU
 obtain ⟨r,⟨hr,_⟩,Aa,gm⟩:=xg v c x (fz x) false cn hc (by omega)
 show bq v c x (Option.bind (kH ((v,c,x,()),fz x,false,())) _) (Option.bind (fk (v,c,fz x,false,())) _) _
 rw [Aa,gm]
 simp only [av]
 show bq v c x (cond (bI r != 0) (some (bI r,(v,c,x,()),())) _) (cond (bI r != 0) (some (v,(bI r,[],()),())) _) _
 by_cases b1:bI r=0
 case neg =>
  rw [cY b1]
  exact bq.no (bI r) b1 rfl rfl
 rw [dC b1]
 simp only [cond_false]
 obtain ⟨t,⟨ht,_⟩,ahu,Gb⟩:=xg v c x (iS x) false cn hc (by omega)
 show bq v c x (Option.bind (kH ((v,c,x,()),iS x,false,())) _) (Option.bind (fk (v,c,iS x,false,())) _) _
 rw [ahu,Gb]
 simp only [av]
 show bq v c x (cond (bI t != 0) (cond (bI t != 2) (some (bI t,(v,c,x,()),())) (cond (br (nameOf t) []) (some (bI t,(v,c,x,()),())) ((iO aR).dj (v,c,x,()) r t))) ((iO aR).dj (v,c,x,()) r t))
  (cond (bI t != 0) (cond (bI t != 2) (some (v,(bI t,[],()),())) (cond (br (nameOf t) []) (some (v,(bI t,[],()),())) ((gi aR).dj v c (0,([]:List I.D),()) (0,([]:aF),()) r t))) ((gi aR).dj v c (0,([]:List I.D),()) (0,([]:aF),()) r t)) _
 by_cases j0:bI t≠0∧(bI t≠2∨nameOf t=[])
 ·rw [cY j0.1]
  by_cases h2:bI t=2
  ·have jA:nameOf t=[]:=j0.2.elim (fun h=>absurd h2 h) id
   rw [dC h2,nu.2 jA]
   exact bq.no (bI t) j0.1 rfl rfl
  ·rw [cY h2]
   exact bq.no (bI t) j0.1 rfl rfl
 have Nh:bI t=0∨bI t=2:=by
  by_cases h0:bI t=0
  ·exact .inl h0
  ·exact .inr (Decidable.byContradiction fun h=>j0 ⟨h0,.inl h⟩)
 have p5:∀ {α : Type} (a b : α),cond (bI t != 0) (cond (bI t != 2) a (cond (br (nameOf t) []) a b)) b=b:=by
  intro α a b
  by_cases h0:bI t=0
  ·rw [dC h0];rfl
  ·rw [cY h0]
   have h2:bI t=2:=Decidable.byContradiction fun h=>j0 ⟨h0,.inl h⟩
   rw [dC h2]
   have jA:br (nameOf t) []=false:=by
    rw [← Bool.not_eq_true,nu]
    exact fun h=>j0 ⟨h0,.inr h⟩
   rw [jA];rfl
 rw [p5,p5,hq,ahk,ahp]
 unfold KT JE
 show bq v c x (cond (br (nameOf r) []) _ (cond (br (nameOf t) []) _ _)) (cond (br (nameOf r) []) _ (cond (br (nameOf t) []) _ _)) _
 cases V8:br (nameOf r) [] with
 | true=>exact bq.no 16 (by decide) rfl rfl
 | false =>
 cases V9:br (nameOf t) [] with
 | true=>exact bq.no 16 (by decide) rfl rfl
 | false =>
 simp only [cond_false,lx]
 have nx:nameOf r≠[]:=fun h=>by rw [nu.2 h] at V8;cases V8
 have htn:nameOf t≠[]:=fun h=>by rw [nu.2 h] at V9;cases V9
 obtain ⟨j,hj⟩:=hr.there b1
 have hjl:=bS hj
 obtain ⟨oz,akR,hI,oA,V_,u3⟩:=hr.named b1 nx
 have ahv:=bS oA
 obtain ⟨fY,j1,sq,Ae,pH⟩:∃d,bl v.2.1 (bY t)=some d∧kindOf (J I v.2.1 d)=2∧dE (ak (J I v.2.1 d)) (nameOf t)=bb t∧(bb t=0∨∃ew,bl v.2.1 (bb t)=some ew):=by
  by_cases h0:bI t=0
  ·obtain ⟨a1,a2,d,a3,a4,a5⟩:=ht.named h0 htn
   exact⟨d,a3,a4,a5,.inr (ht.there h0)⟩
  ·have h2:bI t=2:=Decidable.byContradiction fun h=>j0 ⟨h0,.inl h⟩
   obtain ⟨a1,a2,d,a3,a4,a5⟩:=ht.new h2 htn
   exact⟨d,a3,a4,by rw [a5,a1],.inl a1⟩
 have Ni:=bS j1
 show bq v c x (Option.bind (fm (v,bb r,())) _) (Option.bind (e6 (v,bY r,())) fun v1=>Option.bind (e6 (v,bY t,())) fun v2=>Option.bind (e6 (v,bb r,())) _) _
 rw [mu v _ hl hj,jg v _ hl oA,jg v _ hl j1,jg v _ hl hj]
 simp only [av,List.isEmpty_cons,Bool.not_false,cond_true]
 rw [ahj]
 unfold KU
 show bq v c x (Option.bind (nc ((v,c,x,()),bY r,())) fun v1=>cond (!v1.1) _ (Option.bind (nc ((v,c,x,()),bY t,())) _)) _ _
 rw [z8 v c x _ hl hc oA,z8 v c x _ hl hc j1,pt c _ 3 hc,pt c _ 3 hc]
 simp only [av]
 cases may c (J I v.2.1 hI) 3 with
 | false=>exact bq.no 13 (by decide) rfl rfl
 | true =>
 simp only [Bool.not_true,cond_false]
 cases may c (J I v.2.1 fY) 3 with
 | false=>exact bq.no 13 (by decide) rfl rfl
 | true =>
 simp only [Bool.not_true,cond_false]
 show bq v c x (Option.bind (fm (v,bY r,())) _) _ _
 rw [mu v _ hl oA]
 simp only [av,List.isEmpty_cons,Bool.not_false,cond_true]
 show bq v c x (Option.bind (r8 (c,J I v.2.1 hI,J I v.2.1 j,())) _) _ _
 rw [MN c _ _ hc,MM c _ _ hc]
 simp only [av]
 cases pv c (J I v.2.1 hI) (J I v.2.1 j) with
 | false=>exact bq.no 1 (by decide) rfl rfl
 | true =>
 simp only [Bool.not_true,cond_false]
 obtain ⟨out,Nj,ahw⟩:=ME v hl cn.cH (bb r)
 have ahx:=ag7 v (bY t) (bb r) hl cn.cH
 have ahy:∀(K:Option (Int×aI.D×Unit)),cond ((J I v.2.1 j).2.1==2) (cond (t.1==r.2.2.1) (some (22,(v,c,x,()),())) (Option.bind (um (v,r.2.2.1,())) fun v5=>Option.bind (rZ (v5.1,t.1,())) fun v6=>cond v6.1 (some (22,(v,c,x,()),())) K)) K =
   cond (kindOf (J I v.2.1 j)==2&&nz v.2.1 (v.2.1.length+1) (bY t) (bb r)) (some (22,(v,c,x,()),())) K:=by
  intro K
  show cond (kindOf (J I v.2.1 j)==2) (cond (bY t==bb r) (some (22,(v,c,x,()),())) (Option.bind (um (v,bb r,())) fun v5=>Option.bind (rZ (v5.1,bY t,())) fun v6=>cond v6.1 (some (22,(v,c,x,()),())) K)) K=_
  cases kindOf (J I v.2.1 j)==2
  ·rfl
  ·simp only [cond_true,Bool.true_and]
   have ot:=VY hv (d:=bY t) ⟨fY,j1,sq⟩ (bb r)
   rw [ahw]
   simp only [av]
   rw [contains_eq _ _ (by
    have:=Nj.len
    have:=cn.cH
    omega)]
   simp only [av]
   by_cases h1:bY t=bb r
   ·rw [cD h1,ot.2 (.inl h1)];rfl
   ·rw [cd h1]
    simp only [cond_false]
    by_cases hb:dM v.2.1 (bb r) (bY t)
    ·rw [ot.2 (.inr hb),decide_eq_true ((Nj.iff _).2 hb)]
    ·have:nz v.2.1 (v.2.1.length+1) (bY t) (bb r)=false:=by
      rw [← Bool.not_eq_true];exact fun h=>(ot.1 h).elim h1 hb
     rw [this,decide_eq_false (fun h=>hb ((Nj.iff _).1 h))]
 have ahz:∀(K:Option (af.D×aS.D×Unit)),cond ((J I v.2.1 j).2.1==2) (Option.bind (yW (v,t.1,r.2.2.1,())) fun bt=>cond bt.1 (some (v,(22,[],()),())) K) K =
   cond (kindOf (J I v.2.1 j)==2&&nz v.2.1 (v.2.1.length+1) (bY t) (bb r)) (some (v,(22,[],()),())) K:=by
  intro K
  show cond (kindOf (J I v.2.1 j)==2) (Option.bind (yW (v,bY t,bb r,())) _) K=_
  rw [ahx]
  cases kindOf (J I v.2.1 j)==2 <;> rfl
 rw [mx]
 rw [ahy,ahz]
 cases qT:kindOf (J I v.2.1 j)==2&&nz v.2.1 (v.2.1.length+1) (bY t) (bb r) with
 | true=>exact bq.no 22 (by decide) rfl rfl
 | false =>
 simp only [cond_false]
 have lZ:kindOf (J I v.2.1 j)=2→bY t≠bb r∧¬dM v.2.1 (bb r) (bY t):=by
  intro hk
  rw [cD hk,Bool.true_and] at qT
  have ot:=VY hv (d:=bY t) ⟨fY,j1,sq⟩ (bb r)
  exact⟨fun h=>(by rw [ot.2 (.inl h)] at qT;cases qT),fun h=>(by rw [ot.2 (.inr h)] at qT;cases qT)⟩
 rw [ahi,aho]
 unfold KV JF
 rw [uT v hl (fun i hi=>Nat.le_trans (fM hi) cn.cH)]
 simp only [av]
 show bq v c x (cond (bb t==bb r) (some (0,(v,c,x,()),())) (cond (!(bb t==0)) (Option.bind (Eu ((v,c,x,()),J I v.2.1 j,t,())) fun v1=>cond (v1.1 != 0) (some (v1.1,(v,c,x,()),())) (Option.bind (oi ((v,c,x,()),bY t,nameOf t,true,())) fun v2=>(iO (q+3)).hS v2.1 r t))
   (cond (!(bY r==bY t)) (Option.bind (fm (v,bY t,())) fun v3=>cond (!List.isEmpty v3.1) (cond (((ak (J I v3.1 0)).length:Int)==12) (some (28,(v,c,x,()),())) ((iO (q+3)).hS (v,c,x,()) r t)) none) ((iO (q+3)).hS (v,c,x,()) r t))))
  (cond (decide (bb t>0)) (cond (bb t==bb r) (some (v,(0,[],()),())) (Option.bind (e6 (v,bb t,())) fun v2=>Option.bind (wy (c,J I v.2.1 fY,v2.1,())) fun v3=>cond (!v3.1) (some (v,(1,[],()),())) (cond (kindOf (J I v.2.1 j)==2) (cond (kindOf v2.1 != 2) (some (v,(20,[],()),())) ((gi (q+4)).o9 v (0,([]:List I.D),()) (0,([]:aF),()) r t (J I v.2.1 j) v v2.1)) ((gi (q+4)).o9 v (0,([]:List I.D),()) (0,([]:aF),()) r t (J I v.2.1 j) v v2.1))))
   (cond (!(bY r==bY t)) (cond (decide (((ak (J I v.2.1 fY)).length:Int)≥12)) (some (v,(28,[],()),())) ((gi (q+4)).mf v (0,([]:List I.D),()) (0,([]:aF),()) r t v)) ((gi (q+4)).mf v (0,([]:List I.D),()) (0,([]:aF),()) r t v))) _
 have akS:0<bb r:=by
  have h1:=hv.ids j hjl.1
  have h2:aX (J I v.2.1 j)=bb r:=hjl.2
  omega
 have V':=hv.ino hI ahv.1
 have lq:=hv.ino fY Ni.1
 by_cases mR:bb t=bb r
 ·rw [cD mR,decide_eq_true (show bb t>0 by omega)]
  exact⟨0,v,rfl,rfl,fun _=>⟨r,t,j,hr,b1,nx,hj,ht,htn,Nh,⟨gm,Gb⟩,.inl ⟨mR,rfl⟩⟩⟩
 rw [cd mR]
 simp only [cond_false]
 have hne:hI=fY→nameOf r≠nameOf t:=by
  rintro rfl he
  rw [he,Ae] at u3
  exact mR u3
 by_cases lV:bb t=0
 ·
  rw [cD lV,decide_eq_false (show ¬bb t>0 by omega)]
  simp only [Bool.not_true,cond_false]
  have hpre:pG v.2.1 (bY r) (bY t) hI fY (nameOf r) (nameOf t) (bb r) :=
   ⟨hv.st.mono (by omega),oA,j1,V_,sq,V'.sorted,lq.sorted,u3,by omega,by rw [hj];rfl,z1 (by rw [Ae,lV]) fun e he=>hv.z6 Ni.1 he,hne⟩
  have hfin:(bY r≠bY t→(ak (J I v.2.1 fY)).length<12)→bq v c x ((iO (q+3)).hS (v,c,x,()) r t) ((gi (q+4)).mf v (0,([]:List I.D),()) (0,([]:aF),()) r t v) (u2 v c x):=by
   intro cz
   have h1:=V4 (n:=v.1) c x r t hpre (q+2)
   have h2:=V5 (n:=v.1) v (0,([]:List I.D),()) (0,([]:aF),()) r t hpre (q+3)
   exact⟨_,_,h1,h2,fun h=>⟨r,t,j,hr,b1,nx,hj,ht,htn,Nh,⟨gm,Gb⟩,.inr ⟨mR,lZ,v.2.1,hI,fY,hpre,rfl,h,.inl ⟨lV,rfl,cz⟩⟩⟩⟩
  by_cases Nk:bY r=bY t
  ·rw [cD Nk]
   exact hfin fun h=>absurd Nk h
  ·rw [cd Nk]
   simp only [Bool.not_false,cond_true]
   rw [mu v _ hl j1]
   simp only [av,List.isEmpty_cons,Bool.not_false,cond_true]
   show bq v c x (cond (((ak (J I v.2.1 fY)).length:Int)==12) _ _) _ _
   have VQ:=(lq.dir sq).2.2.2
   by_cases lg:(ak (J I v.2.1 fY)).length=12
   ·rw [show(((ak (J I v.2.1 fY)).length:Int)==12)=true by rw [lg];rfl,decide_eq_true (by omega)]
    exact bq.no 28 (by decide) rfl rfl
   ·rw [show(((ak (J I v.2.1 fY)).length:Int)==12)=false by rw [beq_eq_false_iff_ne];omega,decide_eq_false (show ¬((ak (J I v.2.1 fY)).length:Int)≥12 by omega)]
    exact hfin fun _=>by omega
 ·
  obtain ⟨ew,iZ⟩:=pH.resolve_left lV
  have Nl:=bS iZ
  have xd:0<bb t:=by
   have h1:=hv.ids ew Nl.1
   have h2:aX (J I v.2.1 ew)=bb t:=Nl.2
   omega
  rw [cd lV,decide_eq_true (show bb t>0 from xd)]
  simp only [Bool.not_false,cond_true]
  rw [ahs v c x _ t hl hc j1 iZ,jg v _ hl iZ]
  simp only [av]
  rw [MM c _ _ hc]
  simp only [av]
  unfold Nf
  cases pv c (J I v.2.1 fY) (J I v.2.1 ew) with
  | false=>exact bq.no 1 (by decide) rfl rfl
  | true =>
  simp only [Bool.not_true,cond_false]
  have ahA:(gi (q+4)).o9 v (0,([]:List I.D),()) (0,([]:aF),()) r t (J I v.2.1 j) v (J I v.2.1 ew)=cond (kindOf (J I v.2.1 j)==2) (cond (decide (((ak (J I v.2.1 ew)).length:Int)>0)) (some (v,(39,[],()),())) (Option.bind (oa (v,bY t,nameOf t,())) fun v2=>(gi (q+2)).mf v (0,([]:List I.D),()) (0,([]:aF),()) r t v2.1))
    (cond (kindOf (J I v.2.1 ew)==2) (some (v,(21,[],()),())) (Option.bind (oa (v,bY t,nameOf t,())) fun v2=>(gi (q+2)).mf v (0,([]:List I.D),()) (0,([]:aF),()) r t v2.1)):=by
   rw [ahn]
   unfold JG
   rw [ahm]
   unfold JI
   show cond (kindOf (J I v.2.1 j)==2) (cond (decide (((ak (J I v.2.1 ew)).length:Int)>0)) _ (cond (!(kindOf (J I v.2.1 j)==2)) (cond (kindOf (J I v.2.1 ew)==2) _ _) _)) (cond (!(kindOf (J I v.2.1 j)==2)) (cond (kindOf (J I v.2.1 ew)==2) _ _) _)=_
   cases kindOf (J I v.2.1 j)==2 <;> rfl
  rw [ahA]
  have hfin:ak (J I v.2.1 ew)=[]→(kindOf (J I v.2.1 j)=2↔kindOf (J I v.2.1 ew)=2)→bq v c x (Option.bind (oi ((v,c,x,()),bY t,nameOf t,true,())) fun v2=>(iO (q+3)).hS v2.1 r t) (Option.bind (oa (v,bY t,nameOf t,())) fun v2=>(gi (q+2)).mf v (0,([]:List I.D),()) (0,([]:aF),()) r t v2.1) (u2 v c x):=by
   intro oK hkk
   rw [MY v c x _ _ true hl cn.cH j1,M1 v _ _ hl cn.cH j1 lq.sorted]
   simp only [av,cond_true]
   obtain ⟨hst,Gc⟩:=V7 hv Ni.1 sq (nameOf t)
   rw [Ae] at Gc
   have ahB:bY r≠bb t:=by
    intro he
    rw [he,iZ] at oA
    have:ew=hI:=aV oA
    subst this
    obtain ⟨e,h1,_,_⟩:=qQ (N:=ak (J I v.2.1 ew)) (s:=nameOf r) (by rw [u3];exact oz)
    rw [oK] at h1;simp at h1
   have ahC:bY t≠bb t:=by
    intro he
    rw [he,iZ] at j1
    have:ew=fY:=aV j1
    subst this
    obtain ⟨e,h1,_,_⟩:=qQ (N:=ak (J I v.2.1 ew)) (s:=nameOf t) (by rw [Ae];exact lV)
    rw [oK] at h1;simp at h1
   obtain ⟨ir,Gd,nA⟩:=Gc _ ahB _ oA
   obtain ⟨it,gD,pI⟩:=Gc _ ahC _ j1
   obtain ⟨akT,ix,_⟩:=Gc _ (Ne.symm mR) _ hj
   rw [if_pos rfl] at pI
   have ahD:ir=it→hI=fY:=by
    rintro rfl
    have h1:=(bS Gd).2
    have h2:=(bS gD).2
    rw [h1] at h2
    rw [h2,j1] at oA
    exact(aV oA).symm
   have hpre:pG (kl v fY (nameOf t)).2.1 (bY r) (bY t) ir it (nameOf r) (nameOf t) (bb r):=by
    refine⟨hst,Gd,gD,?_,?_,?_,?_,?_,by omega,by rw [ix];rfl,?_,fun e=>hne (ahD e)⟩
    ·rw [nA];split
     ·exact sq
     ·exact V_
    ·rw [pI];exact sq
    ·rw [nA];split
     ·rw [iR];exact u1 lq.sorted _
     ·exact V'.sorted
    ·rw [pI,iR];exact u1 lq.sorted _
    ·rw [nA];split
     ·rename_i he
      subst he
      rw [iR]
      obtain ⟨e,h1,h2,h3⟩:=qQ (N:=ak (J I v.2.1 fY)) (s:=nameOf r) (by rw [u3];exact oz)
      have hm:e∈b9 (ak (J I v.2.1 fY)) (nameOf t):=List.mem_filter.2 ⟨h1,by unfold br;rw [h2];simpa using hne rfl⟩
      have:=Ga (u1 lq.sorted (nameOf t)) hm
      rw [h2,h3,u3] at this
      exact this
     ·exact u3
    ·rw [pI,iR];exact V0
   show bq v c x ((iO (q+3)).hS ((v.1,(kl v fY (nameOf t)).2.1,()),c,x,()) r t) ((gi (q+2)).mf v (0,([]:List I.D),()) (0,([]:aF),()) r t (v.1,(kl v fY (nameOf t)).2.1,())) _
   have h1:=V4 (n:=v.1) c x r t hpre (q+2)
   have h2:=V5 (n:=v.1) v (0,([]:List I.D),()) (0,([]:aF),()) r t hpre (q+1)
   exact⟨_,_,h1,h2,fun h=>⟨r,t,j,hr,b1,nx,hj,ht,htn,Nh,⟨gm,Gb⟩,.inr ⟨mR,lZ,_,ir,it,hpre,rfl,h,.inr ⟨fY,ew,j1,sq,iZ,oK,Ae,hkk,rfl⟩⟩⟩⟩
  by_cases hk:kindOf (J I v.2.1 j)=2
  ·rw [cD hk]
   simp only [cond_true]
   by_cases hk2:kindOf (J I v.2.1 ew)=2
   ·rw [dC hk2]
    simp only [cond_false]
    by_cases oK:ak (J I v.2.1 ew)=[]
    ·rw [oK,show decide ((([]:List aw.D).length:Int)>0)=false from rfl]
     exact hfin oK ⟨fun _=>hk2,fun _=>hk⟩
    ·have ag3:0<(ak (J I v.2.1 ew)).length:=List.length_pos_iff.2 oK
     rw [decide_eq_true (by omega)]
     exact bq.no 39 (by decide) rfl rfl
   ·rw [cY hk2]
    exact bq.no 20 (by decide) rfl rfl
  ·rw [cd hk]
   simp only [cond_false]
   by_cases hk2:kindOf (J I v.2.1 ew)=2
   ·rw [cD hk2]
    exact bq.no 21 (by decide) rfl rfl
   ·rw [cd hk2]
    exact hfin ((hv.ino ew Nl.1).plain hk2).2.2 ⟨fun h=>absurd h hk,fun h=>absurd h hk2⟩
theorem sr(v:af.D)(c:aH.D)(x:aK.D)(bZ:Bool)(hw:pz v.2.1)(hc:dm c=true)(au:(fz x).length≤1048576) :
  ∃r,sj bZ v.2.1 r∧fk (v,c,fz x,bZ,())=some (r,())∧(bI r≠0→mi ((v,c,x,()),bZ,())=some (-1,bI r,(v,c,x,()),())) ∧
   (bI r=0→∃i,bl v.2.1 (bb r)=some i∧mi ((v,c,x,()),bZ,())=some ((i:Int),0,(v,c,x,()),())):=by
 obtain ⟨r,h1,h2,h3⟩:=xg v c x (fz x) bZ hw hc au
 have eS:mi ((v,c,x,()),bZ,())=cond (bI r != 0) (some (-1,bI r,(v,c,x,()),())) (Option.bind (wH (v,bb r,())) fun v2=>some (v2.1,0,(v2.2.1,c,x,()),())):=by
  show KX (v,c,x,()) bZ=_
  unfold KX
  show Option.bind (kH ((v,c,x,()),fz x,bZ,())) _=_
  rw [h2];rfl
 refine⟨r,h1,h3,fun h0=>by rw [eS,cY h0];rfl,fun h0=>?_⟩
 obtain ⟨i,hi⟩:=h1.1.there h0
 refine⟨i,hi,?_⟩
 rw [eS,dC h0,MO v _ hw.len,hi];rfl
def gB(n:Nat):aF:=List.replicate n 0
def km(s:aF)(n:Nat):aF:=(s++gB (n-s.length)).take n
def kQ(s:aF)(at_:Nat)(d:aF):aF:=km s at_++d++s.drop (at_+d.length)
theorem pJ(s:aF)(n:Nat):(km s n).length=n:=by unfold km gB;rw [List.length_take,List.length_append,List.length_replicate];omega
theorem Wa:∀n,Lib.repeatL [0] n=gB n
 | 0=>rfl
 | n+1=>by rw [Lib.repeatL,Wa n];rfl
theorem ahE(s:aF)(n:Nat)(hs:s.length≤1048576)(hn:n≤1048576):Ey (s,(n:Int),())=some (km s n,()):=by
 show KZ s (n:Int)=_
 unfold KZ km
 by_cases h:n≤s.length
 ·rw [decide_eq_true (show(s.length:Int)≥(n:Int) by omega)]
  simp only [cond_true]
  show Option.bind (dZ s.length ((0:Nat):Int) (n:Int)) _=_
  rw [kp (by omega) h]
  simp only [av,Nat.sub_zero]
  rw [zG,show n-s.length=0 by omega]
  simp [gB]
 ·rw [decide_eq_false (show ¬(s.length:Int)≥(n:Int) by omega)]
  simp only [cond_false]
  show Option.bind (repF [0] (aG ((n:Int)-(s.length:Int)))) _=_
  rw [show aG ((n:Int)-(s.length:Int))=((n-s.length:Nat):Int) by rw [dD (by omega) (by omega)];omega]
  unfold repF
  rw [if_pos ⟨by omega,by omega,by simp;omega⟩,Int.toNat_natCast,Wa]
  simp only [av]
  rw [cG (by unfold gB;rw [List.length_replicate];omega)]
  simp only [cond_true]
  rw [List.take_of_length_le (by unfold gB;rw [List.length_append,List.length_replicate];omega)]
theorem Wb(t:aF):gp (eo t)=t:=by
 unfold gp eo
 rw [List.map_map]
 conv=>rhs;rw [← List.map_id t]
 refine List.map_congr_left fun b _=>?_
 simp
theorem Ge(t:aF):(eo t).length=t.length:=by unfold eo;simp
theorem ahF(t:aF):eo t++[0]=eo (t++[0]):=by unfold eo;simp
theorem ahG(t:aF)(i:Nat)(b:UInt8):(eo t).set i (b.toNat:Int)=eo (t.set i b):=by unfold eo;rw [List.map_set]
theorem Wc(s:aF)(at_:Nat)(d:aF)(hs:s.length≤1048576)(ha:at_≤1048576)(ag:d.length≤1048576) :
  rP (s,(at_:Int),d,())=some ((s++gB (at_+d.length-s.length)).take at_++d++(s++gB (at_+d.length-s.length)).drop (at_+d.length),()):=by
 show CW (m5 aR) s (at_:Int) d=_
 unfold CW
 have hw:aG ((at_:Int) +(d.length:Int))=((at_+d.length:Nat):Int):=by rw [dD (by omega) (by omega)];omega
 generalize ht:s++gB (at_+d.length-s.length)=t
 have rn:at_+d.length≤t.length∧t.length≤4194304:=by rw [← ht];unfold gB;rw [List.length_append,List.length_replicate];omega
 have a7:∀(r i:Nat),i+r=d.length→b2 (fun m=>(m5 m).bu (at_:Int) d (i:Int) (eo (t.take at_++d.take i++t.drop (at_+i)))) (r+1) (some (t.take at_++d++t.drop (at_+d.length),())):=by
  intro r
  induction r with
  | zero =>
   intro i hi
   refine b2.now 1 fun m=>?_
   show yY (m5 m) _ _ _ _=_
   unfold yY
   rw [cF (by omega)]
   simp only [cond_false]
   rw [Wb,show i=d.length by omega,List.take_length]
  | succ r ih =>
   intro i hi
   have cz:i<d.length:=by omega
   refine((ih (i+1) (by omega)).jump (f:=fun m=>(m5 m).bu (at_:Int) d (i:Int) (eo (t.take at_++d.take i++t.drop (at_+i)))) 1 fun m=>?_).mono (by omega)
   show yY (m5 m) _ _ _ _=_
   unfold yY
   rw [ch cz,bw cz]
   simp only [cond_true,av]
   have Ad:(t.take at_++d.take i).length=at_+i:=by rw [List.length_append,List.length_take,List.length_take];omega
   have hlen:at_+i<(eo (t.take at_++d.take i++t.drop (at_+i))).length:=by
    rw [Ge,List.length_append,Ad,List.length_drop];omega
   rw [show aG ((at_:Int) +(i:Int))=((at_+i:Nat):Int) by rw [dD (by omega) (by omega)];omega,bw hlen]
   simp only [av,Nat.zero_add]
   unfold Rv
   rw [df i (by omega),ahG]
   congr 2
   rw [xf (show at_+i<t.length by omega),List.set_append_right _ _ (by rw [Ad];omega),Ad,Nat.sub_self,List.set_cons_zero,List.take_succ_eq_append_getElem cz,List.getD_eq_getElem?_getD,List.getElem?_eq_getElem cz,show at_ +(i+1)=at_+i+1 by omega]
   simp only [List.append_assoc,List.singleton_append,List.cons_append,List.nil_append,Option.getD_some]
 have h2:∀(r k:Nat),k+r=at_+d.length-s.length→b2 (fun m=>(m5 m).k2 (at_:Int) d (eo (s++gB k))) (r+d.length+3) (some (t.take at_++d++t.drop (at_+d.length),())):=by
  intro r
  induction r with
  | zero =>
   intro k hk
   have hk:k=at_+d.length-s.length:=by omega
   subst hk
   rw [ht]
   have:=a7 d.length 0 (by omega)
   rw [List.take_zero,List.append_nil,Nat.add_zero,List.take_append_drop] at this
   refine(this.jump (f:=fun m=>(m5 m).k2 (at_:Int) d (eo t)) 1 fun m=>?_).mono (by omega)
   show yX (m5 m) _ _ _=_
   unfold yX
   rw [hw,Ge,cF (by omega)];rfl
  | succ r ih =>
   intro k hk
   refine((ih (k+1) (by omega)).jump (f:=fun m=>(m5 m).k2 (at_:Int) d (eo (s++gB k))) 1 fun m=>?_).mono (by omega)
   show yX (m5 m) _ _ _=_
   unfold yX
   have hl:(eo (s++gB k)).length=s.length+k:=by rw [Ge,List.length_append];unfold gB;rw [List.length_replicate]
   rw [hw,ch (by rw [hl];omega)]
   simp only [cond_true]
   rw [cG (by rw [hl];simp only [List.length_cons,List.length_nil];omega)]
   simp only [cond_true]
   rw [ahF,List.append_assoc]
   have:gB k++[0]=gB (k+1):=by unfold gB;rw [List.replicate_succ']
   rw [this]
 have:=h2 (at_+d.length-s.length) 0 (by omega)
 rw [show gB 0=[] from rfl,List.append_nil] at this
 exact kM this (by omega)
theorem put_eq(s:aF)(at_:Nat)(d:aF):(s++gB (at_+d.length-s.length)).take at_++d++(s++gB (at_+d.length-s.length)).drop (at_+d.length)=kQ s at_ d:=by
 unfold kQ km
 congr 1
 ·congr 1
  rw [List.take_append,List.take_append]
  congr 1
  unfold gB
  rw [List.take_replicate,List.take_replicate]
  congr 1
  omega
 ·rw [List.drop_append]
  have:(gB (at_+d.length-s.length)).drop (at_+d.length-s.length)=[]:=List.drop_of_length_le (by unfold gB;rw [List.length_replicate];omega)
  rw [this,List.append_nil]
theorem ahH(s:aF)(at_:Nat):((s++gB (at_ +([]:aF).length-s.length)).take at_++([]:aF)++(s++gB (at_ +([]:aF).length-s.length)).drop (at_ +([]:aF).length)).take at_=km s at_:=by
 rw [put_eq]
 unfold kQ
 rw [List.append_nil,List.take_append_of_le_length (by rw [pJ];omega),List.take_of_length_le (by rw [pJ];omega)]
def nB(x:aL)(d:aF):aL:=(x.1,x.2.1,x.2.2.1,x.2.2.2.1,x.2.2.2.2.1,d,x.2.2.2.2.2.2.1,x.2.2.2.2.2.2.2.1,x.2.2.2.2.2.2.2.2.1,())
def ej(x:aK.D)(n:aL):Int:=if aE x=6 then((bM n).length:Int) else bR x
def iw(x:aK.D)(n:aL):aF:=if aE x=7 then km (bM n) (bR x).toNat else kQ (bM n) (ej x n).toNat (dx x)
structure xk(v:af.D)(c:aH.D)(x:aK.D)(w:af.D):Prop where
 out:∃r i,lF v.2.1 r∧bI r=0∧bl v.2.1 (bb r)=some i∧kindOf (J I v.2.1 i)≠2∧kindOf (J I v.2.1 i)≠3∧may c (J I v.2.1 i) 2=true∧0≤ej x (J I v.2.1 i) ∧
  ((aE x≠7∧dx x=[]∧w=v)∨((aE x≠7→dx x≠[])∧ej x (J I v.2.1 i) +(dx x).length≤64∧w=(v.1,v.2.1.set i (nB (J I v.2.1 i) (iw x (J I v.2.1 i))),())∧e_ w.2.1=0))
theorem Wd(v:af.D)(c:aH.D)(x:aK.D)(want:Int)(hw:pz v.2.1)(hc:dm c=true)(au:(fz x).length≤1048576) :
  ∃r,sj true v.2.1 r∧fk (v,c,fz x,true,())=some (r,())∧(bI r≠0→zl ((v,c,x,()),want,())=some (-1,bI r,(v,c,x,()),())) ∧
   (bI r=0→∃i,bl v.2.1 (bb r)=some i∧zl ((v,c,x,()),want,())=cond (kindOf (J I v.2.1 i)==2) (some (-1,21,(v,c,x,()),())) (cond (!may c (J I v.2.1 i) want) (some (-1,13,(v,c,x,()),())) (some ((i:Int),0,(v,c,x,()),())))):=by
 obtain ⟨r,h1,h2,h3,h4⟩:=sr v c x true hw hc au
 refine⟨r,h1,h2,fun h0=>?_,fun h0=>?_⟩
 ·show zk (v,c,x,()) want=_
  unfold zk
  rw [h3 h0]
  simp only [av]
  rw [cY h0];rfl
 ·obtain ⟨i,hi,a7⟩:=h4 h0
  refine⟨i,hi,?_⟩
  show zk (v,c,x,()) want=_
  unfold zk
  rw [a7]
  simp only [av]
  rw [show((0:Int) != 0)=false from rfl]
  simp only [cond_false]
  rw [bw (bS hi).1]
  simp only [av]
  rw [zQ c _ want hc];rfl
theorem ahI(m:Nat)(a b d):(gj (m+1)).dj a b d=K0 (gj m) a b d:=rfl
theorem ahJ(m:Nat)(a b d):(gj (m+1)).cR a b d=K1 (gj m) a b d:=rfl
theorem ahK(m:Nat)(a b d):(gj (m+1)).fc a b d=K2 (gj m) a b d:=rfl
theorem ahL(m:Nat)(a b d e f g):(jU (m+1)).jT a b d e f g=JJ (jU m) a b d e f g:=rfl
theorem ahM(m:Nat)(a b d e):(jU (m+1)).g_ a b d e=JK (jU m) a b d e:=rfl
theorem bH.fA{v:af.D}(h:bH v){i:Nat}(hi:i<v.2.1.length):(bM (J I v.2.1 i)).length≤64:=by
 have:=h.ino i hi
 rcases this.kind with k | k | k
 ·exact this.file k
 ·rw [(this.dir k).1];simp
 ·have:=FP (this.mw k).1;omega
theorem ahN(v:af.D)(c:aH.D)(x:aK.D)(hv:bH v)(hc:dm c=true)(hx:iu x)(hk:aE x=5∨aE x=6∨aE x=7):bq v c x (EA ((v,c,x,()),())) (wA (v,c,x,())) (xk v c x):=by
 have cn:=hv.iv
 have hl:v.2.1.length≤1048576:=cn.len
 have au:=hx.path
 have akU:=hx.fA
 have lZ:=hx.n
 obtain ⟨q,hq,hL⟩:=jb 4
 show bq v c x (Ez (gj aR) (v,c,x,())) (CX (jU aR) v c x) _
 unfold Ez CX
 obtain ⟨r,⟨hr,xl⟩,gm,j2,j3⟩:=Wd v c x 2 cn hc (by omega)
 show bq v c x _ (Option.bind (fk (v,c,fz x,true,())) _) _
 rw [gm]
 simp only [av]
 show bq v c x _ (cond (bI r != 0) (some (v,(bI r,[],()),())) _) _
 by_cases b1:bI r=0
 case neg =>
  rw [j2 b1,cY b1]
  simp only [av]
  rw [cY b1]
  exact bq.no (bI r) b1 rfl rfl
 obtain ⟨i,hi,eS⟩:=j3 b1
 have bJ:=bS hi
 rw [eS,dC b1]
 simp only [cond_false]
 show bq v c x _ (Option.bind (e6 (v,bb r,())) _) _
 rw [jg v _ hl hi]
 simp only [av]
 show bq v c x _ (cond (kindOf (J I v.2.1 i)==2) _ _) _
 by_cases hQ:kindOf (J I v.2.1 i)=2
 ·rw [cD hQ]
  exact bq.no 21 (by decide) rfl rfl
 rw [cd hQ]
 simp only [cond_false]
 rw [pt c _ 2 hc]
 simp only [av]
 cases hm:may c (J I v.2.1 i) 2 with
 | false=>exact bq.no 13 (by decide) rfl rfl
 | true =>
 simp only [Bool.not_true,cond_false,av]
 rw [show((0:Int) != 0)=false from rfl]
 simp only [cond_false]
 have akV:=hv.fA bJ.1
 have ahO:cond (x.1==6) ((aN v.2.1.length (i:Int)).bind fun v2=>(gj aR).dj (i:Int) ((J I v.2.1 v2).2.2.2.2.2.1.length:Int) (v,c,x,())) ((gj aR).dj (i:Int) x.2.2.2.1 (v,c,x,()))=(gj aR).dj (i:Int) (ej x (J I v.2.1 i)) (v,c,x,()):=by
  rw [bw bJ.1]
  unfold ej
  show cond (aE x==6) _ _=_
  by_cases bj:aE x=6
  ·rw [cD bj,if_pos bj];rfl
  ·rw [cd bj,if_neg bj];rfl
 have ahP:cond (x.1==6) ((jU aR).jT ((J I v.2.1 i).2.2.2.2.2.1.length:Int) v x (0,([]:List I.D),()) (0,([]:aF),()) (J I v.2.1 i)) ((jU aR).jT x.2.2.2.1 v x (0,([]:List I.D),()) (0,([]:aF),()) (J I v.2.1 i))=(jU aR).jT (ej x (J I v.2.1 i)) v x (0,([]:List I.D),()) (0,([]:aF),()) (J I v.2.1 i):=by
  unfold ej
  show cond (aE x==6) _ _=_
  by_cases bj:aE x=6
  ·rw [cD bj,if_pos bj];rfl
  ·rw [cd bj,if_neg bj];rfl
 show bq v c x (cond (x.1==6) ((aN v.2.1.length (i:Int)).bind fun v2=>(gj aR).dj (i:Int) ((J I v.2.1 v2).2.2.2.2.2.1.length:Int) (v,c,x,())) ((gj aR).dj (i:Int) x.2.2.2.1 (v,c,x,())))
  (cond (x.1==6) ((jU aR).jT ((J I v.2.1 i).2.2.2.2.2.1.length:Int) v x (0,([]:List I.D),()) (0,([]:aF),()) (J I v.2.1 i)) ((jU aR).jT x.2.2.2.1 v x (0,([]:List I.D),()) (0,([]:aF),()) (J I v.2.1 i))) _
 rw [ahO,ahP,hq,ahI,ahL]
 unfold K0 JJ
 by_cases A1:ej x (J I v.2.1 i)<0
 ·rw [decide_eq_true A1]
  exact bq.no 22 (by decide) rfl rfl
 rw [decide_eq_false A1]
 simp only [cond_false]
 obtain ⟨a,ha⟩:∃a:Nat,ej x (J I v.2.1 i)=a:=⟨(ej x (J I v.2.1 i)).toNat,by omega⟩
 have akW:a≤1000000:=by
  have:ej x (J I v.2.1 i)≤1000000:=by
   unfold ej
   split
   ·omega
   ·exact lZ.2
  omega
 show bq v c x (cond (!(aE x==7)) (cond (br (dx x) []) (some (0,(v,c,x,()),())) ((gj (q+3)).cR (i:Int) (ej x (J I v.2.1 i)) (v,c,x,()))) ((gj (q+3)).cR (i:Int) (ej x (J I v.2.1 i)) (v,c,x,())))
  (cond (aE x==7) (cond (decide (ej x (J I v.2.1 i)>64)) (some (v,(27,[],()),())) (Option.bind (rP (bM (J I v.2.1 i),ej x (J I v.2.1 i),[],())) fun v1=>Option.bind (dZ v1.1.length 0 (ej x (J I v.2.1 i))) fun v2=>(jU (q+3)).g_ v (0,([]:List I.D),()) (0,([]:aF),()) (nB (J I v.2.1 i) (part v1.1 v2.1 (v2.2-v2.1)))))
   (cond (br (dx x) []) (some (v,(0,[],()),())) (cond (decide (ej x (J I v.2.1 i)>aG (64-((dx x).length:Int)))) (some (v,(27,[],()),())) (Option.bind (rP (bM (J I v.2.1 i),ej x (J I v.2.1 i),dx x,())) fun v3=>(jU (q+3)).g_ v (0,([]:List I.D),()) (0,([]:aF),()) (nB (J I v.2.1 i) v3.1))))) _
 have Af:aE x≠7→dx x=[]→xk v c x v:=fun bE ag=>⟨r,i,hr,b1,hi,hQ,xl rfl b1 i hi,hm,by omega,.inl ⟨bE,ag,rfl⟩⟩
 by_cases su:aE x≠7∧dx x=[]
 ·rw [cd su.1,nu.2 su.2]
  exact⟨0,v,rfl,rfl,fun _=>Af su.1 su.2⟩
 have ahQ:cond (!(aE x==7)) (cond (br (dx x) []) (some (0,(v,c,x,()),())) ((gj (q+3)).cR (i:Int) (ej x (J I v.2.1 i)) (v,c,x,()))) ((gj (q+3)).cR (i:Int) (ej x (J I v.2.1 i)) (v,c,x,()))=(gj (q+3)).cR (i:Int) (ej x (J I v.2.1 i)) (v,c,x,()):=by
  by_cases bE:aE x=7
  ·rw [cD bE];rfl
  ·rw [cd bE]
   have:br (dx x) []=false:=by rw [← Bool.not_eq_true,nu];exact fun h=>su ⟨bE,h⟩
   rw [this];rfl
 rw [ahQ,ahJ]
 unfold K1
 show bq v c x (cond (decide (aG (ej x (J I v.2.1 i) +((dx x).length:Int))>64)) _ _) _ _
 have We:aE x=7→dx x=[]:=fun bE=>hx.VO.elim id fun h=>by omega
 have ahR:aG (ej x (J I v.2.1 i) +((dx x).length:Int))=((a +(dx x).length:Nat):Int):=by rw [ha,dD (by omega) (by omega)];omega
 rw [ahR]
 by_cases Gf:a +(dx x).length>64
 ·rw [decide_eq_true (by omega)]
  have:cond (aE x==7) (cond (decide (ej x (J I v.2.1 i)>64)) (some (v,((27:Int),([]:aF),()),())) (Option.bind (rP (bM (J I v.2.1 i),ej x (J I v.2.1 i),[],())) fun v1=>Option.bind (dZ v1.1.length 0 (ej x (J I v.2.1 i))) fun v2=>(jU (q+3)).g_ v (0,([]:List I.D),()) (0,([]:aF),()) (nB (J I v.2.1 i) (part v1.1 v2.1 (v2.2-v2.1)))))
   (cond (br (dx x) []) (some (v,(0,[],()),())) (cond (decide (ej x (J I v.2.1 i)>aG (64-((dx x).length:Int)))) (some (v,(27,[],()),())) (Option.bind (rP (bM (J I v.2.1 i),ej x (J I v.2.1 i),dx x,())) fun v3=>(jU (q+3)).g_ v (0,([]:List I.D),()) (0,([]:aF),()) (nB (J I v.2.1 i) v3.1))))=some (v,(27,[],()),()):=by
   by_cases bE:aE x=7
   ·have h0:=We bE
    rw [h0] at Gf
    simp only [List.length_nil] at Gf
    rw [cD bE,decide_eq_true (show ej x (J I v.2.1 i)>64 by omega)];rfl
   ·rw [cd bE]
    have h0:br (dx x) []=false:=by rw [← Bool.not_eq_true,nu];exact fun h=>su ⟨bE,h⟩
    rw [h0,show aG (64-((dx x).length:Int))=64-((dx x).length:Int) from dD (by omega) (by omega),decide_eq_true (show ej x (J I v.2.1 i)>64-((dx x).length:Int) by omega)];rfl
  rw [this]
  exact bq.no 27 (by decide) rfl rfl
 rw [decide_eq_false (by omega)]
 simp only [cond_false]
 obtain ⟨w,hw⟩:∃w:af.D,w=(v.1,v.2.1.set i (nB (J I v.2.1 i) (iw x (J I v.2.1 i))),()):=⟨_,rfl⟩
 have hnl:(iw x (J I v.2.1 i)).length≤200:=by
  have hf:∀s n,(km s n).length=n:=pJ
  unfold iw kQ
  rw [ha,Int.toNat_natCast]
  split
  ·rename_i bE
   have:ej x (J I v.2.1 i)=bR x:=by unfold ej;rw [if_neg (by omega)]
   rw [hf];omega
  ·rw [List.length_append,List.length_append,hf,List.length_drop];omega
 have hst:aq 1000 w.2.1:=by
  rw [hw]
  exact(hv.st.set (k:=200) (i:=i) (y:=nB (J I v.2.1 i) (iw x (J I v.2.1 i))) bJ.1 rfl (fun d ag=>hv.hp i bJ.1 d ag) (fun ee=>hv.st.bare i bJ.1 ee) (Nat.le_add_right _ _) (by
   show(iw x (J I v.2.1 i)).length≤_
   omega)).mono (by omega)
 have hwr:e_ w.2.1=0→xk v c x w:=fun hf=>⟨r,i,hr,b1,hi,hQ,xl rfl b1 i hi,hm,by omega,.inr ⟨fun bE h=>su ⟨bE,h⟩,by omega,hw,hf⟩⟩
 have z_:∀m,(gj (m+1)).fc (i:Int) (iw x (J I v.2.1 i)) (v,c,x,())=some (e_ w.2.1,(w,c,x,()),()):=by
  intro m
  rw [ahK]
  unfold K2
  show Option.bind (aN v.2.1.length (i:Int)) _=_
  rw [bw bJ.1]
  show Option.bind (nd (((v.1,v.2.1.set i (nB (J I v.2.1 i) (iw x (J I v.2.1 i))),()),c,x,()),())) (fun v3=>some (v3.1,((v.1,v.2.1.set i (nB (J I v.2.1 i) (iw x (J I v.2.1 i))),()),c,x,()),()))=_
  rw [← hw,zX w c x hst (by omega)];rfl
 have Wf:∀m,(jU (m+1)).g_ v (0,([]:List I.D),()) (0,([]:aF),()) (nB (J I v.2.1 i) (iw x (J I v.2.1 i)))=some (cond (e_ w.2.1==0) w v,(e_ w.2.1,[],()),()):=by
  intro m
  rw [ahM]
  unfold JK
  rw [uT v hl (fun i hi=>Nat.le_trans (fM hi) cn.cH)]
  simp only [av]
  rw [FZ v _ hl (show bl v.2.1 (nB (J I v.2.1 i) (iw x (J I v.2.1 i))).1=some i from(show(J I v.2.1 i).1=bb r from bJ.2) ▸ hi),← hw]
  simp only [av]
  rw [zY v w hst (by omega)];rfl
 have ahS:(cond (decide (((bM (J I v.2.1 i)).length:Int) >((km (bM (J I v.2.1 i)) a++dx x).length:Int)))
   ((dZ (bM (J I v.2.1 i)).length ((km (bM (J I v.2.1 i)) a++dx x).length:Int) ((bM (J I v.2.1 i)).length:Int)).bind fun v5=>cond (room ((km (bM (J I v.2.1 i)) a++dx x).length +(part (bM (J I v.2.1 i)) v5.1 (v5.2-v5.1)).length))
    ((gj (q+2)).fc (i:Int) ((km (bM (J I v.2.1 i)) a++dx x)++part (bM (J I v.2.1 i)) v5.1 (v5.2-v5.1)) (v,c,x,())) none)
   ((gj (q+2)).fc (i:Int) (km (bM (J I v.2.1 i)) a++dx x) (v,c,x,())))=(gj (q+2)).fc (i:Int) (kQ (bM (J I v.2.1 i)) a (dx x)) (v,c,x,()):=by
  have hM:(km (bM (J I v.2.1 i)) a++dx x).length=a +(dx x).length:=by rw [List.length_append,pJ]
  rw [hM]
  unfold kQ
  by_cases pI:(bM (J I v.2.1 i)).length>a +(dx x).length
  ·rw [decide_eq_true (by omega)]
   simp only [cond_true]
   rw [kp (by omega) (Nat.le_refl _)]
   simp only [av]
   rw [Ml,cG (by rw [List.length_drop];omega)];rfl
  ·rw [decide_eq_false (by omega)]
   simp only [cond_false]
   rw [List.drop_of_length_le (by omega),List.append_nil]
 show bq v c x (Option.bind (aN v.2.1.length (i:Int)) fun v1=>Option.bind (Ey (bM (J I v.2.1 v1),ej x (J I v.2.1 i),())) fun v2=>cond (!(aE x==7)) (cond (room (v2.1.length +(dx x).length)) (Option.bind (aN v.2.1.length (i:Int)) fun v3=>cond (decide (((bM (J I v.2.1 v3)).length:Int) >((v2.1++dx x).length:Int)))
   (Option.bind (aN v.2.1.length (i:Int)) fun v4=>(dZ (bM (J I v.2.1 v4)).length ((v2.1++dx x).length:Int) ((bM (J I v.2.1 v4)).length:Int)).bind fun v5=>cond (room ((v2.1++dx x).length +(part (bM (J I v.2.1 v4)) v5.1 (v5.2-v5.1)).length))
    ((gj (q+2)).fc (i:Int) ((v2.1++dx x)++part (bM (J I v.2.1 v4)) v5.1 (v5.2-v5.1)) (v,c,x,())) none)
   ((gj (q+2)).fc (i:Int) (v2.1++dx x) (v,c,x,()))) none) ((gj (q+2)).fc (i:Int) v2.1 (v,c,x,()))) _ _
 rw [bw bJ.1,ha]
 simp only [av]
 rw [ahE _ _ (by omega) (by omega)]
 simp only [av]
 rw [cG (by rw [pJ];omega)]
 simp only [cond_true]
 rw [ahS]
 by_cases bE:aE x=7
 ·have tg:=We bE
  have hR:iw x (J I v.2.1 i)=km (bM (J I v.2.1 i)) a:=by
   unfold iw
   rw [if_pos bE]
   have:ej x (J I v.2.1 i)=bR x:=by unfold ej;rw [if_neg (by omega)]
   rw [← this,ha,Int.toNat_natCast]
  rw [cD bE]
  rw [tg] at Gf
  simp only [List.length_nil] at Gf
  rw [decide_eq_false (show ¬((a:Int)>64) by omega)]
  simp only [Bool.not_true,cond_false,cond_true]
  rw [Wc _ _ _ (by omega) (by omega) (by simp)]
  simp only [av]
  rw [put_eq]
  show bq v c x _ (Option.bind (dZ (kQ (bM (J I v.2.1 i)) a []).length ((0:Nat):Int) (a:Int)) _) _
  rw [kp (by omega) (by unfold kQ;rw [List.length_append,List.length_append,pJ];omega)]
  simp only [av,Nat.sub_zero]
  have lU:part (kQ (bM (J I v.2.1 i)) a []) 0 a=iw x (J I v.2.1 i):=by
   rw [zG,hR,← ahH,put_eq]
  rw [lU,← hR,z_ (q+1),Wf (q+2)]
  exact⟨_,_,rfl,rfl,hwr⟩
 ·have hR:iw x (J I v.2.1 i)=kQ (bM (J I v.2.1 i)) a (dx x):=by
   unfold iw
   rw [if_neg bE,ha,Int.toNat_natCast]
  rw [cd bE]
  have h0:br (dx x) []=false:=by rw [← Bool.not_eq_true,nu];exact fun h=>su ⟨bE,h⟩
  rw [h0,show aG (64-((dx x).length:Int))=64-((dx x).length:Int) from dD (by omega) (by omega),decide_eq_false (show ¬((a:Int)>64-((dx x).length:Int)) by omega)]
  simp only [Bool.not_false,cond_true,cond_false]
  rw [Wc _ _ _ (by omega) (by omega) (by omega)]
  simp only [av]
  rw [put_eq,← hR,z_ (q+1),Wf (q+2)]
  exact⟨_,_,rfl,rfl,hwr⟩
theorem Wg(l:List aL):bytesOf l=((List.range l.length).map fun i=>(bM (J I l i)).length).sum:=by
 unfold bytesOf
 congr 1
 refine List.ext_getElem (by simp) fun i h1 h2=>?_
 simp only [List.length_map] at h1
 rw [List.getElem_map,List.getElem_map,List.getElem_range,c7 h1]
structure Alike(l l':List aL):Prop where
 len:l'.length=l.length
 id:∀i,(J I l' i).1=(J I l i).1
 fA:∀i,bM (J I l' i)=bM (J I l i)
 cH:∀i,ak (J I l' i)=ak (J I l i)
theorem Alike.bl{l l':List aL}(h:Alike l l'):kc.bl l'=kc.bl l:=by
 funext id
 unfold kc.bl
 rw [h.len]
 refine VI fun i _=>?_
 rw [h.id]
theorem Alike.below{l l':List aL}(h:Alike l l'):dL l'=dL l:=by
 have e1:je l'=je l:=by
  funext i j s
  unfold je
  rw [h.bl,h.cH]
 have e2:iq l'=iq l:=by
  funext i s
  unfold iq
  rw [e1,h.cH]
 have e3:ff l'=ff l:=by
  funext s
  unfold ff
  rw [e2,h.len]
 funext id
 unfold dL
 rw [h.bl,h.len,e3]
theorem Alike.ahT{l l':List aL}(h:Alike l l')(x bz:aL)(h1:bz.1=x.1)(h2:eM bz=eM x)(h3:ez bz=ez x):hW l' bz=hW l x:=by
 have e1:jf l'=jf l:=by
  funext F
  unfold jf ov dl
  rw [h.len]
  congr 2
  funext i
  rw [h.fA]
 have e2:jB l'=jB l:=by
  funext F
  unfold jB ov
  rw [h.len]
 unfold hW
 rw [e1,e2,h.below,h1,h2,h3]
theorem Alike.fits{l l':List aL}(h:Alike l l')(hb:∀i,eM (J I l' i)=eM (J I l i))(hi:∀i,ez (J I l' i)=ez (J I l i)):e_ l'=e_ l:=by
 have e1:bytesOf l'=bytesOf l:=by
  rw [Wg,Wg,h.len]
  congr 2
  funext i
  rw [h.fA]
 have e2:ga l'=ga l:=by
  unfold ga
  rw [h.len]
  congr 2
  funext i
  rw [h.ahT (J I l i) (J I l' i) (h.id i) (hb i) (hi i)]
 unfold e_
 rw [e1,e2]
theorem ahU{l:List aL}{i:Nat}{y:aL}(hi:i<l.length)(h1:y.1=(J I l i).1)(h2:bM y=bM (J I l i))(h3:ak y=ak (J I l i)):Alike l (l.set i y):=by
 refine⟨List.length_set,fun j=>?_,fun j=>?_,fun j=>?_⟩ <;>
  ·rw [gR hi]
   split
   ·rename_i he;subst he;assumption
   ·rfl
def iT(x:aL)(m u g:Int):aL:=(x.1,x.2.1,m,u,g,x.2.2.2.2.2.1,x.2.2.2.2.2.2.1,x.2.2.2.2.2.2.2.1,x.2.2.2.2.2.2.2.2.1,())
theorem Wh(x:aL)(m u g:Int):(iT x m u g).1=x.1:=rfl
theorem Gg{v:af.D}(hv:bH v){i:Nat}(hi:i<v.2.1.length)(m u g:Int):e_ (v.2.1.set i (iT (J I v.2.1 i) m u g))=0:=by
 have ha:Alike v.2.1 (v.2.1.set i (iT (J I v.2.1 i) m u g)):=ahU hi rfl rfl rfl
 rw [ha.fits (fun j=>by
  rw [gR hi]
  split
  ·rename_i he;subst he;rfl
  ·rfl) (fun j=>by
  rw [gR hi]
  split
  ·rename_i he;subst he;rfl
  ·rfl)]
 unfold e_
 rw [decide_eq_false (by have:=hv.bytes;omega),hv.over];rfl
theorem Wi{v:af.D}(hv:bH v){i:Nat}(hi:i<v.2.1.length)(m u g:Int):aq 1000 (v.2.1.set i (iT (J I v.2.1 i) m u g)) :=
 (hv.st.set (k:=1) (i:=i) (y:=iT (J I v.2.1 i) m u g) hi rfl (fun d ag=>hv.hp i hi d ag) (fun hk=>hv.st.bare i hi hk) (Nat.le_add_right _ _) (Nat.le_add_right _ _)).mono (by omega)
def andNot(a b:Int):Int:=cN .andNot .i64 a b
def qV(c:aH.D)(x:aK.D)(n:aL):Int:=if c.1≠0∧mr c (e9 n)=false then andNot (bR x) 1024 else bR x
theorem Ag(m:Nat)(a b d e f g):(g' (m+1)).ef a b d e f g=yZ (g' m) a b d e f g:=rfl
theorem Nn(m:Nat)(a b d e f):(g' (m+1)).jT a b d e f=y0 (g' m) a b d e f:=rfl
theorem ahV(m:Nat)(a b d e f g):(g' (m+1)).pb a b d e f g=JL (g' m) a b d e f g:=rfl
theorem ahW(m:Nat)(a b d e):(g' (m+1)).fL a b d e=JM (g' m) a b d e:=rfl
theorem No{v:af.D}(hv:bH v)(z:af.D)(js:aS.D){i:Nat}(hi:i<v.2.1.length)(n:aL)(hn:n.1=(J I v.2.1 i).1)(hst:aq 1000 (v.2.1.set i n))(m:Nat) :
  (g' (m+1)).fL v z js n=some (cond (e_ (v.2.1.set i n)==0) (v.1,v.2.1.set i n,()) v,(e_ (v.2.1.set i n),[],()),()):=by
 have cn:=hv.iv
 rw [ahW]
 unfold JM
 rw [uT v cn.len (fun i hi=>Nat.le_trans (fM hi) cn.cH)]
 simp only [av]
 rw [FZ v n cn.len (show bl v.2.1 n.1=some i from hn ▸ hv.fO i hi)]
 simp only [av]
 rw [zY v (v.1,v.2.1.set i n,()) hst (by omega)];rfl
structure Ah(v:af.D)(c:aH.D)(x:aK.D)(w:af.D):Prop where
 out:0≤bR x∧bR x≤2047∧∃r i,lF v.2.1 r∧bI r=0∧bl v.2.1 (bb r)=some i∧kindOf (J I v.2.1 i)≠3∧(c.1≠0→c.1=en (J I v.2.1 i)) ∧
  w=(v.1,v.2.1.set i (iT (J I v.2.1 i) (qV c x (J I v.2.1 i)) (en (J I v.2.1 i)) (e9 (J I v.2.1 i))),())
theorem ahX(v:af.D)(c:aH.D)(x:aK.D)(hv:bH v)(hc:dm c=true)(hx:iu x)(hk:aE x=15):bq v c x (EO ((v,c,x,()),())) (rR (v,c,x,())) (Ah v c x):=by
 have cn:=hv.iv
 have hl:v.2.1.length≤1048576:=cn.len
 have au:=hx.path
 obtain ⟨q,hq,hL⟩:=jb 4
 show bq v c x (EN (qG aR) (v,c,x,())) (rQ (g' aR) v c x) _
 unfold EN rQ
 show bq v c x (Option.bind (eI (bR x,0,2047,())) _) (cond (aE x==15) (Option.bind (ei (bR x,0,2047,())) _) _) _
 rw [cD hk,jc,jz]
 simp only [cond_true,av]
 rw [hq,Ag]
 unfold yZ
 cases hN:c4 (bR x) 0 2047 with
 | false=>exact bq.no 22 (by decide) rfl rfl
 | true =>
 have pF:=dJ.1 hN
 simp only [Bool.not_true,cond_false]
 show bq v c x _ (cond (aE x==19) _ _) _
 rw [cd (show aE x≠19 by omega),Nn]
 simp only [cond_false]
 unfold y0
 obtain ⟨r,⟨hr,xl⟩,gm,j2,j3⟩:=sr v c x true cn hc (by omega)
 show bq v c x _ (Option.bind (fk (v,c,fz x,true,())) _) _
 rw [gm]
 simp only [av]
 show bq v c x _ (cond (bI r != 0) (some (v,(bI r,[],()),())) _) _
 by_cases b1:bI r=0
 case neg =>
  rw [j2 b1,cY b1]
  simp only [av]
  rw [cY b1]
  exact bq.no (bI r) b1 rfl rfl
 obtain ⟨i,hi,eS⟩:=j3 b1
 have bJ:=bS hi
 rw [eS,dC b1]
 simp only [cond_false,av]
 rw [show((0:Int) != 0)=false from rfl]
 simp only [cond_false]
 show bq v c x _ (Option.bind (e6 (v,bb r,())) _) _
 rw [jg v _ hl hi,bw bJ.1]
 simp only [av]
 show bq v c x (cond (c.1 != 0) (cond (c.1 != en (J I v.2.1 i)) (some (1,(v,c,x,()),())) (qG (q+4) (i:Int) (v,c,x,()))) (qG (q+4) (i:Int) (v,c,x,())))
  (cond (aE x==15) (cond (c.1 != 0) (cond (c.1 != en (J I v.2.1 i)) (some (v,(1,[],()),())) ((g' (q+2)).pb v c x (0,([]:List I.D),()) (0,([]:aF),()) (J I v.2.1 i))) ((g' (q+2)).pb v c x (0,([]:List I.D),()) (0,([]:aF),()) (J I v.2.1 i))) _) _
 rw [cD hk]
 simp only [cond_true]
 have hfin:(c.1≠0→c.1=en (J I v.2.1 i))→bq v c x (qG (q+4) (i:Int) (v,c,x,())) ((g' (q+2)).pb v c x (0,([]:List I.D),()) (0,([]:aF),()) (J I v.2.1 i)) (Ah v c x):=by
  intro hu
  have eS:qG (q+4) (i:Int) (v,c,x,())=some (0,((v.1,v.2.1.set i (iT (J I v.2.1 i) (qV c x (J I v.2.1 i)) (en (J I v.2.1 i)) (e9 (J I v.2.1 i))),()),c,x,()),()):=by
   rw [qG,K8]
   show Option.bind (aN v.2.1.length (i:Int)) (fun v1=>K7 (v,c,x,()) (i:Int) (v.2.1.set v1 (iT (J I v.2.1 v1) (bR x) (en (J I v.2.1 v1)) (e9 (J I v.2.1 v1)))))=_
   rw [bw bJ.1]
   simp only [av]
   unfold K7 qV
   have aA:J I (v.2.1.set i (iT (J I v.2.1 i) (bR x) (en (J I v.2.1 i)) (e9 (J I v.2.1 i)))) i=iT (J I v.2.1 i) (bR x) (en (J I v.2.1 i)) (e9 (J I v.2.1 i)):=by rw [gR bJ.1,if_pos rfl]
   have fN:aN (v.2.1.set i (iT (J I v.2.1 i) (bR x) (en (J I v.2.1 i)) (e9 (J I v.2.1 i)))).length (i:Int)=some i:=bw (by rw [List.length_set];exact bJ.1)
   show cond (c.1 != 0) _ _=_
   by_cases h0:c.1=0
   ·rw [dC h0,if_neg (fun h=>h.1 h0)];rfl
   ·rw [cY h0,fN]
    simp only [cond_true,av]
    rw [aA]
    show Option.bind (uD (c,e9 (J I v.2.1 i),())) _=_
    rw [ML c _ hc]
    simp only [av]
    cases Bh:mr c (e9 (J I v.2.1 i)) with
    | true=>rw [if_neg (fun h=>by cases h.2)];rfl
    | false =>
     rw [if_pos ⟨h0,rfl⟩]
     simp only [Bool.not_false,cond_true]
     unfold Ss
     rw [List.set_set];rfl
  have dN:(g' (q+2)).pb v c x (0,([]:List I.D),()) (0,([]:aF),()) (J I v.2.1 i)=(g' (q+1)).fL v (0,([]:List I.D),()) (0,([]:aF),()) (iT (J I v.2.1 i) (qV c x (J I v.2.1 i)) (en (J I v.2.1 i)) (e9 (J I v.2.1 i))):=by
   rw [ahV]
   unfold JL qV
   show cond (c.1 != 0) (Option.bind (tC (c,e9 (J I v.2.1 i),())) _) _=_
   by_cases h0:c.1=0
   ·rw [dC h0,if_neg (fun h=>h.1 h0)];rfl
   ·rw [cY h0,MK c _ hc]
    simp only [cond_true,av]
    cases Bh:mr c (e9 (J I v.2.1 i)) with
    | true=>rw [if_neg (fun h=>by cases h.2)];rfl
    | false=>rw [if_pos ⟨h0,rfl⟩];rfl
  rw [eS,dN,No hv _ _ bJ.1 _ (Wh _ _ _ _) (Wi hv bJ.1 _ _ _),Gg hv bJ.1]
  exact⟨0,_,rfl,rfl,fun _=>⟨pF.1,pF.2,r,i,hr,b1,hi,xl rfl b1 i hi,hu,rfl⟩⟩
 by_cases h0:c.1=0
 ·rw [dC h0]
  exact hfin fun h=>absurd h0 h
 ·rw [cY h0]
  simp only [cond_true]
  by_cases hu:c.1=en (J I v.2.1 i)
  ·rw [dC hu]
   exact hfin fun _=>hu
  ·rw [cY hu]
   exact bq.no 1 (by decide) rfl rfl
structure Ai(v:af.D)(c:aH.D)(x:aK.D)(w:af.D):Prop where
 out:(0≤bR x∧bR x≤1000)∧(0≤ea x∧ea x≤1000)∧∃r i,lF v.2.1 r∧bI r=0∧bl v.2.1 (bb r)=some i∧w=(v.1,v.2.1.set i (iT (J I v.2.1 i) (eU (J I v.2.1 i)) (bR x) (ea x)),())
theorem ahY(v:af.D)(c:aH.D)(x:aK.D)(hv:bH v)(hc:dm c=true)(hx:iu x)(hk:aE x=16):bq v c x (ES ((v,c,x,()),())) (rR (v,c,x,())) (Ai v c x):=by
 have cn:=hv.iv
 have hl:v.2.1.length≤1048576:=cn.len
 have au:=hx.path
 obtain ⟨q,hq,hL⟩:=jb 4
 show bq v c x (ER (qH aR) (v,c,x,())) (rQ (g' aR) v c x) _
 unfold ER rQ
 show bq v c x (Option.bind (eI (bR x,0,1000,())) fun v1=>cond (!v1.1) _ (Option.bind (eI (ea x,0,1000,())) _)) (cond (aE x==15) _ (cond (aE x==16) (Option.bind (ei (bR x,0,1000,())) fun v2=>cond (!v2.1) _ (Option.bind (ei (ea x,0,1000,())) _)) _)) _
 rw [cd (show aE x≠15 by omega),cD hk]
 simp only [cond_true,cond_false]
 rw [jc,jz]
 simp only [av]
 rw [hq]
 cases hN:c4 (bR x) 0 1000 with
 | false =>
  simp only [Bool.not_false,cond_true]
  rw [Ag]
  exact bq.no 22 (by decide) rfl rfl
 | true =>
 have pF:=dJ.1 hN
 simp only [Bool.not_true,cond_false]
 rw [jc,jz]
 simp only [av]
 rw [Ag]
 unfold yZ
 cases qb:c4 (ea x) 0 1000 with
 | false=>exact bq.no 22 (by decide) rfl rfl
 | true =>
 have Np:=dJ.1 qb
 simp only [Bool.not_true,cond_false]
 show bq v c x _ (cond (aE x==19) _ _) _
 rw [cd (show aE x≠19 by omega),Nn]
 simp only [cond_false]
 unfold y0
 obtain ⟨r,⟨hr,xl⟩,gm,j2,j3⟩:=sr v c x true cn hc (by omega)
 show bq v c x _ (Option.bind (fk (v,c,fz x,true,())) _) _
 rw [gm]
 simp only [av]
 show bq v c x _ (cond (bI r != 0) (some (v,(bI r,[],()),())) _) _
 by_cases b1:bI r=0
 case neg =>
  rw [j2 b1,cY b1]
  simp only [av]
  rw [cY b1]
  exact bq.no (bI r) b1 rfl rfl
 obtain ⟨i,hi,eS⟩:=j3 b1
 have bJ:=bS hi
 rw [eS,dC b1]
 simp only [cond_false,av]
 rw [show((0:Int) != 0)=false from rfl]
 simp only [cond_false]
 show bq v c x _ (Option.bind (e6 (v,bb r,())) _) _
 rw [jg v _ hl hi,bw bJ.1]
 simp only [av]
 show bq v c x (cond (c.1 != 0) (cond (c.1 != en (J I v.2.1 i)) (some (1,(v,c,x,()),())) (cond (bR x != en (J I v.2.1 i)) (some (1,(v,c,x,()),())) (Option.bind (uD (c,ea x,())) fun v6=>cond (!v6.1) (some (1,(v,c,x,()),())) (qH (q+4) (i:Int) (v,c,x,()))))) (qH (q+4) (i:Int) (v,c,x,())))
  (cond (aE x==15) _ (cond (aE x==16) (cond (c.1 != 0) (cond (c.1 != en (J I v.2.1 i)) (some (v,(1,[],()),())) (cond (bR x != en (J I v.2.1 i)) (some (v,(1,[],()),())) (Option.bind (tC (c,ea x,())) fun v3=>cond (!v3.1) (some (v,(1,[],()),())) ((g' (q+2)).fL v (0,([]:List I.D),()) (0,([]:aF),()) (iT (J I v.2.1 i) (eU (J I v.2.1 i)) (bR x) (ea x))))))
   ((g' (q+2)).fL v (0,([]:List I.D),()) (0,([]:aF),()) (iT (J I v.2.1 i) (eU (J I v.2.1 i)) (bR x) (ea x)))) _)) _
 rw [cd (show aE x≠15 by omega),cD hk,ML c _ hc,MK c _ hc]
 simp only [cond_true,cond_false,av]
 have hfin:bq v c x (qH (q+4) (i:Int) (v,c,x,())) ((g' (q+2)).fL v (0,([]:List I.D),()) (0,([]:aF),()) (iT (J I v.2.1 i) (eU (J I v.2.1 i)) (bR x) (ea x))) (Ai v c x):=by
  have eS:qH (q+4) (i:Int) (v,c,x,())=some (0,((v.1,v.2.1.set i (iT (J I v.2.1 i) (eU (J I v.2.1 i)) (bR x) (ea x)),()),c,x,()),()):=by
   rw [qH,K_]
   show Option.bind (aN v.2.1.length (i:Int)) (fun v1=>K9 (i:Int) (v,c,x,()) (v.2.1.set v1 (iT (J I v.2.1 v1) (eU (J I v.2.1 v1)) (bR x) (e9 (J I v.2.1 v1)))))=_
   rw [bw bJ.1]
   simp only [av]
   unfold K9
   rw [bw (by rw [List.length_set];exact bJ.1)]
   simp only [av]
   unfold St
   rw [List.set_set,gR bJ.1,if_pos rfl];rfl
  rw [eS,No hv _ _ bJ.1 _ (Wh _ _ _ _) (Wi hv bJ.1 _ _ _),Gg hv bJ.1]
  exact⟨0,_,rfl,rfl,fun _=>⟨pF,Np,r,i,hr,b1,hi,rfl⟩⟩
 by_cases h0:c.1=0
 ·rw [dC h0]
  exact hfin
 ·rw [cY h0]
  simp only [cond_true]
  by_cases hu:c.1=en (J I v.2.1 i)
  ·rw [dC hu]
   simp only [cond_false]
   by_cases hn:bR x=en (J I v.2.1 i)
   ·rw [dC hn]
    simp only [cond_false]
    cases mr c (ea x) with
    | false=>exact bq.no 1 (by decide) rfl rfl
    | true=>exact hfin
   ·rw [cY hn]
    exact bq.no 1 (by decide) rfl rfl
  ·rw [cY hu]
   exact bq.no 1 (by decide) rfl rfl
def my(x:aL)(b k:Int):aL:=(x.1,x.2.1,x.2.2.1,x.2.2.2.1,x.2.2.2.2.1,x.2.2.2.2.2.1,x.2.2.2.2.2.2.1,b,k,())
theorem ahZ(x:aL)(b k:Int):(my x b k).1=x.1:=rfl
structure Gh(v:af.D)(c:aH.D)(x:aK.D)(w:af.D):Prop where
 out:(0≤bR x∧bR x≤400)∧(0≤ea x∧ea x≤24)∧c.1=0∧∃r i,lF v.2.1 r∧bI r=0∧bl v.2.1 (bb r)=some i∧kindOf (J I v.2.1 i)=2∧w=(v.1,v.2.1.set i (my (J I v.2.1 i) (bR x) (ea x)),())∧e_ w.2.1=0
theorem ah0(v:af.D)(c:aH.D)(x:aK.D)(hv:bH v)(hc:dm c=true)(hx:iu x)(hk:aE x=19):bq v c x (EV ((v,c,x,()),())) (rR (v,c,x,())) (Gh v c x):=by
 have cn:=hv.iv
 have hl:v.2.1.length≤1048576:=cn.len
 have au:=hx.path
 obtain ⟨q,hq,hL⟩:=jb 4
 show bq v c x (Lb (v,c,x,())) (rQ (g' aR) v c x) _
 unfold Lb rQ
 show bq v c x (Option.bind (eI (bR x,0,400,())) fun v1=>cond (!v1.1) _ (Option.bind (eI (ea x,0,24,())) _)) (cond (aE x==15) _ (cond (aE x==16) _ (Option.bind (ei (bR x,0,400,())) fun v2=>cond (!v2.1) _ (Option.bind (ei (ea x,0,24,())) _)))) _
 rw [cd (show aE x≠15 by omega),cd (show aE x≠16 by omega)]
 simp only [cond_true,cond_false]
 rw [jc,jz]
 simp only [av]
 rw [hq]
 cases hN:c4 (bR x) 0 400 with
 | false =>
  simp only [Bool.not_false,cond_true]
  rw [Ag]
  exact bq.no 22 (by decide) rfl rfl
 | true =>
 have pF:=dJ.1 hN
 simp only [Bool.not_true,cond_false]
 rw [jc,jz]
 simp only [av]
 rw [Ag]
 unfold yZ
 cases qb:c4 (ea x) 0 24 with
 | false=>exact bq.no 22 (by decide) rfl rfl
 | true =>
 have Np:=dJ.1 qb
 simp only [Bool.not_true,cond_false]
 show bq v c x (cond (c.1 != 0) _ _) (cond (aE x==19) (cond (c.1 != 0) _ _) _) _
 rw [cD hk]
 simp only [cond_true]
 by_cases h0:c.1=0
 case neg =>
  rw [cY h0]
  exact bq.no 1 (by decide) rfl rfl
 rw [dC h0]
 simp only [cond_false]
 rw [Nn]
 unfold y0
 obtain ⟨r,⟨hr,xl⟩,gm,j2,j3⟩:=sr v c x true cn hc (by omega)
 show bq v c x _ (Option.bind (fk (v,c,fz x,true,())) _) _
 rw [gm]
 simp only [av]
 show bq v c x _ (cond (bI r != 0) (some (v,(bI r,[],()),())) _) _
 by_cases b1:bI r=0
 case neg =>
  rw [j2 b1,cY b1]
  simp only [av]
  rw [cY b1]
  exact bq.no (bI r) b1 rfl rfl
 obtain ⟨i,hi,eS⟩:=j3 b1
 have bJ:=bS hi
 rw [eS,dC b1]
 simp only [cond_false,av]
 rw [show((0:Int) != 0)=false from rfl]
 simp only [cond_false]
 show bq v c x _ (Option.bind (e6 (v,bb r,())) _) _
 rw [jg v _ hl hi,bw bJ.1]
 simp only [av]
 show bq v c x (cond (kindOf (J I v.2.1 i) != 2) (some (20,(v,c,x,()),())) (EU ((i:Int),0,(v,c,x,()),()) (v.2.1.set i (my (J I v.2.1 i) (bR x) (ez (J I v.2.1 i))))))
  (cond (aE x==15) _ (cond (aE x==16) _ (cond (kindOf (J I v.2.1 i) != 2) (some (v,(20,[],()),())) ((g' (q+2)).fL v (0,([]:List I.D),()) (0,([]:aF),()) (my (J I v.2.1 i) (bR x) (ea x)))))) _
 rw [cd (show aE x≠15 by omega),cd (show aE x≠16 by omega)]
 simp only [cond_false]
 by_cases hQ:kindOf (J I v.2.1 i)=2
 case neg =>
  rw [cY hQ]
  exact bq.no 20 (by decide) rfl rfl
 rw [dC hQ]
 simp only [cond_false]
 have hst:aq 1000 (v.2.1.set i (my (J I v.2.1 i) (bR x) (ea x))):=(hv.st.set (k:=1) (i:=i) (y:=my (J I v.2.1 i) (bR x) (ea x)) bJ.1 rfl (fun d ag=>hv.hp i bJ.1 d ag) (fun hk=>absurd hQ hk) (Nat.le_add_right _ _) (Nat.le_add_right _ _)).mono (by omega)
 have eS:EU ((i:Int),0,(v,c,x,()),()) (v.2.1.set i (my (J I v.2.1 i) (bR x) (ez (J I v.2.1 i))))=some (e_ (v.2.1.set i (my (J I v.2.1 i) (bR x) (ea x))),((v.1,v.2.1.set i (my (J I v.2.1 i) (bR x) (ea x)),()),c,x,()),()):=by
  unfold EU
  rw [bw (by rw [List.length_set];exact bJ.1)]
  simp only [av]
  rw [List.set_set,gR bJ.1,if_pos rfl]
  show La ((i:Int),0,(v,c,x,()),()) (v.2.1.set i (my (J I v.2.1 i) (bR x) (ea x)))=_
  unfold La
  show Option.bind (nd (((v.1,v.2.1.set i (my (J I v.2.1 i) (bR x) (ea x)),()),c,x,()),())) _=_
  rw [zX (v.1,v.2.1.set i (my (J I v.2.1 i) (bR x) (ea x)),()) c x hst (by omega)];rfl
 rw [eS,No hv _ _ bJ.1 _ (ahZ _ _ _) hst]
 exact⟨_,_,rfl,rfl,fun h=>⟨pF,Np,h0,r,i,hr,b1,hi,hQ,rfl,h⟩⟩
end Go.LM.kc
