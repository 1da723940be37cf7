/- Calls on volumes: both sides come to the same. Conditions: each theorem's own hypotheses. -/
import Derived.Test.YtlkbjdmfbadhaaaGreatDoorZVc
set_option linter.unusedVariables false
set_option linter.defProp false
set_option linter.unusedSimpArgs false
namespace Go.LM.i_
def WI{n:Nat}(h:n<=68719476736):n+1<aC:=by unfold aC;omega
def vA{α:Type}{l:List α}{k:Nat}(h:k<l.length):l.drop k=l[k]::l.drop (k+1):=kf h
def nL(y:ar.D)(id:aO):Bool:=bm y.1 id
def WJ(y:ar.D)(id:aO):Bd (y,id,())=some (nL y id,()):=rfl
def tz(id:aO):List ar.D->Nat->Int
 | [],_=> -1
 |a::l,k=>cond (nL a id) (k:Int) (tz id l (k+1))
def agy(a:List ar.D)(id:aO)(hn:a.length<=68719476736):∀(r k m:Nat),k+r=a.length->r<m →
  uQ m a id (a.length:Int) (k:Int)=some (tz id (a.drop k) k,()):=by
 intro r
 induction r with
 |zero=>
  intro k m hk hm;obtain⟨m,rfl⟩:∃q,m=q+1:=⟨m-1,by omega⟩
  simp only[uQ,Bf];rw[bI (by omega),gp (by omega)];rfl
 |succ r d=>
  intro k m hk hm;obtain⟨m,rfl⟩:∃q,m=q+1:=⟨m-1,by omega⟩
  have b:k<a.length:=by omega
  simp only[uQ,Bf];rw[bj b,aU b];simp only[au,ag];rw[WJ,nW b,vA b];simp only[ag,tz];cases nL a[k] id
  ·simp only[ay];rw[c0 _ (by omega)];exact d (k+1) m (by omega) (by omega)
  ·rfl
def WK(id:aO):∀(l:List ar.D) (k:Nat),(tz id l k = -1/\l.filter (fun y=> !nL y id)=l)\/∃j,j<l.length/\tz id l k=((k+j:Nat):Int)/\(l.filter (fun y=> !nL y id))=l.take j++(l.drop (j+1)).filter (fun y=> !nL y id)
 | [],_=>.inl ⟨rfl,rfl⟩
 |y::l,k=>by
  rw[gr];unfold tz;cases h:nL y id
  ·rcases WK id l (k+1)with⟨h1,a⟩|⟨j,h1,a,b⟩
   ·exact .inl ⟨by simp only[ay];exact h1,by simp[a]⟩
   ·exact .inr ⟨j+1,by simpa using h1,by simp only[ay];rw[a];congr 1;omega,by simp[b]⟩
  ·exact .inr ⟨0,by simp,by simp,by simp⟩
def agz(a:List ar.D)(id:aO)(hn:a.length<=68719476736):∀(r j i m:Nat) (xs:List ar.D),j+r=a.length->i<=j->xs.length=a.length->xs.drop j=a.drop j->r<m →
  uS m id (i:Int) (j:Int) xs=some (xs.take i++(a.drop j).filter (fun y=> !nL y id),()):=by
 intro r
 induction r with
 |zero=>
  intro j i m xs g h hl aa hm;obtain⟨m,rfl⟩:∃q,m=q+1:=⟨m-1,by omega⟩
  simp only[uS,Bi];rw[bI (by omega),iC (by omega) (bu _)];simp only[ay,ag,Q6,bE];generalize ((([]:af),0,()):ar.D)=z;have hlen:(xs.take i++List.replicate (xs.length-i) z++xs.drop (i +(xs.length-i))).length=xs.length:=by simp;omega
  rw[show(0:Int)=((0:Nat):Int) from rfl,iC (mc _) (by rw[hlen];omega)];simp only[ag,mb,bE];rw[gp (l:=a) (by omega),List.filter_nil,dn];congr 2;unfold part;rw[gV,dW,List.take_append_of_le_length (by simp;omega),List.take_take];simp
 |succ r d=>
  intro j i m xs g h hl aa hm;obtain⟨m,rfl⟩:∃q,m=q+1:=⟨m-1,by omega⟩
  have b:j<xs.length:=by omega
  have e:j<a.length:=by omega
  have he:xs[j]=a[j]/\xs.drop (j+1)=a.drop (j+1):=by rw[vA b,vA e]at aa;exact List.cons.inj aa
  simp only[uS,Bi];rw[bj b,aU b];simp only[au,ag,bE];rw[WJ,nW b,he.1,vA e,gr];simp only[ag];cases k:nL a[j] id
  ·simp only[cR,au,if_true];rw[aU (show i<xs.length by omega)];simp only[ag,bE];rw[c0 _ (by omega),c0 _ (by omega),d (j+1) (i+1) m (xs.set i a[j]) (by omega) (by omega) (by simpa using hl) (by rw[List.drop_set_of_lt (by omega)];exact he.2) (by omega)];congr 2;rw[List.take_add_one,List.take_set_of_le (bu _),List.getElem?_set_self (by omega)];simp
  ·simp only[bJ,ay,gq,fT];rw[c0 _ (by omega)];exact d (j+1) i m xs (by omega) (by omega) hl he.2 (by omega)
def agA(a:List ar.D)(id:aO)(hn:room a.length=true):Bj (a,id,())=some (a.filter (fun y=> !nL y id),()):=by
 have hn:a.length<=68719476736:=fc hn;show Bh _ a id=_;unfold Bh;have d:I' (a,id,())=some (tz id a 0,()):=by have:=agy a id hn a.length 0 aC (by omega) (by have:=WI hn;omega);rw[gV]at this;exact this
 rw[d];simp only[ag];rcases WK id a 0 with⟨h1,b⟩|⟨j,h1,b,e⟩
 ·rw[h1,b];rfl
 ·rw[b,e,bE,show((j:Int) == -1)=false from by rw[jD];omega];simp only[ay];rw[c0 _ (by omega)];exact agz a id hn (a.length-(j+1)) (j+1) j aC a (by omega) (by omega) rfl rfl (by have:=WI hn;omega)
def yh(v:ad.D)(c:aM.D)(x:aL.D)(path:aO)(a:Bool)(b:pc v.2.1)(hc:dB c=true)(ai:path.length<=1048576):
  ∃r,qK a v.2.1 r/\j5 ((v,c,x,()),path,a,())=some (r,())/\eI (v,c,path,a,())=some (r,()):=by
 cases hk:qJ path with
 |false=>
  refine⟨((0:Int),([]:aO),(0:Int),(22:Int),()),vz a _ (by decide) 0 0 (.inr trivial),?_,?_⟩
  ·show oo (v,c,x,()) path a=_;unfold oo;rw[FJ _ (by omega),hk];rfl
  ·show s4 v c path a=_;unfold s4;rw[yd,hk];rfl
 |true=>
  obtain⟨r,d,e,g⟩:=WH v c path a b hc hk;refine⟨r,d,?_,?_⟩
  ·show oo (v,c,x,()) path a=_;unfold oo;rw[FJ _ (by omega),hk];simp only[ag,bJ,ay];rw[e];rfl
  ·show s4 v c path a=_;unfold s4;rw[yd,hk];simp only[ag,bJ,ay];rw[g];rfl
def lS{s:aO}:bm s []=true↔s=[]:=by unfold bm;simp
def WL(v:ad.D)(c:aM.D)(x:aL.D)(path:aO)(i:pc v.2.1)(hc:dB c=true)(ai:path.length<=1048576):
  ∃r e code,sd ((v,c,x,()),path,())=some (r,code,())/\sX (v,c,path,())=some (e,code,())/\(0<=code/\code<=200)/\(code=0->e=r/\gM v.2.1 r/\bH r=2/\nameOf r≠[]/\eI (v,c,path,false,())=some (r,())):=by
 cases hk:qJ path with
 |false=>
  refine⟨((0:Int),([]:aO),(0:Int),(22:Int),()),((0:Int),([]:aO),(0:Int),(0:Int),()),22,?_,?_,by decide,fun h=>by cases h⟩
  ·show w1 (v,c,x,()) path=_;unfold w1;have:j5 ((v,c,x,()),path,false,())=some (((0:Int),([]:aO),(0:Int),(22:Int),()),()):=by show oo (v,c,x,()) path false=_;unfold oo;rw[FJ _ (by omega),hk];rfl
   rw[this];rfl
  ·show xE v c path=_;unfold xE;rw[yd,hk];rfl
 |true=>
  obtain⟨r,b,j,g⟩:=WH v c path false i hc hk
  have k:sd ((v,c,x,()),path,())=cond (bH r==2) (cond (!(bm (nameOf r) [])) (some (r,0,())) (cond (bH r==0) (some (r,17,())) (some (r,bH r,())))) (cond (bH r==0) (some (r,17,())) (some (r,bH r,()))):=by
   show w1 (v,c,x,()) path=_;unfold w1;have:j5 ((v,c,x,()),path,false,())=some (r,()):=by show oo (v,c,x,()) path false=_;unfold oo;rw[FJ _ (by omega),hk];simp only[ag,bJ,ay];rw[j];rfl
   rw[this];rfl
  have l:sX (v,c,path,())=cond (bH r==0) (some (r,17,())) (cond (bH r==2) (cond (!(bm (nameOf r) [])) (some (r,0,())) (some (r,bH r,()))) (some (r,bH r,()))):=by show xE v c path=_;unfold xE;rw[yd,hk];simp only[ag,bJ,ay];rw[g];rfl
  rw[k,l];by_cases a:bH r=0
  ·rw[cf a,bO (show bH r≠2 by omega)];exact⟨r,r,17,rfl,rfl,by decide,fun h=>by cases h⟩
  ·rw[bO a];by_cases d:bH r=2
   ·rw[cf d]
    cases hn:bm (nameOf r) []with
    |true=>exact⟨r,r,bH r,rfl,rfl,b.1.rg,fun h=>absurd h a⟩
    |false=>exact⟨r,r,0,rfl,rfl,by decide,fun _=>⟨rfl,b.1,d,fun h=>(by rw[lS.2 h]at hn;cases hn),by
     show s4 v c path false=_;unfold s4;rw[yd,hk];simp only[ag,bJ,ay]
     rw[g];rfl⟩⟩
   ·rw[bO d];exact⟨r,r,bH r,rfl,rfl,b.1.rg,fun h=>absurd h a⟩
def b4(x:aQ)(N:List ar.D):aQ:=(x.1,x.2.1,x.2.2.1,x.2.2.2.1,x.2.2.2.2.1,x.2.2.2.2.2.1,N,x.2.2.2.2.2.2.2.1,x.2.2.2.2.2.2.2.2.1,())
def dN(s:aO)(d:ar.D):Bool:=dr d.1 s
def ins(N:List ar.D)(s:aO)(id:Int):List ar.D:=N.takeWhile (dN s)++[(s,id,())]++N.dropWhile (dN s)
def FR{α:Type}(p:α->Bool)(l:List α):l.take (l.takeWhile p).length=l.takeWhile p:=by have:=List.take_left' (l₁:=l.takeWhile p) (l₂:=l.dropWhile p) rfl;rwa[q']at this
def FT{α:Type}(p:α->Bool)(l:List α):l.drop (l.takeWhile p).length=l.dropWhile p:=by have:=List.drop_left' (l₁:=l.takeWhile p) (l₂:=l.dropWhile p) rfl;rwa[q']at this
def ND{α:Type}{p:α->Bool}{x:α}:∀{l:List α},x∈l.takeWhile p->p x=true
 | [],h=>by simp at h
 |b::l,h=>by
  rw[List.takeWhile_cons]at h;cases a:p b
  ·rw[a]at h;simp at h
  ·rw[a]at h;simp only[if_true,List.mem_cons]at h;rcases h with rfl|h
   ·exact a
   ·exact ND h
def WM{α:Type}{p:α->Bool}{x:α}{r:List α}:∀{l:List α},l.dropWhile p=x::r->p x=false
 | [],h=>by simp at h
 |b::l,h=>by
  rw[List.dropWhile_cons]at h;cases a:p b
  ·rw[a]at h;simp only[gq,fT]at h;injection h with h1 d
   rw[<-h1];exact a
  ·rw[a]at h;simp only[if_true]at h;exact WM h
def NF{α:Type}(p:α->Bool)(l:List α):(l.takeWhile p).length<=l.length:=by have:=congrArg List.length (q' (p:=p) (l:=l));rw[bZ]at this;omega
def vB(N:List ar.D)(s:aO)(id:Int):(ins N s id).length=N.length+1:=by have:=congrArg List.length (q' (p:=dN s) (l:=N));rw[bZ]at this;unfold ins;simp only[bZ,b2,cU];omega
def WN{N:List ar.D}{s:aO}:∀{j:Nat},j<(N.takeWhile (dN s)).length->dr (I ar N j).1 s=true:=by
 intro j a;have b:j<N.length:=jW a (NF _ _);have h1:(N.takeWhile (dN s))[j]∈N.takeWhile (dN s):=List.getElem_mem a;have d:=ND h1
 have e:(N.takeWhile (dN s))[j]=I ar N j:=by
  rw[cC b];have:=q' (p:=dN s) (l:=N);have g:(N.takeWhile (dN s)++N.dropWhile (dN s))[j]?=N[j]?:=by rw[this]
  rw[List.getElem?_append_left a,List.getElem?_eq_getElem a,List.getElem?_eq_getElem b]at g;exact aS g
 rw[e]at d;exact d
def WO{N:List ar.D}{s:aO}(h:(N.takeWhile (dN s)).length<N.length):dr (I ar N (N.takeWhile (dN s)).length).1 s=false:=by have h1:=FT (dN s) N;have a:=vA h;rw[h1]at a;rw[cC h];exact WM (p:=dN s) a
def NG(v:ad.D)(c:aM.D)(x:aL.D)(dir:Int)(s:aO)(id:Int)(hl:v.2.1.length<=1048576){i:Nat}(h:bp v.2.1 dir=some i)(hn:(aq (I J v.2.1 i)).length<=1048576):
  qb ((v,c,x,()),dir,s,id,())=some (((v.1,v.2.1.set i (b4 (I J v.2.1 i) (ins (aq (I J v.2.1 i)) s id)),()),c,x,()),()):=by
 show Bb (qa aC) (v,c,x,()) dir s id=_;unfold Bb;rw[Nu v dir hl,h];simp only[ag,gZ];obtain⟨b,o⟩:=b3 h;generalize d:aq (I J v.2.1 i)=a at hn;have k:=NF (dN s) a;have g:∀m,(qa (m+1)).aZ s id (i:Int) ((a.takeWhile (dN s)).length:Int) (v,c,x,())=some (((v.1,v.2.1.set i (b4 (I J v.2.1 i) (ins a s id)),()),c,x,()),()):=by intro m;show I6 (qa m) s id (i:Int) ((a.takeWhile (dN s)).length:Int) (v,c,x,())=_;unfold I6;rw[aU b];simp only[ag,Nat.beq_refl,au];show Option.bind (insF (aq (I J v.2.1 i)) ((a.takeWhile (dN s)).length:Int) [(s,id,())]) _=_;rw[d];unfold insF;rw[bg ⟨Int.natCast_nonneg _,Int.ofNat_le.2 k,rfl,by omega⟩];simp only[ag,ed];rw[FR,FT];rfl
 have l:=mO 1 (fun m j=>(qa m).k2 s id (i:Int) (j:Int) (v,c,x,())) (some (((v.1,v.2.1.set i (b4 (I J v.2.1 i) (ins a s id)),()),c,x,()),())) (a.takeWhile (dN s)).length 2 (fun j n B p he=>he.step fun m=>by
  show w2 (qa m) s id (i:Int) (j:Int) (v,c,x,())=_;unfold w2;rw[aU b];simp only[ag];show cond (decide ((j:Int)<((aq (I J v.2.1 i)).length:Int))) ((ax (aq (I J v.2.1 i)).length (j:Int)).bind fun e=>cond (dr (I ar (aq (I J v.2.1 i)) e).1 s) _ _) _=_;rw[d,bj (by omega),aU (by omega)];simp only[au,ag]
  rw[WN n,c0 j (by omega)];rfl) (bU.now 2 fun m=>by
  show w2 (qa (m+1)) s id (i:Int) ((a.takeWhile (dN s)).length:Int) (v,c,x,())=_;unfold w2;rw[aU b];simp only[ag];show cond (decide (((a.takeWhile (dN s)).length:Int)<((aq (I J v.2.1 i)).length:Int))) ((ax (aq (I J v.2.1 i)).length ((a.takeWhile (dN s)).length:Int)).bind fun e=>cond (dr (I ar (aq (I J v.2.1 i)) e).1 s) _ _) _=_;rw[d];rcases ff (a.takeWhile (dN s)).length a.length with h1|h1
  ·rw[bj h1,aU h1];simp only[au,ag];rw[WO h1];exact g m
  ·rw[bI h1]
   exact g m)
 exact jx l (by omega)
def b_(N:List ar.D)(s:aO):List ar.D:=N.filter fun d=> !bm d.1 s
def goN(l:List aQ)(id:Int):List aQ:=cond (decide (ch l id=0)) (l.filter fun a=> !(a.1==id)) l
def FU{l:List aQ}{i:Nat}{y:aQ}(a:i<l.length):dm (l.set i y) +(aq (I J l i)).length=dm l +(aq y).length:=by
 unfold dm
 induction l generalizing i with
 |nil=>simp at a
 |cons z l b=>
  cases i with
  |zero=>simp only[List.set_cons_zero,dh,eM];show _ +(aq z).length=_;omega
  |succ i=>have:=b (i:=i) (by simpa using a);simp only[List.set_cons_succ,dh,eM];show _ +(aq (I J l i)).length=_;omega
def jA(x:aQ)(N:List ar.D):aq (b4 x N)=N:=rfl
def tA(N:List ar.D)(s:aO):(b_ N s).length<=N.length:=lr _ _
def NH(v:ad.D)(c:aM.D)(x:aL.D)(dir:Int)(s:aO)(goes:Bool)(hl:v.2.1.length<=1048576)(hm:dm v.2.1<=1048576){i:Nat}(h:bp v.2.1 dir=some i):
  mv ((v,c,x,()),dir,s,goes,())=some (((v.1,cond goes (goN (v.2.1.set i (b4 (I J v.2.1 i) (b_ (aq (I J v.2.1 i)) s))) (dC (aq (I J v.2.1 i)) s)) (v.2.1.set i (b4 (I J v.2.1 i) (b_ (aq (I J v.2.1 i)) s))),()),c,x,()),()):=by
 show Jb (v,c,x,()) dir s goes=_;unfold Jb;rw[Nu v dir hl,h];simp only[ag,gZ];obtain⟨a,g⟩:=b3 h;have hn:=cw (fF a) hm;rw[aU a];simp only[ag,Nat.beq_refl,au];rw[Wk _ _ hn];simp only[ag];show Option.bind (Bj (aq (I J v.2.1 i),s,())) _=_;rw[agA _ _ (bX (by omega))];simp only[ag];show Ja goes ((i:Int),v,()) (dC (aq (I J v.2.1 i)) s,()) (v,c,x,()) (v.2.1.set i (b4 (I J v.2.1 i) (b_ (aq (I J v.2.1 i)) s)))=_;have d:(v.2.1.set i (b4 (I J v.2.1 i) (b_ (aq (I J v.2.1 i)) s))).length<=1048576:=by rw[bL];exact hl
 have e:dm (v.2.1.set i (b4 (I J v.2.1 i) (b_ (aq (I J v.2.1 i)) s)))<=1048576:=by have:=FU (l:=v.2.1) (y:=b4 (I J v.2.1 i) (b_ (aq (I J v.2.1 i)) s)) a;rw[jA]at this;have:=tA (aq (I J v.2.1 i)) s;omega
 generalize v.2.1.set i (b4 (I J v.2.1 i) (b_ (aq (I J v.2.1 i)) s))=l at d e;generalize dC (aq (I J v.2.1 i)) s=id;unfold Ja;cases goes
 ·rfl
 ·simp only[au];show Option.bind (uK (((v.1,l,()):ad.D),id,())) _=_;rw[Fy (v.1,l,()) id d e];simp only[ag];unfold goN;by_cases b:ch l id=0
  ·rw[show(((ch l id:Nat):Int)==0)=true by rw[b];rfl,bR b];simp only[au];show Option.bind (cond (room l.length) _ none) _=_;rw[bX (by omega)];rfl
  ·rw[show(((ch l id:Nat):Int)==0)=false by rw[jD];omega,bW b];rfl
def FV(v:ad.D)(n:aQ)(hl:v.2.1.length<=1048576){i:Nat}(h:bp v.2.1 n.1=some i):mB (v,n,())=some ((v.1,v.2.1.set i n,()),()):=by show xF v n=_;unfold xF;rw[mL v _ hl,h];simp only[ag];rw[show decide (gZ (some i)<0)=false from x8];simp only[ay,gZ];rw[aU (b3 h).1];simp only[ag,bE]
def agB(v:ad.D)(n:aQ)(hl:v.2.1.length<=1048576)(h:bp v.2.1 n.1=none):mB (v,n,())=some ((v.1,v.2.1++[n],()),()):=by show xF v n=_;unfold xF;rw[mL v _ hl,h];simp only[ag,x8,Option.isNone_none,au];rw[bX (by simp;omega)];rfl
def NI(v:ad.D)(dir:Int)(s:aO)(id:Int)(hl:v.2.1.length<=1048576){i:Nat}(h:bp v.2.1 dir=some i)(hn:(aq (I J v.2.1 i)).length<=1048576)(hs:∀d,d∈aq (I J v.2.1 i)->d.1≠s):
  qo (v,dir,s,id,())=some ((v.1,v.2.1.set i (b4 (I J v.2.1 i) (ins (aq (I J v.2.1 i)) s id)),()),()):=by
 show Dw (hP aC) v dir s id=_;unfold Dw;rw[iO v dir hl h];simp only[ag];obtain⟨z,l⟩:=b3 h;generalize e:aq (I J v.2.1 i)=N at hn hs;have n:=NF (dN s) N;have o:bp v.2.1 (b4 (I J v.2.1 i) (ins N s id)).1=some i:=by rw[show(b4 (I J v.2.1 i) (ins N s id)).1=dir from l];exact h
 have k:∀m,(hP (m+1)).kX v (0,([]:List J.D),()) (I J v.2.1 i) (ins N s id)=some ((v.1,v.2.1.set i (b4 (I J v.2.1 i) (ins N s id)),()),()):=by intro m;show KU (hP m) v (0,([]:List J.D),()) (I J v.2.1 i) (ins N s id)=_;unfold KU;show Option.bind (mB (v,b4 (I J v.2.1 i) (ins N s id),())) _=_;rw[FV v _ hl o];rfl
 have p:∀(r j:Nat) (acc:List ar.D),j+r=N.length->acc++N.drop j=ins N s id->acc.length<=j+1->bU (fun m=>(hP m).a_ s id true (j:Int) v (0,([]:List J.D),()) (I J v.2.1 i) acc) (2*r+2) (some ((v.1,v.2.1.set i (b4 (I J v.2.1 i) (ins N s id)),()),())):=by
  intro r
  induction r with
  |zero=>
   intro j acc a he q;refine bU.now 2 fun m=>?_
   show mC (hP (m+1)) s id true (j:Int) v (0,([]:List J.D),()) (I J v.2.1 i) acc=_;unfold mC;show cond (decide ((j:Int)<((aq (I J v.2.1 i)).length:Int))) _ _=_;rw[e,bI (by omega)];rw[gp (by omega),dn]at he;rw[he];exact k m
  |succ r u=>
   intro j acc a he q;have b:j<N.length:=by omega
   have:=u (j+1) (acc++[I ar N j]) (by omega) (by rw[dW,pA,<-drop_cons (t:=ar) b];exact he) (by simp;omega);refine(this.jump (f:=fun m=>(hP m).a_ s id true (j:Int) v (0,([]:List J.D),()) (I J v.2.1 i) acc) 2 fun m=>?_).mono (by omega);show mC (hP (m+1)) s id true (j:Int) v (0,([]:List J.D),()) (I J v.2.1 i) acc=_;unfold mC;show cond (decide ((j:Int)<((aq (I J v.2.1 i)).length:Int))) _ _=_;rw[e,bj b];simp only[au,bJ,ay];show sY (hP m) s id true (j:Int) v (0,([]:List J.D),()) (I J v.2.1 i) acc=_;unfold sY;show Option.bind (ax (aq (I J v.2.1 i)).length (j:Int)) (fun v1=>cond (room (acc.length+1)) ((hP m).a_ s id true (aj ((j:Int)+1)) v (0,([]:List J.D),()) (I J v.2.1 i) (acc++[I ar (aq (I J v.2.1 i)) v1])) none)=_;rw[e,aU b];simp only[ag];rw[bX (by omega),c0 j (by omega)];rfl
 have w:=mO 2 (fun m j=>(hP m).a_ s id false (j:Int) v (0,([]:List J.D),()) (I J v.2.1 i) (N.take j)) (some ((v.1,v.2.1.set i (b4 (I J v.2.1 i) (ins N s id)),()),())) (N.takeWhile (dN s)).length (2*N.length+8) (fun j a B A he=>(he.jump (f:=fun m=>(hP m).a_ s id false (j:Int) v (0,([]:List J.D),()) (I J v.2.1 i) (N.take j)) 2 fun m=>by
  have b:j<N.length:=by omega
  show mC (hP (m+1)) s id false (j:Int) v (0,([]:List J.D),()) (I J v.2.1 i) (N.take j)=_;unfold mC;show cond (decide ((j:Int)<((aq (I J v.2.1 i)).length:Int))) (cond (!false) ((ax (aq (I J v.2.1 i)).length (j:Int)).bind fun v1=>cond (dr s (I ar (aq (I J v.2.1 i)) v1).1) _ _) _) _=_;rw[e,bj b,aU b];simp only[au,cR,ag];rw[Wy (WN a)];simp only[ay];show sY (hP m) s id false (j:Int) v (0,([]:List J.D),()) (I J v.2.1 i) (N.take j)=_;unfold sY;show Option.bind (ax (aq (I J v.2.1 i)).length (j:Int)) (fun v1=>cond (room ((N.take j).length+1)) ((hP m).a_ s id false (aj ((j:Int)+1)) v (0,([]:List J.D),()) (I J v.2.1 i) (N.take j++[I ar (aq (I J v.2.1 i)) v1])) none)=_;rw[e,aU b];simp only[ag]
  rw[bX (by rw[dX];omega),c0 j (by omega),cC b,<-hD b];rfl)) (by
  rcases ff (N.takeWhile (dN s)).length N.length with h1|h1
  ·
   generalize a:(N.takeWhile (dN s)).length=j at h1 n;have g:N.take j++[(s,id,())]++N.drop j=ins N s id:=by rw[<-a,FR,FT];rfl
   have y:dr s (I ar N j).1=true:=by have:=WO (N:=N) (s:=s) (by omega);rw[a]at this;rw[Nz (hs _ (cI h1)),this];rfl
   have:=p (N.length-(j+1)) (j+1) (N.take j++[(s,id,())]++[I ar N j]) (by omega) (by rw[dW _ [I ar N j],pA,<-drop_cons (t:=ar) h1];exact g) (by simp;omega);refine(this.jump (f:=fun m=>(hP m).a_ s id false (j:Int) v (0,([]:List J.D),()) (I J v.2.1 i) (N.take j)) 2 fun m=>?_).mono (by omega);show mC (hP (m+1)) s id false (j:Int) v (0,([]:List J.D),()) (I J v.2.1 i) (N.take j)=_;unfold mC;show cond (decide ((j:Int)<((aq (I J v.2.1 i)).length:Int))) (cond (!false) ((ax (aq (I J v.2.1 i)).length (j:Int)).bind fun v1=>cond (dr s (I ar (aq (I J v.2.1 i)) v1).1) _ _) _) _=_;rw[e,bj h1,aU h1];simp only[au,cR,ag];rw[y];simp only[au];rw[bX (by simp;omega)];simp only[au];show sY (hP m) s id true (j:Int) v (0,([]:List J.D),()) (I J v.2.1 i) (N.take j++[(s,id,())])=_;unfold sY;show Option.bind (ax (aq (I J v.2.1 i)).length (j:Int)) (fun v1=>cond (room ((N.take j++[(s,id,())]).length+1)) ((hP m).a_ s id true (aj ((j:Int)+1)) v (0,([]:List J.D),()) (I J v.2.1 i) ((N.take j++[(s,id,())])++[I ar (aq (I J v.2.1 i)) v1])) none)=_;rw[e,aU h1];simp only[ag];rw[bX (by simp;omega),c0 j (by omega)];rfl
  ·
   have a:(N.takeWhile (dN s)).length=N.length:=by omega
   have g:N++[(s,id,())]=ins N s id:=by unfold ins;rw[<-FT,<-FR,a,ia,List.drop_length,dn]
   rw[a,ia];refine(bU.now 2 fun m=>?_).mono (by omega);show mC (hP (m+1)) s id false (N.length:Int) v (0,([]:List J.D),()) (I J v.2.1 i) N=_;unfold mC;show cond (decide ((N.length:Int)<((aq (I J v.2.1 i)).length:Int))) _ _=_;rw[e,bI (bu _)];simp only[ay,cR,au];rw[bX (by simp;omega),g]
   exact k m)
 exact jx w (by omega)
def iq{l:List aQ}{i j:Nat}{y:aQ}(b:i<l.length):I J (l.set i y) j=if i=j then y else I J l j:=by
 by_cases a:j<l.length
 ·rw[cC (by rw[bL];exact a),cC a,List.getElem_set]
 ·rw[bd (by omega)];unfold I;rw[List.getD_eq_getElem?_getD,List.getD_eq_getElem?_getD,List.getElem?_eq_none (by rw[bL];omega),List.getElem?_eq_none (by omega)]
def WQ{n:Nat}{P Q:Nat->Bool}(h:∀i,i<n->P i=Q i):eY n P=eY n Q:=by
 cases a:eY n Q with
 |none=>exact kv.2 fun i b=>by rw[h i b];exact kv.1 a i b
 |some k=>obtain⟨h1,d,e⟩:=gY.1 a;exact gY.2 ⟨h1,by rw[h k h1];exact d,fun j g=>by rw[h j (by omega)];exact e j g⟩
def FW{l:List aQ}{i:Nat}{y:aQ}(a:i<l.length)(b:y.1=(I J l i).1)(id:Int):bp (l.set i y) id=bp l id:=by
 unfold bp;rw[bL];refine WQ fun j d=>?_
 rw[iq a];split
 ·rename_i h;rw[b,h]
 ·rfl
def yi(l:List aQ):Prop:=l.Pairwise fun a b=>bb a≠bb b
def yj{l:List aQ}:g' l↔yi l:=by
 unfold yi;rw[List.pairwise_iff_getElem];constructor
 ·intro h i j d a g he;have h1:=h i d;have e:=h j a;rw[cC d]at h1;rw[cC a]at e;have:(l[i]).1=(l[j]).1:=he;rw[this,e]at h1;have:=aS h1;omega
 ·intro h x b;unfold bp;rw[gY];refine⟨b,by simp,fun j a=>?_⟩;rw[jD,cC b,cC (i:=j) (by omega)];exact h j x (by omega) b a
def lT{l:List aQ}{id:Int}:(bp l id).isSome=true↔∃x,x∈l/\x.1=id:=by
 constructor
 ·intro h;obtain⟨i,a⟩:=Option.isSome_iff_exists.1 h;obtain⟨h1,b⟩:=b3 a;exact⟨_,cI h1,b⟩
 ·rintro⟨x,d,he⟩
  obtain⟨i,a,e⟩:=eC d
  cases h:bp l id with
  |some k=>rfl
  |none=>have:=kv.1 h i a;rw[e,he]at this;simp at this
def agC{l:List aQ}{n:aQ}{id:Int}{i:Nat}(h:bp l id=some i):bp (l++[n]) id=some i:=by
 obtain⟨h1,d,e⟩:=gY.1 h;have b:∀j,j<l.length->I J (l++[n]) j=I J l j:=fun j a=>by rw[cC (by simp;omega),cC a,List.getElem_append_left a]
 exact gY.2 ⟨by simp;omega,by rw[b i h1];exact d,fun j a=>by rw[b j (by omega)];exact e j a⟩
def NJ{l:List aQ}{n:aQ}{j:Nat}(a:j<l.length):I J (l++[n]) j=I J l j:=by rw[cC (by simp;omega),cC a,List.getElem_append_left a]
def WR{l:List aQ}{n y:aQ}{i:Nat}(a:i<l.length):(l++[n]).set i y=l.set i y++[n]:=by rw[List.set_append_left _ _ a]
def NK{l:List aQ}{id:Int}(h:ch l id=0):∀x,x∈l->∀d,d∈aq x->d.2.1≠id:=by
 intro x a d aa he;have h1:dk (aq x) id<=ch l id:=by unfold ch;exact FF (f:=fun x=>dk (aq x) id) a
 have b:d∈(aq x).filter fun d=>d.2.1==id:=List.mem_filter.2 ⟨aa,by simpa using he⟩
 have e:0<dk (aq x) id:=List.length_pos_of_mem b;omega
def WS{l:List aQ}{i:Nat}{y:aQ}(a:i<l.length):bytesOf (l.set i y) +(bN (I J l i)).length=bytesOf l +(bN y).length:=by
 unfold bytesOf
 induction l generalizing i with
 |nil=>simp at a
 |cons z l b=>
  cases i with
  |zero=>simp only[List.set_cons_zero,dh,eM];show _ +(bN z).length=_;omega
  |succ i=>have:=b (i:=i) (by simpa using a);simp only[List.set_cons_succ,dh,eM];show _ +(bN (I J l i)).length=_;omega
def FX{α:Type}(f:α->Nat)(p:α->Bool):∀l:List α,((l.filter p).map f).sum<=(l.map f).sum
 | []=>bu _
 |x::l=>by
  have:=FX f p l;rw[gr];split
  ·simp only[dh,eM];omega
  ·simp only[dh,eM];omega
structure av(B:Nat)(l:List aQ):Prop where
 len:l.length<=B
 c_:dm l<=B
 bytes:bytesOf l<=B
 hT:g' l
 hU:o8 l
 bare:∀i,i<l.length->kindOf (I J l i)≠2->eK (I J l i)=0/\eo (I J l i)=0/\aq (I J l i)=[]
def av.mono{B a:Nat}{l:List aQ}(h:av B l)(hb:B<=a):av a l:=⟨cw h.len hb,cw h.c_ hb,cw h.bytes hb,h.hT,h.hU,h.bare⟩
def bY.c_{v:ad.D}(h:bY v):dm v.2.1<=288:=by
 have key:∀l:List aQ,(∀x,x∈l->(aq x).length<=12)->dm l<=l.length*12:=by
  intro l
  induction l with
  |nil=>intro _;exact bu _
  |cons x l b=>
   intro a;have h1:=a x gT;have j:=b fun d e=>a d (gS _ e)
   show(aq x).length+dm l<=(l.length+1)*12;omega
 have:=key v.2.1 fun x a=>by
  obtain⟨i,g,he⟩:=eC a;have h1:=h.ino i g;rw[he]at h1;by_cases hk:kindOf x=2
  ·exact(h1.dir hk).2.2.2
  ·rw[(h1.plain hk).2.2];simp
 have:=h.len;omega
def bY.st{v:ad.D}(h:bY v):av 400 v.2.1:=
 ⟨by have:=h.len;omega,by have:=h.c_;omega,h.bytes,h.hT,h.hU,fun i a hk=>(h.ino i a).plain hk⟩
def FY{l:List aQ}:o8 l↔∀x,x∈l->∀d,d∈aq x->∃y,y∈l/\y.1=d.2.1:=by
 constructor
 ·intro h x b d aa;obtain⟨i,a,he⟩:=eC b;exact lT.1 (h i a d (by rw[he];exact aa))
 ·intro h i a d aa;exact lT.2 (h _ (cI a) d aa)
def av.set{B k:Nat}{l:List aQ}{i:Nat}{y:aQ}(h:av B l)(a:i<l.length)(e:y.1=(I J l i).1)(hex:∀d,d∈aq y->(bp l d.2.1).isSome=true)
  (hb:kindOf y≠2->eK y=0/\eo y=0/\aq y=[]) (hn:(aq y).length<=(aq (I J l i)).length+k) (aa:(bN y).length<=(bN (I J l i)).length+k):av (B+k) (l.set i y):=by
 have h1:=FU (l:=l) (y:=y) a;have m:=WS (l:=l) (y:=y) a;have n:=h.c_;have o:=h.bytes;have p:=h.len;refine⟨by rw[bL];omega,by omega,by omega,fun x g=>?_,fun j b d aa=>?_,fun j b hk=>?_⟩
 ·rw[bL]at g;rw[FW a e,iq a];split
  ·rename_i he;subst he;rw[e];exact h.hT i g
  ·exact h.hT x g
 ·rw[bL]at b;rw[iq a]at aa;rw[FW a e];split at aa
  ·exact hex d aa
  ·exact h.hU j b d aa
 ·rw[bL]at b;rw[iq a]at hk⊢;split at hk
  ·rename_i he;rw[bg he];exact hb hk
  ·rename_i he;rw[bd he];exact h.bare j b hk
def agD{l:List aQ}(p:aQ->Bool)(h:yi l):yi (l.filter p):=List.Pairwise.sublist (List.filter_sublist) h
def av.go{B:Nat}{l:List aQ}(h:av B l)(id:Int):av B (goN l id):=by
 unfold goN;by_cases b:ch l id=0
 ·rw[bR b];simp only[au];refine⟨cw (lr _ _) h.len,cw (FX _ _ _) h.c_,cw (FX _ _ _) h.bytes,yj.2 (agD _ (yj.1 h.hT)),FY.2 fun x a d aa=>?_,fun i e hk=>?_⟩
  ·have a:=(List.mem_filter.1 a).1;obtain⟨g,k,he⟩:=FY.1 h.hU x a d aa;refine⟨g,List.mem_filter.2 ⟨k,?_⟩,he⟩;have:=NK b x a d aa;rw[eT,jD,he];exact this
  ·have a:=(List.mem_filter.1 (cI (t:=J) e)).1;obtain⟨j,m,he⟩:=eC a;rw[<-he]at hk⊢;exact h.bare j m hk
 ·rw[bW b];exact h
def av.app{B k:Nat}{l:List aQ}{n:aQ}(h:av B l)(m:bp l n.1=none)(hn:aq n=[])(aa:(bN n).length<=k)(hk:1<=k)(hb:kindOf n≠2->eK n=0/\eo n=0):av (B+k) (l++[n]):=by
 have s:=h.c_;have u:=h.bytes;have v:=h.len;refine⟨by simp;omega,by unfold dm at *;simp[hn];omega,by unfold bytesOf at *;simp;omega,yj.2 ?_,FY.2 fun x e d g=>?_,fun i o hk=>?_⟩
 ·refine List.pairwise_append.2 ⟨yj.1 h.hT,List.pairwise_singleton _ _,fun a p b j he=>?_⟩;simp only[kG]at j;subst j;have:(bp l b.1).isSome=true:=lT.2 ⟨a,p,he⟩;rw[m]at this;cases this
 ·rcases List.mem_append.1 e with e|e
  ·obtain⟨q,r,he⟩:=FY.1 h.hU x e d g;exact⟨q,List.mem_append_left _ r,he⟩
  ·simp only[kG]at e;subst e;rw[hn]at g;simp at g
 ·rcases ff i l.length with hl|hl
  ·rw[NJ hl]at hk⊢;exact h.bare i hl hk
  ·have:i=l.length:=by simp at o;omega
   subst this;have he:I J (l++[n]) l.length=n:=by rw[cC (by simp)];simp
   rw[he]at hk⊢;exact⟨(hb hk).1,(hb hk).2,hn⟩
def eD(l:List aQ):Int:=cond (decide ((bytesOf l:Int)>400)) 28 (cond (fG l) 122 0)
def WT(l:List aQ):0<=eD l/\eD l<=200:=by unfold eD;cases decide ((bytesOf l:Int)>400)<;>cases fG l<;>decide
def yk{B:Nat}(v:ad.D)(c:aM.D)(x:aL.D)(h:av B v.2.1)(a:B<=1048576):lC ((v,c,x,()),())=some (eD v.2.1,()):=by have h1:=cw h.len a;have d:=cw h.c_ a;have b:=cw h.bytes a;show I7 (v,c,x,())=_;unfold I7 eD;show Option.bind (p4 (v,())) _=_;rw[Na v h1 b];simp only[ag];show cond _ _ (Option.bind (wU (v.2.1,v,())) _)=_;rw[V9 v h1 d b h.hT h.hU];simp only[ag];cases decide ((bytesOf v.2.1:Int)>400)<;>cases fG v.2.1<;>rfl
def agE{B:Nat}(v:ad.D)(h:av B v.2.1)(a:B<=1048576):KS (v,())=some (eD v.2.1,()):=by have h1:=cw h.len a;have e:=cw h.c_ a;have b:=cw h.bytes a;show KR v=_;unfold KR eD;rw[M' v h1 b];simp only[ag];rw[V_ v h1 e b (fun i d hk=>⟨(h.bare i d hk).1,(h.bare i d hk).2.1⟩)];simp only[ag];cases decide ((bytesOf v.2.1:Int)>400)<;>cases fG v.2.1<;>rfl
def yl{B:Nat}(u v:ad.D)(h:av B v.2.1)(b:B<=1048576):oG (u,v,())=some (cond (eD v.2.1==0) v u,(eD v.2.1,[],()),()):=by
 show KT u v=_;unfold KT;rw[agE v h b];simp only[ag];by_cases a:eD v.2.1=0
 ·rw[dA a,cf a,a];rfl
 ·rw[cY a,bO a];rfl
def ym:List ar.D->aO->Int
 | [],_=>0
 |d::r,s=>cond (bm d.1 s) d.2.1 (ym r s)
def agF{n:Nat}{P:Nat->Bool}:eY (n+1) P=cond (P 0) (some 0) ((eY n fun i=>P (i+1)).map (· + 1)):=by
 cases a:P 0
 ·simp only[ay]
  cases h:eY n fun i=>P (i+1)with
  |none=>
   refine kv.2 fun i g=>?_
   cases i with
   |zero=>exact a
   |succ i=>exact kv.1 h i (by omega)
  |some k=>
   obtain⟨h1,d,e⟩:=gY.1 h;refine gY.2 ⟨show k+1<n+1 by omega,d,fun j b=>?_⟩;have b:j<k+1:=b
   cases j with
   |zero=>exact a
   |succ j=>exact e j (by omega)
 ·exact gY.2 ⟨by omega,a,fun j b=>by omega⟩
def look_eq(s:aO):∀N:List ar.D,dC N s=ym N s
 | []=>rfl
 |d::r=>by
  unfold dC ym;rw[b2,agF];show ye (d::r) (cond (bm d.1 s) _ _)=_;cases aa:bm d.1 s
  ·simp only[ay];rw[<-look_eq s r];unfold dC;show ye (d::r) ((eY r.length (pa r s)).map (· + 1))=_;cases eY r.length (pa r s)<;>rfl
  ·rfl
def tB(N:List ar.D)(s:aO)(id:Int):Int:=N.foldl (fun a d=>cond (bm d.1 s) d.2.1 a) id
def WU{s:aO}{id:Int}:∀{N:List ar.D},(∀d,d∈N->d.1≠s)->tB N s id=id
 | [],_=>rfl
 |d::r,h=>by
  have h1:bm d.1 s=false:=by unfold bm;simpa using h d gT
  unfold tB;rw[List.foldl_cons,h1];exact WU fun e he=>h e (gS _ he)
def WV{s:aO}:∀{N:List ar.D},im N->tB N s 0=dC N s
 | [],_=>rfl
 |d::r,h=>by
  obtain⟨h1,a⟩:=List.pairwise_cons.1 h;rw[look_eq,ym,<-look_eq];unfold tB;rw[List.foldl_cons];cases aa:bm d.1 s
  ·exact WV a
  ·have aa:d.1=s:=by unfold bm at aa;simpa using aa
   refine WU fun e he=>?_
   have:=h1 e he;rw[aa]at this;exact(FN this).symm
def NL(v:ad.D)(dir:Int)(s:aO)(hl:v.2.1.length<=1048576)(hm:dm v.2.1<=1048576){i:Nat}(h:bp v.2.1 dir=some i)(hs:im (aq (I J v.2.1 i))):
  mE (v,dir,s,())=some ((v.1,goN (v.2.1.set i (b4 (I J v.2.1 i) (b_ (aq (I J v.2.1 i)) s))) (dC (aq (I J v.2.1 i)) s),()),()):=by
 show Dy (j8 aC) v dir s=_;unfold Dy;rw[iO v dir hl h];simp only[ag];obtain⟨k,q⟩:=b3 h;have hn:=cw (fF k) hm;have n:dm (v.2.1.set i (b4 (I J v.2.1 i) (b_ (aq (I J v.2.1 i)) s)))<=1048576:=by have:=FU (l:=v.2.1) (y:=b4 (I J v.2.1 i) (b_ (aq (I J v.2.1 i)) s)) k;rw[jA]at this;have:=tA (aq (I J v.2.1 i)) s;omega
 have g:(v.2.1.set i (b4 (I J v.2.1 i) (b_ (aq (I J v.2.1 i)) s))).length<=1048576:=by rw[bL];exact hl
 rw[<-WV hs];generalize o:aq (I J v.2.1 i)=a at hn hs n g;have u:bp v.2.1 (b4 (I J v.2.1 i) (b_ a s)).1=some i:=by rw[show(b4 (I J v.2.1 i) (b_ a s)).1=dir from q];exact h
 have key:∀(r j:Nat) (id:Int),j+r=a.length->bU (fun m=>(j8 m).a_ s id (j:Int) v (0,([]:List J.D),()) (I J v.2.1 i) (b_ (a.take j) s)) (r+1048580) (some ((v.1,goN (v.2.1.set i (b4 (I J v.2.1 i) (b_ a s))) (tB (a.drop j) s id),()),())):=by
  intro r
  induction r with
  |zero=>
   intro j id b;have w:j=a.length:=by omega
   subst w;rw[List.drop_length,ia];show bU _ _ (some ((v.1,goN (v.2.1.set i (b4 (I J v.2.1 i) (b_ a s))) id,()),()))
   have hb:∀m,(j8 (m+1)).a_ s id (a.length:Int) v (0,([]:List J.D),()) (I J v.2.1 i) (b_ a s) =
     cond (decide (((ch (v.2.1.set i (b4 (I J v.2.1 i) (b_ a s))) id:Nat):Int)>0)) (some ((v.1,v.2.1.set i (b4 (I J v.2.1 i) (b_ a s)),()),())) ((j8 m).ou id 0 (v.1,v.2.1.set i (b4 (I J v.2.1 i) (b_ a s)),()) (0,([]:List J.D),()) ([]:List J.D)):=by
    intro m;show xH (j8 m) s id (a.length:Int) v (0,([]:List J.D),()) (I J v.2.1 i) (b_ a s)=_;unfold xH;show cond (decide ((a.length:Int)<((aq (I J v.2.1 i)).length:Int))) _ (Option.bind (mB (v,b4 (I J v.2.1 i) (b_ a s),())) _)=_;rw[o,bI (bu _),FV v _ hl u];simp only[ay,ag];rw[Fx (v.1,v.2.1.set i (b4 (I J v.2.1 i) (b_ a s)),()) id g n];rfl
   generalize v.2.1.set i (b4 (I J v.2.1 i) (b_ a s))=l at hb g;unfold goN;by_cases p:ch l id=0
   ·rw[bR p];simp only[au]
    have z:=mO 1 (fun m j=>(j8 m).ou id (j:Int) (v.1,l,()) (0,([]:List J.D),()) ((l.take j).filter fun y=> !(y.1==id))) (some ((v.1,l.filter fun y=> !(y.1==id),()),())) l.length 1 (fun j b B y he=>he.step fun m=>by
     have A:((l.take j).filter fun y=> !(y.1==id)).length<=j:=cw (lr _ _) (by rw[dX];omega);show xI (j8 m) id (j:Int) (v.1,l,()) (0,([]:List J.D),()) ((l.take j).filter fun y=> !(y.1==id))=_;unfold xI;show cond (decide ((j:Int)<(l.length:Int))) ((ax l.length (j:Int)).bind fun v1=>cond (!((I J l (0+v1)).1==id)) _ _) _=_;rw[bj b,aU b];simp only[au,ag,bE];rw[c0 j (by omega),hD b,List.filter_append,gr,List.filter_nil,cC b];cases hc:(!((l[j]).1==id))
     ·simp
     ·simp only[au,if_true]
      rw[bX (by simp only[b2,cU];omega)];rfl) (bU.now 1 fun m=>by
     show xI (j8 m) id (l.length:Int) (v.1,l,()) (0,([]:List J.D),()) ((l.take l.length).filter fun y=> !(y.1==id))=_;unfold xI;show cond (decide ((l.length:Int)<(l.length:Int))) _ _=_
     rw[bI (bu _),ia];rfl)
    refine(z.jump (f:=fun m=>(j8 m).a_ s id (a.length:Int) v (0,([]:List J.D),()) (I J v.2.1 i) (b_ a s)) 1 fun m=>?_).mono (by omega);rw[hb m,bW (by omega)];rfl
   ·rw[bW p];simp only[ay];refine(bU.now 1 fun m=>?_).mono (by omega);rw[hb m,bR (by omega)];rfl
  |succ r e=>
   intro j id b;have d:j<a.length:=by omega
   have e:=e (j+1) (cond (bm (I ar a j).1 s) (I ar a j).2.1 id) (by omega);have C:tB (a.drop (j+1)) s (cond (bm (I ar a j).1 s) (I ar a j).2.1 id)=tB (a.drop j) s id:=by rw[drop_cons (t:=ar) d];rfl
   rw[C]at e;refine(e.jump (f:=fun m=>(j8 m).a_ s id (j:Int) v (0,([]:List J.D),()) (I J v.2.1 i) (b_ (a.take j) s)) 1 fun m=>?_).mono (by omega);have A:(b_ (a.take j) s).length<=j:=cw (lr _ _) (by rw[dX];omega);show xH (j8 m) s id (j:Int) v (0,([]:List J.D),()) (I J v.2.1 i) (b_ (a.take j) s)=_;unfold xH
   show cond (decide ((j:Int)<((aq (I J v.2.1 i)).length:Int))) ((ax (aq (I J v.2.1 i)).length (j:Int)).bind fun v1=>cond (bm (I ar (aq (I J v.2.1 i)) v1).1 s)
    ((ax (aq (I J v.2.1 i)).length (j:Int)).bind fun D=>(j8 m).a_ s (I ar (aq (I J v.2.1 i)) D).2.1 (aj ((j:Int)+1)) v (0,([]:List J.D),()) (I J v.2.1 i) (b_ (a.take j) s))
    ((ax (aq (I J v.2.1 i)).length (j:Int)).bind fun E=>cond (room ((b_ (a.take j) s).length+1)) ((j8 m).a_ s id (aj ((j:Int)+1)) v (0,([]:List J.D),()) (I J v.2.1 i) (b_ (a.take j) s++[I ar (aq (I J v.2.1 i)) E])) none)) _=_
   rw[o,bj d,aU d];simp only[au,ag];rw[c0 j (by omega)];have F:b_ (a.take (j+1)) s=b_ (a.take j) s++cond (bm (I ar a j).1 s) [] [I ar a j]:=by unfold b_;rw[hD d,List.filter_append,gr,List.filter_nil,cC d];cases bm (a[j]).1 s<;>rfl
   rw[F];cases bm (I ar a j).1 s
   ·simp only[ay];rw[bX (by omega)];rfl
   ·simp only[au,dn]
 have:=key a.length 0 0 (by omega);rw[gV]at this;exact jx this (by omega)
def bits_nat(op:BinOp)(x y:Nat):cJ op .i64 (x:Int) (y:Int)=(match op with
 |.and=>IntKind.wrap .i64 ((BitVec.ofNat 64 x &&& BitVec.ofNat 64 y).toNat:Int)
 |.or=>IntKind.wrap .i64 ((BitVec.ofNat 64 x ||| BitVec.ofNat 64 y).toNat:Int)
 |.xor=>IntKind.wrap .i64 ((BitVec.ofNat 64 x ^^^ BitVec.ofNat 64 y).toNat:Int)
 |_=>IntKind.wrap .i64 ((BitVec.ofNat 64 x &&& ~~~BitVec.ofNat 64 y).toNat:Int)):=by
 unfold cJ;rw[show(IntKind.i64).bits=64 from rfl];simp only[BitVec.ofInt_natCast];cases op<;>rfl
def agG{x y:Nat}(a:x<4611686018427387904)(b:y<4611686018427387904):cJ .and .i64 (x:Int) (y:Int)=((x &&& y:Nat):Int):=by rw[bits_nat];simp only;rw[BitVec.toNat_and,nY,nY,mY (show x<2^64 by omega),mY (show y<2^64 by omega)];have:x &&& y<=x:=Nat.and_le_left;exact cj (by omega) (by omega)
def WW{x y:Nat}(a:x<4611686018427387904)(b:y<4611686018427387904):cJ .or .i64 (x:Int) (y:Int)=((x ||| y:Nat):Int):=by
 rw[bits_nat];simp only;rw[BitVec.toNat_or,nY,nY,mY (show x<2^64 by omega),mY (show y<2^64 by omega)];have:x ||| y<2^62:=Nat.or_lt_two_pow (by omega) (by omega)
 exact cj (by omega) (by omega)
def agH{x:Nat}(h:x<2048):x &&& 1024=1024*(x / 1024):=by have h1:(x &&& 1024) / 2^10=x / 2^10 &&& 1024 / 2^10:=Nat.and_div_two_pow;have a:(x &&& 1024)%2^10=x%2^10 &&& 1024%2^10:=Nat.and_mod_two_pow;rw[show 1024 / 2^10=1 from rfl,Nat.and_one_is_mod]at h1;rw[show 1024%2^10=0 from rfl,Nat.and_zero]at a;omega
def agI{m:Int}(h:0<=m)(a:m<=2047):cJ .and .i64 m 1024=0\/cJ .and .i64 m 1024=1024:=by
 obtain⟨n,rfl⟩:∃n:Nat,m=n:=⟨m.toNat,by omega⟩
 have:=agG (x:=n) (y:=1024) (by omega) (by omega);rw[show((1024:Nat):Int)=1024 from rfl]at this;rw[this,agH (by omega)];omega
def agJ{m:Int}(h:0<=m)(a:m<=2047):cJ .or .i64 m 0=m:=by
 obtain⟨n,rfl⟩:∃n:Nat,m=n:=⟨m.toNat,by omega⟩
 have:=WW (x:=n) (y:=0) (by omega) (by omega);rw[show((0:Nat):Int)=0 from rfl]at this;rw[this,Nat.or_zero]
def agK{m:Int}(h:0<=m)(a:m<=2047):0<=cJ .or .i64 m 1024/\cJ .or .i64 m 1024<=2047:=by
 obtain⟨n,rfl⟩:∃n:Nat,m=n:=⟨m.toNat,by omega⟩
 have:=WW (x:=n) (y:=1024) (by omega) (by omega);rw[show((1024:Nat):Int)=1024 from rfl]at this;rw[this];have:n ||| 1024<2^11:=Nat.or_lt_two_pow (by omega) (by omega)
 omega
def aF(x:aL.D):Int:=x.1
def eP(x:aL.D):aO:=x.2.1
def hV(x:aL.D):aO:=x.2.2.1
def bM(x:aL.D):Int:=x.2.2.2.1
def dV(x:aL.D):Int:=x.2.2.2.2.1
def dw(x:aL.D):aO:=x.2.2.2.2.2.1
structure hd(x:aL.D):Prop where
 cX:1<=aF x/\aF x<=22
 path:(eP x).length<=60
 nM:(hV x).length<=60
 gD:(dw x).length<=64
 n : -1000000<=bM x/\bM x<=1000000
 m : -1000000<=dV x/\dV x<=1000000
 agL:hV x=[]\/aF x=9\/aF x=10\/aF x=12
 WX:dw x=[]\/aF x=5\/aF x=6
def qL{x:aL.D}:eJ x=true↔hd x:=by
 unfold eJ;simp only[bs,kI,ei,hI,lS];constructor
 ·rintro⟨⟨⟨⟨⟨⟨⟨h1,a⟩,b⟩,d⟩,e⟩,g⟩,i⟩,j⟩
  exact⟨cL.1 h1,Int.ofNat_le.1 a,Int.ofNat_le.1 b,Int.ofNat_le.1 d,cL.1 e,cL.1 g,i,j⟩
 ·intro h;exact⟨⟨⟨⟨⟨⟨⟨cL.2 h.cX,Int.ofNat_le.2 h.path⟩,Int.ofNat_le.2 h.nM⟩,Int.ofNat_le.2 h.gD⟩,cL.2 h.n⟩,cL.2 h.m⟩,h.agL⟩,h.WX⟩
def pe{N:List ar.D}{s:aO}{id:Int}{d:ar.D}:d∈ins N s id↔d∈N\/d=(s,id,()):=by
 have:=q' (p:=dN s) (l:=N);unfold ins
 conv=>rhs;rw[<-this]
 simp only[List.mem_append,kG];constructor
 ·rintro ((h|h)|h)
  ·exact .inl (.inl h)
  ·exact .inr h
  ·exact .inl (.inr h)
 ·rintro ((h|h)|h)
  ·exact .inl (.inl h)
  ·exact .inr h
  ·exact .inl (.inr h)
def yn{N:List ar.D}{s:aO}(h:dC N s=0)(b:∀d,d∈N->d.2.1≠0):∀d,d∈N->d.1≠s:=by
 intro d aa he;obtain⟨i,e,g⟩:=eC aa;unfold dC at h
 cases a:eY N.length (pa N s)with
 |none=>have:=kv.1 a i e;unfold pa bm at this;rw[g]at this;simp[he]at this
 |some j=>rw[a]at h;obtain⟨h1,_,_⟩:=gY.1 a;exact b _ (cI h1) h
def bY.WY{v:ad.D}(h:bY v){x:aQ}(a:x∈v.2.1):1<=bb x/\bb x<=fP v-1:=by obtain⟨i,b,he⟩:=eC a;have:=h.ids i b;rw[he]at this;exact this
def bY.yp{v:ad.D}(h:bY v){i:Nat}(a:i<v.2.1.length){d:ar.D}(aa:d∈aq (I J v.2.1 i)):d.2.1≠0:=by obtain⟨b,e,he⟩:=lT.1 (h.hU i a d aa);have h1:=h.WY e;intro g;have:bb b=0:=he.trans g;omega
def bY.free{v:ad.D}(h:bY v):bp v.2.1 v.1=none:=by
 cases b:bp v.2.1 v.1 with
 |none=>rfl
 |some i=>obtain⟨h1,a⟩:=b3 b;have:=h.ids i h1;have a:bb (I J v.2.1 i)=fP v:=a;omega
def bY.iu{v:ad.D}(h:bY v):pc v.2.1:=
 ⟨by have:=h.len;omega,by have:=h.c_;omega,h.hT,h.hU,fun i a hk=>((h.ino i a).plain hk).2.2,fun i a hk=>((h.ino i a).lQ hk).1,0,by
  have:=h.hT 0 (by have:=h.len;omega)
  rwa[show(I J v.2.1 0).1=1 from h.root.1]at this,h.root.2⟩
def bl(v:ad.D)(c:aM.D)(x:aL.D)(a:Option (Int×aN.D×Unit))(b:Option (ad.D×aA.D×Unit))(Q:ad.D->Prop):Prop:=
 ∃(code:Int) (w:ad.D),a=some (code,(w,c,x,()),())/\b=some (cond (code==0) w v,(code,[],()),())/\(code=0->Q w)/\0<=code/\code<=200
def bl.no{v:ad.D}{c:aM.D}{x:aL.D}{a:Option (Int×aN.D×Unit)}{b:Option (ad.D×aA.D×Unit)}{Q:ad.D->Prop}(code:Int)(d:code≠0)(e:a=some (code,(v,c,x,()),()))(hb:b=some (v,(code,[],()),()))(hr:0<=code/\code<=200:=by decide):bl v c x a b Q:=
 ⟨code,v,e,by rw[bO d];exact hb,fun h=>absurd h d,hr⟩
def bl.yes{v:ad.D}{c:aM.D}{x:aL.D}{a:Option (Int×aN.D×Unit)}{b:Option (ad.D×aA.D×Unit)}{Q:ad.D->Prop}(code:Int)(w:ad.D)(d:code=0->Q w)(e:a=some (code,(w,c,x,()),()))(hb:b=some (cond (code==0) w v,(code,[],()),()))(hr:0<=code/\code<=200:=by first|decide|exact WT _):bl v c x a b Q:=
 ⟨code,w,e,hb,d,hr⟩
def FZ(x:aL.D):Int:=if aF x=1 then 2 else if aF x=10 then 3 else 1
def tC(x:aL.D)(d:aQ):Int:=if aF x=10 then 511 else if aF x=1/\cJ .and .i64 (eL d) 1024≠0 then cJ .or .i64 (bM x) 1024 else bM x
def yq(c:aM.D)(d:aQ):Int:=if cJ .and .i64 (eL d) 1024≠0 then eZ d else c.2.1
def ga(v:ad.D)(c:aM.D)(x:aL.D)(d:aQ):aQ:=(v.1,FZ x,tC x d,c.1,yq c d,if aF x=10 then hV x else [],[],0,0,())
def pf(x:aL.D):Bool:=cond (aF x==10) (!iL (hV x)) (!b8 (bM x) 0 2047)
structure Made(v:ad.D)(c:aM.D)(x:aL.D)(w:ad.D):Prop where
 bad:pf x=false
 out:∃r i,gM v.2.1 r/\bH r=2/\nameOf r≠[]/\bp v.2.1 (cc r)=some i/\kindOf (I J v.2.1 i)=2/\may c (I J v.2.1 i) 3=true/\(aq (I J v.2.1 i)).length<12/\v.2.1.length<24/\fP v<100000 ∧
  w=(v.1+1,v.2.1.set i (b4 (I J v.2.1 i) (ins (aq (I J v.2.1 i)) (nameOf r) v.1))++[ga v c x (I J v.2.1 i)],())/\eD w.2.1=0/\eI (v,c,eP x,false,())=some (r,())
def agM(m:Nat)(a b):(j6 (m+1)).aZ a b=I8 (j6 m) a b:=rfl
def agN(m:Nat)(a b d):(j6 (m+1)).gK a b d=I9 (j6 m) a b d:=rfl
def agO(m:Nat)(a b d e f):(jb (m+1)).k3 a b d e f=KV (jb m) a b d e f:=rfl
def agP(m:Nat)(a b d e f):(jb (m+1)).ja a b d e f=KW (jb m) a b d e f:=rfl
def yr(v:ad.D)(c:aM.D)(x:aL.D)(id:Int)(hl:v.2.1.length<=1048576)(hc:dB c=true){i:Nat}(h:bp v.2.1 id=some i):lB ((v,c,x,()),id,())=some (may c (I J v.2.1 i) 3,()):=by show I5 (v,c,x,()) id=_;unfold I5;show Option.bind (fo (v,id,())) _=_;rw[lP v id hl h];simp only[ag,gU,cR,au];show Option.bind (na (c,I J v.2.1 i,3,())) _=_;rw[yc c _ 3 hc];rfl
def agQ(v:ad.D)(c:aM.D)(x:aL.D)(hv:bY v)(hc:dB c=true)(u:hd x):bl v c x (w3 ((v,c,x,()),())) (sZ (v,c,x,())) (Made v c x):=by
 have s:=hv.iu;have hl:v.2.1.length<=1048576:=s.len;have ai:=u.path;obtain⟨q,N,aw⟩:=iK 4
 have P:w3 ((v,c,x,()),())=cond (pf x) (some (22,(v,c,x,()),())) ((j6 aC).aZ (v,c,x,()) x):=by
  show Bc (j6 aC) (v,c,x,())=_;unfold Bc pf;show cond (aF x==10) (Option.bind (uI (hV x,())) fun v1=>cond (!v1.1) _ (cond (!(aF x==10)) _ _)) (cond (!(aF x==10)) (Option.bind (cT (bM x,0,2047,())) _) _)=_;rw[M9 _ (by have:=u.nM;omega)];cases aF x==10
  ·simp only[ay,cR,au,ag];rw[fZ];rfl
  ·simp only[au,bJ,ay,ag]
 have Q:sZ (v,c,x,())=cond (pf x) (some (v,(22,[],()),())) ((jb aC).k3 v c x (0,([]:List J.D),()) (0,([]:aO),())):=by
  show Dx (jb aC) v c x=_;unfold Dx pf;show cond (aF x==10) (Option.bind (xf (hV x,())) fun v1=>cond (!v1.1) _ (cond (!(aF x==10)) _ _)) (cond (!(aF x==10)) (Option.bind (cH (bM x,0,2047,())) _) _)=_;rw[VO];cases aF x==10
  ·simp only[ay,cR,au,ag];rw[fY];rfl
  ·simp only[au,bJ,ay,ag]
 rw[P,Q]
 cases hb:pf x with
 |true=>exact bl.no 22 (by decide) rfl rfl
 |false=>
 simp only[ay];rw[N,agM,agO];unfold I8 KV;obtain⟨r,b,code,T,U,V,W⟩:=WL v c x (eP x) s hc (by omega);show bl v c x (Option.bind (sd ((v,c,x,()),eP x,())) _) (Option.bind (sX (v,c,eP x,())) _) _;rw[T,U];simp only[ag];by_cases z:code=0
 case neg=>rw[cY z];exact bl.no code z rfl rfl V
 obtain⟨rfl,hr,D,E,X⟩:=W z;rw[dA z];simp only[ay];obtain⟨ax,az,d,aa,B,Y⟩:=hr.new D E;have l:=b3 aa;show bl v c x (Option.bind (lB ((v,c,x,()),cc b,())) _) (Option.bind (eX (v,cc b,())) _) _;rw[yr v c x _ hl hc aa,iO v _ hl aa];simp only[ag];rw[nH c _ 3 hc];simp only[ag]
 cases hm:may c (I J v.2.1 d) 3 with
 |false=>exact bl.no 13 (by decide) rfl rfl
 |true=>
 simp only[bJ,ay];show bl v c x (Option.bind (fo (v,cc b,())) _) _ _;rw[lP v _ hl aa];simp only[ag,gU,cR,au];have F:=hv.ino d l.1;have aA:=(F.dir B).2.2.2;show bl v c x (cond (((aq (I J v.2.1 d)).length:Int)==12) _ (cond ((v.2.1.length:Int)==24) _ (cond (fP v==100000) _ _))) (cond (decide (((aq (I J v.2.1 d)).length:Int)>=12)) _ (cond (decide ((v.2.1.length:Int)>=24)) _ (cond (decide (fP v>=100000)) _ _))) _;by_cases Z:(aq (I J v.2.1 d)).length=12
 ·rw[show(((aq (I J v.2.1 d)).length:Int)==12)=true by rw[Z];rfl,bR (by omega)];exact bl.no 28 (by decide) rfl rfl
 rw[show(((aq (I J v.2.1 d)).length:Int)==12)=false by rw[jD];omega,bW (show ¬((aq (I J v.2.1 d)).length:Int)>=12 by omega)];simp only[ay];have hlen:=hv.len;have aB:=hv.next;by_cases ab:v.2.1.length=24
 ·rw[show((v.2.1.length:Int)==24)=true by rw[ab];rfl,bR (by omega)];exact bl.no 28 (by decide) rfl rfl
 rw[show((v.2.1.length:Int)==24)=false by rw[jD];omega,bW (show ¬(v.2.1.length:Int)>=24 by omega)];simp only[ay];by_cases G:fP v=100000
 ·rw[cf G,bR (show fP v>=100000 by omega)];exact bl.no 28 (by decide) rfl rfl
 rw[bO G,bW (show ¬fP v>=100000 by omega)];simp only[ay];obtain⟨w,A⟩:∃w:ad.D,w=(v.1+1,v.2.1.set d (b4 (I J v.2.1 d) (ins (aq (I J v.2.1 d)) (nameOf b) v.1))++[ga v c x (I J v.2.1 d)],()):=⟨_,rfl⟩
 have ac:aj (v.1+1)=v.1+1:=cm (a:=fP v+1) (by omega) (by omega)
 have aD:av 1000 (v.2.1++[ga v c x (I J v.2.1 d)]):=(hv.st.app (k:=100) (n:=ga v c x (I J v.2.1 d)) hv.free rfl (by
  show(if aF x=10 then hV x else []).length<=100;have:=u.nM;split
  ·omega
  ·simp) (by omega) (fun _=>⟨rfl,rfl⟩)).mono (by omega)
 have H:av 1000 w.2.1:=by
  rw[A];have o:I J (v.2.1++[ga v c x (I J v.2.1 d)]) d=I J v.2.1 d:=NJ l.1
  have:=(hv.st.app (k:=100) (n:=ga v c x (I J v.2.1 d)) hv.free rfl (by
   show(if aF x=10 then hV x else []).length<=100;have:=u.nM;split
   ·omega
   ·simp) (by omega) (fun _=>⟨rfl,rfl⟩)).set (k:=1) (i:=d) (y:=b4 (I J v.2.1 d) (ins (aq (I J v.2.1 d)) (nameOf b) v.1)) (by simp;omega) (by rw[o];rfl) (by
    intro e he;rcases pe.1 he with he|rfl
    ·obtain⟨y,ae,af⟩:=lT.1 (hv.hU d l.1 e he);exact lT.2 ⟨y,List.mem_append_left _ ae,af⟩
    ·exact lT.2 ⟨ga v c x (I J v.2.1 d),List.mem_append_right _ (List.mem_singleton.2 rfl),rfl⟩) (fun hk=>absurd B hk) (by
    rw[o];show(ins (aq (I J v.2.1 d)) (nameOf b) v.1).length<=_;rw[vB];omega) (by rw[o];exact n0 _ _)
  rw[WR l.1]at this;exact this.mono (by omega)
 have ah:∀m n,bl v c x ((j6 (m+1)).gK (v,c,x,()) b (ga v c x (I J v.2.1 d))) ((jb (n+1)).ja v (0,([]:List J.D),()) (0,([]:aO),()) b (ga v c x (I J v.2.1 d))) (Made v c x):=by
  intro m n;rw[agN,agP];unfold I9 KW;rw[tw v hl (fun i ak=>cw (fF ak) s.c_)];simp only[ag];rw[ac];show bl v c x (Option.bind (qb (((v.1+1,v.2.1,()),c,x,()),cc b,nameOf b,v.1,())) _) (Option.bind (mB ((v.1+1,v.2.1,()),ga v c x (I J v.2.1 d),())) _) _;rw[NG (v.1+1,v.2.1,()) c x (cc b) (nameOf b) v.1 hl aa (cw (fF l.1) s.c_),agB (v.1+1,v.2.1,()) _ hl hv.free];simp only[ag];have o:I J (v.2.1++[ga v c x (I J v.2.1 d)]) d=I J v.2.1 d:=NJ l.1
  have K:=NI (v.1+1,v.2.1++[ga v c x (I J v.2.1 d)],()) (cc b) (nameOf b) v.1 (by simp;omega) (agC aa) (by
   show(aq (I J (v.2.1++[ga v c x (I J v.2.1 d)]) d)).length<=_
   rw[o];exact cw (fF l.1) s.c_) (by
   show ∀e,e∈aq (I J (v.2.1++[ga v c x (I J v.2.1 d)]) d)->_
   rw[o];exact yn Y fun e he=>hv.yp l.1 he)
  rw[show((v.1+1,v.2.1++[ga v c x (I J v.2.1 d)],()):ad.D).2.1=v.2.1++[ga v c x (I J v.2.1 d)] from rfl,o,WR l.1,<-A]at K;show bl v c x _ (Option.bind (qo ((v.1+1,v.2.1++[ga v c x (I J v.2.1 d)],()),cc b,nameOf b,v.1,())) _) _;rw[K];simp only[ag];rw[yl v w H (by omega)];simp only[ag];rw[bX (by simp;omega)];simp only[au];show bl v c x (Option.bind (lC (((v.1+1,v.2.1.set d (b4 (I J v.2.1 d) (ins (aq (I J v.2.1 d)) (nameOf b) v.1))++[ga v c x (I J v.2.1 d)],()),c,x,()),())) fun al=>some (al.1,((v.1+1,v.2.1.set d (b4 (I J v.2.1 d) (ins (aq (I J v.2.1 d)) (nameOf b) v.1))++[ga v c x (I J v.2.1 d)],()),c,x,()),())) _ _;rw[<-A,yk w c x H (by omega)];exact⟨eD w.2.1,w,rfl,rfl,fun h=>⟨hb,b,d,hr,D,E,aa,B,hm,by omega,by omega,by omega,A,h,X⟩,WT _⟩
 have an:aF x≠10->0<=bM x/\bM x<=2047:=by intro hk;unfold pf at hb;rw[bO hk]at hb;simp only[ay,Bool.not_eq_false']at hb;exact cL.1 hb
 have L:=F.mode;have C:=agI L.1 L.2
 show bl v c x (cond (cJ .and .i64 (eL (I J v.2.1 d)) 1024 != 0)
   (cond (aF x==1) ((j6 (q+3)).gK (v,c,x,()) b (v.1,2,cJ .or .i64 (bM x) (cJ .and .i64 (eL (I J v.2.1 d)) 1024),c.1,eZ (I J v.2.1 d),[],[],0,0,()))
    (cond (aF x==10) ((j6 (q+3)).gK (v,c,x,()) b (v.1,3,511,c.1,eZ (I J v.2.1 d),hV x,[],0,0,())) ((j6 (q+3)).gK (v,c,x,()) b (v.1,1,bM x,c.1,eZ (I J v.2.1 d),[],[],0,0,()))))
   (cond (aF x==1) ((j6 (q+3)).gK (v,c,x,()) b (v.1,2,cJ .or .i64 (bM x) (cJ .and .i64 (eL (I J v.2.1 d)) 1024),c.1,c.2.1,[],[],0,0,()))
    (cond (aF x==10) ((j6 (q+3)).gK (v,c,x,()) b (v.1,3,511,c.1,c.2.1,hV x,[],0,0,())) ((j6 (q+3)).gK (v,c,x,()) b (v.1,1,bM x,c.1,c.2.1,[],[],0,0,())))))
  (cond (aF x==1) ((jb (q+3)).xG v x (0,([]:List J.D),()) (0,([]:aO),()) b (I J v.2.1 d) (v.1,2,bM x,c.1,c.2.1,[],[],0,0,())) ((jb (q+3)).xG v x (0,([]:List J.D),()) (0,([]:aO),()) b (I J v.2.1 d) (v.1,1,bM x,c.1,c.2.1,[],[],0,0,()))) (Made v c x)
 have ao:∀(n:aQ),(jb (q+3)).xG v x (0,([]:List J.D),()) (0,([]:aO),()) b (I J v.2.1 d) n=cond (aF x==10) ((jb (q+2)).gj v (0,([]:List J.D),()) (0,([]:aO),()) b (I J v.2.1 d) (n.1,3,511,n.2.2.2.1,n.2.2.2.2.1,hV x,n.2.2.2.2.2.2.1,n.2.2.2.2.2.2.2.1,n.2.2.2.2.2.2.2.2.1,())) ((jb (q+2)).gj v (0,([]:List J.D),()) (0,([]:aO),()) b (I J v.2.1 d) n):=fun n=>rfl
 have ar:∀(n:aQ),(jb (q+2)).gj v (0,([]:List J.D),()) (0,([]:aO),()) b (I J v.2.1 d) n=cond (cJ .and .i64 (eL (I J v.2.1 d)) 1024 != 0)
   (cond (n.2.1==2) ((jb (q+1)).ja v (0,([]:List J.D),()) (0,([]:aO),()) b (n.1,n.2.1,cJ .or .i64 n.2.2.1 1024,n.2.2.2.1,eZ (I J v.2.1 d),n.2.2.2.2.2.1,n.2.2.2.2.2.2.1,n.2.2.2.2.2.2.2.1,n.2.2.2.2.2.2.2.2.1,()))
    ((jb (q+1)).ja v (0,([]:List J.D),()) (0,([]:aO),()) b (n.1,n.2.1,n.2.2.1,n.2.2.2.1,eZ (I J v.2.1 d),n.2.2.2.2.2.1,n.2.2.2.2.2.2.1,n.2.2.2.2.2.2.2.1,n.2.2.2.2.2.2.2.2.1,()))) ((jb (q+1)).ja v (0,([]:List J.D),()) (0,([]:aO),()) b n):=fun n=>rfl
 simp only[ao,ar];have g:=ah (q+2) q;unfold ga FZ tC yq at g;by_cases p:aF x=1
 ·have c4:aF x≠10:=by omega
  have M:=an c4;rw[cf p,bO c4];rw[bg p,bd c4,bd c4]at g;simp only[au,ay];rcases C with j|j
  ·rw[j]at g⊢;rw[bd (by simp),bd (by simp)]at g;rw[agJ M.1 M.2];exact g
  ·rw[j]at g⊢;rw[bg ⟨p,by decide⟩,bg (by decide)]at g;exact g
 ·rw[bO p];rw[bd p]at g;by_cases c4:aF x=10
  ·rw[cf c4];rw[bg c4,bg c4,bg c4]at g;simp only[au,ay];rcases C with j|j
   ·rw[j]at g⊢;rw[bd (by simp)]at g;exact g
   ·rw[j]at g⊢;rw[bg (by decide)]at g;exact g
  ·rw[bO c4];rw[bd c4,bd c4,bd c4,bd (fun h=>p h.1)]at g;simp only[ay];rcases C with j|j
   ·rw[j]at g⊢;rw[bd (by simp)]at g;exact g
   ·rw[j]at g⊢;rw[bg (by decide)]at g;exact g
def jQ(v:ad.D)(i:Nat)(s:aO):ad.D:=(v.1,goN (v.2.1.set i (b4 (I J v.2.1 i) (b_ (aq (I J v.2.1 i)) s))) (dC (aq (I J v.2.1 i)) s),())
structure yt(v:ad.D)(c:aM.D)(x:aL.D)(w:ad.D):Prop where
 out:∃r i j,gM v.2.1 r/\bH r=0/\nameOf r≠[]/\bp v.2.1 (cc r)=some i/\kindOf (I J v.2.1 i)=2/\dC (aq (I J v.2.1 i)) (nameOf r)=br r/\bp v.2.1 (br r)=some j/\aq (I J v.2.1 j)=[] ∧
  (aF x=2->kindOf (I J v.2.1 j)=2)/\(aF x=8->kindOf (I J v.2.1 j)≠2)/\w=jQ v i (nameOf r)
def agR(m:Nat)(a b d):(mw (m+1)).a_ a b d=Jc (mw m) a b d:=rfl
def agS(m:Nat)(a b d):(mw (m+1)).dE a b d=Jd (mw m) a b d:=rfl
def agT(m:Nat)(a b d):(mw (m+1)).fk a b d=Je (mw m) a b d:=rfl
def agU(m:Nat)(a b d):(mw (m+1)).cn a b d=Jf (mw m) a b d:=rfl
def agV(m:Nat)(a b d e f g h):(oJ (m+1)).dE a b d e f g h=KY (oJ m) a b d e f g h:=rfl
def agW(m:Nat)(a b d e f g h):(oJ (m+1)).fk a b d e f g h=KZ (oJ m) a b d e f g h:=rfl
def agX(m:Nat)(a b d e f g):(oJ (m+1)).cn a b d e f g=K0 (oJ m) a b d e f g:=rfl
def agY(v:ad.D)(c:aM.D)(x:aL.D)(hv:bY v)(hc:dB c=true)(A:hd x)(hk:aF x=2\/aF x=8):bl v c x (Bl ((v,c,x,()),())) (xJ (v,c,x,())) (yt v c x):=by
 have l:=hv.iu;have hl:v.2.1.length<=1048576:=l.len;have ai:=A.path;obtain⟨q,B,U⟩:=iK 4;show bl v c x (Bk (mw aC) (v,c,x,())) (Dz (oJ aC) v c x) _;unfold Bk Dz;obtain⟨r,⟨hr,_⟩,C,D⟩:=yh v c x (eP x) false l hc (by omega);show bl v c x (Option.bind (j5 ((v,c,x,()),eP x,false,())) _) (Option.bind (eI (v,c,eP x,false,())) _) _;rw[C,D];simp only[ag];show bl v c x (cond (bH r != 0) (some (bH r,(v,c,x,()),())) _) (cond (bH r != 0) (some (v,(bH r,[],()),())) _) _;by_cases g:bH r=0
 case neg=>rw[cY g];exact bl.no (bH r) g rfl rfl (gM.rg ‹_›)
 rw[dA g];simp only[ay,m7];obtain⟨j,m⟩:=hr.there g;have E:=b3 m;show bl v c x (Option.bind (fo (v,br r,())) _) (Option.bind (eX (v,br r,())) _) _;rw[lP v _ hl m,iO v _ hl m];simp only[ag,gU,cR,au];rw[B,agR];unfold Jc;rw[agS,agV];show bl v c x (cond (aF x==2) (cond (bm (nameOf r) []) _ _) _) (cond (aF x==2) (cond (bm (nameOf r) []) _ _) _) _;have F:nameOf r=[]->kindOf (I J v.2.1 j)=2:=by intro h;obtain⟨eA,h1,e⟩:=hr.bare g h;rw[m]at h1;rw[aS h1];exact e
 by_cases n:aF x=2/\nameOf r=[]
 ·rw[cf n.1,lS.2 n.2];exact bl.no 16 (by decide) rfl rfl
 have u:∀{α:Type} (a b:α),cond (aF x==2) (cond (bm (nameOf r) []) a b) b=b:=by
  intro α a b;by_cases e:aF x=2
  ·rw[cf e];have:bm (nameOf r) []=false:=by rw[<-jG,lS];exact fun h=>n ⟨e,h⟩
   rw[this];rfl
  ·rw[bO e];rfl
 rw[u,u];unfold Jd KY;rw[agT,agW];show bl v c x (cond (aF x==2) (cond (kindOf (I J v.2.1 j) != 2) _ _) _) (cond (aF x==2) (cond (kindOf (I J v.2.1 j) != 2) _ _) _) _;by_cases o:aF x=2/\kindOf (I J v.2.1 j)≠2
 ·rw[cf o.1,cY o.2];exact bl.no 20 (by decide) rfl rfl
 have w:∀{α:Type} (a b:α),cond (aF x==2) (cond (kindOf (I J v.2.1 j) != 2) a b) b=b:=by
  intro α a b;by_cases e:aF x=2
  ·rw[cf e,dA (mX fun h=>o ⟨e,h⟩)];rfl
  ·rw[bO e];rfl
 rw[w,w];unfold Je KZ;rw[agU,agX];show bl v c x (cond (aF x==8) (cond (kindOf (I J v.2.1 j)==2) _ _) _) (cond (aF x==8) (cond (kindOf (I J v.2.1 j)==2) _ _) _) _;by_cases k:aF x=8/\kindOf (I J v.2.1 j)=2
 ·rw[cf k.1,cf k.2];exact bl.no 21 (by decide) rfl rfl
 have y:∀{α:Type} (a b:α),cond (aF x==8) (cond (kindOf (I J v.2.1 j)==2) a b) b=b:=by
  intro α a b;by_cases e:aF x=8
  ·rw[cf e,bO (fun h=>k ⟨e,h⟩)];rfl
  ·rw[bO e];rfl
 rw[y,y]
 have z:nameOf r≠[]:=by
  intro h;rcases hk with e|G
  ·exact n ⟨e,h⟩
  ·exact k ⟨G,F h⟩
 obtain⟨V,W,d,aa,H,K⟩:=hr.named g z;have L:=b3 aa;have M:=hv.ino d L.1;unfold Jf K0;show bl v c x (Option.bind (lB ((v,c,x,()),cc r,())) _) (Option.bind (eX (v,cc r,())) _) _;rw[yr v c x _ hl hc aa,iO v _ hl aa];simp only[ag];rw[nH c _ 3 hc];simp only[ag]
 cases hm:may c (I J v.2.1 d) 3 with
 |false=>exact bl.no 13 (by decide) rfl rfl
 |true=>
 simp only[bJ,ay];show bl v c x (Option.bind (fo (v,cc r,())) _) _ _;rw[lP v _ hl aa];simp only[ag,gU,cR,au];show bl v c x (Option.bind (qc (c,I J v.2.1 d,I J v.2.1 j,())) _) _ _;rw[Nt c _ _ hc,Ns c _ _ hc];simp only[ag]
 cases ht:nI c (I J v.2.1 d) (I J v.2.1 j)with
 |false=>exact bl.no 1 (by decide) rfl rfl
 |true=>
 simp only[bJ,ay];show bl v c x (cond (aF x==2) (cond (decide (((aq (I J v.2.1 j)).length:Int)>0)) _ _) _) (cond (decide (((aq (I J v.2.1 j)).length:Int)>0)) _ _) _;rw[tw v hl (fun i N=>cw (fF N) l.c_)];simp only[ag]
 show bl v c x (cond (aF x==2) (cond (decide (((aq (I J v.2.1 j)).length:Int)>0)) (some (39,(v,c,x,()),())) (Option.bind (mv ((v,c,x,()),cc r,nameOf r,true,())) fun v4=>some (0,v4.1,()))) (Option.bind (mv ((v,c,x,()),cc r,nameOf r,true,())) fun v4=>some (0,v4.1,())))
  (cond (decide (((aq (I J v.2.1 j)).length:Int)>0)) (some (v,(39,[],()),())) (Option.bind (mE (v,cc r,nameOf r,())) fun P=>some (P.1,(0,[],()),()))) _
 rw[NH v c x _ _ true hl l.c_ aa,NL v _ _ hl l.c_ aa M.sorted];simp only[ag,au];by_cases p:aq (I J v.2.1 j)=[]
 ·rw[p,show decide ((([]:List ar.D).length:Int)>0)=false from rfl];have:yt v c x (jQ v d (nameOf r)):=⟨r,d,j,hr,g,z,aa,H,K,m,p,fun h=>mX fun s=>o ⟨h,s⟩,fun h s=>k ⟨h,s⟩,rfl⟩;refine bl.yes 0 (jQ v d (nameOf r)) (fun _=>this) ?_ rfl;cases aF x==2<;>rfl
 ·have X:0<(aq (I J v.2.1 j)).length:=List.length_pos_iff.2 p;have Q:kindOf (I J v.2.1 j)=2:=mX fun h=>p ((hv.ino j E.1).plain h).2.2
  have T:aF x=2:=by
   rcases hk with h|h
   ·exact h
   ·exact absurd ⟨h,Q⟩ k
  rw[bR (by omega),cf T];exact bl.no 39 (by decide) rfl rfl
def tD(v:ad.D)(i:Nat)(s:aO)(id:Int):ad.D:=(v.1,v.2.1.set i (b4 (I J v.2.1 i) (ins (aq (I J v.2.1 i)) s id)),())
structure F2(v:ad.D)(c:aM.D)(x:aL.D)(w:ad.D):Prop where
 out:∃r t i j,gM v.2.1 r/\bH r=0/\bp v.2.1 (br r)=some j/\kindOf (I J v.2.1 j)≠2/\gM v.2.1 t/\bH t=2/\nameOf t≠[]/\bp v.2.1 (cc t)=some i/\kindOf (I J v.2.1 i)=2 ∧
  (aq (I J v.2.1 i)).length<12/\w=tD v i (nameOf t) (br r)/\eD w.2.1=0/\eI (v,c,eP x,false,())=some (r,())/\eI (v,c,hV x,false,())=some (t,())
def agZ{v:ad.D}(hv:bY v){i:Nat}(a:i<v.2.1.length)(hk:kindOf (I J v.2.1 i)=2)(s:aO){id:Int}(b:(bp v.2.1 id).isSome=true):av 1000 (tD v i s id).2.1:=by
 have:=hv.st.set (k:=1) (i:=i) (y:=b4 (I J v.2.1 i) (ins (aq (I J v.2.1 i)) s id)) a rfl (by
  intro e he;rcases pe.1 he with he|rfl
  ·exact hv.hU i a e he
  ·exact b) (fun h=>absurd hk h) (by show(ins (aq (I J v.2.1 i)) s id).length<=_;rw[vB];omega) (n0 _ _)
 exact this.mono (by omega)
def ag0(v:ad.D)(c:aM.D)(x:aL.D)(hv:bY v)(hc:dB c=true)(p:hd x):bl v c x (Bm ((v,c,x,()),())) (DA (v,c,x,())) (F2 v c x):=by
 have b:=hv.iu;have hl:v.2.1.length<=1048576:=b.len;have ai:=p.path;have P:=p.nM;show bl v c x (Jh (v,c,x,())) (K2 v c x) _;unfold Jh K2;obtain⟨r,⟨hr,_⟩,A,q⟩:=yh v c x (eP x) false b hc (by omega);show bl v c x (Option.bind (j5 ((v,c,x,()),eP x,false,())) _) (Option.bind (eI (v,c,eP x,false,())) _) _;rw[A,q];simp only[ag];show bl v c x (cond (bH r != 0) (some (bH r,(v,c,x,()),())) _) (cond (bH r != 0) (some (v,(bH r,[],()),())) _) _;by_cases g:bH r=0
 case neg=>rw[cY g];exact bl.no (bH r) g rfl rfl (gM.rg ‹_›)
 rw[dA g];simp only[ay];obtain⟨j,k⟩:=hr.there g;have Q:=b3 k;show bl v c x (Option.bind (w4 (v,br r,())) _) (Option.bind (u_ (v,br r,())) _) _;rw[Wj v _ hl,Wi v _ hl];simp only[ag]
 cases n:mP v.2.1 (br r)with
 |true=>exact bl.no 1 (by decide) rfl rfl
 |false=>
 simp only[ay];have B:kindOf (I J v.2.1 j)≠2:=by unfold mP at n;rw[k]at n;exact beq_eq_false_iff_ne.1 n
 obtain⟨t,a,code,C,D,E,F⟩:=WL v c x (hV x) b hc (by omega);show bl v c x (Option.bind (sd ((v,c,x,()),hV x,())) _) (Option.bind (sX (v,c,hV x,())) _) _;rw[C,D];simp only[ag];by_cases l:code=0
 case neg=>rw[cY l];exact bl.no code l rfl rfl E
 obtain⟨rfl,ht,s,u,G⟩:=F l;rw[dA l];simp only[ay];obtain⟨T,U,d,aa,o,H⟩:=ht.new s u;have m:=b3 aa;show bl v c x (Option.bind (lB ((v,c,x,()),cc a,())) _) (Option.bind (eX (v,cc a,())) _) _;rw[yr v c x _ hl hc aa,iO v _ hl aa];simp only[ag];rw[nH c _ 3 hc];simp only[ag]
 cases hm:may c (I J v.2.1 d) 3 with
 |false=>exact bl.no 13 (by decide) rfl rfl
 |true=>
 simp only[bJ,ay];show bl v c x (Option.bind (fo (v,cc a,())) _) _ _;rw[lP v _ hl aa];simp only[ag,gU,cR,au];have K:=hv.ino d m.1;have V:=(K.dir o).2.2.2;show bl v c x (cond (((aq (I J v.2.1 d)).length:Int)==12) _ _) (cond (decide (((aq (I J v.2.1 d)).length:Int)>=12)) _ _) _;by_cases L:(aq (I J v.2.1 d)).length=12
 ·rw[show(((aq (I J v.2.1 d)).length:Int)==12)=true by rw[L];rfl,bR (by omega)];exact bl.no 28 (by decide) rfl rfl
 rw[show(((aq (I J v.2.1 d)).length:Int)==12)=false by rw[jD];omega,bW (show ¬((aq (I J v.2.1 d)).length:Int)>=12 by omega)];simp only[ay];rw[tw v hl (fun i M=>cw (fF M) b.c_)];simp only[ag];have w:=cw (fF m.1) b.c_;show bl v c x (Option.bind (qb ((v,c,x,()),cc a,nameOf a,br r,())) _) (Option.bind (qo (v,cc a,nameOf a,br r,())) _) _;rw[NG v c x _ _ _ hl aa w,NI v _ _ _ hl aa w (yn H fun e he=>hv.yp m.1 he)];simp only[ag];show bl v c x (Option.bind (lC ((tD v d (nameOf a) (br r),c,x,()),())) fun N=>some (N.1,(tD v d (nameOf a) (br r),c,x,()),())) (Option.bind (oG (v,tD v d (nameOf a) (br r),())) fun y=>some (y.1,y.2.1,())) _;have z:=agZ hv m.1 o (nameOf a) (id:=br r) (by rw[k];rfl);rw[yk _ c x z (by omega),yl v _ z (by omega)];exact bl.yes _ _ (fun h=>⟨r,a,d,j,hr,g,k,B,ht,s,u,aa,o,by omega,rfl,h,q,G⟩) rfl rfl
def lU(l:List aQ):Nat->Int->Int->Bool
 |0,_,_=>false
 |k+1,id,top=>cond (id==top) true (cond (id==1) false (lU l k (jP l id) top))
def ag1(v:ad.D)(id top:Int)(hl:v.2.1.length<=1048576)(hn:dm v.2.1<=1048576):xK (v,id,top,())=some (lU v.2.1 (v.2.1.length+1) id top,()):=by
 show DC (s6 aC) v id top=_;unfold DC
 have key:∀(r k m:Nat) (id:Int),k+r=v.2.1.length+1->r<m->s6 m id top (k:Int) v=some (lU v.2.1 r id top,()):=by
  intro r
  induction r with
  |zero=>intro k m id hk hm;obtain⟨m,rfl,_⟩:=fuel hm;simp only[s6,DD];rw[bW (by omega)];rfl
  |succ r a=>intro k m id hk hm;obtain⟨m,rfl,b⟩:=fuel hm;simp only[s6,DD];rw[bR (show(k:Int)<=(v.2.1.length:Int) by omega),Wl v id hl hn,c0 k (by omega)];simp only[au,ag];rw[a (k+1) m _ (by omega) (by omega),lU];cases id==top<;>cases id==1<;>rfl
 exact key (v.2.1.length+1) 0 aC id (by omega) (hR (by omega))
def NM{α:Type}{f:α->Nat}:∀{l:List α},(∀x,x∈l->f x=0)->(l.map f).sum=0
 | [],_=>rfl
 |x::l,h=>by simp only[dh,eM];rw[h x gT,NM fun a b=>h a (gS _ b)]
def up(l:List aQ):Nat->Int->Int
 |0,d=>d
 |k+1,d=>up l k (jP l d)
def NN{α:Type}(f:α->Nat):∀(l:List α) (i j:Nat) (a:i<l.length) (b:j<l.length),i<j->f l[i]+f l[j]<=(l.map f).sum
 | [],_,_,a,_,_=>by simp at a
 |x::l,i,j+1,a,b,d=>by
  cases i with
  |zero=>simp only[List.getElem_cons_zero,List.getElem_cons_succ,dh,eM];have:=FF (f:=f) (List.getElem_mem (l:=l) (by simpa using b:j<l.length));omega
  |succ i=>simp only[List.getElem_cons_succ,dh,eM];have:=NN f l i j (by simpa using a) (by simpa using b) (by omega);omega
def NO{N:List ar.D}{id:Int}:nJ N id=true↔0<dk N id:=by
 constructor
 ·intro h;obtain⟨j,h1,a,_⟩:=FL h;unfold j_ at a;exact List.length_pos_of_mem (List.mem_filter.2 ⟨cI h1,a⟩)
 ·intro h;obtain⟨d,aa⟩:=List.exists_mem_of_length_pos h;obtain⟨h1,a⟩:=List.mem_filter.1 aa;obtain⟨i,b,he⟩:=eC h1
  cases hb:nJ N id with
  |true=>rfl
  |false=>have:=Nw hb i b;unfold j_ at this;rw[he,a]at this;cases this
def F3{l:List aQ}(aa:g' l){b d:Int}(h1:ch l d=1)(h:E l b d):jP l d=b:=by
 obtain⟨i,e,n,he,rfl⟩:=h;obtain⟨a,o⟩:=b3 n;have k:0<dk (aq (I J l i)) e.2.1:=List.length_pos_of_mem (List.mem_filter.2 ⟨he,by simp⟩);unfold jP
 cases ai:FK l e.2.1 with
 |none=>have:=kv.1 ai i a;rw[NO.2 k]at this;cases this
 |some j=>
  obtain⟨g,p,_⟩:=gY.1 ai;have m:=NO.1 p
  have:j=i:=by
   refine mX fun q=>?_
   rcases Nat.lt_or_gt_of_ne q with h|h
   ·have:=NN (fun x=>dk (aq x) e.2.1) l j i g a h;rw[cC g]at m;rw[cC a]at k;unfold ch at h1;have r:dk (aq l[j]) e.2.1+dk (aq l[i]) e.2.1<=(l.map fun x=>dk (aq x) e.2.1).sum:=this;omega
   ·have:=NN (fun x=>dk (aq x) e.2.1) l i j a g h;rw[cC g]at m;rw[cC a]at k;unfold ch at h1;have r:dk (aq l[i]) e.2.1+dk (aq l[j]) e.2.1<=(l.map fun x=>dk (aq x) e.2.1).sum:=this;omega
  subst this;exact o
def bY.NP{v:ad.D}(h:bY v){a:Int}:¬dI v.2.1 a 1:=by
 intro hb
 have e:∀b,¬E v.2.1 b 1:=by
  rintro b ⟨i,d,g,aa,he⟩
  exact((h.ino i (b3 g).1).names d aa).2.1 he
 cases hb with
 |single h=>exact e _ h
 |tail _ h=>exact e _ h
def bY.WZ{v:ad.D}(h:bY v){b d:Int}(he:E v.2.1 b d):d≠1:=by
 rintro rfl
 exact h.NP (.single he)
def bY.NQ{v:ad.D}(h:bY v){d:Int}(aa:kx v.2.1 d)(h1:d≠1):ch v.2.1 d=1:=by
 obtain⟨i,e,hk⟩:=aa;obtain⟨g,b⟩:=b3 e
 have:=h.once i (by
  rcases l_ i with a|a
  ·subst a;exact absurd ((show(I J v.2.1 0).1=1 from h.root.1).symm.trans b).symm h1
  ·exact a) g hk
 rwa[b]at this
def bY.ag2{v:ad.D}(h:bY v){b d:Int}(he:E v.2.1 b d):kx v.2.1 b:=by obtain⟨i,e,a,hm,_⟩:=he;refine⟨i,a,mX fun hk=>?_⟩;rw[((h.ino i (b3 a).1).plain hk).2.2]at hm;simp at hm
def bY.ag3{v:ad.D}(h:bY v){a d:Int}(aa:kx v.2.1 d)(h1:d≠1):dI v.2.1 a d↔a=jP v.2.1 d\/dI v.2.1 a (jP v.2.1 d):=by
 have e:=h.NQ aa h1;constructor
 ·intro hb
  cases hb with
  |single he=>exact .inl (F3 h.hT e he).symm
  |tail hb he=>rw[F3 h.hT e he];exact .inr hb
 ·intro hb
  have g:E v.2.1 (jP v.2.1 d) d:=by
   cases ai:FK v.2.1 d with
   |none=>
    exfalso;have l:=kv.1 ai
    have:ch v.2.1 d=0:=by
     unfold ch;refine NM fun x m=>?_
     obtain⟨i,b,n⟩:=eC m;have:=l i b;rw[n]at this;refine mX fun hc=>?_
     rw[NO.2 (by omega)]at this;cases this
    omega
   |some i=>obtain⟨b,o,_⟩:=gY.1 ai;obtain⟨j,p,k,_⟩:=FL o;unfold jP;rw[ai];exact⟨i,I ar (aq (I J v.2.1 i)) j,h.hT i b,cI p,by unfold j_ at k;simpa using k⟩
  rcases hb with rfl|hb
  ·exact .single g
  ·exact .tail hb g
def ag4{v:ad.D}(h:bY v)(top:Int):∀(n k:Nat) (d:Int),kx v.2.1 d->up v.2.1 n d=1->n<k->(lU v.2.1 k d top=true↔d=top\/dI v.2.1 top d):=by
 intro n
 induction n with
 |zero=>
  intro k d aa a hk;obtain⟨k,rfl,_⟩:=fuel hk;have a:d=1:=a;subst a;rw[lU];by_cases h1:(1:Int)=top
  ·rw[cf h1];exact⟨fun _=>.inl h1,fun _=>rfl⟩
  ·rw[bO h1];exact⟨fun h=>(by cases h),fun e=>e.elim (fun h=>absurd h h1) fun hb=>absurd hb h.NP⟩
 |succ n g=>
  intro k d aa a hk;obtain⟨k,rfl,i⟩:=fuel hk;rw[lU];by_cases h1:d=top
  ·rw[cf h1];exact⟨fun _=>.inl h1,fun _=>rfl⟩
  ·rw[bO h1];by_cases b:d=1
   ·rw[cf b];subst b;exact⟨fun h=>(by cases h),fun e=>e.elim (fun h=>absurd h h1) fun hb=>absurd hb h.NP⟩
   ·rw[bO b];simp only[ay];rw[g k (jP v.2.1 d) (NB h.iu _) a (by omega),h.ag3 aa b];constructor
    ·rintro (h|h)
     ·exact .inr (.inl h.symm)
     ·exact .inr (.inr h)
    ·rintro (h|h|h)
     ·exact absurd h h1
     ·exact .inl h.symm
     ·exact .inr h
def up_add(l:List aQ)(a:Nat):∀(b:Nat) (d:Int),up l (a+b) d=up l a (up l b d)
 |0,_=>rfl
 |b+1,d=>up_add l a b (jP l d)
def bY.ag5{v:ad.D}(h:bY v){d:Int}(aa:kx v.2.1 d):∃n,up v.2.1 n d=1:=by
 obtain⟨i,b,hk⟩:=aa;obtain⟨g,e⟩:=b3 b;rcases l_ i with a|a
 ·subst a;exact⟨0,e.symm.trans (show(I J v.2.1 0).1=1 from h.root.1)⟩
 ·have hb:=h.reach i a g;rw[e]at hb
  have key:∀d,dI v.2.1 1 d->kx v.2.1 d->∃n,up v.2.1 n d=1:=by
   intro d hb
   induction hb with
   |single he=>intro aa;have h1:=h.WZ he;exact⟨1,F3 h.hT (h.NQ aa h1) he⟩
   |tail hb he j=>intro aa;have h1:=h.WZ he;obtain⟨n,hn⟩:=j (h.ag2 he);exact⟨n+1,by show up v.2.1 n (jP v.2.1 _)=1;rw[F3 h.hT (h.NQ aa h1) he];exact hn⟩
  exact key d hb ⟨i,b,hk⟩
def least{P:Nat->Prop}:∀n,P n->∃m,P m/\∀k,k<m->¬P k:=by
 intro n
 induction n using Nat.strongRecOn with
 |_ n a=>
  intro hn;by_cases h:∃k,k<n/\P k
  ·obtain⟨k,hk,ai⟩:=h;exact a k hk ai
  ·exact⟨n,hn,fun k hk ai=>h ⟨k,hk,ai⟩⟩
def W0{v:ad.D}(h:bY v):∀(n:Nat) {d:Int},kx v.2.1 d->kx v.2.1 (up v.2.1 n d)
 |0,_,aa=>aa
 |n+1,d,_=>W0 h n (NB h.iu d)
def bY.ag6{v:ad.D}(h:bY v){d:Int}(aa:kx v.2.1 d):∃n,n<v.2.1.length/\up v.2.1 n d=1:=by
 obtain⟨e,g⟩:=h.ag5 aa;obtain⟨n,hn,k⟩:=least (P:=fun n=>up v.2.1 n d=1) e g;refine⟨n,?_,hn⟩;have l:((List.range (n+1)).map fun i=>up v.2.1 i d).Nodup:=by unfold List.Nodup;rw[List.pairwise_iff_getElem];intro i j m b r he;simp only[List.length_map,List.length_range]at m b;simp only[List.getElem_map,List.getElem_range]at he;refine k (n-(j-i)) (by omega) ?_;show up v.2.1 (n-(j-i)) d=1;rw[show n-(j-i)=(n-j)+i by omega,up_add,he,<-up_add,show n-j+j=n by omega];exact hn
 have o:((List.range (n+1)).map fun i=>up v.2.1 i d)⊆v.2.1.map fun x=>x.1:=by intro a p;obtain⟨i,_,rfl⟩:=List.mem_map.1 p;obtain⟨j,b,_⟩:=W0 h i aa;obtain⟨h1,q⟩:=b3 b;exact List.mem_map.2 ⟨_,cI h1,q⟩
 have:=l.length_le_of_subset o;simp only[List.length_map,List.length_range]at this;omega
def W4{v:ad.D}(h:bY v){d:Int}(aa:kx v.2.1 d)(top:Int):lU v.2.1 (v.2.1.length+1) d top=true↔d=top\/dI v.2.1 top d:=by obtain⟨n,h1,a⟩:=h.ag6 aa;exact ag4 h top n _ d aa a (by omega)
def vC{N:List ar.D}(t:aO)(h:im N):N.takeWhile (dN t)=N.filter (dN t)/\N.dropWhile (dN t)=N.filter fun d=> !dN t d:=by
 induction N with
 |nil=>exact⟨rfl,rfl⟩
 |cons d r b=>
  obtain⟨h1,g⟩:=List.pairwise_cons.1 h;obtain⟨i,i2⟩:=b g;rw[List.takeWhile_cons,List.dropWhile_cons,gr,gr]
  cases aa:dN t d with
  |true=>simp[i,i2]
  |false=>
   have a:∀e,e∈r->dN t e=false:=by
    intro e he;have j:=h1 e he
    cases hk:dN t e with
    |false=>rfl
    |true=>have:=yg j hk;unfold dN at aa;rw[aa]at this;cases this
   have k:r.filter (dN t)=[]:=List.filter_eq_nil_iff.2 fun e he=>by rw[a e he];simp
   have l:(r.filter fun d=> !dN t d)=r:=List.filter_eq_self.2 fun e he=>by rw[a e he];rfl
   simp[k,l]
def tE{N:List ar.D}(h:im N)(s:aO):im (b_ N s):=List.Pairwise.sublist List.filter_sublist h
def ag7{N:List ar.D}(h:im N){r t:aO}{id:Int}(a:t≠r):b_ (ins N t id) r=ins (b_ N r) t id:=by
 unfold ins;rw[(vC t h).1,(vC t h).2,(vC t (tE h r)).1,(vC t (tE h r)).2];unfold b_;rw[List.filter_append,List.filter_append,gr,List.filter_nil,List.filter_filter,List.filter_filter,List.filter_filter,List.filter_filter];have:bm t r=false:=by unfold bm;simpa using a
 rw[this];simp only[cR,if_true];congr 1
 ·congr 1;exact List.filter_congr fun d _=>Bool.and_comm _ _
 ·exact List.filter_congr fun d _=>Bool.and_comm _ _
def W5{N:List ar.D}(h:im N){t:aO}{id:Int}(hn:∀d,d∈N->d.1≠t):im (ins N t id):=by
 unfold ins;rw[(vC t h).1,(vC t h).2];unfold im;rw[dW,List.pairwise_append];refine⟨List.Pairwise.sublist List.filter_sublist h,?_,fun a i b hb=>?_⟩
 ·rw[pA,List.pairwise_cons];refine⟨fun b hb=>?_,List.Pairwise.sublist List.filter_sublist h⟩;obtain⟨h1,e⟩:=List.mem_filter.1 hb;unfold dN at e;rw[Nz (hn b h1)];exact e
 ·obtain⟨h1,e⟩:=List.mem_filter.1 i;have e:dr a.1 t=true:=e;rcases List.mem_append.1 hb with hb|hb
  ·simp only[kG]at hb;subst hb;exact e
  ·obtain⟨j,g⟩:=List.mem_filter.1 hb;unfold dN at g;refine yg e ?_;rw[Nz (hn b j)];exact g
def F4{N:List ar.D}(h:im N){d:ar.D}(aa:d∈N):dC N d.1=d.2.1:=by
 rw[look_eq]
 induction N with
 |nil=>simp at aa
 |cons e r a=>
  obtain⟨h1,b⟩:=List.pairwise_cons.1 h;rw[ym];rcases List.mem_cons.1 aa with rfl|aa
  ·have:bm d.1 d.1=true:=by unfold bm;simp
   rw[this];rfl
  ·have:bm e.1 d.1=false:=by unfold bm;simpa using FN (h1 d aa)
   rw[this];exact a b aa
def ag8{N:List ar.D}{s:aO}:∀d,d∈b_ N s->d.1≠s:=by intro d aa;have:=(List.mem_filter.1 aa).2;unfold bm at this;simpa using this
def qM{N:List ar.D}{s:aO}{d:ar.D}(h:d∈b_ N s):d∈N:=(List.mem_filter.1 h).1
def dx(l:List aQ)(ir:Nat)(ck:aO):List aQ:=l.set ir (b4 (I J l ir) (b_ (aq (I J l ir)) ck))
def gN(l:List aQ)(it:Nat)(dO:aO)(bx:Int):List aQ:=l.set it (b4 (I J l it) (ins (aq (I J l it)) dO bx))
def en(l:List aQ)(ir:Nat)(ck:aO)(it:Nat)(dO:aO)(bx:Int):List aQ:=gN (dx l ir ck) it dO bx
structure qN(l:List aQ)(rd iQ:Int)(ir it:Nat)(ck dO:aO)(bx:Int):Prop where
 st:av 1000 l
 hr:bp l rd=some ir
 ht:bp l iQ=some it
 qO:kindOf (I J l ir)=2
 NR:kindOf (I J l it)=2
 Ic:im (aq (I J l ir))
 ag9:im (aq (I J l it))
 look:dC (aq (I J l ir)) ck=bx
 W6:bx≠0
 ex:(bp l bx).isSome=true
 no:∀d,d∈aq (I J l it)->d.1≠dO
 ne:ir=it->ck≠dO
def qP(x:aQ)(N:List ar.D):(b4 x N).1=x.1:=rfl
def yu{l:List aQ}{i:Nat}(N:List ar.D)(a:i<l.length)(id:Int):bp (l.set i (b4 (I J l i) N)) id=bp l id:=FW a (qP _ N) id
def NS{l:List aQ}{ir:Nat}{ck:aO}(a:ir<l.length)(id:Int):bp (dx l ir ck) id=bp l id:=yu _ a id
def W7{l:List aQ}{it:Nat}{dO:aO}{bx:Int}(a:it<l.length)(id:Int):bp (gN l it dO bx) id=bp l id:=yu _ a id
def ag_{l:List aQ}{rd iQ:Int}{ir it:Nat}{ck dO:aO}{bx:Int}(h:qN l rd iQ ir it ck dO bx):dx (gN l it dO bx) ir ck=en l ir ck it dO bx:=by
 have hr:=(b3 h.hr).1;have ht:=(b3 h.ht).1;unfold en dx gN;rw[iq ht,iq hr];by_cases he:it=ir
 ·subst he;rw[bg rfl,bg rfl,dL,dL,jA,jA,ag7 h.Ic (fun e=>h.ne rfl e.symm)];rfl
 ·rw[bd he,bd (fun e=>he e.symm),List.set_comm _ _ he]
def W8{l:List aQ}{rd iQ:Int}{ir it:Nat}{ck dO:aO}{bx:Int}(h:qN l rd iQ ir it ck dO bx):av 1001 (dx l ir ck)/\av 1003 (en l ir ck it dO bx):=by
 have hr:=(b3 h.hr).1;have ht:=(b3 h.ht).1;have h1:av 1001 (dx l ir ck):=h.st.set (k:=1) hr rfl (fun d aa=>h.st.hU ir hr d (qM aa)) (fun hk=>absurd h.qO hk) (cw (tA _ _) (by omega)) (n0 _ _)
 have a:kindOf (I J (dx l ir ck) it)=2/\(I J (dx l ir ck) it).1=iQ:=by
  unfold dx;rw[iq hr];split
  ·rename_i he;exact⟨h.qO,by show(I J l ir).1=iQ;rw[he];exact(b3 h.ht).2⟩
  ·exact⟨h.NR,(b3 h.ht).2⟩
 have hex:∀id,(bp (dx l ir ck) id).isSome=(bp l id).isSome:=fun id=>by rw[NS hr]
 refine⟨h1,(h1.set (k:=1) (i:=it) (y:=b4 (I J (dx l ir ck) it) (ins (aq (I J (dx l ir ck) it)) dO bx)) (by unfold dx;rw[bL];exact ht) rfl (fun d aa=>?_) (fun hk=>absurd a.1 hk) (by rw[jA,vB];omega) (n0 _ _)).mono (by omega)⟩;rcases pe.1 aa with aa|rfl
 ·exact h1.hU it (by unfold dx;rw[bL];exact ht) d aa
 ·rw[hex];exact h.ex
def ag'(m:Nat)(a b d):(ij (m+1)).mx a b d=Jm (ij m) a b d:=rfl
def aha(m:Nat)(a b d e):(ij (m+1)).ou a b d e=Jl (ij m) a b d e:=rfl
def ahb(m:Nat)(a b d e):(ij (m+1)).c4 a b d e=Jk (ij m) a b d e:=rfl
def ahc(m:Nat)(a b d):(ij (m+1)).dE a b d=Jj (ij m) a b d:=rfl
def ahd(m:Nat)(a b d e f g):(fX (m+1)).k0 a b d e f g=K7 (fX m) a b d e f g:=rfl
def ahe(m:Nat)(a b d e f g h i):(fX (m+1)).K3 a b d e f g h i=K8 (fX m) a b d e f g h i:=rfl
def ahf(m:Nat)(a b d e f g h i):(fX (m+1)).ns a b d e f g h i=K6 (fX m) a b d e f g h i:=rfl
def ahg(m:Nat)(a b d e f g h i):(fX (m+1)).gj a b d e f g h i=K5 (fX m) a b d e f g h i:=rfl
def ahh(m:Nat)(a b d e f g):(fX (m+1)).dE a b d e f g=K4 (fX m) a b d e f g:=rfl
def W9{n:Int}{l:List aQ}(c:aM.D)(x:aL.D)(r t:aV.D){ir it:Nat}(h:qN l (cc r) (cc t) ir it (nameOf r) (nameOf t) (br r))(m:Nat):
  (ij (m+1)).mx ((n,l,()),c,x,()) r t=some (eD (en l ir (nameOf r) it (nameOf t) (br r)),((n,en l ir (nameOf r) it (nameOf t) (br r),()),c,x,()),()):=by
 have hr:=(b3 h.hr).1;have ht:=(b3 h.ht).1;obtain⟨a,b⟩:=W8 h;have e:=h.st.len;have g:=h.st.c_;have j:=a.len;have k:=a.c_;rw[ag'];unfold Jm;show Option.bind (mv (((n,l,()),c,x,()),cc r,nameOf r,false,())) _=_;rw[NH (n,l,()) c x _ _ false (show l.length<=1048576 by omega) (show dm l<=1048576 by omega) h.hr];simp only[ag,ay];show Option.bind (qb (((n,dx l ir (nameOf r),()),c,x,()),cc t,nameOf t,br r,())) _=_;have iB:bp (dx l ir (nameOf r)) (cc t)=some it:=by rw[NS hr];exact h.ht
 rw[NG (n,dx l ir (nameOf r),()) c x _ _ _ (show(dx l ir (nameOf r)).length<=1048576 by omega) iB (by
  have:=fF (l:=dx l ir (nameOf r)) (i:=it) (b3 iB).1;show(aq (I J (dx l ir (nameOf r)) it)).length<=_
  omega)]
 simp only[ag];show Option.bind (lC (((n,en l ir (nameOf r) it (nameOf t) (br r),()),c,x,()),())) (fun d=>some (d.1,((n,en l ir (nameOf r) it (nameOf t) (br r),()),c,x,()),()))=_;rw[yk (n,en l ir (nameOf r) it (nameOf t) (br r),()) c x b (by omega)];rfl
def W_{n:Int}{l:List aQ}(v:ad.D)(z:ad.D)(g:aA.D)(r t:aV.D){ir it:Nat}(h:qN l (cc r) (cc t) ir it (nameOf r) (nameOf t) (br r))(m:Nat):
  (fX (m+1)).k0 v z g r t (n,l,())=some (cond (eD (en l ir (nameOf r) it (nameOf t) (br r))==0) (n,en l ir (nameOf r) it (nameOf t) (br r),()) v,(eD (en l ir (nameOf r) it (nameOf t) (br r)),[],()),()):=by
 have hr:=(b3 h.hr).1;have ht:=(b3 h.ht).1;obtain⟨E,i⟩:=W8 h;have F:=h.st.len;have G:=h.st.c_;have H:=fF ht;rw[ahd];unfold K7;show Option.bind (qo ((n,l,()),cc t,nameOf t,br r,())) _=_;rw[NI (n,l,()) _ _ _ (show l.length<=1048576 by omega) h.ht (show(aq (I J l it)).length<=1048576 by omega) h.no];simp only[ag];show Option.bind (mE ((n,gN l it (nameOf t) (br r),()),cc r,nameOf r,())) _=_;have a:I J (gN l it (nameOf t) (br r)) ir=if it=ir then b4 (I J l it) (ins (aq (I J l it)) (nameOf t) (br r)) else I J l ir:=by unfold gN;rw[iq ht]
 have b:im (aq (I J (gN l it (nameOf t) (br r)) ir)):=by
  rw[a];split
  ·rw[jA];exact W5 h.ag9 h.no
  ·exact h.Ic
 have j:bp (gN l it (nameOf t) (br r)) (cc r)=some ir:=by rw[W7 ht];exact h.hr
 have k:(gN l it (nameOf t) (br r)).length<=1048576:=by unfold gN;rw[bL];omega
 have o:dm (gN l it (nameOf t) (br r))<=1048576:=by have:=FU (l:=l) (y:=b4 (I J l it) (ins (aq (I J l it)) (nameOf t) (br r))) ht;rw[jA,vB]at this;unfold gN;omega
 rw[NL (n,gN l it (nameOf t) (br r),()) _ _ k o j b]
 have p:dC (aq (I J (gN l it (nameOf t) (br r)) ir)) (nameOf r)=br r:=by
  obtain⟨e,he,q,u⟩:=pd (N:=aq (I J l ir)) (s:=nameOf r) (by rw[h.look];exact h.W6)
  have w:e∈aq (I J (gN l it (nameOf t) (br r)) ir):=by
   rw[a];split
   ·rename_i A;rw[jA,A];exact pe.2 (.inl he)
   ·exact he
  have:=F4 b w;rw[q,u,h.look]at this;exact this
 rw[show((n,gN l it (nameOf t) (br r),()):ad.D).2.1=gN l it (nameOf t) (br r) from rfl,p]
 have B:goN ((gN l it (nameOf t) (br r)).set ir (b4 (I J (gN l it (nameOf t) (br r)) ir) (b_ (aq (I J (gN l it (nameOf t) (br r)) ir)) (nameOf r)))) (br r)=en l ir (nameOf r) it (nameOf t) (br r):=by
  have hc:=ag_ h;unfold dx at hc;rw[hc];unfold goN;rw[bW];rfl;intro C;have d:it<(dx l ir (nameOf r)).length:=by unfold dx;rw[bL];exact ht
  have D:I J (en l ir (nameOf r) it (nameOf t) (br r)) it∈en l ir (nameOf r) it (nameOf t) (br r):=cI (by unfold en gN;rw[bL];exact d);refine NK C _ D (nameOf t,br r,()) ?_ rfl;unfold en gN;rw[iq d,bg rfl,jA];exact pe.2 (.inr rfl)
 rw[B];simp only[ag];show Option.bind (oG (v,(n,en l ir (nameOf r) it (nameOf t) (br r),()),())) _=_;rw[yl v (n,en l ir (nameOf r) it (nameOf t) (br r),()) i (by omega)];rfl
def NT(c:aM.D)(d n m:aQ):Int:=
 cond (!nI c d m) 1 (cond (kindOf n==2) (cond (kindOf m != 2) 20 (cond (decide (((aq m).length:Int)>0)) 39 0)) (cond (kindOf m==2) 21 0))
def ahi(v:ad.D)(c:aM.D)(x:aL.D)(n:aQ)(t:aV.D)(hl:v.2.1.length<=1048576)(hc:dB c=true){i j:Nat}(a:bp v.2.1 (cc t)=some i)(b:bp v.2.1 (br t)=some j):
  Bn ((v,c,x,()),n,t,())=some (NT c (I J v.2.1 i) n (I J v.2.1 j),()):=by
 show Ji (v,c,x,()) n t=_;unfold Ji NT;rw[m7];show Option.bind (fo (v,br t,())) _=_;rw[lP v _ hl b];simp only[ag,gU,cR,au];show Option.bind (fo (v,cc t,())) _=_;rw[lP v _ hl a];simp only[ag,gU,cR,au];show Option.bind (qc (c,I J v.2.1 i,I J v.2.1 j,())) _=_;rw[Nt c _ _ hc];simp only[ag];show cond (!nI c (I J v.2.1 i) (I J v.2.1 j)) _ (cond (kindOf n==2) (cond (!(kindOf (I J v.2.1 j)==2)) _ (cond (kindOf n==2) (cond (decide (((aq (I J v.2.1 j)).length:Int)>0)) _ (cond (!(kindOf n==2)) (cond (kindOf (I J v.2.1 j)==2) _ _) _)) _)) (cond (kindOf n==2) _ (cond (!(kindOf n==2)) (cond (kindOf (I J v.2.1 j)==2) _ _) _)))=_;unfold bne;cases nI c (I J v.2.1 i) (I J v.2.1 j)<;>cases kindOf n==2<;>cases kindOf (I J v.2.1 j)==2<;>cases decide (((aq (I J v.2.1 j)).length:Int)>0)<;>rfl
structure vD(v:ad.D)(c:aM.D)(x:aL.D)(w:ad.D):Prop where
 out:∃r t j,gM v.2.1 r/\bH r=0/\nameOf r≠[]/\bp v.2.1 (br r)=some j/\gM v.2.1 t/\nameOf t≠[]/\(bH t=0\/bH t=2)/\(eI (v,c,eP x,false,())=some (r,())/\eI (v,c,hV x,false,())=some (t,())) ∧
  (br t=br r/\w=v\/br t≠br r/\(kindOf (I J v.2.1 j)=2->cc t≠br r/\¬dI v.2.1 (br r) (cc t)) ∧
   ∃l ir it,qN l (cc r) (cc t) ir it (nameOf r) (nameOf t) (br r)/\w=(v.1,en l ir (nameOf r) it (nameOf t) (br r),())/\eD w.2.1=0 ∧
    ((br t=0/\l=v.2.1/\(cc r≠cc t->(aq (I J l it)).length<12)) ∨
     (∃i2 eA,bp v.2.1 (cc t)=some i2/\kindOf (I J v.2.1 i2)=2/\bp v.2.1 (br t)=some eA/\aq (I J v.2.1 eA)=[]/\dC (aq (I J v.2.1 i2)) (nameOf t)=br t/\(kindOf (I J v.2.1 j)=2↔kindOf (I J v.2.1 eA)=2)/\l=(jQ v i2 (nameOf t)).2.1)))
def Xa{v:ad.D}(hv:bY v){i2:Nat}(a:i2<v.2.1.length)(hk:kindOf (I J v.2.1 i2)=2)(s:aO):av 1000 (jQ v i2 s).2.1 ∧
  ∀id,id≠dC (aq (I J v.2.1 i2)) s->∀k,bp v.2.1 id=some k->∃k',bp (jQ v i2 s).2.1 id=some k'/\I J (jQ v i2 s).2.1 k'=if i2=k then b4 (I J v.2.1 i2) (b_ (aq (I J v.2.1 i2)) s) else I J v.2.1 k:=by
 have e:av 1000 (v.2.1.set i2 (b4 (I J v.2.1 i2) (b_ (aq (I J v.2.1 i2)) s))):=(hv.st.set (k:=0) (y:=b4 (I J v.2.1 i2) (b_ (aq (I J v.2.1 i2)) s)) a rfl (fun d aa=>hv.hU i2 a d (qM aa)) (fun h=>absurd hk h) (tA _ _) (bu _)).mono (by omega);refine⟨e.go _,fun id j k l=>?_⟩;obtain⟨q,r⟩:=b3 l;show ∃k',bp (goN (v.2.1.set i2 (b4 (I J v.2.1 i2) (b_ (aq (I J v.2.1 i2)) s))) (dC (aq (I J v.2.1 i2)) s)) id=some k'/\I J (goN (v.2.1.set i2 (b4 (I J v.2.1 i2) (b_ (aq (I J v.2.1 i2)) s))) (dC (aq (I J v.2.1 i2)) s)) k'=_
 have o:I J (v.2.1.set i2 (b4 (I J v.2.1 i2) (b_ (aq (I J v.2.1 i2)) s))) k=if i2=k then b4 (I J v.2.1 i2) (b_ (aq (I J v.2.1 i2)) s) else I J v.2.1 k:=iq a
 have g:bp (v.2.1.set i2 (b4 (I J v.2.1 i2) (b_ (aq (I J v.2.1 i2)) s))) id=some k:=by rw[yu _ a];exact l
 rw[<-o];generalize v.2.1.set i2 (b4 (I J v.2.1 i2) (b_ (aq (I J v.2.1 i2)) s))=i at e g;generalize dC (aq (I J v.2.1 i2)) s=gone at j;have b:=e.go gone;unfold goN at b⊢;by_cases m:ch i gone=0
 ·rw[bR m]at b⊢;simp only[au]at b⊢;obtain⟨h1,n⟩:=b3 g;have hm:I J i k∈i.filter fun y=> !(y.1==gone):=List.mem_filter.2 ⟨cI h1,by rw[n,eT,jD];exact j⟩
  obtain⟨k',p,he⟩:=eC hm;refine⟨k',?_,he⟩;have:=b.hT k' p;rwa[he,n]at this
 ·rw[bW m];exact⟨k,g,rfl⟩
def ahj(v:ad.D)(c:aM.D)(x:aL.D)(hv:bY v)(hc:dB c=true)(aD:hd x):bl v c x (Bp ((v,c,x,()),())) (DF (v,c,x,())) (vD v c x):=by
 have u:=hv.iu;have hl:v.2.1.length<=1048576:=u.len;have ai:=aD.path;have bi:=aD.nM;obtain⟨q,aT,bj⟩:=iK 6;show bl v c x (Bo (ij aC) (v,c,x,())) (DE (fX aC) v c x) _;unfold Bo DE;obtain⟨r,⟨hr,_⟩,aU,W⟩:=yh v c x (eP x) false u hc (by omega);show bl v c x (Option.bind (j5 ((v,c,x,()),eP x,false,())) _) (Option.bind (eI (v,c,eP x,false,())) _) _;rw[aU,W];simp only[ag];show bl v c x (cond (bH r != 0) (some (bH r,(v,c,x,()),())) _) (cond (bH r != 0) (some (v,(bH r,[],()),())) _) _;by_cases y:bH r=0
 case neg=>rw[cY y];exact bl.no (bH r) y rfl rfl (gM.rg ‹_›)
 rw[dA y];simp only[ay];obtain⟨t,⟨ht,_⟩,aV,X⟩:=yh v c x (hV x) false u hc (by omega);show bl v c x (Option.bind (j5 ((v,c,x,()),hV x,false,())) _) (Option.bind (eI (v,c,hV x,false,())) _) _;rw[aV,X];simp only[ag]
 show bl v c x (cond (bH t != 0) (cond (bH t != 2) (some (bH t,(v,c,x,()),())) (cond (bm (nameOf t) []) (some (bH t,(v,c,x,()),())) ((ij aC).dE (v,c,x,()) r t))) ((ij aC).dE (v,c,x,()) r t))
  (cond (bH t != 0) (cond (bH t != 2) (some (v,(bH t,[],()),())) (cond (bm (nameOf t) []) (some (v,(bH t,[],()),())) ((fX aC).dE v c (0,([]:List J.D),()) (0,([]:aO),()) r t))) ((fX aC).dE v c (0,([]:List J.D),()) (0,([]:aO),()) r t)) _
 by_cases z:bH t≠0/\(bH t≠2\/nameOf t=[])
 ·rw[cY z.1];by_cases k:bH t=2
  ·have ae:nameOf t=[]:=z.2.elim (fun h=>absurd k h) id;rw[dA k,lS.2 ae];exact bl.no (bH t) z.1 rfl rfl (gM.rg ‹_›)
  ·rw[cY k];exact bl.no (bH t) z.1 rfl rfl (gM.rg ‹_›)
 have af:bH t=0\/bH t=2:=by
  by_cases o:bH t=0
  ·exact .inl o
  ·exact .inr (mX fun h=>z ⟨o,.inl h⟩)
 have aE:∀{α:Type} (a b:α),cond (bH t != 0) (cond (bH t != 2) a (cond (bm (nameOf t) []) a b)) b=b:=by
  intro α a b;by_cases o:bH t=0
  ·rw[dA o];rfl
  ·rw[cY o];have k:bH t=2:=mX fun h=>z ⟨o,.inl h⟩
   rw[dA k];have ae:bm (nameOf t) []=false:=by rw[<-jG,lS];exact fun h=>z ⟨o,.inr h⟩
   rw[ae];rfl
 rw[aE,aE,aT,ahc,ahh];unfold Jj K4;show bl v c x (cond (bm (nameOf r) []) _ (cond (bm (nameOf t) []) _ _)) (cond (bm (nameOf r) []) _ (cond (bm (nameOf t) []) _ _)) _
 cases aF:bm (nameOf r) []with
 |true=>exact bl.no 16 (by decide) rfl rfl
 |false=>
 cases aG:bm (nameOf t) []with
 |true=>exact bl.no 16 (by decide) rfl rfl
 |false=>
 simp only[ay,m7];have Y:nameOf r≠[]:=fun h=>by rw[lS.2 h]at aF;cases aF
 have Q:nameOf t≠[]:=fun h=>by rw[lS.2 h]at aG;cases aG
 obtain⟨j,A⟩:=hr.there y;have aH:=b3 A;obtain⟨aI,bk,w,p,aJ,D⟩:=hr.named y Y;have aW:=b3 p
 obtain⟨g,l,B,T,aX⟩:∃d,bp v.2.1 (cc t)=some d/\kindOf (I J v.2.1 d)=2/\dC (aq (I J v.2.1 d)) (nameOf t)=br t/\(br t=0\/∃eA,bp v.2.1 (br t)=some eA):=by
  by_cases o:bH t=0
  ·obtain⟨ah,aY,d,aj,ak,al⟩:=ht.named o Q;exact⟨d,aj,ak,al,.inr (ht.there o)⟩
  ·have k:bH t=2:=mX fun h=>z ⟨o,.inl h⟩
   obtain⟨ah,aY,d,aj,ak,al⟩:=ht.new k Q;exact⟨d,aj,ak,by rw[al,ah],.inl ah⟩
 have an:=b3 l;show bl v c x (Option.bind (fo (v,br r,())) _) (Option.bind (eX (v,cc r,())) fun v1=>Option.bind (eX (v,cc t,())) fun m=>Option.bind (eX (v,br r,())) _) _;rw[lP v _ hl A,iO v _ hl p,iO v _ hl l,iO v _ hl A];simp only[ag,gU,cR,au];rw[ahb];unfold Jk;show bl v c x (Option.bind (lB ((v,c,x,()),cc r,())) fun v1=>cond (!v1.1) _ (Option.bind (lB ((v,c,x,()),cc t,())) _)) _ _;rw[yr v c x _ hl hc p,yr v c x _ hl hc l,nH c _ 3 hc,nH c _ 3 hc];simp only[ag]
 cases may c (I J v.2.1 w) 3 with
 |false=>exact bl.no 13 (by decide) rfl rfl
 |true=>
 simp only[bJ,ay]
 cases may c (I J v.2.1 g) 3 with
 |false=>exact bl.no 13 (by decide) rfl rfl
 |true=>
 simp only[bJ,ay];show bl v c x (Option.bind (fo (v,cc r,())) _) _ _;rw[lP v _ hl p];simp only[ag,gU,cR,au];show bl v c x (Option.bind (qc (c,I J v.2.1 w,I J v.2.1 j,())) _) _ _;rw[Nt c _ _ hc,Ns c _ _ hc];simp only[ag]
 cases nI c (I J v.2.1 w) (I J v.2.1 j)with
 |false=>exact bl.no 1 (by decide) rfl rfl
 |true=>
 simp only[bJ,ay];obtain⟨out,ao,aZ⟩:=Nk v hl u.c_ (br r);have a0:=ag1 v (cc t) (br r) hl u.c_
 have a1:∀(K:Option (Int×aN.D×Unit)),cond ((I J v.2.1 j).2.1==2) (cond (t.1==r.2.2.1) (some (22,(v,c,x,()),())) (Option.bind (rU (v,r.2.2.1,())) fun av=>Option.bind (p3 (av.1,t.1,())) fun v6=>cond v6.1 (some (22,(v,c,x,()),())) K)) K =
   cond (kindOf (I J v.2.1 j)==2&&lU v.2.1 (v.2.1.length+1) (cc t) (br r)) (some (22,(v,c,x,()),())) K:=by
  intro K;show cond (kindOf (I J v.2.1 j)==2) (cond (cc t==br r) (some (22,(v,c,x,()),())) (Option.bind (rU (v,br r,())) fun av=>Option.bind (p3 (av.1,cc t,())) fun v6=>cond v6.1 (some (22,(v,c,x,()),())) K)) K=_;cases kindOf (I J v.2.1 j)==2
  ·rfl
  ·simp only[au,gI];have H:=W4 hv (d:=cc t) ⟨g,l,B⟩ (br r);rw[aZ];simp only[ag]
   rw[contains_eq _ _ (by
    have:=ao.len;have:=u.c_
    omega)]
   simp only[ag];by_cases h1:cc t=br r
   ·rw[cf h1,H.2 (.inl h1)];rfl
   ·rw[bO h1];simp only[ay];by_cases hb:dI v.2.1 (br r) (cc t)
    ·rw[H.2 (.inr hb),bR ((ao.iff _).2 hb)]
    ·have:lU v.2.1 (v.2.1.length+1) (cc t) (br r)=false:=by
      rw[<-jG];exact fun h=>(H.1 h).elim h1 hb
     rw[this,bW (fun h=>hb ((ao.iff _).1 h))]
 have a2:∀(K:Option (ad.D×aA.D×Unit)),cond ((I J v.2.1 j).2.1==2) (Option.bind (xK (v,t.1,r.2.2.1,())) fun a3=>cond a3.1 (some (v,(22,[],()),())) K) K =
   cond (kindOf (I J v.2.1 j)==2&&lU v.2.1 (v.2.1.length+1) (cc t) (br r)) (some (v,(22,[],()),())) K:=by
  intro K;show cond (kindOf (I J v.2.1 j)==2) (Option.bind (xK (v,cc t,br r,())) _) K=_;rw[a0];cases kindOf (I J v.2.1 j)==2<;>rfl
 rw[lf];rw[a1,a2]
 cases U:kindOf (I J v.2.1 j)==2&&lU v.2.1 (v.2.1.length+1) (cc t) (br r)with
 |true=>exact bl.no 22 (by decide) rfl rfl
 |false=>
 simp only[ay];have aK:kindOf (I J v.2.1 j)=2->cc t≠br r/\¬dI v.2.1 (br r) (cc t):=by intro hk;rw[cf hk,gI]at U;have H:=W4 hv (d:=cc t) ⟨g,l,B⟩ (br r);exact⟨fun h=>(by rw[H.2 (.inl h)]at U;cases U),fun h=>(by rw[H.2 (.inr h)]at U;cases U)⟩
 rw[aha,ahg];unfold Jl K5;rw[tw v hl (fun i a4=>cw (fF a4) u.c_)];simp only[ag]
 show bl v c x (cond (br t==br r) (some (0,(v,c,x,()),())) (cond (!(br t==0)) (Option.bind (Bn ((v,c,x,()),I J v.2.1 j,t,())) fun v1=>cond (v1.1 != 0) (some (v1.1,(v,c,x,()),())) (Option.bind (mv ((v,c,x,()),cc t,nameOf t,true,())) fun m=>(ij (q+3)).mx m.1 r t))
   (cond (!(cc r==cc t)) (Option.bind (fo (v,cc t,())) fun Z=>cond (!List.isEmpty Z.1) (cond (((aq (I J Z.1 0)).length:Int)==12) (some (28,(v,c,x,()),())) ((ij (q+3)).mx (v,c,x,()) r t)) none) ((ij (q+3)).mx (v,c,x,()) r t))))
  (cond (decide (br t>0)) (cond (br t==br r) (some (v,(0,[],()),())) (Option.bind (eX (v,br t,())) fun m=>Option.bind (u9 (c,I J v.2.1 g,m.1,())) fun Z=>cond (!Z.1) (some (v,(1,[],()),())) (cond (kindOf (I J v.2.1 j)==2) (cond (kindOf m.1 != 2) (some (v,(20,[],()),())) ((fX (q+4)).ns v (0,([]:List J.D),()) (0,([]:aO),()) r t (I J v.2.1 j) v m.1)) ((fX (q+4)).ns v (0,([]:List J.D),()) (0,([]:aO),()) r t (I J v.2.1 j) v m.1))))
   (cond (!(cc r==cc t)) (cond (decide (((aq (I J v.2.1 g)).length:Int)>=12)) (some (v,(28,[],()),())) ((fX (q+4)).k0 v (0,([]:List J.D),()) (0,([]:aO),()) r t v)) ((fX (q+4)).k0 v (0,([]:List J.D),()) (0,([]:aO),()) r t v))) _
 have bn:0<br r:=by have h1:=hv.ids j aH.1;have k:bb (I J v.2.1 j)=br r:=aH.2;omega
 have aQ:=hv.ino w aW.1;have L:=hv.ino g an.1;by_cases E:br t=br r
 ·rw[cf E,bR (show br t>0 by omega)];exact bl.yes 0 v (fun _=>⟨r,t,j,hr,y,Y,A,ht,Q,af,⟨W,X⟩,.inl ⟨E,rfl⟩⟩) rfl rfl
 rw[bO E];simp only[ay]
 have aw:w=g->nameOf r≠nameOf t:=by
  rintro rfl he
  rw[he,T]at D;exact E D
 by_cases M:br t=0
 ·
  rw[cf M,bW (show ¬br t>0 by omega)];simp only[bJ,ay]
  have F:qN v.2.1 (cc r) (cc t) w g (nameOf r) (nameOf t) (br r):=
   ⟨hv.st.mono (by omega),p,l,aJ,B,aQ.sorted,L.sorted,D,by omega,by rw[A];rfl,yn (by rw[T,M]) fun e he=>hv.yp an.1 he,aw⟩
  have V:(cc r≠cc t->(aq (I J v.2.1 g)).length<12)->bl v c x ((ij (q+3)).mx (v,c,x,()) r t) ((fX (q+4)).k0 v (0,([]:List J.D),()) (0,([]:aO),()) r t v) (vD v c x):=by intro a5;have h1:=W9 (n:=v.1) c x r t F (q+2);have k:=W_ (n:=v.1) v (0,([]:List J.D),()) (0,([]:aO),()) r t F (q+3);exact bl.yes _ _ (fun h=>⟨r,t,j,hr,y,Y,A,ht,Q,af,⟨W,X⟩,.inr ⟨E,aK,v.2.1,w,g,F,rfl,h,.inl ⟨M,rfl,a5⟩⟩⟩) h1 k
  by_cases ax:cc r=cc t
  ·rw[cf ax];exact V fun h=>absurd ax h
  ·rw[bO ax];simp only[cR,au];rw[lP v _ hl l];simp only[ag,gU,cR,au];show bl v c x (cond (((aq (I J v.2.1 g)).length:Int)==12) _ _) _ _;have bo:=(L.dir B).2.2.2;by_cases a6:(aq (I J v.2.1 g)).length=12
   ·rw[show(((aq (I J v.2.1 g)).length:Int)==12)=true by rw[a6];rfl,bR (by omega)];exact bl.no 28 (by decide) rfl rfl
   ·rw[show(((aq (I J v.2.1 g)).length:Int)==12)=false by rw[jD];omega,bW (show ¬((aq (I J v.2.1 g)).length:Int)>=12 by omega)];exact V fun _=>by omega
 ·
  obtain⟨eA,P⟩:=aX.resolve_left M;have az:=b3 P;have a7:0<br t:=by have h1:=hv.ids eA az.1;have k:bb (I J v.2.1 eA)=br t:=az.2;omega
  rw[bO M,bR (show br t>0 from a7)];simp only[cR,au];rw[ahi v c x _ t hl hc l P,iO v _ hl P];simp only[ag];rw[Ns c _ _ hc];simp only[ag];unfold NT
  cases nI c (I J v.2.1 g) (I J v.2.1 eA)with
  |false=>exact bl.no 1 (by decide) rfl rfl
  |true=>
  simp only[bJ,ay]
  have a9:(fX (q+4)).ns v (0,([]:List J.D),()) (0,([]:aO),()) r t (I J v.2.1 j) v (I J v.2.1 eA)=cond (kindOf (I J v.2.1 j)==2) (cond (decide (((aq (I J v.2.1 eA)).length:Int)>0)) (some (v,(39,[],()),())) (Option.bind (mE (v,cc t,nameOf t,())) fun m=>(fX (q+2)).k0 v (0,([]:List J.D),()) (0,([]:aO),()) r t m.1))
    (cond (kindOf (I J v.2.1 eA)==2) (some (v,(21,[],()),())) (Option.bind (mE (v,cc t,nameOf t,())) fun m=>(fX (q+2)).k0 v (0,([]:List J.D),()) (0,([]:aO),()) r t m.1)):=by
   rw[ahf];unfold K6;rw[ahe];unfold K8;show cond (kindOf (I J v.2.1 j)==2) (cond (decide (((aq (I J v.2.1 eA)).length:Int)>0)) _ (cond (!(kindOf (I J v.2.1 j)==2)) (cond (kindOf (I J v.2.1 eA)==2) _ _) _)) (cond (!(kindOf (I J v.2.1 j)==2)) (cond (kindOf (I J v.2.1 eA)==2) _ _) _)=_;cases kindOf (I J v.2.1 j)==2<;>rfl
  rw[a9]
  have V:aq (I J v.2.1 eA)=[]->(kindOf (I J v.2.1 j)=2↔kindOf (I J v.2.1 eA)=2)->bl v c x (Option.bind (mv ((v,c,x,()),cc t,nameOf t,true,())) fun m=>(ij (q+3)).mx m.1 r t) (Option.bind (mE (v,cc t,nameOf t,())) fun m=>(fX (q+2)).k0 v (0,([]:List J.D),()) (0,([]:aO),()) r t m.1) (vD v c x):=by
   intro G a_;rw[NH v c x _ _ true hl u.c_ l,NL v _ _ hl u.c_ l L.sorted];simp only[ag,au];obtain⟨a',ab⟩:=Xa hv an.1 B (nameOf t);rw[T]at ab;have ba:cc r≠br t:=by intro he;rw[he,P]at p;have:eA=w:=aS p;subst this;obtain⟨e,h1,_,_⟩:=pd (N:=aq (I J v.2.1 eA)) (s:=nameOf r) (by rw[D];exact aI);rw[G]at h1;simp at h1
   have bc:cc t≠br t:=by intro he;rw[he,P]at l;have:eA=g:=aS l;subst this;obtain⟨e,h1,_,_⟩:=pd (N:=aq (I J v.2.1 eA)) (s:=nameOf t) (by rw[T];exact M);rw[G]at h1;simp at h1
   obtain⟨ir,aR,aB⟩:=ab _ ba _ p;obtain⟨it,iB,ac⟩:=ab _ bc _ l;obtain⟨bs,bd,_⟩:=ab _ (Ne.symm E) _ A;rw[bg rfl]at ac
   have be:ir=it->w=g:=by
    rintro rfl
    have h1:=(b3 aR).2;have k:=(b3 iB).2;rw[h1]at k;rw[k,l]at p;exact(aS p).symm
   have F:qN (jQ v g (nameOf t)).2.1 (cc r) (cc t) ir it (nameOf r) (nameOf t) (br r):=by
    refine⟨a',aR,iB,?_,?_,?_,?_,?_,by omega,by rw[bd];rfl,?_,fun e=>aw (be e)⟩
    ·rw[aB];split
     ·exact B
     ·exact aJ
    ·rw[ac];exact B
    ·rw[aB];split
     ·rw[jA];exact tE L.sorted _
     ·exact aQ.sorted
    ·rw[ac,jA];exact tE L.sorted _
    ·rw[aB];split
     ·rename_i he;subst he;rw[jA];obtain⟨e,h1,k,bh⟩:=pd (N:=aq (I J v.2.1 g)) (s:=nameOf r) (by rw[D];exact aI);have hm:e∈b_ (aq (I J v.2.1 g)) (nameOf t):=List.mem_filter.2 ⟨h1,by unfold bm;rw[k];simpa using aw rfl⟩;have:=F4 (tE L.sorted (nameOf t)) hm;rw[k,bh,D]at this;exact this
     ·exact D
    ·rw[ac,jA];exact ag8
   show bl v c x ((ij (q+3)).mx ((v.1,(jQ v g (nameOf t)).2.1,()),c,x,()) r t) ((fX (q+2)).k0 v (0,([]:List J.D),()) (0,([]:aO),()) r t (v.1,(jQ v g (nameOf t)).2.1,())) _;have h1:=W9 (n:=v.1) c x r t F (q+2);have k:=W_ (n:=v.1) v (0,([]:List J.D),()) (0,([]:aO),()) r t F (q+1);exact bl.yes _ _ (fun h=>⟨r,t,j,hr,y,Y,A,ht,Q,af,⟨W,X⟩,.inr ⟨E,aK,_,ir,it,F,rfl,h,.inr ⟨g,eA,l,B,P,G,T,a_,rfl⟩⟩⟩) h1 k
  by_cases hk:kindOf (I J v.2.1 j)=2
  ·rw[cf hk];simp only[au];by_cases C:kindOf (I J v.2.1 eA)=2
   ·rw[dA C];simp only[ay];by_cases G:aq (I J v.2.1 eA)=[]
    ·rw[G,show decide ((([]:List ar.D).length:Int)>0)=false from rfl];exact V G ⟨fun _=>C,fun _=>hk⟩
    ·have bt:0<(aq (I J v.2.1 eA)).length:=List.length_pos_iff.2 G;rw[bR (by omega)];exact bl.no 39 (by decide) rfl rfl
   ·rw[cY C];exact bl.no 20 (by decide) rfl rfl
  ·rw[bO hk];simp only[ay];by_cases C:kindOf (I J v.2.1 eA)=2
   ·rw[cf C];exact bl.no 21 (by decide) rfl rfl
   ·rw[bO C];exact V ((hv.ino eA az.1).plain C).2.2 ⟨fun h=>absurd h hk,fun h=>absurd h C⟩
def qQ(v:ad.D)(c:aM.D)(x:aL.D)(a:Bool)(d:pc v.2.1)(hc:dB c=true)(ai:(eP x).length<=1048576):
  ∃r,qK a v.2.1 r/\eI (v,c,eP x,a,())=some (r,())/\(bH r≠0->kW ((v,c,x,()),a,())=some (-1,bH r,(v,c,x,()),())) ∧
   (bH r=0->∃i,bp v.2.1 (br r)=some i/\kW ((v,c,x,()),a,())=some ((i:Int),0,(v,c,x,()),())):=by
 obtain⟨r,h1,j,k⟩:=yh v c x (eP x) a d hc ai;have e:kW ((v,c,x,()),a,())=cond (bH r != 0) (some (-1,bH r,(v,c,x,()),())) (Option.bind (uJ (v,br r,())) fun g=>some (g.1,0,(g.2.1,c,x,()),())):=by show Jn (v,c,x,()) a=_;unfold Jn;show Option.bind (j5 ((v,c,x,()),eP x,a,())) _=_;rw[j];rfl
 refine⟨r,h1,k,fun b=>by rw[e,cY b];rfl,fun b=>?_⟩;obtain⟨i,h⟩:=h1.1.there b;refine⟨i,h,?_⟩;rw[e,dA b,Nu v _ d.len,h];rfl
def gk(n:Nat):aO:=List.replicate n 0
def jR(s:aO)(n:Nat):aO:=(s++gk (n-s.length)).take n
def ka(s:aO)(at_:Nat)(d:aO):aO:=jR s at_++d++s.drop (at_+d.length)
def nN(s:aO)(n:Nat):(jR s n).length=n:=by unfold jR gk;rw[dX,bZ,ra];omega
def Xb:∀n,Lib.repeatL [0] n=gk n
 |0=>rfl
 |n+1=>by rw[Lib.repeatL,Xb n];rfl
def ahk(s:aO)(n:Nat)(hs:s.length<=1048576)(hn:n<=1048576):Br (s,(n:Int),())=some (jR s n,()):=by
 show Jp s (n:Int)=_;unfold Jp jR;by_cases h:n<=s.length
 ·rw[bR (show(s.length:Int)>=(n:Int) by omega)];simp only[au];show Option.bind (cZ s.length ((0:Nat):Int) (n:Int)) _=_;rw[iC (by omega) h];simp only[ag,mb];rw[nK,show n-s.length=0 by omega];simp[gk]
 ·rw[bW (show ¬(s.length:Int)>=(n:Int) by omega)];simp only[ay];show Option.bind (repF [0] (aj ((n:Int)-(s.length:Int)))) _=_;rw[show aj ((n:Int)-(s.length:Int))=((n-s.length:Nat):Int) by rw[cm (by omega) (by omega)];omega];unfold repF;rw[bg ⟨by omega,by omega,by simp;omega⟩,ed,Xb];simp only[ag];rw[bX (by unfold gk;rw[ra];omega)];simp only[au];rw[List.take_of_length_le (by unfold gk;rw[bZ,ra];omega)]
def Xc(t:aO):ek (eg t)=t:=by
 unfold ek eg;rw[List.map_map]
 conv=>rhs;rw[<-List.map_id t]
 refine List.map_congr_left fun b _=>?_
 simp
def F5(t:aO):(eg t).length=t.length:=by unfold eg;simp
def ahl(t:aO):eg t++[0]=eg (t++[0]):=by unfold eg;simp
def ahm(t:aO)(i:Nat)(b:UInt8):(eg t).set i (b.toNat:Int)=eg (t.set i b):=by unfold eg;rw[List.map_set]
def Xd(s:aO)(at_:Nat)(d:aO)(hs:s.length<=1048576)(n:at_<=1048576)(aa:d.length<=1048576):
  qs (s,(at_:Int),d,())=some ((s++gk (at_+d.length-s.length)).take at_++d++(s++gk (at_+d.length-s.length)).drop (at_+d.length),()):=by
 show DG (lG aC) s (at_:Int) d=_;unfold DG;have g:aj ((at_:Int) +(d.length:Int))=((at_+d.length:Nat):Int):=by rw[cm (by omega) (by omega)];omega
 generalize ht:s++gk (at_+d.length-s.length)=t;have o:at_+d.length<=t.length/\t.length<=4194304:=by rw[<-ht];unfold gk;rw[bZ,ra];omega
 have h:∀(r i:Nat),i+r=d.length->bU (fun m=>(lG m).a_ (at_:Int) d (i:Int) (eg (t.take at_++d.take i++t.drop (at_+i)))) (r+1) (some (t.take at_++d++t.drop (at_+d.length),())):=by
  intro r
  induction r with
  |zero=>
   intro i j;refine bU.now 1 fun m=>?_
   show xM (lG m) _ _ _ _=_;unfold xM;rw[bI (by omega)];simp only[ay];rw[Xc,show i=d.length by omega,ia]
  |succ r b=>
   intro i j;have a:i<d.length:=by omega
   refine((b (i+1) (by omega)).jump (f:=fun m=>(lG m).a_ (at_:Int) d (i:Int) (eg (t.take at_++d.take i++t.drop (at_+i)))) 1 fun m=>?_).mono (by omega);show xM (lG m) _ _ _ _=_;unfold xM;rw[bj a,aU a];simp only[au,ag];have e:(t.take at_++d.take i).length=at_+i:=by rw[bZ,dX,dX];omega
   have hlen:at_+i<(eg (t.take at_++d.take i++t.drop (at_+i))).length:=by rw[F5,bZ,e,fS];omega
   rw[show aj ((at_:Int) +(i:Int))=((at_+i:Nat):Int) by rw[cm (by omega) (by omega)];omega,aU hlen];simp only[ag,bE];unfold RU;rw[c0 i (by omega),ahm];congr 2;rw[vA (show at_+i<t.length by omega),List.set_append_right _ _ (by rw[e];omega),e,Nat.sub_self,List.set_cons_zero,hD a,List.getD_eq_getElem?_getD,List.getElem?_eq_getElem a,show at_ +(i+1)=at_+i+1 by omega];simp only[dW,pA,jF,jH,Option.getD_some]
 have l:∀(r k:Nat),k+r=at_+d.length-s.length->bU (fun m=>(lG m).k2 (at_:Int) d (eg (s++gk k))) (r+d.length+3) (some (t.take at_++d++t.drop (at_+d.length),())):=by
  intro r
  induction r with
  |zero=>
   intro k hk;have hk:k=at_+d.length-s.length:=by omega
   subst hk;rw[ht];have:=h d.length 0 (by omega);rw[List.take_zero,dn,cz,List.take_append_drop]at this;refine(this.jump (f:=fun m=>(lG m).k2 (at_:Int) d (eg t)) 1 fun m=>?_).mono (by omega);show xL (lG m) _ _ _=_;unfold xL;rw[g,F5,bI (by omega)];rfl
  |succ r b=>
   intro k hk;refine((b (k+1) (by omega)).jump (f:=fun m=>(lG m).k2 (at_:Int) d (eg (s++gk k))) 1 fun m=>?_).mono (by omega);show xL (lG m) _ _ _=_;unfold xL;have hl:(eg (s++gk k)).length=s.length+k:=by rw[F5,bZ];unfold gk;rw[ra]
   rw[g,bj (by rw[hl];omega)];simp only[au];rw[bX (by rw[hl];simp only[b2,cU];omega)];simp only[au];rw[ahl,dW];have:gk k++[0]=gk (k+1):=by unfold gk;rw[List.replicate_succ']
   rw[this]
 have:=l (at_+d.length-s.length) 0 (by omega);rw[show gk 0=[] from rfl,dn]at this;exact jx this (by omega)
def put_eq(s:aO)(at_:Nat)(d:aO):(s++gk (at_+d.length-s.length)).take at_++d++(s++gk (at_+d.length-s.length)).drop (at_+d.length)=ka s at_ d:=by
 unfold ka jR;congr 1
 ·congr 1;rw[List.take_append,List.take_append];congr 1;unfold gk;rw[List.take_replicate,List.take_replicate];congr 1;omega
 ·rw[List.drop_append];have:(gk (at_+d.length-s.length)).drop (at_+d.length-s.length)=[]:=gp (by unfold gk;rw[ra];omega);rw[this,dn]
def ahn(s:aO)(at_:Nat):((s++gk (at_ +([]:aO).length-s.length)).take at_++([]:aO)++(s++gk (at_ +([]:aO).length-s.length)).drop (at_ +([]:aO).length)).take at_=jR s at_:=by rw[put_eq];unfold ka;rw[dn,List.take_append_of_le_length (by rw[nN];omega),List.take_of_length_le (by rw[nN];omega)]
def lV(x:aQ)(d:aO):aQ:=(x.1,x.2.1,x.2.2.1,x.2.2.2.1,x.2.2.2.2.1,d,x.2.2.2.2.2.2.1,x.2.2.2.2.2.2.2.1,x.2.2.2.2.2.2.2.2.1,())
def eb(x:aL.D)(n:aQ):Int:=if aF x=6 then((bN n).length:Int) else bM x
def hW(x:aL.D)(n:aQ):aO:=if aF x=7 then jR (bN n) (bM x).toNat else ka (bN n) (eb x n).toNat (dw x)
structure vE(v:ad.D)(c:aM.D)(x:aL.D)(w:ad.D):Prop where
 out:∃r i,gM v.2.1 r/\bH r=0/\bp v.2.1 (br r)=some i/\kindOf (I J v.2.1 i)≠2/\kindOf (I J v.2.1 i)≠3/\may c (I J v.2.1 i) 2=true/\0<=eb x (I J v.2.1 i)/\eI (v,c,eP x,true,())=some (r,()) ∧
  ((aF x≠7/\dw x=[]/\w=v)\/((aF x≠7->dw x≠[])/\eb x (I J v.2.1 i) +(dw x).length<=64/\w=(v.1,v.2.1.set i (lV (I J v.2.1 i) (hW x (I J v.2.1 i))),())/\eD w.2.1=0))
def Xe(v:ad.D)(c:aM.D)(x:aL.D)(want:Int)(d:pc v.2.1)(hc:dB c=true)(ai:(eP x).length<=1048576):
  ∃r,qK true v.2.1 r/\eI (v,c,eP x,true,())=some (r,())/\(bH r≠0->w6 ((v,c,x,()),want,())=some (-1,bH r,(v,c,x,()),())) ∧
   (bH r=0->∃i,bp v.2.1 (br r)=some i/\w6 ((v,c,x,()),want,())=cond (kindOf (I J v.2.1 i)==2) (some (-1,21,(v,c,x,()),())) (cond (!may c (I J v.2.1 i) want) (some (-1,13,(v,c,x,()),())) (some ((i:Int),0,(v,c,x,()),())))):=by
 obtain⟨r,h1,e,g,h⟩:=qQ v c x true d hc ai;refine⟨r,h1,e,fun a=>?_,fun a=>?_⟩
 ·show w5 (v,c,x,()) want=_;unfold w5;rw[g a];simp only[ag];rw[cY a];rfl
 ·obtain⟨i,b,j⟩:=h a;refine⟨i,b,?_⟩;show w5 (v,c,x,()) want=_;unfold w5;rw[j];simp only[ag];rw[show((0:Int) != 0)=false from rfl];simp only[ay];rw[aU (b3 b).1];simp only[ag];rw[yc c _ want hc];rfl
def aho(m:Nat)(a b d):(fW (m+1)).dE a b d=Jq (fW m) a b d:=rfl
def ahp(m:Nat)(a b d):(fW (m+1)).cn a b d=Jr (fW m) a b d:=rfl
def ahq(m:Nat)(a b d):(fW (m+1)).gj a b d=Js (fW m) a b d:=rfl
def ahr(m:Nat)(a b d e f g):(jv (m+1)).eO a b d e f g=K9 (jv m) a b d e f g:=rfl
def ahs(m:Nat)(a b d e):(jv (m+1)).gK a b d e=K_ (jv m) a b d e:=rfl
def bY.gD{v:ad.D}(h:bY v){i:Nat}(a:i<v.2.1.length):(bN (I J v.2.1 i)).length<=64:=by
 have:=h.ino i a;rcases this.kind with k|k|k
 ·exact this.file k
 ·rw[(this.dir k).1];simp
 ·have:=NC (this.lQ k).1;omega
def aht(v:ad.D)(c:aM.D)(x:aL.D)(hv:bY v)(hc:dB c=true)(C:hd x)(hk:aF x=5\/aF x=6\/aF x=7):bl v c x (Bt ((v,c,x,()),())) (u' (v,c,x,())) (vE v c x):=by
 have K:=hv.iu;have hl:v.2.1.length<=1048576:=K.len;have ai:=C.path;have aw:=C.gD;have W:=C.n;obtain⟨q,X,az⟩:=iK 4;show bl v c x (Bs (fW aC) (v,c,x,())) (DH (jv aC) v c x) _;unfold Bs DH;obtain⟨r,⟨hr,M⟩,L,Y,Z⟩:=Xe v c x 2 K hc (by omega);show bl v c x _ (Option.bind (eI (v,c,eP x,true,())) _) _;rw[L];simp only[ag];show bl v c x _ (cond (bH r != 0) (some (v,(bH r,[],()),())) _) _;by_cases j:bH r=0
 case neg=>rw[Y j,cY j];simp only[ag];rw[cY j];exact bl.no (bH r) j rfl rfl (gM.rg ‹_›)
 obtain⟨i,l,ab⟩:=Z j;have p:=b3 l;rw[ab,dA j];simp only[ay];show bl v c x _ (Option.bind (eX (v,br r,())) _) _;rw[iO v _ hl l];simp only[ag];show bl v c x _ (cond (kindOf (I J v.2.1 i)==2) _ _) _;by_cases D:kindOf (I J v.2.1 i)=2
 ·rw[cf D];exact bl.no 21 (by decide) rfl rfl
 rw[bO D];simp only[ay];rw[nH c _ 2 hc];simp only[ag]
 cases hm:may c (I J v.2.1 i) 2 with
 |false=>exact bl.no 13 (by decide) rfl rfl
 |true=>
 simp only[bJ,ay,ag];rw[show((0:Int) != 0)=false from rfl];simp only[ay];have aA:=hv.gD p.1
 have ac:cond (x.1==6) ((ax v.2.1.length (i:Int)).bind fun e=>(fW aC).dE (i:Int) ((I J v.2.1 e).2.2.2.2.2.1.length:Int) (v,c,x,())) ((fW aC).dE (i:Int) x.2.2.2.1 (v,c,x,()))=(fW aC).dE (i:Int) (eb x (I J v.2.1 i)) (v,c,x,()):=by
  rw[aU p.1];unfold eb;show cond (aF x==6) _ _=_;by_cases o:aF x=6
  ·rw[cf o,bg o];rfl
  ·rw[bO o,bd o];rfl
 have ae:cond (x.1==6) ((jv aC).eO ((I J v.2.1 i).2.2.2.2.2.1.length:Int) v x (0,([]:List J.D),()) (0,([]:aO),()) (I J v.2.1 i)) ((jv aC).eO x.2.2.2.1 v x (0,([]:List J.D),()) (0,([]:aO),()) (I J v.2.1 i))=(jv aC).eO (eb x (I J v.2.1 i)) v x (0,([]:List J.D),()) (0,([]:aO),()) (I J v.2.1 i):=by
  unfold eb;show cond (aF x==6) _ _=_;by_cases o:aF x=6
  ·rw[cf o,bg o];rfl
  ·rw[bO o,bd o];rfl
 show bl v c x (cond (x.1==6) ((ax v.2.1.length (i:Int)).bind fun e=>(fW aC).dE (i:Int) ((I J v.2.1 e).2.2.2.2.2.1.length:Int) (v,c,x,())) ((fW aC).dE (i:Int) x.2.2.2.1 (v,c,x,())))
  (cond (x.1==6) ((jv aC).eO ((I J v.2.1 i).2.2.2.2.2.1.length:Int) v x (0,([]:List J.D),()) (0,([]:aO),()) (I J v.2.1 i)) ((jv aC).eO x.2.2.2.1 v x (0,([]:List J.D),()) (0,([]:aO),()) (I J v.2.1 i))) _
 rw[ac,ae,X,aho,ahr];unfold Jq K9;by_cases N:eb x (I J v.2.1 i)<0
 ·rw[bR N];exact bl.no 22 (by decide) rfl rfl
 rw[bW N];simp only[ay];obtain⟨a,A⟩:∃a:Nat,eb x (I J v.2.1 i)=a:=⟨(eb x (I J v.2.1 i)).toNat,by omega⟩
 have aB:a<=1000000:=by
  have:eb x (I J v.2.1 i)<=1000000:=by
   unfold eb;split
   ·omega
   ·exact W.2
  omega
 show bl v c x (cond (!(aF x==7)) (cond (bm (dw x) []) (some (0,(v,c,x,()),())) ((fW (q+3)).cn (i:Int) (eb x (I J v.2.1 i)) (v,c,x,()))) ((fW (q+3)).cn (i:Int) (eb x (I J v.2.1 i)) (v,c,x,())))
  (cond (aF x==7) (cond (decide (eb x (I J v.2.1 i)>64)) (some (v,(27,[],()),())) (Option.bind (qs (bN (I J v.2.1 i),eb x (I J v.2.1 i),[],())) fun v1=>Option.bind (cZ v1.1.length 0 (eb x (I J v.2.1 i))) fun e=>(jv (q+3)).gK v (0,([]:List J.D),()) (0,([]:aO),()) (lV (I J v.2.1 i) (part v1.1 e.1 (e.2-e.1)))))
   (cond (bm (dw x) []) (some (v,(0,[],()),())) (cond (decide (eb x (I J v.2.1 i)>aj (64-((dw x).length:Int)))) (some (v,(27,[],()),())) (Option.bind (qs (bN (I J v.2.1 i),eb x (I J v.2.1 i),dw x,())) fun z=>(jv (q+3)).gK v (0,([]:List J.D),()) (0,([]:aO),()) (lV (I J v.2.1 i) z.1))))) _
 have af:aF x≠7->dw x=[]->vE v c x v:=fun b aa=>⟨r,i,hr,j,l,D,M rfl j i l,hm,by omega,L,.inl ⟨b,aa,rfl⟩⟩
 by_cases u:aF x≠7/\dw x=[]
 ·rw[bO u.1,lS.2 u.2];exact bl.yes 0 v (fun _=>af u.1 u.2) rfl rfl
 have ah:cond (!(aF x==7)) (cond (bm (dw x) []) (some (0,(v,c,x,()),())) ((fW (q+3)).cn (i:Int) (eb x (I J v.2.1 i)) (v,c,x,()))) ((fW (q+3)).cn (i:Int) (eb x (I J v.2.1 i)) (v,c,x,()))=(fW (q+3)).cn (i:Int) (eb x (I J v.2.1 i)) (v,c,x,()):=by
  by_cases b:aF x=7
  ·rw[cf b];rfl
  ·rw[bO b];have:bm (dw x) []=false:=by rw[<-jG,lS];exact fun h=>u ⟨b,h⟩
   rw[this];rfl
 rw[ah,ahp];unfold Jr;show bl v c x (cond (decide (aj (eb x (I J v.2.1 i) +((dw x).length:Int))>64)) _ _) _ _;have P:aF x=7->dw x=[]:=fun b=>C.WX.elim id fun h=>by omega
 have ak:aj (eb x (I J v.2.1 i) +((dw x).length:Int))=((a +(dw x).length:Nat):Int):=by rw[A,cm (by omega) (by omega)];omega
 rw[ak];by_cases E:a +(dw x).length>64
 ·rw[bR (by omega)]
  have:cond (aF x==7) (cond (decide (eb x (I J v.2.1 i)>64)) (some (v,((27:Int),([]:aO),()),())) (Option.bind (qs (bN (I J v.2.1 i),eb x (I J v.2.1 i),[],())) fun v1=>Option.bind (cZ v1.1.length 0 (eb x (I J v.2.1 i))) fun e=>(jv (q+3)).gK v (0,([]:List J.D),()) (0,([]:aO),()) (lV (I J v.2.1 i) (part v1.1 e.1 (e.2-e.1)))))
   (cond (bm (dw x) []) (some (v,(0,[],()),())) (cond (decide (eb x (I J v.2.1 i)>aj (64-((dw x).length:Int)))) (some (v,(27,[],()),())) (Option.bind (qs (bN (I J v.2.1 i),eb x (I J v.2.1 i),dw x,())) fun z=>(jv (q+3)).gK v (0,([]:List J.D),()) (0,([]:aO),()) (lV (I J v.2.1 i) z.1))))=some (v,(27,[],()),()):=by
   by_cases b:aF x=7
   ·have B:=P b;rw[B]at E;simp only[cU]at E;rw[cf b,bR (show eb x (I J v.2.1 i)>64 by omega)];rfl
   ·rw[bO b];have B:bm (dw x) []=false:=by rw[<-jG,lS];exact fun h=>u ⟨b,h⟩
    rw[B,show aj (64-((dw x).length:Int))=64-((dw x).length:Int) from cm (by omega) (by omega),bR (show eb x (I J v.2.1 i)>64-((dw x).length:Int) by omega)];rfl
  rw[this];exact bl.no 27 (by decide) rfl rfl
 rw[bW (by omega)];simp only[ay];obtain⟨w,F⟩:∃w:ad.D,w=(v.1,v.2.1.set i (lV (I J v.2.1 i) (hW x (I J v.2.1 i))),()):=⟨_,rfl⟩
 have aD:(hW x (I J v.2.1 i)).length<=200:=by
  have G:∀s n,(jR s n).length=n:=nN
  unfold hW ka;rw[A,ed];split
  ·rename_i b;have:eb x (I J v.2.1 i)=bM x:=by unfold eb;rw[bd (by omega)]
   rw[G];omega
  ·rw[bZ,bZ,G,fS];omega
 have Q:av 1000 w.2.1:=by
  rw[F]
  exact(hv.st.set (k:=200) (i:=i) (y:=lV (I J v.2.1 i) (hW x (I J v.2.1 i))) p.1 rfl (fun d aa=>hv.hU i p.1 d aa) (fun al=>hv.st.bare i p.1 al) (n0 _ _) (by
   show(hW x (I J v.2.1 i)).length<=_
   omega)).mono (by omega)
 have T:eD w.2.1=0->vE v c x w:=fun G=>⟨r,i,hr,j,l,D,M rfl j i l,hm,by omega,L,.inr ⟨fun b h=>u ⟨b,h⟩,by omega,F,G⟩⟩
 have U:∀m,(fW (m+1)).gj (i:Int) (hW x (I J v.2.1 i)) (v,c,x,())=some (eD w.2.1,(w,c,x,()),()):=by intro m;rw[ahq];unfold Js;show Option.bind (ax v.2.1.length (i:Int)) _=_;rw[aU p.1];show Option.bind (lC (((v.1,v.2.1.set i (lV (I J v.2.1 i) (hW x (I J v.2.1 i))),()),c,x,()),())) (fun z=>some (z.1,((v.1,v.2.1.set i (lV (I J v.2.1 i) (hW x (I J v.2.1 i))),()),c,x,()),()))=_;rw[<-F,yk w c x Q (by omega)];rfl
 have V:∀m,(jv (m+1)).gK v (0,([]:List J.D),()) (0,([]:aO),()) (lV (I J v.2.1 i) (hW x (I J v.2.1 i)))=some (cond (eD w.2.1==0) w v,(eD w.2.1,[],()),()):=by intro m;rw[ahs];unfold K_;rw[tw v hl (fun i l=>cw (fF l) K.c_)];simp only[ag];rw[FV v _ hl (show bp v.2.1 (lV (I J v.2.1 i) (hW x (I J v.2.1 i))).1=some i from(show(I J v.2.1 i).1=br r from p.2)▸l),<-F];simp only[ag];rw[yl v w Q (by omega)];rfl
 have an:(cond (decide (((bN (I J v.2.1 i)).length:Int) >((jR (bN (I J v.2.1 i)) a++dw x).length:Int)))
   ((cZ (bN (I J v.2.1 i)).length ((jR (bN (I J v.2.1 i)) a++dw x).length:Int) ((bN (I J v.2.1 i)).length:Int)).bind fun g=>cond (room ((jR (bN (I J v.2.1 i)) a++dw x).length +(part (bN (I J v.2.1 i)) g.1 (g.2-g.1)).length))
    ((fW (q+2)).gj (i:Int) ((jR (bN (I J v.2.1 i)) a++dw x)++part (bN (I J v.2.1 i)) g.1 (g.2-g.1)) (v,c,x,())) none)
   ((fW (q+2)).gj (i:Int) (jR (bN (I J v.2.1 i)) a++dw x) (v,c,x,())))=(fW (q+2)).gj (i:Int) (ka (bN (I J v.2.1 i)) a (dw x)) (v,c,x,()):=by
  have ao:(jR (bN (I J v.2.1 i)) a++dw x).length=a +(dw x).length:=by rw[bZ,nN]
  rw[ao];unfold ka;by_cases aE:(bN (I J v.2.1 i)).length>a +(dw x).length
  ·rw[bR (by omega)];simp only[au];rw[iC (by omega) (bu _)];simp only[ag];rw[o_,bX (by rw[fS];omega)];rfl
  ·rw[bW (by omega)];simp only[ay];rw[gp (by omega),dn]
 show bl v c x (Option.bind (ax v.2.1.length (i:Int)) fun v1=>Option.bind (Br (bN (I J v.2.1 v1),eb x (I J v.2.1 i),())) fun e=>cond (!(aF x==7)) (cond (room (e.1.length +(dw x).length)) (Option.bind (ax v.2.1.length (i:Int)) fun z=>cond (decide (((bN (I J v.2.1 z)).length:Int) >((e.1++dw x).length:Int)))
   (Option.bind (ax v.2.1.length (i:Int)) fun v4=>(cZ (bN (I J v.2.1 v4)).length ((e.1++dw x).length:Int) ((bN (I J v.2.1 v4)).length:Int)).bind fun g=>cond (room ((e.1++dw x).length +(part (bN (I J v.2.1 v4)) g.1 (g.2-g.1)).length))
    ((fW (q+2)).gj (i:Int) ((e.1++dw x)++part (bN (I J v.2.1 v4)) g.1 (g.2-g.1)) (v,c,x,())) none)
   ((fW (q+2)).gj (i:Int) (e.1++dw x) (v,c,x,()))) none) ((fW (q+2)).gj (i:Int) e.1 (v,c,x,()))) _ _
 rw[aU p.1,A];simp only[ag];rw[ahk _ _ (by omega) (by omega)];simp only[ag];rw[bX (by rw[nN];omega)];simp only[au];rw[an];by_cases b:aF x=7
 ·have aq:=P b
  have H:hW x (I J v.2.1 i)=jR (bN (I J v.2.1 i)) a:=by
   unfold hW;rw[bg b];have:eb x (I J v.2.1 i)=bM x:=by unfold eb;rw[bd (by omega)]
   rw[<-this,A,ed]
  rw[cf b];rw[aq]at E;simp only[cU]at E;rw[bW (show ¬((a:Int)>64) by omega)];simp only[bJ,ay,au];rw[Xd _ _ _ (by omega) (by omega) (by simp)];simp only[ag];rw[put_eq];show bl v c x _ (Option.bind (cZ (ka (bN (I J v.2.1 i)) a []).length ((0:Nat):Int) (a:Int)) _) _;rw[iC (by omega) (by unfold ka;rw[bZ,bZ,nN];omega)];simp only[ag,mb];have ar:part (ka (bN (I J v.2.1 i)) a []) 0 a=hW x (I J v.2.1 i):=by rw[nK,H,<-ahn,put_eq]
  rw[ar,<-H,U (q+1),V (q+2)];exact bl.yes _ _ (T) rfl rfl
 ·have H:hW x (I J v.2.1 i)=ka (bN (I J v.2.1 i)) a (dw x):=by
   unfold hW;rw[bd b,A,ed]
  rw[bO b];have B:bm (dw x) []=false:=by rw[<-jG,lS];exact fun h=>u ⟨b,h⟩
  rw[B,show aj (64-((dw x).length:Int))=64-((dw x).length:Int) from cm (by omega) (by omega),bW (show ¬((a:Int)>64-((dw x).length:Int)) by omega)];simp only[cR,au,ay];rw[Xd _ _ _ (by omega) (by omega) (by omega)];simp only[ag];rw[put_eq,<-H,U (q+1),V (q+2)];exact bl.yes _ _ (T) rfl rfl
def Xf(l:List aQ):bytesOf l=((List.range l.length).map fun i=>(bN (I J l i)).length).sum:=by
 unfold bytesOf;congr 1;refine List.ext_getElem (by simp) fun i h1 a=>?_
 simp only[List.length_map]at h1;rw[List.getElem_map,List.getElem_map,List.getElem_range,cC h1]
structure Alike(l l':List aQ):Prop where
 len:l'.length=l.length
 id:∀i,(I J l' i).1=(I J l i).1
 gD:∀i,bN (I J l' i)=bN (I J l i)
 c_:∀i,aq (I J l' i)=aq (I J l i)
def Alike.bp{l l':List aQ}(h:Alike l l'):i_.bp l'=i_.bp l:=by
 funext id
 unfold i_.bp;rw[h.len];refine WQ fun i _=>?_
 rw[h.id]
def Alike.below{l l':List aQ}(h:Alike l l'):dH l'=dH l:=by
 have a:iM l'=iM l:=by
  funext i j s
  unfold iM;rw[h.bp,h.c_]
 have b:hS l'=hS l:=by
  funext i s
  unfold hS;rw[a,h.c_]
 have d:e9 l'=e9 l:=by
  funext s
  unfold e9;rw[b,h.len]
 funext id
 unfold dH;rw[h.bp,h.len,d]
def Alike.ahu{l l':List aQ}(h:Alike l l')(x a:aQ)(h1:a.1=x.1)(b:eK a=eK x)(d:eo a=eo x):il l' a=il l x:=by
 have e:iN l'=iN l:=by
  funext F
  unfold iN mN dl;rw[h.len];congr 2
  funext i
  rw[h.gD]
 have g:je l'=je l:=by
  funext F
  unfold je mN;rw[h.len]
 unfold il;rw[e,g,h.below,h1,b,d]
def Alike.fits{l l':List aQ}(h:Alike l l')(hb:∀i,eK (I J l' i)=eK (I J l i))(a:∀i,eo (I J l' i)=eo (I J l i)):eD l'=eD l:=by
 have b:bytesOf l'=bytesOf l:=by
  rw[Xf,Xf,h.len];congr 2
  funext i
  rw[h.gD]
 have d:fG l'=fG l:=by
  unfold fG;rw[h.len];congr 2
  funext i
  rw[h.ahu (I J l i) (I J l' i) (h.id i) (hb i) (a i)]
 unfold eD;rw[b,d]
def ahv{l:List aQ}{i:Nat}{y:aQ}(a:i<l.length)(h1:y.1=(I J l i).1)(b:bN y=bN (I J l i))(d:aq y=aq (I J l i)):Alike l (l.set i y):=by
 refine⟨bL,fun j=>?_,fun j=>?_,fun j=>?_⟩ <;>
  ·rw[iq a];split
   ·rename_i he;subst he;assumption
   ·rfl
def iv(x:aQ)(m u g:Int):aQ:=(x.1,x.2.1,m,u,g,x.2.2.2.2.2.1,x.2.2.2.2.2.2.1,x.2.2.2.2.2.2.2.1,x.2.2.2.2.2.2.2.2.1,())
def Xg(x:aQ)(m u g:Int):(iv x m u g).1=x.1:=rfl
def F6{v:ad.D}(hv:bY v){i:Nat}(a:i<v.2.1.length)(m u g:Int):eD (v.2.1.set i (iv (I J v.2.1 i) m u g))=0:=by
 have b:Alike v.2.1 (v.2.1.set i (iv (I J v.2.1 i) m u g)):=ahv a rfl rfl rfl
 rw[b.fits (fun j=>by
  rw[iq a];split
  ·rename_i he;subst he;rfl
  ·rfl) (fun j=>by
  rw[iq a];split
  ·rename_i he;subst he;rfl
  ·rfl)]
 unfold eD;rw[bW (by have:=hv.bytes;omega),hv.over];rfl
def Xh{v:ad.D}(hv:bY v){i:Nat}(a:i<v.2.1.length)(m u g:Int):av 1000 (v.2.1.set i (iv (I J v.2.1 i) m u g)):=
 (hv.st.set (k:=1) (i:=i) (y:=iv (I J v.2.1 i) m u g) a rfl (fun d aa=>hv.hU i a d aa) (fun hk=>hv.st.bare i a hk) (n0 _ _) (n0 _ _)).mono (by omega)
def andNot(a b:Int):Int:=cJ .andNot .i64 a b
def pg(c:aM.D)(x:aL.D)(n:aQ):Int:=if c.1≠0/\la c (eZ n)=false then andNot (bM x) 1024 else bM x
def yv(m:Nat)(a b d e f g):(gL (m+1)).cE a b d e f g=xN (gL m) a b d e f g:=rfl
def NU(m:Nat)(a b d e f):(gL (m+1)).eO a b d e f=xO (gL m) a b d e f:=rfl
def ahw(m:Nat)(a b d e f g):(gL (m+1)).nd a b d e f g=K' (gL m) a b d e f g:=rfl
def ahx(m:Nat)(a b d e):(gL (m+1)).k4 a b d e=La (gL m) a b d e:=rfl
def NV{v:ad.D}(hv:bY v)(z:ad.D)(d:aA.D){i:Nat}(a:i<v.2.1.length)(n:aQ)(hn:n.1=(I J v.2.1 i).1)(e:av 1000 (v.2.1.set i n))(m:Nat):
  (gL (m+1)).k4 v z d n=some (cond (eD (v.2.1.set i n)==0) (v.1,v.2.1.set i n,()) v,(eD (v.2.1.set i n),[],()),()):=by
 have b:=hv.iu;rw[ahx];unfold La;rw[tw v b.len (fun i a=>cw (fF a) b.c_)];simp only[ag];rw[FV v n b.len (show bp v.2.1 n.1=some i from hn▸hv.hT i a)];simp only[ag];rw[yl v (v.1,v.2.1.set i n,()) e (by omega)];rfl
structure yw(v:ad.D)(c:aM.D)(x:aL.D)(w:ad.D):Prop where
 out:0<=bM x/\bM x<=2047/\∃r i,gM v.2.1 r/\bH r=0/\bp v.2.1 (br r)=some i/\kindOf (I J v.2.1 i)≠3/\(c.1≠0->c.1=ef (I J v.2.1 i)) ∧
  w=(v.1,v.2.1.set i (iv (I J v.2.1 i) (pg c x (I J v.2.1 i)) (ef (I J v.2.1 i)) (eZ (I J v.2.1 i))),())
def ahy(v:ad.D)(c:aM.D)(x:aL.D)(hv:bY v)(hc:dB c=true)(n:hd x)(hk:aF x=15):bl v c x (BF ((v,c,x,()),())) (qu (v,c,x,())) (yw v c x):=by
 have k:=hv.iu;have hl:v.2.1.length<=1048576:=k.len;have ai:=n.path;obtain⟨q,o,D⟩:=iK 4;show bl v c x (BE (ox aC) (v,c,x,())) (qt (gL aC) v c x) _;unfold BE qt;show bl v c x (Option.bind (cT (bM x,0,2047,())) _) (cond (aF x==15) (Option.bind (cH (bM x,0,2047,())) _) _) _;rw[cf hk,fZ,fY];simp only[au,ag];rw[o,yv];unfold xN
 cases p:b8 (bM x) 0 2047 with
 |false=>exact bl.no 22 (by decide) rfl rfl
 |true=>
 have l:=cL.1 p;simp only[bJ,ay];show bl v c x _ (cond (aF x==19) _ _) _;rw[bO (show aF x≠19 by omega),NU];simp only[ay];unfold xO;obtain⟨r,⟨hr,s⟩,u,w,y⟩:=qQ v c x true k hc (by omega);show bl v c x _ (Option.bind (eI (v,c,eP x,true,())) _) _;rw[u];simp only[ag];show bl v c x _ (cond (bH r != 0) (some (v,(bH r,[],()),())) _) _;by_cases b:bH r=0
 case neg=>rw[w b,cY b];simp only[ag];rw[cY b];exact bl.no (bH r) b rfl rfl (gM.rg ‹_›)
 obtain⟨i,g,j⟩:=y b;have d:=b3 g;rw[j,dA b];simp only[ay,ag];rw[show((0:Int) != 0)=false from rfl];simp only[ay];show bl v c x _ (Option.bind (eX (v,br r,())) _) _;rw[iO v _ hl g,aU d.1];simp only[ag]
 show bl v c x (cond (c.1 != 0) (cond (c.1 != ef (I J v.2.1 i)) (some (1,(v,c,x,()),())) (ox (q+4) (i:Int) (v,c,x,()))) (ox (q+4) (i:Int) (v,c,x,())))
  (cond (aF x==15) (cond (c.1 != 0) (cond (c.1 != ef (I J v.2.1 i)) (some (v,(1,[],()),())) ((gL (q+2)).nd v c x (0,([]:List J.D),()) (0,([]:aO),()) (I J v.2.1 i))) ((gL (q+2)).nd v c x (0,([]:List J.D),()) (0,([]:aO),()) (I J v.2.1 i))) _) _
 rw[cf hk];simp only[au]
 have m:(c.1≠0->c.1=ef (I J v.2.1 i))->bl v c x (ox (q+4) (i:Int) (v,c,x,())) ((gL (q+2)).nd v c x (0,([]:List J.D),()) (0,([]:aO),()) (I J v.2.1 i)) (yw v c x):=by
  intro e
  have j:ox (q+4) (i:Int) (v,c,x,())=some (0,((v.1,v.2.1.set i (iv (I J v.2.1 i) (pg c x (I J v.2.1 i)) (ef (I J v.2.1 i)) (eZ (I J v.2.1 i))),()),c,x,()),()):=by
   rw[ox,Jx];show Option.bind (ax v.2.1.length (i:Int)) (fun v1=>Jw (v,c,x,()) (i:Int) (v.2.1.set v1 (iv (I J v.2.1 v1) (bM x) (ef (I J v.2.1 v1)) (eZ (I J v.2.1 v1)))))=_;rw[aU d.1];simp only[ag];unfold Jw pg;have z:I J (v.2.1.set i (iv (I J v.2.1 i) (bM x) (ef (I J v.2.1 i)) (eZ (I J v.2.1 i)))) i=iv (I J v.2.1 i) (bM x) (ef (I J v.2.1 i)) (eZ (I J v.2.1 i)):=by rw[iq d.1,bg rfl]
   have A:ax (v.2.1.set i (iv (I J v.2.1 i) (bM x) (ef (I J v.2.1 i)) (eZ (I J v.2.1 i)))).length (i:Int)=some i:=aU (by rw[bL];exact d.1);show cond (c.1 != 0) _ _=_;by_cases a:c.1=0
   ·rw[dA a,bd (fun h=>h.1 a)];rfl
   ·rw[cY a,A];simp only[au,ag];rw[z];show Option.bind (r' (c,eZ (I J v.2.1 i),())) _=_;rw[Nr c _ hc];simp only[ag]
    cases B:la c (eZ (I J v.2.1 i))with
    |true=>rw[bd (fun h=>by cases h.2)];rfl
    |false=>rw[bg ⟨a,rfl⟩];simp only[cR,au];unfold Rg;rw[dL];rfl
  have C:(gL (q+2)).nd v c x (0,([]:List J.D),()) (0,([]:aO),()) (I J v.2.1 i)=(gL (q+1)).k4 v (0,([]:List J.D),()) (0,([]:aO),()) (iv (I J v.2.1 i) (pg c x (I J v.2.1 i)) (ef (I J v.2.1 i)) (eZ (I J v.2.1 i))):=by
   rw[ahw];unfold K' pg;show cond (c.1 != 0) (Option.bind (sS (c,eZ (I J v.2.1 i),())) _) _=_;by_cases a:c.1=0
   ·rw[dA a,bd (fun h=>h.1 a)];rfl
   ·rw[cY a,Nq c _ hc];simp only[au,ag]
    cases B:la c (eZ (I J v.2.1 i))with
    |true=>rw[bd (fun h=>by cases h.2)];rfl
    |false=>rw[bg ⟨a,rfl⟩];rfl
  rw[j,C,NV hv _ _ d.1 _ (Xg _ _ _ _) (Xh hv d.1 _ _ _),F6 hv d.1];exact bl.yes 0 _ (fun _=>⟨l.1,l.2,r,i,hr,b,g,s rfl b i g,e,rfl⟩) rfl rfl
 by_cases a:c.1=0
 ·rw[dA a];exact m fun h=>absurd a h
 ·rw[cY a];simp only[au];by_cases e:c.1=ef (I J v.2.1 i)
  ·rw[dA e];exact m fun _=>e
  ·rw[cY e];exact bl.no 1 (by decide) rfl rfl
structure yx(v:ad.D)(c:aM.D)(x:aL.D)(w:ad.D):Prop where
 out:(0<=bM x/\bM x<=1000)/\(0<=dV x/\dV x<=1000)/\∃r i,gM v.2.1 r/\bH r=0/\bp v.2.1 (br r)=some i/\w=(v.1,v.2.1.set i (iv (I J v.2.1 i) (eL (I J v.2.1 i)) (bM x) (dV x)),())
def ahz(v:ad.D)(c:aM.D)(x:aL.D)(hv:bY v)(hc:dB c=true)(l:hd x)(hk:aF x=16):bl v c x (BI ((v,c,x,()),())) (qu (v,c,x,())) (yx v c x):=by
 have g:=hv.iu;have hl:v.2.1.length<=1048576:=g.len;have ai:=l.path;obtain⟨q,m,B⟩:=iK 4;show bl v c x (BH (oy aC) (v,c,x,())) (qt (gL aC) v c x) _;unfold BH qt;show bl v c x (Option.bind (cT (bM x,0,1000,())) fun v1=>cond (!v1.1) _ (Option.bind (cT (dV x,0,1000,())) _)) (cond (aF x==15) _ (cond (aF x==16) (Option.bind (cH (bM x,0,1000,())) fun n=>cond (!n.1) _ (Option.bind (cH (dV x,0,1000,())) _)) _)) _;rw[bO (show aF x≠15 by omega),cf hk];simp only[au,ay];rw[fZ,fY];simp only[ag];rw[m]
 cases o:b8 (bM x) 0 1000 with
 |false=>simp only[cR,au];rw[yv];exact bl.no 22 (by decide) rfl rfl
 |true=>
 have p:=cL.1 o;simp only[bJ,ay];rw[fZ,fY];simp only[ag];rw[yv];unfold xN
 cases s:b8 (dV x) 0 1000 with
 |false=>exact bl.no 22 (by decide) rfl rfl
 |true=>
 have u:=cL.1 s;simp only[bJ,ay];show bl v c x _ (cond (aF x==19) _ _) _;rw[bO (show aF x≠19 by omega),NU];simp only[ay];unfold xO;obtain⟨r,⟨hr,C⟩,w,y,z⟩:=qQ v c x true g hc (by omega);show bl v c x _ (Option.bind (eI (v,c,eP x,true,())) _) _;rw[w];simp only[ag];show bl v c x _ (cond (bH r != 0) (some (v,(bH r,[],()),())) _) _;by_cases a:bH r=0
 case neg=>rw[y a,cY a];simp only[ag];rw[cY a];exact bl.no (bH r) a rfl rfl (gM.rg ‹_›)
 obtain⟨i,d,e⟩:=z a;have b:=b3 d;rw[e,dA a];simp only[ay,ag];rw[show((0:Int) != 0)=false from rfl];simp only[ay];show bl v c x _ (Option.bind (eX (v,br r,())) _) _;rw[iO v _ hl d,aU b.1];simp only[ag]
 show bl v c x (cond (c.1 != 0) (cond (c.1 != ef (I J v.2.1 i)) (some (1,(v,c,x,()),())) (cond (bM x != ef (I J v.2.1 i)) (some (1,(v,c,x,()),())) (Option.bind (r' (c,dV x,())) fun v6=>cond (!v6.1) (some (1,(v,c,x,()),())) (oy (q+4) (i:Int) (v,c,x,()))))) (oy (q+4) (i:Int) (v,c,x,())))
  (cond (aF x==15) _ (cond (aF x==16) (cond (c.1 != 0) (cond (c.1 != ef (I J v.2.1 i)) (some (v,(1,[],()),())) (cond (bM x != ef (I J v.2.1 i)) (some (v,(1,[],()),())) (Option.bind (sS (c,dV x,())) fun A=>cond (!A.1) (some (v,(1,[],()),())) ((gL (q+2)).k4 v (0,([]:List J.D),()) (0,([]:aO),()) (iv (I J v.2.1 i) (eL (I J v.2.1 i)) (bM x) (dV x))))))
   ((gL (q+2)).k4 v (0,([]:List J.D),()) (0,([]:aO),()) (iv (I J v.2.1 i) (eL (I J v.2.1 i)) (bM x) (dV x)))) _)) _
 rw[bO (show aF x≠15 by omega),cf hk,Nr c _ hc,Nq c _ hc];simp only[au,ay,ag]
 have h:bl v c x (oy (q+4) (i:Int) (v,c,x,())) ((gL (q+2)).k4 v (0,([]:List J.D),()) (0,([]:aO),()) (iv (I J v.2.1 i) (eL (I J v.2.1 i)) (bM x) (dV x))) (yx v c x):=by
  have e:oy (q+4) (i:Int) (v,c,x,())=some (0,((v.1,v.2.1.set i (iv (I J v.2.1 i) (eL (I J v.2.1 i)) (bM x) (dV x)),()),c,x,()),()):=by rw[oy,Jz];show Option.bind (ax v.2.1.length (i:Int)) (fun v1=>Jy (i:Int) (v,c,x,()) (v.2.1.set v1 (iv (I J v.2.1 v1) (eL (I J v.2.1 v1)) (bM x) (eZ (I J v.2.1 v1)))))=_;rw[aU b.1];simp only[ag];unfold Jy;rw[aU (by rw[bL];exact b.1)];simp only[ag];unfold Rh;rw[dL,iq b.1,bg rfl];rfl
  rw[e,NV hv _ _ b.1 _ (Xg _ _ _ _) (Xh hv b.1 _ _ _),F6 hv b.1];exact bl.yes 0 _ (fun _=>⟨p,u,r,i,hr,a,d,rfl⟩) rfl rfl
 by_cases j:c.1=0
 ·rw[dA j];exact h
 ·rw[cY j];simp only[au];by_cases k:c.1=ef (I J v.2.1 i)
  ·rw[dA k];simp only[ay];by_cases hn:bM x=ef (I J v.2.1 i)
   ·rw[dA hn];simp only[ay]
    cases la c (dV x)with
    |false=>exact bl.no 1 (by decide) rfl rfl
    |true=>exact h
   ·rw[cY hn];exact bl.no 1 (by decide) rfl rfl
  ·rw[cY k];exact bl.no 1 (by decide) rfl rfl
def lg(x:aQ)(b k:Int):aQ:=(x.1,x.2.1,x.2.2.1,x.2.2.2.1,x.2.2.2.2.1,x.2.2.2.2.2.1,x.2.2.2.2.2.2.1,b,k,())
def ahA(x:aQ)(b k:Int):(lg x b k).1=x.1:=rfl
structure F7(v:ad.D)(c:aM.D)(x:aL.D)(w:ad.D):Prop where
 out:(0<=bM x/\bM x<=400)/\(0<=dV x/\dV x<=24)/\c.1=0/\∃r i,gM v.2.1 r/\bH r=0/\bp v.2.1 (br r)=some i/\kindOf (I J v.2.1 i)=2/\w=(v.1,v.2.1.set i (lg (I J v.2.1 i) (bM x) (dV x)),())/\eD w.2.1=0
def ahB(v:ad.D)(c:aM.D)(x:aL.D)(hv:bY v)(hc:dB c=true)(o:hd x)(hk:aF x=19):bl v c x (BL ((v,c,x,()),())) (qu (v,c,x,())) (F7 v c x):=by
 have m:=hv.iu;have hl:v.2.1.length<=1048576:=m.len;have ai:=o.path;obtain⟨q,p,E⟩:=iK 4;show bl v c x (JC (v,c,x,())) (qt (gL aC) v c x) _;unfold JC qt;show bl v c x (Option.bind (cT (bM x,0,400,())) fun v1=>cond (!v1.1) _ (Option.bind (cT (dV x,0,24,())) _)) (cond (aF x==15) _ (cond (aF x==16) _ (Option.bind (cH (bM x,0,400,())) fun s=>cond (!s.1) _ (Option.bind (cH (dV x,0,24,())) _)))) _;rw[bO (show aF x≠15 by omega),bO (show aF x≠16 by omega)];simp only[au,ay];rw[fZ,fY];simp only[ag];rw[p]
 cases u:b8 (bM x) 0 400 with
 |false=>simp only[cR,au];rw[yv];exact bl.no 22 (by decide) rfl rfl
 |true=>
 have w:=cL.1 u;simp only[bJ,ay];rw[fZ,fY];simp only[ag];rw[yv];unfold xN
 cases z:b8 (dV x) 0 24 with
 |false=>exact bl.no 22 (by decide) rfl rfl
 |true=>
 have A:=cL.1 z;simp only[bJ,ay];show bl v c x (cond (c.1 != 0) _ _) (cond (aF x==19) (cond (c.1 != 0) _ _) _) _;rw[cf hk];simp only[au];by_cases g:c.1=0
 case neg=>rw[cY g];exact bl.no 1 (by decide) rfl rfl
 rw[dA g];simp only[ay];rw[NU];unfold xO;obtain⟨r,⟨hr,F⟩,B,C,D⟩:=qQ v c x true m hc (by omega);show bl v c x _ (Option.bind (eI (v,c,eP x,true,())) _) _;rw[B];simp only[ag];show bl v c x _ (cond (bH r != 0) (some (v,(bH r,[],()),())) _) _;by_cases a:bH r=0
 case neg=>rw[C a,cY a];simp only[ag];rw[cY a];exact bl.no (bH r) a rfl rfl (gM.rg ‹_›)
 obtain⟨i,j,l⟩:=D a;have b:=b3 j;rw[l,dA a];simp only[ay,ag];rw[show((0:Int) != 0)=false from rfl];simp only[ay];show bl v c x _ (Option.bind (eX (v,br r,())) _) _;rw[iO v _ hl j,aU b.1];simp only[ag]
 show bl v c x (cond (kindOf (I J v.2.1 i) != 2) (some (20,(v,c,x,()),())) (BK ((i:Int),0,(v,c,x,()),()) (v.2.1.set i (lg (I J v.2.1 i) (bM x) (eo (I J v.2.1 i))))))
  (cond (aF x==15) _ (cond (aF x==16) _ (cond (kindOf (I J v.2.1 i) != 2) (some (v,(20,[],()),())) ((gL (q+2)).k4 v (0,([]:List J.D),()) (0,([]:aO),()) (lg (I J v.2.1 i) (bM x) (dV x)))))) _
 rw[bO (show aF x≠15 by omega),bO (show aF x≠16 by omega)];simp only[ay];by_cases e:kindOf (I J v.2.1 i)=2
 case neg=>rw[cY e];exact bl.no 20 (by decide) rfl rfl
 rw[dA e];simp only[ay];have n:av 1000 (v.2.1.set i (lg (I J v.2.1 i) (bM x) (dV x))):=(hv.st.set (k:=1) (i:=i) (y:=lg (I J v.2.1 i) (bM x) (dV x)) b.1 rfl (fun d aa=>hv.hU i b.1 d aa) (fun hk=>absurd e hk) (n0 _ _) (n0 _ _)).mono (by omega);have l:BK ((i:Int),0,(v,c,x,()),()) (v.2.1.set i (lg (I J v.2.1 i) (bM x) (eo (I J v.2.1 i))))=some (eD (v.2.1.set i (lg (I J v.2.1 i) (bM x) (dV x))),((v.1,v.2.1.set i (lg (I J v.2.1 i) (bM x) (dV x)),()),c,x,()),()):=by unfold BK;rw[aU (by rw[bL];exact b.1)];simp only[ag];rw[dL,iq b.1,bg rfl];show JB ((i:Int),0,(v,c,x,()),()) (v.2.1.set i (lg (I J v.2.1 i) (bM x) (dV x)))=_;unfold JB;show Option.bind (lC (((v.1,v.2.1.set i (lg (I J v.2.1 i) (bM x) (dV x)),()),c,x,()),())) _=_;rw[yk (v.1,v.2.1.set i (lg (I J v.2.1 i) (bM x) (dV x)),()) c x n (by omega)];rfl
 rw[l,NV hv _ _ b.1 _ (ahA _ _ _) n];exact bl.yes _ _ (fun h=>⟨w,A,g,r,i,hr,a,j,e,rfl,h⟩) rfl rfl
end Go.LM.i_
