/- Volumes: both sides are the same plain functions. Conditions: each theorem's own hypotheses. -/
import Derived.Test.YtklmgcjamifmaaaGreatDoorMLmd
import Derived.Test.YtklmgcjamifmaaaGreatDoorMVa
set_option linter.unusedVariables false
set_option linter.unusedSimpArgs false
namespace Go.LM
theorem sF:aP=18446744073709551616:=by unfold aP;rfl
theorem cp{i n:Nat}(h:i<n):decide ((i:Int)<(n:Int))=true:=by simp;omega
theorem cM{i n:Nat}(h:n≤i):decide ((i:Int)<(n:Int))=false:=by simp;omega
theorem mP{p:Prop}[Decidable p](h:¬p):decide p=false:=by simp [h]
theorem nR{p:Prop}[Decidable p](h:p):decide p=true:=by simp [h]
theorem fuel{k m:Nat}(h:k<m):∃q,m=q+1∧k≤q:=⟨m-1,by omega,by omega⟩
mutual
def ad.cost:(t:ad)→t.D→Nat
 | .raw,_=>0
 | .int _,_=>0
 | .bool,_=>0
 | .str,x=>List.length x
 | .sl t,xs=>List.length xs +(xs.map fun y=>t.cost y).sum
 | .st aj,x=>aj.cost x
def ay.cost:(aj:ay)→aj.D→Nat
 | .nil,_=>0
 | .cons t aj,x=>t.cost x.1+aj.cost x.2
end
mutual
def ad.wt:(t:ad)→t.D→Nat
 | .raw,_=>1
 | .int _,_=>1
 | .bool,_=>1
 | .str,_=>1
 | .sl t,xs=>(xs.map fun y=>t.wt y).sum
 | .st aj,x=>aj.wt x
def ay.wt:(aj:ay)→aj.D→Nat
 | .nil,_=>0
 | .cons t aj,x=>t.wt x.1+aj.wt x.2
end
theorem UR{α : Type}{f : α → Nat}{y : α} : ∀ {l:List α},y∈l→f y≤(l.map f).sum
 | x :: l,h=>by
  rcases List.mem_cons.1 h with rfl | h
  ·simp
  ·have:=UR (f:=f) h;simp;omega
theorem US{t:ad}(l:List t.D):l.length≤ad.cost (.sl t) l:=by simp only [ad.cost];omega
theorem afW{t:ad}{l:List t.D}{i:Nat}(h:i<l.length):J t l i∈l:=by rw [vK h];exact List.getElem_mem h
theorem afX{t:ad}{l:List t.D}{i:Nat}(h:i<l.length):l.length+t.cost (J t l i)≤ad.cost (.sl t) l:=by
 simp only [ad.cost]
 have:=UR (f:=fun y=>t.cost y) (afW h)
 omega
theorem drop_cons{t:ad}{l:List t.D}{i:Nat}(h:i<l.length):l.drop i=J t l i :: l.drop (i+1):=by
 rw [vK h];exact List.drop_eq_getElem_cons h
theorem UT{t:ad}{x:List t.D} : ad.cost (.sl t) x=x.length +(x.map fun y=>t.cost y).sum:=by simp only [ad.cost]
theorem Mv{aj:ay}{x:aj.D} : ad.cost (.st aj) x=aj.cost x:=by simp only [ad.cost]
theorem Mw{t:ad}{aj:ay}{x:(ay.cons t aj).D} : ay.cost (.cons t aj) x=t.cost x.1+aj.cost x.2:=by simp only [ay.cost]
theorem Mx{x:ay.nil.D} : ay.cost .nil x=0:=by simp only [ay.cost]
theorem My{k:IntKind}{x:Int} : ad.cost (.int k) x=0:=by simp only [ad.cost]
theorem UU{x:Bool} : ad.cost .bool x=0:=by simp only [ad.cost]
theorem UW{x:List UInt8} : ad.cost .str x=x.length:=by simp only [ad.cost]
section
variable{mt:Int→List UInt8}{k k':Int}
end
theorem Ah{α : Type}{f g : α → Nat}(M:Nat):∀(l:List α),(∀y,y∈l→f y≤M*(1+g y))→(l.map f).sum≤M*(l.length +(l.map g).sum)
 | [],_=>by simp
 | y :: l,h=>by
  have h1:=h y List.mem_cons_self
  have h2:=Ah M l fun z hz=>h z (List.mem_cons_of_mem _ hz)
  simp only [List.map_cons,List.sum_cons,List.length_cons]
  have:M*(l.length+1 +(g y +(l.map g).sum))=M*(1+g y)+M*(l.length +(l.map g).sum):=by rw [← Nat.mul_add];congr 1;omega
  omega
theorem ju{n:Nat}(h:n≤4611686018427387904):n<aP:=by rw [sF];omega
theorem mQ{β : Type}(n:Nat)(hn:n≤4611686018427387904)(L:Nat→Int → β)(G:Nat → β)(Inv:Nat→Prop)
  (h0:∀m,Inv n→L (m+1) (n:Int)=G n)
  (hs:∀m (i:Nat),i<n→Inv i→aG ((i:Int)+1)=(i:Int)+1→(Inv (i+1)→L m ((i:Int)+1)=G (i+1))→L (m+1) (i:Int)=G i) :
  ∀(r i m:Nat),i+r=n→r<m→Inv i→L m (i:Int)=G i:=by
 intro r
 induction r with
 | zero =>
  intro i m hi hm hv
  obtain ⟨m,rfl,_⟩:=fuel hm
  have:i=n:=by omega
  subst this
  exact h0 m hv
 | succ r ih =>
  intro i m hi hm hv
  obtain ⟨m,rfl,hq⟩:=fuel hm
  refine hs m i (by omega) hv (te (by omega) (by omega)) fun lE=>?_
  have:=ih (i+1) m (by omega) (by omega) lE
  simpa only [Int.natCast_add,Int.cast_ofNat_Int] using this
theorem iI(k:Nat)(h:k≤1000:=by omega):∃q,aP=q+k∧4611686018427387904<q:=⟨aP-k,by rw [sF];omega,by rw [sF];omega⟩
theorem mR{α : Type}(a:Bool)(x y : α):cond a (some (x,())) (some (y,()))=some (cond a x y,()):=by cases a <;> rfl
def c0(x lo hi:Int):Bool:=decide (lo≤x)&&decide (x≤hi)
theorem dM{x lo hi:Int} : c0 x lo hi=true↔lo≤x∧x≤hi:=by simp [c0]
theorem UX(a b:Bool):cond a b false=(a&&b):=by cases a <;> rfl
theorem afY(a b:Int):jG a b=min a b:=by unfold jG;omega
theorem UY{s:List UInt8} : bn s []=decide (s.length=0):=by cases s <;> simp [bn]
theorem afZ(s t:List UInt8):bn s t=decide (s=t):=rfl
theorem cV{x y:Int}(h:x≠y):(x != y)=true:=by simp [h]
theorem dt{x y:Int}(h:x=y):(x != y)=false:=by simp [h]
theorem cF{x y:Int}(h:x=y):(x==y)=true:=by simp [h]
theorem b5{x y:Int}(h:x≠y):(x==y)=false:=by simp [h]
theorem cI{n:Nat}(h:n≤68719476736):room n=true:=abh h
theorem xE{α : Type}(l:List α):part l 0 l.length=l:=by simp [part]
theorem Mz{α : Type}(l:List α)(n:Nat):part l n (l.length-n)=l.drop n:=by
 unfold part;rw [List.take_of_length_le (by simp)]
theorem Ai{α : Type}(l:List α)(n:Nat):part l 0 n=l.take n:=by simp [part]
end Go.LM
namespace Go.LM.kD
theorem jv(x a b:Int):eg (x,a,b,())=some (c0 x a b,()):=by
 show JJ x a b=_
 unfold JJ c0
 by_cases h:a≤x <;> simp [h]
theorem jw(x a b:Int):eO (x,a,b,())=some (c0 x a b,()):=by
 show Ky x a b=_
 unfold Ky c0
 by_cases h:a≤x <;> simp [h]
theorem dI{a:Int}(h : -4000000000000000000≤a)(h':a≤4000000000000000000):aG a=a:=te (by omega) (by omega)
def fr(n:Nat)(P:Nat→Bool):Bool:=(List.range n).all P
theorem lj{n:Nat}{P:Nat→Bool} : fr n P=true↔∀i,i<n→P i=true:=by simp [fr,List.all_eq_true]
open Classical in
theorem sG(n:Nat)(hn:n≤4611686018427387904)(P:Nat→Bool)(E:Bool)(L:Nat→Int→Option (Bool×Unit))
  (h0:∀m,(∀j,j<n→P j=true)→L (m+1) (n:Int)=some (E,()))
  (hs:∀m (i:Nat),i<n→(∀j,j<i→P j=true)→aG ((i:Int)+1)=(i:Int)+1→L (m+1) (i:Int)=cond (P i) (L m ((i:Int)+1)) (some (false,())))
  (q:Nat:=aP) (hq:n<q:=by exact ju (by omega)):L q 0=some (fr n P&&E,()):=by
 have:=mQ n hn L (fun i=>some (decide (∀j,i≤j→j<n→P j=true)&&E,())) (fun i=>∀j,j<i→P j=true) (fun m hi=>by
  rw [h0 m hi]
  rw [decide_eq_true (by intro j h1 h2;omega)];rfl) (fun m i hi hinv hw ih=>by
  rw [hs m i hi hinv hw]
  cases au:P i
  ·simp only [cond_false]
   rw [decide_eq_false (fun h=>by have:=h i (Nat.le_refl _) hi;rw [au] at this;cases this)];rfl
  ·simp only [cond_true]
   rw [ih (fun j hj=>by
    by_cases h:j=i
    ·subst h;exact au
    ·exact hinv j (by omega))]
   congr 3
   apply decide_eq_decide.2
   constructor
   ·intro h j h1 h2
    by_cases lU:j=i
    ·subst lU;exact au
    ·exact h j (by omega) h2
   ·intro h j h1 h2;exact h j (by omega) h2) n 0 q (by omega) hq (by intro j hj;omega)
 rw [Int.natCast_zero] at this
 rw [this]
 congr 3
 rw [Bool.eq_iff_iff,lj,decide_eq_true_eq]
 exact⟨fun h i hi=>h i (by omega) hi,fun h i _ hi=>h i hi⟩
theorem nS{α : Type}(a:Bool)(x y : α):cond (!a) x y=cond a y x:=by cases a <;> rfl
theorem MA{α : Type}(a b:Bool)(x y : α):cond (a&&b) x y=cond a (cond b x y) y:=by cases a <;> rfl
theorem FP{α : Type}(a b:Bool)(x y : α):cond (a||b) x y=cond a x (cond b x y):=by cases a <;> rfl
theorem MB{n i:Nat}(h:i+1<n)(hn:n≤4000000000000000000):aM n (aG (((i+1:Nat):Int)-1))=some i:=by
 rw [dI (by omega) (by omega),show((i+1:Nat):Int)-1=(i:Int) by omega,bx (by omega)]
theorem MC:decide (((0:Nat):Int)>0)=false:=rfl
theorem MD(i:Nat):decide (((i+1:Nat):Int)>0)=true:=by simp
def ke(c:aI.D):Bool :=
 c0 c.1 1 22&&decide ((c.2.1.length:Int)≤60)&&decide ((c.2.2.1.length:Int)≤60)&&decide ((c.2.2.2.2.2.1.length:Int)≤64)&&c0 c.2.2.2.1 (-1000000) 1000000&&c0 c.2.2.2.2.1 (-1000000) 1000000 &&
  (bn c.2.2.1 []||(c.1==9||(c.1==10||c.1==12)))&&(bn c.2.2.2.2.2.1 []||(c.1==5||c.1==6))
theorem ME(c:aI.D):JL (c,())=some (ke c,()):=by
 obtain ⟨q,hq,_⟩:=iI 1
 show CI (y_ aP) c=_
 rw [hq]
 unfold CI
 simp only [y_,JK,jv,av,mR]
 congr 2
 simp only [ke,c0,UY]
 generalize c.2.1.length=a
 generalize c.2.2.1.length=b
 generalize c.2.2.2.2.2.1.length=d
 generalize c.1=k
 generalize c.2.2.2.1=e
 generalize c.2.2.2.2.1=f
 simp only [nS,MA,FP]
 rw [Bool.eq_iff_iff]
 simp only [Bool.cond_eq_ite,Bool.ite_eq_true_distrib,Bool.and_eq_true,Bool.or_eq_true,decide_eq_true_eq,beq_iff_eq,bne_iff_ne]
 grind (splits:=40)
theorem af0(c:aI.D):KO (c,())=some (ke c,()):=by
 obtain ⟨q,hq,_⟩:=iI 2
 show Ev (Ew aP) c=_
 rw [hq]
 unfold Ev
 simp only [Ew,eN,KN,Sj,Sk,jw,av,mR]
 congr 2
 simp only [ke,c0,UY]
 generalize c.2.1.length=a
 generalize c.2.2.1.length=b
 generalize c.2.2.2.2.2.1.length=d
 generalize c.1=k
 generalize c.2.2.2.1=e
 generalize c.2.2.2.2.1=f
 rw [Bool.eq_iff_iff]
 simp only [Bool.cond_eq_ite,Bool.ite_eq_true_distrib,Bool.and_eq_true,Bool.or_eq_true,decide_eq_true_eq,beq_iff_eq,bne_iff_ne]
 grind (splits:=60)
def eR(n:Nat)(P:Nat→Bool):Option Nat:=(List.range n).find? P
theorem gA{n i:Nat}{P:Nat→Bool} : eR n P=some i↔i<n∧P i=true∧∀j,j<i→P j=false:=by
 unfold eR
 rw [List.find?_range_eq_some]
 constructor
 ·rintro ⟨h1,h2,h3⟩;exact⟨by simpa using h2,h1,fun j hj=>by simpa using h3 j hj⟩
 ·rintro ⟨h1,h2,h3⟩;exact⟨h2,by simpa using h1,fun j hj=>by simpa using h3 j hj⟩
theorem kf{n:Nat}{P:Nat→Bool} : eR n P=none↔∀i,i<n→P i=false:=by
 unfold eR
 rw [List.find?_eq_none]
 simp
theorem sH{β : Type}(n:Nat)(hn:n≤4611686018427387904)(P:Nat→Bool)(R:Option Nat → β)(L:Nat→Int → β)
  (h0:∀m,L (m+1) (n:Int)=R none)
  (hs:∀m (i:Nat),i<n→aG ((i:Int)+1)=(i:Int)+1→L (m+1) (i:Int)=cond (P i) (R (some i)) (L m ((i:Int)+1))) (q:Nat:=aP) (hq:n<q:=by exact ju (by omega)) :
  L q 0=R (eR n P):=by
 have key:=mQ n hn L (fun i=>R (eR n P)) (fun i=>∀j,j<i→P j=false) (fun m hi=>by rw [h0 m,kf.2 hi]) (fun m i hi hinv hw ih=>by
  rw [hs m i hi hw]
  cases au:P i
  ·simp only [cond_false]
   refine ih fun j hj=>?_
   by_cases h:j=i
   ·subst h;exact au
   ·exact hinv j (by omega)
  ·simp only [cond_true]
   rw [gA.2 ⟨hi,au,hinv⟩]) n 0 q (by omega) hq (by intro j hj;omega)
 simpa using key
def hd:Option Nat→Int
 | none => -1
 | some i=>i
theorem Aj{o:Option Nat} : decide (hd o<0)=o.isNone:=by
 cases o with
 | none=>rfl
 | some i=>exact decide_eq_false (by show ¬((i:Int)<0);omega)
theorem Ak{o:Option Nat} : decide (hd o≥0)=o.isSome:=by cases o <;> simp [hd]
theorem contains_eq(l:List Int)(x:Int)(hl:l.length≤4611686018427387904):sj (l,x,())=some (decide (x∈l),()):=by
 show KD l x=_
 unfold KD
 have h:KC (l,x,())=some (hd (eR l.length (fun i=>x==J (.int .i64) l i)),()):=by
  show Ed (uU aP) l x=_
  unfold Ed
  refine sH l.length hl _ (fun o=>some (hd o,())) (fun m i=>uU m l x (l.length:Int) i) ?_ ?_
  ·intro m
   simp only [uU,Ee]
   rw [cM (Nat.le_refl _)];rfl
  ·intro m i hi hw
   simp only [uU,Ee,hw]
   rw [cp hi,bx hi];rfl
 rw [h]
 simp only [av,Ak]
 congr 2
 rw [Bool.eq_iff_iff,decide_eq_true_eq,Option.isSome_iff_exists]
 constructor
 ·rintro ⟨i,hi⟩
  obtain ⟨h1,h2,_⟩:=gA.1 hi
  have h2:x=J (.int .i64) l i:=by simpa using h2
  rw [h2,c6 h1];exact List.getElem_mem h1
 ·intro hx
  obtain ⟨i,hi,he⟩:=List.mem_iff_getElem.1 hx
  cases hf:eR l.length (fun i=>x==J (.int .i64) l i) with
  | some j=>exact⟨j,rfl⟩
  | none =>
   have:=kf.1 hf i hi
   have aB:J (.int .i64) l i=l[i]:=c6 (t:=.int .i64) hi
   rw [aB,he] at this
   simp at this
def sI(b:Int):Bool:=decide (b≥97)&&decide (b≤122)||decide (b≥48)&&decide (b≤57)||b==46||b==95||b==45
theorem FQ(b:Int):y' (b,())=some (sI b,()):=by
 show JM b=_
 unfold JM sI
 simp only [mR]
 congr 2
 rw [Bool.eq_iff_iff]
 simp only [Bool.cond_eq_ite,Bool.ite_eq_true_distrib,Bool.and_eq_true,Bool.or_eq_true,decide_eq_true_eq,beq_iff_eq]
 grind
theorem UZ(b:Int):DV (b,())=some (sI b,()):=by
 show Se b=_
 rw [← FQ];rfl
def nb(s:List UInt8)(i:Nat):Int:=((s.getD i 0).toNat:Int)
def ig(s:List UInt8):Bool:=fr s.length (fun i=>sI (nb s i))&&(c0 (s.length:Int) 1 8&&(!bn s [46] && !bn s [46,46]))
theorem af1(s:List UInt8):Kw (s,())=some (ig s,()):=by
 show DP (si aP) s=_
 unfold DP
 simp only [jv,av]
 by_cases hl:c0 (s.length:Int) 1 8=true
 case neg=>rw [Bool.not_eq_true] at hl;unfold ig;rw [hl];simp
 have hb:=dM.1 hl
 have hk:si aP s 0=some (fr s.length (fun i=>sI (nb s i))&&true,()):=by
  refine sG s.length (by omega) _ true (fun m i=>si m s i) ?_ ?_
  ·intro m _
   simp only [si,DQ]
   rw [cM (Nat.le_refl _)];rfl
  ·intro m i hi _ hw
   simp only [si,DQ,hw]
   rw [cp hi,bx hi]
   simp only [cond_true,av,FQ,nS];rfl
 rw [hk,hl]
 unfold ig
 rw [hl]
 cases bn s [46] <;> cases bn s [46,46] <;> simp
theorem af2(s:List UInt8)(hl:s.length≤4000000000000000000):Kz (s,())=some (ig s,()):=by
 show D6 (uS aP) s=_
 unfold D6 ig
 refine sG s.length (by omega) _ _ (fun m i=>uS m s (s.length:Int) i) ?_ ?_
 ·intro m _
  simp only [uS,D7]
  rw [cM (Nat.le_refl _)]
  simp only [jw,av,cond_false,mR]
  congr 2
  cases c0 (s.length:Int) 1 8 <;> cases bn s [46] <;> rfl
 ·intro m i hi _ hw
  simp only [uS,D7,hw]
  rw [cp hi,bx hi]
  simp only [cond_true,av,UZ,nS];rfl
def jx(s:List UInt8):Bool:=fr s.length (fun i=>nb s i==47||sI (nb s i))&&c0 (s.length:Int) 1 60
theorem U0(s:List UInt8):za (s,())=some (jx s,()):=by
 show CK (uf aP) s=_
 unfold CK
 simp only [jv,av]
 by_cases hl:c0 (s.length:Int) 1 60=true
 case neg=>rw [Bool.not_eq_true] at hl;unfold jx;rw [hl];simp
 have hb:=dM.1 hl
 unfold jx
 rw [hl]
 simp only [Bool.not_true,cond_false]
 refine sG s.length (by omega) _ true (fun m i=>uf m s i) ?_ ?_
 ·intro m _
  simp only [uf,CL]
  rw [cM (Nat.le_refl _)];rfl
 ·intro m i hi _ hw
  simp only [uf,CL,hw]
  rw [cp hi,bx hi]
  simp only [cond_true,av,FQ,nS,FP,bne];rfl
theorem MF(s:List UInt8)(hl:s.length≤4000000000000000000):xi (s,())=some (jx s,()):=by
 show DX (uP aP) s=_
 unfold DX jx
 refine sG s.length (by omega) _ _ (fun m i=>uP m s (s.length:Int) i) ?_ ?_
 ·intro m _
  simp only [uP,DY]
  rw [cM (Nat.le_refl _)]
  simp only [jw,av,cond_false]
 ·intro m i hi _ hw
  simp only [uP,DY,hw]
  rw [cp hi,bx hi]
  simp only [cond_true,av,UZ,nS,FP,bne];rfl
abbrev aJ:Type:=I.D
def ak(x:aJ):List aw.D:=x.2.2.2.2.2.2.1
def bw(x:aJ):List UInt8:=x.2.2.2.2.2.1
def bd(l:List aJ)(id:Int):Option Nat:=eR l.length (fun i=>(J I l i).1==id)
theorem l1(v:ae.D)(id:Int)(hl:v.2.1.length≤1048576):jQ (v,id,())=some (hd (bd v.2.1 id),()):=by
 show CX (um aP) v id=_
 unfold CX bd
 refine sH v.2.1.length (by omega) _ (fun o=>some (hd o,())) (fun m i=>um m id i v) ?_ ?_
 ·intro m
  simp only [um,CY]
  rw [cM (Nat.le_refl _)];rfl
 ·intro m i hi hw
  simp only [um,CY,hw]
  rw [cp hi,bx hi];rfl
def U1(l:List aJ):Option Nat→List aJ
 | none=>[]
 | some i=>[J I l i]
theorem xF(v:ae.D)(id:Int)(hl:v.2.1.length≤1048576):fA (v,id,())=some (U1 v.2.1 (bd v.2.1 id),()):=by
 show D0 (uQ aP) v id=_
 unfold D0 bd
 refine sH v.2.1.length (by omega) _ (fun o=>some (U1 v.2.1 o,())) (fun m i=>uQ m v id (v.2.1.length:Int) i) ?_ ?_
 ·intro m
  simp only [uQ,D1]
  rw [cM (Nat.le_refl _)];rfl
 ·intro m i hi hw
  simp only [uQ,D1,hw]
  rw [cp hi,bx hi];rfl
theorem bT{l:List aJ}{id:Int}{i:Nat}(h:bd l id=some i):i<l.length∧(J I l i).1=id:=by
 obtain ⟨h1,h2,_⟩:=gA.1 h
 exact⟨h1,by simpa using h2⟩
def bytesOf(l:List aJ):Nat:=(l.map fun x=>(bw x).length).sum
theorem af3{l:List aJ}{i:Nat}(hi:i<l.length):bytesOf (l.drop i)=(bw (J I l i)).length+bytesOf (l.drop (i+1)):=by
 rw [drop_cons (t:=I) hi];rfl
theorem MG(l:List aJ)(i:Nat):bytesOf (l.take i)+bytesOf (l.drop i)=bytesOf l:=by
 unfold bytesOf
 rw [← List.sum_append_nat,← List.map_append,List.take_append_drop]
theorem xG{l:List aJ}{i:Nat}(hi:i<l.length):bytesOf (l.take (i+1))=bytesOf (l.take i) +(bw (J I l i)).length:=by
 have h1:=MG l i
 have h2:=MG l (i+1)
 have h3:=af3 hi
 omega
theorem FR(l:List aJ)(i:Nat):bytesOf (l.take i)≤bytesOf l:=by have:=MG l i;omega
theorem MH(v:ae.D)(hl:v.2.1.length≤1048576)(hb:bytesOf v.2.1≤1048576):zg (v,())=some ((bytesOf v.2.1:Int),()):=by
 show C8 (uw aP) v=_
 unfold C8
 have:=mQ v.2.1.length (by omega) (fun m i=>uw m (bytesOf (v.2.1.take i.toNat):Int) i v) (fun _=>some ((bytesOf v.2.1:Int),())) (fun _=>True) (fun m _=>by
  simp only [uw,C9]
  rw [cM (Nat.le_refl _)]
  simp only [Int.toNat_natCast,List.take_length,cond_false]) (fun m i hi _ hw ih=>by
  simp only [uw,C9,hw]
  rw [cp hi,bx hi]
  simp only [cond_true,av,Int.toNat_natCast]
  have ih:=ih trivial
  rw [show((i:Int)+1).toNat=i+1 by omega,xG hi,Int.natCast_add] at ih
  have h2:=FR v.2.1 (i+1)
  rw [xG hi] at h2
  rw [dI (by omega) (by have:((J I v.2.1 i).2.2.2.2.2.1).length=(bw (J I v.2.1 i)).length:=rfl;omega)]
  exact ih) v.2.1.length 0 aP (by omega) (ju (by omega)) trivial
 simpa [bytesOf] using this
theorem MI(v:ae.D)(hl:v.2.1.length≤1048576)(hb:bytesOf v.2.1≤1048576):sk (v,())=some ((bytesOf v.2.1:Int),()):=by
 show Ei (uY aP) v=_
 unfold Ei
 have:=mQ v.2.1.length (by omega) (fun m i=>uY m (bytesOf (v.2.1.take i.toNat):Int) v.2.1 (v.2.1.length:Int) i) (fun _=>some ((bytesOf v.2.1:Int),())) (fun _=>True) (fun m _=>by
  simp only [uY,Ej]
  rw [cM (Nat.le_refl _)]
  simp only [Int.toNat_natCast,List.take_length,cond_false]) (fun m i hi _ hw ih=>by
  simp only [uY,Ej,hw]
  rw [cp hi,bx hi]
  simp only [cond_true,av,Int.toNat_natCast]
  have ih:=ih trivial
  rw [show((i:Int)+1).toNat=i+1 by omega,xG hi,Int.natCast_add] at ih
  have h2:=FR v.2.1 (i+1)
  rw [xG hi] at h2
  rw [dI (by omega) (by have:((J I v.2.1 i).2.2.2.2.2.1).length=(bw (J I v.2.1 i)).length:=rfl;omega)]
  exact ih) v.2.1.length 0 aP (by omega) (ju (by omega)) trivial
 simpa [bytesOf] using this
def bW{β : Type}(f:Nat → β)(B:Nat)(y : β):Prop:=∀m,B≤m→f m=y
theorem bW.step{β : Type}{f g:Nat → β}{B:Nat}{y : β}(h:bW g B y)(hf:∀m,f (m+1)=g m):bW f (B+1) y:=by
 intro m hm
 obtain ⟨k,rfl⟩:∃k,m=k+1:=⟨m-1,by omega⟩
 rw [hf];exact h k (by omega)
theorem bW.done{β : Type}{f:Nat → β}{y : β}(hf:∀m,f (m+1)=y):bW f 1 y:=by
 intro m hm
 obtain ⟨k,rfl⟩:∃k,m=k+1:=⟨m-1,by omega⟩
 exact hf k
theorem bW.mono{β : Type}{f:Nat → β}{B nm:Nat}{y : β}(h:bW f B y)(hb:B≤nm):bW f nm y:=fun m hm=>h m (by omega)
def dN{lk : Type} : Nat→(Nat → lk → lk) → lk → lk
 | 0,_,s=>s
 | n+1,f,s=>f n (dN n f s)
theorem sJ{lk : Type}{n:Nat}{f:Nat → lk → lk}(Inv:Nat → lk → Prop)(e5:∀i s,i<n→Inv i s→Inv (i+1) (f i s)){s : lk}(h:Inv 0 s):Inv n (dN n f s):=by
 induction n with
 | zero=>exact h
 | succ n ih=>exact e5 n _ (by omega) (ih fun i s hi=>e5 i s (by omega))
theorem sK{lk β : Type}(n W:Nat)(F:Nat→Nat → lk → β)(step:Nat → lk → lk)(Inv:Nat → lk → Prop)(e5:∀i s,i<n→Inv i s→Inv (i+1) (step i s))
  (hs:∀i s,i<n→Inv i s→∀B y,bW (fun m=>F m (i+1) (step i s)) B y→bW (fun m=>F m i s) (B+W) y) (s : lk) (h:Inv 0 s) (B:Nat) (y : β) (he:bW (fun m=>F m n (dN n step s)) B y):bW (fun m=>F m 0 s) (B+n*W) y:=by
 have key:∀k,k≤n→bW (fun m=>F m (n-k) (dN (n-k) step s)) (B+k*W) y:=by
  intro k
  induction k with
  | zero=>intro _;simpa using he
  | succ k ih =>
   intro hk
   have:=ih (by omega)
   have hinv:Inv (n-(k+1)) (dN (n-(k+1)) step s):=sJ Inv (fun i s hi=>e5 i s (by omega)) h
   have h2:=hs (n-(k+1)) _ (by omega) hinv (B+k*W) y (by
    rw [show n-(k+1)+1=n-k by omega]
    have e:dN (n-k) step s=step (n-(k+1)) (dN (n-(k+1)) step s):=by
     rw [show n-k=(n-(k+1))+1 by omega];rfl
    rw [← e];exact this)
   rw [Nat.add_one_mul,← Nat.add_assoc]
   exact h2
 have:=key n (Nat.le_refl _)
 simpa [dN] using this
def du(l:List aw.D)(id:Int):Nat:=(l.filter fun d=>d.2.1==id).length
def ck(l:List aJ)(id:Int):Nat:=(l.map fun x=>du (ak x) id).sum
theorem af4{l:List aw.D}{id:Int}{j:Nat}(hj:j<l.length):du (l.take (j+1)) id=du (l.take j) id+cond ((J aw l j).2.1==id) 1 0:=by
 unfold du
 rw [List.take_succ_eq_append_getElem hj,List.filter_append,List.length_append]
 congr 1
 rw [c6 hj]
 cases h:(l[j]).2.1==id <;> simp [List.filter_cons,h]
theorem af5(l:List aw.D)(id:Int):du l id≤l.length:=List.length_filter_le _ _
theorem MJ{l:List aJ}{id:Int}{i:Nat}(hi:i<l.length):ck (l.take (i+1)) id=ck (l.take i) id+du (ak (J I l i)) id:=by
 unfold ck
 rw [List.take_succ_eq_append_getElem hi,List.map_append,List.sum_append_nat]
 simp [c6 hi]
def dw(l:List aJ):Nat:=(l.map fun x=>(ak x).length).sum
theorem U2(l:List aJ)(id:Int):ck l id≤dw l:=by
 unfold ck dw
 induction l with
 | nil=>simp
 | cons x l ih=>simp only [List.map_cons,List.sum_cons];have:=af5 (ak x) id;omega
theorem fI{l:List aJ}{i:Nat}(hi:i<l.length):(ak (J I l i)).length≤dw l:=by
 unfold dw
 rw [c6 hi]
 have:∀(l:List aJ) (i:Nat) (hi:i<l.length),(ak l[i]).length≤(l.map fun x=>(ak x).length).sum:=by
  intro l
  induction l with
  | nil=>intro i hi;simp at hi
  | cons x l ih =>
   intro i hi
   simp only [List.map_cons,List.sum_cons]
   cases i with
   | zero=>simp
   | succ i=>have:=ih i (by simpa using hi);simp only [List.getElem_cons_succ];omega
 exact this l i hi
theorem U3(l:List aJ)(id:Int)(i:Nat):ck (l.take i) id≤dw l:=by
 refine Nat.le_trans (U2 _ _) ?_
 unfold dw
 conv=>rhs;rw [← List.take_append_drop i l,List.map_append,List.sum_append_nat]
 omega
theorem df(i:Nat)(h:i<4000000000000000000):aG ((i:Int)+1)=((i+1:Nat):Int):=by rw [dI (by omega) (by omega)];omega
theorem MK(l:List aJ)(id:Int):∀i,i≤l.length→dN i (fun i s=>s+du (ak (J I l i)) id) 0=ck (l.take i) id
 | 0,_=>by simp [dN,ck]
 | i+1,h=>by
  rw [dN,MK l id i (by omega),MJ (by omega)]
theorem ML(l:List aw.D)(id:Int)(s:Nat):∀j,j≤l.length→dN j (fun j s=>s+cond ((J aw l j).2.1==id) 1 0) s=s+du (l.take j) id
 | 0,_=>by simp [dN,du]
 | j+1,h=>by
  rw [dN,ML l id s j (by omega),af4 (by omega)];omega
theorem kK{β : Type}{f:Nat → β}{B:Nat}{y : β}(h:bW f B y)(hb:B≤4611686018427387904):f aP=y:=h aP (by have:=ju hb;omega)
theorem FT(v:ae.D)(id:Int)(hl:v.2.1.length≤1048576)(hn:dw v.2.1≤1048576):zq (v,id,())=some ((ck v.2.1 id:Int),()):=by
 show Dh (pJ aP) v id=_
 unfold Dh
 have key:=sK v.2.1.length (1048576+2) (fun m i (s:Nat)=>(pJ m).k3 id (s:Int) (i:Int) v) (fun i s=>s+du (ak (J I v.2.1 i)) id) (fun i s=>s=ck (v.2.1.take i) id) (fun i s hi hs=>by rw [hs,MJ hi]) (fun i s hi hs B y he=>by
  have pU:s≤1048576:=by have:=U3 v.2.1 id i;omega
  have hnl:=fI hi
  have inner:=sK (ak (J I v.2.1 i)).length 1 (fun m j (s:Nat)=>(pJ m).dh id (s:Int) (i:Int) (j:Int) v) (fun j s=>s+cond ((J aw (ak (J I v.2.1 i)) j).2.1==id) 1 0) (fun j s=>s≤1048576+j) (fun j s hj hs=>by
   cases (J aw (ak (J I v.2.1 i)) j).2.1==id <;> simp <;> omega) (fun j s hj hs B y he=>by
   refine he.step fun m=>?_
   show zp (pJ m) _ _ _ _ _=_
   unfold zp
   rw [bx hi]
   simp only [av]
   show cond (decide ((j:Int)<((ak (J I v.2.1 i)).length:Int))) ((aM (ak (J I v.2.1 i)).length (j:Int)).bind _) _=_
   rw [cp hj]
   simp only [cond_true]
   rw [bx hj]
   simp only [av]
   rw [df j (by omega),df s (by omega)]
   show cond ((J aw (ak (J I v.2.1 i)) j).2.1==id) _ _=_
   cases (J aw (ak (J I v.2.1 i)) j).2.1==id <;> rfl) s (by omega) (B+1) y (by
   refine he.step fun m=>?_
   rw [ML _ _ _ _ (Nat.le_refl _),List.take_length]
   show zp (pJ m) _ _ _ _ _=_
   unfold zp
   rw [bx hi]
   simp only [av]
   show cond (decide (((ak (J I v.2.1 i)).length:Int)<((ak (J I v.2.1 i)).length:Int))) _ _=_
   rw [cM (Nat.le_refl _)]
   simp only [cond_false]
   rw [df i (by omega)])
  refine(inner.step (f:=fun m=>(pJ m).k3 id (s:Int) (i:Int) v) fun m=>?_).mono (by omega)
  show zo (pJ m) _ _ _ _=_
  unfold zo
  rw [cp hi];rfl) 0 (by simp [ck]) 1 (some ((ck v.2.1 id:Int),())) (bW.done fun m=>by
  rw [MK _ _ _ (Nat.le_refl _),List.take_length]
  show zo (pJ m) _ _ _ _=_
  unfold zo
  rw [cM (Nat.le_refl _)];rfl)
 have hm:v.2.1.length*(1048576+2)≤1048576*(1048576+2):=Nat.mul_le_mul_right _ hl
 exact kK key (by omega)
theorem FU(v:ae.D)(id:Int)(hl:v.2.1.length≤1048576)(hn:dw v.2.1≤1048576):xk (v,id,())=some ((ck v.2.1 id:Int),()):=by
 show Eg (pO aP) v id=_
 unfold Eg
 have key:=sK v.2.1.length (1048576+2) (fun m i (s:Nat)=>(pO m).k3 id (s:Int) v.2.1 (v.2.1.length:Int) (i:Int)) (fun i s=>s+du (ak (J I v.2.1 i)) id) (fun i s=>s=ck (v.2.1.take i) id) (fun i s hi hs=>by rw [hs,MJ hi]) (fun i s hi hs B y he=>by
  have pU:s≤1048576:=by have:=U3 v.2.1 id i;omega
  have hnl:=fI hi
  have inner:=sK (ak (J I v.2.1 i)).length 1 (fun m j (s:Nat)=>(pO m).dh id (s:Int) v.2.1 (v.2.1.length:Int) (i:Int) (ak (J I v.2.1 i)) ((ak (J I v.2.1 i)).length:Int) (j:Int)) (fun j s=>s+cond ((J aw (ak (J I v.2.1 i)) j).2.1==id) 1 0) (fun j s=>s≤1048576+j) (fun j s hj hs=>by
   cases (J aw (ak (J I v.2.1 i)) j).2.1==id <;> simp <;> omega) (fun j s hj hs B y he=>by
   refine he.step fun m=>?_
   show zL (pO m) _ _ _ _ _ _ _ _=_
   unfold zL
   rw [cp hj]
   simp only [cond_true]
   rw [bx hj]
   simp only [av]
   rw [df j (by omega),df s (by omega)]
   cases (J aw (ak (J I v.2.1 i)) j).2.1==id <;> rfl) s (by omega) (B+1) y (by
   refine he.step fun m=>?_
   rw [ML _ _ _ _ (Nat.le_refl _),List.take_length]
   show zL (pO m) _ _ _ _ _ _ _ _=_
   unfold zL
   rw [cM (Nat.le_refl _)]
   simp only [cond_false]
   rw [df i (by omega)])
  refine(inner.step (f:=fun m=>(pO m).k3 id (s:Int) v.2.1 (v.2.1.length:Int) (i:Int)) fun m=>?_).mono (by omega)
  show zK (pO m) _ _ _ _ _=_
  unfold zK
  rw [cp hi,bx hi];rfl) 0 (by simp [ck]) 1 (some ((ck v.2.1 id:Int),())) (bW.done fun m=>by
  rw [MK _ _ _ (Nat.le_refl _),List.take_length]
  show zK (pO m) _ _ _ _ _=_
  unfold zK
  rw [cM (Nat.le_refl _)];rfl)
 have hm:v.2.1.length*(1048576+2)≤1048576*(1048576+2):=Nat.mul_le_mul_right _ hl
 exact kK key (by omega)
abbrev Flags:Type:=List Bool
def T(xs:Flags)(i:Nat):Prop:=J .bool xs i=true
theorem vo{xs:Flags}{x i:Nat}(hx:x<xs.length):T (xs.set x true) i↔(i=x∨T xs i):=by
 unfold T J
 simp only [List.getD_eq_getElem?_getD,List.getElem?_set]
 by_cases h:x=i
 ·subst h;simp [hx]
 ·simp only [h,if_false]
  constructor
  ·intro h;exact .inr h
  ·rintro (rfl | h1)
   ·exact absurd rfl h
   ·exact h1
abbrev FS:Type:=Flags×Flags
section
variable(l:List aJ)
def jy(i j:Nat)(s:FS):FS :=
 match bd l (J aw (ak (J I l i)) j).2.1 with
 | none=>s
 | some x=>(s.1.set x true,s.2.set x true)
def iJ(i:Nat)(s:FS):FS:=cond (J .bool s.2 i) (dN (ak (J I l i)).length (jy l i) s) s
def fs(s:FS):FS:=dN l.length (iJ l) s
def FS.gn(n:Nat)(s:FS):Prop:=s.1.length=n∧s.2.length=n
theorem FV{n i j:Nat}{s:FS}(h:s.gn n):(jy l i j s).gn n:=by
 unfold jy;split
 ·exact h
 ·exact⟨by simpa using h.1,by simpa using h.2⟩
theorem FW{n i:Nat}{s:FS}(h:s.gn n):(iJ l i s).gn n:=by
 unfold iJ
 cases J .bool s.2 i
 ·exact h
 ·exact sJ (fun _ s=>FS.gn n s) (fun i s _ hs=>FV l hs) h
theorem MM{n:Nat}{s:FS}(h:s.gn n):(fs l s).gn n:=sJ (fun _ s=>FS.gn n s) (fun i s _ hs=>FW l hs) h
theorem af6(v:ae.D)(hl:v.2.1.length≤1048576)(hn:dw v.2.1≤1048576)(s:FS)(h:s.gn v.2.1.length) :
  (ka aP).eo 0 v s.1 s.2=some ((dN v.2.1.length (fun _=>fs v.2.1) s).1,()):=by
 have key:=sK v.2.1.length (v.2.1.length*1048580+2) (fun m k (s:FS)=>(ka m).eo (k:Int) v s.1 s.2) (fun _=>fs v.2.1) (fun _ s=>s.gn v.2.1.length) (fun _ s _ hs=>MM v.2.1 hs) (fun k s hk hs B y he=>by
  have inner:=sK v.2.1.length 1048580 (fun m i (s:FS)=>(ka m).c3 (k:Int) (i:Int) v s.1 s.2) (iJ v.2.1) (fun _ s=>s.gn v.2.1.length) (fun _ s _ hs=>FW v.2.1 hs) (fun i s hi hs B y he=>by
   have hnl:=fI hi
   cases ho:J .bool s.2 i
   ·refine(he.step (f:=fun m=>(ka m).c3 (k:Int) (i:Int) v s.1 s.2) fun m=>?_).mono (by omega)
    show ux (ka m) _ _ _ _ _=_
    unfold ux
    have e6:aM s.2.length (i:Int)=some i:=bx (by rw [hs.2];exact hi)
    rw [cp hi,e6]
    simp only [cond_true,av,Nat.zero_add,ho,Bool.not_false]
    rw [df i (by omega)]
    unfold iJ;rw [ho];rfl
   ·have hst:iJ v.2.1 i s=dN (ak (J I v.2.1 i)).length (jy v.2.1 i) s:=by unfold iJ;rw [ho];rfl
    rw [hst] at he
    have inj:=sK (ak (J I v.2.1 i)).length 1 (fun m j (s:FS)=>(ka m).C_ (k:Int) (i:Int) (j:Int) v s.1 s.2) (jy v.2.1 i) (fun _ s=>s.gn v.2.1.length) (fun _ s _ hs=>FV v.2.1 hs) (fun j s hj hs B y he=>by
     refine he.step fun m=>?_
     show zi (ka m) _ _ _ _ _ _=_
     unfold zi
     rw [bx hi]
     simp only [av]
     show cond (decide ((j:Int)<((ak (J I v.2.1 i)).length:Int))) ((aM (ak (J I v.2.1 i)).length (j:Int)).bind _) _=_
     rw [cp hj]
     simp only [cond_true]
     rw [bx hj]
     simp only [av]
     rw [l1 v _ hl]
     simp only [av,Ak]
     rw [df j (by omega)]
     show cond (bd v.2.1 (J aw (ak (J I v.2.1 i)) j).2.1).isSome _ _=_
     unfold jy
     cases hx:bd v.2.1 (J aw (ak (J I v.2.1 i)) j).2.1 with
     | none=>rfl
     | some x =>
      have hxl:=(bT hx).1
      simp only [Option.isSome_some,cond_true]
      have hx2:bd v.2.1 (J aw (J I v.2.1 i).2.2.2.2.2.2.1 j).2.1=some x:=hx
      rw [hx2]
      show((aM s.1.length ((x:Nat):Int)).bind _)=_
      rw [bx (by rw [hs.1];exact hxl)]
      simp only [av]
      show((aM s.2.length ((x:Nat):Int)).bind _)=_
      rw [bx (by rw [hs.2];exact hxl)]
      simp only [av,Nat.zero_add]) s hs (B+1) y (by
     refine he.step fun m=>?_
     show zi (ka m) _ _ _ _ _ _=_
     unfold zi
     rw [bx hi]
     simp only [av]
     show cond (decide (((ak (J I v.2.1 i)).length:Int)<((ak (J I v.2.1 i)).length:Int))) _ _=_
     rw [cM (Nat.le_refl _)]
     simp only [cond_false]
     rw [df i (by omega)])
    refine(inj.step (f:=fun m=>(ka m).c3 (k:Int) (i:Int) v s.1 s.2) fun m=>?_).mono (by omega)
    show ux (ka m) _ _ _ _ _=_
    unfold ux
    have e6:aM s.2.length (i:Int)=some i:=bx (by rw [hs.2];exact hi)
    rw [cp hi,e6]
    simp only [cond_true,av,Nat.zero_add,ho,Bool.not_true,cond_false]
    rfl) s hs (B+1) y (by
   refine he.step fun m=>?_
   show ux (ka m) _ _ _ _ _=_
   unfold ux
   rw [cM (Nat.le_refl _)]
   simp only [cond_false]
   rw [df k (by omega)];rfl)
  refine(inner.step (f:=fun m=>(ka m).eo (k:Int) v s.1 s.2) fun m=>?_).mono (by omega)
  show zh (ka m) _ _ _ _=_
  unfold zh
  rw [cp hk];rfl) s h 1 (some ((dN v.2.1.length (fun _=>fs v.2.1) s).1,())) (bW.done fun m=>by
  show zh (ka m) _ _ _ _=_
  unfold zh
  rw [cM (Nat.le_refl _)];rfl)
 have h1:v.2.1.length*1048580≤1048576*1048580:=Nat.mul_le_mul_right _ hl
 have hm:v.2.1.length*(v.2.1.length*1048580+2)≤1048576*(1048576*1048580+2):=Nat.mul_le_mul hl (Nat.add_le_add_right h1 2)
 have wa:=Nat.le_trans hm (by decide:1048576*(1048576*1048580+2)≤4611686018427387000)
 generalize v.2.1.length*(v.2.1.length*1048580+2)=X at *
 exact kK key (by omega)
def fJ(n:Nat):Flags:=List.replicate n false
def dO(id:Int):Flags :=
 match bd l id with
 | none=>fJ l.length
 | some a=>(dN l.length (fun _=>fs l) (fJ l.length,(fJ l.length).set a true)).1
theorem U4(v:ae.D)(id:Int)(hl:v.2.1.length≤1048576)(hn:dw v.2.1≤1048576):Da (v,id,())=some (dO v.2.1 id,()):=by
 show C' (ka aP) v id=_
 unfold C'
 have hr:(decide (0≤(v.2.1.length:Int))&&decide ((v.2.1.length:Int)=(v.2.1.length:Int))&&room (Int.toNat (v.2.1.length:Int)))=true:=by
  rw [Int.toNat_natCast,cI (by omega),decide_eq_true (by omega),decide_eq_true rfl];rfl
 rw [hr]
 simp only [cond_true]
 rw [l1 v id hl]
 simp only [av,Aj,Int.toNat_natCast]
 unfold dO
 cases ha:bd v.2.1 id with
 | none=>rfl
 | some a =>
  simp only [Option.isNone_some,cond_false,hd]
  rw [List.length_replicate,bx (bT ha).1]
  simp only [av,Nat.zero_add]
  exact af6 v hl hn (fJ v.2.1.length,(fJ v.2.1.length).set a true) ⟨by simp [fJ],by simp [fJ]⟩
end
theorem cJ{t:ad}{xs:List t.D}{i:Nat}(h:i<xs.length):J t xs i∈xs:=by rw [c6 h];exact List.getElem_mem h
theorem fg{t:ad}{xs:List t.D}{x:t.D}(h:x∈xs):∃i,i<xs.length∧J t xs i=x:=by
 obtain ⟨i,hi,he⟩:=List.mem_iff_getElem.1 h
 exact⟨i,hi,by rw [c6 hi];exact he⟩
def E(l:List aJ)(a b:Int):Prop:=∃i d,bd l a=some i∧d∈ak (J I l i)∧d.2.1=b
abbrev dP(l:List aJ)(a b:Int):Prop:=Relation.TransGen (E l) a b
def ij(l:List aJ):Prop:=∀x,x<l.length→bd l (J I l x).1=some x
def q0(l:List aJ):Prop:=∀i,i<l.length→∀d,d∈ak (J I l i)→(bd l d.2.1).isSome=true
section
variable(l:List aJ)
theorem U5{xs:Flags}{x i:Nat}(h:T xs i):T (xs.set x true) i:=by
 by_cases hx:x<xs.length
 ·exact(vo hx).2 (.inr h)
 ·rwa [List.set_eq_of_length_le (by omega)]
def FS.le(s aq:FS):Prop:=(∀i,T s.1 i→T aq.1 i)∧(∀i,T s.2 i→T aq.2 i)
theorem FS.le.FX{s:FS} : s.le s:=⟨fun _ h=>h,fun _ h=>h⟩
theorem FS.le.Jz{s aq U6:FS}(h:s.le aq)(k:aq.le U6):s.le U6:=⟨fun i hi=>k.1 i (h.1 i hi),fun i hi=>k.2 i (h.2 i hi)⟩
theorem Al{f:Nat→FS→FS}(h:∀i s,FS.le s (f i s))(s:FS):∀n,FS.le s (dN n f s)
 | 0=>.FX
 | n+1=>(Al h s n).Jz (h n _)
theorem U7{f:Nat→FS→FS}(h:∀i s,FS.le s (f i s))(s:FS){i n:Nat}(hi:i<n):FS.le (f i (dN i f s)) (dN n f s):=by
 induction n with
 | zero=>omega
 | succ n ih =>
  by_cases h1:i=n
  ·subst h1;exact .FX
  ·exact(ih (by omega)).Jz (h n _)
theorem U8(i j:Nat)(s:FS):FS.le s (jy l i j s):=by
 unfold jy;split
 ·exact .FX
 ·exact⟨fun _ h=>U5 h,fun _ h=>U5 h⟩
theorem MN(i:Nat)(s:FS):FS.le s (iJ l i s):=by
 unfold iJ
 cases J .bool s.2 i
 ·exact .FX
 ·exact Al (U8 l i) s _
theorem FY(s:FS):FS.le s (fs l s):=Al (MN l) s _
theorem af7{s:FS}(hs:s.gn l.length){i x:Nat}(hi:i<l.length)(ho:T s.2 i){d:aw.D}(ag:d∈ak (J I l i))(hx:bd l d.2.1=some x):T (fs l s).1 x∧T (fs l s).2 x:=by
 have h1:=U7 (MN l) s hi
 have ht:T (dN i (iJ l) s).2 i:=(Al (MN l) s i).2 i ho
 have rN:(dN i (iJ l) s).gn l.length:=sJ (fun _ s=>FS.gn l.length s) (fun i s _ hs=>FW l hs) hs
 generalize dN i (iJ l) s=t at *
 obtain ⟨j,hj,rfl⟩:=fg ag
 have h2:=U7 (U8 l i) t hj
 have e:iJ l i t=dN (ak (J I l i)).length (jy l i) t:=by unfold iJ;rw [show J .bool t.2 i=true from ht];rfl
 rw [← e] at h2
 have qi:(dN j (jy l i) t).gn l.length:=sJ (fun _ s=>FS.gn l.length s) (fun i s _ hs=>FV l hs) rN
 generalize dN j (jy l i) t=u at *
 have hs:jy l i j u=(u.1.set x true,u.2.set x true):=by unfold jy;rw [hx]
 rw [hs] at h2
 have hxl:=(bT hx).1
 exact⟨h1.1 x (h2.1 x ((vo (by rw [qi.1];exact hxl)).2 (.inl rfl))),h1.2 x (h2.2 x ((vo (by rw [qi.2];exact hxl)).2 (.inl rfl)))⟩
theorem U9(Pi fK:Nat→Prop)(hg:∀i,i<l.length→fK i→∀d,d∈ak (J I l i)→∀x,bd l d.2.1=some x→Pi x∧fK x){s:FS}(hl:s.gn l.length)(h1:∀i,T s.1 i→Pi i)(h2:∀i,T s.2 i→fK i) :
  (∀i,T (fs l s).1 i→Pi i)∧(∀i,T (fs l s).2 i→fK i):=by
 have key:(fs l s).gn l.length∧(∀i,T (fs l s).1 i→Pi i)∧(∀i,T (fs l s).2 i→fK i):=by
  refine sJ (fun _ (s:FS)=>s.gn l.length∧(∀i,T s.1 i→Pi i)∧(∀i,T s.2 i→fK i)) (fun i s hi hs=>?_) ⟨hl,h1,h2⟩
  obtain ⟨hl,h1,h2⟩:=hs
  refine⟨FW l hl,?_⟩
  cases ho:J .bool s.2 i
  ·rw [show iJ l i s=s by unfold iJ;rw [ho];rfl];exact⟨h1,h2⟩
  ·rw [show iJ l i s=dN (ak (J I l i)).length (jy l i) s by unfold iJ;rw [ho];rfl]
   have:=sJ (n:=(ak (J I l i)).length) (f:=jy l i) (fun _ (s:FS)=>s.gn l.length∧(∀i,T s.1 i→Pi i)∧(∀i,T s.2 i→fK i)) (fun j t hj ht=>by
    obtain ⟨hl,g1,g2⟩:=ht
    refine⟨FV l hl,?_⟩
    unfold jy
    split
    ·exact⟨g1,g2⟩
    ·rename_i x hx
     obtain ⟨ek,fp⟩:=hg i hi (h2 i ho) _ (cJ hj) x hx
     have hxl:=(bT hx).1
     refine⟨fun k hk=>?_,fun k hk=>?_⟩
     ·rcases (vo (by rw [hl.1];exact hxl)).1 hk with rfl | hk
      ·exact ek
      ·exact g1 k hk
     ·rcases (vo (by rw [hl.2];exact hxl)).1 hk with rfl | hk
      ·exact fp
      ·exact g2 k hk) ⟨hl,h1,h2⟩
   exact this.2
 exact key.2
def FZ(s:FS):Prop:=∀i,i<l.length→T s.2 i→∀d,d∈ak (J I l i)→∀x,bd l d.2.1=some x→T s.1 x∧T s.2 x
theorem af8{s:FS}(hl:s.gn l.length)(h:FZ l s):FZ l (fs l s):=by
 obtain ⟨h1,h2⟩:=U9 l (T s.1) (T s.2) h hl (fun _ h=>h) (fun _ h=>h)
 intro i hi ho d ag x hx
 obtain ⟨ek,fp⟩:=h i hi (h2 i ho) d ag x hx
 exact⟨(FY l s).1 x ek,(FY l s).2 x fp⟩
def nT(xs:Flags):Nat:=(xs.filter fun b=>b).length
theorem af9(xs:Flags):nT xs≤xs.length:=List.length_filter_le _ _
theorem U_:∀(a b:Flags),a.length=b.length→(∀i,T a i→T b i)→nT a≤nT b∧(nT a=nT b→a=b)
 | [],[],_,_=>⟨Nat.le_refl _,fun _=>rfl⟩
 | [],_ :: _,h,_=>by simp at h
 | _ :: _,[],h,_=>by simp at h
 | x :: a,y :: b,h,bZ=>by
  obtain ⟨h1,h2⟩:=U_ a b (by simpa using h) (fun i hi=>bZ (i+1) hi)
  have h0:x=true→y=true:=fun hx=>bZ 0 hx
  unfold nT at *
  cases x <;> cases y <;> simp only [List.filter_cons,if_true,Bool.false_eq_true,if_false,List.length_cons]
  ·exact⟨h1,fun h=>by rw [h2 h]⟩
  ·exact⟨by omega,fun h=>by omega⟩
  ·exact absurd (h0 rfl) (by simp)
  ·exact⟨by omega,fun h=>by rw [h2 (by omega)]⟩
theorem af_{xs:Flags}{i:Nat}(h:T xs i):1≤nT xs:=by
 have hm:true∈xs:=by
  unfold T J at h
  rw [List.getD_eq_getElem?_getD] at h
  cases hx:xs[i]? with
  | none=>rw [hx] at h;simp at h;cases h
  | some b =>
   rw [hx] at h
   have hb:b=true:=h
   subst hb
   exact List.mem_of_getElem? hx
 unfold nT
 exact List.length_pos_of_mem (List.mem_filter.2 ⟨hm,rfl⟩)
theorem rounds(s:FS)(hl:s.gn l.length)(h:1≤nT s.2):∀k,(dN k (fun _=>fs l) s).gn l.length∧(FZ l (dN k (fun _=>fs l) s)∨k+1≤nT (dN k (fun _=>fs l) s).2)
 | 0=>⟨hl,.inr h⟩
 | k+1=>by
  obtain ⟨hk,ih⟩:=rounds s hl h k
  rw [dN]
  generalize dN k (fun _=>fs l) s=t at *
  have hr:=MM l hk
  refine⟨hr,?_⟩
  rcases ih with ih | ih
  ·exact .inl (af8 l hk ih)
  ·obtain ⟨c1,gC⟩:=U_ t.2 (fs l t).2 (by rw [hk.2,hr.2]) (FY l t).2
   by_cases hc:nT t.2=nT (fs l t).2
   ·left
    have e:=gC hc
    intro i hi ho d ag x hx
    rw [← e] at ho
    exact af7 l hk hi ho ag hx
   ·right;omega
theorem MO(Pi fK:Nat→Prop)(hg:∀i,i<l.length→fK i→∀d,d∈ak (J I l i)→∀x,bd l d.2.1=some x→Pi x∧fK x)(s:FS)(hl:s.gn l.length)(h1:∀i,T s.1 i→Pi i)(h2:∀i,T s.2 i→fK i) :
  ∀k,(dN k (fun _=>fs l) s).gn l.length∧(∀i,T (dN k (fun _=>fs l) s).1 i→Pi i)∧(∀i,T (dN k (fun _=>fs l) s).2 i→fK i)
 | 0=>⟨hl,h1,h2⟩
 | k+1=>by
  obtain ⟨g,g1,g2⟩:=MO Pi fK hg s hl h1 h2 k
  exact⟨MM l g,U9 l Pi fK hg g g1 g2⟩
theorem af'(s:FS):∀k,FS.le s (dN k (fun _=>fs l) s):=Al (fun _ s=>FY l s) s
theorem MP(n i:Nat):¬T (fJ n) i:=by
 unfold T J fJ
 rw [List.getD_eq_getElem?_getD,List.getElem?_replicate]
 split <;> simp [ad.zero]
theorem U'(id:Int):(dO l id).length=l.length:=by
 unfold dO
 split
 ·simp [fJ]
 ·exact(MO l (fun _=>True) (fun _=>True) (fun _ _ _ _ _ _ _=>⟨trivial,trivial⟩) _ ⟨by simp [fJ],by simp [fJ]⟩ (fun _ _=>trivial) (fun _ _=>trivial) _).1.1
theorem xH(ag:ij l)(id:Int){x:Nat}(hx:x<l.length):T (dO l id) x↔dP l id (J I l x).1:=by
 unfold dO
 cases ha:bd l id with
 | none =>
  constructor
  ·intro h;exact absurd h (MP _ _)
  ·intro h
   have:∀b,dP l id b→False:=by
    intro b hb
    induction hb with
    | single h=>obtain ⟨i,d,h1,_⟩:=h;rw [ha] at h1;cases h1
    | tail _ _ ih=>exact ih
   exact(this _ h).elim
 | some a =>
  obtain ⟨dU,aga⟩:=bT ha
  have fL:FS.gn l.length (fJ l.length,(fJ l.length).set a true):=⟨by simp [fJ],by simp [fJ]⟩
  have ho:T ((fJ l.length).set a true) a:=(vo (by simp [fJ];exact dU)).2 (.inl rfl)
  constructor
  ·intro h
   refine(MO l (fun y=>dP l id (J I l y).1) (fun y=>(J I l y).1=id∨dP l id (J I l y).1) ?_ _ fL (fun i h=>absurd h (MP _ _)) ?_ l.length).2.1 x h
   ·intro i hi nU d h8 y aN
    obtain ⟨hyl,xI⟩:=bT aN
    have he:E l (J I l i).1 (J I l y).1:=⟨i,d,ag i hi,h8,xI.symm⟩
    rcases nU with nU | nU
    ·rw [nU] at he;exact⟨.single he,.inr (.single he)⟩
    ·exact⟨nU.tail he,.inr (nU.tail he)⟩
   ·intro i hi
    rcases (vo (by simp [fJ];exact dU)).1 hi with rfl | hi
    ·exact .inl aga
    ·exact absurd hi (MP _ _)
  ·intro h
   obtain ⟨hlen,agb⟩:=rounds l _ fL (af_ ho) l.length
   have hc:FZ l (dN l.length (fun _=>fs l) (fJ l.length,(fJ l.length).set a true)):=by
    rcases agb with h | h
    ·exact h
    ·have:=af9 (dN l.length (fun _=>fs l) (fJ l.length,(fJ l.length).set a true)).2
     rw [hlen.2] at this
     omega
   show T (dN l.length (fun _=>fs l) (fJ l.length,(fJ l.length).set a true)).1 x
   have agc:=(af' l (fJ l.length,(fJ l.length).set a true) l.length).2 a ho
   generalize dN l.length (fun _=>fs l) (fJ l.length,(fJ l.length).set a true)=F at *
   have key:∀b,dP l id b→∀y,bd l b=some y→T F.1 y∧T F.2 y:=by
    intro b hb
    induction hb with
    | single h =>
     obtain ⟨i,d,h1,h2,h3⟩:=h
     intro y aN
     rw [ha] at h1
     obtain rfl:=aT h1
     exact hc _ dU agc d h2 y (by rw [h3];exact aN)
    | tail _ h ih =>
     obtain ⟨i,d,h1,h2,h3⟩:=h
     intro y aN
     exact hc i (bT h1).1 (ih i h1).2 d h2 y (by rw [h3];exact aN)
   exact(key _ h x (ag x hx)).1
end
section
variable(l:List aJ)
def cH(q:Int):List aw.D :=
 match bd l q with
 | none=>[]
 | some i=>ak (J I l i)
theorem MQ{a b:Int} : E l a b↔∃d,d∈cH l a∧d.2.1=b:=by
 unfold E cH
 constructor
 ·rintro ⟨i,d,h1,h2,h3⟩;rw [h1];exact⟨d,h2,h3⟩
 ·rintro ⟨d,h1,h2⟩
  cases hi:bd l a with
  | none=>rw [hi] at h1;simp at h1
  | some i=>rw [hi] at h1;exact⟨i,d,rfl,h1,h2⟩
def F2:List Int:=l.flatMap fun x=>(ak x).map fun d=>d.2.1
theorem agd:(F2 l).length=dw l:=by
 unfold F2 dw
 rw [List.length_flatMap]
 congr 1
 simp
theorem age{q:Int}{d:aw.D}(h:d∈cH l q):d.2.1∈F2 l:=by
 unfold cH at h
 cases hi:bd l q with
 | none=>rw [hi] at h;simp at h
 | some i =>
  rw [hi] at h
  exact List.mem_flatMap.2 ⟨_,cJ (bT hi).1,List.mem_map.2 ⟨d,h,rfl⟩⟩
theorem agf(q:Int):(cH l q).length≤dw l:=by
 unfold cH
 split
 ·simp
 ·rename_i i hi;exact fI (bT hi).1
def pV(out:List Int)(d:aw.D):List Int:=if d.2.1∈out then out else out++[d.2.1]
structure pW(id:Int)(out:List Int):Prop where
 eS:out.Nodup
 sub:out⊆F2 l
 Am:∀b,b∈out→dP l id b
theorem pW.len{id:Int}{out:List Int}(h:pW l id out):out.length≤dw l:=by
 rw [← agd];exact h.eS.length_le_of_subset h.sub
theorem Va{id q:Int}{out:List Int}{d:aw.D}(h:pW l id out)(hq:q=id∨dP l id q)(ag:d∈cH l q):pW l id (pV out d):=by
 unfold pV
 split
 ·exact h
 ·rename_i hn
  have he:E l q d.2.1:=(MQ l).2 ⟨d,ag,rfl⟩
  refine⟨?_,?_,?_⟩
  ·rw [List.nodup_append]
   refine⟨h.eS,by simp,?_⟩
   intro a ha b hb
   rw [List.mem_singleton] at hb
   subst hb
   rintro rfl
   exact hn ha
  ·intro a ha
   rcases List.mem_append.1 ha with ha | ha
   ·exact h.sub ha
   ·rw [List.mem_singleton] at ha;rw [ha];exact age l ag
  ·intro b hb
   rcases List.mem_append.1 hb with hb | hb
   ·exact h.Am b hb
   ·rw [List.mem_singleton] at hb
    rw [hb]
    rcases hq with rfl | hq
    ·exact .single he
    ·exact hq.tail he
theorem Vb(out:List Int)(d:aw.D):∃t,pV out d=out++t:=by
 unfold pV;split
 ·exact⟨[],by simp⟩
 ·exact⟨_,rfl⟩
theorem agh(out:List Int)(d:aw.D):d.2.1∈pV out d:=by
 unfold pV;split
 ·assumption
 ·simp
def addN(q:Int)(out:List Int):List Int:=dN (cH l q).length (fun j o=>pV o (J aw (cH l q) j)) out
theorem agi{id q:Int}{out:List Int}(h:pW l id out)(hq:q=id∨dP l id q):pW l id (addN l q out)∧(∃t,addN l q out=out++t)∧∀d,d∈cH l q→d.2.1∈addN l q out:=by
 have key:=sJ (n:=(cH l q).length) (f:=fun j o=>pV o (J aw (cH l q) j)) (fun j o=>pW l id o∧(∃t,o=out++t)∧∀k,k<j→(J aw (cH l q) k).2.1∈o) (fun j o hj ho=>by
  obtain ⟨h1,⟨t,ht⟩,h3⟩:=ho
  refine⟨Va l h1 hq (cJ hj),?_,?_⟩
  ·obtain ⟨di,MR⟩:=Vb o (J aw (cH l q) j)
   exact⟨t++di,by rw [MR,ht,List.append_assoc]⟩
  ·intro k hk
   by_cases q1:k=j
   ·subst q1;exact agh _ _
   ·obtain ⟨di,MR⟩:=Vb o (J aw (cH l q) j)
    rw [MR]
    exact List.mem_append.2 (.inl (h3 k (by omega)))) ⟨h,⟨[],by simp⟩,fun k hk=>by omega⟩
 obtain ⟨k1,k2,k3⟩:=key
 refine⟨k1,k2,fun d ag=>?_⟩
 obtain ⟨i,hi,he⟩:=fg ag
 rw [← he];exact k3 i hi
end
structure Found(l:List aJ)(id:Int)(out:List Int):Prop where
 eS:out.Nodup
 iff:∀b,b∈out↔dP l id b
 len:out.length≤dw l
theorem Vc{l:List aJ}{id:Int}{out:List Int}(h:pW l id out)(hc:∀q,q=id∨q∈out→∀d,d∈cH l q→d.2.1∈out):Found l id out:=by
 refine⟨h.eS,fun b=>⟨h.Am b,fun hb=>?_⟩,h.len⟩
 induction hb with
 | single he=>obtain ⟨d,h1,rfl⟩:=(MQ l).1 he;exact hc id (.inl rfl) d h1
 | tail _ he ih=>obtain ⟨d,h1,rfl⟩:=(MQ l).1 he;exact hc _ (.inr ih) d h1
theorem agj(v:ae.D)(hl:v.2.1.length≤1048576)(hn:dw v.2.1≤1048576)(id:Int):∀(r i:Nat) (out:List Int),i+r=dw v.2.1+1→pW v.2.1 id out→i≤out.length+1 →
  (∀k,k<i→∀d,d∈cH v.2.1 (J (.int .i64) (id :: out) k)→d.2.1∈out) →
  ∃An,Found v.2.1 id An∧bW (fun m=>(mM m).ba v (i:Int) out (id :: out)) (1+r*1048580) (some (An,())):=by
 intro r
 induction r with
 | zero =>
  intro i out hi ho agk hc
  have:=ho.len
  have eL:i=out.length+1:=by omega
  refine⟨out,Vc ho fun q hq d ag=>?_,(bW.done fun m=>?_).mono (by omega)⟩
  ·rcases hq with rfl | hq
   ·exact hc 0 (by omega) d ag
   ·obtain ⟨k,hk,he⟩:=fg (t:=.int .i64) hq
    exact hc (k+1) (by omega) d (by rw [show J (.int .i64) (id :: out) (k+1)=J (.int .i64) out k from rfl,he];exact ag)
  ·show qM (mM m) _ _ _ _=_
   unfold qM
   rw [show(id :: out).length=i by rw [List.length_cons,eL],cM (Nat.le_refl _)];rfl
 | succ r ih =>
  intro i out hi ho agk hc
  by_cases cz:i<out.length+1
  case neg =>
   have eL:i=out.length+1:=by omega
   refine⟨out,Vc ho fun q hq d ag=>?_,(bW.done fun m=>?_).mono (by omega)⟩
   ·rcases hq with rfl | hq
    ·exact hc 0 (by omega) d ag
    ·obtain ⟨k,hk,he⟩:=fg (t:=.int .i64) hq
     exact hc (k+1) (by omega) d (by rw [show J (.int .i64) (id :: out) (k+1)=J (.int .i64) out k from rfl,he];exact ag)
   ·show qM (mM m) _ _ _ _=_
    unfold qM
    rw [show(id :: out).length=i by rw [List.length_cons,eL],cM (Nat.le_refl _)];rfl
  generalize hq:J (.int .i64) (id :: out) i=q at *
  have Vd:q=id∨dP v.2.1 id q:=by
   cases i with
   | zero=>left;rw [← hq];rfl
   | succ k =>
    right
    refine ho.Am q ?_
    rw [← hq]
    exact cJ (t:=.int .i64) (xs:=out) (by omega)
  obtain ⟨k1,⟨t,ht⟩,k3⟩:=agi v.2.1 ho Vd
  have hpre:∀k,k<out.length+1→J (.int .i64) (id ::(out++t)) k=J (.int .i64) (id :: out) k:=by
   intro k hk
   unfold J
   rw [List.getD_eq_getElem?_getD,List.getD_eq_getElem?_getD,← List.cons_append,List.getElem?_append_left (by simpa using hk)]
  obtain ⟨An,f1,f2⟩:=ih (i+1) (addN v.2.1 q out) (by omega) k1 (by rw [ht];simp;omega) (fun k hk d ag=>by
   by_cases gW:k=i
   ·subst gW
    rw [ht,hpre k cz,hq] at ag
    exact k3 d ag
   ·rw [ht,hpre k (by omega)] at ag
    rw [ht]
    exact List.mem_append.2 (.inl (hc k (by omega) d ag)))
  refine⟨An,f1,?_⟩
  have hol:=ho.len
  have oY:i<4000000000000000000:=by omega
  cases hx:bd v.2.1 q with
  | none =>
   have hQ:cH v.2.1 q=[]:=by unfold cH;rw [hx]
   have F3:addN v.2.1 q out=out:=by unfold addN;rw [hQ];rfl
   rw [F3] at f2
   refine(f2.step (f:=fun m=>(mM m).ba v (i:Int) out (id :: out)) fun m=>?_).mono (by omega)
   show qM (mM m) _ _ _ _=_
   unfold qM
   rw [cp (by simpa using cz),bx (by simpa using cz)]
   simp only [cond_true,av,Nat.zero_add]
   rw [hq,xF v q hl]
   simp only [av]
   rw [hx,df i oY];rfl
  | some x =>
   have hQ:cH v.2.1 q=ak (J I v.2.1 x):=by unfold cH;rw [hx]
   have hnl:=agf v.2.1 q
   have inner:=sK (cH v.2.1 q).length 1 (fun m j (o:List Int)=>(mM m).gG v (i:Int) (cH v.2.1 q) ((cH v.2.1 q).length:Int) (j:Int) o (id :: o)) (fun j o=>pV o (J aw (cH v.2.1 q) j)) (fun j o=>pW v.2.1 id o) (fun j o hj ho=>Va v.2.1 ho Vd (cJ hj)) (fun j o hj ho B y he=>by
    refine he.step fun m=>?_
    have hol:=ho.len
    show zJ (mM m) _ _ _ _ _ _ _=_
    unfold zJ
    rw [cp hj,bx hj]
    simp only [cond_true,av]
    rw [contains_eq _ _ (by omega)]
    simp only [av]
    rw [df j (by omega)]
    unfold pV
    by_cases hm:(J aw (cH v.2.1 q) j).2.1∈o
    ·rw [decide_eq_true hm,if_pos hm];rfl
    ·rw [decide_eq_false hm,if_neg hm,cI (by simp;omega),cI (by simp;omega)];rfl) out ho (1+r*1048580+1) (some (An,())) (by
    refine f2.step fun m=>?_
    show zJ (mM m) _ _ _ _ _ _ _=_
    unfold zJ
    rw [cM (Nat.le_refl _)]
    simp only [cond_false]
    rw [df i oY];rfl)
   refine(inner.step (f:=fun m=>(mM m).ba v (i:Int) out (id :: out)) fun m=>?_).mono (by omega)
   show qM (mM m) _ _ _ _=_
   unfold qM
   rw [cp (by simpa using cz),bx (by simpa using cz)]
   simp only [cond_true,av,Nat.zero_add]
   rw [hq,xF v q hl]
   simp only [av]
   rw [hx,hQ];rfl
theorem MS(v:ae.D)(hl:v.2.1.length≤1048576)(hn:dw v.2.1≤1048576)(id:Int):∃out,Found v.2.1 id out∧uW (v,id,())=some (out,()):=by
 obtain ⟨out,h1,h2⟩:=agj v hl hn id (dw v.2.1+1) 0 [] (by omega) ⟨by simp,by simp,by simp⟩ (by simp) (fun k hk=>by omega)
 refine⟨out,h1,?_⟩
 show Ef (mM aP) v id=_
 unfold Ef
 have hm:(dw v.2.1+1)*1048580≤1048577*1048580:=Nat.mul_le_mul_right _ (by omega)
 exact kK h2 (by omega)
theorem Ao{β : Type}(n W:Nat)(F:Nat→Nat → β)(P:Nat→Bool)(no E : β)(B:Nat)
  (hs:∀i,i<n→(∀j,j<i→P j=true)→P i=true→∀B y,bW (fun m=>F m (i+1)) B y→bW (fun m=>F m i) (B+W) y)
  (hx:∀i,i<n→(∀j,j<i→P j=true)→P i=false→bW (fun m=>F m i) W no)
  (jd:(∀j,j<n→P j=true)→bW (fun m=>F m n) B E):bW (fun m=>F m 0) (B+n*W) (cond (fr n P) E no):=by
 have key:∀r i,i+r=n→(∀j,j<i→P j=true)→bW (fun m=>F m i) (B+r*W) (cond (fr n P) E no):=by
  intro r
  induction r with
  | zero =>
   intro i hi au
   have:i=n:=by omega
   subst this
   rw [lj.2 au]
   simpa using jd au
  | succ r ih =>
   intro i hi au
   cases F4:P i
   ·have:fr n P=false:=by
     rw [← Bool.not_eq_true]
     intro h
     have:=lj.1 h i (by omega)
     rw [F4] at this;cases this
    rw [this]
    refine(hx i (by omega) au F4).mono ?_
    rw [Nat.add_one_mul];omega
   ·have:=hs i (by omega) au F4 _ _ (ih (i+1) (by omega) fun j hj=>by
     by_cases h:j=i
     ·subst h;exact F4
     ·exact au j (by omega))
    rw [Nat.add_one_mul,← Nat.add_assoc]
    exact this
 exact key n 0 (by omega) (by intro j hj;omega)
def eT(x:aJ):Int:=x.2.2.2.2.2.2.2.1
def eD(x:aJ):Int:=x.2.2.2.2.2.2.2.2.1
def plain(x:aJ):Bool:=((ak x).length:Int)==0&&eT x==0&&eD x==0
def oZ(l:List aJ)(N:List aw.D)(j:Nat):Bool :=
 ig (J aw N j).1 && !(decide (0<j) && !dy (J aw N (j-1)).1 (J aw N j).1) && !((J aw N j).2.1==1)&&(bd l (J aw N j).2.1).isSome
def sL(l:List aJ)(x:aJ):Bool:=fr (ak x).length (oZ l (ak x))&&decide (((ak x).length:Int)≤12)
def nV(l:List aJ)(x:aJ):Bool :=
 c0 x.2.2.1 0 2047&&c0 x.2.2.2.1 0 1000&&c0 x.2.2.2.2.1 0 1000 &&
  cond (x.2.1==1) (plain x&&decide (((bw x).length:Int)≤64))
   (cond (x.2.1==3) (plain x&&jx (bw x)&&x.2.2.1==511)
    (cond (x.2.1==2) (bn (bw x) []&&c0 (eT x) 0 400&&c0 (eD x) 0 24&&sL l x) false))
theorem agl(v:ae.D)(x:aJ)(hl:v.2.1.length≤1048576)(hn:(ak x).length≤1048576)(hs:∀d,d∈ak x→d.1.length≤1048576):KA (v,x,())=some (sL v.2.1 x,()):=by
 show D9 (uT aP) v x=_
 unfold D9 sL
 refine sG (ak x).length (by omega) (oZ v.2.1 (ak x)) _ (fun m i=>uT m v (ak x) ((ak x).length:Int) i x) ?_ ?_
 ·intro m _
  simp only [uT,D_]
  rw [cM (Nat.le_refl _)];rfl
 ·intro m i hi _ hw
  simp only [uT,D_,hw]
  rw [cp hi,bx hi]
  simp only [cond_true,av]
  rw [af2 _ (by have:=hs _ (cJ hi);omega)]
  simp only [av]
  rw [xF v _ hl]
  simp only [av]
  unfold oZ
  cases i with
  | zero =>
   simp only [MC,Nat.lt_irrefl,decide_false,cond_false,Bool.false_and,Bool.not_false,Bool.and_true]
   cases ig (J aw (ak x) 0).1 <;> cases (J aw (ak x) 0).2.1==1 <;> cases (bd v.2.1 (J aw (ak x) 0).2.1) <;> rfl
  | succ i =>
   rw [show(List.length x.2.2.2.2.2.2.1)=(ak x).length from rfl,MB hi (by omega)]
   simp only [MD,Nat.zero_lt_succ,decide_true,cond_true,av,Nat.add_sub_cancel,Bool.true_and]
   rw [show(J aw x.2.2.2.2.2.2.1 i)=J aw (ak x) i from rfl]
   cases ig (J aw (ak x) (i+1)).1 <;> cases (J aw (ak x) (i+1)).2.1==1 <;> cases (bd v.2.1 (J aw (ak x) (i+1)).2.1) <;> cases dy (J aw (ak x) i).1 (J aw (ak x) (i+1)).1 <;> rfl
theorem agm(v:ae.D)(x:aJ)(hl:v.2.1.length≤1048576)(hn:(ak x).length≤1048576)(q:Nat)(hq:(ak x).length<q):(qL q).mG 0 v x=some (fr (ak x).length (oZ v.2.1 (ak x)),()):=by
 have:=sG (ak x).length (by omega) (oZ v.2.1 (ak x)) true (fun m i=>(qL m).mG i v x) (by
  intro m _
  show zG (qL m) _ _ _=_
  unfold zG
  show cond (decide (((ak x).length:Int)<((ak x).length:Int))) _ _=_
  rw [cM (Nat.le_refl _)];rfl) (by
  intro m i hi _ hw
  show zG (qL m) _ _ _=_
  unfold zG
  show cond (decide ((i:Int)<((ak x).length:Int))) ((aM (ak x).length (i:Int)).bind _) _=_
  rw [cp hi,bx hi]
  simp only [cond_true,av,hw]
  rw [af1]
  simp only [av]
  rw [l1 v _ hl]
  simp only [av,Aj]
  unfold oZ
  rw [show(x.2.2.2.2.2.2.1)=ak x from rfl]
  cases i with
  | zero =>
   simp only [MC,Nat.lt_irrefl,decide_false,cond_false,Bool.false_and,Bool.not_false,Bool.and_true]
   cases ig (J aw (ak x) 0).1 <;> cases (J aw (ak x) 0).2.1==1 <;> cases (bd v.2.1 (J aw (ak x) 0).2.1) <;> rfl
  | succ i =>
   rw [MB hi (by omega)]
   simp only [MD,Nat.zero_lt_succ,decide_true,cond_true,av,Nat.add_sub_cancel,Bool.true_and]
   cases ig (J aw (ak x) (i+1)).1 <;> cases (J aw (ak x) (i+1)).2.1==1 <;> cases (bd v.2.1 (J aw (ak x) (i+1)).2.1) <;> cases dy (J aw (ak x) i).1 (J aw (ak x) (i+1)).1 <;> rfl) q hq
 rw [Bool.and_true] at this
 exact this
theorem Ve(v:ae.D)(x:aJ)(hl:v.2.1.length≤1048576)(hn:(ak x).length≤1048576):DS (v,x,())=some (nV v.2.1 x,()):=by
 obtain ⟨q,hq,h9⟩:=iI 1
 show DR (qL aP) v x=_
 rw [hq]
 unfold DR
 have hk:∀b,(qL (q+1)).ba b v x=Kx (qL q) b v x:=fun _=>rfl
 simp only [hk]
 unfold Kx
 rw [agm v x hl hn q (by omega),U0]
 simp only [jv,av,mR]
 congr 2
 unfold nV sL plain eT eD bw
 rw [show(x.2.2.2.2.2.2.1)=ak x from rfl]
 generalize fr (ak x).length (oZ v.2.1 (ak x))=A
 generalize jx x.2.2.2.2.2.1=agn
 generalize bn x.2.2.2.2.2.1 []=ago
 generalize x.2.2.2.2.2.1.length=agp
 generalize (ak x).length=agq
 generalize x.2.2.2.2.2.2.2.1=agr
 generalize x.2.2.2.2.2.2.2.2.1=ags
 simp only [c0]
 rw [Bool.eq_iff_iff]
 simp only [Bool.cond_eq_ite,Bool.ite_eq_true_distrib,Bool.and_eq_true,Bool.or_eq_true,Bool.not_eq_true',decide_eq_true_eq,beq_iff_eq,decide_eq_false_iff_not]
 grind (splits:=60)
theorem Vf(v:ae.D)(x:aJ)(hl:v.2.1.length≤1048576)(hn:(ak x).length≤1048576)(hs:∀d,d∈ak x→d.1.length≤1048576)(ag:(bw x).length≤1048576):Eb (v,x,())=some (nV v.2.1 x,()):=by
 obtain ⟨q,hq,h9⟩:=iI 1
 show Ea (zI aP) v x=_
 rw [hq]
 unfold Ea
 simp only [zI,KB]
 rw [agl v x hl hn hs,MF _ (by unfold bw at ag;omega)]
 simp only [jw,av,mR]
 congr 2
 unfold nV sL plain eT eD bw
 rw [show(x.2.2.2.2.2.2.1)=ak x from rfl]
 generalize fr (ak x).length (oZ v.2.1 (ak x))=A
 generalize jx x.2.2.2.2.2.1=agn
 generalize bn x.2.2.2.2.2.1 []=ago
 generalize x.2.2.2.2.2.1.length=agp
 generalize (ak x).length=agq
 generalize x.2.2.2.2.2.2.2.1=agr
 generalize x.2.2.2.2.2.2.2.2.1=ags
 simp only [c0]
 rw [Bool.eq_iff_iff]
 simp only [Bool.cond_eq_ite,Bool.ite_eq_true_distrib,Bool.and_eq_true,Bool.or_eq_true,Bool.not_eq_true',decide_eq_true_eq,beq_iff_eq,bne_iff_ne,decide_eq_false_iff_not]
 grind (splits:=60)
section
variable(l:List aJ)
def o0(F:Flags):List Nat:=(List.range l.length).filter fun i=>J .bool F i
def dl(i:Nat):Nat:=(bw (J I l i)).length
def jz(F:Flags):Nat:=((o0 l F).map (dl l)).sum
def jS(F:Flags):Nat:=(o0 l F).length
def pre(F:Flags)(i:Nat):List Nat:=(List.range i).filter fun i=>J .bool F i
theorem MT(F:Flags)(i:Nat):pre F (i+1)=pre F i++cond (J .bool F i) [i] []:=by
 unfold pre
 rw [List.range_succ,List.filter_append]
 cases h:J .bool F i <;> simp [List.filter_cons,h]
theorem Vg(F:Flags){i:Nat}(hi:i≤l.length):((pre F i).map (dl l)).sum≤bytesOf (l.take i)∧(pre F i).length≤i:=by
 induction i with
 | zero=>simp [pre]
 | succ i ih =>
  obtain ⟨h1,h2⟩:=ih (by omega)
  rw [MT,xG (by omega)]
  cases J .bool F i
  ·simp only [cond_false,List.append_nil];omega
  ·simp only [cond_true,List.map_append,List.sum_append_nat,List.length_append,List.map_cons,List.map_nil,List.sum_cons,List.sum_nil,List.length_cons,List.length_nil]
   have:dl l i=(bw (J I l i)).length:=rfl
   omega
end
theorem Vh(v:ae.D)(id:Int)(hl:v.2.1.length≤1048576)(hn:dw v.2.1≤1048576)(hb:bytesOf v.2.1≤1048576) :
  zj (v,id,())=some ((jz v.2.1 (dO v.2.1 id):Int),(jS v.2.1 (dO v.2.1 id):Int),()):=by
 show Dc (uy aP) v id=_
 unfold Dc
 rw [U4 v id hl hn]
 simp only [av]
 have hF:=U' v.2.1 id
 generalize dO v.2.1 id=F at *
 have:=mQ v.2.1.length (by omega) (fun m i=>uy m (((pre F i.toNat).map (dl v.2.1)).sum:Nat) ((pre F i.toNat).length:Nat) i v F) (fun _=>some ((jz v.2.1 F:Int),(jS v.2.1 F:Int),())) (fun _=>True) (fun m _=>by
  simp only [uy,Dd]
  rw [hF,cM (Nat.le_refl _)];rfl) (fun m i hi _ hw ih=>by
  have ih:=ih trivial
  simp only [uy,Dd,hw]
  rw [hF,cp hi,bx hi]
  simp only [cond_true,av,Int.toNat_natCast,Nat.zero_add]
  rw [show((i:Int)+1).toNat=i+1 by omega,MT] at ih
  have h1:=Vg v.2.1 F (i:=i) (by omega)
  have h3:=Vg v.2.1 F (i:=i+1) (by omega)
  have h2:=FR v.2.1 (i+1)
  rw [MT] at h3
  cases hf:J .bool F i
  ·rw [hf] at ih
   simp only [cond_false,List.append_nil] at ih ⊢
   exact ih
  ·rw [hf] at ih h3
   simp only [cond_true,List.map_append,List.sum_append_nat,List.length_append,List.map_cons,List.map_nil,List.sum_cons,List.sum_nil,List.length_cons,List.length_nil,Nat.add_zero,Nat.zero_add] at ih h3 ⊢
   rw [show((J I v.2.1 i).2.2.2.2.2.1).length=dl v.2.1 i from rfl,df _ (by omega),dI (by omega) (by omega),← Int.natCast_add]
   exact ih) v.2.1.length 0 aP (by omega) (ju (by omega)) trivial
 simpa [pre] using this
def nW(l:List aJ)(b:Int):Nat :=
 match bd l b with
 | none=>0
 | some i=>dl l i
theorem Vi{l:List aJ}(b:Int):nW l b≤bytesOf l:=by
 unfold nW
 split
 ·omega
 ·rename_i i hi
  have h1:=xG (bT hi).1
  have h2:=FR l (i+1)
  unfold dl
  omega
theorem MU(v:ae.D)(id:Int)(hl:v.2.1.length≤1048576)(hn:dw v.2.1≤1048576)(hb:bytesOf v.2.1≤1048576) :
  ∃out,Found v.2.1 id out∧xl (v,id,())=some ((((out.map (nW v.2.1)).sum:Nat):Int),(out.length:Int),()):=by
 obtain ⟨out,hf,he⟩:=MS v hl hn id
 refine⟨out,hf,?_⟩
 show El (qN aP) v id=_
 unfold El
 rw [he]
 simp only [av]
 have hol:=hf.len
 have hb2:∀i,i≤out.length→((out.take i).map (nW v.2.1)).sum≤i*1048576:=by
  intro i
  induction i with
  | zero=>intro _;simp
  | succ i ih =>
   intro hi
   rw [List.take_succ_eq_append_getElem (by omega),List.map_append,List.sum_append_nat]
   have:=ih (by omega)
   have:=Vi (l:=v.2.1) out[i]
   simp only [List.map_cons,List.map_nil,List.sum_cons,List.sum_nil]
   omega
 have:=mQ out.length (by omega) (fun m i=>qN m v (((out.take i.toNat).map (nW v.2.1)).sum:Nat) (out.length:Int) i out) (fun _=>some ((((out.map (nW v.2.1)).sum:Nat):Int),(out.length:Int),())) (fun _=>True) (fun m _=>by
  simp only [qN,Em]
  rw [cM (Nat.le_refl _)]
  simp only [Int.toNat_natCast,List.take_length,cond_false]) (fun m i hi _ hw ih=>by
  have ih:=ih trivial
  simp only [qN,Em,hw]
  rw [cp hi,bx hi]
  simp only [cond_true,av,Int.toNat_natCast,Nat.zero_add]
  rw [xF v _ hl]
  simp only [av]
  rw [show((i:Int)+1).toNat=i+1 by omega,List.take_succ_eq_append_getElem hi,List.map_append,List.sum_append_nat] at ih
  simp only [List.map_cons,List.map_nil,List.sum_cons,List.sum_nil,Nat.add_zero] at ih
  have aB:J (.int .i64) out i=out[i]:=c6 (t:=.int .i64) hi
  rw [aB]
  have h2:=hb2 i (by omega)
  have h3:=Vi (l:=v.2.1) out[i]
  have h4:i*1048576≤1048576*1048576:=Nat.mul_le_mul_right _ (by omega)
  unfold nW at ih h3
  cases hx:bd v.2.1 out[i] with
  | none =>
   rw [hx] at ih
   exact ih
  | some x =>
   rw [hx] at ih h3
   show qN m v (aG (_ +(((J I v.2.1 x).2.2.2.2.2.1).length:Int))) _ _ _=_
   have h3:dl v.2.1 x≤bytesOf v.2.1:=h3
   have ih:qN m v ((List.map (nW v.2.1) (out.take i)).sum+dl v.2.1 x:Nat) (out.length:Int) ((i:Int)+1) out=_:=ih
   rw [show((J I v.2.1 x).2.2.2.2.2.1).length=dl v.2.1 x from rfl,dI (by omega) (by omega),← Int.natCast_add]
   exact ih) out.length 0 aP (by omega) (ju (by omega)) trivial
 simpa using this
theorem MV{l:List aJ}(ag:ij l)(hx:q0 l){id:Int}{out:List Int}(h:Found l id out):(out.map (nW l)).sum=jz l (dO l id)∧out.length=jS l (dO l id):=by
 have gZ:((o0 l (dO l id)).map fun i=>(J I l i).1).Nodup:=by
  have h0:(o0 l (dO l id)).Nodup:=(List.nodup_range).filter _
  unfold List.Nodup at h0 ⊢
  rw [List.pairwise_map]
  refine h0.imp_of_mem fun {a b} ha hb lN he=>lN ?_
  have ha:=(List.mem_filter.1 ha).1
  have hb:=(List.mem_filter.1 hb).1
  have h1:=ag a (by simpa using ha)
  have h2:=ag b (by simpa using hb)
  rw [he,h2] at h1
  exact(aT h1).symm
 have au:out.Perm ((o0 l (dO l id)).map fun i=>(J I l i).1):=by
  rw [List.perm_ext_iff_of_nodup h.eS gZ]
  intro b
  rw [h.iff]
  constructor
  ·intro hb
   have hex:∃i,bd l b=some i:=by
    cases hb with
    | single he=>obtain ⟨i,d,h1,h2,rfl⟩:=he;exact Option.isSome_iff_exists.1 (hx i (bT h1).1 d h2)
    | tail _ he=>obtain ⟨i,d,h1,h2,rfl⟩:=he;exact Option.isSome_iff_exists.1 (hx i (bT h1).1 d h2)
   obtain ⟨i,hi⟩:=hex
   obtain ⟨h1,h2⟩:=bT hi
   refine List.mem_map.2 ⟨i,List.mem_filter.2 ⟨by simpa using h1,?_⟩,h2⟩
   exact(xH l ag id h1).2 (by rw [h2];exact hb)
  ·intro hb
   obtain ⟨i,hi,rfl⟩:=List.mem_map.1 hb
   obtain ⟨h1,h2⟩:=List.mem_filter.1 hi
   exact(xH l ag id (by simpa using h1)).1 h2
 refine⟨?_,by rw [au.length_eq,List.length_map];rfl⟩
 rw [(au.map (nW l)).sum_nat,List.map_map]
 unfold jz
 congr 1
 refine List.map_congr_left fun i hi=>?_
 have h1:=(List.mem_filter.1 hi).1
 show nW l (J I l i).1=dl l i
 unfold nW
 rw [ag i (by simpa using h1)]
def ik(l:List aJ)(x:aJ):Bool :=
 (decide (eT x>0)&&decide ((jz l (dO l x.1):Int)>eT x))||(decide (eD x>0)&&decide ((jS l (dO l x.1):Int)>eD x))
def gp(l:List aJ):Bool:=cond (fr l.length fun i => !ik l (J I l i)) false true
theorem agt(v:ae.D)(x:aJ)(hl:v.2.1.length≤1048576)(hn:dw v.2.1≤1048576)(hb:bytesOf v.2.1≤1048576)(ag:ij v.2.1)(hx:q0 v.2.1):KF (v,x,())=some (ik v.2.1 x,()):=by
 show KE v x=_
 unfold KE
 obtain ⟨out,hf,he⟩:=MU v x.1 hl hn hb
 rw [he]
 obtain ⟨h1,h2⟩:=MV ag hx hf
 rw [h1,h2]
 simp only [av,mR]
 congr 2
 unfold ik eT eD
 generalize (jz v.2.1 (dO v.2.1 x.1):Int)=B
 generalize (jS v.2.1 (dO v.2.1 x.1):Int)=N
 rw [Bool.eq_iff_iff]
 simp only [Bool.cond_eq_ite,Bool.ite_eq_true_distrib,Bool.and_eq_true,Bool.or_eq_true,decide_eq_true_eq]
 grind
theorem Vj(v:ae.D)(hl:v.2.1.length≤1048576)(hn:dw v.2.1≤1048576)(hb:bytesOf v.2.1≤1048576)(ag:ij v.2.1)(hx:q0 v.2.1):zM (v.2.1,v,())=some (gp v.2.1,()):=by
 show KH v.2.1 v=_
 unfold KH
 have h:KG (v.2.1,v,())=some (hd (eR v.2.1.length fun i=>ik v.2.1 (J I v.2.1 i)),()):=by
  show Eo (uZ aP) v.2.1 v=_
  unfold Eo
  refine sH v.2.1.length (by omega) _ (fun o=>some (hd o,())) (fun m i=>uZ m v.2.1 v (v.2.1.length:Int) i) ?_ ?_
  ·intro m
   simp only [uZ,Ep]
   rw [cM (Nat.le_refl _)];rfl
  ·intro m i hi hw
   simp only [uZ,Ep,hw]
   rw [cp hi,bx hi]
   simp only [cond_true,av]
   rw [agt v _ hl hn hb ag hx];rfl
 rw [h]
 simp only [av,Ak]
 congr 2
 unfold gp
 cases hf:eR v.2.1.length fun i=>ik v.2.1 (J I v.2.1 i) with
 | none =>
  rw [lj.2 (fun i hi=>by rw [kf.1 hf i hi];rfl)];rfl
 | some i =>
  obtain ⟨h1,h2,_⟩:=gA.1 hf
  have:fr v.2.1.length (fun i => !ik v.2.1 (J I v.2.1 i))=false:=by
   rw [← Bool.not_eq_true];intro h
   have:=lj.1 h i h1
   rw [h2] at this;cases this
  rw [this];rfl
theorem Vk(v:ae.D)(hl:v.2.1.length≤1048576)(hn:dw v.2.1≤1048576)(hb:bytesOf v.2.1≤1048576)(hk:∀i,i<v.2.1.length→(J I v.2.1 i).2.1≠2→eT (J I v.2.1 i)=0∧eD (J I v.2.1 i)=0):Df (v,())=some (gp v.2.1,()):=by
 show De (kb aP) v=_
 unfold De
 have h0:∀x:aJ,eT x=0→eD x=0→ik v.2.1 x=false:=by
  intro x h1 h2;unfold ik;rw [h1,h2];rfl
 have Vl:∀(m i:Nat),i<v.2.1.length→(kb (m+1)).k2 (i:Int) v=cond ((J I v.2.1 i).2.1 != 2) ((kb m).k2 ((i+1:Nat):Int) v) (cond (eT (J I v.2.1 i)==0) (cond (eD (J I v.2.1 i)==0) ((kb m).k2 ((i+1:Nat):Int) v) ((kb m).dh (i:Int) v (J I v.2.1 i))) ((kb m).dh (i:Int) v (J I v.2.1 i))):=by
  intro m i hi
  show zk (kb m) _ _=_
  unfold zk
  rw [cp hi,bx hi]
  simp only [cond_true,av]
  rw [df i (by omega)];rfl
 have Vm:∀(m i:Nat) (x:aJ),i<v.2.1.length→(kb (m+1)).dh (i:Int) v x=cond (ik v.2.1 x) (some (true,())) ((kb m).k2 ((i+1:Nat):Int) v):=by
  intro m i x hi
  show JQ (kb m) _ _ _=_
  unfold JQ
  rw [Vh v _ hl hn hb]
  simp only [av]
  rw [df i (by omega)]
  unfold ik eT eD
  generalize decide (x.2.2.2.2.2.2.2.1>0)=a
  generalize decide ((jz v.2.1 (dO v.2.1 x.1):Int)>x.2.2.2.2.2.2.2.1)=b
  generalize decide (x.2.2.2.2.2.2.2.2.1>0)=c
  generalize decide ((jS v.2.1 (dO v.2.1 x.1):Int)>x.2.2.2.2.2.2.2.2.1)=d
  cases a <;> cases b <;> cases c <;> cases d <;> rfl
 have key:=Ao v.2.1.length 2 (fun m i=>(kb m).k2 (i:Int) v) (fun i => !ik v.2.1 (J I v.2.1 i)) (some (true,())) (some (false,())) 1 (fun i hi _ au B y he=>by
  have au:ik v.2.1 (J I v.2.1 i)=false:=by simpa using au
  have bh:bW (fun m=>(kb m).dh (i:Int) v (J I v.2.1 i)) (B+1) y:=he.step fun m=>by rw [Vm m i _ hi,au];rfl
  intro m hm
  obtain ⟨m,rfl⟩:∃k,m=k+1:=⟨m-1,by omega⟩
  show(kb (m+1)).k2 (i:Int) v=y
  rw [Vl m i hi]
  have e1:=he m (by omega)
  have e2:=bh m (by omega)
  simp only at e1 e2
  rw [e1,e2]
  cases (J I v.2.1 i).2.1 != 2 <;> cases eT (J I v.2.1 i)==0 <;> cases eD (J I v.2.1 i)==0 <;> rfl) (fun i hi _ au=>by
  have au:ik v.2.1 (J I v.2.1 i)=true:=by simpa using au
  intro m hm
  obtain ⟨m,rfl⟩:∃k,m=k+2:=⟨m-2,by omega⟩
  show(kb (m+1+1)).k2 (i:Int) v=_
  rw [Vl (m+1) i hi,Vm m i _ hi,au]
  have k1:((J I v.2.1 i).2.1 != 2)=false:=by
   rw [bne_eq_false_iff_eq]
   by_cases h:(J I v.2.1 i).2.1=2
   ·exact h
   ·obtain ⟨g1,g2⟩:=hk i hi h
    rw [h0 _ g1 g2] at au;cases au
  rw [k1]
  cases g1:eT (J I v.2.1 i)==0 <;> cases g2:eD (J I v.2.1 i)==0 <;> try rfl
  rw [h0 _ (by simpa using g1) (by simpa using g2)] at au;cases au) (fun _=>bW.done fun m=>by
  show zk (kb m) _ _=_
  unfold zk
  rw [cM (Nat.le_refl _)];rfl)
 have:=kK key (by omega)
 rw [show(((0:Nat):Int))=0 from rfl] at this
 rw [this]
 unfold gp
 cases fr v.2.1.length fun i => !ik v.2.1 (J I v.2.1 i) <;> rfl
theorem Ah{α : Type}{f g : α → Nat} : ∀(l:List α),(∀x,x∈l→f x≤g x)→(l.map f).sum≤(l.map g).sum
 | [],_=>by simp
 | x :: l,h=>by
  simp only [List.map_cons,List.sum_cons]
  have:=Ah l fun y aN=>h y (List.mem_cons_of_mem _ aN)
  have:=h x List.mem_cons_self
  omega
theorem F5{α : Type}{f : α → Nat} : ∀ {l:List α} {x : α},x∈l→f x≤(l.map f).sum
 | y :: l,x,h=>by
  simp only [List.map_cons,List.sum_cons]
  rcases List.mem_cons.1 h with rfl | h
  ·omega
  ·have:=F5 (f:=f) h;omega
theorem F6(x:aJ):ad.cost I x=(bw x).length+ad.cost (.sl aw) (ak x):=by
 simp only [Mv,Mw,Mx,My,UU,UW,Nat.zero_add,Nat.add_zero];rfl
theorem Vn(d:aw.D):ad.cost aw d=d.1.length:=by
 simp only [Mv,Mw,Mx,My,UU,UW,Nat.zero_add,Nat.add_zero]
def q2(x:aJ):Nat:=ad.cost I x
theorem MW(v:ae.D):ad.cost ae v=v.2.1.length +(v.2.1.map q2).sum:=by
 have h:ad.cost ae v=ad.cost (.sl I) v.2.1:=by simp only [Mv,Mw,Mx,My,Nat.zero_add,Nat.add_zero]
 rw [h,UT]
 rfl
structure vp(v:ae.D):Prop where
 len:v.2.1.length≤1048576
 cC:dw v.2.1≤1048576
 bytes:bytesOf v.2.1≤1048576
 each:∀x,x∈v.2.1→(ak x).length≤1048576∧(bw x).length≤1048576∧∀d,d∈ak x→d.1.length≤1048576
theorem agu{v:ae.D}(h:ad.cost ae v≤1048576):vp v:=by
 rw [MW] at h
 refine⟨by omega,?_,?_,fun x hx=>?_⟩
 ·have:=Ah (f:=fun y:aJ=>(ak y).length) (g:=q2) v.2.1 fun x _=>by
   unfold q2;rw [F6];have:=US (t:=aw) (ak x);omega
  unfold dw;omega
 ·have:=Ah (f:=fun y:aJ=>(bw y).length) (g:=q2) v.2.1 fun x _=>by
   unfold q2;rw [F6];omega
  unfold bytesOf;omega
 ·have h1:=F5 (f:=q2) hx
  unfold q2 at h1
  rw [F6] at h1
  have h:v.2.1.length +(v.2.1.map fun y=>ad.cost I y).sum≤1048576:=h
  have h1:(bw x).length+ad.cost (.sl aw) (ak x)≤(v.2.1.map fun y=>ad.cost I y).sum:=h1
  have h2:=US (t:=aw) (ak x)
  refine⟨by omega,by omega,fun d ag=>?_⟩
  obtain ⟨i,hi,he⟩:=fg ag
  have h3:=afX (t:=aw) hi
  rw [he,Vn] at h3
  omega
def mS(v:ae.D)(i:Nat):Bool :=
 c0 (J I v.2.1 i).1 1 (aG (v.1-1)) && !(decide (0<i)&&decide ((J I v.2.1 (i-1)).1≥(J I v.2.1 i).1))&&nV v.2.1 (J I v.2.1 i)
def kg(l:List aJ)(i:Nat):Bool :=
 J .bool (dO l 1) (i+1) && !((J I l (i+1)).2.1==2&&((ck l (J I l (i+1)).1:Int) != 1))
def jA(v:ae.D):Bool :=
 c0 v.1 2 100000&&c0 (v.2.1.length:Int) 1 24&&(J I v.2.1 0).1==1&&(J I v.2.1 0).2.1==2 &&
  cond (fr v.2.1.length (mS v)) (cond (fr (v.2.1.length-1) (kg v.2.1)) (decide ((bytesOf v.2.1:Int)≤400) && !gp v.2.1) false) false
theorem Vo{v:ae.D}(h:∀j,j<v.2.1.length→mS v j=true):ij v.2.1:=by
 have cz:∀d j,j+d+1<v.2.1.length→(J I v.2.1 j).1<(J I v.2.1 (j+d+1)).1:=by
  have h1:∀j,j+1<v.2.1.length→(J I v.2.1 j).1<(J I v.2.1 (j+1)).1:=by
   intro j hj
   have:=h (j+1) hj
   unfold mS at this
   simp only [Bool.and_eq_true,Bool.not_eq_true',Bool.and_eq_false_iff,decide_eq_false_iff_not] at this
   obtain ⟨⟨_,h2⟩,_⟩:=this
   rcases h2 with h2 | h2
   ·omega
   ·rw [Nat.add_sub_cancel] at h2;exact Int.not_le.1 h2
  intro d
  induction d with
  | zero=>intro j hj;exact h1 j hj
  | succ d ih=>intro j hj;exact Int.lt_trans (ih j (by omega)) (h1 (j+d+1) hj)
 intro x hx
 unfold bd
 rw [gA]
 refine⟨hx,by simp,fun j hj=>?_⟩
 obtain ⟨d,rfl⟩:∃d,x=j+d+1:=⟨x-j-1,by omega⟩
 have:=cz d j hx
 rw [beq_eq_false_iff_ne]
 exact Int.ne_of_lt this
theorem Vp{v:ae.D}(h:∀j,j<v.2.1.length→mS v j=true){i:Nat}(hi:i<v.2.1.length):nV v.2.1 (J I v.2.1 i)=true:=by
 have:=h i hi
 unfold mS at this
 simp only [Bool.and_eq_true] at this
 exact this.2
theorem Vq{l:List aJ}{x:aJ}(h:nV l x=true):(x.2.1≠2→eT x=0∧eD x=0∧ak x=[])∧∀d,d∈ak x→(bd l d.2.1).isSome=true:=by
 unfold nV at h
 simp only [Bool.and_eq_true] at h
 obtain ⟨_,h⟩:=h
 have au:plain x=true→eT x=0∧eD x=0∧ak x=[]:=by
  intro au
  unfold plain at au
  simp only [Bool.and_eq_true,beq_iff_eq] at au
  exact⟨au.1.2,au.2,List.length_eq_zero_iff.1 (by omega)⟩
 by_cases h1:x.2.1=1
 ·rw [cF h1] at h
  simp only [cond_true,Bool.and_eq_true] at h
  obtain ⟨ek,fp,gg⟩:=au h.1
  exact⟨fun _=>⟨ek,fp,gg⟩,by rw [gg];simp⟩
 ·rw [b5 h1] at h
  by_cases h3:x.2.1=3
  ·rw [cF h3] at h
   simp only [cond_true,cond_false,Bool.and_eq_true] at h
   obtain ⟨ek,fp,gg⟩:=au h.1.1
   exact⟨fun _=>⟨ek,fp,gg⟩,by rw [gg];simp⟩
  ·rw [b5 h3] at h
   by_cases h2:x.2.1=2
   ·rw [cF h2] at h
    simp only [cond_true,cond_false,Bool.and_eq_true] at h
    refine⟨fun hn=>absurd h2 hn,fun d ag=>?_⟩
    have hN:=h.2
    unfold sL at hN
    simp only [Bool.and_eq_true] at hN
    obtain ⟨i,hi,he⟩:=fg ag
    have:=lj.1 hN.1 i hi
    unfold oZ at this
    simp only [Bool.and_eq_true] at this
    rw [← he];exact this.2
   ·rw [b5 h2] at h
    simp at h
theorem agv{v:ae.D}(h:∀j,j<v.2.1.length→mS v j=true):q0 v.2.1:=fun i hi d ag=>(Vq (Vp h hi)).2 d ag
theorem F7{v:ae.D}{i:Nat}(hi:i<v.2.1.length)(hl:v.2.1.length≤1048576)(K:Option (Bool×Unit)) :
  cond (!c0 (J I v.2.1 i).1 1 (aG (v.1-1))) (some (false,()))
   (cond (decide ((i:Int)>0)) ((aM v.2.1.length (aG ((i:Int)-1))).bind fun j=>cond (decide ((J I v.2.1 j).1≥(J I v.2.1 i).1)) (some (false,())) (cond (!nV v.2.1 (J I v.2.1 i)) (some (false,())) K))
    (cond (!nV v.2.1 (J I v.2.1 i)) (some (false,())) K))=cond (mS v i) K (some (false,())):=by
 unfold mS
 cases i with
 | zero =>
  simp only [MC,Nat.lt_irrefl,decide_false,cond_false,Bool.false_and,Bool.not_false,Bool.and_true,MA,nS]
 | succ i =>
  rw [MB hi (by omega)]
  simp only [MD,Nat.zero_lt_succ,decide_true,cond_true,av,Nat.add_sub_cancel,Bool.true_and,MA,nS]
theorem MX(v:ae.D)(hv:vp v):DU (v,())=some (jA v,()):=by
 obtain ⟨hl,hn,hb,he⟩:=hv
 show DT (nJ aP) v=_
 unfold DT
 simp only [jv,av]
 unfold jA
 cases h1:c0 v.1 2 100000
 ·rfl
 cases h2:c0 (v.2.1.length:Int) 1 24
 ·rfl
 have eZ:=(dM.1 h2)
 simp only [Bool.not_true,cond_false]
 rw [show(0:Int)=((0:Nat):Int) from rfl,bx (show 0<v.2.1.length by omega)]
 simp only [av]
 cases h3:(J I v.2.1 0).1==1
 ·rw [cV (by simpa using h3)];rfl
 rw [dt (by simpa using h3)]
 simp only [cond_false]
 cases h4:(J I v.2.1 0).2.1==2
 ·rw [cV (by simpa using h4)];rfl
 rw [dt (by simpa using h4)]
 simp only [cond_false,Bool.true_and]
 have key:=Ao v.2.1.length 1 (fun m i=>(nJ m).ba (i:Int) v) (mS v) (some (false,())) (some (cond (fr (v.2.1.length-1) (kg v.2.1)) (decide ((bytesOf v.2.1:Int)≤400) && !gp v.2.1) false,())) (1 +(v.2.1.length-1)*1+1) (fun i hi _ au B y aN=>by
  refine aN.step fun m=>?_
  show uN (nJ m) _ _=_
  unfold uN
  rw [cp hi,bx hi]
  simp only [cond_true,av,jv]
  have hx:=he _ (cJ hi)
  rw [Ve v _ hl hx.1,df i (by omega)]
  simp only [av]
  rw [F7 hi hl,au];rfl) (fun i hi _ au=>by
  refine bW.done fun m=>?_
  show uN (nJ m) _ _=_
  unfold uN
  rw [cp hi,bx hi]
  simp only [cond_true,av,jv]
  have hx:=he _ (cJ hi)
  rw [Ve v _ hl hx.1,df i (by omega)]
  simp only [av]
  rw [F7 hi hl,au];rfl) (fun qs=>by
  have hF:=U' v.2.1 1
  have k2:=Ao (v.2.1.length-1) 1 (fun m i=>(nJ m).c3 ((i+1:Nat):Int) v (dO v.2.1 1)) (kg v.2.1) (some (false,())) (some (decide ((bytesOf v.2.1:Int)≤400) && !gp v.2.1,())) 1 (fun i hi _ au B y aN=>by
   refine aN.step fun m=>?_
   show uO (nJ m) _ _ _=_
   unfold uO
   have gE:i+1<v.2.1.length:=by omega
   rw [cp gE,bx gE,hF,bx gE]
   simp only [cond_true,av,Nat.zero_add]
   rw [FT v _ hl hn,df (i+1) (by omega)]
   simp only [av]
   unfold kg at au
   simp only [Bool.and_eq_true,Bool.not_eq_true'] at au
   rw [au.1]
   have j7:=au.2
   cases g1:(J I v.2.1 (i+1)).2.1==2
   ·rfl
   ·rw [g1] at j7
    simp only [Bool.true_and] at j7
    rw [j7];rfl) (fun i hi _ au=>by
   refine bW.done fun m=>?_
   show uO (nJ m) _ _ _=_
   unfold uO
   have gE:i+1<v.2.1.length:=by omega
   rw [cp gE,bx gE,hF,bx gE]
   simp only [cond_true,av,Nat.zero_add]
   rw [FT v _ hl hn,df (i+1) (by omega)]
   simp only [av]
   unfold kg at au
   cases g0:J .bool (dO v.2.1 1) (i+1)
   ·rfl
   ·rw [g0] at au
    simp only [Bool.true_and,Bool.not_eq_false'] at au
    simp only [Bool.and_eq_true] at au
    rw [au.1,au.2];rfl) (fun _=>bW.done fun m=>by
   rw [show v.2.1.length-1+1=v.2.1.length by omega]
   show uO (nJ m) _ _ _=_
   unfold uO
   rw [cM (Nat.le_refl _),MH v hl hb]
   simp only [cond_false,av]
   rw [Vk v hl hn hb (fun i hi hk=>by have:=(Vq (Vp qs hi)).1 hk;exact⟨this.1,this.2.1⟩)]
   simp only [av,mR,UX])
  have k3:=k2.step (f:=fun m=>(nJ m).ba ((v.2.1.length:Nat):Int) v) fun m=>by
   show uN (nJ m) _ _=_
   unfold uN
   rw [cM (Nat.le_refl _),U4 v 1 hl hn];rfl
  rw [show cond (fr (v.2.1.length-1) (kg v.2.1)) (some (decide ((bytesOf v.2.1:Int)≤400) && !gp v.2.1,())) (some (false,()))=some (cond (fr (v.2.1.length-1) (kg v.2.1)) (decide ((bytesOf v.2.1:Int)≤400) && !gp v.2.1) false,()) from mR _ _ _] at k3
  exact k3)
 have:=kK key (by omega)
 rw [this,mR]
theorem Vr{l:List aJ}{i:Nat} : J I (l.drop 1) i=J I l (i+1):=by
 unfold J
 rw [List.getD_eq_getElem?_getD,List.getD_eq_getElem?_getD,List.getElem?_drop,Nat.add_comm 1 i]
theorem F8(v:ae.D)(hv:vp v):xm (v,())=some (jA v,()):=by
 obtain ⟨hl,hn,hb,he⟩:=hv
 show Er (nK aP) v=_
 unfold Er
 simp only [jw,av]
 unfold jA
 cases h1:c0 v.1 2 100000
 ·rfl
 cases h2:c0 (v.2.1.length:Int) 1 24
 ·rfl
 have eZ:=(dM.1 h2)
 simp only [Bool.not_true,cond_false]
 rw [show(0:Int)=((0:Nat):Int) from rfl,bx (show 0<v.2.1.length by omega)]
 simp only [av]
 cases h3:(J I v.2.1 0).1==1
 ·rw [cV (by simpa using h3)];rfl
 rw [dt (by simpa using h3)]
 simp only [cond_false]
 cases h4:(J I v.2.1 0).2.1==2
 ·rw [cV (by simpa using h4)];rfl
 rw [dt (by simpa using h4)]
 simp only [cond_false,Bool.true_and]
 have key:=Ao v.2.1.length 1 (fun m i=>(nK m).ba v.2.1 (v.2.1.length:Int) (i:Int) v) (mS v) (some (false,())) (some (cond (fr (v.2.1.length-1) (kg v.2.1)) (decide ((bytesOf v.2.1:Int)≤400) && !gp v.2.1) false,())) (1 +(v.2.1.length-1)*1+1) (fun i hi _ au B y aN=>by
  refine aN.step fun m=>?_
  show u1 (nK m) _ _ _ _=_
  unfold u1
  rw [cp hi,bx hi]
  simp only [cond_true,av,jw]
  have hx:=he _ (cJ hi)
  rw [Vf v _ hl hx.1 hx.2.2 hx.2.1,df i (by omega)]
  simp only [av]
  rw [F7 hi hl,au];rfl) (fun i hi _ au=>by
  refine bW.done fun m=>?_
  show u1 (nK m) _ _ _ _=_
  unfold u1
  rw [cp hi,bx hi]
  simp only [cond_true,av,jw]
  have hx:=he _ (cJ hi)
  rw [Vf v _ hl hx.1 hx.2.2 hx.2.1,df i (by omega)]
  simp only [av]
  rw [F7 hi hl,au];rfl) (fun qs=>by
  obtain ⟨out,hf,CE⟩:=MS v hl hn 1
  have hdl:(v.2.1.drop 1).length=v.2.1.length-1:=by simp
  have hol:=hf.len
  have jt:∀i,i+1<v.2.1.length→decide ((J I v.2.1 (i+1)).1∈out)=J .bool (dO v.2.1 1) (i+1):=by
   intro i hi
   rw [Bool.eq_iff_iff,decide_eq_true_eq,hf.iff]
   exact(xH v.2.1 (Vo qs) 1 hi).symm
  have k2:=Ao (v.2.1.length-1) 1 (fun m i=>(nK m).c3 (v.2.1.drop 1) ((v.2.1.drop 1).length:Int) (i:Int) v out) (kg v.2.1) (some (false,())) (some (decide ((bytesOf v.2.1:Int)≤400) && !gp v.2.1,())) 1 (fun i hi _ au B y aN=>by
   refine aN.step fun m=>?_
   show u2 (nK m) _ _ _ _ _=_
   unfold u2
   have gE:i+1<v.2.1.length:=by omega
   rw [cp (by omega),bx (by omega)]
   simp only [cond_true,av]
   rw [show J I (List.drop 1 v.2.1) i=J I v.2.1 (i+1) from Vr]
   rw [contains_eq _ _ (by omega)]
   simp only [av]
   rw [jt i gE,FU v _ hl hn,df i (by omega)]
   simp only [av]
   unfold kg at au
   simp only [Bool.and_eq_true,Bool.not_eq_true'] at au
   rw [au.1]
   have j7:=au.2
   cases g1:(J I v.2.1 (i+1)).2.1==2
   ·rfl
   ·rw [g1] at j7
    simp only [Bool.true_and] at j7
    rw [j7];rfl) (fun i hi _ au=>by
   refine bW.done fun m=>?_
   show u2 (nK m) _ _ _ _ _=_
   unfold u2
   have gE:i+1<v.2.1.length:=by omega
   rw [cp (by omega),bx (by omega)]
   simp only [cond_true,av]
   rw [show J I (List.drop 1 v.2.1) i=J I v.2.1 (i+1) from Vr]
   rw [contains_eq _ _ (by omega)]
   simp only [av]
   rw [jt i gE,FU v _ hl hn,df i (by omega)]
   simp only [av]
   unfold kg at au
   cases g0:J .bool (dO v.2.1 1) (i+1)
   ·rfl
   ·rw [g0] at au
    simp only [Bool.true_and,Bool.not_eq_false'] at au
    simp only [Bool.and_eq_true] at au
    rw [au.1,au.2];rfl) (fun _=>bW.done fun m=>by
   show u2 (nK m) _ _ _ _ _=_
   unfold u2
   rw [cM (by omega),MI v hl hb]
   simp only [cond_false,av]
   rw [Vj v hl hn hb (Vo qs) (agv qs)]
   simp only [av,mR,UX])
  have k3:=k2.step (f:=fun m=>(nK m).ba v.2.1 (v.2.1.length:Int) ((v.2.1.length:Nat):Int) v) fun m=>by
   show u1 (nK m) _ _ _ _=_
   unfold u1
   rw [cM (Nat.le_refl _),CE]
   simp only [cond_false,av]
   unfold d_
   rw [if_pos ⟨by omega,by omega,Int.le_refl _⟩]
   simp only [av,Int.toNat_natCast]
   have:part v.2.1 (Int.toNat 1) (v.2.1.length-Int.toNat 1)=v.2.1.drop 1:=Mz v.2.1 1
   rw [this];rfl
  rw [show cond (fr (v.2.1.length-1) (kg v.2.1)) (some (decide ((bytesOf v.2.1:Int)≤400) && !gp v.2.1,())) (some (false,()))=some (cond (fr (v.2.1.length-1) (kg v.2.1)) (decide ((bytesOf v.2.1:Int)≤400) && !gp v.2.1) false,()) from mR _ _ _] at k3
  exact k3)
 have:=kK key (by omega)
 rw [this,mR]
def xJ(l:List Int)(i:Nat):Bool:=c0 (J (.int .i64) l i) 0 1000
def c9(c:aH.D):Bool:=c0 c.1 0 1000&&(c0 c.2.1 0 1000&&(decide ((c.2.2.1.length:Int)≤4)&&fr c.2.2.1.length (xJ c.2.2.1)))
theorem Vs(a b:Int):decide (a>b) = !decide (a≤b):=by
 by_cases h:a≤b <;> simp [h] <;> omega
theorem xK(c:aH.D):uh (c,())=some (c9 c,()):=by
 show CN (ug aP) c=_
 unfold CN c9
 simp only [jv,av]
 cases c0 c.1 0 1000
 ·rfl
 cases c0 c.2.1 0 1000
 ·rfl
 simp only [Bool.not_true,cond_false,Bool.true_and,Vs,nS]
 by_cases hl:(c.2.2.1.length:Int)≤4
 case neg=>rw [decide_eq_false hl];rfl
 rw [decide_eq_true hl]
 simp only [cond_true,Bool.true_and]
 have:=sG c.2.2.1.length (by omega) (xJ c.2.2.1) true (fun m i=>ug m i c) (fun m _=>by
  simp only [ug,CO]
  rw [cM (Nat.le_refl _)];rfl) (fun m i hi _ hw=>by
  simp only [ug,CO,hw]
  rw [cp hi,bx hi]
  simp only [cond_true,av,jv,nS,xJ])
 rw [Bool.and_true] at this
 exact this
theorem F9(c:aH.D):xn (c,())=some (c9 c,()):=by
 show KM c=_
 unfold KM c9
 simp only [jw,av]
 cases c0 c.1 0 1000
 ·rfl
 cases c0 c.2.1 0 1000
 ·rfl
 simp only [Bool.not_true,cond_false,Bool.true_and,Vs,nS]
 by_cases hl:(c.2.2.1.length:Int)≤4
 case neg=>rw [decide_eq_false hl];rfl
 rw [decide_eq_true hl]
 simp only [cond_true,Bool.true_and]
 have h:KL (c.2.2.1,())=some ((eR c.2.2.1.length fun i => !xJ c.2.2.1 i).isSome,()):=by
  show KK c.2.2.1=_
  unfold KK
  have h:KJ (c.2.2.1,())=some (hd (eR c.2.2.1.length fun i => !xJ c.2.2.1 i),()):=by
   show Et (u3 aP) c.2.2.1=_
   unfold Et
   refine sH c.2.2.1.length (by omega) _ (fun o=>some (hd o,())) (fun m i=>u3 m c.2.2.1 (c.2.2.1.length:Int) i) ?_ ?_
   ·intro m
    simp only [u3,Eu]
    rw [cM (Nat.le_refl _)];rfl
   ·intro m i hi hw
    simp only [u3,Eu,hw]
    rw [cp hi,bx hi]
    simp only [cond_true,av]
    show Option.bind (KI (J (ad.int .i64) c.2.2.1 i)) _=_
    unfold KI
    rw [jw];rfl
  rw [h]
  simp only [av,Ak]
 rw [h]
 simp only [av]
 congr 2
 rw [Bool.eq_iff_iff,lj]
 cases hf:eR c.2.2.1.length fun i => !xJ c.2.2.1 i with
 | none =>
  simp only [Option.isSome_none,Bool.not_false,true_iff]
  exact fun i hi=>by have:=kf.1 hf i hi;simpa using this
 | some i =>
  simp only [Option.isSome_some,Bool.not_true,Bool.false_eq_true,false_iff]
  obtain ⟨h1,h2,_⟩:=gA.1 hf
  exact fun h=>by rw [h i h1] at h2;cases h2
theorem Vt{c:aH.D}(h:c9 c=true):c.2.2.1.length≤4:=by
 simp only [c9,Bool.and_eq_true,decide_eq_true_eq] at h;omega
def mT(c:aH.D)(g:Int):Bool:=c.2.1==g||decide (g∈c.2.2.1)
theorem agw{l:List Int}{i:Nat}(g:Int)(hi:i<l.length):decide (g∈l.drop i)=(J (.int .i64) l i==g||decide (g∈l.drop (i+1))):=by
 have h:=drop_cons (t:=.int .i64) hi
 have h:l.drop i=J (.int .i64) l i :: l.drop (i+1):=h
 rw [h,Bool.eq_iff_iff]
 simp only [List.mem_cons,decide_eq_true_eq,Bool.or_eq_true,beq_iff_eq]
 constructor
 ·rintro (h | h)
  ·exact .inl h.symm
  ·exact .inr h
 ·rintro (h | h)
  ·exact .inl h.symm
  ·exact .inr h
theorem MY(c:aH.D)(g:Int)(hc:c9 c=true):uj (c,g,())=some (mT c g,()):=by
 show CQ (ui aP) c g=_
 unfold CQ mT
 rw [xK,hc]
 simp only [av,Bool.not_true,cond_false]
 have hl:=Vt hc
 have key:∀(r i m:Nat) (b:Bool),i+r=c.2.2.1.length→r<m→ui m g b (i:Int) c=some (b||decide (g∈c.2.2.1.drop i),()):=by
  intro r
  induction r with
  | zero =>
   intro i m b hi hm
   obtain ⟨m,rfl,_⟩:=fuel hm
   simp only [ui,CR]
   rw [cM (by omega),List.drop_of_length_le (by omega)]
   simp
  | succ r ih =>
   intro i m b hi hm
   obtain ⟨m,rfl,hq⟩:=fuel hm
   have cz:i<c.2.2.1.length:=by omega
   simp only [ui,CR]
   rw [cp cz,df i (by omega),agw g cz]
   simp only [cond_true]
   cases b
   ·simp only [cond_false]
    rw [bx cz]
    simp only [av]
    rw [ih (i+1) m _ (by omega) (by omega)]
    simp
   ·simp only [cond_true]
    rw [ih (i+1) m _ (by omega) (by omega)]
    simp
 have:=key c.2.2.1.length 0 aP (c.2.1==g) (by omega) (ju (by omega))
 simpa using this
theorem MZ(c:aH.D)(g:Int)(hc:c9 c=true):u_ (c,g,())=some (mT c g,()):=by
 show KR c g=_
 unfold KR mT
 have hl:=Vt hc
 rw [F9,hc]
 simp only [av,cond_true]
 rw [contains_eq _ _ (by omega)]
 simp only [av]
 rw [show(g==c.2.1)=(c.2.1==g) by rw [Bool.eq_iff_iff,beq_iff_eq,beq_iff_eq];exact⟨Eq.symm,Eq.symm⟩]
 cases c.2.1==g <;> rfl
def kindOf(x:aJ):Int:=x.2.1
def e'(x:aJ):Int:=x.2.2.1
def ew(x:aJ):Int:=x.2.2.2.1
def fk(x:aJ):Int:=x.2.2.2.2.1
def kL(a b:Int):Int:=cR .and .i64 a b
def three(c:aH.D)(n:aJ):Int :=
 cond (c.1==ew n) (Int.fdiv (e' n) (2 ^ min (Int.toNat 6) 64)) (cond (mT c (fk n)) (Int.fdiv (e' n) (2 ^ min (Int.toNat 3) 64)) (e' n))
def may(c:aH.D)(n:aJ)(w:Int):Bool :=
 c0 w 0 7&&cond (c.1==0) (kL w 1==0||(kindOf n != 1||kL (e' n) 73 != 0)) (kL (kL (three c n) 7) w==w)
theorem nX(c:aH.D)(n:aJ)(w:Int)(hc:c9 c=true):j_ (c,n,w,())=some (may c n w,()):=by
 show JN c n w=_
 unfold JN may three
 rw [xK,hc,jv]
 simp only [av,Bool.not_true,cond_false]
 cases c0 w 0 7
 ·rfl
 simp only [Bool.not_true,cond_false,Bool.true_and]
 cases c.1==0
 ·simp only [cond_false]
  rw [MY c _ hc]
  simp only [av]
  show cond (mT c (fk n)) (cond (c.1==ew n) _ _) (cond (c.1==ew n) _ _)=_
  cases mT c (fk n) <;> cases c.1==ew n <;> rfl
 ·simp only [cond_true]
  show cond (kL w 1==0) _ (cond (kindOf n != 1) _ (some (kL (e' n) 73 != 0,())))=_
  cases kL w 1==0 <;> cases kindOf n != 1 <;> rfl
theorem Ap(c:aH.D)(n:aJ)(w:Int)(hc:c9 c=true):pP (c,n,w,())=some (may c n w,()):=by
 show KS c n w=_
 unfold KS may three
 rw [F9,hc,jw]
 simp only [av,Bool.not_true,cond_false]
 cases c0 w 0 7
 ·rfl
 simp only [Bool.not_true,cond_false,Bool.true_and]
 cases c.1==0
 ·simp only [cond_false]
  rw [MZ c _ hc]
  simp only [av]
  show cond (c.1==ew n) _ (cond (mT c (fk n)) _ _)=_
  cases mT c (fk n) <;> cases c.1==ew n <;> rfl
 ·simp only [cond_true]
  show cond (kindOf n != 1) _ (cond (kL (e' n) 73 != 0) _ (some (kL w 1==0,())))=_
  cases kL w 1==0 <;> cases kindOf n != 1 <;> cases kL (e' n) 73 != 0 <;> rfl
def nY(c:aH.D)(d n:aJ):Bool:=kL (e' d) 512==0||(c.1==0||(c.1==ew d||c.1==ew n))
theorem F_(c:aH.D)(d n:aJ)(hc:c9 c=true):w8 (c,d,n,())=some (nY c d n,()):=by
 show JW c d n=_
 unfold JW nY
 rw [xK,hc]
 simp only [av,Bool.not_true,cond_false]
 show cond (kL (e' d) 512==0) _ (cond (c.1==0) _ (cond (c.1==ew d) _ (some (c.1==ew n,()))))=_
 cases kL (e' d) 512==0 <;> cases c.1==0 <;> cases c.1==ew d <;> rfl
theorem M0(c:aH.D)(d n:aJ)(hc:c9 c=true):sw (c,d,n,())=some (nY c d n,()):=by
 show K7 c d n=_
 unfold K7 nY
 rw [F9,hc]
 simp only [av,cond_true]
 show cond (kL (e' d) 512==0) _ (cond (c.1==0) _ (cond (c.1==ew d) _ (some (c.1==ew n,()))))=_
 cases kL (e' d) 512==0 <;> cases c.1==0 <;> cases c.1==ew d <;> rfl
def ll(s:List UInt8):Bool:=jx s&&nb s 0==47
theorem agx(s:List UInt8)(i:Nat):((s.getD i 0).toNat:Int)=nb s i:=rfl
theorem q3(s:List UInt8):CV (s,())=some (ll s,()):=by
 show CT (uk aP) s=_
 unfold CT ll jx
 simp only [jv,av]
 by_cases hl:c0 (s.length:Int) 1 60=true
 case neg=>rw [Bool.not_eq_true] at hl;rw [hl];simp
 have hb:=dM.1 hl
 rw [hl]
 simp only [Bool.not_true,cond_false,Bool.and_true]
 rw [show aM s.length 0=some 0 from bx (i:=0) (by omega)]
 simp only [av,agx,bne,nS]
 cases nb s 0==47
 ·simp
 simp only [cond_true,Bool.and_true]
 have:=sG s.length (by omega) (fun i=>nb s i==47||sI (nb s i)) true (fun m i=>uk m s i) (fun m _=>by
  simp only [uk,CU]
  rw [cM (Nat.le_refl _)];rfl) (fun m i hi _ hw=>by
  simp only [uk,CU,hw]
  rw [cp hi,bx hi]
  simp only [cond_true,av,FQ,nS,FP,bne];rfl)
 rw [Bool.and_true] at this
 exact this
theorem Ga(s:List UInt8)(hl:s.length≤4000000000000000000):KQ (s,())=some (ll s,()):=by
 show KP s=_
 unfold KP ll
 rw [MF s hl]
 simp only [av]
 by_cases ht:jx s=true
 case neg=>rw [Bool.not_eq_true] at ht;rw [ht];rfl
 rw [ht]
 have:1≤s.length:=by
  unfold jx at ht
  rw [Bool.and_eq_true] at ht
  have:=dM.1 ht.2
  omega
 simp only [cond_true]
 rw [show aM s.length 0=some 0 from bx (i:=0) (by omega)]
 rfl
theorem vq(v:ae.D)(hl:v.2.1.length≤1048576)(hn:∀i,i<v.2.1.length→(ak (J I v.2.1 i)).length≤1048576):lZ (v,())=some (v,()):=by
 show y6 (pH aP) v=_
 unfold y6
 have:=mQ v.2.1.length (by omega) (fun m i=>pH m i v (0,([]:List I.D),()) (v.1,v.2.1.take i.toNat,())) (fun _=>some (v,())) (fun _=>True) (fun m _=>by
  simp only [pH,y7]
  rw [cM (Nat.le_refl _)]
  simp only [Int.toNat_natCast,List.take_length,cond_false]) (fun m i hi _ hw ih=>by
  simp only [pH,y7]
  rw [cp hi,bx hi]
  simp only [cond_true,av,Int.toNat_natCast]
  have agy:=hn i hi
  show cond (room (0 +(ak (J I v.2.1 i)).length)) _ _=_
  rw [cI (by omega)]
  simp only [cond_true]
  unfold RI
  show cond (room ((v.2.1.take i).length+1)) _ _=_
  rw [cI (by rw [List.length_take];omega)]
  simp only [cond_true]
  unfold RH
  rw [hw]
  have ih:=ih trivial
  rw [show((i:Int)+1).toNat=i+1 by omega,List.take_succ_eq_append_getElem hi,← c6 (t:=I) hi] at ih
  exact ih) v.2.1.length 0 aP (by omega) (ju (by omega)) trivial
 simpa using this
theorem agz(v:ae.D)(hl:v.2.1.length≤1048576)(hn:∀i,i<v.2.1.length→(ak (J I v.2.1 i)).length≤1048576):sm (v,())=some (v,()):=by
 show Ex (u5 aP) v=_
 unfold Ex
 have:=mQ v.2.1.length (by omega) (fun m i=>u5 m v.2.1 (v.2.1.length:Int) i (0,([]:List I.D),()) (v.1,v.2.1.take i.toNat,())) (fun _=>some (v,())) (fun _=>True) (fun m _=>by
  simp only [u5,Ey]
  rw [cM (Nat.le_refl _)]
  simp only [Int.toNat_natCast,List.take_length,cond_false]) (fun m i hi _ hw ih=>by
  simp only [u5,Ey]
  rw [cp hi,bx hi]
  simp only [cond_true,av,Int.toNat_natCast]
  have agy:=hn i hi
  show cond (room (0 +(ak (J I v.2.1 i)).length)) _ _=_
  rw [cI (by omega)]
  simp only [cond_true]
  unfold Sm
  show cond (room ((v.2.1.take i).length+1)) _ _=_
  rw [cI (by rw [List.length_take];omega)]
  simp only [cond_true]
  unfold Sl
  rw [hw]
  have ih:=ih trivial
  rw [show((i:Int)+1).toNat=i+1 by omega,List.take_succ_eq_append_getElem hi,← c6 (t:=I) hi] at ih
  exact ih) v.2.1.length 0 aP (by omega) (ju (by omega)) trivial
 simpa using this
theorem o1{β : Type}(W:Nat)(F:Nat→Nat → β)(y : β):∀(k B:Nat),(∀i,i<k→∀B y,bW (fun m=>F m (i+1)) B y→bW (fun m=>F m i) (B+W) y)→bW (fun m=>F m k) B y→bW (fun m=>F m 0) (B+k*W) y
 | 0,B,_,h=>by simpa using h
 | k+1,B,hf,h=>by
  have:=o1 W F y k (B+W) (fun i hi=>hf i (by omega)) (hf k (by omega) B y h)
  rw [Nat.add_one_mul]
  rwa [show B +(k*W+W)=B+W+k*W by omega]
theorem Vu{β : Type}(n W:Nat)(F:Nat→Nat → β)(P:Nat→Bool)(R:Option Nat → β)(B:Nat)(hn:bW (fun m=>F m n) B (R none))(hs:∀i,i<n→P i=true→bW (fun m=>F m i) B (R (some i)))
  (hf:∀i,i<n→P i=false→∀B y,bW (fun m=>F m (i+1)) B y→bW (fun m=>F m i) (B+W) y):bW (fun m=>F m 0) (B+n*W) (R (eR n P)):=by
 cases h:eR n P with
 | none=>exact o1 W F _ n B (fun i hi=>hf i hi (kf.1 h i hi)) hn
 | some k =>
  obtain ⟨h1,h2,h3⟩:=gA.1 h
  refine(o1 W F _ k B (fun i hi=>hf i (by omega) (h3 i hi)) (hs k h1 h2)).mono ?_
  have:k*W≤n*W:=Nat.mul_le_mul_right _ (by omega)
  omega
theorem iK(v:ae.D)(id:Int)(hl:v.2.1.length≤1048576){i:Nat}(h:bd v.2.1 id=some i):e_ (v,id,())=some (J I v.2.1 i,()):=by
 show JP v id=_
 unfold JP
 rw [l1 v id hl,h]
 simp only [av,hd]
 rw [bx (bT h).1];rfl
theorem M1(v:ae.D)(id:Int)(hl:v.2.1.length≤1048576):xj (v,id,())=some (hd (bd v.2.1 id),v,()):=by
 show D3 (uR aP) v id=_
 unfold D3 bd
 refine sH v.2.1.length (by omega) _ (fun o=>some (hd o,v,())) (fun m i=>uR m id (v.2.1.length:Int) i v) ?_ ?_
 ·intro m
  simp only [uR,D4]
  rw [cM (Nat.le_refl _)];rfl
 ·intro m i hi hw
  simp only [uR,D4,hw]
  rw [cp hi,bx hi]
  simp only [cond_true,av,Nat.zero_add];rfl
theorem mU(v:ae.D)(id:Int)(hl:v.2.1.length≤1048576){i:Nat}(h:bd v.2.1 id=some i):fA (v,id,())=some ([J I v.2.1 i],()):=by
 rw [xF v id hl,h];rfl
def ln(l:List aJ)(id:Int):Bool:=match bd l id with | some i=>kindOf (J I l i)==2 | none=>false
theorem Vv(v:ae.D)(id:Int)(hl:v.2.1.length≤1048576):xa (v,id,())=some (ln v.2.1 id,()):=by
 show JX v id=_
 unfold JX ln
 rw [l1 v id hl]
 simp only [av,Ak]
 cases h:bd v.2.1 id with
 | none=>rfl
 | some i =>
  simp only [Option.isSome_some,cond_true,hd]
  rw [bx (bT h).1];rfl
theorem Gb(v:ae.D)(id:Int)(hl:v.2.1.length≤1048576):ve (v,id,())=some (ln v.2.1 id,()):=by
 show Ld v id=_
 unfold Ld ln
 rw [xF v id hl]
 cases h:bd v.2.1 id with
 | none=>rfl
 | some i=>rfl
def q4(N:List aw.D)(s:List UInt8)(j:Nat):Bool:=bn (J aw N j).1 s
def Aq(N:List aw.D):Option Nat→Int
 | none=>0
 | some j=>(J aw N j).2.1
def cW(N:List aw.D)(s:List UInt8):Int:=Aq N (eR N.length (q4 N s))
theorem Vw(v:ae.D)(id:Int)(s:List UInt8)(hl:v.2.1.length≤1048576){i:Nat}(h:bd v.2.1 id=some i)(hn:(ak (J I v.2.1 i)).length≤1048576) :
  JO (v,id,s,())=some (cW (ak (J I v.2.1 i)) s,()):=by
 show C4 (r3 aP) v id s=_
 unfold C4
 rw [l1 v id hl,h]
 simp only [av,hd]
 rw [bx (bT h).1]
 simp only [av]
 show r3 aP s (ak (J I v.2.1 i)) 0=_
 generalize ak (J I v.2.1 i)=N at hn
 refine sH N.length (by omega) (q4 N s) (fun o=>some (Aq N o,())) (fun m j=>r3 m s N j) ?_ ?_
 ·intro m
  simp only [r3,C5]
  rw [cM (Nat.le_refl _)];rfl
 ·intro m j hj hw
  simp only [r3,C5,hw]
  rw [cp hj,bx hj];rfl
theorem Vx(n:aJ)(s:List UInt8)(hn:(ak n).length≤1048576):EE (n,s,())=some (cW (ak n) s,()):=by
 show EC (sn aP) n s=_
 unfold EC
 show sn aP s (ak n) ((ak n).length:Int) 0=_
 generalize ak n=N at hn
 refine sH N.length (by omega) (q4 N s) (fun o=>some (Aq N o,())) (fun m j=>sn m s N (N.length:Int) j) ?_ ?_
 ·intro m
  simp only [sn,ED]
  rw [cM (Nat.le_refl _)];rfl
 ·intro m j hj hw
  simp only [sn,ED,hw]
  rw [cp hj,bx hj];rfl
def jT(N:List aw.D)(id:Int)(j:Nat):Bool:=(J aw N j).2.1==id
def nZ(N:List aw.D)(id:Int):Bool:=(eR N.length (jT N id)).isSome
def M3(l:List aJ):Option Nat→Int
 | none=>1
 | some i=>(J I l i).1
def sM(l:List aJ)(id:Int):Option Nat:=eR l.length fun i=>nZ (ak (J I l i)) id
def hR(l:List aJ)(id:Int):Int:=M3 l (sM l id)
theorem M4{N:List aw.D}{id:Int}(h:nZ N id=false):∀j,j<N.length→jT N id j=false:=by
 unfold nZ at h
 cases hf:eR N.length (jT N id) with
 | none=>exact kf.1 hf
 | some j=>rw [hf] at h;cases h
theorem Gc{N:List aw.D}{id:Int}(h:nZ N id=true):∃j,j<N.length∧jT N id j=true∧∀k,k<j→jT N id k=false:=by
 unfold nZ at h
 cases hf:eR N.length (jT N id) with
 | none=>rw [hf] at h;cases h
 | some j=>exact⟨j,gA.1 hf⟩
theorem M5(v:ae.D)(id:Int)(hl:v.2.1.length≤1048576)(hn:dw v.2.1≤1048576):C2 (v,id,())=some (hR v.2.1 id,()):=by
 show C1 (kE aP) v id=_
 unfold C1
 have inner:∀i,i<v.2.1.length→∀j,j<(ak (J I v.2.1 i)).length→jT (ak (J I v.2.1 i)) id j=false→∀B y,bW (fun m=>(kE m).bt id (i:Int) ((j+1:Nat):Int) v) B y→bW (fun m=>(kE m).bt id (i:Int) (j:Int) v) (B+1) y:=by
  intro i hi j hj au B y he
  have hnl:=fI hi
  refine he.step fun m=>?_
  show ur (kE m) _ _ _ _=_
  unfold ur
  rw [bx hi]
  simp only [av]
  show cond (decide ((j:Int)<((ak (J I v.2.1 i)).length:Int))) ((aM (ak (J I v.2.1 i)).length (j:Int)).bind fun v3=>cond (jT (ak (J I v.2.1 i)) id v3) _ _) _=_
  rw [cp hj,bx hj]
  simp only [cond_true,av,au,cond_false]
  rw [df j (by omega)]
 have key:=Vu v.2.1.length (1048576+2) (fun m i=>(kE m).k2 id (i:Int) v) (fun i=>nZ (ak (J I v.2.1 i)) id) (fun o=>some (M3 v.2.1 o,())) (1048576+3) ((bW.done fun m=>by
   show uq (kE m) _ _ _=_
   unfold uq
   rw [cM (Nat.le_refl _)];rfl).mono (by omega)) (fun i hi au=>by
   have hnl:=fI hi
   obtain ⟨j,h1,h2,h3⟩:=Gc au
   have:=o1 1 (fun m j=>(kE m).bt id (i:Int) (j:Int) v) (some ((J I v.2.1 i).1,())) j 1 (fun k hk=>inner i hi k (by omega) (h3 k hk)) (bW.done fun m=>by
    show ur (kE m) _ _ _ _=_
    unfold ur
    rw [bx hi]
    simp only [av]
    show cond (decide ((j:Int)<((ak (J I v.2.1 i)).length:Int))) ((aM (ak (J I v.2.1 i)).length (j:Int)).bind fun v3=>cond (jT (ak (J I v.2.1 i)) id v3) _ _) _=_
    rw [cp h1,bx h1]
    simp only [cond_true,av,h2])
   refine(this.step (f:=fun m=>(kE m).k2 id (i:Int) v) fun m=>?_).mono (by omega)
   show uq (kE m) _ _ _=_
   unfold uq
   rw [cp hi];rfl) (fun i hi au B y he=>by
   have hnl:=fI hi
   have h0:=M4 au
   have:=o1 1 (fun m j=>(kE m).bt id (i:Int) (j:Int) v) y (ak (J I v.2.1 i)).length (B+1) (fun k hk=>inner i hi k hk (h0 k hk)) (he.step fun m=>by
    show ur (kE m) _ _ _ _=_
    unfold ur
    rw [bx hi]
    simp only [av]
    show cond (decide (((ak (J I v.2.1 i)).length:Int)<((ak (J I v.2.1 i)).length:Int))) _ _=_
    rw [cM (Nat.le_refl _)]
    simp only [cond_false]
    rw [df i (by omega)])
   refine(this.step (f:=fun m=>(kE m).k2 id (i:Int) v) fun m=>?_).mono (by omega)
   show uq (kE m) _ _ _=_
   unfold uq
   rw [cp hi];rfl)
 have hm:v.2.1.length*(1048576+2)≤1048576*(1048576+2):=Nat.mul_le_mul_right _ hl
 exact kK key (by omega)
theorem Vy(v:ae.D)(id:Int)(hl:v.2.1.length≤1048576)(hn:dw v.2.1≤1048576):EA (v,id,())=some (hR v.2.1 id,()):=by
 show Ez (kI aP) v id=_
 unfold Ez
 have inner:∀i,i<v.2.1.length→∀j,j<(ak (J I v.2.1 i)).length→jT (ak (J I v.2.1 i)) id j=false→∀B y,
   bW (fun m=>(kI m).bt id v.2.1 (v.2.1.length:Int) (i:Int) (ak (J I v.2.1 i)) ((ak (J I v.2.1 i)).length:Int) ((j+1:Nat):Int) (J I v.2.1 i)) B y →
   bW (fun m=>(kI m).bt id v.2.1 (v.2.1.length:Int) (i:Int) (ak (J I v.2.1 i)) ((ak (J I v.2.1 i)).length:Int) (j:Int) (J I v.2.1 i)) (B+1) y:=by
  intro i hi j hj au B y he
  have hnl:=fI hi
  refine he.step fun m=>?_
  show u9 (kI m) _ _ _ _ _ _ _ _=_
  unfold u9
  rw [cp hj,bx hj]
  simp only [cond_true,av]
  show cond (jT (ak (J I v.2.1 i)) id j) _ _=_
  rw [au,df j (by omega)];rfl
 have key:=Vu v.2.1.length (1048576+2) (fun m i=>(kI m).k2 id v.2.1 (v.2.1.length:Int) (i:Int)) (fun i=>nZ (ak (J I v.2.1 i)) id) (fun o=>some (M3 v.2.1 o,())) (1048576+3) ((bW.done fun m=>by
   show u7 (kI m) _ _ _ _=_
   unfold u7
   rw [cM (Nat.le_refl _)];rfl).mono (by omega)) (fun i hi au=>by
   have hnl:=fI hi
   obtain ⟨j,h1,h2,h3⟩:=Gc au
   have:=o1 1 (fun m j=>(kI m).bt id v.2.1 (v.2.1.length:Int) (i:Int) (ak (J I v.2.1 i)) ((ak (J I v.2.1 i)).length:Int) (j:Int) (J I v.2.1 i)) (some ((J I v.2.1 i).1,())) j 1 (fun k hk=>inner i hi k (by omega) (h3 k hk)) (bW.done fun m=>by
    show u9 (kI m) _ _ _ _ _ _ _ _=_
    unfold u9
    rw [cp h1,bx h1]
    simp only [cond_true,av]
    show cond (jT (ak (J I v.2.1 i)) id j) _ _=_
    rw [h2];rfl)
   refine(this.step (f:=fun m=>(kI m).k2 id v.2.1 (v.2.1.length:Int) (i:Int)) fun m=>?_).mono (by omega)
   show u7 (kI m) _ _ _ _=_
   unfold u7
   rw [cp hi,bx hi];rfl) (fun i hi au B y he=>by
   have hnl:=fI hi
   have h0:=M4 au
   have:=o1 1 (fun m j=>(kI m).bt id v.2.1 (v.2.1.length:Int) (i:Int) (ak (J I v.2.1 i)) ((ak (J I v.2.1 i)).length:Int) (j:Int) (J I v.2.1 i)) y (ak (J I v.2.1 i)).length (B+1) (fun k hk=>inner i hi k hk (h0 k hk)) (he.step fun m=>by
    show u9 (kI m) _ _ _ _ _ _ _ _=_
    unfold u9
    rw [cM (Nat.le_refl _)]
    simp only [cond_false]
    rw [df i (by omega)])
   refine(this.step (f:=fun m=>(kI m).k2 id v.2.1 (v.2.1.length:Int) (i:Int)) fun m=>?_).mono (by omega)
   show u7 (kI m) _ _ _ _=_
   unfold u7
   rw [cp hi,bx hi];rfl)
 have hm:v.2.1.length*(1048576+2)≤1048576*(1048576+2):=Nat.mul_le_mul_right _ hl
 exact kK key (by omega)
def mV(l:List aJ)(N:List aw.D):Nat:=(N.filter fun d=>ln l d.2.1).length
def o2(l:List aJ)(n:aJ):Int:=cond (kindOf n != 2) (ck l n.1:Int) (2+mV l (ak n):Int)
theorem Vz{l:List aJ}{N:List aw.D}{j:Nat}(hj:j<N.length):mV l (N.take (j+1))=mV l (N.take j)+cond (ln l (J aw N j).2.1) 1 0:=by
 unfold mV
 rw [List.take_succ_eq_append_getElem hj,List.filter_append,List.length_append]
 congr 1
 rw [c6 hj]
 cases h:ln l (N[j]).2.1 <;> simp [List.filter_cons,h]
theorem VA(l:List aJ)(N:List aw.D)(j:Nat):mV l (N.take j)≤N.length:=by
 unfold mV
 refine Nat.le_trans (List.length_filter_le _ _) ?_
 rw [List.length_take];omega
theorem agA(v:ae.D)(id:Int)(hl:v.2.1.length≤1048576)(hn:dw v.2.1≤1048576){i:Nat}(h:bd v.2.1 id=some i):Dz (v,id,())=some (o2 v.2.1 (J I v.2.1 i),()):=by
 show Dx (uG aP) v id=_
 unfold Dx o2
 obtain ⟨hi,b2⟩:=bT h
 have hnl:=fI hi
 rw [l1 v id hl,h]
 simp only [av,Aj,Option.isNone_some,cond_false,hd]
 rw [bx hi]
 simp only [av]
 show cond (kindOf (J I v.2.1 i) != 2) _ _=_
 cases kindOf (J I v.2.1 i) != 2
 ·simp only [cond_false]
  have:=mQ (ak (J I v.2.1 i)).length (by omega) (fun m j=>uG m (i:Int) (2+mV v.2.1 ((ak (J I v.2.1 i)).take j.toNat):Int) j v) (fun _=>some ((2+mV v.2.1 (ak (J I v.2.1 i)):Int),())) (fun _=>True) (fun m _=>by
   simp only [uG,Dy]
   rw [bx hi]
   simp only [av]
   show cond (decide (((ak (J I v.2.1 i)).length:Int)<((ak (J I v.2.1 i)).length:Int))) _ _=_
   rw [cM (Nat.le_refl _)]
   simp only [Int.toNat_natCast,List.take_length,cond_false]) (fun m j hj _ hw ih=>by
   have ih:=ih trivial
   rw [show((j:Int)+1).toNat=j+1 by omega,Vz hj] at ih
   have hdl:=VA v.2.1 (ak (J I v.2.1 i)) j
   simp only [uG,Dy]
   rw [bx hi]
   simp only [av]
   show cond (decide ((j:Int)<((ak (J I v.2.1 i)).length:Int))) ((aM (ak (J I v.2.1 i)).length (j:Int)).bind fun v3=>(xa (v,(J aw (ak (J I v.2.1 i)) v3).2.1,())).bind _) _=_
   rw [cp hj,bx hj]
   simp only [cond_true,av]
   rw [Vv v _ hl]
   simp only [av,hw,Int.toNat_natCast]
   revert ih
   cases ln v.2.1 (J aw (ak (J I v.2.1 i)) j).2.1
   ·intro ih
    exact ih
   ·intro ih
    simp only [cond_true] at ih ⊢
    rw [dI (by omega) (by omega)]
    rw [Int.natCast_add,← Int.add_assoc] at ih
    exact ih) (ak (J I v.2.1 i)).length 0 aP (by omega) (ju (by omega)) trivial
  simpa [mV] using this
 ·simp only [cond_true]
  rw [FT v id hl hn,b2];rfl
theorem VB(v:ae.D)(n:aJ)(hl:v.2.1.length≤1048576)(hn:dw v.2.1≤1048576)(hnl:(ak n).length≤1048576):Fg (v,n,())=some (o2 v.2.1 n,()):=by
 show Fe (sy aP) v n=_
 unfold Fe o2
 show cond (kindOf n != 2) _ _=_
 cases kindOf n != 2
 ·simp only [cond_false]
  have:=mQ (ak n).length (by omega) (fun m j=>sy m v (2+mV v.2.1 ((ak n).take j.toNat):Int) (ak n) ((ak n).length:Int) j) (fun _=>some ((2+mV v.2.1 (ak n):Int),())) (fun _=>True) (fun m _=>by
   simp only [sy,Ff]
   rw [cM (Nat.le_refl _)]
   simp only [Int.toNat_natCast,List.take_length,cond_false]) (fun m j hj _ hw ih=>by
   have ih:=ih trivial
   rw [show((j:Int)+1).toNat=j+1 by omega,Vz hj] at ih
   have hdl:=VA v.2.1 (ak n) j
   simp only [sy,Ff]
   rw [cp hj,bx hj]
   simp only [cond_true,av]
   rw [Gb v _ hl]
   simp only [av,hw,Int.toNat_natCast]
   revert ih
   cases ln v.2.1 (J aw (ak n) j).2.1
   ·intro ih
    exact ih
   ·intro ih
    simp only [cond_true] at ih ⊢
    rw [dI (by omega) (by omega)]
    rw [Int.natCast_add,← Int.add_assoc] at ih
    exact ih) (ak n).length 0 aP (by omega) (ju (by omega)) trivial
  show sy aP v 2 (ak n) ((ak n).length:Int) 0=_
  simpa [mV] using this
 ·simp only [cond_true]
  rw [FU v _ hl hn];rfl
abbrev aF:Type:=List UInt8
def jB(c:aF):List aF→List aF
 | []=>[c]
 | p :: ps=>(c++p) :: ps
def eU:aF→List aF
 | []=>[[]]
 | b :: l=>cond (b==47) ([] :: eU l) (jB [b] (eU l))
def full(p:aF):Bool := !bn p []
def cut(s:aF):List aF:=(eU s).filter full
theorem agB(c:aF)(l:List aF):jB c l≠[]:=by cases l <;> simp [jB]
theorem Gd(s:aF):eU s≠[]:=by
 cases s with
 | nil=>simp [eU]
 | cons b l=>simp only [eU];cases b==47 <;> simp [agB]
theorem M6{l:List aF}(h:l≠[]):jB [] l=l:=by cases l <;> simp_all [jB]
theorem agC(a b:aF){l:List aF} : jB a (jB b l)=jB (a++b) l:=by cases l <;> simp [jB]
theorem M7{p:aF} : full p=false↔p=[]:=by unfold full bn;simp
theorem agD(c:aF):(jB c [[]]).filter full=cond (full c) [c] []:=by
 simp only [jB,List.append_nil,List.filter_cons,List.filter_nil]
 cases full c <;> rfl
theorem agE(s:aF){i:Nat}(h:i<s.length):s.drop i=s.getD i 0 :: s.drop (i+1):=by
 rw [List.drop_eq_getElem_cons h]
 congr 1
 rw [List.getD_eq_getElem?_getD,List.getElem?_eq_getElem h];rfl
theorem agF{s:aF}{a i:Nat}(ha:a≤i)(hi:i<s.length):part s a (i+1-a)=part s a (i-a)++[s.getD i 0]:=by
 unfold part
 rw [show i+1-a=(i-a)+1 by omega,List.take_add_one]
 congr 1
 rw [List.getElem?_drop,show a +(i-a)=i by omega,List.getElem?_eq_getElem hi,List.getD_eq_getElem?_getD,List.getElem?_eq_getElem hi];rfl
theorem VC(b:UInt8):(((b.toNat:Nat):Int)==47)=(b==47):=by
 rw [Bool.eq_iff_iff,beq_iff_eq,beq_iff_eq]
 constructor
 ·intro h
  have:b.toNat=47:=by omega
  exact UInt8.toNat_inj.1 (by rw [this];rfl)
 ·rintro rfl;rfl
theorem agG{s:aF}{a n:Nat}(h:a+n≤s.length):(part s a n).length=n:=by unfold part;rw [List.length_take,List.length_drop];omega
theorem VD{s:aF}{a i:Nat}(ha:a≤i)(hi:i≤s.length):full (part s a (i-a))=decide ((i:Int) >(a:Int)):=by
 by_cases h:a<i
 ·rw [decide_eq_true (show(i:Int) >(a:Int) by omega)]
  rw [← Bool.not_eq_false,M7]
  intro h0
  have:=agG (s:=s) (a:=a) (n:=i-a) (by omega)
  rw [h0] at this
  simp at this;omega
 ·have:i-a=0:=by omega
  rw [this,decide_eq_false (show ¬(i:Int) >(a:Int) by omega)]
  exact M7.2 (by simp [part])
theorem Ge(s:aF)(hl:s.length≤1048576):w5 (s,())=some (cut s,()):=by
 show C0 (qA aP) s=_
 unfold C0
 have key:∀(r i m a:Nat) (out:List aF),i+r=s.length→r+1<m→a≤i→out.length≤i→qA m s (a:Int) (i:Int) out=some (out++(jB (part s a (i-a)) (eU (s.drop i))).filter full,()):=by
  intro r
  induction r with
  | zero =>
   intro i m a out hi hm ha ho
   obtain ⟨m,rfl,pt⟩:=fuel hm
   obtain ⟨m,rfl,_⟩:=fuel pt
   have bR:i=s.length:=by omega
   have jd:∀(x:Int) (o:List aF),qA (m+1) s x (aG ((i:Int)+1)) o=some (o,()):=by
    intro x o
    simp only [qA,zc]
    rw [df i (by omega),decide_eq_false (by omega)];rfl
   rw [qA,zc,decide_eq_true (show(i:Int)≤(s.length:Int) by omega),show((i:Int) ==(s.length:Int))=true by simp;omega]
   simp only [cond_true]
   rw [List.drop_of_length_le (by omega),eU,agD,VD ha (by omega)]
   by_cases h:(i:Int) >(a:Int)
   ·rw [decide_eq_true h]
    simp only [cond_true]
    rw [kr ha (by omega)]
    simp only [av]
    rw [cI (by simp only [List.length_cons,List.length_nil];omega)]
    simp only [cond_true,jd]
   ·rw [decide_eq_false h]
    simp only [cond_false,jd,List.append_nil]
  | succ r ih =>
   intro i m a out hi hm ha ho
   obtain ⟨m,rfl,hm⟩:=fuel hm
   have cz:i<s.length:=by omega
   rw [qA,zc,decide_eq_true (show(i:Int)≤(s.length:Int) by omega),show((i:Int) ==(s.length:Int))=false by simp;omega]
   simp only [cond_true,cond_false]
   rw [bx cz,agE s cz,eU]
   simp only [av]
   rw [VC,df i (by omega)]
   cases s.getD i 0==47
   ·simp only [cond_false]
    rw [ih (i+1) m a out (by omega) (by omega) (by omega) (by omega),agC,← agF ha cz]
   ·simp only [cond_true]
    have hz:part s (i+1) (i+1-(i+1))=[]:=by simp [part]
    have hs:(jB (part s a (i-a)) ([] :: eU (s.drop (i+1)))).filter full=cond (full (part s a (i-a))) [part s a (i-a)] []++(eU (s.drop (i+1))).filter full:=by
     simp only [jB,List.append_nil,List.filter_cons]
     cases full (part s a (i-a)) <;> rfl
    rw [hs,VD ha (by omega)]
    by_cases h:(i:Int) >(a:Int)
    ·rw [decide_eq_true h]
     simp only [cond_true]
     rw [kr ha (by omega)]
     simp only [av]
     rw [cI (by simp only [List.length_cons,List.length_nil];omega)]
     simp only [cond_true]
     rw [ih (i+1) m (i+1) _ (by omega) (by omega) (by omega) (by simp;omega),hz,M6 (Gd _),List.append_assoc]
    ·rw [decide_eq_false h]
     simp only [cond_false]
     rw [ih (i+1) m (i+1) _ (by omega) (by omega) (by omega) (by omega),hz,M6 (Gd _),List.nil_append]
 have:=key s.length 0 aP 0 [] (by omega) (ju (by omega)) (by omega) (by simp)
 rw [show part s 0 (0-0)=[] by simp [part],List.drop_zero,M6 (Gd _)] at this
 simpa [cut] using this
theorem VE{s:aF}(h:Lib.indexByte s 47 = -1):eU s=[s]∧s.count 47=0:=by
 induction s with
 | nil=>exact⟨rfl,rfl⟩
 | cons b l ih =>
  unfold Lib.indexByte at h
  cases hb:b==47
  ·rw [hb] at h
   simp only [Bool.false_eq_true,if_false] at h
   have hl:Lib.indexByte l 47 = -1:=by
    by_cases h1:Lib.indexByte l 47 = -1
    ·exact h1
    ·have h2:=Lib.indexByte_ge l 47
     rw [if_neg (by simpa using h1)] at h
     omega
   obtain ⟨i1,i2⟩:=ih hl
   refine⟨by rw [eU,hb,i1];rfl,?_⟩
   rw [List.count_cons,i2,hb];rfl
  ·rw [hb] at h;simp at h
theorem VF{s:aF}{k:Nat}(h:Lib.indexByte s 47=(k:Int)):k<s.length∧eU s=s.take k :: eU (s.drop (k+1))∧s.count 47=(s.drop (k+1)).count 47+1:=by
 induction s generalizing k with
 | nil=>unfold Lib.indexByte at h;omega
 | cons b l ih =>
  unfold Lib.indexByte at h
  cases hb:b==47
  ·rw [hb] at h
   simp only [Bool.false_eq_true,if_false] at h
   have h2:=Lib.indexByte_ge l 47
   by_cases h1:Lib.indexByte l 47 = -1
   ·rw [if_pos (by simpa using h1)] at h;omega
   ·rw [if_neg (by simpa using h1)] at h
    obtain ⟨j,rfl⟩:∃j,k=j+1:=⟨k-1,by omega⟩
    obtain ⟨i1,i2,i3⟩:=ih (k:=j) (by omega)
    refine⟨by simp;omega,?_,?_⟩
    ·rw [eU,hb,i2];rfl
    ·rw [List.count_cons,i3,hb];rfl
  ·rw [hb] at h
   simp only [if_true] at h
   have:k=0:=by omega
   subst this
   refine⟨by simp,?_,?_⟩
   ·rw [eU,hb];rfl
   ·rw [List.count_cons,hb];rfl
theorem VG(s:aF):Lib.indexByte s 47 = -1∨∃k:Nat,Lib.indexByte s 47=k:=by
 have:=Lib.indexByte_ge s 47
 by_cases h:Lib.indexByte s 47 = -1
 ·exact .inl h
 ·exact .inr ⟨(Lib.indexByte s 47).toNat,by omega⟩
theorem agH(s:aF):EF (s,[47],())=some (Lib.indexByte s 47,()):=by
 show KU s [47]=_
 unfold KU
 show Option.bind (KT s [47]) _=_
 unfold KT
 by_cases h:bn [47] s=true
 ·rw [h]
  have:s=[47]:=by unfold bn at h;simp only [decide_eq_true_eq] at h;exact h.symm
  subst this;rfl
 ·rw [Bool.not_eq_true] at h
  rw [h]
  rfl
theorem agI(s:aF):KV (s,[47],())=some ((s.count 47:Int),()):=by
 show EH (EI aP) s [47]=_
 unfold EH
 rfl
theorem agJ:∀(r:Nat) (s:aF) (i n m:Nat) (a:List aF),s.length≤1048576→n≤1048576→s.count 47=r→i+r=n→a.length=n+1→r+1<m →
  (qP m).c3 s [47] 0 (n:Int) (i:Int) a=some (a.take i++eU s,()):=by
 intro r
 induction r with
 | zero =>
  intro s i n m a hs hn hc hi ha hm
  obtain ⟨m,rfl,pt⟩:=fuel hm
  obtain ⟨m,rfl,_⟩:=fuel pt
  have:i=n:=by omega
  subst this
  show zN (qP (m+1)) _ _ _ _ _ _=_
  unfold zN
  rw [cM (Nat.le_refl _)]
  simp only [cond_false]
  show KX (qP m) _ _ _=_
  unfold KX
  rw [bx (by omega)]
  simp only [av,Nat.zero_add]
  rw [df i (by omega)]
  show Option.bind (d_ (a.set i s).length ((0:Nat):Int) ((i+1:Nat):Int)) _=_
  rw [kr (by omega) (by rw [List.length_set];omega)]
  simp only [av,Nat.zero_add,Nat.sub_zero]
  have hsp:eU s=[s]:=by
   rcases VG s with h | ⟨k,h⟩
   ·exact(VE h).1
   ·have:=(VF h).2.2;omega
  rw [hsp,Ai,List.take_succ_eq_append_getElem (by rw [List.length_set];omega),List.getElem_set_self,List.take_set_of_le (by omega)]
 | succ r ih =>
  intro s i n m a hs hn hc hi ha hm
  obtain ⟨m,rfl,hm⟩:=fuel hm
  show zN (qP m) _ _ _ _ _ _=_
  unfold zN
  rw [cp (by omega),agH]
  simp only [cond_true,av]
  obtain ⟨k,hk⟩:∃k:Nat,Lib.indexByte s 47=k:=by
   rcases VG s with h | h
   ·have:=(VE h).2;omega
   ·exact h
  obtain ⟨h1,h2,h3⟩:=VF hk
  rw [hk,decide_eq_false (by omega)]
  simp only [cond_false]
  rw [show aG ((k:Int)+0)=(k:Int) by rw [Int.add_zero];exact dI (by omega) (by omega)]
  show Option.bind (d_ s.length ((0:Nat):Int) (k:Int)) _=_
  rw [kr (by omega) (by omega)]
  simp only [av]
  rw [bx (by omega)]
  simp only [av,Nat.zero_add]
  unfold Sv
  simp only
  rw [show aG ((k:Int) +(([47]:aF).length:Int))=((k+1:Nat):Int) from df k (by omega),kr (by omega) (Nat.le_refl _)]
  simp only [av]
  rw [Mz,df i (by omega),ih (s.drop (k+1)) (i+1) n m _ (by rw [List.length_drop];omega) hn (by omega) (by omega) (by rw [List.length_set];exact ha) (by omega)]
  rw [h2,List.take_succ_eq_append_getElem (by rw [List.length_set];omega),List.getElem_set_self,List.take_set_of_le (by omega),Nat.sub_zero,Ai,List.append_assoc];rfl
theorem agK(s:aF)(hl:s.length≤1048576):K0 (s,[47],())=some (eU s,()):=by
 show KZ s [47]=_
 unfold KZ
 have:KY (s,[47],0,-1,())=some (eU s,()):=by
  show EJ (qP aP) s [47] 0 (-1)=_
  unfold EJ
  have hcl:s.count 47≤s.length:=List.count_le_length
  rw [agI]
  show(qP aP).dj s [47] 0 (aG ((s.count 47:Int)+1))=_
  obtain ⟨q,hq,h9⟩:=iI 1
  rw [hq]
  show KW (qP q) _ _ _ _=_
  unfold KW
  rw [df _ (by omega),df _ (by omega),show jG ((s.count 47+1:Nat):Int) ((s.length+1:Nat):Int)=((s.count 47+1:Nat):Int) by rw [afY];omega]
  rw [decide_eq_true (by omega),decide_eq_true rfl,Int.toNat_natCast,cI (by omega)]
  simp only [Bool.and_self,cond_true]
  rw [show aG (((s.count 47+1:Nat):Int)-1)=((s.count 47:Nat):Int) by rw [dI (by omega) (by omega)];omega]
  have:=agJ (s.count 47) s 0 (s.count 47) q (List.replicate (s.count 47+1) []) hl (by omega) rfl (by omega) (by simp) (by omega)
  simpa using this
 rw [this];rfl
theorem VH(s:aF)(hl:s.length≤1048576):sq (s,())=some (cut s,()):=by
 show EL (so aP) s=_
 unfold EL
 rw [agK s hl]
 simp only [av]
 have pU:(eU s).length≤1048577:=by
  have:∀s:aF,(eU s).length≤s.length+1:=by
   intro s
   induction s with
   | nil=>simp [eU]
   | cons b l ih =>
    rw [eU]
    cases b==47
    ·simp only [cond_false,List.length_cons]
     cases hs:eU l with
     | nil=>simp [jB]
     | cons p ps=>rw [hs] at ih;simp only [jB,List.length_cons] at ih ⊢;omega
    ·simp only [cond_true,List.length_cons];omega
  have:=this s;omega
 show so aP _ _ _ _=some ((eU s).filter full,())
 generalize eU s=l at pU
 have:=mQ l.length (by omega) (fun m i=>so m (l.length:Int) i ((l.take i.toNat).filter full) l) (fun _=>some (l.filter full,())) (fun _=>True) (fun m _=>by
  simp only [so,EM]
  rw [cM (Nat.le_refl _)]
  simp only [Int.toNat_natCast,List.take_length,cond_false]) (fun m i hi _ hw ih=>by
  have ih:=ih trivial
  have aB:J ad.str l i=l[i]:=c6 (t:=.str) hi
  rw [show((i:Int)+1).toNat=i+1 by omega,List.take_succ_eq_append_getElem hi,List.filter_append,List.filter_cons,List.filter_nil] at ih
  simp only [so,EM]
  rw [cp hi,bx hi]
  simp only [cond_true,av,Nat.zero_add,hw,Int.toNat_natCast]
  rw [aB]
  show cond (full l[i]) _ _=_
  have ia:((l.take i).filter full).length≤i:=Nat.le_trans (List.length_filter_le _ _) (by rw [List.length_take];omega)
  cases hf:full l[i]
  ·rw [hf] at ih
   simp only [Bool.false_eq_true,if_false,List.append_nil] at ih
   exact ih
  ·rw [hf] at ih
   simp only [if_true] at ih
   simp only [cond_true]
   rw [cI (by simp only [List.length_cons,List.length_nil];omega)]
   exact ih) l.length 0 aP (by omega) (ju (by omega)) trivial
 simpa using this
theorem agL{s:aF} : ∀ {p:aF},p∈eU s→∀b,b∈p→b∈s∧(b==47)=false:=by
 induction s with
 | nil=>intro p au b hb;simp [eU] at au;subst au;simp at hb
 | cons c l ih =>
  intro p au b hb
  rw [eU] at au
  cases hc:c==47
  ·rw [hc] at au
   simp only [cond_false] at au
   cases hs:eU l with
   | nil=>exact absurd hs (Gd l)
   | cons q alz =>
    rw [hs] at au ih
    simp only [jB,List.mem_cons] at au
    rcases au with rfl | au
    ·simp only [List.cons_append,List.nil_append,List.mem_cons] at hb
     rcases hb with rfl | hb
     ·exact⟨List.mem_cons_self,hc⟩
     ·obtain ⟨h1,h2⟩:=ih List.mem_cons_self b hb
      exact⟨List.mem_cons_of_mem _ h1,h2⟩
    ·obtain ⟨h1,h2⟩:=ih (List.mem_cons_of_mem _ au) b hb
     exact⟨List.mem_cons_of_mem _ h1,h2⟩
  ·rw [hc] at au
   simp only [cond_true,List.mem_cons] at au
   rcases au with rfl | au
   ·simp at hb
   ·obtain ⟨h1,h2⟩:=ih au b hb
    exact⟨List.mem_cons_of_mem _ h1,h2⟩
theorem agM(s:aF):(eU s).length≤s.length+1:=by
 induction s with
 | nil=>simp [eU]
 | cons b l ih =>
  rw [eU]
  cases b==47
  ·simp only [cond_false,List.length_cons]
   cases hs:eU l with
   | nil=>simp [jB]
   | cons p ps=>rw [hs] at ih;simp only [jB,List.length_cons] at ih ⊢;omega
  ·simp only [cond_true,List.length_cons];omega
theorem Gf(s:aF):(cut s).length≤s.length+1:=Nat.le_trans (List.length_filter_le _ _) (agM s)
def sN(p:aF):Prop:=p≠[]∧∀i,i<p.length→sI (nb p i)=true
theorem Gg{s:aF}(h:jx s=true):∀p,p∈cut s→sN p:=by
 intro p au
 obtain ⟨h1,h2⟩:=List.mem_filter.1 au
 refine⟨fun h0=>(by rw [M7.2 h0] at h2;cases h2),fun i hi=>?_⟩
 have hm:p.getD i 0∈p:=by rw [List.getD_eq_getElem?_getD,List.getElem?_eq_getElem hi];exact List.getElem_mem hi
 obtain ⟨h3,h4⟩:=agL h1 _ hm
 unfold jx at h
 rw [Bool.and_eq_true] at h
 obtain ⟨j,hj,he⟩:=List.mem_iff_getElem.1 h3
 have:=lj.1 h.1 j hj
 have e:nb s j=nb p i:=by unfold nb;rw [List.getD_eq_getElem?_getD,List.getElem?_eq_getElem hj,← he];rfl
 rw [e] at this
 have a7:(nb p i==47)=false:=by rw [← h4];exact VC _
 rw [a7,Bool.false_or] at this
 exact this
theorem lt_irrefl:∀x:aF,dy x x=false
 | []=>rfl
 | a :: x=>by
  have:=lt_irrefl x
  unfold dy at *
  rw [Op.bytesLess]
  simp [this]
theorem VI:∀x y:aF,dy x y=false→x=y∨dy y x=true
 | [],[],_=>.inl rfl
 | [],_ :: _,h=>by unfold dy Op.bytesLess at h;cases h
 | a :: x,[],_=>.inr (by unfold dy Op.bytesLess;rfl)
 | a :: x,b :: y,h=>by
  have ih:=VI x y
  unfold dy at *
  rw [Op.bytesLess] at h
  simp only [Bool.or_eq_false_iff,decide_eq_false_iff_not,Bool.and_eq_false_iff,beq_eq_false_iff_ne] at h
  obtain ⟨h1,h2⟩:=h
  by_cases lN:a=b
  ·subst lN
   rcases h2 with h2 | h2
   ·exact absurd rfl h2
   ·rcases ih h2 with h3 | h3
    ·exact .inl (by rw [h3])
    ·exact .inr (by rw [Op.bytesLess];simp [h3])
  ·refine .inr ?_
   rw [Op.bytesLess]
   have:b<a:=by
    rcases UInt8.lt_or_lt_of_ne lN with h | h
    ·exact absurd h h1
    ·exact h
   simp [this]
theorem Ar:∀ {x y z:aF},dy x y=true→dy y z=true→dy x z=true
 | _,[],_,h,_=>by unfold dy at h;simp [Op.bytesLess] at h
 | _,_ :: _,[],_,h=>by unfold dy at h;simp [Op.bytesLess] at h
 | [],_ :: _,_ :: _,_,_=>by unfold dy;simp [Op.bytesLess]
 | a :: x,b :: y,c :: z,h,k=>by
  have ih:=@Ar x y z
  unfold dy at *
  rw [Op.bytesLess] at h k ⊢
  simp only [Bool.or_eq_true,decide_eq_true_eq,Bool.and_eq_true,beq_iff_eq] at h k ⊢
  rcases h with h | ⟨rfl,h⟩
  ·rcases k with k | ⟨rfl,k⟩
   ·exact .inl (UInt8.lt_trans h k)
   ·exact .inl h
  ·rcases k with k | ⟨rfl,k⟩
   ·exact .inl k
   ·exact .inr ⟨rfl,ih h k⟩
theorem VJ{x y:aF}(h:dy x y=true):dy y x=false:=by
 cases hk:dy y x
 ·rfl
 ·have:=Ar h hk;rw [lt_irrefl] at this;cases this
theorem Gh{x y:aF}(h:dy x y=true):x≠y:=by rintro rfl;rw [lt_irrefl] at h;cases h
theorem M8{x y:aF}(h:x≠y):dy y x = !dy x y:=by
 cases hk:dy x y
 ·rcases VI x y hk with h1 | h1
  ·exact absurd h1 h
  ·rw [h1];rfl
 ·rw [VJ hk];rfl
def jh(N:List aw.D):Prop:=N.Pairwise fun a b=>dy a.1 b.1=true
theorem agN{N:List aw.D}(h:∀j,j+1<N.length→dy (J aw N j).1 (J aw N (j+1)).1=true):jh N:=by
 unfold jh
 rw [List.pairwise_iff_getElem]
 have key:∀d j,j+d+1<N.length→dy (J aw N j).1 (J aw N (j+d+1)).1=true:=by
  intro d
  induction d with
  | zero=>exact fun j hj=>h j hj
  | succ d ih=>exact fun j hj=>Ar (ih j (by omega)) (h (j+d+1) (by omega))
 intro i j hi hj iP
 have:=key (j-i-1) i (by omega)
 rw [show i +(j-i-1)+1=j by omega,c6 hi,c6 hj] at this
 exact this
theorem agO{N:List aw.D}(h:jh N){i j:Nat}(iP:i<j)(hj:j<N.length):dy (J aw N i).1 (J aw N j).1=true:=by
 unfold jh at h
 rw [c6 hj,c6 (t:=aw) (xs:=N) (i:=i) (by omega)]
 exact List.pairwise_iff_getElem.1 h i j (by omega) hj iP
structure lp(l:List aJ)(x:aJ):Prop where
 mode:0≤e' x∧e' x≤2047
 uid:0≤ew x∧ew x≤1000
 gid:0≤fk x∧fk x≤1000
 kind:kindOf x=1∨kindOf x=2∨kindOf x=3
 plain:kindOf x≠2→eT x=0∧eD x=0∧ak x=[]
 file:kindOf x=1→(bw x).length≤64
 l2:kindOf x=3→jx (bw x)=true∧e' x=511
 dir:kindOf x=2→bw x=[]∧(0≤eT x∧eT x≤400)∧(0≤eD x∧eD x≤24)∧(ak x).length≤12
 names:∀d,d∈ak x→ig d.1=true∧d.2.1≠1∧(bd l d.2.1).isSome=true
 sorted:jh (ak x)
theorem Gi{x:aJ} : plain x=true↔eT x=0∧eD x=0∧ak x=[]:=by
 unfold plain
 simp only [Bool.and_eq_true,beq_iff_eq]
 constructor
 ·rintro ⟨⟨h1,h2⟩,h3⟩;exact⟨h2,h3,List.length_eq_zero_iff.1 (by omega)⟩
 ·rintro ⟨h1,h2,h3⟩;exact⟨⟨by rw [h3];rfl,h1⟩,h2⟩
theorem VK{l:List aJ}{N:List aw.D} : fr N.length (oZ l N)=true↔(∀d,d∈N→ig d.1=true∧d.2.1≠1∧(bd l d.2.1).isSome=true)∧jh N:=by
 rw [lj]
 unfold oZ
 simp only [Bool.and_eq_true,Bool.not_eq_true',Bool.and_eq_false_iff,decide_eq_false_iff_not,Bool.not_eq_false',beq_eq_false_iff_ne]
 constructor
 ·intro h
  refine⟨fun d ag=>?_,agN fun j hj=>?_⟩
  ·obtain ⟨i,hi,he⟩:=fg ag
   obtain ⟨⟨⟨h1,_⟩,h3⟩,h4⟩:=h i hi
   rw [he] at h1 h3 h4
   exact⟨h1,h3,h4⟩
  ·obtain ⟨⟨⟨_,h2⟩,_⟩,_⟩:=h (j+1) hj
   rcases h2 with h2 | h2
   ·omega
   ·rw [Nat.add_sub_cancel] at h2;exact h2
 ·rintro ⟨h1,h2⟩ i hi
  obtain ⟨k1,k2,k3⟩:=h1 _ (cJ hi)
  refine⟨⟨⟨k1,?_⟩,k2⟩,k3⟩
  by_cases h0:0<i
  ·exact .inr (agO h2 (by omega) hi)
  ·exact .inl h0
theorem VL{l:List aJ}{x:aJ} : nV l x=true↔lp l x:=by
 unfold nV
 simp only [Bool.and_eq_true]
 constructor
 ·rintro ⟨⟨⟨h1,h2⟩,h3⟩,h⟩
  have h1:=dM.1 h1
  have h2:=dM.1 h2
  have h3:=dM.1 h3
  by_cases k1:kindOf x=1
  ·rw [cF (show x.2.1=1 from k1)] at h
   simp only [cond_true,Bool.and_eq_true,decide_eq_true_eq] at h
   obtain ⟨ek,fp,gg⟩:=Gi.1 h.1
   exact⟨h1,h2,h3,.inl k1,fun _=>⟨ek,fp,gg⟩,fun _=>by omega,fun k=>by omega,fun k=>by omega,by rw [gg];simp,by rw [gg];exact List.Pairwise.nil⟩
  ·rw [b5 (show ¬x.2.1=1 from k1)] at h
   by_cases k3:kindOf x=3
   ·rw [cF (show x.2.1=3 from k3)] at h
    simp only [cond_true,cond_false,Bool.and_eq_true,beq_iff_eq] at h
    obtain ⟨ek,fp,gg⟩:=Gi.1 h.1.1
    exact⟨h1,h2,h3,.inr (.inr k3),fun _=>⟨ek,fp,gg⟩,fun k=>by omega,fun _=>⟨h.1.2,h.2⟩,fun k=>by omega,by rw [gg];simp,by rw [gg];exact List.Pairwise.nil⟩
   ·rw [b5 (show ¬x.2.1=3 from k3)] at h
    by_cases k2:kindOf x=2
    ·rw [cF (show x.2.1=2 from k2)] at h
     simp only [cond_true,cond_false,Bool.and_eq_true,sL,decide_eq_true_eq] at h
     obtain ⟨⟨⟨e1,e2⟩,e3⟩,fX,tv⟩:=h
     obtain ⟨fU,mb⟩:=VK.1 fX
     exact⟨h1,h2,h3,.inr (.inl k2),fun k=>absurd k2 k,fun k=>by omega,fun k=>by omega,fun _=>⟨by unfold bn at e1;simpa using e1,dM.1 e2,dM.1 e3,by omega⟩,fU,mb⟩
    ·rw [b5 (show ¬x.2.1=2 from k2)] at h
     simp at h
 ·intro h
  refine⟨⟨⟨dM.2 h.mode,dM.2 h.uid⟩,dM.2 h.gid⟩,?_⟩
  rcases h.kind with k | k | k
  ·have k':x.2.1=1:=k
   rw [cF k']
   simp only [cond_true,Bool.and_eq_true,decide_eq_true_eq]
   exact⟨Gi.2 (h.plain (by omega)),by have:=h.file k;omega⟩
  ·have k':x.2.1=2:=k
   rw [b5 (show ¬x.2.1=1 from fun h1=>by have:kindOf x=1:=h1;omega),b5 (show ¬x.2.1=3 from fun h1=>by have:kindOf x=3:=h1;omega),cF k']
   simp only [cond_true,cond_false,Bool.and_eq_true,sL,decide_eq_true_eq]
   obtain ⟨d1,d2,d3,d4⟩:=h.dir k
   exact⟨⟨⟨by rw [d1];rfl,dM.2 d2⟩,dM.2 d3⟩,VK.2 ⟨h.names,h.sorted⟩,by omega⟩
  ·have k':x.2.1=3:=k
   rw [b5 (show ¬x.2.1=1 from fun h1=>by have:kindOf x=1:=h1;omega),cF k']
   simp only [cond_true,cond_false,Bool.and_eq_true,beq_iff_eq]
   exact⟨⟨Gi.2 (h.plain (by omega)),(h.l2 k).1⟩,(h.l2 k).2⟩
def dn(v:ae.D):Int:=v.1
def aX(x:aJ):Int:=x.1
structure bz(v:ae.D):Prop where
 next:2≤dn v∧dn v≤100000
 len:1≤v.2.1.length∧v.2.1.length≤24
 root:aX (J I v.2.1 0)=1∧kindOf (J I v.2.1 0)=2
 ids:∀i,i<v.2.1.length→1≤aX (J I v.2.1 i)∧aX (J I v.2.1 i)≤dn v-1
 Gj:∀i,i+1<v.2.1.length→aX (J I v.2.1 i)<aX (J I v.2.1 (i+1))
 ino:∀i,i<v.2.1.length→lp v.2.1 (J I v.2.1 i)
 reach:∀i,1≤i→i<v.2.1.length→dP v.2.1 1 (J I v.2.1 i).1
 once:∀i,1≤i→i<v.2.1.length→kindOf (J I v.2.1 i)=2→ck v.2.1 (J I v.2.1 i).1=1
 bytes:bytesOf v.2.1≤400
 over:gp v.2.1=false
theorem M9{l:List aJ}(h:∀i,i+1<l.length→aX (J I l i)<aX (J I l (i+1))):ij l:=by
 have cz:∀d j,j+d+1<l.length→aX (J I l j)<aX (J I l (j+d+1)):=by
  intro d
  induction d with
  | zero=>intro j hj;exact h j hj
  | succ d ih=>intro j hj;exact Int.lt_trans (ih j (by omega)) (h (j+d+1) hj)
 intro x hx
 unfold bd
 rw [gA]
 refine⟨hx,by simp,fun j hj=>?_⟩
 obtain ⟨d,rfl⟩:∃d,x=j+d+1:=⟨x-j-1,by omega⟩
 have:=cz d j hx
 rw [beq_eq_false_iff_ne]
 exact Int.ne_of_lt this
theorem VM{v:ae.D}(hn:2≤dn v∧dn v≤100000):fr v.2.1.length (mS v)=true↔(∀i,i<v.2.1.length→1≤aX (J I v.2.1 i)∧aX (J I v.2.1 i)≤dn v-1) ∧
  (∀i,i+1<v.2.1.length→aX (J I v.2.1 i)<aX (J I v.2.1 (i+1)))∧∀i,i<v.2.1.length→lp v.2.1 (J I v.2.1 i):=by
 rw [lj]
 unfold mS
 rw [show aG (v.1-1)=dn v-1 from dI (a:=dn v-1) (by omega) (by omega)]
 simp only [Bool.and_eq_true,Bool.not_eq_true',Bool.and_eq_false_iff,decide_eq_false_iff_not]
 constructor
 ·intro h
  refine⟨fun i hi=>dM.1 (h i hi).1.1,fun i hi=>?_,fun i hi=>VL.1 (h i hi).2⟩
  rcases (h (i+1) hi).1.2 with h2 | h2
  ·omega
  ·rw [Nat.add_sub_cancel] at h2;exact Int.not_le.1 h2
 ·rintro ⟨h1,h2,h3⟩ i hi
  refine⟨⟨dM.2 (h1 i hi),?_⟩,VL.2 (h3 i hi)⟩
  by_cases h0:0<i
  ·have:=h2 (i-1) (by omega)
   rw [show i-1+1=i by omega] at this
   exact .inr (Int.not_le.2 this)
  ·exact .inl h0
theorem mW{v:ae.D} : jA v=true↔bz v:=by
 unfold jA
 simp only [Bool.and_eq_true,beq_iff_eq]
 constructor
 ·rintro ⟨⟨⟨⟨h1,h2⟩,h3⟩,h4⟩,a7⟩
  have h1:=dM.1 h1
  have h2:=dM.1 h2
  by_cases a1:fr v.2.1.length (mS v)=true
  case neg=>rw [Bool.not_eq_true] at a1;rw [a1] at a7;cases a7
  rw [a1] at a7
  obtain ⟨i1,i2,i3⟩:=(VM h1).1 a1
  have ag:=M9 i2
  by_cases a2:fr (v.2.1.length-1) (kg v.2.1)=true
  case neg=>rw [Bool.not_eq_true] at a2;rw [a2] at a7;cases a7
  rw [a2] at a7
  simp only [cond_true,Bool.and_eq_true,Bool.not_eq_true',decide_eq_true_eq] at a7
  have a2:=lj.1 a2
  unfold kg at a2
  simp only [Bool.and_eq_true,Bool.not_eq_true',Bool.and_eq_false_iff,beq_eq_false_iff_ne,bne_eq_false_iff_eq] at a2
  refine⟨h1,by omega,⟨h3,h4⟩,i1,i2,i3,fun i hi hl=>?_,fun i hi hl hk=>?_,by omega,a7.2⟩
  ·have:=(a2 (i-1) (by omega)).1
   rw [show i-1+1=i by omega] at this
   exact(xH v.2.1 ag 1 hl).1 this
  ·have:=(a2 (i-1) (by omega)).2
   rw [show i-1+1=i by omega] at this
   rcases this with h | h
   ·exact absurd hk h
   ·omega
 ·intro h
  have ag:=M9 h.Gj
  refine⟨⟨⟨⟨dM.2 h.next,dM.2 (by have:=h.len;omega)⟩,h.root.1⟩,h.root.2⟩,?_⟩
  rw [(VM h.next).2 ⟨h.ids,h.Gj,h.ino⟩]
  have a2:fr (v.2.1.length-1) (kg v.2.1)=true:=by
   rw [lj]
   unfold kg
   simp only [Bool.and_eq_true,Bool.not_eq_true',Bool.and_eq_false_iff,beq_eq_false_iff_ne,bne_eq_false_iff_eq]
   intro i hi
   refine⟨(xH v.2.1 ag 1 (by omega)).2 (h.reach (i+1) (by omega) (by omega)),?_⟩
   by_cases hk:kindOf (J I v.2.1 (i+1))=2
   ·have:=h.once (i+1) (by omega) (by omega) hk
    exact .inr (by rw [this];rfl)
   ·exact .inl hk
  rw [a2]
  simp only [cond_true,Bool.and_eq_true,Bool.not_eq_true',decide_eq_true_eq]
  exact⟨by have:=h.bytes;omega,h.over⟩
structure n0(l:List aJ):Prop where
 len:l.length≤1048576
 cC:dw l≤1048576
 fM:ij l
 f_:q0 l
 bare:∀i,i<l.length→kindOf (J I l i)≠2→ak (J I l i)=[]
 l2:∀i,i<l.length→kindOf (J I l i)=3→jx (bw (J I l i))=true
 root:∃i,bd l 1=some i∧kindOf (J I l i)=2
theorem bz.fM{v:ae.D}(h:bz v):ij v.2.1:=M9 h.Gj
theorem bz.f_{v:ae.D}(h:bz v):q0 v.2.1:=fun i hi d ag=>((h.ino i hi).names d ag).2.2
theorem bz.hp{v:ae.D}(h:bz v)(hb:vp v):n0 v.2.1 :=
 ⟨hb.len,hb.cC,h.fM,h.f_,fun i hi hk=>((h.ino i hi).plain hk).2.2,fun i hi hk=>((h.ino i hi).l2 hk).1,0,by
  have:=h.fM 0 (by have:=h.len;omega)
  rwa [show(J I v.2.1 0).1=1 from h.root.1] at this,h.root.2⟩
def iL(l:List aJ)(id:Int):Prop:=∃i,bd l id=some i∧kindOf (J I l i)=2
def cd(r:aS.D):Int:=r.1
def nameOf(r:aS.D):aF:=r.2.1
def bp(r:aS.D):Int:=r.2.2.1
def bE(r:aS.D):Int:=r.2.2.2.1
structure l3(l:List aJ)(r:aS.D):Prop where
 there:bE r=0→∃i,bd l (bp r)=some i
 named:bE r=0→nameOf r≠[]→bp r≠0∧ig (nameOf r)=true∧∃d,bd l (cd r)=some d∧kindOf (J I l d)=2∧cW (ak (J I l d)) (nameOf r)=bp r
 bare:bE r=0→nameOf r=[]→iL l (bp r)
 new:bE r=2→nameOf r≠[]→bp r=0∧ig (nameOf r)=true∧∃d,bd l (cd r)=some d∧kindOf (J I l d)=2∧cW (ak (J I l d)) (nameOf r)=0
theorem agP(l:List aJ){c:Int}(h0:c≠0)(a b:Int)(h2:c≠2∨True):l3 l ((0:Int),([]:aF),(0:Int),c,()) :=
 ⟨fun h=>absurd h h0,fun h=>absurd h h0,fun h=>absurd h h0,fun _ h=>absurd rfl h⟩
def sO(bA:Bool)(l:List aJ)(r:aS.D):Prop:=l3 l r∧(bA=true→bE r=0→∀i,bd l (bp r)=some i→kindOf (J I l i)≠3)
theorem xL(bA:Bool)(l:List aJ){c:Int}(h0:c≠0)(a b:Int)(h2:c≠2∨True):sO bA l ((0:Int),([]:aF),(0:Int),c,()):=⟨agP l h0 a b h2,fun _ h=>absurd h h0⟩
theorem vr{l:List aJ}(h:n0 l)(id:Int):iL l (hR l id):=by
 unfold hR
 cases au:sM l id with
 | none=>exact h.root
 | some i =>
  obtain ⟨h1,h2,_⟩:=gA.1 au
  refine⟨i,h.fM i h1,?_⟩
  by_cases hk:kindOf (J I l i)=2
  ·exact hk
  ·have:=h.bare i h1 hk
   rw [this] at h2
   simp [nZ,eR] at h2
theorem mX{N:List aw.D}{s:aF}(h:cW N s≠0):∃d,d∈N∧d.1=s∧d.2.1=cW N s:=by
 unfold cW at h ⊢
 cases hf:eR N.length (q4 N s) with
 | none=>rw [hf] at h;exact absurd rfl h
 | some j =>
  obtain ⟨h1,h2,_⟩:=gA.1 hf
  exact⟨J aw N j,cJ h1,by unfold q4 bn at h2;simpa using h2,rfl⟩
theorem agQ{p:aF}(h:sN p)(h1:bn p [46]=false)(h2:bn p [46,46]=false)(cG:p.length≤8):ig p=true:=by
 have hl:1≤p.length:=by
  rcases Nat.eq_zero_or_pos p.length with h0 | h0
  ·exact absurd (List.length_eq_zero_iff.1 h0) h.1
  ·exact h0
 unfold ig
 rw [h1,h2,lj.2 (fun i hi=>h.2 i hi),dM.2 ⟨by omega,by omega⟩];rfl
theorem VN{L:List aF}{a c:Nat}(h:0<c)(hl:a+c≤L.length):J ad.str L a∈part L a c:=by
 unfold part
 have h1:a<L.length:=by omega
 rw [List.drop_eq_getElem_cons h1,show c=(c-1)+1 by omega,List.take_succ_cons,c6 (t:=.str) h1]
 exact List.mem_cons_self
theorem VO{L:List aF}{a c:Nat} : ∀p,p∈part L (a+1) (c-1)→p∈part L a c:=by
 intro p au
 unfold part at *
 rcases Nat.eq_zero_or_pos c with h | h
 ·subst h;simp at au
 ·rcases Nat.lt_or_ge a L.length with h1 | h1
  ·rw [List.drop_eq_getElem_cons h1,show c=(c-1)+1 by omega,List.take_succ_cons]
   exact List.mem_cons_of_mem _ au
  ·rw [List.drop_of_length_le (by omega)] at au;simp at au
theorem As{s:aF}(h:jx s=true):1≤s.length∧s.length≤60:=by
 unfold jx at h
 rw [Bool.and_eq_true] at h
 have:=dM.1 h.2
 omega
theorem ji(m:Nat)(U aa af ai ar aE bb bN cB):(de (m+1)).ba U aa af ai ar aE bb bN cB=ie (de m) U aa af ai ar aE bb bN cB:=rfl
theorem xM(m:Nat)(U aa af ai ar aE bb bN cB ff kF kG j'):(de (m+1)).r4 U aa af ai ar aE bb bN cB ff kF kG j'=r5 (de m) U aa af ai ar aE bb bN cB ff kF kG j':=rfl
theorem M_(m:Nat)(U aa af ai ar aE bb bN cB ff):(de (m+1)).gx U aa af ai ar aE bb bN cB ff=zd (de m) U aa af ai ar aE bb bN cB ff:=rfl
theorem M'(m:Nat)(U aa af ai ar aE bb bN cB ff kF kG j'):(de (m+1)).uu U aa af ai ar aE bb bN cB ff kF kG j'=ze (de m) U aa af ai ar aE bb bN cB ff kF kG j':=rfl
theorem Na(m:Nat)(U aa af ai ar aE bb bN cB ff):(de (m+1)).oI U aa af ai ar aE bb bN cB ff=zf (de m) U aa af ai ar aE bb bN cB ff:=rfl
theorem mY(x:aJ):J I [x] 0=x:=rfl
theorem bW.jump{β : Type}{f g:Nat → β}{B:Nat}(k:Nat){y : β}(h:bW g B y)(hf:∀m,f (m+k)=g m):bW f (B+k) y:=by
 intro m hm
 obtain ⟨j,rfl⟩:∃j,m=j+k:=⟨m-k,by omega⟩
 rw [hf];exact h j (by omega)
theorem bW.now{β : Type}{f:Nat → β}(k:Nat){y : β}(hf:∀m,f (m+k)=y):bW f k y:=by
 intro m hm
 obtain ⟨j,rfl⟩:∃j,m=j+k:=⟨m-k,by omega⟩
 exact hf j
theorem agR(v:ae.D)(c:aH.D)(hw:n0 v.2.1)(hc:c9 c=true)(bA:Bool)(z:aS.D):∀(n:Nat) (at_:Int) (k:Nat) (L:List aF) (a bP:Nat),(8-k)*100+bP≤n→k≤8→a+bP≤L.length→bP≤100→(∀p,p∈part L a bP→sN p)→iL v.2.1 at_ →
  ∃r,sO bA v.2.1 r∧bW (fun m=>gm m v bA a bP at_ (k:Int) c z L) (n+2) (some (r,()))∧bW (fun m=>(de m).ba bA a bP at_ (k:Int) v c z L) (5*n+5) (some (r,())):=by
 intro n
 induction n with
 | zero =>
  intro at_ k L a bP hn hk hl Nb au b4
  have h0:bP=0:=by omega
  subst h0
  obtain ⟨d,ag,eE⟩:=b4
  refine⟨((0:Int),([]:aF),at_,(0:Int),()),⟨⟨fun _=>⟨d,ag⟩,fun _ h=>absurd rfl h,fun _ _=>⟨d,ag,eE⟩,fun _ h=>absurd rfl h⟩,fun _ _ e he=>by rw [show bp (((0:Int),([]:aF),at_,(0:Int),()):aS.D)=at_ from rfl,ag] at he;rw [← aT he,eE];decide⟩,(bW.now 1 fun m=>?_).mono (by omega),(bW.now 1 fun m=>?_).mono (by omega)⟩
  ·simp only [gm,l0];rfl
  ·rw [ji];unfold ie;rfl
 | succ n ih =>
  intro at_ k L a bP hn hk hl Nb au b4
  rcases Nat.eq_zero_or_pos bP with h0 | h0
  ·subst h0
   obtain ⟨d,ag,eE⟩:=b4
   refine⟨((0:Int),([]:aF),at_,(0:Int),()),⟨⟨fun _=>⟨d,ag⟩,fun _ h=>absurd rfl h,fun _ _=>⟨d,ag,eE⟩,fun _ h=>absurd rfl h⟩,fun _ _ e he=>by rw [show bp (((0:Int),([]:aF),at_,(0:Int),()):aS.D)=at_ from rfl,ag] at he;rw [← aT he,eE];decide⟩,(bW.now 1 fun m=>?_).mono (by omega),(bW.now 1 fun m=>?_).mono (by omega)⟩
   ·simp only [gm,l0];rfl
   ·rw [ji];unfold ie;rfl
  obtain ⟨d,ag,eE⟩:=b4
  have hdl:=bT ag
  have gZ:(ak (J I v.2.1 d)).length≤1048576:=Nat.le_trans (fI hdl.1) hw.cC
  have mw:=au _ (VN h0 hl)
  have fb:∀p,p∈part L (a+1) (bP-1)→sN p:=fun p h=>au p (VO p h)
  have e6:aM bP 0=some 0:=bx (i:=0) h0
  have fN:d_ bP 1 (bP:Int)=some (1,bP):=kr (lo:=1) h0 (Nat.le_refl _)
  have eZ:decide ((bP:Int)>0)=true:=decide_eq_true (by omega)
  have hS:=mU v at_ hw.len ag
  have l4:=Ap c (J I v.2.1 d) 1 hc
  have kh:=nX c (J I v.2.1 d) 1 hc
  have Nc:=Vy v at_ hw.len hw.cC
  have Nd:=M5 v at_ hw.len hw.cC
  have ki:jQ (v,at_,())=some ((d:Int),()):=by rw [l1 v at_ hw.len,ag];rfl
  have kj:aM v.2.1.length (d:Int)=some d:=bx hdl.1
  have sP:=Vx (J I v.2.1 d) (J ad.str L a) gZ
  have q5:=Vw v at_ (J ad.str L a) hw.len ag gZ
  cases hm:may c (J I v.2.1 d) 1 with
  | false =>
   refine⟨((0:Int),([]:aF),(0:Int),(13:Int),()),xL bA _ (by decide) 0 0 (.inr trivial),(bW.now 1 fun m=>?_).mono (by omega),(bW.now 1 fun m=>?_).mono (by omega)⟩
   ·rw [gm,l0]
    simp -index only [eZ,e6,fN,hS,mY,l4,hm,cond_true,cond_false,av,Bool.not_true,Bool.not_false,List.isEmpty_cons]
   ·rw [ji];unfold ie
    simp only [eZ,e6,fN,ki,kj,kh,hm,cond_true,cond_false,av,Bool.not_true,Bool.not_false]
  | true =>
  cases h1:bn (J ad.str L a) [46] with
  | true =>
   obtain ⟨r,bD,cg,gd⟩:=ih at_ k L (a+1) (bP-1) (by omega) hk (by omega) (by omega) fb ⟨d,ag,eE⟩
   refine⟨r,bD,(cg.jump (f:=fun m=>gm m v bA a bP at_ (k:Int) c z L) 1 fun m=>?_).mono (by omega),(gd.jump (f:=fun m=>(de m).ba bA a bP at_ (k:Int) v c z L) 1 fun m=>?_).mono (by omega)⟩
   ·rw [gm,l0]
    simp -index only [eZ,e6,fN,hS,mY,l4,hm,h1,cond_true,cond_false,av,Bool.not_true,Bool.not_false,List.isEmpty_cons,Nat.add_zero]
   ·rw [ji];unfold ie
    simp only [eZ,e6,fN,ki,kj,kh,hm,h1,cond_true,cond_false,av,Bool.not_true,Bool.not_false,Nat.add_zero]
  | false =>
  cases h2:bn (J ad.str L a) [46,46] with
  | true =>
   obtain ⟨r,bD,cg,gd⟩:=ih (hR v.2.1 at_) k L (a+1) (bP-1) (by omega) hk (by omega) (by omega) fb (vr hw _)
   refine⟨r,bD,(cg.jump (f:=fun m=>gm m v bA a bP at_ (k:Int) c z L) 1 fun m=>?_).mono (by omega),(gd.jump (f:=fun m=>(de m).ba bA a bP at_ (k:Int) v c z L) 1 fun m=>?_).mono (by omega)⟩
   ·rw [gm,l0]
    simp -index only [eZ,e6,fN,hS,mY,l4,hm,h1,h2,Nc,cond_true,cond_false,av,Bool.not_true,Bool.not_false,List.isEmpty_cons,Nat.add_zero]
   ·rw [ji];unfold ie
    simp only [eZ,e6,fN,ki,kj,kh,hm,h1,h2,Nd,cond_true,cond_false,av,Bool.not_true,Bool.not_false,Nat.add_zero]
  | false =>
  cases cG:decide (((J ad.str L a).length:Int)>8) with
  | true =>
   refine⟨((0:Int),([]:aF),(0:Int),(36:Int),()),xL bA _ (by decide) 0 0 (.inr trivial),(bW.now 1 fun m=>?_).mono (by omega),(bW.now 1 fun m=>?_).mono (by omega)⟩
   ·rw [gm,l0]
    simp -index only [eZ,e6,fN,hS,mY,l4,hm,h1,h2,cG,cond_true,cond_false,av,Bool.not_true,Bool.not_false,List.isEmpty_cons,Nat.add_zero]
   ·rw [ji];unfold ie
    simp only [eZ,e6,fN,ki,kj,kh,hm,h1,h2,cG,cond_true,cond_false,av,Bool.not_true,Bool.not_false,Nat.add_zero]
  | false =>
  have jb:ig (J ad.str L a)=true:=agQ mw h1 h2 (by
   have:=of_decide_eq_false cG
   have h:¬((J ad.str L a).length:Int)>8:=this
   omega)
  cases fL:cW (ak (J I v.2.1 d)) (J ad.str L a)==0 with
  | true =>
   cases gq:((bP-1:Nat):Int)==0 with
   | true =>
    refine⟨(at_,J ad.str L a,(0:Int),(2:Int),()),⟨⟨fun h=>(by cases h),fun h=>(by cases h),fun h=>(by cases h),fun _ _=>⟨rfl,jb,d,ag,eE,beq_iff_eq.1 fL⟩⟩,fun _ h=>(by cases h)⟩,(bW.now 1 fun m=>?_).mono (by omega),(bW.now 1 fun m=>?_).mono (by omega)⟩
    ·rw [gm,l0]
     simp -index only [eZ,e6,fN,hS,mY,l4,hm,h1,h2,cG,sP,fL,gq,cond_true,cond_false,av,Bool.not_true,Bool.not_false,List.isEmpty_cons,Nat.add_zero]
    ·rw [ji];unfold ie
     simp only [eZ,e6,fN,ki,kj,kh,hm,h1,h2,cG,q5,fL,gq,cond_true,cond_false,av,Bool.not_true,Bool.not_false,Nat.add_zero]
   | false =>
    refine⟨((0:Int),([]:aF),(0:Int),(2:Int),()),⟨⟨fun h=>(by cases h),fun h=>(by cases h),fun h=>(by cases h),fun _ h=>absurd rfl h⟩,fun _ h=>(by cases h)⟩,(bW.now 1 fun m=>?_).mono (by omega),(bW.now 1 fun m=>?_).mono (by omega)⟩
    ·rw [gm,l0]
     simp -index only [eZ,e6,fN,hS,mY,l4,hm,h1,h2,cG,sP,fL,gq,cond_true,cond_false,av,Bool.not_true,Bool.not_false,List.isEmpty_cons,Nat.add_zero]
    ·rw [ji];unfold ie
     simp only [eZ,e6,fN,ki,kj,kh,hm,h1,h2,cG,q5,fL,gq,cond_true,cond_false,av,Bool.not_true,Bool.not_false,Nat.add_zero]
  | false =>
  obtain ⟨e,he,q6,k4⟩:=mX (N:=ak (J I v.2.1 d)) (s:=J ad.str L a) (by simpa using fL)
  obtain ⟨i2,eL⟩:=Option.isSome_iff_exists.1 (hw.f_ d hdl.1 e he)
  rw [k4] at eL
  have pX:=bT eL
  have xN:=mU v _ hw.len eL
  have xO:jQ (v,cW (ak (J I v.2.1 d)) (J ad.str L a),())=some ((i2:Int),()):=by rw [l1 v _ hw.len,eL];rfl
  have xP:aM v.2.1.length (i2:Int)=some i2:=bx pX.1
  have VP:((J I v.2.1 i2).2.1==3)=true→(!(((bP-1:Nat):Int)==0)||bA)=true→∃r,sO bA v.2.1 r∧bW (fun m=>gm m v bA a bP at_ (k:Int) c z L) (n+1+2) (some (r,()))∧bW (fun m=>(de m).ba bA a bP at_ (k:Int) v c z L) (5*(n+1)+5) (some (r,())):=by
   intro il jU
   have At:=hw.l2 i2 pX.1 (beq_iff_eq.1 il)
   have pY:=As At
   have sQ:aM ((J I v.2.1 i2).2.2.2.2.2.1).length 0=some 0:=bx (i:=0) pY.1
   have Gk:sq ((J I v.2.1 i2).2.2.2.2.2.1,())=some (cut (bw (J I v.2.1 i2)),()):=VH _ (Nat.le_trans pY.2 (by omega))
   have Gl:w5 ((J I v.2.1 i2).2.2.2.2.2.1,())=some (cut (bw (J I v.2.1 i2)),()):=Ge _ (Nat.le_trans pY.2 (by omega))
   have hcl:=Gf (bw (J I v.2.1 i2))
   have fD:(part L (a+1) (bP-1)).length≤100:=by unfold part;rw [List.length_take];omega
   have hroom:room ((cut (bw (J I v.2.1 i2))).length +(part L (a+1) (bP-1)).length)=true:=cI (by omega)
   have h_:=Gg At
   generalize pZ:cut (bw (J I v.2.1 i2))++part L (a+1) (bP-1)=ft at *
   have Nf:∀p,p∈ft→sN p:=by
    intro p kx
    rw [← pZ] at kx
    rcases List.mem_append.1 kx with h | h
    ·exact h_ p h
    ·exact fb p h
   obtain ⟨at',Ng,q7,mZ⟩:∃at',iL v.2.1 at'∧(∀m,gm (m+1) v bA a bP at_ (k:Int) c z L=cond ((k:Int)==8) (some (((0:Int),([]:aF),(0:Int),(40:Int),()),()))
      (cond (decide ((ft.length:Int)>40)) (some (((0:Int),([]:aF),(0:Int),(36:Int),()),())) (gm m v bA 0 ft.length at' (aG ((k:Int)+1)) c z ft))) ∧
     ∀m,(de (m+4)).ba bA a bP at_ (k:Int) v c z L=cond (decide (aG ((k:Int)+1)>8)) (some (((0:Int),([]:aF),(0:Int),(40:Int),()),()))
      (cond (decide ((ft.length:Int)>40)) (some (((0:Int),([]:aF),(0:Int),(36:Int),()),())) ((de m).ba bA 0 ft.length at' (aG ((k:Int)+1)) v c z ft)):=by
    cases hb:((((J I v.2.1 i2).2.2.2.2.2.1).getD 0 0).toNat:Int)==47 with
    | false =>
     refine⟨at_,⟨d,ag,eE⟩,fun m=>?_,fun m=>?_⟩
     ·rw [gm,l0]
      cases gq:((bP-1:Nat):Int)==0 with
      | false =>
       simp -index only [eZ,e6,fN,hS,mY,l4,hm,h1,h2,cG,sP,fL,xN,il,gq,sQ,hb,Gk,hroom,pZ,Sz,cond_true,cond_false,av,Bool.not_true,Bool.not_false,List.isEmpty_cons,Nat.add_zero]
      | true =>
       rw [gq] at jU
       have jU:bA=true:=jU
       simp -index only [eZ,e6,fN,hS,mY,l4,hm,h1,h2,cG,sP,fL,xN,il,gq,jU,sQ,hb,Gk,hroom,pZ,SB,cond_true,cond_false,av,Bool.not_true,Bool.not_false,List.isEmpty_cons,Nat.add_zero]
     ·rw [ji];unfold ie
      simp only [eZ,e6,fN,ki,kj,kh,hm,h1,h2,cG,q5,fL,k7,xO,xP,cond_true,cond_false,av,Bool.not_true,Bool.not_false,Nat.add_zero]
      rw [xM];unfold r5
      have:(cond (!(((bP-1:Nat):Int)==0)) ((de (m+2)).gx bA (a+1) (bP-1) at_ (k:Int) v c z L (J I v.2.1 i2)) (cond bA ((de (m+2)).gx bA (a+1) (bP-1) at_ (k:Int) v c z L (J I v.2.1 i2)) ((de (m+2)).uu bA (a+1) (bP-1) at_ (k:Int) (J ad.str L a) (((bP-1:Nat):Int)==0) (cW (ak (J I v.2.1 d)) (J ad.str L a)) v c z L (J I v.2.1 i2))))=(de (m+2)).gx bA (a+1) (bP-1) at_ (k:Int) v c z L (J I v.2.1 i2):=by
       revert jU
       cases ((bP-1:Nat):Int)==0 <;> cases bA <;> intro jU <;> first | rfl | cases jU
      rw [il]
      simp only [cond_true]
      refine this.trans ?_
      rw [M_];unfold zd
      rw [sQ]
      simp only [av,hb,cond_false]
      rw [Na];unfold zf
      rw [Gl]
      simp only [av,hroom,cond_true,pZ]
    | true =>
     refine⟨1,hw.root,fun m=>?_,fun m=>?_⟩
     ·rw [gm,l0]
      cases gq:((bP-1:Nat):Int)==0 with
      | false =>
       simp -index only [eZ,e6,fN,hS,mY,l4,hm,h1,h2,cG,sP,fL,xN,il,gq,sQ,hb,Gk,hroom,pZ,Sy,cond_true,cond_false,av,Bool.not_true,Bool.not_false,List.isEmpty_cons,Nat.add_zero]
      | true =>
       rw [gq] at jU
       have jU:bA=true:=jU
       simp -index only [eZ,e6,fN,hS,mY,l4,hm,h1,h2,cG,sP,fL,xN,il,gq,jU,sQ,hb,Gk,hroom,pZ,SA,cond_true,cond_false,av,Bool.not_true,Bool.not_false,List.isEmpty_cons,Nat.add_zero]
     ·rw [ji];unfold ie
      simp only [eZ,e6,fN,ki,kj,kh,hm,h1,h2,cG,q5,fL,k7,xO,xP,cond_true,cond_false,av,Bool.not_true,Bool.not_false,Nat.add_zero]
      rw [xM];unfold r5
      have:(cond (!(((bP-1:Nat):Int)==0)) ((de (m+2)).gx bA (a+1) (bP-1) at_ (k:Int) v c z L (J I v.2.1 i2)) (cond bA ((de (m+2)).gx bA (a+1) (bP-1) at_ (k:Int) v c z L (J I v.2.1 i2)) ((de (m+2)).uu bA (a+1) (bP-1) at_ (k:Int) (J ad.str L a) (((bP-1:Nat):Int)==0) (cW (ak (J I v.2.1 d)) (J ad.str L a)) v c z L (J I v.2.1 i2))))=(de (m+2)).gx bA (a+1) (bP-1) at_ (k:Int) v c z L (J I v.2.1 i2):=by
       revert jU
       cases ((bP-1:Nat):Int)==0 <;> cases bA <;> intro jU <;> first | rfl | cases jU
      rw [il]
      simp only [cond_true]
      refine this.trans ?_
      rw [M_];unfold zd
      rw [sQ]
      simp only [av,hb,cond_true]
      rw [Na];unfold zf
      rw [Gl]
      simp only [av,hroom,cond_true,pZ]
   have b7:aG ((k:Int)+1)=((k+1:Nat):Int):=df k (by omega)
   rw [b7] at q7 mZ
   rcases Nat.lt_or_ge k 8 with sR | sR
   ·rw [show((k:Int)==8)=false by simp;omega] at q7
    rw [show decide (((k+1:Nat):Int)>8)=false from decide_eq_false (by omega)] at mZ
    simp only [cond_false] at q7 mZ
    cases p0:decide ((ft.length:Int)>40) with
    | true =>
     rw [p0] at q7 mZ
     refine⟨((0:Int),([]:aF),(0:Int),(36:Int),()),xL bA _ (by decide) 0 0 (.inr trivial),(bW.now 1 fun m=>q7 m).mono (by omega),(bW.now 4 fun m=>mZ m).mono (by omega)⟩
    | false =>
     rw [p0] at q7 mZ
     have p0:=of_decide_eq_false p0
     obtain ⟨r,bD,cg,gd⟩:=ih at' (k+1) ft 0 ft.length (by omega) (by omega) (by omega) (by omega) (by rw [xE];exact Nf) Ng
     exact⟨r,bD,(cg.jump (f:=fun m=>gm m v bA a bP at_ (k:Int) c z L) 1 fun m=>q7 m).mono (by omega),(gd.jump (f:=fun m=>(de m).ba bA a bP at_ (k:Int) v c z L) 4 fun m=>mZ m).mono (by omega)⟩
   ·rw [show((k:Int)==8)=true by simp;omega] at q7
    rw [show decide (((k+1:Nat):Int)>8)=true from decide_eq_true (by omega)] at mZ
    refine⟨((0:Int),([]:aF),(0:Int),(40:Int),()),xL bA _ (by decide) 0 0 (.inr trivial),(bW.now 1 fun m=>q7 m).mono (by omega),(bW.now 4 fun m=>mZ m).mono (by omega)⟩
  have bS:(bA=true→kindOf (J I v.2.1 i2)≠3)→(∀m,gm (m+1) v bA a bP at_ (k:Int) c z L=cond (((bP-1:Nat):Int)==0) (some ((at_,J ad.str L a,cW (ak (J I v.2.1 d)) (J ad.str L a),(0:Int),()),()))
     (cond ((J I v.2.1 i2).2.1 != 2) (some (((0:Int),([]:aF),(0:Int),(20:Int),()),())) (gm m v bA (a+1) (bP-1) (cW (ak (J I v.2.1 d)) (J ad.str L a)) (k:Int) c z L))) →
    (∀m,(de (m+3)).ba bA a bP at_ (k:Int) v c z L=cond (((bP-1:Nat):Int)==0) (some ((at_,J ad.str L a,cW (ak (J I v.2.1 d)) (J ad.str L a),(0:Int),()),()))
     (cond ((J I v.2.1 i2).2.1 != 2) (some (((0:Int),([]:aF),(0:Int),(20:Int),()),())) ((de m).ba bA (a+1) (bP-1) (cW (ak (J I v.2.1 d)) (J ad.str L a)) (k:Int) v c z L))) →
    ∃r,sO bA v.2.1 r∧bW (fun m=>gm m v bA a bP at_ (k:Int) c z L) (n+1+2) (some (r,()))∧bW (fun m=>(de m).ba bA a bP at_ (k:Int) v c z L) (5*(n+1)+5) (some (r,())):=by
   intro hnl g1 g2
   cases gq:((bP-1:Nat):Int)==0 with
   | true =>
    refine⟨(at_,J ad.str L a,cW (ak (J I v.2.1 d)) (J ad.str L a),(0:Int),()),⟨⟨fun _=>⟨i2,eL⟩,fun _ _=>⟨beq_eq_false_iff_ne.1 fL,jb,d,ag,eE,rfl⟩,fun _ h=>absurd h mw.1,fun h=>(by cases h)⟩,fun hf _ e he=>by rw [show bp ((at_,J ad.str L a,cW (ak (J I v.2.1 d)) (J ad.str L a),(0:Int),()):aS.D)=cW (ak (J I v.2.1 d)) (J ad.str L a) from rfl,eL] at he;rw [← aT he];exact hnl hf⟩,(bW.now 1 fun m=>?_).mono (by omega),(bW.now 3 fun m=>?_).mono (by omega)⟩
    ·rw [g1,gq];rfl
    ·rw [g2,gq];rfl
   | false =>
    rw [gq] at g1 g2
    simp only [cond_false] at g1 g2
    by_cases hk2:kindOf (J I v.2.1 i2)=2
    ·obtain ⟨r,bD,cg,gd⟩:=ih (cW (ak (J I v.2.1 d)) (J ad.str L a)) k L (a+1) (bP-1) (by omega) hk (by omega) (by omega) fb ⟨i2,eL,hk2⟩
     refine⟨r,bD,(cg.jump (f:=fun m=>gm m v bA a bP at_ (k:Int) c z L) 1 fun m=>?_).mono (by omega),(gd.jump (f:=fun m=>(de m).ba bA a bP at_ (k:Int) v c z L) 3 fun m=>?_).mono (by omega)⟩
     ·rw [g1,dt (show(J I v.2.1 i2).2.1=2 from hk2)];rfl
     ·rw [g2,dt (show(J I v.2.1 i2).2.1=2 from hk2)];rfl
    ·refine⟨((0:Int),([]:aF),(0:Int),(20:Int),()),xL bA _ (by decide) 0 0 (.inr trivial),(bW.now 1 fun m=>?_).mono (by omega),(bW.now 3 fun m=>?_).mono (by omega)⟩
     ·rw [g1,cV (show ¬(J I v.2.1 i2).2.1=2 from hk2)];rfl
     ·rw [g2,cV (show ¬(J I v.2.1 i2).2.1=2 from hk2)];rfl
  cases il:(J I v.2.1 i2).2.1==3 with
  | true =>
   cases gq:((bP-1:Nat):Int)==0 with
   | false=>exact VP il (by rw [gq];rfl)
   | true =>
    cases bA with
    | true=>exact VP il (by rw [gq];rfl)
    | false =>
     refine bS (fun h=>by cases h) (fun m=>?_) (fun m=>?_)
     ·rw [gm,l0]
      simp -index only [eZ,e6,fN,hS,mY,l4,hm,h1,h2,cG,sP,fL,xN,il,gq,cond_true,cond_false,av,Bool.not_true,Bool.not_false,List.isEmpty_cons,Nat.add_zero]
     ·rw [ji];unfold ie
      simp only [eZ,e6,fN,ki,kj,kh,hm,h1,h2,cG,q5,fL,k7,xO,xP,gq,cond_true,cond_false,av,Bool.not_true,Bool.not_false,Nat.add_zero]
      rw [xM];unfold r5
      simp only [il,cond_true,cond_false,Bool.not_true,Bool.not_false]
      rw [M'];unfold ze;rfl
  | false =>
   refine bS (fun _=>beq_eq_false_iff_ne.1 il) (fun m=>?_) (fun m=>?_)
   ·rw [gm,l0]
    simp -index only [eZ,e6,fN,hS,mY,l4,hm,h1,h2,cG,sP,fL,xN,il,cond_true,cond_false,av,Bool.not_true,Bool.not_false,List.isEmpty_cons,Nat.add_zero]
   ·rw [ji];unfold ie
    simp only [eZ,e6,fN,ki,kj,kh,hm,h1,h2,cG,q5,fL,k7,xO,xP,cond_true,cond_false,av,Bool.not_true,Bool.not_false,Nat.add_zero]
    rw [xM];unfold r5
    simp only [il,cond_true,cond_false]
    rw [M'];unfold ze;rfl
theorem VQ(v:ae.D)(c:aH.D)(path:aF)(bA:Bool)(hw:n0 v.2.1)(hc:c9 c=true)(au:ll path=true) :
  ∃r,sO bA v.2.1 r∧K1 (v,c,path,bA,())=some (r,())∧C6 (v,c,path,bA,())=some (r,()):=by
 unfold ll at au
 rw [Bool.and_eq_true] at au
 have pY:=As au.1
 have hcl:=Gf path
 obtain ⟨r,bD,cg,gd⟩:=agR v c hw hc bA ((0:Int),([]:aF),(0:Int),(0:Int),()) 900 1 0 (cut path) 0 (cut path).length (by omega) (by omega) (by omega) (by omega) (by rw [xE];exact Gg au.1) hw.root
 refine⟨r,bD,?_,?_⟩
 ·show EN (gm aP) v c path bA=_
  unfold EN
  rw [VH path (by omega)]
  exact kK cg (by omega)
 ·show w6 (de aP) v c path bA=_
  unfold w6
  rw [Ge path (by omega)]
  exact kK gd (by omega)
end Go.LM.kD
