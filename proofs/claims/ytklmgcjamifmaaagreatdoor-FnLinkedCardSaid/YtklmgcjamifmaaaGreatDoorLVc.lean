/- Volumes: both sides are the same plain functions. Conditions: each theorem's own hypotheses. -/
import Derived.Test.YtklmgcjamifmaaaGreatDoorLLmd
import Derived.Test.YtklmgcjamifmaaaGreatDoorLVa
set_option linter.unusedVariables false
set_option linter.unusedSimpArgs false
namespace Go.LM
theorem vj:aQ=18446744073709551616:=by unfold aQ;rfl
theorem cq{i n:Nat}(h:i<n):decide ((i:Int)<(n:Int))=true:=by simp;omega
theorem cT{i n:Nat}(h:n≤i):decide ((i:Int)<(n:Int))=false:=by simp;omega
theorem nU{p:Prop}[Decidable p](h:¬p):decide p=false:=by simp [h]
theorem o0{p:Prop}[Decidable p](h:p):decide p=true:=by simp [h]
theorem fuel{k m:Nat}(h:k<m):∃q,m=q+1∧k≤q:=⟨m-1,by omega,by omega⟩
mutual
def ad.cost:(t:ad)→t.D→Nat
 | .raw,_=>0
 | .int _,_=>0
 | .bool,_=>0
 | .str,x=>List.length x
 | .sl t,xs=>List.length xs +(xs.map fun y=>t.cost y).sum
 | .st aj,x=>aj.cost x
def ay.cost:(aj:ay)→aj.D→Nat
 | .nil,_=>0
 | .cons t aj,x=>t.cost x.1+aj.cost x.2
end
mutual
def ad.wt:(t:ad)→t.D→Nat
 | .raw,_=>1
 | .int _,_=>1
 | .bool,_=>1
 | .str,_=>1
 | .sl t,xs=>(xs.map fun y=>t.wt y).sum
 | .st aj,x=>aj.wt x
def ay.wt:(aj:ay)→aj.D→Nat
 | .nil,_=>0
 | .cons t aj,x=>t.wt x.1+aj.wt x.2
end
theorem U6{α : Type}{f : α → Nat}{y : α} : ∀ {l:List α},y∈l→f y≤(l.map f).sum
 | x :: l,h=>by
  rcases List.mem_cons.1 h with rfl | h
  ·simp
  ·have:=U6 (f:=f) h;simp;omega
theorem U7{t:ad}(l:List t.D):l.length≤ad.cost (.sl t) l:=by simp only [ad.cost];omega
theorem af6{t:ad}{l:List t.D}{i:Nat}(h:i<l.length):J t l i∈l:=by rw [vI h];exact List.getElem_mem h
theorem af7{t:ad}{l:List t.D}{i:Nat}(h:i<l.length):l.length+t.cost (J t l i)≤ad.cost (.sl t) l:=by
 simp only [ad.cost]
 have:=U6 (f:=fun y=>t.cost y) (af6 h)
 omega
theorem drop_cons{t:ad}{l:List t.D}{i:Nat}(h:i<l.length):l.drop i=J t l i :: l.drop (i+1):=by
 rw [vI h];exact List.drop_eq_getElem_cons h
theorem U8{t:ad}{x:List t.D} : ad.cost (.sl t) x=x.length +(x.map fun y=>t.cost y).sum:=by simp only [ad.cost]
theorem MO{aj:ay}{x:aj.D} : ad.cost (.st aj) x=aj.cost x:=by simp only [ad.cost]
theorem MP{t:ad}{aj:ay}{x:(ay.cons t aj).D} : ay.cost (.cons t aj) x=t.cost x.1+aj.cost x.2:=by simp only [ay.cost]
theorem MQ{x:ay.nil.D} : ay.cost .nil x=0:=by simp only [ay.cost]
theorem MR{k:IntKind}{x:Int} : ad.cost (.int k) x=0:=by simp only [ad.cost]
theorem U9{x:Bool} : ad.cost .bool x=0:=by simp only [ad.cost]
theorem U_{x:List UInt8} : ad.cost .str x=x.length:=by simp only [ad.cost]
section
variable{mt:Int→List UInt8}{k k':Int}
end
theorem Ah{α : Type}{f g : α → Nat}(M:Nat):∀(l:List α),(∀y,y∈l→f y≤M*(1+g y))→(l.map f).sum≤M*(l.length +(l.map g).sum)
 | [],_=>by simp
 | y :: l,h=>by
  have h1:=h y List.mem_cons_self
  have h2:=Ah M l fun z hz=>h z (List.mem_cons_of_mem _ hz)
  simp only [List.map_cons,List.sum_cons,List.length_cons]
  have:M*(l.length+1 +(g y +(l.map g).sum))=M*(1+g y)+M*(l.length +(l.map g).sum):=by rw [← Nat.mul_add];congr 1;omega
  omega
theorem jq{n:Nat}(h:n≤4611686018427387904):n<aQ:=by rw [vj];omega
theorem mQ{β : Type}(n:Nat)(hn:n≤4611686018427387904)(L:Nat→Int → β)(G:Nat → β)(Inv:Nat→Prop)
  (h0:∀m,Inv n→L (m+1) (n:Int)=G n)
  (hs:∀m (i:Nat),i<n→Inv i→aK ((i:Int)+1)=(i:Int)+1→(Inv (i+1)→L m ((i:Int)+1)=G (i+1))→L (m+1) (i:Int)=G i) :
  ∀(r i m:Nat),i+r=n→r<m→Inv i→L m (i:Int)=G i:=by
 intro r
 induction r with
 | zero =>
  intro i m hi hm hv
  obtain ⟨m,rfl,_⟩:=fuel hm
  have:i=n:=by omega
  subst this
  exact h0 m hv
 | succ r ih =>
  intro i m hi hm hv
  obtain ⟨m,rfl,hq⟩:=fuel hm
  refine hs m i (by omega) hv (tf (by omega) (by omega)) fun lE=>?_
  have:=ih (i+1) m (by omega) (by omega) lE
  simpa only [Int.natCast_add,Int.cast_ofNat_Int] using this
theorem iI(k:Nat)(h:k≤1000:=by omega):∃q,aQ=q+k∧4611686018427387904<q:=⟨aQ-k,by rw [vj];omega,by rw [vj];omega⟩
theorem mR{α : Type}(a:Bool)(x y : α):cond a (some (x,())) (some (y,()))=some (cond a x y,()):=by cases a <;> rfl
def c2(x lo hi:Int):Bool:=decide (lo≤x)&&decide (x≤hi)
theorem dN{x lo hi:Int} : c2 x lo hi=true↔lo≤x∧x≤hi:=by simp [c2]
theorem U'(a b:Bool):cond a b false=(a&&b):=by cases a <;> rfl
theorem af8(a b:Int):jC a b=min a b:=by unfold jC;omega
theorem Va{s:List UInt8} : bs s []=decide (s.length=0):=by cases s <;> simp [bs]
theorem cI{x y:Int}(h:x≠y):(x != y)=true:=by simp [h]
theorem dq{x y:Int}(h:x=y):(x != y)=false:=by simp [h]
theorem cF{x y:Int}(h:x=y):(x==y)=true:=by simp [h]
theorem b4{x y:Int}(h:x≠y):(x==y)=false:=by simp [h]
theorem cH{n:Nat}(h:n≤68719476736):room n=true:=abA h
theorem xB{α : Type}(l:List α):part l 0 l.length=l:=by simp [part]
theorem MS{α : Type}(l:List α)(n:Nat):part l n (l.length-n)=l.drop n:=by
 unfold part;rw [List.take_of_length_le (by simp)]
theorem Ai{α : Type}(l:List α)(n:Nat):part l 0 n=l.take n:=by simp [part]
end Go.LM
namespace Go.LM.kA
theorem jr(x a b:Int):eg (x,a,b,())=some (c2 x a b,()):=by
 show JW x a b=_
 unfold JW c2
 by_cases h:a≤x <;> simp [h]
theorem js(x a b:Int):eL (x,a,b,())=some (c2 x a b,()):=by
 show KM x a b=_
 unfold KM c2
 by_cases h:a≤x <;> simp [h]
theorem eh{a:Int}(h : -4000000000000000000≤a)(h':a≤4000000000000000000):aK a=a:=tf (by omega) (by omega)
def ft(n:Nat)(P:Nat→Bool):Bool:=(List.range n).all P
theorem lf{n:Nat}{P:Nat→Bool} : ft n P=true↔∀i,i<n→P i=true:=by simp [ft,List.all_eq_true]
open Classical in
theorem sG(n:Nat)(hn:n≤4611686018427387904)(P:Nat→Bool)(E:Bool)(L:Nat→Int→Option (Bool×Unit))
  (h0:∀m,(∀j,j<n→P j=true)→L (m+1) (n:Int)=some (E,()))
  (hs:∀m (i:Nat),i<n→(∀j,j<i→P j=true)→aK ((i:Int)+1)=(i:Int)+1→L (m+1) (i:Int)=cond (P i) (L m ((i:Int)+1)) (some (false,())))
  (q:Nat:=aQ) (hq:n<q:=by exact jq (by omega)):L q 0=some (ft n P&&E,()):=by
 have:=mQ n hn L (fun i=>some (decide (∀j,i≤j→j<n→P j=true)&&E,())) (fun i=>∀j,j<i→P j=true) (fun m hi=>by
  rw [h0 m hi]
  rw [decide_eq_true (by intro j h1 h2;omega)];rfl) (fun m i hi hinv hw ih=>by
  rw [hs m i hi hinv hw]
  cases au:P i
  ·simp only [cond_false]
   rw [decide_eq_false (fun h=>by have:=h i (Nat.le_refl _) hi;rw [au] at this;cases this)];rfl
  ·simp only [cond_true]
   rw [ih (fun j hj=>by
    by_cases h:j=i
    ·subst h;exact au
    ·exact hinv j (by omega))]
   congr 3
   apply decide_eq_decide.2
   constructor
   ·intro h j h1 h2
    by_cases lT:j=i
    ·subst lT;exact au
    ·exact h j (by omega) h2
   ·intro h j h1 h2;exact h j (by omega) h2) n 0 q (by omega) hq (by intro j hj;omega)
 rw [Int.natCast_zero] at this
 rw [this]
 congr 3
 rw [Bool.eq_iff_iff,lf,decide_eq_true_eq]
 exact⟨fun h i hi=>h i (by omega) hi,fun h i _ hi=>h i hi⟩
theorem nV{α : Type}(a:Bool)(x y : α):cond (!a) x y=cond a y x:=by cases a <;> rfl
theorem MT{α : Type}(a b:Bool)(x y : α):cond (a&&b) x y=cond a (cond b x y) y:=by cases a <;> rfl
theorem FW{α : Type}(a b:Bool)(x y : α):cond (a||b) x y=cond a x (cond b x y):=by cases a <;> rfl
theorem MU{n i:Nat}(h:i+1<n)(hn:n≤4000000000000000000):aO n (aK (((i+1:Nat):Int)-1))=some i:=by
 rw [eh (by omega) (by omega),show((i+1:Nat):Int)-1=(i:Int) by omega,bC (by omega)]
theorem MV:decide (((0:Nat):Int)>0)=false:=rfl
theorem MW(i:Nat):decide (((i+1:Nat):Int)>0)=true:=by simp
def kH(c:aH.D):Bool :=
 c2 c.1 1 22&&decide ((c.2.1.length:Int)≤60)&&decide ((c.2.2.1.length:Int)≤60)&&decide ((c.2.2.2.2.2.1.length:Int)≤64)&&c2 c.2.2.2.1 (-1000000) 1000000&&c2 c.2.2.2.2.1 (-1000000) 1000000 &&
  (bs c.2.2.1 []||(c.1==9||(c.1==10||c.1==12)))&&(bs c.2.2.2.2.2.1 []||(c.1==5||c.1==6))
theorem MX(c:aH.D):JY (c,())=some (kH c,()):=by
 obtain ⟨q,hq,_⟩:=iI 1
 show CP (y' aQ) c=_
 rw [hq]
 unfold CP
 simp only [y',JX,jr,av,mR]
 congr 2
 simp only [kH,c2,Va]
 generalize c.2.1.length=a
 generalize c.2.2.1.length=b
 generalize c.2.2.2.2.2.1.length=d
 generalize c.1=k
 generalize c.2.2.2.1=e
 generalize c.2.2.2.2.1=f
 simp only [nV,MT,FW]
 rw [Bool.eq_iff_iff]
 simp only [Bool.cond_eq_ite,Bool.ite_eq_true_distrib,Bool.and_eq_true,Bool.or_eq_true,decide_eq_true_eq,beq_iff_eq,bne_iff_ne]
 grind (splits:=40)
theorem af9(c:aH.D):K2 (c,())=some (kH c,()):=by
 obtain ⟨q,hq,_⟩:=iI 2
 show EB (EC aQ) c=_
 rw [hq]
 unfold EB
 simp only [EC,eO,K1,Sz,SA,js,av,mR]
 congr 2
 simp only [kH,c2,Va]
 generalize c.2.1.length=a
 generalize c.2.2.1.length=b
 generalize c.2.2.2.2.2.1.length=d
 generalize c.1=k
 generalize c.2.2.2.1=e
 generalize c.2.2.2.2.1=f
 rw [Bool.eq_iff_iff]
 simp only [Bool.cond_eq_ite,Bool.ite_eq_true_distrib,Bool.and_eq_true,Bool.or_eq_true,decide_eq_true_eq,beq_iff_eq,bne_iff_ne]
 grind (splits:=60)
def fh(n:Nat)(P:Nat→Bool):Option Nat:=(List.range n).find? P
theorem ic{n i:Nat}{P:Nat→Bool} : fh n P=some i↔i<n∧P i=true∧∀j,j<i→P j=false:=by
 unfold fh
 rw [List.find?_range_eq_some]
 constructor
 ·rintro ⟨h1,h2,h3⟩;exact⟨by simpa using h2,h1,fun j hj=>by simpa using h3 j hj⟩
 ·rintro ⟨h1,h2,h3⟩;exact⟨h2,by simpa using h1,fun j hj=>by simpa using h3 j hj⟩
theorem l1{n:Nat}{P:Nat→Bool} : fh n P=none↔∀i,i<n→P i=false:=by
 unfold fh
 rw [List.find?_eq_none]
 simp
theorem sH{β : Type}(n:Nat)(hn:n≤4611686018427387904)(P:Nat→Bool)(R:Option Nat → β)(L:Nat→Int → β)
  (h0:∀m,L (m+1) (n:Int)=R none)
  (hs:∀m (i:Nat),i<n→aK ((i:Int)+1)=(i:Int)+1→L (m+1) (i:Int)=cond (P i) (R (some i)) (L m ((i:Int)+1))) (q:Nat:=aQ) (hq:n<q:=by exact jq (by omega)) :
  L q 0=R (fh n P):=by
 have key:=mQ n hn L (fun i=>R (fh n P)) (fun i=>∀j,j<i→P j=false) (fun m hi=>by rw [h0 m,l1.2 hi]) (fun m i hi hinv hw ih=>by
  rw [hs m i hi hw]
  cases au:P i
  ·simp only [cond_false]
   refine ih fun j hj=>?_
   by_cases h:j=i
   ·subst h;exact au
   ·exact hinv j (by omega)
  ·simp only [cond_true]
   rw [ic.2 ⟨hi,au,hinv⟩]) n 0 q (by omega) hq (by intro j hj;omega)
 simpa using key
def hg:Option Nat→Int
 | none => -1
 | some i=>i
theorem Aj{o:Option Nat} : decide (hg o<0)=o.isNone:=by
 cases o with
 | none=>rfl
 | some i=>exact decide_eq_false (by show ¬((i:Int)<0);omega)
theorem Ak{o:Option Nat} : decide (hg o≥0)=o.isSome:=by cases o <;> simp [hg]
theorem contains_eq(l:List Int)(x:Int)(hl:l.length≤4611686018427387904):sm (l,x,())=some (decide (x∈l),()):=by
 show KR l x=_
 unfold KR
 have h:KQ (l,x,())=some (hg (fh l.length (fun i=>x==J (.int .i64) l i)),()):=by
  show Ej (uS aQ) l x=_
  unfold Ej
  refine sH l.length hl _ (fun o=>some (hg o,())) (fun m i=>uS m l x (l.length:Int) i) ?_ ?_
  ·intro m
   simp only [uS,Ek]
   rw [cT (Nat.le_refl _)];rfl
  ·intro m i hi hw
   simp only [uS,Ek,hw]
   rw [cq hi,bC hi];rfl
 rw [h]
 simp only [av,Ak]
 congr 2
 rw [Bool.eq_iff_iff,decide_eq_true_eq,Option.isSome_iff_exists]
 constructor
 ·rintro ⟨i,hi⟩
  obtain ⟨h1,h2,_⟩:=ic.1 hi
  have h2:x=J (.int .i64) l i:=by simpa using h2
  rw [h2,c7 h1];exact List.getElem_mem h1
 ·intro hx
  obtain ⟨i,hi,he⟩:=List.mem_iff_getElem.1 hx
  cases hf:fh l.length (fun i=>x==J (.int .i64) l i) with
  | some j=>exact⟨j,rfl⟩
  | none =>
   have:=l1.1 hf i hi
   have aB:J (.int .i64) l i=l[i]:=c7 (t:=.int .i64) hi
   rw [aB,he] at this
   simp at this
def sI(b:Int):Bool:=decide (b≥97)&&decide (b≤122)||decide (b≥48)&&decide (b≤57)||b==46||b==95||b==45
theorem FX(b:Int):za (b,())=some (sI b,()):=by
 show JZ b=_
 unfold JZ sI
 simp only [mR]
 congr 2
 rw [Bool.eq_iff_iff]
 simp only [Bool.cond_eq_ite,Bool.ite_eq_true_distrib,Bool.and_eq_true,Bool.or_eq_true,decide_eq_true_eq,beq_iff_eq]
 grind
theorem Vb(b:Int):D1 (b,())=some (sI b,()):=by
 show Su b=_
 rw [← FX];rfl
def nb(s:List UInt8)(i:Nat):Int:=((s.getD i 0).toNat:Int)
def ie(s:List UInt8):Bool:=ft s.length (fun i=>sI (nb s i))&&(c2 (s.length:Int) 1 8&&(!bs s [46] && !bs s [46,46]))
theorem af_(s:List UInt8):KK (s,())=some (ie s,()):=by
 show DV (sk aQ) s=_
 unfold DV
 simp only [jr,av]
 by_cases hl:c2 (s.length:Int) 1 8=true
 case neg=>rw [Bool.not_eq_true] at hl;unfold ie;rw [hl];simp
 have hb:=dN.1 hl
 have hk:sk aQ s 0=some (ft s.length (fun i=>sI (nb s i))&&true,()):=by
  refine sG s.length (by omega) _ true (fun m i=>sk m s i) ?_ ?_
  ·intro m _
   simp only [sk,DW]
   rw [cT (Nat.le_refl _)];rfl
  ·intro m i hi _ hw
   simp only [sk,DW,hw]
   rw [cq hi,bC hi]
   simp only [cond_true,av,FX,nV];rfl
 rw [hk,hl]
 unfold ie
 rw [hl]
 cases bs s [46] <;> cases bs s [46,46] <;> simp
theorem af'(s:List UInt8)(hl:s.length≤4000000000000000000):KN (s,())=some (ie s,()):=by
 show Ea (uQ aQ) s=_
 unfold Ea ie
 refine sG s.length (by omega) _ _ (fun m i=>uQ m s (s.length:Int) i) ?_ ?_
 ·intro m _
  simp only [uQ,Eb]
  rw [cT (Nat.le_refl _)]
  simp only [js,av,cond_false,mR]
  congr 2
  cases c2 (s.length:Int) 1 8 <;> cases bs s [46] <;> rfl
 ·intro m i hi _ hw
  simp only [uQ,Eb,hw]
  rw [cq hi,bC hi]
  simp only [cond_true,av,Vb,nV];rfl
def jt(s:List UInt8):Bool:=ft s.length (fun i=>nb s i==47||sI (nb s i))&&c2 (s.length:Int) 1 60
theorem Vc(s:List UInt8):zb (s,())=some (jt s,()):=by
 show CR (ue aQ) s=_
 unfold CR
 simp only [jr,av]
 by_cases hl:c2 (s.length:Int) 1 60=true
 case neg=>rw [Bool.not_eq_true] at hl;unfold jt;rw [hl];simp
 have hb:=dN.1 hl
 unfold jt
 rw [hl]
 simp only [Bool.not_true,cond_false]
 refine sG s.length (by omega) _ true (fun m i=>ue m s i) ?_ ?_
 ·intro m _
  simp only [ue,CS]
  rw [cT (Nat.le_refl _)];rfl
 ·intro m i hi _ hw
  simp only [ue,CS,hw]
  rw [cq hi,bC hi]
  simp only [cond_true,av,FX,nV,FW,bne];rfl
theorem MY(s:List UInt8)(hl:s.length≤4000000000000000000):xh (s,())=some (jt s,()):=by
 show D3 (uN aQ) s=_
 unfold D3 jt
 refine sG s.length (by omega) _ _ (fun m i=>uN m s (s.length:Int) i) ?_ ?_
 ·intro m _
  simp only [uN,D4]
  rw [cT (Nat.le_refl _)]
  simp only [js,av,cond_false]
 ·intro m i hi _ hw
  simp only [uN,D4,hw]
  rw [cq hi,bC hi]
  simp only [cond_true,av,Vb,nV,FW,bne];rfl
abbrev aJ:Type:=I.D
def ak(x:aJ):List ax.D:=x.2.2.2.2.2.2.1
def bA(x:aJ):List UInt8:=x.2.2.2.2.2.1
def ba(l:List aJ)(id:Int):Option Nat:=fh l.length (fun i=>(J I l i).1==id)
theorem l2(v:af.D)(id:Int)(hl:v.2.1.length≤1048576):jM (v,id,())=some (hg (ba v.2.1 id),()):=by
 show C4 (uj aQ) v id=_
 unfold C4 ba
 refine sH v.2.1.length (by omega) _ (fun o=>some (hg o,())) (fun m i=>uj m id i v) ?_ ?_
 ·intro m
  simp only [uj,C5]
  rw [cT (Nat.le_refl _)];rfl
 ·intro m i hi hw
  simp only [uj,C5,hw]
  rw [cq hi,bC hi];rfl
def Vd(l:List aJ):Option Nat→List aJ
 | none=>[]
 | some i=>[J I l i]
theorem xC(v:af.D)(id:Int)(hl:v.2.1.length≤1048576):fE (v,id,())=some (Vd v.2.1 (ba v.2.1 id),()):=by
 show D6 (uO aQ) v id=_
 unfold D6 ba
 refine sH v.2.1.length (by omega) _ (fun o=>some (Vd v.2.1 o,())) (fun m i=>uO m v id (v.2.1.length:Int) i) ?_ ?_
 ·intro m
  simp only [uO,D7]
  rw [cT (Nat.le_refl _)];rfl
 ·intro m i hi hw
  simp only [uO,D7,hw]
  rw [cq hi,bC hi];rfl
theorem bZ{l:List aJ}{id:Int}{i:Nat}(h:ba l id=some i):i<l.length∧(J I l i).1=id:=by
 obtain ⟨h1,h2,_⟩:=ic.1 h
 exact⟨h1,by simpa using h2⟩
def bytesOf(l:List aJ):Nat:=(l.map fun x=>(bA x).length).sum
theorem aga{l:List aJ}{i:Nat}(hi:i<l.length):bytesOf (l.drop i)=(bA (J I l i)).length+bytesOf (l.drop (i+1)):=by
 rw [drop_cons (t:=I) hi];rfl
theorem MZ(l:List aJ)(i:Nat):bytesOf (l.take i)+bytesOf (l.drop i)=bytesOf l:=by
 unfold bytesOf
 rw [← List.sum_append_nat,← List.map_append,List.take_append_drop]
theorem xD{l:List aJ}{i:Nat}(hi:i<l.length):bytesOf (l.take (i+1))=bytesOf (l.take i) +(bA (J I l i)).length:=by
 have h1:=MZ l i
 have h2:=MZ l (i+1)
 have h3:=aga hi
 omega
theorem FY(l:List aJ)(i:Nat):bytesOf (l.take i)≤bytesOf l:=by have:=MZ l i;omega
theorem M0(v:af.D)(hl:v.2.1.length≤1048576)(hb:bytesOf v.2.1≤1048576):zh (v,())=some ((bytesOf v.2.1:Int),()):=by
 show Dd (uu aQ) v=_
 unfold Dd
 have:=mQ v.2.1.length (by omega) (fun m i=>uu m (bytesOf (v.2.1.take i.toNat):Int) i v) (fun _=>some ((bytesOf v.2.1:Int),())) (fun _=>True) (fun m _=>by
  simp only [uu,De]
  rw [cT (Nat.le_refl _)]
  simp only [Int.toNat_natCast,List.take_length,cond_false]) (fun m i hi _ hw ih=>by
  simp only [uu,De,hw]
  rw [cq hi,bC hi]
  simp only [cond_true,av,Int.toNat_natCast]
  have ih:=ih trivial
  rw [show((i:Int)+1).toNat=i+1 by omega,xD hi,Int.natCast_add] at ih
  have h2:=FY v.2.1 (i+1)
  rw [xD hi] at h2
  rw [eh (by omega) (by have:((J I v.2.1 i).2.2.2.2.2.1).length=(bA (J I v.2.1 i)).length:=rfl;omega)]
  exact ih) v.2.1.length 0 aQ (by omega) (jq (by omega)) trivial
 simpa [bytesOf] using this
theorem M1(v:af.D)(hl:v.2.1.length≤1048576)(hb:bytesOf v.2.1≤1048576):sn (v,())=some ((bytesOf v.2.1:Int),()):=by
 show Eo (uW aQ) v=_
 unfold Eo
 have:=mQ v.2.1.length (by omega) (fun m i=>uW m (bytesOf (v.2.1.take i.toNat):Int) v.2.1 (v.2.1.length:Int) i) (fun _=>some ((bytesOf v.2.1:Int),())) (fun _=>True) (fun m _=>by
  simp only [uW,Ep]
  rw [cT (Nat.le_refl _)]
  simp only [Int.toNat_natCast,List.take_length,cond_false]) (fun m i hi _ hw ih=>by
  simp only [uW,Ep,hw]
  rw [cq hi,bC hi]
  simp only [cond_true,av,Int.toNat_natCast]
  have ih:=ih trivial
  rw [show((i:Int)+1).toNat=i+1 by omega,xD hi,Int.natCast_add] at ih
  have h2:=FY v.2.1 (i+1)
  rw [xD hi] at h2
  rw [eh (by omega) (by have:((J I v.2.1 i).2.2.2.2.2.1).length=(bA (J I v.2.1 i)).length:=rfl;omega)]
  exact ih) v.2.1.length 0 aQ (by omega) (jq (by omega)) trivial
 simpa [bytesOf] using this
def bV{β : Type}(f:Nat → β)(B:Nat)(y : β):Prop:=∀m,B≤m→f m=y
theorem bV.step{β : Type}{f g:Nat → β}{B:Nat}{y : β}(h:bV g B y)(hf:∀m,f (m+1)=g m):bV f (B+1) y:=by
 intro m hm
 obtain ⟨k,rfl⟩:∃k,m=k+1:=⟨m-1,by omega⟩
 rw [hf];exact h k (by omega)
theorem bV.done{β : Type}{f:Nat → β}{y : β}(hf:∀m,f (m+1)=y):bV f 1 y:=by
 intro m hm
 obtain ⟨k,rfl⟩:∃k,m=k+1:=⟨m-1,by omega⟩
 exact hf k
theorem bV.mono{β : Type}{f:Nat → β}{B nn:Nat}{y : β}(h:bV f B y)(hb:B≤nn):bV f nn y:=fun m hm=>h m (by omega)
def dO{lg : Type} : Nat→(Nat → lg → lg) → lg → lg
 | 0,_,s=>s
 | n+1,f,s=>f n (dO n f s)
theorem sJ{lg : Type}{n:Nat}{f:Nat → lg → lg}(Inv:Nat → lg → Prop)(eY:∀i s,i<n→Inv i s→Inv (i+1) (f i s)){s : lg}(h:Inv 0 s):Inv n (dO n f s):=by
 induction n with
 | zero=>exact h
 | succ n ih=>exact eY n _ (by omega) (ih fun i s hi=>eY i s (by omega))
theorem sK{lg β : Type}(n W:Nat)(F:Nat→Nat → lg → β)(step:Nat → lg → lg)(Inv:Nat → lg → Prop)(eY:∀i s,i<n→Inv i s→Inv (i+1) (step i s))
  (hs:∀i s,i<n→Inv i s→∀B y,bV (fun m=>F m (i+1) (step i s)) B y→bV (fun m=>F m i s) (B+W) y) (s : lg) (h:Inv 0 s) (B:Nat) (y : β) (he:bV (fun m=>F m n (dO n step s)) B y):bV (fun m=>F m 0 s) (B+n*W) y:=by
 have key:∀k,k≤n→bV (fun m=>F m (n-k) (dO (n-k) step s)) (B+k*W) y:=by
  intro k
  induction k with
  | zero=>intro _;simpa using he
  | succ k ih =>
   intro hk
   have:=ih (by omega)
   have hinv:Inv (n-(k+1)) (dO (n-(k+1)) step s):=sJ Inv (fun i s hi=>eY i s (by omega)) h
   have h2:=hs (n-(k+1)) _ (by omega) hinv (B+k*W) y (by
    rw [show n-(k+1)+1=n-k by omega]
    have e:dO (n-k) step s=step (n-(k+1)) (dO (n-(k+1)) step s):=by
     rw [show n-k=(n-(k+1))+1 by omega];rfl
    rw [← e];exact this)
   rw [Nat.add_one_mul,← Nat.add_assoc]
   exact h2
 have:=key n (Nat.le_refl _)
 simpa [dO] using this
def dr(l:List ax.D)(id:Int):Nat:=(l.filter fun d=>d.2.1==id).length
def ca(l:List aJ)(id:Int):Nat:=(l.map fun x=>dr (ak x) id).sum
theorem agb{l:List ax.D}{id:Int}{j:Nat}(hj:j<l.length):dr (l.take (j+1)) id=dr (l.take j) id+cond ((J ax l j).2.1==id) 1 0:=by
 unfold dr
 rw [List.take_succ_eq_append_getElem hj,List.filter_append,List.length_append]
 congr 1
 rw [c7 hj]
 cases h:(l[j]).2.1==id <;> simp [List.filter_cons,h]
theorem agc(l:List ax.D)(id:Int):dr l id≤l.length:=List.length_filter_le _ _
theorem M3{l:List aJ}{id:Int}{i:Nat}(hi:i<l.length):ca (l.take (i+1)) id=ca (l.take i) id+dr (ak (J I l i)) id:=by
 unfold ca
 rw [List.take_succ_eq_append_getElem hi,List.map_append,List.sum_append_nat]
 simp [c7 hi]
def dv(l:List aJ):Nat:=(l.map fun x=>(ak x).length).sum
theorem Ve(l:List aJ)(id:Int):ca l id≤dv l:=by
 unfold ca dv
 induction l with
 | nil=>simp
 | cons x l ih=>simp only [List.map_cons,List.sum_cons];have:=agc (ak x) id;omega
theorem fO{l:List aJ}{i:Nat}(hi:i<l.length):(ak (J I l i)).length≤dv l:=by
 unfold dv
 rw [c7 hi]
 have:∀(l:List aJ) (i:Nat) (hi:i<l.length),(ak l[i]).length≤(l.map fun x=>(ak x).length).sum:=by
  intro l
  induction l with
  | nil=>intro i hi;simp at hi
  | cons x l ih =>
   intro i hi
   simp only [List.map_cons,List.sum_cons]
   cases i with
   | zero=>simp
   | succ i=>have:=ih i (by simpa using hi);simp only [List.getElem_cons_succ];omega
 exact this l i hi
theorem Vf(l:List aJ)(id:Int)(i:Nat):ca (l.take i) id≤dv l:=by
 refine Nat.le_trans (Ve _ _) ?_
 unfold dv
 conv=>rhs;rw [← List.take_append_drop i l,List.map_append,List.sum_append_nat]
 omega
theorem dg(i:Nat)(h:i<4000000000000000000):aK ((i:Int)+1)=((i+1:Nat):Int):=by rw [eh (by omega) (by omega)];omega
theorem M4(l:List aJ)(id:Int):∀i,i≤l.length→dO i (fun i s=>s+dr (ak (J I l i)) id) 0=ca (l.take i) id
 | 0,_=>by simp [dO,ca]
 | i+1,h=>by
  rw [dO,M4 l id i (by omega),M3 (by omega)]
theorem M5(l:List ax.D)(id:Int)(s:Nat):∀j,j≤l.length→dO j (fun j s=>s+cond ((J ax l j).2.1==id) 1 0) s=s+dr (l.take j) id
 | 0,_=>by simp [dO,dr]
 | j+1,h=>by
  rw [dO,M5 l id s j (by omega),agb (by omega)];omega
theorem kI{β : Type}{f:Nat → β}{B:Nat}{y : β}(h:bV f B y)(hb:B≤4611686018427387904):f aQ=y:=h aQ (by have:=jq hb;omega)
theorem FZ(v:af.D)(id:Int)(hl:v.2.1.length≤1048576)(hn:dv v.2.1≤1048576):zr (v,id,())=some ((ca v.2.1 id:Int),()):=by
 show Dn (pL aQ) v id=_
 unfold Dn
 have key:=sK v.2.1.length (1048576+2) (fun m i (s:Nat)=>(pL m).k3 id (s:Int) (i:Int) v) (fun i s=>s+dr (ak (J I v.2.1 i)) id) (fun i s=>s=ca (v.2.1.take i) id) (fun i s hi hs=>by rw [hs,M3 hi]) (fun i s hi hs B y he=>by
  have mS:s≤1048576:=by have:=Vf v.2.1 id i;omega
  have hnl:=fO hi
  have inner:=sK (ak (J I v.2.1 i)).length 1 (fun m j (s:Nat)=>(pL m).da id (s:Int) (i:Int) (j:Int) v) (fun j s=>s+cond ((J ax (ak (J I v.2.1 i)) j).2.1==id) 1 0) (fun j s=>s≤1048576+j) (fun j s hj hs=>by
   cases (J ax (ak (J I v.2.1 i)) j).2.1==id <;> simp <;> omega) (fun j s hj hs B y he=>by
   refine he.step fun m=>?_
   show zq (pL m) _ _ _ _ _=_
   unfold zq
   rw [bC hi]
   simp only [av]
   show cond (decide ((j:Int)<((ak (J I v.2.1 i)).length:Int))) ((aO (ak (J I v.2.1 i)).length (j:Int)).bind _) _=_
   rw [cq hj]
   simp only [cond_true]
   rw [bC hj]
   simp only [av]
   rw [dg j (by omega),dg s (by omega)]
   show cond ((J ax (ak (J I v.2.1 i)) j).2.1==id) _ _=_
   cases (J ax (ak (J I v.2.1 i)) j).2.1==id <;> rfl) s (by omega) (B+1) y (by
   refine he.step fun m=>?_
   rw [M5 _ _ _ _ (Nat.le_refl _),List.take_length]
   show zq (pL m) _ _ _ _ _=_
   unfold zq
   rw [bC hi]
   simp only [av]
   show cond (decide (((ak (J I v.2.1 i)).length:Int)<((ak (J I v.2.1 i)).length:Int))) _ _=_
   rw [cT (Nat.le_refl _)]
   simp only [cond_false]
   rw [dg i (by omega)])
  refine(inner.step (f:=fun m=>(pL m).k3 id (s:Int) (i:Int) v) fun m=>?_).mono (by omega)
  show zp (pL m) _ _ _ _=_
  unfold zp
  rw [cq hi];rfl) 0 (by simp [ca]) 1 (some ((ca v.2.1 id:Int),())) (bV.done fun m=>by
  rw [M4 _ _ _ (Nat.le_refl _),List.take_length]
  show zp (pL m) _ _ _ _=_
  unfold zp
  rw [cT (Nat.le_refl _)];rfl)
 have hm:v.2.1.length*(1048576+2)≤1048576*(1048576+2):=Nat.mul_le_mul_right _ hl
 exact kI key (by omega)
theorem F2(v:af.D)(id:Int)(hl:v.2.1.length≤1048576)(hn:dv v.2.1≤1048576):xj (v,id,())=some ((ca v.2.1 id:Int),()):=by
 show Em (pQ aQ) v id=_
 unfold Em
 have key:=sK v.2.1.length (1048576+2) (fun m i (s:Nat)=>(pQ m).k3 id (s:Int) v.2.1 (v.2.1.length:Int) (i:Int)) (fun i s=>s+dr (ak (J I v.2.1 i)) id) (fun i s=>s=ca (v.2.1.take i) id) (fun i s hi hs=>by rw [hs,M3 hi]) (fun i s hi hs B y he=>by
  have mS:s≤1048576:=by have:=Vf v.2.1 id i;omega
  have hnl:=fO hi
  have inner:=sK (ak (J I v.2.1 i)).length 1 (fun m j (s:Nat)=>(pQ m).da id (s:Int) v.2.1 (v.2.1.length:Int) (i:Int) (ak (J I v.2.1 i)) ((ak (J I v.2.1 i)).length:Int) (j:Int)) (fun j s=>s+cond ((J ax (ak (J I v.2.1 i)) j).2.1==id) 1 0) (fun j s=>s≤1048576+j) (fun j s hj hs=>by
   cases (J ax (ak (J I v.2.1 i)) j).2.1==id <;> simp <;> omega) (fun j s hj hs B y he=>by
   refine he.step fun m=>?_
   show zM (pQ m) _ _ _ _ _ _ _ _=_
   unfold zM
   rw [cq hj]
   simp only [cond_true]
   rw [bC hj]
   simp only [av]
   rw [dg j (by omega),dg s (by omega)]
   cases (J ax (ak (J I v.2.1 i)) j).2.1==id <;> rfl) s (by omega) (B+1) y (by
   refine he.step fun m=>?_
   rw [M5 _ _ _ _ (Nat.le_refl _),List.take_length]
   show zM (pQ m) _ _ _ _ _ _ _ _=_
   unfold zM
   rw [cT (Nat.le_refl _)]
   simp only [cond_false]
   rw [dg i (by omega)])
  refine(inner.step (f:=fun m=>(pQ m).k3 id (s:Int) v.2.1 (v.2.1.length:Int) (i:Int)) fun m=>?_).mono (by omega)
  show zL (pQ m) _ _ _ _ _=_
  unfold zL
  rw [cq hi,bC hi];rfl) 0 (by simp [ca]) 1 (some ((ca v.2.1 id:Int),())) (bV.done fun m=>by
  rw [M4 _ _ _ (Nat.le_refl _),List.take_length]
  show zL (pQ m) _ _ _ _ _=_
  unfold zL
  rw [cT (Nat.le_refl _)];rfl)
 have hm:v.2.1.length*(1048576+2)≤1048576*(1048576+2):=Nat.mul_le_mul_right _ hl
 exact kI key (by omega)
abbrev Flags:Type:=List Bool
def T(xs:Flags)(i:Nat):Prop:=J .bool xs i=true
theorem vk{xs:Flags}{x i:Nat}(hx:x<xs.length):T (xs.set x true) i↔(i=x∨T xs i):=by
 unfold T J
 simp only [List.getD_eq_getElem?_getD,List.getElem?_set]
 by_cases h:x=i
 ·subst h;simp [hx]
 ·simp only [h,if_false]
  constructor
  ·intro h;exact .inr h
  ·rintro (rfl | h1)
   ·exact absurd rfl h
   ·exact h1
abbrev FS:Type:=Flags×Flags
section
variable(l:List aJ)
def ju(i j:Nat)(s:FS):FS :=
 match ba l (J ax (ak (J I l i)) j).2.1 with
 | none=>s
 | some x=>(s.1.set x true,s.2.set x true)
def iJ(i:Nat)(s:FS):FS:=cond (J .bool s.2 i) (dO (ak (J I l i)).length (ju l i) s) s
def fw(s:FS):FS:=dO l.length (iJ l) s
def FS.gq(n:Nat)(s:FS):Prop:=s.1.length=n∧s.2.length=n
theorem F3{n i j:Nat}{s:FS}(h:s.gq n):(ju l i j s).gq n:=by
 unfold ju;split
 ·exact h
 ·exact⟨by simpa using h.1,by simpa using h.2⟩
theorem F4{n i:Nat}{s:FS}(h:s.gq n):(iJ l i s).gq n:=by
 unfold iJ
 cases J .bool s.2 i
 ·exact h
 ·exact sJ (fun _ s=>FS.gq n s) (fun i s _ hs=>F3 l hs) h
theorem M6{n:Nat}{s:FS}(h:s.gq n):(fw l s).gq n:=sJ (fun _ s=>FS.gq n s) (fun i s _ hs=>F4 l hs) h
theorem agd(v:af.D)(hl:v.2.1.length≤1048576)(hn:dv v.2.1≤1048576)(s:FS)(h:s.gq v.2.1.length) :
  (j8 aQ).dI 0 v s.1 s.2=some ((dO v.2.1.length (fun _=>fw v.2.1) s).1,()):=by
 have key:=sK v.2.1.length (v.2.1.length*1048580+2) (fun m k (s:FS)=>(j8 m).dI (k:Int) v s.1 s.2) (fun _=>fw v.2.1) (fun _ s=>s.gq v.2.1.length) (fun _ s _ hs=>M6 v.2.1 hs) (fun k s hk hs B y he=>by
  have inner:=sK v.2.1.length 1048580 (fun m i (s:FS)=>(j8 m).db (k:Int) (i:Int) v s.1 s.2) (iJ v.2.1) (fun _ s=>s.gq v.2.1.length) (fun _ s _ hs=>F4 v.2.1 hs) (fun i s hi hs B y he=>by
   have hnl:=fO hi
   cases ho:J .bool s.2 i
   ·refine(he.step (f:=fun m=>(j8 m).db (k:Int) (i:Int) v s.1 s.2) fun m=>?_).mono (by omega)
    show uv (j8 m) _ _ _ _ _=_
    unfold uv
    have eZ:aO s.2.length (i:Int)=some i:=bC (by rw [hs.2];exact hi)
    rw [cq hi,eZ]
    simp only [cond_true,av,Nat.zero_add,ho,Bool.not_false]
    rw [dg i (by omega)]
    unfold iJ;rw [ho];rfl
   ·have hst:iJ v.2.1 i s=dO (ak (J I v.2.1 i)).length (ju v.2.1 i) s:=by unfold iJ;rw [ho];rfl
    rw [hst] at he
    have inj:=sK (ak (J I v.2.1 i)).length 1 (fun m j (s:FS)=>(j8 m).qK (k:Int) (i:Int) (j:Int) v s.1 s.2) (ju v.2.1 i) (fun _ s=>s.gq v.2.1.length) (fun _ s _ hs=>F3 v.2.1 hs) (fun j s hj hs B y he=>by
     refine he.step fun m=>?_
     show zj (j8 m) _ _ _ _ _ _=_
     unfold zj
     rw [bC hi]
     simp only [av]
     show cond (decide ((j:Int)<((ak (J I v.2.1 i)).length:Int))) ((aO (ak (J I v.2.1 i)).length (j:Int)).bind _) _=_
     rw [cq hj]
     simp only [cond_true]
     rw [bC hj]
     simp only [av]
     rw [l2 v _ hl]
     simp only [av,Ak]
     rw [dg j (by omega)]
     show cond (ba v.2.1 (J ax (ak (J I v.2.1 i)) j).2.1).isSome _ _=_
     unfold ju
     cases hx:ba v.2.1 (J ax (ak (J I v.2.1 i)) j).2.1 with
     | none=>rfl
     | some x =>
      have hxl:=(bZ hx).1
      simp only [Option.isSome_some,cond_true]
      have hx2:ba v.2.1 (J ax (J I v.2.1 i).2.2.2.2.2.2.1 j).2.1=some x:=hx
      rw [hx2]
      show((aO s.1.length ((x:Nat):Int)).bind _)=_
      rw [bC (by rw [hs.1];exact hxl)]
      simp only [av]
      show((aO s.2.length ((x:Nat):Int)).bind _)=_
      rw [bC (by rw [hs.2];exact hxl)]
      simp only [av,Nat.zero_add]) s hs (B+1) y (by
     refine he.step fun m=>?_
     show zj (j8 m) _ _ _ _ _ _=_
     unfold zj
     rw [bC hi]
     simp only [av]
     show cond (decide (((ak (J I v.2.1 i)).length:Int)<((ak (J I v.2.1 i)).length:Int))) _ _=_
     rw [cT (Nat.le_refl _)]
     simp only [cond_false]
     rw [dg i (by omega)])
    refine(inj.step (f:=fun m=>(j8 m).db (k:Int) (i:Int) v s.1 s.2) fun m=>?_).mono (by omega)
    show uv (j8 m) _ _ _ _ _=_
    unfold uv
    have eZ:aO s.2.length (i:Int)=some i:=bC (by rw [hs.2];exact hi)
    rw [cq hi,eZ]
    simp only [cond_true,av,Nat.zero_add,ho,Bool.not_true,cond_false]
    rfl) s hs (B+1) y (by
   refine he.step fun m=>?_
   show uv (j8 m) _ _ _ _ _=_
   unfold uv
   rw [cT (Nat.le_refl _)]
   simp only [cond_false]
   rw [dg k (by omega)];rfl)
  refine(inner.step (f:=fun m=>(j8 m).dI (k:Int) v s.1 s.2) fun m=>?_).mono (by omega)
  show zi (j8 m) _ _ _ _=_
  unfold zi
  rw [cq hk];rfl) s h 1 (some ((dO v.2.1.length (fun _=>fw v.2.1) s).1,())) (bV.done fun m=>by
  show zi (j8 m) _ _ _ _=_
  unfold zi
  rw [cT (Nat.le_refl _)];rfl)
 have h1:v.2.1.length*1048580≤1048576*1048580:=Nat.mul_le_mul_right _ hl
 have hm:v.2.1.length*(v.2.1.length*1048580+2)≤1048576*(1048576*1048580+2):=Nat.mul_le_mul hl (Nat.add_le_add_right h1 2)
 have v_:=Nat.le_trans hm (by decide:1048576*(1048576*1048580+2)≤4611686018427387000)
 generalize v.2.1.length*(v.2.1.length*1048580+2)=X at *
 exact kI key (by omega)
def fP(n:Nat):Flags:=List.replicate n false
def dP(id:Int):Flags :=
 match ba l id with
 | none=>fP l.length
 | some a=>(dO l.length (fun _=>fw l) (fP l.length,(fP l.length).set a true)).1
theorem Vg(v:af.D)(id:Int)(hl:v.2.1.length≤1048576)(hn:dv v.2.1≤1048576):Dg (v,id,())=some (dP v.2.1 id,()):=by
 show Df (j8 aQ) v id=_
 unfold Df
 have hr:(decide (0≤(v.2.1.length:Int))&&decide ((v.2.1.length:Int)=(v.2.1.length:Int))&&room (Int.toNat (v.2.1.length:Int)))=true:=by
  rw [Int.toNat_natCast,cH (by omega),decide_eq_true (by omega),decide_eq_true rfl];rfl
 rw [hr]
 simp only [cond_true]
 rw [l2 v id hl]
 simp only [av,Aj,Int.toNat_natCast]
 unfold dP
 cases ha:ba v.2.1 id with
 | none=>rfl
 | some a =>
  simp only [Option.isNone_some,cond_false,hg]
  rw [List.length_replicate,bC (bZ ha).1]
  simp only [av,Nat.zero_add]
  exact agd v hl hn (fP v.2.1.length,(fP v.2.1.length).set a true) ⟨by simp [fP],by simp [fP]⟩
end
theorem cP{t:ad}{xs:List t.D}{i:Nat}(h:i<xs.length):J t xs i∈xs:=by rw [c7 h];exact List.getElem_mem h
theorem fx{t:ad}{xs:List t.D}{x:t.D}(h:x∈xs):∃i,i<xs.length∧J t xs i=x:=by
 obtain ⟨i,hi,he⟩:=List.mem_iff_getElem.1 h
 exact⟨i,hi,by rw [c7 hi];exact he⟩
def E(l:List aJ)(a b:Int):Prop:=∃i d,ba l a=some i∧d∈ak (J I l i)∧d.2.1=b
abbrev dQ(l:List aJ)(a b:Int):Prop:=Relation.TransGen (E l) a b
def ig(l:List aJ):Prop:=∀x,x<l.length→ba l (J I l x).1=some x
def q9(l:List aJ):Prop:=∀i,i<l.length→∀d,d∈ak (J I l i)→(ba l d.2.1).isSome=true
section
variable(l:List aJ)
theorem Vh{xs:Flags}{x i:Nat}(h:T xs i):T (xs.set x true) i:=by
 by_cases hx:x<xs.length
 ·exact(vk hx).2 (.inr h)
 ·rwa [List.set_eq_of_length_le (by omega)]
def FS.le(s ar:FS):Prop:=(∀i,T s.1 i→T ar.1 i)∧(∀i,T s.2 i→T ar.2 i)
theorem FS.le.F5{s:FS} : s.le s:=⟨fun _ h=>h,fun _ h=>h⟩
theorem FS.le.JN{s ar Vi:FS}(h:s.le ar)(k:ar.le Vi):s.le Vi:=⟨fun i hi=>k.1 i (h.1 i hi),fun i hi=>k.2 i (h.2 i hi)⟩
theorem Al{f:Nat→FS→FS}(h:∀i s,FS.le s (f i s))(s:FS):∀n,FS.le s (dO n f s)
 | 0=>.F5
 | n+1=>(Al h s n).JN (h n _)
theorem Vj{f:Nat→FS→FS}(h:∀i s,FS.le s (f i s))(s:FS){i n:Nat}(hi:i<n):FS.le (f i (dO i f s)) (dO n f s):=by
 induction n with
 | zero=>omega
 | succ n ih =>
  by_cases h1:i=n
  ·subst h1;exact .F5
  ·exact(ih (by omega)).JN (h n _)
theorem Vk(i j:Nat)(s:FS):FS.le s (ju l i j s):=by
 unfold ju;split
 ·exact .F5
 ·exact⟨fun _ h=>Vh h,fun _ h=>Vh h⟩
theorem M7(i:Nat)(s:FS):FS.le s (iJ l i s):=by
 unfold iJ
 cases J .bool s.2 i
 ·exact .F5
 ·exact Al (Vk l i) s _
theorem F6(s:FS):FS.le s (fw l s):=Al (M7 l) s _
theorem age{s:FS}(hs:s.gq l.length){i x:Nat}(hi:i<l.length)(ho:T s.2 i){d:ax.D}(ag:d∈ak (J I l i))(hx:ba l d.2.1=some x):T (fw l s).1 x∧T (fw l s).2 x:=by
 have h1:=Vj (M7 l) s hi
 have ht:T (dO i (iJ l) s).2 i:=(Al (M7 l) s i).2 i ho
 have rR:(dO i (iJ l) s).gq l.length:=sJ (fun _ s=>FS.gq l.length s) (fun i s _ hs=>F4 l hs) hs
 generalize dO i (iJ l) s=t at *
 obtain ⟨j,hj,rfl⟩:=fx ag
 have h2:=Vj (Vk l i) t hj
 have e:iJ l i t=dO (ak (J I l i)).length (ju l i) t:=by unfold iJ;rw [show J .bool t.2 i=true from ht];rfl
 rw [← e] at h2
 have qn:(dO j (ju l i) t).gq l.length:=sJ (fun _ s=>FS.gq l.length s) (fun i s _ hs=>F3 l hs) rR
 generalize dO j (ju l i) t=u at *
 have hs:ju l i j u=(u.1.set x true,u.2.set x true):=by unfold ju;rw [hx]
 rw [hs] at h2
 have hxl:=(bZ hx).1
 exact⟨h1.1 x (h2.1 x ((vk (by rw [qn.1];exact hxl)).2 (.inl rfl))),h1.2 x (h2.2 x ((vk (by rw [qn.2];exact hxl)).2 (.inl rfl)))⟩
theorem Vl(Pi fQ:Nat→Prop)(vl:∀i,i<l.length→fQ i→∀d,d∈ak (J I l i)→∀x,ba l d.2.1=some x→Pi x∧fQ x){s:FS}(hl:s.gq l.length)(h1:∀i,T s.1 i→Pi i)(h2:∀i,T s.2 i→fQ i) :
  (∀i,T (fw l s).1 i→Pi i)∧(∀i,T (fw l s).2 i→fQ i):=by
 have key:(fw l s).gq l.length∧(∀i,T (fw l s).1 i→Pi i)∧(∀i,T (fw l s).2 i→fQ i):=by
  refine sJ (fun _ (s:FS)=>s.gq l.length∧(∀i,T s.1 i→Pi i)∧(∀i,T s.2 i→fQ i)) (fun i s hi hs=>?_) ⟨hl,h1,h2⟩
  obtain ⟨hl,h1,h2⟩:=hs
  refine⟨F4 l hl,?_⟩
  cases ho:J .bool s.2 i
  ·rw [show iJ l i s=s by unfold iJ;rw [ho];rfl];exact⟨h1,h2⟩
  ·rw [show iJ l i s=dO (ak (J I l i)).length (ju l i) s by unfold iJ;rw [ho];rfl]
   have:=sJ (n:=(ak (J I l i)).length) (f:=ju l i) (fun _ (s:FS)=>s.gq l.length∧(∀i,T s.1 i→Pi i)∧(∀i,T s.2 i→fQ i)) (fun j t hj ht=>by
    obtain ⟨hl,g1,g2⟩:=ht
    refine⟨F3 l hl,?_⟩
    unfold ju
    split
    ·exact⟨g1,g2⟩
    ·rename_i x hx
     obtain ⟨en,fo⟩:=vl i hi (h2 i ho) _ (cP hj) x hx
     have hxl:=(bZ hx).1
     refine⟨fun k hk=>?_,fun k hk=>?_⟩
     ·rcases (vk (by rw [hl.1];exact hxl)).1 hk with rfl | hk
      ·exact en
      ·exact g1 k hk
     ·rcases (vk (by rw [hl.2];exact hxl)).1 hk with rfl | hk
      ·exact fo
      ·exact g2 k hk) ⟨hl,h1,h2⟩
   exact this.2
 exact key.2
def F7(s:FS):Prop:=∀i,i<l.length→T s.2 i→∀d,d∈ak (J I l i)→∀x,ba l d.2.1=some x→T s.1 x∧T s.2 x
theorem agf{s:FS}(hl:s.gq l.length)(h:F7 l s):F7 l (fw l s):=by
 obtain ⟨h1,h2⟩:=Vl l (T s.1) (T s.2) h hl (fun _ h=>h) (fun _ h=>h)
 intro i hi ho d ag x hx
 obtain ⟨en,fo⟩:=h i hi (h2 i ho) d ag x hx
 exact⟨(F6 l s).1 x en,(F6 l s).2 x fo⟩
def nW(xs:Flags):Nat:=(xs.filter fun b=>b).length
theorem agh(xs:Flags):nW xs≤xs.length:=List.length_filter_le _ _
theorem Vm:∀(a b:Flags),a.length=b.length→(∀i,T a i→T b i)→nW a≤nW b∧(nW a=nW b→a=b)
 | [],[],_,_=>⟨Nat.le_refl _,fun _=>rfl⟩
 | [],_ :: _,h,_=>by simp at h
 | _ :: _,[],h,_=>by simp at h
 | x :: a,y :: b,h,b1=>by
  obtain ⟨h1,h2⟩:=Vm a b (by simpa using h) (fun i hi=>b1 (i+1) hi)
  have h0:x=true→y=true:=fun hx=>b1 0 hx
  unfold nW at *
  cases x <;> cases y <;> simp only [List.filter_cons,if_true,Bool.false_eq_true,if_false,List.length_cons]
  ·exact⟨h1,fun h=>by rw [h2 h]⟩
  ·exact⟨by omega,fun h=>by omega⟩
  ·exact absurd (h0 rfl) (by simp)
  ·exact⟨by omega,fun h=>by rw [h2 (by omega)]⟩
theorem agi{xs:Flags}{i:Nat}(h:T xs i):1≤nW xs:=by
 have hm:true∈xs:=by
  unfold T J at h
  rw [List.getD_eq_getElem?_getD] at h
  cases hx:xs[i]? with
  | none=>rw [hx] at h;simp at h;cases h
  | some b =>
   rw [hx] at h
   have hb:b=true:=h
   subst hb
   exact List.mem_of_getElem? hx
 unfold nW
 exact List.length_pos_of_mem (List.mem_filter.2 ⟨hm,rfl⟩)
theorem rounds(s:FS)(hl:s.gq l.length)(h:1≤nW s.2):∀k,(dO k (fun _=>fw l) s).gq l.length∧(F7 l (dO k (fun _=>fw l) s)∨k+1≤nW (dO k (fun _=>fw l) s).2)
 | 0=>⟨hl,.inr h⟩
 | k+1=>by
  obtain ⟨hk,ih⟩:=rounds s hl h k
  rw [dO]
  generalize dO k (fun _=>fw l) s=t at *
  have hr:=M6 l hk
  refine⟨hr,?_⟩
  rcases ih with ih | ih
  ·exact .inl (agf l hk ih)
  ·obtain ⟨c1,gh⟩:=Vm t.2 (fw l t).2 (by rw [hk.2,hr.2]) (F6 l t).2
   by_cases hc:nW t.2=nW (fw l t).2
   ·left
    have e:=gh hc
    intro i hi ho d ag x hx
    rw [← e] at ho
    exact age l hk hi ho ag hx
   ·right;omega
theorem M8(Pi fQ:Nat→Prop)(vl:∀i,i<l.length→fQ i→∀d,d∈ak (J I l i)→∀x,ba l d.2.1=some x→Pi x∧fQ x)(s:FS)(hl:s.gq l.length)(h1:∀i,T s.1 i→Pi i)(h2:∀i,T s.2 i→fQ i) :
  ∀k,(dO k (fun _=>fw l) s).gq l.length∧(∀i,T (dO k (fun _=>fw l) s).1 i→Pi i)∧(∀i,T (dO k (fun _=>fw l) s).2 i→fQ i)
 | 0=>⟨hl,h1,h2⟩
 | k+1=>by
  obtain ⟨g,g1,g2⟩:=M8 Pi fQ vl s hl h1 h2 k
  exact⟨M6 l g,Vl l Pi fQ vl g g1 g2⟩
theorem agj(s:FS):∀k,FS.le s (dO k (fun _=>fw l) s):=Al (fun _ s=>F6 l s) s
theorem M9(n i:Nat):¬T (fP n) i:=by
 unfold T J fP
 rw [List.getD_eq_getElem?_getD,List.getElem?_replicate]
 split <;> simp [ad.zero]
theorem Vn(id:Int):(dP l id).length=l.length:=by
 unfold dP
 split
 ·simp [fP]
 ·exact(M8 l (fun _=>True) (fun _=>True) (fun _ _ _ _ _ _ _=>⟨trivial,trivial⟩) _ ⟨by simp [fP],by simp [fP]⟩ (fun _ _=>trivial) (fun _ _=>trivial) _).1.1
theorem xE(ag:ig l)(id:Int){x:Nat}(hx:x<l.length):T (dP l id) x↔dQ l id (J I l x).1:=by
 unfold dP
 cases ha:ba l id with
 | none =>
  constructor
  ·intro h;exact absurd h (M9 _ _)
  ·intro h
   have:∀b,dQ l id b→False:=by
    intro b hb
    induction hb with
    | single h=>obtain ⟨i,d,h1,_⟩:=h;rw [ha] at h1;cases h1
    | tail _ _ ih=>exact ih
   exact(this _ h).elim
 | some a =>
  obtain ⟨dV,agk⟩:=bZ ha
  have gD:FS.gq l.length (fP l.length,(fP l.length).set a true):=⟨by simp [fP],by simp [fP]⟩
  have ho:T ((fP l.length).set a true) a:=(vk (by simp [fP];exact dV)).2 (.inl rfl)
  constructor
  ·intro h
   refine(M8 l (fun y=>dQ l id (J I l y).1) (fun y=>(J I l y).1=id∨dQ l id (J I l y).1) ?_ _ gD (fun i h=>absurd h (M9 _ _)) ?_ l.length).2.1 x h
   ·intro i hi xF d h6 y aN
    obtain ⟨hyl,xG⟩:=bZ aN
    have he:E l (J I l i).1 (J I l y).1:=⟨i,d,ag i hi,h6,xG.symm⟩
    rcases xF with xF | xF
    ·rw [xF] at he;exact⟨.single he,.inr (.single he)⟩
    ·exact⟨xF.tail he,.inr (xF.tail he)⟩
   ·intro i hi
    rcases (vk (by simp [fP];exact dV)).1 hi with rfl | hi
    ·exact .inl agk
    ·exact absurd hi (M9 _ _)
  ·intro h
   obtain ⟨hlen,agl⟩:=rounds l _ gD (agi ho) l.length
   have hc:F7 l (dO l.length (fun _=>fw l) (fP l.length,(fP l.length).set a true)):=by
    rcases agl with h | h
    ·exact h
    ·have:=agh (dO l.length (fun _=>fw l) (fP l.length,(fP l.length).set a true)).2
     rw [hlen.2] at this
     omega
   show T (dO l.length (fun _=>fw l) (fP l.length,(fP l.length).set a true)).1 x
   have agm:=(agj l (fP l.length,(fP l.length).set a true) l.length).2 a ho
   generalize dO l.length (fun _=>fw l) (fP l.length,(fP l.length).set a true)=F at *
   have key:∀b,dQ l id b→∀y,ba l b=some y→T F.1 y∧T F.2 y:=by
    intro b hb
    induction hb with
    | single h =>
     obtain ⟨i,d,h1,h2,h3⟩:=h
     intro y aN
     rw [ha] at h1
     obtain rfl:=aS h1
     exact hc _ dV agm d h2 y (by rw [h3];exact aN)
    | tail _ h ih =>
     obtain ⟨i,d,h1,h2,h3⟩:=h
     intro y aN
     exact hc i (bZ h1).1 (ih i h1).2 d h2 y (by rw [h3];exact aN)
   exact(key _ h x (ag x hx)).1
end
section
variable(l:List aJ)
def gE(q:Int):List ax.D :=
 match ba l q with
 | none=>[]
 | some i=>ak (J I l i)
theorem M_{a b:Int} : E l a b↔∃d,d∈gE l a∧d.2.1=b:=by
 unfold E gE
 constructor
 ·rintro ⟨i,d,h1,h2,h3⟩;rw [h1];exact⟨d,h2,h3⟩
 ·rintro ⟨d,h1,h2⟩
  cases hi:ba l a with
  | none=>rw [hi] at h1;simp at h1
  | some i=>rw [hi] at h1;exact⟨i,d,rfl,h1,h2⟩
def F8:List Int:=l.flatMap fun x=>(ak x).map fun d=>d.2.1
theorem agn:(F8 l).length=dv l:=by
 unfold F8 dv
 rw [List.length_flatMap]
 congr 1
 simp
theorem ago{q:Int}{d:ax.D}(h:d∈gE l q):d.2.1∈F8 l:=by
 unfold gE at h
 cases hi:ba l q with
 | none=>rw [hi] at h;simp at h
 | some i =>
  rw [hi] at h
  exact List.mem_flatMap.2 ⟨_,cP (bZ hi).1,List.mem_map.2 ⟨d,h,rfl⟩⟩
theorem agp(q:Int):(gE l q).length≤dv l:=by
 unfold gE
 split
 ·simp
 ·rename_i i hi;exact fO (bZ hi).1
def pV(out:List Int)(d:ax.D):List Int:=if d.2.1∈out then out else out++[d.2.1]
structure pW(id:Int)(out:List Int):Prop where
 jP:out.Nodup
 sub:out⊆F8 l
 Am:∀b,b∈out→dQ l id b
theorem pW.len{id:Int}{out:List Int}(h:pW l id out):out.length≤dv l:=by
 rw [← agn];exact h.jP.length_le_of_subset h.sub
theorem Vo{id q:Int}{out:List Int}{d:ax.D}(h:pW l id out)(hq:q=id∨dQ l id q)(ag:d∈gE l q):pW l id (pV out d):=by
 unfold pV
 split
 ·exact h
 ·rename_i hn
  have he:E l q d.2.1:=(M_ l).2 ⟨d,ag,rfl⟩
  refine⟨?_,?_,?_⟩
  ·rw [List.nodup_append]
   refine⟨h.jP,by simp,?_⟩
   intro a ha b hb
   rw [List.mem_singleton] at hb
   subst hb
   rintro rfl
   exact hn ha
  ·intro a ha
   rcases List.mem_append.1 ha with ha | ha
   ·exact h.sub ha
   ·rw [List.mem_singleton] at ha;rw [ha];exact ago l ag
  ·intro b hb
   rcases List.mem_append.1 hb with hb | hb
   ·exact h.Am b hb
   ·rw [List.mem_singleton] at hb
    rw [hb]
    rcases hq with rfl | hq
    ·exact .single he
    ·exact hq.tail he
theorem Vp(out:List Int)(d:ax.D):∃t,pV out d=out++t:=by
 unfold pV;split
 ·exact⟨[],by simp⟩
 ·exact⟨_,rfl⟩
theorem agq(out:List Int)(d:ax.D):d.2.1∈pV out d:=by
 unfold pV;split
 ·assumption
 ·simp
def addN(q:Int)(out:List Int):List Int:=dO (gE l q).length (fun j o=>pV o (J ax (gE l q) j)) out
theorem agr{id q:Int}{out:List Int}(h:pW l id out)(hq:q=id∨dQ l id q):pW l id (addN l q out)∧(∃t,addN l q out=out++t)∧∀d,d∈gE l q→d.2.1∈addN l q out:=by
 have key:=sJ (n:=(gE l q).length) (f:=fun j o=>pV o (J ax (gE l q) j)) (fun j o=>pW l id o∧(∃t,o=out++t)∧∀k,k<j→(J ax (gE l q) k).2.1∈o) (fun j o hj ho=>by
  obtain ⟨h1,⟨t,ht⟩,h3⟩:=ho
  refine⟨Vo l h1 hq (cP hj),?_,?_⟩
  ·obtain ⟨dm,sL⟩:=Vp o (J ax (gE l q) j)
   exact⟨t++dm,by rw [sL,ht,List.append_assoc]⟩
  ·intro k hk
   by_cases pX:k=j
   ·subst pX;exact agq _ _
   ·obtain ⟨dm,sL⟩:=Vp o (J ax (gE l q) j)
    rw [sL]
    exact List.mem_append.2 (.inl (h3 k (by omega)))) ⟨h,⟨[],by simp⟩,fun k hk=>by omega⟩
 obtain ⟨k1,k2,k3⟩:=key
 refine⟨k1,k2,fun d ag=>?_⟩
 obtain ⟨i,hi,he⟩:=fx ag
 rw [← he];exact k3 i hi
end
structure Found(l:List aJ)(id:Int)(out:List Int):Prop where
 jP:out.Nodup
 iff:∀b,b∈out↔dQ l id b
 len:out.length≤dv l
theorem Vq{l:List aJ}{id:Int}{out:List Int}(h:pW l id out)(hc:∀q,q=id∨q∈out→∀d,d∈gE l q→d.2.1∈out):Found l id out:=by
 refine⟨h.jP,fun b=>⟨h.Am b,fun hb=>?_⟩,h.len⟩
 induction hb with
 | single he=>obtain ⟨d,h1,rfl⟩:=(M_ l).1 he;exact hc id (.inl rfl) d h1
 | tail _ he ih=>obtain ⟨d,h1,rfl⟩:=(M_ l).1 he;exact hc _ (.inr ih) d h1
theorem ags(v:af.D)(hl:v.2.1.length≤1048576)(hn:dv v.2.1≤1048576)(id:Int):∀(r i:Nat) (out:List Int),i+r=dv v.2.1+1→pW v.2.1 id out→i≤out.length+1 →
  (∀k,k<i→∀d,d∈gE v.2.1 (J (.int .i64) (id :: out) k)→d.2.1∈out) →
  ∃An,Found v.2.1 id An∧bV (fun m=>(mL m).bb v (i:Int) out (id :: out)) (1+r*1048580) (some (An,())):=by
 intro r
 induction r with
 | zero =>
  intro i out hi ho agt hc
  have:=ho.len
  have e':i=out.length+1:=by omega
  refine⟨out,Vq ho fun q hq d ag=>?_,(bV.done fun m=>?_).mono (by omega)⟩
  ·rcases hq with rfl | hq
   ·exact hc 0 (by omega) d ag
   ·obtain ⟨k,hk,he⟩:=fx (t:=.int .i64) hq
    exact hc (k+1) (by omega) d (by rw [show J (.int .i64) (id :: out) (k+1)=J (.int .i64) out k from rfl,he];exact ag)
  ·show qV (mL m) _ _ _ _=_
   unfold qV
   rw [show(id :: out).length=i by rw [List.length_cons,e'],cT (Nat.le_refl _)];rfl
 | succ r ih =>
  intro i out hi ho agt hc
  by_cases cA:i<out.length+1
  case neg =>
   have e':i=out.length+1:=by omega
   refine⟨out,Vq ho fun q hq d ag=>?_,(bV.done fun m=>?_).mono (by omega)⟩
   ·rcases hq with rfl | hq
    ·exact hc 0 (by omega) d ag
    ·obtain ⟨k,hk,he⟩:=fx (t:=.int .i64) hq
     exact hc (k+1) (by omega) d (by rw [show J (.int .i64) (id :: out) (k+1)=J (.int .i64) out k from rfl,he];exact ag)
   ·show qV (mL m) _ _ _ _=_
    unfold qV
    rw [show(id :: out).length=i by rw [List.length_cons,e'],cT (Nat.le_refl _)];rfl
  generalize hq:J (.int .i64) (id :: out) i=q at *
  have Vr:q=id∨dQ v.2.1 id q:=by
   cases i with
   | zero=>left;rw [← hq];rfl
   | succ k =>
    right
    refine ho.Am q ?_
    rw [← hq]
    exact cP (t:=.int .i64) (xs:=out) (by omega)
  obtain ⟨k1,⟨t,ht⟩,k3⟩:=agr v.2.1 ho Vr
  have hpre:∀k,k<out.length+1→J (.int .i64) (id ::(out++t)) k=J (.int .i64) (id :: out) k:=by
   intro k hk
   unfold J
   rw [List.getD_eq_getElem?_getD,List.getD_eq_getElem?_getD,← List.cons_append,List.getElem?_append_left (by simpa using hk)]
  obtain ⟨An,f1,f2⟩:=ih (i+1) (addN v.2.1 q out) (by omega) k1 (by rw [ht];simp;omega) (fun k hk d ag=>by
   by_cases gL:k=i
   ·subst gL
    rw [ht,hpre k cA,hq] at ag
    exact k3 d ag
   ·rw [ht,hpre k (by omega)] at ag
    rw [ht]
    exact List.mem_append.2 (.inl (hc k (by omega) d ag)))
  refine⟨An,f1,?_⟩
  have hol:=ho.len
  have o1:i<4000000000000000000:=by omega
  cases hx:ba v.2.1 q with
  | none =>
   have jQ:gE v.2.1 q=[]:=by unfold gE;rw [hx]
   have F9:addN v.2.1 q out=out:=by unfold addN;rw [jQ];rfl
   rw [F9] at f2
   refine(f2.step (f:=fun m=>(mL m).bb v (i:Int) out (id :: out)) fun m=>?_).mono (by omega)
   show qV (mL m) _ _ _ _=_
   unfold qV
   rw [cq (by simpa using cA),bC (by simpa using cA)]
   simp only [cond_true,av,Nat.zero_add]
   rw [hq,xC v q hl]
   simp only [av]
   rw [hx,dg i o1];rfl
  | some x =>
   have jQ:gE v.2.1 q=ak (J I v.2.1 x):=by unfold gE;rw [hx]
   have hnl:=agp v.2.1 q
   have inner:=sK (gE v.2.1 q).length 1 (fun m j (o:List Int)=>(mL m).fB v (i:Int) (gE v.2.1 q) ((gE v.2.1 q).length:Int) (j:Int) o (id :: o)) (fun j o=>pV o (J ax (gE v.2.1 q) j)) (fun j o=>pW v.2.1 id o) (fun j o hj ho=>Vo v.2.1 ho Vr (cP hj)) (fun j o hj ho B y he=>by
    refine he.step fun m=>?_
    have hol:=ho.len
    show zK (mL m) _ _ _ _ _ _ _=_
    unfold zK
    rw [cq hj,bC hj]
    simp only [cond_true,av]
    rw [contains_eq _ _ (by omega)]
    simp only [av]
    rw [dg j (by omega)]
    unfold pV
    by_cases hm:(J ax (gE v.2.1 q) j).2.1∈o
    ·rw [decide_eq_true hm,if_pos hm];rfl
    ·rw [decide_eq_false hm,if_neg hm,cH (by simp;omega),cH (by simp;omega)];rfl) out ho (1+r*1048580+1) (some (An,())) (by
    refine f2.step fun m=>?_
    show zK (mL m) _ _ _ _ _ _ _=_
    unfold zK
    rw [cT (Nat.le_refl _)]
    simp only [cond_false]
    rw [dg i o1];rfl)
   refine(inner.step (f:=fun m=>(mL m).bb v (i:Int) out (id :: out)) fun m=>?_).mono (by omega)
   show qV (mL m) _ _ _ _=_
   unfold qV
   rw [cq (by simpa using cA),bC (by simpa using cA)]
   simp only [cond_true,av,Nat.zero_add]
   rw [hq,xC v q hl]
   simp only [av]
   rw [hx,jQ];rfl
theorem M'(v:af.D)(hl:v.2.1.length≤1048576)(hn:dv v.2.1≤1048576)(id:Int):∃out,Found v.2.1 id out∧uU (v,id,())=some (out,()):=by
 obtain ⟨out,h1,h2⟩:=ags v hl hn id (dv v.2.1+1) 0 [] (by omega) ⟨by simp,by simp,by simp⟩ (by simp) (fun k hk=>by omega)
 refine⟨out,h1,?_⟩
 show El (mL aQ) v id=_
 unfold El
 have hm:(dv v.2.1+1)*1048580≤1048577*1048580:=Nat.mul_le_mul_right _ (by omega)
 exact kI h2 (by omega)
theorem Ao{β : Type}(n W:Nat)(F:Nat→Nat → β)(P:Nat→Bool)(no E : β)(B:Nat)
  (hs:∀i,i<n→(∀j,j<i→P j=true)→P i=true→∀B y,bV (fun m=>F m (i+1)) B y→bV (fun m=>F m i) (B+W) y)
  (hx:∀i,i<n→(∀j,j<i→P j=true)→P i=false→bV (fun m=>F m i) W no)
  (lX:(∀j,j<n→P j=true)→bV (fun m=>F m n) B E):bV (fun m=>F m 0) (B+n*W) (cond (ft n P) E no):=by
 have key:∀r i,i+r=n→(∀j,j<i→P j=true)→bV (fun m=>F m i) (B+r*W) (cond (ft n P) E no):=by
  intro r
  induction r with
  | zero =>
   intro i hi au
   have:i=n:=by omega
   subst this
   rw [lf.2 au]
   simpa using lX au
  | succ r ih =>
   intro i hi au
   cases F_:P i
   ·have:ft n P=false:=by
     rw [← Bool.not_eq_true]
     intro h
     have:=lf.1 h i (by omega)
     rw [F_] at this;cases this
    rw [this]
    refine(hx i (by omega) au F_).mono ?_
    rw [Nat.add_one_mul];omega
   ·have:=hs i (by omega) au F_ _ _ (ih (i+1) (by omega) fun j hj=>by
     by_cases h:j=i
     ·subst h;exact F_
     ·exact au j (by omega))
    rw [Nat.add_one_mul,← Nat.add_assoc]
    exact this
 exact key n 0 (by omega) (by intro j hj;omega)
def eP(x:aJ):Int:=x.2.2.2.2.2.2.2.1
def eD(x:aJ):Int:=x.2.2.2.2.2.2.2.2.1
def plain(x:aJ):Bool:=((ak x).length:Int)==0&&eP x==0&&eD x==0
def o2(l:List aJ)(N:List ax.D)(j:Nat):Bool :=
 ie (J ax N j).1 && !(decide (0<j) && !dx (J ax N (j-1)).1 (J ax N j).1) && !((J ax N j).2.1==1)&&(ba l (J ax N j).2.1).isSome
def sM(l:List aJ)(x:aJ):Bool:=ft (ak x).length (o2 l (ak x))&&decide (((ak x).length:Int)≤12)
def nX(l:List aJ)(x:aJ):Bool :=
 c2 x.2.2.1 0 2047&&c2 x.2.2.2.1 0 1000&&c2 x.2.2.2.2.1 0 1000 &&
  cond (x.2.1==1) (plain x&&decide (((bA x).length:Int)≤64))
   (cond (x.2.1==3) (plain x&&jt (bA x)&&x.2.2.1==511)
    (cond (x.2.1==2) (bs (bA x) []&&c2 (eP x) 0 400&&c2 (eD x) 0 24&&sM l x) false))
theorem agu(v:af.D)(x:aJ)(hl:v.2.1.length≤1048576)(hn:(ak x).length≤1048576)(hs:∀d,d∈ak x→d.1.length≤1048576):KO (v,x,())=some (sM v.2.1 x,()):=by
 show Ed (uR aQ) v x=_
 unfold Ed sM
 refine sG (ak x).length (by omega) (o2 v.2.1 (ak x)) _ (fun m i=>uR m v (ak x) ((ak x).length:Int) i x) ?_ ?_
 ·intro m _
  simp only [uR,Ee]
  rw [cT (Nat.le_refl _)];rfl
 ·intro m i hi _ hw
  simp only [uR,Ee,hw]
  rw [cq hi,bC hi]
  simp only [cond_true,av]
  rw [af' _ (by have:=hs _ (cP hi);omega)]
  simp only [av]
  rw [xC v _ hl]
  simp only [av]
  unfold o2
  cases i with
  | zero =>
   simp only [MV,Nat.lt_irrefl,decide_false,cond_false,Bool.false_and,Bool.not_false,Bool.and_true]
   cases ie (J ax (ak x) 0).1 <;> cases (J ax (ak x) 0).2.1==1 <;> cases (ba v.2.1 (J ax (ak x) 0).2.1) <;> rfl
  | succ i =>
   rw [show(List.length x.2.2.2.2.2.2.1)=(ak x).length from rfl,MU hi (by omega)]
   simp only [MW,Nat.zero_lt_succ,decide_true,cond_true,av,Nat.add_sub_cancel,Bool.true_and]
   rw [show(J ax x.2.2.2.2.2.2.1 i)=J ax (ak x) i from rfl]
   cases ie (J ax (ak x) (i+1)).1 <;> cases (J ax (ak x) (i+1)).2.1==1 <;> cases (ba v.2.1 (J ax (ak x) (i+1)).2.1) <;> cases dx (J ax (ak x) i).1 (J ax (ak x) (i+1)).1 <;> rfl
theorem agv(v:af.D)(x:aJ)(hl:v.2.1.length≤1048576)(hn:(ak x).length≤1048576)(q:Nat)(hq:(ak x).length<q):(qU q).mH 0 v x=some (ft (ak x).length (o2 v.2.1 (ak x)),()):=by
 have:=sG (ak x).length (by omega) (o2 v.2.1 (ak x)) true (fun m i=>(qU m).mH i v x) (by
  intro m _
  show zH (qU m) _ _ _=_
  unfold zH
  show cond (decide (((ak x).length:Int)<((ak x).length:Int))) _ _=_
  rw [cT (Nat.le_refl _)];rfl) (by
  intro m i hi _ hw
  show zH (qU m) _ _ _=_
  unfold zH
  show cond (decide ((i:Int)<((ak x).length:Int))) ((aO (ak x).length (i:Int)).bind _) _=_
  rw [cq hi,bC hi]
  simp only [cond_true,av,hw]
  rw [af_]
  simp only [av]
  rw [l2 v _ hl]
  simp only [av,Aj]
  unfold o2
  rw [show(x.2.2.2.2.2.2.1)=ak x from rfl]
  cases i with
  | zero =>
   simp only [MV,Nat.lt_irrefl,decide_false,cond_false,Bool.false_and,Bool.not_false,Bool.and_true]
   cases ie (J ax (ak x) 0).1 <;> cases (J ax (ak x) 0).2.1==1 <;> cases (ba v.2.1 (J ax (ak x) 0).2.1) <;> rfl
  | succ i =>
   rw [MU hi (by omega)]
   simp only [MW,Nat.zero_lt_succ,decide_true,cond_true,av,Nat.add_sub_cancel,Bool.true_and]
   cases ie (J ax (ak x) (i+1)).1 <;> cases (J ax (ak x) (i+1)).2.1==1 <;> cases (ba v.2.1 (J ax (ak x) (i+1)).2.1) <;> cases dx (J ax (ak x) i).1 (J ax (ak x) (i+1)).1 <;> rfl) q hq
 rw [Bool.and_true] at this
 exact this
theorem Vs(v:af.D)(x:aJ)(hl:v.2.1.length≤1048576)(hn:(ak x).length≤1048576):DY (v,x,())=some (nX v.2.1 x,()):=by
 obtain ⟨q,hq,h7⟩:=iI 1
 show DX (qU aQ) v x=_
 rw [hq]
 unfold DX
 have hk:∀b,(qU (q+1)).bb b v x=KL (qU q) b v x:=fun _=>rfl
 simp only [hk]
 unfold KL
 rw [agv v x hl hn q (by omega),Vc]
 simp only [jr,av,mR]
 congr 2
 unfold nX sM plain eP eD bA
 rw [show(x.2.2.2.2.2.2.1)=ak x from rfl]
 generalize ft (ak x).length (o2 v.2.1 (ak x))=A
 generalize jt x.2.2.2.2.2.1=agw
 generalize bs x.2.2.2.2.2.1 []=agx
 generalize x.2.2.2.2.2.1.length=agy
 generalize (ak x).length=agz
 generalize x.2.2.2.2.2.2.2.1=agA
 generalize x.2.2.2.2.2.2.2.2.1=agB
 simp only [c2]
 rw [Bool.eq_iff_iff]
 simp only [Bool.cond_eq_ite,Bool.ite_eq_true_distrib,Bool.and_eq_true,Bool.or_eq_true,Bool.not_eq_true',decide_eq_true_eq,beq_iff_eq,decide_eq_false_iff_not]
 grind (splits:=60)
theorem Vt(v:af.D)(x:aJ)(hl:v.2.1.length≤1048576)(hn:(ak x).length≤1048576)(hs:∀d,d∈ak x→d.1.length≤1048576)(ag:(bA x).length≤1048576):Eh (v,x,())=some (nX v.2.1 x,()):=by
 obtain ⟨q,hq,h7⟩:=iI 1
 show Eg (zJ aQ) v x=_
 rw [hq]
 unfold Eg
 simp only [zJ,KP]
 rw [agu v x hl hn hs,MY _ (by unfold bA at ag;omega)]
 simp only [js,av,mR]
 congr 2
 unfold nX sM plain eP eD bA
 rw [show(x.2.2.2.2.2.2.1)=ak x from rfl]
 generalize ft (ak x).length (o2 v.2.1 (ak x))=A
 generalize jt x.2.2.2.2.2.1=agw
 generalize bs x.2.2.2.2.2.1 []=agx
 generalize x.2.2.2.2.2.1.length=agy
 generalize (ak x).length=agz
 generalize x.2.2.2.2.2.2.2.1=agA
 generalize x.2.2.2.2.2.2.2.2.1=agB
 simp only [c2]
 rw [Bool.eq_iff_iff]
 simp only [Bool.cond_eq_ite,Bool.ite_eq_true_distrib,Bool.and_eq_true,Bool.or_eq_true,Bool.not_eq_true',decide_eq_true_eq,beq_iff_eq,bne_iff_ne,decide_eq_false_iff_not]
 grind (splits:=60)
section
variable(l:List aJ)
def o3(F:Flags):List Nat:=(List.range l.length).filter fun i=>J .bool F i
def dl(i:Nat):Nat:=(bA (J I l i)).length
def jv(F:Flags):Nat:=((o3 l F).map (dl l)).sum
def jR(F:Flags):Nat:=(o3 l F).length
def pre(F:Flags)(i:Nat):List Nat:=(List.range i).filter fun i=>J .bool F i
theorem Na(F:Flags)(i:Nat):pre F (i+1)=pre F i++cond (J .bool F i) [i] []:=by
 unfold pre
 rw [List.range_succ,List.filter_append]
 cases h:J .bool F i <;> simp [List.filter_cons,h]
theorem Vu(F:Flags){i:Nat}(hi:i≤l.length):((pre F i).map (dl l)).sum≤bytesOf (l.take i)∧(pre F i).length≤i:=by
 induction i with
 | zero=>simp [pre]
 | succ i ih =>
  obtain ⟨h1,h2⟩:=ih (by omega)
  rw [Na,xD (by omega)]
  cases J .bool F i
  ·simp only [cond_false,List.append_nil];omega
  ·simp only [cond_true,List.map_append,List.sum_append_nat,List.length_append,List.map_cons,List.map_nil,List.sum_cons,List.sum_nil,List.length_cons,List.length_nil]
   have:dl l i=(bA (J I l i)).length:=rfl
   omega
end
theorem Vv(v:af.D)(id:Int)(hl:v.2.1.length≤1048576)(hn:dv v.2.1≤1048576)(hb:bytesOf v.2.1≤1048576) :
  zk (v,id,())=some ((jv v.2.1 (dP v.2.1 id):Int),(jR v.2.1 (dP v.2.1 id):Int),()):=by
 show Di (uw aQ) v id=_
 unfold Di
 rw [Vg v id hl hn]
 simp only [av]
 have hF:=Vn v.2.1 id
 generalize dP v.2.1 id=F at *
 have:=mQ v.2.1.length (by omega) (fun m i=>uw m (((pre F i.toNat).map (dl v.2.1)).sum:Nat) ((pre F i.toNat).length:Nat) i v F) (fun _=>some ((jv v.2.1 F:Int),(jR v.2.1 F:Int),())) (fun _=>True) (fun m _=>by
  simp only [uw,Dj]
  rw [hF,cT (Nat.le_refl _)];rfl) (fun m i hi _ hw ih=>by
  have ih:=ih trivial
  simp only [uw,Dj,hw]
  rw [hF,cq hi,bC hi]
  simp only [cond_true,av,Int.toNat_natCast,Nat.zero_add]
  rw [show((i:Int)+1).toNat=i+1 by omega,Na] at ih
  have h1:=Vu v.2.1 F (i:=i) (by omega)
  have h3:=Vu v.2.1 F (i:=i+1) (by omega)
  have h2:=FY v.2.1 (i+1)
  rw [Na] at h3
  cases hf:J .bool F i
  ·rw [hf] at ih
   simp only [cond_false,List.append_nil] at ih ⊢
   exact ih
  ·rw [hf] at ih h3
   simp only [cond_true,List.map_append,List.sum_append_nat,List.length_append,List.map_cons,List.map_nil,List.sum_cons,List.sum_nil,List.length_cons,List.length_nil,Nat.add_zero,Nat.zero_add] at ih h3 ⊢
   rw [show((J I v.2.1 i).2.2.2.2.2.1).length=dl v.2.1 i from rfl,dg _ (by omega),eh (by omega) (by omega),← Int.natCast_add]
   exact ih) v.2.1.length 0 aQ (by omega) (jq (by omega)) trivial
 simpa [pre] using this
def nY(l:List aJ)(b:Int):Nat :=
 match ba l b with
 | none=>0
 | some i=>dl l i
theorem Vw{l:List aJ}(b:Int):nY l b≤bytesOf l:=by
 unfold nY
 split
 ·omega
 ·rename_i i hi
  have h1:=xD (bZ hi).1
  have h2:=FY l (i+1)
  unfold dl
  omega
theorem Nb(v:af.D)(id:Int)(hl:v.2.1.length≤1048576)(hn:dv v.2.1≤1048576)(hb:bytesOf v.2.1≤1048576) :
  ∃out,Found v.2.1 id out∧xk (v,id,())=some ((((out.map (nY v.2.1)).sum:Nat):Int),(out.length:Int),()):=by
 obtain ⟨out,hf,he⟩:=M' v hl hn id
 refine⟨out,hf,?_⟩
 show Es (qW aQ) v id=_
 unfold Es
 rw [he]
 simp only [av]
 have hol:=hf.len
 have hb2:∀i,i≤out.length→((out.take i).map (nY v.2.1)).sum≤i*1048576:=by
  intro i
  induction i with
  | zero=>intro _;simp
  | succ i ih =>
   intro hi
   rw [List.take_succ_eq_append_getElem (by omega),List.map_append,List.sum_append_nat]
   have:=ih (by omega)
   have:=Vw (l:=v.2.1) out[i]
   simp only [List.map_cons,List.map_nil,List.sum_cons,List.sum_nil]
   omega
 have:=mQ out.length (by omega) (fun m i=>qW m v (((out.take i.toNat).map (nY v.2.1)).sum:Nat) (out.length:Int) i out) (fun _=>some ((((out.map (nY v.2.1)).sum:Nat):Int),(out.length:Int),())) (fun _=>True) (fun m _=>by
  simp only [qW,Et]
  rw [cT (Nat.le_refl _)]
  simp only [Int.toNat_natCast,List.take_length,cond_false]) (fun m i hi _ hw ih=>by
  have ih:=ih trivial
  simp only [qW,Et,hw]
  rw [cq hi,bC hi]
  simp only [cond_true,av,Int.toNat_natCast,Nat.zero_add]
  rw [xC v _ hl]
  simp only [av]
  rw [show((i:Int)+1).toNat=i+1 by omega,List.take_succ_eq_append_getElem hi,List.map_append,List.sum_append_nat] at ih
  simp only [List.map_cons,List.map_nil,List.sum_cons,List.sum_nil,Nat.add_zero] at ih
  have aB:J (.int .i64) out i=out[i]:=c7 (t:=.int .i64) hi
  rw [aB]
  have h2:=hb2 i (by omega)
  have h3:=Vw (l:=v.2.1) out[i]
  have h4:i*1048576≤1048576*1048576:=Nat.mul_le_mul_right _ (by omega)
  unfold nY at ih h3
  cases hx:ba v.2.1 out[i] with
  | none =>
   rw [hx] at ih
   exact ih
  | some x =>
   rw [hx] at ih h3
   show qW m v (aK (_ +(((J I v.2.1 x).2.2.2.2.2.1).length:Int))) _ _ _=_
   have h3:dl v.2.1 x≤bytesOf v.2.1:=h3
   have ih:qW m v ((List.map (nY v.2.1) (out.take i)).sum+dl v.2.1 x:Nat) (out.length:Int) ((i:Int)+1) out=_:=ih
   rw [show((J I v.2.1 x).2.2.2.2.2.1).length=dl v.2.1 x from rfl,eh (by omega) (by omega),← Int.natCast_add]
   exact ih) out.length 0 aQ (by omega) (jq (by omega)) trivial
 simpa using this
theorem Nc{l:List aJ}(ag:ig l)(hx:q9 l){id:Int}{out:List Int}(h:Found l id out):(out.map (nY l)).sum=jv l (dP l id)∧out.length=jR l (dP l id):=by
 have gZ:((o3 l (dP l id)).map fun i=>(J I l i).1).Nodup:=by
  have h0:(o3 l (dP l id)).Nodup:=(List.nodup_range).filter _
  unfold List.Nodup at h0 ⊢
  rw [List.pairwise_map]
  refine h0.imp_of_mem fun {a b} ha hb lN he=>lN ?_
  have ha:=(List.mem_filter.1 ha).1
  have hb:=(List.mem_filter.1 hb).1
  have h1:=ag a (by simpa using ha)
  have h2:=ag b (by simpa using hb)
  rw [he,h2] at h1
  exact(aS h1).symm
 have au:out.Perm ((o3 l (dP l id)).map fun i=>(J I l i).1):=by
  rw [List.perm_ext_iff_of_nodup h.jP gZ]
  intro b
  rw [h.iff]
  constructor
  ·intro hb
   have hex:∃i,ba l b=some i:=by
    cases hb with
    | single he=>obtain ⟨i,d,h1,h2,rfl⟩:=he;exact Option.isSome_iff_exists.1 (hx i (bZ h1).1 d h2)
    | tail _ he=>obtain ⟨i,d,h1,h2,rfl⟩:=he;exact Option.isSome_iff_exists.1 (hx i (bZ h1).1 d h2)
   obtain ⟨i,hi⟩:=hex
   obtain ⟨h1,h2⟩:=bZ hi
   refine List.mem_map.2 ⟨i,List.mem_filter.2 ⟨by simpa using h1,?_⟩,h2⟩
   exact(xE l ag id h1).2 (by rw [h2];exact hb)
  ·intro hb
   obtain ⟨i,hi,rfl⟩:=List.mem_map.1 hb
   obtain ⟨h1,h2⟩:=List.mem_filter.1 hi
   exact(xE l ag id (by simpa using h1)).1 h2
 refine⟨?_,by rw [au.length_eq,List.length_map];rfl⟩
 rw [(au.map (nY l)).sum_nat,List.map_map]
 unfold jv
 congr 1
 refine List.map_congr_left fun i hi=>?_
 have h1:=(List.mem_filter.1 hi).1
 show nY l (J I l i).1=dl l i
 unfold nY
 rw [ag i (by simpa using h1)]
def ij(l:List aJ)(x:aJ):Bool :=
 (decide (eP x>0)&&decide ((jv l (dP l x.1):Int)>eP x))||(decide (eD x>0)&&decide ((jR l (dP l x.1):Int)>eD x))
def gr(l:List aJ):Bool:=cond (ft l.length fun i => !ij l (J I l i)) false true
theorem agC(v:af.D)(x:aJ)(hl:v.2.1.length≤1048576)(hn:dv v.2.1≤1048576)(hb:bytesOf v.2.1≤1048576)(ag:ig v.2.1)(hx:q9 v.2.1):KT (v,x,())=some (ij v.2.1 x,()):=by
 show KS v x=_
 unfold KS
 obtain ⟨out,hf,he⟩:=Nb v x.1 hl hn hb
 rw [he]
 obtain ⟨h1,h2⟩:=Nc ag hx hf
 rw [h1,h2]
 simp only [av,mR]
 congr 2
 unfold ij eP eD
 generalize (jv v.2.1 (dP v.2.1 x.1):Int)=B
 generalize (jR v.2.1 (dP v.2.1 x.1):Int)=N
 rw [Bool.eq_iff_iff]
 simp only [Bool.cond_eq_ite,Bool.ite_eq_true_distrib,Bool.and_eq_true,Bool.or_eq_true,decide_eq_true_eq]
 grind
theorem Vx(v:af.D)(hl:v.2.1.length≤1048576)(hn:dv v.2.1≤1048576)(hb:bytesOf v.2.1≤1048576)(ag:ig v.2.1)(hx:q9 v.2.1):zN (v.2.1,v,())=some (gr v.2.1,()):=by
 show KV v.2.1 v=_
 unfold KV
 have h:KU (v.2.1,v,())=some (hg (fh v.2.1.length fun i=>ij v.2.1 (J I v.2.1 i)),()):=by
  show Ev (uX aQ) v.2.1 v=_
  unfold Ev
  refine sH v.2.1.length (by omega) _ (fun o=>some (hg o,())) (fun m i=>uX m v.2.1 v (v.2.1.length:Int) i) ?_ ?_
  ·intro m
   simp only [uX,Ew]
   rw [cT (Nat.le_refl _)];rfl
  ·intro m i hi hw
   simp only [uX,Ew,hw]
   rw [cq hi,bC hi]
   simp only [cond_true,av]
   rw [agC v _ hl hn hb ag hx];rfl
 rw [h]
 simp only [av,Ak]
 congr 2
 unfold gr
 cases hf:fh v.2.1.length fun i=>ij v.2.1 (J I v.2.1 i) with
 | none =>
  rw [lf.2 (fun i hi=>by rw [l1.1 hf i hi];rfl)];rfl
 | some i =>
  obtain ⟨h1,h2,_⟩:=ic.1 hf
  have:ft v.2.1.length (fun i => !ij v.2.1 (J I v.2.1 i))=false:=by
   rw [← Bool.not_eq_true];intro h
   have:=lf.1 h i h1
   rw [h2] at this;cases this
  rw [this];rfl
theorem Vy(v:af.D)(hl:v.2.1.length≤1048576)(hn:dv v.2.1≤1048576)(hb:bytesOf v.2.1≤1048576)(hk:∀i,i<v.2.1.length→(J I v.2.1 i).2.1≠2→eP (J I v.2.1 i)=0∧eD (J I v.2.1 i)=0):Dl (v,())=some (gr v.2.1,()):=by
 show Dk (j9 aQ) v=_
 unfold Dk
 have h0:∀x:aJ,eP x=0→eD x=0→ij v.2.1 x=false:=by
  intro x h1 h2;unfold ij;rw [h1,h2];rfl
 have Vz:∀(m i:Nat),i<v.2.1.length→(j9 (m+1)).k2 (i:Int) v=cond ((J I v.2.1 i).2.1 != 2) ((j9 m).k2 ((i+1:Nat):Int) v) (cond (eP (J I v.2.1 i)==0) (cond (eD (J I v.2.1 i)==0) ((j9 m).k2 ((i+1:Nat):Int) v) ((j9 m).da (i:Int) v (J I v.2.1 i))) ((j9 m).da (i:Int) v (J I v.2.1 i))):=by
  intro m i hi
  show zl (j9 m) _ _=_
  unfold zl
  rw [cq hi,bC hi]
  simp only [cond_true,av]
  rw [dg i (by omega)];rfl
 have VA:∀(m i:Nat) (x:aJ),i<v.2.1.length→(j9 (m+1)).da (i:Int) v x=cond (ij v.2.1 x) (some (true,())) ((j9 m).k2 ((i+1:Nat):Int) v):=by
  intro m i x hi
  show J4 (j9 m) _ _ _=_
  unfold J4
  rw [Vv v _ hl hn hb]
  simp only [av]
  rw [dg i (by omega)]
  unfold ij eP eD
  generalize decide (x.2.2.2.2.2.2.2.1>0)=a
  generalize decide ((jv v.2.1 (dP v.2.1 x.1):Int)>x.2.2.2.2.2.2.2.1)=b
  generalize decide (x.2.2.2.2.2.2.2.2.1>0)=c
  generalize decide ((jR v.2.1 (dP v.2.1 x.1):Int)>x.2.2.2.2.2.2.2.2.1)=d
  cases a <;> cases b <;> cases c <;> cases d <;> rfl
 have key:=Ao v.2.1.length 2 (fun m i=>(j9 m).k2 (i:Int) v) (fun i => !ij v.2.1 (J I v.2.1 i)) (some (true,())) (some (false,())) 1 (fun i hi _ au B y he=>by
  have au:ij v.2.1 (J I v.2.1 i)=false:=by simpa using au
  have bg:bV (fun m=>(j9 m).da (i:Int) v (J I v.2.1 i)) (B+1) y:=he.step fun m=>by rw [VA m i _ hi,au];rfl
  intro m hm
  obtain ⟨m,rfl⟩:∃k,m=k+1:=⟨m-1,by omega⟩
  show(j9 (m+1)).k2 (i:Int) v=y
  rw [Vz m i hi]
  have e1:=he m (by omega)
  have e2:=bg m (by omega)
  simp only at e1 e2
  rw [e1,e2]
  cases (J I v.2.1 i).2.1 != 2 <;> cases eP (J I v.2.1 i)==0 <;> cases eD (J I v.2.1 i)==0 <;> rfl) (fun i hi _ au=>by
  have au:ij v.2.1 (J I v.2.1 i)=true:=by simpa using au
  intro m hm
  obtain ⟨m,rfl⟩:∃k,m=k+2:=⟨m-2,by omega⟩
  show(j9 (m+1+1)).k2 (i:Int) v=_
  rw [Vz (m+1) i hi,VA m i _ hi,au]
  have k1:((J I v.2.1 i).2.1 != 2)=false:=by
   rw [bne_eq_false_iff_eq]
   by_cases h:(J I v.2.1 i).2.1=2
   ·exact h
   ·obtain ⟨g1,g2⟩:=hk i hi h
    rw [h0 _ g1 g2] at au;cases au
  rw [k1]
  cases g1:eP (J I v.2.1 i)==0 <;> cases g2:eD (J I v.2.1 i)==0 <;> try rfl
  rw [h0 _ (by simpa using g1) (by simpa using g2)] at au;cases au) (fun _=>bV.done fun m=>by
  show zl (j9 m) _ _=_
  unfold zl
  rw [cT (Nat.le_refl _)];rfl)
 have:=kI key (by omega)
 rw [show(((0:Nat):Int))=0 from rfl] at this
 rw [this]
 unfold gr
 cases ft v.2.1.length fun i => !ij v.2.1 (J I v.2.1 i) <;> rfl
theorem Ah{α : Type}{f g : α → Nat} : ∀(l:List α),(∀x,x∈l→f x≤g x)→(l.map f).sum≤(l.map g).sum
 | [],_=>by simp
 | x :: l,h=>by
  simp only [List.map_cons,List.sum_cons]
  have:=Ah l fun y aN=>h y (List.mem_cons_of_mem _ aN)
  have:=h x List.mem_cons_self
  omega
theorem Ga{α : Type}{f : α → Nat} : ∀ {l:List α} {x : α},x∈l→f x≤(l.map f).sum
 | y :: l,x,h=>by
  simp only [List.map_cons,List.sum_cons]
  rcases List.mem_cons.1 h with rfl | h
  ·omega
  ·have:=Ga (f:=f) h;omega
theorem Gb(x:aJ):ad.cost I x=(bA x).length+ad.cost (.sl ax) (ak x):=by
 simp only [MO,MP,MQ,MR,U9,U_,Nat.zero_add,Nat.add_zero];rfl
theorem VB(d:ax.D):ad.cost ax d=d.1.length:=by
 simp only [MO,MP,MQ,MR,U9,U_,Nat.zero_add,Nat.add_zero]
def q_(x:aJ):Nat:=ad.cost I x
theorem Nd(v:af.D):ad.cost af v=v.2.1.length +(v.2.1.map q_).sum:=by
 have h:ad.cost af v=ad.cost (.sl I) v.2.1:=by simp only [MO,MP,MQ,MR,Nat.zero_add,Nat.add_zero]
 rw [h,U8]
 rfl
structure vm(v:af.D):Prop where
 len:v.2.1.length≤1048576
 cG:dv v.2.1≤1048576
 bytes:bytesOf v.2.1≤1048576
 each:∀x,x∈v.2.1→(ak x).length≤1048576∧(bA x).length≤1048576∧∀d,d∈ak x→d.1.length≤1048576
theorem agD{v:af.D}(h:ad.cost af v≤1048576):vm v:=by
 rw [Nd] at h
 refine⟨by omega,?_,?_,fun x hx=>?_⟩
 ·have:=Ah (f:=fun y:aJ=>(ak y).length) (g:=q_) v.2.1 fun x _=>by
   unfold q_;rw [Gb];have:=U7 (t:=ax) (ak x);omega
  unfold dv;omega
 ·have:=Ah (f:=fun y:aJ=>(bA y).length) (g:=q_) v.2.1 fun x _=>by
   unfold q_;rw [Gb];omega
  unfold bytesOf;omega
 ·have h1:=Ga (f:=q_) hx
  unfold q_ at h1
  rw [Gb] at h1
  have h:v.2.1.length +(v.2.1.map fun y=>ad.cost I y).sum≤1048576:=h
  have h1:(bA x).length+ad.cost (.sl ax) (ak x)≤(v.2.1.map fun y=>ad.cost I y).sum:=h1
  have h2:=U7 (t:=ax) (ak x)
  refine⟨by omega,by omega,fun d ag=>?_⟩
  obtain ⟨i,hi,he⟩:=fx ag
  have h3:=af7 (t:=ax) hi
  rw [he,VB] at h3
  omega
def mT(v:af.D)(i:Nat):Bool :=
 c2 (J I v.2.1 i).1 1 (aK (v.1-1)) && !(decide (0<i)&&decide ((J I v.2.1 (i-1)).1≥(J I v.2.1 i).1))&&nX v.2.1 (J I v.2.1 i)
def kb(l:List aJ)(i:Nat):Bool :=
 J .bool (dP l 1) (i+1) && !((J I l (i+1)).2.1==2&&((ca l (J I l (i+1)).1:Int) != 1))
def kc(v:af.D):Bool :=
 c2 v.1 2 100000&&c2 (v.2.1.length:Int) 1 24&&(J I v.2.1 0).1==1&&(J I v.2.1 0).2.1==2 &&
  cond (ft v.2.1.length (mT v)) (cond (ft (v.2.1.length-1) (kb v.2.1)) (decide ((bytesOf v.2.1:Int)≤400) && !gr v.2.1) false) false
theorem VC{v:af.D}(h:∀j,j<v.2.1.length→mT v j=true):ig v.2.1:=by
 have cA:∀d j,j+d+1<v.2.1.length→(J I v.2.1 j).1<(J I v.2.1 (j+d+1)).1:=by
  have h1:∀j,j+1<v.2.1.length→(J I v.2.1 j).1<(J I v.2.1 (j+1)).1:=by
   intro j hj
   have:=h (j+1) hj
   unfold mT at this
   simp only [Bool.and_eq_true,Bool.not_eq_true',Bool.and_eq_false_iff,decide_eq_false_iff_not] at this
   obtain ⟨⟨_,h2⟩,_⟩:=this
   rcases h2 with h2 | h2
   ·omega
   ·rw [Nat.add_sub_cancel] at h2;exact Int.not_le.1 h2
  intro d
  induction d with
  | zero=>intro j hj;exact h1 j hj
  | succ d ih=>intro j hj;exact Int.lt_trans (ih j (by omega)) (h1 (j+d+1) hj)
 intro x hx
 unfold ba
 rw [ic]
 refine⟨hx,by simp,fun j hj=>?_⟩
 obtain ⟨d,rfl⟩:∃d,x=j+d+1:=⟨x-j-1,by omega⟩
 have:=cA d j hx
 rw [beq_eq_false_iff_ne]
 exact Int.ne_of_lt this
theorem VD{v:af.D}(h:∀j,j<v.2.1.length→mT v j=true){i:Nat}(hi:i<v.2.1.length):nX v.2.1 (J I v.2.1 i)=true:=by
 have:=h i hi
 unfold mT at this
 simp only [Bool.and_eq_true] at this
 exact this.2
theorem VE{l:List aJ}{x:aJ}(h:nX l x=true):(x.2.1≠2→eP x=0∧eD x=0∧ak x=[])∧∀d,d∈ak x→(ba l d.2.1).isSome=true:=by
 unfold nX at h
 simp only [Bool.and_eq_true] at h
 obtain ⟨_,h⟩:=h
 have au:plain x=true→eP x=0∧eD x=0∧ak x=[]:=by
  intro au
  unfold plain at au
  simp only [Bool.and_eq_true,beq_iff_eq] at au
  exact⟨au.1.2,au.2,List.length_eq_zero_iff.1 (by omega)⟩
 by_cases h1:x.2.1=1
 ·rw [cF h1] at h
  simp only [cond_true,Bool.and_eq_true] at h
  obtain ⟨en,fo,gg⟩:=au h.1
  exact⟨fun _=>⟨en,fo,gg⟩,by rw [gg];simp⟩
 ·rw [b4 h1] at h
  by_cases h3:x.2.1=3
  ·rw [cF h3] at h
   simp only [cond_true,cond_false,Bool.and_eq_true] at h
   obtain ⟨en,fo,gg⟩:=au h.1.1
   exact⟨fun _=>⟨en,fo,gg⟩,by rw [gg];simp⟩
  ·rw [b4 h3] at h
   by_cases h2:x.2.1=2
   ·rw [cF h2] at h
    simp only [cond_true,cond_false,Bool.and_eq_true] at h
    refine⟨fun hn=>absurd h2 hn,fun d ag=>?_⟩
    have hN:=h.2
    unfold sM at hN
    simp only [Bool.and_eq_true] at hN
    obtain ⟨i,hi,he⟩:=fx ag
    have:=lf.1 hN.1 i hi
    unfold o2 at this
    simp only [Bool.and_eq_true] at this
    rw [← he];exact this.2
   ·rw [b4 h2] at h
    simp at h
theorem agE{v:af.D}(h:∀j,j<v.2.1.length→mT v j=true):q9 v.2.1:=fun i hi d ag=>(VE (VD h hi)).2 d ag
theorem Gc{v:af.D}{i:Nat}(hi:i<v.2.1.length)(hl:v.2.1.length≤1048576)(K:Option (Bool×Unit)) :
  cond (!c2 (J I v.2.1 i).1 1 (aK (v.1-1))) (some (false,()))
   (cond (decide ((i:Int)>0)) ((aO v.2.1.length (aK ((i:Int)-1))).bind fun j=>cond (decide ((J I v.2.1 j).1≥(J I v.2.1 i).1)) (some (false,())) (cond (!nX v.2.1 (J I v.2.1 i)) (some (false,())) K))
    (cond (!nX v.2.1 (J I v.2.1 i)) (some (false,())) K))=cond (mT v i) K (some (false,())):=by
 unfold mT
 cases i with
 | zero =>
  simp only [MV,Nat.lt_irrefl,decide_false,cond_false,Bool.false_and,Bool.not_false,Bool.and_true,MT,nV]
 | succ i =>
  rw [MU hi (by omega)]
  simp only [MW,Nat.zero_lt_succ,decide_true,cond_true,av,Nat.add_sub_cancel,Bool.true_and,MT,nV]
theorem Nf(v:af.D)(hv:vm v):D0 (v,())=some (kc v,()):=by
 obtain ⟨hl,hn,hb,he⟩:=hv
 show DZ (nL aQ) v=_
 unfold DZ
 simp only [jr,av]
 unfold kc
 cases h1:c2 v.1 2 100000
 ·rfl
 cases h2:c2 (v.2.1.length:Int) 1 24
 ·rfl
 have eV:=(dN.1 h2)
 simp only [Bool.not_true,cond_false]
 rw [show(0:Int)=((0:Nat):Int) from rfl,bC (show 0<v.2.1.length by omega)]
 simp only [av]
 cases h3:(J I v.2.1 0).1==1
 ·rw [cI (by simpa using h3)];rfl
 rw [dq (by simpa using h3)]
 simp only [cond_false]
 cases h4:(J I v.2.1 0).2.1==2
 ·rw [cI (by simpa using h4)];rfl
 rw [dq (by simpa using h4)]
 simp only [cond_false,Bool.true_and]
 have key:=Ao v.2.1.length 1 (fun m i=>(nL m).bb (i:Int) v) (mT v) (some (false,())) (some (cond (ft (v.2.1.length-1) (kb v.2.1)) (decide ((bytesOf v.2.1:Int)≤400) && !gr v.2.1) false,())) (1 +(v.2.1.length-1)*1+1) (fun i hi _ au B y aN=>by
  refine aN.step fun m=>?_
  show uL (nL m) _ _=_
  unfold uL
  rw [cq hi,bC hi]
  simp only [cond_true,av,jr]
  have hx:=he _ (cP hi)
  rw [Vs v _ hl hx.1,dg i (by omega)]
  simp only [av]
  rw [Gc hi hl,au];rfl) (fun i hi _ au=>by
  refine bV.done fun m=>?_
  show uL (nL m) _ _=_
  unfold uL
  rw [cq hi,bC hi]
  simp only [cond_true,av,jr]
  have hx:=he _ (cP hi)
  rw [Vs v _ hl hx.1,dg i (by omega)]
  simp only [av]
  rw [Gc hi hl,au];rfl) (fun qz=>by
  have hF:=Vn v.2.1 1
  have k2:=Ao (v.2.1.length-1) 1 (fun m i=>(nL m).db ((i+1:Nat):Int) v (dP v.2.1 1)) (kb v.2.1) (some (false,())) (some (decide ((bytesOf v.2.1:Int)≤400) && !gr v.2.1,())) 1 (fun i hi _ au B y aN=>by
   refine aN.step fun m=>?_
   show uM (nL m) _ _ _=_
   unfold uM
   have gG:i+1<v.2.1.length:=by omega
   rw [cq gG,bC gG,hF,bC gG]
   simp only [cond_true,av,Nat.zero_add]
   rw [FZ v _ hl hn,dg (i+1) (by omega)]
   simp only [av]
   unfold kb at au
   simp only [Bool.and_eq_true,Bool.not_eq_true'] at au
   rw [au.1]
   have j5:=au.2
   cases g1:(J I v.2.1 (i+1)).2.1==2
   ·rfl
   ·rw [g1] at j5
    simp only [Bool.true_and] at j5
    rw [j5];rfl) (fun i hi _ au=>by
   refine bV.done fun m=>?_
   show uM (nL m) _ _ _=_
   unfold uM
   have gG:i+1<v.2.1.length:=by omega
   rw [cq gG,bC gG,hF,bC gG]
   simp only [cond_true,av,Nat.zero_add]
   rw [FZ v _ hl hn,dg (i+1) (by omega)]
   simp only [av]
   unfold kb at au
   cases g0:J .bool (dP v.2.1 1) (i+1)
   ·rfl
   ·rw [g0] at au
    simp only [Bool.true_and,Bool.not_eq_false'] at au
    simp only [Bool.and_eq_true] at au
    rw [au.1,au.2];rfl) (fun _=>bV.done fun m=>by
   rw [show v.2.1.length-1+1=v.2.1.length by omega]
   show uM (nL m) _ _ _=_
   unfold uM
   rw [cT (Nat.le_refl _),M0 v hl hb]
   simp only [cond_false,av]
   rw [Vy v hl hn hb (fun i hi hk=>by have:=(VE (VD qz hi)).1 hk;exact⟨this.1,this.2.1⟩)]
   simp only [av,mR,U'])
  have k3:=k2.step (f:=fun m=>(nL m).bb ((v.2.1.length:Nat):Int) v) fun m=>by
   show uL (nL m) _ _=_
   unfold uL
   rw [cT (Nat.le_refl _),Vg v 1 hl hn];rfl
  rw [show cond (ft (v.2.1.length-1) (kb v.2.1)) (some (decide ((bytesOf v.2.1:Int)≤400) && !gr v.2.1,())) (some (false,()))=some (cond (ft (v.2.1.length-1) (kb v.2.1)) (decide ((bytesOf v.2.1:Int)≤400) && !gr v.2.1) false,()) from mR _ _ _] at k3
  exact k3)
 have:=kI key (by omega)
 rw [this,mR]
theorem VF{l:List aJ}{i:Nat} : J I (l.drop 1) i=J I l (i+1):=by
 unfold J
 rw [List.getD_eq_getElem?_getD,List.getD_eq_getElem?_getD,List.getElem?_drop,Nat.add_comm 1 i]
theorem Gd(v:af.D)(hv:vm v):xl (v,())=some (kc v,()):=by
 obtain ⟨hl,hn,hb,he⟩:=hv
 show Ex (nM aQ) v=_
 unfold Ex
 simp only [js,av]
 unfold kc
 cases h1:c2 v.1 2 100000
 ·rfl
 cases h2:c2 (v.2.1.length:Int) 1 24
 ·rfl
 have eV:=(dN.1 h2)
 simp only [Bool.not_true,cond_false]
 rw [show(0:Int)=((0:Nat):Int) from rfl,bC (show 0<v.2.1.length by omega)]
 simp only [av]
 cases h3:(J I v.2.1 0).1==1
 ·rw [cI (by simpa using h3)];rfl
 rw [dq (by simpa using h3)]
 simp only [cond_false]
 cases h4:(J I v.2.1 0).2.1==2
 ·rw [cI (by simpa using h4)];rfl
 rw [dq (by simpa using h4)]
 simp only [cond_false,Bool.true_and]
 have key:=Ao v.2.1.length 1 (fun m i=>(nM m).bb v.2.1 (v.2.1.length:Int) (i:Int) v) (mT v) (some (false,())) (some (cond (ft (v.2.1.length-1) (kb v.2.1)) (decide ((bytesOf v.2.1:Int)≤400) && !gr v.2.1) false,())) (1 +(v.2.1.length-1)*1+1) (fun i hi _ au B y aN=>by
  refine aN.step fun m=>?_
  show uZ (nM m) _ _ _ _=_
  unfold uZ
  rw [cq hi,bC hi]
  simp only [cond_true,av,js]
  have hx:=he _ (cP hi)
  rw [Vt v _ hl hx.1 hx.2.2 hx.2.1,dg i (by omega)]
  simp only [av]
  rw [Gc hi hl,au];rfl) (fun i hi _ au=>by
  refine bV.done fun m=>?_
  show uZ (nM m) _ _ _ _=_
  unfold uZ
  rw [cq hi,bC hi]
  simp only [cond_true,av,js]
  have hx:=he _ (cP hi)
  rw [Vt v _ hl hx.1 hx.2.2 hx.2.1,dg i (by omega)]
  simp only [av]
  rw [Gc hi hl,au];rfl) (fun qz=>by
  obtain ⟨out,hf,CL⟩:=M' v hl hn 1
  have hdl:(v.2.1.drop 1).length=v.2.1.length-1:=by simp
  have hol:=hf.len
  have jn:∀i,i+1<v.2.1.length→decide ((J I v.2.1 (i+1)).1∈out)=J .bool (dP v.2.1 1) (i+1):=by
   intro i hi
   rw [Bool.eq_iff_iff,decide_eq_true_eq,hf.iff]
   exact(xE v.2.1 (VC qz) 1 hi).symm
  have k2:=Ao (v.2.1.length-1) 1 (fun m i=>(nM m).db (v.2.1.drop 1) ((v.2.1.drop 1).length:Int) (i:Int) v out) (kb v.2.1) (some (false,())) (some (decide ((bytesOf v.2.1:Int)≤400) && !gr v.2.1,())) 1 (fun i hi _ au B y aN=>by
   refine aN.step fun m=>?_
   show u0 (nM m) _ _ _ _ _=_
   unfold u0
   have gG:i+1<v.2.1.length:=by omega
   rw [cq (by omega),bC (by omega)]
   simp only [cond_true,av]
   rw [show J I (List.drop 1 v.2.1) i=J I v.2.1 (i+1) from VF]
   rw [contains_eq _ _ (by omega)]
   simp only [av]
   rw [jn i gG,F2 v _ hl hn,dg i (by omega)]
   simp only [av]
   unfold kb at au
   simp only [Bool.and_eq_true,Bool.not_eq_true'] at au
   rw [au.1]
   have j5:=au.2
   cases g1:(J I v.2.1 (i+1)).2.1==2
   ·rfl
   ·rw [g1] at j5
    simp only [Bool.true_and] at j5
    rw [j5];rfl) (fun i hi _ au=>by
   refine bV.done fun m=>?_
   show u0 (nM m) _ _ _ _ _=_
   unfold u0
   have gG:i+1<v.2.1.length:=by omega
   rw [cq (by omega),bC (by omega)]
   simp only [cond_true,av]
   rw [show J I (List.drop 1 v.2.1) i=J I v.2.1 (i+1) from VF]
   rw [contains_eq _ _ (by omega)]
   simp only [av]
   rw [jn i gG,F2 v _ hl hn,dg i (by omega)]
   simp only [av]
   unfold kb at au
   cases g0:J .bool (dP v.2.1 1) (i+1)
   ·rfl
   ·rw [g0] at au
    simp only [Bool.true_and,Bool.not_eq_false'] at au
    simp only [Bool.and_eq_true] at au
    rw [au.1,au.2];rfl) (fun _=>bV.done fun m=>by
   show u0 (nM m) _ _ _ _ _=_
   unfold u0
   rw [cT (by omega),M1 v hl hb]
   simp only [cond_false,av]
   rw [Vx v hl hn hb (VC qz) (agE qz)]
   simp only [av,mR,U'])
  have k3:=k2.step (f:=fun m=>(nM m).bb v.2.1 (v.2.1.length:Int) ((v.2.1.length:Nat):Int) v) fun m=>by
   show uZ (nM m) _ _ _ _=_
   unfold uZ
   rw [cT (Nat.le_refl _),CL]
   simp only [cond_false,av]
   unfold d'
   rw [if_pos ⟨by omega,by omega,Int.le_refl _⟩]
   simp only [av,Int.toNat_natCast]
   have:part v.2.1 (Int.toNat 1) (v.2.1.length-Int.toNat 1)=v.2.1.drop 1:=MS v.2.1 1
   rw [this];rfl
  rw [show cond (ft (v.2.1.length-1) (kb v.2.1)) (some (decide ((bytesOf v.2.1:Int)≤400) && !gr v.2.1,())) (some (false,()))=some (cond (ft (v.2.1.length-1) (kb v.2.1)) (decide ((bytesOf v.2.1:Int)≤400) && !gr v.2.1) false,()) from mR _ _ _] at k3
  exact k3)
 have:=kI key (by omega)
 rw [this,mR]
def xH(l:List Int)(i:Nat):Bool:=c2 (J (.int .i64) l i) 0 1000
def dd(c:aI.D):Bool:=c2 c.1 0 1000&&(c2 c.2.1 0 1000&&(decide ((c.2.2.1.length:Int)≤4)&&ft c.2.2.1.length (xH c.2.2.1)))
theorem VG(a b:Int):decide (a>b) = !decide (a≤b):=by
 by_cases h:a≤b <;> simp [h] <;> omega
theorem Ap(c:aI.D):w4 (c,())=some (dd c,()):=by
 show CU (uf aQ) c=_
 unfold CU dd
 simp only [jr,av]
 cases c2 c.1 0 1000
 ·rfl
 cases c2 c.2.1 0 1000
 ·rfl
 simp only [Bool.not_true,cond_false,Bool.true_and,VG,nV]
 by_cases hl:(c.2.2.1.length:Int)≤4
 case neg=>rw [decide_eq_false hl];rfl
 rw [decide_eq_true hl]
 simp only [cond_true,Bool.true_and]
 have:=sG c.2.2.1.length (by omega) (xH c.2.2.1) true (fun m i=>uf m i c) (fun m _=>by
  simp only [uf,CV]
  rw [cT (Nat.le_refl _)];rfl) (fun m i hi _ hw=>by
  simp only [uf,CV,hw]
  rw [cq hi,bC hi]
  simp only [cond_true,av,jr,nV,xH])
 rw [Bool.and_true] at this
 exact this
theorem Ge(c:aI.D):xm (c,())=some (dd c,()):=by
 show K0 c=_
 unfold K0 dd
 simp only [js,av]
 cases c2 c.1 0 1000
 ·rfl
 cases c2 c.2.1 0 1000
 ·rfl
 simp only [Bool.not_true,cond_false,Bool.true_and,VG,nV]
 by_cases hl:(c.2.2.1.length:Int)≤4
 case neg=>rw [decide_eq_false hl];rfl
 rw [decide_eq_true hl]
 simp only [cond_true,Bool.true_and]
 have h:KZ (c.2.2.1,())=some ((fh c.2.2.1.length fun i => !xH c.2.2.1 i).isSome,()):=by
  show KY c.2.2.1=_
  unfold KY
  have h:KX (c.2.2.1,())=some (hg (fh c.2.2.1.length fun i => !xH c.2.2.1 i),()):=by
   show Ez (u1 aQ) c.2.2.1=_
   unfold Ez
   refine sH c.2.2.1.length (by omega) _ (fun o=>some (hg o,())) (fun m i=>u1 m c.2.2.1 (c.2.2.1.length:Int) i) ?_ ?_
   ·intro m
    simp only [u1,EA]
    rw [cT (Nat.le_refl _)];rfl
   ·intro m i hi hw
    simp only [u1,EA,hw]
    rw [cq hi,bC hi]
    simp only [cond_true,av]
    show Option.bind (KW (J (ad.int .i64) c.2.2.1 i)) _=_
    unfold KW
    rw [js];rfl
  rw [h]
  simp only [av,Ak]
 rw [h]
 simp only [av]
 congr 2
 rw [Bool.eq_iff_iff,lf]
 cases hf:fh c.2.2.1.length fun i => !xH c.2.2.1 i with
 | none =>
  simp only [Option.isSome_none,Bool.not_false,true_iff]
  exact fun i hi=>by have:=l1.1 hf i hi;simpa using this
 | some i =>
  simp only [Option.isSome_some,Bool.not_true,Bool.false_eq_true,false_iff]
  obtain ⟨h1,h2,_⟩:=ic.1 hf
  exact fun h=>by rw [h i h1] at h2;cases h2
theorem VH{c:aI.D}(h:dd c=true):c.2.2.1.length≤4:=by
 simp only [dd,Bool.and_eq_true,decide_eq_true_eq] at h;omega
def mU(c:aI.D)(g:Int):Bool:=c.2.1==g||decide (g∈c.2.2.1)
theorem agF{l:List Int}{i:Nat}(g:Int)(hi:i<l.length):decide (g∈l.drop i)=(J (.int .i64) l i==g||decide (g∈l.drop (i+1))):=by
 have h:=drop_cons (t:=.int .i64) hi
 have h:l.drop i=J (.int .i64) l i :: l.drop (i+1):=h
 rw [h,Bool.eq_iff_iff]
 simp only [List.mem_cons,decide_eq_true_eq,Bool.or_eq_true,beq_iff_eq]
 constructor
 ·rintro (h | h)
  ·exact .inl h.symm
  ·exact .inr h
 ·rintro (h | h)
  ·exact .inl h.symm
  ·exact .inr h
theorem Ng(c:aI.D)(g:Int)(hc:dd c=true):uh (c,g,())=some (mU c g,()):=by
 show CX (ug aQ) c g=_
 unfold CX mU
 rw [Ap,hc]
 simp only [av,Bool.not_true,cond_false]
 have hl:=VH hc
 have key:∀(r i m:Nat) (b:Bool),i+r=c.2.2.1.length→r<m→ug m g b (i:Int) c=some (b||decide (g∈c.2.2.1.drop i),()):=by
  intro r
  induction r with
  | zero =>
   intro i m b hi hm
   obtain ⟨m,rfl,_⟩:=fuel hm
   simp only [ug,CY]
   rw [cT (by omega),List.drop_of_length_le (by omega)]
   simp
  | succ r ih =>
   intro i m b hi hm
   obtain ⟨m,rfl,hq⟩:=fuel hm
   have cA:i<c.2.2.1.length:=by omega
   simp only [ug,CY]
   rw [cq cA,dg i (by omega),agF g cA]
   simp only [cond_true]
   cases b
   ·simp only [cond_false]
    rw [bC cA]
    simp only [av]
    rw [ih (i+1) m _ (by omega) (by omega)]
    simp
   ·simp only [cond_true]
    rw [ih (i+1) m _ (by omega) (by omega)]
    simp
 have:=key c.2.2.1.length 0 aQ (c.2.1==g) (by omega) (jq (by omega))
 simpa using this
theorem Nh(c:aI.D)(g:Int)(hc:dd c=true):u7 (c,g,())=some (mU c g,()):=by
 show K5 c g=_
 unfold K5 mU
 have hl:=VH hc
 rw [Ge,hc]
 simp only [av,cond_true]
 rw [contains_eq _ _ (by omega)]
 simp only [av]
 rw [show(g==c.2.1)=(c.2.1==g) by rw [Bool.eq_iff_iff,beq_iff_eq,beq_iff_eq];exact⟨Eq.symm,Eq.symm⟩]
 cases c.2.1==g <;> rfl
def kindOf(x:aJ):Int:=x.2.1
def e7(x:aJ):Int:=x.2.2.1
def et(x:aJ):Int:=x.2.2.2.1
def fi(x:aJ):Int:=x.2.2.2.2.1
def kJ(a b:Int):Int:=cQ .and .i64 a b
def three(c:aI.D)(n:aJ):Int :=
 cond (c.1==et n) (Int.fdiv (e7 n) (2 ^ min (Int.toNat 6) 64)) (cond (mU c (fi n)) (Int.fdiv (e7 n) (2 ^ min (Int.toNat 3) 64)) (e7 n))
def may(c:aI.D)(n:aJ)(w:Int):Bool :=
 c2 w 0 7&&cond (c.1==0) (kJ w 1==0||(kindOf n != 1||kJ (e7 n) 73 != 0)) (kJ (kJ (three c n) 7) w==w)
theorem mV(c:aI.D)(n:aJ)(w:Int)(hc:dd c=true):jL (c,n,w,())=some (may c n w,()):=by
 show J0 c n w=_
 unfold J0 may three
 rw [Ap,hc,jr]
 simp only [av,Bool.not_true,cond_false]
 cases c2 w 0 7
 ·rfl
 simp only [Bool.not_true,cond_false,Bool.true_and]
 cases c.1==0
 ·simp only [cond_false]
  rw [Ng c _ hc]
  simp only [av]
  show cond (mU c (fi n)) (cond (c.1==et n) _ _) (cond (c.1==et n) _ _)=_
  cases mU c (fi n) <;> cases c.1==et n <;> rfl
 ·simp only [cond_true]
  show cond (kJ w 1==0) _ (cond (kindOf n != 1) _ (some (kJ (e7 n) 73 != 0,())))=_
  cases kJ w 1==0 <;> cases kindOf n != 1 <;> rfl
theorem Aq(c:aI.D)(n:aJ)(w:Int)(hc:dd c=true):pR (c,n,w,())=some (may c n w,()):=by
 show K6 c n w=_
 unfold K6 may three
 rw [Ge,hc,js]
 simp only [av,Bool.not_true,cond_false]
 cases c2 w 0 7
 ·rfl
 simp only [Bool.not_true,cond_false,Bool.true_and]
 cases c.1==0
 ·simp only [cond_false]
  rw [Nh c _ hc]
  simp only [av]
  show cond (c.1==et n) _ (cond (mU c (fi n)) _ _)=_
  cases mU c (fi n) <;> cases c.1==et n <;> rfl
 ·simp only [cond_true]
  show cond (kindOf n != 1) _ (cond (kJ (e7 n) 73 != 0) _ (some (kJ w 1==0,())))=_
  cases kJ w 1==0 <;> cases kindOf n != 1 <;> cases kJ (e7 n) 73 != 0 <;> rfl
def nZ(c:aI.D)(d n:aJ):Bool:=kJ (e7 d) 512==0||(c.1==0||(c.1==et d||c.1==et n))
theorem Gf(c:aI.D)(d n:aJ)(hc:dd c=true):w8 (c,d,n,())=some (nZ c d n,()):=by
 show J_ c d n=_
 unfold J_ nZ
 rw [Ap,hc]
 simp only [av,Bool.not_true,cond_false]
 show cond (kJ (e7 d) 512==0) _ (cond (c.1==0) _ (cond (c.1==et d) _ (some (c.1==et n,()))))=_
 cases kJ (e7 d) 512==0 <;> cases c.1==0 <;> cases c.1==et d <;> rfl
theorem Ni(c:aI.D)(d n:aJ)(hc:dd c=true):sy (c,d,n,())=some (nZ c d n,()):=by
 show Lj c d n=_
 unfold Lj nZ
 rw [Ge,hc]
 simp only [av,cond_true]
 show cond (kJ (e7 d) 512==0) _ (cond (c.1==0) _ (cond (c.1==et d) _ (some (c.1==et n,()))))=_
 cases kJ (e7 d) 512==0 <;> cases c.1==0 <;> cases c.1==et d <;> rfl
def mW(s:List UInt8):Bool:=jt s&&nb s 0==47
theorem agG(s:List UInt8)(i:Nat):((s.getD i 0).toNat:Int)=nb s i:=rfl
theorem sN(s:List UInt8):C2 (s,())=some (mW s,()):=by
 show C0 (ui aQ) s=_
 unfold C0 mW jt
 simp only [jr,av]
 by_cases hl:c2 (s.length:Int) 1 60=true
 case neg=>rw [Bool.not_eq_true] at hl;rw [hl];simp
 have hb:=dN.1 hl
 rw [hl]
 simp only [Bool.not_true,cond_false,Bool.and_true]
 rw [show aO s.length 0=some 0 from bC (i:=0) (by omega)]
 simp only [av,agG,bne,nV]
 cases nb s 0==47
 ·simp
 simp only [cond_true,Bool.and_true]
 have:=sG s.length (by omega) (fun i=>nb s i==47||sI (nb s i)) true (fun m i=>ui m s i) (fun m _=>by
  simp only [ui,C1]
  rw [cT (Nat.le_refl _)];rfl) (fun m i hi _ hw=>by
  simp only [ui,C1,hw]
  rw [cq hi,bC hi]
  simp only [cond_true,av,FX,nV,FW,bne];rfl)
 rw [Bool.and_true] at this
 exact this
theorem Gg(s:List UInt8)(hl:s.length≤4000000000000000000):K4 (s,())=some (mW s,()):=by
 show K3 s=_
 unfold K3 mW
 rw [MY s hl]
 simp only [av]
 by_cases ht:jt s=true
 case neg=>rw [Bool.not_eq_true] at ht;rw [ht];rfl
 rw [ht]
 have:1≤s.length:=by
  unfold jt at ht
  rw [Bool.and_eq_true] at ht
  have:=dN.1 ht.2
  omega
 simp only [cond_true]
 rw [show aO s.length 0=some 0 from bC (i:=0) (by omega)]
 rfl
theorem vn(v:af.D)(hl:v.2.1.length≤1048576)(hn:∀i,i<v.2.1.length→(ak (J I v.2.1 i)).length≤1048576):lZ (v,())=some (v,()):=by
 show y7 (pJ aQ) v=_
 unfold y7
 have:=mQ v.2.1.length (by omega) (fun m i=>pJ m i v (0,([]:List I.D),()) (v.1,v.2.1.take i.toNat,())) (fun _=>some (v,())) (fun _=>True) (fun m _=>by
  simp only [pJ,y8]
  rw [cT (Nat.le_refl _)]
  simp only [Int.toNat_natCast,List.take_length,cond_false]) (fun m i hi _ hw ih=>by
  simp only [pJ,y8]
  rw [cq hi,bC hi]
  simp only [cond_true,av,Int.toNat_natCast]
  have agH:=hn i hi
  show cond (room (0 +(ak (J I v.2.1 i)).length)) _ _=_
  rw [cH (by omega)]
  simp only [cond_true]
  unfold RY
  show cond (room ((v.2.1.take i).length+1)) _ _=_
  rw [cH (by rw [List.length_take];omega)]
  simp only [cond_true]
  unfold RX
  rw [hw]
  have ih:=ih trivial
  rw [show((i:Int)+1).toNat=i+1 by omega,List.take_succ_eq_append_getElem hi,← c7 (t:=I) hi] at ih
  exact ih) v.2.1.length 0 aQ (by omega) (jq (by omega)) trivial
 simpa using this
theorem agI(v:af.D)(hl:v.2.1.length≤1048576)(hn:∀i,i<v.2.1.length→(ak (J I v.2.1 i)).length≤1048576):so (v,())=some (v,()):=by
 show ED (u3 aQ) v=_
 unfold ED
 have:=mQ v.2.1.length (by omega) (fun m i=>u3 m v.2.1 (v.2.1.length:Int) i (0,([]:List I.D),()) (v.1,v.2.1.take i.toNat,())) (fun _=>some (v,())) (fun _=>True) (fun m _=>by
  simp only [u3,EE]
  rw [cT (Nat.le_refl _)]
  simp only [Int.toNat_natCast,List.take_length,cond_false]) (fun m i hi _ hw ih=>by
  simp only [u3,EE]
  rw [cq hi,bC hi]
  simp only [cond_true,av,Int.toNat_natCast]
  have agH:=hn i hi
  show cond (room (0 +(ak (J I v.2.1 i)).length)) _ _=_
  rw [cH (by omega)]
  simp only [cond_true]
  unfold SC
  show cond (room ((v.2.1.take i).length+1)) _ _=_
  rw [cH (by rw [List.length_take];omega)]
  simp only [cond_true]
  unfold SB
  rw [hw]
  have ih:=ih trivial
  rw [show((i:Int)+1).toNat=i+1 by omega,List.take_succ_eq_append_getElem hi,← c7 (t:=I) hi] at ih
  exact ih) v.2.1.length 0 aQ (by omega) (jq (by omega)) trivial
 simpa using this
theorem o4{β : Type}(W:Nat)(F:Nat→Nat → β)(y : β):∀(k B:Nat),(∀i,i<k→∀B y,bV (fun m=>F m (i+1)) B y→bV (fun m=>F m i) (B+W) y)→bV (fun m=>F m k) B y→bV (fun m=>F m 0) (B+k*W) y
 | 0,B,_,h=>by simpa using h
 | k+1,B,hf,h=>by
  have:=o4 W F y k (B+W) (fun i hi=>hf i (by omega)) (hf k (by omega) B y h)
  rw [Nat.add_one_mul]
  rwa [show B +(k*W+W)=B+W+k*W by omega]
theorem VI{β : Type}(n W:Nat)(F:Nat→Nat → β)(P:Nat→Bool)(R:Option Nat → β)(B:Nat)(hn:bV (fun m=>F m n) B (R none))(hs:∀i,i<n→P i=true→bV (fun m=>F m i) B (R (some i)))
  (hf:∀i,i<n→P i=false→∀B y,bV (fun m=>F m (i+1)) B y→bV (fun m=>F m i) (B+W) y):bV (fun m=>F m 0) (B+n*W) (R (fh n P)):=by
 cases h:fh n P with
 | none=>exact o4 W F _ n B (fun i hi=>hf i hi (l1.1 h i hi)) hn
 | some k =>
  obtain ⟨h1,h2,h3⟩:=ic.1 h
  refine(o4 W F _ k B (fun i hi=>hf i (by omega) (h3 i hi)) (hs k h1 h2)).mono ?_
  have:k*W≤n*W:=Nat.mul_le_mul_right _ (by omega)
  omega
theorem ik(v:af.D)(id:Int)(hl:v.2.1.length≤1048576){i:Nat}(h:ba v.2.1 id=some i):eW (v,id,())=some (J I v.2.1 i,()):=by
 show J3 v id=_
 unfold J3
 rw [l2 v id hl,h]
 simp only [av,hg]
 rw [bC (bZ h).1];rfl
theorem Nj(v:af.D)(id:Int)(hl:v.2.1.length≤1048576):xi (v,id,())=some (hg (ba v.2.1 id),v,()):=by
 show D9 (uP aQ) v id=_
 unfold D9 ba
 refine sH v.2.1.length (by omega) _ (fun o=>some (hg o,v,())) (fun m i=>uP m id (v.2.1.length:Int) i v) ?_ ?_
 ·intro m
  simp only [uP,D_]
  rw [cT (Nat.le_refl _)];rfl
 ·intro m i hi hw
  simp only [uP,D_,hw]
  rw [cq hi,bC hi]
  simp only [cond_true,av,Nat.zero_add];rfl
theorem mX(v:af.D)(id:Int)(hl:v.2.1.length≤1048576){i:Nat}(h:ba v.2.1 id=some i):fE (v,id,())=some ([J I v.2.1 i],()):=by
 rw [xC v id hl,h];rfl
def lh(l:List aJ)(id:Int):Bool:=match ba l id with | some i=>kindOf (J I l i)==2 | none=>false
theorem VJ(v:af.D)(id:Int)(hl:v.2.1.length≤1048576):xa (v,id,())=some (lh v.2.1 id,()):=by
 show J' v id=_
 unfold J' lh
 rw [l2 v id hl]
 simp only [av,Ak]
 cases h:ba v.2.1 id with
 | none=>rfl
 | some i =>
  simp only [Option.isSome_some,cond_true,hg]
  rw [bC (bZ h).1];rfl
theorem Gh(v:af.D)(id:Int)(hl:v.2.1.length≤1048576):va (v,id,())=some (lh v.2.1 id,()):=by
 show Lr v id=_
 unfold Lr lh
 rw [xC v id hl]
 cases h:ba v.2.1 id with
 | none=>rfl
 | some i=>rfl
def q'(N:List ax.D)(s:List UInt8)(j:Nat):Bool:=bs (J ax N j).1 s
def Ar(N:List ax.D):Option Nat→Int
 | none=>0
 | some j=>(J ax N j).2.1
def cJ(N:List ax.D)(s:List UInt8):Int:=Ar N (fh N.length (q' N s))
theorem VK(v:af.D)(id:Int)(s:List UInt8)(hl:v.2.1.length≤1048576){i:Nat}(h:ba v.2.1 id=some i)(hn:(ak (J I v.2.1 i)).length≤1048576) :
  J1 (v,id,s,())=some (cJ (ak (J I v.2.1 i)) s,()):=by
 show C' (r7 aQ) v id s=_
 unfold C'
 rw [l2 v id hl,h]
 simp only [av,hg]
 rw [bC (bZ h).1]
 simp only [av]
 show r7 aQ s (ak (J I v.2.1 i)) 0=_
 generalize ak (J I v.2.1 i)=N at hn
 refine sH N.length (by omega) (q' N s) (fun o=>some (Ar N o,())) (fun m j=>r7 m s N j) ?_ ?_
 ·intro m
  simp only [r7,Da]
  rw [cT (Nat.le_refl _)];rfl
 ·intro m j hj hw
  simp only [r7,Da,hw]
  rw [cq hj,bC hj];rfl
theorem VL(n:aJ)(s:List UInt8)(hn:(ak n).length≤1048576):EK (n,s,())=some (cJ (ak n) s,()):=by
 show EI (sq aQ) n s=_
 unfold EI
 show sq aQ s (ak n) ((ak n).length:Int) 0=_
 generalize ak n=N at hn
 refine sH N.length (by omega) (q' N s) (fun o=>some (Ar N o,())) (fun m j=>sq m s N (N.length:Int) j) ?_ ?_
 ·intro m
  simp only [sq,EJ]
  rw [cT (Nat.le_refl _)];rfl
 ·intro m j hj hw
  simp only [sq,EJ,hw]
  rw [cq hj,bC hj];rfl
def lj(N:List ax.D)(id:Int)(j:Nat):Bool:=(J ax N j).2.1==id
def pY(N:List ax.D)(id:Int):Bool:=(fh N.length (lj N id)).isSome
def Nk(l:List aJ):Option Nat→Int
 | none=>1
 | some i=>(J I l i).1
def Gi(l:List aJ)(id:Int):Option Nat:=fh l.length fun i=>pY (ak (J I l i)) id
def jw(l:List aJ)(id:Int):Int:=Nk l (Gi l id)
theorem Nl{N:List ax.D}{id:Int}(h:pY N id=false):∀j,j<N.length→lj N id j=false:=by
 unfold pY at h
 cases hf:fh N.length (lj N id) with
 | none=>exact l1.1 hf
 | some j=>rw [hf] at h;cases h
theorem Gj{N:List ax.D}{id:Int}(h:pY N id=true):∃j,j<N.length∧lj N id j=true∧∀k,k<j→lj N id k=false:=by
 unfold pY at h
 cases hf:fh N.length (lj N id) with
 | none=>rw [hf] at h;cases h
 | some j=>exact⟨j,ic.1 hf⟩
theorem Nn(v:af.D)(id:Int)(hl:v.2.1.length≤1048576)(hn:dv v.2.1≤1048576):C9 (v,id,())=some (jw v.2.1 id,()):=by
 show C8 (kB aQ) v id=_
 unfold C8
 have inner:∀i,i<v.2.1.length→∀j,j<(ak (J I v.2.1 i)).length→lj (ak (J I v.2.1 i)) id j=false→∀B y,bV (fun m=>(kB m).bw id (i:Int) ((j+1:Nat):Int) v) B y→bV (fun m=>(kB m).bw id (i:Int) (j:Int) v) (B+1) y:=by
  intro i hi j hj au B y he
  have hnl:=fO hi
  refine he.step fun m=>?_
  show uo (kB m) _ _ _ _=_
  unfold uo
  rw [bC hi]
  simp only [av]
  show cond (decide ((j:Int)<((ak (J I v.2.1 i)).length:Int))) ((aO (ak (J I v.2.1 i)).length (j:Int)).bind fun v3=>cond (lj (ak (J I v.2.1 i)) id v3) _ _) _=_
  rw [cq hj,bC hj]
  simp only [cond_true,av,au,cond_false]
  rw [dg j (by omega)]
 have key:=VI v.2.1.length (1048576+2) (fun m i=>(kB m).k2 id (i:Int) v) (fun i=>pY (ak (J I v.2.1 i)) id) (fun o=>some (Nk v.2.1 o,())) (1048576+3) ((bV.done fun m=>by
   show um (kB m) _ _ _=_
   unfold um
   rw [cT (Nat.le_refl _)];rfl).mono (by omega)) (fun i hi au=>by
   have hnl:=fO hi
   obtain ⟨j,h1,h2,h3⟩:=Gj au
   have:=o4 1 (fun m j=>(kB m).bw id (i:Int) (j:Int) v) (some ((J I v.2.1 i).1,())) j 1 (fun k hk=>inner i hi k (by omega) (h3 k hk)) (bV.done fun m=>by
    show uo (kB m) _ _ _ _=_
    unfold uo
    rw [bC hi]
    simp only [av]
    show cond (decide ((j:Int)<((ak (J I v.2.1 i)).length:Int))) ((aO (ak (J I v.2.1 i)).length (j:Int)).bind fun v3=>cond (lj (ak (J I v.2.1 i)) id v3) _ _) _=_
    rw [cq h1,bC h1]
    simp only [cond_true,av,h2])
   refine(this.step (f:=fun m=>(kB m).k2 id (i:Int) v) fun m=>?_).mono (by omega)
   show um (kB m) _ _ _=_
   unfold um
   rw [cq hi];rfl) (fun i hi au B y he=>by
   have hnl:=fO hi
   have h0:=Nl au
   have:=o4 1 (fun m j=>(kB m).bw id (i:Int) (j:Int) v) y (ak (J I v.2.1 i)).length (B+1) (fun k hk=>inner i hi k hk (h0 k hk)) (he.step fun m=>by
    show uo (kB m) _ _ _ _=_
    unfold uo
    rw [bC hi]
    simp only [av]
    show cond (decide (((ak (J I v.2.1 i)).length:Int)<((ak (J I v.2.1 i)).length:Int))) _ _=_
    rw [cT (Nat.le_refl _)]
    simp only [cond_false]
    rw [dg i (by omega)])
   refine(this.step (f:=fun m=>(kB m).k2 id (i:Int) v) fun m=>?_).mono (by omega)
   show um (kB m) _ _ _=_
   unfold um
   rw [cq hi];rfl)
 have hm:v.2.1.length*(1048576+2)≤1048576*(1048576+2):=Nat.mul_le_mul_right _ hl
 exact kI key (by omega)
theorem VM(v:af.D)(id:Int)(hl:v.2.1.length≤1048576)(hn:dv v.2.1≤1048576):EG (v,id,())=some (jw v.2.1 id,()):=by
 show EF (kF aQ) v id=_
 unfold EF
 have inner:∀i,i<v.2.1.length→∀j,j<(ak (J I v.2.1 i)).length→lj (ak (J I v.2.1 i)) id j=false→∀B y,
   bV (fun m=>(kF m).bw id v.2.1 (v.2.1.length:Int) (i:Int) (ak (J I v.2.1 i)) ((ak (J I v.2.1 i)).length:Int) ((j+1:Nat):Int) (J I v.2.1 i)) B y →
   bV (fun m=>(kF m).bw id v.2.1 (v.2.1.length:Int) (i:Int) (ak (J I v.2.1 i)) ((ak (J I v.2.1 i)).length:Int) (j:Int) (J I v.2.1 i)) (B+1) y:=by
  intro i hi j hj au B y he
  have hnl:=fO hi
  refine he.step fun m=>?_
  show u6 (kF m) _ _ _ _ _ _ _ _=_
  unfold u6
  rw [cq hj,bC hj]
  simp only [cond_true,av]
  show cond (lj (ak (J I v.2.1 i)) id j) _ _=_
  rw [au,dg j (by omega)];rfl
 have key:=VI v.2.1.length (1048576+2) (fun m i=>(kF m).k2 id v.2.1 (v.2.1.length:Int) (i:Int)) (fun i=>pY (ak (J I v.2.1 i)) id) (fun o=>some (Nk v.2.1 o,())) (1048576+3) ((bV.done fun m=>by
   show u5 (kF m) _ _ _ _=_
   unfold u5
   rw [cT (Nat.le_refl _)];rfl).mono (by omega)) (fun i hi au=>by
   have hnl:=fO hi
   obtain ⟨j,h1,h2,h3⟩:=Gj au
   have:=o4 1 (fun m j=>(kF m).bw id v.2.1 (v.2.1.length:Int) (i:Int) (ak (J I v.2.1 i)) ((ak (J I v.2.1 i)).length:Int) (j:Int) (J I v.2.1 i)) (some ((J I v.2.1 i).1,())) j 1 (fun k hk=>inner i hi k (by omega) (h3 k hk)) (bV.done fun m=>by
    show u6 (kF m) _ _ _ _ _ _ _ _=_
    unfold u6
    rw [cq h1,bC h1]
    simp only [cond_true,av]
    show cond (lj (ak (J I v.2.1 i)) id j) _ _=_
    rw [h2];rfl)
   refine(this.step (f:=fun m=>(kF m).k2 id v.2.1 (v.2.1.length:Int) (i:Int)) fun m=>?_).mono (by omega)
   show u5 (kF m) _ _ _ _=_
   unfold u5
   rw [cq hi,bC hi];rfl) (fun i hi au B y he=>by
   have hnl:=fO hi
   have h0:=Nl au
   have:=o4 1 (fun m j=>(kF m).bw id v.2.1 (v.2.1.length:Int) (i:Int) (ak (J I v.2.1 i)) ((ak (J I v.2.1 i)).length:Int) (j:Int) (J I v.2.1 i)) y (ak (J I v.2.1 i)).length (B+1) (fun k hk=>inner i hi k hk (h0 k hk)) (he.step fun m=>by
    show u6 (kF m) _ _ _ _ _ _ _ _=_
    unfold u6
    rw [cT (Nat.le_refl _)]
    simp only [cond_false]
    rw [dg i (by omega)])
   refine(this.step (f:=fun m=>(kF m).k2 id v.2.1 (v.2.1.length:Int) (i:Int)) fun m=>?_).mono (by omega)
   show u5 (kF m) _ _ _ _=_
   unfold u5
   rw [cq hi,bC hi];rfl)
 have hm:v.2.1.length*(1048576+2)≤1048576*(1048576+2):=Nat.mul_le_mul_right _ hl
 exact kI key (by omega)
def mY(l:List aJ)(N:List ax.D):Nat:=(N.filter fun d=>lh l d.2.1).length
def mZ(l:List aJ)(n:aJ):Int:=cond (kindOf n != 2) (ca l n.1:Int) (2+mY l (ak n):Int)
theorem VN{l:List aJ}{N:List ax.D}{j:Nat}(hj:j<N.length):mY l (N.take (j+1))=mY l (N.take j)+cond (lh l (J ax N j).2.1) 1 0:=by
 unfold mY
 rw [List.take_succ_eq_append_getElem hj,List.filter_append,List.length_append]
 congr 1
 rw [c7 hj]
 cases h:lh l (N[j]).2.1 <;> simp [List.filter_cons,h]
theorem VO(l:List aJ)(N:List ax.D)(j:Nat):mY l (N.take j)≤N.length:=by
 unfold mY
 refine Nat.le_trans (List.length_filter_le _ _) ?_
 rw [List.length_take];omega
theorem agJ(v:af.D)(id:Int)(hl:v.2.1.length≤1048576)(hn:dv v.2.1≤1048576){i:Nat}(h:ba v.2.1 id=some i):DF (v,id,())=some (mZ v.2.1 (J I v.2.1 i),()):=by
 show DD (uE aQ) v id=_
 unfold DD mZ
 obtain ⟨hi,b7⟩:=bZ h
 have hnl:=fO hi
 rw [l2 v id hl,h]
 simp only [av,Aj,Option.isNone_some,cond_false,hg]
 rw [bC hi]
 simp only [av]
 show cond (kindOf (J I v.2.1 i) != 2) _ _=_
 cases kindOf (J I v.2.1 i) != 2
 ·simp only [cond_false]
  have:=mQ (ak (J I v.2.1 i)).length (by omega) (fun m j=>uE m (i:Int) (2+mY v.2.1 ((ak (J I v.2.1 i)).take j.toNat):Int) j v) (fun _=>some ((2+mY v.2.1 (ak (J I v.2.1 i)):Int),())) (fun _=>True) (fun m _=>by
   simp only [uE,DE]
   rw [bC hi]
   simp only [av]
   show cond (decide (((ak (J I v.2.1 i)).length:Int)<((ak (J I v.2.1 i)).length:Int))) _ _=_
   rw [cT (Nat.le_refl _)]
   simp only [Int.toNat_natCast,List.take_length,cond_false]) (fun m j hj _ hw ih=>by
   have ih:=ih trivial
   rw [show((j:Int)+1).toNat=j+1 by omega,VN hj] at ih
   have hdl:=VO v.2.1 (ak (J I v.2.1 i)) j
   simp only [uE,DE]
   rw [bC hi]
   simp only [av]
   show cond (decide ((j:Int)<((ak (J I v.2.1 i)).length:Int))) ((aO (ak (J I v.2.1 i)).length (j:Int)).bind fun v3=>(xa (v,(J ax (ak (J I v.2.1 i)) v3).2.1,())).bind _) _=_
   rw [cq hj,bC hj]
   simp only [cond_true,av]
   rw [VJ v _ hl]
   simp only [av,hw,Int.toNat_natCast]
   revert ih
   cases lh v.2.1 (J ax (ak (J I v.2.1 i)) j).2.1
   ·intro ih
    exact ih
   ·intro ih
    simp only [cond_true] at ih ⊢
    rw [eh (by omega) (by omega)]
    rw [Int.natCast_add,← Int.add_assoc] at ih
    exact ih) (ak (J I v.2.1 i)).length 0 aQ (by omega) (jq (by omega)) trivial
  simpa [mY] using this
 ·simp only [cond_true]
  rw [FZ v id hl hn,b7];rfl
theorem VP(v:af.D)(n:aJ)(hl:v.2.1.length≤1048576)(hn:dv v.2.1≤1048576)(hnl:(ak n).length≤1048576):Fm (v,n,())=some (mZ v.2.1 n,()):=by
 show Fk (sB aQ) v n=_
 unfold Fk mZ
 show cond (kindOf n != 2) _ _=_
 cases kindOf n != 2
 ·simp only [cond_false]
  have:=mQ (ak n).length (by omega) (fun m j=>sB m v (2+mY v.2.1 ((ak n).take j.toNat):Int) (ak n) ((ak n).length:Int) j) (fun _=>some ((2+mY v.2.1 (ak n):Int),())) (fun _=>True) (fun m _=>by
   simp only [sB,Fl]
   rw [cT (Nat.le_refl _)]
   simp only [Int.toNat_natCast,List.take_length,cond_false]) (fun m j hj _ hw ih=>by
   have ih:=ih trivial
   rw [show((j:Int)+1).toNat=j+1 by omega,VN hj] at ih
   have hdl:=VO v.2.1 (ak n) j
   simp only [sB,Fl]
   rw [cq hj,bC hj]
   simp only [cond_true,av]
   rw [Gh v _ hl]
   simp only [av,hw,Int.toNat_natCast]
   revert ih
   cases lh v.2.1 (J ax (ak n) j).2.1
   ·intro ih
    exact ih
   ·intro ih
    simp only [cond_true] at ih ⊢
    rw [eh (by omega) (by omega)]
    rw [Int.natCast_add,← Int.add_assoc] at ih
    exact ih) (ak n).length 0 aQ (by omega) (jq (by omega)) trivial
  show sB aQ v 2 (ak n) ((ak n).length:Int) 0=_
  simpa [mY] using this
 ·simp only [cond_true]
  rw [F2 v _ hl hn];rfl
abbrev aF:Type:=List UInt8
def jx(c:aF):List aF→List aF
 | []=>[c]
 | p :: ps=>(c++p) :: ps
def eQ:aF→List aF
 | []=>[[]]
 | b :: l=>cond (b==47) ([] :: eQ l) (jx [b] (eQ l))
def full(p:aF):Bool := !bs p []
def cut(s:aF):List aF:=(eQ s).filter full
theorem agK(c:aF)(l:List aF):jx c l≠[]:=by cases l <;> simp [jx]
theorem Gk(s:aF):eQ s≠[]:=by
 cases s with
 | nil=>simp [eQ]
 | cons b l=>simp only [eQ];cases b==47 <;> simp [agK]
theorem No{l:List aF}(h:l≠[]):jx [] l=l:=by cases l <;> simp_all [jx]
theorem agL(a b:aF){l:List aF} : jx a (jx b l)=jx (a++b) l:=by cases l <;> simp [jx]
theorem Np{p:aF} : full p=false↔p=[]:=by unfold full bs;simp
theorem agM(c:aF):(jx c [[]]).filter full=cond (full c) [c] []:=by
 simp only [jx,List.append_nil,List.filter_cons,List.filter_nil]
 cases full c <;> rfl
theorem agN(s:aF){i:Nat}(h:i<s.length):s.drop i=s.getD i 0 :: s.drop (i+1):=by
 rw [List.drop_eq_getElem_cons h]
 congr 1
 rw [List.getD_eq_getElem?_getD,List.getElem?_eq_getElem h];rfl
theorem agO{s:aF}{a i:Nat}(ha:a≤i)(hi:i<s.length):part s a (i+1-a)=part s a (i-a)++[s.getD i 0]:=by
 unfold part
 rw [show i+1-a=(i-a)+1 by omega,List.take_add_one]
 congr 1
 rw [List.getElem?_drop,show a +(i-a)=i by omega,List.getElem?_eq_getElem hi,List.getD_eq_getElem?_getD,List.getElem?_eq_getElem hi];rfl
theorem VQ(b:UInt8):(((b.toNat:Nat):Int)==47)=(b==47):=by
 rw [Bool.eq_iff_iff,beq_iff_eq,beq_iff_eq]
 constructor
 ·intro h
  have:b.toNat=47:=by omega
  exact UInt8.toNat_inj.1 (by rw [this];rfl)
 ·rintro rfl;rfl
theorem agP{s:aF}{a n:Nat}(h:a+n≤s.length):(part s a n).length=n:=by unfold part;rw [List.length_take,List.length_drop];omega
theorem VR{s:aF}{a i:Nat}(ha:a≤i)(hi:i≤s.length):full (part s a (i-a))=decide ((i:Int) >(a:Int)):=by
 by_cases h:a<i
 ·rw [decide_eq_true (show(i:Int) >(a:Int) by omega)]
  rw [← Bool.not_eq_false,Np]
  intro h0
  have:=agP (s:=s) (a:=a) (n:=i-a) (by omega)
  rw [h0] at this
  simp at this;omega
 ·have:i-a=0:=by omega
  rw [this,decide_eq_false (show ¬(i:Int) >(a:Int) by omega)]
  exact Np.2 (by simp [part])
theorem Gl(s:aF)(hl:s.length≤1048576):w5 (s,())=some (cut s,()):=by
 show C7 (qH aQ) s=_
 unfold C7
 have key:∀(r i m a:Nat) (out:List aF),i+r=s.length→r+1<m→a≤i→out.length≤i→qH m s (a:Int) (i:Int) out=some (out++(jx (part s a (i-a)) (eQ (s.drop i))).filter full,()):=by
  intro r
  induction r with
  | zero =>
   intro i m a out hi hm ha ho
   obtain ⟨m,rfl,pw⟩:=fuel hm
   obtain ⟨m,rfl,_⟩:=fuel pw
   have bR:i=s.length:=by omega
   have lX:∀(x:Int) (o:List aF),qH (m+1) s x (aK ((i:Int)+1)) o=some (o,()):=by
    intro x o
    simp only [qH,zd]
    rw [dg i (by omega),decide_eq_false (by omega)];rfl
   rw [qH,zd,decide_eq_true (show(i:Int)≤(s.length:Int) by omega),show((i:Int) ==(s.length:Int))=true by simp;omega]
   simp only [cond_true]
   rw [List.drop_of_length_le (by omega),eQ,agM,VR ha (by omega)]
   by_cases h:(i:Int) >(a:Int)
   ·rw [decide_eq_true h]
    simp only [cond_true]
    rw [kp ha (by omega)]
    simp only [av]
    rw [cH (by simp only [List.length_cons,List.length_nil];omega)]
    simp only [cond_true,lX]
   ·rw [decide_eq_false h]
    simp only [cond_false,lX,List.append_nil]
  | succ r ih =>
   intro i m a out hi hm ha ho
   obtain ⟨m,rfl,hm⟩:=fuel hm
   have cA:i<s.length:=by omega
   rw [qH,zd,decide_eq_true (show(i:Int)≤(s.length:Int) by omega),show((i:Int) ==(s.length:Int))=false by simp;omega]
   simp only [cond_true,cond_false]
   rw [bC cA,agN s cA,eQ]
   simp only [av]
   rw [VQ,dg i (by omega)]
   cases s.getD i 0==47
   ·simp only [cond_false]
    rw [ih (i+1) m a out (by omega) (by omega) (by omega) (by omega),agL,← agO ha cA]
   ·simp only [cond_true]
    have hz:part s (i+1) (i+1-(i+1))=[]:=by simp [part]
    have hs:(jx (part s a (i-a)) ([] :: eQ (s.drop (i+1)))).filter full=cond (full (part s a (i-a))) [part s a (i-a)] []++(eQ (s.drop (i+1))).filter full:=by
     simp only [jx,List.append_nil,List.filter_cons]
     cases full (part s a (i-a)) <;> rfl
    rw [hs,VR ha (by omega)]
    by_cases h:(i:Int) >(a:Int)
    ·rw [decide_eq_true h]
     simp only [cond_true]
     rw [kp ha (by omega)]
     simp only [av]
     rw [cH (by simp only [List.length_cons,List.length_nil];omega)]
     simp only [cond_true]
     rw [ih (i+1) m (i+1) _ (by omega) (by omega) (by omega) (by simp;omega),hz,No (Gk _),List.append_assoc]
    ·rw [decide_eq_false h]
     simp only [cond_false]
     rw [ih (i+1) m (i+1) _ (by omega) (by omega) (by omega) (by omega),hz,No (Gk _),List.nil_append]
 have:=key s.length 0 aQ 0 [] (by omega) (jq (by omega)) (by omega) (by simp)
 rw [show part s 0 (0-0)=[] by simp [part],List.drop_zero,No (Gk _)] at this
 simpa [cut] using this
theorem VS{s:aF}(h:Lib.indexByte s 47 = -1):eQ s=[s]∧s.count 47=0:=by
 induction s with
 | nil=>exact⟨rfl,rfl⟩
 | cons b l ih =>
  unfold Lib.indexByte at h
  cases hb:b==47
  ·rw [hb] at h
   simp only [Bool.false_eq_true,if_false] at h
   have hl:Lib.indexByte l 47 = -1:=by
    by_cases h1:Lib.indexByte l 47 = -1
    ·exact h1
    ·have h2:=Lib.indexByte_ge l 47
     rw [if_neg (by simpa using h1)] at h
     omega
   obtain ⟨i1,i2⟩:=ih hl
   refine⟨by rw [eQ,hb,i1];rfl,?_⟩
   rw [List.count_cons,i2,hb];rfl
  ·rw [hb] at h;simp at h
theorem VT{s:aF}{k:Nat}(h:Lib.indexByte s 47=(k:Int)):k<s.length∧eQ s=s.take k :: eQ (s.drop (k+1))∧s.count 47=(s.drop (k+1)).count 47+1:=by
 induction s generalizing k with
 | nil=>unfold Lib.indexByte at h;omega
 | cons b l ih =>
  unfold Lib.indexByte at h
  cases hb:b==47
  ·rw [hb] at h
   simp only [Bool.false_eq_true,if_false] at h
   have h2:=Lib.indexByte_ge l 47
   by_cases h1:Lib.indexByte l 47 = -1
   ·rw [if_pos (by simpa using h1)] at h;omega
   ·rw [if_neg (by simpa using h1)] at h
    obtain ⟨j,rfl⟩:∃j,k=j+1:=⟨k-1,by omega⟩
    obtain ⟨i1,i2,i3⟩:=ih (k:=j) (by omega)
    refine⟨by simp;omega,?_,?_⟩
    ·rw [eQ,hb,i2];rfl
    ·rw [List.count_cons,i3,hb];rfl
  ·rw [hb] at h
   simp only [if_true] at h
   have:k=0:=by omega
   subst this
   refine⟨by simp,?_,?_⟩
   ·rw [eQ,hb];rfl
   ·rw [List.count_cons,hb];rfl
theorem VU(s:aF):Lib.indexByte s 47 = -1∨∃k:Nat,Lib.indexByte s 47=k:=by
 have:=Lib.indexByte_ge s 47
 by_cases h:Lib.indexByte s 47 = -1
 ·exact .inl h
 ·exact .inr ⟨(Lib.indexByte s 47).toNat,by omega⟩
theorem agQ(s:aF):EL (s,[47],())=some (Lib.indexByte s 47,()):=by
 show K8 s [47]=_
 unfold K8
 show Option.bind (K7 s [47]) _=_
 unfold K7
 by_cases h:bs [47] s=true
 ·rw [h]
  have:s=[47]:=by unfold bs at h;simp only [decide_eq_true_eq] at h;exact h.symm
  subst this;rfl
 ·rw [Bool.not_eq_true] at h
  rw [h]
  rfl
theorem agR(s:aF):K9 (s,[47],())=some ((s.count 47:Int),()):=by
 show EN (EO aQ) s [47]=_
 unfold EN
 rfl
theorem agS:∀(r:Nat) (s:aF) (i n m:Nat) (a:List aF),s.length≤1048576→n≤1048576→s.count 47=r→i+r=n→a.length=n+1→r+1<m →
  (qY m).db s [47] 0 (n:Int) (i:Int) a=some (a.take i++eQ s,()):=by
 intro r
 induction r with
 | zero =>
  intro s i n m a hs hn hc hi ha hm
  obtain ⟨m,rfl,pw⟩:=fuel hm
  obtain ⟨m,rfl,_⟩:=fuel pw
  have:i=n:=by omega
  subst this
  show zO (qY (m+1)) _ _ _ _ _ _=_
  unfold zO
  rw [cT (Nat.le_refl _)]
  simp only [cond_false]
  show K' (qY m) _ _ _=_
  unfold K'
  rw [bC (by omega)]
  simp only [av,Nat.zero_add]
  rw [dg i (by omega)]
  show Option.bind (d' (a.set i s).length ((0:Nat):Int) ((i+1:Nat):Int)) _=_
  rw [kp (by omega) (by rw [List.length_set];omega)]
  simp only [av,Nat.zero_add,Nat.sub_zero]
  have hsp:eQ s=[s]:=by
   rcases VU s with h | ⟨k,h⟩
   ·exact(VS h).1
   ·have:=(VT h).2.2;omega
  rw [hsp,Ai,List.take_succ_eq_append_getElem (by rw [List.length_set];omega),List.getElem_set_self,List.take_set_of_le (by omega)]
 | succ r ih =>
  intro s i n m a hs hn hc hi ha hm
  obtain ⟨m,rfl,hm⟩:=fuel hm
  show zO (qY m) _ _ _ _ _ _=_
  unfold zO
  rw [cq (by omega),agQ]
  simp only [cond_true,av]
  obtain ⟨k,hk⟩:∃k:Nat,Lib.indexByte s 47=k:=by
   rcases VU s with h | h
   ·have:=(VS h).2;omega
   ·exact h
  obtain ⟨h1,h2,h3⟩:=VT hk
  rw [hk,decide_eq_false (by omega)]
  simp only [cond_false]
  rw [show aK ((k:Int)+0)=(k:Int) by rw [Int.add_zero];exact eh (by omega) (by omega)]
  show Option.bind (d' s.length ((0:Nat):Int) (k:Int)) _=_
  rw [kp (by omega) (by omega)]
  simp only [av]
  rw [bC (by omega)]
  simp only [av,Nat.zero_add]
  unfold SL
  simp only
  rw [show aK ((k:Int) +(([47]:aF).length:Int))=((k+1:Nat):Int) from dg k (by omega),kp (by omega) (Nat.le_refl _)]
  simp only [av]
  rw [MS,dg i (by omega),ih (s.drop (k+1)) (i+1) n m _ (by rw [List.length_drop];omega) hn (by omega) (by omega) (by rw [List.length_set];exact ha) (by omega)]
  rw [h2,List.take_succ_eq_append_getElem (by rw [List.length_set];omega),List.getElem_set_self,List.take_set_of_le (by omega),Nat.sub_zero,Ai,List.append_assoc];rfl
theorem agT(s:aF)(hl:s.length≤1048576):Lc (s,[47],())=some (eQ s,()):=by
 show Lb s [47]=_
 unfold Lb
 have:La (s,[47],0,-1,())=some (eQ s,()):=by
  show EP (qY aQ) s [47] 0 (-1)=_
  unfold EP
  have hcl:s.count 47≤s.length:=List.count_le_length
  rw [agR]
  show(qY aQ).c5 s [47] 0 (aK ((s.count 47:Int)+1))=_
  obtain ⟨q,hq,h7⟩:=iI 1
  rw [hq]
  show K_ (qY q) _ _ _ _=_
  unfold K_
  rw [dg _ (by omega),dg _ (by omega),show jC ((s.count 47+1:Nat):Int) ((s.length+1:Nat):Int)=((s.count 47+1:Nat):Int) by rw [af8];omega]
  rw [decide_eq_true (by omega),decide_eq_true rfl,Int.toNat_natCast,cH (by omega)]
  simp only [Bool.and_self,cond_true]
  rw [show aK (((s.count 47+1:Nat):Int)-1)=((s.count 47:Nat):Int) by rw [eh (by omega) (by omega)];omega]
  have:=agS (s.count 47) s 0 (s.count 47) q (List.replicate (s.count 47+1) []) hl (by omega) rfl (by omega) (by simp) (by omega)
  simpa using this
 rw [this];rfl
theorem VV(s:aF)(hl:s.length≤1048576):su (s,())=some (cut s,()):=by
 show ES (sr aQ) s=_
 unfold ES
 rw [agT s hl]
 simp only [av]
 have mS:(eQ s).length≤1048577:=by
  have:∀s:aF,(eQ s).length≤s.length+1:=by
   intro s
   induction s with
   | nil=>simp [eQ]
   | cons b l ih =>
    rw [eQ]
    cases b==47
    ·simp only [cond_false,List.length_cons]
     cases hs:eQ l with
     | nil=>simp [jx]
     | cons p ps=>rw [hs] at ih;simp only [jx,List.length_cons] at ih ⊢;omega
    ·simp only [cond_true,List.length_cons];omega
  have:=this s;omega
 show sr aQ _ _ _ _=some ((eQ s).filter full,())
 generalize eQ s=l at mS
 have:=mQ l.length (by omega) (fun m i=>sr m (l.length:Int) i ((l.take i.toNat).filter full) l) (fun _=>some (l.filter full,())) (fun _=>True) (fun m _=>by
  simp only [sr,ET]
  rw [cT (Nat.le_refl _)]
  simp only [Int.toNat_natCast,List.take_length,cond_false]) (fun m i hi _ hw ih=>by
  have ih:=ih trivial
  have aB:J ad.str l i=l[i]:=c7 (t:=.str) hi
  rw [show((i:Int)+1).toNat=i+1 by omega,List.take_succ_eq_append_getElem hi,List.filter_append,List.filter_cons,List.filter_nil] at ih
  simp only [sr,ET]
  rw [cq hi,bC hi]
  simp only [cond_true,av,Nat.zero_add,hw,Int.toNat_natCast]
  rw [aB]
  show cond (full l[i]) _ _=_
  have h9:((l.take i).filter full).length≤i:=Nat.le_trans (List.length_filter_le _ _) (by rw [List.length_take];omega)
  cases hf:full l[i]
  ·rw [hf] at ih
   simp only [Bool.false_eq_true,if_false,List.append_nil] at ih
   exact ih
  ·rw [hf] at ih
   simp only [if_true] at ih
   simp only [cond_true]
   rw [cH (by simp only [List.length_cons,List.length_nil];omega)]
   exact ih) l.length 0 aQ (by omega) (jq (by omega)) trivial
 simpa using this
theorem agU{s:aF} : ∀ {p:aF},p∈eQ s→∀b,b∈p→b∈s∧(b==47)=false:=by
 induction s with
 | nil=>intro p au b hb;simp [eQ] at au;subst au;simp at hb
 | cons c l ih =>
  intro p au b hb
  rw [eQ] at au
  cases hc:c==47
  ·rw [hc] at au
   simp only [cond_false] at au
   cases hs:eQ l with
   | nil=>exact absurd hs (Gk l)
   | cons q alH =>
    rw [hs] at au ih
    simp only [jx,List.mem_cons] at au
    rcases au with rfl | au
    ·simp only [List.cons_append,List.nil_append,List.mem_cons] at hb
     rcases hb with rfl | hb
     ·exact⟨List.mem_cons_self,hc⟩
     ·obtain ⟨h1,h2⟩:=ih List.mem_cons_self b hb
      exact⟨List.mem_cons_of_mem _ h1,h2⟩
    ·obtain ⟨h1,h2⟩:=ih (List.mem_cons_of_mem _ au) b hb
     exact⟨List.mem_cons_of_mem _ h1,h2⟩
  ·rw [hc] at au
   simp only [cond_true,List.mem_cons] at au
   rcases au with rfl | au
   ·simp at hb
   ·obtain ⟨h1,h2⟩:=ih au b hb
    exact⟨List.mem_cons_of_mem _ h1,h2⟩
theorem agV(s:aF):(eQ s).length≤s.length+1:=by
 induction s with
 | nil=>simp [eQ]
 | cons b l ih =>
  rw [eQ]
  cases b==47
  ·simp only [cond_false,List.length_cons]
   cases hs:eQ l with
   | nil=>simp [jx]
   | cons p ps=>rw [hs] at ih;simp only [jx,List.length_cons] at ih ⊢;omega
  ·simp only [cond_true,List.length_cons];omega
theorem Gm(s:aF):(cut s).length≤s.length+1:=Nat.le_trans (List.length_filter_le _ _) (agV s)
def sO(p:aF):Prop:=p≠[]∧∀i,i<p.length→sI (nb p i)=true
theorem Gn{s:aF}(h:jt s=true):∀p,p∈cut s→sO p:=by
 intro p au
 obtain ⟨h1,h2⟩:=List.mem_filter.1 au
 refine⟨fun h0=>(by rw [Np.2 h0] at h2;cases h2),fun i hi=>?_⟩
 have hm:p.getD i 0∈p:=by rw [List.getD_eq_getElem?_getD,List.getElem?_eq_getElem hi];exact List.getElem_mem hi
 obtain ⟨h3,h4⟩:=agU h1 _ hm
 unfold jt at h
 rw [Bool.and_eq_true] at h
 obtain ⟨j,hj,he⟩:=List.mem_iff_getElem.1 h3
 have:=lf.1 h.1 j hj
 have e:nb s j=nb p i:=by unfold nb;rw [List.getD_eq_getElem?_getD,List.getElem?_eq_getElem hj,← he];rfl
 rw [e] at this
 have a7:(nb p i==47)=false:=by rw [← h4];exact VQ _
 rw [a7,Bool.false_or] at this
 exact this
theorem lt_irrefl:∀x:aF,dx x x=false
 | []=>rfl
 | a :: x=>by
  have:=lt_irrefl x
  unfold dx at *
  rw [Op.bytesLess]
  simp [this]
theorem VW:∀x y:aF,dx x y=false→x=y∨dx y x=true
 | [],[],_=>.inl rfl
 | [],_ :: _,h=>by unfold dx Op.bytesLess at h;cases h
 | a :: x,[],_=>.inr (by unfold dx Op.bytesLess;rfl)
 | a :: x,b :: y,h=>by
  have ih:=VW x y
  unfold dx at *
  rw [Op.bytesLess] at h
  simp only [Bool.or_eq_false_iff,decide_eq_false_iff_not,Bool.and_eq_false_iff,beq_eq_false_iff_ne] at h
  obtain ⟨h1,h2⟩:=h
  by_cases lN:a=b
  ·subst lN
   rcases h2 with h2 | h2
   ·exact absurd rfl h2
   ·rcases ih h2 with h3 | h3
    ·exact .inl (by rw [h3])
    ·exact .inr (by rw [Op.bytesLess];simp [h3])
  ·refine .inr ?_
   rw [Op.bytesLess]
   have:b<a:=by
    rcases UInt8.lt_or_lt_of_ne lN with h | h
    ·exact absurd h h1
    ·exact h
   simp [this]
theorem As:∀ {x y z:aF},dx x y=true→dx y z=true→dx x z=true
 | _,[],_,h,_=>by unfold dx at h;simp [Op.bytesLess] at h
 | _,_ :: _,[],_,h=>by unfold dx at h;simp [Op.bytesLess] at h
 | [],_ :: _,_ :: _,_,_=>by unfold dx;simp [Op.bytesLess]
 | a :: x,b :: y,c :: z,h,k=>by
  have ih:=@As x y z
  unfold dx at *
  rw [Op.bytesLess] at h k ⊢
  simp only [Bool.or_eq_true,decide_eq_true_eq,Bool.and_eq_true,beq_iff_eq] at h k ⊢
  rcases h with h | ⟨rfl,h⟩
  ·rcases k with k | ⟨rfl,k⟩
   ·exact .inl (UInt8.lt_trans h k)
   ·exact .inl h
  ·rcases k with k | ⟨rfl,k⟩
   ·exact .inl k
   ·exact .inr ⟨rfl,ih h k⟩
theorem VX{x y:aF}(h:dx x y=true):dx y x=false:=by
 cases hk:dx y x
 ·rfl
 ·have:=As h hk;rw [lt_irrefl] at this;cases this
theorem Gp{x y:aF}(h:dx x y=true):x≠y:=by rintro rfl;rw [lt_irrefl] at h;cases h
theorem Nq{x y:aF}(h:x≠y):dx y x = !dx x y:=by
 cases hk:dx x y
 ·rcases VW x y hk with h1 | h1
  ·exact absurd h1 h
  ·rw [h1];rfl
 ·rw [VX hk];rfl
def jb(N:List ax.D):Prop:=N.Pairwise fun a b=>dx a.1 b.1=true
theorem agW{N:List ax.D}(h:∀j,j+1<N.length→dx (J ax N j).1 (J ax N (j+1)).1=true):jb N:=by
 unfold jb
 rw [List.pairwise_iff_getElem]
 have key:∀d j,j+d+1<N.length→dx (J ax N j).1 (J ax N (j+d+1)).1=true:=by
  intro d
  induction d with
  | zero=>exact fun j hj=>h j hj
  | succ d ih=>exact fun j hj=>As (ih j (by omega)) (h (j+d+1) (by omega))
 intro i j hi hj iM
 have:=key (j-i-1) i (by omega)
 rw [show i +(j-i-1)+1=j by omega,c7 hi,c7 hj] at this
 exact this
theorem agX{N:List ax.D}(h:jb N){i j:Nat}(iM:i<j)(hj:j<N.length):dx (J ax N i).1 (J ax N j).1=true:=by
 unfold jb at h
 rw [c7 hj,c7 (t:=ax) (xs:=N) (i:=i) (by omega)]
 exact List.pairwise_iff_getElem.1 h i j (by omega) hj iM
structure lk(l:List aJ)(x:aJ):Prop where
 mode:0≤e7 x∧e7 x≤2047
 uid:0≤et x∧et x≤1000
 gid:0≤fi x∧fi x≤1000
 kind:kindOf x=1∨kindOf x=2∨kindOf x=3
 plain:kindOf x≠2→eP x=0∧eD x=0∧ak x=[]
 file:kindOf x=1→(bA x).length≤64
 l3:kindOf x=3→jt (bA x)=true∧e7 x=511
 dir:kindOf x=2→bA x=[]∧(0≤eP x∧eP x≤400)∧(0≤eD x∧eD x≤24)∧(ak x).length≤12
 names:∀d,d∈ak x→ie d.1=true∧d.2.1≠1∧(ba l d.2.1).isSome=true
 sorted:jb (ak x)
theorem Gq{x:aJ} : plain x=true↔eP x=0∧eD x=0∧ak x=[]:=by
 unfold plain
 simp only [Bool.and_eq_true,beq_iff_eq]
 constructor
 ·rintro ⟨⟨h1,h2⟩,h3⟩;exact⟨h2,h3,List.length_eq_zero_iff.1 (by omega)⟩
 ·rintro ⟨h1,h2,h3⟩;exact⟨⟨by rw [h3];rfl,h1⟩,h2⟩
theorem VY{l:List aJ}{N:List ax.D} : ft N.length (o2 l N)=true↔(∀d,d∈N→ie d.1=true∧d.2.1≠1∧(ba l d.2.1).isSome=true)∧jb N:=by
 rw [lf]
 unfold o2
 simp only [Bool.and_eq_true,Bool.not_eq_true',Bool.and_eq_false_iff,decide_eq_false_iff_not,Bool.not_eq_false',beq_eq_false_iff_ne]
 constructor
 ·intro h
  refine⟨fun d ag=>?_,agW fun j hj=>?_⟩
  ·obtain ⟨i,hi,he⟩:=fx ag
   obtain ⟨⟨⟨h1,_⟩,h3⟩,h4⟩:=h i hi
   rw [he] at h1 h3 h4
   exact⟨h1,h3,h4⟩
  ·obtain ⟨⟨⟨_,h2⟩,_⟩,_⟩:=h (j+1) hj
   rcases h2 with h2 | h2
   ·omega
   ·rw [Nat.add_sub_cancel] at h2;exact h2
 ·rintro ⟨h1,h2⟩ i hi
  obtain ⟨k1,k2,k3⟩:=h1 _ (cP hi)
  refine⟨⟨⟨k1,?_⟩,k2⟩,k3⟩
  by_cases h0:0<i
  ·exact .inr (agX h2 (by omega) hi)
  ·exact .inl h0
theorem VZ{l:List aJ}{x:aJ} : nX l x=true↔lk l x:=by
 unfold nX
 simp only [Bool.and_eq_true]
 constructor
 ·rintro ⟨⟨⟨h1,h2⟩,h3⟩,h⟩
  have h1:=dN.1 h1
  have h2:=dN.1 h2
  have h3:=dN.1 h3
  by_cases k1:kindOf x=1
  ·rw [cF (show x.2.1=1 from k1)] at h
   simp only [cond_true,Bool.and_eq_true,decide_eq_true_eq] at h
   obtain ⟨en,fo,gg⟩:=Gq.1 h.1
   exact⟨h1,h2,h3,.inl k1,fun _=>⟨en,fo,gg⟩,fun _=>by omega,fun k=>by omega,fun k=>by omega,by rw [gg];simp,by rw [gg];exact List.Pairwise.nil⟩
  ·rw [b4 (show ¬x.2.1=1 from k1)] at h
   by_cases k3:kindOf x=3
   ·rw [cF (show x.2.1=3 from k3)] at h
    simp only [cond_true,cond_false,Bool.and_eq_true,beq_iff_eq] at h
    obtain ⟨en,fo,gg⟩:=Gq.1 h.1.1
    exact⟨h1,h2,h3,.inr (.inr k3),fun _=>⟨en,fo,gg⟩,fun k=>by omega,fun _=>⟨h.1.2,h.2⟩,fun k=>by omega,by rw [gg];simp,by rw [gg];exact List.Pairwise.nil⟩
   ·rw [b4 (show ¬x.2.1=3 from k3)] at h
    by_cases k2:kindOf x=2
    ·rw [cF (show x.2.1=2 from k2)] at h
     simp only [cond_true,cond_false,Bool.and_eq_true,sM,decide_eq_true_eq] at h
     obtain ⟨⟨⟨e1,e2⟩,e3⟩,fr,qq⟩:=h
     obtain ⟨fp,jY⟩:=VY.1 fr
     exact⟨h1,h2,h3,.inr (.inl k2),fun k=>absurd k2 k,fun k=>by omega,fun k=>by omega,fun _=>⟨by unfold bs at e1;simpa using e1,dN.1 e2,dN.1 e3,by omega⟩,fp,jY⟩
    ·rw [b4 (show ¬x.2.1=2 from k2)] at h
     simp at h
 ·intro h
  refine⟨⟨⟨dN.2 h.mode,dN.2 h.uid⟩,dN.2 h.gid⟩,?_⟩
  rcases h.kind with k | k | k
  ·have k':x.2.1=1:=k
   rw [cF k']
   simp only [cond_true,Bool.and_eq_true,decide_eq_true_eq]
   exact⟨Gq.2 (h.plain (by omega)),by have:=h.file k;omega⟩
  ·have k':x.2.1=2:=k
   rw [b4 (show ¬x.2.1=1 from fun h1=>by have:kindOf x=1:=h1;omega),b4 (show ¬x.2.1=3 from fun h1=>by have:kindOf x=3:=h1;omega),cF k']
   simp only [cond_true,cond_false,Bool.and_eq_true,sM,decide_eq_true_eq]
   obtain ⟨d1,d2,d3,d4⟩:=h.dir k
   exact⟨⟨⟨by rw [d1];rfl,dN.2 d2⟩,dN.2 d3⟩,VY.2 ⟨h.names,h.sorted⟩,by omega⟩
  ·have k':x.2.1=3:=k
   rw [b4 (show ¬x.2.1=1 from fun h1=>by have:kindOf x=1:=h1;omega),cF k']
   simp only [cond_true,cond_false,Bool.and_eq_true,beq_iff_eq]
   exact⟨⟨Gq.2 (h.plain (by omega)),(h.l3 k).1⟩,(h.l3 k).2⟩
def cw(v:af.D):Int:=v.1
def aY(x:aJ):Int:=x.1
structure bz(v:af.D):Prop where
 next:2≤cw v∧cw v≤100000
 len:1≤v.2.1.length∧v.2.1.length≤24
 root:aY (J I v.2.1 0)=1∧kindOf (J I v.2.1 0)=2
 ids:∀i,i<v.2.1.length→1≤aY (J I v.2.1 i)∧aY (J I v.2.1 i)≤cw v-1
 Gr:∀i,i+1<v.2.1.length→aY (J I v.2.1 i)<aY (J I v.2.1 (i+1))
 ino:∀i,i<v.2.1.length→lk v.2.1 (J I v.2.1 i)
 reach:∀i,1≤i→i<v.2.1.length→dQ v.2.1 1 (J I v.2.1 i).1
 once:∀i,1≤i→i<v.2.1.length→kindOf (J I v.2.1 i)=2→ca v.2.1 (J I v.2.1 i).1=1
 bytes:bytesOf v.2.1≤400
 over:gr v.2.1=false
theorem Nr{l:List aJ}(h:∀i,i+1<l.length→aY (J I l i)<aY (J I l (i+1))):ig l:=by
 have cA:∀d j,j+d+1<l.length→aY (J I l j)<aY (J I l (j+d+1)):=by
  intro d
  induction d with
  | zero=>intro j hj;exact h j hj
  | succ d ih=>intro j hj;exact Int.lt_trans (ih j (by omega)) (h (j+d+1) hj)
 intro x hx
 unfold ba
 rw [ic]
 refine⟨hx,by simp,fun j hj=>?_⟩
 obtain ⟨d,rfl⟩:∃d,x=j+d+1:=⟨x-j-1,by omega⟩
 have:=cA d j hx
 rw [beq_eq_false_iff_ne]
 exact Int.ne_of_lt this
theorem V0{v:af.D}(hn:2≤cw v∧cw v≤100000):ft v.2.1.length (mT v)=true↔(∀i,i<v.2.1.length→1≤aY (J I v.2.1 i)∧aY (J I v.2.1 i)≤cw v-1) ∧
  (∀i,i+1<v.2.1.length→aY (J I v.2.1 i)<aY (J I v.2.1 (i+1)))∧∀i,i<v.2.1.length→lk v.2.1 (J I v.2.1 i):=by
 rw [lf]
 unfold mT
 rw [show aK (v.1-1)=cw v-1 from eh (a:=cw v-1) (by omega) (by omega)]
 simp only [Bool.and_eq_true,Bool.not_eq_true',Bool.and_eq_false_iff,decide_eq_false_iff_not]
 constructor
 ·intro h
  refine⟨fun i hi=>dN.1 (h i hi).1.1,fun i hi=>?_,fun i hi=>VZ.1 (h i hi).2⟩
  rcases (h (i+1) hi).1.2 with h2 | h2
  ·omega
  ·rw [Nat.add_sub_cancel] at h2;exact Int.not_le.1 h2
 ·rintro ⟨h1,h2,h3⟩ i hi
  refine⟨⟨dN.2 (h1 i hi),?_⟩,VZ.2 (h3 i hi)⟩
  by_cases h0:0<i
  ·have:=h2 (i-1) (by omega)
   rw [show i-1+1=i by omega] at this
   exact .inr (Int.not_le.2 this)
  ·exact .inl h0
theorem ll{v:af.D} : kc v=true↔bz v:=by
 unfold kc
 simp only [Bool.and_eq_true,beq_iff_eq]
 constructor
 ·rintro ⟨⟨⟨⟨h1,h2⟩,h3⟩,h4⟩,a7⟩
  have h1:=dN.1 h1
  have h2:=dN.1 h2
  by_cases a1:ft v.2.1.length (mT v)=true
  case neg=>rw [Bool.not_eq_true] at a1;rw [a1] at a7;cases a7
  rw [a1] at a7
  obtain ⟨i1,i2,i3⟩:=(V0 h1).1 a1
  have ag:=Nr i2
  by_cases a2:ft (v.2.1.length-1) (kb v.2.1)=true
  case neg=>rw [Bool.not_eq_true] at a2;rw [a2] at a7;cases a7
  rw [a2] at a7
  simp only [cond_true,Bool.and_eq_true,Bool.not_eq_true',decide_eq_true_eq] at a7
  have a2:=lf.1 a2
  unfold kb at a2
  simp only [Bool.and_eq_true,Bool.not_eq_true',Bool.and_eq_false_iff,beq_eq_false_iff_ne,bne_eq_false_iff_eq] at a2
  refine⟨h1,by omega,⟨h3,h4⟩,i1,i2,i3,fun i hi hl=>?_,fun i hi hl hk=>?_,by omega,a7.2⟩
  ·have:=(a2 (i-1) (by omega)).1
   rw [show i-1+1=i by omega] at this
   exact(xE v.2.1 ag 1 hl).1 this
  ·have:=(a2 (i-1) (by omega)).2
   rw [show i-1+1=i by omega] at this
   rcases this with h | h
   ·exact absurd hk h
   ·omega
 ·intro h
  have ag:=Nr h.Gr
  refine⟨⟨⟨⟨dN.2 h.next,dN.2 (by have:=h.len;omega)⟩,h.root.1⟩,h.root.2⟩,?_⟩
  rw [(V0 h.next).2 ⟨h.ids,h.Gr,h.ino⟩]
  have a2:ft (v.2.1.length-1) (kb v.2.1)=true:=by
   rw [lf]
   unfold kb
   simp only [Bool.and_eq_true,Bool.not_eq_true',Bool.and_eq_false_iff,beq_eq_false_iff_ne,bne_eq_false_iff_eq]
   intro i hi
   refine⟨(xE v.2.1 ag 1 (by omega)).2 (h.reach (i+1) (by omega) (by omega)),?_⟩
   by_cases hk:kindOf (J I v.2.1 (i+1))=2
   ·have:=h.once (i+1) (by omega) (by omega) hk
    exact .inr (by rw [this];rfl)
   ·exact .inl hk
  rw [a2]
  simp only [cond_true,Bool.and_eq_true,Bool.not_eq_true',decide_eq_true_eq]
  exact⟨by have:=h.bytes;omega,h.over⟩
structure n0(l:List aJ):Prop where
 len:l.length≤1048576
 cG:dv l≤1048576
 fR:ig l
 gN:q9 l
 bare:∀i,i<l.length→kindOf (J I l i)≠2→ak (J I l i)=[]
 l3:∀i,i<l.length→kindOf (J I l i)=3→jt (bA (J I l i))=true
 root:∃i,ba l 1=some i∧kindOf (J I l i)=2
theorem bz.fR{v:af.D}(h:bz v):ig v.2.1:=Nr h.Gr
theorem bz.gN{v:af.D}(h:bz v):q9 v.2.1:=fun i hi d ag=>((h.ino i hi).names d ag).2.2
theorem bz.kK{v:af.D}(h:bz v)(hb:vm v):n0 v.2.1 :=
 ⟨hb.len,hb.cG,h.fR,h.gN,fun i hi hk=>((h.ino i hi).plain hk).2.2,fun i hi hk=>((h.ino i hi).l3 hk).1,0,by
  have:=h.fR 0 (by have:=h.len;omega)
  rwa [show(J I v.2.1 0).1=1 from h.root.1] at this,h.root.2⟩
def kL(l:List aJ)(id:Int):Prop:=∃i,ba l id=some i∧kindOf (J I l i)=2
def cc(r:aV.D):Int:=r.1
def nameOf(r:aV.D):aF:=r.2.1
def bn(r:aV.D):Int:=r.2.2.1
def bG(r:aV.D):Int:=r.2.2.2.1
structure l4(l:List aJ)(r:aV.D):Prop where
 there:bG r=0→∃i,ba l (bn r)=some i
 named:bG r=0→nameOf r≠[]→bn r≠0∧ie (nameOf r)=true∧∃d,ba l (cc r)=some d∧kindOf (J I l d)=2∧cJ (ak (J I l d)) (nameOf r)=bn r
 bare:bG r=0→nameOf r=[]→kL l (bn r)
 new:bG r=2→nameOf r≠[]→bn r=0∧ie (nameOf r)=true∧∃d,ba l (cc r)=some d∧kindOf (J I l d)=2∧cJ (ak (J I l d)) (nameOf r)=0
theorem agY(l:List aJ){c:Int}(h0:c≠0)(a b:Int)(h2:c≠2∨True):l4 l ((0:Int),([]:aF),(0:Int),c,()) :=
 ⟨fun h=>absurd h h0,fun h=>absurd h h0,fun h=>absurd h h0,fun _ h=>absurd rfl h⟩
def sP(bl:Bool)(l:List aJ)(r:aV.D):Prop:=l4 l r∧(bl=true→bG r=0→∀i,ba l (bn r)=some i→kindOf (J I l i)≠3)
theorem xI(bl:Bool)(l:List aJ){c:Int}(h0:c≠0)(a b:Int)(h2:c≠2∨True):sP bl l ((0:Int),([]:aF),(0:Int),c,()):=⟨agY l h0 a b h2,fun _ h=>absurd h h0⟩
theorem At{l:List aJ}(h:n0 l)(id:Int):kL l (jw l id):=by
 unfold jw
 cases au:Gi l id with
 | none=>exact h.root
 | some i =>
  obtain ⟨h1,h2,_⟩:=ic.1 au
  refine⟨i,h.fR i h1,?_⟩
  by_cases hk:kindOf (J I l i)=2
  ·exact hk
  ·have:=h.bare i h1 hk
   rw [this] at h2
   simp [pY,fh] at h2
theorem pZ{N:List ax.D}{s:aF}(h:cJ N s≠0):∃d,d∈N∧d.1=s∧d.2.1=cJ N s:=by
 unfold cJ at h ⊢
 cases hf:fh N.length (q' N s) with
 | none=>rw [hf] at h;exact absurd rfl h
 | some j =>
  obtain ⟨h1,h2,_⟩:=ic.1 hf
  exact⟨J ax N j,cP h1,by unfold q' bs at h2;simpa using h2,rfl⟩
theorem agZ{p:aF}(h:sO p)(h1:bs p [46]=false)(h2:bs p [46,46]=false)(cV:p.length≤8):ie p=true:=by
 have hl:1≤p.length:=by
  rcases Nat.eq_zero_or_pos p.length with h0 | h0
  ·exact absurd (List.length_eq_zero_iff.1 h0) h.1
  ·exact h0
 unfold ie
 rw [h1,h2,lf.2 (fun i hi=>h.2 i hi),dN.2 ⟨by omega,by omega⟩];rfl
theorem V1{L:List aF}{a c:Nat}(h:0<c)(hl:a+c≤L.length):J ad.str L a∈part L a c:=by
 unfold part
 have h1:a<L.length:=by omega
 rw [List.drop_eq_getElem_cons h1,show c=(c-1)+1 by omega,List.take_succ_cons,c7 (t:=.str) h1]
 exact List.mem_cons_self
theorem V2{L:List aF}{a c:Nat} : ∀p,p∈part L (a+1) (c-1)→p∈part L a c:=by
 intro p au
 unfold part at *
 rcases Nat.eq_zero_or_pos c with h | h
 ·subst h;simp at au
 ·rcases Nat.lt_or_ge a L.length with h1 | h1
  ·rw [List.drop_eq_getElem_cons h1,show c=(c-1)+1 by omega,List.take_succ_cons]
   exact List.mem_cons_of_mem _ au
  ·rw [List.drop_of_length_le (by omega)] at au;simp at au
theorem Au{s:aF}(h:jt s=true):1≤s.length∧s.length≤60:=by
 unfold jt at h
 rw [Bool.and_eq_true] at h
 have:=dN.1 h.2
 omega
theorem jc(m:Nat)(U aa ae ai aq aE bh bW cB):(df (m+1)).bb U aa ae ai aq aE bh bW cB=ib (df m) U aa ae ai aq aE bh bW cB:=rfl
theorem xJ(m:Nat)(U aa ae ai aq aE bh bW cB fb kC kD j7):(df (m+1)).J2 U aa ae ai aq aE bh bW cB fb kC kD j7=r8 (df m) U aa ae ai aq aE bh bW cB fb kC kD j7:=rfl
theorem Ns(m:Nat)(U aa ae ai aq aE bh bW cB fb):(df (m+1)).iF U aa ae ai aq aE bh bW cB fb=ze (df m) U aa ae ai aq aE bh bW cB fb:=rfl
theorem Nt(m:Nat)(U aa ae ai aq aE bh bW cB fb kC kD j7):(df (m+1)).uq U aa ae ai aq aE bh bW cB fb kC kD j7=zf (df m) U aa ae ai aq aE bh bW cB fb kC kD j7:=rfl
theorem Nu(m:Nat)(U aa ae ai aq aE bh bW cB fb):(df (m+1)).oJ U aa ae ai aq aE bh bW cB fb=zg (df m) U aa ae ai aq aE bh bW cB fb:=rfl
theorem m0(x:aJ):J I [x] 0=x:=rfl
theorem bV.jump{β : Type}{f g:Nat → β}{B:Nat}(k:Nat){y : β}(h:bV g B y)(hf:∀m,f (m+k)=g m):bV f (B+k) y:=by
 intro m hm
 obtain ⟨j,rfl⟩:∃j,m=j+k:=⟨m-k,by omega⟩
 rw [hf];exact h j (by omega)
theorem bV.now{β : Type}{f:Nat → β}(k:Nat){y : β}(hf:∀m,f (m+k)=y):bV f k y:=by
 intro m hm
 obtain ⟨j,rfl⟩:∃j,m=j+k:=⟨m-k,by omega⟩
 exact hf j
theorem ag0(v:af.D)(c:aI.D)(hw:n0 v.2.1)(hc:dd c=true)(bl:Bool)(z:aV.D):∀(n:Nat) (at_:Int) (k:Nat) (L:List aF) (a bP:Nat),(8-k)*100+bP≤n→k≤8→a+bP≤L.length→bP≤100→(∀p,p∈part L a bP→sO p)→kL v.2.1 at_ →
  ∃r,sP bl v.2.1 r∧bV (fun m=>gn m v bl a bP at_ (k:Int) c z L) (n+2) (some (r,()))∧bV (fun m=>(df m).bb bl a bP at_ (k:Int) v c z L) (5*n+5) (some (r,())):=by
 intro n
 induction n with
 | zero =>
  intro at_ k L a bP hn hk hl Nv au ck
  have h0:bP=0:=by omega
  subst h0
  obtain ⟨d,ag,fc⟩:=ck
  refine⟨((0:Int),([]:aF),at_,(0:Int),()),⟨⟨fun _=>⟨d,ag⟩,fun _ h=>absurd rfl h,fun _ _=>⟨d,ag,fc⟩,fun _ h=>absurd rfl h⟩,fun _ _ e he=>by rw [show bn (((0:Int),([]:aF),at_,(0:Int),()):aV.D)=at_ from rfl,ag] at he;rw [← aS he,fc];decide⟩,(bV.now 1 fun m=>?_).mono (by omega),(bV.now 1 fun m=>?_).mono (by omega)⟩
  ·simp only [gn,l0];rfl
  ·rw [jc];unfold ib;rfl
 | succ n ih =>
  intro at_ k L a bP hn hk hl Nv au ck
  rcases Nat.eq_zero_or_pos bP with h0 | h0
  ·subst h0
   obtain ⟨d,ag,fc⟩:=ck
   refine⟨((0:Int),([]:aF),at_,(0:Int),()),⟨⟨fun _=>⟨d,ag⟩,fun _ h=>absurd rfl h,fun _ _=>⟨d,ag,fc⟩,fun _ h=>absurd rfl h⟩,fun _ _ e he=>by rw [show bn (((0:Int),([]:aF),at_,(0:Int),()):aV.D)=at_ from rfl,ag] at he;rw [← aS he,fc];decide⟩,(bV.now 1 fun m=>?_).mono (by omega),(bV.now 1 fun m=>?_).mono (by omega)⟩
   ·simp only [gn,l0];rfl
   ·rw [jc];unfold ib;rfl
  obtain ⟨d,ag,fc⟩:=ck
  have hdl:=bZ ag
  have gZ:(ak (J I v.2.1 d)).length≤1048576:=Nat.le_trans (fO hdl.1) hw.cG
  have mv:=au _ (V1 h0 hl)
  have e9:∀p,p∈part L (a+1) (bP-1)→sO p:=fun p h=>au p (V2 p h)
  have eZ:aO bP 0=some 0:=bC (i:=0) h0
  have fS:d' bP 1 (bP:Int)=some (1,bP):=kp (lo:=1) h0 (Nat.le_refl _)
  have eV:decide ((bP:Int)>0)=true:=decide_eq_true (by omega)
  have hQ:=mX v at_ hw.len ag
  have n1:=Aq c (J I v.2.1 d) 1 hc
  have kd:=mV c (J I v.2.1 d) 1 hc
  have ag1:=VM v at_ hw.len hw.cG
  have Nw:=Nn v at_ hw.len hw.cG
  have ke:jM (v,at_,())=some ((d:Int),()):=by rw [l2 v at_ hw.len,ag];rfl
  have kf:aO v.2.1.length (d:Int)=some d:=bC hdl.1
  have sQ:=VL (J I v.2.1 d) (J ad.str L a) gZ
  have ra:=VK v at_ (J ad.str L a) hw.len ag gZ
  cases hm:may c (J I v.2.1 d) 1 with
  | false =>
   refine⟨((0:Int),([]:aF),(0:Int),(13:Int),()),xI bl _ (by decide) 0 0 (.inr trivial),(bV.now 1 fun m=>?_).mono (by omega),(bV.now 1 fun m=>?_).mono (by omega)⟩
   ·rw [gn,l0]
    simp -index only [eV,eZ,fS,hQ,m0,n1,hm,cond_true,cond_false,av,Bool.not_true,Bool.not_false,List.isEmpty_cons]
   ·rw [jc];unfold ib
    simp only [eV,eZ,fS,ke,kf,kd,hm,cond_true,cond_false,av,Bool.not_true,Bool.not_false]
  | true =>
  cases h1:bs (J ad.str L a) [46] with
  | true =>
   obtain ⟨r,bx,ch,gd⟩:=ih at_ k L (a+1) (bP-1) (by omega) hk (by omega) (by omega) e9 ⟨d,ag,fc⟩
   refine⟨r,bx,(ch.jump (f:=fun m=>gn m v bl a bP at_ (k:Int) c z L) 1 fun m=>?_).mono (by omega),(gd.jump (f:=fun m=>(df m).bb bl a bP at_ (k:Int) v c z L) 1 fun m=>?_).mono (by omega)⟩
   ·rw [gn,l0]
    simp -index only [eV,eZ,fS,hQ,m0,n1,hm,h1,cond_true,cond_false,av,Bool.not_true,Bool.not_false,List.isEmpty_cons,Nat.add_zero]
   ·rw [jc];unfold ib
    simp only [eV,eZ,fS,ke,kf,kd,hm,h1,cond_true,cond_false,av,Bool.not_true,Bool.not_false,Nat.add_zero]
  | false =>
  cases h2:bs (J ad.str L a) [46,46] with
  | true =>
   obtain ⟨r,bx,ch,gd⟩:=ih (jw v.2.1 at_) k L (a+1) (bP-1) (by omega) hk (by omega) (by omega) e9 (At hw _)
   refine⟨r,bx,(ch.jump (f:=fun m=>gn m v bl a bP at_ (k:Int) c z L) 1 fun m=>?_).mono (by omega),(gd.jump (f:=fun m=>(df m).bb bl a bP at_ (k:Int) v c z L) 1 fun m=>?_).mono (by omega)⟩
   ·rw [gn,l0]
    simp -index only [eV,eZ,fS,hQ,m0,n1,hm,h1,h2,ag1,cond_true,cond_false,av,Bool.not_true,Bool.not_false,List.isEmpty_cons,Nat.add_zero]
   ·rw [jc];unfold ib
    simp only [eV,eZ,fS,ke,kf,kd,hm,h1,h2,Nw,cond_true,cond_false,av,Bool.not_true,Bool.not_false,Nat.add_zero]
  | false =>
  cases cV:decide (((J ad.str L a).length:Int)>8) with
  | true =>
   refine⟨((0:Int),([]:aF),(0:Int),(36:Int),()),xI bl _ (by decide) 0 0 (.inr trivial),(bV.now 1 fun m=>?_).mono (by omega),(bV.now 1 fun m=>?_).mono (by omega)⟩
   ·rw [gn,l0]
    simp -index only [eV,eZ,fS,hQ,m0,n1,hm,h1,h2,cV,cond_true,cond_false,av,Bool.not_true,Bool.not_false,List.isEmpty_cons,Nat.add_zero]
   ·rw [jc];unfold ib
    simp only [eV,eZ,fS,ke,kf,kd,hm,h1,h2,cV,cond_true,cond_false,av,Bool.not_true,Bool.not_false,Nat.add_zero]
  | false =>
  have iZ:ie (J ad.str L a)=true:=agZ mv h1 h2 (by
   have:=of_decide_eq_false cV
   have h:¬((J ad.str L a).length:Int)>8:=this
   omega)
  cases gD:cJ (ak (J I v.2.1 d)) (J ad.str L a)==0 with
  | true =>
   cases gu:((bP-1:Nat):Int)==0 with
   | true =>
    refine⟨(at_,J ad.str L a,(0:Int),(2:Int),()),⟨⟨fun h=>(by cases h),fun h=>(by cases h),fun h=>(by cases h),fun _ _=>⟨rfl,iZ,d,ag,fc,beq_iff_eq.1 gD⟩⟩,fun _ h=>(by cases h)⟩,(bV.now 1 fun m=>?_).mono (by omega),(bV.now 1 fun m=>?_).mono (by omega)⟩
    ·rw [gn,l0]
     simp -index only [eV,eZ,fS,hQ,m0,n1,hm,h1,h2,cV,sQ,gD,gu,cond_true,cond_false,av,Bool.not_true,Bool.not_false,List.isEmpty_cons,Nat.add_zero]
    ·rw [jc];unfold ib
     simp only [eV,eZ,fS,ke,kf,kd,hm,h1,h2,cV,ra,gD,gu,cond_true,cond_false,av,Bool.not_true,Bool.not_false,Nat.add_zero]
   | false =>
    refine⟨((0:Int),([]:aF),(0:Int),(2:Int),()),⟨⟨fun h=>(by cases h),fun h=>(by cases h),fun h=>(by cases h),fun _ h=>absurd rfl h⟩,fun _ h=>(by cases h)⟩,(bV.now 1 fun m=>?_).mono (by omega),(bV.now 1 fun m=>?_).mono (by omega)⟩
    ·rw [gn,l0]
     simp -index only [eV,eZ,fS,hQ,m0,n1,hm,h1,h2,cV,sQ,gD,gu,cond_true,cond_false,av,Bool.not_true,Bool.not_false,List.isEmpty_cons,Nat.add_zero]
    ·rw [jc];unfold ib
     simp only [eV,eZ,fS,ke,kf,kd,hm,h1,h2,cV,ra,gD,gu,cond_true,cond_false,av,Bool.not_true,Bool.not_false,Nat.add_zero]
  | false =>
  obtain ⟨e,he,Nx,oz⟩:=pZ (N:=ak (J I v.2.1 d)) (s:=J ad.str L a) (by simpa using gD)
  obtain ⟨i2,e'⟩:=Option.isSome_iff_exists.1 (hw.gN d hdl.1 e he)
  rw [oz] at e'
  have p0:=bZ e'
  have xK:=mX v _ hw.len e'
  have xL:jM (v,cJ (ak (J I v.2.1 d)) (J ad.str L a),())=some ((i2:Int),()):=by rw [l2 v _ hw.len,e'];rfl
  have xM:aO v.2.1.length (i2:Int)=some i2:=bC p0.1
  have V3:((J I v.2.1 i2).2.1==3)=true→(!(((bP-1:Nat):Int)==0)||bl)=true→∃r,sP bl v.2.1 r∧bV (fun m=>gn m v bl a bP at_ (k:Int) c z L) (n+1+2) (some (r,()))∧bV (fun m=>(df m).bb bl a bP at_ (k:Int) v c z L) (5*(n+1)+5) (some (r,())):=by
   intro il jS
   have Av:=hw.l3 i2 p0.1 (beq_iff_eq.1 il)
   have p1:=Au Av
   have sR:aO ((J I v.2.1 i2).2.2.2.2.2.1).length 0=some 0:=bC (i:=0) p1.1
   have Gs:su ((J I v.2.1 i2).2.2.2.2.2.1,())=some (cut (bA (J I v.2.1 i2)),()):=VV _ (Nat.le_trans p1.2 (by omega))
   have Gt:w5 ((J I v.2.1 i2).2.2.2.2.2.1,())=some (cut (bA (J I v.2.1 i2)),()):=Gl _ (Nat.le_trans p1.2 (by omega))
   have hcl:=Gm (bA (J I v.2.1 i2))
   have fJ:(part L (a+1) (bP-1)).length≤100:=by unfold part;rw [List.length_take];omega
   have hroom:room ((cut (bA (J I v.2.1 i2))).length +(part L (a+1) (bP-1)).length)=true:=cH (by omega)
   have h8:=Gn Av
   generalize p2:cut (bA (J I v.2.1 i2))++part L (a+1) (bP-1)=fy at *
   have Ny:∀p,p∈fy→sO p:=by
    intro p kt
    rw [← p2] at kt
    rcases List.mem_append.1 kt with h | h
    ·exact h8 p h
    ·exact e9 p h
   obtain ⟨at',Nz,rb,m1⟩:∃at',kL v.2.1 at'∧(∀m,gn (m+1) v bl a bP at_ (k:Int) c z L=cond ((k:Int)==8) (some (((0:Int),([]:aF),(0:Int),(40:Int),()),()))
      (cond (decide ((fy.length:Int)>40)) (some (((0:Int),([]:aF),(0:Int),(36:Int),()),())) (gn m v bl 0 fy.length at' (aK ((k:Int)+1)) c z fy))) ∧
     ∀m,(df (m+4)).bb bl a bP at_ (k:Int) v c z L=cond (decide (aK ((k:Int)+1)>8)) (some (((0:Int),([]:aF),(0:Int),(40:Int),()),()))
      (cond (decide ((fy.length:Int)>40)) (some (((0:Int),([]:aF),(0:Int),(36:Int),()),())) ((df m).bb bl 0 fy.length at' (aK ((k:Int)+1)) v c z fy)):=by
    cases hb:((((J I v.2.1 i2).2.2.2.2.2.1).getD 0 0).toNat:Int)==47 with
    | false =>
     refine⟨at_,⟨d,ag,fc⟩,fun m=>?_,fun m=>?_⟩
     ·rw [gn,l0]
      cases gu:((bP-1:Nat):Int)==0 with
      | false =>
       simp -index only [eV,eZ,fS,hQ,m0,n1,hm,h1,h2,cV,sQ,gD,xK,il,gu,sR,hb,Gs,hroom,p2,SP,cond_true,cond_false,av,Bool.not_true,Bool.not_false,List.isEmpty_cons,Nat.add_zero]
      | true =>
       rw [gu] at jS
       have jS:bl=true:=jS
       simp -index only [eV,eZ,fS,hQ,m0,n1,hm,h1,h2,cV,sQ,gD,xK,il,gu,jS,sR,hb,Gs,hroom,p2,SR,cond_true,cond_false,av,Bool.not_true,Bool.not_false,List.isEmpty_cons,Nat.add_zero]
     ·rw [jc];unfold ib
      simp only [eV,eZ,fS,ke,kf,kd,hm,h1,h2,cV,ra,gD,jo,xL,xM,cond_true,cond_false,av,Bool.not_true,Bool.not_false,Nat.add_zero]
      rw [xJ];unfold r8
      have:(cond (!(((bP-1:Nat):Int)==0)) ((df (m+2)).iF bl (a+1) (bP-1) at_ (k:Int) v c z L (J I v.2.1 i2)) (cond bl ((df (m+2)).iF bl (a+1) (bP-1) at_ (k:Int) v c z L (J I v.2.1 i2)) ((df (m+2)).uq bl (a+1) (bP-1) at_ (k:Int) (J ad.str L a) (((bP-1:Nat):Int)==0) (cJ (ak (J I v.2.1 d)) (J ad.str L a)) v c z L (J I v.2.1 i2))))=(df (m+2)).iF bl (a+1) (bP-1) at_ (k:Int) v c z L (J I v.2.1 i2):=by
       revert jS
       cases ((bP-1:Nat):Int)==0 <;> cases bl <;> intro jS <;> first | rfl | cases jS
      rw [il]
      simp only [cond_true]
      refine this.trans ?_
      rw [Ns];unfold ze
      rw [sR]
      simp only [av,hb,cond_false]
      rw [Nu];unfold zg
      rw [Gt]
      simp only [av,hroom,cond_true,p2]
    | true =>
     refine⟨1,hw.root,fun m=>?_,fun m=>?_⟩
     ·rw [gn,l0]
      cases gu:((bP-1:Nat):Int)==0 with
      | false =>
       simp -index only [eV,eZ,fS,hQ,m0,n1,hm,h1,h2,cV,sQ,gD,xK,il,gu,sR,hb,Gs,hroom,p2,SO,cond_true,cond_false,av,Bool.not_true,Bool.not_false,List.isEmpty_cons,Nat.add_zero]
      | true =>
       rw [gu] at jS
       have jS:bl=true:=jS
       simp -index only [eV,eZ,fS,hQ,m0,n1,hm,h1,h2,cV,sQ,gD,xK,il,gu,jS,sR,hb,Gs,hroom,p2,SQ,cond_true,cond_false,av,Bool.not_true,Bool.not_false,List.isEmpty_cons,Nat.add_zero]
     ·rw [jc];unfold ib
      simp only [eV,eZ,fS,ke,kf,kd,hm,h1,h2,cV,ra,gD,jo,xL,xM,cond_true,cond_false,av,Bool.not_true,Bool.not_false,Nat.add_zero]
      rw [xJ];unfold r8
      have:(cond (!(((bP-1:Nat):Int)==0)) ((df (m+2)).iF bl (a+1) (bP-1) at_ (k:Int) v c z L (J I v.2.1 i2)) (cond bl ((df (m+2)).iF bl (a+1) (bP-1) at_ (k:Int) v c z L (J I v.2.1 i2)) ((df (m+2)).uq bl (a+1) (bP-1) at_ (k:Int) (J ad.str L a) (((bP-1:Nat):Int)==0) (cJ (ak (J I v.2.1 d)) (J ad.str L a)) v c z L (J I v.2.1 i2))))=(df (m+2)).iF bl (a+1) (bP-1) at_ (k:Int) v c z L (J I v.2.1 i2):=by
       revert jS
       cases ((bP-1:Nat):Int)==0 <;> cases bl <;> intro jS <;> first | rfl | cases jS
      rw [il]
      simp only [cond_true]
      refine this.trans ?_
      rw [Ns];unfold ze
      rw [sR]
      simp only [av,hb,cond_true]
      rw [Nu];unfold zg
      rw [Gt]
      simp only [av,hroom,cond_true,p2]
   have cf:aK ((k:Int)+1)=((k+1:Nat):Int):=dg k (by omega)
   rw [cf] at rb m1
   rcases Nat.lt_or_ge k 8 with sS | sS
   ·rw [show((k:Int)==8)=false by simp;omega] at rb
    rw [show decide (((k+1:Nat):Int)>8)=false from decide_eq_false (by omega)] at m1
    simp only [cond_false] at rb m1
    cases vo:decide ((fy.length:Int)>40) with
    | true =>
     rw [vo] at rb m1
     refine⟨((0:Int),([]:aF),(0:Int),(36:Int),()),xI bl _ (by decide) 0 0 (.inr trivial),(bV.now 1 fun m=>rb m).mono (by omega),(bV.now 4 fun m=>m1 m).mono (by omega)⟩
    | false =>
     rw [vo] at rb m1
     have vo:=of_decide_eq_false vo
     obtain ⟨r,bx,ch,gd⟩:=ih at' (k+1) fy 0 fy.length (by omega) (by omega) (by omega) (by omega) (by rw [xB];exact Ny) Nz
     exact⟨r,bx,(ch.jump (f:=fun m=>gn m v bl a bP at_ (k:Int) c z L) 1 fun m=>rb m).mono (by omega),(gd.jump (f:=fun m=>(df m).bb bl a bP at_ (k:Int) v c z L) 4 fun m=>m1 m).mono (by omega)⟩
   ·rw [show((k:Int)==8)=true by simp;omega] at rb
    rw [show decide (((k+1:Nat):Int)>8)=true from decide_eq_true (by omega)] at m1
    refine⟨((0:Int),([]:aF),(0:Int),(40:Int),()),xI bl _ (by decide) 0 0 (.inr trivial),(bV.now 1 fun m=>rb m).mono (by omega),(bV.now 4 fun m=>m1 m).mono (by omega)⟩
  have bS:(bl=true→kindOf (J I v.2.1 i2)≠3)→(∀m,gn (m+1) v bl a bP at_ (k:Int) c z L=cond (((bP-1:Nat):Int)==0) (some ((at_,J ad.str L a,cJ (ak (J I v.2.1 d)) (J ad.str L a),(0:Int),()),()))
     (cond ((J I v.2.1 i2).2.1 != 2) (some (((0:Int),([]:aF),(0:Int),(20:Int),()),())) (gn m v bl (a+1) (bP-1) (cJ (ak (J I v.2.1 d)) (J ad.str L a)) (k:Int) c z L))) →
    (∀m,(df (m+3)).bb bl a bP at_ (k:Int) v c z L=cond (((bP-1:Nat):Int)==0) (some ((at_,J ad.str L a,cJ (ak (J I v.2.1 d)) (J ad.str L a),(0:Int),()),()))
     (cond ((J I v.2.1 i2).2.1 != 2) (some (((0:Int),([]:aF),(0:Int),(20:Int),()),())) ((df m).bb bl (a+1) (bP-1) (cJ (ak (J I v.2.1 d)) (J ad.str L a)) (k:Int) v c z L))) →
    ∃r,sP bl v.2.1 r∧bV (fun m=>gn m v bl a bP at_ (k:Int) c z L) (n+1+2) (some (r,()))∧bV (fun m=>(df m).bb bl a bP at_ (k:Int) v c z L) (5*(n+1)+5) (some (r,())):=by
   intro hnl g1 g2
   cases gu:((bP-1:Nat):Int)==0 with
   | true =>
    refine⟨(at_,J ad.str L a,cJ (ak (J I v.2.1 d)) (J ad.str L a),(0:Int),()),⟨⟨fun _=>⟨i2,e'⟩,fun _ _=>⟨beq_eq_false_iff_ne.1 gD,iZ,d,ag,fc,rfl⟩,fun _ h=>absurd h mv.1,fun h=>(by cases h)⟩,fun hf _ e he=>by rw [show bn ((at_,J ad.str L a,cJ (ak (J I v.2.1 d)) (J ad.str L a),(0:Int),()):aV.D)=cJ (ak (J I v.2.1 d)) (J ad.str L a) from rfl,e'] at he;rw [← aS he];exact hnl hf⟩,(bV.now 1 fun m=>?_).mono (by omega),(bV.now 3 fun m=>?_).mono (by omega)⟩
    ·rw [g1,gu];rfl
    ·rw [g2,gu];rfl
   | false =>
    rw [gu] at g1 g2
    simp only [cond_false] at g1 g2
    by_cases hk2:kindOf (J I v.2.1 i2)=2
    ·obtain ⟨r,bx,ch,gd⟩:=ih (cJ (ak (J I v.2.1 d)) (J ad.str L a)) k L (a+1) (bP-1) (by omega) hk (by omega) (by omega) e9 ⟨i2,e',hk2⟩
     refine⟨r,bx,(ch.jump (f:=fun m=>gn m v bl a bP at_ (k:Int) c z L) 1 fun m=>?_).mono (by omega),(gd.jump (f:=fun m=>(df m).bb bl a bP at_ (k:Int) v c z L) 3 fun m=>?_).mono (by omega)⟩
     ·rw [g1,dq (show(J I v.2.1 i2).2.1=2 from hk2)];rfl
     ·rw [g2,dq (show(J I v.2.1 i2).2.1=2 from hk2)];rfl
    ·refine⟨((0:Int),([]:aF),(0:Int),(20:Int),()),xI bl _ (by decide) 0 0 (.inr trivial),(bV.now 1 fun m=>?_).mono (by omega),(bV.now 3 fun m=>?_).mono (by omega)⟩
     ·rw [g1,cI (show ¬(J I v.2.1 i2).2.1=2 from hk2)];rfl
     ·rw [g2,cI (show ¬(J I v.2.1 i2).2.1=2 from hk2)];rfl
  cases il:(J I v.2.1 i2).2.1==3 with
  | true =>
   cases gu:((bP-1:Nat):Int)==0 with
   | false=>exact V3 il (by rw [gu];rfl)
   | true =>
    cases bl with
    | true=>exact V3 il (by rw [gu];rfl)
    | false =>
     refine bS (fun h=>by cases h) (fun m=>?_) (fun m=>?_)
     ·rw [gn,l0]
      simp -index only [eV,eZ,fS,hQ,m0,n1,hm,h1,h2,cV,sQ,gD,xK,il,gu,cond_true,cond_false,av,Bool.not_true,Bool.not_false,List.isEmpty_cons,Nat.add_zero]
     ·rw [jc];unfold ib
      simp only [eV,eZ,fS,ke,kf,kd,hm,h1,h2,cV,ra,gD,jo,xL,xM,gu,cond_true,cond_false,av,Bool.not_true,Bool.not_false,Nat.add_zero]
      rw [xJ];unfold r8
      simp only [il,cond_true,cond_false,Bool.not_true,Bool.not_false]
      rw [Nt];unfold zf;rfl
  | false =>
   refine bS (fun _=>beq_eq_false_iff_ne.1 il) (fun m=>?_) (fun m=>?_)
   ·rw [gn,l0]
    simp -index only [eV,eZ,fS,hQ,m0,n1,hm,h1,h2,cV,sQ,gD,xK,il,cond_true,cond_false,av,Bool.not_true,Bool.not_false,List.isEmpty_cons,Nat.add_zero]
   ·rw [jc];unfold ib
    simp only [eV,eZ,fS,ke,kf,kd,hm,h1,h2,cV,ra,gD,jo,xL,xM,cond_true,cond_false,av,Bool.not_true,Bool.not_false,Nat.add_zero]
    rw [xJ];unfold r8
    simp only [il,cond_true,cond_false]
    rw [Nt];unfold zf;rfl
theorem V4(v:af.D)(c:aI.D)(path:aF)(bl:Bool)(hw:n0 v.2.1)(hc:dd c=true)(au:mW path=true) :
  ∃r,sP bl v.2.1 r∧Ld (v,c,path,bl,())=some (r,())∧Db (v,c,path,bl,())=some (r,()):=by
 unfold mW at au
 rw [Bool.and_eq_true] at au
 have p1:=Au au.1
 have hcl:=Gm path
 obtain ⟨r,bx,ch,gd⟩:=ag0 v c hw hc bl ((0:Int),([]:aF),(0:Int),(0:Int),()) 900 1 0 (cut path) 0 (cut path).length (by omega) (by omega) (by omega) (by omega) (by rw [xB];exact Gn au.1) hw.root
 refine⟨r,bx,?_,?_⟩
 ·show EU (gn aQ) v c path bl=_
  unfold EU
  rw [VV path (by omega)]
  exact kI ch (by omega)
 ·show w6 (df aQ) v c path bl=_
  unfold w6
  rw [Gl path (by omega)]
  exact kI gd (by omega)
end Go.LM.kA
