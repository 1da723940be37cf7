/- Volumes: both sides are the same plain functions. Conditions: each theorem's own hypotheses. -/
import Derived.Test.YtklmgcjamifmaaaGreatDoorWLmd
import Derived.Test.YtklmgcjamifmaaaGreatDoorWVa
set_option linter.unusedVariables false
set_option linter.unusedSimpArgs false
namespace Go.LM
theorem vp:aQ=18446744073709551616:=by unfold aQ;rfl
theorem cr{i n:Nat}(h:i<n):decide ((i:Int)<(n:Int))=true:=by simp;omega
theorem cS{i n:Nat}(h:n≤i):decide ((i:Int)<(n:Int))=false:=by simp;omega
theorem l1{p:Prop}[Decidable p](h:¬p):decide p=false:=by simp [h]
theorem nS{p:Prop}[Decidable p](h:p):decide p=true:=by simp [h]
theorem fuel{k m:Nat}(h:k<m):∃q,m=q+1∧k≤q:=⟨m-1,by omega,by omega⟩
mutual
def ad.cost:(t:ad)→t.D→Nat
 | .raw,_=>0
 | .int _,_=>0
 | .bool,_=>0
 | .str,x=>List.length x
 | .sl t,xs=>List.length xs +(xs.map fun y=>t.cost y).sum
 | .st aj,x=>aj.cost x
def ax.cost:(aj:ax)→aj.D→Nat
 | .nil,_=>0
 | .cons t aj,x=>t.cost x.1+aj.cost x.2
end
mutual
def ad.wt:(t:ad)→t.D→Nat
 | .raw,_=>1
 | .int _,_=>1
 | .bool,_=>1
 | .str,_=>1
 | .sl t,xs=>(xs.map fun y=>t.wt y).sum
 | .st aj,x=>aj.wt x
def ax.wt:(aj:ax)→aj.D→Nat
 | .nil,_=>0
 | .cons t aj,x=>t.wt x.1+aj.wt x.2
end
theorem U7{α : Type}{f : α → Nat}{y : α} : ∀ {l:List α},y∈l→f y≤(l.map f).sum
 | x :: l,h=>by
  rcases List.mem_cons.1 h with rfl | h
  ·simp
  ·have:=U7 (f:=f) h;simp;omega
theorem U8{t:ad}(l:List t.D):l.length≤ad.cost (.sl t) l:=by simp only [ad.cost];omega
theorem af1{t:ad}{l:List t.D}{i:Nat}(h:i<l.length):J t l i∈l:=by rw [vP h];exact List.getElem_mem h
theorem af2{t:ad}{l:List t.D}{i:Nat}(h:i<l.length):l.length+t.cost (J t l i)≤ad.cost (.sl t) l:=by
 simp only [ad.cost]
 have:=U7 (f:=fun y=>t.cost y) (af1 h)
 omega
theorem drop_cons{t:ad}{l:List t.D}{i:Nat}(h:i<l.length):l.drop i=J t l i :: l.drop (i+1):=by
 rw [vP h];exact List.drop_eq_getElem_cons h
theorem af3{t:ad}{x:List t.D}(h:ad.gC (.sl t) x):x.length≤9223372036854775807∧∀y,y∈x→t.gC y:=by simp only [ad.gC,maxLen] at h;exact⟨by omega,h.2⟩
theorem U9{t:ad}{x:List t.D} : ad.cost (.sl t) x=x.length +(x.map fun y=>t.cost y).sum:=by simp only [ad.cost]
theorem MI{aj:ax}{x:aj.D} : ad.cost (.st aj) x=aj.cost x:=by simp only [ad.cost]
theorem MJ{t:ad}{aj:ax}{x:(ax.cons t aj).D} : ax.cost (.cons t aj) x=t.cost x.1+aj.cost x.2:=by simp only [ax.cost]
theorem MK{x:ax.nil.D} : ax.cost .nil x=0:=by simp only [ax.cost]
theorem ML{k:IntKind}{x:Int} : ad.cost (.int k) x=0:=by simp only [ad.cost]
theorem U_{x:Bool} : ad.cost .bool x=0:=by simp only [ad.cost]
theorem U'{x:List UInt8} : ad.cost .str x=x.length:=by simp only [ad.cost]
section
variable{mt:Int→List UInt8}{k k':Int}
end
theorem Ai{α : Type}{f g : α → Nat}(M:Nat):∀(l:List α),(∀y,y∈l→f y≤M*(1+g y))→(l.map f).sum≤M*(l.length +(l.map g).sum)
 | [],_=>by simp
 | y :: l,h=>by
  have h1:=h y List.mem_cons_self
  have h2:=Ai M l fun z hz=>h z (List.mem_cons_of_mem _ hz)
  simp only [List.map_cons,List.sum_cons,List.length_cons]
  have:M*(l.length+1 +(g y +(l.map g).sum))=M*(1+g y)+M*(l.length +(l.map g).sum):=by rw [← Nat.mul_add];congr 1;omega
  omega
theorem jz{n:Nat}(h:n≤4611686018427387904):n<aQ:=by rw [vp];omega
theorem mV{β : Type}(n:Nat)(hn:n≤4611686018427387904)(L:Nat→Int → β)(G:Nat → β)(Inv:Nat→Prop)
  (h0:∀m,Inv n→L (m+1) (n:Int)=G n)
  (hs:∀m (i:Nat),i<n→Inv i→aK ((i:Int)+1)=(i:Int)+1→(Inv (i+1)→L m ((i:Int)+1)=G (i+1))→L (m+1) (i:Int)=G i) :
  ∀(r i m:Nat),i+r=n→r<m→Inv i→L m (i:Int)=G i:=by
 intro r
 induction r with
 | zero =>
  intro i m hi hm hv
  obtain ⟨m,rfl,_⟩:=fuel hm
  have:i=n:=by omega
  subst this
  exact h0 m hv
 | succ r ih =>
  intro i m hi hm hv
  obtain ⟨m,rfl,hq⟩:=fuel hm
  refine hs m i (by omega) hv (tj (by omega) (by omega)) fun lE=>?_
  have:=ih (i+1) m (by omega) (by omega) lE
  simpa only [Int.natCast_add,Int.cast_ofNat_Int] using this
theorem jm(k:Nat)(h:k≤1000:=by omega):∃q,aQ=q+k∧4611686018427387904<q:=⟨aQ-k,by rw [vp];omega,by rw [vp];omega⟩
theorem mW{α : Type}(a:Bool)(x y : α):cond a (some (x,())) (some (y,()))=some (cond a x y,()):=by cases a <;> rfl
def c3(x lo hi:Int):Bool:=decide (lo≤x)&&decide (x≤hi)
theorem dR{x lo hi:Int} : c3 x lo hi=true↔lo≤x∧x≤hi:=by simp [c3]
theorem Va(a b:Bool):cond a b false=(a&&b):=by cases a <;> rfl
theorem af4(a b:Int):jG a b=min a b:=by unfold jG;omega
theorem Vb{s:List UInt8} : bs s []=decide (s.length=0):=by cases s <;> simp [bs]
theorem cP{x y:Int}(h:x≠y):(x != y)=true:=by simp [h]
theorem dk{x y:Int}(h:x=y):(x != y)=false:=by simp [h]
theorem cF{x y:Int}(h:x=y):(x==y)=true:=by simp [h]
theorem ca{x y:Int}(h:x≠y):(x==y)=false:=by simp [h]
theorem cH{n:Nat}(h:n≤68719476736):room n=true:=abr h
theorem xE{α : Type}(l:List α):part l 0 l.length=l:=by simp [part]
theorem Aj{α : Type}(l:List α)(n:Nat):part l n (l.length-n)=l.drop n:=by
 unfold part;rw [List.take_of_length_le (by simp)]
theorem vq{α : Type}(l:List α)(n:Nat):part l 0 n=l.take n:=by simp [part]
end Go.LM
namespace Go.LM.kF
theorem jW(x a b:Int):ep (x,a,b,())=some (c3 x a b,()):=by
 show JI x a b=_
 unfold JI c3
 by_cases h:a≤x <;> simp [h]
theorem jA(x a b:Int):eL (x,a,b,())=some (c3 x a b,()):=by
 show Kz x a b=_
 unfold Kz c3
 by_cases h:a≤x <;> simp [h]
theorem ed{a:Int}(h : -4000000000000000000≤a)(h':a≤4000000000000000000):aK a=a:=tj (by omega) (by omega)
def fs(n:Nat)(P:Nat→Bool):Bool:=(List.range n).all P
theorem lk{n:Nat}{P:Nat→Bool} : fs n P=true↔∀i,i<n→P i=true:=by simp [fs,List.all_eq_true]
open Classical in
theorem sJ(n:Nat)(hn:n≤4611686018427387904)(P:Nat→Bool)(E:Bool)(L:Nat→Int→Option (Bool×Unit))
  (h0:∀m,(∀j,j<n→P j=true)→L (m+1) (n:Int)=some (E,()))
  (hs:∀m (i:Nat),i<n→(∀j,j<i→P j=true)→aK ((i:Int)+1)=(i:Int)+1→L (m+1) (i:Int)=cond (P i) (L m ((i:Int)+1)) (some (false,())))
  (q:Nat:=aQ) (hq:n<q:=by exact jz (by omega)):L q 0=some (fs n P&&E,()):=by
 have:=mV n hn L (fun i=>some (decide (∀j,i≤j→j<n→P j=true)&&E,())) (fun i=>∀j,j<i→P j=true) (fun m hi=>by
  rw [h0 m hi]
  rw [decide_eq_true (by intro j h1 h2;omega)];rfl) (fun m i hi hinv hw ih=>by
  rw [hs m i hi hinv hw]
  cases au:P i
  ·simp only [cond_false]
   rw [decide_eq_false (fun h=>by have:=h i (Nat.le_refl _) hi;rw [au] at this;cases this)];rfl
  ·simp only [cond_true]
   rw [ih (fun j hj=>by
    by_cases h:j=i
    ·subst h;exact au
    ·exact hinv j (by omega))]
   congr 3
   apply decide_eq_decide.2
   constructor
   ·intro h j h1 h2
    by_cases lU:j=i
    ·subst lU;exact au
    ·exact h j (by omega) h2
   ·intro h j h1 h2;exact h j (by omega) h2) n 0 q (by omega) hq (by intro j hj;omega)
 rw [Int.natCast_zero] at this
 rw [this]
 congr 3
 rw [Bool.eq_iff_iff,lk,decide_eq_true_eq]
 exact⟨fun h i hi=>h i (by omega) hi,fun h i _ hi=>h i hi⟩
theorem nT{α : Type}(a:Bool)(x y : α):cond (!a) x y=cond a y x:=by cases a <;> rfl
theorem MM{α : Type}(a b:Bool)(x y : α):cond (a&&b) x y=cond a (cond b x y) y:=by cases a <;> rfl
theorem FO{α : Type}(a b:Bool)(x y : α):cond (a||b) x y=cond a x (cond b x y):=by cases a <;> rfl
theorem MN{n i:Nat}(h:i+1<n)(hn:n≤4000000000000000000):aO n (aK (((i+1:Nat):Int)-1))=some i:=by
 rw [ed (by omega) (by omega),show((i+1:Nat):Int)-1=(i:Int) by omega,bB (by omega)]
theorem MO:decide (((0:Nat):Int)>0)=false:=rfl
theorem MP(i:Nat):decide (((i+1:Nat):Int)>0)=true:=by simp
def h8(c:aJ.D):Bool :=
 c3 c.1 1 22&&decide ((c.2.1.length:Int)≤60)&&decide ((c.2.2.1.length:Int)≤60)&&decide ((c.2.2.2.2.2.1.length:Int)≤64)&&c3 c.2.2.2.1 (-1000000) 1000000&&c3 c.2.2.2.2.1 (-1000000) 1000000 &&
  (bs c.2.2.1 []||(c.1==9||(c.1==10||c.1==12)))&&(bs c.2.2.2.2.2.1 []||(c.1==5||c.1==6))
theorem MQ(c:aJ.D):JK (c,())=some (h8 c,()):=by
 obtain ⟨q,hq,_⟩:=jm 1
 show CJ (zb aQ) c=_
 rw [hq]
 unfold CJ
 simp only [zb,JJ,jW,av,mW]
 congr 2
 simp only [h8,c3,Vb]
 generalize c.2.1.length=a
 generalize c.2.2.1.length=b
 generalize c.2.2.2.2.2.1.length=d
 generalize c.1=k
 generalize c.2.2.2.1=e
 generalize c.2.2.2.2.1=f
 simp only [nT,MM,FO]
 rw [Bool.eq_iff_iff]
 simp only [Bool.cond_eq_ite,Bool.ite_eq_true_distrib,Bool.and_eq_true,Bool.or_eq_true,decide_eq_true_eq,beq_iff_eq,bne_iff_ne]
 grind (splits:=40)
theorem af5(c:aJ.D):KP (c,())=some (h8 c,()):=by
 obtain ⟨q,hq,_⟩:=jm 2
 show Ev (Ew aQ) c=_
 rw [hq]
 unfold Ev
 simp only [Ew,eR,KO,Sy,Sz,jA,av,mW]
 congr 2
 simp only [h8,c3,Vb]
 generalize c.2.1.length=a
 generalize c.2.2.1.length=b
 generalize c.2.2.2.2.2.1.length=d
 generalize c.1=k
 generalize c.2.2.2.1=e
 generalize c.2.2.2.2.1=f
 rw [Bool.eq_iff_iff]
 simp only [Bool.cond_eq_ite,Bool.ite_eq_true_distrib,Bool.and_eq_true,Bool.or_eq_true,decide_eq_true_eq,beq_iff_eq,bne_iff_ne]
 grind (splits:=60)
def fi(n:Nat)(P:Nat→Bool):Option Nat:=(List.range n).find? P
theorem iy{n i:Nat}{P:Nat→Bool} : fi n P=some i↔i<n∧P i=true∧∀j,j<i→P j=false:=by
 unfold fi
 rw [List.find?_range_eq_some]
 constructor
 ·rintro ⟨h1,h2,h3⟩;exact⟨by simpa using h2,h1,fun j hj=>by simpa using h3 j hj⟩
 ·rintro ⟨h1,h2,h3⟩;exact⟨h2,by simpa using h1,fun j hj=>by simpa using h3 j hj⟩
theorem l2{n:Nat}{P:Nat→Bool} : fi n P=none↔∀i,i<n→P i=false:=by
 unfold fi
 rw [List.find?_eq_none]
 simp
theorem sK{β : Type}(n:Nat)(hn:n≤4611686018427387904)(P:Nat→Bool)(R:Option Nat → β)(L:Nat→Int → β)
  (h0:∀m,L (m+1) (n:Int)=R none)
  (hs:∀m (i:Nat),i<n→aK ((i:Int)+1)=(i:Int)+1→L (m+1) (i:Int)=cond (P i) (R (some i)) (L m ((i:Int)+1))) (q:Nat:=aQ) (hq:n<q:=by exact jz (by omega)) :
  L q 0=R (fi n P):=by
 have key:=mV n hn L (fun i=>R (fi n P)) (fun i=>∀j,j<i→P j=false) (fun m hi=>by rw [h0 m,l2.2 hi]) (fun m i hi hinv hw ih=>by
  rw [hs m i hi hw]
  cases au:P i
  ·simp only [cond_false]
   refine ih fun j hj=>?_
   by_cases h:j=i
   ·subst h;exact au
   ·exact hinv j (by omega)
  ·simp only [cond_true]
   rw [iy.2 ⟨hi,au,hinv⟩]) n 0 q (by omega) hq (by intro j hj;omega)
 simpa using key
def hL:Option Nat→Int
 | none => -1
 | some i=>i
theorem Ak{o:Option Nat} : decide (hL o<0)=o.isNone:=by
 cases o with
 | none=>rfl
 | some i=>exact decide_eq_false (by show ¬((i:Int)<0);omega)
theorem Al{o:Option Nat} : decide (hL o≥0)=o.isSome:=by cases o <;> simp [hL]
theorem contains_eq(l:List Int)(x:Int)(hl:l.length≤4611686018427387904):sq (l,x,())=some (decide (x∈l),()):=by
 show KE l x=_
 unfold KE
 have h:KD (l,x,())=some (hL (fi l.length (fun i=>x==J (.int .i64) l i)),()):=by
  show Ed (uY aQ) l x=_
  unfold Ed
  refine sK l.length hl _ (fun o=>some (hL o,())) (fun m i=>uY m l x (l.length:Int) i) ?_ ?_
  ·intro m
   simp only [uY,Ee]
   rw [cS (Nat.le_refl _)];rfl
  ·intro m i hi hw
   simp only [uY,Ee,hw]
   rw [cr hi,bB hi];rfl
 rw [h]
 simp only [av,Al]
 congr 2
 rw [Bool.eq_iff_iff,decide_eq_true_eq,Option.isSome_iff_exists]
 constructor
 ·rintro ⟨i,hi⟩
  obtain ⟨h1,h2,_⟩:=iy.1 hi
  have h2:x=J (.int .i64) l i:=by simpa using h2
  rw [h2,c8 h1];exact List.getElem_mem h1
 ·intro hx
  obtain ⟨i,hi,he⟩:=List.mem_iff_getElem.1 hx
  cases hf:fi l.length (fun i=>x==J (.int .i64) l i) with
  | some j=>exact⟨j,rfl⟩
  | none =>
   have:=l2.1 hf i hi
   have aA:J (.int .i64) l i=l[i]:=c8 (t:=.int .i64) hi
   rw [aA,he] at this
   simp at this
def sL(b:Int):Bool:=decide (b≥97)&&decide (b≤122)||decide (b≥48)&&decide (b≤57)||b==46||b==95||b==45
theorem FP(b:Int):zc (b,())=some (sL b,()):=by
 show JL b=_
 unfold JL sL
 simp only [mW]
 congr 2
 rw [Bool.eq_iff_iff]
 simp only [Bool.cond_eq_ite,Bool.ite_eq_true_distrib,Bool.and_eq_true,Bool.or_eq_true,decide_eq_true_eq,beq_iff_eq]
 grind
theorem Vc(b:Int):DV (b,())=some (sL b,()):=by
 show St b=_
 rw [← FP];rfl
def nb(s:List UInt8)(i:Nat):Int:=((s.getD i 0).toNat:Int)
def iz(s:List UInt8):Bool:=fs s.length (fun i=>sL (nb s i))&&(c3 (s.length:Int) 1 8&&(!bs s [46] && !bs s [46,46]))
theorem af6(s:List UInt8):Kx (s,())=some (iz s,()):=by
 show DP (so aQ) s=_
 unfold DP
 simp only [jW,av]
 by_cases hl:c3 (s.length:Int) 1 8=true
 case neg=>rw [Bool.not_eq_true] at hl;unfold iz;rw [hl];simp
 have hb:=dR.1 hl
 have hk:so aQ s 0=some (fs s.length (fun i=>sL (nb s i))&&true,()):=by
  refine sJ s.length (by omega) _ true (fun m i=>so m s i) ?_ ?_
  ·intro m _
   simp only [so,DQ]
   rw [cS (Nat.le_refl _)];rfl
  ·intro m i hi _ hw
   simp only [so,DQ,hw]
   rw [cr hi,bB hi]
   simp only [cond_true,av,FP,nT];rfl
 rw [hk,hl]
 unfold iz
 rw [hl]
 cases bs s [46] <;> cases bs s [46,46] <;> simp
theorem af7(s:List UInt8)(hl:s.length≤4000000000000000000):KA (s,())=some (iz s,()):=by
 show D6 (uW aQ) s=_
 unfold D6 iz
 refine sJ s.length (by omega) _ _ (fun m i=>uW m s (s.length:Int) i) ?_ ?_
 ·intro m _
  simp only [uW,D7]
  rw [cS (Nat.le_refl _)]
  simp only [jA,av,cond_false,mW]
  congr 2
  cases c3 (s.length:Int) 1 8 <;> cases bs s [46] <;> rfl
 ·intro m i hi _ hw
  simp only [uW,D7,hw]
  rw [cr hi,bB hi]
  simp only [cond_true,av,Vc,nT];rfl
def jB(s:List UInt8):Bool:=fs s.length (fun i=>nb s i==47||sL (nb s i))&&c3 (s.length:Int) 1 60
theorem Vd(s:List UInt8):zd (s,())=some (jB s,()):=by
 show CL (ui aQ) s=_
 unfold CL
 simp only [jW,av]
 by_cases hl:c3 (s.length:Int) 1 60=true
 case neg=>rw [Bool.not_eq_true] at hl;unfold jB;rw [hl];simp
 have hb:=dR.1 hl
 unfold jB
 rw [hl]
 simp only [Bool.not_true,cond_false]
 refine sJ s.length (by omega) _ true (fun m i=>ui m s i) ?_ ?_
 ·intro m _
  simp only [ui,CM]
  rw [cS (Nat.le_refl _)];rfl
 ·intro m i hi _ hw
  simp only [ui,CM,hw]
  rw [cr hi,bB hi]
  simp only [cond_true,av,FP,nT,FO,bne];rfl
theorem MR(s:List UInt8)(hl:s.length≤4000000000000000000):xk (s,())=some (jB s,()):=by
 show DX (uT aQ) s=_
 unfold DX jB
 refine sJ s.length (by omega) _ _ (fun m i=>uT m s (s.length:Int) i) ?_ ?_
 ·intro m _
  simp only [uT,DY]
  rw [cS (Nat.le_refl _)]
  simp only [jA,av,cond_false]
 ·intro m i hi _ hw
  simp only [uT,DY,hw]
  rw [cr hi,bB hi]
  simp only [cond_true,av,Vc,nT,FO,bne];rfl
abbrev aI:Type:=I.D
def ak(x:aI):List ay.D:=x.2.2.2.2.2.2.1
def bh(x:aI):List UInt8:=x.2.2.2.2.2.1
def bd(l:List aI)(id:Int):Option Nat:=fi l.length (fun i=>(J I l i).1==id)
theorem l3(v:af.D)(id:Int)(hl:v.2.1.length≤1048576):jQ (v,id,())=some (hL (bd v.2.1 id),()):=by
 show CY (uq aQ) v id=_
 unfold CY bd
 refine sK v.2.1.length (by omega) _ (fun o=>some (hL o,())) (fun m i=>uq m id i v) ?_ ?_
 ·intro m
  simp only [uq,CZ]
  rw [cS (Nat.le_refl _)];rfl
 ·intro m i hi hw
  simp only [uq,CZ,hw]
  rw [cr hi,bB hi];rfl
def Ve(l:List aI):Option Nat→List aI
 | none=>[]
 | some i=>[J I l i]
theorem xF(v:af.D)(id:Int)(hl:v.2.1.length≤1048576):fC (v,id,())=some (Ve v.2.1 (bd v.2.1 id),()):=by
 show D0 (uU aQ) v id=_
 unfold D0 bd
 refine sK v.2.1.length (by omega) _ (fun o=>some (Ve v.2.1 o,())) (fun m i=>uU m v id (v.2.1.length:Int) i) ?_ ?_
 ·intro m
  simp only [uU,D1]
  rw [cS (Nat.le_refl _)];rfl
 ·intro m i hi hw
  simp only [uU,D1,hw]
  rw [cr hi,bB hi];rfl
theorem bY{l:List aI}{id:Int}{i:Nat}(h:bd l id=some i):i<l.length∧(J I l i).1=id:=by
 obtain ⟨h1,h2,_⟩:=iy.1 h
 exact⟨h1,by simpa using h2⟩
def bytesOf(l:List aI):Nat:=(l.map fun x=>(bh x).length).sum
theorem af8{l:List aI}{i:Nat}(hi:i<l.length):bytesOf (l.drop i)=(bh (J I l i)).length+bytesOf (l.drop (i+1)):=by
 rw [drop_cons (t:=I) hi];rfl
theorem MS(l:List aI)(i:Nat):bytesOf (l.take i)+bytesOf (l.drop i)=bytesOf l:=by
 unfold bytesOf
 rw [← List.sum_append_nat,← List.map_append,List.take_append_drop]
theorem xG{l:List aI}{i:Nat}(hi:i<l.length):bytesOf (l.take (i+1))=bytesOf (l.take i) +(bh (J I l i)).length:=by
 have h1:=MS l i
 have h2:=MS l (i+1)
 have h3:=af8 hi
 omega
theorem FQ(l:List aI)(i:Nat):bytesOf (l.take i)≤bytesOf l:=by have:=MS l i;omega
theorem MT(v:af.D)(hl:v.2.1.length≤1048576)(hb:bytesOf v.2.1≤1048576):zk (v,())=some ((bytesOf v.2.1:Int),()):=by
 show C9 (uy aQ) v=_
 unfold C9
 have:=mV v.2.1.length (by omega) (fun m i=>uy m (bytesOf (v.2.1.take i.toNat):Int) i v) (fun _=>some ((bytesOf v.2.1:Int),())) (fun _=>True) (fun m _=>by
  simp only [uy,C_]
  rw [cS (Nat.le_refl _)]
  simp only [Int.toNat_natCast,List.take_length,cond_false]) (fun m i hi _ hw ih=>by
  simp only [uy,C_,hw]
  rw [cr hi,bB hi]
  simp only [cond_true,av,Int.toNat_natCast]
  have ih:=ih trivial
  rw [show((i:Int)+1).toNat=i+1 by omega,xG hi,Int.natCast_add] at ih
  have h2:=FQ v.2.1 (i+1)
  rw [xG hi] at h2
  rw [ed (by omega) (by have:((J I v.2.1 i).2.2.2.2.2.1).length=(bh (J I v.2.1 i)).length:=rfl;omega)]
  exact ih) v.2.1.length 0 aQ (by omega) (jz (by omega)) trivial
 simpa [bytesOf] using this
theorem MU(v:af.D)(hl:v.2.1.length≤1048576)(hb:bytesOf v.2.1≤1048576):sr (v,())=some ((bytesOf v.2.1:Int),()):=by
 show Ei (u2 aQ) v=_
 unfold Ei
 have:=mV v.2.1.length (by omega) (fun m i=>u2 m (bytesOf (v.2.1.take i.toNat):Int) v.2.1 (v.2.1.length:Int) i) (fun _=>some ((bytesOf v.2.1:Int),())) (fun _=>True) (fun m _=>by
  simp only [u2,Ej]
  rw [cS (Nat.le_refl _)]
  simp only [Int.toNat_natCast,List.take_length,cond_false]) (fun m i hi _ hw ih=>by
  simp only [u2,Ej,hw]
  rw [cr hi,bB hi]
  simp only [cond_true,av,Int.toNat_natCast]
  have ih:=ih trivial
  rw [show((i:Int)+1).toNat=i+1 by omega,xG hi,Int.natCast_add] at ih
  have h2:=FQ v.2.1 (i+1)
  rw [xG hi] at h2
  rw [ed (by omega) (by have:((J I v.2.1 i).2.2.2.2.2.1).length=(bh (J I v.2.1 i)).length:=rfl;omega)]
  exact ih) v.2.1.length 0 aQ (by omega) (jz (by omega)) trivial
 simpa [bytesOf] using this
def bW{β : Type}(f:Nat → β)(B:Nat)(y : β):Prop:=∀m,B≤m→f m=y
theorem bW.step{β : Type}{f g:Nat → β}{B:Nat}{y : β}(h:bW g B y)(hf:∀m,f (m+1)=g m):bW f (B+1) y:=by
 intro m hm
 obtain ⟨k,rfl⟩:∃k,m=k+1:=⟨m-1,by omega⟩
 rw [hf];exact h k (by omega)
theorem bW.done{β : Type}{f:Nat → β}{y : β}(hf:∀m,f (m+1)=y):bW f 1 y:=by
 intro m hm
 obtain ⟨k,rfl⟩:∃k,m=k+1:=⟨m-1,by omega⟩
 exact hf k
theorem bW.mono{β : Type}{f:Nat → β}{B nn:Nat}{y : β}(h:bW f B y)(hb:B≤nn):bW f nn y:=fun m hm=>h m (by omega)
def dS{ll : Type} : Nat→(Nat → ll → ll) → ll → ll
 | 0,_,s=>s
 | n+1,f,s=>f n (dS n f s)
theorem sM{ll : Type}{n:Nat}{f:Nat → ll → ll}(Inv:Nat → ll → Prop)(e4:∀i s,i<n→Inv i s→Inv (i+1) (f i s)){s : ll}(h:Inv 0 s):Inv n (dS n f s):=by
 induction n with
 | zero=>exact h
 | succ n ih=>exact e4 n _ (by omega) (ih fun i s hi=>e4 i s (by omega))
theorem sN{ll β : Type}(n W:Nat)(F:Nat→Nat → ll → β)(step:Nat → ll → ll)(Inv:Nat → ll → Prop)(e4:∀i s,i<n→Inv i s→Inv (i+1) (step i s))
  (hs:∀i s,i<n→Inv i s→∀B y,bW (fun m=>F m (i+1) (step i s)) B y→bW (fun m=>F m i s) (B+W) y) (s : ll) (h:Inv 0 s) (B:Nat) (y : β) (he:bW (fun m=>F m n (dS n step s)) B y):bW (fun m=>F m 0 s) (B+n*W) y:=by
 have key:∀k,k≤n→bW (fun m=>F m (n-k) (dS (n-k) step s)) (B+k*W) y:=by
  intro k
  induction k with
  | zero=>intro _;simpa using he
  | succ k ih =>
   intro hk
   have:=ih (by omega)
   have hinv:Inv (n-(k+1)) (dS (n-(k+1)) step s):=sM Inv (fun i s hi=>e4 i s (by omega)) h
   have h2:=hs (n-(k+1)) _ (by omega) hinv (B+k*W) y (by
    rw [show n-(k+1)+1=n-k by omega]
    have e:dS (n-k) step s=step (n-(k+1)) (dS (n-(k+1)) step s):=by
     rw [show n-k=(n-(k+1))+1 by omega];rfl
    rw [← e];exact this)
   rw [Nat.add_one_mul,← Nat.add_assoc]
   exact h2
 have:=key n (Nat.le_refl _)
 simpa [dS] using this
def dx(l:List ay.D)(id:Int):Nat:=(l.filter fun d=>d.2.1==id).length
def cl(l:List aI)(id:Int):Nat:=(l.map fun x=>dx (ak x) id).sum
theorem af9{l:List ay.D}{id:Int}{j:Nat}(hj:j<l.length):dx (l.take (j+1)) id=dx (l.take j) id+cond ((J ay l j).2.1==id) 1 0:=by
 unfold dx
 rw [List.take_succ_eq_append_getElem hj,List.filter_append,List.length_append]
 congr 1
 rw [c8 hj]
 cases h:(l[j]).2.1==id <;> simp [List.filter_cons,h]
theorem af_(l:List ay.D)(id:Int):dx l id≤l.length:=List.length_filter_le _ _
theorem MV{l:List aI}{id:Int}{i:Nat}(hi:i<l.length):cl (l.take (i+1)) id=cl (l.take i) id+dx (ak (J I l i)) id:=by
 unfold cl
 rw [List.take_succ_eq_append_getElem hi,List.map_append,List.sum_append_nat]
 simp [c8 hi]
def dy(l:List aI):Nat:=(l.map fun x=>(ak x).length).sum
theorem Vf(l:List aI)(id:Int):cl l id≤dy l:=by
 unfold cl dy
 induction l with
 | nil=>simp
 | cons x l ih=>simp only [List.map_cons,List.sum_cons];have:=af_ (ak x) id;omega
theorem fN{l:List aI}{i:Nat}(hi:i<l.length):(ak (J I l i)).length≤dy l:=by
 unfold dy
 rw [c8 hi]
 have:∀(l:List aI) (i:Nat) (hi:i<l.length),(ak l[i]).length≤(l.map fun x=>(ak x).length).sum:=by
  intro l
  induction l with
  | nil=>intro i hi;simp at hi
  | cons x l ih =>
   intro i hi
   simp only [List.map_cons,List.sum_cons]
   cases i with
   | zero=>simp
   | succ i=>have:=ih i (by simpa using hi);simp only [List.getElem_cons_succ];omega
 exact this l i hi
theorem Vg(l:List aI)(id:Int)(i:Nat):cl (l.take i) id≤dy l:=by
 refine Nat.le_trans (Vf _ _) ?_
 unfold dy
 conv=>rhs;rw [← List.take_append_drop i l,List.map_append,List.sum_append_nat]
 omega
theorem de(i:Nat)(h:i<4000000000000000000):aK ((i:Int)+1)=((i+1:Nat):Int):=by rw [ed (by omega) (by omega)];omega
theorem MW(l:List aI)(id:Int):∀i,i≤l.length→dS i (fun i s=>s+dx (ak (J I l i)) id) 0=cl (l.take i) id
 | 0,_=>by simp [dS,cl]
 | i+1,h=>by
  rw [dS,MW l id i (by omega),MV (by omega)]
theorem MX(l:List ay.D)(id:Int)(s:Nat):∀j,j≤l.length→dS j (fun j s=>s+cond ((J ay l j).2.1==id) 1 0) s=s+dx (l.take j) id
 | 0,_=>by simp [dS,dx]
 | j+1,h=>by
  rw [dS,MX l id s j (by omega),af9 (by omega)];omega
theorem kL{β : Type}{f:Nat → β}{B:Nat}{y : β}(h:bW f B y)(hb:B≤4611686018427387904):f aQ=y:=h aQ (by have:=jz hb;omega)
theorem FR(v:af.D)(id:Int)(hl:v.2.1.length≤1048576)(hn:dy v.2.1≤1048576):zs (v,id,())=some ((cl v.2.1 id:Int),()):=by
 show Di (pP aQ) v id=_
 unfold Di
 have key:=sN v.2.1.length (1048576+2) (fun m i (s:Nat)=>(pP m).k3 id (s:Int) (i:Int) v) (fun i s=>s+dx (ak (J I v.2.1 i)) id) (fun i s=>s=cl (v.2.1.take i) id) (fun i s hi hs=>by rw [hs,MV hi]) (fun i s hi hs B y he=>by
  have l4:s≤1048576:=by have:=Vg v.2.1 id i;omega
  have hnl:=fN hi
  have inner:=sN (ak (J I v.2.1 i)).length 1 (fun m j (s:Nat)=>(pP m).dg id (s:Int) (i:Int) (j:Int) v) (fun j s=>s+cond ((J ay (ak (J I v.2.1 i)) j).2.1==id) 1 0) (fun j s=>s≤1048576+j) (fun j s hj hs=>by
   cases (J ay (ak (J I v.2.1 i)) j).2.1==id <;> simp <;> omega) (fun j s hj hs B y he=>by
   refine he.step fun m=>?_
   show zr (pP m) _ _ _ _ _=_
   unfold zr
   rw [bB hi]
   simp only [av]
   show cond (decide ((j:Int)<((ak (J I v.2.1 i)).length:Int))) ((aO (ak (J I v.2.1 i)).length (j:Int)).bind _) _=_
   rw [cr hj]
   simp only [cond_true]
   rw [bB hj]
   simp only [av]
   rw [de j (by omega),de s (by omega)]
   show cond ((J ay (ak (J I v.2.1 i)) j).2.1==id) _ _=_
   cases (J ay (ak (J I v.2.1 i)) j).2.1==id <;> rfl) s (by omega) (B+1) y (by
   refine he.step fun m=>?_
   rw [MX _ _ _ _ (Nat.le_refl _),List.take_length]
   show zr (pP m) _ _ _ _ _=_
   unfold zr
   rw [bB hi]
   simp only [av]
   show cond (decide (((ak (J I v.2.1 i)).length:Int)<((ak (J I v.2.1 i)).length:Int))) _ _=_
   rw [cS (Nat.le_refl _)]
   simp only [cond_false]
   rw [de i (by omega)])
  refine(inner.step (f:=fun m=>(pP m).k3 id (s:Int) (i:Int) v) fun m=>?_).mono (by omega)
  show zq (pP m) _ _ _ _=_
  unfold zq
  rw [cr hi];rfl) 0 (by simp [cl]) 1 (some ((cl v.2.1 id:Int),())) (bW.done fun m=>by
  rw [MW _ _ _ (Nat.le_refl _),List.take_length]
  show zq (pP m) _ _ _ _=_
  unfold zq
  rw [cS (Nat.le_refl _)];rfl)
 have hm:v.2.1.length*(1048576+2)≤1048576*(1048576+2):=Nat.mul_le_mul_right _ hl
 exact kL key (by omega)
theorem FT(v:af.D)(id:Int)(hl:v.2.1.length≤1048576)(hn:dy v.2.1≤1048576):xm (v,id,())=some ((cl v.2.1 id:Int),()):=by
 show Eg (pV aQ) v id=_
 unfold Eg
 have key:=sN v.2.1.length (1048576+2) (fun m i (s:Nat)=>(pV m).k3 id (s:Int) v.2.1 (v.2.1.length:Int) (i:Int)) (fun i s=>s+dx (ak (J I v.2.1 i)) id) (fun i s=>s=cl (v.2.1.take i) id) (fun i s hi hs=>by rw [hs,MV hi]) (fun i s hi hs B y he=>by
  have l4:s≤1048576:=by have:=Vg v.2.1 id i;omega
  have hnl:=fN hi
  have inner:=sN (ak (J I v.2.1 i)).length 1 (fun m j (s:Nat)=>(pV m).dg id (s:Int) v.2.1 (v.2.1.length:Int) (i:Int) (ak (J I v.2.1 i)) ((ak (J I v.2.1 i)).length:Int) (j:Int)) (fun j s=>s+cond ((J ay (ak (J I v.2.1 i)) j).2.1==id) 1 0) (fun j s=>s≤1048576+j) (fun j s hj hs=>by
   cases (J ay (ak (J I v.2.1 i)) j).2.1==id <;> simp <;> omega) (fun j s hj hs B y he=>by
   refine he.step fun m=>?_
   show zN (pV m) _ _ _ _ _ _ _ _=_
   unfold zN
   rw [cr hj]
   simp only [cond_true]
   rw [bB hj]
   simp only [av]
   rw [de j (by omega),de s (by omega)]
   cases (J ay (ak (J I v.2.1 i)) j).2.1==id <;> rfl) s (by omega) (B+1) y (by
   refine he.step fun m=>?_
   rw [MX _ _ _ _ (Nat.le_refl _),List.take_length]
   show zN (pV m) _ _ _ _ _ _ _ _=_
   unfold zN
   rw [cS (Nat.le_refl _)]
   simp only [cond_false]
   rw [de i (by omega)])
  refine(inner.step (f:=fun m=>(pV m).k3 id (s:Int) v.2.1 (v.2.1.length:Int) (i:Int)) fun m=>?_).mono (by omega)
  show zM (pV m) _ _ _ _ _=_
  unfold zM
  rw [cr hi,bB hi];rfl) 0 (by simp [cl]) 1 (some ((cl v.2.1 id:Int),())) (bW.done fun m=>by
  rw [MW _ _ _ (Nat.le_refl _),List.take_length]
  show zM (pV m) _ _ _ _ _=_
  unfold zM
  rw [cS (Nat.le_refl _)];rfl)
 have hm:v.2.1.length*(1048576+2)≤1048576*(1048576+2):=Nat.mul_le_mul_right _ hl
 exact kL key (by omega)
abbrev Flags:Type:=List Bool
def T(xs:Flags)(i:Nat):Prop:=J .bool xs i=true
theorem vr{xs:Flags}{x i:Nat}(hx:x<xs.length):T (xs.set x true) i↔(i=x∨T xs i):=by
 unfold T J
 simp only [List.getD_eq_getElem?_getD,List.getElem?_set]
 by_cases h:x=i
 ·subst h;simp [hx]
 ·simp only [h,if_false]
  constructor
  ·intro h;exact .inr h
  ·rintro (rfl | h1)
   ·exact absurd rfl h
   ·exact h1
abbrev FS:Type:=Flags×Flags
section
variable(l:List aI)
def jC(i j:Nat)(s:FS):FS :=
 match bd l (J ay (ak (J I l i)) j).2.1 with
 | none=>s
 | some x=>(s.1.set x true,s.2.set x true)
def iP(i:Nat)(s:FS):FS:=cond (J .bool s.2 i) (dS (ak (J I l i)).length (jC l i) s) s
def ft(s:FS):FS:=dS l.length (iP l) s
def FS.gv(n:Nat)(s:FS):Prop:=s.1.length=n∧s.2.length=n
theorem FU{n i j:Nat}{s:FS}(h:s.gv n):(jC l i j s).gv n:=by
 unfold jC;split
 ·exact h
 ·exact⟨by simpa using h.1,by simpa using h.2⟩
theorem FV{n i:Nat}{s:FS}(h:s.gv n):(iP l i s).gv n:=by
 unfold iP
 cases J .bool s.2 i
 ·exact h
 ·exact sM (fun _ s=>FS.gv n s) (fun i s _ hs=>FU l hs) h
theorem MY{n:Nat}{s:FS}(h:s.gv n):(ft l s).gv n:=sM (fun _ s=>FS.gv n s) (fun i s _ hs=>FV l hs) h
theorem af'(v:af.D)(hl:v.2.1.length≤1048576)(hn:dy v.2.1≤1048576)(s:FS)(h:s.gv v.2.1.length) :
  (kc aQ).dL 0 v s.1 s.2=some ((dS v.2.1.length (fun _=>ft v.2.1) s).1,()):=by
 have key:=sN v.2.1.length (v.2.1.length*1048580+2) (fun m k (s:FS)=>(kc m).dL (k:Int) v s.1 s.2) (fun _=>ft v.2.1) (fun _ s=>s.gv v.2.1.length) (fun _ s _ hs=>MY v.2.1 hs) (fun k s hk hs B y he=>by
  have inner:=sN v.2.1.length 1048580 (fun m i (s:FS)=>(kc m).db (k:Int) (i:Int) v s.1 s.2) (iP v.2.1) (fun _ s=>s.gv v.2.1.length) (fun _ s _ hs=>FV v.2.1 hs) (fun i s hi hs B y he=>by
   have hnl:=fN hi
   cases ho:J .bool s.2 i
   ·refine(he.step (f:=fun m=>(kc m).db (k:Int) (i:Int) v s.1 s.2) fun m=>?_).mono (by omega)
    show uz (kc m) _ _ _ _ _=_
    unfold uz
    have eN:aO s.2.length (i:Int)=some i:=bB (by rw [hs.2];exact hi)
    rw [cr hi,eN]
    simp only [cond_true,av,Nat.zero_add,ho,Bool.not_false]
    rw [de i (by omega)]
    unfold iP;rw [ho];rfl
   ·have hst:iP v.2.1 i s=dS (ak (J I v.2.1 i)).length (jC v.2.1 i) s:=by unfold iP;rw [ho];rfl
    rw [hst] at he
    have inj:=sN (ak (J I v.2.1 i)).length 1 (fun m j (s:FS)=>(kc m).qI (k:Int) (i:Int) (j:Int) v s.1 s.2) (jC v.2.1 i) (fun _ s=>s.gv v.2.1.length) (fun _ s _ hs=>FU v.2.1 hs) (fun j s hj hs B y he=>by
     refine he.step fun m=>?_
     show zm (kc m) _ _ _ _ _ _=_
     unfold zm
     rw [bB hi]
     simp only [av]
     show cond (decide ((j:Int)<((ak (J I v.2.1 i)).length:Int))) ((aO (ak (J I v.2.1 i)).length (j:Int)).bind _) _=_
     rw [cr hj]
     simp only [cond_true]
     rw [bB hj]
     simp only [av]
     rw [l3 v _ hl]
     simp only [av,Al]
     rw [de j (by omega)]
     show cond (bd v.2.1 (J ay (ak (J I v.2.1 i)) j).2.1).isSome _ _=_
     unfold jC
     cases hx:bd v.2.1 (J ay (ak (J I v.2.1 i)) j).2.1 with
     | none=>rfl
     | some x =>
      have hxl:=(bY hx).1
      simp only [Option.isSome_some,cond_true]
      have hx2:bd v.2.1 (J ay (J I v.2.1 i).2.2.2.2.2.2.1 j).2.1=some x:=hx
      rw [hx2]
      show((aO s.1.length ((x:Nat):Int)).bind _)=_
      rw [bB (by rw [hs.1];exact hxl)]
      simp only [av]
      show((aO s.2.length ((x:Nat):Int)).bind _)=_
      rw [bB (by rw [hs.2];exact hxl)]
      simp only [av,Nat.zero_add]) s hs (B+1) y (by
     refine he.step fun m=>?_
     show zm (kc m) _ _ _ _ _ _=_
     unfold zm
     rw [bB hi]
     simp only [av]
     show cond (decide (((ak (J I v.2.1 i)).length:Int)<((ak (J I v.2.1 i)).length:Int))) _ _=_
     rw [cS (Nat.le_refl _)]
     simp only [cond_false]
     rw [de i (by omega)])
    refine(inj.step (f:=fun m=>(kc m).db (k:Int) (i:Int) v s.1 s.2) fun m=>?_).mono (by omega)
    show uz (kc m) _ _ _ _ _=_
    unfold uz
    have eN:aO s.2.length (i:Int)=some i:=bB (by rw [hs.2];exact hi)
    rw [cr hi,eN]
    simp only [cond_true,av,Nat.zero_add,ho,Bool.not_true,cond_false]
    rfl) s hs (B+1) y (by
   refine he.step fun m=>?_
   show uz (kc m) _ _ _ _ _=_
   unfold uz
   rw [cS (Nat.le_refl _)]
   simp only [cond_false]
   rw [de k (by omega)];rfl)
  refine(inner.step (f:=fun m=>(kc m).dL (k:Int) v s.1 s.2) fun m=>?_).mono (by omega)
  show zl (kc m) _ _ _ _=_
  unfold zl
  rw [cr hk];rfl) s h 1 (some ((dS v.2.1.length (fun _=>ft v.2.1) s).1,())) (bW.done fun m=>by
  show zl (kc m) _ _ _ _=_
  unfold zl
  rw [cS (Nat.le_refl _)];rfl)
 have h1:v.2.1.length*1048580≤1048576*1048580:=Nat.mul_le_mul_right _ hl
 have hm:v.2.1.length*(v.2.1.length*1048580+2)≤1048576*(1048576*1048580+2):=Nat.mul_le_mul hl (Nat.add_le_add_right h1 2)
 have wh:=Nat.le_trans hm (by decide:1048576*(1048576*1048580+2)≤4611686018427387000)
 generalize v.2.1.length*(v.2.1.length*1048580+2)=X at *
 exact kL key (by omega)
def fO(n:Nat):Flags:=List.replicate n false
def dw(id:Int):Flags :=
 match bd l id with
 | none=>fO l.length
 | some a=>(dS l.length (fun _=>ft l) (fO l.length,(fO l.length).set a true)).1
theorem Vh(v:af.D)(id:Int)(hl:v.2.1.length≤1048576)(hn:dy v.2.1≤1048576):Da (v,id,())=some (dw v.2.1 id,()):=by
 show C' (kc aQ) v id=_
 unfold C'
 have hr:(decide (0≤(v.2.1.length:Int))&&decide ((v.2.1.length:Int)=(v.2.1.length:Int))&&room (Int.toNat (v.2.1.length:Int)))=true:=by
  rw [Int.toNat_natCast,cH (by omega),decide_eq_true (by omega),decide_eq_true rfl];rfl
 rw [hr]
 simp only [cond_true]
 rw [l3 v id hl]
 simp only [av,Ak,Int.toNat_natCast]
 unfold dw
 cases ha:bd v.2.1 id with
 | none=>rfl
 | some a =>
  simp only [Option.isNone_some,cond_false,hL]
  rw [List.length_replicate,bB (bY ha).1]
  simp only [av,Nat.zero_add]
  exact af' v hl hn (fO v.2.1.length,(fO v.2.1.length).set a true) ⟨by simp [fO],by simp [fO]⟩
end
theorem cJ{t:ad}{xs:List t.D}{i:Nat}(h:i<xs.length):J t xs i∈xs:=by rw [c8 h];exact List.getElem_mem h
theorem fw{t:ad}{xs:List t.D}{x:t.D}(h:x∈xs):∃i,i<xs.length∧J t xs i=x:=by
 obtain ⟨i,hi,he⟩:=List.mem_iff_getElem.1 h
 exact⟨i,hi,by rw [c8 hi];exact he⟩
def E(l:List aI)(a b:Int):Prop:=∃i d,bd l a=some i∧d∈ak (J I l i)∧d.2.1=b
abbrev dt(l:List aI)(a b:Int):Prop:=Relation.TransGen (E l) a b
def h9(l:List aI):Prop:=∀x,x<l.length→bd l (J I l x).1=some x
def q_(l:List aI):Prop:=∀i,i<l.length→∀d,d∈ak (J I l i)→(bd l d.2.1).isSome=true
section
variable(l:List aI)
theorem Vi{xs:Flags}{x i:Nat}(h:T xs i):T (xs.set x true) i:=by
 by_cases hx:x<xs.length
 ·exact(vr hx).2 (.inr h)
 ·rwa [List.set_eq_of_length_le (by omega)]
def FS.le(s ar:FS):Prop:=(∀i,T s.1 i→T ar.1 i)∧(∀i,T s.2 i→T ar.2 i)
theorem FS.le.FW{s:FS} : s.le s:=⟨fun _ h=>h,fun _ h=>h⟩
theorem FS.le.JA{s ar Vj:FS}(h:s.le ar)(k:ar.le Vj):s.le Vj:=⟨fun i hi=>k.1 i (h.1 i hi),fun i hi=>k.2 i (h.2 i hi)⟩
theorem Am{f:Nat→FS→FS}(h:∀i s,FS.le s (f i s))(s:FS):∀n,FS.le s (dS n f s)
 | 0=>.FW
 | n+1=>(Am h s n).JA (h n _)
theorem Vk{f:Nat→FS→FS}(h:∀i s,FS.le s (f i s))(s:FS){i n:Nat}(hi:i<n):FS.le (f i (dS i f s)) (dS n f s):=by
 induction n with
 | zero=>omega
 | succ n ih =>
  by_cases h1:i=n
  ·subst h1;exact .FW
  ·exact(ih (by omega)).JA (h n _)
theorem Vl(i j:Nat)(s:FS):FS.le s (jC l i j s):=by
 unfold jC;split
 ·exact .FW
 ·exact⟨fun _ h=>Vi h,fun _ h=>Vi h⟩
theorem MZ(i:Nat)(s:FS):FS.le s (iP l i s):=by
 unfold iP
 cases J .bool s.2 i
 ·exact .FW
 ·exact Am (Vl l i) s _
theorem FX(s:FS):FS.le s (ft l s):=Am (MZ l) s _
theorem aga{s:FS}(hs:s.gv l.length){i x:Nat}(hi:i<l.length)(ho:T s.2 i){d:ay.D}(ag:d∈ak (J I l i))(hx:bd l d.2.1=some x):T (ft l s).1 x∧T (ft l s).2 x:=by
 have h1:=Vk (MZ l) s hi
 have ht:T (dS i (iP l) s).2 i:=(Am (MZ l) s i).2 i ho
 have rU:(dS i (iP l) s).gv l.length:=sM (fun _ s=>FS.gv l.length s) (fun i s _ hs=>FV l hs) hs
 generalize dS i (iP l) s=t at *
 obtain ⟨j,hj,rfl⟩:=fw ag
 have h2:=Vk (Vl l i) t hj
 have e:iP l i t=dS (ak (J I l i)).length (jC l i) t:=by unfold iP;rw [show J .bool t.2 i=true from ht];rfl
 rw [← e] at h2
 have qp:(dS j (jC l i) t).gv l.length:=sM (fun _ s=>FS.gv l.length s) (fun i s _ hs=>FU l hs) rU
 generalize dS j (jC l i) t=u at *
 have hs:jC l i j u=(u.1.set x true,u.2.set x true):=by unfold jC;rw [hx]
 rw [hs] at h2
 have hxl:=(bY hx).1
 exact⟨h1.1 x (h2.1 x ((vr (by rw [qp.1];exact hxl)).2 (.inl rfl))),h1.2 x (h2.2 x ((vr (by rw [qp.2];exact hxl)).2 (.inl rfl)))⟩
theorem Vm(Pi fP:Nat→Prop)(vt:∀i,i<l.length→fP i→∀d,d∈ak (J I l i)→∀x,bd l d.2.1=some x→Pi x∧fP x){s:FS}(hl:s.gv l.length)(h1:∀i,T s.1 i→Pi i)(h2:∀i,T s.2 i→fP i) :
  (∀i,T (ft l s).1 i→Pi i)∧(∀i,T (ft l s).2 i→fP i):=by
 have key:(ft l s).gv l.length∧(∀i,T (ft l s).1 i→Pi i)∧(∀i,T (ft l s).2 i→fP i):=by
  refine sM (fun _ (s:FS)=>s.gv l.length∧(∀i,T s.1 i→Pi i)∧(∀i,T s.2 i→fP i)) (fun i s hi hs=>?_) ⟨hl,h1,h2⟩
  obtain ⟨hl,h1,h2⟩:=hs
  refine⟨FV l hl,?_⟩
  cases ho:J .bool s.2 i
  ·rw [show iP l i s=s by unfold iP;rw [ho];rfl];exact⟨h1,h2⟩
  ·rw [show iP l i s=dS (ak (J I l i)).length (jC l i) s by unfold iP;rw [ho];rfl]
   have:=sM (n:=(ak (J I l i)).length) (f:=jC l i) (fun _ (s:FS)=>s.gv l.length∧(∀i,T s.1 i→Pi i)∧(∀i,T s.2 i→fP i)) (fun j t hj ht=>by
    obtain ⟨hl,g1,g2⟩:=ht
    refine⟨FU l hl,?_⟩
    unfold jC
    split
    ·exact⟨g1,g2⟩
    ·rename_i x hx
     obtain ⟨ej,fm⟩:=vt i hi (h2 i ho) _ (cJ hj) x hx
     have hxl:=(bY hx).1
     refine⟨fun k hk=>?_,fun k hk=>?_⟩
     ·rcases (vr (by rw [hl.1];exact hxl)).1 hk with rfl | hk
      ·exact ej
      ·exact g1 k hk
     ·rcases (vr (by rw [hl.2];exact hxl)).1 hk with rfl | hk
      ·exact fm
      ·exact g2 k hk) ⟨hl,h1,h2⟩
   exact this.2
 exact key.2
def FY(s:FS):Prop:=∀i,i<l.length→T s.2 i→∀d,d∈ak (J I l i)→∀x,bd l d.2.1=some x→T s.1 x∧T s.2 x
theorem agb{s:FS}(hl:s.gv l.length)(h:FY l s):FY l (ft l s):=by
 obtain ⟨h1,h2⟩:=Vm l (T s.1) (T s.2) h hl (fun _ h=>h) (fun _ h=>h)
 intro i hi ho d ag x hx
 obtain ⟨ej,fm⟩:=h i hi (h2 i ho) d ag x hx
 exact⟨(FX l s).1 x ej,(FX l s).2 x fm⟩
def nU(xs:Flags):Nat:=(xs.filter fun b=>b).length
theorem agc(xs:Flags):nU xs≤xs.length:=List.length_filter_le _ _
theorem Vn:∀(a b:Flags),a.length=b.length→(∀i,T a i→T b i)→nU a≤nU b∧(nU a=nU b→a=b)
 | [],[],_,_=>⟨Nat.le_refl _,fun _=>rfl⟩
 | [],_ :: _,h,_=>by simp at h
 | _ :: _,[],h,_=>by simp at h
 | x :: a,y :: b,h,bX=>by
  obtain ⟨h1,h2⟩:=Vn a b (by simpa using h) (fun i hi=>bX (i+1) hi)
  have h0:x=true→y=true:=fun hx=>bX 0 hx
  unfold nU at *
  cases x <;> cases y <;> simp only [List.filter_cons,if_true,Bool.false_eq_true,if_false,List.length_cons]
  ·exact⟨h1,fun h=>by rw [h2 h]⟩
  ·exact⟨by omega,fun h=>by omega⟩
  ·exact absurd (h0 rfl) (by simp)
  ·exact⟨by omega,fun h=>by rw [h2 (by omega)]⟩
theorem agd{xs:Flags}{i:Nat}(h:T xs i):1≤nU xs:=by
 have hm:true∈xs:=by
  unfold T J at h
  rw [List.getD_eq_getElem?_getD] at h
  cases hx:xs[i]? with
  | none=>rw [hx] at h;simp at h;cases h
  | some b =>
   rw [hx] at h
   have hb:b=true:=h
   subst hb
   exact List.mem_of_getElem? hx
 unfold nU
 exact List.length_pos_of_mem (List.mem_filter.2 ⟨hm,rfl⟩)
theorem rounds(s:FS)(hl:s.gv l.length)(h:1≤nU s.2):∀k,(dS k (fun _=>ft l) s).gv l.length∧(FY l (dS k (fun _=>ft l) s)∨k+1≤nU (dS k (fun _=>ft l) s).2)
 | 0=>⟨hl,.inr h⟩
 | k+1=>by
  obtain ⟨hk,ih⟩:=rounds s hl h k
  rw [dS]
  generalize dS k (fun _=>ft l) s=t at *
  have hr:=MY l hk
  refine⟨hr,?_⟩
  rcases ih with ih | ih
  ·exact .inl (agb l hk ih)
  ·obtain ⟨c1,gJ⟩:=Vn t.2 (ft l t).2 (by rw [hk.2,hr.2]) (FX l t).2
   by_cases hc:nU t.2=nU (ft l t).2
   ·left
    have e:=gJ hc
    intro i hi ho d ag x hx
    rw [← e] at ho
    exact aga l hk hi ho ag hx
   ·right;omega
theorem M0(Pi fP:Nat→Prop)(vt:∀i,i<l.length→fP i→∀d,d∈ak (J I l i)→∀x,bd l d.2.1=some x→Pi x∧fP x)(s:FS)(hl:s.gv l.length)(h1:∀i,T s.1 i→Pi i)(h2:∀i,T s.2 i→fP i) :
  ∀k,(dS k (fun _=>ft l) s).gv l.length∧(∀i,T (dS k (fun _=>ft l) s).1 i→Pi i)∧(∀i,T (dS k (fun _=>ft l) s).2 i→fP i)
 | 0=>⟨hl,h1,h2⟩
 | k+1=>by
  obtain ⟨g,g1,g2⟩:=M0 Pi fP vt s hl h1 h2 k
  exact⟨MY l g,Vm l Pi fP vt g g1 g2⟩
theorem age(s:FS):∀k,FS.le s (dS k (fun _=>ft l) s):=Am (fun _ s=>FX l s) s
theorem M1(n i:Nat):¬T (fO n) i:=by
 unfold T J fO
 rw [List.getD_eq_getElem?_getD,List.getElem?_replicate]
 split <;> simp [ad.zero]
theorem Vo(id:Int):(dw l id).length=l.length:=by
 unfold dw
 split
 ·simp [fO]
 ·exact(M0 l (fun _=>True) (fun _=>True) (fun _ _ _ _ _ _ _=>⟨trivial,trivial⟩) _ ⟨by simp [fO],by simp [fO]⟩ (fun _ _=>trivial) (fun _ _=>trivial) _).1.1
theorem xH(ag:h9 l)(id:Int){x:Nat}(hx:x<l.length):T (dw l id) x↔dt l id (J I l x).1:=by
 unfold dw
 cases ha:bd l id with
 | none =>
  constructor
  ·intro h;exact absurd h (M1 _ _)
  ·intro h
   have:∀b,dt l id b→False:=by
    intro b hb
    induction hb with
    | single h=>obtain ⟨i,d,h1,_⟩:=h;rw [ha] at h1;cases h1
    | tail _ _ ih=>exact ih
   exact(this _ h).elim
 | some a =>
  obtain ⟨dX,agf⟩:=bY ha
  have hM:FS.gv l.length (fO l.length,(fO l.length).set a true):=⟨by simp [fO],by simp [fO]⟩
  have ho:T ((fO l.length).set a true) a:=(vr (by simp [fO];exact dX)).2 (.inl rfl)
  constructor
  ·intro h
   refine(M0 l (fun y=>dt l id (J I l y).1) (fun y=>(J I l y).1=id∨dt l id (J I l y).1) ?_ _ hM (fun i h=>absurd h (M1 _ _)) ?_ l.length).2.1 x h
   ·intro i hi xI d im y aN
    obtain ⟨hyl,xJ⟩:=bY aN
    have he:E l (J I l i).1 (J I l y).1:=⟨i,d,ag i hi,im,xJ.symm⟩
    rcases xI with xI | xI
    ·rw [xI] at he;exact⟨.single he,.inr (.single he)⟩
    ·exact⟨xI.tail he,.inr (xI.tail he)⟩
   ·intro i hi
    rcases (vr (by simp [fO];exact dX)).1 hi with rfl | hi
    ·exact .inl agf
    ·exact absurd hi (M1 _ _)
  ·intro h
   obtain ⟨hlen,agh⟩:=rounds l _ hM (agd ho) l.length
   have hc:FY l (dS l.length (fun _=>ft l) (fO l.length,(fO l.length).set a true)):=by
    rcases agh with h | h
    ·exact h
    ·have:=agc (dS l.length (fun _=>ft l) (fO l.length,(fO l.length).set a true)).2
     rw [hlen.2] at this
     omega
   show T (dS l.length (fun _=>ft l) (fO l.length,(fO l.length).set a true)).1 x
   have agi:=(age l (fO l.length,(fO l.length).set a true) l.length).2 a ho
   generalize dS l.length (fun _=>ft l) (fO l.length,(fO l.length).set a true)=F at *
   have key:∀b,dt l id b→∀y,bd l b=some y→T F.1 y∧T F.2 y:=by
    intro b hb
    induction hb with
    | single h =>
     obtain ⟨i,d,h1,h2,h3⟩:=h
     intro y aN
     rw [ha] at h1
     obtain rfl:=aU h1
     exact hc _ dX agi d h2 y (by rw [h3];exact aN)
    | tail _ h ih =>
     obtain ⟨i,d,h1,h2,h3⟩:=h
     intro y aN
     exact hc i (bY h1).1 (ih i h1).2 d h2 y (by rw [h3];exact aN)
   exact(key _ h x (ag x hx)).1
end
section
variable(l:List aI)
def gG(q:Int):List ay.D :=
 match bd l q with
 | none=>[]
 | some i=>ak (J I l i)
theorem M3{a b:Int} : E l a b↔∃d,d∈gG l a∧d.2.1=b:=by
 unfold E gG
 constructor
 ·rintro ⟨i,d,h1,h2,h3⟩;rw [h1];exact⟨d,h2,h3⟩
 ·rintro ⟨d,h1,h2⟩
  cases hi:bd l a with
  | none=>rw [hi] at h1;simp at h1
  | some i=>rw [hi] at h1;exact⟨i,d,rfl,h1,h2⟩
def FZ:List Int:=l.flatMap fun x=>(ak x).map fun d=>d.2.1
theorem agj:(FZ l).length=dy l:=by
 unfold FZ dy
 rw [List.length_flatMap]
 congr 1
 simp
theorem agk{q:Int}{d:ay.D}(h:d∈gG l q):d.2.1∈FZ l:=by
 unfold gG at h
 cases hi:bd l q with
 | none=>rw [hi] at h;simp at h
 | some i =>
  rw [hi] at h
  exact List.mem_flatMap.2 ⟨_,cJ (bY hi).1,List.mem_map.2 ⟨d,h,rfl⟩⟩
theorem agl(q:Int):(gG l q).length≤dy l:=by
 unfold gG
 split
 ·simp
 ·rename_i i hi;exact fN (bY hi).1
def p0(out:List Int)(d:ay.D):List Int:=if d.2.1∈out then out else out++[d.2.1]
structure p1(id:Int)(out:List Int):Prop where
 fD:out.Nodup
 sub:out⊆FZ l
 An:∀b,b∈out→dt l id b
theorem p1.len{id:Int}{out:List Int}(h:p1 l id out):out.length≤dy l:=by
 rw [← agj];exact h.fD.length_le_of_subset h.sub
theorem Vp{id q:Int}{out:List Int}{d:ay.D}(h:p1 l id out)(hq:q=id∨dt l id q)(ag:d∈gG l q):p1 l id (p0 out d):=by
 unfold p0
 split
 ·exact h
 ·rename_i hn
  have he:E l q d.2.1:=(M3 l).2 ⟨d,ag,rfl⟩
  refine⟨?_,?_,?_⟩
  ·rw [List.nodup_append]
   refine⟨h.fD,by simp,?_⟩
   intro a ha b hb
   rw [List.mem_singleton] at hb
   subst hb
   rintro rfl
   exact hn ha
  ·intro a ha
   rcases List.mem_append.1 ha with ha | ha
   ·exact h.sub ha
   ·rw [List.mem_singleton] at ha;rw [ha];exact agk l ag
  ·intro b hb
   rcases List.mem_append.1 hb with hb | hb
   ·exact h.An b hb
   ·rw [List.mem_singleton] at hb
    rw [hb]
    rcases hq with rfl | hq
    ·exact .single he
    ·exact hq.tail he
theorem Vq(out:List Int)(d:ay.D):∃t,p0 out d=out++t:=by
 unfold p0;split
 ·exact⟨[],by simp⟩
 ·exact⟨_,rfl⟩
theorem agm(out:List Int)(d:ay.D):d.2.1∈p0 out d:=by
 unfold p0;split
 ·assumption
 ·simp
def addN(q:Int)(out:List Int):List Int:=dS (gG l q).length (fun j o=>p0 o (J ay (gG l q) j)) out
theorem agn{id q:Int}{out:List Int}(h:p1 l id out)(hq:q=id∨dt l id q):p1 l id (addN l q out)∧(∃t,addN l q out=out++t)∧∀d,d∈gG l q→d.2.1∈addN l q out:=by
 have key:=sM (n:=(gG l q).length) (f:=fun j o=>p0 o (J ay (gG l q) j)) (fun j o=>p1 l id o∧(∃t,o=out++t)∧∀k,k<j→(J ay (gG l q) k).2.1∈o) (fun j o hj ho=>by
  obtain ⟨h1,⟨t,ht⟩,h3⟩:=ho
  refine⟨Vp l h1 hq (cJ hj),?_,?_⟩
  ·obtain ⟨dn,M4⟩:=Vq o (J ay (gG l q) j)
   exact⟨t++dn,by rw [M4,ht,List.append_assoc]⟩
  ·intro k hk
   by_cases q':k=j
   ·subst q';exact agm _ _
   ·obtain ⟨dn,M4⟩:=Vq o (J ay (gG l q) j)
    rw [M4]
    exact List.mem_append.2 (.inl (h3 k (by omega)))) ⟨h,⟨[],by simp⟩,fun k hk=>by omega⟩
 obtain ⟨k1,k2,k3⟩:=key
 refine⟨k1,k2,fun d ag=>?_⟩
 obtain ⟨i,hi,he⟩:=fw ag
 rw [← he];exact k3 i hi
end
structure Found(l:List aI)(id:Int)(out:List Int):Prop where
 fD:out.Nodup
 iff:∀b,b∈out↔dt l id b
 len:out.length≤dy l
theorem Vr{l:List aI}{id:Int}{out:List Int}(h:p1 l id out)(hc:∀q,q=id∨q∈out→∀d,d∈gG l q→d.2.1∈out):Found l id out:=by
 refine⟨h.fD,fun b=>⟨h.An b,fun hb=>?_⟩,h.len⟩
 induction hb with
 | single he=>obtain ⟨d,h1,rfl⟩:=(M3 l).1 he;exact hc id (.inl rfl) d h1
 | tail _ he ih=>obtain ⟨d,h1,rfl⟩:=(M3 l).1 he;exact hc _ (.inr ih) d h1
theorem ago(v:af.D)(hl:v.2.1.length≤1048576)(hn:dy v.2.1≤1048576)(id:Int):∀(r i:Nat) (out:List Int),i+r=dy v.2.1+1→p1 v.2.1 id out→i≤out.length+1 →
  (∀k,k<i→∀d,d∈gG v.2.1 (J (.int .i64) (id :: out) k)→d.2.1∈out) →
  ∃Ao,Found v.2.1 id Ao∧bW (fun m=>(mQ m).bg v (i:Int) out (id :: out)) (1+r*1048580) (some (Ao,())):=by
 intro r
 induction r with
 | zero =>
  intro i out hi ho M5 hc
  have:=ho.len
  have fo:i=out.length+1:=by omega
  refine⟨out,Vr ho fun q hq d ag=>?_,(bW.done fun m=>?_).mono (by omega)⟩
  ·rcases hq with rfl | hq
   ·exact hc 0 (by omega) d ag
   ·obtain ⟨k,hk,he⟩:=fw (t:=.int .i64) hq
    exact hc (k+1) (by omega) d (by rw [show J (.int .i64) (id :: out) (k+1)=J (.int .i64) out k from rfl,he];exact ag)
  ·show qW (mQ m) _ _ _ _=_
   unfold qW
   rw [show(id :: out).length=i by rw [List.length_cons,fo],cS (Nat.le_refl _)];rfl
 | succ r ih =>
  intro i out hi ho M5 hc
  by_cases cw:i<out.length+1
  case neg =>
   have fo:i=out.length+1:=by omega
   refine⟨out,Vr ho fun q hq d ag=>?_,(bW.done fun m=>?_).mono (by omega)⟩
   ·rcases hq with rfl | hq
    ·exact hc 0 (by omega) d ag
    ·obtain ⟨k,hk,he⟩:=fw (t:=.int .i64) hq
     exact hc (k+1) (by omega) d (by rw [show J (.int .i64) (id :: out) (k+1)=J (.int .i64) out k from rfl,he];exact ag)
   ·show qW (mQ m) _ _ _ _=_
    unfold qW
    rw [show(id :: out).length=i by rw [List.length_cons,fo],cS (Nat.le_refl _)];rfl
  generalize hq:J (.int .i64) (id :: out) i=q at *
  have Vs:q=id∨dt v.2.1 id q:=by
   cases i with
   | zero=>left;rw [← hq];rfl
   | succ k =>
    right
    refine ho.An q ?_
    rw [← hq]
    exact cJ (t:=.int .i64) (xs:=out) (by omega)
  obtain ⟨k1,⟨t,ht⟩,k3⟩:=agn v.2.1 ho Vs
  have hpre:∀k,k<out.length+1→J (.int .i64) (id ::(out++t)) k=J (.int .i64) (id :: out) k:=by
   intro k hk
   unfold J
   rw [List.getD_eq_getElem?_getD,List.getD_eq_getElem?_getD,← List.cons_append,List.getElem?_append_left (by simpa using hk)]
  obtain ⟨Ao,f1,f2⟩:=ih (i+1) (addN v.2.1 q out) (by omega) k1 (by rw [ht];simp;omega) (fun k hk d ag=>by
   by_cases fM:k=i
   ·subst fM
    rw [ht,hpre k cw,hq] at ag
    exact k3 d ag
   ·rw [ht,hpre k (by omega)] at ag
    rw [ht]
    exact List.mem_append.2 (.inl (hc k (by omega) d ag)))
  refine⟨Ao,f1,?_⟩
  have hol:=ho.len
  have mX:i<4000000000000000000:=by omega
  cases hx:bd v.2.1 q with
  | none =>
   have jX:gG v.2.1 q=[]:=by unfold gG;rw [hx]
   have F2:addN v.2.1 q out=out:=by unfold addN;rw [jX];rfl
   rw [F2] at f2
   refine(f2.step (f:=fun m=>(mQ m).bg v (i:Int) out (id :: out)) fun m=>?_).mono (by omega)
   show qW (mQ m) _ _ _ _=_
   unfold qW
   rw [cr (by simpa using cw),bB (by simpa using cw)]
   simp only [cond_true,av,Nat.zero_add]
   rw [hq,xF v q hl]
   simp only [av]
   rw [hx,de i mX];rfl
  | some x =>
   have jX:gG v.2.1 q=ak (J I v.2.1 x):=by unfold gG;rw [hx]
   have hnl:=agl v.2.1 q
   have inner:=sN (gG v.2.1 q).length 1 (fun m j (o:List Int)=>(mQ m).hg v (i:Int) (gG v.2.1 q) ((gG v.2.1 q).length:Int) (j:Int) o (id :: o)) (fun j o=>p0 o (J ay (gG v.2.1 q) j)) (fun j o=>p1 v.2.1 id o) (fun j o hj ho=>Vp v.2.1 ho Vs (cJ hj)) (fun j o hj ho B y he=>by
    refine he.step fun m=>?_
    have hol:=ho.len
    show zL (mQ m) _ _ _ _ _ _ _=_
    unfold zL
    rw [cr hj,bB hj]
    simp only [cond_true,av]
    rw [contains_eq _ _ (by omega)]
    simp only [av]
    rw [de j (by omega)]
    unfold p0
    by_cases hm:(J ay (gG v.2.1 q) j).2.1∈o
    ·rw [decide_eq_true hm,if_pos hm];rfl
    ·rw [decide_eq_false hm,if_neg hm,cH (by simp;omega),cH (by simp;omega)];rfl) out ho (1+r*1048580+1) (some (Ao,())) (by
    refine f2.step fun m=>?_
    show zL (mQ m) _ _ _ _ _ _ _=_
    unfold zL
    rw [cS (Nat.le_refl _)]
    simp only [cond_false]
    rw [de i mX];rfl)
   refine(inner.step (f:=fun m=>(mQ m).bg v (i:Int) out (id :: out)) fun m=>?_).mono (by omega)
   show qW (mQ m) _ _ _ _=_
   unfold qW
   rw [cr (by simpa using cw),bB (by simpa using cw)]
   simp only [cond_true,av,Nat.zero_add]
   rw [hq,xF v q hl]
   simp only [av]
   rw [hx,jX];rfl
theorem M6(v:af.D)(hl:v.2.1.length≤1048576)(hn:dy v.2.1≤1048576)(id:Int):∃out,Found v.2.1 id out∧u0 (v,id,())=some (out,()):=by
 obtain ⟨out,h1,h2⟩:=ago v hl hn id (dy v.2.1+1) 0 [] (by omega) ⟨by simp,by simp,by simp⟩ (by simp) (fun k hk=>by omega)
 refine⟨out,h1,?_⟩
 show Ef (mQ aQ) v id=_
 unfold Ef
 have hm:(dy v.2.1+1)*1048580≤1048577*1048580:=Nat.mul_le_mul_right _ (by omega)
 exact kL h2 (by omega)
theorem Ap{β : Type}(n W:Nat)(F:Nat→Nat → β)(P:Nat→Bool)(no E : β)(B:Nat)
  (hs:∀i,i<n→(∀j,j<i→P j=true)→P i=true→∀B y,bW (fun m=>F m (i+1)) B y→bW (fun m=>F m i) (B+W) y)
  (hx:∀i,i<n→(∀j,j<i→P j=true)→P i=false→bW (fun m=>F m i) W no)
  (lX:(∀j,j<n→P j=true)→bW (fun m=>F m n) B E):bW (fun m=>F m 0) (B+n*W) (cond (fs n P) E no):=by
 have key:∀r i,i+r=n→(∀j,j<i→P j=true)→bW (fun m=>F m i) (B+r*W) (cond (fs n P) E no):=by
  intro r
  induction r with
  | zero =>
   intro i hi au
   have:i=n:=by omega
   subst this
   rw [lk.2 au]
   simpa using lX au
  | succ r ih =>
   intro i hi au
   cases F3:P i
   ·have:fs n P=false:=by
     rw [← Bool.not_eq_true]
     intro h
     have:=lk.1 h i (by omega)
     rw [F3] at this;cases this
    rw [this]
    refine(hx i (by omega) au F3).mono ?_
    rw [Nat.add_one_mul];omega
   ·have:=hs i (by omega) au F3 _ _ (ih (i+1) (by omega) fun j hj=>by
     by_cases h:j=i
     ·subst h;exact F3
     ·exact au j (by omega))
    rw [Nat.add_one_mul,← Nat.add_assoc]
    exact this
 exact key n 0 (by omega) (by intro j hj;omega)
def eE(x:aI):Int:=x.2.2.2.2.2.2.2.1
def et(x:aI):Int:=x.2.2.2.2.2.2.2.2.1
def plain(x:aI):Bool:=((ak x).length:Int)==0&&eE x==0&&et x==0
def oZ(l:List aI)(N:List ay.D)(j:Nat):Bool :=
 iz (J ay N j).1 && !(decide (0<j) && !dz (J ay N (j-1)).1 (J ay N j).1) && !((J ay N j).2.1==1)&&(bd l (J ay N j).2.1).isSome
def sO(l:List aI)(x:aI):Bool:=fs (ak x).length (oZ l (ak x))&&decide (((ak x).length:Int)≤12)
def nV(l:List aI)(x:aI):Bool :=
 c3 x.2.2.1 0 2047&&c3 x.2.2.2.1 0 1000&&c3 x.2.2.2.2.1 0 1000 &&
  cond (x.2.1==1) (plain x&&decide (((bh x).length:Int)≤64))
   (cond (x.2.1==3) (plain x&&jB (bh x)&&x.2.2.1==511)
    (cond (x.2.1==2) (bs (bh x) []&&c3 (eE x) 0 400&&c3 (et x) 0 24&&sO l x) false))
theorem agp(v:af.D)(x:aI)(hl:v.2.1.length≤1048576)(hn:(ak x).length≤1048576)(hs:∀d,d∈ak x→d.1.length≤1048576):KB (v,x,())=some (sO v.2.1 x,()):=by
 show D9 (uX aQ) v x=_
 unfold D9 sO
 refine sJ (ak x).length (by omega) (oZ v.2.1 (ak x)) _ (fun m i=>uX m v (ak x) ((ak x).length:Int) i x) ?_ ?_
 ·intro m _
  simp only [uX,D_]
  rw [cS (Nat.le_refl _)];rfl
 ·intro m i hi _ hw
  simp only [uX,D_,hw]
  rw [cr hi,bB hi]
  simp only [cond_true,av]
  rw [af7 _ (by have:=hs _ (cJ hi);omega)]
  simp only [av]
  rw [xF v _ hl]
  simp only [av]
  unfold oZ
  cases i with
  | zero =>
   simp only [MO,Nat.lt_irrefl,decide_false,cond_false,Bool.false_and,Bool.not_false,Bool.and_true]
   cases iz (J ay (ak x) 0).1 <;> cases (J ay (ak x) 0).2.1==1 <;> cases (bd v.2.1 (J ay (ak x) 0).2.1) <;> rfl
  | succ i =>
   rw [show(List.length x.2.2.2.2.2.2.1)=(ak x).length from rfl,MN hi (by omega)]
   simp only [MP,Nat.zero_lt_succ,decide_true,cond_true,av,Nat.add_sub_cancel,Bool.true_and]
   rw [show(J ay x.2.2.2.2.2.2.1 i)=J ay (ak x) i from rfl]
   cases iz (J ay (ak x) (i+1)).1 <;> cases (J ay (ak x) (i+1)).2.1==1 <;> cases (bd v.2.1 (J ay (ak x) (i+1)).2.1) <;> cases dz (J ay (ak x) i).1 (J ay (ak x) (i+1)).1 <;> rfl
theorem agq(v:af.D)(x:aI)(hl:v.2.1.length≤1048576)(hn:(ak x).length≤1048576)(q:Nat)(hq:(ak x).length<q):(qV q).hW 0 v x=some (fs (ak x).length (oZ v.2.1 (ak x)),()):=by
 have:=sJ (ak x).length (by omega) (oZ v.2.1 (ak x)) true (fun m i=>(qV m).hW i v x) (by
  intro m _
  show zI (qV m) _ _ _=_
  unfold zI
  show cond (decide (((ak x).length:Int)<((ak x).length:Int))) _ _=_
  rw [cS (Nat.le_refl _)];rfl) (by
  intro m i hi _ hw
  show zI (qV m) _ _ _=_
  unfold zI
  show cond (decide ((i:Int)<((ak x).length:Int))) ((aO (ak x).length (i:Int)).bind _) _=_
  rw [cr hi,bB hi]
  simp only [cond_true,av,hw]
  rw [af6]
  simp only [av]
  rw [l3 v _ hl]
  simp only [av,Ak]
  unfold oZ
  rw [show(x.2.2.2.2.2.2.1)=ak x from rfl]
  cases i with
  | zero =>
   simp only [MO,Nat.lt_irrefl,decide_false,cond_false,Bool.false_and,Bool.not_false,Bool.and_true]
   cases iz (J ay (ak x) 0).1 <;> cases (J ay (ak x) 0).2.1==1 <;> cases (bd v.2.1 (J ay (ak x) 0).2.1) <;> rfl
  | succ i =>
   rw [MN hi (by omega)]
   simp only [MP,Nat.zero_lt_succ,decide_true,cond_true,av,Nat.add_sub_cancel,Bool.true_and]
   cases iz (J ay (ak x) (i+1)).1 <;> cases (J ay (ak x) (i+1)).2.1==1 <;> cases (bd v.2.1 (J ay (ak x) (i+1)).2.1) <;> cases dz (J ay (ak x) i).1 (J ay (ak x) (i+1)).1 <;> rfl) q hq
 rw [Bool.and_true] at this
 exact this
theorem Vt(v:af.D)(x:aI)(hl:v.2.1.length≤1048576)(hn:(ak x).length≤1048576):DS (v,x,())=some (nV v.2.1 x,()):=by
 obtain ⟨q,hq,iq⟩:=jm 1
 show DR (qV aQ) v x=_
 rw [hq]
 unfold DR
 have hk:∀b,(qV (q+1)).bg b v x=Ky (qV q) b v x:=fun _=>rfl
 simp only [hk]
 unfold Ky
 rw [agq v x hl hn q (by omega),Vd]
 simp only [jW,av,mW]
 congr 2
 unfold nV sO plain eE et bh
 rw [show(x.2.2.2.2.2.2.1)=ak x from rfl]
 generalize fs (ak x).length (oZ v.2.1 (ak x))=A
 generalize jB x.2.2.2.2.2.1=agr
 generalize bs x.2.2.2.2.2.1 []=ags
 generalize x.2.2.2.2.2.1.length=agt
 generalize (ak x).length=agu
 generalize x.2.2.2.2.2.2.2.1=agv
 generalize x.2.2.2.2.2.2.2.2.1=agw
 simp only [c3]
 rw [Bool.eq_iff_iff]
 simp only [Bool.cond_eq_ite,Bool.ite_eq_true_distrib,Bool.and_eq_true,Bool.or_eq_true,Bool.not_eq_true',decide_eq_true_eq,beq_iff_eq,decide_eq_false_iff_not]
 grind (splits:=60)
theorem Vu(v:af.D)(x:aI)(hl:v.2.1.length≤1048576)(hn:(ak x).length≤1048576)(hs:∀d,d∈ak x→d.1.length≤1048576)(ag:(bh x).length≤1048576):Eb (v,x,())=some (nV v.2.1 x,()):=by
 obtain ⟨q,hq,iq⟩:=jm 1
 show Ea (zK aQ) v x=_
 rw [hq]
 unfold Ea
 simp only [zK,KC]
 rw [agp v x hl hn hs,MR _ (by unfold bh at ag;omega)]
 simp only [jA,av,mW]
 congr 2
 unfold nV sO plain eE et bh
 rw [show(x.2.2.2.2.2.2.1)=ak x from rfl]
 generalize fs (ak x).length (oZ v.2.1 (ak x))=A
 generalize jB x.2.2.2.2.2.1=agr
 generalize bs x.2.2.2.2.2.1 []=ags
 generalize x.2.2.2.2.2.1.length=agt
 generalize (ak x).length=agu
 generalize x.2.2.2.2.2.2.2.1=agv
 generalize x.2.2.2.2.2.2.2.2.1=agw
 simp only [c3]
 rw [Bool.eq_iff_iff]
 simp only [Bool.cond_eq_ite,Bool.ite_eq_true_distrib,Bool.and_eq_true,Bool.or_eq_true,Bool.not_eq_true',decide_eq_true_eq,beq_iff_eq,bne_iff_ne,decide_eq_false_iff_not]
 grind (splits:=60)
section
variable(l:List aI)
def o0(F:Flags):List Nat:=(List.range l.length).filter fun i=>J .bool F i
def dl(i:Nat):Nat:=(bh (J I l i)).length
def iQ(F:Flags):Nat:=((o0 l F).map (dl l)).sum
def jn(F:Flags):Nat:=(o0 l F).length
def pre(F:Flags)(i:Nat):List Nat:=(List.range i).filter fun i=>J .bool F i
theorem M7(F:Flags)(i:Nat):pre F (i+1)=pre F i++cond (J .bool F i) [i] []:=by
 unfold pre
 rw [List.range_succ,List.filter_append]
 cases h:J .bool F i <;> simp [List.filter_cons,h]
theorem Vv(F:Flags){i:Nat}(hi:i≤l.length):((pre F i).map (dl l)).sum≤bytesOf (l.take i)∧(pre F i).length≤i:=by
 induction i with
 | zero=>simp [pre]
 | succ i ih =>
  obtain ⟨h1,h2⟩:=ih (by omega)
  rw [M7,xG (by omega)]
  cases J .bool F i
  ·simp only [cond_false,List.append_nil];omega
  ·simp only [cond_true,List.map_append,List.sum_append_nat,List.length_append,List.map_cons,List.map_nil,List.sum_cons,List.sum_nil,List.length_cons,List.length_nil]
   have:dl l i=(bh (J I l i)).length:=rfl
   omega
end
theorem Vw(v:af.D)(id:Int)(hl:v.2.1.length≤1048576)(hn:dy v.2.1≤1048576)(hb:bytesOf v.2.1≤1048576) :
  zn (v,id,())=some ((iQ v.2.1 (dw v.2.1 id):Int),(jn v.2.1 (dw v.2.1 id):Int),()):=by
 show Dc (uA aQ) v id=_
 unfold Dc
 rw [Vh v id hl hn]
 simp only [av]
 have hF:=Vo v.2.1 id
 generalize dw v.2.1 id=F at *
 have:=mV v.2.1.length (by omega) (fun m i=>uA m (((pre F i.toNat).map (dl v.2.1)).sum:Nat) ((pre F i.toNat).length:Nat) i v F) (fun _=>some ((iQ v.2.1 F:Int),(jn v.2.1 F:Int),())) (fun _=>True) (fun m _=>by
  simp only [uA,Dd]
  rw [hF,cS (Nat.le_refl _)];rfl) (fun m i hi _ hw ih=>by
  have ih:=ih trivial
  simp only [uA,Dd,hw]
  rw [hF,cr hi,bB hi]
  simp only [cond_true,av,Int.toNat_natCast,Nat.zero_add]
  rw [show((i:Int)+1).toNat=i+1 by omega,M7] at ih
  have h1:=Vv v.2.1 F (i:=i) (by omega)
  have h3:=Vv v.2.1 F (i:=i+1) (by omega)
  have h2:=FQ v.2.1 (i+1)
  rw [M7] at h3
  cases hf:J .bool F i
  ·rw [hf] at ih
   simp only [cond_false,List.append_nil] at ih ⊢
   exact ih
  ·rw [hf] at ih h3
   simp only [cond_true,List.map_append,List.sum_append_nat,List.length_append,List.map_cons,List.map_nil,List.sum_cons,List.sum_nil,List.length_cons,List.length_nil,Nat.add_zero,Nat.zero_add] at ih h3 ⊢
   rw [show((J I v.2.1 i).2.2.2.2.2.1).length=dl v.2.1 i from rfl,de _ (by omega),ed (by omega) (by omega),← Int.natCast_add]
   exact ih) v.2.1.length 0 aQ (by omega) (jz (by omega)) trivial
 simpa [pre] using this
def nW(l:List aI)(b:Int):Nat :=
 match bd l b with
 | none=>0
 | some i=>dl l i
theorem Vx{l:List aI}(b:Int):nW l b≤bytesOf l:=by
 unfold nW
 split
 ·omega
 ·rename_i i hi
  have h1:=xG (bY hi).1
  have h2:=FQ l (i+1)
  unfold dl
  omega
theorem M8(v:af.D)(id:Int)(hl:v.2.1.length≤1048576)(hn:dy v.2.1≤1048576)(hb:bytesOf v.2.1≤1048576) :
  ∃out,Found v.2.1 id out∧xn (v,id,())=some ((((out.map (nW v.2.1)).sum:Nat):Int),(out.length:Int),()):=by
 obtain ⟨out,hf,he⟩:=M6 v hl hn id
 refine⟨out,hf,?_⟩
 show El (qX aQ) v id=_
 unfold El
 rw [he]
 simp only [av]
 have hol:=hf.len
 have hb2:∀i,i≤out.length→((out.take i).map (nW v.2.1)).sum≤i*1048576:=by
  intro i
  induction i with
  | zero=>intro _;simp
  | succ i ih =>
   intro hi
   rw [List.take_succ_eq_append_getElem (by omega),List.map_append,List.sum_append_nat]
   have:=ih (by omega)
   have:=Vx (l:=v.2.1) out[i]
   simp only [List.map_cons,List.map_nil,List.sum_cons,List.sum_nil]
   omega
 have:=mV out.length (by omega) (fun m i=>qX m v (((out.take i.toNat).map (nW v.2.1)).sum:Nat) (out.length:Int) i out) (fun _=>some ((((out.map (nW v.2.1)).sum:Nat):Int),(out.length:Int),())) (fun _=>True) (fun m _=>by
  simp only [qX,Em]
  rw [cS (Nat.le_refl _)]
  simp only [Int.toNat_natCast,List.take_length,cond_false]) (fun m i hi _ hw ih=>by
  have ih:=ih trivial
  simp only [qX,Em,hw]
  rw [cr hi,bB hi]
  simp only [cond_true,av,Int.toNat_natCast,Nat.zero_add]
  rw [xF v _ hl]
  simp only [av]
  rw [show((i:Int)+1).toNat=i+1 by omega,List.take_succ_eq_append_getElem hi,List.map_append,List.sum_append_nat] at ih
  simp only [List.map_cons,List.map_nil,List.sum_cons,List.sum_nil,Nat.add_zero] at ih
  have aA:J (.int .i64) out i=out[i]:=c8 (t:=.int .i64) hi
  rw [aA]
  have h2:=hb2 i (by omega)
  have h3:=Vx (l:=v.2.1) out[i]
  have h4:i*1048576≤1048576*1048576:=Nat.mul_le_mul_right _ (by omega)
  unfold nW at ih h3
  cases hx:bd v.2.1 out[i] with
  | none =>
   rw [hx] at ih
   exact ih
  | some x =>
   rw [hx] at ih h3
   show qX m v (aK (_ +(((J I v.2.1 x).2.2.2.2.2.1).length:Int))) _ _ _=_
   have h3:dl v.2.1 x≤bytesOf v.2.1:=h3
   have ih:qX m v ((List.map (nW v.2.1) (out.take i)).sum+dl v.2.1 x:Nat) (out.length:Int) ((i:Int)+1) out=_:=ih
   rw [show((J I v.2.1 x).2.2.2.2.2.1).length=dl v.2.1 x from rfl,ed (by omega) (by omega),← Int.natCast_add]
   exact ih) out.length 0 aQ (by omega) (jz (by omega)) trivial
 simpa using this
theorem M9{l:List aI}(ag:h9 l)(hx:q_ l){id:Int}{out:List Int}(h:Found l id out):(out.map (nW l)).sum=iQ l (dw l id)∧out.length=jn l (dw l id):=by
 have hH:((o0 l (dw l id)).map fun i=>(J I l i).1).Nodup:=by
  have h0:(o0 l (dw l id)).Nodup:=(List.nodup_range).filter _
  unfold List.Nodup at h0 ⊢
  rw [List.pairwise_map]
  refine h0.imp_of_mem fun {a b} ha hb lO he=>lO ?_
  have ha:=(List.mem_filter.1 ha).1
  have hb:=(List.mem_filter.1 hb).1
  have h1:=ag a (by simpa using ha)
  have h2:=ag b (by simpa using hb)
  rw [he,h2] at h1
  exact(aU h1).symm
 have au:out.Perm ((o0 l (dw l id)).map fun i=>(J I l i).1):=by
  rw [List.perm_ext_iff_of_nodup h.fD hH]
  intro b
  rw [h.iff]
  constructor
  ·intro hb
   have hex:∃i,bd l b=some i:=by
    cases hb with
    | single he=>obtain ⟨i,d,h1,h2,rfl⟩:=he;exact Option.isSome_iff_exists.1 (hx i (bY h1).1 d h2)
    | tail _ he=>obtain ⟨i,d,h1,h2,rfl⟩:=he;exact Option.isSome_iff_exists.1 (hx i (bY h1).1 d h2)
   obtain ⟨i,hi⟩:=hex
   obtain ⟨h1,h2⟩:=bY hi
   refine List.mem_map.2 ⟨i,List.mem_filter.2 ⟨by simpa using h1,?_⟩,h2⟩
   exact(xH l ag id h1).2 (by rw [h2];exact hb)
  ·intro hb
   obtain ⟨i,hi,rfl⟩:=List.mem_map.1 hb
   obtain ⟨h1,h2⟩:=List.mem_filter.1 hi
   exact(xH l ag id (by simpa using h1)).1 h2
 refine⟨?_,by rw [au.length_eq,List.length_map];rfl⟩
 rw [(au.map (nW l)).sum_nat,List.map_map]
 unfold iQ
 congr 1
 refine List.map_congr_left fun i hi=>?_
 have h1:=(List.mem_filter.1 hi).1
 show nW l (J I l i).1=dl l i
 unfold nW
 rw [ag i (by simpa using h1)]
def hO(l:List aI)(x:aI):Bool :=
 (decide (eE x>0)&&decide ((iQ l (dw l x.1):Int)>eE x))||(decide (et x>0)&&decide ((jn l (dw l x.1):Int)>et x))
def gw(l:List aI):Bool:=cond (fs l.length fun i => !hO l (J I l i)) false true
theorem agx(v:af.D)(x:aI)(hl:v.2.1.length≤1048576)(hn:dy v.2.1≤1048576)(hb:bytesOf v.2.1≤1048576)(ag:h9 v.2.1)(hx:q_ v.2.1):KG (v,x,())=some (hO v.2.1 x,()):=by
 show KF v x=_
 unfold KF
 obtain ⟨out,hf,he⟩:=M8 v x.1 hl hn hb
 rw [he]
 obtain ⟨h1,h2⟩:=M9 ag hx hf
 rw [h1,h2]
 simp only [av,mW]
 congr 2
 unfold hO eE et
 generalize (iQ v.2.1 (dw v.2.1 x.1):Int)=B
 generalize (jn v.2.1 (dw v.2.1 x.1):Int)=N
 rw [Bool.eq_iff_iff]
 simp only [Bool.cond_eq_ite,Bool.ite_eq_true_distrib,Bool.and_eq_true,Bool.or_eq_true,decide_eq_true_eq]
 grind
theorem Vy(v:af.D)(hl:v.2.1.length≤1048576)(hn:dy v.2.1≤1048576)(hb:bytesOf v.2.1≤1048576)(ag:h9 v.2.1)(hx:q_ v.2.1):zO (v.2.1,v,())=some (gw v.2.1,()):=by
 show KI v.2.1 v=_
 unfold KI
 have h:KH (v.2.1,v,())=some (hL (fi v.2.1.length fun i=>hO v.2.1 (J I v.2.1 i)),()):=by
  show Eo (u3 aQ) v.2.1 v=_
  unfold Eo
  refine sK v.2.1.length (by omega) _ (fun o=>some (hL o,())) (fun m i=>u3 m v.2.1 v (v.2.1.length:Int) i) ?_ ?_
  ·intro m
   simp only [u3,Ep]
   rw [cS (Nat.le_refl _)];rfl
  ·intro m i hi hw
   simp only [u3,Ep,hw]
   rw [cr hi,bB hi]
   simp only [cond_true,av]
   rw [agx v _ hl hn hb ag hx];rfl
 rw [h]
 simp only [av,Al]
 congr 2
 unfold gw
 cases hf:fi v.2.1.length fun i=>hO v.2.1 (J I v.2.1 i) with
 | none =>
  rw [lk.2 (fun i hi=>by rw [l2.1 hf i hi];rfl)];rfl
 | some i =>
  obtain ⟨h1,h2,_⟩:=iy.1 hf
  have:fs v.2.1.length (fun i => !hO v.2.1 (J I v.2.1 i))=false:=by
   rw [← Bool.not_eq_true];intro h
   have:=lk.1 h i h1
   rw [h2] at this;cases this
  rw [this];rfl
theorem Vz(v:af.D)(hl:v.2.1.length≤1048576)(hn:dy v.2.1≤1048576)(hb:bytesOf v.2.1≤1048576)(hk:∀i,i<v.2.1.length→(J I v.2.1 i).2.1≠2→eE (J I v.2.1 i)=0∧et (J I v.2.1 i)=0):Df (v,())=some (gw v.2.1,()):=by
 show De (kd aQ) v=_
 unfold De
 have h0:∀x:aI,eE x=0→et x=0→hO v.2.1 x=false:=by
  intro x h1 h2;unfold hO;rw [h1,h2];rfl
 have VA:∀(m i:Nat),i<v.2.1.length→(kd (m+1)).k2 (i:Int) v=cond ((J I v.2.1 i).2.1 != 2) ((kd m).k2 ((i+1:Nat):Int) v) (cond (eE (J I v.2.1 i)==0) (cond (et (J I v.2.1 i)==0) ((kd m).k2 ((i+1:Nat):Int) v) ((kd m).dg (i:Int) v (J I v.2.1 i))) ((kd m).dg (i:Int) v (J I v.2.1 i))):=by
  intro m i hi
  show zo (kd m) _ _=_
  unfold zo
  rw [cr hi,bB hi]
  simp only [cond_true,av]
  rw [de i (by omega)];rfl
 have VB:∀(m i:Nat) (x:aI),i<v.2.1.length→(kd (m+1)).dg (i:Int) v x=cond (hO v.2.1 x) (some (true,())) ((kd m).k2 ((i+1:Nat):Int) v):=by
  intro m i x hi
  show JP (kd m) _ _ _=_
  unfold JP
  rw [Vw v _ hl hn hb]
  simp only [av]
  rw [de i (by omega)]
  unfold hO eE et
  generalize decide (x.2.2.2.2.2.2.2.1>0)=a
  generalize decide ((iQ v.2.1 (dw v.2.1 x.1):Int)>x.2.2.2.2.2.2.2.1)=b
  generalize decide (x.2.2.2.2.2.2.2.2.1>0)=c
  generalize decide ((jn v.2.1 (dw v.2.1 x.1):Int)>x.2.2.2.2.2.2.2.2.1)=d
  cases a <;> cases b <;> cases c <;> cases d <;> rfl
 have key:=Ap v.2.1.length 2 (fun m i=>(kd m).k2 (i:Int) v) (fun i => !hO v.2.1 (J I v.2.1 i)) (some (true,())) (some (false,())) 1 (fun i hi _ au B y he=>by
  have au:hO v.2.1 (J I v.2.1 i)=false:=by simpa using au
  have bl:bW (fun m=>(kd m).dg (i:Int) v (J I v.2.1 i)) (B+1) y:=he.step fun m=>by rw [VB m i _ hi,au];rfl
  intro m hm
  obtain ⟨m,rfl⟩:∃k,m=k+1:=⟨m-1,by omega⟩
  show(kd (m+1)).k2 (i:Int) v=y
  rw [VA m i hi]
  have e1:=he m (by omega)
  have e2:=bl m (by omega)
  simp only at e1 e2
  rw [e1,e2]
  cases (J I v.2.1 i).2.1 != 2 <;> cases eE (J I v.2.1 i)==0 <;> cases et (J I v.2.1 i)==0 <;> rfl) (fun i hi _ au=>by
  have au:hO v.2.1 (J I v.2.1 i)=true:=by simpa using au
  intro m hm
  obtain ⟨m,rfl⟩:∃k,m=k+2:=⟨m-2,by omega⟩
  show(kd (m+1+1)).k2 (i:Int) v=_
  rw [VA (m+1) i hi,VB m i _ hi,au]
  have k1:((J I v.2.1 i).2.1 != 2)=false:=by
   rw [bne_eq_false_iff_eq]
   by_cases h:(J I v.2.1 i).2.1=2
   ·exact h
   ·obtain ⟨g1,g2⟩:=hk i hi h
    rw [h0 _ g1 g2] at au;cases au
  rw [k1]
  cases g1:eE (J I v.2.1 i)==0 <;> cases g2:et (J I v.2.1 i)==0 <;> try rfl
  rw [h0 _ (by simpa using g1) (by simpa using g2)] at au;cases au) (fun _=>bW.done fun m=>by
  show zo (kd m) _ _=_
  unfold zo
  rw [cS (Nat.le_refl _)];rfl)
 have:=kL key (by omega)
 rw [show(((0:Nat):Int))=0 from rfl] at this
 rw [this]
 unfold gw
 cases fs v.2.1.length fun i => !hO v.2.1 (J I v.2.1 i) <;> rfl
theorem Ai{α : Type}{f g : α → Nat} : ∀(l:List α),(∀x,x∈l→f x≤g x)→(l.map f).sum≤(l.map g).sum
 | [],_=>by simp
 | x :: l,h=>by
  simp only [List.map_cons,List.sum_cons]
  have:=Ai l fun y aN=>h y (List.mem_cons_of_mem _ aN)
  have:=h x List.mem_cons_self
  omega
theorem F4{α : Type}{f : α → Nat} : ∀ {l:List α} {x : α},x∈l→f x≤(l.map f).sum
 | y :: l,x,h=>by
  simp only [List.map_cons,List.sum_cons]
  rcases List.mem_cons.1 h with rfl | h
  ·omega
  ·have:=F4 (f:=f) h;omega
theorem F5(x:aI):ad.cost I x=(bh x).length+ad.cost (.sl ay) (ak x):=by
 simp only [MI,MJ,MK,ML,U_,U',Nat.zero_add,Nat.add_zero];rfl
theorem VC(d:ay.D):ad.cost ay d=d.1.length:=by
 simp only [MI,MJ,MK,ML,U_,U',Nat.zero_add,Nat.add_zero]
def ra(x:aI):Nat:=ad.cost I x
theorem M_(v:af.D):ad.cost af v=v.2.1.length +(v.2.1.map ra).sum:=by
 have h:ad.cost af v=ad.cost (.sl I) v.2.1:=by simp only [MI,MJ,MK,ML,Nat.zero_add,Nat.add_zero]
 rw [h,U9]
 rfl
structure vu(v:af.D):Prop where
 len:v.2.1.length≤1048576
 cG:dy v.2.1≤1048576
 bytes:bytesOf v.2.1≤1048576
 each:∀x,x∈v.2.1→(ak x).length≤1048576∧(bh x).length≤1048576∧∀d,d∈ak x→d.1.length≤1048576
theorem agy{v:af.D}(h:ad.cost af v≤1048576):vu v:=by
 rw [M_] at h
 refine⟨by omega,?_,?_,fun x hx=>?_⟩
 ·have:=Ai (f:=fun y:aI=>(ak y).length) (g:=ra) v.2.1 fun x _=>by
   unfold ra;rw [F5];have:=U8 (t:=ay) (ak x);omega
  unfold dy;omega
 ·have:=Ai (f:=fun y:aI=>(bh y).length) (g:=ra) v.2.1 fun x _=>by
   unfold ra;rw [F5];omega
  unfold bytesOf;omega
 ·have h1:=F4 (f:=ra) hx
  unfold ra at h1
  rw [F5] at h1
  have h:v.2.1.length +(v.2.1.map fun y=>ad.cost I y).sum≤1048576:=h
  have h1:(bh x).length+ad.cost (.sl ay) (ak x)≤(v.2.1.map fun y=>ad.cost I y).sum:=h1
  have h2:=U8 (t:=ay) (ak x)
  refine⟨by omega,by omega,fun d ag=>?_⟩
  obtain ⟨i,hi,he⟩:=fw ag
  have h3:=af2 (t:=ay) hi
  rw [he,VC] at h3
  omega
def mY(v:af.D)(i:Nat):Bool :=
 c3 (J I v.2.1 i).1 1 (aK (v.1-1)) && !(decide (0<i)&&decide ((J I v.2.1 (i-1)).1≥(J I v.2.1 i).1))&&nV v.2.1 (J I v.2.1 i)
def kh(l:List aI)(i:Nat):Bool :=
 J .bool (dw l 1) (i+1) && !((J I l (i+1)).2.1==2&&((cl l (J I l (i+1)).1:Int) != 1))
def ki(v:af.D):Bool :=
 c3 v.1 2 100000&&c3 (v.2.1.length:Int) 1 24&&(J I v.2.1 0).1==1&&(J I v.2.1 0).2.1==2 &&
  cond (fs v.2.1.length (mY v)) (cond (fs (v.2.1.length-1) (kh v.2.1)) (decide ((bytesOf v.2.1:Int)≤400) && !gw v.2.1) false) false
theorem VD{v:af.D}(h:∀j,j<v.2.1.length→mY v j=true):h9 v.2.1:=by
 have cw:∀d j,j+d+1<v.2.1.length→(J I v.2.1 j).1<(J I v.2.1 (j+d+1)).1:=by
  have h1:∀j,j+1<v.2.1.length→(J I v.2.1 j).1<(J I v.2.1 (j+1)).1:=by
   intro j hj
   have:=h (j+1) hj
   unfold mY at this
   simp only [Bool.and_eq_true,Bool.not_eq_true',Bool.and_eq_false_iff,decide_eq_false_iff_not] at this
   obtain ⟨⟨_,h2⟩,_⟩:=this
   rcases h2 with h2 | h2
   ·omega
   ·rw [Nat.add_sub_cancel] at h2;exact Int.not_le.1 h2
  intro d
  induction d with
  | zero=>intro j hj;exact h1 j hj
  | succ d ih=>intro j hj;exact Int.lt_trans (ih j (by omega)) (h1 (j+d+1) hj)
 intro x hx
 unfold bd
 rw [iy]
 refine⟨hx,by simp,fun j hj=>?_⟩
 obtain ⟨d,rfl⟩:∃d,x=j+d+1:=⟨x-j-1,by omega⟩
 have:=cw d j hx
 rw [beq_eq_false_iff_ne]
 exact Int.ne_of_lt this
theorem VE{v:af.D}(h:∀j,j<v.2.1.length→mY v j=true){i:Nat}(hi:i<v.2.1.length):nV v.2.1 (J I v.2.1 i)=true:=by
 have:=h i hi
 unfold mY at this
 simp only [Bool.and_eq_true] at this
 exact this.2
theorem VF{l:List aI}{x:aI}(h:nV l x=true):(x.2.1≠2→eE x=0∧et x=0∧ak x=[])∧∀d,d∈ak x→(bd l d.2.1).isSome=true:=by
 unfold nV at h
 simp only [Bool.and_eq_true] at h
 obtain ⟨_,h⟩:=h
 have au:plain x=true→eE x=0∧et x=0∧ak x=[]:=by
  intro au
  unfold plain at au
  simp only [Bool.and_eq_true,beq_iff_eq] at au
  exact⟨au.1.2,au.2,List.length_eq_zero_iff.1 (by omega)⟩
 by_cases h1:x.2.1=1
 ·rw [cF h1] at h
  simp only [cond_true,Bool.and_eq_true] at h
  obtain ⟨ej,fm,gl⟩:=au h.1
  exact⟨fun _=>⟨ej,fm,gl⟩,by rw [gl];simp⟩
 ·rw [ca h1] at h
  by_cases h3:x.2.1=3
  ·rw [cF h3] at h
   simp only [cond_true,cond_false,Bool.and_eq_true] at h
   obtain ⟨ej,fm,gl⟩:=au h.1.1
   exact⟨fun _=>⟨ej,fm,gl⟩,by rw [gl];simp⟩
  ·rw [ca h3] at h
   by_cases h2:x.2.1=2
   ·rw [cF h2] at h
    simp only [cond_true,cond_false,Bool.and_eq_true] at h
    refine⟨fun hn=>absurd h2 hn,fun d ag=>?_⟩
    have hN:=h.2
    unfold sO at hN
    simp only [Bool.and_eq_true] at hN
    obtain ⟨i,hi,he⟩:=fw ag
    have:=lk.1 hN.1 i hi
    unfold oZ at this
    simp only [Bool.and_eq_true] at this
    rw [← he];exact this.2
   ·rw [ca h2] at h
    simp at h
theorem agz{v:af.D}(h:∀j,j<v.2.1.length→mY v j=true):q_ v.2.1:=fun i hi d ag=>(VF (VE h hi)).2 d ag
theorem F6{v:af.D}{i:Nat}(hi:i<v.2.1.length)(hl:v.2.1.length≤1048576)(K:Option (Bool×Unit)) :
  cond (!c3 (J I v.2.1 i).1 1 (aK (v.1-1))) (some (false,()))
   (cond (decide ((i:Int)>0)) ((aO v.2.1.length (aK ((i:Int)-1))).bind fun j=>cond (decide ((J I v.2.1 j).1≥(J I v.2.1 i).1)) (some (false,())) (cond (!nV v.2.1 (J I v.2.1 i)) (some (false,())) K))
    (cond (!nV v.2.1 (J I v.2.1 i)) (some (false,())) K))=cond (mY v i) K (some (false,())):=by
 unfold mY
 cases i with
 | zero =>
  simp only [MO,Nat.lt_irrefl,decide_false,cond_false,Bool.false_and,Bool.not_false,Bool.and_true,MM,nT]
 | succ i =>
  rw [MN hi (by omega)]
  simp only [MP,Nat.zero_lt_succ,decide_true,cond_true,av,Nat.add_sub_cancel,Bool.true_and,MM,nT]
theorem M'(v:af.D)(hv:vu v):DU (v,())=some (ki v,()):=by
 obtain ⟨hl,hn,hb,he⟩:=hv
 show DT (nK aQ) v=_
 unfold DT
 simp only [jW,av]
 unfold ki
 cases h1:c3 v.1 2 100000
 ·rfl
 cases h2:c3 (v.2.1.length:Int) 1 24
 ·rfl
 have eY:=(dR.1 h2)
 simp only [Bool.not_true,cond_false]
 rw [show(0:Int)=((0:Nat):Int) from rfl,bB (show 0<v.2.1.length by omega)]
 simp only [av]
 cases h3:(J I v.2.1 0).1==1
 ·rw [cP (by simpa using h3)];rfl
 rw [dk (by simpa using h3)]
 simp only [cond_false]
 cases h4:(J I v.2.1 0).2.1==2
 ·rw [cP (by simpa using h4)];rfl
 rw [dk (by simpa using h4)]
 simp only [cond_false,Bool.true_and]
 have key:=Ap v.2.1.length 1 (fun m i=>(nK m).bg (i:Int) v) (mY v) (some (false,())) (some (cond (fs (v.2.1.length-1) (kh v.2.1)) (decide ((bytesOf v.2.1:Int)≤400) && !gw v.2.1) false,())) (1 +(v.2.1.length-1)*1+1) (fun i hi _ au B y aN=>by
  refine aN.step fun m=>?_
  show uR (nK m) _ _=_
  unfold uR
  rw [cr hi,bB hi]
  simp only [cond_true,av,jW]
  have hx:=he _ (cJ hi)
  rw [Vt v _ hl hx.1,de i (by omega)]
  simp only [av]
  rw [F6 hi hl,au];rfl) (fun i hi _ au=>by
  refine bW.done fun m=>?_
  show uR (nK m) _ _=_
  unfold uR
  rw [cr hi,bB hi]
  simp only [cond_true,av,jW]
  have hx:=he _ (cJ hi)
  rw [Vt v _ hl hx.1,de i (by omega)]
  simp only [av]
  rw [F6 hi hl,au];rfl) (fun qy=>by
  have hF:=Vo v.2.1 1
  have k2:=Ap (v.2.1.length-1) 1 (fun m i=>(nK m).db ((i+1:Nat):Int) v (dw v.2.1 1)) (kh v.2.1) (some (false,())) (some (decide ((bytesOf v.2.1:Int)≤400) && !gw v.2.1,())) 1 (fun i hi _ au B y aN=>by
   refine aN.step fun m=>?_
   show uS (nK m) _ _ _=_
   unfold uS
   have gL:i+1<v.2.1.length:=by omega
   rw [cr gL,bB gL,hF,bB gL]
   simp only [cond_true,av,Nat.zero_add]
   rw [FR v _ hl hn,de (i+1) (by omega)]
   simp only [av]
   unfold kh at au
   simp only [Bool.and_eq_true,Bool.not_eq_true'] at au
   rw [au.1]
   have j':=au.2
   cases g1:(J I v.2.1 (i+1)).2.1==2
   ·rfl
   ·rw [g1] at j'
    simp only [Bool.true_and] at j'
    rw [j'];rfl) (fun i hi _ au=>by
   refine bW.done fun m=>?_
   show uS (nK m) _ _ _=_
   unfold uS
   have gL:i+1<v.2.1.length:=by omega
   rw [cr gL,bB gL,hF,bB gL]
   simp only [cond_true,av,Nat.zero_add]
   rw [FR v _ hl hn,de (i+1) (by omega)]
   simp only [av]
   unfold kh at au
   cases g0:J .bool (dw v.2.1 1) (i+1)
   ·rfl
   ·rw [g0] at au
    simp only [Bool.true_and,Bool.not_eq_false'] at au
    simp only [Bool.and_eq_true] at au
    rw [au.1,au.2];rfl) (fun _=>bW.done fun m=>by
   rw [show v.2.1.length-1+1=v.2.1.length by omega]
   show uS (nK m) _ _ _=_
   unfold uS
   rw [cS (Nat.le_refl _),MT v hl hb]
   simp only [cond_false,av]
   rw [Vz v hl hn hb (fun i hi hk=>by have:=(VF (VE qy hi)).1 hk;exact⟨this.1,this.2.1⟩)]
   simp only [av,mW,Va])
  have k3:=k2.step (f:=fun m=>(nK m).bg ((v.2.1.length:Nat):Int) v) fun m=>by
   show uR (nK m) _ _=_
   unfold uR
   rw [cS (Nat.le_refl _),Vh v 1 hl hn];rfl
  rw [show cond (fs (v.2.1.length-1) (kh v.2.1)) (some (decide ((bytesOf v.2.1:Int)≤400) && !gw v.2.1,())) (some (false,()))=some (cond (fs (v.2.1.length-1) (kh v.2.1)) (decide ((bytesOf v.2.1:Int)≤400) && !gw v.2.1) false,()) from mW _ _ _] at k3
  exact k3)
 have:=kL key (by omega)
 rw [this,mW]
theorem VG{l:List aI}{i:Nat} : J I (l.drop 1) i=J I l (i+1):=by
 unfold J
 rw [List.getD_eq_getElem?_getD,List.getD_eq_getElem?_getD,List.getElem?_drop,Nat.add_comm 1 i]
theorem F7(v:af.D)(hv:vu v):xp (v,())=some (ki v,()):=by
 obtain ⟨hl,hn,hb,he⟩:=hv
 show Er (nL aQ) v=_
 unfold Er
 simp only [jA,av]
 unfold ki
 cases h1:c3 v.1 2 100000
 ·rfl
 cases h2:c3 (v.2.1.length:Int) 1 24
 ·rfl
 have eY:=(dR.1 h2)
 simp only [Bool.not_true,cond_false]
 rw [show(0:Int)=((0:Nat):Int) from rfl,bB (show 0<v.2.1.length by omega)]
 simp only [av]
 cases h3:(J I v.2.1 0).1==1
 ·rw [cP (by simpa using h3)];rfl
 rw [dk (by simpa using h3)]
 simp only [cond_false]
 cases h4:(J I v.2.1 0).2.1==2
 ·rw [cP (by simpa using h4)];rfl
 rw [dk (by simpa using h4)]
 simp only [cond_false,Bool.true_and]
 have key:=Ap v.2.1.length 1 (fun m i=>(nL m).bg v.2.1 (v.2.1.length:Int) (i:Int) v) (mY v) (some (false,())) (some (cond (fs (v.2.1.length-1) (kh v.2.1)) (decide ((bytesOf v.2.1:Int)≤400) && !gw v.2.1) false,())) (1 +(v.2.1.length-1)*1+1) (fun i hi _ au B y aN=>by
  refine aN.step fun m=>?_
  show u5 (nL m) _ _ _ _=_
  unfold u5
  rw [cr hi,bB hi]
  simp only [cond_true,av,jA]
  have hx:=he _ (cJ hi)
  rw [Vu v _ hl hx.1 hx.2.2 hx.2.1,de i (by omega)]
  simp only [av]
  rw [F6 hi hl,au];rfl) (fun i hi _ au=>by
  refine bW.done fun m=>?_
  show u5 (nL m) _ _ _ _=_
  unfold u5
  rw [cr hi,bB hi]
  simp only [cond_true,av,jA]
  have hx:=he _ (cJ hi)
  rw [Vu v _ hl hx.1 hx.2.2 hx.2.1,de i (by omega)]
  simp only [av]
  rw [F6 hi hl,au];rfl) (fun qy=>by
  obtain ⟨out,hf,CE⟩:=M6 v hl hn 1
  have hdl:(v.2.1.drop 1).length=v.2.1.length-1:=by simp
  have hol:=hf.len
  have jy:∀i,i+1<v.2.1.length→decide ((J I v.2.1 (i+1)).1∈out)=J .bool (dw v.2.1 1) (i+1):=by
   intro i hi
   rw [Bool.eq_iff_iff,decide_eq_true_eq,hf.iff]
   exact(xH v.2.1 (VD qy) 1 hi).symm
  have k2:=Ap (v.2.1.length-1) 1 (fun m i=>(nL m).db (v.2.1.drop 1) ((v.2.1.drop 1).length:Int) (i:Int) v out) (kh v.2.1) (some (false,())) (some (decide ((bytesOf v.2.1:Int)≤400) && !gw v.2.1,())) 1 (fun i hi _ au B y aN=>by
   refine aN.step fun m=>?_
   show u6 (nL m) _ _ _ _ _=_
   unfold u6
   have gL:i+1<v.2.1.length:=by omega
   rw [cr (by omega),bB (by omega)]
   simp only [cond_true,av]
   rw [show J I (List.drop 1 v.2.1) i=J I v.2.1 (i+1) from VG]
   rw [contains_eq _ _ (by omega)]
   simp only [av]
   rw [jy i gL,FT v _ hl hn,de i (by omega)]
   simp only [av]
   unfold kh at au
   simp only [Bool.and_eq_true,Bool.not_eq_true'] at au
   rw [au.1]
   have j':=au.2
   cases g1:(J I v.2.1 (i+1)).2.1==2
   ·rfl
   ·rw [g1] at j'
    simp only [Bool.true_and] at j'
    rw [j'];rfl) (fun i hi _ au=>by
   refine bW.done fun m=>?_
   show u6 (nL m) _ _ _ _ _=_
   unfold u6
   have gL:i+1<v.2.1.length:=by omega
   rw [cr (by omega),bB (by omega)]
   simp only [cond_true,av]
   rw [show J I (List.drop 1 v.2.1) i=J I v.2.1 (i+1) from VG]
   rw [contains_eq _ _ (by omega)]
   simp only [av]
   rw [jy i gL,FT v _ hl hn,de i (by omega)]
   simp only [av]
   unfold kh at au
   cases g0:J .bool (dw v.2.1 1) (i+1)
   ·rfl
   ·rw [g0] at au
    simp only [Bool.true_and,Bool.not_eq_false'] at au
    simp only [Bool.and_eq_true] at au
    rw [au.1,au.2];rfl) (fun _=>bW.done fun m=>by
   show u6 (nL m) _ _ _ _ _=_
   unfold u6
   rw [cS (by omega),MU v hl hb]
   simp only [cond_false,av]
   rw [Vy v hl hn hb (VD qy) (agz qy)]
   simp only [av,mW,Va])
  have k3:=k2.step (f:=fun m=>(nL m).bg v.2.1 (v.2.1.length:Int) ((v.2.1.length:Nat):Int) v) fun m=>by
   show u5 (nL m) _ _ _ _=_
   unfold u5
   rw [cS (Nat.le_refl _),CE]
   simp only [cond_false,av]
   unfold du
   rw [if_pos ⟨by omega,by omega,Int.le_refl _⟩]
   simp only [av,Int.toNat_natCast]
   have:part v.2.1 (Int.toNat 1) (v.2.1.length-Int.toNat 1)=v.2.1.drop 1:=Aj v.2.1 1
   rw [this];rfl
  rw [show cond (fs (v.2.1.length-1) (kh v.2.1)) (some (decide ((bytesOf v.2.1:Int)≤400) && !gw v.2.1,())) (some (false,()))=some (cond (fs (v.2.1.length-1) (kh v.2.1)) (decide ((bytesOf v.2.1:Int)≤400) && !gw v.2.1) false,()) from mW _ _ _] at k3
  exact k3)
 have:=kL key (by omega)
 rw [this,mW]
def xK(l:List Int)(i:Nat):Bool:=c3 (J (.int .i64) l i) 0 1000
def c9(c:aH.D):Bool:=c3 c.1 0 1000&&(c3 c.2.1 0 1000&&(decide ((c.2.2.1.length:Int)≤4)&&fs c.2.2.1.length (xK c.2.2.1)))
theorem VH(a b:Int):decide (a>b) = !decide (a≤b):=by
 by_cases h:a≤b <;> simp [h] <;> omega
theorem Aq(c:aH.D):w_ (c,())=some (c9 c,()):=by
 show CO (uj aQ) c=_
 unfold CO c9
 simp only [jW,av]
 cases c3 c.1 0 1000
 ·rfl
 cases c3 c.2.1 0 1000
 ·rfl
 simp only [Bool.not_true,cond_false,Bool.true_and,VH,nT]
 by_cases hl:(c.2.2.1.length:Int)≤4
 case neg=>rw [decide_eq_false hl];rfl
 rw [decide_eq_true hl]
 simp only [cond_true,Bool.true_and]
 have:=sJ c.2.2.1.length (by omega) (xK c.2.2.1) true (fun m i=>uj m i c) (fun m _=>by
  simp only [uj,CP]
  rw [cS (Nat.le_refl _)];rfl) (fun m i hi _ hw=>by
  simp only [uj,CP,hw]
  rw [cr hi,bB hi]
  simp only [cond_true,av,jW,nT,xK])
 rw [Bool.and_true] at this
 exact this
theorem F8(c:aH.D):xq (c,())=some (c9 c,()):=by
 show KN c=_
 unfold KN c9
 simp only [jA,av]
 cases c3 c.1 0 1000
 ·rfl
 cases c3 c.2.1 0 1000
 ·rfl
 simp only [Bool.not_true,cond_false,Bool.true_and,VH,nT]
 by_cases hl:(c.2.2.1.length:Int)≤4
 case neg=>rw [decide_eq_false hl];rfl
 rw [decide_eq_true hl]
 simp only [cond_true,Bool.true_and]
 have h:KM (c.2.2.1,())=some ((fi c.2.2.1.length fun i => !xK c.2.2.1 i).isSome,()):=by
  show KL c.2.2.1=_
  unfold KL
  have h:KK (c.2.2.1,())=some (hL (fi c.2.2.1.length fun i => !xK c.2.2.1 i),()):=by
   show Et (u7 aQ) c.2.2.1=_
   unfold Et
   refine sK c.2.2.1.length (by omega) _ (fun o=>some (hL o,())) (fun m i=>u7 m c.2.2.1 (c.2.2.1.length:Int) i) ?_ ?_
   ·intro m
    simp only [u7,Eu]
    rw [cS (Nat.le_refl _)];rfl
   ·intro m i hi hw
    simp only [u7,Eu,hw]
    rw [cr hi,bB hi]
    simp only [cond_true,av]
    show Option.bind (KJ (J (ad.int .i64) c.2.2.1 i)) _=_
    unfold KJ
    rw [jA];rfl
  rw [h]
  simp only [av,Al]
 rw [h]
 simp only [av]
 congr 2
 rw [Bool.eq_iff_iff,lk]
 cases hf:fi c.2.2.1.length fun i => !xK c.2.2.1 i with
 | none =>
  simp only [Option.isSome_none,Bool.not_false,true_iff]
  exact fun i hi=>by have:=l2.1 hf i hi;simpa using this
 | some i =>
  simp only [Option.isSome_some,Bool.not_true,Bool.false_eq_true,false_iff]
  obtain ⟨h1,h2,_⟩:=iy.1 hf
  exact fun h=>by rw [h i h1] at h2;cases h2
theorem VI{c:aH.D}(h:c9 c=true):c.2.2.1.length≤4:=by
 simp only [c9,Bool.and_eq_true,decide_eq_true_eq] at h;omega
def mZ(c:aH.D)(g:Int):Bool:=c.2.1==g||decide (g∈c.2.2.1)
theorem agA{l:List Int}{i:Nat}(g:Int)(hi:i<l.length):decide (g∈l.drop i)=(J (.int .i64) l i==g||decide (g∈l.drop (i+1))):=by
 have h:=drop_cons (t:=.int .i64) hi
 have h:l.drop i=J (.int .i64) l i :: l.drop (i+1):=h
 rw [h,Bool.eq_iff_iff]
 simp only [List.mem_cons,decide_eq_true_eq,Bool.or_eq_true,beq_iff_eq]
 constructor
 ·rintro (h | h)
  ·exact .inl h.symm
  ·exact .inr h
 ·rintro (h | h)
  ·exact .inl h.symm
  ·exact .inr h
theorem Na(c:aH.D)(g:Int)(hc:c9 c=true):um (c,g,())=some (mZ c g,()):=by
 show CR (uk aQ) c g=_
 unfold CR mZ
 rw [Aq,hc]
 simp only [av,Bool.not_true,cond_false]
 have hl:=VI hc
 have key:∀(r i m:Nat) (b:Bool),i+r=c.2.2.1.length→r<m→uk m g b (i:Int) c=some (b||decide (g∈c.2.2.1.drop i),()):=by
  intro r
  induction r with
  | zero =>
   intro i m b hi hm
   obtain ⟨m,rfl,_⟩:=fuel hm
   simp only [uk,CS]
   rw [cS (by omega),List.drop_of_length_le (by omega)]
   simp
  | succ r ih =>
   intro i m b hi hm
   obtain ⟨m,rfl,hq⟩:=fuel hm
   have cw:i<c.2.2.1.length:=by omega
   simp only [uk,CS]
   rw [cr cw,de i (by omega),agA g cw]
   simp only [cond_true]
   cases b
   ·simp only [cond_false]
    rw [bB cw]
    simp only [av]
    rw [ih (i+1) m _ (by omega) (by omega)]
    simp
   ·simp only [cond_true]
    rw [ih (i+1) m _ (by omega) (by omega)]
    simp
 have:=key c.2.2.1.length 0 aQ (c.2.1==g) (by omega) (jz (by omega))
 simpa using this
theorem Nb(c:aH.D)(g:Int)(hc:c9 c=true):ve (c,g,())=some (mZ c g,()):=by
 show KS c g=_
 unfold KS mZ
 have hl:=VI hc
 rw [F8,hc]
 simp only [av,cond_true]
 rw [contains_eq _ _ (by omega)]
 simp only [av]
 rw [show(g==c.2.1)=(c.2.1==g) by rw [Bool.eq_iff_iff,beq_iff_eq,beq_iff_eq];exact⟨Eq.symm,Eq.symm⟩]
 cases c.2.1==g <;> rfl
def kindOf(x:aI):Int:=x.2.1
def e7(x:aI):Int:=x.2.2.1
def ez(x:aI):Int:=x.2.2.2.1
def fj(x:aI):Int:=x.2.2.2.2.1
def kM(a b:Int):Int:=cQ .and .i64 a b
def three(c:aH.D)(n:aI):Int :=
 cond (c.1==ez n) (Int.fdiv (e7 n) (2 ^ min (Int.toNat 6) 64)) (cond (mZ c (fj n)) (Int.fdiv (e7 n) (2 ^ min (Int.toNat 3) 64)) (e7 n))
def may(c:aH.D)(n:aI)(w:Int):Bool :=
 c3 w 0 7&&cond (c.1==0) (kM w 1==0||(kindOf n != 1||kM (e7 n) 73 != 0)) (kM (kM (three c n) 7) w==w)
theorem m0(c:aH.D)(n:aI)(w:Int)(hc:c9 c=true):jj (c,n,w,())=some (may c n w,()):=by
 show JM c n w=_
 unfold JM may three
 rw [Aq,hc,jW]
 simp only [av,Bool.not_true,cond_false]
 cases c3 w 0 7
 ·rfl
 simp only [Bool.not_true,cond_false,Bool.true_and]
 cases c.1==0
 ·simp only [cond_false]
  rw [Na c _ hc]
  simp only [av]
  show cond (mZ c (fj n)) (cond (c.1==ez n) _ _) (cond (c.1==ez n) _ _)=_
  cases mZ c (fj n) <;> cases c.1==ez n <;> rfl
 ·simp only [cond_true]
  show cond (kM w 1==0) _ (cond (kindOf n != 1) _ (some (kM (e7 n) 73 != 0,())))=_
  cases kM w 1==0 <;> cases kindOf n != 1 <;> rfl
theorem Ar(c:aH.D)(n:aI)(w:Int)(hc:c9 c=true):pW (c,n,w,())=some (may c n w,()):=by
 show KT c n w=_
 unfold KT may three
 rw [F8,hc,jA]
 simp only [av,Bool.not_true,cond_false]
 cases c3 w 0 7
 ·rfl
 simp only [Bool.not_true,cond_false,Bool.true_and]
 cases c.1==0
 ·simp only [cond_false]
  rw [Nb c _ hc]
  simp only [av]
  show cond (c.1==ez n) _ (cond (mZ c (fj n)) _ _)=_
  cases mZ c (fj n) <;> cases c.1==ez n <;> rfl
 ·simp only [cond_true]
  show cond (kindOf n != 1) _ (cond (kM (e7 n) 73 != 0) _ (some (kM w 1==0,())))=_
  cases kM w 1==0 <;> cases kindOf n != 1 <;> cases kM (e7 n) 73 != 0 <;> rfl
def p2(c:aH.D)(d n:aI):Bool:=kM (e7 d) 512==0||(c.1==0||(c.1==ez d||c.1==ez n))
theorem Nc(c:aH.D)(d n:aI)(hc:c9 c=true):xc (c,d,n,())=some (p2 c d n,()):=by
 show JW c d n=_
 unfold JW p2
 rw [Aq,hc]
 simp only [av,Bool.not_true,cond_false]
 show cond (kM (e7 d) 512==0) _ (cond (c.1==0) _ (cond (c.1==ez d) _ (some (c.1==ez n,()))))=_
 cases kM (e7 d) 512==0 <;> cases c.1==0 <;> cases c.1==ez d <;> rfl
theorem Nd(c:aH.D)(d n:aI)(hc:c9 c=true):sC (c,d,n,())=some (p2 c d n,()):=by
 show K8 c d n=_
 unfold K8 p2
 rw [F8,hc]
 simp only [av,cond_true]
 show cond (kM (e7 d) 512==0) _ (cond (c.1==0) _ (cond (c.1==ez d) _ (some (c.1==ez n,()))))=_
 cases kM (e7 d) 512==0 <;> cases c.1==0 <;> cases c.1==ez d <;> rfl
def o1(s:List UInt8):Bool:=jB s&&nb s 0==47
theorem agB(s:List UInt8)(i:Nat):((s.getD i 0).toNat:Int)=nb s i:=rfl
theorem xL(s:List UInt8):CW (s,())=some (o1 s,()):=by
 show CU (uo aQ) s=_
 unfold CU o1 jB
 simp only [jW,av]
 by_cases hl:c3 (s.length:Int) 1 60=true
 case neg=>rw [Bool.not_eq_true] at hl;rw [hl];simp
 have hb:=dR.1 hl
 rw [hl]
 simp only [Bool.not_true,cond_false,Bool.and_true]
 rw [show aO s.length 0=some 0 from bB (i:=0) (by omega)]
 simp only [av,agB,bne,nT]
 cases nb s 0==47
 ·simp
 simp only [cond_true,Bool.and_true]
 have:=sJ s.length (by omega) (fun i=>nb s i==47||sL (nb s i)) true (fun m i=>uo m s i) (fun m _=>by
  simp only [uo,CV]
  rw [cS (Nat.le_refl _)];rfl) (fun m i hi _ hw=>by
  simp only [uo,CV,hw]
  rw [cr hi,bB hi]
  simp only [cond_true,av,FP,nT,FO,bne];rfl)
 rw [Bool.and_true] at this
 exact this
theorem F9(s:List UInt8)(hl:s.length≤4000000000000000000):KR (s,())=some (o1 s,()):=by
 show KQ s=_
 unfold KQ o1
 rw [MR s hl]
 simp only [av]
 by_cases ht:jB s=true
 case neg=>rw [Bool.not_eq_true] at ht;rw [ht];rfl
 rw [ht]
 have:1≤s.length:=by
  unfold jB at ht
  rw [Bool.and_eq_true] at ht
  have:=dR.1 ht.2
  omega
 simp only [cond_true]
 rw [show aO s.length 0=some 0 from bB (i:=0) (by omega)]
 rfl
theorem vv(v:af.D)(hl:v.2.1.length≤1048576)(hn:∀i,i<v.2.1.length→(ak (J I v.2.1 i)).length≤1048576):lZ (v,())=some (v,()):=by
 show y9 (pM aQ) v=_
 unfold y9
 have:=mV v.2.1.length (by omega) (fun m i=>pM m i v (0,([]:List I.D),()) (v.1,v.2.1.take i.toNat,())) (fun _=>some (v,())) (fun _=>True) (fun m _=>by
  simp only [pM,y_]
  rw [cS (Nat.le_refl _)]
  simp only [Int.toNat_natCast,List.take_length,cond_false]) (fun m i hi _ hw ih=>by
  simp only [pM,y_]
  rw [cr hi,bB hi]
  simp only [cond_true,av,Int.toNat_natCast]
  have agC:=hn i hi
  show cond (room (0 +(ak (J I v.2.1 i)).length)) _ _=_
  rw [cH (by omega)]
  simp only [cond_true]
  unfold RX
  show cond (room ((v.2.1.take i).length+1)) _ _=_
  rw [cH (by rw [List.length_take];omega)]
  simp only [cond_true]
  unfold RW
  rw [hw]
  have ih:=ih trivial
  rw [show((i:Int)+1).toNat=i+1 by omega,List.take_succ_eq_append_getElem hi,← c8 (t:=I) hi] at ih
  exact ih) v.2.1.length 0 aQ (by omega) (jz (by omega)) trivial
 simpa using this
theorem agD(v:af.D)(hl:v.2.1.length≤1048576)(hn:∀i,i<v.2.1.length→(ak (J I v.2.1 i)).length≤1048576):su (v,())=some (v,()):=by
 show Ex (u_ aQ) v=_
 unfold Ex
 have:=mV v.2.1.length (by omega) (fun m i=>u_ m v.2.1 (v.2.1.length:Int) i (0,([]:List I.D),()) (v.1,v.2.1.take i.toNat,())) (fun _=>some (v,())) (fun _=>True) (fun m _=>by
  simp only [u_,Ey]
  rw [cS (Nat.le_refl _)]
  simp only [Int.toNat_natCast,List.take_length,cond_false]) (fun m i hi _ hw ih=>by
  simp only [u_,Ey]
  rw [cr hi,bB hi]
  simp only [cond_true,av,Int.toNat_natCast]
  have agC:=hn i hi
  show cond (room (0 +(ak (J I v.2.1 i)).length)) _ _=_
  rw [cH (by omega)]
  simp only [cond_true]
  unfold SB
  show cond (room ((v.2.1.take i).length+1)) _ _=_
  rw [cH (by rw [List.length_take];omega)]
  simp only [cond_true]
  unfold SA
  rw [hw]
  have ih:=ih trivial
  rw [show((i:Int)+1).toNat=i+1 by omega,List.take_succ_eq_append_getElem hi,← c8 (t:=I) hi] at ih
  exact ih) v.2.1.length 0 aQ (by omega) (jz (by omega)) trivial
 simpa using this
theorem o2{β : Type}(W:Nat)(F:Nat→Nat → β)(y : β):∀(k B:Nat),(∀i,i<k→∀B y,bW (fun m=>F m (i+1)) B y→bW (fun m=>F m i) (B+W) y)→bW (fun m=>F m k) B y→bW (fun m=>F m 0) (B+k*W) y
 | 0,B,_,h=>by simpa using h
 | k+1,B,hf,h=>by
  have:=o2 W F y k (B+W) (fun i hi=>hf i (by omega)) (hf k (by omega) B y h)
  rw [Nat.add_one_mul]
  rwa [show B +(k*W+W)=B+W+k*W by omega]
theorem VJ{β : Type}(n W:Nat)(F:Nat→Nat → β)(P:Nat→Bool)(R:Option Nat → β)(B:Nat)(hn:bW (fun m=>F m n) B (R none))(hs:∀i,i<n→P i=true→bW (fun m=>F m i) B (R (some i)))
  (hf:∀i,i<n→P i=false→∀B y,bW (fun m=>F m (i+1)) B y→bW (fun m=>F m i) (B+W) y):bW (fun m=>F m 0) (B+n*W) (R (fi n P)):=by
 cases h:fi n P with
 | none=>exact o2 W F _ n B (fun i hi=>hf i hi (l2.1 h i hi)) hn
 | some k =>
  obtain ⟨h1,h2,h3⟩:=iy.1 h
  refine(o2 W F _ k B (fun i hi=>hf i (by omega) (h3 i hi)) (hs k h1 h2)).mono ?_
  have:k*W≤n*W:=Nat.mul_le_mul_right _ (by omega)
  omega
theorem h_(v:af.D)(id:Int)(hl:v.2.1.length≤1048576){i:Nat}(h:bd v.2.1 id=some i):eS (v,id,())=some (J I v.2.1 i,()):=by
 show JO v id=_
 unfold JO
 rw [l3 v id hl,h]
 simp only [av,hL]
 rw [bB (bY h).1];rfl
theorem Nf(v:af.D)(id:Int)(hl:v.2.1.length≤1048576):xl (v,id,())=some (hL (bd v.2.1 id),v,()):=by
 show D3 (uV aQ) v id=_
 unfold D3 bd
 refine sK v.2.1.length (by omega) _ (fun o=>some (hL o,v,())) (fun m i=>uV m id (v.2.1.length:Int) i v) ?_ ?_
 ·intro m
  simp only [uV,D4]
  rw [cS (Nat.le_refl _)];rfl
 ·intro m i hi hw
  simp only [uV,D4,hw]
  rw [cr hi,bB hi]
  simp only [cond_true,av,Nat.zero_add];rfl
theorem m1(v:af.D)(id:Int)(hl:v.2.1.length≤1048576){i:Nat}(h:bd v.2.1 id=some i):fC (v,id,())=some ([J I v.2.1 i],()):=by
 rw [xF v id hl,h];rfl
def ln(l:List aI)(id:Int):Bool:=match bd l id with | some i=>kindOf (J I l i)==2 | none=>false
theorem VK(v:af.D)(id:Int)(hl:v.2.1.length≤1048576):xd (v,id,())=some (ln v.2.1 id,()):=by
 show J0 v id=_
 unfold J0 ln
 rw [l3 v id hl]
 simp only [av,Al]
 cases h:bd v.2.1 id with
 | none=>rfl
 | some i =>
  simp only [Option.isSome_some,cond_true,hL]
  rw [bB (bY h).1];rfl
theorem F_(v:af.D)(id:Int)(hl:v.2.1.length≤1048576):vi (v,id,())=some (ln v.2.1 id,()):=by
 show Le v id=_
 unfold Le ln
 rw [xF v id hl]
 cases h:bd v.2.1 id with
 | none=>rfl
 | some i=>rfl
def rb(N:List ay.D)(s:List UInt8)(j:Nat):Bool:=bs (J ay N j).1 s
def As(N:List ay.D):Option Nat→Int
 | none=>0
 | some j=>(J ay N j).2.1
def c6(N:List ay.D)(s:List UInt8):Int:=As N (fi N.length (rb N s))
theorem VL(v:af.D)(id:Int)(s:List UInt8)(hl:v.2.1.length≤1048576){i:Nat}(h:bd v.2.1 id=some i)(hn:(ak (J I v.2.1 i)).length≤1048576) :
  JN (v,id,s,())=some (c6 (ak (J I v.2.1 i)) s,()):=by
 show C5 (r_ aQ) v id s=_
 unfold C5
 rw [l3 v id hl,h]
 simp only [av,hL]
 rw [bB (bY h).1]
 simp only [av]
 show r_ aQ s (ak (J I v.2.1 i)) 0=_
 generalize ak (J I v.2.1 i)=N at hn
 refine sK N.length (by omega) (rb N s) (fun o=>some (As N o,())) (fun m j=>r_ m s N j) ?_ ?_
 ·intro m
  simp only [r_,C6]
  rw [cS (Nat.le_refl _)];rfl
 ·intro m j hj hw
  simp only [r_,C6,hw]
  rw [cr hj,bB hj];rfl
theorem VM(n:aI)(s:List UInt8)(hn:(ak n).length≤1048576):EE (n,s,())=some (c6 (ak n) s,()):=by
 show EC (sv aQ) n s=_
 unfold EC
 show sv aQ s (ak n) ((ak n).length:Int) 0=_
 generalize ak n=N at hn
 refine sK N.length (by omega) (rb N s) (fun o=>some (As N o,())) (fun m j=>sv m s N (N.length:Int) j) ?_ ?_
 ·intro m
  simp only [sv,ED]
  rw [cS (Nat.le_refl _)];rfl
 ·intro m j hj hw
  simp only [sv,ED,hw]
  rw [cr hj,bB hj];rfl
def lp(N:List ay.D)(id:Int)(j:Nat):Bool:=(J ay N j).2.1==id
def nX(N:List ay.D)(id:Int):Bool:=(fi N.length (lp N id)).isSome
def Ng(l:List aI):Option Nat→Int
 | none=>1
 | some i=>(J I l i).1
def sP(l:List aI)(id:Int):Option Nat:=fi l.length fun i=>nX (ak (J I l i)) id
def gS(l:List aI)(id:Int):Int:=Ng l (sP l id)
theorem Nh{N:List ay.D}{id:Int}(h:nX N id=false):∀j,j<N.length→lp N id j=false:=by
 unfold nX at h
 cases hf:fi N.length (lp N id) with
 | none=>exact l2.1 hf
 | some j=>rw [hf] at h;cases h
theorem Ga{N:List ay.D}{id:Int}(h:nX N id=true):∃j,j<N.length∧lp N id j=true∧∀k,k<j→lp N id k=false:=by
 unfold nX at h
 cases hf:fi N.length (lp N id) with
 | none=>rw [hf] at h;cases h
 | some j=>exact⟨j,iy.1 hf⟩
theorem Ni(v:af.D)(id:Int)(hl:v.2.1.length≤1048576)(hn:dy v.2.1≤1048576):C3 (v,id,())=some (gS v.2.1 id,()):=by
 show C2 (kG aQ) v id=_
 unfold C2
 have inner:∀i,i<v.2.1.length→∀j,j<(ak (J I v.2.1 i)).length→lp (ak (J I v.2.1 i)) id j=false→∀B y,bW (fun m=>(kG m).bx id (i:Int) ((j+1:Nat):Int) v) B y→bW (fun m=>(kG m).bx id (i:Int) (j:Int) v) (B+1) y:=by
  intro i hi j hj au B y he
  have hnl:=fN hi
  refine he.step fun m=>?_
  show uv (kG m) _ _ _ _=_
  unfold uv
  rw [bB hi]
  simp only [av]
  show cond (decide ((j:Int)<((ak (J I v.2.1 i)).length:Int))) ((aO (ak (J I v.2.1 i)).length (j:Int)).bind fun v3=>cond (lp (ak (J I v.2.1 i)) id v3) _ _) _=_
  rw [cr hj,bB hj]
  simp only [cond_true,av,au,cond_false]
  rw [de j (by omega)]
 have key:=VJ v.2.1.length (1048576+2) (fun m i=>(kG m).k2 id (i:Int) v) (fun i=>nX (ak (J I v.2.1 i)) id) (fun o=>some (Ng v.2.1 o,())) (1048576+3) ((bW.done fun m=>by
   show uu (kG m) _ _ _=_
   unfold uu
   rw [cS (Nat.le_refl _)];rfl).mono (by omega)) (fun i hi au=>by
   have hnl:=fN hi
   obtain ⟨j,h1,h2,h3⟩:=Ga au
   have:=o2 1 (fun m j=>(kG m).bx id (i:Int) (j:Int) v) (some ((J I v.2.1 i).1,())) j 1 (fun k hk=>inner i hi k (by omega) (h3 k hk)) (bW.done fun m=>by
    show uv (kG m) _ _ _ _=_
    unfold uv
    rw [bB hi]
    simp only [av]
    show cond (decide ((j:Int)<((ak (J I v.2.1 i)).length:Int))) ((aO (ak (J I v.2.1 i)).length (j:Int)).bind fun v3=>cond (lp (ak (J I v.2.1 i)) id v3) _ _) _=_
    rw [cr h1,bB h1]
    simp only [cond_true,av,h2])
   refine(this.step (f:=fun m=>(kG m).k2 id (i:Int) v) fun m=>?_).mono (by omega)
   show uu (kG m) _ _ _=_
   unfold uu
   rw [cr hi];rfl) (fun i hi au B y he=>by
   have hnl:=fN hi
   have h0:=Nh au
   have:=o2 1 (fun m j=>(kG m).bx id (i:Int) (j:Int) v) y (ak (J I v.2.1 i)).length (B+1) (fun k hk=>inner i hi k hk (h0 k hk)) (he.step fun m=>by
    show uv (kG m) _ _ _ _=_
    unfold uv
    rw [bB hi]
    simp only [av]
    show cond (decide (((ak (J I v.2.1 i)).length:Int)<((ak (J I v.2.1 i)).length:Int))) _ _=_
    rw [cS (Nat.le_refl _)]
    simp only [cond_false]
    rw [de i (by omega)])
   refine(this.step (f:=fun m=>(kG m).k2 id (i:Int) v) fun m=>?_).mono (by omega)
   show uu (kG m) _ _ _=_
   unfold uu
   rw [cr hi];rfl)
 have hm:v.2.1.length*(1048576+2)≤1048576*(1048576+2):=Nat.mul_le_mul_right _ hl
 exact kL key (by omega)
theorem VN(v:af.D)(id:Int)(hl:v.2.1.length≤1048576)(hn:dy v.2.1≤1048576):EA (v,id,())=some (gS v.2.1 id,()):=by
 show Ez (kJ aQ) v id=_
 unfold Ez
 have inner:∀i,i<v.2.1.length→∀j,j<(ak (J I v.2.1 i)).length→lp (ak (J I v.2.1 i)) id j=false→∀B y,
   bW (fun m=>(kJ m).bx id v.2.1 (v.2.1.length:Int) (i:Int) (ak (J I v.2.1 i)) ((ak (J I v.2.1 i)).length:Int) ((j+1:Nat):Int) (J I v.2.1 i)) B y →
   bW (fun m=>(kJ m).bx id v.2.1 (v.2.1.length:Int) (i:Int) (ak (J I v.2.1 i)) ((ak (J I v.2.1 i)).length:Int) (j:Int) (J I v.2.1 i)) (B+1) y:=by
  intro i hi j hj au B y he
  have hnl:=fN hi
  refine he.step fun m=>?_
  show vd (kJ m) _ _ _ _ _ _ _ _=_
  unfold vd
  rw [cr hj,bB hj]
  simp only [cond_true,av]
  show cond (lp (ak (J I v.2.1 i)) id j) _ _=_
  rw [au,de j (by omega)];rfl
 have key:=VJ v.2.1.length (1048576+2) (fun m i=>(kJ m).k2 id v.2.1 (v.2.1.length:Int) (i:Int)) (fun i=>nX (ak (J I v.2.1 i)) id) (fun o=>some (Ng v.2.1 o,())) (1048576+3) ((bW.done fun m=>by
   show va (kJ m) _ _ _ _=_
   unfold va
   rw [cS (Nat.le_refl _)];rfl).mono (by omega)) (fun i hi au=>by
   have hnl:=fN hi
   obtain ⟨j,h1,h2,h3⟩:=Ga au
   have:=o2 1 (fun m j=>(kJ m).bx id v.2.1 (v.2.1.length:Int) (i:Int) (ak (J I v.2.1 i)) ((ak (J I v.2.1 i)).length:Int) (j:Int) (J I v.2.1 i)) (some ((J I v.2.1 i).1,())) j 1 (fun k hk=>inner i hi k (by omega) (h3 k hk)) (bW.done fun m=>by
    show vd (kJ m) _ _ _ _ _ _ _ _=_
    unfold vd
    rw [cr h1,bB h1]
    simp only [cond_true,av]
    show cond (lp (ak (J I v.2.1 i)) id j) _ _=_
    rw [h2];rfl)
   refine(this.step (f:=fun m=>(kJ m).k2 id v.2.1 (v.2.1.length:Int) (i:Int)) fun m=>?_).mono (by omega)
   show va (kJ m) _ _ _ _=_
   unfold va
   rw [cr hi,bB hi];rfl) (fun i hi au B y he=>by
   have hnl:=fN hi
   have h0:=Nh au
   have:=o2 1 (fun m j=>(kJ m).bx id v.2.1 (v.2.1.length:Int) (i:Int) (ak (J I v.2.1 i)) ((ak (J I v.2.1 i)).length:Int) (j:Int) (J I v.2.1 i)) y (ak (J I v.2.1 i)).length (B+1) (fun k hk=>inner i hi k hk (h0 k hk)) (he.step fun m=>by
    show vd (kJ m) _ _ _ _ _ _ _ _=_
    unfold vd
    rw [cS (Nat.le_refl _)]
    simp only [cond_false]
    rw [de i (by omega)])
   refine(this.step (f:=fun m=>(kJ m).k2 id v.2.1 (v.2.1.length:Int) (i:Int)) fun m=>?_).mono (by omega)
   show va (kJ m) _ _ _ _=_
   unfold va
   rw [cr hi,bB hi];rfl)
 have hm:v.2.1.length*(1048576+2)≤1048576*(1048576+2):=Nat.mul_le_mul_right _ hl
 exact kL key (by omega)
def m2(l:List aI)(N:List ay.D):Nat:=(N.filter fun d=>ln l d.2.1).length
def o3(l:List aI)(n:aI):Int:=cond (kindOf n != 2) (cl l n.1:Int) (2+m2 l (ak n):Int)
theorem VO{l:List aI}{N:List ay.D}{j:Nat}(hj:j<N.length):m2 l (N.take (j+1))=m2 l (N.take j)+cond (ln l (J ay N j).2.1) 1 0:=by
 unfold m2
 rw [List.take_succ_eq_append_getElem hj,List.filter_append,List.length_append]
 congr 1
 rw [c8 hj]
 cases h:ln l (N[j]).2.1 <;> simp [List.filter_cons,h]
theorem VP(l:List aI)(N:List ay.D)(j:Nat):m2 l (N.take j)≤N.length:=by
 unfold m2
 refine Nat.le_trans (List.length_filter_le _ _) ?_
 rw [List.length_take];omega
theorem agE(v:af.D)(id:Int)(hl:v.2.1.length≤1048576)(hn:dy v.2.1≤1048576){i:Nat}(h:bd v.2.1 id=some i):Dz (v,id,())=some (o3 v.2.1 (J I v.2.1 i),()):=by
 show Dx (uJ aQ) v id=_
 unfold Dx o3
 obtain ⟨hi,b6⟩:=bY h
 have hnl:=fN hi
 rw [l3 v id hl,h]
 simp only [av,Ak,Option.isNone_some,cond_false,hL]
 rw [bB hi]
 simp only [av]
 show cond (kindOf (J I v.2.1 i) != 2) _ _=_
 cases kindOf (J I v.2.1 i) != 2
 ·simp only [cond_false]
  have:=mV (ak (J I v.2.1 i)).length (by omega) (fun m j=>uJ m (i:Int) (2+m2 v.2.1 ((ak (J I v.2.1 i)).take j.toNat):Int) j v) (fun _=>some ((2+m2 v.2.1 (ak (J I v.2.1 i)):Int),())) (fun _=>True) (fun m _=>by
   simp only [uJ,Dy]
   rw [bB hi]
   simp only [av]
   show cond (decide (((ak (J I v.2.1 i)).length:Int)<((ak (J I v.2.1 i)).length:Int))) _ _=_
   rw [cS (Nat.le_refl _)]
   simp only [Int.toNat_natCast,List.take_length,cond_false]) (fun m j hj _ hw ih=>by
   have ih:=ih trivial
   rw [show((j:Int)+1).toNat=j+1 by omega,VO hj] at ih
   have hdl:=VP v.2.1 (ak (J I v.2.1 i)) j
   simp only [uJ,Dy]
   rw [bB hi]
   simp only [av]
   show cond (decide ((j:Int)<((ak (J I v.2.1 i)).length:Int))) ((aO (ak (J I v.2.1 i)).length (j:Int)).bind fun v3=>(xd (v,(J ay (ak (J I v.2.1 i)) v3).2.1,())).bind _) _=_
   rw [cr hj,bB hj]
   simp only [cond_true,av]
   rw [VK v _ hl]
   simp only [av,hw,Int.toNat_natCast]
   revert ih
   cases ln v.2.1 (J ay (ak (J I v.2.1 i)) j).2.1
   ·intro ih
    exact ih
   ·intro ih
    simp only [cond_true] at ih ⊢
    rw [ed (by omega) (by omega)]
    rw [Int.natCast_add,← Int.add_assoc] at ih
    exact ih) (ak (J I v.2.1 i)).length 0 aQ (by omega) (jz (by omega)) trivial
  simpa [m2] using this
 ·simp only [cond_true]
  rw [FR v id hl hn,b6];rfl
theorem VQ(v:af.D)(n:aI)(hl:v.2.1.length≤1048576)(hn:dy v.2.1≤1048576)(hnl:(ak n).length≤1048576):Fg (v,n,())=some (o3 v.2.1 n,()):=by
 show Fe (sE aQ) v n=_
 unfold Fe o3
 show cond (kindOf n != 2) _ _=_
 cases kindOf n != 2
 ·simp only [cond_false]
  have:=mV (ak n).length (by omega) (fun m j=>sE m v (2+m2 v.2.1 ((ak n).take j.toNat):Int) (ak n) ((ak n).length:Int) j) (fun _=>some ((2+m2 v.2.1 (ak n):Int),())) (fun _=>True) (fun m _=>by
   simp only [sE,Ff]
   rw [cS (Nat.le_refl _)]
   simp only [Int.toNat_natCast,List.take_length,cond_false]) (fun m j hj _ hw ih=>by
   have ih:=ih trivial
   rw [show((j:Int)+1).toNat=j+1 by omega,VO hj] at ih
   have hdl:=VP v.2.1 (ak n) j
   simp only [sE,Ff]
   rw [cr hj,bB hj]
   simp only [cond_true,av]
   rw [F_ v _ hl]
   simp only [av,hw,Int.toNat_natCast]
   revert ih
   cases ln v.2.1 (J ay (ak n) j).2.1
   ·intro ih
    exact ih
   ·intro ih
    simp only [cond_true] at ih ⊢
    rw [ed (by omega) (by omega)]
    rw [Int.natCast_add,← Int.add_assoc] at ih
    exact ih) (ak n).length 0 aQ (by omega) (jz (by omega)) trivial
  show sE aQ v 2 (ak n) ((ak n).length:Int) 0=_
  simpa [m2] using this
 ·simp only [cond_true]
  rw [FT v _ hl hn];rfl
abbrev aG:Type:=List UInt8
def jD(c:aG):List aG→List aG
 | []=>[c]
 | p :: ps=>(c++p) :: ps
def eT:aG→List aG
 | []=>[[]]
 | b :: l=>cond (b==47) ([] :: eT l) (jD [b] (eT l))
def full(p:aG):Bool := !bs p []
def cut(s:aG):List aG:=(eT s).filter full
theorem agF(c:aG)(l:List aG):jD c l≠[]:=by cases l <;> simp [jD]
theorem Gb(s:aG):eT s≠[]:=by
 cases s with
 | nil=>simp [eT]
 | cons b l=>simp only [eT];cases b==47 <;> simp [agF]
theorem Nj{l:List aG}(h:l≠[]):jD [] l=l:=by cases l <;> simp_all [jD]
theorem agG(a b:aG){l:List aG} : jD a (jD b l)=jD (a++b) l:=by cases l <;> simp [jD]
theorem Nk{p:aG} : full p=false↔p=[]:=by unfold full bs;simp
theorem agH(c:aG):(jD c [[]]).filter full=cond (full c) [c] []:=by
 simp only [jD,List.append_nil,List.filter_cons,List.filter_nil]
 cases full c <;> rfl
theorem agI(s:aG){i:Nat}(h:i<s.length):s.drop i=s.getD i 0 :: s.drop (i+1):=by
 rw [List.drop_eq_getElem_cons h]
 congr 1
 rw [List.getD_eq_getElem?_getD,List.getElem?_eq_getElem h];rfl
theorem agJ{s:aG}{a i:Nat}(ha:a≤i)(hi:i<s.length):part s a (i+1-a)=part s a (i-a)++[s.getD i 0]:=by
 unfold part
 rw [show i+1-a=(i-a)+1 by omega,List.take_add_one]
 congr 1
 rw [List.getElem?_drop,show a +(i-a)=i by omega,List.getElem?_eq_getElem hi,List.getD_eq_getElem?_getD,List.getElem?_eq_getElem hi];rfl
theorem VR(b:UInt8):(((b.toNat:Nat):Int)==47)=(b==47):=by
 rw [Bool.eq_iff_iff,beq_iff_eq,beq_iff_eq]
 constructor
 ·intro h
  have:b.toNat=47:=by omega
  exact UInt8.toNat_inj.1 (by rw [this];rfl)
 ·rintro rfl;rfl
theorem agK{s:aG}{a n:Nat}(h:a+n≤s.length):(part s a n).length=n:=by unfold part;rw [List.length_take,List.length_drop];omega
theorem VS{s:aG}{a i:Nat}(ha:a≤i)(hi:i≤s.length):full (part s a (i-a))=decide ((i:Int) >(a:Int)):=by
 by_cases h:a<i
 ·rw [decide_eq_true (show(i:Int) >(a:Int) by omega)]
  rw [← Bool.not_eq_false,Nk]
  intro h0
  have:=agK (s:=s) (a:=a) (n:=i-a) (by omega)
  rw [h0] at this
  simp at this;omega
 ·have:i-a=0:=by omega
  rw [this,decide_eq_false (show ¬(i:Int) >(a:Int) by omega)]
  exact Nk.2 (by simp [part])
theorem Gc(s:aG)(hl:s.length≤1048576):xa (s,())=some (cut s,()):=by
 show C1 (qG aQ) s=_
 unfold C1
 have key:∀(r i m a:Nat) (out:List aG),i+r=s.length→r+1<m→a≤i→out.length≤i→qG m s (a:Int) (i:Int) out=some (out++(jD (part s a (i-a)) (eT (s.drop i))).filter full,()):=by
  intro r
  induction r with
  | zero =>
   intro i m a out hi hm ha ho
   obtain ⟨m,rfl,pz⟩:=fuel hm
   obtain ⟨m,rfl,_⟩:=fuel pz
   have bI:i=s.length:=by omega
   have lX:∀(x:Int) (o:List aG),qG (m+1) s x (aK ((i:Int)+1)) o=some (o,()):=by
    intro x o
    simp only [qG,zf]
    rw [de i (by omega),decide_eq_false (by omega)];rfl
   rw [qG,zf,decide_eq_true (show(i:Int)≤(s.length:Int) by omega),show((i:Int) ==(s.length:Int))=true by simp;omega]
   simp only [cond_true]
   rw [List.drop_of_length_le (by omega),eT,agH,VS ha (by omega)]
   by_cases h:(i:Int) >(a:Int)
   ·rw [decide_eq_true h]
    simp only [cond_true]
    rw [iW ha (by omega)]
    simp only [av]
    rw [cH (by simp only [List.length_cons,List.length_nil];omega)]
    simp only [cond_true,lX]
   ·rw [decide_eq_false h]
    simp only [cond_false,lX,List.append_nil]
  | succ r ih =>
   intro i m a out hi hm ha ho
   obtain ⟨m,rfl,hm⟩:=fuel hm
   have cw:i<s.length:=by omega
   rw [qG,zf,decide_eq_true (show(i:Int)≤(s.length:Int) by omega),show((i:Int) ==(s.length:Int))=false by simp;omega]
   simp only [cond_true,cond_false]
   rw [bB cw,agI s cw,eT]
   simp only [av]
   rw [VR,de i (by omega)]
   cases s.getD i 0==47
   ·simp only [cond_false]
    rw [ih (i+1) m a out (by omega) (by omega) (by omega) (by omega),agG,← agJ ha cw]
   ·simp only [cond_true]
    have hz:part s (i+1) (i+1-(i+1))=[]:=by simp [part]
    have hs:(jD (part s a (i-a)) ([] :: eT (s.drop (i+1)))).filter full=cond (full (part s a (i-a))) [part s a (i-a)] []++(eT (s.drop (i+1))).filter full:=by
     simp only [jD,List.append_nil,List.filter_cons]
     cases full (part s a (i-a)) <;> rfl
    rw [hs,VS ha (by omega)]
    by_cases h:(i:Int) >(a:Int)
    ·rw [decide_eq_true h]
     simp only [cond_true]
     rw [iW ha (by omega)]
     simp only [av]
     rw [cH (by simp only [List.length_cons,List.length_nil];omega)]
     simp only [cond_true]
     rw [ih (i+1) m (i+1) _ (by omega) (by omega) (by omega) (by simp;omega),hz,Nj (Gb _),List.append_assoc]
    ·rw [decide_eq_false h]
     simp only [cond_false]
     rw [ih (i+1) m (i+1) _ (by omega) (by omega) (by omega) (by omega),hz,Nj (Gb _),List.nil_append]
 have:=key s.length 0 aQ 0 [] (by omega) (jz (by omega)) (by omega) (by simp)
 rw [show part s 0 (0-0)=[] by simp [part],List.drop_zero,Nj (Gb _)] at this
 simpa [cut] using this
theorem VT{s:aG}(h:Lib.indexByte s 47 = -1):eT s=[s]∧s.count 47=0:=by
 induction s with
 | nil=>exact⟨rfl,rfl⟩
 | cons b l ih =>
  unfold Lib.indexByte at h
  cases hb:b==47
  ·rw [hb] at h
   simp only [Bool.false_eq_true,if_false] at h
   have hl:Lib.indexByte l 47 = -1:=by
    by_cases h1:Lib.indexByte l 47 = -1
    ·exact h1
    ·have h2:=Lib.indexByte_ge l 47
     rw [if_neg (by simpa using h1)] at h
     omega
   obtain ⟨i1,i2⟩:=ih hl
   refine⟨by rw [eT,hb,i1];rfl,?_⟩
   rw [List.count_cons,i2,hb];rfl
  ·rw [hb] at h;simp at h
theorem VU{s:aG}{k:Nat}(h:Lib.indexByte s 47=(k:Int)):k<s.length∧eT s=s.take k :: eT (s.drop (k+1))∧s.count 47=(s.drop (k+1)).count 47+1:=by
 induction s generalizing k with
 | nil=>unfold Lib.indexByte at h;omega
 | cons b l ih =>
  unfold Lib.indexByte at h
  cases hb:b==47
  ·rw [hb] at h
   simp only [Bool.false_eq_true,if_false] at h
   have h2:=Lib.indexByte_ge l 47
   by_cases h1:Lib.indexByte l 47 = -1
   ·rw [if_pos (by simpa using h1)] at h;omega
   ·rw [if_neg (by simpa using h1)] at h
    obtain ⟨j,rfl⟩:∃j,k=j+1:=⟨k-1,by omega⟩
    obtain ⟨i1,i2,i3⟩:=ih (k:=j) (by omega)
    refine⟨by simp;omega,?_,?_⟩
    ·rw [eT,hb,i2];rfl
    ·rw [List.count_cons,i3,hb];rfl
  ·rw [hb] at h
   simp only [if_true] at h
   have:k=0:=by omega
   subst this
   refine⟨by simp,?_,?_⟩
   ·rw [eT,hb];rfl
   ·rw [List.count_cons,hb];rfl
theorem VV(s:aG):Lib.indexByte s 47 = -1∨∃k:Nat,Lib.indexByte s 47=k:=by
 have:=Lib.indexByte_ge s 47
 by_cases h:Lib.indexByte s 47 = -1
 ·exact .inl h
 ·exact .inr ⟨(Lib.indexByte s 47).toNat,by omega⟩
theorem agL(s:aG):EF (s,[47],())=some (Lib.indexByte s 47,()):=by
 show KV s [47]=_
 unfold KV
 show Option.bind (KU s [47]) _=_
 unfold KU
 by_cases h:bs [47] s=true
 ·rw [h]
  have:s=[47]:=by unfold bs at h;simp only [decide_eq_true_eq] at h;exact h.symm
  subst this;rfl
 ·rw [Bool.not_eq_true] at h
  rw [h]
  rfl
theorem agM(s:aG):KW (s,[47],())=some ((s.count 47:Int),()):=by
 show EH (EI aQ) s [47]=_
 unfold EH
 rfl
theorem agN:∀(r:Nat) (s:aG) (i n m:Nat) (a:List aG),s.length≤1048576→n≤1048576→s.count 47=r→i+r=n→a.length=n+1→r+1<m →
  (qZ m).db s [47] 0 (n:Int) (i:Int) a=some (a.take i++eT s,()):=by
 intro r
 induction r with
 | zero =>
  intro s i n m a hs hn hc hi ha hm
  obtain ⟨m,rfl,pz⟩:=fuel hm
  obtain ⟨m,rfl,_⟩:=fuel pz
  have:i=n:=by omega
  subst this
  show zP (qZ (m+1)) _ _ _ _ _ _=_
  unfold zP
  rw [cS (Nat.le_refl _)]
  simp only [cond_false]
  show KY (qZ m) _ _ _=_
  unfold KY
  rw [bB (by omega)]
  simp only [av,Nat.zero_add]
  rw [de i (by omega)]
  show Option.bind (du (a.set i s).length ((0:Nat):Int) ((i+1:Nat):Int)) _=_
  rw [iW (by omega) (by rw [List.length_set];omega)]
  simp only [av,Nat.zero_add,Nat.sub_zero]
  have hsp:eT s=[s]:=by
   rcases VV s with h | ⟨k,h⟩
   ·exact(VT h).1
   ·have:=(VU h).2.2;omega
  rw [hsp,vq,List.take_succ_eq_append_getElem (by rw [List.length_set];omega),List.getElem_set_self,List.take_set_of_le (by omega)]
 | succ r ih =>
  intro s i n m a hs hn hc hi ha hm
  obtain ⟨m,rfl,hm⟩:=fuel hm
  show zP (qZ m) _ _ _ _ _ _=_
  unfold zP
  rw [cr (by omega),agL]
  simp only [cond_true,av]
  obtain ⟨k,hk⟩:∃k:Nat,Lib.indexByte s 47=k:=by
   rcases VV s with h | h
   ·have:=(VT h).2;omega
   ·exact h
  obtain ⟨h1,h2,h3⟩:=VU hk
  rw [hk,decide_eq_false (by omega)]
  simp only [cond_false]
  rw [show aK ((k:Int)+0)=(k:Int) by rw [Int.add_zero];exact ed (by omega) (by omega)]
  show Option.bind (du s.length ((0:Nat):Int) (k:Int)) _=_
  rw [iW (by omega) (by omega)]
  simp only [av]
  rw [bB (by omega)]
  simp only [av,Nat.zero_add]
  unfold SK
  simp only
  rw [show aK ((k:Int) +(([47]:aG).length:Int))=((k+1:Nat):Int) from de k (by omega),iW (by omega) (Nat.le_refl _)]
  simp only [av]
  rw [Aj,de i (by omega),ih (s.drop (k+1)) (i+1) n m _ (by rw [List.length_drop];omega) hn (by omega) (by omega) (by rw [List.length_set];exact ha) (by omega)]
  rw [h2,List.take_succ_eq_append_getElem (by rw [List.length_set];omega),List.getElem_set_self,List.take_set_of_le (by omega),Nat.sub_zero,vq,List.append_assoc];rfl
theorem agO(s:aG)(hl:s.length≤1048576):K1 (s,[47],())=some (eT s,()):=by
 show K0 s [47]=_
 unfold K0
 have:KZ (s,[47],0,-1,())=some (eT s,()):=by
  show EJ (qZ aQ) s [47] 0 (-1)=_
  unfold EJ
  have hcl:s.count 47≤s.length:=List.count_le_length
  rw [agM]
  show(qZ aQ).da s [47] 0 (aK ((s.count 47:Int)+1))=_
  obtain ⟨q,hq,iq⟩:=jm 1
  rw [hq]
  show KX (qZ q) _ _ _ _=_
  unfold KX
  rw [de _ (by omega),de _ (by omega),show jG ((s.count 47+1:Nat):Int) ((s.length+1:Nat):Int)=((s.count 47+1:Nat):Int) by rw [af4];omega]
  rw [decide_eq_true (by omega),decide_eq_true rfl,Int.toNat_natCast,cH (by omega)]
  simp only [Bool.and_self,cond_true]
  rw [show aK (((s.count 47+1:Nat):Int)-1)=((s.count 47:Nat):Int) by rw [ed (by omega) (by omega)];omega]
  have:=agN (s.count 47) s 0 (s.count 47) q (List.replicate (s.count 47+1) []) hl (by omega) rfl (by omega) (by simp) (by omega)
  simpa using this
 rw [this];rfl
theorem VW(s:aG)(hl:s.length≤1048576):sx (s,())=some (cut s,()):=by
 show EL (sw aQ) s=_
 unfold EL
 rw [agO s hl]
 simp only [av]
 have l4:(eT s).length≤1048577:=by
  have:∀s:aG,(eT s).length≤s.length+1:=by
   intro s
   induction s with
   | nil=>simp [eT]
   | cons b l ih =>
    rw [eT]
    cases b==47
    ·simp only [cond_false,List.length_cons]
     cases hs:eT l with
     | nil=>simp [jD]
     | cons p ps=>rw [hs] at ih;simp only [jD,List.length_cons] at ih ⊢;omega
    ·simp only [cond_true,List.length_cons];omega
  have:=this s;omega
 show sw aQ _ _ _ _=some ((eT s).filter full,())
 generalize eT s=l at l4
 have:=mV l.length (by omega) (fun m i=>sw m (l.length:Int) i ((l.take i.toNat).filter full) l) (fun _=>some (l.filter full,())) (fun _=>True) (fun m _=>by
  simp only [sw,EM]
  rw [cS (Nat.le_refl _)]
  simp only [Int.toNat_natCast,List.take_length,cond_false]) (fun m i hi _ hw ih=>by
  have ih:=ih trivial
  have aA:J ad.str l i=l[i]:=c8 (t:=.str) hi
  rw [show((i:Int)+1).toNat=i+1 by omega,List.take_succ_eq_append_getElem hi,List.filter_append,List.filter_cons,List.filter_nil] at ih
  simp only [sw,EM]
  rw [cr hi,bB hi]
  simp only [cond_true,av,Nat.zero_add,hw,Int.toNat_natCast]
  rw [aA]
  show cond (full l[i]) _ _=_
  have fp:((l.take i).filter full).length≤i:=Nat.le_trans (List.length_filter_le _ _) (by rw [List.length_take];omega)
  cases hf:full l[i]
  ·rw [hf] at ih
   simp only [Bool.false_eq_true,if_false,List.append_nil] at ih
   exact ih
  ·rw [hf] at ih
   simp only [if_true] at ih
   simp only [cond_true]
   rw [cH (by simp only [List.length_cons,List.length_nil];omega)]
   exact ih) l.length 0 aQ (by omega) (jz (by omega)) trivial
 simpa using this
theorem agP{s:aG} : ∀ {p:aG},p∈eT s→∀b,b∈p→b∈s∧(b==47)=false:=by
 induction s with
 | nil=>intro p au b hb;simp [eT] at au;subst au;simp at hb
 | cons c l ih =>
  intro p au b hb
  rw [eT] at au
  cases hc:c==47
  ·rw [hc] at au
   simp only [cond_false] at au
   cases hs:eT l with
   | nil=>exact absurd hs (Gb l)
   | cons q aly =>
    rw [hs] at au ih
    simp only [jD,List.mem_cons] at au
    rcases au with rfl | au
    ·simp only [List.cons_append,List.nil_append,List.mem_cons] at hb
     rcases hb with rfl | hb
     ·exact⟨List.mem_cons_self,hc⟩
     ·obtain ⟨h1,h2⟩:=ih List.mem_cons_self b hb
      exact⟨List.mem_cons_of_mem _ h1,h2⟩
    ·obtain ⟨h1,h2⟩:=ih (List.mem_cons_of_mem _ au) b hb
     exact⟨List.mem_cons_of_mem _ h1,h2⟩
  ·rw [hc] at au
   simp only [cond_true,List.mem_cons] at au
   rcases au with rfl | au
   ·simp at hb
   ·obtain ⟨h1,h2⟩:=ih au b hb
    exact⟨List.mem_cons_of_mem _ h1,h2⟩
theorem agQ(s:aG):(eT s).length≤s.length+1:=by
 induction s with
 | nil=>simp [eT]
 | cons b l ih =>
  rw [eT]
  cases b==47
  ·simp only [cond_false,List.length_cons]
   cases hs:eT l with
   | nil=>simp [jD]
   | cons p ps=>rw [hs] at ih;simp only [jD,List.length_cons] at ih ⊢;omega
  ·simp only [cond_true,List.length_cons];omega
theorem Gd(s:aG):(cut s).length≤s.length+1:=Nat.le_trans (List.length_filter_le _ _) (agQ s)
def sQ(p:aG):Prop:=p≠[]∧∀i,i<p.length→sL (nb p i)=true
theorem Ge{s:aG}(h:jB s=true):∀p,p∈cut s→sQ p:=by
 intro p au
 obtain ⟨h1,h2⟩:=List.mem_filter.1 au
 refine⟨fun h0=>(by rw [Nk.2 h0] at h2;cases h2),fun i hi=>?_⟩
 have hm:p.getD i 0∈p:=by rw [List.getD_eq_getElem?_getD,List.getElem?_eq_getElem hi];exact List.getElem_mem hi
 obtain ⟨h3,h4⟩:=agP h1 _ hm
 unfold jB at h
 rw [Bool.and_eq_true] at h
 obtain ⟨j,hj,he⟩:=List.mem_iff_getElem.1 h3
 have:=lk.1 h.1 j hj
 have e:nb s j=nb p i:=by unfold nb;rw [List.getD_eq_getElem?_getD,List.getElem?_eq_getElem hj,← he];rfl
 rw [e] at this
 have a8:(nb p i==47)=false:=by rw [← h4];exact VR _
 rw [a8,Bool.false_or] at this
 exact this
theorem lt_irrefl:∀x:aG,dz x x=false
 | []=>rfl
 | a :: x=>by
  have:=lt_irrefl x
  unfold dz at *
  rw [Op.bytesLess]
  simp [this]
theorem VX:∀x y:aG,dz x y=false→x=y∨dz y x=true
 | [],[],_=>.inl rfl
 | [],_ :: _,h=>by unfold dz Op.bytesLess at h;cases h
 | a :: x,[],_=>.inr (by unfold dz Op.bytesLess;rfl)
 | a :: x,b :: y,h=>by
  have ih:=VX x y
  unfold dz at *
  rw [Op.bytesLess] at h
  simp only [Bool.or_eq_false_iff,decide_eq_false_iff_not,Bool.and_eq_false_iff,beq_eq_false_iff_ne] at h
  obtain ⟨h1,h2⟩:=h
  by_cases lO:a=b
  ·subst lO
   rcases h2 with h2 | h2
   ·exact absurd rfl h2
   ·rcases ih h2 with h3 | h3
    ·exact .inl (by rw [h3])
    ·exact .inr (by rw [Op.bytesLess];simp [h3])
  ·refine .inr ?_
   rw [Op.bytesLess]
   have:b<a:=by
    rcases UInt8.lt_or_lt_of_ne lO with h | h
    ·exact absurd h h1
    ·exact h
   simp [this]
theorem At:∀ {x y z:aG},dz x y=true→dz y z=true→dz x z=true
 | _,[],_,h,_=>by unfold dz at h;simp [Op.bytesLess] at h
 | _,_ :: _,[],_,h=>by unfold dz at h;simp [Op.bytesLess] at h
 | [],_ :: _,_ :: _,_,_=>by unfold dz;simp [Op.bytesLess]
 | a :: x,b :: y,c :: z,h,k=>by
  have ih:=@At x y z
  unfold dz at *
  rw [Op.bytesLess] at h k ⊢
  simp only [Bool.or_eq_true,decide_eq_true_eq,Bool.and_eq_true,beq_iff_eq] at h k ⊢
  rcases h with h | ⟨rfl,h⟩
  ·rcases k with k | ⟨rfl,k⟩
   ·exact .inl (UInt8.lt_trans h k)
   ·exact .inl h
  ·rcases k with k | ⟨rfl,k⟩
   ·exact .inl k
   ·exact .inr ⟨rfl,ih h k⟩
theorem VY{x y:aG}(h:dz x y=true):dz y x=false:=by
 cases hk:dz y x
 ·rfl
 ·have:=At h hk;rw [lt_irrefl] at this;cases this
theorem Gf{x y:aG}(h:dz x y=true):x≠y:=by rintro rfl;rw [lt_irrefl] at h;cases h
theorem Nl{x y:aG}(h:x≠y):dz y x = !dz x y:=by
 cases hk:dz x y
 ·rcases VX x y hk with h1 | h1
  ·exact absurd h1 h
  ·rw [h1];rfl
 ·rw [VY hk];rfl
def jo(N:List ay.D):Prop:=N.Pairwise fun a b=>dz a.1 b.1=true
theorem agR{N:List ay.D}(h:∀j,j+1<N.length→dz (J ay N j).1 (J ay N (j+1)).1=true):jo N:=by
 unfold jo
 rw [List.pairwise_iff_getElem]
 have key:∀d j,j+d+1<N.length→dz (J ay N j).1 (J ay N (j+d+1)).1=true:=by
  intro d
  induction d with
  | zero=>exact fun j hj=>h j hj
  | succ d ih=>exact fun j hj=>At (ih j (by omega)) (h (j+d+1) (by omega))
 intro i j hi hj iV
 have:=key (j-i-1) i (by omega)
 rw [show i +(j-i-1)+1=j by omega,c8 hi,c8 hj] at this
 exact this
theorem agS{N:List ay.D}(h:jo N){i j:Nat}(iV:i<j)(hj:j<N.length):dz (J ay N i).1 (J ay N j).1=true:=by
 unfold jo at h
 rw [c8 hj,c8 (t:=ay) (xs:=N) (i:=i) (by omega)]
 exact List.pairwise_iff_getElem.1 h i j (by omega) hj iV
structure lq(l:List aI)(x:aI):Prop where
 mode:0≤e7 x∧e7 x≤2047
 uid:0≤ez x∧ez x≤1000
 gid:0≤fj x∧fj x≤1000
 kind:kindOf x=1∨kindOf x=2∨kindOf x=3
 plain:kindOf x≠2→eE x=0∧et x=0∧ak x=[]
 file:kindOf x=1→(bh x).length≤64
 l5:kindOf x=3→jB (bh x)=true∧e7 x=511
 dir:kindOf x=2→bh x=[]∧(0≤eE x∧eE x≤400)∧(0≤et x∧et x≤24)∧(ak x).length≤12
 names:∀d,d∈ak x→iz d.1=true∧d.2.1≠1∧(bd l d.2.1).isSome=true
 sorted:jo (ak x)
theorem Gg{x:aI} : plain x=true↔eE x=0∧et x=0∧ak x=[]:=by
 unfold plain
 simp only [Bool.and_eq_true,beq_iff_eq]
 constructor
 ·rintro ⟨⟨h1,h2⟩,h3⟩;exact⟨h2,h3,List.length_eq_zero_iff.1 (by omega)⟩
 ·rintro ⟨h1,h2,h3⟩;exact⟨⟨by rw [h3];rfl,h1⟩,h2⟩
theorem VZ{l:List aI}{N:List ay.D} : fs N.length (oZ l N)=true↔(∀d,d∈N→iz d.1=true∧d.2.1≠1∧(bd l d.2.1).isSome=true)∧jo N:=by
 rw [lk]
 unfold oZ
 simp only [Bool.and_eq_true,Bool.not_eq_true',Bool.and_eq_false_iff,decide_eq_false_iff_not,Bool.not_eq_false',beq_eq_false_iff_ne]
 constructor
 ·intro h
  refine⟨fun d ag=>?_,agR fun j hj=>?_⟩
  ·obtain ⟨i,hi,he⟩:=fw ag
   obtain ⟨⟨⟨h1,_⟩,h3⟩,h4⟩:=h i hi
   rw [he] at h1 h3 h4
   exact⟨h1,h3,h4⟩
  ·obtain ⟨⟨⟨_,h2⟩,_⟩,_⟩:=h (j+1) hj
   rcases h2 with h2 | h2
   ·omega
   ·rw [Nat.add_sub_cancel] at h2;exact h2
 ·rintro ⟨h1,h2⟩ i hi
  obtain ⟨k1,k2,k3⟩:=h1 _ (cJ hi)
  refine⟨⟨⟨k1,?_⟩,k2⟩,k3⟩
  by_cases h0:0<i
  ·exact .inr (agS h2 (by omega) hi)
  ·exact .inl h0
theorem V0{l:List aI}{x:aI} : nV l x=true↔lq l x:=by
 unfold nV
 simp only [Bool.and_eq_true]
 constructor
 ·rintro ⟨⟨⟨h1,h2⟩,h3⟩,h⟩
  have h1:=dR.1 h1
  have h2:=dR.1 h2
  have h3:=dR.1 h3
  by_cases k1:kindOf x=1
  ·rw [cF (show x.2.1=1 from k1)] at h
   simp only [cond_true,Bool.and_eq_true,decide_eq_true_eq] at h
   obtain ⟨ej,fm,gl⟩:=Gg.1 h.1
   exact⟨h1,h2,h3,.inl k1,fun _=>⟨ej,fm,gl⟩,fun _=>by omega,fun k=>by omega,fun k=>by omega,by rw [gl];simp,by rw [gl];exact List.Pairwise.nil⟩
  ·rw [ca (show ¬x.2.1=1 from k1)] at h
   by_cases k3:kindOf x=3
   ·rw [cF (show x.2.1=3 from k3)] at h
    simp only [cond_true,cond_false,Bool.and_eq_true,beq_iff_eq] at h
    obtain ⟨ej,fm,gl⟩:=Gg.1 h.1.1
    exact⟨h1,h2,h3,.inr (.inr k3),fun _=>⟨ej,fm,gl⟩,fun k=>by omega,fun _=>⟨h.1.2,h.2⟩,fun k=>by omega,by rw [gl];simp,by rw [gl];exact List.Pairwise.nil⟩
   ·rw [ca (show ¬x.2.1=3 from k3)] at h
    by_cases k2:kindOf x=2
    ·rw [cF (show x.2.1=2 from k2)] at h
     simp only [cond_true,cond_false,Bool.and_eq_true,sO,decide_eq_true_eq] at h
     obtain ⟨⟨⟨e1,e2⟩,e3⟩,fY,tB⟩:=h
     obtain ⟨fV,mh⟩:=VZ.1 fY
     exact⟨h1,h2,h3,.inr (.inl k2),fun k=>absurd k2 k,fun k=>by omega,fun k=>by omega,fun _=>⟨by unfold bs at e1;simpa using e1,dR.1 e2,dR.1 e3,by omega⟩,fV,mh⟩
    ·rw [ca (show ¬x.2.1=2 from k2)] at h
     simp at h
 ·intro h
  refine⟨⟨⟨dR.2 h.mode,dR.2 h.uid⟩,dR.2 h.gid⟩,?_⟩
  rcases h.kind with k | k | k
  ·have k':x.2.1=1:=k
   rw [cF k']
   simp only [cond_true,Bool.and_eq_true,decide_eq_true_eq]
   exact⟨Gg.2 (h.plain (by omega)),by have:=h.file k;omega⟩
  ·have k':x.2.1=2:=k
   rw [ca (show ¬x.2.1=1 from fun h1=>by have:kindOf x=1:=h1;omega),ca (show ¬x.2.1=3 from fun h1=>by have:kindOf x=3:=h1;omega),cF k']
   simp only [cond_true,cond_false,Bool.and_eq_true,sO,decide_eq_true_eq]
   obtain ⟨d1,d2,d3,d4⟩:=h.dir k
   exact⟨⟨⟨by rw [d1];rfl,dR.2 d2⟩,dR.2 d3⟩,VZ.2 ⟨h.names,h.sorted⟩,by omega⟩
  ·have k':x.2.1=3:=k
   rw [ca (show ¬x.2.1=1 from fun h1=>by have:kindOf x=1:=h1;omega),cF k']
   simp only [cond_true,cond_false,Bool.and_eq_true,beq_iff_eq]
   exact⟨⟨Gg.2 (h.plain (by omega)),(h.l5 k).1⟩,(h.l5 k).2⟩
def fE(v:af.D):Int:=v.1
def a6(x:aI):Int:=x.1
structure bE(v:af.D):Prop where
 next:2≤fE v∧fE v≤100000
 len:1≤v.2.1.length∧v.2.1.length≤24
 root:a6 (J I v.2.1 0)=1∧kindOf (J I v.2.1 0)=2
 ids:∀i,i<v.2.1.length→1≤a6 (J I v.2.1 i)∧a6 (J I v.2.1 i)≤fE v-1
 Gh:∀i,i+1<v.2.1.length→a6 (J I v.2.1 i)<a6 (J I v.2.1 (i+1))
 ino:∀i,i<v.2.1.length→lq v.2.1 (J I v.2.1 i)
 reach:∀i,1≤i→i<v.2.1.length→dt v.2.1 1 (J I v.2.1 i).1
 once:∀i,1≤i→i<v.2.1.length→kindOf (J I v.2.1 i)=2→cl v.2.1 (J I v.2.1 i).1=1
 bytes:bytesOf v.2.1≤400
 over:gw v.2.1=false
theorem Nn{l:List aI}(h:∀i,i+1<l.length→a6 (J I l i)<a6 (J I l (i+1))):h9 l:=by
 have cw:∀d j,j+d+1<l.length→a6 (J I l j)<a6 (J I l (j+d+1)):=by
  intro d
  induction d with
  | zero=>intro j hj;exact h j hj
  | succ d ih=>intro j hj;exact Int.lt_trans (ih j (by omega)) (h (j+d+1) hj)
 intro x hx
 unfold bd
 rw [iy]
 refine⟨hx,by simp,fun j hj=>?_⟩
 obtain ⟨d,rfl⟩:∃d,x=j+d+1:=⟨x-j-1,by omega⟩
 have:=cw d j hx
 rw [beq_eq_false_iff_ne]
 exact Int.ne_of_lt this
theorem V1{v:af.D}(hn:2≤fE v∧fE v≤100000):fs v.2.1.length (mY v)=true↔(∀i,i<v.2.1.length→1≤a6 (J I v.2.1 i)∧a6 (J I v.2.1 i)≤fE v-1) ∧
  (∀i,i+1<v.2.1.length→a6 (J I v.2.1 i)<a6 (J I v.2.1 (i+1)))∧∀i,i<v.2.1.length→lq v.2.1 (J I v.2.1 i):=by
 rw [lk]
 unfold mY
 rw [show aK (v.1-1)=fE v-1 from ed (a:=fE v-1) (by omega) (by omega)]
 simp only [Bool.and_eq_true,Bool.not_eq_true',Bool.and_eq_false_iff,decide_eq_false_iff_not]
 constructor
 ·intro h
  refine⟨fun i hi=>dR.1 (h i hi).1.1,fun i hi=>?_,fun i hi=>V0.1 (h i hi).2⟩
  rcases (h (i+1) hi).1.2 with h2 | h2
  ·omega
  ·rw [Nat.add_sub_cancel] at h2;exact Int.not_le.1 h2
 ·rintro ⟨h1,h2,h3⟩ i hi
  refine⟨⟨dR.2 (h1 i hi),?_⟩,V0.2 (h3 i hi)⟩
  by_cases h0:0<i
  ·have:=h2 (i-1) (by omega)
   rw [show i-1+1=i by omega] at this
   exact .inr (Int.not_le.2 this)
  ·exact .inl h0
theorem lr{v:af.D} : ki v=true↔bE v:=by
 unfold ki
 simp only [Bool.and_eq_true,beq_iff_eq]
 constructor
 ·rintro ⟨⟨⟨⟨h1,h2⟩,h3⟩,h4⟩,a8⟩
  have h1:=dR.1 h1
  have h2:=dR.1 h2
  by_cases a1:fs v.2.1.length (mY v)=true
  case neg=>rw [Bool.not_eq_true] at a1;rw [a1] at a8;cases a8
  rw [a1] at a8
  obtain ⟨i1,i2,i3⟩:=(V1 h1).1 a1
  have ag:=Nn i2
  by_cases a2:fs (v.2.1.length-1) (kh v.2.1)=true
  case neg=>rw [Bool.not_eq_true] at a2;rw [a2] at a8;cases a8
  rw [a2] at a8
  simp only [cond_true,Bool.and_eq_true,Bool.not_eq_true',decide_eq_true_eq] at a8
  have a2:=lk.1 a2
  unfold kh at a2
  simp only [Bool.and_eq_true,Bool.not_eq_true',Bool.and_eq_false_iff,beq_eq_false_iff_ne,bne_eq_false_iff_eq] at a2
  refine⟨h1,by omega,⟨h3,h4⟩,i1,i2,i3,fun i hi hl=>?_,fun i hi hl hk=>?_,by omega,a8.2⟩
  ·have:=(a2 (i-1) (by omega)).1
   rw [show i-1+1=i by omega] at this
   exact(xH v.2.1 ag 1 hl).1 this
  ·have:=(a2 (i-1) (by omega)).2
   rw [show i-1+1=i by omega] at this
   rcases this with h | h
   ·exact absurd hk h
   ·omega
 ·intro h
  have ag:=Nn h.Gh
  refine⟨⟨⟨⟨dR.2 h.next,dR.2 (by have:=h.len;omega)⟩,h.root.1⟩,h.root.2⟩,?_⟩
  rw [(V1 h.next).2 ⟨h.ids,h.Gh,h.ino⟩]
  have a2:fs (v.2.1.length-1) (kh v.2.1)=true:=by
   rw [lk]
   unfold kh
   simp only [Bool.and_eq_true,Bool.not_eq_true',Bool.and_eq_false_iff,beq_eq_false_iff_ne,bne_eq_false_iff_eq]
   intro i hi
   refine⟨(xH v.2.1 ag 1 (by omega)).2 (h.reach (i+1) (by omega) (by omega)),?_⟩
   by_cases hk:kindOf (J I v.2.1 (i+1))=2
   ·have:=h.once (i+1) (by omega) (by omega) hk
    exact .inr (by rw [this];rfl)
   ·exact .inl hk
  rw [a2]
  simp only [cond_true,Bool.and_eq_true,Bool.not_eq_true',decide_eq_true_eq]
  exact⟨by have:=h.bytes;omega,h.over⟩
structure nY(l:List aI):Prop where
 len:l.length≤1048576
 cG:dy l≤1048576
 ga:h9 l
 gT:q_ l
 bare:∀i,i<l.length→kindOf (J I l i)≠2→ak (J I l i)=[]
 l5:∀i,i<l.length→kindOf (J I l i)=3→jB (bh (J I l i))=true
 root:∃i,bd l 1=some i∧kindOf (J I l i)=2
theorem bE.ga{v:af.D}(h:bE v):h9 v.2.1:=Nn h.Gh
theorem bE.gT{v:af.D}(h:bE v):q_ v.2.1:=fun i hi d ag=>((h.ino i hi).names d ag).2.2
theorem bE.kj{v:af.D}(h:bE v)(hb:vu v):nY v.2.1 :=
 ⟨hb.len,hb.cG,h.ga,h.gT,fun i hi hk=>((h.ino i hi).plain hk).2.2,fun i hi hk=>((h.ino i hi).l5 hk).1,0,by
  have:=h.ga 0 (by have:=h.len;omega)
  rwa [show(J I v.2.1 0).1=1 from h.root.1] at this,h.root.2⟩
def kN(l:List aI)(id:Int):Prop:=∃i,bd l id=some i∧kindOf (J I l i)=2
def ch(r:aV.D):Int:=r.1
def nameOf(r:aV.D):aG:=r.2.1
def bj(r:aV.D):Int:=r.2.2.1
def bC(r:aV.D):Int:=r.2.2.2.1
structure l6(l:List aI)(r:aV.D):Prop where
 there:bC r=0→∃i,bd l (bj r)=some i
 named:bC r=0→nameOf r≠[]→bj r≠0∧iz (nameOf r)=true∧∃d,bd l (ch r)=some d∧kindOf (J I l d)=2∧c6 (ak (J I l d)) (nameOf r)=bj r
 bare:bC r=0→nameOf r=[]→kN l (bj r)
 new:bC r=2→nameOf r≠[]→bj r=0∧iz (nameOf r)=true∧∃d,bd l (ch r)=some d∧kindOf (J I l d)=2∧c6 (ak (J I l d)) (nameOf r)=0
theorem agT(l:List aI){c:Int}(h0:c≠0)(a b:Int)(h2:c≠2∨True):l6 l ((0:Int),([]:aG),(0:Int),c,()) :=
 ⟨fun h=>absurd h h0,fun h=>absurd h h0,fun h=>absurd h h0,fun _ h=>absurd rfl h⟩
def sR(bw:Bool)(l:List aI)(r:aV.D):Prop:=l6 l r∧(bw=true→bC r=0→∀i,bd l (bj r)=some i→kindOf (J I l i)≠3)
theorem xM(bw:Bool)(l:List aI){c:Int}(h0:c≠0)(a b:Int)(h2:c≠2∨True):sR bw l ((0:Int),([]:aG),(0:Int),c,()):=⟨agT l h0 a b h2,fun _ h=>absurd h h0⟩
theorem Au{l:List aI}(h:nY l)(id:Int):kN l (gS l id):=by
 unfold gS
 cases au:sP l id with
 | none=>exact h.root
 | some i =>
  obtain ⟨h1,h2,_⟩:=iy.1 au
  refine⟨i,h.ga i h1,?_⟩
  by_cases hk:kindOf (J I l i)=2
  ·exact hk
  ·have:=h.bare i h1 hk
   rw [this] at h2
   simp [nX,fi] at h2
theorem p3{N:List ay.D}{s:aG}(h:c6 N s≠0):∃d,d∈N∧d.1=s∧d.2.1=c6 N s:=by
 unfold c6 at h ⊢
 cases hf:fi N.length (rb N s) with
 | none=>rw [hf] at h;exact absurd rfl h
 | some j =>
  obtain ⟨h1,h2,_⟩:=iy.1 hf
  exact⟨J ay N j,cJ h1,by unfold rb bs at h2;simpa using h2,rfl⟩
theorem agU{p:aG}(h:sQ p)(h1:bs p [46]=false)(h2:bs p [46,46]=false)(cV:p.length≤8):iz p=true:=by
 have hl:1≤p.length:=by
  rcases Nat.eq_zero_or_pos p.length with h0 | h0
  ·exact absurd (List.length_eq_zero_iff.1 h0) h.1
  ·exact h0
 unfold iz
 rw [h1,h2,lk.2 (fun i hi=>h.2 i hi),dR.2 ⟨by omega,by omega⟩];rfl
theorem V2{L:List aG}{a c:Nat}(h:0<c)(hl:a+c≤L.length):J ad.str L a∈part L a c:=by
 unfold part
 have h1:a<L.length:=by omega
 rw [List.drop_eq_getElem_cons h1,show c=(c-1)+1 by omega,List.take_succ_cons,c8 (t:=.str) h1]
 exact List.mem_cons_self
theorem V3{L:List aG}{a c:Nat} : ∀p,p∈part L (a+1) (c-1)→p∈part L a c:=by
 intro p au
 unfold part at *
 rcases Nat.eq_zero_or_pos c with h | h
 ·subst h;simp at au
 ·rcases Nat.lt_or_ge a L.length with h1 | h1
  ·rw [List.drop_eq_getElem_cons h1,show c=(c-1)+1 by omega,List.take_succ_cons]
   exact List.mem_cons_of_mem _ au
  ·rw [List.drop_of_length_le (by omega)] at au;simp at au
theorem Av{s:aG}(h:jB s=true):1≤s.length∧s.length≤60:=by
 unfold jB at h
 rw [Bool.and_eq_true] at h
 have:=dR.1 h.2
 omega
theorem jq(m:Nat)(U aa ae ai an aB aZ bD b_):(dd (m+1)).bg U aa ae ai an aB aZ bD b_=ix (dd m) U aa ae ai an aB aZ bD b_:=rfl
theorem xN(m:Nat)(U aa ae ai an aB aZ bD b_ er kH kI kb):(dd (m+1)).r' U aa ae ai an aB aZ bD b_ er kH kI kb=sa (dd m) U aa ae ai an aB aZ bD b_ er kH kI kb:=rfl
theorem No(m:Nat)(U aa ae ai an aB aZ bD b_ er):(dd (m+1)).gD U aa ae ai an aB aZ bD b_ er=zg (dd m) U aa ae ai an aB aZ bD b_ er:=rfl
theorem Np(m:Nat)(U aa ae ai an aB aZ bD b_ er kH kI kb):(dd (m+1)).uw U aa ae ai an aB aZ bD b_ er kH kI kb=zh (dd m) U aa ae ai an aB aZ bD b_ er kH kI kb:=rfl
theorem Nq(m:Nat)(U aa ae ai an aB aZ bD b_ er):(dd (m+1)).oJ U aa ae ai an aB aZ bD b_ er=zi (dd m) U aa ae ai an aB aZ bD b_ er:=rfl
theorem m3(x:aI):J I [x] 0=x:=rfl
theorem bW.jump{β : Type}{f g:Nat → β}{B:Nat}(k:Nat){y : β}(h:bW g B y)(hf:∀m,f (m+k)=g m):bW f (B+k) y:=by
 intro m hm
 obtain ⟨j,rfl⟩:∃j,m=j+k:=⟨m-k,by omega⟩
 rw [hf];exact h j (by omega)
theorem bW.now{β : Type}{f:Nat → β}(k:Nat){y : β}(hf:∀m,f (m+k)=y):bW f k y:=by
 intro m hm
 obtain ⟨j,rfl⟩:∃j,m=j+k:=⟨m-k,by omega⟩
 exact hf j
theorem agV(v:af.D)(c:aH.D)(hw:nY v.2.1)(hc:c9 c=true)(bw:Bool)(z:aV.D):∀(n:Nat) (at_:Int) (k:Nat) (L:List aG) (a bP:Nat),(8-k)*100+bP≤n→k≤8→a+bP≤L.length→bP≤100→(∀p,p∈part L a bP→sQ p)→kN v.2.1 at_ →
  ∃r,sR bw v.2.1 r∧bW (fun m=>gu m v bw a bP at_ (k:Int) c z L) (n+2) (some (r,()))∧bW (fun m=>(dd m).bg bw a bP at_ (k:Int) v c z L) (5*n+5) (some (r,())):=by
 intro n
 induction n with
 | zero =>
  intro at_ k L a bP hn hk hl Nr au ck
  have h0:bP=0:=by omega
  subst h0
  obtain ⟨d,ag,fx⟩:=ck
  refine⟨((0:Int),([]:aG),at_,(0:Int),()),⟨⟨fun _=>⟨d,ag⟩,fun _ h=>absurd rfl h,fun _ _=>⟨d,ag,fx⟩,fun _ h=>absurd rfl h⟩,fun _ _ e he=>by rw [show bj (((0:Int),([]:aG),at_,(0:Int),()):aV.D)=at_ from rfl,ag] at he;rw [← aU he,fx];decide⟩,(bW.now 1 fun m=>?_).mono (by omega),(bW.now 1 fun m=>?_).mono (by omega)⟩
  ·simp only [gu,l0];rfl
  ·rw [jq];unfold ix;rfl
 | succ n ih =>
  intro at_ k L a bP hn hk hl Nr au ck
  rcases Nat.eq_zero_or_pos bP with h0 | h0
  ·subst h0
   obtain ⟨d,ag,fx⟩:=ck
   refine⟨((0:Int),([]:aG),at_,(0:Int),()),⟨⟨fun _=>⟨d,ag⟩,fun _ h=>absurd rfl h,fun _ _=>⟨d,ag,fx⟩,fun _ h=>absurd rfl h⟩,fun _ _ e he=>by rw [show bj (((0:Int),([]:aG),at_,(0:Int),()):aV.D)=at_ from rfl,ag] at he;rw [← aU he,fx];decide⟩,(bW.now 1 fun m=>?_).mono (by omega),(bW.now 1 fun m=>?_).mono (by omega)⟩
   ·simp only [gu,l0];rfl
   ·rw [jq];unfold ix;rfl
  obtain ⟨d,ag,fx⟩:=ck
  have hdl:=bY ag
  have hH:(ak (J I v.2.1 d)).length≤1048576:=Nat.le_trans (fN hdl.1) hw.cG
  have mC:=au _ (V2 h0 hl)
  have fa:∀p,p∈part L (a+1) (bP-1)→sQ p:=fun p h=>au p (V3 p h)
  have eN:aO bP 0=some 0:=bB (i:=0) h0
  have fQ:du bP 1 (bP:Int)=some (1,bP):=iW (lo:=1) h0 (Nat.le_refl _)
  have eY:decide ((bP:Int)>0)=true:=decide_eq_true (by omega)
  have ia:=m1 v at_ hw.len ag
  have nZ:=Ar c (J I v.2.1 d) 1 hc
  have kk:=m0 c (J I v.2.1 d) 1 hc
  have agW:=VN v at_ hw.len hw.cG
  have Ns:=Ni v at_ hw.len hw.cG
  have kl:jQ (v,at_,())=some ((d:Int),()):=by rw [l3 v at_ hw.len,ag];rfl
  have km:aO v.2.1.length (d:Int)=some d:=bB hdl.1
  have sS:=VM (J I v.2.1 d) (J ad.str L a) hH
  have re:=VL v at_ (J ad.str L a) hw.len ag hH
  cases hm:may c (J I v.2.1 d) 1 with
  | false =>
   refine⟨((0:Int),([]:aG),(0:Int),(13:Int),()),xM bw _ (by decide) 0 0 (.inr trivial),(bW.now 1 fun m=>?_).mono (by omega),(bW.now 1 fun m=>?_).mono (by omega)⟩
   ·rw [gu,l0]
    simp -index only [eY,eN,fQ,ia,m3,nZ,hm,cond_true,cond_false,av,Bool.not_true,Bool.not_false,List.isEmpty_cons]
   ·rw [jq];unfold ix
    simp only [eY,eN,fQ,kl,km,kk,hm,cond_true,cond_false,av,Bool.not_true,Bool.not_false]
  | true =>
  cases h1:bs (J ad.str L a) [46] with
  | true =>
   obtain ⟨r,bz,cc,gj⟩:=ih at_ k L (a+1) (bP-1) (by omega) hk (by omega) (by omega) fa ⟨d,ag,fx⟩
   refine⟨r,bz,(cc.jump (f:=fun m=>gu m v bw a bP at_ (k:Int) c z L) 1 fun m=>?_).mono (by omega),(gj.jump (f:=fun m=>(dd m).bg bw a bP at_ (k:Int) v c z L) 1 fun m=>?_).mono (by omega)⟩
   ·rw [gu,l0]
    simp -index only [eY,eN,fQ,ia,m3,nZ,hm,h1,cond_true,cond_false,av,Bool.not_true,Bool.not_false,List.isEmpty_cons,Nat.add_zero]
   ·rw [jq];unfold ix
    simp only [eY,eN,fQ,kl,km,kk,hm,h1,cond_true,cond_false,av,Bool.not_true,Bool.not_false,Nat.add_zero]
  | false =>
  cases h2:bs (J ad.str L a) [46,46] with
  | true =>
   obtain ⟨r,bz,cc,gj⟩:=ih (gS v.2.1 at_) k L (a+1) (bP-1) (by omega) hk (by omega) (by omega) fa (Au hw _)
   refine⟨r,bz,(cc.jump (f:=fun m=>gu m v bw a bP at_ (k:Int) c z L) 1 fun m=>?_).mono (by omega),(gj.jump (f:=fun m=>(dd m).bg bw a bP at_ (k:Int) v c z L) 1 fun m=>?_).mono (by omega)⟩
   ·rw [gu,l0]
    simp -index only [eY,eN,fQ,ia,m3,nZ,hm,h1,h2,agW,cond_true,cond_false,av,Bool.not_true,Bool.not_false,List.isEmpty_cons,Nat.add_zero]
   ·rw [jq];unfold ix
    simp only [eY,eN,fQ,kl,km,kk,hm,h1,h2,Ns,cond_true,cond_false,av,Bool.not_true,Bool.not_false,Nat.add_zero]
  | false =>
  cases cV:decide (((J ad.str L a).length:Int)>8) with
  | true =>
   refine⟨((0:Int),([]:aG),(0:Int),(36:Int),()),xM bw _ (by decide) 0 0 (.inr trivial),(bW.now 1 fun m=>?_).mono (by omega),(bW.now 1 fun m=>?_).mono (by omega)⟩
   ·rw [gu,l0]
    simp -index only [eY,eN,fQ,ia,m3,nZ,hm,h1,h2,cV,cond_true,cond_false,av,Bool.not_true,Bool.not_false,List.isEmpty_cons,Nat.add_zero]
   ·rw [jq];unfold ix
    simp only [eY,eN,fQ,kl,km,kk,hm,h1,h2,cV,cond_true,cond_false,av,Bool.not_true,Bool.not_false,Nat.add_zero]
  | false =>
  have jg:iz (J ad.str L a)=true:=agU mC h1 h2 (by
   have:=of_decide_eq_false cV
   have h:¬((J ad.str L a).length:Int)>8:=this
   omega)
  cases hM:c6 (ak (J I v.2.1 d)) (J ad.str L a)==0 with
  | true =>
   cases gx:((bP-1:Nat):Int)==0 with
   | true =>
    refine⟨(at_,J ad.str L a,(0:Int),(2:Int),()),⟨⟨fun h=>(by cases h),fun h=>(by cases h),fun h=>(by cases h),fun _ _=>⟨rfl,jg,d,ag,fx,beq_iff_eq.1 hM⟩⟩,fun _ h=>(by cases h)⟩,(bW.now 1 fun m=>?_).mono (by omega),(bW.now 1 fun m=>?_).mono (by omega)⟩
    ·rw [gu,l0]
     simp -index only [eY,eN,fQ,ia,m3,nZ,hm,h1,h2,cV,sS,hM,gx,cond_true,cond_false,av,Bool.not_true,Bool.not_false,List.isEmpty_cons,Nat.add_zero]
    ·rw [jq];unfold ix
     simp only [eY,eN,fQ,kl,km,kk,hm,h1,h2,cV,re,hM,gx,cond_true,cond_false,av,Bool.not_true,Bool.not_false,Nat.add_zero]
   | false =>
    refine⟨((0:Int),([]:aG),(0:Int),(2:Int),()),⟨⟨fun h=>(by cases h),fun h=>(by cases h),fun h=>(by cases h),fun _ h=>absurd rfl h⟩,fun _ h=>(by cases h)⟩,(bW.now 1 fun m=>?_).mono (by omega),(bW.now 1 fun m=>?_).mono (by omega)⟩
    ·rw [gu,l0]
     simp -index only [eY,eN,fQ,ia,m3,nZ,hm,h1,h2,cV,sS,hM,gx,cond_true,cond_false,av,Bool.not_true,Bool.not_false,List.isEmpty_cons,Nat.add_zero]
    ·rw [jq];unfold ix
     simp only [eY,eN,fQ,kl,km,kk,hm,h1,h2,cV,re,hM,gx,cond_true,cond_false,av,Bool.not_true,Bool.not_false,Nat.add_zero]
  | false =>
  obtain ⟨e,he,Nt,oz⟩:=p3 (N:=ak (J I v.2.1 d)) (s:=J ad.str L a) (by simpa using hM)
  obtain ⟨i2,fo⟩:=Option.isSome_iff_exists.1 (hw.gT d hdl.1 e he)
  rw [oz] at fo
  have p4:=bY fo
  have xO:=m1 v _ hw.len fo
  have xP:jQ (v,c6 (ak (J I v.2.1 d)) (J ad.str L a),())=some ((i2:Int),()):=by rw [l3 v _ hw.len,fo];rfl
  have xQ:aO v.2.1.length (i2:Int)=some i2:=bB p4.1
  have V4:((J I v.2.1 i2).2.1==3)=true→(!(((bP-1:Nat):Int)==0)||bw)=true→∃r,sR bw v.2.1 r∧bW (fun m=>gu m v bw a bP at_ (k:Int) c z L) (n+1+2) (some (r,()))∧bW (fun m=>(dd m).bg bw a bP at_ (k:Int) v c z L) (5*(n+1)+5) (some (r,())):=by
   intro gU jY
   have Aw:=hw.l5 i2 p4.1 (beq_iff_eq.1 gU)
   have p5:=Av Aw
   have sU:aO ((J I v.2.1 i2).2.2.2.2.2.1).length 0=some 0:=bB (i:=0) p5.1
   have Gi:sx ((J I v.2.1 i2).2.2.2.2.2.1,())=some (cut (bh (J I v.2.1 i2)),()):=VW _ (Nat.le_trans p5.2 (by omega))
   have Gj:xa ((J I v.2.1 i2).2.2.2.2.2.1,())=some (cut (bh (J I v.2.1 i2)),()):=Gc _ (Nat.le_trans p5.2 (by omega))
   have hcl:=Gd (bh (J I v.2.1 i2))
   have fH:(part L (a+1) (bP-1)).length≤100:=by unfold part;rw [List.length_take];omega
   have hroom:room ((cut (bh (J I v.2.1 i2))).length +(part L (a+1) (bP-1)).length)=true:=cH (by omega)
   have iv:=Ge Aw
   generalize p6:cut (bh (J I v.2.1 i2))++part L (a+1) (bP-1)=fy at *
   have Nu:∀p,p∈fy→sQ p:=by
    intro p kz
    rw [← p6] at kz
    rcases List.mem_append.1 kz with h | h
    ·exact iv p h
    ·exact fa p h
   obtain ⟨at',Nv,rf,m4⟩:∃at',kN v.2.1 at'∧(∀m,gu (m+1) v bw a bP at_ (k:Int) c z L=cond ((k:Int)==8) (some (((0:Int),([]:aG),(0:Int),(40:Int),()),()))
      (cond (decide ((fy.length:Int)>40)) (some (((0:Int),([]:aG),(0:Int),(36:Int),()),())) (gu m v bw 0 fy.length at' (aK ((k:Int)+1)) c z fy))) ∧
     ∀m,(dd (m+4)).bg bw a bP at_ (k:Int) v c z L=cond (decide (aK ((k:Int)+1)>8)) (some (((0:Int),([]:aG),(0:Int),(40:Int),()),()))
      (cond (decide ((fy.length:Int)>40)) (some (((0:Int),([]:aG),(0:Int),(36:Int),()),())) ((dd m).bg bw 0 fy.length at' (aK ((k:Int)+1)) v c z fy)):=by
    cases hb:((((J I v.2.1 i2).2.2.2.2.2.1).getD 0 0).toNat:Int)==47 with
    | false =>
     refine⟨at_,⟨d,ag,fx⟩,fun m=>?_,fun m=>?_⟩
     ·rw [gu,l0]
      cases gx:((bP-1:Nat):Int)==0 with
      | false =>
       simp -index only [eY,eN,fQ,ia,m3,nZ,hm,h1,h2,cV,sS,hM,xO,gU,gx,sU,hb,Gi,hroom,p6,SO,cond_true,cond_false,av,Bool.not_true,Bool.not_false,List.isEmpty_cons,Nat.add_zero]
      | true =>
       rw [gx] at jY
       have jY:bw=true:=jY
       simp -index only [eY,eN,fQ,ia,m3,nZ,hm,h1,h2,cV,sS,hM,xO,gU,gx,jY,sU,hb,Gi,hroom,p6,SQ,cond_true,cond_false,av,Bool.not_true,Bool.not_false,List.isEmpty_cons,Nat.add_zero]
     ·rw [jq];unfold ix
      simp only [eY,eN,fQ,kl,km,kk,hm,h1,h2,cV,re,hM,ji,xP,xQ,cond_true,cond_false,av,Bool.not_true,Bool.not_false,Nat.add_zero]
      rw [xN];unfold sa
      have:(cond (!(((bP-1:Nat):Int)==0)) ((dd (m+2)).gD bw (a+1) (bP-1) at_ (k:Int) v c z L (J I v.2.1 i2)) (cond bw ((dd (m+2)).gD bw (a+1) (bP-1) at_ (k:Int) v c z L (J I v.2.1 i2)) ((dd (m+2)).uw bw (a+1) (bP-1) at_ (k:Int) (J ad.str L a) (((bP-1:Nat):Int)==0) (c6 (ak (J I v.2.1 d)) (J ad.str L a)) v c z L (J I v.2.1 i2))))=(dd (m+2)).gD bw (a+1) (bP-1) at_ (k:Int) v c z L (J I v.2.1 i2):=by
       revert jY
       cases ((bP-1:Nat):Int)==0 <;> cases bw <;> intro jY <;> first | rfl | cases jY
      rw [gU]
      simp only [cond_true]
      refine this.trans ?_
      rw [No];unfold zg
      rw [sU]
      simp only [av,hb,cond_false]
      rw [Nq];unfold zi
      rw [Gj]
      simp only [av,hroom,cond_true,p6]
    | true =>
     refine⟨1,hw.root,fun m=>?_,fun m=>?_⟩
     ·rw [gu,l0]
      cases gx:((bP-1:Nat):Int)==0 with
      | false =>
       simp -index only [eY,eN,fQ,ia,m3,nZ,hm,h1,h2,cV,sS,hM,xO,gU,gx,sU,hb,Gi,hroom,p6,SN,cond_true,cond_false,av,Bool.not_true,Bool.not_false,List.isEmpty_cons,Nat.add_zero]
      | true =>
       rw [gx] at jY
       have jY:bw=true:=jY
       simp -index only [eY,eN,fQ,ia,m3,nZ,hm,h1,h2,cV,sS,hM,xO,gU,gx,jY,sU,hb,Gi,hroom,p6,SP,cond_true,cond_false,av,Bool.not_true,Bool.not_false,List.isEmpty_cons,Nat.add_zero]
     ·rw [jq];unfold ix
      simp only [eY,eN,fQ,kl,km,kk,hm,h1,h2,cV,re,hM,ji,xP,xQ,cond_true,cond_false,av,Bool.not_true,Bool.not_false,Nat.add_zero]
      rw [xN];unfold sa
      have:(cond (!(((bP-1:Nat):Int)==0)) ((dd (m+2)).gD bw (a+1) (bP-1) at_ (k:Int) v c z L (J I v.2.1 i2)) (cond bw ((dd (m+2)).gD bw (a+1) (bP-1) at_ (k:Int) v c z L (J I v.2.1 i2)) ((dd (m+2)).uw bw (a+1) (bP-1) at_ (k:Int) (J ad.str L a) (((bP-1:Nat):Int)==0) (c6 (ak (J I v.2.1 d)) (J ad.str L a)) v c z L (J I v.2.1 i2))))=(dd (m+2)).gD bw (a+1) (bP-1) at_ (k:Int) v c z L (J I v.2.1 i2):=by
       revert jY
       cases ((bP-1:Nat):Int)==0 <;> cases bw <;> intro jY <;> first | rfl | cases jY
      rw [gU]
      simp only [cond_true]
      refine this.trans ?_
      rw [No];unfold zg
      rw [sU]
      simp only [av,hb,cond_true]
      rw [Nq];unfold zi
      rw [Gj]
      simp only [av,hroom,cond_true,p6]
   have b8:aK ((k:Int)+1)=((k+1:Nat):Int):=de k (by omega)
   rw [b8] at rf m4
   rcases Nat.lt_or_ge k 8 with Gk | Gk
   ·rw [show((k:Int)==8)=false by simp;omega] at rf
    rw [show decide (((k+1:Nat):Int)>8)=false from decide_eq_false (by omega)] at m4
    simp only [cond_false] at rf m4
    cases vw:decide ((fy.length:Int)>40) with
    | true =>
     rw [vw] at rf m4
     refine⟨((0:Int),([]:aG),(0:Int),(36:Int),()),xM bw _ (by decide) 0 0 (.inr trivial),(bW.now 1 fun m=>rf m).mono (by omega),(bW.now 4 fun m=>m4 m).mono (by omega)⟩
    | false =>
     rw [vw] at rf m4
     have vw:=of_decide_eq_false vw
     obtain ⟨r,bz,cc,gj⟩:=ih at' (k+1) fy 0 fy.length (by omega) (by omega) (by omega) (by omega) (by rw [xE];exact Nu) Nv
     exact⟨r,bz,(cc.jump (f:=fun m=>gu m v bw a bP at_ (k:Int) c z L) 1 fun m=>rf m).mono (by omega),(gj.jump (f:=fun m=>(dd m).bg bw a bP at_ (k:Int) v c z L) 4 fun m=>m4 m).mono (by omega)⟩
   ·rw [show((k:Int)==8)=true by simp;omega] at rf
    rw [show decide (((k+1:Nat):Int)>8)=true from decide_eq_true (by omega)] at m4
    refine⟨((0:Int),([]:aG),(0:Int),(40:Int),()),xM bw _ (by decide) 0 0 (.inr trivial),(bW.now 1 fun m=>rf m).mono (by omega),(bW.now 4 fun m=>m4 m).mono (by omega)⟩
  have bS:(bw=true→kindOf (J I v.2.1 i2)≠3)→(∀m,gu (m+1) v bw a bP at_ (k:Int) c z L=cond (((bP-1:Nat):Int)==0) (some ((at_,J ad.str L a,c6 (ak (J I v.2.1 d)) (J ad.str L a),(0:Int),()),()))
     (cond ((J I v.2.1 i2).2.1 != 2) (some (((0:Int),([]:aG),(0:Int),(20:Int),()),())) (gu m v bw (a+1) (bP-1) (c6 (ak (J I v.2.1 d)) (J ad.str L a)) (k:Int) c z L))) →
    (∀m,(dd (m+3)).bg bw a bP at_ (k:Int) v c z L=cond (((bP-1:Nat):Int)==0) (some ((at_,J ad.str L a,c6 (ak (J I v.2.1 d)) (J ad.str L a),(0:Int),()),()))
     (cond ((J I v.2.1 i2).2.1 != 2) (some (((0:Int),([]:aG),(0:Int),(20:Int),()),())) ((dd m).bg bw (a+1) (bP-1) (c6 (ak (J I v.2.1 d)) (J ad.str L a)) (k:Int) v c z L))) →
    ∃r,sR bw v.2.1 r∧bW (fun m=>gu m v bw a bP at_ (k:Int) c z L) (n+1+2) (some (r,()))∧bW (fun m=>(dd m).bg bw a bP at_ (k:Int) v c z L) (5*(n+1)+5) (some (r,())):=by
   intro hnl g1 g2
   cases gx:((bP-1:Nat):Int)==0 with
   | true =>
    refine⟨(at_,J ad.str L a,c6 (ak (J I v.2.1 d)) (J ad.str L a),(0:Int),()),⟨⟨fun _=>⟨i2,fo⟩,fun _ _=>⟨beq_eq_false_iff_ne.1 hM,jg,d,ag,fx,rfl⟩,fun _ h=>absurd h mC.1,fun h=>(by cases h)⟩,fun hf _ e he=>by rw [show bj ((at_,J ad.str L a,c6 (ak (J I v.2.1 d)) (J ad.str L a),(0:Int),()):aV.D)=c6 (ak (J I v.2.1 d)) (J ad.str L a) from rfl,fo] at he;rw [← aU he];exact hnl hf⟩,(bW.now 1 fun m=>?_).mono (by omega),(bW.now 3 fun m=>?_).mono (by omega)⟩
    ·rw [g1,gx];rfl
    ·rw [g2,gx];rfl
   | false =>
    rw [gx] at g1 g2
    simp only [cond_false] at g1 g2
    by_cases hk2:kindOf (J I v.2.1 i2)=2
    ·obtain ⟨r,bz,cc,gj⟩:=ih (c6 (ak (J I v.2.1 d)) (J ad.str L a)) k L (a+1) (bP-1) (by omega) hk (by omega) (by omega) fa ⟨i2,fo,hk2⟩
     refine⟨r,bz,(cc.jump (f:=fun m=>gu m v bw a bP at_ (k:Int) c z L) 1 fun m=>?_).mono (by omega),(gj.jump (f:=fun m=>(dd m).bg bw a bP at_ (k:Int) v c z L) 3 fun m=>?_).mono (by omega)⟩
     ·rw [g1,dk (show(J I v.2.1 i2).2.1=2 from hk2)];rfl
     ·rw [g2,dk (show(J I v.2.1 i2).2.1=2 from hk2)];rfl
    ·refine⟨((0:Int),([]:aG),(0:Int),(20:Int),()),xM bw _ (by decide) 0 0 (.inr trivial),(bW.now 1 fun m=>?_).mono (by omega),(bW.now 3 fun m=>?_).mono (by omega)⟩
     ·rw [g1,cP (show ¬(J I v.2.1 i2).2.1=2 from hk2)];rfl
     ·rw [g2,cP (show ¬(J I v.2.1 i2).2.1=2 from hk2)];rfl
  cases gU:(J I v.2.1 i2).2.1==3 with
  | true =>
   cases gx:((bP-1:Nat):Int)==0 with
   | false=>exact V4 gU (by rw [gx];rfl)
   | true =>
    cases bw with
    | true=>exact V4 gU (by rw [gx];rfl)
    | false =>
     refine bS (fun h=>by cases h) (fun m=>?_) (fun m=>?_)
     ·rw [gu,l0]
      simp -index only [eY,eN,fQ,ia,m3,nZ,hm,h1,h2,cV,sS,hM,xO,gU,gx,cond_true,cond_false,av,Bool.not_true,Bool.not_false,List.isEmpty_cons,Nat.add_zero]
     ·rw [jq];unfold ix
      simp only [eY,eN,fQ,kl,km,kk,hm,h1,h2,cV,re,hM,ji,xP,xQ,gx,cond_true,cond_false,av,Bool.not_true,Bool.not_false,Nat.add_zero]
      rw [xN];unfold sa
      simp only [gU,cond_true,cond_false,Bool.not_true,Bool.not_false]
      rw [Np];unfold zh;rfl
  | false =>
   refine bS (fun _=>beq_eq_false_iff_ne.1 gU) (fun m=>?_) (fun m=>?_)
   ·rw [gu,l0]
    simp -index only [eY,eN,fQ,ia,m3,nZ,hm,h1,h2,cV,sS,hM,xO,gU,cond_true,cond_false,av,Bool.not_true,Bool.not_false,List.isEmpty_cons,Nat.add_zero]
   ·rw [jq];unfold ix
    simp only [eY,eN,fQ,kl,km,kk,hm,h1,h2,cV,re,hM,ji,xP,xQ,cond_true,cond_false,av,Bool.not_true,Bool.not_false,Nat.add_zero]
    rw [xN];unfold sa
    simp only [gU,cond_true,cond_false]
    rw [Np];unfold zh;rfl
theorem V5(v:af.D)(c:aH.D)(path:aG)(bw:Bool)(hw:nY v.2.1)(hc:c9 c=true)(au:o1 path=true) :
  ∃r,sR bw v.2.1 r∧K2 (v,c,path,bw,())=some (r,())∧C7 (v,c,path,bw,())=some (r,()):=by
 unfold o1 at au
 rw [Bool.and_eq_true] at au
 have p5:=Av au.1
 have hcl:=Gd path
 obtain ⟨r,bz,cc,gj⟩:=agV v c hw hc bw ((0:Int),([]:aG),(0:Int),(0:Int),()) 900 1 0 (cut path) 0 (cut path).length (by omega) (by omega) (by omega) (by omega) (by rw [xE];exact Ge au.1) hw.root
 refine⟨r,bz,?_,?_⟩
 ·show EN (gu aQ) v c path bw=_
  unfold EN
  rw [VW path (by omega)]
  exact kL cc (by omega)
 ·show xb (dd aQ) v c path bw=_
  unfold xb
  rw [Gc path (by omega)]
  exact kL gj (by omega)
end Go.LM.kF
