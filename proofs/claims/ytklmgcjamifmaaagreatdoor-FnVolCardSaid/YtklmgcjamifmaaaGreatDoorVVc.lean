/- Volumes: both sides are the same plain functions. Conditions: each theorem's own hypotheses. -/
import Derived.Test.YtklmgcjamifmaaaGreatDoorVLmd
import Derived.Test.YtklmgcjamifmaaaGreatDoorVVa
set_option linter.unusedVariables false
set_option linter.unusedSimpArgs false
namespace Go.LM
theorem qB:aP=18446744073709551616:=by unfold aP;rfl
theorem ck{i n:Nat}(h:i<n):decide ((i:Int)<(n:Int))=true:=by simp;omega
theorem cG{i n:Nat}(h:n≤i):decide ((i:Int)<(n:Int))=false:=by simp;omega
theorem iY{p:Prop}[Decidable p](h:¬p):decide p=false:=by simp [h]
theorem mi{p:Prop}[Decidable p](h:p):decide p=true:=by simp [h]
theorem fuel{k m:Nat}(h:k<m):∃q,m=q+1∧k≤q:=⟨m-1,by omega,by omega⟩
mutual
def ad.cost:(t:ad)→t.D→Nat
 | .raw,_=>0
 | .int _,_=>0
 | .bool,_=>0
 | .str,x=>List.length x
 | .sl t,xs=>List.length xs +(xs.map fun y=>t.cost y).sum
 | .st aj,x=>aj.cost x
def ax.cost:(aj:ax)→aj.D→Nat
 | .nil,_=>0
 | .cons t aj,x=>t.cost x.1+aj.cost x.2
end
mutual
def ad.wt:(t:ad)→t.D→Nat
 | .raw,_=>1
 | .int _,_=>1
 | .bool,_=>1
 | .str,_=>1
 | .sl t,xs=>(xs.map fun y=>t.wt y).sum
 | .st aj,x=>aj.wt x
def ax.wt:(aj:ax)→aj.D→Nat
 | .nil,_=>0
 | .cons t aj,x=>t.wt x.1+aj.wt x.2
end
theorem T1{α : Type}{f : α → Nat}{y : α} : ∀ {l:List α},y∈l→f y≤(l.map f).sum
 | x :: l,h=>by
  rcases List.mem_cons.1 h with rfl | h
  ·simp
  ·have:=T1 (f:=f) h;simp;omega
theorem T2{t:ad}(l:List t.D):l.length≤ad.cost (.sl t) l:=by simp only [ad.cost];omega
theorem aeT{t:ad}{l:List t.D}{i:Nat}(h:i<l.length):J t l i∈l:=by rw [u2 h];exact List.getElem_mem h
theorem aeU{t:ad}{l:List t.D}{i:Nat}(h:i<l.length):l.length+t.cost (J t l i)≤ad.cost (.sl t) l:=by
 simp only [ad.cost]
 have:=T1 (f:=fun y=>t.cost y) (aeT h)
 omega
theorem drop_cons{t:ad}{l:List t.D}{i:Nat}(h:i<l.length):l.drop i=J t l i :: l.drop (i+1):=by
 rw [u2 h];exact List.drop_eq_getElem_cons h
theorem T3{t:ad}{x:List t.D} : ad.cost (.sl t) x=x.length +(x.map fun y=>t.cost y).sum:=by simp only [ad.cost]
theorem LV{aj:ax}{x:aj.D} : ad.cost (.st aj) x=aj.cost x:=by simp only [ad.cost]
theorem LW{t:ad}{aj:ax}{x:(ax.cons t aj).D} : ax.cost (.cons t aj) x=t.cost x.1+aj.cost x.2:=by simp only [ax.cost]
theorem LX{x:ax.nil.D} : ax.cost .nil x=0:=by simp only [ax.cost]
theorem LY{k:IntKind}{x:Int} : ad.cost (.int k) x=0:=by simp only [ad.cost]
theorem T4{x:Bool} : ad.cost .bool x=0:=by simp only [ad.cost]
theorem T5{x:List UInt8} : ad.cost .str x=x.length:=by simp only [ad.cost]
section
variable{mt:Int→List UInt8}{k k':Int}
end
theorem zs{α : Type}{f g : α → Nat}(M:Nat):∀(l:List α),(∀y,y∈l→f y≤M*(1+g y))→(l.map f).sum≤M*(l.length +(l.map g).sum)
 | [],_=>by simp
 | y :: l,h=>by
  have h1:=h y List.mem_cons_self
  have h2:=zs M l fun z hz=>h z (List.mem_cons_of_mem _ hz)
  simp only [List.map_cons,List.sum_cons,List.length_cons]
  have:M*(l.length+1 +(g y +(l.map g).sum))=M*(1+g y)+M*(l.length +(l.map g).sum):=by rw [← Nat.mul_add];congr 1;omega
  omega
theorem iZ{n:Nat}(h:n≤4611686018427387904):n<aP:=by rw [qB];omega
theorem mj{β : Type}(n:Nat)(hn:n≤4611686018427387904)(L:Nat→Int → β)(G:Nat → β)(Inv:Nat→Prop)
  (h0:∀m,Inv n→L (m+1) (n:Int)=G n)
  (hs:∀m (i:Nat),i<n→Inv i→aH ((i:Int)+1)=(i:Int)+1→(Inv (i+1)→L m ((i:Int)+1)=G (i+1))→L (m+1) (i:Int)=G i) :
  ∀(r i m:Nat),i+r=n→r<m→Inv i→L m (i:Int)=G i:=by
 intro r
 induction r with
 | zero =>
  intro i m hi hm hv
  obtain ⟨m,rfl,_⟩:=fuel hm
  have:i=n:=by omega
  subst this
  exact h0 m hv
 | succ r ih =>
  intro i m hi hm hv
  obtain ⟨m,rfl,hq⟩:=fuel hm
  refine hs m i (by omega) hv (sy (by omega) (by omega)) fun kZ=>?_
  have:=ih (i+1) m (by omega) (by omega) kZ
  simpa only [Int.natCast_add,Int.cast_ofNat_Int] using this
theorem i_(k:Nat)(h:k≤1000:=by omega):∃q,aP=q+k∧4611686018427387904<q:=⟨aP-k,by rw [qB];omega,by rw [qB];omega⟩
theorem ml{α : Type}(a:Bool)(x y : α):cond a (some (x,())) (some (y,()))=some (cond a x y,()):=by cases a <;> rfl
def c3(x lo hi:Int):Bool:=decide (lo≤x)&&decide (x≤hi)
theorem dG{x lo hi:Int} : c3 x lo hi=true↔lo≤x∧x≤hi:=by simp [c3]
theorem T6(a b:Bool):cond a b false=(a&&b):=by cases a <;> rfl
theorem aeV(a b:Int):jk a b=min a b:=by unfold jk;omega
theorem T7{s:List UInt8} : bu s []=decide (s.length=0):=by cases s <;> simp [bu]
theorem c0{x y:Int}(h:x≠y):(x != y)=true:=by simp [h]
theorem dH{x y:Int}(h:x=y):(x != y)=false:=by simp [h]
theorem cB{x y:Int}(h:x=y):(x==y)=true:=by simp [h]
theorem bG{x y:Int}(h:x≠y):(x==y)=false:=by simp [h]
theorem cE{n:Nat}(h:n≤68719476736):room n=true:=aah h
theorem T8{α : Type}(l:List α):part l 0 l.length=l:=by simp [part]
theorem LZ{α : Type}(l:List α)(n:Nat):part l n (l.length-n)=l.drop n:=by
 unfold part;rw [List.take_of_length_le (by simp)]
theorem zt{α : Type}(l:List α)(n:Nat):part l 0 n=l.take n:=by simp [part]
end Go.LM
namespace Go.LM.kb
theorem jy(x a b:Int):eg (x,a,b,())=some (c3 x a b,()):=by
 show I5 x a b=_
 unfold I5 c3
 by_cases h:a≤x <;> simp [h]
theorem i'(x a b:Int):eG (x,a,b,())=some (c3 x a b,()):=by
 show JY x a b=_
 unfold JY c3
 by_cases h:a≤x <;> simp [h]
theorem dI{a:Int}(h : -4000000000000000000≤a)(h':a≤4000000000000000000):aH a=a:=sy (by omega) (by omega)
def fe(n:Nat)(P:Nat→Bool):Bool:=(List.range n).all P
theorem kI{n:Nat}{P:Nat→Bool} : fe n P=true↔∀i,i<n→P i=true:=by simp [fe,List.all_eq_true]
open Classical in
theorem r6(n:Nat)(hn:n≤4611686018427387904)(P:Nat→Bool)(E:Bool)(L:Nat→Int→Option (Bool×Unit))
  (h0:∀m,(∀j,j<n→P j=true)→L (m+1) (n:Int)=some (E,()))
  (hs:∀m (i:Nat),i<n→(∀j,j<i→P j=true)→aH ((i:Int)+1)=(i:Int)+1→L (m+1) (i:Int)=cond (P i) (L m ((i:Int)+1)) (some (false,())))
  (q:Nat:=aP) (hq:n<q:=by exact iZ (by omega)):L q 0=some (fe n P&&E,()):=by
 have:=mj n hn L (fun i=>some (decide (∀j,i≤j→j<n→P j=true)&&E,())) (fun i=>∀j,j<i→P j=true) (fun m hi=>by
  rw [h0 m hi]
  rw [decide_eq_true (by intro j h1 h2;omega)];rfl) (fun m i hi hinv hw ih=>by
  rw [hs m i hi hinv hw]
  cases au:P i
  ·simp only [cond_false]
   rw [decide_eq_false (fun h=>by have:=h i (Nat.le_refl _) hi;rw [au] at this;cases this)];rfl
  ·simp only [cond_true]
   rw [ih (fun j hj=>by
    by_cases h:j=i
    ·subst h;exact au
    ·exact hinv j (by omega))]
   congr 3
   apply decide_eq_decide.2
   constructor
   ·intro h j h1 h2
    by_cases lk:j=i
    ·subst lk;exact au
    ·exact h j (by omega) h2
   ·intro h j h1 h2;exact h j (by omega) h2) n 0 q (by omega) hq (by intro j hj;omega)
 rw [Int.natCast_zero] at this
 rw [this]
 congr 3
 rw [Bool.eq_iff_iff,kI,decide_eq_true_eq]
 exact⟨fun h i hi=>h i (by omega) hi,fun h i _ hi=>h i hi⟩
theorem nh{α : Type}(a:Bool)(x y : α):cond (!a) x y=cond a y x:=by cases a <;> rfl
theorem L0{α : Type}(a b:Bool)(x y : α):cond (a&&b) x y=cond a (cond b x y) y:=by cases a <;> rfl
theorem E7{α : Type}(a b:Bool)(x y : α):cond (a||b) x y=cond a x (cond b x y):=by cases a <;> rfl
theorem L1{n i:Nat}(h:i+1<n)(hn:n≤4000000000000000000):aN n (aH (((i+1:Nat):Int)-1))=some i:=by
 rw [dI (by omega) (by omega),show((i+1:Nat):Int)-1=(i:Int) by omega,bx (by omega)]
theorem L2:decide (((0:Nat):Int)>0)=false:=rfl
theorem L3(i:Nat):decide (((i+1:Nat):Int)>0)=true:=by simp
def jU(c:aG.D):Bool :=
 c3 c.1 1 22&&decide ((c.2.1.length:Int)≤60)&&decide ((c.2.2.1.length:Int)≤60)&&decide ((c.2.2.2.2.2.1.length:Int)≤64)&&c3 c.2.2.2.1 (-1000000) 1000000&&c3 c.2.2.2.2.1 (-1000000) 1000000 &&
  (bu c.2.2.1 []||(c.1==9||(c.1==10||c.1==12)))&&(bu c.2.2.2.2.2.1 []||(c.1==5||c.1==6))
theorem L4(c:aG.D):I7 (c,())=some (jU c,()):=by
 obtain ⟨q,hq,_⟩:=i_ 1
 show BU (yl aP) c=_
 rw [hq]
 unfold BU
 simp only [yl,I6,jy,av,ml]
 congr 2
 simp only [jU,c3,T7]
 generalize c.2.1.length=a
 generalize c.2.2.1.length=b
 generalize c.2.2.2.2.2.1.length=d
 generalize c.1=k
 generalize c.2.2.2.1=e
 generalize c.2.2.2.2.1=f
 simp only [nh,L0,E7]
 rw [Bool.eq_iff_iff]
 simp only [Bool.cond_eq_ite,Bool.ite_eq_true_distrib,Bool.and_eq_true,Bool.or_eq_true,decide_eq_true_eq,beq_iff_eq,bne_iff_ne]
 grind (splits:=40)
theorem aeW(c:aG.D):Kc (c,())=some (jU c,()):=by
 obtain ⟨q,hq,_⟩:=i_ 2
 show DI (DJ aP) c=_
 rw [hq]
 unfold DI
 simp only [DJ,eF,Kb,Rw,Rx,i',av,ml]
 congr 2
 simp only [jU,c3,T7]
 generalize c.2.1.length=a
 generalize c.2.2.1.length=b
 generalize c.2.2.2.2.2.1.length=d
 generalize c.1=k
 generalize c.2.2.2.1=e
 generalize c.2.2.2.2.1=f
 rw [Bool.eq_iff_iff]
 simp only [Bool.cond_eq_ite,Bool.ite_eq_true_distrib,Bool.and_eq_true,Bool.or_eq_true,decide_eq_true_eq,beq_iff_eq,bne_iff_ne]
 grind (splits:=60)
def e8(n:Nat)(P:Nat→Bool):Option Nat:=(List.range n).find? P
theorem hP{n i:Nat}{P:Nat→Bool} : e8 n P=some i↔i<n∧P i=true∧∀j,j<i→P j=false:=by
 unfold e8
 rw [List.find?_range_eq_some]
 constructor
 ·rintro ⟨h1,h2,h3⟩;exact⟨by simpa using h2,h1,fun j hj=>by simpa using h3 j hj⟩
 ·rintro ⟨h1,h2,h3⟩;exact⟨h2,by simpa using h1,fun j hj=>by simpa using h3 j hj⟩
theorem lz{n:Nat}{P:Nat→Bool} : e8 n P=none↔∀i,i<n→P i=false:=by
 unfold e8
 rw [List.find?_eq_none]
 simp
theorem r7{β : Type}(n:Nat)(hn:n≤4611686018427387904)(P:Nat→Bool)(R:Option Nat → β)(L:Nat→Int → β)
  (h0:∀m,L (m+1) (n:Int)=R none)
  (hs:∀m (i:Nat),i<n→aH ((i:Int)+1)=(i:Int)+1→L (m+1) (i:Int)=cond (P i) (R (some i)) (L m ((i:Int)+1))) (q:Nat:=aP) (hq:n<q:=by exact iZ (by omega)) :
  L q 0=R (e8 n P):=by
 have key:=mj n hn L (fun i=>R (e8 n P)) (fun i=>∀j,j<i→P j=false) (fun m hi=>by rw [h0 m,lz.2 hi]) (fun m i hi hinv hw ih=>by
  rw [hs m i hi hw]
  cases au:P i
  ·simp only [cond_false]
   refine ih fun j hj=>?_
   by_cases h:j=i
   ·subst h;exact au
   ·exact hinv j (by omega)
  ·simp only [cond_true]
   rw [hP.2 ⟨hi,au,hinv⟩]) n 0 q (by omega) hq (by intro j hj;omega)
 simpa using key
def gN:Option Nat→Int
 | none => -1
 | some i=>i
theorem zu{o:Option Nat} : decide (gN o<0)=o.isNone:=by
 cases o with
 | none=>rfl
 | some i=>exact decide_eq_false (by show ¬((i:Int)<0);omega)
theorem zv{o:Option Nat} : decide (gN o≥0)=o.isSome:=by cases o <;> simp [gN]
theorem contains_eq(l:List Int)(x:Int)(hl:l.length≤4611686018427387904):rR (l,x,())=some (decide (x∈l),()):=by
 show J3 l x=_
 unfold J3
 have h:J2 (l,x,())=some (gN (e8 l.length (fun i=>x==J (.int .i64) l i)),()):=by
  show Dr (t' aP) l x=_
  unfold Dr
  refine r7 l.length hl _ (fun o=>some (gN o,())) (fun m i=>t' m l x (l.length:Int) i) ?_ ?_
  ·intro m
   simp only [t',Ds]
   rw [cG (Nat.le_refl _)];rfl
  ·intro m i hi hw
   simp only [t',Ds,hw]
   rw [ck hi,bx hi];rfl
 rw [h]
 simp only [av,zv]
 congr 2
 rw [Bool.eq_iff_iff,decide_eq_true_eq,Option.isSome_iff_exists]
 constructor
 ·rintro ⟨i,hi⟩
  obtain ⟨h1,h2,_⟩:=hP.1 hi
  have h2:x=J (.int .i64) l i:=by simpa using h2
  rw [h2,c6 h1];exact List.getElem_mem h1
 ·intro hx
  obtain ⟨i,hi,he⟩:=List.mem_iff_getElem.1 hx
  cases hf:e8 l.length (fun i=>x==J (.int .i64) l i) with
  | some j=>exact⟨j,rfl⟩
  | none =>
   have:=lz.1 hf i hi
   have az:J (.int .i64) l i=l[i]:=c6 (t:=.int .i64) hi
   rw [az,he] at this
   simp at this
def r8(b:Int):Bool:=decide (b≥97)&&decide (b≤122)||decide (b≥48)&&decide (b≤57)||b==46||b==95||b==45
theorem E8(b:Int):ym (b,())=some (r8 b,()):=by
 show I8 b=_
 unfold I8 r8
 simp only [ml]
 congr 2
 rw [Bool.eq_iff_iff]
 simp only [Bool.cond_eq_ite,Bool.ite_eq_true_distrib,Bool.and_eq_true,Bool.or_eq_true,decide_eq_true_eq,beq_iff_eq]
 grind
theorem T9(b:Int):C8 (b,())=some (r8 b,()):=by
 show Rr b=_
 rw [← E8];rfl
def nb(s:List UInt8)(i:Nat):Int:=((s.getD i 0).toNat:Int)
def hQ(s:List UInt8):Bool:=fe s.length (fun i=>r8 (nb s i))&&(c3 (s.length:Int) 1 8&&(!bu s [46] && !bu s [46,46]))
theorem aeX(s:List UInt8):JW (s,())=some (hQ s,()):=by
 show C3 (rQ aP) s=_
 unfold C3
 simp only [jy,av]
 by_cases hl:c3 (s.length:Int) 1 8=true
 case neg=>rw [Bool.not_eq_true] at hl;unfold hQ;rw [hl];simp
 have hb:=dG.1 hl
 have hk:rQ aP s 0=some (fe s.length (fun i=>r8 (nb s i))&&true,()):=by
  refine r6 s.length (by omega) _ true (fun m i=>rQ m s i) ?_ ?_
  ·intro m _
   simp only [rQ,C4]
   rw [cG (Nat.le_refl _)];rfl
  ·intro m i hi _ hw
   simp only [rQ,C4,hw]
   rw [ck hi,bx hi]
   simp only [cond_true,av,E8,nh];rfl
 rw [hk,hl]
 unfold hQ
 rw [hl]
 cases bu s [46] <;> cases bu s [46,46] <;> simp
theorem aeY(s:List UInt8)(hl:s.length≤4000000000000000000):JZ (s,())=some (hQ s,()):=by
 show Dh (tZ aP) s=_
 unfold Dh hQ
 refine r6 s.length (by omega) _ _ (fun m i=>tZ m s (s.length:Int) i) ?_ ?_
 ·intro m _
  simp only [tZ,Di]
  rw [cG (Nat.le_refl _)]
  simp only [i',av,cond_false,ml]
  congr 2
  cases c3 (s.length:Int) 1 8 <;> cases bu s [46] <;> rfl
 ·intro m i hi _ hw
  simp only [tZ,Di,hw]
  rw [ck hi,bx hi]
  simp only [cond_true,av,T9,nh];rfl
def ja(s:List UInt8):Bool:=fe s.length (fun i=>nb s i==47||r8 (nb s i))&&c3 (s.length:Int) 1 60
theorem T_(s:List UInt8):yn (s,())=some (ja s,()):=by
 show BW (tp aP) s=_
 unfold BW
 simp only [jy,av]
 by_cases hl:c3 (s.length:Int) 1 60=true
 case neg=>rw [Bool.not_eq_true] at hl;unfold ja;rw [hl];simp
 have hb:=dG.1 hl
 unfold ja
 rw [hl]
 simp only [Bool.not_true,cond_false]
 refine r6 s.length (by omega) _ true (fun m i=>tp m s i) ?_ ?_
 ·intro m _
  simp only [tp,BX]
  rw [cG (Nat.le_refl _)];rfl
 ·intro m i hi _ hw
  simp only [tp,BX,hw]
  rw [ck hi,bx hi]
  simp only [cond_true,av,E8,nh,E7,bne];rfl
theorem L5(s:List UInt8)(hl:s.length≤4000000000000000000):wy (s,())=some (ja s,()):=by
 show C_ (tW aP) s=_
 unfold C_ ja
 refine r6 s.length (by omega) _ _ (fun m i=>tW m s (s.length:Int) i) ?_ ?_
 ·intro m _
  simp only [tW,C']
  rw [cG (Nat.le_refl _)]
  simp only [i',av,cond_false]
 ·intro m i hi _ hw
  simp only [tW,C',hw]
  rw [ck hi,bx hi]
  simp only [cond_true,av,T9,nh,E7,bne];rfl
abbrev aK:Type:=I.D
def ak(x:aK):List aw.D:=x.2.2.2.2.2.2.1
def bN(x:aK):List UInt8:=x.2.2.2.2.2.1
def bj(l:List aK)(id:Int):Option Nat:=e8 l.length (fun i=>(J I l i).1==id)
theorem ni(v:af.D)(id:Int)(hl:v.2.1.length≤1048576):kc (v,id,())=some (gN (bj v.2.1 id),()):=by
 show B9 (tu aP) v id=_
 unfold B9 bj
 refine r7 v.2.1.length (by omega) _ (fun o=>some (gN o,())) (fun m i=>tu m id i v) ?_ ?_
 ·intro m
  simp only [tu,B_]
  rw [cG (Nat.le_refl _)];rfl
 ·intro m i hi hw
  simp only [tu,B_,hw]
  rw [ck hi,bx hi];rfl
def Ua(l:List aK):Option Nat→List aK
 | none=>[]
 | some i=>[J I l i]
theorem wR(v:af.D)(id:Int)(hl:v.2.1.length≤1048576):fl (v,id,())=some (Ua v.2.1 (bj v.2.1 id),()):=by
 show Db (tX aP) v id=_
 unfold Db bj
 refine r7 v.2.1.length (by omega) _ (fun o=>some (Ua v.2.1 o,())) (fun m i=>tX m v id (v.2.1.length:Int) i) ?_ ?_
 ·intro m
  simp only [tX,Dc]
  rw [cG (Nat.le_refl _)];rfl
 ·intro m i hi hw
  simp only [tX,Dc,hw]
  rw [ck hi,bx hi];rfl
theorem bX{l:List aK}{id:Int}{i:Nat}(h:bj l id=some i):i<l.length∧(J I l i).1=id:=by
 obtain ⟨h1,h2,_⟩:=hP.1 h
 exact⟨h1,by simpa using h2⟩
def bytesOf(l:List aK):Nat:=(l.map fun x=>(bN x).length).sum
theorem aeZ{l:List aK}{i:Nat}(hi:i<l.length):bytesOf (l.drop i)=(bN (J I l i)).length+bytesOf (l.drop (i+1)):=by
 rw [drop_cons (t:=I) hi];rfl
theorem L6(l:List aK)(i:Nat):bytesOf (l.take i)+bytesOf (l.drop i)=bytesOf l:=by
 unfold bytesOf
 rw [← List.sum_append_nat,← List.map_append,List.take_append_drop]
theorem wS{l:List aK}{i:Nat}(hi:i<l.length):bytesOf (l.take (i+1))=bytesOf (l.take i) +(bN (J I l i)).length:=by
 have h1:=L6 l i
 have h2:=L6 l (i+1)
 have h3:=aeZ hi
 omega
theorem E9(l:List aK)(i:Nat):bytesOf (l.take i)≤bytesOf l:=by have:=L6 l i;omega
theorem L7(v:af.D)(hl:v.2.1.length≤1048576)(hb:bytesOf v.2.1≤1048576):yv (v,())=some ((bytesOf v.2.1:Int),()):=by
 show Cm (tA aP) v=_
 unfold Cm
 have:=mj v.2.1.length (by omega) (fun m i=>tA m (bytesOf (v.2.1.take i.toNat):Int) i v) (fun _=>some ((bytesOf v.2.1:Int),())) (fun _=>True) (fun m _=>by
  simp only [tA,Cn]
  rw [cG (Nat.le_refl _)]
  simp only [Int.toNat_natCast,List.take_length,cond_false]) (fun m i hi _ hw ih=>by
  simp only [tA,Cn,hw]
  rw [ck hi,bx hi]
  simp only [cond_true,av,Int.toNat_natCast]
  have ih:=ih trivial
  rw [show((i:Int)+1).toNat=i+1 by omega,wS hi,Int.natCast_add] at ih
  have h2:=E9 v.2.1 (i+1)
  rw [wS hi] at h2
  rw [dI (by omega) (by have:((J I v.2.1 i).2.2.2.2.2.1).length=(bN (J I v.2.1 i)).length:=rfl;omega)]
  exact ih) v.2.1.length 0 aP (by omega) (iZ (by omega)) trivial
 simpa [bytesOf] using this
theorem L8(v:af.D)(hl:v.2.1.length≤1048576)(hb:bytesOf v.2.1≤1048576):rS (v,())=some ((bytesOf v.2.1:Int),()):=by
 show Dw (ud aP) v=_
 unfold Dw
 have:=mj v.2.1.length (by omega) (fun m i=>ud m (bytesOf (v.2.1.take i.toNat):Int) v.2.1 (v.2.1.length:Int) i) (fun _=>some ((bytesOf v.2.1:Int),())) (fun _=>True) (fun m _=>by
  simp only [ud,Dx]
  rw [cG (Nat.le_refl _)]
  simp only [Int.toNat_natCast,List.take_length,cond_false]) (fun m i hi _ hw ih=>by
  simp only [ud,Dx,hw]
  rw [ck hi,bx hi]
  simp only [cond_true,av,Int.toNat_natCast]
  have ih:=ih trivial
  rw [show((i:Int)+1).toNat=i+1 by omega,wS hi,Int.natCast_add] at ih
  have h2:=E9 v.2.1 (i+1)
  rw [wS hi] at h2
  rw [dI (by omega) (by have:((J I v.2.1 i).2.2.2.2.2.1).length=(bN (J I v.2.1 i)).length:=rfl;omega)]
  exact ih) v.2.1.length 0 aP (by omega) (iZ (by omega)) trivial
 simpa [bytesOf] using this
def bZ{β : Type}(f:Nat → β)(B:Nat)(y : β):Prop:=∀m,B≤m→f m=y
theorem bZ.step{β : Type}{f g:Nat → β}{B:Nat}{y : β}(h:bZ g B y)(hf:∀m,f (m+1)=g m):bZ f (B+1) y:=by
 intro m hm
 obtain ⟨k,rfl⟩:∃k,m=k+1:=⟨m-1,by omega⟩
 rw [hf];exact h k (by omega)
theorem bZ.done{β : Type}{f:Nat → β}{y : β}(hf:∀m,f (m+1)=y):bZ f 1 y:=by
 intro m hm
 obtain ⟨k,rfl⟩:∃k,m=k+1:=⟨m-1,by omega⟩
 exact hf k
theorem bZ.mono{β : Type}{f:Nat → β}{B mL:Nat}{y : β}(h:bZ f B y)(hb:B≤mL):bZ f mL y:=fun m hm=>h m (by omega)
def dJ{kJ : Type} : Nat→(Nat → kJ → kJ) → kJ → kJ
 | 0,_,s=>s
 | n+1,f,s=>f n (dJ n f s)
theorem r9{kJ : Type}{n:Nat}{f:Nat → kJ → kJ}(Inv:Nat → kJ → Prop)(eP:∀i s,i<n→Inv i s→Inv (i+1) (f i s)){s : kJ}(h:Inv 0 s):Inv n (dJ n f s):=by
 induction n with
 | zero=>exact h
 | succ n ih=>exact eP n _ (by omega) (ih fun i s hi=>eP i s (by omega))
theorem r_{kJ β : Type}(n W:Nat)(F:Nat→Nat → kJ → β)(step:Nat → kJ → kJ)(Inv:Nat → kJ → Prop)(eP:∀i s,i<n→Inv i s→Inv (i+1) (step i s))
  (hs:∀i s,i<n→Inv i s→∀B y,bZ (fun m=>F m (i+1) (step i s)) B y→bZ (fun m=>F m i s) (B+W) y) (s : kJ) (h:Inv 0 s) (B:Nat) (y : β) (he:bZ (fun m=>F m n (dJ n step s)) B y):bZ (fun m=>F m 0 s) (B+n*W) y:=by
 have key:∀k,k≤n→bZ (fun m=>F m (n-k) (dJ (n-k) step s)) (B+k*W) y:=by
  intro k
  induction k with
  | zero=>intro _;simpa using he
  | succ k ih =>
   intro hk
   have:=ih (by omega)
   have hinv:Inv (n-(k+1)) (dJ (n-(k+1)) step s):=r9 Inv (fun i s hi=>eP i s (by omega)) h
   have h2:=hs (n-(k+1)) _ (by omega) hinv (B+k*W) y (by
    rw [show n-(k+1)+1=n-k by omega]
    have e:dJ (n-k) step s=step (n-(k+1)) (dJ (n-(k+1)) step s):=by
     rw [show n-k=(n-(k+1))+1 by omega];rfl
    rw [← e];exact this)
   rw [Nat.add_one_mul,← Nat.add_assoc]
   exact h2
 have:=key n (Nat.le_refl _)
 simpa [dJ] using this
def dm(l:List aw.D)(id:Int):Nat:=(l.filter fun d=>d.2.1==id).length
def cg(l:List aK)(id:Int):Nat:=(l.map fun x=>dm (ak x) id).sum
theorem ae0{l:List aw.D}{id:Int}{j:Nat}(hj:j<l.length):dm (l.take (j+1)) id=dm (l.take j) id+cond ((J aw l j).2.1==id) 1 0:=by
 unfold dm
 rw [List.take_succ_eq_append_getElem hj,List.filter_append,List.length_append]
 congr 1
 rw [c6 hj]
 cases h:(l[j]).2.1==id <;> simp [List.filter_cons,h]
theorem ae1(l:List aw.D)(id:Int):dm l id≤l.length:=List.length_filter_le _ _
theorem L9{l:List aK}{id:Int}{i:Nat}(hi:i<l.length):cg (l.take (i+1)) id=cg (l.take i) id+dm (ak (J I l i)) id:=by
 unfold cg
 rw [List.take_succ_eq_append_getElem hi,List.map_append,List.sum_append_nat]
 simp [c6 hi]
def dn(l:List aK):Nat:=(l.map fun x=>(ak x).length).sum
theorem Ub(l:List aK)(id:Int):cg l id≤dn l:=by
 unfold cg dn
 induction l with
 | nil=>simp
 | cons x l ih=>simp only [List.map_cons,List.sum_cons];have:=ae1 (ak x) id;omega
theorem fM{l:List aK}{i:Nat}(hi:i<l.length):(ak (J I l i)).length≤dn l:=by
 unfold dn
 rw [c6 hi]
 have:∀(l:List aK) (i:Nat) (hi:i<l.length),(ak l[i]).length≤(l.map fun x=>(ak x).length).sum:=by
  intro l
  induction l with
  | nil=>intro i hi;simp at hi
  | cons x l ih =>
   intro i hi
   simp only [List.map_cons,List.sum_cons]
   cases i with
   | zero=>simp
   | succ i=>have:=ih i (by simpa using hi);simp only [List.getElem_cons_succ];omega
 exact this l i hi
theorem Uc(l:List aK)(id:Int)(i:Nat):cg (l.take i) id≤dn l:=by
 refine Nat.le_trans (Ub _ _) ?_
 unfold dn
 conv=>rhs;rw [← List.take_append_drop i l,List.map_append,List.sum_append_nat]
 omega
theorem db(i:Nat)(h:i<4000000000000000000):aH ((i:Int)+1)=((i+1:Nat):Int):=by rw [dI (by omega) (by omega)];omega
theorem L_(l:List aK)(id:Int):∀i,i≤l.length→dJ i (fun i s=>s+dm (ak (J I l i)) id) 0=cg (l.take i) id
 | 0,_=>by simp [dJ,cg]
 | i+1,h=>by
  rw [dJ,L_ l id i (by omega),L9 (by omega)]
theorem L'(l:List aw.D)(id:Int)(s:Nat):∀j,j≤l.length→dJ j (fun j s=>s+cond ((J aw l j).2.1==id) 1 0) s=s+dm (l.take j) id
 | 0,_=>by simp [dJ,dm]
 | j+1,h=>by
  rw [dJ,L' l id s j (by omega),ae0 (by omega)];omega
theorem kK{β : Type}{f:Nat → β}{B:Nat}{y : β}(h:bZ f B y)(hb:B≤4611686018427387904):f aP=y:=h aP (by have:=iZ hb;omega)
theorem E_(v:af.D)(id:Int)(hl:v.2.1.length≤1048576)(hn:dn v.2.1≤1048576):yF (v,id,())=some ((cg v.2.1 id:Int),()):=by
 show Cy (o5 aP) v id=_
 unfold Cy
 have key:=r_ v.2.1.length (1048576+2) (fun m i (s:Nat)=>(o5 m).k3 id (s:Int) (i:Int) v) (fun i s=>s+dm (ak (J I v.2.1 i)) id) (fun i s=>s=cg (v.2.1.take i) id) (fun i s hi hs=>by rw [hs,L9 hi]) (fun i s hi hs B y he=>by
  have pf:s≤1048576:=by have:=Uc v.2.1 id i;omega
  have hnl:=fM hi
  have inner:=r_ (ak (J I v.2.1 i)).length 1 (fun m j (s:Nat)=>(o5 m).c_ id (s:Int) (i:Int) (j:Int) v) (fun j s=>s+cond ((J aw (ak (J I v.2.1 i)) j).2.1==id) 1 0) (fun j s=>s≤1048576+j) (fun j s hj hs=>by
   cases (J aw (ak (J I v.2.1 i)) j).2.1==id <;> simp <;> omega) (fun j s hj hs B y he=>by
   refine he.step fun m=>?_
   show yE (o5 m) _ _ _ _ _=_
   unfold yE
   rw [bx hi]
   simp only [av]
   show cond (decide ((j:Int)<((ak (J I v.2.1 i)).length:Int))) ((aN (ak (J I v.2.1 i)).length (j:Int)).bind _) _=_
   rw [ck hj]
   simp only [cond_true]
   rw [bx hj]
   simp only [av]
   rw [db j (by omega),db s (by omega)]
   show cond ((J aw (ak (J I v.2.1 i)) j).2.1==id) _ _=_
   cases (J aw (ak (J I v.2.1 i)) j).2.1==id <;> rfl) s (by omega) (B+1) y (by
   refine he.step fun m=>?_
   rw [L' _ _ _ _ (Nat.le_refl _),List.take_length]
   show yE (o5 m) _ _ _ _ _=_
   unfold yE
   rw [bx hi]
   simp only [av]
   show cond (decide (((ak (J I v.2.1 i)).length:Int)<((ak (J I v.2.1 i)).length:Int))) _ _=_
   rw [cG (Nat.le_refl _)]
   simp only [cond_false]
   rw [db i (by omega)])
  refine(inner.step (f:=fun m=>(o5 m).k3 id (s:Int) (i:Int) v) fun m=>?_).mono (by omega)
  show yD (o5 m) _ _ _ _=_
  unfold yD
  rw [ck hi];rfl) 0 (by simp [cg]) 1 (some ((cg v.2.1 id:Int),())) (bZ.done fun m=>by
  rw [L_ _ _ _ (Nat.le_refl _),List.take_length]
  show yD (o5 m) _ _ _ _=_
  unfold yD
  rw [cG (Nat.le_refl _)];rfl)
 have hm:v.2.1.length*(1048576+2)≤1048576*(1048576+2):=Nat.mul_le_mul_right _ hl
 exact kK key (by omega)
theorem E'(v:af.D)(id:Int)(hl:v.2.1.length≤1048576)(hn:dn v.2.1≤1048576):wA (v,id,())=some ((cg v.2.1 id:Int),()):=by
 show Du (o_ aP) v id=_
 unfold Du
 have key:=r_ v.2.1.length (1048576+2) (fun m i (s:Nat)=>(o_ m).k3 id (s:Int) v.2.1 (v.2.1.length:Int) (i:Int)) (fun i s=>s+dm (ak (J I v.2.1 i)) id) (fun i s=>s=cg (v.2.1.take i) id) (fun i s hi hs=>by rw [hs,L9 hi]) (fun i s hi hs B y he=>by
  have pf:s≤1048576:=by have:=Uc v.2.1 id i;omega
  have hnl:=fM hi
  have inner:=r_ (ak (J I v.2.1 i)).length 1 (fun m j (s:Nat)=>(o_ m).c_ id (s:Int) v.2.1 (v.2.1.length:Int) (i:Int) (ak (J I v.2.1 i)) ((ak (J I v.2.1 i)).length:Int) (j:Int)) (fun j s=>s+cond ((J aw (ak (J I v.2.1 i)) j).2.1==id) 1 0) (fun j s=>s≤1048576+j) (fun j s hj hs=>by
   cases (J aw (ak (J I v.2.1 i)) j).2.1==id <;> simp <;> omega) (fun j s hj hs B y he=>by
   refine he.step fun m=>?_
   show y2 (o_ m) _ _ _ _ _ _ _ _=_
   unfold y2
   rw [ck hj]
   simp only [cond_true]
   rw [bx hj]
   simp only [av]
   rw [db j (by omega),db s (by omega)]
   cases (J aw (ak (J I v.2.1 i)) j).2.1==id <;> rfl) s (by omega) (B+1) y (by
   refine he.step fun m=>?_
   rw [L' _ _ _ _ (Nat.le_refl _),List.take_length]
   show y2 (o_ m) _ _ _ _ _ _ _ _=_
   unfold y2
   rw [cG (Nat.le_refl _)]
   simp only [cond_false]
   rw [db i (by omega)])
  refine(inner.step (f:=fun m=>(o_ m).k3 id (s:Int) v.2.1 (v.2.1.length:Int) (i:Int)) fun m=>?_).mono (by omega)
  show y1 (o_ m) _ _ _ _ _=_
  unfold y1
  rw [ck hi,bx hi];rfl) 0 (by simp [cg]) 1 (some ((cg v.2.1 id:Int),())) (bZ.done fun m=>by
  rw [L_ _ _ _ (Nat.le_refl _),List.take_length]
  show y1 (o_ m) _ _ _ _ _=_
  unfold y1
  rw [cG (Nat.le_refl _)];rfl)
 have hm:v.2.1.length*(1048576+2)≤1048576*(1048576+2):=Nat.mul_le_mul_right _ hl
 exact kK key (by omega)
abbrev Flags:Type:=List Bool
def T(xs:Flags)(i:Nat):Prop:=J .bool xs i=true
theorem uI{xs:Flags}{x i:Nat}(hx:x<xs.length):T (xs.set x true) i↔(i=x∨T xs i):=by
 unfold T J
 simp only [List.getD_eq_getElem?_getD,List.getElem?_set]
 by_cases h:x=i
 ·subst h;simp [hx]
 ·simp only [h,if_false]
  constructor
  ·intro h;exact .inr h
  ·rintro (rfl | h1)
   ·exact absurd rfl h
   ·exact h1
abbrev FS:Type:=Flags×Flags
section
variable(l:List aK)
def jb(i j:Nat)(s:FS):FS :=
 match bj l (J aw (ak (J I l i)) j).2.1 with
 | none=>s
 | some x=>(s.1.set x true,s.2.set x true)
def ig(i:Nat)(s:FS):FS:=cond (J .bool s.2 i) (dJ (ak (J I l i)).length (jb l i) s) s
def ff(s:FS):FS:=dJ l.length (ig l) s
def FS.f_(n:Nat)(s:FS):Prop:=s.1.length=n∧s.2.length=n
theorem Fa{n i j:Nat}{s:FS}(h:s.f_ n):(jb l i j s).f_ n:=by
 unfold jb;split
 ·exact h
 ·exact⟨by simpa using h.1,by simpa using h.2⟩
theorem Fb{n i:Nat}{s:FS}(h:s.f_ n):(ig l i s).f_ n:=by
 unfold ig
 cases J .bool s.2 i
 ·exact h
 ·exact r9 (fun _ s=>FS.f_ n s) (fun i s _ hs=>Fa l hs) h
theorem Ma{n:Nat}{s:FS}(h:s.f_ n):(ff l s).f_ n:=r9 (fun _ s=>FS.f_ n s) (fun i s _ hs=>Fb l hs) h
theorem ae2(v:af.D)(hl:v.2.1.length≤1048576)(hn:dn v.2.1≤1048576)(s:FS)(h:s.f_ v.2.1.length) :
  (jQ aP).ee 0 v s.1 s.2=some ((dJ v.2.1.length (fun _=>ff v.2.1) s).1,()):=by
 have key:=r_ v.2.1.length (v.2.1.length*1048580+2) (fun m k (s:FS)=>(jQ m).ee (k:Int) v s.1 s.2) (fun _=>ff v.2.1) (fun _ s=>s.f_ v.2.1.length) (fun _ s _ hs=>Ma v.2.1 hs) (fun k s hk hs B y he=>by
  have inner:=r_ v.2.1.length 1048580 (fun m i (s:FS)=>(jQ m).cZ (k:Int) (i:Int) v s.1 s.2) (ig v.2.1) (fun _ s=>s.f_ v.2.1.length) (fun _ s _ hs=>Fb v.2.1 hs) (fun i s hi hs B y he=>by
   have hnl:=fM hi
   cases ho:J .bool s.2 i
   ·refine(he.step (f:=fun m=>(jQ m).cZ (k:Int) (i:Int) v s.1 s.2) fun m=>?_).mono (by omega)
    show tB (jQ m) _ _ _ _ _=_
    unfold tB
    have fN:aN s.2.length (i:Int)=some i:=bx (by rw [hs.2];exact hi)
    rw [ck hi,fN]
    simp only [cond_true,av,Nat.zero_add,ho,Bool.not_false]
    rw [db i (by omega)]
    unfold ig;rw [ho];rfl
   ·have hst:ig v.2.1 i s=dJ (ak (J I v.2.1 i)).length (jb v.2.1 i) s:=by unfold ig;rw [ho];rfl
    rw [hst] at he
    have inj:=r_ (ak (J I v.2.1 i)).length 1 (fun m j (s:FS)=>(jQ m).Co (k:Int) (i:Int) (j:Int) v s.1 s.2) (jb v.2.1 i) (fun _ s=>s.f_ v.2.1.length) (fun _ s _ hs=>Fa v.2.1 hs) (fun j s hj hs B y he=>by
     refine he.step fun m=>?_
     show yx (jQ m) _ _ _ _ _ _=_
     unfold yx
     rw [bx hi]
     simp only [av]
     show cond (decide ((j:Int)<((ak (J I v.2.1 i)).length:Int))) ((aN (ak (J I v.2.1 i)).length (j:Int)).bind _) _=_
     rw [ck hj]
     simp only [cond_true]
     rw [bx hj]
     simp only [av]
     rw [ni v _ hl]
     simp only [av,zv]
     rw [db j (by omega)]
     show cond (bj v.2.1 (J aw (ak (J I v.2.1 i)) j).2.1).isSome _ _=_
     unfold jb
     cases hx:bj v.2.1 (J aw (ak (J I v.2.1 i)) j).2.1 with
     | none=>rfl
     | some x =>
      have hxl:=(bX hx).1
      simp only [Option.isSome_some,cond_true]
      have hx2:bj v.2.1 (J aw (J I v.2.1 i).2.2.2.2.2.2.1 j).2.1=some x:=hx
      rw [hx2]
      show((aN s.1.length ((x:Nat):Int)).bind _)=_
      rw [bx (by rw [hs.1];exact hxl)]
      simp only [av]
      show((aN s.2.length ((x:Nat):Int)).bind _)=_
      rw [bx (by rw [hs.2];exact hxl)]
      simp only [av,Nat.zero_add]) s hs (B+1) y (by
     refine he.step fun m=>?_
     show yx (jQ m) _ _ _ _ _ _=_
     unfold yx
     rw [bx hi]
     simp only [av]
     show cond (decide (((ak (J I v.2.1 i)).length:Int)<((ak (J I v.2.1 i)).length:Int))) _ _=_
     rw [cG (Nat.le_refl _)]
     simp only [cond_false]
     rw [db i (by omega)])
    refine(inj.step (f:=fun m=>(jQ m).cZ (k:Int) (i:Int) v s.1 s.2) fun m=>?_).mono (by omega)
    show tB (jQ m) _ _ _ _ _=_
    unfold tB
    have fN:aN s.2.length (i:Int)=some i:=bx (by rw [hs.2];exact hi)
    rw [ck hi,fN]
    simp only [cond_true,av,Nat.zero_add,ho,Bool.not_true,cond_false]
    rfl) s hs (B+1) y (by
   refine he.step fun m=>?_
   show tB (jQ m) _ _ _ _ _=_
   unfold tB
   rw [cG (Nat.le_refl _)]
   simp only [cond_false]
   rw [db k (by omega)];rfl)
  refine(inner.step (f:=fun m=>(jQ m).ee (k:Int) v s.1 s.2) fun m=>?_).mono (by omega)
  show yw (jQ m) _ _ _ _=_
  unfold yw
  rw [ck hk];rfl) s h 1 (some ((dJ v.2.1.length (fun _=>ff v.2.1) s).1,())) (bZ.done fun m=>by
  show yw (jQ m) _ _ _ _=_
  unfold yw
  rw [cG (Nat.le_refl _)];rfl)
 have h1:v.2.1.length*1048580≤1048576*1048580:=Nat.mul_le_mul_right _ hl
 have hm:v.2.1.length*(v.2.1.length*1048580+2)≤1048576*(1048576*1048580+2):=Nat.mul_le_mul hl (Nat.add_le_add_right h1 2)
 have vn:=Nat.le_trans hm (by decide:1048576*(1048576*1048580+2)≤4611686018427387000)
 generalize v.2.1.length*(v.2.1.length*1048580+2)=X at *
 exact kK key (by omega)
def ft(n:Nat):Flags:=List.replicate n false
def dK(id:Int):Flags :=
 match bj l id with
 | none=>ft l.length
 | some a=>(dJ l.length (fun _=>ff l) (ft l.length,(ft l.length).set a true)).1
theorem Ud(v:af.D)(id:Int)(hl:v.2.1.length≤1048576)(hn:dn v.2.1≤1048576):Cq (v,id,())=some (dK v.2.1 id,()):=by
 show Cp (jQ aP) v id=_
 unfold Cp
 have hr:(decide (0≤(v.2.1.length:Int))&&decide ((v.2.1.length:Int)=(v.2.1.length:Int))&&room (Int.toNat (v.2.1.length:Int)))=true:=by
  rw [Int.toNat_natCast,cE (by omega),decide_eq_true (by omega),decide_eq_true rfl];rfl
 rw [hr]
 simp only [cond_true]
 rw [ni v id hl]
 simp only [av,zu,Int.toNat_natCast]
 unfold dK
 cases ha:bj v.2.1 id with
 | none=>rfl
 | some a =>
  simp only [Option.isNone_some,cond_false,gN]
  rw [List.length_replicate,bx (bX ha).1]
  simp only [av,Nat.zero_add]
  exact ae2 v hl hn (ft v.2.1.length,(ft v.2.1.length).set a true) ⟨by simp [ft],by simp [ft]⟩
end
theorem cI{t:ad}{xs:List t.D}{i:Nat}(h:i<xs.length):J t xs i∈xs:=by rw [c6 h];exact List.getElem_mem h
theorem fg{t:ad}{xs:List t.D}{x:t.D}(h:x∈xs):∃i,i<xs.length∧J t xs i=x:=by
 obtain ⟨i,hi,he⟩:=List.mem_iff_getElem.1 h
 exact⟨i,hi,by rw [c6 hi];exact he⟩
def E(l:List aK)(a b:Int):Prop:=∃i d,bj l a=some i∧d∈ak (J I l i)∧d.2.1=b
abbrev dL(l:List aK)(a b:Int):Prop:=Relation.TransGen (E l) a b
def hR(l:List aK):Prop:=∀x,x<l.length→bj l (J I l x).1=some x
def qC(l:List aK):Prop:=∀i,i<l.length→∀d,d∈ak (J I l i)→(bj l d.2.1).isSome=true
section
variable(l:List aK)
theorem Ue{xs:Flags}{x i:Nat}(h:T xs i):T (xs.set x true) i:=by
 by_cases hx:x<xs.length
 ·exact(uI hx).2 (.inr h)
 ·rwa [List.set_eq_of_length_le (by omega)]
def FS.le(s aq:FS):Prop:=(∀i,T s.1 i→T aq.1 i)∧(∀i,T s.2 i→T aq.2 i)
theorem FS.le.Fc{s:FS} : s.le s:=⟨fun _ h=>h,fun _ h=>h⟩
theorem FS.le.IV{s aq Uf:FS}(h:s.le aq)(k:aq.le Uf):s.le Uf:=⟨fun i hi=>k.1 i (h.1 i hi),fun i hi=>k.2 i (h.2 i hi)⟩
theorem zw{f:Nat→FS→FS}(h:∀i s,FS.le s (f i s))(s:FS):∀n,FS.le s (dJ n f s)
 | 0=>.Fc
 | n+1=>(zw h s n).IV (h n _)
theorem Ug{f:Nat→FS→FS}(h:∀i s,FS.le s (f i s))(s:FS){i n:Nat}(hi:i<n):FS.le (f i (dJ i f s)) (dJ n f s):=by
 induction n with
 | zero=>omega
 | succ n ih =>
  by_cases h1:i=n
  ·subst h1;exact .Fc
  ·exact(ih (by omega)).IV (h n _)
theorem Uh(i j:Nat)(s:FS):FS.le s (jb l i j s):=by
 unfold jb;split
 ·exact .Fc
 ·exact⟨fun _ h=>Ue h,fun _ h=>Ue h⟩
theorem Mb(i:Nat)(s:FS):FS.le s (ig l i s):=by
 unfold ig
 cases J .bool s.2 i
 ·exact .Fc
 ·exact zw (Uh l i) s _
theorem Fe(s:FS):FS.le s (ff l s):=zw (Mb l) s _
theorem ae3{s:FS}(hs:s.f_ l.length){i x:Nat}(hi:i<l.length)(ho:T s.2 i){d:aw.D}(ag:d∈ak (J I l i))(hx:bj l d.2.1=some x):T (ff l s).1 x∧T (ff l s).2 x:=by
 have h1:=Ug (Mb l) s hi
 have ht:T (dJ i (ig l) s).2 i:=(zw (Mb l) s i).2 i ho
 have rh:(dJ i (ig l) s).f_ l.length:=r9 (fun _ s=>FS.f_ l.length s) (fun i s _ hs=>Fb l hs) hs
 generalize dJ i (ig l) s=t at *
 obtain ⟨j,hj,rfl⟩:=fg ag
 have h2:=Ug (Uh l i) t hj
 have e:ig l i t=dJ (ak (J I l i)).length (jb l i) t:=by unfold ig;rw [show J .bool t.2 i=true from ht];rfl
 rw [← e] at h2
 have pP:(dJ j (jb l i) t).f_ l.length:=r9 (fun _ s=>FS.f_ l.length s) (fun i s _ hs=>Fa l hs) rh
 generalize dJ j (jb l i) t=u at *
 have hs:jb l i j u=(u.1.set x true,u.2.set x true):=by unfold jb;rw [hx]
 rw [hs] at h2
 have hxl:=(bX hx).1
 exact⟨h1.1 x (h2.1 x ((uI (by rw [pP.1];exact hxl)).2 (.inl rfl))),h1.2 x (h2.2 x ((uI (by rw [pP.2];exact hxl)).2 (.inl rfl)))⟩
theorem Ui(Pi fw:Nat→Prop)(zx:∀i,i<l.length→fw i→∀d,d∈ak (J I l i)→∀x,bj l d.2.1=some x→Pi x∧fw x){s:FS}(hl:s.f_ l.length)(h1:∀i,T s.1 i→Pi i)(h2:∀i,T s.2 i→fw i) :
  (∀i,T (ff l s).1 i→Pi i)∧(∀i,T (ff l s).2 i→fw i):=by
 have key:(ff l s).f_ l.length∧(∀i,T (ff l s).1 i→Pi i)∧(∀i,T (ff l s).2 i→fw i):=by
  refine r9 (fun _ (s:FS)=>s.f_ l.length∧(∀i,T s.1 i→Pi i)∧(∀i,T s.2 i→fw i)) (fun i s hi hs=>?_) ⟨hl,h1,h2⟩
  obtain ⟨hl,h1,h2⟩:=hs
  refine⟨Fb l hl,?_⟩
  cases ho:J .bool s.2 i
  ·rw [show ig l i s=s by unfold ig;rw [ho];rfl];exact⟨h1,h2⟩
  ·rw [show ig l i s=dJ (ak (J I l i)).length (jb l i) s by unfold ig;rw [ho];rfl]
   have:=r9 (n:=(ak (J I l i)).length) (f:=jb l i) (fun _ (s:FS)=>s.f_ l.length∧(∀i,T s.1 i→Pi i)∧(∀i,T s.2 i→fw i)) (fun j t hj ht=>by
    obtain ⟨hl,g1,g2⟩:=ht
    refine⟨Fa l hl,?_⟩
    unfold jb
    split
    ·exact⟨g1,g2⟩
    ·rename_i x hx
     obtain ⟨ec,fc⟩:=zx i hi (h2 i ho) _ (cI hj) x hx
     have hxl:=(bX hx).1
     refine⟨fun k hk=>?_,fun k hk=>?_⟩
     ·rcases (uI (by rw [hl.1];exact hxl)).1 hk with rfl | hk
      ·exact ec
      ·exact g1 k hk
     ·rcases (uI (by rw [hl.2];exact hxl)).1 hk with rfl | hk
      ·exact fc
      ·exact g2 k hk) ⟨hl,h1,h2⟩
   exact this.2
 exact key.2
def Ff(s:FS):Prop:=∀i,i<l.length→T s.2 i→∀d,d∈ak (J I l i)→∀x,bj l d.2.1=some x→T s.1 x∧T s.2 x
theorem ae4{s:FS}(hl:s.f_ l.length)(h:Ff l s):Ff l (ff l s):=by
 obtain ⟨h1,h2⟩:=Ui l (T s.1) (T s.2) h hl (fun _ h=>h) (fun _ h=>h)
 intro i hi ho d ag x hx
 obtain ⟨ec,fc⟩:=h i hi (h2 i ho) d ag x hx
 exact⟨(Fe l s).1 x ec,(Fe l s).2 x fc⟩
def nj(xs:Flags):Nat:=(xs.filter fun b=>b).length
theorem ae5(xs:Flags):nj xs≤xs.length:=List.length_filter_le _ _
theorem Uj:∀(a b:Flags),a.length=b.length→(∀i,T a i→T b i)→nj a≤nj b∧(nj a=nj b→a=b)
 | [],[],_,_=>⟨Nat.le_refl _,fun _=>rfl⟩
 | [],_ :: _,h,_=>by simp at h
 | _ :: _,[],h,_=>by simp at h
 | x :: a,y :: b,h,bW=>by
  obtain ⟨h1,h2⟩:=Uj a b (by simpa using h) (fun i hi=>bW (i+1) hi)
  have h0:x=true→y=true:=fun hx=>bW 0 hx
  unfold nj at *
  cases x <;> cases y <;> simp only [List.filter_cons,if_true,Bool.false_eq_true,if_false,List.length_cons]
  ·exact⟨h1,fun h=>by rw [h2 h]⟩
  ·exact⟨by omega,fun h=>by omega⟩
  ·exact absurd (h0 rfl) (by simp)
  ·exact⟨by omega,fun h=>by rw [h2 (by omega)]⟩
theorem ae6{xs:Flags}{i:Nat}(h:T xs i):1≤nj xs:=by
 have hm:true∈xs:=by
  unfold T J at h
  rw [List.getD_eq_getElem?_getD] at h
  cases hx:xs[i]? with
  | none=>rw [hx] at h;simp at h;cases h
  | some b =>
   rw [hx] at h
   have hb:b=true:=h
   subst hb
   exact List.mem_of_getElem? hx
 unfold nj
 exact List.length_pos_of_mem (List.mem_filter.2 ⟨hm,rfl⟩)
theorem rounds(s:FS)(hl:s.f_ l.length)(h:1≤nj s.2):∀k,(dJ k (fun _=>ff l) s).f_ l.length∧(Ff l (dJ k (fun _=>ff l) s)∨k+1≤nj (dJ k (fun _=>ff l) s).2)
 | 0=>⟨hl,.inr h⟩
 | k+1=>by
  obtain ⟨hk,ih⟩:=rounds s hl h k
  rw [dJ]
  generalize dJ k (fun _=>ff l) s=t at *
  have hr:=Ma l hk
  refine⟨hr,?_⟩
  rcases ih with ih | ih
  ·exact .inl (ae4 l hk ih)
  ·obtain ⟨c1,gm⟩:=Uj t.2 (ff l t).2 (by rw [hk.2,hr.2]) (Fe l t).2
   by_cases hc:nj t.2=nj (ff l t).2
   ·left
    have e:=gm hc
    intro i hi ho d ag x hx
    rw [← e] at ho
    exact ae3 l hk hi ho ag hx
   ·right;omega
theorem Mc(Pi fw:Nat→Prop)(zx:∀i,i<l.length→fw i→∀d,d∈ak (J I l i)→∀x,bj l d.2.1=some x→Pi x∧fw x)(s:FS)(hl:s.f_ l.length)(h1:∀i,T s.1 i→Pi i)(h2:∀i,T s.2 i→fw i) :
  ∀k,(dJ k (fun _=>ff l) s).f_ l.length∧(∀i,T (dJ k (fun _=>ff l) s).1 i→Pi i)∧(∀i,T (dJ k (fun _=>ff l) s).2 i→fw i)
 | 0=>⟨hl,h1,h2⟩
 | k+1=>by
  obtain ⟨g,g1,g2⟩:=Mc Pi fw zx s hl h1 h2 k
  exact⟨Ma l g,Ui l Pi fw zx g g1 g2⟩
theorem ae7(s:FS):∀k,FS.le s (dJ k (fun _=>ff l) s):=zw (fun _ s=>Fe l s) s
theorem Md(n i:Nat):¬T (ft n) i:=by
 unfold T J ft
 rw [List.getD_eq_getElem?_getD,List.getElem?_replicate]
 split <;> simp [ad.zero]
theorem Uk(id:Int):(dK l id).length=l.length:=by
 unfold dK
 split
 ·simp [ft]
 ·exact(Mc l (fun _=>True) (fun _=>True) (fun _ _ _ _ _ _ _=>⟨trivial,trivial⟩) _ ⟨by simp [ft],by simp [ft]⟩ (fun _ _=>trivial) (fun _ _=>trivial) _).1.1
theorem wT(ag:hR l)(id:Int){x:Nat}(hx:x<l.length):T (dK l id) x↔dL l id (J I l x).1:=by
 unfold dK
 cases ha:bj l id with
 | none =>
  constructor
  ·intro h;exact absurd h (Md _ _)
  ·intro h
   have:∀b,dL l id b→False:=by
    intro b hb
    induction hb with
    | single h=>obtain ⟨i,d,h1,_⟩:=h;rw [ha] at h1;cases h1
    | tail _ _ ih=>exact ih
   exact(this _ h).elim
 | some a =>
  obtain ⟨dP,ae8⟩:=bX ha
  have iI:FS.f_ l.length (ft l.length,(ft l.length).set a true):=⟨by simp [ft],by simp [ft]⟩
  have ho:T ((ft l.length).set a true) a:=(uI (by simp [ft];exact dP)).2 (.inl rfl)
  constructor
  ·intro h
   refine(Mc l (fun y=>dL l id (J I l y).1) (fun y=>(J I l y).1=id∨dL l id (J I l y).1) ?_ _ iI (fun i h=>absurd h (Md _ _)) ?_ l.length).2.1 x h
   ·intro i hi wU d hH y aM
    obtain ⟨hyl,wV⟩:=bX aM
    have he:E l (J I l i).1 (J I l y).1:=⟨i,d,ag i hi,hH,wV.symm⟩
    rcases wU with wU | wU
    ·rw [wU] at he;exact⟨.single he,.inr (.single he)⟩
    ·exact⟨wU.tail he,.inr (wU.tail he)⟩
   ·intro i hi
    rcases (uI (by simp [ft];exact dP)).1 hi with rfl | hi
    ·exact .inl ae8
    ·exact absurd hi (Md _ _)
  ·intro h
   obtain ⟨hlen,ae9⟩:=rounds l _ iI (ae6 ho) l.length
   have hc:Ff l (dJ l.length (fun _=>ff l) (ft l.length,(ft l.length).set a true)):=by
    rcases ae9 with h | h
    ·exact h
    ·have:=ae5 (dJ l.length (fun _=>ff l) (ft l.length,(ft l.length).set a true)).2
     rw [hlen.2] at this
     omega
   show T (dJ l.length (fun _=>ff l) (ft l.length,(ft l.length).set a true)).1 x
   have ae_:=(ae7 l (ft l.length,(ft l.length).set a true) l.length).2 a ho
   generalize dJ l.length (fun _=>ff l) (ft l.length,(ft l.length).set a true)=F at *
   have key:∀b,dL l id b→∀y,bj l b=some y→T F.1 y∧T F.2 y:=by
    intro b hb
    induction hb with
    | single h =>
     obtain ⟨i,d,h1,h2,h3⟩:=h
     intro y aM
     rw [ha] at h1
     obtain rfl:=aU h1
     exact hc _ dP ae_ d h2 y (by rw [h3];exact aM)
    | tail _ h ih =>
     obtain ⟨i,d,h1,h2,h3⟩:=h
     intro y aM
     exact hc i (bX h1).1 (ih i h1).2 d h2 y (by rw [h3];exact aM)
   exact(key _ h x (ag x hx)).1
end
section
variable(l:List aK)
def gi(q:Int):List aw.D :=
 match bj l q with
 | none=>[]
 | some i=>ak (J I l i)
theorem Me{a b:Int} : E l a b↔∃d,d∈gi l a∧d.2.1=b:=by
 unfold E gi
 constructor
 ·rintro ⟨i,d,h1,h2,h3⟩;rw [h1];exact⟨d,h2,h3⟩
 ·rintro ⟨d,h1,h2⟩
  cases hi:bj l a with
  | none=>rw [hi] at h1;simp at h1
  | some i=>rw [hi] at h1;exact⟨i,d,rfl,h1,h2⟩
def Fg:List Int:=l.flatMap fun x=>(ak x).map fun d=>d.2.1
theorem ae':(Fg l).length=dn l:=by
 unfold Fg dn
 rw [List.length_flatMap]
 congr 1
 simp
theorem afa{q:Int}{d:aw.D}(h:d∈gi l q):d.2.1∈Fg l:=by
 unfold gi at h
 cases hi:bj l q with
 | none=>rw [hi] at h;simp at h
 | some i =>
  rw [hi] at h
  exact List.mem_flatMap.2 ⟨_,cI (bX hi).1,List.mem_map.2 ⟨d,h,rfl⟩⟩
theorem afb(q:Int):(gi l q).length≤dn l:=by
 unfold gi
 split
 ·simp
 ·rename_i i hi;exact fM (bX hi).1
def pg(out:List Int)(d:aw.D):List Int:=if d.2.1∈out then out else out++[d.2.1]
structure ph(id:Int)(out:List Int):Prop where
 zy:out.Nodup
 sub:out⊆Fg l
 zz:∀b,b∈out→dL l id b
theorem ph.len{id:Int}{out:List Int}(h:ph l id out):out.length≤dn l:=by
 rw [← ae'];exact h.zy.length_le_of_subset h.sub
theorem Ul{id q:Int}{out:List Int}{d:aw.D}(h:ph l id out)(hq:q=id∨dL l id q)(ag:d∈gi l q):ph l id (pg out d):=by
 unfold pg
 split
 ·exact h
 ·rename_i hn
  have he:E l q d.2.1:=(Me l).2 ⟨d,ag,rfl⟩
  refine⟨?_,?_,?_⟩
  ·rw [List.nodup_append]
   refine⟨h.zy,by simp,?_⟩
   intro a ha b hb
   rw [List.mem_singleton] at hb
   subst hb
   rintro rfl
   exact hn ha
  ·intro a ha
   rcases List.mem_append.1 ha with ha | ha
   ·exact h.sub ha
   ·rw [List.mem_singleton] at ha;rw [ha];exact afa l ag
  ·intro b hb
   rcases List.mem_append.1 hb with hb | hb
   ·exact h.zz b hb
   ·rw [List.mem_singleton] at hb
    rw [hb]
    rcases hq with rfl | hq
    ·exact .single he
    ·exact hq.tail he
theorem Um(out:List Int)(d:aw.D):∃t,pg out d=out++t:=by
 unfold pg;split
 ·exact⟨[],by simp⟩
 ·exact⟨_,rfl⟩
theorem afc(out:List Int)(d:aw.D):d.2.1∈pg out d:=by
 unfold pg;split
 ·assumption
 ·simp
def addN(q:Int)(out:List Int):List Int:=dJ (gi l q).length (fun j o=>pg o (J aw (gi l q) j)) out
theorem afd{id q:Int}{out:List Int}(h:ph l id out)(hq:q=id∨dL l id q):ph l id (addN l q out)∧(∃t,addN l q out=out++t)∧∀d,d∈gi l q→d.2.1∈addN l q out:=by
 have key:=r9 (n:=(gi l q).length) (f:=fun j o=>pg o (J aw (gi l q) j)) (fun j o=>ph l id o∧(∃t,o=out++t)∧∀k,k<j→(J aw (gi l q) k).2.1∈o) (fun j o hj ho=>by
  obtain ⟨h1,⟨t,ht⟩,h3⟩:=ho
  refine⟨Ul l h1 hq (cI hj),?_,?_⟩
  ·obtain ⟨dk,Mf⟩:=Um o (J aw (gi l q) j)
   exact⟨t++dk,by rw [Mf,ht,List.append_assoc]⟩
  ·intro k hk
   by_cases qD:k=j
   ·subst qD;exact afc _ _
   ·obtain ⟨dk,Mf⟩:=Um o (J aw (gi l q) j)
    rw [Mf]
    exact List.mem_append.2 (.inl (h3 k (by omega)))) ⟨h,⟨[],by simp⟩,fun k hk=>by omega⟩
 obtain ⟨k1,k2,k3⟩:=key
 refine⟨k1,k2,fun d ag=>?_⟩
 obtain ⟨i,hi,he⟩:=fg ag
 rw [← he];exact k3 i hi
end
structure Found(l:List aK)(id:Int)(out:List Int):Prop where
 zy:out.Nodup
 iff:∀b,b∈out↔dL l id b
 len:out.length≤dn l
theorem Un{l:List aK}{id:Int}{out:List Int}(h:ph l id out)(hc:∀q,q=id∨q∈out→∀d,d∈gi l q→d.2.1∈out):Found l id out:=by
 refine⟨h.zy,fun b=>⟨h.zz b,fun hb=>?_⟩,h.len⟩
 induction hb with
 | single he=>obtain ⟨d,h1,rfl⟩:=(Me l).1 he;exact hc id (.inl rfl) d h1
 | tail _ he ih=>obtain ⟨d,h1,rfl⟩:=(Me l).1 he;exact hc _ (.inr ih) d h1
theorem afe(v:af.D)(hl:v.2.1.length≤1048576)(hn:dn v.2.1≤1048576)(id:Int):∀(r i:Nat) (out:List Int),i+r=dn v.2.1+1→ph v.2.1 id out→i≤out.length+1 →
  (∀k,k<i→∀d,d∈gi v.2.1 (J (.int .i64) (id :: out) k)→d.2.1∈out) →
  ∃zA,Found v.2.1 id zA∧bZ (fun m=>(me m).bf v (i:Int) out (id :: out)) (1+r*1048580) (some (zA,())):=by
 intro r
 induction r with
 | zero =>
  intro i out hi ho aff hc
  have:=ho.len
  have fV:i=out.length+1:=by omega
  refine⟨out,Un ho fun q hq d ag=>?_,(bZ.done fun m=>?_).mono (by omega)⟩
  ·rcases hq with rfl | hq
   ·exact hc 0 (by omega) d ag
   ·obtain ⟨k,hk,he⟩:=fg (t:=.int .i64) hq
    exact hc (k+1) (by omega) d (by rw [show J (.int .i64) (id :: out) (k+1)=J (.int .i64) out k from rfl,he];exact ag)
  ·show ql (me m) _ _ _ _=_
   unfold ql
   rw [show(id :: out).length=i by rw [List.length_cons,fV],cG (Nat.le_refl _)];rfl
 | succ r ih =>
  intro i out hi ho aff hc
  by_cases cw:i<out.length+1
  case neg =>
   have fV:i=out.length+1:=by omega
   refine⟨out,Un ho fun q hq d ag=>?_,(bZ.done fun m=>?_).mono (by omega)⟩
   ·rcases hq with rfl | hq
    ·exact hc 0 (by omega) d ag
    ·obtain ⟨k,hk,he⟩:=fg (t:=.int .i64) hq
     exact hc (k+1) (by omega) d (by rw [show J (.int .i64) (id :: out) (k+1)=J (.int .i64) out k from rfl,he];exact ag)
   ·show ql (me m) _ _ _ _=_
    unfold ql
    rw [show(id :: out).length=i by rw [List.length_cons,fV],cG (Nat.le_refl _)];rfl
  generalize hq:J (.int .i64) (id :: out) i=q at *
  have Uo:q=id∨dL v.2.1 id q:=by
   cases i with
   | zero=>left;rw [← hq];rfl
   | succ k =>
    right
    refine ho.zz q ?_
    rw [← hq]
    exact cI (t:=.int .i64) (xs:=out) (by omega)
  obtain ⟨k1,⟨t,ht⟩,k3⟩:=afd v.2.1 ho Uo
  have hpre:∀k,k<out.length+1→J (.int .i64) (id ::(out++t)) k=J (.int .i64) (id :: out) k:=by
   intro k hk
   unfold J
   rw [List.getD_eq_getElem?_getD,List.getD_eq_getElem?_getD,← List.cons_append,List.getElem?_append_left (by simpa using hk)]
  obtain ⟨zA,f1,f2⟩:=ih (i+1) (addN v.2.1 q out) (by omega) k1 (by rw [ht];simp;omega) (fun k hk d ag=>by
   by_cases hM:k=i
   ·subst hM
    rw [ht,hpre k cw,hq] at ag
    exact k3 d ag
   ·rw [ht,hpre k (by omega)] at ag
    rw [ht]
    exact List.mem_append.2 (.inl (hc k (by omega) d ag)))
  refine⟨zA,f1,?_⟩
  have hol:=ho.len
  have oi:i<4000000000000000000:=by omega
  cases hx:bj v.2.1 q with
  | none =>
   have jz:gi v.2.1 q=[]:=by unfold gi;rw [hx]
   have Fh:addN v.2.1 q out=out:=by unfold addN;rw [jz];rfl
   rw [Fh] at f2
   refine(f2.step (f:=fun m=>(me m).bf v (i:Int) out (id :: out)) fun m=>?_).mono (by omega)
   show ql (me m) _ _ _ _=_
   unfold ql
   rw [ck (by simpa using cw),bx (by simpa using cw)]
   simp only [cond_true,av,Nat.zero_add]
   rw [hq,wR v q hl]
   simp only [av]
   rw [hx,db i oi];rfl
  | some x =>
   have jz:gi v.2.1 q=ak (J I v.2.1 x):=by unfold gi;rw [hx]
   have hnl:=afb v.2.1 q
   have inner:=r_ (gi v.2.1 q).length 1 (fun m j (o:List Int)=>(me m).gG v (i:Int) (gi v.2.1 q) ((gi v.2.1 q).length:Int) (j:Int) o (id :: o)) (fun j o=>pg o (J aw (gi v.2.1 q) j)) (fun j o=>ph v.2.1 id o) (fun j o hj ho=>Ul v.2.1 ho Uo (cI hj)) (fun j o hj ho B y he=>by
    refine he.step fun m=>?_
    have hol:=ho.len
    show y0 (me m) _ _ _ _ _ _ _=_
    unfold y0
    rw [ck hj,bx hj]
    simp only [cond_true,av]
    rw [contains_eq _ _ (by omega)]
    simp only [av]
    rw [db j (by omega)]
    unfold pg
    by_cases hm:(J aw (gi v.2.1 q) j).2.1∈o
    ·rw [decide_eq_true hm,if_pos hm];rfl
    ·rw [decide_eq_false hm,if_neg hm,cE (by simp;omega),cE (by simp;omega)];rfl) out ho (1+r*1048580+1) (some (zA,())) (by
    refine f2.step fun m=>?_
    show y0 (me m) _ _ _ _ _ _ _=_
    unfold y0
    rw [cG (Nat.le_refl _)]
    simp only [cond_false]
    rw [db i oi];rfl)
   refine(inner.step (f:=fun m=>(me m).bf v (i:Int) out (id :: out)) fun m=>?_).mono (by omega)
   show ql (me m) _ _ _ _=_
   unfold ql
   rw [ck (by simpa using cw),bx (by simpa using cw)]
   simp only [cond_true,av,Nat.zero_add]
   rw [hq,wR v q hl]
   simp only [av]
   rw [hx,jz];rfl
theorem Mg(v:af.D)(hl:v.2.1.length≤1048576)(hn:dn v.2.1≤1048576)(id:Int):∃out,Found v.2.1 id out∧ub (v,id,())=some (out,()):=by
 obtain ⟨out,h1,h2⟩:=afe v hl hn id (dn v.2.1+1) 0 [] (by omega) ⟨by simp,by simp,by simp⟩ (by simp) (fun k hk=>by omega)
 refine⟨out,h1,?_⟩
 show Dt (me aP) v id=_
 unfold Dt
 have hm:(dn v.2.1+1)*1048580≤1048577*1048580:=Nat.mul_le_mul_right _ (by omega)
 exact kK h2 (by omega)
theorem zB{β : Type}(n W:Nat)(F:Nat→Nat → β)(P:Nat→Bool)(no E : β)(B:Nat)
  (hs:∀i,i<n→(∀j,j<i→P j=true)→P i=true→∀B y,bZ (fun m=>F m (i+1)) B y→bZ (fun m=>F m i) (B+W) y)
  (hx:∀i,i<n→(∀j,j<i→P j=true)→P i=false→bZ (fun m=>F m i) W no)
  (lq:(∀j,j<n→P j=true)→bZ (fun m=>F m n) B E):bZ (fun m=>F m 0) (B+n*W) (cond (fe n P) E no):=by
 have key:∀r i,i+r=n→(∀j,j<i→P j=true)→bZ (fun m=>F m i) (B+r*W) (cond (fe n P) E no):=by
  intro r
  induction r with
  | zero =>
   intro i hi au
   have:i=n:=by omega
   subst this
   rw [kI.2 au]
   simpa using lq au
  | succ r ih =>
   intro i hi au
   cases Fi:P i
   ·have:fe n P=false:=by
     rw [← Bool.not_eq_true]
     intro h
     have:=kI.1 h i (by omega)
     rw [Fi] at this;cases this
    rw [this]
    refine(hx i (by omega) au Fi).mono ?_
    rw [Nat.add_one_mul];omega
   ·have:=hs i (by omega) au Fi _ _ (ih (i+1) (by omega) fun j hj=>by
     by_cases h:j=i
     ·subst h;exact Fi
     ·exact au j (by omega))
    rw [Nat.add_one_mul,← Nat.add_assoc]
    exact this
 exact key n 0 (by omega) (by intro j hj;omega)
def ej(x:aK):Int:=x.2.2.2.2.2.2.2.1
def dC(x:aK):Int:=x.2.2.2.2.2.2.2.2.1
def plain(x:aK):Bool:=((ak x).length:Int)==0&&ej x==0&&dC x==0
def oj(l:List aK)(N:List aw.D)(j:Nat):Bool :=
 hQ (J aw N j).1 && !(decide (0<j) && !dr (J aw N (j-1)).1 (J aw N j).1) && !((J aw N j).2.1==1)&&(bj l (J aw N j).2.1).isSome
def r'(l:List aK)(x:aK):Bool:=fe (ak x).length (oj l (ak x))&&decide (((ak x).length:Int)≤12)
def nk(l:List aK)(x:aK):Bool :=
 c3 x.2.2.1 0 2047&&c3 x.2.2.2.1 0 1000&&c3 x.2.2.2.2.1 0 1000 &&
  cond (x.2.1==1) (plain x&&decide (((bN x).length:Int)≤64))
   (cond (x.2.1==3) (plain x&&ja (bN x)&&x.2.2.1==511)
    (cond (x.2.1==2) (bu (bN x) []&&c3 (ej x) 0 400&&c3 (dC x) 0 24&&r' l x) false))
theorem afg(v:af.D)(x:aK)(hl:v.2.1.length≤1048576)(hn:(ak x).length≤1048576)(hs:∀d,d∈ak x→d.1.length≤1048576):J0 (v,x,())=some (r' v.2.1 x,()):=by
 show Dk (t_ aP) v x=_
 unfold Dk r'
 refine r6 (ak x).length (by omega) (oj v.2.1 (ak x)) _ (fun m i=>t_ m v (ak x) ((ak x).length:Int) i x) ?_ ?_
 ·intro m _
  simp only [t_,Dl]
  rw [cG (Nat.le_refl _)];rfl
 ·intro m i hi _ hw
  simp only [t_,Dl,hw]
  rw [ck hi,bx hi]
  simp only [cond_true,av]
  rw [aeY _ (by have:=hs _ (cI hi);omega)]
  simp only [av]
  rw [wR v _ hl]
  simp only [av]
  unfold oj
  cases i with
  | zero =>
   simp only [L2,Nat.lt_irrefl,decide_false,cond_false,Bool.false_and,Bool.not_false,Bool.and_true]
   cases hQ (J aw (ak x) 0).1 <;> cases (J aw (ak x) 0).2.1==1 <;> cases (bj v.2.1 (J aw (ak x) 0).2.1) <;> rfl
  | succ i =>
   rw [show(List.length x.2.2.2.2.2.2.1)=(ak x).length from rfl,L1 hi (by omega)]
   simp only [L3,Nat.zero_lt_succ,decide_true,cond_true,av,Nat.add_sub_cancel,Bool.true_and]
   rw [show(J aw x.2.2.2.2.2.2.1 i)=J aw (ak x) i from rfl]
   cases hQ (J aw (ak x) (i+1)).1 <;> cases (J aw (ak x) (i+1)).2.1==1 <;> cases (bj v.2.1 (J aw (ak x) (i+1)).2.1) <;> cases dr (J aw (ak x) i).1 (J aw (ak x) (i+1)).1 <;> rfl
theorem afh(v:af.D)(x:aK)(hl:v.2.1.length≤1048576)(hn:(ak x).length≤1048576)(q:Nat)(hq:(ak x).length<q):(qk q).l8 0 v x=some (fe (ak x).length (oj v.2.1 (ak x)),()):=by
 have:=r6 (ak x).length (by omega) (oj v.2.1 (ak x)) true (fun m i=>(qk m).l8 i v x) (by
  intro m _
  show yW (qk m) _ _ _=_
  unfold yW
  show cond (decide (((ak x).length:Int)<((ak x).length:Int))) _ _=_
  rw [cG (Nat.le_refl _)];rfl) (by
  intro m i hi _ hw
  show yW (qk m) _ _ _=_
  unfold yW
  show cond (decide ((i:Int)<((ak x).length:Int))) ((aN (ak x).length (i:Int)).bind _) _=_
  rw [ck hi,bx hi]
  simp only [cond_true,av,hw]
  rw [aeX]
  simp only [av]
  rw [ni v _ hl]
  simp only [av,zu]
  unfold oj
  rw [show(x.2.2.2.2.2.2.1)=ak x from rfl]
  cases i with
  | zero =>
   simp only [L2,Nat.lt_irrefl,decide_false,cond_false,Bool.false_and,Bool.not_false,Bool.and_true]
   cases hQ (J aw (ak x) 0).1 <;> cases (J aw (ak x) 0).2.1==1 <;> cases (bj v.2.1 (J aw (ak x) 0).2.1) <;> rfl
  | succ i =>
   rw [L1 hi (by omega)]
   simp only [L3,Nat.zero_lt_succ,decide_true,cond_true,av,Nat.add_sub_cancel,Bool.true_and]
   cases hQ (J aw (ak x) (i+1)).1 <;> cases (J aw (ak x) (i+1)).2.1==1 <;> cases (bj v.2.1 (J aw (ak x) (i+1)).2.1) <;> cases dr (J aw (ak x) i).1 (J aw (ak x) (i+1)).1 <;> rfl) q hq
 rw [Bool.and_true] at this
 exact this
theorem Up(v:af.D)(x:aK)(hl:v.2.1.length≤1048576)(hn:(ak x).length≤1048576):C6 (v,x,())=some (nk v.2.1 x,()):=by
 obtain ⟨q,hq,hI⟩:=i_ 1
 show C5 (qk aP) v x=_
 rw [hq]
 unfold C5
 have hk:∀b,(qk (q+1)).bf b v x=JX (qk q) b v x:=fun _=>rfl
 simp only [hk]
 unfold JX
 rw [afh v x hl hn q (by omega),T_]
 simp only [jy,av,ml]
 congr 2
 unfold nk r' plain ej dC bN
 rw [show(x.2.2.2.2.2.2.1)=ak x from rfl]
 generalize fe (ak x).length (oj v.2.1 (ak x))=A
 generalize ja x.2.2.2.2.2.1=afi
 generalize bu x.2.2.2.2.2.1 []=afj
 generalize x.2.2.2.2.2.1.length=afk
 generalize (ak x).length=afl
 generalize x.2.2.2.2.2.2.2.1=afm
 generalize x.2.2.2.2.2.2.2.2.1=afn
 simp only [c3]
 rw [Bool.eq_iff_iff]
 simp only [Bool.cond_eq_ite,Bool.ite_eq_true_distrib,Bool.and_eq_true,Bool.or_eq_true,Bool.not_eq_true',decide_eq_true_eq,beq_iff_eq,decide_eq_false_iff_not]
 grind (splits:=60)
theorem Uq(v:af.D)(x:aK)(hl:v.2.1.length≤1048576)(hn:(ak x).length≤1048576)(hs:∀d,d∈ak x→d.1.length≤1048576)(ag:(bN x).length≤1048576):Dp (v,x,())=some (nk v.2.1 x,()):=by
 obtain ⟨q,hq,hI⟩:=i_ 1
 show Dn (yZ aP) v x=_
 rw [hq]
 unfold Dn
 simp only [yZ,J1]
 rw [afg v x hl hn hs,L5 _ (by unfold bN at ag;omega)]
 simp only [i',av,ml]
 congr 2
 unfold nk r' plain ej dC bN
 rw [show(x.2.2.2.2.2.2.1)=ak x from rfl]
 generalize fe (ak x).length (oj v.2.1 (ak x))=A
 generalize ja x.2.2.2.2.2.1=afi
 generalize bu x.2.2.2.2.2.1 []=afj
 generalize x.2.2.2.2.2.1.length=afk
 generalize (ak x).length=afl
 generalize x.2.2.2.2.2.2.2.1=afm
 generalize x.2.2.2.2.2.2.2.2.1=afn
 simp only [c3]
 rw [Bool.eq_iff_iff]
 simp only [Bool.cond_eq_ite,Bool.ite_eq_true_distrib,Bool.and_eq_true,Bool.or_eq_true,Bool.not_eq_true',decide_eq_true_eq,beq_iff_eq,bne_iff_ne,decide_eq_false_iff_not]
 grind (splits:=60)
section
variable(l:List aK)
def om(F:Flags):List Nat:=(List.range l.length).filter fun i=>J .bool F i
def dl(i:Nat):Nat:=(bN (J I l i)).length
def jc(F:Flags):Nat:=((om l F).map (dl l)).sum
def jA(F:Flags):Nat:=(om l F).length
def pre(F:Flags)(i:Nat):List Nat:=(List.range i).filter fun i=>J .bool F i
theorem Mh(F:Flags)(i:Nat):pre F (i+1)=pre F i++cond (J .bool F i) [i] []:=by
 unfold pre
 rw [List.range_succ,List.filter_append]
 cases h:J .bool F i <;> simp [List.filter_cons,h]
theorem Ur(F:Flags){i:Nat}(hi:i≤l.length):((pre F i).map (dl l)).sum≤bytesOf (l.take i)∧(pre F i).length≤i:=by
 induction i with
 | zero=>simp [pre]
 | succ i ih =>
  obtain ⟨h1,h2⟩:=ih (by omega)
  rw [Mh,wS (by omega)]
  cases J .bool F i
  ·simp only [cond_false,List.append_nil];omega
  ·simp only [cond_true,List.map_append,List.sum_append_nat,List.length_append,List.map_cons,List.map_nil,List.sum_cons,List.sum_nil,List.length_cons,List.length_nil]
   have:dl l i=(bN (J I l i)).length:=rfl
   omega
end
theorem Us(v:af.D)(id:Int)(hl:v.2.1.length≤1048576)(hn:dn v.2.1≤1048576)(hb:bytesOf v.2.1≤1048576) :
  yy (v,id,())=some ((jc v.2.1 (dK v.2.1 id):Int),(jA v.2.1 (dK v.2.1 id):Int),()):=by
 show Cs (tC aP) v id=_
 unfold Cs
 rw [Ud v id hl hn]
 simp only [av]
 have hF:=Uk v.2.1 id
 generalize dK v.2.1 id=F at *
 have:=mj v.2.1.length (by omega) (fun m i=>tC m (((pre F i.toNat).map (dl v.2.1)).sum:Nat) ((pre F i.toNat).length:Nat) i v F) (fun _=>some ((jc v.2.1 F:Int),(jA v.2.1 F:Int),())) (fun _=>True) (fun m _=>by
  simp only [tC,Ct]
  rw [hF,cG (Nat.le_refl _)];rfl) (fun m i hi _ hw ih=>by
  have ih:=ih trivial
  simp only [tC,Ct,hw]
  rw [hF,ck hi,bx hi]
  simp only [cond_true,av,Int.toNat_natCast,Nat.zero_add]
  rw [show((i:Int)+1).toNat=i+1 by omega,Mh] at ih
  have h1:=Ur v.2.1 F (i:=i) (by omega)
  have h3:=Ur v.2.1 F (i:=i+1) (by omega)
  have h2:=E9 v.2.1 (i+1)
  rw [Mh] at h3
  cases hf:J .bool F i
  ·rw [hf] at ih
   simp only [cond_false,List.append_nil] at ih ⊢
   exact ih
  ·rw [hf] at ih h3
   simp only [cond_true,List.map_append,List.sum_append_nat,List.length_append,List.map_cons,List.map_nil,List.sum_cons,List.sum_nil,List.length_cons,List.length_nil,Nat.add_zero,Nat.zero_add] at ih h3 ⊢
   rw [show((J I v.2.1 i).2.2.2.2.2.1).length=dl v.2.1 i from rfl,db _ (by omega),dI (by omega) (by omega),← Int.natCast_add]
   exact ih) v.2.1.length 0 aP (by omega) (iZ (by omega)) trivial
 simpa [pre] using this
def nm(l:List aK)(b:Int):Nat :=
 match bj l b with
 | none=>0
 | some i=>dl l i
theorem Ut{l:List aK}(b:Int):nm l b≤bytesOf l:=by
 unfold nm
 split
 ·omega
 ·rename_i i hi
  have h1:=wS (bX hi).1
  have h2:=E9 l (i+1)
  unfold dl
  omega
theorem Mi(v:af.D)(id:Int)(hl:v.2.1.length≤1048576)(hn:dn v.2.1≤1048576)(hb:bytesOf v.2.1≤1048576) :
  ∃out,Found v.2.1 id out∧wB (v,id,())=some ((((out.map (nm v.2.1)).sum:Nat):Int),(out.length:Int),()):=by
 obtain ⟨out,hf,he⟩:=Mg v hl hn id
 refine⟨out,hf,?_⟩
 show Dz (qm aP) v id=_
 unfold Dz
 rw [he]
 simp only [av]
 have hol:=hf.len
 have hb2:∀i,i≤out.length→((out.take i).map (nm v.2.1)).sum≤i*1048576:=by
  intro i
  induction i with
  | zero=>intro _;simp
  | succ i ih =>
   intro hi
   rw [List.take_succ_eq_append_getElem (by omega),List.map_append,List.sum_append_nat]
   have:=ih (by omega)
   have:=Ut (l:=v.2.1) out[i]
   simp only [List.map_cons,List.map_nil,List.sum_cons,List.sum_nil]
   omega
 have:=mj out.length (by omega) (fun m i=>qm m v (((out.take i.toNat).map (nm v.2.1)).sum:Nat) (out.length:Int) i out) (fun _=>some ((((out.map (nm v.2.1)).sum:Nat):Int),(out.length:Int),())) (fun _=>True) (fun m _=>by
  simp only [qm,DA]
  rw [cG (Nat.le_refl _)]
  simp only [Int.toNat_natCast,List.take_length,cond_false]) (fun m i hi _ hw ih=>by
  have ih:=ih trivial
  simp only [qm,DA,hw]
  rw [ck hi,bx hi]
  simp only [cond_true,av,Int.toNat_natCast,Nat.zero_add]
  rw [wR v _ hl]
  simp only [av]
  rw [show((i:Int)+1).toNat=i+1 by omega,List.take_succ_eq_append_getElem hi,List.map_append,List.sum_append_nat] at ih
  simp only [List.map_cons,List.map_nil,List.sum_cons,List.sum_nil,Nat.add_zero] at ih
  have az:J (.int .i64) out i=out[i]:=c6 (t:=.int .i64) hi
  rw [az]
  have h2:=hb2 i (by omega)
  have h3:=Ut (l:=v.2.1) out[i]
  have h4:i*1048576≤1048576*1048576:=Nat.mul_le_mul_right _ (by omega)
  unfold nm at ih h3
  cases hx:bj v.2.1 out[i] with
  | none =>
   rw [hx] at ih
   exact ih
  | some x =>
   rw [hx] at ih h3
   show qm m v (aH (_ +(((J I v.2.1 x).2.2.2.2.2.1).length:Int))) _ _ _=_
   have h3:dl v.2.1 x≤bytesOf v.2.1:=h3
   have ih:qm m v ((List.map (nm v.2.1) (out.take i)).sum+dl v.2.1 x:Nat) (out.length:Int) ((i:Int)+1) out=_:=ih
   rw [show((J I v.2.1 x).2.2.2.2.2.1).length=dl v.2.1 x from rfl,dI (by omega) (by omega),← Int.natCast_add]
   exact ih) out.length 0 aP (by omega) (iZ (by omega)) trivial
 simpa using this
theorem Mj{l:List aK}(ag:hR l)(hx:qC l){id:Int}{out:List Int}(h:Found l id out):(out.map (nm l)).sum=jc l (dK l id)∧out.length=jA l (dK l id):=by
 have hO:((om l (dK l id)).map fun i=>(J I l i).1).Nodup:=by
  have h0:(om l (dK l id)).Nodup:=(List.nodup_range).filter _
  unfold List.Nodup at h0 ⊢
  rw [List.pairwise_map]
  refine h0.imp_of_mem fun {a b} ha hb la he=>la ?_
  have ha:=(List.mem_filter.1 ha).1
  have hb:=(List.mem_filter.1 hb).1
  have h1:=ag a (by simpa using ha)
  have h2:=ag b (by simpa using hb)
  rw [he,h2] at h1
  exact(aU h1).symm
 have au:out.Perm ((om l (dK l id)).map fun i=>(J I l i).1):=by
  rw [List.perm_ext_iff_of_nodup h.zy hO]
  intro b
  rw [h.iff]
  constructor
  ·intro hb
   have hex:∃i,bj l b=some i:=by
    cases hb with
    | single he=>obtain ⟨i,d,h1,h2,rfl⟩:=he;exact Option.isSome_iff_exists.1 (hx i (bX h1).1 d h2)
    | tail _ he=>obtain ⟨i,d,h1,h2,rfl⟩:=he;exact Option.isSome_iff_exists.1 (hx i (bX h1).1 d h2)
   obtain ⟨i,hi⟩:=hex
   obtain ⟨h1,h2⟩:=bX hi
   refine List.mem_map.2 ⟨i,List.mem_filter.2 ⟨by simpa using h1,?_⟩,h2⟩
   exact(wT l ag id h1).2 (by rw [h2];exact hb)
  ·intro hb
   obtain ⟨i,hi,rfl⟩:=List.mem_map.1 hb
   obtain ⟨h1,h2⟩:=List.mem_filter.1 hi
   exact(wT l ag id (by simpa using h1)).1 h2
 refine⟨?_,by rw [au.length_eq,List.length_map];rfl⟩
 rw [(au.map (nm l)).sum_nat,List.map_map]
 unfold jc
 congr 1
 refine List.map_congr_left fun i hi=>?_
 have h1:=(List.mem_filter.1 hi).1
 show nm l (J I l i).1=dl l i
 unfold nm
 rw [ag i (by simpa using h1)]
def hS(l:List aK)(x:aK):Bool :=
 (decide (ej x>0)&&decide ((jc l (dK l x.1):Int)>ej x))||(decide (dC x>0)&&decide ((jA l (dK l x.1):Int)>dC x))
def f'(l:List aK):Bool:=cond (fe l.length fun i => !hS l (J I l i)) false true
theorem afo(v:af.D)(x:aK)(hl:v.2.1.length≤1048576)(hn:dn v.2.1≤1048576)(hb:bytesOf v.2.1≤1048576)(ag:hR v.2.1)(hx:qC v.2.1):J5 (v,x,())=some (hS v.2.1 x,()):=by
 show J4 v x=_
 unfold J4
 obtain ⟨out,hf,he⟩:=Mi v x.1 hl hn hb
 rw [he]
 obtain ⟨h1,h2⟩:=Mj ag hx hf
 rw [h1,h2]
 simp only [av,ml]
 congr 2
 unfold hS ej dC
 generalize (jc v.2.1 (dK v.2.1 x.1):Int)=B
 generalize (jA v.2.1 (dK v.2.1 x.1):Int)=N
 rw [Bool.eq_iff_iff]
 simp only [Bool.cond_eq_ite,Bool.ite_eq_true_distrib,Bool.and_eq_true,Bool.or_eq_true,decide_eq_true_eq]
 grind
theorem Uu(v:af.D)(hl:v.2.1.length≤1048576)(hn:dn v.2.1≤1048576)(hb:bytesOf v.2.1≤1048576)(ag:hR v.2.1)(hx:qC v.2.1):y3 (v.2.1,v,())=some (f' v.2.1,()):=by
 show J7 v.2.1 v=_
 unfold J7
 have h:J6 (v.2.1,v,())=some (gN (e8 v.2.1.length fun i=>hS v.2.1 (J I v.2.1 i)),()):=by
  show DC (ue aP) v.2.1 v=_
  unfold DC
  refine r7 v.2.1.length (by omega) _ (fun o=>some (gN o,())) (fun m i=>ue m v.2.1 v (v.2.1.length:Int) i) ?_ ?_
  ·intro m
   simp only [ue,DD]
   rw [cG (Nat.le_refl _)];rfl
  ·intro m i hi hw
   simp only [ue,DD,hw]
   rw [ck hi,bx hi]
   simp only [cond_true,av]
   rw [afo v _ hl hn hb ag hx];rfl
 rw [h]
 simp only [av,zv]
 congr 2
 unfold f'
 cases hf:e8 v.2.1.length fun i=>hS v.2.1 (J I v.2.1 i) with
 | none =>
  rw [kI.2 (fun i hi=>by rw [lz.1 hf i hi];rfl)];rfl
 | some i =>
  obtain ⟨h1,h2,_⟩:=hP.1 hf
  have:fe v.2.1.length (fun i => !hS v.2.1 (J I v.2.1 i))=false:=by
   rw [← Bool.not_eq_true];intro h
   have:=kI.1 h i h1
   rw [h2] at this;cases this
  rw [this];rfl
theorem Uv(v:af.D)(hl:v.2.1.length≤1048576)(hn:dn v.2.1≤1048576)(hb:bytesOf v.2.1≤1048576)(hk:∀i,i<v.2.1.length→(J I v.2.1 i).2.1≠2→ej (J I v.2.1 i)=0∧dC (J I v.2.1 i)=0):Cv (v,())=some (f' v.2.1,()):=by
 show Cu (jR aP) v=_
 unfold Cu
 have h0:∀x:aK,ej x=0→dC x=0→hS v.2.1 x=false:=by
  intro x h1 h2;unfold hS;rw [h1,h2];rfl
 have Uw:∀(m i:Nat),i<v.2.1.length→(jR (m+1)).k2 (i:Int) v=cond ((J I v.2.1 i).2.1 != 2) ((jR m).k2 ((i+1:Nat):Int) v) (cond (ej (J I v.2.1 i)==0) (cond (dC (J I v.2.1 i)==0) ((jR m).k2 ((i+1:Nat):Int) v) ((jR m).c_ (i:Int) v (J I v.2.1 i))) ((jR m).c_ (i:Int) v (J I v.2.1 i))):=by
  intro m i hi
  show yz (jR m) _ _=_
  unfold yz
  rw [ck hi,bx hi]
  simp only [cond_true,av]
  rw [db i (by omega)];rfl
 have Ux:∀(m i:Nat) (x:aK),i<v.2.1.length→(jR (m+1)).c_ (i:Int) v x=cond (hS v.2.1 x) (some (true,())) ((jR m).k2 ((i+1:Nat):Int) v):=by
  intro m i x hi
  show Ja (jR m) _ _ _=_
  unfold Ja
  rw [Us v _ hl hn hb]
  simp only [av]
  rw [db i (by omega)]
  unfold hS ej dC
  generalize decide (x.2.2.2.2.2.2.2.1>0)=a
  generalize decide ((jc v.2.1 (dK v.2.1 x.1):Int)>x.2.2.2.2.2.2.2.1)=b
  generalize decide (x.2.2.2.2.2.2.2.2.1>0)=c
  generalize decide ((jA v.2.1 (dK v.2.1 x.1):Int)>x.2.2.2.2.2.2.2.2.1)=d
  cases a <;> cases b <;> cases c <;> cases d <;> rfl
 have key:=zB v.2.1.length 2 (fun m i=>(jR m).k2 (i:Int) v) (fun i => !hS v.2.1 (J I v.2.1 i)) (some (true,())) (some (false,())) 1 (fun i hi _ au B y he=>by
  have au:hS v.2.1 (J I v.2.1 i)=false:=by simpa using au
  have bd:bZ (fun m=>(jR m).c_ (i:Int) v (J I v.2.1 i)) (B+1) y:=he.step fun m=>by rw [Ux m i _ hi,au];rfl
  intro m hm
  obtain ⟨m,rfl⟩:∃k,m=k+1:=⟨m-1,by omega⟩
  show(jR (m+1)).k2 (i:Int) v=y
  rw [Uw m i hi]
  have e1:=he m (by omega)
  have e2:=bd m (by omega)
  simp only at e1 e2
  rw [e1,e2]
  cases (J I v.2.1 i).2.1 != 2 <;> cases ej (J I v.2.1 i)==0 <;> cases dC (J I v.2.1 i)==0 <;> rfl) (fun i hi _ au=>by
  have au:hS v.2.1 (J I v.2.1 i)=true:=by simpa using au
  intro m hm
  obtain ⟨m,rfl⟩:∃k,m=k+2:=⟨m-2,by omega⟩
  show(jR (m+1+1)).k2 (i:Int) v=_
  rw [Uw (m+1) i hi,Ux m i _ hi,au]
  have k1:((J I v.2.1 i).2.1 != 2)=false:=by
   rw [bne_eq_false_iff_eq]
   by_cases h:(J I v.2.1 i).2.1=2
   ·exact h
   ·obtain ⟨g1,g2⟩:=hk i hi h
    rw [h0 _ g1 g2] at au;cases au
  rw [k1]
  cases g1:ej (J I v.2.1 i)==0 <;> cases g2:dC (J I v.2.1 i)==0 <;> try rfl
  rw [h0 _ (by simpa using g1) (by simpa using g2)] at au;cases au) (fun _=>bZ.done fun m=>by
  show yz (jR m) _ _=_
  unfold yz
  rw [cG (Nat.le_refl _)];rfl)
 have:=kK key (by omega)
 rw [show(((0:Nat):Int))=0 from rfl] at this
 rw [this]
 unfold f'
 cases fe v.2.1.length fun i => !hS v.2.1 (J I v.2.1 i) <;> rfl
theorem zs{α : Type}{f g : α → Nat} : ∀(l:List α),(∀x,x∈l→f x≤g x)→(l.map f).sum≤(l.map g).sum
 | [],_=>by simp
 | x :: l,h=>by
  simp only [List.map_cons,List.sum_cons]
  have:=zs l fun y aM=>h y (List.mem_cons_of_mem _ aM)
  have:=h x List.mem_cons_self
  omega
theorem Fj{α : Type}{f : α → Nat} : ∀ {l:List α} {x : α},x∈l→f x≤(l.map f).sum
 | y :: l,x,h=>by
  simp only [List.map_cons,List.sum_cons]
  rcases List.mem_cons.1 h with rfl | h
  ·omega
  ·have:=Fj (f:=f) h;omega
theorem Fk(x:aK):ad.cost I x=(bN x).length+ad.cost (.sl aw) (ak x):=by
 simp only [LV,LW,LX,LY,T4,T5,Nat.zero_add,Nat.add_zero];rfl
theorem Uy(d:aw.D):ad.cost aw d=d.1.length:=by
 simp only [LV,LW,LX,LY,T4,T5,Nat.zero_add,Nat.add_zero]
def qE(x:aK):Nat:=ad.cost I x
theorem Mk(v:af.D):ad.cost af v=v.2.1.length +(v.2.1.map qE).sum:=by
 have h:ad.cost af v=ad.cost (.sl I) v.2.1:=by simp only [LV,LW,LX,LY,Nat.zero_add,Nat.add_zero]
 rw [h,T3]
 rfl
structure uJ(v:af.D):Prop where
 len:v.2.1.length≤1048576
 cJ:dn v.2.1≤1048576
 bytes:bytesOf v.2.1≤1048576
 each:∀x,x∈v.2.1→(ak x).length≤1048576∧(bN x).length≤1048576∧∀d,d∈ak x→d.1.length≤1048576
theorem afp{v:af.D}(h:ad.cost af v≤1048576):uJ v:=by
 rw [Mk] at h
 refine⟨by omega,?_,?_,fun x hx=>?_⟩
 ·have:=zs (f:=fun y:aK=>(ak y).length) (g:=qE) v.2.1 fun x _=>by
   unfold qE;rw [Fk];have:=T2 (t:=aw) (ak x);omega
  unfold dn;omega
 ·have:=zs (f:=fun y:aK=>(bN y).length) (g:=qE) v.2.1 fun x _=>by
   unfold qE;rw [Fk];omega
  unfold bytesOf;omega
 ·have h1:=Fj (f:=qE) hx
  unfold qE at h1
  rw [Fk] at h1
  have h:v.2.1.length +(v.2.1.map fun y=>ad.cost I y).sum≤1048576:=h
  have h1:(bN x).length+ad.cost (.sl aw) (ak x)≤(v.2.1.map fun y=>ad.cost I y).sum:=h1
  have h2:=T2 (t:=aw) (ak x)
  refine⟨by omega,by omega,fun d ag=>?_⟩
  obtain ⟨i,hi,he⟩:=fg ag
  have h3:=aeU (t:=aw) hi
  rw [he,Uy] at h3
  omega
def mm(v:af.D)(i:Nat):Bool :=
 c3 (J I v.2.1 i).1 1 (aH (v.1-1)) && !(decide (0<i)&&decide ((J I v.2.1 (i-1)).1≥(J I v.2.1 i).1))&&nk v.2.1 (J I v.2.1 i)
def jV(l:List aK)(i:Nat):Bool :=
 J .bool (dK l 1) (i+1) && !((J I l (i+1)).2.1==2&&((cg l (J I l (i+1)).1:Int) != 1))
def jd(v:af.D):Bool :=
 c3 v.1 2 100000&&c3 (v.2.1.length:Int) 1 24&&(J I v.2.1 0).1==1&&(J I v.2.1 0).2.1==2 &&
  cond (fe v.2.1.length (mm v)) (cond (fe (v.2.1.length-1) (jV v.2.1)) (decide ((bytesOf v.2.1:Int)≤400) && !f' v.2.1) false) false
theorem Uz{v:af.D}(h:∀j,j<v.2.1.length→mm v j=true):hR v.2.1:=by
 have cw:∀d j,j+d+1<v.2.1.length→(J I v.2.1 j).1<(J I v.2.1 (j+d+1)).1:=by
  have h1:∀j,j+1<v.2.1.length→(J I v.2.1 j).1<(J I v.2.1 (j+1)).1:=by
   intro j hj
   have:=h (j+1) hj
   unfold mm at this
   simp only [Bool.and_eq_true,Bool.not_eq_true',Bool.and_eq_false_iff,decide_eq_false_iff_not] at this
   obtain ⟨⟨_,h2⟩,_⟩:=this
   rcases h2 with h2 | h2
   ·omega
   ·rw [Nat.add_sub_cancel] at h2;exact Int.not_le.1 h2
  intro d
  induction d with
  | zero=>intro j hj;exact h1 j hj
  | succ d ih=>intro j hj;exact Int.lt_trans (ih j (by omega)) (h1 (j+d+1) hj)
 intro x hx
 unfold bj
 rw [hP]
 refine⟨hx,by simp,fun j hj=>?_⟩
 obtain ⟨d,rfl⟩:∃d,x=j+d+1:=⟨x-j-1,by omega⟩
 have:=cw d j hx
 rw [beq_eq_false_iff_ne]
 exact Int.ne_of_lt this
theorem UA{v:af.D}(h:∀j,j<v.2.1.length→mm v j=true){i:Nat}(hi:i<v.2.1.length):nk v.2.1 (J I v.2.1 i)=true:=by
 have:=h i hi
 unfold mm at this
 simp only [Bool.and_eq_true] at this
 exact this.2
theorem UB{l:List aK}{x:aK}(h:nk l x=true):(x.2.1≠2→ej x=0∧dC x=0∧ak x=[])∧∀d,d∈ak x→(bj l d.2.1).isSome=true:=by
 unfold nk at h
 simp only [Bool.and_eq_true] at h
 obtain ⟨_,h⟩:=h
 have au:plain x=true→ej x=0∧dC x=0∧ak x=[]:=by
  intro au
  unfold plain at au
  simp only [Bool.and_eq_true,beq_iff_eq] at au
  exact⟨au.1.2,au.2,List.length_eq_zero_iff.1 (by omega)⟩
 by_cases h1:x.2.1=1
 ·rw [cB h1] at h
  simp only [cond_true,Bool.and_eq_true] at h
  obtain ⟨ec,fc,fT⟩:=au h.1
  exact⟨fun _=>⟨ec,fc,fT⟩,by rw [fT];simp⟩
 ·rw [bG h1] at h
  by_cases h3:x.2.1=3
  ·rw [cB h3] at h
   simp only [cond_true,cond_false,Bool.and_eq_true] at h
   obtain ⟨ec,fc,fT⟩:=au h.1.1
   exact⟨fun _=>⟨ec,fc,fT⟩,by rw [fT];simp⟩
  ·rw [bG h3] at h
   by_cases h2:x.2.1=2
   ·rw [cB h2] at h
    simp only [cond_true,cond_false,Bool.and_eq_true] at h
    refine⟨fun hn=>absurd h2 hn,fun d ag=>?_⟩
    have hN:=h.2
    unfold r' at hN
    simp only [Bool.and_eq_true] at hN
    obtain ⟨i,hi,he⟩:=fg ag
    have:=kI.1 hN.1 i hi
    unfold oj at this
    simp only [Bool.and_eq_true] at this
    rw [← he];exact this.2
   ·rw [bG h2] at h
    simp at h
theorem afq{v:af.D}(h:∀j,j<v.2.1.length→mm v j=true):qC v.2.1:=fun i hi d ag=>(UB (UA h hi)).2 d ag
theorem Fl{v:af.D}{i:Nat}(hi:i<v.2.1.length)(hl:v.2.1.length≤1048576)(K:Option (Bool×Unit)) :
  cond (!c3 (J I v.2.1 i).1 1 (aH (v.1-1))) (some (false,()))
   (cond (decide ((i:Int)>0)) ((aN v.2.1.length (aH ((i:Int)-1))).bind fun j=>cond (decide ((J I v.2.1 j).1≥(J I v.2.1 i).1)) (some (false,())) (cond (!nk v.2.1 (J I v.2.1 i)) (some (false,())) K))
    (cond (!nk v.2.1 (J I v.2.1 i)) (some (false,())) K))=cond (mm v i) K (some (false,())):=by
 unfold mm
 cases i with
 | zero =>
  simp only [L2,Nat.lt_irrefl,decide_false,cond_false,Bool.false_and,Bool.not_false,Bool.and_true,L0,nh]
 | succ i =>
  rw [L1 hi (by omega)]
  simp only [L3,Nat.zero_lt_succ,decide_true,cond_true,av,Nat.add_sub_cancel,Bool.true_and,L0,nh]
theorem Ml(v:af.D)(hv:uJ v):yX (v,())=some (jd v,()):=by
 obtain ⟨hl,hn,hb,he⟩:=hv
 show C7 (m7 aP) v=_
 unfold C7
 simp only [jy,av]
 unfold jd
 cases h1:c3 v.1 2 100000
 ·rfl
 cases h2:c3 (v.2.1.length:Int) 1 24
 ·rfl
 have fJ:=(dG.1 h2)
 simp only [Bool.not_true,cond_false]
 rw [show(0:Int)=((0:Nat):Int) from rfl,bx (show 0<v.2.1.length by omega)]
 simp only [av]
 cases h3:(J I v.2.1 0).1==1
 ·rw [c0 (by simpa using h3)];rfl
 rw [dH (by simpa using h3)]
 simp only [cond_false]
 cases h4:(J I v.2.1 0).2.1==2
 ·rw [c0 (by simpa using h4)];rfl
 rw [dH (by simpa using h4)]
 simp only [cond_false,Bool.true_and]
 have key:=zB v.2.1.length 1 (fun m i=>(m7 m).bf (i:Int) v) (mm v) (some (false,())) (some (cond (fe (v.2.1.length-1) (jV v.2.1)) (decide ((bytesOf v.2.1:Int)≤400) && !f' v.2.1) false,())) (1 +(v.2.1.length-1)*1+1) (fun i hi _ au B y aM=>by
  refine aM.step fun m=>?_
  show tU (m7 m) _ _=_
  unfold tU
  rw [ck hi,bx hi]
  simp only [cond_true,av,jy]
  have hx:=he _ (cI hi)
  rw [Up v _ hl hx.1,db i (by omega)]
  simp only [av]
  rw [Fl hi hl,au];rfl) (fun i hi _ au=>by
  refine bZ.done fun m=>?_
  show tU (m7 m) _ _=_
  unfold tU
  rw [ck hi,bx hi]
  simp only [cond_true,av,jy]
  have hx:=he _ (cI hi)
  rw [Up v _ hl hx.1,db i (by omega)]
  simp only [av]
  rw [Fl hi hl,au];rfl) (fun p0=>by
  have hF:=Uk v.2.1 1
  have k2:=zB (v.2.1.length-1) 1 (fun m i=>(m7 m).cZ ((i+1:Nat):Int) v (dK v.2.1 1)) (jV v.2.1) (some (false,())) (some (decide ((bytesOf v.2.1:Int)≤400) && !f' v.2.1,())) 1 (fun i hi _ au B y aM=>by
   refine aM.step fun m=>?_
   show tV (m7 m) _ _ _=_
   unfold tV
   have gp:i+1<v.2.1.length:=by omega
   rw [ck gp,bx gp,hF,bx gp]
   simp only [cond_true,av,Nat.zero_add]
   rw [E_ v _ hl hn,db (i+1) (by omega)]
   simp only [av]
   unfold jV at au
   simp only [Bool.and_eq_true,Bool.not_eq_true'] at au
   rw [au.1]
   have jM:=au.2
   cases g1:(J I v.2.1 (i+1)).2.1==2
   ·rfl
   ·rw [g1] at jM
    simp only [Bool.true_and] at jM
    rw [jM];rfl) (fun i hi _ au=>by
   refine bZ.done fun m=>?_
   show tV (m7 m) _ _ _=_
   unfold tV
   have gp:i+1<v.2.1.length:=by omega
   rw [ck gp,bx gp,hF,bx gp]
   simp only [cond_true,av,Nat.zero_add]
   rw [E_ v _ hl hn,db (i+1) (by omega)]
   simp only [av]
   unfold jV at au
   cases g0:J .bool (dK v.2.1 1) (i+1)
   ·rfl
   ·rw [g0] at au
    simp only [Bool.true_and,Bool.not_eq_false'] at au
    simp only [Bool.and_eq_true] at au
    rw [au.1,au.2];rfl) (fun _=>bZ.done fun m=>by
   rw [show v.2.1.length-1+1=v.2.1.length by omega]
   show tV (m7 m) _ _ _=_
   unfold tV
   rw [cG (Nat.le_refl _),L7 v hl hb]
   simp only [cond_false,av]
   rw [Uv v hl hn hb (fun i hi hk=>by have:=(UB (UA p0 hi)).1 hk;exact⟨this.1,this.2.1⟩)]
   simp only [av,ml,T6])
  have k3:=k2.step (f:=fun m=>(m7 m).bf ((v.2.1.length:Nat):Int) v) fun m=>by
   show tU (m7 m) _ _=_
   unfold tU
   rw [cG (Nat.le_refl _),Ud v 1 hl hn];rfl
  rw [show cond (fe (v.2.1.length-1) (jV v.2.1)) (some (decide ((bytesOf v.2.1:Int)≤400) && !f' v.2.1,())) (some (false,()))=some (cond (fe (v.2.1.length-1) (jV v.2.1)) (decide ((bytesOf v.2.1:Int)≤400) && !f' v.2.1) false,()) from ml _ _ _] at k3
  exact k3)
 have:=kK key (by omega)
 rw [this,ml]
theorem UC{l:List aK}{i:Nat} : J I (l.drop 1) i=J I l (i+1):=by
 unfold J
 rw [List.getD_eq_getElem?_getD,List.getD_eq_getElem?_getD,List.getElem?_drop,Nat.add_comm 1 i]
theorem Fm(v:af.D)(hv:uJ v):wC (v,())=some (jd v,()):=by
 obtain ⟨hl,hn,hb,he⟩:=hv
 show DE (m8 aP) v=_
 unfold DE
 simp only [i',av]
 unfold jd
 cases h1:c3 v.1 2 100000
 ·rfl
 cases h2:c3 (v.2.1.length:Int) 1 24
 ·rfl
 have fJ:=(dG.1 h2)
 simp only [Bool.not_true,cond_false]
 rw [show(0:Int)=((0:Nat):Int) from rfl,bx (show 0<v.2.1.length by omega)]
 simp only [av]
 cases h3:(J I v.2.1 0).1==1
 ·rw [c0 (by simpa using h3)];rfl
 rw [dH (by simpa using h3)]
 simp only [cond_false]
 cases h4:(J I v.2.1 0).2.1==2
 ·rw [c0 (by simpa using h4)];rfl
 rw [dH (by simpa using h4)]
 simp only [cond_false,Bool.true_and]
 have key:=zB v.2.1.length 1 (fun m i=>(m8 m).bf v.2.1 (v.2.1.length:Int) (i:Int) v) (mm v) (some (false,())) (some (cond (fe (v.2.1.length-1) (jV v.2.1)) (decide ((bytesOf v.2.1:Int)≤400) && !f' v.2.1) false,())) (1 +(v.2.1.length-1)*1+1) (fun i hi _ au B y aM=>by
  refine aM.step fun m=>?_
  show ug (m8 m) _ _ _ _=_
  unfold ug
  rw [ck hi,bx hi]
  simp only [cond_true,av,i']
  have hx:=he _ (cI hi)
  rw [Uq v _ hl hx.1 hx.2.2 hx.2.1,db i (by omega)]
  simp only [av]
  rw [Fl hi hl,au];rfl) (fun i hi _ au=>by
  refine bZ.done fun m=>?_
  show ug (m8 m) _ _ _ _=_
  unfold ug
  rw [ck hi,bx hi]
  simp only [cond_true,av,i']
  have hx:=he _ (cI hi)
  rw [Uq v _ hl hx.1 hx.2.2 hx.2.1,db i (by omega)]
  simp only [av]
  rw [Fl hi hl,au];rfl) (fun p0=>by
  obtain ⟨out,hf,BQ⟩:=Mg v hl hn 1
  have hdl:(v.2.1.drop 1).length=v.2.1.length-1:=by simp
  have hol:=hf.len
  have iX:∀i,i+1<v.2.1.length→decide ((J I v.2.1 (i+1)).1∈out)=J .bool (dK v.2.1 1) (i+1):=by
   intro i hi
   rw [Bool.eq_iff_iff,decide_eq_true_eq,hf.iff]
   exact(wT v.2.1 (Uz p0) 1 hi).symm
  have k2:=zB (v.2.1.length-1) 1 (fun m i=>(m8 m).cZ (v.2.1.drop 1) ((v.2.1.drop 1).length:Int) (i:Int) v out) (jV v.2.1) (some (false,())) (some (decide ((bytesOf v.2.1:Int)≤400) && !f' v.2.1,())) 1 (fun i hi _ au B y aM=>by
   refine aM.step fun m=>?_
   show uh (m8 m) _ _ _ _ _=_
   unfold uh
   have gp:i+1<v.2.1.length:=by omega
   rw [ck (by omega),bx (by omega)]
   simp only [cond_true,av]
   rw [show J I (List.drop 1 v.2.1) i=J I v.2.1 (i+1) from UC]
   rw [contains_eq _ _ (by omega)]
   simp only [av]
   rw [iX i gp,E' v _ hl hn,db i (by omega)]
   simp only [av]
   unfold jV at au
   simp only [Bool.and_eq_true,Bool.not_eq_true'] at au
   rw [au.1]
   have jM:=au.2
   cases g1:(J I v.2.1 (i+1)).2.1==2
   ·rfl
   ·rw [g1] at jM
    simp only [Bool.true_and] at jM
    rw [jM];rfl) (fun i hi _ au=>by
   refine bZ.done fun m=>?_
   show uh (m8 m) _ _ _ _ _=_
   unfold uh
   have gp:i+1<v.2.1.length:=by omega
   rw [ck (by omega),bx (by omega)]
   simp only [cond_true,av]
   rw [show J I (List.drop 1 v.2.1) i=J I v.2.1 (i+1) from UC]
   rw [contains_eq _ _ (by omega)]
   simp only [av]
   rw [iX i gp,E' v _ hl hn,db i (by omega)]
   simp only [av]
   unfold jV at au
   cases g0:J .bool (dK v.2.1 1) (i+1)
   ·rfl
   ·rw [g0] at au
    simp only [Bool.true_and,Bool.not_eq_false'] at au
    simp only [Bool.and_eq_true] at au
    rw [au.1,au.2];rfl) (fun _=>bZ.done fun m=>by
   show uh (m8 m) _ _ _ _ _=_
   unfold uh
   rw [cG (by omega),L8 v hl hb]
   simp only [cond_false,av]
   rw [Uu v hl hn hb (Uz p0) (afq p0)]
   simp only [av,ml,T6])
  have k3:=k2.step (f:=fun m=>(m8 m).bf v.2.1 (v.2.1.length:Int) ((v.2.1.length:Nat):Int) v) fun m=>by
   show ug (m8 m) _ _ _ _=_
   unfold ug
   rw [cG (Nat.le_refl _),BQ]
   simp only [cond_false,av]
   unfold dZ
   rw [if_pos ⟨by omega,by omega,Int.le_refl _⟩]
   simp only [av,Int.toNat_natCast]
   have:part v.2.1 (Int.toNat 1) (v.2.1.length-Int.toNat 1)=v.2.1.drop 1:=LZ v.2.1 1
   rw [this];rfl
  rw [show cond (fe (v.2.1.length-1) (jV v.2.1)) (some (decide ((bytesOf v.2.1:Int)≤400) && !f' v.2.1,())) (some (false,()))=some (cond (fe (v.2.1.length-1) (jV v.2.1)) (decide ((bytesOf v.2.1:Int)≤400) && !f' v.2.1) false,()) from ml _ _ _] at k3
  exact k3)
 have:=kK key (by omega)
 rw [this,ml]
def wW(l:List Int)(i:Nat):Bool:=c3 (J (.int .i64) l i) 0 1000
def df(c:aJ.D):Bool:=c3 c.1 0 1000&&(c3 c.2.1 0 1000&&(decide ((c.2.2.1.length:Int)≤4)&&fe c.2.2.1.length (wW c.2.2.1)))
theorem UD(a b:Int):decide (a>b) = !decide (a≤b):=by
 by_cases h:a≤b <;> simp [h] <;> omega
theorem Fo(c:aJ.D):wh (c,())=some (df c,()):=by
 show BZ (tq aP) c=_
 unfold BZ df
 simp only [jy,av]
 cases c3 c.1 0 1000
 ·rfl
 cases c3 c.2.1 0 1000
 ·rfl
 simp only [Bool.not_true,cond_false,Bool.true_and,UD,nh]
 by_cases hl:(c.2.2.1.length:Int)≤4
 case neg=>rw [decide_eq_false hl];rfl
 rw [decide_eq_true hl]
 simp only [cond_true,Bool.true_and]
 have:=r6 c.2.2.1.length (by omega) (wW c.2.2.1) true (fun m i=>tq m i c) (fun m _=>by
  simp only [tq,B0]
  rw [cG (Nat.le_refl _)];rfl) (fun m i hi _ hw=>by
  simp only [tq,B0,hw]
  rw [ck hi,bx hi]
  simp only [cond_true,av,jy,nh,wW])
 rw [Bool.and_true] at this
 exact this
theorem Fp(c:aJ.D):wD (c,())=some (df c,()):=by
 show Ka c=_
 unfold Ka df
 simp only [i',av]
 cases c3 c.1 0 1000
 ·rfl
 cases c3 c.2.1 0 1000
 ·rfl
 simp only [Bool.not_true,cond_false,Bool.true_and,UD,nh]
 by_cases hl:(c.2.2.1.length:Int)≤4
 case neg=>rw [decide_eq_false hl];rfl
 rw [decide_eq_true hl]
 simp only [cond_true,Bool.true_and]
 have h:J' (c.2.2.1,())=some ((e8 c.2.2.1.length fun i => !wW c.2.2.1 i).isSome,()):=by
  show J_ c.2.2.1=_
  unfold J_
  have h:J9 (c.2.2.1,())=some (gN (e8 c.2.2.1.length fun i => !wW c.2.2.1 i),()):=by
   show DG (ui aP) c.2.2.1=_
   unfold DG
   refine r7 c.2.2.1.length (by omega) _ (fun o=>some (gN o,())) (fun m i=>ui m c.2.2.1 (c.2.2.1.length:Int) i) ?_ ?_
   ·intro m
    simp only [ui,DH]
    rw [cG (Nat.le_refl _)];rfl
   ·intro m i hi hw
    simp only [ui,DH,hw]
    rw [ck hi,bx hi]
    simp only [cond_true,av]
    show Option.bind (J8 (J (ad.int .i64) c.2.2.1 i)) _=_
    unfold J8
    rw [i'];rfl
  rw [h]
  simp only [av,zv]
 rw [h]
 simp only [av]
 congr 2
 rw [Bool.eq_iff_iff,kI]
 cases hf:e8 c.2.2.1.length fun i => !wW c.2.2.1 i with
 | none =>
  simp only [Option.isSome_none,Bool.not_false,true_iff]
  exact fun i hi=>by have:=lz.1 hf i hi;simpa using this
 | some i =>
  simp only [Option.isSome_some,Bool.not_true,Bool.false_eq_true,false_iff]
  obtain ⟨h1,h2,_⟩:=hP.1 hf
  exact fun h=>by rw [h i h1] at h2;cases h2
theorem UE{c:aJ.D}(h:df c=true):c.2.2.1.length≤4:=by
 simp only [df,Bool.and_eq_true,decide_eq_true_eq] at h;omega
def mn(c:aJ.D)(g:Int):Bool:=c.2.1==g||decide (g∈c.2.2.1)
theorem afr{l:List Int}{i:Nat}(g:Int)(hi:i<l.length):decide (g∈l.drop i)=(J (.int .i64) l i==g||decide (g∈l.drop (i+1))):=by
 have h:=drop_cons (t:=.int .i64) hi
 have h:l.drop i=J (.int .i64) l i :: l.drop (i+1):=h
 rw [h,Bool.eq_iff_iff]
 simp only [List.mem_cons,decide_eq_true_eq,Bool.or_eq_true,beq_iff_eq]
 constructor
 ·rintro (h | h)
  ·exact .inl h.symm
  ·exact .inr h
 ·rintro (h | h)
  ·exact .inl h.symm
  ·exact .inr h
theorem Mm(c:aJ.D)(g:Int)(hc:df c=true):ts (c,g,())=some (mn c g,()):=by
 show B2 (tr aP) c g=_
 unfold B2 mn
 rw [Fo,hc]
 simp only [av,Bool.not_true,cond_false]
 have hl:=UE hc
 have key:∀(r i m:Nat) (b:Bool),i+r=c.2.2.1.length→r<m→tr m g b (i:Int) c=some (b||decide (g∈c.2.2.1.drop i),()):=by
  intro r
  induction r with
  | zero =>
   intro i m b hi hm
   obtain ⟨m,rfl,_⟩:=fuel hm
   simp only [tr,B3]
   rw [cG (by omega),List.drop_of_length_le (by omega)]
   simp
  | succ r ih =>
   intro i m b hi hm
   obtain ⟨m,rfl,hq⟩:=fuel hm
   have cw:i<c.2.2.1.length:=by omega
   simp only [tr,B3]
   rw [ck cw,db i (by omega),afr g cw]
   simp only [cond_true]
   cases b
   ·simp only [cond_false]
    rw [bx cw]
    simp only [av]
    rw [ih (i+1) m _ (by omega) (by omega)]
    simp
   ·simp only [cond_true]
    rw [ih (i+1) m _ (by omega) (by omega)]
    simp
 have:=key c.2.2.1.length 0 aP (c.2.1==g) (by omega) (iZ (by omega))
 simpa using this
theorem Mn(c:aJ.D)(g:Int)(hc:df c=true):ur (c,g,())=some (mn c g,()):=by
 show Kf c g=_
 unfold Kf mn
 have hl:=UE hc
 rw [Fp,hc]
 simp only [av,cond_true]
 rw [contains_eq _ _ (by omega)]
 simp only [av]
 rw [show(g==c.2.1)=(c.2.1==g) by rw [Bool.eq_iff_iff,beq_iff_eq,beq_iff_eq];exact⟨Eq.symm,Eq.symm⟩]
 cases c.2.1==g <;> rfl
def kindOf(x:aK):Int:=x.2.1
def eU(x:aK):Int:=x.2.2.1
def ek(x:aK):Int:=x.2.2.2.1
def e9(x:aK):Int:=x.2.2.2.2.1
def ki(a b:Int):Int:=cN .and .i64 a b
def three(c:aJ.D)(n:aK):Int :=
 cond (c.1==ek n) (Int.fdiv (eU n) (2 ^ min (Int.toNat 6) 64)) (cond (mn c (e9 n)) (Int.fdiv (eU n) (2 ^ min (Int.toNat 3) 64)) (eU n))
def may(c:aJ.D)(n:aK)(w:Int):Bool :=
 c3 w 0 7&&cond (c.1==0) (ki w 1==0||(kindOf n != 1||ki (eU n) 73 != 0)) (ki (ki (three c n) 7) w==w)
theorem pj(c:aJ.D)(n:aK)(w:Int)(hc:df c=true):jO (c,n,w,())=some (may c n w,()):=by
 show I9 c n w=_
 unfold I9 may three
 rw [Fo,hc,jy]
 simp only [av,Bool.not_true,cond_false]
 cases c3 w 0 7
 ·rfl
 simp only [Bool.not_true,cond_false,Bool.true_and]
 cases c.1==0
 ·simp only [cond_false]
  rw [Mm c _ hc]
  simp only [av]
  show cond (mn c (e9 n)) (cond (c.1==ek n) _ _) (cond (c.1==ek n) _ _)=_
  cases mn c (e9 n) <;> cases c.1==ek n <;> rfl
 ·simp only [cond_true]
  show cond (ki w 1==0) _ (cond (kindOf n != 1) _ (some (ki (eU n) 73 != 0,())))=_
  cases ki w 1==0 <;> cases kindOf n != 1 <;> rfl
theorem zC(c:aJ.D)(n:aK)(w:Int)(hc:df c=true):pa (c,n,w,())=some (may c n w,()):=by
 show Kg c n w=_
 unfold Kg may three
 rw [Fp,hc,i']
 simp only [av,Bool.not_true,cond_false]
 cases c3 w 0 7
 ·rfl
 simp only [Bool.not_true,cond_false,Bool.true_and]
 cases c.1==0
 ·simp only [cond_false]
  rw [Mn c _ hc]
  simp only [av]
  show cond (c.1==ek n) _ (cond (mn c (e9 n)) _ _)=_
  cases mn c (e9 n) <;> cases c.1==ek n <;> rfl
 ·simp only [cond_true]
  show cond (kindOf n != 1) _ (cond (ki (eU n) 73 != 0) _ (some (ki w 1==0,())))=_
  cases ki w 1==0 <;> cases kindOf n != 1 <;> cases ki (eU n) 73 != 0 <;> rfl
def pk(c:aJ.D)(d n:aK):Bool:=ki (eU d) 512==0||(c.1==0||(c.1==ek d||c.1==ek n))
theorem Mo(c:aJ.D)(d n:aK)(hc:df c=true):wj (c,d,n,())=some (pk c d n,()):=by
 show Jh c d n=_
 unfold Jh pk
 rw [Fo,hc]
 simp only [av,Bool.not_true,cond_false]
 show cond (ki (eU d) 512==0) _ (cond (c.1==0) _ (cond (c.1==ek d) _ (some (c.1==ek n,()))))=_
 cases ki (eU d) 512==0 <;> cases c.1==0 <;> cases c.1==ek d <;> rfl
theorem Mp(c:aJ.D)(d n:aK)(hc:df c=true):r0 (c,d,n,())=some (pk c d n,()):=by
 show Kv c d n=_
 unfold Kv pk
 rw [Fp,hc]
 simp only [av,cond_true]
 show cond (ki (eU d) 512==0) _ (cond (c.1==0) _ (cond (c.1==ek d) _ (some (c.1==ek n,()))))=_
 cases ki (eU d) 512==0 <;> cases c.1==0 <;> cases c.1==ek d <;> rfl
def sa(s:List UInt8):Bool:=ja s&&nb s 0==47
theorem afs(s:List UInt8)(i:Nat):((s.getD i 0).toNat:Int)=nb s i:=rfl
theorem Fq(s:List UInt8):B7 (s,())=some (sa s,()):=by
 show B5 (tt aP) s=_
 unfold B5 sa ja
 simp only [jy,av]
 by_cases hl:c3 (s.length:Int) 1 60=true
 case neg=>rw [Bool.not_eq_true] at hl;rw [hl];simp
 have hb:=dG.1 hl
 rw [hl]
 simp only [Bool.not_true,cond_false,Bool.and_true]
 rw [show aN s.length 0=some 0 from bx (i:=0) (by omega)]
 simp only [av,afs,bne,nh]
 cases nb s 0==47
 ·simp
 simp only [cond_true,Bool.and_true]
 have:=r6 s.length (by omega) (fun i=>nb s i==47||r8 (nb s i)) true (fun m i=>tt m s i) (fun m _=>by
  simp only [tt,B6]
  rw [cG (Nat.le_refl _)];rfl) (fun m i hi _ hw=>by
  simp only [tt,B6,hw]
  rw [ck hi,bx hi]
  simp only [cond_true,av,E8,nh,E7,bne];rfl)
 rw [Bool.and_true] at this
 exact this
theorem Fs(s:List UInt8)(hl:s.length≤4000000000000000000):Ke (s,())=some (sa s,()):=by
 show Kd s=_
 unfold Kd sa
 rw [L5 s hl]
 simp only [av]
 by_cases ht:ja s=true
 case neg=>rw [Bool.not_eq_true] at ht;rw [ht];rfl
 rw [ht]
 have:1≤s.length:=by
  unfold ja at ht
  rw [Bool.and_eq_true] at ht
  have:=dG.1 ht.2
  omega
 simp only [cond_true]
 rw [show aN s.length 0=some 0 from bx (i:=0) (by omega)]
 rfl
theorem uK(v:af.D)(hl:v.2.1.length≤1048576)(hn:∀i,i<v.2.1.length→(ak (J I v.2.1 i)).length≤1048576):lu (v,())=some (v,()):=by
 show yh (o2 aP) v=_
 unfold yh
 have:=mj v.2.1.length (by omega) (fun m i=>o2 m i v (0,([]:List I.D),()) (v.1,v.2.1.take i.toNat,())) (fun _=>some (v,())) (fun _=>True) (fun m _=>by
  simp only [o2,yi]
  rw [cG (Nat.le_refl _)]
  simp only [Int.toNat_natCast,List.take_length,cond_false]) (fun m i hi _ hw ih=>by
  simp only [o2,yi]
  rw [ck hi,bx hi]
  simp only [cond_true,av,Int.toNat_natCast]
  have aft:=hn i hi
  show cond (room (0 +(ak (J I v.2.1 i)).length)) _ _=_
  rw [cE (by omega)]
  simp only [cond_true]
  unfold QT
  show cond (room ((v.2.1.take i).length+1)) _ _=_
  rw [cE (by rw [List.length_take];omega)]
  simp only [cond_true]
  unfold QS
  rw [hw]
  have ih:=ih trivial
  rw [show((i:Int)+1).toNat=i+1 by omega,List.take_succ_eq_append_getElem hi,← c6 (t:=I) hi] at ih
  exact ih) v.2.1.length 0 aP (by omega) (iZ (by omega)) trivial
 simpa using this
theorem afu(v:af.D)(hl:v.2.1.length≤1048576)(hn:∀i,i<v.2.1.length→(ak (J I v.2.1 i)).length≤1048576):rT (v,())=some (v,()):=by
 show DK (uk aP) v=_
 unfold DK
 have:=mj v.2.1.length (by omega) (fun m i=>uk m v.2.1 (v.2.1.length:Int) i (0,([]:List I.D),()) (v.1,v.2.1.take i.toNat,())) (fun _=>some (v,())) (fun _=>True) (fun m _=>by
  simp only [uk,DL]
  rw [cG (Nat.le_refl _)]
  simp only [Int.toNat_natCast,List.take_length,cond_false]) (fun m i hi _ hw ih=>by
  simp only [uk,DL]
  rw [ck hi,bx hi]
  simp only [cond_true,av,Int.toNat_natCast]
  have aft:=hn i hi
  show cond (room (0 +(ak (J I v.2.1 i)).length)) _ _=_
  rw [cE (by omega)]
  simp only [cond_true]
  unfold Rz
  show cond (room ((v.2.1.take i).length+1)) _ _=_
  rw [cE (by rw [List.length_take];omega)]
  simp only [cond_true]
  unfold Ry
  rw [hw]
  have ih:=ih trivial
  rw [show((i:Int)+1).toNat=i+1 by omega,List.take_succ_eq_append_getElem hi,← c6 (t:=I) hi] at ih
  exact ih) v.2.1.length 0 aP (by omega) (iZ (by omega)) trivial
 simpa using this
theorem oo{β : Type}(W:Nat)(F:Nat→Nat → β)(y : β):∀(k B:Nat),(∀i,i<k→∀B y,bZ (fun m=>F m (i+1)) B y→bZ (fun m=>F m i) (B+W) y)→bZ (fun m=>F m k) B y→bZ (fun m=>F m 0) (B+k*W) y
 | 0,B,_,h=>by simpa using h
 | k+1,B,hf,h=>by
  have:=oo W F y k (B+W) (fun i hi=>hf i (by omega)) (hf k (by omega) B y h)
  rw [Nat.add_one_mul]
  rwa [show B +(k*W+W)=B+W+k*W by omega]
theorem UF{β : Type}(n W:Nat)(F:Nat→Nat → β)(P:Nat→Bool)(R:Option Nat → β)(B:Nat)(hn:bZ (fun m=>F m n) B (R none))(hs:∀i,i<n→P i=true→bZ (fun m=>F m i) B (R (some i)))
  (hf:∀i,i<n→P i=false→∀B y,bZ (fun m=>F m (i+1)) B y→bZ (fun m=>F m i) (B+W) y):bZ (fun m=>F m 0) (B+n*W) (R (e8 n P)):=by
 cases h:e8 n P with
 | none=>exact oo W F _ n B (fun i hi=>hf i hi (lz.1 h i hi)) hn
 | some k =>
  obtain ⟨h1,h2,h3⟩:=hP.1 h
  refine(oo W F _ k B (fun i hi=>hf i (by omega) (h3 i hi)) (hs k h1 h2)).mono ?_
  have:k*W≤n*W:=Nat.mul_le_mul_right _ (by omega)
  omega
theorem je(v:af.D)(id:Int)(hl:v.2.1.length≤1048576){i:Nat}(h:bj v.2.1 id=some i):e7 (v,id,())=some (J I v.2.1 i,()):=by
 show I' v id=_
 unfold I'
 rw [ni v id hl,h]
 simp only [av,gN]
 rw [bx (bX h).1];rfl
theorem Mq(v:af.D)(id:Int)(hl:v.2.1.length≤1048576):wz (v,id,())=some (gN (bj v.2.1 id),v,()):=by
 show De (tY aP) v id=_
 unfold De bj
 refine r7 v.2.1.length (by omega) _ (fun o=>some (gN o,v,())) (fun m i=>tY m id (v.2.1.length:Int) i v) ?_ ?_
 ·intro m
  simp only [tY,Df]
  rw [cG (Nat.le_refl _)];rfl
 ·intro m i hi hw
  simp only [tY,Df,hw]
  rw [ck hi,bx hi]
  simp only [cond_true,av,Nat.zero_add];rfl
theorem mo(v:af.D)(id:Int)(hl:v.2.1.length≤1048576){i:Nat}(h:bj v.2.1 id=some i):fl (v,id,())=some ([J I v.2.1 i],()):=by
 rw [wR v id hl,h];rfl
def kL(l:List aK)(id:Int):Bool:=match bj l id with | some i=>kindOf (J I l i)==2 | none=>false
theorem UG(v:af.D)(id:Int)(hl:v.2.1.length≤1048576):wk (v,id,())=some (kL v.2.1 id,()):=by
 show Jl v id=_
 unfold Jl kL
 rw [ni v id hl]
 simp only [av,zv]
 cases h:bj v.2.1 id with
 | none=>rfl
 | some i =>
  simp only [Option.isSome_some,cond_true,gN]
  rw [bx (bX h).1];rfl
theorem Ft(v:af.D)(id:Int)(hl:v.2.1.length≤1048576):ux (v,id,())=some (kL v.2.1 id,()):=by
 show KD v id=_
 unfold KD kL
 rw [wR v id hl]
 cases h:bj v.2.1 id with
 | none=>rfl
 | some i=>rfl
def qF(N:List aw.D)(s:List UInt8)(j:Nat):Bool:=bu (J aw N j).1 s
def zD(N:List aw.D):Option Nat→Int
 | none=>0
 | some j=>(J aw N j).2.1
def dD(N:List aw.D)(s:List UInt8):Int:=zD N (e8 N.length (qF N s))
theorem afv(v:af.D)(id:Int)(s:List UInt8)(hl:v.2.1.length≤1048576){i:Nat}(h:bj v.2.1 id=some i)(hn:(ak (J I v.2.1 i)).length≤1048576) :
  I_ (v,id,s,())=some (dD (ak (J I v.2.1 i)) s,()):=by
 show Ce (rC aP) v id s=_
 unfold Ce
 rw [ni v id hl,h]
 simp only [av,gN]
 rw [bx (bX h).1]
 simp only [av]
 show rC aP s (ak (J I v.2.1 i)) 0=_
 generalize ak (J I v.2.1 i)=N at hn
 refine r7 N.length (by omega) (qF N s) (fun o=>some (zD N o,())) (fun m j=>rC m s N j) ?_ ?_
 ·intro m
  simp only [rC,Cf]
  rw [cG (Nat.le_refl _)];rfl
 ·intro m j hj hw
  simp only [rC,Cf,hw]
  rw [ck hj,bx hj];rfl
theorem UH(n:aK)(s:List UInt8)(hn:(ak n).length≤1048576):DR (n,s,())=some (dD (ak n) s,()):=by
 show DP (rU aP) n s=_
 unfold DP
 show rU aP s (ak n) ((ak n).length:Int) 0=_
 generalize ak n=N at hn
 refine r7 N.length (by omega) (qF N s) (fun o=>some (zD N o,())) (fun m j=>rU m s N (N.length:Int) j) ?_ ?_
 ·intro m
  simp only [rU,DQ]
  rw [cG (Nat.le_refl _)];rfl
 ·intro m j hj hw
  simp only [rU,DQ,hw]
  rw [ck hj,bx hj];rfl
def kM(N:List aw.D)(id:Int)(j:Nat):Bool:=(J aw N j).2.1==id
def pn(N:List aw.D)(id:Int):Bool:=(e8 N.length (kM N id)).isSome
def Mr(l:List aK):Option Nat→Int
 | none=>1
 | some i=>(J I l i).1
def Fu(l:List aK)(id:Int):Option Nat:=e8 l.length fun i=>pn (ak (J I l i)) id
def jW(l:List aK)(id:Int):Int:=Mr l (Fu l id)
theorem Ms{N:List aw.D}{id:Int}(h:pn N id=false):∀j,j<N.length→kM N id j=false:=by
 unfold pn at h
 cases hf:e8 N.length (kM N id) with
 | none=>exact lz.1 hf
 | some j=>rw [hf] at h;cases h
theorem Fv{N:List aw.D}{id:Int}(h:pn N id=true):∃j,j<N.length∧kM N id j=true∧∀k,k<j→kM N id k=false:=by
 unfold pn at h
 cases hf:e8 N.length (kM N id) with
 | none=>rw [hf] at h;cases h
 | some j=>exact⟨j,hP.1 hf⟩
theorem UI(v:af.D)(id:Int)(hl:v.2.1.length≤1048576)(hn:dn v.2.1≤1048576):Cc (v,id,())=some (jW v.2.1 id,()):=by
 show Cb (kd aP) v id=_
 unfold Cb
 have inner:∀i,i<v.2.1.length→∀j,j<(ak (J I v.2.1 i)).length→kM (ak (J I v.2.1 i)) id j=false→∀B y,bZ (fun m=>(kd m).bs id (i:Int) ((j+1:Nat):Int) v) B y→bZ (fun m=>(kd m).bs id (i:Int) (j:Int) v) (B+1) y:=by
  intro i hi j hj au B y he
  have hnl:=fM hi
  refine he.step fun m=>?_
  show tx (kd m) _ _ _ _=_
  unfold tx
  rw [bx hi]
  simp only [av]
  show cond (decide ((j:Int)<((ak (J I v.2.1 i)).length:Int))) ((aN (ak (J I v.2.1 i)).length (j:Int)).bind fun v3=>cond (kM (ak (J I v.2.1 i)) id v3) _ _) _=_
  rw [ck hj,bx hj]
  simp only [cond_true,av,au,cond_false]
  rw [db j (by omega)]
 have key:=UF v.2.1.length (1048576+2) (fun m i=>(kd m).k2 id (i:Int) v) (fun i=>pn (ak (J I v.2.1 i)) id) (fun o=>some (Mr v.2.1 o,())) (1048576+3) ((bZ.done fun m=>by
   show tw (kd m) _ _ _=_
   unfold tw
   rw [cG (Nat.le_refl _)];rfl).mono (by omega)) (fun i hi au=>by
   have hnl:=fM hi
   obtain ⟨j,h1,h2,h3⟩:=Fv au
   have:=oo 1 (fun m j=>(kd m).bs id (i:Int) (j:Int) v) (some ((J I v.2.1 i).1,())) j 1 (fun k hk=>inner i hi k (by omega) (h3 k hk)) (bZ.done fun m=>by
    show tx (kd m) _ _ _ _=_
    unfold tx
    rw [bx hi]
    simp only [av]
    show cond (decide ((j:Int)<((ak (J I v.2.1 i)).length:Int))) ((aN (ak (J I v.2.1 i)).length (j:Int)).bind fun v3=>cond (kM (ak (J I v.2.1 i)) id v3) _ _) _=_
    rw [ck h1,bx h1]
    simp only [cond_true,av,h2])
   refine(this.step (f:=fun m=>(kd m).k2 id (i:Int) v) fun m=>?_).mono (by omega)
   show tw (kd m) _ _ _=_
   unfold tw
   rw [ck hi];rfl) (fun i hi au B y he=>by
   have hnl:=fM hi
   have h0:=Ms au
   have:=oo 1 (fun m j=>(kd m).bs id (i:Int) (j:Int) v) y (ak (J I v.2.1 i)).length (B+1) (fun k hk=>inner i hi k hk (h0 k hk)) (he.step fun m=>by
    show tx (kd m) _ _ _ _=_
    unfold tx
    rw [bx hi]
    simp only [av]
    show cond (decide (((ak (J I v.2.1 i)).length:Int)<((ak (J I v.2.1 i)).length:Int))) _ _=_
    rw [cG (Nat.le_refl _)]
    simp only [cond_false]
    rw [db i (by omega)])
   refine(this.step (f:=fun m=>(kd m).k2 id (i:Int) v) fun m=>?_).mono (by omega)
   show tw (kd m) _ _ _=_
   unfold tw
   rw [ck hi];rfl)
 have hm:v.2.1.length*(1048576+2)≤1048576*(1048576+2):=Nat.mul_le_mul_right _ hl
 exact kK key (by omega)
theorem UJ(v:af.D)(id:Int)(hl:v.2.1.length≤1048576)(hn:dn v.2.1≤1048576):DN (v,id,())=some (jW v.2.1 id,()):=by
 show DM (kg aP) v id=_
 unfold DM
 have inner:∀i,i<v.2.1.length→∀j,j<(ak (J I v.2.1 i)).length→kM (ak (J I v.2.1 i)) id j=false→∀B y,
   bZ (fun m=>(kg m).bs id v.2.1 (v.2.1.length:Int) (i:Int) (ak (J I v.2.1 i)) ((ak (J I v.2.1 i)).length:Int) ((j+1:Nat):Int) (J I v.2.1 i)) B y →
   bZ (fun m=>(kg m).bs id v.2.1 (v.2.1.length:Int) (i:Int) (ak (J I v.2.1 i)) ((ak (J I v.2.1 i)).length:Int) (j:Int) (J I v.2.1 i)) (B+1) y:=by
  intro i hi j hj au B y he
  have hnl:=fM hi
  refine he.step fun m=>?_
  show uq (kg m) _ _ _ _ _ _ _ _=_
  unfold uq
  rw [ck hj,bx hj]
  simp only [cond_true,av]
  show cond (kM (ak (J I v.2.1 i)) id j) _ _=_
  rw [au,db j (by omega)];rfl
 have key:=UF v.2.1.length (1048576+2) (fun m i=>(kg m).k2 id v.2.1 (v.2.1.length:Int) (i:Int)) (fun i=>pn (ak (J I v.2.1 i)) id) (fun o=>some (Mr v.2.1 o,())) (1048576+3) ((bZ.done fun m=>by
   show uo (kg m) _ _ _ _=_
   unfold uo
   rw [cG (Nat.le_refl _)];rfl).mono (by omega)) (fun i hi au=>by
   have hnl:=fM hi
   obtain ⟨j,h1,h2,h3⟩:=Fv au
   have:=oo 1 (fun m j=>(kg m).bs id v.2.1 (v.2.1.length:Int) (i:Int) (ak (J I v.2.1 i)) ((ak (J I v.2.1 i)).length:Int) (j:Int) (J I v.2.1 i)) (some ((J I v.2.1 i).1,())) j 1 (fun k hk=>inner i hi k (by omega) (h3 k hk)) (bZ.done fun m=>by
    show uq (kg m) _ _ _ _ _ _ _ _=_
    unfold uq
    rw [ck h1,bx h1]
    simp only [cond_true,av]
    show cond (kM (ak (J I v.2.1 i)) id j) _ _=_
    rw [h2];rfl)
   refine(this.step (f:=fun m=>(kg m).k2 id v.2.1 (v.2.1.length:Int) (i:Int)) fun m=>?_).mono (by omega)
   show uo (kg m) _ _ _ _=_
   unfold uo
   rw [ck hi,bx hi];rfl) (fun i hi au B y he=>by
   have hnl:=fM hi
   have h0:=Ms au
   have:=oo 1 (fun m j=>(kg m).bs id v.2.1 (v.2.1.length:Int) (i:Int) (ak (J I v.2.1 i)) ((ak (J I v.2.1 i)).length:Int) (j:Int) (J I v.2.1 i)) y (ak (J I v.2.1 i)).length (B+1) (fun k hk=>inner i hi k hk (h0 k hk)) (he.step fun m=>by
    show uq (kg m) _ _ _ _ _ _ _ _=_
    unfold uq
    rw [cG (Nat.le_refl _)]
    simp only [cond_false]
    rw [db i (by omega)])
   refine(this.step (f:=fun m=>(kg m).k2 id v.2.1 (v.2.1.length:Int) (i:Int)) fun m=>?_).mono (by omega)
   show uo (kg m) _ _ _ _=_
   unfold uo
   rw [ck hi,bx hi];rfl)
 have hm:v.2.1.length*(1048576+2)≤1048576*(1048576+2):=Nat.mul_le_mul_right _ hl
 exact kK key (by omega)
def mq(l:List aK)(N:List aw.D):Nat:=(N.filter fun d=>kL l d.2.1).length
def oq(l:List aK)(n:aK):Int:=cond (kindOf n != 2) (cg l n.1:Int) (2+mq l (ak n):Int)
theorem UK{l:List aK}{N:List aw.D}{j:Nat}(hj:j<N.length):mq l (N.take (j+1))=mq l (N.take j)+cond (kL l (J aw N j).2.1) 1 0:=by
 unfold mq
 rw [List.take_succ_eq_append_getElem hj,List.filter_append,List.length_append]
 congr 1
 rw [c6 hj]
 cases h:kL l (N[j]).2.1 <;> simp [List.filter_cons,h]
theorem UL(l:List aK)(N:List aw.D)(j:Nat):mq l (N.take j)≤N.length:=by
 unfold mq
 refine Nat.le_trans (List.length_filter_le _ _) ?_
 rw [List.length_take];omega
theorem afw(v:af.D)(id:Int)(hl:v.2.1.length≤1048576)(hn:dn v.2.1≤1048576){i:Nat}(h:bj v.2.1 id=some i):CN (v,id,())=some (oq v.2.1 (J I v.2.1 i),()):=by
 show CL (tL aP) v id=_
 unfold CL oq
 obtain ⟨hi,b5⟩:=bX h
 have hnl:=fM hi
 rw [ni v id hl,h]
 simp only [av,zu,Option.isNone_some,cond_false,gN]
 rw [bx hi]
 simp only [av]
 show cond (kindOf (J I v.2.1 i) != 2) _ _=_
 cases kindOf (J I v.2.1 i) != 2
 ·simp only [cond_false]
  have:=mj (ak (J I v.2.1 i)).length (by omega) (fun m j=>tL m (i:Int) (2+mq v.2.1 ((ak (J I v.2.1 i)).take j.toNat):Int) j v) (fun _=>some ((2+mq v.2.1 (ak (J I v.2.1 i)):Int),())) (fun _=>True) (fun m _=>by
   simp only [tL,CM]
   rw [bx hi]
   simp only [av]
   show cond (decide (((ak (J I v.2.1 i)).length:Int)<((ak (J I v.2.1 i)).length:Int))) _ _=_
   rw [cG (Nat.le_refl _)]
   simp only [Int.toNat_natCast,List.take_length,cond_false]) (fun m j hj _ hw ih=>by
   have ih:=ih trivial
   rw [show((j:Int)+1).toNat=j+1 by omega,UK hj] at ih
   have hdl:=UL v.2.1 (ak (J I v.2.1 i)) j
   simp only [tL,CM]
   rw [bx hi]
   simp only [av]
   show cond (decide ((j:Int)<((ak (J I v.2.1 i)).length:Int))) ((aN (ak (J I v.2.1 i)).length (j:Int)).bind fun v3=>(wk (v,(J aw (ak (J I v.2.1 i)) v3).2.1,())).bind _) _=_
   rw [ck hj,bx hj]
   simp only [cond_true,av]
   rw [UG v _ hl]
   simp only [av,hw,Int.toNat_natCast]
   revert ih
   cases kL v.2.1 (J aw (ak (J I v.2.1 i)) j).2.1
   ·intro ih
    exact ih
   ·intro ih
    simp only [cond_true] at ih ⊢
    rw [dI (by omega) (by omega)]
    rw [Int.natCast_add,← Int.add_assoc] at ih
    exact ih) (ak (J I v.2.1 i)).length 0 aP (by omega) (iZ (by omega)) trivial
  simpa [mq] using this
 ·simp only [cond_true]
  rw [E_ v id hl hn,b5];rfl
theorem UM(v:af.D)(n:aK)(hl:v.2.1.length≤1048576)(hn:dn v.2.1≤1048576)(hnl:(ak n).length≤1048576):Es (v,n,())=some (oq v.2.1 n,()):=by
 show Ep (r2 aP) v n=_
 unfold Ep oq
 show cond (kindOf n != 2) _ _=_
 cases kindOf n != 2
 ·simp only [cond_false]
  have:=mj (ak n).length (by omega) (fun m j=>r2 m v (2+mq v.2.1 ((ak n).take j.toNat):Int) (ak n) ((ak n).length:Int) j) (fun _=>some ((2+mq v.2.1 (ak n):Int),())) (fun _=>True) (fun m _=>by
   simp only [r2,Er]
   rw [cG (Nat.le_refl _)]
   simp only [Int.toNat_natCast,List.take_length,cond_false]) (fun m j hj _ hw ih=>by
   have ih:=ih trivial
   rw [show((j:Int)+1).toNat=j+1 by omega,UK hj] at ih
   have hdl:=UL v.2.1 (ak n) j
   simp only [r2,Er]
   rw [ck hj,bx hj]
   simp only [cond_true,av]
   rw [Ft v _ hl]
   simp only [av,hw,Int.toNat_natCast]
   revert ih
   cases kL v.2.1 (J aw (ak n) j).2.1
   ·intro ih
    exact ih
   ·intro ih
    simp only [cond_true] at ih ⊢
    rw [dI (by omega) (by omega)]
    rw [Int.natCast_add,← Int.add_assoc] at ih
    exact ih) (ak n).length 0 aP (by omega) (iZ (by omega)) trivial
  show r2 aP v 2 (ak n) ((ak n).length:Int) 0=_
  simpa [mq] using this
 ·simp only [cond_true]
  rw [E' v _ hl hn];rfl
abbrev aF:Type:=List UInt8
def jf(c:aF):List aF→List aF
 | []=>[c]
 | p :: ps=>(c++p) :: ps
def eK:aF→List aF
 | []=>[[]]
 | b :: l=>cond (b==47) ([] :: eK l) (jf [b] (eK l))
def full(p:aF):Bool := !bu p []
def cut(s:aF):List aF:=(eK s).filter full
theorem afx(c:aF)(l:List aF):jf c l≠[]:=by cases l <;> simp [jf]
theorem Fw(s:aF):eK s≠[]:=by
 cases s with
 | nil=>simp [eK]
 | cons b l=>simp only [eK];cases b==47 <;> simp [afx]
theorem Mt{l:List aF}(h:l≠[]):jf [] l=l:=by cases l <;> simp_all [jf]
theorem afy(a b:aF){l:List aF} : jf a (jf b l)=jf (a++b) l:=by cases l <;> simp [jf]
theorem Mu{p:aF} : full p=false↔p=[]:=by unfold full bu;simp
theorem afz(c:aF):(jf c [[]]).filter full=cond (full c) [c] []:=by
 simp only [jf,List.append_nil,List.filter_cons,List.filter_nil]
 cases full c <;> rfl
theorem afA(s:aF){i:Nat}(h:i<s.length):s.drop i=s.getD i 0 :: s.drop (i+1):=by
 rw [List.drop_eq_getElem_cons h]
 congr 1
 rw [List.getD_eq_getElem?_getD,List.getElem?_eq_getElem h];rfl
theorem afB{s:aF}{a i:Nat}(ha:a≤i)(hi:i<s.length):part s a (i+1-a)=part s a (i-a)++[s.getD i 0]:=by
 unfold part
 rw [show i+1-a=(i-a)+1 by omega,List.take_add_one]
 congr 1
 rw [List.getElem?_drop,show a +(i-a)=i by omega,List.getElem?_eq_getElem hi,List.getD_eq_getElem?_getD,List.getElem?_eq_getElem hi];rfl
theorem UN(b:UInt8):(((b.toNat:Nat):Int)==47)=(b==47):=by
 rw [Bool.eq_iff_iff,beq_iff_eq,beq_iff_eq]
 constructor
 ·intro h
  have:b.toNat=47:=by omega
  exact UInt8.toNat_inj.1 (by rw [this];rfl)
 ·rintro rfl;rfl
theorem afC{s:aF}{a n:Nat}(h:a+n≤s.length):(part s a n).length=n:=by unfold part;rw [List.length_take,List.length_drop];omega
theorem UO{s:aF}{a i:Nat}(ha:a≤i)(hi:i≤s.length):full (part s a (i-a))=decide ((i:Int) >(a:Int)):=by
 by_cases h:a<i
 ·rw [decide_eq_true (show(i:Int) >(a:Int) by omega)]
  rw [← Bool.not_eq_false,Mu]
  intro h0
  have:=afC (s:=s) (a:=a) (n:=i-a) (by omega)
  rw [h0] at this
  simp at this;omega
 ·have:i-a=0:=by omega
  rw [this,decide_eq_false (show ¬(i:Int) >(a:Int) by omega)]
  exact Mu.2 (by simp [part])
theorem UP(s:aF)(hl:s.length≤1048576):yr (s,())=some (cut s,()):=by
 show Ca (p_ aP) s=_
 unfold Ca
 have key:∀(r i m a:Nat) (out:List aF),i+r=s.length→r+1<m→a≤i→out.length≤i→p_ m s (a:Int) (i:Int) out=some (out++(jf (part s a (i-a)) (eK (s.drop i))).filter full,()):=by
  intro r
  induction r with
  | zero =>
   intro i m a out hi hm ha ho
   obtain ⟨m,rfl,oN⟩:=fuel hm
   obtain ⟨m,rfl,_⟩:=fuel oN
   have bJ:i=s.length:=by omega
   have lq:∀(x:Int) (o:List aF),p_ (m+1) s x (aH ((i:Int)+1)) o=some (o,()):=by
    intro x o
    simp only [p_,yq]
    rw [db i (by omega),decide_eq_false (by omega)];rfl
   rw [p_,yq,decide_eq_true (show(i:Int)≤(s.length:Int) by omega),show((i:Int) ==(s.length:Int))=true by simp;omega]
   simp only [cond_true]
   rw [List.drop_of_length_le (by omega),eK,afz,UO ha (by omega)]
   by_cases h:(i:Int) >(a:Int)
   ·rw [decide_eq_true h]
    simp only [cond_true]
    rw [kn ha (by omega)]
    simp only [av]
    rw [cE (by simp only [List.length_cons,List.length_nil];omega)]
    simp only [cond_true,lq]
   ·rw [decide_eq_false h]
    simp only [cond_false,lq,List.append_nil]
  | succ r ih =>
   intro i m a out hi hm ha ho
   obtain ⟨m,rfl,hm⟩:=fuel hm
   have cw:i<s.length:=by omega
   rw [p_,yq,decide_eq_true (show(i:Int)≤(s.length:Int) by omega),show((i:Int) ==(s.length:Int))=false by simp;omega]
   simp only [cond_true,cond_false]
   rw [bx cw,afA s cw,eK]
   simp only [av]
   rw [UN,db i (by omega)]
   cases s.getD i 0==47
   ·simp only [cond_false]
    rw [ih (i+1) m a out (by omega) (by omega) (by omega) (by omega),afy,← afB ha cw]
   ·simp only [cond_true]
    have hz:part s (i+1) (i+1-(i+1))=[]:=by simp [part]
    have hs:(jf (part s a (i-a)) ([] :: eK (s.drop (i+1)))).filter full=cond (full (part s a (i-a))) [part s a (i-a)] []++(eK (s.drop (i+1))).filter full:=by
     simp only [jf,List.append_nil,List.filter_cons]
     cases full (part s a (i-a)) <;> rfl
    rw [hs,UO ha (by omega)]
    by_cases h:(i:Int) >(a:Int)
    ·rw [decide_eq_true h]
     simp only [cond_true]
     rw [kn ha (by omega)]
     simp only [av]
     rw [cE (by simp only [List.length_cons,List.length_nil];omega)]
     simp only [cond_true]
     rw [ih (i+1) m (i+1) _ (by omega) (by omega) (by omega) (by simp;omega),hz,Mt (Fw _),List.append_assoc]
    ·rw [decide_eq_false h]
     simp only [cond_false]
     rw [ih (i+1) m (i+1) _ (by omega) (by omega) (by omega) (by omega),hz,Mt (Fw _),List.nil_append]
 have:=key s.length 0 aP 0 [] (by omega) (iZ (by omega)) (by omega) (by simp)
 rw [show part s 0 (0-0)=[] by simp [part],List.drop_zero,Mt (Fw _)] at this
 simpa [cut] using this
theorem UQ{s:aF}(h:Lib.indexByte s 47 = -1):eK s=[s]∧s.count 47=0:=by
 induction s with
 | nil=>exact⟨rfl,rfl⟩
 | cons b l ih =>
  unfold Lib.indexByte at h
  cases hb:b==47
  ·rw [hb] at h
   simp only [Bool.false_eq_true,if_false] at h
   have hl:Lib.indexByte l 47 = -1:=by
    by_cases h1:Lib.indexByte l 47 = -1
    ·exact h1
    ·have h2:=Lib.indexByte_ge l 47
     rw [if_neg (by simpa using h1)] at h
     omega
   obtain ⟨i1,i2⟩:=ih hl
   refine⟨by rw [eK,hb,i1];rfl,?_⟩
   rw [List.count_cons,i2,hb];rfl
  ·rw [hb] at h;simp at h
theorem UR{s:aF}{k:Nat}(h:Lib.indexByte s 47=(k:Int)):k<s.length∧eK s=s.take k :: eK (s.drop (k+1))∧s.count 47=(s.drop (k+1)).count 47+1:=by
 induction s generalizing k with
 | nil=>unfold Lib.indexByte at h;omega
 | cons b l ih =>
  unfold Lib.indexByte at h
  cases hb:b==47
  ·rw [hb] at h
   simp only [Bool.false_eq_true,if_false] at h
   have h2:=Lib.indexByte_ge l 47
   by_cases h1:Lib.indexByte l 47 = -1
   ·rw [if_pos (by simpa using h1)] at h;omega
   ·rw [if_neg (by simpa using h1)] at h
    obtain ⟨j,rfl⟩:∃j,k=j+1:=⟨k-1,by omega⟩
    obtain ⟨i1,i2,i3⟩:=ih (k:=j) (by omega)
    refine⟨by simp;omega,?_,?_⟩
    ·rw [eK,hb,i2];rfl
    ·rw [List.count_cons,i3,hb];rfl
  ·rw [hb] at h
   simp only [if_true] at h
   have:k=0:=by omega
   subst this
   refine⟨by simp,?_,?_⟩
   ·rw [eK,hb];rfl
   ·rw [List.count_cons,hb];rfl
theorem US(s:aF):Lib.indexByte s 47 = -1∨∃k:Nat,Lib.indexByte s 47=k:=by
 have:=Lib.indexByte_ge s 47
 by_cases h:Lib.indexByte s 47 = -1
 ·exact .inl h
 ·exact .inr ⟨(Lib.indexByte s 47).toNat,by omega⟩
theorem afD(s:aF):DS (s,[47],())=some (Lib.indexByte s 47,()):=by
 show Ki s [47]=_
 unfold Ki
 show Option.bind (Kh s [47]) _=_
 unfold Kh
 by_cases h:bu [47] s=true
 ·rw [h]
  have:s=[47]:=by unfold bu at h;simp only [decide_eq_true_eq] at h;exact h.symm
  subst this;rfl
 ·rw [Bool.not_eq_true] at h
  rw [h]
  rfl
theorem afE(s:aF):Kj (s,[47],())=some ((s.count 47:Int),()):=by
 show DU (DV aP) s [47]=_
 unfold DU
 rfl
theorem afF:∀(r:Nat) (s:aF) (i n m:Nat) (a:List aF),s.length≤1048576→n≤1048576→s.count 47=r→i+r=n→a.length=n+1→r+1<m →
  (qo m).cZ s [47] 0 (n:Int) (i:Int) a=some (a.take i++eK s,()):=by
 intro r
 induction r with
 | zero =>
  intro s i n m a hs hn hc hi ha hm
  obtain ⟨m,rfl,oN⟩:=fuel hm
  obtain ⟨m,rfl,_⟩:=fuel oN
  have:i=n:=by omega
  subst this
  show y4 (qo (m+1)) _ _ _ _ _ _=_
  unfold y4
  rw [cG (Nat.le_refl _)]
  simp only [cond_false]
  show Kl (qo m) _ _ _=_
  unfold Kl
  rw [bx (by omega)]
  simp only [av,Nat.zero_add]
  rw [db i (by omega)]
  show Option.bind (dZ (a.set i s).length ((0:Nat):Int) ((i+1:Nat):Int)) _=_
  rw [kn (by omega) (by rw [List.length_set];omega)]
  simp only [av,Nat.zero_add,Nat.sub_zero]
  have hsp:eK s=[s]:=by
   rcases US s with h | ⟨k,h⟩
   ·exact(UQ h).1
   ·have:=(UR h).2.2;omega
  rw [hsp,zt,List.take_succ_eq_append_getElem (by rw [List.length_set];omega),List.getElem_set_self,List.take_set_of_le (by omega)]
 | succ r ih =>
  intro s i n m a hs hn hc hi ha hm
  obtain ⟨m,rfl,hm⟩:=fuel hm
  show y4 (qo m) _ _ _ _ _ _=_
  unfold y4
  rw [ck (by omega),afD]
  simp only [cond_true,av]
  obtain ⟨k,hk⟩:∃k:Nat,Lib.indexByte s 47=k:=by
   rcases US s with h | h
   ·have:=(UQ h).2;omega
   ·exact h
  obtain ⟨h1,h2,h3⟩:=UR hk
  rw [hk,decide_eq_false (by omega)]
  simp only [cond_false]
  rw [show aH ((k:Int)+0)=(k:Int) by rw [Int.add_zero];exact dI (by omega) (by omega)]
  show Option.bind (dZ s.length ((0:Nat):Int) (k:Int)) _=_
  rw [kn (by omega) (by omega)]
  simp only [av]
  rw [bx (by omega)]
  simp only [av,Nat.zero_add]
  unfold RI
  simp only
  rw [show aH ((k:Int) +(([47]:aF).length:Int))=((k+1:Nat):Int) from db k (by omega),kn (by omega) (Nat.le_refl _)]
  simp only [av]
  rw [LZ,db i (by omega),ih (s.drop (k+1)) (i+1) n m _ (by rw [List.length_drop];omega) hn (by omega) (by omega) (by rw [List.length_set];exact ha) (by omega)]
  rw [h2,List.take_succ_eq_append_getElem (by rw [List.length_set];omega),List.getElem_set_self,List.take_set_of_le (by omega),Nat.sub_zero,zt,List.append_assoc];rfl
theorem afG(s:aF)(hl:s.length≤1048576):Ko (s,[47],())=some (eK s,()):=by
 show Kn s [47]=_
 unfold Kn
 have:Km (s,[47],0,-1,())=some (eK s,()):=by
  show DW (qo aP) s [47] 0 (-1)=_
  unfold DW
  have hcl:s.count 47≤s.length:=List.count_le_length
  rw [afE]
  show(qo aP).dh s [47] 0 (aH ((s.count 47:Int)+1))=_
  obtain ⟨q,hq,hI⟩:=i_ 1
  rw [hq]
  show Kk (qo q) _ _ _ _=_
  unfold Kk
  rw [db _ (by omega),db _ (by omega),show jk ((s.count 47+1:Nat):Int) ((s.length+1:Nat):Int)=((s.count 47+1:Nat):Int) by rw [aeV];omega]
  rw [decide_eq_true (by omega),decide_eq_true rfl,Int.toNat_natCast,cE (by omega)]
  simp only [Bool.and_self,cond_true]
  rw [show aH (((s.count 47+1:Nat):Int)-1)=((s.count 47:Nat):Int) by rw [dI (by omega) (by omega)];omega]
  have:=afF (s.count 47) s 0 (s.count 47) q (List.replicate (s.count 47+1) []) hl (by omega) rfl (by omega) (by simp) (by omega)
  simpa using this
 rw [this];rfl
theorem UT(s:aF)(hl:s.length≤1048576):rW (s,())=some (cut s,()):=by
 show DY (rV aP) s=_
 unfold DY
 rw [afG s hl]
 simp only [av]
 have pf:(eK s).length≤1048577:=by
  have:∀s:aF,(eK s).length≤s.length+1:=by
   intro s
   induction s with
   | nil=>simp [eK]
   | cons b l ih =>
    rw [eK]
    cases b==47
    ·simp only [cond_false,List.length_cons]
     cases hs:eK l with
     | nil=>simp [jf]
     | cons p ps=>rw [hs] at ih;simp only [jf,List.length_cons] at ih ⊢;omega
    ·simp only [cond_true,List.length_cons];omega
  have:=this s;omega
 show rV aP _ _ _ _=some ((eK s).filter full,())
 generalize eK s=l at pf
 have:=mj l.length (by omega) (fun m i=>rV m (l.length:Int) i ((l.take i.toNat).filter full) l) (fun _=>some (l.filter full,())) (fun _=>True) (fun m _=>by
  simp only [rV,DZ]
  rw [cG (Nat.le_refl _)]
  simp only [Int.toNat_natCast,List.take_length,cond_false]) (fun m i hi _ hw ih=>by
  have ih:=ih trivial
  have az:J ad.str l i=l[i]:=c6 (t:=.str) hi
  rw [show((i:Int)+1).toNat=i+1 by omega,List.take_succ_eq_append_getElem hi,List.filter_append,List.filter_cons,List.filter_nil] at ih
  simp only [rV,DZ]
  rw [ck hi,bx hi]
  simp only [cond_true,av,Nat.zero_add,hw,Int.toNat_natCast]
  rw [az]
  show cond (full l[i]) _ _=_
  have hJ:((l.take i).filter full).length≤i:=Nat.le_trans (List.length_filter_le _ _) (by rw [List.length_take];omega)
  cases hf:full l[i]
  ·rw [hf] at ih
   simp only [Bool.false_eq_true,if_false,List.append_nil] at ih
   exact ih
  ·rw [hf] at ih
   simp only [if_true] at ih
   simp only [cond_true]
   rw [cE (by simp only [List.length_cons,List.length_nil];omega)]
   exact ih) l.length 0 aP (by omega) (iZ (by omega)) trivial
 simpa using this
theorem afH{s:aF} : ∀ {p:aF},p∈eK s→∀b,b∈p→b∈s∧(b==47)=false:=by
 induction s with
 | nil=>intro p au b hb;simp [eK] at au;subst au;simp at hb
 | cons c l ih =>
  intro p au b hb
  rw [eK] at au
  cases hc:c==47
  ·rw [hc] at au
   simp only [cond_false] at au
   cases hs:eK l with
   | nil=>exact absurd hs (Fw l)
   | cons q akd =>
    rw [hs] at au ih
    simp only [jf,List.mem_cons] at au
    rcases au with rfl | au
    ·simp only [List.cons_append,List.nil_append,List.mem_cons] at hb
     rcases hb with rfl | hb
     ·exact⟨List.mem_cons_self,hc⟩
     ·obtain ⟨h1,h2⟩:=ih List.mem_cons_self b hb
      exact⟨List.mem_cons_of_mem _ h1,h2⟩
    ·obtain ⟨h1,h2⟩:=ih (List.mem_cons_of_mem _ au) b hb
     exact⟨List.mem_cons_of_mem _ h1,h2⟩
  ·rw [hc] at au
   simp only [cond_true,List.mem_cons] at au
   rcases au with rfl | au
   ·simp at hb
   ·obtain ⟨h1,h2⟩:=ih au b hb
    exact⟨List.mem_cons_of_mem _ h1,h2⟩
theorem afI(s:aF):(eK s).length≤s.length+1:=by
 induction s with
 | nil=>simp [eK]
 | cons b l ih =>
  rw [eK]
  cases b==47
  ·simp only [cond_false,List.length_cons]
   cases hs:eK l with
   | nil=>simp [jf]
   | cons p ps=>rw [hs] at ih;simp only [jf,List.length_cons] at ih ⊢;omega
  ·simp only [cond_true,List.length_cons];omega
theorem UU(s:aF):(cut s).length≤s.length+1:=Nat.le_trans (List.length_filter_le _ _) (afI s)
def zE(p:aF):Prop:=p≠[]∧∀i,i<p.length→r8 (nb p i)=true
theorem UW{s:aF}(h:ja s=true):∀p,p∈cut s→zE p:=by
 intro p au
 obtain ⟨h1,h2⟩:=List.mem_filter.1 au
 refine⟨fun h0=>(by rw [Mu.2 h0] at h2;cases h2),fun i hi=>?_⟩
 have hm:p.getD i 0∈p:=by rw [List.getD_eq_getElem?_getD,List.getElem?_eq_getElem hi];exact List.getElem_mem hi
 obtain ⟨h3,h4⟩:=afH h1 _ hm
 unfold ja at h
 rw [Bool.and_eq_true] at h
 obtain ⟨j,hj,he⟩:=List.mem_iff_getElem.1 h3
 have:=kI.1 h.1 j hj
 have e:nb s j=nb p i:=by unfold nb;rw [List.getD_eq_getElem?_getD,List.getElem?_eq_getElem hj,← he];rfl
 rw [e] at this
 have aZ:(nb p i==47)=false:=by rw [← h4];exact UN _
 rw [aZ,Bool.false_or] at this
 exact this
theorem lt_irrefl:∀x:aF,dr x x=false
 | []=>rfl
 | a :: x=>by
  have:=lt_irrefl x
  unfold dr at *
  rw [Op.bytesLess]
  simp [this]
theorem UX:∀x y:aF,dr x y=false→x=y∨dr y x=true
 | [],[],_=>.inl rfl
 | [],_ :: _,h=>by unfold dr Op.bytesLess at h;cases h
 | a :: x,[],_=>.inr (by unfold dr Op.bytesLess;rfl)
 | a :: x,b :: y,h=>by
  have ih:=UX x y
  unfold dr at *
  rw [Op.bytesLess] at h
  simp only [Bool.or_eq_false_iff,decide_eq_false_iff_not,Bool.and_eq_false_iff,beq_eq_false_iff_ne] at h
  obtain ⟨h1,h2⟩:=h
  by_cases la:a=b
  ·subst la
   rcases h2 with h2 | h2
   ·exact absurd rfl h2
   ·rcases ih h2 with h3 | h3
    ·exact .inl (by rw [h3])
    ·exact .inr (by rw [Op.bytesLess];simp [h3])
  ·refine .inr ?_
   rw [Op.bytesLess]
   have:b<a:=by
    rcases UInt8.lt_or_lt_of_ne la with h | h
    ·exact absurd h h1
    ·exact h
   simp [this]
theorem zF:∀ {x y z:aF},dr x y=true→dr y z=true→dr x z=true
 | _,[],_,h,_=>by unfold dr at h;simp [Op.bytesLess] at h
 | _,_ :: _,[],_,h=>by unfold dr at h;simp [Op.bytesLess] at h
 | [],_ :: _,_ :: _,_,_=>by unfold dr;simp [Op.bytesLess]
 | a :: x,b :: y,c :: z,h,k=>by
  have ih:=@zF x y z
  unfold dr at *
  rw [Op.bytesLess] at h k ⊢
  simp only [Bool.or_eq_true,decide_eq_true_eq,Bool.and_eq_true,beq_iff_eq] at h k ⊢
  rcases h with h | ⟨rfl,h⟩
  ·rcases k with k | ⟨rfl,k⟩
   ·exact .inl (UInt8.lt_trans h k)
   ·exact .inl h
  ·rcases k with k | ⟨rfl,k⟩
   ·exact .inl k
   ·exact .inr ⟨rfl,ih h k⟩
theorem UY{x y:aF}(h:dr x y=true):dr y x=false:=by
 cases hk:dr y x
 ·rfl
 ·have:=zF h hk;rw [lt_irrefl] at this;cases this
theorem Fx{x y:aF}(h:dr x y=true):x≠y:=by rintro rfl;rw [lt_irrefl] at h;cases h
theorem Mv{x y:aF}(h:x≠y):dr y x = !dr x y:=by
 cases hk:dr x y
 ·rcases UX x y hk with h1 | h1
  ·exact absurd h1 h
  ·rw [h1];rfl
 ·rw [UY hk];rfl
def iJ(N:List aw.D):Prop:=N.Pairwise fun a b=>dr a.1 b.1=true
theorem afJ{N:List aw.D}(h:∀j,j+1<N.length→dr (J aw N j).1 (J aw N (j+1)).1=true):iJ N:=by
 unfold iJ
 rw [List.pairwise_iff_getElem]
 have key:∀d j,j+d+1<N.length→dr (J aw N j).1 (J aw N (j+d+1)).1=true:=by
  intro d
  induction d with
  | zero=>exact fun j hj=>h j hj
  | succ d ih=>exact fun j hj=>zF (ih j (by omega)) (h (j+d+1) (by omega))
 intro i j hi hj il
 have:=key (j-i-1) i (by omega)
 rw [show i +(j-i-1)+1=j by omega,c6 hi,c6 hj] at this
 exact this
theorem afK{N:List aw.D}(h:iJ N){i j:Nat}(il:i<j)(hj:j<N.length):dr (J aw N i).1 (J aw N j).1=true:=by
 unfold iJ at h
 rw [c6 hj,c6 (t:=aw) (xs:=N) (i:=i) (by omega)]
 exact List.pairwise_iff_getElem.1 h i j (by omega) hj il
structure kN(l:List aK)(x:aK):Prop where
 mode:0≤eU x∧eU x≤2047
 uid:0≤ek x∧ek x≤1000
 gid:0≤e9 x∧e9 x≤1000
 kind:kindOf x=1∨kindOf x=2∨kindOf x=3
 plain:kindOf x≠2→ej x=0∧dC x=0∧ak x=[]
 file:kindOf x=1→(bN x).length≤64
 mr:kindOf x=3→ja (bN x)=true∧eU x=511
 dir:kindOf x=2→bN x=[]∧(0≤ej x∧ej x≤400)∧(0≤dC x∧dC x≤24)∧(ak x).length≤12
 names:∀d,d∈ak x→hQ d.1=true∧d.2.1≠1∧(bj l d.2.1).isSome=true
 sorted:iJ (ak x)
theorem Fy{x:aK} : plain x=true↔ej x=0∧dC x=0∧ak x=[]:=by
 unfold plain
 simp only [Bool.and_eq_true,beq_iff_eq]
 constructor
 ·rintro ⟨⟨h1,h2⟩,h3⟩;exact⟨h2,h3,List.length_eq_zero_iff.1 (by omega)⟩
 ·rintro ⟨h1,h2,h3⟩;exact⟨⟨by rw [h3];rfl,h1⟩,h2⟩
theorem UZ{l:List aK}{N:List aw.D} : fe N.length (oj l N)=true↔(∀d,d∈N→hQ d.1=true∧d.2.1≠1∧(bj l d.2.1).isSome=true)∧iJ N:=by
 rw [kI]
 unfold oj
 simp only [Bool.and_eq_true,Bool.not_eq_true',Bool.and_eq_false_iff,decide_eq_false_iff_not,Bool.not_eq_false',beq_eq_false_iff_ne]
 constructor
 ·intro h
  refine⟨fun d ag=>?_,afJ fun j hj=>?_⟩
  ·obtain ⟨i,hi,he⟩:=fg ag
   obtain ⟨⟨⟨h1,_⟩,h3⟩,h4⟩:=h i hi
   rw [he] at h1 h3 h4
   exact⟨h1,h3,h4⟩
  ·obtain ⟨⟨⟨_,h2⟩,_⟩,_⟩:=h (j+1) hj
   rcases h2 with h2 | h2
   ·omega
   ·rw [Nat.add_sub_cancel] at h2;exact h2
 ·rintro ⟨h1,h2⟩ i hi
  obtain ⟨k1,k2,k3⟩:=h1 _ (cI hi)
  refine⟨⟨⟨k1,?_⟩,k2⟩,k3⟩
  by_cases h0:0<i
  ·exact .inr (afK h2 (by omega) hi)
  ·exact .inl h0
theorem U0{l:List aK}{x:aK} : nk l x=true↔kN l x:=by
 unfold nk
 simp only [Bool.and_eq_true]
 constructor
 ·rintro ⟨⟨⟨h1,h2⟩,h3⟩,h⟩
  have h1:=dG.1 h1
  have h2:=dG.1 h2
  have h3:=dG.1 h3
  by_cases k1:kindOf x=1
  ·rw [cB (show x.2.1=1 from k1)] at h
   simp only [cond_true,Bool.and_eq_true,decide_eq_true_eq] at h
   obtain ⟨ec,fc,fT⟩:=Fy.1 h.1
   exact⟨h1,h2,h3,.inl k1,fun _=>⟨ec,fc,fT⟩,fun _=>by omega,fun k=>by omega,fun k=>by omega,by rw [fT];simp,by rw [fT];exact List.Pairwise.nil⟩
  ·rw [bG (show ¬x.2.1=1 from k1)] at h
   by_cases k3:kindOf x=3
   ·rw [cB (show x.2.1=3 from k3)] at h
    simp only [cond_true,cond_false,Bool.and_eq_true,beq_iff_eq] at h
    obtain ⟨ec,fc,fT⟩:=Fy.1 h.1.1
    exact⟨h1,h2,h3,.inr (.inr k3),fun _=>⟨ec,fc,fT⟩,fun k=>by omega,fun _=>⟨h.1.2,h.2⟩,fun k=>by omega,by rw [fT];simp,by rw [fT];exact List.Pairwise.nil⟩
   ·rw [bG (show ¬x.2.1=3 from k3)] at h
    by_cases k2:kindOf x=2
    ·rw [cB (show x.2.1=2 from k2)] at h
     simp only [cond_true,cond_false,Bool.and_eq_true,r',decide_eq_true_eq] at h
     obtain ⟨⟨⟨e1,e2⟩,e3⟩,fH,sP⟩:=h
     obtain ⟨fD,lJ⟩:=UZ.1 fH
     exact⟨h1,h2,h3,.inr (.inl k2),fun k=>absurd k2 k,fun k=>by omega,fun k=>by omega,fun _=>⟨by unfold bu at e1;simpa using e1,dG.1 e2,dG.1 e3,by omega⟩,fD,lJ⟩
    ·rw [bG (show ¬x.2.1=2 from k2)] at h
     simp at h
 ·intro h
  refine⟨⟨⟨dG.2 h.mode,dG.2 h.uid⟩,dG.2 h.gid⟩,?_⟩
  rcases h.kind with k | k | k
  ·have k':x.2.1=1:=k
   rw [cB k']
   simp only [cond_true,Bool.and_eq_true,decide_eq_true_eq]
   exact⟨Fy.2 (h.plain (by omega)),by have:=h.file k;omega⟩
  ·have k':x.2.1=2:=k
   rw [bG (show ¬x.2.1=1 from fun h1=>by have:kindOf x=1:=h1;omega),bG (show ¬x.2.1=3 from fun h1=>by have:kindOf x=3:=h1;omega),cB k']
   simp only [cond_true,cond_false,Bool.and_eq_true,r',decide_eq_true_eq]
   obtain ⟨d1,d2,d3,d4⟩:=h.dir k
   exact⟨⟨⟨by rw [d1];rfl,dG.2 d2⟩,dG.2 d3⟩,UZ.2 ⟨h.names,h.sorted⟩,by omega⟩
  ·have k':x.2.1=3:=k
   rw [bG (show ¬x.2.1=1 from fun h1=>by have:kindOf x=1:=h1;omega),cB k']
   simp only [cond_true,cond_false,Bool.and_eq_true,beq_iff_eq]
   exact⟨⟨Fy.2 (h.plain (by omega)),(h.mr k).1⟩,(h.mr k).2⟩
def et(v:af.D):Int:=v.1
def a7(x:aK):Int:=x.1
structure bI(v:af.D):Prop where
 next:2≤et v∧et v≤100000
 len:1≤v.2.1.length∧v.2.1.length≤24
 root:a7 (J I v.2.1 0)=1∧kindOf (J I v.2.1 0)=2
 ids:∀i,i<v.2.1.length→1≤a7 (J I v.2.1 i)∧a7 (J I v.2.1 i)≤et v-1
 Fz:∀i,i+1<v.2.1.length→a7 (J I v.2.1 i)<a7 (J I v.2.1 (i+1))
 ino:∀i,i<v.2.1.length→kN v.2.1 (J I v.2.1 i)
 reach:∀i,1≤i→i<v.2.1.length→dL v.2.1 1 (J I v.2.1 i).1
 once:∀i,1≤i→i<v.2.1.length→kindOf (J I v.2.1 i)=2→cg v.2.1 (J I v.2.1 i).1=1
 bytes:bytesOf v.2.1≤400
 over:f' v.2.1=false
theorem Mw{l:List aK}(h:∀i,i+1<l.length→a7 (J I l i)<a7 (J I l (i+1))):hR l:=by
 have cw:∀d j,j+d+1<l.length→a7 (J I l j)<a7 (J I l (j+d+1)):=by
  intro d
  induction d with
  | zero=>intro j hj;exact h j hj
  | succ d ih=>intro j hj;exact Int.lt_trans (ih j (by omega)) (h (j+d+1) hj)
 intro x hx
 unfold bj
 rw [hP]
 refine⟨hx,by simp,fun j hj=>?_⟩
 obtain ⟨d,rfl⟩:∃d,x=j+d+1:=⟨x-j-1,by omega⟩
 have:=cw d j hx
 rw [beq_eq_false_iff_ne]
 exact Int.ne_of_lt this
theorem U1{v:af.D}(hn:2≤et v∧et v≤100000):fe v.2.1.length (mm v)=true↔(∀i,i<v.2.1.length→1≤a7 (J I v.2.1 i)∧a7 (J I v.2.1 i)≤et v-1) ∧
  (∀i,i+1<v.2.1.length→a7 (J I v.2.1 i)<a7 (J I v.2.1 (i+1)))∧∀i,i<v.2.1.length→kN v.2.1 (J I v.2.1 i):=by
 rw [kI]
 unfold mm
 rw [show aH (v.1-1)=et v-1 from dI (a:=et v-1) (by omega) (by omega)]
 simp only [Bool.and_eq_true,Bool.not_eq_true',Bool.and_eq_false_iff,decide_eq_false_iff_not]
 constructor
 ·intro h
  refine⟨fun i hi=>dG.1 (h i hi).1.1,fun i hi=>?_,fun i hi=>U0.1 (h i hi).2⟩
  rcases (h (i+1) hi).1.2 with h2 | h2
  ·omega
  ·rw [Nat.add_sub_cancel] at h2;exact Int.not_le.1 h2
 ·rintro ⟨h1,h2,h3⟩ i hi
  refine⟨⟨dG.2 (h1 i hi),?_⟩,U0.2 (h3 i hi)⟩
  by_cases h0:0<i
  ·have:=h2 (i-1) (by omega)
   rw [show i-1+1=i by omega] at this
   exact .inr (Int.not_le.2 this)
  ·exact .inl h0
theorem pq{v:af.D} : jd v=true↔bI v:=by
 unfold jd
 simp only [Bool.and_eq_true,beq_iff_eq]
 constructor
 ·rintro ⟨⟨⟨⟨h1,h2⟩,h3⟩,h4⟩,aZ⟩
  have h1:=dG.1 h1
  have h2:=dG.1 h2
  by_cases a1:fe v.2.1.length (mm v)=true
  case neg=>rw [Bool.not_eq_true] at a1;rw [a1] at aZ;cases aZ
  rw [a1] at aZ
  obtain ⟨i1,i2,i3⟩:=(U1 h1).1 a1
  have ag:=Mw i2
  by_cases a2:fe (v.2.1.length-1) (jV v.2.1)=true
  case neg=>rw [Bool.not_eq_true] at a2;rw [a2] at aZ;cases aZ
  rw [a2] at aZ
  simp only [cond_true,Bool.and_eq_true,Bool.not_eq_true',decide_eq_true_eq] at aZ
  have a2:=kI.1 a2
  unfold jV at a2
  simp only [Bool.and_eq_true,Bool.not_eq_true',Bool.and_eq_false_iff,beq_eq_false_iff_ne,bne_eq_false_iff_eq] at a2
  refine⟨h1,by omega,⟨h3,h4⟩,i1,i2,i3,fun i hi hl=>?_,fun i hi hl hk=>?_,by omega,aZ.2⟩
  ·have:=(a2 (i-1) (by omega)).1
   rw [show i-1+1=i by omega] at this
   exact(wT v.2.1 ag 1 hl).1 this
  ·have:=(a2 (i-1) (by omega)).2
   rw [show i-1+1=i by omega] at this
   rcases this with h | h
   ·exact absurd hk h
   ·omega
 ·intro h
  have ag:=Mw h.Fz
  refine⟨⟨⟨⟨dG.2 h.next,dG.2 (by have:=h.len;omega)⟩,h.root.1⟩,h.root.2⟩,?_⟩
  rw [(U1 h.next).2 ⟨h.ids,h.Fz,h.ino⟩]
  have a2:fe (v.2.1.length-1) (jV v.2.1)=true:=by
   rw [kI]
   unfold jV
   simp only [Bool.and_eq_true,Bool.not_eq_true',Bool.and_eq_false_iff,beq_eq_false_iff_ne,bne_eq_false_iff_eq]
   intro i hi
   refine⟨(wT v.2.1 ag 1 (by omega)).2 (h.reach (i+1) (by omega) (by omega)),?_⟩
   by_cases hk:kindOf (J I v.2.1 (i+1))=2
   ·have:=h.once (i+1) (by omega) (by omega) hk
    exact .inr (by rw [this];rfl)
   ·exact .inl hk
  rw [a2]
  simp only [cond_true,Bool.and_eq_true,Bool.not_eq_true',decide_eq_true_eq]
  exact⟨by have:=h.bytes;omega,h.over⟩
structure pr(l:List aK):Prop where
 len:l.length≤1048576
 cJ:dn l≤1048576
 ga:hR l
 gZ:qC l
 bare:∀i,i<l.length→kindOf (J I l i)≠2→ak (J I l i)=[]
 mr:∀i,i<l.length→kindOf (J I l i)=3→ja (bN (J I l i))=true
 root:∃i,bj l 1=some i∧kindOf (J I l i)=2
theorem bI.ga{v:af.D}(h:bI v):hR v.2.1:=Mw h.Fz
theorem bI.gZ{v:af.D}(h:bI v):qC v.2.1:=fun i hi d ag=>((h.ino i hi).names d ag).2.2
theorem bI.afL{v:af.D}(h:bI v)(hb:uJ v):pr v.2.1 :=
 ⟨hb.len,hb.cJ,h.ga,h.gZ,fun i hi hk=>((h.ino i hi).plain hk).2.2,fun i hi hk=>((h.ino i hi).mr hk).1,0,by
  have:=h.ga 0 (by have:=h.len;omega)
  rwa [show(J I v.2.1 0).1=1 from h.root.1] at this,h.root.2⟩
def lA(l:List aK)(id:Int):Prop:=∃i,bj l id=some i∧kindOf (J I l i)=2
def cd(r:aW.D):Int:=r.1
def nameOf(r:aW.D):aF:=r.2.1
def bp(r:aW.D):Int:=r.2.2.1
def bM(r:aW.D):Int:=r.2.2.2.1
structure lB(l:List aK)(r:aW.D):Prop where
 there:bM r=0→∃i,bj l (bp r)=some i
 named:bM r=0→nameOf r≠[]→bp r≠0∧hQ (nameOf r)=true∧∃d,bj l (cd r)=some d∧kindOf (J I l d)=2∧dD (ak (J I l d)) (nameOf r)=bp r
 bare:bM r=0→nameOf r=[]→lA l (bp r)
 new:bM r=2→nameOf r≠[]→bp r=0∧hQ (nameOf r)=true∧∃d,bj l (cd r)=some d∧kindOf (J I l d)=2∧dD (ak (J I l d)) (nameOf r)=0
theorem afM(l:List aK){c:Int}(h0:c≠0)(a b:Int)(h2:c≠2∨True):lB l ((0:Int),([]:aF),(0:Int),c,()) :=
 ⟨fun h=>absurd h h0,fun h=>absurd h h0,fun h=>absurd h h0,fun _ h=>absurd rfl h⟩
def sb(b3:Bool)(l:List aK)(r:aW.D):Prop:=lB l r∧(b3=true→bM r=0→∀i,bj l (bp r)=some i→kindOf (J I l i)≠3)
theorem wX(b3:Bool)(l:List aK){c:Int}(h0:c≠0)(a b:Int)(h2:c≠2∨True):sb b3 l ((0:Int),([]:aF),(0:Int),c,()):=⟨afM l h0 a b h2,fun _ h=>absurd h h0⟩
theorem FA{l:List aK}(h:pr l)(id:Int):lA l (jW l id):=by
 unfold jW
 cases au:Fu l id with
 | none=>exact h.root
 | some i =>
  obtain ⟨h1,h2,_⟩:=hP.1 au
  refine⟨i,h.ga i h1,?_⟩
  by_cases hk:kindOf (J I l i)=2
  ·exact hk
  ·have:=h.bare i h1 hk
   rw [this] at h2
   simp [pn,e8] at h2
theorem qG{N:List aw.D}{s:aF}(h:dD N s≠0):∃d,d∈N∧d.1=s∧d.2.1=dD N s:=by
 unfold dD at h ⊢
 cases hf:e8 N.length (qF N s) with
 | none=>rw [hf] at h;exact absurd rfl h
 | some j =>
  obtain ⟨h1,h2,_⟩:=hP.1 hf
  exact⟨J aw N j,cI h1,by unfold qF bu at h2;simpa using h2,rfl⟩
theorem afN{p:aF}(h:zE p)(h1:bu p [46]=false)(h2:bu p [46,46]=false)(cU:p.length≤8):hQ p=true:=by
 have hl:1≤p.length:=by
  rcases Nat.eq_zero_or_pos p.length with h0 | h0
  ·exact absurd (List.length_eq_zero_iff.1 h0) h.1
  ·exact h0
 unfold hQ
 rw [h1,h2,kI.2 (fun i hi=>h.2 i hi),dG.2 ⟨by omega,by omega⟩];rfl
theorem afO{L:List aF}{a c:Nat}(h:0<c)(hl:a+c≤L.length):J ad.str L a∈part L a c:=by
 unfold part
 have h1:a<L.length:=by omega
 rw [List.drop_eq_getElem_cons h1,show c=(c-1)+1 by omega,List.take_succ_cons,c6 (t:=.str) h1]
 exact List.mem_cons_self
theorem afP{L:List aF}{a c:Nat} : ∀p,p∈part L (a+1) (c-1)→p∈part L a c:=by
 intro p au
 unfold part at *
 rcases Nat.eq_zero_or_pos c with h | h
 ·subst h;simp at au
 ·rcases Nat.lt_or_ge a L.length with h1 | h1
  ·rw [List.drop_eq_getElem_cons h1,show c=(c-1)+1 by omega,List.take_succ_cons]
   exact List.mem_cons_of_mem _ au
  ·rw [List.drop_of_length_le (by omega)] at au;simp at au
theorem Mx{s:aF}(h:ja s=true):1≤s.length∧s.length≤60:=by
 unfold ja at h
 rw [Bool.and_eq_true] at h
 have:=dG.1 h.2
 omega
theorem nn(m:Nat)(U aa ae ai ar aE bn bT cA):(e6 (m+1)).bf U aa ae ai ar aE bn bT cA=lv (e6 m) U aa ae ai ar aE bn bT cA:=rfl
theorem FB(m:Nat)(U aa ae ai ar aE bn bT cA eY ke kf jP):(e6 (m+1)).QW U aa ae ai ar aE bn bT cA eY ke kf jP=wi (e6 m) U aa ae ai ar aE bn bT cA eY ke kf jP:=rfl
theorem U2(m:Nat)(U aa ae ai ar aE bn bT cA eY):(e6 (m+1)).jv U aa ae ai ar aE bn bT cA eY=Ch (e6 m) U aa ae ai ar aE bn bT cA eY:=rfl
theorem U3(m:Nat)(U aa ae ai ar aE bn bT cA eY ke kf jP):(e6 (m+1)).yt U aa ae ai ar aE bn bT cA eY ke kf jP=Ci (e6 m) U aa ae ai ar aE bn bT cA eY ke kf jP:=rfl
theorem U4(m:Nat)(U aa ae ai ar aE bn bT cA eY):(e6 (m+1)).o4 U aa ae ai ar aE bn bT cA eY=Cj (e6 m) U aa ae ai ar aE bn bT cA eY:=rfl
theorem mu(x:aK):J I [x] 0=x:=rfl
theorem bZ.jump{β : Type}{f g:Nat → β}{B:Nat}(k:Nat){y : β}(h:bZ g B y)(hf:∀m,f (m+k)=g m):bZ f (B+k) y:=by
 intro m hm
 obtain ⟨j,rfl⟩:∃j,m=j+k:=⟨m-k,by omega⟩
 rw [hf];exact h j (by omega)
theorem bZ.now{β : Type}{f:Nat → β}(k:Nat){y : β}(hf:∀m,f (m+k)=y):bZ f k y:=by
 intro m hm
 obtain ⟨j,rfl⟩:∃j,m=j+k:=⟨m-k,by omega⟩
 exact hf j
theorem afQ(v:af.D)(c:aJ.D)(hw:pr v.2.1)(hc:df c=true)(b3:Bool)(z:aW.D):∀(n:Nat) (at_:Int) (k:Nat) (L:List aF) (a cR:Nat),(8-k)*100+cR≤n→k≤8→a+cR≤L.length→cR≤100→(∀p,p∈part L a cR→zE p)→lA v.2.1 at_ →
  ∃r,sb b3 v.2.1 r∧bZ (fun m=>fZ m v b3 a cR at_ (k:Int) c z L) (n+2) (some (r,()))∧bZ (fun m=>(e6 m).bf b3 a cR at_ (k:Int) v c z L) (5*n+5) (some (r,())):=by
 intro n
 induction n with
 | zero =>
  intro at_ k L a cR hn hk hl afR au cl
  have h0:cR=0:=by omega
  subst h0
  obtain ⟨d,ag,fO⟩:=cl
  refine⟨((0:Int),([]:aF),at_,(0:Int),()),⟨⟨fun _=>⟨d,ag⟩,fun _ h=>absurd rfl h,fun _ _=>⟨d,ag,fO⟩,fun _ h=>absurd rfl h⟩,fun _ _ e he=>by rw [show bp (((0:Int),([]:aF),at_,(0:Int),()):aW.D)=at_ from rfl,ag] at he;rw [← aU he,fO];decide⟩,(bZ.now 1 fun m=>?_).mono (by omega),(bZ.now 1 fun m=>?_).mono (by omega)⟩
  ·simp only [fZ,ly];rfl
  ·rw [nn];unfold lv;rfl
 | succ n ih =>
  intro at_ k L a cR hn hk hl afR au cl
  rcases Nat.eq_zero_or_pos cR with h0 | h0
  ·subst h0
   obtain ⟨d,ag,fO⟩:=cl
   refine⟨((0:Int),([]:aF),at_,(0:Int),()),⟨⟨fun _=>⟨d,ag⟩,fun _ h=>absurd rfl h,fun _ _=>⟨d,ag,fO⟩,fun _ h=>absurd rfl h⟩,fun _ _ e he=>by rw [show bp (((0:Int),([]:aF),at_,(0:Int),()):aW.D)=at_ from rfl,ag] at he;rw [← aU he,fO];decide⟩,(bZ.now 1 fun m=>?_).mono (by omega),(bZ.now 1 fun m=>?_).mono (by omega)⟩
   ·simp only [fZ,ly];rfl
   ·rw [nn];unfold lv;rfl
  obtain ⟨d,ag,fO⟩:=cl
  have hdl:=bX ag
  have hO:(ak (J I v.2.1 d)).length≤1048576:=Nat.le_trans (fM hdl.1) hw.cJ
  have mW:=au _ (afO h0 hl)
  have fC:∀p,p∈part L (a+1) (cR-1)→zE p:=fun p h=>au p (afP p h)
  have fN:aN cR 0=some 0:=bx (i:=0) h0
  have hT:dZ cR 1 (cR:Int)=some (1,cR):=kn (lo:=1) h0 (Nat.le_refl _)
  have fJ:decide ((cR:Int)>0)=true:=decide_eq_true (by omega)
  have g_:=mo v at_ hw.len ag
  have np:=zC c (J I v.2.1 d) 1 hc
  have pt:=pj c (J I v.2.1 d) 1 hc
  have afS:=UJ v at_ hw.len hw.cJ
  have afT:=UI v at_ hw.len hw.cJ
  have pv:kc (v,at_,())=some ((d:Int),()):=by rw [ni v at_ hw.len,ag];rfl
  have pw:aN v.2.1.length (d:Int)=some d:=bx hdl.1
  have sc:=UH (J I v.2.1 d) (J ad.str L a) hO
  have wY:=afv v at_ (J ad.str L a) hw.len ag hO
  cases hm:may c (J I v.2.1 d) 1 with
  | false =>
   refine⟨((0:Int),([]:aF),(0:Int),(13:Int),()),wX b3 _ (by decide) 0 0 (.inr trivial),(bZ.now 1 fun m=>?_).mono (by omega),(bZ.now 1 fun m=>?_).mono (by omega)⟩
   ·rw [fZ,ly]
    simp -index only [fJ,fN,hT,g_,mu,np,hm,cond_true,cond_false,av,Bool.not_true,Bool.not_false,List.isEmpty_cons]
   ·rw [nn];unfold lv
    simp only [fJ,fN,hT,pv,pw,pt,hm,cond_true,cond_false,av,Bool.not_true,Bool.not_false]
  | true =>
  cases h1:bu (J ad.str L a) [46] with
  | true =>
   obtain ⟨r,bA,cc,gC⟩:=ih at_ k L (a+1) (cR-1) (by omega) hk (by omega) (by omega) fC ⟨d,ag,fO⟩
   refine⟨r,bA,(cc.jump (f:=fun m=>fZ m v b3 a cR at_ (k:Int) c z L) 1 fun m=>?_).mono (by omega),(gC.jump (f:=fun m=>(e6 m).bf b3 a cR at_ (k:Int) v c z L) 1 fun m=>?_).mono (by omega)⟩
   ·rw [fZ,ly]
    simp -index only [fJ,fN,hT,g_,mu,np,hm,h1,cond_true,cond_false,av,Bool.not_true,Bool.not_false,List.isEmpty_cons,Nat.add_zero]
   ·rw [nn];unfold lv
    simp only [fJ,fN,hT,pv,pw,pt,hm,h1,cond_true,cond_false,av,Bool.not_true,Bool.not_false,Nat.add_zero]
  | false =>
  cases h2:bu (J ad.str L a) [46,46] with
  | true =>
   obtain ⟨r,bA,cc,gC⟩:=ih (jW v.2.1 at_) k L (a+1) (cR-1) (by omega) hk (by omega) (by omega) fC (FA hw _)
   refine⟨r,bA,(cc.jump (f:=fun m=>fZ m v b3 a cR at_ (k:Int) c z L) 1 fun m=>?_).mono (by omega),(gC.jump (f:=fun m=>(e6 m).bf b3 a cR at_ (k:Int) v c z L) 1 fun m=>?_).mono (by omega)⟩
   ·rw [fZ,ly]
    simp -index only [fJ,fN,hT,g_,mu,np,hm,h1,h2,afS,cond_true,cond_false,av,Bool.not_true,Bool.not_false,List.isEmpty_cons,Nat.add_zero]
   ·rw [nn];unfold lv
    simp only [fJ,fN,hT,pv,pw,pt,hm,h1,h2,afT,cond_true,cond_false,av,Bool.not_true,Bool.not_false,Nat.add_zero]
  | false =>
  cases cU:decide (((J ad.str L a).length:Int)>8) with
  | true =>
   refine⟨((0:Int),([]:aF),(0:Int),(36:Int),()),wX b3 _ (by decide) 0 0 (.inr trivial),(bZ.now 1 fun m=>?_).mono (by omega),(bZ.now 1 fun m=>?_).mono (by omega)⟩
   ·rw [fZ,ly]
    simp -index only [fJ,fN,hT,g_,mu,np,hm,h1,h2,cU,cond_true,cond_false,av,Bool.not_true,Bool.not_false,List.isEmpty_cons,Nat.add_zero]
   ·rw [nn];unfold lv
    simp only [fJ,fN,hT,pv,pw,pt,hm,h1,h2,cU,cond_true,cond_false,av,Bool.not_true,Bool.not_false,Nat.add_zero]
  | false =>
  have iE:hQ (J ad.str L a)=true:=afN mW h1 h2 (by
   have:=of_decide_eq_false cU
   have h:¬((J ad.str L a).length:Int)>8:=this
   omega)
  cases iI:dD (ak (J I v.2.1 d)) (J ad.str L a)==0 with
  | true =>
   cases g':((cR-1:Nat):Int)==0 with
   | true =>
    refine⟨(at_,J ad.str L a,(0:Int),(2:Int),()),⟨⟨fun h=>(by cases h),fun h=>(by cases h),fun h=>(by cases h),fun _ _=>⟨rfl,iE,d,ag,fO,beq_iff_eq.1 iI⟩⟩,fun _ h=>(by cases h)⟩,(bZ.now 1 fun m=>?_).mono (by omega),(bZ.now 1 fun m=>?_).mono (by omega)⟩
    ·rw [fZ,ly]
     simp -index only [fJ,fN,hT,g_,mu,np,hm,h1,h2,cU,sc,iI,g',cond_true,cond_false,av,Bool.not_true,Bool.not_false,List.isEmpty_cons,Nat.add_zero]
    ·rw [nn];unfold lv
     simp only [fJ,fN,hT,pv,pw,pt,hm,h1,h2,cU,wY,iI,g',cond_true,cond_false,av,Bool.not_true,Bool.not_false,Nat.add_zero]
   | false =>
    refine⟨((0:Int),([]:aF),(0:Int),(2:Int),()),⟨⟨fun h=>(by cases h),fun h=>(by cases h),fun h=>(by cases h),fun _ h=>absurd rfl h⟩,fun _ h=>(by cases h)⟩,(bZ.now 1 fun m=>?_).mono (by omega),(bZ.now 1 fun m=>?_).mono (by omega)⟩
    ·rw [fZ,ly]
     simp -index only [fJ,fN,hT,g_,mu,np,hm,h1,h2,cU,sc,iI,g',cond_true,cond_false,av,Bool.not_true,Bool.not_false,List.isEmpty_cons,Nat.add_zero]
    ·rw [nn];unfold lv
     simp only [fJ,fN,hT,pv,pw,pt,hm,h1,h2,cU,wY,iI,g',cond_true,cond_false,av,Bool.not_true,Bool.not_false,Nat.add_zero]
  | false =>
  obtain ⟨e,he,U5,p2⟩:=qG (N:=ak (J I v.2.1 d)) (s:=J ad.str L a) (by simpa using iI)
  obtain ⟨i2,fV⟩:=Option.isSome_iff_exists.1 (hw.gZ d hdl.1 e he)
  rw [p2] at fV
  have uL:=bX fV
  have wZ:=mo v _ hw.len fV
  have FC:kc (v,dD (ak (J I v.2.1 d)) (J ad.str L a),())=some ((i2:Int),()):=by rw [ni v _ hw.len,fV];rfl
  have FD:aN v.2.1.length (i2:Int)=some i2:=bx uL.1
  have U6:((J I v.2.1 i2).2.1==3)=true→(!(((cR-1:Nat):Int)==0)||b3)=true→∃r,sb b3 v.2.1 r∧bZ (fun m=>fZ m v b3 a cR at_ (k:Int) c z L) (n+1+2) (some (r,()))∧bZ (fun m=>(e6 m).bf b3 a cR at_ (k:Int) v c z L) (5*(n+1)+5) (some (r,())):=by
   intro jg lC
   have U7:=hw.mr i2 uL.1 (beq_iff_eq.1 jg)
   have w1:=Mx U7
   have w2:aN ((J I v.2.1 i2).2.2.2.2.2.1).length 0=some 0:=bx (i:=0) w1.1
   have FE:rW ((J I v.2.1 i2).2.2.2.2.2.1,())=some (cut (bN (J I v.2.1 i2)),()):=UT _ (Nat.le_trans w1.2 (by omega))
   have U8:yr ((J I v.2.1 i2).2.2.2.2.2.1,())=some (cut (bN (J I v.2.1 i2)),()):=UP _ (Nat.le_trans w1.2 (by omega))
   have hcl:=UU (bN (J I v.2.1 i2))
   have fG:(part L (a+1) (cR-1)).length≤100:=by unfold part;rw [List.length_take];omega
   have hroom:room ((cut (bN (J I v.2.1 i2))).length +(part L (a+1) (cR-1)).length)=true:=cE (by omega)
   have iA:=UW U7
   generalize uM:cut (bN (J I v.2.1 i2))++part L (a+1) (cR-1)=kj at *
   have afU:∀p,p∈kj→zE p:=by
    intro p nK
    rw [← uM] at nK
    rcases List.mem_append.1 nK with h | h
    ·exact iA p h
    ·exact fC p h
   obtain ⟨at',afV,qH,qI⟩:∃at',lA v.2.1 at'∧(∀m,fZ (m+1) v b3 a cR at_ (k:Int) c z L=cond ((k:Int)==8) (some (((0:Int),([]:aF),(0:Int),(40:Int),()),()))
      (cond (decide ((kj.length:Int)>40)) (some (((0:Int),([]:aF),(0:Int),(36:Int),()),())) (fZ m v b3 0 kj.length at' (aH ((k:Int)+1)) c z kj))) ∧
     ∀m,(e6 (m+4)).bf b3 a cR at_ (k:Int) v c z L=cond (decide (aH ((k:Int)+1)>8)) (some (((0:Int),([]:aF),(0:Int),(40:Int),()),()))
      (cond (decide ((kj.length:Int)>40)) (some (((0:Int),([]:aF),(0:Int),(36:Int),()),())) ((e6 m).bf b3 0 kj.length at' (aH ((k:Int)+1)) v c z kj)):=by
    cases hb:((((J I v.2.1 i2).2.2.2.2.2.1).getD 0 0).toNat:Int)==47 with
    | false =>
     refine⟨at_,⟨d,ag,fO⟩,fun m=>?_,fun m=>?_⟩
     ·rw [fZ,ly]
      cases g':((cR-1:Nat):Int)==0 with
      | false =>
       simp -index only [fJ,fN,hT,g_,mu,np,hm,h1,h2,cU,sc,iI,wZ,jg,g',w2,hb,FE,hroom,uM,RM,cond_true,cond_false,av,Bool.not_true,Bool.not_false,List.isEmpty_cons,Nat.add_zero]
      | true =>
       rw [g'] at lC
       have lC:b3=true:=lC
       simp -index only [fJ,fN,hT,g_,mu,np,hm,h1,h2,cU,sc,iI,wZ,jg,g',lC,w2,hb,FE,hroom,uM,RO,cond_true,cond_false,av,Bool.not_true,Bool.not_false,List.isEmpty_cons,Nat.add_zero]
     ·rw [nn];unfold lv
      simp only [fJ,fN,hT,pv,pw,pt,hm,h1,h2,cU,wY,iI,o0,FC,FD,cond_true,cond_false,av,Bool.not_true,Bool.not_false,Nat.add_zero]
      rw [FB];unfold wi
      have:(cond (!(((cR-1:Nat):Int)==0)) ((e6 (m+2)).jv b3 (a+1) (cR-1) at_ (k:Int) v c z L (J I v.2.1 i2)) (cond b3 ((e6 (m+2)).jv b3 (a+1) (cR-1) at_ (k:Int) v c z L (J I v.2.1 i2)) ((e6 (m+2)).yt b3 (a+1) (cR-1) at_ (k:Int) (J ad.str L a) (((cR-1:Nat):Int)==0) (dD (ak (J I v.2.1 d)) (J ad.str L a)) v c z L (J I v.2.1 i2))))=(e6 (m+2)).jv b3 (a+1) (cR-1) at_ (k:Int) v c z L (J I v.2.1 i2):=by
       revert lC
       cases ((cR-1:Nat):Int)==0 <;> cases b3 <;> intro lC <;> first | rfl | cases lC
      rw [jg]
      simp only [cond_true]
      refine this.trans ?_
      rw [U2];unfold Ch
      rw [w2]
      simp only [av,hb,cond_false]
      rw [U4];unfold Cj
      rw [U8]
      simp only [av,hroom,cond_true,uM]
    | true =>
     refine⟨1,hw.root,fun m=>?_,fun m=>?_⟩
     ·rw [fZ,ly]
      cases g':((cR-1:Nat):Int)==0 with
      | false =>
       simp -index only [fJ,fN,hT,g_,mu,np,hm,h1,h2,cU,sc,iI,wZ,jg,g',w2,hb,FE,hroom,uM,RL,cond_true,cond_false,av,Bool.not_true,Bool.not_false,List.isEmpty_cons,Nat.add_zero]
      | true =>
       rw [g'] at lC
       have lC:b3=true:=lC
       simp -index only [fJ,fN,hT,g_,mu,np,hm,h1,h2,cU,sc,iI,wZ,jg,g',lC,w2,hb,FE,hroom,uM,RN,cond_true,cond_false,av,Bool.not_true,Bool.not_false,List.isEmpty_cons,Nat.add_zero]
     ·rw [nn];unfold lv
      simp only [fJ,fN,hT,pv,pw,pt,hm,h1,h2,cU,wY,iI,o0,FC,FD,cond_true,cond_false,av,Bool.not_true,Bool.not_false,Nat.add_zero]
      rw [FB];unfold wi
      have:(cond (!(((cR-1:Nat):Int)==0)) ((e6 (m+2)).jv b3 (a+1) (cR-1) at_ (k:Int) v c z L (J I v.2.1 i2)) (cond b3 ((e6 (m+2)).jv b3 (a+1) (cR-1) at_ (k:Int) v c z L (J I v.2.1 i2)) ((e6 (m+2)).yt b3 (a+1) (cR-1) at_ (k:Int) (J ad.str L a) (((cR-1:Nat):Int)==0) (dD (ak (J I v.2.1 d)) (J ad.str L a)) v c z L (J I v.2.1 i2))))=(e6 (m+2)).jv b3 (a+1) (cR-1) at_ (k:Int) v c z L (J I v.2.1 i2):=by
       revert lC
       cases ((cR-1:Nat):Int)==0 <;> cases b3 <;> intro lC <;> first | rfl | cases lC
      rw [jg]
      simp only [cond_true]
      refine this.trans ?_
      rw [U2];unfold Ch
      rw [w2]
      simp only [av,hb,cond_true]
      rw [U4];unfold Cj
      rw [U8]
      simp only [av,hroom,cond_true,uM]
   have cn:aH ((k:Int)+1)=((k+1:Nat):Int):=db k (by omega)
   rw [cn] at qH qI
   rcases Nat.lt_or_ge k 8 with afW | afW
   ·rw [show((k:Int)==8)=false by simp;omega] at qH
    rw [show decide (((k+1:Nat):Int)>8)=false from decide_eq_false (by omega)] at qI
    simp only [cond_false] at qH qI
    cases FF:decide ((kj.length:Int)>40) with
    | true =>
     rw [FF] at qH qI
     refine⟨((0:Int),([]:aF),(0:Int),(36:Int),()),wX b3 _ (by decide) 0 0 (.inr trivial),(bZ.now 1 fun m=>qH m).mono (by omega),(bZ.now 4 fun m=>qI m).mono (by omega)⟩
    | false =>
     rw [FF] at qH qI
     have FF:=of_decide_eq_false FF
     obtain ⟨r,bA,cc,gC⟩:=ih at' (k+1) kj 0 kj.length (by omega) (by omega) (by omega) (by omega) (by rw [T8];exact afU) afV
     exact⟨r,bA,(cc.jump (f:=fun m=>fZ m v b3 a cR at_ (k:Int) c z L) 1 fun m=>qH m).mono (by omega),(gC.jump (f:=fun m=>(e6 m).bf b3 a cR at_ (k:Int) v c z L) 4 fun m=>qI m).mono (by omega)⟩
   ·rw [show((k:Int)==8)=true by simp;omega] at qH
    rw [show decide (((k+1:Nat):Int)>8)=true from decide_eq_true (by omega)] at qI
    refine⟨((0:Int),([]:aF),(0:Int),(40:Int),()),wX b3 _ (by decide) 0 0 (.inr trivial),(bZ.now 1 fun m=>qH m).mono (by omega),(bZ.now 4 fun m=>qI m).mono (by omega)⟩
  have bP:(b3=true→kindOf (J I v.2.1 i2)≠3)→(∀m,fZ (m+1) v b3 a cR at_ (k:Int) c z L=cond (((cR-1:Nat):Int)==0) (some ((at_,J ad.str L a,dD (ak (J I v.2.1 d)) (J ad.str L a),(0:Int),()),()))
     (cond ((J I v.2.1 i2).2.1 != 2) (some (((0:Int),([]:aF),(0:Int),(20:Int),()),())) (fZ m v b3 (a+1) (cR-1) (dD (ak (J I v.2.1 d)) (J ad.str L a)) (k:Int) c z L))) →
    (∀m,(e6 (m+3)).bf b3 a cR at_ (k:Int) v c z L=cond (((cR-1:Nat):Int)==0) (some ((at_,J ad.str L a,dD (ak (J I v.2.1 d)) (J ad.str L a),(0:Int),()),()))
     (cond ((J I v.2.1 i2).2.1 != 2) (some (((0:Int),([]:aF),(0:Int),(20:Int),()),())) ((e6 m).bf b3 (a+1) (cR-1) (dD (ak (J I v.2.1 d)) (J ad.str L a)) (k:Int) v c z L))) →
    ∃r,sb b3 v.2.1 r∧bZ (fun m=>fZ m v b3 a cR at_ (k:Int) c z L) (n+1+2) (some (r,()))∧bZ (fun m=>(e6 m).bf b3 a cR at_ (k:Int) v c z L) (5*(n+1)+5) (some (r,())):=by
   intro hnl g1 g2
   cases g':((cR-1:Nat):Int)==0 with
   | true =>
    refine⟨(at_,J ad.str L a,dD (ak (J I v.2.1 d)) (J ad.str L a),(0:Int),()),⟨⟨fun _=>⟨i2,fV⟩,fun _ _=>⟨beq_eq_false_iff_ne.1 iI,iE,d,ag,fO,rfl⟩,fun _ h=>absurd h mW.1,fun h=>(by cases h)⟩,fun hf _ e he=>by rw [show bp ((at_,J ad.str L a,dD (ak (J I v.2.1 d)) (J ad.str L a),(0:Int),()):aW.D)=dD (ak (J I v.2.1 d)) (J ad.str L a) from rfl,fV] at he;rw [← aU he];exact hnl hf⟩,(bZ.now 1 fun m=>?_).mono (by omega),(bZ.now 3 fun m=>?_).mono (by omega)⟩
    ·rw [g1,g'];rfl
    ·rw [g2,g'];rfl
   | false =>
    rw [g'] at g1 g2
    simp only [cond_false] at g1 g2
    by_cases hk2:kindOf (J I v.2.1 i2)=2
    ·obtain ⟨r,bA,cc,gC⟩:=ih (dD (ak (J I v.2.1 d)) (J ad.str L a)) k L (a+1) (cR-1) (by omega) hk (by omega) (by omega) fC ⟨i2,fV,hk2⟩
     refine⟨r,bA,(cc.jump (f:=fun m=>fZ m v b3 a cR at_ (k:Int) c z L) 1 fun m=>?_).mono (by omega),(gC.jump (f:=fun m=>(e6 m).bf b3 a cR at_ (k:Int) v c z L) 3 fun m=>?_).mono (by omega)⟩
     ·rw [g1,dH (show(J I v.2.1 i2).2.1=2 from hk2)];rfl
     ·rw [g2,dH (show(J I v.2.1 i2).2.1=2 from hk2)];rfl
    ·refine⟨((0:Int),([]:aF),(0:Int),(20:Int),()),wX b3 _ (by decide) 0 0 (.inr trivial),(bZ.now 1 fun m=>?_).mono (by omega),(bZ.now 3 fun m=>?_).mono (by omega)⟩
     ·rw [g1,c0 (show ¬(J I v.2.1 i2).2.1=2 from hk2)];rfl
     ·rw [g2,c0 (show ¬(J I v.2.1 i2).2.1=2 from hk2)];rfl
  cases jg:(J I v.2.1 i2).2.1==3 with
  | true =>
   cases g':((cR-1:Nat):Int)==0 with
   | false=>exact U6 jg (by rw [g'];rfl)
   | true =>
    cases b3 with
    | true=>exact U6 jg (by rw [g'];rfl)
    | false =>
     refine bP (fun h=>by cases h) (fun m=>?_) (fun m=>?_)
     ·rw [fZ,ly]
      simp -index only [fJ,fN,hT,g_,mu,np,hm,h1,h2,cU,sc,iI,wZ,jg,g',cond_true,cond_false,av,Bool.not_true,Bool.not_false,List.isEmpty_cons,Nat.add_zero]
     ·rw [nn];unfold lv
      simp only [fJ,fN,hT,pv,pw,pt,hm,h1,h2,cU,wY,iI,o0,FC,FD,g',cond_true,cond_false,av,Bool.not_true,Bool.not_false,Nat.add_zero]
      rw [FB];unfold wi
      simp only [jg,cond_true,cond_false,Bool.not_true,Bool.not_false]
      rw [U3];unfold Ci;rfl
  | false =>
   refine bP (fun _=>beq_eq_false_iff_ne.1 jg) (fun m=>?_) (fun m=>?_)
   ·rw [fZ,ly]
    simp -index only [fJ,fN,hT,g_,mu,np,hm,h1,h2,cU,sc,iI,wZ,jg,cond_true,cond_false,av,Bool.not_true,Bool.not_false,List.isEmpty_cons,Nat.add_zero]
   ·rw [nn];unfold lv
    simp only [fJ,fN,hT,pv,pw,pt,hm,h1,h2,cU,wY,iI,o0,FC,FD,cond_true,cond_false,av,Bool.not_true,Bool.not_false,Nat.add_zero]
    rw [FB];unfold wi
    simp only [jg,cond_true,cond_false]
    rw [U3];unfold Ci;rfl
theorem U9(v:af.D)(c:aJ.D)(path:aF)(b3:Bool)(hw:pr v.2.1)(hc:df c=true)(au:sa path=true) :
  ∃r,sb b3 v.2.1 r∧Kp (v,c,path,b3,())=some (r,())∧Ck (v,c,path,b3,())=some (r,()):=by
 unfold sa at au
 rw [Bool.and_eq_true] at au
 have w1:=Mx au.1
 have hcl:=UU path
 obtain ⟨r,bA,cc,gC⟩:=afQ v c hw hc b3 ((0:Int),([]:aF),(0:Int),(0:Int),()) 900 1 0 (cut path) 0 (cut path).length (by omega) (by omega) (by omega) (by omega) (by rw [T8];exact UW au.1) hw.root
 refine⟨r,bA,?_,?_⟩
 ·show D0 (fZ aP) v c path b3=_
  unfold D0
  rw [UT path (by omega)]
  exact kK cc (by omega)
 ·show Cg (e6 aP) v c path b3=_
  unfold Cg
  rw [UP path (by omega)]
  exact kK gC (by omega)
end Go.LM.kb
