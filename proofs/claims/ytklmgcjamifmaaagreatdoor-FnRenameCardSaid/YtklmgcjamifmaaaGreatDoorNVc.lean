/- Volumes: both sides are the same plain functions. Conditions: each theorem's own hypotheses. -/
import Derived.Test.YtklmgcjamifmaaaGreatDoorNLmd
import Derived.Test.YtklmgcjamifmaaaGreatDoorNVa
set_option linter.unusedVariables false
set_option linter.unusedSimpArgs false
namespace Go.LM
theorem qL:aR=18446744073709551616:=by unfold aR;rfl
theorem ch{i n:Nat}(h:i<n):decide ((i:Int)<(n:Int))=true:=by simp;omega
theorem cF{i n:Nat}(h:n≤i):decide ((i:Int)<(n:Int))=false:=by simp;omega
theorem mm{p:Prop}[Decidable p](h:¬p):decide p=false:=by simp [h]
theorem nk{p:Prop}[Decidable p](h:p):decide p=true:=by simp [h]
theorem fuel{k m:Nat}(h:k<m):∃q,m=q+1∧k≤q:=⟨m-1,by omega,by omega⟩
mutual
def ae.cost:(t:ae)→t.D→Nat
 | .raw,_=>0
 | .int _,_=>0
 | .bool,_=>0
 | .str,x=>List.length x
 | .sl t,xs=>List.length xs +(xs.map fun y=>t.cost y).sum
 | .st aj,x=>aj.cost x
def ay.cost:(aj:ay)→aj.D→Nat
 | .nil,_=>0
 | .cons t aj,x=>t.cost x.1+aj.cost x.2
end
mutual
def ae.wt:(t:ae)→t.D→Nat
 | .raw,_=>1
 | .int _,_=>1
 | .bool,_=>1
 | .str,_=>1
 | .sl t,xs=>(xs.map fun y=>t.wt y).sum
 | .st aj,x=>aj.wt x
def ay.wt:(aj:ay)→aj.D→Nat
 | .nil,_=>0
 | .cons t aj,x=>t.wt x.1+aj.wt x.2
end
theorem Us{α : Type}{f : α → Nat}{y : α} : ∀ {l:List α},y∈l→f y≤(l.map f).sum
 | x :: l,h=>by
  rcases List.mem_cons.1 h with rfl | h
  ·simp
  ·have:=Us (f:=f) h;simp;omega
theorem Ut{t:ae}(l:List t.D):l.length≤ae.cost (.sl t) l:=by simp only [ae.cost];omega
theorem afs{t:ae}{l:List t.D}{i:Nat}(h:i<l.length):J t l i∈l:=by rw [va h];exact List.getElem_mem h
theorem aft{t:ae}{l:List t.D}{i:Nat}(h:i<l.length):l.length+t.cost (J t l i)≤ae.cost (.sl t) l:=by
 simp only [ae.cost]
 have:=Us (f:=fun y=>t.cost y) (afs h)
 omega
theorem drop_cons{t:ae}{l:List t.D}{i:Nat}(h:i<l.length):l.drop i=J t l i :: l.drop (i+1):=by
 rw [va h];exact List.drop_eq_getElem_cons h
theorem Uu{t:ae}{x:List t.D} : ae.cost (.sl t) x=x.length +(x.map fun y=>t.cost y).sum:=by simp only [ae.cost]
theorem Mh{aj:ay}{x:aj.D} : ae.cost (.st aj) x=aj.cost x:=by simp only [ae.cost]
theorem Mi{t:ae}{aj:ay}{x:(ay.cons t aj).D} : ay.cost (.cons t aj) x=t.cost x.1+aj.cost x.2:=by simp only [ay.cost]
theorem Mj{x:ay.nil.D} : ay.cost .nil x=0:=by simp only [ay.cost]
theorem Mk{k:IntKind}{x:Int} : ae.cost (.int k) x=0:=by simp only [ae.cost]
theorem Uv{x:Bool} : ae.cost .bool x=0:=by simp only [ae.cost]
theorem Uw{x:List UInt8} : ae.cost .str x=x.length:=by simp only [ae.cost]
section
variable{mt:Int→List UInt8}{k k':Int}
end
theorem zF{α : Type}{f g : α → Nat}(M:Nat):∀(l:List α),(∀y,y∈l→f y≤M*(1+g y))→(l.map f).sum≤M*(l.length +(l.map g).sum)
 | [],_=>by simp
 | y :: l,h=>by
  have h1:=h y List.mem_cons_self
  have h2:=zF M l fun z hz=>h z (List.mem_cons_of_mem _ hz)
  simp only [List.map_cons,List.sum_cons,List.length_cons]
  have:M*(l.length+1 +(g y +(l.map g).sum))=M*(1+g y)+M*(l.length +(l.map g).sum):=by rw [← Nat.mul_add];congr 1;omega
  omega
theorem ja{n:Nat}(h:n≤4611686018427387904):n<aR:=by rw [qL];omega
theorem mn{β : Type}(n:Nat)(hn:n≤4611686018427387904)(L:Nat→Int → β)(G:Nat → β)(Inv:Nat→Prop)
  (h0:∀m,Inv n→L (m+1) (n:Int)=G n)
  (hs:∀m (i:Nat),i<n→Inv i→aG ((i:Int)+1)=(i:Int)+1→(Inv (i+1)→L m ((i:Int)+1)=G (i+1))→L (m+1) (i:Int)=G i) :
  ∀(r i m:Nat),i+r=n→r<m→Inv i→L m (i:Int)=G i:=by
 intro r
 induction r with
 | zero =>
  intro i m hi hm hv
  obtain ⟨m,rfl,_⟩:=fuel hm
  have:i=n:=by omega
  subst this
  exact h0 m hv
 | succ r ih =>
  intro i m hi hm hv
  obtain ⟨m,rfl,hq⟩:=fuel hm
  refine hs m i (by omega) hv (sG (by omega) (by omega)) fun k4=>?_
  have:=ih (i+1) m (by omega) (by omega) k4
  simpa only [Int.natCast_add,Int.cast_ofNat_Int] using this
theorem jb(k:Nat)(h:k≤1000:=by omega):∃q,aR=q+k∧4611686018427387904<q:=⟨aR-k,by rw [qL];omega,by rw [qL];omega⟩
theorem mo{α : Type}(a:Bool)(x y : α):cond a (some (x,())) (some (y,()))=some (cond a x y,()):=by cases a <;> rfl
def c4(x lo hi:Int):Bool:=decide (lo≤x)&&decide (x≤hi)
theorem dJ{x lo hi:Int} : c4 x lo hi=true↔lo≤x∧x≤hi:=by simp [c4]
theorem Ux(a b:Bool):cond a b false=(a&&b):=by cases a <;> rfl
theorem afu(a b:Int):jm a b=min a b:=by unfold jm;omega
theorem Uy{s:List UInt8} : br s []=decide (s.length=0):=by cases s <;> simp [br]
theorem cY{x y:Int}(h:x≠y):(x != y)=true:=by simp [h]
theorem dC{x y:Int}(h:x=y):(x != y)=false:=by simp [h]
theorem cD{x y:Int}(h:x=y):(x==y)=true:=by simp [h]
theorem cd{x y:Int}(h:x≠y):(x==y)=false:=by simp [h]
theorem cG{n:Nat}(h:n≤68719476736):room n=true:=aaQ h
theorem Uz{α : Type}(l:List α):part l 0 l.length=l:=by simp [part]
theorem Ml{α : Type}(l:List α)(n:Nat):part l n (l.length-n)=l.drop n:=by
 unfold part;rw [List.take_of_length_le (by simp)]
theorem zG{α : Type}(l:List α)(n:Nat):part l 0 n=l.take n:=by simp [part]
end Go.LM
namespace Go.LM.kc
theorem jz(x a b:Int):ei (x,a,b,())=some (c4 x a b,()):=by
 show Jj x a b=_
 unfold Jj c4
 by_cases h:a≤x <;> simp [h]
theorem jc(x a b:Int):eI (x,a,b,())=some (c4 x a b,()):=by
 show J' x a b=_
 unfold J' c4
 by_cases h:a≤x <;> simp [h]
theorem dD{a:Int}(h : -4000000000000000000≤a)(h':a≤4000000000000000000):aG a=a:=sG (by omega) (by omega)
def fe(n:Nat)(P:Nat→Bool):Bool:=(List.range n).all P
theorem kK{n:Nat}{P:Nat→Bool} : fe n P=true↔∀i,i<n→P i=true:=by simp [fe,List.all_eq_true]
open Classical in
theorem sd(n:Nat)(hn:n≤4611686018427387904)(P:Nat→Bool)(E:Bool)(L:Nat→Int→Option (Bool×Unit))
  (h0:∀m,(∀j,j<n→P j=true)→L (m+1) (n:Int)=some (E,()))
  (hs:∀m (i:Nat),i<n→(∀j,j<i→P j=true)→aG ((i:Int)+1)=(i:Int)+1→L (m+1) (i:Int)=cond (P i) (L m ((i:Int)+1)) (some (false,())))
  (q:Nat:=aR) (hq:n<q:=by exact ja (by omega)):L q 0=some (fe n P&&E,()):=by
 have:=mn n hn L (fun i=>some (decide (∀j,i≤j→j<n→P j=true)&&E,())) (fun i=>∀j,j<i→P j=true) (fun m hi=>by
  rw [h0 m hi]
  rw [decide_eq_true (by intro j h1 h2;omega)];rfl) (fun m i hi hinv hw ih=>by
  rw [hs m i hi hinv hw]
  cases au:P i
  ·simp only [cond_false]
   rw [decide_eq_false (fun h=>by have:=h i (Nat.le_refl _) hi;rw [au] at this;cases this)];rfl
  ·simp only [cond_true]
   rw [ih (fun j hj=>by
    by_cases h:j=i
    ·subst h;exact au
    ·exact hinv j (by omega))]
   congr 3
   apply decide_eq_decide.2
   constructor
   ·intro h j h1 h2
    by_cases lp:j=i
    ·subst lp;exact au
    ·exact h j (by omega) h2
   ·intro h j h1 h2;exact h j (by omega) h2) n 0 q (by omega) hq (by intro j hj;omega)
 rw [Int.natCast_zero] at this
 rw [this]
 congr 3
 rw [Bool.eq_iff_iff,kK,decide_eq_true_eq]
 exact⟨fun h i hi=>h i (by omega) hi,fun h i _ hi=>h i hi⟩
theorem nm{α : Type}(a:Bool)(x y : α):cond (!a) x y=cond a y x:=by cases a <;> rfl
theorem Mm{α : Type}(a b:Bool)(x y : α):cond (a&&b) x y=cond a (cond b x y) y:=by cases a <;> rfl
theorem Fl{α : Type}(a b:Bool)(x y : α):cond (a||b) x y=cond a x (cond b x y):=by cases a <;> rfl
theorem Mn{n i:Nat}(h:i+1<n)(hn:n≤4000000000000000000):aN n (aG (((i+1:Nat):Int)-1))=some i:=by
 rw [dD (by omega) (by omega),show((i+1:Nat):Int)-1=(i:Int) by omega,bw (by omega)]
theorem Mo:decide (((0:Nat):Int)>0)=false:=rfl
theorem Mp(i:Nat):decide (((i+1:Nat):Int)>0)=true:=by simp
def jW(c:aK.D):Bool :=
 c4 c.1 1 22&&decide ((c.2.1.length:Int)≤60)&&decide ((c.2.2.1.length:Int)≤60)&&decide ((c.2.2.2.2.2.1.length:Int)≤64)&&c4 c.2.2.2.1 (-1000000) 1000000&&c4 c.2.2.2.2.1 (-1000000) 1000000 &&
  (br c.2.2.1 []||(c.1==9||(c.1==10||c.1==12)))&&(br c.2.2.2.2.2.1 []||(c.1==5||c.1==6))
theorem Mq(c:aK.D):Jl (c,())=some (jW c,()):=by
 obtain ⟨q,hq,_⟩:=jb 1
 show Ca (yz aR) c=_
 rw [hq]
 unfold Ca
 simp only [yz,Jk,jz,av,mo]
 congr 2
 simp only [jW,c4,Uy]
 generalize c.2.1.length=a
 generalize c.2.2.1.length=b
 generalize c.2.2.2.2.2.1.length=d
 generalize c.1=k
 generalize c.2.2.2.1=e
 generalize c.2.2.2.2.1=f
 simp only [nm,Mm,Fl]
 rw [Bool.eq_iff_iff]
 simp only [Bool.cond_eq_ite,Bool.ite_eq_true_distrib,Bool.and_eq_true,Bool.or_eq_true,decide_eq_true_eq,beq_iff_eq,bne_iff_ne]
 grind (splits:=40)
theorem afv(c:aK.D):Kp (c,())=some (jW c,()):=by
 obtain ⟨q,hq,_⟩:=jb 2
 show D0 (D1 aR) c=_
 rw [hq]
 unfold D0
 simp only [D1,eH,Ko,RU,RV,jc,av,mo]
 congr 2
 simp only [jW,c4,Uy]
 generalize c.2.1.length=a
 generalize c.2.2.1.length=b
 generalize c.2.2.2.2.2.1.length=d
 generalize c.1=k
 generalize c.2.2.2.1=e
 generalize c.2.2.2.2.1=f
 rw [Bool.eq_iff_iff]
 simp only [Bool.cond_eq_ite,Bool.ite_eq_true_distrib,Bool.and_eq_true,Bool.or_eq_true,decide_eq_true_eq,beq_iff_eq,bne_iff_ne]
 grind (splits:=60)
def e7(n:Nat)(P:Nat→Bool):Option Nat:=(List.range n).find? P
theorem hT{n i:Nat}{P:Nat→Bool} : e7 n P=some i↔i<n∧P i=true∧∀j,j<i→P j=false:=by
 unfold e7
 rw [List.find?_range_eq_some]
 constructor
 ·rintro ⟨h1,h2,h3⟩;exact⟨by simpa using h2,h1,fun j hj=>by simpa using h3 j hj⟩
 ·rintro ⟨h1,h2,h3⟩;exact⟨h2,by simpa using h1,fun j hj=>by simpa using h3 j hj⟩
theorem lD{n:Nat}{P:Nat→Bool} : e7 n P=none↔∀i,i<n→P i=false:=by
 unfold e7
 rw [List.find?_eq_none]
 simp
theorem se{β : Type}(n:Nat)(hn:n≤4611686018427387904)(P:Nat→Bool)(R:Option Nat → β)(L:Nat→Int → β)
  (h0:∀m,L (m+1) (n:Int)=R none)
  (hs:∀m (i:Nat),i<n→aG ((i:Int)+1)=(i:Int)+1→L (m+1) (i:Int)=cond (P i) (R (some i)) (L m ((i:Int)+1))) (q:Nat:=aR) (hq:n<q:=by exact ja (by omega)) :
  L q 0=R (e7 n P):=by
 have key:=mn n hn L (fun i=>R (e7 n P)) (fun i=>∀j,j<i→P j=false) (fun m hi=>by rw [h0 m,lD.2 hi]) (fun m i hi hinv hw ih=>by
  rw [hs m i hi hw]
  cases au:P i
  ·simp only [cond_false]
   refine ih fun j hj=>?_
   by_cases h:j=i
   ·subst h;exact au
   ·exact hinv j (by omega)
  ·simp only [cond_true]
   rw [hT.2 ⟨hi,au,hinv⟩]) n 0 q (by omega) hq (by intro j hj;omega)
 simpa using key
def gQ:Option Nat→Int
 | none => -1
 | some i=>i
theorem zH{o:Option Nat} : decide (gQ o<0)=o.isNone:=by
 cases o with
 | none=>rfl
 | some i=>exact decide_eq_false (by show ¬((i:Int)<0);omega)
theorem zI{o:Option Nat} : decide (gQ o≥0)=o.isSome:=by cases o <;> simp [gQ]
theorem contains_eq(l:List Int)(x:Int)(hl:l.length≤4611686018427387904):rZ (l,x,())=some (decide (x∈l),()):=by
 show Ke l x=_
 unfold Ke
 have h:Kd (l,x,())=some (gQ (e7 l.length (fun i=>x==J (.int .i64) l i)),()):=by
  show DJ (uj aR) l x=_
  unfold DJ
  refine se l.length hl _ (fun o=>some (gQ o,())) (fun m i=>uj m l x (l.length:Int) i) ?_ ?_
  ·intro m
   simp only [uj,DK]
   rw [cF (Nat.le_refl _)];rfl
  ·intro m i hi hw
   simp only [uj,DK,hw]
   rw [ch hi,bw hi];rfl
 rw [h]
 simp only [av,zI]
 congr 2
 rw [Bool.eq_iff_iff,decide_eq_true_eq,Option.isSome_iff_exists]
 constructor
 ·rintro ⟨i,hi⟩
  obtain ⟨h1,h2,_⟩:=hT.1 hi
  have h2:x=J (.int .i64) l i:=by simpa using h2
  rw [h2,c7 h1];exact List.getElem_mem h1
 ·intro hx
  obtain ⟨i,hi,he⟩:=List.mem_iff_getElem.1 hx
  cases hf:e7 l.length (fun i=>x==J (.int .i64) l i) with
  | some j=>exact⟨j,rfl⟩
  | none =>
   have:=lD.1 hf i hi
   have aA:J (.int .i64) l i=l[i]:=c7 (t:=.int .i64) hi
   rw [aA,he] at this
   simp at this
def sf(b:Int):Bool:=decide (b≥97)&&decide (b≤122)||decide (b≥48)&&decide (b≤57)||b==46||b==95||b==45
theorem Fm(b:Int):yA (b,())=some (sf b,()):=by
 show Jm b=_
 unfold Jm sf
 simp only [mo]
 congr 2
 rw [Bool.eq_iff_iff]
 simp only [Bool.cond_eq_ite,Bool.ite_eq_true_distrib,Bool.and_eq_true,Bool.or_eq_true,decide_eq_true_eq,beq_iff_eq]
 grind
theorem UA(b:Int):Dp (b,())=some (sf b,()):=by
 show RP b=_
 rw [← Fm];rfl
def nb(s:List UInt8)(i:Nat):Int:=((s.getD i 0).toNat:Int)
def hU(s:List UInt8):Bool:=fe s.length (fun i=>sf (nb s i))&&(c4 (s.length:Int) 1 8&&(!br s [46] && !br s [46,46]))
theorem afw(s:List UInt8):J9 (s,())=some (hU s,()):=by
 show Dj (rY aR) s=_
 unfold Dj
 simp only [jz,av]
 by_cases hl:c4 (s.length:Int) 1 8=true
 case neg=>rw [Bool.not_eq_true] at hl;unfold hU;rw [hl];simp
 have hb:=dJ.1 hl
 have hk:rY aR s 0=some (fe s.length (fun i=>sf (nb s i))&&true,()):=by
  refine sd s.length (by omega) _ true (fun m i=>rY m s i) ?_ ?_
  ·intro m _
   simp only [rY,Dk]
   rw [cF (Nat.le_refl _)];rfl
  ·intro m i hi _ hw
   simp only [rY,Dk,hw]
   rw [ch hi,bw hi]
   simp only [cond_true,av,Fm,nm];rfl
 rw [hk,hl]
 unfold hU
 rw [hl]
 cases br s [46] <;> cases br s [46,46] <;> simp
theorem afx(s:List UInt8)(hl:s.length≤4000000000000000000):Ka (s,())=some (hU s,()):=by
 show DA (uh aR) s=_
 unfold DA hU
 refine sd s.length (by omega) _ _ (fun m i=>uh m s (s.length:Int) i) ?_ ?_
 ·intro m _
  simp only [uh,DB]
  rw [cF (Nat.le_refl _)]
  simp only [jc,av,cond_false,mo]
  congr 2
  cases c4 (s.length:Int) 1 8 <;> cases br s [46] <;> rfl
 ·intro m i hi _ hw
  simp only [uh,DB,hw]
  rw [ch hi,bw hi]
  simp only [cond_true,av,UA,nm];rfl
def jd(s:List UInt8):Bool:=fe s.length (fun i=>nb s i==47||sf (nb s i))&&c4 (s.length:Int) 1 60
theorem UB(s:List UInt8):yB (s,())=some (jd s,()):=by
 show Cc (tx aR) s=_
 unfold Cc
 simp only [jz,av]
 by_cases hl:c4 (s.length:Int) 1 60=true
 case neg=>rw [Bool.not_eq_true] at hl;unfold jd;rw [hl];simp
 have hb:=dJ.1 hl
 unfold jd
 rw [hl]
 simp only [Bool.not_true,cond_false]
 refine sd s.length (by omega) _ true (fun m i=>tx m s i) ?_ ?_
 ·intro m _
  simp only [tx,Cd]
  rw [cF (Nat.le_refl _)];rfl
 ·intro m i hi _ hw
  simp only [tx,Cd,hw]
  rw [ch hi,bw hi]
  simp only [cond_true,av,Fm,nm,Fl,bne];rfl
theorem Mr(s:List UInt8)(hl:s.length≤4000000000000000000):wG (s,())=some (jd s,()):=by
 show Dr (ue aR) s=_
 unfold Dr jd
 refine sd s.length (by omega) _ _ (fun m i=>ue m s (s.length:Int) i) ?_ ?_
 ·intro m _
  simp only [ue,Ds]
  rw [cF (Nat.le_refl _)]
  simp only [jc,av,cond_false]
 ·intro m i hi _ hw
  simp only [ue,Ds,hw]
  rw [ch hi,bw hi]
  simp only [cond_true,av,UA,nm,Fl,bne];rfl
abbrev aL:Type:=I.D
def ak(x:aL):List aw.D:=x.2.2.2.2.2.2.1
def bM(x:aL):List UInt8:=x.2.2.2.2.2.1
def bl(l:List aL)(id:Int):Option Nat:=e7 l.length (fun i=>(J I l i).1==id)
theorem nn(v:af.D)(id:Int)(hl:v.2.1.length≤1048576):kd (v,id,())=some (gQ (bl v.2.1 id),()):=by
 show Co (tE aR) v id=_
 unfold Co bl
 refine se v.2.1.length (by omega) _ (fun o=>some (gQ o,())) (fun m i=>tE m id i v) ?_ ?_
 ·intro m
  simp only [tE,Cp]
  rw [cF (Nat.le_refl _)];rfl
 ·intro m i hi hw
  simp only [tE,Cp,hw]
  rw [ch hi,bw hi];rfl
def UC(l:List aL):Option Nat→List aL
 | none=>[]
 | some i=>[J I l i]
theorem w5(v:af.D)(id:Int)(hl:v.2.1.length≤1048576):fm (v,id,())=some (UC v.2.1 (bl v.2.1 id),()):=by
 show Du (uf aR) v id=_
 unfold Du bl
 refine se v.2.1.length (by omega) _ (fun o=>some (UC v.2.1 o,())) (fun m i=>uf m v id (v.2.1.length:Int) i) ?_ ?_
 ·intro m
  simp only [uf,Dv]
  rw [cF (Nat.le_refl _)];rfl
 ·intro m i hi hw
  simp only [uf,Dv,hw]
  rw [ch hi,bw hi];rfl
theorem bS{l:List aL}{id:Int}{i:Nat}(h:bl l id=some i):i<l.length∧(J I l i).1=id:=by
 obtain ⟨h1,h2,_⟩:=hT.1 h
 exact⟨h1,by simpa using h2⟩
def bytesOf(l:List aL):Nat:=(l.map fun x=>(bM x).length).sum
theorem afy{l:List aL}{i:Nat}(hi:i<l.length):bytesOf (l.drop i)=(bM (J I l i)).length+bytesOf (l.drop (i+1)):=by
 rw [drop_cons (t:=I) hi];rfl
theorem Ms(l:List aL)(i:Nat):bytesOf (l.take i)+bytesOf (l.drop i)=bytesOf l:=by
 unfold bytesOf
 rw [← List.sum_append_nat,← List.map_append,List.take_append_drop]
theorem w6{l:List aL}{i:Nat}(hi:i<l.length):bytesOf (l.take (i+1))=bytesOf (l.take i) +(bM (J I l i)).length:=by
 have h1:=Ms l i
 have h2:=Ms l (i+1)
 have h3:=afy hi
 omega
theorem Fo(l:List aL)(i:Nat):bytesOf (l.take i)≤bytesOf l:=by have:=Ms l i;omega
theorem Mt(v:af.D)(hl:v.2.1.length≤1048576)(hb:bytesOf v.2.1≤1048576):yJ (v,())=some ((bytesOf v.2.1:Int),()):=by
 show CC (tJ aR) v=_
 unfold CC
 have:=mn v.2.1.length (by omega) (fun m i=>tJ m (bytesOf (v.2.1.take i.toNat):Int) i v) (fun _=>some ((bytesOf v.2.1:Int),())) (fun _=>True) (fun m _=>by
  simp only [tJ,CD]
  rw [cF (Nat.le_refl _)]
  simp only [Int.toNat_natCast,List.take_length,cond_false]) (fun m i hi _ hw ih=>by
  simp only [tJ,CD,hw]
  rw [ch hi,bw hi]
  simp only [cond_true,av,Int.toNat_natCast]
  have ih:=ih trivial
  rw [show((i:Int)+1).toNat=i+1 by omega,w6 hi,Int.natCast_add] at ih
  have h2:=Fo v.2.1 (i+1)
  rw [w6 hi] at h2
  rw [dD (by omega) (by have:((J I v.2.1 i).2.2.2.2.2.1).length=(bM (J I v.2.1 i)).length:=rfl;omega)]
  exact ih) v.2.1.length 0 aR (by omega) (ja (by omega)) trivial
 simpa [bytesOf] using this
theorem Mu(v:af.D)(hl:v.2.1.length≤1048576)(hb:bytesOf v.2.1≤1048576):r0 (v,())=some ((bytesOf v.2.1:Int),()):=by
 show DO (uq aR) v=_
 unfold DO
 have:=mn v.2.1.length (by omega) (fun m i=>uq m (bytesOf (v.2.1.take i.toNat):Int) v.2.1 (v.2.1.length:Int) i) (fun _=>some ((bytesOf v.2.1:Int),())) (fun _=>True) (fun m _=>by
  simp only [uq,DP]
  rw [cF (Nat.le_refl _)]
  simp only [Int.toNat_natCast,List.take_length,cond_false]) (fun m i hi _ hw ih=>by
  simp only [uq,DP,hw]
  rw [ch hi,bw hi]
  simp only [cond_true,av,Int.toNat_natCast]
  have ih:=ih trivial
  rw [show((i:Int)+1).toNat=i+1 by omega,w6 hi,Int.natCast_add] at ih
  have h2:=Fo v.2.1 (i+1)
  rw [w6 hi] at h2
  rw [dD (by omega) (by have:((J I v.2.1 i).2.2.2.2.2.1).length=(bM (J I v.2.1 i)).length:=rfl;omega)]
  exact ih) v.2.1.length 0 aR (by omega) (ja (by omega)) trivial
 simpa [bytesOf] using this
def b2{β : Type}(f:Nat → β)(B:Nat)(y : β):Prop:=∀m,B≤m→f m=y
theorem b2.step{β : Type}{f g:Nat → β}{B:Nat}{y : β}(h:b2 g B y)(hf:∀m,f (m+1)=g m):b2 f (B+1) y:=by
 intro m hm
 obtain ⟨k,rfl⟩:∃k,m=k+1:=⟨m-1,by omega⟩
 rw [hf];exact h k (by omega)
theorem b2.done{β : Type}{f:Nat → β}{y : β}(hf:∀m,f (m+1)=y):b2 f 1 y:=by
 intro m hm
 obtain ⟨k,rfl⟩:∃k,m=k+1:=⟨m-1,by omega⟩
 exact hf k
theorem b2.mono{β : Type}{f:Nat → β}{B mO:Nat}{y : β}(h:b2 f B y)(hb:B≤mO):b2 f mO y:=fun m hm=>h m (by omega)
def dK{kL : Type} : Nat→(Nat → kL → kL) → kL → kL
 | 0,_,s=>s
 | n+1,f,s=>f n (dK n f s)
theorem sg{kL : Type}{n:Nat}{f:Nat → kL → kL}(Inv:Nat → kL → Prop)(eS:∀i s,i<n→Inv i s→Inv (i+1) (f i s)){s : kL}(h:Inv 0 s):Inv n (dK n f s):=by
 induction n with
 | zero=>exact h
 | succ n ih=>exact eS n _ (by omega) (ih fun i s hi=>eS i s (by omega))
theorem sh{kL β : Type}(n W:Nat)(F:Nat→Nat → kL → β)(step:Nat → kL → kL)(Inv:Nat → kL → Prop)(eS:∀i s,i<n→Inv i s→Inv (i+1) (step i s))
  (hs:∀i s,i<n→Inv i s→∀B y,b2 (fun m=>F m (i+1) (step i s)) B y→b2 (fun m=>F m i s) (B+W) y) (s : kL) (h:Inv 0 s) (B:Nat) (y : β) (he:b2 (fun m=>F m n (dK n step s)) B y):b2 (fun m=>F m 0 s) (B+n*W) y:=by
 have key:∀k,k≤n→b2 (fun m=>F m (n-k) (dK (n-k) step s)) (B+k*W) y:=by
  intro k
  induction k with
  | zero=>intro _;simpa using he
  | succ k ih =>
   intro hk
   have:=ih (by omega)
   have hinv:Inv (n-(k+1)) (dK (n-(k+1)) step s):=sg Inv (fun i s hi=>eS i s (by omega)) h
   have h2:=hs (n-(k+1)) _ (by omega) hinv (B+k*W) y (by
    rw [show n-(k+1)+1=n-k by omega]
    have e:dK (n-k) step s=step (n-(k+1)) (dK (n-(k+1)) step s):=by
     rw [show n-k=(n-(k+1))+1 by omega];rfl
    rw [← e];exact this)
   rw [Nat.add_one_mul,← Nat.add_assoc]
   exact h2
 have:=key n (Nat.le_refl _)
 simpa [dK] using this
def dq(l:List aw.D)(id:Int):Nat:=(l.filter fun d=>d.2.1==id).length
def cg(l:List aL)(id:Int):Nat:=(l.map fun x=>dq (ak x) id).sum
theorem afz{l:List aw.D}{id:Int}{j:Nat}(hj:j<l.length):dq (l.take (j+1)) id=dq (l.take j) id+cond ((J aw l j).2.1==id) 1 0:=by
 unfold dq
 rw [List.take_succ_eq_append_getElem hj,List.filter_append,List.length_append]
 congr 1
 rw [c7 hj]
 cases h:(l[j]).2.1==id <;> simp [List.filter_cons,h]
theorem afA(l:List aw.D)(id:Int):dq l id≤l.length:=List.length_filter_le _ _
theorem Mv{l:List aL}{id:Int}{i:Nat}(hi:i<l.length):cg (l.take (i+1)) id=cg (l.take i) id+dq (ak (J I l i)) id:=by
 unfold cg
 rw [List.take_succ_eq_append_getElem hi,List.map_append,List.sum_append_nat]
 simp [c7 hi]
def dr(l:List aL):Nat:=(l.map fun x=>(ak x).length).sum
theorem UD(l:List aL)(id:Int):cg l id≤dr l:=by
 unfold cg dr
 induction l with
 | nil=>simp
 | cons x l ih=>simp only [List.map_cons,List.sum_cons];have:=afA (ak x) id;omega
theorem fM{l:List aL}{i:Nat}(hi:i<l.length):(ak (J I l i)).length≤dr l:=by
 unfold dr
 rw [c7 hi]
 have:∀(l:List aL) (i:Nat) (hi:i<l.length),(ak l[i]).length≤(l.map fun x=>(ak x).length).sum:=by
  intro l
  induction l with
  | nil=>intro i hi;simp at hi
  | cons x l ih =>
   intro i hi
   simp only [List.map_cons,List.sum_cons]
   cases i with
   | zero=>simp
   | succ i=>have:=ih i (by simpa using hi);simp only [List.getElem_cons_succ];omega
 exact this l i hi
theorem UE(l:List aL)(id:Int)(i:Nat):cg (l.take i) id≤dr l:=by
 refine Nat.le_trans (UD _ _) ?_
 unfold dr
 conv=>rhs;rw [← List.take_append_drop i l,List.map_append,List.sum_append_nat]
 omega
theorem df(i:Nat)(h:i<4000000000000000000):aG ((i:Int)+1)=((i+1:Nat):Int):=by rw [dD (by omega) (by omega)];omega
theorem Mw(l:List aL)(id:Int):∀i,i≤l.length→dK i (fun i s=>s+dq (ak (J I l i)) id) 0=cg (l.take i) id
 | 0,_=>by simp [dK,cg]
 | i+1,h=>by
  rw [dK,Mw l id i (by omega),Mv (by omega)]
theorem Mx(l:List aw.D)(id:Int)(s:Nat):∀j,j≤l.length→dK j (fun j s=>s+cond ((J aw l j).2.1==id) 1 0) s=s+dq (l.take j) id
 | 0,_=>by simp [dK,dq]
 | j+1,h=>by
  rw [dK,Mx l id s j (by omega),afz (by omega)];omega
theorem kM{β : Type}{f:Nat → β}{B:Nat}{y : β}(h:b2 f B y)(hb:B≤4611686018427387904):f aR=y:=h aR (by have:=ja hb;omega)
theorem Fp(v:af.D)(id:Int)(hl:v.2.1.length≤1048576)(hn:dr v.2.1≤1048576):yS (v,id,())=some ((cg v.2.1 id:Int),()):=by
 show CN (o_ aR) v id=_
 unfold CN
 have key:=sh v.2.1.length (1048576+2) (fun m i (s:Nat)=>(o_ m).k3 id (s:Int) (i:Int) v) (fun i s=>s+dq (ak (J I v.2.1 i)) id) (fun i s=>s=cg (v.2.1.take i) id) (fun i s hi hs=>by rw [hs,Mv hi]) (fun i s hi hs B y he=>by
  have pn:s≤1048576:=by have:=UE v.2.1 id i;omega
  have hnl:=fM hi
  have inner:=sh (ak (J I v.2.1 i)).length 1 (fun m j (s:Nat)=>(o_ m).dd id (s:Int) (i:Int) (j:Int) v) (fun j s=>s+cond ((J aw (ak (J I v.2.1 i)) j).2.1==id) 1 0) (fun j s=>s≤1048576+j) (fun j s hj hs=>by
   cases (J aw (ak (J I v.2.1 i)) j).2.1==id <;> simp <;> omega) (fun j s hj hs B y he=>by
   refine he.step fun m=>?_
   show yR (o_ m) _ _ _ _ _=_
   unfold yR
   rw [bw hi]
   simp only [av]
   show cond (decide ((j:Int)<((ak (J I v.2.1 i)).length:Int))) ((aN (ak (J I v.2.1 i)).length (j:Int)).bind _) _=_
   rw [ch hj]
   simp only [cond_true]
   rw [bw hj]
   simp only [av]
   rw [df j (by omega),df s (by omega)]
   show cond ((J aw (ak (J I v.2.1 i)) j).2.1==id) _ _=_
   cases (J aw (ak (J I v.2.1 i)) j).2.1==id <;> rfl) s (by omega) (B+1) y (by
   refine he.step fun m=>?_
   rw [Mx _ _ _ _ (Nat.le_refl _),List.take_length]
   show yR (o_ m) _ _ _ _ _=_
   unfold yR
   rw [bw hi]
   simp only [av]
   show cond (decide (((ak (J I v.2.1 i)).length:Int)<((ak (J I v.2.1 i)).length:Int))) _ _=_
   rw [cF (Nat.le_refl _)]
   simp only [cond_false]
   rw [df i (by omega)])
  refine(inner.step (f:=fun m=>(o_ m).k3 id (s:Int) (i:Int) v) fun m=>?_).mono (by omega)
  show yQ (o_ m) _ _ _ _=_
  unfold yQ
  rw [ch hi];rfl) 0 (by simp [cg]) 1 (some ((cg v.2.1 id:Int),())) (b2.done fun m=>by
  rw [Mw _ _ _ (Nat.le_refl _),List.take_length]
  show yQ (o_ m) _ _ _ _=_
  unfold yQ
  rw [cF (Nat.le_refl _)];rfl)
 have hm:v.2.1.length*(1048576+2)≤1048576*(1048576+2):=Nat.mul_le_mul_right _ hl
 exact kM key (by omega)
theorem Fq(v:af.D)(id:Int)(hl:v.2.1.length≤1048576)(hn:dr v.2.1≤1048576):wI (v,id,())=some ((cg v.2.1 id:Int),()):=by
 show DM (pe aR) v id=_
 unfold DM
 have key:=sh v.2.1.length (1048576+2) (fun m i (s:Nat)=>(pe m).k3 id (s:Int) v.2.1 (v.2.1.length:Int) (i:Int)) (fun i s=>s+dq (ak (J I v.2.1 i)) id) (fun i s=>s=cg (v.2.1.take i) id) (fun i s hi hs=>by rw [hs,Mv hi]) (fun i s hi hs B y he=>by
  have pn:s≤1048576:=by have:=UE v.2.1 id i;omega
  have hnl:=fM hi
  have inner:=sh (ak (J I v.2.1 i)).length 1 (fun m j (s:Nat)=>(pe m).dd id (s:Int) v.2.1 (v.2.1.length:Int) (i:Int) (ak (J I v.2.1 i)) ((ak (J I v.2.1 i)).length:Int) (j:Int)) (fun j s=>s+cond ((J aw (ak (J I v.2.1 i)) j).2.1==id) 1 0) (fun j s=>s≤1048576+j) (fun j s hj hs=>by
   cases (J aw (ak (J I v.2.1 i)) j).2.1==id <;> simp <;> omega) (fun j s hj hs B y he=>by
   refine he.step fun m=>?_
   show zd (pe m) _ _ _ _ _ _ _ _=_
   unfold zd
   rw [ch hj]
   simp only [cond_true]
   rw [bw hj]
   simp only [av]
   rw [df j (by omega),df s (by omega)]
   cases (J aw (ak (J I v.2.1 i)) j).2.1==id <;> rfl) s (by omega) (B+1) y (by
   refine he.step fun m=>?_
   rw [Mx _ _ _ _ (Nat.le_refl _),List.take_length]
   show zd (pe m) _ _ _ _ _ _ _ _=_
   unfold zd
   rw [cF (Nat.le_refl _)]
   simp only [cond_false]
   rw [df i (by omega)])
  refine(inner.step (f:=fun m=>(pe m).k3 id (s:Int) v.2.1 (v.2.1.length:Int) (i:Int)) fun m=>?_).mono (by omega)
  show zc (pe m) _ _ _ _ _=_
  unfold zc
  rw [ch hi,bw hi];rfl) 0 (by simp [cg]) 1 (some ((cg v.2.1 id:Int),())) (b2.done fun m=>by
  rw [Mw _ _ _ (Nat.le_refl _),List.take_length]
  show zc (pe m) _ _ _ _ _=_
  unfold zc
  rw [cF (Nat.le_refl _)];rfl)
 have hm:v.2.1.length*(1048576+2)≤1048576*(1048576+2):=Nat.mul_le_mul_right _ hl
 exact kM key (by omega)
abbrev Flags:Type:=List Bool
def T(xs:Flags)(i:Nat):Prop:=J .bool xs i=true
theorem uR{xs:Flags}{x i:Nat}(hx:x<xs.length):T (xs.set x true) i↔(i=x∨T xs i):=by
 unfold T J
 simp only [List.getD_eq_getElem?_getD,List.getElem?_set]
 by_cases h:x=i
 ·subst h;simp [hx]
 ·simp only [h,if_false]
  constructor
  ·intro h;exact .inr h
  ·rintro (rfl | h1)
   ·exact absurd rfl h
   ·exact h1
abbrev FS:Type:=Flags×Flags
section
variable(l:List aL)
def je(i j:Nat)(s:FS):FS :=
 match bl l (J aw (ak (J I l i)) j).2.1 with
 | none=>s
 | some x=>(s.1.set x true,s.2.set x true)
def iq(i:Nat)(s:FS):FS:=cond (J .bool s.2 i) (dK (ak (J I l i)).length (je l i) s) s
def ff(s:FS):FS:=dK l.length (iq l) s
def FS.f'(n:Nat)(s:FS):Prop:=s.1.length=n∧s.2.length=n
theorem Fs{n i j:Nat}{s:FS}(h:s.f' n):(je l i j s).f' n:=by
 unfold je;split
 ·exact h
 ·exact⟨by simpa using h.1,by simpa using h.2⟩
theorem Ft{n i:Nat}{s:FS}(h:s.f' n):(iq l i s).f' n:=by
 unfold iq
 cases J .bool s.2 i
 ·exact h
 ·exact sg (fun _ s=>FS.f' n s) (fun i s _ hs=>Fs l hs) h
theorem My{n:Nat}{s:FS}(h:s.f' n):(ff l s).f' n:=sg (fun _ s=>FS.f' n s) (fun i s _ hs=>Ft l hs) h
theorem afB(v:af.D)(hl:v.2.1.length≤1048576)(hn:dr v.2.1≤1048576)(s:FS)(h:s.f' v.2.1.length) :
  (jR aR).ef 0 v s.1 s.2=some ((dK v.2.1.length (fun _=>ff v.2.1) s).1,()):=by
 have key:=sh v.2.1.length (v.2.1.length*1048580+2) (fun m k (s:FS)=>(jR m).ef (k:Int) v s.1 s.2) (fun _=>ff v.2.1) (fun _ s=>s.f' v.2.1.length) (fun _ s _ hs=>My v.2.1 hs) (fun k s hk hs B y he=>by
  have inner:=sh v.2.1.length 1048580 (fun m i (s:FS)=>(jR m).cR (k:Int) (i:Int) v s.1 s.2) (iq v.2.1) (fun _ s=>s.f' v.2.1.length) (fun _ s _ hs=>Ft v.2.1 hs) (fun i s hi hs B y he=>by
   have hnl:=fM hi
   cases ho:J .bool s.2 i
   ·refine(he.step (f:=fun m=>(jR m).cR (k:Int) (i:Int) v s.1 s.2) fun m=>?_).mono (by omega)
    show tK (jR m) _ _ _ _ _=_
    unfold tK
    have fN:aN s.2.length (i:Int)=some i:=bw (by rw [hs.2];exact hi)
    rw [ch hi,fN]
    simp only [cond_true,av,Nat.zero_add,ho,Bool.not_false]
    rw [df i (by omega)]
    unfold iq;rw [ho];rfl
   ·have hst:iq v.2.1 i s=dK (ak (J I v.2.1 i)).length (je v.2.1 i) s:=by unfold iq;rw [ho];rfl
    rw [hst] at he
    have inj:=sh (ak (J I v.2.1 i)).length 1 (fun m j (s:FS)=>(jR m).rJ (k:Int) (i:Int) (j:Int) v s.1 s.2) (je v.2.1 i) (fun _ s=>s.f' v.2.1.length) (fun _ s _ hs=>Fs v.2.1 hs) (fun j s hj hs B y he=>by
     refine he.step fun m=>?_
     show yL (jR m) _ _ _ _ _ _=_
     unfold yL
     rw [bw hi]
     simp only [av]
     show cond (decide ((j:Int)<((ak (J I v.2.1 i)).length:Int))) ((aN (ak (J I v.2.1 i)).length (j:Int)).bind _) _=_
     rw [ch hj]
     simp only [cond_true]
     rw [bw hj]
     simp only [av]
     rw [nn v _ hl]
     simp only [av,zI]
     rw [df j (by omega)]
     show cond (bl v.2.1 (J aw (ak (J I v.2.1 i)) j).2.1).isSome _ _=_
     unfold je
     cases hx:bl v.2.1 (J aw (ak (J I v.2.1 i)) j).2.1 with
     | none=>rfl
     | some x =>
      have hxl:=(bS hx).1
      simp only [Option.isSome_some,cond_true]
      have hx2:bl v.2.1 (J aw (J I v.2.1 i).2.2.2.2.2.2.1 j).2.1=some x:=hx
      rw [hx2]
      show((aN s.1.length ((x:Nat):Int)).bind _)=_
      rw [bw (by rw [hs.1];exact hxl)]
      simp only [av]
      show((aN s.2.length ((x:Nat):Int)).bind _)=_
      rw [bw (by rw [hs.2];exact hxl)]
      simp only [av,Nat.zero_add]) s hs (B+1) y (by
     refine he.step fun m=>?_
     show yL (jR m) _ _ _ _ _ _=_
     unfold yL
     rw [bw hi]
     simp only [av]
     show cond (decide (((ak (J I v.2.1 i)).length:Int)<((ak (J I v.2.1 i)).length:Int))) _ _=_
     rw [cF (Nat.le_refl _)]
     simp only [cond_false]
     rw [df i (by omega)])
    refine(inj.step (f:=fun m=>(jR m).cR (k:Int) (i:Int) v s.1 s.2) fun m=>?_).mono (by omega)
    show tK (jR m) _ _ _ _ _=_
    unfold tK
    have fN:aN s.2.length (i:Int)=some i:=bw (by rw [hs.2];exact hi)
    rw [ch hi,fN]
    simp only [cond_true,av,Nat.zero_add,ho,Bool.not_true,cond_false]
    rfl) s hs (B+1) y (by
   refine he.step fun m=>?_
   show tK (jR m) _ _ _ _ _=_
   unfold tK
   rw [cF (Nat.le_refl _)]
   simp only [cond_false]
   rw [df k (by omega)];rfl)
  refine(inner.step (f:=fun m=>(jR m).ef (k:Int) v s.1 s.2) fun m=>?_).mono (by omega)
  show yK (jR m) _ _ _ _=_
  unfold yK
  rw [ch hk];rfl) s h 1 (some ((dK v.2.1.length (fun _=>ff v.2.1) s).1,())) (b2.done fun m=>by
  show yK (jR m) _ _ _ _=_
  unfold yK
  rw [cF (Nat.le_refl _)];rfl)
 have h1:v.2.1.length*1048580≤1048576*1048580:=Nat.mul_le_mul_right _ hl
 have hm:v.2.1.length*(v.2.1.length*1048580+2)≤1048576*(1048576*1048580+2):=Nat.mul_le_mul hl (Nat.add_le_add_right h1 2)
 have vx:=Nat.le_trans hm (by decide:1048576*(1048576*1048580+2)≤4611686018427387000)
 generalize v.2.1.length*(v.2.1.length*1048580+2)=X at *
 exact kM key (by omega)
def fx(n:Nat):Flags:=List.replicate n false
def dL(id:Int):Flags :=
 match bl l id with
 | none=>fx l.length
 | some a=>(dK l.length (fun _=>ff l) (fx l.length,(fx l.length).set a true)).1
theorem UF(v:af.D)(id:Int)(hl:v.2.1.length≤1048576)(hn:dr v.2.1≤1048576):CF (v,id,())=some (dL v.2.1 id,()):=by
 show CE (jR aR) v id=_
 unfold CE
 have hr:(decide (0≤(v.2.1.length:Int))&&decide ((v.2.1.length:Int)=(v.2.1.length:Int))&&room (Int.toNat (v.2.1.length:Int)))=true:=by
  rw [Int.toNat_natCast,cG (by omega),decide_eq_true (by omega),decide_eq_true rfl];rfl
 rw [hr]
 simp only [cond_true]
 rw [nn v id hl]
 simp only [av,zH,Int.toNat_natCast]
 unfold dL
 cases ha:bl v.2.1 id with
 | none=>rfl
 | some a =>
  simp only [Option.isNone_some,cond_false,gQ]
  rw [List.length_replicate,bw (bS ha).1]
  simp only [av,Nat.zero_add]
  exact afB v hl hn (fx v.2.1.length,(fx v.2.1.length).set a true) ⟨by simp [fx],by simp [fx]⟩
end
theorem cE{t:ae}{xs:List t.D}{i:Nat}(h:i<xs.length):J t xs i∈xs:=by rw [c7 h];exact List.getElem_mem h
theorem e8{t:ae}{xs:List t.D}{x:t.D}(h:x∈xs):∃i,i<xs.length∧J t xs i=x:=by
 obtain ⟨i,hi,he⟩:=List.mem_iff_getElem.1 h
 exact⟨i,hi,by rw [c7 hi];exact he⟩
def E(l:List aL)(a b:Int):Prop:=∃i d,bl l a=some i∧d∈ak (J I l i)∧d.2.1=b
abbrev dM(l:List aL)(a b:Int):Prop:=Relation.TransGen (E l) a b
def hV(l:List aL):Prop:=∀x,x<l.length→bl l (J I l x).1=some x
def qM(l:List aL):Prop:=∀i,i<l.length→∀d,d∈ak (J I l i)→(bl l d.2.1).isSome=true
section
variable(l:List aL)
theorem UG{xs:Flags}{x i:Nat}(h:T xs i):T (xs.set x true) i:=by
 by_cases hx:x<xs.length
 ·exact(uR hx).2 (.inr h)
 ·rwa [List.set_eq_of_length_le (by omega)]
def FS.le(s ar:FS):Prop:=(∀i,T s.1 i→T ar.1 i)∧(∀i,T s.2 i→T ar.2 i)
theorem FS.le.Fu{s:FS} : s.le s:=⟨fun _ h=>h,fun _ h=>h⟩
theorem FS.le.Ja{s ar UH:FS}(h:s.le ar)(k:ar.le UH):s.le UH:=⟨fun i hi=>k.1 i (h.1 i hi),fun i hi=>k.2 i (h.2 i hi)⟩
theorem zJ{f:Nat→FS→FS}(h:∀i s,FS.le s (f i s))(s:FS):∀n,FS.le s (dK n f s)
 | 0=>.Fu
 | n+1=>(zJ h s n).Ja (h n _)
theorem UI{f:Nat→FS→FS}(h:∀i s,FS.le s (f i s))(s:FS){i n:Nat}(hi:i<n):FS.le (f i (dK i f s)) (dK n f s):=by
 induction n with
 | zero=>omega
 | succ n ih =>
  by_cases h1:i=n
  ·subst h1;exact .Fu
  ·exact(ih (by omega)).Ja (h n _)
theorem UJ(i j:Nat)(s:FS):FS.le s (je l i j s):=by
 unfold je;split
 ·exact .Fu
 ·exact⟨fun _ h=>UG h,fun _ h=>UG h⟩
theorem Mz(i:Nat)(s:FS):FS.le s (iq l i s):=by
 unfold iq
 cases J .bool s.2 i
 ·exact .Fu
 ·exact zJ (UJ l i) s _
theorem Fv(s:FS):FS.le s (ff l s):=zJ (Mz l) s _
theorem afC{s:FS}(hs:s.f' l.length){i x:Nat}(hi:i<l.length)(ho:T s.2 i){d:aw.D}(ag:d∈ak (J I l i))(hx:bl l d.2.1=some x):T (ff l s).1 x∧T (ff l s).2 x:=by
 have h1:=UI (Mz l) s hi
 have ht:T (dK i (iq l) s).2 i:=(zJ (Mz l) s i).2 i ho
 have rn:(dK i (iq l) s).f' l.length:=sg (fun _ s=>FS.f' l.length s) (fun i s _ hs=>Ft l hs) hs
 generalize dK i (iq l) s=t at *
 obtain ⟨j,hj,rfl⟩:=e8 ag
 have h2:=UI (UJ l i) t hj
 have e:iq l i t=dK (ak (J I l i)).length (je l i) t:=by unfold iq;rw [show J .bool t.2 i=true from ht];rfl
 rw [← e] at h2
 have pY:(dK j (je l i) t).f' l.length:=sg (fun _ s=>FS.f' l.length s) (fun i s _ hs=>Fs l hs) rn
 generalize dK j (je l i) t=u at *
 have hs:je l i j u=(u.1.set x true,u.2.set x true):=by unfold je;rw [hx]
 rw [hs] at h2
 have hxl:=(bS hx).1
 exact⟨h1.1 x (h2.1 x ((uR (by rw [pY.1];exact hxl)).2 (.inl rfl))),h1.2 x (h2.2 x ((uR (by rw [pY.2];exact hxl)).2 (.inl rfl)))⟩
theorem UK(Pi fy:Nat→Prop)(zK:∀i,i<l.length→fy i→∀d,d∈ak (J I l i)→∀x,bl l d.2.1=some x→Pi x∧fy x){s:FS}(hl:s.f' l.length)(h1:∀i,T s.1 i→Pi i)(h2:∀i,T s.2 i→fy i) :
  (∀i,T (ff l s).1 i→Pi i)∧(∀i,T (ff l s).2 i→fy i):=by
 have key:(ff l s).f' l.length∧(∀i,T (ff l s).1 i→Pi i)∧(∀i,T (ff l s).2 i→fy i):=by
  refine sg (fun _ (s:FS)=>s.f' l.length∧(∀i,T s.1 i→Pi i)∧(∀i,T s.2 i→fy i)) (fun i s hi hs=>?_) ⟨hl,h1,h2⟩
  obtain ⟨hl,h1,h2⟩:=hs
  refine⟨Ft l hl,?_⟩
  cases ho:J .bool s.2 i
  ·rw [show iq l i s=s by unfold iq;rw [ho];rfl];exact⟨h1,h2⟩
  ·rw [show iq l i s=dK (ak (J I l i)).length (je l i) s by unfold iq;rw [ho];rfl]
   have:=sg (n:=(ak (J I l i)).length) (f:=je l i) (fun _ (s:FS)=>s.f' l.length∧(∀i,T s.1 i→Pi i)∧(∀i,T s.2 i→fy i)) (fun j t hj ht=>by
    obtain ⟨hl,g1,g2⟩:=ht
    refine⟨Fs l hl,?_⟩
    unfold je
    split
    ·exact⟨g1,g2⟩
    ·rename_i x hx
     obtain ⟨ed,d_⟩:=zK i hi (h2 i ho) _ (cE hj) x hx
     have hxl:=(bS hx).1
     refine⟨fun k hk=>?_,fun k hk=>?_⟩
     ·rcases (uR (by rw [hl.1];exact hxl)).1 hk with rfl | hk
      ·exact ed
      ·exact g1 k hk
     ·rcases (uR (by rw [hl.2];exact hxl)).1 hk with rfl | hk
      ·exact d_
      ·exact g2 k hk) ⟨hl,h1,h2⟩
   exact this.2
 exact key.2
def Fw(s:FS):Prop:=∀i,i<l.length→T s.2 i→∀d,d∈ak (J I l i)→∀x,bl l d.2.1=some x→T s.1 x∧T s.2 x
theorem afD{s:FS}(hl:s.f' l.length)(h:Fw l s):Fw l (ff l s):=by
 obtain ⟨h1,h2⟩:=UK l (T s.1) (T s.2) h hl (fun _ h=>h) (fun _ h=>h)
 intro i hi ho d ag x hx
 obtain ⟨ed,d_⟩:=h i hi (h2 i ho) d ag x hx
 exact⟨(Fv l s).1 x ed,(Fv l s).2 x d_⟩
def np(xs:Flags):Nat:=(xs.filter fun b=>b).length
theorem afE(xs:Flags):np xs≤xs.length:=List.length_filter_le _ _
theorem UL:∀(a b:Flags),a.length=b.length→(∀i,T a i→T b i)→np a≤np b∧(np a=np b→a=b)
 | [],[],_,_=>⟨Nat.le_refl _,fun _=>rfl⟩
 | [],_ :: _,h,_=>by simp at h
 | _ :: _,[],h,_=>by simp at h
 | x :: a,y :: b,h,bX=>by
  obtain ⟨h1,h2⟩:=UL a b (by simpa using h) (fun i hi=>bX (i+1) hi)
  have h0:x=true→y=true:=fun hx=>bX 0 hx
  unfold np at *
  cases x <;> cases y <;> simp only [List.filter_cons,if_true,Bool.false_eq_true,if_false,List.length_cons]
  ·exact⟨h1,fun h=>by rw [h2 h]⟩
  ·exact⟨by omega,fun h=>by omega⟩
  ·exact absurd (h0 rfl) (by simp)
  ·exact⟨by omega,fun h=>by rw [h2 (by omega)]⟩
theorem afF{xs:Flags}{i:Nat}(h:T xs i):1≤np xs:=by
 have hm:true∈xs:=by
  unfold T J at h
  rw [List.getD_eq_getElem?_getD] at h
  cases hx:xs[i]? with
  | none=>rw [hx] at h;simp at h;cases h
  | some b =>
   rw [hx] at h
   have hb:b=true:=h
   subst hb
   exact List.mem_of_getElem? hx
 unfold np
 exact List.length_pos_of_mem (List.mem_filter.2 ⟨hm,rfl⟩)
theorem rounds(s:FS)(hl:s.f' l.length)(h:1≤np s.2):∀k,(dK k (fun _=>ff l) s).f' l.length∧(Fw l (dK k (fun _=>ff l) s)∨k+1≤np (dK k (fun _=>ff l) s).2)
 | 0=>⟨hl,.inr h⟩
 | k+1=>by
  obtain ⟨hk,ih⟩:=rounds s hl h k
  rw [dK]
  generalize dK k (fun _=>ff l) s=t at *
  have hr:=My l hk
  refine⟨hr,?_⟩
  rcases ih with ih | ih
  ·exact .inl (afD l hk ih)
  ·obtain ⟨c1,gf⟩:=UL t.2 (ff l t).2 (by rw [hk.2,hr.2]) (Fv l t).2
   by_cases hc:np t.2=np (ff l t).2
   ·left
    have e:=gf hc
    intro i hi ho d ag x hx
    rw [← e] at ho
    exact afC l hk hi ho ag hx
   ·right;omega
theorem MA(Pi fy:Nat→Prop)(zK:∀i,i<l.length→fy i→∀d,d∈ak (J I l i)→∀x,bl l d.2.1=some x→Pi x∧fy x)(s:FS)(hl:s.f' l.length)(h1:∀i,T s.1 i→Pi i)(h2:∀i,T s.2 i→fy i) :
  ∀k,(dK k (fun _=>ff l) s).f' l.length∧(∀i,T (dK k (fun _=>ff l) s).1 i→Pi i)∧(∀i,T (dK k (fun _=>ff l) s).2 i→fy i)
 | 0=>⟨hl,h1,h2⟩
 | k+1=>by
  obtain ⟨g,g1,g2⟩:=MA Pi fy zK s hl h1 h2 k
  exact⟨My l g,UK l Pi fy zK g g1 g2⟩
theorem afG(s:FS):∀k,FS.le s (dK k (fun _=>ff l) s):=zJ (fun _ s=>Fv l s) s
theorem MB(n i:Nat):¬T (fx n) i:=by
 unfold T J fx
 rw [List.getD_eq_getElem?_getD,List.getElem?_replicate]
 split <;> simp [ae.zero]
theorem UM(id:Int):(dL l id).length=l.length:=by
 unfold dL
 split
 ·simp [fx]
 ·exact(MA l (fun _=>True) (fun _=>True) (fun _ _ _ _ _ _ _=>⟨trivial,trivial⟩) _ ⟨by simp [fx],by simp [fx]⟩ (fun _ _=>trivial) (fun _ _=>trivial) _).1.1
theorem w7(ag:hV l)(id:Int){x:Nat}(hx:x<l.length):T (dL l id) x↔dM l id (J I l x).1:=by
 unfold dL
 cases ha:bl l id with
 | none =>
  constructor
  ·intro h;exact absurd h (MB _ _)
  ·intro h
   have:∀b,dM l id b→False:=by
    intro b hb
    induction hb with
    | single h=>obtain ⟨i,d,h1,_⟩:=h;rw [ha] at h1;cases h1
    | tail _ _ ih=>exact ih
   exact(this _ h).elim
 | some a =>
  obtain ⟨dQ,afH⟩:=bS ha
  have iP:FS.f' l.length (fx l.length,(fx l.length).set a true):=⟨by simp [fx],by simp [fx]⟩
  have ho:T ((fx l.length).set a true) a:=(uR (by simp [fx];exact dQ)).2 (.inl rfl)
  constructor
  ·intro h
   refine(MA l (fun y=>dM l id (J I l y).1) (fun y=>(J I l y).1=id∨dM l id (J I l y).1) ?_ _ iP (fun i h=>absurd h (MB _ _)) ?_ l.length).2.1 x h
   ·intro i hi w8 d hK y aO
    obtain ⟨hyl,w9⟩:=bS aO
    have he:E l (J I l i).1 (J I l y).1:=⟨i,d,ag i hi,hK,w9.symm⟩
    rcases w8 with w8 | w8
    ·rw [w8] at he;exact⟨.single he,.inr (.single he)⟩
    ·exact⟨w8.tail he,.inr (w8.tail he)⟩
   ·intro i hi
    rcases (uR (by simp [fx];exact dQ)).1 hi with rfl | hi
    ·exact .inl afH
    ·exact absurd hi (MB _ _)
  ·intro h
   obtain ⟨hlen,afI⟩:=rounds l _ iP (afF ho) l.length
   have hc:Fw l (dK l.length (fun _=>ff l) (fx l.length,(fx l.length).set a true)):=by
    rcases afI with h | h
    ·exact h
    ·have:=afE (dK l.length (fun _=>ff l) (fx l.length,(fx l.length).set a true)).2
     rw [hlen.2] at this
     omega
   show T (dK l.length (fun _=>ff l) (fx l.length,(fx l.length).set a true)).1 x
   have afJ:=(afG l (fx l.length,(fx l.length).set a true) l.length).2 a ho
   generalize dK l.length (fun _=>ff l) (fx l.length,(fx l.length).set a true)=F at *
   have key:∀b,dM l id b→∀y,bl l b=some y→T F.1 y∧T F.2 y:=by
    intro b hb
    induction hb with
    | single h =>
     obtain ⟨i,d,h1,h2,h3⟩:=h
     intro y aO
     rw [ha] at h1
     obtain rfl:=aV h1
     exact hc _ dQ afJ d h2 y (by rw [h3];exact aO)
    | tail _ h ih =>
     obtain ⟨i,d,h1,h2,h3⟩:=h
     intro y aO
     exact hc i (bS h1).1 (ih i h1).2 d h2 y (by rw [h3];exact aO)
   exact(key _ h x (ag x hx)).1
end
section
variable(l:List aL)
def gk(q:Int):List aw.D :=
 match bl l q with
 | none=>[]
 | some i=>ak (J I l i)
theorem MC{a b:Int} : E l a b↔∃d,d∈gk l a∧d.2.1=b:=by
 unfold E gk
 constructor
 ·rintro ⟨i,d,h1,h2,h3⟩;rw [h1];exact⟨d,h2,h3⟩
 ·rintro ⟨d,h1,h2⟩
  cases hi:bl l a with
  | none=>rw [hi] at h1;simp at h1
  | some i=>rw [hi] at h1;exact⟨i,d,rfl,h1,h2⟩
def Fx:List Int:=l.flatMap fun x=>(ak x).map fun d=>d.2.1
theorem afK:(Fx l).length=dr l:=by
 unfold Fx dr
 rw [List.length_flatMap]
 congr 1
 simp
theorem afL{q:Int}{d:aw.D}(h:d∈gk l q):d.2.1∈Fx l:=by
 unfold gk at h
 cases hi:bl l q with
 | none=>rw [hi] at h;simp at h
 | some i =>
  rw [hi] at h
  exact List.mem_flatMap.2 ⟨_,cE (bS hi).1,List.mem_map.2 ⟨d,h,rfl⟩⟩
theorem afM(q:Int):(gk l q).length≤dr l:=by
 unfold gk
 split
 ·simp
 ·rename_i i hi;exact fM (bS hi).1
def pq(out:List Int)(d:aw.D):List Int:=if d.2.1∈out then out else out++[d.2.1]
structure pr(id:Int)(out:List Int):Prop where
 zL:out.Nodup
 sub:out⊆Fx l
 zM:∀b,b∈out→dM l id b
theorem pr.len{id:Int}{out:List Int}(h:pr l id out):out.length≤dr l:=by
 rw [← afK];exact h.zL.length_le_of_subset h.sub
theorem UN{id q:Int}{out:List Int}{d:aw.D}(h:pr l id out)(hq:q=id∨dM l id q)(ag:d∈gk l q):pr l id (pq out d):=by
 unfold pq
 split
 ·exact h
 ·rename_i hn
  have he:E l q d.2.1:=(MC l).2 ⟨d,ag,rfl⟩
  refine⟨?_,?_,?_⟩
  ·rw [List.nodup_append]
   refine⟨h.zL,by simp,?_⟩
   intro a ha b hb
   rw [List.mem_singleton] at hb
   subst hb
   rintro rfl
   exact hn ha
  ·intro a ha
   rcases List.mem_append.1 ha with ha | ha
   ·exact h.sub ha
   ·rw [List.mem_singleton] at ha;rw [ha];exact afL l ag
  ·intro b hb
   rcases List.mem_append.1 hb with hb | hb
   ·exact h.zM b hb
   ·rw [List.mem_singleton] at hb
    rw [hb]
    rcases hq with rfl | hq
    ·exact .single he
    ·exact hq.tail he
theorem UO(out:List Int)(d:aw.D):∃t,pq out d=out++t:=by
 unfold pq;split
 ·exact⟨[],by simp⟩
 ·exact⟨_,rfl⟩
theorem afN(out:List Int)(d:aw.D):d.2.1∈pq out d:=by
 unfold pq;split
 ·assumption
 ·simp
def addN(q:Int)(out:List Int):List Int:=dK (gk l q).length (fun j o=>pq o (J aw (gk l q) j)) out
theorem afO{id q:Int}{out:List Int}(h:pr l id out)(hq:q=id∨dM l id q):pr l id (addN l q out)∧(∃t,addN l q out=out++t)∧∀d,d∈gk l q→d.2.1∈addN l q out:=by
 have key:=sg (n:=(gk l q).length) (f:=fun j o=>pq o (J aw (gk l q) j)) (fun j o=>pr l id o∧(∃t,o=out++t)∧∀k,k<j→(J aw (gk l q) k).2.1∈o) (fun j o hj ho=>by
  obtain ⟨h1,⟨t,ht⟩,h3⟩:=ho
  refine⟨UN l h1 hq (cE hj),?_,?_⟩
  ·obtain ⟨c8,MD⟩:=UO o (J aw (gk l q) j)
   exact⟨t++c8,by rw [MD,ht,List.append_assoc]⟩
  ·intro k hk
   by_cases qN:k=j
   ·subst qN;exact afN _ _
   ·obtain ⟨c8,MD⟩:=UO o (J aw (gk l q) j)
    rw [MD]
    exact List.mem_append.2 (.inl (h3 k (by omega)))) ⟨h,⟨[],by simp⟩,fun k hk=>by omega⟩
 obtain ⟨k1,k2,k3⟩:=key
 refine⟨k1,k2,fun d ag=>?_⟩
 obtain ⟨i,hi,he⟩:=e8 ag
 rw [← he];exact k3 i hi
end
structure Found(l:List aL)(id:Int)(out:List Int):Prop where
 zL:out.Nodup
 iff:∀b,b∈out↔dM l id b
 len:out.length≤dr l
theorem UP{l:List aL}{id:Int}{out:List Int}(h:pr l id out)(hc:∀q,q=id∨q∈out→∀d,d∈gk l q→d.2.1∈out):Found l id out:=by
 refine⟨h.zL,fun b=>⟨h.zM b,fun hb=>?_⟩,h.len⟩
 induction hb with
 | single he=>obtain ⟨d,h1,rfl⟩:=(MC l).1 he;exact hc id (.inl rfl) d h1
 | tail _ he ih=>obtain ⟨d,h1,rfl⟩:=(MC l).1 he;exact hc _ (.inr ih) d h1
theorem afP(v:af.D)(hl:v.2.1.length≤1048576)(hn:dr v.2.1≤1048576)(id:Int):∀(r i:Nat) (out:List Int),i+r=dr v.2.1+1→pr v.2.1 id out→i≤out.length+1 →
  (∀k,k<i→∀d,d∈gk v.2.1 (J (.int .i64) (id :: out) k)→d.2.1∈out) →
  ∃zN,Found v.2.1 id zN∧b2 (fun m=>(mh m).bh v (i:Int) out (id :: out)) (1+r*1048580) (some (zN,())):=by
 intro r
 induction r with
 | zero =>
  intro i out hi ho afQ hc
  have:=ho.len
  have gr:i=out.length+1:=by omega
  refine⟨out,UP ho fun q hq d ag=>?_,(b2.done fun m=>?_).mono (by omega)⟩
  ·rcases hq with rfl | hq
   ·exact hc 0 (by omega) d ag
   ·obtain ⟨k,hk,he⟩:=e8 (t:=.int .i64) hq
    exact hc (k+1) (by omega) d (by rw [show J (.int .i64) (id :: out) (k+1)=J (.int .i64) out k from rfl,he];exact ag)
  ·show qx (mh m) _ _ _ _=_
   unfold qx
   rw [show(id :: out).length=i by rw [List.length_cons,gr],cF (Nat.le_refl _)];rfl
 | succ r ih =>
  intro i out hi ho afQ hc
  by_cases cz:i<out.length+1
  case neg =>
   have gr:i=out.length+1:=by omega
   refine⟨out,UP ho fun q hq d ag=>?_,(b2.done fun m=>?_).mono (by omega)⟩
   ·rcases hq with rfl | hq
    ·exact hc 0 (by omega) d ag
    ·obtain ⟨k,hk,he⟩:=e8 (t:=.int .i64) hq
     exact hc (k+1) (by omega) d (by rw [show J (.int .i64) (id :: out) (k+1)=J (.int .i64) out k from rfl,he];exact ag)
   ·show qx (mh m) _ _ _ _=_
    unfold qx
    rw [show(id :: out).length=i by rw [List.length_cons,gr],cF (Nat.le_refl _)];rfl
  generalize hq:J (.int .i64) (id :: out) i=q at *
  have UQ:q=id∨dM v.2.1 id q:=by
   cases i with
   | zero=>left;rw [← hq];rfl
   | succ k =>
    right
    refine ho.zM q ?_
    rw [← hq]
    exact cE (t:=.int .i64) (xs:=out) (by omega)
  obtain ⟨k1,⟨t,ht⟩,k3⟩:=afO v.2.1 ho UQ
  have hpre:∀k,k<out.length+1→J (.int .i64) (id ::(out++t)) k=J (.int .i64) (id :: out) k:=by
   intro k hk
   unfold J
   rw [List.getD_eq_getElem?_getD,List.getD_eq_getElem?_getD,← List.cons_append,List.getElem?_append_left (by simpa using hk)]
  obtain ⟨zN,f1,f2⟩:=ih (i+1) (addN v.2.1 q out) (by omega) k1 (by rw [ht];simp;omega) (fun k hk d ag=>by
   by_cases hQ:k=i
   ·subst hQ
    rw [ht,hpre k cz,hq] at ag
    exact k3 d ag
   ·rw [ht,hpre k (by omega)] at ag
    rw [ht]
    exact List.mem_append.2 (.inl (hc k (by omega) d ag)))
  refine⟨zN,f1,?_⟩
  have hol:=ho.len
  have ot:i<4000000000000000000:=by omega
  cases hx:bl v.2.1 q with
  | none =>
   have jA:gk v.2.1 q=[]:=by unfold gk;rw [hx]
   have Fy:addN v.2.1 q out=out:=by unfold addN;rw [jA];rfl
   rw [Fy] at f2
   refine(f2.step (f:=fun m=>(mh m).bh v (i:Int) out (id :: out)) fun m=>?_).mono (by omega)
   show qx (mh m) _ _ _ _=_
   unfold qx
   rw [ch (by simpa using cz),bw (by simpa using cz)]
   simp only [cond_true,av,Nat.zero_add]
   rw [hq,w5 v q hl]
   simp only [av]
   rw [hx,df i ot];rfl
  | some x =>
   have jA:gk v.2.1 q=ak (J I v.2.1 x):=by unfold gk;rw [hx]
   have hnl:=afM v.2.1 q
   have inner:=sh (gk v.2.1 q).length 1 (fun m j (o:List Int)=>(mh m).fX v (i:Int) (gk v.2.1 q) ((gk v.2.1 q).length:Int) (j:Int) o (id :: o)) (fun j o=>pq o (J aw (gk v.2.1 q) j)) (fun j o=>pr v.2.1 id o) (fun j o hj ho=>UN v.2.1 ho UQ (cE hj)) (fun j o hj ho B y he=>by
    refine he.step fun m=>?_
    have hol:=ho.len
    show zb (mh m) _ _ _ _ _ _ _=_
    unfold zb
    rw [ch hj,bw hj]
    simp only [cond_true,av]
    rw [contains_eq _ _ (by omega)]
    simp only [av]
    rw [df j (by omega)]
    unfold pq
    by_cases hm:(J aw (gk v.2.1 q) j).2.1∈o
    ·rw [decide_eq_true hm,if_pos hm];rfl
    ·rw [decide_eq_false hm,if_neg hm,cG (by simp;omega),cG (by simp;omega)];rfl) out ho (1+r*1048580+1) (some (zN,())) (by
    refine f2.step fun m=>?_
    show zb (mh m) _ _ _ _ _ _ _=_
    unfold zb
    rw [cF (Nat.le_refl _)]
    simp only [cond_false]
    rw [df i ot];rfl)
   refine(inner.step (f:=fun m=>(mh m).bh v (i:Int) out (id :: out)) fun m=>?_).mono (by omega)
   show qx (mh m) _ _ _ _=_
   unfold qx
   rw [ch (by simpa using cz),bw (by simpa using cz)]
   simp only [cond_true,av,Nat.zero_add]
   rw [hq,w5 v q hl]
   simp only [av]
   rw [hx,jA];rfl
theorem ME(v:af.D)(hl:v.2.1.length≤1048576)(hn:dr v.2.1≤1048576)(id:Int):∃out,Found v.2.1 id out∧um (v,id,())=some (out,()):=by
 obtain ⟨out,h1,h2⟩:=afP v hl hn id (dr v.2.1+1) 0 [] (by omega) ⟨by simp,by simp,by simp⟩ (by simp) (fun k hk=>by omega)
 refine⟨out,h1,?_⟩
 show DL (mh aR) v id=_
 unfold DL
 have hm:(dr v.2.1+1)*1048580≤1048577*1048580:=Nat.mul_le_mul_right _ (by omega)
 exact kM h2 (by omega)
theorem zO{β : Type}(n W:Nat)(F:Nat→Nat → β)(P:Nat→Bool)(no E : β)(B:Nat)
  (hs:∀i,i<n→(∀j,j<i→P j=true)→P i=true→∀B y,b2 (fun m=>F m (i+1)) B y→b2 (fun m=>F m i) (B+W) y)
  (hx:∀i,i<n→(∀j,j<i→P j=true)→P i=false→b2 (fun m=>F m i) W no)
  (lv:(∀j,j<n→P j=true)→b2 (fun m=>F m n) B E):b2 (fun m=>F m 0) (B+n*W) (cond (fe n P) E no):=by
 have key:∀r i,i+r=n→(∀j,j<i→P j=true)→b2 (fun m=>F m i) (B+r*W) (cond (fe n P) E no):=by
  intro r
  induction r with
  | zero =>
   intro i hi au
   have:i=n:=by omega
   subst this
   rw [kK.2 au]
   simpa using lv au
  | succ r ih =>
   intro i hi au
   cases Fz:P i
   ·have:fe n P=false:=by
     rw [← Bool.not_eq_true]
     intro h
     have:=kK.1 h i (by omega)
     rw [Fz] at this;cases this
    rw [this]
    refine(hx i (by omega) au Fz).mono ?_
    rw [Nat.add_one_mul];omega
   ·have:=hs i (by omega) au Fz _ _ (ih (i+1) (by omega) fun j hj=>by
     by_cases h:j=i
     ·subst h;exact Fz
     ·exact au j (by omega))
    rw [Nat.add_one_mul,← Nat.add_assoc]
    exact this
 exact key n 0 (by omega) (by intro j hj;omega)
def eM(x:aL):Int:=x.2.2.2.2.2.2.2.1
def ez(x:aL):Int:=x.2.2.2.2.2.2.2.2.1
def plain(x:aL):Bool:=((ak x).length:Int)==0&&eM x==0&&ez x==0
def ou(l:List aL)(N:List aw.D)(j:Nat):Bool :=
 hU (J aw N j).1 && !(decide (0<j) && !du (J aw N (j-1)).1 (J aw N j).1) && !((J aw N j).2.1==1)&&(bl l (J aw N j).2.1).isSome
def si(l:List aL)(x:aL):Bool:=fe (ak x).length (ou l (ak x))&&decide (((ak x).length:Int)≤12)
def nq(l:List aL)(x:aL):Bool :=
 c4 x.2.2.1 0 2047&&c4 x.2.2.2.1 0 1000&&c4 x.2.2.2.2.1 0 1000 &&
  cond (x.2.1==1) (plain x&&decide (((bM x).length:Int)≤64))
   (cond (x.2.1==3) (plain x&&jd (bM x)&&x.2.2.1==511)
    (cond (x.2.1==2) (br (bM x) []&&c4 (eM x) 0 400&&c4 (ez x) 0 24&&si l x) false))
theorem afR(v:af.D)(x:aL)(hl:v.2.1.length≤1048576)(hn:(ak x).length≤1048576)(hs:∀d,d∈ak x→d.1.length≤1048576):Kb (v,x,())=some (si v.2.1 x,()):=by
 show DD (ui aR) v x=_
 unfold DD si
 refine sd (ak x).length (by omega) (ou v.2.1 (ak x)) _ (fun m i=>ui m v (ak x) ((ak x).length:Int) i x) ?_ ?_
 ·intro m _
  simp only [ui,DE]
  rw [cF (Nat.le_refl _)];rfl
 ·intro m i hi _ hw
  simp only [ui,DE,hw]
  rw [ch hi,bw hi]
  simp only [cond_true,av]
  rw [afx _ (by have:=hs _ (cE hi);omega)]
  simp only [av]
  rw [w5 v _ hl]
  simp only [av]
  unfold ou
  cases i with
  | zero =>
   simp only [Mo,Nat.lt_irrefl,decide_false,cond_false,Bool.false_and,Bool.not_false,Bool.and_true]
   cases hU (J aw (ak x) 0).1 <;> cases (J aw (ak x) 0).2.1==1 <;> cases (bl v.2.1 (J aw (ak x) 0).2.1) <;> rfl
  | succ i =>
   rw [show(List.length x.2.2.2.2.2.2.1)=(ak x).length from rfl,Mn hi (by omega)]
   simp only [Mp,Nat.zero_lt_succ,decide_true,cond_true,av,Nat.add_sub_cancel,Bool.true_and]
   rw [show(J aw x.2.2.2.2.2.2.1 i)=J aw (ak x) i from rfl]
   cases hU (J aw (ak x) (i+1)).1 <;> cases (J aw (ak x) (i+1)).2.1==1 <;> cases (bl v.2.1 (J aw (ak x) (i+1)).2.1) <;> cases du (J aw (ak x) i).1 (J aw (ak x) (i+1)).1 <;> rfl
theorem afS(v:af.D)(x:aL)(hl:v.2.1.length≤1048576)(hn:(ak x).length≤1048576)(q:Nat)(hq:(ak x).length<q):(qw q).mb 0 v x=some (fe (ak x).length (ou v.2.1 (ak x)),()):=by
 have:=sd (ak x).length (by omega) (ou v.2.1 (ak x)) true (fun m i=>(qw m).mb i v x) (by
  intro m _
  show y9 (qw m) _ _ _=_
  unfold y9
  show cond (decide (((ak x).length:Int)<((ak x).length:Int))) _ _=_
  rw [cF (Nat.le_refl _)];rfl) (by
  intro m i hi _ hw
  show y9 (qw m) _ _ _=_
  unfold y9
  show cond (decide ((i:Int)<((ak x).length:Int))) ((aN (ak x).length (i:Int)).bind _) _=_
  rw [ch hi,bw hi]
  simp only [cond_true,av,hw]
  rw [afw]
  simp only [av]
  rw [nn v _ hl]
  simp only [av,zH]
  unfold ou
  rw [show(x.2.2.2.2.2.2.1)=ak x from rfl]
  cases i with
  | zero =>
   simp only [Mo,Nat.lt_irrefl,decide_false,cond_false,Bool.false_and,Bool.not_false,Bool.and_true]
   cases hU (J aw (ak x) 0).1 <;> cases (J aw (ak x) 0).2.1==1 <;> cases (bl v.2.1 (J aw (ak x) 0).2.1) <;> rfl
  | succ i =>
   rw [Mn hi (by omega)]
   simp only [Mp,Nat.zero_lt_succ,decide_true,cond_true,av,Nat.add_sub_cancel,Bool.true_and]
   cases hU (J aw (ak x) (i+1)).1 <;> cases (J aw (ak x) (i+1)).2.1==1 <;> cases (bl v.2.1 (J aw (ak x) (i+1)).2.1) <;> cases du (J aw (ak x) i).1 (J aw (ak x) (i+1)).1 <;> rfl) q hq
 rw [Bool.and_true] at this
 exact this
theorem UR(v:af.D)(x:aL)(hl:v.2.1.length≤1048576)(hn:(ak x).length≤1048576):Dm (v,x,())=some (nq v.2.1 x,()):=by
 obtain ⟨q,hq,hL⟩:=jb 1
 show Dl (qw aR) v x=_
 rw [hq]
 unfold Dl
 have hk:∀b,(qw (q+1)).bh b v x=J_ (qw q) b v x:=fun _=>rfl
 simp only [hk]
 unfold J_
 rw [afS v x hl hn q (by omega),UB]
 simp only [jz,av,mo]
 congr 2
 unfold nq si plain eM ez bM
 rw [show(x.2.2.2.2.2.2.1)=ak x from rfl]
 generalize fe (ak x).length (ou v.2.1 (ak x))=A
 generalize jd x.2.2.2.2.2.1=afT
 generalize br x.2.2.2.2.2.1 []=afU
 generalize x.2.2.2.2.2.1.length=afV
 generalize (ak x).length=afW
 generalize x.2.2.2.2.2.2.2.1=afX
 generalize x.2.2.2.2.2.2.2.2.1=afY
 simp only [c4]
 rw [Bool.eq_iff_iff]
 simp only [Bool.cond_eq_ite,Bool.ite_eq_true_distrib,Bool.and_eq_true,Bool.or_eq_true,Bool.not_eq_true',decide_eq_true_eq,beq_iff_eq,decide_eq_false_iff_not]
 grind (splits:=60)
theorem US(v:af.D)(x:aL)(hl:v.2.1.length≤1048576)(hn:(ak x).length≤1048576)(hs:∀d,d∈ak x→d.1.length≤1048576)(ag:(bM x).length≤1048576):DH (v,x,())=some (nq v.2.1 x,()):=by
 obtain ⟨q,hq,hL⟩:=jb 1
 show DG (za aR) v x=_
 rw [hq]
 unfold DG
 simp only [za,Kc]
 rw [afR v x hl hn hs,Mr _ (by unfold bM at ag;omega)]
 simp only [jc,av,mo]
 congr 2
 unfold nq si plain eM ez bM
 rw [show(x.2.2.2.2.2.2.1)=ak x from rfl]
 generalize fe (ak x).length (ou v.2.1 (ak x))=A
 generalize jd x.2.2.2.2.2.1=afT
 generalize br x.2.2.2.2.2.1 []=afU
 generalize x.2.2.2.2.2.1.length=afV
 generalize (ak x).length=afW
 generalize x.2.2.2.2.2.2.2.1=afX
 generalize x.2.2.2.2.2.2.2.2.1=afY
 simp only [c4]
 rw [Bool.eq_iff_iff]
 simp only [Bool.cond_eq_ite,Bool.ite_eq_true_distrib,Bool.and_eq_true,Bool.or_eq_true,Bool.not_eq_true',decide_eq_true_eq,beq_iff_eq,bne_iff_ne,decide_eq_false_iff_not]
 grind (splits:=60)
section
variable(l:List aL)
def ov(F:Flags):List Nat:=(List.range l.length).filter fun i=>J .bool F i
def dl(i:Nat):Nat:=(bM (J I l i)).length
def jf(F:Flags):Nat:=((ov l F).map (dl l)).sum
def jB(F:Flags):Nat:=(ov l F).length
def pre(F:Flags)(i:Nat):List Nat:=(List.range i).filter fun i=>J .bool F i
theorem MF(F:Flags)(i:Nat):pre F (i+1)=pre F i++cond (J .bool F i) [i] []:=by
 unfold pre
 rw [List.range_succ,List.filter_append]
 cases h:J .bool F i <;> simp [List.filter_cons,h]
theorem UT(F:Flags){i:Nat}(hi:i≤l.length):((pre F i).map (dl l)).sum≤bytesOf (l.take i)∧(pre F i).length≤i:=by
 induction i with
 | zero=>simp [pre]
 | succ i ih =>
  obtain ⟨h1,h2⟩:=ih (by omega)
  rw [MF,w6 (by omega)]
  cases J .bool F i
  ·simp only [cond_false,List.append_nil];omega
  ·simp only [cond_true,List.map_append,List.sum_append_nat,List.length_append,List.map_cons,List.map_nil,List.sum_cons,List.sum_nil,List.length_cons,List.length_nil]
   have:dl l i=(bM (J I l i)).length:=rfl
   omega
end
theorem UU(v:af.D)(id:Int)(hl:v.2.1.length≤1048576)(hn:dr v.2.1≤1048576)(hb:bytesOf v.2.1≤1048576) :
  yM (v,id,())=some ((jf v.2.1 (dL v.2.1 id):Int),(jB v.2.1 (dL v.2.1 id):Int),()):=by
 show CH (tL aR) v id=_
 unfold CH
 rw [UF v id hl hn]
 simp only [av]
 have hF:=UM v.2.1 id
 generalize dL v.2.1 id=F at *
 have:=mn v.2.1.length (by omega) (fun m i=>tL m (((pre F i.toNat).map (dl v.2.1)).sum:Nat) ((pre F i.toNat).length:Nat) i v F) (fun _=>some ((jf v.2.1 F:Int),(jB v.2.1 F:Int),())) (fun _=>True) (fun m _=>by
  simp only [tL,CI]
  rw [hF,cF (Nat.le_refl _)];rfl) (fun m i hi _ hw ih=>by
  have ih:=ih trivial
  simp only [tL,CI,hw]
  rw [hF,ch hi,bw hi]
  simp only [cond_true,av,Int.toNat_natCast,Nat.zero_add]
  rw [show((i:Int)+1).toNat=i+1 by omega,MF] at ih
  have h1:=UT v.2.1 F (i:=i) (by omega)
  have h3:=UT v.2.1 F (i:=i+1) (by omega)
  have h2:=Fo v.2.1 (i+1)
  rw [MF] at h3
  cases hf:J .bool F i
  ·rw [hf] at ih
   simp only [cond_false,List.append_nil] at ih ⊢
   exact ih
  ·rw [hf] at ih h3
   simp only [cond_true,List.map_append,List.sum_append_nat,List.length_append,List.map_cons,List.map_nil,List.sum_cons,List.sum_nil,List.length_cons,List.length_nil,Nat.add_zero,Nat.zero_add] at ih h3 ⊢
   rw [show((J I v.2.1 i).2.2.2.2.2.1).length=dl v.2.1 i from rfl,df _ (by omega),dD (by omega) (by omega),← Int.natCast_add]
   exact ih) v.2.1.length 0 aR (by omega) (ja (by omega)) trivial
 simpa [pre] using this
def nr(l:List aL)(b:Int):Nat :=
 match bl l b with
 | none=>0
 | some i=>dl l i
theorem UW{l:List aL}(b:Int):nr l b≤bytesOf l:=by
 unfold nr
 split
 ·omega
 ·rename_i i hi
  have h1:=w6 (bS hi).1
  have h2:=Fo l (i+1)
  unfold dl
  omega
theorem MG(v:af.D)(id:Int)(hl:v.2.1.length≤1048576)(hn:dr v.2.1≤1048576)(hb:bytesOf v.2.1≤1048576) :
  ∃out,Found v.2.1 id out∧wJ (v,id,())=some ((((out.map (nr v.2.1)).sum:Nat):Int),(out.length:Int),()):=by
 obtain ⟨out,hf,he⟩:=ME v hl hn id
 refine⟨out,hf,?_⟩
 show DR (qy aR) v id=_
 unfold DR
 rw [he]
 simp only [av]
 have hol:=hf.len
 have hb2:∀i,i≤out.length→((out.take i).map (nr v.2.1)).sum≤i*1048576:=by
  intro i
  induction i with
  | zero=>intro _;simp
  | succ i ih =>
   intro hi
   rw [List.take_succ_eq_append_getElem (by omega),List.map_append,List.sum_append_nat]
   have:=ih (by omega)
   have:=UW (l:=v.2.1) out[i]
   simp only [List.map_cons,List.map_nil,List.sum_cons,List.sum_nil]
   omega
 have:=mn out.length (by omega) (fun m i=>qy m v (((out.take i.toNat).map (nr v.2.1)).sum:Nat) (out.length:Int) i out) (fun _=>some ((((out.map (nr v.2.1)).sum:Nat):Int),(out.length:Int),())) (fun _=>True) (fun m _=>by
  simp only [qy,DS]
  rw [cF (Nat.le_refl _)]
  simp only [Int.toNat_natCast,List.take_length,cond_false]) (fun m i hi _ hw ih=>by
  have ih:=ih trivial
  simp only [qy,DS,hw]
  rw [ch hi,bw hi]
  simp only [cond_true,av,Int.toNat_natCast,Nat.zero_add]
  rw [w5 v _ hl]
  simp only [av]
  rw [show((i:Int)+1).toNat=i+1 by omega,List.take_succ_eq_append_getElem hi,List.map_append,List.sum_append_nat] at ih
  simp only [List.map_cons,List.map_nil,List.sum_cons,List.sum_nil,Nat.add_zero] at ih
  have aA:J (.int .i64) out i=out[i]:=c7 (t:=.int .i64) hi
  rw [aA]
  have h2:=hb2 i (by omega)
  have h3:=UW (l:=v.2.1) out[i]
  have h4:i*1048576≤1048576*1048576:=Nat.mul_le_mul_right _ (by omega)
  unfold nr at ih h3
  cases hx:bl v.2.1 out[i] with
  | none =>
   rw [hx] at ih
   exact ih
  | some x =>
   rw [hx] at ih h3
   show qy m v (aG (_ +(((J I v.2.1 x).2.2.2.2.2.1).length:Int))) _ _ _=_
   have h3:dl v.2.1 x≤bytesOf v.2.1:=h3
   have ih:qy m v ((List.map (nr v.2.1) (out.take i)).sum+dl v.2.1 x:Nat) (out.length:Int) ((i:Int)+1) out=_:=ih
   rw [show((J I v.2.1 x).2.2.2.2.2.1).length=dl v.2.1 x from rfl,dD (by omega) (by omega),← Int.natCast_add]
   exact ih) out.length 0 aR (by omega) (ja (by omega)) trivial
 simpa using this
theorem MH{l:List aL}(ag:hV l)(hx:qM l){id:Int}{out:List Int}(h:Found l id out):(out.map (nr l)).sum=jf l (dL l id)∧out.length=jB l (dL l id):=by
 have hR:((ov l (dL l id)).map fun i=>(J I l i).1).Nodup:=by
  have h0:(ov l (dL l id)).Nodup:=(List.nodup_range).filter _
  unfold List.Nodup at h0 ⊢
  rw [List.pairwise_map]
  refine h0.imp_of_mem fun {a b} ha hb lf he=>lf ?_
  have ha:=(List.mem_filter.1 ha).1
  have hb:=(List.mem_filter.1 hb).1
  have h1:=ag a (by simpa using ha)
  have h2:=ag b (by simpa using hb)
  rw [he,h2] at h1
  exact(aV h1).symm
 have au:out.Perm ((ov l (dL l id)).map fun i=>(J I l i).1):=by
  rw [List.perm_ext_iff_of_nodup h.zL hR]
  intro b
  rw [h.iff]
  constructor
  ·intro hb
   have hex:∃i,bl l b=some i:=by
    cases hb with
    | single he=>obtain ⟨i,d,h1,h2,rfl⟩:=he;exact Option.isSome_iff_exists.1 (hx i (bS h1).1 d h2)
    | tail _ he=>obtain ⟨i,d,h1,h2,rfl⟩:=he;exact Option.isSome_iff_exists.1 (hx i (bS h1).1 d h2)
   obtain ⟨i,hi⟩:=hex
   obtain ⟨h1,h2⟩:=bS hi
   refine List.mem_map.2 ⟨i,List.mem_filter.2 ⟨by simpa using h1,?_⟩,h2⟩
   exact(w7 l ag id h1).2 (by rw [h2];exact hb)
  ·intro hb
   obtain ⟨i,hi,rfl⟩:=List.mem_map.1 hb
   obtain ⟨h1,h2⟩:=List.mem_filter.1 hi
   exact(w7 l ag id (by simpa using h1)).1 h2
 refine⟨?_,by rw [au.length_eq,List.length_map];rfl⟩
 rw [(au.map (nr l)).sum_nat,List.map_map]
 unfold jf
 congr 1
 refine List.map_congr_left fun i hi=>?_
 have h1:=(List.mem_filter.1 hi).1
 show nr l (J I l i).1=dl l i
 unfold nr
 rw [ag i (by simpa using h1)]
def hW(l:List aL)(x:aL):Bool :=
 (decide (eM x>0)&&decide ((jf l (dL l x.1):Int)>eM x))||(decide (ez x>0)&&decide ((jB l (dL l x.1):Int)>ez x))
def ga(l:List aL):Bool:=cond (fe l.length fun i => !hW l (J I l i)) false true
theorem afZ(v:af.D)(x:aL)(hl:v.2.1.length≤1048576)(hn:dr v.2.1≤1048576)(hb:bytesOf v.2.1≤1048576)(ag:hV v.2.1)(hx:qM v.2.1):Kg (v,x,())=some (hW v.2.1 x,()):=by
 show Kf v x=_
 unfold Kf
 obtain ⟨out,hf,he⟩:=MG v x.1 hl hn hb
 rw [he]
 obtain ⟨h1,h2⟩:=MH ag hx hf
 rw [h1,h2]
 simp only [av,mo]
 congr 2
 unfold hW eM ez
 generalize (jf v.2.1 (dL v.2.1 x.1):Int)=B
 generalize (jB v.2.1 (dL v.2.1 x.1):Int)=N
 rw [Bool.eq_iff_iff]
 simp only [Bool.cond_eq_ite,Bool.ite_eq_true_distrib,Bool.and_eq_true,Bool.or_eq_true,decide_eq_true_eq]
 grind
theorem UX(v:af.D)(hl:v.2.1.length≤1048576)(hn:dr v.2.1≤1048576)(hb:bytesOf v.2.1≤1048576)(ag:hV v.2.1)(hx:qM v.2.1):ze (v.2.1,v,())=some (ga v.2.1,()):=by
 show Ki v.2.1 v=_
 unfold Ki
 have h:Kh (v.2.1,v,())=some (gQ (e7 v.2.1.length fun i=>hW v.2.1 (J I v.2.1 i)),()):=by
  show DU (ur aR) v.2.1 v=_
  unfold DU
  refine se v.2.1.length (by omega) _ (fun o=>some (gQ o,())) (fun m i=>ur m v.2.1 v (v.2.1.length:Int) i) ?_ ?_
  ·intro m
   simp only [ur,DV]
   rw [cF (Nat.le_refl _)];rfl
  ·intro m i hi hw
   simp only [ur,DV,hw]
   rw [ch hi,bw hi]
   simp only [cond_true,av]
   rw [afZ v _ hl hn hb ag hx];rfl
 rw [h]
 simp only [av,zI]
 congr 2
 unfold ga
 cases hf:e7 v.2.1.length fun i=>hW v.2.1 (J I v.2.1 i) with
 | none =>
  rw [kK.2 (fun i hi=>by rw [lD.1 hf i hi];rfl)];rfl
 | some i =>
  obtain ⟨h1,h2,_⟩:=hT.1 hf
  have:fe v.2.1.length (fun i => !hW v.2.1 (J I v.2.1 i))=false:=by
   rw [← Bool.not_eq_true];intro h
   have:=kK.1 h i h1
   rw [h2] at this;cases this
  rw [this];rfl
theorem UY(v:af.D)(hl:v.2.1.length≤1048576)(hn:dr v.2.1≤1048576)(hb:bytesOf v.2.1≤1048576)(hk:∀i,i<v.2.1.length→(J I v.2.1 i).2.1≠2→eM (J I v.2.1 i)=0∧ez (J I v.2.1 i)=0):CK (v,())=some (ga v.2.1,()):=by
 show CJ (jS aR) v=_
 unfold CJ
 have h0:∀x:aL,eM x=0→ez x=0→hW v.2.1 x=false:=by
  intro x h1 h2;unfold hW;rw [h1,h2];rfl
 have FA:∀(m i:Nat),i<v.2.1.length→(jS (m+1)).k2 (i:Int) v=cond ((J I v.2.1 i).2.1 != 2) ((jS m).k2 ((i+1:Nat):Int) v) (cond (eM (J I v.2.1 i)==0) (cond (ez (J I v.2.1 i)==0) ((jS m).k2 ((i+1:Nat):Int) v) ((jS m).dd (i:Int) v (J I v.2.1 i))) ((jS m).dd (i:Int) v (J I v.2.1 i))):=by
  intro m i hi
  show yN (jS m) _ _=_
  unfold yN
  rw [ch hi,bw hi]
  simp only [cond_true,av]
  rw [df i (by omega)];rfl
 have UZ:∀(m i:Nat) (x:aL),i<v.2.1.length→(jS (m+1)).dd (i:Int) v x=cond (hW v.2.1 x) (some (true,())) ((jS m).k2 ((i+1:Nat):Int) v):=by
  intro m i x hi
  show Jq (jS m) _ _ _=_
  unfold Jq
  rw [UU v _ hl hn hb]
  simp only [av]
  rw [df i (by omega)]
  unfold hW eM ez
  generalize decide (x.2.2.2.2.2.2.2.1>0)=a
  generalize decide ((jf v.2.1 (dL v.2.1 x.1):Int)>x.2.2.2.2.2.2.2.1)=b
  generalize decide (x.2.2.2.2.2.2.2.2.1>0)=c
  generalize decide ((jB v.2.1 (dL v.2.1 x.1):Int)>x.2.2.2.2.2.2.2.2.1)=d
  cases a <;> cases b <;> cases c <;> cases d <;> rfl
 have key:=zO v.2.1.length 2 (fun m i=>(jS m).k2 (i:Int) v) (fun i => !hW v.2.1 (J I v.2.1 i)) (some (true,())) (some (false,())) 1 (fun i hi _ au B y he=>by
  have au:hW v.2.1 (J I v.2.1 i)=false:=by simpa using au
  have bj:b2 (fun m=>(jS m).dd (i:Int) v (J I v.2.1 i)) (B+1) y:=he.step fun m=>by rw [UZ m i _ hi,au];rfl
  intro m hm
  obtain ⟨m,rfl⟩:∃k,m=k+1:=⟨m-1,by omega⟩
  show(jS (m+1)).k2 (i:Int) v=y
  rw [FA m i hi]
  have e1:=he m (by omega)
  have e2:=bj m (by omega)
  simp only at e1 e2
  rw [e1,e2]
  cases (J I v.2.1 i).2.1 != 2 <;> cases eM (J I v.2.1 i)==0 <;> cases ez (J I v.2.1 i)==0 <;> rfl) (fun i hi _ au=>by
  have au:hW v.2.1 (J I v.2.1 i)=true:=by simpa using au
  intro m hm
  obtain ⟨m,rfl⟩:∃k,m=k+2:=⟨m-2,by omega⟩
  show(jS (m+1+1)).k2 (i:Int) v=_
  rw [FA (m+1) i hi,UZ m i _ hi,au]
  have k1:((J I v.2.1 i).2.1 != 2)=false:=by
   rw [bne_eq_false_iff_eq]
   by_cases h:(J I v.2.1 i).2.1=2
   ·exact h
   ·obtain ⟨g1,g2⟩:=hk i hi h
    rw [h0 _ g1 g2] at au;cases au
  rw [k1]
  cases g1:eM (J I v.2.1 i)==0 <;> cases g2:ez (J I v.2.1 i)==0 <;> try rfl
  rw [h0 _ (by simpa using g1) (by simpa using g2)] at au;cases au) (fun _=>b2.done fun m=>by
  show yN (jS m) _ _=_
  unfold yN
  rw [cF (Nat.le_refl _)];rfl)
 have:=kM key (by omega)
 rw [show(((0:Nat):Int))=0 from rfl] at this
 rw [this]
 unfold ga
 cases fe v.2.1.length fun i => !hW v.2.1 (J I v.2.1 i) <;> rfl
theorem zF{α : Type}{f g : α → Nat} : ∀(l:List α),(∀x,x∈l→f x≤g x)→(l.map f).sum≤(l.map g).sum
 | [],_=>by simp
 | x :: l,h=>by
  simp only [List.map_cons,List.sum_cons]
  have:=zF l fun y aO=>h y (List.mem_cons_of_mem _ aO)
  have:=h x List.mem_cons_self
  omega
theorem FB{α : Type}{f : α → Nat} : ∀ {l:List α} {x : α},x∈l→f x≤(l.map f).sum
 | y :: l,x,h=>by
  simp only [List.map_cons,List.sum_cons]
  rcases List.mem_cons.1 h with rfl | h
  ·omega
  ·have:=FB (f:=f) h;omega
theorem FC(x:aL):ae.cost I x=(bM x).length+ae.cost (.sl aw) (ak x):=by
 simp only [Mh,Mi,Mj,Mk,Uv,Uw,Nat.zero_add,Nat.add_zero];rfl
theorem U0(d:aw.D):ae.cost aw d=d.1.length:=by
 simp only [Mh,Mi,Mj,Mk,Uv,Uw,Nat.zero_add,Nat.add_zero]
def qO(x:aL):Nat:=ae.cost I x
theorem MI(v:af.D):ae.cost af v=v.2.1.length +(v.2.1.map qO).sum:=by
 have h:ae.cost af v=ae.cost (.sl I) v.2.1:=by simp only [Mh,Mi,Mj,Mk,Nat.zero_add,Nat.add_zero]
 rw [h,Uu]
 rfl
structure uS(v:af.D):Prop where
 len:v.2.1.length≤1048576
 cH:dr v.2.1≤1048576
 bytes:bytesOf v.2.1≤1048576
 each:∀x,x∈v.2.1→(ak x).length≤1048576∧(bM x).length≤1048576∧∀d,d∈ak x→d.1.length≤1048576
theorem af0{v:af.D}(h:ae.cost af v≤1048576):uS v:=by
 rw [MI] at h
 refine⟨by omega,?_,?_,fun x hx=>?_⟩
 ·have:=zF (f:=fun y:aL=>(ak y).length) (g:=qO) v.2.1 fun x _=>by
   unfold qO;rw [FC];have:=Ut (t:=aw) (ak x);omega
  unfold dr;omega
 ·have:=zF (f:=fun y:aL=>(bM y).length) (g:=qO) v.2.1 fun x _=>by
   unfold qO;rw [FC];omega
  unfold bytesOf;omega
 ·have h1:=FB (f:=qO) hx
  unfold qO at h1
  rw [FC] at h1
  have h:v.2.1.length +(v.2.1.map fun y=>ae.cost I y).sum≤1048576:=h
  have h1:(bM x).length+ae.cost (.sl aw) (ak x)≤(v.2.1.map fun y=>ae.cost I y).sum:=h1
  have h2:=Ut (t:=aw) (ak x)
  refine⟨by omega,by omega,fun d ag=>?_⟩
  obtain ⟨i,hi,he⟩:=e8 ag
  have h3:=aft (t:=aw) hi
  rw [he,U0] at h3
  omega
def mq(v:af.D)(i:Nat):Bool :=
 c4 (J I v.2.1 i).1 1 (aG (v.1-1)) && !(decide (0<i)&&decide ((J I v.2.1 (i-1)).1≥(J I v.2.1 i).1))&&nq v.2.1 (J I v.2.1 i)
def jX(l:List aL)(i:Nat):Bool :=
 J .bool (dL l 1) (i+1) && !((J I l (i+1)).2.1==2&&((cg l (J I l (i+1)).1:Int) != 1))
def jY(v:af.D):Bool :=
 c4 v.1 2 100000&&c4 (v.2.1.length:Int) 1 24&&(J I v.2.1 0).1==1&&(J I v.2.1 0).2.1==2 &&
  cond (fe v.2.1.length (mq v)) (cond (fe (v.2.1.length-1) (jX v.2.1)) (decide ((bytesOf v.2.1:Int)≤400) && !ga v.2.1) false) false
theorem U1{v:af.D}(h:∀j,j<v.2.1.length→mq v j=true):hV v.2.1:=by
 have cz:∀d j,j+d+1<v.2.1.length→(J I v.2.1 j).1<(J I v.2.1 (j+d+1)).1:=by
  have h1:∀j,j+1<v.2.1.length→(J I v.2.1 j).1<(J I v.2.1 (j+1)).1:=by
   intro j hj
   have:=h (j+1) hj
   unfold mq at this
   simp only [Bool.and_eq_true,Bool.not_eq_true',Bool.and_eq_false_iff,decide_eq_false_iff_not] at this
   obtain ⟨⟨_,h2⟩,_⟩:=this
   rcases h2 with h2 | h2
   ·omega
   ·rw [Nat.add_sub_cancel] at h2;exact Int.not_le.1 h2
  intro d
  induction d with
  | zero=>intro j hj;exact h1 j hj
  | succ d ih=>intro j hj;exact Int.lt_trans (ih j (by omega)) (h1 (j+d+1) hj)
 intro x hx
 unfold bl
 rw [hT]
 refine⟨hx,by simp,fun j hj=>?_⟩
 obtain ⟨d,rfl⟩:∃d,x=j+d+1:=⟨x-j-1,by omega⟩
 have:=cz d j hx
 rw [beq_eq_false_iff_ne]
 exact Int.ne_of_lt this
theorem U2{v:af.D}(h:∀j,j<v.2.1.length→mq v j=true){i:Nat}(hi:i<v.2.1.length):nq v.2.1 (J I v.2.1 i)=true:=by
 have:=h i hi
 unfold mq at this
 simp only [Bool.and_eq_true] at this
 exact this.2
theorem U3{l:List aL}{x:aL}(h:nq l x=true):(x.2.1≠2→eM x=0∧ez x=0∧ak x=[])∧∀d,d∈ak x→(bl l d.2.1).isSome=true:=by
 unfold nq at h
 simp only [Bool.and_eq_true] at h
 obtain ⟨_,h⟩:=h
 have au:plain x=true→eM x=0∧ez x=0∧ak x=[]:=by
  intro au
  unfold plain at au
  simp only [Bool.and_eq_true,beq_iff_eq] at au
  exact⟨au.1.2,au.2,List.length_eq_zero_iff.1 (by omega)⟩
 by_cases h1:x.2.1=1
 ·rw [cD h1] at h
  simp only [cond_true,Bool.and_eq_true] at h
  obtain ⟨ed,d_,fU⟩:=au h.1
  exact⟨fun _=>⟨ed,d_,fU⟩,by rw [fU];simp⟩
 ·rw [cd h1] at h
  by_cases h3:x.2.1=3
  ·rw [cD h3] at h
   simp only [cond_true,cond_false,Bool.and_eq_true] at h
   obtain ⟨ed,d_,fU⟩:=au h.1.1
   exact⟨fun _=>⟨ed,d_,fU⟩,by rw [fU];simp⟩
  ·rw [cd h3] at h
   by_cases h2:x.2.1=2
   ·rw [cD h2] at h
    simp only [cond_true,cond_false,Bool.and_eq_true] at h
    refine⟨fun hn=>absurd h2 hn,fun d ag=>?_⟩
    have hN:=h.2
    unfold si at hN
    simp only [Bool.and_eq_true] at hN
    obtain ⟨i,hi,he⟩:=e8 ag
    have:=kK.1 hN.1 i hi
    unfold ou at this
    simp only [Bool.and_eq_true] at this
    rw [← he];exact this.2
   ·rw [cd h2] at h
    simp at h
theorem af1{v:af.D}(h:∀j,j<v.2.1.length→mq v j=true):qM v.2.1:=fun i hi d ag=>(U3 (U2 h hi)).2 d ag
theorem FD{v:af.D}{i:Nat}(hi:i<v.2.1.length)(hl:v.2.1.length≤1048576)(K:Option (Bool×Unit)) :
  cond (!c4 (J I v.2.1 i).1 1 (aG (v.1-1))) (some (false,()))
   (cond (decide ((i:Int)>0)) ((aN v.2.1.length (aG ((i:Int)-1))).bind fun j=>cond (decide ((J I v.2.1 j).1≥(J I v.2.1 i).1)) (some (false,())) (cond (!nq v.2.1 (J I v.2.1 i)) (some (false,())) K))
    (cond (!nq v.2.1 (J I v.2.1 i)) (some (false,())) K))=cond (mq v i) K (some (false,())):=by
 unfold mq
 cases i with
 | zero =>
  simp only [Mo,Nat.lt_irrefl,decide_false,cond_false,Bool.false_and,Bool.not_false,Bool.and_true,Mm,nm]
 | succ i =>
  rw [Mn hi (by omega)]
  simp only [Mp,Nat.zero_lt_succ,decide_true,cond_true,av,Nat.add_sub_cancel,Bool.true_and,Mm,nm]
theorem MJ(v:af.D)(hv:uS v):y_ (v,())=some (jY v,()):=by
 obtain ⟨hl,hn,hb,he⟩:=hv
 show Dn (m9 aR) v=_
 unfold Dn
 simp only [jz,av]
 unfold jY
 cases h1:c4 v.1 2 100000
 ·rfl
 cases h2:c4 (v.2.1.length:Int) 1 24
 ·rfl
 have fK:=(dJ.1 h2)
 simp only [Bool.not_true,cond_false]
 rw [show(0:Int)=((0:Nat):Int) from rfl,bw (show 0<v.2.1.length by omega)]
 simp only [av]
 cases h3:(J I v.2.1 0).1==1
 ·rw [cY (by simpa using h3)];rfl
 rw [dC (by simpa using h3)]
 simp only [cond_false]
 cases h4:(J I v.2.1 0).2.1==2
 ·rw [cY (by simpa using h4)];rfl
 rw [dC (by simpa using h4)]
 simp only [cond_false,Bool.true_and]
 have key:=zO v.2.1.length 1 (fun m i=>(m9 m).bh (i:Int) v) (mq v) (some (false,())) (some (cond (fe (v.2.1.length-1) (jX v.2.1)) (decide ((bytesOf v.2.1:Int)≤400) && !ga v.2.1) false,())) (1 +(v.2.1.length-1)*1+1) (fun i hi _ au B y aO=>by
  refine aO.step fun m=>?_
  show uc (m9 m) _ _=_
  unfold uc
  rw [ch hi,bw hi]
  simp only [cond_true,av,jz]
  have hx:=he _ (cE hi)
  rw [UR v _ hl hx.1,df i (by omega)]
  simp only [av]
  rw [FD hi hl,au];rfl) (fun i hi _ au=>by
  refine b2.done fun m=>?_
  show uc (m9 m) _ _=_
  unfold uc
  rw [ch hi,bw hi]
  simp only [cond_true,av,jz]
  have hx:=he _ (cE hi)
  rw [UR v _ hl hx.1,df i (by omega)]
  simp only [av]
  rw [FD hi hl,au];rfl) (fun p9=>by
  have hF:=UM v.2.1 1
  have k2:=zO (v.2.1.length-1) 1 (fun m i=>(m9 m).cR ((i+1:Nat):Int) v (dL v.2.1 1)) (jX v.2.1) (some (false,())) (some (decide ((bytesOf v.2.1:Int)≤400) && !ga v.2.1,())) 1 (fun i hi _ au B y aO=>by
   refine aO.step fun m=>?_
   show ud (m9 m) _ _ _=_
   unfold ud
   have gu:i+1<v.2.1.length:=by omega
   rw [ch gu,bw gu,hF,bw gu]
   simp only [cond_true,av,Nat.zero_add]
   rw [Fp v _ hl hn,df (i+1) (by omega)]
   simp only [av]
   unfold jX at au
   simp only [Bool.and_eq_true,Bool.not_eq_true'] at au
   rw [au.1]
   have jN:=au.2
   cases g1:(J I v.2.1 (i+1)).2.1==2
   ·rfl
   ·rw [g1] at jN
    simp only [Bool.true_and] at jN
    rw [jN];rfl) (fun i hi _ au=>by
   refine b2.done fun m=>?_
   show ud (m9 m) _ _ _=_
   unfold ud
   have gu:i+1<v.2.1.length:=by omega
   rw [ch gu,bw gu,hF,bw gu]
   simp only [cond_true,av,Nat.zero_add]
   rw [Fp v _ hl hn,df (i+1) (by omega)]
   simp only [av]
   unfold jX at au
   cases g0:J .bool (dL v.2.1 1) (i+1)
   ·rfl
   ·rw [g0] at au
    simp only [Bool.true_and,Bool.not_eq_false'] at au
    simp only [Bool.and_eq_true] at au
    rw [au.1,au.2];rfl) (fun _=>b2.done fun m=>by
   rw [show v.2.1.length-1+1=v.2.1.length by omega]
   show ud (m9 m) _ _ _=_
   unfold ud
   rw [cF (Nat.le_refl _),Mt v hl hb]
   simp only [cond_false,av]
   rw [UY v hl hn hb (fun i hi hk=>by have:=(U3 (U2 p9 hi)).1 hk;exact⟨this.1,this.2.1⟩)]
   simp only [av,mo,Ux])
  have k3:=k2.step (f:=fun m=>(m9 m).bh ((v.2.1.length:Nat):Int) v) fun m=>by
   show uc (m9 m) _ _=_
   unfold uc
   rw [cF (Nat.le_refl _),UF v 1 hl hn];rfl
  rw [show cond (fe (v.2.1.length-1) (jX v.2.1)) (some (decide ((bytesOf v.2.1:Int)≤400) && !ga v.2.1,())) (some (false,()))=some (cond (fe (v.2.1.length-1) (jX v.2.1)) (decide ((bytesOf v.2.1:Int)≤400) && !ga v.2.1) false,()) from mo _ _ _] at k3
  exact k3)
 have:=kM key (by omega)
 rw [this,mo]
theorem U4{l:List aL}{i:Nat} : J I (l.drop 1) i=J I l (i+1):=by
 unfold J
 rw [List.getD_eq_getElem?_getD,List.getD_eq_getElem?_getD,List.getElem?_drop,Nat.add_comm 1 i]
theorem FE(v:af.D)(hv:uS v):wK (v,())=some (jY v,()):=by
 obtain ⟨hl,hn,hb,he⟩:=hv
 show DW (na aR) v=_
 unfold DW
 simp only [jc,av]
 unfold jY
 cases h1:c4 v.1 2 100000
 ·rfl
 cases h2:c4 (v.2.1.length:Int) 1 24
 ·rfl
 have fK:=(dJ.1 h2)
 simp only [Bool.not_true,cond_false]
 rw [show(0:Int)=((0:Nat):Int) from rfl,bw (show 0<v.2.1.length by omega)]
 simp only [av]
 cases h3:(J I v.2.1 0).1==1
 ·rw [cY (by simpa using h3)];rfl
 rw [dC (by simpa using h3)]
 simp only [cond_false]
 cases h4:(J I v.2.1 0).2.1==2
 ·rw [cY (by simpa using h4)];rfl
 rw [dC (by simpa using h4)]
 simp only [cond_false,Bool.true_and]
 have key:=zO v.2.1.length 1 (fun m i=>(na m).bh v.2.1 (v.2.1.length:Int) (i:Int) v) (mq v) (some (false,())) (some (cond (fe (v.2.1.length-1) (jX v.2.1)) (decide ((bytesOf v.2.1:Int)≤400) && !ga v.2.1) false,())) (1 +(v.2.1.length-1)*1+1) (fun i hi _ au B y aO=>by
  refine aO.step fun m=>?_
  show uv (na m) _ _ _ _=_
  unfold uv
  rw [ch hi,bw hi]
  simp only [cond_true,av,jc]
  have hx:=he _ (cE hi)
  rw [US v _ hl hx.1 hx.2.2 hx.2.1,df i (by omega)]
  simp only [av]
  rw [FD hi hl,au];rfl) (fun i hi _ au=>by
  refine b2.done fun m=>?_
  show uv (na m) _ _ _ _=_
  unfold uv
  rw [ch hi,bw hi]
  simp only [cond_true,av,jc]
  have hx:=he _ (cE hi)
  rw [US v _ hl hx.1 hx.2.2 hx.2.1,df i (by omega)]
  simp only [av]
  rw [FD hi hl,au];rfl) (fun p9=>by
  obtain ⟨out,hf,B7⟩:=ME v hl hn 1
  have hdl:(v.2.1.drop 1).length=v.2.1.length-1:=by simp
  have hol:=hf.len
  have i':∀i,i+1<v.2.1.length→decide ((J I v.2.1 (i+1)).1∈out)=J .bool (dL v.2.1 1) (i+1):=by
   intro i hi
   rw [Bool.eq_iff_iff,decide_eq_true_eq,hf.iff]
   exact(w7 v.2.1 (U1 p9) 1 hi).symm
  have k2:=zO (v.2.1.length-1) 1 (fun m i=>(na m).cR (v.2.1.drop 1) ((v.2.1.drop 1).length:Int) (i:Int) v out) (jX v.2.1) (some (false,())) (some (decide ((bytesOf v.2.1:Int)≤400) && !ga v.2.1,())) 1 (fun i hi _ au B y aO=>by
   refine aO.step fun m=>?_
   show uw (na m) _ _ _ _ _=_
   unfold uw
   have gu:i+1<v.2.1.length:=by omega
   rw [ch (by omega),bw (by omega)]
   simp only [cond_true,av]
   rw [show J I (List.drop 1 v.2.1) i=J I v.2.1 (i+1) from U4]
   rw [contains_eq _ _ (by omega)]
   simp only [av]
   rw [i' i gu,Fq v _ hl hn,df i (by omega)]
   simp only [av]
   unfold jX at au
   simp only [Bool.and_eq_true,Bool.not_eq_true'] at au
   rw [au.1]
   have jN:=au.2
   cases g1:(J I v.2.1 (i+1)).2.1==2
   ·rfl
   ·rw [g1] at jN
    simp only [Bool.true_and] at jN
    rw [jN];rfl) (fun i hi _ au=>by
   refine b2.done fun m=>?_
   show uw (na m) _ _ _ _ _=_
   unfold uw
   have gu:i+1<v.2.1.length:=by omega
   rw [ch (by omega),bw (by omega)]
   simp only [cond_true,av]
   rw [show J I (List.drop 1 v.2.1) i=J I v.2.1 (i+1) from U4]
   rw [contains_eq _ _ (by omega)]
   simp only [av]
   rw [i' i gu,Fq v _ hl hn,df i (by omega)]
   simp only [av]
   unfold jX at au
   cases g0:J .bool (dL v.2.1 1) (i+1)
   ·rfl
   ·rw [g0] at au
    simp only [Bool.true_and,Bool.not_eq_false'] at au
    simp only [Bool.and_eq_true] at au
    rw [au.1,au.2];rfl) (fun _=>b2.done fun m=>by
   show uw (na m) _ _ _ _ _=_
   unfold uw
   rw [cF (by omega),Mu v hl hb]
   simp only [cond_false,av]
   rw [UX v hl hn hb (U1 p9) (af1 p9)]
   simp only [av,mo,Ux])
  have k3:=k2.step (f:=fun m=>(na m).bh v.2.1 (v.2.1.length:Int) ((v.2.1.length:Nat):Int) v) fun m=>by
   show uv (na m) _ _ _ _=_
   unfold uv
   rw [cF (Nat.le_refl _),B7]
   simp only [cond_false,av]
   unfold dZ
   rw [if_pos ⟨by omega,by omega,Int.le_refl _⟩]
   simp only [av,Int.toNat_natCast]
   have:part v.2.1 (Int.toNat 1) (v.2.1.length-Int.toNat 1)=v.2.1.drop 1:=Ml v.2.1 1
   rw [this];rfl
  rw [show cond (fe (v.2.1.length-1) (jX v.2.1)) (some (decide ((bytesOf v.2.1:Int)≤400) && !ga v.2.1,())) (some (false,()))=some (cond (fe (v.2.1.length-1) (jX v.2.1)) (decide ((bytesOf v.2.1:Int)≤400) && !ga v.2.1) false,()) from mo _ _ _] at k3
  exact k3)
 have:=kM key (by omega)
 rw [this,mo]
def w_(l:List Int)(i:Nat):Bool:=c4 (J (.int .i64) l i) 0 1000
def dm(c:aH.D):Bool:=c4 c.1 0 1000&&(c4 c.2.1 0 1000&&(decide ((c.2.2.1.length:Int)≤4)&&fe c.2.2.1.length (w_ c.2.2.1)))
theorem U5(a b:Int):decide (a>b) = !decide (a≤b):=by
 by_cases h:a≤b <;> simp [h] <;> omega
theorem zP(c:aH.D):tA (c,())=some (dm c,()):=by
 show Cf (tz aR) c=_
 unfold Cf dm
 simp only [jz,av]
 cases c4 c.1 0 1000
 ·rfl
 cases c4 c.2.1 0 1000
 ·rfl
 simp only [Bool.not_true,cond_false,Bool.true_and,U5,nm]
 by_cases hl:(c.2.2.1.length:Int)≤4
 case neg=>rw [decide_eq_false hl];rfl
 rw [decide_eq_true hl]
 simp only [cond_true,Bool.true_and]
 have:=sd c.2.2.1.length (by omega) (w_ c.2.2.1) true (fun m i=>tz m i c) (fun m _=>by
  simp only [tz,Cg]
  rw [cF (Nat.le_refl _)];rfl) (fun m i hi _ hw=>by
  simp only [tz,Cg,hw]
  rw [ch hi,bw hi]
  simp only [cond_true,av,jz,nm,w_])
 rw [Bool.and_true] at this
 exact this
theorem FF(c:aH.D):wL (c,())=some (dm c,()):=by
 show Kn c=_
 unfold Kn dm
 simp only [jc,av]
 cases c4 c.1 0 1000
 ·rfl
 cases c4 c.2.1 0 1000
 ·rfl
 simp only [Bool.not_true,cond_false,Bool.true_and,U5,nm]
 by_cases hl:(c.2.2.1.length:Int)≤4
 case neg=>rw [decide_eq_false hl];rfl
 rw [decide_eq_true hl]
 simp only [cond_true,Bool.true_and]
 have h:Km (c.2.2.1,())=some ((e7 c.2.2.1.length fun i => !w_ c.2.2.1 i).isSome,()):=by
  show Kl c.2.2.1=_
  unfold Kl
  have h:Kk (c.2.2.1,())=some (gQ (e7 c.2.2.1.length fun i => !w_ c.2.2.1 i),()):=by
   show DY (ux aR) c.2.2.1=_
   unfold DY
   refine se c.2.2.1.length (by omega) _ (fun o=>some (gQ o,())) (fun m i=>ux m c.2.2.1 (c.2.2.1.length:Int) i) ?_ ?_
   ·intro m
    simp only [ux,DZ]
    rw [cF (Nat.le_refl _)];rfl
   ·intro m i hi hw
    simp only [ux,DZ,hw]
    rw [ch hi,bw hi]
    simp only [cond_true,av]
    show Option.bind (Kj (J (ae.int .i64) c.2.2.1 i)) _=_
    unfold Kj
    rw [jc];rfl
  rw [h]
  simp only [av,zI]
 rw [h]
 simp only [av]
 congr 2
 rw [Bool.eq_iff_iff,kK]
 cases hf:e7 c.2.2.1.length fun i => !w_ c.2.2.1 i with
 | none =>
  simp only [Option.isSome_none,Bool.not_false,true_iff]
  exact fun i hi=>by have:=lD.1 hf i hi;simpa using this
 | some i =>
  simp only [Option.isSome_some,Bool.not_true,Bool.false_eq_true,false_iff]
  obtain ⟨h1,h2,_⟩:=hT.1 hf
  exact fun h=>by rw [h i h1] at h2;cases h2
theorem U6{c:aH.D}(h:dm c=true):c.2.2.1.length≤4:=by
 simp only [dm,Bool.and_eq_true,decide_eq_true_eq] at h;omega
def mr(c:aH.D)(g:Int):Bool:=c.2.1==g||decide (g∈c.2.2.1)
theorem af2{l:List Int}{i:Nat}(g:Int)(hi:i<l.length):decide (g∈l.drop i)=(J (.int .i64) l i==g||decide (g∈l.drop (i+1))):=by
 have h:=drop_cons (t:=.int .i64) hi
 have h:l.drop i=J (.int .i64) l i :: l.drop (i+1):=h
 rw [h,Bool.eq_iff_iff]
 simp only [List.mem_cons,decide_eq_true_eq,Bool.or_eq_true,beq_iff_eq]
 constructor
 ·rintro (h | h)
  ·exact .inl h.symm
  ·exact .inr h
 ·rintro (h | h)
  ·exact .inl h.symm
  ·exact .inr h
theorem MK(c:aH.D)(g:Int)(hc:dm c=true):tC (c,g,())=some (mr c g,()):=by
 show Ci (tB aR) c g=_
 unfold Ci mr
 rw [zP,hc]
 simp only [av,Bool.not_true,cond_false]
 have hl:=U6 hc
 have key:∀(r i m:Nat) (b:Bool),i+r=c.2.2.1.length→r<m→tB m g b (i:Int) c=some (b||decide (g∈c.2.2.1.drop i),()):=by
  intro r
  induction r with
  | zero =>
   intro i m b hi hm
   obtain ⟨m,rfl,_⟩:=fuel hm
   simp only [tB,Cj]
   rw [cF (by omega),List.drop_of_length_le (by omega)]
   simp
  | succ r ih =>
   intro i m b hi hm
   obtain ⟨m,rfl,hq⟩:=fuel hm
   have cz:i<c.2.2.1.length:=by omega
   simp only [tB,Cj]
   rw [ch cz,df i (by omega),af2 g cz]
   simp only [cond_true]
   cases b
   ·simp only [cond_false]
    rw [bw cz]
    simp only [av]
    rw [ih (i+1) m _ (by omega) (by omega)]
    simp
   ·simp only [cond_true]
    rw [ih (i+1) m _ (by omega) (by omega)]
    simp
 have:=key c.2.2.1.length 0 aR (c.2.1==g) (by omega) (ja (by omega))
 simpa using this
theorem ML(c:aH.D)(g:Int)(hc:dm c=true):uD (c,g,())=some (mr c g,()):=by
 show Ks c g=_
 unfold Ks mr
 have hl:=U6 hc
 rw [FF,hc]
 simp only [av,cond_true]
 rw [contains_eq _ _ (by omega)]
 simp only [av]
 rw [show(g==c.2.1)=(c.2.1==g) by rw [Bool.eq_iff_iff,beq_iff_eq,beq_iff_eq];exact⟨Eq.symm,Eq.symm⟩]
 cases c.2.1==g <;> rfl
def kindOf(x:aL):Int:=x.2.1
def eU(x:aL):Int:=x.2.2.1
def en(x:aL):Int:=x.2.2.2.1
def e9(x:aL):Int:=x.2.2.2.2.1
def kj(a b:Int):Int:=cN .and .i64 a b
def three(c:aH.D)(n:aL):Int :=
 cond (c.1==en n) (Int.fdiv (eU n) (2 ^ min (Int.toNat 6) 64)) (cond (mr c (e9 n)) (Int.fdiv (eU n) (2 ^ min (Int.toNat 3) 64)) (eU n))
def may(c:aH.D)(n:aL)(w:Int):Bool :=
 c4 w 0 7&&cond (c.1==0) (kj w 1==0||(kindOf n != 1||kj (eU n) 73 != 0)) (kj (kj (three c n) 7) w==w)
theorem pt(c:aH.D)(n:aL)(w:Int)(hc:dm c=true):jP (c,n,w,())=some (may c n w,()):=by
 show Jn c n w=_
 unfold Jn may three
 rw [zP,hc,jz]
 simp only [av,Bool.not_true,cond_false]
 cases c4 w 0 7
 ·rfl
 simp only [Bool.not_true,cond_false,Bool.true_and]
 cases c.1==0
 ·simp only [cond_false]
  rw [MK c _ hc]
  simp only [av]
  show cond (mr c (e9 n)) (cond (c.1==en n) _ _) (cond (c.1==en n) _ _)=_
  cases mr c (e9 n) <;> cases c.1==en n <;> rfl
 ·simp only [cond_true]
  show cond (kj w 1==0) _ (cond (kindOf n != 1) _ (some (kj (eU n) 73 != 0,())))=_
  cases kj w 1==0 <;> cases kindOf n != 1 <;> rfl
theorem zQ(c:aH.D)(n:aL)(w:Int)(hc:dm c=true):pf (c,n,w,())=some (may c n w,()):=by
 show Kt c n w=_
 unfold Kt may three
 rw [FF,hc,jc]
 simp only [av,Bool.not_true,cond_false]
 cases c4 w 0 7
 ·rfl
 simp only [Bool.not_true,cond_false,Bool.true_and]
 cases c.1==0
 ·simp only [cond_false]
  rw [ML c _ hc]
  simp only [av]
  show cond (c.1==en n) _ (cond (mr c (e9 n)) _ _)=_
  cases mr c (e9 n) <;> cases c.1==en n <;> rfl
 ·simp only [cond_true]
  show cond (kindOf n != 1) _ (cond (kj (eU n) 73 != 0) _ (some (kj w 1==0,())))=_
  cases kj w 1==0 <;> cases kindOf n != 1 <;> cases kj (eU n) 73 != 0 <;> rfl
def pv(c:aH.D)(d n:aL):Bool:=kj (eU d) 512==0||(c.1==0||(c.1==en d||c.1==en n))
theorem MM(c:aH.D)(d n:aL)(hc:dm c=true):wy (c,d,n,())=some (pv c d n,()):=by
 show Jx c d n=_
 unfold Jx pv
 rw [zP,hc]
 simp only [av,Bool.not_true,cond_false]
 show cond (kj (eU d) 512==0) _ (cond (c.1==0) _ (cond (c.1==en d) _ (some (c.1==en n,()))))=_
 cases kj (eU d) 512==0 <;> cases c.1==0 <;> cases c.1==en d <;> rfl
theorem MN(c:aH.D)(d n:aL)(hc:dm c=true):r8 (c,d,n,())=some (pv c d n,()):=by
 show KI c d n=_
 unfold KI pv
 rw [FF,hc]
 simp only [av,cond_true]
 show cond (kj (eU d) 512==0) _ (cond (c.1==0) _ (cond (c.1==en d) _ (some (c.1==en n,()))))=_
 cases kj (eU d) 512==0 <;> cases c.1==0 <;> cases c.1==en d <;> rfl
def pw(s:List UInt8):Bool:=jd s&&nb s 0==47
theorem af3(s:List UInt8)(i:Nat):((s.getD i 0).toNat:Int)=nb s i:=rfl
theorem zR(s:List UInt8):yC (s,())=some (pw s,()):=by
 show Cl (tD aR) s=_
 unfold Cl pw jd
 simp only [jz,av]
 by_cases hl:c4 (s.length:Int) 1 60=true
 case neg=>rw [Bool.not_eq_true] at hl;rw [hl];simp
 have hb:=dJ.1 hl
 rw [hl]
 simp only [Bool.not_true,cond_false,Bool.and_true]
 rw [show aN s.length 0=some 0 from bw (i:=0) (by omega)]
 simp only [av,af3,bne,nm]
 cases nb s 0==47
 ·simp
 simp only [cond_true,Bool.and_true]
 have:=sd s.length (by omega) (fun i=>nb s i==47||sf (nb s i)) true (fun m i=>tD m s i) (fun m _=>by
  simp only [tD,Cm]
  rw [cF (Nat.le_refl _)];rfl) (fun m i hi _ hw=>by
  simp only [tD,Cm,hw]
  rw [ch hi,bw hi]
  simp only [cond_true,av,Fm,nm,Fl,bne];rfl)
 rw [Bool.and_true] at this
 exact this
theorem FG(s:List UInt8)(hl:s.length≤4000000000000000000):Kr (s,())=some (pw s,()):=by
 show Kq s=_
 unfold Kq pw
 rw [Mr s hl]
 simp only [av]
 by_cases ht:jd s=true
 case neg=>rw [Bool.not_eq_true] at ht;rw [ht];rfl
 rw [ht]
 have:1≤s.length:=by
  unfold jd at ht
  rw [Bool.and_eq_true] at ht
  have:=dJ.1 ht.2
  omega
 simp only [cond_true]
 rw [show aN s.length 0=some 0 from bw (i:=0) (by omega)]
 rfl
theorem uT(v:af.D)(hl:v.2.1.length≤1048576)(hn:∀i,i<v.2.1.length→(ak (J I v.2.1 i)).length≤1048576):lz (v,())=some (v,()):=by
 show yv (o7 aR) v=_
 unfold yv
 have:=mn v.2.1.length (by omega) (fun m i=>o7 m i v (0,([]:List I.D),()) (v.1,v.2.1.take i.toNat,())) (fun _=>some (v,())) (fun _=>True) (fun m _=>by
  simp only [o7,yw]
  rw [cF (Nat.le_refl _)]
  simp only [Int.toNat_natCast,List.take_length,cond_false]) (fun m i hi _ hw ih=>by
  simp only [o7,yw]
  rw [ch hi,bw hi]
  simp only [cond_true,av,Int.toNat_natCast]
  have af4:=hn i hi
  show cond (room (0 +(ak (J I v.2.1 i)).length)) _ _=_
  rw [cG (by omega)]
  simp only [cond_true]
  unfold Rh
  show cond (room ((v.2.1.take i).length+1)) _ _=_
  rw [cG (by rw [List.length_take];omega)]
  simp only [cond_true]
  unfold Rg
  rw [hw]
  have ih:=ih trivial
  rw [show((i:Int)+1).toNat=i+1 by omega,List.take_succ_eq_append_getElem hi,← c7 (t:=I) hi] at ih
  exact ih) v.2.1.length 0 aR (by omega) (ja (by omega)) trivial
 simpa using this
theorem af5(v:af.D)(hl:v.2.1.length≤1048576)(hn:∀i,i<v.2.1.length→(ak (J I v.2.1 i)).length≤1048576):r1 (v,())=some (v,()):=by
 show D2 (uz aR) v=_
 unfold D2
 have:=mn v.2.1.length (by omega) (fun m i=>uz m v.2.1 (v.2.1.length:Int) i (0,([]:List I.D),()) (v.1,v.2.1.take i.toNat,())) (fun _=>some (v,())) (fun _=>True) (fun m _=>by
  simp only [uz,D3]
  rw [cF (Nat.le_refl _)]
  simp only [Int.toNat_natCast,List.take_length,cond_false]) (fun m i hi _ hw ih=>by
  simp only [uz,D3]
  rw [ch hi,bw hi]
  simp only [cond_true,av,Int.toNat_natCast]
  have af4:=hn i hi
  show cond (room (0 +(ak (J I v.2.1 i)).length)) _ _=_
  rw [cG (by omega)]
  simp only [cond_true]
  unfold RX
  show cond (room ((v.2.1.take i).length+1)) _ _=_
  rw [cG (by rw [List.length_take];omega)]
  simp only [cond_true]
  unfold RW
  rw [hw]
  have ih:=ih trivial
  rw [show((i:Int)+1).toNat=i+1 by omega,List.take_succ_eq_append_getElem hi,← c7 (t:=I) hi] at ih
  exact ih) v.2.1.length 0 aR (by omega) (ja (by omega)) trivial
 simpa using this
theorem ow{β : Type}(W:Nat)(F:Nat→Nat → β)(y : β):∀(k B:Nat),(∀i,i<k→∀B y,b2 (fun m=>F m (i+1)) B y→b2 (fun m=>F m i) (B+W) y)→b2 (fun m=>F m k) B y→b2 (fun m=>F m 0) (B+k*W) y
 | 0,B,_,h=>by simpa using h
 | k+1,B,hf,h=>by
  have:=ow W F y k (B+W) (fun i hi=>hf i (by omega)) (hf k (by omega) B y h)
  rw [Nat.add_one_mul]
  rwa [show B +(k*W+W)=B+W+k*W by omega]
theorem U7{β : Type}(n W:Nat)(F:Nat→Nat → β)(P:Nat→Bool)(R:Option Nat → β)(B:Nat)(hn:b2 (fun m=>F m n) B (R none))(hs:∀i,i<n→P i=true→b2 (fun m=>F m i) B (R (some i)))
  (hf:∀i,i<n→P i=false→∀B y,b2 (fun m=>F m (i+1)) B y→b2 (fun m=>F m i) (B+W) y):b2 (fun m=>F m 0) (B+n*W) (R (e7 n P)):=by
 cases h:e7 n P with
 | none=>exact ow W F _ n B (fun i hi=>hf i hi (lD.1 h i hi)) hn
 | some k =>
  obtain ⟨h1,h2,h3⟩:=hT.1 h
  refine(ow W F _ k B (fun i hi=>hf i (by omega) (h3 i hi)) (hs k h1 h2)).mono ?_
  have:k*W≤n*W:=Nat.mul_le_mul_right _ (by omega)
  omega
theorem jg(v:af.D)(id:Int)(hl:v.2.1.length≤1048576){i:Nat}(h:bl v.2.1 id=some i):e6 (v,id,())=some (J I v.2.1 i,()):=by
 show Jp v id=_
 unfold Jp
 rw [nn v id hl,h]
 simp only [av,gQ]
 rw [bw (bS h).1];rfl
theorem MO(v:af.D)(id:Int)(hl:v.2.1.length≤1048576):wH (v,id,())=some (gQ (bl v.2.1 id),v,()):=by
 show Dx (ug aR) v id=_
 unfold Dx bl
 refine se v.2.1.length (by omega) _ (fun o=>some (gQ o,v,())) (fun m i=>ug m id (v.2.1.length:Int) i v) ?_ ?_
 ·intro m
  simp only [ug,Dy]
  rw [cF (Nat.le_refl _)];rfl
 ·intro m i hi hw
  simp only [ug,Dy,hw]
  rw [ch hi,bw hi]
  simp only [cond_true,av,Nat.zero_add];rfl
theorem mu(v:af.D)(id:Int)(hl:v.2.1.length≤1048576){i:Nat}(h:bl v.2.1 id=some i):fm (v,id,())=some ([J I v.2.1 i],()):=by
 rw [w5 v id hl,h];rfl
def kN(l:List aL)(id:Int):Bool:=match bl l id with | some i=>kindOf (J I l i)==2 | none=>false
theorem U8(v:af.D)(id:Int)(hl:v.2.1.length≤1048576):wz (v,id,())=some (kN v.2.1 id,()):=by
 show JB v id=_
 unfold JB kN
 rw [nn v id hl]
 simp only [av,zI]
 cases h:bl v.2.1 id with
 | none=>rfl
 | some i =>
  simp only [Option.isSome_some,cond_true,gQ]
  rw [bw (bS h).1];rfl
theorem FH(v:af.D)(id:Int)(hl:v.2.1.length≤1048576):uH (v,id,())=some (kN v.2.1 id,()):=by
 show KQ v id=_
 unfold KQ kN
 rw [w5 v id hl]
 cases h:bl v.2.1 id with
 | none=>rfl
 | some i=>rfl
def qP(N:List aw.D)(s:List UInt8)(j:Nat):Bool:=br (J aw N j).1 s
def zS(N:List aw.D):Option Nat→Int
 | none=>0
 | some j=>(J aw N j).2.1
def dE(N:List aw.D)(s:List UInt8):Int:=zS N (e7 N.length (qP N s))
theorem af6(v:af.D)(id:Int)(s:List UInt8)(hl:v.2.1.length≤1048576){i:Nat}(h:bl v.2.1 id=some i)(hn:(ak (J I v.2.1 i)).length≤1048576) :
  Jo (v,id,s,())=some (dE (ak (J I v.2.1 i)) s,()):=by
 show Cv (rH aR) v id s=_
 unfold Cv
 rw [nn v id hl,h]
 simp only [av,gQ]
 rw [bw (bS h).1]
 simp only [av]
 show rH aR s (ak (J I v.2.1 i)) 0=_
 generalize ak (J I v.2.1 i)=N at hn
 refine se N.length (by omega) (qP N s) (fun o=>some (zS N o,())) (fun m j=>rH m s N j) ?_ ?_
 ·intro m
  simp only [rH,Cw]
  rw [cF (Nat.le_refl _)];rfl
 ·intro m j hj hw
  simp only [rH,Cw,hw]
  rw [ch hj,bw hj];rfl
theorem U9(n:aL)(s:List UInt8)(hn:(ak n).length≤1048576):D9 (n,s,())=some (dE (ak n) s,()):=by
 show D7 (r2 aR) n s=_
 unfold D7
 show r2 aR s (ak n) ((ak n).length:Int) 0=_
 generalize ak n=N at hn
 refine se N.length (by omega) (qP N s) (fun o=>some (zS N o,())) (fun m j=>r2 m s N (N.length:Int) j) ?_ ?_
 ·intro m
  simp only [r2,D8]
  rw [cF (Nat.le_refl _)];rfl
 ·intro m j hj hw
  simp only [r2,D8,hw]
  rw [ch hj,bw hj];rfl
def kO(N:List aw.D)(id:Int)(j:Nat):Bool:=(J aw N j).2.1==id
def px(N:List aw.D)(id:Int):Bool:=(e7 N.length (kO N id)).isSome
def MP(l:List aL):Option Nat→Int
 | none=>1
 | some i=>(J I l i).1
def FI(l:List aL)(id:Int):Option Nat:=e7 l.length fun i=>px (ak (J I l i)) id
def jZ(l:List aL)(id:Int):Int:=MP l (FI l id)
theorem MQ{N:List aw.D}{id:Int}(h:px N id=false):∀j,j<N.length→kO N id j=false:=by
 unfold px at h
 cases hf:e7 N.length (kO N id) with
 | none=>exact lD.1 hf
 | some j=>rw [hf] at h;cases h
theorem FJ{N:List aw.D}{id:Int}(h:px N id=true):∃j,j<N.length∧kO N id j=true∧∀k,k<j→kO N id k=false:=by
 unfold px at h
 cases hf:e7 N.length (kO N id) with
 | none=>rw [hf] at h;cases h
 | some j=>exact⟨j,hT.1 hf⟩
theorem U_(v:af.D)(id:Int)(hl:v.2.1.length≤1048576)(hn:dr v.2.1≤1048576):Ct (v,id,())=some (jZ v.2.1 id,()):=by
 show Cs (ke aR) v id=_
 unfold Cs
 have inner:∀i,i<v.2.1.length→∀j,j<(ak (J I v.2.1 i)).length→kO (ak (J I v.2.1 i)) id j=false→∀B y,b2 (fun m=>(ke m).bu id (i:Int) ((j+1:Nat):Int) v) B y→b2 (fun m=>(ke m).bu id (i:Int) (j:Int) v) (B+1) y:=by
  intro i hi j hj au B y he
  have hnl:=fM hi
  refine he.step fun m=>?_
  show tH (ke m) _ _ _ _=_
  unfold tH
  rw [bw hi]
  simp only [av]
  show cond (decide ((j:Int)<((ak (J I v.2.1 i)).length:Int))) ((aN (ak (J I v.2.1 i)).length (j:Int)).bind fun v3=>cond (kO (ak (J I v.2.1 i)) id v3) _ _) _=_
  rw [ch hj,bw hj]
  simp only [cond_true,av,au,cond_false]
  rw [df j (by omega)]
 have key:=U7 v.2.1.length (1048576+2) (fun m i=>(ke m).k2 id (i:Int) v) (fun i=>px (ak (J I v.2.1 i)) id) (fun o=>some (MP v.2.1 o,())) (1048576+3) ((b2.done fun m=>by
   show tG (ke m) _ _ _=_
   unfold tG
   rw [cF (Nat.le_refl _)];rfl).mono (by omega)) (fun i hi au=>by
   have hnl:=fM hi
   obtain ⟨j,h1,h2,h3⟩:=FJ au
   have:=ow 1 (fun m j=>(ke m).bu id (i:Int) (j:Int) v) (some ((J I v.2.1 i).1,())) j 1 (fun k hk=>inner i hi k (by omega) (h3 k hk)) (b2.done fun m=>by
    show tH (ke m) _ _ _ _=_
    unfold tH
    rw [bw hi]
    simp only [av]
    show cond (decide ((j:Int)<((ak (J I v.2.1 i)).length:Int))) ((aN (ak (J I v.2.1 i)).length (j:Int)).bind fun v3=>cond (kO (ak (J I v.2.1 i)) id v3) _ _) _=_
    rw [ch h1,bw h1]
    simp only [cond_true,av,h2])
   refine(this.step (f:=fun m=>(ke m).k2 id (i:Int) v) fun m=>?_).mono (by omega)
   show tG (ke m) _ _ _=_
   unfold tG
   rw [ch hi];rfl) (fun i hi au B y he=>by
   have hnl:=fM hi
   have h0:=MQ au
   have:=ow 1 (fun m j=>(ke m).bu id (i:Int) (j:Int) v) y (ak (J I v.2.1 i)).length (B+1) (fun k hk=>inner i hi k hk (h0 k hk)) (he.step fun m=>by
    show tH (ke m) _ _ _ _=_
    unfold tH
    rw [bw hi]
    simp only [av]
    show cond (decide (((ak (J I v.2.1 i)).length:Int)<((ak (J I v.2.1 i)).length:Int))) _ _=_
    rw [cF (Nat.le_refl _)]
    simp only [cond_false]
    rw [df i (by omega)])
   refine(this.step (f:=fun m=>(ke m).k2 id (i:Int) v) fun m=>?_).mono (by omega)
   show tG (ke m) _ _ _=_
   unfold tG
   rw [ch hi];rfl)
 have hm:v.2.1.length*(1048576+2)≤1048576*(1048576+2):=Nat.mul_le_mul_right _ hl
 exact kM key (by omega)
theorem U'(v:af.D)(id:Int)(hl:v.2.1.length≤1048576)(hn:dr v.2.1≤1048576):D5 (v,id,())=some (jZ v.2.1 id,()):=by
 show D4 (kh aR) v id=_
 unfold D4
 have inner:∀i,i<v.2.1.length→∀j,j<(ak (J I v.2.1 i)).length→kO (ak (J I v.2.1 i)) id j=false→∀B y,
   b2 (fun m=>(kh m).bu id v.2.1 (v.2.1.length:Int) (i:Int) (ak (J I v.2.1 i)) ((ak (J I v.2.1 i)).length:Int) ((j+1:Nat):Int) (J I v.2.1 i)) B y →
   b2 (fun m=>(kh m).bu id v.2.1 (v.2.1.length:Int) (i:Int) (ak (J I v.2.1 i)) ((ak (J I v.2.1 i)).length:Int) (j:Int) (J I v.2.1 i)) (B+1) y:=by
  intro i hi j hj au B y he
  have hnl:=fM hi
  refine he.step fun m=>?_
  show uC (kh m) _ _ _ _ _ _ _ _=_
  unfold uC
  rw [ch hj,bw hj]
  simp only [cond_true,av]
  show cond (kO (ak (J I v.2.1 i)) id j) _ _=_
  rw [au,df j (by omega)];rfl
 have key:=U7 v.2.1.length (1048576+2) (fun m i=>(kh m).k2 id v.2.1 (v.2.1.length:Int) (i:Int)) (fun i=>px (ak (J I v.2.1 i)) id) (fun o=>some (MP v.2.1 o,())) (1048576+3) ((b2.done fun m=>by
   show uB (kh m) _ _ _ _=_
   unfold uB
   rw [cF (Nat.le_refl _)];rfl).mono (by omega)) (fun i hi au=>by
   have hnl:=fM hi
   obtain ⟨j,h1,h2,h3⟩:=FJ au
   have:=ow 1 (fun m j=>(kh m).bu id v.2.1 (v.2.1.length:Int) (i:Int) (ak (J I v.2.1 i)) ((ak (J I v.2.1 i)).length:Int) (j:Int) (J I v.2.1 i)) (some ((J I v.2.1 i).1,())) j 1 (fun k hk=>inner i hi k (by omega) (h3 k hk)) (b2.done fun m=>by
    show uC (kh m) _ _ _ _ _ _ _ _=_
    unfold uC
    rw [ch h1,bw h1]
    simp only [cond_true,av]
    show cond (kO (ak (J I v.2.1 i)) id j) _ _=_
    rw [h2];rfl)
   refine(this.step (f:=fun m=>(kh m).k2 id v.2.1 (v.2.1.length:Int) (i:Int)) fun m=>?_).mono (by omega)
   show uB (kh m) _ _ _ _=_
   unfold uB
   rw [ch hi,bw hi];rfl) (fun i hi au B y he=>by
   have hnl:=fM hi
   have h0:=MQ au
   have:=ow 1 (fun m j=>(kh m).bu id v.2.1 (v.2.1.length:Int) (i:Int) (ak (J I v.2.1 i)) ((ak (J I v.2.1 i)).length:Int) (j:Int) (J I v.2.1 i)) y (ak (J I v.2.1 i)).length (B+1) (fun k hk=>inner i hi k hk (h0 k hk)) (he.step fun m=>by
    show uC (kh m) _ _ _ _ _ _ _ _=_
    unfold uC
    rw [cF (Nat.le_refl _)]
    simp only [cond_false]
    rw [df i (by omega)])
   refine(this.step (f:=fun m=>(kh m).k2 id v.2.1 (v.2.1.length:Int) (i:Int)) fun m=>?_).mono (by omega)
   show uB (kh m) _ _ _ _=_
   unfold uB
   rw [ch hi,bw hi];rfl)
 have hm:v.2.1.length*(1048576+2)≤1048576*(1048576+2):=Nat.mul_le_mul_right _ hl
 exact kM key (by omega)
def mv(l:List aL)(N:List aw.D):Nat:=(N.filter fun d=>kN l d.2.1).length
def ox(l:List aL)(n:aL):Int:=cond (kindOf n != 2) (cg l n.1:Int) (2+mv l (ak n):Int)
theorem Va{l:List aL}{N:List aw.D}{j:Nat}(hj:j<N.length):mv l (N.take (j+1))=mv l (N.take j)+cond (kN l (J aw N j).2.1) 1 0:=by
 unfold mv
 rw [List.take_succ_eq_append_getElem hj,List.filter_append,List.length_append]
 congr 1
 rw [c7 hj]
 cases h:kN l (N[j]).2.1 <;> simp [List.filter_cons,h]
theorem Vb(l:List aL)(N:List aw.D)(j:Nat):mv l (N.take j)≤N.length:=by
 unfold mv
 refine Nat.le_trans (List.length_filter_le _ _) ?_
 rw [List.length_take];omega
theorem af7(v:af.D)(id:Int)(hl:v.2.1.length≤1048576)(hn:dr v.2.1≤1048576){i:Nat}(h:bl v.2.1 id=some i):C2 (v,id,())=some (ox v.2.1 (J I v.2.1 i),()):=by
 show C0 (tW aR) v id=_
 unfold C0 ox
 obtain ⟨hi,b3⟩:=bS h
 have hnl:=fM hi
 rw [nn v id hl,h]
 simp only [av,zH,Option.isNone_some,cond_false,gQ]
 rw [bw hi]
 simp only [av]
 show cond (kindOf (J I v.2.1 i) != 2) _ _=_
 cases kindOf (J I v.2.1 i) != 2
 ·simp only [cond_false]
  have:=mn (ak (J I v.2.1 i)).length (by omega) (fun m j=>tW m (i:Int) (2+mv v.2.1 ((ak (J I v.2.1 i)).take j.toNat):Int) j v) (fun _=>some ((2+mv v.2.1 (ak (J I v.2.1 i)):Int),())) (fun _=>True) (fun m _=>by
   simp only [tW,C1]
   rw [bw hi]
   simp only [av]
   show cond (decide (((ak (J I v.2.1 i)).length:Int)<((ak (J I v.2.1 i)).length:Int))) _ _=_
   rw [cF (Nat.le_refl _)]
   simp only [Int.toNat_natCast,List.take_length,cond_false]) (fun m j hj _ hw ih=>by
   have ih:=ih trivial
   rw [show((j:Int)+1).toNat=j+1 by omega,Va hj] at ih
   have hdl:=Vb v.2.1 (ak (J I v.2.1 i)) j
   simp only [tW,C1]
   rw [bw hi]
   simp only [av]
   show cond (decide ((j:Int)<((ak (J I v.2.1 i)).length:Int))) ((aN (ak (J I v.2.1 i)).length (j:Int)).bind fun v3=>(wz (v,(J aw (ak (J I v.2.1 i)) v3).2.1,())).bind _) _=_
   rw [ch hj,bw hj]
   simp only [cond_true,av]
   rw [U8 v _ hl]
   simp only [av,hw,Int.toNat_natCast]
   revert ih
   cases kN v.2.1 (J aw (ak (J I v.2.1 i)) j).2.1
   ·intro ih
    exact ih
   ·intro ih
    simp only [cond_true] at ih ⊢
    rw [dD (by omega) (by omega)]
    rw [Int.natCast_add,← Int.add_assoc] at ih
    exact ih) (ak (J I v.2.1 i)).length 0 aR (by omega) (ja (by omega)) trivial
  simpa [mv] using this
 ·simp only [cond_true]
  rw [Fp v id hl hn,b3];rfl
theorem Vc(v:af.D)(n:aL)(hl:v.2.1.length≤1048576)(hn:dr v.2.1≤1048576)(hnl:(ak n).length≤1048576):EK (v,n,())=some (ox v.2.1 n,()):=by
 show EI (r_ aR) v n=_
 unfold EI ox
 show cond (kindOf n != 2) _ _=_
 cases kindOf n != 2
 ·simp only [cond_false]
  have:=mn (ak n).length (by omega) (fun m j=>r_ m v (2+mv v.2.1 ((ak n).take j.toNat):Int) (ak n) ((ak n).length:Int) j) (fun _=>some ((2+mv v.2.1 (ak n):Int),())) (fun _=>True) (fun m _=>by
   simp only [r_,EJ]
   rw [cF (Nat.le_refl _)]
   simp only [Int.toNat_natCast,List.take_length,cond_false]) (fun m j hj _ hw ih=>by
   have ih:=ih trivial
   rw [show((j:Int)+1).toNat=j+1 by omega,Va hj] at ih
   have hdl:=Vb v.2.1 (ak n) j
   simp only [r_,EJ]
   rw [ch hj,bw hj]
   simp only [cond_true,av]
   rw [FH v _ hl]
   simp only [av,hw,Int.toNat_natCast]
   revert ih
   cases kN v.2.1 (J aw (ak n) j).2.1
   ·intro ih
    exact ih
   ·intro ih
    simp only [cond_true] at ih ⊢
    rw [dD (by omega) (by omega)]
    rw [Int.natCast_add,← Int.add_assoc] at ih
    exact ih) (ak n).length 0 aR (by omega) (ja (by omega)) trivial
  show r_ aR v 2 (ak n) ((ak n).length:Int) 0=_
  simpa [mv] using this
 ·simp only [cond_true]
  rw [Fq v _ hl hn];rfl
abbrev aF:Type:=List UInt8
def jh(c:aF):List aF→List aF
 | []=>[c]
 | p :: ps=>(c++p) :: ps
def eN:aF→List aF
 | []=>[[]]
 | b :: l=>cond (b==47) ([] :: eN l) (jh [b] (eN l))
def full(p:aF):Bool := !br p []
def cut(s:aF):List aF:=(eN s).filter full
theorem af8(c:aF)(l:List aF):jh c l≠[]:=by cases l <;> simp [jh]
theorem FK(s:aF):eN s≠[]:=by
 cases s with
 | nil=>simp [eN]
 | cons b l=>simp only [eN];cases b==47 <;> simp [af8]
theorem MR{l:List aF}(h:l≠[]):jh [] l=l:=by cases l <;> simp_all [jh]
theorem af9(a b:aF){l:List aF} : jh a (jh b l)=jh (a++b) l:=by cases l <;> simp [jh]
theorem MS{p:aF} : full p=false↔p=[]:=by unfold full br;simp
theorem af_(c:aF):(jh c [[]]).filter full=cond (full c) [c] []:=by
 simp only [jh,List.append_nil,List.filter_cons,List.filter_nil]
 cases full c <;> rfl
theorem af'(s:aF){i:Nat}(h:i<s.length):s.drop i=s.getD i 0 :: s.drop (i+1):=by
 rw [List.drop_eq_getElem_cons h]
 congr 1
 rw [List.getD_eq_getElem?_getD,List.getElem?_eq_getElem h];rfl
theorem aga{s:aF}{a i:Nat}(ha:a≤i)(hi:i<s.length):part s a (i+1-a)=part s a (i-a)++[s.getD i 0]:=by
 unfold part
 rw [show i+1-a=(i-a)+1 by omega,List.take_add_one]
 congr 1
 rw [List.getElem?_drop,show a +(i-a)=i by omega,List.getElem?_eq_getElem hi,List.getD_eq_getElem?_getD,List.getElem?_eq_getElem hi];rfl
theorem Vd(b:UInt8):(((b.toNat:Nat):Int)==47)=(b==47):=by
 rw [Bool.eq_iff_iff,beq_iff_eq,beq_iff_eq]
 constructor
 ·intro h
  have:b.toNat=47:=by omega
  exact UInt8.toNat_inj.1 (by rw [this];rfl)
 ·rintro rfl;rfl
theorem agb{s:aF}{a n:Nat}(h:a+n≤s.length):(part s a n).length=n:=by unfold part;rw [List.length_take,List.length_drop];omega
theorem Ve{s:aF}{a i:Nat}(ha:a≤i)(hi:i≤s.length):full (part s a (i-a))=decide ((i:Int) >(a:Int)):=by
 by_cases h:a<i
 ·rw [decide_eq_true (show(i:Int) >(a:Int) by omega)]
  rw [← Bool.not_eq_false,MS]
  intro h0
  have:=agb (s:=s) (a:=a) (n:=i-a) (by omega)
  rw [h0] at this
  simp at this;omega
 ·have:i-a=0:=by omega
  rw [this,decide_eq_false (show ¬(i:Int) >(a:Int) by omega)]
  exact MS.2 (by simp [part])
theorem Vf(s:aF)(hl:s.length≤1048576):yF (s,())=some (cut s,()):=by
 show Cr (qk aR) s=_
 unfold Cr
 have key:∀(r i m a:Nat) (out:List aF),i+r=s.length→r+1<m→a≤i→out.length≤i→qk m s (a:Int) (i:Int) out=some (out++(jh (part s a (i-a)) (eN (s.drop i))).filter full,()):=by
  intro r
  induction r with
  | zero =>
   intro i m a out hi hm ha ho
   obtain ⟨m,rfl,oT⟩:=fuel hm
   obtain ⟨m,rfl,_⟩:=fuel oT
   have bJ:i=s.length:=by omega
   have lv:∀(x:Int) (o:List aF),qk (m+1) s x (aG ((i:Int)+1)) o=some (o,()):=by
    intro x o
    simp only [qk,yE]
    rw [df i (by omega),decide_eq_false (by omega)];rfl
   rw [qk,yE,decide_eq_true (show(i:Int)≤(s.length:Int) by omega),show((i:Int) ==(s.length:Int))=true by simp;omega]
   simp only [cond_true]
   rw [List.drop_of_length_le (by omega),eN,af_,Ve ha (by omega)]
   by_cases h:(i:Int) >(a:Int)
   ·rw [decide_eq_true h]
    simp only [cond_true]
    rw [kp ha (by omega)]
    simp only [av]
    rw [cG (by simp only [List.length_cons,List.length_nil];omega)]
    simp only [cond_true,lv]
   ·rw [decide_eq_false h]
    simp only [cond_false,lv,List.append_nil]
  | succ r ih =>
   intro i m a out hi hm ha ho
   obtain ⟨m,rfl,hm⟩:=fuel hm
   have cz:i<s.length:=by omega
   rw [qk,yE,decide_eq_true (show(i:Int)≤(s.length:Int) by omega),show((i:Int) ==(s.length:Int))=false by simp;omega]
   simp only [cond_true,cond_false]
   rw [bw cz,af' s cz,eN]
   simp only [av]
   rw [Vd,df i (by omega)]
   cases s.getD i 0==47
   ·simp only [cond_false]
    rw [ih (i+1) m a out (by omega) (by omega) (by omega) (by omega),af9,← aga ha cz]
   ·simp only [cond_true]
    have hz:part s (i+1) (i+1-(i+1))=[]:=by simp [part]
    have hs:(jh (part s a (i-a)) ([] :: eN (s.drop (i+1)))).filter full=cond (full (part s a (i-a))) [part s a (i-a)] []++(eN (s.drop (i+1))).filter full:=by
     simp only [jh,List.append_nil,List.filter_cons]
     cases full (part s a (i-a)) <;> rfl
    rw [hs,Ve ha (by omega)]
    by_cases h:(i:Int) >(a:Int)
    ·rw [decide_eq_true h]
     simp only [cond_true]
     rw [kp ha (by omega)]
     simp only [av]
     rw [cG (by simp only [List.length_cons,List.length_nil];omega)]
     simp only [cond_true]
     rw [ih (i+1) m (i+1) _ (by omega) (by omega) (by omega) (by simp;omega),hz,MR (FK _),List.append_assoc]
    ·rw [decide_eq_false h]
     simp only [cond_false]
     rw [ih (i+1) m (i+1) _ (by omega) (by omega) (by omega) (by omega),hz,MR (FK _),List.nil_append]
 have:=key s.length 0 aR 0 [] (by omega) (ja (by omega)) (by omega) (by simp)
 rw [show part s 0 (0-0)=[] by simp [part],List.drop_zero,MR (FK _)] at this
 simpa [cut] using this
theorem Vg{s:aF}(h:Lib.indexByte s 47 = -1):eN s=[s]∧s.count 47=0:=by
 induction s with
 | nil=>exact⟨rfl,rfl⟩
 | cons b l ih =>
  unfold Lib.indexByte at h
  cases hb:b==47
  ·rw [hb] at h
   simp only [Bool.false_eq_true,if_false] at h
   have hl:Lib.indexByte l 47 = -1:=by
    by_cases h1:Lib.indexByte l 47 = -1
    ·exact h1
    ·have h2:=Lib.indexByte_ge l 47
     rw [if_neg (by simpa using h1)] at h
     omega
   obtain ⟨i1,i2⟩:=ih hl
   refine⟨by rw [eN,hb,i1];rfl,?_⟩
   rw [List.count_cons,i2,hb];rfl
  ·rw [hb] at h;simp at h
theorem Vh{s:aF}{k:Nat}(h:Lib.indexByte s 47=(k:Int)):k<s.length∧eN s=s.take k :: eN (s.drop (k+1))∧s.count 47=(s.drop (k+1)).count 47+1:=by
 induction s generalizing k with
 | nil=>unfold Lib.indexByte at h;omega
 | cons b l ih =>
  unfold Lib.indexByte at h
  cases hb:b==47
  ·rw [hb] at h
   simp only [Bool.false_eq_true,if_false] at h
   have h2:=Lib.indexByte_ge l 47
   by_cases h1:Lib.indexByte l 47 = -1
   ·rw [if_pos (by simpa using h1)] at h;omega
   ·rw [if_neg (by simpa using h1)] at h
    obtain ⟨j,rfl⟩:∃j,k=j+1:=⟨k-1,by omega⟩
    obtain ⟨i1,i2,i3⟩:=ih (k:=j) (by omega)
    refine⟨by simp;omega,?_,?_⟩
    ·rw [eN,hb,i2];rfl
    ·rw [List.count_cons,i3,hb];rfl
  ·rw [hb] at h
   simp only [if_true] at h
   have:k=0:=by omega
   subst this
   refine⟨by simp,?_,?_⟩
   ·rw [eN,hb];rfl
   ·rw [List.count_cons,hb];rfl
theorem Vi(s:aF):Lib.indexByte s 47 = -1∨∃k:Nat,Lib.indexByte s 47=k:=by
 have:=Lib.indexByte_ge s 47
 by_cases h:Lib.indexByte s 47 = -1
 ·exact .inl h
 ·exact .inr ⟨(Lib.indexByte s 47).toNat,by omega⟩
theorem agc(s:aF):D_ (s,[47],())=some (Lib.indexByte s 47,()):=by
 show Kv s [47]=_
 unfold Kv
 show Option.bind (Ku s [47]) _=_
 unfold Ku
 by_cases h:br [47] s=true
 ·rw [h]
  have:s=[47]:=by unfold br at h;simp only [decide_eq_true_eq] at h;exact h.symm
  subst this;rfl
 ·rw [Bool.not_eq_true] at h
  rw [h]
  rfl
theorem agd(s:aF):Kw (s,[47],())=some ((s.count 47:Int),()):=by
 show Ea (Eb aR) s [47]=_
 unfold Ea
 rfl
theorem age:∀(r:Nat) (s:aF) (i n m:Nat) (a:List aF),s.length≤1048576→n≤1048576→s.count 47=r→i+r=n→a.length=n+1→r+1<m →
  (qA m).cR s [47] 0 (n:Int) (i:Int) a=some (a.take i++eN s,()):=by
 intro r
 induction r with
 | zero =>
  intro s i n m a hs hn hc hi ha hm
  obtain ⟨m,rfl,oT⟩:=fuel hm
  obtain ⟨m,rfl,_⟩:=fuel oT
  have:i=n:=by omega
  subst this
  show zf (qA (m+1)) _ _ _ _ _ _=_
  unfold zf
  rw [cF (Nat.le_refl _)]
  simp only [cond_false]
  show Ky (qA m) _ _ _=_
  unfold Ky
  rw [bw (by omega)]
  simp only [av,Nat.zero_add]
  rw [df i (by omega)]
  show Option.bind (dZ (a.set i s).length ((0:Nat):Int) ((i+1:Nat):Int)) _=_
  rw [kp (by omega) (by rw [List.length_set];omega)]
  simp only [av,Nat.zero_add,Nat.sub_zero]
  have hsp:eN s=[s]:=by
   rcases Vi s with h | ⟨k,h⟩
   ·exact(Vg h).1
   ·have:=(Vh h).2.2;omega
  rw [hsp,zG,List.take_succ_eq_append_getElem (by rw [List.length_set];omega),List.getElem_set_self,List.take_set_of_le (by omega)]
 | succ r ih =>
  intro s i n m a hs hn hc hi ha hm
  obtain ⟨m,rfl,hm⟩:=fuel hm
  show zf (qA m) _ _ _ _ _ _=_
  unfold zf
  rw [ch (by omega),agc]
  simp only [cond_true,av]
  obtain ⟨k,hk⟩:∃k:Nat,Lib.indexByte s 47=k:=by
   rcases Vi s with h | h
   ·have:=(Vg h).2;omega
   ·exact h
  obtain ⟨h1,h2,h3⟩:=Vh hk
  rw [hk,decide_eq_false (by omega)]
  simp only [cond_false]
  rw [show aG ((k:Int)+0)=(k:Int) by rw [Int.add_zero];exact dD (by omega) (by omega)]
  show Option.bind (dZ s.length ((0:Nat):Int) (k:Int)) _=_
  rw [kp (by omega) (by omega)]
  simp only [av]
  rw [bw (by omega)]
  simp only [av,Nat.zero_add]
  unfold R6
  simp only
  rw [show aG ((k:Int) +(([47]:aF).length:Int))=((k+1:Nat):Int) from df k (by omega),kp (by omega) (Nat.le_refl _)]
  simp only [av]
  rw [Ml,df i (by omega),ih (s.drop (k+1)) (i+1) n m _ (by rw [List.length_drop];omega) hn (by omega) (by omega) (by rw [List.length_set];exact ha) (by omega)]
  rw [h2,List.take_succ_eq_append_getElem (by rw [List.length_set];omega),List.getElem_set_self,List.take_set_of_le (by omega),Nat.sub_zero,zG,List.append_assoc];rfl
theorem agf(s:aF)(hl:s.length≤1048576):KB (s,[47],())=some (eN s,()):=by
 show KA s [47]=_
 unfold KA
 have:Kz (s,[47],0,-1,())=some (eN s,()):=by
  show Ec (qA aR) s [47] 0 (-1)=_
  unfold Ec
  have hcl:s.count 47≤s.length:=List.count_le_length
  rw [agd]
  show(qA aR).dj s [47] 0 (aG ((s.count 47:Int)+1))=_
  obtain ⟨q,hq,hL⟩:=jb 1
  rw [hq]
  show Kx (qA q) _ _ _ _=_
  unfold Kx
  rw [df _ (by omega),df _ (by omega),show jm ((s.count 47+1:Nat):Int) ((s.length+1:Nat):Int)=((s.count 47+1:Nat):Int) by rw [afu];omega]
  rw [decide_eq_true (by omega),decide_eq_true rfl,Int.toNat_natCast,cG (by omega)]
  simp only [Bool.and_self,cond_true]
  rw [show aG (((s.count 47+1:Nat):Int)-1)=((s.count 47:Nat):Int) by rw [dD (by omega) (by omega)];omega]
  have:=age (s.count 47) s 0 (s.count 47) q (List.replicate (s.count 47+1) []) hl (by omega) rfl (by omega) (by simp) (by omega)
  simpa using this
 rw [this];rfl
theorem Vj(s:aF)(hl:s.length≤1048576):r4 (s,())=some (cut s,()):=by
 show Ee (r3 aR) s=_
 unfold Ee
 rw [agf s hl]
 simp only [av]
 have pn:(eN s).length≤1048577:=by
  have:∀s:aF,(eN s).length≤s.length+1:=by
   intro s
   induction s with
   | nil=>simp [eN]
   | cons b l ih =>
    rw [eN]
    cases b==47
    ·simp only [cond_false,List.length_cons]
     cases hs:eN l with
     | nil=>simp [jh]
     | cons p ps=>rw [hs] at ih;simp only [jh,List.length_cons] at ih ⊢;omega
    ·simp only [cond_true,List.length_cons];omega
  have:=this s;omega
 show r3 aR _ _ _ _=some ((eN s).filter full,())
 generalize eN s=l at pn
 have:=mn l.length (by omega) (fun m i=>r3 m (l.length:Int) i ((l.take i.toNat).filter full) l) (fun _=>some (l.filter full,())) (fun _=>True) (fun m _=>by
  simp only [r3,Ef]
  rw [cF (Nat.le_refl _)]
  simp only [Int.toNat_natCast,List.take_length,cond_false]) (fun m i hi _ hw ih=>by
  have ih:=ih trivial
  have aA:J ae.str l i=l[i]:=c7 (t:=.str) hi
  rw [show((i:Int)+1).toNat=i+1 by omega,List.take_succ_eq_append_getElem hi,List.filter_append,List.filter_cons,List.filter_nil] at ih
  simp only [r3,Ef]
  rw [ch hi,bw hi]
  simp only [cond_true,av,Nat.zero_add,hw,Int.toNat_natCast]
  rw [aA]
  show cond (full l[i]) _ _=_
  have hM:((l.take i).filter full).length≤i:=Nat.le_trans (List.length_filter_le _ _) (by rw [List.length_take];omega)
  cases hf:full l[i]
  ·rw [hf] at ih
   simp only [Bool.false_eq_true,if_false,List.append_nil] at ih
   exact ih
  ·rw [hf] at ih
   simp only [if_true] at ih
   simp only [cond_true]
   rw [cG (by simp only [List.length_cons,List.length_nil];omega)]
   exact ih) l.length 0 aR (by omega) (ja (by omega)) trivial
 simpa using this
theorem agh{s:aF} : ∀ {p:aF},p∈eN s→∀b,b∈p→b∈s∧(b==47)=false:=by
 induction s with
 | nil=>intro p au b hb;simp [eN] at au;subst au;simp at hb
 | cons c l ih =>
  intro p au b hb
  rw [eN] at au
  cases hc:c==47
  ·rw [hc] at au
   simp only [cond_false] at au
   cases hs:eN l with
   | nil=>exact absurd hs (FK l)
   | cons q akP =>
    rw [hs] at au ih
    simp only [jh,List.mem_cons] at au
    rcases au with rfl | au
    ·simp only [List.cons_append,List.nil_append,List.mem_cons] at hb
     rcases hb with rfl | hb
     ·exact⟨List.mem_cons_self,hc⟩
     ·obtain ⟨h1,h2⟩:=ih List.mem_cons_self b hb
      exact⟨List.mem_cons_of_mem _ h1,h2⟩
    ·obtain ⟨h1,h2⟩:=ih (List.mem_cons_of_mem _ au) b hb
     exact⟨List.mem_cons_of_mem _ h1,h2⟩
  ·rw [hc] at au
   simp only [cond_true,List.mem_cons] at au
   rcases au with rfl | au
   ·simp at hb
   ·obtain ⟨h1,h2⟩:=ih au b hb
    exact⟨List.mem_cons_of_mem _ h1,h2⟩
theorem agi(s:aF):(eN s).length≤s.length+1:=by
 induction s with
 | nil=>simp [eN]
 | cons b l ih =>
  rw [eN]
  cases b==47
  ·simp only [cond_false,List.length_cons]
   cases hs:eN l with
   | nil=>simp [jh]
   | cons p ps=>rw [hs] at ih;simp only [jh,List.length_cons] at ih ⊢;omega
  ·simp only [cond_true,List.length_cons];omega
theorem Vk(s:aF):(cut s).length≤s.length+1:=Nat.le_trans (List.length_filter_le _ _) (agi s)
def zT(p:aF):Prop:=p≠[]∧∀i,i<p.length→sf (nb p i)=true
theorem Vl{s:aF}(h:jd s=true):∀p,p∈cut s→zT p:=by
 intro p au
 obtain ⟨h1,h2⟩:=List.mem_filter.1 au
 refine⟨fun h0=>(by rw [MS.2 h0] at h2;cases h2),fun i hi=>?_⟩
 have hm:p.getD i 0∈p:=by rw [List.getD_eq_getElem?_getD,List.getElem?_eq_getElem hi];exact List.getElem_mem hi
 obtain ⟨h3,h4⟩:=agh h1 _ hm
 unfold jd at h
 rw [Bool.and_eq_true] at h
 obtain ⟨j,hj,he⟩:=List.mem_iff_getElem.1 h3
 have:=kK.1 h.1 j hj
 have e:nb s j=nb p i:=by unfold nb;rw [List.getD_eq_getElem?_getD,List.getElem?_eq_getElem hj,← he];rfl
 rw [e] at this
 have a7:(nb p i==47)=false:=by rw [← h4];exact Vd _
 rw [a7,Bool.false_or] at this
 exact this
theorem lt_irrefl:∀x:aF,du x x=false
 | []=>rfl
 | a :: x=>by
  have:=lt_irrefl x
  unfold du at *
  rw [Op.bytesLess]
  simp [this]
theorem Vm:∀x y:aF,du x y=false→x=y∨du y x=true
 | [],[],_=>.inl rfl
 | [],_ :: _,h=>by unfold du Op.bytesLess at h;cases h
 | a :: x,[],_=>.inr (by unfold du Op.bytesLess;rfl)
 | a :: x,b :: y,h=>by
  have ih:=Vm x y
  unfold du at *
  rw [Op.bytesLess] at h
  simp only [Bool.or_eq_false_iff,decide_eq_false_iff_not,Bool.and_eq_false_iff,beq_eq_false_iff_ne] at h
  obtain ⟨h1,h2⟩:=h
  by_cases lf:a=b
  ·subst lf
   rcases h2 with h2 | h2
   ·exact absurd rfl h2
   ·rcases ih h2 with h3 | h3
    ·exact .inl (by rw [h3])
    ·exact .inr (by rw [Op.bytesLess];simp [h3])
  ·refine .inr ?_
   rw [Op.bytesLess]
   have:b<a:=by
    rcases UInt8.lt_or_lt_of_ne lf with h | h
    ·exact absurd h h1
    ·exact h
   simp [this]
theorem zU:∀ {x y z:aF},du x y=true→du y z=true→du x z=true
 | _,[],_,h,_=>by unfold du at h;simp [Op.bytesLess] at h
 | _,_ :: _,[],_,h=>by unfold du at h;simp [Op.bytesLess] at h
 | [],_ :: _,_ :: _,_,_=>by unfold du;simp [Op.bytesLess]
 | a :: x,b :: y,c :: z,h,k=>by
  have ih:=@zU x y z
  unfold du at *
  rw [Op.bytesLess] at h k ⊢
  simp only [Bool.or_eq_true,decide_eq_true_eq,Bool.and_eq_true,beq_iff_eq] at h k ⊢
  rcases h with h | ⟨rfl,h⟩
  ·rcases k with k | ⟨rfl,k⟩
   ·exact .inl (UInt8.lt_trans h k)
   ·exact .inl h
  ·rcases k with k | ⟨rfl,k⟩
   ·exact .inl k
   ·exact .inr ⟨rfl,ih h k⟩
theorem Vn{x y:aF}(h:du x y=true):du y x=false:=by
 cases hk:du y x
 ·rfl
 ·have:=zU h hk;rw [lt_irrefl] at this;cases this
theorem FL{x y:aF}(h:du x y=true):x≠y:=by rintro rfl;rw [lt_irrefl] at h;cases h
theorem MT{x y:aF}(h:x≠y):du y x = !du x y:=by
 cases hk:du x y
 ·rcases Vm x y hk with h1 | h1
  ·exact absurd h1 h
  ·rw [h1];rfl
 ·rw [Vn hk];rfl
def iQ(N:List aw.D):Prop:=N.Pairwise fun a b=>du a.1 b.1=true
theorem agj{N:List aw.D}(h:∀j,j+1<N.length→du (J aw N j).1 (J aw N (j+1)).1=true):iQ N:=by
 unfold iQ
 rw [List.pairwise_iff_getElem]
 have key:∀d j,j+d+1<N.length→du (J aw N j).1 (J aw N (j+d+1)).1=true:=by
  intro d
  induction d with
  | zero=>exact fun j hj=>h j hj
  | succ d ih=>exact fun j hj=>zU (ih j (by omega)) (h (j+d+1) (by omega))
 intro i j hi hj ix
 have:=key (j-i-1) i (by omega)
 rw [show i +(j-i-1)+1=j by omega,c7 hi,c7 hj] at this
 exact this
theorem agk{N:List aw.D}(h:iQ N){i j:Nat}(ix:i<j)(hj:j<N.length):du (J aw N i).1 (J aw N j).1=true:=by
 unfold iQ at h
 rw [c7 hj,c7 (t:=aw) (xs:=N) (i:=i) (by omega)]
 exact List.pairwise_iff_getElem.1 h i j (by omega) hj ix
structure kP(l:List aL)(x:aL):Prop where
 mode:0≤eU x∧eU x≤2047
 uid:0≤en x∧en x≤1000
 gid:0≤e9 x∧e9 x≤1000
 kind:kindOf x=1∨kindOf x=2∨kindOf x=3
 plain:kindOf x≠2→eM x=0∧ez x=0∧ak x=[]
 file:kindOf x=1→(bM x).length≤64
 mw:kindOf x=3→jd (bM x)=true∧eU x=511
 dir:kindOf x=2→bM x=[]∧(0≤eM x∧eM x≤400)∧(0≤ez x∧ez x≤24)∧(ak x).length≤12
 names:∀d,d∈ak x→hU d.1=true∧d.2.1≠1∧(bl l d.2.1).isSome=true
 sorted:iQ (ak x)
theorem FM{x:aL} : plain x=true↔eM x=0∧ez x=0∧ak x=[]:=by
 unfold plain
 simp only [Bool.and_eq_true,beq_iff_eq]
 constructor
 ·rintro ⟨⟨h1,h2⟩,h3⟩;exact⟨h2,h3,List.length_eq_zero_iff.1 (by omega)⟩
 ·rintro ⟨h1,h2,h3⟩;exact⟨⟨by rw [h3];rfl,h1⟩,h2⟩
theorem Vo{l:List aL}{N:List aw.D} : fe N.length (ou l N)=true↔(∀d,d∈N→hU d.1=true∧d.2.1≠1∧(bl l d.2.1).isSome=true)∧iQ N:=by
 rw [kK]
 unfold ou
 simp only [Bool.and_eq_true,Bool.not_eq_true',Bool.and_eq_false_iff,decide_eq_false_iff_not,Bool.not_eq_false',beq_eq_false_iff_ne]
 constructor
 ·intro h
  refine⟨fun d ag=>?_,agj fun j hj=>?_⟩
  ·obtain ⟨i,hi,he⟩:=e8 ag
   obtain ⟨⟨⟨h1,_⟩,h3⟩,h4⟩:=h i hi
   rw [he] at h1 h3 h4
   exact⟨h1,h3,h4⟩
  ·obtain ⟨⟨⟨_,h2⟩,_⟩,_⟩:=h (j+1) hj
   rcases h2 with h2 | h2
   ·omega
   ·rw [Nat.add_sub_cancel] at h2;exact h2
 ·rintro ⟨h1,h2⟩ i hi
  obtain ⟨k1,k2,k3⟩:=h1 _ (cE hi)
  refine⟨⟨⟨k1,?_⟩,k2⟩,k3⟩
  by_cases h0:0<i
  ·exact .inr (agk h2 (by omega) hi)
  ·exact .inl h0
theorem Vp{l:List aL}{x:aL} : nq l x=true↔kP l x:=by
 unfold nq
 simp only [Bool.and_eq_true]
 constructor
 ·rintro ⟨⟨⟨h1,h2⟩,h3⟩,h⟩
  have h1:=dJ.1 h1
  have h2:=dJ.1 h2
  have h3:=dJ.1 h3
  by_cases k1:kindOf x=1
  ·rw [cD (show x.2.1=1 from k1)] at h
   simp only [cond_true,Bool.and_eq_true,decide_eq_true_eq] at h
   obtain ⟨ed,d_,fU⟩:=FM.1 h.1
   exact⟨h1,h2,h3,.inl k1,fun _=>⟨ed,d_,fU⟩,fun _=>by omega,fun k=>by omega,fun k=>by omega,by rw [fU];simp,by rw [fU];exact List.Pairwise.nil⟩
  ·rw [cd (show ¬x.2.1=1 from k1)] at h
   by_cases k3:kindOf x=3
   ·rw [cD (show x.2.1=3 from k3)] at h
    simp only [cond_true,cond_false,Bool.and_eq_true,beq_iff_eq] at h
    obtain ⟨ed,d_,fU⟩:=FM.1 h.1.1
    exact⟨h1,h2,h3,.inr (.inr k3),fun _=>⟨ed,d_,fU⟩,fun k=>by omega,fun _=>⟨h.1.2,h.2⟩,fun k=>by omega,by rw [fU];simp,by rw [fU];exact List.Pairwise.nil⟩
   ·rw [cd (show ¬x.2.1=3 from k3)] at h
    by_cases k2:kindOf x=2
    ·rw [cD (show x.2.1=2 from k2)] at h
     simp only [cond_true,cond_false,Bool.and_eq_true,si,decide_eq_true_eq] at h
     obtain ⟨⟨⟨e1,e2⟩,e3⟩,fJ,sX⟩:=h
     obtain ⟨fF,lN⟩:=Vo.1 fJ
     exact⟨h1,h2,h3,.inr (.inl k2),fun k=>absurd k2 k,fun k=>by omega,fun k=>by omega,fun _=>⟨by unfold br at e1;simpa using e1,dJ.1 e2,dJ.1 e3,by omega⟩,fF,lN⟩
    ·rw [cd (show ¬x.2.1=2 from k2)] at h
     simp at h
 ·intro h
  refine⟨⟨⟨dJ.2 h.mode,dJ.2 h.uid⟩,dJ.2 h.gid⟩,?_⟩
  rcases h.kind with k | k | k
  ·have k':x.2.1=1:=k
   rw [cD k']
   simp only [cond_true,Bool.and_eq_true,decide_eq_true_eq]
   exact⟨FM.2 (h.plain (by omega)),by have:=h.file k;omega⟩
  ·have k':x.2.1=2:=k
   rw [cd (show ¬x.2.1=1 from fun h1=>by have:kindOf x=1:=h1;omega),cd (show ¬x.2.1=3 from fun h1=>by have:kindOf x=3:=h1;omega),cD k']
   simp only [cond_true,cond_false,Bool.and_eq_true,si,decide_eq_true_eq]
   obtain ⟨d1,d2,d3,d4⟩:=h.dir k
   exact⟨⟨⟨by rw [d1];rfl,dJ.2 d2⟩,dJ.2 d3⟩,Vo.2 ⟨h.names,h.sorted⟩,by omega⟩
  ·have k':x.2.1=3:=k
   rw [cd (show ¬x.2.1=1 from fun h1=>by have:kindOf x=1:=h1;omega),cD k']
   simp only [cond_true,cond_false,Bool.and_eq_true,beq_iff_eq]
   exact⟨⟨FM.2 (h.plain (by omega)),(h.mw k).1⟩,(h.mw k).2⟩
def gb(v:af.D):Int:=v.1
def aX(x:aL):Int:=x.1
structure bH(v:af.D):Prop where
 next:2≤gb v∧gb v≤100000
 len:1≤v.2.1.length∧v.2.1.length≤24
 root:aX (J I v.2.1 0)=1∧kindOf (J I v.2.1 0)=2
 ids:∀i,i<v.2.1.length→1≤aX (J I v.2.1 i)∧aX (J I v.2.1 i)≤gb v-1
 FN:∀i,i+1<v.2.1.length→aX (J I v.2.1 i)<aX (J I v.2.1 (i+1))
 ino:∀i,i<v.2.1.length→kP v.2.1 (J I v.2.1 i)
 reach:∀i,1≤i→i<v.2.1.length→dM v.2.1 1 (J I v.2.1 i).1
 once:∀i,1≤i→i<v.2.1.length→kindOf (J I v.2.1 i)=2→cg v.2.1 (J I v.2.1 i).1=1
 bytes:bytesOf v.2.1≤400
 over:ga v.2.1=false
theorem MU{l:List aL}(h:∀i,i+1<l.length→aX (J I l i)<aX (J I l (i+1))):hV l:=by
 have cz:∀d j,j+d+1<l.length→aX (J I l j)<aX (J I l (j+d+1)):=by
  intro d
  induction d with
  | zero=>intro j hj;exact h j hj
  | succ d ih=>intro j hj;exact Int.lt_trans (ih j (by omega)) (h (j+d+1) hj)
 intro x hx
 unfold bl
 rw [hT]
 refine⟨hx,by simp,fun j hj=>?_⟩
 obtain ⟨d,rfl⟩:∃d,x=j+d+1:=⟨x-j-1,by omega⟩
 have:=cz d j hx
 rw [beq_eq_false_iff_ne]
 exact Int.ne_of_lt this
theorem Vq{v:af.D}(hn:2≤gb v∧gb v≤100000):fe v.2.1.length (mq v)=true↔(∀i,i<v.2.1.length→1≤aX (J I v.2.1 i)∧aX (J I v.2.1 i)≤gb v-1) ∧
  (∀i,i+1<v.2.1.length→aX (J I v.2.1 i)<aX (J I v.2.1 (i+1)))∧∀i,i<v.2.1.length→kP v.2.1 (J I v.2.1 i):=by
 rw [kK]
 unfold mq
 rw [show aG (v.1-1)=gb v-1 from dD (a:=gb v-1) (by omega) (by omega)]
 simp only [Bool.and_eq_true,Bool.not_eq_true',Bool.and_eq_false_iff,decide_eq_false_iff_not]
 constructor
 ·intro h
  refine⟨fun i hi=>dJ.1 (h i hi).1.1,fun i hi=>?_,fun i hi=>Vp.1 (h i hi).2⟩
  rcases (h (i+1) hi).1.2 with h2 | h2
  ·omega
  ·rw [Nat.add_sub_cancel] at h2;exact Int.not_le.1 h2
 ·rintro ⟨h1,h2,h3⟩ i hi
  refine⟨⟨dJ.2 (h1 i hi),?_⟩,Vp.2 (h3 i hi)⟩
  by_cases h0:0<i
  ·have:=h2 (i-1) (by omega)
   rw [show i-1+1=i by omega] at this
   exact .inr (Int.not_le.2 this)
  ·exact .inl h0
theorem py{v:af.D} : jY v=true↔bH v:=by
 unfold jY
 simp only [Bool.and_eq_true,beq_iff_eq]
 constructor
 ·rintro ⟨⟨⟨⟨h1,h2⟩,h3⟩,h4⟩,a7⟩
  have h1:=dJ.1 h1
  have h2:=dJ.1 h2
  by_cases a1:fe v.2.1.length (mq v)=true
  case neg=>rw [Bool.not_eq_true] at a1;rw [a1] at a7;cases a7
  rw [a1] at a7
  obtain ⟨i1,i2,i3⟩:=(Vq h1).1 a1
  have ag:=MU i2
  by_cases a2:fe (v.2.1.length-1) (jX v.2.1)=true
  case neg=>rw [Bool.not_eq_true] at a2;rw [a2] at a7;cases a7
  rw [a2] at a7
  simp only [cond_true,Bool.and_eq_true,Bool.not_eq_true',decide_eq_true_eq] at a7
  have a2:=kK.1 a2
  unfold jX at a2
  simp only [Bool.and_eq_true,Bool.not_eq_true',Bool.and_eq_false_iff,beq_eq_false_iff_ne,bne_eq_false_iff_eq] at a2
  refine⟨h1,by omega,⟨h3,h4⟩,i1,i2,i3,fun i hi hl=>?_,fun i hi hl hk=>?_,by omega,a7.2⟩
  ·have:=(a2 (i-1) (by omega)).1
   rw [show i-1+1=i by omega] at this
   exact(w7 v.2.1 ag 1 hl).1 this
  ·have:=(a2 (i-1) (by omega)).2
   rw [show i-1+1=i by omega] at this
   rcases this with h | h
   ·exact absurd hk h
   ·omega
 ·intro h
  have ag:=MU h.FN
  refine⟨⟨⟨⟨dJ.2 h.next,dJ.2 (by have:=h.len;omega)⟩,h.root.1⟩,h.root.2⟩,?_⟩
  rw [(Vq h.next).2 ⟨h.ids,h.FN,h.ino⟩]
  have a2:fe (v.2.1.length-1) (jX v.2.1)=true:=by
   rw [kK]
   unfold jX
   simp only [Bool.and_eq_true,Bool.not_eq_true',Bool.and_eq_false_iff,beq_eq_false_iff_ne,bne_eq_false_iff_eq]
   intro i hi
   refine⟨(w7 v.2.1 ag 1 (by omega)).2 (h.reach (i+1) (by omega) (by omega)),?_⟩
   by_cases hk:kindOf (J I v.2.1 (i+1))=2
   ·have:=h.once (i+1) (by omega) (by omega) hk
    exact .inr (by rw [this];rfl)
   ·exact .inl hk
  rw [a2]
  simp only [cond_true,Bool.and_eq_true,Bool.not_eq_true',decide_eq_true_eq]
  exact⟨by have:=h.bytes;omega,h.over⟩
structure pz(l:List aL):Prop where
 len:l.length≤1048576
 cH:dr l≤1048576
 fO:hV l
 hp:qM l
 bare:∀i,i<l.length→kindOf (J I l i)≠2→ak (J I l i)=[]
 mw:∀i,i<l.length→kindOf (J I l i)=3→jd (bM (J I l i))=true
 root:∃i,bl l 1=some i∧kindOf (J I l i)=2
theorem bH.fO{v:af.D}(h:bH v):hV v.2.1:=MU h.FN
theorem bH.hp{v:af.D}(h:bH v):qM v.2.1:=fun i hi d ag=>((h.ino i hi).names d ag).2.2
theorem bH.agl{v:af.D}(h:bH v)(hb:uS v):pz v.2.1 :=
 ⟨hb.len,hb.cH,h.fO,h.hp,fun i hi hk=>((h.ino i hi).plain hk).2.2,fun i hi hk=>((h.ino i hi).mw hk).1,0,by
  have:=h.fO 0 (by have:=h.len;omega)
  rwa [show(J I v.2.1 0).1=1 from h.root.1] at this,h.root.2⟩
def lE(l:List aL)(id:Int):Prop:=∃i,bl l id=some i∧kindOf (J I l i)=2
def bY(r:aJ.D):Int:=r.1
def nameOf(r:aJ.D):aF:=r.2.1
def bb(r:aJ.D):Int:=r.2.2.1
def bI(r:aJ.D):Int:=r.2.2.2.1
structure lF(l:List aL)(r:aJ.D):Prop where
 there:bI r=0→∃i,bl l (bb r)=some i
 named:bI r=0→nameOf r≠[]→bb r≠0∧hU (nameOf r)=true∧∃d,bl l (bY r)=some d∧kindOf (J I l d)=2∧dE (ak (J I l d)) (nameOf r)=bb r
 bare:bI r=0→nameOf r=[]→lE l (bb r)
 new:bI r=2→nameOf r≠[]→bb r=0∧hU (nameOf r)=true∧∃d,bl l (bY r)=some d∧kindOf (J I l d)=2∧dE (ak (J I l d)) (nameOf r)=0
theorem agm(l:List aL){c:Int}(h0:c≠0)(a b:Int)(h2:c≠2∨True):lF l ((0:Int),([]:aF),(0:Int),c,()) :=
 ⟨fun h=>absurd h h0,fun h=>absurd h h0,fun h=>absurd h h0,fun _ h=>absurd rfl h⟩
def sj(bZ:Bool)(l:List aL)(r:aJ.D):Prop:=lF l r∧(bZ=true→bI r=0→∀i,bl l (bb r)=some i→kindOf (J I l i)≠3)
theorem xa(bZ:Bool)(l:List aL){c:Int}(h0:c≠0)(a b:Int)(h2:c≠2∨True):sj bZ l ((0:Int),([]:aF),(0:Int),c,()):=⟨agm l h0 a b h2,fun _ h=>absurd h h0⟩
theorem FO{l:List aL}(h:pz l)(id:Int):lE l (jZ l id):=by
 unfold jZ
 cases au:FI l id with
 | none=>exact h.root
 | some i =>
  obtain ⟨h1,h2,_⟩:=hT.1 au
  refine⟨i,h.fO i h1,?_⟩
  by_cases hk:kindOf (J I l i)=2
  ·exact hk
  ·have:=h.bare i h1 hk
   rw [this] at h2
   simp [px,e7] at h2
theorem qQ{N:List aw.D}{s:aF}(h:dE N s≠0):∃d,d∈N∧d.1=s∧d.2.1=dE N s:=by
 unfold dE at h ⊢
 cases hf:e7 N.length (qP N s) with
 | none=>rw [hf] at h;exact absurd rfl h
 | some j =>
  obtain ⟨h1,h2,_⟩:=hT.1 hf
  exact⟨J aw N j,cE h1,by unfold qP br at h2;simpa using h2,rfl⟩
theorem agn{p:aF}(h:zT p)(h1:br p [46]=false)(h2:br p [46,46]=false)(c3:p.length≤8):hU p=true:=by
 have hl:1≤p.length:=by
  rcases Nat.eq_zero_or_pos p.length with h0 | h0
  ·exact absurd (List.length_eq_zero_iff.1 h0) h.1
  ·exact h0
 unfold hU
 rw [h1,h2,kK.2 (fun i hi=>h.2 i hi),dJ.2 ⟨by omega,by omega⟩];rfl
theorem ago{L:List aF}{a c:Nat}(h:0<c)(hl:a+c≤L.length):J ae.str L a∈part L a c:=by
 unfold part
 have h1:a<L.length:=by omega
 rw [List.drop_eq_getElem_cons h1,show c=(c-1)+1 by omega,List.take_succ_cons,c7 (t:=.str) h1]
 exact List.mem_cons_self
theorem agp{L:List aF}{a c:Nat} : ∀p,p∈part L (a+1) (c-1)→p∈part L a c:=by
 intro p au
 unfold part at *
 rcases Nat.eq_zero_or_pos c with h | h
 ·subst h;simp at au
 ·rcases Nat.lt_or_ge a L.length with h1 | h1
  ·rw [List.drop_eq_getElem_cons h1,show c=(c-1)+1 by omega,List.take_succ_cons]
   exact List.mem_cons_of_mem _ au
  ·rw [List.drop_of_length_le (by omega)] at au;simp at au
theorem FP{s:aF}(h:jd s=true):1≤s.length∧s.length≤60:=by
 unfold jd at h
 rw [Bool.and_eq_true] at h
 have:=dJ.1 h.2
 omega
theorem ns(m:Nat)(U aa ad ai an aB a_ bP cA):(e5 (m+1)).bh U aa ad ai an aB a_ bP cA=lA (e5 m) U aa ad ai an aB a_ bP cA:=rfl
theorem FQ(m:Nat)(U aa ad ai an aB a_ bP cA eX kf kg jQ):(e5 (m+1)).rI U aa ad ai an aB a_ bP cA eX kf kg jQ=wx (e5 m) U aa ad ai an aB a_ bP cA eX kf kg jQ:=rfl
theorem Vr(m:Nat)(U aa ad ai an aB a_ bP cA eX):(e5 (m+1)).jw U aa ad ai an aB a_ bP cA eX=Cy (e5 m) U aa ad ai an aB a_ bP cA eX:=rfl
theorem Vs(m:Nat)(U aa ad ai an aB a_ bP cA eX kf kg jQ):(e5 (m+1)).yG U aa ad ai an aB a_ bP cA eX kf kg jQ=Cz (e5 m) U aa ad ai an aB a_ bP cA eX kf kg jQ:=rfl
theorem Vt(m:Nat)(U aa ad ai an aB a_ bP cA eX):(e5 (m+1)).o9 U aa ad ai an aB a_ bP cA eX=CA (e5 m) U aa ad ai an aB a_ bP cA eX:=rfl
theorem mx(x:aL):J I [x] 0=x:=rfl
theorem b2.jump{β : Type}{f g:Nat → β}{B:Nat}(k:Nat){y : β}(h:b2 g B y)(hf:∀m,f (m+k)=g m):b2 f (B+k) y:=by
 intro m hm
 obtain ⟨j,rfl⟩:∃j,m=j+k:=⟨m-k,by omega⟩
 rw [hf];exact h j (by omega)
theorem b2.now{β : Type}{f:Nat → β}(k:Nat){y : β}(hf:∀m,f (m+k)=y):b2 f k y:=by
 intro m hm
 obtain ⟨j,rfl⟩:∃j,m=j+k:=⟨m-k,by omega⟩
 exact hf j
theorem agq(v:af.D)(c:aH.D)(hw:pz v.2.1)(hc:dm c=true)(bZ:Bool)(z:aJ.D):∀(n:Nat) (at_:Int) (k:Nat) (L:List aF) (a cT:Nat),(8-k)*100+cT≤n→k≤8→a+cT≤L.length→cT≤100→(∀p,p∈part L a cT→zT p)→lE v.2.1 at_ →
  ∃r,sj bZ v.2.1 r∧b2 (fun m=>f_ m v bZ a cT at_ (k:Int) c z L) (n+2) (some (r,()))∧b2 (fun m=>(e5 m).bh bZ a cT at_ (k:Int) v c z L) (5*n+5) (some (r,())):=by
 intro n
 induction n with
 | zero =>
  intro at_ k L a cT hn hk hl agr au cl
  have h0:cT=0:=by omega
  subst h0
  obtain ⟨d,ag,fP⟩:=cl
  refine⟨((0:Int),([]:aF),at_,(0:Int),()),⟨⟨fun _=>⟨d,ag⟩,fun _ h=>absurd rfl h,fun _ _=>⟨d,ag,fP⟩,fun _ h=>absurd rfl h⟩,fun _ _ e he=>by rw [show bb (((0:Int),([]:aF),at_,(0:Int),()):aJ.D)=at_ from rfl,ag] at he;rw [← aV he,fP];decide⟩,(b2.now 1 fun m=>?_).mono (by omega),(b2.now 1 fun m=>?_).mono (by omega)⟩
  ·simp only [f_,lC];rfl
  ·rw [ns];unfold lA;rfl
 | succ n ih =>
  intro at_ k L a cT hn hk hl agr au cl
  rcases Nat.eq_zero_or_pos cT with h0 | h0
  ·subst h0
   obtain ⟨d,ag,fP⟩:=cl
   refine⟨((0:Int),([]:aF),at_,(0:Int),()),⟨⟨fun _=>⟨d,ag⟩,fun _ h=>absurd rfl h,fun _ _=>⟨d,ag,fP⟩,fun _ h=>absurd rfl h⟩,fun _ _ e he=>by rw [show bb (((0:Int),([]:aF),at_,(0:Int),()):aJ.D)=at_ from rfl,ag] at he;rw [← aV he,fP];decide⟩,(b2.now 1 fun m=>?_).mono (by omega),(b2.now 1 fun m=>?_).mono (by omega)⟩
   ·simp only [f_,lC];rfl
   ·rw [ns];unfold lA;rfl
  obtain ⟨d,ag,fP⟩:=cl
  have hdl:=bS ag
  have hR:(ak (J I v.2.1 d)).length≤1048576:=Nat.le_trans (fM hdl.1) hw.cH
  have mZ:=au _ (ago h0 hl)
  have fE:∀p,p∈part L (a+1) (cT-1)→zT p:=fun p h=>au p (agp p h)
  have fN:aN cT 0=some 0:=bw (i:=0) h0
  have hY:dZ cT 1 (cT:Int)=some (1,cT):=kp (lo:=1) h0 (Nat.le_refl _)
  have fK:decide ((cT:Int)>0)=true:=decide_eq_true (by omega)
  have hy:=mu v at_ hw.len ag
  have nt:=zQ c (J I v.2.1 d) 1 hc
  have pA:=pt c (J I v.2.1 d) 1 hc
  have ags:=U' v at_ hw.len hw.cH
  have agt:=U_ v at_ hw.len hw.cH
  have pB:kd (v,at_,())=some ((d:Int),()):=by rw [nn v at_ hw.len,ag];rfl
  have pC:aN v.2.1.length (d:Int)=some d:=bw hdl.1
  have sk:=U9 (J I v.2.1 d) (J ae.str L a) hR
  have xb:=af6 v at_ (J ae.str L a) hw.len ag hR
  cases hm:may c (J I v.2.1 d) 1 with
  | false =>
   refine⟨((0:Int),([]:aF),(0:Int),(13:Int),()),xa bZ _ (by decide) 0 0 (.inr trivial),(b2.now 1 fun m=>?_).mono (by omega),(b2.now 1 fun m=>?_).mono (by omega)⟩
   ·rw [f_,lC]
    simp -index only [fK,fN,hY,hy,mx,nt,hm,cond_true,cond_false,av,Bool.not_true,Bool.not_false,List.isEmpty_cons]
   ·rw [ns];unfold lA
    simp only [fK,fN,hY,pB,pC,pA,hm,cond_true,cond_false,av,Bool.not_true,Bool.not_false]
  | true =>
  cases h1:br (J ae.str L a) [46] with
  | true =>
   obtain ⟨r,bB,cc,gG⟩:=ih at_ k L (a+1) (cT-1) (by omega) hk (by omega) (by omega) fE ⟨d,ag,fP⟩
   refine⟨r,bB,(cc.jump (f:=fun m=>f_ m v bZ a cT at_ (k:Int) c z L) 1 fun m=>?_).mono (by omega),(gG.jump (f:=fun m=>(e5 m).bh bZ a cT at_ (k:Int) v c z L) 1 fun m=>?_).mono (by omega)⟩
   ·rw [f_,lC]
    simp -index only [fK,fN,hY,hy,mx,nt,hm,h1,cond_true,cond_false,av,Bool.not_true,Bool.not_false,List.isEmpty_cons,Nat.add_zero]
   ·rw [ns];unfold lA
    simp only [fK,fN,hY,pB,pC,pA,hm,h1,cond_true,cond_false,av,Bool.not_true,Bool.not_false,Nat.add_zero]
  | false =>
  cases h2:br (J ae.str L a) [46,46] with
  | true =>
   obtain ⟨r,bB,cc,gG⟩:=ih (jZ v.2.1 at_) k L (a+1) (cT-1) (by omega) hk (by omega) (by omega) fE (FO hw _)
   refine⟨r,bB,(cc.jump (f:=fun m=>f_ m v bZ a cT at_ (k:Int) c z L) 1 fun m=>?_).mono (by omega),(gG.jump (f:=fun m=>(e5 m).bh bZ a cT at_ (k:Int) v c z L) 1 fun m=>?_).mono (by omega)⟩
   ·rw [f_,lC]
    simp -index only [fK,fN,hY,hy,mx,nt,hm,h1,h2,ags,cond_true,cond_false,av,Bool.not_true,Bool.not_false,List.isEmpty_cons,Nat.add_zero]
   ·rw [ns];unfold lA
    simp only [fK,fN,hY,pB,pC,pA,hm,h1,h2,agt,cond_true,cond_false,av,Bool.not_true,Bool.not_false,Nat.add_zero]
  | false =>
  cases c3:decide (((J ae.str L a).length:Int)>8) with
  | true =>
   refine⟨((0:Int),([]:aF),(0:Int),(36:Int),()),xa bZ _ (by decide) 0 0 (.inr trivial),(b2.now 1 fun m=>?_).mono (by omega),(b2.now 1 fun m=>?_).mono (by omega)⟩
   ·rw [f_,lC]
    simp -index only [fK,fN,hY,hy,mx,nt,hm,h1,h2,c3,cond_true,cond_false,av,Bool.not_true,Bool.not_false,List.isEmpty_cons,Nat.add_zero]
   ·rw [ns];unfold lA
    simp only [fK,fN,hY,pB,pC,pA,hm,h1,h2,c3,cond_true,cond_false,av,Bool.not_true,Bool.not_false,Nat.add_zero]
  | false =>
  have iL:hU (J ae.str L a)=true:=agn mZ h1 h2 (by
   have:=of_decide_eq_false c3
   have h:¬((J ae.str L a).length:Int)>8:=this
   omega)
  cases iP:dE (ak (J I v.2.1 d)) (J ae.str L a)==0 with
  | true =>
   cases hB:((cT-1:Nat):Int)==0 with
   | true =>
    refine⟨(at_,J ae.str L a,(0:Int),(2:Int),()),⟨⟨fun h=>(by cases h),fun h=>(by cases h),fun h=>(by cases h),fun _ _=>⟨rfl,iL,d,ag,fP,beq_iff_eq.1 iP⟩⟩,fun _ h=>(by cases h)⟩,(b2.now 1 fun m=>?_).mono (by omega),(b2.now 1 fun m=>?_).mono (by omega)⟩
    ·rw [f_,lC]
     simp -index only [fK,fN,hY,hy,mx,nt,hm,h1,h2,c3,sk,iP,hB,cond_true,cond_false,av,Bool.not_true,Bool.not_false,List.isEmpty_cons,Nat.add_zero]
    ·rw [ns];unfold lA
     simp only [fK,fN,hY,pB,pC,pA,hm,h1,h2,c3,xb,iP,hB,cond_true,cond_false,av,Bool.not_true,Bool.not_false,Nat.add_zero]
   | false =>
    refine⟨((0:Int),([]:aF),(0:Int),(2:Int),()),⟨⟨fun h=>(by cases h),fun h=>(by cases h),fun h=>(by cases h),fun _ h=>absurd rfl h⟩,fun _ h=>(by cases h)⟩,(b2.now 1 fun m=>?_).mono (by omega),(b2.now 1 fun m=>?_).mono (by omega)⟩
    ·rw [f_,lC]
     simp -index only [fK,fN,hY,hy,mx,nt,hm,h1,h2,c3,sk,iP,hB,cond_true,cond_false,av,Bool.not_true,Bool.not_false,List.isEmpty_cons,Nat.add_zero]
    ·rw [ns];unfold lA
     simp only [fK,fN,hY,pB,pC,pA,hm,h1,h2,c3,xb,iP,hB,cond_true,cond_false,av,Bool.not_true,Bool.not_false,Nat.add_zero]
  | false =>
  obtain ⟨e,he,Vu,qa⟩:=qQ (N:=ak (J I v.2.1 d)) (s:=J ae.str L a) (by simpa using iP)
  obtain ⟨i2,gr⟩:=Option.isSome_iff_exists.1 (hw.hp d hdl.1 e he)
  rw [qa] at gr
  have uU:=bS gr
  have xc:=mu v _ hw.len gr
  have FR:kd (v,dE (ak (J I v.2.1 d)) (J ae.str L a),())=some ((i2:Int),()):=by rw [nn v _ hw.len,gr];rfl
  have FT:aN v.2.1.length (i2:Int)=some i2:=bw uU.1
  have Vv:((J I v.2.1 i2).2.1==3)=true→(!(((cT-1:Nat):Int)==0)||bZ)=true→∃r,sj bZ v.2.1 r∧b2 (fun m=>f_ m v bZ a cT at_ (k:Int) c z L) (n+1+2) (some (r,()))∧b2 (fun m=>(e5 m).bh bZ a cT at_ (k:Int) v c z L) (5*(n+1)+5) (some (r,())):=by
   intro ji lG
   have Vw:=hw.mw i2 uU.1 (beq_iff_eq.1 ji)
   have xd:=FP Vw
   have xe:aN ((J I v.2.1 i2).2.2.2.2.2.1).length 0=some 0:=bw (i:=0) xd.1
   have FU:r4 ((J I v.2.1 i2).2.2.2.2.2.1,())=some (cut (bM (J I v.2.1 i2)),()):=Vj _ (Nat.le_trans xd.2 (by omega))
   have Vx:yF ((J I v.2.1 i2).2.2.2.2.2.1,())=some (cut (bM (J I v.2.1 i2)),()):=Vf _ (Nat.le_trans xd.2 (by omega))
   have hcl:=Vk (bM (J I v.2.1 i2))
   have fI:(part L (a+1) (cT-1)).length≤100:=by unfold part;rw [List.length_take];omega
   have hroom:room ((cut (bM (J I v.2.1 i2))).length +(part L (a+1) (cT-1)).length)=true:=cG (by omega)
   have iH:=Vl Vw
   generalize uV:cut (bM (J I v.2.1 i2))++part L (a+1) (cT-1)=kk at *
   have agu:∀p,p∈kk→zT p:=by
    intro p nP
    rw [← uV] at nP
    rcases List.mem_append.1 nP with h | h
    ·exact iH p h
    ·exact fE p h
   obtain ⟨at',agv,qR,qS⟩:∃at',lE v.2.1 at'∧(∀m,f_ (m+1) v bZ a cT at_ (k:Int) c z L=cond ((k:Int)==8) (some (((0:Int),([]:aF),(0:Int),(40:Int),()),()))
      (cond (decide ((kk.length:Int)>40)) (some (((0:Int),([]:aF),(0:Int),(36:Int),()),())) (f_ m v bZ 0 kk.length at' (aG ((k:Int)+1)) c z kk))) ∧
     ∀m,(e5 (m+4)).bh bZ a cT at_ (k:Int) v c z L=cond (decide (aG ((k:Int)+1)>8)) (some (((0:Int),([]:aF),(0:Int),(40:Int),()),()))
      (cond (decide ((kk.length:Int)>40)) (some (((0:Int),([]:aF),(0:Int),(36:Int),()),())) ((e5 m).bh bZ 0 kk.length at' (aG ((k:Int)+1)) v c z kk)):=by
    cases hb:((((J I v.2.1 i2).2.2.2.2.2.1).getD 0 0).toNat:Int)==47 with
    | false =>
     refine⟨at_,⟨d,ag,fP⟩,fun m=>?_,fun m=>?_⟩
     ·rw [f_,lC]
      cases hB:((cT-1:Nat):Int)==0 with
      | false =>
       simp -index only [fK,fN,hY,hy,mx,nt,hm,h1,h2,c3,sk,iP,xc,ji,hB,xe,hb,FU,hroom,uV,R_,cond_true,cond_false,av,Bool.not_true,Bool.not_false,List.isEmpty_cons,Nat.add_zero]
      | true =>
       rw [hB] at lG
       have lG:bZ=true:=lG
       simp -index only [fK,fN,hY,hy,mx,nt,hm,h1,h2,c3,sk,iP,xc,ji,hB,lG,xe,hb,FU,hroom,uV,Sa,cond_true,cond_false,av,Bool.not_true,Bool.not_false,List.isEmpty_cons,Nat.add_zero]
     ·rw [ns];unfold lA
      simp only [fK,fN,hY,pB,pC,pA,hm,h1,h2,c3,xb,iP,lx,FR,FT,cond_true,cond_false,av,Bool.not_true,Bool.not_false,Nat.add_zero]
      rw [FQ];unfold wx
      have:(cond (!(((cT-1:Nat):Int)==0)) ((e5 (m+2)).jw bZ (a+1) (cT-1) at_ (k:Int) v c z L (J I v.2.1 i2)) (cond bZ ((e5 (m+2)).jw bZ (a+1) (cT-1) at_ (k:Int) v c z L (J I v.2.1 i2)) ((e5 (m+2)).yG bZ (a+1) (cT-1) at_ (k:Int) (J ae.str L a) (((cT-1:Nat):Int)==0) (dE (ak (J I v.2.1 d)) (J ae.str L a)) v c z L (J I v.2.1 i2))))=(e5 (m+2)).jw bZ (a+1) (cT-1) at_ (k:Int) v c z L (J I v.2.1 i2):=by
       revert lG
       cases ((cT-1:Nat):Int)==0 <;> cases bZ <;> intro lG <;> first | rfl | cases lG
      rw [ji]
      simp only [cond_true]
      refine this.trans ?_
      rw [Vr];unfold Cy
      rw [xe]
      simp only [av,hb,cond_false]
      rw [Vt];unfold CA
      rw [Vx]
      simp only [av,hroom,cond_true,uV]
    | true =>
     refine⟨1,hw.root,fun m=>?_,fun m=>?_⟩
     ·rw [f_,lC]
      cases hB:((cT-1:Nat):Int)==0 with
      | false =>
       simp -index only [fK,fN,hY,hy,mx,nt,hm,h1,h2,c3,sk,iP,xc,ji,hB,xe,hb,FU,hroom,uV,R9,cond_true,cond_false,av,Bool.not_true,Bool.not_false,List.isEmpty_cons,Nat.add_zero]
      | true =>
       rw [hB] at lG
       have lG:bZ=true:=lG
       simp -index only [fK,fN,hY,hy,mx,nt,hm,h1,h2,c3,sk,iP,xc,ji,hB,lG,xe,hb,FU,hroom,uV,R',cond_true,cond_false,av,Bool.not_true,Bool.not_false,List.isEmpty_cons,Nat.add_zero]
     ·rw [ns];unfold lA
      simp only [fK,fN,hY,pB,pC,pA,hm,h1,h2,c3,xb,iP,lx,FR,FT,cond_true,cond_false,av,Bool.not_true,Bool.not_false,Nat.add_zero]
      rw [FQ];unfold wx
      have:(cond (!(((cT-1:Nat):Int)==0)) ((e5 (m+2)).jw bZ (a+1) (cT-1) at_ (k:Int) v c z L (J I v.2.1 i2)) (cond bZ ((e5 (m+2)).jw bZ (a+1) (cT-1) at_ (k:Int) v c z L (J I v.2.1 i2)) ((e5 (m+2)).yG bZ (a+1) (cT-1) at_ (k:Int) (J ae.str L a) (((cT-1:Nat):Int)==0) (dE (ak (J I v.2.1 d)) (J ae.str L a)) v c z L (J I v.2.1 i2))))=(e5 (m+2)).jw bZ (a+1) (cT-1) at_ (k:Int) v c z L (J I v.2.1 i2):=by
       revert lG
       cases ((cT-1:Nat):Int)==0 <;> cases bZ <;> intro lG <;> first | rfl | cases lG
      rw [ji]
      simp only [cond_true]
      refine this.trans ?_
      rw [Vr];unfold Cy
      rw [xe]
      simp only [av,hb,cond_true]
      rw [Vt];unfold CA
      rw [Vx]
      simp only [av,hroom,cond_true,uV]
   have cn:aG ((k:Int)+1)=((k+1:Nat):Int):=df k (by omega)
   rw [cn] at qR qS
   rcases Nat.lt_or_ge k 8 with agw | agw
   ·rw [show((k:Int)==8)=false by simp;omega] at qR
    rw [show decide (((k+1:Nat):Int)>8)=false from decide_eq_false (by omega)] at qS
    simp only [cond_false] at qR qS
    cases FV:decide ((kk.length:Int)>40) with
    | true =>
     rw [FV] at qR qS
     refine⟨((0:Int),([]:aF),(0:Int),(36:Int),()),xa bZ _ (by decide) 0 0 (.inr trivial),(b2.now 1 fun m=>qR m).mono (by omega),(b2.now 4 fun m=>qS m).mono (by omega)⟩
    | false =>
     rw [FV] at qR qS
     have FV:=of_decide_eq_false FV
     obtain ⟨r,bB,cc,gG⟩:=ih at' (k+1) kk 0 kk.length (by omega) (by omega) (by omega) (by omega) (by rw [Uz];exact agu) agv
     exact⟨r,bB,(cc.jump (f:=fun m=>f_ m v bZ a cT at_ (k:Int) c z L) 1 fun m=>qR m).mono (by omega),(gG.jump (f:=fun m=>(e5 m).bh bZ a cT at_ (k:Int) v c z L) 4 fun m=>qS m).mono (by omega)⟩
   ·rw [show((k:Int)==8)=true by simp;omega] at qR
    rw [show decide (((k+1:Nat):Int)>8)=true from decide_eq_true (by omega)] at qS
    refine⟨((0:Int),([]:aF),(0:Int),(40:Int),()),xa bZ _ (by decide) 0 0 (.inr trivial),(b2.now 1 fun m=>qR m).mono (by omega),(b2.now 4 fun m=>qS m).mono (by omega)⟩
  have bO:(bZ=true→kindOf (J I v.2.1 i2)≠3)→(∀m,f_ (m+1) v bZ a cT at_ (k:Int) c z L=cond (((cT-1:Nat):Int)==0) (some ((at_,J ae.str L a,dE (ak (J I v.2.1 d)) (J ae.str L a),(0:Int),()),()))
     (cond ((J I v.2.1 i2).2.1 != 2) (some (((0:Int),([]:aF),(0:Int),(20:Int),()),())) (f_ m v bZ (a+1) (cT-1) (dE (ak (J I v.2.1 d)) (J ae.str L a)) (k:Int) c z L))) →
    (∀m,(e5 (m+3)).bh bZ a cT at_ (k:Int) v c z L=cond (((cT-1:Nat):Int)==0) (some ((at_,J ae.str L a,dE (ak (J I v.2.1 d)) (J ae.str L a),(0:Int),()),()))
     (cond ((J I v.2.1 i2).2.1 != 2) (some (((0:Int),([]:aF),(0:Int),(20:Int),()),())) ((e5 m).bh bZ (a+1) (cT-1) (dE (ak (J I v.2.1 d)) (J ae.str L a)) (k:Int) v c z L))) →
    ∃r,sj bZ v.2.1 r∧b2 (fun m=>f_ m v bZ a cT at_ (k:Int) c z L) (n+1+2) (some (r,()))∧b2 (fun m=>(e5 m).bh bZ a cT at_ (k:Int) v c z L) (5*(n+1)+5) (some (r,())):=by
   intro hnl g1 g2
   cases hB:((cT-1:Nat):Int)==0 with
   | true =>
    refine⟨(at_,J ae.str L a,dE (ak (J I v.2.1 d)) (J ae.str L a),(0:Int),()),⟨⟨fun _=>⟨i2,gr⟩,fun _ _=>⟨beq_eq_false_iff_ne.1 iP,iL,d,ag,fP,rfl⟩,fun _ h=>absurd h mZ.1,fun h=>(by cases h)⟩,fun hf _ e he=>by rw [show bb ((at_,J ae.str L a,dE (ak (J I v.2.1 d)) (J ae.str L a),(0:Int),()):aJ.D)=dE (ak (J I v.2.1 d)) (J ae.str L a) from rfl,gr] at he;rw [← aV he];exact hnl hf⟩,(b2.now 1 fun m=>?_).mono (by omega),(b2.now 3 fun m=>?_).mono (by omega)⟩
    ·rw [g1,hB];rfl
    ·rw [g2,hB];rfl
   | false =>
    rw [hB] at g1 g2
    simp only [cond_false] at g1 g2
    by_cases hk2:kindOf (J I v.2.1 i2)=2
    ·obtain ⟨r,bB,cc,gG⟩:=ih (dE (ak (J I v.2.1 d)) (J ae.str L a)) k L (a+1) (cT-1) (by omega) hk (by omega) (by omega) fE ⟨i2,gr,hk2⟩
     refine⟨r,bB,(cc.jump (f:=fun m=>f_ m v bZ a cT at_ (k:Int) c z L) 1 fun m=>?_).mono (by omega),(gG.jump (f:=fun m=>(e5 m).bh bZ a cT at_ (k:Int) v c z L) 3 fun m=>?_).mono (by omega)⟩
     ·rw [g1,dC (show(J I v.2.1 i2).2.1=2 from hk2)];rfl
     ·rw [g2,dC (show(J I v.2.1 i2).2.1=2 from hk2)];rfl
    ·refine⟨((0:Int),([]:aF),(0:Int),(20:Int),()),xa bZ _ (by decide) 0 0 (.inr trivial),(b2.now 1 fun m=>?_).mono (by omega),(b2.now 3 fun m=>?_).mono (by omega)⟩
     ·rw [g1,cY (show ¬(J I v.2.1 i2).2.1=2 from hk2)];rfl
     ·rw [g2,cY (show ¬(J I v.2.1 i2).2.1=2 from hk2)];rfl
  cases ji:(J I v.2.1 i2).2.1==3 with
  | true =>
   cases hB:((cT-1:Nat):Int)==0 with
   | false=>exact Vv ji (by rw [hB];rfl)
   | true =>
    cases bZ with
    | true=>exact Vv ji (by rw [hB];rfl)
    | false =>
     refine bO (fun h=>by cases h) (fun m=>?_) (fun m=>?_)
     ·rw [f_,lC]
      simp -index only [fK,fN,hY,hy,mx,nt,hm,h1,h2,c3,sk,iP,xc,ji,hB,cond_true,cond_false,av,Bool.not_true,Bool.not_false,List.isEmpty_cons,Nat.add_zero]
     ·rw [ns];unfold lA
      simp only [fK,fN,hY,pB,pC,pA,hm,h1,h2,c3,xb,iP,lx,FR,FT,hB,cond_true,cond_false,av,Bool.not_true,Bool.not_false,Nat.add_zero]
      rw [FQ];unfold wx
      simp only [ji,cond_true,cond_false,Bool.not_true,Bool.not_false]
      rw [Vs];unfold Cz;rfl
  | false =>
   refine bO (fun _=>beq_eq_false_iff_ne.1 ji) (fun m=>?_) (fun m=>?_)
   ·rw [f_,lC]
    simp -index only [fK,fN,hY,hy,mx,nt,hm,h1,h2,c3,sk,iP,xc,ji,cond_true,cond_false,av,Bool.not_true,Bool.not_false,List.isEmpty_cons,Nat.add_zero]
   ·rw [ns];unfold lA
    simp only [fK,fN,hY,pB,pC,pA,hm,h1,h2,c3,xb,iP,lx,FR,FT,cond_true,cond_false,av,Bool.not_true,Bool.not_false,Nat.add_zero]
    rw [FQ];unfold wx
    simp only [ji,cond_true,cond_false]
    rw [Vs];unfold Cz;rfl
theorem Vy(v:af.D)(c:aH.D)(path:aF)(bZ:Bool)(hw:pz v.2.1)(hc:dm c=true)(au:pw path=true) :
  ∃r,sj bZ v.2.1 r∧KC (v,c,path,bZ,())=some (r,())∧yH (v,c,path,bZ,())=some (r,()):=by
 unfold pw at au
 rw [Bool.and_eq_true] at au
 have xd:=FP au.1
 have hcl:=Vk path
 obtain ⟨r,bB,cc,gG⟩:=agq v c hw hc bZ ((0:Int),([]:aF),(0:Int),(0:Int),()) 900 1 0 (cut path) 0 (cut path).length (by omega) (by omega) (by omega) (by omega) (by rw [Uz];exact Vl au.1) hw.root
 refine⟨r,bB,?_,?_⟩
 ·show Eg (f_ aR) v c path bZ=_
  unfold Eg
  rw [Vj path (by omega)]
  exact kM cc (by omega)
 ·show Cx (e5 aR) v c path bZ=_
  unfold Cx
  rw [Vf path (by omega)]
  exact kM gG (by omega)
end Go.LM.kc
