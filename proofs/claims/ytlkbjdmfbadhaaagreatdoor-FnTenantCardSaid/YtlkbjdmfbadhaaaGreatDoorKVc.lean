/- Volumes: both sides are the same plain functions. Conditions: each theorem's own hypotheses. -/
import Derived.Test.YtlkbjdmfbadhaaaGreatDoorKLmd
import Derived.Test.YtlkbjdmfbadhaaaGreatDoorKVa
set_option linter.unusedVariables false
set_option linter.unusedSimpArgs false
namespace Go.LM
theorem jM:aN=18446744073709551616:=by unfold aN;rfl
theorem b9{i n:Nat}(h:i<n):decide ((i:Int)<(n:Int))=true:=by simp;omega
theorem cA{i n:Nat}(h:n≤i):decide ((i:Int)<(n:Int))=false:=by simp;omega
theorem o_{p:Prop}[Decidable p](h:¬p):decide p=false:=by simp [h]
theorem qg{p:Prop}[Decidable p](h:p):decide p=true:=by simp [h]
theorem fuel{k m:Nat}(h:k<m):∃q,m=q+1∧k≤q:=⟨m-1,by omega,by omega⟩
mutual
def ae.cost:(t:ae)→t.D→Nat
 | .raw,_=>0
 | .int _,_=>0
 | .bool,_=>0
 | .str,x=>List.length x
 | .sl t,xs=>List.length xs +(xs.map fun y=>t.cost y).sum
 | .st ak,x=>ak.cost x
def aC.cost:(ak:aC)→ak.D→Nat
 | .nil,_=>0
 | .cons t ak,x=>t.cost x.1+ak.cost x.2
end
mutual
def ae.wt:(t:ae)→t.D→Nat
 | .raw,_=>1
 | .int _,_=>1
 | .bool,_=>1
 | .str,_=>1
 | .sl t,xs=>(xs.map fun y=>t.wt y).sum
 | .st ak,x=>ak.wt x
def aC.wt:(ak:aC)→ak.D→Nat
 | .nil,_=>0
 | .cons t ak,x=>t.wt x.1+ak.wt x.2
end
theorem YG{α : Type}{f : α → Nat}{y : α} : ∀ {l:List α},y∈l→f y≤(l.map f).sum
 | x :: l,h=>by
  rcases List.mem_cons.1 h with rfl | h
  ·simp
  ·have:=YG (f:=f) h;simp;omega
theorem H9{t:ae}(l:List t.D):l.length≤ae.cost (.sl t) l:=by simp only [ae.cost];omega
theorem ak3{t:ae}{l:List t.D}{i:Nat}(h:i<l.length):I t l i∈l:=by rw [tZ h];exact List.getElem_mem h
theorem ak4{t:ae}{l:List t.D}{i:Nat}(h:i<l.length):l.length+t.cost (I t l i)≤ae.cost (.sl t) l:=by simp only [ae.cost];have:=YG (f:=fun y=>t.cost y) (ak3 h);omega
theorem drop_cons{t:ae}{l:List t.D}{i:Nat}(h:i<l.length):l.drop i=I t l i :: l.drop (i+1):=by rw [tZ h];exact List.drop_eq_getElem_cons h
theorem H_{t:ae}{x:List t.D} : ae.cost (.sl t) x=x.length +(x.map fun y=>t.cost y).sum:=by simp only [ae.cost]
theorem yF{ak:aC}{x:ak.D} : ae.cost (.st ak) x=ak.cost x:=by simp only [ae.cost]
theorem yG{t:ae}{ak:aC}{x:(aC.cons t ak).D} : aC.cost (.cons t ak) x=t.cost x.1+ak.cost x.2:=by simp only [aC.cost]
theorem yH{x:aC.nil.D} : aC.cost .nil x=0:=by simp only [aC.cost]
theorem yI{k:IntKind}{x:Int} : ae.cost (.int k) x=0:=by simp only [ae.cost]
theorem YH{x:Bool} : ae.cost .bool x=0:=by simp only [ae.cost]
theorem PI{x:List UInt8} : ae.cost .str x=x.length:=by simp only [ae.cost]
section
variable{mt:Int→List UInt8}{k k':Int}
end
theorem Bx{α : Type}{f g : α → Nat}(M:Nat):∀(l:List α),(∀y,y∈l→f y≤M*(1+g y))→(l.map f).sum≤M*(l.length +(l.map g).sum)
 | [],_=>by simp
 | y :: l,h=>by
  have h1:=h y List.mem_cons_self;have h2:=Bx M l fun z hz=>h z (List.mem_cons_of_mem _ hz)
  simp only [List.map_cons,List.sum_cons,List.length_cons];have:M*(l.length+1 +(g y +(l.map g).sum))=M*(1+g y)+M*(l.length +(l.map g).sum):=by rw [← Nat.mul_add];congr 1;omega
  omega
theorem ak5{t:ae}(h:∀y,t.cost y=0)(x:List t.D):ae.cost (.sl t) x=x.length:=by
 simp only [ae.cost]
 induction x with
 | nil=>rfl
 | cons y x ih=>simp only [List.map_cons,List.sum_cons,List.length_cons,h y];omega
theorem jN{n:Nat}(h:n≤4611686018427387904):n<aN:=by rw [jM];omega
theorem m5{β : Type}(n:Nat)(hn:n≤4611686018427387904)(L:Nat→Int → β)(G:Nat → β)(Inv:Nat→Prop)
  (h0:∀m,Inv n→L (m+1) (n:Int)=G n)
  (hs:∀m (i:Nat),i<n→Inv i→aH ((i:Int)+1)=(i:Int)+1→(Inv (i+1)→L m ((i:Int)+1)=G (i+1))→L (m+1) (i:Int)=G i) :
  ∀(r i m:Nat),i+r=n→r<m→Inv i→L m (i:Int)=G i:=by
 intro r
 induction r with
 | zero=>
  intro i m hi hm hv;obtain ⟨m,rfl,_⟩:=fuel hm;have:i=n:=by omega
  subst this;exact h0 m hv
 | succ r ih=>
  intro i m hi hm hv;obtain ⟨m,rfl,hq⟩:=fuel hm;refine hs m i (by omega) hv (tY (by omega) (by omega)) fun lV=>?_
  have:=ih (i+1) m (by omega) (by omega) lV;simpa only [Int.natCast_add,Int.cast_ofNat_Int] using this
theorem iS(k:Nat)(h:k≤1000:=by omega):∃q,aN=q+k∧4611686018427387904<q:=⟨aN-k,by rw [jM];omega,by rw [jM];omega⟩
theorem kW{α : Type}(a:Bool)(x y : α):cond a (some (x,())) (some (y,()))=some (cond a x y,()):=by cases a <;> rfl
def cz(x lo hi:Int):Bool:=decide (lo≤x)&&decide (x≤hi)
theorem di{x lo hi:Int} : cz x lo hi=true↔lo≤x∧x≤hi:=by simp [cz]
theorem By(a b:Bool):cond a b false=(a&&b):=by cases a <;> rfl
theorem ak6(a b:Int):j0 a b=min a b:=by unfold j0;omega
theorem YI{s:List UInt8} : bD s []=decide (s.length=0):=by cases s <;> simp [bD]
theorem dj{x y:Int}(h:x≠y):(x != y)=true:=by simp [h]
theorem ed{x y:Int}(h:x=y):(x != y)=false:=by simp [h]
theorem cr{x y:Int}(h:x=y):(x==y)=true:=by simp [h]
theorem bX{x y:Int}(h:x≠y):(x==y)=false:=by simp [h]
theorem b7{n:Nat}(h:n≤68719476736):room n=true:=afu h
theorem YJ{α : Type}(l:List α):part l 0 l.length=l:=by simp [part]
theorem Bz{α : Type}(l:List α)(n:Nat):part l n (l.length-n)=l.drop n:=by unfold part;rw [List.take_of_length_le (by simp)]
theorem tm{α : Type}(l:List α)(n:Nat):part l 0 n=l.take n:=by simp [part]
end Go.LM
namespace Go.LM.kO
theorem hO(x a b:Int):c_ (x,a,b,())=some (cz x a b,()):=by show Nf x a b=_;unfold Nf cz;by_cases h:a≤x <;> simp [h]
theorem g_(x a b:Int):dh (x,a,b,())=some (cz x a b,()):=by show LO x a b=_;unfold LO cz;by_cases h:a≤x <;> simp [h]
theorem cT{a:Int}(h : -4000000000000000000≤a)(h':a≤4000000000000000000):aH a=a:=tY (by omega) (by omega)
def eo(n:Nat)(P:Nat→Bool):Bool:=(List.range n).all P
theorem iu{n:Nat}{P:Nat→Bool} : eo n P=true↔∀i,i<n→P i=true:=by simp [eo,List.all_eq_true]
open Classical in
theorem n1(n:Nat)(hn:n≤4611686018427387904)(P:Nat→Bool)(E:Bool)(L:Nat→Int→Option (Bool×Unit))
  (h0:∀m,(∀j,j<n→P j=true)→L (m+1) (n:Int)=some (E,()))
  (hs:∀m (i:Nat),i<n→(∀j,j<i→P j=true)→aH ((i:Int)+1)=(i:Int)+1→L (m+1) (i:Int)=cond (P i) (L m ((i:Int)+1)) (some (false,())))
  (q:Nat:=aN) (hq:n<q:=by exact jN (by omega)):L q 0=some (eo n P&&E,()):=by
 have:=m5 n hn L (fun i=>some (decide (∀j,i≤j→j<n→P j=true)&&E,())) (fun i=>∀j,j<i→P j=true) (fun m hi=>by
  rw [h0 m hi]
  rw [decide_eq_true (by intro j h1 h2;omega)];rfl) (fun m i hi hinv hw ih=>by
  rw [hs m i hi hinv hw];cases av:P i
  ·simp only [cond_false];rw [decide_eq_false (fun h=>by have:=h i (Nat.le_refl _) hi;rw [av] at this;cases this)];rfl
  ·simp only [cond_true]
   rw [ih (fun j hj=>by
    by_cases h:j=i
    ·subst h;exact av
    ·exact hinv j (by omega))]
   congr 3;apply decide_eq_decide.2;constructor
   ·intro h j h1 h2;by_cases l9:j=i
    ·subst l9;exact av
    ·exact h j (by omega) h2
   ·intro h j h1 h2;exact h j (by omega) h2) n 0 q (by omega) hq (by intro j hj;omega)
 rw [Int.natCast_zero] at this;rw [this];congr 3;rw [Bool.eq_iff_iff,iu,decide_eq_true_eq];exact⟨fun h i hi=>h i (by omega) hi,fun h i _ hi=>h i hi⟩
theorem kX{α : Type}(a:Bool)(x y : α):cond (!a) x y=cond a y x:=by cases a <;> rfl
theorem wv{α : Type}(a b:Bool)(x y : α):cond (a&&b) x y=cond a (cond b x y) y:=by cases a <;> rfl
theorem H'{α : Type}(a b:Bool)(x y : α):cond (a||b) x y=cond a x (cond b x y):=by cases a <;> rfl
theorem wx{n i:Nat}(h:i+1<n)(hn:n≤4000000000000000000):aM n (aH (((i+1:Nat):Int)-1))=some i:=by rw [cT (by omega) (by omega),show((i+1:Nat):Int)-1=(i:Int) by omega,bu (by omega)]
theorem wy:decide (((0:Nat):Int)>0)=false:=rfl
theorem wz(i:Nat):decide (((i+1:Nat):Int)>0)=true:=by simp
def gj(c:aG.D):Bool:=
 cz c.1 1 22&&decide ((c.2.1.length:Int)≤60)&&decide ((c.2.2.1.length:Int)≤60)&&decide ((c.2.2.2.2.2.1.length:Int)≤64)&&cz c.2.2.2.1 (-1000000) 1000000&&cz c.2.2.2.2.1 (-1000000) 1000000 &&
  (bD c.2.2.1 []||(c.1==9||(c.1==10||c.1==12)))&&(bD c.2.2.2.2.2.1 []||(c.1==5||c.1==6))
theorem BA(c:aG.D):AU (c,())=some (gj c,()):=by
 obtain ⟨q,hq,_⟩:=iS 1;show Gt (AT aN) c=_;rw [hq];unfold Gt;simp only [AT,Np,hO,aw,kW];congr 2;simp only [gj,cz,YI];generalize c.2.1.length=a;generalize c.2.2.1.length=b;generalize c.2.2.2.2.2.1.length=d;generalize c.1=k;generalize c.2.2.2.1=e;generalize c.2.2.2.2.1=f;simp only [kX,wv,H'];rw [Bool.eq_iff_iff];simp only [Bool.cond_eq_ite,Bool.ite_eq_true_distrib,Bool.and_eq_true,Bool.or_eq_true,decide_eq_true_eq,beq_iff_eq,bne_iff_ne]
 grind (splits:=40)
theorem PJ(c:aG.D):Ar (c,())=some (gj c,()):=by
 obtain ⟨q,hq,_⟩:=iS 2;show EK (EL aN) c=_;rw [hq];unfold EK;simp only [EL,dJ,L7,US,UT,g_,aw,kW];congr 2;simp only [gj,cz,YI];generalize c.2.1.length=a;generalize c.2.2.1.length=b;generalize c.2.2.2.2.2.1.length=d;generalize c.1=k;generalize c.2.2.2.1=e;generalize c.2.2.2.2.1=f;rw [Bool.eq_iff_iff];simp only [Bool.cond_eq_ite,Bool.ite_eq_true_distrib,Bool.and_eq_true,Bool.or_eq_true,decide_eq_true_eq,beq_iff_eq,bne_iff_ne]
 grind (splits:=60)
def fA(n:Nat)(P:Nat→Bool):Option Nat:=(List.range n).find? P
theorem iv{n i:Nat}{P:Nat→Bool} : fA n P=some i↔i<n∧P i=true∧∀j,j<i→P j=false:=by
 unfold fA;rw [List.find?_range_eq_some];constructor
 ·rintro ⟨h1,h2,h3⟩;exact⟨by simpa using h2,h1,fun j hj=>by simpa using h3 j hj⟩
 ·rintro ⟨h1,h2,h3⟩;exact⟨h2,by simpa using h1,fun j hj=>by simpa using h3 j hj⟩
theorem mi{n:Nat}{P:Nat→Bool} : fA n P=none↔∀i,i<n→P i=false:=by unfold fA;rw [List.find?_eq_none];simp
theorem tn{β : Type}(n:Nat)(hn:n≤4611686018427387904)(P:Nat→Bool)(R:Option Nat → β)(L:Nat→Int → β)
  (h0:∀m,L (m+1) (n:Int)=R none)
  (hs:∀m (i:Nat),i<n→aH ((i:Int)+1)=(i:Int)+1→L (m+1) (i:Int)=cond (P i) (R (some i)) (L m ((i:Int)+1))) (q:Nat:=aN) (hq:n<q:=by exact jN (by omega)) :
  L q 0=R (fA n P):=by
 have key:=m5 n hn L (fun i=>R (fA n P)) (fun i=>∀j,j<i→P j=false) (fun m hi=>by rw [h0 m,mi.2 hi]) (fun m i hi hinv hw ih=>by
  rw [hs m i hi hw];cases av:P i
  ·simp only [cond_false];refine ih fun j hj=>?_
   by_cases h:j=i
   ·subst h;exact av
   ·exact hinv j (by omega)
  ·simp only [cond_true]
   rw [iv.2 ⟨hi,av,hinv⟩]) n 0 q (by omega) hq (by intro j hj;omega)
 simpa using key
def hP:Option Nat→Int
 | none=> -1
 | some i=>i
theorem BB{o:Option Nat} : decide (hP o<0)=o.isNone:=by
 cases o with
 | none=>rfl
 | some i=>exact decide_eq_false (by show ¬((i:Int)<0);omega)
theorem BC{o:Option Nat} : decide (hP o≥0)=o.isSome:=by cases o <;> simp [hP]
theorem contains_eq(l:List Int)(x:Int)(hl:l.length≤4611686018427387904):sJ (l,x,())=some (decide (x∈l),()):=by
 show LV l x=_;unfold LV
 have h:LU (l,x,())=some (hP (fA l.length (fun i=>x==I (.int .i64) l i)),()):=by
  show Em (u4 aN) l x=_;unfold Em;refine tn l.length hl _ (fun o=>some (hP o,())) (fun m i=>u4 m l x (l.length:Int) i) ?_ ?_
  ·intro m;simp only [u4,En];rw [cA (Nat.le_refl _)];rfl
  ·intro m i hi hw;simp only [u4,En,hw];rw [b9 hi,bu hi];rfl
 rw [h];simp only [aw,BC];congr 2;rw [Bool.eq_iff_iff,decide_eq_true_eq,Option.isSome_iff_exists];constructor
 ·rintro ⟨i,hi⟩
  obtain ⟨h1,h2,_⟩:=iv.1 hi;have h2:x=I (.int .i64) l i:=by simpa using h2
  rw [h2,c0 h1];exact List.getElem_mem h1
 ·intro hx;obtain ⟨i,hi,he⟩:=List.mem_iff_getElem.1 hx
  cases hf:fA l.length (fun i=>x==I (.int .i64) l i) with
  | some j=>exact⟨j,rfl⟩
  | none=>have:=mi.1 hf i hi;have aI:I (.int .i64) l i=l[i]:=c0 (t:=.int .i64) hi;rw [aI,he] at this;simp at this
def tp(b:Int):Bool:=decide (b≥97)&&decide (b≤122)||decide (b≥48)&&decide (b≤57)||b==46||b==95||b==45
theorem Ia(b:Int):AG (b,())=some (tp b,()):=by
 show Ng b=_;unfold Ng tp;simp only [kW];congr 2;rw [Bool.eq_iff_iff];simp only [Bool.cond_eq_ite,Bool.ite_eq_true_distrib,Bool.and_eq_true,Bool.or_eq_true,decide_eq_true_eq,beq_iff_eq]
 grind
theorem YK(b:Int):D4 (b,())=some (tp b,()):=by show UJ b=_;rw [← Ia];rfl
def nb(s:aj)(i:Nat):Int:=((s.getD i 0).toNat:Int)
def iw(s:aj):Bool:=eo s.length (fun i=>tp (nb s i))&&(cz (s.length:Int) 1 8&&(!bD s [46] && !bD s [46,46]))
theorem ak7(s:aj):Nh (s,())=some (iw s,()):=by
 show FU (sX aN) s=_;unfold FU;simp only [hO,aw];by_cases hl:cz (s.length:Int) 1 8=true
 case neg=>rw [Bool.not_eq_true] at hl;unfold iw;rw [hl];simp
 have hb:=di.1 hl
 have hk:sX aN s 0=some (eo s.length (fun i=>tp (nb s i))&&true,()):=by
  refine n1 s.length (by omega) _ true (fun m i=>sX m s i) ?_ ?_
  ·intro m _;simp only [sX,FV];rw [cA (Nat.le_refl _)];rfl
  ·intro m i hi _ hw;simp only [sX,FV,hw];rw [b9 hi,bu hi];simp only [cond_true,aw,Ia,kX];rfl
 rw [hk,hl];unfold iw;rw [hl];cases bD s [46] <;> cases bD s [46,46] <;> simp
theorem ak8(s:aj)(hl:s.length≤4000000000000000000):LQ (s,())=some (iw s,()):=by
 show Ed (u2 aN) s=_;unfold Ed iw;refine n1 s.length (by omega) _ _ (fun m i=>u2 m s (s.length:Int) i) ?_ ?_
 ·intro m _;simp only [u2,Ee];rw [cA (Nat.le_refl _)];simp only [g_,aw,cond_false,kW];congr 2;cases cz (s.length:Int) 1 8 <;> cases bD s [46] <;> rfl
 ·intro m i hi _ hw;simp only [u2,Ee,hw];rw [b9 hi,bu hi];simp only [cond_true,aw,YK,kX];rfl
def jO(s:aj):Bool:=eo s.length (fun i=>nb s i==47||tp (nb s i))&&cz (s.length:Int) 1 60
theorem YL(s:aj):AH (s,())=some (jO s,()):=by
 show FQ (vw aN) s=_;unfold FQ;simp only [hO,aw];by_cases hl:cz (s.length:Int) 1 60=true
 case neg=>rw [Bool.not_eq_true] at hl;unfold jO;rw [hl];simp
 have hb:=di.1 hl;unfold jO;rw [hl];simp only [Bool.not_true,cond_false];refine n1 s.length (by omega) _ true (fun m i=>vw m s i) ?_ ?_
 ·intro m _;simp only [vw,FR];rw [cA (Nat.le_refl _)];rfl
 ·intro m i hi _ hw;simp only [vw,FR,hw];rw [b9 hi,bu hi];simp only [cond_true,aw,Ia,kX,H',bne];rfl
theorem PK(s:aj)(hl:s.length≤4000000000000000000):x2 (s,())=some (jO s,()):=by
 show D6 (uZ aN) s=_;unfold D6 jO;refine n1 s.length (by omega) _ _ (fun m i=>uZ m s (s.length:Int) i) ?_ ?_
 ·intro m _;simp only [uZ,D7];rw [cA (Nat.le_refl _)];simp only [g_,aw,cond_false]
 ·intro m i hi _ hw;simp only [uZ,D7,hw];rw [b9 hi,bu hi];simp only [cond_true,aw,YK,kX,H',bne];rfl
abbrev aS:Type:=J.D
def an(x:aS):List aB.D:=x.2.2.2.2.2.2.1
def bT(x:aS):aj:=x.2.2.2.2.2.1
def bz(l:List aS)(id:Int):Option Nat:=fA l.length (fun i=>(I J l i).1==id)
theorem n2(v:af.D)(id:Int)(hl:v.2.1.length≤1048576):kQ (v,id,())=some (hP (bz v.2.1 id),()):=by
 show FX (vx aN) v id=_;unfold FX bz;refine tn v.2.1.length (by omega) _ (fun o=>some (hP o,())) (fun m i=>vx m id i v) ?_ ?_
 ·intro m;simp only [vx,FY];rw [cA (Nat.le_refl _)];rfl
 ·intro m i hi hw;simp only [vx,FY,hw];rw [b9 hi,bu hi];rfl
def YM(l:List aS):Option Nat→List aS
 | none=>[]
 | some i=>[I J l i]
theorem yJ(v:af.D)(id:Int)(hl:v.2.1.length≤1048576):fS (v,id,())=some (YM v.2.1 (bz v.2.1 id),()):=by
 show D9 (u0 aN) v id=_;unfold D9 bz;refine tn v.2.1.length (by omega) _ (fun o=>some (YM v.2.1 o,())) (fun m i=>u0 m v id (v.2.1.length:Int) i) ?_ ?_
 ·intro m;simp only [u0,D_];rw [cA (Nat.le_refl _)];rfl
 ·intro m i hi hw;simp only [u0,D_,hw];rw [b9 hi,bu hi];rfl
theorem b5{l:List aS}{id:Int}{i:Nat}(h:bz l id=some i):i<l.length∧(I J l i).1=id:=by obtain ⟨h1,h2,_⟩:=iv.1 h;exact⟨h1,by simpa using h2⟩
def bytesOf(l:List aS):Nat:=(l.map fun x=>(bT x).length).sum
theorem ak9{l:List aS}{i:Nat}(hi:i<l.length):bytesOf (l.drop i)=(bT (I J l i)).length+bytesOf (l.drop (i+1)):=by rw [drop_cons (t:=J) hi];rfl
theorem PL(l:List aS)(i:Nat):bytesOf (l.take i)+bytesOf (l.drop i)=bytesOf l:=by unfold bytesOf;rw [← List.sum_append_nat,← List.map_append,List.take_append_drop]
theorem yK{l:List aS}{i:Nat}(hi:i<l.length):bytesOf (l.take (i+1))=bytesOf (l.take i) +(bT (I J l i)).length:=by have h1:=PL l i;have h2:=PL l (i+1);have h3:=ak9 hi;omega
theorem Ib(l:List aS)(i:Nat):bytesOf (l.take i)≤bytesOf l:=by have:=PL l i;omega
theorem PM(v:af.D)(hl:v.2.1.length≤1048576)(hb:bytesOf v.2.1≤1048576):AO (v,())=some ((bytesOf v.2.1:Int),()):=by
 show F8 (vB aN) v=_;unfold F8
 have:=m5 v.2.1.length (by omega) (fun m i=>vB m (bytesOf (v.2.1.take i.toNat):Int) i v) (fun _=>some ((bytesOf v.2.1:Int),())) (fun _=>True) (fun m _=>by
  simp only [vB,F9];rw [cA (Nat.le_refl _)]
  simp only [Int.toNat_natCast,List.take_length,cond_false]) (fun m i hi _ hw ih=>by
  simp only [vB,F9,hw];rw [b9 hi,bu hi];simp only [cond_true,aw,Int.toNat_natCast];have ih:=ih trivial;rw [show((i:Int)+1).toNat=i+1 by omega,yK hi,Int.natCast_add] at ih;have h2:=Ib v.2.1 (i+1);rw [yK hi] at h2;rw [cT (by omega) (by have:((I J v.2.1 i).2.2.2.2.2.1).length=(bT (I J v.2.1 i)).length:=rfl;omega)]
  exact ih) v.2.1.length 0 aN (by omega) (jN (by omega)) trivial
 simpa [bytesOf] using this
theorem PN(v:af.D)(hl:v.2.1.length≤1048576)(hb:bytesOf v.2.1≤1048576):sK (v,())=some ((bytesOf v.2.1:Int),()):=by
 show Es (u9 aN) v=_;unfold Es
 have:=m5 v.2.1.length (by omega) (fun m i=>u9 m (bytesOf (v.2.1.take i.toNat):Int) v.2.1 (v.2.1.length:Int) i) (fun _=>some ((bytesOf v.2.1:Int),())) (fun _=>True) (fun m _=>by
  simp only [u9,Et];rw [cA (Nat.le_refl _)]
  simp only [Int.toNat_natCast,List.take_length,cond_false]) (fun m i hi _ hw ih=>by
  simp only [u9,Et,hw];rw [b9 hi,bu hi];simp only [cond_true,aw,Int.toNat_natCast];have ih:=ih trivial;rw [show((i:Int)+1).toNat=i+1 by omega,yK hi,Int.natCast_add] at ih;have h2:=Ib v.2.1 (i+1);rw [yK hi] at h2;rw [cT (by omega) (by have:((I J v.2.1 i).2.2.2.2.2.1).length=(bT (I J v.2.1 i)).length:=rfl;omega)]
  exact ih) v.2.1.length 0 aN (by omega) (jN (by omega)) trivial
 simpa [bytesOf] using this
def b8{β : Type}(f:Nat → β)(B:Nat)(y : β):Prop:=∀m,B≤m→f m=y
theorem b8.step{β : Type}{f g:Nat → β}{B:Nat}{y : β}(h:b8 g B y)(hf:∀m,f (m+1)=g m):b8 f (B+1) y:=by
 intro m hm;obtain ⟨k,rfl⟩:∃k,m=k+1:=⟨m-1,by omega⟩
 rw [hf];exact h k (by omega)
theorem b8.done{β : Type}{f:Nat → β}{y : β}(hf:∀m,f (m+1)=y):b8 f 1 y:=by
 intro m hm;obtain ⟨k,rfl⟩:∃k,m=k+1:=⟨m-1,by omega⟩
 exact hf k
theorem b8.mono{β : Type}{f:Nat → β}{B kl:Nat}{y : β}(h:b8 f B y)(hb:B≤kl):b8 f kl y:=fun m hm=>h m (by omega)
def dW{lG : Type} : Nat→(Nat → lG → lG) → lG → lG
 | 0,_,s=>s
 | n+1,f,s=>f n (dW n f s)
theorem tq{lG : Type}{n:Nat}{f:Nat → lG → lG}(Inv:Nat → lG → Prop)(fa:∀i s,i<n→Inv i s→Inv (i+1) (f i s)){s : lG}(h:Inv 0 s):Inv n (dW n f s):=by
 induction n with
 | zero=>exact h
 | succ n ih=>exact fa n _ (by omega) (ih fun i s hi=>fa i s (by omega))
theorem tr{lG β : Type}(n W:Nat)(F:Nat→Nat → lG → β)(step:Nat → lG → lG)(Inv:Nat → lG → Prop)(fa:∀i s,i<n→Inv i s→Inv (i+1) (step i s))
  (hs:∀i s,i<n→Inv i s→∀B y,b8 (fun m=>F m (i+1) (step i s)) B y→b8 (fun m=>F m i s) (B+W) y) (s : lG) (h:Inv 0 s) (B:Nat) (y : β) (he:b8 (fun m=>F m n (dW n step s)) B y):b8 (fun m=>F m 0 s) (B+n*W) y:=by
 have key:∀k,k≤n→b8 (fun m=>F m (n-k) (dW (n-k) step s)) (B+k*W) y:=by
  intro k
  induction k with
  | zero=>intro _;simpa using he
  | succ k ih=>
   intro hk;have:=ih (by omega);have hinv:Inv (n-(k+1)) (dW (n-(k+1)) step s):=tq Inv (fun i s hi=>fa i s (by omega)) h
   have h2:=hs (n-(k+1)) _ (by omega) hinv (B+k*W) y (by
    rw [show n-(k+1)+1=n-k by omega];have e:dW (n-k) step s=step (n-(k+1)) (dW (n-(k+1)) step s):=by rw [show n-k=(n-(k+1))+1 by omega];rfl
    rw [← e];exact this)
   rw [Nat.add_one_mul,← Nat.add_assoc];exact h2
 have:=key n (Nat.le_refl _);simpa [dW] using this
def dD(l:List aB.D)(id:Int):Nat:=(l.filter fun d=>d.2.1==id).length
def cD(l:List aS)(id:Int):Nat:=(l.map fun x=>dD (an x) id).sum
theorem ak_{l:List aB.D}{id:Int}{j:Nat}(hj:j<l.length):dD (l.take (j+1)) id=dD (l.take j) id+cond ((I aB l j).2.1==id) 1 0:=by unfold dD;rw [List.take_succ_eq_append_getElem hj,List.filter_append,List.length_append];congr 1;rw [c0 hj];cases h:(l[j]).2.1==id <;> simp [List.filter_cons,h]
theorem ak'(l:List aB.D)(id:Int):dD l id≤l.length:=List.length_filter_le _ _
theorem PO{l:List aS}{id:Int}{i:Nat}(hi:i<l.length):cD (l.take (i+1)) id=cD (l.take i) id+dD (an (I J l i)) id:=by unfold cD;rw [List.take_succ_eq_append_getElem hi,List.map_append,List.sum_append_nat];simp [c0 hi]
def dE(l:List aS):Nat:=(l.map fun x=>(an x).length).sum
theorem YN(l:List aS)(id:Int):cD l id≤dE l:=by
 unfold cD dE
 induction l with
 | nil=>simp
 | cons x l ih=>simp only [List.map_cons,List.sum_cons];have:=ak' (an x) id;omega
theorem gk{l:List aS}{i:Nat}(hi:i<l.length):(an (I J l i)).length≤dE l:=by
 unfold dE;rw [c0 hi]
 have:∀(l:List aS) (i:Nat) (hi:i<l.length),(an l[i]).length≤(l.map fun x=>(an x).length).sum:=by
  intro l
  induction l with
  | nil=>intro i hi;simp at hi
  | cons x l ih=>
   intro i hi;simp only [List.map_cons,List.sum_cons]
   cases i with
   | zero=>simp
   | succ i=>have:=ih i (by simpa using hi);simp only [List.getElem_cons_succ];omega
 exact this l i hi
theorem YO(l:List aS)(id:Int)(i:Nat):cD (l.take i) id≤dE l:=by
 refine Nat.le_trans (YN _ _) ?_;unfold dE
 conv=>rhs;rw [← List.take_append_drop i l,List.map_append,List.sum_append_nat]
 omega
theorem dv(i:Nat)(h:i<4000000000000000000):aH ((i:Int)+1)=((i+1:Nat):Int):=by rw [cT (by omega) (by omega)];omega
theorem PQ(l:List aS)(id:Int):∀i,i≤l.length→dW i (fun i s=>s+dD (an (I J l i)) id) 0=cD (l.take i) id
 | 0,_=>by simp [dW,cD]
 | i+1,h=>by rw [dW,PQ l id i (by omega),PO (by omega)]
theorem PR(l:List aB.D)(id:Int)(s:Nat):∀j,j≤l.length→dW j (fun j s=>s+cond ((I aB l j).2.1==id) 1 0) s=s+dD (l.take j) id
 | 0,_=>by simp [dW,dD]
 | j+1,h=>by rw [dW,PR l id s j (by omega),ak_ (by omega)];omega
theorem lH{β : Type}{f:Nat → β}{B:Nat}{y : β}(h:b8 f B y)(hb:B≤4611686018427387904):f aN=y:=h aN (by have:=jN hb;omega)
theorem Ic(v:af.D)(id:Int)(hl:v.2.1.length≤1048576)(hn:dE v.2.1≤1048576):AN (v,id,())=some ((cD v.2.1 id:Int),()):=by
 show F6 (p4 aN) v id=_;unfold F6
 have key:=tr v.2.1.length (1048576+2) (fun m i (s:Nat)=>(p4 m).k3 id (s:Int) (i:Int) v) (fun i s=>s+dD (an (I J v.2.1 i)) id) (fun i s=>s=cD (v.2.1.take i) id) (fun i s hi hs=>by rw [hs,PO hi]) (fun i s hi hs B y he=>by
  have m6:s≤1048576:=by have:=YO v.2.1 id i;omega
  have hnl:=gk hi
  have inner:=tr (an (I J v.2.1 i)).length 1 (fun m j (s:Nat)=>(p4 m).du id (s:Int) (i:Int) (j:Int) v) (fun j s=>s+cond ((I aB (an (I J v.2.1 i)) j).2.1==id) 1 0) (fun j s=>s≤1048576+j) (fun j s hj hs=>by
   cases (I aB (an (I J v.2.1 i)) j).2.1==id <;> simp <;> omega) (fun j s hj hs B y he=>by
   refine he.step fun m=>?_
   show AM (p4 m) _ _ _ _ _=_;unfold AM;rw [bu hi];simp only [aw];show cond (decide ((j:Int)<((an (I J v.2.1 i)).length:Int))) ((aM (an (I J v.2.1 i)).length (j:Int)).bind _) _=_;rw [b9 hj];simp only [cond_true];rw [bu hj];simp only [aw];rw [dv j (by omega),dv s (by omega)];show cond ((I aB (an (I J v.2.1 i)) j).2.1==id) _ _=_
   cases (I aB (an (I J v.2.1 i)) j).2.1==id <;> rfl) s (by omega) (B+1) y (by
   refine he.step fun m=>?_
   rw [PR _ _ _ _ (Nat.le_refl _),List.take_length];show AM (p4 m) _ _ _ _ _=_;unfold AM;rw [bu hi];simp only [aw];show cond (decide (((an (I J v.2.1 i)).length:Int)<((an (I J v.2.1 i)).length:Int))) _ _=_;rw [cA (Nat.le_refl _)];simp only [cond_false]
   rw [dv i (by omega)])
  refine(inner.step (f:=fun m=>(p4 m).k3 id (s:Int) (i:Int) v) fun m=>?_).mono (by omega);show AL (p4 m) _ _ _ _=_;unfold AL
  rw [b9 hi];rfl) 0 (by simp [cD]) 1 (some ((cD v.2.1 id:Int),())) (b8.done fun m=>by
  rw [PQ _ _ _ (Nat.le_refl _),List.take_length];show AL (p4 m) _ _ _ _=_;unfold AL
  rw [cA (Nat.le_refl _)];rfl)
 have hm:v.2.1.length*(1048576+2)≤1048576*(1048576+2):=Nat.mul_le_mul_right _ hl;exact lH key (by omega)
theorem Ie(v:af.D)(id:Int)(hl:v.2.1.length≤1048576)(hn:dE v.2.1≤1048576):x4 (v,id,())=some ((cD v.2.1 id:Int),()):=by
 show Ep (p0 aN) v id=_;unfold Ep
 have key:=tr v.2.1.length (1048576+2) (fun m i (s:Nat)=>(p0 m).k3 id (s:Int) v.2.1 (v.2.1.length:Int) (i:Int)) (fun i s=>s+dD (an (I J v.2.1 i)) id) (fun i s=>s=cD (v.2.1.take i) id) (fun i s hi hs=>by rw [hs,PO hi]) (fun i s hi hs B y he=>by
  have m6:s≤1048576:=by have:=YO v.2.1 id i;omega
  have hnl:=gk hi
  have inner:=tr (an (I J v.2.1 i)).length 1 (fun m j (s:Nat)=>(p0 m).du id (s:Int) v.2.1 (v.2.1.length:Int) (i:Int) (an (I J v.2.1 i)) ((an (I J v.2.1 i)).length:Int) (j:Int)) (fun j s=>s+cond ((I aB (an (I J v.2.1 i)) j).2.1==id) 1 0) (fun j s=>s≤1048576+j) (fun j s hj hs=>by
   cases (I aB (an (I J v.2.1 i)) j).2.1==id <;> simp <;> omega) (fun j s hj hs B y he=>by
   refine he.step fun m=>?_
   show Ao (p0 m) _ _ _ _ _ _ _ _=_;unfold Ao;rw [b9 hj];simp only [cond_true];rw [bu hj];simp only [aw];rw [dv j (by omega),dv s (by omega)]
   cases (I aB (an (I J v.2.1 i)) j).2.1==id <;> rfl) s (by omega) (B+1) y (by
   refine he.step fun m=>?_
   rw [PR _ _ _ _ (Nat.le_refl _),List.take_length];show Ao (p0 m) _ _ _ _ _ _ _ _=_;unfold Ao;rw [cA (Nat.le_refl _)];simp only [cond_false]
   rw [dv i (by omega)])
  refine(inner.step (f:=fun m=>(p0 m).k3 id (s:Int) v.2.1 (v.2.1.length:Int) (i:Int)) fun m=>?_).mono (by omega);show An (p0 m) _ _ _ _ _=_;unfold An
  rw [b9 hi,bu hi];rfl) 0 (by simp [cD]) 1 (some ((cD v.2.1 id:Int),())) (b8.done fun m=>by
  rw [PQ _ _ _ (Nat.le_refl _),List.take_length];show An (p0 m) _ _ _ _ _=_;unfold An
  rw [cA (Nat.le_refl _)];rfl)
 have hm:v.2.1.length*(1048576+2)≤1048576*(1048576+2):=Nat.mul_le_mul_right _ hl;exact lH key (by omega)
abbrev Flags:Type:=List Bool
def T(xs:Flags)(i:Nat):Prop:=I .bool xs i=true
theorem wA{xs:Flags}{x i:Nat}(hx:x<xs.length):T (xs.set x true) i↔(i=x∨T xs i):=by
 unfold T I;simp only [List.getD_eq_getElem?_getD,List.getElem?_set];by_cases h:x=i
 ·subst h;simp [hx]
 ·simp only [h,if_false];constructor
  ·intro h;exact .inr h
  ·rintro (rfl | h1)
   ·exact absurd rfl h
   ·exact h1
abbrev FS:Type:=Flags×Flags
section
variable(l:List aS)
def jP(i j:Nat)(s:FS):FS:=
 match bz l (I aB (an (I J l i)) j).2.1 with
 | none=>s
 | some x=>(s.1.set x true,s.2.set x true)
def iT(i:Nat)(s:FS):FS:=cond (I .bool s.2 i) (dW (an (I J l i)).length (jP l i) s) s
def fG(s:FS):FS:=dW l.length (iT l) s
def FS.gB(n:Nat)(s:FS):Prop:=s.1.length=n∧s.2.length=n
theorem Ig{n i j:Nat}{s:FS}(h:s.gB n):(jP l i j s).gB n:=by
 unfold jP;split
 ·exact h
 ·exact⟨by simpa using h.1,by simpa using h.2⟩
theorem Ih{n i:Nat}{s:FS}(h:s.gB n):(iT l i s).gB n:=by
 unfold iT;cases I .bool s.2 i
 ·exact h
 ·exact tq (fun _ s=>FS.gB n s) (fun i s _ hs=>Ig l hs) h
theorem PS{n:Nat}{s:FS}(h:s.gB n):(fG l s).gB n:=tq (fun _ s=>FS.gB n s) (fun i s _ hs=>Ih l hs) h
theorem ala(v:af.D)(hl:v.2.1.length≤1048576)(hn:dE v.2.1≤1048576)(s:FS)(h:s.gB v.2.1.length) :
  (kq aN).df 0 v s.1 s.2=some ((dW v.2.1.length (fun _=>fG v.2.1) s).1,()):=by
 have key:=tr v.2.1.length (v.2.1.length*1048580+2) (fun m k (s:FS)=>(kq m).df (k:Int) v s.1 s.2) (fun _=>fG v.2.1) (fun _ s=>s.gB v.2.1.length) (fun _ s _ hs=>PS v.2.1 hs) (fun k s hk hs B y he=>by
  have inner:=tr v.2.1.length 1048580 (fun m i (s:FS)=>(kq m).cL (k:Int) (i:Int) v s.1 s.2) (iT v.2.1) (fun _ s=>s.gB v.2.1.length) (fun _ s _ hs=>Ih v.2.1 hs) (fun i s hi hs B y he=>by
   have hnl:=gk hi;cases ho:I .bool s.2 i
   ·refine(he.step (f:=fun m=>(kq m).cL (k:Int) (i:Int) v s.1 s.2) fun m=>?_).mono (by omega);show vz (kq m) _ _ _ _ _=_;unfold vz;have fT:aM s.2.length (i:Int)=some i:=bu (by rw [hs.2];exact hi);rw [b9 hi,fT];simp only [cond_true,aw,Nat.zero_add,ho,Bool.not_false];rw [dv i (by omega)];unfold iT;rw [ho];rfl
   ·have hst:iT v.2.1 i s=dW (an (I J v.2.1 i)).length (jP v.2.1 i) s:=by unfold iT;rw [ho];rfl
    rw [hst] at he
    have inj:=tr (an (I J v.2.1 i)).length 1 (fun m j (s:FS)=>(kq m).F3 (k:Int) (i:Int) (j:Int) v s.1 s.2) (jP v.2.1 i) (fun _ s=>s.gB v.2.1.length) (fun _ s _ hs=>Ig v.2.1 hs) (fun j s hj hs B y he=>by
     refine he.step fun m=>?_
     show AK (kq m) _ _ _ _ _ _=_;unfold AK;rw [bu hi];simp only [aw];show cond (decide ((j:Int)<((an (I J v.2.1 i)).length:Int))) ((aM (an (I J v.2.1 i)).length (j:Int)).bind _) _=_;rw [b9 hj];simp only [cond_true];rw [bu hj];simp only [aw];rw [n2 v _ hl];simp only [aw,BC];rw [dv j (by omega)];show cond (bz v.2.1 (I aB (an (I J v.2.1 i)) j).2.1).isSome _ _=_;unfold jP
     cases hx:bz v.2.1 (I aB (an (I J v.2.1 i)) j).2.1 with
     | none=>rfl
     | some x=>
      have hxl:=(b5 hx).1;simp only [Option.isSome_some,cond_true];have hx2:bz v.2.1 (I aB (I J v.2.1 i).2.2.2.2.2.2.1 j).2.1=some x:=hx;rw [hx2];show((aM s.1.length ((x:Nat):Int)).bind _)=_;rw [bu (by rw [hs.1];exact hxl)];simp only [aw];show((aM s.2.length ((x:Nat):Int)).bind _)=_;rw [bu (by rw [hs.2];exact hxl)]
      simp only [aw,Nat.zero_add]) s hs (B+1) y (by
     refine he.step fun m=>?_
     show AK (kq m) _ _ _ _ _ _=_;unfold AK;rw [bu hi];simp only [aw];show cond (decide (((an (I J v.2.1 i)).length:Int)<((an (I J v.2.1 i)).length:Int))) _ _=_;rw [cA (Nat.le_refl _)];simp only [cond_false]
     rw [dv i (by omega)])
    refine(inj.step (f:=fun m=>(kq m).cL (k:Int) (i:Int) v s.1 s.2) fun m=>?_).mono (by omega);show vz (kq m) _ _ _ _ _=_;unfold vz;have fT:aM s.2.length (i:Int)=some i:=bu (by rw [hs.2];exact hi);rw [b9 hi,fT];simp only [cond_true,aw,Nat.zero_add,ho,Bool.not_true,cond_false]
    rfl) s hs (B+1) y (by
   refine he.step fun m=>?_
   show vz (kq m) _ _ _ _ _=_;unfold vz;rw [cA (Nat.le_refl _)];simp only [cond_false]
   rw [dv k (by omega)];rfl)
  refine(inner.step (f:=fun m=>(kq m).df (k:Int) v s.1 s.2) fun m=>?_).mono (by omega);show AJ (kq m) _ _ _ _=_;unfold AJ
  rw [b9 hk];rfl) s h 1 (some ((dW v.2.1.length (fun _=>fG v.2.1) s).1,())) (b8.done fun m=>by
  show AJ (kq m) _ _ _ _=_;unfold AJ
  rw [cA (Nat.le_refl _)];rfl)
 have h1:v.2.1.length*1048580≤1048576*1048580:=Nat.mul_le_mul_right _ hl;have hm:v.2.1.length*(v.2.1.length*1048580+2)≤1048576*(1048576*1048580+2):=Nat.mul_le_mul hl (Nat.add_le_add_right h1 2);have xg:=Nat.le_trans hm (by decide:1048576*(1048576*1048580+2)≤4611686018427387000);generalize v.2.1.length*(v.2.1.length*1048580+2)=X at *;exact lH key (by omega)
def fU(n:Nat):Flags:=List.replicate n false
def dX(id:Int):Flags:=
 match bz l id with
 | none=>fU l.length
 | some a=>(dW l.length (fun _=>fG l) (fU l.length,(fU l.length).set a true)).1
theorem YP(v:af.D)(id:Int)(hl:v.2.1.length≤1048576)(hn:dE v.2.1≤1048576):F5 (v,id,())=some (dX v.2.1 id,()):=by
 show F4 (kq aN) v id=_;unfold F4;have hr:(decide (0≤(v.2.1.length:Int))&&decide ((v.2.1.length:Int)=(v.2.1.length:Int))&&room (Int.toNat (v.2.1.length:Int)))=true:=by rw [Int.toNat_natCast,b7 (by omega),decide_eq_true (by omega),decide_eq_true rfl];rfl
 rw [hr];simp only [cond_true];rw [n2 v id hl];simp only [aw,BB,Int.toNat_natCast];unfold dX
 cases ha:bz v.2.1 id with
 | none=>rfl
 | some a=>simp only [Option.isNone_some,cond_false,hP];rw [List.length_replicate,bu (b5 ha).1];simp only [aw,Nat.zero_add];exact ala v hl hn (fU v.2.1.length,(fU v.2.1.length).set a true) ⟨by simp [fU],by simp [fU]⟩
end
theorem cR{t:ae}{xs:List t.D}{i:Nat}(h:i<xs.length):I t xs i∈xs:=by rw [c0 h];exact List.getElem_mem h
theorem fb{t:ae}{xs:List t.D}{x:t.D}(h:x∈xs):∃i,i<xs.length∧I t xs i=x:=by obtain ⟨i,hi,he⟩:=List.mem_iff_getElem.1 h;exact⟨i,hi,by rw [c0 hi];exact he⟩
def E(l:List aS)(a b:Int):Prop:=∃i d,bz l a=some i∧d∈an (I J l i)∧d.2.1=b
abbrev dY(l:List aS)(a b:Int):Prop:=Relation.TransGen (E l) a b
def ix(l:List aS):Prop:=∀x,x<l.length→bz l (I J l x).1=some x
def rI(l:List aS):Prop:=∀i,i<l.length→∀d,d∈an (I J l i)→(bz l d.2.1).isSome=true
section
variable(l:List aS)
theorem YQ{xs:Flags}{x i:Nat}(h:T xs i):T (xs.set x true) i:=by
 by_cases hx:x<xs.length
 ·exact(wA hx).2 (.inr h)
 ·rwa [List.set_eq_of_length_le (by omega)]
def FS.le(s au:FS):Prop:=(∀i,T s.1 i→T au.1 i)∧(∀i,T s.2 i→T au.2 i)
theorem FS.le.Ii{s:FS} : s.le s:=⟨fun _ h=>h,fun _ h=>h⟩
theorem FS.le.LK{s au YR:FS}(h:s.le au)(k:au.le YR):s.le YR:=⟨fun i hi=>k.1 i (h.1 i hi),fun i hi=>k.2 i (h.2 i hi)⟩
theorem BD{f:Nat→FS→FS}(h:∀i s,FS.le s (f i s))(s:FS):∀n,FS.le s (dW n f s)
 | 0=>.Ii
 | n+1=>(BD h s n).LK (h n _)
theorem YS{f:Nat→FS→FS}(h:∀i s,FS.le s (f i s))(s:FS){i n:Nat}(hi:i<n):FS.le (f i (dW i f s)) (dW n f s):=by
 induction n with
 | zero=>omega
 | succ n ih=>
  by_cases h1:i=n
  ·subst h1;exact .Ii
  ·exact(ih (by omega)).LK (h n _)
theorem YT(i j:Nat)(s:FS):FS.le s (jP l i j s):=by
 unfold jP;split
 ·exact .Ii
 ·exact⟨fun _ h=>YQ h,fun _ h=>YQ h⟩
theorem PT(i:Nat)(s:FS):FS.le s (iT l i s):=by
 unfold iT;cases I .bool s.2 i
 ·exact .Ii
 ·exact BD (YT l i) s _
theorem Ij(s:FS):FS.le s (fG l s):=BD (PT l) s _
theorem alb{s:FS}(hs:s.gB l.length){i x:Nat}(hi:i<l.length)(ho:T s.2 i){d:aB.D}(ah:d∈an (I J l i))(hx:bz l d.2.1=some x):T (fG l s).1 x∧T (fG l s).2 x:=by
 have h1:=YS (PT l) s hi;have ht:T (dW i (iT l) s).2 i:=(BD (PT l) s i).2 i ho;have mF:(dW i (iT l) s).gB l.length:=tq (fun _ s=>FS.gB l.length s) (fun i s _ hs=>Ih l hs) hs;generalize dW i (iT l) s=t at *;obtain ⟨j,hj,rfl⟩:=fb ah;have h2:=YS (YT l i) t hj;have e:iT l i t=dW (an (I J l i)).length (jP l i) t:=by unfold iT;rw [show I .bool t.2 i=true from ht];rfl
 rw [← e] at h2;have pG:(dW j (jP l i) t).gB l.length:=tq (fun _ s=>FS.gB l.length s) (fun i s _ hs=>Ig l hs) mF;generalize dW j (jP l i) t=u at *;have hs:jP l i j u=(u.1.set x true,u.2.set x true):=by unfold jP;rw [hx]
 rw [hs] at h2;have hxl:=(b5 hx).1;exact⟨h1.1 x (h2.1 x ((wA (by rw [pG.1];exact hxl)).2 (.inl rfl))),h1.2 x (h2.2 x ((wA (by rw [pG.2];exact hxl)).2 (.inl rfl)))⟩
theorem YU(Pi fV:Nat→Prop)(wB:∀i,i<l.length→fV i→∀d,d∈an (I J l i)→∀x,bz l d.2.1=some x→Pi x∧fV x){s:FS}(hl:s.gB l.length)(h1:∀i,T s.1 i→Pi i)(h2:∀i,T s.2 i→fV i) :
  (∀i,T (fG l s).1 i→Pi i)∧(∀i,T (fG l s).2 i→fV i):=by
 have key:(fG l s).gB l.length∧(∀i,T (fG l s).1 i→Pi i)∧(∀i,T (fG l s).2 i→fV i):=by
  refine tq (fun _ (s:FS)=>s.gB l.length∧(∀i,T s.1 i→Pi i)∧(∀i,T s.2 i→fV i)) (fun i s hi hs=>?_) ⟨hl,h1,h2⟩;obtain ⟨hl,h1,h2⟩:=hs;refine⟨Ih l hl,?_⟩;cases ho:I .bool s.2 i
  ·rw [show iT l i s=s by unfold iT;rw [ho];rfl];exact⟨h1,h2⟩
  ·rw [show iT l i s=dW (an (I J l i)).length (jP l i) s by unfold iT;rw [ho];rfl]
   have:=tq (n:=(an (I J l i)).length) (f:=jP l i) (fun _ (s:FS)=>s.gB l.length∧(∀i,T s.1 i→Pi i)∧(∀i,T s.2 i→fV i)) (fun j t hj ht=>by
    obtain ⟨hl,g1,g2⟩:=ht;refine⟨Ig l hl,?_⟩;unfold jP;split
    ·exact⟨g1,g2⟩
    ·rename_i x hx;obtain ⟨ea,e7⟩:=wB i hi (h2 i ho) _ (cR hj) x hx;have hxl:=(b5 hx).1;refine⟨fun k hk=>?_,fun k hk=>?_⟩
     ·rcases (wA (by rw [hl.1];exact hxl)).1 hk with rfl | hk
      ·exact ea
      ·exact g1 k hk
     ·rcases (wA (by rw [hl.2];exact hxl)).1 hk with rfl | hk
      ·exact e7
      ·exact g2 k hk) ⟨hl,h1,h2⟩
   exact this.2
 exact key.2
def Ik(s:FS):Prop:=∀i,i<l.length→T s.2 i→∀d,d∈an (I J l i)→∀x,bz l d.2.1=some x→T s.1 x∧T s.2 x
theorem alc{s:FS}(hl:s.gB l.length)(h:Ik l s):Ik l (fG l s):=by obtain ⟨h1,h2⟩:=YU l (T s.1) (T s.2) h hl (fun _ h=>h) (fun _ h=>h);intro i hi ho d ah x hx;obtain ⟨ea,e7⟩:=h i hi (h2 i ho) d ah x hx;exact⟨(Ij l s).1 x ea,(Ij l s).2 x e7⟩
def n3(xs:Flags):Nat:=(xs.filter fun b=>b).length
theorem ald(xs:Flags):n3 xs≤xs.length:=List.length_filter_le _ _
theorem YV:∀(a b:Flags),a.length=b.length→(∀i,T a i→T b i)→n3 a≤n3 b∧(n3 a=n3 b→a=b)
 | [],[],_,_=>⟨Nat.le_refl _,fun _=>rfl⟩
 | [],_ :: _,h,_=>by simp at h
 | _ :: _,[],h,_=>by simp at h
 | x :: a,y :: b,h,b3=>by
  obtain ⟨h1,h2⟩:=YV a b (by simpa using h) (fun i hi=>b3 (i+1) hi);have h0:x=true→y=true:=fun hx=>b3 0 hx
  unfold n3 at *;cases x <;> cases y <;> simp only [List.filter_cons,if_true,Bool.false_eq_true,if_false,List.length_cons]
  ·exact⟨h1,fun h=>by rw [h2 h]⟩
  ·exact⟨by omega,fun h=>by omega⟩
  ·exact absurd (h0 rfl) (by simp)
  ·exact⟨by omega,fun h=>by rw [h2 (by omega)]⟩
theorem ale{xs:Flags}{i:Nat}(h:T xs i):1≤n3 xs:=by
 have hm:true∈xs:=by
  unfold T I at h;rw [List.getD_eq_getElem?_getD] at h
  cases hx:xs[i]? with
  | none=>rw [hx] at h;simp at h;cases h
  | some b=>rw [hx] at h;have hb:b=true:=h;subst hb;exact List.mem_of_getElem? hx
 unfold n3;exact List.length_pos_of_mem (List.mem_filter.2 ⟨hm,rfl⟩)
theorem rounds(s:FS)(hl:s.gB l.length)(h:1≤n3 s.2):∀k,(dW k (fun _=>fG l) s).gB l.length∧(Ik l (dW k (fun _=>fG l) s)∨k+1≤n3 (dW k (fun _=>fG l) s).2)
 | 0=>⟨hl,.inr h⟩
 | k+1=>by
  obtain ⟨hk,ih⟩:=rounds s hl h k;rw [dW];generalize dW k (fun _=>fG l) s=t at *;have hr:=PS l hk;refine⟨hr,?_⟩;rcases ih with ih | ih
  ·exact .inl (alc l hk ih)
  ·obtain ⟨c1,gR⟩:=YV t.2 (fG l t).2 (by rw [hk.2,hr.2]) (Ij l t).2;by_cases hc:n3 t.2=n3 (fG l t).2
   ·left;have e:=gR hc;intro i hi ho d ah x hx;rw [← e] at ho;exact alb l hk hi ho ah hx
   ·right;omega
theorem PU(Pi fV:Nat→Prop)(wB:∀i,i<l.length→fV i→∀d,d∈an (I J l i)→∀x,bz l d.2.1=some x→Pi x∧fV x)(s:FS)(hl:s.gB l.length)(h1:∀i,T s.1 i→Pi i)(h2:∀i,T s.2 i→fV i) :
  ∀k,(dW k (fun _=>fG l) s).gB l.length∧(∀i,T (dW k (fun _=>fG l) s).1 i→Pi i)∧(∀i,T (dW k (fun _=>fG l) s).2 i→fV i)
 | 0=>⟨hl,h1,h2⟩
 | k+1=>by obtain ⟨g,g1,g2⟩:=PU Pi fV wB s hl h1 h2 k;exact⟨PS l g,YU l Pi fV wB g g1 g2⟩
theorem alf(s:FS):∀k,FS.le s (dW k (fun _=>fG l) s):=BD (fun _ s=>Ij l s) s
theorem PV(n i:Nat):¬T (fU n) i:=by unfold T I fU;rw [List.getD_eq_getElem?_getD,List.getElem?_replicate];split <;> simp [ae.zero]
theorem YW(id:Int):(dX l id).length=l.length:=by
 unfold dX;split
 ·simp [fU]
 ·exact(PU l (fun _=>True) (fun _=>True) (fun _ _ _ _ _ _ _=>⟨trivial,trivial⟩) _ ⟨by simp [fU],by simp [fU]⟩ (fun _ _=>trivial) (fun _ _=>trivial) _).1.1
theorem yL(ah:ix l)(id:Int){x:Nat}(hx:x<l.length):T (dX l id) x↔dY l id (I J l x).1:=by
 unfold dX
 cases ha:bz l id with
 | none=>
  constructor
  ·intro h;exact absurd h (PV _ _)
  ·intro h
   have:∀b,dY l id b→False:=by
    intro b hb
    induction hb with
    | single h=>obtain ⟨i,d,h1,_⟩:=h;rw [ha] at h1;cases h1
    | tail _ _ ih=>exact ih
   exact(this _ h).elim
 | some a=>
  obtain ⟨dB,alg⟩:=b5 ha;have jw:FS.gB l.length (fU l.length,(fU l.length).set a true):=⟨by simp [fU],by simp [fU]⟩;have ho:T ((fU l.length).set a true) a:=(wA (by simp [fU];exact dB)).2 (.inl rfl);constructor
  ·intro h;refine(PU l (fun y=>dY l id (I J l y).1) (fun y=>(I J l y).1=id∨dY l id (I J l y).1) ?_ _ jw (fun i h=>absurd h (PV _ _)) ?_ l.length).2.1 x h
   ·intro i hi yM d ig y aT;obtain ⟨hyl,yN⟩:=b5 aT;have he:E l (I J l i).1 (I J l y).1:=⟨i,d,ah i hi,ig,yN.symm⟩;rcases yM with yM | yM
    ·rw [yM] at he;exact⟨.single he,.inr (.single he)⟩
    ·exact⟨yM.tail he,.inr (yM.tail he)⟩
   ·intro i hi;rcases (wA (by simp [fU];exact dB)).1 hi with rfl | hi
    ·exact .inl alg
    ·exact absurd hi (PV _ _)
  ·intro h;obtain ⟨hlen,alh⟩:=rounds l _ jw (ale ho) l.length
   have hc:Ik l (dW l.length (fun _=>fG l) (fU l.length,(fU l.length).set a true)):=by
    rcases alh with h | h
    ·exact h
    ·have:=ald (dW l.length (fun _=>fG l) (fU l.length,(fU l.length).set a true)).2;rw [hlen.2] at this;omega
   show T (dW l.length (fun _=>fG l) (fU l.length,(fU l.length).set a true)).1 x;have ali:=(alf l (fU l.length,(fU l.length).set a true) l.length).2 a ho;generalize dW l.length (fun _=>fG l) (fU l.length,(fU l.length).set a true)=F at *
   have key:∀b,dY l id b→∀y,bz l b=some y→T F.1 y∧T F.2 y:=by
    intro b hb
    induction hb with
    | single h=>obtain ⟨i,d,h1,h2,h3⟩:=h;intro y aT;rw [ha] at h1;obtain rfl:=aZ h1;exact hc _ dB ali d h2 y (by rw [h3];exact aT)
    | tail _ h ih=>obtain ⟨i,d,h1,h2,h3⟩:=h;intro y aT;exact hc i (b5 h1).1 (ih i h1).2 d h2 y (by rw [h3];exact aT)
   exact(key _ h x (ah x hx)).1
end
section
variable(l:List aS)
def gK(q:Int):List aB.D:=
 match bz l q with
 | none=>[]
 | some i=>an (I J l i)
theorem PW{a b:Int} : E l a b↔∃d,d∈gK l a∧d.2.1=b:=by
 unfold E gK;constructor
 ·rintro ⟨i,d,h1,h2,h3⟩;rw [h1];exact⟨d,h2,h3⟩
 ·rintro ⟨d,h1,h2⟩
  cases hi:bz l a with
  | none=>rw [hi] at h1;simp at h1
  | some i=>rw [hi] at h1;exact⟨i,d,rfl,h1,h2⟩
def Il:List Int:=l.flatMap fun x=>(an x).map fun d=>d.2.1
theorem alj:(Il l).length=dE l:=by unfold Il dE;rw [List.length_flatMap];congr 1;simp
theorem alk{q:Int}{d:aB.D}(h:d∈gK l q):d.2.1∈Il l:=by
 unfold gK at h
 cases hi:bz l q with
 | none=>rw [hi] at h;simp at h
 | some i=>rw [hi] at h;exact List.mem_flatMap.2 ⟨_,cR (b5 hi).1,List.mem_map.2 ⟨d,h,rfl⟩⟩
theorem alm(q:Int):(gK l q).length≤dE l:=by
 unfold gK;split
 ·simp
 ·rename_i i hi;exact gk (b5 hi).1
def qh(out:List Int)(d:aB.D):List Int:=if d.2.1∈out then out else out++[d.2.1]
structure qi(id:Int)(out:List Int):Prop where
 BE:out.Nodup
 sub:out⊆Il l
 BF:∀b,b∈out→dY l id b
theorem qi.len{id:Int}{out:List Int}(h:qi l id out):out.length≤dE l:=by rw [← alj];exact h.BE.length_le_of_subset h.sub
theorem YX{id q:Int}{out:List Int}{d:aB.D}(h:qi l id out)(hq:q=id∨dY l id q)(ah:d∈gK l q):qi l id (qh out d):=by
 unfold qh;split
 ·exact h
 ·rename_i hn;have he:E l q d.2.1:=(PW l).2 ⟨d,ah,rfl⟩;refine⟨?_,?_,?_⟩
  ·rw [List.nodup_append];refine⟨h.BE,by simp,?_⟩;intro a ha b hb;rw [List.mem_singleton] at hb;subst hb
   rintro rfl
   exact hn ha
  ·intro a ha;rcases List.mem_append.1 ha with ha | ha
   ·exact h.sub ha
   ·rw [List.mem_singleton] at ha;rw [ha];exact alk l ah
  ·intro b hb;rcases List.mem_append.1 hb with hb | hb
   ·exact h.BF b hb
   ·rw [List.mem_singleton] at hb;rw [hb];rcases hq with rfl | hq
    ·exact .single he
    ·exact hq.tail he
theorem YY(out:List Int)(d:aB.D):∃t,qh out d=out++t:=by
 unfold qh;split
 ·exact⟨[],by simp⟩
 ·exact⟨_,rfl⟩
theorem aln(out:List Int)(d:aB.D):d.2.1∈qh out d:=by
 unfold qh;split
 ·assumption
 ·simp
def addN(q:Int)(out:List Int):List Int:=dW (gK l q).length (fun j o=>qh o (I aB (gK l q) j)) out
theorem alo{id q:Int}{out:List Int}(h:qi l id out)(hq:q=id∨dY l id q):qi l id (addN l q out)∧(∃t,addN l q out=out++t)∧∀d,d∈gK l q→d.2.1∈addN l q out:=by
 have key:=tq (n:=(gK l q).length) (f:=fun j o=>qh o (I aB (gK l q) j)) (fun j o=>qi l id o∧(∃t,o=out++t)∧∀k,k<j→(I aB (gK l q) k).2.1∈o) (fun j o hj ho=>by
  obtain ⟨h1,⟨t,ht⟩,h3⟩:=ho;refine⟨YX l h1 hq (cR hj),?_,?_⟩
  ·obtain ⟨cq,PX⟩:=YY o (I aB (gK l q) j);exact⟨t++cq,by rw [PX,ht,List.append_assoc]⟩
  ·intro k hk;by_cases rJ:k=j
   ·subst rJ;exact aln _ _
   ·obtain ⟨cq,PX⟩:=YY o (I aB (gK l q) j);rw [PX]
    exact List.mem_append.2 (.inl (h3 k (by omega)))) ⟨h,⟨[],by simp⟩,fun k hk=>by omega⟩
 obtain ⟨k1,k2,k3⟩:=key;refine⟨k1,k2,fun d ah=>?_⟩;obtain ⟨i,hi,he⟩:=fb ah;rw [← he];exact k3 i hi
end
structure Found(l:List aS)(id:Int)(out:List Int):Prop where
 BE:out.Nodup
 iff:∀b,b∈out↔dY l id b
 len:out.length≤dE l
theorem YZ{l:List aS}{id:Int}{out:List Int}(h:qi l id out)(hc:∀q,q=id∨q∈out→∀d,d∈gK l q→d.2.1∈out):Found l id out:=by
 refine⟨h.BE,fun b=>⟨h.BF b,fun hb=>?_⟩,h.len⟩
 induction hb with
 | single he=>obtain ⟨d,h1,rfl⟩:=(PW l).1 he;exact hc id (.inl rfl) d h1
 | tail _ he ih=>obtain ⟨d,h1,rfl⟩:=(PW l).1 he;exact hc _ (.inr ih) d h1
theorem alp(v:af.D)(hl:v.2.1.length≤1048576)(hn:dE v.2.1≤1048576)(id:Int):∀(r i:Nat) (out:List Int),i+r=dE v.2.1+1→qi v.2.1 id out→i≤out.length+1 →
  (∀k,k<i→∀d,d∈gK v.2.1 (I (.int .i64) (id :: out) k)→d.2.1∈out) →
  ∃BG,Found v.2.1 id BG∧b8 (fun m=>(mW m).bg v (i:Int) out (id :: out)) (1+r*1048580) (some (BG,())):=by
 intro r
 induction r with
 | zero=>
  intro i out hi ho alq hc;have:=ho.len;have gw:i=out.length+1:=by omega
  refine⟨out,YZ ho fun q hq d ah=>?_,(b8.done fun m=>?_).mono (by omega)⟩
  ·rcases hq with rfl | hq
   ·exact hc 0 (by omega) d ah
   ·obtain ⟨k,hk,he⟩:=fb (t:=.int .i64) hq;exact hc (k+1) (by omega) d (by rw [show I (.int .i64) (id :: out) (k+1)=I (.int .i64) out k from rfl,he];exact ah)
  ·show q1 (mW m) _ _ _ _=_;unfold q1;rw [show(id :: out).length=i by rw [List.length_cons,gw],cA (Nat.le_refl _)];rfl
 | succ r ih=>
  intro i out hi ho alq hc;by_cases b2:i<out.length+1
  case neg=>
   have gw:i=out.length+1:=by omega
   refine⟨out,YZ ho fun q hq d ah=>?_,(b8.done fun m=>?_).mono (by omega)⟩
   ·rcases hq with rfl | hq
    ·exact hc 0 (by omega) d ah
    ·obtain ⟨k,hk,he⟩:=fb (t:=.int .i64) hq;exact hc (k+1) (by omega) d (by rw [show I (.int .i64) (id :: out) (k+1)=I (.int .i64) out k from rfl,he];exact ah)
   ·show q1 (mW m) _ _ _ _=_;unfold q1;rw [show(id :: out).length=i by rw [List.length_cons,gw],cA (Nat.le_refl _)];rfl
  generalize hq:I (.int .i64) (id :: out) i=q at *
  have Y0:q=id∨dY v.2.1 id q:=by
   cases i with
   | zero=>left;rw [← hq];rfl
   | succ k=>right;refine ho.BF q ?_;rw [← hq];exact cR (t:=.int .i64) (xs:=out) (by omega)
  obtain ⟨k1,⟨t,ht⟩,k3⟩:=alo v.2.1 ho Y0;have hpre:∀k,k<out.length+1→I (.int .i64) (id ::(out++t)) k=I (.int .i64) (id :: out) k:=by intro k hk;unfold I;rw [List.getD_eq_getElem?_getD,List.getD_eq_getElem?_getD,← List.cons_append,List.getElem?_append_left (by simpa using hk)]
  obtain ⟨BG,f1,f2⟩:=ih (i+1) (addN v.2.1 q out) (by omega) k1 (by rw [ht];simp;omega) (fun k hk d ah=>by
   by_cases im:k=i
   ·subst im;rw [ht,hpre k b2,hq] at ah;exact k3 d ah
   ·rw [ht,hpre k (by omega)] at ah;rw [ht]
    exact List.mem_append.2 (.inl (hc k (by omega) d ah)))
  refine⟨BG,f1,?_⟩;have hol:=ho.len;have pa:i<4000000000000000000:=by omega
  cases hx:bz v.2.1 q with
  | none=>
   have ka:gK v.2.1 q=[]:=by unfold gK;rw [hx]
   have Im:addN v.2.1 q out=out:=by unfold addN;rw [ka];rfl
   rw [Im] at f2;refine(f2.step (f:=fun m=>(mW m).bg v (i:Int) out (id :: out)) fun m=>?_).mono (by omega);show q1 (mW m) _ _ _ _=_;unfold q1;rw [b9 (by simpa using b2),bu (by simpa using b2)];simp only [cond_true,aw,Nat.zero_add];rw [hq,yJ v q hl];simp only [aw];rw [hx,dv i pa];rfl
  | some x=>
   have ka:gK v.2.1 q=an (I J v.2.1 x):=by unfold gK;rw [hx]
   have hnl:=alm v.2.1 q
   have inner:=tr (gK v.2.1 q).length 1 (fun m j (o:List Int)=>(mW m).eY v (i:Int) (gK v.2.1 q) ((gK v.2.1 q).length:Int) (j:Int) o (id :: o)) (fun j o=>qh o (I aB (gK v.2.1 q) j)) (fun j o=>qi v.2.1 id o) (fun j o hj ho=>YX v.2.1 ho Y0 (cR hj)) (fun j o hj ho B y he=>by
    refine he.step fun m=>?_
    have hol:=ho.len;show Am (mW m) _ _ _ _ _ _ _=_;unfold Am;rw [b9 hj,bu hj];simp only [cond_true,aw];rw [contains_eq _ _ (by omega)];simp only [aw];rw [dv j (by omega)];unfold qh;by_cases hm:(I aB (gK v.2.1 q) j).2.1∈o
    ·rw [decide_eq_true hm,if_pos hm];rfl
    ·rw [decide_eq_false hm,if_neg hm,b7 (by simp;omega),b7 (by simp;omega)];rfl) out ho (1+r*1048580+1) (some (BG,())) (by
    refine f2.step fun m=>?_
    show Am (mW m) _ _ _ _ _ _ _=_;unfold Am;rw [cA (Nat.le_refl _)];simp only [cond_false]
    rw [dv i pa];rfl)
   refine(inner.step (f:=fun m=>(mW m).bg v (i:Int) out (id :: out)) fun m=>?_).mono (by omega);show q1 (mW m) _ _ _ _=_;unfold q1;rw [b9 (by simpa using b2),bu (by simpa using b2)];simp only [cond_true,aw,Nat.zero_add];rw [hq,yJ v q hl];simp only [aw];rw [hx,ka];rfl
theorem PY(v:af.D)(hl:v.2.1.length≤1048576)(hn:dE v.2.1≤1048576)(id:Int):∃out,Found v.2.1 id out∧u6 (v,id,())=some (out,()):=by obtain ⟨out,h1,h2⟩:=alp v hl hn id (dE v.2.1+1) 0 [] (by omega) ⟨by simp,by simp,by simp⟩ (by simp) (fun k hk=>by omega);refine⟨out,h1,?_⟩;show Eo (mW aN) v id=_;unfold Eo;have hm:(dE v.2.1+1)*1048580≤1048577*1048580:=Nat.mul_le_mul_right _ (by omega);exact lH h2 (by omega)
theorem BH{β : Type}(n W:Nat)(F:Nat→Nat → β)(P:Nat→Bool)(no E : β)(B:Nat)
  (hs:∀i,i<n→(∀j,j<i→P j=true)→P i=true→∀B y,b8 (fun m=>F m (i+1)) B y→b8 (fun m=>F m i) (B+W) y)
  (hx:∀i,i<n→(∀j,j<i→P j=true)→P i=false→b8 (fun m=>F m i) W no)
  (me:(∀j,j<n→P j=true)→b8 (fun m=>F m n) B E):b8 (fun m=>F m 0) (B+n*W) (cond (eo n P) E no):=by
 have key:∀r i,i+r=n→(∀j,j<i→P j=true)→b8 (fun m=>F m i) (B+r*W) (cond (eo n P) E no):=by
  intro r
  induction r with
  | zero=>
   intro i hi av;have:i=n:=by omega
   subst this;rw [iu.2 av];simpa using me av
  | succ r ih=>
   intro i hi av;cases Io:P i
   ·have:eo n P=false:=by
     rw [← Bool.not_eq_true];intro h;have:=iu.1 h i (by omega);rw [Io] at this;cases this
    rw [this];refine(hx i (by omega) av Io).mono ?_;rw [Nat.add_one_mul];omega
   ·have:=hs i (by omega) av Io _ _ (ih (i+1) (by omega) fun j hj=>by
     by_cases h:j=i
     ·subst h;exact Io
     ·exact av j (by omega))
    rw [Nat.add_one_mul,← Nat.add_assoc];exact this
 exact key n 0 (by omega) (by intro j hj;omega)
def fh(x:aS):Int:=x.2.2.2.2.2.2.2.1
def eZ(x:aS):Int:=x.2.2.2.2.2.2.2.2.1
def plain(x:aS):Bool:=((an x).length:Int)==0&&fh x==0&&eZ x==0
def pb(l:List aS)(N:List aB.D)(j:Nat):Bool:=
 iw (I aB N j).1 && !(decide (0<j) && !dG (I aB N (j-1)).1 (I aB N j).1) && !((I aB N j).2.1==1)&&(bz l (I aB N j).2.1).isSome
def ts(l:List aS)(x:aS):Bool:=eo (an x).length (pb l (an x))&&decide (((an x).length:Int)≤12)
def n4(l:List aS)(x:aS):Bool:=
 cz x.2.2.1 0 2047&&cz x.2.2.2.1 0 1000&&cz x.2.2.2.2.1 0 1000 &&
  cond (x.2.1==1) (plain x&&decide (((bT x).length:Int)≤64))
   (cond (x.2.1==3) (plain x&&jO (bT x)&&x.2.2.1==511)
    (cond (x.2.1==2) (bD (bT x) []&&cz (fh x) 0 400&&cz (eZ x) 0 24&&ts l x) false))
theorem alr(v:af.D)(x:aS)(hl:v.2.1.length≤1048576)(hn:(an x).length≤1048576)(hs:∀d,d∈an x→d.1.length≤1048576):LR (v,x,())=some (ts v.2.1 x,()):=by
 show Eg (u3 aN) v x=_;unfold Eg ts;refine n1 (an x).length (by omega) (pb v.2.1 (an x)) _ (fun m i=>u3 m v (an x) ((an x).length:Int) i x) ?_ ?_
 ·intro m _;simp only [u3,Eh];rw [cA (Nat.le_refl _)];rfl
 ·intro m i hi _ hw;simp only [u3,Eh,hw];rw [b9 hi,bu hi];simp only [cond_true,aw];rw [ak8 _ (by have:=hs _ (cR hi);omega)];simp only [aw];rw [yJ v _ hl];simp only [aw];unfold pb
  cases i with
  | zero=>simp only [wy,Nat.lt_irrefl,decide_false,cond_false,Bool.false_and,Bool.not_false,Bool.and_true];cases iw (I aB (an x) 0).1 <;> cases (I aB (an x) 0).2.1==1 <;> cases (bz v.2.1 (I aB (an x) 0).2.1) <;> rfl
  | succ i=>rw [show(List.length x.2.2.2.2.2.2.1)=(an x).length from rfl,wx hi (by omega)];simp only [wz,Nat.zero_lt_succ,decide_true,cond_true,aw,Nat.add_sub_cancel,Bool.true_and];rw [show(I aB x.2.2.2.2.2.2.1 i)=I aB (an x) i from rfl];cases iw (I aB (an x) (i+1)).1 <;> cases (I aB (an x) (i+1)).2.1==1 <;> cases (bz v.2.1 (I aB (an x) (i+1)).2.1) <;> cases dG (I aB (an x) i).1 (I aB (an x) (i+1)).1 <;> rfl
theorem als(v:af.D)(x:aS)(hl:v.2.1.length≤1048576)(hn:(an x).length≤1048576)(q:Nat)(hq:(an x).length<q):(rh q).m0 0 v x=some (eo (an x).length (pb v.2.1 (an x)),()):=by
 have:=n1 (an x).length (by omega) (pb v.2.1 (an x)) true (fun m i=>(rh m).m0 i v x) (by
  intro m _;show AI (rh m) _ _ _=_;unfold AI;show cond (decide (((an x).length:Int)<((an x).length:Int))) _ _=_
  rw [cA (Nat.le_refl _)];rfl) (by
  intro m i hi _ hw;show AI (rh m) _ _ _=_;unfold AI;show cond (decide ((i:Int)<((an x).length:Int))) ((aM (an x).length (i:Int)).bind _) _=_;rw [b9 hi,bu hi];simp only [cond_true,aw,hw];rw [ak7];simp only [aw];rw [n2 v _ hl];simp only [aw,BB];unfold pb;rw [show(x.2.2.2.2.2.2.1)=an x from rfl]
  cases i with
  | zero=>simp only [wy,Nat.lt_irrefl,decide_false,cond_false,Bool.false_and,Bool.not_false,Bool.and_true];cases iw (I aB (an x) 0).1 <;> cases (I aB (an x) 0).2.1==1 <;> cases (bz v.2.1 (I aB (an x) 0).2.1) <;> rfl
  | succ i=>
   rw [wx hi (by omega)];simp only [wz,Nat.zero_lt_succ,decide_true,cond_true,aw,Nat.add_sub_cancel,Bool.true_and]
   cases iw (I aB (an x) (i+1)).1 <;> cases (I aB (an x) (i+1)).2.1==1 <;> cases (bz v.2.1 (I aB (an x) (i+1)).2.1) <;> cases dG (I aB (an x) i).1 (I aB (an x) (i+1)).1 <;> rfl) q hq
 rw [Bool.and_true] at this;exact this
theorem Y1(v:af.D)(x:aS)(hl:v.2.1.length≤1048576)(hn:(an x).length≤1048576):F2 (v,x,())=some (n4 v.2.1 x,()):=by
 obtain ⟨q,hq,ij⟩:=iS 1;show FZ (rh aN) v x=_;rw [hq];unfold FZ;have hk:∀b,(rh (q+1)).bg b v x=Ni (rh q) b v x:=fun _=>rfl
 simp only [hk];unfold Ni;rw [als v x hl hn q (by omega),YL];simp only [hO,aw,kW];congr 2;unfold n4 ts plain fh eZ bT;rw [show(x.2.2.2.2.2.2.1)=an x from rfl];generalize eo (an x).length (pb v.2.1 (an x))=A;generalize jO x.2.2.2.2.2.1=alu;generalize bD x.2.2.2.2.2.1 []=alv;generalize x.2.2.2.2.2.1.length=alw;generalize (an x).length=alx;generalize x.2.2.2.2.2.2.2.1=aly;generalize x.2.2.2.2.2.2.2.2.1=alz;simp only [cz];rw [Bool.eq_iff_iff];simp only [Bool.cond_eq_ite,Bool.ite_eq_true_distrib,Bool.and_eq_true,Bool.or_eq_true,Bool.not_eq_true',decide_eq_true_eq,beq_iff_eq,decide_eq_false_iff_not]
 grind (splits:=60)
theorem Y2(v:af.D)(x:aS)(hl:v.2.1.length≤1048576)(hn:(an x).length≤1048576)(hs:∀d,d∈an x→d.1.length≤1048576)(ah:(bT x).length≤1048576):Ek (v,x,())=some (n4 v.2.1 x,()):=by
 obtain ⟨q,hq,ij⟩:=iS 1;show Ej (Al aN) v x=_;rw [hq];unfold Ej;simp only [Al,LS];rw [alr v x hl hn hs,PK _ (by unfold bT at ah;omega)];simp only [g_,aw,kW];congr 2;unfold n4 ts plain fh eZ bT;rw [show(x.2.2.2.2.2.2.1)=an x from rfl];generalize eo (an x).length (pb v.2.1 (an x))=A;generalize jO x.2.2.2.2.2.1=alu;generalize bD x.2.2.2.2.2.1 []=alv;generalize x.2.2.2.2.2.1.length=alw;generalize (an x).length=alx;generalize x.2.2.2.2.2.2.2.1=aly;generalize x.2.2.2.2.2.2.2.2.1=alz;simp only [cz];rw [Bool.eq_iff_iff];simp only [Bool.cond_eq_ite,Bool.ite_eq_true_distrib,Bool.and_eq_true,Bool.or_eq_true,Bool.not_eq_true',decide_eq_true_eq,beq_iff_eq,bne_iff_ne,decide_eq_false_iff_not]
 grind (splits:=60)
section
variable(l:List aS)
def pc(F:Flags):List Nat:=(List.range l.length).filter fun i=>I .bool F i
def dl(i:Nat):Nat:=(bT (I J l i)).length
def jQ(F:Flags):Nat:=((pc l F).map (dl l)).sum
def kb(F:Flags):Nat:=(pc l F).length
def pre(F:Flags)(i:Nat):List Nat:=(List.range i).filter fun i=>I .bool F i
theorem PZ(F:Flags)(i:Nat):pre F (i+1)=pre F i++cond (I .bool F i) [i] []:=by unfold pre;rw [List.range_succ,List.filter_append];cases h:I .bool F i <;> simp [List.filter_cons,h]
theorem Y3(F:Flags){i:Nat}(hi:i≤l.length):((pre F i).map (dl l)).sum≤bytesOf (l.take i)∧(pre F i).length≤i:=by
 induction i with
 | zero=>simp [pre]
 | succ i ih=>
  obtain ⟨h1,h2⟩:=ih (by omega);rw [PZ,yK (by omega)];cases I .bool F i
  ·simp only [cond_false,List.append_nil];omega
  ·simp only [cond_true,List.map_append,List.sum_append_nat,List.length_append,List.map_cons,List.map_nil,List.sum_cons,List.sum_nil,List.length_cons,List.length_nil];have:dl l i=(bT (I J l i)).length:=rfl;omega
end
theorem Y4(v:af.D)(id:Int)(hl:v.2.1.length≤1048576)(hn:dE v.2.1≤1048576)(hb:bytesOf v.2.1≤1048576) :
  AP (v,id,())=some ((jQ v.2.1 (dX v.2.1 id):Int),(kb v.2.1 (dX v.2.1 id):Int),()):=by
 show Ga (vC aN) v id=_;unfold Ga;rw [YP v id hl hn];simp only [aw];have hF:=YW v.2.1 id;generalize dX v.2.1 id=F at *
 have:=m5 v.2.1.length (by omega) (fun m i=>vC m (((pre F i.toNat).map (dl v.2.1)).sum:Nat) ((pre F i.toNat).length:Nat) i v F) (fun _=>some ((jQ v.2.1 F:Int),(kb v.2.1 F:Int),())) (fun _=>True) (fun m _=>by
  simp only [vC,Gb]
  rw [hF,cA (Nat.le_refl _)];rfl) (fun m i hi _ hw ih=>by
  have ih:=ih trivial;simp only [vC,Gb,hw];rw [hF,b9 hi,bu hi];simp only [cond_true,aw,Int.toNat_natCast,Nat.zero_add];rw [show((i:Int)+1).toNat=i+1 by omega,PZ] at ih;have h1:=Y3 v.2.1 F (i:=i) (by omega);have h3:=Y3 v.2.1 F (i:=i+1) (by omega);have h2:=Ib v.2.1 (i+1);rw [PZ] at h3;cases hf:I .bool F i
  ·rw [hf] at ih;simp only [cond_false,List.append_nil] at ih ⊢;exact ih
  ·rw [hf] at ih h3;simp only [cond_true,List.map_append,List.sum_append_nat,List.length_append,List.map_cons,List.map_nil,List.sum_cons,List.sum_nil,List.length_cons,List.length_nil,Nat.add_zero,Nat.zero_add] at ih h3 ⊢;rw [show((I J v.2.1 i).2.2.2.2.2.1).length=dl v.2.1 i from rfl,dv _ (by omega),cT (by omega) (by omega),← Int.natCast_add]
   exact ih) v.2.1.length 0 aN (by omega) (jN (by omega)) trivial
 simpa [pre] using this
def n5(l:List aS)(b:Int):Nat:=
 match bz l b with
 | none=>0
 | some i=>dl l i
theorem Y5{l:List aS}(b:Int):n5 l b≤bytesOf l:=by
 unfold n5;split
 ·omega
 ·rename_i i hi;have h1:=yK (b5 hi).1;have h2:=Ib l (i+1);unfold dl;omega
theorem Y6(v:af.D)(id:Int)(hl:v.2.1.length≤1048576)(hn:dE v.2.1≤1048576)(hb:bytesOf v.2.1≤1048576) :
  ∃out,Found v.2.1 id out∧Ap (v,id,())=some ((((out.map (n5 v.2.1)).sum:Nat):Int),(out.length:Int),()):=by
 obtain ⟨out,hf,he⟩:=PY v hl hn id;refine⟨out,hf,?_⟩;show Ev (q2 aN) v id=_;unfold Ev;rw [he];simp only [aw];have hol:=hf.len
 have hb2:∀i,i≤out.length→((out.take i).map (n5 v.2.1)).sum≤i*1048576:=by
  intro i
  induction i with
  | zero=>intro _;simp
  | succ i ih=>intro hi;rw [List.take_succ_eq_append_getElem (by omega),List.map_append,List.sum_append_nat];have:=ih (by omega);have:=Y5 (l:=v.2.1) out[i];simp only [List.map_cons,List.map_nil,List.sum_cons,List.sum_nil];omega
 have:=m5 out.length (by omega) (fun m i=>q2 m v (((out.take i.toNat).map (n5 v.2.1)).sum:Nat) (out.length:Int) i out) (fun _=>some ((((out.map (n5 v.2.1)).sum:Nat):Int),(out.length:Int),())) (fun _=>True) (fun m _=>by
  simp only [q2,Ew];rw [cA (Nat.le_refl _)]
  simp only [Int.toNat_natCast,List.take_length,cond_false]) (fun m i hi _ hw ih=>by
  have ih:=ih trivial;simp only [q2,Ew,hw];rw [b9 hi,bu hi];simp only [cond_true,aw,Int.toNat_natCast,Nat.zero_add];rw [yJ v _ hl];simp only [aw];rw [show((i:Int)+1).toNat=i+1 by omega,List.take_succ_eq_append_getElem hi,List.map_append,List.sum_append_nat] at ih;simp only [List.map_cons,List.map_nil,List.sum_cons,List.sum_nil,Nat.add_zero] at ih;have aI:I (.int .i64) out i=out[i]:=c0 (t:=.int .i64) hi;rw [aI];have h2:=hb2 i (by omega);have h3:=Y5 (l:=v.2.1) out[i];have h4:i*1048576≤1048576*1048576:=Nat.mul_le_mul_right _ (by omega);unfold n5 at ih h3
  cases hx:bz v.2.1 out[i] with
  | none=>rw [hx] at ih;exact ih
  | some x=>
   rw [hx] at ih h3;show q2 m v (aH (_ +(((I J v.2.1 x).2.2.2.2.2.1).length:Int))) _ _ _=_;have h3:dl v.2.1 x≤bytesOf v.2.1:=h3;have ih:q2 m v ((List.map (n5 v.2.1) (out.take i)).sum+dl v.2.1 x:Nat) (out.length:Int) ((i:Int)+1) out=_:=ih;rw [show((I J v.2.1 x).2.2.2.2.2.1).length=dl v.2.1 x from rfl,cT (by omega) (by omega),← Int.natCast_add]
   exact ih) out.length 0 aN (by omega) (jN (by omega)) trivial
 simpa using this
theorem Y7{l:List aS}(ah:ix l)(hx:rI l){id:Int}{out:List Int}(h:Found l id out):(out.map (n5 l)).sum=jQ l (dX l id)∧out.length=kb l (dX l id):=by
 have iq:((pc l (dX l id)).map fun i=>(I J l i).1).Nodup:=by
  have h0:(pc l (dX l id)).Nodup:=(List.nodup_range).filter _;unfold List.Nodup at h0 ⊢;rw [List.pairwise_map];refine h0.imp_of_mem fun {a b} ha hb l4 he=>l4 ?_
  have ha:=(List.mem_filter.1 ha).1;have hb:=(List.mem_filter.1 hb).1;have h1:=ah a (by simpa using ha);have h2:=ah b (by simpa using hb);rw [he,h2] at h1;exact(aZ h1).symm
 have av:out.Perm ((pc l (dX l id)).map fun i=>(I J l i).1):=by
  rw [List.perm_ext_iff_of_nodup h.BE iq];intro b;rw [h.iff];constructor
  ·intro hb
   have hex:∃i,bz l b=some i:=by
    cases hb with
    | single he=>obtain ⟨i,d,h1,h2,rfl⟩:=he;exact Option.isSome_iff_exists.1 (hx i (b5 h1).1 d h2)
    | tail _ he=>obtain ⟨i,d,h1,h2,rfl⟩:=he;exact Option.isSome_iff_exists.1 (hx i (b5 h1).1 d h2)
   obtain ⟨i,hi⟩:=hex;obtain ⟨h1,h2⟩:=b5 hi;refine List.mem_map.2 ⟨i,List.mem_filter.2 ⟨by simpa using h1,?_⟩,h2⟩;exact(yL l ah id h1).2 (by rw [h2];exact hb)
  ·intro hb;obtain ⟨i,hi,rfl⟩:=List.mem_map.1 hb;obtain ⟨h1,h2⟩:=List.mem_filter.1 hi;exact(yL l ah id (by simpa using h1)).1 h2
 refine⟨?_,by rw [av.length_eq,List.length_map];rfl⟩;rw [(av.map (n5 l)).sum_nat,List.map_map];unfold jQ;congr 1;refine List.map_congr_left fun i hi=>?_
 have h1:=(List.mem_filter.1 hi).1;show n5 l (I J l i).1=dl l i;unfold n5;rw [ah i (by simpa using h1)]
def jx(l:List aS)(x:aS):Bool:=
 (decide (fh x>0)&&decide ((jQ l (dX l x.1):Int)>fh x))||(decide (eZ x>0)&&decide ((kb l (dX l x.1):Int)>eZ x))
def gl(l:List aS):Bool:=cond (eo l.length fun i=> !jx l (I J l i)) false true
theorem alA(v:af.D)(x:aS)(hl:v.2.1.length≤1048576)(hn:dE v.2.1≤1048576)(hb:bytesOf v.2.1≤1048576)(ah:ix v.2.1)(hx:rI v.2.1):LX (v,x,())=some (jx v.2.1 x,()):=by
 show LW v x=_;unfold LW;obtain ⟨out,hf,he⟩:=Y6 v x.1 hl hn hb;rw [he];obtain ⟨h1,h2⟩:=Y7 ah hx hf;rw [h1,h2];simp only [aw,kW];congr 2;unfold jx fh eZ;generalize (jQ v.2.1 (dX v.2.1 x.1):Int)=B;generalize (kb v.2.1 (dX v.2.1 x.1):Int)=N;rw [Bool.eq_iff_iff];simp only [Bool.cond_eq_ite,Bool.ite_eq_true_distrib,Bool.and_eq_true,Bool.or_eq_true,decide_eq_true_eq]
 grind
theorem Y8(v:af.D)(hl:v.2.1.length≤1048576)(hn:dE v.2.1≤1048576)(hb:bytesOf v.2.1≤1048576)(ah:ix v.2.1)(hx:rI v.2.1):Aq (v.2.1,v,())=some (gl v.2.1,()):=by
 show LZ v.2.1 v=_;unfold LZ
 have h:LY (v.2.1,v,())=some (hP (fA v.2.1.length fun i=>jx v.2.1 (I J v.2.1 i)),()):=by
  show Ey (u_ aN) v.2.1 v=_;unfold Ey;refine tn v.2.1.length (by omega) _ (fun o=>some (hP o,())) (fun m i=>u_ m v.2.1 v (v.2.1.length:Int) i) ?_ ?_
  ·intro m;simp only [u_,Ez];rw [cA (Nat.le_refl _)];rfl
  ·intro m i hi hw;simp only [u_,Ez,hw];rw [b9 hi,bu hi];simp only [cond_true,aw];rw [alA v _ hl hn hb ah hx];rfl
 rw [h];simp only [aw,BC];congr 2;unfold gl
 cases hf:fA v.2.1.length fun i=>jx v.2.1 (I J v.2.1 i) with
 | none=>rw [iu.2 (fun i hi=>by rw [mi.1 hf i hi];rfl)];rfl
 | some i=>
  obtain ⟨h1,h2,_⟩:=iv.1 hf;have:eo v.2.1.length (fun i=> !jx v.2.1 (I J v.2.1 i))=false:=by rw [← Bool.not_eq_true];intro h;have:=iu.1 h i h1;rw [h2] at this;cases this
  rw [this];rfl
theorem Y9(v:af.D)(hl:v.2.1.length≤1048576)(hn:dE v.2.1≤1048576)(hb:bytesOf v.2.1≤1048576)(hk:∀i,i<v.2.1.length→(I J v.2.1 i).2.1≠2→fh (I J v.2.1 i)=0∧eZ (I J v.2.1 i)=0):Gd (v,())=some (gl v.2.1,()):=by
 show Gc (kr aN) v=_;unfold Gc;have h0:∀x:aS,fh x=0→eZ x=0→jx v.2.1 x=false:=by intro x h1 h2;unfold jx;rw [h1,h2];rfl
 have Y_:∀(m i:Nat),i<v.2.1.length→(kr (m+1)).k2 (i:Int) v=cond ((I J v.2.1 i).2.1 != 2) ((kr m).k2 ((i+1:Nat):Int) v) (cond (fh (I J v.2.1 i)==0) (cond (eZ (I J v.2.1 i)==0) ((kr m).k2 ((i+1:Nat):Int) v) ((kr m).du (i:Int) v (I J v.2.1 i))) ((kr m).du (i:Int) v (I J v.2.1 i))):=by intro m i hi;show AQ (kr m) _ _=_;unfold AQ;rw [b9 hi,bu hi];simp only [cond_true,aw];rw [dv i (by omega)];rfl
 have Y':∀(m i:Nat) (x:aS),i<v.2.1.length→(kr (m+1)).du (i:Int) v x=cond (jx v.2.1 x) (some (true,())) ((kr m).k2 ((i+1:Nat):Int) v):=by intro m i x hi;show Nj (kr m) _ _ _=_;unfold Nj;rw [Y4 v _ hl hn hb];simp only [aw];rw [dv i (by omega)];unfold jx fh eZ;generalize decide (x.2.2.2.2.2.2.2.1>0)=a;generalize decide ((jQ v.2.1 (dX v.2.1 x.1):Int)>x.2.2.2.2.2.2.2.1)=b;generalize decide (x.2.2.2.2.2.2.2.2.1>0)=c;generalize decide ((kb v.2.1 (dX v.2.1 x.1):Int)>x.2.2.2.2.2.2.2.2.1)=d;cases a <;> cases b <;> cases c <;> cases d <;> rfl
 have key:=BH v.2.1.length 2 (fun m i=>(kr m).k2 (i:Int) v) (fun i=> !jx v.2.1 (I J v.2.1 i)) (some (true,())) (some (false,())) 1 (fun i hi _ av B y he=>by
  have av:jx v.2.1 (I J v.2.1 i)=false:=by simpa using av
  have br:b8 (fun m=>(kr m).du (i:Int) v (I J v.2.1 i)) (B+1) y:=he.step fun m=>by rw [Y' m i _ hi,av];rfl
  intro m hm;obtain ⟨m,rfl⟩:∃k,m=k+1:=⟨m-1,by omega⟩
  show(kr (m+1)).k2 (i:Int) v=y;rw [Y_ m i hi];have e1:=he m (by omega);have e2:=br m (by omega);simp only at e1 e2;rw [e1,e2]
  cases (I J v.2.1 i).2.1 != 2 <;> cases fh (I J v.2.1 i)==0 <;> cases eZ (I J v.2.1 i)==0 <;> rfl) (fun i hi _ av=>by
  have av:jx v.2.1 (I J v.2.1 i)=true:=by simpa using av
  intro m hm;obtain ⟨m,rfl⟩:∃k,m=k+2:=⟨m-2,by omega⟩
  show(kr (m+1+1)).k2 (i:Int) v=_;rw [Y_ (m+1) i hi,Y' m i _ hi,av]
  have k1:((I J v.2.1 i).2.1 != 2)=false:=by
   rw [bne_eq_false_iff_eq];by_cases h:(I J v.2.1 i).2.1=2
   ·exact h
   ·obtain ⟨g1,g2⟩:=hk i hi h;rw [h0 _ g1 g2] at av;cases av
  rw [k1];cases g1:fh (I J v.2.1 i)==0 <;> cases g2:eZ (I J v.2.1 i)==0 <;> try rfl
  rw [h0 _ (by simpa using g1) (by simpa using g2)] at av;cases av) (fun _=>b8.done fun m=>by
  show AQ (kr m) _ _=_;unfold AQ
  rw [cA (Nat.le_refl _)];rfl)
 have:=lH key (by omega);rw [show(((0:Nat):Int))=0 from rfl] at this;rw [this];unfold gl;cases eo v.2.1.length fun i=> !jx v.2.1 (I J v.2.1 i) <;> rfl
theorem Bx{α : Type}{f g : α → Nat} : ∀(l:List α),(∀x,x∈l→f x≤g x)→(l.map f).sum≤(l.map g).sum
 | [],_=>by simp
 | x :: l,h=>by
  simp only [List.map_cons,List.sum_cons];have:=Bx l fun y aT=>h y (List.mem_cons_of_mem _ aT)
  have:=h x List.mem_cons_self;omega
theorem Ip{α : Type}{f : α → Nat} : ∀ {l:List α} {x : α},x∈l→f x≤(l.map f).sum
 | y :: l,x,h=>by
  simp only [List.map_cons,List.sum_cons];rcases List.mem_cons.1 h with rfl | h
  ·omega
  ·have:=Ip (f:=f) h;omega
theorem Iq(x:aS):ae.cost J x=(bT x).length+ae.cost (.sl aB) (an x):=by simp only [yF,yG,yH,yI,YH,PI,Nat.zero_add,Nat.add_zero];rfl
theorem Za(d:aB.D):ae.cost aB d=d.1.length:=by simp only [yF,yG,yH,yI,YH,PI,Nat.zero_add,Nat.add_zero]
def rK(x:aS):Nat:=ae.cost J x
theorem Ir(v:af.D):ae.cost af v=v.2.1.length +(v.2.1.map rK).sum:=by
 have h:ae.cost af v=ae.cost (.sl J) v.2.1:=by simp only [yF,yG,yH,yI,Nat.zero_add,Nat.add_zero]
 rw [h,H_];rfl
structure Is(v:af.D):Prop where
 len:v.2.1.length≤1048576
 c6:dE v.2.1≤1048576
 bytes:bytesOf v.2.1≤1048576
 each:∀x,x∈v.2.1→(an x).length≤1048576∧(bT x).length≤1048576∧∀d,d∈an x→d.1.length≤1048576
theorem P0{v:af.D}(h:ae.cost af v≤1048576):Is v:=by
 rw [Ir] at h;refine⟨by omega,?_,?_,fun x hx=>?_⟩
 ·have:=Bx (f:=fun y:aS=>(an y).length) (g:=rK) v.2.1 fun x _=>by
   unfold rK;rw [Iq];have:=H9 (t:=aB) (an x);omega
  unfold dE;omega
 ·have:=Bx (f:=fun y:aS=>(bT y).length) (g:=rK) v.2.1 fun x _=>by
   unfold rK;rw [Iq];omega
  unfold bytesOf;omega
 ·have h1:=Ip (f:=rK) hx;unfold rK at h1;rw [Iq] at h1;have h:v.2.1.length +(v.2.1.map fun y=>ae.cost J y).sum≤1048576:=h;have h1:(bT x).length+ae.cost (.sl aB) (an x)≤(v.2.1.map fun y=>ae.cost J y).sum:=h1;have h2:=H9 (t:=aB) (an x);refine⟨by omega,by omega,fun d ah=>?_⟩;obtain ⟨i,hi,he⟩:=fb ah;have h3:=ak4 (t:=aB) hi;rw [he,Za] at h3;omega
def m7(v:af.D)(i:Nat):Bool:=
 cz (I J v.2.1 i).1 1 (aH (v.1-1)) && !(decide (0<i)&&decide ((I J v.2.1 (i-1)).1≥(I J v.2.1 i).1))&&n4 v.2.1 (I J v.2.1 i)
def kx(l:List aS)(i:Nat):Bool:=
 I .bool (dX l 1) (i+1) && !((I J l (i+1)).2.1==2&&((cD l (I J l (i+1)).1:Int) != 1))
def g'(v:af.D):Bool:=
 cz v.1 2 100000&&cz (v.2.1.length:Int) 1 24&&(I J v.2.1 0).1==1&&(I J v.2.1 0).2.1==2 &&
  cond (eo v.2.1.length (m7 v)) (cond (eo (v.2.1.length-1) (kx v.2.1)) (decide ((bytesOf v.2.1:Int)≤400) && !gl v.2.1) false) false
theorem Zb{v:af.D}(h:∀j,j<v.2.1.length→m7 v j=true):ix v.2.1:=by
 have b2:∀d j,j+d+1<v.2.1.length→(I J v.2.1 j).1<(I J v.2.1 (j+d+1)).1:=by
  have h1:∀j,j+1<v.2.1.length→(I J v.2.1 j).1<(I J v.2.1 (j+1)).1:=by
   intro j hj;have:=h (j+1) hj;unfold m7 at this;simp only [Bool.and_eq_true,Bool.not_eq_true',Bool.and_eq_false_iff,decide_eq_false_iff_not] at this;obtain ⟨⟨_,h2⟩,_⟩:=this;rcases h2 with h2 | h2
   ·omega
   ·rw [Nat.add_sub_cancel] at h2;exact Int.not_le.1 h2
  intro d
  induction d with
  | zero=>intro j hj;exact h1 j hj
  | succ d ih=>intro j hj;exact Int.lt_trans (ih j (by omega)) (h1 (j+d+1) hj)
 intro x hx;unfold bz;rw [iv];refine⟨hx,by simp,fun j hj=>?_⟩;obtain ⟨d,rfl⟩:∃d,x=j+d+1:=⟨x-j-1,by omega⟩
 have:=b2 d j hx;rw [beq_eq_false_iff_ne];exact Int.ne_of_lt this
theorem Zc{v:af.D}(h:∀j,j<v.2.1.length→m7 v j=true){i:Nat}(hi:i<v.2.1.length):n4 v.2.1 (I J v.2.1 i)=true:=by have:=h i hi;unfold m7 at this;simp only [Bool.and_eq_true] at this;exact this.2
theorem Zd{l:List aS}{x:aS}(h:n4 l x=true):(x.2.1≠2→fh x=0∧eZ x=0∧an x=[])∧∀d,d∈an x→(bz l d.2.1).isSome=true:=by
 unfold n4 at h;simp only [Bool.and_eq_true] at h;obtain ⟨_,h⟩:=h;have av:plain x=true→fh x=0∧eZ x=0∧an x=[]:=by intro av;unfold plain at av;simp only [Bool.and_eq_true,beq_iff_eq] at av;exact⟨av.1.2,av.2,List.length_eq_zero_iff.1 (by omega)⟩
 by_cases h1:x.2.1=1
 ·rw [cr h1] at h;simp only [cond_true,Bool.and_eq_true] at h;obtain ⟨ea,e7,fF⟩:=av h.1;exact⟨fun _=>⟨ea,e7,fF⟩,by rw [fF];simp⟩
 ·rw [bX h1] at h;by_cases h3:x.2.1=3
  ·rw [cr h3] at h;simp only [cond_true,cond_false,Bool.and_eq_true] at h;obtain ⟨ea,e7,fF⟩:=av h.1.1;exact⟨fun _=>⟨ea,e7,fF⟩,by rw [fF];simp⟩
  ·rw [bX h3] at h;by_cases h2:x.2.1=2
   ·rw [cr h2] at h;simp only [cond_true,cond_false,Bool.and_eq_true] at h;refine⟨fun hn=>absurd h2 hn,fun d ah=>?_⟩;have hN:=h.2;unfold ts at hN;simp only [Bool.and_eq_true] at hN;obtain ⟨i,hi,he⟩:=fb ah;have:=iu.1 hN.1 i hi;unfold pb at this;simp only [Bool.and_eq_true] at this;rw [← he];exact this.2
   ·rw [bX h2] at h;simp at h
theorem alB{v:af.D}(h:∀j,j<v.2.1.length→m7 v j=true):rI v.2.1:=fun i hi d ah=>(Zd (Zc h hi)).2 d ah
theorem It{v:af.D}{i:Nat}(hi:i<v.2.1.length)(hl:v.2.1.length≤1048576)(K:Option (Bool×Unit)) :
  cond (!cz (I J v.2.1 i).1 1 (aH (v.1-1))) (some (false,()))
   (cond (decide ((i:Int)>0)) ((aM v.2.1.length (aH ((i:Int)-1))).bind fun j=>cond (decide ((I J v.2.1 j).1≥(I J v.2.1 i).1)) (some (false,())) (cond (!n4 v.2.1 (I J v.2.1 i)) (some (false,())) K))
    (cond (!n4 v.2.1 (I J v.2.1 i)) (some (false,())) K))=cond (m7 v i) K (some (false,())):=by
 unfold m7
 cases i with
 | zero=>simp only [wy,Nat.lt_irrefl,decide_false,cond_false,Bool.false_and,Bool.not_false,Bool.and_true,wv,kX]
 | succ i=>rw [wx hi (by omega)];simp only [wz,Nat.zero_lt_succ,decide_true,cond_true,aw,Nat.add_sub_cancel,Bool.true_and,wv,kX]
theorem alC(v:af.D)(hv:Is v):Nk (v,())=some (g' v,()):=by
 obtain ⟨hl,hn,hb,he⟩:=hv;show Ge (nW aN) v=_;unfold Ge;simp only [hO,aw];unfold g';cases h1:cz v.1 2 100000
 ·rfl
 cases h2:cz (v.2.1.length:Int) 1 24
 ·rfl
 have gg:=(di.1 h2);simp only [Bool.not_true,cond_false];rw [show(0:Int)=((0:Nat):Int) from rfl,bu (show 0<v.2.1.length by omega)];simp only [aw];cases h3:(I J v.2.1 0).1==1
 ·rw [dj (by simpa using h3)];rfl
 rw [ed (by simpa using h3)];simp only [cond_false];cases h4:(I J v.2.1 0).2.1==2
 ·rw [dj (by simpa using h4)];rfl
 rw [ed (by simpa using h4)];simp only [cond_false,Bool.true_and]
 have key:=BH v.2.1.length 1 (fun m i=>(nW m).bg (i:Int) v) (m7 v) (some (false,())) (some (cond (eo (v.2.1.length-1) (kx v.2.1)) (decide ((bytesOf v.2.1:Int)≤400) && !gl v.2.1) false,())) (1 +(v.2.1.length-1)*1+1) (fun i hi _ av B y aT=>by
  refine aT.step fun m=>?_
  show vF (nW m) _ _=_;unfold vF;rw [b9 hi,bu hi];simp only [cond_true,aw,hO];have hx:=he _ (cR hi);rw [Y1 v _ hl hx.1,dv i (by omega)];simp only [aw]
  rw [It hi hl,av];rfl) (fun i hi _ av=>by
  refine b8.done fun m=>?_
  show vF (nW m) _ _=_;unfold vF;rw [b9 hi,bu hi];simp only [cond_true,aw,hO];have hx:=he _ (cR hi);rw [Y1 v _ hl hx.1,dv i (by omega)];simp only [aw]
  rw [It hi hl,av];rfl) (fun qR=>by
  have hF:=YW v.2.1 1
  have k2:=BH (v.2.1.length-1) 1 (fun m i=>(nW m).cL ((i+1:Nat):Int) v (dX v.2.1 1)) (kx v.2.1) (some (false,())) (some (decide ((bytesOf v.2.1:Int)≤400) && !gl v.2.1,())) 1 (fun i hi _ av B y aT=>by
   refine aT.step fun m=>?_
   show vG (nW m) _ _ _=_;unfold vG;have gT:i+1<v.2.1.length:=by omega
   rw [b9 gT,bu gT,hF,bu gT];simp only [cond_true,aw,Nat.zero_add];rw [Ic v _ hl hn,dv (i+1) (by omega)];simp only [aw];unfold kx at av;simp only [Bool.and_eq_true,Bool.not_eq_true'] at av;rw [av.1];have js:=av.2;cases g1:(I J v.2.1 (i+1)).2.1==2
   ·rfl
   ·rw [g1] at js;simp only [Bool.true_and] at js
    rw [js];rfl) (fun i hi _ av=>by
   refine b8.done fun m=>?_
   show vG (nW m) _ _ _=_;unfold vG;have gT:i+1<v.2.1.length:=by omega
   rw [b9 gT,bu gT,hF,bu gT];simp only [cond_true,aw,Nat.zero_add];rw [Ic v _ hl hn,dv (i+1) (by omega)];simp only [aw];unfold kx at av;cases g0:I .bool (dX v.2.1 1) (i+1)
   ·rfl
   ·rw [g0] at av;simp only [Bool.true_and,Bool.not_eq_false'] at av;simp only [Bool.and_eq_true] at av
    rw [av.1,av.2];rfl) (fun _=>b8.done fun m=>by
   rw [show v.2.1.length-1+1=v.2.1.length by omega];show vG (nW m) _ _ _=_;unfold vG;rw [cA (Nat.le_refl _),PM v hl hb];simp only [cond_false,aw];rw [Y9 v hl hn hb (fun i hi hk=>by have:=(Zd (Zc qR hi)).1 hk;exact⟨this.1,this.2.1⟩)]
   simp only [aw,kW,By])
  have k3:=k2.step (f:=fun m=>(nW m).bg ((v.2.1.length:Nat):Int) v) fun m=>by show vF (nW m) _ _=_;unfold vF;rw [cA (Nat.le_refl _),YP v 1 hl hn];rfl
  rw [show cond (eo (v.2.1.length-1) (kx v.2.1)) (some (decide ((bytesOf v.2.1:Int)≤400) && !gl v.2.1,())) (some (false,()))=some (cond (eo (v.2.1.length-1) (kx v.2.1)) (decide ((bytesOf v.2.1:Int)≤400) && !gl v.2.1) false,()) from kW _ _ _] at k3
  exact k3)
 have:=lH key (by omega);rw [this,kW]
theorem Ze{l:List aS}{i:Nat} : I J (l.drop 1) i=I J l (i+1):=by unfold I;rw [List.getD_eq_getElem?_getD,List.getD_eq_getElem?_getD,List.getElem?_drop,Nat.add_comm 1 i]
theorem alD(v:af.D)(hv:Is v):L0 (v,())=some (g' v,()):=by
 obtain ⟨hl,hn,hb,he⟩:=hv;show EA (nR aN) v=_;unfold EA;simp only [g_,aw];unfold g';cases h1:cz v.1 2 100000
 ·rfl
 cases h2:cz (v.2.1.length:Int) 1 24
 ·rfl
 have gg:=(di.1 h2);simp only [Bool.not_true,cond_false];rw [show(0:Int)=((0:Nat):Int) from rfl,bu (show 0<v.2.1.length by omega)];simp only [aw];cases h3:(I J v.2.1 0).1==1
 ·rw [dj (by simpa using h3)];rfl
 rw [ed (by simpa using h3)];simp only [cond_false];cases h4:(I J v.2.1 0).2.1==2
 ·rw [dj (by simpa using h4)];rfl
 rw [ed (by simpa using h4)];simp only [cond_false,Bool.true_and]
 have key:=BH v.2.1.length 1 (fun m i=>(nR m).bg v.2.1 (v.2.1.length:Int) (i:Int) v) (m7 v) (some (false,())) (some (cond (eo (v.2.1.length-1) (kx v.2.1)) (decide ((bytesOf v.2.1:Int)≤400) && !gl v.2.1) false,())) (1 +(v.2.1.length-1)*1+1) (fun i hi _ av B y aT=>by
  refine aT.step fun m=>?_
  show va (nR m) _ _ _ _=_;unfold va;rw [b9 hi,bu hi];simp only [cond_true,aw,g_];have hx:=he _ (cR hi);rw [Y2 v _ hl hx.1 hx.2.2 hx.2.1,dv i (by omega)];simp only [aw]
  rw [It hi hl,av];rfl) (fun i hi _ av=>by
  refine b8.done fun m=>?_
  show va (nR m) _ _ _ _=_;unfold va;rw [b9 hi,bu hi];simp only [cond_true,aw,g_];have hx:=he _ (cR hi);rw [Y2 v _ hl hx.1 hx.2.2 hx.2.1,dv i (by omega)];simp only [aw]
  rw [It hi hl,av];rfl) (fun qR=>by
  obtain ⟨out,hf,DX⟩:=PY v hl hn 1;have hdl:(v.2.1.drop 1).length=v.2.1.length-1:=by simp
  have hol:=hf.len;have jL:∀i,i+1<v.2.1.length→decide ((I J v.2.1 (i+1)).1∈out)=I .bool (dX v.2.1 1) (i+1):=by intro i hi;rw [Bool.eq_iff_iff,decide_eq_true_eq,hf.iff];exact(yL v.2.1 (Zb qR) 1 hi).symm
  have k2:=BH (v.2.1.length-1) 1 (fun m i=>(nR m).cL (v.2.1.drop 1) ((v.2.1.drop 1).length:Int) (i:Int) v out) (kx v.2.1) (some (false,())) (some (decide ((bytesOf v.2.1:Int)≤400) && !gl v.2.1,())) 1 (fun i hi _ av B y aT=>by
   refine aT.step fun m=>?_
   show vd (nR m) _ _ _ _ _=_;unfold vd;have gT:i+1<v.2.1.length:=by omega
   rw [b9 (by omega),bu (by omega)];simp only [cond_true,aw];rw [show I J (List.drop 1 v.2.1) i=I J v.2.1 (i+1) from Ze];rw [contains_eq _ _ (by omega)];simp only [aw];rw [jL i gT,Ie v _ hl hn,dv i (by omega)];simp only [aw];unfold kx at av;simp only [Bool.and_eq_true,Bool.not_eq_true'] at av;rw [av.1];have js:=av.2;cases g1:(I J v.2.1 (i+1)).2.1==2
   ·rfl
   ·rw [g1] at js;simp only [Bool.true_and] at js
    rw [js];rfl) (fun i hi _ av=>by
   refine b8.done fun m=>?_
   show vd (nR m) _ _ _ _ _=_;unfold vd;have gT:i+1<v.2.1.length:=by omega
   rw [b9 (by omega),bu (by omega)];simp only [cond_true,aw];rw [show I J (List.drop 1 v.2.1) i=I J v.2.1 (i+1) from Ze];rw [contains_eq _ _ (by omega)];simp only [aw];rw [jL i gT,Ie v _ hl hn,dv i (by omega)];simp only [aw];unfold kx at av;cases g0:I .bool (dX v.2.1 1) (i+1)
   ·rfl
   ·rw [g0] at av;simp only [Bool.true_and,Bool.not_eq_false'] at av;simp only [Bool.and_eq_true] at av
    rw [av.1,av.2];rfl) (fun _=>b8.done fun m=>by
   show vd (nR m) _ _ _ _ _=_;unfold vd;rw [cA (by omega),PN v hl hb];simp only [cond_false,aw];rw [Y8 v hl hn hb (Zb qR) (alB qR)]
   simp only [aw,kW,By])
  have k3:=k2.step (f:=fun m=>(nR m).bg v.2.1 (v.2.1.length:Int) ((v.2.1.length:Nat):Int) v) fun m=>by show va (nR m) _ _ _ _=_;unfold va;rw [cA (Nat.le_refl _),DX];simp only [cond_false,aw];unfold eh;rw [if_pos ⟨by omega,by omega,Int.le_refl _⟩];simp only [aw,Int.toNat_natCast];have:part v.2.1 (Int.toNat 1) (v.2.1.length-Int.toNat 1)=v.2.1.drop 1:=Bz v.2.1 1;rw [this];rfl
  rw [show cond (eo (v.2.1.length-1) (kx v.2.1)) (some (decide ((bytesOf v.2.1:Int)≤400) && !gl v.2.1,())) (some (false,()))=some (cond (eo (v.2.1.length-1) (kx v.2.1)) (decide ((bytesOf v.2.1:Int)≤400) && !gl v.2.1) false,()) from kW _ _ _] at k3
  exact k3)
 have:=lH key (by omega);rw [this,kW]
def yO(l:List Int)(i:Nat):Bool:=cz (I (.int .i64) l i) 0 1000
def dy(c:aL.D):Bool:=cz c.1 0 1000&&(cz c.2.1 0 1000&&(decide ((c.2.2.1.length:Int)≤4)&&eo c.2.2.1.length (yO c.2.2.1)))
theorem Zf(a b:Int):decide (a>b) = !decide (a≤b):=by by_cases h:a≤b <;> simp [h] <;> omega
theorem P1(c:aL.D):A1 (c,())=some (dy c,()):=by
 show GG (vL aN) c=_;unfold GG dy;simp only [hO,aw];cases cz c.1 0 1000
 ·rfl
 cases cz c.2.1 0 1000
 ·rfl
 simp only [Bool.not_true,cond_false,Bool.true_and,Zf,kX];by_cases hl:(c.2.2.1.length:Int)≤4
 case neg=>rw [decide_eq_false hl];rfl
 rw [decide_eq_true hl];simp only [cond_true,Bool.true_and]
 have:=n1 c.2.2.1.length (by omega) (yO c.2.2.1) true (fun m i=>vL m i c) (fun m _=>by
  simp only [vL,GH]
  rw [cA (Nat.le_refl _)];rfl) (fun m i hi _ hw=>by
  simp only [vL,GH,hw];rw [b9 hi,bu hi]
  simp only [cond_true,aw,hO,kX,yO])
 rw [Bool.and_true] at this;exact this
theorem Iu(c:aL.D):x8 (c,())=some (dy c,()):=by
 show Mj c=_;unfold Mj dy;simp only [g_,aw];cases cz c.1 0 1000
 ·rfl
 cases cz c.2.1 0 1000
 ·rfl
 simp only [Bool.not_true,cond_false,Bool.true_and,Zf,kX];by_cases hl:(c.2.2.1.length:Int)≤4
 case neg=>rw [decide_eq_false hl];rfl
 rw [decide_eq_true hl];simp only [cond_true,Bool.true_and]
 have h:Mi (c.2.2.1,())=some ((fA c.2.2.1.length fun i=> !yO c.2.2.1 i).isSome,()):=by
  show Mh c.2.2.1=_;unfold Mh
  have h:Mg (c.2.2.1,())=some (hP (fA c.2.2.1.length fun i=> !yO c.2.2.1 i),()):=by
   show ER (vl aN) c.2.2.1=_;unfold ER;refine tn c.2.2.1.length (by omega) _ (fun o=>some (hP o,())) (fun m i=>vl m c.2.2.1 (c.2.2.1.length:Int) i) ?_ ?_
   ·intro m;simp only [vl,ES];rw [cA (Nat.le_refl _)];rfl
   ·intro m i hi hw;simp only [vl,ES,hw];rw [b9 hi,bu hi];simp only [cond_true,aw];show Option.bind (Mf (I (ae.int .i64) c.2.2.1 i)) _=_;unfold Mf;rw [g_];rfl
  rw [h];simp only [aw,BC]
 rw [h];simp only [aw];congr 2;rw [Bool.eq_iff_iff,iu]
 cases hf:fA c.2.2.1.length fun i=> !yO c.2.2.1 i with
 | none=>simp only [Option.isSome_none,Bool.not_false,true_iff];exact fun i hi=>by have:=mi.1 hf i hi;simpa using this
 | some i=>simp only [Option.isSome_some,Bool.not_true,Bool.false_eq_true,false_iff];obtain ⟨h1,h2,_⟩:=iv.1 hf;exact fun h=>by rw [h i h1] at h2;cases h2
theorem Zg{c:aL.D}(h:dy c=true):c.2.2.1.length≤4:=by simp only [dy,Bool.and_eq_true,decide_eq_true_eq] at h;omega
def m8(c:aL.D)(g:Int):Bool:=c.2.1==g||decide (g∈c.2.2.1)
theorem alE{l:List Int}{i:Nat}(g:Int)(hi:i<l.length):decide (g∈l.drop i)=(I (.int .i64) l i==g||decide (g∈l.drop (i+1))):=by
 have h:=drop_cons (t:=.int .i64) hi;have h:l.drop i=I (.int .i64) l i :: l.drop (i+1):=h;rw [h,Bool.eq_iff_iff];simp only [List.mem_cons,decide_eq_true_eq,Bool.or_eq_true,beq_iff_eq];constructor
 ·rintro (h | h)
  ·exact .inl h.symm
  ·exact .inr h
 ·rintro (h | h)
  ·exact .inl h.symm
  ·exact .inr h
theorem P2(c:aL.D)(g:Int)(hc:dy c=true):vN (c,g,())=some (m8 c g,()):=by
 show GJ (vM aN) c g=_;unfold GJ m8;rw [P1,hc];simp only [aw,Bool.not_true,cond_false];have hl:=Zg hc
 have key:∀(r i m:Nat) (b:Bool),i+r=c.2.2.1.length→r<m→vM m g b (i:Int) c=some (b||decide (g∈c.2.2.1.drop i),()):=by
  intro r
  induction r with
  | zero=>intro i m b hi hm;obtain ⟨m,rfl,_⟩:=fuel hm;simp only [vM,GK];rw [cA (by omega),List.drop_of_length_le (by omega)];simp
  | succ r ih=>
   intro i m b hi hm;obtain ⟨m,rfl,hq⟩:=fuel hm;have b2:i<c.2.2.1.length:=by omega
   simp only [vM,GK];rw [b9 b2,dv i (by omega),alE g b2];simp only [cond_true];cases b
   ·simp only [cond_false];rw [bu b2];simp only [aw];rw [ih (i+1) m _ (by omega) (by omega)];simp
   ·simp only [cond_true];rw [ih (i+1) m _ (by omega) (by omega)];simp
 have:=key c.2.2.1.length 0 aN (c.2.1==g) (by omega) (jN (by omega));simpa using this
theorem P3(c:aL.D)(g:Int)(hc:dy c=true):vm (c,g,())=some (m8 c g,()):=by show Mm c g=_;unfold Mm m8;have hl:=Zg hc;rw [Iu,hc];simp only [aw,cond_true];rw [contains_eq _ _ (by omega)];simp only [aw];rw [show(g==c.2.1)=(c.2.1==g) by rw [Bool.eq_iff_iff,beq_iff_eq,beq_iff_eq];exact⟨Eq.symm,Eq.symm⟩];cases c.2.1==g <;> rfl
def kindOf(x:aS):Int:=x.2.1
def fi(x:aS):Int:=x.2.2.1
def eG(x:aS):Int:=x.2.2.2.1
def fB(x:aS):Int:=x.2.2.2.2.1
def kY(a b:Int):Int:=cY .and .i64 a b
def three(c:aL.D)(n:aS):Int:=
 cond (c.1==eG n) (Int.fdiv (fi n) (2 ^ min (Int.toNat 6) 64)) (cond (m8 c (fB n)) (Int.fdiv (fi n) (2 ^ min (Int.toNat 3) 64)) (fi n))
def may(c:aL.D)(n:aS)(w:Int):Bool:=
 cz w 0 7&&cond (c.1==0) (kY w 1==0||(kindOf n != 1||kY (fi n) 73 != 0)) (kY (kY (three c n) 7) w==w)
theorem qj(c:aL.D)(n:aS)(w:Int)(hc:dy c=true):ks (c,n,w,())=some (may c n w,()):=by
 show NA c n w=_;unfold NA may three;rw [P1,hc,hO];simp only [aw,Bool.not_true,cond_false];cases cz w 0 7
 ·rfl
 simp only [Bool.not_true,cond_false,Bool.true_and];cases c.1==0
 ·simp only [cond_false];rw [P2 c _ hc];simp only [aw];show cond (m8 c (fB n)) (cond (c.1==eG n) _ _) (cond (c.1==eG n) _ _)=_;cases m8 c (fB n) <;> cases c.1==eG n <;> rfl
 ·simp only [cond_true];show cond (kY w 1==0) _ (cond (kindOf n != 1) _ (some (kY (fi n) 73 != 0,())))=_;cases kY w 1==0 <;> cases kindOf n != 1 <;> rfl
theorem BI(c:aL.D)(n:aS)(w:Int)(hc:dy c=true):p1 (c,n,w,())=some (may c n w,()):=by
 show Mn c n w=_;unfold Mn may three;rw [Iu,hc,g_];simp only [aw,Bool.not_true,cond_false];cases cz w 0 7
 ·rfl
 simp only [Bool.not_true,cond_false,Bool.true_and];cases c.1==0
 ·simp only [cond_false];rw [P3 c _ hc];simp only [aw];show cond (c.1==eG n) _ (cond (m8 c (fB n)) _ _)=_;cases m8 c (fB n) <;> cases c.1==eG n <;> rfl
 ·simp only [cond_true];show cond (kindOf n != 1) _ (cond (kY (fi n) 73 != 0) _ (some (kY w 1==0,())))=_;cases kY w 1==0 <;> cases kindOf n != 1 <;> cases kY (fi n) 73 != 0 <;> rfl
def qk(c:aL.D)(d n:aS):Bool:=kY (fi d) 512==0||(c.1==0||(c.1==eG d||c.1==eG n))
theorem P4(c:aL.D)(d n:aS)(hc:dy c=true):yh (c,d,n,())=some (qk c d n,()):=by show NK c d n=_;unfold NK qk;rw [P1,hc];simp only [aw,Bool.not_true,cond_false];show cond (kY (fi d) 512==0) _ (cond (c.1==0) _ (cond (c.1==eG d) _ (some (c.1==eG n,()))))=_;cases kY (fi d) 512==0 <;> cases c.1==0 <;> cases c.1==eG d <;> rfl
theorem P5(c:aL.D)(d n:aS)(hc:dy c=true):sS (c,d,n,())=some (qk c d n,()):=by show MD c d n=_;unfold MD qk;rw [Iu,hc];simp only [aw,cond_true];show cond (kY (fi d) 512==0) _ (cond (c.1==0) _ (cond (c.1==eG d) _ (some (c.1==eG n,()))))=_;cases kY (fi d) 512==0 <;> cases c.1==0 <;> cases c.1==eG d <;> rfl
def tt(s:aj):Bool:=jO s&&nb s 0==47
theorem alF(s:aj)(i:Nat):((s.getD i 0).toNat:Int)=nb s i:=rfl
theorem BJ(s:aj):GD (s,())=some (tt s,()):=by
 show GB (vK aN) s=_;unfold GB tt jO;simp only [hO,aw];by_cases hl:cz (s.length:Int) 1 60=true
 case neg=>rw [Bool.not_eq_true] at hl;rw [hl];simp
 have hb:=di.1 hl;rw [hl];simp only [Bool.not_true,cond_false,Bool.and_true];rw [show aM s.length 0=some 0 from bu (i:=0) (by omega)];simp only [aw,alF,bne,kX];cases nb s 0==47
 ·simp
 simp only [cond_true,Bool.and_true]
 have:=n1 s.length (by omega) (fun i=>nb s i==47||tp (nb s i)) true (fun m i=>vK m s i) (fun m _=>by
  simp only [vK,GC]
  rw [cA (Nat.le_refl _)];rfl) (fun m i hi _ hw=>by
  simp only [vK,GC,hw];rw [b9 hi,bu hi]
  simp only [cond_true,aw,Ia,kX,H',bne];rfl)
 rw [Bool.and_true] at this;exact this
theorem Iv(s:aj)(hl:s.length≤4000000000000000000):Ml (s,())=some (tt s,()):=by
 show Mk s=_;unfold Mk tt;rw [PK s hl];simp only [aw];by_cases ht:jO s=true
 case neg=>rw [Bool.not_eq_true] at ht;rw [ht];rfl
 rw [ht];have:1≤s.length:=by unfold jO at ht;rw [Bool.and_eq_true] at ht;have:=di.1 ht.2;omega
 simp only [cond_true];rw [show aM s.length 0=some 0 from bu (i:=0) (by omega)];rfl
theorem wC(v:af.D)(hl:v.2.1.length≤1048576)(hn:∀i,i<v.2.1.length→(an (I J v.2.1 i)).length≤1048576):oY (v,())=some (v,()):=by
 show AX (p6 aN) v=_;unfold AX
 have:=m5 v.2.1.length (by omega) (fun m i=>p6 m i v (0,([]:List J.D),()) (v.1,v.2.1.take i.toNat,())) (fun _=>some (v,())) (fun _=>True) (fun m _=>by
  simp only [p6,AY];rw [cA (Nat.le_refl _)]
  simp only [Int.toNat_natCast,List.take_length,cond_false]) (fun m i hi _ hw ih=>by
  simp only [p6,AY];rw [b9 hi,bu hi];simp only [cond_true,aw,Int.toNat_natCast];have alG:=hn i hi;show cond (room (0 +(an (I J v.2.1 i)).length)) _ _=_;rw [b7 (by omega)];simp only [cond_true];unfold VJ;show cond (room ((v.2.1.take i).length+1)) _ _=_;rw [b7 (by rw [List.length_take];omega)];simp only [cond_true];unfold VI;rw [hw];have ih:=ih trivial;rw [show((i:Int)+1).toNat=i+1 by omega,List.take_succ_eq_append_getElem hi,← c0 (t:=J) hi] at ih
  exact ih) v.2.1.length 0 aN (by omega) (jN (by omega)) trivial
 simpa using this
theorem alH(v:af.D)(hl:v.2.1.length≤1048576)(hn:∀i,i<v.2.1.length→(an (I J v.2.1 i)).length≤1048576):q3 (v,())=some (v,()):=by
 show EE (vf aN) v=_;unfold EE
 have:=m5 v.2.1.length (by omega) (fun m i=>vf m v.2.1 (v.2.1.length:Int) i (0,([]:List J.D),()) (v.1,v.2.1.take i.toNat,())) (fun _=>some (v,())) (fun _=>True) (fun m _=>by
  simp only [vf,EF];rw [cA (Nat.le_refl _)]
  simp only [Int.toNat_natCast,List.take_length,cond_false]) (fun m i hi _ hw ih=>by
  simp only [vf,EF];rw [b9 hi,bu hi];simp only [cond_true,aw,Int.toNat_natCast];have alG:=hn i hi;show cond (room (0 +(an (I J v.2.1 i)).length)) _ _=_;rw [b7 (by omega)];simp only [cond_true];unfold UO;show cond (room ((v.2.1.take i).length+1)) _ _=_;rw [b7 (by rw [List.length_take];omega)];simp only [cond_true];unfold UN;rw [hw];have ih:=ih trivial;rw [show((i:Int)+1).toNat=i+1 by omega,List.take_succ_eq_append_getElem hi,← c0 (t:=J) hi] at ih
  exact ih) v.2.1.length 0 aN (by omega) (jN (by omega)) trivial
 simpa using this
theorem pd{β : Type}(W:Nat)(F:Nat→Nat → β)(y : β):∀(k B:Nat),(∀i,i<k→∀B y,b8 (fun m=>F m (i+1)) B y→b8 (fun m=>F m i) (B+W) y)→b8 (fun m=>F m k) B y→b8 (fun m=>F m 0) (B+k*W) y
 | 0,B,_,h=>by simpa using h
 | k+1,B,hf,h=>by have:=pd W F y k (B+W) (fun i hi=>hf i (by omega)) (hf k (by omega) B y h);rw [Nat.add_one_mul];rwa [show B +(k*W+W)=B+W+k*W by omega]
theorem Zh{β : Type}(n W:Nat)(F:Nat→Nat → β)(P:Nat→Bool)(R:Option Nat → β)(B:Nat)(hn:b8 (fun m=>F m n) B (R none))(hs:∀i,i<n→P i=true→b8 (fun m=>F m i) B (R (some i)))
  (hf:∀i,i<n→P i=false→∀B y,b8 (fun m=>F m (i+1)) B y→b8 (fun m=>F m i) (B+W) y):b8 (fun m=>F m 0) (B+n*W) (R (fA n P)):=by
 cases h:fA n P with
 | none=>exact pd W F _ n B (fun i hi=>hf i hi (mi.1 h i hi)) hn
 | some k=>obtain ⟨h1,h2,h3⟩:=iv.1 h;refine(pd W F _ k B (fun i hi=>hf i (by omega) (h3 i hi)) (hs k h1 h2)).mono ?_;have:k*W≤n*W:=Nat.mul_le_mul_right _ (by omega);omega
theorem jR(v:af.D)(id:Int)(hl:v.2.1.length≤1048576){i:Nat}(h:bz v.2.1 id=some i):fy (v,id,())=some (I J v.2.1 i,()):=by show NC v id=_;unfold NC;rw [n2 v id hl,h];simp only [aw,hP];rw [bu (b5 h).1];rfl
theorem P6(v:af.D)(id:Int)(hl:v.2.1.length≤1048576):x3 (v,id,())=some (hP (bz v.2.1 id),v,()):=by
 show Ea (u1 aN) v id=_;unfold Ea bz;refine tn v.2.1.length (by omega) _ (fun o=>some (hP o,v,())) (fun m i=>u1 m id (v.2.1.length:Int) i v) ?_ ?_
 ·intro m;simp only [u1,Eb];rw [cA (Nat.le_refl _)];rfl
 ·intro m i hi hw;simp only [u1,Eb,hw];rw [b9 hi,bu hi];simp only [cond_true,aw,Nat.zero_add];rfl
theorem n6(v:af.D)(id:Int)(hl:v.2.1.length≤1048576){i:Nat}(h:bz v.2.1 id=some i):fS (v,id,())=some ([I J v.2.1 i],()):=by rw [yJ v id hl,h];rfl
def pe(l:List aS)(id:Int):Bool:=match bz l id with | some i=>kindOf (I J l i)==2 | none=>false
theorem Zi(v:af.D)(id:Int)(hl:v.2.1.length≤1048576):yi (v,id,())=some (pe v.2.1 id,()):=by
 show NO v id=_;unfold NO pe;rw [n2 v id hl];simp only [aw,BC]
 cases h:bz v.2.1 id with
 | none=>rfl
 | some i=>simp only [Option.isSome_some,cond_true,hP];rw [bu (b5 h).1];rfl
theorem Zj(v:af.D)(id:Int)(hl:v.2.1.length≤1048576):Ay (v,id,())=some (pe v.2.1 id,()):=by
 show ML v id=_;unfold ML pe;rw [yJ v id hl]
 cases h:bz v.2.1 id with
 | none=>rfl
 | some i=>rfl
def rL(N:List aB.D)(s:aj)(j:Nat):Bool:=bD (I aB N j).1 s
def BK(N:List aB.D):Option Nat→Int
 | none=>0
 | some j=>(I aB N j).2.1
def dR(N:List aB.D)(s:aj):Int:=BK N (fA N.length (rL N s))
theorem alI(v:af.D)(id:Int)(s:aj)(hl:v.2.1.length≤1048576){i:Nat}(h:bz v.2.1 id=some i)(hn:(an (I J v.2.1 i)).length≤1048576) :
  NB (v,id,s,())=some (dR (an (I J v.2.1 i)) s,()):=by
 show GQ (sZ aN) v id s=_;unfold GQ;rw [n2 v id hl,h];simp only [aw,hP];rw [bu (b5 h).1];simp only [aw];show sZ aN s (an (I J v.2.1 i)) 0=_;generalize an (I J v.2.1 i)=N at hn;refine tn N.length (by omega) (rL N s) (fun o=>some (BK N o,())) (fun m j=>sZ m s N j) ?_ ?_
 ·intro m;simp only [sZ,GR];rw [cA (Nat.le_refl _)];rfl
 ·intro m j hj hw;simp only [sZ,GR,hw];rw [b9 hj,bu hj];rfl
theorem Zk(n:aS)(s:aj)(hn:(an n).length≤1048576):EW (n,s,())=some (dR (an n) s,()):=by
 show EU (sM aN) n s=_;unfold EU;show sM aN s (an n) ((an n).length:Int) 0=_;generalize an n=N at hn;refine tn N.length (by omega) (rL N s) (fun o=>some (BK N o,())) (fun m j=>sM m s N (N.length:Int) j) ?_ ?_
 ·intro m;simp only [sM,EV];rw [cA (Nat.le_refl _)];rfl
 ·intro m j hj hw;simp only [sM,EV,hw];rw [b9 hj,bu hj];rfl
def lI(N:List aB.D)(id:Int)(j:Nat):Bool:=(I aB N j).2.1==id
def ql(N:List aB.D)(id:Int):Bool:=(fA N.length (lI N id)).isSome
def P7(l:List aS):Option Nat→Int
 | none=>1
 | some i=>(I J l i).1
def Iw(l:List aS)(id:Int):Option Nat:=fA l.length fun i=>ql (an (I J l i)) id
def kZ(l:List aS)(id:Int):Int:=P7 l (Iw l id)
theorem P8{N:List aB.D}{id:Int}(h:ql N id=false):∀j,j<N.length→lI N id j=false:=by
 unfold ql at h
 cases hf:fA N.length (lI N id) with
 | none=>exact mi.1 hf
 | some j=>rw [hf] at h;cases h
theorem Ix{N:List aB.D}{id:Int}(h:ql N id=true):∃j,j<N.length∧lI N id j=true∧∀k,k<j→lI N id k=false:=by
 unfold ql at h
 cases hf:fA N.length (lI N id) with
 | none=>rw [hf] at h;cases h
 | some j=>exact⟨j,iv.1 hf⟩
theorem Zl(v:af.D)(id:Int)(hl:v.2.1.length≤1048576)(hn:dE v.2.1≤1048576):GM (v,id,())=some (kZ v.2.1 id,()):=by
 show GL (kR aN) v id=_;unfold GL
 have inner:∀i,i<v.2.1.length→∀j,j<(an (I J v.2.1 i)).length→lI (an (I J v.2.1 i)) id j=false→∀B y,b8 (fun m=>(kR m).bx id (i:Int) ((j+1:Nat):Int) v) B y→b8 (fun m=>(kR m).bx id (i:Int) (j:Int) v) (B+1) y:=by
  intro i hi j hj av B y he;have hnl:=gk hi;refine he.step fun m=>?_
  show vQ (kR m) _ _ _ _=_;unfold vQ;rw [bu hi];simp only [aw];show cond (decide ((j:Int)<((an (I J v.2.1 i)).length:Int))) ((aM (an (I J v.2.1 i)).length (j:Int)).bind fun v3=>cond (lI (an (I J v.2.1 i)) id v3) _ _) _=_;rw [b9 hj,bu hj];simp only [cond_true,aw,av,cond_false];rw [dv j (by omega)]
 have key:=Zh v.2.1.length (1048576+2) (fun m i=>(kR m).k2 id (i:Int) v) (fun i=>ql (an (I J v.2.1 i)) id) (fun o=>some (P7 v.2.1 o,())) (1048576+3) ((b8.done fun m=>by
   show vP (kR m) _ _ _=_;unfold vP
   rw [cA (Nat.le_refl _)];rfl).mono (by omega)) (fun i hi av=>by
   have hnl:=gk hi;obtain ⟨j,h1,h2,h3⟩:=Ix av
   have:=pd 1 (fun m j=>(kR m).bx id (i:Int) (j:Int) v) (some ((I J v.2.1 i).1,())) j 1 (fun k hk=>inner i hi k (by omega) (h3 k hk)) (b8.done fun m=>by
    show vQ (kR m) _ _ _ _=_;unfold vQ;rw [bu hi];simp only [aw];show cond (decide ((j:Int)<((an (I J v.2.1 i)).length:Int))) ((aM (an (I J v.2.1 i)).length (j:Int)).bind fun v3=>cond (lI (an (I J v.2.1 i)) id v3) _ _) _=_;rw [b9 h1,bu h1]
    simp only [cond_true,aw,h2])
   refine(this.step (f:=fun m=>(kR m).k2 id (i:Int) v) fun m=>?_).mono (by omega);show vP (kR m) _ _ _=_;unfold vP
   rw [b9 hi];rfl) (fun i hi av B y he=>by
   have hnl:=gk hi;have h0:=P8 av
   have:=pd 1 (fun m j=>(kR m).bx id (i:Int) (j:Int) v) y (an (I J v.2.1 i)).length (B+1) (fun k hk=>inner i hi k hk (h0 k hk)) (he.step fun m=>by
    show vQ (kR m) _ _ _ _=_;unfold vQ;rw [bu hi];simp only [aw];show cond (decide (((an (I J v.2.1 i)).length:Int)<((an (I J v.2.1 i)).length:Int))) _ _=_;rw [cA (Nat.le_refl _)];simp only [cond_false]
    rw [dv i (by omega)])
   refine(this.step (f:=fun m=>(kR m).k2 id (i:Int) v) fun m=>?_).mono (by omega);show vP (kR m) _ _ _=_;unfold vP
   rw [b9 hi];rfl)
 have hm:v.2.1.length*(1048576+2)≤1048576*(1048576+2):=Nat.mul_le_mul_right _ hl;exact lH key (by omega)
theorem alJ(v:af.D)(id:Int)(hl:v.2.1.length≤1048576)(hn:dE v.2.1≤1048576):Mw (v,id,())=some (kZ v.2.1 id,()):=by
 show E5 (kP aN) v id=_;unfold E5
 have inner:∀i,i<v.2.1.length→∀j,j<(an (I J v.2.1 i)).length→lI (an (I J v.2.1 i)) id j=false→∀B y,
   b8 (fun m=>(kP m).bx id v.2.1 (v.2.1.length:Int) (i:Int) (an (I J v.2.1 i)) ((an (I J v.2.1 i)).length:Int) ((j+1:Nat):Int) (I J v.2.1 i)) B y →
   b8 (fun m=>(kP m).bx id v.2.1 (v.2.1.length:Int) (i:Int) (an (I J v.2.1 i)) ((an (I J v.2.1 i)).length:Int) (j:Int) (I J v.2.1 i)) (B+1) y:=by
  intro i hi j hj av B y he;have hnl:=gk hi;refine he.step fun m=>?_
  show vp (kP m) _ _ _ _ _ _ _ _=_;unfold vp;rw [b9 hj,bu hj];simp only [cond_true,aw];show cond (lI (an (I J v.2.1 i)) id j) _ _=_;rw [av,dv j (by omega)];rfl
 have key:=Zh v.2.1.length (1048576+2) (fun m i=>(kP m).k2 id v.2.1 (v.2.1.length:Int) (i:Int)) (fun i=>ql (an (I J v.2.1 i)) id) (fun o=>some (P7 v.2.1 o,())) (1048576+3) ((b8.done fun m=>by
   show vo (kP m) _ _ _ _=_;unfold vo
   rw [cA (Nat.le_refl _)];rfl).mono (by omega)) (fun i hi av=>by
   have hnl:=gk hi;obtain ⟨j,h1,h2,h3⟩:=Ix av
   have:=pd 1 (fun m j=>(kP m).bx id v.2.1 (v.2.1.length:Int) (i:Int) (an (I J v.2.1 i)) ((an (I J v.2.1 i)).length:Int) (j:Int) (I J v.2.1 i)) (some ((I J v.2.1 i).1,())) j 1 (fun k hk=>inner i hi k (by omega) (h3 k hk)) (b8.done fun m=>by
    show vp (kP m) _ _ _ _ _ _ _ _=_;unfold vp;rw [b9 h1,bu h1];simp only [cond_true,aw];show cond (lI (an (I J v.2.1 i)) id j) _ _=_
    rw [h2];rfl)
   refine(this.step (f:=fun m=>(kP m).k2 id v.2.1 (v.2.1.length:Int) (i:Int)) fun m=>?_).mono (by omega);show vo (kP m) _ _ _ _=_;unfold vo
   rw [b9 hi,bu hi];rfl) (fun i hi av B y he=>by
   have hnl:=gk hi;have h0:=P8 av
   have:=pd 1 (fun m j=>(kP m).bx id v.2.1 (v.2.1.length:Int) (i:Int) (an (I J v.2.1 i)) ((an (I J v.2.1 i)).length:Int) (j:Int) (I J v.2.1 i)) y (an (I J v.2.1 i)).length (B+1) (fun k hk=>inner i hi k hk (h0 k hk)) (he.step fun m=>by
    show vp (kP m) _ _ _ _ _ _ _ _=_;unfold vp;rw [cA (Nat.le_refl _)];simp only [cond_false]
    rw [dv i (by omega)])
   refine(this.step (f:=fun m=>(kP m).k2 id v.2.1 (v.2.1.length:Int) (i:Int)) fun m=>?_).mono (by omega);show vo (kP m) _ _ _ _=_;unfold vo
   rw [b9 hi,bu hi];rfl)
 have hm:v.2.1.length*(1048576+2)≤1048576*(1048576+2):=Nat.mul_le_mul_right _ hl;exact lH key (by omega)
def m9(l:List aS)(N:List aB.D):Nat:=(N.filter fun d=>pe l d.2.1).length
def rM(l:List aS)(n:aS):Int:=cond (kindOf n != 2) (cD l n.1:Int) (2+m9 l (an n):Int)
theorem Zm{l:List aS}{N:List aB.D}{j:Nat}(hj:j<N.length):m9 l (N.take (j+1))=m9 l (N.take j)+cond (pe l (I aB N j).2.1) 1 0:=by unfold m9;rw [List.take_succ_eq_append_getElem hj,List.filter_append,List.length_append];congr 1;rw [c0 hj];cases h:pe l (N[j]).2.1 <;> simp [List.filter_cons,h]
theorem Zn(l:List aS)(N:List aB.D)(j:Nat):m9 l (N.take j)≤N.length:=by unfold m9;refine Nat.le_trans (List.length_filter_le _ _) ?_;rw [List.length_take];omega
theorem alK(v:af.D)(id:Int)(hl:v.2.1.length≤1048576)(hn:dE v.2.1≤1048576){i:Nat}(h:bz v.2.1 id=some i):He (v,id,())=some (rM v.2.1 (I J v.2.1 i),()):=by
 show Hc (vZ aN) v id=_;unfold Hc rM;obtain ⟨hi,cf⟩:=b5 h;have hnl:=gk hi;rw [n2 v id hl,h];simp only [aw,BB,Option.isNone_some,cond_false,hP];rw [bu hi];simp only [aw];show cond (kindOf (I J v.2.1 i) != 2) _ _=_;cases kindOf (I J v.2.1 i) != 2
 ·simp only [cond_false]
  have:=m5 (an (I J v.2.1 i)).length (by omega) (fun m j=>vZ m (i:Int) (2+m9 v.2.1 ((an (I J v.2.1 i)).take j.toNat):Int) j v) (fun _=>some ((2+m9 v.2.1 (an (I J v.2.1 i)):Int),())) (fun _=>True) (fun m _=>by
   simp only [vZ,Hd];rw [bu hi];simp only [aw];show cond (decide (((an (I J v.2.1 i)).length:Int)<((an (I J v.2.1 i)).length:Int))) _ _=_;rw [cA (Nat.le_refl _)]
   simp only [Int.toNat_natCast,List.take_length,cond_false]) (fun m j hj _ hw ih=>by
   have ih:=ih trivial;rw [show((j:Int)+1).toNat=j+1 by omega,Zm hj] at ih;have hdl:=Zn v.2.1 (an (I J v.2.1 i)) j;simp only [vZ,Hd];rw [bu hi];simp only [aw];show cond (decide ((j:Int)<((an (I J v.2.1 i)).length:Int))) ((aM (an (I J v.2.1 i)).length (j:Int)).bind fun v3=>(yi (v,(I aB (an (I J v.2.1 i)) v3).2.1,())).bind _) _=_;rw [b9 hj,bu hj];simp only [cond_true,aw];rw [Zi v _ hl];simp only [aw,hw,Int.toNat_natCast];revert ih;cases pe v.2.1 (I aB (an (I J v.2.1 i)) j).2.1
   ·intro ih;exact ih
   ·intro ih;simp only [cond_true] at ih ⊢;rw [cT (by omega) (by omega)];rw [Int.natCast_add,← Int.add_assoc] at ih
    exact ih) (an (I J v.2.1 i)).length 0 aN (by omega) (jN (by omega)) trivial
  simpa [m9] using this
 ·simp only [cond_true];rw [Ic v id hl hn,cf];rfl
theorem alL(v:af.D)(n:aS)(hl:v.2.1.length≤1048576)(hn:dE v.2.1≤1048576)(hnl:(an n).length≤1048576):MZ (v,n,())=some (rM v.2.1 n,()):=by
 show Fy (sV aN) v n=_;unfold Fy rM;show cond (kindOf n != 2) _ _=_;cases kindOf n != 2
 ·simp only [cond_false]
  have:=m5 (an n).length (by omega) (fun m j=>sV m v (2+m9 v.2.1 ((an n).take j.toNat):Int) (an n) ((an n).length:Int) j) (fun _=>some ((2+m9 v.2.1 (an n):Int),())) (fun _=>True) (fun m _=>by
   simp only [sV,Fz];rw [cA (Nat.le_refl _)]
   simp only [Int.toNat_natCast,List.take_length,cond_false]) (fun m j hj _ hw ih=>by
   have ih:=ih trivial;rw [show((j:Int)+1).toNat=j+1 by omega,Zm hj] at ih;have hdl:=Zn v.2.1 (an n) j;simp only [sV,Fz];rw [b9 hj,bu hj];simp only [cond_true,aw];rw [Zj v _ hl];simp only [aw,hw,Int.toNat_natCast];revert ih;cases pe v.2.1 (I aB (an n) j).2.1
   ·intro ih;exact ih
   ·intro ih;simp only [cond_true] at ih ⊢;rw [cT (by omega) (by omega)];rw [Int.natCast_add,← Int.add_assoc] at ih
    exact ih) (an n).length 0 aN (by omega) (jN (by omega)) trivial
  show sV aN v 2 (an n) ((an n).length:Int) 0=_;simpa [m9] using this
 ·simp only [cond_true];rw [Ie v _ hl hn];rfl
abbrev aK:Type:=List UInt8
def jS(c:aK):List aK→List aK
 | []=>[c]
 | p :: ps=>(c++p) :: ps
def e4:aK→List aK
 | []=>[[]]
 | b :: l=>cond (b==47) ([] :: e4 l) (jS [b] (e4 l))
def full(p:aK):Bool:= !bD p []
def cut(s:aK):List aK:=(e4 s).filter full
theorem alM(c:aK)(l:List aK):jS c l≠[]:=by cases l <;> simp [jS]
theorem Iy(s:aK):e4 s≠[]:=by
 cases s with
 | nil=>simp [e4]
 | cons b l=>simp only [e4];cases b==47 <;> simp [alM]
theorem P9{l:List aK}(h:l≠[]):jS [] l=l:=by cases l <;> simp_all [jS]
theorem alN(a b:aK){l:List aK} : jS a (jS b l)=jS (a++b) l:=by cases l <;> simp [jS]
theorem P_{p:aK} : full p=false↔p=[]:=by unfold full bD;simp
theorem alO(c:aK):(jS c [[]]).filter full=cond (full c) [c] []:=by simp only [jS,List.append_nil,List.filter_cons,List.filter_nil];cases full c <;> rfl
theorem alP(s:aK){i:Nat}(h:i<s.length):s.drop i=s.getD i 0 :: s.drop (i+1):=by rw [List.drop_eq_getElem_cons h];congr 1;rw [List.getD_eq_getElem?_getD,List.getElem?_eq_getElem h];rfl
theorem alQ{s:aK}{a i:Nat}(ha:a≤i)(hi:i<s.length):part s a (i+1-a)=part s a (i-a)++[s.getD i 0]:=by unfold part;rw [show i+1-a=(i-a)+1 by omega,List.take_add_one];congr 1;rw [List.getElem?_drop,show a +(i-a)=i by omega,List.getElem?_eq_getElem hi,List.getD_eq_getElem?_getD,List.getElem?_eq_getElem hi];rfl
theorem Zo(b:UInt8):(((b.toNat:Nat):Int)==47)=(b==47):=by
 rw [Bool.eq_iff_iff,beq_iff_eq,beq_iff_eq];constructor
 ·intro h;have:b.toNat=47:=by omega
  exact UInt8.toNat_inj.1 (by rw [this];rfl)
 ·rintro rfl;rfl
theorem alR{s:aK}{a n:Nat}(h:a+n≤s.length):(part s a n).length=n:=by unfold part;rw [List.length_take,List.length_drop];omega
theorem Zp{s:aK}{a i:Nat}(ha:a≤i)(hi:i≤s.length):full (part s a (i-a))=decide ((i:Int) >(a:Int)):=by
 by_cases h:a<i
 ·rw [decide_eq_true (show(i:Int) >(a:Int) by omega)];rw [← Bool.not_eq_false,P_];intro h0;have:=alR (s:=s) (a:=a) (n:=i-a) (by omega);rw [h0] at this;simp at this;omega
 ·have:i-a=0:=by omega
  rw [this,decide_eq_false (show ¬(i:Int) >(a:Int) by omega)];exact P_.2 (by simp [part])
theorem Zq(s:aK)(hl:s.length≤1048576):A4 (s,())=some (cut s,()):=by
 show GO (rj aN) s=_;unfold GO
 have key:∀(r i m a:Nat) (out:List aK),i+r=s.length→r+1<m→a≤i→out.length≤i→rj m s (a:Int) (i:Int) out=some (out++(jS (part s a (i-a)) (e4 (s.drop i))).filter full,()):=by
  intro r
  induction r with
  | zero=>
   intro i m a out hi hm ha ho;obtain ⟨m,rfl,pO⟩:=fuel hm;obtain ⟨m,rfl,_⟩:=fuel pO;have bm:i=s.length:=by omega
   have me:∀(x:Int) (o:List aK),rj (m+1) s x (aH ((i:Int)+1)) o=some (o,()):=by intro x o;simp only [rj,A3];rw [dv i (by omega),decide_eq_false (by omega)];rfl
   rw [rj,A3,decide_eq_true (show(i:Int)≤(s.length:Int) by omega),show((i:Int) ==(s.length:Int))=true by simp;omega];simp only [cond_true];rw [List.drop_of_length_le (by omega),e4,alO,Zp ha (by omega)];by_cases h:(i:Int) >(a:Int)
   ·rw [decide_eq_true h];simp only [cond_true];rw [jD ha (by omega)];simp only [aw];rw [b7 (by simp only [List.length_cons,List.length_nil];omega)];simp only [cond_true,me]
   ·rw [decide_eq_false h];simp only [cond_false,me,List.append_nil]
  | succ r ih=>
   intro i m a out hi hm ha ho;obtain ⟨m,rfl,hm⟩:=fuel hm;have b2:i<s.length:=by omega
   rw [rj,A3,decide_eq_true (show(i:Int)≤(s.length:Int) by omega),show((i:Int) ==(s.length:Int))=false by simp;omega];simp only [cond_true,cond_false];rw [bu b2,alP s b2,e4];simp only [aw];rw [Zo,dv i (by omega)];cases s.getD i 0==47
   ·simp only [cond_false];rw [ih (i+1) m a out (by omega) (by omega) (by omega) (by omega),alN,← alQ ha b2]
   ·simp only [cond_true];have hz:part s (i+1) (i+1-(i+1))=[]:=by simp [part]
    have hs:(jS (part s a (i-a)) ([] :: e4 (s.drop (i+1)))).filter full=cond (full (part s a (i-a))) [part s a (i-a)] []++(e4 (s.drop (i+1))).filter full:=by simp only [jS,List.append_nil,List.filter_cons];cases full (part s a (i-a)) <;> rfl
    rw [hs,Zp ha (by omega)];by_cases h:(i:Int) >(a:Int)
    ·rw [decide_eq_true h];simp only [cond_true];rw [jD ha (by omega)];simp only [aw];rw [b7 (by simp only [List.length_cons,List.length_nil];omega)];simp only [cond_true];rw [ih (i+1) m (i+1) _ (by omega) (by omega) (by omega) (by simp;omega),hz,P9 (Iy _),List.append_assoc]
    ·rw [decide_eq_false h];simp only [cond_false];rw [ih (i+1) m (i+1) _ (by omega) (by omega) (by omega) (by omega),hz,P9 (Iy _),List.nil_append]
 have:=key s.length 0 aN 0 [] (by omega) (jN (by omega)) (by omega) (by simp);rw [show part s 0 (0-0)=[] by simp [part],List.drop_zero,P9 (Iy _)] at this;simpa [cut] using this
theorem Zr{s:aK}(h:Lib.indexByte s 47 = -1):e4 s=[s]∧s.count 47=0:=by
 induction s with
 | nil=>exact⟨rfl,rfl⟩
 | cons b l ih=>
  unfold Lib.indexByte at h;cases hb:b==47
  ·rw [hb] at h;simp only [Bool.false_eq_true,if_false] at h
   have hl:Lib.indexByte l 47 = -1:=by
    by_cases h1:Lib.indexByte l 47 = -1
    ·exact h1
    ·have h2:=Lib.indexByte_ge l 47;rw [if_neg (by simpa using h1)] at h;omega
   obtain ⟨i1,i2⟩:=ih hl;refine⟨by rw [e4,hb,i1];rfl,?_⟩;rw [List.count_cons,i2,hb];rfl
  ·rw [hb] at h;simp at h
theorem Zs{s:aK}{k:Nat}(h:Lib.indexByte s 47=(k:Int)):k<s.length∧e4 s=s.take k :: e4 (s.drop (k+1))∧s.count 47=(s.drop (k+1)).count 47+1:=by
 induction s generalizing k with
 | nil=>unfold Lib.indexByte at h;omega
 | cons b l ih=>
  unfold Lib.indexByte at h;cases hb:b==47
  ·rw [hb] at h;simp only [Bool.false_eq_true,if_false] at h;have h2:=Lib.indexByte_ge l 47;by_cases h1:Lib.indexByte l 47 = -1
   ·rw [if_pos (by simpa using h1)] at h;omega
   ·rw [if_neg (by simpa using h1)] at h;obtain ⟨j,rfl⟩:∃j,k=j+1:=⟨k-1,by omega⟩
    obtain ⟨i1,i2,i3⟩:=ih (k:=j) (by omega);refine⟨by simp;omega,?_,?_⟩
    ·rw [e4,hb,i2];rfl
    ·rw [List.count_cons,i3,hb];rfl
  ·rw [hb] at h;simp only [if_true] at h;have:k=0:=by omega
   subst this;refine⟨by simp,?_,?_⟩
   ·rw [e4,hb];rfl
   ·rw [List.count_cons,hb];rfl
theorem Zt(s:aK):Lib.indexByte s 47 = -1∨∃k:Nat,Lib.indexByte s 47=k:=by
 have:=Lib.indexByte_ge s 47;by_cases h:Lib.indexByte s 47 = -1
 ·exact .inl h
 ·exact .inr ⟨(Lib.indexByte s 47).toNat,by omega⟩
theorem alS(s:aK):EX (s,[47],())=some (Lib.indexByte s 47,()):=by
 show Mp s [47]=_;unfold Mp;show Option.bind (Mo s [47]) _=_;unfold Mo;by_cases h:bD [47] s=true
 ·rw [h];have:s=[47]:=by unfold bD at h;simp only [decide_eq_true_eq] at h;exact h.symm
  subst this;rfl
 ·rw [Bool.not_eq_true] at h;rw [h];rfl
theorem alT(s:aK):Mq (s,[47],())=some ((s.count 47:Int),()):=by show EZ (E0 aN) s [47]=_;unfold EZ;rfl
theorem alU:∀(r:Nat) (s:aK) (i n m:Nat) (a:List aK),s.length≤1048576→n≤1048576→s.count 47=r→i+r=n→a.length=n+1→r+1<m →
  (q5 m).cL s [47] 0 (n:Int) (i:Int) a=some (a.take i++e4 s,()):=by
 intro r
 induction r with
 | zero=>
  intro s i n m a hs hn hc hi ha hm;obtain ⟨m,rfl,pO⟩:=fuel hm;obtain ⟨m,rfl,_⟩:=fuel pO;have:i=n:=by omega
  subst this;show At (q5 (m+1)) _ _ _ _ _ _=_;unfold At;rw [cA (Nat.le_refl _)];simp only [cond_false];show Ms (q5 m) _ _ _=_;unfold Ms;rw [bu (by omega)];simp only [aw,Nat.zero_add];rw [dv i (by omega)];show Option.bind (eh (a.set i s).length ((0:Nat):Int) ((i+1:Nat):Int)) _=_;rw [jD (by omega) (by rw [List.length_set];omega)];simp only [aw,Nat.zero_add,Nat.sub_zero]
  have hsp:e4 s=[s]:=by
   rcases Zt s with h | ⟨k,h⟩
   ·exact(Zr h).1
   ·have:=(Zs h).2.2;omega
  rw [hsp,tm,List.take_succ_eq_append_getElem (by rw [List.length_set];omega),List.getElem_set_self,List.take_set_of_le (by omega)]
 | succ r ih=>
  intro s i n m a hs hn hc hi ha hm;obtain ⟨m,rfl,hm⟩:=fuel hm;show At (q5 m) _ _ _ _ _ _=_;unfold At;rw [b9 (by omega),alS];simp only [cond_true,aw]
  obtain ⟨k,hk⟩:∃k:Nat,Lib.indexByte s 47=k:=by
   rcases Zt s with h | h
   ·have:=(Zr h).2;omega
   ·exact h
  obtain ⟨h1,h2,h3⟩:=Zs hk;rw [hk,decide_eq_false (by omega)];simp only [cond_false];rw [show aH ((k:Int)+0)=(k:Int) by rw [Int.add_zero];exact cT (by omega) (by omega)];show Option.bind (eh s.length ((0:Nat):Int) (k:Int)) _=_;rw [jD (by omega) (by omega)];simp only [aw];rw [bu (by omega)];simp only [aw,Nat.zero_add];unfold U6;simp only;rw [show aH ((k:Int) +(([47]:aK).length:Int))=((k+1:Nat):Int) from dv k (by omega),jD (by omega) (Nat.le_refl _)];simp only [aw];rw [Bz,dv i (by omega),ih (s.drop (k+1)) (i+1) n m _ (by rw [List.length_drop];omega) hn (by omega) (by omega) (by rw [List.length_set];exact ha) (by omega)];rw [h2,List.take_succ_eq_append_getElem (by rw [List.length_set];omega),List.getElem_set_self,List.take_set_of_le (by omega),Nat.sub_zero,tm,List.append_assoc];rfl
theorem alV(s:aK)(hl:s.length≤1048576):Mv (s,[47],())=some (e4 s,()):=by
 show Mu s [47]=_;unfold Mu;have:Mt (s,[47],0,-1,())=some (e4 s,()):=by show E1 (q5 aN) s [47] 0 (-1)=_;unfold E1;have hcl:s.count 47≤s.length:=List.count_le_length;rw [alT];show(q5 aN).dq s [47] 0 (aH ((s.count 47:Int)+1))=_;obtain ⟨q,hq,ij⟩:=iS 1;rw [hq];show Mr (q5 q) _ _ _ _=_;unfold Mr;rw [dv _ (by omega),dv _ (by omega),show j0 ((s.count 47+1:Nat):Int) ((s.length+1:Nat):Int)=((s.count 47+1:Nat):Int) by rw [ak6];omega];rw [decide_eq_true (by omega),decide_eq_true rfl,Int.toNat_natCast,b7 (by omega)];simp only [Bool.and_self,cond_true];rw [show aH (((s.count 47+1:Nat):Int)-1)=((s.count 47:Nat):Int) by rw [cT (by omega) (by omega)];omega];have:=alU (s.count 47) s 0 (s.count 47) q (List.replicate (s.count 47+1) []) hl (by omega) rfl (by omega) (by simp) (by omega);simpa using this
 rw [this];rfl
theorem Zu(s:aK)(hl:s.length≤1048576):sO (s,())=some (cut s,()):=by
 show E3 (sN aN) s=_;unfold E3;rw [alV s hl];simp only [aw]
 have m6:(e4 s).length≤1048577:=by
  have:∀s:aK,(e4 s).length≤s.length+1:=by
   intro s
   induction s with
   | nil=>simp [e4]
   | cons b l ih=>
    rw [e4];cases b==47
    ·simp only [cond_false,List.length_cons]
     cases hs:e4 l with
     | nil=>simp [jS]
     | cons p ps=>rw [hs] at ih;simp only [jS,List.length_cons] at ih ⊢;omega
    ·simp only [cond_true,List.length_cons];omega
  have:=this s;omega
 show sN aN _ _ _ _=some ((e4 s).filter full,());generalize e4 s=l at m6
 have:=m5 l.length (by omega) (fun m i=>sN m (l.length:Int) i ((l.take i.toNat).filter full) l) (fun _=>some (l.filter full,())) (fun _=>True) (fun m _=>by
  simp only [sN,E4];rw [cA (Nat.le_refl _)]
  simp only [Int.toNat_natCast,List.take_length,cond_false]) (fun m i hi _ hw ih=>by
  have ih:=ih trivial;have aI:I ae.str l i=l[i]:=c0 (t:=.str) hi;rw [show((i:Int)+1).toNat=i+1 by omega,List.take_succ_eq_append_getElem hi,List.filter_append,List.filter_cons,List.filter_nil] at ih;simp only [sN,E4];rw [b9 hi,bu hi];simp only [cond_true,aw,Nat.zero_add,hw,Int.toNat_natCast];rw [aI];show cond (full l[i]) _ _=_;have ik:((l.take i).filter full).length≤i:=Nat.le_trans (List.length_filter_le _ _) (by rw [List.length_take];omega);cases hf:full l[i]
  ·rw [hf] at ih;simp only [Bool.false_eq_true,if_false,List.append_nil] at ih;exact ih
  ·rw [hf] at ih;simp only [if_true] at ih;simp only [cond_true];rw [b7 (by simp only [List.length_cons,List.length_nil];omega)]
   exact ih) l.length 0 aN (by omega) (jN (by omega)) trivial
 simpa using this
theorem alW{s:aK} : ∀ {p:aK},p∈e4 s→∀b,b∈p→b∈s∧(b==47)=false:=by
 induction s with
 | nil=>intro p av b hb;simp [e4] at av;subst av;simp at hb
 | cons c l ih=>
  intro p av b hb;rw [e4] at av;cases hc:c==47
  ·rw [hc] at av;simp only [cond_false] at av
   cases hs:e4 l with
   | nil=>exact absurd hs (Iy l)
   | cons q aru=>
    rw [hs] at av ih;simp only [jS,List.mem_cons] at av;rcases av with rfl | av
    ·simp only [List.cons_append,List.nil_append,List.mem_cons] at hb;rcases hb with rfl | hb
     ·exact⟨List.mem_cons_self,hc⟩
     ·obtain ⟨h1,h2⟩:=ih List.mem_cons_self b hb;exact⟨List.mem_cons_of_mem _ h1,h2⟩
    ·obtain ⟨h1,h2⟩:=ih (List.mem_cons_of_mem _ av) b hb;exact⟨List.mem_cons_of_mem _ h1,h2⟩
  ·rw [hc] at av;simp only [cond_true,List.mem_cons] at av;rcases av with rfl | av
   ·simp at hb
   ·obtain ⟨h1,h2⟩:=ih av b hb;exact⟨List.mem_cons_of_mem _ h1,h2⟩
theorem alX(s:aK):(e4 s).length≤s.length+1:=by
 induction s with
 | nil=>simp [e4]
 | cons b l ih=>
  rw [e4];cases b==47
  ·simp only [cond_false,List.length_cons]
   cases hs:e4 l with
   | nil=>simp [jS]
   | cons p ps=>rw [hs] at ih;simp only [jS,List.length_cons] at ih ⊢;omega
  ·simp only [cond_true,List.length_cons];omega
theorem Zv(s:aK):(cut s).length≤s.length+1:=Nat.le_trans (List.length_filter_le _ _) (alX s)
def BL(p:aK):Prop:=p≠[]∧∀i,i<p.length→tp (nb p i)=true
theorem Zw{s:aK}(h:jO s=true):∀p,p∈cut s→BL p:=by
 intro p av;obtain ⟨h1,h2⟩:=List.mem_filter.1 av;refine⟨fun h0=>(by rw [P_.2 h0] at h2;cases h2),fun i hi=>?_⟩;have hm:p.getD i 0∈p:=by rw [List.getD_eq_getElem?_getD,List.getElem?_eq_getElem hi];exact List.getElem_mem hi
 obtain ⟨h3,h4⟩:=alW h1 _ hm;unfold jO at h;rw [Bool.and_eq_true] at h;obtain ⟨j,hj,he⟩:=List.mem_iff_getElem.1 h3;have:=iu.1 h.1 j hj;have e:nb s j=nb p i:=by unfold nb;rw [List.getD_eq_getElem?_getD,List.getElem?_eq_getElem hj,← he];rfl
 rw [e] at this;have a':(nb p i==47)=false:=by rw [← h4];exact Zo _
 rw [a',Bool.false_or] at this;exact this
theorem lt_irrefl:∀x:aK,dG x x=false
 | []=>rfl
 | a :: x=>by have:=lt_irrefl x;unfold dG at *;rw [Op.bytesLess];simp [this]
theorem Zx:∀x y:aK,dG x y=false→x=y∨dG y x=true
 | [],[],_=>.inl rfl
 | [],_ :: _,h=>by unfold dG Op.bytesLess at h;cases h
 | a :: x,[],_=>.inr (by unfold dG Op.bytesLess;rfl)
 | a :: x,b :: y,h=>by
  have ih:=Zx x y;unfold dG at *;rw [Op.bytesLess] at h;simp only [Bool.or_eq_false_iff,decide_eq_false_iff_not,Bool.and_eq_false_iff,beq_eq_false_iff_ne] at h;obtain ⟨h1,h2⟩:=h;by_cases l4:a=b
  ·subst l4;rcases h2 with h2 | h2
   ·exact absurd rfl h2
   ·rcases ih h2 with h3 | h3
    ·exact .inl (by rw [h3])
    ·exact .inr (by rw [Op.bytesLess];simp [h3])
  ·refine .inr ?_;rw [Op.bytesLess]
   have:b<a:=by
    rcases UInt8.lt_or_lt_of_ne l4 with h | h
    ·exact absurd h h1
    ·exact h
   simp [this]
theorem BM:∀ {x y z:aK},dG x y=true→dG y z=true→dG x z=true
 | _,[],_,h,_=>by unfold dG at h;simp [Op.bytesLess] at h
 | _,_ :: _,[],_,h=>by unfold dG at h;simp [Op.bytesLess] at h
 | [],_ :: _,_ :: _,_,_=>by unfold dG;simp [Op.bytesLess]
 | a :: x,b :: y,c :: z,h,k=>by
  have ih:=@BM x y z;unfold dG at *;rw [Op.bytesLess] at h k ⊢;simp only [Bool.or_eq_true,decide_eq_true_eq,Bool.and_eq_true,beq_iff_eq] at h k ⊢;rcases h with h | ⟨rfl,h⟩
  ·rcases k with k | ⟨rfl,k⟩
   ·exact .inl (UInt8.lt_trans h k)
   ·exact .inl h
  ·rcases k with k | ⟨rfl,k⟩
   ·exact .inl k
   ·exact .inr ⟨rfl,ih h k⟩
theorem Zy{x y:aK}(h:dG x y=true):dG y x=false:=by
 cases hk:dG y x
 ·rfl
 ·have:=BM h hk;rw [lt_irrefl] at this;cases this
theorem Iz{x y:aK}(h:dG x y=true):x≠y:=by rintro rfl;rw [lt_irrefl] at h;cases h
theorem P'{x y:aK}(h:x≠y):dG y x = !dG x y:=by
 cases hk:dG x y
 ·rcases Zx x y hk with h1 | h1
  ·exact absurd h1 h
  ·rw [h1];rfl
 ·rw [Zy hk];rfl
def jy(N:List aB.D):Prop:=N.Pairwise fun a b=>dG a.1 b.1=true
theorem alY{N:List aB.D}(h:∀j,j+1<N.length→dG (I aB N j).1 (I aB N (j+1)).1=true):jy N:=by
 unfold jy;rw [List.pairwise_iff_getElem]
 have key:∀d j,j+d+1<N.length→dG (I aB N j).1 (I aB N (j+d+1)).1=true:=by
  intro d
  induction d with
  | zero=>exact fun j hj=>h j hj
  | succ d ih=>exact fun j hj=>BM (ih j (by omega)) (h (j+d+1) (by omega))
 intro i j hi hj i';have:=key (j-i-1) i (by omega);rw [show i +(j-i-1)+1=j by omega,c0 hi,c0 hj] at this;exact this
theorem alZ{N:List aB.D}(h:jy N){i j:Nat}(i':i<j)(hj:j<N.length):dG (I aB N i).1 (I aB N j).1=true:=by unfold jy at h;rw [c0 hj,c0 (t:=aB) (xs:=N) (i:=i) (by omega)];exact List.pairwise_iff_getElem.1 h i j (by omega) hj i'
structure lJ(l:List aS)(x:aS):Prop where
 mode:0≤fi x∧fi x≤2047
 uid:0≤eG x∧eG x≤1000
 gid:0≤fB x∧fB x≤1000
 kind:kindOf x=1∨kindOf x=2∨kindOf x=3
 plain:kindOf x≠2→fh x=0∧eZ x=0∧an x=[]
 file:kindOf x=1→(bT x).length≤64
 n7:kindOf x=3→jO (bT x)=true∧fi x=511
 dir:kindOf x=2→bT x=[]∧(0≤fh x∧fh x≤400)∧(0≤eZ x∧eZ x≤24)∧(an x).length≤12
 names:∀d,d∈an x→iw d.1=true∧d.2.1≠1∧(bz l d.2.1).isSome=true
 sorted:jy (an x)
theorem IA{x:aS} : plain x=true↔fh x=0∧eZ x=0∧an x=[]:=by
 unfold plain;simp only [Bool.and_eq_true,beq_iff_eq];constructor
 ·rintro ⟨⟨h1,h2⟩,h3⟩;exact⟨h2,h3,List.length_eq_zero_iff.1 (by omega)⟩
 ·rintro ⟨h1,h2,h3⟩;exact⟨⟨by rw [h3];rfl,h1⟩,h2⟩
theorem Zz{l:List aS}{N:List aB.D} : eo N.length (pb l N)=true↔(∀d,d∈N→iw d.1=true∧d.2.1≠1∧(bz l d.2.1).isSome=true)∧jy N:=by
 rw [iu];unfold pb;simp only [Bool.and_eq_true,Bool.not_eq_true',Bool.and_eq_false_iff,decide_eq_false_iff_not,Bool.not_eq_false',beq_eq_false_iff_ne];constructor
 ·intro h;refine⟨fun d ah=>?_,alY fun j hj=>?_⟩
  ·obtain ⟨i,hi,he⟩:=fb ah;obtain ⟨⟨⟨h1,_⟩,h3⟩,h4⟩:=h i hi;rw [he] at h1 h3 h4;exact⟨h1,h3,h4⟩
  ·obtain ⟨⟨⟨_,h2⟩,_⟩,_⟩:=h (j+1) hj;rcases h2 with h2 | h2
   ·omega
   ·rw [Nat.add_sub_cancel] at h2;exact h2
 ·rintro ⟨h1,h2⟩ i hi
  obtain ⟨k1,k2,k3⟩:=h1 _ (cR hi);refine⟨⟨⟨k1,?_⟩,k2⟩,k3⟩;by_cases h0:0<i
  ·exact .inr (alZ h2 (by omega) hi)
  ·exact .inl h0
theorem ZA{l:List aS}{x:aS} : n4 l x=true↔lJ l x:=by
 unfold n4;simp only [Bool.and_eq_true];constructor
 ·rintro ⟨⟨⟨h1,h2⟩,h3⟩,h⟩
  have h1:=di.1 h1;have h2:=di.1 h2;have h3:=di.1 h3;by_cases k1:kindOf x=1
  ·rw [cr (show x.2.1=1 from k1)] at h;simp only [cond_true,Bool.and_eq_true,decide_eq_true_eq] at h;obtain ⟨ea,e7,fF⟩:=IA.1 h.1;exact⟨h1,h2,h3,.inl k1,fun _=>⟨ea,e7,fF⟩,fun _=>by omega,fun k=>by omega,fun k=>by omega,by rw [fF];simp,by rw [fF];exact List.Pairwise.nil⟩
  ·rw [bX (show ¬x.2.1=1 from k1)] at h;by_cases k3:kindOf x=3
   ·rw [cr (show x.2.1=3 from k3)] at h;simp only [cond_true,cond_false,Bool.and_eq_true,beq_iff_eq] at h;obtain ⟨ea,e7,fF⟩:=IA.1 h.1.1;exact⟨h1,h2,h3,.inr (.inr k3),fun _=>⟨ea,e7,fF⟩,fun k=>by omega,fun _=>⟨h.1.2,h.2⟩,fun k=>by omega,by rw [fF];simp,by rw [fF];exact List.Pairwise.nil⟩
   ·rw [bX (show ¬x.2.1=3 from k3)] at h;by_cases k2:kindOf x=2
    ·rw [cr (show x.2.1=2 from k2)] at h;simp only [cond_true,cond_false,Bool.and_eq_true,ts,decide_eq_true_eq] at h;obtain ⟨⟨⟨e1,e2⟩,e3⟩,ft,pK⟩:=h;obtain ⟨e8,jG⟩:=Zz.1 ft;exact⟨h1,h2,h3,.inr (.inl k2),fun k=>absurd k2 k,fun k=>by omega,fun k=>by omega,fun _=>⟨by unfold bD at e1;simpa using e1,di.1 e2,di.1 e3,by omega⟩,e8,jG⟩
    ·rw [bX (show ¬x.2.1=2 from k2)] at h;simp at h
 ·intro h;refine⟨⟨⟨di.2 h.mode,di.2 h.uid⟩,di.2 h.gid⟩,?_⟩;rcases h.kind with k | k | k
  ·have k':x.2.1=1:=k;rw [cr k'];simp only [cond_true,Bool.and_eq_true,decide_eq_true_eq];exact⟨IA.2 (h.plain (by omega)),by have:=h.file k;omega⟩
  ·have k':x.2.1=2:=k;rw [bX (show ¬x.2.1=1 from fun h1=>by have:kindOf x=1:=h1;omega),bX (show ¬x.2.1=3 from fun h1=>by have:kindOf x=3:=h1;omega),cr k'];simp only [cond_true,cond_false,Bool.and_eq_true,ts,decide_eq_true_eq];obtain ⟨d1,d2,d3,d4⟩:=h.dir k;exact⟨⟨⟨by rw [d1];rfl,di.2 d2⟩,di.2 d3⟩,Zz.2 ⟨h.names,h.sorted⟩,by omega⟩
  ·have k':x.2.1=3:=k;rw [bX (show ¬x.2.1=1 from fun h1=>by have:kindOf x=1:=h1;omega),cr k'];simp only [cond_true,cond_false,Bool.and_eq_true,beq_iff_eq];exact⟨⟨IA.2 (h.plain (by omega)),(h.n7 k).1⟩,(h.n7 k).2⟩
def gC(v:af.D):Int:=v.1
def bj(x:aS):Int:=x.1
structure bW(v:af.D):Prop where
 next:2≤gC v∧gC v≤100000
 len:1≤v.2.1.length∧v.2.1.length≤24
 root:bj (I J v.2.1 0)=1∧kindOf (I J v.2.1 0)=2
 ids:∀i,i<v.2.1.length→1≤bj (I J v.2.1 i)∧bj (I J v.2.1 i)≤gC v-1
 IB:∀i,i+1<v.2.1.length→bj (I J v.2.1 i)<bj (I J v.2.1 (i+1))
 ino:∀i,i<v.2.1.length→lJ v.2.1 (I J v.2.1 i)
 reach:∀i,1≤i→i<v.2.1.length→dY v.2.1 1 (I J v.2.1 i).1
 once:∀i,1≤i→i<v.2.1.length→kindOf (I J v.2.1 i)=2→cD v.2.1 (I J v.2.1 i).1=1
 bytes:bytesOf v.2.1≤400
 over:gl v.2.1=false
theorem Qa{l:List aS}(h:∀i,i+1<l.length→bj (I J l i)<bj (I J l (i+1))):ix l:=by
 have b2:∀d j,j+d+1<l.length→bj (I J l j)<bj (I J l (j+d+1)):=by
  intro d
  induction d with
  | zero=>intro j hj;exact h j hj
  | succ d ih=>intro j hj;exact Int.lt_trans (ih j (by omega)) (h (j+d+1) hj)
 intro x hx;unfold bz;rw [iv];refine⟨hx,by simp,fun j hj=>?_⟩;obtain ⟨d,rfl⟩:∃d,x=j+d+1:=⟨x-j-1,by omega⟩
 have:=b2 d j hx;rw [beq_eq_false_iff_ne];exact Int.ne_of_lt this
theorem ZB{v:af.D}(hn:2≤gC v∧gC v≤100000):eo v.2.1.length (m7 v)=true↔(∀i,i<v.2.1.length→1≤bj (I J v.2.1 i)∧bj (I J v.2.1 i)≤gC v-1) ∧
  (∀i,i+1<v.2.1.length→bj (I J v.2.1 i)<bj (I J v.2.1 (i+1)))∧∀i,i<v.2.1.length→lJ v.2.1 (I J v.2.1 i):=by
 rw [iu];unfold m7;rw [show aH (v.1-1)=gC v-1 from cT (a:=gC v-1) (by omega) (by omega)];simp only [Bool.and_eq_true,Bool.not_eq_true',Bool.and_eq_false_iff,decide_eq_false_iff_not];constructor
 ·intro h;refine⟨fun i hi=>di.1 (h i hi).1.1,fun i hi=>?_,fun i hi=>ZA.1 (h i hi).2⟩;rcases (h (i+1) hi).1.2 with h2 | h2
  ·omega
  ·rw [Nat.add_sub_cancel] at h2;exact Int.not_le.1 h2
 ·rintro ⟨h1,h2,h3⟩ i hi
  refine⟨⟨di.2 (h1 i hi),?_⟩,ZA.2 (h3 i hi)⟩;by_cases h0:0<i
  ·have:=h2 (i-1) (by omega);rw [show i-1+1=i by omega] at this;exact .inr (Int.not_le.2 this)
  ·exact .inl h0
theorem tu{v:af.D} : g' v=true↔bW v:=by
 unfold g';simp only [Bool.and_eq_true,beq_iff_eq];constructor
 ·rintro ⟨⟨⟨⟨h1,h2⟩,h3⟩,h4⟩,a'⟩
  have h1:=di.1 h1;have h2:=di.1 h2;by_cases a1:eo v.2.1.length (m7 v)=true
  case neg=>rw [Bool.not_eq_true] at a1;rw [a1] at a';cases a'
  rw [a1] at a';obtain ⟨i1,i2,i3⟩:=(ZB h1).1 a1;have ah:=Qa i2;by_cases a2:eo (v.2.1.length-1) (kx v.2.1)=true
  case neg=>rw [Bool.not_eq_true] at a2;rw [a2] at a';cases a'
  rw [a2] at a';simp only [cond_true,Bool.and_eq_true,Bool.not_eq_true',decide_eq_true_eq] at a';have a2:=iu.1 a2;unfold kx at a2;simp only [Bool.and_eq_true,Bool.not_eq_true',Bool.and_eq_false_iff,beq_eq_false_iff_ne,bne_eq_false_iff_eq] at a2;refine⟨h1,by omega,⟨h3,h4⟩,i1,i2,i3,fun i hi hl=>?_,fun i hi hl hk=>?_,by omega,a'.2⟩
  ·have:=(a2 (i-1) (by omega)).1;rw [show i-1+1=i by omega] at this;exact(yL v.2.1 ah 1 hl).1 this
  ·have:=(a2 (i-1) (by omega)).2;rw [show i-1+1=i by omega] at this;rcases this with h | h
   ·exact absurd hk h
   ·omega
 ·intro h;have ah:=Qa h.IB;refine⟨⟨⟨⟨di.2 h.next,di.2 (by have:=h.len;omega)⟩,h.root.1⟩,h.root.2⟩,?_⟩;rw [(ZB h.next).2 ⟨h.ids,h.IB,h.ino⟩]
  have a2:eo (v.2.1.length-1) (kx v.2.1)=true:=by
   rw [iu];unfold kx;simp only [Bool.and_eq_true,Bool.not_eq_true',Bool.and_eq_false_iff,beq_eq_false_iff_ne,bne_eq_false_iff_eq];intro i hi;refine⟨(yL v.2.1 ah 1 (by omega)).2 (h.reach (i+1) (by omega) (by omega)),?_⟩;by_cases hk:kindOf (I J v.2.1 (i+1))=2
   ·have:=h.once (i+1) (by omega) (by omega) hk;exact .inr (by rw [this];rfl)
   ·exact .inl hk
  rw [a2];simp only [cond_true,Bool.and_eq_true,Bool.not_eq_true',decide_eq_true_eq];exact⟨by have:=h.bytes;omega,h.over⟩
structure rN(l:List aS):Prop where
 len:l.length≤1048576
 c6:dE l≤1048576
 iU:ix l
 iV:rI l
 bare:∀i,i<l.length→kindOf (I J l i)≠2→an (I J l i)=[]
 n7:∀i,i<l.length→kindOf (I J l i)=3→jO (bT (I J l i))=true
 root:∃i,bz l 1=some i∧kindOf (I J l i)=2
theorem bW.iU{v:af.D}(h:bW v):ix v.2.1:=Qa h.IB
theorem bW.iV{v:af.D}(h:bW v):rI v.2.1:=fun i hi d ah=>((h.ino i hi).names d ah).2.2
def mj(l:List aS)(id:Int):Prop:=∃i,bz l id=some i∧kindOf (I J l i)=2
def cp(r:a6.D):Int:=r.1
def nameOf(r:a6.D):aK:=r.2.1
def bA(r:a6.D):Int:=r.2.2.1
def bO(r:a6.D):Int:=r.2.2.2.1
structure h7(l:List aS)(r:a6.D):Prop where
 there:bO r=0→∃i,bz l (bA r)=some i
 named:bO r=0→nameOf r≠[]→bA r≠0∧iw (nameOf r)=true∧∃d,bz l (cp r)=some d∧kindOf (I J l d)=2∧dR (an (I J l d)) (nameOf r)=bA r
 bare:bO r=0→nameOf r=[]→mj l (bA r)
 new:bO r=2→nameOf r≠[]→bA r=0∧iw (nameOf r)=true∧∃d,bz l (cp r)=some d∧kindOf (I J l d)=2∧dR (an (I J l d)) (nameOf r)=0
 rg:0≤bO r∧bO r≤200
theorem al0(l:List aS){c:Int}(h0:c≠0)(a b:Int)(h2:c≠2∨True)(hr:0≤c∧c≤200:=by decide):h7 l ((0:Int),([]:aK),(0:Int),c,()):=
 ⟨fun h=>absurd h h0,fun h=>absurd h h0,fun h=>absurd h h0,fun _ h=>absurd rfl h,hr⟩
def tv(cc:Bool)(l:List aS)(r:a6.D):Prop:=h7 l r∧(cc=true→bO r=0→∀i,bz l (bA r)=some i→kindOf (I J l i)≠3)
theorem yP(cc:Bool)(l:List aS){c:Int}(h0:c≠0)(a b:Int)(h2:c≠2∨True)(hr:0≤c∧c≤200:=by decide):tv cc l ((0:Int),([]:aK),(0:Int),c,()):=⟨al0 l h0 a b h2 hr,fun _ h=>absurd h h0⟩
theorem Qb{l:List aS}(h:rN l)(id:Int):mj l (kZ l id):=by
 unfold kZ
 cases av:Iw l id with
 | none=>exact h.root
 | some i=>
  obtain ⟨h1,h2,_⟩:=iv.1 av;refine⟨i,h.iU i h1,?_⟩;by_cases hk:kindOf (I J l i)=2
  ·exact hk
  ·have:=h.bare i h1 hk;rw [this] at h2;simp [ql,fA] at h2
theorem rO{N:List aB.D}{s:aK}(h:dR N s≠0):∃d,d∈N∧d.1=s∧d.2.1=dR N s:=by
 unfold dR at h ⊢
 cases hf:fA N.length (rL N s) with
 | none=>rw [hf] at h;exact absurd rfl h
 | some j=>obtain ⟨h1,h2,_⟩:=iv.1 hf;exact⟨I aB N j,cR h1,by unfold rL bD at h2;simpa using h2,rfl⟩
theorem al1{p:aK}(h:BL p)(h1:bD p [46]=false)(h2:bD p [46,46]=false)(dg:p.length≤8):iw p=true:=by
 have hl:1≤p.length:=by
  rcases Nat.eq_zero_or_pos p.length with h0 | h0
  ·exact absurd (List.length_eq_zero_iff.1 h0) h.1
  ·exact h0
 unfold iw;rw [h1,h2,iu.2 (fun i hi=>h.2 i hi),di.2 ⟨by omega,by omega⟩];rfl
theorem al2{L:List aK}{a c:Nat}(h:0<c)(hl:a+c≤L.length):I ae.str L a∈part L a c:=by
 unfold part;have h1:a<L.length:=by omega
 rw [List.drop_eq_getElem_cons h1,show c=(c-1)+1 by omega,List.take_succ_cons,c0 (t:=.str) h1];exact List.mem_cons_self
theorem al3{L:List aK}{a c:Nat} : ∀p,p∈part L (a+1) (c-1)→p∈part L a c:=by
 intro p av;unfold part at *;rcases Nat.eq_zero_or_pos c with h | h
 ·subst h;simp at av
 ·rcases Nat.lt_or_ge a L.length with h1 | h1
  ·rw [List.drop_eq_getElem_cons h1,show c=(c-1)+1 by omega,List.take_succ_cons];exact List.mem_cons_of_mem _ av
  ·rw [List.drop_of_length_le (by omega)] at av;simp at av
theorem Qc{s:aK}(h:jO s=true):1≤s.length∧s.length≤60:=by unfold jO at h;rw [Bool.and_eq_true] at h;have:=di.1 h.2;omega
theorem n8(m:Nat)(U aa ad ag al aE a7 bE cn):(fx (m+1)).bg U aa ad ag al aE a7 bE cn=mh (fx m) U aa ad ag al aE a7 bE cn:=rfl
theorem IC(m:Nat)(U aa ad ag al aE a7 bE cn fm kS kT kt):(fx (m+1)).VM U aa ad ag al aE a7 bE cn fm kS kT kt=yg (fx m) U aa ad ag al aE a7 bE cn fm kS kT kt:=rfl
theorem ZC(m:Nat)(U aa ad ag al aE a7 bE cn fm):(fx (m+1)).j_ U aa ad ag al aE a7 bE cn fm=GU (fx m) U aa ad ag al aE a7 bE cn fm:=rfl
theorem ZD(m:Nat)(U aa ad ag al aE a7 bE cn fm kS kT kt):(fx (m+1)).A5 U aa ad ag al aE a7 bE cn fm kS kT kt=GV (fx m) U aa ad ag al aE a7 bE cn fm kS kT kt:=rfl
theorem ZE(m:Nat)(U aa ad ag al aE a7 bE cn fm):(fx (m+1)).p8 U aa ad ag al aE a7 bE cn fm=GW (fx m) U aa ad ag al aE a7 bE cn fm:=rfl
theorem na(x:aS):I J [x] 0=x:=rfl
theorem b8.jump{β : Type}{f g:Nat → β}{B:Nat}(k:Nat){y : β}(h:b8 g B y)(hf:∀m,f (m+k)=g m):b8 f (B+k) y:=by
 intro m hm;obtain ⟨j,rfl⟩:∃j,m=j+k:=⟨m-k,by omega⟩
 rw [hf];exact h j (by omega)
theorem b8.now{β : Type}{f:Nat → β}(k:Nat){y : β}(hf:∀m,f (m+k)=y):b8 f k y:=by
 intro m hm;obtain ⟨j,rfl⟩:∃j,m=j+k:=⟨m-k,by omega⟩
 exact hf j
theorem al4(v:af.D)(c:aL.D)(hw:rN v.2.1)(hc:dy c=true)(cc:Bool)(z:a6.D):∀(n:Nat) (at_:Int) (k:Nat) (L:List aK) (a c5:Nat),(8-k)*100+c5≤n→k≤8→a+c5≤L.length→c5≤100→(∀p,p∈part L a c5→BL p)→mj v.2.1 at_ →
  ∃r,tv cc v.2.1 r∧b8 (fun m=>gA m v cc a c5 at_ (k:Int) c z L) (n+2) (some (r,()))∧b8 (fun m=>(fx m).bg cc a c5 at_ (k:Int) v c z L) (5*n+5) (some (r,())):=by
 intro n
 induction n with
 | zero=>
  intro at_ k L a c5 hn hk hl al5 av cB;have h0:c5=0:=by omega
  subst h0;obtain ⟨d,ah,gm⟩:=cB;refine⟨((0:Int),([]:aK),at_,(0:Int),()),⟨⟨fun _=>⟨d,ah⟩,fun _ h=>absurd rfl h,fun _ _=>⟨d,ah,gm⟩,fun _ h=>absurd rfl h,show(0:Int)≤0∧(0:Int)≤200 from by decide⟩,fun _ _ e he=>by rw [show bA (((0:Int),([]:aK),at_,(0:Int),()):a6.D)=at_ from rfl,ah] at he;rw [← aZ he,gm];decide⟩,(b8.now 1 fun m=>?_).mono (by omega),(b8.now 1 fun m=>?_).mono (by omega)⟩
  ·simp only [gA,mf];rfl
  ·rw [n8];unfold mh;rfl
 | succ n ih=>
  intro at_ k L a c5 hn hk hl al5 av cB;rcases Nat.eq_zero_or_pos c5 with h0 | h0
  ·subst h0;obtain ⟨d,ah,gm⟩:=cB;refine⟨((0:Int),([]:aK),at_,(0:Int),()),⟨⟨fun _=>⟨d,ah⟩,fun _ h=>absurd rfl h,fun _ _=>⟨d,ah,gm⟩,fun _ h=>absurd rfl h,show(0:Int)≤0∧(0:Int)≤200 from by decide⟩,fun _ _ e he=>by rw [show bA (((0:Int),([]:aK),at_,(0:Int),()):a6.D)=at_ from rfl,ah] at he;rw [← aZ he,gm];decide⟩,(b8.now 1 fun m=>?_).mono (by omega),(b8.now 1 fun m=>?_).mono (by omega)⟩
   ·simp only [gA,mf];rfl
   ·rw [n8];unfold mh;rfl
  obtain ⟨d,ah,gm⟩:=cB;have hdl:=b5 ah;have iq:(an (I J v.2.1 d)).length≤1048576:=Nat.le_trans (gk hdl.1) hw.c6;have nL:=av _ (al2 h0 hl);have ga:∀p,p∈part L (a+1) (c5-1)→BL p:=fun p h=>av p (al3 p h)
  have fT:aM c5 0=some 0:=bu (i:=0) h0;have gL:eh c5 1 (c5:Int)=some (1,c5):=jD (lo:=1) h0 (Nat.le_refl _);have gg:decide ((c5:Int)>0)=true:=decide_eq_true (by omega);have h8:=n6 v at_ hw.len ah;have n9:=BI c (I J v.2.1 d) 1 hc;have qm:=qj c (I J v.2.1 d) 1 hc;have al6:=alJ v at_ hw.len hw.c6;have al7:=Zl v at_ hw.len hw.c6;have qn:kQ (v,at_,())=some ((d:Int),()):=by rw [n2 v at_ hw.len,ah];rfl
  have qo:aM v.2.1.length (d:Int)=some d:=bu hdl.1;have tw:=Zk (I J v.2.1 d) (I ae.str L a) iq;have yQ:=alI v at_ (I ae.str L a) hw.len ah iq
  cases hm:may c (I J v.2.1 d) 1 with
  | false=>
   refine⟨((0:Int),([]:aK),(0:Int),(13:Int),()),yP cc _ (by decide) 0 0 (.inr trivial),(b8.now 1 fun m=>?_).mono (by omega),(b8.now 1 fun m=>?_).mono (by omega)⟩
   ·rw [gA,mf];simp -index only [gg,fT,gL,h8,na,n9,hm,cond_true,cond_false,aw,Bool.not_true,Bool.not_false,List.isEmpty_cons]
   ·rw [n8];unfold mh;simp only [gg,fT,gL,qn,qo,qm,hm,cond_true,cond_false,aw,Bool.not_true,Bool.not_false]
  | true=>
  cases h1:bD (I ae.str L a) [46] with
  | true=>
   obtain ⟨r,bH,cm,gQ⟩:=ih at_ k L (a+1) (c5-1) (by omega) hk (by omega) (by omega) ga ⟨d,ah,gm⟩;refine⟨r,bH,(cm.jump (f:=fun m=>gA m v cc a c5 at_ (k:Int) c z L) 1 fun m=>?_).mono (by omega),(gQ.jump (f:=fun m=>(fx m).bg cc a c5 at_ (k:Int) v c z L) 1 fun m=>?_).mono (by omega)⟩
   ·rw [gA,mf];simp -index only [gg,fT,gL,h8,na,n9,hm,h1,cond_true,cond_false,aw,Bool.not_true,Bool.not_false,List.isEmpty_cons,Nat.add_zero]
   ·rw [n8];unfold mh;simp only [gg,fT,gL,qn,qo,qm,hm,h1,cond_true,cond_false,aw,Bool.not_true,Bool.not_false,Nat.add_zero]
  | false=>
  cases h2:bD (I ae.str L a) [46,46] with
  | true=>
   obtain ⟨r,bH,cm,gQ⟩:=ih (kZ v.2.1 at_) k L (a+1) (c5-1) (by omega) hk (by omega) (by omega) ga (Qb hw _);refine⟨r,bH,(cm.jump (f:=fun m=>gA m v cc a c5 at_ (k:Int) c z L) 1 fun m=>?_).mono (by omega),(gQ.jump (f:=fun m=>(fx m).bg cc a c5 at_ (k:Int) v c z L) 1 fun m=>?_).mono (by omega)⟩
   ·rw [gA,mf];simp -index only [gg,fT,gL,h8,na,n9,hm,h1,h2,al6,cond_true,cond_false,aw,Bool.not_true,Bool.not_false,List.isEmpty_cons,Nat.add_zero]
   ·rw [n8];unfold mh;simp only [gg,fT,gL,qn,qo,qm,hm,h1,h2,al7,cond_true,cond_false,aw,Bool.not_true,Bool.not_false,Nat.add_zero]
  | false=>
  cases dg:decide (((I ae.str L a).length:Int)>8) with
  | true=>
   refine⟨((0:Int),([]:aK),(0:Int),(36:Int),()),yP cc _ (by decide) 0 0 (.inr trivial),(b8.now 1 fun m=>?_).mono (by omega),(b8.now 1 fun m=>?_).mono (by omega)⟩
   ·rw [gA,mf];simp -index only [gg,fT,gL,h8,na,n9,hm,h1,h2,dg,cond_true,cond_false,aw,Bool.not_true,Bool.not_false,List.isEmpty_cons,Nat.add_zero]
   ·rw [n8];unfold mh;simp only [gg,fT,gL,qn,qo,qm,hm,h1,h2,dg,cond_true,cond_false,aw,Bool.not_true,Bool.not_false,Nat.add_zero]
  | false=>
  have jo:iw (I ae.str L a)=true:=al1 nL h1 h2 (by
   have:=of_decide_eq_false dg;have h:¬((I ae.str L a).length:Int)>8:=this
   omega)
  cases jw:dR (an (I J v.2.1 d)) (I ae.str L a)==0 with
  | true=>
   cases gM:((c5-1:Nat):Int)==0 with
   | true=>
    refine⟨(at_,I ae.str L a,(0:Int),(2:Int),()),⟨⟨fun h=>(by cases h),fun h=>(by cases h),fun h=>(by cases h),fun _ _=>⟨rfl,jo,d,ah,gm,beq_iff_eq.1 jw⟩,show(0:Int)≤2∧(2:Int)≤200 from by decide⟩,fun _ h=>(by cases h)⟩,(b8.now 1 fun m=>?_).mono (by omega),(b8.now 1 fun m=>?_).mono (by omega)⟩
    ·rw [gA,mf];simp -index only [gg,fT,gL,h8,na,n9,hm,h1,h2,dg,tw,jw,gM,cond_true,cond_false,aw,Bool.not_true,Bool.not_false,List.isEmpty_cons,Nat.add_zero]
    ·rw [n8];unfold mh;simp only [gg,fT,gL,qn,qo,qm,hm,h1,h2,dg,yQ,jw,gM,cond_true,cond_false,aw,Bool.not_true,Bool.not_false,Nat.add_zero]
   | false=>
    refine⟨((0:Int),([]:aK),(0:Int),(2:Int),()),⟨⟨fun h=>(by cases h),fun h=>(by cases h),fun h=>(by cases h),fun _ h=>absurd rfl h,show(0:Int)≤2∧(2:Int)≤200 from by decide⟩,fun _ h=>(by cases h)⟩,(b8.now 1 fun m=>?_).mono (by omega),(b8.now 1 fun m=>?_).mono (by omega)⟩
    ·rw [gA,mf];simp -index only [gg,fT,gL,h8,na,n9,hm,h1,h2,dg,tw,jw,gM,cond_true,cond_false,aw,Bool.not_true,Bool.not_false,List.isEmpty_cons,Nat.add_zero]
    ·rw [n8];unfold mh;simp only [gg,fT,gL,qn,qo,qm,hm,h1,h2,dg,yQ,jw,gM,cond_true,cond_false,aw,Bool.not_true,Bool.not_false,Nat.add_zero]
  | false=>
  obtain ⟨e,he,ZF,qT⟩:=rO (N:=an (I J v.2.1 d)) (s:=I ae.str L a) (by simpa using jw);obtain ⟨i2,gw⟩:=Option.isSome_iff_exists.1 (hw.iV d hdl.1 e he);rw [qT] at gw;have wD:=b5 gw;have yR:=n6 v _ hw.len gw;have ID:kQ (v,dR (an (I J v.2.1 d)) (I ae.str L a),())=some ((i2:Int),()):=by rw [n2 v _ hw.len,gw];rfl
  have IE:aM v.2.1.length (i2:Int)=some i2:=bu wD.1
  have ZG:((I J v.2.1 i2).2.1==3)=true→(!(((c5-1:Nat):Int)==0)||cc)=true→∃r,tv cc v.2.1 r∧b8 (fun m=>gA m v cc a c5 at_ (k:Int) c z L) (n+1+2) (some (r,()))∧b8 (fun m=>(fx m).bg cc a c5 at_ (k:Int) v c z L) (5*(n+1)+5) (some (r,())):=by
   intro jT ml;have ZH:=hw.n7 i2 wD.1 (beq_iff_eq.1 jT);have yS:=Qc ZH;have yT:aM ((I J v.2.1 i2).2.2.2.2.2.1).length 0=some 0:=bu (i:=0) yS.1;have IF:sO ((I J v.2.1 i2).2.2.2.2.2.1,())=some (cut (bT (I J v.2.1 i2)),()):=Zu _ (Nat.le_trans yS.2 (by omega));have ZI:A4 ((I J v.2.1 i2).2.2.2.2.2.1,())=some (cut (bT (I J v.2.1 i2)),()):=Zq _ (Nat.le_trans yS.2 (by omega));have hcl:=Zv (bT (I J v.2.1 i2));have gf:(part L (a+1) (c5-1)).length≤100:=by unfold part;rw [List.length_take];omega
   have hroom:room ((cut (bT (I J v.2.1 i2))).length +(part L (a+1) (c5-1)).length)=true:=b7 (by omega);have ji:=Zw ZH;generalize wE:cut (bT (I J v.2.1 i2))++part L (a+1) (c5-1)=k0 at *
   have al8:∀p,p∈k0→BL p:=by
    intro p oz;rw [← wE] at oz;rcases List.mem_append.1 oz with h | h
    ·exact ji p h
    ·exact ga p h
   obtain ⟨at',al9,rP,rQ⟩:∃at',mj v.2.1 at'∧(∀m,gA (m+1) v cc a c5 at_ (k:Int) c z L=cond ((k:Int)==8) (some (((0:Int),([]:aK),(0:Int),(40:Int),()),()))
      (cond (decide ((k0.length:Int)>40)) (some (((0:Int),([]:aK),(0:Int),(36:Int),()),())) (gA m v cc 0 k0.length at' (aH ((k:Int)+1)) c z k0))) ∧
     ∀m,(fx (m+4)).bg cc a c5 at_ (k:Int) v c z L=cond (decide (aH ((k:Int)+1)>8)) (some (((0:Int),([]:aK),(0:Int),(40:Int),()),()))
      (cond (decide ((k0.length:Int)>40)) (some (((0:Int),([]:aK),(0:Int),(36:Int),()),())) ((fx m).bg cc 0 k0.length at' (aH ((k:Int)+1)) v c z k0)):=by
    cases hb:((((I J v.2.1 i2).2.2.2.2.2.1).getD 0 0).toNat:Int)==47 with
    | false=>
     refine⟨at_,⟨d,ah,gm⟩,fun m=>?_,fun m=>?_⟩
     ·rw [gA,mf]
      cases gM:((c5-1:Nat):Int)==0 with
      | false=>simp -index only [gg,fT,gL,h8,na,n9,hm,h1,h2,dg,tw,jw,yR,jT,gM,yT,hb,IF,hroom,wE,U',cond_true,cond_false,aw,Bool.not_true,Bool.not_false,List.isEmpty_cons,Nat.add_zero]
      | true=>rw [gM] at ml;have ml:cc=true:=ml;simp -index only [gg,fT,gL,h8,na,n9,hm,h1,h2,dg,tw,jw,yR,jT,gM,ml,yT,hb,IF,hroom,wE,Vb,cond_true,cond_false,aw,Bool.not_true,Bool.not_false,List.isEmpty_cons,Nat.add_zero]
     ·rw [n8];unfold mh;simp only [gg,fT,gL,qn,qo,qm,hm,h1,h2,dg,yQ,jw,oR,ID,IE,cond_true,cond_false,aw,Bool.not_true,Bool.not_false,Nat.add_zero];rw [IC];unfold yg;have:(cond (!(((c5-1:Nat):Int)==0)) ((fx (m+2)).j_ cc (a+1) (c5-1) at_ (k:Int) v c z L (I J v.2.1 i2)) (cond cc ((fx (m+2)).j_ cc (a+1) (c5-1) at_ (k:Int) v c z L (I J v.2.1 i2)) ((fx (m+2)).A5 cc (a+1) (c5-1) at_ (k:Int) (I ae.str L a) (((c5-1:Nat):Int)==0) (dR (an (I J v.2.1 d)) (I ae.str L a)) v c z L (I J v.2.1 i2))))=(fx (m+2)).j_ cc (a+1) (c5-1) at_ (k:Int) v c z L (I J v.2.1 i2):=by revert ml;cases ((c5-1:Nat):Int)==0 <;> cases cc <;> intro ml <;> first | rfl | cases ml
      rw [jT];simp only [cond_true];refine this.trans ?_;rw [ZC];unfold GU;rw [yT];simp only [aw,hb,cond_false];rw [ZE];unfold GW;rw [ZI];simp only [aw,hroom,cond_true,wE]
    | true=>
     refine⟨1,hw.root,fun m=>?_,fun m=>?_⟩
     ·rw [gA,mf]
      cases gM:((c5-1:Nat):Int)==0 with
      | false=>simp -index only [gg,fT,gL,h8,na,n9,hm,h1,h2,dg,tw,jw,yR,jT,gM,yT,hb,IF,hroom,wE,U_,cond_true,cond_false,aw,Bool.not_true,Bool.not_false,List.isEmpty_cons,Nat.add_zero]
      | true=>rw [gM] at ml;have ml:cc=true:=ml;simp -index only [gg,fT,gL,h8,na,n9,hm,h1,h2,dg,tw,jw,yR,jT,gM,ml,yT,hb,IF,hroom,wE,Va,cond_true,cond_false,aw,Bool.not_true,Bool.not_false,List.isEmpty_cons,Nat.add_zero]
     ·rw [n8];unfold mh;simp only [gg,fT,gL,qn,qo,qm,hm,h1,h2,dg,yQ,jw,oR,ID,IE,cond_true,cond_false,aw,Bool.not_true,Bool.not_false,Nat.add_zero];rw [IC];unfold yg;have:(cond (!(((c5-1:Nat):Int)==0)) ((fx (m+2)).j_ cc (a+1) (c5-1) at_ (k:Int) v c z L (I J v.2.1 i2)) (cond cc ((fx (m+2)).j_ cc (a+1) (c5-1) at_ (k:Int) v c z L (I J v.2.1 i2)) ((fx (m+2)).A5 cc (a+1) (c5-1) at_ (k:Int) (I ae.str L a) (((c5-1:Nat):Int)==0) (dR (an (I J v.2.1 d)) (I ae.str L a)) v c z L (I J v.2.1 i2))))=(fx (m+2)).j_ cc (a+1) (c5-1) at_ (k:Int) v c z L (I J v.2.1 i2):=by revert ml;cases ((c5-1:Nat):Int)==0 <;> cases cc <;> intro ml <;> first | rfl | cases ml
      rw [jT];simp only [cond_true];refine this.trans ?_;rw [ZC];unfold GU;rw [yT];simp only [aw,hb,cond_true];rw [ZE];unfold GW;rw [ZI];simp only [aw,hroom,cond_true,wE]
   have cH:aH ((k:Int)+1)=((k+1:Nat):Int):=dv k (by omega);rw [cH] at rP rQ;rcases Nat.lt_or_ge k 8 with al_ | al_
   ·rw [show((k:Int)==8)=false by simp;omega] at rP;rw [show decide (((k+1:Nat):Int)>8)=false from decide_eq_false (by omega)] at rQ;simp only [cond_false] at rP rQ
    cases IG:decide ((k0.length:Int)>40) with
    | true=>rw [IG] at rP rQ;refine⟨((0:Int),([]:aK),(0:Int),(36:Int),()),yP cc _ (by decide) 0 0 (.inr trivial),(b8.now 1 fun m=>rP m).mono (by omega),(b8.now 4 fun m=>rQ m).mono (by omega)⟩
    | false=>rw [IG] at rP rQ;have IG:=of_decide_eq_false IG;obtain ⟨r,bH,cm,gQ⟩:=ih at' (k+1) k0 0 k0.length (by omega) (by omega) (by omega) (by omega) (by rw [YJ];exact al8) al9;exact⟨r,bH,(cm.jump (f:=fun m=>gA m v cc a c5 at_ (k:Int) c z L) 1 fun m=>rP m).mono (by omega),(gQ.jump (f:=fun m=>(fx m).bg cc a c5 at_ (k:Int) v c z L) 4 fun m=>rQ m).mono (by omega)⟩
   ·rw [show((k:Int)==8)=true by simp;omega] at rP;rw [show decide (((k+1:Nat):Int)>8)=true from decide_eq_true (by omega)] at rQ;refine⟨((0:Int),([]:aK),(0:Int),(40:Int),()),yP cc _ (by decide) 0 0 (.inr trivial),(b8.now 1 fun m=>rP m).mono (by omega),(b8.now 4 fun m=>rQ m).mono (by omega)⟩
  have bP:(cc=true→kindOf (I J v.2.1 i2)≠3)→(∀m,gA (m+1) v cc a c5 at_ (k:Int) c z L=cond (((c5-1:Nat):Int)==0) (some ((at_,I ae.str L a,dR (an (I J v.2.1 d)) (I ae.str L a),(0:Int),()),()))
     (cond ((I J v.2.1 i2).2.1 != 2) (some (((0:Int),([]:aK),(0:Int),(20:Int),()),())) (gA m v cc (a+1) (c5-1) (dR (an (I J v.2.1 d)) (I ae.str L a)) (k:Int) c z L))) →
    (∀m,(fx (m+3)).bg cc a c5 at_ (k:Int) v c z L=cond (((c5-1:Nat):Int)==0) (some ((at_,I ae.str L a,dR (an (I J v.2.1 d)) (I ae.str L a),(0:Int),()),()))
     (cond ((I J v.2.1 i2).2.1 != 2) (some (((0:Int),([]:aK),(0:Int),(20:Int),()),())) ((fx m).bg cc (a+1) (c5-1) (dR (an (I J v.2.1 d)) (I ae.str L a)) (k:Int) v c z L))) →
    ∃r,tv cc v.2.1 r∧b8 (fun m=>gA m v cc a c5 at_ (k:Int) c z L) (n+1+2) (some (r,()))∧b8 (fun m=>(fx m).bg cc a c5 at_ (k:Int) v c z L) (5*(n+1)+5) (some (r,())):=by
   intro hnl g1 g2
   cases gM:((c5-1:Nat):Int)==0 with
   | true=>
    refine⟨(at_,I ae.str L a,dR (an (I J v.2.1 d)) (I ae.str L a),(0:Int),()),⟨⟨fun _=>⟨i2,gw⟩,fun _ _=>⟨beq_eq_false_iff_ne.1 jw,jo,d,ah,gm,rfl⟩,fun _ h=>absurd h nL.1,fun h=>(by cases h),show(0:Int)≤0∧(0:Int)≤200 from by decide⟩,fun hf _ e he=>by rw [show bA ((at_,I ae.str L a,dR (an (I J v.2.1 d)) (I ae.str L a),(0:Int),()):a6.D)=dR (an (I J v.2.1 d)) (I ae.str L a) from rfl,gw] at he;rw [← aZ he];exact hnl hf⟩,(b8.now 1 fun m=>?_).mono (by omega),(b8.now 3 fun m=>?_).mono (by omega)⟩
    ·rw [g1,gM];rfl
    ·rw [g2,gM];rfl
   | false=>
    rw [gM] at g1 g2;simp only [cond_false] at g1 g2;by_cases hk2:kindOf (I J v.2.1 i2)=2
    ·obtain ⟨r,bH,cm,gQ⟩:=ih (dR (an (I J v.2.1 d)) (I ae.str L a)) k L (a+1) (c5-1) (by omega) hk (by omega) (by omega) ga ⟨i2,gw,hk2⟩;refine⟨r,bH,(cm.jump (f:=fun m=>gA m v cc a c5 at_ (k:Int) c z L) 1 fun m=>?_).mono (by omega),(gQ.jump (f:=fun m=>(fx m).bg cc a c5 at_ (k:Int) v c z L) 3 fun m=>?_).mono (by omega)⟩
     ·rw [g1,ed (show(I J v.2.1 i2).2.1=2 from hk2)];rfl
     ·rw [g2,ed (show(I J v.2.1 i2).2.1=2 from hk2)];rfl
    ·refine⟨((0:Int),([]:aK),(0:Int),(20:Int),()),yP cc _ (by decide) 0 0 (.inr trivial),(b8.now 1 fun m=>?_).mono (by omega),(b8.now 3 fun m=>?_).mono (by omega)⟩
     ·rw [g1,dj (show ¬(I J v.2.1 i2).2.1=2 from hk2)];rfl
     ·rw [g2,dj (show ¬(I J v.2.1 i2).2.1=2 from hk2)];rfl
  cases jT:(I J v.2.1 i2).2.1==3 with
  | true=>
   cases gM:((c5-1:Nat):Int)==0 with
   | false=>exact ZG jT (by rw [gM];rfl)
   | true=>
    cases cc with
    | true=>exact ZG jT (by rw [gM];rfl)
    | false=>
     refine bP (fun h=>by cases h) (fun m=>?_) (fun m=>?_)
     ·rw [gA,mf];simp -index only [gg,fT,gL,h8,na,n9,hm,h1,h2,dg,tw,jw,yR,jT,gM,cond_true,cond_false,aw,Bool.not_true,Bool.not_false,List.isEmpty_cons,Nat.add_zero]
     ·rw [n8];unfold mh;simp only [gg,fT,gL,qn,qo,qm,hm,h1,h2,dg,yQ,jw,oR,ID,IE,gM,cond_true,cond_false,aw,Bool.not_true,Bool.not_false,Nat.add_zero];rw [IC];unfold yg;simp only [jT,cond_true,cond_false,Bool.not_true,Bool.not_false];rw [ZD];unfold GV;rfl
  | false=>
   refine bP (fun _=>beq_eq_false_iff_ne.1 jT) (fun m=>?_) (fun m=>?_)
   ·rw [gA,mf];simp -index only [gg,fT,gL,h8,na,n9,hm,h1,h2,dg,tw,jw,yR,jT,cond_true,cond_false,aw,Bool.not_true,Bool.not_false,List.isEmpty_cons,Nat.add_zero]
   ·rw [n8];unfold mh;simp only [gg,fT,gL,qn,qo,qm,hm,h1,h2,dg,yQ,jw,oR,ID,IE,cond_true,cond_false,aw,Bool.not_true,Bool.not_false,Nat.add_zero];rw [IC];unfold yg;simp only [jT,cond_true,cond_false];rw [ZD];unfold GV;rfl
theorem ZJ(v:af.D)(c:aL.D)(path:aK)(cc:Bool)(hw:rN v.2.1)(hc:dy c=true)(av:tt path=true) :
  ∃r,tv cc v.2.1 r∧Mx (v,c,path,cc,())=some (r,())∧GX (v,c,path,cc,())=some (r,()):=by
 unfold tt at av;rw [Bool.and_eq_true] at av;have yS:=Qc av.1;have hcl:=Zv path;obtain ⟨r,bH,cm,gQ⟩:=al4 v c hw hc cc ((0:Int),([]:aK),(0:Int),(0:Int),()) 900 1 0 (cut path) 0 (cut path).length (by omega) (by omega) (by omega) (by omega) (by rw [YJ];exact Zw av.1) hw.root;refine⟨r,bH,?_,?_⟩
 ·show E6 (gA aN) v c path cc=_;unfold E6;rw [Zu path (by omega)];exact lH cm (by omega)
 ·show GS (fx aN) v c path cc=_;unfold GS;rw [Zq path (by omega)];exact lH gQ (by omega)
end Go.LM.kO
