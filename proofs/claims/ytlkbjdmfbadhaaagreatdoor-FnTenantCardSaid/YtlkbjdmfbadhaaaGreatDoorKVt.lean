/- Tenants: both sides come to the same; what is drawn; the law. Conditions: each theorem's own hypotheses. -/
import Derived.Test.YtlkbjdmfbadhaaaGreatDoorKVe
set_option linter.unusedVariables false
set_option linter.unusedSimpArgs false
namespace Go.LM.kO
def oh(r:aF.D):Bool:=cz r.1 0 200&&decide ((r.2.1.length:Int)≤400)
theorem apB(r:aF.D):Gj (r,())=some (oh r,()):=by show Nl r=_;unfold Nl oh;simp only [hO,aw,kW,By]
theorem apC(r:aF.D):DZ (r,())=some (oh r,()):=by show LP r=_;unfold LP oh;simp only [g_,aw,kW,By]
def tK(l:List aO.D)(i:Nat):Bool:=
 cz (I aO l i).1 1 100000 && !(decide (0<i)&&decide ((I aO l (i-1)).1 >(I aO l i).1))&&cz (I aO l i).2.1 1 3&&cz (I aO l i).2.2.1 1 1000000&&cz (I aO l i).2.2.2.1 1 22&&cz (I aO l i).2.2.2.2.1 0 200
def gD(l:List aO.D):Bool:=eo l.length (tK l)&&decide ((l.length:Int)≤20)
theorem aa8(l:List aO.D):Gi (l,())=some (gD l,()):=by
 show Gg (vH aN) l=_;unfold Gg gD;by_cases hl:(l.length:Int)≤20
 case neg=>rw [decide_eq_true (by omega),decide_eq_false hl,Bool.and_false];rfl
 rw [decide_eq_false (by omega),decide_eq_true hl];simp only [cond_false];refine n1 l.length (by omega) (tK l) true (fun m i=>vH m l i) ?_ ?_
 ·intro m _;simp only [vH,Gh];rw [cA (Nat.le_refl _)];rfl
 ·intro m i hi _ hw;simp only [vH,Gh,hw];rw [b9 hi,bu hi];simp only [cond_true,aw,hO,tK,wv,kX,cond_false,Bool.false_and]
  cases i with
  | zero=>simp only [wy,Nat.lt_irrefl,decide_false,cond_false,cond_true]
  | succ i=>rw [wx hi (by omega)];simp only [wz,Nat.zero_lt_succ,decide_true,cond_true,aw,Nat.add_sub_cancel]
theorem aa9(l:List aO.D)(hl:l.length≤1048576):D3 (l,())=some (gD l,()):=by
 show D1 (uY aN) l=_;unfold D1 gD;refine n1 l.length (by omega) (tK l) _ (fun m i=>uY m l l (l.length:Int) i) ?_ ?_
 ·intro m _;simp only [uY,D2];rw [cA (Nat.le_refl _)];rfl
 ·intro m i hi _ hw;simp only [uY,D2,hw];rw [b9 hi,bu hi];simp only [cond_true,aw,g_,tK,wv,kX,cond_false,Bool.false_and]
  cases i with
  | zero=>simp only [wy,Nat.lt_irrefl,decide_false,cond_false,cond_true]
  | succ i=>rw [wx hi (by omega)];simp only [wz,Nat.zero_lt_succ,decide_true,cond_true,aw,Nat.add_sub_cancel]
abbrev c2:Type:=aR.D
def jY(l:List bt.D)(i:Nat):Bool:=
 cz (I bt l i).1 1 3 && !(decide (0<i)&&decide ((I bt l (i-1)).1≥(I bt l i).1))&&cz (I bt l i).2.1 1 1000000&&cz (I bt l i).2.2.1 1 100000&&oh (I bt l i).2.2.2.1
def e5(t:c2):Bool:=eo t.2.2.2.1.length (jY t.2.2.2.1)&&(cz t.2.1 0 30&&(gD t.2.2.1&&g' t.1))
theorem tL{l:List bt.D}(h:eo l.length (jY l)=true):l.length≤3:=by
 have h:=iu.1 h
 have key:∀i,i<l.length→(i:Int)+1≤(I bt l i).1:=by
  intro i
  induction i with
  | zero=>intro hi;have:=h 0 hi;unfold jY at this;simp only [Bool.and_eq_true,di] at this;have:=this.1.1.1.1.1;omega
  | succ i ih=>
   intro hi;have h1:=ih (by omega);have:=h (i+1) hi;unfold jY at this;simp only [Bool.and_eq_true,Bool.not_eq_true',Bool.and_eq_false_iff,decide_eq_false_iff_not] at this;have h2:=this.1.1.1.2;rcases h2 with h2 | h2
   ·omega
   ·rw [Nat.add_sub_cancel] at h2;have h2:(I bt l i).1<(I bt l (i+1)).1:=Int.not_le.1 h2;exact(by intro a b h1 h2;omega:∀a b:Int,(i:Int)+1≤a→a<b→((i+1:Nat):Int)+1≤b) _ _ h1 h2
 rcases Nat.lt_or_ge 3 l.length with h3 | h3
 ·have h4:=key 3 h3;have:=h 3 h3;unfold jY at this;simp only [Bool.and_eq_true,di] at this;have:=this.1.1.1.1.2;omega
 ·exact h3
theorem Ci(t:c2):ae.cost aR t=ae.cost af t.1 +(ae.cost (.sl aO) t.2.2.1+ae.cost (.sl bt) t.2.2.2.1):=by simp only [yF,yG,yH,yI,Nat.zero_add,Nat.add_zero]
theorem Rb(t:c2)(hc:ae.cost aR t≤1048576):AR (t,())=some (e5 t,()):=by
 rw [Ci] at hc;show Gl (sY aN) t=_;unfold Gl;rw [alC _ (P0 (by omega)),aa8];simp only [hO,aw]
 have hk:t.2.2.2.1.length≤3→sY aN 0 t=some (eo t.2.2.2.1.length (jY t.2.2.2.1)&&true,()):=by
  intro hl;refine n1 t.2.2.2.1.length (by omega) (jY t.2.2.2.1) true (fun m i=>sY m i t) ?_ ?_
  ·intro m _;simp only [sY,Gm];rw [cA (Nat.le_refl _)];rfl
  ·intro m i hi _ hw;simp only [sY,Gm,hw];rw [b9 hi,bu hi];simp only [cond_true,aw,hO];rw [apB];simp only [aw,jY,wv,kX,cond_false,Bool.false_and]
   cases i with
   | zero=>simp only [wy,Nat.lt_irrefl,decide_false,cond_false,cond_true]
   | succ i=>rw [wx hi (by omega)];simp only [wz,Nat.zero_lt_succ,decide_true,cond_true,aw,Nat.add_sub_cancel]
 unfold e5;by_cases hl:t.2.2.2.1.length≤3
 ·rw [hk hl,decide_eq_false (by omega)];cases g' t.1 <;> cases cz t.2.1 0 30 <;> cases gD t.2.2.1 <;> simp
 ·rw [decide_eq_true (by omega)];have:eo t.2.2.2.1.length (jY t.2.2.2.1)=false:=by rw [← Bool.not_eq_true];exact fun h=>hl (tL h)
  rw [this];cases g' t.1 <;> cases cz t.2.1 0 30 <;> cases gD t.2.2.1 <;> simp
theorem apD(t:c2)(hc:ae.cost aR t≤1048576):L1 (t,())=some (e5 t,()):=by
 rw [Ci] at hc;have h1:=H9 (t:=aO) t.2.2.1;have h2:=H9 (t:=bt) t.2.2.2.1;show EC (ve aN) t=_;unfold EC e5;refine n1 t.2.2.2.1.length (by omega) (jY t.2.2.2.1) _ (fun m i=>ve m t.2.2.2.1 (t.2.2.2.1.length:Int) i t) ?_ ?_
 ·intro m _;simp only [ve,ED];rw [cA (Nat.le_refl _),alD _ (P0 (by omega)),aa9 _ (by omega)];simp only [g_,aw,cond_false,kW,By]
 ·intro m i hi _ hw;simp only [ve,ED,hw];rw [b9 hi,bu hi];simp only [cond_true,aw,g_];rw [apC];simp only [aw,jY,wv,kX,cond_false,Bool.false_and]
  cases i with
  | zero=>simp only [wy,Nat.lt_irrefl,decide_false,cond_false,cond_true]
  | succ i=>rw [wx hi (by omega)];simp only [wz,Nat.zero_lt_succ,decide_true,cond_true,aw,Nat.add_sub_cancel]
theorem apE{t:c2}(h:e5 t=true)(hn:t.2.2.1.length≤1048576)(hs:t.2.2.2.1.length≤1048576):L3 (t,())=some (t,()):=by
 have hv:g' t.1=true:=by unfold e5 at h;simp only [Bool.and_eq_true] at h;exact h.2.2.2
 show L2 t=_;unfold L2;rw [(tu.1 hv).aaI];simp only [aw];rw [b7 (by simp;omega),b7 (by simp;omega)];rfl
theorem aa_{t:c2}(h:e5 t=true)(hn:t.2.2.1.length≤1048576)(hs:t.2.2.2.1.length≤1048576):yl (t,())=some (t,()):=by
 have hv:g' t.1=true:=by unfold e5 at h;simp only [Bool.and_eq_true] at h;exact h.2.2.2
 show N6 t=_;unfold N6;rw [(tu.1 hv).aaH];simp only [aw];rw [b7 (by simp;omega),b7 (by simp;omega)];rfl
def mn(k:Int):aL.D:=if k=1 then(0,0,([]:List Int),()) else if k=2 then(2,2,[5],()) else if k=3 then(3,2,([]:List Int),()) else(1000,1000,([]:List Int),())
theorem apF(k:Int):Mb (k,())=some (mn k,()):=by
 show Ma k=_;unfold Ma mn;by_cases h1:k=1
 ·rw [cr h1,if_pos h1];rfl
 by_cases h2:k=2
 ·rw [bX h1,if_neg h1,cr h2,if_pos h2];rfl
 by_cases h3:k=3
 ·rw [bX h1,if_neg h1,bX h2,if_neg h2,cr h3,if_pos h3];rfl
 ·rw [bX h1,if_neg h1,bX h2,if_neg h2,bX h3,if_neg h3];rfl
theorem apG(k:Int):Ns (k,())=some (mn k,()):=by
 show Nr k=_;unfold Nr mn;by_cases h1:k=1
 ·rw [cr h1,if_pos h1];rfl
 by_cases h2:k=2
 ·rw [bX h1,if_neg h1,cr h2,if_pos h2];rfl
 by_cases h3:k=3
 ·rw [bX h1,if_neg h1,bX h2,if_neg h2,cr h3,if_pos h3];rfl
 ·rw [bX h1,if_neg h1,bX h2,if_neg h2,bX h3,if_neg h3];rfl
def dw(l:List bt.D)(c:Int):Nat:=(l.takeWhile fun s=>decide (s.1<c)).length
def hg(l:List bt.D)(c:Int):Bool:=decide (dw l c<l.length)&&(I bt l (dw l c)).1==c
theorem wQ(l:List bt.D)(c:Int):dw l c≤l.length:=by unfold dw;exact(List.takeWhile_sublist _).length_le
theorem Jc{α : Type}(p : α → Bool):∀(l:List α) (i:Nat) (h:i<l.length),i≤(l.takeWhile p).length→(p l[i]=true→i+1≤(l.takeWhile p).length)∧(p l[i]=false→(l.takeWhile p).length=i)
 | [],i,h,_=>by simp at h
 | y :: l,0,h,hi=>by
  constructor
  ·intro av;have av:p y=true:=av;rw [List.takeWhile_cons,av];simp
  ·intro av;have av:p y=false:=av;rw [List.takeWhile_cons,av];simp
 | y :: l,i+1,h,hi=>by
  by_cases aT:p y=true
  ·rw [List.takeWhile_cons,if_pos aT] at hi ⊢;rw [List.length_cons] at hi ⊢;have h1:=Jc p l i (by rw [List.length_cons] at h;omega) (by omega);constructor
   ·intro av;have:=h1.1 av;omega
   ·intro av;have:=h1.2 av;omega
  ·rw [List.takeWhile_cons,if_neg aT] at hi;simp at hi
theorem aa'(t:c2)(c:Int)(hl:t.2.2.2.1.length≤1048576):Gp (t,c,())=some ((dw t.2.2.2.1 c:Int),hg t.2.2.2.1 c,()):=by
 have key:∀(r m i:Nat),i+r=t.2.2.2.1.length→i≤dw t.2.2.2.1 c→r<m→yd m c (i:Int) t=some ((dw t.2.2.2.1 c:Int),hg t.2.2.2.1 c,()):=by
  intro r
  induction r with
  | zero=>
   intro m i hi hs hm;obtain ⟨m,rfl,_⟩:=fuel (show 0<m by omega);have h1:=wQ t.2.2.2.1 c;have e:dw t.2.2.2.1 c=t.2.2.2.1.length:=by omega
   show yc (yd m) c (i:Int) t=_;unfold yc;rw [cA (by omega)];unfold hg;rw [e,decide_eq_false (by omega)];rfl
  | succ r ih=>
   intro m i hi hs hm;obtain ⟨m,rfl,_⟩:=fuel (show 0<m by omega);have bm:i<t.2.2.2.1.length:=by omega
   show yc (yd m) c (i:Int) t=_;unfold yc;rw [b9 bm,bu bm];simp only [cond_true,aw];have hst:=Jc (fun s:bt.D=>decide (s.1<c)) t.2.2.2.1 i bm hs;rw [← c0 (t:=bt) bm] at hst;by_cases b2:(I bt t.2.2.2.1 i).1<c
   ·rw [show decide ((I bt t.2.2.2.1 i).1≥c)=false from decide_eq_false (Int.not_le.2 b2)];simp only [cond_false];rw [cT (a:=(i:Int)+1) (by omega) (by omega)];exact ih m (i+1) (by omega) (hst.1 (decide_eq_true b2)) (by omega)
   ·rw [show decide ((I bt t.2.2.2.1 i).1≥c)=true from decide_eq_true (Int.not_lt.1 b2)];simp only [cond_true];have e:dw t.2.2.2.1 c=i:=hst.2 (decide_eq_false b2);unfold hg;rw [e,decide_eq_true bm,Bool.true_and]
 exact key t.2.2.2.1.length aN 0 (by omega) (Nat.zero_le _) (by rw [jM];omega)
theorem aba(t:c2)(c:Int)(hl:t.2.2.2.1.length≤1048576):EJ (t,c,())=some ((dw t.2.2.2.1 c:Int),hg t.2.2.2.1 c,()):=by
 have key:∀(r m i:Nat),i+r=t.2.2.2.1.length→i≤dw t.2.2.2.1 c→r<m→x7 m t c (i:Int)=some ((dw t.2.2.2.1 c:Int),hg t.2.2.2.1 c,()):=by
  intro r
  induction r with
  | zero=>
   intro m i hi hs hm;obtain ⟨m,rfl,_⟩:=fuel (show 0<m by omega);have h1:=wQ t.2.2.2.1 c;have e:dw t.2.2.2.1 c=i:=by omega
   show x6 (x7 m) t c (i:Int)=_;unfold x6;rw [cA (by omega)];unfold hg;rw [e,decide_eq_false (by omega)];rfl
  | succ r ih=>
   intro m i hi hs hm;obtain ⟨m,rfl,_⟩:=fuel (show 0<m by omega);have bm:i<t.2.2.2.1.length:=by omega
   show x6 (x7 m) t c (i:Int)=_;unfold x6;rw [b9 bm,bu bm];simp only [cond_true,aw];have hst:=Jc (fun s:bt.D=>decide (s.1<c)) t.2.2.2.1 i bm hs;rw [← c0 (t:=bt) bm] at hst;by_cases b2:(I bt t.2.2.2.1 i).1<c
   ·rw [decide_eq_true b2];simp only [cond_true];rw [cT (a:=(i:Int)+1) (by omega) (by omega)];exact ih m (i+1) (by omega) (hst.1 (decide_eq_true b2)) (by omega)
   ·rw [decide_eq_false b2];simp only [cond_false];have e:dw t.2.2.2.1 c=i:=hst.2 (decide_eq_false b2);unfold hg;rw [e,decide_eq_true bm,Bool.true_and]
 exact key t.2.2.2.1.length aN 0 (by omega) (Nat.zero_le _) (by rw [jM];omega)
def k6(l:List bt.D)(c:Int):bt.D:=cond (hg l c) (I bt l (dw l c)) (0,0,0,(0,([]:aj),()),())
theorem y'{l:List bt.D}{c:Int}(h:hg l c=true):dw l c<l.length:=by unfold hg at h;rw [Bool.and_eq_true,decide_eq_true_eq] at h;exact h.1
theorem apH(t:c2)(c:Int)(hl:t.2.2.2.1.length≤1048576):L6 (t,c,())=some (k6 t.2.2.2.1 c,()):=by
 show L5 t c=_;unfold L5 k6;rw [aba t c hl];simp only [aw]
 cases h:hg t.2.2.2.1 c with
 | false=>rfl
 | true=>rw [bu (y' h)];rfl
theorem Rc(t:c2)(c:Int)(hl:t.2.2.2.1.length≤1048576):AS (t,c,())=some (k6 t.2.2.2.1 c,()):=by
 show Nn t c=_;unfold Nn k6;rw [aa' t c hl];simp only [aw]
 cases h:hg t.2.2.2.1 c with
 | false=>rfl
 | true=>rw [bu (y' h)];rfl
def fr(a b:Int):Int:=if b>a then b else a
def gE(f:Nat→Int)(a:Int):Nat→Int
 | 0=>a
 | n+1=>fr (gE f a n) (f n)
theorem apI{x a b:Int} : x<fr a b↔x<a∨x<b:=by unfold fr;split <;> omega
theorem Rd{x a:Int}{f:Nat→Int} : ∀n,x<gE f a n↔x<a∨∃i,i<n∧x<f i
 | 0=>by simp [gE]
 | n+1=>by
  rw [gE,apI,Rd n];constructor
  ·rintro ((h | ⟨i,hi,h⟩) | h)
   ·exact .inl h
   ·exact .inr ⟨i,by omega,h⟩
   ·exact .inr ⟨n,by omega,h⟩
  ·rintro (h | ⟨i,hi,h⟩)
   ·exact .inl (.inl h)
   ·by_cases e:i=n
    ·subst e;exact .inr h
    ·exact .inl (.inr ⟨i,by omega,h⟩)
def kE(l:List aO.D)(i:Nat):Int:=(I aO l i).1
def k7(l:List bt.D)(i:Nat):Int:=(I bt l i).2.2.1
def k8(t:c2):Int:=gE (k7 t.2.2.2.1) (gE (kE t.2.2.1) 0 t.2.2.1.length) t.2.2.2.1.length
theorem abb(m:Nat)(a b t):(nX (m+1)).k3 a b t=Gq (nX m) a b t:=rfl
theorem abc(m:Nat)(a b t):(nX (m+1)).df a b t=Gr (nX m) a b t:=rfl
theorem apJ(t:c2)(hn:t.2.2.1.length≤1048576)(hl:t.2.2.2.1.length≤1048576):No (t,())=some (k8 t,()):=by
 have df:∀(r m i:Nat) (a:Int),i+r=t.2.2.2.1.length→r<m→(nX m).df (gE (k7 t.2.2.2.1) a i) (i:Int) t=some (gE (k7 t.2.2.2.1) a t.2.2.2.1.length,()):=by
  intro r
  induction r with
  | zero=>intro m i a hi hm;obtain ⟨m,rfl,_⟩:=fuel (show 0<m by omega);rw [abc];unfold Gr;rw [cA (by omega),show i=t.2.2.2.1.length by omega];rfl
  | succ r ih=>
   intro m i a hi hm;obtain ⟨m,rfl,_⟩:=fuel (show 0<m by omega);have bm:i<t.2.2.2.1.length:=by omega
   rw [abc];unfold Gr;rw [b9 bm,bu bm,cT (a:=(i:Int)+1) (by omega) (by omega)];simp only [cond_true,aw];have:=ih m (i+1) a (by omega) (by omega);rw [gE,fr] at this;show cond (decide (k7 t.2.2.2.1 i>gE (k7 t.2.2.2.1) a i)) ((nX m).df (k7 t.2.2.2.1 i) ((i:Int)+1) t) ((nX m).df (gE (k7 t.2.2.2.1) a i) ((i:Int)+1) t)=_;by_cases h:k7 t.2.2.2.1 i>gE (k7 t.2.2.2.1) a i
   ·rw [if_pos h] at this;rw [decide_eq_true h];exact this
   ·rw [if_neg h] at this;rw [decide_eq_false h];exact this
 have k3:∀(r m i:Nat),i+r=t.2.2.1.length→r+t.2.2.2.1.length+1<m→(nX m).k3 (gE (kE t.2.2.1) 0 i) (i:Int) t=some (k8 t,()):=by
  intro r
  induction r with
  | zero=>intro m i hi hm;obtain ⟨m,rfl,_⟩:=fuel (show 0<m by omega);rw [abb];unfold Gq;rw [cA (by omega),show i=t.2.2.1.length by omega];exact df t.2.2.2.1.length m 0 _ (by omega) (by omega)
  | succ r ih=>
   intro m i hi hm;obtain ⟨m,rfl,_⟩:=fuel (show 0<m by omega);have bm:i<t.2.2.1.length:=by omega
   rw [abb];unfold Gq;rw [b9 bm,bu bm,cT (a:=(i:Int)+1) (by omega) (by omega)];simp only [cond_true,aw];have:=ih m (i+1) (by omega) (by omega);rw [gE,fr] at this;show cond (decide (kE t.2.2.1 i>gE (kE t.2.2.1) 0 i)) ((nX m).k3 (kE t.2.2.1 i) ((i:Int)+1) t) ((nX m).k3 (gE (kE t.2.2.1) 0 i) ((i:Int)+1) t)=_;by_cases h:kE t.2.2.1 i>gE (kE t.2.2.1) 0 i
   ·rw [if_pos h] at this;rw [decide_eq_true h];exact this
   ·rw [if_neg h] at this;rw [decide_eq_false h];exact this
 exact k3 t.2.2.1.length aN 0 (by omega) (by rw [jM];omega)
theorem abd(m:Nat)(a b d e f):(sL (m+1)).k2 a b d e f=EG (sL m) a b d e f:=rfl
theorem abe(m:Nat)(a b d e):(sL (m+1)).df a b d e=EH (sL m) a b d e:=rfl
theorem apK(t:c2)(x:Int)(hx:0≤x)(hn:t.2.2.1.length≤1048576)(hl:t.2.2.2.1.length≤1048576):L4 (t,x,())=some (decide (x<k8 t),()):=by
 have hnew:x<k8 t↔(∃i,i<t.2.2.1.length∧x<kE t.2.2.1 i)∨∃i,i<t.2.2.2.1.length∧x<k7 t.2.2.2.1 i:=by
  unfold k8;rw [Rd,Rd];constructor
  ·rintro ((h | h) | h)
   ·omega
   ·exact .inl h
   ·exact .inr h
  ·rintro (h | h)
   ·exact .inl (.inr h)
   ·exact .inr h
 have df:∀(r m i:Nat),i+r=t.2.2.2.1.length→r<m→(∀j,j<t.2.2.1.length→¬x<kE t.2.2.1 j)→(∀j,j<i→¬x<k7 t.2.2.2.1 j)→(sL m).df x t.2.2.2.1 (t.2.2.2.1.length:Int) (i:Int)=some (decide (x<k8 t),()):=by
  intro r
  induction r with
  | zero=>
   intro m i hi hm h1 h2;obtain ⟨m,rfl,_⟩:=fuel (show 0<m by omega);rw [abe];unfold EH
   rw [cA (by omega),decide_eq_false (fun h=>by
    rcases hnew.1 h with⟨j,hj,h⟩ | ⟨j,hj,h⟩
    ·exact h1 j hj h
    ·exact h2 j (by omega) h)]
   rfl
  | succ r ih=>
   intro m i hi hm h1 h2;obtain ⟨m,rfl,_⟩:=fuel (show 0<m by omega);have bm:i<t.2.2.2.1.length:=by omega
   rw [abe];unfold EH;rw [b9 bm,bu bm,cT (a:=(i:Int)+1) (by omega) (by omega)];simp only [cond_true,aw];show cond (decide (x<k7 t.2.2.2.1 i)) _ _=_;by_cases h:x<k7 t.2.2.2.1 i
   ·rw [decide_eq_true h,decide_eq_true (hnew.2 (.inr ⟨i,bm,h⟩))];rfl
   ·rw [decide_eq_false h]
    exact ih m (i+1) (by omega) (by omega) h1 fun j hj=>by
     by_cases e:j=i
     ·subst e;exact h
     ·exact h2 j (by omega)
 have k2:∀(r m i:Nat),i+r=t.2.2.1.length→r+t.2.2.2.1.length+1<m→(∀j,j<i→¬x<kE t.2.2.1 j)→(sL m).k2 t x t.2.2.1 (t.2.2.1.length:Int) (i:Int)=some (decide (x<k8 t),()):=by
  intro r
  induction r with
  | zero=>intro m i hi hm h1;obtain ⟨m,rfl,_⟩:=fuel (show 0<m by omega);rw [abd];unfold EG;rw [cA (by omega)];exact df t.2.2.2.1.length m 0 (by omega) (by omega) (fun j hj=>h1 j (by omega)) (fun j hj=>by omega)
  | succ r ih=>
   intro m i hi hm h1;obtain ⟨m,rfl,_⟩:=fuel (show 0<m by omega);have bm:i<t.2.2.1.length:=by omega
   rw [abd];unfold EG;rw [b9 bm,bu bm,cT (a:=(i:Int)+1) (by omega) (by omega)];simp only [cond_true,aw];show cond (decide (x<kE t.2.2.1 i)) _ _=_;by_cases h:x<kE t.2.2.1 i
   ·rw [decide_eq_true h,decide_eq_true (hnew.2 (.inl ⟨i,bm,h⟩))];rfl
   ·rw [decide_eq_false h]
    exact ih m (i+1) (by omega) (by omega) fun j hj=>by
     by_cases e:j=i
     ·subst e;exact h
     ·exact h1 j (by omega)
 exact k2 t.2.2.1.length aN 0 (by omega) (by rw [jM];omega) (fun j hj=>by omega)
def iY(a:Int):Bool:=a==4||(a==11||(a==13||(a==14||(a==17||(a==18||(a==20||a==21))))))
theorem Jd(a:Int):AV (a,())=some (iY a,()):=by show Nq a=_;unfold Nq iY;cases a==4 <;> cases a==11 <;> cases a==13 <;> cases a==14 <;> cases a==17 <;> cases a==18 <;> cases a==20 <;> cases a==21 <;> rfl
theorem Re(a:Int):As (a,())=some (iY a,()):=Jd a
theorem apL{a:Int}(h:iY a=true):cz a 1 22=true:=by unfold iY at h;simp only [Bool.or_eq_true,beq_iff_eq] at h;rw [di];omega
def mo(a:Int):Int:=cond (cz a 1 22) (cond (iY a) 1 3) 0
theorem apM(a:Int):L9 (a,())=some (mo a,()):=by show L8 a=_;unfold L8 mo;rw [g_,Re];simp only [aw];cases cz a 1 22 <;> cases iY a <;> rfl
theorem apN(a:Int):Nu (a,())=some (mo a,()):=by
 show Nt a=_;unfold Nt mo;rw [hO,Jd];simp only [aw]
 cases h:iY a with
 | true=>rw [apL h];rfl
 | false=>cases cz a 1 22 <;> rfl
theorem Rf(a:Int):0≤mo a∧mo a≤3:=by unfold mo;cases cz a 1 22 <;> cases iY a <;> simp
def lN(n k:Int):Int×Bool:=if mo k=0∨mo k>n then(n,false) else(n-mo k,true)
theorem apO(n k:Int)(hn:n≤30):L' (n,k,())=some ((lN n k).1,(lN n k).2,()):=by
 show L_ n k=_;unfold L_ lN;rw [apM];simp only [aw];have hc:=Rf k;by_cases h0:mo k=0
 ·rw [cr h0,if_pos (.inl h0)];rfl
 rw [bX h0];by_cases h1:mo k>n
 ·rw [decide_eq_true h1,if_pos (.inr h1)];rfl
 ·rw [decide_eq_false h1,if_neg (by omega),cT (by omega) (by omega)];rfl
theorem apP(n k:Int)(hn:n≤30):Nw (n,k,())=some ((lN n k).1,(lN n k).2,()):=by
 show Nv n k=_;unfold Nv lN;rw [apN];simp only [aw];have hc:=Rf k;by_cases h0:mo k=0
 ·rw [cr h0,if_pos (.inl h0)];rfl
 rw [bX h0];by_cases h1:mo k>n
 ·rw [decide_eq_true h1,if_pos (.inr h1)];rfl
 ·rw [decide_eq_false h1,if_neg (by omega),cT (by omega) (by omega)];rfl
def k9(n:aO.D):Int:=n.1
def pj(n:aO.D):Int:=n.2.1
def pk(n:aO.D):Int:=n.2.2.1
def pn(n:aO.D):Int:=n.2.2.2.1
def qw(n:aO.D):Int:=n.2.2.2.2.1
def Rg(l:List aO.D)(i:Nat):aK:=fX (k9 (I aO l i))++[46]++fX (pj (I aO l i))++[46]++fX (pk (I aO l i))++[46]++fX (pn (I aO l i))++[46]++fX (qw (I aO l i))
structure abf(n:aO.D):Prop where
 a:1≤k9 n∧k9 n≤100000
 b:1≤pj n∧pj n≤3
 c:1≤pk n∧pk n≤1000000
 d:1≤pn n∧pn n≤22
 e:0≤qw n∧qw n≤200
theorem Je{l:List aO.D}(h:gD l=true){i:Nat}(hi:i<l.length):abf (I aO l i):=by unfold gD at h;rw [Bool.and_eq_true] at h;have h1:=iu.1 h.1 i hi;unfold tK at h1;simp only [Bool.and_eq_true,di] at h1;exact⟨h1.1.1.1.1.1,h1.1.1.1.2,h1.1.1.2,h1.1.2,h1.2⟩
theorem apQ{l:List aO.D}(h:gD l=true){i:Nat}(hi:i<l.length):(Rg l i).length≤104:=by have hr:=Je h hi;have d1:=(fH (k9 (I aO l i)) (by have:=hr.a;omega)).1;have d2:=(fH (pj (I aO l i)) (by have:=hr.b;omega)).1;have d3:=(fH (pk (I aO l i)) (by have:=hr.c;omega)).1;have d4:=(fH (pn (I aO l i)) (by have:=hr.d;omega)).1;have d5:=(fH (qw (I aO l i)) (by have:=hr.e;omega)).1;unfold Rg;simp only [List.length_append,List.length_cons,List.length_nil];omega
def rY(l:List aO.D)(i:Nat)(o:aK):aK:=o++fX (k9 (I aO l i))++[46]++fX (pj (I aO l i))++[46]++fX (pk (I aO l i))++[46]++fX (pn (I aO l i))++[46]++fX (qw (I aO l i))
def k_(l:List aO.D)(a:Nat):Nat→Nat→aK→aK
 | 0,_,o=>o
 | r+1,i,o=>if i<l.length∧i<a+6 then k_ l a r (i+1) (rY l i (if a<i then o++[32] else o)) else o
theorem Cj{l:List aO.D}(h:gD l=true){i:Nat}(hi:i<l.length)(o:aK):(rY l i o).length≤o.length+104:=by have:=apQ h hi;unfold Rg at this;unfold rY;simp only [List.length_append,List.length_cons,List.length_nil] at this ⊢;omega
theorem abg(m:Nat)(a b d e):(p5 (m+1)).bx a b d e=Gz (p5 m) a b d e:=rfl
theorem apR(m:Nat)(a b d e):(p5 (m+1)).eY a b d e=Nx (p5 m) a b d e:=rfl
theorem abh{l:List aO.D}(h:gD l=true){i:Nat}(hi:i<l.length)(m:Nat)(a:Int)(o:aK)(ho:o.length≤10000)(hii:i<100):(p5 (m+1)).eY l a o (i:Int)=(p5 m).bx l a (rY l i o) ((i:Int)+1):=by have hr:=Je h hi;have d1:=fH (k9 (I aO l i)) (by have:=hr.a;omega);have d2:=fH (pj (I aO l i)) (by have:=hr.b;omega);have d3:=fH (pk (I aO l i)) (by have:=hr.c;omega);have d4:=fH (pn (I aO l i)) (by have:=hr.d;omega);have d5:=fH (qw (I aO l i)) (by have:=hr.e;omega);rw [apR];unfold Nx;rw [bu hi];simp only [aw];rw [show e' ((I aO l i).1,())=some (fX (k9 (I aO l i)),()) from d1.2.1,show e' ((I aO l i).2.1,())=some (fX (pj (I aO l i)),()) from d2.2.1,show e' ((I aO l i).2.2.1,())=some (fX (pk (I aO l i)),()) from d3.2.1,show e' ((I aO l i).2.2.2.1,())=some (fX (pn (I aO l i)),()) from d4.2.1,show e' ((I aO l i).2.2.2.2.1,())=some (fX (qw (I aO l i)),()) from d5.2.1];simp only [aw];have e1:=d1.1;have e2:=d2.1;have e3:=d3.1;have ft:=d4.1;have pK:=d5.1;rw [b7 (by(try simp only [List.length_append,List.length_cons,List.length_nil]);omega),b7 (by(try simp only [List.length_append,List.length_cons,List.length_nil]);omega),b7 (by(try simp only [List.length_append,List.length_cons,List.length_nil]);omega),b7 (by(try simp only [List.length_append,List.length_cons,List.length_nil]);omega),b7 (by(try simp only [List.length_append,List.length_cons,List.length_nil]);omega),b7 (by(try simp only [List.length_append,List.length_cons,List.length_nil]);omega),b7 (by(try simp only [List.length_append,List.length_cons,List.length_nil]);omega),b7 (by(try simp only [List.length_append,List.length_cons,List.length_nil]);omega),b7 (by(try simp only [List.length_append,List.length_cons,List.length_nil]);omega),cT (by omega) (by omega)];rfl
theorem apS{l:List aO.D}(h:gD l=true)(hl:l.length≤20)(a:Nat)(ha:a≤1000000):∀(r m i:Nat) (o:aK),a≤i→i+r=a+6→2*r<m→o.length+105*r≤1000→(p5 m).bx l (a:Int) o (i:Int)=some (k_ l a r i o,()):=by
 intro r
 induction r with
 | zero=>intro m i o Rh hi hm ho;obtain ⟨m,rfl,_⟩:=fuel (show 0<m by omega);rw [abg];unfold Gz;rw [cT (a:=(a:Int)+6) (by omega) (by omega),decide_eq_false (show ¬(i:Int)<(a:Int)+6 by omega)];cases decide ((i:Int)<(l.length:Int)) <;> rfl
 | succ r ih=>
  intro m i o Rh hi hm ho;obtain ⟨m,rfl,_⟩:=fuel (show 0<m by omega);obtain ⟨m,rfl,_⟩:=fuel (show 0<m by omega);rw [abg];unfold Gz;rw [cT (a:=(a:Int)+6) (by omega) (by omega),decide_eq_true (show(i:Int)<(a:Int)+6 by omega),k_];by_cases bm:i<l.length
  ·rw [b9 bm,if_pos ⟨bm,by omega⟩];simp only [cond_true];by_cases b2:a<i
   ·rw [decide_eq_true (show(i:Int) >(a:Int) by omega),if_pos b2,b7 (by simp only [List.length_cons,List.length_nil];omega)];simp only [cond_true];have av:=Cj h bm (o++[32]);rw [List.length_append,List.length_cons,List.length_nil] at av;rw [abh h bm m _ _ (by rw [List.length_append,List.length_cons,List.length_nil];omega) (by omega)];exact ih m (i+1) _ (by omega) (by omega) (by omega) (by omega)
   ·rw [decide_eq_false (show ¬(i:Int) >(a:Int) by omega),if_neg b2];simp only [cond_false];have av:=Cj h bm o;rw [abh h bm m _ _ (by omega) (by omega)];exact ih m (i+1) _ (by omega) (by omega) (by omega) (by omega)
  ·rw [cA (Nat.not_lt.1 bm),if_neg (fun hh=>bm hh.1)];rfl
theorem abi(m:Nat)(a b d e):(nS (m+1)).bx a b d e=EN (nS m) a b d e:=rfl
theorem abj(m:Nat)(a b d e f g h):(nS (m+1)).cL a b d e f g h=EO (nS m) a b d e f g h:=rfl
theorem Ck{l:List aO.D}(m:Nat)(a:Int)(i:Int)(xs:List Int)(j:Nat)(hj:j<xs.length)(hx:xs.length=5)(o:aK)(ho:o.length≤10000)(v:Int)(hv:I (ae.int .i64) xs j=v)(ah : -1000000000000<v∧v<1000000000000) :
  (nS (m+1)).cL l a o i (xs.length:Int) (j:Int) xs=(nS m).cL l a ((if 0<j then o++[46] else o)++fX v) i (xs.length:Int) ((j+1:Nat):Int) xs:=by
 have d:=fH v ah;rw [abj];unfold EO;rw [b9 hj,bu hj,cT (a:=(j:Int)+1) (by omega) (by omega)];simp only [cond_true,aw,Nat.zero_add];rw [hv,d.2.2];simp only [aw];have e:=d.1;by_cases h0:0<j
 ·rw [decide_eq_true (show(j:Int)>0 by omega),if_pos h0,b7 (by simp only [List.length_cons,List.length_nil];omega),b7 (by simp only [List.length_append,List.length_cons,List.length_nil];omega)];rfl
 ·rw [decide_eq_false (show ¬(j:Int)>0 by omega),if_neg h0];simp only [cond_false];rw [b7 (by omega)];rfl
def abk(n:aO.D):List Int:=[k9 n,pj n,pk n,pn n,qw n]
theorem abl{l:List aO.D}(h:gD l=true){i:Nat}(hi:i<l.length)(m:Nat)(a:Int)(o:aK)(ho:o.length≤1000)(hii:i<100):(nS (m+6)).cL l a o (i:Int) (5:Int) 0 (abk (I aO l i))=(nS m).bx l a (rY l i o) ((i:Int)+1):=by have hr:=Je h hi;have e1:=(fH (k9 (I aO l i)) (by have:=hr.a;omega)).1;have e2:=(fH (pj (I aO l i)) (by have:=hr.b;omega)).1;have e3:=(fH (pk (I aO l i)) (by have:=hr.c;omega)).1;have ft:=(fH (pn (I aO l i)) (by have:=hr.d;omega)).1;rw [show(5:Int)=((abk (I aO l i)).length:Int) from rfl,show(0:Int)=((0:Nat):Int) from rfl];rw [Ck (m+5) a i _ 0 (by show 0<5;omega) rfl o (by omega) (k9 (I aO l i)) rfl (by have:=hr.a;omega)];rw [if_neg (by omega)];rw [Ck (m+4) a i _ 1 (by show 1<5;omega) rfl _ (by simp only [List.length_append];omega) (pj (I aO l i)) rfl (by have:=hr.b;omega)];rw [if_pos (by omega)];rw [Ck (m+3) a i _ 2 (by show 2<5;omega) rfl _ (by simp only [List.length_append,List.length_cons,List.length_nil];omega) (pk (I aO l i)) rfl (by have:=hr.c;omega)];rw [if_pos (by omega)];rw [Ck (m+2) a i _ 3 (by show 3<5;omega) rfl _ (by simp only [List.length_append,List.length_cons,List.length_nil];omega) (pn (I aO l i)) rfl (by have:=hr.d;omega)];rw [if_pos (by omega)];rw [Ck (m+1) a i _ 4 (by show 4<5;omega) rfl _ (by simp only [List.length_append,List.length_cons,List.length_nil];omega) (qw (I aO l i)) rfl (by have:=hr.e;omega)];rw [if_pos (by omega)];rw [abj];unfold EO;rw [cA (by show 5≤5;omega)];simp only [cond_false];rw [cT (by omega) (by omega)];rfl
theorem apT{l:List aO.D}(h:gD l=true)(hl:l.length≤20)(a:Nat)(ha:a≤1000000):∀(r m i:Nat) (o:aK),a≤i→i+r=a+6→7*r<m→o.length+105*r≤1000→(nS m).bx l (a:Int) o (i:Int)=some (k_ l a r i o,()):=by
 intro r
 induction r with
 | zero=>intro m i o Rh hi hm ho;obtain ⟨m,rfl,_⟩:=fuel (show 0<m by omega);rw [abi];unfold EN;rw [cT (a:=(a:Int)+6) (by omega) (by omega),decide_eq_false (show ¬(i:Int)<(a:Int)+6 by omega)];cases decide ((i:Int)<(l.length:Int)) <;> rfl
 | succ r ih=>
  intro m i o Rh hi hm ho;obtain ⟨m,rfl⟩:∃k,m=k+7:=⟨m-7,by omega⟩
  rw [abi];unfold EN;rw [cT (a:=(a:Int)+6) (by omega) (by omega),decide_eq_true (show(i:Int)<(a:Int)+6 by omega),k_];by_cases bm:i<l.length
  ·rw [b9 bm,if_pos ⟨bm,by omega⟩,bu bm];simp only [cond_true,aw];by_cases b2:a<i
   ·rw [decide_eq_true (show(i:Int) >(a:Int) by omega),if_pos b2,b7 (by simp only [List.length_cons,List.length_nil];omega)];simp only [cond_true];have av:=Cj h bm (o++[32]);rw [List.length_append,List.length_cons,List.length_nil] at av;have:=abl h bm m (a:Int) (o++[32]) (by rw [List.length_append,List.length_cons,List.length_nil];omega) (by omega);refine Eq.trans this ?_;exact ih m (i+1) _ (by omega) (by omega) (by omega) (by omega)
   ·rw [decide_eq_false (show ¬(i:Int) >(a:Int) by omega),if_neg b2];simp only [cond_false];have av:=Cj h bm o;refine Eq.trans (abl h bm m (a:Int) o (by omega) (by omega)) ?_;exact ih m (i+1) _ (by omega) (by omega) (by omega) (by omega)
  ·rw [cA (Nat.not_lt.1 bm),if_neg (fun hh=>bm hh.1)];rfl
theorem rZ{l:List aO.D}(h:gD l=true):l.length≤20:=by unfold gD at h;rw [Bool.and_eq_true,decide_eq_true_eq] at h;omega
theorem apU{l:List aO.D}(h:gD l=true)(a:Nat)(ha:a≤1000000):Ny (l,(a:Int),())=some (k_ l a 6 a [],())∧Me (l,(a:Int),())=some (k_ l a 6 a [],()):=by
 have hl:=rZ h;constructor
 ·show Gw (p5 aN) l (a:Int)=_;unfold Gw;rw [aa8,h,decide_eq_false (show ¬(a:Int)<0 by omega)];exact apS h hl a ha 6 aN a [] (Nat.le_refl _) rfl (by rw [jM];omega) (by simp)
 ·show EM (nS aN) l (a:Int)=_;unfold EM;rw [aa9 _ (by omega),h,decide_eq_false (show ¬(a:Int)<0 by omega)];exact apT h hl a ha 6 aN a [] (Nat.le_refl _) rfl (by rw [jM];omega) (by simp)
def tM(t:c2)(x:aG.D):c2:=(t.1,(lN t.2.1 (aD x)).1,t.2.2.1,t.2.2.2.1,())
def tN(t:c2)(x:aG.D):Bool:=(lN t.2.1 (aD x)).2
inductive iA (t:c2) (c:Int) (x:aG.D):c2→aF.D→Prop
 | bad (h:gj x=false):iA t c x t (22,[],())
 | za (h:gj x=true) (hs:tN t x=false):iA t c x t (11,[],())
 | perm (h:gj x=true) (hs:tN t x=true) (hk:aD x=21∨aD x=22) (hc:c≠1):iA t c x (tM t x) (1,[],())
 | neg (h:gj x=true) (hs:tN t x=true) (hk:aD x=21) (hc:c=1) (hn:bU x<0):iA t c x (tM t x) (22,[],())
 | told (h:gj x=true) (hs:tN t x=true) (hk:aD x=21) (hc:c=1) (n:Nat) (hn:bU x=n):iA t c x (tM t x) (0,k_ t.2.2.1 n 6 n [],())
 | zb (h:gj x=true) (hs:tN t x=true) (hk:aD x=22) (hc:c=1):iA t c x (t.1,(lN t.2.1 (aD x)).1,[],t.2.2.2.1,()) (0,[],())
 | full (h:gj x=true) (hs:tN t x=true) (hk:aD x≤20) (ht:iY (aD x)=false) (hl:t.2.2.1.length=20):iA t c x (tM t x) (28,[],())
 | zc (h:gj x=true) (hs:tN t x=true) (hk:aD x≤20) (ht:iY (aD x)=true∨t.2.2.1.length<20) (w:af.D) (k:Int) (s:aK) (hr:y2 t.1 (mn c) x w k s):iA t c x (w,(lN t.2.1 (aD x)).1,t.2.2.1,t.2.2.2.1,()) (k,s,())
theorem apV(c:Int):dy (mn c)=true:=by
 unfold mn;split
 ·rfl
 split
 ·rfl
 split
 ·rfl
 ·rfl
theorem apW(c:Int):((mn c).1 != 0)=decide (c≠1):=by
 unfold mn;by_cases h:c=1
 ·rw [if_pos h,decide_eq_false (fun k=>k h)];rfl
 rw [if_neg h,decide_eq_true h];split
 ·rfl
 split
 ·rfl
 ·rfl
theorem iZ{t:c2}(h:e5 t=true):eo t.2.2.2.1.length (jY t.2.2.2.1)=true∧(0≤t.2.1∧t.2.1≤30)∧gD t.2.2.1=true∧g' t.1=true:=by unfold e5 at h;simp only [Bool.and_eq_true] at h;exact⟨h.1,di.1 h.2.1,h.2.2.1,h.2.2.2⟩
theorem apX(t:c2)(c:Int)(x:aG.D)(h:e5 t=true):∃cq r,Hj (t,c,x,())=some (cq,r,())∧FM (t,c,x,())=some (r,cq,())∧iA t c x cq r:=by
 obtain ⟨wR,kK,r0,hvo⟩:=iZ h;have dB:=rZ r0;obtain ⟨q,hq,_⟩:=iS 4;have S:Hj (t,c,x,())=Hi (p_ aN) t c x:=rfl;have Cl:FM (t,c,x,())=FL (mg aN) t c x:=rfl;rw [S,Cl];unfold Hi FL;rw [apG,apF,BA,PJ,apO _ _ kK.2,apP _ _ kK.2,hq];simp only [aw]
 cases hcall:gj x with
 | false=>exact⟨_,_,rfl,rfl,.bad hcall⟩
 | true=>
 simp only [Bool.not_true,cond_false];have hx:=tz.1 hcall
 cases hs:tN t x with
 | false=>rw [show(lN t.2.1 x.1).2=false from hs];exact⟨_,_,rfl,rfl,.za hcall hs⟩
 | true=>
 rw [show(lN t.2.1 x.1).2=true from hs,apW];simp only [Bool.not_true,cond_false];have hk:=hx.dn;have hn:=hx.n;by_cases pq:(aD x)=21
 ·rw [cr (show x.1=21 from pq)];simp only [cond_true];by_cases h1:c=1
  case neg=>rw [decide_eq_true h1];exact⟨_,_,rfl,rfl,.perm hcall hs (.inl pq) h1⟩
  rw [decide_eq_false (fun k=>k h1)];simp only [cond_false];have A:∀a b d e,(p_ (q+4)).dC a b d e=yk (p_ (q+3)) a b d e:=fun _ _ _ _=>rfl
  have B:∀a b d e,(mg (q+4)).dC a b d e=ya (mg (q+3)) a b d e:=fun _ _ _ _=>rfl
  have kl:∀a b d e,(mg (q+3)).fl a b d e=yb (mg (q+2)) a b d e:=fun _ _ _ _=>rfl
  rw [A,B];unfold yk ya;rw [cr (show x.1=21 from pq)];simp only [cond_true];by_cases sn:bU x<0
  ·rw [decide_eq_true (show x.2.2.2.1<0 from sn)];exact⟨_,_,rfl,rfl,.neg hcall hs pq h1 sn⟩
  ·rw [decide_eq_false (show ¬x.2.2.2.1<0 from sn)];simp only [cond_false];rw [kl];unfold yb;rw [cr (show x.1=21 from pq)];simp only [cond_true];obtain ⟨m,hm⟩:∃m:Nat,bU x=(m:Int):=⟨(bU x).toNat,by omega⟩
   have hb:=apU r0 m (by omega);rw [show x.2.2.2.1=(m:Int) from hm,hb.1,hb.2];exact⟨_,_,rfl,rfl,.told hcall hs pq h1 m hm⟩
 rw [bX (show x.1≠21 from pq)];simp only [cond_false];have A:∀a b d e f,(p_ (q+4)).dC a b d e f=yk (p_ (q+3)) a b d e f:=fun _ _ _ _ _=>rfl
 have nx:∀a b d e f,(p_ (q+3)).iP a b d e f=N2 (p_ (q+2)) a b d e f:=fun _ _ _ _ _=>rfl
 have B:∀a b d e,(mg (q+4)).dC a b d e=ya (mg (q+3)) a b d e:=fun _ _ _ _=>rfl
 have kl:∀a b d e,(mg (q+3)).fl a b d e=yb (mg (q+2)) a b d e:=fun _ _ _ _=>rfl
 have apY:∀a b d e,(mg (q+2)).iP a b d e=M' (mg (q+1)) a b d e:=fun _ _ _ _=>rfl
 by_cases ni:(aD x)=22
 ·rw [cr (show x.1=22 from ni)];simp only [cond_true];by_cases h1:c=1
  case neg=>rw [decide_eq_true h1];exact⟨_,_,rfl,rfl,.perm hcall hs (.inr ni) h1⟩
  rw [decide_eq_false (fun k=>k h1)];simp only [cond_false];rw [A,B];unfold yk ya;rw [bX (show x.1≠21 from pq),cr (show x.1=22 from ni)];simp only [cond_false,cond_true];rw [kl];unfold yb;rw [bX (show x.1≠21 from pq),cr (show x.1=22 from ni)];exact⟨_,_,rfl,rfl,.zb hcall hs ni h1⟩
 rw [bX (show x.1≠22 from ni)];simp only [cond_false];rw [A,B];unfold yk ya;rw [bX (show x.1≠21 from pq),bX (show x.1≠22 from ni)];simp only [cond_false];rw [kl];unfold yb;rw [bX (show x.1≠21 from pq),bX (show x.1≠22 from ni)];simp only [cond_false];rw [Jd,Re];simp only [aw];have jW:aD x≤20:=by omega
 have hrun:iY (aD x)=true∨t.2.2.1.length<20→∃cq r,(p_ (q+3)).iP (tM t x) x ((0,([]:List J.D),()),0,([]:List aO.D),([]:List bt.D),()) (0,([]:aj),()) (mn c)=some (cq,r,()) ∧
   (mg (q+2)).iP (tM t x) x (0,([]:aj),()) (mn c)=some (r,cq,())∧iA t c x cq r:=by
  intro ht;obtain ⟨w,k,s,e1,e2,hr⟩:=an3 t.1 (mn c) x hvo (apV c);refine⟨_,_,?_,?_,.zc hcall hs jW ht w k s hr⟩
  ·rw [nx];unfold N2;rw [show o5 ((tM t x).1,mn c,x,())=_ from e1];rfl
  ·rw [apY];unfold M';rw [show AF ((tM t x).1,mn c,x,())=_ from e2];simp only [aw,oR,DT];rfl
 cases mF:iY (aD x) with
 | true=>rw [show iY x.1=true from mF];simp only [Bool.not_true,cond_false];exact hrun (.inl mF)
 | false=>
  rw [show iY x.1=false from mF];simp only [Bool.not_false,cond_true];by_cases hl:t.2.2.1.length=20
  ·rw [show decide ((t.2.2.1.length:Int)≥20)=true from decide_eq_true (by omega),show((t.2.2.1.length:Int)==20)=true from cr (by omega)];exact⟨_,_,rfl,rfl,.full hcall hs jW mF hl⟩
  ·rw [show decide ((t.2.2.1.length:Int)≥20)=false from decide_eq_false (by omega),show((t.2.2.1.length:Int)==20)=false from bX (by omega)];exact hrun (.inr (by omega))
def i_(l:List bt.D)(c:Int)(s:bt.D):List bt.D:=cond (hg l c) (l.set (dw l c) s) (l.take (dw l c)++[s]++l.drop (dw l c))
def notes(t:c2)(x:aG.D)(r:aF.D):Bool:=decide (t.2.2.1.length<20)&&(gj x&&((!iY (aD x)||(r.1 != 0)) && !((aD x==22)&&(r.1==0))))
def gO(t:c2)(c bC index:Int)(x:aG.D)(r:aF.D):c2:=cond (notes t x r) (t.1,t.2.1,t.2.2.1++[(index,c,bC,aD x,r.1,())],t.2.2.2.1,()) t
def nj(t:c2)(c bC index:Int)(r:aF.D):c2:=(t.1,t.2.1,t.2.2.1,i_ t.2.2.2.1 c (c,bC,index,r,()),())
theorem abm(m:Nat)(c bC index:Int)(t:c2)(tO:c2)(z2 r:aF.D)(hl:t.2.2.2.1.length≤3):(rv (m+1)).fl c bC index t tO z2 r=some (nj t c bC index r,r,true,()):=by
 show N5 (rv m) c bC index t tO z2 r=_;unfold N5;rw [aa' t c (by omega)];simp only [aw];unfold nj i_;have hle:=wQ t.2.2.2.1 c
 cases h:hg t.2.2.2.1 c with
 | true=>rw [bu (y' h)];simp only [cond_true,aw,Nat.zero_add];rfl
 | false=>simp only [cond_false];rw [show(0:Int)=((0:Nat):Int) from rfl,jD (Nat.zero_le _) hle];simp only [aw,Nat.sub_zero,Nat.zero_add,List.nil_append,tm];rw [b7 (by simp only [List.length_nil,List.length_take];omega)];simp only [cond_true];unfold V2;rw [jD hle (Nat.le_refl _),b7 (by simp only [List.length_cons,List.length_nil,List.length_take];omega)];simp only [aw,cond_true,Nat.zero_add,Bz];rw [b7 (by simp only [List.length_append,List.length_cons,List.length_nil,List.length_take,List.length_drop];omega)];rfl
theorem abn(m:Nat)(c bC index:Int)(t:c2)(z2 r:aF.D)(hl:t.2.2.2.1.length≤3):(rf (m+1)).fl c bC index t z2 r=some (r,true,nj t c bC index r,()):=by
 show Nc (rf m) c bC index t z2 r=_;unfold Nc;rw [aba t c (by omega)];simp only [aw];unfold nj i_;have hle:=wQ t.2.2.2.1 c
 cases h:hg t.2.2.2.1 c with
 | true=>rw [bu (y' h)];simp only [cond_true,aw,Nat.zero_add];rfl
 | false=>simp only [cond_false,decide_true,cond_true];rw [show eh t.2.2.2.1.length 0 (dw t.2.2.2.1 c:Int)=_ from jD (Nat.zero_le _) hle,jD hle (Nat.le_refl _)];simp only [aw,Nat.sub_zero,Nat.zero_add,tm,Bz];rw [b7 (by simp only [List.length_cons,List.length_nil,List.length_drop];omega)];simp only [cond_true];unfold Vw;simp only [Nat.sub_zero,Nat.zero_add,tm];rw [b7 (by simp only [List.length_append,List.length_cons,List.length_nil,List.length_take,List.length_drop];omega)];simp only [cond_true];rw [← List.append_assoc];rfl
theorem apZ(m:Nat)(c bC index:Int)(x:aG.D)(t:c2)(tO:c2)(z2 r:aF.D)(hl:t.2.2.2.1.length≤3):(rv (m+3)).dC c bC index ((aD x==22)&&(r.1==0)) t x tO z2 r=some (nj (gO t c bC index x r) c bC index r,r,true,()):=by
 have qO:decide (t.2.2.1.length<20)=true→(rv (m+2)).cL c bC index t x tO z2 r=some (nj (t.1,t.2.1,t.2.2.1++[(index,c,bC,aD x,r.1,())],t.2.2.2.1,()) c bC index r,r,true,()):=by intro h;rw [decide_eq_true_eq] at h;show N4 (rv (m+1)) c bC index t x tO z2 r=_;unfold N4;rw [b7 (by simp only [List.length_cons,List.length_nil];omega)];exact abm m c bC index _ _ _ _ hl
 have j5:=abm (m+1) c bC index t tO z2 r hl;show N3 (rv (m+2)) c bC index ((aD x==22)&&(r.1==0)) t x tO z2 r=_;unfold N3;rw [BA,Jd,j5,show decide ((t.2.2.1.length:Int)<20)=decide (t.2.2.1.length<20) from by simp only [decide_eq_decide];omega];unfold gO notes;simp only [aw]
 cases h1:decide (t.2.2.1.length<20) with
 | false=>rfl
 | true=>
 rw [qO h1]
 cases gj x with
 | false=>rfl
 | true=>
 show cond (!(iY (aD x))) _ _=_;cases iY (aD x) <;> cases (r.1 != 0) <;> cases ((aD x==22)&&(r.1==0)) <;> rfl
theorem ap0(m:Nat)(c bC index:Int)(x:aG.D)(t:c2)(z2 r:aF.D)(hl:t.2.2.2.1.length≤3):(rf (m+3)).dC c bC index ((aD x==22)&&(r.1==0)) t x z2 r=some (r,true,nj (gO t c bC index x r) c bC index r,()):=by
 have qO:decide (t.2.2.1.length<20)=true→(rf (m+2)).cL c bC index t x z2 r=some (r,true,nj (t.1,t.2.1,t.2.2.1++[(index,c,bC,aD x,r.1,())],t.2.2.2.1,()) c bC index r,()):=by intro h;rw [decide_eq_true_eq] at h;show Nb (rf (m+1)) c bC index t x z2 r=_;unfold Nb;rw [b7 (by simp only [List.length_cons,List.length_nil];omega)];exact abn m c bC index _ _ _ hl
 have j5:=abn (m+1) c bC index t z2 r hl;show Na (rf (m+2)) c bC index ((aD x==22)&&(r.1==0)) t x z2 r=_;unfold Na;rw [PJ,Re,j5,show decide ((t.2.2.1.length:Int)<20)=decide (t.2.2.1.length<20) from by simp only [decide_eq_decide];omega];unfold gO notes;simp only [aw]
 cases h1:decide (t.2.2.1.length<20) with
 | false=>rfl
 | true=>
 rw [qO h1]
 cases gj x with
 | false=>rfl
 | true=>
 show cond (!(iY (aD x))) _ _=_;cases iY (aD x) <;> cases (r.1 != 0) <;> cases ((aD x==22)&&(r.1==0)) <;> rfl
def mq(t:c2)(c bC index:Int):Bool:=cz c 1 3&&(cz bC 1 1000000&&(cz index 1 100000 && !decide (index<k8 t)))
def lO(t:c2)(c:Int):Int:=(k6 t.2.2.2.1 c).2.1
inductive pr (t:c2) (c bC:Int) (x:aG.D) (index:Int):c2→aF.D→Bool→Prop
 | off (h:mq t c bC index=false):pr t c bC x index t (0,[],()) false
 | again (h:mq t c bC index=true) (hs:bC=lO t c):pr t c bC x index t (k6 t.2.2.2.1 c).2.2.2.1 false
 | late (h:mq t c bC index=true) (hs:bC≠lO t c) (h1:bC≠lO t c+1):pr t c bC x index t (0,[],()) false
 | zd (h:mq t c bC index=true) (h1:bC=lO t c+1) (t1:c2) (r:aF.D) (hr:iA t c x t1 r):pr t c bC x index (nj (gO t1 c bC index x r) c bC index r) r true
theorem iA.pt{t t1:c2}{c:Int}{x:aG.D}{r:aF.D}(h:iA t c x t1 r):t1.2.2.2.1=t.2.2.2.1:=by cases h <;> rfl
theorem ap1{t:c2}(h:e5 t=true)(c:Int):0≤lO t c∧lO t c≤1000000:=by
 unfold lO k6
 cases hs:hg t.2.2.2.1 c with
 | false=>exact⟨Int.le_refl 0,by show(0:Int)≤1000000;omega⟩
 | true=>have h1:=iu.1 (iZ h).1 _ (y' hs);unfold jY at h1;simp only [Bool.and_eq_true,di] at h1;have h2:=h1.1.1.2;show 0≤(I bt t.2.2.2.1 (dw t.2.2.2.1 c)).2.1∧(I bt t.2.2.2.1 (dw t.2.2.2.1 c)).2.1≤1000000;exact⟨Int.le_trans (by decide) h2.1,h2.2⟩
theorem abo(t:c2)(c bC:Int)(x:aG.D)(index:Int)(h:e5 t=true):∃cq r b,td (t,c,bC,x,index,())=some (cq,r,b,())∧FO (t,c,bC,x,index,())=some (r,b,cq,())∧pr t c bC x index cq r b:=by
 obtain ⟨wR,kK,r0,hvo⟩:=iZ h;have dB:=rZ r0;have m6:=tL wR;obtain ⟨q,hq,_⟩:=iS 3;have S:td (t,c,bC,x,index,())=Hk (rv aN) t c bC x index:=rfl;have Cl:FO (t,c,bC,x,index,())=FN (rf aN) t c bC x index:=rfl;rw [S,Cl];unfold Hk FN;simp only [hO,g_,aw]
 cases h1:cz c 1 3 with
 | false=>exact⟨_,_,_,rfl,rfl,.off (by unfold mq;rw [h1];rfl)⟩
 | true=>
 cases h2:cz bC 1 1000000 with
 | false=>exact⟨_,_,_,rfl,rfl,.off (by unfold mq;rw [h1,h2];rfl)⟩
 | true=>
 cases h3:cz index 1 100000 with
 | false=>exact⟨_,_,_,rfl,rfl,.off (by unfold mq;rw [h1,h2,h3];rfl)⟩
 | true=>
 simp only [Bool.not_true,cond_false];have fT:=di.1 h3;rw [apJ t (by omega) (by omega),apK t index (by omega) (by omega) (by omega)];simp only [aw]
 cases h4:decide (index<k8 t) with
 | true=>exact⟨_,_,_,rfl,rfl,.off (by unfold mq;rw [h1,h2,h3,h4];rfl)⟩
 | false=>
 simp only [cond_false];have hn:mq t c bC index=true:=by unfold mq;rw [h1,h2,h3,h4];rfl
 rw [Rc t c (by omega),apH t c (by omega)];simp only [aw];have abp:=ap1 h c;by_cases hs:bC=lO t c
 ·rw [cr (show bC=(k6 t.2.2.2.1 c).2.1 from hs)];exact⟨_,_,_,rfl,rfl,.again hn hs⟩
 rw [bX (show bC≠(k6 t.2.2.2.1 c).2.1 from hs)];simp only [cond_false];rw [show aH ((k6 t.2.2.2.1 c).2.1+1)=lO t c+1 from cT (by have:=abp.1;unfold lO at this;exact Int.le_trans (by decide) (Int.add_le_add_right this 1)) (by have:=abp.2;unfold lO at this;exact Int.le_trans (Int.add_le_add_right this 1) (by decide))];by_cases hs1:bC=lO t c+1
 case neg=>rw [dj hs1];exact⟨_,_,_,rfl,rfl,.late hn hs hs1⟩
 rw [ed hs1];simp only [cond_false];obtain ⟨t1,r,e1,e2,hr⟩:=apX t c x h;rw [e1,e2,hq];simp only [aw];have h3:t1.2.2.2.1.length≤3:=by rw [hr.pt];omega
 have k1:=apZ q c bC index x t1 ((0,([]:List J.D),()),0,([]:List aO.D),([]:List bt.D),()) (0,([]:aj),()) r h3;have k2:=ap0 q c bC index x t1 (0,([]:aj),()) r h3;refine⟨_,_,_,?_,?_,.zd hn hs1 t1 r hr⟩
 ·refine Eq.trans ?_ k1;show cond (aD x==22) _ _=_;cases aD x==22 <;> rfl
 ·refine Eq.trans ?_ k2;show cond (aD x==22) _ _=_;cases aD x==22 <;> rfl
theorem ap2{l:List aO.D}(h:gD l=true)(a:Nat):∀(r i:Nat) (o:aK),(k_ l a r i o).length≤o.length+105*r:=by
 intro r
 induction r with
 | zero=>intro i o;rw [k_];omega
 | succ r ih=>
  intro i o;rw [k_];by_cases hi:i<l.length∧i<a+6
  ·rw [if_pos hi];have h1:=ih (i+1) (rY l i (if a<i then o++[32] else o));have h2:=Cj h hi.1 (if a<i then o++[32] else o);have h3:(if a<i then o++[32] else o).length≤o.length+1:=by split <;> simp
   omega
  ·rw [if_neg hi];omega
def gn(r:aF.D):aK:=r.2.1
theorem iA.len{t t1:c2}{c:Int}{x:aG.D}{r:aF.D}(ht:e5 t=true)(h:iA t c x t1 r):(gn r).length≤1000:=by
 cases h with
 | bad=>simp [gn]
 | za=>simp [gn]
 | perm=>simp [gn]
 | neg=>simp [gn]
 | told _ _ _ _ n=>have:=ap2 (iZ ht).2.2.1 n 6 n [];show(k_ t.2.2.1 n 6 n []).length≤1000;simp only [List.length_nil] at this;omega
 | zb=>simp [gn]
 | full=>simp [gn]
 | zc _ _ _ _ w k s hr=>exact Nat.le_trans hr.len (by decide)
theorem ap3(s:bt.D):ae.cost bt s=(gn s.2.2.2.1).length:=by simp only [yF,yG,yH,yI,PI,Nat.zero_add,Nat.add_zero];rfl
theorem Ri(l:List aO.D):ae.cost (.sl aO) l=l.length:=ak5 (fun y=>by simp only [yF,yG,yH,yI,Nat.add_zero]) l
theorem Rj{l:List bt.D}{c:Int}{s x:bt.D}(h:x∈i_ l c s):x∈l∨x=s:=by
 unfold i_ at h
 cases hs:hg l c with
 | true=>
  rw [hs] at h;rcases List.mem_or_eq_of_mem_set h with h | h
  ·exact .inl h
  ·exact .inr h
 | false=>
  rw [hs] at h;simp only [cond_false,List.mem_append,List.mem_singleton] at h;rcases h with(h | h) | h
  ·exact .inl (List.mem_of_mem_take h)
  ·exact .inr h
  ·exact .inl (List.mem_of_mem_drop h)
theorem ap4(l:List bt.D)(c:Int)(s:bt.D):(i_ l c s).length≤l.length+1:=by
 unfold i_
 cases hg l c with
 | true=>simp only [cond_true,List.length_set];omega
 | false=>simp only [cond_false,List.length_append,List.length_take,List.length_drop,List.length_singleton];have:=wQ l c;omega
theorem abq(l:List bt.D)(h:∀s,s∈l→(gn s.2.2.2.1).length≤1000):ae.cost (.sl bt) l≤l.length*1001:=by
 rw [H_];have:=B8 (fun y=>ae.cost bt y) 1000 l fun s hs=>by rw [ap3];exact h s hs
 omega
theorem Rk{t:c2}(h:e5 t=true){s:bt.D}(hs:s∈t.2.2.2.1):oh s.2.2.2.1=true:=by obtain ⟨i,hi,rfl⟩:=fb hs;have h1:=iu.1 (iZ h).1 i hi;unfold jY at h1;rw [Bool.and_eq_true] at h1;exact h1.2
theorem Rl{r:aF.D}(h:oh r=true):(gn r).length≤400:=by unfold oh at h;rw [Bool.and_eq_true,decide_eq_true_eq] at h;have:=h.2;unfold gn;omega
theorem iA.small{t t1:c2}{c:Int}{x:aG.D}{r:aF.D}(h:iA t c x t1 r)(hc:ae.cost af t.1≤1048576):ae.cost af t1.1≤1048576∧t1.2.2.1.length≤t.2.2.1.length:=by
 cases h with
 | bad=>exact⟨hc,Nat.le_refl _⟩
 | za=>exact⟨hc,Nat.le_refl _⟩
 | perm=>exact⟨hc,Nat.le_refl _⟩
 | neg=>exact⟨hc,Nat.le_refl _⟩
 | told=>exact⟨hc,Nat.le_refl _⟩
 | zb=>exact⟨hc,Nat.zero_le _⟩
 | full=>exact⟨hc,Nat.le_refl _⟩
 | zc _ _ _ _ w k s hr=>exact⟨hr.cost hc,Nat.le_refl _⟩
theorem Rm(t:c2)(c bC index:Int)(x:aG.D)(r:aF.D):(gO t c bC index x r).1=t.1∧(gO t c bC index x r).2.1=t.2.1∧(gO t c bC index x r).2.2.2.1=t.2.2.2.1∧((gO t c bC index x r).2.2.1=t.2.2.1∨(gO t c bC index x r).2.2.1=t.2.2.1++[(index,c,bC,aD x,r.1,())]∧t.2.2.1.length<20∧notes t x r=true):=by
 unfold gO
 cases h:notes t x r with
 | false=>exact⟨rfl,rfl,rfl,.inl rfl⟩
 | true=>refine⟨rfl,rfl,rfl,.inr ⟨rfl,?_,rfl⟩⟩;unfold notes at h;rw [Bool.and_eq_true,decide_eq_true_eq] at h;exact h.1
theorem pr.cost{t cq:c2}{c bC index:Int}{x:aG.D}{r:aF.D}{b:Bool}(ht:e5 t=true)(h:pr t c bC x index cq r b)(hc:ae.cost aR t≤1048576):ae.cost aR cq≤1100000∧(gn r).length≤1000:=by
 obtain ⟨wR,kK,r0,hvo⟩:=iZ ht;have m6:=tL wR;have dB:=rZ r0
 cases h with
 | off=>exact⟨by omega,by simp [gn]⟩
 | again=>
  refine⟨by omega,?_⟩;unfold k6
  cases hs:hg t.2.2.2.1 c with
  | false=>simp [gn]
  | true=>have:=Rl (Rk ht (cR (y' hs)));simp only [cond_true];omega
 | late=>exact⟨by omega,by simp [gn]⟩
 | zd hn h1 t1 r hr=>
  have hl:=hr.len ht;refine⟨?_,hl⟩;rw [Ci] at hc ⊢;obtain ⟨e8,jG,ze,zf⟩:=Rm t1 c bC index x r;have jU:=hr.small (by omega);have hv:ae.cost af (nj (gO t1 c bC index x r) c bC index r).1≤1048576:=by show ae.cost af (gO t1 c bC index x r).1≤_;rw [e8];exact jU.1
  have ha:ae.cost (.sl aO) (nj (gO t1 c bC index x r) c bC index r).2.2.1≤21:=by
   rw [Ri];show(gO t1 c bC index x r).2.2.1.length≤_;rcases zf with e | ⟨e,gr,_⟩
   ·rw [e];have:=jU.2;omega
   ·rw [e,List.length_append,List.length_singleton];omega
  have hs:ae.cost (.sl bt) (nj (gO t1 c bC index x r) c bC index r).2.2.2.1≤4*1001:=by
   show ae.cost (.sl bt) (i_ (gO t1 c bC index x r).2.2.2.1 c (c,bC,index,r,()))≤_;rw [ze,hr.pt]
   have h2:=abq (i_ t.2.2.2.1 c (c,bC,index,r,())) fun s hs=>by
    rcases Rj hs with hs | rfl
    ·have:=Rl (Rk ht hs);omega
    ·exact hl
   have h3:=ap4 t.2.2.2.1 c (c,bC,index,r,());have h4:(i_ t.2.2.2.1 c (c,bC,index,r,())).length*1001≤4*1001:=Nat.mul_le_mul_right _ (by omega);exact Nat.le_trans h2 h4
  exact Nat.le_trans (Nat.add_le_add hv (Nat.add_le_add ha hs)) (by decide)
theorem abr(t:c2)(c bC:Int)(x:aG.D)(index:Int)(hc:ae.cost aR t≤1048576):∃cq r b,Hl (t,c,bC,x,index,())=some (cq,r,b,())∧vv (t,c,bC,x,index,())=some (cq,r,b,())∧ae.cost aR cq≤1100000∧(gn r).length≤1000 ∧
  (e5 t=true→pr t c bC x index cq r b)∧(e5 t=false→cq=((0,([]:List J.D),()),0,([]:List aO.D),([]:List bt.D),())∧r=(0,[],())∧b=false):=by
 have S:Hl (t,c,bC,x,index,())=N7 t c bC x index:=rfl;have Cl:vv (t,c,bC,x,index,())=Nd t c bC x index:=rfl;rw [S,Cl];unfold N7 Nd;rw [Rb t hc,apD t hc];simp only [aw]
 cases h:e5 t with
 | false=>
  refine⟨_,_,_,rfl,rfl,?_,?_,fun h=>by simp at h,fun _=>⟨rfl,rfl,rfl⟩⟩
  ·rw [Ci,Ri,Ir,H_];simp
  ·simp [gn]
 | true=>have m6:=tL (iZ h).1;have dB:=rZ (iZ h).2.2.1;simp only [Bool.not_true,cond_false];rw [apE h (by omega) (by omega),aa_ h (by omega) (by omega)];simp only [aw];obtain ⟨cq,r,b,e1,e2,ah⟩:=abo t c bC x index h;rw [e1,e2];simp only [aw,oR,DT];have:=ah.cost h hc;exact⟨cq,r,b,rfl,rfl,this.1,this.2,fun _=>ah,fun h=>by simp at h⟩
theorem Cm(k:Nat)(hk:1≤k∧k≤12)(x:Int)(h0:0≤x)(h:x<(10 ^ k:Nat)):(fX x).length≤k:=by
 have hb:(10 ^ k:Nat)≤10 ^ 12:=Nat.pow_le_pow_right (by decide) hk.2;have hc:((10 ^ k:Nat):Int)≤1000000000000:=Int.ofNat_le.2 (Nat.le_trans hb (by decide));have ah:=fH x (by omega);by_cases hz:x=0
 ·subst hz;have:fX 0=[48]:=aZ (congrArg (Option.map Prod.fst) (ah.2.1.symm.trans (rfl:e' (0,())=some ([48],()))));rw [this];simp;omega
 ·have hc':((10 ^ k:Nat):Int)=(10 ^ k:Int):=by simp
  obtain ⟨t,ht,hs,_⟩:=aaz k x (by omega) hz (by rw [← hc'];omega) (by rw [← hc'];omega);have e:e' (x,())=some (t,()):=by show Gv (oX aN) x=_;unfold Gv;rw [bX hz];simp only [cond_false];rw [hs aN [] (decide (x<0)) (by rw [jM];omega) (by simp;omega),decide_eq_false (by omega),List.append_nil];rfl
  have:fX x=t:=aZ (congrArg (Option.map Prod.fst) (ah.2.1.symm.trans e));rw [this];exact ht
theorem ap5{l:List aO.D}(h:gD l=true){i:Nat}(hi:i<l.length)(o:aK):(rY l i o).length≤o.length+23:=by have hr:=Je h hi;have d1:=Cm 6 (by omega) (k9 (I aO l i)) (by have:=hr.a;omega) (by have:=hr.a;omega);have d2:=Cm 1 (by omega) (pj (I aO l i)) (by have:=hr.b;omega) (by have:=hr.b;omega);have d3:=Cm 7 (by omega) (pk (I aO l i)) (by have:=hr.c;omega) (by have:=hr.c;omega);have d4:=Cm 2 (by omega) (pn (I aO l i)) (by have:=hr.d;omega) (by have:=hr.d;omega);have d5:=Cm 3 (by omega) (qw (I aO l i)) (by have:=hr.e;omega) (by have:=hr.e;omega);unfold rY;simp only [List.length_append,List.length_cons,List.length_nil];omega
theorem ap6{l:List aO.D}(h:gD l=true)(a:Nat):∀(r i:Nat) (o:aK),(k_ l a r i o).length≤o.length+24*r:=by
 intro r
 induction r with
 | zero=>intro i o;rw [k_];omega
 | succ r ih=>
  intro i o;rw [k_];by_cases hi:i<l.length∧i<a+6
  ·rw [if_pos hi];have h1:=ih (i+1) (rY l i (if a<i then o++[32] else o));have h2:=ap5 h hi.1 (if a<i then o++[32] else o);have h3:(if a<i then o++[32] else o).length≤o.length+1:=by split <;> simp
   omega
  ·rw [if_neg hi];omega
def Cn(r:aF.D):Int:=r.1
theorem abt{r:aF.D} : oh r=true↔(0≤Cn r∧Cn r≤200)∧(gn r).length≤400:=by
 unfold oh;rw [Bool.and_eq_true,di,decide_eq_true_eq];constructor
 ·rintro ⟨h1,h2⟩;exact⟨h1,by unfold gn;omega⟩
 ·rintro ⟨h1,h2⟩;exact⟨h1,by unfold gn at h2;omega⟩
theorem iA.res{t t1:c2}{c:Int}{x:aG.D}{r:aF.D}(ht:e5 t=true)(h:iA t c x t1 r):oh r=true:=by
 rw [abt]
 cases h with
 | bad=>exact⟨by decide,by simp [gn]⟩
 | za=>exact⟨by decide,by simp [gn]⟩
 | perm=>exact⟨by decide,by simp [gn]⟩
 | neg=>exact⟨by decide,by simp [gn]⟩
 | told _ _ _ _ n=>have:=ap6 (iZ ht).2.2.1 n 6 n [];refine⟨⟨Int.le_refl 0,by show(0:Int)≤200;decide⟩,?_⟩;show(k_ t.2.2.1 n 6 n []).length≤400;simp only [List.length_nil] at this;omega
 | zb=>exact⟨by decide,by simp [gn]⟩
 | full=>exact⟨by decide,by simp [gn]⟩
 | zc _ _ _ _ w k s hr=>exact⟨hr.rg,hr.len⟩
theorem ap7(n k:Int)(h:0≤n):0≤(lN n k).1∧(lN n k).1≤n:=by
 unfold lN;have:=Rf k;split
 ·exact⟨h,Int.le_refl _⟩
 ·exact⟨by simp only;omega,by simp only;omega⟩
theorem iA.kept{t t1:c2}{c:Int}{x:aG.D}{r:aF.D}(ht:e5 t=true)(h:iA t c x t1 r) :
  g' t1.1=true∧(0≤t1.2.1∧t1.2.1≤t.2.1)∧(t1.2.2.1=t.2.2.1∨t1.2.2.1=[]∧aD x=22∧Cn r=0):=by
 obtain ⟨wR,kK,r0,hvo⟩:=iZ ht;have hs:=ap7 t.2.1 (aD x) kK.1
 cases h with
 | bad=>exact⟨hvo,⟨kK.1,Int.le_refl _⟩,.inl rfl⟩
 | za=>exact⟨hvo,⟨kK.1,Int.le_refl _⟩,.inl rfl⟩
 | perm=>exact⟨hvo,hs,.inl rfl⟩
 | neg=>exact⟨hvo,hs,.inl rfl⟩
 | told=>exact⟨hvo,hs,.inl rfl⟩
 | zb _ _ hk=>exact⟨hvo,hs,.inr ⟨rfl,hk,rfl⟩⟩
 | full=>exact⟨hvo,hs,.inl rfl⟩
 | zc _ _ _ _ w k s hr=>exact⟨hr.ok hvo,hs,.inl rfl⟩
theorem Jf(f:Nat→Int)(a:Int):∀n,a≤gE f a n∧∀i,i<n→f i≤gE f a n
 | 0=>⟨Int.le_refl _,fun i hi=>by omega⟩
 | n+1=>by
  obtain ⟨h1,h2⟩:=Jf f a n;have:gE f a n≤gE f a (n+1)∧f n≤gE f a (n+1):=by rw [gE];unfold fr;split <;> omega
  refine⟨by omega,fun i hi=>?_⟩;by_cases e:i=n
  ·subst e;exact this.2
  ·have:=h2 i (by omega);omega
theorem abu(t:c2){i:Nat}(hi:i<t.2.2.1.length):kE t.2.2.1 i≤k8 t:=by unfold k8;have h1:=(Jf (kE t.2.2.1) 0 t.2.2.1.length).2 i hi;have h2:=(Jf (k7 t.2.2.2.1) (gE (kE t.2.2.1) 0 t.2.2.1.length) t.2.2.2.1.length).1;omega
theorem ap8(t:c2){i:Nat}(hi:i<t.2.2.2.1.length):k7 t.2.2.2.1 i≤k8 t:=by unfold k8;exact(Jf (k7 t.2.2.2.1) (gE (kE t.2.2.1) 0 t.2.2.1.length) t.2.2.2.1.length).2 i hi
theorem Rn{t:c2}{c bC index:Int} : mq t c bC index=true↔(1≤c∧c≤3)∧(1≤bC∧bC≤1000000)∧(1≤index∧index≤100000)∧k8 t≤index:=by
 unfold mq;simp only [Bool.and_eq_true,di,Bool.not_eq_true',decide_eq_false_iff_not];constructor
 ·rintro ⟨h1,h2,h3,h4⟩;exact⟨h1,h2,h3,by omega⟩
 ·rintro ⟨h1,h2,h3,h4⟩;exact⟨h1,h2,h3,by omega⟩
theorem Ro{t:ae}{l:List t.D}{x:t.D}{i:Nat}(h:i<l.length):I t (l++[x]) i=I t l i:=by rw [c0 (by rw [List.length_append];omega),c0 h,List.getElem_append_left h]
theorem ap9{t:ae}{l:List t.D}{x:t.D} : I t (l++[x]) l.length=x:=by rw [c0 (by rw [List.length_append,List.length_singleton];omega),List.getElem_append_right (Nat.le_refl _)];simp
theorem ap_{l:List aO.D}(h:gD l=true)(hl:l.length<20){n:aO.D}(hn:abf n)(hi:∀i,i<l.length→k9 (I aO l i)≤k9 n):gD (l++[n])=true:=by
 unfold gD at h ⊢;rw [Bool.and_eq_true] at h ⊢;refine⟨iu.2 fun i gw=>?_,decide_eq_true (by rw [List.length_append,List.length_singleton];omega)⟩;rw [List.length_append,List.length_singleton] at gw;by_cases e:i<l.length
 ·have:=iu.1 h.1 i e;unfold tK at this ⊢;rw [Ro e,Ro (by omega)];exact this
 ·have e:i=l.length:=by omega
  subst e;unfold tK;rw [ap9];simp only [Bool.and_eq_true,di,Bool.not_eq_true',Bool.and_eq_false_iff,decide_eq_false_iff_not];refine⟨⟨⟨⟨⟨hn.a,?_⟩,hn.b⟩,hn.c⟩,hn.d⟩,hn.e⟩;by_cases h0:0<l.length
  ·refine .inr ?_;rw [Ro (by omega)];exact Int.not_lt.2 (hi (l.length-1) (by omega))
  ·exact .inl h0
def fY(s:bt.D):Int:=s.1
def abv(s:bt.D):Int:=s.2.1
def Jg(s:bt.D):Int:=s.2.2.1
def Rp(s:bt.D):Prop:=(1≤fY s∧fY s≤3)∧(1≤abv s∧abv s≤1000000)∧(1≤Jg s∧Jg s≤100000)∧oh s.2.2.2.1=true
theorem abw{l:List bt.D} : eo l.length (jY l)=true↔(∀s,s∈l→Rp s)∧(∀i,i+1<l.length→fY (I bt l i)<fY (I bt l (i+1))):=by
 rw [iu];unfold jY;simp only [Bool.and_eq_true,di,Bool.not_eq_true',Bool.and_eq_false_iff,decide_eq_false_iff_not];constructor
 ·intro h;refine⟨fun s hs=>?_,fun i hi=>?_⟩
  ·obtain ⟨i,hi,rfl⟩:=fb hs;have:=h i hi;exact⟨this.1.1.1.1,this.1.1.2,this.1.2,this.2⟩
  ·rcases (h (i+1) hi).1.1.1.2 with h1 | h1
   ·omega
   ·rw [Nat.add_sub_cancel] at h1;exact Int.not_le.1 h1
 ·rintro ⟨h1,h2⟩ i hi
  have:=h1 _ (cR hi);refine⟨⟨⟨⟨this.1,?_⟩,this.2.1⟩,this.2.2.1⟩,this.2.2.2⟩
  cases i with
  | zero=>exact .inl (by omega)
  | succ i=>rw [Nat.add_sub_cancel];exact .inr (Int.not_le.2 (h2 i hi))
theorem Rq:∀(l:List bt.D),(∀i,i+1<l.length→fY (I bt l i)<fY (I bt l (i+1)))↔(l.map fY).Pairwise (· < ·)
 | []=>⟨fun _=>List.Pairwise.nil,fun _ i hi=>by simp at hi⟩
 | [x]=>⟨fun _=>by simp,fun _ i hi=>by simp at hi⟩
 | x :: y :: l=>by
  have ih:=Rq (y :: l);constructor
  ·intro h;have h1:fY x<fY y:=h 0 (by simp);have h2:((y :: l).map fY).Pairwise (· < ·):=ih.1 fun i hi=>h (i+1) (by simpa using hi)
   rw [List.map_cons,List.pairwise_cons];refine⟨fun z hz=>?_,h2⟩;rw [List.map_cons] at h2 hz;rcases List.mem_cons.1 hz with rfl | hz
   ·exact h1
   ·have:=(List.pairwise_cons.1 h2).1 z hz;omega
  ·intro h i hi;rw [List.map_cons,List.pairwise_cons] at h
   cases i with
   | zero=>exact h.1 (fY y) List.mem_cons_self
   | succ i=>exact ih.2 h.2 i (by simpa using hi)
theorem abx(l:List bt.D)(c:Int):∀s,s∈l.take (dw l c)→fY s<c:=by
 intro s hs;unfold dw at hs;have:l.take (l.takeWhile fun s=>decide (s.1<c)).length=l.takeWhile fun s=>decide (s.1<c):=IH _ _
 rw [this] at hs;exact of_decide_eq_true (Qd (p:=fun s:bt.D=>decide (s.1<c)) hs)
theorem ap'{l:List bt.D}(h:(l.map fY).Pairwise (· < ·))(c:Int):∀s,s∈l.drop (dw l c)→c≤fY s:=by
 intro s hs;have hle:=wQ l c;by_cases b2:dw l c<l.length
 ·have hst:=(Jc (fun s:bt.D=>decide (s.1<c)) l (dw l c) b2 (Nat.le_refl _)).1
  have h0:c≤fY l[dw l c]:=by
   refine Int.not_lt.1 fun hh=>?_
   have:=hst (decide_eq_true hh);have:dw l c+1≤dw l c:=this;omega
  rw [List.drop_eq_getElem_cons b2] at hs;have av:((l.drop (dw l c)).map fY).Pairwise (· < ·):=by rw [List.map_drop];exact h.drop
  rw [List.drop_eq_getElem_cons b2,List.map_cons,List.pairwise_cons] at av;rcases List.mem_cons.1 hs with rfl | hs
  ·exact h0
  ·have:=av.1 (fY s) (List.mem_map_of_mem hs);omega
 ·rw [List.drop_of_length_le (by omega)] at hs;simp at hs
theorem Rr{l:List bt.D}{c:Int} : hg l c=true↔dw l c<l.length∧fY (I bt l (dw l c))=c:=by unfold hg;rw [Bool.and_eq_true,decide_eq_true_eq,beq_iff_eq];rfl
theorem aqa{l:List bt.D}(h:eo l.length (jY l)=true){c:Int}{s:bt.D}(hs:Rp s)(hc:fY s=c):eo (i_ l c s).length (jY (i_ l c s))=true:=by
 obtain ⟨h1,h2⟩:=abw.1 h;have av:=(Rq l).1 h2;refine abw.2 ⟨fun x hx=>?_,?_⟩
 ·rcases Rj hx with hx | rfl
  ·exact h1 x hx
  ·exact hs
 ·refine(Rq _).2 ?_;unfold i_
  cases hb:hg l c with
  | true=>
   obtain ⟨g1,g2⟩:=Rr.1 hb;simp only [cond_true]
   have:(l.set (dw l c) s).map fY=l.map fY:=by
    rw [List.map_set];refine List.ext_getElem (by simp) fun i hi hj=>?_
    rw [List.getElem_set];split
    ·rename_i e;rw [List.getElem_map];have e2:l[i]'(by simpa using hj)=I bt l (dw l c):=by rw [c0 g1];simp only [e]
     rw [e2,g2,hc]
    ·rfl
   rw [this];exact av
  | false=>
   simp only [cond_false];have b2:=abx l c;have xt:=ap' av c
   have od:∀x,x∈l.drop (dw l c)→c<fY x:=by
    intro x hx;have:=xt x hx;by_cases e:fY x=c
    ·exfalso
     have Co:dw l c<l.length:=by
      rcases Nat.lt_or_ge (dw l c) l.length with h | h
      ·exact h
      ·rw [List.drop_of_length_le h] at hx;simp at hx
     have hne:fY (I bt l (dw l c))≠c:=fun e=>by have:=Rr.2 ⟨Co,e⟩;rw [hb] at this;cases this
     rw [List.drop_eq_getElem_cons Co] at hx;rcases List.mem_cons.1 hx with rfl | lp
     ·rw [c0 Co] at hne;exact hne e
     ·have js:((l.drop (dw l c)).map fY).Pairwise (· < ·):=by
       rw [List.map_drop];exact av.drop
      rw [List.drop_eq_getElem_cons Co,List.map_cons,List.pairwise_cons] at js;have h3:=js.1 (fY x) (List.mem_map_of_mem lp);have h4:=xt l[dw l c] (by rw [List.drop_eq_getElem_cons Co];exact List.mem_cons_self);omega
    ·omega
   rw [List.map_append,List.map_append,List.pairwise_append,List.pairwise_append];refine⟨⟨by rw [List.map_take];exact av.take,by simp,?_⟩,by rw [List.map_drop];exact av.drop,?_⟩
   ·intro a ha b hb;obtain ⟨y,aT,rfl⟩:=List.mem_map.1 ha;simp only [List.map_cons,List.map_nil,List.mem_singleton] at hb;subst hb;rw [hc];exact b2 y aT
   ·intro a ha b hb;obtain ⟨z,hz,rfl⟩:=List.mem_map.1 hb;have hz2:=od z hz;rcases List.mem_append.1 ha with ha | ha
    ·obtain ⟨y,aT,rfl⟩:=List.mem_map.1 ha;have:=b2 y aT;omega
    ·simp only [List.map_cons,List.map_nil,List.mem_singleton] at ha;subst ha;omega
theorem pr.ok{t cq:c2}{c bC index:Int}{x:aG.D}{r:aF.D}{b:Bool}(ht:e5 t=true)(h:pr t c bC x index cq r b):e5 cq=true:=by
 cases h with
 | off=>exact ht
 | again=>exact ht
 | late=>exact ht
 | zd hn h1 t1 r hr=>
  obtain ⟨e8,jG,ze,zf⟩:=Rn.1 hn;obtain ⟨wR,kK,r0,hvo⟩:=iZ ht;obtain ⟨k1,k2,k3⟩:=hr.kept ht;have tC:=hr.res ht;obtain ⟨ea,e7,fF,hy⟩:=Rm t1 c bC index x r
  have aby:gD t1.2.2.1=true:=by
   rcases k3 with e | ⟨e,_⟩
   ·rw [e];exact r0
   ·rw [e];rfl
  have aqb:gD (gO t1 c bC index x r).2.2.1=true:=by
   rcases hy with e | ⟨e,hl,bP⟩
   ·rw [e];exact aby
   ·rw [e];refine ap_ aby hl ⟨ze,e8,jG,?_,(abt.1 tC).1⟩ fun i hi=>?_
    ·unfold notes at bP;simp only [Bool.and_eq_true] at bP;exact(tz.1 bP.2.1).dn
    ·rcases k3 with e | ⟨e,_⟩
     ·rw [e] at hi ⊢;exact Int.le_trans (abu t hi) zf
     ·rw [e] at hi;simp at hi
  have hs:Rp ((c,bC,index,r,()):bt.D):=⟨e8,jG,ze,tC⟩;have aqc:=aqa wR hs rfl;unfold e5;simp only [Bool.and_eq_true];refine⟨?_,?_,aqb,?_⟩
  ·show eo (i_ (gO t1 c bC index x r).2.2.2.1 c (c,bC,index,r,())).length (jY (i_ (gO t1 c bC index x r).2.2.2.1 c (c,bC,index,r,())))=true;rw [fF,hr.pt];exact aqc
  ·show cz (gO t1 c bC index x r).2.1 0 30=true;rw [e7];exact di.2 ⟨k2.1,Int.le_trans k2.2 kK.2⟩
  ·show g' (gO t1 c bC index x r).1=true;rw [ea];exact k1
def zg(n:Int):Int:=if n>26 then 30 else n+4
theorem aqd{n:Int}(h:0≤n∧n≤30):0≤zg n∧zg n≤30:=by unfold zg;split <;> omega
theorem aqe{n:Int}(h:0≤n∧n≤30):Ot (n,())=some (zg n,()):=by
 show Oq n=_;unfold Oq zg;rw [decide_eq_false (by omega)];by_cases h1:n>26
 ·rw [decide_eq_true (by omega),if_pos h1];rfl
 ·rw [if_neg h1];by_cases h2:n≥26
  ·rw [decide_eq_true h2,show n=26 by omega];rfl
  ·rw [decide_eq_false h2,cT (by omega) (by omega)];rfl
def tick(t:c2):c2:=(t.1,zg t.2.1,t.2.2.1,t.2.2.2.1,())
theorem aqf{t:c2}(h:e5 t=true):e5 (tick t)=true:=by obtain ⟨h1,h2,h3,h4⟩:=iZ h;unfold e5;simp only [Bool.and_eq_true];exact⟨h1,di.2 (aqd h2),h3,h4⟩
def Rs:c2:=((2,[(1,2,1023,0,0,[],[],0,0,())],()),30,[],[],())
theorem aqg:e5 Rs=true:=by decide +kernel
theorem aqh:Oo ()=some (Rs,()):=rfl
theorem zh{n:Nat}{i:Int}(h:0≤i)(h':i<n):aM n i=some i.toNat:=by rw [show aM n i=aM n ((i.toNat:Nat):Int) by congr 1;omega];exact bu (by omega)
abbrev eW:Type:=bh.D
def eD(C:eW):Prop:=0≤C.2.1∧C.2.1≤(C.1.length:Int)∧C.1.length≤1048576
def ba{α : Type}(o:Option (α × bh.D×Unit))(Q : α → Prop):Prop:=∃x C,o=some (x,C,())∧eD C∧Q x
theorem ba.ret{α : Type}{x : α}{C:eW}{Q : α → Prop}(h:eD C)(hq:Q x):ba (some (x,C,())) Q:=⟨x,C,rfl,h,hq⟩
theorem ba.bind{α β : Type}{o:Option (α × bh.D×Unit)}{f : α × bh.D×Unit→Option (β × bh.D×Unit)}{Q : α → Prop}{R : β → Prop}(h:ba o Q)
  (hf:∀x C,eD C→Q x→ba (f (x,C,())) R):ba (o.bind f) R:=by
 obtain ⟨x,C,rfl,hc,hq⟩:=h;exact hf x C hc hq
theorem ba.mono{α : Type}{o:Option (α × bh.D×Unit)}{Q R : α → Prop}(h:ba o Q)(hr:∀x,Q x→R x):ba o R:=by obtain ⟨x,C,h1,h2,h3⟩:=h;exact⟨x,C,h1,h2,hr x h3⟩
theorem ba.cond{α : Type}{b:Bool}{o p:Option (α × bh.D×Unit)}{Q : α → Prop}(h:ba o Q)(h':ba p Q):ba (cond b o p) Q:=by
 cases b
 ·exact h'
 ·exact h
theorem abz(x:Int):0≤cY .and .i64 x 255∧cY .and .i64 x 255≤255:=by
 have h:(BitVec.ofInt 64 x &&& BitVec.ofInt 64 255).toNat≤255:=by rw [BitVec.toNat_and];exact Nat.le_trans Nat.and_le_right (by decide)
 have h':((BitVec.ofInt 64 x &&& BitVec.ofInt 64 255).toNat:Int)≤255:=by omega
 have:cY .and .i64 x 255=((BitVec.ofInt 64 x &&& BitVec.ofInt 64 255).toNat:Int):=tY (Int.le_trans (by decide) (Int.natCast_nonneg _)) (Int.le_trans h' (by decide));omega
theorem aqi(b:List Int)(i hh:Int)(u:Unit)(h1:0≤i)(h2:i≤(b.length:Int))(h3:b.length≤1048576):ba (ry (((b,i,hh,u):eW),())) (fun x=>0≤x∧x≤255):=by
 show ba (N_ ((b,i,hh,u):eW)) _;unfold N_;dsimp only;by_cases hi:i<(b.length:Int)
 ·rw [qg hi,zh h1 hi];refine ba.ret ⟨?_,?_,h3⟩ (abz _)
  ·show 0≤aH (i+1);rw [cT (a:=i+1) (by omega) (by omega)];omega
  ·show aH (i+1)≤(b.length:Int);rw [cT (a:=i+1) (by omega) (by omega)];omega
 ·rw [o_ hi];exact ba.ret ⟨h1,h2,h3⟩ (abz _)
theorem zi{C:eW}(h:eD C):ba (ry (C,())) (fun x=>0≤x∧x≤255):=
 aqi C.1 C.2.1 C.2.2.1 C.2.2.2 h.1 h.2.1 h.2.2
structure Below(n x:Int):Prop where
 lo:0≤x
 hi:0<n→x<n
 no:n≤0→x=0
theorem abA{x n:Int}(hx:0≤x)(hn:0<n):Below n (Int.tmod x n):=
 ⟨Int.tmod_nonneg _ hx,fun _=>Int.tmod_lt_of_pos _ hn,fun h=>by omega⟩
theorem eN{C:eW}(h:eD C)(n:Int):ba (eB (C,n,())) (Below n):=by
 show ba (N' C n) _;unfold N';by_cases h0:n≤0
 ·rw [qg h0];exact ba.ret h ⟨Int.le_refl _,fun h=>by omega,fun _=>rfl⟩
 rw [o_ h0];by_cases h1:n≤256
 ·rw [qg h1];refine(zi h).bind fun x C aY hx=>?_
  dsimp only;rw [dj (by omega:n≠0)];exact ba.ret aY (abA hx.1 (by omega))
 ·rw [o_ h1];refine(zi h).bind fun x C aY hx=>(zi aY).bind fun y C aY aT=>(zi aY).bind fun z C aY hz=>(zi aY).bind fun w C aY hw=>?_
  dsimp only;rw [dj (by omega:n≠0)];refine ba.ret aY (abA ?_ (by omega));rw [cT (a:=x*16777216) (by omega) (by omega),cT (a:=y*65536) (by omega) (by omega),cT (a:=z*256) (by omega) (by omega),cT (a:=x*16777216+y*65536) (by omega) (by omega),cT (a:=x*16777216+y*65536+z*256) (by omega) (by omega),cT (a:=x*16777216+y*65536+z*256+w) (by omega) (by omega)];omega
theorem pv{C:eW}(h:eD C)(n:Int):ba (lC (C,n,())) (fun _=>True):=
 (eN h n).bind fun x C aY _=>ba.ret aY trivial
theorem iB{C:eW}(h:eD C)(l:List Int)(hl:0<l.length):ba (fz (C,l,())) (fun x=>x∈l):=by
 show ba (Oa C l) _;unfold Oa;refine(eN h _).bind fun x C aY hx=>?_
 dsimp only;have:=hx.hi (by omega);rw [zh hx.lo this];refine ba.ret aY ?_;rw [Nat.zero_add];exact cR (t:=.int .i64) (by have:=hx.lo;omega)
theorem Jh{C:eW}(h:eD C)(l:List aK)(hl:0<l.length):ba (rz (C,l,())) (fun x=>x∈l):=by
 show ba (Ob C l) _;unfold Ob;refine(eN h _).bind fun x C aY hx=>?_
 dsimp only;have:=hx.hi (by omega);rw [zh hx.lo this];refine ba.ret aY ?_;rw [Nat.zero_add];exact cR (t:=.str) (by have:=hx.lo;omega)
theorem Rt{C:eW}(h:eD C)(n:Nat)(l:List aK)(hl:0<l.length)(hn:l.all fun s=>decide (s.length≤n)):ba (rz (C,l,())) (fun x=>x.length≤n):=
 (Jh h l hl).mono fun x hx=>by simpa using List.all_eq_true.1 hn x hx
theorem aqj(U:Int):∀(r q:Nat) (ag:List Int) (C:eW),eD C→ag.length+r≤1000→2*r<q→ba ((te q).bg U (r:Int) C ag) (fun s=>s.length≤ag.length+r):=by
 intro r
 induction r with
 | zero=>intro q ag C aY hl hq;obtain ⟨q,rfl,_⟩:=fuel hq;show ba (Bg (te q) U ((0:Nat):Int) C ag) (fun s=>s.length≤ag.length+0);unfold Bg;rw [o_ (by omega)];exact ba.ret aY (by simp [gP])
 | succ r ih=>
  intro q ag C aY hl hq;obtain ⟨q,rfl,hq⟩:=fuel hq;show ba (Bg (te q) U _ C ag) _;unfold Bg;rw [qg (by omega)];refine(zi aY).bind fun y C aY _=>?_
  have hk:∀y,ba ((te q).cL U ((r+1:Nat):Int) y C ag) (fun s=>s.length≤ag.length +(r+1)):=fun y=>by obtain ⟨q,rfl,hq⟩:=fuel (show 2*r+1<q by omega);show ba (Oc (te q) U _ y C ag) _;unfold Oc;rw [b7 (by simp;omega),cT (by omega) (by omega),show((r+1:Nat):Int)-1=(r:Int) by omega];exact(ih q _ C aY (by simp;omega) (by omega)).mono fun s hs=>by simp at hs;omega
  exact ba.cond (ba.cond (hk _) (hk _)) (ba.cond (hk _) (hk _))
theorem aqk{C:eW}(h:eD C)(n:Nat)(hn:n≤900):ba (Bh (C,(n:Int),())) (fun s=>s.length≤n):=by
 show ba (Hn (te aN) C n) _;unfold Hn;refine(eN h _).bind fun x C aY hx=>(eN aY _).bind fun y C aY aT=>?_
 dsimp only;rw [cT (a:=(n:Int)+1) (by omega) (by omega)] at aT;have h1:=aT.lo;have h2:=aT.hi (by omega);have:=aqj x y.toNat aN [] C aY (by simp;omega) (by rw [jM];omega);rw [Int.toNat_of_nonneg h1] at this;exact this.mono fun s hs=>by simp at hs;omega
theorem abB{C:eW}(h:eD C):ba (yp (C,())) (fun s=>s.length≤3):=by show ba (Od C) _;unfold Od;exact(Rt h 3 _ (by decide) (by decide)).bind fun s C aY hs=>ba.ret aY hs
theorem abC(q:Nat){C:eW}(aY:eD C)(s:aK):ba ((o6 (q+1)).oT s C) (fun _=>True):=by
 show ba (Of (o6 q) s C) _;unfold Of;refine(pv aY 30).bind fun b C aY _=>?_
 dsimp only;exact ba.cond ((Jh aY _ (by decide)).bind fun y C aY _=>ba.ret aY trivial) (ba.ret aY trivial)
theorem abD(q:Nat){C:eW}(aY:eD C)(s:aK)(hs:s.length≤1000):ba ((o6 (q+2)).mY s C) (fun _=>True):=by show ba (Oe (o6 (q+1)) s C) _;unfold Oe;rw [b7 (by simp;omega)];exact abC q aY _
theorem aql:∀(r q:Nat) (s:aK) (C:eW),eD C→s.length+20*r≤900→r<q→ba ((o6 (q+2)).k3 s (r:Int) C) (fun _=>True):=by
 intro r
 induction r with
 | zero=>
  intro q s C aY hs hq;obtain ⟨q,rfl,_⟩:=fuel hq;show ba (Bi (o6 (q+2)) s ((0:Nat):Int) C) _;unfold Bi;rw [o_ (by omega),cond_false];refine ba.cond (abD q aY s (by omega)) ?_;refine(pv aY 20).bind fun b C aY _=>?_
  dsimp only;exact ba.cond (abD q aY s (by omega)) (abC (q+1) aY s)
 | succ r ih=>
  intro q s C aY hs hq;obtain ⟨q,rfl,hq⟩:=fuel hq;show ba (Bi (o6 (q+2)) s _ C) _;unfold Bi;rw [qg (by omega),b7 (by simp;omega),cT (a:=((r+1:Nat):Int)-1) (by omega) (by omega),show((r+1:Nat):Int)-1=(r:Int) by omega];refine(abB aY).bind fun n C aY hn=>?_
  dsimp only;rw [b7 (by simp;omega)];refine(eN aY 14).bind fun k C aY _=>?_
  dsimp only;have hk:∀(t:aK) C,eD C→t.length≤9→ba (cond (room (((s++([47]:aj))++n).length+t.length)) ((o6 (q+2)).k3 (((s++([47]:aj))++n)++t) (r:Int) C) none) (fun _=>True):=fun t C aY ht=>by rw [b7 (by simp;omega)];exact ih q _ C aY (by simp;omega) (by omega)
  refine ba.cond (hk _ C aY (by simp)) (ba.cond (hk _ C aY (by simp)) (ba.cond (hk _ C aY (by simp)) (ba.cond ?_ ?_)))
  ·refine(Rt aY 9 _ (by decide) (by decide)).bind fun y C aY aT=>?_
   exact hk y C aY aT
  ·exact ih q _ C aY (by simp;omega) (by omega)
theorem abE{C:eW}(h:eD C):ba (Hp (C,())) (fun _=>True):=by
 show ba (Ho (o6 aN) C) _;unfold Ho;refine(eN h 5).bind fun x C aY hx=>?_
 dsimp only;have h1:=hx.lo;have h2:=hx.hi (by omega);obtain ⟨q,hq,aqm⟩:=iS 2;have:=aql x.toNat q [] C aY (by simp;omega) (by omega);rw [Int.toNat_of_nonneg h1,← hq] at this;exact this
theorem aqn(v:af.D){n:Nat}(hv:eV n v.2.1)(hn:n≤1000):∀(r q:Nat) (s:aK) (at_:Int) (C:eW),eD C→s.length+9*r≤900→r<q→ba (wa q s at_ ((r:Int)-1) C v) (fun _=>True):=by
 intro r
 induction r with
 | zero=>intro q s at_ C aY hs hq;obtain ⟨q,rfl,_⟩:=fuel hq;show ba (yq (wa q) s at_ _ C v) _;unfold yq;rw [o_ (by omega)];exact ba.ret aY trivial
 | succ r ih=>
  intro q s at_ C aY hs hq;obtain ⟨q,rfl,hq⟩:=fuel hq;show ba (yq (wa q) s at_ _ C v) _;unfold yq;rw [qg (show((r+1:Nat):Int)-1≥0 by omega),n2 v at_ (by have:=hv.len;omega)];simp only [cond_true,aw]
  have me:∀C,eD C→ba (cond (room (s.length +([47]:aj).length)) ((yp (C,())).bind fun v2=>cond (room ((s++([47]:aj)).length+v2.1.length)) (some ((s++([47]:aj))++v2.1,v2.2.1,())) none) none) (fun _=>True):=fun C aY=>by
   rw [b7 (by simp;omega)];refine(abB aY).bind fun m C aY hm=>?_
   dsimp only;rw [b7 (by simp;omega)];exact ba.ret aY trivial
  cases hi:bz v.2.1 at_ with
  | none=>exact me C aY
  | some d=>
   have ah:=(b5 hi).1;rw [show decide (hP (some d)<0)=false from o_ (show ¬((d:Int)<0) by omega)];rw [show aM v.2.1.length (hP (some d))=some d from bu ah];simp only [cond_false,aw];by_cases h0:(an (I J v.2.1 d)).length=0
   ·rw [cr (show(((I J v.2.1 d).2.2.2.2.2.2.1).length:Int)=0 from by have:(an (I J v.2.1 d)).length=0:=h0;exact congrArg (fun k:Nat=>(k:Int)) this)];exact me C aY
   ·rw [bX (show(((I J v.2.1 d).2.2.2.2.2.2.1).length:Int)≠0 from by have:(an (I J v.2.1 d)).length≠0:=h0;exact fun h=>this (Int.ofNat.inj h))];simp only [cond_false,oR];refine(eN aY _).bind fun k C aY hk=>?_
    have b2:k<((an (I J v.2.1 d)).length:Int):=hk.hi (by show(0:Int)<((an (I J v.2.1 d)).length:Int);omega);have Tg:=hk.lo;dsimp only;rw [show aM (((I J v.2.1 d).2.2.2.2.2.2.1).length) k=some k.toNat from zh hk.lo b2];simp only [aw];have dg:((I aB (an (I J v.2.1 d)) k.toNat).1).length≤8:=(hv.get ah).each _ (cR (by omega));have dg:((I aB ((I J v.2.1 d).2.2.2.2.2.2.1) k.toNat).1).length≤8:=dg;rw [b7 (by simp;omega)];simp only [cond_true];rw [b7 (n:=(s++([47]:aj)).length +((I aB ((I J v.2.1 d).2.2.2.2.2.2.1) k.toNat).1).length) (by simp;omega)];simp only [cond_true];rw [cT (a:=((r+1:Nat):Int)-1-1) (by omega) (by omega),show((r+1:Nat):Int)-1-1=(r:Int)-1 by omega];refine ih q _ _ C aY ?_ (by omega);simp only [List.length_append,List.length_singleton];omega
theorem abF{C:eW}(h:eD C)(v:af.D){n:Nat}(hv:eV n v.2.1)(hn:n≤1000):ba (yr (C,v,())) (fun _=>True):=by
 show ba (Hr (wa aN) C v) _;unfold Hr;refine(pv h 4).bind fun b C aY _=>?_
 dsimp only;refine ba.cond ((abE aY).bind fun y C aY _=>ba.ret aY trivial) ?_;refine(eN aY 4).bind fun x C aY hx=>?_
 dsimp only;have h1:=hx.lo;have h2:=hx.hi (by omega);have:=aqn v hv hn (x.toNat+1) aN [] 1 C aY (by simp;omega) (by rw [jM];omega);rw [show((x.toNat+1:Nat):Int)-1=x by omega] at this;exact this
theorem abG{C:eW}(h:eD C):ba (Hy (C,())) (fun c=>dy c=true):=by
 show ba (Ow C) _;unfold Ow;refine(eN h 4).bind fun x C aY _=>?_
 dsimp only;have h0:ba (some (((0,0,([]:List Int),()):aL.D),C,())) (fun c=>dy c=true):=ba.ret aY (by kernel_rfl);have h2:ba (some (((2,2,[5],()):aL.D),C,())) (fun c=>dy c=true):=ba.ret aY (by kernel_rfl);have h3:ba (some (((3,2,([]:List Int),()):aL.D),C,())) (fun c=>dy c=true):=ba.ret aY (by kernel_rfl);exact ba.cond (ba.cond h0 (ba.cond h2 h3)) (ba.cond h0 (ba.cond h2 h3))
theorem call32(m:Nat){C:eW}(aY:eD C)(aa ad:aG.D)(ah:ad.2.2.2.2.2.1.length≤100):ba ((lE (m+1)).gi C aa ad) (fun _=>True):=by
 show ba (Oj (lE m) C aa ad) _;unfold Oj;refine(pv aY 25).bind fun b C aY _=>?_
 dsimp only;refine ba.cond ?_ (ba.ret aY trivial);refine(eN aY 6).bind fun z C aY _=>?_
 dsimp only
 refine ba.cond ((iB aY _ (by decide)).bind fun y C aY _=>ba.ret aY trivial) (ba.cond ((iB aY _ (by decide)).bind fun y C aY _=>ba.ret aY trivial)
  (ba.cond ((iB aY _ (by decide)).bind fun y C aY _=>ba.ret aY trivial) (ba.cond ?_ (ba.cond ((Jh aY _ (by decide)).bind fun y C aY _=>ba.ret aY trivial) ((abE aY).bind fun y C aY _=>ba.ret aY trivial)))))
 rw [b7 (by simp;omega)];exact ba.ret aY trivial
theorem call19(m:Nat){C:eW}(aY:eD C)(v:af.D){n:Nat}(hv:eV n v.2.1)(hn:n≤1000)(aa ad:aG.D)(ah:ad.2.2.2.2.2.1.length≤100):ba ((lE (m+2)).iP C v aa ad) (fun _=>True):=by
 show ba (Ok (lE (m+1)) C v aa ad) _;unfold Ok;refine(abF aY v hv hn).bind fun s C aY _=>?_
 exact call32 m aY _ _ ah
theorem call20(m:Nat){C:eW}(aY:eD C)(k:Int)(aa ad:aG.D)(ah:ad.2.2.2.2.2.1.length≤100):ba ((lE (m+2)).o4 k C aa ad) (fun _=>True):=by
 show ba (Ol (lE (m+1)) k C aa ad) _;unfold Ol
 refine ba.cond ((Jh aY _ (by decide)).bind fun y C aY _=>call32 m aY _ _ ah) (ba.cond ((eN aY 2).bind fun y C aY _=>call32 m aY _ _ ah)
  (ba.cond ((iB aY _ (by decide)).bind fun y C aY _=>(iB aY _ (by decide)).bind fun z C aY _=>call32 m aY _ _ ah) (ba.cond ((eN aY 8).bind fun y C aY _=>call32 m aY _ _ ah)
   (ba.cond ((iB aY _ (by decide)).bind fun y C aY _=>(iB aY _ (by decide)).bind fun z C aY _=>call32 m aY _ _ ah) (call32 m aY _ _ ah)))))
theorem abH{C:eW}(h:eD C)(v:af.D){n:Nat}(hv:eV n v.2.1)(hn:n≤1000):ba (Ht (C,v,())) (fun _=>True):=by
 obtain ⟨m,hm,_⟩:=iS 4;show ba (Hs (lE aN) C v) _;rw [hm];unfold Hs;simp only [oR,DT];refine(iB h _ (by decide)).bind fun k C aY _=>(abF aY v hv hn).bind fun s C aY _=>?_
 dsimp only;show ba (Og (lE (m+3)) C v _ _) _;unfold Og;have br:∀(aa ad:aG.D),ad.2.2.2.2.2.1.length≤100→ba ((lE (m+3)).du C aa ad) (fun _=>True):=fun aa ad ah=>by show ba (Oh (lE (m+2)) C aa ad) _;unfold Oh;exact(iB aY _ (by decide)).bind fun y C aY _=>call32 (m+1) aY _ _ ah
 have bL:∀(k:Int) (aa ad:aG.D),ad.2.2.2.2.2.1.length≤100→ba ((lE (m+3)).dq k C v aa ad) (fun _=>True):=fun k aa ad ah=>by
  show ba (Oi (lE (m+2)) k C v aa ad) _;unfold Oi;have abI:∀ {C:eW},eD C→∀ag:aK→aG.D,(∀t,(ag t).2.2.2.2.2.1=t)→ba ((Bh (C,30,())).bind fun v4=>(lE (m+2)).gi v4.2.1 aa (ag v4.1)) (fun _=>True):=fun aY ag hx=>(aqk aY 30 (by omega)).bind fun t C aY ht=>call32 (m+1) aY _ _ (by rw [hx];exact Nat.le_trans ht (by omega))
  refine ba.cond ((eN aY 8).bind fun y C aY _=>(eN aY 20).bind fun z C aY _=>call32 (m+1) aY _ _ ah) (ba.cond ((eN aY 20).bind fun y C aY _=>?_) (ba.cond ?_ (ba.cond ((eN aY 70).bind fun y C aY _=>call32 (m+1) aY _ _ ah)
   (ba.cond (ba.cond (call19 m aY v hv hn _ _ ah) (call20 m aY _ _ _ ah)) (ba.cond (call19 m aY v hv hn _ _ ah) (call20 m aY _ _ _ ah))))))
  ·exact abI aY (fun t=>(ad.1,ad.2.1,ad.2.2.1,y,ad.2.2.2.2.1,t,())) fun t=>rfl
  ·exact abI aY (fun t=>(ad.1,ad.2.1,ad.2.2.1,ad.2.2.2.1,ad.2.2.2.2.1,t,())) fun t=>rfl
 have ah:([]:aK).length≤100:=by simp
 exact ba.cond (ba.cond (br _ _ ah) (bL _ _ _ ah)) (ba.cond (ba.cond (br _ _ ah) (bL _ _ _ ah)) (ba.cond (br _ _ ah) (bL _ _ _ ah)))
theorem abJ:∀m:Int,m∈[511,511,493,1023,2047]→bW ((2:Int),([(1,2,m,0,0,([]:aK),([]:List aB.D),0,0,())]:List aS),()):=by intro m hm;simp only [List.mem_cons,List.not_mem_nil,or_false] at hm;rcases hm with rfl | rfl | rfl | rfl | rfl <;> exact tu.1 (by kernel_rfl)
theorem aqo:eV 24 ([(1,2,493,0,0,([]:aK),([]:List aB.D),0,0,())]:List aS):=(bW.sz (abJ 493 (by decide)))
theorem abK{C:eW}(h:eD C):ba (Hz (C,())) (fun _=>True):=by show ba (Ox C) _;unfold Ox;rw [show On ()=some ((2,[(1,2,493,0,0,([]:aK),([]:List aB.D),0,0,())],()),()) from rfl];simp only [aw];exact(abH h _ aqo (by omega)).bind fun x C aY _=>ba.ret aY trivial
theorem abL(v:af.D)(c:aL.D)(x:aG.D)(hv:bW v)(hc:dy c=true):∃w r,o5 (v,c,x,())=some (w,r,())∧bW w:=by
 by_cases hx:gj x=true∧aD x≤20
 ·obtain ⟨k,t,w,_,h2,h3,_,_⟩:=aaG v c x hv hc (tz.1 hx.1) hx.2;refine⟨_,_,h2,?_⟩;by_cases h0:k=0
  ·rw [cr h0];exact(h3 h0).ok hv hc (tz.1 hx.1)
  ·rw [bX h0];exact hv
 ·refine⟨v,(22,[],()),?_,hv⟩;show tc (Bf aN) v c x=_;unfold tc;rw [BA];simp only [aw]
  cases hcall:gj x with
  | false=>rfl
  | true=>simp only [Bool.not_true,cond_false];rw [decide_eq_true (show x.1>20 from by have:¬aD x≤20:=fun h=>hx ⟨hcall,h⟩;exact Int.not_le.1 this)];rfl
theorem abM:∀m,AZ m=p6 m
 | 0=>rfl
 | m+1=>by
  funext U aa ad ag
  show Nz (AZ m) U aa ad ag=AY (p6 m) U aa ad ag;rw [abM m];rfl
theorem abN{v:af.D}(h:bW v):A0 (v,())=some (v,()):=by have:=h.aaH;rw [show oY (v,())=AX (p6 aN) v from rfl,← abM] at this;exact this
theorem aqp(v0:af.D):∀(r q:Nat) (C:eW) (v:af.D),eD C→bW v→r≤1000→r<q→ba (we q ((r:Int)+1) C v0 v) bW:=by
 intro r
 induction r with
 | zero=>intro q C v aY hv hr hq;obtain ⟨q,rfl,_⟩:=fuel hq;show ba (yu (we q) _ C v0 v) _;unfold yu;rw [cT (a:=((0:Nat):Int)+1-1) (by omega) (by omega),o_ (by omega),abN hv];exact ba.ret aY hv
 | succ r ih=>
  intro q C v aY hv hr hq;obtain ⟨q,rfl,hq⟩:=fuel hq;show ba (yu (we q) _ C v0 v) _;unfold yu;rw [cT (a:=((r+1:Nat):Int)+1-1) (by omega) (by omega),qg (by omega)];refine(abG aY).bind fun c C aY hc=>(abK aY).bind fun x C aY _=>?_
  dsimp only;obtain ⟨w,k,hw,d_⟩:=abL v c x hv hc;rw [hw];simp only [aw];rw [show((r+1:Nat):Int)+1-1=(r:Int)+1 by omega];exact ih q C w aY d_ (by omega) (by omega)
theorem aqq{C:eW}(h:eD C)(n:Int)(hn:n≤1000):ba (Oy (C,n,())) bW:=by
 show ba (HA (we aN) C n) _;unfold HA;rw [show Hu ()=some ((2,[(1,2,493,0,0,([]:aK),([]:List aB.D),0,0,())],()),()) from rfl];simp only [aw];refine(iB h _ (by decide)).bind fun m C aY hm=>?_
 rw [show aM (([(1,2,493,0,0,([]:aK),([]:List aB.D),0,0,())]:List aS)).length 0=some 0 from rfl];simp only [aw];unfold Wh;refine(eN aY n).bind fun k C aY hk=>?_
 dsimp only;have d_:=abJ m hm;by_cases h0:k>0
 ·rw [qg h0];refine(abG aY).bind fun c C aY hc=>(abK aY).bind fun x C aY _=>?_
  dsimp only;obtain ⟨w,r,hw,d_⟩:=abL _ c x d_ hc;have JZ:o5 (((2,List.set [(1,2,493,0,0,([]:aK),([]:List aB.D),0,0,())] (0+0) (((I J [(1,2,493,0,0,([]:aK),([]:List aB.D),0,0,())] (0+0)).1,(I J [(1,2,493,0,0,([]:aK),([]:List aB.D),0,0,())] (0+0)).2.1,m,(I J [(1,2,493,0,0,([]:aK),([]:List aB.D),0,0,())] (0+0)).2.2.2.1,(I J [(1,2,493,0,0,([]:aK),([]:List aB.D),0,0,())] (0+0)).2.2.2.2.1,(I J [(1,2,493,0,0,([]:aK),([]:List aB.D),0,0,())] (0+0)).2.2.2.2.2.1,(I J [(1,2,493,0,0,([]:aK),([]:List aB.D),0,0,())] (0+0)).2.2.2.2.2.2.1,(I J [(1,2,493,0,0,([]:aK),([]:List aB.D),0,0,())] (0+0)).2.2.2.2.2.2.2.1,(I J [(1,2,493,0,0,([]:aK),([]:List aB.D),0,0,())] (0+0)).2.2.2.2.2.2.2.2.1,()):aS),()):af.D),c,x,())=some (w,r,()):=hw;rw [JZ];simp only [aw];have h1:=hk.hi (by have:=hk.no;omega);have:=aqp (0,([]:List J.D),()) (k.toNat-1) aN C w aY d_ (by omega) (by rw [jM];omega);rw [show((k.toNat-1:Nat):Int)+1=k by omega] at this;exact this
 ·rw [o_ h0];have zx:=abN d_;exact(show ba ((A0 (((2:Int),([(1,2,m,0,0,([]:aK),([]:List aB.D),0,0,())]:List aS),()),())).bind fun v9=>some (v9.1,C,())) bW by rw [zx];exact ba.ret aY d_)
theorem aqr{C:eW}(h:eD C)(n:Int)(hn:n≤1000):ba (OB (C,n,())) (fun w=>eV 25 w.2.1):=by
 show ba (Oz C n) _;unfold Oz;refine(aqq h n hn).bind fun v C aY hv=>(pv aY 10).bind fun b C aY _=>?_
 have hsz:eV 25 v.2.1:=hv.sz.mono (by omega);refine ba.cond (ba.ret aY hsz) ?_;refine(eN aY _).bind fun k C aY hk=>?_
 have h1:=hk.lo;have h2:=hk.hi (by have:=hv.len;show(0:Int)<(v.2.1.length:Int);omega);have h2:k<(v.2.1.length:Int):=h2;refine(eN aY 9).bind fun z C aY _=>?_
 dsimp only;have hi:k.toNat<v.2.1.length:=by omega
 have av:=hsz.get hi;have I4:=hv.fW hi;have ka:(an (I J v.2.1 k.toNat)).length≤24:=(hv.sz.get hi).c6;rw [show aM v.2.1.length k=some k.toNat from zh h1 h2];simp only [aw,Nat.zero_add]
 refine ba.cond ((iB aY _ (by decide)).bind fun y C aY _=>ba.ret aY hsz) (ba.cond ((eN aY 5).bind fun y C aY _=>ba.ret aY (hsz.set _ ⟨av.fW,av.c6,av.each⟩)) (ba.cond ((iB aY _ (by decide)).bind fun y C aY _=>ba.ret aY (hsz.set _ ⟨av.fW,av.c6,av.each⟩))
  (ba.cond ?_ (ba.cond ?_ (ba.cond ((iB aY _ (by decide)).bind fun y C aY _=>ba.ret aY (hsz.set _ ⟨av.fW,av.c6,av.each⟩)) (ba.cond ((iB aY _ (by decide)).bind fun y C aY _=>ba.ret aY (hsz.set _ ⟨av.fW,av.c6,av.each⟩)) (ba.cond ?_ ((eN aY 5).bind fun y C aY _=>ba.ret aY (hsz.set _ ⟨av.fW,av.c6,av.each⟩)))))))))
 ·rw [b7 (n:=(I J v.2.1 k.toNat).2.2.2.2.2.1.length +([120]:aj).length) (by have:(I J v.2.1 k.toNat).2.2.2.2.2.1.length≤64:=I4;simp;omega)];refine ba.ret aY (hsz.set _ ⟨?_,av.c6,av.each⟩);show((bT (I J v.2.1 k.toNat))++([120]:aj)).length≤200;simp only [List.length_append,List.length_singleton];omega
 ·refine(Rt aY 2 _ (by decide) (by decide)).bind fun y C aY aT=>(eN aY 6).bind fun u C aY _=>?_
  dsimp only;rw [show Nat.beq k.toNat k.toNat=true from Nat.beq_refl _];simp only [cond_true];rw [b7 (n:=(I J v.2.1 k.toNat).2.2.2.2.2.2.1.length+[((y,u,()):aB.D)].length) (by have:(I J v.2.1 k.toNat).2.2.2.2.2.2.1.length≤24:=ka;simp;omega)];refine ba.ret aY (hsz.set _ ⟨av.fW,?_,?_⟩)
  ·show((an (I J v.2.1 k.toNat))++[((y,u,()):aB.D)]).length≤25;simp only [List.length_append,List.length_singleton];omega
  ·intro d ah;have ah:d∈(an (I J v.2.1 k.toNat))++[((y,u,()):aB.D)]:=ah;rcases List.mem_append.1 ah with ah | ah
   ·exact av.each d ah
   ·rw [List.mem_singleton.1 ah];show y.length≤8;omega
 ·rw [b7 (by have:=hv.len;simp;omega)];refine ba.ret aY (hv.sz.app ⟨?_,?_,fun d ah=>by cases ah⟩)
  ·show([]:aK).length≤200;simp
  ·show([]:List aB.D).length≤24;simp
theorem aqs(a:List Int)(ha:a.length≤1048576):∀(r q:Nat) (h:Int) (i:Nat),i+r=4000→r<q→∃C,yn q a h (i:Int)=some (C,())∧eD C:=by
 intro r
 induction r with
 | zero=>intro q h i hi hq;obtain ⟨q,rfl,_⟩:=fuel hq;refine⟨(a,0,h,()),?_,Int.le_refl _,Int.natCast_nonneg _,ha⟩;show ym (yn q) a h (i:Int)=_;unfold ym;rw [o_ (show ¬(i:Int)<4000 by omega)];cases decide ((i:Int)<(a.length:Int)) <;> rfl
 | succ r ih=>
  intro q h i hi hq;obtain ⟨q,rfl,hq⟩:=fuel hq;show ∃C,ym (yn q) a h (i:Int)=_∧_
  unfold ym;rw [qg (show(i:Int)<4000 by omega)];by_cases hl:i<a.length
  ·rw [b9 hl,bu hl];simp only [cond_true,aw];rw [cT (a:=(i:Int)+1) (by omega) (by omega)];exact ih q _ (i+1) (by omega) (by omega)
  ·rw [cA (by omega)];exact⟨(a,0,h,()),rfl,Int.le_refl _,Int.natCast_nonneg _,ha⟩
theorem aqt(a:List Int)(ha:a.length≤1048576):∃C,N9 (a,())=some (C,())∧eD C:=aqs a ha 4000 aN _ 0 (by omega) (by rw [jM];omega)
theorem size_le(a:List Int)(n:Int):∃k,OH (a,n,())=some (k,())∧k≤n:=by
 show ∃k,OG a n=_∧_
 unfold OG;by_cases h:aH (2+aH (Int.tdiv (a.length:Int) 20))>n
 ·rw [qg h];exact⟨n,rfl,Int.le_refl _⟩
 ·rw [o_ h];exact⟨_,rfl,by omega⟩
theorem eV.vb{v:af.D}(h:eV 25 v.2.1):Is v:=P0 (Nat.le_trans (QT h) (by decide))
theorem aqu(a:List Int):N8 (a,())=some (decide ((a.length:Int)>1048576),()):=rfl
theorem aqv(v:af.D)(x:aS)(i:Int)(q:Nat):∀(r j:Nat),j+r=(an x).length→(an x).length≤1000→(qc (q+r+1)).cL i (j:Int) v v x x=(qc q).bg (aH (i+1)) v v:=by
 intro r
 induction r with
 | zero=>intro j hj hl;show cond (decide ((j:Int)<((an x).length:Int))) _ ((qc q).bg (aH (i+1)) v v)=_;rw [cA (by omega)];rfl
 | succ r ih=>intro j hj hl;show cond (decide ((j:Int)<((an x).length:Int))) (Option.bind (aM (an x).length (j:Int)) fun v1=>Option.bind (aM (an x).length (j:Int)) fun v2=>cond (!(bD (I aB (an x) v1).1 (I aB (an x) v2).1&&((I aB (an x) v1).2.1 ==(I aB (an x) v2).2.1&&true))) (some (false,())) ((qc (q+r+1)).cL i (aH ((j:Int)+1)) v v x x)) _=_;rw [b9 (by omega),bu (by omega)];simp only [cond_true,aw,Ad,beq_self_eq_true,Bool.and_self,Bool.not_true,cond_false];rw [cT (a:=(j:Int)+1) (by omega) (by omega)];exact ih (j+1) (by omega) hl
theorem aqw(v:af.D)(hl:v.2.1.length≤1000)(hn:∀x,x∈v.2.1→(an x).length≤1000):∀(r q i:Nat),i+r=v.2.1.length→r*1010<q→(qc q).bg (i:Int) v v=some (true,()):=by
 intro r
 induction r with
 | zero=>intro q i hi hq;obtain ⟨q,rfl,_⟩:=fuel (show 0<q by omega);show Bm (qc q) (i:Int) v v=_;unfold Bm;rw [cA (by omega)];rfl
 | succ r ih=>
  intro q i hi hq;obtain ⟨q,rfl,aqm⟩:=fuel (show 0<q by omega);show Bm (qc q) (i:Int) v v=_;unfold Bm;rw [b9 (by omega),bu (by omega)];simp only [cond_true,aw,Ad,bne_self_eq_false,Bool.not_true,cond_false];have hx:=hn _ (cR (t:=J) (show i<v.2.1.length by omega));generalize hN:(an (I J v.2.1 i)).length=N at hx;obtain ⟨p,rfl⟩:∃p,q=p+N+1:=⟨q-N-1,by omega⟩
  have h1:=aqv v (I J v.2.1 i) (i:Int) p N 0 (by omega) (by omega);rw [cT (a:=(i:Int)+1) (by omega) (by omega)] at h1;have av:r*1010<p:=by clear h1 ih;rw [Nat.add_mul,Nat.one_mul] at hq;generalize r*1010=R at hq ⊢;omega
  exact h1.trans (ih p (i+1) (by omega) av)
theorem aqx{v:af.D}{n:Nat}(h:eV n v.2.1)(hn:n≤1000):OK (v,v,())=some (true,()):=by show HD (qc aN) v v=_;unfold HD;simp only [bne_self_eq_false,cond_false];have hl:=h.len;exact aqw v (by omega) (fun x hx=>by have:=(h.po x hx).c6;omega) v.2.1.length aN 0 (by omega) (by rw [jM];omega)
theorem Ru{C:eW}(h:eD C)(v:af.D){n:Nat}(hv:eV n v.2.1)(hn:n≤1000):ba (rB (C,v,())) (fun _=>True):=by
 show ba (Om C v) _;unfold Om;refine(pv h 12).bind fun b D cQ _=>?_
 refine ba.cond ?_ ?_
 ·refine(iB cQ _ (by simp)).bind fun k D cQ _=>?_
  refine(eN cQ 6).bind fun j D cQ _=>?_
  exact .ret cQ trivial
 ·refine(abH cQ v hv hn).bind fun x D cQ _=>?_
  exact .ret cQ trivial
theorem bW.abO{v:af.D}(h:g' v=true):eV 24 v.2.1:=(tu.1 h).sz
theorem abP(m:Nat)(a b d e f):(rC (m+1)).k3 a b d e f=Hw (rC m) a b d e f:=rfl
theorem aqy(m:Nat)(a b d e f):(rC (m+1)).dq a b d e f=Ou (rC m) a b d e f:=rfl
theorem aqz(Rv:Int)(z:c2):∀(r m:Nat) (C:eW) (t:c2),eD C→e5 t=true→r≤1000→2*r<m→ba ((rC m).k3 Rv ((r:Int)+1) C z t) (fun t=>e5 t=true):=by
 intro r
 induction r with
 | zero=>intro m C t aY ht hr hm;obtain ⟨m,rfl,_⟩:=fuel (show 0<m by omega);rw [abP];unfold Hw;rw [decide_eq_false (by omega),aa_ ht (by have:=rZ (iZ ht).2.2.1;omega) (by have:=tL (iZ ht).1;omega)];exact .ret aY ht
 | succ r ih=>
  intro m C t aY ht hr hm;obtain ⟨m,rfl⟩:∃q,m=q+2:=⟨m-2,by omega⟩
  have go:∀(C:eW) (t:c2),eD C→e5 t=true→ba ((rC (m+1)).dq Rv (((r+1:Nat):Int)+1) C z t) (fun t=>e5 t=true):=by
   intro C t aY ht;rw [aqy];unfold Ou;refine(eN aY 3).bind fun c D cQ _=>?_
   rw [Rc t _ (by have:=tL (iZ ht).1;omega)];simp only [aw];refine(Ru cQ t.1 (bW.abO (iZ ht).2.2.2) (by omega)).bind fun x D cQ _=>?_
   obtain ⟨cq,q,b,e,_,ah⟩:=abo t (aH (1+c)) (aH ((k6 t.2.2.2.1 (aH (1+c))).2.1+1)) x (aH (aH (Rv+2)-(((r+1:Nat):Int)+1))) ht;rw [e];simp only [aw];rw [cT (a:=((r+1:Nat):Int)+1-1) (by omega) (by omega),show((r+1:Nat):Int)+1-1=(r:Int)+1 by omega];exact ih m D cq cQ (ah.ok ht) (by omega) (by omega)
  rw [abP];unfold Hw;rw [decide_eq_true (by omega)];simp only [cond_true];refine(pv aY 2).bind fun b D cQ _=>?_
  refine ba.cond ?_ (go D t cQ ht);rw [aqe (iZ ht).2.1];exact go D (tick t) cQ (aqf ht)
theorem aqA{C:eW}(h:eD C)(n:Int)(hn:n≤1000):ba (Ov (C,n,())) (fun t=>e5 t=true):=by
 show ba (Hv (rC aN) C n) _;unfold Hv;rw [aqh];simp only [aw];refine(eN h n).bind fun x D cQ hx=>?_
 have h1:=hx.lo
 have h2:x≤1000:=by
  by_cases h0:0<n
  ·have:=hx.hi h0;omega
  ·have:=hx.no (by omega);omega
 obtain ⟨r,hr⟩:∃r:Nat,x=(r:Int):=⟨x.toNat,by omega⟩
 subst hr;rw [cT (a:=1 +(r:Int)) (by omega) (by omega),show 1 +(r:Int)=(r:Int)+1 by omega];exact aqz n _ r aN D Rs cQ aqg (by omega) (by rw [jM];omega)
theorem aqB:∀(r m:Nat) (U:Int) (C:eW) (l:List aO.D),eD C→l.length+r≤100→r<m→ba (wg m U (r:Int) C l) (fun l=>l.length≤100):=by
 intro r
 induction r with
 | zero=>
  intro m U C l aY hl hm;obtain ⟨m,rfl,_⟩:=fuel (show 0<m by omega);show ba (yw (wg m) U ((0:Nat):Int) C l) _;unfold yw;rw [decide_eq_false (by omega)];simp only [cond_false];by_cases h0:0<l.length
  ·rw [decide_eq_true (show(l.length:Int)>0 by omega)];simp only [cond_true];refine(pv aY 10).bind fun b D cQ _=>?_
   refine ba.cond ?_ (.ret cQ (by omega));refine(eN cQ _).bind fun i D cQ hi=>?_
   have i1:=hi.lo;have i2:=hi.hi (by omega);refine(eN cQ 5).bind fun k D cQ _=>?_
   have zF:∀(j:Nat) (n:aO.D),(l.set j n).length≤100:=fun j n=>by rw [List.length_set];omega
   refine ba.cond ?_ (ba.cond ?_ (ba.cond ?_ (ba.cond ?_ ?_)))
   all_goals
    refine(iB cQ _ (by simp)).bind fun y D cQ _=>?_
    rw [zh i1 i2];simp only [aw];exact .ret cQ (zF _ _)
  ·rw [decide_eq_false (show ¬(l.length:Int)>0 by omega)];exact .ret aY (by omega)
 | succ r ih=>
  intro m U C l aY hl hm;obtain ⟨m,rfl,_⟩:=fuel (show 0<m by omega);show ba (yw (wg m) U ((r+1:Nat):Int) C l) _;unfold yw;rw [decide_eq_true (by omega)];simp only [cond_true];refine(eN aY 3).bind fun a D cQ _=>?_
  refine(eN cQ 3).bind fun b D cQ _=>?_
  refine(eN cQ 9).bind fun c D cQ _=>?_
  refine(eN cQ 20).bind fun d D cQ _=>?_
  refine(iB cQ _ (by simp)).bind fun e D cQ _=>?_
  rw [b7 (by simp only [List.length_cons,List.length_nil];omega)];simp only [cond_true];unfold Wi;rw [cT (a:=((r+1:Nat):Int)-1) (by omega) (by omega),show((r+1:Nat):Int)-1=(r:Int) by omega];exact ih m _ D _ cQ (by simp only [List.length_append,List.length_cons,List.length_nil];omega) (by omega)
theorem aqC{C:eW}(h:eD C):ba (OC (C,21,())) (fun l=>l.length≤100):=by
 show ba (HC (wg aN) C 21) _;unfold HC;refine(eN h _).bind fun x D cQ hx=>?_
 have h1:=hx.lo;have h2:=hx.hi (by decide);rw [show aH (21+1)=22 from rfl] at h2;obtain ⟨r,hr⟩:∃r:Nat,x=(r:Int):=⟨x.toNat,by omega⟩
 subst hr;exact aqB r aN 1 D [] cQ (by simp;omega) (by rw [jM];omega)
structure wS(t:c2):Prop where
 wT:eV 25 t.1.2.1
 Cp:t.2.2.1.length≤100
 pt:t.2.2.2.1.length≤4
 res:∀s,s∈t.2.2.2.1→(gn s.2.2.2.1).length≤400
theorem Rw{t:c2}(h:e5 t=true):wS t:=by obtain ⟨h1,h2,h3,h4⟩:=iZ h;exact⟨(bW.abO h4).mono (by omega),by have:=rZ h3;omega,by have:=tL h1;omega,fun s hs=>Rl (Rk h hs)⟩
theorem wS.cost{t:c2}(h:wS t):ae.cost aR t≤1048576:=by
 have h1:=QT h.wT;have h4:=abq t.2.2.2.1 fun s hs=>Nat.le_trans (h.res s hs) (by decide)
 have a':t.2.2.2.1.length*1001≤4*1001:=Nat.mul_le_mul_right _ h.pt;rw [Ci,Ri];exact Nat.le_trans (Nat.add_le_add h1 (Nat.add_le_add h.Cp (Nat.le_trans h4 a'))) (by decide)
theorem aqD{C:eW}(h:eD C)(n:Int)(hn:n≤1000):ba (OF (C,n,())) wS:=by
 show ba (OE C n) _;unfold OE;refine(aqA h n hn).bind fun t D cQ ht=>?_
 have hs:=Rw ht;have hl:=tL (iZ ht).1;refine(pv cQ 10).bind fun b D cQ _=>?_
 refine ba.cond (.ret cQ hs) ?_;refine(eN cQ 4).bind fun k D cQ _=>?_
 refine ba.cond ?_ (ba.cond ?_ (ba.cond ?_ ?_))
 ·refine(aqr cQ 10 (by omega)).bind fun w D cQ hw=>?_
  exact .ret cQ ⟨hw,hs.Cp,hs.pt,hs.res⟩
 ·refine(iB cQ _ (by simp)).bind fun y D cQ _=>?_
  exact .ret cQ ⟨hs.wT,hs.Cp,hs.pt,hs.res⟩
 ·refine(aqC cQ).bind fun l D cQ hl=>?_
  exact .ret cQ ⟨hs.wT,hl,hs.pt,hs.res⟩
 ·refine(eN cQ 5).bind fun a D cQ _=>?_
  refine(eN cQ 3).bind fun b D cQ _=>?_
  refine(eN cQ 3).bind fun c D cQ _=>?_
  rw [b7 (by simp only [List.length_cons,List.length_nil];omega)];refine .ret cQ ⟨hs.wT,hs.Cp,?_,?_⟩
  ·show(t.2.2.2.1++[_]).length≤4;rw [List.length_append,List.length_singleton];omega
  ·intro s K4;rcases List.mem_append.1 (show s∈t.2.2.2.1++[_] from K4) with h1 | h1
   ·exact hs.res s h1
   ·rw [List.mem_singleton.1 h1];simp [gn]
theorem aqE(a:List Int)(ha:a.length≤1048576):∃t c s x i,OJ (a,())=some (t,c,s,x,i,())∧wS t:=by
 show ∃t c s x i,OI a=_∧_
 unfold OI;obtain ⟨C,aY,aqF⟩:=aqt a ha;obtain ⟨k,hk,nm⟩:=size_le a 40;rw [aY,hk];simp only [aw];obtain ⟨t,C,e1,aqG,ht⟩:=aqD aqF k (by omega);rw [e1];simp only [aw];obtain ⟨c,C,e2,aqH,_⟩:=iB aqG [1,1,2,3,1,2,0,4] (by simp);rw [e2];simp only [aw];rw [Rc t c (by have:=ht.pt;omega)];simp only [aw];obtain ⟨d,C,e3,aqI,_⟩:=iB aqH [1,1,1,1,1,0,2,(-1)] (by simp);rw [e3];simp only [aw];obtain ⟨i,C,ft,aqJ,_⟩:=eN aqI 50;rw [ft];simp only [aw];obtain ⟨b,C,pK,abQ,_⟩:=pv aqJ 12;rw [pK];simp only [aw]
 have rest:∀(C:eW) (i:Int),eD C→∃cq c' s x dS,((lC (C,12,())).bind fun v10=>
  cond v10.1
   ((fz (v10.2.1,[0,(-1),1000000,1000001],())).bind fun v11=>
   (rB (v11.2.1,t.1,())).bind fun v12=>
   some (t,c,v11.1,v12.1,i,()))
   ((rB (v10.2.1,t.1,())).bind fun gz=>
   some (t,c,aH ((k6 t.2.2.2.1 c).2.1+d),gz.1,i,())))=some (cq,c',s,x,dS,())∧wS cq:=by
  intro C i aY;obtain ⟨b,C,xi,Ji,_⟩:=pv aY 12;rw [xi];simp only [aw]
  cases b with
  | true=>simp only [cond_true];obtain ⟨y,C,aqK,aqL,_⟩:=iB Ji [0,(-1),1000000,1000001] (by simp);rw [aqK];simp only [aw];obtain ⟨x,C,Rx,_,_⟩:=Ru aqL t.1 ht.wT (by omega);rw [Rx];exact⟨_,_,_,_,_,rfl,ht⟩
  | false=>simp only [cond_false];obtain ⟨x,C,Rx,_,_⟩:=Ru Ji t.1 ht.wT (by omega);rw [Rx];exact⟨_,_,_,_,_,rfl,ht⟩
 cases b with
 | true=>simp only [cond_true];obtain ⟨y,C,xi,Ji,_⟩:=iB abQ [0,(-1),1,100000,100001] (by simp);rw [xi];simp only [aw];exact rest C y Ji
 | false=>simp only [cond_false];exact rest C (aH (100+i)) abQ
theorem abR(m:Nat)(a b d):(rD (m+1)).bg a b d=HF (rD m) a b d:=rfl
theorem abS(m:Nat)(a b d):(rD (m+1)).eY a b d=HG (rD m) a b d:=rfl
theorem abT{t:c2}(h:wS t):Bn (t,t,())=some (true,()):=by
 show HE (rD aN) t t=_;unfold HE;rw [aqx h.wT (by omega)];simp only [aw,Bool.not_true,cond_false,bne_self_eq_false];have hn:=h.Cp;have hs:=h.pt
 have eY:∀(r m i:Nat),i+r=t.2.2.2.1.length→r<m→(rD m).eY (i:Int) t t=some (true,()):=by
  intro r
  induction r with
  | zero=>intro m i hi hm;obtain ⟨m,rfl,_⟩:=fuel (show 0<m by omega);rw [abS];unfold HG;rw [cA (by omega)];rfl
  | succ r ih=>
   intro m i hi hm;obtain ⟨m,rfl,_⟩:=fuel (show 0<m by omega);have bm:i<t.2.2.2.1.length:=by omega
   rw [abS];unfold HG;rw [b9 bm,bu bm,cT (a:=(i:Int)+1) (by omega) (by omega)];simp only [cond_true,aw,beq_self_eq_true,Ad,Bool.and_self,Bool.not_true,cond_false];exact ih m (i+1) (by omega) (by omega)
 have bg:∀(r m i:Nat),i+r=t.2.2.1.length→r+100<m→(rD m).bg (i:Int) t t=some (true,()):=by
  intro r
  induction r with
  | zero=>intro m i hi hm;obtain ⟨m,rfl,_⟩:=fuel (show 0<m by omega);rw [abR];unfold HF;rw [cA (by omega)];exact eY t.2.2.2.1.length m 0 (by omega) (by omega)
  | succ r ih=>
   intro m i hi hm;obtain ⟨m,rfl,_⟩:=fuel (show 0<m by omega);have bm:i<t.2.2.1.length:=by omega
   rw [abR];unfold HF;rw [b9 bm,bu bm,cT (a:=(i:Int)+1) (by omega) (by omega)];simp only [cond_true,aw,beq_self_eq_true,Ad,Bool.and_self,Bool.not_true,cond_false];exact ih m (i+1) (by omega) (by omega)
 exact bg t.2.2.1.length aN 0 (by omega) (by rw [jM];omega)
theorem Ry(f:Nat→Int)(a B:Int)(ha:a≤B):∀n,(∀i,i<n→f i≤B)→gE f a n≤B
 | 0,_=>ha
 | n+1,h=>by
  have h1:=Ry f a B ha n fun i hi=>h i (by omega)
  have h2:=h n (by omega);rw [gE];unfold fr;split <;> omega
theorem aqM{t:c2}{B:Int}(h0:0≤B)(h1:∀n,n∈t.2.2.1→k9 n≤B)(h2:∀s,s∈t.2.2.2.1→Jg s≤B):k8 t≤B:=
 Ry _ _ B (Ry _ _ B h0 _ fun i hi=>h1 _ (cR hi)) _ fun i hi=>h2 _ (cR hi)
theorem aqN(l:List bt.D)(c:Int)(s:bt.D)(hs:fY s=c):k6 (i_ l c s) c=s:=by
 have hle:=wQ l c;have b2:=abx l c
 have cB:dw (i_ l c s) c=dw l c∧dw l c<(i_ l c s).length∧I bt (i_ l c s) (dw l c)=s:=by
  unfold i_
  cases hb:hg l c with
  | true=>
   obtain ⟨g1,g2⟩:=Rr.1 hb;simp only [cond_true];refine⟨?_,by rw [List.length_set];exact g1,aft g1⟩;have e:l.set (dw l c) s=l.take (dw l c)++s :: l.drop (dw l c+1):=by rw [List.set_eq_take_append_cons_drop,if_pos g1]
   rw [e];show((l.take (dw l c)++s :: l.drop (dw l c+1)).takeWhile fun s=>decide (s.1<c)).length=_
   rw [List.takeWhile_append_of_pos (fun x hx=>decide_eq_true (show x.1<c from b2 x hx)),List.takeWhile_cons,if_neg (by
    rw [decide_eq_true_eq];intro h;have:fY s<c:=h
    omega),List.append_nil,List.length_take]
   omega
  | false=>
   simp only [cond_false];refine⟨?_,by simp only [List.length_append,List.length_take,List.length_singleton,List.length_drop];omega,?_⟩
   ·show((l.take (dw l c)++[s]++l.drop (dw l c)).takeWhile fun s=>decide (s.1<c)).length=_
    rw [List.append_assoc,List.takeWhile_append_of_pos (fun x hx=>decide_eq_true (show x.1<c from b2 x hx)),List.singleton_append,List.takeWhile_cons,if_neg (by
     rw [decide_eq_true_eq];intro h;have:fY s<c:=h
     omega),List.append_nil,List.length_take]
    omega
   ·rw [c0 (by simp only [List.length_append,List.length_take,List.length_singleton,List.length_drop];omega),List.getElem_append_left (by simp only [List.length_append,List.length_take,List.length_singleton];omega),List.getElem_append_right (by rw [List.length_take];omega)];simp
 obtain ⟨a1,a2,a3⟩:=cB;unfold k6 hg;rw [a1,a3,decide_eq_true a2,show(s.1==c)=true from cr hs];rfl
theorem abU{t:c2}(c bC:Int)(x:aG.D)(index:Int)(ht:e5 t=true):∃cq r b,vv (t,c,bC,x,index,())=some (cq,r,b,())∧pr t c bC x index cq r b:=by obtain ⟨cq,r,b,_,h,_,_,h1,_⟩:=abr t c bC x index (Rw ht).cost;exact⟨cq,r,b,h,h1 ht⟩
theorem aoN(a:List Int):Wm (a,())=some (true,()):=by
 obtain ⟨q,hq,_⟩:=iS 1;show HI (tg aN) a=_;unfold HI;rw [aqu];simp only [aw];by_cases ha:(a.length:Int)>1048576
 ·rw [decide_eq_true ha];rfl
 rw [decide_eq_false ha];simp only [cond_false];obtain ⟨t,c,bC,x,index,ah,jU⟩:=aqE a (by omega);rw [ah];simp only [aw];obtain ⟨y,r,b,hs,hi,_,_,h1,h0⟩:=abr t c bC x index jU.cost;rw [hs,hi,Rb t jU.cost];simp only [aw];rw [show(!(b==b))=false from by cases b <;> rfl];simp only [cond_false]
 cases wK:e5 t with
 | false=>rw [(h0 wK).2.2];rfl
 | true=>
 have Rz:=h1 wK;clear h1 h0 hs hi
 cases b with
 | false=>
  simp only [Bool.not_false,cond_true,Bool.not_true,cond_false];have:y=t:=by cases Rz <;> rfl
  rw [this,abT jU];rfl
 | true=>
  have Cq:=Rz.ok wK;have abV:=Rw Cq;simp only [Bool.not_true,cond_false];rw [Rb y abV.cost,Cq]
  obtain ⟨hn,arI,t1,hr,aT⟩:mq t c bC index=true∧bC=lO t c+1∧∃t1,iA t c x t1 r∧y=nj (gO t1 c bC index x r) c bC index r:=by
   cases Rz with
   | zd h h1 t1 _ hr=>exact⟨h,h1,t1,hr,rfl⟩
  obtain ⟨e8,jG,ze,zf⟩:=Rn.1 hn;have gM:k6 y.2.2.2.1 c=(c,bC,index,r,()):=by rw [aT];exact aqN _ c (c,bC,index,r,()) rfl
  have Jj:lO y c=bC:=by unfold lO;rw [gM]
  obtain ⟨ea,e7,fF,hy⟩:=Rm t1 c bC index x r;obtain ⟨k1,k2,k3⟩:=hr.kept wK;have RA:y.2.2.1=(gO t1 c bC index x r).2.2.1:=by rw [aT];rfl
  have aqO:y.2.1=(gO t1 c bC index x r).2.1:=by rw [aT];rfl
  have aqP:y.2.2.2.1=i_ (gO t1 c bC index x r).2.2.2.1 c (c,bC,index,r,()):=by rw [aT];rfl
  have aqQ:∀n,n∈y.2.2.1→k9 n≤index:=by
   have qW:∀n,n∈t1.2.2.1→k9 n≤index:=by
    intro n hn;rcases k3 with e | ⟨e,_⟩
    ·rw [e] at hn;obtain ⟨i,hi,rfl⟩:=fb hn;exact Int.le_trans (abu t hi) zf
    ·rw [e] at hn;simp at hn
   intro n hn;rw [RA] at hn;rcases hy with e | ⟨e,_,_⟩
   ·rw [e] at hn;exact qW n hn
   ·rw [e] at hn;rcases List.mem_append.1 hn with hn | hn
    ·exact qW n hn
    ·rw [List.mem_singleton.1 hn];exact Int.le_refl _
  have aqR:∀s,s∈y.2.2.2.1→Jg s≤index:=by
   intro s hs;rw [aqP] at hs;rcases Rj hs with hs | rfl
   ·rw [fF,hr.pt] at hs;obtain ⟨i,hi,rfl⟩:=fb hs;exact Int.le_trans (ap8 t hi) zf
   ·exact Int.le_refl _
  have hnew:k8 y≤index:=aqM (by omega) aqQ aqR;have aqS:mq y c bC index=true:=Rn.2 ⟨e8,jG,ze,hnew⟩;obtain ⟨z,cU,iI,hz,aqT⟩:=abU c bC x index Cq
  have aqU:z=y∧cU=r∧iI=false:=by
   cases aqT with
   | off h=>rw [aqS] at h;cases h
   | again h hs=>exact⟨rfl,by rw [gM],rfl⟩
   | late h hs=>exact absurd Jj.symm hs
   | zd h h1=>rw [Jj] at h1;omega
  obtain ⟨rfl,rfl,rfl⟩:=aqU;obtain ⟨u,eF,pD,hu,aqV⟩:=abU c (bC-1) x index Cq
  have eu:u=z∧eF=(0,[],())∧pD=false:=by
   cases aqV with
   | off h=>exact⟨rfl,rfl,rfl⟩
   | again h hs=>rw [Jj] at hs;omega
   | late h hs=>exact⟨rfl,rfl,rfl⟩
   | zd h h1=>rw [Jj] at h1;omega
  obtain ⟨rfl,rfl,rfl⟩:=eu;rw [cT (a:=bC-1) (by omega) (by omega),hz,hu];simp only [aw,Bool.not_true,cond_false,beq_self_eq_true,Ad,Bool.and_self];rw [abT abV];simp only [aw,Bool.not_true,cond_false]
  have abW:(aD x=22→Cn cU≠0)→tg aN 0 t u=some (true,()):=by
   intro bP
   have e1:t1.2.2.1=t.2.2.1:=by
    rcases k3 with e | ⟨_,e,gr⟩
    ·exact e
    ·exact absurd gr (bP e)
   have hpre:∃L,u.2.2.1=t.2.2.1++L∧L.length≤1:=by
    rw [RA];rcases hy with e | ⟨e,_,_⟩
    ·exact⟨[],by rw [e,e1,List.append_nil],by simp⟩
    ·exact⟨_,by rw [e,e1],by simp⟩
   obtain ⟨L,xY,arJ⟩:=hpre;have dB:=rZ (iZ wK).2.2.1;have pG:=rZ (iZ Cq).2.2.1
   have key:∀(r m i:Nat),i+r=t.2.2.1.length→r<m→tg m (i:Int) t u=some (true,()):=by
    intro r
    induction r with
    | zero=>
     intro m i hi hm;obtain ⟨m,rfl,_⟩:=fuel (show 0<m by omega);show yx (tg m) (i:Int) t u=_;unfold yx;have hlen:u.2.2.1.length=t.2.2.1.length+L.length:=by rw [xY,List.length_append]
     rw [cA (by omega),cT (a:=(t.2.2.1.length:Int)+1) (by omega) (by omega),decide_eq_true (by omega),decide_eq_true (show(u.2.2.1.length:Int)≤20 by omega),decide_eq_true (show u.2.1≤t.2.1 from by rw [aqO,e7];exact k2.2)];rfl
    | succ r ih=>
     intro m i hi hm;obtain ⟨m,rfl,_⟩:=fuel (show 0<m by omega);have bm:i<t.2.2.1.length:=by omega
     have abX:i<u.2.2.1.length:=by rw [xY,List.length_append];omega
     show yx (tg m) (i:Int) t u=_;unfold yx;rw [b9 bm,bu bm,bu abX,cT (a:=(i:Int)+1) (by omega) (by omega)];have aqW:I aO u.2.2.1 i=I aO t.2.2.1 i:=by rw [c0 abX,c0 bm];simp only [xY];exact List.getElem_append_left bm
     simp only [cond_true,aw,Nat.zero_add];rw [aqW];simp only [beq_self_eq_true,Bool.and_self,Bool.not_true,cond_false];exact ih m (i+1) (by omega) (by omega)
   exact key t.2.2.1.length aN 0 (by omega) (by rw [jM];omega)
  by_cases ni:aD x=22
  case neg=>rw [show(x.1==22)=false from bX ni];exact abW fun h=>absurd h ni
  rw [show(x.1==22)=true from cr ni];simp only [cond_true];by_cases jl:Cn cU=0
  case neg=>rw [show(cU.1==0)=false from bX jl];exact abW fun _=>jl
  rw [show(cU.1==0)=true from cr jl];simp only [cond_true]
  have nt:u.2.2.1=[]:=by
   have bP:notes t1 x cU=false:=by unfold notes;rw [show(aD x==22)=true from cr ni,show(cU.1==0)=true from cr jl];cases decide (t1.2.2.1.length<20) <;> cases gj x <;> cases iY (aD x) <;> cases (cU.1 != 0) <;> rfl
   have qW:t1.2.2.1=[]:=by
    cases hr with
    | zb=>rfl
    | bad=>exact absurd jl (by decide)
    | za=>exact absurd jl (by decide)
    | perm=>exact absurd jl (by decide)
    | neg=>exact absurd jl (by decide)
    | told _ _ hk=>omega
    | full=>exact absurd jl (by decide)
    | zc _ _ hk=>omega
   rw [RA];rcases hy with e | ⟨_,_,e⟩
   ·rw [e];exact qW
   ·rw [bP] at e;cases e
  rw [nt];rfl
end Go.LM.kO
