/- Tenants and frames: both sides come to the same; the law. Conditions: each theorem's own hypotheses. -/
import Derived.Test.YtlkbjdmfbadhaaaGreatDoorUVe
import Derived.Test.YtlkbjdmfbadhaaaGreatDoorUVp
set_option linter.unusedVariables false
set_option linter.unusedSimpArgs false
namespace Go.LM.j7
def ug(r:an.D):Bool:=ct r.1 0 200&&decide ((r.2.1.length:Int)≤400)
def uh(l:List a6.D)(i:Nat):Bool:=
 ct (I a6 l i).1 1 100000 && !(decide (0<i)&&decide ((I a6 l (i-1)).1 >(I a6 l i).1))&&ct (I a6 l i).2.1 1 3&&ct (I a6 l i).2.2.1 1 1000000&&ct (I a6 l i).2.2.2.1 1 22&&ct (I a6 l i).2.2.2.2.1 0 200
def hd(l:List a6.D):Bool:=fo l.length (uh l)&&decide ((l.length:Int)≤20)
theorem arx(l:List a6.D):N5 (l,())=some (hd l,()):=by
 show GA (vW aM) l=_;unfold GA hd;by_cases hl:(l.length:Int)≤20
 case neg=>rw [decide_eq_true (by omega),decide_eq_false hl,Bool.and_false];rfl
 rw [decide_eq_false (by omega),decide_eq_true hl];simp only [cond_false];refine tM l.length (by omega) (uh l) true (fun m i=>vW m l i) ?_ ?_
 ·intro m _;simp only [vW,GB];rw [cw (Nat.le_refl _)];rfl
 ·intro m i hi _ hw;simp only [vW,GB,hw];rw [b1 hi,br hi];simp only [cond_true,al,ka,uh,wV,ml,cond_false,Bool.false_and]
  cases i with
  | zero=>simp only [BQ,Nat.lt_irrefl,decide_false,cond_false,cond_true]
  | succ i=>rw [BP hi (by omega)];simp only [BR,Nat.zero_lt_succ,decide_true,cond_true,al,Nat.add_sub_cancel]
theorem ary(l:List a6.D)(hl:l.length≤1048576):ME (l,())=some (hd l,()):=by
 show EA (vm aM) l=_;unfold EA hd;refine tM l.length (by omega) (uh l) _ (fun m i=>vm m l l (l.length:Int) i) ?_ ?_
 ·intro m _;simp only [vm,EB];rw [cw (Nat.le_refl _)];rfl
 ·intro m i hi _ hw;simp only [vm,EB,hw];rw [b1 hi,br hi];simp only [cond_true,al,jx,uh,wV,ml,cond_false,Bool.false_and]
  cases i with
  | zero=>simp only [BQ,Nat.lt_irrefl,decide_false,cond_false,cond_true]
  | succ i=>rw [BP hi (by omega)];simp only [BR,Nat.zero_lt_succ,decide_true,cond_true,al,Nat.add_sub_cancel]
abbrev c_:Type:=aY.D
def nx(l:List bP.D)(i:Nat):Bool:=
 ct (I bP l i).1 1 3 && !(decide (0<i)&&decide ((I bP l (i-1)).1≥(I bP l i).1))&&ct (I bP l i).2.1 1 1000000&&ct (I bP l i).2.2.1 1 100000&&ug (I bP l i).2.2.2.1
def fD(t:c_):Bool:=fo t.2.2.2.1.length (nx t.2.2.2.1)&&(ct t.2.1 0 30&&(hd t.2.2.1&&k4 t.1))
theorem acp{l:List bP.D}(h:fo l.length (nx l)=true):l.length≤3:=by
 have h:=gZ.1 h
 have key:∀i,i<l.length→(i:Int)+1≤(I bP l i).1:=by
  intro i
  induction i with
  | zero=>intro hi;have:=h 0 hi;unfold nx at this;simp only [Bool.and_eq_true,cR] at this;have:=this.1.1.1.1.1;omega
  | succ i ih=>
   intro hi;have h1:=ih (by omega);have:=h (i+1) hi;unfold nx at this;simp only [Bool.and_eq_true,Bool.not_eq_true',Bool.and_eq_false_iff,decide_eq_false_iff_not] at this;have h2:=this.1.1.1.2;rcases h2 with h2 | h2
   ·omega
   ·rw [Nat.add_sub_cancel] at h2;have h2:(I bP l i).1<(I bP l (i+1)).1:=Int.not_le.1 h2;exact(by intro a b h1 h2;omega:∀a b:Int,(i:Int)+1≤a→a<b→((i+1:Nat):Int)+1≤b) _ _ h1 h2
 rcases Nat.lt_or_ge 3 l.length with h3 | h3
 ·have h4:=key 3 h3;have:=h 3 h3;unfold nx at this;simp only [Bool.and_eq_true,cR] at this;have:=this.1.1.1.1.2;omega
 ·exact h3
theorem arz(t:c_):ad.cost aY t=ad.cost ah t.1 +(ad.cost (.sl a6) t.2.2.1+ad.cost (.sl bP) t.2.2.2.1):=by simp only [nj,nk,nm,nn,Nat.zero_add,Nat.add_zero]
def mr(k:Int):aK.D:=if k=1 then(0,0,([]:List Int),()) else if k=2 then(2,2,[5],()) else if k=3 then(3,2,([]:List Int),()) else(1000,1000,([]:List Int),())
theorem arA(k:Int):MV (k,())=some (mr k,()):=by
 show MU k=_;unfold MU mr;by_cases h1:k=1
 ·rw [cK h1,if_pos h1];rfl
 by_cases h2:k=2
 ·rw [bY h1,if_neg h1,cK h2,if_pos h2];rfl
 by_cases h3:k=3
 ·rw [bY h1,if_neg h1,bY h2,if_neg h2,cK h3,if_pos h3];rfl
 ·rw [bY h1,if_neg h1,bY h2,if_neg h2,bY h3,if_neg h3];rfl
theorem arB(k:Int):Oa (k,())=some (mr k,()):=by
 show N' k=_;unfold N' mr;by_cases h1:k=1
 ·rw [cK h1,if_pos h1];rfl
 by_cases h2:k=2
 ·rw [bY h1,if_neg h1,cK h2,if_pos h2];rfl
 by_cases h3:k=3
 ·rw [bY h1,if_neg h1,bY h2,if_neg h2,cK h3,if_pos h3];rfl
 ·rw [bY h1,if_neg h1,bY h2,if_neg h2,bY h3,if_neg h3];rfl
def eA(l:List bP.D)(c:Int):Nat:=(l.takeWhile fun s=>decide (s.1<c)).length
def hS(l:List bP.D)(c:Int):Bool:=decide (eA l c<l.length)&&(I bP l (eA l c)).1==c
theorem zC(l:List bP.D)(c:Int):eA l c≤l.length:=by unfold eA;exact(List.takeWhile_sublist _).length_le
theorem JJ{α : Type}(p : α → Bool):∀(l:List α) (i:Nat) (h:i<l.length),i≤(l.takeWhile p).length→(p l[i]=true→i+1≤(l.takeWhile p).length)∧(p l[i]=false→(l.takeWhile p).length=i)
 | [],i,h,_=>by simp at h
 | y :: l,0,h,hi=>by
  constructor
  ·intro aw;have aw:p y=true:=aw;rw [List.takeWhile_cons,aw];simp
  ·intro aw;have aw:p y=false:=aw;rw [List.takeWhile_cons,aw];simp
 | y :: l,i+1,h,hi=>by
  by_cases aR:p y=true
  ·rw [List.takeWhile_cons,if_pos aR] at hi ⊢;rw [List.length_cons] at hi ⊢;have h1:=JJ p l i (by rw [List.length_cons] at h;omega) (by omega);constructor
   ·intro aw;have:=h1.1 aw;omega
   ·intro aw;have:=h1.2 aw;omega
  ·rw [List.takeWhile_cons,if_neg aR] at hi;simp at hi
theorem acq(t:c_)(c:Int)(hl:t.2.2.2.1.length≤1048576):GD (t,c,())=some ((eA t.2.2.2.1 c:Int),hS t.2.2.2.1 c,()):=by
 have key:∀(r m i:Nat),i+r=t.2.2.2.1.length→i≤eA t.2.2.2.1 c→r<m→yD m c (i:Int) t=some ((eA t.2.2.2.1 c:Int),hS t.2.2.2.1 c,()):=by
  intro r
  induction r with
  | zero=>
   intro m i hi hs hm;obtain ⟨m,rfl,_⟩:=fuel (show 0<m by omega);have h1:=zC t.2.2.2.1 c;have e:eA t.2.2.2.1 c=t.2.2.2.1.length:=by omega
   show yC (yD m) c (i:Int) t=_;unfold yC;rw [cw (by omega)];unfold hS;rw [e,decide_eq_false (by omega)];rfl
  | succ r ih=>
   intro m i hi hs hm;obtain ⟨m,rfl,_⟩:=fuel (show 0<m by omega);have bj:i<t.2.2.2.1.length:=by omega
   show yC (yD m) c (i:Int) t=_;unfold yC;rw [b1 bj,br bj];simp only [cond_true,al];have hst:=JJ (fun s:bP.D=>decide (s.1<c)) t.2.2.2.1 i bj hs;rw [← c2 (t:=bP) bj] at hst;by_cases bO:(I bP t.2.2.2.1 i).1<c
   ·rw [show decide ((I bP t.2.2.2.1 i).1≥c)=false from decide_eq_false (Int.not_le.2 bO)];simp only [cond_false];rw [cG (a:=(i:Int)+1) (by omega) (by omega)];exact ih m (i+1) (by omega) (hst.1 (decide_eq_true bO)) (by omega)
   ·rw [show decide ((I bP t.2.2.2.1 i).1≥c)=true from decide_eq_true (Int.not_lt.1 bO)];simp only [cond_true];have e:eA t.2.2.2.1 c=i:=hst.2 (decide_eq_false bO);unfold hS;rw [e,decide_eq_true bj,Bool.true_and]
 exact key t.2.2.2.1.length aM 0 (by omega) (Nat.zero_le _) (by rw [hP];omega)
theorem acr(t:c_)(c:Int)(hl:t.2.2.2.1.length≤1048576):E6 (t,c,())=some ((eA t.2.2.2.1 c:Int),hS t.2.2.2.1 c,()):=by
 have key:∀(r m i:Nat),i+r=t.2.2.2.1.length→i≤eA t.2.2.2.1 c→r<m→yu m t c (i:Int)=some ((eA t.2.2.2.1 c:Int),hS t.2.2.2.1 c,()):=by
  intro r
  induction r with
  | zero=>
   intro m i hi hs hm;obtain ⟨m,rfl,_⟩:=fuel (show 0<m by omega);have h1:=zC t.2.2.2.1 c;have e:eA t.2.2.2.1 c=i:=by omega
   show yt (yu m) t c (i:Int)=_;unfold yt;rw [cw (by omega)];unfold hS;rw [e,decide_eq_false (by omega)];rfl
  | succ r ih=>
   intro m i hi hs hm;obtain ⟨m,rfl,_⟩:=fuel (show 0<m by omega);have bj:i<t.2.2.2.1.length:=by omega
   show yt (yu m) t c (i:Int)=_;unfold yt;rw [b1 bj,br bj];simp only [cond_true,al];have hst:=JJ (fun s:bP.D=>decide (s.1<c)) t.2.2.2.1 i bj hs;rw [← c2 (t:=bP) bj] at hst;by_cases bO:(I bP t.2.2.2.1 i).1<c
   ·rw [decide_eq_true bO];simp only [cond_true];rw [cG (a:=(i:Int)+1) (by omega) (by omega)];exact ih m (i+1) (by omega) (hst.1 (decide_eq_true bO)) (by omega)
   ·rw [decide_eq_false bO];simp only [cond_false];have e:eA t.2.2.2.1 c=i:=hst.2 (decide_eq_false bO);unfold hS;rw [e,decide_eq_true bj,Bool.true_and]
 exact key t.2.2.2.1.length aM 0 (by omega) (Nat.zero_le _) (by rw [hP];omega)
def ow(l:List bP.D)(c:Int):bP.D:=cond (hS l c) (I bP l (eA l c)) (0,0,0,(0,([]:aj),()),())
theorem xe{l:List bP.D}{c:Int}(h:hS l c=true):eA l c<l.length:=by unfold hS at h;rw [Bool.and_eq_true,decide_eq_true_eq] at h;exact h.1
theorem arC(t:c_)(c:Int)(hl:t.2.2.2.1.length≤1048576):MO (t,c,())=some (ow t.2.2.2.1 c,()):=by
 show MN t c=_;unfold MN ow;rw [acr t c hl];simp only [al]
 cases h:hS t.2.2.2.1 c with
 | false=>rfl
 | true=>rw [br (xe h)];rfl
theorem arD(t:c_)(c:Int)(hl:t.2.2.2.1.length≤1048576):N7 (t,c,())=some (ow t.2.2.2.1 c,()):=by
 show N6 t c=_;unfold N6 ow;rw [acq t c hl];simp only [al]
 cases h:hS t.2.2.2.1 c with
 | false=>rfl
 | true=>rw [br (xe h)];rfl
def fH(a b:Int):Int:=if b>a then b else a
def hT(f:Nat→Int)(a:Int):Nat→Int
 | 0=>a
 | n+1=>fH (hT f a n) (f n)
theorem arE{x a b:Int} : x<fH a b↔x<a∨x<b:=by unfold fH;split <;> omega
theorem R1{x a:Int}{f:Nat→Int} : ∀n,x<hT f a n↔x<a∨∃i,i<n∧x<f i
 | 0=>by simp [hT]
 | n+1=>by
  rw [hT,arE,R1 n];constructor
  ·rintro ((h | ⟨i,hi,h⟩) | h)
   ·exact .inl h
   ·exact .inr ⟨i,by omega,h⟩
   ·exact .inr ⟨n,by omega,h⟩
  ·rintro (h | ⟨i,hi,h⟩)
   ·exact .inl (.inl h)
   ·by_cases e:i=n
    ·subst e;exact .inr h
    ·exact .inl (.inr ⟨i,by omega,h⟩)
def la(l:List a6.D)(i:Nat):Int:=(I a6 l i).1
def mu(l:List bP.D)(i:Nat):Int:=(I bP l i).2.2.1
def ox(t:c_):Int:=hT (mu t.2.2.2.1) (hT (la t.2.2.1) 0 t.2.2.1.length) t.2.2.2.1.length
theorem acs(m:Nat)(a b t):(n9 (m+1)).k3 a b t=GF (n9 m) a b t:=rfl
theorem acu(m:Nat)(a b t):(n9 (m+1)).cV a b t=GG (n9 m) a b t:=rfl
theorem arF(t:c_)(hn:t.2.2.1.length≤1048576)(hl:t.2.2.2.1.length≤1048576):N8 (t,())=some (ox t,()):=by
 have cV:∀(r m i:Nat) (a:Int),i+r=t.2.2.2.1.length→r<m→(n9 m).cV (hT (mu t.2.2.2.1) a i) (i:Int) t=some (hT (mu t.2.2.2.1) a t.2.2.2.1.length,()):=by
  intro r
  induction r with
  | zero=>intro m i a hi hm;obtain ⟨m,rfl,_⟩:=fuel (show 0<m by omega);rw [acu];unfold GG;rw [cw (by omega),show i=t.2.2.2.1.length by omega];rfl
  | succ r ih=>
   intro m i a hi hm;obtain ⟨m,rfl,_⟩:=fuel (show 0<m by omega);have bj:i<t.2.2.2.1.length:=by omega
   rw [acu];unfold GG;rw [b1 bj,br bj,cG (a:=(i:Int)+1) (by omega) (by omega)];simp only [cond_true,al];have:=ih m (i+1) a (by omega) (by omega);rw [hT,fH] at this;show cond (decide (mu t.2.2.2.1 i>hT (mu t.2.2.2.1) a i)) ((n9 m).cV (mu t.2.2.2.1 i) ((i:Int)+1) t) ((n9 m).cV (hT (mu t.2.2.2.1) a i) ((i:Int)+1) t)=_;by_cases h:mu t.2.2.2.1 i>hT (mu t.2.2.2.1) a i
   ·rw [if_pos h] at this;rw [decide_eq_true h];exact this
   ·rw [if_neg h] at this;rw [decide_eq_false h];exact this
 have k3:∀(r m i:Nat),i+r=t.2.2.1.length→r+t.2.2.2.1.length+1<m→(n9 m).k3 (hT (la t.2.2.1) 0 i) (i:Int) t=some (ox t,()):=by
  intro r
  induction r with
  | zero=>intro m i hi hm;obtain ⟨m,rfl,_⟩:=fuel (show 0<m by omega);rw [acs];unfold GF;rw [cw (by omega),show i=t.2.2.1.length by omega];exact cV t.2.2.2.1.length m 0 _ (by omega) (by omega)
  | succ r ih=>
   intro m i hi hm;obtain ⟨m,rfl,_⟩:=fuel (show 0<m by omega);have bj:i<t.2.2.1.length:=by omega
   rw [acs];unfold GF;rw [b1 bj,br bj,cG (a:=(i:Int)+1) (by omega) (by omega)];simp only [cond_true,al];have:=ih m (i+1) (by omega) (by omega);rw [hT,fH] at this;show cond (decide (la t.2.2.1 i>hT (la t.2.2.1) 0 i)) ((n9 m).k3 (la t.2.2.1 i) ((i:Int)+1) t) ((n9 m).k3 (hT (la t.2.2.1) 0 i) ((i:Int)+1) t)=_;by_cases h:la t.2.2.1 i>hT (la t.2.2.1) 0 i
   ·rw [if_pos h] at this;rw [decide_eq_true h];exact this
   ·rw [if_neg h] at this;rw [decide_eq_false h];exact this
 exact k3 t.2.2.1.length aM 0 (by omega) (by rw [hP];omega)
theorem acv(m:Nat)(a b d e f):(td (m+1)).k2 a b d e f=E3 (td m) a b d e f:=rfl
theorem acw(m:Nat)(a b d e):(td (m+1)).cV a b d e=E4 (td m) a b d e:=rfl
theorem arG(t:c_)(x:Int)(hx:0≤x)(hn:t.2.2.1.length≤1048576)(hl:t.2.2.2.1.length≤1048576):MM (t,x,())=some (decide (x<ox t),()):=by
 have hnew:x<ox t↔(∃i,i<t.2.2.1.length∧x<la t.2.2.1 i)∨∃i,i<t.2.2.2.1.length∧x<mu t.2.2.2.1 i:=by
  unfold ox;rw [R1,R1];constructor
  ·rintro ((h | h) | h)
   ·omega
   ·exact .inl h
   ·exact .inr h
  ·rintro (h | h)
   ·exact .inl (.inr h)
   ·exact .inr h
 have cV:∀(r m i:Nat),i+r=t.2.2.2.1.length→r<m→(∀j,j<t.2.2.1.length→¬x<la t.2.2.1 j)→(∀j,j<i→¬x<mu t.2.2.2.1 j)→(td m).cV x t.2.2.2.1 (t.2.2.2.1.length:Int) (i:Int)=some (decide (x<ox t),()):=by
  intro r
  induction r with
  | zero=>
   intro m i hi hm h1 h2;obtain ⟨m,rfl,_⟩:=fuel (show 0<m by omega);rw [acw];unfold E4
   rw [cw (by omega),decide_eq_false (fun h=>by
    rcases hnew.1 h with⟨j,hj,h⟩ | ⟨j,hj,h⟩
    ·exact h1 j hj h
    ·exact h2 j (by omega) h)]
   rfl
  | succ r ih=>
   intro m i hi hm h1 h2;obtain ⟨m,rfl,_⟩:=fuel (show 0<m by omega);have bj:i<t.2.2.2.1.length:=by omega
   rw [acw];unfold E4;rw [b1 bj,br bj,cG (a:=(i:Int)+1) (by omega) (by omega)];simp only [cond_true,al];show cond (decide (x<mu t.2.2.2.1 i)) _ _=_;by_cases h:x<mu t.2.2.2.1 i
   ·rw [decide_eq_true h,decide_eq_true (hnew.2 (.inr ⟨i,bj,h⟩))];rfl
   ·rw [decide_eq_false h]
    exact ih m (i+1) (by omega) (by omega) h1 fun j hj=>by
     by_cases e:j=i
     ·subst e;exact h
     ·exact h2 j (by omega)
 have k2:∀(r m i:Nat),i+r=t.2.2.1.length→r+t.2.2.2.1.length+1<m→(∀j,j<i→¬x<la t.2.2.1 j)→(td m).k2 t x t.2.2.1 (t.2.2.1.length:Int) (i:Int)=some (decide (x<ox t),()):=by
  intro r
  induction r with
  | zero=>intro m i hi hm h1;obtain ⟨m,rfl,_⟩:=fuel (show 0<m by omega);rw [acv];unfold E3;rw [cw (by omega)];exact cV t.2.2.2.1.length m 0 (by omega) (by omega) (fun j hj=>h1 j (by omega)) (fun j hj=>by omega)
  | succ r ih=>
   intro m i hi hm h1;obtain ⟨m,rfl,_⟩:=fuel (show 0<m by omega);have bj:i<t.2.2.1.length:=by omega
   rw [acv];unfold E3;rw [b1 bj,br bj,cG (a:=(i:Int)+1) (by omega) (by omega)];simp only [cond_true,al];show cond (decide (x<la t.2.2.1 i)) _ _=_;by_cases h:x<la t.2.2.1 i
   ·rw [decide_eq_true h,decide_eq_true (hnew.2 (.inl ⟨i,bj,h⟩))];rfl
   ·rw [decide_eq_false h]
    exact ih m (i+1) (by omega) (by omega) fun j hj=>by
     by_cases e:j=i
     ·subst e;exact h
     ·exact h1 j (by omega)
 exact k2 t.2.2.1.length aM 0 (by omega) (by rw [hP];omega) (fun j hj=>by omega)
def jE(a:Int):Bool:=a==4||(a==11||(a==13||(a==14||(a==17||(a==18||(a==20||a==21))))))
theorem JK(a:Int):Ba (a,())=some (jE a,()):=by show N_ a=_;unfold N_ jE;cases a==4 <;> cases a==11 <;> cases a==13 <;> cases a==14 <;> cases a==17 <;> cases a==18 <;> cases a==20 <;> cases a==21 <;> rfl
theorem R2(a:Int):AS (a,())=some (jE a,()):=JK a
theorem arH{a:Int}(h:jE a=true):ct a 1 22=true:=by unfold jE at h;simp only [Bool.or_eq_true,beq_iff_eq] at h;rw [cR];omega
def mv(a:Int):Int:=cond (ct a 1 22) (cond (jE a) 1 3) 0
theorem arI(a:Int):MR (a,())=some (mv a,()):=by show MQ a=_;unfold MQ mv;rw [jx,R2];simp only [al];cases ct a 1 22 <;> cases jE a <;> rfl
theorem arJ(a:Int):Oc (a,())=some (mv a,()):=by
 show Ob a=_;unfold Ob mv;rw [ka,JK];simp only [al]
 cases h:jE a with
 | true=>rw [arH h];rfl
 | false=>cases ct a 1 22 <;> rfl
theorem R3(a:Int):0≤mv a∧mv a≤3:=by unfold mv;cases ct a 1 22 <;> cases jE a <;> simp
def lO(n k:Int):Int×Bool:=if mv k=0∨mv k>n then(n,false) else(n-mv k,true)
theorem arK(n k:Int)(hn:n≤30):MT (n,k,())=some ((lO n k).1,(lO n k).2,()):=by
 show MS n k=_;unfold MS lO;rw [arI];simp only [al];have hc:=R3 k;by_cases h0:mv k=0
 ·rw [cK h0,if_pos (.inl h0)];rfl
 rw [bY h0];by_cases h1:mv k>n
 ·rw [decide_eq_true h1,if_pos (.inr h1)];rfl
 ·rw [decide_eq_false h1,if_neg (by omega),cG (by omega) (by omega)];rfl
theorem arL(n k:Int)(hn:n≤30):Oe (n,k,())=some ((lO n k).1,(lO n k).2,()):=by
 show Od n k=_;unfold Od lO;rw [arJ];simp only [al];have hc:=R3 k;by_cases h0:mv k=0
 ·rw [cK h0,if_pos (.inl h0)];rfl
 rw [bY h0];by_cases h1:mv k>n
 ·rw [decide_eq_true h1,if_pos (.inr h1)];rfl
 ·rw [decide_eq_false h1,if_neg (by omega),cG (by omega) (by omega)];rfl
def ny(n:a6.D):Int:=n.1
def pF(n:a6.D):Int:=n.2.1
def pG(n:a6.D):Int:=n.2.2.1
def pH(n:a6.D):Int:=n.2.2.2.1
def qO(n:a6.D):Int:=n.2.2.2.2.1
def R4(l:List a6.D)(i:Nat):aO:=ga (ny (I a6 l i))++[46]++ga (pF (I a6 l i))++[46]++ga (pG (I a6 l i))++[46]++ga (pH (I a6 l i))++[46]++ga (qO (I a6 l i))
structure acx(n:a6.D):Prop where
 a:1≤ny n∧ny n≤100000
 b:1≤pF n∧pF n≤3
 c:1≤pG n∧pG n≤1000000
 d:1≤pH n∧pH n≤22
 e:0≤qO n∧qO n≤200
theorem JL{l:List a6.D}(h:hd l=true){i:Nat}(hi:i<l.length):acx (I a6 l i):=by unfold hd at h;rw [Bool.and_eq_true] at h;have h1:=gZ.1 h.1 i hi;unfold uh at h1;simp only [Bool.and_eq_true,cR] at h1;exact⟨h1.1.1.1.1.1,h1.1.1.1.2,h1.1.1.2,h1.1.2,h1.2⟩
theorem arM{l:List a6.D}(h:hd l=true){i:Nat}(hi:i<l.length):(R4 l i).length≤104:=by have hr:=JL h hi;have d1:=(fJ (ny (I a6 l i)) (by have:=hr.a;omega)).1;have d2:=(fJ (pF (I a6 l i)) (by have:=hr.b;omega)).1;have d3:=(fJ (pG (I a6 l i)) (by have:=hr.c;omega)).1;have d4:=(fJ (pH (I a6 l i)) (by have:=hr.d;omega)).1;have d5:=(fJ (qO (I a6 l i)) (by have:=hr.e;omega)).1;unfold R4;simp only [List.length_append,List.length_cons,List.length_nil];omega
def se(l:List a6.D)(i:Nat)(o:aO):aO:=o++ga (ny (I a6 l i))++[46]++ga (pF (I a6 l i))++[46]++ga (pG (I a6 l i))++[46]++ga (pH (I a6 l i))++[46]++ga (qO (I a6 l i))
def ld(l:List a6.D)(a:Nat):Nat→Nat→aO→aO
 | 0,_,o=>o
 | r+1,i,o=>if i<l.length∧i<a+6 then ld l a r (i+1) (se l i (if a<i then o++[32] else o)) else o
theorem CC{l:List a6.D}(h:hd l=true){i:Nat}(hi:i<l.length)(o:aO):(se l i o).length≤o.length+104:=by have:=arM h hi;unfold R4 at this;unfold se;simp only [List.length_append,List.length_cons,List.length_nil] at this ⊢;omega
theorem acy(m:Nat)(a b d e):(qi (m+1)).bp a b d e=GM (qi m) a b d e:=rfl
theorem arN(m:Nat)(a b d e):(qi (m+1)).fV a b d e=Of (qi m) a b d e:=rfl
theorem acz{l:List a6.D}(h:hd l=true){i:Nat}(hi:i<l.length)(m:Nat)(a:Int)(o:aO)(ho:o.length≤10000)(hii:i<100):(qi (m+1)).fV l a o (i:Int)=(qi m).bp l a (se l i o) ((i:Int)+1):=by have hr:=JL h hi;have d1:=fJ (ny (I a6 l i)) (by have:=hr.a;omega);have d2:=fJ (pF (I a6 l i)) (by have:=hr.b;omega);have d3:=fJ (pG (I a6 l i)) (by have:=hr.c;omega);have d4:=fJ (pH (I a6 l i)) (by have:=hr.d;omega);have d5:=fJ (qO (I a6 l i)) (by have:=hr.e;omega);rw [arN];unfold Of;rw [br hi];simp only [al];rw [show e9 ((I a6 l i).1,())=some (ga (ny (I a6 l i)),()) from d1.2.1,show e9 ((I a6 l i).2.1,())=some (ga (pF (I a6 l i)),()) from d2.2.1,show e9 ((I a6 l i).2.2.1,())=some (ga (pG (I a6 l i)),()) from d3.2.1,show e9 ((I a6 l i).2.2.2.1,())=some (ga (pH (I a6 l i)),()) from d4.2.1,show e9 ((I a6 l i).2.2.2.2.1,())=some (ga (qO (I a6 l i)),()) from d5.2.1];simp only [al];have e1:=d1.1;have e2:=d2.1;have e3:=d3.1;have et:=d4.1;have kP:=d5.1;rw [b_ (by(try simp only [List.length_append,List.length_cons,List.length_nil]);omega),b_ (by(try simp only [List.length_append,List.length_cons,List.length_nil]);omega),b_ (by(try simp only [List.length_append,List.length_cons,List.length_nil]);omega),b_ (by(try simp only [List.length_append,List.length_cons,List.length_nil]);omega),b_ (by(try simp only [List.length_append,List.length_cons,List.length_nil]);omega),b_ (by(try simp only [List.length_append,List.length_cons,List.length_nil]);omega),b_ (by(try simp only [List.length_append,List.length_cons,List.length_nil]);omega),b_ (by(try simp only [List.length_append,List.length_cons,List.length_nil]);omega),b_ (by(try simp only [List.length_append,List.length_cons,List.length_nil]);omega),cG (by omega) (by omega)];rfl
theorem arO{l:List a6.D}(h:hd l=true)(hl:l.length≤20)(a:Nat)(ha:a≤1000000):∀(r m i:Nat) (o:aO),a≤i→i+r=a+6→2*r<m→o.length+105*r≤1000→(qi m).bp l (a:Int) o (i:Int)=some (ld l a r i o,()):=by
 intro r
 induction r with
 | zero=>intro m i o R5 hi hm ho;obtain ⟨m,rfl,_⟩:=fuel (show 0<m by omega);rw [acy];unfold GM;rw [cG (a:=(a:Int)+6) (by omega) (by omega),decide_eq_false (show ¬(i:Int)<(a:Int)+6 by omega)];cases decide ((i:Int)<(l.length:Int)) <;> rfl
 | succ r ih=>
  intro m i o R5 hi hm ho;obtain ⟨m,rfl,_⟩:=fuel (show 0<m by omega);obtain ⟨m,rfl,_⟩:=fuel (show 0<m by omega);rw [acy];unfold GM;rw [cG (a:=(a:Int)+6) (by omega) (by omega),decide_eq_true (show(i:Int)<(a:Int)+6 by omega),ld];by_cases bj:i<l.length
  ·rw [b1 bj,if_pos ⟨bj,by omega⟩];simp only [cond_true];by_cases bO:a<i
   ·rw [decide_eq_true (show(i:Int) >(a:Int) by omega),if_pos bO,b_ (by simp only [List.length_cons,List.length_nil];omega)];simp only [cond_true];have aw:=CC h bj (o++[32]);rw [List.length_append,List.length_cons,List.length_nil] at aw;rw [acz h bj m _ _ (by rw [List.length_append,List.length_cons,List.length_nil];omega) (by omega)];exact ih m (i+1) _ (by omega) (by omega) (by omega) (by omega)
   ·rw [decide_eq_false (show ¬(i:Int) >(a:Int) by omega),if_neg bO];simp only [cond_false];have aw:=CC h bj o;rw [acz h bj m _ _ (by omega) (by omega)];exact ih m (i+1) _ (by omega) (by omega) (by omega) (by omega)
  ·rw [cw (Nat.not_lt.1 bj),if_neg (fun hh=>bj hh.1)];rfl
theorem acA(m:Nat)(a b d e):(n5 (m+1)).bp a b d e=E_ (n5 m) a b d e:=rfl
theorem acB(m:Nat)(a b d e f g h):(n5 (m+1)).dm a b d e f g h=E' (n5 m) a b d e f g h:=rfl
theorem CD{l:List a6.D}(m:Nat)(a:Int)(i:Int)(xs:List Int)(j:Nat)(hj:j<xs.length)(hx:xs.length=5)(o:aO)(ho:o.length≤10000)(v:Int)(hv:I (ad.int .i64) xs j=v)(af : -1000000000000<v∧v<1000000000000) :
  (n5 (m+1)).dm l a o i (xs.length:Int) (j:Int) xs=(n5 m).dm l a ((if 0<j then o++[46] else o)++ga v) i (xs.length:Int) ((j+1:Nat):Int) xs:=by
 have d:=fJ v af;rw [acB];unfold E';rw [b1 hj,br hj,cG (a:=(j:Int)+1) (by omega) (by omega)];simp only [cond_true,al,Nat.zero_add];rw [hv,d.2.2];simp only [al];have e:=d.1;by_cases h0:0<j
 ·rw [decide_eq_true (show(j:Int)>0 by omega),if_pos h0,b_ (by simp only [List.length_cons,List.length_nil];omega),b_ (by simp only [List.length_append,List.length_cons,List.length_nil];omega)];rfl
 ·rw [decide_eq_false (show ¬(j:Int)>0 by omega),if_neg h0];simp only [cond_false];rw [b_ (by omega)];rfl
def acC(n:a6.D):List Int:=[ny n,pF n,pG n,pH n,qO n]
theorem acD{l:List a6.D}(h:hd l=true){i:Nat}(hi:i<l.length)(m:Nat)(a:Int)(o:aO)(ho:o.length≤1000)(hii:i<100):(n5 (m+6)).dm l a o (i:Int) (5:Int) 0 (acC (I a6 l i))=(n5 m).bp l a (se l i o) ((i:Int)+1):=by have hr:=JL h hi;have e1:=(fJ (ny (I a6 l i)) (by have:=hr.a;omega)).1;have e2:=(fJ (pF (I a6 l i)) (by have:=hr.b;omega)).1;have e3:=(fJ (pG (I a6 l i)) (by have:=hr.c;omega)).1;have et:=(fJ (pH (I a6 l i)) (by have:=hr.d;omega)).1;rw [show(5:Int)=((acC (I a6 l i)).length:Int) from rfl,show(0:Int)=((0:Nat):Int) from rfl];rw [CD (m+5) a i _ 0 (by show 0<5;omega) rfl o (by omega) (ny (I a6 l i)) rfl (by have:=hr.a;omega)];rw [if_neg (by omega)];rw [CD (m+4) a i _ 1 (by show 1<5;omega) rfl _ (by simp only [List.length_append];omega) (pF (I a6 l i)) rfl (by have:=hr.b;omega)];rw [if_pos (by omega)];rw [CD (m+3) a i _ 2 (by show 2<5;omega) rfl _ (by simp only [List.length_append,List.length_cons,List.length_nil];omega) (pG (I a6 l i)) rfl (by have:=hr.c;omega)];rw [if_pos (by omega)];rw [CD (m+2) a i _ 3 (by show 3<5;omega) rfl _ (by simp only [List.length_append,List.length_cons,List.length_nil];omega) (pH (I a6 l i)) rfl (by have:=hr.d;omega)];rw [if_pos (by omega)];rw [CD (m+1) a i _ 4 (by show 4<5;omega) rfl _ (by simp only [List.length_append,List.length_cons,List.length_nil];omega) (qO (I a6 l i)) rfl (by have:=hr.e;omega)];rw [if_pos (by omega)];rw [acB];unfold E';rw [cw (by show 5≤5;omega)];simp only [cond_false];rw [cG (by omega) (by omega)];rfl
theorem arP{l:List a6.D}(h:hd l=true)(hl:l.length≤20)(a:Nat)(ha:a≤1000000):∀(r m i:Nat) (o:aO),a≤i→i+r=a+6→7*r<m→o.length+105*r≤1000→(n5 m).bp l (a:Int) o (i:Int)=some (ld l a r i o,()):=by
 intro r
 induction r with
 | zero=>intro m i o R5 hi hm ho;obtain ⟨m,rfl,_⟩:=fuel (show 0<m by omega);rw [acA];unfold E_;rw [cG (a:=(a:Int)+6) (by omega) (by omega),decide_eq_false (show ¬(i:Int)<(a:Int)+6 by omega)];cases decide ((i:Int)<(l.length:Int)) <;> rfl
 | succ r ih=>
  intro m i o R5 hi hm ho;obtain ⟨m,rfl⟩:∃k,m=k+7:=⟨m-7,by omega⟩
  rw [acA];unfold E_;rw [cG (a:=(a:Int)+6) (by omega) (by omega),decide_eq_true (show(i:Int)<(a:Int)+6 by omega),ld];by_cases bj:i<l.length
  ·rw [b1 bj,if_pos ⟨bj,by omega⟩,br bj];simp only [cond_true,al];by_cases bO:a<i
   ·rw [decide_eq_true (show(i:Int) >(a:Int) by omega),if_pos bO,b_ (by simp only [List.length_cons,List.length_nil];omega)];simp only [cond_true];have aw:=CC h bj (o++[32]);rw [List.length_append,List.length_cons,List.length_nil] at aw;have:=acD h bj m (a:Int) (o++[32]) (by rw [List.length_append,List.length_cons,List.length_nil];omega) (by omega);refine Eq.trans this ?_;exact ih m (i+1) _ (by omega) (by omega) (by omega) (by omega)
   ·rw [decide_eq_false (show ¬(i:Int) >(a:Int) by omega),if_neg bO];simp only [cond_false];have aw:=CC h bj o;refine Eq.trans (acD h bj m (a:Int) o (by omega) (by omega)) ?_;exact ih m (i+1) _ (by omega) (by omega) (by omega) (by omega)
  ·rw [cw (Nat.not_lt.1 bj),if_neg (fun hh=>bj hh.1)];rfl
theorem JM{l:List a6.D}(h:hd l=true):l.length≤20:=by unfold hd at h;rw [Bool.and_eq_true,decide_eq_true_eq] at h;omega
theorem arQ{l:List a6.D}(h:hd l=true)(a:Nat)(ha:a≤1000000):Og (l,(a:Int),())=some (ld l a 6 a [],())∧MY (l,(a:Int),())=some (ld l a 6 a [],()):=by
 have hl:=JM h;constructor
 ·show GL (qi aM) l (a:Int)=_;unfold GL;rw [arx,h,decide_eq_false (show ¬(a:Int)<0 by omega)];exact arO h hl a ha 6 aM a [] (Nat.le_refl _) rfl (by rw [hP];omega) (by simp)
 ·show E9 (n5 aM) l (a:Int)=_;unfold E9;rw [ary _ (by omega),h,decide_eq_false (show ¬(a:Int)<0 by omega)];exact arP h hl a ha 6 aM a [] (Nat.le_refl _) rfl (by rw [hP];omega) (by simp)
def ui(t:c_)(x:aI.D):c_:=(t.1,(lO t.2.1 (aD x)).1,t.2.2.1,t.2.2.2.1,())
def uj(t:c_)(x:aI.D):Bool:=(lO t.2.1 (aD x)).2
inductive jb (t:c_) (c:Int) (x:aI.D):c_→an.D→Prop
 | bad (h:eZ x=false):jb t c x t (22,[],())
 | CE (h:eZ x=true) (hs:uj t x=false):jb t c x t (11,[],())
 | perm (h:eZ x=true) (hs:uj t x=true) (hk:aD x=21∨aD x=22) (hc:c≠1):jb t c x (ui t x) (1,[],())
 | neg (h:eZ x=true) (hs:uj t x=true) (hk:aD x=21) (hc:c=1) (hn:bU x<0):jb t c x (ui t x) (22,[],())
 | told (h:eZ x=true) (hs:uj t x=true) (hk:aD x=21) (hc:c=1) (n:Nat) (hn:bU x=n):jb t c x (ui t x) (0,ld t.2.2.1 n 6 n [],())
 | CF (h:eZ x=true) (hs:uj t x=true) (hk:aD x=22) (hc:c=1):jb t c x (t.1,(lO t.2.1 (aD x)).1,[],t.2.2.2.1,()) (0,[],())
 | full (h:eZ x=true) (hs:uj t x=true) (hk:aD x≤20) (ht:jE (aD x)=false) (hl:t.2.2.1.length=20):jb t c x (ui t x) (28,[],())
 | CG (h:eZ x=true) (hs:uj t x=true) (hk:aD x≤20) (ht:jE (aD x)=true∨t.2.2.1.length<20) (w:ah.D) (k:Int) (s:aO) (hr:zr t.1 (mr c) x w k s):jb t c x (w,(lO t.2.1 (aD x)).1,t.2.2.1,t.2.2.2.1,()) (k,s,())
theorem arR(c:Int):dQ (mr c)=true:=by
 unfold mr;split
 ·rfl
 split
 ·rfl
 split
 ·rfl
 ·rfl
theorem arS(c:Int):((mr c).1 != 0)=decide (c≠1):=by
 unfold mr;by_cases h:c=1
 ·rw [if_pos h,decide_eq_false (fun k=>k h)];rfl
 rw [if_neg h,decide_eq_true h];split
 ·rfl
 split
 ·rfl
 ·rfl
theorem oy{t:c_}(h:fD t=true):fo t.2.2.2.1.length (nx t.2.2.2.1)=true∧(0≤t.2.1∧t.2.1≤30)∧hd t.2.2.1=true∧k4 t.1=true:=by unfold fD at h;simp only [Bool.and_eq_true] at h;exact⟨h.1,cR.1 h.2.1,h.2.2.1,h.2.2.2⟩
theorem arT(t:c_)(c:Int)(x:aI.D)(h:fD t=true):∃cO r,Hz (t,c,x,())=some (cO,r,())∧Ga (t,c,x,())=some (r,cO,())∧jb t c x cO r:=by
 obtain ⟨xf,kQ,sf,hvo⟩:=oy h;have dF:=JM sf;obtain ⟨q,hq,_⟩:=kC 4;have S:Hz (t,c,x,())=Hy (qm aM) t c x:=rfl;have CH:Ga (t,c,x,())=F_ (mg aM) t c x:=rfl;rw [S,CH];unfold Hy F_;rw [arB,arA,y7,BS,arK _ _ kQ.2,arL _ _ kQ.2,hq];simp only [al]
 cases hcall:eZ x with
 | false=>exact⟨_,_,rfl,rfl,.bad hcall⟩
 | true=>
 simp only [Bool.not_true,cond_false];have hx:=r8.1 hcall
 cases hs:uj t x with
 | false=>rw [show(lO t.2.1 x.1).2=false from hs];exact⟨_,_,rfl,rfl,.CE hcall hs⟩
 | true=>
 rw [show(lO t.2.1 x.1).2=true from hs,arS];simp only [Bool.not_true,cond_false];have hk:=hx.dj;have hn:=hx.n;by_cases pI:(aD x)=21
 ·rw [cK (show x.1=21 from pI)];simp only [cond_true];by_cases h1:c=1
  case neg=>rw [decide_eq_true h1];exact⟨_,_,rfl,rfl,.perm hcall hs (.inl pI) h1⟩
  rw [decide_eq_false (fun k=>k h1)];simp only [cond_false];have A:∀a b d e,(qm (q+4)).dd a b d e=yK (qm (q+3)) a b d e:=fun _ _ _ _=>rfl
  have B:∀a b d e,(mg (q+4)).dd a b d e=yz (mg (q+3)) a b d e:=fun _ _ _ _=>rfl
  have kp:∀a b d e,(mg (q+3)).eF a b d e=yA (mg (q+2)) a b d e:=fun _ _ _ _=>rfl
  rw [A,B];unfold yK yz;rw [cK (show x.1=21 from pI)];simp only [cond_true];by_cases sP:bU x<0
  ·rw [decide_eq_true (show x.2.2.2.1<0 from sP)];exact⟨_,_,rfl,rfl,.neg hcall hs pI h1 sP⟩
  ·rw [decide_eq_false (show ¬x.2.2.2.1<0 from sP)];simp only [cond_false];rw [kp];unfold yA;rw [cK (show x.1=21 from pI)];simp only [cond_true];obtain ⟨m,hm⟩:∃m:Nat,bU x=(m:Int):=⟨(bU x).toNat,by omega⟩
   have hb:=arQ sf m (by omega);rw [show x.2.2.2.1=(m:Int) from hm,hb.1,hb.2];exact⟨_,_,rfl,rfl,.told hcall hs pI h1 m hm⟩
 rw [bY (show x.1≠21 from pI)];simp only [cond_false];have A:∀a b d e f,(qm (q+4)).dd a b d e f=yK (qm (q+3)) a b d e f:=fun _ _ _ _ _=>rfl
 have nK:∀a b d e f,(qm (q+3)).ku a b d e f=OL (qm (q+2)) a b d e f:=fun _ _ _ _ _=>rfl
 have B:∀a b d e,(mg (q+4)).dd a b d e=yz (mg (q+3)) a b d e:=fun _ _ _ _=>rfl
 have kp:∀a b d e,(mg (q+3)).eF a b d e=yA (mg (q+2)) a b d e:=fun _ _ _ _=>rfl
 have arU:∀a b d e,(mg (q+2)).ku a b d e=NW (mg (q+1)) a b d e:=fun _ _ _ _=>rfl
 by_cases uk:(aD x)=22
 ·rw [cK (show x.1=22 from uk)];simp only [cond_true];by_cases h1:c=1
  case neg=>rw [decide_eq_true h1];exact⟨_,_,rfl,rfl,.perm hcall hs (.inr uk) h1⟩
  rw [decide_eq_false (fun k=>k h1)];simp only [cond_false];rw [A,B];unfold yK yz;rw [bY (show x.1≠21 from pI),cK (show x.1=22 from uk)];simp only [cond_false,cond_true];rw [kp];unfold yA;rw [bY (show x.1≠21 from pI),cK (show x.1=22 from uk)];exact⟨_,_,rfl,rfl,.CF hcall hs uk h1⟩
 rw [bY (show x.1≠22 from uk)];simp only [cond_false];rw [A,B];unfold yK yz;rw [bY (show x.1≠21 from pI),bY (show x.1≠22 from uk)];simp only [cond_false];rw [kp];unfold yA;rw [bY (show x.1≠21 from pI),bY (show x.1≠22 from uk)];simp only [cond_false];rw [JK,R2];simp only [al];have jV:aD x≤20:=by omega
 have hrun:jE (aD x)=true∨t.2.2.1.length<20→∃cO r,(qm (q+3)).ku (ui t x) x ((0,([]:List J.D),()),0,([]:List a6.D),([]:List bP.D),()) (0,([]:aj),()) (mr c)=some (cO,r,()) ∧
   (mg (q+2)).ku (ui t x) x (0,([]:aj),()) (mr c)=some (r,cO,())∧jb t c x cO r:=by
  intro ht;obtain ⟨w,k,s,e1,e2,hr⟩:=apr t.1 (mr c) x hvo (arR c);refine⟨_,_,?_,?_,.CG hcall hs jV ht w k s hr⟩
  ·rw [nK];unfold OL;rw [show wx ((ui t x).1,mr c,x,())=_ from e1];rfl
  ·rw [arU];unfold NW;rw [show A4 ((ui t x).1,mr c,x,())=_ from e2];simp only [al,o9,AF];rfl
 cases mM:jE (aD x) with
 | true=>rw [show jE x.1=true from mM];simp only [Bool.not_true,cond_false];exact hrun (.inl mM)
 | false=>
  rw [show jE x.1=false from mM];simp only [Bool.not_false,cond_true];by_cases hl:t.2.2.1.length=20
  ·rw [show decide ((t.2.2.1.length:Int)≥20)=true from decide_eq_true (by omega),show((t.2.2.1.length:Int)==20)=true from cK (by omega)];exact⟨_,_,rfl,rfl,.full hcall hs jV mM hl⟩
  ·rw [show decide ((t.2.2.1.length:Int)≥20)=false from decide_eq_false (by omega),show((t.2.2.1.length:Int)==20)=false from bY (by omega)];exact hrun (.inr (by omega))
def lP(l:List bP.D)(c:Int)(s:bP.D):List bP.D:=cond (hS l c) (l.set (eA l c) s) (l.take (eA l c)++[s]++l.drop (eA l c))
def notes(t:c_)(x:aI.D)(r:an.D):Bool:=decide (t.2.2.1.length<20)&&(eZ x&&((!jE (aD x)||(r.1 != 0)) && !((aD x==22)&&(r.1==0))))
def iE(t:c_)(c bG index:Int)(x:aI.D)(r:an.D):c_:=cond (notes t x r) (t.1,t.2.1,t.2.2.1++[(index,c,bG,aD x,r.1,())],t.2.2.2.1,()) t
def oz(t:c_)(c bG index:Int)(r:an.D):c_:=(t.1,t.2.1,t.2.2.1,lP t.2.2.2.1 c (c,bG,index,r,()),())
theorem acE(m:Nat)(c bG index:Int)(t:c_)(um:c_)(z2 r:an.D)(hl:t.2.2.2.1.length≤3):(rS (m+1)).eF c bG index t um z2 r=some (oz t c bG index r,r,true,()):=by
 show OO (rS m) c bG index t um z2 r=_;unfold OO;rw [acq t c (by omega)];simp only [al];unfold oz lP;have hle:=zC t.2.2.2.1 c
 cases h:hS t.2.2.2.1 c with
 | true=>rw [br (xe h)];simp only [cond_true,al,Nat.zero_add];rfl
 | false=>simp only [cond_false];rw [show(0:Int)=((0:Nat):Int) from rfl,jd (Nat.zero_le _) hle];simp only [al,Nat.sub_zero,Nat.zero_add,List.nil_append,pz];rw [b_ (by simp only [List.length_nil,List.length_take];omega)];simp only [cond_true];unfold WQ;rw [jd hle (Nat.le_refl _),b_ (by simp only [List.length_cons,List.length_nil,List.length_take];omega)];simp only [al,cond_true,Nat.zero_add,tU];rw [b_ (by simp only [List.length_append,List.length_cons,List.length_nil,List.length_take,List.length_drop];omega)];rfl
theorem acF(m:Nat)(c bG index:Int)(t:c_)(z2 r:an.D)(hl:t.2.2.2.1.length≤3):(rH (m+1)).eF c bG index t z2 r=some (r,true,oz t c bG index r,()):=by
 show NZ (rH m) c bG index t z2 r=_;unfold NZ;rw [acr t c (by omega)];simp only [al];unfold oz lP;have hle:=zC t.2.2.2.1 c
 cases h:hS t.2.2.2.1 c with
 | true=>rw [br (xe h)];simp only [cond_true,al,Nat.zero_add];rfl
 | false=>simp only [cond_false,decide_true,cond_true];rw [show dh t.2.2.2.1.length 0 (eA t.2.2.2.1 c:Int)=_ from jd (Nat.zero_le _) hle,jd hle (Nat.le_refl _)];simp only [al,Nat.sub_zero,Nat.zero_add,pz,tU];rw [b_ (by simp only [List.length_cons,List.length_nil,List.length_drop];omega)];simp only [cond_true];unfold Wl;simp only [Nat.sub_zero,Nat.zero_add,pz];rw [b_ (by simp only [List.length_append,List.length_cons,List.length_nil,List.length_take,List.length_drop];omega)];simp only [cond_true];rw [← List.append_assoc];rfl
theorem arV(m:Nat)(c bG index:Int)(x:aI.D)(t:c_)(um:c_)(z2 r:an.D)(hl:t.2.2.2.1.length≤3):(rS (m+3)).dd c bG index ((aD x==22)&&(r.1==0)) t x um z2 r=some (oz (iE t c bG index x r) c bG index r,r,true,()):=by
 have rb:decide (t.2.2.1.length<20)=true→(rS (m+2)).dm c bG index t x um z2 r=some (oz (t.1,t.2.1,t.2.2.1++[(index,c,bG,aD x,r.1,())],t.2.2.2.1,()) c bG index r,r,true,()):=by intro h;rw [decide_eq_true_eq] at h;show ON (rS (m+1)) c bG index t x um z2 r=_;unfold ON;rw [b_ (by simp only [List.length_cons,List.length_nil];omega)];exact acE m c bG index _ _ _ _ hl
 have j4:=acE (m+1) c bG index t um z2 r hl;show OM (rS (m+2)) c bG index ((aD x==22)&&(r.1==0)) t x um z2 r=_;unfold OM;rw [y7,JK,j4,show decide ((t.2.2.1.length:Int)<20)=decide (t.2.2.1.length<20) from by simp only [decide_eq_decide];omega];unfold iE notes;simp only [al]
 cases h1:decide (t.2.2.1.length<20) with
 | false=>rfl
 | true=>
 rw [rb h1]
 cases eZ x with
 | false=>rfl
 | true=>
 show cond (!(jE (aD x))) _ _=_;cases jE (aD x) <;> cases (r.1 != 0) <;> cases ((aD x==22)&&(r.1==0)) <;> rfl
theorem arW(m:Nat)(c bG index:Int)(x:aI.D)(t:c_)(z2 r:an.D)(hl:t.2.2.2.1.length≤3):(rH (m+3)).dd c bG index ((aD x==22)&&(r.1==0)) t x z2 r=some (r,true,oz (iE t c bG index x r) c bG index r,()):=by
 have rb:decide (t.2.2.1.length<20)=true→(rH (m+2)).dm c bG index t x z2 r=some (r,true,oz (t.1,t.2.1,t.2.2.1++[(index,c,bG,aD x,r.1,())],t.2.2.2.1,()) c bG index r,()):=by intro h;rw [decide_eq_true_eq] at h;show NY (rH (m+1)) c bG index t x z2 r=_;unfold NY;rw [b_ (by simp only [List.length_cons,List.length_nil];omega)];exact acF m c bG index _ _ _ hl
 have j4:=acF (m+1) c bG index t z2 r hl;show NX (rH (m+2)) c bG index ((aD x==22)&&(r.1==0)) t x z2 r=_;unfold NX;rw [BS,R2,j4,show decide ((t.2.2.1.length:Int)<20)=decide (t.2.2.1.length<20) from by simp only [decide_eq_decide];omega];unfold iE notes;simp only [al]
 cases h1:decide (t.2.2.1.length<20) with
 | false=>rfl
 | true=>
 rw [rb h1]
 cases eZ x with
 | false=>rfl
 | true=>
 show cond (!(jE (aD x))) _ _=_;cases jE (aD x) <;> cases (r.1 != 0) <;> cases ((aD x==22)&&(r.1==0)) <;> rfl
def oA(t:c_)(c bG index:Int):Bool:=ct c 1 3&&(ct bG 1 1000000&&(ct index 1 100000 && !decide (index<ox t)))
def oB(t:c_)(c:Int):Int:=(ow t.2.2.2.1 c).2.1
inductive oC (t:c_) (c bG:Int) (x:aI.D) (index:Int):c_→an.D→Bool→Prop
 | off (h:oA t c bG index=false):oC t c bG x index t (0,[],()) false
 | again (h:oA t c bG index=true) (hs:bG=oB t c):oC t c bG x index t (ow t.2.2.2.1 c).2.2.2.1 false
 | late (h:oA t c bG index=true) (hs:bG≠oB t c) (h1:bG≠oB t c+1):oC t c bG x index t (0,[],()) false
 | JN (h:oA t c bG index=true) (h1:bG=oB t c+1) (t1:c_) (r:an.D) (hr:jb t c x t1 r):oC t c bG x index (oz (iE t1 c bG index x r) c bG index r) r true
theorem jb.R6{t t1:c_}{c:Int}{x:aI.D}{r:an.D}(h:jb t c x t1 r):t1.2.2.2.1=t.2.2.2.1:=by cases h <;> rfl
theorem arX{t:c_}(h:fD t=true)(c:Int):0≤oB t c∧oB t c≤1000000:=by
 unfold oB ow
 cases hs:hS t.2.2.2.1 c with
 | false=>exact⟨Int.le_refl 0,by show(0:Int)≤1000000;omega⟩
 | true=>have h1:=gZ.1 (oy h).1 _ (xe hs);unfold nx at h1;simp only [Bool.and_eq_true,cR] at h1;have h2:=h1.1.1.2;show 0≤(I bP t.2.2.2.1 (eA t.2.2.2.1 c)).2.1∧(I bP t.2.2.2.1 (eA t.2.2.2.1 c)).2.1≤1000000;exact⟨Int.le_trans (by decide) h2.1,h2.2⟩
theorem arY(t:c_)(c bG:Int)(x:aI.D)(index:Int)(h:fD t=true):∃cO r b,rT (t,c,bG,x,index,())=some (cO,r,b,())∧yB (t,c,bG,x,index,())=some (r,b,cO,())∧oC t c bG x index cO r b:=by
 obtain ⟨xf,kQ,sf,hvo⟩:=oy h;have dF:=JM sf;have oa:=acp xf;obtain ⟨q,hq,_⟩:=kC 3;have S:rT (t,c,bG,x,index,())=HA (rS aM) t c bG x index:=rfl;have CH:yB (t,c,bG,x,index,())=Gb (rH aM) t c bG x index:=rfl;rw [S,CH];unfold HA Gb;simp only [ka,jx,al]
 cases h1:ct c 1 3 with
 | false=>exact⟨_,_,_,rfl,rfl,.off (by unfold oA;rw [h1];rfl)⟩
 | true=>
 cases h2:ct bG 1 1000000 with
 | false=>exact⟨_,_,_,rfl,rfl,.off (by unfold oA;rw [h1,h2];rfl)⟩
 | true=>
 cases h3:ct index 1 100000 with
 | false=>exact⟨_,_,_,rfl,rfl,.off (by unfold oA;rw [h1,h2,h3];rfl)⟩
 | true=>
 simp only [Bool.not_true,cond_false];have fz:=cR.1 h3;rw [arF t (by omega) (by omega),arG t index (by omega) (by omega) (by omega)];simp only [al]
 cases h4:decide (index<ox t) with
 | true=>exact⟨_,_,_,rfl,rfl,.off (by unfold oA;rw [h1,h2,h3,h4];rfl)⟩
 | false=>
 simp only [cond_false];have hn:oA t c bG index=true:=by unfold oA;rw [h1,h2,h3,h4];rfl
 rw [arD t c (by omega),arC t c (by omega)];simp only [al];have acG:=arX h c;by_cases hs:bG=oB t c
 ·rw [cK (show bG=(ow t.2.2.2.1 c).2.1 from hs)];exact⟨_,_,_,rfl,rfl,.again hn hs⟩
 rw [bY (show bG≠(ow t.2.2.2.1 c).2.1 from hs)];simp only [cond_false];rw [show ax ((ow t.2.2.2.1 c).2.1+1)=oB t c+1 from cG (by have:=acG.1;unfold oB at this;exact Int.le_trans (by decide) (Int.add_le_add_right this 1)) (by have:=acG.2;unfold oB at this;exact Int.le_trans (Int.add_le_add_right this 1) (by decide))];by_cases hs1:bG=oB t c+1
 case neg=>rw [dq hs1];exact⟨_,_,_,rfl,rfl,.late hn hs hs1⟩
 rw [ek hs1];simp only [cond_false];obtain ⟨t1,r,e1,e2,hr⟩:=arT t c x h;rw [e1,e2,hq];simp only [al];have h3:t1.2.2.2.1.length≤3:=by rw [hr.R6];omega
 have k1:=arV q c bG index x t1 ((0,([]:List J.D),()),0,([]:List a6.D),([]:List bP.D),()) (0,([]:aj),()) r h3;have k2:=arW q c bG index x t1 (0,([]:aj),()) r h3;refine⟨_,_,_,?_,?_,.JN hn hs1 t1 r hr⟩
 ·refine Eq.trans ?_ k1;show cond (aD x==22) _ _=_;cases aD x==22 <;> rfl
 ·refine Eq.trans ?_ k2;show cond (aD x==22) _ _=_;cases aD x==22 <;> rfl
theorem arZ{l:List a6.D}(h:hd l=true)(a:Nat):∀(r i:Nat) (o:aO),(ld l a r i o).length≤o.length+105*r:=by
 intro r
 induction r with
 | zero=>intro i o;rw [ld];omega
 | succ r ih=>
  intro i o;rw [ld];by_cases hi:i<l.length∧i<a+6
  ·rw [if_pos hi];have h1:=ih (i+1) (se l i (if a<i then o++[32] else o));have h2:=CC h hi.1 (if a<i then o++[32] else o);have h3:(if a<i then o++[32] else o).length≤o.length+1:=by split <;> simp
   omega
  ·rw [if_neg hi];omega
def eo(r:an.D):aO:=r.2.1
theorem jb.len{t t1:c_}{c:Int}{x:aI.D}{r:an.D}(ht:fD t=true)(h:jb t c x t1 r):(eo r).length≤1000:=by
 cases h with
 | bad=>simp [eo]
 | CE=>simp [eo]
 | perm=>simp [eo]
 | neg=>simp [eo]
 | told _ _ _ _ n=>have:=arZ (oy ht).2.2.1 n 6 n [];show(ld t.2.2.1 n 6 n []).length≤1000;simp only [List.length_nil] at this;omega
 | CF=>simp [eo]
 | full=>simp [eo]
 | CG _ _ _ _ w k s hr=>exact Nat.le_trans hr.len (by decide)
theorem ar0(s:bP.D):ad.cost bP s=(eo s.2.2.2.1).length:=by simp only [nj,nk,nm,nn,qC,Nat.zero_add,Nat.add_zero];rfl
theorem ar1(l:List a6.D):ad.cost (.sl a6) l=l.length:=aq7 (fun y=>by simp only [nj,nk,nm,nn,Nat.add_zero]) l
theorem ar2(r:an.D):ad.cost an r=(eo r).length:=by simp only [nj,nk,nm,nn,qC,Nat.zero_add,Nat.add_zero];rfl
theorem acH{l:List bP.D}{c:Int}{s x:bP.D}(h:x∈lP l c s):x∈l∨x=s:=by
 unfold lP at h
 cases hs:hS l c with
 | true=>
  rw [hs] at h;rcases List.mem_or_eq_of_mem_set h with h | h
  ·exact .inl h
  ·exact .inr h
 | false=>
  rw [hs] at h;simp only [cond_false,List.mem_append,List.mem_singleton] at h;rcases h with(h | h) | h
  ·exact .inl (List.mem_of_mem_take h)
  ·exact .inr h
  ·exact .inl (List.mem_of_mem_drop h)
theorem ar3(l:List bP.D)(c:Int)(s:bP.D):(lP l c s).length≤l.length+1:=by
 unfold lP
 cases hS l c with
 | true=>simp only [cond_true,List.length_set];omega
 | false=>simp only [cond_false,List.length_append,List.length_take,List.length_drop,List.length_singleton];have:=zC l c;omega
theorem ar4(l:List bP.D)(h:∀s,s∈l→(eo s.2.2.2.1).length≤1000):ad.cost (.sl bP) l≤l.length*1001:=by
 rw [r0];have:=zq (fun y=>ad.cost bP y) 1000 l fun s hs=>by rw [ar0];exact h s hs
 omega
theorem R7{t:c_}(h:fD t=true){s:bP.D}(hs:s∈t.2.2.2.1):ug s.2.2.2.1=true:=by obtain ⟨i,hi,rfl⟩:=fA hs;have h1:=gZ.1 (oy h).1 i hi;unfold nx at h1;rw [Bool.and_eq_true] at h1;exact h1.2
theorem R8{r:an.D}(h:ug r=true):(eo r).length≤400:=by unfold ug at h;rw [Bool.and_eq_true,decide_eq_true_eq] at h;have:=h.2;unfold eo;omega
theorem jb.small{t t1:c_}{c:Int}{x:aI.D}{r:an.D}(h:jb t c x t1 r)(hc:ad.cost ah t.1≤1048576):ad.cost ah t1.1≤1048576∧t1.2.2.1.length≤t.2.2.1.length:=by
 cases h with
 | bad=>exact⟨hc,Nat.le_refl _⟩
 | CE=>exact⟨hc,Nat.le_refl _⟩
 | perm=>exact⟨hc,Nat.le_refl _⟩
 | neg=>exact⟨hc,Nat.le_refl _⟩
 | told=>exact⟨hc,Nat.le_refl _⟩
 | CF=>exact⟨hc,Nat.zero_le _⟩
 | full=>exact⟨hc,Nat.le_refl _⟩
 | CG _ _ _ _ w k s hr=>exact⟨hr.cost hc,Nat.le_refl _⟩
theorem acI(t:c_)(c bG index:Int)(x:aI.D)(r:an.D):(iE t c bG index x r).1=t.1∧(iE t c bG index x r).2.1=t.2.1∧(iE t c bG index x r).2.2.2.1=t.2.2.2.1∧((iE t c bG index x r).2.2.1=t.2.2.1∨(iE t c bG index x r).2.2.1=t.2.2.1++[(index,c,bG,aD x,r.1,())]∧t.2.2.1.length<20∧notes t x r=true):=by
 unfold iE
 cases h:notes t x r with
 | false=>exact⟨rfl,rfl,rfl,.inl rfl⟩
 | true=>refine⟨rfl,rfl,rfl,.inr ⟨rfl,?_,rfl⟩⟩;unfold notes at h;rw [Bool.and_eq_true,decide_eq_true_eq] at h;exact h.1
theorem oC.cost{t cO:c_}{c bG index:Int}{x:aI.D}{r:an.D}{b:Bool}(ht:fD t=true)(h:oC t c bG x index cO r b)(hc:ad.cost aY t≤1048576):ad.cost aY cO≤1100000∧(eo r).length≤1000:=by
 obtain ⟨xf,kQ,sf,hvo⟩:=oy ht;have oa:=acp xf;have dF:=JM sf
 cases h with
 | off=>exact⟨by omega,by simp [eo]⟩
 | again=>
  refine⟨by omega,?_⟩;unfold ow
  cases hs:hS t.2.2.2.1 c with
  | false=>simp [eo]
  | true=>have:=R8 (R7 ht (c9 (xe hs)));simp only [cond_true];omega
 | late=>exact⟨by omega,by simp [eo]⟩
 | JN hn h1 t1 r hr=>
  have hl:=hr.len ht;refine⟨?_,hl⟩;rw [arz] at hc ⊢;obtain ⟨fk,kk,JO,R9⟩:=acI t1 c bG index x r;have lK:=hr.small (by omega);have hv:ad.cost ah (oz (iE t1 c bG index x r) c bG index r).1≤1048576:=by show ad.cost ah (iE t1 c bG index x r).1≤_;rw [fk];exact lK.1
  have ha:ad.cost (.sl a6) (oz (iE t1 c bG index x r) c bG index r).2.2.1≤21:=by
   rw [ar1];show(iE t1 c bG index x r).2.2.1.length≤_;rcases R9 with e | ⟨e,gP,_⟩
   ·rw [e];have:=lK.2;omega
   ·rw [e,List.length_append,List.length_singleton];omega
  have hs:ad.cost (.sl bP) (oz (iE t1 c bG index x r) c bG index r).2.2.2.1≤4*1001:=by
   show ad.cost (.sl bP) (lP (iE t1 c bG index x r).2.2.2.1 c (c,bG,index,r,()))≤_;rw [JO,hr.R6]
   have h2:=ar4 (lP t.2.2.2.1 c (c,bG,index,r,())) fun s hs=>by
    rcases acH hs with hs | rfl
    ·have:=R8 (R7 ht hs);omega
    ·exact hl
   have h3:=ar3 t.2.2.2.1 c (c,bG,index,r,());have h4:(lP t.2.2.2.1 c (c,bG,index,r,())).length*1001≤4*1001:=Nat.mul_le_mul_right _ (by omega);exact Nat.le_trans h2 h4
  exact Nat.le_trans (Nat.add_le_add hv (Nat.add_le_add ha hs)) (by decide)
theorem CI(k:Nat)(hk:1≤k∧k≤12)(x:Int)(h0:0≤x)(h:x<(10 ^ k:Nat)):(ga x).length≤k:=by
 have hb:(10 ^ k:Nat)≤10 ^ 12:=Nat.pow_le_pow_right (by decide) hk.2;have hc:((10 ^ k:Nat):Int)≤1000000000000:=Int.ofNat_le.2 (Nat.le_trans hb (by decide));have af:=fJ x (by omega);by_cases hz:x=0
 ·subst hz;have:ga 0=[48]:=aW (congrArg (Option.map Prod.fst) (af.2.1.symm.trans (rfl:e9 (0,())=some ([48],()))));rw [this];simp;omega
 ·have hc':((10 ^ k:Nat):Int)=(10 ^ k:Int):=by simp
  obtain ⟨t,ht,hs,_⟩:=abD k x (by omega) hz (by rw [← hc'];omega) (by rw [← hc'];omega);have e:e9 (x,())=some (t,()):=by show GK (pe aM) x=_;unfold GK;rw [bY hz];simp only [cond_false];rw [hs aM [] (decide (x<0)) (by rw [hP];omega) (by simp;omega),decide_eq_false (by omega),List.append_nil];rfl
  have:ga x=t:=aW (congrArg (Option.map Prod.fst) (af.2.1.symm.trans e));rw [this];exact ht
theorem ar5{l:List a6.D}(h:hd l=true){i:Nat}(hi:i<l.length)(o:aO):(se l i o).length≤o.length+23:=by have hr:=JL h hi;have d1:=CI 6 (by omega) (ny (I a6 l i)) (by have:=hr.a;omega) (by have:=hr.a;omega);have d2:=CI 1 (by omega) (pF (I a6 l i)) (by have:=hr.b;omega) (by have:=hr.b;omega);have d3:=CI 7 (by omega) (pG (I a6 l i)) (by have:=hr.c;omega) (by have:=hr.c;omega);have d4:=CI 2 (by omega) (pH (I a6 l i)) (by have:=hr.d;omega) (by have:=hr.d;omega);have d5:=CI 3 (by omega) (qO (I a6 l i)) (by have:=hr.e;omega) (by have:=hr.e;omega);unfold se;simp only [List.length_append,List.length_cons,List.length_nil];omega
theorem ar6{l:List a6.D}(h:hd l=true)(a:Nat):∀(r i:Nat) (o:aO),(ld l a r i o).length≤o.length+24*r:=by
 intro r
 induction r with
 | zero=>intro i o;rw [ld];omega
 | succ r ih=>
  intro i o;rw [ld];by_cases hi:i<l.length∧i<a+6
  ·rw [if_pos hi];have h1:=ih (i+1) (se l i (if a<i then o++[32] else o));have h2:=ar5 h hi.1 (if a<i then o++[32] else o);have h3:(if a<i then o++[32] else o).length≤o.length+1:=by split <;> simp
   omega
  ·rw [if_neg hi];omega
def R_(r:an.D):Int:=r.1
theorem acJ{r:an.D} : ug r=true↔(0≤R_ r∧R_ r≤200)∧(eo r).length≤400:=by
 unfold ug;rw [Bool.and_eq_true,cR,decide_eq_true_eq];constructor
 ·rintro ⟨h1,h2⟩;exact⟨h1,by unfold eo;omega⟩
 ·rintro ⟨h1,h2⟩;exact⟨h1,by unfold eo at h2;omega⟩
theorem jb.res{t t1:c_}{c:Int}{x:aI.D}{r:an.D}(ht:fD t=true)(h:jb t c x t1 r):ug r=true:=by
 rw [acJ]
 cases h with
 | bad=>exact⟨by decide,by simp [eo]⟩
 | CE=>exact⟨by decide,by simp [eo]⟩
 | perm=>exact⟨by decide,by simp [eo]⟩
 | neg=>exact⟨by decide,by simp [eo]⟩
 | told _ _ _ _ n=>have:=ar6 (oy ht).2.2.1 n 6 n [];refine⟨⟨Int.le_refl 0,by show(0:Int)≤200;decide⟩,?_⟩;show(ld t.2.2.1 n 6 n []).length≤400;simp only [List.length_nil] at this;omega
 | CF=>exact⟨by decide,by simp [eo]⟩
 | full=>exact⟨by decide,by simp [eo]⟩
 | CG _ _ _ _ w k s hr=>exact⟨hr.rg,hr.len⟩
theorem ar7(n k:Int)(h:0≤n):0≤(lO n k).1∧(lO n k).1≤n:=by
 unfold lO;have:=R3 k;split
 ·exact⟨h,Int.le_refl _⟩
 ·exact⟨by simp only;omega,by simp only;omega⟩
theorem jb.kept{t t1:c_}{c:Int}{x:aI.D}{r:an.D}(ht:fD t=true)(h:jb t c x t1 r) :
  k4 t1.1=true∧(0≤t1.2.1∧t1.2.1≤t.2.1)∧(t1.2.2.1=t.2.2.1∨t1.2.2.1=[]∧aD x=22∧R_ r=0):=by
 obtain ⟨xf,kQ,sf,hvo⟩:=oy ht;have hs:=ar7 t.2.1 (aD x) kQ.1
 cases h with
 | bad=>exact⟨hvo,⟨kQ.1,Int.le_refl _⟩,.inl rfl⟩
 | CE=>exact⟨hvo,⟨kQ.1,Int.le_refl _⟩,.inl rfl⟩
 | perm=>exact⟨hvo,hs,.inl rfl⟩
 | neg=>exact⟨hvo,hs,.inl rfl⟩
 | told=>exact⟨hvo,hs,.inl rfl⟩
 | CF _ _ hk=>exact⟨hvo,hs,.inr ⟨rfl,hk,rfl⟩⟩
 | full=>exact⟨hvo,hs,.inl rfl⟩
 | CG _ _ _ _ w k s hr=>exact⟨hr.ok hvo,hs,.inl rfl⟩
theorem R'(f:Nat→Int)(a:Int):∀n,a≤hT f a n∧∀i,i<n→f i≤hT f a n
 | 0=>⟨Int.le_refl _,fun i hi=>by omega⟩
 | n+1=>by
  obtain ⟨h1,h2⟩:=R' f a n;have:hT f a n≤hT f a (n+1)∧f n≤hT f a (n+1):=by rw [hT];unfold fH;split <;> omega
  refine⟨by omega,fun i hi=>?_⟩;by_cases e:i=n
  ·subst e;exact this.2
  ·have:=h2 i (by omega);omega
theorem ar8(t:c_){i:Nat}(hi:i<t.2.2.1.length):la t.2.2.1 i≤ox t:=by unfold ox;have h1:=(R' (la t.2.2.1) 0 t.2.2.1.length).2 i hi;have h2:=(R' (mu t.2.2.2.1) (hT (la t.2.2.1) 0 t.2.2.1.length) t.2.2.2.1.length).1;omega
theorem ar9{t:c_}{c bG index:Int} : oA t c bG index=true↔(1≤c∧c≤3)∧(1≤bG∧bG≤1000000)∧(1≤index∧index≤100000)∧ox t≤index:=by
 unfold oA;simp only [Bool.and_eq_true,cR,Bool.not_eq_true',decide_eq_false_iff_not];constructor
 ·rintro ⟨h1,h2,h3,h4⟩;exact⟨h1,h2,h3,by omega⟩
 ·rintro ⟨h1,h2,h3,h4⟩;exact⟨h1,h2,h3,by omega⟩
theorem Sa{t:ad}{l:List t.D}{x:t.D}{i:Nat}(h:i<l.length):I t (l++[x]) i=I t l i:=by rw [c2 (by rw [List.length_append];omega),c2 h,List.getElem_append_left h]
theorem ar_{t:ad}{l:List t.D}{x:t.D} : I t (l++[x]) l.length=x:=by rw [c2 (by rw [List.length_append,List.length_singleton];omega),List.getElem_append_right (Nat.le_refl _)];simp
theorem ar'{l:List a6.D}(h:hd l=true)(hl:l.length<20){n:a6.D}(hn:acx n)(hi:∀i,i<l.length→ny (I a6 l i)≤ny n):hd (l++[n])=true:=by
 unfold hd at h ⊢;rw [Bool.and_eq_true] at h ⊢;refine⟨gZ.2 fun i gw=>?_,decide_eq_true (by rw [List.length_append,List.length_singleton];omega)⟩;rw [List.length_append,List.length_singleton] at gw;by_cases e:i<l.length
 ·have:=gZ.1 h.1 i e;unfold uh at this ⊢;rw [Sa e,Sa (by omega)];exact this
 ·have e:i=l.length:=by omega
  subst e;unfold uh;rw [ar_];simp only [Bool.and_eq_true,cR,Bool.not_eq_true',Bool.and_eq_false_iff,decide_eq_false_iff_not];refine⟨⟨⟨⟨⟨hn.a,?_⟩,hn.b⟩,hn.c⟩,hn.d⟩,hn.e⟩;by_cases h0:0<l.length
  ·refine .inr ?_;rw [Sa (by omega)];exact Int.not_lt.2 (hi (l.length-1) (by omega))
  ·exact .inl h0
def gN(s:bP.D):Int:=s.1
def acK(s:bP.D):Int:=s.2.1
def acL(s:bP.D):Int:=s.2.2.1
def Sb(s:bP.D):Prop:=(1≤gN s∧gN s≤3)∧(1≤acK s∧acK s≤1000000)∧(1≤acL s∧acL s≤100000)∧ug s.2.2.2.1=true
theorem acM{l:List bP.D} : fo l.length (nx l)=true↔(∀s,s∈l→Sb s)∧(∀i,i+1<l.length→gN (I bP l i)<gN (I bP l (i+1))):=by
 rw [gZ];unfold nx;simp only [Bool.and_eq_true,cR,Bool.not_eq_true',Bool.and_eq_false_iff,decide_eq_false_iff_not];constructor
 ·intro h;refine⟨fun s hs=>?_,fun i hi=>?_⟩
  ·obtain ⟨i,hi,rfl⟩:=fA hs;have:=h i hi;exact⟨this.1.1.1.1,this.1.1.2,this.1.2,this.2⟩
  ·rcases (h (i+1) hi).1.1.1.2 with h1 | h1
   ·omega
   ·rw [Nat.add_sub_cancel] at h1;exact Int.not_le.1 h1
 ·rintro ⟨h1,h2⟩ i hi
  have:=h1 _ (c9 hi);refine⟨⟨⟨⟨this.1,?_⟩,this.2.1⟩,this.2.2.1⟩,this.2.2.2⟩
  cases i with
  | zero=>exact .inl (by omega)
  | succ i=>rw [Nat.add_sub_cancel];exact .inr (Int.not_le.2 (h2 i hi))
theorem Sc:∀(l:List bP.D),(∀i,i+1<l.length→gN (I bP l i)<gN (I bP l (i+1)))↔(l.map gN).Pairwise (· < ·)
 | []=>⟨fun _=>List.Pairwise.nil,fun _ i hi=>by simp at hi⟩
 | [x]=>⟨fun _=>by simp,fun _ i hi=>by simp at hi⟩
 | x :: y :: l=>by
  have ih:=Sc (y :: l);constructor
  ·intro h;have h1:gN x<gN y:=h 0 (by simp);have h2:((y :: l).map gN).Pairwise (· < ·):=ih.1 fun i hi=>h (i+1) (by simpa using hi)
   rw [List.map_cons,List.pairwise_cons];refine⟨fun z hz=>?_,h2⟩;rw [List.map_cons] at h2 hz;rcases List.mem_cons.1 hz with rfl | hz
   ·exact h1
   ·have:=(List.pairwise_cons.1 h2).1 z hz;omega
  ·intro h i hi;rw [List.map_cons,List.pairwise_cons] at h
   cases i with
   | zero=>exact h.1 (gN y) List.mem_cons_self
   | succ i=>exact ih.2 h.2 i (by simpa using hi)
theorem asa(l:List bP.D)(c:Int):∀s,s∈l.take (eA l c)→gN s<c:=by
 intro s hs;unfold eA at hs;have:l.take (l.takeWhile fun s=>decide (s.1<c)).length=l.takeWhile fun s=>decide (s.1<c):=Jb _ _
 rw [this] at hs;exact of_decide_eq_true (QV (p:=fun s:bP.D=>decide (s.1<c)) hs)
theorem asb{l:List bP.D}(h:(l.map gN).Pairwise (· < ·))(c:Int):∀s,s∈l.drop (eA l c)→c≤gN s:=by
 intro s hs;have hle:=zC l c;by_cases bO:eA l c<l.length
 ·have hst:=(JJ (fun s:bP.D=>decide (s.1<c)) l (eA l c) bO (Nat.le_refl _)).1
  have h0:c≤gN l[eA l c]:=by
   refine Int.not_lt.1 fun hh=>?_
   have:=hst (decide_eq_true hh);have:eA l c+1≤eA l c:=this;omega
  rw [List.drop_eq_getElem_cons bO] at hs;have aw:((l.drop (eA l c)).map gN).Pairwise (· < ·):=by rw [List.map_drop];exact h.drop
  rw [List.drop_eq_getElem_cons bO,List.map_cons,List.pairwise_cons] at aw;rcases List.mem_cons.1 hs with rfl | hs
  ·exact h0
  ·have:=aw.1 (gN s) (List.mem_map_of_mem hs);omega
 ·rw [List.drop_of_length_le (by omega)] at hs;simp at hs
theorem acN{l:List bP.D}{c:Int} : hS l c=true↔eA l c<l.length∧gN (I bP l (eA l c))=c:=by unfold hS;rw [Bool.and_eq_true,decide_eq_true_eq,beq_iff_eq];rfl
theorem asc{l:List bP.D}(h:fo l.length (nx l)=true){c:Int}{s:bP.D}(hs:Sb s)(hc:gN s=c):fo (lP l c s).length (nx (lP l c s))=true:=by
 obtain ⟨h1,h2⟩:=acM.1 h;have aw:=(Sc l).1 h2;refine acM.2 ⟨fun x hx=>?_,?_⟩
 ·rcases acH hx with hx | rfl
  ·exact h1 x hx
  ·exact hs
 ·refine(Sc _).2 ?_;unfold lP
  cases hb:hS l c with
  | true=>
   obtain ⟨g1,g2⟩:=acN.1 hb;simp only [cond_true]
   have:(l.set (eA l c) s).map gN=l.map gN:=by
    rw [List.map_set];refine List.ext_getElem (by simp) fun i hi hj=>?_
    rw [List.getElem_set];split
    ·rename_i e;rw [List.getElem_map];have e2:l[i]'(by simpa using hj)=I bP l (eA l c):=by rw [c2 g1];simp only [e]
     rw [e2,g2,hc]
    ·rfl
   rw [this];exact aw
  | false=>
   simp only [cond_false];have bO:=asa l c;have xR:=asb aw c
   have ot:∀x,x∈l.drop (eA l c)→c<gN x:=by
    intro x hx;have:=xR x hx;by_cases e:gN x=c
    ·exfalso
     have CJ:eA l c<l.length:=by
      rcases Nat.lt_or_ge (eA l c) l.length with h | h
      ·exact h
      ·rw [List.drop_of_length_le h] at hx;simp at hx
     have hne:gN (I bP l (eA l c))≠c:=fun e=>by have:=acN.2 ⟨CJ,e⟩;rw [hb] at this;cases this
     rw [List.drop_eq_getElem_cons CJ] at hx;rcases List.mem_cons.1 hx with rfl | lu
     ·rw [c2 CJ] at hne;exact hne e
     ·have n0:((l.drop (eA l c)).map gN).Pairwise (· < ·):=by
       rw [List.map_drop];exact aw.drop
      rw [List.drop_eq_getElem_cons CJ,List.map_cons,List.pairwise_cons] at n0;have h3:=n0.1 (gN x) (List.mem_map_of_mem lu);have h4:=xR l[eA l c] (by rw [List.drop_eq_getElem_cons CJ];exact List.mem_cons_self);omega
    ·omega
   rw [List.map_append,List.map_append,List.pairwise_append,List.pairwise_append];refine⟨⟨by rw [List.map_take];exact aw.take,by simp,?_⟩,by rw [List.map_drop];exact aw.drop,?_⟩
   ·intro a ha b hb;obtain ⟨y,aR,rfl⟩:=List.mem_map.1 ha;simp only [List.map_cons,List.map_nil,List.mem_singleton] at hb;subst hb;rw [hc];exact bO y aR
   ·intro a ha b hb;obtain ⟨z,hz,rfl⟩:=List.mem_map.1 hb;have hz2:=ot z hz;rcases List.mem_append.1 ha with ha | ha
    ·obtain ⟨y,aR,rfl⟩:=List.mem_map.1 ha;have:=bO y aR;omega
    ·simp only [List.map_cons,List.map_nil,List.mem_singleton] at ha;subst ha;omega
theorem oC.ok{t cO:c_}{c bG index:Int}{x:aI.D}{r:an.D}{b:Bool}(ht:fD t=true)(h:oC t c bG x index cO r b):fD cO=true:=by
 cases h with
 | off=>exact ht
 | again=>exact ht
 | late=>exact ht
 | JN hn h1 t1 r hr=>
  obtain ⟨fk,kk,JO,R9⟩:=ar9.1 hn;obtain ⟨xf,kQ,sf,hvo⟩:=oy ht;obtain ⟨k1,k2,k3⟩:=hr.kept ht;have tZ:=hr.res ht;obtain ⟨er,fc,gu,fU⟩:=acI t1 c bG index x r
  have acO:hd t1.2.2.1=true:=by
   rcases k3 with e | ⟨e,_⟩
   ·rw [e];exact sf
   ·rw [e];rfl
  have asd:hd (iE t1 c bG index x r).2.2.1=true:=by
   rcases fU with e | ⟨e,hl,bS⟩
   ·rw [e];exact acO
   ·rw [e];refine ar' acO hl ⟨JO,fk,kk,?_,(acJ.1 tZ).1⟩ fun i hi=>?_
    ·unfold notes at bS;simp only [Bool.and_eq_true] at bS;exact(r8.1 bS.2.1).dj
    ·rcases k3 with e | ⟨e,_⟩
     ·rw [e] at hi ⊢;exact Int.le_trans (ar8 t hi) R9
     ·rw [e] at hi;simp at hi
  have hs:Sb ((c,bG,index,r,()):bP.D):=⟨fk,kk,JO,tZ⟩;have ase:=asc xf hs rfl;unfold fD;simp only [Bool.and_eq_true];refine⟨?_,?_,asd,?_⟩
  ·show fo (lP (iE t1 c bG index x r).2.2.2.1 c (c,bG,index,r,())).length (nx (lP (iE t1 c bG index x r).2.2.2.1 c (c,bG,index,r,())))=true;rw [gu,hr.R6];exact ase
  ·show ct (iE t1 c bG index x r).2.1 0 30=true;rw [fc];exact cR.2 ⟨k2.1,Int.le_trans k2.2 kQ.2⟩
  ·show k4 (iE t1 c bG index x r).1=true;rw [er];exact k1
def uo(n:Int):Int:=if n>26 then 30 else n+4
theorem asf{n:Int}(h:0≤n∧n≤30):0≤uo n∧uo n≤30:=by unfold uo;split <;> omega
theorem asg{n:Int}(h:0≤n∧n≤30):Pt (n,())=some (uo n,()):=by
 show Ps n=_;unfold Ps uo;rw [decide_eq_false (by omega)];by_cases h1:n>26
 ·rw [decide_eq_true h1,if_pos h1];rfl
 ·rw [decide_eq_false h1,if_neg h1,cG (by omega) (by omega)];rfl
theorem ash{n:Int}(h:0≤n∧n≤30):OT (n,())=some (uo n,()):=by
 show OS n=_;unfold OS uo;rw [decide_eq_false (by omega)];by_cases h1:n>26
 ·rw [decide_eq_true (by omega),if_pos h1];rfl
 ·rw [if_neg h1];by_cases h2:n≥26
  ·rw [decide_eq_true h2,show n=26 by omega];rfl
  ·rw [decide_eq_false h2,cG (by omega) (by omega)];rfl
def tick(t:c_):c_:=(t.1,uo t.2.1,t.2.2.1,t.2.2.2.1,())
theorem JP{t:c_}(h:fD t=true):fD (tick t)=true:=by obtain ⟨h1,h2,h3,h4⟩:=oy h;unfold fD;simp only [Bool.and_eq_true];exact⟨h1,cR.2 (asf h2),h3,h4⟩
def CK:c_:=((2,[(1,2,1023,0,0,[],[],0,0,())],()),30,[],[],())
theorem asi:fD CK=true:=by decide +kernel
theorem asj:Pj ()=some (CK,()):=rfl
theorem asl:OR ()=some (CK,()):=rfl
def enc(n:Nat):aj:=if h:n<128 then [UInt8.ofNat n] else UInt8.ofNat (128+n % 128) :: enc (n / 128)
termination_by n
decreasing_by omega
theorem zD{n:Nat}(h:n<128):enc n=[UInt8.ofNat n]:=by rw [enc,dif_pos h]
theorem CL{n:Nat}(h:128≤n):enc n=UInt8.ofNat (128+n % 128) :: enc (n / 128):=by rw [enc,dif_neg (by omega)]
abbrev acP:Int:=562949953421311
def fr(n:Int):aj:=if ct n 0 acP then enc n.toNat else []
theorem acQ(a b:List Int):eS (a++b)=eS a++eS b:=by simp [eS]
theorem wrap_u8{n:Nat}(h:n<256):IntKind.wrap .u8 (n:Int)=n:=by simp [IntKind.wrap,IntKind.bits,IntKind.signed];omega
theorem asm{n:Nat}(h:n<256):eS [IntKind.wrap .u8 (n:Int)]=[UInt8.ofNat n]:=by rw [wrap_u8 h];simp [eS]
theorem asn{x:Nat}(h:x<9223372036854775808):cY .and .i64 (x:Int) 127=((x % 128:Nat):Int):=by have:=bits_nat .and x 127;simp only at this;rw [show((127:Nat):Int)=127 from rfl] at this;rw [this,BitVec.toNat_and,BitVec.toNat_ofNat,BitVec.toNat_ofNat];rw [show(127 % 2 ^ 64)=2 ^ 7-1 from rfl,Nat.and_two_pow_sub_one_eq_mod,Nat.mod_eq_of_lt (show x<2 ^ 64 by omega)];exact cG (by omega) (by omega)
theorem acR(n:Nat):Int.tmod (n:Int) 128=((n % 128:Nat):Int):=by rw [show(128:Int)=((128:Nat):Int) from rfl,← Int.ofNat_tmod]
theorem aso(n:Nat):Int.tdiv (n:Int) 128=((n / 128:Nat):Int):=by rw [show(128:Int)=((128:Nat):Int) from rfl,← Int.ofNat_tdiv]
theorem asq(L:Nat→Int→List Int→Option (aj×Unit))(vj:∀m (n:Nat) out,n<1000000000000000→out.length≤100→L (m+1) (n:Int) out=if n<128 then some (eS out++[UInt8.ofNat n],()) else L m ((n / 128:Nat):Int) (out++[((128+n % 128:Nat):Int)])) :
  ∀(k n:Nat) (out:List Int) (m:Nat),n<128 ^ (k+1)→n<1000000000000000→out.length+k≤100→k<m→L m (n:Int) out=some (eS out++enc n,()):=by
 intro k
 induction k with
 | zero=>
  intro n out m h h2 h3 hm;obtain ⟨m,rfl⟩:∃q,m=q+1:=⟨m-1,by omega⟩
  rw [vj m n out h2 (by omega),if_pos (by omega),zD (by omega)]
 | succ k ih=>
  intro n out m h h2 h3 hm;obtain ⟨m,rfl⟩:∃q,m=q+1:=⟨m-1,by omega⟩
  rw [vj m n out h2 (by omega)];by_cases hn:n<128
  ·rw [if_pos hn,zD hn]
  ·rw [if_neg hn,ih _ _ m (by rw [Nat.pow_succ] at h;omega) (by omega) (by simp;omega) (by omega),CL (n:=n) (by omega),acQ,List.append_assoc];rfl
theorem asr{n:Nat}(h:n<256):IntKind.wrap .u8 (n:Int)=n:=wrap_u8 h
theorem ass:(128:Nat) ^ (9+1)=1180591620717411303424:=by decide
theorem uq(n:Int):qo (n,())=some (fr n,()):=by
 show HL (yL aM) n=_;unfold HL fr;simp only [ka,al];cases hr:ct n 0 acP
 ·rfl
 obtain ⟨h1,h2⟩:=cR.1 hr;have h2:n≤562949953421311:=h2;simp only [Bool.not_true,cond_false,if_true];obtain ⟨k,rfl⟩:∃k:Nat,n=k:=⟨n.toNat,by omega⟩
 rw [Int.toNat_natCast]
 have:=asq yL (fun m n out hn ho=>by
  simp only [yL,O3];by_cases h:n<128
  ·rw [decide_eq_false (by omega),if_pos h,cond_false,b_ (by simp;omega),acQ,asm (by omega)];rfl
  ·rw [decide_eq_true (by omega),if_neg h,cond_true,b_ (by simp;omega)];simp only [cond_true,WT];rw [acR,aso,cG (a:=128 +((n % 128:Nat):Int)) (by omega) (by omega),cG (by omega) (by omega)]
   rw [show(128 +((n % 128:Nat):Int))=((128+n % 128:Nat):Int) by omega,asr (by omega)]) 9 k [] aM (by rw [ass];omega) (by omega) (by simp) (iU (by omega))
 simpa [eS] using this
def fS:Nat→Bool→aj→Option (Nat×Nat)
 | 0,_,_=>none
 | _+1,_,[]=>none
 | k+1,f,b :: s=>
  if b.toNat>127 then(fS k false s).map fun r=>(r.1*128+b.toNat % 128,r.2+1)
  else if b.toNat=0∧f=false then none else some (b.toNat,1)
theorem Sd(b:UInt8):b.toNat<256:=b.toNat_lt
theorem sg:∀(k:Nat) (f:Bool) (s:aj) (n c:Nat),fS k f s=some (n,c)→1≤c∧c≤k∧c≤s.length∧s.take c=enc n∧n<128 ^ k∧(f=false→1≤n)
 | 0,_,_,_,_,h=>by simp [fS] at h
 | _+1,_,[],_,_,h=>by simp [fS] at h
 | k+1,f,b :: s,n,c,h=>by
  rw [fS] at h;have hb:=Sd b;have aw:0<128 ^ k:=Nat.pow_pos (by omega);split at h
  ·rename_i aC
   cases hr:fS k false s with
   | none=>rw [hr] at h;simp at h
   | some r=>
    obtain ⟨dn,c'⟩:=r;rw [hr] at h;simp only [Option.map_some,Option.some.injEq,Prod.mk.injEq] at h;obtain ⟨rfl,rfl⟩:=h;obtain ⟨h1,h2,h3,h4,a7,bh⟩:=sg k false s dn c' hr;have bh:=bh rfl;refine⟨by omega,by omega,by simp;omega,?_,?_,fun _=>by omega⟩
    ·rw [List.take_succ_cons,h4,CL (n:=dn*128+b.toNat % 128) (by omega)];congr 1
     ·rw [show(dn*128+b.toNat % 128) % 128=b.toNat % 128 by omega,show 128+b.toNat % 128=b.toNat by omega];simp
     ·rw [show(dn*128+b.toNat % 128) / 128=dn by omega]
    ·rw [Nat.pow_succ];have:dn*128+128≤128 ^ k*128:=by have:=Nat.mul_le_mul_right 128 (show dn+1≤128 ^ k by omega);omega
     omega
  ·rename_i aC;split at h
   ·simp at h
   ·rename_i hz;simp only [Option.some.injEq,Prod.mk.injEq] at h;obtain ⟨rfl,rfl⟩:=h;refine⟨by omega,by omega,by simp,?_,?_,fun hf=>?_⟩
    ·rw [zD (by omega)];simp
    ·rw [Nat.pow_succ];omega
    ·rcases Nat.eq_zero_or_pos b.toNat with h0 | h0
     ·exact absurd ⟨h0,hf⟩ hz
     ·exact h0
theorem ast(n:Nat):1≤(enc n).length:=by rw [enc];split <;> simp
theorem asu:∀(k:Nat) (f:Bool) (n:Nat) (t:aj),(enc n).length≤k→(f=false→1≤n)→fS k f (enc n++t)=some (n,(enc n).length):=by
 intro k
 induction k with
 | zero=>intro f n t h;have:=ast n;omega
 | succ k ih=>
  intro f n t h hf;by_cases hn:n<128
  ·rw [zD hn];have hb:(UInt8.ofNat n).toNat=n:=by simp;omega
   simp only [List.singleton_append,fS,hb];rw [if_neg (by omega),if_neg (fun h=>by have:=hf h.2;omega)];rfl
  ·rw [CL (by omega)] at h ⊢;have hb:(UInt8.ofNat (128+n % 128)).toNat=128+n % 128:=by simp;omega
   simp only [List.cons_append,fS,hb];rw [if_pos (by omega),ih false (n / 128) t (by simp at h;omega) (fun _=>by omega)];simp only [Option.map_some,List.length_cons,Option.some.injEq,Prod.mk.injEq,and_true];omega
theorem asv{a r i:Nat}(ha:a<128 ^ i)(hr:r<128)(hi:i≤6):cY .or .i64 (a:Int) (((r*2 ^ (7*i):Nat)):Int)=((a+r*128 ^ i:Nat):Int):=by
 have:=bits_nat .or a (r*2 ^ (7*i));simp only at this;have aw:(128:Nat) ^ i=2 ^ (7*i):=by rw [Nat.pow_mul]
 have hle:(2:Nat) ^ (7*i)≤2 ^ 42:=Nat.pow_le_pow_right (by omega) (by omega);have hc:(2:Nat) ^ 42=4398046511104:=by decide
 have hm:r*2 ^ (7*i)≤127*2 ^ (7*i):=Nat.mul_le_mul_right _ (by omega);rw [this,BitVec.toNat_or,BitVec.toNat_ofNat,BitVec.toNat_ofNat,Nat.mod_eq_of_lt (show a<2 ^ 64 by omega),Nat.mod_eq_of_lt (show r*2 ^ (7*i)<2 ^ 64 by omega),← Nat.shiftLeft_eq,Nat.or_comm,← Nat.shiftLeft_add_eq_or_of_lt (by omega),Nat.shiftLeft_eq,aw];rw [show r*2 ^ (7*i)+a=a+r*2 ^ (7*i) by omega];exact cG (by omega) (by omega)
def oD:Option (Nat×Nat)→Int×Int×Unit
 | none=>(0,0,())
 | some r=>((r.1:Int),(r.2:Int),())
def zE(i a:Nat)(o:Option (Nat×Nat)):Option (Nat×Nat):=o.map fun r=>(a+128 ^ i*r.1,i+r.2)
theorem asw(s:aj):∀(d i a m:Nat),i+d=7→a<128 ^ i→d<m→wH m s (a:Int) (i:Int)=some (oD (zE i a (fS d (i==0) (s.drop i)))):=by
 intro d
 induction d with
 | zero=>
  intro i a m hi ha hm;obtain ⟨m,rfl⟩:∃q,m=q+1:=⟨m-1,by omega⟩
  simp only [wH,H4];rw [show decide ((i:Int)<7)=false from decide_eq_false (by omega)];cases decide ((i:Int)<(s.length:Int)) <;> rfl
 | succ d ih=>
  intro i a m hi ha hm;obtain ⟨m,rfl⟩:∃q,m=q+1:=⟨m-1,by omega⟩
  simp only [wH,H4];by_cases hl:i<s.length
  case neg=>rw [cw (by omega),List.drop_of_length_le (by omega)];rfl
  rw [b1 hl,decide_eq_true (show(i:Int)<7 by omega),br hl];simp only [cond_true,al];have CB:s.drop i=s.getD i 0 :: s.drop (i+1):=by rw [List.getD_eq_getElem?_getD,List.getElem?_eq_getElem hl];exact List.drop_eq_getElem_cons hl
  generalize s.getD i 0=b at *;have hb:=Sd b;rw [CB];rw [cG (a:=7*(i:Int)) (by omega) (by omega),decide_eq_true (show(0:Int)≤7*(i:Int) by omega),cG (a:=(b.toNat:Int)) (by omega) (by omega)];simp only [cond_true];rw [asn (by omega),show(7*(i:Int)).toNat=7*i by omega,show min (7*i) 64=7*i by omega];have aud:(2:Nat) ^ (7*i)≤2 ^ 42:=Nat.pow_le_pow_right (by omega) (by omega);have hc:(2:Nat) ^ 42=4398046511104:=by decide
  have sL:(b.toNat % 128)*2 ^ (7*i)≤127*2 ^ (7*i):=Nat.mul_le_mul_right _ (by omega);rw [show(((b.toNat % 128:Nat):Int)*2 ^ (7*i))=(((b.toNat % 128)*2 ^ (7*i):Nat):Int) by rw [Int.natCast_mul,Int.natCast_pow];rfl];rw [show IntKind.wrap .i64 (((b.toNat % 128)*2 ^ (7*i):Nat):Int)=(((b.toNat % 128)*2 ^ (7*i):Nat):Int) from cG (by omega) (by omega)];rw [asv ha (by omega) (by omega),dA i (by omega)];simp only [fS];by_cases aC:b.toNat>127
  ·rw [decide_eq_true (show(b.toNat:Int)>127 by omega),if_pos aC];simp only [cond_true]
   rw [ih (i+1) (a+b.toNat % 128*128 ^ i) m (by omega) (by
    rw [Nat.pow_succ];have:b.toNat % 128*128 ^ i≤127*128 ^ i:=Nat.mul_le_mul_right _ (by omega)
    omega) (by omega)]
   rw [show(i+1==0)=false from rfl]
   cases fS d false (s.drop (i+1)) with
   | none=>rfl
   | some r=>simp only [zE,Option.map_some,oD,Option.some.injEq,Prod.mk.injEq,and_true];refine⟨?_,by omega⟩;rw [Nat.pow_succ,Nat.mul_add,show 128 ^ i*(r.1*128)=128 ^ i*128*r.1 by rw [Nat.mul_comm r.1 128,Nat.mul_assoc],Nat.mul_comm (b.toNat % 128)];generalize 128 ^ i*128*r.1=X;generalize 128 ^ i*(b.toNat % 128)=Y;omega
  ·rw [decide_eq_false (show ¬(b.toNat:Int)>127 by omega),if_neg aC];simp only [cond_false];by_cases hz:b.toNat=0
   ·rw [show((b.toNat:Int)==0)=true by simp [hz]];by_cases h0:i=0
    ·subst h0;rw [if_neg (by simp),hz];simp [oD,zE]
    ·rw [if_pos ⟨hz,by simpa using h0⟩,decide_eq_true (show(i:Int)>0 by omega)];rfl
   ·rw [show((b.toNat:Int)==0)=false by simp;omega,if_neg (fun h=>hz h.1)];simp only [cond_false,zE,Option.map_some,oD,Option.some.injEq,Prod.mk.injEq,and_true];rw [Nat.mod_eq_of_lt (by omega),Nat.mul_comm]
theorem Se(s:aj):Pk (s,())=some (oD (fS 7 true s)):=by
 show H0 (wH aM) s=_;unfold H0;have:=asw s 7 0 0 aM (by omega) (by simp) (iU (by omega));rw [show(((0:Nat):Int))=0 from rfl] at this;rw [this]
 cases h:fS 7 true s with
 | none=>simp [h,zE,oD]
 | some r=>simp [h,zE,oD]
def hU:aj→Nat
 | []=>0
 | b :: t=>hU t*128+b.toNat % 128
theorem acS:∀l:aj,hU l<128 ^ l.length
 | []=>by simp [hU]
 | b :: t=>by have:=acS t;simp only [hU,List.length_cons,Nat.pow_succ];have h:=Nat.mul_le_mul_right 128 (show hU t+1≤128 ^ t.length by omega);omega
theorem asx(n:Nat):hU (enc n)=n:=by
 induction n using Nat.strongRecOn with
 | _ n ih=>
  by_cases h:n<128
  ·rw [zD h];have hb:(UInt8.ofNat n).toNat=n:=by simp;omega
   simp only [hU,hb];omega
  ·rw [CL (by omega)];have hb:(UInt8.ofNat (128+n % 128)).toNat=128+n % 128:=by simp;omega
   simp only [hU,hb];rw [ih (n / 128) (by omega)];omega
theorem JQ:(128:Nat) ^ 7=562949953421312:=by decide
theorem acT{n:Nat}(h:n<128 ^ 7):fr (n:Int)=enc n:=by unfold fr;rw [JQ] at h;rw [if_pos (cR.2 ⟨by omega,by show(n:Int)≤562949953421311;omega⟩),Int.toNat_natCast]
def ge(k:Nat)(o:Option (Nat×Nat)):Option (Nat×Nat):=o.bind fun r=>if k≤r.2 then some r else none
theorem acU(s:aj)(k:Nat)(hk:1≤k)(bJ:k≤7)(hl:k≤s.length):bw (fr (hU (s.take k):Int)) (s.take k)=true↔fS 7 true s=some (hU (s.take k),k):=by
 have hlen:(s.take k).length=k:=by simp;omega
 rw [xd,decide_eq_true_eq];constructor
 ·intro h
  have hv:fr (hU (s.take k):Int)=enc (hU (s.take k)):=by
   unfold fr at h ⊢;split
   ·rw [Int.toNat_natCast]
   ·rename_i hn;rw [if_neg hn] at h;rw [← h] at hlen;simp at hlen;omega
  rw [hv] at h;have h2:=asu 7 true (hU (s.take k)) (s.drop k) (by rw [h,hlen];exact bJ) (by simp);rw [h,List.take_append_drop] at h2;rw [h2,hlen]
 ·intro h;obtain ⟨h1,h2,h3,h4,a7,bh⟩:=sg 7 true s _ _ h;rw [acT a7,← h4]
theorem asy(s:aj)(hs:s.length≤1048576):∀(d k:Nat),k+d=8→1≤k→b3 (fun m=>(mi m).k2 s (k:Int)) (1+d*10) (some (oD (ge k (fS 7 true s)))):=by
 have acV:∀k,(7<k∨s.length<k)→ge k (fS 7 true s)=none:=by
  intro k hk
  cases h:fS 7 true s with
  | none=>rfl
  | some r=>obtain ⟨h1,h2,h3,_⟩:=sg 7 true s r.1 r.2 h;unfold ge;simp only [al];rw [if_neg (by omega)]
 intro d
 induction d with
 | zero=>intro k hk h1;rw [acV k (by omega)];refine(b3.done fun m=>?_).mono (by omega);show wE (mi m) _ _=_;unfold wE;rw [decide_eq_false (by omega)];rfl
 | succ d ih=>
  intro k hk h1;by_cases hl:k≤s.length
  case neg=>rw [acV k (by omega)];refine(b3.done fun m=>?_).mono (by omega);show wE (mi m) _ _=_;unfold wE;rw [decide_eq_true (show(k:Int)≤7 by omega),decide_eq_false (by omega)];rfl
  have ih:=ih (k+1) (by omega) (by omega);have hv:∀j,hU ((s.take k).drop j)<562949953421312:=by intro j;have h2:=acS ((s.take k).drop j);have h3:(128:Nat) ^ ((s.take k).drop j).length≤128 ^ 7:=Nat.pow_le_pow_right (by omega) (by simp;omega);rw [JQ] at h3;omega
  have hin:∀j,j≤k→b3 (fun m=>(mi m).df s (k:Int) (hU ((s.take k).drop j):Int) ((j:Int)-1)) (1+d*10+1+j) (some (oD (ge k (fS 7 true s)))):=by
   intro j
   induction j with
   | zero=>
    intro _;have hz:=hv 0;rw [List.drop_zero] at hz
    have hb:∀m,(mi (m+1)).df s (k:Int) (hU ((s.take k).drop 0):Int) (((0:Nat):Int)-1)=cond (bw (fr (hU (s.take k):Int)) (s.take k)) (some ((hU (s.take k):Int),(k:Int),())) ((mi m).k2 s ((k+1:Nat):Int)):=by
     intro m;have asz:∀a b c d,(mi (m+1)).df a b c d=Bu (mi m) a b c d:=fun _ _ _ _=>rfl
     rw [asz];unfold Bu;rw [List.drop_zero,decide_eq_false (by omega)];simp only [cond_false];unfold dh;rw [if_pos ⟨by omega,by omega,by omega⟩];simp only [al];rw [uq,dA k (by omega)];simp only [al,Int.toNat_natCast];rw [show part s (Int.toNat 0) (k-Int.toNat 0)=s.take k from pz s k]
    cases hc:bw (fr (hU (s.take k):Int)) (s.take k)
    ·have aC:ge k (fS 7 true s)=ge (k+1) (fS 7 true s):=by
      cases h:fS 7 true s with
      | none=>rfl
      | some r=>
       unfold ge;simp only [al];by_cases acW:k=r.2
       ·obtain ⟨g1,g2,g3,g4,g5,g6⟩:=sg 7 true s r.1 r.2 h;rw [← acW] at g4;have:hU (s.take k)=r.1:=by rw [g4,asx]
        have h2:=(acU s k h1 (by omega) hl).2 (by rw [h,this,acW]);rw [hc] at h2;cases h2
       ·by_cases hle:k≤r.2
        ·rw [if_pos hle,if_pos (by omega)]
        ·rw [if_neg hle,if_neg (by omega)]
     rw [aC];exact ih.step fun m=>by rw [hb,hc];rfl
    ·have hr:=(acU s k h1 (by omega) hl).1 hc;rw [hr];refine(b3.done fun m=>?_).mono (by omega);rw [hb,hc];unfold ge;simp only [al,cond_true];rw [if_pos (Nat.le_refl _)];rfl
   | succ j asA=>
    intro hj;have hx:=asA (by omega);have hjl:j<s.length:=by omega
    have af:(s.take k).drop j=s.getD j 0 ::(s.take k).drop (j+1):=by
     have asB:j<(s.take k).length:=by simp;omega
     rw [List.drop_eq_getElem_cons asB];congr 1;rw [List.getElem_take,List.getD_eq_getElem?_getD,List.getElem?_eq_getElem hjl];rfl
    rw [af] at hx;refine hx.step fun m=>?_
    show Bu (mi m) _ _ _ _=_;unfold Bu;rw [show((j+1:Nat):Int)-1=(j:Int) by omega,decide_eq_true (show(j:Int)≥0 by omega),br hjl];simp only [cond_true,al,hU];have aue:=hv (j+1);have z7:=Sd (s.getD j 0);rw [cG (a:=((s.getD j 0).toNat:Int)) (by omega) (by omega),acR,cG (a:=(hU ((s.take k).drop (j+1)):Int)*128) (by omega) (by omega),cG (by omega) (by omega),cG (a:=(j:Int)-1) (by omega) (by omega)];rw [show((hU ((s.take k).drop (j+1)):Int)*128 +(((s.getD j 0).toNat % 128:Nat):Int))=((hU ((s.take k).drop (j+1))*128 +(s.getD j 0).toNat % 128:Nat):Int) by omega]
  have h3:=hin k (Nat.le_refl _);rw [List.drop_of_length_le (by simp;omega)] at h3;refine(h3.step (f:=fun m=>(mi m).k2 s (k:Int)) fun m=>?_).mono (by omega);show wE (mi m) _ _=_;unfold wE;rw [decide_eq_true (show(k:Int)≤7 by omega),decide_eq_true (show(k:Int)≤(s.length:Int) by omega),cG (by omega) (by omega)];rfl
theorem asC(s:aj)(hs:s.length≤1048576):O_ (s,())=some (oD (fS 7 true s)):=by
 show HO (mi aM) s=_;unfold HO;have:=lH (asy s hs 7 1 (by omega) (by omega)) (by omega);rw [show(((1:Nat):Int))=1 from rfl] at this;rw [this];congr 2
 cases h:fS 7 true s with
 | none=>rfl
 | some r=>obtain ⟨h1,_⟩:=sg 7 true s r.1 r.2 h;unfold ge;simp only [al];rw [if_pos h1]
abbrev cX:Type:=List UInt8
abbrev kK(α : Type):Type:=cX→Option (α × cX)
def cP:kK Int:=fun s=>(fS 7 true s).map fun r=>((r.1:Int),s.drop r.2)
def fb:kK cX:=fun s=>(cP s).bind fun r=>if r.1≤(r.2.length:Int) then some (r.2.take r.1.toNat,r.2.drop r.1.toNat) else none
def iF{α : Type}(p:kK α):Nat→kK (List α)
 | 0,s=>some ([],s)
 | k+1,s=>(p s).bind fun a=>(iF p k a.2).map fun b=>(a.1 :: b.1,b.2)
def kf{α : Type}(o:Option (α × cX)):Option cX:=o.map (·.2)
theorem qP{s r:cX}{n:Int}(h:cP s=some (n,r)):0≤n∧n≤562949953421311∧s=fr n++r∧r.length<s.length:=by
 unfold cP at h
 cases hr:fS 7 true s with
 | none=>rw [hr] at h;simp at h
 | some q=>rw [hr] at h;simp only [Option.map_some,Option.some.injEq,Prod.mk.injEq] at h;obtain ⟨rfl,rfl⟩:=h;obtain ⟨h1,h2,h3,h4,a7,_⟩:=sg 7 true s q.1 q.2 hr;refine⟨by omega,by rw [JQ] at a7;omega,?_,by simp;omega⟩;rw [acT a7,← h4,List.take_append_drop]
theorem JR{s p r:cX}(h:fb s=some (p,r)):(p.length:Int)≤562949953421311∧s=fr (p.length:Int)++p++r∧r.length≤s.length∧p.length≤s.length:=by
 unfold fb at h
 cases hr:cP s with
 | none=>rw [hr] at h;simp at h
 | some q=>
  obtain ⟨n,t⟩:=q;rw [hr] at h;simp only [al] at h;obtain ⟨h1,h2,h3,h4⟩:=qP hr;split at h
  ·rename_i hle;simp only [Option.some.injEq,Prod.mk.injEq] at h;obtain ⟨rfl,rfl⟩:=h;have hl:((t.take n.toNat).length:Int)=n:=by simp;omega
   refine⟨by omega,?_,by simp;omega,by simp;omega⟩;rw [hl,List.append_assoc,List.take_append_drop];exact h3
  ·simp at h
abbrev zF:Type:=j8.D
def CM(o:Option cX)(rd:zF):Prop:=
 match o with
 | some r=>rd=(r,false,())∧r.length≤1048576
 | none=>∃s:cX,rd=(s,true,())∧s.length≤1048576
def sh{α : Type}(o:Option (α × cX))(x : α)(rd:zF):Prop:=CM (kf o) rd∧∀a,o=some a→x=a.1
theorem Sf{n c:Nat}(h:c≤n):dh n (c:Int) (n:Int)=some (c,n):=by unfold dh;rw [if_pos ⟨by omega,by omega,Int.le_refl _⟩];simp
theorem xg{o:Option cX}{rd:zF}(h:CM o rd):∃n xh,rU (rd,())=some (n,xh,())∧sh (o.bind cP) n xh∧(o.bind cP=none→n=0):=by
 cases o with
 | none=>obtain ⟨s,rfl,hl⟩:=h;refine⟨0,(s,true,()),?_,⟨⟨s,rfl,hl⟩,by simp⟩,fun _=>rfl⟩;show wI _=_;unfold wI;rw [Se];rfl
 | some s=>
  obtain ⟨rfl,hl⟩:=h
  cases hr:fS 7 true s with
  | none=>
   have aw:cP s=none:=by unfold cP;rw [hr];rfl
   refine⟨0,(s,true,()),?_,⟨by rw [al,aw];exact⟨s,rfl,hl⟩,by rw [al,aw];simp⟩,fun _=>rfl⟩;show wI _=_;unfold wI;rw [Se,hr];rfl
  | some q=>
   obtain ⟨h1,h2,h3,_⟩:=sg 7 true s q.1 q.2 hr;have aw:cP s=some ((q.1:Int),s.drop q.2):=by unfold cP;rw [hr];rfl
   refine⟨(q.1:Int),(s.drop q.2,false,()),?_,⟨by rw [al,aw];exact⟨rfl,by simp;omega⟩,by rw [al,aw];intro a ha;rw [← aW ha]⟩,by rw [al,aw];simp⟩;show wI _=_;unfold wI;rw [Se,hr];simp only [al,oD,cond_false];rw [bY (show(q.2:Int)≠0 by omega),Sf h3];simp only [cond_false,al];rw [tU]
theorem JS{o:Option cX}{rd:zF}(h:CM o rd):∃p xh,wJ (rd,())=some (p,xh,())∧sh (o.bind fb) p xh∧p.length≤1048576:=by
 obtain ⟨n,xh,h1,h2,h3⟩:=xg h;have key:∀x,wJ (rd,())=x↔((yT (xh,n,())).bind fun v2=>some (v2.1,v2.2.1,()))=x:=by intro x;show Pl rd=x↔_;unfold Pl;rw [h1];rfl
 have bad:∀s:cX,yT ((s,true,()),n,())=some ([],(s,true,()),()):=fun s=>rfl
 cases o with
 | none=>obtain ⟨s,hs,hl⟩:=h2.1;subst hs;exact⟨[],(s,true,()),(key _).2 (by rw [bad];rfl),⟨⟨s,rfl,hl⟩,by simp⟩,by simp⟩
 | some s=>
  cases aw:cP s with
  | none=>
   have hi:=h2.1;rw [al,aw] at hi;obtain ⟨av,hs,hl⟩:=hi;subst hs;have hm:(some s).bind fb=none:=by simp [fb,aw]
   exact⟨[],(av,true,()),(key _).2 (by rw [bad];rfl),⟨by rw [hm];exact⟨av,rfl,hl⟩,by rw [hm];simp⟩,by simp⟩
  | some q=>
   obtain ⟨v,r⟩:=q;have hv:=h2.2 (v,r) (by rw [al,aw]);simp only at hv;subst hv;have hi:=h2.1;rw [al,aw] at hi;obtain ⟨c8,hl⟩:=hi;subst c8;have hl:r.length≤1048576:=hl;obtain ⟨g1,g2,_⟩:=qP aw;by_cases hle:n≤(r.length:Int)
   ·have hm:(some s).bind fb=some (r.take n.toNat,r.drop n.toNat):=by simp [fb,aw,hle]
    refine⟨r.take n.toNat,(r.drop n.toNat,false,()),(key _).2 ?_,⟨by rw [hm];exact⟨rfl,by simp;omega⟩,by rw [hm];intro a ha;rw [← aW ha]⟩,by simp;omega⟩;have:yT ((r,false,()),n,())=some (r.take n.toNat,(r.drop n.toNat,false,()),()):=by show Bz _ _=_;unfold Bz;simp only [cond_false];rw [decide_eq_false (show ¬n >(r.length:Int) by omega)];unfold dh;rw [if_pos ⟨Int.le_refl _,g1,hle⟩,if_pos ⟨g1,hle,Int.le_refl _⟩];simp only [cond_false,al,Int.toNat_natCast];rw [show part r (Int.toNat 0) (n.toNat-Int.toNat 0)=r.take n.toNat from pz r _,tU]
    rw [this];rfl
   ·have hm:(some s).bind fb=none:=by simp [fb,aw,hle]
    have:yT ((r,false,()),n,())=some ([],(r,true,()),()):=by show Bz _ _=_;unfold Bz;simp only [cond_false];rw [decide_eq_true (show n >(r.length:Int) by omega)];rfl
    exact⟨[],(r,true,()),(key _).2 (by rw [this];rfl),⟨by rw [hm];exact⟨r,rfl,hl⟩,by rw [hm];simp⟩,by simp⟩
def Pos(s:cX)(o:Option cX)(at_:Int):Prop:=
 match o with
 | some r=>∃k:Nat,k≤s.length∧at_=(k:Int)∧r=s.drop k
 | none=>at_ = -1
def JT{α : Type}(s:cX)(o:Option (α × cX))(x : α)(at_:Int):Prop:=Pos s (kf o) at_∧∀a,o=some a→x=a.1
theorem Sg{s:cX}{o:Option cX}{a:Int}(h:Pos s o a):decide (a<0)=o.isNone:=by
 cases o with
 | none=>rw [show a = -1 from h];rfl
 | some r=>obtain ⟨k,_,rfl,_⟩:=h;exact decide_eq_false (by omega)
theorem asD(s:cX)(hs:s.length≤1048576)(n:Nat)(hn:n≤10):∀(r i k:Nat) (acc:List Int),i+r=n→k≤s.length→acc.length≤i →
  ∃l a,b3 (fun m=>pn m s (k:Int) (n:Int) (i:Int) acc) (1+r) (some (acc++l,a,()))∧JT s (iF cP r (s.drop k)) l a:=by
 intro r
 induction r with
 | zero=>intro i k acc hi hk ha;refine⟨[],(k:Int),(b3.done fun m=>?_).mono (by omega),⟨⟨k,hk,rfl,rfl⟩,fun a h=>by simp only [iF,Option.some.injEq] at h;rw [← h]⟩⟩;simp only [pn,Bw];rw [decide_eq_false (by omega),List.append_nil];rfl
 | succ r ih=>
  intro i k acc hi hk ha
  have wZ:∀m,pn (m+1) s (k:Int) (n:Int) (i:Int) acc=(match fS 7 true (s.drop k) with
    | none=>some (acc,-1,())
    | some q=>pn m s ((k+q.2:Nat):Int) (n:Int) ((i+1:Nat):Int) (acc++[(q.1:Int)])):=by
   intro m;simp only [pn,Bw];rw [decide_eq_true (show(i:Int)<(n:Int) by omega),decide_eq_false (show ¬(k:Int)<0 by omega),decide_eq_false (show ¬(k:Int) >(s.length:Int) by omega),Sf hk];simp only [cond_true,cond_false,al];rw [tU,asC _ (by simp;omega)];simp only [al]
   cases hr:fS 7 true (s.drop k) with
   | none=>rfl
   | some q=>obtain ⟨h1,h2,h3,_⟩:=sg 7 true (s.drop k) q.1 q.2 hr;simp only [oD];rw [bY (show(q.2:Int)≠0 by omega),b_ (by simp;omega),cG (by omega) (by omega),dA i (by omega)];simp only [cond_true,cond_false];rw [show(k:Int) +(q.2:Int)=((k+q.2:Nat):Int) by omega]
  cases hr:fS 7 true (s.drop k) with
  | none=>
   have aw:cP (s.drop k)=none:=by unfold cP;rw [hr];rfl
   refine⟨[],-1,(b3.done fun m=>?_).mono (by omega),⟨by simp only [iF,aw,Option.bind_none];rfl,by simp only [iF,aw,Option.bind_none];simp⟩⟩;rw [wZ,hr,List.append_nil]
  | some q=>
   obtain ⟨h1,h2,h3,_⟩:=sg 7 true (s.drop k) q.1 q.2 hr;have aw:cP (s.drop k)=some ((q.1:Int),s.drop (k+q.2)):=by unfold cP;rw [hr];simp [List.drop_drop]
   obtain ⟨l,a,e,hl⟩:=ih (i+1) (k+q.2) (acc++[(q.1:Int)]) (by omega) (by simp at h3;omega) (by simp;omega);refine⟨(q.1:Int) :: l,a,?_,?_⟩
   ·rw [List.append_assoc] at e;refine(e.step (f:=fun m=>pn m s (k:Int) (n:Int) (i:Int) acc) fun m=>by rw [wZ,hr]).mono (by omega)
   ·simp only [iF,aw,al]
    cases hq:iF cP r (s.drop (k+q.2)) with
    | none=>rw [hq] at hl;exact⟨hl.1,by simp⟩
    | some w=>rw [hq] at hl;exact⟨hl.1,fun b hb=>by simp only [Option.map_some,Option.some.injEq] at hb;rw [← hb,hl.2 w rfl]⟩
theorem asE(s:cX)(hs:s.length≤1048576)(n:Nat)(hn:n≤10){k:Nat}(hk:k≤s.length):∃l a,pq (s,(k:Int),(n:Int),())=some (l,a,())∧JT s (iF cP n (s.drop k)) l a:=by obtain ⟨l,a,e,h⟩:=asD s hs n hn n 0 k [] (by omega) hk (by simp);exact⟨l,a,lH e (by omega),h⟩
theorem asF(s:cX)(n:Nat)(hn:1≤n):pq (s,-1,(n:Int),())=some ([],-1,()):=by obtain ⟨q,hq,_⟩:=kC 1;show HQ (pn aM) s (-1) (n:Int)=_;unfold HQ;rw [hq];simp only [pn,Bw];rw [decide_eq_true (show(0:Int)<(n:Int) by omega)];rfl
theorem JU(s:cX)(hs:s.length≤1048576)(n:Nat)(h1:1≤n)(hn:n≤10){o:Option cX}{a:Int}(h:Pos s o a):∃l b5,pq (s,a,(n:Int),())=some (l,b5,())∧JT s (o.bind (iF cP n)) l b5:=by
 cases o with
 | none=>rw [show a = -1 from h];exact⟨[],-1,asF s n h1,rfl,by simp⟩
 | some r=>obtain ⟨k,hk,rfl,rfl⟩:=h;exact asE s hs n hn hk
theorem JV(s:cX):iF cP 1 s=(cP s).map fun a=>([a.1],a.2):=by simp only [iF];cases cP s <;> rfl
theorem JW(s:cX)(hs:s.length≤1048576){o:Option cX}{a:Int}(h:Pos s o a):∃p b5,wF (s,a,())=some (p,b5,())∧JT s (o.bind fb) p b5∧p.length≤s.length:=by
 obtain ⟨l,a1,e,h1⟩:=JU s hs 1 (by omega) (by omega) h
 have key:∀x,wF (s,a,())=x↔(cond (decide (a1<0))
  (some (([]:aj),(-1),()))
  ((ix l.length 0).bind fun v2=>
  cond (decide (I (ad.int .i64) l (0+v2)>ax ((s.length:Int)-a1)))
   (some (([]:aj),(-1),()))
   ((ix l.length 0).bind fun v3=>
   (dh s.length a1 (ax (a1+I (ad.int .i64) l (0+v3)))).bind fun v4=>
   (ix l.length 0).bind fun v5=>
   some (part s v4.1 (v4.2-v4.1),ax (a1+I (ad.int .i64) l (0+v5)),()))))=x:=by
  intro x;show O' s a=x↔_;unfold O';rw [show((1:Nat):Int)=1 from rfl] at e;rw [e];rfl
 have bO:=Sg h1.1
 cases hb:o.bind (iF cP 1) with
 | none=>
  rw [hb] at bO
  have hn:o.bind fb=none:=by
   cases o with
   | none=>rfl
   | some r=>
    simp only [al,JV] at hb ⊢;unfold fb
    cases aw:cP r with
    | none=>rfl
    | some q=>rw [aw] at hb;simp at hb
  refine⟨[],-1,(key _).2 (by rw [bO];rfl),⟨by rw [hn];rfl,by rw [hn];simp⟩,by simp⟩
 | some w=>
  rw [hb] at bO h1
  cases o with
  | none=>simp at hb
  | some r=>
   simp only [al,JV] at hb
   cases aw:cP r with
   | none=>rw [aw] at hb;simp at hb
   | some q=>
    obtain ⟨n,t⟩:=q;rw [aw] at hb;simp only [Option.map_some,Option.some.injEq] at hb;subst hb;have hl:=h1.2 _ rfl;simp only at hl;subst hl;obtain ⟨k,hk,rfl,ht⟩:=h1.1;have ht:t=s.drop k:=ht;subst ht;obtain ⟨g1,g2,_⟩:=qP aw;have fz:ix [n].length 0=some 0:=rfl;have acX:I (ad.int .i64) [n] (0+0)=n:=rfl;simp only [al];unfold fb;rw [aw];simp only [al];by_cases hle:n≤((s.drop k).length:Int)
    ·have hdl:((s.drop k).length:Int)=(s.length:Int)-(k:Int):=by simp;omega
     rw [if_pos hle];refine⟨(s.drop k).take n.toNat,((k+n.toNat:Nat):Int),(key _).2 ?_,⟨⟨k+n.toNat,by simp at hle;omega,rfl,by simp [List.drop_drop]⟩,fun b hb=>by simp only [Option.some.injEq] at hb;rw [← hb]⟩,by simp;omega⟩;rw [bO];simp only [kf,Option.map_some,Option.isNone_some,cond_false,fz,al,acX];rw [cG (by omega) (by omega),show decide (n >(s.length:Int)-(k:Int))=false from decide_eq_false (by omega),cG (by omega) (by omega)];simp only [cond_false];unfold dh;rw [if_pos ⟨by omega,by omega,by omega⟩];simp only [al,Int.toNat_natCast];rw [show((k:Int)+n).toNat=k+n.toNat by omega,show(k:Int)+n=((k+n.toNat:Nat):Int) by omega];unfold part;rw [show k+n.toNat-k=n.toNat by omega]
    ·have hdl:((s.drop k).length:Int)=(s.length:Int)-(k:Int):=by simp;omega
     rw [if_neg hle];refine⟨[],-1,(key _).2 ?_,⟨rfl,by simp⟩,by simp⟩;rw [bO];simp only [kf,Option.map_some,Option.isNone_some,cond_false,fz,al,acX];rw [cG (by omega) (by omega),show decide (n >(s.length:Int)-(k:Int))=true from decide_eq_true (by omega)];rfl
theorem ur{α β : Type}{p:kK α}{q : α → kK β}{o:Option cX}{a : α}{b : β}{Sh JX:zF}(h1:sh (o.bind p) a Sh)(h2:sh ((kf (o.bind p)).bind (q a)) b JX):sh (o.bind fun s=>(p s).bind fun x=>q x.1 x.2) b JX:=by
 cases o with
 | none=>exact h2
 | some s=>
  cases aw:p s with
  | none=>simp only [al,aw] at h2 ⊢;exact h2
  | some x=>have:=h1.2 x (by rw [al,aw]);subst this;simp only [al,aw,kf,Option.map_some] at h2 ⊢;exact h2
theorem acY{α β : Type}{p:kK α}{f : α → β}{o:Option cX}{a : α}{rd:zF}(h:sh (o.bind p) a rd):sh (o.bind fun s=>(p s).map fun x=>(f x.1,x.2)) (f a) rd:=by
 cases o with
 | none=>exact⟨h.1,by simp⟩
 | some s=>
  cases aw:p s with
  | none=>simp only [al,aw] at h ⊢;exact⟨h.1,by simp⟩
  | some x=>have h2:=h.2 x (by rw [al,aw]);subst h2;simp only [al,aw,Option.map_some] at h ⊢;exact⟨h.1,fun b hb=>by rw [← aW hb]⟩
theorem JY:∀(k n:Nat),n<128 ^ k→1≤k→(enc n).length≤k
 | 0,n,h,h1=>by omega
 | k+1,n,h,_=>by
  by_cases hn:n<128
  ·rw [zD hn];simp
  ·rw [CL (by omega),List.length_cons]
   have hk:1≤k:=by
    rcases Nat.eq_zero_or_pos k with rfl | hk
    ·simp at h;omega
    ·exact hk
   have:=JY k (n / 128) (by rw [Nat.pow_succ] at h;omega) hk;omega
theorem xi(n:Int):(fr n).length≤7:=by
 unfold fr;split
 ·rename_i h;obtain ⟨h1,h2⟩:=cR.1 h;have h2:n≤562949953421311:=h2;exact JY 7 _ (by rw [JQ];omega) (by omega)
 ·simp
def jX(x:Int):Int:=cond (Int.tmod x 2==1) (ax (Int.tdiv (ax (0-(ax (x+1)))) 2)) (ax (Int.tdiv x 2))
theorem Si(x:Int):H5 (x,())=some (jX x,()):=by show Pm x=_;unfold Pm jX;cases (Int.tmod x 2==1) <;> rfl
theorem acZ(x:Int):yQ (x,())=some (jX x,()):=Si x
def mw(x:Int):cX:=if x<0 then fr (-2*x-1) else fr (2*x)
theorem ac0(x:Int)(h : -1000000≤x∧x≤1000000):yN (x,())=some (mw x,()):=by
 show O5 x=_;unfold O5 mw;by_cases h0:x<0
 ·rw [decide_eq_true h0,if_pos h0,cG (a:=(-2)*x) (by omega) (by omega),cG (by omega) (by omega),uq];rfl
 ·rw [decide_eq_false h0,if_neg h0,cG (a:=2*x) (by omega) (by omega),uq (2*x)];rfl
theorem ac1{x:Int}(h:0≤x)(h':x≤562949953421311):mw (jX x)=fr x:=by
 unfold jX mw;rw [Int.tmod_eq_emod_of_nonneg h];by_cases h1:x % 2=1
 ·rw [cK h1,cG (a:=x+1) (by omega) (by omega),cG (a:=0-(x+1)) (by omega) (by omega)];have e:Int.tdiv (0-(x+1)) 2 = - ((x+1) / 2):=by rw [Int.zero_sub,Int.neg_tdiv,Int.tdiv_eq_ediv_of_nonneg (by omega)]
  simp only [cond_true];rw [e,cG (by omega) (by omega),if_pos (by omega)];congr 1;omega
 ·rw [bY h1,Int.tdiv_eq_ediv_of_nonneg h];simp only [cond_false];rw [cG (by omega) (by omega),if_neg (by omega)];congr 1;omega
def CN(a:Int)(b c:cX)(d e:Int):kK aI.D:=fun s=>(fb s).map fun f=>((a,b,c,jX d,jX e,f.1,()),f.2)
def CO(a:Int)(b c:cX)(d:Int):kK aI.D:=fun s=>(cP s).bind fun e=>CN a b c d e.1 e.2
def CP(a:Int)(b c:cX):kK aI.D:=fun s=>(cP s).bind fun d=>CO a b c d.1 d.2
def CQ(a:Int)(b:cX):kK aI.D:=fun s=>(fb s).bind fun c=>CP a b c.1 c.2
def CR(a:Int):kK aI.D:=fun s=>(fb s).bind fun b=>CQ a b.1 b.2
def qQ:kK aI.D:=fun s=>(cP s).bind fun a=>CR a.1 a.2
def mx(s:cX):Option aI.D:=
 match qQ s with
 | some (x,[])=>if eZ x then some x else none
 | _=>none
def CS:Option aI.D→aI.D×Bool×Unit
 | none=>((0,[],[],0,0,[],()),false,())
 | some x=>(x,true,())
theorem asG(s:cX)(hs:s.length≤1048576):Po (s,())=some (CS (mx s)):=by
 show Pn s=_;unfold Pn;have i0:CM (some s) (s,false,()):=⟨rfl,hs⟩;obtain ⟨a,Sh,e1,i1,_⟩:=xg i0;obtain ⟨b,JX,e2,i2,_⟩:=JS i1.1;obtain ⟨c,asH,e3,i3,_⟩:=JS i2.1;obtain ⟨d,ac2,et,i4,_⟩:=xg i3.1;obtain ⟨e,auf,kP,i5,_⟩:=xg i4.1;obtain ⟨f,asI,sN,i6,_⟩:=JS i5.1
 have hc:sh ((some s).bind qQ) (a,b,c,jX d,jX e,f,()) asI:=
  ur (q:=CR) i1 (ur (q:=CQ a) i2 (ur (q:=CP a b) i3 (ur (q:=CO a b c) i4 (ur (q:=CN a b c d) i5 (acY (f:=fun f=>((a,b,c,jX d,jX e,f,()):aI.D)) i6)))))
 rw [e1];simp only [al];rw [e2];simp only [al];rw [e3];simp only [al];rw [et];simp only [al];rw [Si];simp only [al];rw [kP];simp only [al];rw [Si];simp only [al];rw [sN];simp only [al];rw [BS];unfold mx
 cases aw:qQ s with
 | none=>have:=hc.1;rw [al,aw] at this;obtain ⟨t,rfl,_⟩:=this;rfl
 | some q=>
  obtain ⟨x,r⟩:=q;have h1:=hc.2 (x,r) (by rw [al,aw]);have h2:=hc.1;rw [al,aw] at h2;obtain ⟨rfl,_⟩:=h2;simp only at h1;subst h1
  cases r with
  | nil=>show cond false _ _=_;simp only [cond_false,al];rw [show(!bw (([]:cX),false,()).1 [])=false from rfl];simp only [cond_false];cases eZ (a,b,c,jX d,jX e,f,()) <;> rfl
  | cons y r=>rfl
def jY(p:cX):cX:=fr (p.length:Int)++p
def pJ(x:aI.D):cX:=fr x.1++jY x.2.1++jY x.2.2.1++mw x.2.2.2.1++mw x.2.2.2.2.1++jY x.2.2.2.2.2.1
theorem JZ(p:cX)(h:p.length≤60000000000):yM (p,())=some (jY p,()):=by show O4 p=_;unfold O4;rw [uq];simp only [al];have:=xi (p.length:Int);rw [b_ (by omega)];rfl
theorem CT(p:cX):(jY p).length≤7+p.length:=by unfold jY;have:=xi (p.length:Int);simp only [List.length_append];omega
theorem ac3(x:Int):(mw x).length≤7:=by unfold mw;split <;> exact xi _
theorem ac4(x:aI.D):yO (x,())=some (cond (eZ x) (pJ x) [],()):=by
 show O6 x=_;unfold O6;rw [y7];simp only [al]
 cases h:eZ x with
 | false=>rfl
 | true=>have hx:=r8.1 h;have h1:=xi x.1;have h2:=CT x.2.1;have h3:=CT x.2.2.1;have h4:=ac3 x.2.2.2.1;have a7:=ac3 x.2.2.2.2.1;have bh:=CT x.2.2.2.2.2.1;have bJ:x.2.1.length≤60:=hx.path;have dg:x.2.2.1.length≤60:=hx.pA;have iO:x.2.2.2.2.2.1.length≤64:=hx.g_;rw [uq,JZ _ (by omega),JZ _ (by omega),JZ _ (by omega),show yN (x.2.2.2.1,())=_ from ac0 _ hx.n,show yN (x.2.2.2.2.1,())=_ from ac0 _ hx.m];simp only [al,Bool.not_true,cond_false];rw [b_ (by omega),b_ (by simp only [List.length_append];omega),b_ (by simp only [List.length_append];omega),b_ (by simp only [List.length_append];omega),b_ (by simp only [List.length_append];omega)];rfl
theorem ac5{s r:cX}{x:aI.D}(h:qQ s=some (x,r)):s=pJ x++r∧r.length<s.length:=by unfold qQ CR CQ CP CO CN at h;obtain ⟨a,ha,h⟩:=bd h;obtain ⟨b,hb,h⟩:=bd h;obtain ⟨c,hc,h⟩:=bd h;obtain ⟨d,af,h⟩:=bd h;obtain ⟨e,he,h⟩:=bd h;rw [Option.map_eq_some_iff] at h;obtain ⟨f,hf,h⟩:=h;rw [Prod.mk.injEq] at h;obtain ⟨rfl,rfl⟩:=h;obtain ⟨a1,a2,a3,a4⟩:=qP ha;obtain ⟨_,nH,oS,_⟩:=JR hb;obtain ⟨_,fL,Dz,_⟩:=JR hc;obtain ⟨d1,d2,d3,d4⟩:=qP af;obtain ⟨e1,e2,e3,et⟩:=qP he;obtain ⟨_,f2,f3,_⟩:=JR hf;refine⟨?_,by omega⟩;show s=fr a.1++jY b.1++jY c.1++mw (jX d.1)++mw (jX e.1)++jY f.1++f.2;rw [ac1 d1 d2,ac1 e1 e2];unfold jY;simp only [List.append_assoc];simp only [List.append_assoc] at nH fL f2;rw [← f2,← e3,← d3,← fL,← nH];exact a3
theorem ac6(s:cX):iF cP 2 s=(cP s).bind fun a=>(fun s=>(cP s).map fun b=>([a.1,b.1],b.2)) a.2:=by
 simp only [iF]
 cases h:cP s with
 | none=>rfl
 | some a=>simp only [al];cases cP a.2 <;> rfl
theorem asJ(s:cX)(hs:s.length≤1048576):Pc (s,())=some (CS (mx s)):=by
 show Pb s=_;unfold Pb;have i0:Pos s (some s) ((0:Nat):Int):=⟨0,Nat.zero_le _,rfl,rfl⟩;obtain ⟨a,er,e1,i1⟩:=JU s hs 1 (by omega) (by omega) i0;obtain ⟨b,fc,e2,i2,_⟩:=JW s hs i1.1;obtain ⟨c,gu,e3,i3,_⟩:=JW s hs i2.1;obtain ⟨d,fU,et,i4⟩:=JU s hs 2 (by omega) (by omega) i3.1;obtain ⟨f,mF,kP,i5,_⟩:=JW s hs i4.1;rw [show pq (s,0,1,())=_ from e1];simp only [al];rw [e2];simp only [al];rw [e3];simp only [al];rw [show pq (s,gu,2,())=_ from et];simp only [al];rw [kP];simp only [al];have bO:=Sg i5.1;have bS:qQ s=none→mx s=none:=fun h=>by unfold mx;rw [h]
 have asK:qQ s=none→(kf ((kf ((kf ((kf ((kf ((some s).bind (iF cP 1))).bind fb)).bind fb)).bind (iF cP 2))).bind fb))=none:=by
  intro h;unfold qQ CR CQ CP CO CN at h;rw [al,JV]
  cases h1:cP s with
  | none=>rfl
  | some c0=>
  rw [h1] at h;simp only [al,Option.map_some,kf] at h ⊢
  cases h2:fb c0.2 with
  | none=>rfl
  | some d_=>
  rw [h2] at h;simp only [al,Option.map_some] at h ⊢
  cases h3:fb d_.2 with
  | none=>rfl
  | some gQ=>
  rw [h3] at h;simp only [al,Option.map_some] at h ⊢;rw [ac6]
  cases h4:cP gQ.2 with
  | none=>rfl
  | some hp=>
  rw [h4] at h;simp only [al,Option.map_some] at h ⊢
  cases a7:cP hp.2 with
  | none=>rfl
  | some h5=>
  rw [a7] at h;simp only [al,Option.map_some] at h ⊢
  cases bh:fb h5.2 with
  | none=>rfl
  | some oY=>rw [bh] at h;simp at h
 rw [bO]
 cases aw:qQ s with
 | none=>rw [asK aw,bS aw];rfl
 | some q=>
  obtain ⟨x,r⟩:=q;obtain ⟨zG,_⟩:=ac5 aw;have jm:=aw;unfold qQ CR CQ CP CO CN at jm;obtain ⟨lQ,ha,h⟩:=bd jm;obtain ⟨qR,hb,h⟩:=bd h;obtain ⟨nz,hc,h⟩:=bd h;obtain ⟨si,af,h⟩:=bd h;obtain ⟨pK,he,h⟩:=bd h;rw [Option.map_eq_some_iff] at h;obtain ⟨CU,hf,h⟩:=h;rw [Prod.mk.injEq] at h;obtain ⟨hx,rfl⟩:=h;have t1:(some s).bind (iF cP 1)=some ([lQ.1],lQ.2):=by rw [al,JV,ha];rfl
  rw [t1] at i1;have t2:(kf (some ([lQ.1],lQ.2))).bind fb=some qR:=hb;rw [t1,t2] at i2;have t3:(kf (some qR)).bind fb=some nz:=hc;rw [t1,t2,t3] at i3;have t4:(kf (some nz)).bind (iF cP 2)=some ([si.1,pK.1],pK.2):=by show iF cP 2 nz.2=_;rw [ac6,af];simp only [al];rw [he];rfl
  rw [t1,t2,t3,t4] at i4;have t5:(kf (some ([si.1,pK.1],pK.2))).bind fb=some CU:=hf;rw [t1,t2,t3,t4,t5] at i5 ⊢;have v1:=i1.2 _ rfl;have v2:=i2.2 _ rfl;have v3:=i3.2 _ rfl;have v4:=i4.2 _ rfl;have v5:=i5.2 _ rfl;simp only at v1 v2 v3 v4 v5;subst v1 v2 v3 v4 v5;have iv:((lQ.1,qR.1,nz.1,jX si.1,jX pK.1,CU.1,()):aI.D)=x:=hx;show cond false _ _=_;simp only [cond_false];rw [show ix [lQ.1].length 0=some 0 from rfl,show ix [si.1,pK.1].length 0=some 0 from rfl,show ix [si.1,pK.1].length 1=some 1 from rfl];simp only [al];rw [show I (ad.int .i64) [si.1,pK.1] (0+0)=si.1 from rfl,show I (ad.int .i64) [si.1,pK.1] (0+1)=pK.1 from rfl,show I (ad.int .i64) [lQ.1] (0+0)=lQ.1 from rfl,acZ,acZ];simp only [al,o9,AF];rw [show yO ((lQ.1,qR.1,nz.1,jX si.1,jX pK.1,CU.1,()),())=_ from ac4 _,iv];simp only [al];unfold mx;rw [aw]
  cases cl:eZ x with
  | false=>
   have:bw [] s=false:=by rw [xd,decide_eq_false];intro h0;rw [← h0] at zG;have h1:=congrArg List.length zG;have h2:=(qP ha).2.2.2;rw [← h0] at h2;simp at h2
   simp only [cond_false];rw [this]
   cases hr:CU.2 with
   | nil=>simp [cl,CS]
   | cons y t=>rfl
  | true=>
   simp only [cond_true]
   cases hr:CU.2 with
   | nil=>rw [hr,List.append_nil] at zG;rw [← zG,qb];simp [cl,CS]
   | cons y t=>
    rw [hr] at zG;have:bw (pJ x) s=false:=by rw [xd,decide_eq_false];intro h0;have h1:=congrArg List.length zG;rw [← h0] at h1;simp at h1
    rw [this];rfl
def lf(s:aP.D):Bool:=ct s.1 0 2&&ct s.2.1 1 3&&ct s.2.2.1 1 1000000&&eZ s.2.2.2.1
theorem asL(s:aP.D):O0 (s,())=some (lf s,()):=by show OZ s=_;unfold OZ lf;simp only [ka,al];rw [y7];simp only [al,y8,acm,Bool.and_assoc]
theorem asM(s:aP.D):Pq (s,())=some (lf s,()):=by show Pp s=_;unfold Pp lf;simp only [jx,al];rw [BS];simp only [al,y8,acm,Bool.and_assoc]
def dZ(l:List aP.D)(i:Nat):Int:=(I aP l i).1
def qS(l:List aP.D)(di i:Nat):Bool:=lf (I aP l i) && !(decide (0<i)&&decide (dZ l (i-1)>dZ l i)) && !(decide (di≤i)&&dZ l (i-di)==dZ l i)
def J0(l:List aP.D)(di:Nat):Bool:=fo l.length (qS l di)
def b6(l:List aP.D):Nat→Nat
 | 0=>0
 | i+1=>if 0<i∧dZ l (i-1)≠dZ l i then 1 else b6 l i+1
def CV(l:List aP.D)(di i:Nat):Bool:=lf (I aP l i) && !(decide (0<i)&&decide (dZ l (i-1)>dZ l i)) && !decide (di<b6 l (i+1))
theorem J1(l:List aP.D):∀i,b6 l i≤i
 | 0=>Nat.le_refl _
 | i+1=>by unfold b6;have:=J1 l i;split <;> omega
theorem ac7(l:List aP.D)(i:Nat):1≤b6 l (i+1):=by unfold b6;split <;> omega
theorem ac8(l:List aP.D):∀i k,k<b6 l (i+1)→dZ l (i-k)=dZ l i
 | 0,k,h=>by have h2:b6 l (0+1)≤0+1:=J1 l (0+1);rw [show k=0 by omega]
 | i+1,k,h=>by
  rw [b6] at h;split at h
  ·rw [show k=0 by omega,Nat.sub_zero]
  ·rename_i hn
   have he:dZ l i=dZ l (i+1):=by
    by_cases he:dZ l i=dZ l (i+1)
    ·exact he
    ·exact absurd ⟨by omega,by simpa using he⟩ hn
   cases k with
   | zero=>rw [Nat.sub_zero]
   | succ k=>have:=ac8 l i k (by omega);rw [show i+1-(k+1)=i-k by omega,this,he]
theorem ac9(l:List aP.D):∀i,b6 l (i+1)<i+1→dZ l (i-b6 l (i+1))≠dZ l i
 | 0,h=>by have:=ac7 l 0;omega
 | i+1,h=>by
  rw [b6] at h ⊢;split at h
  ·rename_i hn;rw [if_pos hn];exact hn.2
  ·rename_i hn;rw [if_neg hn]
   have he:dZ l i=dZ l (i+1):=by
    by_cases he:dZ l i=dZ l (i+1)
    ·exact he
    ·exact absurd ⟨by omega,by simpa using he⟩ hn
   have:=ac9 l i (by omega);rw [show i+1-(b6 l (i+1)+1)=i-b6 l (i+1) by omega,← he];exact this
theorem asN{l:List aP.D}{di:Nat}(hm:1≤di){i:Nat}(aw:∀j,j<i→qS l di j=true):qS l di i=CV l di i:=by
 unfold qS CV;cases lf (I aP l i)
 ·rfl
 cases hs:(decide (0<i)&&decide (dZ l (i-1)>dZ l i))
 case true=>rfl
 simp only [Bool.not_false,Bool.true_and];congr 1
 have wZ:∀j,j+1≤i→dZ l j≤dZ l (j+1):=by
  intro j hj;by_cases kS:j+1=i
  ·subst kS;simp only [Bool.and_eq_false_iff,decide_eq_false_iff_not] at hs;rcases hs with hs | hs
   ·omega
   ·rw [Nat.add_sub_cancel] at hs;omega
  ·have:=aw (j+1) (by omega);unfold qS at this;simp only [Bool.and_eq_true,Bool.not_eq_true',Bool.and_eq_false_iff,decide_eq_false_iff_not] at this;rcases this.1.2 with h | h
   ·omega
   ·rw [Nat.add_sub_cancel] at h;omega
 have ac_:∀d j,j+d≤i→dZ l j≤dZ l (j+d):=by
  intro d
  induction d with
  | zero=>intro j _;exact Int.le_refl _
  | succ d ih=>intro j hj;exact Int.le_trans (ih j (by omega)) (wZ (j+d) (by omega))
 have c1:=J1 l (i+1);have fL:=ac7 l i;rw [Bool.eq_iff_iff];simp only [Bool.and_eq_true,decide_eq_true_eq,beq_iff_eq];constructor
 ·rintro ⟨h1,h2⟩
  rcases Nat.lt_or_ge di (b6 l (i+1)) with h | h
  ·exact h
  ·have h3:=ac9 l i (by omega);have h4:=ac_ (di-b6 l (i+1)) (i-di) (by omega);have a7:=ac_ (b6 l (i+1)) (i-b6 l (i+1)) (by omega);rw [show i-di +(di-b6 l (i+1))=i-b6 l (i+1) by omega] at h4;rw [show i-b6 l (i+1)+b6 l (i+1)=i by omega] at a7;omega
 ·intro h;exact⟨by omega,ac8 l i di h⟩
theorem asO(l:List aP.D)(di:Nat)(hm:1≤di):J0 l di=fo l.length (CV l di):=
 amu fun i _ aw _=>asN hm aw
theorem asP(l:List aP.D)(di:Nat)(hm:di≤100)(hl:l.length≤1048576):HK (l,(di:Int),())=some (J0 l di,()):=by
 show HI (qn aM) l (di:Int)=_;unfold HI
 have:=tM l.length (by omega) (qS l di) true (fun m i=>qn m l (di:Int) i) (by
  intro m _;simp only [qn,HJ]
  rw [cw (Nat.le_refl _)];rfl) (by
  intro m i hi _ hw;simp only [qn,HJ,hw];rw [b1 hi,br hi];simp only [cond_true,al];rw [asL];simp only [al];have asQ:decide ((i:Int)≥(di:Int))=decide (di≤i):=by apply decide_eq_decide.2;omega
  rw [asQ]
  have h2:cond (decide (di≤i)) ((ix l.length (ax ((i:Int)-(di:Int)))).bind fun v5=>cond ((I aP l v5).1 ==(I aP l i).1) (some (false,())) (qn m l (di:Int) ((i:Int)+1))) (qn m l (di:Int) ((i:Int)+1))=cond (decide (di≤i)&&dZ l (i-di)==dZ l i) (some (false,())) (qn m l (di:Int) ((i:Int)+1)):=by
   by_cases h:di≤i
   ·rw [decide_eq_true h,cG (by omega) (by omega),show(i:Int)-(di:Int)=((i-di:Nat):Int) by omega,br (by omega)];rfl
   ·rw [decide_eq_false h];rfl
  rw [h2];unfold qS
  cases i with
  | zero=>simp only [BQ,Nat.lt_irrefl,decide_false,cond_false,Bool.false_and,Bool.not_false,Bool.and_true,wV,ml]
  | succ i=>
   rw [BP hi (by omega)];simp only [BR,Nat.zero_lt_succ,decide_true,cond_true,al,Nat.add_sub_cancel,Bool.true_and,wV,ml]
   rfl)
 rw [Bool.and_true] at this;exact this
theorem asR(l:List aP.D)(di:Nat)(hm:1≤di)(sL:di≤100)(hl:l.length≤1048576):H8 (l,(di:Int),())=some (J0 l di,()):=by
 show H6 (qt aM) l (di:Int)=_;unfold H6;rw [asO l di hm]
 have:=tM l.length (by omega) (CV l di) true (fun m i=>(qt (2*m)).k3 l (di:Int) (b6 l i.toNat:Int) l (l.length:Int) i) (by
  intro m _;show BA (qt (2*m+1)) _ _ _ _ _ _=_;unfold BA
  rw [cw (Nat.le_refl _)];rfl) (by
  intro m i hi _ hw;have c1:=J1 l i
  have JI:∀c:Nat,c≤1048577→H7 (qt (2*m)) l (di:Int) (c:Int) (i:Int) l (l.length:Int) (i:Int) (I aP l i) =
    cond (lf (I aP l i) && !(decide (0<i)&&decide (dZ l (i-1)>dZ l i)) && !decide (di<c)) ((qt (2*m)).k3 l (di:Int) (c:Int) l (l.length:Int) ((i:Int)+1)) (some (false,())):=by
   intro c hc;unfold H7;rw [asM];simp only [al,hw];rw [show decide ((c:Int) >(di:Int))=decide (di<c) by apply decide_eq_decide.2;omega]
   cases i with
   | zero=>simp only [BQ,Nat.lt_irrefl,decide_false,cond_false,Bool.false_and,Bool.not_false,Bool.and_true,wV,ml]
   | succ i=>rw [BP hi (by omega)];simp only [BR,Nat.zero_lt_succ,decide_true,cond_true,al,Nat.add_sub_cancel,Bool.true_and,wV,ml];rfl
  show BA (qt (2*m+1)) _ _ _ _ _ _=_;unfold BA;rw [b1 hi,br hi];simp only [cond_true,al,Int.toNat_natCast];rw [show((i:Int)+1).toNat=i+1 by omega];have cV:∀c,(qt (2*m+1)).cV l (di:Int) c (i:Int) l (l.length:Int) (i:Int) (I aP l i)=H7 (qt (2*m)) l (di:Int) c (i:Int) l (l.length:Int) (i:Int) (I aP l i):=fun _=>rfl
  rw [cV,cV,dA _ (by omega)];have h1:=JI 1 (by omega);have h2:=JI (b6 l i+1) (by omega);rw [show((1:Nat):Int)=1 from rfl] at h1;rw [h1,h2];unfold CV
  cases i with
  | zero=>
   simp only [BQ,cond_false];have:b6 l (0+1)=b6 l 0+1:=by simp [b6]
   rw [this]
  | succ i=>
   rw [BP hi (by omega)];simp only [BR,cond_true,al];show cond (dZ l i != dZ l (i+1)) _ _=_;by_cases he:dZ l i=dZ l (i+1)
   ·rw [ek he];have:b6 l (i+1+1)=b6 l (i+1)+1:=by rw [b6,if_neg (by simp [he])]
    rw [this];rfl
   ·rw [dq he];have:b6 l (i+1+1)=1:=by rw [b6,if_pos ⟨by omega,by simpa using he⟩]
    rw [this];rfl) 9223372036854775808 (by omega)
 rw [amv,Bool.and_true] at this;exact this
def CW(a b c:Int):kK aP.D:=fun s=>(fb s).bind fun p=>(mx p.1).map fun x=>((a,b,c,x,()),p.2)
def CX(a b:Int):kK aP.D:=fun s=>(cP s).bind fun c=>CW a b c.1 c.2
def CY(a:Int):kK aP.D:=fun s=>(cP s).bind fun b=>CX a b.1 b.2
def oE:kK aP.D:=fun s=>(cP s).bind fun a=>CY a.1 a.2
def ig:Nat→cX→Option (List aP.D)
 | _,[]=>some []
 | 0,_ :: _=>none
 | n+1,y :: t=>(oE (y :: t)).bind fun a=>(ig n a.2).map fun l=>a.1 :: l
def jF(l:List aP.D):Bool:=J0 l 2
def nA:cX→Option (List aP.D)
 | []=>none
 | y :: t=>if y=102 then(ig t.length t).bind fun l=>if jF l then some l else none else none
def zH:Option (List aP.D)→List aP.D×Bool×Unit
 | none=>([],false,())
 | some l=>(l,true,())
def sj(x:aP.D):cX:=fr x.1++fr x.2.1++fr x.2.2.1++jY (pJ x.2.2.2.1)
theorem asS{p:cX}{x:aI.D}(h:mx p=some x):p=pJ x∧eZ x=true:=by
 unfold mx at h;split at h
 ·rename_i y aw;split at h
  ·rename_i cl;obtain rfl:=aW h;have:=(ac5 aw).1;rw [List.append_nil] at this;exact⟨this,cl⟩
  ·cases h
 ·cases h
theorem Sj{s r:cX}{x:aP.D}(h:oE s=some (x,r)):s=sj x++r∧r.length<s.length:=by unfold oE CY CX CW at h;obtain ⟨a,ha,h⟩:=bd h;obtain ⟨b,hb,h⟩:=bd h;obtain ⟨c,hc,h⟩:=bd h;obtain ⟨p,aw,h⟩:=bd h;rw [Option.map_eq_some_iff] at h;obtain ⟨y,aR,h⟩:=h;rw [Prod.mk.injEq] at h;obtain ⟨rfl,rfl⟩:=h;obtain ⟨_,_,a3,a4⟩:=qP ha;obtain ⟨_,_,oS,zZ⟩:=qP hb;obtain ⟨_,_,Dz,aug⟩:=qP hc;obtain ⟨_,fc,gu,_⟩:=JR aw;refine⟨?_,by omega⟩;show s=fr a.1++fr b.1++fr c.1++jY (pJ y)++p.2;rw [← (asS aR).1];unfold jY;simp only [List.append_assoc];simp only [List.append_assoc] at fc;rw [← fc,← Dz,← oS];exact a3
theorem Sk:∀(n:Nat) (t:cX) (l:List aP.D),ig n t=some l→t=(l.map sj).flatten∧l.length≤t.length
 | _,[],l,h=>by unfold ig at h;obtain rfl:=aW h;exact⟨rfl,Nat.le_refl _⟩
 | 0,y :: t,l,h=>by unfold ig at h;cases h
 | n+1,y :: t,l,h=>by unfold ig at h;obtain ⟨a,ha,h⟩:=bd h;rw [Option.map_eq_some_iff] at h;obtain ⟨l',hl,rfl⟩:=h;obtain ⟨h1,h2⟩:=Sj (x:=a.1) (r:=a.2) ha;obtain ⟨h3,h4⟩:=Sk n a.2 l' hl;refine⟨?_,by rw [List.length_cons];omega⟩;rw [List.map_cons,List.flatten_cons,← h3];exact h1
theorem ac'(l:List aP.D)(hl:l.length≤1048576):H9 (l,())=some (jF l,()):=by show Pr l=_;unfold Pr;rw [show H8 (l,2,())=_ from asR l 2 (by omega) (by omega) hl];rfl
theorem ada(m:Nat)(t:cX)(acc:List aP.D):qv (m+1) (t,true,()) acc=some ([],false,()):=by show qu (qv m) (t,true,()) acc=_;unfold qu;cases (!(bw t [])) <;> rfl
theorem asT:∀(n m:Nat) (s:cX) (acc:List aP.D),s.length≤n→n+1<m→acc.length+s.length≤1048576 →
  qv m (s,false,()) acc=some (zH ((ig n s).bind fun l=>if jF (acc++l) then some (acc++l) else none)):=by
 intro n
 induction n with
 | zero=>intro m s acc hn hm hl;have hs:s=[]:=List.length_eq_zero_iff.1 (by omega);subst hs;obtain ⟨m,rfl,_⟩:=fuel (show 0<m by omega);show qu (qv m) ([],false,()) acc=_;unfold qu;rw [ac' _ (by omega),show(!bw (([]:cX),false,()).1 [])=false from rfl];simp only [cond_false,al,ig,List.append_nil];cases jF acc <;> rfl
 | succ n ih=>
  intro m s acc hn hm hl;obtain ⟨m,rfl,_⟩:=fuel (show 0<m by omega)
  cases s with
  | nil=>show qu (qv m) ([],false,()) acc=_;unfold qu;rw [ac' _ (by omega),show(!bw (([]:cX),false,()).1 [])=false from rfl];simp only [cond_false,al,ig,List.append_nil];cases jF acc <;> rfl
  | cons y t=>
   show qu (qv m) (y :: t,false,()) acc=_;unfold qu;rw [show(!bw (y :: t,false,()).1 [])=true from by rw [xd];simp];simp only [cond_true,Bool.not_false];rw [List.length_cons] at hn hl;have i0:CM (some (y :: t)) (y :: t,false,()):=⟨rfl,by rw [List.length_cons];omega⟩;obtain ⟨a,Sh,e1,i1,_⟩:=xg i0;obtain ⟨b,JX,e2,i2,_⟩:=xg i1.1;obtain ⟨c,asH,e3,i3,_⟩:=xg i2.1;obtain ⟨p,ac2,et,i4,aw⟩:=JS i3.1;rw [e1];simp only [al];rw [e2];simp only [al];rw [e3];simp only [al];rw [et];simp only [al];rw [asG p aw];simp only [al];rw [b_ (by simp only [List.length_cons,List.length_nil];omega)];simp only [cond_true]
   have hq:sh ((some (y :: t)).bind fun s=>(cP s).bind fun a=>(fun a s=>(cP s).bind fun b=>(fun b s=>(cP s).bind fun c=>(fun c s=>(fb s).map fun p=>((a,b,c,p.1),p.2)) c.1 c.2) b.1 b.2) a.1 a.2) (a,b,c,p) ac2:=
    ur (q:=fun a s=>(cP s).bind fun b=>(fun b s=>(cP s).bind fun c=>(fun c s=>(fb s).map fun p=>((a,b,c,p.1),p.2)) c.1 c.2) b.1 b.2) i1
     (ur (q:=fun b s=>(cP s).bind fun c=>(fun c s=>(fb s).map fun p=>((a,b,c,p.1),p.2)) c.1 c.2) i2
      (ur (q:=fun c s=>(fb s).map fun p=>((a,b,c,p.1),p.2)) i3 (acY (f:=fun p=>(a,b,c,p)) i4)))
   have de:oE (y :: t)=((some (y :: t)).bind fun s=>(cP s).bind fun a=>(fun a s=>(cP s).bind fun b=>(fun b s=>(cP s).bind fun c=>(fun c s=>(fb s).map fun p=>((a,b,c,p.1),p.2)) c.1 c.2) b.1 b.2) a.1 a.2).bind fun q=>(mx q.1.2.2.2).map fun x=>((q.1.1,q.1.2.1,q.1.2.2.1,x,()),q.2):=by
    unfold oE CY CX CW;simp only [al]
    cases cP (y :: t) with
    | none=>rfl
    | some c0=>
    simp only [al]
    cases cP c0.2 with
    | none=>rfl
    | some d_=>
    simp only [al]
    cases cP d_.2 with
    | none=>rfl
    | some gQ=>
    simp only [al]
    cases fb gQ.2 with
    | none=>rfl
    | some hp=>rfl
   revert hq de;generalize ((some (y :: t)).bind fun s=>(cP s).bind fun a=>(fun a s=>(cP s).bind fun b=>(fun b s=>(cP s).bind fun c=>(fun c s=>(fb s).map fun p=>((a,b,c,p.1),p.2)) c.1 c.2) b.1 b.2) a.1 a.2)=O;intro hq de;obtain ⟨m,rfl,_⟩:=fuel (show 0<m by omega);have J2:ig (n+1) (y :: t)=(oE (y :: t)).bind fun a=>(ig n a.2).map fun l=>a.1 :: l:=by rw [ig]
   cases O with
   | none=>obtain ⟨cO,rfl,_⟩:=hq.1;rw [J2,de];exact ada m cO _
   | some q=>
    obtain ⟨⟨lQ,qR,nz,Sl⟩,r⟩:=q;have hv:=hq.2 _ rfl;simp only [Prod.mk.injEq] at hv;obtain ⟨rfl,rfl,rfl,rfl⟩:=hv;obtain ⟨rfl,_⟩:=hq.1;simp only [cond_false];rw [J2];simp only [al] at de
    cases hc:mx p with
    | none=>rw [hc] at de;rw [de];exact ada m r _
    | some x=>
     rw [hc] at de;rw [de];have hr:=(Sj de).2;rw [List.length_cons] at hr;refine Eq.trans (ih (m+1) r (acc++[(a,b,c,x,())]) (by omega) (by omega) (by simp only [List.length_append,List.length_cons,List.length_nil];omega)) ?_;simp only [Option.map_some,al]
     cases ig n r with
     | none=>rfl
     | some l=>simp only [al,Option.map_some,List.append_assoc,List.singleton_append]
theorem asU(s:cX)(hs:s.length≤1048576):Ia (s,())=some (zH (nA s)):=by
 show H' (qv aM) s=_;unfold H'
 cases s with
 | nil=>rfl
 | cons y t=>
  rw [show bw (y :: t) []=false from by rw [xd];simp];simp only [cond_false];rw [show ix (y :: t).length 0=some 0 from by rw [show(0:Int)=((0:Nat):Int) from rfl];exact br (by simp)];simp only [al];rw [show((y :: t).getD 0 0)=y from rfl];rw [nA];by_cases aR:y=102
  ·rw [if_pos aR,show((y.toNat:Int) != 102)=false from by rw [aR];rfl];simp only [cond_false];rw [show dh (y :: t).length 1 ((y :: t).length:Int)=some (1,(y :: t).length) from Sf (n:=(y :: t).length) (c:=1) (by simp)];simp only [al];rw [tU,List.drop_one,List.tail_cons];rw [List.length_cons] at hs;rw [asT t.length aM t [] (Nat.le_refl _) (by rw [hP];omega) (by simp;omega)];simp only [List.nil_append]
  ·rw [if_neg aR,show((y.toNat:Int) != 102)=true from by
    rw [bne_iff_ne];intro h;apply aR;have:y.toNat=102:=by omega
    exact UInt8.toNat_inj.1 this]
   rfl
def sk(l:List aP.D):cX:=102 ::(l.map sj).flatten
theorem J3{n:Int}(h:0≤n∧n≤127):(fr n).length≤1:=by unfold fr;rw [if_pos (cR.2 ⟨h.1,Int.le_trans h.2 (by decide)⟩)];exact JY 1 _ (by omega) (by omega)
theorem Sm{n:Int}(h:0≤n∧n≤2000001):(fr n).length≤3:=by
 unfold fr;rw [if_pos (cR.2 ⟨h.1,Int.le_trans h.2 (by decide)⟩)]
 have e:(128:Nat) ^ 3=2097152:=by decide
 exact JY 3 _ (by rw [e];omega) (by omega)
theorem Sn{p:cX}(h:p.length≤127):(jY p).length≤1+p.length:=by unfold jY;have:=J3 (n:=(p.length:Int)) ⟨by omega,by omega⟩;simp only [List.length_append];omega
theorem adb{x:Int}(h : -1000000≤x∧x≤1000000):(mw x).length≤3:=by
 unfold mw;split
 ·exact Sm (by omega)
 ·exact Sm (by omega)
theorem ade{x:aI.D}(h:eZ x=true):(pJ x).length≤194:=by have hx:=r8.1 h;have hk:=hx.dj;have h1:=J3 (n:=aD x) ⟨by omega,by omega⟩;have bJ:x.2.1.length≤60:=hx.path;have dg:x.2.2.1.length≤60:=hx.pA;have iO:x.2.2.2.2.2.1.length≤64:=hx.g_;have h2:=Sn (p:=x.2.1) (by omega);have h3:=Sn (p:=x.2.2.1) (by omega);have h4:=adb hx.n;have a7:=adb hx.m;have bh:=Sn (p:=x.2.2.2.2.2.1) (by omega);have e:pJ x=fr (aD x)++jY x.2.1++jY x.2.2.1++mw (bU x)++mw (en x)++jY x.2.2.2.2.2.1:=rfl;rw [e];simp only [List.length_append];omega
def xj(x:aP.D):Int:=x.1
def iG(x:aP.D):Int:=x.2.1
def iH(x:aP.D):Int:=x.2.2.1
theorem J4{x:aP.D}(h:lf x=true):(0≤xj x∧xj x≤2)∧(1≤iG x∧iG x≤3)∧(1≤iH x∧iH x≤1000000)∧eZ x.2.2.2.1=true:=by unfold lf at h;simp only [Bool.and_eq_true,cR] at h;exact⟨h.1.1.1,h.1.1.2,h.1.2,h.2⟩
theorem adf{x:aP.D}(h:lf x=true):(sj x).length≤206:=by obtain ⟨h1,h2,h3,h4⟩:=J4 h;have a1:=J3 (n:=xj x) ⟨by omega,by omega⟩;have a2:=J3 (n:=iG x) ⟨by omega,by omega⟩;have a3:=Sm (n:=iH x) ⟨by omega,by omega⟩;have a4:=CT (pJ x.2.2.2.1);have a5:=ade h4;have e:sj x=fr (xj x)++fr (iG x)++fr (iH x)++jY (pJ x.2.2.2.1):=rfl;rw [e];simp only [List.length_append];omega
theorem J5{l:List aP.D}(h:jF l=true){x:aP.D}(hx:x∈l):lf x=true:=by obtain ⟨i,hi,rfl⟩:=fA hx;have:=gZ.1 h i hi;unfold qS at this;simp only [Bool.and_eq_true] at this;exact this.1.1
theorem asV{l:List aP.D} :(∀x,x∈l→lf x=true)→((l.map sj).flatten).length≤l.length*206:=by
 induction l with
 | nil=>intro _;simp
 | cons x l ih=>
  intro h;rw [List.map_cons,List.flatten_cons,List.length_append,List.length_cons,Nat.add_one_mul];have:=ih fun y aR=>h y (by simp [aR])
  have:=adf (h x (by simp));omega
theorem asW{a b:Int}(h:¬a>b)(h':a≠b):a+1≤b:=by omega
theorem CZ{l:List aP.D}(h:jF l=true):l.length≤6:=by
 have aw:=gZ.1 h
 have mono:∀i,i+1<l.length→dZ l i≤dZ l (i+1):=by
  intro i hi;have:=aw (i+1) hi;unfold qS at this;simp only [Bool.and_eq_true,Bool.not_eq_true',Bool.and_eq_false_iff,decide_eq_false_iff_not,Nat.add_sub_cancel] at this;rcases this.1.2 with h | h
  ·omega
  ·exact Int.not_lt.1 h
 have two:∀i,i+2<l.length→dZ l i≠dZ l (i+2):=by
  intro i hi;have:=aw (i+2) hi;unfold qS at this;simp only [Bool.and_eq_true,Bool.not_eq_true',Bool.and_eq_false_iff,decide_eq_false_iff_not,Nat.add_sub_cancel] at this;rcases this.2 with h | h
  ·omega
  ·intro e;rw [e] at h;simp at h
 have up:∀i,i+2<l.length→dZ l i+1≤dZ l (i+2):=fun i hi=>asW (fun h=>by have h1:=mono i (by omega);have h2:dZ l (i+1)≤dZ l (i+2):=mono (i+1) (by omega);omega) (two i hi)
 have rg:∀i,i<l.length→0≤dZ l i∧dZ l i≤2:=fun i hi=>(J4 (J5 h (c9 hi))).1
 rcases Nat.lt_or_ge 6 l.length with bh | bh
 ·have a0:=rg 0 (by omega);have a1:=up 0 (by omega);have a2:=up 2 (by omega);have a3:=up 4 (by omega);have DC:=rg 6 (by omega);simp only [Nat.zero_add] at a1;rw [show 2+2=4 from rfl] at a2;rw [show 4+2=6 from rfl] at a3;omega
 ·exact bh
theorem asX{l:List aP.D}(h:jF l=true):(sk l).length≤1237:=by
 have h1:=CZ h;have h2:=asV (l:=l) fun x hx=>J5 h hx
 have h3:l.length*206≤6*206:=Nat.mul_le_mul_right _ h1;unfold sk;rw [List.length_cons];omega
theorem asY(l:List aP.D)(hl:l.length≤1048576):O2 (l,())=some (jF l,()):=by show O1 l=_;unfold O1;rw [show HK (l,2,())=_ from asP l 2 (by omega) hl];rfl
theorem asZ{x:aP.D}(h:lf x=true):O8 (x,())=some (sj x,()):=by obtain ⟨_,_,_,h4⟩:=J4 h;show O7 x=_;unfold O7;rw [uq,uq,uq,ac4,h4];simp only [al,cond_true];have a1:=xi x.1;have a2:=xi x.2.1;have a3:=xi x.2.2.1;have a4:=CT (pJ x.2.2.2.1);have a5:=ade h4;rw [JZ _ (by omega)];simp only [al];rw [b_ (by omega),b_ (by simp only [List.length_append];omega),b_ (by simp only [List.length_append];omega)];rfl
theorem adg(l:List aP.D)(hl:l.length≤1048576):O9 (l,())=some (if jF l then sk l else [],()):=by
 show HN (wC aM) l=_;unfold HN;rw [asY l hl];simp only [al]
 cases h:jF l with
 | false=>rfl
 | true=>
  have bh:=CZ h
  have key:∀(r m i:Nat) (o:cX),i+r=l.length→r<m→o.length≤1+i*206→wC m l o (i:Int)=some (o++((l.drop i).map sj).flatten,()):=by
   intro r
   induction r with
   | zero=>intro m i o hi hm ho;obtain ⟨m,rfl,_⟩:=fuel (show 0<m by omega);show yP (wC m) l o (i:Int)=_;unfold yP;rw [cw (by omega),List.drop_of_length_le (by omega)];simp
   | succ r ih=>
    intro m i o hi hm ho;obtain ⟨m,rfl,_⟩:=fuel (show 0<m by omega);have bj:i<l.length:=by omega
    have hs:=J5 h (c9 bj);have hle:=adf hs;have:i*206≤6*206:=Nat.mul_le_mul_right _ (by omega);show yP (wC m) l o (i:Int)=_;unfold yP;rw [b1 bj,br bj];simp only [cond_true,al];rw [asZ hs];simp only [al];rw [b_ (by omega),cG (by omega) (by omega)];simp only [cond_true];refine Eq.trans (ih m (i+1) (o++sj (I aP l i)) (by omega) (by omega) (by rw [List.length_append,Nat.add_one_mul];omega)) ?_;rw [drop_cons bj,List.map_cons,List.flatten_cons,List.append_assoc]
  simp only [Bool.not_true,cond_false,if_true];rw [show([102]:aj)=[102] from rfl,show(0:Int)=((0:Nat):Int) from rfl,key l.length aM 0 [102] (by omega) (by rw [hP];omega) (by simp),List.drop_zero];rfl
theorem as0(s:cX)(hs:s.length≤1600):∀(n m k:Nat) (acc:List aP.D),k≤s.length→s.length-k≤n→n<m→acc.length +(s.length-k)≤1700 →
  tE m s (k:Int) acc=some (zH ((ig n (s.drop k)).bind fun l=>if(if jF (acc++l) then sk (acc++l) else [])=s then some (acc++l) else none)):=by
 intro n
 induction n with
 | zero=>
  intro m k acc hk hn hm ha;obtain ⟨m,rfl,_⟩:=fuel (show 0<m by omega);have e:s.drop k=[]:=List.drop_of_length_le (by omega);show tD (tE m) s (k:Int) acc=_;unfold tD;rw [cw (by omega),e,adg acc (by omega)];simp only [cond_false,al,ig,List.append_nil];rw [xd];by_cases h:(if jF acc then sk acc else [])=s
  ·rw [decide_eq_true h,if_pos h];rfl
  ·rw [decide_eq_false h,if_neg h];rfl
 | succ n ih=>
  intro m k acc hk hn hm ha;obtain ⟨m,rfl,_⟩:=fuel (show 0<m by omega);by_cases iJ:k<s.length
  case neg=>
   have e:s.drop k=[]:=List.drop_of_length_le (by omega);show tD (tE m) s (k:Int) acc=_;unfold tD;rw [cw (by omega),e,adg acc (by omega)];simp only [cond_false,al,ig,List.append_nil];rw [xd];by_cases h:(if jF acc then sk acc else [])=s
   ·rw [decide_eq_true h,if_pos h];rfl
   ·rw [decide_eq_false h,if_neg h];rfl
  obtain ⟨y,t,as1⟩:∃y t,s.drop k=y :: t:=by
   cases af:s.drop k with
   | nil=>have:=congrArg List.length af;simp at this;omega
   | cons y t=>exact⟨y,t,rfl⟩
  show tD (tE m) s (k:Int) acc=_;unfold tD;rw [b1 iJ];simp only [cond_true];have i0:Pos s (some (s.drop k)) (k:Int):=⟨k,hk,rfl,rfl⟩;obtain ⟨L,gu,e3,i3⟩:=JU s (by omega) 3 (by omega) (by omega) i0;obtain ⟨p,fU,et,i4,aw⟩:=JW s (by omega) i3.1;rw [show pq (s,(k:Int),3,())=_ from e3];simp only [al];rw [et];simp only [al];rw [asJ p (by omega)];simp only [al];have bO:=Sg i4.1;rw [bO];have J2:ig (n+1) (s.drop k)=(oE (s.drop k)).bind fun a=>(ig n a.2).map fun l=>a.1 :: l:=by rw [as1,ig]
  rw [J2]
  have gi:∀u,iF cP 3 u=(cP u).bind fun a=>(cP a.2).bind fun b=>(cP b.2).map fun c=>([a.1,b.1,c.1],c.2):=by
   intro u;simp only [iF]
   cases h1:cP u with
   | none=>rfl
   | some a=>
   simp only [al]
   cases h2:cP a.2 with
   | none=>rfl
   | some b=>
   simp only [al];cases cP b.2 <;> rfl
  have no:oE (s.drop k)=none→fU<0∨mx p=none:=by
   intro h;unfold oE CY CX CW at h;rw [al,gi] at i3 i4
   cases h1:cP (s.drop k) with
   | none=>rw [h1] at i4;exact .inl (by rw [show fU = -1 from i4.1];omega)
   | some lQ=>
   rw [h1] at h i3 i4;simp only [al] at h i3 i4
   cases h2:cP lQ.2 with
   | none=>rw [h2] at i4;exact .inl (by rw [show fU = -1 from i4.1];omega)
   | some qR=>
   rw [h2] at h i3 i4;simp only [al] at h i3 i4
   cases h3:cP qR.2 with
   | none=>rw [h3] at i4;exact .inl (by rw [show fU = -1 from i4.1];omega)
   | some nz=>
   rw [h3] at h i3 i4;simp only [al,Option.map_some,kf] at h i3 i4
   cases h4:fb nz.2 with
   | none=>rw [h4] at i4;exact .inl (by rw [show fU = -1 from i4.1];omega)
   | some Sl=>
   rw [h4] at h i4;simp only [al] at h;have:=i4.2 _ rfl;rw [← this] at h
   cases hc:mx p with
   | none=>exact .inr rfl
   | some x=>rw [hc] at h;simp at h
  have yes:∀x r,oE (s.drop k)=some (x,r)→∃k':Nat,k'≤s.length∧fU=(k':Int)∧r=s.drop k'∧L=[x.1,x.2.1,x.2.2.1]∧mx p=some x.2.2.2.1:=by
   intro x r h;unfold oE CY CX CW at h;obtain ⟨lQ,h1,h⟩:=bd h;obtain ⟨qR,h2,h⟩:=bd h;obtain ⟨nz,h3,h⟩:=bd h;obtain ⟨Sl,h4,h⟩:=bd h;rw [Option.map_eq_some_iff] at h;obtain ⟨c,hc,h⟩:=h;rw [Prod.mk.injEq] at h;obtain ⟨rfl,rfl⟩:=h;have t3:(some (s.drop k)).bind (iF cP 3)=some ([lQ.1,qR.1,nz.1],nz.2):=by rw [al,gi,h1];simp only [al];rw [h2];simp only [al];rw [h3];rfl
   rw [t3] at i3 i4;have t4:(kf (some ([lQ.1,qR.1,nz.1],nz.2))).bind fb=some Sl:=h4;rw [t4] at i4;obtain ⟨k',dO,e1,e2⟩:=i4.1;exact⟨k',dO,e1,e2,i3.2 _ rfl,by rw [i4.2 _ rfl];exact hc⟩
  rw [← bO]
  cases de:oE (s.drop k) with
  | none=>
   rcases no de with h | h
   ·rw [decide_eq_true h];rfl
   ·rw [h];cases decide (fU<0) <;> rfl
  | some q=>
   obtain ⟨x,r⟩:=q;obtain ⟨k',dO,e1,e2,kP,sN⟩:=yes x r de;subst e1 e2 kP;have hr:=(Sj de).2;rw [List.length_drop,List.length_drop] at hr;rw [decide_eq_false (show ¬(k':Int)<0 by omega),sN];simp only [cond_false,CS,Bool.not_true];rw [show ix ([x.1,x.2.1,x.2.2.1]:List Int).length 0=some 0 from rfl,show ix ([x.1,x.2.1,x.2.2.1]:List Int).length 1=some 1 from rfl,show ix ([x.1,x.2.1,x.2.2.1]:List Int).length 2=some 2 from rfl];simp only [al];rw [b_ (by simp only [List.length_cons,List.length_nil];omega)];simp only [cond_true];refine Eq.trans (ih m k' (acc++[x]) (by omega) (by omega) (by omega) (by simp only [List.length_append,List.length_cons,List.length_nil];omega)) ?_
   cases ig n (s.drop k') with
   | none=>rfl
   | some l=>simp only [al,Option.map_some,List.append_assoc,List.singleton_append]
theorem as2(s:cX):Pd (s,())=some (zH (nA s)):=by
 show HR (tE aM) s=_;unfold HR
 cases s with
 | nil=>rfl
 | cons y t=>
  rw [bY (show((y :: t).length:Int)≠0 by rw [List.length_cons];omega)];simp only [cond_false]
  have fact:∀l,ig t.length t=some l→((if jF l then sk l else [])=y :: t↔jF l=true∧y=102):=by
   intro l h;have h1:=(Sk _ _ _ h).1
   cases hf:jF l with
   | false=>simp
   | true=>
    simp only [if_true,sk];rw [← h1];constructor
    ·intro e;exact⟨trivial,(List.cons.inj e).1.symm⟩
    ·rintro ⟨_,rfl⟩;rfl
  by_cases hl:(y :: t).length≤1600
  ·rw [decide_eq_false (show ¬((y :: t).length:Int)>1600 by omega)];simp only [cond_false];have hlen:(y :: t).length=t.length+1:=List.length_cons;rw [show(1:Int)=((1:Nat):Int) from rfl,as0 (y :: t) hl t.length aM 1 [] (by omega) (by omega) (by rw [hP];omega) (by simp only [List.length_nil];omega),List.drop_one,List.tail_cons,nA]
   cases aw:ig t.length t with
   | none=>simp
   | some l=>
    have:=fact l aw;simp only [al,List.nil_append];by_cases aR:y=102
    ·rw [if_pos aR]
     cases hf:jF l with
     | false=>rw [hf] at this;rw [if_neg (fun h=>by have:=(this.1 h).1;simp at this),if_neg (by simp)]
     | true=>rw [hf] at this;rw [if_pos (this.2 ⟨rfl,aR⟩),if_pos rfl]
    ·rw [if_neg aR,if_neg (fun h=>aR (this.1 h).2)]
  ·rw [decide_eq_true (show((y :: t).length:Int)>1600 by omega),nA];simp only [cond_true];by_cases aR:y=102
   ·rw [if_pos aR]
    cases aw:ig t.length t with
    | none=>rfl
    | some l=>
     simp only [al]
     cases hf:jF l with
     | false=>rfl
     | true=>have h1:=(Sk _ _ _ aw).1;have h2:=asX hf;unfold sk at h2;rw [← h1,List.length_cons] at h2;rw [List.length_cons] at hl;omega
   ·rw [if_neg aR];rfl
noncomputable def ij(t:c_)(c bG:Int)(x:aI.D)(index:Int):c_×an.D×Bool:=
 match rT (t,c,bG,x,index,()) with
 | some y=>(y.1,y.2.1,y.2.2.1)
 | none=>(t,(0,[],()),false)
theorem J6{t:c_}(c bG:Int)(x:aI.D)(index:Int)(h:fD t=true) :
  rT (t,c,bG,x,index,())=some ((ij t c bG x index).1,(ij t c bG x index).2.1,(ij t c bG x index).2.2,()) ∧
  yB (t,c,bG,x,index,())=some ((ij t c bG x index).2.1,(ij t c bG x index).2.2,(ij t c bG x index).1,()) ∧
  oC t c bG x index (ij t c bG x index).1 (ij t c bG x index).2.1 (ij t c bG x index).2.2:=by
 obtain ⟨cO,r,b,e1,e2,af⟩:=arY t c bG x index h;unfold ij;rw [e1,e2];exact⟨rfl,rfl,af⟩
theorem as3{t:c_}(c bG:Int)(x:aI.D)(index:Int)(h:fD t=true):fD (ij t c bG x index).1=true:=(J6 c bG x index h).2.2.ok h
abbrev Fold:Type:=c_×List aZ.D
noncomputable def gO(tn ix:Int)(p:Fold)(s:aP.D):Fold:=
 if xj s=tn then((ij p.1 (iG s) (iH s) s.2.2.2.1 ix).1,if(ij p.1 (iG s) (iH s) s.2.2.2.1 ix).2.2 then p.2++[(iG s,iH s,s.2.2.2.1,ix,(ij p.1 (iG s) (iH s) s.2.2.2.1 ix).2.1,())] else p.2) else p
noncomputable def sm(tn:Int)(i:Nat)(e:cX)(p:Fold):Fold:=
 match nA e with
 | none=>p
 | some l=>l.foldl (gO tn ((i:Int)+1)) (tick p.1,p.2)
noncomputable def ee(tn:Int)(l:List an.D):Nat→Fold
 | 0=>(CK,[])
 | n+1=>sm tn n (eo (I an l n)) (ee tn l n)
theorem J7{tn ix:Int}{p:Fold}(s:aP.D)(h:fD p.1=true):fD (gO tn ix p s).1=true∧(gO tn ix p s).2.length≤p.2.length+1:=by
 unfold gO;split
 ·refine⟨as3 _ _ _ _ h,?_⟩;simp only;split
  ·rw [List.length_append,List.length_singleton];omega
  ·omega
 ·exact⟨h,by omega⟩
theorem adh{tn ix:Int} : ∀(l:List aP.D) (p:Fold),fD p.1=true→fD (l.foldl (gO tn ix) p).1=true∧(l.foldl (gO tn ix) p).2.length≤p.2.length+l.length
 | [],p,h=>⟨h,by simp⟩
 | s :: l,p,h=>by have h1:=J7 (tn:=tn) (ix:=ix) s h;have h2:=adh (tn:=tn) (ix:=ix) l (gO tn ix p s) h1.1;rw [List.foldl_cons,List.length_cons];exact⟨h2.1,by omega⟩
theorem J8{s:cX}{l:List aP.D}(h:nA s=some l):jF l=true:=by
 cases s with
 | nil=>rw [nA] at h;cases h
 | cons y t=>
  rw [nA] at h;split at h
  ·obtain ⟨k,_,h⟩:=bd h;split at h
   ·rename_i hf;rw [← aW h];exact hf
   ·cases h
  ·cases h
theorem as4{tn:Int}(i:Nat)(e:cX){p:Fold}(h:fD p.1=true):fD (sm tn i e p).1=true∧(sm tn i e p).2.length≤p.2.length+6:=by
 unfold sm
 cases hr:nA e with
 | none=>exact⟨h,by simp only;omega⟩
 | some l=>have h1:=adh (tn:=tn) (ix:=(i:Int)+1) l (tick p.1,p.2) (JP h);have h2:=CZ (J8 hr);exact⟨h1.1,by have:=h1.2;simp only at this ⊢;omega⟩
theorem C0(tn:Int)(l:List an.D):∀n,fD (ee tn l n).1=true∧(ee tn l n).2.length≤6*n
 | 0=>⟨asi,by simp [ee]⟩
 | n+1=>by obtain ⟨h1,h2⟩:=C0 tn l n;have h3:=as4 (tn:=tn) n (eo (I an l n)) h1;rw [ee];exact⟨h3.1,by omega⟩
theorem adi(m:Nat)(a b c d e f g):(qs (m+1)).bs a b c d e f g=HT (qs m) a b c d e f g:=rfl
theorem adj(m:Nat)(a b c d e f g h i):(qs (m+1)).dd a b c d e f g h i=HU (qs m) a b c d e f g h i:=rfl
theorem as5(L:List an.D)(tn n:Int)(i:Nat)(hi:i≤1000)(z:c_)(l:List aP.D)(hl:l.length≤10):∀(r m k:Nat) (p:Fold),k+r=l.length→r<m→fD p.1=true→p.2.length+r≤100000 →
  ∃hH,(qs m).dd L tn n (i:Int) (k:Int) z p.1 p.2 l=(qs (m-r-1)).bs L tn n ((i:Int)+1) hH ((l.drop k).foldl (gO tn ((i:Int)+1)) p).1 ((l.drop k).foldl (gO tn ((i:Int)+1)) p).2:=by
 intro r
 induction r with
 | zero=>intro m k p hk hm aw hb;obtain ⟨m,rfl,_⟩:=fuel (show 0<m by omega);refine⟨z,?_⟩;rw [adj];unfold HU;rw [cw (by omega),List.drop_of_length_le (by omega),cG (a:=(i:Int)+1) (by omega) (by omega)];rfl
 | succ r ih=>
  intro m k p hk hm aw hb;obtain ⟨m,rfl,_⟩:=fuel (show 0<m by omega);have iJ:k<l.length:=by omega
  have hs:=J7 (tn:=tn) (ix:=(i:Int)+1) (I aP l k) aw;obtain ⟨hH,hz⟩:=ih m (k+1) (gO tn ((i:Int)+1) p (I aP l k)) (by omega) (by omega) hs.1 (by omega);refine⟨hH,?_⟩;rw [drop_cons iJ,List.foldl_cons,show m+1-(r+1)-1=m-r-1 by omega,← hz,adj];unfold HU;rw [b1 iJ,br iJ,cG (a:=(k:Int)+1) (by omega) (by omega),cG (a:=(i:Int)+1) (by omega) (by omega)];simp only [cond_true,al,Nat.zero_add];by_cases ht:xj (I aP l k)=tn
  ·rw [show((I aP l k).1 != tn)=false from ek ht];simp only [cond_false];obtain ⟨e1,e2,e3⟩:=J6 (t:=p.1) (iG (I aP l k)) (iH (I aP l k)) (I aP l k).2.2.2.1 ((i:Int)+1) aw;rw [show rT (p.1,(I aP l k).2.1,(I aP l k).2.2.1,(I aP l k).2.2.2.1,(i:Int)+1,())=_ from e1];simp only [al];rw [b_ (by simp only [List.length_cons,List.length_nil];omega)];have kc:gO tn ((i:Int)+1) p (I aP l k)=((ij p.1 (iG (I aP l k)) (iH (I aP l k)) (I aP l k).2.2.2.1 ((i:Int)+1)).1,if(ij p.1 (iG (I aP l k)) (iH (I aP l k)) (I aP l k).2.2.2.1 ((i:Int)+1)).2.2 then p.2++[(iG (I aP l k),iH (I aP l k),(I aP l k).2.2.2.1,(i:Int)+1,(ij p.1 (iG (I aP l k)) (iH (I aP l k)) (I aP l k).2.2.2.1 ((i:Int)+1)).2.1,())] else p.2):=by unfold gO;rw [if_pos ht]
   rw [kc];unfold WX WY WZ;rw [cG (a:=(k:Int)+1) (by omega) (by omega)]
   cases (ij p.1 (iG (I aP l k)) (iH (I aP l k)) (I aP l k).2.2.2.1 ((i:Int)+1)).2.2 with
   | true=>simp only [cond_true,if_true,o9,AF];rfl
   | false=>simp only [cond_false,Bool.false_eq_true,if_false,o9,AF];rfl
  ·rw [show((I aP l k).1 != tn)=true from dq ht];have kc:gO tn ((i:Int)+1) p (I aP l k)=p:=by unfold gO;rw [if_neg ht]
   rw [kc];rfl
theorem as6(L:List an.D)(tn:Int)(n:Nat)(hn:n≤L.length)(vj:L.length≤1000):Pe (L,tn,(n:Int),())=some ((ee tn L n).1,(ee tn L n).2,()):=by
 show HS (qs aM) L tn (n:Int)=_;unfold HS;rw [asl];simp only [al]
 have key:∀(r m i:Nat) (z:c_),i+r=n→20*r<m→(qs m).bs L tn (n:Int) (i:Int) z (ee tn L i).1 (ee tn L i).2=some ((ee tn L n).1,(ee tn L n).2,()):=by
  intro r
  induction r with
  | zero=>intro m i z hi hm;obtain ⟨m,rfl,_⟩:=fuel (show 0<m by omega);rw [adi];unfold HT;rw [decide_eq_false (by omega),show i=n by omega];rfl
  | succ r ih=>
   intro m i z hi hm;obtain ⟨m,rfl,_⟩:=fuel (show 0<m by omega);have bj:i<L.length:=by omega
   rw [adi];unfold HT;rw [decide_eq_true (by omega),br bj,cG (a:=(i:Int)+1) (by omega) (by omega)];simp only [cond_true,al];rw [as2];simp only [al];have cl:=C0 tn L i
   cases hr:nA (I an L i).2.1 with
   | none=>
    have e:ee tn L (i+1)=ee tn L i:=by rw [ee];unfold sm eo;rw [hr]
    have:=ih m (i+1) z (by omega) (by omega);rw [e] at this;exact this
   | some l=>
    have bh:=CZ (J8 hr);simp only [zH,Bool.not_true,cond_false];rw [ash (oy cl.1).2.1];simp only [al];obtain ⟨hH,hz⟩:=as5 L tn (n:Int) i (by omega) z l (by omega) l.length m 0 (tick (ee tn L i).1,(ee tn L i).2) (by omega) (by omega) (JP cl.1) (by have:=cl.2;simp only;omega);have e:ee tn L (i+1)=l.foldl (gO tn ((i:Int)+1)) (tick (ee tn L i).1,(ee tn L i).2):=by rw [ee];unfold sm eo;rw [hr]
    refine Eq.trans hz ?_;rw [List.drop_zero,← e];exact ih _ (i+1) hH (by omega) (by omega)
 exact key n aM 0 _ (by omega) (by rw [hP];omega)
theorem adk(m:Nat)(a b c d e f g):(pr (m+1)).df a b c d e f g=Ic (pr m) a b c d e f g:=rfl
theorem adl(m:Nat)(a b c d e f g h i j k):(pr (m+1)).eF a b c d e f g h i j k=Ie (pr m) a b c d e f g h i j k:=rfl
theorem as7(L:List an.D)(tn n:Int)(i:Nat)(hi:i≤1000)(z:c_)(l:List aP.D)(hl:l.length≤10):∀(r m k:Nat) (p:Fold),k+r=l.length→r<m→fD p.1=true→p.2.length+r≤100000 →
  (pr m).eF tn (i:Int) L n (i:Int) (l.length:Int) (k:Int) z p.1 p.2 l=(pr (m-r-1)).df tn L n ((i:Int)+1) z ((l.drop k).foldl (gO tn ((i:Int)+1)) p).1 ((l.drop k).foldl (gO tn ((i:Int)+1)) p).2:=by
 intro r
 induction r with
 | zero=>intro m k p hk hm aw hb;obtain ⟨m,rfl,_⟩:=fuel (show 0<m by omega);rw [adl];unfold Ie;rw [cw (by omega),List.drop_of_length_le (by omega),cG (a:=(i:Int)+1) (by omega) (by omega)];rfl
 | succ r ih=>
  intro m k p hk hm aw hb;obtain ⟨m,rfl,_⟩:=fuel (show 0<m by omega);have iJ:k<l.length:=by omega
  have hs:=J7 (tn:=tn) (ix:=(i:Int)+1) (I aP l k) aw;have hz:=ih m (k+1) (gO tn ((i:Int)+1) p (I aP l k)) (by omega) (by omega) hs.1 (by omega);rw [drop_cons iJ,List.foldl_cons,show m+1-(r+1)-1=m-r-1 by omega,← hz,adl];unfold Ie;rw [b1 iJ,br iJ,cG (a:=(k:Int)+1) (by omega) (by omega),cG (a:=(i:Int)+1) (by omega) (by omega)];simp only [cond_true,al,Nat.zero_add];by_cases ht:xj (I aP l k)=tn
  ·rw [show((I aP l k).1 != tn)=false from ek ht];simp only [cond_false];obtain ⟨e1,e2,e3⟩:=J6 (t:=p.1) (iG (I aP l k)) (iH (I aP l k)) (I aP l k).2.2.2.1 ((i:Int)+1) aw;rw [show yB (p.1,(I aP l k).2.1,(I aP l k).2.2.1,(I aP l k).2.2.2.1,(i:Int)+1,())=_ from e2];simp only [al];rw [b_ (by simp only [List.length_cons,List.length_nil];omega)];have kc:gO tn ((i:Int)+1) p (I aP l k)=((ij p.1 (iG (I aP l k)) (iH (I aP l k)) (I aP l k).2.2.2.1 ((i:Int)+1)).1,if(ij p.1 (iG (I aP l k)) (iH (I aP l k)) (I aP l k).2.2.2.1 ((i:Int)+1)).2.2 then p.2++[(iG (I aP l k),iH (I aP l k),(I aP l k).2.2.2.1,(i:Int)+1,(ij p.1 (iG (I aP l k)) (iH (I aP l k)) (I aP l k).2.2.2.1 ((i:Int)+1)).2.1,())] else p.2):=by unfold gO;rw [if_pos ht]
   rw [kc];unfold Xa;rw [cG (a:=(k:Int)+1) (by omega) (by omega)]
   cases (ij p.1 (iG (I aP l k)) (iH (I aP l k)) (I aP l k).2.2.2.1 ((i:Int)+1)).2.2 with
   | true=>rfl
   | false=>rfl
  ·rw [show((I aP l k).1 != tn)=true from dq ht];have kc:gO tn ((i:Int)+1) p (I aP l k)=p:=by unfold gO;rw [if_neg ht]
   rw [kc];rfl
theorem as8{t:ad}{l:List t.D}{n i:Nat}(hi:i<n)(hn:n≤l.length):I t (l.take n) i=I t l i:=by rw [c2 (by rw [List.length_take];omega),c2 (by omega),List.getElem_take]
theorem as9(L:List an.D)(tn:Int)(n:Nat)(hn:n≤L.length)(vj:L.length≤1000)(hs:∀i,i<L.length→(eo (I an L i)).length≤1048576)(z:c_) :
  (pr aM).df tn (part L 0 (n-0)) (((part L 0 (n-0)).length:Nat):Int) 0 z CK []=some ((ee tn L n).1,(ee tn L n).2,true,()):=by
 rw [Nat.sub_zero,pz];have hlen:(L.take n).length=n:=by rw [List.length_take];omega
 rw [hlen]
 have key:∀(r m i:Nat),i+r=n→20*r<m→(pr m).df tn (L.take n) (n:Int) (i:Int) z (ee tn L i).1 (ee tn L i).2=some ((ee tn L n).1,(ee tn L n).2,true,()):=by
  intro r
  induction r with
  | zero=>intro m i hi hm;obtain ⟨m,rfl,_⟩:=fuel (show 0<m by omega);rw [adk];unfold Ic;rw [decide_eq_false (by omega),show i=n by omega];rfl
  | succ r ih=>
   intro m i hi hm;obtain ⟨m,rfl,_⟩:=fuel (show 0<m by omega);have bj:i<n:=by omega
   rw [adk];unfold Ic;rw [decide_eq_true (by omega),hlen,br bj,cG (a:=(i:Int)+1) (by omega) (by omega)];simp only [cond_true,al];rw [as8 bj hn,show Ia ((I an L i).2.1,())=_ from asU _ (hs i (by omega))];simp only [al];have cl:=C0 tn L i
   cases hr:nA (I an L i).2.1 with
   | none=>
    have e:ee tn L (i+1)=ee tn L i:=by rw [ee];unfold sm eo;rw [hr]
    have:=ih m (i+1) (by omega) (by omega);rw [e] at this;exact this
   | some l=>
    have bh:=CZ (J8 hr);simp only [zH,Bool.not_true,cond_false];rw [asg (oy cl.1).2.1];simp only [al];have hz:=as7 (L.take n) tn (n:Int) i (by omega) z l (by omega) l.length m 0 (tick (ee tn L i).1,(ee tn L i).2) (by omega) (by omega) (JP cl.1) (by have:=cl.2;simp only;omega);have e:ee tn L (i+1)=l.foldl (gO tn ((i:Int)+1)) (tick (ee tn L i).1,(ee tn L i).2):=by rw [ee];unfold sm eo;rw [hr]
    refine Eq.trans hz ?_;rw [List.drop_zero,← e];exact ih _ (i+1) (by omega) (by omega)
 exact key n aM 0 (by omega) (by rw [hP];omega)
theorem as_(L:List an.D)(tn k:Int)(hs:∀i,i<L.length→(eo (I an L i)).length≤1048576):Pu (L,tn,k,()) =
  (if L.length≤400∧(0≤tn∧tn≤2)∧(0≤k∧k≤(L.length:Int)) then some ((ee tn L k.toNat).1,(ee tn L k.toNat).2,true,()) else some (((0,([]:List J.D),()),0,([]:List a6.D),([]:List bP.D),()),([]:List aZ.D),false,())):=by
 show Ib (pr aM) L tn k=_;unfold Ib;rw [jx,jx,asj];simp only [al];by_cases h1:L.length≤400
 case neg=>rw [decide_eq_true (by omega),if_neg (fun h=>h1 h.1)];rfl
 rw [decide_eq_false (by omega)];simp only [cond_false];by_cases h2:0≤tn∧tn≤2
 case neg=>rw [show ct tn 0 2=false from Bool.eq_false_iff.2 fun h=>h2 (cR.1 h),if_neg (fun h=>h2 h.2.1)];rfl
 rw [cR.2 h2];simp only [Bool.not_true,cond_false];by_cases h3:0≤k∧k≤(L.length:Int)
 case neg=>rw [show ct k 0 (L.length:Int)=false from Bool.eq_false_iff.2 fun h=>h3 (cR.1 h),if_neg (fun h=>h3 h.2.2)];rfl
 rw [cR.2 h3,if_pos ⟨h1,h2,h3⟩];simp only [Bool.not_true,cond_false];obtain ⟨n,rfl⟩:∃n:Nat,k=(n:Int):=⟨k.toNat,by omega⟩
 rw [show dh L.length 0 (n:Int)=some (0,n) from jd (Nat.zero_le _) (by omega)];simp only [al,Int.toNat_natCast];exact as9 L tn n (by omega) (by omega) hs _
theorem as'(tn:Int):OY (tn,())=some (ct tn 0 2,()):=by
 show OX tn=_;unfold OX ct;by_cases h:tn≥0
 ·rw [decide_eq_true h,show decide (tn<3)=decide (tn≤2) from by rw [decide_eq_decide];omega];rfl
 ·rw [decide_eq_false h];rfl
theorem ata(L:List an.D)(h:ad.cost (.sl an) L≤1048576):∀i,i<L.length→(eo (I an L i)).length≤1048576:=by intro i hi;have:=JG (t:=an) hi;rw [ar2] at this;omega
theorem adm{t:ad}(x:t.D)(h:t.cost x≤3100000)(hl:t.ja≤1000):t.wt x≤10000000000:=by have h1:=ad.zB t x;have h2:t.ja*(1+t.cost x)≤1000*3100001:=Nat.mul_le_mul hl (by omega);omega
theorem atb(x:aZ.D):ad.cost aZ x=ad.cost aI x.2.2.1 +(eo x.2.2.2.2.1).length:=by simp only [nj,nk,nm,nn,qC,Nat.zero_add,Nat.add_zero];rfl
theorem atc(x:aI.D)(h:eZ x=true):ad.cost aI x≤184:=by have hx:=r8.1 h;have bJ:x.2.1.length≤60:=hx.path;have dg:x.2.2.1.length≤60:=hx.pA;have iO:x.2.2.2.2.2.1.length≤64:=hx.g_;simp only [nj,nk,nm,nn,qC,Nat.zero_add,Nat.add_zero];omega
theorem oC.len{t cO:c_}{c bG index:Int}{x:aI.D}{r:an.D}{b:Bool}(ht:fD t=true)(h:oC t c bG x index cO r b):(eo r).length≤1000:=by
 cases h with
 | off=>simp [eo]
 | again=>
  unfold ow
  cases hb:hS t.2.2.2.1 c with
  | false=>simp [eo]
  | true=>exact Nat.le_trans (R8 (R7 ht (c9 (xe hb)))) (by decide)
 | late=>simp [eo]
 | JN _ _ t1 r hr=>exact hr.len ht
def C1(x:aZ.D):Prop:=eZ x.2.2.1=true∧(eo x.2.2.2.2.1).length≤1000
theorem atd{tn ix:Int}{p:Fold}{s:aP.D}(hs:lf s=true)(ht:fD p.1=true)(h:∀x,x∈p.2→C1 x):∀x,x∈(gO tn ix p s).2→C1 x:=by
 intro x hx;unfold gO at hx;split at hx
 ·simp only at hx;split at hx
  ·rcases List.mem_append.1 hx with hx | hx
   ·exact h x hx
   ·rw [List.mem_singleton.1 hx];refine⟨(J4 hs).2.2.2,?_⟩;have af:=(J6 (iG s) (iH s) s.2.2.2.1 ix ht).2.2;show(eo (ij p.1 (iG s) (iH s) s.2.2.2.1 ix).2.1).length≤1000;exact af.len ht
  ·exact h x hx
 ·exact h x hx
theorem adn{tn ix:Int} : ∀(l:List aP.D) (p:Fold),(∀s,s∈l→lf s=true)→fD p.1=true→(∀x,x∈p.2→C1 x)→∀x,x∈(l.foldl (gO tn ix) p).2→C1 x
 | [],p,_,_,h=>h
 | s :: l,p,hl,ht,h=>by rw [List.foldl_cons];exact adn l _ (fun y aR=>hl y (by simp [aR])) (J7 s ht).1 (atd (hl s (by simp)) ht h)
theorem J9(tn:Int)(L:List an.D):∀n,∀x,x∈(ee tn L n).2→C1 x
 | 0=>fun x hx=>by simp [ee] at hx
 | n+1=>by
  rw [ee];unfold sm
  cases hr:nA (eo (I an L n)) with
  | none=>exact J9 tn L n
  | some l=>exact adn l _ (fun s hs=>J5 (J8 hr) hs) (JP (C0 tn L n).1) (J9 tn L n)
theorem ate(tn:Int)(L:List an.D)(n:Nat)(hn:n≤400):ad.cost (.sl aZ) (ee tn L n).2≤3000000:=by
 rw [r0];have h1:=zq (fun y=>ad.cost aZ y) 1184 (ee tn L n).2 fun x hx=>by have:=J9 tn L n x hx;rw [atb];have:=atc _ this.1;have:=(J9 tn L n x hx).2;omega
 have h2:=(C0 tn L n).2;have h3:(ee tn L n).2.length*1184≤2400*1184:=Nat.mul_le_mul_right _ (by omega);omega
theorem atf(L:List an.D)(tn:Int)(hc:ad.cost (.sl an) L≤1048576):∃r b,HV (L,tn,())=some (r,b,())∧BC (L,tn,())=some (r,b,())∧ad.cost (.sl aZ) r≤3000000:=by
 have S:HV (L,tn,())=Pf L tn:=rfl;have CH:BC (L,tn,())=Pv L tn:=rfl;rw [S,CH];unfold Pf Pv;rw [as_ L tn _ (ata L hc),as'];by_cases h1:L.length≤400
 case neg=>rw [decide_eq_true (by omega),if_neg (fun h=>h1 h.1)];exact⟨[],false,rfl,rfl,by rw [r0];simp⟩
 rw [decide_eq_false (by omega)];simp only [cond_false,al];by_cases h2:0≤tn∧tn≤2
 case neg=>rw [show ct tn 0 2=false from Bool.eq_false_iff.2 fun h=>h2 (cR.1 h),if_neg (fun h=>h2 h.2.1)];exact⟨[],false,rfl,rfl,by rw [r0];simp⟩
 rw [cR.2 h2,if_pos ⟨h1,h2,by omega,Int.le_refl _⟩,as6 L tn L.length (Nat.le_refl _) (by omega),Int.toNat_natCast];exact⟨_,_,rfl,rfl,ate tn L L.length h1⟩
theorem aqc(L:List an.D)(tn:Int)(hw:ad.fg (.sl an) L):Xq (L,tn,())=some (true,()):=by
 show PF L tn=_;unfold PF;rw [arb L 1048576 (by omega) (by omega) hw];simp only [al];by_cases g1:((ad.cost (.sl an) L:Nat):Int)≤1048576
 case neg=>rw [CA g1];rfl
 rw [JH g1,xc (by omega)];simp only [cond_false];have c1:ad.cost (.sl an) L≤1048576:=by omega
 obtain ⟨r,b,hs,hi,fL⟩:=atf L tn c1;have n1:=adm (t:=.sl an) L (by omega) (by decide);have ch:=adm (t:=.sl aZ) r (by omega) (by decide);obtain ⟨k1,agp,atg,v1,jl⟩:=aro L 1 (by omega) (by omega) (by omega);have er:=ad.pE _ v1;obtain ⟨k2,ath,L2,v2,nH⟩:=arq r 1 (by omega) (by omega) (by omega);have fc:=ad.pE _ v2;have hh:=arw ath 1 k2 (by omega) (by omega) v2;have c0:=arj r (by omega);have d_:=arl L (by omega);have j3:(b==b)=true:=by cases b <;> rfl
 rw [are L c1];simp only [al];rw [hs];simp only [al];rw [hi];simp only [al];rw [c0];simp only [al,Bool.not_true,cond_false];rw [j3];simp only [Bool.not_true,cond_false];rw [d_];simp only [al,Bool.not_true,cond_false];rw [atg];simp only [al];rw [xc (by omega)];simp only [cond_false];rw [L2];simp only [al];rw [hh];simp only [al];rw [xc (by omega)];simp only [cond_false,bne_self_eq_false]
end Go.LM.j7
