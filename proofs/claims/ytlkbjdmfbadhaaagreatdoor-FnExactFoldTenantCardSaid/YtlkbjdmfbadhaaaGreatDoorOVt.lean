/- Tenants and frames: both sides come to the same; the law. Conditions: each theorem's own hypotheses. -/
import Derived.Test.YtlkbjdmfbadhaaaGreatDoorOVe
import Derived.Test.YtlkbjdmfbadhaaaGreatDoorOVp
set_option linter.unusedVariables false
set_option linter.unusedSimpArgs false
namespace Go.LM.ks
def u3(r:an.D):Bool:=cA r.1 0 200&&decide ((r.2.1.length:Int)≤400)
def u4(l:List aJ.D)(i:Nat):Bool:=
 cA (I aJ l i).1 1 100000 && !(decide (0<i)&&decide ((I aJ l (i-1)).1 >(I aJ l i).1))&&cA (I aJ l i).2.1 1 3&&cA (I aJ l i).2.2.1 1 1000000&&cA (I aJ l i).2.2.2.1 1 22&&cA (I aJ l i).2.2.2.2.1 0 200
def hH(l:List aJ.D):Bool:=fz l.length (u4 l)&&decide ((l.length:Int)≤20)
theorem asR(l:List aJ.D):Pj (l,())=some (hH l,()):=by
 show HD (wV aK) l=_;unfold HD hH;by_cases hl:(l.length:Int)≤20
 case neg=>rw[decide_eq_true (by omega),decide_eq_false hl,Bool.and_false];rfl
 rw[decide_eq_false (by omega),decide_eq_true hl];simp only[cond_false];refine uH l.length (by omega) (u4 l) true (fun m i=>wV m l i) ?_ ?_
 ·intro m _;simp only[wV,HE];rw[cl (Nat.le_refl _)];rfl
 ·intro m i hi _ hw;simp only[wV,HE,hw];rw[bN hi,bf hi];simp only[cond_true,al,j_,u4,xK,mJ,cond_false,Bool.false_and]
  cases i with
  |zero=>simp only[CE,Nat.lt_irrefl,decide_false,cond_false,cond_true]
  |succ i=>rw[CD hi (by omega)];simp only[CF,Nat.zero_lt_succ,decide_true,cond_true,al,Nat.add_sub_cancel]
theorem asS(l:List aJ.D)(hl:l.length≤1048576):NT (l,())=some (hH l,()):=by
 show FB (we aK) l=_;unfold FB hH;refine uH l.length (by omega) (u4 l) _ (fun m i=>we m l l (l.length:Int) i) ?_ ?_
 ·intro m _;simp only[we,FC];rw[cl (Nat.le_refl _)];rfl
 ·intro m i hi _ hw;simp only[we,FC,hw];rw[bN hi,bf hi];simp only[cond_true,al,jL,u4,xK,mJ,cond_false,Bool.false_and]
  cases i with
  |zero=>simp only[CE,Nat.lt_irrefl,decide_false,cond_false,cond_true]
  |succ i=>rw[CD hi (by omega)];simp only[CF,Nat.zero_lt_succ,decide_true,cond_true,al,Nat.add_sub_cancel]
abbrev c8:Type:=aS.D
def nP(l:List aZ.D)(i:Nat):Bool:=
 cA (I aZ l i).1 1 3 && !(decide (0<i)&&decide ((I aZ l (i-1)).1≥(I aZ l i).1))&&cA (I aZ l i).2.1 1 1000000&&cA (I aZ l i).2.2.1 1 100000&&u3 (I aZ l i).2.2.2.1
def f'(t:c8):Bool:=fz t.2.2.2.1.length (nP t.2.2.2.1)&&(cA t.2.1 0 30&&(hH t.2.2.1&&lx t.1))
theorem Ty{l:List aZ.D}(h:fz l.length (nP l)=true):l.length≤3:=by
 have h:=hC.1 h
 have key:∀i,i<l.length→(i:Int)+1≤(I aZ l i).1:=by
  intro i
  induction i with
  |zero=>intro hi;have:=h 0 hi;unfold nP at this;simp only[Bool.and_eq_true,cR]at this;have:=this.1.1.1.1.1;omega
  |succ i ih=>
   intro hi;have h1:=ih (by omega);have:=h (i+1) hi;unfold nP at this;simp only[Bool.and_eq_true,Bool.not_eq_true',Bool.and_eq_false_iff,decide_eq_false_iff_not]at this;have h2:=this.1.1.1.2;rcases h2 with h2|h2
   ·omega
   ·rw[Nat.add_sub_cancel]at h2;have h2:(I aZ l i).1<(I aZ l (i+1)).1:=Int.not_le.1 h2;exact(by intro a b h1 h2;omega:∀a b:Int,(i:Int)+1≤a→a<b→((i+1:Nat):Int)+1≤b) _ _ h1 h2
 rcases Nat.lt_or_ge 3 l.length with h3|h3
 ·have h4:=key 3 h3;have:=h 3 h3;unfold nP at this;simp only[Bool.and_eq_true,cR]at this;have:=this.1.1.1.1.2;omega
 ·exact h3
theorem Tz(t:c8):ad.cost aS t=ad.cost ag t.1 +(ad.cost (.sl aJ) t.2.2.1+ad.cost (.sl aZ) t.2.2.2.1):=by simp only[jP,jQ,jR,jS,Nat.zero_add,Nat.add_zero]
def mP(k:Int):aM.D:=if k=1 then(0,0,([]:List Int),()) else if k=2 then(2,2,[5],()) else if k=3 then(3,2,([]:List Int),()) else(1000,1000,([]:List Int),())
theorem asT(k:Int):N_ (k,())=some (mP k,()):=by
 show N9 k=_;unfold N9 mP;by_cases h1:k=1
 ·rw[cL h1,if_pos h1];rfl
 by_cases h2:k=2
 ·rw[bY h1,if_neg h1,cL h2,if_pos h2];rfl
 by_cases h3:k=3
 ·rw[bY h1,if_neg h1,bY h2,if_neg h2,cL h3,if_pos h3];rfl
 ·rw[bY h1,if_neg h1,bY h2,if_neg h2,bY h3,if_neg h3];rfl
theorem asU(k:Int):Pq (k,())=some (mP k,()):=by
 show Pp k=_;unfold Pp mP;by_cases h1:k=1
 ·rw[cL h1,if_pos h1];rfl
 by_cases h2:k=2
 ·rw[bY h1,if_neg h1,cL h2,if_pos h2];rfl
 by_cases h3:k=3
 ·rw[bY h1,if_neg h1,bY h2,if_neg h2,cL h3,if_pos h3];rfl
 ·rw[bY h1,if_neg h1,bY h2,if_neg h2,bY h3,if_neg h3];rfl
def eG(l:List aZ.D)(c:Int):Nat:=(l.takeWhile fun s=>decide (s.1<c)).length
def iA(l:List aZ.D)(c:Int):Bool:=decide (eG l c<l.length)&&(I aZ l (eG l c)).1==c
theorem As(l:List aZ.D)(c:Int):eG l c≤l.length:=by unfold eG;exact(List.takeWhile_sublist _).length_le
theorem K3{α:Type}(p:α→Bool):∀(l:List α) (i:Nat) (h:i<l.length),i≤(l.takeWhile p).length→(p l[i]=true→i+1≤(l.takeWhile p).length)∧(p l[i]=false→(l.takeWhile p).length=i)
 | [],i,h,_=>by simp at h
 |y::l,0,h,hi=>by
  constructor
  ·intro av;have av:p y=true:=av;rw[List.takeWhile_cons,av];simp
  ·intro av;have av:p y=false:=av;rw[List.takeWhile_cons,av];simp
 |y::l,i+1,h,hi=>by
  by_cases aR:p y=true
  ·rw[List.takeWhile_cons,if_pos aR]at hi⊢;rw[List.length_cons]at hi⊢;have h1:=K3 p l i (by rw[List.length_cons]at h;omega) (by omega);constructor
   ·intro av;have:=h1.1 av;omega
   ·intro av;have:=h1.2 av;omega
  ·rw[List.takeWhile_cons,if_neg aR]at hi;simp at hi
theorem aeq(t:c8)(c:Int)(hl:t.2.2.2.1.length≤1048576):HG (t,c,())=some ((eG t.2.2.2.1 c:Int),iA t.2.2.2.1 c,()):=by
 have key:∀(r m i:Nat),i+r=t.2.2.2.1.length→i≤eG t.2.2.2.1 c→r<m→zp m c (i:Int) t=some ((eG t.2.2.2.1 c:Int),iA t.2.2.2.1 c,()):=by
  intro r
  induction r with
  |zero=>
   intro m i hi hs hm;obtain⟨m,rfl,_⟩:=fuel (show 0<m by omega);have h1:=As t.2.2.2.1 c;have e:eG t.2.2.2.1 c=t.2.2.2.1.length:=by omega
   show zo (zp m) c (i:Int) t=_;unfold zo;rw[cl (by omega)];unfold iA;rw[e,decide_eq_false (by omega)];rfl
  |succ r ih=>
   intro m i hi hs hm;obtain⟨m,rfl,_⟩:=fuel (show 0<m by omega);have bm:i<t.2.2.2.1.length:=by omega
   show zo (zp m) c (i:Int) t=_;unfold zo;rw[bN bm,bf bm];simp only[cond_true,al];have hst:=K3 (fun s:aZ.D=>decide (s.1<c)) t.2.2.2.1 i bm hs;rw[←c3 (t:=aZ) bm]at hst;by_cases bQ:(I aZ t.2.2.2.1 i).1<c
   ·rw[show decide ((I aZ t.2.2.2.1 i).1≥c)=false from decide_eq_false (Int.not_le.2 bQ)];simp only[cond_false];rw[cH (a:=(i:Int)+1) (by omega) (by omega)];exact ih m (i+1) (by omega) (hst.1 (decide_eq_true bQ)) (by omega)
   ·rw[show decide ((I aZ t.2.2.2.1 i).1≥c)=true from decide_eq_true (Int.not_lt.1 bQ)];simp only[cond_true];have e:eG t.2.2.2.1 c=i:=hst.2 (decide_eq_false bQ);unfold iA;rw[e,decide_eq_true bm,Bool.true_and]
 exact key t.2.2.2.1.length aK 0 (by omega) (Nat.zero_le _) (by rw[fA];omega)
theorem aer(t:c8)(c:Int)(hl:t.2.2.2.1.length≤1048576):F9 (t,c,())=some ((eG t.2.2.2.1 c:Int),iA t.2.2.2.1 c,()):=by
 have key:∀(r m i:Nat),i+r=t.2.2.2.1.length→i≤eG t.2.2.2.1 c→r<m→zg m t c (i:Int)=some ((eG t.2.2.2.1 c:Int),iA t.2.2.2.1 c,()):=by
  intro r
  induction r with
  |zero=>
   intro m i hi hs hm;obtain⟨m,rfl,_⟩:=fuel (show 0<m by omega);have h1:=As t.2.2.2.1 c;have e:eG t.2.2.2.1 c=i:=by omega
   show zf (zg m) t c (i:Int)=_;unfold zf;rw[cl (by omega)];unfold iA;rw[e,decide_eq_false (by omega)];rfl
  |succ r ih=>
   intro m i hi hs hm;obtain⟨m,rfl,_⟩:=fuel (show 0<m by omega);have bm:i<t.2.2.2.1.length:=by omega
   show zf (zg m) t c (i:Int)=_;unfold zf;rw[bN bm,bf bm];simp only[cond_true,al];have hst:=K3 (fun s:aZ.D=>decide (s.1<c)) t.2.2.2.1 i bm hs;rw[←c3 (t:=aZ) bm]at hst;by_cases bQ:(I aZ t.2.2.2.1 i).1<c
   ·rw[decide_eq_true bQ];simp only[cond_true];rw[cH (a:=(i:Int)+1) (by omega) (by omega)];exact ih m (i+1) (by omega) (hst.1 (decide_eq_true bQ)) (by omega)
   ·rw[decide_eq_false bQ];simp only[cond_false];have e:eG t.2.2.2.1 c=i:=hst.2 (decide_eq_false bQ);unfold iA;rw[e,decide_eq_true bm,Bool.true_and]
 exact key t.2.2.2.1.length aK 0 (by omega) (Nat.zero_le _) (by rw[fA];omega)
def pX(l:List aZ.D)(c:Int):aZ.D:=cond (iA l c) (I aZ l (eG l c)) (0,0,0,(0,([]:aj),()),())
theorem At{l:List aZ.D}{c:Int}(h:iA l c=true):eG l c<l.length:=by unfold iA at h;rw[Bool.and_eq_true,decide_eq_true_eq]at h;exact h.1
theorem asV(t:c8)(c:Int)(hl:t.2.2.2.1.length≤1048576):N3 (t,c,())=some (pX t.2.2.2.1 c,()):=by
 show N2 t c=_;unfold N2 pX;rw[aer t c hl];simp only[al]
 cases h:iA t.2.2.2.1 c with
 |false=>rfl
 |true=>rw[bf (At h)];rfl
theorem asW(t:c8)(c:Int)(hl:t.2.2.2.1.length≤1048576):Pl (t,c,())=some (pX t.2.2.2.1 c,()):=by
 show Pk t c=_;unfold Pk pX;rw[aeq t c hl];simp only[al]
 cases h:iA t.2.2.2.1 c with
 |false=>rfl
 |true=>rw[bf (At h)];rfl
def fQ(a b:Int):Int:=if b>a then b else a
def h_(f:Nat→Int)(a:Int):Nat→Int
 |0=>a
 |n+1=>fQ (h_ f a n) (f n)
theorem asX{x a b:Int}:x<fQ a b↔x<a∨x<b:=by unfold fQ;split<;>omega
theorem TA{x a:Int}{f:Nat→Int}:∀n,x<h_ f a n↔x<a∨∃i,i<n∧x<f i
 |0=>by simp[h_]
 |n+1=>by
  rw[h_,asX,TA n];constructor
  ·rintro ((h|⟨i,hi,h⟩)|h)
   ·exact .inl h
   ·exact .inr ⟨i,by omega,h⟩
   ·exact .inr ⟨n,by omega,h⟩
  ·rintro (h|⟨i,hi,h⟩)
   ·exact .inl (.inl h)
   ·by_cases e:i=n
    ·subst e;exact .inr h
    ·exact .inl (.inr ⟨i,by omega,h⟩)
def lD(l:List aJ.D)(i:Nat):Int:=(I aJ l i).1
def mQ(l:List aZ.D)(i:Nat):Int:=(I aZ l i).2.2.1
def oQ(t:c8):Int:=h_ (mQ t.2.2.2.1) (h_ (lD t.2.2.1) 0 t.2.2.1.length) t.2.2.2.1.length
theorem aes(m:Nat)(a b t):(ov (m+1)).k3 a b t=HH (ov m) a b t:=rfl
theorem aet(m:Nat)(a b t):(ov (m+1)).cW a b t=HI (ov m) a b t:=rfl
theorem asY(t:c8)(hn:t.2.2.1.length≤1048576)(hl:t.2.2.2.1.length≤1048576):Pm (t,())=some (oQ t,()):=by
 have cW:∀(r m i:Nat) (a:Int),i+r=t.2.2.2.1.length→r<m→(ov m).cW (h_ (mQ t.2.2.2.1) a i) (i:Int) t=some (h_ (mQ t.2.2.2.1) a t.2.2.2.1.length,()):=by
  intro r
  induction r with
  |zero=>intro m i a hi hm;obtain⟨m,rfl,_⟩:=fuel (show 0<m by omega);rw[aet];unfold HI;rw[cl (by omega),show i=t.2.2.2.1.length by omega];rfl
  |succ r ih=>
   intro m i a hi hm;obtain⟨m,rfl,_⟩:=fuel (show 0<m by omega);have bm:i<t.2.2.2.1.length:=by omega
   rw[aet];unfold HI;rw[bN bm,bf bm,cH (a:=(i:Int)+1) (by omega) (by omega)];simp only[cond_true,al];have:=ih m (i+1) a (by omega) (by omega);rw[h_,fQ]at this;show cond (decide (mQ t.2.2.2.1 i>h_ (mQ t.2.2.2.1) a i)) ((ov m).cW (mQ t.2.2.2.1 i) ((i:Int)+1) t) ((ov m).cW (h_ (mQ t.2.2.2.1) a i) ((i:Int)+1) t)=_;by_cases h:mQ t.2.2.2.1 i>h_ (mQ t.2.2.2.1) a i
   ·rw[if_pos h]at this;rw[decide_eq_true h];exact this
   ·rw[if_neg h]at this;rw[decide_eq_false h];exact this
 have k3:∀(r m i:Nat),i+r=t.2.2.1.length→r+t.2.2.2.1.length+1<m→(ov m).k3 (h_ (lD t.2.2.1) 0 i) (i:Int) t=some (oQ t,()):=by
  intro r
  induction r with
  |zero=>intro m i hi hm;obtain⟨m,rfl,_⟩:=fuel (show 0<m by omega);rw[aes];unfold HH;rw[cl (by omega),show i=t.2.2.1.length by omega];exact cW t.2.2.2.1.length m 0 _ (by omega) (by omega)
  |succ r ih=>
   intro m i hi hm;obtain⟨m,rfl,_⟩:=fuel (show 0<m by omega);have bm:i<t.2.2.1.length:=by omega
   rw[aes];unfold HH;rw[bN bm,bf bm,cH (a:=(i:Int)+1) (by omega) (by omega)];simp only[cond_true,al];have:=ih m (i+1) (by omega) (by omega);rw[h_,fQ]at this;show cond (decide (lD t.2.2.1 i>h_ (lD t.2.2.1) 0 i)) ((ov m).k3 (lD t.2.2.1 i) ((i:Int)+1) t) ((ov m).k3 (h_ (lD t.2.2.1) 0 i) ((i:Int)+1) t)=_;by_cases h:lD t.2.2.1 i>h_ (lD t.2.2.1) 0 i
   ·rw[if_pos h]at this;rw[decide_eq_true h];exact this
   ·rw[if_neg h]at this;rw[decide_eq_false h];exact this
 exact k3 t.2.2.1.length aK 0 (by omega) (by rw[fA];omega)
theorem aeu(m:Nat)(a b d e f):(tY (m+1)).k2 a b d e f=F6 (tY m) a b d e f:=rfl
theorem aev(m:Nat)(a b d e):(tY (m+1)).cW a b d e=F7 (tY m) a b d e:=rfl
theorem asZ(t:c8)(x:Int)(hx:0≤x)(hn:t.2.2.1.length≤1048576)(hl:t.2.2.2.1.length≤1048576):N1 (t,x,())=some (decide (x<oQ t),()):=by
 have hnew:x<oQ t↔(∃i,i<t.2.2.1.length∧x<lD t.2.2.1 i)∨∃i,i<t.2.2.2.1.length∧x<mQ t.2.2.2.1 i:=by
  unfold oQ;rw[TA,TA];constructor
  ·rintro ((h|h)|h)
   ·omega
   ·exact .inl h
   ·exact .inr h
  ·rintro (h|h)
   ·exact .inl (.inr h)
   ·exact .inr h
 have cW:∀(r m i:Nat),i+r=t.2.2.2.1.length→r<m→(∀j,j<t.2.2.1.length→¬x<lD t.2.2.1 j)→(∀j,j<i→¬x<mQ t.2.2.2.1 j)→(tY m).cW x t.2.2.2.1 (t.2.2.2.1.length:Int) (i:Int)=some (decide (x<oQ t),()):=by
  intro r
  induction r with
  |zero=>
   intro m i hi hm h1 h2;obtain⟨m,rfl,_⟩:=fuel (show 0<m by omega);rw[aev];unfold F7
   rw[cl (by omega),decide_eq_false (fun h=>by
    rcases hnew.1 h with⟨j,hj,h⟩|⟨j,hj,h⟩
    ·exact h1 j hj h
    ·exact h2 j (by omega) h)]
   rfl
  |succ r ih=>
   intro m i hi hm h1 h2;obtain⟨m,rfl,_⟩:=fuel (show 0<m by omega);have bm:i<t.2.2.2.1.length:=by omega
   rw[aev];unfold F7;rw[bN bm,bf bm,cH (a:=(i:Int)+1) (by omega) (by omega)];simp only[cond_true,al];show cond (decide (x<mQ t.2.2.2.1 i)) _ _=_;by_cases h:x<mQ t.2.2.2.1 i
   ·rw[decide_eq_true h,decide_eq_true (hnew.2 (.inr ⟨i,bm,h⟩))];rfl
   ·rw[decide_eq_false h]
    exact ih m (i+1) (by omega) (by omega) h1 fun j hj=>by
     by_cases e:j=i
     ·subst e;exact h
     ·exact h2 j (by omega)
 have k2:∀(r m i:Nat),i+r=t.2.2.1.length→r+t.2.2.2.1.length+1<m→(∀j,j<i→¬x<lD t.2.2.1 j)→(tY m).k2 t x t.2.2.1 (t.2.2.1.length:Int) (i:Int)=some (decide (x<oQ t),()):=by
  intro r
  induction r with
  |zero=>intro m i hi hm h1;obtain⟨m,rfl,_⟩:=fuel (show 0<m by omega);rw[aeu];unfold F6;rw[cl (by omega)];exact cW t.2.2.2.1.length m 0 (by omega) (by omega) (fun j hj=>h1 j (by omega)) (fun j hj=>by omega)
  |succ r ih=>
   intro m i hi hm h1;obtain⟨m,rfl,_⟩:=fuel (show 0<m by omega);have bm:i<t.2.2.1.length:=by omega
   rw[aeu];unfold F6;rw[bN bm,bf bm,cH (a:=(i:Int)+1) (by omega) (by omega)];simp only[cond_true,al];show cond (decide (x<lD t.2.2.1 i)) _ _=_;by_cases h:x<lD t.2.2.1 i
   ·rw[decide_eq_true h,decide_eq_true (hnew.2 (.inl ⟨i,bm,h⟩))];rfl
   ·rw[decide_eq_false h]
    exact ih m (i+1) (by omega) (by omega) fun j hj=>by
     by_cases e:j=i
     ·subst e;exact h
     ·exact h1 j (by omega)
 exact k2 t.2.2.1.length aK 0 (by omega) (by rw[fA];omega) (fun j hj=>by omega)
def jW(a:Int):Bool:=a==4||(a==11||(a==13||(a==14||(a==17||(a==18||(a==20||a==21))))))
theorem K4(a:Int):BZ (a,())=some (jW a,()):=by show Po a=_;unfold Po jW;cases a==4<;>cases a==11<;>cases a==13<;>cases a==14<;>cases a==17<;>cases a==18<;>cases a==20<;>cases a==21<;>rfl
theorem TB(a:Int):BF (a,())=some (jW a,()):=K4 a
theorem as0{a:Int}(h:jW a=true):cA a 1 22=true:=by unfold jW at h;simp only[Bool.or_eq_true,beq_iff_eq]at h;rw[cR];omega
def mR(a:Int):Int:=cond (cA a 1 22) (cond (jW a) 1 3) 0
theorem as1(a:Int):N6 (a,())=some (mR a,()):=by show N5 a=_;unfold N5 mR;rw[jL,TB];simp only[al];cases cA a 1 22<;>cases jW a<;>rfl
theorem as2(a:Int):Ps (a,())=some (mR a,()):=by
 show Pr a=_;unfold Pr mR;rw[j_,K4];simp only[al]
 cases h:jW a with
 |true=>rw[as0 h];rfl
 |false=>cases cA a 1 22<;>rfl
theorem TC(a:Int):0≤mR a∧mR a≤3:=by unfold mR;cases cA a 1 22<;>cases jW a<;>simp
def l8(n k:Int):Int×Bool:=if mR k=0∨mR k>n then(n,false) else(n-mR k,true)
theorem as3(n k:Int)(hn:n≤30):N8 (n,k,())=some ((l8 n k).1,(l8 n k).2,()):=by
 show N7 n k=_;unfold N7 l8;rw[as1];simp only[al];have hc:=TC k;by_cases h0:mR k=0
 ·rw[cL h0,if_pos (.inl h0)];rfl
 rw[bY h0];by_cases h1:mR k>n
 ·rw[decide_eq_true h1,if_pos (.inr h1)];rfl
 ·rw[decide_eq_false h1,if_neg (by omega),cH (by omega) (by omega)];rfl
theorem as4(n k:Int)(hn:n≤30):Pu (n,k,())=some ((l8 n k).1,(l8 n k).2,()):=by
 show Pt n k=_;unfold Pt l8;rw[as2];simp only[al];have hc:=TC k;by_cases h0:mR k=0
 ·rw[cL h0,if_pos (.inl h0)];rfl
 rw[bY h0];by_cases h1:mR k>n
 ·rw[decide_eq_true h1,if_pos (.inr h1)];rfl
 ·rw[decide_eq_false h1,if_neg (by omega),cH (by omega) (by omega)];rfl
def nQ(n:aJ.D):Int:=n.1
def pY(n:aJ.D):Int:=n.2.1
def pZ(n:aJ.D):Int:=n.2.2.1
def p0(n:aJ.D):Int:=n.2.2.2.1
def q_(n:aJ.D):Int:=n.2.2.2.2.1
def TD(l:List aJ.D)(i:Nat):aP:=gl (nQ (I aJ l i))++[46]++gl (pY (I aJ l i))++[46]++gl (pZ (I aJ l i))++[46]++gl (p0 (I aJ l i))++[46]++gl (q_ (I aJ l i))
structure aew(n:aJ.D):Prop where
 a:1≤nQ n∧nQ n≤100000
 b:1≤pY n∧pY n≤3
 c:1≤pZ n∧pZ n≤1000000
 d:1≤p0 n∧p0 n≤22
 e:0≤q_ n∧q_ n≤200
theorem K5{l:List aJ.D}(h:hH l=true){i:Nat}(hi:i<l.length):aew (I aJ l i):=by unfold hH at h;rw[Bool.and_eq_true]at h;have h1:=hC.1 h.1 i hi;unfold u4 at h1;simp only[Bool.and_eq_true,cR]at h1;exact⟨h1.1.1.1.1.1,h1.1.1.1.2,h1.1.1.2,h1.1.2,h1.2⟩
theorem as5{l:List aJ.D}(h:hH l=true){i:Nat}(hi:i<l.length):(TD l i).length≤104:=by have hr:=K5 h hi;have d1:=(fT (nQ (I aJ l i)) (by have:=hr.a;omega)).1;have d2:=(fT (pY (I aJ l i)) (by have:=hr.b;omega)).1;have d3:=(fT (pZ (I aJ l i)) (by have:=hr.c;omega)).1;have d4:=(fT (p0 (I aJ l i)) (by have:=hr.d;omega)).1;have d5:=(fT (q_ (I aJ l i)) (by have:=hr.e;omega)).1;unfold TD;simp only[List.length_append,List.length_cons,List.length_nil];omega
def s5(l:List aJ.D)(i:Nat)(o:aP):aP:=o++gl (nQ (I aJ l i))++[46]++gl (pY (I aJ l i))++[46]++gl (pZ (I aJ l i))++[46]++gl (p0 (I aJ l i))++[46]++gl (q_ (I aJ l i))
def lE(l:List aJ.D)(a:Nat):Nat→Nat→aP→aP
 |0,_,o=>o
 |r+1,i,o=>if i<l.length∧i<a+6 then lE l a r (i+1) (s5 l i (if a<i then o++[32] else o)) else o
theorem DA{l:List aJ.D}(h:hH l=true){i:Nat}(hi:i<l.length)(o:aP):(s5 l i o).length≤o.length+104:=by have:=as5 h hi;unfold TD at this;unfold s5;simp only[List.length_append,List.length_cons,List.length_nil]at this⊢;omega
theorem aex(m:Nat)(a b d e):(qC (m+1)).bs a b d e=HO (qC m) a b d e:=rfl
theorem as6(m:Nat)(a b d e):(qC (m+1)).gd a b d e=Pv (qC m) a b d e:=rfl
theorem aey{l:List aJ.D}(h:hH l=true){i:Nat}(hi:i<l.length)(m:Nat)(a:Int)(o:aP)(ho:o.length≤10000)(hii:i<100):(qC (m+1)).gd l a o (i:Int)=(qC m).bs l a (s5 l i o) ((i:Int)+1):=by have hr:=K5 h hi;have d1:=fT (nQ (I aJ l i)) (by have:=hr.a;omega);have d2:=fT (pY (I aJ l i)) (by have:=hr.b;omega);have d3:=fT (pZ (I aJ l i)) (by have:=hr.c;omega);have d4:=fT (p0 (I aJ l i)) (by have:=hr.d;omega);have d5:=fT (q_ (I aJ l i)) (by have:=hr.e;omega);rw[as6];unfold Pv;rw[bf hi];simp only[al];rw[show ff ((I aJ l i).1,())=some (gl (nQ (I aJ l i)),()) from d1.2.1,show ff ((I aJ l i).2.1,())=some (gl (pY (I aJ l i)),()) from d2.2.1,show ff ((I aJ l i).2.2.1,())=some (gl (pZ (I aJ l i)),()) from d3.2.1,show ff ((I aJ l i).2.2.2.1,())=some (gl (p0 (I aJ l i)),()) from d4.2.1,show ff ((I aJ l i).2.2.2.2.1,())=some (gl (q_ (I aJ l i)),()) from d5.2.1];simp only[al];have e1:=d1.1;have e2:=d2.1;have e3:=d3.1;have dX:=d4.1;have jA:=d5.1;rw[cc (by(try simp only[List.length_append,List.length_cons,List.length_nil]);omega),cc (by(try simp only[List.length_append,List.length_cons,List.length_nil]);omega),cc (by(try simp only[List.length_append,List.length_cons,List.length_nil]);omega),cc (by(try simp only[List.length_append,List.length_cons,List.length_nil]);omega),cc (by(try simp only[List.length_append,List.length_cons,List.length_nil]);omega),cc (by(try simp only[List.length_append,List.length_cons,List.length_nil]);omega),cc (by(try simp only[List.length_append,List.length_cons,List.length_nil]);omega),cc (by(try simp only[List.length_append,List.length_cons,List.length_nil]);omega),cc (by(try simp only[List.length_append,List.length_cons,List.length_nil]);omega),cH (by omega) (by omega)];rfl
theorem as7{l:List aJ.D}(h:hH l=true)(hl:l.length≤20)(a:Nat)(ha:a≤1000000):∀(r m i:Nat) (o:aP),a≤i→i+r=a+6→2*r<m→o.length+105*r≤1000→(qC m).bs l (a:Int) o (i:Int)=some (lE l a r i o,()):=by
 intro r
 induction r with
 |zero=>intro m i o TE hi hm ho;obtain⟨m,rfl,_⟩:=fuel (show 0<m by omega);rw[aex];unfold HO;rw[cH (a:=(a:Int)+6) (by omega) (by omega),decide_eq_false (show ¬(i:Int)<(a:Int)+6 by omega)];cases decide ((i:Int)<(l.length:Int))<;>rfl
 |succ r ih=>
  intro m i o TE hi hm ho;obtain⟨m,rfl,_⟩:=fuel (show 0<m by omega);obtain⟨m,rfl,_⟩:=fuel (show 0<m by omega);rw[aex];unfold HO;rw[cH (a:=(a:Int)+6) (by omega) (by omega),decide_eq_true (show(i:Int)<(a:Int)+6 by omega),lE];by_cases bm:i<l.length
  ·rw[bN bm,if_pos ⟨bm,by omega⟩];simp only[cond_true];by_cases bQ:a<i
   ·rw[decide_eq_true (show(i:Int) >(a:Int) by omega),if_pos bQ,cc (by simp only[List.length_cons,List.length_nil];omega)];simp only[cond_true];have av:=DA h bm (o++[32]);rw[List.length_append,List.length_cons,List.length_nil]at av;rw[aey h bm m _ _ (by rw[List.length_append,List.length_cons,List.length_nil];omega) (by omega)];exact ih m (i+1) _ (by omega) (by omega) (by omega) (by omega)
   ·rw[decide_eq_false (show ¬(i:Int) >(a:Int) by omega),if_neg bQ];simp only[cond_false];have av:=DA h bm o;rw[aey h bm m _ _ (by omega) (by omega)];exact ih m (i+1) _ (by omega) (by omega) (by omega) (by omega)
  ·rw[cl (Nat.not_lt.1 bm),if_neg (fun hh=>bm hh.1)];rfl
theorem aez(m:Nat)(a b d e):(oo (m+1)).bs a b d e=Gc (oo m) a b d e:=rfl
theorem aeA(m:Nat)(a b d e f g h):(oo (m+1)).dt a b d e f g h=Gd (oo m) a b d e f g h:=rfl
theorem DB{l:List aJ.D}(m:Nat)(a:Int)(i:Int)(xs:List Int)(j:Nat)(hj:j<xs.length)(hx:xs.length=5)(o:aP)(ho:o.length≤10000)(v:Int)(hv:I (ad.int .i64) xs j=v)(af : -1000000000000<v∧v<1000000000000):
  (oo (m+1)).dt l a o i (xs.length:Int) (j:Int) xs=(oo m).dt l a ((if 0<j then o++[46] else o)++gl v) i (xs.length:Int) ((j+1:Nat):Int) xs:=by
 have d:=fT v af;rw[aeA];unfold Gd;rw[bN hj,bf hj,cH (a:=(j:Int)+1) (by omega) (by omega)];simp only[cond_true,al,Nat.zero_add];rw[hv,d.2.2];simp only[al];have e:=d.1;by_cases h0:0<j
 ·rw[decide_eq_true (show(j:Int)>0 by omega),if_pos h0,cc (by simp only[List.length_cons,List.length_nil];omega),cc (by simp only[List.length_append,List.length_cons,List.length_nil];omega)];rfl
 ·rw[decide_eq_false (show ¬(j:Int)>0 by omega),if_neg h0];simp only[cond_false];rw[cc (by omega)];rfl
def aeB(n:aJ.D):List Int:=[nQ n,pY n,pZ n,p0 n,q_ n]
theorem aeC{l:List aJ.D}(h:hH l=true){i:Nat}(hi:i<l.length)(m:Nat)(a:Int)(o:aP)(ho:o.length≤1000)(hii:i<100):(oo (m+6)).dt l a o (i:Int) (5:Int) 0 (aeB (I aJ l i))=(oo m).bs l a (s5 l i o) ((i:Int)+1):=by have hr:=K5 h hi;have e1:=(fT (nQ (I aJ l i)) (by have:=hr.a;omega)).1;have e2:=(fT (pY (I aJ l i)) (by have:=hr.b;omega)).1;have e3:=(fT (pZ (I aJ l i)) (by have:=hr.c;omega)).1;have dX:=(fT (p0 (I aJ l i)) (by have:=hr.d;omega)).1;rw[show(5:Int)=((aeB (I aJ l i)).length:Int) from rfl,show(0:Int)=((0:Nat):Int) from rfl];rw[DB (m+5) a i _ 0 (by show 0<5;omega) rfl o (by omega) (nQ (I aJ l i)) rfl (by have:=hr.a;omega)];rw[if_neg (by omega)];rw[DB (m+4) a i _ 1 (by show 1<5;omega) rfl _ (by simp only[List.length_append];omega) (pY (I aJ l i)) rfl (by have:=hr.b;omega)];rw[if_pos (by omega)];rw[DB (m+3) a i _ 2 (by show 2<5;omega) rfl _ (by simp only[List.length_append,List.length_cons,List.length_nil];omega) (pZ (I aJ l i)) rfl (by have:=hr.c;omega)];rw[if_pos (by omega)];rw[DB (m+2) a i _ 3 (by show 3<5;omega) rfl _ (by simp only[List.length_append,List.length_cons,List.length_nil];omega) (p0 (I aJ l i)) rfl (by have:=hr.d;omega)];rw[if_pos (by omega)];rw[DB (m+1) a i _ 4 (by show 4<5;omega) rfl _ (by simp only[List.length_append,List.length_cons,List.length_nil];omega) (q_ (I aJ l i)) rfl (by have:=hr.e;omega)];rw[if_pos (by omega)];rw[aeA];unfold Gd;rw[cl (by show 5≤5;omega)];simp only[cond_false];rw[cH (by omega) (by omega)];rfl
theorem as8{l:List aJ.D}(h:hH l=true)(hl:l.length≤20)(a:Nat)(ha:a≤1000000):∀(r m i:Nat) (o:aP),a≤i→i+r=a+6→7*r<m→o.length+105*r≤1000→(oo m).bs l (a:Int) o (i:Int)=some (lE l a r i o,()):=by
 intro r
 induction r with
 |zero=>intro m i o TE hi hm ho;obtain⟨m,rfl,_⟩:=fuel (show 0<m by omega);rw[aez];unfold Gc;rw[cH (a:=(a:Int)+6) (by omega) (by omega),decide_eq_false (show ¬(i:Int)<(a:Int)+6 by omega)];cases decide ((i:Int)<(l.length:Int))<;>rfl
 |succ r ih=>
  intro m i o TE hi hm ho;obtain⟨m,rfl⟩:∃k,m=k+7:=⟨m-7,by omega⟩
  rw[aez];unfold Gc;rw[cH (a:=(a:Int)+6) (by omega) (by omega),decide_eq_true (show(i:Int)<(a:Int)+6 by omega),lE];by_cases bm:i<l.length
  ·rw[bN bm,if_pos ⟨bm,by omega⟩,bf bm];simp only[cond_true,al];by_cases bQ:a<i
   ·rw[decide_eq_true (show(i:Int) >(a:Int) by omega),if_pos bQ,cc (by simp only[List.length_cons,List.length_nil];omega)];simp only[cond_true];have av:=DA h bm (o++[32]);rw[List.length_append,List.length_cons,List.length_nil]at av;have:=aeC h bm m (a:Int) (o++[32]) (by rw[List.length_append,List.length_cons,List.length_nil];omega) (by omega);refine Eq.trans this ?_;exact ih m (i+1) _ (by omega) (by omega) (by omega) (by omega)
   ·rw[decide_eq_false (show ¬(i:Int) >(a:Int) by omega),if_neg bQ];simp only[cond_false];have av:=DA h bm o;refine Eq.trans (aeC h bm m (a:Int) o (by omega) (by omega)) ?_;exact ih m (i+1) _ (by omega) (by omega) (by omega) (by omega)
  ·rw[cl (Nat.not_lt.1 bm),if_neg (fun hh=>bm hh.1)];rfl
theorem DC{l:List aJ.D}(h:hH l=true):l.length≤20:=by unfold hH at h;rw[Bool.and_eq_true,decide_eq_true_eq]at h;omega
theorem as9{l:List aJ.D}(h:hH l=true)(a:Nat)(ha:a≤1000000):Pw (l,(a:Int),())=some (lE l a 6 a [],())∧Ob (l,(a:Int),())=some (lE l a 6 a [],()):=by
 have hl:=DC h;constructor
 ·show HN (qC aK) l (a:Int)=_;unfold HN;rw[asR,h,decide_eq_false (show ¬(a:Int)<0 by omega)];exact as7 h hl a ha 6 aK a [] (Nat.le_refl _) rfl (by rw[fA];omega) (by simp)
 ·show Gb (oo aK) l (a:Int)=_;unfold Gb;rw[asS _ (by omega),h,decide_eq_false (show ¬(a:Int)<0 by omega)];exact as8 h hl a ha 6 aK a [] (Nat.le_refl _) rfl (by rw[fA];omega) (by simp)
def u5(t:c8)(x:aL.D):c8:=(t.1,(l8 t.2.1 (aD x)).1,t.2.2.1,t.2.2.2.1,())
def u6(t:c8)(x:aL.D):Bool:=(l8 t.2.1 (aD x)).2
inductive jl (t:c8) (c:Int) (x:aL.D):c8→an.D→Prop
 |bad (h:fp x=false):jl t c x t (22,[],())
 |DD (h:fp x=true) (hs:u6 t x=false):jl t c x t (11,[],())
 |perm (h:fp x=true) (hs:u6 t x=true) (hk:aD x=21∨aD x=22) (hc:c≠1):jl t c x (u5 t x) (1,[],())
 |neg (h:fp x=true) (hs:u6 t x=true) (hk:aD x=21) (hc:c=1) (hn:bU x<0):jl t c x (u5 t x) (22,[],())
 |told (h:fp x=true) (hs:u6 t x=true) (hk:aD x=21) (hc:c=1) (n:Nat) (hn:bU x=n):jl t c x (u5 t x) (0,lE t.2.2.1 n 6 n [],())
 |DE (h:fp x=true) (hs:u6 t x=true) (hk:aD x=22) (hc:c=1):jl t c x (t.1,(l8 t.2.1 (aD x)).1,[],t.2.2.2.1,()) (0,[],())
 |full (h:fp x=true) (hs:u6 t x=true) (hk:aD x≤20) (ht:jW (aD x)=false) (hl:t.2.2.1.length=20):jl t c x (u5 t x) (28,[],())
 |DF (h:fp x=true) (hs:u6 t x=true) (hk:aD x≤20) (ht:jW (aD x)=true∨t.2.2.1.length<20) (w:ag.D) (k:Int) (s:aP) (hr:Ah t.1 (mP c) x w k s):jl t c x (w,(l8 t.2.1 (aD x)).1,t.2.2.1,t.2.2.2.1,()) (k,s,())
theorem as_(c:Int):d' (mP c)=true:=by
 unfold mP;split
 ·rfl
 split
 ·rfl
 split
 ·rfl
 ·rfl
theorem as'(c:Int):((mP c).1 != 0)=decide (c≠1):=by
 unfold mP;by_cases h:c=1
 ·rw[if_pos h,decide_eq_false (fun k=>k h)];rfl
 rw[if_neg h,decide_eq_true h];split
 ·rfl
 split
 ·rfl
 ·rfl
theorem nR{t:c8}(h:f' t=true):fz t.2.2.2.1.length (nP t.2.2.2.1)=true∧(0≤t.2.1∧t.2.1≤30)∧hH t.2.2.1=true∧lx t.1=true:=by unfold f' at h;simp only[Bool.and_eq_true]at h;exact⟨h.1,cR.1 h.2.1,h.2.2.1,h.2.2.2⟩
theorem ata(t:c8)(c:Int)(x:aL.D)(h:f' t=true):∃cQ r,IC (t,c,x,())=some (cQ,r,())∧Hf (t,c,x,())=some (r,cQ,())∧jl t c x cQ r:=by
 obtain⟨s6,lj,p1,hvo⟩:=nR h;have dN:=DC p1;obtain⟨q,hq,_⟩:=kZ 4;have S:IC (t,c,x,())=IB (qG aK) t c x:=rfl;have DG:Hf (t,c,x,())=He (mE aK) t c x:=rfl;rw[S,DG];unfold IB He;rw[asU,asT,zT,CG,as3 _ _ lj.2,as4 _ _ lj.2,hq];simp only[al]
 cases hcall:fp x with
 |false=>exact⟨_,_,rfl,rfl,.bad hcall⟩
 |true=>
 simp only[Bool.not_true,cond_false];have hx:=uQ.1 hcall
 cases hs:u6 t x with
 |false=>rw[show(l8 t.2.1 x.1).2=false from hs];exact⟨_,_,rfl,rfl,.DD hcall hs⟩
 |true=>
 rw[show(l8 t.2.1 x.1).2=true from hs,as'];simp only[Bool.not_true,cond_false];have hk:=hx.dn;have hn:=hx.n;by_cases p2:(aD x)=21
 ·rw[cL (show x.1=21 from p2)];simp only[cond_true];by_cases h1:c=1
  case neg=>rw[decide_eq_true h1];exact⟨_,_,rfl,rfl,.perm hcall hs (.inl p2) h1⟩
  rw[decide_eq_false (fun k=>k h1)];simp only[cond_false];have A:∀a b d e,(qG (q+4)).dd a b d e=zw (qG (q+3)) a b d e:=fun _ _ _ _=>rfl
  have B:∀a b d e,(mE (q+4)).dd a b d e=zl (mE (q+3)) a b d e:=fun _ _ _ _=>rfl
  have kN:∀a b d e,(mE (q+3)).eL a b d e=zm (mE (q+2)) a b d e:=fun _ _ _ _=>rfl
  rw[A,B];unfold zw zl;rw[cL (show x.1=21 from p2)];simp only[cond_true];by_cases tB:bU x<0
  ·rw[decide_eq_true (show x.2.2.2.1<0 from tB)];exact⟨_,_,rfl,rfl,.neg hcall hs p2 h1 tB⟩
  ·rw[decide_eq_false (show ¬x.2.2.2.1<0 from tB)];simp only[cond_false];rw[kN];unfold zm;rw[cL (show x.1=21 from p2)];simp only[cond_true];obtain⟨m,hm⟩:∃m:Nat,bU x=(m:Int):=⟨(bU x).toNat,by omega⟩
   have hb:=as9 p1 m (by omega);rw[show x.2.2.2.1=(m:Int) from hm,hb.1,hb.2];exact⟨_,_,rfl,rfl,.told hcall hs p2 h1 m hm⟩
 rw[bY (show x.1≠21 from p2)];simp only[cond_false];have A:∀a b d e f,(qG (q+4)).dd a b d e f=zw (qG (q+3)) a b d e f:=fun _ _ _ _ _=>rfl
 have n2:∀a b d e f,(qG (q+3)).kS a b d e f=PZ (qG (q+2)) a b d e f:=fun _ _ _ _ _=>rfl
 have B:∀a b d e,(mE (q+4)).dd a b d e=zl (mE (q+3)) a b d e:=fun _ _ _ _=>rfl
 have kN:∀a b d e,(mE (q+3)).eL a b d e=zm (mE (q+2)) a b d e:=fun _ _ _ _=>rfl
 have atb:∀a b d e,(mE (q+2)).kS a b d e=O_ (mE (q+1)) a b d e:=fun _ _ _ _=>rfl
 by_cases u7:(aD x)=22
 ·rw[cL (show x.1=22 from u7)];simp only[cond_true];by_cases h1:c=1
  case neg=>rw[decide_eq_true h1];exact⟨_,_,rfl,rfl,.perm hcall hs (.inr u7) h1⟩
  rw[decide_eq_false (fun k=>k h1)];simp only[cond_false];rw[A,B];unfold zw zl;rw[bY (show x.1≠21 from p2),cL (show x.1=22 from u7)];simp only[cond_false,cond_true];rw[kN];unfold zm;rw[bY (show x.1≠21 from p2),cL (show x.1=22 from u7)];exact⟨_,_,rfl,rfl,.DE hcall hs u7 h1⟩
 rw[bY (show x.1≠22 from u7)];simp only[cond_false];rw[A,B];unfold zw zl;rw[bY (show x.1≠21 from p2),bY (show x.1≠22 from u7)];simp only[cond_false];rw[kN];unfold zm;rw[bY (show x.1≠21 from p2),bY (show x.1≠22 from u7)];simp only[cond_false];rw[K4,TB];simp only[al];have kf:aD x≤20:=by omega
 have hrun:jW (aD x)=true∨t.2.2.1.length<20→∃cQ r,(qG (q+3)).kS (u5 t x) x ((0,([]:List J.D),()),0,([]:List aJ.D),([]:List aZ.D),()) (0,([]:aj),()) (mP c)=some (cQ,r,()) ∧
   (mE (q+2)).kS (u5 t x) x (0,([]:aj),()) (mP c)=some (r,cQ,())∧jl t c x cQ r:=by
  intro ht;obtain⟨w,k,s,e1,e2,hr⟩:=aqk t.1 (mP c) x hvo (as_ c);refine⟨_,_,?_,?_,.DF hcall hs kf ht w k s hr⟩
  ·rw[n2];unfold PZ;rw[show xh ((u5 t x).1,mP c,x,())=_ from e1];rfl
  ·rw[atb];unfold O_;rw[show BR ((u5 t x).1,mP c,x,())=_ from e2];simp only[al,px,Bs];rfl
 cases m8:jW (aD x)with
 |true=>rw[show jW x.1=true from m8];simp only[Bool.not_true,cond_false];exact hrun (.inl m8)
 |false=>
  rw[show jW x.1=false from m8];simp only[Bool.not_false,cond_true];by_cases hl:t.2.2.1.length=20
  ·rw[show decide ((t.2.2.1.length:Int)≥20)=true from decide_eq_true (by omega),show((t.2.2.1.length:Int)==20)=true from cL (by omega)];exact⟨_,_,rfl,rfl,.full hcall hs kf m8 hl⟩
  ·rw[show decide ((t.2.2.1.length:Int)≥20)=false from decide_eq_false (by omega),show((t.2.2.1.length:Int)==20)=false from bY (by omega)];exact hrun (.inr (by omega))
def l9(l:List aZ.D)(c:Int)(s:aZ.D):List aZ.D:=cond (iA l c) (l.set (eG l c) s) (l.take (eG l c)++[s]++l.drop (eG l c))
def notes(t:c8)(x:aL.D)(r:an.D):Bool:=decide (t.2.2.1.length<20)&&(fp x&&((!jW (aD x)||(r.1 != 0)) && !((aD x==22)&&(r.1==0))))
def iQ(t:c8)(c bJ index:Int)(x:aL.D)(r:an.D):c8:=cond (notes t x r) (t.1,t.2.1,t.2.2.1++[(index,c,bJ,aD x,r.1,())],t.2.2.2.1,()) t
def oR(t:c8)(c bJ index:Int)(r:an.D):c8:=(t.1,t.2.1,t.2.2.1,l9 t.2.2.2.1 c (c,bJ,index,r,()),())
theorem aeD(m:Nat)(c bJ index:Int)(t:c8)(u9:c8)(z2 r:an.D)(hl:t.2.2.2.1.length≤3):(sd (m+1)).eL c bJ index t u9 z2 r=some (oR t c bJ index r,r,true,()):=by
 show P2 (sd m) c bJ index t u9 z2 r=_;unfold P2;rw[aeq t c (by omega)];simp only[al];unfold oR l9;have hle:=As t.2.2.2.1 c
 cases h:iA t.2.2.2.1 c with
 |true=>rw[bf (At h)];simp only[cond_true,al,Nat.zero_add];rfl
 |false=>simp only[cond_false];rw[show(0:Int)=((0:Nat):Int) from rfl,jn (Nat.zero_le _) hle];simp only[al,Nat.sub_zero,Nat.zero_add,List.nil_append,pS];rw[cc (by simp only[List.length_nil,List.length_take];omega)];simp only[cond_true];unfold Yy;rw[jn hle (Nat.le_refl _),cc (by simp only[List.length_cons,List.length_nil,List.length_take];omega)];simp only[al,cond_true,Nat.zero_add,uN];rw[cc (by simp only[List.length_append,List.length_cons,List.length_nil,List.length_take,List.length_drop];omega)];rfl
theorem aeE(m:Nat)(c bJ index:Int)(t:c8)(z2 r:an.D)(hl:t.2.2.2.1.length≤3):(r4 (m+1)).eL c bJ index t z2 r=some (r,true,oR t c bJ index r,()):=by
 show Pc (r4 m) c bJ index t z2 r=_;unfold Pc;rw[aer t c (by omega)];simp only[al];unfold oR l9;have hle:=As t.2.2.2.1 c
 cases h:iA t.2.2.2.1 c with
 |true=>rw[bf (At h)];simp only[cond_true,al,Nat.zero_add];rfl
 |false=>simp only[cond_false,decide_true,cond_true];rw[show dj t.2.2.2.1.length 0 (eG t.2.2.2.1 c:Int)=_ from jn (Nat.zero_le _) hle,jn hle (Nat.le_refl _)];simp only[al,Nat.sub_zero,Nat.zero_add,pS,uN];rw[cc (by simp only[List.length_cons,List.length_nil,List.length_drop];omega)];simp only[cond_true];unfold X7;simp only[Nat.sub_zero,Nat.zero_add,pS];rw[cc (by simp only[List.length_append,List.length_cons,List.length_nil,List.length_take,List.length_drop];omega)];simp only[cond_true];rw[←List.append_assoc];rfl
theorem atc(m:Nat)(c bJ index:Int)(x:aL.D)(t:c8)(u9:c8)(z2 r:an.D)(hl:t.2.2.2.1.length≤3):(sd (m+3)).dd c bJ index ((aD x==22)&&(r.1==0)) t x u9 z2 r=some (oR (iQ t c bJ index x r) c bJ index r,r,true,()):=by
 have rG:decide (t.2.2.1.length<20)=true→(sd (m+2)).dt c bJ index t x u9 z2 r=some (oR (t.1,t.2.1,t.2.2.1++[(index,c,bJ,aD x,r.1,())],t.2.2.2.1,()) c bJ index r,r,true,()):=by intro h;rw[decide_eq_true_eq]at h;show P1 (sd (m+1)) c bJ index t x u9 z2 r=_;unfold P1;rw[cc (by simp only[List.length_cons,List.length_nil];omega)];exact aeD m c bJ index _ _ _ _ hl
 have ko:=aeD (m+1) c bJ index t u9 z2 r hl;show P0 (sd (m+2)) c bJ index ((aD x==22)&&(r.1==0)) t x u9 z2 r=_;unfold P0;rw[zT,K4,ko,show decide ((t.2.2.1.length:Int)<20)=decide (t.2.2.1.length<20) from by simp only[decide_eq_decide];omega];unfold iQ notes;simp only[al]
 cases h1:decide (t.2.2.1.length<20)with
 |false=>rfl
 |true=>
 rw[rG h1]
 cases fp x with
 |false=>rfl
 |true=>
 show cond (!(jW (aD x))) _ _=_;cases jW (aD x)<;>cases (r.1 != 0)<;>cases ((aD x==22)&&(r.1==0))<;>rfl
theorem atd(m:Nat)(c bJ index:Int)(x:aL.D)(t:c8)(z2 r:an.D)(hl:t.2.2.2.1.length≤3):(r4 (m+3)).dd c bJ index ((aD x==22)&&(r.1==0)) t x z2 r=some (r,true,oR (iQ t c bJ index x r) c bJ index r,()):=by
 have rG:decide (t.2.2.1.length<20)=true→(r4 (m+2)).dt c bJ index t x z2 r=some (r,true,oR (t.1,t.2.1,t.2.2.1++[(index,c,bJ,aD x,r.1,())],t.2.2.2.1,()) c bJ index r,()):=by intro h;rw[decide_eq_true_eq]at h;show Pb (r4 (m+1)) c bJ index t x z2 r=_;unfold Pb;rw[cc (by simp only[List.length_cons,List.length_nil];omega)];exact aeE m c bJ index _ _ _ hl
 have ko:=aeE (m+1) c bJ index t z2 r hl;show O' (r4 (m+2)) c bJ index ((aD x==22)&&(r.1==0)) t x z2 r=_;unfold O';rw[CG,TB,ko,show decide ((t.2.2.1.length:Int)<20)=decide (t.2.2.1.length<20) from by simp only[decide_eq_decide];omega];unfold iQ notes;simp only[al]
 cases h1:decide (t.2.2.1.length<20)with
 |false=>rfl
 |true=>
 rw[rG h1]
 cases fp x with
 |false=>rfl
 |true=>
 show cond (!(jW (aD x))) _ _=_;cases jW (aD x)<;>cases (r.1 != 0)<;>cases ((aD x==22)&&(r.1==0))<;>rfl
def oS(t:c8)(c bJ index:Int):Bool:=cA c 1 3&&(cA bJ 1 1000000&&(cA index 1 100000 && !decide (index<oQ t)))
def oT(t:c8)(c:Int):Int:=(pX t.2.2.2.1 c).2.1
inductive q' (t:c8) (c bJ:Int) (x:aL.D) (index:Int):c8→an.D→Bool→Prop
 |off (h:oS t c bJ index=false):q' t c bJ x index t (0,[],()) false
 |again (h:oS t c bJ index=true) (hs:bJ=oT t c):q' t c bJ x index t (pX t.2.2.2.1 c).2.2.2.1 false
 |late (h:oS t c bJ index=true) (hs:bJ≠oT t c) (h1:bJ≠oT t c+1):q' t c bJ x index t (0,[],()) false
 |TF (h:oS t c bJ index=true) (h1:bJ=oT t c+1) (t1:c8) (r:an.D) (hr:jl t c x t1 r):q' t c bJ x index (oR (iQ t1 c bJ index x r) c bJ index r) r true
theorem jl.TG{t t1:c8}{c:Int}{x:aL.D}{r:an.D}(h:jl t c x t1 r):t1.2.2.2.1=t.2.2.2.1:=by cases h<;>rfl
theorem ate{t:c8}(h:f' t=true)(c:Int):0≤oT t c∧oT t c≤1000000:=by
 unfold oT pX
 cases hs:iA t.2.2.2.1 c with
 |false=>exact⟨Int.le_refl 0,by show(0:Int)≤1000000;omega⟩
 |true=>have h1:=hC.1 (nR h).1 _ (At hs);unfold nP at h1;simp only[Bool.and_eq_true,cR]at h1;have h2:=h1.1.1.2;show 0≤(I aZ t.2.2.2.1 (eG t.2.2.2.1 c)).2.1∧(I aZ t.2.2.2.1 (eG t.2.2.2.1 c)).2.1≤1000000;exact⟨Int.le_trans (by decide) h2.1,h2.2⟩
theorem atf(t:c8)(c bJ:Int)(x:aL.D)(index:Int)(h:f' t=true):∃cQ r b,se (t,c,bJ,x,index,())=some (cQ,r,b,())∧zn (t,c,bJ,x,index,())=some (r,b,cQ,())∧q' t c bJ x index cQ r b:=by
 obtain⟨s6,lj,p1,hvo⟩:=nR h;have dN:=DC p1;have oA:=Ty s6;obtain⟨q,hq,_⟩:=kZ 3;have S:se (t,c,bJ,x,index,())=ID (sd aK) t c bJ x index:=rfl;have DG:zn (t,c,bJ,x,index,())=Hg (r4 aK) t c bJ x index:=rfl;rw[S,DG];unfold ID Hg;simp only[j_,jL,al]
 cases h1:cA c 1 3 with
 |false=>exact⟨_,_,_,rfl,rfl,.off (by unfold oS;rw[h1];rfl)⟩
 |true=>
 cases h2:cA bJ 1 1000000 with
 |false=>exact⟨_,_,_,rfl,rfl,.off (by unfold oS;rw[h1,h2];rfl)⟩
 |true=>
 cases h3:cA index 1 100000 with
 |false=>exact⟨_,_,_,rfl,rfl,.off (by unfold oS;rw[h1,h2,h3];rfl)⟩
 |true=>
 simp only[Bool.not_true,cond_false];have fI:=cR.1 h3;rw[asY t (by omega) (by omega),asZ t index (by omega) (by omega) (by omega)];simp only[al]
 cases h4:decide (index<oQ t)with
 |true=>exact⟨_,_,_,rfl,rfl,.off (by unfold oS;rw[h1,h2,h3,h4];rfl)⟩
 |false=>
 simp only[cond_false];have hn:oS t c bJ index=true:=by unfold oS;rw[h1,h2,h3,h4];rfl
 rw[asW t c (by omega),asV t c (by omega)];simp only[al];have aeF:=ate h c;by_cases hs:bJ=oT t c
 ·rw[cL (show bJ=(pX t.2.2.2.1 c).2.1 from hs)];exact⟨_,_,_,rfl,rfl,.again hn hs⟩
 rw[bY (show bJ≠(pX t.2.2.2.1 c).2.1 from hs)];simp only[cond_false];rw[show aw ((pX t.2.2.2.1 c).2.1+1)=oT t c+1 from cH (by have:=aeF.1;unfold oT at this;exact Int.le_trans (by decide) (Int.add_le_add_right this 1)) (by have:=aeF.2;unfold oT at this;exact Int.le_trans (Int.add_le_add_right this 1) (by decide))];by_cases hs1:bJ=oT t c+1
 case neg=>rw[dv hs1];exact⟨_,_,_,rfl,rfl,.late hn hs hs1⟩
 rw[eA hs1];simp only[cond_false];obtain⟨t1,r,e1,e2,hr⟩:=ata t c x h;rw[e1,e2,hq];simp only[al];have h3:t1.2.2.2.1.length≤3:=by rw[hr.TG];omega
 have k1:=atc q c bJ index x t1 ((0,([]:List J.D),()),0,([]:List aJ.D),([]:List aZ.D),()) (0,([]:aj),()) r h3;have k2:=atd q c bJ index x t1 (0,([]:aj),()) r h3;refine⟨_,_,_,?_,?_,.TF hn hs1 t1 r hr⟩
 ·refine Eq.trans ?_ k1;show cond (aD x==22) _ _=_;cases aD x==22<;>rfl
 ·refine Eq.trans ?_ k2;show cond (aD x==22) _ _=_;cases aD x==22<;>rfl
theorem atg{l:List aJ.D}(h:hH l=true)(a:Nat):∀(r i:Nat) (o:aP),(lE l a r i o).length≤o.length+105*r:=by
 intro r
 induction r with
 |zero=>intro i o;rw[lE];omega
 |succ r ih=>
  intro i o;rw[lE];by_cases hi:i<l.length∧i<a+6
  ·rw[if_pos hi];have h1:=ih (i+1) (s5 l i (if a<i then o++[32] else o));have h2:=DA h hi.1 (if a<i then o++[32] else o);have h3:(if a<i then o++[32] else o).length≤o.length+1:=by split<;>simp
   omega
  ·rw[if_neg hi];omega
def fs(r:an.D):aP:=r.2.1
theorem jl.len{t t1:c8}{c:Int}{x:aL.D}{r:an.D}(ht:f' t=true)(h:jl t c x t1 r):(fs r).length≤1000:=by
 cases h with
 |bad=>simp[fs]
 |DD=>simp[fs]
 |perm=>simp[fs]
 |neg=>simp[fs]
 |told _ _ _ _ n=>have:=atg (nR ht).2.2.1 n 6 n [];show(lE t.2.2.1 n 6 n []).length≤1000;simp only[List.length_nil]at this;omega
 |DE=>simp[fs]
 |full=>simp[fs]
 |DF _ _ _ _ w k s hr=>exact Nat.le_trans hr.len (by decide)
theorem ath(s:aZ.D):ad.cost aZ s=(fs s.2.2.2.1).length:=by simp only[jP,jQ,jR,jS,k4,Nat.zero_add,Nat.add_zero];rfl
theorem TH(l:List aJ.D):ad.cost (.sl aJ) l=l.length:=ar1 (fun y=>by simp only[jP,jQ,jR,jS,Nat.add_zero]) l
theorem ati(r:an.D):ad.cost an r=(fs r).length:=by simp only[jP,jQ,jR,jS,k4,Nat.zero_add,Nat.add_zero];rfl
theorem aeG{l:List aZ.D}{c:Int}{s x:aZ.D}(h:x∈l9 l c s):x∈l∨x=s:=by
 unfold l9 at h
 cases hs:iA l c with
 |true=>
  rw[hs]at h;rcases List.mem_or_eq_of_mem_set h with h|h
  ·exact .inl h
  ·exact .inr h
 |false=>
  rw[hs]at h;simp only[cond_false,List.mem_append,List.mem_singleton]at h;rcases h with(h|h)|h
  ·exact .inl (List.mem_of_mem_take h)
  ·exact .inr h
  ·exact .inl (List.mem_of_mem_drop h)
theorem atj(l:List aZ.D)(c:Int)(s:aZ.D):(l9 l c s).length≤l.length+1:=by
 unfold l9
 cases iA l c with
 |true=>simp only[cond_true,List.length_set];omega
 |false=>simp only[cond_false,List.length_append,List.length_take,List.length_drop,List.length_singleton];have:=As l c;omega
theorem aeH(l:List aZ.D)(h:∀s,s∈l→(fs s.2.2.2.1).length≤1000):ad.cost (.sl aZ) l≤l.length*1001:=by
 rw[qW];have:=De (fun y=>ad.cost aZ y) 1000 l fun s hs=>by rw[ath];exact h s hs
 omega
theorem TI{t:c8}(h:f' t=true){s:aZ.D}(hs:s∈t.2.2.2.1):u3 s.2.2.2.1=true:=by obtain⟨i,hi,rfl⟩:=fJ hs;have h1:=hC.1 (nR h).1 i hi;unfold nP at h1;rw[Bool.and_eq_true]at h1;exact h1.2
theorem TJ{r:an.D}(h:u3 r=true):(fs r).length≤400:=by unfold u3 at h;rw[Bool.and_eq_true,decide_eq_true_eq]at h;have:=h.2;unfold fs;omega
theorem jl.small{t t1:c8}{c:Int}{x:aL.D}{r:an.D}(h:jl t c x t1 r)(hc:ad.cost ag t.1≤1048576):ad.cost ag t1.1≤1048576∧t1.2.2.1.length≤t.2.2.1.length:=by
 cases h with
 |bad=>exact⟨hc,Nat.le_refl _⟩
 |DD=>exact⟨hc,Nat.le_refl _⟩
 |perm=>exact⟨hc,Nat.le_refl _⟩
 |neg=>exact⟨hc,Nat.le_refl _⟩
 |told=>exact⟨hc,Nat.le_refl _⟩
 |DE=>exact⟨hc,Nat.zero_le _⟩
 |full=>exact⟨hc,Nat.le_refl _⟩
 |DF _ _ _ _ w k s hr=>exact⟨hr.cost hc,Nat.le_refl _⟩
theorem aeI(t:c8)(c bJ index:Int)(x:aL.D)(r:an.D):(iQ t c bJ index x r).1=t.1∧(iQ t c bJ index x r).2.1=t.2.1∧(iQ t c bJ index x r).2.2.2.1=t.2.2.2.1∧((iQ t c bJ index x r).2.2.1=t.2.2.1∨(iQ t c bJ index x r).2.2.1=t.2.2.1++[(index,c,bJ,aD x,r.1,())]∧t.2.2.1.length<20∧notes t x r=true):=by
 unfold iQ
 cases h:notes t x r with
 |false=>exact⟨rfl,rfl,rfl,.inl rfl⟩
 |true=>refine⟨rfl,rfl,rfl,.inr ⟨rfl,?_,rfl⟩⟩;unfold notes at h;rw[Bool.and_eq_true,decide_eq_true_eq]at h;exact h.1
theorem q'.cost{t cQ:c8}{c bJ index:Int}{x:aL.D}{r:an.D}{b:Bool}(ht:f' t=true)(h:q' t c bJ x index cQ r b)(hc:ad.cost aS t≤1048576):ad.cost aS cQ≤1100000∧(fs r).length≤1000:=by
 obtain⟨s6,lj,p1,hvo⟩:=nR ht;have oA:=Ty s6;have dN:=DC p1
 cases h with
 |off=>exact⟨by omega,by simp[fs]⟩
 |again=>
  refine⟨by omega,?_⟩;unfold pX
  cases hs:iA t.2.2.2.1 c with
  |false=>simp[fs]
  |true=>have:=TJ (TI ht (de (At hs)));simp only[cond_true];omega
 |late=>exact⟨by omega,by simp[fs]⟩
 |TF hn h1 t1 r hr=>
  have hl:=hr.len ht;refine⟨?_,hl⟩;rw[Tz]at hc⊢;obtain⟨fw,kH,K6,TK⟩:=aeI t1 c bJ index x r;have l4:=hr.small (by omega);have hv:ad.cost ag (oR (iQ t1 c bJ index x r) c bJ index r).1≤1048576:=by show ad.cost ag (iQ t1 c bJ index x r).1≤_;rw[fw];exact l4.1
  have ha:ad.cost (.sl aJ) (oR (iQ t1 c bJ index x r) c bJ index r).2.2.1≤21:=by
   rw[TH];show(iQ t1 c bJ index x r).2.2.1.length≤_;rcases TK with e|⟨e,gX,_⟩
   ·rw[e];have:=l4.2;omega
   ·rw[e,List.length_append,List.length_singleton];omega
  have hs:ad.cost (.sl aZ) (oR (iQ t1 c bJ index x r) c bJ index r).2.2.2.1≤4*1001:=by
   show ad.cost (.sl aZ) (l9 (iQ t1 c bJ index x r).2.2.2.1 c (c,bJ,index,r,()))≤_;rw[K6,hr.TG]
   have h2:=aeH (l9 t.2.2.2.1 c (c,bJ,index,r,())) fun s hs=>by
    rcases aeG hs with hs|rfl
    ·have:=TJ (TI ht hs);omega
    ·exact hl
   have h3:=atj t.2.2.2.1 c (c,bJ,index,r,());have h4:(l9 t.2.2.2.1 c (c,bJ,index,r,())).length*1001≤4*1001:=Nat.mul_le_mul_right _ (by omega);exact Nat.le_trans h2 h4
  exact Nat.le_trans (Nat.add_le_add hv (Nat.add_le_add ha hs)) (by decide)
theorem DH(k:Nat)(hk:1≤k∧k≤12)(x:Int)(h0:0≤x)(h:x<(10^k:Nat)):(gl x).length≤k:=by
 have hb:(10^k:Nat)≤10^12:=Nat.pow_le_pow_right (by decide) hk.2;have hc:((10^k:Nat):Int)≤1000000000000:=Int.ofNat_le.2 (Nat.le_trans hb (by decide));have af:=fT x (by omega);by_cases hz:x=0
 ·subst hz;have:gl 0=[48]:=aX (congrArg (Option.map Prod.fst) (af.2.1.symm.trans (rfl:ff (0,())=some ([48],()))));rw[this];simp;omega
 ·have hc':((10^k:Nat):Int)=(10^k:Int):=by simp
  obtain⟨t,ht,hs,_⟩:=adN k x (by omega) hz (by rw[←hc'];omega) (by rw[←hc'];omega);have e:ff (x,())=some (t,()):=by show HM (pC aK) x=_;unfold HM;rw[bY hz];simp only[cond_false];rw[hs aK [] (decide (x<0)) (by rw[fA];omega) (by simp;omega),decide_eq_false (by omega),List.append_nil];rfl
  have:gl x=t:=aX (congrArg (Option.map Prod.fst) (af.2.1.symm.trans e));rw[this];exact ht
theorem atk{l:List aJ.D}(h:hH l=true){i:Nat}(hi:i<l.length)(o:aP):(s5 l i o).length≤o.length+23:=by have hr:=K5 h hi;have d1:=DH 6 (by omega) (nQ (I aJ l i)) (by have:=hr.a;omega) (by have:=hr.a;omega);have d2:=DH 1 (by omega) (pY (I aJ l i)) (by have:=hr.b;omega) (by have:=hr.b;omega);have d3:=DH 7 (by omega) (pZ (I aJ l i)) (by have:=hr.c;omega) (by have:=hr.c;omega);have d4:=DH 2 (by omega) (p0 (I aJ l i)) (by have:=hr.d;omega) (by have:=hr.d;omega);have d5:=DH 3 (by omega) (q_ (I aJ l i)) (by have:=hr.e;omega) (by have:=hr.e;omega);unfold s5;simp only[List.length_append,List.length_cons,List.length_nil];omega
theorem atl{l:List aJ.D}(h:hH l=true)(a:Nat):∀(r i:Nat) (o:aP),(lE l a r i o).length≤o.length+24*r:=by
 intro r
 induction r with
 |zero=>intro i o;rw[lE];omega
 |succ r ih=>
  intro i o;rw[lE];by_cases hi:i<l.length∧i<a+6
  ·rw[if_pos hi];have h1:=ih (i+1) (s5 l i (if a<i then o++[32] else o));have h2:=atk h hi.1 (if a<i then o++[32] else o);have h3:(if a<i then o++[32] else o).length≤o.length+1:=by split<;>simp
   omega
  ·rw[if_neg hi];omega
def TL(r:an.D):Int:=r.1
theorem aeJ{r:an.D}:u3 r=true↔(0≤TL r∧TL r≤200)∧(fs r).length≤400:=by
 unfold u3;rw[Bool.and_eq_true,cR,decide_eq_true_eq];constructor
 ·rintro⟨h1,h2⟩;exact⟨h1,by unfold fs;omega⟩
 ·rintro⟨h1,h2⟩;exact⟨h1,by unfold fs at h2;omega⟩
theorem jl.res{t t1:c8}{c:Int}{x:aL.D}{r:an.D}(ht:f' t=true)(h:jl t c x t1 r):u3 r=true:=by
 rw[aeJ]
 cases h with
 |bad=>exact⟨by decide,by simp[fs]⟩
 |DD=>exact⟨by decide,by simp[fs]⟩
 |perm=>exact⟨by decide,by simp[fs]⟩
 |neg=>exact⟨by decide,by simp[fs]⟩
 |told _ _ _ _ n=>have:=atl (nR ht).2.2.1 n 6 n [];refine⟨⟨Int.le_refl 0,by show(0:Int)≤200;decide⟩,?_⟩;show(lE t.2.2.1 n 6 n []).length≤400;simp only[List.length_nil]at this;omega
 |DE=>exact⟨by decide,by simp[fs]⟩
 |full=>exact⟨by decide,by simp[fs]⟩
 |DF _ _ _ _ w k s hr=>exact⟨hr.rg,hr.len⟩
theorem atm(n k:Int)(h:0≤n):0≤(l8 n k).1∧(l8 n k).1≤n:=by
 unfold l8;have:=TC k;split
 ·exact⟨h,Int.le_refl _⟩
 ·exact⟨by simp only;omega,by simp only;omega⟩
theorem jl.kept{t t1:c8}{c:Int}{x:aL.D}{r:an.D}(ht:f' t=true)(h:jl t c x t1 r):
  lx t1.1=true∧(0≤t1.2.1∧t1.2.1≤t.2.1)∧(t1.2.2.1=t.2.2.1∨t1.2.2.1=[]∧aD x=22∧TL r=0):=by
 obtain⟨s6,lj,p1,hvo⟩:=nR ht;have hs:=atm t.2.1 (aD x) lj.1
 cases h with
 |bad=>exact⟨hvo,⟨lj.1,Int.le_refl _⟩,.inl rfl⟩
 |DD=>exact⟨hvo,⟨lj.1,Int.le_refl _⟩,.inl rfl⟩
 |perm=>exact⟨hvo,hs,.inl rfl⟩
 |neg=>exact⟨hvo,hs,.inl rfl⟩
 |told=>exact⟨hvo,hs,.inl rfl⟩
 |DE _ _ hk=>exact⟨hvo,hs,.inr ⟨rfl,hk,rfl⟩⟩
 |full=>exact⟨hvo,hs,.inl rfl⟩
 |DF _ _ _ _ w k s hr=>exact⟨hr.ok hvo,hs,.inl rfl⟩
theorem TM(f:Nat→Int)(a:Int):∀n,a≤h_ f a n∧∀i,i<n→f i≤h_ f a n
 |0=>⟨Int.le_refl _,fun i hi=>by omega⟩
 |n+1=>by
  obtain⟨h1,h2⟩:=TM f a n;have:h_ f a n≤h_ f a (n+1)∧f n≤h_ f a (n+1):=by rw[h_];unfold fQ;split<;>omega
  refine⟨by omega,fun i hi=>?_⟩;by_cases e:i=n
  ·subst e;exact this.2
  ·have:=h2 i (by omega);omega
theorem atn(t:c8){i:Nat}(hi:i<t.2.2.1.length):lD t.2.2.1 i≤oQ t:=by unfold oQ;have h1:=(TM (lD t.2.2.1) 0 t.2.2.1.length).2 i hi;have h2:=(TM (mQ t.2.2.2.1) (h_ (lD t.2.2.1) 0 t.2.2.1.length) t.2.2.2.1.length).1;omega
theorem ato{t:c8}{c bJ index:Int}:oS t c bJ index=true↔(1≤c∧c≤3)∧(1≤bJ∧bJ≤1000000)∧(1≤index∧index≤100000)∧oQ t≤index:=by
 unfold oS;simp only[Bool.and_eq_true,cR,Bool.not_eq_true',decide_eq_false_iff_not];constructor
 ·rintro⟨h1,h2,h3,h4⟩;exact⟨h1,h2,h3,by omega⟩
 ·rintro⟨h1,h2,h3,h4⟩;exact⟨h1,h2,h3,by omega⟩
theorem TN{t:ad}{l:List t.D}{x:t.D}{i:Nat}(h:i<l.length):I t (l++[x]) i=I t l i:=by rw[c3 (by rw[List.length_append];omega),c3 h,List.getElem_append_left h]
theorem atp{t:ad}{l:List t.D}{x:t.D}:I t (l++[x]) l.length=x:=by rw[c3 (by rw[List.length_append,List.length_singleton];omega),List.getElem_append_right (Nat.le_refl _)];simp
theorem atq{l:List aJ.D}(h:hH l=true)(hl:l.length<20){n:aJ.D}(hn:aew n)(hi:∀i,i<l.length→nQ (I aJ l i)≤nQ n):hH (l++[n])=true:=by
 unfold hH at h⊢;rw[Bool.and_eq_true]at h⊢;refine⟨hC.2 fun i gF=>?_,decide_eq_true (by rw[List.length_append,List.length_singleton];omega)⟩;rw[List.length_append,List.length_singleton]at gF;by_cases e:i<l.length
 ·have:=hC.1 h.1 i e;unfold u4 at this⊢;rw[TN e,TN (by omega)];exact this
 ·have e:i=l.length:=by omega
  subst e;unfold u4;rw[atp];simp only[Bool.and_eq_true,cR,Bool.not_eq_true',Bool.and_eq_false_iff,decide_eq_false_iff_not];refine⟨⟨⟨⟨⟨hn.a,?_⟩,hn.b⟩,hn.c⟩,hn.d⟩,hn.e⟩;by_cases h0:0<l.length
  ·refine .inr ?_;rw[TN (by omega)];exact Int.not_lt.2 (hi (l.length-1) (by omega))
  ·exact .inl h0
def gW(s:aZ.D):Int:=s.1
def aeK(s:aZ.D):Int:=s.2.1
def aeL(s:aZ.D):Int:=s.2.2.1
def TO(s:aZ.D):Prop:=(1≤gW s∧gW s≤3)∧(1≤aeK s∧aeK s≤1000000)∧(1≤aeL s∧aeL s≤100000)∧u3 s.2.2.2.1=true
theorem aeM{l:List aZ.D}:fz l.length (nP l)=true↔(∀s,s∈l→TO s)∧(∀i,i+1<l.length→gW (I aZ l i)<gW (I aZ l (i+1))):=by
 rw[hC];unfold nP;simp only[Bool.and_eq_true,cR,Bool.not_eq_true',Bool.and_eq_false_iff,decide_eq_false_iff_not];constructor
 ·intro h;refine⟨fun s hs=>?_,fun i hi=>?_⟩
  ·obtain⟨i,hi,rfl⟩:=fJ hs;have:=h i hi;exact⟨this.1.1.1.1,this.1.1.2,this.1.2,this.2⟩
  ·rcases (h (i+1) hi).1.1.1.2 with h1|h1
   ·omega
   ·rw[Nat.add_sub_cancel]at h1;exact Int.not_le.1 h1
 ·rintro⟨h1,h2⟩ i hi
  have:=h1 _ (de hi);refine⟨⟨⟨⟨this.1,?_⟩,this.2.1⟩,this.2.2.1⟩,this.2.2.2⟩
  cases i with
  |zero=>exact .inl (by omega)
  |succ i=>rw[Nat.add_sub_cancel];exact .inr (Int.not_le.2 (h2 i hi))
theorem TP:∀(l:List aZ.D),(∀i,i+1<l.length→gW (I aZ l i)<gW (I aZ l (i+1)))↔(l.map gW).Pairwise (· < ·)
 | []=>⟨fun _=>List.Pairwise.nil,fun _ i hi=>by simp at hi⟩
 | [x]=>⟨fun _=>by simp,fun _ i hi=>by simp at hi⟩
 |x::y::l=>by
  have ih:=TP (y::l);constructor
  ·intro h;have h1:gW x<gW y:=h 0 (by simp);have h2:((y::l).map gW).Pairwise (· < ·):=ih.1 fun i hi=>h (i+1) (by simpa using hi)
   rw[List.map_cons,List.pairwise_cons];refine⟨fun z hz=>?_,h2⟩;rw[List.map_cons]at h2 hz;rcases List.mem_cons.1 hz with rfl|hz
   ·exact h1
   ·have:=(List.pairwise_cons.1 h2).1 z hz;omega
  ·intro h i hi;rw[List.map_cons,List.pairwise_cons]at h
   cases i with
   |zero=>exact h.1 (gW y) List.mem_cons_self
   |succ i=>exact ih.2 h.2 i (by simpa using hi)
theorem atr(l:List aZ.D)(c:Int):∀s,s∈l.take (eG l c)→gW s<c:=by
 intro s hs;unfold eG at hs;have:l.take (l.takeWhile fun s=>decide (s.1<c)).length=l.takeWhile fun s=>decide (s.1<c):=Kv _ _
 rw[this]at hs;exact of_decide_eq_true (Su (p:=fun s:aZ.D=>decide (s.1<c)) hs)
theorem att{l:List aZ.D}(h:(l.map gW).Pairwise (· < ·))(c:Int):∀s,s∈l.drop (eG l c)→c≤gW s:=by
 intro s hs;have hle:=As l c;by_cases bQ:eG l c<l.length
 ·have hst:=(K3 (fun s:aZ.D=>decide (s.1<c)) l (eG l c) bQ (Nat.le_refl _)).1
  have h0:c≤gW l[eG l c]:=by
   refine Int.not_lt.1 fun hh=>?_
   have:=hst (decide_eq_true hh);have:eG l c+1≤eG l c:=this;omega
  rw[List.drop_eq_getElem_cons bQ]at hs;have av:((l.drop (eG l c)).map gW).Pairwise (· < ·):=by rw[List.map_drop];exact h.drop
  rw[List.drop_eq_getElem_cons bQ,List.map_cons,List.pairwise_cons]at av;rcases List.mem_cons.1 hs with rfl|hs
  ·exact h0
  ·have:=av.1 (gW s) (List.mem_map_of_mem hs);omega
 ·rw[List.drop_of_length_le (by omega)]at hs;simp at hs
theorem aeN{l:List aZ.D}{c:Int}:iA l c=true↔eG l c<l.length∧gW (I aZ l (eG l c))=c:=by unfold iA;rw[Bool.and_eq_true,decide_eq_true_eq,beq_iff_eq];rfl
theorem atu{l:List aZ.D}(h:fz l.length (nP l)=true){c:Int}{s:aZ.D}(hs:TO s)(hc:gW s=c):fz (l9 l c s).length (nP (l9 l c s))=true:=by
 obtain⟨h1,h2⟩:=aeM.1 h;have av:=(TP l).1 h2;refine aeM.2 ⟨fun x hx=>?_,?_⟩
 ·rcases aeG hx with hx|rfl
  ·exact h1 x hx
  ·exact hs
 ·refine(TP _).2 ?_;unfold l9
  cases hb:iA l c with
  |true=>
   obtain⟨g1,g2⟩:=aeN.1 hb;simp only[cond_true]
   have:(l.set (eG l c) s).map gW=l.map gW:=by
    rw[List.map_set];refine List.ext_getElem (by simp) fun i hi hj=>?_
    rw[List.getElem_set];split
    ·rename_i e;rw[List.getElem_map];have e2:l[i]'(by simpa using hj)=I aZ l (eG l c):=by rw[c3 g1];simp only[e]
     rw[e2,g2,hc]
    ·rfl
   rw[this];exact av
  |false=>
   simp only[cond_false];have bQ:=atr l c;have yE:=att av c
   have oM:∀x,x∈l.drop (eG l c)→c<gW x:=by
    intro x hx;have:=yE x hx;by_cases e:gW x=c
    ·exfalso
     have DI:eG l c<l.length:=by
      rcases Nat.lt_or_ge (eG l c) l.length with h|h
      ·exact h
      ·rw[List.drop_of_length_le h]at hx;simp at hx
     have hne:gW (I aZ l (eG l c))≠c:=fun e=>by have:=aeN.2 ⟨DI,e⟩;rw[hb]at this;cases this
     rw[List.drop_eq_getElem_cons DI]at hx;rcases List.mem_cons.1 hx with rfl|lO
     ·rw[c3 DI]at hne;exact hne e
     ·have nm:((l.drop (eG l c)).map gW).Pairwise (· < ·):=by
       rw[List.map_drop];exact av.drop
      rw[List.drop_eq_getElem_cons DI,List.map_cons,List.pairwise_cons]at nm;have h3:=nm.1 (gW x) (List.mem_map_of_mem lO);have h4:=yE l[eG l c] (by rw[List.drop_eq_getElem_cons DI];exact List.mem_cons_self);omega
    ·omega
   rw[List.map_append,List.map_append,List.pairwise_append,List.pairwise_append];refine⟨⟨by rw[List.map_take];exact av.take,by simp,?_⟩,by rw[List.map_drop];exact av.drop,?_⟩
   ·intro a ha b hb;obtain⟨y,aR,rfl⟩:=List.mem_map.1 ha;simp only[List.map_cons,List.map_nil,List.mem_singleton]at hb;subst hb;rw[hc];exact bQ y aR
   ·intro a ha b hb;obtain⟨z,hz,rfl⟩:=List.mem_map.1 hb;have hz2:=oM z hz;rcases List.mem_append.1 ha with ha|ha
    ·obtain⟨y,aR,rfl⟩:=List.mem_map.1 ha;have:=bQ y aR;omega
    ·simp only[List.map_cons,List.map_nil,List.mem_singleton]at ha;subst ha;omega
theorem q'.ok{t cQ:c8}{c bJ index:Int}{x:aL.D}{r:an.D}{b:Bool}(ht:f' t=true)(h:q' t c bJ x index cQ r b):f' cQ=true:=by
 cases h with
 |off=>exact ht
 |again=>exact ht
 |late=>exact ht
 |TF hn h1 t1 r hr=>
  obtain⟨fw,kH,K6,TK⟩:=ato.1 hn;obtain⟨s6,lj,p1,hvo⟩:=nR ht;obtain⟨k1,k2,k3⟩:=hr.kept ht;have uT:=hr.res ht;obtain⟨eD,fb,gD,gb⟩:=aeI t1 c bJ index x r
  have aeO:hH t1.2.2.1=true:=by
   rcases k3 with e|⟨e,_⟩
   ·rw[e];exact p1
   ·rw[e];rfl
  have atv:hH (iQ t1 c bJ index x r).2.2.1=true:=by
   rcases gb with e|⟨e,hl,bT⟩
   ·rw[e];exact aeO
   ·rw[e];refine atq aeO hl ⟨K6,fw,kH,?_,(aeJ.1 uT).1⟩ fun i hi=>?_
    ·unfold notes at bT;simp only[Bool.and_eq_true]at bT;exact(uQ.1 bT.2.1).dn
    ·rcases k3 with e|⟨e,_⟩
     ·rw[e]at hi⊢;exact Int.le_trans (atn t hi) TK
     ·rw[e]at hi;simp at hi
  have hs:TO ((c,bJ,index,r,()):aZ.D):=⟨fw,kH,K6,uT⟩;have atw:=atu s6 hs rfl;unfold f';simp only[Bool.and_eq_true];refine⟨?_,?_,atv,?_⟩
  ·show fz (l9 (iQ t1 c bJ index x r).2.2.2.1 c (c,bJ,index,r,())).length (nP (l9 (iQ t1 c bJ index x r).2.2.2.1 c (c,bJ,index,r,())))=true;rw[gD,hr.TG];exact atw
  ·show cA (iQ t1 c bJ index x r).2.1 0 30=true;rw[fb];exact cR.2 ⟨k2.1,Int.le_trans k2.2 lj.2⟩
  ·show lx (iQ t1 c bJ index x r).1=true;rw[eD];exact k1
def u_(n:Int):Int:=if n>26 then 30 else n+4
theorem atx{n:Int}(h:0≤n∧n≤30):0≤u_ n∧u_ n≤30:=by unfold u_;split<;>omega
theorem aty{n:Int}(h:0≤n∧n≤30):Q6 (n,())=some (u_ n,()):=by
 show Q5 n=_;unfold Q5 u_;rw[decide_eq_false (by omega)];by_cases h1:n>26
 ·rw[decide_eq_true h1,if_pos h1];rfl
 ·rw[decide_eq_false h1,if_neg h1,cH (by omega) (by omega)];rfl
theorem atz{n:Int}(h:0≤n∧n≤30):Qx (n,())=some (u_ n,()):=by
 show Qw n=_;unfold Qw u_;rw[decide_eq_false (by omega)];by_cases h1:n>26
 ·rw[decide_eq_true (by omega),if_pos h1];rfl
 ·rw[if_neg h1];by_cases h2:n≥26
  ·rw[decide_eq_true h2,show n=26 by omega];rfl
  ·rw[decide_eq_false h2,cH (by omega) (by omega)];rfl
def tick(t:c8):c8:=(t.1,u_ t.2.1,t.2.2.1,t.2.2.2.1,())
theorem TQ{t:c8}(h:f' t=true):f' (tick t)=true:=by obtain⟨h1,h2,h3,h4⟩:=nR h;unfold f';simp only[Bool.and_eq_true];exact⟨h1,cR.2 (atx h2),h3,h4⟩
def DJ:c8:=((2,[(1,2,1023,0,0,[],[],0,0,())],()),30,[],[],())
theorem atA:f' DJ=true:=by decide +kernel
theorem atB:QW ()=some (DJ,()):=rfl
theorem atC:Qv ()=some (DJ,()):=rfl
def enc(n:Nat):aj:=if h:n<128 then [UInt8.ofNat n] else UInt8.ofNat (128+n%128)::enc (n / 128)
termination_by n
decreasing_by omega
theorem Au{n:Nat}(h:n<128):enc n=[UInt8.ofNat n]:=by rw[enc,dif_pos h]
theorem DK{n:Nat}(h:128≤n):enc n=UInt8.ofNat (128+n%128)::enc (n / 128):=by rw[enc,dif_neg (by omega)]
abbrev aeP:Int:=562949953421311
def fC(n:Int):aj:=if cA n 0 aeP then enc n.toNat else []
theorem aeQ(a b:List Int):eZ (a++b)=eZ a++eZ b:=by simp[eZ]
theorem wrap_u8{n:Nat}(h:n<256):IntKind.wrap .u8 (n:Int)=n:=by simp[IntKind.wrap,IntKind.bits,IntKind.signed];omega
theorem atD{n:Nat}(h:n<256):eZ [IntKind.wrap .u8 (n:Int)]=[UInt8.ofNat n]:=by rw[wrap_u8 h];simp[eZ]
theorem atE{x:Nat}(h:x<9223372036854775808):cZ .and .i64 (x:Int) 127=((x%128:Nat):Int):=by have:=bits_nat .and x 127;simp only at this;rw[show((127:Nat):Int)=127 from rfl]at this;rw[this,BitVec.toNat_and,BitVec.toNat_ofNat,BitVec.toNat_ofNat];rw[show(127%2^64)=2^7-1 from rfl,Nat.and_two_pow_sub_one_eq_mod,Nat.mod_eq_of_lt (show x<2^64 by omega)];exact cH (by omega) (by omega)
theorem aeR(n:Nat):Int.tmod (n:Int) 128=((n%128:Nat):Int):=by rw[show(128:Int)=((128:Nat):Int) from rfl,←Int.ofNat_tmod]
theorem atF(n:Nat):Int.tdiv (n:Int) 128=((n / 128:Nat):Int):=by rw[show(128:Int)=((128:Nat):Int) from rfl,←Int.ofNat_tdiv]
theorem atG(L:Nat→Int→List Int→Option (aj×Unit))(v':∀m (n:Nat) out,n<1000000000000000→out.length≤100→L (m+1) (n:Int) out=if n<128 then some (eZ out++[UInt8.ofNat n],()) else L m ((n / 128:Nat):Int) (out++[((128+n%128:Nat):Int)])):
  ∀(k n:Nat) (out:List Int) (m:Nat),n<128^(k+1)→n<1000000000000000→out.length+k≤100→k<m→L m (n:Int) out=some (eZ out++enc n,()):=by
 intro k
 induction k with
 |zero=>
  intro n out m h h2 h3 hm;obtain⟨m,rfl⟩:∃q,m=q+1:=⟨m-1,by omega⟩
  rw[v' m n out h2 (by omega),if_pos (by omega),Au (by omega)]
 |succ k ih=>
  intro n out m h h2 h3 hm;obtain⟨m,rfl⟩:∃q,m=q+1:=⟨m-1,by omega⟩
  rw[v' m n out h2 (by omega)];by_cases hn:n<128
  ·rw[if_pos hn,Au hn]
  ·rw[if_neg hn,ih _ _ m (by rw[Nat.pow_succ]at h;omega) (by omega) (by simp;omega) (by omega),DK (n:=n) (by omega),aeQ,List.append_assoc];rfl
theorem atH{n:Nat}(h:n<256):IntKind.wrap .u8 (n:Int)=n:=wrap_u8 h
theorem atI:(128:Nat)^(9+1)=1180591620717411303424:=by decide
theorem u'(n:Int):qK (n,())=some (fC n,()):=by
 show Jm (zy aK) n=_;unfold Jm fC;simp only[j_,al];cases hr:cA n 0 aeP
 ·rfl
 obtain⟨h1,h2⟩:=cR.1 hr;have h2:n≤562949953421311:=h2;simp only[Bool.not_true,cond_false,if_true];obtain⟨k,rfl⟩:∃k:Nat,n=k:=⟨n.toNat,by omega⟩
 rw[Int.toNat_natCast]
 have:=atG zy (fun m n out hn ho=>by
  simp only[zy,QH];by_cases h:n<128
  ·rw[decide_eq_false (by omega),if_pos h,cond_false,cc (by simp;omega),aeQ,atD (by omega)];rfl
  ·rw[decide_eq_true (by omega),if_neg h,cond_true,cc (by simp;omega)];simp only[cond_true,YX];rw[aeR,atF,cH (a:=128 +((n%128:Nat):Int)) (by omega) (by omega),cH (by omega) (by omega)]
   rw[show(128 +((n%128:Nat):Int))=((128+n%128:Nat):Int) by omega,atH (by omega)]) 9 k [] aK (by rw[atI];omega) (by omega) (by simp) (jc (by omega))
 simpa[eZ]using this
def ga:Nat→Bool→aj→Option (Nat×Nat)
 |0,_,_=>none
 |_+1,_,[]=>none
 |k+1,f,b::s=>
  if b.toNat>127 then(ga k false s).map fun r=>(r.1*128+b.toNat%128,r.2+1)
  else if b.toNat=0∧f=false then none else some (b.toNat,1)
theorem TS(b:UInt8):b.toNat<256:=b.toNat_lt
theorem s7:∀(k:Nat) (f:Bool) (s:aj) (n c:Nat),ga k f s=some (n,c)→1≤c∧c≤k∧c≤s.length∧s.take c=enc n∧n<128^k∧(f=false→1≤n)
 |0,_,_,_,_,h=>by simp[ga]at h
 |_+1,_,[],_,_,h=>by simp[ga]at h
 |k+1,f,b::s,n,c,h=>by
  rw[ga]at h;have hb:=TS b;have av:0<128^k:=Nat.pow_pos (by omega);split at h
  ·rename_i aB
   cases hr:ga k false s with
   |none=>rw[hr]at h;simp at h
   |some r=>
    obtain⟨du,c'⟩:=r;rw[hr]at h;simp only[Option.map_some,Option.some.injEq,Prod.mk.injEq]at h;obtain⟨rfl,rfl⟩:=h;obtain⟨h1,h2,h3,h4,a6,bj⟩:=s7 k false s du c' hr;have bj:=bj rfl;refine⟨by omega,by omega,by simp;omega,?_,?_,fun _=>by omega⟩
    ·rw[List.take_succ_cons,h4,DK (n:=du*128+b.toNat%128) (by omega)];congr 1
     ·rw[show(du*128+b.toNat%128)%128=b.toNat%128 by omega,show 128+b.toNat%128=b.toNat by omega];simp
     ·rw[show(du*128+b.toNat%128) / 128=du by omega]
    ·rw[Nat.pow_succ];have:du*128+128≤128^k*128:=by have:=Nat.mul_le_mul_right 128 (show du+1≤128^k by omega);omega
     omega
  ·rename_i aB;split at h
   ·simp at h
   ·rename_i hz;simp only[Option.some.injEq,Prod.mk.injEq]at h;obtain⟨rfl,rfl⟩:=h;refine⟨by omega,by omega,by simp,?_,?_,fun hf=>?_⟩
    ·rw[Au (by omega)];simp
    ·rw[Nat.pow_succ];omega
    ·rcases Nat.eq_zero_or_pos b.toNat with h0|h0
     ·exact absurd ⟨h0,hf⟩ hz
     ·exact h0
theorem atJ(n:Nat):1≤(enc n).length:=by rw[enc];split<;>simp
theorem atK:∀(k:Nat) (f:Bool) (n:Nat) (t:aj),(enc n).length≤k→(f=false→1≤n)→ga k f (enc n++t)=some (n,(enc n).length):=by
 intro k
 induction k with
 |zero=>intro f n t h;have:=atJ n;omega
 |succ k ih=>
  intro f n t h hf;by_cases hn:n<128
  ·rw[Au hn];have hb:(UInt8.ofNat n).toNat=n:=by simp;omega
   simp only[List.singleton_append,ga,hb];rw[if_neg (by omega),if_neg (fun h=>by have:=hf h.2;omega)];rfl
  ·rw[DK (by omega)]at h⊢;have hb:(UInt8.ofNat (128+n%128)).toNat=128+n%128:=by simp;omega
   simp only[List.cons_append,ga,hb];rw[if_pos (by omega),ih false (n / 128) t (by simp at h;omega) (fun _=>by omega)];simp only[Option.map_some,List.length_cons,Option.some.injEq,Prod.mk.injEq,and_true];omega
theorem atL{a r i:Nat}(ha:a<128^i)(hr:r<128)(hi:i≤6):cZ .or .i64 (a:Int) (((r*2^(7*i):Nat)):Int)=((a+r*128^i:Nat):Int):=by
 have:=bits_nat .or a (r*2^(7*i));simp only at this;have av:(128:Nat)^i=2^(7*i):=by rw[Nat.pow_mul]
 have hle:(2:Nat)^(7*i)≤2^42:=Nat.pow_le_pow_right (by omega) (by omega);have hc:(2:Nat)^42=4398046511104:=by decide
 have hm:r*2^(7*i)≤127*2^(7*i):=Nat.mul_le_mul_right _ (by omega);rw[this,BitVec.toNat_or,BitVec.toNat_ofNat,BitVec.toNat_ofNat,Nat.mod_eq_of_lt (show a<2^64 by omega),Nat.mod_eq_of_lt (show r*2^(7*i)<2^64 by omega),←Nat.shiftLeft_eq,Nat.or_comm,←Nat.shiftLeft_add_eq_or_of_lt (by omega),Nat.shiftLeft_eq,av];rw[show r*2^(7*i)+a=a+r*2^(7*i) by omega];exact cH (by omega) (by omega)
def oU:Option (Nat×Nat)→Int×Int×Unit
 |none=>(0,0,())
 |some r=>((r.1:Int),(r.2:Int),())
def Av(i a:Nat)(o:Option (Nat×Nat)):Option (Nat×Nat):=o.map fun r=>(a+128^i*r.1,i+r.2)
theorem atM(s:aj):∀(d i a m:Nat),i+d=7→a<128^i→d<m→xy m s (a:Int) (i:Int)=some (oU (Av i a (ga d (i==0) (s.drop i)))):=by
 intro d
 induction d with
 |zero=>
  intro i a m hi ha hm;obtain⟨m,rfl⟩:∃q,m=q+1:=⟨m-1,by omega⟩
  simp only[xy,JB];rw[show decide ((i:Int)<7)=false from decide_eq_false (by omega)];cases decide ((i:Int)<(s.length:Int))<;>rfl
 |succ d ih=>
  intro i a m hi ha hm;obtain⟨m,rfl⟩:∃q,m=q+1:=⟨m-1,by omega⟩
  simp only[xy,JB];by_cases hl:i<s.length
  case neg=>rw[cl (by omega),List.drop_of_length_le (by omega)];rfl
  rw[bN hl,decide_eq_true (show(i:Int)<7 by omega),bf hl];simp only[cond_true,al];have Du:s.drop i=s.getD i 0::s.drop (i+1):=by rw[List.getD_eq_getElem?_getD,List.getElem?_eq_getElem hl];exact List.drop_eq_getElem_cons hl
  generalize s.getD i 0=b at *;have hb:=TS b;rw[Du];rw[cH (a:=7*(i:Int)) (by omega) (by omega),decide_eq_true (show(0:Int)≤7*(i:Int) by omega),cH (a:=(b.toNat:Int)) (by omega) (by omega)];simp only[cond_true];rw[atE (by omega),show(7*(i:Int)).toNat=7*i by omega,show min (7*i) 64=7*i by omega];have avo:(2:Nat)^(7*i)≤2^42:=Nat.pow_le_pow_right (by omega) (by omega);have hc:(2:Nat)^42=4398046511104:=by decide
  have tw:(b.toNat%128)*2^(7*i)≤127*2^(7*i):=Nat.mul_le_mul_right _ (by omega);rw[show(((b.toNat%128:Nat):Int)*2^(7*i))=(((b.toNat%128)*2^(7*i):Nat):Int) by rw[Int.natCast_mul,Int.natCast_pow];rfl];rw[show IntKind.wrap .i64 (((b.toNat%128)*2^(7*i):Nat):Int)=(((b.toNat%128)*2^(7*i):Nat):Int) from cH (by omega) (by omega)];rw[atL ha (by omega) (by omega),dH i (by omega)];simp only[ga];by_cases aB:b.toNat>127
  ·rw[decide_eq_true (show(b.toNat:Int)>127 by omega),if_pos aB];simp only[cond_true]
   rw[ih (i+1) (a+b.toNat%128*128^i) m (by omega) (by
    rw[Nat.pow_succ];have:b.toNat%128*128^i≤127*128^i:=Nat.mul_le_mul_right _ (by omega)
    omega) (by omega)]
   rw[show(i+1==0)=false from rfl]
   cases ga d false (s.drop (i+1))with
   |none=>rfl
   |some r=>simp only[Av,Option.map_some,oU,Option.some.injEq,Prod.mk.injEq,and_true];refine⟨?_,by omega⟩;rw[Nat.pow_succ,Nat.mul_add,show 128^i*(r.1*128)=128^i*128*r.1 by rw[Nat.mul_comm r.1 128,Nat.mul_assoc],Nat.mul_comm (b.toNat%128)];generalize 128^i*128*r.1=X;generalize 128^i*(b.toNat%128)=Y;omega
  ·rw[decide_eq_false (show ¬(b.toNat:Int)>127 by omega),if_neg aB];simp only[cond_false];by_cases hz:b.toNat=0
   ·rw[show((b.toNat:Int)==0)=true by simp[hz]];by_cases h0:i=0
    ·subst h0;rw[if_neg (by simp),hz];simp[oU,Av]
    ·rw[if_pos ⟨hz,by simpa using h0⟩,decide_eq_true (show(i:Int)>0 by omega)];rfl
   ·rw[show((b.toNat:Int)==0)=false by simp;omega,if_neg (fun h=>hz h.1)];simp only[cond_false,Av,Option.map_some,oU,Option.some.injEq,Prod.mk.injEq,and_true];rw[Nat.mod_eq_of_lt (by omega),Nat.mul_comm]
theorem TT(s:aj):QX (s,())=some (oU (ga 7 true s)):=by
 show JA (xy aK) s=_;unfold JA;have:=atM s 7 0 0 aK (by omega) (by simp) (jc (by omega));rw[show(((0:Nat):Int))=0 from rfl]at this;rw[this]
 cases h:ga 7 true s with
 |none=>simp[h,Av,oU]
 |some r=>simp[h,Av,oU]
def ia:aj→Nat
 | []=>0
 |b::t=>ia t*128+b.toNat%128
theorem aeS:∀l:aj,ia l<128^l.length
 | []=>by simp[ia]
 |b::t=>by have:=aeS t;simp only[ia,List.length_cons,Nat.pow_succ];have h:=Nat.mul_le_mul_right 128 (show ia t+1≤128^t.length by omega);omega
theorem atN(n:Nat):ia (enc n)=n:=by
 induction n using Nat.strongRecOn with
 |_ n ih=>
  by_cases h:n<128
  ·rw[Au h];have hb:(UInt8.ofNat n).toNat=n:=by simp;omega
   simp only[ia,hb];omega
  ·rw[DK (by omega)];have hb:(UInt8.ofNat (128+n%128)).toNat=128+n%128:=by simp;omega
   simp only[ia,hb];rw[ih (n / 128) (by omega)];omega
theorem K7:(128:Nat)^7=562949953421312:=by decide
theorem aeT{n:Nat}(h:n<128^7):fC (n:Int)=enc n:=by unfold fC;rw[K7]at h;rw[if_pos (cR.2 ⟨by omega,by show(n:Int)≤562949953421311;omega⟩),Int.toNat_natCast]
def ge(k:Nat)(o:Option (Nat×Nat)):Option (Nat×Nat):=o.bind fun r=>if k≤r.2 then some r else none
theorem aeU(s:aj)(k:Nat)(hk:1≤k)(bL:k≤7)(hl:k≤s.length):bx (fC (ia (s.take k):Int)) (s.take k)=true↔ga 7 true s=some (ia (s.take k),k):=by
 have hlen:(s.take k).length=k:=by simp;omega
 rw[x3,decide_eq_true_eq];constructor
 ·intro h
  have hv:fC (ia (s.take k):Int)=enc (ia (s.take k)):=by
   unfold fC at h⊢;split
   ·rw[Int.toNat_natCast]
   ·rename_i hn;rw[if_neg hn]at h;rw[←h]at hlen;simp at hlen;omega
  rw[hv]at h;have h2:=atK 7 true (ia (s.take k)) (s.drop k) (by rw[h,hlen];exact bL) (by simp);rw[h,List.take_append_drop]at h2;rw[h2,hlen]
 ·intro h;obtain⟨h1,h2,h3,h4,a6,bj⟩:=s7 7 true s _ _ h;rw[aeT a6,←h4]
theorem atO(s:aj)(hs:s.length≤1048576):∀(d k:Nat),k+d=8→1≤k→b6 (fun m=>(mH m).k2 s (k:Int)) (1+d*10) (some (oU (ge k (ga 7 true s)))):=by
 have aeV:∀k,(7<k∨s.length<k)→ge k (ga 7 true s)=none:=by
  intro k hk
  cases h:ga 7 true s with
  |none=>rfl
  |some r=>obtain⟨h1,h2,h3,_⟩:=s7 7 true s r.1 r.2 h;unfold ge;simp only[al];rw[if_neg (by omega)]
 intro d
 induction d with
 |zero=>intro k hk h1;rw[aeV k (by omega)];refine(b6.done fun m=>?_).mono (by omega);show xv (mH m) _ _=_;unfold xv;rw[decide_eq_false (by omega)];rfl
 |succ d ih=>
  intro k hk h1;by_cases hl:k≤s.length
  case neg=>rw[aeV k (by omega)];refine(b6.done fun m=>?_).mono (by omega);show xv (mH m) _ _=_;unfold xv;rw[decide_eq_true (show(k:Int)≤7 by omega),decide_eq_false (by omega)];rfl
  have ih:=ih (k+1) (by omega) (by omega);have hv:∀j,ia ((s.take k).drop j)<562949953421312:=by intro j;have h2:=aeS ((s.take k).drop j);have h3:(128:Nat)^((s.take k).drop j).length≤128^7:=Nat.pow_le_pow_right (by omega) (by simp;omega);rw[K7]at h3;omega
  have hin:∀j,j≤k→b6 (fun m=>(mH m).dh s (k:Int) (ia ((s.take k).drop j):Int) ((j:Int)-1)) (1+d*10+1+j) (some (oU (ge k (ga 7 true s)))):=by
   intro j
   induction j with
   |zero=>
    intro _;have hz:=hv 0;rw[List.drop_zero]at hz
    have hb:∀m,(mH (m+1)).dh s (k:Int) (ia ((s.take k).drop 0):Int) (((0:Nat):Int)-1)=cond (bx (fC (ia (s.take k):Int)) (s.take k)) (some ((ia (s.take k):Int),(k:Int),())) ((mH m).k2 s ((k+1:Nat):Int)):=by
     intro m;have atP:∀a b c d,(mH (m+1)).dh a b c d=Cj (mH m) a b c d:=fun _ _ _ _=>rfl
     rw[atP];unfold Cj;rw[List.drop_zero,decide_eq_false (by omega)];simp only[cond_false];unfold dj;rw[if_pos ⟨by omega,by omega,by omega⟩];simp only[al];rw[u',dH k (by omega)];simp only[al,Int.toNat_natCast];rw[show part s (Int.toNat 0) (k-Int.toNat 0)=s.take k from pS s k]
    cases hc:bx (fC (ia (s.take k):Int)) (s.take k)
    ·have aB:ge k (ga 7 true s)=ge (k+1) (ga 7 true s):=by
      cases h:ga 7 true s with
      |none=>rfl
      |some r=>
       unfold ge;simp only[al];by_cases aeW:k=r.2
       ·obtain⟨g1,g2,g3,g4,g5,g6⟩:=s7 7 true s r.1 r.2 h;rw[←aeW]at g4;have:ia (s.take k)=r.1:=by rw[g4,atN]
        have h2:=(aeU s k h1 (by omega) hl).2 (by rw[h,this,aeW]);rw[hc]at h2;cases h2
       ·by_cases hle:k≤r.2
        ·rw[if_pos hle,if_pos (by omega)]
        ·rw[if_neg hle,if_neg (by omega)]
     rw[aB];exact ih.step fun m=>by rw[hb,hc];rfl
    ·have hr:=(aeU s k h1 (by omega) hl).1 hc;rw[hr];refine(b6.done fun m=>?_).mono (by omega);rw[hb,hc];unfold ge;simp only[al,cond_true];rw[if_pos (Nat.le_refl _)];rfl
   |succ j atQ=>
    intro hj;have hx:=atQ (by omega);have hjl:j<s.length:=by omega
    have af:(s.take k).drop j=s.getD j 0 ::(s.take k).drop (j+1):=by
     have atS:j<(s.take k).length:=by simp;omega
     rw[List.drop_eq_getElem_cons atS];congr 1;rw[List.getElem_take,List.getD_eq_getElem?_getD,List.getElem?_eq_getElem hjl];rfl
    rw[af]at hx;refine hx.step fun m=>?_
    show Cj (mH m) _ _ _ _=_;unfold Cj;rw[show((j+1:Nat):Int)-1=(j:Int) by omega,decide_eq_true (show(j:Int)≥0 by omega),bf hjl];simp only[cond_true,al,ia];have avp:=hv (j+1);have AU:=TS (s.getD j 0);rw[cH (a:=((s.getD j 0).toNat:Int)) (by omega) (by omega),aeR,cH (a:=(ia ((s.take k).drop (j+1)):Int)*128) (by omega) (by omega),cH (by omega) (by omega),cH (a:=(j:Int)-1) (by omega) (by omega)];rw[show((ia ((s.take k).drop (j+1)):Int)*128 +(((s.getD j 0).toNat%128:Nat):Int))=((ia ((s.take k).drop (j+1))*128 +(s.getD j 0).toNat%128:Nat):Int) by omega]
  have h3:=hin k (Nat.le_refl _);rw[List.drop_of_length_le (by simp;omega)]at h3;refine(h3.step (f:=fun m=>(mH m).k2 s (k:Int)) fun m=>?_).mono (by omega);show xv (mH m) _ _=_;unfold xv;rw[decide_eq_true (show(k:Int)≤7 by omega),decide_eq_true (show(k:Int)≤(s.length:Int) by omega),cH (by omega) (by omega)];rfl
theorem atT(s:aj)(hs:s.length≤1048576):QO (s,())=some (oU (ga 7 true s)):=by
 show Jp (mH aK) s=_;unfold Jp;have:=l0 (atO s hs 7 1 (by omega) (by omega)) (by omega);rw[show(((1:Nat):Int))=1 from rfl]at this;rw[this];congr 2
 cases h:ga 7 true s with
 |none=>rfl
 |some r=>obtain⟨h1,_⟩:=s7 7 true s r.1 r.2 h;unfold ge;simp only[al];rw[if_pos h1]
abbrev cY:Type:=List UInt8
abbrev la(α:Type):Type:=cY→Option (α×cY)
def cP:la Int:=fun s=>(ga 7 true s).map fun r=>((r.1:Int),s.drop r.2)
def fj:la cY:=fun s=>(cP s).bind fun r=>if r.1≤(r.2.length:Int) then some (r.2.take r.1.toNat,r.2.drop r.1.toNat) else none
def iR{α:Type}(p:la α):Nat→la (List α)
 |0,s=>some ([],s)
 |k+1,s=>(p s).bind fun a=>(iR p k a.2).map fun b=>(a.1::b.1,b.2)
def kC{α:Type}(o:Option (α×cY)):Option cY:=o.map (·.2)
theorem ra{s r:cY}{n:Int}(h:cP s=some (n,r)):0≤n∧n≤562949953421311∧s=fC n++r∧r.length<s.length:=by
 unfold cP at h
 cases hr:ga 7 true s with
 |none=>rw[hr]at h;simp at h
 |some q=>rw[hr]at h;simp only[Option.map_some,Option.some.injEq,Prod.mk.injEq]at h;obtain⟨rfl,rfl⟩:=h;obtain⟨h1,h2,h3,h4,a6,_⟩:=s7 7 true s q.1 q.2 hr;refine⟨by omega,by rw[K7]at a6;omega,?_,by simp;omega⟩;rw[aeT a6,←h4,List.take_append_drop]
theorem K8{s p r:cY}(h:fj s=some (p,r)):(p.length:Int)≤562949953421311∧s=fC (p.length:Int)++p++r∧r.length≤s.length∧p.length≤s.length:=by
 unfold fj at h
 cases hr:cP s with
 |none=>rw[hr]at h;simp at h
 |some q=>
  obtain⟨n,t⟩:=q;rw[hr]at h;simp only[al]at h;obtain⟨h1,h2,h3,h4⟩:=ra hr;split at h
  ·rename_i hle;simp only[Option.some.injEq,Prod.mk.injEq]at h;obtain⟨rfl,rfl⟩:=h;have hl:((t.take n.toNat).length:Int)=n:=by simp;omega
   refine⟨by omega,?_,by simp;omega,by simp;omega⟩;rw[hl,List.append_assoc,List.take_append_drop];exact h3
  ·simp at h
abbrev Aw:Type:=kt.D
def DL(o:Option cY)(rd:Aw):Prop:=
 match o with
 |some r=>rd=(r,false,())∧r.length≤1048576
 |none=>∃s:cY,rd=(s,true,())∧s.length≤1048576
def s8{α:Type}(o:Option (α×cY))(x:α)(rd:Aw):Prop:=DL (kC o) rd∧∀a,o=some a→x=a.1
theorem TU{n c:Nat}(h:c≤n):dj n (c:Int) (n:Int)=some (c,n):=by unfold dj;rw[if_pos ⟨by omega,by omega,Int.le_refl _⟩];simp
theorem x5{o:Option cY}{rd:Aw}(h:DL o rd):∃n x6,sr (rd,())=some (n,x6,())∧s8 (o.bind cP) n x6∧(o.bind cP=none→n=0):=by
 cases o with
 |none=>obtain⟨s,rfl,hl⟩:=h;refine⟨0,(s,true,()),?_,⟨⟨s,rfl,hl⟩,by simp⟩,fun _=>rfl⟩;show xz _=_;unfold xz;rw[TT];rfl
 |some s=>
  obtain⟨rfl,hl⟩:=h
  cases hr:ga 7 true s with
  |none=>
   have av:cP s=none:=by unfold cP;rw[hr];rfl
   refine⟨0,(s,true,()),?_,⟨by rw[al,av];exact⟨s,rfl,hl⟩,by rw[al,av];simp⟩,fun _=>rfl⟩;show xz _=_;unfold xz;rw[TT,hr];rfl
  |some q=>
   obtain⟨h1,h2,h3,_⟩:=s7 7 true s q.1 q.2 hr;have av:cP s=some ((q.1:Int),s.drop q.2):=by unfold cP;rw[hr];rfl
   refine⟨(q.1:Int),(s.drop q.2,false,()),?_,⟨by rw[al,av];exact⟨rfl,by simp;omega⟩,by rw[al,av];intro a ha;rw[←aX ha]⟩,by rw[al,av];simp⟩;show xz _=_;unfold xz;rw[TT,hr];simp only[al,oU,cond_false];rw[bY (show(q.2:Int)≠0 by omega),TU h3];simp only[cond_false,al];rw[uN]
theorem K9{o:Option cY}{rd:Aw}(h:DL o rd):∃p x6,xA (rd,())=some (p,x6,())∧s8 (o.bind fj) p x6∧p.length≤1048576:=by
 obtain⟨n,x6,h1,h2,h3⟩:=x5 h;have key:∀x,xA (rd,())=x↔((zG (x6,n,())).bind fun v2=>some (v2.1,v2.2.1,()))=x:=by intro x;show QY rd=x↔_;unfold QY;rw[h1];rfl
 have bad:∀s:cY,zG ((s,true,()),n,())=some ([],(s,true,()),()):=fun s=>rfl
 cases o with
 |none=>obtain⟨s,hs,hl⟩:=h2.1;subst hs;exact⟨[],(s,true,()),(key _).2 (by rw[bad];rfl),⟨⟨s,rfl,hl⟩,by simp⟩,by simp⟩
 |some s=>
  cases av:cP s with
  |none=>
   have hi:=h2.1;rw[al,av]at hi;obtain⟨au,hs,hl⟩:=hi;subst hs;have hm:(some s).bind fj=none:=by simp[fj,av]
   exact⟨[],(au,true,()),(key _).2 (by rw[bad];rfl),⟨by rw[hm];exact⟨au,rfl,hl⟩,by rw[hm];simp⟩,by simp⟩
  |some q=>
   obtain⟨v,r⟩:=q;have hv:=h2.2 (v,r) (by rw[al,av]);simp only at hv;subst hv;have hi:=h2.1;rw[al,av]at hi;obtain⟨c_,hl⟩:=hi;subst c_;have hl:r.length≤1048576:=hl;obtain⟨g1,g2,_⟩:=ra av;by_cases hle:n≤(r.length:Int)
   ·have hm:(some s).bind fj=some (r.take n.toNat,r.drop n.toNat):=by simp[fj,av,hle]
    refine⟨r.take n.toNat,(r.drop n.toNat,false,()),(key _).2 ?_,⟨by rw[hm];exact⟨rfl,by simp;omega⟩,by rw[hm];intro a ha;rw[←aX ha]⟩,by simp;omega⟩;have:zG ((r,false,()),n,())=some (r.take n.toNat,(r.drop n.toNat,false,()),()):=by show Co _ _=_;unfold Co;simp only[cond_false];rw[decide_eq_false (show ¬n >(r.length:Int) by omega)];unfold dj;rw[if_pos ⟨Int.le_refl _,g1,hle⟩,if_pos ⟨g1,hle,Int.le_refl _⟩];simp only[cond_false,al,Int.toNat_natCast];rw[show part r (Int.toNat 0) (n.toNat-Int.toNat 0)=r.take n.toNat from pS r _,uN]
    rw[this];rfl
   ·have hm:(some s).bind fj=none:=by simp[fj,av,hle]
    have:zG ((r,false,()),n,())=some ([],(r,true,()),()):=by show Co _ _=_;unfold Co;simp only[cond_false];rw[decide_eq_true (show n >(r.length:Int) by omega)];rfl
    exact⟨[],(r,true,()),(key _).2 (by rw[this];rfl),⟨by rw[hm];exact⟨r,rfl,hl⟩,by rw[hm];simp⟩,by simp⟩
def Pos(s:cY)(o:Option cY)(at_:Int):Prop:=
 match o with
 |some r=>∃k:Nat,k≤s.length∧at_=(k:Int)∧r=s.drop k
 |none=>at_ = -1
def K_{α:Type}(s:cY)(o:Option (α×cY))(x:α)(at_:Int):Prop:=Pos s (kC o) at_∧∀a,o=some a→x=a.1
theorem TV{s:cY}{o:Option cY}{a:Int}(h:Pos s o a):decide (a<0)=o.isNone:=by
 cases o with
 |none=>rw[show a = -1 from h];rfl
 |some r=>obtain⟨k,_,rfl,_⟩:=h;exact decide_eq_false (by omega)
theorem atU(s:cY)(hs:s.length≤1048576)(n:Nat)(hn:n≤10):∀(r i k:Nat) (acc:List Int),i+r=n→k≤s.length→acc.length≤i →
  ∃l a,b6 (fun m=>pK m s (k:Int) (n:Int) (i:Int) acc) (1+r) (some (acc++l,a,()))∧K_ s (iR cP r (s.drop k)) l a:=by
 intro r
 induction r with
 |zero=>intro i k acc hi hk ha;refine⟨[],(k:Int),(b6.done fun m=>?_).mono (by omega),⟨⟨k,hk,rfl,rfl⟩,fun a h=>by simp only[iR,Option.some.injEq]at h;rw[←h]⟩⟩;simp only[pK,Cl];rw[decide_eq_false (by omega),List.append_nil];rfl
 |succ r ih=>
  intro i k acc hi hk ha
  have xO:∀m,pK (m+1) s (k:Int) (n:Int) (i:Int) acc=(match ga 7 true (s.drop k)with
    |none=>some (acc,-1,())
    |some q=>pK m s ((k+q.2:Nat):Int) (n:Int) ((i+1:Nat):Int) (acc++[(q.1:Int)])):=by
   intro m;simp only[pK,Cl];rw[decide_eq_true (show(i:Int)<(n:Int) by omega),decide_eq_false (show ¬(k:Int)<0 by omega),decide_eq_false (show ¬(k:Int) >(s.length:Int) by omega),TU hk];simp only[cond_true,cond_false,al];rw[uN,atT _ (by simp;omega)];simp only[al]
   cases hr:ga 7 true (s.drop k)with
   |none=>rfl
   |some q=>obtain⟨h1,h2,h3,_⟩:=s7 7 true (s.drop k) q.1 q.2 hr;simp only[oU];rw[bY (show(q.2:Int)≠0 by omega),cc (by simp;omega),cH (by omega) (by omega),dH i (by omega)];simp only[cond_true,cond_false];rw[show(k:Int) +(q.2:Int)=((k+q.2:Nat):Int) by omega]
  cases hr:ga 7 true (s.drop k)with
  |none=>
   have av:cP (s.drop k)=none:=by unfold cP;rw[hr];rfl
   refine⟨[],-1,(b6.done fun m=>?_).mono (by omega),⟨by simp only[iR,av,Option.bind_none];rfl,by simp only[iR,av,Option.bind_none];simp⟩⟩;rw[xO,hr,List.append_nil]
  |some q=>
   obtain⟨h1,h2,h3,_⟩:=s7 7 true (s.drop k) q.1 q.2 hr;have av:cP (s.drop k)=some ((q.1:Int),s.drop (k+q.2)):=by unfold cP;rw[hr];simp[List.drop_drop]
   obtain⟨l,a,e,hl⟩:=ih (i+1) (k+q.2) (acc++[(q.1:Int)]) (by omega) (by simp at h3;omega) (by simp;omega);refine⟨(q.1:Int)::l,a,?_,?_⟩
   ·rw[List.append_assoc]at e;refine(e.step (f:=fun m=>pK m s (k:Int) (n:Int) (i:Int) acc) fun m=>by rw[xO,hr]).mono (by omega)
   ·simp only[iR,av,al]
    cases hq:iR cP r (s.drop (k+q.2))with
    |none=>rw[hq]at hl;exact⟨hl.1,by simp⟩
    |some w=>rw[hq]at hl;exact⟨hl.1,fun b hb=>by simp only[Option.map_some,Option.some.injEq]at hb;rw[←hb,hl.2 w rfl]⟩
theorem atV(s:cY)(hs:s.length≤1048576)(n:Nat)(hn:n≤10){k:Nat}(hk:k≤s.length):∃l a,pL (s,(k:Int),(n:Int),())=some (l,a,())∧K_ s (iR cP n (s.drop k)) l a:=by obtain⟨l,a,e,h⟩:=atU s hs n hn n 0 k [] (by omega) hk (by simp);exact⟨l,a,l0 e (by omega),h⟩
theorem atW(s:cY)(n:Nat)(hn:1≤n):pL (s,-1,(n:Int),())=some ([],-1,()):=by obtain⟨q,hq,_⟩:=kZ 1;show Jr (pK aK) s (-1) (n:Int)=_;unfold Jr;rw[hq];simp only[pK,Cl];rw[decide_eq_true (show(0:Int)<(n:Int) by omega)];rfl
theorem K'(s:cY)(hs:s.length≤1048576)(n:Nat)(h1:1≤n)(hn:n≤10){o:Option cY}{a:Int}(h:Pos s o a):∃l b8,pL (s,a,(n:Int),())=some (l,b8,())∧K_ s (o.bind (iR cP n)) l b8:=by
 cases o with
 |none=>rw[show a = -1 from h];exact⟨[],-1,atW s n h1,rfl,by simp⟩
 |some r=>obtain⟨k,hk,rfl,rfl⟩:=h;exact atV s hs n hn hk
theorem La(s:cY):iR cP 1 s=(cP s).map fun a=>([a.1],a.2):=by simp only[iR];cases cP s<;>rfl
theorem Lb(s:cY)(hs:s.length≤1048576){o:Option cY}{a:Int}(h:Pos s o a):∃p b8,xw (s,a,())=some (p,b8,())∧K_ s (o.bind fj) p b8∧p.length≤s.length:=by
 obtain⟨l,a1,e,h1⟩:=K' s hs 1 (by omega) (by omega) h
 have key:∀x,xw (s,a,())=x↔(cond (decide (a1<0))
  (some (([]:aj),(-1),()))
  ((ix l.length 0).bind fun v2=>
  cond (decide (I (ad.int .i64) l (0+v2)>aw ((s.length:Int)-a1)))
   (some (([]:aj),(-1),()))
   ((ix l.length 0).bind fun v3=>
   (dj s.length a1 (aw (a1+I (ad.int .i64) l (0+v3)))).bind fun v4=>
   (ix l.length 0).bind fun v5=>
   some (part s v4.1 (v4.2-v4.1),aw (a1+I (ad.int .i64) l (0+v5)),()))))=x:=by
  intro x;show QP s a=x↔_;unfold QP;rw[show((1:Nat):Int)=1 from rfl]at e;rw[e];rfl
 have bQ:=TV h1.1
 cases hb:o.bind (iR cP 1)with
 |none=>
  rw[hb]at bQ
  have hn:o.bind fj=none:=by
   cases o with
   |none=>rfl
   |some r=>
    simp only[al,La]at hb⊢;unfold fj
    cases av:cP r with
    |none=>rfl
    |some q=>rw[av]at hb;simp at hb
  refine⟨[],-1,(key _).2 (by rw[bQ];rfl),⟨by rw[hn];rfl,by rw[hn];simp⟩,by simp⟩
 |some w=>
  rw[hb]at bQ h1
  cases o with
  |none=>simp at hb
  |some r=>
   simp only[al,La]at hb
   cases av:cP r with
   |none=>rw[av]at hb;simp at hb
   |some q=>
    obtain⟨n,t⟩:=q;rw[av]at hb;simp only[Option.map_some,Option.some.injEq]at hb;subst hb;have hl:=h1.2 _ rfl;simp only at hl;subst hl;obtain⟨k,hk,rfl,ht⟩:=h1.1;have ht:t=s.drop k:=ht;subst ht;obtain⟨g1,g2,_⟩:=ra av;have fI:ix [n].length 0=some 0:=rfl;have aeX:I (ad.int .i64) [n] (0+0)=n:=rfl;simp only[al];unfold fj;rw[av];simp only[al];by_cases hle:n≤((s.drop k).length:Int)
    ·have hdl:((s.drop k).length:Int)=(s.length:Int)-(k:Int):=by simp;omega
     rw[if_pos hle];refine⟨(s.drop k).take n.toNat,((k+n.toNat:Nat):Int),(key _).2 ?_,⟨⟨k+n.toNat,by simp at hle;omega,rfl,by simp[List.drop_drop]⟩,fun b hb=>by simp only[Option.some.injEq]at hb;rw[←hb]⟩,by simp;omega⟩;rw[bQ];simp only[kC,Option.map_some,Option.isNone_some,cond_false,fI,al,aeX];rw[cH (by omega) (by omega),show decide (n >(s.length:Int)-(k:Int))=false from decide_eq_false (by omega),cH (by omega) (by omega)];simp only[cond_false];unfold dj;rw[if_pos ⟨by omega,by omega,by omega⟩];simp only[al,Int.toNat_natCast];rw[show((k:Int)+n).toNat=k+n.toNat by omega,show(k:Int)+n=((k+n.toNat:Nat):Int) by omega];unfold part;rw[show k+n.toNat-k=n.toNat by omega]
    ·have hdl:((s.drop k).length:Int)=(s.length:Int)-(k:Int):=by simp;omega
     rw[if_neg hle];refine⟨[],-1,(key _).2 ?_,⟨rfl,by simp⟩,by simp⟩;rw[bQ];simp only[kC,Option.map_some,Option.isNone_some,cond_false,fI,al,aeX];rw[cH (by omega) (by omega),show decide (n >(s.length:Int)-(k:Int))=true from decide_eq_true (by omega)];rfl
theorem va{α β:Type}{p:la α}{q:α→la β}{o:Option cY}{a:α}{b:β}{TW Lc:Aw}(h1:s8 (o.bind p) a TW)(h2:s8 ((kC (o.bind p)).bind (q a)) b Lc):s8 (o.bind fun s=>(p s).bind fun x=>q x.1 x.2) b Lc:=by
 cases o with
 |none=>exact h2
 |some s=>
  cases av:p s with
  |none=>simp only[al,av]at h2⊢;exact h2
  |some x=>have:=h1.2 x (by rw[al,av]);subst this;simp only[al,av,kC,Option.map_some]at h2⊢;exact h2
theorem aeY{α β:Type}{p:la α}{f:α→β}{o:Option cY}{a:α}{rd:Aw}(h:s8 (o.bind p) a rd):s8 (o.bind fun s=>(p s).map fun x=>(f x.1,x.2)) (f a) rd:=by
 cases o with
 |none=>exact⟨h.1,by simp⟩
 |some s=>
  cases av:p s with
  |none=>simp only[al,av]at h⊢;exact⟨h.1,by simp⟩
  |some x=>have h2:=h.2 x (by rw[al,av]);subst h2;simp only[al,av,Option.map_some]at h⊢;exact⟨h.1,fun b hb=>by rw[←aX hb]⟩
theorem Ld:∀(k n:Nat),n<128^k→1≤k→(enc n).length≤k
 |0,n,h,h1=>by omega
 |k+1,n,h,_=>by
  by_cases hn:n<128
  ·rw[Au hn];simp
  ·rw[DK (by omega),List.length_cons]
   have hk:1≤k:=by
    rcases Nat.eq_zero_or_pos k with rfl|hk
    ·simp at h;omega
    ·exact hk
   have:=Ld k (n / 128) (by rw[Nat.pow_succ]at h;omega) hk;omega
theorem x7(n:Int):(fC n).length≤7:=by
 unfold fC;split
 ·rename_i h;obtain⟨h1,h2⟩:=cR.1 h;have h2:n≤562949953421311:=h2;exact Ld 7 _ (by rw[K7];omega) (by omega)
 ·simp
def kh(x:Int):Int:=cond (Int.tmod x 2==1) (aw (Int.tdiv (aw (0-(aw (x+1)))) 2)) (aw (Int.tdiv x 2))
theorem TX(x:Int):JC (x,())=some (kh x,()):=by show QZ x=_;unfold QZ kh;cases (Int.tmod x 2==1)<;>rfl
theorem aeZ(x:Int):zD (x,())=some (kh x,()):=TX x
def mS(x:Int):cY:=if x<0 then fC (-2*x-1) else fC (2*x)
theorem ae0(x:Int)(h : -1000000≤x∧x≤1000000):zA (x,())=some (mS x,()):=by
 show QJ x=_;unfold QJ mS;by_cases h0:x<0
 ·rw[decide_eq_true h0,if_pos h0,cH (a:=(-2)*x) (by omega) (by omega),cH (by omega) (by omega),u'];rfl
 ·rw[decide_eq_false h0,if_neg h0,cH (a:=2*x) (by omega) (by omega),u' (2*x)];rfl
theorem ae1{x:Int}(h:0≤x)(h':x≤562949953421311):mS (kh x)=fC x:=by
 unfold kh mS;rw[Int.tmod_eq_emod_of_nonneg h];by_cases h1:x%2=1
 ·rw[cL h1,cH (a:=x+1) (by omega) (by omega),cH (a:=0-(x+1)) (by omega) (by omega)];have e:Int.tdiv (0-(x+1)) 2 = - ((x+1) / 2):=by rw[Int.zero_sub,Int.neg_tdiv,Int.tdiv_eq_ediv_of_nonneg (by omega)]
  simp only[cond_true];rw[e,cH (by omega) (by omega),if_pos (by omega)];congr 1;omega
 ·rw[bY h1,Int.tdiv_eq_ediv_of_nonneg h];simp only[cond_false];rw[cH (by omega) (by omega),if_neg (by omega)];congr 1;omega
def DM(a:Int)(b c:cY)(d e:Int):la aL.D:=fun s=>(fj s).map fun f=>((a,b,c,kh d,kh e,f.1,()),f.2)
def DN(a:Int)(b c:cY)(d:Int):la aL.D:=fun s=>(cP s).bind fun e=>DM a b c d e.1 e.2
def DO(a:Int)(b c:cY):la aL.D:=fun s=>(cP s).bind fun d=>DN a b c d.1 d.2
def DP(a:Int)(b:cY):la aL.D:=fun s=>(fj s).bind fun c=>DO a b c.1 c.2
def DQ(a:Int):la aL.D:=fun s=>(fj s).bind fun b=>DP a b.1 b.2
def rb:la aL.D:=fun s=>(cP s).bind fun a=>DQ a.1 a.2
def mT(s:cY):Option aL.D:=
 match rb s with
 |some (x,[])=>if fp x then some x else none
 |_=>none
def DR:Option aL.D→aL.D×Bool×Unit
 |none=>((0,[],[],0,0,[],()),false,())
 |some x=>(x,true,())
theorem atX(s:cY)(hs:s.length≤1048576):Q1 (s,())=some (DR (mT s)):=by
 show Q0 s=_;unfold Q0;have i0:DL (some s) (s,false,()):=⟨rfl,hs⟩;obtain⟨a,TW,e1,i1,_⟩:=x5 i0;obtain⟨b,Lc,e2,i2,_⟩:=K9 i1.1;obtain⟨c,atY,e3,i3,_⟩:=K9 i2.1;obtain⟨d,ae2,dX,i4,_⟩:=x5 i3.1;obtain⟨e,avq,jA,i5,_⟩:=x5 i4.1;obtain⟨f,atZ,tz,i6,_⟩:=K9 i5.1
 have hc:s8 ((some s).bind rb) (a,b,c,kh d,kh e,f,()) atZ:=
  va (q:=DQ) i1 (va (q:=DP a) i2 (va (q:=DO a b) i3 (va (q:=DN a b c) i4 (va (q:=DM a b c d) i5 (aeY (f:=fun f=>((a,b,c,kh d,kh e,f,()):aL.D)) i6)))))
 rw[e1];simp only[al];rw[e2];simp only[al];rw[e3];simp only[al];rw[dX];simp only[al];rw[TX];simp only[al];rw[jA];simp only[al];rw[TX];simp only[al];rw[tz];simp only[al];rw[CG];unfold mT
 cases av:rb s with
 |none=>have:=hc.1;rw[al,av]at this;obtain⟨t,rfl,_⟩:=this;rfl
 |some q=>
  obtain⟨x,r⟩:=q;have h1:=hc.2 (x,r) (by rw[al,av]);have h2:=hc.1;rw[al,av]at h2;obtain⟨rfl,_⟩:=h2;simp only at h1;subst h1
  cases r with
  |nil=>show cond false _ _=_;simp only[cond_false,al];rw[show(!bx (([]:cY),false,()).1 [])=false from rfl];simp only[cond_false];cases fp (a,b,c,kh d,kh e,f,())<;>rfl
  |cons y r=>rfl
def ki(p:cY):cY:=fC (p.length:Int)++p
def p3(x:aL.D):cY:=fC x.1++ki x.2.1++ki x.2.2.1++mS x.2.2.2.1++mS x.2.2.2.2.1++ki x.2.2.2.2.2.1
theorem Le(p:cY)(h:p.length≤60000000000):zz (p,())=some (ki p,()):=by show QI p=_;unfold QI;rw[u'];simp only[al];have:=x7 (p.length:Int);rw[cc (by omega)];rfl
theorem DS(p:cY):(ki p).length≤7+p.length:=by unfold ki;have:=x7 (p.length:Int);simp only[List.length_append];omega
theorem ae3(x:Int):(mS x).length≤7:=by unfold mS;split<;>exact x7 _
theorem ae4(x:aL.D):zB (x,())=some (cond (fp x) (p3 x) [],()):=by
 show QK x=_;unfold QK;rw[zT];simp only[al]
 cases h:fp x with
 |false=>rfl
 |true=>have hx:=uQ.1 h;have h1:=x7 x.1;have h2:=DS x.2.1;have h3:=DS x.2.2.1;have h4:=ae3 x.2.2.2.1;have a6:=ae3 x.2.2.2.2.1;have bj:=DS x.2.2.2.2.2.1;have bL:x.2.1.length≤60:=hx.path;have dk:x.2.2.1.length≤60:=hx.q4;have jB:x.2.2.2.2.2.1.length≤64:=hx.h6;rw[u',Le _ (by omega),Le _ (by omega),Le _ (by omega),show zA (x.2.2.2.1,())=_ from ae0 _ hx.n,show zA (x.2.2.2.2.1,())=_ from ae0 _ hx.m];simp only[al,Bool.not_true,cond_false];rw[cc (by omega),cc (by simp only[List.length_append];omega),cc (by simp only[List.length_append];omega),cc (by simp only[List.length_append];omega),cc (by simp only[List.length_append];omega)];rfl
theorem ae5{s r:cY}{x:aL.D}(h:rb s=some (x,r)):s=p3 x++r∧r.length<s.length:=by unfold rb DQ DP DO DN DM at h;obtain⟨a,ha,h⟩:=bb h;obtain⟨b,hb,h⟩:=bb h;obtain⟨c,hc,h⟩:=bb h;obtain⟨d,af,h⟩:=bb h;obtain⟨e,he,h⟩:=bb h;rw[Option.map_eq_some_iff]at h;obtain⟨f,hf,h⟩:=h;rw[Prod.mk.injEq]at h;obtain⟨rfl,rfl⟩:=h;obtain⟨a1,a2,a3,a4⟩:=ra ha;obtain⟨_,nZ,o_,_⟩:=K8 hb;obtain⟨_,fV,Ex,_⟩:=K8 hc;obtain⟨d1,d2,d3,d4⟩:=ra af;obtain⟨e1,e2,e3,dX⟩:=ra he;obtain⟨_,f2,f3,_⟩:=K8 hf;refine⟨?_,by omega⟩;show s=fC a.1++ki b.1++ki c.1++mS (kh d.1)++mS (kh e.1)++ki f.1++f.2;rw[ae1 d1 d2,ae1 e1 e2];unfold ki;simp only[List.append_assoc];simp only[List.append_assoc]at nZ fV f2;rw[←f2,←e3,←d3,←fV,←nZ];exact a3
theorem ae6(s:cY):iR cP 2 s=(cP s).bind fun a=>(fun s=>(cP s).map fun b=>([a.1,b.1],b.2)) a.2:=by
 simp only[iR]
 cases h:cP s with
 |none=>rfl
 |some a=>simp only[al];cases cP a.2<;>rfl
theorem at0(s:cY)(hs:s.length≤1048576):QR (s,())=some (DR (mT s)):=by
 show QQ s=_;unfold QQ;have i0:Pos s (some s) ((0:Nat):Int):=⟨0,Nat.zero_le _,rfl,rfl⟩;obtain⟨a,eD,e1,i1⟩:=K' s hs 1 (by omega) (by omega) i0;obtain⟨b,fb,e2,i2,_⟩:=Lb s hs i1.1;obtain⟨c,gD,e3,i3,_⟩:=Lb s hs i2.1;obtain⟨d,gb,dX,i4⟩:=K' s hs 2 (by omega) (by omega) i3.1;obtain⟨f,m2,jA,i5,_⟩:=Lb s hs i4.1;rw[show pL (s,0,1,())=_ from e1];simp only[al];rw[e2];simp only[al];rw[e3];simp only[al];rw[show pL (s,gD,2,())=_ from dX];simp only[al];rw[jA];simp only[al];have bQ:=TV i5.1;have bT:rb s=none→mT s=none:=fun h=>by unfold mT;rw[h]
 have at1:rb s=none→(kC ((kC ((kC ((kC ((kC ((some s).bind (iR cP 1))).bind fj)).bind fj)).bind (iR cP 2))).bind fj))=none:=by
  intro h;unfold rb DQ DP DO DN DM at h;rw[al,La]
  cases h1:cP s with
  |none=>rfl
  |some c2=>
  rw[h1]at h;simp only[al,Option.map_some,kC]at h⊢
  cases h2:fj c2.2 with
  |none=>rfl
  |some eb=>
  rw[h2]at h;simp only[al,Option.map_some]at h⊢
  cases h3:fj eb.2 with
  |none=>rfl
  |some gY=>
  rw[h3]at h;simp only[al,Option.map_some]at h⊢;rw[ae6]
  cases h4:cP gY.2 with
  |none=>rfl
  |some hJ=>
  rw[h4]at h;simp only[al,Option.map_some]at h⊢
  cases a6:cP hJ.2 with
  |none=>rfl
  |some ij=>
  rw[a6]at h;simp only[al,Option.map_some]at h⊢
  cases bj:fj ij.2 with
  |none=>rfl
  |some pf=>rw[bj]at h;simp at h
 rw[bQ]
 cases av:rb s with
 |none=>rw[at1 av,bT av];rfl
 |some q=>
  obtain⟨x,r⟩:=q;obtain⟨Ax,_⟩:=ae5 av;have jx:=av;unfold rb DQ DP DO DN DM at jx;obtain⟨l_,ha,h⟩:=bb jx;obtain⟨re,hb,h⟩:=bb h;obtain⟨nS,hc,h⟩:=bb h;obtain⟨s9,af,h⟩:=bb h;obtain⟨p4,he,h⟩:=bb h;rw[Option.map_eq_some_iff]at h;obtain⟨DT,hf,h⟩:=h;rw[Prod.mk.injEq]at h;obtain⟨hx,rfl⟩:=h;have t1:(some s).bind (iR cP 1)=some ([l_.1],l_.2):=by rw[al,La,ha];rfl
  rw[t1]at i1;have t2:(kC (some ([l_.1],l_.2))).bind fj=some re:=hb;rw[t1,t2]at i2;have t3:(kC (some re)).bind fj=some nS:=hc;rw[t1,t2,t3]at i3;have t4:(kC (some nS)).bind (iR cP 2)=some ([s9.1,p4.1],p4.2):=by show iR cP 2 nS.2=_;rw[ae6,af];simp only[al];rw[he];rfl
  rw[t1,t2,t3,t4]at i4;have t5:(kC (some ([s9.1,p4.1],p4.2))).bind fj=some DT:=hf;rw[t1,t2,t3,t4,t5]at i5⊢;have v1:=i1.2 _ rfl;have v2:=i2.2 _ rfl;have v3:=i3.2 _ rfl;have v4:=i4.2 _ rfl;have v5:=i5.2 _ rfl;simp only at v1 v2 v3 v4 v5;subst v1 v2 v3 v4 v5;have iI:((l_.1,re.1,nS.1,kh s9.1,kh p4.1,DT.1,()):aL.D)=x:=hx;show cond false _ _=_;simp only[cond_false];rw[show ix [l_.1].length 0=some 0 from rfl,show ix [s9.1,p4.1].length 0=some 0 from rfl,show ix [s9.1,p4.1].length 1=some 1 from rfl];simp only[al];rw[show I (ad.int .i64) [s9.1,p4.1] (0+0)=s9.1 from rfl,show I (ad.int .i64) [s9.1,p4.1] (0+1)=p4.1 from rfl,show I (ad.int .i64) [l_.1] (0+0)=l_.1 from rfl,aeZ,aeZ];simp only[al,px,Bs];rw[show zB ((l_.1,re.1,nS.1,kh s9.1,kh p4.1,DT.1,()),())=_ from ae4 _,iI];simp only[al];unfold mT;rw[av]
  cases cp:fp x with
  |false=>
   have:bx [] s=false:=by rw[x3,decide_eq_false];intro h0;rw[←h0]at Ax;have h1:=congrArg List.length Ax;have h2:=(ra ha).2.2.2;rw[←h0]at h2;simp at h2
   simp only[cond_false];rw[this]
   cases hr:DT.2 with
   |nil=>simp[cp,DR]
   |cons y t=>rfl
  |true=>
   simp only[cond_true]
   cases hr:DT.2 with
   |nil=>rw[hr,List.append_nil]at Ax;rw[←Ax,hV];simp[cp,DR]
   |cons y t=>
    rw[hr]at Ax;have:bx (p3 x) s=false:=by rw[x3,decide_eq_false];intro h0;have h1:=congrArg List.length Ax;rw[←h0]at h1;simp at h1
    rw[this];rfl
def mU(s:aQ.D):Bool:=cA s.1 0 2&&cA s.2.1 1 3&&cA s.2.2.1 1 1000000&&fp s.2.2.2.1
theorem at2(s:aQ.D):QE (s,())=some (mU s,()):=by show QD s=_;unfold QD mU;simp only[j_,al];rw[zT];simp only[al,zU,aem,Bool.and_assoc]
theorem at3(s:aQ.D):Q3 (s,())=some (mU s,()):=by show Q2 s=_;unfold Q2 mU;simp only[jL,al];rw[CG];simp only[al,zU,aem,Bool.and_assoc]
def eh(l:List aQ.D)(i:Nat):Int:=(I aQ l i).1
def rf(l:List aQ.D)(dm i:Nat):Bool:=mU (I aQ l i) && !(decide (0<i)&&decide (eh l (i-1)>eh l i)) && !(decide (dm≤i)&&eh l (i-dm)==eh l i)
def Lf(l:List aQ.D)(dm:Nat):Bool:=fz l.length (rf l dm)
def b9(l:List aQ.D):Nat→Nat
 |0=>0
 |i+1=>if 0<i∧eh l (i-1)≠eh l i then 1 else b9 l i+1
def DU(l:List aQ.D)(dm i:Nat):Bool:=mU (I aQ l i) && !(decide (0<i)&&decide (eh l (i-1)>eh l i)) && !decide (dm<b9 l (i+1))
theorem Lg(l:List aQ.D):∀i,b9 l i≤i
 |0=>Nat.le_refl _
 |i+1=>by unfold b9;have:=Lg l i;split<;>omega
theorem ae7(l:List aQ.D)(i:Nat):1≤b9 l (i+1):=by unfold b9;split<;>omega
theorem ae8(l:List aQ.D):∀i k,k<b9 l (i+1)→eh l (i-k)=eh l i
 |0,k,h=>by have h2:b9 l (0+1)≤0+1:=Lg l (0+1);rw[show k=0 by omega]
 |i+1,k,h=>by
  rw[b9]at h;split at h
  ·rw[show k=0 by omega,Nat.sub_zero]
  ·rename_i hn
   have he:eh l i=eh l (i+1):=by
    by_cases he:eh l i=eh l (i+1)
    ·exact he
    ·exact absurd ⟨by omega,by simpa using he⟩ hn
   cases k with
   |zero=>rw[Nat.sub_zero]
   |succ k=>have:=ae8 l i k (by omega);rw[show i+1-(k+1)=i-k by omega,this,he]
theorem ae9(l:List aQ.D):∀i,b9 l (i+1)<i+1→eh l (i-b9 l (i+1))≠eh l i
 |0,h=>by have:=ae7 l 0;omega
 |i+1,h=>by
  rw[b9]at h⊢;split at h
  ·rename_i hn;rw[if_pos hn];exact hn.2
  ·rename_i hn;rw[if_neg hn]
   have he:eh l i=eh l (i+1):=by
    by_cases he:eh l i=eh l (i+1)
    ·exact he
    ·exact absurd ⟨by omega,by simpa using he⟩ hn
   have:=ae9 l i (by omega);rw[show i+1-(b9 l (i+1)+1)=i-b9 l (i+1) by omega,←he];exact this
theorem at4{l:List aQ.D}{dm:Nat}(hm:1≤dm){i:Nat}(av:∀j,j<i→rf l dm j=true):rf l dm i=DU l dm i:=by
 unfold rf DU;cases mU (I aQ l i)
 ·rfl
 cases hs:(decide (0<i)&&decide (eh l (i-1)>eh l i))
 case true=>rfl
 simp only[Bool.not_false,Bool.true_and];congr 1
 have xO:∀j,j+1≤i→eh l j≤eh l (j+1):=by
  intro j hj;by_cases ll:j+1=i
  ·subst ll;simp only[Bool.and_eq_false_iff,decide_eq_false_iff_not]at hs;rcases hs with hs|hs
   ·omega
   ·rw[Nat.add_sub_cancel]at hs;omega
  ·have:=av (j+1) (by omega);unfold rf at this;simp only[Bool.and_eq_true,Bool.not_eq_true',Bool.and_eq_false_iff,decide_eq_false_iff_not]at this;rcases this.1.2 with h|h
   ·omega
   ·rw[Nat.add_sub_cancel]at h;omega
 have ae_:∀d j,j+d≤i→eh l j≤eh l (j+d):=by
  intro d
  induction d with
  |zero=>intro j _;exact Int.le_refl _
  |succ d ih=>intro j hj;exact Int.le_trans (ih j (by omega)) (xO (j+d) (by omega))
 have c1:=Lg l (i+1);have fV:=ae7 l i;rw[Bool.eq_iff_iff];simp only[Bool.and_eq_true,decide_eq_true_eq,beq_iff_eq];constructor
 ·rintro⟨h1,h2⟩
  rcases Nat.lt_or_ge dm (b9 l (i+1))with h|h
  ·exact h
  ·have h3:=ae9 l i (by omega);have h4:=ae_ (dm-b9 l (i+1)) (i-dm) (by omega);have a6:=ae_ (b9 l (i+1)) (i-b9 l (i+1)) (by omega);rw[show i-dm +(dm-b9 l (i+1))=i-b9 l (i+1) by omega]at h4;rw[show i-b9 l (i+1)+b9 l (i+1)=i by omega]at a6;omega
 ·intro h;exact⟨by omega,ae8 l i dm h⟩
theorem at5(l:List aQ.D)(dm:Nat)(hm:1≤dm):Lf l dm=fz l.length (DU l dm):=
 ano fun i _ av _=>at4 hm av
theorem at6(l:List aQ.D)(dm:Nat)(hm:dm≤100)(hl:l.length≤1048576):Jl (l,(dm:Int),())=some (Lf l dm,()):=by
 show Jj (qJ aK) l (dm:Int)=_;unfold Jj
 have:=uH l.length (by omega) (rf l dm) true (fun m i=>qJ m l (dm:Int) i) (by
  intro m _;simp only[qJ,Jk]
  rw[cl (Nat.le_refl _)];rfl) (by
  intro m i hi _ hw;simp only[qJ,Jk,hw];rw[bN hi,bf hi];simp only[cond_true,al];rw[at2];simp only[al];have at7:decide ((i:Int)≥(dm:Int))=decide (dm≤i):=by apply decide_eq_decide.2;omega
  rw[at7]
  have h2:cond (decide (dm≤i)) ((ix l.length (aw ((i:Int)-(dm:Int)))).bind fun v5=>cond ((I aQ l v5).1 ==(I aQ l i).1) (some (false,())) (qJ m l (dm:Int) ((i:Int)+1))) (qJ m l (dm:Int) ((i:Int)+1))=cond (decide (dm≤i)&&eh l (i-dm)==eh l i) (some (false,())) (qJ m l (dm:Int) ((i:Int)+1)):=by
   by_cases h:dm≤i
   ·rw[decide_eq_true h,cH (by omega) (by omega),show(i:Int)-(dm:Int)=((i-dm:Nat):Int) by omega,bf (by omega)];rfl
   ·rw[decide_eq_false h];rfl
  rw[h2];unfold rf
  cases i with
  |zero=>simp only[CE,Nat.lt_irrefl,decide_false,cond_false,Bool.false_and,Bool.not_false,Bool.and_true,xK,mJ]
  |succ i=>
   rw[CD hi (by omega)];simp only[CF,Nat.zero_lt_succ,decide_true,cond_true,al,Nat.add_sub_cancel,Bool.true_and,xK,mJ]
   rfl)
 rw[Bool.and_true]at this;exact this
theorem aua(l:List aQ.D)(dm:Nat)(hm:1≤dm)(tw:dm≤100)(hl:l.length≤1048576):JF (l,(dm:Int),())=some (Lf l dm,()):=by
 show JD (qO aK) l (dm:Int)=_;unfold JD;rw[at5 l dm hm]
 have:=uH l.length (by omega) (DU l dm) true (fun m i=>(qO (2*m)).k3 l (dm:Int) (b9 l i.toNat:Int) l (l.length:Int) i) (by
  intro m _;show Cp (qO (2*m+1)) _ _ _ _ _ _=_;unfold Cp
  rw[cl (Nat.le_refl _)];rfl) (by
  intro m i hi _ hw;have c1:=Lg l i
  have K2:∀c:Nat,c≤1048577→JE (qO (2*m)) l (dm:Int) (c:Int) (i:Int) l (l.length:Int) (i:Int) (I aQ l i) =
    cond (mU (I aQ l i) && !(decide (0<i)&&decide (eh l (i-1)>eh l i)) && !decide (dm<c)) ((qO (2*m)).k3 l (dm:Int) (c:Int) l (l.length:Int) ((i:Int)+1)) (some (false,())):=by
   intro c hc;unfold JE;rw[at3];simp only[al,hw];rw[show decide ((c:Int) >(dm:Int))=decide (dm<c) by apply decide_eq_decide.2;omega]
   cases i with
   |zero=>simp only[CE,Nat.lt_irrefl,decide_false,cond_false,Bool.false_and,Bool.not_false,Bool.and_true,xK,mJ]
   |succ i=>rw[CD hi (by omega)];simp only[CF,Nat.zero_lt_succ,decide_true,cond_true,al,Nat.add_sub_cancel,Bool.true_and,xK,mJ];rfl
  show Cp (qO (2*m+1)) _ _ _ _ _ _=_;unfold Cp;rw[bN hi,bf hi];simp only[cond_true,al,Int.toNat_natCast];rw[show((i:Int)+1).toNat=i+1 by omega];have cW:∀c,(qO (2*m+1)).cW l (dm:Int) c (i:Int) l (l.length:Int) (i:Int) (I aQ l i)=JE (qO (2*m)) l (dm:Int) c (i:Int) l (l.length:Int) (i:Int) (I aQ l i):=fun _=>rfl
  rw[cW,cW,dH _ (by omega)];have h1:=K2 1 (by omega);have h2:=K2 (b9 l i+1) (by omega);rw[show((1:Nat):Int)=1 from rfl]at h1;rw[h1,h2];unfold DU
  cases i with
  |zero=>
   simp only[CE,cond_false];have:b9 l (0+1)=b9 l 0+1:=by simp[b9]
   rw[this]
  |succ i=>
   rw[CD hi (by omega)];simp only[CF,cond_true,al];show cond (eh l i != eh l (i+1)) _ _=_;by_cases he:eh l i=eh l (i+1)
   ·rw[eA he];have:b9 l (i+1+1)=b9 l (i+1)+1:=by rw[b9,if_neg (by simp[he])]
    rw[this];rfl
   ·rw[dv he];have:b9 l (i+1+1)=1:=by rw[b9,if_pos ⟨by omega,by simpa using he⟩]
    rw[this];rfl) 9223372036854775808 (by omega)
 rw[anp,Bool.and_true]at this;exact this
def DV(a b c:Int):la aQ.D:=fun s=>(fj s).bind fun p=>(mT p.1).map fun x=>((a,b,c,x,()),p.2)
def DW(a b:Int):la aQ.D:=fun s=>(cP s).bind fun c=>DV a b c.1 c.2
def DX(a:Int):la aQ.D:=fun s=>(cP s).bind fun b=>DW a b.1 b.2
def oV:la aQ.D:=fun s=>(cP s).bind fun a=>DX a.1 a.2
def iB:Nat→cY→Option (List aQ.D)
 |_,[]=>some []
 |0,_::_=>none
 |n+1,y::t=>(oV (y::t)).bind fun a=>(iB n a.2).map fun l=>a.1::l
def jX(l:List aQ.D):Bool:=Lf l 2
def oW:cY→Option (List aQ.D)
 | []=>none
 |y::t=>if y=102 then(iB t.length t).bind fun l=>if jX l then some l else none else none
def Ay:Option (List aQ.D)→List aQ.D×Bool×Unit
 |none=>([],false,())
 |some l=>(l,true,())
def s_(x:aQ.D):cY:=fC x.1++fC x.2.1++fC x.2.2.1++ki (p3 x.2.2.2.1)
theorem aub{p:cY}{x:aL.D}(h:mT p=some x):p=p3 x∧fp x=true:=by
 unfold mT at h;split at h
 ·rename_i y av;split at h
  ·rename_i cp;obtain rfl:=aX h;have:=(ae5 av).1;rw[List.append_nil]at this;exact⟨this,cp⟩
  ·cases h
 ·cases h
theorem TY{s r:cY}{x:aQ.D}(h:oV s=some (x,r)):s=s_ x++r∧r.length<s.length:=by unfold oV DX DW DV at h;obtain⟨a,ha,h⟩:=bb h;obtain⟨b,hb,h⟩:=bb h;obtain⟨c,hc,h⟩:=bb h;obtain⟨p,av,h⟩:=bb h;rw[Option.map_eq_some_iff]at h;obtain⟨y,aR,h⟩:=h;rw[Prod.mk.injEq]at h;obtain⟨rfl,rfl⟩:=h;obtain⟨_,_,a3,a4⟩:=ra ha;obtain⟨_,_,o_,AR⟩:=ra hb;obtain⟨_,_,Ex,avr⟩:=ra hc;obtain⟨_,fb,gD,_⟩:=K8 av;refine⟨?_,by omega⟩;show s=fC a.1++fC b.1++fC c.1++ki (p3 y)++p.2;rw[←(aub aR).1];unfold ki;simp only[List.append_assoc];simp only[List.append_assoc]at fb;rw[←fb,←Ex,←o_];exact a3
theorem TZ:∀(n:Nat) (t:cY) (l:List aQ.D),iB n t=some l→t=(l.map s_).flatten∧l.length≤t.length
 |_,[],l,h=>by unfold iB at h;obtain rfl:=aX h;exact⟨rfl,Nat.le_refl _⟩
 |0,y::t,l,h=>by unfold iB at h;cases h
 |n+1,y::t,l,h=>by unfold iB at h;obtain⟨a,ha,h⟩:=bb h;rw[Option.map_eq_some_iff]at h;obtain⟨l',hl,rfl⟩:=h;obtain⟨h1,h2⟩:=TY (x:=a.1) (r:=a.2) ha;obtain⟨h3,h4⟩:=TZ n a.2 l' hl;refine⟨?_,by rw[List.length_cons];omega⟩;rw[List.map_cons,List.flatten_cons,←h3];exact h1
theorem ae'(l:List aQ.D)(hl:l.length≤1048576):JG (l,())=some (jX l,()):=by show Q4 l=_;unfold Q4;rw[show JF (l,2,())=_ from aua l 2 (by omega) (by omega) hl];rfl
theorem afa(m:Nat)(t:cY)(acc:List aQ.D):qQ (m+1) (t,true,()) acc=some ([],false,()):=by show qP (qQ m) (t,true,()) acc=_;unfold qP;cases (!(bx t []))<;>rfl
theorem auc:∀(n m:Nat) (s:cY) (acc:List aQ.D),s.length≤n→n+1<m→acc.length+s.length≤1048576 →
  qQ m (s,false,()) acc=some (Ay ((iB n s).bind fun l=>if jX (acc++l) then some (acc++l) else none)):=by
 intro n
 induction n with
 |zero=>intro m s acc hn hm hl;have hs:s=[]:=List.length_eq_zero_iff.1 (by omega);subst hs;obtain⟨m,rfl,_⟩:=fuel (show 0<m by omega);show qP (qQ m) ([],false,()) acc=_;unfold qP;rw[ae' _ (by omega),show(!bx (([]:cY),false,()).1 [])=false from rfl];simp only[cond_false,al,iB,List.append_nil];cases jX acc<;>rfl
 |succ n ih=>
  intro m s acc hn hm hl;obtain⟨m,rfl,_⟩:=fuel (show 0<m by omega)
  cases s with
  |nil=>show qP (qQ m) ([],false,()) acc=_;unfold qP;rw[ae' _ (by omega),show(!bx (([]:cY),false,()).1 [])=false from rfl];simp only[cond_false,al,iB,List.append_nil];cases jX acc<;>rfl
  |cons y t=>
   show qP (qQ m) (y::t,false,()) acc=_;unfold qP;rw[show(!bx (y::t,false,()).1 [])=true from by rw[x3];simp];simp only[cond_true,Bool.not_false];rw[List.length_cons]at hn hl;have i0:DL (some (y::t)) (y::t,false,()):=⟨rfl,by rw[List.length_cons];omega⟩;obtain⟨a,TW,e1,i1,_⟩:=x5 i0;obtain⟨b,Lc,e2,i2,_⟩:=x5 i1.1;obtain⟨c,atY,e3,i3,_⟩:=x5 i2.1;obtain⟨p,ae2,dX,i4,av⟩:=K9 i3.1;rw[e1];simp only[al];rw[e2];simp only[al];rw[e3];simp only[al];rw[dX];simp only[al];rw[atX p av];simp only[al];rw[cc (by simp only[List.length_cons,List.length_nil];omega)];simp only[cond_true]
   have hq:s8 ((some (y::t)).bind fun s=>(cP s).bind fun a=>(fun a s=>(cP s).bind fun b=>(fun b s=>(cP s).bind fun c=>(fun c s=>(fj s).map fun p=>((a,b,c,p.1),p.2)) c.1 c.2) b.1 b.2) a.1 a.2) (a,b,c,p) ae2:=
    va (q:=fun a s=>(cP s).bind fun b=>(fun b s=>(cP s).bind fun c=>(fun c s=>(fj s).map fun p=>((a,b,c,p.1),p.2)) c.1 c.2) b.1 b.2) i1
     (va (q:=fun b s=>(cP s).bind fun c=>(fun c s=>(fj s).map fun p=>((a,b,c,p.1),p.2)) c.1 c.2) i2
      (va (q:=fun c s=>(fj s).map fun p=>((a,b,c,p.1),p.2)) i3 (aeY (f:=fun p=>(a,b,c,p)) i4)))
   have dg:oV (y::t)=((some (y::t)).bind fun s=>(cP s).bind fun a=>(fun a s=>(cP s).bind fun b=>(fun b s=>(cP s).bind fun c=>(fun c s=>(fj s).map fun p=>((a,b,c,p.1),p.2)) c.1 c.2) b.1 b.2) a.1 a.2).bind fun q=>(mT q.1.2.2.2).map fun x=>((q.1.1,q.1.2.1,q.1.2.2.1,x,()),q.2):=by
    unfold oV DX DW DV;simp only[al]
    cases cP (y::t)with
    |none=>rfl
    |some c2=>
    simp only[al]
    cases cP c2.2 with
    |none=>rfl
    |some eb=>
    simp only[al]
    cases cP eb.2 with
    |none=>rfl
    |some gY=>
    simp only[al]
    cases fj gY.2 with
    |none=>rfl
    |some hJ=>rfl
   revert hq dg;generalize ((some (y::t)).bind fun s=>(cP s).bind fun a=>(fun a s=>(cP s).bind fun b=>(fun b s=>(cP s).bind fun c=>(fun c s=>(fj s).map fun p=>((a,b,c,p.1),p.2)) c.1 c.2) b.1 b.2) a.1 a.2)=O;intro hq dg;obtain⟨m,rfl,_⟩:=fuel (show 0<m by omega);have Lh:iB (n+1) (y::t)=(oV (y::t)).bind fun a=>(iB n a.2).map fun l=>a.1::l:=by rw[iB]
   cases O with
   |none=>obtain⟨cQ,rfl,_⟩:=hq.1;rw[Lh,dg];exact afa m cQ _
   |some q=>
    obtain⟨⟨l_,re,nS,T0⟩,r⟩:=q;have hv:=hq.2 _ rfl;simp only[Prod.mk.injEq]at hv;obtain⟨rfl,rfl,rfl,rfl⟩:=hv;obtain⟨rfl,_⟩:=hq.1;simp only[cond_false];rw[Lh];simp only[al]at dg
    cases hc:mT p with
    |none=>rw[hc]at dg;rw[dg];exact afa m r _
    |some x=>
     rw[hc]at dg;rw[dg];have hr:=(TY dg).2;rw[List.length_cons]at hr;refine Eq.trans (ih (m+1) r (acc++[(a,b,c,x,())]) (by omega) (by omega) (by simp only[List.length_append,List.length_cons,List.length_nil];omega)) ?_;simp only[Option.map_some,al]
     cases iB n r with
     |none=>rfl
     |some l=>simp only[al,Option.map_some,List.append_assoc,List.singleton_append]
theorem aud(s:cY)(hs:s.length≤1048576):JJ (s,())=some (Ay (oW s)):=by
 show JI (qQ aK) s=_;unfold JI
 cases s with
 |nil=>rfl
 |cons y t=>
  rw[show bx (y::t) []=false from by rw[x3];simp];simp only[cond_false];rw[show ix (y::t).length 0=some 0 from by rw[show(0:Int)=((0:Nat):Int) from rfl];exact bf (by simp)];simp only[al];rw[show((y::t).getD 0 0)=y from rfl];rw[oW];by_cases aR:y=102
  ·rw[if_pos aR,show((y.toNat:Int) != 102)=false from by rw[aR];rfl];simp only[cond_false];rw[show dj (y::t).length 1 ((y::t).length:Int)=some (1,(y::t).length) from TU (n:=(y::t).length) (c:=1) (by simp)];simp only[al];rw[uN,List.drop_one,List.tail_cons];rw[List.length_cons]at hs;rw[auc t.length aK t [] (Nat.le_refl _) (by rw[fA];omega) (by simp;omega)];simp only[List.nil_append]
  ·rw[if_neg aR,show((y.toNat:Int) != 102)=true from by
    rw[bne_iff_ne];intro h;apply aR;have:y.toNat=102:=by omega
    exact UInt8.toNat_inj.1 this]
   rfl
def s'(l:List aQ.D):cY:=102 ::(l.map s_).flatten
theorem Li{n:Int}(h:0≤n∧n≤127):(fC n).length≤1:=by unfold fC;rw[if_pos (cR.2 ⟨h.1,Int.le_trans h.2 (by decide)⟩)];exact Ld 1 _ (by omega) (by omega)
theorem T1{n:Int}(h:0≤n∧n≤2000001):(fC n).length≤3:=by
 have e:(128:Nat)^3=2097152:=by decide
 unfold fC;rw[if_pos (cR.2 ⟨h.1,Int.le_trans h.2 (by decide)⟩)];exact Ld 3 _ (by rw[e];omega) (by omega)
theorem T2{p:cY}(h:p.length≤127):(ki p).length≤1+p.length:=by unfold ki;have:=Li (n:=(p.length:Int)) ⟨by omega,by omega⟩;simp only[List.length_append];omega
theorem afb{x:Int}(h : -1000000≤x∧x≤1000000):(mS x).length≤3:=by
 unfold mS;split
 ·exact T1 (by omega)
 ·exact T1 (by omega)
theorem afc{x:aL.D}(h:fp x=true):(p3 x).length≤194:=by have hx:=uQ.1 h;have hk:=hx.dn;have h1:=Li (n:=aD x) ⟨by omega,by omega⟩;have bL:x.2.1.length≤60:=hx.path;have dk:x.2.2.1.length≤60:=hx.q4;have jB:x.2.2.2.2.2.1.length≤64:=hx.h6;have h2:=T2 (p:=x.2.1) (by omega);have h3:=T2 (p:=x.2.2.1) (by omega);have h4:=afb hx.n;have a6:=afb hx.m;have bj:=T2 (p:=x.2.2.2.2.2.1) (by omega);have e:p3 x=fC (aD x)++ki x.2.1++ki x.2.2.1++mS (bU x)++mS (eB x)++ki x.2.2.2.2.2.1:=rfl;rw[e];simp only[List.length_append];omega
def x8(x:aQ.D):Int:=x.1
def jY(x:aQ.D):Int:=x.2.1
def jZ(x:aQ.D):Int:=x.2.2.1
theorem T3{x:aQ.D}(h:mU x=true):(0≤x8 x∧x8 x≤2)∧(1≤jY x∧jY x≤3)∧(1≤jZ x∧jZ x≤1000000)∧fp x.2.2.2.1=true:=by unfold mU at h;simp only[Bool.and_eq_true,cR]at h;exact⟨h.1.1.1,h.1.1.2,h.1.2,h.2⟩
theorem afd{x:aQ.D}(h:mU x=true):(s_ x).length≤206:=by obtain⟨h1,h2,h3,h4⟩:=T3 h;have a1:=Li (n:=x8 x) ⟨by omega,by omega⟩;have a2:=Li (n:=jY x) ⟨by omega,by omega⟩;have a3:=T1 (n:=jZ x) ⟨by omega,by omega⟩;have a4:=DS (p3 x.2.2.2.1);have a5:=afc h4;have e:s_ x=fC (x8 x)++fC (jY x)++fC (jZ x)++ki (p3 x.2.2.2.1):=rfl;rw[e];simp only[List.length_append];omega
theorem T4{l:List aQ.D}(h:jX l=true){x:aQ.D}(hx:x∈l):mU x=true:=by obtain⟨i,hi,rfl⟩:=fJ hx;have:=hC.1 h i hi;unfold rf at this;simp only[Bool.and_eq_true]at this;exact this.1.1
theorem aue{l:List aQ.D}:(∀x,x∈l→mU x=true)→((l.map s_).flatten).length≤l.length*206:=by
 induction l with
 |nil=>intro _;simp
 |cons x l ih=>
  intro h;rw[List.map_cons,List.flatten_cons,List.length_append,List.length_cons,Nat.add_one_mul];have:=ih fun y aR=>h y (by simp[aR])
  have:=afd (h x (by simp));omega
theorem auf{a b:Int}(h:¬a>b)(h':a≠b):a+1≤b:=by omega
theorem DY{l:List aQ.D}(h:jX l=true):l.length≤6:=by
 have av:=hC.1 h
 have mono:∀i,i+1<l.length→eh l i≤eh l (i+1):=by
  intro i hi;have:=av (i+1) hi;unfold rf at this;simp only[Bool.and_eq_true,Bool.not_eq_true',Bool.and_eq_false_iff,decide_eq_false_iff_not,Nat.add_sub_cancel]at this;rcases this.1.2 with h|h
  ·omega
  ·exact Int.not_lt.1 h
 have two:∀i,i+2<l.length→eh l i≠eh l (i+2):=by
  intro i hi;have:=av (i+2) hi;unfold rf at this;simp only[Bool.and_eq_true,Bool.not_eq_true',Bool.and_eq_false_iff,decide_eq_false_iff_not,Nat.add_sub_cancel]at this;rcases this.2 with h|h
  ·omega
  ·intro e;rw[e]at h;simp at h
 have up:∀i,i+2<l.length→eh l i+1≤eh l (i+2):=fun i hi=>auf (fun h=>by have h1:=mono i (by omega);have h2:eh l (i+1)≤eh l (i+2):=mono (i+1) (by omega);omega) (two i hi)
 have rg:∀i,i<l.length→0≤eh l i∧eh l i≤2:=fun i hi=>(T3 (T4 h (de hi))).1
 rcases Nat.lt_or_ge 6 l.length with bj|bj
 ·have a0:=rg 0 (by omega);have a1:=up 0 (by omega);have a2:=up 2 (by omega);have a3:=up 4 (by omega);have EA:=rg 6 (by omega);simp only[Nat.zero_add]at a1;rw[show 2+2=4 from rfl]at a2;rw[show 4+2=6 from rfl]at a3;omega
 ·exact bj
theorem aug{l:List aQ.D}(h:jX l=true):(s' l).length≤1237:=by
 have h1:=DY h;have h2:=aue (l:=l) fun x hx=>T4 h hx
 have h3:l.length*206≤6*206:=Nat.mul_le_mul_right _ h1;unfold s';rw[List.length_cons];omega
theorem auh(l:List aQ.D)(hl:l.length≤1048576):QG (l,())=some (jX l,()):=by show QF l=_;unfold QF;rw[show Jl (l,2,())=_ from at6 l 2 (by omega) hl];rfl
theorem aui{x:aQ.D}(h:mU x=true):QM (x,())=some (s_ x,()):=by obtain⟨_,_,_,h4⟩:=T3 h;show QL x=_;unfold QL;rw[u',u',u',ae4,h4];simp only[al,cond_true];have a1:=x7 x.1;have a2:=x7 x.2.1;have a3:=x7 x.2.2.1;have a4:=DS (p3 x.2.2.2.1);have a5:=afc h4;rw[Le _ (by omega)];simp only[al];rw[cc (by omega),cc (by simp only[List.length_append];omega),cc (by simp only[List.length_append];omega)];rfl
theorem afe(l:List aQ.D)(hl:l.length≤1048576):QN (l,())=some (if jX l then s' l else [],()):=by
 show Jo (xt aK) l=_;unfold Jo;rw[auh l hl];simp only[al]
 cases h:jX l with
 |false=>rfl
 |true=>
  have bj:=DY h
  have key:∀(r m i:Nat) (o:cY),i+r=l.length→r<m→o.length≤1+i*206→xt m l o (i:Int)=some (o++((l.drop i).map s_).flatten,()):=by
   intro r
   induction r with
   |zero=>intro m i o hi hm ho;obtain⟨m,rfl,_⟩:=fuel (show 0<m by omega);show zC (xt m) l o (i:Int)=_;unfold zC;rw[cl (by omega),List.drop_of_length_le (by omega)];simp
   |succ r ih=>
    intro m i o hi hm ho;obtain⟨m,rfl,_⟩:=fuel (show 0<m by omega);have bm:i<l.length:=by omega
    have hs:=T4 h (de bm);have hle:=afd hs;have:i*206≤6*206:=Nat.mul_le_mul_right _ (by omega);show zC (xt m) l o (i:Int)=_;unfold zC;rw[bN bm,bf bm];simp only[cond_true,al];rw[aui hs];simp only[al];rw[cc (by omega),cH (by omega) (by omega)];simp only[cond_true];refine Eq.trans (ih m (i+1) (o++s_ (I aQ l i)) (by omega) (by omega) (by rw[List.length_append,Nat.add_one_mul];omega)) ?_;rw[drop_cons bm,List.map_cons,List.flatten_cons,List.append_assoc]
  simp only[Bool.not_true,cond_false,if_true];rw[show([102]:aj)=[102] from rfl,show(0:Int)=((0:Nat):Int) from rfl,key l.length aK 0 [102] (by omega) (by rw[fA];omega) (by simp),List.drop_zero];rfl
theorem auj(s:cY)(hs:s.length≤1600):∀(n m k:Nat) (acc:List aQ.D),k≤s.length→s.length-k≤n→n<m→acc.length +(s.length-k)≤1700 →
  uz m s (k:Int) acc=some (Ay ((iB n (s.drop k)).bind fun l=>if(if jX (acc++l) then s' (acc++l) else [])=s then some (acc++l) else none)):=by
 intro n
 induction n with
 |zero=>
  intro m k acc hk hn hm ha;obtain⟨m,rfl,_⟩:=fuel (show 0<m by omega);have e:s.drop k=[]:=List.drop_of_length_le (by omega);show uy (uz m) s (k:Int) acc=_;unfold uy;rw[cl (by omega),e,afe acc (by omega)];simp only[cond_false,al,iB,List.append_nil];rw[x3];by_cases h:(if jX acc then s' acc else [])=s
  ·rw[decide_eq_true h,if_pos h];rfl
  ·rw[decide_eq_false h,if_neg h];rfl
 |succ n ih=>
  intro m k acc hk hn hm ha;obtain⟨m,rfl,_⟩:=fuel (show 0<m by omega);by_cases iU:k<s.length
  case neg=>
   have e:s.drop k=[]:=List.drop_of_length_le (by omega);show uy (uz m) s (k:Int) acc=_;unfold uy;rw[cl (by omega),e,afe acc (by omega)];simp only[cond_false,al,iB,List.append_nil];rw[x3];by_cases h:(if jX acc then s' acc else [])=s
   ·rw[decide_eq_true h,if_pos h];rfl
   ·rw[decide_eq_false h,if_neg h];rfl
  obtain⟨y,t,auk⟩:∃y t,s.drop k=y::t:=by
   cases af:s.drop k with
   |nil=>have:=congrArg List.length af;simp at this;omega
   |cons y t=>exact⟨y,t,rfl⟩
  show uy (uz m) s (k:Int) acc=_;unfold uy;rw[bN iU];simp only[cond_true];have i0:Pos s (some (s.drop k)) (k:Int):=⟨k,hk,rfl,rfl⟩;obtain⟨L,gD,e3,i3⟩:=K' s (by omega) 3 (by omega) (by omega) i0;obtain⟨p,gb,dX,i4,av⟩:=Lb s (by omega) i3.1;rw[show pL (s,(k:Int),3,())=_ from e3];simp only[al];rw[dX];simp only[al];rw[at0 p (by omega)];simp only[al];have bQ:=TV i4.1;rw[bQ];have Lh:iB (n+1) (s.drop k)=(oV (s.drop k)).bind fun a=>(iB n a.2).map fun l=>a.1::l:=by rw[auk,iB]
  rw[Lh]
  have gu:∀u,iR cP 3 u=(cP u).bind fun a=>(cP a.2).bind fun b=>(cP b.2).map fun c=>([a.1,b.1,c.1],c.2):=by
   intro u;simp only[iR]
   cases h1:cP u with
   |none=>rfl
   |some a=>
   simp only[al]
   cases h2:cP a.2 with
   |none=>rfl
   |some b=>
   simp only[al];cases cP b.2<;>rfl
  have no:oV (s.drop k)=none→gb<0∨mT p=none:=by
   intro h;unfold oV DX DW DV at h;rw[al,gu]at i3 i4
   cases h1:cP (s.drop k)with
   |none=>rw[h1]at i4;exact .inl (by rw[show gb = -1 from i4.1];omega)
   |some l_=>
   rw[h1]at h i3 i4;simp only[al]at h i3 i4
   cases h2:cP l_.2 with
   |none=>rw[h2]at i4;exact .inl (by rw[show gb = -1 from i4.1];omega)
   |some re=>
   rw[h2]at h i3 i4;simp only[al]at h i3 i4
   cases h3:cP re.2 with
   |none=>rw[h3]at i4;exact .inl (by rw[show gb = -1 from i4.1];omega)
   |some nS=>
   rw[h3]at h i3 i4;simp only[al,Option.map_some,kC]at h i3 i4
   cases h4:fj nS.2 with
   |none=>rw[h4]at i4;exact .inl (by rw[show gb = -1 from i4.1];omega)
   |some T0=>
   rw[h4]at h i4;simp only[al]at h;have:=i4.2 _ rfl;rw[←this]at h
   cases hc:mT p with
   |none=>exact .inr rfl
   |some x=>rw[hc]at h;simp at h
  have yes:∀x r,oV (s.drop k)=some (x,r)→∃k':Nat,k'≤s.length∧gb=(k':Int)∧r=s.drop k'∧L=[x.1,x.2.1,x.2.2.1]∧mT p=some x.2.2.2.1:=by
   intro x r h;unfold oV DX DW DV at h;obtain⟨l_,h1,h⟩:=bb h;obtain⟨re,h2,h⟩:=bb h;obtain⟨nS,h3,h⟩:=bb h;obtain⟨T0,h4,h⟩:=bb h;rw[Option.map_eq_some_iff]at h;obtain⟨c,hc,h⟩:=h;rw[Prod.mk.injEq]at h;obtain⟨rfl,rfl⟩:=h;have t3:(some (s.drop k)).bind (iR cP 3)=some ([l_.1,re.1,nS.1],nS.2):=by rw[al,gu,h1];simp only[al];rw[h2];simp only[al];rw[h3];rfl
   rw[t3]at i3 i4;have t4:(kC (some ([l_.1,re.1,nS.1],nS.2))).bind fj=some T0:=h4;rw[t4]at i4;obtain⟨k',dy,e1,e2⟩:=i4.1;exact⟨k',dy,e1,e2,i3.2 _ rfl,by rw[i4.2 _ rfl];exact hc⟩
  rw[←bQ]
  cases dg:oV (s.drop k)with
  |none=>
   rcases no dg with h|h
   ·rw[decide_eq_true h];rfl
   ·rw[h];cases decide (gb<0)<;>rfl
  |some q=>
   obtain⟨x,r⟩:=q;obtain⟨k',dy,e1,e2,jA,tz⟩:=yes x r dg;subst e1 e2 jA;have hr:=(TY dg).2;rw[List.length_drop,List.length_drop]at hr;rw[decide_eq_false (show ¬(k':Int)<0 by omega),tz];simp only[cond_false,DR,Bool.not_true];rw[show ix ([x.1,x.2.1,x.2.2.1]:List Int).length 0=some 0 from rfl,show ix ([x.1,x.2.1,x.2.2.1]:List Int).length 1=some 1 from rfl,show ix ([x.1,x.2.1,x.2.2.1]:List Int).length 2=some 2 from rfl];simp only[al];rw[cc (by simp only[List.length_cons,List.length_nil];omega)];simp only[cond_true];refine Eq.trans (ih m k' (acc++[x]) (by omega) (by omega) (by omega) (by simp only[List.length_append,List.length_cons,List.length_nil];omega)) ?_
   cases iB n (s.drop k')with
   |none=>rfl
   |some l=>simp only[al,Option.map_some,List.append_assoc,List.singleton_append]
theorem aul(s:cY):QS (s,())=some (Ay (oW s)):=by
 show Js (uz aK) s=_;unfold Js
 cases s with
 |nil=>rfl
 |cons y t=>
  rw[bY (show((y::t).length:Int)≠0 by rw[List.length_cons];omega)];simp only[cond_false]
  have fact:∀l,iB t.length t=some l→((if jX l then s' l else [])=y::t↔jX l=true∧y=102):=by
   intro l h;have h1:=(TZ _ _ _ h).1
   cases hf:jX l with
   |false=>simp
   |true=>
    simp only[if_true,s'];rw[←h1];constructor
    ·intro e;exact⟨trivial,(List.cons.inj e).1.symm⟩
    ·rintro⟨_,rfl⟩;rfl
  by_cases hl:(y::t).length≤1600
  ·rw[decide_eq_false (show ¬((y::t).length:Int)>1600 by omega)];simp only[cond_false];have hlen:(y::t).length=t.length+1:=List.length_cons;rw[show(1:Int)=((1:Nat):Int) from rfl,auj (y::t) hl t.length aK 1 [] (by omega) (by omega) (by rw[fA];omega) (by simp only[List.length_nil];omega),List.drop_one,List.tail_cons,oW]
   cases av:iB t.length t with
   |none=>simp
   |some l=>
    have:=fact l av;simp only[al,List.nil_append];by_cases aR:y=102
    ·rw[if_pos aR]
     cases hf:jX l with
     |false=>rw[hf]at this;rw[if_neg (fun h=>by have:=(this.1 h).1;simp at this),if_neg (by simp)]
     |true=>rw[hf]at this;rw[if_pos (this.2 ⟨rfl,aR⟩),if_pos rfl]
    ·rw[if_neg aR,if_neg (fun h=>aR (this.1 h).2)]
  ·rw[decide_eq_true (show((y::t).length:Int)>1600 by omega),oW];simp only[cond_true];by_cases aR:y=102
   ·rw[if_pos aR]
    cases av:iB t.length t with
    |none=>rfl
    |some l=>
     simp only[al]
     cases hf:jX l with
     |false=>rfl
     |true=>have h1:=(TZ _ _ _ av).1;have h2:=aug hf;unfold s' at h2;rw[←h1,List.length_cons]at h2;rw[List.length_cons]at hl;omega
   ·rw[if_neg aR];rfl
noncomputable def iS(t:c8)(c bJ:Int)(x:aL.D)(index:Int):c8×an.D×Bool:=
 match se (t,c,bJ,x,index,())with
 |some y=>(y.1,y.2.1,y.2.2.1)
 |none=>(t,(0,[],()),false)
theorem T5{t:c8}(c bJ:Int)(x:aL.D)(index:Int)(h:f' t=true):
  se (t,c,bJ,x,index,())=some ((iS t c bJ x index).1,(iS t c bJ x index).2.1,(iS t c bJ x index).2.2,()) ∧
  zn (t,c,bJ,x,index,())=some ((iS t c bJ x index).2.1,(iS t c bJ x index).2.2,(iS t c bJ x index).1,()) ∧
  q' t c bJ x index (iS t c bJ x index).1 (iS t c bJ x index).2.1 (iS t c bJ x index).2.2:=by
 obtain⟨cQ,r,b,e1,e2,af⟩:=atf t c bJ x index h;unfold iS;rw[e1,e2];exact⟨rfl,rfl,af⟩
theorem aum{t:c8}(c bJ:Int)(x:aL.D)(index:Int)(h:f' t=true):f' (iS t c bJ x index).1=true:=(T5 c bJ x index h).2.2.ok h
abbrev Fold:Type:=c8×List fy.D
noncomputable def iC(tn ix:Int)(p:Fold)(s:aQ.D):Fold:=
 if x8 s=tn then((iS p.1 (jY s) (jZ s) s.2.2.2.1 ix).1,if(iS p.1 (jY s) (jZ s) s.2.2.2.1 ix).2.2 then p.2++[(jY s,jZ s,s.2.2.2.1,ix,(iS p.1 (jY s) (jZ s) s.2.2.2.1 ix).2.1,())] else p.2) else p
noncomputable def vd(tn:Int)(i:Nat)(e:cY)(p:Fold):Fold:=
 match oW e with
 |none=>p
 |some l=>l.foldl (iC tn ((i:Int)+1)) (tick p.1,p.2)
noncomputable def e8(tn:Int)(l:List an.D):Nat→Fold
 |0=>(DJ,[])
 |n+1=>vd tn n (fs (I an l n)) (e8 tn l n)
theorem T6{tn ix:Int}{p:Fold}(s:aQ.D)(h:f' p.1=true):f' (iC tn ix p s).1=true∧(iC tn ix p s).2.length≤p.2.length+1:=by
 unfold iC;split
 ·refine⟨aum _ _ _ _ h,?_⟩;simp only;split
  ·rw[List.length_append,List.length_singleton];omega
  ·omega
 ·exact⟨h,by omega⟩
theorem aff{tn ix:Int}:∀(l:List aQ.D) (p:Fold),f' p.1=true→f' (l.foldl (iC tn ix) p).1=true∧(l.foldl (iC tn ix) p).2.length≤p.2.length+l.length
 | [],p,h=>⟨h,by simp⟩
 |s::l,p,h=>by have h1:=T6 (tn:=tn) (ix:=ix) s h;have h2:=aff (tn:=tn) (ix:=ix) l (iC tn ix p s) h1.1;rw[List.foldl_cons,List.length_cons];exact⟨h2.1,by omega⟩
theorem T7{s:cY}{l:List aQ.D}(h:oW s=some l):jX l=true:=by
 cases s with
 |nil=>rw[oW]at h;cases h
 |cons y t=>
  rw[oW]at h;split at h
  ·obtain⟨k,_,h⟩:=bb h;split at h
   ·rename_i hf;rw[←aX h];exact hf
   ·cases h
  ·cases h
theorem aun{tn:Int}(i:Nat)(e:cY){p:Fold}(h:f' p.1=true):f' (vd tn i e p).1=true∧(vd tn i e p).2.length≤p.2.length+6:=by
 unfold vd
 cases hr:oW e with
 |none=>exact⟨h,by simp only;omega⟩
 |some l=>have h1:=aff (tn:=tn) (ix:=(i:Int)+1) l (tick p.1,p.2) (TQ h);have h2:=DY (T7 hr);exact⟨h1.1,by have:=h1.2;simp only at this⊢;omega⟩
theorem Lj(tn:Int)(l:List an.D):∀n,f' (e8 tn l n).1=true∧(e8 tn l n).2.length≤6*n
 |0=>⟨atA,by simp[e8]⟩
 |n+1=>by obtain⟨h1,h2⟩:=Lj tn l n;have h3:=aun (tn:=tn) n (fs (I an l n)) h1;rw[e8];exact⟨h3.1,by omega⟩
theorem afg(m:Nat)(a b c d e f g):(qN (m+1)).bn a b c d e f g=Ju (qN m) a b c d e f g:=rfl
theorem afh(m:Nat)(a b c d e f g h i):(qN (m+1)).dd a b c d e f g h i=Jv (qN m) a b c d e f g h i:=rfl
theorem auo(L:List an.D)(tn n:Int)(i:Nat)(hi:i≤1000)(z:c8)(l:List aQ.D)(hl:l.length≤10):∀(r m k:Nat) (p:Fold),k+r=l.length→r<m→f' p.1=true→p.2.length+r≤100000 →
  ∃hP,(qN m).dd L tn n (i:Int) (k:Int) z p.1 p.2 l=(qN (m-r-1)).bn L tn n ((i:Int)+1) hP ((l.drop k).foldl (iC tn ((i:Int)+1)) p).1 ((l.drop k).foldl (iC tn ((i:Int)+1)) p).2:=by
 intro r
 induction r with
 |zero=>intro m k p hk hm av hb;obtain⟨m,rfl,_⟩:=fuel (show 0<m by omega);refine⟨z,?_⟩;rw[afh];unfold Jv;rw[cl (by omega),List.drop_of_length_le (by omega),cH (a:=(i:Int)+1) (by omega) (by omega)];rfl
 |succ r ih=>
  intro m k p hk hm av hb;obtain⟨m,rfl,_⟩:=fuel (show 0<m by omega);have iU:k<l.length:=by omega
  have hs:=T6 (tn:=tn) (ix:=(i:Int)+1) (I aQ l k) av;obtain⟨hP,hz⟩:=ih m (k+1) (iC tn ((i:Int)+1) p (I aQ l k)) (by omega) (by omega) hs.1 (by omega);refine⟨hP,?_⟩;rw[drop_cons iU,List.foldl_cons,show m+1-(r+1)-1=m-r-1 by omega,←hz,afh];unfold Jv;rw[bN iU,bf iU,cH (a:=(k:Int)+1) (by omega) (by omega),cH (a:=(i:Int)+1) (by omega) (by omega)];simp only[cond_true,al,Nat.zero_add];by_cases ht:x8 (I aQ l k)=tn
  ·rw[show((I aQ l k).1 != tn)=false from eA ht];simp only[cond_false];obtain⟨e1,e2,e3⟩:=T5 (t:=p.1) (jY (I aQ l k)) (jZ (I aQ l k)) (I aQ l k).2.2.2.1 ((i:Int)+1) av;rw[show se (p.1,(I aQ l k).2.1,(I aQ l k).2.2.1,(I aQ l k).2.2.2.1,(i:Int)+1,())=_ from e1];simp only[al];rw[cc (by simp only[List.length_cons,List.length_nil];omega)];have kz:iC tn ((i:Int)+1) p (I aQ l k)=((iS p.1 (jY (I aQ l k)) (jZ (I aQ l k)) (I aQ l k).2.2.2.1 ((i:Int)+1)).1,if(iS p.1 (jY (I aQ l k)) (jZ (I aQ l k)) (I aQ l k).2.2.2.1 ((i:Int)+1)).2.2 then p.2++[(jY (I aQ l k),jZ (I aQ l k),(I aQ l k).2.2.2.1,(i:Int)+1,(iS p.1 (jY (I aQ l k)) (jZ (I aQ l k)) (I aQ l k).2.2.2.1 ((i:Int)+1)).2.1,())] else p.2):=by unfold iC;rw[if_pos ht]
   rw[kz];unfold Y1 Y2 Y3;rw[cH (a:=(k:Int)+1) (by omega) (by omega)]
   cases (iS p.1 (jY (I aQ l k)) (jZ (I aQ l k)) (I aQ l k).2.2.2.1 ((i:Int)+1)).2.2 with
   |true=>simp only[cond_true,if_true,px,Bs];rfl
   |false=>simp only[cond_false,Bool.false_eq_true,if_false,px,Bs];rfl
  ·rw[show((I aQ l k).1 != tn)=true from dv ht];have kz:iC tn ((i:Int)+1) p (I aQ l k)=p:=by unfold iC;rw[if_neg ht]
   rw[kz];rfl
theorem aup(L:List an.D)(tn:Int)(n:Nat)(hn:n≤L.length)(v':L.length≤1000):QT (L,tn,(n:Int),())=some ((e8 tn L n).1,(e8 tn L n).2,()):=by
 show Jt (qN aK) L tn (n:Int)=_;unfold Jt;rw[atC];simp only[al]
 have key:∀(r m i:Nat) (z:c8),i+r=n→20*r<m→(qN m).bn L tn (n:Int) (i:Int) z (e8 tn L i).1 (e8 tn L i).2=some ((e8 tn L n).1,(e8 tn L n).2,()):=by
  intro r
  induction r with
  |zero=>intro m i z hi hm;obtain⟨m,rfl,_⟩:=fuel (show 0<m by omega);rw[afg];unfold Ju;rw[decide_eq_false (by omega),show i=n by omega];rfl
  |succ r ih=>
   intro m i z hi hm;obtain⟨m,rfl,_⟩:=fuel (show 0<m by omega);have bm:i<L.length:=by omega
   rw[afg];unfold Ju;rw[decide_eq_true (by omega),bf bm,cH (a:=(i:Int)+1) (by omega) (by omega)];simp only[cond_true,al];rw[aul];simp only[al];have cp:=Lj tn L i
   cases hr:oW (I an L i).2.1 with
   |none=>
    have e:e8 tn L (i+1)=e8 tn L i:=by rw[e8];unfold vd fs;rw[hr]
    have:=ih m (i+1) z (by omega) (by omega);rw[e]at this;exact this
   |some l=>
    have bj:=DY (T7 hr);simp only[Ay,Bool.not_true,cond_false];rw[atz (nR cp.1).2.1];simp only[al];obtain⟨hP,hz⟩:=auo L tn (n:Int) i (by omega) z l (by omega) l.length m 0 (tick (e8 tn L i).1,(e8 tn L i).2) (by omega) (by omega) (TQ cp.1) (by have:=cp.2;simp only;omega);have e:e8 tn L (i+1)=l.foldl (iC tn ((i:Int)+1)) (tick (e8 tn L i).1,(e8 tn L i).2):=by rw[e8];unfold vd fs;rw[hr]
    refine Eq.trans hz ?_;rw[List.drop_zero,←e];exact ih _ (i+1) hP (by omega) (by omega)
 exact key n aK 0 _ (by omega) (by rw[fA];omega)
theorem afi(m:Nat)(a b c d e f g):(pM (m+1)).dh a b c d e f g=JL (pM m) a b c d e f g:=rfl
theorem afj(m:Nat)(a b c d e f g h i j k):(pM (m+1)).eL a b c d e f g h i j k=JM (pM m) a b c d e f g h i j k:=rfl
theorem auq(L:List an.D)(tn n:Int)(i:Nat)(hi:i≤1000)(z:c8)(l:List aQ.D)(hl:l.length≤10):∀(r m k:Nat) (p:Fold),k+r=l.length→r<m→f' p.1=true→p.2.length+r≤100000 →
  (pM m).eL tn (i:Int) L n (i:Int) (l.length:Int) (k:Int) z p.1 p.2 l=(pM (m-r-1)).dh tn L n ((i:Int)+1) z ((l.drop k).foldl (iC tn ((i:Int)+1)) p).1 ((l.drop k).foldl (iC tn ((i:Int)+1)) p).2:=by
 intro r
 induction r with
 |zero=>intro m k p hk hm av hb;obtain⟨m,rfl,_⟩:=fuel (show 0<m by omega);rw[afj];unfold JM;rw[cl (by omega),List.drop_of_length_le (by omega),cH (a:=(i:Int)+1) (by omega) (by omega)];rfl
 |succ r ih=>
  intro m k p hk hm av hb;obtain⟨m,rfl,_⟩:=fuel (show 0<m by omega);have iU:k<l.length:=by omega
  have hs:=T6 (tn:=tn) (ix:=(i:Int)+1) (I aQ l k) av;have hz:=ih m (k+1) (iC tn ((i:Int)+1) p (I aQ l k)) (by omega) (by omega) hs.1 (by omega);rw[drop_cons iU,List.foldl_cons,show m+1-(r+1)-1=m-r-1 by omega,←hz,afj];unfold JM;rw[bN iU,bf iU,cH (a:=(k:Int)+1) (by omega) (by omega),cH (a:=(i:Int)+1) (by omega) (by omega)];simp only[cond_true,al,Nat.zero_add];by_cases ht:x8 (I aQ l k)=tn
  ·rw[show((I aQ l k).1 != tn)=false from eA ht];simp only[cond_false];obtain⟨e1,e2,e3⟩:=T5 (t:=p.1) (jY (I aQ l k)) (jZ (I aQ l k)) (I aQ l k).2.2.2.1 ((i:Int)+1) av;rw[show zn (p.1,(I aQ l k).2.1,(I aQ l k).2.2.1,(I aQ l k).2.2.2.1,(i:Int)+1,())=_ from e2];simp only[al];rw[cc (by simp only[List.length_cons,List.length_nil];omega)];have kz:iC tn ((i:Int)+1) p (I aQ l k)=((iS p.1 (jY (I aQ l k)) (jZ (I aQ l k)) (I aQ l k).2.2.2.1 ((i:Int)+1)).1,if(iS p.1 (jY (I aQ l k)) (jZ (I aQ l k)) (I aQ l k).2.2.2.1 ((i:Int)+1)).2.2 then p.2++[(jY (I aQ l k),jZ (I aQ l k),(I aQ l k).2.2.2.1,(i:Int)+1,(iS p.1 (jY (I aQ l k)) (jZ (I aQ l k)) (I aQ l k).2.2.2.1 ((i:Int)+1)).2.1,())] else p.2):=by unfold iC;rw[if_pos ht]
   rw[kz];unfold Y';rw[cH (a:=(k:Int)+1) (by omega) (by omega)]
   cases (iS p.1 (jY (I aQ l k)) (jZ (I aQ l k)) (I aQ l k).2.2.2.1 ((i:Int)+1)).2.2 with
   |true=>rfl
   |false=>rfl
  ·rw[show((I aQ l k).1 != tn)=true from dv ht];have kz:iC tn ((i:Int)+1) p (I aQ l k)=p:=by unfold iC;rw[if_neg ht]
   rw[kz];rfl
theorem aur{t:ad}{l:List t.D}{n i:Nat}(hi:i<n)(hn:n≤l.length):I t (l.take n) i=I t l i:=by rw[c3 (by rw[List.length_take];omega),c3 (by omega),List.getElem_take]
theorem aus(L:List an.D)(tn:Int)(n:Nat)(hn:n≤L.length)(v':L.length≤1000)(hs:∀i,i<L.length→(fs (I an L i)).length≤1048576)(z:c8):
  (pM aK).dh tn (part L 0 (n-0)) (((part L 0 (n-0)).length:Nat):Int) 0 z DJ []=some ((e8 tn L n).1,(e8 tn L n).2,true,()):=by
 rw[Nat.sub_zero,pS];have hlen:(L.take n).length=n:=by rw[List.length_take];omega
 rw[hlen]
 have key:∀(r m i:Nat),i+r=n→20*r<m→(pM m).dh tn (L.take n) (n:Int) (i:Int) z (e8 tn L i).1 (e8 tn L i).2=some ((e8 tn L n).1,(e8 tn L n).2,true,()):=by
  intro r
  induction r with
  |zero=>intro m i hi hm;obtain⟨m,rfl,_⟩:=fuel (show 0<m by omega);rw[afi];unfold JL;rw[decide_eq_false (by omega),show i=n by omega];rfl
  |succ r ih=>
   intro m i hi hm;obtain⟨m,rfl,_⟩:=fuel (show 0<m by omega);have bm:i<n:=by omega
   rw[afi];unfold JL;rw[decide_eq_true (by omega),hlen,bf bm,cH (a:=(i:Int)+1) (by omega) (by omega)];simp only[cond_true,al];rw[aur bm hn,show JJ ((I an L i).2.1,())=_ from aud _ (hs i (by omega))];simp only[al];have cp:=Lj tn L i
   cases hr:oW (I an L i).2.1 with
   |none=>
    have e:e8 tn L (i+1)=e8 tn L i:=by rw[e8];unfold vd fs;rw[hr]
    have:=ih m (i+1) (by omega) (by omega);rw[e]at this;exact this
   |some l=>
    have bj:=DY (T7 hr);simp only[Ay,Bool.not_true,cond_false];rw[aty (nR cp.1).2.1];simp only[al];have hz:=auq (L.take n) tn (n:Int) i (by omega) z l (by omega) l.length m 0 (tick (e8 tn L i).1,(e8 tn L i).2) (by omega) (by omega) (TQ cp.1) (by have:=cp.2;simp only;omega);have e:e8 tn L (i+1)=l.foldl (iC tn ((i:Int)+1)) (tick (e8 tn L i).1,(e8 tn L i).2):=by rw[e8];unfold vd fs;rw[hr]
    refine Eq.trans hz ?_;rw[List.drop_zero,←e];exact ih _ (i+1) (by omega) (by omega)
 exact key n aK 0 (by omega) (by rw[fA];omega)
theorem aut(L:List an.D)(tn k:Int)(hs:∀i,i<L.length→(fs (I an L i)).length≤1048576):Q7 (L,tn,k,()) =
  (if L.length≤400∧(0≤tn∧tn≤2)∧(0≤k∧k≤(L.length:Int)) then some ((e8 tn L k.toNat).1,(e8 tn L k.toNat).2,true,()) else some (((0,([]:List J.D),()),0,([]:List aJ.D),([]:List aZ.D),()),([]:List fy.D),false,())):=by
 show JK (pM aK) L tn k=_;unfold JK;rw[jL,jL,atB];simp only[al];by_cases h1:L.length≤400
 case neg=>rw[decide_eq_true (by omega),if_neg (fun h=>h1 h.1)];rfl
 rw[decide_eq_false (by omega)];simp only[cond_false];by_cases h2:0≤tn∧tn≤2
 case neg=>rw[show cA tn 0 2=false from Bool.eq_false_iff.2 fun h=>h2 (cR.1 h),if_neg (fun h=>h2 h.2.1)];rfl
 rw[cR.2 h2];simp only[Bool.not_true,cond_false];by_cases h3:0≤k∧k≤(L.length:Int)
 case neg=>rw[show cA k 0 (L.length:Int)=false from Bool.eq_false_iff.2 fun h=>h3 (cR.1 h),if_neg (fun h=>h3 h.2.2)];rfl
 rw[cR.2 h3,if_pos ⟨h1,h2,h3⟩];simp only[Bool.not_true,cond_false];obtain⟨n,rfl⟩:∃n:Nat,k=(n:Int):=⟨k.toNat,by omega⟩
 rw[show dj L.length 0 (n:Int)=some (0,n) from jn (Nat.zero_le _) (by omega)];simp only[al,Int.toNat_natCast];exact aus L tn n (by omega) (by omega) hs _
theorem auu(tn:Int):QC (tn,())=some (cA tn 0 2,()):=by
 show QB tn=_;unfold QB cA;by_cases h:tn≥0
 ·rw[decide_eq_true h,show decide (tn<3)=decide (tn≤2) from by rw[decide_eq_decide];omega];rfl
 ·rw[decide_eq_false h];rfl
theorem auv(L:List an.D)(h:ad.cost (.sl an) L≤1048576):∀i,i<L.length→(fs (I an L i)).length≤1048576:=by intro i hi;have:=x2 (t:=an) hi;rw[ati]at this;omega
theorem afk{t:ad}(x:t.D)(h:t.cost x≤3100000)(hl:t.jk≤1000):t.wt x≤10000000000:=by have h1:=ad.Aq t x;have h2:t.jk*(1+t.cost x)≤1000*3100001:=Nat.mul_le_mul hl (by omega);omega
theorem auw{t:c8}(h:f' t=true):ad.cost aS t≤100000:=by
 obtain⟨s6,_,p1,hvo⟩:=nR h;have h1:=adW (CU.1 hvo).sz;have h2:=DC p1;have h3:=Ty s6;have h4:=aeH t.2.2.2.1 fun s hs=>Nat.le_trans (TJ (TI h hs)) (by decide)
 have a6:t.2.2.2.1.length*1001≤3*1001:=Nat.mul_le_mul_right _ h3;rw[Tz,TH];exact Nat.le_trans (Nat.add_le_add h1 (Nat.add_le_add h2 (Nat.le_trans h4 a6))) (by decide)
def DZ:c8:=((0,([]:List J.D),()),0,([]:List aJ.D),([]:List aZ.D),())
theorem T8:ad.cost aS DZ≤100000:=by rw[Tz,TH,Sf,qW];simp[DZ]
theorem auy(L:List an.D)(tn k:Int)(hc:ad.cost (.sl an) L≤1048576):∃r b,JS (L,tn,k,())=some (r,b,())∧Cr (L,tn,k,())=some (r,b,())∧ad.cost aS r≤100000:=by
 have S:JS (L,tn,k,())=Rc L tn k:=rfl;have DG:Cr (L,tn,k,())=Rb L tn k:=rfl;rw[S,DG];unfold Rc Rb;rw[aut L tn _ (auv L hc),auu,j_];by_cases h1:L.length≤400
 case neg=>rw[decide_eq_true (by omega),if_neg (fun h=>h1 h.1)];exact⟨DZ,false,rfl,rfl,T8⟩
 rw[decide_eq_false (by omega)];simp only[cond_false,al];by_cases h2:0≤tn∧tn≤2
 case neg=>rw[show cA tn 0 2=false from Bool.eq_false_iff.2 fun h=>h2 (cR.1 h),if_neg (fun h=>h2 h.2.1)];exact⟨DZ,false,rfl,rfl,T8⟩
 rw[cR.2 h2];simp only[Bool.not_true,cond_false];by_cases h3:0≤k∧k≤(L.length:Int)
 case neg=>rw[show cA k 0 (L.length:Int)=false from Bool.eq_false_iff.2 fun h=>h3 (cR.1 h),if_neg (fun h=>h3 h.2.2)];exact⟨DZ,false,rfl,rfl,T8⟩
 rw[cR.2 h3,if_pos ⟨h1,h2,h3⟩];obtain⟨n,rfl⟩:∃n:Nat,k=(n:Int):=⟨k.toNat,by omega⟩
 rw[aup L tn n (by omega) (by omega),Int.toNat_natCast];exact⟨_,_,rfl,rfl,auw (Lj tn L n).1⟩
theorem aq6(L:List an.D)(tn k:Int)(hw:ad.fm (.sl an) L):Zf (L,tn,k,())=some (true,()):=by
 show Rd L tn k=_;unfold Rd;rw[ar7 L 1048576 (by omega) (by omega) hw];simp only[al];by_cases g1:((ad.cost (.sl an) L:Nat):Int)≤1048576
 case neg=>rw[Dr g1];rfl
 rw[KZ g1,mO (by omega)];simp only[cond_false];have c1:ad.cost (.sl an) L≤1048576:=by omega
 obtain⟨r,b,hs,hi,fV⟩:=auy L tn k c1;have oh:=afk (t:=.sl an) L (by omega) (by decide);have ck:=afk (t:=aS) r (by omega) (by decide);obtain⟨k1,Bj,q9,v1,jw⟩:=asc L 1 (by omega) (by omega) (by omega);have eD:=ad.h9 _ v1;obtain⟨k2,u2,yY,v2,nZ,_⟩:=asD r 1 (by omega) (by omega) (by omega);have fb:=asF v2;have hh:Ch (((r.1.1,u2.1.2.1,()),r.2.1,u2.2.2.1,u2.2.2.2.1,()),1,())=some (k2,()):=asQ ((r.1.1,u2.1.2.1,()),r.2.1,u2.2.2.1,u2.2.2.2.1,()) 1 k2 (by omega) (by omega) v2;have c2:=aso r (by omega);have eb:=asa L (by omega);have kn:(b==b)=true:=by cases b<;>rfl
 rw[ar_ L c1];simp only[al];rw[hs];simp only[al];rw[hi];simp only[al];rw[c2];simp only[al,Bool.not_true,cond_false];rw[kn];simp only[Bool.not_true,cond_false];rw[eb];simp only[al,Bool.not_true,cond_false];rw[q9];simp only[al];rw[mO (by omega)];simp only[cond_false];rw[yY];simp only[al];rw[hh];simp only[al];rw[mO (by omega)];simp only[cond_false,bne_self_eq_false]
end Go.LM.ks
