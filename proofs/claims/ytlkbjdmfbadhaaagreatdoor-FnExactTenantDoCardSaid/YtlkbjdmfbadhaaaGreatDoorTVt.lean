/- Tenants: both sides come to the same; the law. Conditions: each theorem's own hypotheses. -/
import Derived.Test.YtlkbjdmfbadhaaaGreatDoorTVe
import Derived.Test.YtlkbjdmfbadhaaaGreatDoorTVp
set_option linter.unusedVariables false
set_option linter.unusedSimpArgs false
namespace Go.LM.jH
def ti(r:aA.D):Bool:=cg r.1 0 200&&decide ((r.2.1.length:Int)≤400)
theorem ap8(r:aA.D):Fq (r,())=some (ti r,()):=by
 show MV r=_
 unfold MV ti
 simp only [gU,ak,ky,AY]
theorem ap9(r:aA.D):C_ (r,())=some (ti r,()):=by
 show Lm r=_
 unfold Lm ti
 simp only [gE,ak,ky,AY]
def yA(l:List aE.D)(i:Nat):Bool :=
 cg (J aE l i).1 1 100000 && !(decide (0<i)&&decide ((J aE l (i-1)).1 >(J aE l i).1))&&cg (J aE l i).2.1 1 3&&cg (J aE l i).2.2.1 1 1000000&&cg (J aE l i).2.2.2.1 1 22&&cg (J aE l i).2.2.2.2.1 0 200
def i'(l:List aE.D):Bool:=eJ l.length (yA l)&&decide ((l.length:Int)≤20)
theorem aa_(l:List aE.D):Fp (l,())=some (i' l,()):=by
 show Fm (vf aK) l=_
 unfold Fm i'
 by_cases hl:(l.length:Int)≤20
 case neg=>rw [decide_eq_true (by omega),decide_eq_false hl,Bool.and_false];rfl
 rw [decide_eq_false (by omega),decide_eq_true hl]
 simp only [cond_false]
 refine ns l.length (by omega) (yA l) true (fun m i=>vf m l i) ?_ ?_
 ·intro m _
  simp only [vf,Fo]
  rw [b0 (Nat.le_refl _)];rfl
 ·intro m i hi _ hw
  simp only [vf,Fo,hw]
  rw [bx hi,ba hi]
  simp only [cond_true,ak,gU,yA,vX,kx,cond_false,Bool.false_and]
  cases i with
  | zero =>
   simp only [vZ,Nat.lt_irrefl,decide_false,cond_false,cond_true]
  | succ i =>
   rw [vY hi (by omega)]
   simp only [v7,Nat.zero_lt_succ,decide_true,cond_true,ak,Nat.add_sub_cancel]
theorem aa'(l:List aE.D)(hl:l.length≤1048576):Dc (l,())=some (i' l,()):=by
 show Da (uy aK) l=_
 unfold Da i'
 refine ns l.length (by omega) (yA l) _ (fun m i=>uy m l l (l.length:Int) i) ?_ ?_
 ·intro m _
  simp only [uy,Db]
  rw [b0 (Nat.le_refl _)];rfl
 ·intro m i hi _ hw
  simp only [uy,Db,hw]
  rw [bx hi,ba hi]
  simp only [cond_true,ak,gE,yA,vX,kx,cond_false,Bool.false_and]
  cases i with
  | zero =>
   simp only [vZ,Nat.lt_irrefl,decide_false,cond_false,cond_true]
  | succ i =>
   rw [vY hi (by omega)]
   simp only [v7,Nat.zero_lt_succ,decide_true,cond_true,ak,Nat.add_sub_cancel]
abbrev dA:Type:=aM.D
def lN(l:List aO.D)(i:Nat):Bool :=
 cg (J aO l i).1 1 3 && !(decide (0<i)&&decide ((J aO l (i-1)).1≥(J aO l i).1))&&cg (J aO l i).2.1 1 1000000&&cg (J aO l i).2.2.1 1 100000&&ti (J aO l i).2.2.2.1
def jx(t:dA):Bool:=eJ t.2.2.2.1.length (lN t.2.2.2.1)&&(cg t.2.1 0 30&&(i' t.2.2.1&&jq t.1))
theorem IQ{l:List aO.D}(h:eJ l.length (lN l)=true):l.length≤3:=by
 have h:=ka.1 h
 have key:∀i,i<l.length→(i:Int)+1≤(J aO l i).1:=by
  intro i
  induction i with
  | zero =>
   intro hi
   have:=h 0 hi
   unfold lN at this
   simp only [Bool.and_eq_true,dm] at this
   have:=this.1.1.1.1.1
   omega
  | succ i ih =>
   intro hi
   have h1:=ih (by omega)
   have:=h (i+1) hi
   unfold lN at this
   simp only [Bool.and_eq_true,Bool.not_eq_true',Bool.and_eq_false_iff,decide_eq_false_iff_not] at this
   have h2:=this.1.1.1.2
   rcases h2 with h2 | h2
   ·omega
   ·rw [Nat.add_sub_cancel] at h2
    have h2:(J aO l i).1<(J aO l (i+1)).1:=Int.not_le.1 h2
    exact(by intro a b h1 h2;omega:∀a b:Int,(i:Int)+1≤a→a<b→((i+1:Nat):Int)+1≤b) _ _ h1 h2
 rcases Nat.lt_or_ge 3 l.length with h3 | h3
 ·have h4:=key 3 h3
  have:=h 3 h3
  unfold lN at this
  simp only [Bool.and_eq_true,dm] at this
  have:=this.1.1.1.1.2
  omega
 ·exact h3
theorem IS(t:dA):aa.cost aM t=aa.cost af t.1 +(aa.cost (.sl aE) t.2.2.1+aa.cost (.sl aO) t.2.2.2.1):=by
 simp only [fo,fp,fr,fs,Nat.zero_add,Nat.add_zero]
theorem ap_(t:dA)(hc:aa.cost aM t≤1048576):MW (t,())=some (jx t,()):=by
 rw [IS] at hc
 show Ft (sm aK) t=_
 unfold Ft
 rw [alz _ (Zk (by omega)),aa_]
 simp only [gU,ak]
 have hk:t.2.2.2.1.length≤3→sm aK 0 t=some (eJ t.2.2.2.1.length (lN t.2.2.2.1)&&true,()):=by
  intro hl
  refine ns t.2.2.2.1.length (by omega) (lN t.2.2.2.1) true (fun m i=>sm m i t) ?_ ?_
  ·intro m _
   simp only [sm,Fu]
   rw [b0 (Nat.le_refl _)];rfl
  ·intro m i hi _ hw
   simp only [sm,Fu,hw]
   rw [bx hi,ba hi]
   simp only [cond_true,ak,gU]
   rw [ap8]
   simp only [ak,lN,vX,kx,cond_false,Bool.false_and]
   cases i with
   | zero =>
    simp only [vZ,Nat.lt_irrefl,decide_false,cond_false,cond_true]
   | succ i =>
    rw [vY hi (by omega)]
    simp only [v7,Nat.zero_lt_succ,decide_true,cond_true,ak,Nat.add_sub_cancel]
 unfold jx
 by_cases hl:t.2.2.2.1.length≤3
 ·rw [hk hl,decide_eq_false (by omega)]
  cases jq t.1 <;> cases cg t.2.1 0 30 <;> cases i' t.2.2.1 <;> simp
 ·rw [decide_eq_true (by omega)]
  have:eJ t.2.2.2.1.length (lN t.2.2.2.1)=false:=by
   rw [← Bool.not_eq_true];exact fun h=>hl (IQ h)
  rw [this]
  cases jq t.1 <;> cases cg t.2.1 0 30 <;> cases i' t.2.2.1 <;> simp
theorem ap'(t:dA)(hc:aa.cost aM t≤1048576):Lx (t,())=some (jx t,()):=by
 rw [IS] at hc
 have h1:=iU (t:=aE) t.2.2.1
 have h2:=iU (t:=aO) t.2.2.2.1
 show DN (uN aK) t=_
 unfold DN jx
 refine ns t.2.2.2.1.length (by omega) (lN t.2.2.2.1) _ (fun m i=>uN m t.2.2.2.1 (t.2.2.2.1.length:Int) i t) ?_ ?_
 ·intro m _
  simp only [uN,DO]
  rw [b0 (Nat.le_refl _),alA _ (Zk (by omega)),aa' _ (by omega)]
  simp only [gE,ak,cond_false,ky,AY]
 ·intro m i hi _ hw
  simp only [uN,DO,hw]
  rw [bx hi,ba hi]
  simp only [cond_true,ak,gE]
  rw [ap9]
  simp only [ak,lN,vX,kx,cond_false,Bool.false_and]
  cases i with
  | zero =>
   simp only [vZ,Nat.lt_irrefl,decide_false,cond_false,cond_true]
  | succ i =>
   rw [vY hi (by omega)]
   simp only [v7,Nat.zero_lt_succ,decide_true,cond_true,ak,Nat.add_sub_cancel]
theorem aqa{t:dA}(h:jx t=true)(hn:t.2.2.1.length≤1048576)(hs:t.2.2.2.1.length≤1048576):LA (t,())=some (t,()):=by
 have hv:jq t.1=true:=by unfold jx at h;simp only [Bool.and_eq_true] at h;exact h.2.2.2
 show Ly t=_
 unfold Ly
 rw [(Ih.1 hv).aaZ]
 simp only [ak]
 rw [ck (by simp;omega),ck (by simp;omega)]
 rfl
theorem aqb{t:dA}(h:jx t=true)(hn:t.2.2.1.length≤1048576)(hs:t.2.2.2.1.length≤1048576):Az (t,())=some (t,()):=by
 have hv:jq t.1=true:=by unfold jx at h;simp only [Bool.and_eq_true] at h;exact h.2.2.2
 show NH t=_
 unfold NH
 rw [(Ih.1 hv).aoa]
 simp only [ak]
 rw [ck (by simp;omega),ck (by simp;omega)]
 rfl
def lO(k:Int):aP.D:=if k=1 then(0,0,([]:List Int),()) else if k=2 then(2,2,[5],()) else if k=3 then(3,2,([]:List Int),()) else(1000,1000,([]:List Int),())
theorem aqc(k:Int):LL (k,())=some (lO k,()):=by
 show LK k=_
 unfold LK lO
 by_cases h1:k=1
 ·rw [cA h1,if_pos h1];rfl
 by_cases h2:k=2
 ·rw [bV h1,if_neg h1,cA h2,if_pos h2];rfl
 by_cases h3:k=3
 ·rw [bV h1,if_neg h1,bV h2,if_neg h2,cA h3,if_pos h3];rfl
 ·rw [bV h1,if_neg h1,bV h2,if_neg h2,bV h3,if_neg h3];rfl
theorem aqd(k:Int):M4 (k,())=some (lO k,()):=by
 show M3 k=_
 unfold M3 lO
 by_cases h1:k=1
 ·rw [cA h1,if_pos h1];rfl
 by_cases h2:k=2
 ·rw [bV h1,if_neg h1,cA h2,if_pos h2];rfl
 by_cases h3:k=3
 ·rw [bV h1,if_neg h1,bV h2,if_neg h2,cA h3,if_pos h3];rfl
 ·rw [bV h1,if_neg h1,bV h2,if_neg h2,bV h3,if_neg h3];rfl
def h6(l:List aO.D)(c:Int):Nat:=(l.takeWhile fun s=>decide (s.1<c)).length
def ja(l:List aO.D)(c:Int):Bool:=decide (h6 l c<l.length)&&(J aO l (h6 l c)).1==c
theorem Bt(l:List aO.D)(c:Int):h6 l c≤l.length:=by
 unfold h6
 exact(List.takeWhile_sublist _).length_le
theorem Q8{α : Type}(p : α → Bool):∀(l:List α) (i:Nat) (h:i<l.length),i≤(l.takeWhile p).length→(p l[i]=true→i+1≤(l.takeWhile p).length)∧(p l[i]=false→(l.takeWhile p).length=i)
 | [],i,h,_=>by simp at h
 | y :: l,0,h,hi=>by
  constructor
  ·intro av
   have av:p y=true:=av
   rw [List.takeWhile_cons,av];simp
  ·intro av
   have av:p y=false:=av
   rw [List.takeWhile_cons,av];simp
 | y :: l,i+1,h,hi=>by
  by_cases a_:p y=true
  ·rw [List.takeWhile_cons,if_pos a_] at hi ⊢
   rw [List.length_cons] at hi ⊢
   have h1:=Q8 p l i (by rw [List.length_cons] at h;omega) (by omega)
   constructor
   ·intro av
    have:=h1.1 av
    omega
   ·intro av
    have:=h1.2 av
    omega
  ·rw [List.takeWhile_cons,if_neg a_] at hi
   simp at hi
theorem aba(t:dA)(c:Int)(hl:t.2.2.2.1.length≤1048576):Fw (t,c,())=some ((h6 t.2.2.2.1 c:Int),ja t.2.2.2.1 c,()):=by
 have key:∀(r m i:Nat),i+r=t.2.2.2.1.length→i≤h6 t.2.2.2.1 c→r<m→xT m c (i:Int) t=some ((h6 t.2.2.2.1 c:Int),ja t.2.2.2.1 c,()):=by
  intro r
  induction r with
  | zero =>
   intro m i hi hs hm
   obtain ⟨m,rfl,_⟩:=fuel (show 0<m by omega)
   have h1:=Bt t.2.2.2.1 c
   have e:h6 t.2.2.2.1 c=t.2.2.2.1.length:=by omega
   show xS (xT m) c (i:Int) t=_
   unfold xS
   rw [b0 (by omega)]
   unfold ja
   rw [e,decide_eq_false (by omega)]
   rfl
  | succ r ih =>
   intro m i hi hs hm
   obtain ⟨m,rfl,_⟩:=fuel (show 0<m by omega)
   have bN:i<t.2.2.2.1.length:=by omega
   show xS (xT m) c (i:Int) t=_
   unfold xS
   rw [bx bN,ba bN]
   simp only [cond_true,ak]
   have hst:=Q8 (fun s:aO.D=>decide (s.1<c)) t.2.2.2.1 i bN hs
   rw [← di (t:=aO) bN] at hst
   by_cases bY:(J aO t.2.2.2.1 i).1<c
   ·rw [show decide ((J aO t.2.2.2.1 i).1≥c)=false from decide_eq_false (Int.not_le.2 bY)]
    simp only [cond_false]
    rw [ed (a:=(i:Int)+1) (by omega) (by omega)]
    exact ih m (i+1) (by omega) (hst.1 (decide_eq_true bY)) (by omega)
   ·rw [show decide ((J aO t.2.2.2.1 i).1≥c)=true from decide_eq_true (Int.not_lt.1 bY)]
    simp only [cond_true]
    have e:h6 t.2.2.2.1 c=i:=hst.2 (decide_eq_false bY)
    unfold ja
    rw [e,decide_eq_true bN,Bool.true_and]
 exact key t.2.2.2.1.length aK 0 (by omega) (Nat.zero_le _) (by rw [fL];omega)
theorem abb(t:dA)(c:Int)(hl:t.2.2.2.1.length≤1048576):DU (t,c,())=some ((h6 t.2.2.2.1 c:Int),ja t.2.2.2.1 c,()):=by
 have key:∀(r m i:Nat),i+r=t.2.2.2.1.length→i≤h6 t.2.2.2.1 c→r<m→xL m t c (i:Int)=some ((h6 t.2.2.2.1 c:Int),ja t.2.2.2.1 c,()):=by
  intro r
  induction r with
  | zero =>
   intro m i hi hs hm
   obtain ⟨m,rfl,_⟩:=fuel (show 0<m by omega)
   have h1:=Bt t.2.2.2.1 c
   have e:h6 t.2.2.2.1 c=i:=by omega
   show xK (xL m) t c (i:Int)=_
   unfold xK
   rw [b0 (by omega)]
   unfold ja
   rw [e,decide_eq_false (by omega)]
   rfl
  | succ r ih =>
   intro m i hi hs hm
   obtain ⟨m,rfl,_⟩:=fuel (show 0<m by omega)
   have bN:i<t.2.2.2.1.length:=by omega
   show xK (xL m) t c (i:Int)=_
   unfold xK
   rw [bx bN,ba bN]
   simp only [cond_true,ak]
   have hst:=Q8 (fun s:aO.D=>decide (s.1<c)) t.2.2.2.1 i bN hs
   rw [← di (t:=aO) bN] at hst
   by_cases bY:(J aO t.2.2.2.1 i).1<c
   ·rw [decide_eq_true bY]
    simp only [cond_true]
    rw [ed (a:=(i:Int)+1) (by omega) (by omega)]
    exact ih m (i+1) (by omega) (hst.1 (decide_eq_true bY)) (by omega)
   ·rw [decide_eq_false bY]
    simp only [cond_false]
    have e:h6 t.2.2.2.1 c=i:=hst.2 (decide_eq_false bY)
    unfold ja
    rw [e,decide_eq_true bN,Bool.true_and]
 exact key t.2.2.2.1.length aK 0 (by omega) (Nat.zero_le _) (by rw [fL];omega)
def oH(l:List aO.D)(c:Int):aO.D:=cond (ja l c) (J aO l (h6 l c)) (0,0,0,(0,([]:List UInt8),()),())
theorem yB{l:List aO.D}{c:Int}(h:ja l c=true):h6 l c<l.length:=by
 unfold ja at h
 rw [Bool.and_eq_true,decide_eq_true_eq] at h
 exact h.1
theorem aqe(t:dA)(c:Int)(hl:t.2.2.2.1.length≤1048576):LD (t,c,())=some (oH t.2.2.2.1 c,()):=by
 show LC t c=_
 unfold LC oH
 rw [abb t c hl]
 simp only [ak]
 cases h:ja t.2.2.2.1 c with
 | false=>rfl
 | true=>rw [ba (yB h)];rfl
theorem aqf(t:dA)(c:Int)(hl:t.2.2.2.1.length≤1048576):MY (t,c,())=some (oH t.2.2.2.1 c,()):=by
 show MX t c=_
 unfold MX oH
 rw [aba t c hl]
 simp only [ak]
 cases h:ja t.2.2.2.1 c with
 | false=>rfl
 | true=>rw [ba (yB h)];rfl
def fi(a b:Int):Int:=if b>a then b else a
def kh(f:Nat→Int)(a:Int):Nat→Int
 | 0=>a
 | n+1=>fi (kh f a n) (f n)
theorem aqg{x a b:Int} : x<fi a b↔x<a∨x<b:=by unfold fi;split <;> omega
theorem Q9{x a:Int}{f:Nat→Int} : ∀n,x<kh f a n↔x<a∨∃i,i<n∧x<f i
 | 0=>by simp [kh]
 | n+1=>by
  rw [kh,aqg,Q9 n]
  constructor
  ·rintro ((h | ⟨i,hi,h⟩) | h)
   ·exact .inl h
   ·exact .inr ⟨i,by omega,h⟩
   ·exact .inr ⟨n,by omega,h⟩
  ·rintro (h | ⟨i,hi,h⟩)
   ·exact .inl (.inl h)
   ·by_cases e:i=n
    ·subst e;exact .inr h
    ·exact .inl (.inr ⟨i,by omega,h⟩)
def mE(l:List aE.D)(i:Nat):Int:=(J aE l i).1
def mF(l:List aO.D)(i:Nat):Int:=(J aO l i).2.2.1
def rm(t:dA):Int:=kh (mF t.2.2.2.1) (kh (mE t.2.2.1) 0 t.2.2.1.length) t.2.2.2.1.length
theorem abc(m:Nat)(a b t):(nn (m+1)).k3 a b t=Fx (nn m) a b t:=rfl
theorem abd(m:Nat)(a b t):(nn (m+1)).cY a b t=Fy (nn m) a b t:=rfl
theorem aqh(t:dA)(hn:t.2.2.1.length≤1048576)(hl:t.2.2.2.1.length≤1048576):MZ (t,())=some (rm t,()):=by
 have cY:∀(r m i:Nat) (a:Int),i+r=t.2.2.2.1.length→r<m→(nn m).cY (kh (mF t.2.2.2.1) a i) (i:Int) t=some (kh (mF t.2.2.2.1) a t.2.2.2.1.length,()):=by
  intro r
  induction r with
  | zero =>
   intro m i a hi hm
   obtain ⟨m,rfl,_⟩:=fuel (show 0<m by omega)
   rw [abd]
   unfold Fy
   rw [b0 (by omega),show i=t.2.2.2.1.length by omega];rfl
  | succ r ih =>
   intro m i a hi hm
   obtain ⟨m,rfl,_⟩:=fuel (show 0<m by omega)
   have bN:i<t.2.2.2.1.length:=by omega
   rw [abd]
   unfold Fy
   rw [bx bN,ba bN,ed (a:=(i:Int)+1) (by omega) (by omega)]
   simp only [cond_true,ak]
   have:=ih m (i+1) a (by omega) (by omega)
   rw [kh,fi] at this
   show cond (decide (mF t.2.2.2.1 i>kh (mF t.2.2.2.1) a i)) ((nn m).cY (mF t.2.2.2.1 i) ((i:Int)+1) t) ((nn m).cY (kh (mF t.2.2.2.1) a i) ((i:Int)+1) t)=_
   by_cases h:mF t.2.2.2.1 i>kh (mF t.2.2.2.1) a i
   ·rw [if_pos h] at this;rw [decide_eq_true h];exact this
   ·rw [if_neg h] at this;rw [decide_eq_false h];exact this
 have k3:∀(r m i:Nat),i+r=t.2.2.1.length→r+t.2.2.2.1.length+1<m→(nn m).k3 (kh (mE t.2.2.1) 0 i) (i:Int) t=some (rm t,()):=by
  intro r
  induction r with
  | zero =>
   intro m i hi hm
   obtain ⟨m,rfl,_⟩:=fuel (show 0<m by omega)
   rw [abc]
   unfold Fx
   rw [b0 (by omega),show i=t.2.2.1.length by omega]
   exact cY t.2.2.2.1.length m 0 _ (by omega) (by omega)
  | succ r ih =>
   intro m i hi hm
   obtain ⟨m,rfl,_⟩:=fuel (show 0<m by omega)
   have bN:i<t.2.2.1.length:=by omega
   rw [abc]
   unfold Fx
   rw [bx bN,ba bN,ed (a:=(i:Int)+1) (by omega) (by omega)]
   simp only [cond_true,ak]
   have:=ih m (i+1) (by omega) (by omega)
   rw [kh,fi] at this
   show cond (decide (mE t.2.2.1 i>kh (mE t.2.2.1) 0 i)) ((nn m).k3 (mE t.2.2.1 i) ((i:Int)+1) t) ((nn m).k3 (kh (mE t.2.2.1) 0 i) ((i:Int)+1) t)=_
   by_cases h:mE t.2.2.1 i>kh (mE t.2.2.1) 0 i
   ·rw [if_pos h] at this;rw [decide_eq_true h];exact this
   ·rw [if_neg h] at this;rw [decide_eq_false h];exact this
 exact k3 t.2.2.1.length aK 0 (by omega) (by rw [fL];omega)
theorem abe(m:Nat)(a b d e f):(r' (m+1)).k2 a b d e f=DR (r' m) a b d e f:=rfl
theorem abf(m:Nat)(a b d e):(r' (m+1)).cY a b d e=DS (r' m) a b d e:=rfl
theorem aqi(t:dA)(x:Int)(hx:0≤x)(hn:t.2.2.1.length≤1048576)(hl:t.2.2.2.1.length≤1048576):LB (t,x,())=some (decide (x<rm t),()):=by
 have hnew:x<rm t↔(∃i,i<t.2.2.1.length∧x<mE t.2.2.1 i)∨∃i,i<t.2.2.2.1.length∧x<mF t.2.2.2.1 i:=by
  unfold rm
  rw [Q9,Q9]
  constructor
  ·rintro ((h | h) | h)
   ·omega
   ·exact .inl h
   ·exact .inr h
  ·rintro (h | h)
   ·exact .inl (.inr h)
   ·exact .inr h
 have cY:∀(r m i:Nat),i+r=t.2.2.2.1.length→r<m→(∀j,j<t.2.2.1.length→¬x<mE t.2.2.1 j)→(∀j,j<i→¬x<mF t.2.2.2.1 j)→(r' m).cY x t.2.2.2.1 (t.2.2.2.1.length:Int) (i:Int)=some (decide (x<rm t),()):=by
  intro r
  induction r with
  | zero =>
   intro m i hi hm h1 h2
   obtain ⟨m,rfl,_⟩:=fuel (show 0<m by omega)
   rw [abf]
   unfold DS
   rw [b0 (by omega),decide_eq_false (fun h=>by
    rcases hnew.1 h with⟨j,hj,h⟩ | ⟨j,hj,h⟩
    ·exact h1 j hj h
    ·exact h2 j (by omega) h)]
   rfl
  | succ r ih =>
   intro m i hi hm h1 h2
   obtain ⟨m,rfl,_⟩:=fuel (show 0<m by omega)
   have bN:i<t.2.2.2.1.length:=by omega
   rw [abf]
   unfold DS
   rw [bx bN,ba bN,ed (a:=(i:Int)+1) (by omega) (by omega)]
   simp only [cond_true,ak]
   show cond (decide (x<mF t.2.2.2.1 i)) _ _=_
   by_cases h:x<mF t.2.2.2.1 i
   ·rw [decide_eq_true h,decide_eq_true (hnew.2 (.inr ⟨i,bN,h⟩))];rfl
   ·rw [decide_eq_false h]
    exact ih m (i+1) (by omega) (by omega) h1 fun j hj=>by
     by_cases e:j=i
     ·subst e;exact h
     ·exact h2 j (by omega)
 have k2:∀(r m i:Nat),i+r=t.2.2.1.length→r+t.2.2.2.1.length+1<m→(∀j,j<i→¬x<mE t.2.2.1 j)→(r' m).k2 t x t.2.2.1 (t.2.2.1.length:Int) (i:Int)=some (decide (x<rm t),()):=by
  intro r
  induction r with
  | zero =>
   intro m i hi hm h1
   obtain ⟨m,rfl,_⟩:=fuel (show 0<m by omega)
   rw [abe]
   unfold DR
   rw [b0 (by omega)]
   exact cY t.2.2.2.1.length m 0 (by omega) (by omega) (fun j hj=>h1 j (by omega)) (fun j hj=>by omega)
  | succ r ih =>
   intro m i hi hm h1
   obtain ⟨m,rfl,_⟩:=fuel (show 0<m by omega)
   have bN:i<t.2.2.1.length:=by omega
   rw [abe]
   unfold DR
   rw [bx bN,ba bN,ed (a:=(i:Int)+1) (by omega) (by omega)]
   simp only [cond_true,ak]
   show cond (decide (x<mE t.2.2.1 i)) _ _=_
   by_cases h:x<mE t.2.2.1 i
   ·rw [decide_eq_true h,decide_eq_true (hnew.2 (.inl ⟨i,bN,h⟩))];rfl
   ·rw [decide_eq_false h]
    exact ih m (i+1) (by omega) (by omega) fun j hj=>by
     by_cases e:j=i
     ·subst e;exact h
     ·exact h1 j (by omega)
 exact k2 t.2.2.1.length aK 0 (by omega) (by rw [fL];omega) (fun j hj=>by omega)
def jb(a:Int):Bool:=a==4||(a==11||(a==13||(a==14||(a==17||(a==18||(a==20||a==21))))))
theorem IT(a:Int):Ag (a,())=some (jb a,()):=by
 show M1 a=_
 unfold M1 jb
 cases a==4 <;> cases a==11 <;> cases a==13 <;> cases a==14 <;> cases a==17 <;> cases a==18 <;> cases a==20 <;> cases a==21 <;> rfl
theorem Q_(a:Int):zM (a,())=some (jb a,()):=IT a
theorem aqj{a:Int}(h:jb a=true):cg a 1 22=true:=by
 unfold jb at h
 simp only [Bool.or_eq_true,beq_iff_eq] at h
 rw [dm]
 omega
def lP(a:Int):Int:=cond (cg a 1 22) (cond (jb a) 1 3) 0
theorem aqk(a:Int):LH (a,())=some (lP a,()):=by
 show LG a=_
 unfold LG lP
 rw [gE,Q_]
 simp only [ak]
 cases cg a 1 22 <;> cases jb a <;> rfl
theorem aql(a:Int):M6 (a,())=some (lP a,()):=by
 show M5 a=_
 unfold M5 lP
 rw [gU,IT]
 simp only [ak]
 cases h:jb a with
 | true=>rw [aqj h];rfl
 | false=>cases cg a 1 22 <;> rfl
theorem abg(a:Int):0≤lP a∧lP a≤3:=by
 unfold lP
 cases cg a 1 22 <;> cases jb a <;> simp
def nE(n k:Int):Int×Bool:=if lP k=0∨lP k>n then(n,false) else(n-lP k,true)
theorem aqm(n k:Int)(hn:n≤30):LJ (n,k,())=some ((nE n k).1,(nE n k).2,()):=by
 show LI n k=_
 unfold LI nE
 rw [aqk]
 simp only [ak]
 have hc:=abg k
 by_cases h0:lP k=0
 ·rw [cA h0,if_pos (.inl h0)];rfl
 rw [bV h0]
 by_cases h1:lP k>n
 ·rw [decide_eq_true h1,if_pos (.inr h1)];rfl
 ·rw [decide_eq_false h1,if_neg (by omega),ed (by omega) (by omega)];rfl
theorem aqn(n k:Int)(hn:n≤30):M8 (n,k,())=some ((nE n k).1,(nE n k).2,()):=by
 show M7 n k=_
 unfold M7 nE
 rw [aql]
 simp only [ak]
 have hc:=abg k
 by_cases h0:lP k=0
 ·rw [cA h0,if_pos (.inl h0)];rfl
 rw [bV h0]
 by_cases h1:lP k>n
 ·rw [decide_eq_true h1,if_pos (.inr h1)];rfl
 ·rw [decide_eq_false h1,if_neg (by omega),ed (by omega) (by omega)];rfl
def pU(n:aE.D):Int:=n.1
def pV(n:aE.D):Int:=n.2.1
def pW(n:aE.D):Int:=n.2.2.1
def pX(n:aE.D):Int:=n.2.2.2.1
def rn(n:aE.D):Int:=n.2.2.2.2.1
def Ra(l:List aE.D)(i:Nat):aS:=gr (pU (J aE l i))++[46]++gr (pV (J aE l i))++[46]++gr (pW (J aE l i))++[46]++gr (pX (J aE l i))++[46]++gr (rn (J aE l i))
structure aqo(n:aE.D):Prop where
 a:1≤pU n∧pU n≤100000
 b:1≤pV n∧pV n≤3
 c:1≤pW n∧pW n≤1000000
 d:1≤pX n∧pX n≤22
 e:0≤rn n∧rn n≤200
theorem Rb{l:List aE.D}(h:i' l=true){i:Nat}(hi:i<l.length):aqo (J aE l i):=by
 unfold i' at h
 rw [Bool.and_eq_true] at h
 have h1:=ka.1 h.1 i hi
 unfold yA at h1
 simp only [Bool.and_eq_true,dm] at h1
 exact⟨h1.1.1.1.1.1,h1.1.1.1.2,h1.1.1.2,h1.1.2,h1.2⟩
theorem aqp{l:List aE.D}(h:i' l=true){i:Nat}(hi:i<l.length):(Ra l i).length≤104:=by
 have hr:=Rb h hi
 have d1:=(fy (pU (J aE l i)) (by have:=hr.a;omega)).1
 have d2:=(fy (pV (J aE l i)) (by have:=hr.b;omega)).1
 have d3:=(fy (pW (J aE l i)) (by have:=hr.c;omega)).1
 have d4:=(fy (pX (J aE l i)) (by have:=hr.d;omega)).1
 have d5:=(fy (rn (J aE l i)) (by have:=hr.e;omega)).1
 unfold Ra
 simp only [List.length_append,List.length_cons,List.length_nil]
 omega
def yC(l:List aE.D)(i:Nat)(o:aS):aS:=o++gr (pU (J aE l i))++[46]++gr (pV (J aE l i))++[46]++gr (pW (J aE l i))++[46]++gr (pX (J aE l i))++[46]++gr (rn (J aE l i))
def nF(l:List aE.D)(a:Nat):Nat→Nat→aS→aS
 | 0,_,o=>o
 | r+1,i,o=>if i<l.length∧i<a+6 then nF l a r (i+1) (yC l i (if a<i then o++[32] else o)) else o
theorem Bu{l:List aE.D}(h:i' l=true){i:Nat}(hi:i<l.length)(o:aS):(yC l i o).length≤o.length+104:=by
 have:=aqp h hi
 unfold Ra at this
 unfold yC
 simp only [List.length_append,List.length_cons,List.length_nil] at this ⊢
 omega
theorem abh(m:Nat)(a b d e):(pn (m+1)).bm a b d e=FD (pn m) a b d e:=rfl
theorem aqq(m:Nat)(a b d e):(pn (m+1)).eb a b d e=M9 (pn m) a b d e:=rfl
theorem abi{l:List aE.D}(h:i' l=true){i:Nat}(hi:i<l.length)(m:Nat)(a:Int)(o:aS)(ho:o.length≤10000)(hii:i<100):(pn (m+1)).eb l a o (i:Int)=(pn m).bm l a (yC l i o) ((i:Int)+1):=by
 have hr:=Rb h hi
 have d1:=fy (pU (J aE l i)) (by have:=hr.a;omega)
 have d2:=fy (pV (J aE l i)) (by have:=hr.b;omega)
 have d3:=fy (pW (J aE l i)) (by have:=hr.c;omega)
 have d4:=fy (pX (J aE l i)) (by have:=hr.d;omega)
 have d5:=fy (rn (J aE l i)) (by have:=hr.e;omega)
 rw [aqq]
 unfold M9
 rw [ba hi]
 simp only [ak]
 rw [show eY ((J aE l i).1,())=some (gr (pU (J aE l i)),()) from d1.2.1,show eY ((J aE l i).2.1,())=some (gr (pV (J aE l i)),()) from d2.2.1,show eY ((J aE l i).2.2.1,())=some (gr (pW (J aE l i)),()) from d3.2.1,show eY ((J aE l i).2.2.2.1,())=some (gr (pX (J aE l i)),()) from d4.2.1,show eY ((J aE l i).2.2.2.2.1,())=some (gr (rn (J aE l i)),()) from d5.2.1]
 simp only [ak]
 have e1:=d1.1;have e2:=d2.1;have e3:=d3.1;have eH:=d4.1;have lk:=d5.1
 rw [ck (by(try simp only [List.length_append,List.length_cons,List.length_nil]);omega),ck (by(try simp only [List.length_append,List.length_cons,List.length_nil]);omega),ck (by(try simp only [List.length_append,List.length_cons,List.length_nil]);omega),ck (by(try simp only [List.length_append,List.length_cons,List.length_nil]);omega),ck (by(try simp only [List.length_append,List.length_cons,List.length_nil]);omega),ck (by(try simp only [List.length_append,List.length_cons,List.length_nil]);omega),ck (by(try simp only [List.length_append,List.length_cons,List.length_nil]);omega),ck (by(try simp only [List.length_append,List.length_cons,List.length_nil]);omega),ck (by(try simp only [List.length_append,List.length_cons,List.length_nil]);omega),ed (by omega) (by omega)]
 rfl
theorem aqr{l:List aE.D}(h:i' l=true)(hl:l.length≤20)(a:Nat)(ha:a≤1000000):∀(r m i:Nat) (o:aS),a≤i→i+r=a+6→2*r<m→o.length+105*r≤1000→(pn m).bm l (a:Int) o (i:Int)=some (nF l a r i o,()):=by
 intro r
 induction r with
 | zero =>
  intro m i o Rc hi hm ho
  obtain ⟨m,rfl,_⟩:=fuel (show 0<m by omega)
  rw [abh]
  unfold FD
  rw [ed (a:=(a:Int)+6) (by omega) (by omega),decide_eq_false (show ¬(i:Int)<(a:Int)+6 by omega)]
  cases decide ((i:Int)<(l.length:Int)) <;> rfl
 | succ r ih =>
  intro m i o Rc hi hm ho
  obtain ⟨m,rfl,_⟩:=fuel (show 0<m by omega)
  obtain ⟨m,rfl,_⟩:=fuel (show 0<m by omega)
  rw [abh]
  unfold FD
  rw [ed (a:=(a:Int)+6) (by omega) (by omega),decide_eq_true (show(i:Int)<(a:Int)+6 by omega),nF]
  by_cases bN:i<l.length
  ·rw [bx bN,if_pos ⟨bN,by omega⟩]
   simp only [cond_true]
   by_cases bY:a<i
   ·rw [decide_eq_true (show(i:Int) >(a:Int) by omega),if_pos bY,ck (by simp only [List.length_cons,List.length_nil];omega)]
    simp only [cond_true]
    have av:=Bu h bN (o++[32])
    rw [List.length_append,List.length_cons,List.length_nil] at av
    rw [abi h bN m _ _ (by rw [List.length_append,List.length_cons,List.length_nil];omega) (by omega)]
    exact ih m (i+1) _ (by omega) (by omega) (by omega) (by omega)
   ·rw [decide_eq_false (show ¬(i:Int) >(a:Int) by omega),if_neg bY]
    simp only [cond_false]
    have av:=Bu h bN o
    rw [abi h bN m _ _ (by omega) (by omega)]
    exact ih m (i+1) _ (by omega) (by omega) (by omega) (by omega)
  ·rw [b0 (Nat.not_lt.1 bN),if_neg (fun hh=>bN hh.1)];rfl
theorem abj(m:Nat)(a b d e):(nh (m+1)).bm a b d e=DY (nh m) a b d e:=rfl
theorem abk(m:Nat)(a b d e f g h):(nh (m+1)).cC a b d e f g h=DZ (nh m) a b d e f g h:=rfl
theorem Bv{l:List aE.D}(m:Nat)(a:Int)(i:Int)(xs:List Int)(j:Nat)(hj:j<xs.length)(hx:xs.length=5)(o:aS)(ho:o.length≤10000)(v:Int)(hv:J (aa.int .i64) xs j=v)(ah : -1000000000000<v∧v<1000000000000) :
  (nh (m+1)).cC l a o i (xs.length:Int) (j:Int) xs=(nh m).cC l a ((if 0<j then o++[46] else o)++gr v) i (xs.length:Int) ((j+1:Nat):Int) xs:=by
 have d:=fy v ah
 rw [abk]
 unfold DZ
 rw [bx hj,ba hj,ed (a:=(j:Int)+1) (by omega) (by omega)]
 simp only [cond_true,ak,Nat.zero_add]
 rw [hv,d.2.2]
 simp only [ak]
 have e:=d.1
 by_cases h0:0<j
 ·rw [decide_eq_true (show(j:Int)>0 by omega),if_pos h0,ck (by simp only [List.length_cons,List.length_nil];omega),ck (by simp only [List.length_append,List.length_cons,List.length_nil];omega)]
  rfl
 ·rw [decide_eq_false (show ¬(j:Int)>0 by omega),if_neg h0]
  simp only [cond_false]
  rw [ck (by omega)]
  rfl
def abl(n:aE.D):List Int:=[pU n,pV n,pW n,pX n,rn n]
theorem abm{l:List aE.D}(h:i' l=true){i:Nat}(hi:i<l.length)(m:Nat)(a:Int)(o:aS)(ho:o.length≤1000)(hii:i<100):(nh (m+6)).cC l a o (i:Int) (5:Int) 0 (abl (J aE l i))=(nh m).bm l a (yC l i o) ((i:Int)+1):=by
 have hr:=Rb h hi
 have e1:=(fy (pU (J aE l i)) (by have:=hr.a;omega)).1
 have e2:=(fy (pV (J aE l i)) (by have:=hr.b;omega)).1
 have e3:=(fy (pW (J aE l i)) (by have:=hr.c;omega)).1
 have eH:=(fy (pX (J aE l i)) (by have:=hr.d;omega)).1
 rw [show(5:Int)=((abl (J aE l i)).length:Int) from rfl,show(0:Int)=((0:Nat):Int) from rfl]
 rw [Bv (m+5) a i _ 0 (by show 0<5;omega) rfl o (by omega) (pU (J aE l i)) rfl (by have:=hr.a;omega)]
 rw [if_neg (by omega)]
 rw [Bv (m+4) a i _ 1 (by show 1<5;omega) rfl _ (by simp only [List.length_append];omega) (pV (J aE l i)) rfl (by have:=hr.b;omega)]
 rw [if_pos (by omega)]
 rw [Bv (m+3) a i _ 2 (by show 2<5;omega) rfl _ (by simp only [List.length_append,List.length_cons,List.length_nil];omega) (pW (J aE l i)) rfl (by have:=hr.c;omega)]
 rw [if_pos (by omega)]
 rw [Bv (m+2) a i _ 3 (by show 3<5;omega) rfl _ (by simp only [List.length_append,List.length_cons,List.length_nil];omega) (pX (J aE l i)) rfl (by have:=hr.d;omega)]
 rw [if_pos (by omega)]
 rw [Bv (m+1) a i _ 4 (by show 4<5;omega) rfl _ (by simp only [List.length_append,List.length_cons,List.length_nil];omega) (rn (J aE l i)) rfl (by have:=hr.e;omega)]
 rw [if_pos (by omega)]
 rw [abk]
 unfold DZ
 rw [b0 (by show 5≤5;omega)]
 simp only [cond_false]
 rw [ed (by omega) (by omega)]
 rfl
theorem aqs{l:List aE.D}(h:i' l=true)(hl:l.length≤20)(a:Nat)(ha:a≤1000000):∀(r m i:Nat) (o:aS),a≤i→i+r=a+6→7*r<m→o.length+105*r≤1000→(nh m).bm l (a:Int) o (i:Int)=some (nF l a r i o,()):=by
 intro r
 induction r with
 | zero =>
  intro m i o Rc hi hm ho
  obtain ⟨m,rfl,_⟩:=fuel (show 0<m by omega)
  rw [abj]
  unfold DY
  rw [ed (a:=(a:Int)+6) (by omega) (by omega),decide_eq_false (show ¬(i:Int)<(a:Int)+6 by omega)]
  cases decide ((i:Int)<(l.length:Int)) <;> rfl
 | succ r ih =>
  intro m i o Rc hi hm ho
  obtain ⟨m,rfl⟩:∃k,m=k+7:=⟨m-7,by omega⟩
  rw [abj]
  unfold DY
  rw [ed (a:=(a:Int)+6) (by omega) (by omega),decide_eq_true (show(i:Int)<(a:Int)+6 by omega),nF]
  by_cases bN:i<l.length
  ·rw [bx bN,if_pos ⟨bN,by omega⟩,ba bN]
   simp only [cond_true,ak]
   by_cases bY:a<i
   ·rw [decide_eq_true (show(i:Int) >(a:Int) by omega),if_pos bY,ck (by simp only [List.length_cons,List.length_nil];omega)]
    simp only [cond_true]
    have av:=Bu h bN (o++[32])
    rw [List.length_append,List.length_cons,List.length_nil] at av
    have:=abm h bN m (a:Int) (o++[32]) (by rw [List.length_append,List.length_cons,List.length_nil];omega) (by omega)
    refine Eq.trans this ?_
    exact ih m (i+1) _ (by omega) (by omega) (by omega) (by omega)
   ·rw [decide_eq_false (show ¬(i:Int) >(a:Int) by omega),if_neg bY]
    simp only [cond_false]
    have av:=Bu h bN o
    refine Eq.trans (abm h bN m (a:Int) o (by omega) (by omega)) ?_
    exact ih m (i+1) _ (by omega) (by omega) (by omega) (by omega)
  ·rw [b0 (Nat.not_lt.1 bN),if_neg (fun hh=>bN hh.1)];rfl
theorem Bw{l:List aE.D}(h:i' l=true):l.length≤20:=by
 unfold i' at h
 rw [Bool.and_eq_true,decide_eq_true_eq] at h
 omega
theorem aqt{l:List aE.D}(h:i' l=true)(a:Nat)(ha:a≤1000000):M_ (l,(a:Int),())=some (nF l a 6 a [],())∧LP (l,(a:Int),())=some (nF l a 6 a [],()):=by
 have hl:=Bw h
 constructor
 ·show FC (pn aK) l (a:Int)=_
  unfold FC
  rw [aa_,h,decide_eq_false (show ¬(a:Int)<0 by omega)]
  exact aqr h hl a ha 6 aK a [] (Nat.le_refl _) rfl (by rw [fL];omega) (by simp)
 ·show DX (nh aK) l (a:Int)=_
  unfold DX
  rw [aa' _ (by omega),h,decide_eq_false (show ¬(a:Int)<0 by omega)]
  exact aqs h hl a ha 6 aK a [] (Nat.le_refl _) rfl (by rw [fL];omega) (by simp)
def tj(t:dA)(x:aN.D):dA:=(t.1,(nE t.2.1 (aG x)).1,t.2.2.1,t.2.2.2.1,())
def tk(t:dA)(x:aN.D):Bool:=(nE t.2.1 (aG x)).2
inductive ki (t:dA) (c:Int) (x:aN.D):dA→aA.D→Prop
 | bad (h:gV x=false):ki t c x t (22,[],())
 | Rd (h:gV x=true) (hs:tk t x=false):ki t c x t (11,[],())
 | perm (h:gV x=true) (hs:tk t x=true) (hk:aG x=21∨aG x=22) (hc:c≠1):ki t c x (tj t x) (1,[],())
 | neg (h:gV x=true) (hs:tk t x=true) (hk:aG x=21) (hc:c=1) (hn:bO x<0):ki t c x (tj t x) (22,[],())
 | told (h:gV x=true) (hs:tk t x=true) (hk:aG x=21) (hc:c=1) (n:Nat) (hn:bO x=n):ki t c x (tj t x) (0,nF t.2.2.1 n 6 n [],())
 | Re (h:gV x=true) (hs:tk t x=true) (hk:aG x=22) (hc:c=1):ki t c x (t.1,(nE t.2.1 (aG x)).1,[],t.2.2.2.1,()) (0,[],())
 | full (h:gV x=true) (hs:tk t x=true) (hk:aG x≤20) (ht:jb (aG x)=false) (hl:t.2.2.1.length=20):ki t c x (tj t x) (28,[],())
 | Rf (h:gV x=true) (hs:tk t x=true) (hk:aG x≤20) (ht:jb (aG x)=true∨t.2.2.1.length<20) (w:af.D) (k:Int) (s:aS) (hr:IG t.1 (lO c) x w k s):ki t c x (w,(nE t.2.1 (aG x)).1,t.2.2.1,t.2.2.2.1,()) (k,s,())
theorem aqu(c:Int):dY (lO c)=true:=by
 unfold lO
 split
 ·rfl
 split
 ·rfl
 split
 ·rfl
 ·rfl
theorem aqv(c:Int):((lO c).1 != 0)=decide (c≠1):=by
 unfold lO
 by_cases h:c=1
 ·rw [if_pos h,decide_eq_false (fun k=>k h)];rfl
 rw [if_neg h,decide_eq_true h]
 split
 ·rfl
 split
 ·rfl
 ·rfl
theorem tl{t:dA}(h:jx t=true):eJ t.2.2.2.1.length (lN t.2.2.2.1)=true∧(0≤t.2.1∧t.2.1≤30)∧i' t.2.2.1=true∧jq t.1=true:=by
 unfold jx at h
 simp only [Bool.and_eq_true] at h
 exact⟨h.1,dm.1 h.2.1,h.2.2.1,h.2.2.2⟩
theorem aqw(t:dA)(c:Int)(x:aN.D)(h:jx t=true):∃cE r,Gq (t,c,x,())=some (cE,r,())∧EV (t,c,x,())=some (r,cE,())∧ki t c x cE r:=by
 obtain ⟨IU,oX,yD,hvo⟩:=tl h
 have dq:=Bw yD
 obtain ⟨q,hq,_⟩:=jl 4
 have S:Gq (t,c,x,())=Gp (pw aK) t c x:=rfl
 have Bx:EV (t,c,x,())=EU (lD aK) t c x:=rfl
 rw [S,Bx]
 unfold Gp EU
 rw [aqd,aqc,HR,PE,aqm _ _ oX.2,aqn _ _ oX.2,hq]
 simp only [ak]
 cases hcall:gV x with
 | false=>exact⟨_,_,rfl,rfl,.bad hcall⟩
 | true =>
 simp only [Bool.not_true,cond_false]
 have hx:=Iv.1 hcall
 cases hs:tk t x with
 | false =>
  rw [show(nE t.2.1 x.1).2=false from hs]
  exact⟨_,_,rfl,rfl,.Rd hcall hs⟩
 | true =>
 rw [show(nE t.2.1 x.1).2=true from hs,aqv]
 simp only [Bool.not_true,cond_false]
 have hk:=hx.da
 have hn:=hx.n
 by_cases oI:(aG x)=21
 ·rw [cA (show x.1=21 from oI)]
  simp only [cond_true]
  by_cases h1:c=1
  case neg =>
   rw [decide_eq_true h1]
   exact⟨_,_,rfl,rfl,.perm hcall hs (.inl oI) h1⟩
  rw [decide_eq_false (fun k=>k h1)]
  simp only [cond_false]
  have A:∀a b d e,(pw (q+4)).dr a b d e=x0 (pw (q+3)) a b d e:=fun _ _ _ _=>rfl
  have B:∀a b d e,(lD (q+4)).dr a b d e=xQ (lD (q+3)) a b d e:=fun _ _ _ _=>rfl
  have jZ:∀a b d e,(lD (q+3)).eX a b d e=xR (lD (q+2)) a b d e:=fun _ _ _ _=>rfl
  rw [A,B]
  unfold x0 xQ
  rw [cA (show x.1=21 from oI)]
  simp only [cond_true]
  by_cases rQ:bO x<0
  ·rw [decide_eq_true (show x.2.2.2.1<0 from rQ)]
   exact⟨_,_,rfl,rfl,.neg hcall hs oI h1 rQ⟩
  ·rw [decide_eq_false (show ¬x.2.2.2.1<0 from rQ)]
   simp only [cond_false]
   rw [jZ]
   unfold xR
   rw [cA (show x.1=21 from oI)]
   simp only [cond_true]
   obtain ⟨m,hm⟩:∃m:Nat,bO x=(m:Int):=⟨(bO x).toNat,by omega⟩
   have hb:=aqt yD m (by omega)
   rw [show x.2.2.2.1=(m:Int) from hm,hb.1,hb.2]
   exact⟨_,_,rfl,rfl,.told hcall hs oI h1 m hm⟩
 rw [bV (show x.1≠21 from oI)]
 simp only [cond_false]
 have A:∀a b d e f,(pw (q+4)).dr a b d e f=x0 (pw (q+3)) a b d e f:=fun _ _ _ _ _=>rfl
 have mQ:∀a b d e f,(pw (q+3)).j4 a b d e f=NC (pw (q+2)) a b d e f:=fun _ _ _ _ _=>rfl
 have B:∀a b d e,(lD (q+4)).dr a b d e=xQ (lD (q+3)) a b d e:=fun _ _ _ _=>rfl
 have jZ:∀a b d e,(lD (q+3)).eX a b d e=xR (lD (q+2)) a b d e:=fun _ _ _ _=>rfl
 have aqx:∀a b d e,(lD (q+2)).j4 a b d e=MK (lD (q+1)) a b d e:=fun _ _ _ _=>rfl
 by_cases tm:(aG x)=22
 ·rw [cA (show x.1=22 from tm)]
  simp only [cond_true]
  by_cases h1:c=1
  case neg =>
   rw [decide_eq_true h1]
   exact⟨_,_,rfl,rfl,.perm hcall hs (.inr tm) h1⟩
  rw [decide_eq_false (fun k=>k h1)]
  simp only [cond_false]
  rw [A,B]
  unfold x0 xQ
  rw [bV (show x.1≠21 from oI),cA (show x.1=22 from tm)]
  simp only [cond_false,cond_true]
  rw [jZ]
  unfold xR
  rw [bV (show x.1≠21 from oI),cA (show x.1=22 from tm)]
  exact⟨_,_,rfl,rfl,.Re hcall hs tm h1⟩
 rw [bV (show x.1≠22 from tm)]
 simp only [cond_false]
 rw [A,B]
 unfold x0 xQ
 rw [bV (show x.1≠21 from oI),bV (show x.1≠22 from tm)]
 simp only [cond_false]
 rw [jZ]
 unfold xR
 rw [bV (show x.1≠21 from oI),bV (show x.1≠22 from tm)]
 simp only [cond_false]
 rw [IT,Q_]
 simp only [ak]
 have kg:aG x≤20:=by omega
 have hrun:jb (aG x)=true∨t.2.2.1.length<20→∃cE r,(pw (q+3)).j4 (tj t x) x ((0,([]:List I.D),()),0,([]:List aE.D),([]:List aO.D),()) (0,([]:List UInt8),()) (lO c)=some (cE,r,()) ∧
   (lD (q+2)).j4 (tj t x) x (0,([]:List UInt8),()) (lO c)=some (r,cE,())∧ki t c x cE r:=by
  intro ht
  obtain ⟨w,k,s,e1,e2,hr⟩:=aoc t.1 (lO c) x hvo (aqu c)
  refine⟨_,_,?_,?_,.Rf hcall hs kg ht w k s hr⟩
  ·rw [mQ]
   unfold NC
   rw [show vB ((tj t x).1,lO c,x,())=_ from e1]
   rfl
  ·rw [aqx]
   unfold MK
   rw [show zY ((tj t x).1,lO c,x,())=_ from e2]
   simp only [ak,nc,xB]
   rfl
 cases l1:jb (aG x) with
 | true =>
  rw [show jb x.1=true from l1]
  simp only [Bool.not_true,cond_false]
  exact hrun (.inl l1)
 | false =>
  rw [show jb x.1=false from l1]
  simp only [Bool.not_false,cond_true]
  by_cases hl:t.2.2.1.length=20
  ·rw [show decide ((t.2.2.1.length:Int)≥20)=true from decide_eq_true (by omega),show((t.2.2.1.length:Int)==20)=true from cA (by omega)]
   exact⟨_,_,rfl,rfl,.full hcall hs kg l1 hl⟩
  ·rw [show decide ((t.2.2.1.length:Int)≥20)=false from decide_eq_false (by omega),show((t.2.2.1.length:Int)==20)=false from bV (by omega)]
   exact hrun (.inr (by omega))
def pY(l:List aO.D)(c:Int)(s:aO.D):List aO.D:=cond (ja l c) (l.set (h6 l c) s) (l.take (h6 l c)++[s]++l.drop (h6 l c))
def notes(t:dA)(x:aN.D)(r:aA.D):Bool:=decide (t.2.2.1.length<20)&&(gV x&&((!jb (aG x)||(r.1 != 0)) && !((aG x==22)&&(r.1==0))))
def kj(t:dA)(c bT index:Int)(x:aN.D)(r:aA.D):dA:=cond (notes t x r) (t.1,t.2.1,t.2.2.1++[(index,c,bT,aG x,r.1,())],t.2.2.2.1,()) t
def nG(t:dA)(c bT index:Int)(r:aA.D):dA:=(t.1,t.2.1,t.2.2.1,pY t.2.2.2.1 c (c,bT,index,r,()),())
theorem abn(m:Nat)(c bT index:Int)(t:dA)(tn:dA)(z2 r:aA.D)(hl:t.2.2.2.1.length≤3):(qV (m+1)).eX c bT index t tn z2 r=some (nG t c bT index r,r,true,()):=by
 show NG (qV m) c bT index t tn z2 r=_
 unfold NG
 rw [aba t c (by omega)]
 simp only [ak]
 unfold nG pY
 have hle:=Bt t.2.2.2.1 c
 cases h:ja t.2.2.2.1 c with
 | true =>
  rw [ba (yB h)]
  simp only [cond_true,ak,Nat.zero_add]
  rfl
 | false =>
  simp only [cond_false]
  rw [show(0:Int)=((0:Nat):Int) from rfl,jc (Nat.zero_le _) hle]
  simp only [ak,Nat.sub_zero,Nat.zero_add,List.nil_append,sP]
  rw [ck (by simp only [List.length_nil,List.length_take];omega)]
  simp only [cond_true]
  unfold VO
  rw [jc hle (Nat.le_refl _),ck (by simp only [List.length_cons,List.length_nil,List.length_take];omega)]
  simp only [ak,cond_true,Nat.zero_add,AZ]
  rw [ck (by simp only [List.length_append,List.length_cons,List.length_nil,List.length_take,List.length_drop];omega)]
  rfl
theorem abo(m:Nat)(c bT index:Int)(t:dA)(z2 r:aA.D)(hl:t.2.2.2.1.length≤3):(qJ (m+1)).eX c bT index t z2 r=some (r,true,nG t c bT index r,()):=by
 show MN (qJ m) c bT index t z2 r=_
 unfold MN
 rw [abb t c (by omega)]
 simp only [ak]
 unfold nG pY
 have hle:=Bt t.2.2.2.1 c
 cases h:ja t.2.2.2.1 c with
 | true =>
  rw [ba (yB h)]
  simp only [cond_true,ak,Nat.zero_add]
  rfl
 | false =>
  simp only [cond_false,decide_true,cond_true]
  rw [show dN t.2.2.2.1.length 0 (h6 t.2.2.2.1 c:Int)=_ from jc (Nat.zero_le _) hle,jc hle (Nat.le_refl _)]
  simp only [ak,Nat.sub_zero,Nat.zero_add,sP,AZ]
  rw [ck (by simp only [List.length_cons,List.length_nil,List.length_drop];omega)]
  simp only [cond_true]
  unfold Vh
  simp only [Nat.sub_zero,Nat.zero_add,sP]
  rw [ck (by simp only [List.length_append,List.length_cons,List.length_nil,List.length_take,List.length_drop];omega)]
  simp only [cond_true]
  rw [← List.append_assoc]
  rfl
theorem aqy(m:Nat)(c bT index:Int)(x:aN.D)(t:dA)(tn:dA)(z2 r:aA.D)(hl:t.2.2.2.1.length≤3):(qV (m+3)).dr c bT index ((aG x==22)&&(r.1==0)) t x tn z2 r=some (nG (kj t c bT index x r) c bT index r,r,true,()):=by
 have qj:decide (t.2.2.1.length<20)=true→(qV (m+2)).cC c bT index t x tn z2 r=some (nG (t.1,t.2.1,t.2.2.1++[(index,c,bT,aG x,r.1,())],t.2.2.2.1,()) c bT index r,r,true,()):=by
  intro h
  rw [decide_eq_true_eq] at h
  show NF (qV (m+1)) c bT index t x tn z2 r=_
  unfold NF
  rw [ck (by simp only [List.length_cons,List.length_nil];omega)]
  exact abn m c bT index _ _ _ _ hl
 have kp:=abn (m+1) c bT index t tn z2 r hl
 show ND (qV (m+2)) c bT index ((aG x==22)&&(r.1==0)) t x tn z2 r=_
 unfold ND
 rw [HR,IT,kp,show decide ((t.2.2.1.length:Int)<20)=decide (t.2.2.1.length<20) from by simp only [decide_eq_decide];omega]
 unfold kj notes
 simp only [ak]
 cases h1:decide (t.2.2.1.length<20) with
 | false=>rfl
 | true =>
 rw [qj h1]
 cases gV x with
 | false=>rfl
 | true =>
 show cond (!(jb (aG x))) _ _=_
 cases jb (aG x) <;> cases (r.1 != 0) <;> cases ((aG x==22)&&(r.1==0)) <;> rfl
theorem aqz(m:Nat)(c bT index:Int)(x:aN.D)(t:dA)(z2 r:aA.D)(hl:t.2.2.2.1.length≤3):(qJ (m+3)).dr c bT index ((aG x==22)&&(r.1==0)) t x z2 r=some (r,true,nG (kj t c bT index x r) c bT index r,()):=by
 have qj:decide (t.2.2.1.length<20)=true→(qJ (m+2)).cC c bT index t x z2 r=some (r,true,nG (t.1,t.2.1,t.2.2.1++[(index,c,bT,aG x,r.1,())],t.2.2.2.1,()) c bT index r,()):=by
  intro h
  rw [decide_eq_true_eq] at h
  show MM (qJ (m+1)) c bT index t x z2 r=_
  unfold MM
  rw [ck (by simp only [List.length_cons,List.length_nil];omega)]
  exact abo m c bT index _ _ _ hl
 have kp:=abo (m+1) c bT index t z2 r hl
 show ML (qJ (m+2)) c bT index ((aG x==22)&&(r.1==0)) t x z2 r=_
 unfold ML
 rw [PE,Q_,kp,show decide ((t.2.2.1.length:Int)<20)=decide (t.2.2.1.length<20) from by simp only [decide_eq_decide];omega]
 unfold kj notes
 simp only [ak]
 cases h1:decide (t.2.2.1.length<20) with
 | false=>rfl
 | true =>
 rw [qj h1]
 cases gV x with
 | false=>rfl
 | true =>
 show cond (!(jb (aG x))) _ _=_
 cases jb (aG x) <;> cases (r.1 != 0) <;> cases ((aG x==22)&&(r.1==0)) <;> rfl
def pZ(t:dA)(c bT index:Int):Bool:=cg c 1 3&&(cg bT 1 1000000&&(cg index 1 100000 && !decide (index<rm t)))
def nH(t:dA)(c:Int):Int:=(oH t.2.2.2.1 c).2.1
inductive tp (t:dA) (c bT:Int) (x:aN.D) (index:Int):dA→aA.D→Bool→Prop
 | off (h:pZ t c bT index=false):tp t c bT x index t (0,[],()) false
 | again (h:pZ t c bT index=true) (hs:bT=nH t c):tp t c bT x index t (oH t.2.2.2.1 c).2.2.2.1 false
 | late (h:pZ t c bT index=true) (hs:bT≠nH t c) (h1:bT≠nH t c+1):tp t c bT x index t (0,[],()) false
 | abp (h:pZ t c bT index=true) (h1:bT=nH t c+1) (t1:dA) (r:aA.D) (hr:ki t c x t1 r):tp t c bT x index (nG (kj t1 c bT index x r) c bT index r) r true
theorem ki.abq{t t1:dA}{c:Int}{x:aN.D}{r:aA.D}(h:ki t c x t1 r):t1.2.2.2.1=t.2.2.2.1:=by
 cases h <;> rfl
theorem aqA{t:dA}(h:jx t=true)(c:Int):0≤nH t c∧nH t c≤1000000:=by
 unfold nH oH
 cases hs:ja t.2.2.2.1 c with
 | false=>exact⟨Int.le_refl 0,by show(0:Int)≤1000000;omega⟩
 | true =>
  have h1:=ka.1 (tl h).1 _ (yB hs)
  unfold lN at h1
  simp only [Bool.and_eq_true,dm] at h1
  have h2:=h1.1.1.2
  show 0≤(J aO t.2.2.2.1 (h6 t.2.2.2.1 c)).2.1∧(J aO t.2.2.2.1 (h6 t.2.2.2.1 c)).2.1≤1000000
  exact⟨Int.le_trans (by decide) h2.1,h2.2⟩
theorem aqB(t:dA)(c bT:Int)(x:aN.D)(index:Int)(h:jx t=true):∃cE r b,vE (t,c,bT,x,index,())=some (cE,r,b,())∧EX (t,c,bT,x,index,())=some (r,b,cE,())∧tp t c bT x index cE r b:=by
 obtain ⟨IU,oX,yD,hvo⟩:=tl h
 have dq:=Bw yD
 have mu:=IQ IU
 obtain ⟨q,hq,_⟩:=jl 3
 have S:vE (t,c,bT,x,index,())=Gr (qV aK) t c bT x index:=rfl
 have Bx:EX (t,c,bT,x,index,())=EW (qJ aK) t c bT x index:=rfl
 rw [S,Bx]
 unfold Gr EW
 simp only [gU,gE,ak]
 cases h1:cg c 1 3 with
 | false=>exact⟨_,_,_,rfl,rfl,.off (by unfold pZ;rw [h1];rfl)⟩
 | true =>
 cases h2:cg bT 1 1000000 with
 | false=>exact⟨_,_,_,rfl,rfl,.off (by unfold pZ;rw [h1,h2];rfl)⟩
 | true =>
 cases h3:cg index 1 100000 with
 | false=>exact⟨_,_,_,rfl,rfl,.off (by unfold pZ;rw [h1,h2,h3];rfl)⟩
 | true =>
 simp only [Bool.not_true,cond_false]
 have fG:=dm.1 h3
 rw [aqh t (by omega) (by omega),aqi t index (by omega) (by omega) (by omega)]
 simp only [ak]
 cases h4:decide (index<rm t) with
 | true=>exact⟨_,_,_,rfl,rfl,.off (by unfold pZ;rw [h1,h2,h3,h4];rfl)⟩
 | false =>
 simp only [cond_false]
 have hn:pZ t c bT index=true:=by unfold pZ;rw [h1,h2,h3,h4];rfl
 rw [aqf t c (by omega),aqe t c (by omega)]
 simp only [ak]
 have abr:=aqA h c
 by_cases hs:bT=nH t c
 ·rw [cA (show bT=(oH t.2.2.2.1 c).2.1 from hs)]
  exact⟨_,_,_,rfl,rfl,.again hn hs⟩
 rw [bV (show bT≠(oH t.2.2.2.1 c).2.1 from hs)]
 simp only [cond_false]
 rw [show ay ((oH t.2.2.2.1 c).2.1+1)=nH t c+1 from ed (by have:=abr.1;unfold nH at this;exact Int.le_trans (by decide) (Int.add_le_add_right this 1)) (by have:=abr.2;unfold nH at this;exact Int.le_trans (Int.add_le_add_right this 1) (by decide))]
 by_cases hs1:bT=nH t c+1
 case neg =>
  rw [c4 hs1]
  exact⟨_,_,_,rfl,rfl,.late hn hs hs1⟩
 rw [dL hs1]
 simp only [cond_false]
 obtain ⟨t1,r,e1,e2,hr⟩:=aqw t c x h
 rw [e1,e2,hq]
 simp only [ak]
 have h3:t1.2.2.2.1.length≤3:=by rw [hr.abq];omega
 have k1:=aqy q c bT index x t1 ((0,([]:List I.D),()),0,([]:List aE.D),([]:List aO.D),()) (0,([]:List UInt8),()) r h3
 have k2:=aqz q c bT index x t1 (0,([]:List UInt8),()) r h3
 refine⟨_,_,_,?_,?_,.abp hn hs1 t1 r hr⟩
 ·refine Eq.trans ?_ k1
  show cond (aG x==22) _ _=_
  cases aG x==22 <;> rfl
 ·refine Eq.trans ?_ k2
  show cond (aG x==22) _ _=_
  cases aG x==22 <;> rfl
theorem aqC{l:List aE.D}(h:i' l=true)(a:Nat):∀(r i:Nat) (o:aS),(nF l a r i o).length≤o.length+105*r:=by
 intro r
 induction r with
 | zero=>intro i o;rw [nF];omega
 | succ r ih =>
  intro i o
  rw [nF]
  by_cases hi:i<l.length∧i<a+6
  ·rw [if_pos hi]
   have h1:=ih (i+1) (yC l i (if a<i then o++[32] else o))
   have h2:=Bu h hi.1 (if a<i then o++[32] else o)
   have h3:(if a<i then o++[32] else o).length≤o.length+1:=by split <;> simp
   omega
  ·rw [if_neg hi];omega
def jQ(r:aA.D):aS:=r.2.1
theorem ki.len{t t1:dA}{c:Int}{x:aN.D}{r:aA.D}(ht:jx t=true)(h:ki t c x t1 r):(jQ r).length≤1000:=by
 cases h with
 | bad=>simp [jQ]
 | Rd=>simp [jQ]
 | perm=>simp [jQ]
 | neg=>simp [jQ]
 | told _ _ _ _ n =>
  have:=aqC (tl ht).2.2.1 n 6 n []
  show(nF t.2.2.1 n 6 n []).length≤1000
  simp only [List.length_nil] at this
  omega
 | Re=>simp [jQ]
 | full=>simp [jQ]
 | Rf _ _ _ _ w k s hr=>exact hr.len
theorem aqD(s:aO.D):aa.cost aO s=(jQ s.2.2.2.1).length:=by
 simp only [fo,fp,fr,fs,gj,Nat.zero_add,Nat.add_zero];rfl
theorem abt(l:List aE.D):aa.cost (.sl aE) l=l.length:=aa3 (fun y=>by simp only [fo,fp,fr,fs,Nat.add_zero]) l
theorem aqE(r:aA.D):aa.cost aA r=(jQ r).length:=by
 simp only [fo,fp,fr,fs,gj,Nat.zero_add,Nat.add_zero];rfl
theorem aqF{l:List aO.D}{c:Int}{s x:aO.D}(h:x∈pY l c s):x∈l∨x=s:=by
 unfold pY at h
 cases hs:ja l c with
 | true =>
  rw [hs] at h
  rcases List.mem_or_eq_of_mem_set h with h | h
  ·exact .inl h
  ·exact .inr h
 | false =>
  rw [hs] at h
  simp only [cond_false,List.mem_append,List.mem_singleton] at h
  rcases h with(h | h) | h
  ·exact .inl (List.mem_of_mem_take h)
  ·exact .inr h
  ·exact .inl (List.mem_of_mem_drop h)
theorem aqG(l:List aO.D)(c:Int)(s:aO.D):(pY l c s).length≤l.length+1:=by
 unfold pY
 cases ja l c with
 | true=>simp only [cond_true,List.length_set];omega
 | false=>simp only [cond_false,List.length_append,List.length_take,List.length_drop,List.length_singleton];have:=Bt l c;omega
theorem aqH(l:List aO.D)(h:∀s,s∈l→(jQ s.2.2.2.1).length≤1000):aa.cost (.sl aO) l≤l.length*1001:=by
 rw [oA]
 have:=Bo (fun y=>aa.cost aO y) 1000 l fun s hs=>by rw [aqD];exact h s hs
 omega
theorem abu{t:dA}(h:jx t=true){s:aO.D}(hs:s∈t.2.2.2.1):ti s.2.2.2.1=true:=by
 obtain ⟨i,hi,rfl⟩:=jL hs
 have h1:=ka.1 (tl h).1 i hi
 unfold lN at h1
 rw [Bool.and_eq_true] at h1
 exact h1.2
theorem abv{r:aA.D}(h:ti r=true):(jQ r).length≤400:=by
 unfold ti at h
 rw [Bool.and_eq_true,decide_eq_true_eq] at h
 have:=h.2
 unfold jQ
 omega
theorem ki.small{t t1:dA}{c:Int}{x:aN.D}{r:aA.D}(h:ki t c x t1 r)(hc:aa.cost af t.1≤1048576):aa.cost af t1.1≤1048576∧t1.2.2.1.length≤t.2.2.1.length:=by
 cases h with
 | bad=>exact⟨hc,Nat.le_refl _⟩
 | Rd=>exact⟨hc,Nat.le_refl _⟩
 | perm=>exact⟨hc,Nat.le_refl _⟩
 | neg=>exact⟨hc,Nat.le_refl _⟩
 | told=>exact⟨hc,Nat.le_refl _⟩
 | Re=>exact⟨hc,Nat.zero_le _⟩
 | full=>exact⟨hc,Nat.le_refl _⟩
 | Rf _ _ _ _ w k s hr=>exact⟨hr.cost hc,Nat.le_refl _⟩
theorem aqI(t:dA)(c bT index:Int)(x:aN.D)(r:aA.D):(kj t c bT index x r).1=t.1∧(kj t c bT index x r).2.1=t.2.1∧(kj t c bT index x r).2.2.2.1=t.2.2.2.1∧((kj t c bT index x r).2.2.1=t.2.2.1∨(kj t c bT index x r).2.2.1=t.2.2.1++[(index,c,bT,aG x,r.1,())]∧t.2.2.1.length<20∧notes t x r=true):=by
 unfold kj
 cases h:notes t x r with
 | false=>exact⟨rfl,rfl,rfl,.inl rfl⟩
 | true =>
  refine⟨rfl,rfl,rfl,.inr ⟨rfl,?_,rfl⟩⟩
  unfold notes at h
  rw [Bool.and_eq_true,decide_eq_true_eq] at h
  exact h.1
theorem tp.cost{t cE:dA}{c bT index:Int}{x:aN.D}{r:aA.D}{b:Bool}(ht:jx t=true)(h:tp t c bT x index cE r b)(hc:aa.cost aM t≤1048576):aa.cost aM cE≤1100000∧(jQ r).length≤1000:=by
 obtain ⟨IU,oX,yD,hvo⟩:=tl ht
 have mu:=IQ IU
 have dq:=Bw yD
 cases h with
 | off=>exact⟨by omega,by simp [jQ]⟩
 | again =>
  refine⟨by omega,?_⟩
  unfold oH
  cases hs:ja t.2.2.2.1 c with
  | false=>simp [jQ]
  | true=>have:=abv (abu ht (gX (yB hs)));simp only [cond_true];omega
 | late=>exact⟨by omega,by simp [jQ]⟩
 | abp hn h1 t1 r hr =>
  have hl:=hr.len ht
  refine⟨?_,hl⟩
  rw [IS] at hc ⊢
  obtain ⟨fj,la,aqJ,aqK⟩:=aqI t1 c bT index x r
  have sS:=hr.small (by omega)
  have hv:aa.cost af (nG (kj t1 c bT index x r) c bT index r).1≤1048576:=by
   show aa.cost af (kj t1 c bT index x r).1≤_
   rw [fj];exact sS.1
  have ha:aa.cost (.sl aE) (nG (kj t1 c bT index x r) c bT index r).2.2.1≤21:=by
   rw [abt]
   show(kj t1 c bT index x r).2.2.1.length≤_
   rcases aqK with e | ⟨e,gu,_⟩
   ·rw [e];have:=sS.2;omega
   ·rw [e,List.length_append,List.length_singleton];omega
  have hs:aa.cost (.sl aO) (nG (kj t1 c bT index x r) c bT index r).2.2.2.1≤4*1001:=by
   show aa.cost (.sl aO) (pY (kj t1 c bT index x r).2.2.2.1 c (c,bT,index,r,()))≤_
   rw [aqJ,hr.abq]
   have h2:=aqH (pY t.2.2.2.1 c (c,bT,index,r,())) fun s hs=>by
    rcases aqF hs with hs | rfl
    ·have:=abv (abu ht hs);omega
    ·exact hl
   have h3:=aqG t.2.2.2.1 c (c,bT,index,r,())
   have h4:(pY t.2.2.2.1 c (c,bT,index,r,())).length*1001≤4*1001:=Nat.mul_le_mul_right _ (by omega)
   exact Nat.le_trans h2 h4
  exact Nat.le_trans (Nat.add_le_add hv (Nat.add_le_add ha hs)) (by decide)
theorem aqL(t:dA)(c bT:Int)(x:aN.D)(index:Int)(hc:aa.cost aM t≤1048576):∃cE r b,px (t,c,bT,x,index,())=some (cE,r,b,())∧lE (t,c,bT,x,index,())=some (cE,r,b,())∧aa.cost aM cE≤1100000∧(jQ r).length≤1000 ∧
  (jx t=true→tp t c bT x index cE r b)∧(jx t=false→cE=((0,([]:List I.D),()),0,([]:List aE.D),([]:List aO.D),())∧r=(0,[],())∧b=false):=by
 have S:px (t,c,bT,x,index,())=NI t c bT x index:=rfl
 have Bx:lE (t,c,bT,x,index,())=MO t c bT x index:=rfl
 rw [S,Bx]
 unfold NI MO
 rw [ap_ t hc,ap' t hc]
 simp only [ak]
 cases h:jx t with
 | false =>
  refine⟨_,_,_,rfl,rfl,?_,?_,fun h=>by simp at h,fun _=>⟨rfl,rfl,rfl⟩⟩
  ·rw [IS,abt,H9,oA];simp
  ·simp [jQ]
 | true =>
  have mu:=IQ (tl h).1
  have dq:=Bw (tl h).2.2.1
  simp only [Bool.not_true,cond_false]
  rw [aqa h (by omega) (by omega),aqb h (by omega) (by omega)]
  simp only [ak]
  obtain ⟨cE,r,b,e1,e2,ah⟩:=aqB t c bT x index h
  rw [e1,e2]
  simp only [ak,nc,xB]
  have:=ah.cost h hc
  exact⟨cE,r,b,rfl,rfl,this.1,this.2,fun _=>ah,fun h=>by simp at h⟩
theorem abw{t:aa}(x:t.D)(h:t.cost x≤2097152)(hl:t.ix≤1000):t.wt x≤10000000000:=by
 have h1:=aa.yw t x
 have h2:t.ix*(1+t.cost x)≤1000*2097153:=Nat.mul_le_mul hl (by omega)
 omega
theorem aol(t:dA)(c bT:Int)(x:aN.D)(index:Int)(aqM:aa.dH aM t)(aqN:aa.dH aN x):Wc (t,c,bT,x,index,())=some (true,()):=by
 obtain ⟨q,hq,_⟩:=jl 3
 show Hs (q7 aK) t c bT x index=_
 unfold Hs
 rw [apk t 1048576 (by omega) (by omega) aqM]
 simp only [ak]
 by_cases g1:((aa.cost aM t:Nat):Int)≤1048576
 case neg=>rw [e' g1];rfl
 rw [jP g1,fz (by omega)]
 simp only [cond_false]
 rw [apl x _ (by omega) (by omega) aqN]
 simp only [ak]
 by_cases g3:((aa.cost aN x:Nat):Int)≤1048576-((aa.cost aM t:Nat):Int)
 case neg=>rw [e' g3];rfl
 rw [jP g3,fz (by omega)]
 simp only [cond_false]
 have c1:aa.cost aM t≤1048576:=by omega
 have yZ:aa.cost aN x≤1048576:=by omega
 obtain ⟨w,r,b,hs,hi,arN,arO,_⟩:=aqL t c bT x index c1
 have arP:=aqE r
 have m7:=abw t (by omega) (by decide)
 have n9:=abw w (by omega) (by decide)
 obtain ⟨k1,zr,pT,v1,iF,_⟩:=aa7 t 1 (by omega) (by omega) (by omega)
 have dQ:=aa9 v1
 obtain ⟨k3,nI,aqO,v3,qd,_⟩:=aa7 w 1 (by omega) (by omega) (by omega)
 have fA:=aa9 v3
 have hh:AG (((w.1.1,nI.1.2.1,()),w.2.1,nI.2.2.1,nI.2.2.2.1,()),1,())=some (k3,()):=ap7 ((w.1.1,nI.1.2.1,()),w.2.1,nI.2.2.1,nI.2.2.2.1,()) 1 k3 (by omega) (by omega) v3
 have cP:=aa5 w (by omega)
 have dU:=aa4 r (by omega)
 have gJ:=aa5 t (by omega)
 have ji:(b==b)=true:=by cases b <;> rfl
 have pD:(q7 (q+1)).pD b k3 b w t.2.2.2.1 t.2.2.1 t.1.2.1 r ((w.1.1,nI.1.2.1,()),w.2.1,nI.2.2.1,nI.2.2.2.1,()) w r=some (true,()):=by
  show OQ (q7 q) b k3 b w t.2.2.2.1 t.2.2.1 t.1.2.1 r ((w.1.1,nI.1.2.1,()),w.2.1,nI.2.2.1,nI.2.2.2.1,()) w r=_
  unfold OQ
  rw [cP];simp only [ak,Bool.not_true,cond_false]
  rw [dU];simp only [ak,Bool.not_true,cond_false]
  rw [ji,hh];simp only [ak,Bool.not_true,cond_false]
  rw [fz (by omega)];simp only [cond_false,bne_self_eq_false]
 have cC:(q7 (q+2)).cC c bT index b b t x w t.2.2.2.1 t.2.2.1 t.1.2.1 r t w r=some (true,()):=by
  show OP (q7 (q+1)) _ _ _ _ _ _ _ _ _ _ _ _ _ _ _=_
  unfold OP
  rw [cP];simp only [ak,Bool.not_true,cond_false]
  rw [dU];simp only [ak,Bool.not_true,cond_false]
  rw [ji];simp only [Bool.not_true,cond_false]
  rw [Q1 t c1];simp only [ak]
  rw [gJ];simp only [ak,Bool.not_true,cond_false]
  rw [pT];simp only [ak]
  rw [fz (by omega)];simp only [cond_false]
  rw [aqO];simp only [ak]
  rw [hh];simp only [ak]
  rw [fz (by omega)];simp only [cond_false,bne_self_eq_false]
  rw [Q2 x yZ];simp only [ak]
  rw [hi];simp only [ak,nc,xB]
  exact pD
 have eb:(q7 aK).eb c bT index b t x w t.2.2.2.1 t.2.2.1 t.1.2.1 r=some (true,()):=by
  rw [hq]
  show OO (q7 (q+2)) _ _ _ _ _ _ _ _ _ _ _=_
  unfold OO
  rw [Q1 t c1];simp only [ak]
  rw [Q2 x yZ];simp only [ak]
  rw [hi];simp only [ak,nc,xB]
  exact cC
 rw [Q1 t c1];simp only [ak]
 rw [Q2 x yZ];simp only [ak]
 rw [hs];simp only [ak,nc,xB]
 exact eb
end Go.LM.jH
