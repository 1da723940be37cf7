/- Volumes: both sides are the same plain functions. Conditions: each theorem's own hypotheses. -/
import Derived.Test.YtlkbjdmfbadhaaaGreatDoorTVp
set_option linter.unusedVariables false
set_option linter.unusedSimpArgs false
namespace Go.LM.jH
theorem gU(x a b:Int):cS (x,a,b,())=some (cg x a b,()):=by
 show MP x a b=_
 unfold MP cg
 by_cases h:a≤x <;> simp [h]
theorem gE(x a b:Int):cZ (x,a,b,())=some (cg x a b,()):=by
 show Ll x a b=_
 unfold Ll cg
 by_cases h:a≤x <;> simp [h]
theorem ed{a:Int}(h : -4000000000000000000≤a)(h':a≤4000000000000000000):ay a=a:=c0 (by omega) (by omega)
def eJ(n:Nat)(P:Nat→Bool):Bool:=(List.range n).all P
theorem ka{n:Nat}{P:Nat→Bool} : eJ n P=true↔∀i,i<n→P i=true:=by simp [eJ,List.all_eq_true]
open Classical in
theorem ns(n:Nat)(hn:n≤4611686018427387904)(P:Nat→Bool)(E:Bool)(L:Nat→Int→Option (Bool×Unit))
  (h0:∀m,(∀j,j<n→P j=true)→L (m+1) (n:Int)=some (E,()))
  (hs:∀m (i:Nat),i<n→(∀j,j<i→P j=true)→ay ((i:Int)+1)=(i:Int)+1→L (m+1) (i:Int)=cond (P i) (L m ((i:Int)+1)) (some (false,())))
  (q:Nat:=aK) (hq:n<q:=by exact jk (by omega)):L q 0=some (eJ n P&&E,()):=by
 have:=mr n hn L (fun i=>some (decide (∀j,i≤j→j<n→P j=true)&&E,())) (fun i=>∀j,j<i→P j=true) (fun m hi=>by
  rw [h0 m hi]
  rw [decide_eq_true (by intro j h1 h2;omega)];rfl) (fun m i hi hinv hw ih=>by
  rw [hs m i hi hinv hw]
  cases av:P i
  ·simp only [cond_false]
   rw [decide_eq_false (fun h=>by have:=h i (Nat.le_refl _) hi;rw [av] at this;cases this)];rfl
  ·simp only [cond_true]
   rw [ih (fun j hj=>by
    by_cases h:j=i
    ·subst h;exact av
    ·exact hinv j (by omega))]
   congr 3
   apply decide_eq_decide.2
   constructor
   ·intro h j h1 h2
    by_cases lv:j=i
    ·subst lv;exact av
    ·exact h j (by omega) h2
   ·intro h j h1 h2;exact h j (by omega) h2) n 0 q (by omega) hq (by intro j hj;omega)
 rw [Int.natCast_zero] at this
 rw [this]
 congr 3
 rw [Bool.eq_iff_iff,ka,decide_eq_true_eq]
 exact⟨fun h i hi=>h i (by omega) hi,fun h i _ hi=>h i hi⟩
theorem kx{α : Type}(a:Bool)(x y : α):cond (!a) x y=cond a y x:=by cases a <;> rfl
theorem vX{α : Type}(a b:Bool)(x y : α):cond (a&&b) x y=cond a (cond b x y) y:=by cases a <;> rfl
theorem HQ{α : Type}(a b:Bool)(x y : α):cond (a||b) x y=cond a x (cond b x y):=by cases a <;> rfl
theorem vY{n i:Nat}(h:i+1<n)(hn:n≤4000000000000000000):aL n (ay (((i+1:Nat):Int)-1))=some i:=by
 rw [ed (by omega) (by omega),show((i+1:Nat):Int)-1=(i:Int) by omega,ba (by omega)]
theorem vZ:decide (((0:Nat):Int)>0)=false:=rfl
theorem v7(i:Nat):decide (((i+1:Nat):Int)>0)=true:=by simp
def gV(c:aN.D):Bool :=
 cg c.1 1 22&&decide ((c.2.1.length:Int)≤60)&&decide ((c.2.2.1.length:Int)≤60)&&decide ((c.2.2.2.2.2.1.length:Int)≤64)&&cg c.2.2.2.1 (-1000000) 1000000&&cg c.2.2.2.2.1 (-1000000) 1000000 &&
  (bB c.2.2.1 []||(c.1==9||(c.1==10||c.1==12)))&&(bB c.2.2.2.2.2.1 []||(c.1==5||c.1==6))
theorem HR(c:aN.D):Af (c,())=some (gV c,()):=by
 obtain ⟨q,hq,_⟩:=jl 1
 show FA (Ae aK) c=_
 rw [hq]
 unfold FA
 simp only [Ae,M0,gU,ak,ky]
 congr 2
 simp only [gV,cg,YS]
 generalize c.2.1.length=a
 generalize c.2.2.1.length=b
 generalize c.2.2.2.2.2.1.length=d
 generalize c.1=k
 generalize c.2.2.2.1=e
 generalize c.2.2.2.2.1=f
 simp only [kx,vX,HQ]
 rw [Bool.eq_iff_iff]
 simp only [Bool.cond_eq_ite,Bool.ite_eq_true_distrib,Bool.and_eq_true,Bool.or_eq_true,decide_eq_true_eq,beq_iff_eq,bne_iff_ne]
 grind (splits:=40)
theorem PE(c:aN.D):zL (c,())=some (gV c,()):=by
 obtain ⟨q,hq,_⟩:=jl 2
 show DV (DW aK) c=_
 rw [hq]
 unfold DV
 simp only [DW,dX,LF,UC,UD,gE,ak,ky]
 congr 2
 simp only [gV,cg,YS]
 generalize c.2.1.length=a
 generalize c.2.2.1.length=b
 generalize c.2.2.2.2.2.1.length=d
 generalize c.1=k
 generalize c.2.2.2.1=e
 generalize c.2.2.2.2.1=f
 rw [Bool.eq_iff_iff]
 simp only [Bool.cond_eq_ite,Bool.ite_eq_true_distrib,Bool.and_eq_true,Bool.or_eq_true,decide_eq_true_eq,beq_iff_eq,bne_iff_ne]
 grind (splits:=60)
def e9(n:Nat)(P:Nat→Bool):Option Nat:=(List.range n).find? P
theorem hW{n i:Nat}{P:Nat→Bool} : e9 n P=some i↔i<n∧P i=true∧∀j,j<i→P j=false:=by
 unfold e9
 rw [List.find?_range_eq_some]
 constructor
 ·rintro ⟨h1,h2,h3⟩;exact⟨by simpa using h2,h1,fun j hj=>by simpa using h3 j hj⟩
 ·rintro ⟨h1,h2,h3⟩;exact⟨h2,by simpa using h1,fun j hj=>by simpa using h3 j hj⟩
theorem lH{n:Nat}{P:Nat→Bool} : e9 n P=none↔∀i,i<n→P i=false:=by
 unfold e9
 rw [List.find?_eq_none]
 simp
theorem sI{β : Type}(n:Nat)(hn:n≤4611686018427387904)(P:Nat→Bool)(R:Option Nat → β)(L:Nat→Int → β)
  (h0:∀m,L (m+1) (n:Int)=R none)
  (hs:∀m (i:Nat),i<n→ay ((i:Int)+1)=(i:Int)+1→L (m+1) (i:Int)=cond (P i) (R (some i)) (L m ((i:Int)+1))) (q:Nat:=aK) (hq:n<q:=by exact jk (by omega)) :
  L q 0=R (e9 n P):=by
 have key:=mr n hn L (fun i=>R (e9 n P)) (fun i=>∀j,j<i→P j=false) (fun m hi=>by rw [h0 m,lH.2 hi]) (fun m i hi hinv hw ih=>by
  rw [hs m i hi hw]
  cases av:P i
  ·simp only [cond_false]
   refine ih fun j hj=>?_
   by_cases h:j=i
   ·subst h;exact av
   ·exact hinv j (by omega)
  ·simp only [cond_true]
   rw [hW.2 ⟨hi,av,hinv⟩]) n 0 q (by omega) hq (by intro j hj;omega)
 simpa using key
def hY:Option Nat→Int
 | none => -1
 | some i=>i
theorem AP{o:Option Nat} : decide (hY o<0)=o.isNone:=by
 cases o with
 | none=>rfl
 | some i=>exact decide_eq_false (by show ¬((i:Int)<0);omega)
theorem AQ{o:Option Nat} : decide (hY o≥0)=o.isSome:=by cases o <;> simp [hY]
theorem contains_eq(l:List Int)(x:Int)(hl:l.length≤4611686018427387904):r9 (l,x,())=some (decide (x∈l),()):=by
 show Lr l x=_
 unfold Lr
 have h:Lq (l,x,())=some (hY (e9 l.length (fun i=>x==J (.int .i64) l i)),()):=by
  show Dy (uE aK) l x=_
  unfold Dy
  refine sI l.length hl _ (fun o=>some (hY o,())) (fun m i=>uE m l x (l.length:Int) i) ?_ ?_
  ·intro m
   simp only [uE,Dz]
   rw [b0 (Nat.le_refl _)];rfl
  ·intro m i hi hw
   simp only [uE,Dz,hw]
   rw [bx hi,ba hi];rfl
 rw [h]
 simp only [ak,AQ]
 congr 2
 rw [Bool.eq_iff_iff,decide_eq_true_eq,Option.isSome_iff_exists]
 constructor
 ·rintro ⟨i,hi⟩
  obtain ⟨h1,h2,_⟩:=hW.1 hi
  have h2:x=J (.int .i64) l i:=by simpa using h2
  rw [h2,di h1];exact List.getElem_mem h1
 ·intro hx
  obtain ⟨i,hi,he⟩:=List.mem_iff_getElem.1 hx
  cases hf:e9 l.length (fun i=>x==J (.int .i64) l i) with
  | some j=>exact⟨j,rfl⟩
  | none =>
   have:=lH.1 hf i hi
   have aD:J (.int .i64) l i=l[i]:=di (t:=.int .i64) hi
   rw [aD,he] at this
   simp at this
def sJ(b:Int):Bool:=decide (b≥97)&&decide (b≤122)||decide (b≥48)&&decide (b≤57)||b==46||b==95||b==45
theorem HS(b:Int):zZ (b,())=some (sJ b,()):=by
 show MQ b=_
 unfold MQ sJ
 simp only [ky]
 congr 2
 rw [Bool.eq_iff_iff]
 simp only [Bool.cond_eq_ite,Bool.ite_eq_true_distrib,Bool.and_eq_true,Bool.or_eq_true,decide_eq_true_eq,beq_iff_eq]
 grind
theorem YT(b:Int):Dd (b,())=some (sJ b,()):=by
 show Ut b=_
 rw [← HS];rfl
def nb(s:List UInt8)(i:Nat):Int:=((s.getD i 0).toNat:Int)
def jm(s:List UInt8):Bool:=eJ s.length (fun i=>sJ (nb s i))&&(cg (s.length:Int) 1 8&&(!bB s [46] && !bB s [46,46]))
theorem ak4(s:List UInt8):MR (s,())=some (jm s,()):=by
 show E2 (sk aK) s=_
 unfold E2
 simp only [gU,ak]
 by_cases hl:cg (s.length:Int) 1 8=true
 case neg=>rw [Bool.not_eq_true] at hl;unfold jm;rw [hl];simp
 have hb:=dm.1 hl
 have hk:sk aK s 0=some (eJ s.length (fun i=>sJ (nb s i))&&true,()):=by
  refine ns s.length (by omega) _ true (fun m i=>sk m s i) ?_ ?_
  ·intro m _
   simp only [sk,E3]
   rw [b0 (Nat.le_refl _)];rfl
  ·intro m i hi _ hw
   simp only [sk,E3,hw]
   rw [bx hi,ba hi]
   simp only [cond_true,ak,HS,kx];rfl
 rw [hk,hl]
 unfold jm
 rw [hl]
 cases bB s [46] <;> cases bB s [46,46] <;> simp
theorem ak5(s:List UInt8)(hl:s.length≤4000000000000000000):Ln (s,())=some (jm s,()):=by
 show Dp (uC aK) s=_
 unfold Dp jm
 refine ns s.length (by omega) _ _ (fun m i=>uC m s (s.length:Int) i) ?_ ?_
 ·intro m _
  simp only [uC,Dq]
  rw [b0 (Nat.le_refl _)]
  simp only [gE,ak,cond_false,ky]
  congr 2
  cases cg (s.length:Int) 1 8 <;> cases bB s [46] <;> rfl
 ·intro m i hi _ hw
  simp only [uC,Dq,hw]
  rw [bx hi,ba hi]
  simp only [cond_true,ak,YT,kx];rfl
def jn(s:List UInt8):Bool:=eJ s.length (fun i=>nb s i==47||sJ (nb s i))&&cg (s.length:Int) 1 60
theorem YU(s:List UInt8):z1 (s,())=some (jn s,()):=by
 show EZ (u3 aK) s=_
 unfold EZ
 simp only [gU,ak]
 by_cases hl:cg (s.length:Int) 1 60=true
 case neg=>rw [Bool.not_eq_true] at hl;unfold jn;rw [hl];simp
 have hb:=dm.1 hl
 unfold jn
 rw [hl]
 simp only [Bool.not_true,cond_false]
 refine ns s.length (by omega) _ true (fun m i=>u3 m s i) ?_ ?_
 ·intro m _
  simp only [u3,E0]
  rw [b0 (Nat.le_refl _)];rfl
 ·intro m i hi _ hw
  simp only [u3,E0,hw]
  rw [bx hi,ba hi]
  simp only [cond_true,ak,HS,kx,HQ,bne];rfl
theorem PF(s:List UInt8)(hl:s.length≤4000000000000000000):xG (s,())=some (jn s,()):=by
 show Df (uz aK) s=_
 unfold Df jn
 refine ns s.length (by omega) _ _ (fun m i=>uz m s (s.length:Int) i) ?_ ?_
 ·intro m _
  simp only [uz,Dg]
  rw [b0 (Nat.le_refl _)]
  simp only [gE,ak,cond_false]
 ·intro m i hi _ hw
  simp only [uz,Dg,hw]
  rw [bx hi,ba hi]
  simp only [cond_true,ak,YT,kx,HQ,bne];rfl
abbrev a6:Type:=I.D
def ax(x:a6):List au.D:=x.2.2.2.2.2.2.1
def bS(x:a6):List UInt8:=x.2.2.2.2.2.1
def bG(l:List a6)(id:Int):Option Nat:=e9 l.length (fun i=>(J I l i).1==id)
theorem ow(v:af.D)(id:Int)(hl:v.2.1.length≤1048576):kR (v,id,())=some (hY (bG v.2.1 id),()):=by
 show E5 (u4 aK) v id=_
 unfold E5 bG
 refine sI v.2.1.length (by omega) _ (fun o=>some (hY o,())) (fun m i=>u4 m id i v) ?_ ?_
 ·intro m
  simp only [u4,E6]
  rw [b0 (Nat.le_refl _)];rfl
 ·intro m i hi hw
  simp only [u4,E6,hw]
  rw [bx hi,ba hi];rfl
def YV(l:List a6):Option Nat→List a6
 | none=>[]
 | some i=>[J I l i]
theorem ya(v:af.D)(id:Int)(hl:v.2.1.length≤1048576):fF (v,id,())=some (YV v.2.1 (bG v.2.1 id),()):=by
 show Di (uA aK) v id=_
 unfold Di bG
 refine sI v.2.1.length (by omega) _ (fun o=>some (YV v.2.1 o,())) (fun m i=>uA m v id (v.2.1.length:Int) i) ?_ ?_
 ·intro m
  simp only [uA,Dj]
  rw [b0 (Nat.le_refl _)];rfl
 ·intro m i hi hw
  simp only [uA,Dj,hw]
  rw [bx hi,ba hi];rfl
theorem cq{l:List a6}{id:Int}{i:Nat}(h:bG l id=some i):i<l.length∧(J I l i).1=id:=by
 obtain ⟨h1,h2,_⟩:=hW.1 h
 exact⟨h1,by simpa using h2⟩
def bytesOf(l:List a6):Nat:=(l.map fun x=>(bS x).length).sum
theorem ak6{l:List a6}{i:Nat}(hi:i<l.length):bytesOf (l.drop i)=(bS (J I l i)).length+bytesOf (l.drop (i+1)):=by
 rw [drop_cons (t:=I) hi];rfl
theorem PG(l:List a6)(i:Nat):bytesOf (l.take i)+bytesOf (l.drop i)=bytesOf l:=by
 unfold bytesOf
 rw [← List.sum_append_nat,← List.map_append,List.take_append_drop]
theorem yb{l:List a6}{i:Nat}(hi:i<l.length):bytesOf (l.take (i+1))=bytesOf (l.take i) +(bS (J I l i)).length:=by
 have h1:=PG l i
 have h2:=PG l (i+1)
 have h3:=ak6 hi
 omega
theorem HT(l:List a6)(i:Nat):bytesOf (l.take i)≤bytesOf l:=by have:=PG l i;omega
theorem PH(v:af.D)(hl:v.2.1.length≤1048576)(hb:bytesOf v.2.1≤1048576):Ab (v,())=some ((bytesOf v.2.1:Int),()):=by
 show Fc (u9 aK) v=_
 unfold Fc
 have:=mr v.2.1.length (by omega) (fun m i=>u9 m (bytesOf (v.2.1.take i.toNat):Int) i v) (fun _=>some ((bytesOf v.2.1:Int),())) (fun _=>True) (fun m _=>by
  simp only [u9,Fe]
  rw [b0 (Nat.le_refl _)]
  simp only [Int.toNat_natCast,List.take_length,cond_false]) (fun m i hi _ hw ih=>by
  simp only [u9,Fe,hw]
  rw [bx hi,ba hi]
  simp only [cond_true,ak,Int.toNat_natCast]
  have ih:=ih trivial
  rw [show((i:Int)+1).toNat=i+1 by omega,yb hi,Int.natCast_add] at ih
  have h2:=HT v.2.1 (i+1)
  rw [yb hi] at h2
  rw [ed (by omega) (by have:((J I v.2.1 i).2.2.2.2.2.1).length=(bS (J I v.2.1 i)).length:=rfl;omega)]
  exact ih) v.2.1.length 0 aK (by omega) (jk (by omega)) trivial
 simpa [bytesOf] using this
theorem PI(v:af.D)(hl:v.2.1.length≤1048576)(hb:bytesOf v.2.1≤1048576):r_ (v,())=some ((bytesOf v.2.1:Int),()):=by
 show DD (uI aK) v=_
 unfold DD
 have:=mr v.2.1.length (by omega) (fun m i=>uI m (bytesOf (v.2.1.take i.toNat):Int) v.2.1 (v.2.1.length:Int) i) (fun _=>some ((bytesOf v.2.1:Int),())) (fun _=>True) (fun m _=>by
  simp only [uI,DE]
  rw [b0 (Nat.le_refl _)]
  simp only [Int.toNat_natCast,List.take_length,cond_false]) (fun m i hi _ hw ih=>by
  simp only [uI,DE,hw]
  rw [bx hi,ba hi]
  simp only [cond_true,ak,Int.toNat_natCast]
  have ih:=ih trivial
  rw [show((i:Int)+1).toNat=i+1 by omega,yb hi,Int.natCast_add] at ih
  have h2:=HT v.2.1 (i+1)
  rw [yb hi] at h2
  rw [ed (by omega) (by have:((J I v.2.1 i).2.2.2.2.2.1).length=(bS (J I v.2.1 i)).length:=rfl;omega)]
  exact ih) v.2.1.length 0 aK (by omega) (jk (by omega)) trivial
 simpa [bytesOf] using this
def b1{β : Type}(f:Nat → β)(B:Nat)(y : β):Prop:=∀m,B≤m→f m=y
theorem b1.step{β : Type}{f g:Nat → β}{B:Nat}{y : β}(h:b1 g B y)(hf:∀m,f (m+1)=g m):b1 f (B+1) y:=by
 intro m hm
 obtain ⟨k,rfl⟩:∃k,m=k+1:=⟨m-1,by omega⟩
 rw [hf];exact h k (by omega)
theorem b1.done{β : Type}{f:Nat → β}{y : β}(hf:∀m,f (m+1)=y):b1 f 1 y:=by
 intro m hm
 obtain ⟨k,rfl⟩:∃k,m=k+1:=⟨m-1,by omega⟩
 exact hf k
theorem b1.mono{β : Type}{f:Nat → β}{B jZ:Nat}{y : β}(h:b1 f B y)(hb:B≤jZ):b1 f jZ y:=fun m hm=>h m (by omega)
def dI{kU : Type} : Nat→(Nat → kU → kU) → kU → kU
 | 0,_,s=>s
 | n+1,f,s=>f n (dI n f s)
theorem sK{kU : Type}{n:Nat}{f:Nat → kU → kU}(Inv:Nat → kU → Prop)(eQ:∀i s,i<n→Inv i s→Inv (i+1) (f i s)){s : kU}(h:Inv 0 s):Inv n (dI n f s):=by
 induction n with
 | zero=>exact h
 | succ n ih=>exact eQ n _ (by omega) (ih fun i s hi=>eQ i s (by omega))
theorem sL{kU β : Type}(n W:Nat)(F:Nat→Nat → kU → β)(step:Nat → kU → kU)(Inv:Nat → kU → Prop)(eQ:∀i s,i<n→Inv i s→Inv (i+1) (step i s))
  (hs:∀i s,i<n→Inv i s→∀B y,b1 (fun m=>F m (i+1) (step i s)) B y→b1 (fun m=>F m i s) (B+W) y) (s : kU) (h:Inv 0 s) (B:Nat) (y : β) (he:b1 (fun m=>F m n (dI n step s)) B y):b1 (fun m=>F m 0 s) (B+n*W) y:=by
 have key:∀k,k≤n→b1 (fun m=>F m (n-k) (dI (n-k) step s)) (B+k*W) y:=by
  intro k
  induction k with
  | zero=>intro _;simpa using he
  | succ k ih =>
   intro hk
   have:=ih (by omega)
   have hinv:Inv (n-(k+1)) (dI (n-(k+1)) step s):=sK Inv (fun i s hi=>eQ i s (by omega)) h
   have h2:=hs (n-(k+1)) _ (by omega) hinv (B+k*W) y (by
    rw [show n-(k+1)+1=n-k by omega]
    have e:dI (n-k) step s=step (n-(k+1)) (dI (n-(k+1)) step s):=by
     rw [show n-k=(n-(k+1))+1 by omega];rfl
    rw [← e];exact this)
   rw [Nat.add_one_mul,← Nat.add_assoc]
   exact h2
 have:=key n (Nat.le_refl _)
 simpa [dI] using this
def gW(l:List au.D)(id:Int):Nat:=(l.filter fun d=>d.2.1==id).length
def eE(l:List a6)(id:Int):Nat:=(l.map fun x=>gW (ax x) id).sum
theorem ak7{l:List au.D}{id:Int}{j:Nat}(hj:j<l.length):gW (l.take (j+1)) id=gW (l.take j) id+cond ((J au l j).2.1==id) 1 0:=by
 unfold gW
 rw [List.take_succ_eq_append_getElem hj,List.filter_append,List.length_append]
 congr 1
 rw [di hj]
 cases h:(l[j]).2.1==id <;> simp [List.filter_cons,h]
theorem ak8(l:List au.D)(id:Int):gW l id≤l.length:=List.length_filter_le _ _
theorem PJ{l:List a6}{id:Int}{i:Nat}(hi:i<l.length):eE (l.take (i+1)) id=eE (l.take i) id+gW (ax (J I l i)) id:=by
 unfold eE
 rw [List.take_succ_eq_append_getElem hi,List.map_append,List.sum_append_nat]
 simp [di hi]
def dt(l:List a6):Nat:=(l.map fun x=>(ax x).length).sum
theorem YW(l:List a6)(id:Int):eE l id≤dt l:=by
 unfold eE dt
 induction l with
 | nil=>simp
 | cons x l ih=>simp only [List.map_cons,List.sum_cons];have:=ak8 (ax x) id;omega
theorem fZ{l:List a6}{i:Nat}(hi:i<l.length):(ax (J I l i)).length≤dt l:=by
 unfold dt
 rw [di hi]
 have:∀(l:List a6) (i:Nat) (hi:i<l.length),(ax l[i]).length≤(l.map fun x=>(ax x).length).sum:=by
  intro l
  induction l with
  | nil=>intro i hi;simp at hi
  | cons x l ih =>
   intro i hi
   simp only [List.map_cons,List.sum_cons]
   cases i with
   | zero=>simp
   | succ i=>have:=ih i (by simpa using hi);simp only [List.getElem_cons_succ];omega
 exact this l i hi
theorem YX(l:List a6)(id:Int)(i:Nat):eE (l.take i) id≤dt l:=by
 refine Nat.le_trans (YW _ _) ?_
 unfold dt
 conv=>rhs;rw [← List.take_append_drop i l,List.map_append,List.sum_append_nat]
 omega
theorem de(i:Nat)(h:i<4000000000000000000):ay ((i:Int)+1)=((i+1:Nat):Int):=by rw [ed (by omega) (by omega)];omega
theorem PK(l:List a6)(id:Int):∀i,i≤l.length→dI i (fun i s=>s+gW (ax (J I l i)) id) 0=eE (l.take i) id
 | 0,_=>by simp [dI,eE]
 | i+1,h=>by
  rw [dI,PK l id i (by omega),PJ (by omega)]
theorem PL(l:List au.D)(id:Int)(s:Nat):∀j,j≤l.length→dI j (fun j s=>s+cond ((J au l j).2.1==id) 1 0) s=s+gW (l.take j) id
 | 0,_=>by simp [dI,gW]
 | j+1,h=>by
  rw [dI,PL l id s j (by omega),ak7 (by omega)];omega
theorem kV{β : Type}{f:Nat → β}{B:Nat}{y : β}(h:b1 f B y)(hb:B≤4611686018427387904):f aK=y:=h aK (by have:=jk hb;omega)
theorem HU(v:af.D)(id:Int)(hl:v.2.1.length≤1048576)(hn:dt v.2.1≤1048576):Aa (v,id,())=some ((eE v.2.1 id:Int),()):=by
 show Fa (pj aK) v id=_
 unfold Fa
 have key:=sL v.2.1.length (1048576+2) (fun m i (s:Nat)=>(pj m).k3 id (s:Int) (i:Int) v) (fun i s=>s+gW (ax (J I v.2.1 i)) id) (fun i s=>s=eE (v.2.1.take i) id) (fun i s hi hs=>by rw [hs,PJ hi]) (fun i s hi hs B y he=>by
  have mu:s≤1048576:=by have:=YX v.2.1 id i;omega
  have hnl:=fZ hi
  have inner:=sL (ax (J I v.2.1 i)).length 1 (fun m j (s:Nat)=>(pj m).dJ id (s:Int) (i:Int) (j:Int) v) (fun j s=>s+cond ((J au (ax (J I v.2.1 i)) j).2.1==id) 1 0) (fun j s=>s≤1048576+j) (fun j s hj hs=>by
   cases (J au (ax (J I v.2.1 i)) j).2.1==id <;> simp <;> omega) (fun j s hj hs B y he=>by
   refine he.step fun m=>?_
   show z' (pj m) _ _ _ _ _=_
   unfold z'
   rw [ba hi]
   simp only [ak]
   show cond (decide ((j:Int)<((ax (J I v.2.1 i)).length:Int))) ((aL (ax (J I v.2.1 i)).length (j:Int)).bind _) _=_
   rw [bx hj]
   simp only [cond_true]
   rw [ba hj]
   simp only [ak]
   rw [de j (by omega),de s (by omega)]
   show cond ((J au (ax (J I v.2.1 i)) j).2.1==id) _ _=_
   cases (J au (ax (J I v.2.1 i)) j).2.1==id <;> rfl) s (by omega) (B+1) y (by
   refine he.step fun m=>?_
   rw [PL _ _ _ _ (Nat.le_refl _),List.take_length]
   show z' (pj m) _ _ _ _ _=_
   unfold z'
   rw [ba hi]
   simp only [ak]
   show cond (decide (((ax (J I v.2.1 i)).length:Int)<((ax (J I v.2.1 i)).length:Int))) _ _=_
   rw [b0 (Nat.le_refl _)]
   simp only [cond_false]
   rw [de i (by omega)])
  refine(inner.step (f:=fun m=>(pj m).k3 id (s:Int) (i:Int) v) fun m=>?_).mono (by omega)
  show z_ (pj m) _ _ _ _=_
  unfold z_
  rw [bx hi];rfl) 0 (by simp [eE]) 1 (some ((eE v.2.1 id:Int),())) (b1.done fun m=>by
  rw [PK _ _ _ (Nat.le_refl _),List.take_length]
  show z_ (pj m) _ _ _ _=_
  unfold z_
  rw [b0 (Nat.le_refl _)];rfl)
 have hm:v.2.1.length*(1048576+2)≤1048576*(1048576+2):=Nat.mul_le_mul_right _ hl
 exact kV key (by omega)
theorem HV(v:af.D)(id:Int)(hl:v.2.1.length≤1048576)(hn:dt v.2.1≤1048576):xI (v,id,())=some ((eE v.2.1 id:Int),()):=by
 show DB (pe aK) v id=_
 unfold DB
 have key:=sL v.2.1.length (1048576+2) (fun m i (s:Nat)=>(pe m).k3 id (s:Int) v.2.1 (v.2.1.length:Int) (i:Int)) (fun i s=>s+gW (ax (J I v.2.1 i)) id) (fun i s=>s=eE (v.2.1.take i) id) (fun i s hi hs=>by rw [hs,PJ hi]) (fun i s hi hs B y he=>by
  have mu:s≤1048576:=by have:=YX v.2.1 id i;omega
  have hnl:=fZ hi
  have inner:=sL (ax (J I v.2.1 i)).length 1 (fun m j (s:Nat)=>(pe m).dJ id (s:Int) v.2.1 (v.2.1.length:Int) (i:Int) (ax (J I v.2.1 i)) ((ax (J I v.2.1 i)).length:Int) (j:Int)) (fun j s=>s+cond ((J au (ax (J I v.2.1 i)) j).2.1==id) 1 0) (fun j s=>s≤1048576+j) (fun j s hj hs=>by
   cases (J au (ax (J I v.2.1 i)) j).2.1==id <;> simp <;> omega) (fun j s hj hs B y he=>by
   refine he.step fun m=>?_
   show zI (pe m) _ _ _ _ _ _ _ _=_
   unfold zI
   rw [bx hj]
   simp only [cond_true]
   rw [ba hj]
   simp only [ak]
   rw [de j (by omega),de s (by omega)]
   cases (J au (ax (J I v.2.1 i)) j).2.1==id <;> rfl) s (by omega) (B+1) y (by
   refine he.step fun m=>?_
   rw [PL _ _ _ _ (Nat.le_refl _),List.take_length]
   show zI (pe m) _ _ _ _ _ _ _ _=_
   unfold zI
   rw [b0 (Nat.le_refl _)]
   simp only [cond_false]
   rw [de i (by omega)])
  refine(inner.step (f:=fun m=>(pe m).k3 id (s:Int) v.2.1 (v.2.1.length:Int) (i:Int)) fun m=>?_).mono (by omega)
  show zH (pe m) _ _ _ _ _=_
  unfold zH
  rw [bx hi,ba hi];rfl) 0 (by simp [eE]) 1 (some ((eE v.2.1 id:Int),())) (b1.done fun m=>by
  rw [PK _ _ _ (Nat.le_refl _),List.take_length]
  show zH (pe m) _ _ _ _ _=_
  unfold zH
  rw [b0 (Nat.le_refl _)];rfl)
 have hm:v.2.1.length*(1048576+2)≤1048576*(1048576+2):=Nat.mul_le_mul_right _ hl
 exact kV key (by omega)
abbrev Flags:Type:=List Bool
def T(xs:Flags)(i:Nat):Prop:=J .bool xs i=true
theorem v8{xs:Flags}{x i:Nat}(hx:x<xs.length):T (xs.set x true) i↔(i=x∨T xs i):=by
 unfold T J
 simp only [List.getD_eq_getElem?_getD,List.getElem?_set]
 by_cases h:x=i
 ·subst h;simp [hx]
 ·simp only [h,if_false]
  constructor
  ·intro h;exact .inr h
  ·rintro (rfl | h1)
   ·exact absurd rfl h
   ·exact h1
abbrev FS:Type:=Flags×Flags
section
variable(l:List a6)
def jo(i j:Nat)(s:FS):FS :=
 match bG l (J au (ax (J I l i)) j).2.1 with
 | none=>s
 | some x=>(s.1.set x true,s.2.set x true)
def iu(i:Nat)(s:FS):FS:=cond (J .bool s.2 i) (dI (ax (J I l i)).length (jo l i) s) s
def fe(s:FS):FS:=dI l.length (iu l) s
def FS.gi(n:Nat)(s:FS):Prop:=s.1.length=n∧s.2.length=n
theorem HW{n i j:Nat}{s:FS}(h:s.gi n):(jo l i j s).gi n:=by
 unfold jo;split
 ·exact h
 ·exact⟨by simpa using h.1,by simpa using h.2⟩
theorem HX{n i:Nat}{s:FS}(h:s.gi n):(iu l i s).gi n:=by
 unfold iu
 cases J .bool s.2 i
 ·exact h
 ·exact sK (fun _ s=>FS.gi n s) (fun i s _ hs=>HW l hs) h
theorem PM{n:Nat}{s:FS}(h:s.gi n):(fe l s).gi n:=sK (fun _ s=>FS.gi n s) (fun i s _ hs=>HX l hs) h
theorem ak9(v:af.D)(hl:v.2.1.length≤1048576)(hn:dt v.2.1≤1048576)(s:FS)(h:s.gi v.2.1.length) :
  (j5 aK).cY 0 v s.1 s.2=some ((dI v.2.1.length (fun _=>fe v.2.1) s).1,()):=by
 have key:=sL v.2.1.length (v.2.1.length*1048580+2) (fun m k (s:FS)=>(j5 m).cY (k:Int) v s.1 s.2) (fun _=>fe v.2.1) (fun _ s=>s.gi v.2.1.length) (fun _ s _ hs=>PM v.2.1 hs) (fun k s hk hs B y he=>by
  have inner:=sL v.2.1.length 1048580 (fun m i (s:FS)=>(j5 m).cC (k:Int) (i:Int) v s.1 s.2) (iu v.2.1) (fun _ s=>s.gi v.2.1.length) (fun _ s _ hs=>HX v.2.1 hs) (fun i s hi hs B y he=>by
   have hnl:=fZ hi
   cases ho:J .bool s.2 i
   ·refine(he.step (f:=fun m=>(j5 m).cC (k:Int) (i:Int) v s.1 s.2) fun m=>?_).mono (by omega)
    show u6 (j5 m) _ _ _ _ _=_
    unfold u6
    have fG:aL s.2.length (i:Int)=some i:=ba (by rw [hs.2];exact hi)
    rw [bx hi,fG]
    simp only [cond_true,ak,Nat.zero_add,ho,Bool.not_false]
    rw [de i (by omega)]
    unfold iu;rw [ho];rfl
   ·have hst:iu v.2.1 i s=dI (ax (J I v.2.1 i)).length (jo v.2.1 i) s:=by unfold iu;rw [ho];rfl
    rw [hst] at he
    have inj:=sL (ax (J I v.2.1 i)).length 1 (fun m j (s:FS)=>(j5 m).E9 (k:Int) (i:Int) (j:Int) v s.1 s.2) (jo v.2.1 i) (fun _ s=>s.gi v.2.1.length) (fun _ s _ hs=>HW v.2.1 hs) (fun j s hj hs B y he=>by
     refine he.step fun m=>?_
     show z8 (j5 m) _ _ _ _ _ _=_
     unfold z8
     rw [ba hi]
     simp only [ak]
     show cond (decide ((j:Int)<((ax (J I v.2.1 i)).length:Int))) ((aL (ax (J I v.2.1 i)).length (j:Int)).bind _) _=_
     rw [bx hj]
     simp only [cond_true]
     rw [ba hj]
     simp only [ak]
     rw [ow v _ hl]
     simp only [ak,AQ]
     rw [de j (by omega)]
     show cond (bG v.2.1 (J au (ax (J I v.2.1 i)) j).2.1).isSome _ _=_
     unfold jo
     cases hx:bG v.2.1 (J au (ax (J I v.2.1 i)) j).2.1 with
     | none=>rfl
     | some x =>
      have hxl:=(cq hx).1
      simp only [Option.isSome_some,cond_true]
      have hx2:bG v.2.1 (J au (J I v.2.1 i).2.2.2.2.2.2.1 j).2.1=some x:=hx
      rw [hx2]
      show((aL s.1.length ((x:Nat):Int)).bind _)=_
      rw [ba (by rw [hs.1];exact hxl)]
      simp only [ak]
      show((aL s.2.length ((x:Nat):Int)).bind _)=_
      rw [ba (by rw [hs.2];exact hxl)]
      simp only [ak,Nat.zero_add]) s hs (B+1) y (by
     refine he.step fun m=>?_
     show z8 (j5 m) _ _ _ _ _ _=_
     unfold z8
     rw [ba hi]
     simp only [ak]
     show cond (decide (((ax (J I v.2.1 i)).length:Int)<((ax (J I v.2.1 i)).length:Int))) _ _=_
     rw [b0 (Nat.le_refl _)]
     simp only [cond_false]
     rw [de i (by omega)])
    refine(inj.step (f:=fun m=>(j5 m).cC (k:Int) (i:Int) v s.1 s.2) fun m=>?_).mono (by omega)
    show u6 (j5 m) _ _ _ _ _=_
    unfold u6
    have fG:aL s.2.length (i:Int)=some i:=ba (by rw [hs.2];exact hi)
    rw [bx hi,fG]
    simp only [cond_true,ak,Nat.zero_add,ho,Bool.not_true,cond_false]
    rfl) s hs (B+1) y (by
   refine he.step fun m=>?_
   show u6 (j5 m) _ _ _ _ _=_
   unfold u6
   rw [b0 (Nat.le_refl _)]
   simp only [cond_false]
   rw [de k (by omega)];rfl)
  refine(inner.step (f:=fun m=>(j5 m).cY (k:Int) v s.1 s.2) fun m=>?_).mono (by omega)
  show z7 (j5 m) _ _ _ _=_
  unfold z7
  rw [bx hk];rfl) s h 1 (some ((dI v.2.1.length (fun _=>fe v.2.1) s).1,())) (b1.done fun m=>by
  show z7 (j5 m) _ _ _ _=_
  unfold z7
  rw [b0 (Nat.le_refl _)];rfl)
 have h1:v.2.1.length*1048580≤1048576*1048580:=Nat.mul_le_mul_right _ hl
 have hm:v.2.1.length*(v.2.1.length*1048580+2)≤1048576*(1048576*1048580+2):=Nat.mul_le_mul hl (Nat.add_le_add_right h1 2)
 have wU:=Nat.le_trans hm (by decide:1048576*(1048576*1048580+2)≤4611686018427387000)
 generalize v.2.1.length*(v.2.1.length*1048580+2)=X at *
 exact kV key (by omega)
def fH(n:Nat):Flags:=List.replicate n false
def e_(id:Int):Flags :=
 match bG l id with
 | none=>fH l.length
 | some a=>(dI l.length (fun _=>fe l) (fH l.length,(fH l.length).set a true)).1
theorem YY(v:af.D)(id:Int)(hl:v.2.1.length≤1048576)(hn:dt v.2.1≤1048576):E' (v,id,())=some (e_ v.2.1 id,()):=by
 show E_ (j5 aK) v id=_
 unfold E_
 have hr:(decide (0≤(v.2.1.length:Int))&&decide ((v.2.1.length:Int)=(v.2.1.length:Int))&&room (Int.toNat (v.2.1.length:Int)))=true:=by
  rw [Int.toNat_natCast,ck (by omega),decide_eq_true (by omega),decide_eq_true rfl];rfl
 rw [hr]
 simp only [cond_true]
 rw [ow v id hl]
 simp only [ak,AP,Int.toNat_natCast]
 unfold e_
 cases ha:bG v.2.1 id with
 | none=>rfl
 | some a =>
  simp only [Option.isNone_some,cond_false,hY]
  rw [List.length_replicate,ba (cq ha).1]
  simp only [ak,Nat.zero_add]
  exact ak9 v hl hn (fH v.2.1.length,(fH v.2.1.length).set a true) ⟨by simp [fH],by simp [fH]⟩
end
theorem gX{t:aa}{xs:List t.D}{i:Nat}(h:i<xs.length):J t xs i∈xs:=by rw [di h];exact List.getElem_mem h
theorem jL{t:aa}{xs:List t.D}{x:t.D}(h:x∈xs):∃i,i<xs.length∧J t xs i=x:=by
 obtain ⟨i,hi,he⟩:=List.mem_iff_getElem.1 h
 exact⟨i,hi,by rw [di hi];exact he⟩
def E(l:List a6)(a b:Int):Prop:=∃i d,bG l a=some i∧d∈ax (J I l i)∧d.2.1=b
abbrev iR(l:List a6)(a b:Int):Prop:=Relation.TransGen (E l) a b
def ox(l:List a6):Prop:=∀x,x<l.length→bG l (J I l x).1=some x
def sM(l:List a6):Prop:=∀i,i<l.length→∀d,d∈ax (J I l i)→(bG l d.2.1).isSome=true
section
variable(l:List a6)
theorem YZ{xs:Flags}{x i:Nat}(h:T xs i):T (xs.set x true) i:=by
 by_cases hx:x<xs.length
 ·exact(v8 hx).2 (.inr h)
 ·rwa [List.set_eq_of_length_le (by omega)]
def FS.le(s aq:FS):Prop:=(∀i,T s.1 i→T aq.1 i)∧(∀i,T s.2 i→T aq.2 i)
theorem FS.le.HY{s:FS} : s.le s:=⟨fun _ h=>h,fun _ h=>h⟩
theorem FS.le.Li{s aq Y0:FS}(h:s.le aq)(k:aq.le Y0):s.le Y0:=⟨fun i hi=>k.1 i (h.1 i hi),fun i hi=>k.2 i (h.2 i hi)⟩
theorem AR{f:Nat→FS→FS}(h:∀i s,FS.le s (f i s))(s:FS):∀n,FS.le s (dI n f s)
 | 0=>.HY
 | n+1=>(AR h s n).Li (h n _)
theorem Y1{f:Nat→FS→FS}(h:∀i s,FS.le s (f i s))(s:FS){i n:Nat}(hi:i<n):FS.le (f i (dI i f s)) (dI n f s):=by
 induction n with
 | zero=>omega
 | succ n ih =>
  by_cases h1:i=n
  ·subst h1;exact .HY
  ·exact(ih (by omega)).Li (h n _)
theorem Y2(i j:Nat)(s:FS):FS.le s (jo l i j s):=by
 unfold jo;split
 ·exact .HY
 ·exact⟨fun _ h=>YZ h,fun _ h=>YZ h⟩
theorem PN(i:Nat)(s:FS):FS.le s (iu l i s):=by
 unfold iu
 cases J .bool s.2 i
 ·exact .HY
 ·exact AR (Y2 l i) s _
theorem HZ(s:FS):FS.le s (fe l s):=AR (PN l) s _
theorem ak_{s:FS}(hs:s.gi l.length){i x:Nat}(hi:i<l.length)(ho:T s.2 i){d:au.D}(ah:d∈ax (J I l i))(hx:bG l d.2.1=some x):T (fe l s).1 x∧T (fe l s).2 x:=by
 have h1:=Y1 (PN l) s hi
 have ht:T (dI i (iu l) s).2 i:=(AR (PN l) s i).2 i ho
 have l1:(dI i (iu l) s).gi l.length:=sK (fun _ s=>FS.gi l.length s) (fun i s _ hs=>HX l hs) hs
 generalize dI i (iu l) s=t at *
 obtain ⟨j,hj,rfl⟩:=jL ah
 have h2:=Y1 (Y2 l i) t hj
 have e:iu l i t=dI (ax (J I l i)).length (jo l i) t:=by unfold iu;rw [show J .bool t.2 i=true from ht];rfl
 rw [← e] at h2
 have qa:(dI j (jo l i) t).gi l.length:=sK (fun _ s=>FS.gi l.length s) (fun i s _ hs=>HW l hs) l1
 generalize dI j (jo l i) t=u at *
 have hs:jo l i j u=(u.1.set x true,u.2.set x true):=by unfold jo;rw [hx]
 rw [hs] at h2
 have hxl:=(cq hx).1
 exact⟨h1.1 x (h2.1 x ((v8 (by rw [qa.1];exact hxl)).2 (.inl rfl))),h1.2 x (h2.2 x ((v8 (by rw [qa.2];exact hxl)).2 (.inl rfl)))⟩
theorem Y3(Pi fI:Nat→Prop)(v_:∀i,i<l.length→fI i→∀d,d∈ax (J I l i)→∀x,bG l d.2.1=some x→Pi x∧fI x){s:FS}(hl:s.gi l.length)(h1:∀i,T s.1 i→Pi i)(h2:∀i,T s.2 i→fI i) :
  (∀i,T (fe l s).1 i→Pi i)∧(∀i,T (fe l s).2 i→fI i):=by
 have key:(fe l s).gi l.length∧(∀i,T (fe l s).1 i→Pi i)∧(∀i,T (fe l s).2 i→fI i):=by
  refine sK (fun _ (s:FS)=>s.gi l.length∧(∀i,T s.1 i→Pi i)∧(∀i,T s.2 i→fI i)) (fun i s hi hs=>?_) ⟨hl,h1,h2⟩
  obtain ⟨hl,h1,h2⟩:=hs
  refine⟨HX l hl,?_⟩
  cases ho:J .bool s.2 i
  ·rw [show iu l i s=s by unfold iu;rw [ho];rfl];exact⟨h1,h2⟩
  ·rw [show iu l i s=dI (ax (J I l i)).length (jo l i) s by unfold iu;rw [ho];rfl]
   have:=sK (n:=(ax (J I l i)).length) (f:=jo l i) (fun _ (s:FS)=>s.gi l.length∧(∀i,T s.1 i→Pi i)∧(∀i,T s.2 i→fI i)) (fun j t hj ht=>by
    obtain ⟨hl,g1,g2⟩:=ht
    refine⟨HW l hl,?_⟩
    unfold jo
    split
    ·exact⟨g1,g2⟩
    ·rename_i x hx
     obtain ⟨dQ,e5⟩:=v_ i hi (h2 i ho) _ (gX hj) x hx
     have hxl:=(cq hx).1
     refine⟨fun k hk=>?_,fun k hk=>?_⟩
     ·rcases (v8 (by rw [hl.1];exact hxl)).1 hk with rfl | hk
      ·exact dQ
      ·exact g1 k hk
     ·rcases (v8 (by rw [hl.2];exact hxl)).1 hk with rfl | hk
      ·exact e5
      ·exact g2 k hk) ⟨hl,h1,h2⟩
   exact this.2
 exact key.2
def H0(s:FS):Prop:=∀i,i<l.length→T s.2 i→∀d,d∈ax (J I l i)→∀x,bG l d.2.1=some x→T s.1 x∧T s.2 x
theorem ak'{s:FS}(hl:s.gi l.length)(h:H0 l s):H0 l (fe l s):=by
 obtain ⟨h1,h2⟩:=Y3 l (T s.1) (T s.2) h hl (fun _ h=>h) (fun _ h=>h)
 intro i hi ho d ah x hx
 obtain ⟨dQ,e5⟩:=h i hi (h2 i ho) d ah x hx
 exact⟨(HZ l s).1 x dQ,(HZ l s).2 x e5⟩
def nt(xs:Flags):Nat:=(xs.filter fun b=>b).length
theorem ala(xs:Flags):nt xs≤xs.length:=List.length_filter_le _ _
theorem Y4:∀(a b:Flags),a.length=b.length→(∀i,T a i→T b i)→nt a≤nt b∧(nt a=nt b→a=b)
 | [],[],_,_=>⟨Nat.le_refl _,fun _=>rfl⟩
 | [],_ :: _,h,_=>by simp at h
 | _ :: _,[],h,_=>by simp at h
 | x :: a,y :: b,h,bX=>by
  obtain ⟨h1,h2⟩:=Y4 a b (by simpa using h) (fun i hi=>bX (i+1) hi)
  have h0:x=true→y=true:=fun hx=>bX 0 hx
  unfold nt at *
  cases x <;> cases y <;> simp only [List.filter_cons,if_true,Bool.false_eq_true,if_false,List.length_cons]
  ·exact⟨h1,fun h=>by rw [h2 h]⟩
  ·exact⟨by omega,fun h=>by omega⟩
  ·exact absurd (h0 rfl) (by simp)
  ·exact⟨by omega,fun h=>by rw [h2 (by omega)]⟩
theorem alb{xs:Flags}{i:Nat}(h:T xs i):1≤nt xs:=by
 have hm:true∈xs:=by
  unfold T J at h
  rw [List.getD_eq_getElem?_getD] at h
  cases hx:xs[i]? with
  | none=>rw [hx] at h;simp at h;cases h
  | some b =>
   rw [hx] at h
   have hb:b=true:=h
   subst hb
   exact List.mem_of_getElem? hx
 unfold nt
 exact List.length_pos_of_mem (List.mem_filter.2 ⟨hm,rfl⟩)
theorem rounds(s:FS)(hl:s.gi l.length)(h:1≤nt s.2):∀k,(dI k (fun _=>fe l) s).gi l.length∧(H0 l (dI k (fun _=>fe l) s)∨k+1≤nt (dI k (fun _=>fe l) s).2)
 | 0=>⟨hl,.inr h⟩
 | k+1=>by
  obtain ⟨hk,ih⟩:=rounds s hl h k
  rw [dI]
  generalize dI k (fun _=>fe l) s=t at *
  have hr:=PM l hk
  refine⟨hr,?_⟩
  rcases ih with ih | ih
  ·exact .inl (ak' l hk ih)
  ·obtain ⟨c1,gv⟩:=Y4 t.2 (fe l t).2 (by rw [hk.2,hr.2]) (HZ l t).2
   by_cases hc:nt t.2=nt (fe l t).2
   ·left
    have e:=gv hc
    intro i hi ho d ah x hx
    rw [← e] at ho
    exact ak_ l hk hi ho ah hx
   ·right;omega
theorem PO(Pi fI:Nat→Prop)(v_:∀i,i<l.length→fI i→∀d,d∈ax (J I l i)→∀x,bG l d.2.1=some x→Pi x∧fI x)(s:FS)(hl:s.gi l.length)(h1:∀i,T s.1 i→Pi i)(h2:∀i,T s.2 i→fI i) :
  ∀k,(dI k (fun _=>fe l) s).gi l.length∧(∀i,T (dI k (fun _=>fe l) s).1 i→Pi i)∧(∀i,T (dI k (fun _=>fe l) s).2 i→fI i)
 | 0=>⟨hl,h1,h2⟩
 | k+1=>by
  obtain ⟨g,g1,g2⟩:=PO Pi fI v_ s hl h1 h2 k
  exact⟨PM l g,Y3 l Pi fI v_ g g1 g2⟩
theorem alc(s:FS):∀k,FS.le s (dI k (fun _=>fe l) s):=AR (fun _ s=>HZ l s) s
theorem PQ(n i:Nat):¬T (fH n) i:=by
 unfold T J fH
 rw [List.getD_eq_getElem?_getD,List.getElem?_replicate]
 split <;> simp [aa.zero]
theorem Y5(id:Int):(e_ l id).length=l.length:=by
 unfold e_
 split
 ·simp [fH]
 ·exact(PO l (fun _=>True) (fun _=>True) (fun _ _ _ _ _ _ _=>⟨trivial,trivial⟩) _ ⟨by simp [fH],by simp [fH]⟩ (fun _ _=>trivial) (fun _ _=>trivial) _).1.1
theorem AS(ah:ox l)(id:Int){x:Nat}(hx:x<l.length):T (e_ l id) x↔iR l id (J I l x).1:=by
 unfold e_
 cases ha:bG l id with
 | none =>
  constructor
  ·intro h;exact absurd h (PQ _ _)
  ·intro h
   have:∀b,iR l id b→False:=by
    intro b hb
    induction hb with
    | single h=>obtain ⟨i,d,h1,_⟩:=h;rw [ha] at h1;cases h1
    | tail _ _ ih=>exact ih
   exact(this _ h).elim
 | some a =>
  obtain ⟨dq,ald⟩:=cq ha
  have iS:FS.gi l.length (fH l.length,(fH l.length).set a true):=⟨by simp [fH],by simp [fH]⟩
  have ho:T ((fH l.length).set a true) a:=(v8 (by simp [fH];exact dq)).2 (.inl rfl)
  constructor
  ·intro h
   refine(PO l (fun y=>iR l id (J I l y).1) (fun y=>(J I l y).1=id∨iR l id (J I l y).1) ?_ _ iS (fun i h=>absurd h (PQ _ _)) ?_ l.length).2.1 x h
   ·intro i hi yc d lW y a_
    obtain ⟨hyl,PR⟩:=cq a_
    have he:E l (J I l i).1 (J I l y).1:=⟨i,d,ah i hi,lW,PR.symm⟩
    rcases yc with yc | yc
    ·rw [yc] at he;exact⟨.single he,.inr (.single he)⟩
    ·exact⟨yc.tail he,.inr (yc.tail he)⟩
   ·intro i hi
    rcases (v8 (by simp [fH];exact dq)).1 hi with rfl | hi
    ·exact .inl ald
    ·exact absurd hi (PQ _ _)
  ·intro h
   obtain ⟨hlen,ale⟩:=rounds l _ iS (alb ho) l.length
   have hc:H0 l (dI l.length (fun _=>fe l) (fH l.length,(fH l.length).set a true)):=by
    rcases ale with h | h
    ·exact h
    ·have:=ala (dI l.length (fun _=>fe l) (fH l.length,(fH l.length).set a true)).2
     rw [hlen.2] at this
     omega
   show T (dI l.length (fun _=>fe l) (fH l.length,(fH l.length).set a true)).1 x
   have alf:=(alc l (fH l.length,(fH l.length).set a true) l.length).2 a ho
   generalize dI l.length (fun _=>fe l) (fH l.length,(fH l.length).set a true)=F at *
   have key:∀b,iR l id b→∀y,bG l b=some y→T F.1 y∧T F.2 y:=by
    intro b hb
    induction hb with
    | single h =>
     obtain ⟨i,d,h1,h2,h3⟩:=h
     intro y a_
     rw [ha] at h1
     obtain rfl:=aX h1
     exact hc _ dq alf d h2 y (by rw [h3];exact a_)
    | tail _ h ih =>
     obtain ⟨i,d,h1,h2,h3⟩:=h
     intro y a_
     exact hc i (cq h1).1 (ih i h1).2 d h2 y (by rw [h3];exact a_)
   exact(key _ h x (ah x hx)).1
end
section
variable(l:List a6)
def gq(q:Int):List au.D :=
 match bG l q with
 | none=>[]
 | some i=>ax (J I l i)
theorem PS{a b:Int} : E l a b↔∃d,d∈gq l a∧d.2.1=b:=by
 unfold E gq
 constructor
 ·rintro ⟨i,d,h1,h2,h3⟩;rw [h1];exact⟨d,h2,h3⟩
 ·rintro ⟨d,h1,h2⟩
  cases hi:bG l a with
  | none=>rw [hi] at h1;simp at h1
  | some i=>rw [hi] at h1;exact⟨i,d,rfl,h1,h2⟩
def H4:List Int:=l.flatMap fun x=>(ax x).map fun d=>d.2.1
theorem alg:(H4 l).length=dt l:=by
 unfold H4 dt
 rw [List.length_flatMap]
 congr 1
 simp
theorem alh{q:Int}{d:au.D}(h:d∈gq l q):d.2.1∈H4 l:=by
 unfold gq at h
 cases hi:bG l q with
 | none=>rw [hi] at h;simp at h
 | some i =>
  rw [hi] at h
  exact List.mem_flatMap.2 ⟨_,gX (cq hi).1,List.mem_map.2 ⟨d,h,rfl⟩⟩
theorem ali(q:Int):(gq l q).length≤dt l:=by
 unfold gq
 split
 ·simp
 ·rename_i i hi;exact fZ (cq hi).1
def pF(out:List Int)(d:au.D):List Int:=if d.2.1∈out then out else out++[d.2.1]
structure pG(id:Int)(out:List Int):Prop where
 AT:out.Nodup
 sub:out⊆H4 l
 AU:∀b,b∈out→iR l id b
theorem pG.len{id:Int}{out:List Int}(h:pG l id out):out.length≤dt l:=by
 rw [← alg];exact h.AT.length_le_of_subset h.sub
theorem Y6{id q:Int}{out:List Int}{d:au.D}(h:pG l id out)(hq:q=id∨iR l id q)(ah:d∈gq l q):pG l id (pF out d):=by
 unfold pF
 split
 ·exact h
 ·rename_i hn
  have he:E l q d.2.1:=(PS l).2 ⟨d,ah,rfl⟩
  refine⟨?_,?_,?_⟩
  ·rw [List.nodup_append]
   refine⟨h.AT,by simp,?_⟩
   intro a ha b hb
   rw [List.mem_singleton] at hb
   subst hb
   rintro rfl
   exact hn ha
  ·intro a ha
   rcases List.mem_append.1 ha with ha | ha
   ·exact h.sub ha
   ·rw [List.mem_singleton] at ha;rw [ha];exact alh l ah
  ·intro b hb
   rcases List.mem_append.1 hb with hb | hb
   ·exact h.AU b hb
   ·rw [List.mem_singleton] at hb
    rw [hb]
    rcases hq with rfl | hq
    ·exact .single he
    ·exact hq.tail he
theorem Y7(out:List Int)(d:au.D):∃t,pF out d=out++t:=by
 unfold pF;split
 ·exact⟨[],by simp⟩
 ·exact⟨_,rfl⟩
theorem alj(out:List Int)(d:au.D):d.2.1∈pF out d:=by
 unfold pF;split
 ·assumption
 ·simp
def addN(q:Int)(out:List Int):List Int:=dI (gq l q).length (fun j o=>pF o (J au (gq l q) j)) out
theorem alk{id q:Int}{out:List Int}(h:pG l id out)(hq:q=id∨iR l id q):pG l id (addN l q out)∧(∃t,addN l q out=out++t)∧∀d,d∈gq l q→d.2.1∈addN l q out:=by
 have key:=sK (n:=(gq l q).length) (f:=fun j o=>pF o (J au (gq l q) j)) (fun j o=>pG l id o∧(∃t,o=out++t)∧∀k,k<j→(J au (gq l q) k).2.1∈o) (fun j o hj ho=>by
  obtain ⟨h1,⟨t,ht⟩,h3⟩:=ho
  refine⟨Y6 l h1 hq (gX hj),?_,?_⟩
  ·obtain ⟨cE,PT⟩:=Y7 o (J au (gq l q) j)
   exact⟨t++cE,by rw [PT,ht,List.append_assoc]⟩
  ·intro k hk
   by_cases AV:k=j
   ·subst AV;exact alj _ _
   ·obtain ⟨cE,PT⟩:=Y7 o (J au (gq l q) j)
    rw [PT]
    exact List.mem_append.2 (.inl (h3 k (by omega)))) ⟨h,⟨[],by simp⟩,fun k hk=>by omega⟩
 obtain ⟨k1,k2,k3⟩:=key
 refine⟨k1,k2,fun d ah=>?_⟩
 obtain ⟨i,hi,he⟩:=jL ah
 rw [← he];exact k3 i hi
end
structure Found(l:List a6)(id:Int)(out:List Int):Prop where
 AT:out.Nodup
 iff:∀b,b∈out↔iR l id b
 len:out.length≤dt l
theorem Y8{l:List a6}{id:Int}{out:List Int}(h:pG l id out)(hc:∀q,q=id∨q∈out→∀d,d∈gq l q→d.2.1∈out):Found l id out:=by
 refine⟨h.AT,fun b=>⟨h.AU b,fun hb=>?_⟩,h.len⟩
 induction hb with
 | single he=>obtain ⟨d,h1,rfl⟩:=(PS l).1 he;exact hc id (.inl rfl) d h1
 | tail _ he ih=>obtain ⟨d,h1,rfl⟩:=(PS l).1 he;exact hc _ (.inr ih) d h1
theorem alm(v:af.D)(hl:v.2.1.length≤1048576)(hn:dt v.2.1≤1048576)(id:Int):∀(r i:Nat) (out:List Int),i+r=dt v.2.1+1→pG v.2.1 id out→i≤out.length+1 →
  (∀k,k<i→∀d,d∈gq v.2.1 (J (.int .i64) (id :: out) k)→d.2.1∈out) →
  ∃AW,Found v.2.1 id AW∧b1 (fun m=>(mf m).bf v (i:Int) out (id :: out)) (1+r*1048580) (some (AW,())):=by
 intro r
 induction r with
 | zero =>
  intro i out hi ho aln hc
  have:=ho.len
  have ia:i=out.length+1:=by omega
  refine⟨out,Y8 ho fun q hq d ah=>?_,(b1.done fun m=>?_).mono (by omega)⟩
  ·rcases hq with rfl | hq
   ·exact hc 0 (by omega) d ah
   ·obtain ⟨k,hk,he⟩:=jL (t:=.int .i64) hq
    exact hc (k+1) (by omega) d (by rw [show J (.int .i64) (id :: out) (k+1)=J (.int .i64) out k from rfl,he];exact ah)
  ·show qu (mf m) _ _ _ _=_
   unfold qu
   rw [show(id :: out).length=i by rw [List.length_cons,ia],b0 (Nat.le_refl _)];rfl
 | succ r ih =>
  intro i out hi ho aln hc
  by_cases bY:i<out.length+1
  case neg =>
   have ia:i=out.length+1:=by omega
   refine⟨out,Y8 ho fun q hq d ah=>?_,(b1.done fun m=>?_).mono (by omega)⟩
   ·rcases hq with rfl | hq
    ·exact hc 0 (by omega) d ah
    ·obtain ⟨k,hk,he⟩:=jL (t:=.int .i64) hq
     exact hc (k+1) (by omega) d (by rw [show J (.int .i64) (id :: out) (k+1)=J (.int .i64) out k from rfl,he];exact ah)
   ·show qu (mf m) _ _ _ _=_
    unfold qu
    rw [show(id :: out).length=i by rw [List.length_cons,ia],b0 (Nat.le_refl _)];rfl
  generalize hq:J (.int .i64) (id :: out) i=q at *
  have Y9:q=id∨iR v.2.1 id q:=by
   cases i with
   | zero=>left;rw [← hq];rfl
   | succ k =>
    right
    refine ho.AU q ?_
    rw [← hq]
    exact gX (t:=.int .i64) (xs:=out) (by omega)
  obtain ⟨k1,⟨t,ht⟩,k3⟩:=alk v.2.1 ho Y9
  have hpre:∀k,k<out.length+1→J (.int .i64) (id ::(out++t)) k=J (.int .i64) (id :: out) k:=by
   intro k hk
   unfold J
   rw [List.getD_eq_getElem?_getD,List.getD_eq_getElem?_getD,← List.cons_append,List.getElem?_append_left (by simpa using hk)]
  obtain ⟨AW,f1,f2⟩:=ih (i+1) (addN v.2.1 q out) (by omega) k1 (by rw [ht];simp;omega) (fun k hk d ah=>by
   by_cases ly:k=i
   ·subst ly
    rw [ht,hpre k bY,hq] at ah
    exact k3 d ah
   ·rw [ht,hpre k (by omega)] at ah
    rw [ht]
    exact List.mem_append.2 (.inl (hc k (by omega) d ah)))
  refine⟨AW,f1,?_⟩
  have hol:=ho.len
  have oy:i<4000000000000000000:=by omega
  cases hx:bG v.2.1 q with
  | none =>
   have pH:gq v.2.1 q=[]:=by unfold gq;rw [hx]
   have H5:addN v.2.1 q out=out:=by unfold addN;rw [pH];rfl
   rw [H5] at f2
   refine(f2.step (f:=fun m=>(mf m).bf v (i:Int) out (id :: out)) fun m=>?_).mono (by omega)
   show qu (mf m) _ _ _ _=_
   unfold qu
   rw [bx (by simpa using bY),ba (by simpa using bY)]
   simp only [cond_true,ak,Nat.zero_add]
   rw [hq,ya v q hl]
   simp only [ak]
   rw [hx,de i oy];rfl
  | some x =>
   have pH:gq v.2.1 q=ax (J I v.2.1 x):=by unfold gq;rw [hx]
   have hnl:=ali v.2.1 q
   have inner:=sL (gq v.2.1 q).length 1 (fun m j (o:List Int)=>(mf m).eb v (i:Int) (gq v.2.1 q) ((gq v.2.1 q).length:Int) (j:Int) o (id :: o)) (fun j o=>pF o (J au (gq v.2.1 q) j)) (fun j o=>pG v.2.1 id o) (fun j o hj ho=>Y6 v.2.1 ho Y9 (gX hj)) (fun j o hj ho B y he=>by
    refine he.step fun m=>?_
    have hol:=ho.len
    show zG (mf m) _ _ _ _ _ _ _=_
    unfold zG
    rw [bx hj,ba hj]
    simp only [cond_true,ak]
    rw [contains_eq _ _ (by omega)]
    simp only [ak]
    rw [de j (by omega)]
    unfold pF
    by_cases hm:(J au (gq v.2.1 q) j).2.1∈o
    ·rw [decide_eq_true hm,if_pos hm];rfl
    ·rw [decide_eq_false hm,if_neg hm,ck (by simp;omega),ck (by simp;omega)];rfl) out ho (1+r*1048580+1) (some (AW,())) (by
    refine f2.step fun m=>?_
    show zG (mf m) _ _ _ _ _ _ _=_
    unfold zG
    rw [b0 (Nat.le_refl _)]
    simp only [cond_false]
    rw [de i oy];rfl)
   refine(inner.step (f:=fun m=>(mf m).bf v (i:Int) out (id :: out)) fun m=>?_).mono (by omega)
   show qu (mf m) _ _ _ _=_
   unfold qu
   rw [bx (by simpa using bY),ba (by simpa using bY)]
   simp only [cond_true,ak,Nat.zero_add]
   rw [hq,ya v q hl]
   simp only [ak]
   rw [hx,pH];rfl
theorem PU(v:af.D)(hl:v.2.1.length≤1048576)(hn:dt v.2.1≤1048576)(id:Int):∃out,Found v.2.1 id out∧uG (v,id,())=some (out,()):=by
 obtain ⟨out,h1,h2⟩:=alm v hl hn id (dt v.2.1+1) 0 [] (by omega) ⟨by simp,by simp,by simp⟩ (by simp) (fun k hk=>by omega)
 refine⟨out,h1,?_⟩
 show DA (mf aK) v id=_
 unfold DA
 have hm:(dt v.2.1+1)*1048580≤1048577*1048580:=Nat.mul_le_mul_right _ (by omega)
 exact kV h2 (by omega)
theorem AX{β : Type}(n W:Nat)(F:Nat→Nat → β)(P:Nat→Bool)(no E : β)(B:Nat)
  (hs:∀i,i<n→(∀j,j<i→P j=true)→P i=true→∀B y,b1 (fun m=>F m (i+1)) B y→b1 (fun m=>F m i) (B+W) y)
  (hx:∀i,i<n→(∀j,j<i→P j=true)→P i=false→b1 (fun m=>F m i) W no)
  (oe:(∀j,j<n→P j=true)→b1 (fun m=>F m n) B E):b1 (fun m=>F m 0) (B+n*W) (cond (eJ n P) E no):=by
 have key:∀r i,i+r=n→(∀j,j<i→P j=true)→b1 (fun m=>F m i) (B+r*W) (cond (eJ n P) E no):=by
  intro r
  induction r with
  | zero =>
   intro i hi av
   have:i=n:=by omega
   subst this
   rw [ka.2 av]
   simpa using oe av
  | succ r ih =>
   intro i hi av
   cases H6:P i
   ·have:eJ n P=false:=by
     rw [← Bool.not_eq_true]
     intro h
     have:=ka.1 h i (by omega)
     rw [H6] at this;cases this
    rw [this]
    refine(hx i (by omega) av H6).mono ?_
    rw [Nat.add_one_mul];omega
   ·have:=hs i (by omega) av H6 _ _ (ih (i+1) (by omega) fun j hj=>by
     by_cases h:j=i
     ·subst h;exact H6
     ·exact av j (by omega))
    rw [Nat.add_one_mul,← Nat.add_assoc]
    exact this
 exact key n 0 (by omega) (by intro j hj;omega)
def fJ(x:a6):Int:=x.2.2.2.2.2.2.2.1
def ff(x:a6):Int:=x.2.2.2.2.2.2.2.2.1
def plain(x:a6):Bool:=((ax x).length:Int)==0&&fJ x==0&&ff x==0
def oz(l:List a6)(N:List au.D)(j:Nat):Bool :=
 jm (J au N j).1 && !(decide (0<j) && !dv (J au N (j-1)).1 (J au N j).1) && !((J au N j).2.1==1)&&(bG l (J au N j).2.1).isSome
def sN(l:List a6)(x:a6):Bool:=eJ (ax x).length (oz l (ax x))&&decide (((ax x).length:Int)≤12)
def nu(l:List a6)(x:a6):Bool :=
 cg x.2.2.1 0 2047&&cg x.2.2.2.1 0 1000&&cg x.2.2.2.2.1 0 1000 &&
  cond (x.2.1==1) (plain x&&decide (((bS x).length:Int)≤64))
   (cond (x.2.1==3) (plain x&&jn (bS x)&&x.2.2.1==511)
    (cond (x.2.1==2) (bB (bS x) []&&cg (fJ x) 0 400&&cg (ff x) 0 24&&sN l x) false))
theorem alo(v:af.D)(x:a6)(hl:v.2.1.length≤1048576)(hn:(ax x).length≤1048576)(hs:∀d,d∈ax x→d.1.length≤1048576):Lo (v,x,())=some (sN v.2.1 x,()):=by
 show Ds (uD aK) v x=_
 unfold Ds sN
 refine ns (ax x).length (by omega) (oz v.2.1 (ax x)) _ (fun m i=>uD m v (ax x) ((ax x).length:Int) i x) ?_ ?_
 ·intro m _
  simp only [uD,Dt]
  rw [b0 (Nat.le_refl _)];rfl
 ·intro m i hi _ hw
  simp only [uD,Dt,hw]
  rw [bx hi,ba hi]
  simp only [cond_true,ak]
  rw [ak5 _ (by have:=hs _ (gX hi);omega)]
  simp only [ak]
  rw [ya v _ hl]
  simp only [ak]
  unfold oz
  cases i with
  | zero =>
   simp only [vZ,Nat.lt_irrefl,decide_false,cond_false,Bool.false_and,Bool.not_false,Bool.and_true]
   cases jm (J au (ax x) 0).1 <;> cases (J au (ax x) 0).2.1==1 <;> cases (bG v.2.1 (J au (ax x) 0).2.1) <;> rfl
  | succ i =>
   rw [show(List.length x.2.2.2.2.2.2.1)=(ax x).length from rfl,vY hi (by omega)]
   simp only [v7,Nat.zero_lt_succ,decide_true,cond_true,ak,Nat.add_sub_cancel,Bool.true_and]
   rw [show(J au x.2.2.2.2.2.2.1 i)=J au (ax x) i from rfl]
   cases jm (J au (ax x) (i+1)).1 <;> cases (J au (ax x) (i+1)).2.1==1 <;> cases (bG v.2.1 (J au (ax x) (i+1)).2.1) <;> cases dv (J au (ax x) i).1 (J au (ax x) (i+1)).1 <;> rfl
theorem alp(v:af.D)(x:a6)(hl:v.2.1.length≤1048576)(hn:(ax x).length≤1048576)(q:Nat)(hq:(ax x).length<q):(qK q).mi 0 v x=some (eJ (ax x).length (oz v.2.1 (ax x)),()):=by
 have:=ns (ax x).length (by omega) (oz v.2.1 (ax x)) true (fun m i=>(qK m).mi i v x) (by
  intro m _
  show z6 (qK m) _ _ _=_
  unfold z6
  show cond (decide (((ax x).length:Int)<((ax x).length:Int))) _ _=_
  rw [b0 (Nat.le_refl _)];rfl) (by
  intro m i hi _ hw
  show z6 (qK m) _ _ _=_
  unfold z6
  show cond (decide ((i:Int)<((ax x).length:Int))) ((aL (ax x).length (i:Int)).bind _) _=_
  rw [bx hi,ba hi]
  simp only [cond_true,ak,hw]
  rw [ak4]
  simp only [ak]
  rw [ow v _ hl]
  simp only [ak,AP]
  unfold oz
  rw [show(x.2.2.2.2.2.2.1)=ax x from rfl]
  cases i with
  | zero =>
   simp only [vZ,Nat.lt_irrefl,decide_false,cond_false,Bool.false_and,Bool.not_false,Bool.and_true]
   cases jm (J au (ax x) 0).1 <;> cases (J au (ax x) 0).2.1==1 <;> cases (bG v.2.1 (J au (ax x) 0).2.1) <;> rfl
  | succ i =>
   rw [vY hi (by omega)]
   simp only [v7,Nat.zero_lt_succ,decide_true,cond_true,ak,Nat.add_sub_cancel,Bool.true_and]
   cases jm (J au (ax x) (i+1)).1 <;> cases (J au (ax x) (i+1)).2.1==1 <;> cases (bG v.2.1 (J au (ax x) (i+1)).2.1) <;> cases dv (J au (ax x) i).1 (J au (ax x) (i+1)).1 <;> rfl) q hq
 rw [Bool.and_true] at this
 exact this
theorem Y_(v:af.D)(x:a6)(hl:v.2.1.length≤1048576)(hn:(ax x).length≤1048576):E8 (v,x,())=some (nu v.2.1 x,()):=by
 obtain ⟨q,hq,hQ⟩:=jl 1
 show E7 (qK aK) v x=_
 rw [hq]
 unfold E7
 have hk:∀b,(qK (q+1)).bf b v x=MS (qK q) b v x:=fun _=>rfl
 simp only [hk]
 unfold MS
 rw [alp v x hl hn q (by omega),YU]
 simp only [gU,ak,ky]
 congr 2
 unfold nu sN plain fJ ff bS
 rw [show(x.2.2.2.2.2.2.1)=ax x from rfl]
 generalize eJ (ax x).length (oz v.2.1 (ax x))=A
 generalize jn x.2.2.2.2.2.1=alq
 generalize bB x.2.2.2.2.2.1 []=alr
 generalize x.2.2.2.2.2.1.length=als
 generalize (ax x).length=alu
 generalize x.2.2.2.2.2.2.2.1=alv
 generalize x.2.2.2.2.2.2.2.2.1=alw
 simp only [cg]
 rw [Bool.eq_iff_iff]
 simp only [Bool.cond_eq_ite,Bool.ite_eq_true_distrib,Bool.and_eq_true,Bool.or_eq_true,Bool.not_eq_true',decide_eq_true_eq,beq_iff_eq,decide_eq_false_iff_not]
 grind (splits:=60)
theorem Y'(v:af.D)(x:a6)(hl:v.2.1.length≤1048576)(hn:(ax x).length≤1048576)(hs:∀d,d∈ax x→d.1.length≤1048576)(ah:(bS x).length≤1048576):Dw (v,x,())=some (nu v.2.1 x,()):=by
 obtain ⟨q,hq,hQ⟩:=jl 1
 show Dv (zF aK) v x=_
 rw [hq]
 unfold Dv
 simp only [zF,Lp]
 rw [alo v x hl hn hs,PF _ (by unfold bS at ah;omega)]
 simp only [gE,ak,ky]
 congr 2
 unfold nu sN plain fJ ff bS
 rw [show(x.2.2.2.2.2.2.1)=ax x from rfl]
 generalize eJ (ax x).length (oz v.2.1 (ax x))=A
 generalize jn x.2.2.2.2.2.1=alq
 generalize bB x.2.2.2.2.2.1 []=alr
 generalize x.2.2.2.2.2.1.length=als
 generalize (ax x).length=alu
 generalize x.2.2.2.2.2.2.2.1=alv
 generalize x.2.2.2.2.2.2.2.2.1=alw
 simp only [cg]
 rw [Bool.eq_iff_iff]
 simp only [Bool.cond_eq_ite,Bool.ite_eq_true_distrib,Bool.and_eq_true,Bool.or_eq_true,Bool.not_eq_true',decide_eq_true_eq,beq_iff_eq,bne_iff_ne,decide_eq_false_iff_not]
 grind (splits:=60)
section
variable(l:List a6)
def q'(F:Flags):List Nat:=(List.range l.length).filter fun i=>J .bool F i
def dl(i:Nat):Nat:=(bS (J I l i)).length
def lI(F:Flags):Nat:=((q' l F).map (dl l)).sum
def mv(F:Flags):Nat:=(q' l F).length
def pre(F:Flags)(i:Nat):List Nat:=(List.range i).filter fun i=>J .bool F i
theorem PV(F:Flags)(i:Nat):pre F (i+1)=pre F i++cond (J .bool F i) [i] []:=by
 unfold pre
 rw [List.range_succ,List.filter_append]
 cases h:J .bool F i <;> simp [List.filter_cons,h]
theorem Za(F:Flags){i:Nat}(hi:i≤l.length):((pre F i).map (dl l)).sum≤bytesOf (l.take i)∧(pre F i).length≤i:=by
 induction i with
 | zero=>simp [pre]
 | succ i ih =>
  obtain ⟨h1,h2⟩:=ih (by omega)
  rw [PV,yb (by omega)]
  cases J .bool F i
  ·simp only [cond_false,List.append_nil];omega
  ·simp only [cond_true,List.map_append,List.sum_append_nat,List.length_append,List.map_cons,List.map_nil,List.sum_cons,List.sum_nil,List.length_cons,List.length_nil]
   have:dl l i=(bS (J I l i)).length:=rfl
   omega
end
theorem Zb(v:af.D)(id:Int)(hl:v.2.1.length≤1048576)(hn:dt v.2.1≤1048576)(hb:bytesOf v.2.1≤1048576) :
  Ac (v,id,())=some ((lI v.2.1 (e_ v.2.1 id):Int),(mv v.2.1 (e_ v.2.1 id):Int),()):=by
 show Fg (u_ aK) v id=_
 unfold Fg
 rw [YY v id hl hn]
 simp only [ak]
 have hF:=Y5 v.2.1 id
 generalize e_ v.2.1 id=F at *
 have:=mr v.2.1.length (by omega) (fun m i=>u_ m (((pre F i.toNat).map (dl v.2.1)).sum:Nat) ((pre F i.toNat).length:Nat) i v F) (fun _=>some ((lI v.2.1 F:Int),(mv v.2.1 F:Int),())) (fun _=>True) (fun m _=>by
  simp only [u_,Fh]
  rw [hF,b0 (Nat.le_refl _)];rfl) (fun m i hi _ hw ih=>by
  have ih:=ih trivial
  simp only [u_,Fh,hw]
  rw [hF,bx hi,ba hi]
  simp only [cond_true,ak,Int.toNat_natCast,Nat.zero_add]
  rw [show((i:Int)+1).toNat=i+1 by omega,PV] at ih
  have h1:=Za v.2.1 F (i:=i) (by omega)
  have h3:=Za v.2.1 F (i:=i+1) (by omega)
  have h2:=HT v.2.1 (i+1)
  rw [PV] at h3
  cases hf:J .bool F i
  ·rw [hf] at ih
   simp only [cond_false,List.append_nil] at ih ⊢
   exact ih
  ·rw [hf] at ih h3
   simp only [cond_true,List.map_append,List.sum_append_nat,List.length_append,List.map_cons,List.map_nil,List.sum_cons,List.sum_nil,List.length_cons,List.length_nil,Nat.add_zero,Nat.zero_add] at ih h3 ⊢
   rw [show((J I v.2.1 i).2.2.2.2.2.1).length=dl v.2.1 i from rfl,de _ (by omega),ed (by omega) (by omega),← Int.natCast_add]
   exact ih) v.2.1.length 0 aK (by omega) (jk (by omega)) trivial
 simpa [pre] using this
def nv(l:List a6)(b:Int):Nat :=
 match bG l b with
 | none=>0
 | some i=>dl l i
theorem Zc{l:List a6}(b:Int):nv l b≤bytesOf l:=by
 unfold nv
 split
 ·omega
 ·rename_i i hi
  have h1:=yb (cq hi).1
  have h2:=HT l (i+1)
  unfold dl
  omega
theorem Zd(v:af.D)(id:Int)(hl:v.2.1.length≤1048576)(hn:dt v.2.1≤1048576)(hb:bytesOf v.2.1≤1048576) :
  ∃out,Found v.2.1 id out∧zJ (v,id,())=some ((((out.map (nv v.2.1)).sum:Nat):Int),(out.length:Int),()):=by
 obtain ⟨out,hf,he⟩:=PU v hl hn id
 refine⟨out,hf,?_⟩
 show DG (qv aK) v id=_
 unfold DG
 rw [he]
 simp only [ak]
 have hol:=hf.len
 have hb2:∀i,i≤out.length→((out.take i).map (nv v.2.1)).sum≤i*1048576:=by
  intro i
  induction i with
  | zero=>intro _;simp
  | succ i ih =>
   intro hi
   rw [List.take_succ_eq_append_getElem (by omega),List.map_append,List.sum_append_nat]
   have:=ih (by omega)
   have:=Zc (l:=v.2.1) out[i]
   simp only [List.map_cons,List.map_nil,List.sum_cons,List.sum_nil]
   omega
 have:=mr out.length (by omega) (fun m i=>qv m v (((out.take i.toNat).map (nv v.2.1)).sum:Nat) (out.length:Int) i out) (fun _=>some ((((out.map (nv v.2.1)).sum:Nat):Int),(out.length:Int),())) (fun _=>True) (fun m _=>by
  simp only [qv,DH]
  rw [b0 (Nat.le_refl _)]
  simp only [Int.toNat_natCast,List.take_length,cond_false]) (fun m i hi _ hw ih=>by
  have ih:=ih trivial
  simp only [qv,DH,hw]
  rw [bx hi,ba hi]
  simp only [cond_true,ak,Int.toNat_natCast,Nat.zero_add]
  rw [ya v _ hl]
  simp only [ak]
  rw [show((i:Int)+1).toNat=i+1 by omega,List.take_succ_eq_append_getElem hi,List.map_append,List.sum_append_nat] at ih
  simp only [List.map_cons,List.map_nil,List.sum_cons,List.sum_nil,Nat.add_zero] at ih
  have aD:J (.int .i64) out i=out[i]:=di (t:=.int .i64) hi
  rw [aD]
  have h2:=hb2 i (by omega)
  have h3:=Zc (l:=v.2.1) out[i]
  have h4:i*1048576≤1048576*1048576:=Nat.mul_le_mul_right _ (by omega)
  unfold nv at ih h3
  cases hx:bG v.2.1 out[i] with
  | none =>
   rw [hx] at ih
   exact ih
  | some x =>
   rw [hx] at ih h3
   show qv m v (ay (_ +(((J I v.2.1 x).2.2.2.2.2.1).length:Int))) _ _ _=_
   have h3:dl v.2.1 x≤bytesOf v.2.1:=h3
   have ih:qv m v ((List.map (nv v.2.1) (out.take i)).sum+dl v.2.1 x:Nat) (out.length:Int) ((i:Int)+1) out=_:=ih
   rw [show((J I v.2.1 x).2.2.2.2.2.1).length=dl v.2.1 x from rfl,ed (by omega) (by omega),← Int.natCast_add]
   exact ih) out.length 0 aK (by omega) (jk (by omega)) trivial
 simpa using this
theorem Ze{l:List a6}(ah:ox l)(hx:sM l){id:Int}{out:List Int}(h:Found l id out):(out.map (nv l)).sum=lI l (e_ l id)∧out.length=mv l (e_ l id):=by
 have hT:((q' l (e_ l id)).map fun i=>(J I l i).1).Nodup:=by
  have h0:(q' l (e_ l id)).Nodup:=(List.nodup_range).filter _
  unfold List.Nodup at h0 ⊢
  rw [List.pairwise_map]
  refine h0.imp_of_mem fun {a b} ha hb lp he=>lp ?_
  have ha:=(List.mem_filter.1 ha).1
  have hb:=(List.mem_filter.1 hb).1
  have h1:=ah a (by simpa using ha)
  have h2:=ah b (by simpa using hb)
  rw [he,h2] at h1
  exact(aX h1).symm
 have av:out.Perm ((q' l (e_ l id)).map fun i=>(J I l i).1):=by
  rw [List.perm_ext_iff_of_nodup h.AT hT]
  intro b
  rw [h.iff]
  constructor
  ·intro hb
   have hex:∃i,bG l b=some i:=by
    cases hb with
    | single he=>obtain ⟨i,d,h1,h2,rfl⟩:=he;exact Option.isSome_iff_exists.1 (hx i (cq h1).1 d h2)
    | tail _ he=>obtain ⟨i,d,h1,h2,rfl⟩:=he;exact Option.isSome_iff_exists.1 (hx i (cq h1).1 d h2)
   obtain ⟨i,hi⟩:=hex
   obtain ⟨h1,h2⟩:=cq hi
   refine List.mem_map.2 ⟨i,List.mem_filter.2 ⟨by simpa using h1,?_⟩,h2⟩
   exact(AS l ah id h1).2 (by rw [h2];exact hb)
  ·intro hb
   obtain ⟨i,hi,rfl⟩:=List.mem_map.1 hb
   obtain ⟨h1,h2⟩:=List.mem_filter.1 hi
   exact(AS l ah id (by simpa using h1)).1 h2
 refine⟨?_,by rw [av.length_eq,List.length_map];rfl⟩
 rw [(av.map (nv l)).sum_nat,List.map_map]
 unfold lI
 congr 1
 refine List.map_congr_left fun i hi=>?_
 have h1:=(List.mem_filter.1 hi).1
 show nv l (J I l i).1=dl l i
 unfold nv
 rw [ah i (by simpa using h1)]
def kb(l:List a6)(x:a6):Bool :=
 (decide (fJ x>0)&&decide ((lI l (e_ l x.1):Int)>fJ x))||(decide (ff x>0)&&decide ((mv l (e_ l x.1):Int)>ff x))
def iT(l:List a6):Bool:=cond (eJ l.length fun i => !kb l (J I l i)) false true
theorem alx(v:af.D)(x:a6)(hl:v.2.1.length≤1048576)(hn:dt v.2.1≤1048576)(hb:bytesOf v.2.1≤1048576)(ah:ox v.2.1)(hx:sM v.2.1):Lt (v,x,())=some (kb v.2.1 x,()):=by
 show Ls v x=_
 unfold Ls
 obtain ⟨out,hf,he⟩:=Zd v x.1 hl hn hb
 rw [he]
 obtain ⟨h1,h2⟩:=Ze ah hx hf
 rw [h1,h2]
 simp only [ak,ky]
 congr 2
 unfold kb fJ ff
 generalize (lI v.2.1 (e_ v.2.1 x.1):Int)=B
 generalize (mv v.2.1 (e_ v.2.1 x.1):Int)=N
 rw [Bool.eq_iff_iff]
 simp only [Bool.cond_eq_ite,Bool.ite_eq_true_distrib,Bool.and_eq_true,Bool.or_eq_true,decide_eq_true_eq]
 grind
theorem Zf(v:af.D)(hl:v.2.1.length≤1048576)(hn:dt v.2.1≤1048576)(hb:bytesOf v.2.1≤1048576)(ah:ox v.2.1)(hx:sM v.2.1):zK (v.2.1,v,())=some (iT v.2.1,()):=by
 show Lv v.2.1 v=_
 unfold Lv
 have h:Lu (v.2.1,v,())=some (hY (e9 v.2.1.length fun i=>kb v.2.1 (J I v.2.1 i)),()):=by
  show DJ (uJ aK) v.2.1 v=_
  unfold DJ
  refine sI v.2.1.length (by omega) _ (fun o=>some (hY o,())) (fun m i=>uJ m v.2.1 v (v.2.1.length:Int) i) ?_ ?_
  ·intro m
   simp only [uJ,DK]
   rw [b0 (Nat.le_refl _)];rfl
  ·intro m i hi hw
   simp only [uJ,DK,hw]
   rw [bx hi,ba hi]
   simp only [cond_true,ak]
   rw [alx v _ hl hn hb ah hx];rfl
 rw [h]
 simp only [ak,AQ]
 congr 2
 unfold iT
 cases hf:e9 v.2.1.length fun i=>kb v.2.1 (J I v.2.1 i) with
 | none =>
  rw [ka.2 (fun i hi=>by rw [lH.1 hf i hi];rfl)];rfl
 | some i =>
  obtain ⟨h1,h2,_⟩:=hW.1 hf
  have:eJ v.2.1.length (fun i => !kb v.2.1 (J I v.2.1 i))=false:=by
   rw [← Bool.not_eq_true];intro h
   have:=ka.1 h i h1
   rw [h2] at this;cases this
  rw [this];rfl
theorem Zg(v:af.D)(hl:v.2.1.length≤1048576)(hn:dt v.2.1≤1048576)(hb:bytesOf v.2.1≤1048576)(hk:∀i,i<v.2.1.length→(J I v.2.1 i).2.1≠2→fJ (J I v.2.1 i)=0∧ff (J I v.2.1 i)=0):Fj (v,())=some (iT v.2.1,()):=by
 show Fi (j6 aK) v=_
 unfold Fi
 have h0:∀x:a6,fJ x=0→ff x=0→kb v.2.1 x=false:=by
  intro x h1 h2;unfold kb;rw [h1,h2];rfl
 have Zh:∀(m i:Nat),i<v.2.1.length→(j6 (m+1)).k2 (i:Int) v=cond ((J I v.2.1 i).2.1 != 2) ((j6 m).k2 ((i+1:Nat):Int) v) (cond (fJ (J I v.2.1 i)==0) (cond (ff (J I v.2.1 i)==0) ((j6 m).k2 ((i+1:Nat):Int) v) ((j6 m).dJ (i:Int) v (J I v.2.1 i))) ((j6 m).dJ (i:Int) v (J I v.2.1 i))):=by
  intro m i hi
  show Ad (j6 m) _ _=_
  unfold Ad
  rw [bx hi,ba hi]
  simp only [cond_true,ak]
  rw [de i (by omega)];rfl
 have Zi:∀(m i:Nat) (x:a6),i<v.2.1.length→(j6 (m+1)).dJ (i:Int) v x=cond (kb v.2.1 x) (some (true,())) ((j6 m).k2 ((i+1:Nat):Int) v):=by
  intro m i x hi
  show MT (j6 m) _ _ _=_
  unfold MT
  rw [Zb v _ hl hn hb]
  simp only [ak]
  rw [de i (by omega)]
  unfold kb fJ ff
  generalize decide (x.2.2.2.2.2.2.2.1>0)=a
  generalize decide ((lI v.2.1 (e_ v.2.1 x.1):Int)>x.2.2.2.2.2.2.2.1)=b
  generalize decide (x.2.2.2.2.2.2.2.2.1>0)=c
  generalize decide ((mv v.2.1 (e_ v.2.1 x.1):Int)>x.2.2.2.2.2.2.2.2.1)=d
  cases a <;> cases b <;> cases c <;> cases d <;> rfl
 have key:=AX v.2.1.length 2 (fun m i=>(j6 m).k2 (i:Int) v) (fun i => !kb v.2.1 (J I v.2.1 i)) (some (true,())) (some (false,())) 1 (fun i hi _ av B y he=>by
  have av:kb v.2.1 (J I v.2.1 i)=false:=by simpa using av
  have bp:b1 (fun m=>(j6 m).dJ (i:Int) v (J I v.2.1 i)) (B+1) y:=he.step fun m=>by rw [Zi m i _ hi,av];rfl
  intro m hm
  obtain ⟨m,rfl⟩:∃k,m=k+1:=⟨m-1,by omega⟩
  show(j6 (m+1)).k2 (i:Int) v=y
  rw [Zh m i hi]
  have e1:=he m (by omega)
  have e2:=bp m (by omega)
  simp only at e1 e2
  rw [e1,e2]
  cases (J I v.2.1 i).2.1 != 2 <;> cases fJ (J I v.2.1 i)==0 <;> cases ff (J I v.2.1 i)==0 <;> rfl) (fun i hi _ av=>by
  have av:kb v.2.1 (J I v.2.1 i)=true:=by simpa using av
  intro m hm
  obtain ⟨m,rfl⟩:∃k,m=k+2:=⟨m-2,by omega⟩
  show(j6 (m+1+1)).k2 (i:Int) v=_
  rw [Zh (m+1) i hi,Zi m i _ hi,av]
  have k1:((J I v.2.1 i).2.1 != 2)=false:=by
   rw [bne_eq_false_iff_eq]
   by_cases h:(J I v.2.1 i).2.1=2
   ·exact h
   ·obtain ⟨g1,g2⟩:=hk i hi h
    rw [h0 _ g1 g2] at av;cases av
  rw [k1]
  cases g1:fJ (J I v.2.1 i)==0 <;> cases g2:ff (J I v.2.1 i)==0 <;> try rfl
  rw [h0 _ (by simpa using g1) (by simpa using g2)] at av;cases av) (fun _=>b1.done fun m=>by
  show Ad (j6 m) _ _=_
  unfold Ad
  rw [b0 (Nat.le_refl _)];rfl)
 have:=kV key (by omega)
 rw [show(((0:Nat):Int))=0 from rfl] at this
 rw [this]
 unfold iT
 cases eJ v.2.1.length fun i => !kb v.2.1 (J I v.2.1 i) <;> rfl
theorem yd{α : Type}{f g : α → Nat} : ∀(l:List α),(∀x,x∈l→f x≤g x)→(l.map f).sum≤(l.map g).sum
 | [],_=>by simp
 | x :: l,h=>by
  simp only [List.map_cons,List.sum_cons]
  have:=yd l fun y a_=>h y (List.mem_cons_of_mem _ a_)
  have:=h x List.mem_cons_self
  omega
theorem H7{α : Type}{f : α → Nat} : ∀ {l:List α} {x : α},x∈l→f x≤(l.map f).sum
 | y :: l,x,h=>by
  simp only [List.map_cons,List.sum_cons]
  rcases List.mem_cons.1 h with rfl | h
  ·omega
  ·have:=H7 (f:=f) h;omega
theorem H8(x:a6):aa.cost I x=(bS x).length+aa.cost (.sl au) (ax x):=by
 simp only [fo,fp,fr,fs,gF,gj,Nat.zero_add,Nat.add_zero];rfl
theorem Zj(d:au.D):aa.cost au d=d.1.length:=by
 simp only [fo,fp,fr,fs,gF,gj,Nat.zero_add,Nat.add_zero]
def ra(x:a6):Nat:=aa.cost I x
theorem H9(v:af.D):aa.cost af v=v.2.1.length +(v.2.1.map ra).sum:=by
 have h:aa.cost af v=aa.cost (.sl I) v.2.1:=by simp only [fo,fp,fr,fs,Nat.zero_add,Nat.add_zero]
 rw [h,oA]
 rfl
structure PW(v:af.D):Prop where
 len:v.2.1.length≤1048576
 db:dt v.2.1≤1048576
 bytes:bytesOf v.2.1≤1048576
 each:∀x,x∈v.2.1→(ax x).length≤1048576∧(bS x).length≤1048576∧∀d,d∈ax x→d.1.length≤1048576
theorem Zk{v:af.D}(h:aa.cost af v≤1048576):PW v:=by
 rw [H9] at h
 refine⟨by omega,?_,?_,fun x hx=>?_⟩
 ·have:=yd (f:=fun y:a6=>(ax y).length) (g:=ra) v.2.1 fun x _=>by
   unfold ra;rw [H8];have:=iU (t:=au) (ax x);omega
  unfold dt;omega
 ·have:=yd (f:=fun y:a6=>(bS y).length) (g:=ra) v.2.1 fun x _=>by
   unfold ra;rw [H8];omega
  unfold bytesOf;omega
 ·have h1:=H7 (f:=ra) hx
  unfold ra at h1
  rw [H8] at h1
  have h:v.2.1.length +(v.2.1.map fun y=>aa.cost I y).sum≤1048576:=h
  have h1:(bS x).length+aa.cost (.sl au) (ax x)≤(v.2.1.map fun y=>aa.cost I y).sum:=h1
  have h2:=iU (t:=au) (ax x)
  refine⟨by omega,by omega,fun d ah=>?_⟩
  obtain ⟨i,hi,he⟩:=jL ah
  have h3:=rb (t:=au) hi
  rw [he,Zj] at h3
  omega
def mw(v:af.D)(i:Nat):Bool :=
 cg (J I v.2.1 i).1 1 (ay (v.1-1)) && !(decide (0<i)&&decide ((J I v.2.1 (i-1)).1≥(J I v.2.1 i).1))&&nu v.2.1 (J I v.2.1 i)
def kc(l:List a6)(i:Nat):Bool :=
 J .bool (e_ l 1) (i+1) && !((J I l (i+1)).2.1==2&&((eE l (J I l (i+1)).1:Int) != 1))
def jq(v:af.D):Bool :=
 cg v.1 2 100000&&cg (v.2.1.length:Int) 1 24&&(J I v.2.1 0).1==1&&(J I v.2.1 0).2.1==2 &&
  cond (eJ v.2.1.length (mw v)) (cond (eJ (v.2.1.length-1) (kc v.2.1)) (decide ((bytesOf v.2.1:Int)≤400) && !iT v.2.1) false) false
theorem Zl{v:af.D}(h:∀j,j<v.2.1.length→mw v j=true):ox v.2.1:=by
 have bY:∀d j,j+d+1<v.2.1.length→(J I v.2.1 j).1<(J I v.2.1 (j+d+1)).1:=by
  have h1:∀j,j+1<v.2.1.length→(J I v.2.1 j).1<(J I v.2.1 (j+1)).1:=by
   intro j hj
   have:=h (j+1) hj
   unfold mw at this
   simp only [Bool.and_eq_true,Bool.not_eq_true',Bool.and_eq_false_iff,decide_eq_false_iff_not] at this
   obtain ⟨⟨_,h2⟩,_⟩:=this
   rcases h2 with h2 | h2
   ·omega
   ·rw [Nat.add_sub_cancel] at h2;exact Int.not_le.1 h2
  intro d
  induction d with
  | zero=>intro j hj;exact h1 j hj
  | succ d ih=>intro j hj;exact Int.lt_trans (ih j (by omega)) (h1 (j+d+1) hj)
 intro x hx
 unfold bG
 rw [hW]
 refine⟨hx,by simp,fun j hj=>?_⟩
 obtain ⟨d,rfl⟩:∃d,x=j+d+1:=⟨x-j-1,by omega⟩
 have:=bY d j hx
 rw [beq_eq_false_iff_ne]
 exact Int.ne_of_lt this
theorem Zm{v:af.D}(h:∀j,j<v.2.1.length→mw v j=true){i:Nat}(hi:i<v.2.1.length):nu v.2.1 (J I v.2.1 i)=true:=by
 have:=h i hi
 unfold mw at this
 simp only [Bool.and_eq_true] at this
 exact this.2
theorem Zn{l:List a6}{x:a6}(h:nu l x=true):(x.2.1≠2→fJ x=0∧ff x=0∧ax x=[])∧∀d,d∈ax x→(bG l d.2.1).isSome=true:=by
 unfold nu at h
 simp only [Bool.and_eq_true] at h
 obtain ⟨_,h⟩:=h
 have av:plain x=true→fJ x=0∧ff x=0∧ax x=[]:=by
  intro av
  unfold plain at av
  simp only [Bool.and_eq_true,beq_iff_eq] at av
  exact⟨av.1.2,av.2,List.length_eq_zero_iff.1 (by omega)⟩
 by_cases h1:x.2.1=1
 ·rw [cA h1] at h
  simp only [cond_true,Bool.and_eq_true] at h
  obtain ⟨dQ,e5,fA⟩:=av h.1
  exact⟨fun _=>⟨dQ,e5,fA⟩,by rw [fA];simp⟩
 ·rw [bV h1] at h
  by_cases h3:x.2.1=3
  ·rw [cA h3] at h
   simp only [cond_true,cond_false,Bool.and_eq_true] at h
   obtain ⟨dQ,e5,fA⟩:=av h.1.1
   exact⟨fun _=>⟨dQ,e5,fA⟩,by rw [fA];simp⟩
  ·rw [bV h3] at h
   by_cases h2:x.2.1=2
   ·rw [cA h2] at h
    simp only [cond_true,cond_false,Bool.and_eq_true] at h
    refine⟨fun hn=>absurd h2 hn,fun d ah=>?_⟩
    have hN:=h.2
    unfold sN at hN
    simp only [Bool.and_eq_true] at hN
    obtain ⟨i,hi,he⟩:=jL ah
    have:=ka.1 hN.1 i hi
    unfold oz at this
    simp only [Bool.and_eq_true] at this
    rw [← he];exact this.2
   ·rw [bV h2] at h
    simp at h
theorem aly{v:af.D}(h:∀j,j<v.2.1.length→mw v j=true):sM v.2.1:=fun i hi d ah=>(Zn (Zm h hi)).2 d ah
theorem H_{v:af.D}{i:Nat}(hi:i<v.2.1.length)(hl:v.2.1.length≤1048576)(K:Option (Bool×Unit)) :
  cond (!cg (J I v.2.1 i).1 1 (ay (v.1-1))) (some (false,()))
   (cond (decide ((i:Int)>0)) ((aL v.2.1.length (ay ((i:Int)-1))).bind fun j=>cond (decide ((J I v.2.1 j).1≥(J I v.2.1 i).1)) (some (false,())) (cond (!nu v.2.1 (J I v.2.1 i)) (some (false,())) K))
    (cond (!nu v.2.1 (J I v.2.1 i)) (some (false,())) K))=cond (mw v i) K (some (false,())):=by
 unfold mw
 cases i with
 | zero =>
  simp only [vZ,Nat.lt_irrefl,decide_false,cond_false,Bool.false_and,Bool.not_false,Bool.and_true,vX,kx]
 | succ i =>
  rw [vY hi (by omega)]
  simp only [v7,Nat.zero_lt_succ,decide_true,cond_true,ak,Nat.add_sub_cancel,Bool.true_and,vX,kx]
theorem alz(v:af.D)(hv:PW v):MU (v,())=some (jq v,()):=by
 obtain ⟨hl,hn,hb,he⟩:=hv
 show Fk (nm aK) v=_
 unfold Fk
 simp only [gU,ak]
 unfold jq
 cases h1:cg v.1 2 100000
 ·rfl
 cases h2:cg (v.2.1.length:Int) 1 24
 ·rfl
 have fX:=(dm.1 h2)
 simp only [Bool.not_true,cond_false]
 rw [show(0:Int)=((0:Nat):Int) from rfl,ba (show 0<v.2.1.length by omega)]
 simp only [ak]
 cases h3:(J I v.2.1 0).1==1
 ·rw [c4 (by simpa using h3)];rfl
 rw [dL (by simpa using h3)]
 simp only [cond_false]
 cases h4:(J I v.2.1 0).2.1==2
 ·rw [c4 (by simpa using h4)];rfl
 rw [dL (by simpa using h4)]
 simp only [cond_false,Bool.true_and]
 have key:=AX v.2.1.length 1 (fun m i=>(nm m).bf (i:Int) v) (mw v) (some (false,())) (some (cond (eJ (v.2.1.length-1) (kc v.2.1)) (decide ((bytesOf v.2.1:Int)≤400) && !iT v.2.1) false,())) (1 +(v.2.1.length-1)*1+1) (fun i hi _ av B y a_=>by
  refine a_.step fun m=>?_
  show vd (nm m) _ _=_
  unfold vd
  rw [bx hi,ba hi]
  simp only [cond_true,ak,gU]
  have hx:=he _ (gX hi)
  rw [Y_ v _ hl hx.1,de i (by omega)]
  simp only [ak]
  rw [H_ hi hl,av];rfl) (fun i hi _ av=>by
  refine b1.done fun m=>?_
  show vd (nm m) _ _=_
  unfold vd
  rw [bx hi,ba hi]
  simp only [cond_true,ak,gU]
  have hx:=he _ (gX hi)
  rw [Y_ v _ hl hx.1,de i (by omega)]
  simp only [ak]
  rw [H_ hi hl,av];rfl) (fun qn=>by
  have hF:=Y5 v.2.1 1
  have k2:=AX (v.2.1.length-1) 1 (fun m i=>(nm m).cC ((i+1:Nat):Int) v (e_ v.2.1 1)) (kc v.2.1) (some (false,())) (some (decide ((bytesOf v.2.1:Int)≤400) && !iT v.2.1,())) 1 (fun i hi _ av B y a_=>by
   refine a_.step fun m=>?_
   show ve (nm m) _ _ _=_
   unfold ve
   have gw:i+1<v.2.1.length:=by omega
   rw [bx gw,ba gw,hF,ba gw]
   simp only [cond_true,ak,Nat.zero_add]
   rw [HU v _ hl hn,de (i+1) (by omega)]
   simp only [ak]
   unfold kc at av
   simp only [Bool.and_eq_true,Bool.not_eq_true'] at av
   rw [av.1]
   have jF:=av.2
   cases g1:(J I v.2.1 (i+1)).2.1==2
   ·rfl
   ·rw [g1] at jF
    simp only [Bool.true_and] at jF
    rw [jF];rfl) (fun i hi _ av=>by
   refine b1.done fun m=>?_
   show ve (nm m) _ _ _=_
   unfold ve
   have gw:i+1<v.2.1.length:=by omega
   rw [bx gw,ba gw,hF,ba gw]
   simp only [cond_true,ak,Nat.zero_add]
   rw [HU v _ hl hn,de (i+1) (by omega)]
   simp only [ak]
   unfold kc at av
   cases g0:J .bool (e_ v.2.1 1) (i+1)
   ·rfl
   ·rw [g0] at av
    simp only [Bool.true_and,Bool.not_eq_false'] at av
    simp only [Bool.and_eq_true] at av
    rw [av.1,av.2];rfl) (fun _=>b1.done fun m=>by
   rw [show v.2.1.length-1+1=v.2.1.length by omega]
   show ve (nm m) _ _ _=_
   unfold ve
   rw [b0 (Nat.le_refl _),PH v hl hb]
   simp only [cond_false,ak]
   rw [Zg v hl hn hb (fun i hi hk=>by have:=(Zn (Zm qn hi)).1 hk;exact⟨this.1,this.2.1⟩)]
   simp only [ak,ky,AY])
  have k3:=k2.step (f:=fun m=>(nm m).bf ((v.2.1.length:Nat):Int) v) fun m=>by
   show vd (nm m) _ _=_
   unfold vd
   rw [b0 (Nat.le_refl _),YY v 1 hl hn];rfl
  rw [show cond (eJ (v.2.1.length-1) (kc v.2.1)) (some (decide ((bytesOf v.2.1:Int)≤400) && !iT v.2.1,())) (some (false,()))=some (cond (eJ (v.2.1.length-1) (kc v.2.1)) (decide ((bytesOf v.2.1:Int)≤400) && !iT v.2.1) false,()) from ky _ _ _] at k3
  exact k3)
 have:=kV key (by omega)
 rw [this,ky]
theorem Zo{l:List a6}{i:Nat} : J I (l.drop 1) i=J I l (i+1):=by
 unfold J
 rw [List.getD_eq_getElem?_getD,List.getD_eq_getElem?_getD,List.getElem?_drop,Nat.add_comm 1 i]
theorem alA(v:af.D)(hv:PW v):Lw (v,())=some (jq v,()):=by
 obtain ⟨hl,hn,hb,he⟩:=hv
 show DL (ng aK) v=_
 unfold DL
 simp only [gE,ak]
 unfold jq
 cases h1:cg v.1 2 100000
 ·rfl
 cases h2:cg (v.2.1.length:Int) 1 24
 ·rfl
 have fX:=(dm.1 h2)
 simp only [Bool.not_true,cond_false]
 rw [show(0:Int)=((0:Nat):Int) from rfl,ba (show 0<v.2.1.length by omega)]
 simp only [ak]
 cases h3:(J I v.2.1 0).1==1
 ·rw [c4 (by simpa using h3)];rfl
 rw [dL (by simpa using h3)]
 simp only [cond_false]
 cases h4:(J I v.2.1 0).2.1==2
 ·rw [c4 (by simpa using h4)];rfl
 rw [dL (by simpa using h4)]
 simp only [cond_false,Bool.true_and]
 have key:=AX v.2.1.length 1 (fun m i=>(ng m).bf v.2.1 (v.2.1.length:Int) (i:Int) v) (mw v) (some (false,())) (some (cond (eJ (v.2.1.length-1) (kc v.2.1)) (decide ((bytesOf v.2.1:Int)≤400) && !iT v.2.1) false,())) (1 +(v.2.1.length-1)*1+1) (fun i hi _ av B y a_=>by
  refine a_.step fun m=>?_
  show uL (ng m) _ _ _ _=_
  unfold uL
  rw [bx hi,ba hi]
  simp only [cond_true,ak,gE]
  have hx:=he _ (gX hi)
  rw [Y' v _ hl hx.1 hx.2.2 hx.2.1,de i (by omega)]
  simp only [ak]
  rw [H_ hi hl,av];rfl) (fun i hi _ av=>by
  refine b1.done fun m=>?_
  show uL (ng m) _ _ _ _=_
  unfold uL
  rw [bx hi,ba hi]
  simp only [cond_true,ak,gE]
  have hx:=he _ (gX hi)
  rw [Y' v _ hl hx.1 hx.2.2 hx.2.1,de i (by omega)]
  simp only [ak]
  rw [H_ hi hl,av];rfl) (fun qn=>by
  obtain ⟨out,hf,C8⟩:=PU v hl hn 1
  have hdl:(v.2.1.drop 1).length=v.2.1.length-1:=by simp
  have hol:=hf.len
  have xw:∀i,i+1<v.2.1.length→decide ((J I v.2.1 (i+1)).1∈out)=J .bool (e_ v.2.1 1) (i+1):=by
   intro i hi
   rw [Bool.eq_iff_iff,decide_eq_true_eq,hf.iff]
   exact(AS v.2.1 (Zl qn) 1 hi).symm
  have k2:=AX (v.2.1.length-1) 1 (fun m i=>(ng m).cC (v.2.1.drop 1) ((v.2.1.drop 1).length:Int) (i:Int) v out) (kc v.2.1) (some (false,())) (some (decide ((bytesOf v.2.1:Int)≤400) && !iT v.2.1,())) 1 (fun i hi _ av B y a_=>by
   refine a_.step fun m=>?_
   show uM (ng m) _ _ _ _ _=_
   unfold uM
   have gw:i+1<v.2.1.length:=by omega
   rw [bx (by omega),ba (by omega)]
   simp only [cond_true,ak]
   rw [show J I (List.drop 1 v.2.1) i=J I v.2.1 (i+1) from Zo]
   rw [contains_eq _ _ (by omega)]
   simp only [ak]
   rw [xw i gw,HV v _ hl hn,de i (by omega)]
   simp only [ak]
   unfold kc at av
   simp only [Bool.and_eq_true,Bool.not_eq_true'] at av
   rw [av.1]
   have jF:=av.2
   cases g1:(J I v.2.1 (i+1)).2.1==2
   ·rfl
   ·rw [g1] at jF
    simp only [Bool.true_and] at jF
    rw [jF];rfl) (fun i hi _ av=>by
   refine b1.done fun m=>?_
   show uM (ng m) _ _ _ _ _=_
   unfold uM
   have gw:i+1<v.2.1.length:=by omega
   rw [bx (by omega),ba (by omega)]
   simp only [cond_true,ak]
   rw [show J I (List.drop 1 v.2.1) i=J I v.2.1 (i+1) from Zo]
   rw [contains_eq _ _ (by omega)]
   simp only [ak]
   rw [xw i gw,HV v _ hl hn,de i (by omega)]
   simp only [ak]
   unfold kc at av
   cases g0:J .bool (e_ v.2.1 1) (i+1)
   ·rfl
   ·rw [g0] at av
    simp only [Bool.true_and,Bool.not_eq_false'] at av
    simp only [Bool.and_eq_true] at av
    rw [av.1,av.2];rfl) (fun _=>b1.done fun m=>by
   show uM (ng m) _ _ _ _ _=_
   unfold uM
   rw [b0 (by omega),PI v hl hb]
   simp only [cond_false,ak]
   rw [Zf v hl hn hb (Zl qn) (aly qn)]
   simp only [ak,ky,AY])
  have k3:=k2.step (f:=fun m=>(ng m).bf v.2.1 (v.2.1.length:Int) ((v.2.1.length:Nat):Int) v) fun m=>by
   show uL (ng m) _ _ _ _=_
   unfold uL
   rw [b0 (Nat.le_refl _),C8]
   simp only [cond_false,ak]
   unfold dN
   rw [if_pos ⟨by omega,by omega,Int.le_refl _⟩]
   simp only [ak,Int.toNat_natCast]
   have:part v.2.1 (Int.toNat 1) (v.2.1.length-Int.toNat 1)=v.2.1.drop 1:=AZ v.2.1 1
   rw [this];rfl
  rw [show cond (eJ (v.2.1.length-1) (kc v.2.1)) (some (decide ((bytesOf v.2.1:Int)≤400) && !iT v.2.1,())) (some (false,()))=some (cond (eJ (v.2.1.length-1) (kc v.2.1)) (decide ((bytesOf v.2.1:Int)≤400) && !iT v.2.1) false,()) from ky _ _ _] at k3
  exact k3)
 have:=kV key (by omega)
 rw [this,ky]
def ye(l:List Int)(i:Nat):Bool:=cg (J (.int .i64) l i) 0 1000
def dY(c:aP.D):Bool:=cg c.1 0 1000&&(cg c.2.1 0 1000&&(decide ((c.2.2.1.length:Int)≤4)&&eJ c.2.2.1.length (ye c.2.2.1)))
theorem Zp(a b:Int):decide (a>b) = !decide (a≤b):=by
 by_cases h:a≤b <;> simp [h] <;> omega
theorem PX(c:aP.D):Aj (c,())=some (dY c,()):=by
 show FL (vk aK) c=_
 unfold FL dY
 simp only [gU,ak]
 cases cg c.1 0 1000
 ·rfl
 cases cg c.2.1 0 1000
 ·rfl
 simp only [Bool.not_true,cond_false,Bool.true_and,Zp,kx]
 by_cases hl:(c.2.2.1.length:Int)≤4
 case neg=>rw [decide_eq_false hl];rfl
 rw [decide_eq_true hl]
 simp only [cond_true,Bool.true_and]
 have:=ns c.2.2.1.length (by omega) (ye c.2.2.1) true (fun m i=>vk m i c) (fun m _=>by
  simp only [vk,FM]
  rw [b0 (Nat.le_refl _)];rfl) (fun m i hi _ hw=>by
  simp only [vk,FM,hw]
  rw [bx hi,ba hi]
  simp only [cond_true,ak,gU,kx,ye])
 rw [Bool.and_true] at this
 exact this
theorem H'(c:aP.D):xM (c,())=some (dY c,()):=by
 show LV c=_
 unfold LV dY
 simp only [gE,ak]
 cases cg c.1 0 1000
 ·rfl
 cases cg c.2.1 0 1000
 ·rfl
 simp only [Bool.not_true,cond_false,Bool.true_and,Zp,kx]
 by_cases hl:(c.2.2.1.length:Int)≤4
 case neg=>rw [decide_eq_false hl];rfl
 rw [decide_eq_true hl]
 simp only [cond_true,Bool.true_and]
 have h:LU (c.2.2.1,())=some ((e9 c.2.2.1.length fun i => !ye c.2.2.1 i).isSome,()):=by
  show LS c.2.2.1=_
  unfold LS
  have h:LR (c.2.2.1,())=some (hY (e9 c.2.2.1.length fun i => !ye c.2.2.1 i),()):=by
   show D1 (uU aK) c.2.2.1=_
   unfold D1
   refine sI c.2.2.1.length (by omega) _ (fun o=>some (hY o,())) (fun m i=>uU m c.2.2.1 (c.2.2.1.length:Int) i) ?_ ?_
   ·intro m
    simp only [uU,D2]
    rw [b0 (Nat.le_refl _)];rfl
   ·intro m i hi hw
    simp only [uU,D2,hw]
    rw [bx hi,ba hi]
    simp only [cond_true,ak]
    show Option.bind (LQ (J (aa.int .i64) c.2.2.1 i)) _=_
    unfold LQ
    rw [gE];rfl
  rw [h]
  simp only [ak,AQ]
 rw [h]
 simp only [ak]
 congr 2
 rw [Bool.eq_iff_iff,ka]
 cases hf:e9 c.2.2.1.length fun i => !ye c.2.2.1 i with
 | none =>
  simp only [Option.isSome_none,Bool.not_false,true_iff]
  exact fun i hi=>by have:=lH.1 hf i hi;simpa using this
 | some i =>
  simp only [Option.isSome_some,Bool.not_true,Bool.false_eq_true,false_iff]
  obtain ⟨h1,h2,_⟩:=hW.1 hf
  exact fun h=>by rw [h i h1] at h2;cases h2
theorem Zq{c:aP.D}(h:dY c=true):c.2.2.1.length≤4:=by
 simp only [dY,Bool.and_eq_true,decide_eq_true_eq] at h;omega
def mx(c:aP.D)(g:Int):Bool:=c.2.1==g||decide (g∈c.2.2.1)
theorem alB{l:List Int}{i:Nat}(g:Int)(hi:i<l.length):decide (g∈l.drop i)=(J (.int .i64) l i==g||decide (g∈l.drop (i+1))):=by
 have h:=drop_cons (t:=.int .i64) hi
 have h:l.drop i=J (.int .i64) l i :: l.drop (i+1):=h
 rw [h,Bool.eq_iff_iff]
 simp only [List.mem_cons,decide_eq_true_eq,Bool.or_eq_true,beq_iff_eq]
 constructor
 ·rintro (h | h)
  ·exact .inl h.symm
  ·exact .inr h
 ·rintro (h | h)
  ·exact .inl h.symm
  ·exact .inr h
theorem PY(c:aP.D)(g:Int)(hc:dY c=true):vm (c,g,())=some (mx c g,()):=by
 show FO (vl aK) c g=_
 unfold FO mx
 rw [PX,hc]
 simp only [ak,Bool.not_true,cond_false]
 have hl:=Zq hc
 have key:∀(r i m:Nat) (b:Bool),i+r=c.2.2.1.length→r<m→vl m g b (i:Int) c=some (b||decide (g∈c.2.2.1.drop i),()):=by
  intro r
  induction r with
  | zero =>
   intro i m b hi hm
   obtain ⟨m,rfl,_⟩:=fuel hm
   simp only [vl,FP]
   rw [b0 (by omega),List.drop_of_length_le (by omega)]
   simp
  | succ r ih =>
   intro i m b hi hm
   obtain ⟨m,rfl,hq⟩:=fuel hm
   have bY:i<c.2.2.1.length:=by omega
   simp only [vl,FP]
   rw [bx bY,de i (by omega),alB g bY]
   simp only [cond_true]
   cases b
   ·simp only [cond_false]
    rw [ba bY]
    simp only [ak]
    rw [ih (i+1) m _ (by omega) (by omega)]
    simp
   ·simp only [cond_true]
    rw [ih (i+1) m _ (by omega) (by omega)]
    simp
 have:=key c.2.2.1.length 0 aK (c.2.1==g) (by omega) (jk (by omega))
 simpa using this
theorem PZ(c:aP.D)(g:Int)(hc:dY c=true):uV (c,g,())=some (mx c g,()):=by
 show LY c g=_
 unfold LY mx
 have hl:=Zq hc
 rw [H',hc]
 simp only [ak,cond_true]
 rw [contains_eq _ _ (by omega)]
 simp only [ak]
 rw [show(g==c.2.1)=(c.2.1==g) by rw [Bool.eq_iff_iff,beq_iff_eq,beq_iff_eq];exact⟨Eq.symm,Eq.symm⟩]
 cases c.2.1==g <;> rfl
def kindOf(x:a6):Int:=x.2.1
def ft(x:a6):Int:=x.2.2.1
def eF(x:a6):Int:=x.2.2.2.1
def fK(x:a6):Int:=x.2.2.2.2.1
def kz(a b:Int):Int:=c_ .and .i64 a b
def three(c:aP.D)(n:a6):Int :=
 cond (c.1==eF n) (Int.fdiv (ft n) (2 ^ min (Int.toNat 6) 64)) (cond (mx c (fK n)) (Int.fdiv (ft n) (2 ^ min (Int.toNat 3) 64)) (ft n))
def may(c:aP.D)(n:a6)(w:Int):Bool :=
 cg w 0 7&&cond (c.1==0) (kz w 1==0||(kindOf n != 1||kz (ft n) 73 != 0)) (kz (kz (three c n) 7) w==w)
theorem pI(c:aP.D)(n:a6)(w:Int)(hc:dY c=true):j7 (c,n,w,())=some (may c n w,()):=by
 show M' c n w=_
 unfold M' may three
 rw [PX,hc,gU]
 simp only [ak,Bool.not_true,cond_false]
 cases cg w 0 7
 ·rfl
 simp only [Bool.not_true,cond_false,Bool.true_and]
 cases c.1==0
 ·simp only [cond_false]
  rw [PY c _ hc]
  simp only [ak]
  show cond (mx c (fK n)) (cond (c.1==eF n) _ _) (cond (c.1==eF n) _ _)=_
  cases mx c (fK n) <;> cases c.1==eF n <;> rfl
 ·simp only [cond_true]
  show cond (kz w 1==0) _ (cond (kindOf n != 1) _ (some (kz (ft n) 73 != 0,())))=_
  cases kz w 1==0 <;> cases kindOf n != 1 <;> rfl
theorem A0(c:aP.D)(n:a6)(w:Int)(hc:dY c=true):pf (c,n,w,())=some (may c n w,()):=by
 show LZ c n w=_
 unfold LZ may three
 rw [H',hc,gE]
 simp only [ak,Bool.not_true,cond_false]
 cases cg w 0 7
 ·rfl
 simp only [Bool.not_true,cond_false,Bool.true_and]
 cases c.1==0
 ·simp only [cond_false]
  rw [PZ c _ hc]
  simp only [ak]
  show cond (c.1==eF n) _ (cond (mx c (fK n)) _ _)=_
  cases mx c (fK n) <;> cases c.1==eF n <;> rfl
 ·simp only [cond_true]
  show cond (kindOf n != 1) _ (cond (kz (ft n) 73 != 0) _ (some (kz w 1==0,())))=_
  cases kz w 1==0 <;> cases kindOf n != 1 <;> cases kz (ft n) 73 != 0 <;> rfl
def pJ(c:aP.D)(d n:a6):Bool:=kz (ft d) 512==0||(c.1==0||(c.1==eF d||c.1==eF n))
theorem P0(c:aP.D)(d n:a6)(hc:dY c=true):xW (c,d,n,())=some (pJ c d n,()):=by
 show Nj c d n=_
 unfold Nj pJ
 rw [PX,hc]
 simp only [ak,Bool.not_true,cond_false]
 show cond (kz (ft d) 512==0) _ (cond (c.1==0) _ (cond (c.1==eF d) _ (some (c.1==eF n,()))))=_
 cases kz (ft d) 512==0 <;> cases c.1==0 <;> cases c.1==eF d <;> rfl
theorem P1(c:aP.D)(d n:a6)(hc:dY c=true):sg (c,d,n,())=some (pJ c d n,()):=by
 show Md c d n=_
 unfold Md pJ
 rw [H',hc]
 simp only [ak,cond_true]
 show cond (kz (ft d) 512==0) _ (cond (c.1==0) _ (cond (c.1==eF d) _ (some (c.1==eF n,()))))=_
 cases kz (ft d) 512==0 <;> cases c.1==0 <;> cases c.1==eF d <;> rfl
def sO(s:List UInt8):Bool:=jn s&&nb s 0==47
theorem alC(s:List UInt8)(i:Nat):((s.getD i 0).toNat:Int)=nb s i:=rfl
theorem A1(s:List UInt8):FJ (s,())=some (sO s,()):=by
 show FH (vj aK) s=_
 unfold FH sO jn
 simp only [gU,ak]
 by_cases hl:cg (s.length:Int) 1 60=true
 case neg=>rw [Bool.not_eq_true] at hl;rw [hl];simp
 have hb:=dm.1 hl
 rw [hl]
 simp only [Bool.not_true,cond_false,Bool.and_true]
 rw [show aL s.length 0=some 0 from ba (i:=0) (by omega)]
 simp only [ak,alC,bne,kx]
 cases nb s 0==47
 ·simp
 simp only [cond_true,Bool.and_true]
 have:=ns s.length (by omega) (fun i=>nb s i==47||sJ (nb s i)) true (fun m i=>vj m s i) (fun m _=>by
  simp only [vj,FI]
  rw [b0 (Nat.le_refl _)];rfl) (fun m i hi _ hw=>by
  simp only [vj,FI,hw]
  rw [bx hi,ba hi]
  simp only [cond_true,ak,HS,kx,HQ,bne];rfl)
 rw [Bool.and_true] at this
 exact this
theorem Ia(s:List UInt8)(hl:s.length≤4000000000000000000):LX (s,())=some (sO s,()):=by
 show LW s=_
 unfold LW sO
 rw [PF s hl]
 simp only [ak]
 by_cases ht:jn s=true
 case neg=>rw [Bool.not_eq_true] at ht;rw [ht];rfl
 rw [ht]
 have:1≤s.length:=by
  unfold jn at ht
  rw [Bool.and_eq_true] at ht
  have:=dm.1 ht.2
  omega
 simp only [cond_true]
 rw [show aL s.length 0=some 0 from ba (i:=0) (by omega)]
 rfl
theorem v'(v:af.D)(hl:v.2.1.length≤1048576)(hn:∀i,i<v.2.1.length→(ax (J I v.2.1 i)).length≤1048576):pq (v,())=some (v,()):=by
 show FE (vi aK) v=_
 unfold FE
 have:=mr v.2.1.length (by omega) (fun m i=>vi m i v (0,([]:List I.D),()) (v.1,v.2.1.take i.toNat,())) (fun _=>some (v,())) (fun _=>True) (fun m _=>by
  simp only [vi,FF]
  rw [b0 (Nat.le_refl _)]
  simp only [Int.toNat_natCast,List.take_length,cond_false]) (fun m i hi _ hw ih=>by
  simp only [vi,FF]
  rw [bx hi,ba hi]
  simp only [cond_true,ak,Int.toNat_natCast]
  have alD:=hn i hi
  show cond (room (0 +(ax (J I v.2.1 i)).length)) _ _=_
  rw [ck (by omega)]
  simp only [cond_true]
  unfold Vv
  show cond (room ((v.2.1.take i).length+1)) _ _=_
  rw [ck (by rw [List.length_take];omega)]
  simp only [cond_true]
  unfold Vu
  rw [hw]
  have ih:=ih trivial
  rw [show((i:Int)+1).toNat=i+1 by omega,List.take_succ_eq_append_getElem hi,← di (t:=I) hi] at ih
  exact ih) v.2.1.length 0 aK (by omega) (jk (by omega)) trivial
 simpa using this
theorem alE(v:af.D)(hl:v.2.1.length≤1048576)(hn:∀i,i<v.2.1.length→(ax (J I v.2.1 i)).length≤1048576):qw (v,())=some (v,()):=by
 show DP (uO aK) v=_
 unfold DP
 have:=mr v.2.1.length (by omega) (fun m i=>uO m v.2.1 (v.2.1.length:Int) i (0,([]:List I.D),()) (v.1,v.2.1.take i.toNat,())) (fun _=>some (v,())) (fun _=>True) (fun m _=>by
  simp only [uO,DQ]
  rw [b0 (Nat.le_refl _)]
  simp only [Int.toNat_natCast,List.take_length,cond_false]) (fun m i hi _ hw ih=>by
  simp only [uO,DQ]
  rw [bx hi,ba hi]
  simp only [cond_true,ak,Int.toNat_natCast]
  have alD:=hn i hi
  show cond (room (0 +(ax (J I v.2.1 i)).length)) _ _=_
  rw [ck (by omega)]
  simp only [cond_true]
  unfold Uy
  show cond (room ((v.2.1.take i).length+1)) _ _=_
  rw [ck (by rw [List.length_take];omega)]
  simp only [cond_true]
  unfold Ux
  rw [hw]
  have ih:=ih trivial
  rw [show((i:Int)+1).toNat=i+1 by omega,List.take_succ_eq_append_getElem hi,← di (t:=I) hi] at ih
  exact ih) v.2.1.length 0 aK (by omega) (jk (by omega)) trivial
 simpa using this
theorem oB{β : Type}(W:Nat)(F:Nat→Nat → β)(y : β):∀(k B:Nat),(∀i,i<k→∀B y,b1 (fun m=>F m (i+1)) B y→b1 (fun m=>F m i) (B+W) y)→b1 (fun m=>F m k) B y→b1 (fun m=>F m 0) (B+k*W) y
 | 0,B,_,h=>by simpa using h
 | k+1,B,hf,h=>by
  have:=oB W F y k (B+W) (fun i hi=>hf i (by omega)) (hf k (by omega) B y h)
  rw [Nat.add_one_mul]
  rwa [show B +(k*W+W)=B+W+k*W by omega]
theorem Zr{β : Type}(n W:Nat)(F:Nat→Nat → β)(P:Nat→Bool)(R:Option Nat → β)(B:Nat)(hn:b1 (fun m=>F m n) B (R none))(hs:∀i,i<n→P i=true→b1 (fun m=>F m i) B (R (some i)))
  (hf:∀i,i<n→P i=false→∀B y,b1 (fun m=>F m (i+1)) B y→b1 (fun m=>F m i) (B+W) y):b1 (fun m=>F m 0) (B+n*W) (R (e9 n P)):=by
 cases h:e9 n P with
 | none=>exact oB W F _ n B (fun i hi=>hf i hi (lH.1 h i hi)) hn
 | some k =>
  obtain ⟨h1,h2,h3⟩:=hW.1 h
  refine(oB W F _ k B (fun i hi=>hf i (by omega) (h3 i hi)) (hs k h1 h2)).mono ?_
  have:k*W≤n*W:=Nat.mul_le_mul_right _ (by omega)
  omega
theorem jr(v:af.D)(id:Int)(hl:v.2.1.length≤1048576){i:Nat}(h:bG v.2.1 id=some i):e8 (v,id,())=some (J I v.2.1 i,()):=by
 show Nb v id=_
 unfold Nb
 rw [ow v id hl,h]
 simp only [ak,hY]
 rw [ba (cq h).1];rfl
theorem P2(v:af.D)(id:Int)(hl:v.2.1.length≤1048576):xH (v,id,())=some (hY (bG v.2.1 id),v,()):=by
 show Dl (uB aK) v id=_
 unfold Dl bG
 refine sI v.2.1.length (by omega) _ (fun o=>some (hY o,v,())) (fun m i=>uB m id (v.2.1.length:Int) i v) ?_ ?_
 ·intro m
  simp only [uB,Dm]
  rw [b0 (Nat.le_refl _)];rfl
 ·intro m i hi hw
  simp only [uB,Dm,hw]
  rw [bx hi,ba hi]
  simp only [cond_true,ak,Nat.zero_add];rfl
theorem nw(v:af.D)(id:Int)(hl:v.2.1.length≤1048576){i:Nat}(h:bG v.2.1 id=some i):fF (v,id,())=some ([J I v.2.1 i],()):=by
 rw [ya v id hl,h];rfl
def oC(l:List a6)(id:Int):Bool:=match bG l id with | some i=>kindOf (J I l i)==2 | none=>false
theorem Zs(v:af.D)(id:Int)(hl:v.2.1.length≤1048576):xX (v,id,())=some (oC v.2.1 id,()):=by
 show No v id=_
 unfold No oC
 rw [ow v id hl]
 simp only [ak,AQ]
 cases h:bG v.2.1 id with
 | none=>rfl
 | some i =>
  simp only [Option.isSome_some,cond_true,hY]
  rw [ba (cq h).1];rfl
theorem Zt(v:af.D)(id:Int)(hl:v.2.1.length≤1048576):zS (v,id,())=some (oC v.2.1 id,()):=by
 show Ml v id=_
 unfold Ml oC
 rw [ya v id hl]
 cases h:bG v.2.1 id with
 | none=>rfl
 | some i=>rfl
def re(N:List au.D)(s:List UInt8)(j:Nat):Bool:=bB (J au N j).1 s
def A2(N:List au.D):Option Nat→Int
 | none=>0
 | some j=>(J au N j).2.1
def ee(N:List au.D)(s:List UInt8):Int:=A2 N (e9 N.length (re N s))
theorem alF(v:af.D)(id:Int)(s:List UInt8)(hl:v.2.1.length≤1048576){i:Nat}(h:bG v.2.1 id=some i)(hn:(ax (J I v.2.1 i)).length≤1048576) :
  Na (v,id,s,())=some (ee (ax (J I v.2.1 i)) s,()):=by
 show FW (sn aK) v id s=_
 unfold FW
 rw [ow v id hl,h]
 simp only [ak,hY]
 rw [ba (cq h).1]
 simp only [ak]
 show sn aK s (ax (J I v.2.1 i)) 0=_
 generalize ax (J I v.2.1 i)=N at hn
 refine sI N.length (by omega) (re N s) (fun o=>some (A2 N o,())) (fun m j=>sn m s N j) ?_ ?_
 ·intro m
  simp only [sn,FX]
  rw [b0 (Nat.le_refl _)];rfl
 ·intro m j hj hw
  simp only [sn,FX,hw]
  rw [bx hj,ba hj];rfl
theorem Zu(n:a6)(s:List UInt8)(hn:(ax n).length≤1048576):D6 (n,s,())=some (ee (ax n) s,()):=by
 show D4 (sa aK) n s=_
 unfold D4
 show sa aK s (ax n) ((ax n).length:Int) 0=_
 generalize ax n=N at hn
 refine sI N.length (by omega) (re N s) (fun o=>some (A2 N o,())) (fun m j=>sa m s N (N.length:Int) j) ?_ ?_
 ·intro m
  simp only [sa,D5]
  rw [b0 (Nat.le_refl _)];rfl
 ·intro m j hj hw
  simp only [sa,D5,hw]
  rw [bx hj,ba hj];rfl
def kW(N:List au.D)(id:Int)(j:Nat):Bool:=(J au N j).2.1==id
def pK(N:List au.D)(id:Int):Bool:=(e9 N.length (kW N id)).isSome
def P3(l:List a6):Option Nat→Int
 | none=>1
 | some i=>(J I l i).1
def Ib(l:List a6)(id:Int):Option Nat:=e9 l.length fun i=>pK (ax (J I l i)) id
def kA(l:List a6)(id:Int):Int:=P3 l (Ib l id)
theorem P4{N:List au.D}{id:Int}(h:pK N id=false):∀j,j<N.length→kW N id j=false:=by
 unfold pK at h
 cases hf:e9 N.length (kW N id) with
 | none=>exact lH.1 hf
 | some j=>rw [hf] at h;cases h
theorem Ic{N:List au.D}{id:Int}(h:pK N id=true):∃j,j<N.length∧kW N id j=true∧∀k,k<j→kW N id k=false:=by
 unfold pK at h
 cases hf:e9 N.length (kW N id) with
 | none=>rw [hf] at h;cases h
 | some j=>exact⟨j,hW.1 hf⟩
theorem Zv(v:af.D)(id:Int)(hl:v.2.1.length≤1048576)(hn:dt v.2.1≤1048576):FR (v,id,())=some (kA v.2.1 id,()):=by
 show FQ (ku aK) v id=_
 unfold FQ
 have inner:∀i,i<v.2.1.length→∀j,j<(ax (J I v.2.1 i)).length→kW (ax (J I v.2.1 i)) id j=false→∀B y,b1 (fun m=>(ku m).bm id (i:Int) ((j+1:Nat):Int) v) B y→b1 (fun m=>(ku m).bm id (i:Int) (j:Int) v) (B+1) y:=by
  intro i hi j hj av B y he
  have hnl:=fZ hi
  refine he.step fun m=>?_
  show vp (ku m) _ _ _ _=_
  unfold vp
  rw [ba hi]
  simp only [ak]
  show cond (decide ((j:Int)<((ax (J I v.2.1 i)).length:Int))) ((aL (ax (J I v.2.1 i)).length (j:Int)).bind fun v3=>cond (kW (ax (J I v.2.1 i)) id v3) _ _) _=_
  rw [bx hj,ba hj]
  simp only [cond_true,ak,av,cond_false]
  rw [de j (by omega)]
 have key:=Zr v.2.1.length (1048576+2) (fun m i=>(ku m).k2 id (i:Int) v) (fun i=>pK (ax (J I v.2.1 i)) id) (fun o=>some (P3 v.2.1 o,())) (1048576+3) ((b1.done fun m=>by
   show vo (ku m) _ _ _=_
   unfold vo
   rw [b0 (Nat.le_refl _)];rfl).mono (by omega)) (fun i hi av=>by
   have hnl:=fZ hi
   obtain ⟨j,h1,h2,h3⟩:=Ic av
   have:=oB 1 (fun m j=>(ku m).bm id (i:Int) (j:Int) v) (some ((J I v.2.1 i).1,())) j 1 (fun k hk=>inner i hi k (by omega) (h3 k hk)) (b1.done fun m=>by
    show vp (ku m) _ _ _ _=_
    unfold vp
    rw [ba hi]
    simp only [ak]
    show cond (decide ((j:Int)<((ax (J I v.2.1 i)).length:Int))) ((aL (ax (J I v.2.1 i)).length (j:Int)).bind fun v3=>cond (kW (ax (J I v.2.1 i)) id v3) _ _) _=_
    rw [bx h1,ba h1]
    simp only [cond_true,ak,h2])
   refine(this.step (f:=fun m=>(ku m).k2 id (i:Int) v) fun m=>?_).mono (by omega)
   show vo (ku m) _ _ _=_
   unfold vo
   rw [bx hi];rfl) (fun i hi av B y he=>by
   have hnl:=fZ hi
   have h0:=P4 av
   have:=oB 1 (fun m j=>(ku m).bm id (i:Int) (j:Int) v) y (ax (J I v.2.1 i)).length (B+1) (fun k hk=>inner i hi k hk (h0 k hk)) (he.step fun m=>by
    show vp (ku m) _ _ _ _=_
    unfold vp
    rw [ba hi]
    simp only [ak]
    show cond (decide (((ax (J I v.2.1 i)).length:Int)<((ax (J I v.2.1 i)).length:Int))) _ _=_
    rw [b0 (Nat.le_refl _)]
    simp only [cond_false]
    rw [de i (by omega)])
   refine(this.step (f:=fun m=>(ku m).k2 id (i:Int) v) fun m=>?_).mono (by omega)
   show vo (ku m) _ _ _=_
   unfold vo
   rw [bx hi];rfl)
 have hm:v.2.1.length*(1048576+2)≤1048576*(1048576+2):=Nat.mul_le_mul_right _ hl
 exact kV key (by omega)
theorem alG(v:af.D)(id:Int)(hl:v.2.1.length≤1048576)(hn:dt v.2.1≤1048576):L8 (v,id,())=some (kA v.2.1 id,()):=by
 show Ed (ks aK) v id=_
 unfold Ed
 have inner:∀i,i<v.2.1.length→∀j,j<(ax (J I v.2.1 i)).length→kW (ax (J I v.2.1 i)) id j=false→∀B y,
   b1 (fun m=>(ks m).bm id v.2.1 (v.2.1.length:Int) (i:Int) (ax (J I v.2.1 i)) ((ax (J I v.2.1 i)).length:Int) ((j+1:Nat):Int) (J I v.2.1 i)) B y →
   b1 (fun m=>(ks m).bm id v.2.1 (v.2.1.length:Int) (i:Int) (ax (J I v.2.1 i)) ((ax (J I v.2.1 i)).length:Int) (j:Int) (J I v.2.1 i)) (B+1) y:=by
  intro i hi j hj av B y he
  have hnl:=fZ hi
  refine he.step fun m=>?_
  show uY (ks m) _ _ _ _ _ _ _ _=_
  unfold uY
  rw [bx hj,ba hj]
  simp only [cond_true,ak]
  show cond (kW (ax (J I v.2.1 i)) id j) _ _=_
  rw [av,de j (by omega)];rfl
 have key:=Zr v.2.1.length (1048576+2) (fun m i=>(ks m).k2 id v.2.1 (v.2.1.length:Int) (i:Int)) (fun i=>pK (ax (J I v.2.1 i)) id) (fun o=>some (P3 v.2.1 o,())) (1048576+3) ((b1.done fun m=>by
   show uX (ks m) _ _ _ _=_
   unfold uX
   rw [b0 (Nat.le_refl _)];rfl).mono (by omega)) (fun i hi av=>by
   have hnl:=fZ hi
   obtain ⟨j,h1,h2,h3⟩:=Ic av
   have:=oB 1 (fun m j=>(ks m).bm id v.2.1 (v.2.1.length:Int) (i:Int) (ax (J I v.2.1 i)) ((ax (J I v.2.1 i)).length:Int) (j:Int) (J I v.2.1 i)) (some ((J I v.2.1 i).1,())) j 1 (fun k hk=>inner i hi k (by omega) (h3 k hk)) (b1.done fun m=>by
    show uY (ks m) _ _ _ _ _ _ _ _=_
    unfold uY
    rw [bx h1,ba h1]
    simp only [cond_true,ak]
    show cond (kW (ax (J I v.2.1 i)) id j) _ _=_
    rw [h2];rfl)
   refine(this.step (f:=fun m=>(ks m).k2 id v.2.1 (v.2.1.length:Int) (i:Int)) fun m=>?_).mono (by omega)
   show uX (ks m) _ _ _ _=_
   unfold uX
   rw [bx hi,ba hi];rfl) (fun i hi av B y he=>by
   have hnl:=fZ hi
   have h0:=P4 av
   have:=oB 1 (fun m j=>(ks m).bm id v.2.1 (v.2.1.length:Int) (i:Int) (ax (J I v.2.1 i)) ((ax (J I v.2.1 i)).length:Int) (j:Int) (J I v.2.1 i)) y (ax (J I v.2.1 i)).length (B+1) (fun k hk=>inner i hi k hk (h0 k hk)) (he.step fun m=>by
    show uY (ks m) _ _ _ _ _ _ _ _=_
    unfold uY
    rw [b0 (Nat.le_refl _)]
    simp only [cond_false]
    rw [de i (by omega)])
   refine(this.step (f:=fun m=>(ks m).k2 id v.2.1 (v.2.1.length:Int) (i:Int)) fun m=>?_).mono (by omega)
   show uX (ks m) _ _ _ _=_
   unfold uX
   rw [bx hi,ba hi];rfl)
 have hm:v.2.1.length*(1048576+2)≤1048576*(1048576+2):=Nat.mul_le_mul_right _ hl
 exact kV key (by omega)
def my(l:List a6)(N:List au.D):Nat:=(N.filter fun d=>oC l d.2.1).length
def rf(l:List a6)(n:a6):Int:=cond (kindOf n != 2) (eE l n.1:Int) (2+my l (ax n):Int)
theorem Zw{l:List a6}{N:List au.D}{j:Nat}(hj:j<N.length):my l (N.take (j+1))=my l (N.take j)+cond (oC l (J au N j).2.1) 1 0:=by
 unfold my
 rw [List.take_succ_eq_append_getElem hj,List.filter_append,List.length_append]
 congr 1
 rw [di hj]
 cases h:oC l (N[j]).2.1 <;> simp [List.filter_cons,h]
theorem Zx(l:List a6)(N:List au.D)(j:Nat):my l (N.take j)≤N.length:=by
 unfold my
 refine Nat.le_trans (List.length_filter_le _ _) ?_
 rw [List.length_take];omega
theorem alH(v:af.D)(id:Int)(hl:v.2.1.length≤1048576)(hn:dt v.2.1≤1048576){i:Nat}(h:bG v.2.1 id=some i):Gj (v,id,())=some (rf v.2.1 (J I v.2.1 i),()):=by
 show Gh (vz aK) v id=_
 unfold Gh rf
 obtain ⟨hi,cd⟩:=cq h
 have hnl:=fZ hi
 rw [ow v id hl,h]
 simp only [ak,AP,Option.isNone_some,cond_false,hY]
 rw [ba hi]
 simp only [ak]
 show cond (kindOf (J I v.2.1 i) != 2) _ _=_
 cases kindOf (J I v.2.1 i) != 2
 ·simp only [cond_false]
  have:=mr (ax (J I v.2.1 i)).length (by omega) (fun m j=>vz m (i:Int) (2+my v.2.1 ((ax (J I v.2.1 i)).take j.toNat):Int) j v) (fun _=>some ((2+my v.2.1 (ax (J I v.2.1 i)):Int),())) (fun _=>True) (fun m _=>by
   simp only [vz,Gi]
   rw [ba hi]
   simp only [ak]
   show cond (decide (((ax (J I v.2.1 i)).length:Int)<((ax (J I v.2.1 i)).length:Int))) _ _=_
   rw [b0 (Nat.le_refl _)]
   simp only [Int.toNat_natCast,List.take_length,cond_false]) (fun m j hj _ hw ih=>by
   have ih:=ih trivial
   rw [show((j:Int)+1).toNat=j+1 by omega,Zw hj] at ih
   have hdl:=Zx v.2.1 (ax (J I v.2.1 i)) j
   simp only [vz,Gi]
   rw [ba hi]
   simp only [ak]
   show cond (decide ((j:Int)<((ax (J I v.2.1 i)).length:Int))) ((aL (ax (J I v.2.1 i)).length (j:Int)).bind fun v3=>(xX (v,(J au (ax (J I v.2.1 i)) v3).2.1,())).bind _) _=_
   rw [bx hj,ba hj]
   simp only [cond_true,ak]
   rw [Zs v _ hl]
   simp only [ak,hw,Int.toNat_natCast]
   revert ih
   cases oC v.2.1 (J au (ax (J I v.2.1 i)) j).2.1
   ·intro ih
    exact ih
   ·intro ih
    simp only [cond_true] at ih ⊢
    rw [ed (by omega) (by omega)]
    rw [Int.natCast_add,← Int.add_assoc] at ih
    exact ih) (ax (J I v.2.1 i)).length 0 aK (by omega) (jk (by omega)) trivial
  simpa [my] using this
 ·simp only [cond_true]
  rw [HU v id hl hn,cd];rfl
theorem alI(v:af.D)(n:a6)(hl:v.2.1.length≤1048576)(hn:dt v.2.1≤1048576)(hnl:(ax n).length≤1048576):Mz (v,n,())=some (rf v.2.1 n,()):=by
 show EG (si aK) v n=_
 unfold EG rf
 show cond (kindOf n != 2) _ _=_
 cases kindOf n != 2
 ·simp only [cond_false]
  have:=mr (ax n).length (by omega) (fun m j=>si m v (2+my v.2.1 ((ax n).take j.toNat):Int) (ax n) ((ax n).length:Int) j) (fun _=>some ((2+my v.2.1 (ax n):Int),())) (fun _=>True) (fun m _=>by
   simp only [si,EH]
   rw [b0 (Nat.le_refl _)]
   simp only [Int.toNat_natCast,List.take_length,cond_false]) (fun m j hj _ hw ih=>by
   have ih:=ih trivial
   rw [show((j:Int)+1).toNat=j+1 by omega,Zw hj] at ih
   have hdl:=Zx v.2.1 (ax n) j
   simp only [si,EH]
   rw [bx hj,ba hj]
   simp only [cond_true,ak]
   rw [Zt v _ hl]
   simp only [ak,hw,Int.toNat_natCast]
   revert ih
   cases oC v.2.1 (J au (ax n) j).2.1
   ·intro ih
    exact ih
   ·intro ih
    simp only [cond_true] at ih ⊢
    rw [ed (by omega) (by omega)]
    rw [Int.natCast_add,← Int.add_assoc] at ih
    exact ih) (ax n).length 0 aK (by omega) (jk (by omega)) trivial
  show si aK v 2 (ax n) ((ax n).length:Int) 0=_
  simpa [my] using this
 ·simp only [cond_true]
  rw [HV v _ hl hn];rfl
abbrev aS:Type:=List UInt8
def js(c:aS):List aS→List aS
 | []=>[c]
 | p :: ps=>(c++p) :: ps
def eK:aS→List aS
 | []=>[[]]
 | b :: l=>cond (b==47) ([] :: eK l) (js [b] (eK l))
def full(p:aS):Bool := !bB p []
def cut(s:aS):List aS:=(eK s).filter full
theorem alJ(c:aS)(l:List aS):js c l≠[]:=by cases l <;> simp [js]
theorem Ie(s:aS):eK s≠[]:=by
 cases s with
 | nil=>simp [eK]
 | cons b l=>simp only [eK];cases b==47 <;> simp [alJ]
theorem P5{l:List aS}(h:l≠[]):js [] l=l:=by cases l <;> simp_all [js]
theorem alK(a b:aS){l:List aS} : js a (js b l)=js (a++b) l:=by cases l <;> simp [js]
theorem P6{p:aS} : full p=false↔p=[]:=by unfold full bB;simp
theorem alL(c:aS):(js c [[]]).filter full=cond (full c) [c] []:=by
 simp only [js,List.append_nil,List.filter_cons,List.filter_nil]
 cases full c <;> rfl
theorem alM(s:aS){i:Nat}(h:i<s.length):s.drop i=s.getD i 0 :: s.drop (i+1):=by
 rw [List.drop_eq_getElem_cons h]
 congr 1
 rw [List.getD_eq_getElem?_getD,List.getElem?_eq_getElem h];rfl
theorem alN{s:aS}{a i:Nat}(ha:a≤i)(hi:i<s.length):part s a (i+1-a)=part s a (i-a)++[s.getD i 0]:=by
 unfold part
 rw [show i+1-a=(i-a)+1 by omega,List.take_add_one]
 congr 1
 rw [List.getElem?_drop,show a +(i-a)=i by omega,List.getElem?_eq_getElem hi,List.getD_eq_getElem?_getD,List.getElem?_eq_getElem hi];rfl
theorem Zy(b:UInt8):(((b.toNat:Nat):Int)==47)=(b==47):=by
 rw [Bool.eq_iff_iff,beq_iff_eq,beq_iff_eq]
 constructor
 ·intro h
  have:b.toNat=47:=by omega
  exact UInt8.toNat_inj.1 (by rw [this];rfl)
 ·rintro rfl;rfl
theorem alO{s:aS}{a n:Nat}(h:a+n≤s.length):(part s a n).length=n:=by unfold part;rw [List.length_take,List.length_drop];omega
theorem Zz{s:aS}{a i:Nat}(ha:a≤i)(hi:i≤s.length):full (part s a (i-a))=decide ((i:Int) >(a:Int)):=by
 by_cases h:a<i
 ·rw [decide_eq_true (show(i:Int) >(a:Int) by omega)]
  rw [← Bool.not_eq_false,P6]
  intro h0
  have:=alO (s:=s) (a:=a) (n:=i-a) (by omega)
  rw [h0] at this
  simp at this;omega
 ·have:i-a=0:=by omega
  rw [this,decide_eq_false (show ¬(i:Int) >(a:Int) by omega)]
  exact P6.2 (by simp [part])
theorem ZA(s:aS)(hl:s.length≤1048576):Am (s,())=some (cut s,()):=by
 show FU (qM aK) s=_
 unfold FU
 have key:∀(r i m a:Nat) (out:List aS),i+r=s.length→r+1<m→a≤i→out.length≤i→qM m s (a:Int) (i:Int) out=some (out++(js (part s a (i-a)) (eK (s.drop i))).filter full,()):=by
  intro r
  induction r with
  | zero =>
   intro i m a out hi hm ha ho
   obtain ⟨m,rfl,o0⟩:=fuel hm
   obtain ⟨m,rfl,_⟩:=fuel o0
   have bN:i=s.length:=by omega
   have oe:∀(x:Int) (o:List aS),qM (m+1) s x (ay ((i:Int)+1)) o=some (o,()):=by
    intro x o
    simp only [qM,Al]
    rw [de i (by omega),decide_eq_false (by omega)];rfl
   rw [qM,Al,decide_eq_true (show(i:Int)≤(s.length:Int) by omega),show((i:Int) ==(s.length:Int))=true by simp;omega]
   simp only [cond_true]
   rw [List.drop_of_length_le (by omega),eK,alL,Zz ha (by omega)]
   by_cases h:(i:Int) >(a:Int)
   ·rw [decide_eq_true h]
    simp only [cond_true]
    rw [jc ha (by omega)]
    simp only [ak]
    rw [ck (by simp only [List.length_cons,List.length_nil];omega)]
    simp only [cond_true,oe]
   ·rw [decide_eq_false h]
    simp only [cond_false,oe,List.append_nil]
  | succ r ih =>
   intro i m a out hi hm ha ho
   obtain ⟨m,rfl,hm⟩:=fuel hm
   have bY:i<s.length:=by omega
   rw [qM,Al,decide_eq_true (show(i:Int)≤(s.length:Int) by omega),show((i:Int) ==(s.length:Int))=false by simp;omega]
   simp only [cond_true,cond_false]
   rw [ba bY,alM s bY,eK]
   simp only [ak]
   rw [Zy,de i (by omega)]
   cases s.getD i 0==47
   ·simp only [cond_false]
    rw [ih (i+1) m a out (by omega) (by omega) (by omega) (by omega),alK,← alN ha bY]
   ·simp only [cond_true]
    have hz:part s (i+1) (i+1-(i+1))=[]:=by simp [part]
    have hs:(js (part s a (i-a)) ([] :: eK (s.drop (i+1)))).filter full=cond (full (part s a (i-a))) [part s a (i-a)] []++(eK (s.drop (i+1))).filter full:=by
     simp only [js,List.append_nil,List.filter_cons]
     cases full (part s a (i-a)) <;> rfl
    rw [hs,Zz ha (by omega)]
    by_cases h:(i:Int) >(a:Int)
    ·rw [decide_eq_true h]
     simp only [cond_true]
     rw [jc ha (by omega)]
     simp only [ak]
     rw [ck (by simp only [List.length_cons,List.length_nil];omega)]
     simp only [cond_true]
     rw [ih (i+1) m (i+1) _ (by omega) (by omega) (by omega) (by simp;omega),hz,P5 (Ie _),List.append_assoc]
    ·rw [decide_eq_false h]
     simp only [cond_false]
     rw [ih (i+1) m (i+1) _ (by omega) (by omega) (by omega) (by omega),hz,P5 (Ie _),List.nil_append]
 have:=key s.length 0 aK 0 [] (by omega) (jk (by omega)) (by omega) (by simp)
 rw [show part s 0 (0-0)=[] by simp [part],List.drop_zero,P5 (Ie _)] at this
 simpa [cut] using this
theorem ZB{s:aS}(h:Lib.indexByte s 47 = -1):eK s=[s]∧s.count 47=0:=by
 induction s with
 | nil=>exact⟨rfl,rfl⟩
 | cons b l ih =>
  unfold Lib.indexByte at h
  cases hb:b==47
  ·rw [hb] at h
   simp only [Bool.false_eq_true,if_false] at h
   have hl:Lib.indexByte l 47 = -1:=by
    by_cases h1:Lib.indexByte l 47 = -1
    ·exact h1
    ·have h2:=Lib.indexByte_ge l 47
     rw [if_neg (by simpa using h1)] at h
     omega
   obtain ⟨i1,i2⟩:=ih hl
   refine⟨by rw [eK,hb,i1];rfl,?_⟩
   rw [List.count_cons,i2,hb];rfl
  ·rw [hb] at h;simp at h
theorem ZC{s:aS}{k:Nat}(h:Lib.indexByte s 47=(k:Int)):k<s.length∧eK s=s.take k :: eK (s.drop (k+1))∧s.count 47=(s.drop (k+1)).count 47+1:=by
 induction s generalizing k with
 | nil=>unfold Lib.indexByte at h;omega
 | cons b l ih =>
  unfold Lib.indexByte at h
  cases hb:b==47
  ·rw [hb] at h
   simp only [Bool.false_eq_true,if_false] at h
   have h2:=Lib.indexByte_ge l 47
   by_cases h1:Lib.indexByte l 47 = -1
   ·rw [if_pos (by simpa using h1)] at h;omega
   ·rw [if_neg (by simpa using h1)] at h
    obtain ⟨j,rfl⟩:∃j,k=j+1:=⟨k-1,by omega⟩
    obtain ⟨i1,i2,i3⟩:=ih (k:=j) (by omega)
    refine⟨by simp;omega,?_,?_⟩
    ·rw [eK,hb,i2];rfl
    ·rw [List.count_cons,i3,hb];rfl
  ·rw [hb] at h
   simp only [if_true] at h
   have:k=0:=by omega
   subst this
   refine⟨by simp,?_,?_⟩
   ·rw [eK,hb];rfl
   ·rw [List.count_cons,hb];rfl
theorem ZD(s:aS):Lib.indexByte s 47 = -1∨∃k:Nat,Lib.indexByte s 47=k:=by
 have:=Lib.indexByte_ge s 47
 by_cases h:Lib.indexByte s 47 = -1
 ·exact .inl h
 ·exact .inr ⟨(Lib.indexByte s 47).toNat,by omega⟩
theorem alP(s:aS):D7 (s,[47],())=some (Lib.indexByte s 47,()):=by
 show L1 s [47]=_
 unfold L1
 show Option.bind (L0 s [47]) _=_
 unfold L0
 by_cases h:bB [47] s=true
 ·rw [h]
  have:s=[47]:=by unfold bB at h;simp only [decide_eq_true_eq] at h;exact h.symm
  subst this;rfl
 ·rw [Bool.not_eq_true] at h
  rw [h]
  rfl
theorem alQ(s:aS):L2 (s,[47],())=some ((s.count 47:Int),()):=by
 show D9 (D_ aK) s [47]=_
 unfold D9
 rfl
theorem alR:∀(r:Nat) (s:aS) (i n m:Nat) (a:List aS),s.length≤1048576→n≤1048576→s.count 47=r→i+r=n→a.length=n+1→r+1<m →
  (qy m).cC s [47] 0 (n:Int) (i:Int) a=some (a.take i++eK s,()):=by
 intro r
 induction r with
 | zero =>
  intro s i n m a hs hn hc hi ha hm
  obtain ⟨m,rfl,o0⟩:=fuel hm
  obtain ⟨m,rfl,_⟩:=fuel o0
  have:i=n:=by omega
  subst this
  show zN (qy (m+1)) _ _ _ _ _ _=_
  unfold zN
  rw [b0 (Nat.le_refl _)]
  simp only [cond_false]
  show L4 (qy m) _ _ _=_
  unfold L4
  rw [ba (by omega)]
  simp only [ak,Nat.zero_add]
  rw [de i (by omega)]
  show Option.bind (dN (a.set i s).length ((0:Nat):Int) ((i+1:Nat):Int)) _=_
  rw [jc (by omega) (by rw [List.length_set];omega)]
  simp only [ak,Nat.zero_add,Nat.sub_zero]
  have hsp:eK s=[s]:=by
   rcases ZD s with h | ⟨k,h⟩
   ·exact(ZB h).1
   ·have:=(ZC h).2.2;omega
  rw [hsp,sP,List.take_succ_eq_append_getElem (by rw [List.length_set];omega),List.getElem_set_self,List.take_set_of_le (by omega)]
 | succ r ih =>
  intro s i n m a hs hn hc hi ha hm
  obtain ⟨m,rfl,hm⟩:=fuel hm
  show zN (qy m) _ _ _ _ _ _=_
  unfold zN
  rw [bx (by omega),alP]
  simp only [cond_true,ak]
  obtain ⟨k,hk⟩:∃k:Nat,Lib.indexByte s 47=k:=by
   rcases ZD s with h | h
   ·have:=(ZB h).2;omega
   ·exact h
  obtain ⟨h1,h2,h3⟩:=ZC hk
  rw [hk,decide_eq_false (by omega)]
  simp only [cond_false]
  rw [show ay ((k:Int)+0)=(k:Int) by rw [Int.add_zero];exact ed (by omega) (by omega)]
  show Option.bind (dN s.length ((0:Nat):Int) (k:Int)) _=_
  rw [jc (by omega) (by omega)]
  simp only [ak]
  rw [ba (by omega)]
  simp only [ak,Nat.zero_add]
  unfold UQ
  simp only
  rw [show ay ((k:Int) +(([47]:aS).length:Int))=((k+1:Nat):Int) from de k (by omega),jc (by omega) (Nat.le_refl _)]
  simp only [ak]
  rw [AZ,de i (by omega),ih (s.drop (k+1)) (i+1) n m _ (by rw [List.length_drop];omega) hn (by omega) (by omega) (by rw [List.length_set];exact ha) (by omega)]
  rw [h2,List.take_succ_eq_append_getElem (by rw [List.length_set];omega),List.getElem_set_self,List.take_set_of_le (by omega),Nat.sub_zero,sP,List.append_assoc];rfl
theorem alS(s:aS)(hl:s.length≤1048576):L7 (s,[47],())=some (eK s,()):=by
 show L6 s [47]=_
 unfold L6
 have:L5 (s,[47],0,-1,())=some (eK s,()):=by
  show D' (qy aK) s [47] 0 (-1)=_
  unfold D'
  have hcl:s.count 47≤s.length:=List.count_le_length
  rw [alQ]
  show(qy aK).dG s [47] 0 (ay ((s.count 47:Int)+1))=_
  obtain ⟨q,hq,hQ⟩:=jl 1
  rw [hq]
  show L3 (qy q) _ _ _ _=_
  unfold L3
  rw [de _ (by omega),de _ (by omega),show jz ((s.count 47+1:Nat):Int) ((s.length+1:Nat):Int)=((s.count 47+1:Nat):Int) by rw [alT];omega]
  rw [decide_eq_true (by omega),decide_eq_true rfl,Int.toNat_natCast,ck (by omega)]
  simp only [Bool.and_self,cond_true]
  rw [show ay (((s.count 47+1:Nat):Int)-1)=((s.count 47:Nat):Int) by rw [ed (by omega) (by omega)];omega]
  have:=alR (s.count 47) s 0 (s.count 47) q (List.replicate (s.count 47+1) []) hl (by omega) rfl (by omega) (by simp) (by omega)
  simpa using this
 rw [this];rfl
theorem ZE(s:aS)(hl:s.length≤1048576):sc (s,())=some (cut s,()):=by
 show Eb (sb aK) s=_
 unfold Eb
 rw [alS s hl]
 simp only [ak]
 have mu:(eK s).length≤1048577:=by
  have:∀s:aS,(eK s).length≤s.length+1:=by
   intro s
   induction s with
   | nil=>simp [eK]
   | cons b l ih =>
    rw [eK]
    cases b==47
    ·simp only [cond_false,List.length_cons]
     cases hs:eK l with
     | nil=>simp [js]
     | cons p ps=>rw [hs] at ih;simp only [js,List.length_cons] at ih ⊢;omega
    ·simp only [cond_true,List.length_cons];omega
  have:=this s;omega
 show sb aK _ _ _ _=some ((eK s).filter full,())
 generalize eK s=l at mu
 have:=mr l.length (by omega) (fun m i=>sb m (l.length:Int) i ((l.take i.toNat).filter full) l) (fun _=>some (l.filter full,())) (fun _=>True) (fun m _=>by
  simp only [sb,Ec]
  rw [b0 (Nat.le_refl _)]
  simp only [Int.toNat_natCast,List.take_length,cond_false]) (fun m i hi _ hw ih=>by
  have ih:=ih trivial
  have aD:J aa.str l i=l[i]:=di (t:=.str) hi
  rw [show((i:Int)+1).toNat=i+1 by omega,List.take_succ_eq_append_getElem hi,List.filter_append,List.filter_cons,List.filter_nil] at ih
  simp only [sb,Ec]
  rw [bx hi,ba hi]
  simp only [cond_true,ak,Nat.zero_add,hw,Int.toNat_natCast]
  rw [aD]
  show cond (full l[i]) _ _=_
  have hR:((l.take i).filter full).length≤i:=Nat.le_trans (List.length_filter_le _ _) (by rw [List.length_take];omega)
  cases hf:full l[i]
  ·rw [hf] at ih
   simp only [Bool.false_eq_true,if_false,List.append_nil] at ih
   exact ih
  ·rw [hf] at ih
   simp only [if_true] at ih
   simp only [cond_true]
   rw [ck (by simp only [List.length_cons,List.length_nil];omega)]
   exact ih) l.length 0 aK (by omega) (jk (by omega)) trivial
 simpa using this
theorem alU{s:aS} : ∀ {p:aS},p∈eK s→∀b,b∈p→b∈s∧(b==47)=false:=by
 induction s with
 | nil=>intro p av b hb;simp [eK] at av;subst av;simp at hb
 | cons c l ih =>
  intro p av b hb
  rw [eK] at av
  cases hc:c==47
  ·rw [hc] at av
   simp only [cond_false] at av
   cases hs:eK l with
   | nil=>exact absurd hs (Ie l)
   | cons q aro =>
    rw [hs] at av ih
    simp only [js,List.mem_cons] at av
    rcases av with rfl | av
    ·simp only [List.cons_append,List.nil_append,List.mem_cons] at hb
     rcases hb with rfl | hb
     ·exact⟨List.mem_cons_self,hc⟩
     ·obtain ⟨h1,h2⟩:=ih List.mem_cons_self b hb
      exact⟨List.mem_cons_of_mem _ h1,h2⟩
    ·obtain ⟨h1,h2⟩:=ih (List.mem_cons_of_mem _ av) b hb
     exact⟨List.mem_cons_of_mem _ h1,h2⟩
  ·rw [hc] at av
   simp only [cond_true,List.mem_cons] at av
   rcases av with rfl | av
   ·simp at hb
   ·obtain ⟨h1,h2⟩:=ih av b hb
    exact⟨List.mem_cons_of_mem _ h1,h2⟩
theorem alV(s:aS):(eK s).length≤s.length+1:=by
 induction s with
 | nil=>simp [eK]
 | cons b l ih =>
  rw [eK]
  cases b==47
  ·simp only [cond_false,List.length_cons]
   cases hs:eK l with
   | nil=>simp [js]
   | cons p ps=>rw [hs] at ih;simp only [js,List.length_cons] at ih ⊢;omega
  ·simp only [cond_true,List.length_cons];omega
theorem ZF(s:aS):(cut s).length≤s.length+1:=Nat.le_trans (List.length_filter_le _ _) (alV s)
def A3(p:aS):Prop:=p≠[]∧∀i,i<p.length→sJ (nb p i)=true
theorem ZG{s:aS}(h:jn s=true):∀p,p∈cut s→A3 p:=by
 intro p av
 obtain ⟨h1,h2⟩:=List.mem_filter.1 av
 refine⟨fun h0=>(by rw [P6.2 h0] at h2;cases h2),fun i hi=>?_⟩
 have hm:p.getD i 0∈p:=by rw [List.getD_eq_getElem?_getD,List.getElem?_eq_getElem hi];exact List.getElem_mem hi
 obtain ⟨h3,h4⟩:=alU h1 _ hm
 unfold jn at h
 rw [Bool.and_eq_true] at h
 obtain ⟨j,hj,he⟩:=List.mem_iff_getElem.1 h3
 have:=ka.1 h.1 j hj
 have e:nb s j=nb p i:=by unfold nb;rw [List.getD_eq_getElem?_getD,List.getElem?_eq_getElem hj,← he];rfl
 rw [e] at this
 have a7:(nb p i==47)=false:=by rw [← h4];exact Zy _
 rw [a7,Bool.false_or] at this
 exact this
theorem lt_irrefl:∀x:aS,dv x x=false
 | []=>rfl
 | a :: x=>by
  have:=lt_irrefl x
  unfold dv at *
  rw [Op.bytesLess]
  simp [this]
theorem ZH:∀x y:aS,dv x y=false→x=y∨dv y x=true
 | [],[],_=>.inl rfl
 | [],_ :: _,h=>by unfold dv Op.bytesLess at h;cases h
 | a :: x,[],_=>.inr (by unfold dv Op.bytesLess;rfl)
 | a :: x,b :: y,h=>by
  have ih:=ZH x y
  unfold dv at *
  rw [Op.bytesLess] at h
  simp only [Bool.or_eq_false_iff,decide_eq_false_iff_not,Bool.and_eq_false_iff,beq_eq_false_iff_ne] at h
  obtain ⟨h1,h2⟩:=h
  by_cases lp:a=b
  ·subst lp
   rcases h2 with h2 | h2
   ·exact absurd rfl h2
   ·rcases ih h2 with h3 | h3
    ·exact .inl (by rw [h3])
    ·exact .inr (by rw [Op.bytesLess];simp [h3])
  ·refine .inr ?_
   rw [Op.bytesLess]
   have:b<a:=by
    rcases UInt8.lt_or_lt_of_ne lp with h | h
    ·exact absurd h h1
    ·exact h
   simp [this]
theorem A4:∀ {x y z:aS},dv x y=true→dv y z=true→dv x z=true
 | _,[],_,h,_=>by unfold dv at h;simp [Op.bytesLess] at h
 | _,_ :: _,[],_,h=>by unfold dv at h;simp [Op.bytesLess] at h
 | [],_ :: _,_ :: _,_,_=>by unfold dv;simp [Op.bytesLess]
 | a :: x,b :: y,c :: z,h,k=>by
  have ih:=@A4 x y z
  unfold dv at *
  rw [Op.bytesLess] at h k ⊢
  simp only [Bool.or_eq_true,decide_eq_true_eq,Bool.and_eq_true,beq_iff_eq] at h k ⊢
  rcases h with h | ⟨rfl,h⟩
  ·rcases k with k | ⟨rfl,k⟩
   ·exact .inl (UInt8.lt_trans h k)
   ·exact .inl h
  ·rcases k with k | ⟨rfl,k⟩
   ·exact .inl k
   ·exact .inr ⟨rfl,ih h k⟩
theorem ZI{x y:aS}(h:dv x y=true):dv y x=false:=by
 cases hk:dv y x
 ·rfl
 ·have:=A4 h hk;rw [lt_irrefl] at this;cases this
theorem ZJ{x y:aS}(h:dv x y=true):x≠y:=by rintro rfl;rw [lt_irrefl] at h;cases h
theorem P7{x y:aS}(h:x≠y):dv y x = !dv x y:=by
 cases hk:dv x y
 ·rcases ZH x y hk with h1 | h1
  ·exact absurd h1 h
  ·rw [h1];rfl
 ·rw [ZI hk];rfl
def jt(N:List au.D):Prop:=N.Pairwise fun a b=>dv a.1 b.1=true
theorem alW{N:List au.D}(h:∀j,j+1<N.length→dv (J au N j).1 (J au N (j+1)).1=true):jt N:=by
 unfold jt
 rw [List.pairwise_iff_getElem]
 have key:∀d j,j+d+1<N.length→dv (J au N j).1 (J au N (j+d+1)).1=true:=by
  intro d
  induction d with
  | zero=>exact fun j hj=>h j hj
  | succ d ih=>exact fun j hj=>A4 (ih j (by omega)) (h (j+d+1) (by omega))
 intro i j hi hj nL
 have:=key (j-i-1) i (by omega)
 rw [show i +(j-i-1)+1=j by omega,di hi,di hj] at this
 exact this
theorem alX{N:List au.D}(h:jt N){i j:Nat}(nL:i<j)(hj:j<N.length):dv (J au N i).1 (J au N j).1=true:=by
 unfold jt at h
 rw [di hj,di (t:=au) (xs:=N) (i:=i) (by omega)]
 exact List.pairwise_iff_getElem.1 h i j (by omega) hj nL
structure P8(l:List a6)(x:a6):Prop where
 mode:0≤ft x∧ft x≤2047
 uid:0≤eF x∧eF x≤1000
 gid:0≤fK x∧fK x≤1000
 kind:kindOf x=1∨kindOf x=2∨kindOf x=3
 plain:kindOf x≠2→fJ x=0∧ff x=0∧ax x=[]
 file:kindOf x=1→(bS x).length≤64
 yf:kindOf x=3→jn (bS x)=true∧ft x=511
 dir:kindOf x=2→bS x=[]∧(0≤fJ x∧fJ x≤400)∧(0≤ff x∧ff x≤24)∧(ax x).length≤12
 names:∀d,d∈ax x→jm d.1=true∧d.2.1≠1∧(bG l d.2.1).isSome=true
 sorted:jt (ax x)
theorem Ig{x:a6} : plain x=true↔fJ x=0∧ff x=0∧ax x=[]:=by
 unfold plain
 simp only [Bool.and_eq_true,beq_iff_eq]
 constructor
 ·rintro ⟨⟨h1,h2⟩,h3⟩;exact⟨h2,h3,List.length_eq_zero_iff.1 (by omega)⟩
 ·rintro ⟨h1,h2,h3⟩;exact⟨⟨by rw [h3];rfl,h1⟩,h2⟩
theorem ZK{l:List a6}{N:List au.D} : eJ N.length (oz l N)=true↔(∀d,d∈N→jm d.1=true∧d.2.1≠1∧(bG l d.2.1).isSome=true)∧jt N:=by
 rw [ka]
 unfold oz
 simp only [Bool.and_eq_true,Bool.not_eq_true',Bool.and_eq_false_iff,decide_eq_false_iff_not,Bool.not_eq_false',beq_eq_false_iff_ne]
 constructor
 ·intro h
  refine⟨fun d ah=>?_,alW fun j hj=>?_⟩
  ·obtain ⟨i,hi,he⟩:=jL ah
   obtain ⟨⟨⟨h1,_⟩,h3⟩,h4⟩:=h i hi
   rw [he] at h1 h3 h4
   exact⟨h1,h3,h4⟩
  ·obtain ⟨⟨⟨_,h2⟩,_⟩,_⟩:=h (j+1) hj
   rcases h2 with h2 | h2
   ·omega
   ·rw [Nat.add_sub_cancel] at h2;exact h2
 ·rintro ⟨h1,h2⟩ i hi
  obtain ⟨k1,k2,k3⟩:=h1 _ (gX hi)
  refine⟨⟨⟨k1,?_⟩,k2⟩,k3⟩
  by_cases h0:0<i
  ·exact .inr (alX h2 (by omega) hi)
  ·exact .inl h0
theorem ZL{l:List a6}{x:a6} : nu l x=true↔P8 l x:=by
 unfold nu
 simp only [Bool.and_eq_true]
 constructor
 ·rintro ⟨⟨⟨h1,h2⟩,h3⟩,h⟩
  have h1:=dm.1 h1
  have h2:=dm.1 h2
  have h3:=dm.1 h3
  by_cases k1:kindOf x=1
  ·rw [cA (show x.2.1=1 from k1)] at h
   simp only [cond_true,Bool.and_eq_true,decide_eq_true_eq] at h
   obtain ⟨dQ,e5,fA⟩:=Ig.1 h.1
   exact⟨h1,h2,h3,.inl k1,fun _=>⟨dQ,e5,fA⟩,fun _=>by omega,fun k=>by omega,fun k=>by omega,by rw [fA];simp,by rw [fA];exact List.Pairwise.nil⟩
  ·rw [bV (show ¬x.2.1=1 from k1)] at h
   by_cases k3:kindOf x=3
   ·rw [cA (show x.2.1=3 from k3)] at h
    simp only [cond_true,cond_false,Bool.and_eq_true,beq_iff_eq] at h
    obtain ⟨dQ,e5,fA⟩:=Ig.1 h.1.1
    exact⟨h1,h2,h3,.inr (.inr k3),fun _=>⟨dQ,e5,fA⟩,fun k=>by omega,fun _=>⟨h.1.2,h.2⟩,fun k=>by omega,by rw [fA];simp,by rw [fA];exact List.Pairwise.nil⟩
   ·rw [bV (show ¬x.2.1=3 from k3)] at h
    by_cases k2:kindOf x=2
    ·rw [cA (show x.2.1=2 from k2)] at h
     simp only [cond_true,cond_false,Bool.and_eq_true,sN,decide_eq_true_eq] at h
     obtain ⟨⟨⟨e1,e2⟩,e3⟩,eH,lk⟩:=h
     obtain ⟨fj,la⟩:=ZK.1 eH
     exact⟨h1,h2,h3,.inr (.inl k2),fun k=>absurd k2 k,fun k=>by omega,fun k=>by omega,fun _=>⟨by unfold bB at e1;simpa using e1,dm.1 e2,dm.1 e3,by omega⟩,fj,la⟩
    ·rw [bV (show ¬x.2.1=2 from k2)] at h
     simp at h
 ·intro h
  refine⟨⟨⟨dm.2 h.mode,dm.2 h.uid⟩,dm.2 h.gid⟩,?_⟩
  rcases h.kind with k | k | k
  ·have k':x.2.1=1:=k
   rw [cA k']
   simp only [cond_true,Bool.and_eq_true,decide_eq_true_eq]
   exact⟨Ig.2 (h.plain (by omega)),by have:=h.file k;omega⟩
  ·have k':x.2.1=2:=k
   rw [bV (show ¬x.2.1=1 from fun h1=>by have:kindOf x=1:=h1;omega),bV (show ¬x.2.1=3 from fun h1=>by have:kindOf x=3:=h1;omega),cA k']
   simp only [cond_true,cond_false,Bool.and_eq_true,sN,decide_eq_true_eq]
   obtain ⟨d1,d2,d3,d4⟩:=h.dir k
   exact⟨⟨⟨by rw [d1];rfl,dm.2 d2⟩,dm.2 d3⟩,ZK.2 ⟨h.names,h.sorted⟩,by omega⟩
  ·have k':x.2.1=3:=k
   rw [bV (show ¬x.2.1=1 from fun h1=>by have:kindOf x=1:=h1;omega),cA k']
   simp only [cond_true,cond_false,Bool.and_eq_true,beq_iff_eq]
   exact⟨⟨Ig.2 (h.plain (by omega)),(h.yf k).1⟩,(h.yf k).2⟩
def kd(v:af.D):Int:=v.1
def fw(x:a6):Int:=x.1
structure cG(v:af.D):Prop where
 next:2≤kd v∧kd v≤100000
 len:1≤v.2.1.length∧v.2.1.length≤24
 root:fw (J I v.2.1 0)=1∧kindOf (J I v.2.1 0)=2
 ids:∀i,i<v.2.1.length→1≤fw (J I v.2.1 i)∧fw (J I v.2.1 i)≤kd v-1
 P9:∀i,i+1<v.2.1.length→fw (J I v.2.1 i)<fw (J I v.2.1 (i+1))
 ino:∀i,i<v.2.1.length→P8 v.2.1 (J I v.2.1 i)
 reach:∀i,1≤i→i<v.2.1.length→iR v.2.1 1 (J I v.2.1 i).1
 once:∀i,1≤i→i<v.2.1.length→kindOf (J I v.2.1 i)=2→eE v.2.1 (J I v.2.1 i).1=1
 bytes:bytesOf v.2.1≤400
 over:iT v.2.1=false
theorem P_{l:List a6}(h:∀i,i+1<l.length→fw (J I l i)<fw (J I l (i+1))):ox l:=by
 have bY:∀d j,j+d+1<l.length→fw (J I l j)<fw (J I l (j+d+1)):=by
  intro d
  induction d with
  | zero=>intro j hj;exact h j hj
  | succ d ih=>intro j hj;exact Int.lt_trans (ih j (by omega)) (h (j+d+1) hj)
 intro x hx
 unfold bG
 rw [hW]
 refine⟨hx,by simp,fun j hj=>?_⟩
 obtain ⟨d,rfl⟩:∃d,x=j+d+1:=⟨x-j-1,by omega⟩
 have:=bY d j hx
 rw [beq_eq_false_iff_ne]
 exact Int.ne_of_lt this
theorem ZM{v:af.D}(hn:2≤kd v∧kd v≤100000):eJ v.2.1.length (mw v)=true↔(∀i,i<v.2.1.length→1≤fw (J I v.2.1 i)∧fw (J I v.2.1 i)≤kd v-1) ∧
  (∀i,i+1<v.2.1.length→fw (J I v.2.1 i)<fw (J I v.2.1 (i+1)))∧∀i,i<v.2.1.length→P8 v.2.1 (J I v.2.1 i):=by
 rw [ka]
 unfold mw
 rw [show ay (v.1-1)=kd v-1 from ed (a:=kd v-1) (by omega) (by omega)]
 simp only [Bool.and_eq_true,Bool.not_eq_true',Bool.and_eq_false_iff,decide_eq_false_iff_not]
 constructor
 ·intro h
  refine⟨fun i hi=>dm.1 (h i hi).1.1,fun i hi=>?_,fun i hi=>ZL.1 (h i hi).2⟩
  rcases (h (i+1) hi).1.2 with h2 | h2
  ·omega
  ·rw [Nat.add_sub_cancel] at h2;exact Int.not_le.1 h2
 ·rintro ⟨h1,h2,h3⟩ i hi
  refine⟨⟨dm.2 (h1 i hi),?_⟩,ZL.2 (h3 i hi)⟩
  by_cases h0:0<i
  ·have:=h2 (i-1) (by omega)
   rw [show i-1+1=i by omega] at this
   exact .inr (Int.not_le.2 this)
  ·exact .inl h0
theorem Ih{v:af.D} : jq v=true↔cG v:=by
 unfold jq
 simp only [Bool.and_eq_true,beq_iff_eq]
 constructor
 ·rintro ⟨⟨⟨⟨h1,h2⟩,h3⟩,h4⟩,a7⟩
  have h1:=dm.1 h1
  have h2:=dm.1 h2
  by_cases a1:eJ v.2.1.length (mw v)=true
  case neg=>rw [Bool.not_eq_true] at a1;rw [a1] at a7;cases a7
  rw [a1] at a7
  obtain ⟨i1,i2,i3⟩:=(ZM h1).1 a1
  have ah:=P_ i2
  by_cases a2:eJ (v.2.1.length-1) (kc v.2.1)=true
  case neg=>rw [Bool.not_eq_true] at a2;rw [a2] at a7;cases a7
  rw [a2] at a7
  simp only [cond_true,Bool.and_eq_true,Bool.not_eq_true',decide_eq_true_eq] at a7
  have a2:=ka.1 a2
  unfold kc at a2
  simp only [Bool.and_eq_true,Bool.not_eq_true',Bool.and_eq_false_iff,beq_eq_false_iff_ne,bne_eq_false_iff_eq] at a2
  refine⟨h1,by omega,⟨h3,h4⟩,i1,i2,i3,fun i hi hl=>?_,fun i hi hl hk=>?_,by omega,a7.2⟩
  ·have:=(a2 (i-1) (by omega)).1
   rw [show i-1+1=i by omega] at this
   exact(AS v.2.1 ah 1 hl).1 this
  ·have:=(a2 (i-1) (by omega)).2
   rw [show i-1+1=i by omega] at this
   rcases this with h | h
   ·exact absurd hk h
   ·omega
 ·intro h
  have ah:=P_ h.P9
  refine⟨⟨⟨⟨dm.2 h.next,dm.2 (by have:=h.len;omega)⟩,h.root.1⟩,h.root.2⟩,?_⟩
  rw [(ZM h.next).2 ⟨h.ids,h.P9,h.ino⟩]
  have a2:eJ (v.2.1.length-1) (kc v.2.1)=true:=by
   rw [ka]
   unfold kc
   simp only [Bool.and_eq_true,Bool.not_eq_true',Bool.and_eq_false_iff,beq_eq_false_iff_ne,bne_eq_false_iff_eq]
   intro i hi
   refine⟨(AS v.2.1 ah 1 (by omega)).2 (h.reach (i+1) (by omega) (by omega)),?_⟩
   by_cases hk:kindOf (J I v.2.1 (i+1))=2
   ·have:=h.once (i+1) (by omega) (by omega) hk
    exact .inr (by rw [this];rfl)
   ·exact .inl hk
  rw [a2]
  simp only [cond_true,Bool.and_eq_true,Bool.not_eq_true',decide_eq_true_eq]
  exact⟨by have:=h.bytes;omega,h.over⟩
structure rh(l:List a6):Prop where
 len:l.length≤1048576
 db:dt l≤1048576
 iv:ox l
 iV:sM l
 bare:∀i,i<l.length→kindOf (J I l i)≠2→ax (J I l i)=[]
 yf:∀i,i<l.length→kindOf (J I l i)=3→jn (bS (J I l i))=true
 root:∃i,bG l 1=some i∧kindOf (J I l i)=2
theorem cG.iv{v:af.D}(h:cG v):ox v.2.1:=P_ h.P9
theorem cG.iV{v:af.D}(h:cG v):sM v.2.1:=fun i hi d ah=>((h.ino i hi).names d ah).2.2
def lJ(l:List a6)(id:Int):Prop:=∃i,bG l id=some i∧kindOf (J I l i)=2
def cf(r:aY.D):Int:=r.1
def nameOf(r:aY.D):aS:=r.2.1
def bu(r:aY.D):Int:=r.2.2.1
def bH(r:aY.D):Int:=r.2.2.2.1
structure lK(l:List a6)(r:aY.D):Prop where
 there:bH r=0→∃i,bG l (bu r)=some i
 named:bH r=0→nameOf r≠[]→bu r≠0∧jm (nameOf r)=true∧∃d,bG l (cf r)=some d∧kindOf (J I l d)=2∧ee (ax (J I l d)) (nameOf r)=bu r
 bare:bH r=0→nameOf r=[]→lJ l (bu r)
 new:bH r=2→nameOf r≠[]→bu r=0∧jm (nameOf r)=true∧∃d,bG l (cf r)=some d∧kindOf (J I l d)=2∧ee (ax (J I l d)) (nameOf r)=0
theorem alY(l:List a6){c:Int}(h0:c≠0)(a b:Int)(h2:c≠2∨True):lK l ((0:Int),([]:aS),(0:Int),c,()) :=
 ⟨fun h=>absurd h h0,fun h=>absurd h h0,fun h=>absurd h h0,fun _ h=>absurd rfl h⟩
def sQ(b3:Bool)(l:List a6)(r:aY.D):Prop:=lK l r∧(b3=true→bH r=0→∀i,bG l (bu r)=some i→kindOf (J I l i)≠3)
theorem yg(b3:Bool)(l:List a6){c:Int}(h0:c≠0)(a b:Int)(h2:c≠2∨True):sQ b3 l ((0:Int),([]:aS),(0:Int),c,()):=⟨alY l h0 a b h2,fun _ h=>absurd h h0⟩
theorem P'{l:List a6}(h:rh l)(id:Int):lJ l (kA l id):=by
 unfold kA
 cases av:Ib l id with
 | none=>exact h.root
 | some i =>
  obtain ⟨h1,h2,_⟩:=hW.1 av
  refine⟨i,h.iv i h1,?_⟩
  by_cases hk:kindOf (J I l i)=2
  ·exact hk
  ·have:=h.bare i h1 hk
   rw [this] at h2
   simp [pK,e9] at h2
theorem A5{N:List au.D}{s:aS}(h:ee N s≠0):∃d,d∈N∧d.1=s∧d.2.1=ee N s:=by
 unfold ee at h ⊢
 cases hf:e9 N.length (re N s) with
 | none=>rw [hf] at h;exact absurd rfl h
 | some j =>
  obtain ⟨h1,h2,_⟩:=hW.1 hf
  exact⟨J au N j,gX h1,by unfold re bB at h2;simpa using h2,rfl⟩
theorem alZ{p:aS}(h:A3 p)(h1:bB p [46]=false)(h2:bB p [46,46]=false)(c7:p.length≤8):jm p=true:=by
 have hl:1≤p.length:=by
  rcases Nat.eq_zero_or_pos p.length with h0 | h0
  ·exact absurd (List.length_eq_zero_iff.1 h0) h.1
  ·exact h0
 unfold jm
 rw [h1,h2,ka.2 (fun i hi=>h.2 i hi),dm.2 ⟨by omega,by omega⟩];rfl
theorem al0{L:List aS}{a c:Nat}(h:0<c)(hl:a+c≤L.length):J aa.str L a∈part L a c:=by
 unfold part
 have h1:a<L.length:=by omega
 rw [List.drop_eq_getElem_cons h1,show c=(c-1)+1 by omega,List.take_succ_cons,di (t:=.str) h1]
 exact List.mem_cons_self
theorem al1{L:List aS}{a c:Nat} : ∀p,p∈part L (a+1) (c-1)→p∈part L a c:=by
 intro p av
 unfold part at *
 rcases Nat.eq_zero_or_pos c with h | h
 ·subst h;simp at av
 ·rcases Nat.lt_or_ge a L.length with h1 | h1
  ·rw [List.drop_eq_getElem_cons h1,show c=(c-1)+1 by omega,List.take_succ_cons]
   exact List.mem_cons_of_mem _ av
  ·rw [List.drop_of_length_le (by omega)] at av;simp at av
theorem Qa{s:aS}(h:jn s=true):1≤s.length∧s.length≤60:=by
 unfold jn at h
 rw [Bool.and_eq_true] at h
 have:=dm.1 h.2
 omega
theorem nx(m:Nat)(U ad ae ai ar aB aW bl bQ):(e7 (m+1)).bf U ad ae ai ar aB aW bl bQ=lF (e7 m) U ad ae ai ar aB aW bl bQ:=rfl
theorem Ii(m:Nat)(U ad ae ai ar aB aW bl bQ c8 eD fY hV):(e7 (m+1)).Vy U ad ae ai ar aB aW bl bQ c8 eD fY hV=xV (e7 m) U ad ae ai ar aB aW bl bQ c8 eD fY hV:=rfl
theorem ZN(m:Nat)(U ad ae ai ar aB aW bl bQ c8):(e7 (m+1)).jJ U ad ae ai ar aB aW bl bQ c8=FZ (e7 m) U ad ae ai ar aB aW bl bQ c8:=rfl
theorem ZO(m:Nat)(U ad ae ai ar aB aW bl bQ c8 eD fY hV):(e7 (m+1)).An U ad ae ai ar aB aW bl bQ c8 eD fY hV=F2 (e7 m) U ad ae ai ar aB aW bl bQ c8 eD fY hV:=rfl
theorem ZP(m:Nat)(U ad ae ai ar aB aW bl bQ c8):(e7 (m+1)).pt U ad ae ai ar aB aW bl bQ c8=F3 (e7 m) U ad ae ai ar aB aW bl bQ c8:=rfl
theorem mz(x:a6):J I [x] 0=x:=rfl
theorem b1.jump{β : Type}{f g:Nat → β}{B:Nat}(k:Nat){y : β}(h:b1 g B y)(hf:∀m,f (m+k)=g m):b1 f (B+k) y:=by
 intro m hm
 obtain ⟨j,rfl⟩:∃j,m=j+k:=⟨m-k,by omega⟩
 rw [hf];exact h j (by omega)
theorem b1.now{β : Type}{f:Nat → β}(k:Nat){y : β}(hf:∀m,f (m+k)=y):b1 f k y:=by
 intro m hm
 obtain ⟨j,rfl⟩:∃j,m=j+k:=⟨m-k,by omega⟩
 exact hf j
theorem al2(v:af.D)(c:aP.D)(hw:rh v.2.1)(hc:dY c=true)(b3:Bool)(z:aY.D):∀(n:Nat) (at_:Int) (k:Nat) (L:List aS) (a cN:Nat),(8-k)*100+cN≤n→k≤8→a+cN≤L.length→cN≤100→(∀p,p∈part L a cN→A3 p)→lJ v.2.1 at_ →
  ∃r,sQ b3 v.2.1 r∧b1 (fun m=>gh m v b3 a cN at_ (k:Int) c z L) (n+2) (some (r,()))∧b1 (fun m=>(e7 m).bf b3 a cN at_ (k:Int) v c z L) (5*n+5) (some (r,())):=by
 intro n
 induction n with
 | zero =>
  intro at_ k L a cN hn hk hl al3 av cm
  have h0:cN=0:=by omega
  subst h0
  obtain ⟨d,ah,iW⟩:=cm
  refine⟨((0:Int),([]:aS),at_,(0:Int),()),⟨⟨fun _=>⟨d,ah⟩,fun _ h=>absurd rfl h,fun _ _=>⟨d,ah,iW⟩,fun _ h=>absurd rfl h⟩,fun _ _ e he=>by rw [show bu (((0:Int),([]:aS),at_,(0:Int),()):aY.D)=at_ from rfl,ah] at he;rw [← aX he,iW];decide⟩,(b1.now 1 fun m=>?_).mono (by omega),(b1.now 1 fun m=>?_).mono (by omega)⟩
  ·simp only [gh,lC];rfl
  ·rw [nx];unfold lF;rfl
 | succ n ih =>
  intro at_ k L a cN hn hk hl al3 av cm
  rcases Nat.eq_zero_or_pos cN with h0 | h0
  ·subst h0
   obtain ⟨d,ah,iW⟩:=cm
   refine⟨((0:Int),([]:aS),at_,(0:Int),()),⟨⟨fun _=>⟨d,ah⟩,fun _ h=>absurd rfl h,fun _ _=>⟨d,ah,iW⟩,fun _ h=>absurd rfl h⟩,fun _ _ e he=>by rw [show bu (((0:Int),([]:aS),at_,(0:Int),()):aY.D)=at_ from rfl,ah] at he;rw [← aX he,iW];decide⟩,(b1.now 1 fun m=>?_).mono (by omega),(b1.now 1 fun m=>?_).mono (by omega)⟩
   ·simp only [gh,lC];rfl
   ·rw [nx];unfold lF;rfl
  obtain ⟨d,ah,iW⟩:=cm
  have hdl:=cq ah
  have hT:(ax (J I v.2.1 d)).length≤1048576:=Nat.le_trans (fZ hdl.1) hw.db
  have m5:=av _ (al0 h0 hl)
  have fR:∀p,p∈part L (a+1) (cN-1)→A3 p:=fun p h=>av p (al1 p h)
  have fG:aL cN 0=some 0:=ba (i:=0) h0
  have h5:dN cN 1 (cN:Int)=some (1,cN):=jc (lo:=1) h0 (Nat.le_refl _)
  have fX:decide ((cN:Int)>0)=true:=decide_eq_true (by omega)
  have ju:=nw v at_ hw.len ah
  have ny:=A0 c (J I v.2.1 d) 1 hc
  have pL:=pI c (J I v.2.1 d) 1 hc
  have al4:=alG v at_ hw.len hw.db
  have al5:=Zv v at_ hw.len hw.db
  have pM:kR (v,at_,())=some ((d:Int),()):=by rw [ow v at_ hw.len,ah];rfl
  have pN:aL v.2.1.length (d:Int)=some d:=ba hdl.1
  have sR:=Zu (J I v.2.1 d) (J aa.str L a) hT
  have yh:=alF v at_ (J aa.str L a) hw.len ah hT
  cases hm:may c (J I v.2.1 d) 1 with
  | false =>
   refine⟨((0:Int),([]:aS),(0:Int),(13:Int),()),yg b3 _ (by decide) 0 0 (.inr trivial),(b1.now 1 fun m=>?_).mono (by omega),(b1.now 1 fun m=>?_).mono (by omega)⟩
   ·rw [gh,lC]
    simp -index only [fX,fG,h5,ju,mz,ny,hm,cond_true,cond_false,ak,Bool.not_true,Bool.not_false,List.isEmpty_cons]
   ·rw [nx];unfold lF
    simp only [fX,fG,h5,pM,pN,pL,hm,cond_true,cond_false,ak,Bool.not_true,Bool.not_false]
  | true =>
  cases h1:bB (J aa.str L a) [46] with
  | true =>
   obtain ⟨r,bw,b9,gd⟩:=ih at_ k L (a+1) (cN-1) (by omega) hk (by omega) (by omega) fR ⟨d,ah,iW⟩
   refine⟨r,bw,(b9.jump (f:=fun m=>gh m v b3 a cN at_ (k:Int) c z L) 1 fun m=>?_).mono (by omega),(gd.jump (f:=fun m=>(e7 m).bf b3 a cN at_ (k:Int) v c z L) 1 fun m=>?_).mono (by omega)⟩
   ·rw [gh,lC]
    simp -index only [fX,fG,h5,ju,mz,ny,hm,h1,cond_true,cond_false,ak,Bool.not_true,Bool.not_false,List.isEmpty_cons,Nat.add_zero]
   ·rw [nx];unfold lF
    simp only [fX,fG,h5,pM,pN,pL,hm,h1,cond_true,cond_false,ak,Bool.not_true,Bool.not_false,Nat.add_zero]
  | false =>
  cases h2:bB (J aa.str L a) [46,46] with
  | true =>
   obtain ⟨r,bw,b9,gd⟩:=ih (kA v.2.1 at_) k L (a+1) (cN-1) (by omega) hk (by omega) (by omega) fR (P' hw _)
   refine⟨r,bw,(b9.jump (f:=fun m=>gh m v b3 a cN at_ (k:Int) c z L) 1 fun m=>?_).mono (by omega),(gd.jump (f:=fun m=>(e7 m).bf b3 a cN at_ (k:Int) v c z L) 1 fun m=>?_).mono (by omega)⟩
   ·rw [gh,lC]
    simp -index only [fX,fG,h5,ju,mz,ny,hm,h1,h2,al4,cond_true,cond_false,ak,Bool.not_true,Bool.not_false,List.isEmpty_cons,Nat.add_zero]
   ·rw [nx];unfold lF
    simp only [fX,fG,h5,pM,pN,pL,hm,h1,h2,al5,cond_true,cond_false,ak,Bool.not_true,Bool.not_false,Nat.add_zero]
  | false =>
  cases c7:decide (((J aa.str L a).length:Int)>8) with
  | true =>
   refine⟨((0:Int),([]:aS),(0:Int),(36:Int),()),yg b3 _ (by decide) 0 0 (.inr trivial),(b1.now 1 fun m=>?_).mono (by omega),(b1.now 1 fun m=>?_).mono (by omega)⟩
   ·rw [gh,lC]
    simp -index only [fX,fG,h5,ju,mz,ny,hm,h1,h2,c7,cond_true,cond_false,ak,Bool.not_true,Bool.not_false,List.isEmpty_cons,Nat.add_zero]
   ·rw [nx];unfold lF
    simp only [fX,fG,h5,pM,pN,pL,hm,h1,h2,c7,cond_true,cond_false,ak,Bool.not_true,Bool.not_false,Nat.add_zero]
  | false =>
  have j1:jm (J aa.str L a)=true:=alZ m5 h1 h2 (by
   have:=of_decide_eq_false c7
   have h:¬((J aa.str L a).length:Int)>8:=this
   omega)
  cases iS:ee (ax (J I v.2.1 d)) (J aa.str L a)==0 with
  | true =>
   cases hB:((cN-1:Nat):Int)==0 with
   | true =>
    refine⟨(at_,J aa.str L a,(0:Int),(2:Int),()),⟨⟨fun h=>(by cases h),fun h=>(by cases h),fun h=>(by cases h),fun _ _=>⟨rfl,j1,d,ah,iW,beq_iff_eq.1 iS⟩⟩,fun _ h=>(by cases h)⟩,(b1.now 1 fun m=>?_).mono (by omega),(b1.now 1 fun m=>?_).mono (by omega)⟩
    ·rw [gh,lC]
     simp -index only [fX,fG,h5,ju,mz,ny,hm,h1,h2,c7,sR,iS,hB,cond_true,cond_false,ak,Bool.not_true,Bool.not_false,List.isEmpty_cons,Nat.add_zero]
    ·rw [nx];unfold lF
     simp only [fX,fG,h5,pM,pN,pL,hm,h1,h2,c7,yh,iS,hB,cond_true,cond_false,ak,Bool.not_true,Bool.not_false,Nat.add_zero]
   | false =>
    refine⟨((0:Int),([]:aS),(0:Int),(2:Int),()),⟨⟨fun h=>(by cases h),fun h=>(by cases h),fun h=>(by cases h),fun _ h=>absurd rfl h⟩,fun _ h=>(by cases h)⟩,(b1.now 1 fun m=>?_).mono (by omega),(b1.now 1 fun m=>?_).mono (by omega)⟩
    ·rw [gh,lC]
     simp -index only [fX,fG,h5,ju,mz,ny,hm,h1,h2,c7,sR,iS,hB,cond_true,cond_false,ak,Bool.not_true,Bool.not_false,List.isEmpty_cons,Nat.add_zero]
    ·rw [nx];unfold lF
     simp only [fX,fG,h5,pM,pN,pL,hm,h1,h2,c7,yh,iS,hB,cond_true,cond_false,ak,Bool.not_true,Bool.not_false,Nat.add_zero]
  | false =>
  obtain ⟨e,he,ZQ,zj⟩:=A5 (N:=ax (J I v.2.1 d)) (s:=J aa.str L a) (by simpa using iS)
  obtain ⟨i2,ia⟩:=Option.isSome_iff_exists.1 (hw.iV d hdl.1 e he)
  rw [zj] at ia
  have ZR:=cq ia
  have yi:=nw v _ hw.len ia
  have Ij:kR (v,ee (ax (J I v.2.1 d)) (J aa.str L a),())=some ((i2:Int),()):=by rw [ow v _ hw.len,ia];rfl
  have Ik:aL v.2.1.length (i2:Int)=some i2:=ba ZR.1
  have ZS:((J I v.2.1 i2).2.1==3)=true→(!(((cN-1:Nat):Int)==0)||b3)=true→∃r,sQ b3 v.2.1 r∧b1 (fun m=>gh m v b3 a cN at_ (k:Int) c z L) (n+1+2) (some (r,()))∧b1 (fun m=>(e7 m).bf b3 a cN at_ (k:Int) v c z L) (5*(n+1)+5) (some (r,())):=by
   intro kX lL
   have ZT:=hw.yf i2 ZR.1 (beq_iff_eq.1 kX)
   have yj:=Qa ZT
   have yk:aL ((J I v.2.1 i2).2.2.2.2.2.1).length 0=some 0:=ba (i:=0) yj.1
   have Il:sc ((J I v.2.1 i2).2.2.2.2.2.1,())=some (cut (bS (J I v.2.1 i2)),()):=ZE _ (Nat.le_trans yj.2 (by omega))
   have ZU:Am ((J I v.2.1 i2).2.2.2.2.2.1,())=some (cut (bS (J I v.2.1 i2)),()):=ZA _ (Nat.le_trans yj.2 (by omega))
   have hcl:=ZF (bS (J I v.2.1 i2))
   have fV:(part L (a+1) (cN-1)).length≤100:=by unfold part;rw [List.length_take];omega
   have hroom:room ((cut (bS (J I v.2.1 i2))).length +(part L (a+1) (cN-1)).length)=true:=ck (by omega)
   have iI:=ZG ZT
   generalize wa:cut (bS (J I v.2.1 i2))++part L (a+1) (cN-1)=pO at *
   have al6:∀p,p∈pO→A3 p:=by
    intro p nX
    rw [← wa] at nX
    rcases List.mem_append.1 nX with h | h
    ·exact iI p h
    ·exact fR p h
   obtain ⟨at',al7,ri,rj⟩:∃at',lJ v.2.1 at'∧(∀m,gh (m+1) v b3 a cN at_ (k:Int) c z L=cond ((k:Int)==8) (some (((0:Int),([]:aS),(0:Int),(40:Int),()),()))
      (cond (decide ((pO.length:Int)>40)) (some (((0:Int),([]:aS),(0:Int),(36:Int),()),())) (gh m v b3 0 pO.length at' (ay ((k:Int)+1)) c z pO))) ∧
     ∀m,(e7 (m+4)).bf b3 a cN at_ (k:Int) v c z L=cond (decide (ay ((k:Int)+1)>8)) (some (((0:Int),([]:aS),(0:Int),(40:Int),()),()))
      (cond (decide ((pO.length:Int)>40)) (some (((0:Int),([]:aS),(0:Int),(36:Int),()),())) ((e7 m).bf b3 0 pO.length at' (ay ((k:Int)+1)) v c z pO)):=by
    cases hb:((((J I v.2.1 i2).2.2.2.2.2.1).getD 0 0).toNat:Int)==47 with
    | false =>
     refine⟨at_,⟨d,ah,iW⟩,fun m=>?_,fun m=>?_⟩
     ·rw [gh,lC]
      cases hB:((cN-1:Nat):Int)==0 with
      | false =>
       simp -index only [fX,fG,h5,ju,mz,ny,hm,h1,h2,c7,sR,iS,yi,kX,hB,yk,hb,Il,hroom,wa,UW,cond_true,cond_false,ak,Bool.not_true,Bool.not_false,List.isEmpty_cons,Nat.add_zero]
      | true =>
       rw [hB] at lL
       have lL:b3=true:=lL
       simp -index only [fX,fG,h5,ju,mz,ny,hm,h1,h2,c7,sR,iS,yi,kX,hB,lL,yk,hb,Il,hroom,wa,UY,cond_true,cond_false,ak,Bool.not_true,Bool.not_false,List.isEmpty_cons,Nat.add_zero]
     ·rw [nx];unfold lF
      simp only [fX,fG,h5,pM,pN,pL,hm,h1,h2,c7,yh,iS,nc,Ij,Ik,cond_true,cond_false,ak,Bool.not_true,Bool.not_false,Nat.add_zero]
      rw [Ii];unfold xV
      have:(cond (!(((cN-1:Nat):Int)==0)) ((e7 (m+2)).jJ b3 (a+1) (cN-1) at_ (k:Int) v c z L (J I v.2.1 i2)) (cond b3 ((e7 (m+2)).jJ b3 (a+1) (cN-1) at_ (k:Int) v c z L (J I v.2.1 i2)) ((e7 (m+2)).An b3 (a+1) (cN-1) at_ (k:Int) (J aa.str L a) (((cN-1:Nat):Int)==0) (ee (ax (J I v.2.1 d)) (J aa.str L a)) v c z L (J I v.2.1 i2))))=(e7 (m+2)).jJ b3 (a+1) (cN-1) at_ (k:Int) v c z L (J I v.2.1 i2):=by
       revert lL
       cases ((cN-1:Nat):Int)==0 <;> cases b3 <;> intro lL <;> first | rfl | cases lL
      rw [kX]
      simp only [cond_true]
      refine this.trans ?_
      rw [ZN];unfold FZ
      rw [yk]
      simp only [ak,hb,cond_false]
      rw [ZP];unfold F3
      rw [ZU]
      simp only [ak,hroom,cond_true,wa]
    | true =>
     refine⟨1,hw.root,fun m=>?_,fun m=>?_⟩
     ·rw [gh,lC]
      cases hB:((cN-1:Nat):Int)==0 with
      | false =>
       simp -index only [fX,fG,h5,ju,mz,ny,hm,h1,h2,c7,sR,iS,yi,kX,hB,yk,hb,Il,hroom,wa,UU,cond_true,cond_false,ak,Bool.not_true,Bool.not_false,List.isEmpty_cons,Nat.add_zero]
      | true =>
       rw [hB] at lL
       have lL:b3=true:=lL
       simp -index only [fX,fG,h5,ju,mz,ny,hm,h1,h2,c7,sR,iS,yi,kX,hB,lL,yk,hb,Il,hroom,wa,UX,cond_true,cond_false,ak,Bool.not_true,Bool.not_false,List.isEmpty_cons,Nat.add_zero]
     ·rw [nx];unfold lF
      simp only [fX,fG,h5,pM,pN,pL,hm,h1,h2,c7,yh,iS,nc,Ij,Ik,cond_true,cond_false,ak,Bool.not_true,Bool.not_false,Nat.add_zero]
      rw [Ii];unfold xV
      have:(cond (!(((cN-1:Nat):Int)==0)) ((e7 (m+2)).jJ b3 (a+1) (cN-1) at_ (k:Int) v c z L (J I v.2.1 i2)) (cond b3 ((e7 (m+2)).jJ b3 (a+1) (cN-1) at_ (k:Int) v c z L (J I v.2.1 i2)) ((e7 (m+2)).An b3 (a+1) (cN-1) at_ (k:Int) (J aa.str L a) (((cN-1:Nat):Int)==0) (ee (ax (J I v.2.1 d)) (J aa.str L a)) v c z L (J I v.2.1 i2))))=(e7 (m+2)).jJ b3 (a+1) (cN-1) at_ (k:Int) v c z L (J I v.2.1 i2):=by
       revert lL
       cases ((cN-1:Nat):Int)==0 <;> cases b3 <;> intro lL <;> first | rfl | cases lL
      rw [kX]
      simp only [cond_true]
      refine this.trans ?_
      rw [ZN];unfold FZ
      rw [yk]
      simp only [ak,hb,cond_true]
      rw [ZP];unfold F3
      rw [ZU]
      simp only [ak,hroom,cond_true,wa]
   have cp:ay ((k:Int)+1)=((k+1:Nat):Int):=de k (by omega)
   rw [cp] at ri rj
   rcases Nat.lt_or_ge k 8 with al8 | al8
   ·rw [show((k:Int)==8)=false by simp;omega] at ri
    rw [show decide (((k+1:Nat):Int)>8)=false from decide_eq_false (by omega)] at rj
    simp only [cond_false] at ri rj
    cases Im:decide ((pO.length:Int)>40) with
    | true =>
     rw [Im] at ri rj
     refine⟨((0:Int),([]:aS),(0:Int),(36:Int),()),yg b3 _ (by decide) 0 0 (.inr trivial),(b1.now 1 fun m=>ri m).mono (by omega),(b1.now 4 fun m=>rj m).mono (by omega)⟩
    | false =>
     rw [Im] at ri rj
     have Im:=of_decide_eq_false Im
     obtain ⟨r,bw,b9,gd⟩:=ih at' (k+1) pO 0 pO.length (by omega) (by omega) (by omega) (by omega) (by rw [ZV];exact al6) al7
     exact⟨r,bw,(b9.jump (f:=fun m=>gh m v b3 a cN at_ (k:Int) c z L) 1 fun m=>ri m).mono (by omega),(gd.jump (f:=fun m=>(e7 m).bf b3 a cN at_ (k:Int) v c z L) 4 fun m=>rj m).mono (by omega)⟩
   ·rw [show((k:Int)==8)=true by simp;omega] at ri
    rw [show decide (((k+1:Nat):Int)>8)=true from decide_eq_true (by omega)] at rj
    refine⟨((0:Int),([]:aS),(0:Int),(40:Int),()),yg b3 _ (by decide) 0 0 (.inr trivial),(b1.now 1 fun m=>ri m).mono (by omega),(b1.now 4 fun m=>rj m).mono (by omega)⟩
  have eI:(b3=true→kindOf (J I v.2.1 i2)≠3)→(∀m,gh (m+1) v b3 a cN at_ (k:Int) c z L=cond (((cN-1:Nat):Int)==0) (some ((at_,J aa.str L a,ee (ax (J I v.2.1 d)) (J aa.str L a),(0:Int),()),()))
     (cond ((J I v.2.1 i2).2.1 != 2) (some (((0:Int),([]:aS),(0:Int),(20:Int),()),())) (gh m v b3 (a+1) (cN-1) (ee (ax (J I v.2.1 d)) (J aa.str L a)) (k:Int) c z L))) →
    (∀m,(e7 (m+3)).bf b3 a cN at_ (k:Int) v c z L=cond (((cN-1:Nat):Int)==0) (some ((at_,J aa.str L a,ee (ax (J I v.2.1 d)) (J aa.str L a),(0:Int),()),()))
     (cond ((J I v.2.1 i2).2.1 != 2) (some (((0:Int),([]:aS),(0:Int),(20:Int),()),())) ((e7 m).bf b3 (a+1) (cN-1) (ee (ax (J I v.2.1 d)) (J aa.str L a)) (k:Int) v c z L))) →
    ∃r,sQ b3 v.2.1 r∧b1 (fun m=>gh m v b3 a cN at_ (k:Int) c z L) (n+1+2) (some (r,()))∧b1 (fun m=>(e7 m).bf b3 a cN at_ (k:Int) v c z L) (5*(n+1)+5) (some (r,())):=by
   intro hnl g1 g2
   cases hB:((cN-1:Nat):Int)==0 with
   | true =>
    refine⟨(at_,J aa.str L a,ee (ax (J I v.2.1 d)) (J aa.str L a),(0:Int),()),⟨⟨fun _=>⟨i2,ia⟩,fun _ _=>⟨beq_eq_false_iff_ne.1 iS,j1,d,ah,iW,rfl⟩,fun _ h=>absurd h m5.1,fun h=>(by cases h)⟩,fun hf _ e he=>by rw [show bu ((at_,J aa.str L a,ee (ax (J I v.2.1 d)) (J aa.str L a),(0:Int),()):aY.D)=ee (ax (J I v.2.1 d)) (J aa.str L a) from rfl,ia] at he;rw [← aX he];exact hnl hf⟩,(b1.now 1 fun m=>?_).mono (by omega),(b1.now 3 fun m=>?_).mono (by omega)⟩
    ·rw [g1,hB];rfl
    ·rw [g2,hB];rfl
   | false =>
    rw [hB] at g1 g2
    simp only [cond_false] at g1 g2
    by_cases hk2:kindOf (J I v.2.1 i2)=2
    ·obtain ⟨r,bw,b9,gd⟩:=ih (ee (ax (J I v.2.1 d)) (J aa.str L a)) k L (a+1) (cN-1) (by omega) hk (by omega) (by omega) fR ⟨i2,ia,hk2⟩
     refine⟨r,bw,(b9.jump (f:=fun m=>gh m v b3 a cN at_ (k:Int) c z L) 1 fun m=>?_).mono (by omega),(gd.jump (f:=fun m=>(e7 m).bf b3 a cN at_ (k:Int) v c z L) 3 fun m=>?_).mono (by omega)⟩
     ·rw [g1,dL (show(J I v.2.1 i2).2.1=2 from hk2)];rfl
     ·rw [g2,dL (show(J I v.2.1 i2).2.1=2 from hk2)];rfl
    ·refine⟨((0:Int),([]:aS),(0:Int),(20:Int),()),yg b3 _ (by decide) 0 0 (.inr trivial),(b1.now 1 fun m=>?_).mono (by omega),(b1.now 3 fun m=>?_).mono (by omega)⟩
     ·rw [g1,c4 (show ¬(J I v.2.1 i2).2.1=2 from hk2)];rfl
     ·rw [g2,c4 (show ¬(J I v.2.1 i2).2.1=2 from hk2)];rfl
  cases kX:(J I v.2.1 i2).2.1==3 with
  | true =>
   cases hB:((cN-1:Nat):Int)==0 with
   | false=>exact ZS kX (by rw [hB];rfl)
   | true =>
    cases b3 with
    | true=>exact ZS kX (by rw [hB];rfl)
    | false =>
     refine eI (fun h=>by cases h) (fun m=>?_) (fun m=>?_)
     ·rw [gh,lC]
      simp -index only [fX,fG,h5,ju,mz,ny,hm,h1,h2,c7,sR,iS,yi,kX,hB,cond_true,cond_false,ak,Bool.not_true,Bool.not_false,List.isEmpty_cons,Nat.add_zero]
     ·rw [nx];unfold lF
      simp only [fX,fG,h5,pM,pN,pL,hm,h1,h2,c7,yh,iS,nc,Ij,Ik,hB,cond_true,cond_false,ak,Bool.not_true,Bool.not_false,Nat.add_zero]
      rw [Ii];unfold xV
      simp only [kX,cond_true,cond_false,Bool.not_true,Bool.not_false]
      rw [ZO];unfold F2;rfl
  | false =>
   refine eI (fun _=>beq_eq_false_iff_ne.1 kX) (fun m=>?_) (fun m=>?_)
   ·rw [gh,lC]
    simp -index only [fX,fG,h5,ju,mz,ny,hm,h1,h2,c7,sR,iS,yi,kX,cond_true,cond_false,ak,Bool.not_true,Bool.not_false,List.isEmpty_cons,Nat.add_zero]
   ·rw [nx];unfold lF
    simp only [fX,fG,h5,pM,pN,pL,hm,h1,h2,c7,yh,iS,nc,Ij,Ik,cond_true,cond_false,ak,Bool.not_true,Bool.not_false,Nat.add_zero]
    rw [Ii];unfold xV
    simp only [kX,cond_true,cond_false]
    rw [ZO];unfold F2;rfl
theorem ZW(v:af.D)(c:aP.D)(path:aS)(b3:Bool)(hw:rh v.2.1)(hc:dY c=true)(av:sO path=true) :
  ∃r,sQ b3 v.2.1 r∧L9 (v,c,path,b3,())=some (r,())∧F4 (v,c,path,b3,())=some (r,()):=by
 unfold sO at av
 rw [Bool.and_eq_true] at av
 have yj:=Qa av.1
 have hcl:=ZF path
 obtain ⟨r,bw,b9,gd⟩:=al2 v c hw hc b3 ((0:Int),([]:aS),(0:Int),(0:Int),()) 900 1 0 (cut path) 0 (cut path).length (by omega) (by omega) (by omega) (by omega) (by rw [ZV];exact ZG av.1) hw.root
 refine⟨r,bw,?_,?_⟩
 ·show Ee (gh aK) v c path b3=_
  unfold Ee
  rw [ZE path (by omega)]
  exact kV b9 (by omega)
 ·show FY (e7 aK) v c path b3=_
  unfold FY
  rw [ZA path (by omega)]
  exact kV gd (by omega)
end Go.LM.jH
