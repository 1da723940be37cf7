/- Volumes: both sides are the same plain functions. Conditions: each theorem's own hypotheses. -/
import Derived.Test.YtlkbjdmfbadhaaaGreatDoorUVp
import Derived.Test.YtlkbjdmfbadhaaaGreatDoorUVa
set_option linter.unusedVariables false
set_option linter.unusedSimpArgs false
namespace Go.LM.j7
theorem ka(x a b:Int):dz (x,a,b,())=some (ct x a b,()):=by show N0 x a b=_;unfold N0 ct;by_cases h:a≤x <;> simp [h]
theorem jx(x a b:Int):dG (x,a,b,())=some (ct x a b,()):=by show MD x a b=_;unfold MD ct;by_cases h:a≤x <;> simp [h]
theorem cG{a:Int}(h : -4000000000000000000≤a)(h':a≤4000000000000000000):ax a=a:=fT (by omega) (by omega)
def fo(n:Nat)(P:Nat→Bool):Bool:=(List.range n).all P
theorem gZ{n:Nat}{P:Nat→Bool} : fo n P=true↔∀i,i<n→P i=true:=by simp [fo,List.all_eq_true]
theorem amu{n:Nat}{P Q:Nat→Bool}(h:∀i,i<n→(∀j,j<i→P j=true)→(∀j,j<i→Q j=true)→P i=Q i):fo n P=fo n Q:=by
 rw [Bool.eq_iff_iff,gZ,gZ]
 have key:∀dn≤n,(∀i,i<dn→P i=true)↔(∀i,i<dn→Q i=true):=by
  intro dn
  induction dn with
  | zero=>intro _;simp
  | succ m ih=>
   intro hm;have ih:=ih (by omega);constructor
   ·intro aw i hi;have jm:∀j,j<m→P j=true:=fun j hj=>aw j (by omega)
    have BO:=ih.1 jm;by_cases Qp:i=m
    ·subst Qp;rw [← h i (by omega) jm BO];exact aw i hi
    ·exact BO i (by omega)
   ·intro hq i hi;have BO:∀j,j<m→Q j=true:=fun j hj=>hq j (by omega)
    have jm:=ih.2 BO;by_cases Qp:i=m
    ·subst Qp;rw [h i (by omega) jm BO];exact hq i hi
    ·exact jm i (by omega)
 exact key n (Nat.le_refl _)
open Classical in
theorem tM(n:Nat)(hn:n≤4611686018427387904)(P:Nat→Bool)(E:Bool)(L:Nat→Int→Option (Bool×Unit))
  (h0:∀m,(∀j,j<n→P j=true)→L (m+1) (n:Int)=some (E,()))
  (hs:∀m (i:Nat),i<n→(∀j,j<i→P j=true)→ax ((i:Int)+1)=(i:Int)+1→L (m+1) (i:Int)=cond (P i) (L m ((i:Int)+1)) (some (false,())))
  (q:Nat:=aM) (hq:n<q:=by exact iU (by omega)):L q 0=some (fo n P&&E,()):=by
 have:=nh n hn L (fun i=>some (decide (∀j,i≤j→j<n→P j=true)&&E,())) (fun i=>∀j,j<i→P j=true) (fun m hi=>by
  rw [h0 m hi]
  rw [decide_eq_true (by intro j h1 h2;omega)];rfl) (fun m i hi hinv hw ih=>by
  rw [hs m i hi hinv hw];cases aw:P i
  ·simp only [cond_false];rw [decide_eq_false (fun h=>by have:=h i (Nat.le_refl _) hi;rw [aw] at this;cases this)];rfl
  ·simp only [cond_true]
   rw [ih (fun j hj=>by
    by_cases h:j=i
    ·subst h;exact aw
    ·exact hinv j (by omega))]
   congr 3;apply decide_eq_decide.2;constructor
   ·intro h j h1 h2;by_cases kS:j=i
    ·subst kS;exact aw
    ·exact h j (by omega) h2
   ·intro h j h1 h2;exact h j (by omega) h2) n 0 q (by omega) hq (by intro j hj;omega)
 rw [Int.natCast_zero] at this;rw [this];congr 3;rw [Bool.eq_iff_iff,gZ,decide_eq_true_eq];exact⟨fun h i hi=>h i (by omega) hi,fun h i _ hi=>h i hi⟩
theorem ml{α : Type}(a:Bool)(x y : α):cond (!a) x y=cond a y x:=by cases a <;> rfl
theorem wV{α : Type}(a b:Bool)(x y : α):cond (a&&b) x y=cond a (cond b x y) y:=by cases a <;> rfl
theorem IK{α : Type}(a b:Bool)(x y : α):cond (a||b) x y=cond a x (cond b x y):=by cases a <;> rfl
theorem BP{n i:Nat}(h:i+1<n)(hn:n≤4000000000000000000):ix n (ax (((i+1:Nat):Int)-1))=some i:=by rw [cG (by omega) (by omega),show((i+1:Nat):Int)-1=(i:Int) by omega,br (by omega)]
theorem BQ:decide (((0:Nat):Int)>0)=false:=rfl
theorem BR(i:Nat):decide (((i+1:Nat):Int)>0)=true:=by simp
theorem amv:2*9223372036854775808=aM:=by rw [hP]
def eZ(c:aI.D):Bool:=
 ct c.1 1 22&&decide ((c.2.1.length:Int)≤60)&&decide ((c.2.2.1.length:Int)≤60)&&decide ((c.2.2.2.2.2.1.length:Int)≤64)&&ct c.2.2.2.1 (-1000000) 1000000&&ct c.2.2.2.2.1 (-1000000) 1000000 &&
  (bw c.2.2.1 []||(c.1==9||(c.1==10||c.1==12)))&&(bw c.2.2.2.2.2.1 []||(c.1==5||c.1==6))
theorem y7(c:aI.D):vY (c,())=some (eZ c,()):=by
 obtain ⟨q,hq,_⟩:=kC 1;show GI (A' aM) c=_;rw [hq];unfold GI;simp only [A',N9,ka,al,y8];congr 2;simp only [eZ,ct,ZS];generalize c.2.1.length=a;generalize c.2.2.1.length=b;generalize c.2.2.2.2.2.1.length=d;generalize c.1=k;generalize c.2.2.2.1=e;generalize c.2.2.2.2.1=f;simp only [ml,wV,IK];rw [Bool.eq_iff_iff];simp only [Bool.cond_eq_ite,Bool.ite_eq_true_distrib,Bool.and_eq_true,Bool.or_eq_true,decide_eq_true_eq,beq_iff_eq,bne_iff_ne]
 grind (splits:=40)
theorem BS(c:aI.D):vB (c,())=some (eZ c,()):=by
 obtain ⟨q,hq,_⟩:=kC 2;show E7 (E8 aM) c=_;rw [hq];unfold E7;simp only [E8,ew,MP,VH,VI,jx,al,y8];congr 2;simp only [eZ,ct,ZS];generalize c.2.1.length=a;generalize c.2.2.1.length=b;generalize c.2.2.2.2.2.1.length=d;generalize c.1=k;generalize c.2.2.2.1=e;generalize c.2.2.2.2.1=f;rw [Bool.eq_iff_iff];simp only [Bool.cond_eq_ite,Bool.ite_eq_true_distrib,Bool.and_eq_true,Bool.or_eq_true,decide_eq_true_eq,beq_iff_eq,bne_iff_ne]
 grind (splits:=60)
def fy(n:Nat)(P:Nat→Bool):Option Nat:=(List.range n).find? P
theorem iV{n i:Nat}{P:Nat→Bool} : fy n P=some i↔i<n∧P i=true∧∀j,j<i→P j=false:=by
 unfold fy;rw [List.find?_range_eq_some];constructor
 ·rintro ⟨h1,h2,h3⟩;exact⟨by simpa using h2,h1,fun j hj=>by simpa using h3 j hj⟩
 ·rintro ⟨h1,h2,h3⟩;exact⟨h2,by simpa using h1,fun j hj=>by simpa using h3 j hj⟩
theorem mm{n:Nat}{P:Nat→Bool} : fy n P=none↔∀i,i<n→P i=false:=by unfold fy;rw [List.find?_eq_none];simp
theorem tN{β : Type}(n:Nat)(hn:n≤4611686018427387904)(P:Nat→Bool)(R:Option Nat → β)(L:Nat→Int → β)
  (h0:∀m,L (m+1) (n:Int)=R none)
  (hs:∀m (i:Nat),i<n→ax ((i:Int)+1)=(i:Int)+1→L (m+1) (i:Int)=cond (P i) (R (some i)) (L m ((i:Int)+1))) (q:Nat:=aM) (hq:n<q:=by exact iU (by omega)) :
  L q 0=R (fy n P):=by
 have key:=nh n hn L (fun i=>R (fy n P)) (fun i=>∀j,j<i→P j=false) (fun m hi=>by rw [h0 m,mm.2 hi]) (fun m i hi hinv hw ih=>by
  rw [hs m i hi hw];cases aw:P i
  ·simp only [cond_false];refine ih fun j hj=>?_
   by_cases h:j=i
   ·subst h;exact aw
   ·exact hinv j (by omega)
  ·simp only [cond_true]
   rw [iV.2 ⟨hi,aw,hinv⟩]) n 0 q (by omega) hq (by intro j hj;omega)
 simpa using key
def iB:Option Nat→Int
 | none=> -1
 | some i=>i
theorem IL{o:Option Nat} : decide (iB o<0)=o.isNone:=by
 cases o with
 | none=>rfl
 | some i=>exact decide_eq_false (by show ¬((i:Int)<0);omega)
theorem BT{o:Option Nat} : decide (iB o≥0)=o.isSome:=by cases o <;> simp [iB]
theorem contains_eq(l:List Int)(x:Int)(hl:l.length≤4611686018427387904):vr (l,x,())=some (decide (x∈l),()):=by
 show MH l x=_;unfold MH
 have h:MG (l,x,())=some (iB (fy l.length (fun i=>x==I (.int .i64) l i)),()):=by
  show EM (vq aM) l x=_;unfold EM;refine tN l.length hl _ (fun o=>some (iB o,())) (fun m i=>vq m l x (l.length:Int) i) ?_ ?_
  ·intro m;simp only [vq,EN];rw [cw (Nat.le_refl _)];rfl
  ·intro m i hi hw;simp only [vq,EN,hw];rw [b1 hi,br hi];rfl
 rw [h];simp only [al,BT];congr 2;rw [Bool.eq_iff_iff,decide_eq_true_eq,Option.isSome_iff_exists];constructor
 ·rintro ⟨i,hi⟩
  obtain ⟨h1,h2,_⟩:=iV.1 hi;have h2:x=I (.int .i64) l i:=by simpa using h2
  rw [h2,c2 h1];exact List.getElem_mem h1
 ·intro hx;obtain ⟨i,hi,he⟩:=List.mem_iff_getElem.1 hx
  cases hf:fy l.length (fun i=>x==I (.int .i64) l i) with
  | some j=>exact⟨j,rfl⟩
  | none=>have:=mm.1 hf i hi;have aC:I (.int .i64) l i=l[i]:=c2 (t:=.int .i64) hi;rw [aC,he] at this;simp at this
def wW(b:Int):Bool:=decide (b≥97)&&decide (b≤122)||decide (b≥48)&&decide (b≤57)||b==46||b==95||b==45
theorem Qq(b:Int):Gc (b,())=some (wW b,()):=by
 show N1 b=_;unfold N1 wW;simp only [y8];congr 2;rw [Bool.eq_iff_iff];simp only [Bool.cond_eq_ite,Bool.ite_eq_true_distrib,Bool.and_eq_true,Bool.or_eq_true,decide_eq_true_eq,beq_iff_eq]
 grind
theorem amw(b:Int):MF (b,())=some (wW b,()):=by show Vz b=_;rw [← Qq];rfl
def nb(s:aj)(i:Nat):Int:=((s.getD i 0).toNat:Int)
def ni(s:aj):Bool:=fo s.length (fun i=>wW (nb s i))&&(ct (s.length:Int) 1 8&&(!bw s [46] && !bw s [46,46]))
def kD(s:aj):Bool:=fo s.length (fun i=>nb s i==47||wW (nb s i))&&ct (s.length:Int) 1 60
theorem amx(s:aj):Gg (s,())=some (kD s,()):=by
 show Ge (vP aM) s=_;unfold Ge;simp only [ka,al];by_cases hl:ct (s.length:Int) 1 60=true
 case neg=>rw [Bool.not_eq_true] at hl;unfold kD;rw [hl];simp
 have hb:=cR.1 hl;unfold kD;rw [hl];simp only [Bool.not_true,cond_false];refine tM s.length (by omega) _ true (fun m i=>vP m s i) ?_ ?_
 ·intro m _;simp only [vP,Gf];rw [cw (Nat.le_refl _)];rfl
 ·intro m i hi _ hw;simp only [vP,Gf,hw];rw [b1 hi,br hi];simp only [cond_true,al,Qq,ml,IK,bne];rfl
theorem ZT(s:aj)(hl:s.length≤4000000000000000000):AL (s,())=some (kD s,()):=by
 show ED (vn aM) s=_;unfold ED kD;refine tM s.length (by omega) _ _ (fun m i=>vn m s (s.length:Int) i) ?_ ?_
 ·intro m _;simp only [vn,EE];rw [cw (Nat.le_refl _)];simp only [jx,al,cond_false]
 ·intro m i hi _ hw;simp only [vn,EE,hw];rw [b1 hi,br hi];simp only [cond_true,al,amw,ml,IK,bne];rfl
abbrev aS:Type:=J.D
def ay(x:aS):List aJ.D:=x.2.2.2.2.2.2.1
def bX(x:aS):aj:=x.2.2.2.2.2.1
def bC(l:List aS)(id:Int):Option Nat:=fy l.length (fun i=>(I J l i).1==id)
theorem qy(v:ah.D)(id:Int)(hl:v.2.1.length≤1048576):m7 (v,id,())=some (iB (bC v.2.1 id),()):=by
 show Gi (vQ aM) v id=_;unfold Gi bC;refine tN v.2.1.length (by omega) _ (fun o=>some (iB o,())) (fun m i=>vQ m id i v) ?_ ?_
 ·intro m;simp only [vQ,Gj];rw [cw (Nat.le_refl _)];rfl
 ·intro m i hi hw;simp only [vQ,Gj,hw];rw [b1 hi,br hi];rfl
def ZU(l:List aS):Option Nat→List aS
 | none=>[]
 | some i=>[I J l i]
theorem BU(v:ah.D)(id:Int)(hl:v.2.1.length≤1048576):gm (v,id,())=some (ZU v.2.1 (bC v.2.1 id),()):=by
 show EG (vo aM) v id=_;unfold EG bC;refine tN v.2.1.length (by omega) _ (fun o=>some (ZU v.2.1 o,())) (fun m i=>vo m v id (v.2.1.length:Int) i) ?_ ?_
 ·intro m;simp only [vo,EH];rw [cw (Nat.le_refl _)];rfl
 ·intro m i hi hw;simp only [vo,EH,hw];rw [b1 hi,br hi];rfl
theorem b9{l:List aS}{id:Int}{i:Nat}(h:bC l id=some i):i<l.length∧(I J l i).1=id:=by obtain ⟨h1,h2,_⟩:=iV.1 h;exact⟨h1,by simpa using h2⟩
def bytesOf(l:List aS):Nat:=(l.map fun x=>(bX x).length).sum
theorem amy{l:List aS}{i:Nat}(hi:i<l.length):bytesOf (l.drop i)=(bX (I J l i)).length+bytesOf (l.drop (i+1)):=by rw [drop_cons (t:=J) hi];rfl
theorem Qr(l:List aS)(i:Nat):bytesOf (l.take i)+bytesOf (l.drop i)=bytesOf l:=by unfold bytesOf;rw [← List.sum_append_nat,← List.map_append,List.take_append_drop]
theorem y9{l:List aS}{i:Nat}(hi:i<l.length):bytesOf (l.take (i+1))=bytesOf (l.take i) +(bX (I J l i)).length:=by have h1:=Qr l i;have h2:=Qr l (i+1);have h3:=amy hi;omega
theorem IM(l:List aS)(i:Nat):bytesOf (l.take i)≤bytesOf l:=by have:=Qr l i;omega
theorem ZV(v:ah.D)(hl:v.2.1.length≤1048576)(hb:bytesOf v.2.1≤1048576):Gs (v,())=some ((bytesOf v.2.1:Int),()):=by
 show Gq (vT aM) v=_;unfold Gq
 have:=nh v.2.1.length (by omega) (fun m i=>vT m (bytesOf (v.2.1.take i.toNat):Int) i v) (fun _=>some ((bytesOf v.2.1:Int),())) (fun _=>True) (fun m _=>by
  simp only [vT,Gr];rw [cw (Nat.le_refl _)]
  simp only [Int.toNat_natCast,List.take_length,cond_false]) (fun m i hi _ hw ih=>by
  simp only [vT,Gr,hw];rw [b1 hi,br hi];simp only [cond_true,al,Int.toNat_natCast];have ih:=ih trivial;rw [show((i:Int)+1).toNat=i+1 by omega,y9 hi,Int.natCast_add] at ih;have h2:=IM v.2.1 (i+1);rw [y9 hi] at h2;rw [cG (by omega) (by have:((I J v.2.1 i).2.2.2.2.2.1).length=(bX (I J v.2.1 i)).length:=rfl;omega)]
  exact ih) v.2.1.length 0 aM (by omega) (iU (by omega)) trivial
 simpa [bytesOf] using this
theorem ZW(v:ah.D)(hl:v.2.1.length≤1048576)(hb:bytesOf v.2.1≤1048576):vw (v,())=some ((bytesOf v.2.1:Int),()):=by
 show ES (vv aM) v=_;unfold ES
 have:=nh v.2.1.length (by omega) (fun m i=>vv m (bytesOf (v.2.1.take i.toNat):Int) v.2.1 (v.2.1.length:Int) i) (fun _=>some ((bytesOf v.2.1:Int),())) (fun _=>True) (fun m _=>by
  simp only [vv,ET];rw [cw (Nat.le_refl _)]
  simp only [Int.toNat_natCast,List.take_length,cond_false]) (fun m i hi _ hw ih=>by
  simp only [vv,ET,hw];rw [b1 hi,br hi];simp only [cond_true,al,Int.toNat_natCast];have ih:=ih trivial;rw [show((i:Int)+1).toNat=i+1 by omega,y9 hi,Int.natCast_add] at ih;have h2:=IM v.2.1 (i+1);rw [y9 hi] at h2;rw [cG (by omega) (by have:((I J v.2.1 i).2.2.2.2.2.1).length=(bX (I J v.2.1 i)).length:=rfl;omega)]
  exact ih) v.2.1.length 0 aM (by omega) (iU (by omega)) trivial
 simpa [bytesOf] using this
def b3{β : Type}(f:Nat → β)(B:Nat)(y : β):Prop:=∀m,B≤m→f m=y
theorem b3.step{β : Type}{f g:Nat → β}{B:Nat}{y : β}(h:b3 g B y)(hf:∀m,f (m+1)=g m):b3 f (B+1) y:=by
 intro m hm;obtain ⟨k,rfl⟩:∃k,m=k+1:=⟨m-1,by omega⟩
 rw [hf];exact h k (by omega)
theorem b3.done{β : Type}{f:Nat → β}{y : β}(hf:∀m,f (m+1)=y):b3 f 1 y:=by
 intro m hm;obtain ⟨k,rfl⟩:∃k,m=k+1:=⟨m-1,by omega⟩
 exact hf k
theorem b3.mono{β : Type}{f:Nat → β}{B kp:Nat}{y : β}(h:b3 f B y)(hb:B≤kp):b3 f kp y:=fun m hm=>h m (by omega)
def dX{lG : Type} : Nat→(Nat → lG → lG) → lG → lG
 | 0,_,s=>s
 | n+1,f,s=>f n (dX n f s)
theorem tO{lG : Type}{n:Nat}{f:Nat → lG → lG}(Inv:Nat → lG → Prop)(e':∀i s,i<n→Inv i s→Inv (i+1) (f i s)){s : lG}(h:Inv 0 s):Inv n (dX n f s):=by
 induction n with
 | zero=>exact h
 | succ n ih=>exact e' n _ (by omega) (ih fun i s hi=>e' i s (by omega))
theorem tP{lG β : Type}(n W:Nat)(F:Nat→Nat → lG → β)(step:Nat → lG → lG)(Inv:Nat → lG → Prop)(e':∀i s,i<n→Inv i s→Inv (i+1) (step i s))
  (hs:∀i s,i<n→Inv i s→∀B y,b3 (fun m=>F m (i+1) (step i s)) B y→b3 (fun m=>F m i s) (B+W) y) (s : lG) (h:Inv 0 s) (B:Nat) (y : β) (he:b3 (fun m=>F m n (dX n step s)) B y):b3 (fun m=>F m 0 s) (B+n*W) y:=by
 have key:∀k,k≤n→b3 (fun m=>F m (n-k) (dX (n-k) step s)) (B+k*W) y:=by
  intro k
  induction k with
  | zero=>intro _;simpa using he
  | succ k ih=>
   intro hk;have:=ih (by omega);have hinv:Inv (n-(k+1)) (dX (n-(k+1)) step s):=tO Inv (fun i s hi=>e' i s (by omega)) h
   have h2:=hs (n-(k+1)) _ (by omega) hinv (B+k*W) y (by
    rw [show n-(k+1)+1=n-k by omega];have e:dX (n-k) step s=step (n-(k+1)) (dX (n-(k+1)) step s):=by rw [show n-k=(n-(k+1))+1 by omega];rfl
    rw [← e];exact this)
   rw [Nat.add_one_mul,← Nat.add_assoc];exact h2
 have:=key n (Nat.le_refl _);simpa [dX] using this
def dB(l:List aJ.D)(id:Int):Nat:=(l.filter fun d=>d.2.1==id).length
def cA(l:List aS)(id:Int):Nat:=(l.map fun x=>dB (ay x) id).sum
theorem amz{l:List aJ.D}{id:Int}{j:Nat}(hj:j<l.length):dB (l.take (j+1)) id=dB (l.take j) id+cond ((I aJ l j).2.1==id) 1 0:=by unfold dB;rw [List.take_succ_eq_append_getElem hj,List.filter_append,List.length_append];congr 1;rw [c2 hj];cases h:(l[j]).2.1==id <;> simp [List.filter_cons,h]
theorem amA(l:List aJ.D)(id:Int):dB l id≤l.length:=List.length_filter_le _ _
theorem Qs{l:List aS}{id:Int}{i:Nat}(hi:i<l.length):cA (l.take (i+1)) id=cA (l.take i) id+dB (ay (I J l i)) id:=by unfold cA;rw [List.take_succ_eq_append_getElem hi,List.map_append,List.sum_append_nat];simp [c2 hi]
def dP(l:List aS):Nat:=(l.map fun x=>(ay x).length).sum
theorem ZX(l:List aS)(id:Int):cA l id≤dP l:=by
 unfold cA dP
 induction l with
 | nil=>simp
 | cons x l ih=>simp only [List.map_cons,List.sum_cons];have:=amA (ay x) id;omega
theorem gA{l:List aS}{i:Nat}(hi:i<l.length):(ay (I J l i)).length≤dP l:=by
 unfold dP;rw [c2 hi]
 have:∀(l:List aS) (i:Nat) (hi:i<l.length),(ay l[i]).length≤(l.map fun x=>(ay x).length).sum:=by
  intro l
  induction l with
  | nil=>intro i hi;simp at hi
  | cons x l ih=>
   intro i hi;simp only [List.map_cons,List.sum_cons]
   cases i with
   | zero=>simp
   | succ i=>have:=ih i (by simpa using hi);simp only [List.getElem_cons_succ];omega
 exact this l i hi
theorem ZY(l:List aS)(id:Int)(i:Nat):cA (l.take i) id≤dP l:=by
 refine Nat.le_trans (ZX _ _) ?_;unfold dP
 conv=>rhs;rw [← List.take_append_drop i l,List.map_append,List.sum_append_nat]
 omega
theorem dA(i:Nat)(h:i<4000000000000000000):ax ((i:Int)+1)=((i+1:Nat):Int):=by rw [cG (by omega) (by omega)];omega
theorem Qt(l:List aS)(id:Int):∀i,i≤l.length→dX i (fun i s=>s+dB (ay (I J l i)) id) 0=cA (l.take i) id
 | 0,_=>by simp [dX,cA]
 | i+1,h=>by rw [dX,Qt l id i (by omega),Qs (by omega)]
theorem Qu(l:List aJ.D)(id:Int)(s:Nat):∀j,j≤l.length→dX j (fun j s=>s+cond ((I aJ l j).2.1==id) 1 0) s=s+dB (l.take j) id
 | 0,_=>by simp [dX,dB]
 | j+1,h=>by rw [dX,Qu l id s j (by omega),amz (by omega)];omega
theorem lH{β : Type}{f:Nat → β}{B:Nat}{y : β}(h:b3 f B y)(hb:B≤4611686018427387904):f aM=y:=h aM (by have:=iU hb;omega)
theorem ZZ(v:ah.D)(id:Int)(hl:v.2.1.length≤1048576)(hn:dP v.2.1≤1048576):Gn (v,id,())=some ((cA v.2.1 id:Int),()):=by
 show Gm (qh aM) v id=_;unfold Gm
 have key:=tP v.2.1.length (1048576+2) (fun m i (s:Nat)=>(qh m).k3 id (s:Int) (i:Int) v) (fun i s=>s+dB (ay (I J v.2.1 i)) id) (fun i s=>s=cA (v.2.1.take i) id) (fun i s hi hs=>by rw [hs,Qs hi]) (fun i s hi hs B y he=>by
  have oa:s≤1048576:=by have:=ZY v.2.1 id i;omega
  have hnl:=gA hi
  have inner:=tP (ay (I J v.2.1 i)).length 1 (fun m j (s:Nat)=>(qh m).df id (s:Int) (i:Int) (j:Int) v) (fun j s=>s+cond ((I aJ (ay (I J v.2.1 i)) j).2.1==id) 1 0) (fun j s=>s≤1048576+j) (fun j s hj hs=>by
   cases (I aJ (ay (I J v.2.1 i)) j).2.1==id <;> simp <;> omega) (fun j s hj hs B y he=>by
   refine he.step fun m=>?_
   show A8 (qh m) _ _ _ _ _=_;unfold A8;rw [br hi];simp only [al];show cond (decide ((j:Int)<((ay (I J v.2.1 i)).length:Int))) ((ix (ay (I J v.2.1 i)).length (j:Int)).bind _) _=_;rw [b1 hj];simp only [cond_true];rw [br hj];simp only [al];rw [dA j (by omega),dA s (by omega)];show cond ((I aJ (ay (I J v.2.1 i)) j).2.1==id) _ _=_
   cases (I aJ (ay (I J v.2.1 i)) j).2.1==id <;> rfl) s (by omega) (B+1) y (by
   refine he.step fun m=>?_
   rw [Qu _ _ _ _ (Nat.le_refl _),List.take_length];show A8 (qh m) _ _ _ _ _=_;unfold A8;rw [br hi];simp only [al];show cond (decide (((ay (I J v.2.1 i)).length:Int)<((ay (I J v.2.1 i)).length:Int))) _ _=_;rw [cw (Nat.le_refl _)];simp only [cond_false]
   rw [dA i (by omega)])
  refine(inner.step (f:=fun m=>(qh m).k3 id (s:Int) (i:Int) v) fun m=>?_).mono (by omega);show A7 (qh m) _ _ _ _=_;unfold A7
  rw [b1 hi];rfl) 0 (by simp [cA]) 1 (some ((cA v.2.1 id:Int),())) (b3.done fun m=>by
  rw [Qt _ _ _ (Nat.le_refl _),List.take_length];show A7 (qh m) _ _ _ _=_;unfold A7
  rw [cw (Nat.le_refl _)];rfl)
 have hm:v.2.1.length*(1048576+2)≤1048576*(1048576+2):=Nat.mul_le_mul_right _ hl;exact lH key (by omega)
theorem Z1(v:ah.D)(id:Int)(hl:v.2.1.length≤1048576)(hn:dP v.2.1≤1048576):AQ (v,id,())=some ((cA v.2.1 id:Int),()):=by
 show EP (qd aM) v id=_;unfold EP
 have key:=tP v.2.1.length (1048576+2) (fun m i (s:Nat)=>(qd m).k3 id (s:Int) v.2.1 (v.2.1.length:Int) (i:Int)) (fun i s=>s+dB (ay (I J v.2.1 i)) id) (fun i s=>s=cA (v.2.1.take i) id) (fun i s hi hs=>by rw [hs,Qs hi]) (fun i s hi hs B y he=>by
  have oa:s≤1048576:=by have:=ZY v.2.1 id i;omega
  have hnl:=gA hi
  have inner:=tP (ay (I J v.2.1 i)).length 1 (fun m j (s:Nat)=>(qd m).df id (s:Int) v.2.1 (v.2.1.length:Int) (i:Int) (ay (I J v.2.1 i)) ((ay (I J v.2.1 i)).length:Int) (j:Int)) (fun j s=>s+cond ((I aJ (ay (I J v.2.1 i)) j).2.1==id) 1 0) (fun j s=>s≤1048576+j) (fun j s hj hs=>by
   cases (I aJ (ay (I J v.2.1 i)) j).2.1==id <;> simp <;> omega) (fun j s hj hs B y he=>by
   refine he.step fun m=>?_
   show AP (qd m) _ _ _ _ _ _ _ _=_;unfold AP;rw [b1 hj];simp only [cond_true];rw [br hj];simp only [al];rw [dA j (by omega),dA s (by omega)]
   cases (I aJ (ay (I J v.2.1 i)) j).2.1==id <;> rfl) s (by omega) (B+1) y (by
   refine he.step fun m=>?_
   rw [Qu _ _ _ _ (Nat.le_refl _),List.take_length];show AP (qd m) _ _ _ _ _ _ _ _=_;unfold AP;rw [cw (Nat.le_refl _)];simp only [cond_false]
   rw [dA i (by omega)])
  refine(inner.step (f:=fun m=>(qd m).k3 id (s:Int) v.2.1 (v.2.1.length:Int) (i:Int)) fun m=>?_).mono (by omega);show AO (qd m) _ _ _ _ _=_;unfold AO
  rw [b1 hi,br hi];rfl) 0 (by simp [cA]) 1 (some ((cA v.2.1 id:Int),())) (b3.done fun m=>by
  rw [Qt _ _ _ (Nat.le_refl _),List.take_length];show AO (qd m) _ _ _ _ _=_;unfold AO
  rw [cw (Nat.le_refl _)];rfl)
 have hm:v.2.1.length*(1048576+2)≤1048576*(1048576+2):=Nat.mul_le_mul_right _ hl;exact lH key (by omega)
abbrev Flags:Type:=List Bool
def T(xs:Flags)(i:Nat):Prop:=I .bool xs i=true
theorem wX{xs:Flags}{x i:Nat}(hx:x<xs.length):T (xs.set x true) i↔(i=x∨T xs i):=by
 unfold T I;simp only [List.getD_eq_getElem?_getD,List.getElem?_set];by_cases h:x=i
 ·subst h;simp [hx]
 ·simp only [h,if_false];constructor
  ·intro h;exact .inr h
  ·rintro (rfl | h1)
   ·exact absurd rfl h
   ·exact h1
abbrev FS:Type:=Flags×Flags
section
variable(l:List aS)
def jP(i j:Nat)(s:FS):FS:=
 match bC l (I aJ (ay (I J l i)) j).2.1 with
 | none=>s
 | some x=>(s.1.set x true,s.2.set x true)
def iW(i:Nat)(s:FS):FS:=cond (I .bool s.2 i) (dX (ay (I J l i)).length (jP l i) s) s
def fI(s:FS):FS:=dX l.length (iW l) s
def FS.gB(n:Nat)(s:FS):Prop:=s.1.length=n∧s.2.length=n
theorem IN{n i j:Nat}{s:FS}(h:s.gB n):(jP l i j s).gB n:=by
 unfold jP;split
 ·exact h
 ·exact⟨by simpa using h.1,by simpa using h.2⟩
theorem IP{n i:Nat}{s:FS}(h:s.gB n):(iW l i s).gB n:=by
 unfold iW;cases I .bool s.2 i
 ·exact h
 ·exact tO (fun _ s=>FS.gB n s) (fun i s _ hs=>IN l hs) h
theorem Qv{n:Nat}{s:FS}(h:s.gB n):(fI l s).gB n:=tO (fun _ s=>FS.gB n s) (fun i s _ hs=>IP l hs) h
theorem amB(v:ah.D)(hl:v.2.1.length≤1048576)(hn:dP v.2.1≤1048576)(s:FS)(h:s.gB v.2.1.length) :
  (kv aM).cV 0 v s.1 s.2=some ((dX v.2.1.length (fun _=>fI v.2.1) s).1,()):=by
 have key:=tP v.2.1.length (v.2.1.length*1048580+2) (fun m k (s:FS)=>(kv m).cV (k:Int) v s.1 s.2) (fun _=>fI v.2.1) (fun _ s=>s.gB v.2.1.length) (fun _ s _ hs=>Qv v.2.1 hs) (fun k s hk hs B y he=>by
  have inner:=tP v.2.1.length 1048580 (fun m i (s:FS)=>(kv m).dm (k:Int) (i:Int) v s.1 s.2) (iW v.2.1) (fun _ s=>s.gB v.2.1.length) (fun _ s _ hs=>IP v.2.1 hs) (fun i s hi hs B y he=>by
   have hnl:=gA hi;cases ho:I .bool s.2 i
   ·refine(he.step (f:=fun m=>(kv m).dm (k:Int) (i:Int) v s.1 s.2) fun m=>?_).mono (by omega);show vR (kv m) _ _ _ _ _=_;unfold vR;have fz:ix s.2.length (i:Int)=some i:=br (by rw [hs.2];exact hi);rw [b1 hi,fz];simp only [cond_true,al,Nat.zero_add,ho,Bool.not_false];rw [dA i (by omega)];unfold iW;rw [ho];rfl
   ·have hst:iW v.2.1 i s=dX (ay (I J v.2.1 i)).length (jP v.2.1 i) s:=by unfold iW;rw [ho];rfl
    rw [hst] at he
    have inj:=tP (ay (I J v.2.1 i)).length 1 (fun m j (s:FS)=>(kv m).Gk (k:Int) (i:Int) (j:Int) v s.1 s.2) (jP v.2.1 i) (fun _ s=>s.gB v.2.1.length) (fun _ s _ hs=>IN v.2.1 hs) (fun j s hj hs B y he=>by
     refine he.step fun m=>?_
     show A6 (kv m) _ _ _ _ _ _=_;unfold A6;rw [br hi];simp only [al];show cond (decide ((j:Int)<((ay (I J v.2.1 i)).length:Int))) ((ix (ay (I J v.2.1 i)).length (j:Int)).bind _) _=_;rw [b1 hj];simp only [cond_true];rw [br hj];simp only [al];rw [qy v _ hl];simp only [al,BT];rw [dA j (by omega)];show cond (bC v.2.1 (I aJ (ay (I J v.2.1 i)) j).2.1).isSome _ _=_;unfold jP
     cases hx:bC v.2.1 (I aJ (ay (I J v.2.1 i)) j).2.1 with
     | none=>rfl
     | some x=>
      have hxl:=(b9 hx).1;simp only [Option.isSome_some,cond_true];have hx2:bC v.2.1 (I aJ (I J v.2.1 i).2.2.2.2.2.2.1 j).2.1=some x:=hx;rw [hx2];show((ix s.1.length ((x:Nat):Int)).bind _)=_;rw [br (by rw [hs.1];exact hxl)];simp only [al];show((ix s.2.length ((x:Nat):Int)).bind _)=_;rw [br (by rw [hs.2];exact hxl)]
      simp only [al,Nat.zero_add]) s hs (B+1) y (by
     refine he.step fun m=>?_
     show A6 (kv m) _ _ _ _ _ _=_;unfold A6;rw [br hi];simp only [al];show cond (decide (((ay (I J v.2.1 i)).length:Int)<((ay (I J v.2.1 i)).length:Int))) _ _=_;rw [cw (Nat.le_refl _)];simp only [cond_false]
     rw [dA i (by omega)])
    refine(inj.step (f:=fun m=>(kv m).dm (k:Int) (i:Int) v s.1 s.2) fun m=>?_).mono (by omega);show vR (kv m) _ _ _ _ _=_;unfold vR;have fz:ix s.2.length (i:Int)=some i:=br (by rw [hs.2];exact hi);rw [b1 hi,fz];simp only [cond_true,al,Nat.zero_add,ho,Bool.not_true,cond_false]
    rfl) s hs (B+1) y (by
   refine he.step fun m=>?_
   show vR (kv m) _ _ _ _ _=_;unfold vR;rw [cw (Nat.le_refl _)];simp only [cond_false]
   rw [dA k (by omega)];rfl)
  refine(inner.step (f:=fun m=>(kv m).cV (k:Int) v s.1 s.2) fun m=>?_).mono (by omega);show A5 (kv m) _ _ _ _=_;unfold A5
  rw [b1 hk];rfl) s h 1 (some ((dX v.2.1.length (fun _=>fI v.2.1) s).1,())) (b3.done fun m=>by
  show A5 (kv m) _ _ _ _=_;unfold A5
  rw [cw (Nat.le_refl _)];rfl)
 have h1:v.2.1.length*1048580≤1048576*1048580:=Nat.mul_le_mul_right _ hl;have hm:v.2.1.length*(v.2.1.length*1048580+2)≤1048576*(1048576*1048580+2):=Nat.mul_le_mul hl (Nat.add_le_add_right h1 2);have sL:=Nat.le_trans hm (by decide:1048576*(1048576*1048580+2)≤4611686018427387000);generalize v.2.1.length*(v.2.1.length*1048580+2)=X at *;exact lH key (by omega)
def f_(n:Nat):Flags:=List.replicate n false
def eG(id:Int):Flags:=
 match bC l id with
 | none=>f_ l.length
 | some a=>(dX l.length (fun _=>fI l) (f_ l.length,(f_ l.length).set a true)).1
theorem amC(v:ah.D)(id:Int)(hl:v.2.1.length≤1048576)(hn:dP v.2.1≤1048576):N2 (v,id,())=some (eG v.2.1 id,()):=by
 show Gl (kv aM) v id=_;unfold Gl;have hr:(decide (0≤(v.2.1.length:Int))&&decide ((v.2.1.length:Int)=(v.2.1.length:Int))&&room (Int.toNat (v.2.1.length:Int)))=true:=by rw [Int.toNat_natCast,b_ (by omega),decide_eq_true (by omega),decide_eq_true rfl];rfl
 rw [hr];simp only [cond_true];rw [qy v id hl];simp only [al,IL,Int.toNat_natCast];unfold eG
 cases ha:bC v.2.1 id with
 | none=>rfl
 | some a=>simp only [Option.isNone_some,cond_false,iB];rw [List.length_replicate,br (b9 ha).1];simp only [al,Nat.zero_add];exact amB v hl hn (f_ v.2.1.length,(f_ v.2.1.length).set a true) ⟨by simp [f_],by simp [f_]⟩
end
theorem c9{t:ad}{xs:List t.D}{i:Nat}(h:i<xs.length):I t xs i∈xs:=by rw [c2 h];exact List.getElem_mem h
theorem fA{t:ad}{xs:List t.D}{x:t.D}(h:x∈xs):∃i,i<xs.length∧I t xs i=x:=by obtain ⟨i,hi,he⟩:=List.mem_iff_getElem.1 h;exact⟨i,hi,by rw [c2 hi];exact he⟩
def E(l:List aS)(a b:Int):Prop:=∃i d,bC l a=some i∧d∈ay (I J l i)∧d.2.1=b
abbrev dY(l:List aS)(a b:Int):Prop:=Relation.TransGen (E l) a b
def iX(l:List aS):Prop:=∀x,x<l.length→bC l (I J l x).1=some x
def tQ(l:List aS):Prop:=∀i,i<l.length→∀d,d∈ay (I J l i)→(bC l d.2.1).isSome=true
section
variable(l:List aS)
theorem Z2{xs:Flags}{x i:Nat}(h:T xs i):T (xs.set x true) i:=by
 by_cases hx:x<xs.length
 ·exact(wX hx).2 (.inr h)
 ·rwa [List.set_eq_of_length_le (by omega)]
def FS.le(s av:FS):Prop:=(∀i,T s.1 i→T av.1 i)∧(∀i,T s.2 i→T av.2 i)
theorem FS.le.IQ{s:FS} : s.le s:=⟨fun _ h=>h,fun _ h=>h⟩
theorem FS.le.MA{s av Z3:FS}(h:s.le av)(k:av.le Z3):s.le Z3:=⟨fun i hi=>k.1 i (h.1 i hi),fun i hi=>k.2 i (h.2 i hi)⟩
theorem BV{f:Nat→FS→FS}(h:∀i s,FS.le s (f i s))(s:FS):∀n,FS.le s (dX n f s)
 | 0=>.IQ
 | n+1=>(BV h s n).MA (h n _)
theorem Z4{f:Nat→FS→FS}(h:∀i s,FS.le s (f i s))(s:FS){i n:Nat}(hi:i<n):FS.le (f i (dX i f s)) (dX n f s):=by
 induction n with
 | zero=>omega
 | succ n ih=>
  by_cases h1:i=n
  ·subst h1;exact .IQ
  ·exact(ih (by omega)).MA (h n _)
theorem Z5(i j:Nat)(s:FS):FS.le s (jP l i j s):=by
 unfold jP;split
 ·exact .IQ
 ·exact⟨fun _ h=>Z2 h,fun _ h=>Z2 h⟩
theorem Qw(i:Nat)(s:FS):FS.le s (iW l i s):=by
 unfold iW;cases I .bool s.2 i
 ·exact .IQ
 ·exact BV (Z5 l i) s _
theorem IS(s:FS):FS.le s (fI l s):=BV (Qw l) s _
theorem amD{s:FS}(hs:s.gB l.length){i x:Nat}(hi:i<l.length)(ho:T s.2 i){d:aJ.D}(af:d∈ay (I J l i))(hx:bC l d.2.1=some x):T (fI l s).1 x∧T (fI l s).2 x:=by
 have h1:=Z4 (Qw l) s hi;have ht:T (dX i (iW l) s).2 i:=(BV (Qw l) s i).2 i ho;have mM:(dX i (iW l) s).gB l.length:=tO (fun _ s=>FS.gB l.length s) (fun i s _ hs=>IP l hs) hs;generalize dX i (iW l) s=t at *;obtain ⟨j,hj,rfl⟩:=fA af;have h2:=Z4 (Z5 l i) t hj;have e:iW l i t=dX (ay (I J l i)).length (jP l i) t:=by unfold iW;rw [show I .bool t.2 i=true from ht];rfl
 rw [← e] at h2;have q4:(dX j (jP l i) t).gB l.length:=tO (fun _ s=>FS.gB l.length s) (fun i s _ hs=>IN l hs) mM;generalize dX j (jP l i) t=u at *;have hs:jP l i j u=(u.1.set x true,u.2.set x true):=by unfold jP;rw [hx]
 rw [hs] at h2;have hxl:=(b9 hx).1;exact⟨h1.1 x (h2.1 x ((wX (by rw [q4.1];exact hxl)).2 (.inl rfl))),h1.2 x (h2.2 x ((wX (by rw [q4.2];exact hxl)).2 (.inl rfl)))⟩
theorem Z6(Pi f':Nat→Prop)(wY:∀i,i<l.length→f' i→∀d,d∈ay (I J l i)→∀x,bC l d.2.1=some x→Pi x∧f' x){s:FS}(hl:s.gB l.length)(h1:∀i,T s.1 i→Pi i)(h2:∀i,T s.2 i→f' i) :
  (∀i,T (fI l s).1 i→Pi i)∧(∀i,T (fI l s).2 i→f' i):=by
 have key:(fI l s).gB l.length∧(∀i,T (fI l s).1 i→Pi i)∧(∀i,T (fI l s).2 i→f' i):=by
  refine tO (fun _ (s:FS)=>s.gB l.length∧(∀i,T s.1 i→Pi i)∧(∀i,T s.2 i→f' i)) (fun i s hi hs=>?_) ⟨hl,h1,h2⟩;obtain ⟨hl,h1,h2⟩:=hs;refine⟨IP l hl,?_⟩;cases ho:I .bool s.2 i
  ·rw [show iW l i s=s by unfold iW;rw [ho];rfl];exact⟨h1,h2⟩
  ·rw [show iW l i s=dX (ay (I J l i)).length (jP l i) s by unfold iW;rw [ho];rfl]
   have:=tO (n:=(ay (I J l i)).length) (f:=jP l i) (fun _ (s:FS)=>s.gB l.length∧(∀i,T s.1 i→Pi i)∧(∀i,T s.2 i→f' i)) (fun j t hj ht=>by
    obtain ⟨hl,g1,g2⟩:=ht;refine⟨IN l hl,?_⟩;unfold jP;split
    ·exact⟨g1,g2⟩
    ·rename_i x hx;obtain ⟨er,fc⟩:=wY i hi (h2 i ho) _ (c9 hj) x hx;have hxl:=(b9 hx).1;refine⟨fun k hk=>?_,fun k hk=>?_⟩
     ·rcases (wX (by rw [hl.1];exact hxl)).1 hk with rfl | hk
      ·exact er
      ·exact g1 k hk
     ·rcases (wX (by rw [hl.2];exact hxl)).1 hk with rfl | hk
      ·exact fc
      ·exact g2 k hk) ⟨hl,h1,h2⟩
   exact this.2
 exact key.2
def IT(s:FS):Prop:=∀i,i<l.length→T s.2 i→∀d,d∈ay (I J l i)→∀x,bC l d.2.1=some x→T s.1 x∧T s.2 x
theorem amE{s:FS}(hl:s.gB l.length)(h:IT l s):IT l (fI l s):=by obtain ⟨h1,h2⟩:=Z6 l (T s.1) (T s.2) h hl (fun _ h=>h) (fun _ h=>h);intro i hi ho d af x hx;obtain ⟨er,fc⟩:=h i hi (h2 i ho) d af x hx;exact⟨(IS l s).1 x er,(IS l s).2 x fc⟩
def ob(xs:Flags):Nat:=(xs.filter fun b=>b).length
theorem amF(xs:Flags):ob xs≤xs.length:=List.length_filter_le _ _
theorem Z7:∀(a b:Flags),a.length=b.length→(∀i,T a i→T b i)→ob a≤ob b∧(ob a=ob b→a=b)
 | [],[],_,_=>⟨Nat.le_refl _,fun _=>rfl⟩
 | [],_ :: _,h,_=>by simp at h
 | _ :: _,[],h,_=>by simp at h
 | x :: a,y :: b,h,b2=>by
  obtain ⟨h1,h2⟩:=Z7 a b (by simpa using h) (fun i hi=>b2 (i+1) hi);have h0:x=true→y=true:=fun hx=>b2 0 hx
  unfold ob at *;cases x <;> cases y <;> simp only [List.filter_cons,if_true,Bool.false_eq_true,if_false,List.length_cons]
  ·exact⟨h1,fun h=>by rw [h2 h]⟩
  ·exact⟨by omega,fun h=>by omega⟩
  ·exact absurd (h0 rfl) (by simp)
  ·exact⟨by omega,fun h=>by rw [h2 (by omega)]⟩
theorem amG{xs:Flags}{i:Nat}(h:T xs i):1≤ob xs:=by
 have hm:true∈xs:=by
  unfold T I at h;rw [List.getD_eq_getElem?_getD] at h
  cases hx:xs[i]? with
  | none=>rw [hx] at h;simp at h;cases h
  | some b=>rw [hx] at h;have hb:b=true:=h;subst hb;exact List.mem_of_getElem? hx
 unfold ob;exact List.length_pos_of_mem (List.mem_filter.2 ⟨hm,rfl⟩)
theorem rounds(s:FS)(hl:s.gB l.length)(h:1≤ob s.2):∀k,(dX k (fun _=>fI l) s).gB l.length∧(IT l (dX k (fun _=>fI l) s)∨k+1≤ob (dX k (fun _=>fI l) s).2)
 | 0=>⟨hl,.inr h⟩
 | k+1=>by
  obtain ⟨hk,ih⟩:=rounds s hl h k;rw [dX];generalize dX k (fun _=>fI l) s=t at *;have hr:=Qv l hk;refine⟨hr,?_⟩;rcases ih with ih | ih
  ·exact .inl (amE l hk ih)
  ·obtain ⟨c1,fL⟩:=Z7 t.2 (fI l t).2 (by rw [hk.2,hr.2]) (IS l t).2;by_cases hc:ob t.2=ob (fI l t).2
   ·left;have e:=fL hc;intro i hi ho d af x hx;rw [← e] at ho;exact amD l hk hi ho af hx
   ·right;omega
theorem Qx(Pi f':Nat→Prop)(wY:∀i,i<l.length→f' i→∀d,d∈ay (I J l i)→∀x,bC l d.2.1=some x→Pi x∧f' x)(s:FS)(hl:s.gB l.length)(h1:∀i,T s.1 i→Pi i)(h2:∀i,T s.2 i→f' i) :
  ∀k,(dX k (fun _=>fI l) s).gB l.length∧(∀i,T (dX k (fun _=>fI l) s).1 i→Pi i)∧(∀i,T (dX k (fun _=>fI l) s).2 i→f' i)
 | 0=>⟨hl,h1,h2⟩
 | k+1=>by obtain ⟨g,g1,g2⟩:=Qx Pi f' wY s hl h1 h2 k;exact⟨Qv l g,Z6 l Pi f' wY g g1 g2⟩
theorem amH(s:FS):∀k,FS.le s (dX k (fun _=>fI l) s):=BV (fun _ s=>IS l s) s
theorem Qy(n i:Nat):¬T (f_ n) i:=by unfold T I f_;rw [List.getD_eq_getElem?_getD,List.getElem?_replicate];split <;> simp [ad.zero]
theorem amI(id:Int):(eG l id).length=l.length:=by
 unfold eG;split
 ·simp [f_]
 ·exact(Qx l (fun _=>True) (fun _=>True) (fun _ _ _ _ _ _ _=>⟨trivial,trivial⟩) _ ⟨by simp [f_],by simp [f_]⟩ (fun _ _=>trivial) (fun _ _=>trivial) _).1.1
theorem BW(af:iX l)(id:Int){x:Nat}(hx:x<l.length):T (eG l id) x↔dY l id (I J l x).1:=by
 unfold eG
 cases ha:bC l id with
 | none=>
  constructor
  ·intro h;exact absurd h (Qy _ _)
  ·intro h
   have:∀b,dY l id b→False:=by
    intro b hb
    induction hb with
    | single h=>obtain ⟨i,d,h1,_⟩:=h;rw [ha] at h1;cases h1
    | tail _ _ ih=>exact ih
   exact(this _ h).elim
 | some a=>
  obtain ⟨dF,amJ⟩:=b9 ha;have jy:FS.gB l.length (f_ l.length,(f_ l.length).set a true):=⟨by simp [f_],by simp [f_]⟩;have ho:T ((f_ l.length).set a true) a:=(wX (by simp [f_];exact dF)).2 (.inl rfl);constructor
  ·intro h;refine(Qx l (fun y=>dY l id (I J l y).1) (fun y=>(I J l y).1=id∨dY l id (I J l y).1) ?_ _ jy (fun i h=>absurd h (Qy _ _)) ?_ l.length).2.1 x h
   ·intro i hi y_ d iu y aR;obtain ⟨hyl,y'⟩:=b9 aR;have he:E l (I J l i).1 (I J l y).1:=⟨i,d,af i hi,iu,y'.symm⟩;rcases y_ with y_ | y_
    ·rw [y_] at he;exact⟨.single he,.inr (.single he)⟩
    ·exact⟨y_.tail he,.inr (y_.tail he)⟩
   ·intro i hi;rcases (wX (by simp [f_];exact dF)).1 hi with rfl | hi
    ·exact .inl amJ
    ·exact absurd hi (Qy _ _)
  ·intro h;obtain ⟨hlen,amK⟩:=rounds l _ jy (amG ho) l.length
   have hc:IT l (dX l.length (fun _=>fI l) (f_ l.length,(f_ l.length).set a true)):=by
    rcases amK with h | h
    ·exact h
    ·have:=amF (dX l.length (fun _=>fI l) (f_ l.length,(f_ l.length).set a true)).2;rw [hlen.2] at this;omega
   show T (dX l.length (fun _=>fI l) (f_ l.length,(f_ l.length).set a true)).1 x;have amL:=(amH l (f_ l.length,(f_ l.length).set a true) l.length).2 a ho;generalize dX l.length (fun _=>fI l) (f_ l.length,(f_ l.length).set a true)=F at *
   have key:∀b,dY l id b→∀y,bC l b=some y→T F.1 y∧T F.2 y:=by
    intro b hb
    induction hb with
    | single h=>obtain ⟨i,d,h1,h2,h3⟩:=h;intro y aR;rw [ha] at h1;obtain rfl:=aW h1;exact hc _ dF amL d h2 y (by rw [h3];exact aR)
    | tail _ h ih=>obtain ⟨i,d,h1,h2,h3⟩:=h;intro y aR;exact hc i (b9 h1).1 (ih i h1).2 d h2 y (by rw [h3];exact aR)
   exact(key _ h x (af x hx)).1
end
section
variable(l:List aS)
def gK(q:Int):List aJ.D:=
 match bC l q with
 | none=>[]
 | some i=>ay (I J l i)
theorem Qz{a b:Int} : E l a b↔∃d,d∈gK l a∧d.2.1=b:=by
 unfold E gK;constructor
 ·rintro ⟨i,d,h1,h2,h3⟩;rw [h1];exact⟨d,h2,h3⟩
 ·rintro ⟨d,h1,h2⟩
  cases hi:bC l a with
  | none=>rw [hi] at h1;simp at h1
  | some i=>rw [hi] at h1;exact⟨i,d,rfl,h1,h2⟩
def IU:List Int:=l.flatMap fun x=>(ay x).map fun d=>d.2.1
theorem amM:(IU l).length=dP l:=by unfold IU dP;rw [List.length_flatMap];congr 1;simp
theorem amN{q:Int}{d:aJ.D}(h:d∈gK l q):d.2.1∈IU l:=by
 unfold gK at h
 cases hi:bC l q with
 | none=>rw [hi] at h;simp at h
 | some i=>rw [hi] at h;exact List.mem_flatMap.2 ⟨_,c9 (b9 hi).1,List.mem_map.2 ⟨d,h,rfl⟩⟩
theorem amO(q:Int):(gK l q).length≤dP l:=by
 unfold gK;split
 ·simp
 ·rename_i i hi;exact gA (b9 hi).1
def qz(out:List Int)(d:aJ.D):List Int:=if d.2.1∈out then out else out++[d.2.1]
structure qA(id:Int)(out:List Int):Prop where
 BX:out.Nodup
 sub:out⊆IU l
 BY:∀b,b∈out→dY l id b
theorem qA.len{id:Int}{out:List Int}(h:qA l id out):out.length≤dP l:=by rw [← amM];exact h.BX.length_le_of_subset h.sub
theorem Z8{id q:Int}{out:List Int}{d:aJ.D}(h:qA l id out)(hq:q=id∨dY l id q)(af:d∈gK l q):qA l id (qz out d):=by
 unfold qz;split
 ·exact h
 ·rename_i hn;have he:E l q d.2.1:=(Qz l).2 ⟨d,af,rfl⟩;refine⟨?_,?_,?_⟩
  ·rw [List.nodup_append];refine⟨h.BX,by simp,?_⟩;intro a ha b hb;rw [List.mem_singleton] at hb;subst hb
   rintro rfl
   exact hn ha
  ·intro a ha;rcases List.mem_append.1 ha with ha | ha
   ·exact h.sub ha
   ·rw [List.mem_singleton] at ha;rw [ha];exact amN l af
  ·intro b hb;rcases List.mem_append.1 hb with hb | hb
   ·exact h.BY b hb
   ·rw [List.mem_singleton] at hb;rw [hb];rcases hq with rfl | hq
    ·exact .single he
    ·exact hq.tail he
theorem Z9(out:List Int)(d:aJ.D):∃t,qz out d=out++t:=by
 unfold qz;split
 ·exact⟨[],by simp⟩
 ·exact⟨_,rfl⟩
theorem amP(out:List Int)(d:aJ.D):d.2.1∈qz out d:=by
 unfold qz;split
 ·assumption
 ·simp
def addN(q:Int)(out:List Int):List Int:=dX (gK l q).length (fun j o=>qz o (I aJ (gK l q) j)) out
theorem amQ{id q:Int}{out:List Int}(h:qA l id out)(hq:q=id∨dY l id q):qA l id (addN l q out)∧(∃t,addN l q out=out++t)∧∀d,d∈gK l q→d.2.1∈addN l q out:=by
 have key:=tO (n:=(gK l q).length) (f:=fun j o=>qz o (I aJ (gK l q) j)) (fun j o=>qA l id o∧(∃t,o=out++t)∧∀k,k<j→(I aJ (gK l q) k).2.1∈o) (fun j o hj ho=>by
  obtain ⟨h1,⟨t,ht⟩,h3⟩:=ho;refine⟨Z8 l h1 hq (c9 hj),?_,?_⟩
  ·obtain ⟨cO,QA⟩:=Z9 o (I aJ (gK l q) j);exact⟨t++cO,by rw [QA,ht,List.append_assoc]⟩
  ·intro k hk;by_cases qB:k=j
   ·subst qB;exact amP _ _
   ·obtain ⟨cO,QA⟩:=Z9 o (I aJ (gK l q) j);rw [QA]
    exact List.mem_append.2 (.inl (h3 k (by omega)))) ⟨h,⟨[],by simp⟩,fun k hk=>by omega⟩
 obtain ⟨k1,k2,k3⟩:=key;refine⟨k1,k2,fun d af=>?_⟩;obtain ⟨i,hi,he⟩:=fA af;rw [← he];exact k3 i hi
end
structure Found(l:List aS)(id:Int)(out:List Int):Prop where
 BX:out.Nodup
 iff:∀b,b∈out↔dY l id b
 len:out.length≤dP l
theorem Z_{l:List aS}{id:Int}{out:List Int}(h:qA l id out)(hc:∀q,q=id∨q∈out→∀d,d∈gK l q→d.2.1∈out):Found l id out:=by
 refine⟨h.BX,fun b=>⟨h.BY b,fun hb=>?_⟩,h.len⟩
 induction hb with
 | single he=>obtain ⟨d,h1,rfl⟩:=(Qz l).1 he;exact hc id (.inl rfl) d h1
 | tail _ he ih=>obtain ⟨d,h1,rfl⟩:=(Qz l).1 he;exact hc _ (.inr ih) d h1
theorem amR(v:ah.D)(hl:v.2.1.length≤1048576)(hn:dP v.2.1≤1048576)(id:Int):∀(r i:Nat) (out:List Int),i+r=dP v.2.1+1→qA v.2.1 id out→i≤out.length+1 →
  (∀k,k<i→∀d,d∈gK v.2.1 (I (.int .i64) (id :: out) k)→d.2.1∈out) →
  ∃BZ,Found v.2.1 id BZ∧b3 (fun m=>(m3 m).bs v (i:Int) out (id :: out)) (1+r*1048580) (some (BZ,())):=by
 intro r
 induction r with
 | zero=>
  intro i out hi ho amS hc;have:=ho.len;have gw:i=out.length+1:=by omega
  refine⟨out,Z_ ho fun q hq d af=>?_,(b3.done fun m=>?_).mono (by omega)⟩
  ·rcases hq with rfl | hq
   ·exact hc 0 (by omega) d af
   ·obtain ⟨k,hk,he⟩:=fA (t:=.int .i64) hq;exact hc (k+1) (by omega) d (by rw [show I (.int .i64) (id :: out) (k+1)=I (.int .i64) out k from rfl,he];exact af)
  ·show rp (m3 m) _ _ _ _=_;unfold rp;rw [show(id :: out).length=i by rw [List.length_cons,gw],cw (Nat.le_refl _)];rfl
 | succ r ih=>
  intro i out hi ho amS hc;by_cases bO:i<out.length+1
  case neg=>
   have gw:i=out.length+1:=by omega
   refine⟨out,Z_ ho fun q hq d af=>?_,(b3.done fun m=>?_).mono (by omega)⟩
   ·rcases hq with rfl | hq
    ·exact hc 0 (by omega) d af
    ·obtain ⟨k,hk,he⟩:=fA (t:=.int .i64) hq;exact hc (k+1) (by omega) d (by rw [show I (.int .i64) (id :: out) (k+1)=I (.int .i64) out k from rfl,he];exact af)
   ·show rp (m3 m) _ _ _ _=_;unfold rp;rw [show(id :: out).length=i by rw [List.length_cons,gw],cw (Nat.le_refl _)];rfl
  generalize hq:I (.int .i64) (id :: out) i=q at *
  have aaa:q=id∨dY v.2.1 id q:=by
   cases i with
   | zero=>left;rw [← hq];rfl
   | succ k=>right;refine ho.BY q ?_;rw [← hq];exact c9 (t:=.int .i64) (xs:=out) (by omega)
  obtain ⟨k1,⟨t,ht⟩,k3⟩:=amQ v.2.1 ho aaa;have hpre:∀k,k<out.length+1→I (.int .i64) (id ::(out++t)) k=I (.int .i64) (id :: out) k:=by intro k hk;unfold I;rw [List.getD_eq_getElem?_getD,List.getD_eq_getElem?_getD,← List.cons_append,List.getElem?_append_left (by simpa using hk)]
  obtain ⟨BZ,f1,f2⟩:=ih (i+1) (addN v.2.1 q out) (by omega) k1 (by rw [ht];simp;omega) (fun k hk d af=>by
   by_cases iz:k=i
   ·subst iz;rw [ht,hpre k bO,hq] at af;exact k3 d af
   ·rw [ht,hpre k (by omega)] at af;rw [ht]
    exact List.mem_append.2 (.inl (hc k (by omega) d af)))
  refine⟨BZ,f1,?_⟩;have hol:=ho.len;have pv:i<4000000000000000000:=by omega
  cases hx:bC v.2.1 q with
  | none=>
   have k0:gK v.2.1 q=[]:=by unfold gK;rw [hx]
   have IV:addN v.2.1 q out=out:=by unfold addN;rw [k0];rfl
   rw [IV] at f2;refine(f2.step (f:=fun m=>(m3 m).bs v (i:Int) out (id :: out)) fun m=>?_).mono (by omega);show rp (m3 m) _ _ _ _=_;unfold rp;rw [b1 (by simpa using bO),br (by simpa using bO)];simp only [cond_true,al,Nat.zero_add];rw [hq,BU v q hl];simp only [al];rw [hx,dA i pv];rfl
  | some x=>
   have k0:gK v.2.1 q=ay (I J v.2.1 x):=by unfold gK;rw [hx]
   have hnl:=amO v.2.1 q
   have inner:=tP (gK v.2.1 q).length 1 (fun m j (o:List Int)=>(m3 m).fV v (i:Int) (gK v.2.1 q) ((gK v.2.1 q).length:Int) (j:Int) o (id :: o)) (fun j o=>qz o (I aJ (gK v.2.1 q) j)) (fun j o=>qA v.2.1 id o) (fun j o hj ho=>Z8 v.2.1 ho aaa (c9 hj)) (fun j o hj ho B y he=>by
    refine he.step fun m=>?_
    have hol:=ho.len;show AN (m3 m) _ _ _ _ _ _ _=_;unfold AN;rw [b1 hj,br hj];simp only [cond_true,al];rw [contains_eq _ _ (by omega)];simp only [al];rw [dA j (by omega)];unfold qz;by_cases hm:(I aJ (gK v.2.1 q) j).2.1∈o
    ·rw [decide_eq_true hm,if_pos hm];rfl
    ·rw [decide_eq_false hm,if_neg hm,b_ (by simp;omega),b_ (by simp;omega)];rfl) out ho (1+r*1048580+1) (some (BZ,())) (by
    refine f2.step fun m=>?_
    show AN (m3 m) _ _ _ _ _ _ _=_;unfold AN;rw [cw (Nat.le_refl _)];simp only [cond_false]
    rw [dA i pv];rfl)
   refine(inner.step (f:=fun m=>(m3 m).bs v (i:Int) out (id :: out)) fun m=>?_).mono (by omega);show rp (m3 m) _ _ _ _=_;unfold rp;rw [b1 (by simpa using bO),br (by simpa using bO)];simp only [cond_true,al,Nat.zero_add];rw [hq,BU v q hl];simp only [al];rw [hx,k0];rfl
theorem aab(v:ah.D)(hl:v.2.1.length≤1048576)(hn:dP v.2.1≤1048576)(id:Int):∃out,Found v.2.1 id out∧yq (v,id,())=some (out,()):=by obtain ⟨out,h1,h2⟩:=amR v hl hn id (dP v.2.1+1) 0 [] (by omega) ⟨by simp,by simp,by simp⟩ (by simp) (fun k hk=>by omega);refine⟨out,h1,?_⟩;show EO (m3 aM) v id=_;unfold EO;have hm:(dP v.2.1+1)*1048580≤1048577*1048580:=Nat.mul_le_mul_right _ (by omega);exact lH h2 (by omega)
theorem amT{β : Type}(n W:Nat)(F:Nat→Nat → β)(P:Nat→Bool)(no E : β)(B:Nat)
  (hs:∀i,i<n→(∀j,j<i→P j=true)→P i=true→∀B y,b3 (fun m=>F m (i+1)) B y→b3 (fun m=>F m i) (B+W) y)
  (hx:∀i,i<n→(∀j,j<i→P j=true)→P i=false→b3 (fun m=>F m i) W no)
  (o8:(∀j,j<n→P j=true)→b3 (fun m=>F m n) B E):b3 (fun m=>F m 0) (B+n*W) (cond (fo n P) E no):=by
 have key:∀r i,i+r=n→(∀j,j<i→P j=true)→b3 (fun m=>F m i) (B+r*W) (cond (fo n P) E no):=by
  intro r
  induction r with
  | zero=>
   intro i hi aw;have:i=n:=by omega
   subst this;rw [gZ.2 aw];simpa using o8 aw
  | succ r ih=>
   intro i hi aw;cases IW:P i
   ·have:fo n P=false:=by
     rw [← Bool.not_eq_true];intro h;have:=gZ.1 h i (by omega);rw [IW] at this;cases this
    rw [this];refine(hx i (by omega) aw IW).mono ?_;rw [Nat.add_one_mul];omega
   ·have:=hs i (by omega) aw IW _ _ (ih (i+1) (by omega) fun j hj=>by
     by_cases h:j=i
     ·subst h;exact IW
     ·exact aw j (by omega))
    rw [Nat.add_one_mul,← Nat.add_assoc];exact this
 exact key n 0 (by omega) (by intro j hj;omega)
def fQ(x:aS):Int:=x.2.2.2.2.2.2.2.1
def fB(x:aS):Int:=x.2.2.2.2.2.2.2.2.1
def plain(x:aS):Bool:=((ay x).length:Int)==0&&fQ x==0&&fB x==0
def QB(l:List aS)(N:List aJ.D)(j:Nat):Bool:=
 ni (I aJ N j).1 && !(decide (0<j) && !eg (I aJ N (j-1)).1 (I aJ N j).1) && !((I aJ N j).2.1==1)&&(bC l (I aJ N j).2.1).isSome
def QC(l:List aS)(x:aS):Bool:=fo (ay x).length (QB l (ay x))&&decide (((ay x).length:Int)≤12)
def QD(l:List aS)(x:aS):Bool:=
 ct x.2.2.1 0 2047&&ct x.2.2.2.1 0 1000&&ct x.2.2.2.2.1 0 1000 &&
  cond (x.2.1==1) (plain x&&decide (((bX x).length:Int)≤64))
   (cond (x.2.1==3) (plain x&&kD (bX x)&&x.2.2.1==511)
    (cond (x.2.1==2) (bw (bX x) []&&ct (fQ x) 0 400&&ct (fB x) 0 24&&QC l x) false))
section
variable(l:List aS)
def pw(F:Flags):List Nat:=(List.range l.length).filter fun i=>I .bool F i
def dl(i:Nat):Nat:=(bX (I J l i)).length
def jQ(F:Flags):Nat:=((pw l F).map (dl l)).sum
def kb(F:Flags):Nat:=(pw l F).length
def pre(F:Flags)(i:Nat):List Nat:=(List.range i).filter fun i=>I .bool F i
theorem QE(F:Flags)(i:Nat):pre F (i+1)=pre F i++cond (I .bool F i) [i] []:=by unfold pre;rw [List.range_succ,List.filter_append];cases h:I .bool F i <;> simp [List.filter_cons,h]
theorem aac(F:Flags){i:Nat}(hi:i≤l.length):((pre F i).map (dl l)).sum≤bytesOf (l.take i)∧(pre F i).length≤i:=by
 induction i with
 | zero=>simp [pre]
 | succ i ih=>
  obtain ⟨h1,h2⟩:=ih (by omega);rw [QE,y9 (by omega)];cases I .bool F i
  ·simp only [cond_false,List.append_nil];omega
  ·simp only [cond_true,List.map_append,List.sum_append_nat,List.length_append,List.map_cons,List.map_nil,List.sum_cons,List.sum_nil,List.length_cons,List.length_nil];have:dl l i=(bX (I J l i)).length:=rfl;omega
end
theorem aad(v:ah.D)(id:Int)(hl:v.2.1.length≤1048576)(hn:dP v.2.1≤1048576)(hb:bytesOf v.2.1≤1048576) :
  A9 (v,id,())=some ((jQ v.2.1 (eG v.2.1 id):Int),(kb v.2.1 (eG v.2.1 id):Int),()):=by
 show Gu (vU aM) v id=_;unfold Gu;rw [amC v id hl hn];simp only [al];have hF:=amI v.2.1 id;generalize eG v.2.1 id=F at *
 have:=nh v.2.1.length (by omega) (fun m i=>vU m (((pre F i.toNat).map (dl v.2.1)).sum:Nat) ((pre F i.toNat).length:Nat) i v F) (fun _=>some ((jQ v.2.1 F:Int),(kb v.2.1 F:Int),())) (fun _=>True) (fun m _=>by
  simp only [vU,Gv]
  rw [hF,cw (Nat.le_refl _)];rfl) (fun m i hi _ hw ih=>by
  have ih:=ih trivial;simp only [vU,Gv,hw];rw [hF,b1 hi,br hi];simp only [cond_true,al,Int.toNat_natCast,Nat.zero_add];rw [show((i:Int)+1).toNat=i+1 by omega,QE] at ih;have h1:=aac v.2.1 F (i:=i) (by omega);have h3:=aac v.2.1 F (i:=i+1) (by omega);have h2:=IM v.2.1 (i+1);rw [QE] at h3;cases hf:I .bool F i
  ·rw [hf] at ih;simp only [cond_false,List.append_nil] at ih ⊢;exact ih
  ·rw [hf] at ih h3;simp only [cond_true,List.map_append,List.sum_append_nat,List.length_append,List.map_cons,List.map_nil,List.sum_cons,List.sum_nil,List.length_cons,List.length_nil,Nat.add_zero,Nat.zero_add] at ih h3 ⊢;rw [show((I J v.2.1 i).2.2.2.2.2.1).length=dl v.2.1 i from rfl,dA _ (by omega),cG (by omega) (by omega),← Int.natCast_add]
   exact ih) v.2.1.length 0 aM (by omega) (iU (by omega)) trivial
 simpa [pre] using this
def oc(l:List aS)(b:Int):Nat:=
 match bC l b with
 | none=>0
 | some i=>dl l i
theorem aae{l:List aS}(b:Int):oc l b≤bytesOf l:=by
 unfold oc;split
 ·omega
 ·rename_i i hi;have h1:=y9 (b9 hi).1;have h2:=IM l (i+1);unfold dl;omega
theorem aaf(v:ah.D)(id:Int)(hl:v.2.1.length≤1048576)(hn:dP v.2.1≤1048576)(hb:bytesOf v.2.1≤1048576) :
  ∃out,Found v.2.1 id out∧AR (v,id,())=some ((((out.map (oc v.2.1)).sum:Nat):Int),(out.length:Int),()):=by
 obtain ⟨out,hf,he⟩:=aab v hl hn id;refine⟨out,hf,?_⟩;show EV (rq aM) v id=_;unfold EV;rw [he];simp only [al];have hol:=hf.len
 have hb2:∀i,i≤out.length→((out.take i).map (oc v.2.1)).sum≤i*1048576:=by
  intro i
  induction i with
  | zero=>intro _;simp
  | succ i ih=>intro hi;rw [List.take_succ_eq_append_getElem (by omega),List.map_append,List.sum_append_nat];have:=ih (by omega);have:=aae (l:=v.2.1) out[i];simp only [List.map_cons,List.map_nil,List.sum_cons,List.sum_nil];omega
 have:=nh out.length (by omega) (fun m i=>rq m v (((out.take i.toNat).map (oc v.2.1)).sum:Nat) (out.length:Int) i out) (fun _=>some ((((out.map (oc v.2.1)).sum:Nat):Int),(out.length:Int),())) (fun _=>True) (fun m _=>by
  simp only [rq,EW];rw [cw (Nat.le_refl _)]
  simp only [Int.toNat_natCast,List.take_length,cond_false]) (fun m i hi _ hw ih=>by
  have ih:=ih trivial;simp only [rq,EW,hw];rw [b1 hi,br hi];simp only [cond_true,al,Int.toNat_natCast,Nat.zero_add];rw [BU v _ hl];simp only [al];rw [show((i:Int)+1).toNat=i+1 by omega,List.take_succ_eq_append_getElem hi,List.map_append,List.sum_append_nat] at ih;simp only [List.map_cons,List.map_nil,List.sum_cons,List.sum_nil,Nat.add_zero] at ih;have aC:I (.int .i64) out i=out[i]:=c2 (t:=.int .i64) hi;rw [aC];have h2:=hb2 i (by omega);have h3:=aae (l:=v.2.1) out[i];have h4:i*1048576≤1048576*1048576:=Nat.mul_le_mul_right _ (by omega);unfold oc at ih h3
  cases hx:bC v.2.1 out[i] with
  | none=>rw [hx] at ih;exact ih
  | some x=>
   rw [hx] at ih h3;show rq m v (ax (_ +(((I J v.2.1 x).2.2.2.2.2.1).length:Int))) _ _ _=_;have h3:dl v.2.1 x≤bytesOf v.2.1:=h3;have ih:rq m v ((List.map (oc v.2.1) (out.take i)).sum+dl v.2.1 x:Nat) (out.length:Int) ((i:Int)+1) out=_:=ih;rw [show((I J v.2.1 x).2.2.2.2.2.1).length=dl v.2.1 x from rfl,cG (by omega) (by omega),← Int.natCast_add]
   exact ih) out.length 0 aM (by omega) (iU (by omega)) trivial
 simpa using this
theorem aag{l:List aS}(af:iX l)(hx:tQ l){id:Int}{out:List Int}(h:Found l id out):(out.map (oc l)).sum=jQ l (eG l id)∧out.length=kb l (eG l id):=by
 have iA:((pw l (eG l id)).map fun i=>(I J l i).1).Nodup:=by
  have h0:(pw l (eG l id)).Nodup:=(List.nodup_range).filter _;unfold List.Nodup at h0 ⊢;rw [List.pairwise_map];refine h0.imp_of_mem fun {a b} ha hb l6 he=>l6 ?_
  have ha:=(List.mem_filter.1 ha).1;have hb:=(List.mem_filter.1 hb).1;have h1:=af a (by simpa using ha);have h2:=af b (by simpa using hb);rw [he,h2] at h1;exact(aW h1).symm
 have aw:out.Perm ((pw l (eG l id)).map fun i=>(I J l i).1):=by
  rw [List.perm_ext_iff_of_nodup h.BX iA];intro b;rw [h.iff];constructor
  ·intro hb
   have hex:∃i,bC l b=some i:=by
    cases hb with
    | single he=>obtain ⟨i,d,h1,h2,rfl⟩:=he;exact Option.isSome_iff_exists.1 (hx i (b9 h1).1 d h2)
    | tail _ he=>obtain ⟨i,d,h1,h2,rfl⟩:=he;exact Option.isSome_iff_exists.1 (hx i (b9 h1).1 d h2)
   obtain ⟨i,hi⟩:=hex;obtain ⟨h1,h2⟩:=b9 hi;refine List.mem_map.2 ⟨i,List.mem_filter.2 ⟨by simpa using h1,?_⟩,h2⟩;exact(BW l af id h1).2 (by rw [h2];exact hb)
  ·intro hb;obtain ⟨i,hi,rfl⟩:=List.mem_map.1 hb;obtain ⟨h1,h2⟩:=List.mem_filter.1 hi;exact(BW l af id (by simpa using h1)).1 h2
 refine⟨?_,by rw [aw.length_eq,List.length_map];rfl⟩;rw [(aw.map (oc l)).sum_nat,List.map_map];unfold jQ;congr 1;refine List.map_congr_left fun i hi=>?_
 have h1:=(List.mem_filter.1 hi).1;show oc l (I J l i).1=dl l i;unfold oc;rw [af i (by simpa using h1)]
def jz(l:List aS)(x:aS):Bool:=
 (decide (fQ x>0)&&decide ((jQ l (eG l x.1):Int)>fQ x))||(decide (fB x>0)&&decide ((kb l (eG l x.1):Int)>fB x))
def jA(l:List aS):Bool:=cond (fo l.length fun i=> !jz l (I J l i)) false true
theorem amU(v:ah.D)(x:aS)(hl:v.2.1.length≤1048576)(hn:dP v.2.1≤1048576)(hb:bytesOf v.2.1≤1048576)(af:iX v.2.1)(hx:tQ v.2.1):MJ (v,x,())=some (jz v.2.1 x,()):=by
 show MI v x=_;unfold MI;obtain ⟨out,hf,he⟩:=aaf v x.1 hl hn hb;rw [he];obtain ⟨h1,h2⟩:=aag af hx hf;rw [h1,h2];simp only [al,y8];congr 2;unfold jz fQ fB;generalize (jQ v.2.1 (eG v.2.1 x.1):Int)=B;generalize (kb v.2.1 (eG v.2.1 x.1):Int)=N;rw [Bool.eq_iff_iff];simp only [Bool.cond_eq_ite,Bool.ite_eq_true_distrib,Bool.and_eq_true,Bool.or_eq_true,decide_eq_true_eq]
 grind
theorem amV(v:ah.D)(hl:v.2.1.length≤1048576)(hn:dP v.2.1≤1048576)(hb:bytesOf v.2.1≤1048576)(af:iX v.2.1)(hx:tQ v.2.1):E0 (v.2.1,v,())=some (jA v.2.1,()):=by
 show ML v.2.1 v=_;unfold ML
 have h:MK (v.2.1,v,())=some (iB (fy v.2.1.length fun i=>jz v.2.1 (I J v.2.1 i)),()):=by
  show EY (vx aM) v.2.1 v=_;unfold EY;refine tN v.2.1.length (by omega) _ (fun o=>some (iB o,())) (fun m i=>vx m v.2.1 v (v.2.1.length:Int) i) ?_ ?_
  ·intro m;simp only [vx,EZ];rw [cw (Nat.le_refl _)];rfl
  ·intro m i hi hw;simp only [vx,EZ,hw];rw [b1 hi,br hi];simp only [cond_true,al];rw [amU v _ hl hn hb af hx];rfl
 rw [h];simp only [al,BT];congr 2;unfold jA
 cases hf:fy v.2.1.length fun i=>jz v.2.1 (I J v.2.1 i) with
 | none=>rw [gZ.2 (fun i hi=>by rw [mm.1 hf i hi];rfl)];rfl
 | some i=>
  obtain ⟨h1,h2,_⟩:=iV.1 hf;have:fo v.2.1.length (fun i=> !jz v.2.1 (I J v.2.1 i))=false:=by rw [← Bool.not_eq_true];intro h;have:=gZ.1 h i h1;rw [h2] at this;cases this
  rw [this];rfl
theorem amW(v:ah.D)(hl:v.2.1.length≤1048576)(hn:dP v.2.1≤1048576)(hb:bytesOf v.2.1≤1048576)(hk:∀i,i<v.2.1.length→(I J v.2.1 i).2.1≠2→fQ (I J v.2.1 i)=0∧fB (I J v.2.1 i)=0):N4 (v,())=some (jA v.2.1,()):=by
 show Gw (kx aM) v=_;unfold Gw;have h0:∀x:aS,fQ x=0→fB x=0→jz v.2.1 x=false:=by intro x h1 h2;unfold jz;rw [h1,h2];rfl
 have wZ:∀(m i:Nat),i<v.2.1.length→(kx (m+1)).k2 (i:Int) v=cond ((I J v.2.1 i).2.1 != 2) ((kx m).k2 ((i+1:Nat):Int) v) (cond (fQ (I J v.2.1 i)==0) (cond (fB (I J v.2.1 i)==0) ((kx m).k2 ((i+1:Nat):Int) v) ((kx m).df (i:Int) v (I J v.2.1 i))) ((kx m).df (i:Int) v (I J v.2.1 i))):=by intro m i hi;show A_ (kx m) _ _=_;unfold A_;rw [b1 hi,br hi];simp only [cond_true,al];rw [dA i (by omega)];rfl
 have aah:∀(m i:Nat) (x:aS),i<v.2.1.length→(kx (m+1)).df (i:Int) v x=cond (jz v.2.1 x) (some (true,())) ((kx m).k2 ((i+1:Nat):Int) v):=by intro m i x hi;show N3 (kx m) _ _ _=_;unfold N3;rw [aad v _ hl hn hb];simp only [al];rw [dA i (by omega)];unfold jz fQ fB;generalize decide (x.2.2.2.2.2.2.2.1>0)=a;generalize decide ((jQ v.2.1 (eG v.2.1 x.1):Int)>x.2.2.2.2.2.2.2.1)=b;generalize decide (x.2.2.2.2.2.2.2.2.1>0)=c;generalize decide ((kb v.2.1 (eG v.2.1 x.1):Int)>x.2.2.2.2.2.2.2.2.1)=d;cases a <;> cases b <;> cases c <;> cases d <;> rfl
 have key:=amT v.2.1.length 2 (fun m i=>(kx m).k2 (i:Int) v) (fun i=> !jz v.2.1 (I J v.2.1 i)) (some (true,())) (some (false,())) 1 (fun i hi _ aw B y he=>by
  have aw:jz v.2.1 (I J v.2.1 i)=false:=by simpa using aw
  have bh:b3 (fun m=>(kx m).df (i:Int) v (I J v.2.1 i)) (B+1) y:=he.step fun m=>by rw [aah m i _ hi,aw];rfl
  intro m hm;obtain ⟨m,rfl⟩:∃k,m=k+1:=⟨m-1,by omega⟩
  show(kx (m+1)).k2 (i:Int) v=y;rw [wZ m i hi];have e1:=he m (by omega);have e2:=bh m (by omega);simp only at e1 e2;rw [e1,e2]
  cases (I J v.2.1 i).2.1 != 2 <;> cases fQ (I J v.2.1 i)==0 <;> cases fB (I J v.2.1 i)==0 <;> rfl) (fun i hi _ aw=>by
  have aw:jz v.2.1 (I J v.2.1 i)=true:=by simpa using aw
  intro m hm;obtain ⟨m,rfl⟩:∃k,m=k+2:=⟨m-2,by omega⟩
  show(kx (m+1+1)).k2 (i:Int) v=_;rw [wZ (m+1) i hi,aah m i _ hi,aw]
  have k1:((I J v.2.1 i).2.1 != 2)=false:=by
   rw [bne_eq_false_iff_eq];by_cases h:(I J v.2.1 i).2.1=2
   ·exact h
   ·obtain ⟨g1,g2⟩:=hk i hi h;rw [h0 _ g1 g2] at aw;cases aw
  rw [k1];cases g1:fQ (I J v.2.1 i)==0 <;> cases g2:fB (I J v.2.1 i)==0 <;> try rfl
  rw [h0 _ (by simpa using g1) (by simpa using g2)] at aw;cases aw) (fun _=>b3.done fun m=>by
  show A_ (kx m) _ _=_;unfold A_
  rw [cw (Nat.le_refl _)];rfl)
 have:=lH key (by omega);rw [show(((0:Nat):Int))=0 from rfl] at this;rw [this];unfold jA;cases fo v.2.1.length fun i=> !jz v.2.1 (I J v.2.1 i) <;> rfl
theorem IX{α : Type}{f g : α → Nat} : ∀(l:List α),(∀x,x∈l→f x≤g x)→(l.map f).sum≤(l.map g).sum
 | [],_=>by simp
 | x :: l,h=>by
  simp only [List.map_cons,List.sum_cons];have:=IX l fun y aR=>h y (List.mem_cons_of_mem _ aR)
  have:=h x List.mem_cons_self;omega
theorem QF{α : Type}{f : α → Nat} : ∀ {l:List α} {x : α},x∈l→f x≤(l.map f).sum
 | y :: l,x,h=>by
  simp only [List.map_cons,List.sum_cons];rcases List.mem_cons.1 h with rfl | h
  ·omega
  ·have:=QF (f:=f) h;omega
theorem amX(x:aS):ad.cost J x=(bX x).length+ad.cost (.sl aJ) (ay x):=by simp only [nj,nk,nm,nn,za,qC,Nat.zero_add,Nat.add_zero];rfl
theorem amY(d:aJ.D):ad.cost aJ d=d.1.length:=by simp only [nj,nk,nm,nn,za,qC,Nat.zero_add,Nat.add_zero]
def QG(x:aS):Nat:=ad.cost J x
theorem aai(v:ah.D):ad.cost ah v=v.2.1.length +(v.2.1.map QG).sum:=by
 have h:ad.cost ah v=ad.cost (.sl J) v.2.1:=by simp only [nj,nk,nm,nn,Nat.zero_add,Nat.add_zero]
 rw [h,r0];rfl
def IY(v:ah.D)(i:Nat):Bool:=
 ct (I J v.2.1 i).1 1 (ax (v.1-1)) && !(decide (0<i)&&decide ((I J v.2.1 (i-1)).1≥(I J v.2.1 i).1))&&QD v.2.1 (I J v.2.1 i)
def B0(l:List aS)(i:Nat):Bool:=
 I .bool (eG l 1) (i+1) && !((I J l (i+1)).2.1==2&&((cA l (I J l (i+1)).1:Int) != 1))
def k4(v:ah.D):Bool:=
 ct v.1 2 100000&&ct (v.2.1.length:Int) 1 24&&(I J v.2.1 0).1==1&&(I J v.2.1 0).2.1==2 &&
  cond (fo v.2.1.length (IY v)) (cond (fo (v.2.1.length-1) (B0 v.2.1)) (decide ((bytesOf v.2.1:Int)≤400) && !jA v.2.1) false) false
def zb(l:List Int)(i:Nat):Bool:=ct (I (.int .i64) l i) 0 1000
def dQ(c:aK.D):Bool:=ct c.1 0 1000&&(ct c.2.1 0 1000&&(decide ((c.2.2.1.length:Int)≤4)&&fo c.2.2.1.length (zb c.2.2.1)))
theorem aaj(a b:Int):decide (a>b) = !decide (a≤b):=by by_cases h:a≤b <;> simp [h] <;> omega
theorem QH(c:aK.D):Bd (c,())=some (dQ c,()):=by
 show GV (v_ aM) c=_;unfold GV dQ;simp only [ka,al];cases ct c.1 0 1000
 ·rfl
 cases ct c.2.1 0 1000
 ·rfl
 simp only [Bool.not_true,cond_false,Bool.true_and,aaj,ml];by_cases hl:(c.2.2.1.length:Int)≤4
 case neg=>rw [decide_eq_false hl];rfl
 rw [decide_eq_true hl];simp only [cond_true,Bool.true_and]
 have:=tM c.2.2.1.length (by omega) (zb c.2.2.1) true (fun m i=>v_ m i c) (fun m _=>by
  simp only [v_,GW]
  rw [cw (Nat.le_refl _)];rfl) (fun m i hi _ hw=>by
  simp only [v_,GW,hw];rw [b1 hi,br hi]
  simp only [cond_true,al,ka,ml,zb])
 rw [Bool.and_true] at this;exact this
theorem IZ(c:aK.D):yv (c,())=some (dQ c,()):=by
 show M4 c=_;unfold M4 dQ;simp only [jx,al];cases ct c.1 0 1000
 ·rfl
 cases ct c.2.1 0 1000
 ·rfl
 simp only [Bool.not_true,cond_false,Bool.true_and,aaj,ml];by_cases hl:(c.2.2.1.length:Int)≤4
 case neg=>rw [decide_eq_false hl];rfl
 rw [decide_eq_true hl];simp only [cond_true,Bool.true_and]
 have h:M3 (c.2.2.1,())=some ((fy c.2.2.1.length fun i=> !zb c.2.2.1 i).isSome,()):=by
  show M1 c.2.2.1=_;unfold M1
  have h:M0 (c.2.2.1,())=some (iB (fy c.2.2.1.length fun i=> !zb c.2.2.1 i),()):=by
   show Fb (vF aM) c.2.2.1=_;unfold Fb;refine tN c.2.2.1.length (by omega) _ (fun o=>some (iB o,())) (fun m i=>vF m c.2.2.1 (c.2.2.1.length:Int) i) ?_ ?_
   ·intro m;simp only [vF,Fc];rw [cw (Nat.le_refl _)];rfl
   ·intro m i hi hw;simp only [vF,Fc,hw];rw [b1 hi,br hi];simp only [cond_true,al];show Option.bind (MZ (I (ad.int .i64) c.2.2.1 i)) _=_;unfold MZ;rw [jx];rfl
  rw [h];simp only [al,BT]
 rw [h];simp only [al];congr 2;rw [Bool.eq_iff_iff,gZ]
 cases hf:fy c.2.2.1.length fun i=> !zb c.2.2.1 i with
 | none=>simp only [Option.isSome_none,Bool.not_false,true_iff];exact fun i hi=>by have:=mm.1 hf i hi;simpa using this
 | some i=>simp only [Option.isSome_some,Bool.not_true,Bool.false_eq_true,false_iff];obtain ⟨h1,h2,_⟩:=iV.1 hf;exact fun h=>by rw [h i h1] at h2;cases h2
theorem aak{c:aK.D}(h:dQ c=true):c.2.2.1.length≤4:=by simp only [dQ,Bool.and_eq_true,decide_eq_true_eq] at h;omega
def np(c:aK.D)(g:Int):Bool:=c.2.1==g||decide (g∈c.2.2.1)
theorem amZ{l:List Int}{i:Nat}(g:Int)(hi:i<l.length):decide (g∈l.drop i)=(I (.int .i64) l i==g||decide (g∈l.drop (i+1))):=by
 have h:=drop_cons (t:=.int .i64) hi;have h:l.drop i=I (.int .i64) l i :: l.drop (i+1):=h;rw [h,Bool.eq_iff_iff];simp only [List.mem_cons,decide_eq_true_eq,Bool.or_eq_true,beq_iff_eq];constructor
 ·rintro (h | h)
  ·exact .inl h.symm
  ·exact .inr h
 ·rintro (h | h)
  ·exact .inl h.symm
  ·exact .inr h
theorem QI(c:aK.D)(g:Int)(hc:dQ c=true):wa (c,g,())=some (np c g,()):=by
 show GY (v' aM) c g=_;unfold GY np;rw [QH,hc];simp only [al,Bool.not_true,cond_false];have hl:=aak hc
 have key:∀(r i m:Nat) (b:Bool),i+r=c.2.2.1.length→r<m→v' m g b (i:Int) c=some (b||decide (g∈c.2.2.1.drop i),()):=by
  intro r
  induction r with
  | zero=>intro i m b hi hm;obtain ⟨m,rfl,_⟩:=fuel hm;simp only [v',GZ];rw [cw (by omega),List.drop_of_length_le (by omega)];simp
  | succ r ih=>
   intro i m b hi hm;obtain ⟨m,rfl,hq⟩:=fuel hm;have bO:i<c.2.2.1.length:=by omega
   simp only [v',GZ];rw [b1 bO,dA i (by omega),amZ g bO];simp only [cond_true];cases b
   ·simp only [cond_false];rw [br bO];simp only [al];rw [ih (i+1) m _ (by omega) (by omega)];simp
   ·simp only [cond_true];rw [ih (i+1) m _ (by omega) (by omega)];simp
 have:=key c.2.2.1.length 0 aM (c.2.1==g) (by omega) (iU (by omega));simpa using this
theorem QJ(c:aK.D)(g:Int)(hc:dQ c=true):vG (c,g,())=some (np c g,()):=by show M7 c g=_;unfold M7 np;have hl:=aak hc;rw [IZ,hc];simp only [al,cond_true];rw [contains_eq _ _ (by omega)];simp only [al];rw [show(g==c.2.1)=(c.2.1==g) by rw [Bool.eq_iff_iff,beq_iff_eq,beq_iff_eq];exact⟨Eq.symm,Eq.symm⟩];cases c.2.1==g <;> rfl
def kindOf(x:aS):Int:=x.2.1
def fi(x:aS):Int:=x.2.2.1
def eK(x:aS):Int:=x.2.2.2.1
def fC(x:aS):Int:=x.2.2.2.2.1
def k5(a b:Int):Int:=cY .and .i64 a b
def three(c:aK.D)(n:aS):Int:=
 cond (c.1==eK n) (Int.fdiv (fi n) (2 ^ min (Int.toNat 6) 64)) (cond (np c (fC n)) (Int.fdiv (fi n) (2 ^ min (Int.toNat 3) 64)) (fi n))
def may(c:aK.D)(n:aS)(w:Int):Bool:=
 ct w 0 7&&cond (c.1==0) (k5 w 1==0||(kindOf n != 1||k5 (fi n) 73 != 0)) (k5 (k5 (three c n) 7) w==w)
theorem qD(c:aK.D)(n:aS)(w:Int)(hc:dQ c=true):ky (c,n,w,())=some (may c n w,()):=by
 show Oh c n w=_;unfold Oh may three;rw [QH,hc,ka];simp only [al,Bool.not_true,cond_false];cases ct w 0 7
 ·rfl
 simp only [Bool.not_true,cond_false,Bool.true_and];cases c.1==0
 ·simp only [cond_false];rw [QI c _ hc];simp only [al];show cond (np c (fC n)) (cond (c.1==eK n) _ _) (cond (c.1==eK n) _ _)=_;cases np c (fC n) <;> cases c.1==eK n <;> rfl
 ·simp only [cond_true];show cond (k5 w 1==0) _ (cond (kindOf n != 1) _ (some (k5 (fi n) 73 != 0,())))=_;cases k5 w 1==0 <;> cases kindOf n != 1 <;> rfl
theorem B1(c:aK.D)(n:aS)(w:Int)(hc:dQ c=true):qe (c,n,w,())=some (may c n w,()):=by
 show M8 c n w=_;unfold M8 may three;rw [IZ,hc,jx];simp only [al,Bool.not_true,cond_false];cases ct w 0 7
 ·rfl
 simp only [Bool.not_true,cond_false,Bool.true_and];cases c.1==0
 ·simp only [cond_false];rw [QJ c _ hc];simp only [al];show cond (c.1==eK n) _ (cond (np c (fC n)) _ _)=_;cases np c (fC n) <;> cases c.1==eK n <;> rfl
 ·simp only [cond_true];show cond (kindOf n != 1) _ (cond (k5 (fi n) 73 != 0) _ (some (k5 w 1==0,())))=_;cases k5 w 1==0 <;> cases kindOf n != 1 <;> cases k5 (fi n) 73 != 0 <;> rfl
def qE(c:aK.D)(d n:aS):Bool:=k5 (fi d) 512==0||(c.1==0||(c.1==eK d||c.1==eK n))
theorem QK(c:aK.D)(d n:aS)(hc:dQ c=true):yG (c,d,n,())=some (qE c d n,()):=by show Ot c d n=_;unfold Ot qE;rw [QH,hc];simp only [al,Bool.not_true,cond_false];show cond (k5 (fi d) 512==0) _ (cond (c.1==0) _ (cond (c.1==eK d) _ (some (c.1==eK n,()))))=_;cases k5 (fi d) 512==0 <;> cases c.1==0 <;> cases c.1==eK d <;> rfl
theorem QL(c:aK.D)(d n:aS)(hc:dQ c=true):tk (c,d,n,())=some (qE c d n,()):=by show No c d n=_;unfold No qE;rw [IZ,hc];simp only [al,cond_true];show cond (k5 (fi d) 512==0) _ (cond (c.1==0) _ (cond (c.1==eK d) _ (some (c.1==eK n,()))))=_;cases k5 (fi d) 512==0 <;> cases c.1==0 <;> cases c.1==eK d <;> rfl
def tT(s:aj):Bool:=kD s&&nb s 0==47
theorem am0(s:aj)(i:Nat):((s.getD i 0).toNat:Int)=nb s i:=rfl
theorem B2(s:aj):GS (s,())=some (tT s,()):=by
 show GQ (v8 aM) s=_;unfold GQ tT kD;simp only [ka,al];by_cases hl:ct (s.length:Int) 1 60=true
 case neg=>rw [Bool.not_eq_true] at hl;rw [hl];simp
 have hb:=cR.1 hl;rw [hl];simp only [Bool.not_true,cond_false,Bool.and_true];rw [show ix s.length 0=some 0 from br (i:=0) (by omega)];simp only [al,am0,bne,ml];cases nb s 0==47
 ·simp
 simp only [cond_true,Bool.and_true]
 have:=tM s.length (by omega) (fun i=>nb s i==47||wW (nb s i)) true (fun m i=>v8 m s i) (fun m _=>by
  simp only [v8,GR]
  rw [cw (Nat.le_refl _)];rfl) (fun m i hi _ hw=>by
  simp only [v8,GR,hw];rw [b1 hi,br hi]
  simp only [cond_true,al,Qq,ml,IK,bne];rfl)
 rw [Bool.and_true] at this;exact this
theorem I0(s:aj)(hl:s.length≤4000000000000000000):M6 (s,())=some (tT s,()):=by
 show M5 s=_;unfold M5 tT;rw [ZT s hl];simp only [al];by_cases ht:kD s=true
 case neg=>rw [Bool.not_eq_true] at ht;rw [ht];rfl
 rw [ht];have:1≤s.length:=by unfold kD at ht;rw [Bool.and_eq_true] at ht;have:=cR.1 ht.2;omega
 simp only [cond_true];rw [show ix s.length 0=some 0 from br (i:=0) (by omega)];rfl
theorem zc(v:ah.D)(hl:v.2.1.length≤1048576)(hn:∀i,i<v.2.1.length→(ay (I J v.2.1 i)).length≤1048576):tq (v,())=some (v,()):=by
 show GN (v7 aM) v=_;unfold GN
 have:=nh v.2.1.length (by omega) (fun m i=>v7 m i v (0,([]:List J.D),()) (v.1,v.2.1.take i.toNat,())) (fun _=>some (v,())) (fun _=>True) (fun m _=>by
  simp only [v7,GO];rw [cw (Nat.le_refl _)]
  simp only [Int.toNat_natCast,List.take_length,cond_false]) (fun m i hi _ hw ih=>by
  simp only [v7,GO];rw [b1 hi,br hi];simp only [cond_true,al,Int.toNat_natCast];have am1:=hn i hi;show cond (room (0 +(ay (I J v.2.1 i)).length)) _ _=_;rw [b_ (by omega)];simp only [cond_true];unfold Wv;show cond (room ((v.2.1.take i).length+1)) _ _=_;rw [b_ (by rw [List.length_take];omega)];simp only [cond_true];unfold Wu;rw [hw];have ih:=ih trivial;rw [show((i:Int)+1).toNat=i+1 by omega,List.take_succ_eq_append_getElem hi,← c2 (t:=J) hi] at ih
  exact ih) v.2.1.length 0 aM (by omega) (iU (by omega)) trivial
 simpa using this
theorem am2(v:ah.D)(hl:v.2.1.length≤1048576)(hn:∀i,i<v.2.1.length→(ay (I J v.2.1 i)).length≤1048576):tc (v,())=some (v,()):=by
 show E1 (vy aM) v=_;unfold E1
 have:=nh v.2.1.length (by omega) (fun m i=>vy m v.2.1 (v.2.1.length:Int) i (0,([]:List J.D),()) (v.1,v.2.1.take i.toNat,())) (fun _=>some (v,())) (fun _=>True) (fun m _=>by
  simp only [vy,E2];rw [cw (Nat.le_refl _)]
  simp only [Int.toNat_natCast,List.take_length,cond_false]) (fun m i hi _ hw ih=>by
  simp only [vy,E2];rw [b1 hi,br hi];simp only [cond_true,al,Int.toNat_natCast];have am1:=hn i hi;show cond (room (0 +(ay (I J v.2.1 i)).length)) _ _=_;rw [b_ (by omega)];simp only [cond_true];unfold VD;show cond (room ((v.2.1.take i).length+1)) _ _=_;rw [b_ (by rw [List.length_take];omega)];simp only [cond_true];unfold VC;rw [hw];have ih:=ih trivial;rw [show((i:Int)+1).toNat=i+1 by omega,List.take_succ_eq_append_getElem hi,← c2 (t:=J) hi] at ih
  exact ih) v.2.1.length 0 aM (by omega) (iU (by omega)) trivial
 simpa using this
theorem px{β : Type}(W:Nat)(F:Nat→Nat → β)(y : β):∀(k B:Nat),(∀i,i<k→∀B y,b3 (fun m=>F m (i+1)) B y→b3 (fun m=>F m i) (B+W) y)→b3 (fun m=>F m k) B y→b3 (fun m=>F m 0) (B+k*W) y
 | 0,B,_,h=>by simpa using h
 | k+1,B,hf,h=>by have:=px W F y k (B+W) (fun i hi=>hf i (by omega)) (hf k (by omega) B y h);rw [Nat.add_one_mul];rwa [show B +(k*W+W)=B+W+k*W by omega]
theorem aal{β : Type}(n W:Nat)(F:Nat→Nat → β)(P:Nat→Bool)(R:Option Nat → β)(B:Nat)(hn:b3 (fun m=>F m n) B (R none))(hs:∀i,i<n→P i=true→b3 (fun m=>F m i) B (R (some i)))
  (hf:∀i,i<n→P i=false→∀B y,b3 (fun m=>F m (i+1)) B y→b3 (fun m=>F m i) (B+W) y):b3 (fun m=>F m 0) (B+n*W) (R (fy n P)):=by
 cases h:fy n P with
 | none=>exact px W F _ n B (fun i hi=>hf i hi (mm.1 h i hi)) hn
 | some k=>obtain ⟨h1,h2,h3⟩:=iV.1 h;refine(px W F _ k B (fun i hi=>hf i (by omega) (h3 i hi)) (hs k h1 h2)).mono ?_;have:k*W≤n*W:=Nat.mul_le_mul_right _ (by omega);omega
theorem jR(v:ah.D)(id:Int)(hl:v.2.1.length≤1048576){i:Nat}(h:bC v.2.1 id=some i):fx (v,id,())=some (I J v.2.1 i,()):=by show Oj v id=_;unfold Oj;rw [qy v id hl,h];simp only [al,iB];rw [br (b9 h).1];rfl
theorem QM(v:ah.D)(id:Int)(hl:v.2.1.length≤1048576):yp (v,id,())=some (iB (bC v.2.1 id),v,()):=by
 show EJ (vp aM) v id=_;unfold EJ bC;refine tN v.2.1.length (by omega) _ (fun o=>some (iB o,v,())) (fun m i=>vp m id (v.2.1.length:Int) i v) ?_ ?_
 ·intro m;simp only [vp,EK];rw [cw (Nat.le_refl _)];rfl
 ·intro m i hi hw;simp only [vp,EK,hw];rw [b1 hi,br hi];simp only [cond_true,al,Nat.zero_add];rfl
theorem od(v:ah.D)(id:Int)(hl:v.2.1.length≤1048576){i:Nat}(h:bC v.2.1 id=some i):gm (v,id,())=some ([I J v.2.1 i],()):=by rw [BU v id hl,h];rfl
def py(l:List aS)(id:Int):Bool:=match bC l id with | some i=>kindOf (I J l i)==2 | none=>false
theorem aam(v:ah.D)(id:Int)(hl:v.2.1.length≤1048576):yH (v,id,())=some (py v.2.1 id,()):=by
 show Ox v id=_;unfold Ox py;rw [qy v id hl];simp only [al,BT]
 cases h:bC v.2.1 id with
 | none=>rfl
 | some i=>simp only [Option.isSome_some,cond_true,iB];rw [br (b9 h).1];rfl
theorem aan(v:ah.D)(id:Int)(hl:v.2.1.length≤1048576):AY (v,id,())=some (py v.2.1 id,()):=by
 show Nw v id=_;unfold Nw py;rw [BU v id hl]
 cases h:bC v.2.1 id with
 | none=>rfl
 | some i=>rfl
def r1(N:List aJ.D)(s:aj)(j:Nat):Bool:=bw (I aJ N j).1 s
def B3(N:List aJ.D):Option Nat→Int
 | none=>0
 | some j=>(I aJ N j).2.1
def dR(N:List aJ.D)(s:aj):Int:=B3 N (fy N.length (r1 N s))
theorem am3(v:ah.D)(id:Int)(s:aj)(hl:v.2.1.length≤1048576){i:Nat}(h:bC v.2.1 id=some i)(hn:(ay (I J v.2.1 i)).length≤1048576) :
  Oi (v,id,s,())=some (dR (ay (I J v.2.1 i)) s,()):=by
 show G8 (tr aM) v id s=_;unfold G8;rw [qy v id hl,h];simp only [al,iB];rw [br (b9 h).1];simp only [al];show tr aM s (ay (I J v.2.1 i)) 0=_;generalize ay (I J v.2.1 i)=N at hn;refine tN N.length (by omega) (r1 N s) (fun o=>some (B3 N o,())) (fun m j=>tr m s N j) ?_ ?_
 ·intro m;simp only [tr,G9];rw [cw (Nat.le_refl _)];rfl
 ·intro m j hj hw;simp only [tr,G9,hw];rw [b1 hj,br hj];rfl
theorem aao(n:aS)(s:aj)(hn:(ay n).length≤1048576):Fh (n,s,())=some (dR (ay n) s,()):=by
 show Ff (te aM) n s=_;unfold Ff;show te aM s (ay n) ((ay n).length:Int) 0=_;generalize ay n=N at hn;refine tN N.length (by omega) (r1 N s) (fun o=>some (B3 N o,())) (fun m j=>te m s N (N.length:Int) j) ?_ ?_
 ·intro m;simp only [te,Fg];rw [cw (Nat.le_refl _)];rfl
 ·intro m j hj hw;simp only [te,Fg,hw];rw [b1 hj,br hj];rfl
def lI(N:List aJ.D)(id:Int)(j:Nat):Bool:=(I aJ N j).2.1==id
def qF(N:List aJ.D)(id:Int):Bool:=(fy N.length (lI N id)).isSome
def QN(l:List aS):Option Nat→Int
 | none=>1
 | some i=>(I J l i).1
def I1(l:List aS)(id:Int):Option Nat:=fy l.length fun i=>qF (ay (I J l i)) id
def k6(l:List aS)(id:Int):Int:=QN l (I1 l id)
theorem QO{N:List aJ.D}{id:Int}(h:qF N id=false):∀j,j<N.length→lI N id j=false:=by
 unfold qF at h
 cases hf:fy N.length (lI N id) with
 | none=>exact mm.1 hf
 | some j=>rw [hf] at h;cases h
theorem I2{N:List aJ.D}{id:Int}(h:qF N id=true):∃j,j<N.length∧lI N id j=true∧∀k,k<j→lI N id k=false:=by
 unfold qF at h
 cases hf:fy N.length (lI N id) with
 | none=>rw [hf] at h;cases h
 | some j=>exact⟨j,iV.1 hf⟩
theorem aap(v:ah.D)(id:Int)(hl:v.2.1.length≤1048576)(hn:dP v.2.1≤1048576):G4 (v,id,())=some (k6 v.2.1 id,()):=by
 show G0 (kX aM) v id=_;unfold G0
 have inner:∀i,i<v.2.1.length→∀j,j<(ay (I J v.2.1 i)).length→lI (ay (I J v.2.1 i)) id j=false→∀B y,b3 (fun m=>(kX m).bp id (i:Int) ((j+1:Nat):Int) v) B y→b3 (fun m=>(kX m).bp id (i:Int) (j:Int) v) (B+1) y:=by
  intro i hi j hj aw B y he;have hnl:=gA hi;refine he.step fun m=>?_
  show we (kX m) _ _ _ _=_;unfold we;rw [br hi];simp only [al];show cond (decide ((j:Int)<((ay (I J v.2.1 i)).length:Int))) ((ix (ay (I J v.2.1 i)).length (j:Int)).bind fun v3=>cond (lI (ay (I J v.2.1 i)) id v3) _ _) _=_;rw [b1 hj,br hj];simp only [cond_true,al,aw,cond_false];rw [dA j (by omega)]
 have key:=aal v.2.1.length (1048576+2) (fun m i=>(kX m).k2 id (i:Int) v) (fun i=>qF (ay (I J v.2.1 i)) id) (fun o=>some (QN v.2.1 o,())) (1048576+3) ((b3.done fun m=>by
   show wc (kX m) _ _ _=_;unfold wc
   rw [cw (Nat.le_refl _)];rfl).mono (by omega)) (fun i hi aw=>by
   have hnl:=gA hi;obtain ⟨j,h1,h2,h3⟩:=I2 aw
   have:=px 1 (fun m j=>(kX m).bp id (i:Int) (j:Int) v) (some ((I J v.2.1 i).1,())) j 1 (fun k hk=>inner i hi k (by omega) (h3 k hk)) (b3.done fun m=>by
    show we (kX m) _ _ _ _=_;unfold we;rw [br hi];simp only [al];show cond (decide ((j:Int)<((ay (I J v.2.1 i)).length:Int))) ((ix (ay (I J v.2.1 i)).length (j:Int)).bind fun v3=>cond (lI (ay (I J v.2.1 i)) id v3) _ _) _=_;rw [b1 h1,br h1]
    simp only [cond_true,al,h2])
   refine(this.step (f:=fun m=>(kX m).k2 id (i:Int) v) fun m=>?_).mono (by omega);show wc (kX m) _ _ _=_;unfold wc
   rw [b1 hi];rfl) (fun i hi aw B y he=>by
   have hnl:=gA hi;have h0:=QO aw
   have:=px 1 (fun m j=>(kX m).bp id (i:Int) (j:Int) v) y (ay (I J v.2.1 i)).length (B+1) (fun k hk=>inner i hi k hk (h0 k hk)) (he.step fun m=>by
    show we (kX m) _ _ _ _=_;unfold we;rw [br hi];simp only [al];show cond (decide (((ay (I J v.2.1 i)).length:Int)<((ay (I J v.2.1 i)).length:Int))) _ _=_;rw [cw (Nat.le_refl _)];simp only [cond_false]
    rw [dA i (by omega)])
   refine(this.step (f:=fun m=>(kX m).k2 id (i:Int) v) fun m=>?_).mono (by omega);show wc (kX m) _ _ _=_;unfold wc
   rw [b1 hi];rfl)
 have hm:v.2.1.length*(1048576+2)≤1048576*(1048576+2):=Nat.mul_le_mul_right _ hl;exact lH key (by omega)
theorem am4(v:ah.D)(id:Int)(hl:v.2.1.length≤1048576)(hn:dP v.2.1≤1048576):Ng (v,id,())=some (k6 v.2.1 id,()):=by
 show Fs (kW aM) v id=_;unfold Fs
 have inner:∀i,i<v.2.1.length→∀j,j<(ay (I J v.2.1 i)).length→lI (ay (I J v.2.1 i)) id j=false→∀B y,
   b3 (fun m=>(kW m).bp id v.2.1 (v.2.1.length:Int) (i:Int) (ay (I J v.2.1 i)) ((ay (I J v.2.1 i)).length:Int) ((j+1:Nat):Int) (I J v.2.1 i)) B y →
   b3 (fun m=>(kW m).bp id v.2.1 (v.2.1.length:Int) (i:Int) (ay (I J v.2.1 i)) ((ay (I J v.2.1 i)).length:Int) (j:Int) (I J v.2.1 i)) (B+1) y:=by
  intro i hi j hj aw B y he;have hnl:=gA hi;refine he.step fun m=>?_
  show vJ (kW m) _ _ _ _ _ _ _ _=_;unfold vJ;rw [b1 hj,br hj];simp only [cond_true,al];show cond (lI (ay (I J v.2.1 i)) id j) _ _=_;rw [aw,dA j (by omega)];rfl
 have key:=aal v.2.1.length (1048576+2) (fun m i=>(kW m).k2 id v.2.1 (v.2.1.length:Int) (i:Int)) (fun i=>qF (ay (I J v.2.1 i)) id) (fun o=>some (QN v.2.1 o,())) (1048576+3) ((b3.done fun m=>by
   show vI (kW m) _ _ _ _=_;unfold vI
   rw [cw (Nat.le_refl _)];rfl).mono (by omega)) (fun i hi aw=>by
   have hnl:=gA hi;obtain ⟨j,h1,h2,h3⟩:=I2 aw
   have:=px 1 (fun m j=>(kW m).bp id v.2.1 (v.2.1.length:Int) (i:Int) (ay (I J v.2.1 i)) ((ay (I J v.2.1 i)).length:Int) (j:Int) (I J v.2.1 i)) (some ((I J v.2.1 i).1,())) j 1 (fun k hk=>inner i hi k (by omega) (h3 k hk)) (b3.done fun m=>by
    show vJ (kW m) _ _ _ _ _ _ _ _=_;unfold vJ;rw [b1 h1,br h1];simp only [cond_true,al];show cond (lI (ay (I J v.2.1 i)) id j) _ _=_
    rw [h2];rfl)
   refine(this.step (f:=fun m=>(kW m).k2 id v.2.1 (v.2.1.length:Int) (i:Int)) fun m=>?_).mono (by omega);show vI (kW m) _ _ _ _=_;unfold vI
   rw [b1 hi,br hi];rfl) (fun i hi aw B y he=>by
   have hnl:=gA hi;have h0:=QO aw
   have:=px 1 (fun m j=>(kW m).bp id v.2.1 (v.2.1.length:Int) (i:Int) (ay (I J v.2.1 i)) ((ay (I J v.2.1 i)).length:Int) (j:Int) (I J v.2.1 i)) y (ay (I J v.2.1 i)).length (B+1) (fun k hk=>inner i hi k hk (h0 k hk)) (he.step fun m=>by
    show vJ (kW m) _ _ _ _ _ _ _ _=_;unfold vJ;rw [cw (Nat.le_refl _)];simp only [cond_false]
    rw [dA i (by omega)])
   refine(this.step (f:=fun m=>(kW m).k2 id v.2.1 (v.2.1.length:Int) (i:Int)) fun m=>?_).mono (by omega);show vI (kW m) _ _ _ _=_;unfold vI
   rw [b1 hi,br hi];rfl)
 have hm:v.2.1.length*(1048576+2)≤1048576*(1048576+2):=Nat.mul_le_mul_right _ hl;exact lH key (by omega)
def nq(l:List aS)(N:List aJ.D):Nat:=(N.filter fun d=>py l d.2.1).length
def r2(l:List aS)(n:aS):Int:=cond (kindOf n != 2) (cA l n.1:Int) (2+nq l (ay n):Int)
theorem aaq{l:List aS}{N:List aJ.D}{j:Nat}(hj:j<N.length):nq l (N.take (j+1))=nq l (N.take j)+cond (py l (I aJ N j).2.1) 1 0:=by unfold nq;rw [List.take_succ_eq_append_getElem hj,List.filter_append,List.length_append];congr 1;rw [c2 hj];cases h:py l (N[j]).2.1 <;> simp [List.filter_cons,h]
theorem aar(l:List aS)(N:List aJ.D)(j:Nat):nq l (N.take j)≤N.length:=by unfold nq;refine Nat.le_trans (List.length_filter_le _ _) ?_;rw [List.length_take];omega
theorem am5(v:ah.D)(id:Int)(hl:v.2.1.length≤1048576)(hn:dP v.2.1≤1048576){i:Nat}(h:bC v.2.1 id=some i):Hs (v,id,())=some (r2 v.2.1 (I J v.2.1 i),()):=by
 show Hq (wu aM) v id=_;unfold Hq r2;obtain ⟨hi,cj⟩:=b9 h;have hnl:=gA hi;rw [qy v id hl,h];simp only [al,IL,Option.isNone_some,cond_false,iB];rw [br hi];simp only [al];show cond (kindOf (I J v.2.1 i) != 2) _ _=_;cases kindOf (I J v.2.1 i) != 2
 ·simp only [cond_false]
  have:=nh (ay (I J v.2.1 i)).length (by omega) (fun m j=>wu m (i:Int) (2+nq v.2.1 ((ay (I J v.2.1 i)).take j.toNat):Int) j v) (fun _=>some ((2+nq v.2.1 (ay (I J v.2.1 i)):Int),())) (fun _=>True) (fun m _=>by
   simp only [wu,Hr];rw [br hi];simp only [al];show cond (decide (((ay (I J v.2.1 i)).length:Int)<((ay (I J v.2.1 i)).length:Int))) _ _=_;rw [cw (Nat.le_refl _)]
   simp only [Int.toNat_natCast,List.take_length,cond_false]) (fun m j hj _ hw ih=>by
   have ih:=ih trivial;rw [show((j:Int)+1).toNat=j+1 by omega,aaq hj] at ih;have hdl:=aar v.2.1 (ay (I J v.2.1 i)) j;simp only [wu,Hr];rw [br hi];simp only [al];show cond (decide ((j:Int)<((ay (I J v.2.1 i)).length:Int))) ((ix (ay (I J v.2.1 i)).length (j:Int)).bind fun v3=>(yH (v,(I aJ (ay (I J v.2.1 i)) v3).2.1,())).bind _) _=_;rw [b1 hj,br hj];simp only [cond_true,al];rw [aam v _ hl];simp only [al,hw,Int.toNat_natCast];revert ih;cases py v.2.1 (I aJ (ay (I J v.2.1 i)) j).2.1
   ·intro ih;exact ih
   ·intro ih;simp only [cond_true] at ih ⊢;rw [cG (by omega) (by omega)];rw [Int.natCast_add,← Int.add_assoc] at ih
    exact ih) (ay (I J v.2.1 i)).length 0 aM (by omega) (iU (by omega)) trivial
  simpa [nq] using this
 ·simp only [cond_true];rw [ZZ v id hl hn,cj];rfl
theorem am6(v:ah.D)(n:aS)(hl:v.2.1.length≤1048576)(hn:dP v.2.1≤1048576)(hnl:(ay n).length≤1048576):NL (v,n,())=some (r2 v.2.1 n,()):=by
 show FV (tm aM) v n=_;unfold FV r2;show cond (kindOf n != 2) _ _=_;cases kindOf n != 2
 ·simp only [cond_false]
  have:=nh (ay n).length (by omega) (fun m j=>tm m v (2+nq v.2.1 ((ay n).take j.toNat):Int) (ay n) ((ay n).length:Int) j) (fun _=>some ((2+nq v.2.1 (ay n):Int),())) (fun _=>True) (fun m _=>by
   simp only [tm,FW];rw [cw (Nat.le_refl _)]
   simp only [Int.toNat_natCast,List.take_length,cond_false]) (fun m j hj _ hw ih=>by
   have ih:=ih trivial;rw [show((j:Int)+1).toNat=j+1 by omega,aaq hj] at ih;have hdl:=aar v.2.1 (ay n) j;simp only [tm,FW];rw [b1 hj,br hj];simp only [cond_true,al];rw [aan v _ hl];simp only [al,hw,Int.toNat_natCast];revert ih;cases py v.2.1 (I aJ (ay n) j).2.1
   ·intro ih;exact ih
   ·intro ih;simp only [cond_true] at ih ⊢;rw [cG (by omega) (by omega)];rw [Int.natCast_add,← Int.add_assoc] at ih
    exact ih) (ay n).length 0 aM (by omega) (iU (by omega)) trivial
  show tm aM v 2 (ay n) ((ay n).length:Int) 0=_;simpa [nq] using this
 ·simp only [cond_true];rw [Z1 v _ hl hn];rfl
abbrev aO:Type:=List UInt8
def jS(c:aO):List aO→List aO
 | []=>[c]
 | p :: ps=>(c++p) :: ps
def e4:aO→List aO
 | []=>[[]]
 | b :: l=>cond (b==47) ([] :: e4 l) (jS [b] (e4 l))
def full(p:aO):Bool:= !bw p []
def cut(s:aO):List aO:=(e4 s).filter full
theorem am7(c:aO)(l:List aO):jS c l≠[]:=by cases l <;> simp [jS]
theorem I3(s:aO):e4 s≠[]:=by
 cases s with
 | nil=>simp [e4]
 | cons b l=>simp only [e4];cases b==47 <;> simp [am7]
theorem QP{l:List aO}(h:l≠[]):jS [] l=l:=by cases l <;> simp_all [jS]
theorem am8(a b:aO){l:List aO} : jS a (jS b l)=jS (a++b) l:=by cases l <;> simp [jS]
theorem QQ{p:aO} : full p=false↔p=[]:=by unfold full bw;simp
theorem am9(c:aO):(jS c [[]]).filter full=cond (full c) [c] []:=by simp only [jS,List.append_nil,List.filter_cons,List.filter_nil];cases full c <;> rfl
theorem am_(s:aO){i:Nat}(h:i<s.length):s.drop i=s.getD i 0 :: s.drop (i+1):=by rw [List.drop_eq_getElem_cons h];congr 1;rw [List.getD_eq_getElem?_getD,List.getElem?_eq_getElem h];rfl
theorem am'{s:aO}{a i:Nat}(ha:a≤i)(hi:i<s.length):part s a (i+1-a)=part s a (i-a)++[s.getD i 0]:=by unfold part;rw [show i+1-a=(i-a)+1 by omega,List.take_add_one];congr 1;rw [List.getElem?_drop,show a +(i-a)=i by omega,List.getElem?_eq_getElem hi,List.getD_eq_getElem?_getD,List.getElem?_eq_getElem hi];rfl
theorem aas(b:UInt8):(((b.toNat:Nat):Int)==47)=(b==47):=by
 rw [Bool.eq_iff_iff,beq_iff_eq,beq_iff_eq];constructor
 ·intro h;have:b.toNat=47:=by omega
  exact UInt8.toNat_inj.1 (by rw [this];rfl)
 ·rintro rfl;rfl
theorem ana{s:aO}{a n:Nat}(h:a+n≤s.length):(part s a n).length=n:=by unfold part;rw [List.length_take,List.length_drop];omega
theorem aat{s:aO}{a i:Nat}(ha:a≤i)(hi:i≤s.length):full (part s a (i-a))=decide ((i:Int) >(a:Int)):=by
 by_cases h:a<i
 ·rw [decide_eq_true (show(i:Int) >(a:Int) by omega)];rw [← Bool.not_eq_false,QQ];intro h0;have:=ana (s:=s) (a:=a) (n:=i-a) (by omega);rw [h0] at this;simp at this;omega
 ·have:i-a=0:=by omega
  rw [this,decide_eq_false (show ¬(i:Int) >(a:Int) by omega)];exact QQ.2 (by simp [part])
theorem aau(s:aO)(hl:s.length≤1048576):Bg (s,())=some (cut s,()):=by
 show G6 (rJ aM) s=_;unfold G6
 have key:∀(r i m a:Nat) (out:List aO),i+r=s.length→r+1<m→a≤i→out.length≤i→rJ m s (a:Int) (i:Int) out=some (out++(jS (part s a (i-a)) (e4 (s.drop i))).filter full,()):=by
  intro r
  induction r with
  | zero=>
   intro i m a out hi hm ha ho;obtain ⟨m,rfl,p0⟩:=fuel hm;obtain ⟨m,rfl,_⟩:=fuel p0;have bj:i=s.length:=by omega
   have o8:∀(x:Int) (o:List aO),rJ (m+1) s x (ax ((i:Int)+1)) o=some (o,()):=by intro x o;simp only [rJ,Bf];rw [dA i (by omega),decide_eq_false (by omega)];rfl
   rw [rJ,Bf,decide_eq_true (show(i:Int)≤(s.length:Int) by omega),show((i:Int) ==(s.length:Int))=true by simp;omega];simp only [cond_true];rw [List.drop_of_length_le (by omega),e4,am9,aat ha (by omega)];by_cases h:(i:Int) >(a:Int)
   ·rw [decide_eq_true h];simp only [cond_true];rw [jd ha (by omega)];simp only [al];rw [b_ (by simp only [List.length_cons,List.length_nil];omega)];simp only [cond_true,o8]
   ·rw [decide_eq_false h];simp only [cond_false,o8,List.append_nil]
  | succ r ih=>
   intro i m a out hi hm ha ho;obtain ⟨m,rfl,hm⟩:=fuel hm;have bO:i<s.length:=by omega
   rw [rJ,Bf,decide_eq_true (show(i:Int)≤(s.length:Int) by omega),show((i:Int) ==(s.length:Int))=false by simp;omega];simp only [cond_true,cond_false];rw [br bO,am_ s bO,e4];simp only [al];rw [aas,dA i (by omega)];cases s.getD i 0==47
   ·simp only [cond_false];rw [ih (i+1) m a out (by omega) (by omega) (by omega) (by omega),am8,← am' ha bO]
   ·simp only [cond_true];have hz:part s (i+1) (i+1-(i+1))=[]:=by simp [part]
    have hs:(jS (part s a (i-a)) ([] :: e4 (s.drop (i+1)))).filter full=cond (full (part s a (i-a))) [part s a (i-a)] []++(e4 (s.drop (i+1))).filter full:=by simp only [jS,List.append_nil,List.filter_cons];cases full (part s a (i-a)) <;> rfl
    rw [hs,aat ha (by omega)];by_cases h:(i:Int) >(a:Int)
    ·rw [decide_eq_true h];simp only [cond_true];rw [jd ha (by omega)];simp only [al];rw [b_ (by simp only [List.length_cons,List.length_nil];omega)];simp only [cond_true];rw [ih (i+1) m (i+1) _ (by omega) (by omega) (by omega) (by simp;omega),hz,QP (I3 _),List.append_assoc]
    ·rw [decide_eq_false h];simp only [cond_false];rw [ih (i+1) m (i+1) _ (by omega) (by omega) (by omega) (by omega),hz,QP (I3 _),List.nil_append]
 have:=key s.length 0 aM 0 [] (by omega) (iU (by omega)) (by omega) (by simp);rw [show part s 0 (0-0)=[] by simp [part],List.drop_zero,QP (I3 _)] at this;simpa [cut] using this
theorem aav{s:aO}(h:Lib.indexByte s 47 = -1):e4 s=[s]∧s.count 47=0:=by
 induction s with
 | nil=>exact⟨rfl,rfl⟩
 | cons b l ih=>
  unfold Lib.indexByte at h;cases hb:b==47
  ·rw [hb] at h;simp only [Bool.false_eq_true,if_false] at h
   have hl:Lib.indexByte l 47 = -1:=by
    by_cases h1:Lib.indexByte l 47 = -1
    ·exact h1
    ·have h2:=Lib.indexByte_ge l 47;rw [if_neg (by simpa using h1)] at h;omega
   obtain ⟨i1,i2⟩:=ih hl;refine⟨by rw [e4,hb,i1];rfl,?_⟩;rw [List.count_cons,i2,hb];rfl
  ·rw [hb] at h;simp at h
theorem aaw{s:aO}{k:Nat}(h:Lib.indexByte s 47=(k:Int)):k<s.length∧e4 s=s.take k :: e4 (s.drop (k+1))∧s.count 47=(s.drop (k+1)).count 47+1:=by
 induction s generalizing k with
 | nil=>unfold Lib.indexByte at h;omega
 | cons b l ih=>
  unfold Lib.indexByte at h;cases hb:b==47
  ·rw [hb] at h;simp only [Bool.false_eq_true,if_false] at h;have h2:=Lib.indexByte_ge l 47;by_cases h1:Lib.indexByte l 47 = -1
   ·rw [if_pos (by simpa using h1)] at h;omega
   ·rw [if_neg (by simpa using h1)] at h;obtain ⟨j,rfl⟩:∃j,k=j+1:=⟨k-1,by omega⟩
    obtain ⟨i1,i2,i3⟩:=ih (k:=j) (by omega);refine⟨by simp;omega,?_,?_⟩
    ·rw [e4,hb,i2];rfl
    ·rw [List.count_cons,i3,hb];rfl
  ·rw [hb] at h;simp only [if_true] at h;have:k=0:=by omega
   subst this;refine⟨by simp,?_,?_⟩
   ·rw [e4,hb];rfl
   ·rw [List.count_cons,hb];rfl
theorem aax(s:aO):Lib.indexByte s 47 = -1∨∃k:Nat,Lib.indexByte s 47=k:=by
 have:=Lib.indexByte_ge s 47;by_cases h:Lib.indexByte s 47 = -1
 ·exact .inl h
 ·exact .inr ⟨(Lib.indexByte s 47).toNat,by omega⟩
theorem anb(s:aO):Fi (s,[47],())=some (Lib.indexByte s 47,()):=by
 show M_ s [47]=_;unfold M_;show Option.bind (M9 s [47]) _=_;unfold M9;by_cases h:bw [47] s=true
 ·rw [h];have:s=[47]:=by unfold bw at h;simp only [decide_eq_true_eq] at h;exact h.symm
  subst this;rfl
 ·rw [Bool.not_eq_true] at h;rw [h];rfl
theorem anc(s:aO):M' (s,[47],())=some ((s.count 47:Int),()):=by show Fk (Fl aM) s [47]=_;unfold Fk;rfl
theorem ane:∀(r:Nat) (s:aO) (i n m:Nat) (a:List aO),s.length≤1048576→n≤1048576→s.count 47=r→i+r=n→a.length=n+1→r+1<m →
  (ru m).dm s [47] 0 (n:Int) (i:Int) a=some (a.take i++e4 s,()):=by
 intro r
 induction r with
 | zero=>
  intro s i n m a hs hn hc hi ha hm;obtain ⟨m,rfl,p0⟩:=fuel hm;obtain ⟨m,rfl,_⟩:=fuel p0;have:i=n:=by omega
  subst this;show AT (ru (m+1)) _ _ _ _ _ _=_;unfold AT;rw [cw (Nat.le_refl _)];simp only [cond_false];show Nb (ru m) _ _ _=_;unfold Nb;rw [br (by omega)];simp only [al,Nat.zero_add];rw [dA i (by omega)];show Option.bind (dh (a.set i s).length ((0:Nat):Int) ((i+1:Nat):Int)) _=_;rw [jd (by omega) (by rw [List.length_set];omega)];simp only [al,Nat.zero_add,Nat.sub_zero]
  have hsp:e4 s=[s]:=by
   rcases aax s with h | ⟨k,h⟩
   ·exact(aav h).1
   ·have:=(aaw h).2.2;omega
  rw [hsp,pz,List.take_succ_eq_append_getElem (by rw [List.length_set];omega),List.getElem_set_self,List.take_set_of_le (by omega)]
 | succ r ih=>
  intro s i n m a hs hn hc hi ha hm;obtain ⟨m,rfl,hm⟩:=fuel hm;show AT (ru m) _ _ _ _ _ _=_;unfold AT;rw [b1 (by omega),anb];simp only [cond_true,al]
  obtain ⟨k,hk⟩:∃k:Nat,Lib.indexByte s 47=k:=by
   rcases aax s with h | h
   ·have:=(aav h).2;omega
   ·exact h
  obtain ⟨h1,h2,h3⟩:=aaw hk;rw [hk,decide_eq_false (by omega)];simp only [cond_false];rw [show ax ((k:Int)+0)=(k:Int) by rw [Int.add_zero];exact cG (by omega) (by omega)];show Option.bind (dh s.length ((0:Nat):Int) (k:Int)) _=_;rw [jd (by omega) (by omega)];simp only [al];rw [br (by omega)];simp only [al,Nat.zero_add];unfold VV;simp only;rw [show ax ((k:Int) +(([47]:aO).length:Int))=((k+1:Nat):Int) from dA k (by omega),jd (by omega) (Nat.le_refl _)];simp only [al];rw [tU,dA i (by omega),ih (s.drop (k+1)) (i+1) n m _ (by rw [List.length_drop];omega) hn (by omega) (by omega) (by rw [List.length_set];exact ha) (by omega)];rw [h2,List.take_succ_eq_append_getElem (by rw [List.length_set];omega),List.getElem_set_self,List.take_set_of_le (by omega),Nat.sub_zero,pz,List.append_assoc];rfl
theorem anf(s:aO)(hl:s.length≤1048576):Nf (s,[47],())=some (e4 s,()):=by
 show Nd s [47]=_;unfold Nd;have:Nc (s,[47],0,-1,())=some (e4 s,()):=by show Fm (ru aM) s [47] 0 (-1)=_;unfold Fm;have hcl:s.count 47≤s.length:=List.count_le_length;rw [anc];show(ru aM).dW s [47] 0 (ax ((s.count 47:Int)+1))=_;obtain ⟨q,hq,jn⟩:=kC 1;rw [hq];show Na (ru q) _ _ _ _=_;unfold Na;rw [dA _ (by omega),dA _ (by omega),show j0 ((s.count 47+1:Nat):Int) ((s.length+1:Nat):Int)=((s.count 47+1:Nat):Int) by rw [ang];omega];rw [decide_eq_true (by omega),decide_eq_true rfl,Int.toNat_natCast,b_ (by omega)];simp only [Bool.and_self,cond_true];rw [show ax (((s.count 47+1:Nat):Int)-1)=((s.count 47:Nat):Int) by rw [cG (by omega) (by omega)];omega];have:=ane (s.count 47) s 0 (s.count 47) q (List.replicate (s.count 47+1) []) hl (by omega) rfl (by omega) (by simp) (by omega);simpa using this
 rw [this];rfl
theorem aay(s:aO)(hl:s.length≤1048576):tg (s,())=some (cut s,()):=by
 show Fp (tf aM) s=_;unfold Fp;rw [anf s hl];simp only [al]
 have oa:(e4 s).length≤1048577:=by
  have:∀s:aO,(e4 s).length≤s.length+1:=by
   intro s
   induction s with
   | nil=>simp [e4]
   | cons b l ih=>
    rw [e4];cases b==47
    ·simp only [cond_false,List.length_cons]
     cases hs:e4 l with
     | nil=>simp [jS]
     | cons p ps=>rw [hs] at ih;simp only [jS,List.length_cons] at ih ⊢;omega
    ·simp only [cond_true,List.length_cons];omega
  have:=this s;omega
 show tf aM _ _ _ _=some ((e4 s).filter full,());generalize e4 s=l at oa
 have:=nh l.length (by omega) (fun m i=>tf m (l.length:Int) i ((l.take i.toNat).filter full) l) (fun _=>some (l.filter full,())) (fun _=>True) (fun m _=>by
  simp only [tf,Fq];rw [cw (Nat.le_refl _)]
  simp only [Int.toNat_natCast,List.take_length,cond_false]) (fun m i hi _ hw ih=>by
  have ih:=ih trivial;have aC:I ad.str l i=l[i]:=c2 (t:=.str) hi;rw [show((i:Int)+1).toNat=i+1 by omega,List.take_succ_eq_append_getElem hi,List.filter_append,List.filter_cons,List.filter_nil] at ih;simp only [tf,Fq];rw [b1 hi,br hi];simp only [cond_true,al,Nat.zero_add,hw,Int.toNat_natCast];rw [aC];show cond (full l[i]) _ _=_;have iw:((l.take i).filter full).length≤i:=Nat.le_trans (List.length_filter_le _ _) (by rw [List.length_take];omega);cases hf:full l[i]
  ·rw [hf] at ih;simp only [Bool.false_eq_true,if_false,List.append_nil] at ih;exact ih
  ·rw [hf] at ih;simp only [if_true] at ih;simp only [cond_true];rw [b_ (by simp only [List.length_cons,List.length_nil];omega)]
   exact ih) l.length 0 aM (by omega) (iU (by omega)) trivial
 simpa using this
theorem anh{s:aO} : ∀ {p:aO},p∈e4 s→∀b,b∈p→b∈s∧(b==47)=false:=by
 induction s with
 | nil=>intro p aw b hb;simp [e4] at aw;subst aw;simp at hb
 | cons c l ih=>
  intro p aw b hb;rw [e4] at aw;cases hc:c==47
  ·rw [hc] at aw;simp only [cond_false] at aw
   cases hs:e4 l with
   | nil=>exact absurd hs (I3 l)
   | cons q atP=>
    rw [hs] at aw ih;simp only [jS,List.mem_cons] at aw;rcases aw with rfl | aw
    ·simp only [List.cons_append,List.nil_append,List.mem_cons] at hb;rcases hb with rfl | hb
     ·exact⟨List.mem_cons_self,hc⟩
     ·obtain ⟨h1,h2⟩:=ih List.mem_cons_self b hb;exact⟨List.mem_cons_of_mem _ h1,h2⟩
    ·obtain ⟨h1,h2⟩:=ih (List.mem_cons_of_mem _ aw) b hb;exact⟨List.mem_cons_of_mem _ h1,h2⟩
  ·rw [hc] at aw;simp only [cond_true,List.mem_cons] at aw;rcases aw with rfl | aw
   ·simp at hb
   ·obtain ⟨h1,h2⟩:=ih aw b hb;exact⟨List.mem_cons_of_mem _ h1,h2⟩
theorem ani(s:aO):(e4 s).length≤s.length+1:=by
 induction s with
 | nil=>simp [e4]
 | cons b l ih=>
  rw [e4];cases b==47
  ·simp only [cond_false,List.length_cons]
   cases hs:e4 l with
   | nil=>simp [jS]
   | cons p ps=>rw [hs] at ih;simp only [jS,List.length_cons] at ih ⊢;omega
  ·simp only [cond_true,List.length_cons];omega
theorem aaz(s:aO):(cut s).length≤s.length+1:=Nat.le_trans (List.length_filter_le _ _) (ani s)
def B4(p:aO):Prop:=p≠[]∧∀i,i<p.length→wW (nb p i)=true
theorem aaA{s:aO}(h:kD s=true):∀p,p∈cut s→B4 p:=by
 intro p aw;obtain ⟨h1,h2⟩:=List.mem_filter.1 aw;refine⟨fun h0=>(by rw [QQ.2 h0] at h2;cases h2),fun i hi=>?_⟩;have hm:p.getD i 0∈p:=by rw [List.getD_eq_getElem?_getD,List.getElem?_eq_getElem hi];exact List.getElem_mem hi
 obtain ⟨h3,h4⟩:=anh h1 _ hm;unfold kD at h;rw [Bool.and_eq_true] at h;obtain ⟨j,hj,he⟩:=List.mem_iff_getElem.1 h3;have:=gZ.1 h.1 j hj;have e:nb s j=nb p i:=by unfold nb;rw [List.getD_eq_getElem?_getD,List.getElem?_eq_getElem hj,← he];rfl
 rw [e] at this;have a7:(nb p i==47)=false:=by rw [← h4];exact aas _
 rw [a7,Bool.false_or] at this;exact this
theorem lt_irrefl:∀x:aO,eg x x=false
 | []=>rfl
 | a :: x=>by have:=lt_irrefl x;unfold eg at *;rw [Op.bytesLess];simp [this]
theorem aaB:∀x y:aO,eg x y=false→x=y∨eg y x=true
 | [],[],_=>.inl rfl
 | [],_ :: _,h=>by unfold eg Op.bytesLess at h;cases h
 | a :: x,[],_=>.inr (by unfold eg Op.bytesLess;rfl)
 | a :: x,b :: y,h=>by
  have ih:=aaB x y;unfold eg at *;rw [Op.bytesLess] at h;simp only [Bool.or_eq_false_iff,decide_eq_false_iff_not,Bool.and_eq_false_iff,beq_eq_false_iff_ne] at h;obtain ⟨h1,h2⟩:=h;by_cases l6:a=b
  ·subst l6;rcases h2 with h2 | h2
   ·exact absurd rfl h2
   ·rcases ih h2 with h3 | h3
    ·exact .inl (by rw [h3])
    ·exact .inr (by rw [Op.bytesLess];simp [h3])
  ·refine .inr ?_;rw [Op.bytesLess]
   have:b<a:=by
    rcases UInt8.lt_or_lt_of_ne l6 with h | h
    ·exact absurd h h1
    ·exact h
   simp [this]
theorem B5:∀ {x y z:aO},eg x y=true→eg y z=true→eg x z=true
 | _,[],_,h,_=>by unfold eg at h;simp [Op.bytesLess] at h
 | _,_ :: _,[],_,h=>by unfold eg at h;simp [Op.bytesLess] at h
 | [],_ :: _,_ :: _,_,_=>by unfold eg;simp [Op.bytesLess]
 | a :: x,b :: y,c :: z,h,k=>by
  have ih:=@B5 x y z;unfold eg at *;rw [Op.bytesLess] at h k ⊢;simp only [Bool.or_eq_true,decide_eq_true_eq,Bool.and_eq_true,beq_iff_eq] at h k ⊢;rcases h with h | ⟨rfl,h⟩
  ·rcases k with k | ⟨rfl,k⟩
   ·exact .inl (UInt8.lt_trans h k)
   ·exact .inl h
  ·rcases k with k | ⟨rfl,k⟩
   ·exact .inl k
   ·exact .inr ⟨rfl,ih h k⟩
theorem aaC{x y:aO}(h:eg x y=true):eg y x=false:=by
 cases hk:eg y x
 ·rfl
 ·have:=B5 h hk;rw [lt_irrefl] at this;cases this
theorem I4{x y:aO}(h:eg x y=true):x≠y:=by rintro rfl;rw [lt_irrefl] at h;cases h
theorem QR{x y:aO}(h:x≠y):eg y x = !eg x y:=by
 cases hk:eg x y
 ·rcases aaB x y hk with h1 | h1
  ·exact absurd h1 h
  ·rw [h1];rfl
 ·rw [aaC hk];rfl
def jB(N:List aJ.D):Prop:=N.Pairwise fun a b=>eg a.1 b.1=true
theorem anj{N:List aJ.D}(h:∀j,j+1<N.length→eg (I aJ N j).1 (I aJ N (j+1)).1=true):jB N:=by
 unfold jB;rw [List.pairwise_iff_getElem]
 have key:∀d j,j+d+1<N.length→eg (I aJ N j).1 (I aJ N (j+d+1)).1=true:=by
  intro d
  induction d with
  | zero=>exact fun j hj=>h j hj
  | succ d ih=>exact fun j hj=>B5 (ih j (by omega)) (h (j+d+1) (by omega))
 intro i j hi hj jc;have:=key (j-i-1) i (by omega);rw [show i +(j-i-1)+1=j by omega,c2 hi,c2 hj] at this;exact this
theorem ank{N:List aJ.D}(h:jB N){i j:Nat}(jc:i<j)(hj:j<N.length):eg (I aJ N i).1 (I aJ N j).1=true:=by unfold jB at h;rw [c2 hj,c2 (t:=aJ) (xs:=N) (i:=i) (by omega)];exact List.pairwise_iff_getElem.1 h i j (by omega) hj jc
structure lJ(l:List aS)(x:aS):Prop where
 mode:0≤fi x∧fi x≤2047
 uid:0≤eK x∧eK x≤1000
 gid:0≤fC x∧fC x≤1000
 kind:kindOf x=1∨kindOf x=2∨kindOf x=3
 plain:kindOf x≠2→fQ x=0∧fB x=0∧ay x=[]
 file:kindOf x=1→(bX x).length≤64
 oe:kindOf x=3→kD (bX x)=true∧fi x=511
 dir:kindOf x=2→bX x=[]∧(0≤fQ x∧fQ x≤400)∧(0≤fB x∧fB x≤24)∧(ay x).length≤12
 names:∀d,d∈ay x→ni d.1=true∧d.2.1≠1∧(bC l d.2.1).isSome=true
 sorted:jB (ay x)
theorem I5{x:aS} : plain x=true↔fQ x=0∧fB x=0∧ay x=[]:=by
 unfold plain;simp only [Bool.and_eq_true,beq_iff_eq];constructor
 ·rintro ⟨⟨h1,h2⟩,h3⟩;exact⟨h2,h3,List.length_eq_zero_iff.1 (by omega)⟩
 ·rintro ⟨h1,h2,h3⟩;exact⟨⟨by rw [h3];rfl,h1⟩,h2⟩
theorem aaD{l:List aS}{N:List aJ.D} : fo N.length (QB l N)=true↔(∀d,d∈N→ni d.1=true∧d.2.1≠1∧(bC l d.2.1).isSome=true)∧jB N:=by
 rw [gZ];unfold QB;simp only [Bool.and_eq_true,Bool.not_eq_true',Bool.and_eq_false_iff,decide_eq_false_iff_not,Bool.not_eq_false',beq_eq_false_iff_ne];constructor
 ·intro h;refine⟨fun d af=>?_,anj fun j hj=>?_⟩
  ·obtain ⟨i,hi,he⟩:=fA af;obtain ⟨⟨⟨h1,_⟩,h3⟩,h4⟩:=h i hi;rw [he] at h1 h3 h4;exact⟨h1,h3,h4⟩
  ·obtain ⟨⟨⟨_,h2⟩,_⟩,_⟩:=h (j+1) hj;rcases h2 with h2 | h2
   ·omega
   ·rw [Nat.add_sub_cancel] at h2;exact h2
 ·rintro ⟨h1,h2⟩ i hi
  obtain ⟨k1,k2,k3⟩:=h1 _ (c9 hi);refine⟨⟨⟨k1,?_⟩,k2⟩,k3⟩;by_cases h0:0<i
  ·exact .inr (ank h2 (by omega) hi)
  ·exact .inl h0
theorem aaE{l:List aS}{x:aS} : QD l x=true↔lJ l x:=by
 unfold QD;simp only [Bool.and_eq_true];constructor
 ·rintro ⟨⟨⟨h1,h2⟩,h3⟩,h⟩
  have h1:=cR.1 h1;have h2:=cR.1 h2;have h3:=cR.1 h3;by_cases k1:kindOf x=1
  ·rw [cK (show x.2.1=1 from k1)] at h;simp only [cond_true,Bool.and_eq_true,decide_eq_true_eq] at h;obtain ⟨er,fc,gu⟩:=I5.1 h.1;exact⟨h1,h2,h3,.inl k1,fun _=>⟨er,fc,gu⟩,fun _=>by omega,fun k=>by omega,fun k=>by omega,by rw [gu];simp,by rw [gu];exact List.Pairwise.nil⟩
  ·rw [bY (show ¬x.2.1=1 from k1)] at h;by_cases k3:kindOf x=3
   ·rw [cK (show x.2.1=3 from k3)] at h;simp only [cond_true,cond_false,Bool.and_eq_true,beq_iff_eq] at h;obtain ⟨er,fc,gu⟩:=I5.1 h.1.1;exact⟨h1,h2,h3,.inr (.inr k3),fun _=>⟨er,fc,gu⟩,fun k=>by omega,fun _=>⟨h.1.2,h.2⟩,fun k=>by omega,by rw [gu];simp,by rw [gu];exact List.Pairwise.nil⟩
   ·rw [bY (show ¬x.2.1=3 from k3)] at h;by_cases k2:kindOf x=2
    ·rw [cK (show x.2.1=2 from k2)] at h;simp only [cond_true,cond_false,Bool.and_eq_true,QC,decide_eq_true_eq] at h;obtain ⟨⟨⟨e1,e2⟩,e3⟩,et,kP⟩:=h;obtain ⟨fk,kk⟩:=aaD.1 et;exact⟨h1,h2,h3,.inr (.inl k2),fun k=>absurd k2 k,fun k=>by omega,fun k=>by omega,fun _=>⟨by unfold bw at e1;simpa using e1,cR.1 e2,cR.1 e3,by omega⟩,fk,kk⟩
    ·rw [bY (show ¬x.2.1=2 from k2)] at h;simp at h
 ·intro h;refine⟨⟨⟨cR.2 h.mode,cR.2 h.uid⟩,cR.2 h.gid⟩,?_⟩;rcases h.kind with k | k | k
  ·have k':x.2.1=1:=k;rw [cK k'];simp only [cond_true,Bool.and_eq_true,decide_eq_true_eq];exact⟨I5.2 (h.plain (by omega)),by have:=h.file k;omega⟩
  ·have k':x.2.1=2:=k;rw [bY (show ¬x.2.1=1 from fun h1=>by have:kindOf x=1:=h1;omega),bY (show ¬x.2.1=3 from fun h1=>by have:kindOf x=3:=h1;omega),cK k'];simp only [cond_true,cond_false,Bool.and_eq_true,QC,decide_eq_true_eq];obtain ⟨d1,d2,d3,d4⟩:=h.dir k;exact⟨⟨⟨by rw [d1];rfl,cR.2 d2⟩,cR.2 d3⟩,aaD.2 ⟨h.names,h.sorted⟩,by omega⟩
  ·have k':x.2.1=3:=k;rw [bY (show ¬x.2.1=1 from fun h1=>by have:kindOf x=1:=h1;omega),cK k'];simp only [cond_true,cond_false,Bool.and_eq_true,beq_iff_eq];exact⟨⟨I5.2 (h.plain (by omega)),(h.oe k).1⟩,(h.oe k).2⟩
def gC(v:ah.D):Int:=v.1
def bf(x:aS):Int:=x.1
structure b4(v:ah.D):Prop where
 next:2≤gC v∧gC v≤100000
 len:1≤v.2.1.length∧v.2.1.length≤24
 root:bf (I J v.2.1 0)=1∧kindOf (I J v.2.1 0)=2
 ids:∀i,i<v.2.1.length→1≤bf (I J v.2.1 i)∧bf (I J v.2.1 i)≤gC v-1
 I6:∀i,i+1<v.2.1.length→bf (I J v.2.1 i)<bf (I J v.2.1 (i+1))
 ino:∀i,i<v.2.1.length→lJ v.2.1 (I J v.2.1 i)
 reach:∀i,1≤i→i<v.2.1.length→dY v.2.1 1 (I J v.2.1 i).1
 once:∀i,1≤i→i<v.2.1.length→kindOf (I J v.2.1 i)=2→cA v.2.1 (I J v.2.1 i).1=1
 bytes:bytesOf v.2.1≤400
 over:jA v.2.1=false
theorem QS{l:List aS}(h:∀i,i+1<l.length→bf (I J l i)<bf (I J l (i+1))):iX l:=by
 have bO:∀d j,j+d+1<l.length→bf (I J l j)<bf (I J l (j+d+1)):=by
  intro d
  induction d with
  | zero=>intro j hj;exact h j hj
  | succ d ih=>intro j hj;exact Int.lt_trans (ih j (by omega)) (h (j+d+1) hj)
 intro x hx;unfold bC;rw [iV];refine⟨hx,by simp,fun j hj=>?_⟩;obtain ⟨d,rfl⟩:∃d,x=j+d+1:=⟨x-j-1,by omega⟩
 have:=bO d j hx;rw [beq_eq_false_iff_ne];exact Int.ne_of_lt this
theorem aaF{v:ah.D}(hn:2≤gC v∧gC v≤100000):fo v.2.1.length (IY v)=true↔(∀i,i<v.2.1.length→1≤bf (I J v.2.1 i)∧bf (I J v.2.1 i)≤gC v-1) ∧
  (∀i,i+1<v.2.1.length→bf (I J v.2.1 i)<bf (I J v.2.1 (i+1)))∧∀i,i<v.2.1.length→lJ v.2.1 (I J v.2.1 i):=by
 rw [gZ];unfold IY;rw [show ax (v.1-1)=gC v-1 from cG (a:=gC v-1) (by omega) (by omega)];simp only [Bool.and_eq_true,Bool.not_eq_true',Bool.and_eq_false_iff,decide_eq_false_iff_not];constructor
 ·intro h;refine⟨fun i hi=>cR.1 (h i hi).1.1,fun i hi=>?_,fun i hi=>aaE.1 (h i hi).2⟩;rcases (h (i+1) hi).1.2 with h2 | h2
  ·omega
  ·rw [Nat.add_sub_cancel] at h2;exact Int.not_le.1 h2
 ·rintro ⟨h1,h2,h3⟩ i hi
  refine⟨⟨cR.2 (h1 i hi),?_⟩,aaE.2 (h3 i hi)⟩;by_cases h0:0<i
  ·have:=h2 (i-1) (by omega);rw [show i-1+1=i by omega] at this;exact .inr (Int.not_le.2 this)
  ·exact .inl h0
theorem I7{v:ah.D} : k4 v=true↔b4 v:=by
 unfold k4;simp only [Bool.and_eq_true,beq_iff_eq];constructor
 ·rintro ⟨⟨⟨⟨h1,h2⟩,h3⟩,h4⟩,a7⟩
  have h1:=cR.1 h1;have h2:=cR.1 h2;by_cases a1:fo v.2.1.length (IY v)=true
  case neg=>rw [Bool.not_eq_true] at a1;rw [a1] at a7;cases a7
  rw [a1] at a7;obtain ⟨i1,i2,i3⟩:=(aaF h1).1 a1;have af:=QS i2;by_cases a2:fo (v.2.1.length-1) (B0 v.2.1)=true
  case neg=>rw [Bool.not_eq_true] at a2;rw [a2] at a7;cases a7
  rw [a2] at a7;simp only [cond_true,Bool.and_eq_true,Bool.not_eq_true',decide_eq_true_eq] at a7;have a2:=gZ.1 a2;unfold B0 at a2;simp only [Bool.and_eq_true,Bool.not_eq_true',Bool.and_eq_false_iff,beq_eq_false_iff_ne,bne_eq_false_iff_eq] at a2;refine⟨h1,by omega,⟨h3,h4⟩,i1,i2,i3,fun i hi hl=>?_,fun i hi hl hk=>?_,by omega,a7.2⟩
  ·have:=(a2 (i-1) (by omega)).1;rw [show i-1+1=i by omega] at this;exact(BW v.2.1 af 1 hl).1 this
  ·have:=(a2 (i-1) (by omega)).2;rw [show i-1+1=i by omega] at this;rcases this with h | h
   ·exact absurd hk h
   ·omega
 ·intro h;have af:=QS h.I6;refine⟨⟨⟨⟨cR.2 h.next,cR.2 (by have:=h.len;omega)⟩,h.root.1⟩,h.root.2⟩,?_⟩;rw [(aaF h.next).2 ⟨h.ids,h.I6,h.ino⟩]
  have a2:fo (v.2.1.length-1) (B0 v.2.1)=true:=by
   rw [gZ];unfold B0;simp only [Bool.and_eq_true,Bool.not_eq_true',Bool.and_eq_false_iff,beq_eq_false_iff_ne,bne_eq_false_iff_eq];intro i hi;refine⟨(BW v.2.1 af 1 (by omega)).2 (h.reach (i+1) (by omega) (by omega)),?_⟩;by_cases hk:kindOf (I J v.2.1 (i+1))=2
   ·have:=h.once (i+1) (by omega) (by omega) hk;exact .inr (by rw [this];rfl)
   ·exact .inl hk
  rw [a2];simp only [cond_true,Bool.and_eq_true,Bool.not_eq_true',decide_eq_true_eq];exact⟨by have:=h.bytes;omega,h.over⟩
structure r3(l:List aS):Prop where
 len:l.length≤1048576
 dw:dP l≤1048576
 iY:iX l
 iZ:tQ l
 bare:∀i,i<l.length→kindOf (I J l i)≠2→ay (I J l i)=[]
 oe:∀i,i<l.length→kindOf (I J l i)=3→kD (bX (I J l i))=true
 root:∃i,bC l 1=some i∧kindOf (I J l i)=2
theorem b4.iY{v:ah.D}(h:b4 v):iX v.2.1:=QS h.I6
theorem b4.iZ{v:ah.D}(h:b4 v):tQ v.2.1:=fun i hi d af=>((h.ino i hi).names d af).2.2
def mn(l:List aS)(id:Int):Prop:=∃i,bC l id=some i∧kindOf (I J l i)=2
def cq(r:a8.D):Int:=r.1
def nameOf(r:a8.D):aO:=r.2.1
def bx(r:a8.D):Int:=r.2.2.1
def bN(r:a8.D):Int:=r.2.2.2.1
structure h_(l:List aS)(r:a8.D):Prop where
 there:bN r=0→∃i,bC l (bx r)=some i
 named:bN r=0→nameOf r≠[]→bx r≠0∧ni (nameOf r)=true∧∃d,bC l (cq r)=some d∧kindOf (I J l d)=2∧dR (ay (I J l d)) (nameOf r)=bx r
 bare:bN r=0→nameOf r=[]→mn l (bx r)
 new:bN r=2→nameOf r≠[]→bx r=0∧ni (nameOf r)=true∧∃d,bC l (cq r)=some d∧kindOf (I J l d)=2∧dR (ay (I J l d)) (nameOf r)=0
 rg:0≤bN r∧bN r≤200
theorem anl(l:List aS){c:Int}(h0:c≠0)(a b:Int)(h2:c≠2∨True)(hr:0≤c∧c≤200:=by decide):h_ l ((0:Int),([]:aO),(0:Int),c,()):=
 ⟨fun h=>absurd h h0,fun h=>absurd h h0,fun h=>absurd h h0,fun _ h=>absurd rfl h,hr⟩
def tV(cd:Bool)(l:List aS)(r:a8.D):Prop:=h_ l r∧(cd=true→bN r=0→∀i,bC l (bx r)=some i→kindOf (I J l i)≠3)
theorem zd(cd:Bool)(l:List aS){c:Int}(h0:c≠0)(a b:Int)(h2:c≠2∨True)(hr:0≤c∧c≤200:=by decide):tV cd l ((0:Int),([]:aO),(0:Int),c,()):=⟨anl l h0 a b h2 hr,fun _ h=>absurd h h0⟩
theorem QT{l:List aS}(h:r3 l)(id:Int):mn l (k6 l id):=by
 unfold k6
 cases aw:I1 l id with
 | none=>exact h.root
 | some i=>
  obtain ⟨h1,h2,_⟩:=iV.1 aw;refine⟨i,h.iY i h1,?_⟩;by_cases hk:kindOf (I J l i)=2
  ·exact hk
  ·have:=h.bare i h1 hk;rw [this] at h2;simp [qF,fy] at h2
theorem r4{N:List aJ.D}{s:aO}(h:dR N s≠0):∃d,d∈N∧d.1=s∧d.2.1=dR N s:=by
 unfold dR at h ⊢
 cases hf:fy N.length (r1 N s) with
 | none=>rw [hf] at h;exact absurd rfl h
 | some j=>obtain ⟨h1,h2,_⟩:=iV.1 hf;exact⟨I aJ N j,c9 h1,by unfold r1 bw at h2;simpa using h2,rfl⟩
theorem anm{p:aO}(h:B4 p)(h1:bw p [46]=false)(h2:bw p [46,46]=false)(dg:p.length≤8):ni p=true:=by
 have hl:1≤p.length:=by
  rcases Nat.eq_zero_or_pos p.length with h0 | h0
  ·exact absurd (List.length_eq_zero_iff.1 h0) h.1
  ·exact h0
 unfold ni;rw [h1,h2,gZ.2 (fun i hi=>h.2 i hi),cR.2 ⟨by omega,by omega⟩];rfl
theorem ann{L:List aO}{a c:Nat}(h:0<c)(hl:a+c≤L.length):I ad.str L a∈part L a c:=by
 unfold part;have h1:a<L.length:=by omega
 rw [List.drop_eq_getElem_cons h1,show c=(c-1)+1 by omega,List.take_succ_cons,c2 (t:=.str) h1];exact List.mem_cons_self
theorem ano{L:List aO}{a c:Nat} : ∀p,p∈part L (a+1) (c-1)→p∈part L a c:=by
 intro p aw;unfold part at *;rcases Nat.eq_zero_or_pos c with h | h
 ·subst h;simp at aw
 ·rcases Nat.lt_or_ge a L.length with h1 | h1
  ·rw [List.drop_eq_getElem_cons h1,show c=(c-1)+1 by omega,List.take_succ_cons];exact List.mem_cons_of_mem _ aw
  ·rw [List.drop_of_length_le (by omega)] at aw;simp at aw
theorem QU{s:aO}(h:kD s=true):1≤s.length∧s.length≤60:=by unfold kD at h;rw [Bool.and_eq_true] at h;have:=cR.1 h.2;omega
theorem og(m:Nat)(U aa ae ai aq az aU bn bu):(fw (m+1)).bs U aa ae ai aq az aU bn bu=mh (fw m) U aa ae ai aq az aU bn bu:=rfl
theorem I8(m:Nat)(U aa ae ai aq az aU bn bu ez e_ kY kz):(fw (m+1)).Wy U aa ae ai aq az aU bn bu ez e_ kY kz=yF (fw m) U aa ae ai aq az aU bn bu ez e_ kY kz:=rfl
theorem aaG(m:Nat)(U aa ae ai aq az aU bn bu ez):(fw (m+1)).j9 U aa ae ai aq az aU bn bu ez=G' (fw m) U aa ae ai aq az aU bn bu ez:=rfl
theorem aaH(m:Nat)(U aa ae ai aq az aU bn bu ez e_ kY kz):(fw (m+1)).Bh U aa ae ai aq az aU bn bu ez e_ kY kz=Ha (fw m) U aa ae ai aq az aU bn bu ez e_ kY kz:=rfl
theorem aaI(m:Nat)(U aa ae ai aq az aU bn bu ez):(fw (m+1)).qk U aa ae ai aq az aU bn bu ez=Hb (fw m) U aa ae ai aq az aU bn bu ez:=rfl
theorem nr(x:aS):I J [x] 0=x:=rfl
theorem b3.jump{β : Type}{f g:Nat → β}{B:Nat}(k:Nat){y : β}(h:b3 g B y)(hf:∀m,f (m+k)=g m):b3 f (B+k) y:=by
 intro m hm;obtain ⟨j,rfl⟩:∃j,m=j+k:=⟨m-k,by omega⟩
 rw [hf];exact h j (by omega)
theorem b3.now{β : Type}{f:Nat → β}(k:Nat){y : β}(hf:∀m,f (m+k)=y):b3 f k y:=by
 intro m hm;obtain ⟨j,rfl⟩:∃j,m=j+k:=⟨m-k,by omega⟩
 exact hf j
theorem anp(v:ah.D)(c:aK.D)(hw:r3 v.2.1)(hc:dQ c=true)(cd:Bool)(z:a8.D):∀(n:Nat) (at_:Int) (k:Nat) (L:List aO) (a b6:Nat),(8-k)*100+b6≤n→k≤8→a+b6≤L.length→b6≤100→(∀p,p∈part L a b6→B4 p)→mn v.2.1 at_ →
  ∃r,tV cd v.2.1 r∧b3 (fun m=>gz m v cd a b6 at_ (k:Int) c z L) (n+2) (some (r,()))∧b3 (fun m=>(fw m).bs cd a b6 at_ (k:Int) v c z L) (5*n+5) (some (r,())):=by
 intro n
 induction n with
 | zero=>
  intro at_ k L a b6 hn hk hl anq aw cC;have h0:b6=0:=by omega
  subst h0;obtain ⟨d,af,gn⟩:=cC;refine⟨((0:Int),([]:aO),at_,(0:Int),()),⟨⟨fun _=>⟨d,af⟩,fun _ h=>absurd rfl h,fun _ _=>⟨d,af,gn⟩,fun _ h=>absurd rfl h,show(0:Int)≤0∧(0:Int)≤200 from by decide⟩,fun _ _ e he=>by rw [show bx (((0:Int),([]:aO),at_,(0:Int),()):a8.D)=at_ from rfl,af] at he;rw [← aW he,gn];decide⟩,(b3.now 1 fun m=>?_).mono (by omega),(b3.now 1 fun m=>?_).mono (by omega)⟩
  ·simp only [gz,mf];rfl
  ·rw [og];unfold mh;rfl
 | succ n ih=>
  intro at_ k L a b6 hn hk hl anq aw cC;rcases Nat.eq_zero_or_pos b6 with h0 | h0
  ·subst h0;obtain ⟨d,af,gn⟩:=cC;refine⟨((0:Int),([]:aO),at_,(0:Int),()),⟨⟨fun _=>⟨d,af⟩,fun _ h=>absurd rfl h,fun _ _=>⟨d,af,gn⟩,fun _ h=>absurd rfl h,show(0:Int)≤0∧(0:Int)≤200 from by decide⟩,fun _ _ e he=>by rw [show bx (((0:Int),([]:aO),at_,(0:Int),()):a8.D)=at_ from rfl,af] at he;rw [← aW he,gn];decide⟩,(b3.now 1 fun m=>?_).mono (by omega),(b3.now 1 fun m=>?_).mono (by omega)⟩
   ·simp only [gz,mf];rfl
   ·rw [og];unfold mh;rfl
  obtain ⟨d,af,gn⟩:=cC;have hdl:=b9 af;have iA:(ay (I J v.2.1 d)).length≤1048576:=Nat.le_trans (gA hdl.1) hw.dw;have nY:=aw _ (ann h0 hl);have gh:∀p,p∈part L (a+1) (b6-1)→B4 p:=fun p h=>aw p (ano p h)
  have fz:ix b6 0=some 0:=br (i:=0) h0;have gL:dh b6 1 (b6:Int)=some (1,b6):=jd (lo:=1) h0 (Nat.le_refl _);have gG:decide ((b6:Int)>0)=true:=decide_eq_true (by omega);have ia:=od v at_ hw.len af;have oh:=B1 c (I J v.2.1 d) 1 hc;have qG:=qD c (I J v.2.1 d) 1 hc;have anr:=am4 v at_ hw.len hw.dw;have ans:=aap v at_ hw.len hw.dw;have qH:m7 (v,at_,())=some ((d:Int),()):=by rw [qy v at_ hw.len,af];rfl
  have qI:ix v.2.1.length (d:Int)=some d:=br hdl.1;have tW:=aao (I J v.2.1 d) (I ad.str L a) iA;have ze:=am3 v at_ (I ad.str L a) hw.len af iA
  cases hm:may c (I J v.2.1 d) 1 with
  | false=>
   refine⟨((0:Int),([]:aO),(0:Int),(13:Int),()),zd cd _ (by decide) 0 0 (.inr trivial),(b3.now 1 fun m=>?_).mono (by omega),(b3.now 1 fun m=>?_).mono (by omega)⟩
   ·rw [gz,mf];simp -index only [gG,fz,gL,ia,nr,oh,hm,cond_true,cond_false,al,Bool.not_true,Bool.not_false,List.isEmpty_cons]
   ·rw [og];unfold mh;simp only [gG,fz,gL,qH,qI,qG,hm,cond_true,cond_false,al,Bool.not_true,Bool.not_false]
  | true=>
  cases h1:bw (I ad.str L a) [46] with
  | true=>
   obtain ⟨r,bE,cp,gi⟩:=ih at_ k L (a+1) (b6-1) (by omega) hk (by omega) (by omega) gh ⟨d,af,gn⟩;refine⟨r,bE,(cp.jump (f:=fun m=>gz m v cd a b6 at_ (k:Int) c z L) 1 fun m=>?_).mono (by omega),(gi.jump (f:=fun m=>(fw m).bs cd a b6 at_ (k:Int) v c z L) 1 fun m=>?_).mono (by omega)⟩
   ·rw [gz,mf];simp -index only [gG,fz,gL,ia,nr,oh,hm,h1,cond_true,cond_false,al,Bool.not_true,Bool.not_false,List.isEmpty_cons,Nat.add_zero]
   ·rw [og];unfold mh;simp only [gG,fz,gL,qH,qI,qG,hm,h1,cond_true,cond_false,al,Bool.not_true,Bool.not_false,Nat.add_zero]
  | false=>
  cases h2:bw (I ad.str L a) [46,46] with
  | true=>
   obtain ⟨r,bE,cp,gi⟩:=ih (k6 v.2.1 at_) k L (a+1) (b6-1) (by omega) hk (by omega) (by omega) gh (QT hw _);refine⟨r,bE,(cp.jump (f:=fun m=>gz m v cd a b6 at_ (k:Int) c z L) 1 fun m=>?_).mono (by omega),(gi.jump (f:=fun m=>(fw m).bs cd a b6 at_ (k:Int) v c z L) 1 fun m=>?_).mono (by omega)⟩
   ·rw [gz,mf];simp -index only [gG,fz,gL,ia,nr,oh,hm,h1,h2,anr,cond_true,cond_false,al,Bool.not_true,Bool.not_false,List.isEmpty_cons,Nat.add_zero]
   ·rw [og];unfold mh;simp only [gG,fz,gL,qH,qI,qG,hm,h1,h2,ans,cond_true,cond_false,al,Bool.not_true,Bool.not_false,Nat.add_zero]
  | false=>
  cases dg:decide (((I ad.str L a).length:Int)>8) with
  | true=>
   refine⟨((0:Int),([]:aO),(0:Int),(36:Int),()),zd cd _ (by decide) 0 0 (.inr trivial),(b3.now 1 fun m=>?_).mono (by omega),(b3.now 1 fun m=>?_).mono (by omega)⟩
   ·rw [gz,mf];simp -index only [gG,fz,gL,ia,nr,oh,hm,h1,h2,dg,cond_true,cond_false,al,Bool.not_true,Bool.not_false,List.isEmpty_cons,Nat.add_zero]
   ·rw [og];unfold mh;simp only [gG,fz,gL,qH,qI,qG,hm,h1,h2,dg,cond_true,cond_false,al,Bool.not_true,Bool.not_false,Nat.add_zero]
  | false=>
  have ju:ni (I ad.str L a)=true:=anm nY h1 h2 (by
   have:=of_decide_eq_false dg;have h:¬((I ad.str L a).length:Int)>8:=this
   omega)
  cases jy:dR (ay (I J v.2.1 d)) (I ad.str L a)==0 with
  | true=>
   cases ib:((b6-1:Nat):Int)==0 with
   | true=>
    refine⟨(at_,I ad.str L a,(0:Int),(2:Int),()),⟨⟨fun h=>(by cases h),fun h=>(by cases h),fun h=>(by cases h),fun _ _=>⟨rfl,ju,d,af,gn,beq_iff_eq.1 jy⟩,show(0:Int)≤2∧(2:Int)≤200 from by decide⟩,fun _ h=>(by cases h)⟩,(b3.now 1 fun m=>?_).mono (by omega),(b3.now 1 fun m=>?_).mono (by omega)⟩
    ·rw [gz,mf];simp -index only [gG,fz,gL,ia,nr,oh,hm,h1,h2,dg,tW,jy,ib,cond_true,cond_false,al,Bool.not_true,Bool.not_false,List.isEmpty_cons,Nat.add_zero]
    ·rw [og];unfold mh;simp only [gG,fz,gL,qH,qI,qG,hm,h1,h2,dg,ze,jy,ib,cond_true,cond_false,al,Bool.not_true,Bool.not_false,Nat.add_zero]
   | false=>
    refine⟨((0:Int),([]:aO),(0:Int),(2:Int),()),⟨⟨fun h=>(by cases h),fun h=>(by cases h),fun h=>(by cases h),fun _ h=>absurd rfl h,show(0:Int)≤2∧(2:Int)≤200 from by decide⟩,fun _ h=>(by cases h)⟩,(b3.now 1 fun m=>?_).mono (by omega),(b3.now 1 fun m=>?_).mono (by omega)⟩
    ·rw [gz,mf];simp -index only [gG,fz,gL,ia,nr,oh,hm,h1,h2,dg,tW,jy,ib,cond_true,cond_false,al,Bool.not_true,Bool.not_false,List.isEmpty_cons,Nat.add_zero]
    ·rw [og];unfold mh;simp only [gG,fz,gL,qH,qI,qG,hm,h1,h2,dg,ze,jy,ib,cond_true,cond_false,al,Bool.not_true,Bool.not_false,Nat.add_zero]
  | false=>
  obtain ⟨e,he,aaJ,ri⟩:=r4 (N:=ay (I J v.2.1 d)) (s:=I ad.str L a) (by simpa using jy);obtain ⟨i2,gw⟩:=Option.isSome_iff_exists.1 (hw.iZ d hdl.1 e he);rw [ri] at gw;have w1:=b9 gw;have zf:=od v _ hw.len gw;have I9:m7 (v,dR (ay (I J v.2.1 d)) (I ad.str L a),())=some ((i2:Int),()):=by rw [qy v _ hw.len,gw];rfl
  have I_:ix v.2.1.length (i2:Int)=some i2:=br w1.1
  have aaK:((I J v.2.1 i2).2.1==3)=true→(!(((b6-1:Nat):Int)==0)||cd)=true→∃r,tV cd v.2.1 r∧b3 (fun m=>gz m v cd a b6 at_ (k:Int) c z L) (n+1+2) (some (r,()))∧b3 (fun m=>(fw m).bs cd a b6 at_ (k:Int) v c z L) (5*(n+1)+5) (some (r,())):=by
   intro jT mo;have aaL:=hw.oe i2 w1.1 (beq_iff_eq.1 jT);have zg:=QU aaL;have zh:ix ((I J v.2.1 i2).2.2.2.2.2.1).length 0=some 0:=br (i:=0) zg.1;have I':tg ((I J v.2.1 i2).2.2.2.2.2.1,())=some (cut (bX (I J v.2.1 i2)),()):=aay _ (Nat.le_trans zg.2 (by omega));have aaM:Bg ((I J v.2.1 i2).2.2.2.2.2.1,())=some (cut (bX (I J v.2.1 i2)),()):=aau _ (Nat.le_trans zg.2 (by omega));have hcl:=aaz (bX (I J v.2.1 i2));have gl:(part L (a+1) (b6-1)).length≤100:=by unfold part;rw [List.length_take];omega
   have hroom:room ((cut (bX (I J v.2.1 i2))).length +(part L (a+1) (b6-1)).length)=true:=b_ (by omega);have jo:=aaA aaL;generalize w2:cut (bX (I J v.2.1 i2))++part L (a+1) (b6-1)=k7 at *
   have ant:∀p,p∈k7→B4 p:=by
    intro p jm;rw [← w2] at jm;rcases List.mem_append.1 jm with h | h
    ·exact jo p h
    ·exact gh p h
   obtain ⟨at',anu,r5,r6⟩:∃at',mn v.2.1 at'∧(∀m,gz (m+1) v cd a b6 at_ (k:Int) c z L=cond ((k:Int)==8) (some (((0:Int),([]:aO),(0:Int),(40:Int),()),()))
      (cond (decide ((k7.length:Int)>40)) (some (((0:Int),([]:aO),(0:Int),(36:Int),()),())) (gz m v cd 0 k7.length at' (ax ((k:Int)+1)) c z k7))) ∧
     ∀m,(fw (m+4)).bs cd a b6 at_ (k:Int) v c z L=cond (decide (ax ((k:Int)+1)>8)) (some (((0:Int),([]:aO),(0:Int),(40:Int),()),()))
      (cond (decide ((k7.length:Int)>40)) (some (((0:Int),([]:aO),(0:Int),(36:Int),()),())) ((fw m).bs cd 0 k7.length at' (ax ((k:Int)+1)) v c z k7)):=by
    cases hb:((((I J v.2.1 i2).2.2.2.2.2.1).getD 0 0).toNat:Int)==47 with
    | false=>
     refine⟨at_,⟨d,af,gn⟩,fun m=>?_,fun m=>?_⟩
     ·rw [gz,mf]
      cases ib:((b6-1:Nat):Int)==0 with
      | false=>simp -index only [gG,fz,gL,ia,nr,oh,hm,h1,h2,dg,tW,jy,zf,jT,ib,zh,hb,I',hroom,w2,V0,cond_true,cond_false,al,Bool.not_true,Bool.not_false,List.isEmpty_cons,Nat.add_zero]
      | true=>rw [ib] at mo;have mo:cd=true:=mo;simp -index only [gG,fz,gL,ia,nr,oh,hm,h1,h2,dg,tW,jy,zf,jT,ib,mo,zh,hb,I',hroom,w2,V2,cond_true,cond_false,al,Bool.not_true,Bool.not_false,List.isEmpty_cons,Nat.add_zero]
     ·rw [og];unfold mh;simp only [gG,fz,gL,qH,qI,qG,hm,h1,h2,dg,ze,jy,o9,I9,I_,cond_true,cond_false,al,Bool.not_true,Bool.not_false,Nat.add_zero];rw [I8];unfold yF;have:(cond (!(((b6-1:Nat):Int)==0)) ((fw (m+2)).j9 cd (a+1) (b6-1) at_ (k:Int) v c z L (I J v.2.1 i2)) (cond cd ((fw (m+2)).j9 cd (a+1) (b6-1) at_ (k:Int) v c z L (I J v.2.1 i2)) ((fw (m+2)).Bh cd (a+1) (b6-1) at_ (k:Int) (I ad.str L a) (((b6-1:Nat):Int)==0) (dR (ay (I J v.2.1 d)) (I ad.str L a)) v c z L (I J v.2.1 i2))))=(fw (m+2)).j9 cd (a+1) (b6-1) at_ (k:Int) v c z L (I J v.2.1 i2):=by revert mo;cases ((b6-1:Nat):Int)==0 <;> cases cd <;> intro mo <;> first | rfl | cases mo
      rw [jT];simp only [cond_true];refine this.trans ?_;rw [aaG];unfold G';rw [zh];simp only [al,hb,cond_false];rw [aaI];unfold Hb;rw [aaM];simp only [al,hroom,cond_true,w2]
    | true=>
     refine⟨1,hw.root,fun m=>?_,fun m=>?_⟩
     ·rw [gz,mf]
      cases ib:((b6-1:Nat):Int)==0 with
      | false=>simp -index only [gG,fz,gL,ia,nr,oh,hm,h1,h2,dg,tW,jy,zf,jT,ib,zh,hb,I',hroom,w2,VZ,cond_true,cond_false,al,Bool.not_true,Bool.not_false,List.isEmpty_cons,Nat.add_zero]
      | true=>rw [ib] at mo;have mo:cd=true:=mo;simp -index only [gG,fz,gL,ia,nr,oh,hm,h1,h2,dg,tW,jy,zf,jT,ib,mo,zh,hb,I',hroom,w2,V1,cond_true,cond_false,al,Bool.not_true,Bool.not_false,List.isEmpty_cons,Nat.add_zero]
     ·rw [og];unfold mh;simp only [gG,fz,gL,qH,qI,qG,hm,h1,h2,dg,ze,jy,o9,I9,I_,cond_true,cond_false,al,Bool.not_true,Bool.not_false,Nat.add_zero];rw [I8];unfold yF;have:(cond (!(((b6-1:Nat):Int)==0)) ((fw (m+2)).j9 cd (a+1) (b6-1) at_ (k:Int) v c z L (I J v.2.1 i2)) (cond cd ((fw (m+2)).j9 cd (a+1) (b6-1) at_ (k:Int) v c z L (I J v.2.1 i2)) ((fw (m+2)).Bh cd (a+1) (b6-1) at_ (k:Int) (I ad.str L a) (((b6-1:Nat):Int)==0) (dR (ay (I J v.2.1 d)) (I ad.str L a)) v c z L (I J v.2.1 i2))))=(fw (m+2)).j9 cd (a+1) (b6-1) at_ (k:Int) v c z L (I J v.2.1 i2):=by revert mo;cases ((b6-1:Nat):Int)==0 <;> cases cd <;> intro mo <;> first | rfl | cases mo
      rw [jT];simp only [cond_true];refine this.trans ?_;rw [aaG];unfold G';rw [zh];simp only [al,hb,cond_true];rw [aaI];unfold Hb;rw [aaM];simp only [al,hroom,cond_true,w2]
   have cE:ax ((k:Int)+1)=((k+1:Nat):Int):=dA k (by omega);rw [cE] at r5 r6;rcases Nat.lt_or_ge k 8 with anv | anv
   ·rw [show((k:Int)==8)=false by simp;omega] at r5;rw [show decide (((k+1:Nat):Int)>8)=false from decide_eq_false (by omega)] at r6;simp only [cond_false] at r5 r6
    cases Ja:decide ((k7.length:Int)>40) with
    | true=>rw [Ja] at r5 r6;refine⟨((0:Int),([]:aO),(0:Int),(36:Int),()),zd cd _ (by decide) 0 0 (.inr trivial),(b3.now 1 fun m=>r5 m).mono (by omega),(b3.now 4 fun m=>r6 m).mono (by omega)⟩
    | false=>rw [Ja] at r5 r6;have Ja:=of_decide_eq_false Ja;obtain ⟨r,bE,cp,gi⟩:=ih at' (k+1) k7 0 k7.length (by omega) (by omega) (by omega) (by omega) (by rw [aaN];exact ant) anu;exact⟨r,bE,(cp.jump (f:=fun m=>gz m v cd a b6 at_ (k:Int) c z L) 1 fun m=>r5 m).mono (by omega),(gi.jump (f:=fun m=>(fw m).bs cd a b6 at_ (k:Int) v c z L) 4 fun m=>r6 m).mono (by omega)⟩
   ·rw [show((k:Int)==8)=true by simp;omega] at r5;rw [show decide (((k+1:Nat):Int)>8)=true from decide_eq_true (by omega)] at r6;refine⟨((0:Int),([]:aO),(0:Int),(40:Int),()),zd cd _ (by decide) 0 0 (.inr trivial),(b3.now 1 fun m=>r5 m).mono (by omega),(b3.now 4 fun m=>r6 m).mono (by omega)⟩
  have bS:(cd=true→kindOf (I J v.2.1 i2)≠3)→(∀m,gz (m+1) v cd a b6 at_ (k:Int) c z L=cond (((b6-1:Nat):Int)==0) (some ((at_,I ad.str L a,dR (ay (I J v.2.1 d)) (I ad.str L a),(0:Int),()),()))
     (cond ((I J v.2.1 i2).2.1 != 2) (some (((0:Int),([]:aO),(0:Int),(20:Int),()),())) (gz m v cd (a+1) (b6-1) (dR (ay (I J v.2.1 d)) (I ad.str L a)) (k:Int) c z L))) →
    (∀m,(fw (m+3)).bs cd a b6 at_ (k:Int) v c z L=cond (((b6-1:Nat):Int)==0) (some ((at_,I ad.str L a,dR (ay (I J v.2.1 d)) (I ad.str L a),(0:Int),()),()))
     (cond ((I J v.2.1 i2).2.1 != 2) (some (((0:Int),([]:aO),(0:Int),(20:Int),()),())) ((fw m).bs cd (a+1) (b6-1) (dR (ay (I J v.2.1 d)) (I ad.str L a)) (k:Int) v c z L))) →
    ∃r,tV cd v.2.1 r∧b3 (fun m=>gz m v cd a b6 at_ (k:Int) c z L) (n+1+2) (some (r,()))∧b3 (fun m=>(fw m).bs cd a b6 at_ (k:Int) v c z L) (5*(n+1)+5) (some (r,())):=by
   intro hnl g1 g2
   cases ib:((b6-1:Nat):Int)==0 with
   | true=>
    refine⟨(at_,I ad.str L a,dR (ay (I J v.2.1 d)) (I ad.str L a),(0:Int),()),⟨⟨fun _=>⟨i2,gw⟩,fun _ _=>⟨beq_eq_false_iff_ne.1 jy,ju,d,af,gn,rfl⟩,fun _ h=>absurd h nY.1,fun h=>(by cases h),show(0:Int)≤0∧(0:Int)≤200 from by decide⟩,fun hf _ e he=>by rw [show bx ((at_,I ad.str L a,dR (ay (I J v.2.1 d)) (I ad.str L a),(0:Int),()):a8.D)=dR (ay (I J v.2.1 d)) (I ad.str L a) from rfl,gw] at he;rw [← aW he];exact hnl hf⟩,(b3.now 1 fun m=>?_).mono (by omega),(b3.now 3 fun m=>?_).mono (by omega)⟩
    ·rw [g1,ib];rfl
    ·rw [g2,ib];rfl
   | false=>
    rw [ib] at g1 g2;simp only [cond_false] at g1 g2;by_cases hk2:kindOf (I J v.2.1 i2)=2
    ·obtain ⟨r,bE,cp,gi⟩:=ih (dR (ay (I J v.2.1 d)) (I ad.str L a)) k L (a+1) (b6-1) (by omega) hk (by omega) (by omega) gh ⟨i2,gw,hk2⟩;refine⟨r,bE,(cp.jump (f:=fun m=>gz m v cd a b6 at_ (k:Int) c z L) 1 fun m=>?_).mono (by omega),(gi.jump (f:=fun m=>(fw m).bs cd a b6 at_ (k:Int) v c z L) 3 fun m=>?_).mono (by omega)⟩
     ·rw [g1,ek (show(I J v.2.1 i2).2.1=2 from hk2)];rfl
     ·rw [g2,ek (show(I J v.2.1 i2).2.1=2 from hk2)];rfl
    ·refine⟨((0:Int),([]:aO),(0:Int),(20:Int),()),zd cd _ (by decide) 0 0 (.inr trivial),(b3.now 1 fun m=>?_).mono (by omega),(b3.now 3 fun m=>?_).mono (by omega)⟩
     ·rw [g1,dq (show ¬(I J v.2.1 i2).2.1=2 from hk2)];rfl
     ·rw [g2,dq (show ¬(I J v.2.1 i2).2.1=2 from hk2)];rfl
  cases jT:(I J v.2.1 i2).2.1==3 with
  | true=>
   cases ib:((b6-1:Nat):Int)==0 with
   | false=>exact aaK jT (by rw [ib];rfl)
   | true=>
    cases cd with
    | true=>exact aaK jT (by rw [ib];rfl)
    | false=>
     refine bS (fun h=>by cases h) (fun m=>?_) (fun m=>?_)
     ·rw [gz,mf];simp -index only [gG,fz,gL,ia,nr,oh,hm,h1,h2,dg,tW,jy,zf,jT,ib,cond_true,cond_false,al,Bool.not_true,Bool.not_false,List.isEmpty_cons,Nat.add_zero]
     ·rw [og];unfold mh;simp only [gG,fz,gL,qH,qI,qG,hm,h1,h2,dg,ze,jy,o9,I9,I_,ib,cond_true,cond_false,al,Bool.not_true,Bool.not_false,Nat.add_zero];rw [I8];unfold yF;simp only [jT,cond_true,cond_false,Bool.not_true,Bool.not_false];rw [aaH];unfold Ha;rfl
  | false=>
   refine bS (fun _=>beq_eq_false_iff_ne.1 jT) (fun m=>?_) (fun m=>?_)
   ·rw [gz,mf];simp -index only [gG,fz,gL,ia,nr,oh,hm,h1,h2,dg,tW,jy,zf,jT,cond_true,cond_false,al,Bool.not_true,Bool.not_false,List.isEmpty_cons,Nat.add_zero]
   ·rw [og];unfold mh;simp only [gG,fz,gL,qH,qI,qG,hm,h1,h2,dg,ze,jy,o9,I9,I_,cond_true,cond_false,al,Bool.not_true,Bool.not_false,Nat.add_zero];rw [I8];unfold yF;simp only [jT,cond_true,cond_false];rw [aaH];unfold Ha;rfl
theorem aaO(v:ah.D)(c:aK.D)(path:aO)(cd:Bool)(hw:r3 v.2.1)(hc:dQ c=true)(aw:tT path=true) :
  ∃r,tV cd v.2.1 r∧Nh (v,c,path,cd,())=some (r,())∧Hc (v,c,path,cd,())=some (r,()):=by
 unfold tT at aw;rw [Bool.and_eq_true] at aw;have zg:=QU aw.1;have hcl:=aaz path;obtain ⟨r,bE,cp,gi⟩:=anp v c hw hc cd ((0:Int),([]:aO),(0:Int),(0:Int),()) 900 1 0 (cut path) 0 (cut path).length (by omega) (by omega) (by omega) (by omega) (by rw [aaN];exact aaA aw.1) hw.root;refine⟨r,bE,?_,?_⟩
 ·show Ft (gz aM) v c path cd=_;unfold Ft;rw [aay path (by omega)];exact lH cp (by omega)
 ·show G_ (fw aM) v c path cd=_;unfold G_;rw [aau path (by omega)];exact lH gi (by omega)
end Go.LM.j7
