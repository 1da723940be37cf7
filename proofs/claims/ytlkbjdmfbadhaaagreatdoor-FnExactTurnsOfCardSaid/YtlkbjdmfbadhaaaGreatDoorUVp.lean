/- The verifier's own functions as plain laws; loops as recursion. Conditions: each theorem's own hypotheses. -/
import Derived.Test.YtlkbjdmfbadhaaaGreatDoorULmd
import Derived.Test.YtlkbjdmfbadhaaaGreatDoorUVa
set_option linter.unusedVariables false
set_option linter.unusedSimpArgs false
namespace Go.LM
theorem hP:aM=18446744073709551616:=by unfold aM;rfl
theorem b1{i n:Nat}(h:i<n):decide ((i:Int)<(n:Int))=true:=by simp;omega
theorem cw{i n:Nat}(h:n≤i):decide ((i:Int)<(n:Int))=false:=by simp;omega
theorem xc{p:Prop}[Decidable p](h:¬p):decide p=false:=by simp [h]
theorem ab_{p:Prop}[Decidable p](h:p):decide p=true:=by simp [h]
theorem fuel{k m:Nat}(h:k<m):∃q,m=q+1∧k≤q:=⟨m-1,by omega,by omega⟩
mutual
def ad.cost:(t:ad)→t.D→Nat
 | .raw,_=>0
 | .int _,_=>0
 | .bool,_=>0
 | .str,x=>List.length x
 | .sl t,xs=>List.length xs +(xs.map fun y=>t.cost y).sum
 | .st ak,x=>ak.cost x
def aA.cost:(ak:aA)→ak.D→Nat
 | .nil,_=>0
 | .cons t ak,x=>t.cost x.1+ak.cost x.2
end
mutual
def ad.wt:(t:ad)→t.D→Nat
 | .raw,_=>1
 | .int _,_=>1
 | .bool,_=>1
 | .str,_=>1
 | .sl t,xs=>(xs.map fun y=>t.wt y).sum
 | .st ak,x=>ak.wt x
def aA.wt:(ak:aA)→ak.D→Nat
 | .nil,_=>0
 | .cons t ak,x=>t.wt x.1+ak.wt x.2
end
theorem JF{α : Type}{f : α → Nat}{y : α} : ∀ {l:List α},y∈l→f y≤(l.map f).sum
 | x :: l,h=>by
  rcases List.mem_cons.1 h with rfl | h
  ·simp
  ·have:=JF (f:=f) h;simp;omega
theorem zA{t:ad}(l:List t.D):l.length≤ad.cost (.sl t) l:=by simp only [ad.cost];omega
theorem ab'{t:ad}{l:List t.D}{i:Nat}(h:i<l.length):I t l i∈l:=by rw [qV h];exact List.getElem_mem h
theorem JG{t:ad}{l:List t.D}{i:Nat}(h:i<l.length):l.length+t.cost (I t l i)≤ad.cost (.sl t) l:=by simp only [ad.cost];have:=JF (f:=fun y=>t.cost y) (ab' h);omega
theorem drop_cons{t:ad}{l:List t.D}{i:Nat}(h:i<l.length):l.drop i=I t l i :: l.drop (i+1):=by rw [qV h];exact List.drop_eq_getElem_cons h
def sd(c:Nat)(n:Int):Int:=if(c:Int)≤n then n-c else -1
theorem JH{c:Nat}{n:Int}(h:(c:Int)≤n):sd c n=n-c:=if_pos h
theorem CA{c:Nat}{n:Int}(h:¬(c:Int)≤n):sd c n = -1:=if_neg h
theorem aq1{t:ad}(l:List t.D)(L:Nat→Int→Int→Option (Int×Unit))(hl:l.length≤1048576)
  (h0:∀m n,L (m+1) n (l.length:Int)=some (n,()))
  (hs:∀m n (i:Nat),i<l.length→0≤n→n≤1048576→L (m+1) n (i:Int)=cond (decide (sd (t.cost (I t l i)) n<0)) (some (-1,())) (L m (sd (t.cost (I t l i)) n) ((i:Int)+1))) :
  ∀(r i m:Nat) (n:Int),i+r=l.length→r<m→0≤n→n≤1048576→L m n (i:Int)=some (sd ((l.drop i).map fun y=>t.cost y).sum n,()):=by
 intro r
 induction r with
 | zero=>
  intro i m n hi hm h1 h2;obtain ⟨m,rfl,_⟩:=fuel hm;have:i=l.length:=by omega
  subst this;rw [h0,List.drop_of_length_le (by omega)];rw [JH (by simpa using h1)];simp
 | succ r ih=>
  intro i m n hi hm h1 h2;obtain ⟨m,rfl,hq⟩:=fuel hm;have bO:i<l.length:=by omega
  rw [hs m n i bO h1 h2,drop_cons bO];simp only [List.map_cons,List.sum_cons];by_cases hc:((t.cost (I t l i):Nat):Int)≤n
  ·rw [JH hc,xc (by omega)];have:=ih (i+1) m (n-(t.cost (I t l i):Nat)) (by omega) (by omega) (by omega) (by omega);simp only [Int.natCast_add,Int.cast_ofNat_Int] at this;simp only [cond_false];rw [this];unfold sd;by_cases af:((((l.drop (i+1)).map fun y=>t.cost y).sum:Nat):Int)≤n-(t.cost (I t l i):Nat)
   ·rw [if_pos af,if_pos (by omega)];congr 1;congr 1;omega
   ·rw [if_neg af,if_neg (by omega)]
  ·rw [CA hc,CA (by omega)];rfl
theorem aq2{t:ad}(l:List t.D)(L:Nat→Int→List t.D→Option (List t.D×Unit))
  (h0:∀m x,L (m+1) (l.length:Int) x=some (x,()))
  (hs:∀m (i:Nat) x,i<l.length→x.length=l.length→L (m+1) (i:Int) x=L m ((i:Int)+1) (x.set i (I t l i))) :
  ∀(r i m:Nat) (x:List t.D),i+r=l.length→r<m→x.length=l.length→x.take i=l.take i→L m (i:Int) x=some (l,()):=by
 intro r
 induction r with
 | zero=>
  intro i m x hi hm hx ht;obtain ⟨m,rfl,_⟩:=fuel hm;have:i=l.length:=by omega
  subst this;rw [h0];rw [List.take_of_length_le (by omega),List.take_of_length_le (by omega)] at ht;rw [ht]
 | succ r ih=>
  intro i m x hi hm hx ht;obtain ⟨m,rfl,hq⟩:=fuel hm;have bO:i<l.length:=by omega
  rw [hs m i x bO hx]
  have:=ih (i+1) m (x.set i (I t l i)) (by omega) (by omega) (by simpa using hx) (by
   rw [qV bO,List.take_succ_eq_append_getElem bO,← ht,List.take_succ_eq_append_getElem (by simpa using hx ▸ bO),List.take_set_of_le (by omega)]
   simp)
  simpa only [Int.natCast_add,Int.cast_ofNat_Int] using this
theorem aca(n:Nat)(L:Nat→Int→Option (Bool×Unit))
  (h0:∀m,L (m+1) (n:Int)=some (true,()))
  (hs:∀m (i:Nat),i<n→L (m+1) (i:Int)=L m ((i:Int)+1)) :
  ∀(r i m:Nat),i+r=n→r<m→L m (i:Int)=some (true,()):=by
 intro r
 induction r with
 | zero=>
  intro i m hi hm;obtain ⟨m,rfl,_⟩:=fuel hm;have:i=n:=by omega
  subst this;exact h0 m
 | succ r ih=>intro i m hi hm;obtain ⟨m,rfl,hq⟩:=fuel hm;rw [hs m i (by omega)];have:=ih (i+1) m (by omega) (by omega);simpa only [Int.natCast_add,Int.cast_ofNat_Int] using this
def uf{α : Type}(M : α → Int→Int→Prop):List α → Int→Int→Prop
 | [],k,k'=>k'=k
 | y :: ys,k,k'=>∃j,M y k j∧uf M ys j k'
mutual
def ad.ed(mt:Int→List UInt8):(t:ad)→t.D→Int→Int→Prop
 | .raw,_,k,k'=>k'=k+1
 | .int _,y,k,k'=>y=k∧k'=k+1
 | .bool,y,k,k'=>y=(Int.tmod k 3==0)∧k'=k+1
 | .str,y,k,k'=>y=mt k∧k'=k+1
 | .sl t,y,k,k'=>List.length y≤1099511627776∧uf (fun y k k'=>t.ed mt y k k') y k k'
 | .st ak,y,k,k'=>ak.ed mt y k k'
def aA.ed(mt:Int→List UInt8):(ak:aA)→ak.D→Int→Int→Prop
 | .nil,_,k,k'=>k'=k
 | .cons t ak,y,k,k'=>∃j,t.ed mt y.1 k j∧ak.ed mt y.2 j k'
end
theorem RS{α : Type}{M : α → Int→Int→Prop}(jN:∀y k k',M y k k'→k≤k'):∀ {l:List α} {k k':Int},uf M l k k'→k≤k'
 | [],k,k',h=>by simp only [uf] at h;omega
 | y :: ys,k,k',h=>by obtain ⟨j,h1,h2⟩:=h;have:=jN y k j h1;have:=RS jN h2;omega
mutual
theorem ad.pE{mt:Int→List UInt8} : ∀(t:ad) {y:t.D} {k k':Int},t.ed mt y k k'→k≤k'
 | .raw,y,k,k',h=>by simp only [ad.ed] at h;omega
 | .int _,y,k,k',h=>by simp only [ad.ed] at h;omega
 | .bool,y,k,k',h=>by simp only [ad.ed] at h;omega
 | .str,y,k,k',h=>by simp only [ad.ed] at h;omega
 | .sl t,y,k,k',h=>by simp only [ad.ed] at h;exact RS (fun _ _ _ h=>ad.pE t h) h.2
 | .st ak,y,k,k',h=>by simp only [ad.ed] at h;exact aA.pE ak h
theorem aA.pE{mt:Int→List UInt8} : ∀(ak:aA) {y:ak.D} {k k':Int},ak.ed mt y k k'→k≤k'
 | .nil,y,k,k',h=>by simp only [aA.ed] at h;omega
 | .cons t ak,y,k,k',h=>by simp only [aA.ed] at h;obtain ⟨j,h1,h2⟩:=h;have:=ad.pE t h1;have:=aA.pE ak h2;omega
end
theorem acb{mt:Int→List UInt8}{t:ad}(n:Nat)(hn:n≤1099511627776)(L:Nat→Int→Int→List t.D→Option (Int×List t.D×Unit))
  (h0:∀m (k:Int) x,x.length=n→L (m+1) k (n:Int) x=some (k,x,()))
  (hs:∀m (k:Int) (i:Nat) x,i<n→x.length=n→0≤k→k +(t.wt (I t x i):Nat)≤1000000000000000→t.cost (I t x i)≤1099511627776→∃j y,L (m+1) k (i:Int) x=L m j ((i:Int)+1) (x.set i y)∧t.ed mt y k j∧j≤k +(t.wt (I t x i):Nat)) :
  ∀(r i m:Nat) (k:Int) (x:List t.D),i+r=n→r<m→x.length=n→0≤k→k +(((x.drop i).map fun y=>t.wt y).sum:Nat)≤1000000000000000→(∀z,z∈x.drop i→t.cost z≤1099511627776) →
   ∃k' bz,L m k (i:Int) x=some (k',bz,())∧bz.length=n∧bz.take i=x.take i∧uf (fun y k k'=>t.ed mt y k k') (bz.drop i) k k'∧k'≤k +(((x.drop i).map fun y=>t.wt y).sum:Nat):=by
 intro r
 induction r with
 | zero=>
  intro i m k x hi hm hx hk hb hz;obtain ⟨m,rfl,_⟩:=fuel hm;have:i=n:=by omega
  subst this;refine⟨k,x,h0 m k x hx,hx,rfl,?_,by omega⟩;rw [List.drop_of_length_le (by omega)];rfl
 | succ r ih=>
  intro i m k x hi hm hx hk hb hz;obtain ⟨m,rfl,hq⟩:=fuel hm;have bO:i<x.length:=by omega
  rw [drop_cons bO] at hb hz ⊢;simp only [List.map_cons,List.sum_cons] at hb ⊢;obtain ⟨j,y,h1,h2,h4⟩:=hs m k i x (by omega) hx hk (by omega) (hz _ List.mem_cons_self);have h3:=ad.pE t h2;have CB:(x.set i y).drop (i+1)=x.drop (i+1):=by rw [List.drop_set_of_lt (by omega)]
  obtain ⟨k',bz,g1,g2,g3,g4,g5⟩:=ih (i+1) m j (x.set i y) (by omega) (by omega) (by simpa using hx) (by omega) (by rw [CB];omega) (by rw [CB];exact fun z h=>hz z (List.mem_cons_of_mem _ h));rw [CB] at g5;simp only [Int.natCast_add,Int.cast_ofNat_Int] at g1;refine⟨k',bz,h1.trans g1,g2,?_,?_,by omega⟩
  ·have:=congrArg (List.take i) g3;rw [List.take_take,List.take_take,Nat.min_eq_left (by omega),List.take_set_of_le (by omega)] at this;exact this
  ·have RT:i<bz.length:=by omega
   have he:I t bz i=y:=by
    have a7:bz[i]?=(x.set i y)[i]?:=by have:=congrArg (fun l=>l[i]?) g3;simpa [List.getElem?_take] using this
    rw [List.getElem?_set_self (by omega),List.getElem?_eq_getElem RT] at a7;rw [qV RT];exact aW a7
   rw [drop_cons RT,he];exact⟨j,h2,g4⟩
theorem aq3{mt:Int→List UInt8}{t:ad}(x:List t.D)(L:Nat→Int→Int→Option (Int×Unit))
  (h0:∀m k,L (m+1) k (x.length:Int)=some (k,()))
  (hs:∀m k j (i:Nat),i<x.length→0≤k→j≤1000000000000000→t.ed mt (I t x i) k j→L (m+1) k (i:Int)=L m j ((i:Int)+1)) :
  ∀(r i m:Nat) (k k':Int),i+r=x.length→r<m→0≤k→k'≤1000000000000000→uf (fun y k k'=>t.ed mt y k k') (x.drop i) k k'→L m k (i:Int)=some (k',()):=by
 intro r
 induction r with
 | zero=>
  intro i m k k' hi hm hk hb jN;obtain ⟨m,rfl,_⟩:=fuel hm;have:i=x.length:=by omega
  subst this;rw [List.drop_of_length_le (by omega)] at jN;simp only [uf] at jN;rw [h0,jN]
 | succ r ih=>
  intro i m k k' hi hm hk hb jN;obtain ⟨m,rfl,hq⟩:=fuel hm;have bO:i<x.length:=by omega
  rw [drop_cons bO] at jN;obtain ⟨j,h1,h2⟩:=jN;have h3:=ad.pE t h1;have h4:=RS (fun _ _ _ h=>ad.pE t h) h2;rw [hs m k j i bO hk (by omega) h1];have:=ih (i+1) m j k' (by omega) (by omega) (by omega) hb h2;simpa only [Int.natCast_add,Int.cast_ofNat_Int] using this
theorem aq4{t:ad}{ak:aA}{x:(ad.st (.cons t ak)).D}(h:ad.fg (.st (.cons t ak)) x):t.fg x.1:=by simp only [ad.fg,aA.fg] at h;exact h.1
theorem aq5{t:ad}{ak:aA}{x:(ad.st (.cons t ak)).D}(h:ad.fg (.st (.cons t ak)) x):ad.fg (.st ak) x.2:=by simp only [ad.fg,aA.fg] at h ⊢;exact h.2
theorem acd{t:ad}{x:List t.D}(h:ad.fg (.sl t) x):x.length≤9223372036854775807∧∀y,y∈x→t.fg y:=by simp only [ad.fg,maxLen] at h;exact⟨by omega,h.2⟩
theorem aq6{x:List UInt8}(h:ad.fg .str x):x.length≤9223372036854775807:=by simp only [ad.fg,maxLen] at h;omega
theorem r0{t:ad}{x:List t.D} : ad.cost (.sl t) x=x.length +(x.map fun y=>t.cost y).sum:=by simp only [ad.cost]
theorem nj{ak:aA}{x:ak.D} : ad.cost (.st ak) x=ak.cost x:=by simp only [ad.cost]
theorem nk{t:ad}{ak:aA}{x:(aA.cons t ak).D} : aA.cost (.cons t ak) x=t.cost x.1+ak.cost x.2:=by simp only [aA.cost]
theorem nm{x:aA.nil.D} : aA.cost .nil x=0:=by simp only [aA.cost]
theorem nn{k:IntKind}{x:Int} : ad.cost (.int k) x=0:=by simp only [ad.cost]
theorem za{x:Bool} : ad.cost .bool x=0:=by simp only [ad.cost]
theorem qC{x:List UInt8} : ad.cost .str x=x.length:=by simp only [ad.cost]
theorem ace{ak:aA}{x:ak.D} : ad.wt (.st ak) x=ak.wt x:=by simp only [ad.wt]
theorem acf{t:ad}{ak:aA}{x:(aA.cons t ak).D} : aA.wt (.cons t ak) x=t.wt x.1+ak.wt x.2:=by simp only [aA.wt]
theorem acg{x:aA.nil.D} : aA.wt .nil x=0:=by simp only [aA.wt]
theorem ach{k:IntKind}{x:Int} : ad.wt (.int k) x=1:=by simp only [ad.wt]
theorem aci{x:Bool} : ad.wt .bool x=1:=by simp only [ad.wt]
theorem acj{x:List UInt8} : ad.wt .str x=1:=by simp only [ad.wt]
theorem ack{t:ad}{x:List t.D} : ad.wt (.sl t) x=(x.map fun y=>t.wt y).sum:=by simp only [ad.wt]
section
variable{mt:Int→List UInt8}{k k':Int}
theorem RU{ak:aA}{x:ak.D} : ad.ed mt (.st ak) x k k'=ak.ed mt x k k':=by simp only [ad.ed]
theorem RV{t:ad}{ak:aA}{x:(aA.cons t ak).D} : aA.ed mt (.cons t ak) x k k'=∃j,t.ed mt x.1 k j∧ak.ed mt x.2 j k':=by simp only [aA.ed]
theorem RW{x:aA.nil.D} : aA.ed mt .nil x k k'=(k'=k):=by simp only [aA.ed]
theorem RX{i:IntKind}{x:Int} : ad.ed mt (.int i) x k k'=(x=k∧k'=k+1):=by simp only [ad.ed]
theorem RY{x:Bool} : ad.ed mt .bool x k k'=(x=(Int.tmod k 3==0)∧k'=k+1):=by simp only [ad.ed]
theorem RZ{x:List UInt8} : ad.ed mt .str x k k'=(x=mt k∧k'=k+1):=by simp only [ad.ed]
theorem R0{t:ad}{x:List t.D} : ad.ed mt (.sl t) x k k'=(x.length≤1099511627776∧uf (fun y k k'=>t.ed mt y k k') x k k'):=by simp only [ad.ed]
end
mutual
def ad.ja:ad→Nat
 | .sl t=>t.ja
 | .st ak=>ak.ja
 | _=>1
def aA.ja:aA→Nat
 | .nil=>0
 | .cons t ak=>t.ja+ak.ja
end
theorem IX{α : Type}{f g : α → Nat}(M:Nat):∀(l:List α),(∀y,y∈l→f y≤M*(1+g y))→(l.map f).sum≤M*(l.length +(l.map g).sum)
 | [],_=>by simp
 | y :: l,h=>by
  have h1:=h y List.mem_cons_self;have h2:=IX M l fun z hz=>h z (List.mem_cons_of_mem _ hz)
  simp only [List.map_cons,List.sum_cons,List.length_cons];have:M*(l.length+1 +(g y +(l.map g).sum))=M*(1+g y)+M*(l.length +(l.map g).sum):=by rw [← Nat.mul_add];congr 1;omega
  omega
mutual
theorem ad.zB:∀(t:ad) (x:t.D),t.wt x≤t.ja*(1+t.cost x)
 | .raw,x=>by simp only [ad.wt,ad.ja];omega
 | .int _,x=>by simp only [ad.wt,ad.ja];omega
 | .bool,x=>by simp only [ad.wt,ad.ja];omega
 | .str,x=>by simp only [ad.wt,ad.ja];omega
 | .sl t,x=>by
  simp only [ad.wt,ad.ja,ad.cost];have:=IX (f:=fun y=>t.wt y) (g:=fun y=>t.cost y) t.ja x fun y _=>ad.zB t y
  rw [Nat.mul_add];omega
 | .st ak,x=>by simp only [ad.wt,ad.ja,ad.cost];exact aA.zB ak x
theorem aA.zB:∀(ak:aA) (x:ak.D),ak.wt x≤ak.ja*(1+ak.cost x)
 | .nil,x=>by simp only [aA.wt];omega
 | .cons t ak,x=>by simp only [aA.wt,aA.ja,aA.cost];have h1:=ad.zB t x.1;have h2:=aA.zB ak x.2;have h3:t.ja*(1+t.cost x.1)≤t.ja*(1 +(t.cost x.1+ak.cost x.2)):=Nat.mul_le_mul_left _ (by omega);have h4:ak.ja*(1+ak.cost x.2)≤ak.ja*(1 +(t.cost x.1+ak.cost x.2)):=Nat.mul_le_mul_left _ (by omega);rw [Nat.add_mul];omega
end
theorem aq7{t:ad}(h:∀y,t.cost y=0)(x:List t.D):ad.cost (.sl t) x=x.length:=by
 simp only [ad.cost]
 induction x with
 | nil=>rfl
 | cons y x ih=>simp only [List.map_cons,List.sum_cons,List.length_cons,h y];omega
theorem aq8{n:Nat}(h:n≤1048576):(decide (0≤(n:Int))&&decide ((n:Int)=(n:Int))&&room (Int.toNat (n:Int)))=true:=by rw [show Int.toNat (n:Int)=n by simp,AE (by omega)];simp
theorem iU{n:Nat}(h:n≤4611686018427387904):n<aM:=by rw [hP];omega
theorem nh{β : Type}(n:Nat)(hn:n≤4611686018427387904)(L:Nat→Int → β)(G:Nat → β)(Inv:Nat→Prop)
  (h0:∀m,Inv n→L (m+1) (n:Int)=G n)
  (hs:∀m (i:Nat),i<n→Inv i→ax ((i:Int)+1)=(i:Int)+1→(Inv (i+1)→L m ((i:Int)+1)=G (i+1))→L (m+1) (i:Int)=G i) :
  ∀(r i m:Nat),i+r=n→r<m→Inv i→L m (i:Int)=G i:=by
 intro r
 induction r with
 | zero=>
  intro i m hi hm hv;obtain ⟨m,rfl,_⟩:=fuel hm;have:i=n:=by omega
  subst this;exact h0 m hv
 | succ r ih=>
  intro i m hi hm hv;obtain ⟨m,rfl,hq⟩:=fuel hm;refine hs m i (by omega) hv (fT (by omega) (by omega)) fun lX=>?_
  have:=ih (i+1) m (by omega) (by omega) lX;simpa only [Int.natCast_add,Int.cast_ofNat_Int] using this
theorem kC(k:Nat)(h:k≤1000:=by omega):∃q,aM=q+k∧4611686018427387904<q:=⟨aM-k,by rw [hP];omega,by rw [hP];omega⟩
theorem y8{α : Type}(a:Bool)(x y : α):cond a (some (x,())) (some (y,()))=some (cond a x y,()):=by cases a <;> rfl
def ct(x lo hi:Int):Bool:=decide (lo≤x)&&decide (x≤hi)
theorem cR{x lo hi:Int} : ct x lo hi=true↔lo≤x∧x≤hi:=by simp [ct]
theorem acm(a b:Bool):cond a b false=(a&&b):=by cases a <;> rfl
theorem ang(a b:Int):j0 a b=min a b:=by unfold j0;omega
theorem ZS{s:List UInt8} : bw s []=decide (s.length=0):=by cases s <;> simp [bw]
theorem xd(s t:List UInt8):bw s t=decide (s=t):=rfl
theorem dq{x y:Int}(h:x≠y):(x != y)=true:=by simp [h]
theorem ek{x y:Int}(h:x=y):(x != y)=false:=by simp [h]
theorem cK{x y:Int}(h:x=y):(x==y)=true:=by simp [h]
theorem bY{x y:Int}(h:x≠y):(x==y)=false:=by simp [h]
theorem b_{n:Nat}(h:n≤68719476736):room n=true:=AE h
theorem aaN{α : Type}(l:List α):part l 0 l.length=l:=by simp [part]
theorem tU{α : Type}(l:List α)(n:Nat):part l n (l.length-n)=l.drop n:=by unfold part;rw [List.take_of_length_le (by simp)]
theorem pz{α : Type}(l:List α)(n:Nat):part l 0 n=l.take n:=by simp [part]
end Go.LM
namespace Go.LM.j7
theorem aq9:∀(d m:Nat) (x:Int) (acc:aj),0≤x→x<10 ^ d→d≤18→acc.length+d≤100→d<m→∃s,wA m x acc=some (s,()):=by
 intro d
 induction d with
 | zero=>
  intro m x acc h0 hx af ha hm
  cases m with
  | zero=>omega
  | succ m=>
   simp only [wA,HD];have:x=0:=by simp at hx;omega
   subst this;rw [show decide ((0:Int)>0)=false by simp];simp only [cond_false];rw [AE (by simp;omega)];exact⟨_,rfl⟩
 | succ d ih=>
  intro m x acc h0 hx af ha hm
  cases m with
  | zero=>omega
  | succ m=>
   simp only [wA,HD];by_cases aw:x>0
   ·rw [show decide (x>0)=true by simp [aw],AE (by simp [eS];omega)];simp only [cond_true];have hb:(10:Int) ^ d≤10 ^ 17:=by have h1:(10:Nat) ^ d≤10 ^ 17:=Nat.pow_le_pow_right (by omega) (by omega);have h2:((10 ^ d:Nat):Int)≤((10 ^ 17:Nat):Int):=Int.ofNat_le.2 h1;simpa using h2
    rw [Int.pow_succ] at hx;have ht:Int.tdiv x 10=x / 10:=by rw [Int.tdiv_eq_ediv_of_nonneg h0]
    rw [ht,fT (by omega) (by omega)];exact ih m _ _ (by omega) (by omega) (by omega) (by simp [eS];omega) (by omega)
   ·rw [show decide (x>0)=false by simp [aw]];simp only [cond_false];rw [AE (by simp;omega)];exact⟨_,rfl⟩
theorem aq_(k:Int)(h:k≤1000000000000000):∃s,nd (k,())=some (s,()):=by
 show ∃s,HC (wA aM) k=_
 unfold HC;by_cases hk:k≤0
 ·exact⟨_,by simp [hk];rfl⟩
 ·rw [show decide (k≤0)=false by simp [hk]];exact aq9 16 aM k [] (by omega) (by have e:(10:Int) ^ 16=10000000000000000:=rfl;omega) (by omega) (by simp) (by rw [hP];omega)
noncomputable def mt(k:Int):aj:=match nd (k,()) with
 | some r=>r.1
 | none=>[]
theorem k_(k:Int)(h:k≤1000000000000000):nd (k,())=some (mt k,()):=by obtain ⟨s,hs⟩:=aq_ k h;unfold mt;rw [hs]
theorem aq'(x:an.D)(n:Int)(h0:0≤n)(hn:n≤1048576)(hw:ad.fg an x):OV (x,n,())=some (sd (ad.cost an x) n,()):=by
 show OU  x n=_;unfold OU;have e:ad.cost an x=x.2.1.length:=by simp only [nj,nk,nm,nn,za,qC,Nat.zero_add,Nat.add_zero]
 rw [e];clear e;have ara:=aq6 (aq4 (aq5 hw));generalize x.2.1.length=acn at ara ⊢;rw [fT (x:=n-_) (by omega) (by omega)];by_cases g0:((acn:Nat):Int)≤n
 case neg=>rw [ab_ (by omega),CA (by omega)];rfl
 rw [xc (by omega)];simp only [cond_false]
 try rw [JH (by omega)]
 first | done | exact congrArg (fun v:Int=>some (v,())) (by omega)
theorem arb(x:(ad.sl an).D)(n:Int)(h0:0≤n)(hn:n≤1048576)(hw:ad.fg (ad.sl an) x):OW (x,n,())=some (sd (ad.cost (ad.sl an) x) n,()):=by
 show HF (wB aM) x n=_;unfold HF;have wl:=(acd hw).1;have arc:=(acd hw).2;rw [fT (x:=n-_) (by omega) (by omega)];by_cases g:(x.length:Int)≤n
 case neg=>rw [ab_ (by omega),CA (by have:=zA x;omega)];rfl
 rw [xc (by omega)];simp only [cond_false]
 have hl:=aq1 x (fun m n i=>wB m x n i) (by omega) (fun m n=>by
   simp only [wB,HG];rw [cw (Nat.le_refl _)];rfl) (fun m n i hi h1 h2=>by
   simp only [wB,HG];rw [b1 hi,br hi];simp only [cond_true,al];rw [aq' _ n h1 h2 (arc _ (ab' hi))];simp only [al]
   rw [fT (x:=(i:Int)+1) (by omega) (by omega)]) x.length 0 aM (n-x.length) (by omega) (by rw [hP];omega) (by omega) (by omega)
 simp only [Int.ofNat_zero,Int.natCast_zero,List.drop_zero] at hl;refine hl.trans ?_;congr 2;rw [r0];generalize (x.map fun y=>ad.cost an y).sum=C;unfold sd;split <;> split <;> omega
theorem ard(x:an.D)(hc:ad.cost an x≤1048576):Ph (x,())=some (x,()):=by show Pg  x=_;unfold Pg;rfl
theorem are(x:(ad.sl an).D)(hc:ad.cost (ad.sl an) x≤1048576):yS (x,())=some (x,()):=by
 show HX (wG aM) x=_;unfold HX;have hl:=zA x;rw [aq8 (by omega)];simp only [cond_true]
 refine aq2 x (fun m i y=>wG m x i y) (fun m y=>by
   simp only [wG,HY];rw [cw (Nat.le_refl _)];rfl) (fun m i y hi aR=>by
   simp only [wG,HY];rw [b1 hi,br hi];simp only [cond_true,al];rw [ard _ (by have:=JG (t:=an) hi;omega)];simp only [al]
   rw [br (by omega),fT (x:=(i:Int)+1) (by omega) (by omega)];simp only [al,Nat.zero_add]) x.length 0 aM _ (by omega) (by rw [hP];omega) (by simp) (by simp)
theorem arf(x:an.D)(hc:ad.cost an x≤1099511627776):OQ (x,x,())=some (true,()):=by
 show OP  x x=_;unfold OP
 try simp only [bne_self_eq_false,cond_false,qb,Bool.not_true,beq_self_eq_true,Bool.and_self]
theorem arh(x:aI.D)(hc:ad.cost aI x≤1099511627776):Px (x,x,())=some (true,()):=by
 show Pw  x x=_;unfold Pw
 try simp only [bne_self_eq_false,cond_false,qb,Bool.not_true,beq_self_eq_true,Bool.and_self]
theorem ari(x:aZ.D)(hc:ad.cost aZ x≤1099511627776):Pz (x,x,())=some (true,()):=by
 show Py  x x=_;unfold Py;have aco:ad.cost aZ x=ad.cost aI x.2.2.1 +(ad.cost an x.2.2.2.2.1):=by simp only [nj,nk,nm,nn,za,qC,Nat.zero_add,Nat.add_zero]
 rw [aco] at hc;clear aco;generalize e0:ad.cost aI x.2.2.1=acn at hc;generalize e1:ad.cost an x.2.2.2.2.1=at5 at hc
 try simp only [bne_self_eq_false,cond_false,qb,Bool.not_true,beq_self_eq_true,Bool.and_self]
 rw [arh x.2.2.1 (by rw [e0];omega)];simp only [al,bne_self_eq_false,cond_false,qb,Bool.not_true,beq_self_eq_true,Bool.and_self];rw [arf x.2.2.2.2.1 (by rw [e1];omega)];simp only [al,bne_self_eq_false,cond_false,qb,Bool.not_true,beq_self_eq_true,Bool.and_self]
theorem arj(x:(ad.sl aZ).D)(hc:ad.cost (ad.sl aZ) x≤1099511627776):BD (x,x,())=some (true,()):=by
 show Ih (wL aM) x x=_;unfold Ih;have hl:=zA x;simp only [bne_self_eq_false,cond_false]
 refine aca x.length (fun m i=>wL m x x i) (fun m=>by
   simp only [wL,Ii];rw [cw (Nat.le_refl _)];rfl) (fun m i hi=>by
   simp only [wL,Ii];rw [b1 hi,br hi];simp only [cond_true,al];rw [ari _ (by have:=JG (t:=aZ) hi;omega)];simp only [al,bne_self_eq_false,qb,Bool.not_true,cond_false,beq_self_eq_true]
   rw [fT (x:=(i:Int)+1) (by omega) (by omega)]) x.length 0 aM (by omega) (by rw [hP];omega)
theorem ark(x:an.D)(hc:ad.cost an x≤1099511627776):PB (x,x,())=some (true,()):=by
 show PA  x x=_;unfold PA
 try simp only [bne_self_eq_false,cond_false,qb,Bool.not_true,beq_self_eq_true,Bool.and_self]
theorem arl(x:(ad.sl an).D)(hc:ad.cost (ad.sl an) x≤1099511627776):PC (x,x,())=some (true,()):=by
 show Ik (wM aM) x x=_;unfold Ik;have hl:=zA x;simp only [bne_self_eq_false,cond_false]
 refine aca x.length (fun m i=>wM m x x i) (fun m=>by
   simp only [wM,Il];rw [cw (Nat.le_refl _)];rfl) (fun m i hi=>by
   simp only [wM,Il];rw [b1 hi,br hi];simp only [cond_true,al];rw [ark _ (by have:=JG (t:=an) hi;omega)];simp only [al,bne_self_eq_false,qb,Bool.not_true,cond_false,beq_self_eq_true]
   rw [fT (x:=(i:Int)+1) (by omega) (by omega)]) x.length 0 aM (by omega) (by rw [hP];omega)
set_option maxHeartbeats 4000000 in
theorem arn(m:Nat)(k:Int)(i:Nat)(x:(ad.sl an).D)(hi:i<x.length)(hl:x.length≤1099511627776)(hk:0≤k)(hb:k +(ad.wt an (I an x i):Nat)≤1000000000000000)(hc:ad.cost an (I an x i)≤1099511627776) :
  ∃j y,rV (m+1) k (i:Int) x=rV m j ((i:Int)+1) (x.set i y)∧ad.ed mt an y k j∧j≤k +(ad.wt an (I an x i):Nat):=by
 simp only [ace,acf,acg,ach,aci,acj,RU,RV,RW,RX,RY,RZ,Nat.add_zero] at hb ⊢;simp only [nj,nk,nm,nn,za,qC,Nat.zero_add,Nat.add_zero] at hc;generalize (I an x i).2.1.length=at6 at hc;refine⟨k+2,(k,mt (k+1),()),?_,⟨k+1,⟨rfl,by omega⟩,⟨k+2,⟨rfl,by omega⟩,rfl⟩⟩,by omega⟩;have aC:∀z:an.D,I an (x.set i z) i=z:=fun z=>Vo hi
 simp only [rV];unfold Io;simp (disch:=first | omega | (simp only [List.length_set];omega)) only [b1,br,cond_true,al,Nat.zero_add,List.length_set,aC,List.set_set,fT,Int.add_assoc,Int.reduceAdd,k_];unfold Xe;simp (disch:=first | omega | (simp only [List.length_set];omega)) only [b1,br,cond_true,al,Nat.zero_add,List.length_set,aC,List.set_set,fT,Int.add_assoc,Int.reduceAdd,k_];unfold Xd;simp (disch:=first | omega | (simp only [List.length_set];omega)) only [b1,br,cond_true,al,Nat.zero_add,List.length_set,aC,List.set_set,fT,Int.add_assoc,Int.reduceAdd,k_]
theorem aro(x:(ad.sl an).D)(k:Int)(hk:0≤k)(hb:k +(ad.wt (ad.sl an) x:Nat)≤1000000000000000)(hc:ad.cost (ad.sl an) x≤1099511627776) :
  ∃k' y,PD (x,k,())=some (k',y,())∧ad.ed mt (ad.sl an) y k k'∧k'≤k +(ad.wt (ad.sl an) x:Nat):=by
 have hl:x.length≤1099511627776:=by have:=zA x;omega
 rw [ack] at hb ⊢
 obtain ⟨k',y,h1,h2,_,h4,a7⟩:=acb (mt:=mt) (t:=an) x.length hl (fun m k i x=>rV m k i x) (fun m k y aR=>by
   simp only [rV,Io];rw [cw (by omega)];rfl) (fun m k i y hi aR hk hb hc=>arn m k i y (by omega) (by omega) hk hb hc) x.length 0 aM k x (by omega) (by rw [hP];omega) rfl hk (by simpa using hb) (fun z hz=>by
   rw [List.drop_zero] at hz;have h1:=JF (f:=fun y=>ad.cost an y) hz;rw [r0] at hc
   omega)
 refine⟨k',y,?_,?_,by simpa using a7⟩
 ·show Im (rV aM) x k=_;unfold Im;simpa using h1
 ·rw [R0];exact⟨by omega,by simpa using h4⟩
set_option maxHeartbeats 4000000 in
theorem arp(m:Nat)(k:Int)(i:Nat)(x:(ad.sl aZ).D)(hi:i<x.length)(hl:x.length≤1099511627776)(hk:0≤k)(hb:k +(ad.wt aZ (I aZ x i):Nat)≤1000000000000000)(hc:ad.cost aZ (I aZ x i)≤1099511627776) :
  ∃j y,rW (m+1) k (i:Int) x=rW m j ((i:Int)+1) (x.set i y)∧ad.ed mt aZ y k j∧j≤k +(ad.wt aZ (I aZ x i):Nat):=by
 simp only [ace,acf,acg,ach,aci,acj,RU,RV,RW,RX,RY,RZ,Nat.add_zero] at hb ⊢;simp only [nj,nk,nm,nn,za,qC,Nat.zero_add,Nat.add_zero] at hc;generalize (I aZ x i).2.2.1.2.1.length=at7 at hc;generalize (I aZ x i).2.2.1.2.2.1.length=aua at hc;generalize (I aZ x i).2.2.1.2.2.2.2.2.1.length=aub at hc;generalize (I aZ x i).2.2.2.2.1.2.1.length=auc at hc;refine⟨k+11,(k,k+1,(k+2,mt (k+3),mt (k+4),k+5,k+6,mt (k+7),()),k+8,(k+9,mt (k+10),()),()),?_,⟨k+1,⟨rfl,by omega⟩,⟨k+2,⟨rfl,by omega⟩,⟨k+8,⟨k+3,⟨rfl,by omega⟩,⟨k+4,⟨rfl,by omega⟩,⟨k+5,⟨rfl,by omega⟩,⟨k+6,⟨rfl,by omega⟩,⟨k+7,⟨rfl,by omega⟩,⟨k+8,⟨rfl,by omega⟩,rfl⟩⟩⟩⟩⟩⟩,⟨k+9,⟨rfl,by omega⟩,⟨k+11,⟨k+10,⟨rfl,by omega⟩,⟨k+11,⟨rfl,by omega⟩,rfl⟩⟩,rfl⟩⟩⟩⟩⟩,by omega⟩;have aC:∀z:aZ.D,I aZ (x.set i z) i=z:=fun z=>Vo hi
 simp only [rW];unfold Iq;simp (disch:=first | omega | (simp only [List.length_set];omega)) only [b1,br,cond_true,al,Nat.zero_add,List.length_set,aC,List.set_set,fT,Int.add_assoc,Int.reduceAdd,k_];unfold Xp;simp (disch:=first | omega | (simp only [List.length_set];omega)) only [b1,br,cond_true,al,Nat.zero_add,List.length_set,aC,List.set_set,fT,Int.add_assoc,Int.reduceAdd,k_];unfold Xo;simp (disch:=first | omega | (simp only [List.length_set];omega)) only [b1,br,cond_true,al,Nat.zero_add,List.length_set,aC,List.set_set,fT,Int.add_assoc,Int.reduceAdd,k_];unfold Xn;simp (disch:=first | omega | (simp only [List.length_set];omega)) only [b1,br,cond_true,al,Nat.zero_add,List.length_set,aC,List.set_set,fT,Int.add_assoc,Int.reduceAdd,k_];unfold Xm;simp (disch:=first | omega | (simp only [List.length_set];omega)) only [b1,br,cond_true,al,Nat.zero_add,List.length_set,aC,List.set_set,fT,Int.add_assoc,Int.reduceAdd,k_];unfold Xl;simp (disch:=first | omega | (simp only [List.length_set];omega)) only [b1,br,cond_true,al,Nat.zero_add,List.length_set,aC,List.set_set,fT,Int.add_assoc,Int.reduceAdd,k_];unfold Xk;simp (disch:=first | omega | (simp only [List.length_set];omega)) only [b1,br,cond_true,al,Nat.zero_add,List.length_set,aC,List.set_set,fT,Int.add_assoc,Int.reduceAdd,k_];unfold Xj;simp (disch:=first | omega | (simp only [List.length_set];omega)) only [b1,br,cond_true,al,Nat.zero_add,List.length_set,aC,List.set_set,fT,Int.add_assoc,Int.reduceAdd,k_];unfold Xi;simp (disch:=first | omega | (simp only [List.length_set];omega)) only [b1,br,cond_true,al,Nat.zero_add,List.length_set,aC,List.set_set,fT,Int.add_assoc,Int.reduceAdd,k_];unfold Xh;simp (disch:=first | omega | (simp only [List.length_set];omega)) only [b1,br,cond_true,al,Nat.zero_add,List.length_set,aC,List.set_set,fT,Int.add_assoc,Int.reduceAdd,k_];unfold Xg;simp (disch:=first | omega | (simp only [List.length_set];omega)) only [b1,br,cond_true,al,Nat.zero_add,List.length_set,aC,List.set_set,fT,Int.add_assoc,Int.reduceAdd,k_];unfold Xf;simp (disch:=first | omega | (simp only [List.length_set];omega)) only [b1,br,cond_true,al,Nat.zero_add,List.length_set,aC,List.set_set,fT,Int.add_assoc,Int.reduceAdd,k_]
theorem arq(x:(ad.sl aZ).D)(k:Int)(hk:0≤k)(hb:k +(ad.wt (ad.sl aZ) x:Nat)≤1000000000000000)(hc:ad.cost (ad.sl aZ) x≤1099511627776) :
  ∃k' y,PE (x,k,())=some (k',y,())∧ad.ed mt (ad.sl aZ) y k k'∧k'≤k +(ad.wt (ad.sl aZ) x:Nat):=by
 have hl:x.length≤1099511627776:=by have:=zA x;omega
 rw [ack] at hb ⊢
 obtain ⟨k',y,h1,h2,_,h4,a7⟩:=acb (mt:=mt) (t:=aZ) x.length hl (fun m k i x=>rW m k i x) (fun m k y aR=>by
   simp only [rW,Iq];rw [cw (by omega)];rfl) (fun m k i y hi aR hk hb hc=>arp m k i y (by omega) (by omega) hk hb hc) x.length 0 aM k x (by omega) (by rw [hP];omega) rfl hk (by simpa using hb) (fun z hz=>by
   rw [List.drop_zero] at hz;have h1:=JF (f:=fun y=>ad.cost aZ y) hz;rw [r0] at hc
   omega)
 refine⟨k',y,?_,?_,by simpa using a7⟩
 ·show Ip (rW aM) x k=_;unfold Ip;simpa using h1
 ·rw [R0];exact⟨by omega,by simpa using h4⟩
set_option maxHeartbeats 4000000 in
theorem ars(m:Nat)(k j:Int)(i:Nat)(x:(ad.sl aZ).D)(hi:i<x.length)(hl:x.length≤1099511627776)(hk:0≤k)(hj:j≤1000000000000000)(hm:ad.ed mt aZ (I aZ x i) k j) :
  rX (m+1) x k (i:Int)=rX m x j ((i:Int)+1):=by
 have qB:=ad.pE _ hm;simp only [RU,RV,RW,RX,RY,RZ] at hm;obtain ⟨_,⟨e1,rfl⟩,_,⟨e2,rfl⟩,_,⟨_,⟨e3,rfl⟩,_,⟨et,rfl⟩,_,⟨kP,rfl⟩,_,⟨sN,rfl⟩,_,⟨art,rfl⟩,_,⟨JI,rfl⟩,rfl⟩,_,⟨Ur,rfl⟩,_,⟨_,⟨aru,rfl⟩,_,⟨arv,rfl⟩,rfl⟩,rfl⟩:=hm;simp only [Int.add_assoc,Int.reduceAdd] at *;simp only [rX];unfold It;simp (disch:=omega) only [b1,br,cond_true,cond_false,al,Nat.zero_add,fT,Int.add_assoc,Int.reduceAdd,k_,bne_self_eq_false,qb,Bool.not_true,beq_self_eq_true,xc,e1,e2,e3,et,kP,sN,art,JI,Ur,aru,arv]
theorem arw(x:(ad.sl aZ).D)(k k':Int)(hk:0≤k)(dO:k'≤1000000000000000)(hm:ad.ed mt (ad.sl aZ) x k k'):Iu (x,k,())=some (k',()):=by rw [R0] at hm;obtain ⟨hl,hm⟩:=hm;have h1:=aq3 (mt:=mt) (t:=aZ) x (fun m k i=>rX m x k i) (fun m k=>by simp only [rX,It];rw [cw (Nat.le_refl _)];rfl) (fun m k j i hi hk hj hm=>ars m k j i x hi hl hk hj hm) x.length 0 aM k k' (by omega) (by rw [hP];omega) hk dO (by simpa using hm);show Is (rX aM) x k=_;unfold Is;simpa using h1
end Go.LM.j7
