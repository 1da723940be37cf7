/- The verifier's own functions as plain laws; loops as recursion. Conditions: each theorem's own hypotheses. -/
import Derived.Test.YtlkbjdmfbadhaaaGreatDoorOLmd
import Derived.Test.YtlkbjdmfbadhaaaGreatDoorOVa
set_option linter.unusedVariables false
set_option linter.unusedSimpArgs false
namespace Go.LM
theorem fA:aK=18446744073709551616:=by unfold aK;rfl
theorem bN{i n:Nat}(h:i<n):decide ((i:Int)<(n:Int))=true:=by simp;omega
theorem cl{i n:Nat}(h:n≤i):decide ((i:Int)<(n:Int))=false:=by simp;omega
theorem mO{p:Prop}[Decidable p](h:¬p):decide p=false:=by simp[h]
theorem aej{p:Prop}[Decidable p](h:p):decide p=true:=by simp[h]
theorem fuel{k m:Nat}(h:k<m):∃q,m=q+1∧k≤q:=⟨m-1,by omega,by omega⟩
mutual
def ad.cost:(t:ad)→t.D→Nat
 |.raw,_=>0
 |.int _,_=>0
 |.bool,_=>0
 |.str,x=>List.length x
 |.sl t,xs=>List.length xs +(xs.map fun y=>t.cost y).sum
 |.st ak,x=>ak.cost x
def aA.cost:(ak:aA)→ak.D→Nat
 |.nil,_=>0
 |.cons t ak,x=>t.cost x.1+ak.cost x.2
end
mutual
def ad.wt:(t:ad)→t.D→Nat
 |.raw,_=>1
 |.int _,_=>1
 |.bool,_=>1
 |.str,_=>1
 |.sl t,xs=>(xs.map fun y=>t.wt y).sum
 |.st ak,x=>ak.wt x
def aA.wt:(ak:aA)→ak.D→Nat
 |.nil,_=>0
 |.cons t ak,x=>t.wt x.1+ak.wt x.2
end
theorem x1{α:Type}{f:α→Nat}{y:α}:∀{l:List α},y∈l→f y≤(l.map f).sum
 |x::l,h=>by
  rcases List.mem_cons.1 h with rfl|h
  ·simp
  ·have:=x1 (f:=f) h;simp;omega
theorem oP{t:ad}(l:List t.D):l.length≤ad.cost (.sl t) l:=by simp only[ad.cost];omega
theorem aek{t:ad}{l:List t.D}{i:Nat}(h:i<l.length):I t l i∈l:=by rw[rj h];exact List.getElem_mem h
theorem x2{t:ad}{l:List t.D}{i:Nat}(h:i<l.length):l.length+t.cost (I t l i)≤ad.cost (.sl t) l:=by simp only[ad.cost];have:=x1 (f:=fun y=>t.cost y) (aek h);omega
theorem drop_cons{t:ad}{l:List t.D}{i:Nat}(h:i<l.length):l.drop i=I t l i::l.drop (i+1):=by rw[rj h];exact List.drop_eq_getElem_cons h
def sM(c:Nat)(n:Int):Int:=if(c:Int)≤n then n-c else -1
theorem KZ{c:Nat}{n:Int}(h:(c:Int)≤n):sM c n=n-c:=if_pos h
theorem Dr{c:Nat}{n:Int}(h:¬(c:Int)≤n):sM c n = -1:=if_neg h
theorem arW{t:ad}(l:List t.D)(L:Nat→Int→Int→Option (Int×Unit))(hl:l.length≤1048576)
  (h0:∀m n,L (m+1) n (l.length:Int)=some (n,()))
  (hs:∀m n (i:Nat),i<l.length→0≤n→n≤1048576→L (m+1) n (i:Int)=cond (decide (sM (t.cost (I t l i)) n<0)) (some (-1,())) (L m (sM (t.cost (I t l i)) n) ((i:Int)+1))):
  ∀(r i m:Nat) (n:Int),i+r=l.length→r<m→0≤n→n≤1048576→L m n (i:Int)=some (sM ((l.drop i).map fun y=>t.cost y).sum n,()):=by
 intro r
 induction r with
 |zero=>
  intro i m n hi hm h1 h2;obtain⟨m,rfl,_⟩:=fuel hm;have:i=l.length:=by omega
  subst this;rw[h0,List.drop_of_length_le (by omega)];rw[KZ (by simpa using h1)];simp
 |succ r ih=>
  intro i m n hi hm h1 h2;obtain⟨m,rfl,hq⟩:=fuel hm;have bQ:i<l.length:=by omega
  rw[hs m n i bQ h1 h2,drop_cons bQ];simp only[List.map_cons,List.sum_cons];by_cases hc:((t.cost (I t l i):Nat):Int)≤n
  ·rw[KZ hc,mO (by omega)];have:=ih (i+1) m (n-(t.cost (I t l i):Nat)) (by omega) (by omega) (by omega) (by omega);simp only[Int.natCast_add,Int.cast_ofNat_Int]at this;simp only[cond_false];rw[this];unfold sM;by_cases af:((((l.drop (i+1)).map fun y=>t.cost y).sum:Nat):Int)≤n-(t.cost (I t l i):Nat)
   ·rw[if_pos af,if_pos (by omega)];congr 1;congr 1;omega
   ·rw[if_neg af,if_neg (by omega)]
  ·rw[Dr hc,Dr (by omega)];rfl
theorem arX{t:ad}(l:List t.D)(L:Nat→Int→List t.D→Option (List t.D×Unit))
  (h0:∀m x,L (m+1) (l.length:Int) x=some (x,()))
  (hs:∀m (i:Nat) x,i<l.length→x.length=l.length→L (m+1) (i:Int) x=L m ((i:Int)+1) (x.set i (I t l i))):
  ∀(r i m:Nat) (x:List t.D),i+r=l.length→r<m→x.length=l.length→x.take i=l.take i→L m (i:Int) x=some (l,()):=by
 intro r
 induction r with
 |zero=>
  intro i m x hi hm hx ht;obtain⟨m,rfl,_⟩:=fuel hm;have:i=l.length:=by omega
  subst this;rw[h0];rw[List.take_of_length_le (by omega),List.take_of_length_le (by omega)]at ht;rw[ht]
 |succ r ih=>
  intro i m x hi hm hx ht;obtain⟨m,rfl,hq⟩:=fuel hm;have bQ:i<l.length:=by omega
  rw[hs m i x bQ hx]
  have:=ih (i+1) m (x.set i (I t l i)) (by omega) (by omega) (by simpa using hx) (by
   rw[rj bQ,List.take_succ_eq_append_getElem bQ,←ht,List.take_succ_eq_append_getElem (by simpa using hx▸bQ),List.take_set_of_le (by omega)]
   simp)
  simpa only[Int.natCast_add,Int.cast_ofNat_Int]using this
theorem Ds(n:Nat)(L:Nat→Int→Option (Bool×Unit))
  (h0:∀m,L (m+1) (n:Int)=some (true,()))
  (hs:∀m (i:Nat),i<n→L (m+1) (i:Int)=L m ((i:Int)+1)):
  ∀(r i m:Nat),i+r=n→r<m→L m (i:Int)=some (true,()):=by
 intro r
 induction r with
 |zero=>
  intro i m hi hm;obtain⟨m,rfl,_⟩:=fuel hm;have:i=n:=by omega
  subst this;exact h0 m
 |succ r ih=>intro i m hi hm;obtain⟨m,rfl,hq⟩:=fuel hm;rw[hs m i (by omega)];have:=ih (i+1) m (by omega) (by omega);simpa only[Int.natCast_add,Int.cast_ofNat_Int]using this
def u1{α:Type}(M:α→Int→Int→Prop):List α→Int→Int→Prop
 | [],k,k'=>k'=k
 |y::ys,k,k'=>∃j,M y k j∧u1 M ys j k'
mutual
def ad.df(mt:Int→List UInt8):(t:ad)→t.D→Int→Int→Prop
 |.raw,_,k,k'=>k'=k+1
 |.int _,y,k,k'=>y=k∧k'=k+1
 |.bool,y,k,k'=>y=(Int.tmod k 3==0)∧k'=k+1
 |.str,y,k,k'=>y=mt k∧k'=k+1
 |.sl t,y,k,k'=>List.length y≤1099511627776∧u1 (fun y k k'=>t.df mt y k k') y k k'
 |.st ak,y,k,k'=>ak.df mt y k k'
def aA.df(mt:Int→List UInt8):(ak:aA)→ak.D→Int→Int→Prop
 |.nil,_,k,k'=>k'=k
 |.cons t ak,y,k,k'=>∃j,t.df mt y.1 k j∧ak.df mt y.2 j k'
end
theorem Tr{α:Type}{M:α→Int→Int→Prop}(j7:∀y k k',M y k k'→k≤k'):∀{l:List α}{k k':Int},u1 M l k k'→k≤k'
 | [],k,k',h=>by simp only[u1]at h;omega
 |y::ys,k,k',h=>by obtain⟨j,h1,h2⟩:=h;have:=j7 y k j h1;have:=Tr j7 h2;omega
mutual
theorem ad.h9{mt:Int→List UInt8}:∀(t:ad) {y:t.D}{k k':Int},t.df mt y k k'→k≤k'
 |.raw,y,k,k',h=>by simp only[ad.df]at h;omega
 |.int _,y,k,k',h=>by simp only[ad.df]at h;omega
 |.bool,y,k,k',h=>by simp only[ad.df]at h;omega
 |.str,y,k,k',h=>by simp only[ad.df]at h;omega
 |.sl t,y,k,k',h=>by simp only[ad.df]at h;exact Tr (fun _ _ _ h=>ad.h9 t h) h.2
 |.st ak,y,k,k',h=>by simp only[ad.df]at h;exact aA.h9 ak h
theorem aA.h9{mt:Int→List UInt8}:∀(ak:aA) {y:ak.D}{k k':Int},ak.df mt y k k'→k≤k'
 |.nil,y,k,k',h=>by simp only[aA.df]at h;omega
 |.cons t ak,y,k,k',h=>by simp only[aA.df]at h;obtain⟨j,h1,h2⟩:=h;have:=ad.h9 t h1;have:=aA.h9 ak h2;omega
end
theorem Dt{mt:Int→List UInt8}{t:ad}(n:Nat)(hn:n≤1099511627776)(L:Nat→Int→Int→List t.D→Option (Int×List t.D×Unit))
  (h0:∀m (k:Int) x,x.length=n→L (m+1) k (n:Int) x=some (k,x,()))
  (hs:∀m (k:Int) (i:Nat) x,i<n→x.length=n→0≤k→k +(t.wt (I t x i):Nat)≤1000000000000000→t.cost (I t x i)≤1099511627776→∃j y,L (m+1) k (i:Int) x=L m j ((i:Int)+1) (x.set i y)∧t.df mt y k j∧j≤k +(t.wt (I t x i):Nat)):
  ∀(r i m:Nat) (k:Int) (x:List t.D),i+r=n→r<m→x.length=n→0≤k→k +(((x.drop i).map fun y=>t.wt y).sum:Nat)≤1000000000000000→(∀z,z∈x.drop i→t.cost z≤1099511627776) →
   ∃k' bA,L m k (i:Int) x=some (k',bA,())∧bA.length=n∧bA.take i=x.take i∧u1 (fun y k k'=>t.df mt y k k') (bA.drop i) k k'∧k'≤k +(((x.drop i).map fun y=>t.wt y).sum:Nat):=by
 intro r
 induction r with
 |zero=>
  intro i m k x hi hm hx hk hb hz;obtain⟨m,rfl,_⟩:=fuel hm;have:i=n:=by omega
  subst this;refine⟨k,x,h0 m k x hx,hx,rfl,?_,by omega⟩;rw[List.drop_of_length_le (by omega)];rfl
 |succ r ih=>
  intro i m k x hi hm hx hk hb hz;obtain⟨m,rfl,hq⟩:=fuel hm;have bQ:i<x.length:=by omega
  rw[drop_cons bQ]at hb hz⊢;simp only[List.map_cons,List.sum_cons]at hb⊢;obtain⟨j,y,h1,h2,h4⟩:=hs m k i x (by omega) hx hk (by omega) (hz _ List.mem_cons_self);have h3:=ad.h9 t h2;have Du:(x.set i y).drop (i+1)=x.drop (i+1):=by rw[List.drop_set_of_lt (by omega)]
  obtain⟨k',bA,g1,g2,g3,g4,g5⟩:=ih (i+1) m j (x.set i y) (by omega) (by omega) (by simpa using hx) (by omega) (by rw[Du];omega) (by rw[Du];exact fun z h=>hz z (List.mem_cons_of_mem _ h));rw[Du]at g5;simp only[Int.natCast_add,Int.cast_ofNat_Int]at g1;refine⟨k',bA,h1.trans g1,g2,?_,?_,by omega⟩
  ·have:=congrArg (List.take i) g3;rw[List.take_take,List.take_take,Nat.min_eq_left (by omega),List.take_set_of_le (by omega)]at this;exact this
  ·have Ts:i<bA.length:=by omega
   have he:I t bA i=y:=by
    have a6:bA[i]?=(x.set i y)[i]?:=by have:=congrArg (fun l=>l[i]?) g3;simpa[List.getElem?_take]using this
    rw[List.getElem?_set_self (by omega),List.getElem?_eq_getElem Ts]at a6;rw[rj Ts];exact aX a6
   rw[drop_cons Ts,he];exact⟨j,h2,g4⟩
theorem K0{mt:Int→List UInt8}{t:ad}(x:List t.D)(L:Nat→Int→Int→Option (Int×Unit))
  (h0:∀m k,L (m+1) k (x.length:Int)=some (k,()))
  (hs:∀m k j (i:Nat),i<x.length→0≤k→j≤1000000000000000→t.df mt (I t x i) k j→L (m+1) k (i:Int)=L m j ((i:Int)+1)):
  ∀(r i m:Nat) (k k':Int),i+r=x.length→r<m→0≤k→k'≤1000000000000000→u1 (fun y k k'=>t.df mt y k k') (x.drop i) k k'→L m k (i:Int)=some (k',()):=by
 intro r
 induction r with
 |zero=>
  intro i m k k' hi hm hk hb j7;obtain⟨m,rfl,_⟩:=fuel hm;have:i=x.length:=by omega
  subst this;rw[List.drop_of_length_le (by omega)]at j7;simp only[u1]at j7;rw[h0,j7]
 |succ r ih=>
  intro i m k k' hi hm hk hb j7;obtain⟨m,rfl,hq⟩:=fuel hm;have bQ:i<x.length:=by omega
  rw[drop_cons bQ]at j7;obtain⟨j,h1,h2⟩:=j7;have h3:=ad.h9 t h1;have h4:=Tr (fun _ _ _ h=>ad.h9 t h) h2;rw[hs m k j i bQ hk (by omega) h1];have:=ih (i+1) m j k' (by omega) (by omega) (by omega) hb h2;simpa only[Int.natCast_add,Int.cast_ofNat_Int]using this
theorem arY{t:ad}{ak:aA}{x:(ad.st (.cons t ak)).D}(h:ad.fm (.st (.cons t ak)) x):t.fm x.1:=by simp only[ad.fm,aA.fm]at h;exact h.1
theorem arZ{t:ad}{ak:aA}{x:(ad.st (.cons t ak)).D}(h:ad.fm (.st (.cons t ak)) x):ad.fm (.st ak) x.2:=by simp only[ad.fm,aA.fm]at h⊢;exact h.2
theorem ael{t:ad}{x:List t.D}(h:ad.fm (.sl t) x):x.length≤9223372036854775807∧∀y,y∈x→t.fm y:=by simp only[ad.fm,maxLen]at h;exact⟨by omega,h.2⟩
theorem ar0{x:List UInt8}(h:ad.fm .str x):x.length≤9223372036854775807:=by simp only[ad.fm,maxLen]at h;omega
theorem qW{t:ad}{x:List t.D}:ad.cost (.sl t) x=x.length +(x.map fun y=>t.cost y).sum:=by simp only[ad.cost]
theorem jP{ak:aA}{x:ak.D}:ad.cost (.st ak) x=ak.cost x:=by simp only[ad.cost]
theorem jQ{t:ad}{ak:aA}{x:(aA.cons t ak).D}:aA.cost (.cons t ak) x=t.cost x.1+ak.cost x.2:=by simp only[aA.cost]
theorem jR{x:aA.nil.D}:aA.cost .nil x=0:=by simp only[aA.cost]
theorem jS{k:IntKind}{x:Int}:ad.cost (.int k) x=0:=by simp only[ad.cost]
theorem l1{x:Bool}:ad.cost .bool x=0:=by simp only[ad.cost]
theorem k4{x:List UInt8}:ad.cost .str x=x.length:=by simp only[ad.cost]
theorem sN{ak:aA}{x:ak.D}:ad.wt (.st ak) x=ak.wt x:=by simp only[ad.wt]
theorem sO{t:ad}{ak:aA}{x:(aA.cons t ak).D}:aA.wt (.cons t ak) x=t.wt x.1+ak.wt x.2:=by simp only[aA.wt]
theorem sP{x:aA.nil.D}:aA.wt .nil x=0:=by simp only[aA.wt]
theorem sQ{k:IntKind}{x:Int}:ad.wt (.int k) x=1:=by simp only[ad.wt]
theorem sR{x:Bool}:ad.wt .bool x=1:=by simp only[ad.wt]
theorem sS{x:List UInt8}:ad.wt .str x=1:=by simp only[ad.wt]
theorem Dv{t:ad}{x:List t.D}:ad.wt (.sl t) x=(x.map fun y=>t.wt y).sum:=by simp only[ad.wt]
section
variable{mt:Int→List UInt8}{k k':Int}
theorem sU{ak:aA}{x:ak.D}:ad.df mt (.st ak) x k k'=ak.df mt x k k':=by simp only[ad.df]
theorem sV{t:ad}{ak:aA}{x:(aA.cons t ak).D}:aA.df mt (.cons t ak) x k k'=∃j,t.df mt x.1 k j∧ak.df mt x.2 j k':=by simp only[aA.df]
theorem sW{x:aA.nil.D}:aA.df mt .nil x k k'=(k'=k):=by simp only[aA.df]
theorem sX{i:IntKind}{x:Int}:ad.df mt (.int i) x k k'=(x=k∧k'=k+1):=by simp only[ad.df]
theorem sY{x:Bool}:ad.df mt .bool x k k'=(x=(Int.tmod k 3==0)∧k'=k+1):=by simp only[ad.df]
theorem sZ{x:List UInt8}:ad.df mt .str x k k'=(x=mt k∧k'=k+1):=by simp only[ad.df]
theorem s4{t:ad}{x:List t.D}:ad.df mt (.sl t) x k k'=(x.length≤1099511627776∧u1 (fun y k k'=>t.df mt y k k') x k k'):=by simp only[ad.df]
end
mutual
def ad.jk:ad→Nat
 |.sl t=>t.jk
 |.st ak=>ak.jk
 |_=>1
def aA.jk:aA→Nat
 |.nil=>0
 |.cons t ak=>t.jk+ak.jk
end
theorem Kg{α:Type}{f g:α→Nat}(M:Nat):∀(l:List α),(∀y,y∈l→f y≤M*(1+g y))→(l.map f).sum≤M*(l.length +(l.map g).sum)
 | [],_=>by simp
 |y::l,h=>by
  have h1:=h y List.mem_cons_self;have h2:=Kg M l fun z hz=>h z (List.mem_cons_of_mem _ hz)
  simp only[List.map_cons,List.sum_cons,List.length_cons];have:M*(l.length+1 +(g y +(l.map g).sum))=M*(1+g y)+M*(l.length +(l.map g).sum):=by rw[←Nat.mul_add];congr 1;omega
  omega
mutual
theorem ad.Aq:∀(t:ad) (x:t.D),t.wt x≤t.jk*(1+t.cost x)
 |.raw,x=>by simp only[ad.wt,ad.jk];omega
 |.int _,x=>by simp only[ad.wt,ad.jk];omega
 |.bool,x=>by simp only[ad.wt,ad.jk];omega
 |.str,x=>by simp only[ad.wt,ad.jk];omega
 |.sl t,x=>by
  simp only[ad.wt,ad.jk,ad.cost];have:=Kg (f:=fun y=>t.wt y) (g:=fun y=>t.cost y) t.jk x fun y _=>ad.Aq t y
  rw[Nat.mul_add];omega
 |.st ak,x=>by simp only[ad.wt,ad.jk,ad.cost];exact aA.Aq ak x
theorem aA.Aq:∀(ak:aA) (x:ak.D),ak.wt x≤ak.jk*(1+ak.cost x)
 |.nil,x=>by simp only[aA.wt];omega
 |.cons t ak,x=>by simp only[aA.wt,aA.jk,aA.cost];have h1:=ad.Aq t x.1;have h2:=aA.Aq ak x.2;have h3:t.jk*(1+t.cost x.1)≤t.jk*(1 +(t.cost x.1+ak.cost x.2)):=Nat.mul_le_mul_left _ (by omega);have h4:ak.jk*(1+ak.cost x.2)≤ak.jk*(1 +(t.cost x.1+ak.cost x.2)):=Nat.mul_le_mul_left _ (by omega);rw[Nat.add_mul];omega
end
theorem ar1{t:ad}(h:∀y,t.cost y=0)(x:List t.D):ad.cost (.sl t) x=x.length:=by
 simp only[ad.cost]
 induction x with
 |nil=>rfl
 |cons y x ih=>simp only[List.map_cons,List.sum_cons,List.length_cons,h y];omega
theorem ar2{n:Nat}(h:n≤1048576):(decide (0≤(n:Int))&&decide ((n:Int)=(n:Int))&&room (Int.toNat (n:Int)))=true:=by rw[show Int.toNat (n:Int)=n by simp,Br (by omega)];simp
theorem jc{n:Nat}(h:n≤4611686018427387904):n<aK:=by rw[fA];omega
theorem nE{β:Type}(n:Nat)(hn:n≤4611686018427387904)(L:Nat→Int→β)(G:Nat→β)(Inv:Nat→Prop)
  (h0:∀m,Inv n→L (m+1) (n:Int)=G n)
  (hs:∀m (i:Nat),i<n→Inv i→aw ((i:Int)+1)=(i:Int)+1→(Inv (i+1)→L m ((i:Int)+1)=G (i+1))→L (m+1) (i:Int)=G i):
  ∀(r i m:Nat),i+r=n→r<m→Inv i→L m (i:Int)=G i:=by
 intro r
 induction r with
 |zero=>
  intro i m hi hm hv;obtain⟨m,rfl,_⟩:=fuel hm;have:i=n:=by omega
  subst this;exact h0 m hv
 |succ r ih=>
  intro i m hi hm hv;obtain⟨m,rfl,hq⟩:=fuel hm;refine hs m i (by omega) hv (dG (by omega) (by omega)) fun mh=>?_
  have:=ih (i+1) m (by omega) (by omega) mh;simpa only[Int.natCast_add,Int.cast_ofNat_Int]using this
theorem kZ(k:Nat)(h:k≤1000:=by omega):∃q,aK=q+k∧4611686018427387904<q:=⟨aK-k,by rw[fA];omega,by rw[fA];omega⟩
theorem zU{α:Type}(a:Bool)(x y:α):cond a (some (x,())) (some (y,()))=some (cond a x y,()):=by cases a<;>rfl
def cA(x lo hi:Int):Bool:=decide (lo≤x)&&decide (x≤hi)
theorem cR{x lo hi:Int}:cA x lo hi=true↔lo≤x∧x≤hi:=by simp[cA]
theorem aem(a b:Bool):cond a b false=(a&&b):=by cases a<;>rfl
theorem aoa(a b:Int):kk a b=min a b:=by unfold kk;omega
theorem ab1{s:List UInt8}:bx s []=decide (s.length=0):=by cases s<;>simp[bx]
theorem x3(s t:List UInt8):bx s t=decide (s=t):=rfl
theorem dv{x y:Int}(h:x≠y):(x != y)=true:=by simp[h]
theorem eA{x y:Int}(h:x=y):(x != y)=false:=by simp[h]
theorem cL{x y:Int}(h:x=y):(x==y)=true:=by simp[h]
theorem bY{x y:Int}(h:x≠y):(x==y)=false:=by simp[h]
theorem cc{n:Nat}(h:n≤68719476736):room n=true:=Br h
theorem acW{α:Type}(l:List α):part l 0 l.length=l:=by simp[part]
theorem uN{α:Type}(l:List α)(n:Nat):part l n (l.length-n)=l.drop n:=by unfold part;rw[List.take_of_length_le (by simp)]
theorem pS{α:Type}(l:List α)(n:Nat):part l 0 n=l.take n:=by simp[part]
end Go.LM
namespace Go.LM.ks
theorem ar3:∀(d m:Nat) (x:Int) (acc:aj),0≤x→x<10^d→d≤18→acc.length+d≤100→d<m→∃s,xp m x acc=some (s,()):=by
 intro d
 induction d with
 |zero=>
  intro m x acc h0 hx af ha hm
  cases m with
  |zero=>omega
  |succ m=>
   simp only[xp,IU];have:x=0:=by simp at hx;omega
   subst this;rw[show decide ((0:Int)>0)=false by simp];simp only[cond_false];rw[Br (by simp;omega)];exact⟨_,rfl⟩
 |succ d ih=>
  intro m x acc h0 hx af ha hm
  cases m with
  |zero=>omega
  |succ m=>
   simp only[xp,IU];by_cases av:x>0
   ·rw[show decide (x>0)=true by simp[av],Br (by simp[eZ];omega)];simp only[cond_true];have hb:(10:Int)^d≤10^17:=by have h1:(10:Nat)^d≤10^17:=Nat.pow_le_pow_right (by omega) (by omega);have h2:((10^d:Nat):Int)≤((10^17:Nat):Int):=Int.ofNat_le.2 h1;simpa using h2
    rw[Int.pow_succ]at hx;have ht:Int.tdiv x 10=x / 10:=by rw[Int.tdiv_eq_ediv_of_nonneg h0]
    rw[ht,dG (by omega) (by omega)];exact ih m _ _ (by omega) (by omega) (by omega) (by simp[eZ];omega) (by omega)
   ·rw[show decide (x>0)=false by simp[av]];simp only[cond_false];rw[Br (by simp;omega)];exact⟨_,rfl⟩
theorem ar4(k:Int)(h:k≤1000000000000000):∃s,pI (k,())=some (s,()):=by
 show ∃s,IT (xp aK) k=_
 unfold IT;by_cases hk:k≤0
 ·exact⟨_,by simp[hk];rfl⟩
 ·rw[show decide (k≤0)=false by simp[hk]];exact ar3 16 aK k [] (by omega) (by have e:(10:Int)^16=10000000000000000:=rfl;omega) (by omega) (by simp) (by rw[fA];omega)
noncomputable def mt(k:Int):aj:=match pI (k,())with
 |some r=>r.1
 |none=>[]
theorem fM(k:Int)(h:k≤1000000000000000):pI (k,())=some (mt k,()):=by obtain⟨s,hs⟩:=ar4 k h;unfold mt;rw[hs]
theorem ar5(x:an.D)(n:Int)(h0:0≤n)(hn:n≤1048576)(hw:ad.fm an x):Qz (x,n,())=some (sM (ad.cost an x) n,()):=by
 show Qy  x n=_;unfold Qy;have e:ad.cost an x=x.2.1.length:=by simp only[jP,jQ,jR,jS,l1,k4,Nat.zero_add,Nat.add_zero]
 rw[e];clear e;have ar6:=ar0 (arY (arZ hw));generalize x.2.1.length=x4 at ar6⊢;rw[dG (x:=n-_) (by omega) (by omega)];by_cases g0:((x4:Nat):Int)≤n
 case neg=>rw[aej (by omega),Dr (by omega)];rfl
 rw[mO (by omega)];simp only[cond_false]
 try rw[KZ (by omega)]
 first|done|exact congrArg (fun v:Int=>some (v,())) (by omega)
theorem ar7(x:(ad.sl an).D)(n:Int)(h0:0≤n)(hn:n≤1048576)(hw:ad.fm (ad.sl an) x):QA (x,n,())=some (sM (ad.cost (ad.sl an) x) n,()):=by
 show Jg (xr aK) x n=_;unfold Jg;have wl:=(ael hw).1;have ar8:=(ael hw).2;rw[dG (x:=n-_) (by omega) (by omega)];by_cases g:(x.length:Int)≤n
 case neg=>rw[aej (by omega),Dr (by have:=oP x;omega)];rfl
 rw[mO (by omega)];simp only[cond_false]
 have hl:=arW x (fun m n i=>xr m x n i) (by omega) (fun m n=>by
   simp only[xr,Jh];rw[cl (Nat.le_refl _)];rfl) (fun m n i hi h1 h2=>by
   simp only[xr,Jh];rw[bN hi,bf hi];simp only[cond_true,al];rw[ar5 _ n h1 h2 (ar8 _ (aek hi))];simp only[al]
   rw[dG (x:=(i:Int)+1) (by omega) (by omega)]) x.length 0 aK (n-x.length) (by omega) (by rw[fA];omega) (by omega) (by omega)
 simp only[Int.ofNat_zero,Int.natCast_zero,List.drop_zero]at hl;refine hl.trans ?_;congr 2;rw[qW];generalize (x.map fun y=>ad.cost an y).sum=C;unfold sM;split<;>split<;>omega
theorem ar9(x:an.D)(hc:ad.cost an x≤1048576):QV (x,())=some (x,()):=by show QU  x=_;unfold QU;rfl
theorem ar_(x:(ad.sl an).D)(hc:ad.cost (ad.sl an) x≤1048576):zF (x,())=some (x,()):=by
 show Jx (xx aK) x=_;unfold Jx;have hl:=oP x;rw[ar2 (by omega)];simp only[cond_true]
 refine arX x (fun m i y=>xx m x i y) (fun m y=>by
   simp only[xx,Jy];rw[cl (Nat.le_refl _)];rfl) (fun m i y hi aR=>by
   simp only[xx,Jy];rw[bN hi,bf hi];simp only[cond_true,al];rw[ar9 _ (by have:=x2 (t:=an) hi;omega)];simp only[al]
   rw[bf (by omega),dG (x:=(i:Int)+1) (by omega) (by omega)];simp only[al,Nat.zero_add]) x.length 0 aK _ (by omega) (by rw[fA];omega) (by simp) (by simp)
theorem ar'(x:an.D)(hc:ad.cost an x≤1099511627776):Q9 (x,x,())=some (true,()):=by
 show Q8  x x=_;unfold Q8
 try simp only[bne_self_eq_false,cond_false,hV,Bool.not_true,beq_self_eq_true,Bool.and_self]
theorem asa(x:(ad.sl an).D)(hc:ad.cost (ad.sl an) x≤1099511627776):Q_ (x,x,())=some (true,()):=by
 show JO (xC aK) x x=_;unfold JO;have hl:=oP x;simp only[bne_self_eq_false,cond_false]
 refine Ds x.length (fun m i=>xC m x x i) (fun m=>by
   simp only[xC,JP];rw[cl (Nat.le_refl _)];rfl) (fun m i hi=>by
   simp only[xC,JP];rw[bN hi,bf hi];simp only[cond_true,al];rw[ar' _ (by have:=x2 (t:=an) hi;omega)];simp only[al,bne_self_eq_false,hV,Bool.not_true,cond_false,beq_self_eq_true]
   rw[dG (x:=(i:Int)+1) (by omega) (by omega)]) x.length 0 aK (by omega) (by rw[fA];omega)
set_option maxHeartbeats 4000000 in
theorem asb(m:Nat)(k:Int)(i:Nat)(x:(ad.sl an).D)(hi:i<x.length)(hl:x.length≤1099511627776)(hk:0≤k)(hb:k +(ad.wt an (I an x i):Nat)≤1000000000000000)(hc:ad.cost an (I an x i)≤1099511627776):
  ∃j y,su (m+1) k (i:Int) x=su m j ((i:Int)+1) (x.set i y)∧ad.df mt an y k j∧j≤k +(ad.wt an (I an x i):Nat):=by
 simp only[sN,sO,sP,sQ,sR,sS,sU,sV,sW,sX,sY,sZ,Nat.add_zero]at hb⊢;simp only[jP,jQ,jR,jS,l1,k4,Nat.zero_add,Nat.add_zero]at hc;generalize (I an x i).2.1.length=avl at hc;refine⟨k+2,(k,mt (k+1),()),?_,⟨k+1,⟨rfl,by omega⟩,⟨k+2,⟨rfl,by omega⟩,rfl⟩⟩,by omega⟩;have aB:∀z:an.D,I an (x.set i z) i=z:=fun z=>Bq hi
 simp only[su];unfold JR;simp (disch:=first|omega|(simp only[List.length_set];omega)) only[bN,bf,cond_true,al,Nat.zero_add,List.length_set,aB,List.set_set,dG,Int.add_assoc,Int.reduceAdd,fM];unfold Zc;simp (disch:=first|omega|(simp only[List.length_set];omega)) only[bN,bf,cond_true,al,Nat.zero_add,List.length_set,aB,List.set_set,dG,Int.add_assoc,Int.reduceAdd,fM];unfold Zb;simp (disch:=first|omega|(simp only[List.length_set];omega)) only[bN,bf,cond_true,al,Nat.zero_add,List.length_set,aB,List.set_set,dG,Int.add_assoc,Int.reduceAdd,fM]
theorem asc(x:(ad.sl an).D)(k:Int)(hk:0≤k)(hb:k +(ad.wt (ad.sl an) x:Nat)≤1000000000000000)(hc:ad.cost (ad.sl an) x≤1099511627776):
  ∃k' y,Ra (x,k,())=some (k',y,())∧ad.df mt (ad.sl an) y k k'∧k'≤k +(ad.wt (ad.sl an) x:Nat):=by
 have hl:x.length≤1099511627776:=by have:=oP x;omega
 rw[Dv]at hb⊢
 obtain⟨k',y,h1,h2,_,h4,a6⟩:=Dt (mt:=mt) (t:=an) x.length hl (fun m k i x=>su m k i x) (fun m k y aR=>by
   simp only[su,JR];rw[cl (by omega)];rfl) (fun m k i y hi aR hk hb hc=>asb m k i y (by omega) (by omega) hk hb hc) x.length 0 aK k x (by omega) (by rw[fA];omega) rfl hk (by simpa using hb) (fun z hz=>by
   rw[List.drop_zero]at hz;have h1:=x1 (f:=fun y=>ad.cost an y) hz;rw[qW]at hc
   omega)
 refine⟨k',y,?_,?_,by simpa using a6⟩
 ·show JQ (su aK) x k=_;unfold JQ;simpa using h1
 ·rw[s4];exact⟨by omega,by simpa using h4⟩
theorem asd(x:aC.D)(hc:ad.cost aC x≤1099511627776):P4 (x,x,())=some (true,()):=by
 show P3  x x=_;unfold P3
 try simp only[bne_self_eq_false,cond_false,hV,Bool.not_true,beq_self_eq_true,Bool.and_self]
theorem ase(x:(ad.sl aC).D)(hc:ad.cost (ad.sl aC) x≤1099511627776):P5 (x,x,())=some (true,()):=by
 show IF (xk aK) x x=_;unfold IF;have hl:=oP x;simp only[bne_self_eq_false,cond_false]
 refine Ds x.length (fun m i=>xk m x x i) (fun m=>by
   simp only[xk,IG];rw[cl (Nat.le_refl _)];rfl) (fun m i hi=>by
   simp only[xk,IG];rw[bN hi,bf hi];simp only[cond_true,al];rw[asd _ (by have:=x2 (t:=aC) hi;omega)];simp only[al,bne_self_eq_false,hV,Bool.not_true,cond_false,beq_self_eq_true]
   rw[dG (x:=(i:Int)+1) (by omega) (by omega)]) x.length 0 aK (by omega) (by rw[fA];omega)
theorem asf(x:J.D)(hc:ad.cost J x≤1099511627776):P7 (x,x,())=some (true,()):=by
 show P6  x x=_;unfold P6;have pW:ad.cost J x=x.2.2.2.2.2.1.length +(ad.cost (ad.sl aC) x.2.2.2.2.2.2.1):=by simp only[jP,jQ,jR,jS,l1,k4,Nat.zero_add,Nat.add_zero]
 rw[pW]at hc;clear pW;generalize e0:ad.cost (ad.sl aC) x.2.2.2.2.2.2.1=x4 at hc
 try simp only[bne_self_eq_false,cond_false,hV,Bool.not_true,beq_self_eq_true,Bool.and_self]
 rw[ase x.2.2.2.2.2.2.1 (by rw[e0];omega)];simp only[al,bne_self_eq_false,cond_false,hV,Bool.not_true,beq_self_eq_true,Bool.and_self]
theorem asg(x:(ad.sl J).D)(hc:ad.cost (ad.sl J) x≤1099511627776):P8 (x,x,())=some (true,()):=by
 show II (xl aK) x x=_;unfold II;have hl:=oP x;simp only[bne_self_eq_false,cond_false]
 refine Ds x.length (fun m i=>xl m x x i) (fun m=>by
   simp only[xl,IJ];rw[cl (Nat.le_refl _)];rfl) (fun m i hi=>by
   simp only[xl,IJ];rw[bN hi,bf hi];simp only[cond_true,al];rw[asf _ (by have:=x2 (t:=J) hi;omega)];simp only[al,bne_self_eq_false,hV,Bool.not_true,cond_false,beq_self_eq_true]
   rw[dG (x:=(i:Int)+1) (by omega) (by omega)]) x.length 0 aK (by omega) (by rw[fA];omega)
theorem ash(x:ag.D)(hc:ad.cost ag x≤1099511627776):P_ (x,x,())=some (true,()):=by
 show P9  x x=_;unfold P9;have pW:ad.cost ag x=ad.cost (ad.sl J) x.2.1:=by simp only[jP,jQ,jR,jS,l1,k4,Nat.zero_add,Nat.add_zero]
 rw[pW]at hc;clear pW;generalize e0:ad.cost (ad.sl J) x.2.1=x4 at hc
 try simp only[bne_self_eq_false,cond_false,hV,Bool.not_true,beq_self_eq_true,Bool.and_self]
 rw[asg x.2.1 (by rw[e0];omega)];simp only[al,bne_self_eq_false,cond_false,hV,Bool.not_true,beq_self_eq_true,Bool.and_self]
theorem asi(x:aJ.D)(hc:ad.cost aJ x≤1099511627776):Qa (x,x,())=some (true,()):=by
 show P'  x x=_;unfold P'
 try simp only[bne_self_eq_false,cond_false,hV,Bool.not_true,beq_self_eq_true,Bool.and_self]
theorem asj(x:(ad.sl aJ).D)(hc:ad.cost (ad.sl aJ) x≤1099511627776):Qb (x,x,())=some (true,()):=by
 show IL (xm aK) x x=_;unfold IL;have hl:=oP x;simp only[bne_self_eq_false,cond_false]
 refine Ds x.length (fun m i=>xm m x x i) (fun m=>by
   simp only[xm,IM];rw[cl (Nat.le_refl _)];rfl) (fun m i hi=>by
   simp only[xm,IM];rw[bN hi,bf hi];simp only[cond_true,al];rw[asi _ (by have:=x2 (t:=aJ) hi;omega)];simp only[al,bne_self_eq_false,hV,Bool.not_true,cond_false,beq_self_eq_true]
   rw[dG (x:=(i:Int)+1) (by omega) (by omega)]) x.length 0 aK (by omega) (by rw[fA];omega)
theorem asl(x:an.D)(hc:ad.cost an x≤1099511627776):Qd (x,x,())=some (true,()):=by
 show Qc  x x=_;unfold Qc
 try simp only[bne_self_eq_false,cond_false,hV,Bool.not_true,beq_self_eq_true,Bool.and_self]
theorem asm(x:aZ.D)(hc:ad.cost aZ x≤1099511627776):Qf (x,x,())=some (true,()):=by
 show Qe  x x=_;unfold Qe;have pW:ad.cost aZ x=ad.cost an x.2.2.2.1:=by simp only[jP,jQ,jR,jS,l1,k4,Nat.zero_add,Nat.add_zero]
 rw[pW]at hc;clear pW;generalize e0:ad.cost an x.2.2.2.1=x4 at hc
 try simp only[bne_self_eq_false,cond_false,hV,Bool.not_true,beq_self_eq_true,Bool.and_self]
 rw[asl x.2.2.2.1 (by rw[e0];omega)];simp only[al,bne_self_eq_false,cond_false,hV,Bool.not_true,beq_self_eq_true,Bool.and_self]
theorem asn(x:(ad.sl aZ).D)(hc:ad.cost (ad.sl aZ) x≤1099511627776):Qg (x,x,())=some (true,()):=by
 show IP (xn aK) x x=_;unfold IP;have hl:=oP x;simp only[bne_self_eq_false,cond_false]
 refine Ds x.length (fun m i=>xn m x x i) (fun m=>by
   simp only[xn,IQ];rw[cl (Nat.le_refl _)];rfl) (fun m i hi=>by
   simp only[xn,IQ];rw[bN hi,bf hi];simp only[cond_true,al];rw[asm _ (by have:=x2 (t:=aZ) hi;omega)];simp only[al,bne_self_eq_false,hV,Bool.not_true,cond_false,beq_self_eq_true]
   rw[dG (x:=(i:Int)+1) (by omega) (by omega)]) x.length 0 aK (by omega) (by rw[fA];omega)
theorem aso(x:aS.D)(hc:ad.cost aS x≤1099511627776):Cg (x,x,())=some (true,()):=by
 show Qh  x x=_;unfold Qh;have pW:ad.cost aS x=ad.cost ag x.1 +(ad.cost (ad.sl aJ) x.2.2.1 +(ad.cost (ad.sl aZ) x.2.2.2.1)):=by simp only[jP,jQ,jR,jS,l1,k4,Nat.zero_add,Nat.add_zero]
 rw[pW]at hc;clear pW;generalize e0:ad.cost ag x.1=x4 at hc;generalize e1:ad.cost (ad.sl aJ) x.2.2.1=aen at hc;generalize e2:ad.cost (ad.sl aZ) x.2.2.2.1=asq at hc
 try simp only[bne_self_eq_false,cond_false,hV,Bool.not_true,beq_self_eq_true,Bool.and_self]
 rw[ash x.1 (by rw[e0];omega)];simp only[al,bne_self_eq_false,cond_false,hV,Bool.not_true,beq_self_eq_true,Bool.and_self];rw[asj x.2.2.1 (by rw[e1];omega)];simp only[al,bne_self_eq_false,cond_false,hV,Bool.not_true,beq_self_eq_true,Bool.and_self];rw[asn x.2.2.2.1 (by rw[e2];omega)];simp only[al,bne_self_eq_false,cond_false,hV,Bool.not_true,beq_self_eq_true,Bool.and_self]
set_option maxHeartbeats 4000000 in
theorem asr(m:Nat)(k:Int)(i:Nat)(x:(ad.sl aC).D)(hi:i<x.length)(hl:x.length≤1099511627776)(hk:0≤k)(hb:k +(ad.wt aC (I aC x i):Nat)≤1000000000000000)(hc:ad.cost aC (I aC x i)≤1099511627776):
  ∃j y,sf (m+1) k (i:Int) x=sf m j ((i:Int)+1) (x.set i y)∧ad.df mt aC y k j∧j≤k +(ad.wt aC (I aC x i):Nat):=by
 simp only[sN,sO,sP,sQ,sR,sS,sU,sV,sW,sX,sY,sZ,Nat.add_zero]at hb⊢;simp only[jP,jQ,jR,jS,l1,k4,Nat.zero_add,Nat.add_zero]at hc;generalize (I aC x i).1.length=avm at hc;refine⟨k+2,(mt (k),k+1,()),?_,⟨k+1,⟨rfl,by omega⟩,⟨k+2,⟨rfl,by omega⟩,rfl⟩⟩,by omega⟩;have aB:∀z:aC.D,I aC (x.set i z) i=z:=fun z=>Bq hi
 simp only[sf];unfold IW;simp (disch:=first|omega|(simp only[List.length_set];omega)) only[bN,bf,cond_true,al,Nat.zero_add,List.length_set,aB,List.set_set,dG,Int.add_assoc,Int.reduceAdd,fM];unfold YB;simp (disch:=first|omega|(simp only[List.length_set];omega)) only[bN,bf,cond_true,al,Nat.zero_add,List.length_set,aB,List.set_set,dG,Int.add_assoc,Int.reduceAdd,fM];unfold YA;simp (disch:=first|omega|(simp only[List.length_set];omega)) only[bN,bf,cond_true,al,Nat.zero_add,List.length_set,aB,List.set_set,dG,Int.add_assoc,Int.reduceAdd,fM]
theorem ass(x:(ad.sl aC).D)(k:Int)(hk:0≤k)(hb:k +(ad.wt (ad.sl aC) x:Nat)≤1000000000000000)(hc:ad.cost (ad.sl aC) x≤1099511627776):
  ∃k' y,Qi (x,k,())=some (k',y,())∧ad.df mt (ad.sl aC) y k k'∧k'≤k +(ad.wt (ad.sl aC) x:Nat):=by
 have hl:x.length≤1099511627776:=by have:=oP x;omega
 rw[Dv]at hb⊢
 obtain⟨k',y,h1,h2,_,h4,a6⟩:=Dt (mt:=mt) (t:=aC) x.length hl (fun m k i x=>sf m k i x) (fun m k y aR=>by
   simp only[sf,IW];rw[cl (by omega)];rfl) (fun m k i y hi aR hk hb hc=>asr m k i y (by omega) (by omega) hk hb hc) x.length 0 aK k x (by omega) (by rw[fA];omega) rfl hk (by simpa using hb) (fun z hz=>by
   rw[List.drop_zero]at hz;have h1:=x1 (f:=fun y=>ad.cost aC y) hz;rw[qW]at hc
   omega)
 refine⟨k',y,?_,?_,by simpa using a6⟩
 ·show IV (sf aK) x k=_;unfold IV;simpa using h1
 ·rw[s4];exact⟨by omega,by simpa using h4⟩
set_option maxHeartbeats 4000000 in
theorem ast(m:Nat)(k:Int)(i:Nat)(x:(ad.sl J).D)(hi:i<x.length)(hl:x.length≤1099511627776)(hk:0≤k)(hb:k +(ad.wt J (I J x i):Nat)≤1000000000000000)(hc:ad.cost J (I J x i)≤1099511627776):
  ∃j y,sg (m+1) k (i:Int) x=sg m j ((i:Int)+1) (x.set i y)∧ad.df mt J y k j∧j≤k +(ad.wt J (I J x i):Nat):=by
 simp only[sN,sO,sP,sQ,sR,sS,sU,sV,sW,sX,sY,sZ,Nat.add_zero]at hb⊢;simp only[jP,jQ,jR,jS,l1,k4,Nat.zero_add,Nat.add_zero]at hc;generalize (I J x i).2.2.2.2.2.1.length=asu at hc;generalize Dw:ad.wt (ad.sl aC) (I J x i).2.2.2.2.2.2.1=W1 at hb⊢;generalize Tt:ad.cost (ad.sl aC) (I J x i).2.2.2.2.2.2.1=aen at hc;obtain⟨k1,Bj,h1,q9,dI⟩:=ass (I J x i).2.2.2.2.2.2.1 (k+6) (by omega) (by rw[Dw];omega) (by rw[Tt];omega);rw[Dw]at dI;have aeo:=ad.h9 _ q9;refine⟨k1+2,(k,k+1,k+2,k+3,k+4,mt (k+5),Bj,k1,k1+1,()),?_,⟨k+1,⟨rfl,by omega⟩,⟨k+2,⟨rfl,by omega⟩,⟨k+3,⟨rfl,by omega⟩,⟨k+4,⟨rfl,by omega⟩,⟨k+5,⟨rfl,by omega⟩,⟨k+6,⟨rfl,by omega⟩,⟨k1,q9,⟨k1+1,⟨rfl,by omega⟩,⟨k1+2,⟨rfl,by omega⟩,rfl⟩⟩⟩⟩⟩⟩⟩⟩⟩,by omega⟩;have aB:∀z:J.D,I J (x.set i z) i=z:=fun z=>Bq hi
 simp only[sg];unfold IY;simp (disch:=first|omega|(simp only[List.length_set];omega)) only[bN,bf,cond_true,al,Nat.zero_add,List.length_set,aB,List.set_set,dG,Int.add_assoc,Int.reduceAdd,fM,h1];unfold YK;simp (disch:=first|omega|(simp only[List.length_set];omega)) only[bN,bf,cond_true,al,Nat.zero_add,List.length_set,aB,List.set_set,dG,Int.add_assoc,Int.reduceAdd,fM,h1];unfold YJ;simp (disch:=first|omega|(simp only[List.length_set];omega)) only[bN,bf,cond_true,al,Nat.zero_add,List.length_set,aB,List.set_set,dG,Int.add_assoc,Int.reduceAdd,fM,h1];unfold YI;simp (disch:=first|omega|(simp only[List.length_set];omega)) only[bN,bf,cond_true,al,Nat.zero_add,List.length_set,aB,List.set_set,dG,Int.add_assoc,Int.reduceAdd,fM,h1];unfold YH;simp (disch:=first|omega|(simp only[List.length_set];omega)) only[bN,bf,cond_true,al,Nat.zero_add,List.length_set,aB,List.set_set,dG,Int.add_assoc,Int.reduceAdd,fM,h1];unfold YG;simp (disch:=first|omega|(simp only[List.length_set];omega)) only[bN,bf,cond_true,al,Nat.zero_add,List.length_set,aB,List.set_set,dG,Int.add_assoc,Int.reduceAdd,fM,h1];unfold YF;simp (disch:=first|omega|(simp only[List.length_set];omega)) only[bN,bf,cond_true,al,Nat.zero_add,List.length_set,aB,List.set_set,dG,Int.add_assoc,Int.reduceAdd,fM,h1];unfold YE;simp (disch:=first|omega|(simp only[List.length_set];omega)) only[bN,bf,cond_true,al,Nat.zero_add,List.length_set,aB,List.set_set,dG,Int.add_assoc,Int.reduceAdd,fM,h1];unfold YD;simp (disch:=first|omega|(simp only[List.length_set];omega)) only[bN,bf,cond_true,al,Nat.zero_add,List.length_set,aB,List.set_set,dG,Int.add_assoc,Int.reduceAdd,fM,h1];unfold YC;simp (disch:=first|omega|(simp only[List.length_set];omega)) only[bN,bf,cond_true,al,Nat.zero_add,List.length_set,aB,List.set_set,dG,Int.add_assoc,Int.reduceAdd,fM,h1]
theorem asv(x:(ad.sl J).D)(k:Int)(hk:0≤k)(hb:k +(ad.wt (ad.sl J) x:Nat)≤1000000000000000)(hc:ad.cost (ad.sl J) x≤1099511627776):
  ∃k' y,Qj (x,k,())=some (k',y,())∧ad.df mt (ad.sl J) y k k'∧k'≤k +(ad.wt (ad.sl J) x:Nat):=by
 have hl:x.length≤1099511627776:=by have:=oP x;omega
 rw[Dv]at hb⊢
 obtain⟨k',y,h1,h2,_,h4,a6⟩:=Dt (mt:=mt) (t:=J) x.length hl (fun m k i x=>sg m k i x) (fun m k y aR=>by
   simp only[sg,IY];rw[cl (by omega)];rfl) (fun m k i y hi aR hk hb hc=>ast m k i y (by omega) (by omega) hk hb hc) x.length 0 aK k x (by omega) (by rw[fA];omega) rfl hk (by simpa using hb) (fun z hz=>by
   rw[List.drop_zero]at hz;have h1:=x1 (f:=fun y=>ad.cost J y) hz;rw[qW]at hc
   omega)
 refine⟨k',y,?_,?_,by simpa using a6⟩
 ·show IX (sg aK) x k=_;unfold IX;simpa using h1
 ·rw[s4];exact⟨by omega,by simpa using h4⟩
def Ar(y:ag.D)(k k':Int):Prop:=ad.df mt (ad.sl J) y.2.1 k k'
theorem asw(x:ag.D)(k:Int)(hk:0≤k)(hb:k +(ad.wt ag x:Nat)≤1000000000000000)(hc:ad.cost ag x≤1099511627776):
  ∃k' y,IZ (x,k,())=some (k',y,())∧Ar y k k'∧k'≤k +(ad.wt ag x:Nat)∧(x.1,y.2.1,())=y:=by
 simp only[sN,sO,sP,sQ,sR,sS,Nat.add_zero]at hb⊢;simp only[jP,jQ,jR,jS,l1,k4,Nat.zero_add,Nat.add_zero]at hc;generalize Dx:ad.wt (ad.sl J) x.2.1=asx at hb⊢;generalize Tu:ad.cost (ad.sl J) x.2.1=x4 at hc;obtain⟨kL,Tv,h0,Dy,Tw⟩:=asv x.2.1 k (by omega) (by rw[Dx];omega) (by rw[Tu];omega);have asy:=ad.h9 _ Dy;rw[Dx]at Tw;have e:IZ (x,k,())=some (kL,(x.1,Tv,()),()):=by show Qk x k=_;unfold Qk;simp only[h0,al]
 refine⟨_,_,e,Dy,by omega,rfl⟩
theorem Tx{y:ag.D}{k k':Int}(h:Ar y k k'):k≤k':=by unfold Ar at h;have h0:=h;have:=ad.h9 _ h0;omega
set_option maxHeartbeats 4000000 in
theorem asz(m:Nat)(k:Int)(i:Nat)(x:(ad.sl aJ).D)(hi:i<x.length)(hl:x.length≤1099511627776)(hk:0≤k)(hb:k +(ad.wt aJ (I aJ x i):Nat)≤1000000000000000)(hc:ad.cost aJ (I aJ x i)≤1099511627776):
  ∃j y,si (m+1) k (i:Int) x=si m j ((i:Int)+1) (x.set i y)∧ad.df mt aJ y k j∧j≤k +(ad.wt aJ (I aJ x i):Nat):=by
 simp only[sN,sO,sP,sQ,sR,sS,sU,sV,sW,sX,sY,sZ,Nat.add_zero]at hb⊢;simp only[jP,jQ,jR,jS,l1,k4,Nat.zero_add,Nat.add_zero]at hc;refine⟨k+5,(k,k+1,k+2,k+3,k+4,()),?_,⟨k+1,⟨rfl,by omega⟩,⟨k+2,⟨rfl,by omega⟩,⟨k+3,⟨rfl,by omega⟩,⟨k+4,⟨rfl,by omega⟩,⟨k+5,⟨rfl,by omega⟩,rfl⟩⟩⟩⟩⟩,by omega⟩;have aB:∀z:aJ.D,I aJ (x.set i z) i=z:=fun z=>Bq hi
 simp only[si];unfold I1;simp (disch:=first|omega|(simp only[List.length_set];omega)) only[bN,bf,cond_true,al,Nat.zero_add,List.length_set,aB,List.set_set,dG,Int.add_assoc,Int.reduceAdd,fM];unfold YP;simp (disch:=first|omega|(simp only[List.length_set];omega)) only[bN,bf,cond_true,al,Nat.zero_add,List.length_set,aB,List.set_set,dG,Int.add_assoc,Int.reduceAdd,fM];unfold YO;simp (disch:=first|omega|(simp only[List.length_set];omega)) only[bN,bf,cond_true,al,Nat.zero_add,List.length_set,aB,List.set_set,dG,Int.add_assoc,Int.reduceAdd,fM];unfold YN;simp (disch:=first|omega|(simp only[List.length_set];omega)) only[bN,bf,cond_true,al,Nat.zero_add,List.length_set,aB,List.set_set,dG,Int.add_assoc,Int.reduceAdd,fM];unfold YM;simp (disch:=first|omega|(simp only[List.length_set];omega)) only[bN,bf,cond_true,al,Nat.zero_add,List.length_set,aB,List.set_set,dG,Int.add_assoc,Int.reduceAdd,fM];unfold YL;simp (disch:=first|omega|(simp only[List.length_set];omega)) only[bN,bf,cond_true,al,Nat.zero_add,List.length_set,aB,List.set_set,dG,Int.add_assoc,Int.reduceAdd,fM]
theorem asA(x:(ad.sl aJ).D)(k:Int)(hk:0≤k)(hb:k +(ad.wt (ad.sl aJ) x:Nat)≤1000000000000000)(hc:ad.cost (ad.sl aJ) x≤1099511627776):
  ∃k' y,Ql (x,k,())=some (k',y,())∧ad.df mt (ad.sl aJ) y k k'∧k'≤k +(ad.wt (ad.sl aJ) x:Nat):=by
 have hl:x.length≤1099511627776:=by have:=oP x;omega
 rw[Dv]at hb⊢
 obtain⟨k',y,h1,h2,_,h4,a6⟩:=Dt (mt:=mt) (t:=aJ) x.length hl (fun m k i x=>si m k i x) (fun m k y aR=>by
   simp only[si,I1];rw[cl (by omega)];rfl) (fun m k i y hi aR hk hb hc=>asz m k i y (by omega) (by omega) hk hb hc) x.length 0 aK k x (by omega) (by rw[fA];omega) rfl hk (by simpa using hb) (fun z hz=>by
   rw[List.drop_zero]at hz;have h1:=x1 (f:=fun y=>ad.cost aJ y) hz;rw[qW]at hc
   omega)
 refine⟨k',y,?_,?_,by simpa using a6⟩
 ·show I0 (si aK) x k=_;unfold I0;simpa using h1
 ·rw[s4];exact⟨by omega,by simpa using h4⟩
set_option maxHeartbeats 4000000 in
theorem asB(m:Nat)(k:Int)(i:Nat)(x:(ad.sl aZ).D)(hi:i<x.length)(hl:x.length≤1099511627776)(hk:0≤k)(hb:k +(ad.wt aZ (I aZ x i):Nat)≤1000000000000000)(hc:ad.cost aZ (I aZ x i)≤1099511627776):
  ∃j y,sk (m+1) k (i:Int) x=sk m j ((i:Int)+1) (x.set i y)∧ad.df mt aZ y k j∧j≤k +(ad.wt aZ (I aZ x i):Nat):=by
 simp only[sN,sO,sP,sQ,sR,sS,sU,sV,sW,sX,sY,sZ,Nat.add_zero]at hb⊢;simp only[jP,jQ,jR,jS,l1,k4,Nat.zero_add,Nat.add_zero]at hc;generalize (I aZ x i).2.2.2.1.2.1.length=asu at hc;refine⟨k+5,(k,k+1,k+2,(k+3,mt (k+4),()),()),?_,⟨k+1,⟨rfl,by omega⟩,⟨k+2,⟨rfl,by omega⟩,⟨k+3,⟨rfl,by omega⟩,⟨k+5,⟨k+4,⟨rfl,by omega⟩,⟨k+5,⟨rfl,by omega⟩,rfl⟩⟩,rfl⟩⟩⟩⟩,by omega⟩;have aB:∀z:aZ.D,I aZ (x.set i z) i=z:=fun z=>Bq hi
 simp only[sk];unfold I3;simp (disch:=first|omega|(simp only[List.length_set];omega)) only[bN,bf,cond_true,al,Nat.zero_add,List.length_set,aB,List.set_set,dG,Int.add_assoc,Int.reduceAdd,fM];unfold YU;simp (disch:=first|omega|(simp only[List.length_set];omega)) only[bN,bf,cond_true,al,Nat.zero_add,List.length_set,aB,List.set_set,dG,Int.add_assoc,Int.reduceAdd,fM];unfold YT;simp (disch:=first|omega|(simp only[List.length_set];omega)) only[bN,bf,cond_true,al,Nat.zero_add,List.length_set,aB,List.set_set,dG,Int.add_assoc,Int.reduceAdd,fM];unfold YS;simp (disch:=first|omega|(simp only[List.length_set];omega)) only[bN,bf,cond_true,al,Nat.zero_add,List.length_set,aB,List.set_set,dG,Int.add_assoc,Int.reduceAdd,fM];unfold YR;simp (disch:=first|omega|(simp only[List.length_set];omega)) only[bN,bf,cond_true,al,Nat.zero_add,List.length_set,aB,List.set_set,dG,Int.add_assoc,Int.reduceAdd,fM];unfold YQ;simp (disch:=first|omega|(simp only[List.length_set];omega)) only[bN,bf,cond_true,al,Nat.zero_add,List.length_set,aB,List.set_set,dG,Int.add_assoc,Int.reduceAdd,fM]
theorem asC(x:(ad.sl aZ).D)(k:Int)(hk:0≤k)(hb:k +(ad.wt (ad.sl aZ) x:Nat)≤1000000000000000)(hc:ad.cost (ad.sl aZ) x≤1099511627776):
  ∃k' y,Qm (x,k,())=some (k',y,())∧ad.df mt (ad.sl aZ) y k k'∧k'≤k +(ad.wt (ad.sl aZ) x:Nat):=by
 have hl:x.length≤1099511627776:=by have:=oP x;omega
 rw[Dv]at hb⊢
 obtain⟨k',y,h1,h2,_,h4,a6⟩:=Dt (mt:=mt) (t:=aZ) x.length hl (fun m k i x=>sk m k i x) (fun m k y aR=>by
   simp only[sk,I3];rw[cl (by omega)];rfl) (fun m k i y hi aR hk hb hc=>asB m k i y (by omega) (by omega) hk hb hc) x.length 0 aK k x (by omega) (by rw[fA];omega) rfl hk (by simpa using hb) (fun z hz=>by
   rw[List.drop_zero]at hz;have h1:=x1 (f:=fun y=>ad.cost aZ y) hz;rw[qW]at hc
   omega)
 refine⟨k',y,?_,?_,by simpa using a6⟩
 ·show I2 (sk aK) x k=_;unfold I2;simpa using h1
 ·rw[s4];exact⟨by omega,by simpa using h4⟩
def Dz(y:aS.D)(k k':Int):Prop:=∃K1,Ar y.1 k K1∧∃kp,ad.df mt (ad.sl aJ) y.2.2.1 K1 kp∧ad.df mt (ad.sl aZ) y.2.2.2.1 kp k'
theorem asD(x:aS.D)(k:Int)(hk:0≤k)(hb:k +(ad.wt aS x:Nat)≤1000000000000000)(hc:ad.cost aS x≤1099511627776):
  ∃k' y,I4 (x,k,())=some (k',y,())∧Dz y k k'∧k'≤k +(ad.wt aS x:Nat)∧((x.1.1,y.1.2.1,()),x.2.1,y.2.2.1,y.2.2.2.1,())=y:=by
 simp only[sN,sO,sP,sQ,sR,sS,Nat.add_zero]at hb⊢;simp only[jP,jQ,jR,jS,l1,k4,Nat.zero_add,Nat.add_zero]at hc;generalize Dx:ad.wt (ad.sl J) x.1.2.1=asx at hb⊢;generalize Tu:ad.cost (ad.sl J) x.1.2.1=x4 at hc;generalize Dw:ad.wt (ad.sl aJ) x.2.2.1=W1 at hb⊢;generalize Tt:ad.cost (ad.sl aJ) x.2.2.1=aen at hc;generalize aep:ad.wt (ad.sl aZ) x.2.2.2.1=W2 at hb⊢;generalize asE:ad.cost (ad.sl aZ) x.2.2.2.1=asq at hc;obtain⟨kL,Tv,h0,Dy,Tw,e0⟩:=asw x.1 k (by omega) (by simp only[sN,sO,sP,sQ,sR,sS,Nat.add_zero,Dx];omega) (by simp only[jP,jQ,jR,jS,l1,k4,Nat.zero_add,Nat.add_zero,Tu];omega);have asy:=Tx Dy;simp only[sN,sO,sP,sQ,sR,sS,Nat.add_zero,Dx]at Tw;obtain⟨k1,Bj,h1,q9,dI⟩:=asA x.2.2.1 kL (by omega) (by rw[Dw];omega) (by rw[Tt];omega);have aeo:=ad.h9 _ q9;rw[Dw]at dI;obtain⟨k2,u2,h2,yY,eP⟩:=asC x.2.2.2.1 k1 (by omega) (by rw[aep];omega) (by rw[asE];omega);have avn:=ad.h9 _ yY;rw[aep]at eP;have e:I4 (x,k,())=some (k2,(Tv,x.2.1,Bj,u2,()),()):=by show Qn x k=_;unfold Qn;simp only[h0,h1,h2,e0,al]
 refine⟨_,_,e,⟨_,Dy,_,q9,yY⟩,by omega,by simp only[e0]⟩
theorem asF{y:aS.D}{k k':Int}(h:Dz y k k'):k≤k':=by unfold Dz at h;obtain⟨K1,h0,kp,h1,h2⟩:=h;have:=Tx h0;have:=ad.h9 _ h1;have:=ad.h9 _ h2;omega
set_option maxHeartbeats 4000000 in
theorem asG(m:Nat)(k j:Int)(i:Nat)(x:(ad.sl aC).D)(hi:i<x.length)(hl:x.length≤1099511627776)(hk:0≤k)(hj:j≤1000000000000000)(hm:ad.df mt aC (I aC x i) k j):
  sm (m+1) x k (i:Int)=sm m x j ((i:Int)+1):=by
 have nG:=ad.h9 _ hm;simp only[sU,sV,sW,sX,sY,sZ]at hm;obtain⟨_,⟨e1,rfl⟩,_,⟨e2,rfl⟩,rfl⟩:=hm;simp only[Int.add_assoc,Int.reduceAdd]at *;simp only[sm];unfold I7;simp (disch:=omega) only[bN,bf,cond_true,cond_false,al,Nat.zero_add,dG,Int.add_assoc,Int.reduceAdd,fM,bne_self_eq_false,hV,Bool.not_true,beq_self_eq_true,mO,e1,e2]
theorem asH(x:(ad.sl aC).D)(k k':Int)(hk:0≤k)(dy:k'≤1000000000000000)(hm:ad.df mt (ad.sl aC) x k k'):Qo (x,k,())=some (k',()):=by rw[s4]at hm;obtain⟨hl,hm⟩:=hm;have h1:=K0 (mt:=mt) (t:=aC) x (fun m k i=>sm m x k i) (fun m k=>by simp only[sm,I7];rw[cl (Nat.le_refl _)];rfl) (fun m k j i hi hk hj hm=>asG m k j i x hi hl hk hj hm) x.length 0 aK k k' (by omega) (by rw[fA];omega) hk dy (by simpa using hm);show I6 (sm aK) x k=_;unfold I6;simpa using h1
set_option maxHeartbeats 4000000 in
theorem asI(m:Nat)(k j:Int)(i:Nat)(x:(ad.sl J).D)(hi:i<x.length)(hl:x.length≤1099511627776)(hk:0≤k)(hj:j≤1000000000000000)(hm:ad.df mt J (I J x i) k j):
  sn (m+1) x k (i:Int)=sn m x j ((i:Int)+1):=by
 have nG:=ad.h9 _ hm;simp only[sU,sV,sW,sX,sY,sZ]at hm;obtain⟨_,⟨e1,rfl⟩,_,⟨e2,rfl⟩,_,⟨e3,rfl⟩,_,⟨dX,rfl⟩,_,⟨jA,rfl⟩,_,⟨tz,rfl⟩,_,q9,_,⟨asJ,rfl⟩,_,⟨K2,rfl⟩,rfl⟩:=hm;have aeo:=ad.h9 _ q9;have h1:=asH _ _ _ (by omega) (by omega) q9;simp only[Int.add_assoc,Int.reduceAdd]at *;simp only[sn];unfold I_;simp (disch:=omega) only[bN,bf,cond_true,cond_false,al,Nat.zero_add,dG,Int.add_assoc,Int.reduceAdd,fM,bne_self_eq_false,hV,Bool.not_true,beq_self_eq_true,mO,e1,e2,e3,dX,jA,tz,asJ,K2,h1]
theorem asK(x:(ad.sl J).D)(k k':Int)(hk:0≤k)(dy:k'≤1000000000000000)(hm:ad.df mt (ad.sl J) x k k'):Qp (x,k,())=some (k',()):=by rw[s4]at hm;obtain⟨hl,hm⟩:=hm;have h1:=K0 (mt:=mt) (t:=J) x (fun m k i=>sn m x k i) (fun m k=>by simp only[sn,I_];rw[cl (Nat.le_refl _)];rfl) (fun m k j i hi hk hj hm=>asI m k j i x hi hl hk hj hm) x.length 0 aK k k' (by omega) (by rw[fA];omega) hk dy (by simpa using hm);show I9 (sn aK) x k=_;unfold I9;simpa using h1
theorem asL(x:ag.D)(k k':Int)(hk:0≤k)(dy:k'≤1000000000000000)(hm:Ar x k k'):Qr (x,k,())=some (k',()):=by unfold Ar at hm;have h0:=hm;have g0:=ad.h9 _ h0;show Qq x k=_;unfold Qq;rw[asK _ _ _ (by omega) (by omega) h0];simp only[al];rw[mO (by omega)];simp only[cond_false]
set_option maxHeartbeats 4000000 in
theorem asM(m:Nat)(k j:Int)(i:Nat)(x:(ad.sl aJ).D)(hi:i<x.length)(hl:x.length≤1099511627776)(hk:0≤k)(hj:j≤1000000000000000)(hm:ad.df mt aJ (I aJ x i) k j):
  so (m+1) x k (i:Int)=so m x j ((i:Int)+1):=by
 have nG:=ad.h9 _ hm;simp only[sU,sV,sW,sX,sY,sZ]at hm;obtain⟨_,⟨e1,rfl⟩,_,⟨e2,rfl⟩,_,⟨e3,rfl⟩,_,⟨dX,rfl⟩,_,⟨jA,rfl⟩,rfl⟩:=hm;simp only[Int.add_assoc,Int.reduceAdd]at *;simp only[so];unfold Jb;simp (disch:=omega) only[bN,bf,cond_true,cond_false,al,Nat.zero_add,dG,Int.add_assoc,Int.reduceAdd,fM,bne_self_eq_false,hV,Bool.not_true,beq_self_eq_true,mO,e1,e2,e3,dX,jA]
theorem asN(x:(ad.sl aJ).D)(k k':Int)(hk:0≤k)(dy:k'≤1000000000000000)(hm:ad.df mt (ad.sl aJ) x k k'):Qs (x,k,())=some (k',()):=by rw[s4]at hm;obtain⟨hl,hm⟩:=hm;have h1:=K0 (mt:=mt) (t:=aJ) x (fun m k i=>so m x k i) (fun m k=>by simp only[so,Jb];rw[cl (Nat.le_refl _)];rfl) (fun m k j i hi hk hj hm=>asM m k j i x hi hl hk hj hm) x.length 0 aK k k' (by omega) (by rw[fA];omega) hk dy (by simpa using hm);show Ja (so aK) x k=_;unfold Ja;simpa using h1
set_option maxHeartbeats 4000000 in
theorem asO(m:Nat)(k j:Int)(i:Nat)(x:(ad.sl aZ).D)(hi:i<x.length)(hl:x.length≤1099511627776)(hk:0≤k)(hj:j≤1000000000000000)(hm:ad.df mt aZ (I aZ x i) k j):
  sq (m+1) x k (i:Int)=sq m x j ((i:Int)+1):=by
 have nG:=ad.h9 _ hm;simp only[sU,sV,sW,sX,sY,sZ]at hm;obtain⟨_,⟨e1,rfl⟩,_,⟨e2,rfl⟩,_,⟨e3,rfl⟩,_,⟨_,⟨dX,rfl⟩,_,⟨jA,rfl⟩,rfl⟩,rfl⟩:=hm;simp only[Int.add_assoc,Int.reduceAdd]at *;simp only[sq];unfold Je;simp (disch:=omega) only[bN,bf,cond_true,cond_false,al,Nat.zero_add,dG,Int.add_assoc,Int.reduceAdd,fM,bne_self_eq_false,hV,Bool.not_true,beq_self_eq_true,mO,e1,e2,e3,dX,jA]
theorem asP(x:(ad.sl aZ).D)(k k':Int)(hk:0≤k)(dy:k'≤1000000000000000)(hm:ad.df mt (ad.sl aZ) x k k'):Qt (x,k,())=some (k',()):=by rw[s4]at hm;obtain⟨hl,hm⟩:=hm;have h1:=K0 (mt:=mt) (t:=aZ) x (fun m k i=>sq m x k i) (fun m k=>by simp only[sq,Je];rw[cl (Nat.le_refl _)];rfl) (fun m k j i hi hk hj hm=>asO m k j i x hi hl hk hj hm) x.length 0 aK k k' (by omega) (by rw[fA];omega) hk dy (by simpa using hm);show Jd (sq aK) x k=_;unfold Jd;simpa using h1
theorem asQ(x:aS.D)(k k':Int)(hk:0≤k)(dy:k'≤1000000000000000)(hm:Dz x k k'):Ch (x,k,())=some (k',()):=by unfold Dz at hm;obtain⟨K1,h0,kp,h1,h2⟩:=hm;have g0:=Tx h0;have g1:=ad.h9 _ h1;have g2:=ad.h9 _ h2;show Qu x k=_;unfold Qu;rw[asL _ _ _ (by omega) (by omega) h0];simp only[al];rw[mO (by omega)];simp only[cond_false];rw[asN _ _ _ (by omega) (by omega) h1];simp only[al];rw[mO (by omega)];simp only[cond_false];rw[asP _ _ _ (by omega) (by omega) h2];simp only[al];rw[mO (by omega)];simp only[cond_false]
end Go.LM.ks
