/- The verifier's own functions as plain laws; loops as recursion. Conditions: each theorem's own hypotheses. -/
import Derived.Test.YtlkbjdmfbadhaaaGreatDoorTLmd
import Derived.Test.YtlkbjdmfbadhaaaGreatDoorTVa
set_option linter.unusedVariables false
set_option linter.unusedSimpArgs false
namespace Go.LM
theorem fL:aK=18446744073709551616:=by unfold aK;rfl
theorem bx{i n:Nat}(h:i<n):decide ((i:Int)<(n:Int))=true:=by simp;omega
theorem b0{i n:Nat}(h:n≤i):decide ((i:Int)<(n:Int))=false:=by simp;omega
theorem fz{p:Prop}[Decidable p](h:¬p):decide p=false:=by simp [h]
theorem pS{p:Prop}[Decidable p](h:p):decide p=true:=by simp [h]
theorem fuel{k m:Nat}(h:k<m):∃q,m=q+1∧k≤q:=⟨m-1,by omega,by omega⟩
mutual
def aa.cost:(t:aa)→t.D→Nat
 | .raw,_=>0
 | .int _,_=>0
 | .bool,_=>0
 | .str,x=>List.length x
 | .sl t,xs=>List.length xs +(xs.map fun y=>t.cost y).sum
 | .st aj,x=>aj.cost x
def az.cost:(aj:az)→aj.D→Nat
 | .nil,_=>0
 | .cons t aj,x=>t.cost x.1+aj.cost x.2
end
mutual
def aa.wt:(t:aa)→t.D→Nat
 | .raw,_=>1
 | .int _,_=>1
 | .bool,_=>1
 | .str,_=>1
 | .sl t,xs=>(xs.map fun y=>t.wt y).sum
 | .st aj,x=>aj.wt x
def az.wt:(aj:az)→aj.D→Nat
 | .nil,_=>0
 | .cons t aj,x=>t.wt x.1+aj.wt x.2
end
theorem yu{α : Type}{f : α → Nat}{y : α} : ∀ {l:List α},y∈l→f y≤(l.map f).sum
 | x :: l,h=>by
  rcases List.mem_cons.1 h with rfl | h
  ·simp
  ·have:=yu (f:=f) h;simp;omega
theorem iU{t:aa}(l:List t.D):l.length≤aa.cost (.sl t) l:=by simp only [aa.cost];omega
theorem IH{t:aa}{l:List t.D}{i:Nat}(h:i<l.length):J t l i∈l:=by rw [p2 h];exact List.getElem_mem h
theorem rb{t:aa}{l:List t.D}{i:Nat}(h:i<l.length):l.length+t.cost (J t l i)≤aa.cost (.sl t) l:=by
 simp only [aa.cost]
 have:=yu (f:=fun y=>t.cost y) (IH h)
 omega
theorem drop_cons{t:aa}{l:List t.D}{i:Nat}(h:i<l.length):l.drop i=J t l i :: l.drop (i+1):=by
 rw [p2 h];exact List.drop_eq_getElem_cons h
def i_(c:Nat)(n:Int):Int:=if(c:Int)≤n then n-c else -1
theorem jP{c:Nat}{n:Int}(h:(c:Int)≤n):i_ c n=n-c:=if_pos h
theorem e'{c:Nat}{n:Int}(h:¬(c:Int)≤n):i_ c n = -1:=if_neg h
theorem QX{t:aa}(l:List t.D)(L:Nat→Int→Int→Option (Int×Unit))(hl:l.length≤1048576)
  (h0:∀m n,L (m+1) n (l.length:Int)=some (n,()))
  (hs:∀m n (i:Nat),i<l.length→0≤n→n≤1048576→L (m+1) n (i:Int)=cond (decide (i_ (t.cost (J t l i)) n<0)) (some (-1,())) (L m (i_ (t.cost (J t l i)) n) ((i:Int)+1))) :
  ∀(r i m:Nat) (n:Int),i+r=l.length→r<m→0≤n→n≤1048576→L m n (i:Int)=some (i_ ((l.drop i).map fun y=>t.cost y).sum n,()):=by
 intro r
 induction r with
 | zero =>
  intro i m n hi hm h1 h2
  obtain ⟨m,rfl,_⟩:=fuel hm
  have:i=l.length:=by omega
  subst this
  rw [h0,List.drop_of_length_le (by omega)]
  rw [jP (by simpa using h1)]
  simp
 | succ r ih =>
  intro i m n hi hm h1 h2
  obtain ⟨m,rfl,hq⟩:=fuel hm
  have bY:i<l.length:=by omega
  rw [hs m n i bY h1 h2,drop_cons bY]
  simp only [List.map_cons,List.sum_cons]
  by_cases hc:((t.cost (J t l i):Nat):Int)≤n
  ·rw [jP hc,fz (by omega)]
   have:=ih (i+1) m (n-(t.cost (J t l i):Nat)) (by omega) (by omega) (by omega) (by omega)
   simp only [Int.natCast_add,Int.cast_ofNat_Int] at this
   simp only [cond_false]
   rw [this]
   unfold i_
   by_cases ah:((((l.drop (i+1)).map fun y=>t.cost y).sum:Nat):Int)≤n-(t.cost (J t l i):Nat)
   ·rw [if_pos ah,if_pos (by omega)];congr 1;congr 1;omega
   ·rw [if_neg ah,if_neg (by omega)]
  ·rw [e' hc,e' (by omega)]
   rfl
theorem II{t:aa}(l:List t.D)(L:Nat→Int→List t.D→Option (List t.D×Unit))
  (h0:∀m x,L (m+1) (l.length:Int) x=some (x,()))
  (hs:∀m (i:Nat) x,i<l.length→x.length=l.length→L (m+1) (i:Int) x=L m ((i:Int)+1) (x.set i (J t l i))) :
  ∀(r i m:Nat) (x:List t.D),i+r=l.length→r<m→x.length=l.length→x.take i=l.take i→L m (i:Int) x=some (l,()):=by
 intro r
 induction r with
 | zero =>
  intro i m x hi hm hx ht
  obtain ⟨m,rfl,_⟩:=fuel hm
  have:i=l.length:=by omega
  subst this
  rw [h0]
  rw [List.take_of_length_le (by omega),List.take_of_length_le (by omega)] at ht
  rw [ht]
 | succ r ih =>
  intro i m x hi hm hx ht
  obtain ⟨m,rfl,hq⟩:=fuel hm
  have bY:i<l.length:=by omega
  rw [hs m i x bY hx]
  have:=ih (i+1) m (x.set i (J t l i)) (by omega) (by omega) (by simpa using hx) (by
   rw [p2 bY,List.take_succ_eq_append_getElem bY,← ht,List.take_succ_eq_append_getElem (by simpa using hx ▸ bY),List.take_set_of_le (by omega)]
   simp)
  simpa only [Int.natCast_add,Int.cast_ofNat_Int] using this
theorem IJ(n:Nat)(L:Nat→Int→Option (Bool×Unit))
  (h0:∀m,L (m+1) (n:Int)=some (true,()))
  (hs:∀m (i:Nat),i<n→L (m+1) (i:Int)=L m ((i:Int)+1)) :
  ∀(r i m:Nat),i+r=n→r<m→L m (i:Int)=some (true,()):=by
 intro r
 induction r with
 | zero =>
  intro i m hi hm
  obtain ⟨m,rfl,_⟩:=fuel hm
  have:i=n:=by omega
  subst this
  exact h0 m
 | succ r ih =>
  intro i m hi hm
  obtain ⟨m,rfl,hq⟩:=fuel hm
  rw [hs m i (by omega)]
  have:=ih (i+1) m (by omega) (by omega)
  simpa only [Int.natCast_add,Int.cast_ofNat_Int] using this
def s5{α : Type}(M : α → Int→Int→Prop):List α → Int→Int→Prop
 | [],k,k'=>k'=k
 | y :: ys,k,k'=>∃j,M y k j∧s5 M ys j k'
mutual
def aa.c2(mt:Int→List UInt8):(t:aa)→t.D→Int→Int→Prop
 | .raw,_,k,k'=>k'=k+1
 | .int _,y,k,k'=>y=k∧k'=k+1
 | .bool,y,k,k'=>y=(Int.tmod k 3==0)∧k'=k+1
 | .str,y,k,k'=>y=mt k∧k'=k+1
 | .sl t,y,k,k'=>List.length y≤1099511627776∧s5 (fun y k k'=>t.c2 mt y k k') y k k'
 | .st aj,y,k,k'=>aj.c2 mt y k k'
def az.c2(mt:Int→List UInt8):(aj:az)→aj.D→Int→Int→Prop
 | .nil,_,k,k'=>k'=k
 | .cons t aj,y,k,k'=>∃j,t.c2 mt y.1 k j∧aj.c2 mt y.2 j k'
end
theorem QY{α : Type}{M : α → Int→Int→Prop}(jj:∀y k k',M y k k'→k≤k'):∀ {l:List α} {k k':Int},s5 M l k k'→k≤k'
 | [],k,k',h=>by simp only [s5] at h;omega
 | y :: ys,k,k',h=>by
  obtain ⟨j,h1,h2⟩:=h
  have:=jj y k j h1
  have:=QY jj h2
  omega
mutual
theorem aa.hI{mt:Int→List UInt8} : ∀(t:aa) {y:t.D} {k k':Int},t.c2 mt y k k'→k≤k'
 | .raw,y,k,k',h=>by simp only [aa.c2] at h;omega
 | .int _,y,k,k',h=>by simp only [aa.c2] at h;omega
 | .bool,y,k,k',h=>by simp only [aa.c2] at h;omega
 | .str,y,k,k',h=>by simp only [aa.c2] at h;omega
 | .sl t,y,k,k',h=>by simp only [aa.c2] at h;exact QY (fun _ _ _ h=>aa.hI t h) h.2
 | .st aj,y,k,k',h=>by simp only [aa.c2] at h;exact az.hI aj h
theorem az.hI{mt:Int→List UInt8} : ∀(aj:az) {y:aj.D} {k k':Int},aj.c2 mt y k k'→k≤k'
 | .nil,y,k,k',h=>by simp only [az.c2] at h;omega
 | .cons t aj,y,k,k',h=>by
  simp only [az.c2] at h
  obtain ⟨j,h1,h2⟩:=h
  have:=aa.hI t h1
  have:=az.hI aj h2
  omega
end
theorem IK{mt:Int→List UInt8}{t:aa}(n:Nat)(hn:n≤1099511627776)(L:Nat→Int→Int→List t.D→Option (Int×List t.D×Unit))
  (h0:∀m (k:Int) x,x.length=n→L (m+1) k (n:Int) x=some (k,x,()))
  (hs:∀m (k:Int) (i:Nat) x,i<n→x.length=n→0≤k→k +(t.wt (J t x i):Nat)≤1000000000000000→t.cost (J t x i)≤1099511627776→∃j y,L (m+1) k (i:Int) x=L m j ((i:Int)+1) (x.set i y)∧t.c2 mt y k j∧j≤k +(t.wt (J t x i):Nat)) :
  ∀(r i m:Nat) (k:Int) (x:List t.D),i+r=n→r<m→x.length=n→0≤k→k +(((x.drop i).map fun y=>t.wt y).sum:Nat)≤1000000000000000→(∀z,z∈x.drop i→t.cost z≤1099511627776) →
   ∃k' cl,L m k (i:Int) x=some (k',cl,())∧cl.length=n∧cl.take i=x.take i∧s5 (fun y k k'=>t.c2 mt y k k') (cl.drop i) k k'∧k'≤k +(((x.drop i).map fun y=>t.wt y).sum:Nat):=by
 intro r
 induction r with
 | zero =>
  intro i m k x hi hm hx hk hb hz
  obtain ⟨m,rfl,_⟩:=fuel hm
  have:i=n:=by omega
  subst this
  refine⟨k,x,h0 m k x hx,hx,rfl,?_,by omega⟩
  rw [List.drop_of_length_le (by omega)]
  rfl
 | succ r ih =>
  intro i m k x hi hm hx hk hb hz
  obtain ⟨m,rfl,hq⟩:=fuel hm
  have bY:i<x.length:=by omega
  rw [drop_cons bY] at hb hz ⊢
  simp only [List.map_cons,List.sum_cons] at hb ⊢
  obtain ⟨j,y,h1,h2,h4⟩:=hs m k i x (by omega) hx hk (by omega) (hz _ List.mem_cons_self)
  have h3:=aa.hI t h2
  have QZ:(x.set i y).drop (i+1)=x.drop (i+1):=by rw [List.drop_set_of_lt (by omega)]
  obtain ⟨k',cl,g1,g2,g3,g4,g5⟩:=ih (i+1) m j (x.set i y) (by omega) (by omega) (by simpa using hx) (by omega) (by rw [QZ];omega) (by rw [QZ];exact fun z h=>hz z (List.mem_cons_of_mem _ h))
  rw [QZ] at g5
  simp only [Int.natCast_add,Int.cast_ofNat_Int] at g1
  refine⟨k',cl,h1.trans g1,g2,?_,?_,by omega⟩
  ·have:=congrArg (List.take i) g3
   rw [List.take_take,List.take_take,Nat.min_eq_left (by omega),List.take_set_of_le (by omega)] at this
   exact this
  ·have Q0:i<cl.length:=by omega
   have he:J t cl i=y:=by
    have a7:cl[i]?=(x.set i y)[i]?:=by
     have:=congrArg (fun l=>l[i]?) g3
     simpa [List.getElem?_take] using this
    rw [List.getElem?_set_self (by omega),List.getElem?_eq_getElem Q0] at a7
    rw [p2 Q0]
    exact aX a7
   rw [drop_cons Q0,he]
   exact⟨j,h2,g4⟩
theorem IL{mt:Int→List UInt8}{t:aa}(x:List t.D)(L:Nat→Int→Int→Option (Int×Unit))
  (h0:∀m k,L (m+1) k (x.length:Int)=some (k,()))
  (hs:∀m k j (i:Nat),i<x.length→0≤k→j≤1000000000000000→t.c2 mt (J t x i) k j→L (m+1) k (i:Int)=L m j ((i:Int)+1)) :
  ∀(r i m:Nat) (k k':Int),i+r=x.length→r<m→0≤k→k'≤1000000000000000→s5 (fun y k k'=>t.c2 mt y k k') (x.drop i) k k'→L m k (i:Int)=some (k',()):=by
 intro r
 induction r with
 | zero =>
  intro i m k k' hi hm hk hb jj
  obtain ⟨m,rfl,_⟩:=fuel hm
  have:i=x.length:=by omega
  subst this
  rw [List.drop_of_length_le (by omega)] at jj
  simp only [s5] at jj
  rw [h0,jj]
 | succ r ih =>
  intro i m k k' hi hm hk hb jj
  obtain ⟨m,rfl,hq⟩:=fuel hm
  have bY:i<x.length:=by omega
  rw [drop_cons bY] at jj
  obtain ⟨j,h1,h2⟩:=jj
  have h3:=aa.hI t h1
  have h4:=QY (fun _ _ _ h=>aa.hI t h) h2
  rw [hs m k j i bY hk (by omega) h1]
  have:=ih (i+1) m j k' (by omega) (by omega) (by omega) hb h2
  simpa only [Int.natCast_add,Int.cast_ofNat_Int] using this
theorem nD{t:aa}{aj:az}{x:(aa.st (.cons t aj)).D}(h:aa.dH (.st (.cons t aj)) x):t.dH x.1:=by simp only [aa.dH,az.dH] at h;exact h.1
theorem fM{t:aa}{aj:az}{x:(aa.st (.cons t aj)).D}(h:aa.dH (.st (.cons t aj)) x):aa.dH (.st aj) x.2:=by simp only [aa.dH,az.dH] at h ⊢;exact h.2
theorem s6{t:aa}{x:List t.D}(h:aa.dH (.sl t) x):x.length≤9223372036854775807∧∀y,y∈x→t.dH y:=by simp only [aa.dH,maxLen] at h;exact⟨by omega,h.2⟩
theorem yv{x:List UInt8}(h:aa.dH .str x):x.length≤9223372036854775807:=by simp only [aa.dH,maxLen] at h;omega
theorem oA{t:aa}{x:List t.D} : aa.cost (.sl t) x=x.length +(x.map fun y=>t.cost y).sum:=by simp only [aa.cost]
theorem fo{aj:az}{x:aj.D} : aa.cost (.st aj) x=aj.cost x:=by simp only [aa.cost]
theorem fp{t:aa}{aj:az}{x:(az.cons t aj).D} : az.cost (.cons t aj) x=t.cost x.1+aj.cost x.2:=by simp only [az.cost]
theorem fr{x:az.nil.D} : az.cost .nil x=0:=by simp only [az.cost]
theorem fs{k:IntKind}{x:Int} : aa.cost (.int k) x=0:=by simp only [aa.cost]
theorem gF{x:Bool} : aa.cost .bool x=0:=by simp only [aa.cost]
theorem gj{x:List UInt8} : aa.cost .str x=x.length:=by simp only [aa.cost]
theorem s7{aj:az}{x:aj.D} : aa.wt (.st aj) x=aj.wt x:=by simp only [aa.wt]
theorem s8{t:aa}{aj:az}{x:(az.cons t aj).D} : az.wt (.cons t aj) x=t.wt x.1+aj.wt x.2:=by simp only [az.wt]
theorem s9{x:az.nil.D} : az.wt .nil x=0:=by simp only [az.wt]
theorem s_{k:IntKind}{x:Int} : aa.wt (.int k) x=1:=by simp only [aa.wt]
theorem s'{x:Bool} : aa.wt .bool x=1:=by simp only [aa.wt]
theorem ta{x:List UInt8} : aa.wt .str x=1:=by simp only [aa.wt]
theorem IM{t:aa}{x:List t.D} : aa.wt (.sl t) x=(x.map fun y=>t.wt y).sum:=by simp only [aa.wt]
section
variable{mt:Int→List UInt8}{k k':Int}
theorem tb{aj:az}{x:aj.D} : aa.c2 mt (.st aj) x k k'=aj.c2 mt x k k':=by simp only [aa.c2]
theorem tc{t:aa}{aj:az}{x:(az.cons t aj).D} : az.c2 mt (.cons t aj) x k k'=∃j,t.c2 mt x.1 k j∧aj.c2 mt x.2 j k':=by simp only [az.c2]
theorem td{x:az.nil.D} : az.c2 mt .nil x k k'=(k'=k):=by simp only [az.c2]
theorem te{i:IntKind}{x:Int} : aa.c2 mt (.int i) x k k'=(x=k∧k'=k+1):=by simp only [aa.c2]
theorem tf{x:Bool} : aa.c2 mt .bool x k k'=(x=(Int.tmod k 3==0)∧k'=k+1):=by simp only [aa.c2]
theorem tg{x:List UInt8} : aa.c2 mt .str x k k'=(x=mt k∧k'=k+1):=by simp only [aa.c2]
theorem th{t:aa}{x:List t.D} : aa.c2 mt (.sl t) x k k'=(x.length≤1099511627776∧s5 (fun y k k'=>t.c2 mt y k k') x k k'):=by simp only [aa.c2]
end
mutual
def aa.ix:aa→Nat
 | .sl t=>t.ix
 | .st aj=>aj.ix
 | _=>1
def az.ix:az→Nat
 | .nil=>0
 | .cons t aj=>t.ix+aj.ix
end
theorem yd{α : Type}{f g : α → Nat}(M:Nat):∀(l:List α),(∀y,y∈l→f y≤M*(1+g y))→(l.map f).sum≤M*(l.length +(l.map g).sum)
 | [],_=>by simp
 | y :: l,h=>by
  have h1:=h y List.mem_cons_self
  have h2:=yd M l fun z hz=>h z (List.mem_cons_of_mem _ hz)
  simp only [List.map_cons,List.sum_cons,List.length_cons]
  have:M*(l.length+1 +(g y +(l.map g).sum))=M*(1+g y)+M*(l.length +(l.map g).sum):=by rw [← Nat.mul_add];congr 1;omega
  omega
mutual
theorem aa.yw:∀(t:aa) (x:t.D),t.wt x≤t.ix*(1+t.cost x)
 | .raw,x=>by simp only [aa.wt,aa.ix];omega
 | .int _,x=>by simp only [aa.wt,aa.ix];omega
 | .bool,x=>by simp only [aa.wt,aa.ix];omega
 | .str,x=>by simp only [aa.wt,aa.ix];omega
 | .sl t,x=>by
  simp only [aa.wt,aa.ix,aa.cost]
  have:=yd (f:=fun y=>t.wt y) (g:=fun y=>t.cost y) t.ix x fun y _=>aa.yw t y
  rw [Nat.mul_add]
  omega
 | .st aj,x=>by simp only [aa.wt,aa.ix,aa.cost];exact az.yw aj x
theorem az.yw:∀(aj:az) (x:aj.D),aj.wt x≤aj.ix*(1+aj.cost x)
 | .nil,x=>by simp only [az.wt];omega
 | .cons t aj,x=>by
  simp only [az.wt,az.ix,az.cost]
  have h1:=aa.yw t x.1
  have h2:=az.yw aj x.2
  have h3:t.ix*(1+t.cost x.1)≤t.ix*(1 +(t.cost x.1+aj.cost x.2)):=Nat.mul_le_mul_left _ (by omega)
  have h4:aj.ix*(1+aj.cost x.2)≤aj.ix*(1 +(t.cost x.1+aj.cost x.2)):=Nat.mul_le_mul_left _ (by omega)
  rw [Nat.add_mul]
  omega
end
theorem aa3{t:aa}(h:∀y,t.cost y=0)(x:List t.D):aa.cost (.sl t) x=x.length:=by
 simp only [aa.cost]
 induction x with
 | nil=>rfl
 | cons y x ih=>simp only [List.map_cons,List.sum_cons,List.length_cons,h y];omega
theorem IN{n:Nat}(h:n≤1048576):(decide (0≤(n:Int))&&decide ((n:Int)=(n:Int))&&room (Int.toNat (n:Int)))=true:=by
 rw [show Int.toNat (n:Int)=n by simp,zx (by omega)]
 simp
theorem jk{n:Nat}(h:n≤4611686018427387904):n<aK:=by rw [fL];omega
theorem mr{β : Type}(n:Nat)(hn:n≤4611686018427387904)(L:Nat→Int → β)(G:Nat → β)(Inv:Nat→Prop)
  (h0:∀m,Inv n→L (m+1) (n:Int)=G n)
  (hs:∀m (i:Nat),i<n→Inv i→ay ((i:Int)+1)=(i:Int)+1→(Inv (i+1)→L m ((i:Int)+1)=G (i+1))→L (m+1) (i:Int)=G i) :
  ∀(r i m:Nat),i+r=n→r<m→Inv i→L m (i:Int)=G i:=by
 intro r
 induction r with
 | zero =>
  intro i m hi hm hv
  obtain ⟨m,rfl,_⟩:=fuel hm
  have:i=n:=by omega
  subst this
  exact h0 m hv
 | succ r ih =>
  intro i m hi hm hv
  obtain ⟨m,rfl,hq⟩:=fuel hm
  refine hs m i (by omega) hv (c0 (by omega) (by omega)) fun k9=>?_
  have:=ih (i+1) m (by omega) (by omega) k9
  simpa only [Int.natCast_add,Int.cast_ofNat_Int] using this
theorem jl(k:Nat)(h:k≤1000:=by omega):∃q,aK=q+k∧4611686018427387904<q:=⟨aK-k,by rw [fL];omega,by rw [fL];omega⟩
theorem ky{α : Type}(a:Bool)(x y : α):cond a (some (x,())) (some (y,()))=some (cond a x y,()):=by cases a <;> rfl
def cg(x lo hi:Int):Bool:=decide (lo≤x)&&decide (x≤hi)
theorem dm{x lo hi:Int} : cg x lo hi=true↔lo≤x∧x≤hi:=by simp [cg]
theorem AY(a b:Bool):cond a b false=(a&&b):=by cases a <;> rfl
theorem alT(a b:Int):jz a b=min a b:=by unfold jz;omega
theorem YS{s:List UInt8} : bB s []=decide (s.length=0):=by cases s <;> simp [bB]
theorem c4{x y:Int}(h:x≠y):(x != y)=true:=by simp [h]
theorem dL{x y:Int}(h:x=y):(x != y)=false:=by simp [h]
theorem cA{x y:Int}(h:x=y):(x==y)=true:=by simp [h]
theorem bV{x y:Int}(h:x≠y):(x==y)=false:=by simp [h]
theorem ck{n:Nat}(h:n≤68719476736):room n=true:=zx h
theorem ZV{α : Type}(l:List α):part l 0 l.length=l:=by simp [part]
theorem AZ{α : Type}(l:List α)(n:Nat):part l n (l.length-n)=l.drop n:=by
 unfold part;rw [List.take_of_length_le (by simp)]
theorem sP{α : Type}(l:List α)(n:Nat):part l 0 n=l.take n:=by simp [part]
end Go.LM
namespace Go.LM.jH
theorem ao':∀(d m:Nat) (x:Int) (acc:List UInt8),0≤x→x<10 ^ d→d≤18→acc.length+d≤100→d<m→∃s,vQ m x acc=some (s,()):=by
 intro d
 induction d with
 | zero =>
  intro m x acc h0 hx ah ha hm
  cases m with
  | zero=>omega
  | succ m =>
   simp only [vQ,G8]
   have:x=0:=by simp at hx;omega
   subst this
   rw [show decide ((0:Int)>0)=false by simp]
   simp only [cond_false]
   rw [zx (by simp;omega)]
   exact⟨_,rfl⟩
 | succ d ih =>
  intro m x acc h0 hx ah ha hm
  cases m with
  | zero=>omega
  | succ m =>
   simp only [vQ,G8]
   by_cases av:x>0
   ·rw [show decide (x>0)=true by simp [av],zx (by simp [ga];omega)]
    simp only [cond_true]
    have hb:(10:Int) ^ d≤10 ^ 17:=by
     have h1:(10:Nat) ^ d≤10 ^ 17:=Nat.pow_le_pow_right (by omega) (by omega)
     have h2:((10 ^ d:Nat):Int)≤((10 ^ 17:Nat):Int):=Int.ofNat_le.2 h1
     simpa using h2
    rw [Int.pow_succ] at hx
    have ht:Int.tdiv x 10=x / 10:=by rw [Int.tdiv_eq_ediv_of_nonneg h0]
    rw [ht,c0 (by omega) (by omega)]
    exact ih m _ _ (by omega) (by omega) (by omega) (by simp [ga];omega) (by omega)
   ·rw [show decide (x>0)=false by simp [av]]
    simp only [cond_false]
    rw [zx (by simp;omega)]
    exact⟨_,rfl⟩
theorem apa(k:Int)(h:k≤1000000000000000):∃s,pz (k,())=some (s,()):=by
 show ∃s,G7 (vQ aK) k=_
 unfold G7
 by_cases hk:k≤0
 ·exact⟨_,by simp [hk];rfl⟩
 ·rw [show decide (k≤0)=false by simp [hk]]
  exact ao' 16 aK k [] (by omega) (by have e:(10:Int) ^ 16=10000000000000000:=rfl;omega) (by omega) (by simp) (by rw [fL];omega)
noncomputable def mt(k:Int):List UInt8:=match pz (k,()) with
 | some r=>r.1
 | none=>[]
theorem fN(k:Int)(h:k≤1000000000000000):pz (k,())=some (mt k,()):=by
 obtain ⟨s,hs⟩:=apa k h
 unfold mt
 rw [hs]
theorem apb(x:au.D)(n:Int)(h0:0≤n)(hn:n≤1048576)(hw:aa.dH au x):NK (x,n,())=some (i_ (aa.cost au x) n,()):=by
 show NJ  x n=_
 unfold NJ
 have e:aa.cost au x=x.1.length:=by simp only [fo,fp,fr,fs,gF,gj,Nat.zero_add,Nat.add_zero]
 rw [e];clear e
 have wv:=yv (nD hw)
 generalize x.1.length=e4 at wv ⊢
 rw [c0 (x:=n-_) (by omega) (by omega)]
 by_cases g0:((e4:Nat):Int)≤n
 case neg=>rw [pS (by omega),e' (by omega)];rfl
 rw [fz (by omega)];simp only [cond_false]
 try rw [jP (by omega)]
 first | done | exact congrArg (fun v:Int=>some (v,())) (by omega)
theorem apc(x:(aa.sl au).D)(n:Int)(h0:0≤n)(hn:n≤1048576)(hw:aa.dH (aa.sl au) x):NL (x,n,())=some (i_ (aa.cost (aa.sl au) x) n,()):=by
 show Gt (vF aK) x n=_
 unfold Gt
 have wl:=(s6 hw).1
 have yx:=(s6 hw).2
 rw [c0 (x:=n-_) (by omega) (by omega)]
 by_cases g:(x.length:Int)≤n
 case neg=>rw [pS (by omega),e' (by have:=iU x;omega)];rfl
 rw [fz (by omega)];simp only [cond_false]
 have hl:=QX x (fun m n i=>vF m x n i) (by omega) (fun m n=>by
   simp only [vF,Gu];rw [b0 (Nat.le_refl _)];rfl) (fun m n i hi h1 h2=>by
   simp only [vF,Gu]
   rw [bx hi,ba hi];simp only [cond_true,ak]
   rw [apb _ n h1 h2 (yx _ (IH hi))];simp only [ak]
   rw [c0 (x:=(i:Int)+1) (by omega) (by omega)]) x.length 0 aK (n-x.length) (by omega) (by rw [fL];omega) (by omega) (by omega)
 simp only [Int.ofNat_zero,Int.natCast_zero,List.drop_zero] at hl
 refine hl.trans ?_
 congr 2
 rw [oA]
 generalize (x.map fun y=>aa.cost au y).sum=C
 unfold i_
 split <;> split <;> omega
theorem apd(x:I.D)(n:Int)(h0:0≤n)(hn:n≤1048576)(hw:aa.dH I x):NN (x,n,())=some (i_ (aa.cost I x) n,()):=by
 show NM  x n=_
 unfold NM
 have e:aa.cost I x=x.2.2.2.2.2.1.length +(aa.cost (aa.sl au) x.2.2.2.2.2.2.1):=by simp only [fo,fp,fr,fs,gF,gj,Nat.zero_add,Nat.add_zero]
 rw [e];clear e
 have wv:=yv (nD (fM (fM (fM (fM (fM hw))))))
 generalize x.2.2.2.2.2.1.length=e4 at wv ⊢
 rw [c0 (x:=n-_) (by omega) (by omega)]
 by_cases g0:((e4:Nat):Int)≤n
 case neg=>rw [pS (by omega),e' (by omega)];rfl
 rw [fz (by omega)];simp only [cond_false]
 rw [apc _ (n-(e4:Nat)) (by omega) (by omega) (nD (fM (fM (fM (fM (fM (fM hw)))))))];simp only [ak]
 generalize aa.cost (aa.sl au) x.2.2.2.2.2.2.1=mD
 by_cases g1:((mD:Nat):Int)≤n-(e4:Nat)
 case neg=>first | (rw [e' g1,e' (by omega)];rfl) | (rw [e' g1];rfl)
 rw [jP g1,fz (by omega)];simp only [cond_false]
 try rw [jP (by omega)]
 first | done | exact congrArg (fun v:Int=>some (v,())) (by omega)
theorem ape(x:(aa.sl I).D)(n:Int)(h0:0≤n)(hn:n≤1048576)(hw:aa.dH (aa.sl I) x):NO (x,n,())=some (i_ (aa.cost (aa.sl I) x) n,()):=by
 show Gw (vG aK) x n=_
 unfold Gw
 have wl:=(s6 hw).1
 have yx:=(s6 hw).2
 rw [c0 (x:=n-_) (by omega) (by omega)]
 by_cases g:(x.length:Int)≤n
 case neg=>rw [pS (by omega),e' (by have:=iU x;omega)];rfl
 rw [fz (by omega)];simp only [cond_false]
 have hl:=QX x (fun m n i=>vG m x n i) (by omega) (fun m n=>by
   simp only [vG,Gz];rw [b0 (Nat.le_refl _)];rfl) (fun m n i hi h1 h2=>by
   simp only [vG,Gz]
   rw [bx hi,ba hi];simp only [cond_true,ak]
   rw [apd _ n h1 h2 (yx _ (IH hi))];simp only [ak]
   rw [c0 (x:=(i:Int)+1) (by omega) (by omega)]) x.length 0 aK (n-x.length) (by omega) (by rw [fL];omega) (by omega) (by omega)
 simp only [Int.ofNat_zero,Int.natCast_zero,List.drop_zero] at hl
 refine hl.trans ?_
 congr 2
 rw [oA]
 generalize (x.map fun y=>aa.cost I y).sum=C
 unfold i_
 split <;> split <;> omega
theorem apf(x:af.D)(n:Int)(h0:0≤n)(hn:n≤1048576)(hw:aa.dH af x):NQ (x,n,())=some (i_ (aa.cost af x) n,()):=by
 show NP  x n=_
 unfold NP
 have e:aa.cost af x=aa.cost (aa.sl I) x.2.1:=by simp only [fo,fp,fr,fs,gF,gj,Nat.zero_add,Nat.add_zero]
 rw [e];clear e
 rw [ape _ (n) (by omega) (by omega) (nD (fM hw))];simp only [ak]
 generalize aa.cost (aa.sl I) x.2.1=e4
 by_cases g0:((e4:Nat):Int)≤n
 case neg=>first | (rw [e' g0,e' (by omega)];rfl) | (rw [e' g0];rfl)
 rw [jP g0,fz (by omega)];simp only [cond_false]
 try rw [jP (by omega)]
 first | done | exact congrArg (fun v:Int=>some (v,())) (by omega)
theorem apg(x:(aa.sl aE).D)(n:Int)(h0:0≤n)(hn:n≤1048576)(hw:aa.dH (aa.sl aE) x):NS (x,n,())=some (i_ (aa.cost (aa.sl aE) x) n,()):=by
 show NR  x n=_
 unfold NR
 have wl:=(s6 hw).1
 have yx:=(s6 hw).2
 rw [c0 (x:=n-_) (by omega) (by omega)]
 by_cases g:(x.length:Int)≤n
 case neg=>rw [pS (by omega),e' (by have:=iU x;omega)];rfl
 rw [fz (by omega)];simp only [cond_false]
 rw [aa3 (t:=aE) (by intro y;simp [fo,fp,fr,fs,gF,gj]) x,jP g]
theorem aph(x:aA.D)(n:Int)(h0:0≤n)(hn:n≤1048576)(hw:aa.dH aA x):NU (x,n,())=some (i_ (aa.cost aA x) n,()):=by
 show NT  x n=_
 unfold NT
 have e:aa.cost aA x=x.2.1.length:=by simp only [fo,fp,fr,fs,gF,gj,Nat.zero_add,Nat.add_zero]
 rw [e];clear e
 have wv:=yv (nD (fM hw))
 generalize x.2.1.length=e4 at wv ⊢
 rw [c0 (x:=n-_) (by omega) (by omega)]
 by_cases g0:((e4:Nat):Int)≤n
 case neg=>rw [pS (by omega),e' (by omega)];rfl
 rw [fz (by omega)];simp only [cond_false]
 try rw [jP (by omega)]
 first | done | exact congrArg (fun v:Int=>some (v,())) (by omega)
theorem api(x:aO.D)(n:Int)(h0:0≤n)(hn:n≤1048576)(hw:aa.dH aO x):NW (x,n,())=some (i_ (aa.cost aO x) n,()):=by
 show NV  x n=_
 unfold NV
 have e:aa.cost aO x=aa.cost aA x.2.2.2.1:=by simp only [fo,fp,fr,fs,gF,gj,Nat.zero_add,Nat.add_zero]
 rw [e];clear e
 rw [aph _ (n) (by omega) (by omega) (nD (fM (fM (fM hw))))];simp only [ak]
 generalize aa.cost aA x.2.2.2.1=e4
 by_cases g0:((e4:Nat):Int)≤n
 case neg=>first | (rw [e' g0,e' (by omega)];rfl) | (rw [e' g0];rfl)
 rw [jP g0,fz (by omega)];simp only [cond_false]
 try rw [jP (by omega)]
 first | done | exact congrArg (fun v:Int=>some (v,())) (by omega)
theorem apj(x:(aa.sl aO).D)(n:Int)(h0:0≤n)(hn:n≤1048576)(hw:aa.dH (aa.sl aO) x):NX (x,n,())=some (i_ (aa.cost (aa.sl aO) x) n,()):=by
 show GB (vH aK) x n=_
 unfold GB
 have wl:=(s6 hw).1
 have yx:=(s6 hw).2
 rw [c0 (x:=n-_) (by omega) (by omega)]
 by_cases g:(x.length:Int)≤n
 case neg=>rw [pS (by omega),e' (by have:=iU x;omega)];rfl
 rw [fz (by omega)];simp only [cond_false]
 have hl:=QX x (fun m n i=>vH m x n i) (by omega) (fun m n=>by
   simp only [vH,GC];rw [b0 (Nat.le_refl _)];rfl) (fun m n i hi h1 h2=>by
   simp only [vH,GC]
   rw [bx hi,ba hi];simp only [cond_true,ak]
   rw [api _ n h1 h2 (yx _ (IH hi))];simp only [ak]
   rw [c0 (x:=(i:Int)+1) (by omega) (by omega)]) x.length 0 aK (n-x.length) (by omega) (by rw [fL];omega) (by omega) (by omega)
 simp only [Int.ofNat_zero,Int.natCast_zero,List.drop_zero] at hl
 refine hl.trans ?_
 congr 2
 rw [oA]
 generalize (x.map fun y=>aa.cost aO y).sum=C
 unfold i_
 split <;> split <;> omega
theorem apk(x:aM.D)(n:Int)(h0:0≤n)(hn:n≤1048576)(hw:aa.dH aM x):NZ (x,n,())=some (i_ (aa.cost aM x) n,()):=by
 show NY  x n=_
 unfold NY
 have e:aa.cost aM x=aa.cost af x.1 +(aa.cost (aa.sl aE) x.2.2.1 +(aa.cost (aa.sl aO) x.2.2.2.1)):=by simp only [fo,fp,fr,fs,gF,gj,Nat.zero_add,Nat.add_zero]
 rw [e];clear e
 rw [apf _ (n) (by omega) (by omega) (nD hw)];simp only [ak]
 generalize aa.cost af x.1=e4
 by_cases g0:((e4:Nat):Int)≤n
 case neg=>first | (rw [e' g0,e' (by omega)];rfl) | (rw [e' g0];rfl)
 rw [jP g0,fz (by omega)];simp only [cond_false]
 rw [apg _ (n-(e4:Nat)) (by omega) (by omega) (nD (fM (fM hw)))];simp only [ak]
 generalize aa.cost (aa.sl aE) x.2.2.1=mD
 by_cases g1:((mD:Nat):Int)≤n-(e4:Nat)
 case neg=>first | (rw [e' g1,e' (by omega)];rfl) | (rw [e' g1];rfl)
 rw [jP g1,fz (by omega)];simp only [cond_false]
 rw [apj _ (n-(e4:Nat)-(mD:Nat)) (by omega) (by omega) (nD (fM (fM (fM hw))))];simp only [ak]
 generalize aa.cost (aa.sl aO) x.2.2.2.1=yy
 by_cases g2:((yy:Nat):Int)≤n-(e4:Nat)-(mD:Nat)
 case neg=>first | (rw [e' g2,e' (by omega)];rfl) | (rw [e' g2];rfl)
 rw [jP g2,fz (by omega)];simp only [cond_false]
 try rw [jP (by omega)]
 first | done | exact congrArg (fun v:Int=>some (v,())) (by omega)
theorem apl(x:aN.D)(n:Int)(h0:0≤n)(hn:n≤1048576)(hw:aa.dH aN x):N1 (x,n,())=some (i_ (aa.cost aN x) n,()):=by
 show N0  x n=_
 unfold N0
 have e:aa.cost aN x=x.2.1.length +(x.2.2.1.length +(x.2.2.2.2.2.1.length)):=by simp only [fo,fp,fr,fs,gF,gj,Nat.zero_add,Nat.add_zero]
 rw [e];clear e
 have wv:=yv (nD (fM hw))
 generalize x.2.1.length=e4 at wv ⊢
 rw [c0 (x:=n-_) (by omega) (by omega)]
 by_cases g0:((e4:Nat):Int)≤n
 case neg=>rw [pS (by omega),e' (by omega)];rfl
 rw [fz (by omega)];simp only [cond_false]
 have apm:=yv (nD (fM (fM hw)))
 generalize x.2.2.1.length=mD at apm ⊢
 rw [c0 (x:=n-(e4:Nat)-_) (by omega) (by omega)]
 by_cases g1:((mD:Nat):Int)≤n-(e4:Nat)
 case neg=>rw [pS (by omega),e' (by omega)];rfl
 rw [fz (by omega)];simp only [cond_false]
 have apn:=yv (nD (fM (fM (fM (fM (fM hw))))))
 generalize x.2.2.2.2.2.1.length=yy at apn ⊢
 rw [c0 (x:=n-(e4:Nat)-(mD:Nat)-_) (by omega) (by omega)]
 by_cases g2:((yy:Nat):Int)≤n-(e4:Nat)-(mD:Nat)
 case neg=>rw [pS (by omega),e' (by omega)];rfl
 rw [fz (by omega)];simp only [cond_false]
 try rw [jP (by omega)]
 first | done | exact congrArg (fun v:Int=>some (v,())) (by omega)
theorem apo(x:au.D)(hc:aa.cost au x≤1048576):N3 (x,())=some (x,()):=by
 show N2  x=_
 unfold N2
 rfl
theorem apq(x:(aa.sl au).D)(hc:aa.cost (aa.sl au) x≤1048576):N4 (x,())=some (x,()):=by
 show GF (vI aK) x=_
 unfold GF
 have hl:=iU x
 rw [IN (by omega)];simp only [cond_true]
 refine II x (fun m i y=>vI m x i y) (fun m y=>by
   simp only [vI,GG];rw [b0 (Nat.le_refl _)];rfl) (fun m i y hi a_=>by
   simp only [vI,GG]
   rw [bx hi,ba hi];simp only [cond_true,ak]
   rw [apo _ (by have:=rb (t:=au) hi;omega)];simp only [ak]
   rw [ba (by omega),c0 (x:=(i:Int)+1) (by omega) (by omega)];simp only [ak,Nat.zero_add]) x.length 0 aK _ (by omega) (by rw [fL];omega) (by simp) (by simp)
theorem apr(x:I.D)(hc:aa.cost I x≤1048576):N6 (x,())=some (x,()):=by
 show N5  x=_
 unfold N5
 have hJ:aa.cost I x=x.2.2.2.2.2.1.length +(aa.cost (aa.sl au) x.2.2.2.2.2.2.1):=by simp only [fo,fp,fr,fs,gF,gj,Nat.zero_add,Nat.add_zero]
 rw [hJ] at hc;clear hJ
 generalize e0:aa.cost (aa.sl au) x.2.2.2.2.2.2.1=e4 at hc
 rw [apq _ (by rw [e0];omega)];simp only [ak]
theorem aps(x:(aa.sl I).D)(hc:aa.cost (aa.sl I) x≤1048576):N7 (x,())=some (x,()):=by
 show GI (vJ aK) x=_
 unfold GI
 have hl:=iU x
 rw [IN (by omega)];simp only [cond_true]
 refine II x (fun m i y=>vJ m x i y) (fun m y=>by
   simp only [vJ,GJ];rw [b0 (Nat.le_refl _)];rfl) (fun m i y hi a_=>by
   simp only [vJ,GJ]
   rw [bx hi,ba hi];simp only [cond_true,ak]
   rw [apr _ (by have:=rb (t:=I) hi;omega)];simp only [ak]
   rw [ba (by omega),c0 (x:=(i:Int)+1) (by omega) (by omega)];simp only [ak,Nat.zero_add]) x.length 0 aK _ (by omega) (by rw [fL];omega) (by simp) (by simp)
theorem apt(x:af.D)(hc:aa.cost af x≤1048576):N9 (x,())=some (x,()):=by
 show N8  x=_
 unfold N8
 have hJ:aa.cost af x=aa.cost (aa.sl I) x.2.1:=by simp only [fo,fp,fr,fs,gF,gj,Nat.zero_add,Nat.add_zero]
 rw [hJ] at hc;clear hJ
 generalize e0:aa.cost (aa.sl I) x.2.1=e4 at hc
 rw [aps _ (by rw [e0];omega)];simp only [ak]
theorem apu(x:aE.D)(hc:aa.cost aE x≤1048576):N' (x,())=some (x,()):=by
 show N_  x=_
 unfold N_
 rfl
theorem apv(x:(aa.sl aE).D)(hc:aa.cost (aa.sl aE) x≤1048576):Oa (x,())=some (x,()):=by
 show GL (vK aK) x=_
 unfold GL
 have hl:=iU x
 rw [IN (by omega)];simp only [cond_true]
 refine II x (fun m i y=>vK m x i y) (fun m y=>by
   simp only [vK,GM];rw [b0 (Nat.le_refl _)];rfl) (fun m i y hi a_=>by
   simp only [vK,GM]
   rw [bx hi,ba hi];simp only [cond_true,ak]
   rw [apu _ (by have:=rb (t:=aE) hi;omega)];simp only [ak]
   rw [ba (by omega),c0 (x:=(i:Int)+1) (by omega) (by omega)];simp only [ak,Nat.zero_add]) x.length 0 aK _ (by omega) (by rw [fL];omega) (by simp) (by simp)
theorem apw(x:aA.D)(hc:aa.cost aA x≤1048576):Oc (x,())=some (x,()):=by
 show Ob  x=_
 unfold Ob
 rfl
theorem apx(x:aO.D)(hc:aa.cost aO x≤1048576):Oe (x,())=some (x,()):=by
 show Od  x=_
 unfold Od
 have hJ:aa.cost aO x=aa.cost aA x.2.2.2.1:=by simp only [fo,fp,fr,fs,gF,gj,Nat.zero_add,Nat.add_zero]
 rw [hJ] at hc;clear hJ
 generalize e0:aa.cost aA x.2.2.2.1=e4 at hc
 rw [apw _ (by rw [e0];omega)];simp only [ak]
theorem apy(x:(aa.sl aO).D)(hc:aa.cost (aa.sl aO) x≤1048576):Of (x,())=some (x,()):=by
 show GO (vL aK) x=_
 unfold GO
 have hl:=iU x
 rw [IN (by omega)];simp only [cond_true]
 refine II x (fun m i y=>vL m x i y) (fun m y=>by
   simp only [vL,GP];rw [b0 (Nat.le_refl _)];rfl) (fun m i y hi a_=>by
   simp only [vL,GP]
   rw [bx hi,ba hi];simp only [cond_true,ak]
   rw [apx _ (by have:=rb (t:=aO) hi;omega)];simp only [ak]
   rw [ba (by omega),c0 (x:=(i:Int)+1) (by omega) (by omega)];simp only [ak,Nat.zero_add]) x.length 0 aK _ (by omega) (by rw [fL];omega) (by simp) (by simp)
theorem Q1(x:aM.D)(hc:aa.cost aM x≤1048576):py (x,())=some (x,()):=by
 show Og  x=_
 unfold Og
 have hJ:aa.cost aM x=aa.cost af x.1 +(aa.cost (aa.sl aE) x.2.2.1 +(aa.cost (aa.sl aO) x.2.2.2.1)):=by simp only [fo,fp,fr,fs,gF,gj,Nat.zero_add,Nat.add_zero]
 rw [hJ] at hc;clear hJ
 generalize e0:aa.cost af x.1=e4 at hc
 generalize e1:aa.cost (aa.sl aE) x.2.2.1=mD at hc
 generalize e2:aa.cost (aa.sl aO) x.2.2.2.1=yy at hc
 rw [apt _ (by rw [e0];omega)];simp only [ak]
 rw [apv _ (by rw [e1];omega)];simp only [ak]
 rw [apy _ (by rw [e2];omega)];simp only [ak]
theorem Q2(x:aN.D)(hc:aa.cost aN x≤1048576):j9 (x,())=some (x,()):=by
 show Oh  x=_
 unfold Oh
 rfl
theorem apz(x:au.D)(hc:aa.cost au x≤1099511627776):Oj (x,x,())=some (true,()):=by
 show Oi  x x=_
 unfold Oi
 try simp only [bne_self_eq_false,cond_false,ij,Bool.not_true,beq_self_eq_true,Bool.and_self]
theorem apA(x:(aa.sl au).D)(hc:aa.cost (aa.sl au) x≤1099511627776):Ok (x,x,())=some (true,()):=by
 show GR (vM aK) x x=_
 unfold GR
 have hl:=iU x
 simp only [bne_self_eq_false,cond_false]
 refine IJ x.length (fun m i=>vM m x x i) (fun m=>by
   simp only [vM,GS];rw [b0 (Nat.le_refl _)];rfl) (fun m i hi=>by
   simp only [vM,GS]
   rw [bx hi,ba hi];simp only [cond_true,ak]
   rw [apz _ (by have:=rb (t:=au) hi;omega)]
   simp only [ak,bne_self_eq_false,ij,Bool.not_true,cond_false,beq_self_eq_true]
   rw [c0 (x:=(i:Int)+1) (by omega) (by omega)]) x.length 0 aK (by omega) (by rw [fL];omega)
theorem apB(x:I.D)(hc:aa.cost I x≤1099511627776):Om (x,x,())=some (true,()):=by
 show Ol  x x=_
 unfold Ol
 have hJ:aa.cost I x=x.2.2.2.2.2.1.length +(aa.cost (aa.sl au) x.2.2.2.2.2.2.1):=by simp only [fo,fp,fr,fs,gF,gj,Nat.zero_add,Nat.add_zero]
 rw [hJ] at hc;clear hJ
 generalize e0:aa.cost (aa.sl au) x.2.2.2.2.2.2.1=e4 at hc
 try simp only [bne_self_eq_false,cond_false,ij,Bool.not_true,beq_self_eq_true,Bool.and_self]
 rw [apA x.2.2.2.2.2.2.1 (by rw [e0];omega)];simp only [ak,bne_self_eq_false,cond_false,ij,Bool.not_true,beq_self_eq_true,Bool.and_self]
theorem apC(x:(aa.sl I).D)(hc:aa.cost (aa.sl I) x≤1099511627776):On (x,x,())=some (true,()):=by
 show GV (vN aK) x x=_
 unfold GV
 have hl:=iU x
 simp only [bne_self_eq_false,cond_false]
 refine IJ x.length (fun m i=>vN m x x i) (fun m=>by
   simp only [vN,GW];rw [b0 (Nat.le_refl _)];rfl) (fun m i hi=>by
   simp only [vN,GW]
   rw [bx hi,ba hi];simp only [cond_true,ak]
   rw [apB _ (by have:=rb (t:=I) hi;omega)]
   simp only [ak,bne_self_eq_false,ij,Bool.not_true,cond_false,beq_self_eq_true]
   rw [c0 (x:=(i:Int)+1) (by omega) (by omega)]) x.length 0 aK (by omega) (by rw [fL];omega)
theorem apD(x:af.D)(hc:aa.cost af x≤1099511627776):Oq (x,x,())=some (true,()):=by
 show Oo  x x=_
 unfold Oo
 have hJ:aa.cost af x=aa.cost (aa.sl I) x.2.1:=by simp only [fo,fp,fr,fs,gF,gj,Nat.zero_add,Nat.add_zero]
 rw [hJ] at hc;clear hJ
 generalize e0:aa.cost (aa.sl I) x.2.1=e4 at hc
 try simp only [bne_self_eq_false,cond_false,ij,Bool.not_true,beq_self_eq_true,Bool.and_self]
 rw [apC x.2.1 (by rw [e0];omega)];simp only [ak,bne_self_eq_false,cond_false,ij,Bool.not_true,beq_self_eq_true,Bool.and_self]
theorem apE(x:aE.D)(hc:aa.cost aE x≤1099511627776):Ou (x,x,())=some (true,()):=by
 show Ot  x x=_
 unfold Ot
 try simp only [bne_self_eq_false,cond_false,ij,Bool.not_true,beq_self_eq_true,Bool.and_self]
theorem apF(x:(aa.sl aE).D)(hc:aa.cost (aa.sl aE) x≤1099511627776):Ov (x,x,())=some (true,()):=by
 show GY (vO aK) x x=_
 unfold GY
 have hl:=iU x
 simp only [bne_self_eq_false,cond_false]
 refine IJ x.length (fun m i=>vO m x x i) (fun m=>by
   simp only [vO,GZ];rw [b0 (Nat.le_refl _)];rfl) (fun m i hi=>by
   simp only [vO,GZ]
   rw [bx hi,ba hi];simp only [cond_true,ak]
   rw [apE _ (by have:=rb (t:=aE) hi;omega)]
   simp only [ak,bne_self_eq_false,ij,Bool.not_true,cond_false,beq_self_eq_true]
   rw [c0 (x:=(i:Int)+1) (by omega) (by omega)]) x.length 0 aK (by omega) (by rw [fL];omega)
theorem aa4(x:aA.D)(hc:aa.cost aA x≤1099511627776):x1 (x,x,())=some (true,()):=by
 show Ow  x x=_
 unfold Ow
 try simp only [bne_self_eq_false,cond_false,ij,Bool.not_true,beq_self_eq_true,Bool.and_self]
theorem apG(x:aO.D)(hc:aa.cost aO x≤1099511627776):Oy (x,x,())=some (true,()):=by
 show Ox  x x=_
 unfold Ox
 have hJ:aa.cost aO x=aa.cost aA x.2.2.2.1:=by simp only [fo,fp,fr,fs,gF,gj,Nat.zero_add,Nat.add_zero]
 rw [hJ] at hc;clear hJ
 generalize e0:aa.cost aA x.2.2.2.1=e4 at hc
 try simp only [bne_self_eq_false,cond_false,ij,Bool.not_true,beq_self_eq_true,Bool.and_self]
 rw [aa4 x.2.2.2.1 (by rw [e0];omega)];simp only [ak,bne_self_eq_false,cond_false,ij,Bool.not_true,beq_self_eq_true,Bool.and_self]
theorem apH(x:(aa.sl aO).D)(hc:aa.cost (aa.sl aO) x≤1099511627776):Oz (x,x,())=some (true,()):=by
 show G4 (vP aK) x x=_
 unfold G4
 have hl:=iU x
 simp only [bne_self_eq_false,cond_false]
 refine IJ x.length (fun m i=>vP m x x i) (fun m=>by
   simp only [vP,G5];rw [b0 (Nat.le_refl _)];rfl) (fun m i hi=>by
   simp only [vP,G5]
   rw [bx hi,ba hi];simp only [cond_true,ak]
   rw [apG _ (by have:=rb (t:=aO) hi;omega)]
   simp only [ak,bne_self_eq_false,ij,Bool.not_true,cond_false,beq_self_eq_true]
   rw [c0 (x:=(i:Int)+1) (by omega) (by omega)]) x.length 0 aK (by omega) (by rw [fL];omega)
theorem aa5(x:aM.D)(hc:aa.cost aM x≤1099511627776):x2 (x,x,())=some (true,()):=by
 show OA  x x=_
 unfold OA
 have hJ:aa.cost aM x=aa.cost af x.1 +(aa.cost (aa.sl aE) x.2.2.1 +(aa.cost (aa.sl aO) x.2.2.2.1)):=by simp only [fo,fp,fr,fs,gF,gj,Nat.zero_add,Nat.add_zero]
 rw [hJ] at hc;clear hJ
 generalize e0:aa.cost af x.1=e4 at hc
 generalize e1:aa.cost (aa.sl aE) x.2.2.1=mD at hc
 generalize e2:aa.cost (aa.sl aO) x.2.2.2.1=yy at hc
 try simp only [bne_self_eq_false,cond_false,ij,Bool.not_true,beq_self_eq_true,Bool.and_self]
 rw [apD x.1 (by rw [e0];omega)];simp only [ak,bne_self_eq_false,cond_false,ij,Bool.not_true,beq_self_eq_true,Bool.and_self]
 rw [apF x.2.2.1 (by rw [e1];omega)];simp only [ak,bne_self_eq_false,cond_false,ij,Bool.not_true,beq_self_eq_true,Bool.and_self]
 rw [apH x.2.2.2.1 (by rw [e2];omega)];simp only [ak,bne_self_eq_false,cond_false,ij,Bool.not_true,beq_self_eq_true,Bool.and_self]
set_option maxHeartbeats 4000000 in
theorem apI(m:Nat)(k:Int)(i:Nat)(x:(aa.sl au).D)(hi:i<x.length)(hl:x.length≤1099511627776)(hk:0≤k)(hb:k +(aa.wt au (J au x i):Nat)≤1000000000000000)(hc:aa.cost au (J au x i)≤1099511627776) :
  ∃j y,qW (m+1) k (i:Int) x=qW m j ((i:Int)+1) (x.set i y)∧aa.c2 mt au y k j∧j≤k +(aa.wt au (J au x i):Nat):=by
 simp only [s7,s8,s9,s_,s',ta,tb,tc,td,te,tf,tg,Nat.add_zero] at hb ⊢
 simp only [fo,fp,fr,fs,gF,gj,Nat.zero_add,Nat.add_zero] at hc
 generalize (J au x i).1.length=arL at hc
 refine⟨k+2,(mt (k),k+1,()),?_,⟨k+1,⟨rfl,by omega⟩,⟨k+2,⟨rfl,by omega⟩,rfl⟩⟩,by omega⟩
 have aD:∀z:au.D,J au (x.set i z) i=z:=fun z=>C4 hi
 simp only [qW]
 unfold G_
 simp (disch:=first | omega | (simp only [List.length_set];omega)) only [bx,ba,cond_true,ak,Nat.zero_add,List.length_set,aD,List.set_set,c0,Int.add_assoc,Int.reduceAdd,fN]
 unfold VS
 simp (disch:=first | omega | (simp only [List.length_set];omega)) only [bx,ba,cond_true,ak,Nat.zero_add,List.length_set,aD,List.set_set,c0,Int.add_assoc,Int.reduceAdd,fN]
 unfold VR
 simp (disch:=first | omega | (simp only [List.length_set];omega)) only [bx,ba,cond_true,ak,Nat.zero_add,List.length_set,aD,List.set_set,c0,Int.add_assoc,Int.reduceAdd,fN]
theorem apJ(x:(aa.sl au).D)(k:Int)(hk:0≤k)(hb:k +(aa.wt (aa.sl au) x:Nat)≤1000000000000000)(hc:aa.cost (aa.sl au) x≤1099511627776) :
  ∃k' y,OB (x,k,())=some (k',y,())∧aa.c2 mt (aa.sl au) y k k'∧k'≤k +(aa.wt (aa.sl au) x:Nat):=by
 have hl:x.length≤1099511627776:=by have:=iU x;omega
 rw [IM] at hb ⊢
 obtain ⟨k',y,h1,h2,_,h4,a7⟩:=IK (mt:=mt) (t:=au) x.length hl (fun m k i x=>qW m k i x) (fun m k y a_=>by
   simp only [qW,G_];rw [b0 (by omega)];rfl) (fun m k i y hi a_ hk hb hc=>apI m k i y (by omega) (by omega) hk hb hc) x.length 0 aK k x (by omega) (by rw [fL];omega) rfl hk (by simpa using hb) (fun z hz=>by
   rw [List.drop_zero] at hz
   have h1:=yu (f:=fun y=>aa.cost au y) hz
   rw [oA] at hc
   omega)
 refine⟨k',y,?_,?_,by simpa using a7⟩
 ·show G9 (qW aK) x k=_
  unfold G9
  simpa using h1
 ·rw [th];exact⟨by omega,by simpa using h4⟩
set_option maxHeartbeats 4000000 in
theorem apK(m:Nat)(k:Int)(i:Nat)(x:(aa.sl I).D)(hi:i<x.length)(hl:x.length≤1099511627776)(hk:0≤k)(hb:k +(aa.wt I (J I x i):Nat)≤1000000000000000)(hc:aa.cost I (J I x i)≤1099511627776) :
  ∃j y,qY (m+1) k (i:Int) x=qY m j ((i:Int)+1) (x.set i y)∧aa.c2 mt I y k j∧j≤k +(aa.wt I (J I x i):Nat):=by
 simp only [s7,s8,s9,s_,s',ta,tb,tc,td,te,tf,tg,Nat.add_zero] at hb ⊢
 simp only [fo,fp,fr,fs,gF,gj,Nat.zero_add,Nat.add_zero] at hc
 generalize (J I x i).2.2.2.2.2.1.length=apL at hc
 generalize Bp:aa.wt (aa.sl au) (J I x i).2.2.2.2.2.2.1=W1 at hb ⊢
 generalize Q3:aa.cost (aa.sl au) (J I x i).2.2.2.2.2.2.1=mD at hc
 obtain ⟨k1,zr,h1,pT,dn⟩:=apJ (J I x i).2.2.2.2.2.2.1 (k+6) (by omega) (by rw [Bp];omega) (by rw [Q3];omega)
 rw [Bp] at dn
 have aa6:=aa.hI _ pT
 refine⟨k1+2,(k,k+1,k+2,k+3,k+4,mt (k+5),zr,k1,k1+1,()),?_,⟨k+1,⟨rfl,by omega⟩,⟨k+2,⟨rfl,by omega⟩,⟨k+3,⟨rfl,by omega⟩,⟨k+4,⟨rfl,by omega⟩,⟨k+5,⟨rfl,by omega⟩,⟨k+6,⟨rfl,by omega⟩,⟨k1,pT,⟨k1+1,⟨rfl,by omega⟩,⟨k1+2,⟨rfl,by omega⟩,rfl⟩⟩⟩⟩⟩⟩⟩⟩⟩,by omega⟩
 have aD:∀z:I.D,J I (x.set i z) i=z:=fun z=>C4 hi
 simp only [qY]
 unfold Ha
 simp (disch:=first | omega | (simp only [List.length_set];omega)) only [bx,ba,cond_true,ak,Nat.zero_add,List.length_set,aD,List.set_set,c0,Int.add_assoc,Int.reduceAdd,fN,h1]
 unfold V1
 simp (disch:=first | omega | (simp only [List.length_set];omega)) only [bx,ba,cond_true,ak,Nat.zero_add,List.length_set,aD,List.set_set,c0,Int.add_assoc,Int.reduceAdd,fN,h1]
 unfold V0
 simp (disch:=first | omega | (simp only [List.length_set];omega)) only [bx,ba,cond_true,ak,Nat.zero_add,List.length_set,aD,List.set_set,c0,Int.add_assoc,Int.reduceAdd,fN,h1]
 unfold VZ
 simp (disch:=first | omega | (simp only [List.length_set];omega)) only [bx,ba,cond_true,ak,Nat.zero_add,List.length_set,aD,List.set_set,c0,Int.add_assoc,Int.reduceAdd,fN,h1]
 unfold VY
 simp (disch:=first | omega | (simp only [List.length_set];omega)) only [bx,ba,cond_true,ak,Nat.zero_add,List.length_set,aD,List.set_set,c0,Int.add_assoc,Int.reduceAdd,fN,h1]
 unfold VX
 simp (disch:=first | omega | (simp only [List.length_set];omega)) only [bx,ba,cond_true,ak,Nat.zero_add,List.length_set,aD,List.set_set,c0,Int.add_assoc,Int.reduceAdd,fN,h1]
 unfold VW
 simp (disch:=first | omega | (simp only [List.length_set];omega)) only [bx,ba,cond_true,ak,Nat.zero_add,List.length_set,aD,List.set_set,c0,Int.add_assoc,Int.reduceAdd,fN,h1]
 unfold VV
 simp (disch:=first | omega | (simp only [List.length_set];omega)) only [bx,ba,cond_true,ak,Nat.zero_add,List.length_set,aD,List.set_set,c0,Int.add_assoc,Int.reduceAdd,fN,h1]
 unfold VU
 simp (disch:=first | omega | (simp only [List.length_set];omega)) only [bx,ba,cond_true,ak,Nat.zero_add,List.length_set,aD,List.set_set,c0,Int.add_assoc,Int.reduceAdd,fN,h1]
 unfold VT
 simp (disch:=first | omega | (simp only [List.length_set];omega)) only [bx,ba,cond_true,ak,Nat.zero_add,List.length_set,aD,List.set_set,c0,Int.add_assoc,Int.reduceAdd,fN,h1]
theorem apM(x:(aa.sl I).D)(k:Int)(hk:0≤k)(hb:k +(aa.wt (aa.sl I) x:Nat)≤1000000000000000)(hc:aa.cost (aa.sl I) x≤1099511627776) :
  ∃k' y,OC (x,k,())=some (k',y,())∧aa.c2 mt (aa.sl I) y k k'∧k'≤k +(aa.wt (aa.sl I) x:Nat):=by
 have hl:x.length≤1099511627776:=by have:=iU x;omega
 rw [IM] at hb ⊢
 obtain ⟨k',y,h1,h2,_,h4,a7⟩:=IK (mt:=mt) (t:=I) x.length hl (fun m k i x=>qY m k i x) (fun m k y a_=>by
   simp only [qY,Ha];rw [b0 (by omega)];rfl) (fun m k i y hi a_ hk hb hc=>apK m k i y (by omega) (by omega) hk hb hc) x.length 0 aK k x (by omega) (by rw [fL];omega) rfl hk (by simpa using hb) (fun z hz=>by
   rw [List.drop_zero] at hz
   have h1:=yu (f:=fun y=>aa.cost I y) hz
   rw [oA] at hc
   omega)
 refine⟨k',y,?_,?_,by simpa using a7⟩
 ·show G' (qY aK) x k=_
  unfold G'
  simpa using h1
 ·rw [th];exact⟨by omega,by simpa using h4⟩
def yz(y:af.D)(k k':Int):Prop:=aa.c2 mt (aa.sl I) y.2.1 k k'
theorem apN(x:af.D)(k:Int)(hk:0≤k)(hb:k +(aa.wt af x:Nat)≤1000000000000000)(hc:aa.cost af x≤1099511627776) :
  ∃k' y,Hb (x,k,())=some (k',y,())∧yz y k k'∧k'≤k +(aa.wt af x:Nat)∧(x.1,y.2.1,())=y:=by
 simp only [s7,s8,s9,s_,s',ta,Nat.add_zero] at hb ⊢
 simp only [fo,fp,fr,fs,gF,gj,Nat.zero_add,Nat.add_zero] at hc
 generalize Bq:aa.wt (aa.sl I) x.2.1=apO at hb ⊢
 generalize Q4:aa.cost (aa.sl I) x.2.1=e4 at hc
 obtain ⟨jY,Q5,h0,Br,Q6⟩:=apM x.2.1 k (by omega) (by rw [Bq];omega) (by rw [Q4];omega)
 have apP:=aa.hI _ Br
 rw [Bq] at Q6
 have e:Hb (x,k,())=some (jY,(x.1,Q5,()),()):=by
  show OD x k=_
  unfold OD
  simp only [h0,ak]
 refine⟨_,_,e,Br,by omega,rfl⟩
theorem Q7{y:af.D}{k k':Int}(h:yz y k k'):k≤k':=by
 unfold yz at h
 have h0:=h
 have:=aa.hI _ h0
 omega
set_option maxHeartbeats 4000000 in
theorem apQ(m:Nat)(k:Int)(i:Nat)(x:(aa.sl aE).D)(hi:i<x.length)(hl:x.length≤1099511627776)(hk:0≤k)(hb:k +(aa.wt aE (J aE x i):Nat)≤1000000000000000)(hc:aa.cost aE (J aE x i)≤1099511627776) :
  ∃j y,q0 (m+1) k (i:Int) x=q0 m j ((i:Int)+1) (x.set i y)∧aa.c2 mt aE y k j∧j≤k +(aa.wt aE (J aE x i):Nat):=by
 simp only [s7,s8,s9,s_,s',ta,tb,tc,td,te,tf,tg,Nat.add_zero] at hb ⊢
 simp only [fo,fp,fr,fs,gF,gj,Nat.zero_add,Nat.add_zero] at hc
 refine⟨k+5,(k,k+1,k+2,k+3,k+4,()),?_,⟨k+1,⟨rfl,by omega⟩,⟨k+2,⟨rfl,by omega⟩,⟨k+3,⟨rfl,by omega⟩,⟨k+4,⟨rfl,by omega⟩,⟨k+5,⟨rfl,by omega⟩,rfl⟩⟩⟩⟩⟩,by omega⟩
 have aD:∀z:aE.D,J aE (x.set i z) i=z:=fun z=>C4 hi
 simp only [q0]
 unfold Hd
 simp (disch:=first | omega | (simp only [List.length_set];omega)) only [bx,ba,cond_true,ak,Nat.zero_add,List.length_set,aD,List.set_set,c0,Int.add_assoc,Int.reduceAdd,fN]
 unfold V6
 simp (disch:=first | omega | (simp only [List.length_set];omega)) only [bx,ba,cond_true,ak,Nat.zero_add,List.length_set,aD,List.set_set,c0,Int.add_assoc,Int.reduceAdd,fN]
 unfold V5
 simp (disch:=first | omega | (simp only [List.length_set];omega)) only [bx,ba,cond_true,ak,Nat.zero_add,List.length_set,aD,List.set_set,c0,Int.add_assoc,Int.reduceAdd,fN]
 unfold V4
 simp (disch:=first | omega | (simp only [List.length_set];omega)) only [bx,ba,cond_true,ak,Nat.zero_add,List.length_set,aD,List.set_set,c0,Int.add_assoc,Int.reduceAdd,fN]
 unfold V3
 simp (disch:=first | omega | (simp only [List.length_set];omega)) only [bx,ba,cond_true,ak,Nat.zero_add,List.length_set,aD,List.set_set,c0,Int.add_assoc,Int.reduceAdd,fN]
 unfold V2
 simp (disch:=first | omega | (simp only [List.length_set];omega)) only [bx,ba,cond_true,ak,Nat.zero_add,List.length_set,aD,List.set_set,c0,Int.add_assoc,Int.reduceAdd,fN]
theorem apR(x:(aa.sl aE).D)(k:Int)(hk:0≤k)(hb:k +(aa.wt (aa.sl aE) x:Nat)≤1000000000000000)(hc:aa.cost (aa.sl aE) x≤1099511627776) :
  ∃k' y,OE (x,k,())=some (k',y,())∧aa.c2 mt (aa.sl aE) y k k'∧k'≤k +(aa.wt (aa.sl aE) x:Nat):=by
 have hl:x.length≤1099511627776:=by have:=iU x;omega
 rw [IM] at hb ⊢
 obtain ⟨k',y,h1,h2,_,h4,a7⟩:=IK (mt:=mt) (t:=aE) x.length hl (fun m k i x=>q0 m k i x) (fun m k y a_=>by
   simp only [q0,Hd];rw [b0 (by omega)];rfl) (fun m k i y hi a_ hk hb hc=>apQ m k i y (by omega) (by omega) hk hb hc) x.length 0 aK k x (by omega) (by rw [fL];omega) rfl hk (by simpa using hb) (fun z hz=>by
   rw [List.drop_zero] at hz
   have h1:=yu (f:=fun y=>aa.cost aE y) hz
   rw [oA] at hc
   omega)
 refine⟨k',y,?_,?_,by simpa using a7⟩
 ·show Hc (q0 aK) x k=_
  unfold Hc
  simpa using h1
 ·rw [th];exact⟨by omega,by simpa using h4⟩
set_option maxHeartbeats 4000000 in
theorem apS(m:Nat)(k:Int)(i:Nat)(x:(aa.sl aO).D)(hi:i<x.length)(hl:x.length≤1099511627776)(hk:0≤k)(hb:k +(aa.wt aO (J aO x i):Nat)≤1000000000000000)(hc:aa.cost aO (J aO x i)≤1099511627776) :
  ∃j y,q2 (m+1) k (i:Int) x=q2 m j ((i:Int)+1) (x.set i y)∧aa.c2 mt aO y k j∧j≤k +(aa.wt aO (J aO x i):Nat):=by
 simp only [s7,s8,s9,s_,s',ta,tb,tc,td,te,tf,tg,Nat.add_zero] at hb ⊢
 simp only [fo,fp,fr,fs,gF,gj,Nat.zero_add,Nat.add_zero] at hc
 generalize (J aO x i).2.2.2.1.2.1.length=apL at hc
 refine⟨k+5,(k,k+1,k+2,(k+3,mt (k+4),()),()),?_,⟨k+1,⟨rfl,by omega⟩,⟨k+2,⟨rfl,by omega⟩,⟨k+3,⟨rfl,by omega⟩,⟨k+5,⟨k+4,⟨rfl,by omega⟩,⟨k+5,⟨rfl,by omega⟩,rfl⟩⟩,rfl⟩⟩⟩⟩,by omega⟩
 have aD:∀z:aO.D,J aO (x.set i z) i=z:=fun z=>C4 hi
 simp only [q2]
 unfold Hf
 simp (disch:=first | omega | (simp only [List.length_set];omega)) only [bx,ba,cond_true,ak,Nat.zero_add,List.length_set,aD,List.set_set,c0,Int.add_assoc,Int.reduceAdd,fN]
 unfold V'
 simp (disch:=first | omega | (simp only [List.length_set];omega)) only [bx,ba,cond_true,ak,Nat.zero_add,List.length_set,aD,List.set_set,c0,Int.add_assoc,Int.reduceAdd,fN]
 unfold V_
 simp (disch:=first | omega | (simp only [List.length_set];omega)) only [bx,ba,cond_true,ak,Nat.zero_add,List.length_set,aD,List.set_set,c0,Int.add_assoc,Int.reduceAdd,fN]
 unfold V9
 simp (disch:=first | omega | (simp only [List.length_set];omega)) only [bx,ba,cond_true,ak,Nat.zero_add,List.length_set,aD,List.set_set,c0,Int.add_assoc,Int.reduceAdd,fN]
 unfold V8
 simp (disch:=first | omega | (simp only [List.length_set];omega)) only [bx,ba,cond_true,ak,Nat.zero_add,List.length_set,aD,List.set_set,c0,Int.add_assoc,Int.reduceAdd,fN]
 unfold V7
 simp (disch:=first | omega | (simp only [List.length_set];omega)) only [bx,ba,cond_true,ak,Nat.zero_add,List.length_set,aD,List.set_set,c0,Int.add_assoc,Int.reduceAdd,fN]
theorem apT(x:(aa.sl aO).D)(k:Int)(hk:0≤k)(hb:k +(aa.wt (aa.sl aO) x:Nat)≤1000000000000000)(hc:aa.cost (aa.sl aO) x≤1099511627776) :
  ∃k' y,OF (x,k,())=some (k',y,())∧aa.c2 mt (aa.sl aO) y k k'∧k'≤k +(aa.wt (aa.sl aO) x:Nat):=by
 have hl:x.length≤1099511627776:=by have:=iU x;omega
 rw [IM] at hb ⊢
 obtain ⟨k',y,h1,h2,_,h4,a7⟩:=IK (mt:=mt) (t:=aO) x.length hl (fun m k i x=>q2 m k i x) (fun m k y a_=>by
   simp only [q2,Hf];rw [b0 (by omega)];rfl) (fun m k i y hi a_ hk hb hc=>apS m k i y (by omega) (by omega) hk hb hc) x.length 0 aK k x (by omega) (by rw [fL];omega) rfl hk (by simpa using hb) (fun z hz=>by
   rw [List.drop_zero] at hz
   have h1:=yu (f:=fun y=>aa.cost aO y) hz
   rw [oA] at hc
   omega)
 refine⟨k',y,?_,?_,by simpa using a7⟩
 ·show He (q2 aK) x k=_
  unfold He
  simpa using h1
 ·rw [th];exact⟨by omega,by simpa using h4⟩
def Bs(y:aM.D)(k k':Int):Prop:=∃IP,yz y.1 k IP∧∃jD,aa.c2 mt (aa.sl aE) y.2.2.1 IP jD∧aa.c2 mt (aa.sl aO) y.2.2.2.1 jD k'
theorem aa7(x:aM.D)(k:Int)(hk:0≤k)(hb:k +(aa.wt aM x:Nat)≤1000000000000000)(hc:aa.cost aM x≤1099511627776) :
  ∃k' y,AF (x,k,())=some (k',y,())∧Bs y k k'∧k'≤k +(aa.wt aM x:Nat)∧((x.1.1,y.1.2.1,()),x.2.1,y.2.2.1,y.2.2.2.1,())=y:=by
 simp only [s7,s8,s9,s_,s',ta,Nat.add_zero] at hb ⊢
 simp only [fo,fp,fr,fs,gF,gj,Nat.zero_add,Nat.add_zero] at hc
 generalize Bq:aa.wt (aa.sl I) x.1.2.1=apO at hb ⊢
 generalize Q4:aa.cost (aa.sl I) x.1.2.1=e4 at hc
 generalize Bp:aa.wt (aa.sl aE) x.2.2.1=W1 at hb ⊢
 generalize Q3:aa.cost (aa.sl aE) x.2.2.1=mD at hc
 generalize aa8:aa.wt (aa.sl aO) x.2.2.2.1=W2 at hb ⊢
 generalize apU:aa.cost (aa.sl aO) x.2.2.2.1=yy at hc
 obtain ⟨jY,Q5,h0,Br,Q6,e0⟩:=apN x.1 k (by omega) (by simp only [s7,s8,s9,s_,s',ta,Nat.add_zero,Bq];omega) (by simp only [fo,fp,fr,fs,gF,gj,Nat.zero_add,Nat.add_zero,Q4];omega)
 have apP:=Q7 Br
 simp only [s7,s8,s9,s_,s',ta,Nat.add_zero,Bq] at Q6
 obtain ⟨k1,zr,h1,pT,dn⟩:=apR x.2.2.1 jY (by omega) (by rw [Bp];omega) (by rw [Q3];omega)
 have aa6:=aa.hI _ pT
 rw [Bp] at dn
 obtain ⟨k2,apV,h2,CB,eh⟩:=apT x.2.2.2.1 k1 (by omega) (by rw [aa8];omega) (by rw [apU];omega)
 have arM:=aa.hI _ CB
 rw [aa8] at eh
 have e:AF (x,k,())=some (k2,(Q5,x.2.1,zr,apV,()),()):=by
  show OG x k=_
  unfold OG
  simp only [h0,h1,h2,e0,ak]
 refine⟨_,_,e,⟨_,Br,_,pT,CB⟩,by omega,by simp only [e0]⟩
theorem aa9{y:aM.D}{k k':Int}(h:Bs y k k'):k≤k':=by
 unfold Bs at h
 obtain ⟨IP,h0,jD,h1,h2⟩:=h
 have:=Q7 h0
 have:=aa.hI _ h1
 have:=aa.hI _ h2
 omega
set_option maxHeartbeats 4000000 in
theorem apW(m:Nat)(k j:Int)(i:Nat)(x:(aa.sl au).D)(hi:i<x.length)(hl:x.length≤1099511627776)(hk:0≤k)(hj:j≤1000000000000000)(hm:aa.c2 mt au (J au x i) k j) :
  q3 (m+1) x k (i:Int)=q3 m x j ((i:Int)+1):=by
 have AV:=aa.hI _ hm
 simp only [tb,tc,td,te,tf,tg] at hm
 obtain ⟨_,⟨e1,rfl⟩,_,⟨e2,rfl⟩,rfl⟩:=hm
 simp only [Int.add_assoc,Int.reduceAdd] at *
 simp only [q3]
 unfold Hi
 simp (disch:=omega) only [bx,ba,cond_true,cond_false,ak,Nat.zero_add,c0,Int.add_assoc,Int.reduceAdd,fN,bne_self_eq_false,ij,Bool.not_true,beq_self_eq_true,fz,e1,e2]
theorem apX(x:(aa.sl au).D)(k k':Int)(hk:0≤k)(eN:k'≤1000000000000000)(hm:aa.c2 mt (aa.sl au) x k k'):OH (x,k,())=some (k',()):=by
 rw [th] at hm
 obtain ⟨hl,hm⟩:=hm
 have h1:=IL (mt:=mt) (t:=au) x (fun m k i=>q3 m x k i) (fun m k=>by
   simp only [q3,Hi];rw [b0 (Nat.le_refl _)];rfl) (fun m k j i hi hk hj hm=>apW m k j i x hi hl hk hj hm) x.length 0 aK k k' (by omega) (by rw [fL];omega) hk eN (by simpa using hm)
 show Hh (q3 aK) x k=_
 unfold Hh
 simpa using h1
set_option maxHeartbeats 4000000 in
theorem apY(m:Nat)(k j:Int)(i:Nat)(x:(aa.sl I).D)(hi:i<x.length)(hl:x.length≤1099511627776)(hk:0≤k)(hj:j≤1000000000000000)(hm:aa.c2 mt I (J I x i) k j) :
  q4 (m+1) x k (i:Int)=q4 m x j ((i:Int)+1):=by
 have AV:=aa.hI _ hm
 simp only [tb,tc,td,te,tf,tg] at hm
 obtain ⟨_,⟨e1,rfl⟩,_,⟨e2,rfl⟩,_,⟨e3,rfl⟩,_,⟨eH,rfl⟩,_,⟨lk,rfl⟩,_,⟨BX,rfl⟩,_,pT,_,⟨apZ,rfl⟩,_,⟨ap0,rfl⟩,rfl⟩:=hm
 have aa6:=aa.hI _ pT
 have h1:=apX _ _ _ (by omega) (by omega) pT
 simp only [Int.add_assoc,Int.reduceAdd] at *
 simp only [q4]
 unfold Hl
 simp (disch:=omega) only [bx,ba,cond_true,cond_false,ak,Nat.zero_add,c0,Int.add_assoc,Int.reduceAdd,fN,bne_self_eq_false,ij,Bool.not_true,beq_self_eq_true,fz,e1,e2,e3,eH,lk,BX,apZ,ap0,h1]
theorem ap1(x:(aa.sl I).D)(k k':Int)(hk:0≤k)(eN:k'≤1000000000000000)(hm:aa.c2 mt (aa.sl I) x k k'):OI (x,k,())=some (k',()):=by
 rw [th] at hm
 obtain ⟨hl,hm⟩:=hm
 have h1:=IL (mt:=mt) (t:=I) x (fun m k i=>q4 m x k i) (fun m k=>by
   simp only [q4,Hl];rw [b0 (Nat.le_refl _)];rfl) (fun m k j i hi hk hj hm=>apY m k j i x hi hl hk hj hm) x.length 0 aK k k' (by omega) (by rw [fL];omega) hk eN (by simpa using hm)
 show Hk (q4 aK) x k=_
 unfold Hk
 simpa using h1
theorem ap2(x:af.D)(k k':Int)(hk:0≤k)(eN:k'≤1000000000000000)(hm:yz x k k'):OK (x,k,())=some (k',()):=by
 unfold yz at hm
 have h0:=hm
 have g0:=aa.hI _ h0
 show OJ x k=_
 unfold OJ
 rw [ap1 _ _ _ (by omega) (by omega) h0];simp only [ak];rw [fz (by omega)];simp only [cond_false]
set_option maxHeartbeats 4000000 in
theorem ap3(m:Nat)(k j:Int)(i:Nat)(x:(aa.sl aE).D)(hi:i<x.length)(hl:x.length≤1099511627776)(hk:0≤k)(hj:j≤1000000000000000)(hm:aa.c2 mt aE (J aE x i) k j) :
  q5 (m+1) x k (i:Int)=q5 m x j ((i:Int)+1):=by
 have AV:=aa.hI _ hm
 simp only [tb,tc,td,te,tf,tg] at hm
 obtain ⟨_,⟨e1,rfl⟩,_,⟨e2,rfl⟩,_,⟨e3,rfl⟩,_,⟨eH,rfl⟩,_,⟨lk,rfl⟩,rfl⟩:=hm
 simp only [Int.add_assoc,Int.reduceAdd] at *
 simp only [q5]
 unfold Ho
 simp (disch:=omega) only [bx,ba,cond_true,cond_false,ak,Nat.zero_add,c0,Int.add_assoc,Int.reduceAdd,fN,bne_self_eq_false,ij,Bool.not_true,beq_self_eq_true,fz,e1,e2,e3,eH,lk]
theorem ap4(x:(aa.sl aE).D)(k k':Int)(hk:0≤k)(eN:k'≤1000000000000000)(hm:aa.c2 mt (aa.sl aE) x k k'):OL (x,k,())=some (k',()):=by
 rw [th] at hm
 obtain ⟨hl,hm⟩:=hm
 have h1:=IL (mt:=mt) (t:=aE) x (fun m k i=>q5 m x k i) (fun m k=>by
   simp only [q5,Ho];rw [b0 (Nat.le_refl _)];rfl) (fun m k j i hi hk hj hm=>ap3 m k j i x hi hl hk hj hm) x.length 0 aK k k' (by omega) (by rw [fL];omega) hk eN (by simpa using hm)
 show Hn (q5 aK) x k=_
 unfold Hn
 simpa using h1
set_option maxHeartbeats 4000000 in
theorem ap5(m:Nat)(k j:Int)(i:Nat)(x:(aa.sl aO).D)(hi:i<x.length)(hl:x.length≤1099511627776)(hk:0≤k)(hj:j≤1000000000000000)(hm:aa.c2 mt aO (J aO x i) k j) :
  q6 (m+1) x k (i:Int)=q6 m x j ((i:Int)+1):=by
 have AV:=aa.hI _ hm
 simp only [tb,tc,td,te,tf,tg] at hm
 obtain ⟨_,⟨e1,rfl⟩,_,⟨e2,rfl⟩,_,⟨e3,rfl⟩,_,⟨_,⟨eH,rfl⟩,_,⟨lk,rfl⟩,rfl⟩,rfl⟩:=hm
 simp only [Int.add_assoc,Int.reduceAdd] at *
 simp only [q6]
 unfold Hr
 simp (disch:=omega) only [bx,ba,cond_true,cond_false,ak,Nat.zero_add,c0,Int.add_assoc,Int.reduceAdd,fN,bne_self_eq_false,ij,Bool.not_true,beq_self_eq_true,fz,e1,e2,e3,eH,lk]
theorem ap6(x:(aa.sl aO).D)(k k':Int)(hk:0≤k)(eN:k'≤1000000000000000)(hm:aa.c2 mt (aa.sl aO) x k k'):OM (x,k,())=some (k',()):=by
 rw [th] at hm
 obtain ⟨hl,hm⟩:=hm
 have h1:=IL (mt:=mt) (t:=aO) x (fun m k i=>q6 m x k i) (fun m k=>by
   simp only [q6,Hr];rw [b0 (Nat.le_refl _)];rfl) (fun m k j i hi hk hj hm=>ap5 m k j i x hi hl hk hj hm) x.length 0 aK k k' (by omega) (by rw [fL];omega) hk eN (by simpa using hm)
 show Hq (q6 aK) x k=_
 unfold Hq
 simpa using h1
theorem ap7(x:aM.D)(k k':Int)(hk:0≤k)(eN:k'≤1000000000000000)(hm:Bs x k k'):AG (x,k,())=some (k',()):=by
 unfold Bs at hm
 obtain ⟨IP,h0,jD,h1,h2⟩:=hm
 have g0:=Q7 h0
 have g1:=aa.hI _ h1
 have g2:=aa.hI _ h2
 show ON x k=_
 unfold ON
 rw [ap2 _ _ _ (by omega) (by omega) h0];simp only [ak];rw [fz (by omega)];simp only [cond_false]
 rw [ap4 _ _ _ (by omega) (by omega) h1];simp only [ak];rw [fz (by omega)];simp only [cond_false]
 rw [ap6 _ _ _ (by omega) (by omega) h2];simp only [ak];rw [fz (by omega)];simp only [cond_false]
end Go.LM.jH
