/- The verifier's own functions as plain laws; loops as recursion. Conditions: each theorem's own hypotheses. -/
import Derived.Test.YtklmgcjamifmaaaGreatDoorELmd
import Derived.Test.YtklmgcjamifmaaaGreatDoorEVa
set_option linter.unusedVariables false
set_option linter.unusedSimpArgs false
namespace Go.LM
theorem BIG_eq:BIG=18446744073709551616:=by unfold BIG;rfl
theorem lt_t{i n:Nat}(h:i<n):decide ((i:Int)<(n:Int))=true:=by simp;omega
theorem lt_f{i n:Nat}(h:n≤i):decide ((i:Int)<(n:Int))=false:=by simp;omega
theorem dec_f{p:Prop}[Decidable p](h:¬p):decide p=false:=by simp [h]
theorem dec_t{p:Prop}[Decidable p](h:p):decide p=true:=by simp [h]
theorem fuel{k m:Nat}(h:k<m):∃q,m=q+1∧k≤q:=⟨m-1,by omega,by omega⟩
mutual
def Ty.cost:(t:Ty)→t.D→Nat
 | .raw,_=>0
 | .int _,_=>0
 | .bool,_=>0
 | .str,x=>List.length x
 | .sl t,xs=>List.length xs +(xs.map fun y=>t.cost y).sum
 | .st ts,x=>ts.cost x
def Tys.cost:(ts:Tys)→ts.D→Nat
 | .nil,_=>0
 | .cons t ts,x=>t.cost x.1+ts.cost x.2
end
mutual
def Ty.wt:(t:Ty)→t.D→Nat
 | .raw,_=>1
 | .int _,_=>1
 | .bool,_=>1
 | .str,_=>1
 | .sl t,xs=>(xs.map fun y=>t.wt y).sum
 | .st ts,x=>ts.wt x
def Tys.wt:(ts:Tys)→ts.D→Nat
 | .nil,_=>0
 | .cons t ts,x=>t.wt x.1+ts.wt x.2
end
theorem sum_mem{α : Type}{f : α → Nat}{y : α} : ∀ {l:List α},y∈l→f y≤(l.map f).sum
 | x :: l,h=>by
  rcases List.mem_cons.1 h with rfl | h
  ·simp
  ·have:=sum_mem (f:=f) h;simp;omega
theorem cost_len{t:Ty}(l:List t.D):l.length≤Ty.cost (.sl t) l:=by simp only [Ty.cost];omega
theorem gd_mem{t:Ty}{l:List t.D}{i:Nat}(h:i<l.length):gd t l i∈l:=by rw [gd_eq_get h];exact List.getElem_mem h
theorem cost_get{t:Ty}{l:List t.D}{i:Nat}(h:i<l.length):l.length+t.cost (gd t l i)≤Ty.cost (.sl t) l:=by
 simp only [Ty.cost]
 have:=sum_mem (f:=fun y=>t.cost y) (gd_mem h)
 omega
theorem drop_cons{t:Ty}{l:List t.D}{i:Nat}(h:i<l.length):l.drop i=gd t l i :: l.drop (i+1):=by
 rw [gd_eq_get h];exact List.drop_eq_getElem_cons h
def szR(c:Nat)(n:Int):Int:=if(c:Int)≤n then n-c else -1
theorem szR_ok{c:Nat}{n:Int}(h:(c:Int)≤n):szR c n=n-c:=if_pos h
theorem szR_no{c:Nat}{n:Int}(h:¬(c:Int)≤n):szR c n = -1:=if_neg h
theorem sz_loop{t:Ty}(l:List t.D)(L:Nat→Int→Int→Option (Int×Unit))(hl:l.length≤1048576)
  (h0:∀m n,L (m+1) n (l.length:Int)=some (n,()))
  (hs:∀m n (i:Nat),i<l.length→0≤n→n≤1048576→L (m+1) n (i:Int)=cond (decide (szR (t.cost (gd t l i)) n<0)) (some (-1,())) (L m (szR (t.cost (gd t l i)) n) ((i:Int)+1))) :
  ∀(r i m:Nat) (n:Int),i+r=l.length→r<m→0≤n→n≤1048576→L m n (i:Int)=some (szR ((l.drop i).map fun y=>t.cost y).sum n,()):=by
 intro r
 induction r with
 | zero =>
  intro i m n hi hm h1 h2
  obtain ⟨m,rfl,_⟩:=fuel hm
  have:i=l.length:=by omega
  subst this
  rw [h0,List.drop_of_length_le (by omega)]
  rw [szR_ok (by simpa using h1)]
  simp
 | succ r ih =>
  intro i m n hi hm h1 h2
  obtain ⟨m,rfl,hq⟩:=fuel hm
  have hlt:i<l.length:=by omega
  rw [hs m n i hlt h1 h2,drop_cons hlt]
  simp only [List.map_cons,List.sum_cons]
  by_cases hc:((t.cost (gd t l i):Nat):Int)≤n
  ·rw [szR_ok hc,dec_f (by omega)]
   have:=ih (i+1) m (n-(t.cost (gd t l i):Nat)) (by omega) (by omega) (by omega) (by omega)
   simp only [Int.natCast_add,Int.cast_ofNat_Int] at this
   simp only [cond_false]
   rw [this]
   unfold szR
   by_cases hd:((((l.drop (i+1)).map fun y=>t.cost y).sum:Nat):Int)≤n-(t.cost (gd t l i):Nat)
   ·rw [if_pos hd,if_pos (by omega)];congr 1;congr 1;omega
   ·rw [if_neg hd,if_neg (by omega)]
  ·rw [szR_no hc,szR_no (by omega)]
   rfl
theorem copy_loop{t:Ty}(l:List t.D)(L:Nat→Int→List t.D→Option (List t.D×Unit))
  (h0:∀m x,L (m+1) (l.length:Int) x=some (x,()))
  (hs:∀m (i:Nat) x,i<l.length→x.length=l.length→L (m+1) (i:Int) x=L m ((i:Int)+1) (x.set i (gd t l i))) :
  ∀(r i m:Nat) (x:List t.D),i+r=l.length→r<m→x.length=l.length→x.take i=l.take i→L m (i:Int) x=some (l,()):=by
 intro r
 induction r with
 | zero =>
  intro i m x hi hm hx ht
  obtain ⟨m,rfl,_⟩:=fuel hm
  have:i=l.length:=by omega
  subst this
  rw [h0]
  rw [List.take_of_length_le (by omega),List.take_of_length_le (by omega)] at ht
  rw [ht]
 | succ r ih =>
  intro i m x hi hm hx ht
  obtain ⟨m,rfl,hq⟩:=fuel hm
  have hlt:i<l.length:=by omega
  rw [hs m i x hlt hx]
  have:=ih (i+1) m (x.set i (gd t l i)) (by omega) (by omega) (by simpa using hx) (by
   rw [gd_eq_get hlt,List.take_succ_eq_append_getElem hlt,← ht,List.take_succ_eq_append_getElem (by simpa using hx ▸ hlt),List.take_set_of_le (by omega)]
   simp)
  simpa only [Int.natCast_add,Int.cast_ofNat_Int] using this
theorem eq_loop(n:Nat)(L:Nat→Int→Option (Bool×Unit))
  (h0:∀m,L (m+1) (n:Int)=some (true,()))
  (hs:∀m (i:Nat),i<n→L (m+1) (i:Int)=L m ((i:Int)+1)) :
  ∀(r i m:Nat),i+r=n→r<m→L m (i:Int)=some (true,()):=by
 intro r
 induction r with
 | zero =>
  intro i m hi hm
  obtain ⟨m,rfl,_⟩:=fuel hm
  have:i=n:=by omega
  subst this
  exact h0 m
 | succ r ih =>
  intro i m hi hm
  obtain ⟨m,rfl,hq⟩:=fuel hm
  rw [hs m i (by omega)]
  have:=ih (i+1) m (by omega) (by omega)
  simpa only [Int.natCast_add,Int.cast_ofNat_Int] using this
def MkL{α : Type}(M : α → Int→Int→Prop):List α → Int→Int→Prop
 | [],k,k'=>k'=k
 | y :: ys,k,k'=>∃j,M y k j∧MkL M ys j k'
mutual
def Ty.Mk(mt:Int→List UInt8):(t:Ty)→t.D→Int→Int→Prop
 | .raw,_,k,k'=>k'=k+1
 | .int _,y,k,k'=>y=k∧k'=k+1
 | .bool,y,k,k'=>y=(Int.tmod k 3==0)∧k'=k+1
 | .str,y,k,k'=>y=mt k∧k'=k+1
 | .sl t,y,k,k'=>List.length y≤1099511627776∧MkL (fun y k k'=>t.Mk mt y k k') y k k'
 | .st ts,y,k,k'=>ts.Mk mt y k k'
def Tys.Mk(mt:Int→List UInt8):(ts:Tys)→ts.D→Int→Int→Prop
 | .nil,_,k,k'=>k'=k
 | .cons t ts,y,k,k'=>∃j,t.Mk mt y.1 k j∧ts.Mk mt y.2 j k'
end
theorem MkL_mono{α : Type}{M : α → Int→Int→Prop}(hM:∀y k k',M y k k'→k≤k'):∀ {l:List α} {k k':Int},MkL M l k k'→k≤k'
 | [],k,k',h=>by simp only [MkL] at h;omega
 | y :: ys,k,k',h=>by
  obtain ⟨j,h1,h2⟩:=h
  have:=hM y k j h1
  have:=MkL_mono hM h2
  omega
mutual
theorem Ty.Mk_mono{mt:Int→List UInt8} : ∀(t:Ty) {y:t.D} {k k':Int},t.Mk mt y k k'→k≤k'
 | .raw,y,k,k',h=>by simp only [Ty.Mk] at h;omega
 | .int _,y,k,k',h=>by simp only [Ty.Mk] at h;omega
 | .bool,y,k,k',h=>by simp only [Ty.Mk] at h;omega
 | .str,y,k,k',h=>by simp only [Ty.Mk] at h;omega
 | .sl t,y,k,k',h=>by simp only [Ty.Mk] at h;exact MkL_mono (fun _ _ _ h=>Ty.Mk_mono t h) h.2
 | .st ts,y,k,k',h=>by simp only [Ty.Mk] at h;exact Tys.Mk_mono ts h
theorem Tys.Mk_mono{mt:Int→List UInt8} : ∀(ts:Tys) {y:ts.D} {k k':Int},ts.Mk mt y k k'→k≤k'
 | .nil,y,k,k',h=>by simp only [Tys.Mk] at h;omega
 | .cons t ts,y,k,k',h=>by
  simp only [Tys.Mk] at h
  obtain ⟨j,h1,h2⟩:=h
  have:=Ty.Mk_mono t h1
  have:=Tys.Mk_mono ts h2
  omega
end
theorem mark_loop{mt:Int→List UInt8}{t:Ty}(n:Nat)(hn:n≤1099511627776)(L:Nat→Int→Int→List t.D→Option (Int×List t.D×Unit))
  (h0:∀m (k:Int) x,x.length=n→L (m+1) k (n:Int) x=some (k,x,()))
  (hs:∀m (k:Int) (i:Nat) x,i<n→x.length=n→0≤k→k +(t.wt (gd t x i):Nat)≤1000000000000000→t.cost (gd t x i)≤1099511627776→∃j y,L (m+1) k (i:Int) x=L m j ((i:Int)+1) (x.set i y)∧t.Mk mt y k j∧j≤k +(t.wt (gd t x i):Nat)) :
  ∀(r i m:Nat) (k:Int) (x:List t.D),i+r=n→r<m→x.length=n→0≤k→k +(((x.drop i).map fun y=>t.wt y).sum:Nat)≤1000000000000000→(∀z,z∈x.drop i→t.cost z≤1099511627776) →
   ∃k' x',L m k (i:Int) x=some (k',x',())∧x'.length=n∧x'.take i=x.take i∧MkL (fun y k k'=>t.Mk mt y k k') (x'.drop i) k k'∧k'≤k +(((x.drop i).map fun y=>t.wt y).sum:Nat):=by
 intro r
 induction r with
 | zero =>
  intro i m k x hi hm hx hk hb hz
  obtain ⟨m,rfl,_⟩:=fuel hm
  have:i=n:=by omega
  subst this
  refine⟨k,x,h0 m k x hx,hx,rfl,?_,by omega⟩
  rw [List.drop_of_length_le (by omega)]
  rfl
 | succ r ih =>
  intro i m k x hi hm hx hk hb hz
  obtain ⟨m,rfl,hq⟩:=fuel hm
  have hlt:i<x.length:=by omega
  rw [drop_cons hlt] at hb hz ⊢
  simp only [List.map_cons,List.sum_cons] at hb ⊢
  obtain ⟨j,y,h1,h2,h4⟩:=hs m k i x (by omega) hx hk (by omega) (hz _ List.mem_cons_self)
  have h3:=Ty.Mk_mono t h2
  have hdrop:(x.set i y).drop (i+1)=x.drop (i+1):=by rw [List.drop_set_of_lt (by omega)]
  obtain ⟨k',x',g1,g2,g3,g4,g5⟩:=ih (i+1) m j (x.set i y) (by omega) (by omega) (by simpa using hx) (by omega) (by rw [hdrop];omega) (by rw [hdrop];exact fun z h=>hz z (List.mem_cons_of_mem _ h))
  rw [hdrop] at g5
  simp only [Int.natCast_add,Int.cast_ofNat_Int] at g1
  refine⟨k',x',h1.trans g1,g2,?_,?_,by omega⟩
  ·have:=congrArg (List.take i) g3
   rw [List.take_take,List.take_take,Nat.min_eq_left (by omega),List.take_set_of_le (by omega)] at this
   exact this
  ·have hlt':i<x'.length:=by omega
   have he:gd t x' i=y:=by
    have h5:x'[i]?=(x.set i y)[i]?:=by
     have:=congrArg (fun l=>l[i]?) g3
     simpa [List.getElem?_take] using this
    rw [List.getElem?_set_self (by omega),List.getElem?_eq_getElem hlt'] at h5
    rw [gd_eq_get hlt']
    exact osj h5
   rw [drop_cons hlt',he]
   exact⟨j,h2,g4⟩
theorem held_loop{mt:Int→List UInt8}{t:Ty}(x:List t.D)(L:Nat→Int→Int→Option (Int×Unit))
  (h0:∀m k,L (m+1) k (x.length:Int)=some (k,()))
  (hs:∀m k j (i:Nat),i<x.length→0≤k→j≤1000000000000000→t.Mk mt (gd t x i) k j→L (m+1) k (i:Int)=L m j ((i:Int)+1)) :
  ∀(r i m:Nat) (k k':Int),i+r=x.length→r<m→0≤k→k'≤1000000000000000→MkL (fun y k k'=>t.Mk mt y k k') (x.drop i) k k'→L m k (i:Int)=some (k',()):=by
 intro r
 induction r with
 | zero =>
  intro i m k k' hi hm hk hb hM
  obtain ⟨m,rfl,_⟩:=fuel hm
  have:i=x.length:=by omega
  subst this
  rw [List.drop_of_length_le (by omega)] at hM
  simp only [MkL] at hM
  rw [h0,hM]
 | succ r ih =>
  intro i m k k' hi hm hk hb hM
  obtain ⟨m,rfl,hq⟩:=fuel hm
  have hlt:i<x.length:=by omega
  rw [drop_cons hlt] at hM
  obtain ⟨j,h1,h2⟩:=hM
  have h3:=Ty.Mk_mono t h1
  have h4:=MkL_mono (fun _ _ _ h=>Ty.Mk_mono t h) h2
  rw [hs m k j i hlt hk (by omega) h1]
  have:=ih (i+1) m j k' (by omega) (by omega) (by omega) hb h2
  simpa only [Int.natCast_add,Int.cast_ofNat_Int] using this
theorem wf_hd{t:Ty}{ts:Tys}{x:(Ty.st (.cons t ts)).D}(h:Ty.wfD (.st (.cons t ts)) x):t.wfD x.1:=by simp only [Ty.wfD,Tys.wfD] at h;exact h.1
theorem wf_tl{t:Ty}{ts:Tys}{x:(Ty.st (.cons t ts)).D}(h:Ty.wfD (.st (.cons t ts)) x):Ty.wfD (.st ts) x.2:=by simp only [Ty.wfD,Tys.wfD] at h ⊢;exact h.2
theorem wf_sl{t:Ty}{x:List t.D}(h:Ty.wfD (.sl t) x):x.length≤9223372036854775807∧∀y,y∈x→t.wfD y:=by simp only [Ty.wfD,maxLen] at h;exact⟨by omega,h.2⟩
theorem wf_str{x:List UInt8}(h:Ty.wfD .str x):x.length≤9223372036854775807:=by simp only [Ty.wfD,maxLen] at h;omega
theorem cost_sl{t:Ty}{x:List t.D} : Ty.cost (.sl t) x=x.length +(x.map fun y=>t.cost y).sum:=by simp only [Ty.cost]
theorem cost_st{ts:Tys}{x:ts.D} : Ty.cost (.st ts) x=ts.cost x:=by simp only [Ty.cost]
theorem cost_cons{t:Ty}{ts:Tys}{x:(Tys.cons t ts).D} : Tys.cost (.cons t ts) x=t.cost x.1+ts.cost x.2:=by simp only [Tys.cost]
theorem cost_nil{x:Tys.nil.D} : Tys.cost .nil x=0:=by simp only [Tys.cost]
theorem cost_int{k:IntKind}{x:Int} : Ty.cost (.int k) x=0:=by simp only [Ty.cost]
theorem cost_bool{x:Bool} : Ty.cost .bool x=0:=by simp only [Ty.cost]
theorem cost_str{x:List UInt8} : Ty.cost .str x=x.length:=by simp only [Ty.cost]
theorem wt_st{ts:Tys}{x:ts.D} : Ty.wt (.st ts) x=ts.wt x:=by simp only [Ty.wt]
theorem wt_cons{t:Ty}{ts:Tys}{x:(Tys.cons t ts).D} : Tys.wt (.cons t ts) x=t.wt x.1+ts.wt x.2:=by simp only [Tys.wt]
theorem wt_nil{x:Tys.nil.D} : Tys.wt .nil x=0:=by simp only [Tys.wt]
theorem wt_int{k:IntKind}{x:Int} : Ty.wt (.int k) x=1:=by simp only [Ty.wt]
theorem wt_bool{x:Bool} : Ty.wt .bool x=1:=by simp only [Ty.wt]
theorem wt_str{x:List UInt8} : Ty.wt .str x=1:=by simp only [Ty.wt]
theorem wt_sl{t:Ty}{x:List t.D} : Ty.wt (.sl t) x=(x.map fun y=>t.wt y).sum:=by simp only [Ty.wt]
section
variable{mt:Int→List UInt8}{k k':Int}
theorem mk_st{ts:Tys}{x:ts.D} : Ty.Mk mt (.st ts) x k k'=ts.Mk mt x k k':=by simp only [Ty.Mk]
theorem mk_cons{t:Ty}{ts:Tys}{x:(Tys.cons t ts).D} : Tys.Mk mt (.cons t ts) x k k'=∃j,t.Mk mt x.1 k j∧ts.Mk mt x.2 j k':=by simp only [Tys.Mk]
theorem mk_nil{x:Tys.nil.D} : Tys.Mk mt .nil x k k'=(k'=k):=by simp only [Tys.Mk]
theorem mk_int{i:IntKind}{x:Int} : Ty.Mk mt (.int i) x k k'=(x=k∧k'=k+1):=by simp only [Ty.Mk]
theorem mk_bool{x:Bool} : Ty.Mk mt .bool x k k'=(x=(Int.tmod k 3==0)∧k'=k+1):=by simp only [Ty.Mk]
theorem mk_str{x:List UInt8} : Ty.Mk mt .str x k k'=(x=mt k∧k'=k+1):=by simp only [Ty.Mk]
theorem mk_sl{t:Ty}{x:List t.D} : Ty.Mk mt (.sl t) x k k'=(x.length≤1099511627776∧MkL (fun y k k'=>t.Mk mt y k k') x k k'):=by simp only [Ty.Mk]
end
mutual
def Ty.lv:Ty→Nat
 | .sl t=>t.lv
 | .st ts=>ts.lv
 | _=>1
def Tys.lv:Tys→Nat
 | .nil=>0
 | .cons t ts=>t.lv+ts.lv
end
theorem sum_le{α : Type}{f g : α → Nat}(M:Nat):∀(l:List α),(∀y,y∈l→f y≤M*(1+g y))→(l.map f).sum≤M*(l.length +(l.map g).sum)
 | [],_=>by simp
 | y :: l,h=>by
  have h1:=h y List.mem_cons_self
  have h2:=sum_le M l fun z hz=>h z (List.mem_cons_of_mem _ hz)
  simp only [List.map_cons,List.sum_cons,List.length_cons]
  have:M*(l.length+1 +(g y +(l.map g).sum))=M*(1+g y)+M*(l.length +(l.map g).sum):=by rw [← Nat.mul_add];congr 1;omega
  omega
mutual
theorem Ty.wt_le:∀(t:Ty) (x:t.D),t.wt x≤t.lv*(1+t.cost x)
 | .raw,x=>by simp only [Ty.wt,Ty.lv];omega
 | .int _,x=>by simp only [Ty.wt,Ty.lv];omega
 | .bool,x=>by simp only [Ty.wt,Ty.lv];omega
 | .str,x=>by simp only [Ty.wt,Ty.lv];omega
 | .sl t,x=>by
  simp only [Ty.wt,Ty.lv,Ty.cost]
  have:=sum_le (f:=fun y=>t.wt y) (g:=fun y=>t.cost y) t.lv x fun y _=>Ty.wt_le t y
  rw [Nat.mul_add]
  omega
 | .st ts,x=>by simp only [Ty.wt,Ty.lv,Ty.cost];exact Tys.wt_le ts x
theorem Tys.wt_le:∀(ts:Tys) (x:ts.D),ts.wt x≤ts.lv*(1+ts.cost x)
 | .nil,x=>by simp only [Tys.wt];omega
 | .cons t ts,x=>by
  simp only [Tys.wt,Tys.lv,Tys.cost]
  have h1:=Ty.wt_le t x.1
  have h2:=Tys.wt_le ts x.2
  have h3:t.lv*(1+t.cost x.1)≤t.lv*(1 +(t.cost x.1+ts.cost x.2)):=Nat.mul_le_mul_left _ (by omega)
  have h4:ts.lv*(1+ts.cost x.2)≤ts.lv*(1 +(t.cost x.1+ts.cost x.2)):=Nat.mul_le_mul_left _ (by omega)
  rw [Nat.add_mul]
  omega
end
theorem cost_flat{t:Ty}(h:∀y,t.cost y=0)(x:List t.D):Ty.cost (.sl t) x=x.length:=by
 simp only [Ty.cost]
 induction x with
 | nil=>rfl
 | cons y x ih=>simp only [List.map_cons,List.sum_cons,List.length_cons,h y];omega
theorem to_room{n:Nat}(h:n≤1048576):(decide (0≤(n:Int))&&decide ((n:Int)=(n:Int))&&room (Int.toNat (n:Int)))=true:=by
 rw [show Int.toNat (n:Int)=n by simp,room_of (by omega)]
 simp
theorem big_gt{n:Nat}(h:n≤4611686018427387904):n<BIG:=by rw [BIG_eq];omega
theorem lpI{β : Type}(n:Nat)(hn:n≤4611686018427387904)(L:Nat→Int → β)(G:Nat → β)(Inv:Nat→Prop)
  (h0:∀m,Inv n→L (m+1) (n:Int)=G n)
  (hs:∀m (i:Nat),i<n→Inv i→w64 ((i:Int)+1)=(i:Int)+1→(Inv (i+1)→L m ((i:Int)+1)=G (i+1))→L (m+1) (i:Int)=G i) :
  ∀(r i m:Nat),i+r=n→r<m→Inv i→L m (i:Int)=G i:=by
 intro r
 induction r with
 | zero =>
  intro i m hi hm hv
  obtain ⟨m,rfl,_⟩:=fuel hm
  have:i=n:=by omega
  subst this
  exact h0 m hv
 | succ r ih =>
  intro i m hi hm hv
  obtain ⟨m,rfl,hq⟩:=fuel hm
  refine hs m i (by omega) hv (w64_in (by omega) (by omega)) fun hv'=>?_
  have:=ih (i+1) m (by omega) (by omega) hv'
  simpa only [Int.natCast_add,Int.cast_ofNat_Int] using this
theorem big_pred(k:Nat)(h:k≤1000:=by omega):∃q,BIG=q+k∧4611686018427387904<q:=⟨BIG-k,by rw [BIG_eq];omega,by rw [BIG_eq];omega⟩
theorem cond_some{α : Type}(a:Bool)(x y : α):cond a (some (x,())) (some (y,()))=some (cond a x y,()):=by cases a <;> rfl
def inR(x lo hi:Int):Bool:=decide (lo≤x)&&decide (x≤hi)
theorem inR_iff{x lo hi:Int} : inR x lo hi=true↔lo≤x∧x≤hi:=by simp [inR]
theorem cond_false_r(a b:Bool):cond a b false=(a&&b):=by cases a <;> rfl
theorem mn_eq(a b:Int):mnI a b=min a b:=by unfold mnI;omega
theorem eqS_nil{s:List UInt8} : eqS s []=decide (s.length=0):=by cases s <;> simp [eqS]
theorem bne_t{x y:Int}(h:x≠y):(x != y)=true:=by simp [h]
theorem bne_f{x y:Int}(h:x=y):(x != y)=false:=by simp [h]
theorem beq_t{x y:Int}(h:x=y):(x==y)=true:=by simp [h]
theorem beq_f{x y:Int}(h:x≠y):(x==y)=false:=by simp [h]
theorem room_t{n:Nat}(h:n≤68719476736):room n=true:=room_of h
theorem part_all{α : Type}(l:List α):part l 0 l.length=l:=by simp [part]
theorem part_drop{α : Type}(l:List α)(n:Nat):part l n (l.length-n)=l.drop n:=by
 unfold part;rw [List.take_of_length_le (by simp)]
theorem part_take{α : Type}(l:List α)(n:Nat):part l 0 n=l.take n:=by simp [part]
end Go.LM
namespace Go.LM.Vg
theorem markText_any:∀(d m:Nat) (x:Int) (acc:List UInt8),0≤x→x<10 ^ d→d≤18→acc.length+d≤100→d<m→∃s,laws_markText_L4 m x acc=some (s,()):=by
 intro d
 induction d with
 | zero =>
  intro m x acc h0 hx hd ha hm
  cases m with
  | zero=>omega
  | succ m =>
   simp only [laws_markText_L4,laws_markText_b4]
   have:x=0:=by simp at hx;omega
   subst this
   rw [show decide ((0:Int)>0)=false by simp]
   simp only [cond_false]
   rw [room_of (by simp;omega)]
   exact⟨_,rfl⟩
 | succ d ih =>
  intro m x acc h0 hx hd ha hm
  cases m with
  | zero=>omega
  | succ m =>
   simp only [laws_markText_L4,laws_markText_b4]
   by_cases hp:x>0
   ·rw [show decide (x>0)=true by simp [hp],room_of (by simp [bytesStr];omega)]
    simp only [cond_true]
    have hb:(10:Int) ^ d≤10 ^ 17:=by
     have h1:(10:Nat) ^ d≤10 ^ 17:=Nat.pow_le_pow_right (by omega) (by omega)
     have h2:((10 ^ d:Nat):Int)≤((10 ^ 17:Nat):Int):=Int.ofNat_le.2 h1
     simpa using h2
    rw [Int.pow_succ] at hx
    have ht:Int.tdiv x 10=x / 10:=by rw [Int.tdiv_eq_ediv_of_nonneg h0]
    rw [ht,w64_in (by omega) (by omega)]
    exact ih m _ _ (by omega) (by omega) (by omega) (by simp [bytesStr];omega) (by omega)
   ·rw [show decide (x>0)=false by simp [hp]]
    simp only [cond_false]
    rw [room_of (by simp;omega)]
    exact⟨_,rfl⟩
theorem markText_some(k:Int)(h:k≤1000000000000000):∃s,laws_markText (k,())=some (s,()):=by
 show ∃s,laws_markText_s (laws_markText_L4 BIG) k=_
 unfold laws_markText_s
 by_cases hk:k≤0
 ·exact⟨_,by simp [hk];rfl⟩
 ·rw [show decide (k≤0)=false by simp [hk]]
  exact markText_any 16 BIG k [] (by omega) (by have e:(10:Int) ^ 16=10000000000000000:=rfl;omega) (by omega) (by simp) (by rw [BIG_eq];omega)
noncomputable def mt(k:Int):List UInt8:=match laws_markText (k,()) with
 | some r=>r.1
 | none=>[]
theorem laws_markText_mt(k:Int)(h:k≤1000000000000000):laws_markText (k,())=some (mt k,()):=by
 obtain ⟨s,hs⟩:=markText_some k h
 unfold mt
 rw [hs]
theorem sz_Dirent(x:tDirent.D)(n:Int)(h0:0≤n)(hn:n≤1048576)(hw:Ty.wfD tDirent x):laws_szDirent (x,n,())=some (szR (Ty.cost tDirent x) n,()):=by
 show laws_szDirent_s  x n=_
 unfold laws_szDirent_s
 have e:Ty.cost tDirent x=x.1.length:=by simp only [cost_st,cost_cons,cost_nil,cost_int,cost_bool,cost_str,Nat.zero_add,Nat.add_zero]
 rw [e];clear e
 have wl0:=wf_str (wf_hd hw)
 generalize x.1.length=C0 at wl0 ⊢
 rw [w64_in (x:=n-_) (by omega) (by omega)]
 by_cases g0:((C0:Nat):Int)≤n
 case neg=>rw [dec_t (by omega),szR_no (by omega)];rfl
 rw [dec_f (by omega)];simp only [cond_false]
 try rw [szR_ok (by omega)]
 first | done | exact congrArg (fun v:Int=>some (v,())) (by omega)
theorem sz_DirentS(x:(Ty.sl tDirent).D)(n:Int)(h0:0≤n)(hn:n≤1048576)(hw:Ty.wfD (Ty.sl tDirent) x):laws_szDirentS (x,n,())=some (szR (Ty.cost (Ty.sl tDirent) x) n,()):=by
 show laws_szDirentS_s (laws_szDirentS_L5 BIG) x n=_
 unfold laws_szDirentS_s
 have wl:=(wf_sl hw).1
 have we:=(wf_sl hw).2
 rw [w64_in (x:=n-_) (by omega) (by omega)]
 by_cases g:(x.length:Int)≤n
 case neg=>rw [dec_t (by omega),szR_no (by have:=cost_len x;omega)];rfl
 rw [dec_f (by omega)];simp only [cond_false]
 have hl:=sz_loop x (fun m n i=>laws_szDirentS_L5 m x n i) (by omega) (fun m n=>by
   simp only [laws_szDirentS_L5,laws_szDirentS_b5];rw [lt_f (Nat.le_refl _)];rfl) (fun m n i hi h1 h2=>by
   simp only [laws_szDirentS_L5,laws_szDirentS_b5]
   rw [lt_t hi,ix_nat hi];simp only [cond_true,obs]
   rw [sz_Dirent _ n h1 h2 (we _ (gd_mem hi))];simp only [obs]
   rw [w64_in (x:=(i:Int)+1) (by omega) (by omega)]) x.length 0 BIG (n-x.length) (by omega) (by rw [BIG_eq];omega) (by omega) (by omega)
 simp only [Int.ofNat_zero,Int.natCast_zero,List.drop_zero] at hl
 refine hl.trans ?_
 congr 2
 rw [cost_sl]
 generalize (x.map fun y=>Ty.cost tDirent y).sum=C
 unfold szR
 split <;> split <;> omega
theorem sz_Inode(x:tInode.D)(n:Int)(h0:0≤n)(hn:n≤1048576)(hw:Ty.wfD tInode x):laws_szInode (x,n,())=some (szR (Ty.cost tInode x) n,()):=by
 show laws_szInode_s  x n=_
 unfold laws_szInode_s
 have e:Ty.cost tInode x=x.2.2.2.2.2.1.length +(Ty.cost (Ty.sl tDirent) x.2.2.2.2.2.2.1):=by simp only [cost_st,cost_cons,cost_nil,cost_int,cost_bool,cost_str,Nat.zero_add,Nat.add_zero]
 rw [e];clear e
 have wl0:=wf_str (wf_hd (wf_tl (wf_tl (wf_tl (wf_tl (wf_tl hw))))))
 generalize x.2.2.2.2.2.1.length=C0 at wl0 ⊢
 rw [w64_in (x:=n-_) (by omega) (by omega)]
 by_cases g0:((C0:Nat):Int)≤n
 case neg=>rw [dec_t (by omega),szR_no (by omega)];rfl
 rw [dec_f (by omega)];simp only [cond_false]
 rw [sz_DirentS _ (n-(C0:Nat)) (by omega) (by omega) (wf_hd (wf_tl (wf_tl (wf_tl (wf_tl (wf_tl (wf_tl hw)))))))];simp only [obs]
 generalize Ty.cost (Ty.sl tDirent) x.2.2.2.2.2.2.1=C1
 by_cases g1:((C1:Nat):Int)≤n-(C0:Nat)
 case neg=>first | (rw [szR_no g1,szR_no (by omega)];rfl) | (rw [szR_no g1];rfl)
 rw [szR_ok g1,dec_f (by omega)];simp only [cond_false]
 try rw [szR_ok (by omega)]
 first | done | exact congrArg (fun v:Int=>some (v,())) (by omega)
theorem sz_InodeS(x:(Ty.sl tInode).D)(n:Int)(h0:0≤n)(hn:n≤1048576)(hw:Ty.wfD (Ty.sl tInode) x):laws_szInodeS (x,n,())=some (szR (Ty.cost (Ty.sl tInode) x) n,()):=by
 show laws_szInodeS_s (laws_szInodeS_L5 BIG) x n=_
 unfold laws_szInodeS_s
 have wl:=(wf_sl hw).1
 have we:=(wf_sl hw).2
 rw [w64_in (x:=n-_) (by omega) (by omega)]
 by_cases g:(x.length:Int)≤n
 case neg=>rw [dec_t (by omega),szR_no (by have:=cost_len x;omega)];rfl
 rw [dec_f (by omega)];simp only [cond_false]
 have hl:=sz_loop x (fun m n i=>laws_szInodeS_L5 m x n i) (by omega) (fun m n=>by
   simp only [laws_szInodeS_L5,laws_szInodeS_b5];rw [lt_f (Nat.le_refl _)];rfl) (fun m n i hi h1 h2=>by
   simp only [laws_szInodeS_L5,laws_szInodeS_b5]
   rw [lt_t hi,ix_nat hi];simp only [cond_true,obs]
   rw [sz_Inode _ n h1 h2 (we _ (gd_mem hi))];simp only [obs]
   rw [w64_in (x:=(i:Int)+1) (by omega) (by omega)]) x.length 0 BIG (n-x.length) (by omega) (by rw [BIG_eq];omega) (by omega) (by omega)
 simp only [Int.ofNat_zero,Int.natCast_zero,List.drop_zero] at hl
 refine hl.trans ?_
 congr 2
 rw [cost_sl]
 generalize (x.map fun y=>Ty.cost tInode y).sum=C
 unfold szR
 split <;> split <;> omega
theorem sz_Vol(x:tVol.D)(n:Int)(h0:0≤n)(hn:n≤1048576)(hw:Ty.wfD tVol x):laws_szVol (x,n,())=some (szR (Ty.cost tVol x) n,()):=by
 show laws_szVol_s  x n=_
 unfold laws_szVol_s
 have e:Ty.cost tVol x=Ty.cost (Ty.sl tInode) x.2.1:=by simp only [cost_st,cost_cons,cost_nil,cost_int,cost_bool,cost_str,Nat.zero_add,Nat.add_zero]
 rw [e];clear e
 rw [sz_InodeS _ (n) (by omega) (by omega) (wf_hd (wf_tl hw))];simp only [obs]
 generalize Ty.cost (Ty.sl tInode) x.2.1=C0
 by_cases g0:((C0:Nat):Int)≤n
 case neg=>first | (rw [szR_no g0,szR_no (by omega)];rfl) | (rw [szR_no g0];rfl)
 rw [szR_ok g0,dec_f (by omega)];simp only [cond_false]
 try rw [szR_ok (by omega)]
 first | done | exact congrArg (fun v:Int=>some (v,())) (by omega)
theorem sz_IntS(x:(Ty.sl (.int .i64)).D)(n:Int)(h0:0≤n)(hn:n≤1048576)(hw:Ty.wfD (Ty.sl (.int .i64)) x):laws_szIntS (x,n,())=some (szR (Ty.cost (Ty.sl (.int .i64)) x) n,()):=by
 show laws_szIntS_s  x n=_
 unfold laws_szIntS_s
 have wl:=(wf_sl hw).1
 have we:=(wf_sl hw).2
 rw [w64_in (x:=n-_) (by omega) (by omega)]
 by_cases g:(x.length:Int)≤n
 case neg=>rw [dec_t (by omega),szR_no (by have:=cost_len x;omega)];rfl
 rw [dec_f (by omega)];simp only [cond_false]
 rw [cost_flat (t:=(Ty.int .i64)) (by intro y;simp [cost_st,cost_cons,cost_nil,cost_int,cost_bool,cost_str]) x,szR_ok g]
theorem sz_Cred(x:tCred.D)(n:Int)(h0:0≤n)(hn:n≤1048576)(hw:Ty.wfD tCred x):laws_szCred (x,n,())=some (szR (Ty.cost tCred x) n,()):=by
 show laws_szCred_s  x n=_
 unfold laws_szCred_s
 have e:Ty.cost tCred x=Ty.cost (Ty.sl (.int .i64)) x.2.2.1:=by simp only [cost_st,cost_cons,cost_nil,cost_int,cost_bool,cost_str,Nat.zero_add,Nat.add_zero]
 rw [e];clear e
 rw [sz_IntS _ (n) (by omega) (by omega) (wf_hd (wf_tl (wf_tl hw)))];simp only [obs]
 generalize Ty.cost (Ty.sl (.int .i64)) x.2.2.1=C0
 by_cases g0:((C0:Nat):Int)≤n
 case neg=>first | (rw [szR_no g0,szR_no (by omega)];rfl) | (rw [szR_no g0];rfl)
 rw [szR_ok g0,dec_f (by omega)];simp only [cond_false]
 try rw [szR_ok (by omega)]
 first | done | exact congrArg (fun v:Int=>some (v,())) (by omega)
theorem sz_Call(x:tCall.D)(n:Int)(h0:0≤n)(hn:n≤1048576)(hw:Ty.wfD tCall x):laws_szCall (x,n,())=some (szR (Ty.cost tCall x) n,()):=by
 show laws_szCall_s  x n=_
 unfold laws_szCall_s
 have e:Ty.cost tCall x=x.2.1.length +(x.2.2.1.length +(x.2.2.2.2.2.1.length)):=by simp only [cost_st,cost_cons,cost_nil,cost_int,cost_bool,cost_str,Nat.zero_add,Nat.add_zero]
 rw [e];clear e
 have wl0:=wf_str (wf_hd (wf_tl hw))
 generalize x.2.1.length=C0 at wl0 ⊢
 rw [w64_in (x:=n-_) (by omega) (by omega)]
 by_cases g0:((C0:Nat):Int)≤n
 case neg=>rw [dec_t (by omega),szR_no (by omega)];rfl
 rw [dec_f (by omega)];simp only [cond_false]
 have wl1:=wf_str (wf_hd (wf_tl (wf_tl hw)))
 generalize x.2.2.1.length=C1 at wl1 ⊢
 rw [w64_in (x:=n-(C0:Nat)-_) (by omega) (by omega)]
 by_cases g1:((C1:Nat):Int)≤n-(C0:Nat)
 case neg=>rw [dec_t (by omega),szR_no (by omega)];rfl
 rw [dec_f (by omega)];simp only [cond_false]
 have wl2:=wf_str (wf_hd (wf_tl (wf_tl (wf_tl (wf_tl (wf_tl hw))))))
 generalize x.2.2.2.2.2.1.length=C2 at wl2 ⊢
 rw [w64_in (x:=n-(C0:Nat)-(C1:Nat)-_) (by omega) (by omega)]
 by_cases g2:((C2:Nat):Int)≤n-(C0:Nat)-(C1:Nat)
 case neg=>rw [dec_t (by omega),szR_no (by omega)];rfl
 rw [dec_f (by omega)];simp only [cond_false]
 try rw [szR_ok (by omega)]
 first | done | exact congrArg (fun v:Int=>some (v,())) (by omega)
theorem to_Dirent(x:tDirent.D)(hc:Ty.cost tDirent x≤1048576):laws_toDirent (x,())=some (x,()):=by
 show laws_toDirent_s  x=_
 unfold laws_toDirent_s
 rfl
theorem to_DirentS(x:(Ty.sl tDirent).D)(hc:Ty.cost (Ty.sl tDirent) x≤1048576):laws_toDirentS (x,())=some (x,()):=by
 show laws_toDirentS_s (laws_toDirentS_L3 BIG) x=_
 unfold laws_toDirentS_s
 have hl:=cost_len x
 rw [to_room (by omega)];simp only [cond_true]
 refine copy_loop x (fun m i y=>laws_toDirentS_L3 m x i y) (fun m y=>by
   simp only [laws_toDirentS_L3,laws_toDirentS_b3];rw [lt_f (Nat.le_refl _)];rfl) (fun m i y hi hy=>by
   simp only [laws_toDirentS_L3,laws_toDirentS_b3]
   rw [lt_t hi,ix_nat hi];simp only [cond_true,obs]
   rw [to_Dirent _ (by have:=cost_get (t:=tDirent) hi;omega)];simp only [obs]
   rw [ix_nat (by omega),w64_in (x:=(i:Int)+1) (by omega) (by omega)];simp only [obs,Nat.zero_add]) x.length 0 BIG _ (by omega) (by rw [BIG_eq];omega) (by simp) (by simp)
theorem to_Inode(x:tInode.D)(hc:Ty.cost tInode x≤1048576):laws_toInode (x,())=some (x,()):=by
 show laws_toInode_s  x=_
 unfold laws_toInode_s
 have ec:Ty.cost tInode x=x.2.2.2.2.2.1.length +(Ty.cost (Ty.sl tDirent) x.2.2.2.2.2.2.1):=by simp only [cost_st,cost_cons,cost_nil,cost_int,cost_bool,cost_str,Nat.zero_add,Nat.add_zero]
 rw [ec] at hc;clear ec
 generalize e0:Ty.cost (Ty.sl tDirent) x.2.2.2.2.2.2.1=C0 at hc
 rw [to_DirentS _ (by rw [e0];omega)];simp only [obs]
theorem to_InodeS(x:(Ty.sl tInode).D)(hc:Ty.cost (Ty.sl tInode) x≤1048576):laws_toInodeS (x,())=some (x,()):=by
 show laws_toInodeS_s (laws_toInodeS_L3 BIG) x=_
 unfold laws_toInodeS_s
 have hl:=cost_len x
 rw [to_room (by omega)];simp only [cond_true]
 refine copy_loop x (fun m i y=>laws_toInodeS_L3 m x i y) (fun m y=>by
   simp only [laws_toInodeS_L3,laws_toInodeS_b3];rw [lt_f (Nat.le_refl _)];rfl) (fun m i y hi hy=>by
   simp only [laws_toInodeS_L3,laws_toInodeS_b3]
   rw [lt_t hi,ix_nat hi];simp only [cond_true,obs]
   rw [to_Inode _ (by have:=cost_get (t:=tInode) hi;omega)];simp only [obs]
   rw [ix_nat (by omega),w64_in (x:=(i:Int)+1) (by omega) (by omega)];simp only [obs,Nat.zero_add]) x.length 0 BIG _ (by omega) (by rw [BIG_eq];omega) (by simp) (by simp)
theorem to_Vol(x:tVol.D)(hc:Ty.cost tVol x≤1048576):laws_toVol (x,())=some (x,()):=by
 show laws_toVol_s  x=_
 unfold laws_toVol_s
 have ec:Ty.cost tVol x=Ty.cost (Ty.sl tInode) x.2.1:=by simp only [cost_st,cost_cons,cost_nil,cost_int,cost_bool,cost_str,Nat.zero_add,Nat.add_zero]
 rw [ec] at hc;clear ec
 generalize e0:Ty.cost (Ty.sl tInode) x.2.1=C0 at hc
 rw [to_InodeS _ (by rw [e0];omega)];simp only [obs]
theorem to_IntS(x:(Ty.sl (.int .i64)).D)(hc:Ty.cost (Ty.sl (.int .i64)) x≤1048576):laws_toIntS (x,())=some (x,()):=by
 show laws_toIntS_s (laws_toIntS_L3 BIG) x=_
 unfold laws_toIntS_s
 have hl:=cost_len x
 rw [to_room (by omega)];simp only [cond_true]
 refine copy_loop x (fun m i y=>laws_toIntS_L3 m x i y) (fun m y=>by
   simp only [laws_toIntS_L3,laws_toIntS_b3];rw [lt_f (Nat.le_refl _)];rfl) (fun m i y hi hy=>by
   simp only [laws_toIntS_L3,laws_toIntS_b3]
   rw [lt_t hi,ix_nat hi];simp only [cond_true,obs]
   rw [ix_nat (by omega),w64_in (x:=(i:Int)+1) (by omega) (by omega)];simp only [obs,Nat.zero_add]) x.length 0 BIG _ (by omega) (by rw [BIG_eq];omega) (by simp) (by simp)
theorem to_Cred(x:tCred.D)(hc:Ty.cost tCred x≤1048576):laws_toCred (x,())=some (x,()):=by
 show laws_toCred_s  x=_
 unfold laws_toCred_s
 have ec:Ty.cost tCred x=Ty.cost (Ty.sl (.int .i64)) x.2.2.1:=by simp only [cost_st,cost_cons,cost_nil,cost_int,cost_bool,cost_str,Nat.zero_add,Nat.add_zero]
 rw [ec] at hc;clear ec
 generalize e0:Ty.cost (Ty.sl (.int .i64)) x.2.2.1=C0 at hc
 rw [to_IntS _ (by rw [e0];omega)];simp only [obs]
theorem to_Call(x:tCall.D)(hc:Ty.cost tCall x≤1048576):laws_toCall (x,())=some (x,()):=by
 show laws_toCall_s  x=_
 unfold laws_toCall_s
 rfl
theorem eq_Dirent(x:tDirent.D)(hc:Ty.cost tDirent x≤1099511627776):laws_eqDirent (x,x,())=some (true,()):=by
 show laws_eqDirent_s  x x=_
 unfold laws_eqDirent_s
 try simp only [bne_self_eq_false,cond_false,eqS_refl,Bool.not_true,beq_self_eq_true,Bool.and_self]
theorem eq_DirentS(x:(Ty.sl tDirent).D)(hc:Ty.cost (Ty.sl tDirent) x≤1099511627776):laws_eqDirentS (x,x,())=some (true,()):=by
 show laws_eqDirentS_s (laws_eqDirentS_L4 BIG) x x=_
 unfold laws_eqDirentS_s
 have hl:=cost_len x
 simp only [bne_self_eq_false,cond_false]
 refine eq_loop x.length (fun m i=>laws_eqDirentS_L4 m x x i) (fun m=>by
   simp only [laws_eqDirentS_L4,laws_eqDirentS_b4];rw [lt_f (Nat.le_refl _)];rfl) (fun m i hi=>by
   simp only [laws_eqDirentS_L4,laws_eqDirentS_b4]
   rw [lt_t hi,ix_nat hi];simp only [cond_true,obs]
   rw [eq_Dirent _ (by have:=cost_get (t:=tDirent) hi;omega)]
   simp only [obs,bne_self_eq_false,eqS_refl,Bool.not_true,cond_false,beq_self_eq_true]
   rw [w64_in (x:=(i:Int)+1) (by omega) (by omega)]) x.length 0 BIG (by omega) (by rw [BIG_eq];omega)
theorem eq_Inode(x:tInode.D)(hc:Ty.cost tInode x≤1099511627776):laws_eqInode (x,x,())=some (true,()):=by
 show laws_eqInode_s  x x=_
 unfold laws_eqInode_s
 have ec:Ty.cost tInode x=x.2.2.2.2.2.1.length +(Ty.cost (Ty.sl tDirent) x.2.2.2.2.2.2.1):=by simp only [cost_st,cost_cons,cost_nil,cost_int,cost_bool,cost_str,Nat.zero_add,Nat.add_zero]
 rw [ec] at hc;clear ec
 generalize e0:Ty.cost (Ty.sl tDirent) x.2.2.2.2.2.2.1=C0 at hc
 try simp only [bne_self_eq_false,cond_false,eqS_refl,Bool.not_true,beq_self_eq_true,Bool.and_self]
 rw [eq_DirentS x.2.2.2.2.2.2.1 (by rw [e0];omega)];simp only [obs,bne_self_eq_false,cond_false,eqS_refl,Bool.not_true,beq_self_eq_true,Bool.and_self]
theorem eq_InodeS(x:(Ty.sl tInode).D)(hc:Ty.cost (Ty.sl tInode) x≤1099511627776):laws_eqInodeS (x,x,())=some (true,()):=by
 show laws_eqInodeS_s (laws_eqInodeS_L4 BIG) x x=_
 unfold laws_eqInodeS_s
 have hl:=cost_len x
 simp only [bne_self_eq_false,cond_false]
 refine eq_loop x.length (fun m i=>laws_eqInodeS_L4 m x x i) (fun m=>by
   simp only [laws_eqInodeS_L4,laws_eqInodeS_b4];rw [lt_f (Nat.le_refl _)];rfl) (fun m i hi=>by
   simp only [laws_eqInodeS_L4,laws_eqInodeS_b4]
   rw [lt_t hi,ix_nat hi];simp only [cond_true,obs]
   rw [eq_Inode _ (by have:=cost_get (t:=tInode) hi;omega)]
   simp only [obs,bne_self_eq_false,eqS_refl,Bool.not_true,cond_false,beq_self_eq_true]
   rw [w64_in (x:=(i:Int)+1) (by omega) (by omega)]) x.length 0 BIG (by omega) (by rw [BIG_eq];omega)
theorem eq_Vol(x:tVol.D)(hc:Ty.cost tVol x≤1099511627776):laws_eqVol (x,x,())=some (true,()):=by
 show laws_eqVol_s  x x=_
 unfold laws_eqVol_s
 have ec:Ty.cost tVol x=Ty.cost (Ty.sl tInode) x.2.1:=by simp only [cost_st,cost_cons,cost_nil,cost_int,cost_bool,cost_str,Nat.zero_add,Nat.add_zero]
 rw [ec] at hc;clear ec
 generalize e0:Ty.cost (Ty.sl tInode) x.2.1=C0 at hc
 try simp only [bne_self_eq_false,cond_false,eqS_refl,Bool.not_true,beq_self_eq_true,Bool.and_self]
 rw [eq_InodeS x.2.1 (by rw [e0];omega)];simp only [obs,bne_self_eq_false,cond_false,eqS_refl,Bool.not_true,beq_self_eq_true,Bool.and_self]
theorem eq_Result(x:tResult.D)(hc:Ty.cost tResult x≤1099511627776):laws_eqResult (x,x,())=some (true,()):=by
 show laws_eqResult_s  x x=_
 unfold laws_eqResult_s
 try simp only [bne_self_eq_false,cond_false,eqS_refl,Bool.not_true,beq_self_eq_true,Bool.and_self]
theorem eq_IntS(x:(Ty.sl (.int .i64)).D)(hc:Ty.cost (Ty.sl (.int .i64)) x≤1099511627776):laws_eqIntS (x,x,())=some (true,()):=by
 show laws_eqIntS_s (laws_eqIntS_L4 BIG) x x=_
 unfold laws_eqIntS_s
 have hl:=cost_len x
 simp only [bne_self_eq_false,cond_false]
 refine eq_loop x.length (fun m i=>laws_eqIntS_L4 m x x i) (fun m=>by
   simp only [laws_eqIntS_L4,laws_eqIntS_b4];rw [lt_f (Nat.le_refl _)];rfl) (fun m i hi=>by
   simp only [laws_eqIntS_L4,laws_eqIntS_b4]
   rw [lt_t hi,ix_nat hi];simp only [cond_true,obs]
   simp only [obs,bne_self_eq_false,eqS_refl,Bool.not_true,cond_false,beq_self_eq_true]
   rw [w64_in (x:=(i:Int)+1) (by omega) (by omega)]) x.length 0 BIG (by omega) (by rw [BIG_eq];omega)
theorem eq_Cred(x:tCred.D)(hc:Ty.cost tCred x≤1099511627776):laws_eqCred (x,x,())=some (true,()):=by
 show laws_eqCred_s  x x=_
 unfold laws_eqCred_s
 have ec:Ty.cost tCred x=Ty.cost (Ty.sl (.int .i64)) x.2.2.1:=by simp only [cost_st,cost_cons,cost_nil,cost_int,cost_bool,cost_str,Nat.zero_add,Nat.add_zero]
 rw [ec] at hc;clear ec
 generalize e0:Ty.cost (Ty.sl (.int .i64)) x.2.2.1=C0 at hc
 try simp only [bne_self_eq_false,cond_false,eqS_refl,Bool.not_true,beq_self_eq_true,Bool.and_self]
 rw [eq_IntS x.2.2.1 (by rw [e0];omega)];simp only [obs,bne_self_eq_false,cond_false,eqS_refl,Bool.not_true,beq_self_eq_true,Bool.and_self]
set_option maxHeartbeats 4000000 in
theorem mark_DirentS_step(m:Nat)(k:Int)(i:Nat)(x:(Ty.sl tDirent).D)(hi:i<x.length)(hl:x.length≤1099511627776)(hk:0≤k)(hb:k +(Ty.wt tDirent (gd tDirent x i):Nat)≤1000000000000000)(hc:Ty.cost tDirent (gd tDirent x i)≤1099511627776) :
  ∃j y,laws_markDirentS_L2 (m+1) k (i:Int) x=laws_markDirentS_L2 m j ((i:Int)+1) (x.set i y)∧Ty.Mk mt tDirent y k j∧j≤k +(Ty.wt tDirent (gd tDirent x i):Nat):=by
 simp only [wt_st,wt_cons,wt_nil,wt_int,wt_bool,wt_str,mk_st,mk_cons,mk_nil,mk_int,mk_bool,mk_str,Nat.add_zero] at hb ⊢
 simp only [cost_st,cost_cons,cost_nil,cost_int,cost_bool,cost_str,Nat.zero_add,Nat.add_zero] at hc
 generalize (gd tDirent x i).1.length=D2 at hc
 refine⟨k+2,(mt (k),k+1,()),?_,⟨k+1,⟨rfl,by omega⟩,⟨k+2,⟨rfl,by omega⟩,rfl⟩⟩,by omega⟩
 have hg:∀z:tDirent.D,gd tDirent (x.set i z) i=z:=fun z=>gd_set_same hi
 simp only [laws_markDirentS_L2]
 unfold laws_markDirentS_b2
 simp (disch:=first | omega | (simp only [List.length_set];omega)) only [lt_t,ix_nat,cond_true,obs,Nat.zero_add,List.length_set,hg,List.set_set,w64_in,Int.add_assoc,Int.reduceAdd,laws_markText_mt]
 unfold laws_markDirentS_b2_v3
 simp (disch:=first | omega | (simp only [List.length_set];omega)) only [lt_t,ix_nat,cond_true,obs,Nat.zero_add,List.length_set,hg,List.set_set,w64_in,Int.add_assoc,Int.reduceAdd,laws_markText_mt]
 unfold laws_markDirentS_b2_v5
 simp (disch:=first | omega | (simp only [List.length_set];omega)) only [lt_t,ix_nat,cond_true,obs,Nat.zero_add,List.length_set,hg,List.set_set,w64_in,Int.add_assoc,Int.reduceAdd,laws_markText_mt]
theorem mark_DirentS(x:(Ty.sl tDirent).D)(k:Int)(hk:0≤k)(hb:k +(Ty.wt (Ty.sl tDirent) x:Nat)≤1000000000000000)(hc:Ty.cost (Ty.sl tDirent) x≤1099511627776) :
  ∃k' y,laws_markDirentS (x,k,())=some (k',y,())∧Ty.Mk mt (Ty.sl tDirent) y k k'∧k'≤k +(Ty.wt (Ty.sl tDirent) x:Nat):=by
 have hl:x.length≤1099511627776:=by have:=cost_len x;omega
 rw [wt_sl] at hb ⊢
 obtain ⟨k',y,h1,h2,_,h4,h5⟩:=mark_loop (mt:=mt) (t:=tDirent) x.length hl (fun m k i x=>laws_markDirentS_L2 m k i x) (fun m k y hy=>by
   simp only [laws_markDirentS_L2,laws_markDirentS_b2];rw [lt_f (by omega)];rfl) (fun m k i y hi hy hk hb hc=>mark_DirentS_step m k i y (by omega) (by omega) hk hb hc) x.length 0 BIG k x (by omega) (by rw [BIG_eq];omega) rfl hk (by simpa using hb) (fun z hz=>by
   rw [List.drop_zero] at hz
   have h1:=sum_mem (f:=fun y=>Ty.cost tDirent y) hz
   rw [cost_sl] at hc
   omega)
 refine⟨k',y,?_,?_,by simpa using h5⟩
 ·show laws_markDirentS_s (laws_markDirentS_L2 BIG) x k=_
  unfold laws_markDirentS_s
  simpa using h1
 ·rw [mk_sl];exact⟨by omega,by simpa using h4⟩
set_option maxHeartbeats 4000000 in
theorem mark_InodeS_step(m:Nat)(k:Int)(i:Nat)(x:(Ty.sl tInode).D)(hi:i<x.length)(hl:x.length≤1099511627776)(hk:0≤k)(hb:k +(Ty.wt tInode (gd tInode x i):Nat)≤1000000000000000)(hc:Ty.cost tInode (gd tInode x i)≤1099511627776) :
  ∃j y,laws_markInodeS_L2 (m+1) k (i:Int) x=laws_markInodeS_L2 m j ((i:Int)+1) (x.set i y)∧Ty.Mk mt tInode y k j∧j≤k +(Ty.wt tInode (gd tInode x i):Nat):=by
 simp only [wt_st,wt_cons,wt_nil,wt_int,wt_bool,wt_str,mk_st,mk_cons,mk_nil,mk_int,mk_bool,mk_str,Nat.add_zero] at hb ⊢
 simp only [cost_st,cost_cons,cost_nil,cost_int,cost_bool,cost_str,Nat.zero_add,Nat.add_zero] at hc
 generalize (gd tInode x i).2.2.2.2.2.1.length=D12 at hc
 generalize ew1:Ty.wt (Ty.sl tDirent) (gd tInode x i).2.2.2.2.2.2.1=W1 at hb ⊢
 generalize ec1:Ty.cost (Ty.sl tDirent) (gd tInode x i).2.2.2.2.2.2.1=C1 at hc
 obtain ⟨k1,y1,h1,m1,l1⟩:=mark_DirentS (gd tInode x i).2.2.2.2.2.2.1 (k+6) (by omega) (by rw [ew1];omega) (by rw [ec1];omega)
 rw [ew1] at l1
 have mm1:=Ty.Mk_mono _ m1
 refine⟨k1+2,(k,k+1,k+2,k+3,k+4,mt (k+5),y1,k1,k1+1,()),?_,⟨k+1,⟨rfl,by omega⟩,⟨k+2,⟨rfl,by omega⟩,⟨k+3,⟨rfl,by omega⟩,⟨k+4,⟨rfl,by omega⟩,⟨k+5,⟨rfl,by omega⟩,⟨k+6,⟨rfl,by omega⟩,⟨k1,m1,⟨k1+1,⟨rfl,by omega⟩,⟨k1+2,⟨rfl,by omega⟩,rfl⟩⟩⟩⟩⟩⟩⟩⟩⟩,by omega⟩
 have hg:∀z:tInode.D,gd tInode (x.set i z) i=z:=fun z=>gd_set_same hi
 simp only [laws_markInodeS_L2]
 unfold laws_markInodeS_b2
 simp (disch:=first | omega | (simp only [List.length_set];omega)) only [lt_t,ix_nat,cond_true,obs,Nat.zero_add,List.length_set,hg,List.set_set,w64_in,Int.add_assoc,Int.reduceAdd,laws_markText_mt,h1]
 unfold laws_markInodeS_b2_v2
 simp (disch:=first | omega | (simp only [List.length_set];omega)) only [lt_t,ix_nat,cond_true,obs,Nat.zero_add,List.length_set,hg,List.set_set,w64_in,Int.add_assoc,Int.reduceAdd,laws_markText_mt,h1]
 unfold laws_markInodeS_b2_v4
 simp (disch:=first | omega | (simp only [List.length_set];omega)) only [lt_t,ix_nat,cond_true,obs,Nat.zero_add,List.length_set,hg,List.set_set,w64_in,Int.add_assoc,Int.reduceAdd,laws_markText_mt,h1]
 unfold laws_markInodeS_b2_v6
 simp (disch:=first | omega | (simp only [List.length_set];omega)) only [lt_t,ix_nat,cond_true,obs,Nat.zero_add,List.length_set,hg,List.set_set,w64_in,Int.add_assoc,Int.reduceAdd,laws_markText_mt,h1]
 unfold laws_markInodeS_b2_v8
 simp (disch:=first | omega | (simp only [List.length_set];omega)) only [lt_t,ix_nat,cond_true,obs,Nat.zero_add,List.length_set,hg,List.set_set,w64_in,Int.add_assoc,Int.reduceAdd,laws_markText_mt,h1]
 unfold laws_markInodeS_b2_v10
 simp (disch:=first | omega | (simp only [List.length_set];omega)) only [lt_t,ix_nat,cond_true,obs,Nat.zero_add,List.length_set,hg,List.set_set,w64_in,Int.add_assoc,Int.reduceAdd,laws_markText_mt,h1]
 unfold laws_markInodeS_b2_v13
 simp (disch:=first | omega | (simp only [List.length_set];omega)) only [lt_t,ix_nat,cond_true,obs,Nat.zero_add,List.length_set,hg,List.set_set,w64_in,Int.add_assoc,Int.reduceAdd,laws_markText_mt,h1]
 unfold laws_markInodeS_b2_v16
 simp (disch:=first | omega | (simp only [List.length_set];omega)) only [lt_t,ix_nat,cond_true,obs,Nat.zero_add,List.length_set,hg,List.set_set,w64_in,Int.add_assoc,Int.reduceAdd,laws_markText_mt,h1]
 unfold laws_markInodeS_b2_v18
 simp (disch:=first | omega | (simp only [List.length_set];omega)) only [lt_t,ix_nat,cond_true,obs,Nat.zero_add,List.length_set,hg,List.set_set,w64_in,Int.add_assoc,Int.reduceAdd,laws_markText_mt,h1]
 unfold laws_markInodeS_b2_v20
 simp (disch:=first | omega | (simp only [List.length_set];omega)) only [lt_t,ix_nat,cond_true,obs,Nat.zero_add,List.length_set,hg,List.set_set,w64_in,Int.add_assoc,Int.reduceAdd,laws_markText_mt,h1]
theorem mark_InodeS(x:(Ty.sl tInode).D)(k:Int)(hk:0≤k)(hb:k +(Ty.wt (Ty.sl tInode) x:Nat)≤1000000000000000)(hc:Ty.cost (Ty.sl tInode) x≤1099511627776) :
  ∃k' y,laws_markInodeS (x,k,())=some (k',y,())∧Ty.Mk mt (Ty.sl tInode) y k k'∧k'≤k +(Ty.wt (Ty.sl tInode) x:Nat):=by
 have hl:x.length≤1099511627776:=by have:=cost_len x;omega
 rw [wt_sl] at hb ⊢
 obtain ⟨k',y,h1,h2,_,h4,h5⟩:=mark_loop (mt:=mt) (t:=tInode) x.length hl (fun m k i x=>laws_markInodeS_L2 m k i x) (fun m k y hy=>by
   simp only [laws_markInodeS_L2,laws_markInodeS_b2];rw [lt_f (by omega)];rfl) (fun m k i y hi hy hk hb hc=>mark_InodeS_step m k i y (by omega) (by omega) hk hb hc) x.length 0 BIG k x (by omega) (by rw [BIG_eq];omega) rfl hk (by simpa using hb) (fun z hz=>by
   rw [List.drop_zero] at hz
   have h1:=sum_mem (f:=fun y=>Ty.cost tInode y) hz
   rw [cost_sl] at hc
   omega)
 refine⟨k',y,?_,?_,by simpa using h5⟩
 ·show laws_markInodeS_s (laws_markInodeS_L2 BIG) x k=_
  unfold laws_markInodeS_s
  simpa using h1
 ·rw [mk_sl];exact⟨by omega,by simpa using h4⟩
def mkv_Vol(y:tVol.D)(k k':Int):Prop:=Ty.Mk mt (Ty.sl tInode) y.2.1 k k'
theorem mark_Vol(x:tVol.D)(k:Int)(hk:0≤k)(hb:k +(Ty.wt tVol x:Nat)≤1000000000000000)(hc:Ty.cost tVol x≤1099511627776) :
  ∃k' y,laws_markVol (x,k,())=some (k',y,())∧mkv_Vol y k k'∧k'≤k +(Ty.wt tVol x:Nat):=by
 simp only [wt_st,wt_cons,wt_nil,wt_int,wt_bool,wt_str,Nat.add_zero] at hb ⊢
 simp only [cost_st,cost_cons,cost_nil,cost_int,cost_bool,cost_str,Nat.zero_add,Nat.add_zero] at hc
 generalize ew0:Ty.wt (Ty.sl tInode) x.2.1=W0 at hb ⊢
 generalize ec0:Ty.cost (Ty.sl tInode) x.2.1=C0 at hc
 obtain ⟨k0,y0,h0,m0,l0⟩:=mark_InodeS x.2.1 k (by omega) (by rw [ew0];omega) (by rw [ec0];omega)
 have mm0:=Ty.Mk_mono _ m0
 rw [ew0] at l0
 have e:laws_markVol (x,k,())=some (k0,(x.1,y0,()),()):=by
  show laws_markVol_s x k=_
  unfold laws_markVol_s
  simp only [h0,obs]
 refine⟨_,_,e,m0,by omega⟩
theorem mkv_Vol_mono{y:tVol.D}{k k':Int}(h:mkv_Vol y k k'):k≤k':=by
 unfold mkv_Vol at h
 have h0:=h
 have:=Ty.Mk_mono _ h0
 omega
set_option maxHeartbeats 4000000 in
theorem mark_IntS_step(m:Nat)(k:Int)(i:Nat)(x:(Ty.sl (.int .i64)).D)(hi:i<x.length)(hl:x.length≤1099511627776)(hk:0≤k)(hb:k +(Ty.wt (Ty.int .i64) (gd (Ty.int .i64) x i):Nat)≤1000000000000000)(hc:Ty.cost (Ty.int .i64) (gd (Ty.int .i64) x i)≤1099511627776) :
  ∃j y,laws_markIntS_L2 (m+1) k (i:Int) x=laws_markIntS_L2 m j ((i:Int)+1) (x.set i y)∧Ty.Mk mt (Ty.int .i64) y k j∧j≤k +(Ty.wt (Ty.int .i64) (gd (Ty.int .i64) x i):Nat):=by
 simp only [wt_st,wt_cons,wt_nil,wt_int,wt_bool,wt_str,mk_st,mk_cons,mk_nil,mk_int,mk_bool,mk_str,Nat.add_zero] at hb ⊢
 simp only [cost_st,cost_cons,cost_nil,cost_int,cost_bool,cost_str,Nat.zero_add,Nat.add_zero] at hc
 refine⟨k+1,k,?_,⟨rfl,by omega⟩,by omega⟩
 have hg:∀z:(Ty.int .i64).D,gd (Ty.int .i64) (x.set i z) i=z:=fun z=>gd_set_same hi
 simp only [laws_markIntS_L2]
 unfold laws_markIntS_b2
 simp (disch:=first | omega | (simp only [List.length_set];omega)) only [lt_t,ix_nat,cond_true,obs,Nat.zero_add,List.length_set,hg,List.set_set,w64_in,Int.add_assoc,Int.reduceAdd,laws_markText_mt]
theorem mark_IntS(x:(Ty.sl (.int .i64)).D)(k:Int)(hk:0≤k)(hb:k +(Ty.wt (Ty.sl (.int .i64)) x:Nat)≤1000000000000000)(hc:Ty.cost (Ty.sl (.int .i64)) x≤1099511627776) :
  ∃k' y,laws_markIntS (x,k,())=some (k',y,())∧Ty.Mk mt (Ty.sl (.int .i64)) y k k'∧k'≤k +(Ty.wt (Ty.sl (.int .i64)) x:Nat):=by
 have hl:x.length≤1099511627776:=by have:=cost_len x;omega
 rw [wt_sl] at hb ⊢
 obtain ⟨k',y,h1,h2,_,h4,h5⟩:=mark_loop (mt:=mt) (t:=(Ty.int .i64)) x.length hl (fun m k i x=>laws_markIntS_L2 m k i x) (fun m k y hy=>by
   simp only [laws_markIntS_L2,laws_markIntS_b2];rw [lt_f (by omega)];rfl) (fun m k i y hi hy hk hb hc=>mark_IntS_step m k i y (by omega) (by omega) hk hb hc) x.length 0 BIG k x (by omega) (by rw [BIG_eq];omega) rfl hk (by simpa using hb) (fun z hz=>by
   rw [List.drop_zero] at hz
   have h1:=sum_mem (f:=fun y=>Ty.cost (Ty.int .i64) y) hz
   rw [cost_sl] at hc
   omega)
 refine⟨k',y,?_,?_,by simpa using h5⟩
 ·show laws_markIntS_s (laws_markIntS_L2 BIG) x k=_
  unfold laws_markIntS_s
  simpa using h1
 ·rw [mk_sl];exact⟨by omega,by simpa using h4⟩
def mkv_Cred(y:tCred.D)(k k':Int):Prop:=Ty.Mk mt (Ty.sl (.int .i64)) y.2.2.1 k k'
theorem mark_Cred(x:tCred.D)(k:Int)(hk:0≤k)(hb:k +(Ty.wt tCred x:Nat)≤1000000000000000)(hc:Ty.cost tCred x≤1099511627776) :
  ∃k' y,laws_markCred (x,k,())=some (k',y,())∧mkv_Cred y k k'∧k'≤k +(Ty.wt tCred x:Nat):=by
 simp only [wt_st,wt_cons,wt_nil,wt_int,wt_bool,wt_str,Nat.add_zero] at hb ⊢
 simp only [cost_st,cost_cons,cost_nil,cost_int,cost_bool,cost_str,Nat.zero_add,Nat.add_zero] at hc
 generalize ew0:Ty.wt (Ty.sl (.int .i64)) x.2.2.1=W0 at hb ⊢
 generalize ec0:Ty.cost (Ty.sl (.int .i64)) x.2.2.1=C0 at hc
 obtain ⟨k0,y0,h0,m0,l0⟩:=mark_IntS x.2.2.1 k (by omega) (by rw [ew0];omega) (by rw [ec0];omega)
 have mm0:=Ty.Mk_mono _ m0
 rw [ew0] at l0
 have e:laws_markCred (x,k,())=some (k0,(x.1,x.2.1,y0,()),()):=by
  show laws_markCred_s x k=_
  unfold laws_markCred_s
  simp only [h0,obs]
 refine⟨_,_,e,m0,by omega⟩
theorem mkv_Cred_mono{y:tCred.D}{k k':Int}(h:mkv_Cred y k k'):k≤k':=by
 unfold mkv_Cred at h
 have h0:=h
 have:=Ty.Mk_mono _ h0
 omega
set_option maxHeartbeats 4000000 in
theorem held_DirentS_step(m:Nat)(k j:Int)(i:Nat)(x:(Ty.sl tDirent).D)(hi:i<x.length)(hl:x.length≤1099511627776)(hk:0≤k)(hj:j≤1000000000000000)(hm:Ty.Mk mt tDirent (gd tDirent x i) k j) :
  laws_heldDirentS_L2 (m+1) x k (i:Int)=laws_heldDirentS_L2 m x j ((i:Int)+1):=by
 have hkj:=Ty.Mk_mono _ hm
 simp only [mk_st,mk_cons,mk_nil,mk_int,mk_bool,mk_str] at hm
 obtain ⟨_,⟨e1,rfl⟩,_,⟨e2,rfl⟩,rfl⟩:=hm
 simp only [Int.add_assoc,Int.reduceAdd] at *
 simp only [laws_heldDirentS_L2]
 unfold laws_heldDirentS_b2
 simp (disch:=omega) only [lt_t,ix_nat,cond_true,cond_false,obs,Nat.zero_add,w64_in,Int.add_assoc,Int.reduceAdd,laws_markText_mt,bne_self_eq_false,eqS_refl,Bool.not_true,beq_self_eq_true,dec_f,e1,e2]
theorem held_DirentS(x:(Ty.sl tDirent).D)(k k':Int)(hk:0≤k)(hk':k'≤1000000000000000)(hm:Ty.Mk mt (Ty.sl tDirent) x k k'):laws_heldDirentS (x,k,())=some (k',()):=by
 rw [mk_sl] at hm
 obtain ⟨hl,hm⟩:=hm
 have h1:=held_loop (mt:=mt) (t:=tDirent) x (fun m k i=>laws_heldDirentS_L2 m x k i) (fun m k=>by
   simp only [laws_heldDirentS_L2,laws_heldDirentS_b2];rw [lt_f (Nat.le_refl _)];rfl) (fun m k j i hi hk hj hm=>held_DirentS_step m k j i x hi hl hk hj hm) x.length 0 BIG k k' (by omega) (by rw [BIG_eq];omega) hk hk' (by simpa using hm)
 show laws_heldDirentS_s (laws_heldDirentS_L2 BIG) x k=_
 unfold laws_heldDirentS_s
 simpa using h1
set_option maxHeartbeats 4000000 in
theorem held_InodeS_step(m:Nat)(k j:Int)(i:Nat)(x:(Ty.sl tInode).D)(hi:i<x.length)(hl:x.length≤1099511627776)(hk:0≤k)(hj:j≤1000000000000000)(hm:Ty.Mk mt tInode (gd tInode x i) k j) :
  laws_heldInodeS_L2 (m+1) x k (i:Int)=laws_heldInodeS_L2 m x j ((i:Int)+1):=by
 have hkj:=Ty.Mk_mono _ hm
 simp only [mk_st,mk_cons,mk_nil,mk_int,mk_bool,mk_str] at hm
 obtain ⟨_,⟨e1,rfl⟩,_,⟨e2,rfl⟩,_,⟨e3,rfl⟩,_,⟨e4,rfl⟩,_,⟨e5,rfl⟩,_,⟨e6,rfl⟩,_,m1,_,⟨e7,rfl⟩,_,⟨e8,rfl⟩,rfl⟩:=hm
 have mm1:=Ty.Mk_mono _ m1
 have h1:=held_DirentS _ _ _ (by omega) (by omega) m1
 simp only [Int.add_assoc,Int.reduceAdd] at *
 simp only [laws_heldInodeS_L2]
 unfold laws_heldInodeS_b2
 simp (disch:=omega) only [lt_t,ix_nat,cond_true,cond_false,obs,Nat.zero_add,w64_in,Int.add_assoc,Int.reduceAdd,laws_markText_mt,bne_self_eq_false,eqS_refl,Bool.not_true,beq_self_eq_true,dec_f,e1,e2,e3,e4,e5,e6,e7,e8,h1]
theorem held_InodeS(x:(Ty.sl tInode).D)(k k':Int)(hk:0≤k)(hk':k'≤1000000000000000)(hm:Ty.Mk mt (Ty.sl tInode) x k k'):laws_heldInodeS (x,k,())=some (k',()):=by
 rw [mk_sl] at hm
 obtain ⟨hl,hm⟩:=hm
 have h1:=held_loop (mt:=mt) (t:=tInode) x (fun m k i=>laws_heldInodeS_L2 m x k i) (fun m k=>by
   simp only [laws_heldInodeS_L2,laws_heldInodeS_b2];rw [lt_f (Nat.le_refl _)];rfl) (fun m k j i hi hk hj hm=>held_InodeS_step m k j i x hi hl hk hj hm) x.length 0 BIG k k' (by omega) (by rw [BIG_eq];omega) hk hk' (by simpa using hm)
 show laws_heldInodeS_s (laws_heldInodeS_L2 BIG) x k=_
 unfold laws_heldInodeS_s
 simpa using h1
theorem held_Vol(x:tVol.D)(k k':Int)(hk:0≤k)(hk':k'≤1000000000000000)(hm:mkv_Vol x k k'):laws_heldVol (x,k,())=some (k',()):=by
 unfold mkv_Vol at hm
 have h0:=hm
 have g0:=Ty.Mk_mono _ h0
 show laws_heldVol_s x k=_
 unfold laws_heldVol_s
 rw [held_InodeS _ _ _ (by omega) (by omega) h0];simp only [obs];rw [dec_f (by omega)];simp only [cond_false]
end Go.LM.Vg
