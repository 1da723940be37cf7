/- The data and the interpreter of the reflective walk, and how its states stand for frames and worlds. Conditions: each theorem's own hypotheses. -/
import Derived.Calls
import Derived.KernelRfl
import Derived.Orders
set_option linter.unusedVariables false
set_option linter.unusedSimpArgs false
namespace Go.LM
theorem aw.{u,v}{α:Type u}{β:Type v}(a:α)(f:α→Option β):(some a).bind f=f a:=rfl
theorem aZ.{u}{α:Type u}{a b:α}(h:some a=some b):a=b:=_root_.Option.some.inj h
theorem bq.{u,v}{α:Type u}{β:Type v}{o:Option α}{f:α→Option β}{b:β}(h:o.bind f=some b):∃a,o=some a∧f a=some b:=_root_.Option.bind_eq_some_iff.1 h
mutual
inductive ae where
 | int (k:IntKind)
 | bool
 | str
 | sl (t:ae)
 | st (ak:aC)
 | raw
inductive aC where
 | nil
 | cons (t:ae) (ak:aC)
end
mutual
@[reducible] def ae.D:ae→Type
 | .int _=>Int
 | .bool=>Bool
 | .str=>List UInt8
 | .sl t=>List t.D
 | .st ak=>ak.D
 | .raw=>Value
@[reducible] def aC.D:aC→Type
 | .nil=>Unit
 | .cons t ak=>t.D×ak.D
end
def dz:IntKind→Nat
 | .i8=>0 | .i16=>1 | .i32=>2 | .i64=>3 | .u8=>4 | .u16=>5 | .u32=>6 | .u64=>7
theorem t_:∀ {a b:IntKind},dz a=dz b→a=b:=by intro a b;cases a <;> cases b <;> simp [dz]
mutual
def ae.beq:ae→ae→Bool
 | .int a,.int b=>Nat.beq (dz a) (dz b)
 | .bool,.bool=>true
 | .str,.str=>true
 | .sl a,.sl b=>ae.beq a b
 | .st a,.st b=>aC.beq a b
 | .raw,.raw=>true
 | _,_=>false
def aC.beq:aC→aC→Bool
 | .nil,.nil=>true
 | .cons a as,.cons b bw=>cond (ae.beq a b) (aC.beq as bw) false
 | _,_=>false
end
mutual
theorem ae.eq_of_beq:∀(a b:ae),ae.beq a b=true→a=b
 | .int a,.int b,h=>by simp only [ae.beq] at h;rw [t_ (Nat.eq_of_beq_eq_true h)]
 | .bool,.bool,_=>rfl
 | .str,.str,_=>rfl
 | .sl a,.sl b,h=>by simp only [ae.beq] at h;rw [ae.eq_of_beq a b h]
 | .st a,.st b,h=>by simp only [ae.beq] at h;rw [aC.eq_of_beq a b h]
 | .raw,.raw,_=>rfl
 | .int _,.bool,h | .int _,.str,h | .int _,.sl _,h | .int _,.st _,h | .int _,.raw,h=>by simp [ae.beq] at h
 | .bool,.int _,h | .bool,.str,h | .bool,.sl _,h | .bool,.st _,h | .bool,.raw,h=>by simp [ae.beq] at h
 | .str,.int _,h | .str,.bool,h | .str,.sl _,h | .str,.st _,h | .str,.raw,h=>by simp [ae.beq] at h
 | .sl _,.int _,h | .sl _,.bool,h | .sl _,.str,h | .sl _,.st _,h | .sl _,.raw,h=>by simp [ae.beq] at h
 | .st _,.int _,h | .st _,.bool,h | .st _,.str,h | .st _,.sl _,h | .st _,.raw,h=>by simp [ae.beq] at h
 | .raw,.int _,h | .raw,.bool,h | .raw,.str,h | .raw,.sl _,h | .raw,.st _,h=>by simp [ae.beq] at h
theorem aC.eq_of_beq:∀(a b:aC),aC.beq a b=true→a=b
 | .nil,.nil,_=>rfl
 | .cons a as,.cons b bw,h=>by
  simp only [aC.beq] at h;cases hb:ae.beq a b
  ·rw [hb] at h;simp at h
  ·rw [hb] at h;rw [ae.eq_of_beq a b hb,aC.eq_of_beq as bw h]
 | .nil,.cons _ _,h | .cons _ _,.nil,h=>by simp [aC.beq] at h
end
def eP(a b:ae)(x:a.D):Option b.D:=
 if h:ae.beq a b=true then some ((ae.eq_of_beq a b h) ▸ x) else none
theorem Cz{a b:ae}{x:a.D}{y:b.D}(h:eP a b x=some y):∃e:a=b,y=e ▸ x:=by
 unfold eP at h;split at h
 ·rename_i hb;exact⟨ae.eq_of_beq a b hb,by injection h with h;exact h.symm⟩
 ·simp at h
mutual
def ae.size:ae→Nat
 | .st ak=>ak.size
 | _=>1
def aC.size:aC→Nat
 | .nil=>0
 | .cons t ak=>t.size+ak.size
end
mutual
def ae.zero:(t:ae)→t.D
 | .int _=>(0:Int)
 | .bool=>false
 | .str=>([]:List UInt8)
 | .sl t=>([]:List t.D)
 | .st ak=>ak.zero
 | .raw=>(.slice none 0 0:Value)
def aC.zero:(ak:aC)→ak.D
 | .nil=>()
 | .cons t ak=>(t.zero,ak.zero)
end
mutual
inductive bl where
 | R
 | O (e:bl)
 | S (ms:c4)
inductive c4 where
 | nil
 | cons (m:bl) (ms:c4)
end
mutual
def bl.beq:bl→bl→Bool
 | .R,.R=>true
 | .O a,.O b=>bl.beq a b
 | .S a,.S b=>c4.beq a b
 | _,_=>false
def c4.beq:c4→c4→Bool
 | .nil,.nil=>true
 | .cons a as,.cons b bw=>cond (bl.beq a b) (c4.beq as bw) false
 | _,_=>false
end
mutual
theorem bl.eq_of_beq:∀(a b:bl),bl.beq a b=true→a=b
 | .R,.R,_=>rfl
 | .O a,.O b,h=>by simp only [bl.beq] at h;rw [bl.eq_of_beq a b h]
 | .S a,.S b,h=>by simp only [bl.beq] at h;rw [c4.eq_of_beq a b h]
 | .R,.O _,h | .R,.S _,h | .O _,.R,h | .O _,.S _,h | .S _,.R,h | .S _,.O _,h=>by simp [bl.beq] at h
theorem c4.eq_of_beq:∀(a b:c4),c4.beq a b=true→a=b
 | .nil,.nil,_=>rfl
 | .cons a as,.cons b bw,h=>by
  simp only [c4.beq] at h;cases hb:bl.beq a b
  ·rw [hb] at h;simp at h
  ·rw [hb] at h;rw [bl.eq_of_beq a b hb,c4.eq_of_beq as bw h]
 | .nil,.cons _ _,h | .cons _ _,.nil,h=>by simp [c4.beq] at h
end
def bl.elem:bl→bl
 | .O e=>e
 | _=>.R
def c4.ah:c4→bl
 | .cons m _=>m
 | .nil=>.R
def c4.dF:c4→c4
 | .cons _ ms=>ms
 | .nil=>.nil
def bl.parts:bl→c4
 | .S ms=>ms
 | _=>.nil
structure Place where
 id:Nat
 fD:Option Nat
 off:Nat
inductive bd where
 | int (k:IntKind) (x:Int)
 | bool (b:Bool)
 | str (s:List UInt8)
 | raw (v:Value)
 | nil (t:ae)
 | bY (t:ae) (aqX:List (Nat×Nat)) (aqY:Option Place) (xs:List t.D)
 | ah (id:Nat) (sub:Option (Nat×Nat))
inductive a_ where
 | ay
 | gone
 | aW (c:bd)
 | iD (cs:List bd)
 | ptr (p:Place)
 | dk (dp:List (Nat×Nat)) (cs:List bd) (off:Nat)
 | kd
 | ld
 | opt (id:Nat) (o:Int)
 | r4 (t:ae)
 | may (b:Bool) (dp:List (Nat×Nat)) (cs:List bd)
 | fn (f:FuncId) (first lP:List a_)
 | px (l:List a_)
inductive cE where
 | none
 | dead
 | var (ver:Nat) (cs:List bd)
 | row (t:ae) (em:bl) (ver:Nat) (xs:List t.D)
 | ck (o:cE)
def cE.core:cE→cE
 | .ck o=>o
 | o=>o
structure aq where
 t:Nat→a_
 o:Nat→cE
 g:List a_
def bZ{α : Type}(f:Nat → α)(i:Nat)(v : α):Nat → α := fun j=>cond (Nat.beq j i) v (f j)
theorem cN{α : Type}(f:Nat → α)(i:Nat)(v : α):bZ f i v i=v:=by simp [bZ]
theorem r5{α : Type}{f:Nat → α}{i j:Nat}{v : α}(h:j≠i):bZ f i v j=f j:=by
 unfold bZ
 have:Nat.beq j i=false:=by
  cases hb:Nat.beq j i
  ·rfl
  ·exact absurd (Nat.eq_of_beq_eq_true hb) h
 rw [this];rfl
def aq.set(s:aq)(d:Nat)(v:a_):aq:=⟨bZ s.t d v,s.o,s.g⟩
def aq.bV(s:aq)(i:Nat)(v:cE):aq:=⟨s.t,bZ s.o i v,s.g⟩
def aq.dst(s:aq)(d:Option Nat)(v:a_):aq:=
 match d with
 | some d=>s.set d v
 | none=>s
mutual
def ae.cells:(t:ae)→List (Nat×Nat)→Option Place→t.D→List bd
 | .int k,_,_,x=>[.int k x]
 | .bool,_,_,x=>[.bool x]
 | .str,_,_,x=>[.str x]
 | .sl t,dp,cJ,x=>[.bY t dp cJ x]
 | .st ak,dp,cJ,x=>ak.cells dp cJ x
 | .raw,_,_,x=>[.raw x]
def aC.cells:(ak:aC)→List (Nat×Nat)→Option Place→ak.D→List bd
 | .nil,_,_,_=>[]
 | .cons t ak,dp,cJ,x=>t.cells dp cJ x.1++ak.cells dp (cJ.map fun p=> { p with off:=p.off+t.size }) x.2
end
mutual
def ae.jE:ae→List bd
 | .int k=>[.int k 0]
 | .bool=>[.bool false]
 | .str=>[.str []]
 | .sl t=>[.nil t]
 | .st ak=>ak.jE
 | .raw=>[.raw (.slice none 0 0)]
def aC.jE:aC→List bd
 | .nil=>[]
 | .cons t ak=>t.jE++ak.jE
end
mutual
def ae.own:ae→bl
 | .sl t=>.O t.own
 | .st ak=>if ak.flat then .R else .S ak.own
 | _=>.R
def aC.own:aC→c4
 | .nil=>.nil
 | .cons t ak=>.cons t.own ak.own
def ae.flat:ae→Bool
 | .sl _=>false
 | .st ak=>ak.flat
 | _=>true
def aC.flat:aC→Bool
 | .nil=>true
 | .cons t ak=>cond t.flat ak.flat false
end
def bl.le(a b:bl):Bool:=
 match b with
 | .R=>true
 | _=>bl.beq a b
end Go.LM
namespace Go.LM
def room(n:Nat):Bool:=Nat.ble n 68719476736
def jZ{bB : Type}(b:Bool)(x:Option bB):Option bB:= cond b x none
def aM(n:Nat)(i:Int):Option Nat:=if 0≤i∧i<(n:Int) then some i.toNat else none
def eh(n:Nat)(lo hi:Int):Option (Nat×Nat):=if 0≤lo∧lo≤hi∧hi≤(n:Int) then some (lo.toNat,hi.toNat) else none
def I(t:ae)(xs:List t.D)(n:Nat):t.D:=xs.getD n t.zero
def part{α : Type}(l:List α)(lo len:Nat):List α :=(l.drop lo).take len
def aH(x:Int):Int:=IntKind.wrap .i64 x
def cY(op:BinOp)(k:IntKind)(x y:Int):Int:=
 let a:=BitVec.ofInt k.bits x
 let b:=BitVec.ofInt k.bits y
 match op with
 | .and=>k.wrap (a &&& b).toNat
 | .or=>k.wrap (a ||| b).toNat
 | .xor=>k.wrap (a ^^^ b).toNat
 | _=>k.wrap (a &&& ~~~b).toNat
def bD(x y:List UInt8):Bool:=decide (x=y)
def dG(x y:List UInt8):Bool:=Op.bytesLess x y
def ab8(x y:Int):Int:=if y>x then y else x
def j0(x y:Int):Int:=if y<x then y else x
def eI(s:List UInt8):List Int:=s.map fun b=>(b.toNat:Int)
def gP(l:List Int):List UInt8:=l.map fun n=>UInt8.ofNat n.toNat
inductive bF where
 | val (t:ae) (m:bl)
 | ref (t:ae)
 | mut (t:ae) (m m':bl)
 | hR (t:ae) (m:bl)
 | fn (mu py:Nat)
 | hS (t:ae)
inductive c7 where
 | val (t:ae) (m:bl)
 | opt (arg off:Nat) (t:ae)
 | new (t:ae) (m:bl)
 | pz (t:ae)
 | any (t:ae)
def bF.ins:List bF→aC
 | []=>.nil
 | .val t _ :: l | .ref t :: l | .mut t _ _ :: l | .hR t _ :: l | .hS t :: l=>.cons t (bF.ins l)
 | .fn _ _ :: l=>bF.ins l
def c7.outs:List c7→aC→aC
 | [],ak=>ak
 | .val t _ :: l,ak=>.cons t (c7.outs l ak)
 | .new t _ :: l,ak=>.cons t (c7.outs l ak)
 | .pz t :: l,ak=>.cons (.sl t) (c7.outs l ak)
 | .any _ :: l,ak=>c7.outs l ak
 | .opt _ _ _ :: l,ak=>.cons (.int .i64) (c7.outs l ak)
def bF.eg:List bF→aC
 | []=>.nil
 | .mut t _ _ :: l | .hR t _ :: l=>.cons t (bF.eg l)
 | _ :: l=>bF.eg l
structure Entry where
 ps:List bF
 rs:List c7
 f:(bF.ins ps).D→Option (c7.outs rs (bF.eg ps)).D
structure Env where
 n:Nat
 ty:Nat→Option ae
 Jt:Nat→Bool
 t':Nat→Bool
 fns:FuncId→FuncId→Option Entry
def lf{α : Type}(sub:Option (Nat×Nat))(xs:List α):List α :=
 match sub with
 | none=>xs
 | some (lo,len)=>part xs lo len
def lQ{α : Type}(sub:Option (Nat×Nat))(xs:List α):Nat:=
 match sub with
 | none=>xs.length
 | some (_,len)=>len
def er(sub:Option (Nat×Nat)):Nat:=
 match sub with
 | none=>0
 | some (lo,_)=>lo
def alive(s:aq):List (Nat×Nat)→Bool
 | []=>true
 | (i,v) :: l=>match s.o i with
  | .row _ _ w _=>cond (Nat.beq w v) (alive s l) false
  | .var w _=>cond (Nat.beq w v) (alive s l) false
  | _=>false
def kG(s:aq)(id:Nat):Nat:=
 match s.o id with
 | .row _ _ v _=>v
 | .var v _=>v
 | .ck (.row _ _ v _)=>v
 | .ck (.var v _)=>v
 | _=>0
def pA(s:aq)(t:ae):bd→Option (List t.D)
 | .nil u=>eP (.sl u) (.sl t) ([]:List u.D)
 | .bY u dp _ xs=>cond (alive s dp) (eP (.sl u) (.sl t) xs) none
 | .ah id sub=>match s.o id with
  | .row u _ _ xs=>eP (.sl u) (.sl t) (lf sub xs)
  | _=>none
 | _=>none
def borrows(s:aq):bd→List (Nat×Nat)
 | .ah id _=>match s.o id with
  | .row _ _ v _=>[(id,v)]
  | _=>[]
 | .bY _ dp _ _=>dp
 | _=>[]
mutual
def ae.imp:(t:ae)→(b:Bool)→bl→List bd→aq→List (Nat×Nat)→Option (t.D×List bd×aq×List (Nat×Nat))
 | .int k,_,_,.int k' x :: cs,s,bw=>cond (Nat.beq (dz k) (dz k')) (some (x,cs,s,bw)) none
 | .bool,_,_,.bool x :: cs,s,bw=>some (x,cs,s,bw)
 | .str,_,_,.str x :: cs,s,bw=>some (x,cs,s,bw)
 | .raw,_,_,.raw x :: cs,s,bw=>some (x,cs,s,bw)
 | .sl t,b,.O e,c :: cs,s,bw=>match c with
  | .nil u=>(eP (.sl u) (.sl t) ([]:List u.D)).bind fun x=>some (x,cs,s,bw)
  | .ah id sub=>match s.o id with
   | .row u em _ xs=>cond (bl.le em e) ((eP (.sl u) (.sl t) (lf sub xs)).bind fun x=>some (x,cs,s.bV id .dead,bw)) none
   | _=>none
  | _=>none
 | .sl t,true,_,c :: cs,s,bw=>(pA s t c).bind fun x=>some (x,cs,s,borrows s c++bw)
 | .sl t,false,_,c :: cs,s,bw=>match c with
  | .nil u=>(eP (.sl u) (.sl t) ([]:List u.D)).bind fun x=>some (x,cs,s,bw)
  | .bY u [] _ xs=>(eP (.sl u) (.sl t) xs).bind fun x=>some (x,cs,s,bw)
  | .ah id sub=>match s.o id with
   | .row u _ _ xs=>(eP (.sl u) (.sl t) (lf sub xs)).bind fun x=>some (x,cs,s.bV id .dead,bw)
   | _=>none
  | _=>none
 | .st ak,b,m,cs,s,bw=>ak.imp b m.parts cs s bw
 | _,_,_,_,_,_=>none
def aC.imp:(ak:aC)→(b:Bool)→c4→List bd→aq→List (Nat×Nat)→Option (ak.D×List bd×aq×List (Nat×Nat))
 | .nil,_,_,cs,s,bw=>some ((),cs,s,bw)
 | .cons t ak,b,m,cs,s,bw=>(t.imp b m.ah cs s bw).bind fun r=>(ak.imp b m.dF r.2.1 r.2.2.1 r.2.2.2).bind fun q=>some ((r.1,q.1),q.2)
end
mutual
def ae.put:(t:ae)→bl→t.D→Nat→List bd→aq→Option (t.D×List bd×aq)
 | t,m,x,skip,cs,s=>
  match cs with
  | []=>some (x,[],s)
  | c :: cs'=>
   cond (Nat.beq skip 0&&Nat.ble t.size (cs'.length+1)) ((t.imp false m (c :: cs') s []).bind fun r=>some (r.1,r.2.1,r.2.2.1))
    (match t,x with
     | .st ak,x=>ak.put m.parts x skip (c :: cs') s
     | _,_=>none)
def aC.put:(ak:aC)→c4→ak.D→Nat→List bd→aq→Option (ak.D×List bd×aq)
 | .nil,_,_,_,cs,s=>some ((),cs,s)
 | .cons t ak,m,x,skip,cs,s=>
  cond (Nat.ble t.size skip) ((ak.put m.dF x.2 (skip-t.size) cs s).bind fun q=>some ((x.1,q.1),q.2))
   ((t.put m.ah x.1 skip cs s).bind fun r=>(ak.put m.dF x.2 0 r.2.1 r.2.2).bind fun q=>some ((r.1,q.1),q.2))
end
mutual
def ae.hT:(t:ae)→bl→List (Nat×Nat)→t.D→aq→Nat→Option (List bd×aq×Nat)
 | .int k,_,_,x,s,j=>some ([.int k x],s,j)
 | .bool,_,_,x,s,j=>some ([.bool x],s,j)
 | .str,_,_,x,s,j=>some ([.str x],s,j)
 | .raw,_,_,x,s,j=>some ([.raw x],s,j)
 | .sl t,.O e,dp,x,s,j=>cond (dp.isEmpty||bl.beq e t.own) (match s.o j with
  | .none=>some ([.ah j none],s.bV j (.row t e 0 x),j+1)
  | _=>none) none
 | .sl t,_,dp,x,s,j=>some ([.bY t dp none x],s,j)
 | .st ak,m,dp,x,s,j=>ak.hT m.parts dp x s j
def aC.hT:(ak:aC)→c4→List (Nat×Nat)→ak.D→aq→Nat→Option (List bd×aq×Nat)
 | .nil,_,_,_,s,j=>some ([],s,j)
 | .cons t ak,m,dp,x,s,j=>(t.hT m.ah dp x.1 s j).bind fun r=>(ak.hT m.dF dp x.2 r.2.1 r.2.2).bind fun q=>some (r.1++q.1,q.2)
end
mutual
def ae.zp:(t:ae)→aq→List bd→bl×List bd
 | .sl t,s,c :: cs=>(match c with
  | .nil _=>.O t.own
  | .ah id _=>match s.o id with
   | .row _ em _ _=>.O em
   | _=>.R
  | _=>.R,cs)
 | .st ak,s,cs=>cond ak.flat (.R,cs.drop ak.size) (let r:=ak.zp s cs;(.S r.1,r.2))
 | _,_,cs=>(.R,cs.drop 1)
def aC.zp:(ak:aC)→aq→List bd→c4×List bd
 | .nil,_,cs=>(.nil,cs)
 | .cons t ak,s,cs=>let r:=t.zp s cs;let q:=ak.zp s r.2;(.cons r.1 q.1,q.2)
end
def takeN(off n:Nat)(cs:List bd):Option (List bd):=
 cond (Nat.ble (off+n) cs.length) (some (part cs off n)) none
def Ju(t:ae)(em:bl)(id ver i:Nat)(x:t.D):List bd:=
 match em with
 | .R=>t.cells [] none x
 | _=>t.cells [(id,ver)] (some ⟨id,some i,0⟩) x
def mv(s:aq)(n:Nat)(p:Place):Option (List bd):=
 match s.o p.id,p.fD with
 | .var _ cs,none=>takeN p.off n cs
 | .row t em ver xs,some i=>takeN p.off n (Ju t em p.id ver i (I t xs i))
 | _,_=>none
def CA(s:aq)(p:Place)(cs:List bd):Option aq:=
 match s.o p.id,p.fD with
 | .var ver old,none=>cond (Nat.ble (p.off+cs.length) old.length) (some (s.bV p.id (.var (ver+1) (old.take p.off++cs++old.drop (p.off+cs.length))))) none
 | .row t em ver xs,some i=>
  cond (Nat.ble (p.off+cs.length) t.size) ((t.put em (I t xs i) p.off cs s).bind fun r=>
   match r.2.1,r.2.2.o p.id with
   | [],.row _ _ _ _=>some (r.2.2.bV p.id (.row t em (ver+1) (xs.set i r.1)))
   | _,_=>none) none
 | _,_=>none
def ke(t:ae)(cs:List bd):Option a_:=
 match t with
 | .st _=>some (.iD cs)
 | _=>match cs with
  | [c]=>some (.aW c)
  | _=>none
def ja(t:ae):a_→Option (List bd)
 | .aW c=>some [c]
 | .iD cs=>some cs
 | .ld=>match t with
  | .sl u=>some [.nil u]
  | _=>none
 | _=>none
def Jv:Value→a_
 | .int k n=>.aW (.int k n)
 | .bool b=>.aW (.bool b)
 | .string b=>.aW (.str b.data.toList)
 | .slice none 0 0=>.ld
 | .pointer none=>.kd
 | _=>.ay
def b0(s:aq):Operand→a_
 | .tmp t=>s.t t
 | .const v=>Jv v
 | .func f=>.fn f [] []
 | .global _=>.ay
def typed(E:Env)(t:Nat):a_→Option a_
 | .ay=>none
 | .gone=>none
 | .ld=>match E.ty t with
  | some (.sl u)=>some (.aW (.nil u))
  | _=>none
 | v=>some v
def kH:a_→Option Int
 | .aW (.int _ n)=>some n
 | _=>none
end Go.LM
namespace Go.LM
def oj(s:aq):bd→Option Nat
 | .nil _=>some 0
 | .bY _ dp _ xs=>cond (alive s dp) (some xs.length) none
 | .ah id sub=>match s.o id with
  | .row _ _ _ xs=>some (lQ sub xs)
  | _=>none
 | .str x=>some x.length
 | _=>none
mutual
def ae.cmp:ae→List bd→List bd→Option (Bool×List bd×List bd)
 | .int k,.int k1 x :: a,.int k2 y :: b=>cond (Nat.beq (dz k1) (dz k)&&Nat.beq (dz k2) (dz k)) (some (x==y,a,b)) none
 | .bool,.bool x :: a,.bool y :: b=>some (x==y,a,b)
 | .str,.str x :: a,.str y :: b=>some (bD x y,a,b)
 | .st ak,a,b=>ak.cmp a b
 | _,_,_=>none
def aC.cmp:aC→List bd→List bd→Option (Bool×List bd×List bd)
 | .nil,a,b=>some (true,a,b)
 | .cons t ak,a,b=>(t.cmp a b).bind fun r=>(ak.cmp r.2.1 r.2.2).bind fun q=>some (r.1&&q.1,q.2)
end
def CB(op:BinOp)(k:IntKind)(x y:Int):Option a_:=
 match op with
 | .add=>some (.aW (.int k (k.wrap (x+y))))
 | .sub=>some (.aW (.int k (k.wrap (x-y))))
 | .mul=>some (.aW (.int k (k.wrap (x*y))))
 | .and=>some (.aW (.int k (cY .and k x y)))
 | .or=>some (.aW (.int k (cY .or k x y)))
 | .xor=>some (.aW (.int k (cY .xor k x y)))
 | .andNot=>some (.aW (.int k (cY .andNot k x y)))
 | .eql=>some (.aW (.bool (x==y)))
 | .neq=>some (.aW (.bool (x != y)))
 | .lss=>some (.aW (.bool (decide (x<y))))
 | .leq=>some (.aW (.bool (decide (x≤y))))
 | .gtr=>some (.aW (.bool (decide (x>y))))
 | .geq=>some (.aW (.bool (decide (x≥y))))
 | _=>none
def CC(op:BinOp)(x y:List UInt8):Option a_:=
 match op with
 | .eql=>some (.aW (.bool (bD x y)))
 | .neq=>some (.aW (.bool (!bD x y)))
 | .lss=>some (.aW (.bool (dG x y)))
 | .leq=>some (.aW (.bool (dG x y||bD x y)))
 | .gtr=>some (.aW (.bool (!(dG x y||bD x y))))
 | .geq=>some (.aW (.bool (!dG x y)))
 | _=>none
section
variable{bB : Type}
def lift(x:Option a_)(K:a_→Option bB):Option bB:=
 match x with
 | some v=>K v
 | none=>none
open Classical in
noncomputable def both(a b:Option bB):Option bB:= if a=b then a else none
noncomputable def CD(b:Bool)(x y:Option bB):Option bB:= cond b (both x y) y
noncomputable def lg(E:Env)(ty:Nat)(op:BinOp)(x y:a_)(K:a_→Option bB):Option bB:=
 match x,y with
 | .aW (.int k a),.aW (.int k' b)=>
  match op with
  | .shl=>jZ (decide (0≤b)) (K (.aW (.int k (k.wrap (a*2 ^ min b.toNat k.bits)))))
  | .shr=>jZ (decide (0≤b)) (K (.aW (.int k (a.fdiv (2 ^ min b.toNat k.bits)))))
  | .quo=>cond (Nat.beq (dz k) (dz k')) (jZ (b != 0) (K (.aW (.int k (k.wrap (a.tdiv b)))))) none
  | .rem=>cond (Nat.beq (dz k) (dz k')) (jZ (b != 0) (K (.aW (.int k (a.tmod b))))) none
  | _=>cond (Nat.beq (dz k) (dz k')) (lift (CB op k a b) K) none
 | .aW (.str a),.aW (.str b)=>
  match op with
  | .add=>jZ (room (a.length+b.length)) (K (.aW (.str (a++b))))
  | _=>lift (CC op a b) K
 | .aW (.bool a),.aW (.bool b)=>
  match E.ty ty,op with
  | some .bool,.eql=>K (.aW (.bool (a==b)))
  | some .bool,.neq=>K (.aW (.bool (!(a==b))))
  | _,_=>none
 | .iD a,.iD b=>
  cond (E.Jt ty) (match E.ty ty with
  | some T=>(match op,T.cmp a b with
   | .eql,some (r,[],[])=>K (.aW (.bool r))
   | .neq,some (r,[],[])=>K (.aW (.bool (!r)))
   | _,_=>none)
  | none=>none) none
 | .aW (.bY _ [] _ xs),.ld=>
  match E.ty ty,op with
  | some (.sl _),.eql=>CD xs.isEmpty (K (.aW (.bool true))) (K (.aW (.bool false)))
  | some (.sl _),.neq=>CD xs.isEmpty (K (.aW (.bool false))) (K (.aW (.bool true)))
  | _,_=>none
 | .opt _ o,.kd=>
  match E.t' ty,op with
  | true,.eql=>K (.aW (.bool (decide (o<0))))
  | true,.neq=>K (.aW (.bool (!decide (o<0))))
  | _,_=>none
 | .ptr _,.kd=>
  match E.t' ty,op with
  | true,.eql=>K (.aW (.bool false))
  | true,.neq=>K (.aW (.bool true))
  | _,_=>none
 | .may b _ _,.kd=>
  match E.t' ty,op with
  | true,.eql=>K (.aW (.bool (!b)))
  | true,.neq=>K (.aW (.bool b))
  | _,_=>none
 | _,_=>none
def Jw(op:UnOp)(x:a_)(K:a_→Option bB):Option bB:=
 match op,x with
 | .neg,.aW (.int k n)=>K (.aW (.int k (k.wrap (0-n))))
 | .xor,.aW (.int k n)=>K (.aW (.int k (cY .xor k (if k.signed then -1 else k.max) n)))
 | .not,.aW (.bool b)=>K (.aW (.bool (!b)))
 | _,_=>none
def qz(t:ae)(m:bl):List (List bd)→aq→Option (List t.D×aq)
 | [],s=>some ([],s)
 | cs :: B,s=>(t.imp false m cs s []).bind fun r=>
   match r.2.1 with
   | []=>(qz t m B r.2.2.1).bind fun q=>some (r.1 :: q.1,q.2)
   | _=>none
def aC.nth:aC→Nat→Option ae
 | .nil,_=>none
 | .cons t _,0=>some t
 | .cons _ ak,n+1=>aC.nth ak n
def aC.om:aC→List (List bd)
 | .nil=>[]
 | .cons t ak=>t.jE :: aC.om ak
def r6(s:aq)(ty:Nat→Option ae):List (Nat×Operand)→List (List bd)→Option (List (List bd))
 | [],B=>some B
 | (i,x) :: ps,B=>
  match ty i with
  | none=>none
  | some t=>
   match ja t (b0 s x) with
   | none=>none
   | some cs=>cond (Nat.beq cs.length t.size) (r6 s ty ps (B.set i cs)) none
def aC.off:aC→Nat→Option (Nat×ae)
 | .nil,_=>none
 | .cons t _,0=>some (0,t)
 | .cons t ak,n+1=>(aC.off ak n).bind fun r=>some (t.size+r.1,r.2)
def mkObj(s:aq)(id:Nat)(o:cE):Option aq:=
 match s.o id with
 | .none=>some (s.bV id o)
 | _=>none
def taken(s:aq)(t:ae):bd→Option (bl×List t.D×aq)
 | .nil u=>(eP (.sl u) (.sl t) ([]:List u.D)).bind fun x=>some (t.own,x,s)
 | .ah id sub=>match s.o id with
  | .row u em _ xs=>(eP (.sl u) (.sl t) (lf sub xs)).bind fun x=>some (em,x,s.bV id .dead)
  | _=>none
 | _=>none
def added(s:aq)(t:ae):bd→Option (bl×List t.D×aq)
 | .ah id sub=>match s.o id with
  | .row u em _ xs=>match em with
   | .R=>(eP (.sl u) (.sl t) (lf sub xs)).bind fun x=>some (.R,x,s)
   | _=>(eP (.sl u) (.sl t) (lf sub xs)).bind fun x=>some (em,x,s.bV id .dead)
  | _=>none
 | .bY u dp _ xs=>cond (alive s dp&&(t.flat||dp.isEmpty)) ((eP (.sl u) (.sl t) xs).bind fun x=>some (.R,x,s)) none
 | .nil u=>(eP (.sl u) (.sl t) ([]:List u.D)).bind fun x=>some (t.own,x,s)
 | .str x=>(eP (.sl (.int .u8)) (.sl t) (eI x)).bind fun y=>some (.R,y,s)
 | _=>none
def meet(a b:bl):bl:=cond (bl.beq a b) a .R
def RJ(id:Nat)(t:ae)(s:aq)(a b:bd)(K:bd→aq→Option bB):Option bB:=
 match added s t b with
 | none=>none
 | some (kI,ys,s1)=>
  match taken s1 t a with
  | none=>none
  | some (oo,xs,s2)=>
   match mkObj s2 id (.row t (meet oo kI) 0 (xs++ys)) with
   | none=>none
   | some s3=>jZ (room (xs.length+ys.length)) (K (.ah id none) s3)
def oq(t:ae)(v:a_):Bool:=
 match t,v with
 | .st _,.iD _=>true
 | .st _,_=>false
 | _,.aW _=>true
 | .sl _,.ld=>true
 | _,_=>false
mutual
def ae.getAt:(T:ae)→Nat→(t:ae)→T.D→Option (List t.D)
 | .sl u,off,t,x=>cond (Nat.beq off 0) (eP (.sl u) (.sl t) x) none
 | .st ak,off,t,x=>ak.getAt off t x
 | _,_,_,_=>none
def aC.getAt:(ak:aC)→Nat→(t:ae)→ak.D→Option (List t.D)
 | .nil,_,_,_=>none
 | .cons T ak,off,t,x=>cond (Nat.blt off T.size) (T.getAt off t x.1) (ak.getAt (off-T.size) t x.2)
end
mutual
def ae.setAt:(T:ae)→Nat→(t:ae)→List t.D→T.D→Option T.D
 | .sl u,off,t,y,_=>cond (Nat.beq off 0) (eP (.sl t) (.sl u) y) none
 | .st ak,off,t,y,x=>ak.setAt off t y x
 | _,_,_,_,_=>none
def aC.setAt:(ak:aC)→Nat→(t:ae)→List t.D→ak.D→Option ak.D
 | .nil,_,_,_,_=>none
 | .cons T ak,off,t,y,x=>cond (Nat.blt off T.size) ((T.setAt off t y x.1).bind fun z=>some (z,x.2)) ((ak.setAt (off-T.size) t y x.2).bind fun z=>some (x.1,z))
end
def ua(t:ae)(e:bl)(s:aq)(dp:List (Nat×Nat)):Option Place→Option (List t.D×aq)
 | none=>none
 | some p=>
  match p.fD,s.o p.id with
  | some i,.row T em ver ys=>cond (alive s dp&&bl.beq em T.own&&bl.beq e t.own) ((T.getAt p.off t (I T ys i)).bind fun x=>some (x,s.bV p.id (.ck (.row T em ver ys)))) none
  | _,_=>none
def wX(t:ae)(x:List t.D)(s:aq):Option Place→Option aq
 | none=>none
 | some p=>
  match p.fD,s.o p.id with
  | some i,.ck (.row T em ver ys)=>(T.setAt p.off t x (I T ys i)).bind fun z=>some (s.bV p.id (.row T em (ver+1) (ys.set i z)))
  | _,_=>none
mutual
def ae.fE:(t:ae)→bl→List bd→aq→Option (t.D×List bd×aq)
 | .int k,_,.int k' x :: cs,s=>cond (Nat.beq (dz k) (dz k')) (some (x,cs,s)) none
 | .bool,_,.bool x :: cs,s=>some (x,cs,s)
 | .str,_,.str x :: cs,s=>some (x,cs,s)
 | .sl t,.O e,c :: cs,s=>match c with
  | .nil u=>(eP (.sl u) (.sl t) ([]:List u.D)).bind fun x=>some (x,cs,s)
  | .ah id none=>match s.o id with
   | .row u em ver xs=>cond (bl.beq em e) ((eP (.sl u) (.sl t) xs).bind fun x=>some (x,cs,s.bV id (.ck (.row u em ver xs)))) none
   | _=>none
  | .bY _ dp cJ _=>(ua t e s dp cJ).bind fun r=>some (r.1,cs,r.2)
  | _=>none
 | .st ak,m,cs,s=>ak.fE m.parts cs s
 | _,_,_,_=>none
def aC.fE:(ak:aC)→c4→List bd→aq→Option (ak.D×List bd×aq)
 | .nil,_,cs,s=>some ((),cs,s)
 | .cons t ak,m,cs,s=>(t.fE m.ah cs s).bind fun r=>(ak.fE m.dF r.2.1 r.2.2).bind fun q=>some ((r.1,q.1),q.2)
end
mutual
def ae.back:(t:ae)→t.D→List bd→aq→Option (List bd×aq)
 | .sl t,x,c :: cs,s=>match c with
  | .nil _=>some (cs,s)
  | .ah id none=>match s.o id with
   | .ck (.row u em ver _)=>(eP (.sl t) (.sl u) x).bind fun y=>some (cs,s.bV id (.row u em (ver+1) y))
   | _=>none
  | .bY _ _ cJ _=>(wX t x s cJ).bind fun au=>some (cs,au)
  | _=>none
 | .st ak,x,cs,s=>ak.back x cs s
 | _,_,_ :: cs,s=>some (cs,s)
 | _,_,[],_=>none
def aC.back:(ak:aC)→ak.D→List bd→aq→Option (List bd×aq)
 | .nil,_,cs,s=>some (cs,s)
 | .cons t ak,x,cs,s=>(t.back x.1 cs s).bind fun r=>ak.back x.2 r.1 r.2
end
def gq(key:Nat)(s:aq):(ps:List bF)→List a_→List (Nat×Nat)→Option ((bF.ins ps).D×aq×List (Nat×Nat))
 | [],[],bw=>some ((),s,bw)
 | .fn mu py :: ps,.fn g a b :: vs,bw=>cond (Nat.beq g key&&Nat.beq a.length mu&&Nat.beq b.length py) (gq key s ps vs bw) none
 | .val t m :: ps,v :: vs,bw=>cond (oq t v)
  (match ja t v with
  | none=>none
  | some cs=>(t.imp true m cs s bw).bind fun r=>
   match r.2.1 with
   | []=>(gq key r.2.2.1 ps vs r.2.2.2).bind fun q=>some ((r.1,q.1),q.2)
   | _=>none) none
 | .hS t :: ps,v :: vs,bw=>cond (oq t v)
  (match ja t v with
  | none=>none
  | some cs=>(t.imp false .R cs s bw).bind fun r=>
   match r.2.1 with
   | []=>(gq key r.2.2.1 ps vs r.2.2.2).bind fun q=>some ((r.1,q.1),q.2)
   | _=>none) none
 | .hR t m :: ps,v :: vs,bw=>cond (oq t v&&bl.beq m t.own)
  (match ja t v with
  | none=>none
  | some cs=>(t.fE m cs s).bind fun r=>
   match r.2.1 with
   | []=>(gq key r.2.2 ps vs bw).bind fun q=>some ((r.1,q.1),q.2)
   | _=>none) none
 | .ref t :: ps,.dk dp cs off :: vs,bw=>
  match takeN off t.size cs with
  | none=>none
  | some cs=>cond (alive s dp) ((t.imp true .R cs s (dp++bw)).bind fun r=>
   match r.2.1 with
   | []=>(gq key r.2.2.1 ps vs r.2.2.2).bind fun q=>some ((r.1,q.1),q.2)
   | _=>none) none
 | .ref t :: ps,.ptr p :: vs,bw=>
  match mv s t.size p with
  | none=>none
  | some cs=>(t.imp true .R cs s ((p.id,kG s p.id) :: bw)).bind fun r=>
   match r.2.1 with
   | []=>(gq key r.2.2.1 ps vs r.2.2.2).bind fun q=>some ((r.1,q.1),q.2)
   | _=>none
 | .mut t m m' :: ps,.ptr p :: vs,bw=>
  match s.o p.id,p.fD with
  | .var ver old,none=>
   match takeN p.off t.size old with
   | none=>none
   | some cs=>(t.imp true m cs (s.bV p.id (.ck (.var ver old))) bw).bind fun r=>
    match r.2.1 with
    | []=>(gq key r.2.2.1 ps vs r.2.2.2).bind fun q=>some ((r.1,q.1),q.2)
    | _=>none
  | .row u em ver xs,some i=>cond (Nat.beq p.off 0&&bl.beq em m&&bl.beq m' em&&bl.beq m t.own) ((eP u t (I u xs i)).bind fun x=>(gq key (s.bV p.id (.ck (.row u em ver xs))) ps vs bw).bind fun q=>some ((x,q.1),q.2)) none
  | _,_=>none
 | _,_,_=>none
def mw(dp:List (Nat×Nat)):(ps:List bF)→List a_→(bF.eg ps).D→aq→Nat→Option (aq×Nat)
 | [],_,_,s,j=>some (s,j)
 | .mut t _ m' :: ps,.ptr p :: vs,x,s,j=>
  match s.o p.id,p.fD with
  | .ck (.var ver old),none=>(t.hT m' dp x.1 s j).bind fun r=>mw dp ps vs x.2 (r.2.1.bV p.id (.var (ver+1) (old.take p.off++r.1++old.drop (p.off+t.size)))) r.2.2
  | .ck (.row u em ver xs),some i=>(eP t u x.1).bind fun y=>mw dp ps vs x.2 (s.bV p.id (.row u em (ver+1) (xs.set i y))) j
  | _,_=>none
 | .hR t _ :: ps,v :: vs,x,s,j=>
  match ja t v with
  | none=>none
  | some cs=>(t.back x.1 cs s).bind fun r=>mw dp ps vs x.2 r.2 j
 | .val _ _ :: ps,_ :: vs,x,s,j | .hS _ :: ps,_ :: vs,x,s,j | .ref _ :: ps,_ :: vs,x,s,j | .fn _ _ :: ps,_ :: vs,x,s,j=>mw dp ps vs x s j
 | _,_,_,_,_=>none
def qA(s:aq)(vs:List a_)(arg off:Nat):Option Nat:=
 match vs[arg]? with
 | some (.ptr p)=>match mv s 1 { p with off:=p.off+off } with
  | some [.ah id none]=>some id
  | _=>none
 | _=>none
def qB(s:aq)(t:ae)(id:Nat):Bool:=
 match s.o id with
 | .row u _ _ _=>ae.beq u t
 | _=>false
def lR(vs:List a_)(ps:List bF)(dp:List (Nat×Nat)):(rs:List c7)→(c7.outs rs (bF.eg ps)).D→aq→Nat→Option (List a_×aq)
 | [],x,s,j=>(mw dp ps vs x s j).bind fun r=>some ([],r.1)
 | .val t m :: rs,x,s,j=>(t.hT m dp x.1 s j).bind fun r=>
  match ke t r.1 with
  | none=>none
  | some v=>(lR vs ps dp rs x.2 r.2.1 r.2.2).bind fun q=>some (v :: q.1,q.2)
 | .new t m :: rs,x,s,j=>(t.hT m dp x.1 s j).bind fun r=>(mkObj r.2.1 r.2.2 (.var 0 r.1)).bind fun s1=>(lR vs ps dp rs x.2 s1 (r.2.2+1)).bind fun q=>some (.ptr ⟨r.2.2,none,0⟩ :: q.1,q.2)
 | .opt a off t :: rs,x,s,j=>(lR vs ps dp rs x.2 s j).bind fun q=>
  match qA q.2 vs a off with
  | none=>none
  | some id=>cond (qB q.2 t id) (some (.opt id x.1 :: q.1,q.2)) none
 | .any t :: rs,x,s,j=>(lR vs ps dp rs x s j).bind fun q=>some (.r4 t :: q.1,q.2)
 | .pz t :: rs,x,s,j=>(lR vs ps dp rs x.2 s j).bind fun q=>some (.may (!List.isEmpty x.1) dp (t.cells dp none (I t x.1 0)) :: q.1,q.2)
def pB:List a_→FuncId
 | []=>0
 | .fn f _ _ :: _=>f
 | _ :: l=>pB l
def lS:List a_→List a_
 | []=>[]
 | .fn _ a b :: l=>a++b++lS l
 | _ :: l=>lS l
def ot:List a_→Bool
 | []=>true
 | .ay :: _=>false
 | .gone :: _=>false
 | .r4 _ :: _=>false
 | _ :: l=>ot l
def Jx(E:Env)(id:Nat)(s:aq)(f:FuncId)(vs:List a_)(K:a_→aq→Option bB):Option bB:=
 match E.fns f (pB vs) with
 | none=>none
 | some e=>
  match gq (pB vs) s e.ps (vs++lS vs) [] with
  | none=>none
  | some (x,s1,bw)=>
   cond (alive s1 bw&&ot vs)
    ((e.f x).bind fun r=>
     match lR (vs++lS vs) e.ps bw e.rs r s1 id with
     | none=>none
     | some ([v],s2)=>K v s2
     | some (l,s2)=>K (.px l) s2)
    none
def r7(s:aq):List a_→(List a_→Option bB)→Option bB
 | [],K=>K []
 | .opt i n :: l,K=>(aM (match s.o i with | .row _ _ _ xs=>xs.length | _=>0) n).bind fun k=>r7 s l fun l'=>K (.ptr ⟨i,some k,0⟩ :: l')
 | .may b dp cs :: l,K=>jZ b (r7 s l fun l'=>K (.dk dp cs 0 :: l'))
 | v :: l,K=>r7 s l fun l'=>K (v :: l')
def Jy(E:Env)(id:Nat)(s:aq)(f:FuncId)(vs:List a_)(K:a_→aq→Option bB):Option bB:= r7 s vs fun vs=>Jx E id s f vs K
end
end Go.LM
namespace Go.LM
section
variable{bB : Type}
def ub(fr:Bool)(k:IntKind):Int→List a_→Option (IntKind×Int)
 | x,[]=>some (k,x)
 | x,.aW (.int _ y) :: l=>ub fr k (cond fr (ab8 x y) (j0 x y)) l
 | _,_=>none
def wY(fr:Bool):List a_→Option (IntKind×Int)
 | .aW (.int k x) :: l=>ub fr k x l
 | _=>none
def lh(s:aq)(T:ae):bd→Bool
 | .str _=>ae.beq T .str
 | .nil u=>ae.beq T (.sl u)
 | .bY u _ _ _=>ae.beq T (.sl u)
 | .ah id _=>match s.o id with
  | .row u _ _ _=>ae.beq T (.sl u)
  | _=>false
 | _=>false
def oneCell(t:ae):a_→Option bd
 | .aW c=>some c
 | .ld=>some (.nil t)
 | _=>none
def wZ(E:Env):List Nat→Option ae
 | hU :: ib :: _=>
  match E.ty hU,E.ty ib with
  | some (.sl t),some (.sl _)=>some t
  | some (.sl t),some .str=>some t
  | _,_=>none
 | _=>none
def kf(E:Env)(id:Nat)(s:aq)(b:Builtin)(Jz:List Nat)(vs:List a_)(K:a_→aq→Option bB):Option bB:=
 match b,vs with
 | .len,[.aW c]=>
  match Jz with
  | t :: _=>
   match E.ty t with
   | some T=>cond (lh s T c)
    (match oj s c with
    | some n=>K (.aW (.int .i64 n)) s
    | none=>none) none
   | none=>none
  | _=>none
 | .append,[lT,vb]=>
  match wZ E Jz with
  | some t=>
   match oneCell t lT,oneCell t vb with
   | some a,some b=>RJ id t s a b fun c s=>K (.aW c) s
   | _,_=>none
  | none=>none
 | .clear,[.aW (.ah i sub)]=>
  match Jz with
  | t :: _=>
   match E.ty t,s.o i with
   | some (.sl u),.row v em ver xs=>cond (ae.beq u v&&v.flat) (K (.px []) (s.bV i (.row v em (ver+1) (xs.take (er sub)++List.replicate (lQ sub xs) v.zero++xs.drop (er sub+lQ sub xs))))) none
   | _,_=>none
  | _=>none
 | .min,vs=>
  match wY false vs with
  | some (k,x)=>K (.aW (.int k x)) s
  | none=>none
 | .max,vs=>
  match wY true vs with
  | some (k,x)=>K (.aW (.int k x)) s
  | none=>none
 | _,_=>none
def bound(s:aq)(x:Option Operand)(d:Int):Option Int:=
 match x with
 | none=>some d
 | some x=>kH (b0 s x)
def w1(c:bd)(l m:Nat):Option bd:=
 match c with
 | .str x=>some (.str (part x l m))
 | .nil t=>some (.nil t)
 | .bY t dp cJ xs=>some (.bY t dp none (part xs l m))
 | .ah id sub=>some (.ah id (some (er sub+l,m)))
 | _=>none
def RK(s:aq)(T:ae)(x:a_)(lo hi fr:Option Operand)(K:a_→Option bB):Option bB:=
 match x with
 | .aW c=>
  cond (lh s T c)
  (match oj s c with
  | none=>none
  | some n=>
   match bound s lo 0,bound s hi n with
   | some l,some h=>
    (match fr with
     | none=>fun k=>k
     | some m=>fun k=>cond (ae.beq T .str) none (match kH (b0 s m) with
      | some m=>cond hi.isSome (jZ (decide (h=m)) k) none
      | none=>none))
    ((eh n l h).bind fun r=>
     match w1 c r.1 (r.2-r.1) with
     | some c'=>K (.aW c')
     | none=>none)
   | _,_=>none) none
 | _=>none
def r8(E:Env)(id:Nat)(s:aq)(src dst:Nat)(x:a_)(K:a_→aq→Option bB):Option bB:=
 match E.ty src,E.ty dst,x with
 | some (.int _),some (.int k),.aW (.int _ n)=>K (.aW (.int k (k.wrap n))) s
 | some .str,some .str,.aW (.str b)=>K (.aW (.str b)) s
 | some .str,some (.sl (.int .u8)),.aW (.str b)=>
  match mkObj s id (.row (.int .u8) .R 0 (eI b)) with
  | some s1=>K (.aW (.ah id none)) s1
  | none=>none
 | some (.sl (.int .u8)),some .str,.aW c=>
  match pA s (.int .u8) c with
  | some xs=>K (.aW (.str (gP xs))) s
  | none=>none
 | _,_,_=>none
def JA(T:ae)(s:aq):List (List bd)→bl
 | cs :: _=>(T.zp s cs).1
 | []=>T.own
noncomputable def c3(E:Env)(id:Nat)(o:Oper)(s:aq)(K:aq→Option bB):Option bB:=
 let put (v:a_) (s:aq):Option bB:= K (s.dst o.dst v)
 match o.op with
 | .move x | .assign x=>
  match typed E o.type (b0 s x) with
  | some v=>put v s
  | none=>none
 | .pick c a b=>
  match b0 s c,typed E o.type (b0 s a),typed E o.type (b0 s b) with
  | .aW (.bool t),some lT,some vb=>cond t (put lT s) (put vb s)
  | .aW (.bool t),some lT,none=>cond t (put lT s) none
  | .aW (.bool t),none,some vb=>cond t none (put vb s)
  | _,_,_=>none
 | .alloc t=>
  match E.ty t with
  | some T=>match mkObj s id (.var 0 T.jE) with
   | some s1=>put (.ptr ⟨id,none,0⟩) s1
   | none=>none
  | none=>none
 | .box t x=>
  match E.ty t with
  | some T=>match ja T (b0 s x) with
   | some cs=>cond (Nat.beq cs.length T.size)
    (match mkObj s id (.var 0 cs) with
     | some s1=>put (.ptr ⟨id,none,0⟩) s1
     | none=>none) none
   | none=>none
  | none=>none
 | .build t parts=>
  match E.ty t with
  | some (.st ak)=>match r6 s ak.nth parts.toList ak.om with
   | some B=>put (.iD B.flatten) s
   | none=>none
  | _=>none
 | .buildSlice t n parts=>
  match E.ty t with
  | some (.sl T)=>cond (Nat.ble (n*T.size) 16777216)
   (match r6 s (fun i=>cond (Nat.blt i n) (some T) none) parts.toList (List.replicate n T.jE) with
   | some B=>
    match qz T (JA T s B) B s with
    | some (xs,s1)=>match mkObj s1 id (.row T (JA T s B) 0 xs) with
     | some s2=>put (.aW (.ah id none)) s2
     | none=>none
    | none=>none
   | none=>none) none
  | _=>none
 | .load t a=>
  match E.ty t,b0 s a with
  | some T,.ptr p=>match (mv s T.size p).bind (ke T) with
   | some v=>put v s
   | none=>none
  | some T,.dk dp cs off=>match (takeN off T.size cs).bind (ke T) with
   | some v=>cond (alive s dp) (put v s) none
   | none=>none
  | _,_=>none
 | .store t a x=>
  match E.ty t,b0 s a with
  | some T,.ptr p=>match ja T (b0 s x) with
   | some cs=>cond (Nat.beq cs.length T.size)
    (match CA s p cs with
     | some s1=>put .ay s1
     | none=>none) none
   | none=>match b0 s x,s.o p.id,p.fD with
    | .r4 u,.var _ old,none=>cond (ae.beq u T&&Nat.beq p.off 0&&Nat.ble T.size old.length) (put .ay (s.bV p.id .dead)) none
    | _,_,_=>none
  | _,_=>none
 | .nilCheck x=>
  match b0 s x with
  | .ptr p=>put (.ptr p) s
  | .dk dp cs off=>put (.dk dp cs off) s
  | .fn f a b=>put (.fn f a b) s
  | .may b dp cs=>jZ b (put (.dk dp cs 0) s)
  | .opt i n=>(aM (match s.o i with | .row _ _ _ xs=>xs.length | _=>0) n).bind fun k=>put (.ptr ⟨i,some k,0⟩) s
  | _=>none
 | .binOp op ty x y _=>lg E ty op (b0 s x) (b0 s y) fun v=>put v s
 | .unOp op _ x=>Jw op (b0 s x) fun v=>put v s
 | .convert src dst x=>r8 E id s src dst (b0 s x) put
 | .makeFunc (.func f) first lP=>put (.fn f (first.toList.map (b0 s)) (lP.toList.map (b0 s))) s
 | .makeSlice t l c=>
  match E.ty t,kH (b0 s l),kH (b0 s c) with
  | some (.sl T),some n,some m=>
   jZ (decide (0≤n)&&decide (n=m)&&room n.toNat)
    (match mkObj s id (.row T T.own 0 (List.replicate n.toNat T.zero)) with
     | some s1=>put (.aW (.ah id none)) s1
     | none=>none)
  | _,_,_=>none
 | .slice t x lo hi fr=>
  match E.ty t with
  | some T=>RK s T (b0 s x) lo hi fr fun v=>put v s
  | none=>none
 | .fieldAddr t x f=>
  match E.ty t,b0 s x with
  | some (.st ak),.ptr p=>match ak.off f with
   | some (k,u)=>cond (Nat.beq u.size 0) none (put (.ptr { p with off:=p.off+k }) s)
   | none=>none
  | some (.st ak),.dk dp cs off=>match ak.off f with
   | some (k,u)=>cond (Nat.beq u.size 0) none (put (.dk dp cs (off+k)) s)
   | none=>none
  | _,_=>none
 | .field t x f=>
  match E.ty t,b0 s x with
  | some (.st ak),.iD cs=>match ak.off f with
   | some (k,u)=>match (takeN k u.size cs).bind (ke u) with
    | some v=>put v s
    | none=>none
   | none=>none
  | _,_=>none
 | .indexAddr t x i=>
  match E.ty t,b0 s x,kH (b0 s i) with
  | some (.sl u),.aW c,some n=>
   match c with
   | .ah id sub=>match s.o id with
    | .row v _ _ xs=>cond (ae.beq u v) ((aM (lQ sub xs) n).bind fun k=>put (.ptr ⟨id,some (er sub+k),0⟩) s) none
    | _=>none
   | .bY v dp cJ xs=>cond (alive s dp&&ae.beq u v) ((aM xs.length n).bind fun k=>put (.dk dp (v.cells dp none (I v xs k)) 0) s) none
   | _=>none
  | _,_,_=>none
 | .index t x i=>
  match E.ty t,b0 s x,kH (b0 s i) with
  | some .str,.aW (.str b),some n=>(aM b.length n).bind fun k=>put (.aW (.int .u8 (b.getD k 0).toNat)) s
  | _,_,_=>none
 | .extract x i=>
  match b0 s x with
  | .px l=>match l[i]? with
   | some v=>put v s
   | none=>none
  | _=>none
 | .call c=>
  let vs:=c.args.toList.map (b0 s)
  match c.callee with
  | .builtin b=>kf E id s b c.argTypes.toList vs put
  | .value f=>match b0 s f with
   | .fn g first lP=>Jy E id s g (first++vs++lP) put
   | _=>none
  | _=>none
 | _=>none
def guardOf(ops:List Oper)(o:Oper):Option (Option Nat×Bool):=
 match o.guard with
 | none=>none
 | some (j,w)=>some ((ops[j]?).bind (·.dst),w)
def zq(E:Env)(o:Oper):Bool:=
 match o.dst with
 | some d=>Nat.blt d E.n
 | none=>true
noncomputable def uc(E:Env)(id:Nat)(ops:List Oper)(o:Oper)(s:aq)(K:aq→Option bB):Option bB:=
 cond (zq E o) (match guardOf ops o with
 | none=>c3 E id o s K
 | some (some d,w)=>
  match s.t d with
  | .aW (.bool b)=>
   cond b (let au:=s.set d (.aW (.bool true));cond w (c3 E id o au K) (K (au.dst o.dst .gone)))
    (let au:=s.set d (.aW (.bool false));cond w (K (au.dst o.dst .gone)) (c3 E id o au K))
  | .gone=>K (s.dst o.dst .gone)
  | _=>none
 | some (none,_)=>none) none
def w2:List a_→Option Place
 | .aW (.bY _ _ cJ _) :: _=>cJ
 | _=>none
def JB:List bF→Bool
 | []=>true
 | .mut _ _ _ :: _=>false
 | .hR _ _ :: _=>false
 | .val _ _ :: l | .ref _ :: l | .fn _ _ :: l | .hS _ :: l=>JB l
def ab9:List bF→Bool
 | .val (.sl _) (.O _) :: _=>true
 | _=>false
def w3(key:Nat)(s:aq)(t:ae):(ps:List bF)→List a_→Option ((bF.ins ps).D×aq×List (Nat×Nat))
 | .val (.sl u) m :: ps,.aW (.bY _ dp cJ _) :: vs=>cond (bl.beq m (.O u.own)&&(ae.beq t u&&JB ps)) ((ua u u.own s dp cJ).bind fun r=>(gq key r.2 ps vs []).bind fun q=>some ((r.1,q.1),q.2)) none
 | _,_=>none
def zr(t:ae){ak:aC} :(rs:List c7)→(c7.outs rs ak).D→Option (List t.D)
 | [.val u m],x=>cond (bl.beq m (.O t.own)) (eP u (.sl t) x.1) none
 | _,_=>none
def RL(E:Env)(s:aq)(o:Oper):Bool:=
 match o.op with
 | .call c=>match c.callee with
  | .value cc=>match b0 s cc with
   | .fn g [] []=>match w2 (c.args.toList.map (b0 s)),E.fns g (pB (c.args.toList.map (b0 s))) with
    | some _,some e=>ab9 e.ps
    | _,_=>false
   | _=>false
  | _=>false
 | _=>false
def w4(E:Env)(o dN eQ e6:Oper)(k1 e1 e2 e0 d0 d1 d2:Nat):Bool:=
 Nat.beq d0 e0&&(Nat.beq d1 e1&&(Nat.beq d2 e2&&(!(Nat.beq k1 d0)&&(!(Nat.beq d0 d1)&&(!(Nat.beq d0 d2)&&(o.guard.isNone&&(dN.guard.isNone&&(eQ.guard.isNone&&(e6.guard.isNone&&(e6.dst.isNone&&(Nat.blt d0 E.n&&(Nat.blt d1 E.n&&Nat.blt d2 E.n))))))))))))
def JC(s:aq)(v:a_)(K:Place→Option bB):Option bB:=
 match v with
 | .ptr p=>K p
 | .opt i n=>(aM (match s.o i with | .row _ _ _ xs=>xs.length | _=>0) n).bind fun k=>K ⟨i,some k,0⟩
 | _=>none
def JD(E:Env)(s:aq)(o:Oper)(l:List Oper)(K:aq→Option bB):Option bB:=
 match l with
 | dN :: eQ :: e6 :: _=>
  match o.op,dN.op,eQ.op,e6.op with
  | .call c,.nilCheck (.tmp k1),.fieldAddr nn (.tmp e1) ou,.store np (.tmp e2) (.tmp e0)=>
   match c.callee,o.dst,dN.dst,eQ.dst with
   | .value cc,some d0,some d1,some d2=>cond (w4 E o dN eQ e6 k1 e1 e2 e0 d0 d1 d2)
    (match b0 s cc,E.ty nn,E.ty np with
    | .fn g [] [],some (.st ak),some (.sl t)=>
     match E.fns g (pB (c.args.toList.map (b0 s))),ak.off ou,w2 (c.args.toList.map (b0 s)) with
     | some e,some (k,u),some p=>JC s (s.t k1) fun j1=>cond (!(Nat.beq u.size 0)&&(Nat.beq j1.id p.id&&Nat.beq (j1.off+k) p.off))
      (match j1.fD,p.fD with
      | some i,some j=>cond (Nat.beq i j) (match w3 (pB (c.args.toList.map (b0 s))) s t e.ps (c.args.toList.map (b0 s)++lS (c.args.toList.map (b0 s))) with
       | none=>none
       | some (x,s1,bw)=>cond (alive s1 bw&&ot (c.args.toList.map (b0 s)))
        ((e.f x).bind fun r=>(zr t e.rs r).bind fun y=>(wX t y (((s1.set d0 .ay).set d1 .ay).set d2 .ay) (some p)).bind K) none) none
      | _,_=>none) none
     | _,_,_=>none
    | _,_,_=>none) none
   | _,_,_,_=>none
  | _,_,_,_=>none
 | _=>none
noncomputable def ud(E:Env)(bI:Nat)(all:List Oper):List Oper→Nat→Nat→aq→(aq→Option bB)→Option bB
 | [],_,_,s,K=>K s
 | _ :: l,i,q+1,s,K=>ud E bI all l (i+1) q s K
 | o :: l,i,0,s,K=>cond (RL E s o) (JD E s o l fun au=>ud E bI all l (i+1) 3 au K) (uc E ((bI*256+i)*32) all o s fun au=>ud E bI all l (i+1) 0 au K)
noncomputable def JE(E:Env)(bI:Nat)(all:List Oper)(l:List Oper)(i:Nat)(s:aq)(K:aq→Option bB):Option bB:= ud E bI all l i 0 s K
def ue(E:Env)(o:Oper):Bool:=
 match o.op with
 | .move _ | .assign _ | .pick _ _ _ | .load _ _ | .nilCheck _ | .binOp _ _ _ _ _ | .unOp _ _ _ | .slice _ _ _ _ _ | .fieldAddr _ _ _ | .field _ _ _ | .indexAddr _ _ _ | .index _ _ _ | .extract _ _ | .build _ _=>true
 | .makeFunc (.func _) _ _=>true
 | .convert a b _=>match E.ty a,E.ty b with
  | some (.int _),some (.int _)=>true
  | _,_=>false
 | .call c=>match c.callee with
  | .builtin .len | .builtin .min | .builtin .max=>true
  | _=>false
 | _=>false
def waits(ops:Array Oper)(j i:Nat):Bool:=
 match ops[j]? with
 | some o=>o.after.any fun e=>Region.binds .any e&&Nat.beq e.on i
 | none=>false
def JF(E:Env)(ops:Array Oper)(i:Nat):Bool:=
 match ops[i]? with
 | some o=>ue E o
 | none=>false
def jb(s:aq)(o:Oper):List (Nat×Nat):=
 match o.op with
 | .load _ x=>match b0 s x with
  | .ptr p=>[(p.id,kG s p.id)]
  | .dk dp _ _=>dp
  | _=>[]
 | _=>[]
def uf(s:aq):List (Nat×List (Nat×Nat))→Bool
 | []=>true
 | p :: l=>cond (alive s p.2) (uf s l) false
def isApp(s:aq)(o:Oper):Bool:=
 match o.op with
 | .call c=>match c.callee with
  | .builtin .append=>(w2 (c.args.toList.map (b0 s))).isSome
  | _=>false
 | _=>false
def JG(id:Nat)(t:ae)(p:Place)(dp:List (Nat×Nat))(s:aq)(cb:bd)(d0 d1 d2:Nat)(M:aq→Bool)(K:aq→Option bB):Option bB:=
 match added s t cb with
 | none=>none
 | some (kI,ys,s1)=>cond (bl.beq kI t.own) ((ua t t.own s1 dp (some p)).bind fun r=>(mkObj r.2 id .dead).bind fun s2=>jZ (room (r.1.length+ys.length)) (cond (M (s2.set d0 .ay)) ((wX t (r.1++ys) (((s2.set d0 .ay).set d1 .ay).set d2 .ay) (some p)).bind K) none)) none
def JH(E:Env)(id:Nat)(s:aq)(o dN eQ e6:Oper)(M:aq→Bool)(K:aq→Option bB):Option bB:=
 match o.op,dN.op,eQ.op,e6.op with
 | .call c,.indexAddr w5 (.tmp k1) (.tmp k2),.fieldAddr nn (.tmp e1) ou,.store np (.tmp e2) (.tmp e0)=>
  match c.callee,o.dst,dN.dst,eQ.dst with
  | .builtin .append,some d0,some d1,some d2=>cond (w4 E o dN eQ e6 k1 e1 e2 e0 d0 d1 d2 && !(Nat.beq k2 d0))
   (match E.ty w5,E.ty nn,E.ty np,wZ E c.argTypes.toList,c.args.toList.map (b0 s) with
   | some (.sl nq),some (.st ak),some (.sl t),some hU,[.aW (.bY _ dp (some p) _),vb]=>
    match ak.off ou,oneCell hU vb,s.t k1,kH (s.t k2),s.o p.id,p.fD with
    | some (k,u),some cb,.aW (.ah i sub),some q,.row v _ _ xs,some j=>cond (ae.beq hU t&&(ae.beq nq v&&(!(Nat.beq u.size 0)&&(Nat.beq i p.id&&Nat.beq k p.off))))
      ((aM (lQ sub xs) q).bind fun m=>cond (Nat.beq (er sub+m) j) (JG id t p dp s cb d0 d1 d2 M K) none) none
    | _,_,_,_,_,_=>none
   | _,_,_,_,_=>none) none
  | _,_,_,_=>none
 | _,_,_,_=>none
def RM(s:aq)(ops:Array Oper)(rs:List Nat):Bool:=rs.any fun i=>match ops[i]? with
 | some o=>isApp s o
 | none=>false
def one:List Nat→Option Nat
 | [i]=>some i
 | _=>none
def JI(E:Env)(bI:Nat)(ops:Array Oper)(listed:Array Bool)(jc:List (Nat×List (Nat×Nat)))(rs:List Nat)(s:aq)(K:aq→Option bB):Option bB:=
 (one rs).bind fun i=>(one (Region.ready .any ops (listed.setIfInBounds i true))).bind fun i1=>(one (Region.ready .any ops ((listed.setIfInBounds i true).setIfInBounds i1 true))).bind fun i2=>
  (one (Region.ready .any ops (((listed.setIfInBounds i true).setIfInBounds i1 true).setIfInBounds i2 true))).bind fun i3=>
   cond ((Region.ready .any ops ((((listed.setIfInBounds i true).setIfInBounds i1 true).setIfInBounds i2 true).setIfInBounds i3 true)).isEmpty&&((jc.filter fun p=> !waits ops i p.1).filter fun p=> !waits ops i1 p.1).isEmpty)
    (ops[i]?.bind fun o=>ops[i1]?.bind fun dN=>ops[i2]?.bind fun eQ=>ops[i3]?.bind fun e6=>JH E ((bI*256+i)*32) s o dN eQ e6 (fun ov=>uf ov (jc.filter fun p=> !waits ops i p.1)) K) none
noncomputable def dup(a:Option bB):Option bB:= both a a
noncomputable def CE:List (Option bB)→Option bB
 | []=>none
 | [x]=>x
 | x :: l=>both x (CE l)
noncomputable def ug(E:Env)(bI:Nat)(ops:Array Oper):Nat→Array Bool→List (Nat×List (Nat×Nat))→aq→(aq→Option bB)→Option bB
 | 0,listed,_,s,K=>match Region.ready .any ops listed with
  | []=>K s
  | _=>none
 | n+1,listed,jc,s,K=>
  match Region.ready .any ops listed with
  | []=>K s
  | rs=>match rs.find? fun i=>JF E ops i&&Region.free .any ops listed i with
   | some i=>(match ops[i]? with
    | none=>none
    | some o=>uc E ((bI*256+i)*32) ops.toList o s fun au=>ug E bI ops n (listed.setIfInBounds i true) ((i,jb s o) :: jc) au K)
   | none=>cond (RM s ops rs&&Nat.ble 3 n) (JI E bI ops listed jc rs s K) (CE (rs.map fun i=>match ops[i]? with
    | none=>none
    | some o=>cond (ue E o) none (uc E ((bI*256+i)*32) ops.toList o s fun au=>cond (uf au (jc.filter fun p=> !waits ops i p.1)) (ug E bI ops n (listed.setIfInBounds i true) (jc.filter fun p=> !waits ops i p.1) au K) none)))
noncomputable def JJ(E:Env)(bI:Nat)(ops:Array Oper)(s:aq)(K:aq→Option bB):Option bB:=
 cond (Region.noSelect ops) (ug E bI ops ops.size (Array.replicate ops.size false) [] s K) none
structure Hand(bB : Type) where
 cut:Nat→List Item→aq→Option bB
 fin:aq→Option bB
noncomputable def kg(E:Env)(cuts:Nat→Bool)(H:Hand bB):Nat→Bool→List Item→aq→Option bB
 | 0,_,_,_=>none
 | n+1,first,todo,s=>
  match todo with
  | []=>H.fin s
  | .code .ret :: _=>H.fin s
  | .code .skip :: k | .inBlock _ :: k=>kg E cuts H n first k s
  | .code (.seq a b) :: k=>kg E cuts H n first (.code a :: .code b :: k) s
  | .code (.cond c x y) :: k=>
   match b0 s c with
   | .aW (.bool b)=>cond b (kg E cuts H n first (.code x :: k) s) (kg E cuts H n first (.code y :: k) s)
   | _=>none
  | .code (.block id c) :: k=>kg E cuts H n first (.code c :: .inBlock id :: k) s
  | .code (.loop c) :: k | .inLoop c :: k=>kg E cuts H n first (.code c :: .inLoop c :: k) s
  | .code (.exit id) :: k=>
   match exitTo id k with
   | some k'=>kg E cuts H n first k' s
   | none=>none
  | .code (.region bI ops ic) :: k=>
   cond (cuts bI && !first) (H.cut bI todo s)
    (cond ic (JJ E bI ops s fun au=>kg E cuts H n false k au) (JE E bI ops.toList ops.toList 0 s fun au=>kg E cuts H n false k au))
  | _=>none
end
end Go.LM
namespace Go.LM
abbrev ai:=Nat→Nat→Prop
def ai.none:ai:=fun _ _=>False
def ai.or(F G:ai):ai:=fun b o=>F b o∨G b o
def ai.apart(F G:ai):Prop:=∀b o,F b o→G b o→False
def ai.sub(F G:ai):Prop:=∀b o,F b o→G b o
def ai.run(b lo n:Nat):ai:=fun b' o=>b'=b∧lo≤o∧o<lo+n
abbrev at_(b o:Nat):Addr:=⟨b,o,none⟩
theorem r9(w:World)(b o:Nat):w.cell? (at_ b o)=match w.heap[b]? with | some (.cells c _ _)=>c[o]? | _=>none:=by
 simp only [World.cell?,at_]
 cases w.heap[b]? with
 | none=>rfl
 | some x=>cases x <;> rfl
theorem cell_of_heap{w:World}{b:Nat}{c:Array Value}{e:TypeId}{f:Nat×Nat}(h:w.heap[b]?=some (.cells c e f))(o:Nat) :
  w.cell? (at_ b o)=c[o]?:=by rw [r9,h]
theorem zj{w:World}{b o:Nat}{v:Value}(h:w.cell? (at_ b o)=some v) :
  ∃c e f,w.heap[b]?=some (.cells c e f)∧c[o]?=some v:=by
 rw [r9] at h;split at h
 ·rename_i c e f hb;exact⟨c,e,f,hb,h⟩
 ·simp at h
theorem zk{w:World}{b o:Nat}{v:Value}(h:w.cell? (at_ b o)=some v):b<w.heap.size:=by
 obtain ⟨c,e,f,hb,_⟩:=zj h;rcases Nat.lt_or_ge b w.heap.size with h | h
 ·exact h
 ·simp [Array.getElem?_eq_none h] at hb
structure Ext(w w':World)(F:ai):Prop where
 os:w'.os=w.os
 tape:w'.tape=w.tape
 output:w'.output=w.output
 size:w.heap.size≤w'.heap.size
 block:∀b,b<w.heap.size→w'.heap[b]?=w.heap[b]? ∨
  ∃c c' e f,w.heap[b]?=some (.cells c e f)∧w'.heap[b]?=some (.cells c' e f)∧c'.size=c.size∧∀o,¬F b o→c'[o]?=c[o]?
theorem Ext.refl(w:World)(F:ai):Ext w w F:=⟨rfl,rfl,rfl,Nat.le_refl _,fun _ _=>.inl rfl⟩
theorem Ext.mono{w w':World}{F G:ai}(h:Ext w w' F)(hs:∀b o,b<w.heap.size→F b o→G b o):Ext w w' G:=by
 refine⟨h.os,h.tape,h.output,h.size,fun b hb=>?_⟩;rcases h.block b hb with h | ⟨c,c',e,f,h1,h2,h3,h4⟩
 ·exact .inl h
 ·exact .inr ⟨c,c',e,f,h1,h2,h3,fun o ho=>h4 o fun hf=>ho (hs b o hb hf)⟩
theorem Ext.trans{a b c:World}{F:ai}(h:Ext a b F)(k:Ext b c F):Ext a c F:=by
 refine⟨k.os.trans h.os,k.tape.trans h.tape,k.output.trans h.output,Nat.le_trans h.size k.size,fun i hi=>?_⟩;rcases h.block i hi with h1 | ⟨x,bG,e,f,h1,h2,h3,h4⟩
 ·rcases k.block i (Nat.lt_of_lt_of_le hi h.size) with k1 | ⟨y,mx,gr,nr,k1,k2,k3,bg⟩
  ·exact .inl (k1.trans h1)
  ·exact .inr ⟨y,mx,gr,nr,h1 ▸ k1,k2,k3,bg⟩
 ·rcases k.block i (Nat.lt_of_lt_of_le hi h.size) with k1 | ⟨y,mx,gr,nr,k1,k2,k3,bg⟩
  ·exact .inr ⟨x,bG,e,f,h1,k1.trans h2,h3,h4⟩
  ·rw [h2] at k1;simp only [Option.some.injEq,Obj.cells.injEq] at k1;obtain ⟨rfl,rfl,rfl⟩:=k1;exact .inr ⟨x,mx,e,f,h1,k2,k3.trans h3,fun o ho=>(bg o ho).trans (h4 o ho)⟩
theorem Ext.trans'{a b c:World}{F S:ai}(h:Ext a b F)(k:Ext b c S)(dZ:∀i o,S i o→F i o∨a.heap.size≤i):Ext a c F:=by
 refine⟨k.os.trans h.os,k.tape.trans h.tape,k.output.trans h.output,Nat.le_trans h.size k.size,fun i hi=>?_⟩
 have hk:c.heap[i]?=b.heap[i]?∨∃x bG e f,b.heap[i]?=some (.cells x e f)∧c.heap[i]?=some (.cells bG e f)∧bG.size=x.size∧∀o,¬F i o→bG[o]?=x[o]?:=by
  rcases k.block i (Nat.lt_of_lt_of_le hi h.size) with k1 | ⟨y,mx,gr,nr,k1,k2,k3,bg⟩
  ·exact .inl k1
  ·refine .inr ⟨y,mx,gr,nr,k1,k2,k3,fun o ho=>bg o fun hs=>?_⟩;rcases dZ i o hs with h | h
   ·exact ho h
   ·omega
 rcases h.block i hi with h1 | ⟨x,bG,e,f,h1,h2,h3,h4⟩
 ·rcases hk with k1 | ⟨y,mx,gr,nr,k1,k2,k3,bg⟩
  ·exact .inl (k1.trans h1)
  ·exact .inr ⟨y,mx,gr,nr,h1 ▸ k1,k2,k3,bg⟩
 ·rcases hk with k1 | ⟨y,mx,gr,nr,k1,k2,k3,bg⟩
  ·exact .inr ⟨x,bG,e,f,h1,k1.trans h2,h3,h4⟩
  ·rw [h2] at k1;simp only [Option.some.injEq,Obj.cells.injEq] at k1;obtain ⟨rfl,rfl,rfl⟩:=k1;exact .inr ⟨x,mx,e,f,h1,k2,k3.trans h3,fun o ho=>(bg o ho).trans (h4 o ho)⟩
theorem Ext.cell{w w':World}{F:ai}(h:Ext w w' F){b o:Nat}(hb:b<w.heap.size)(hf:¬F b o):w'.cell? (at_ b o)=w.cell? (at_ b o):=by
 rw [r9,r9];rcases h.block b hb with h | ⟨c,c',e,f,h1,h2,_,h4⟩
 ·rw [h]
 ·rw [h1,h2];exact h4 o hf
theorem qy(w:World)(b o:Nat):w.frozen? (at_ b o)=match w.heap[b]? with | some (.cells _ _ (lo,hi))=>decide (lo≤o)&&decide (o<hi) | _=>false:=rfl
theorem Ext.frozen{w w':World}{F:ai}(h:Ext w w' F){b:Nat}(hb:b<w.heap.size)(o:Nat):w'.frozen? (at_ b o)=w.frozen? (at_ b o):=by
 rw [qy,qy];rcases h.block b hb with h | ⟨c,c',e,f,h1,h2,_,_⟩
 ·rw [h]
 ·rw [h1,h2]
def fC(w:World)(b o:Nat):Prop:=(∃v,w.cell? (at_ b o)=some v)∧w.frozen? (at_ b o)=false
theorem Ext.ab_{w w':World}{F:ai}(h:Ext w w' F){b o:Nat}(hc:∃v,w.cell? (at_ b o)=some v):∃v,w'.cell? (at_ b o)=some v:=by
 obtain ⟨v,hv⟩:=hc;have hb:=zk hv;obtain ⟨c,e,f,hh,hcv⟩:=zj hv;rcases h.block b hb with h | ⟨x,bG,gr,nr,h1,h2,h3,_⟩
 ·exact⟨v,by rw [r9,h,hh];exact hcv⟩
 ·rw [hh] at h1;simp only [Option.some.injEq,Obj.cells.injEq] at h1;obtain ⟨rfl,rfl,rfl⟩:=h1
  have ho:o<c.size:=by
   rcases Nat.lt_or_ge o c.size with h | h
   ·exact h
   ·rw [Array.getElem?_eq_none h] at hcv;simp at hcv
  exact⟨bG[o]'(by omega),by rw [r9,h2];simp [Array.getElem?_eq_getElem,h3,ho]⟩
theorem Ext.qx{w w':World}{F:ai}(h:Ext w w' F){b o:Nat}(hc:fC w b o):fC w' b o:=
 ⟨h.ab_ hc.1,by rw [h.frozen (zk hc.1.choose_spec) o];exact hc.2⟩
def fZ(w:World)(size b o:Nat):Prop:=fC w b o∧(size=1∨∀k,w.frozen? (at_ b k)=false)
theorem Ext.kF{w w':World}{F:ai}(h:Ext w w' F){size b o:Nat}(hc:fZ w size b o):fZ w' size b o:=
 ⟨h.qx hc.1,hc.2.imp id fun hk k=>by rw [h.frozen (zk hc.1.1.choose_spec) k];exact hk k⟩
theorem Ext.drew(w:World)(n:Nat)(F:ai):Ext w { w with drawn:=n } F:=⟨rfl,rfl,rfl,Nat.le_refl _,fun _ _=>.inl rfl⟩
theorem Ext.push(w:World)(o:Obj)(F:ai):Ext w { w with heap:=w.heap.push o } F:=
 ⟨rfl,rfl,rfl,by simp,fun b hb=>.inl (by simp only;rw [Array.getElem?_push,if_neg (by omega)])⟩
theorem RN(w:World)(o:Obj):({ w with heap:=w.heap.push o } : World).heap[w.heap.size]?=some o:=by simp
theorem RO(w:World)(c:Array Value)(e:TypeId)(f:Nat×Nat)(o:Nat) :
  ({ w with heap:=w.heap.push (.cells c e f) } : World).cell? (at_ w.heap.size o)=c[o]?:=cell_of_heap (RN w _) o
theorem JK(w:World)(b o:Nat)(v:Value)(b':Nat) :
  (w.setCell (at_ b o) v).heap[b']?=if b=b' then(w.heap[b']?).map (fun | .cells c e f=>.cells (c.setIfInBounds o v) e f | x=>x) else w.heap[b']?:=by
 simp only [World.setCell,Array.getElem?_modify,at_];split
 ·rename_i h;subst h
  cases w.heap[b]? with
  | none=>rfl
  | some x=>cases x <;> rfl
 ·rfl
theorem ab'(w:World)(b o:Nat)(v:Value)(b' o':Nat)(h:∃u,w.cell? (at_ b o)=some u) :
  (w.setCell (at_ b o) v).cell? (at_ b' o')=if b=b'∧o=o' then some v else w.cell? (at_ b' o'):=by
 obtain ⟨u,hu⟩:=h;obtain ⟨c,e,f,hb,hc⟩:=zj hu
 have ho:o<c.size:=by
  rcases Nat.lt_or_ge o c.size with h | h
  ·exact h
  ·rw [Array.getElem?_eq_none h] at hc;simp at hc
 rw [r9,JK,r9];by_cases ow:b=b'
 ·subst ow;rw [if_pos rfl,hb];simp only [Option.map_some,true_and];by_cases w6:o=o'
  ·subst w6;simp [Array.getElem?_setIfInBounds,ho]
  ·simp [Array.getElem?_setIfInBounds,w6]
 ·rw [if_neg ow];simp [ow]
theorem aca(w:World)(b o:Nat)(v:Value)(b' o':Nat):(w.setCell (at_ b o) v).frozen? (at_ b' o')=w.frozen? (at_ b' o'):=by
 rw [qy,JK,qy];by_cases ow:b=b'
 ·subst ow;rw [if_pos rfl]
  cases w.heap[b]? with
  | none=>rfl
  | some x=>cases x <;> rfl
 ·rw [if_neg ow]
theorem Ext.setCell{w:World}{b o:Nat}{F:ai}(v:Value)(hF:F b o):Ext w (w.setCell (at_ b o) v) F:=by
 refine⟨rfl,rfl,rfl,by simp [World.setCell],fun b' hb=>?_⟩;rw [JK];by_cases ow:b=b'
 ·subst ow;rw [if_pos rfl]
  cases hh:w.heap[b]? with
  | none=>exact .inl rfl
  | some x=>
   cases x with
   | cells c e f=>
    refine .inr ⟨c,_,e,f,rfl,rfl,by simp,fun o' ho=>?_⟩;have:o≠o':=fun e=>ho (e ▸ hF)
    simp [Array.getElem?_setIfInBounds,this]
   | _=>exact .inl rfl
 ·rw [if_neg ow];exact .inl rfl
def setCells(w:World)(b:Nat):Nat→List Value→World
 | _,[]=>w
 | o,v :: vs=>setCells (w.setCell (at_ b o) v) b (o+1) vs
theorem oi{F:ai}(b:Nat)(vs:List Value):∀(w:World) (o:Nat),(∀i,i<vs.length→F b (o+i))→Ext w (setCells w b o vs) F:=by
 induction vs with
 | nil=>intro w o _;exact Ext.refl _ _
 | cons v vs ih=>intro w o h;have h1:=Ext.setCell (w:=w) v (h 0 (by simp));have h2:=ih (w.setCell (at_ b o) v) (o+1) (fun i hi=>by have:=h (i+1) (by simp;omega);rwa [show o+1+i=o +(i+1) by omega]);exact h1.trans (h2.mono fun _ _ _ h=>h)
theorem acb(b:Nat)(vs:List Value):∀(w:World) (o b' o':Nat),(setCells w b o vs).frozen? (at_ b' o')=w.frozen? (at_ b' o'):=by
 induction vs with
 | nil=>intros;rfl
 | cons v vs ih=>intro w o b' o';rw [setCells,ih,aca]
theorem w7(b:Nat)(vs:List Value):∀(w:World) (o:Nat),(∀i,i<vs.length→∃u,w.cell? (at_ b (o+i))=some u)→∀b' o',
  (setCells w b o vs).cell? (at_ b' o')=if b=b'∧o≤o'∧o'<o+vs.length then vs[o'-o]? else w.cell? (at_ b' o'):=by
 induction vs with
 | nil=>intro w o _ b' o';rw [setCells,if_neg];simp only [List.length_nil];omega
 | cons v vs ih=>
  intro w o h b' o';have h0:∃u,w.cell? (at_ b o)=some u:=by simpa using h 0 (by simp)
  have hx:=ab' w b o v;rw [setCells,ih]
  ·by_cases hb:b=b'
   ·subst hb;by_cases h1:o+1≤o'∧o'<o+1+vs.length
    ·rw [if_pos ⟨rfl,h1⟩,if_pos ⟨rfl,by omega,by simp;omega⟩];obtain ⟨k,hk⟩:∃k,o'-o=k+1:=⟨o'-o-1,by omega⟩
     rw [hk,List.getElem?_cons_succ,show o'-(o+1)=k by omega]
    ·rw [if_neg (by simpa using h1),hx b o' h0];by_cases h2:o=o'
     ·subst h2;rw [if_pos ⟨rfl,rfl⟩,if_pos ⟨rfl,Nat.le_refl _,by simp⟩];simp
     ·rw [if_neg (by simp [h2]),if_neg];simp only [List.length_cons];omega
   ·rw [if_neg (by simp [hb]),if_neg (by simp [hb]),hx b' o' h0,if_neg (by simp [hb])]
  ·intro i hi;rw [hx b _ h0];split
   ·exact⟨v,rfl⟩
   ·have:=h (i+1) (by simp;omega);rwa [show o+1+i=o +(i+1) by omega]
def ca(w:World)(b o:Nat)(vs:List Value):Prop:=∀i v,vs[i]?=some v→w.cell? (at_ b (o+i))=some v
theorem ca.nil(w:World)(b o:Nat):ca w b o []:=by intro i v h;simp at h
theorem ca.cons{w:World}{b o:Nat}{v:Value}{vs:List Value}(h:w.cell? (at_ b o)=some v)(hs:ca w b (o+1) vs):ca w b o (v :: vs):=by
 intro i u hu
 cases i with
 | zero=>simp at hu;subst hu;simpa using h
 | succ i=>rw [List.getElem?_cons_succ] at hu;have:=hs i u hu;rwa [show o+1+i=o +(i+1) by omega] at this
theorem ca.head{w:World}{b o:Nat}{v:Value}{vs:List Value}(h:ca w b o (v :: vs)):w.cell? (at_ b o)=some v:=by simpa using h 0 v rfl
theorem ca.tail{w:World}{b o:Nat}{v:Value}{vs:List Value}(h:ca w b o (v :: vs)):ca w b (o+1) vs:=by intro i u hu;have:=h (i+1) u (by simpa using hu);rwa [show o +(i+1)=o+1+i by omega] at this
theorem ca.append{w:World}{b o:Nat}{us vs:List Value}(h:ca w b o us)(k:ca w b (o+us.length) vs):ca w b o (us++vs):=by
 intro i v hv;rcases Nat.lt_or_ge i us.length with hi | hi
 ·rw [List.getElem?_append_left hi] at hv;exact h i v hv
 ·rw [List.getElem?_append_right hi] at hv;have:=k _ v hv;rwa [show o+us.length +(i-us.length)=o+i by omega] at this
theorem ca.left{w:World}{b o:Nat}{us vs:List Value}(h:ca w b o (us++vs)):ca w b o us:=by
 intro i v hv
 have hi:i<us.length:=by
  rcases Nat.lt_or_ge i us.length with h | h
  ·exact h
  ·rw [List.getElem?_eq_none h] at hv;simp at hv
 exact h i v (by rw [List.getElem?_append_left hi];exact hv)
theorem ca.right{w:World}{b o:Nat}{us vs:List Value}(h:ca w b o (us++vs)):ca w b (o+us.length) vs:=by intro i v hv;have:=h (us.length+i) v (by rw [List.getElem?_append_right (by omega),Nat.add_sub_cancel_left];exact hv);rwa [show o +(us.length+i)=o+us.length+i by omega] at this
theorem ca.part{w:World}{b o:Nat}{vs:List Value}(h:ca w b o vs)(k n:Nat):ca w b (o+k) ((vs.drop k).take n):=by
 intro i v hv;rw [List.getElem?_take] at hv;split at hv
 ·rw [List.getElem?_drop] at hv;have:=h _ v hv;rwa [show o +(k+i)=o+k+i by omega] at this
 ·simp at hv
theorem ca.of_eq{w w':World}{b o:Nat}{vs:List Value}(h:ca w b o vs)(he:∀i,i<vs.length→w'.cell? (at_ b (o+i))=w.cell? (at_ b (o+i))):ca w' b o vs:=by
 intro i v hv
 have hi:i<vs.length:=by
  rcases Nat.lt_or_ge i vs.length with h | h
  ·exact h
  ·rw [List.getElem?_eq_none h] at hv;simp at hv
 rw [he i hi];exact h i v hv
theorem qC(b o n:Nat):(at_ b o).add n=at_ b (o+n):=by
 unfold Addr.add;split
 ·rename_i h;subst h;rfl
 ·rfl
section
variable{P:Program}
theorem run_pure{α : Type}(x : α)(w:World):(pure x:Sem α).run P w=.ok x w:=rfl
theorem run_bind{α β : Type}(s:Sem α)(f : α → Sem β)(w:World):(s >>= f).run P w=match s.run P w with | .ok x w'=>(f x).run P w' | .halt h w'=>.halt h w':=by
 show(Sem.bind s f).run P w=_
 induction s generalizing w with
 | pure a=>rfl
 | load m a k ih=>
  simp only [Sem.bind,Sem.run]
  cases w.cell? a with
  | some v=>exact ih v w
  | none=>
   cases w.farLoad P a (m==.atomic) with
   | error h=>rfl
   | ok r=>exact ih r.1 w
 | store m a v k ih=>
  cases v with
  | agg _=>rfl
  | tuple _=>rfl
  | _=>
   simp only [Sem.bind,Sem.run]
   cases w.cell? a with
   | some u=>
    dsimp only;split
    ·rfl
    ·exact ih _
   | none=>
    dsimp only;split
    ·exact ih _
    ·rfl
 | new o k ih=>exact ih _ _
 | shape r k ih=>exact ih _ _
 | freeze a n k ih=>exact ih _
 | frozen a k ih=>exact ih _ _
 | getObj r k ih=>
  simp only [Sem.bind,Sem.run]
  cases w.heap[r]? with
  | none=>rfl
  | some o=>cases o <;> first | rfl | exact ih _ _
 | setObj r o k ih=>
  simp only [Sem.bind,Sem.run]
  cases w.heap[r]? with
  | none=>rfl
  | some o=>cases o <;> first | rfl | exact ih _
 | choose q k ih=>simp only [Sem.bind,Sem.run];split <;> exact ih _ _
 | sys c k ih=>exact ih _ _
 | program k ih=>exact ih _ _
 | mark m k ih=>exact ih _
 | halt h=>rfl
def ek:Value→Bool
 | .agg _ | .tuple _=>false
 | _=>true
theorem run_load{w:World}{b o:Nat}{v:Value}(h:w.cell? (at_ b o)=some v):(load (at_ b o)).run P w=.ok v w:=by simp [load,Sem.run,h]
theorem run_loadCellsFrom{w:World}(b o:Nat)(vs:List Value):∀(k:Nat) (acc:Array Value),ca w b (o+k) vs →
  (loadCellsFrom (at_ b o) k vs.length acc).run P w=.ok (acc++vs.toArray) w:=by
 induction vs with
 | nil=>intro k acc _;simp [loadCellsFrom,run_pure]
 | cons v vs ih=>intro k acc h;simp only [List.length_cons,loadCellsFrom];rw [run_bind,qC,run_load h.head];simp only;rw [ih (k+1) (acc.push v) (by rw [← Nat.add_assoc];exact h.tail)];congr 1;apply Array.ext';simp
theorem run_loadCells{w:World}{b o:Nat}{vs:List Value}(h:ca w b o vs):(loadCells (at_ b o) vs.length).run P w=.ok vs.toArray w:=by unfold loadCells;rw [run_loadCellsFrom b o vs 0 #[] (by simpa using h)];simp
theorem run_store{w:World}{b o:Nat}{v:Value}(hv:ek v=true)(h:fC w b o):(store (at_ b o) v).run P w=.ok () (w.setCell (at_ b o) v):=by obtain ⟨⟨u,hu⟩,hf⟩:=h;cases v <;> simp_all [store,Sem.run,ek]
theorem Cr{b o:Nat}(vs:List Value):∀(w:World) (k:Nat),(∀v∈vs,ek v=true)→(∀i,i<vs.length→fC w b (o+k+i)) →
  (storeCells (at_ b o) vs k).run P w=.ok () (setCells w b (o+k) vs):=by
 induction vs with
 | nil=>intros;rfl
 | cons v vs ih=>
  intro w k h1 h2;unfold storeCells;have h0:fC w b (o+k):=h2 0 (by simp);rw [run_bind,qC,run_store (h1 v (by simp)) h0];simp only;rw [ih _ (k+1) (fun v hv=>h1 v (by simp [hv]))]
  ·rfl
  ·intro i hi;have:=h2 (i+1) (by simp;omega);refine Ext.qx (Ext.setCell (F:=fun _ _=>True) v trivial) ?_;rwa [show o +(k+1)+i=o+k +(i+1) by omega]
end
end Go.LM
namespace Go.LM
def Row{α : Type}(w:World)(R : α → List Value→ai→Prop)(size:Nat):List α → Nat→Nat→ai→Prop
 | [],_,_,_=>True
 | x :: xs,b,o,F=>∃vs G H,R x vs G∧vs.length=size∧ca w b o vs∧Row w R size xs b (o+size) H∧ai.apart G H∧ai.sub G F∧ai.sub H F
structure nk{α : Type}(w:World)(R : α → List Value→ai→Prop)(size:Nat)(x:List α)(a:Addr)(c:Nat)(F:ai):Prop where
 spot:a.spot=none
 cap:x.length≤c
 wr:∀j,j<c*size→fZ w size a.block (a.off+j)
 inF:∀j,j<c*size→F a.block (a.off+j)
 row:∃G,Row w R size x a.block a.off G∧(∀j,j<c*size→¬G a.block (a.off+j))∧ai.sub G F
mutual
def ae.ar(w:World)(Z:ai):(t:ae)→bl→t.D→List Value→ai→Prop
 | .int k,_,x,vs,_=>vs=[.int k x]
 | .bool,_,x,vs,_=>vs=[.bool x]
 | .str,_,x,vs,_=>∃s:ByteArray,vs=[.string s]∧s.data.toList=x
 | .raw,_,x,vs,_=>vs=[x]∧∃A n c,x=.slice A n c
 | .sl t,.O e,x,vs,F=>∃A c,vs=[.slice A x.length c]∧((x=[]∧c=0)∨∃a,A=some a∧nk w (t.ar w Z e) t.size x a c F)
 | .sl t,_,x,vs,_=>∃A c,vs=[.slice A x.length c]∧(x=[]∨∃a,A=some a∧a.spot=none∧Row w (fun y us _=>t.ar w Z .R y us ai.none) t.size x a.block a.off ai.none∧(∀j,j<x.length*t.size→Z a.block (a.off+j))∧x.length≤c)
 | .st ak,m,x,vs,F=>ak.ar w Z m.parts x vs F
def aC.ar(w:World)(Z:ai):(ak:aC)→c4→ak.D→List Value→ai→Prop
 | .nil,_,_,vs,_=>vs=[]
 | .cons t ak,m,x,vs,F=>∃us bK G H,vs=us++bK∧t.ar w Z m.ah x.1 us G∧ak.ar w Z m.dF x.2 bK H∧ai.apart G H∧ai.sub G F∧ai.sub H F
end
def cd(w w':World)(S:ai):Prop:=∀b o,S b o→w'.cell? (at_ b o)=w.cell? (at_ b o)∧∀k,w'.frozen? (at_ b k)=w.frozen? (at_ b k)
theorem cd.mono{w w':World}{S T:ai}(h:cd w w' S)(hs:ai.sub T S):cd w w' T:=fun b o ho=>h b o (hs b o ho)
theorem cd.qx{w w':World}{S:ai}(h:cd w w' S){b o:Nat}(hs:S b o)(hw:fC w b o):fC w' b o:=by obtain ⟨⟨v,hv⟩,hf⟩:=hw;exact⟨⟨v,by rw [(h b o hs).1];exact hv⟩,by rw [(h b o hs).2 o];exact hf⟩
theorem cd.kF{w w':World}{S:ai}(h:cd w w' S){size b o:Nat}(hs:S b o)(hw:fZ w size b o):fZ w' size b o:=
 ⟨h.qx hs hw.1,hw.2.imp id fun hk k=>by rw [(h b o hs).2 k];exact hk k⟩
theorem cd.CF{w w':World}{S:ai}(h:cd w w' S){b o:Nat}{vs:List Value}(hs:∀i,i<vs.length→S b (o+i))(hc:ca w b o vs):ca w' b o vs:=
 hc.of_eq fun i hi=>(h b _ (hs i hi)).1
theorem cd.refl(w:World)(S:ai):cd w w S:=fun _ _ _=>⟨rfl,fun _=>rfl⟩
theorem cd.trans{a b c:World}{S:ai}(h:cd a b S)(k:cd b c S):cd a c S:=fun i o hs=>⟨(k i o hs).1.trans (h i o hs).1,fun j=>((k i o hs).2 j).trans ((h i o hs).2 j)⟩
theorem Row.mono{α : Type}{w:World}{R : α → List Value→ai→Prop}{size:Nat}{F F':ai}(hF:ai.sub F F'):∀ {x:List α} {b o:Nat},Row w R size x b o F→Row w R size x b o F'
 | [],_,_,_=>trivial
 | _ :: _,_,_,⟨vs,G,H,h1,h2,h3,h4,a',br,bL⟩=>⟨vs,G,H,h1,h2,h3,h4,a',fun b o h=>hF b o (br b o h),fun b o h=>hF b o (bL b o h)⟩
theorem Row.imp{α : Type}{w w':World}{R jd : α → List Value→ai→Prop}{size:Nat} : ∀ {x:List α} {b o:Nat} {F:ai},Row w R size x b o F →
  (∀y vs G,ai.sub G F→R y vs G→jd y vs G)→(∀j,j<x.length*size→w'.cell? (at_ b (o+j))=w.cell? (at_ b (o+j)))→Row w' jd size x b o F
 | [],_,_,_,_,_,_=>trivial
 | y :: x,b,o,F,⟨vs,G,H,h1,h2,h3,h4,a',br,bL⟩,d_,hc=>by
  refine⟨vs,G,H,d_ _ _ _ br h1,h2,h3.of_eq fun i hi=>hc i ?_,?_,a',br,bL⟩
  ·rw [List.length_cons,Nat.add_one_mul];omega
  ·refine Row.imp h4 (fun y vs dx hG=>d_ y vs dx fun b o h=>bL b o (hG b o h)) fun j hj=>?_
   have:=hc (size+j) (by rw [List.length_cons,Nat.add_one_mul];omega);rwa [← Nat.add_assoc] at this
theorem Row.bare{α : Type}{w:World}{R jd : α → List Value→ai→Prop}{size:Nat} : ∀ {x:List α} {b o:Nat} {F:ai},Row w R size x b o F →
  (∀y vs G,ai.sub G F→R y vs G→jd y vs ai.none)→Row w jd size x b o ai.none
 | [],_,_,_,_,_=>trivial
 | y :: x,b,o,F,⟨vs,G,H,h1,h2,h3,h4,a',br,bL⟩,d_=>⟨vs,ai.none,ai.none,d_ _ _ _ br h1,h2,h3,Row.bare h4 fun y vs dx hG=>d_ y vs dx fun b o h=>bL b o (hG b o h),fun _ _ h=>h.elim,fun _ _ h=>h,fun _ _ h=>h⟩
mutual
theorem ae.ar.mono{w:World}{Z Z':ai}(hZ:ai.sub Z Z'):∀(t:ae) (m:bl) {x:t.D} {vs:List Value} {F F':ai},ai.sub F F'→t.ar w Z m x vs F→t.ar w Z' m x vs F'
 | .int _,_,_,_,_,_,_,h=>by simpa only [ae.ar] using h
 | .bool,_,_,_,_,_,_,h=>by simpa only [ae.ar] using h
 | .str,_,_,_,_,_,_,h=>by simpa only [ae.ar] using h
 | .raw,_,_,_,_,_,_,h=>by simpa only [ae.ar] using h
 | .sl t,.O e,x,vs,F,F',hF,h=>by
  simp only [ae.ar] at h ⊢;obtain ⟨A,c,h1,h2⟩:=h;refine⟨A,c,h1,h2.imp id ?_⟩
  rintro ⟨a,h3,h4⟩
  obtain ⟨G,g1,g2,g3⟩:=h4.row;exact⟨a,h3,h4.spot,h4.cap,h4.wr,fun j hj=>hF _ _ (h4.inF j hj),G,g1.imp (fun y vs dx _=>ae.ar.mono hZ t e fun _ _ h=>h) (fun _ _=>rfl),g2,fun b o h=>hF b o (g3 b o h)⟩
 | .sl t,.R,x,vs,F,F',hF,h=>by
  simp only [ae.ar] at h ⊢;obtain ⟨A,c,h1,h2⟩:=h;refine⟨A,c,h1,h2.imp id ?_⟩
  rintro ⟨a,h3,h4,a',br⟩
  exact⟨a,h3,h4,a'.imp (fun y vs dx _=>ae.ar.mono hZ t .R fun _ _ h=>h) (fun _ _=>rfl),fun j hj=>hZ _ _ (br.1 j hj),br.2⟩
 | .sl t,.S _,x,vs,F,F',hF,h=>by
  simp only [ae.ar] at h ⊢;obtain ⟨A,c,h1,h2⟩:=h;refine⟨A,c,h1,h2.imp id ?_⟩
  rintro ⟨a,h3,h4,a',br⟩
  exact⟨a,h3,h4,a'.imp (fun y vs dx _=>ae.ar.mono hZ t .R fun _ _ h=>h) (fun _ _=>rfl),fun j hj=>hZ _ _ (br.1 j hj),br.2⟩
 | .st ak,m,x,vs,F,F',hF,h=>by simp only [ae.ar] at h ⊢;exact aC.ar.mono hZ ak m.parts hF h
theorem aC.ar.mono{w:World}{Z Z':ai}(hZ:ai.sub Z Z'):∀(ak:aC) (m:c4) {x:ak.D} {vs:List Value} {F F':ai},ai.sub F F'→ak.ar w Z m x vs F→ak.ar w Z' m x vs F'
 | .nil,_,_,_,_,_,_,h=>by simpa only [aC.ar] using h
 | .cons t ak,m,x,vs,F,F',hF,h=>by simp only [aC.ar] at h ⊢;obtain ⟨us,bK,G,H,h1,h2,h3,h4,a',br⟩:=h;exact⟨us,bK,G,H,h1,ae.ar.mono hZ t m.ah (fun _ _ h=>h) h2,aC.ar.mono hZ ak m.dF (fun _ _ h=>h) h3,h4,fun b o h=>hF b o (a' b o h),fun b o h=>hF b o (br b o h)⟩
end
mutual
theorem ae.ar.same{w w':World}{Z:ai}(hZ:cd w w' Z):∀(t:ae) (m:bl) {x:t.D} {vs:List Value} {F:ai},cd w w' F→t.ar w Z m x vs F→t.ar w' Z m x vs F
 | .int _,_,_,_,_,_,h=>by simpa only [ae.ar] using h
 | .bool,_,_,_,_,_,h=>by simpa only [ae.ar] using h
 | .str,_,_,_,_,_,h=>by simpa only [ae.ar] using h
 | .raw,_,_,_,_,_,h=>by simpa only [ae.ar] using h
 | .sl t,.O e,x,vs,F,hF,h=>by
  simp only [ae.ar] at h ⊢;obtain ⟨A,c,h1,h2⟩:=h;refine⟨A,c,h1,h2.imp id ?_⟩
  rintro ⟨a,h3,h4⟩
  obtain ⟨G,g1,g2,g3⟩:=h4.row;have hle:x.length*t.size≤c*t.size:=Nat.mul_le_mul_right _ h4.cap;exact⟨a,h3,h4.spot,h4.cap,fun j hj=>hF.kF (h4.inF j hj) (h4.wr j hj),h4.inF,G,g1.imp (fun y vs dx hG=>ae.ar.same hZ t e (hF.mono fun b o h=>g3 b o (hG b o h))) (fun j hj=>(hF _ _ (h4.inF j (by omega))).1),g2,g3⟩
 | .sl t,.R,x,vs,F,hF,h=>by
  simp only [ae.ar] at h ⊢;obtain ⟨A,c,h1,h2⟩:=h;refine⟨A,c,h1,h2.imp id ?_⟩
  rintro ⟨a,h3,h4,a',br⟩
  exact⟨a,h3,h4,a'.imp (fun y vs dx _=>ae.ar.same hZ t .R (fun _ _ h=>h.elim)) (fun j hj=>(hZ _ _ (br.1 j hj)).1),br⟩
 | .sl t,.S _,x,vs,F,hF,h=>by
  simp only [ae.ar] at h ⊢;obtain ⟨A,c,h1,h2⟩:=h;refine⟨A,c,h1,h2.imp id ?_⟩
  rintro ⟨a,h3,h4,a',br⟩
  exact⟨a,h3,h4,a'.imp (fun y vs dx _=>ae.ar.same hZ t .R (fun _ _ h=>h.elim)) (fun j hj=>(hZ _ _ (br.1 j hj)).1),br⟩
 | .st ak,m,x,vs,F,hF,h=>by simp only [ae.ar] at h ⊢;exact aC.ar.same hZ ak m.parts hF h
theorem aC.ar.same{w w':World}{Z:ai}(hZ:cd w w' Z):∀(ak:aC) (m:c4) {x:ak.D} {vs:List Value} {F:ai},cd w w' F→ak.ar w Z m x vs F→ak.ar w' Z m x vs F
 | .nil,_,_,_,_,_,h=>by simpa only [aC.ar] using h
 | .cons t ak,m,x,vs,F,hF,h=>by simp only [aC.ar] at h ⊢;obtain ⟨us,bK,G,H,h1,h2,h3,h4,a',br⟩:=h;exact⟨us,bK,G,H,h1,ae.ar.same hZ t m.ah (hF.mono a') h2,aC.ar.same hZ ak m.dF (hF.mono br) h3,h4,a',br⟩
end
mutual
theorem ae.ar.len{w:World}{Z:ai} : ∀(t:ae) (m:bl) {x:t.D} {vs:List Value} {F:ai},t.ar w Z m x vs F→vs.length=t.size∧∀v∈vs,ek v=true
 | .int _,_,_,_,_,h=>by simp only [ae.ar] at h;subst h;simp [ae.size,ek]
 | .bool,_,_,_,_,h=>by simp only [ae.ar] at h;subst h;simp [ae.size,ek]
 | .str,_,_,_,_,h=>by simp only [ae.ar] at h;obtain ⟨s,rfl,_⟩:=h;simp [ae.size,ek]
 | .raw,_,_,_,_,h=>by simp only [ae.ar] at h;obtain ⟨rfl,A,n,c,rfl⟩:=h;simp [ae.size,ek]
 | .sl t,.O e,x,vs,F,h=>by simp only [ae.ar] at h;obtain ⟨A,c,rfl,_⟩:=h;simp [ae.size,ek]
 | .sl t,.R,x,vs,F,h=>by simp only [ae.ar] at h;obtain ⟨A,c,rfl,_⟩:=h;simp [ae.size,ek]
 | .sl t,.S _,x,vs,F,h=>by simp only [ae.ar] at h;obtain ⟨A,c,rfl,_⟩:=h;simp [ae.size,ek]
 | .st ak,m,x,vs,F,h=>by simp only [ae.ar] at h;simpa only [ae.size] using aC.ar.len ak m.parts h
theorem aC.ar.len{w:World}{Z:ai} : ∀(ak:aC) (m:c4) {x:ak.D} {vs:List Value} {F:ai},ak.ar w Z m x vs F→vs.length=ak.size∧∀v∈vs,ek v=true
 | .nil,_,_,_,_,h=>by simp only [aC.ar] at h;subst h;simp [aC.size]
 | .cons t ak,m,x,vs,F,h=>by
  simp only [aC.ar] at h;obtain ⟨us,bK,G,H,rfl,h2,h3,_⟩:=h;have a:=ae.ar.len t m.ah h2;have b:=aC.ar.len ak m.dF h3;refine⟨by simp [aC.size,a.1,b.1],fun v hv=>?_⟩;rcases List.mem_append.1 hv with h | h
  ·exact a.2 v h
  ·exact b.2 v h
end
mutual
theorem ae.ar.read{w:World}{Z Z':ai}(hZ:ai.sub Z Z'):∀(t:ae) (m:bl) {x:t.D} {vs:List Value} {F:ai},ai.sub F Z'→t.ar w Z m x vs F→t.ar w Z' .R x vs ai.none
 | .int _,_,_,_,_,_,h=>by simpa only [ae.ar] using h
 | .bool,_,_,_,_,_,h=>by simpa only [ae.ar] using h
 | .str,_,_,_,_,_,h=>by simpa only [ae.ar] using h
 | .raw,_,_,_,_,_,h=>by simpa only [ae.ar] using h
 | .sl t,.O e,x,vs,F,hF,h=>by
  simp only [ae.ar] at h ⊢;obtain ⟨A,c,h1,h2⟩:=h;refine⟨A,c,h1,?_⟩;rcases h2 with⟨h,_⟩ | ⟨a,h3,h4⟩
  ·exact .inl h
  ·obtain ⟨G,g1,g2,g3⟩:=h4.row;have hle:x.length*t.size≤c*t.size:=Nat.mul_le_mul_right _ h4.cap;exact .inr ⟨a,h3,h4.spot,g1.bare fun y vs dx hG=>ae.ar.read hZ t e (fun b o h=>hF b o (g3 b o (hG b o h))),fun j hj=>hF _ _ (h4.inF j (by omega)),h4.cap⟩
 | .sl t,.R,x,vs,F,hF,h=>ae.ar.mono hZ (.sl t) .R (F:=ai.none) (fun _ _ h=>h) (by simpa only [ae.ar] using h)
 | .sl t,.S _,x,vs,F,hF,h=>ae.ar.mono hZ (.sl t) .R (F:=ai.none) (fun _ _ h=>h) (by simpa only [ae.ar] using h)
 | .st ak,m,x,vs,F,hF,h=>by simp only [ae.ar] at h ⊢;exact aC.ar.read hZ ak m.parts hF h
theorem aC.ar.read{w:World}{Z Z':ai}(hZ:ai.sub Z Z'):∀(ak:aC) (m:c4) {x:ak.D} {vs:List Value} {F:ai},ai.sub F Z'→ak.ar w Z m x vs F→ak.ar w Z' (bl.parts .R) x vs ai.none
 | .nil,_,_,_,_,_,h=>by simpa only [aC.ar] using h
 | .cons t ak,m,x,vs,F,hF,h=>by simp only [aC.ar] at h ⊢;obtain ⟨us,bK,G,H,h1,h2,h3,h4,a',br⟩:=h;exact⟨us,bK,ai.none,ai.none,h1,ae.ar.read hZ t m.ah (fun b o h=>hF b o (a' b o h)) h2,aC.ar.read hZ ak m.dF (fun b o h=>hF b o (br b o h)) h3,fun _ _ h=>h.elim,fun _ _ h=>h,fun _ _ h=>h⟩
end
mutual
theorem r_{w:World}{Z:ai} : ∀ {t:ae} {x:t.D} {vs:List Value} {F:ai},t.ar w Z .R x vs F→t.ar w Z .R x vs ai.none
 | .int _,_,_,_,h=>by simpa only [ae.ar] using h
 | .bool,_,_,_,h=>by simpa only [ae.ar] using h
 | .str,_,_,_,h=>by simpa only [ae.ar] using h
 | .raw,_,_,_,h=>by simpa only [ae.ar] using h
 | .sl t,_,_,_,h=>by simpa only [ae.ar] using h
 | .st ak,_,_,_,h=>by simp only [ae.ar] at h ⊢;exact RP h
theorem RP{w:World}{Z:ai} : ∀ {ak:aC} {x:ak.D} {vs:List Value} {F:ai},ak.ar w Z (bl.parts .R) x vs F→ak.ar w Z (bl.parts .R) x vs ai.none
 | .nil,_,_,_,h=>by simpa only [aC.ar] using h
 | .cons t ak,_,_,_,h=>by simp only [aC.ar] at h ⊢;obtain ⟨us,bK,G,H,h1,h2,h3,h4,a',br⟩:=h;exact⟨us,bK,ai.none,ai.none,h1,r_ h2,RP h3,fun _ _ h=>h.elim,fun _ _ h=>h,fun _ _ h=>h⟩
end
mutual
theorem r3{w:World}{Z Z':ai} : ∀(t:ae) {m m':bl} {x:t.D} {vs:List Value} {F F':ai},t.flat=true→t.ar w Z m x vs F→t.ar w Z' m' x vs F'
 | .int _,_,_,_,_,_,_,_,h=>by simpa only [ae.ar] using h
 | .bool,_,_,_,_,_,_,_,h=>by simpa only [ae.ar] using h
 | .str,_,_,_,_,_,_,_,h=>by simpa only [ae.ar] using h
 | .raw,_,_,_,_,_,_,_,h=>by simpa only [ae.ar] using h
 | .sl t,_,_,_,_,_,_,hf,h=>by simp [ae.flat] at hf
 | .st ak,_,_,_,_,_,_,hf,h=>by simp only [ae.flat] at hf;simp only [ae.ar] at h ⊢;exact RQ ak hf h
theorem RQ{w:World}{Z Z':ai} : ∀(ak:aC) {m m':c4} {x:ak.D} {vs:List Value} {F F':ai},ak.flat=true→ak.ar w Z m x vs F→ak.ar w Z' m' x vs F'
 | .nil,_,_,_,_,_,_,_,h=>by simpa only [aC.ar] using h
 | .cons t ak,_,_,_,_,_,_,hf,h=>by
  simp only [aC.flat] at hf;simp only [aC.ar] at h ⊢;obtain ⟨us,bK,G,H,h1,h2,h3,h4,a',br⟩:=h;cases hb:t.flat
  ·rw [hb] at hf;simp at hf
  ·rw [hb] at hf;exact⟨us,bK,ai.none,ai.none,h1,r3 t hb h2,RQ ak hf h3,fun _ _ h=>h.elim,fun _ _ h=>h.elim,fun _ _ h=>h.elim⟩
end
mutual
theorem uh{w:World}{Z Z':ai} : ∀(t:ae) {x:t.D} {vs:List Value} {F:ai},t.ar w Z t.own x vs F→t.ar w Z' t.own x vs F
 | .int _,_,_,_,h=>by simpa only [ae.ar] using h
 | .bool,_,_,_,h=>by simpa only [ae.ar] using h
 | .str,_,_,_,h=>by simpa only [ae.ar] using h
 | .raw,_,_,_,h=>by simpa only [ae.ar] using h
 | .sl t,_,_,_,h=>by
  simp only [ae.own,ae.ar] at h ⊢;obtain ⟨A,c,h1,h2⟩:=h;refine⟨A,c,h1,h2.imp (fun h=>h) ?_⟩
  rintro ⟨a,h3,h4⟩
  obtain ⟨G,g1,g2,g3⟩:=h4.row;exact⟨a,h3,h4.spot,h4.cap,h4.wr,h4.inF,G,g1.imp (fun y vs dx _=>uh t) (fun _ _=>rfl),g2,g3⟩
 | .st ak,_,_,_,h=>by
  simp only [ae.own] at h ⊢;cases hb:ak.flat
  ·rw [hb] at h;simp only [ae.ar,bl.parts,Bool.false_eq_true,if_false] at h ⊢;exact CG ak h
  ·rw [hb] at h;exact r3 (.st ak) (by simp only [ae.flat];exact hb) h
theorem CG{w:World}{Z Z':ai} : ∀(ak:aC) {x:ak.D} {vs:List Value} {F:ai},ak.ar w Z ak.own x vs F→ak.ar w Z' ak.own x vs F
 | .nil,_,_,_,h=>by simpa only [aC.ar] using h
 | .cons t ak,_,_,_,h=>by simp only [aC.own,aC.ar,c4.ah,c4.dF] at h ⊢;obtain ⟨us,bK,G,H,h1,h2,h3,h4,a',br⟩:=h;exact⟨us,bK,G,H,h1,uh t h2,CG ak h3,h4,a',br⟩
end
end Go.LM
namespace Go.LM
structure bJ where
 base:Option Addr
 cap:Nat
 F:ai
def dt(ι : Nat→bJ)(dp:List (Nat×Nat)):ai:=fun b o=>∃d,d∈dp∧(ι d.1).F b o
def known(s:aq)(id:Nat):Prop:=s.o id≠.none
def eE(s:aq)(d:Nat×Nat):Prop:=known s d.1∧(s.o d.1=.dead∨d.2≤kG s d.1)
def cE.live:cE→Prop
 | .row .. | .var .. => True
 | _=>False
structure JL(i:bJ)(size:Nat)(sub:Option (Nat×Nat))(len:Nat)(A:Option Addr)(n c:Nat):Prop where
 RR:n=match sub with | none=>len | some (_,m)=>m
 fits:er sub+n≤len
 le:n≤c
 cap:er sub+c≤i.cap
 at_:c=0∨∃a,i.base=some a∧A=some (at_ a.block (a.off+er sub*size))
theorem lU{o:cE}{t:ae}{em:bl}{ver:Nat}{xs:List t.D}(h:o=.row t em ver xs):o.core=.row t em ver xs:=by rw [h];rfl
def jF(s:aq)(ι : Nat→bJ)(p:Place)(a:Addr):Prop:=
 a.spot=none∧match (s.o p.id).core with
  | .var _ cs=>p.fD=none∧∃a0,(ι p.id).base=some a0∧a=at_ a0.block (a0.off+p.off)
  | .row t _ _ xs=>∃i,p.fD=some i∧i<xs.length∧∃a0,(ι p.id).base=some a0∧a=at_ a0.block (a0.off+i*t.size+p.off)
  | _=>True
def r'(w:World)(s:aq)(ι : Nat→bJ)(dp:List (Nat×Nat))(cJ:Option Place)(v:Value):Prop:=
 ∀p,cJ=some p→(∃d,d∈dp∧d.1=p.id)∧(alive s dp=true→∃b o,jF s ι p (at_ b o)∧w.cell? (at_ b o)=some v∧(ι p.id).F b o)
theorem r'.none{w:World}{s:aq}{ι : Nat→bJ}{dp:List (Nat×Nat)}{v:Value} : r' w s ι dp none v:=fun p h=>by cases h
def cw(w:World)(Z:ai)(s:aq)(ι : Nat→bJ):bd→Value→Prop
 | .int k x,v=>v=.int k x
 | .bool x,v=>v=.bool x
 | .str x,v=>∃b:ByteArray,v=.string b∧b.data.toList=x
 | .raw x,v=>v=x∧∃A n c,x=.slice A n c
 | .nil _,v=>v=.slice none 0 0
 | .bY t dp cJ xs,v=>(∀d,d∈dp→eE s d)∧(∃A n c,v=.slice A n c) ∧
   (alive s dp=true→(ae.sl t).ar w (Z.or (dt ι dp)) .R xs [v] ai.none)∧r' w s ι dp cJ v
 | .ah id sub,v=>known s id∧∃A n c,v=.slice A n c∧∀t em ver xs,(s.o id).core=.row t em ver xs→JL (ι id) t.size sub xs.length A n c
def bN(w:World)(Z:ai)(s:aq)(ι : Nat→bJ):List bd→List Value→Prop
 | [],[]=>True
 | c :: cs,v :: vs=>cw w Z s ι c v∧bN w Z s ι cs vs
 | _,_=>False
mutual
def aV(w:World)(Z:ai)(s:aq)(ι : Nat→bJ):a_→Value→Prop
 | .ay,_=>True
 | .gone,v=>v=undef
 | .aW c,v=>cw w Z s ι c v
 | .iD cs,v=>∃vs,v=.agg vs.toArray∧bN w Z s ι cs vs
 | .ptr p,v=>known s p.id∧∃a,v=.pointer (some a)∧jF s ι p a
 | .dk dp cs off,v=>(∀d,d∈dp→eE s d)∧∃b o vs,v=.pointer (some (at_ b (o+off))) ∧
   (alive s dp=true→bN w Z s ι cs vs∧ca w b o vs∧∀j,j<cs.length→Z.or (dt ι dp) b (o+j))
 | .kd,v=>v=.pointer none
 | .ld,v=>v=.slice none 0 0
 | .opt id o,v=>known s id∧((o<0∧v=.pointer none)∨(0≤o∧∃a,v=.pointer (some a)∧jF s ι ⟨id,some o.toNat,0⟩ a))
 | .r4 t,v=>v.cells.toList.length=t.size∧∀u∈v.cells.toList,LM.ek u=true
 | .may b dp cs,v=>(b=false∧v=.pointer none)∨(b=true∧(∀d,d∈dp→eE s d)∧∃b o vs,v=.pointer (some (at_ b (o+0))) ∧
   (alive s dp=true→bN w Z s ι cs vs∧ca w b o vs∧∀j,j<cs.length→Z.or (dt ι dp) b (o+j)))
 | .fn f first lP,v=>∃us vs,v=.func (.func f) us.toArray vs.toArray∧a8 w Z s ι first us∧a8 w Z s ι lP vs
 | .px l,v=>∃vs,v=.tuple vs.toArray∧a8 w Z s ι l vs
def a8(w:World)(Z:ai)(s:aq)(ι : Nat→bJ):List a_→List Value→Prop
 | [],vs=>vs=[]
 | x :: l,vs=>∃v bK,vs=v :: bK∧aV w Z s ι x v∧a8 w Z s ι l bK
end
def ie(w:World)(Z:ai)(s:aq)(ι : Nat→bJ)(i:bJ):cE→Prop
 | .row t em _ xs=>(xs=[]∧i.cap=0)∨∃a,i.base=some a∧nk w (t.ar w Z em) t.size xs a i.cap i.F
 | .var _ cs=>∃a vs,i.base=some a∧a.spot=none∧bN w Z s ι cs vs∧ca w a.block a.off vs ∧
   (∀j,j<cs.length→fC w a.block (a.off+j)∧i.F a.block (a.off+j))
 | _=>True
structure Seen where
 dp:List (Nat×Nat)
 b:Nat
 o:Nat
 vs:List Value
def ui(w:World)(Z:ai)(s:aq)(ι : Nat→bJ)(e:Seen):Prop:=
 (∀d,d∈e.dp→eE s d)∧(alive s e.dp=true→ca w e.b e.o e.vs∧∀j,j<e.vs.length→Z.or (dt ι e.dp) e.b (e.o+j))
structure cO where
 n:Nat
 qD:List Value
 gc:List Seen
instance:Coe cO Nat:=⟨cO.n⟩
structure Inv(w0:World)(F0 Z0:ai)(n:cO)(s:aq)(a:Act)(w:World)(ι : Nat→bJ)(Z:ai):Prop where
 ext:Ext w0 w F0
 dO:∀b o,Z b o→Z0 b o∨F0 b o∨w0.heap.size≤b
 sa:ai.sub Z0 Z
 je:∀b o,Z b o→b<w.heap.size
 f_:∀id,ie w Z s ι (ι id) (s.o id)
 own:∀id,(s.o id).live→∀b o,(ι id).F b o→(F0 b o∨w0.heap.size≤b)∧b<w.heap.size
 apart:∀id ei,(s.o id).live→(s.o ei).live→id≠ei→ai.apart (ι id).F (ι ei).F
 dd:∀id,(s.o id).live→ai.apart (ι id).F Z
 tmps:∀k,aV w Z s ι (s.t k) (a.tmps.getD k undef)
 size:a.tmps.size=n.n
 ghost:a8 w Z s ι s.g n.qD
 seen:∀e,e∈n.gc→ui w Z s ι e
 defers:a.defers=[]
theorem bN.len{w:World}{Z:ai}{s:aq}{ι : Nat→bJ} : ∀ {cs:List bd} {vs:List Value},bN w Z s ι cs vs→vs.length=cs.length
 | [],[],_=>rfl
 | _ :: _,_ :: _,h=>by simp [bN.len h.2]
 | [],_ :: _,h=>h.elim
 | _ :: _,[],h=>h.elim
theorem cw.ek{w:World}{Z:ai}{s:aq}{ι : Nat→bJ} : ∀ {c:bd} {v:Value},cw w Z s ι c v→LM.ek v=true
 | .int _ _,_,h=>by cases h;rfl
 | .bool _,_,h=>by cases h;rfl
 | .str _,_,⟨_,h,_⟩=>by cases h;rfl
 | .raw _,_,⟨h,_,_,_,h2⟩=>by subst h;subst h2;rfl
 | .nil _,_,h=>by cases h;rfl
 | .bY _ _ _ _,_,⟨_,⟨_,_,_,h⟩,_,_⟩=>by cases h;rfl
 | .ah _ _,_,⟨_,_,_,_,h,_⟩=>by cases h;rfl
theorem bN.ek{w:World}{Z:ai}{s:aq}{ι : Nat→bJ} : ∀ {cs:List bd} {vs:List Value},bN w Z s ι cs vs→∀v∈vs,LM.ek v=true
 | [],[],_=>by simp
 | _ :: _,_ :: _,h=>by
  intro v hv;rcases List.mem_cons.1 hv with rfl | hv
  ·exact h.1.ek
  ·exact bN.ek h.2 v hv
 | [],_ :: _,h=>h.elim
 | _ :: _,[],h=>h.elim
theorem bN.append{w:World}{Z:ai}{s:aq}{ι : Nat→bJ} : ∀ {cs ds:List bd} {us vs:List Value},bN w Z s ι cs us→bN w Z s ι ds vs→bN w Z s ι (cs++ds) (us++vs)
 | [],_,[],_,_,k=>k
 | _ :: _,_,_ :: _,_,h,k=>⟨h.1,bN.append h.2 k⟩
 | [],_,_ :: _,_,h,_=>h.elim
 | _ :: _,_,[],_,h,_=>h.elim
theorem bN.split{w:World}{Z:ai}{s:aq}{ι : Nat→bJ} : ∀ {cs ds:List bd} {vs:List Value},bN w Z s ι (cs++ds) vs →
  ∃us ak,vs=us++ak∧us.length=cs.length∧bN w Z s ι cs us∧bN w Z s ι ds ak
 | [],ds,vs,h=>⟨[],vs,rfl,rfl,trivial,h⟩
 | c :: cs,ds,v :: vs,h=>by obtain ⟨us,ak,h1,h2,h3,h4⟩:=bN.split (cs:=cs) h.2;exact⟨v :: us,ak,by rw [h1];rfl,by simp [h2],⟨h.1,h3⟩,h4⟩
 | _ :: _,_,[],h=>h.elim
theorem bN.drop{w:World}{Z:ai}{s:aq}{ι : Nat→bJ} : ∀(k:Nat) {cs:List bd} {vs:List Value},bN w Z s ι cs vs→bN w Z s ι (cs.drop k) (vs.drop k)
 | 0,_,_,h=>h
 | _+1,[],[],h=>h
 | k+1,_ :: _,_ :: _,h=>bN.drop k h.2
 | _+1,[],_ :: _,h=>h.elim
 | _+1,_ :: _,[],h=>h.elim
theorem bN.take{w:World}{Z:ai}{s:aq}{ι : Nat→bJ} : ∀(k:Nat) {cs:List bd} {vs:List Value},bN w Z s ι cs vs→bN w Z s ι (cs.take k) (vs.take k)
 | 0,_,_,h=>trivial
 | _+1,[],[],h=>h
 | k+1,_ :: _,_ :: _,h=>⟨h.1,bN.take k h.2⟩
 | _+1,[],_ :: _,h=>h.elim
 | _+1,_ :: _,[],h=>h.elim
theorem bN.mono{w w':World}{Z Z':ai}{s au:aq}{ι bp:Nat→bJ}(hc:∀c v,cw w Z s ι c v→cw w' Z' au bp c v) :
  ∀ {cs:List bd} {vs:List Value},bN w Z s ι cs vs→bN w' Z' au bp cs vs
 | [],[],_=>trivial
 | _ :: _,_ :: _,h=>⟨hc _ _ h.1,bN.mono hc h.2⟩
 | [],_ :: _,h=>h.elim
 | _ :: _,[],h=>h.elim
inductive jf:cE→bJ→cE→bJ→Prop
 | stay (o:cE) (i:bJ):jf o i o i
 | made (o':cE) (i dS:bJ):jf .none i o' dS
 | dead (o:cE) (i dS:bJ):jf o i .dead dS
 | row (t:ae) (em gF:bl) (v eX:Nat) (xs f':List t.D) (i dS:bJ) (hv:v<eX) (hl:f'.length=xs.length) (hb:dS.base=i.base) (hc:dS.cap=i.cap):jf (.row t em v xs) i (.row t gF eX f') dS
 | var (v eX:Nat) (cs cs':List bd) (i:bJ) (hv:v<eX) (hl:cs'.length=cs.length):jf (.var v cs) i (.var eX cs') i
 | fE (o:cE) (i:bJ) (hl:o.live):jf o i (.ck o) i
 | sb (t:ae) (em gF:bl) (v eX:Nat) (xs f':List t.D) (i dS:bJ) (hv:v<eX) (hl:f'.length=xs.length) (hb:dS.base=i.base) (hc:dS.cap=i.cap):jf (.ck (.row t em v xs)) i (.row t gF eX f') dS
 | zs (v eX:Nat) (cs cs':List bd) (i dS:bJ) (hv:v<eX) (hb:dS.base=i.base):jf (.ck (.var v cs)) i (.var eX cs') dS
def sc(s:aq)(ι : Nat→bJ)(au:aq)(bp:Nat→bJ):Prop:=∀id,jf (s.o id) (ι id) (au.o id) (bp id)
theorem sc.known{s au:aq}{ι bp:Nat→bJ}(h:sc s ι au bp){id:Nat}(hk:known s id):known au id:=by unfold LM.known at *;have:=h id;generalize s.o id=o at *;generalize au.o id=o' at *;generalize ι id=i at *;generalize bp id=dS at *;cases this <;> simp_all
theorem sc.dep{s au:aq}{ι bp:Nat→bJ}(h:sc s ι au bp){d:Nat×Nat}(hk:eE s d):eE au d:=by
 refine⟨h.known hk.1,?_⟩;obtain ⟨k1,k2⟩:=hk;unfold LM.known kG at *;have:=h d.1;generalize s.o d.1=o at *;generalize au.o d.1=o' at *;generalize ι d.1=i at *;generalize bp d.1=dS at *
 cases this with
 | stay=>exact k2
 | made=>exact absurd rfl k1
 | dead=>exact .inl rfl
 | row t em gF v eX xs f' i dS lV hl hb hc=>rcases k2 with h | h;exact absurd h (by simp);exact .inr (by dsimp only at *;omega)
 | var v eX cs cs' i lV hl=>rcases k2 with h | h;exact absurd h (by simp);exact .inr (by dsimp only at *;omega)
 | fE o i hl=>
  rcases k2 with h | h
  ·rw [h] at hl;exact hl.elim
  ·cases o <;> first | exact hl.elim | exact .inr h
 | sb t em gF v eX xs f' i dS lV hl hb hc=>rcases k2 with h | h;exact absurd h (by simp);exact .inr (by dsimp only at *;omega)
 | zs v eX cs cs' i dS lV hb=>rcases k2 with h | h;exact absurd h (by simp);exact .inr (by dsimp only at *;omega)
theorem sc.stays{s au:aq}{ι bp:Nat→bJ}(h:sc s ι au bp):∀ {dp:List (Nat×Nat)},(∀d,d∈dp→eE s d)→alive au dp=true →
  alive s dp=true∧∀d,d∈dp→au.o d.1=s.o d.1 ∧ bp d.1 = ι d.1∧(s.o d.1).live
 | [],_,_=>⟨rfl,by simp⟩
 | (id,v) :: dp,hk,ha=>by
  have ga:=fun ha=>sc.stays h (dp:=dp) (fun d ah=>hk d (by simp [ah])) ha
  obtain ⟨k1,k2⟩:=hk (id,v) (by simp);have ht:=h id;simp only [LM.known,kG] at k1 k2;unfold alive at ha ⊢;generalize ho:s.o id=o at *;generalize sd:au.o id=o' at *;generalize hi : ι id=i at *;generalize dm : bp id=dS at *
  cases ht with
  | stay=>
   cases o with
   | row t em w xs=>
    dsimp only at ha ⊢;cases hb:Nat.beq w v
    ·rw [hb] at ha;simp at ha
    ·rw [hb] at ha;obtain ⟨bH,cm⟩:=ga ha;refine⟨bH,fun d ah=>?_⟩;rcases List.mem_cons.1 ah with rfl | ah
     ·exact⟨by rw [ho,sd],by rw [hi,dm],by rw [ho];trivial⟩
     ·exact cm d ah
   | var w cs=>
    dsimp only at ha ⊢;cases hb:Nat.beq w v
    ·rw [hb] at ha;simp at ha
    ·rw [hb] at ha;obtain ⟨bH,cm⟩:=ga ha;refine⟨bH,fun d ah=>?_⟩;rcases List.mem_cons.1 ah with rfl | ah
     ·exact⟨by rw [ho,sd],by rw [hi,dm],by rw [ho];trivial⟩
     ·exact cm d ah
   | none=>simp at ha
   | dead=>simp at ha
   | ck=>simp at ha
  | made=>exact absurd rfl k1
  | dead=>simp at ha
  | fE=>simp at ha
  | sb t em gF w w' xs f' i dS hv hl hb hc=>
   dsimp only at ha;cases hb:Nat.beq w' v
   ·rw [hb] at ha;simp at ha
   ·have:=Nat.eq_of_beq_eq_true hb;simp at k2;omega
  | zs w w' cs cs' i dS hv hb=>
   dsimp only at ha;cases hb:Nat.beq w' v
   ·rw [hb] at ha;simp at ha
   ·have:=Nat.eq_of_beq_eq_true hb;simp at k2;omega
  | row t em gF w w' xs f' i dS hv hl hb hc=>
   dsimp only at ha;cases hb:Nat.beq w' v
   ·rw [hb] at ha;simp at ha
   ·have:=Nat.eq_of_beq_eq_true hb;simp at k2;omega
  | var w w' cs cs' i hv hl=>
   dsimp only at ha;cases hb:Nat.beq w' v
   ·rw [hb] at ha;simp at ha
   ·have:=Nat.eq_of_beq_eq_true hb;simp at k2;omega
def RS(s:aq)(ι : Nat→bJ)(au:aq)(bp:Nat→bJ)(Z:ai):ai:=
 fun b o=>Z b o∨∃id,(s.o id).live∧au.o id=s.o id ∧ bp id = ι id∧(ι id).F b o
section
variable{w w':World}{Z Z':ai}{s au:aq}{ι bp:Nat→bJ}
structure eR(w:World)(Z:ai)(s:aq)(ι : Nat→bJ)(w':World)(Z':ai)(au:aq)(bp:Nat→bJ):Prop where
 turns:sc s ι au bp
 dO:ai.sub Z Z'
 same:cd w w' (RS s ι au bp Z)
theorem eR.dt(h:eR w Z s ι w' Z' au bp){dp:List (Nat×Nat)}(hk:∀d,d∈dp→eE s d)(ha:alive au dp=true) :
  cd w w' (Z.or (dt ι dp))∧ai.sub (Z.or (LM.dt ι dp)) (Z'.or (LM.dt bp dp)):=by
 obtain ⟨h1,h2⟩:=h.turns.stays hk ha;refine⟨h.same.mono ?_,?_⟩
 ·rintro b o (hz | ⟨d,ah,hf⟩)
  ·exact .inl hz
  ·exact .inr ⟨d.1,(h2 d ah).2.2,(h2 d ah).1,(h2 d ah).2.1,hf⟩
 ·rintro b o (hz | ⟨d,ah,hf⟩)
  ·exact .inl (h.dO b o hz)
  ·exact .inr ⟨d,ah,by rw [(h2 d ah).2.1];exact hf⟩
theorem jF.move(h:eR w Z s ι w' Z' au bp){p:Place}{a:Addr}(hk:known s p.id)(av:jF s ι p a):jF au bp p a:=by
 obtain ⟨hs,av⟩:=av;refine⟨hs,?_⟩;have ht:=h.turns p.id;unfold known at hk;generalize s.o p.id=o at *;generalize au.o p.id=o' at *;generalize ι p.id=i at *;generalize bp p.id=dS at *
 cases ht with
 | stay=>exact av
 | made=>exact absurd rfl hk
 | dead=>trivial
 | row t em gF v eX xs f' i dS hv hl hb hc=>obtain ⟨k,h1,h2,h3⟩:=av;exact⟨k,h1,by omega,by rw [hb];exact h3⟩
 | var=>exact av
 | fE o i hl=>cases o <;> first | exact hl.elim | exact av
 | sb t em gF v eX xs f' i dS hv hl hb hc=>obtain ⟨k,h1,h2,h3⟩:=av;exact⟨k,h1,by omega,by rw [hb];exact h3⟩
 | zs v eX cs cs' i dS hv hb=>obtain ⟨h1,h2⟩:=av;exact⟨h1,by rw [hb];exact h2⟩
theorem r'.move(h:eR w Z s ι w' Z' au bp){dp:List (Nat×Nat)}{cJ:Option Place}{v:Value}(hk:∀d,d∈dp→eE s d)(ho:r' w s ι dp cJ v):r' w' au bp dp cJ v:=by
 intro p av;obtain ⟨⟨d,ah,cf⟩,h2⟩:=ho p av;refine⟨⟨d,ah,cf⟩,fun ha=>?_⟩;obtain ⟨cU,eF⟩:=h.dt hk ha;obtain ⟨s1,s2⟩:=h.turns.stays hk ha;obtain ⟨b,o,k1,k2,k3⟩:=h2 s1;refine⟨b,o,k1.move h (cf ▸ (hk d ah).1),?_,?_⟩
 ·rw [(cU b o (.inr ⟨d,ah,cf ▸ k3⟩)).1];exact k2
 ·rw [← cf,(s2 d ah).2.1,cf];exact k3
theorem cw.move(h:eR w Z s ι w' Z' au bp):∀ {c:bd} {v:Value},cw w Z s ι c v→cw w' Z' au bp c v
 | .int _ _,_,hc=>hc
 | .bool _,_,hc=>hc
 | .str _,_,hc=>hc
 | .raw _,_,hc=>hc
 | .nil _,_,hc=>hc
 | .bY t dp cJ xs,v,⟨h1,h2,h3,h4⟩=>by refine⟨fun d ah=>h.turns.dep (h1 d ah),h2,fun ha=>?_,h4.move h h1⟩;obtain ⟨a,b⟩:=h.dt h1 ha;exact ae.ar.mono b _ _ (fun _ _ h=>h) (ae.ar.same a _ _ (fun _ _ h=>h.elim) (h3 (h.turns.stays h1 ha).1))
 | .ah id sub,v,⟨h1,A,n,c,hv,h2⟩=>by
  refine⟨h.turns.known h1,A,n,c,hv,fun t em ver xs ho=>?_⟩;have ht:=h.turns id;unfold LM.known at h1;generalize w6:s.o id=o at *;generalize hii : ι id=i at *;generalize aqZ:au.o id=o' at *;generalize aq0 : bp id=dS at *
  cases ht with
  | stay=>exact h2 _ _ _ _ ho
  | made=>exact absurd rfl h1
  | dead=>simp [cE.core] at ho
  | row t em gF v eX xs f' i dS hv hl hb hc=>simp only [cE.core,cE.row.injEq] at ho;obtain ⟨rfl,_,_,ho⟩:=ho;have:=eq_of_heq ho;subst this;obtain ⟨cU,eF,iE,iF,iG⟩:=h2 _ _ _ _ rfl;exact⟨by rw [hl];exact cU,by rw [hl];exact eF,iE,by rw [hc];exact iF,by rw [hb];exact iG⟩
  | var=>simp [cE.core] at ho
  | fE o i hl=>exact h2 _ _ _ _ (by cases o <;> first | exact hl.elim | exact ho)
  | sb t em gF v eX xs f' i dS hv hl hb hc=>simp only [cE.core,cE.row.injEq] at ho;obtain ⟨rfl,_,_,ho⟩:=ho;have:=eq_of_heq ho;subst this;obtain ⟨cU,eF,iE,iF,iG⟩:=h2 _ _ _ _ rfl;exact⟨by rw [hl];exact cU,by rw [hl];exact eF,iE,by rw [hc];exact iF,by rw [hb];exact iG⟩
  | zs=>simp [cE.core] at ho
theorem bN.move(h:eR w Z s ι w' Z' au bp){cs:List bd}{vs:List Value}(hc:bN w Z s ι cs vs):bN w' Z' au bp cs vs:=
 bN.mono (fun _ _=>cw.move h) hc
mutual
theorem aV.move(h:eR w Z s ι w' Z' au bp):∀ {x:a_} {v:Value},aV w Z s ι x v→aV w' Z' au bp x v
 | .ay,_,_=>by simp only [aV]
 | .gone,_,hx=>by simpa only [aV] using hx
 | .aW c,v,hx=>by simp only [aV] at hx ⊢;exact hx.move h
 | .iD cs,v,hx=>by simp only [aV] at hx ⊢;obtain ⟨vs,h1,h2⟩:=hx;exact⟨vs,h1,h2.move h⟩
 | .ptr p,v,hx=>by simp only [aV] at hx ⊢;obtain ⟨h1,a,h2,h3⟩:=hx;exact⟨h.turns.known h1,a,h2,h3.move h h1⟩
 | .dk dp cs off,v,hx=>by simp only [aV] at hx ⊢;obtain ⟨h1,b,o,vs,h2,h3⟩:=hx;refine⟨fun d ah=>h.turns.dep (h1 d ah),b,o,vs,h2,fun ha=>?_⟩;obtain ⟨cU,eF⟩:=h.dt h1 ha;obtain ⟨bH,cm,gQ⟩:=h3 (h.turns.stays h1 ha).1;exact⟨bH.move h,cU.CF (fun i hi=>gQ i (by rw [← bH.len];exact hi)) cm,fun j hj=>eF _ _ (gQ j hj)⟩
 | .r4 t,v,hx=>by simpa only [aV] using hx
 | .may q dp cs,v,hx=>by
  simp only [aV] at hx ⊢;rcases hx with hx | ⟨h0,h1,b,o,vs,h2,h3⟩
  ·exact .inl hx
  refine .inr ⟨h0,fun d ah=>h.turns.dep (h1 d ah),b,o,vs,h2,fun ha=>?_⟩;obtain ⟨cU,eF⟩:=h.dt h1 ha;obtain ⟨bH,cm,gQ⟩:=h3 (h.turns.stays h1 ha).1;exact⟨bH.move h,cU.CF (fun i hi=>gQ i (by rw [← bH.len];exact hi)) cm,fun j hj=>eF _ _ (gQ j hj)⟩
 | .kd,_,hx=>by simpa only [aV] using hx
 | .ld,_,hx=>by simpa only [aV] using hx
 | .opt id o,v,hx=>by simp only [aV] at hx ⊢;obtain ⟨h1,h2⟩:=hx;exact⟨h.turns.known h1,h2.imp (fun x=>x) fun⟨h3,a,h4,a'⟩=>⟨h3,a,h4,a'.move h h1⟩⟩
 | .fn f l m,v,hx=>by simp only [aV] at hx ⊢;obtain ⟨us,vs,h1,h2,h3⟩:=hx;exact⟨us,vs,h1,a8.move h h2,a8.move h h3⟩
 | .px l,v,hx=>by simp only [aV] at hx ⊢;obtain ⟨vs,h1,h2⟩:=hx;exact⟨vs,h1,a8.move h h2⟩
theorem a8.move(h:eR w Z s ι w' Z' au bp):∀ {x:List a_} {v:List Value},a8 w Z s ι x v→a8 w' Z' au bp x v
 | [],v,hx=>by simpa only [a8] using hx
 | x :: l,v,hx=>by simp only [a8] at hx ⊢;obtain ⟨u,us,h1,h2,h3⟩:=hx;exact⟨u,us,h1,aV.move h h2,a8.move h h3⟩
end
theorem ui.move(h:eR w Z s ι w' Z' au bp){e:Seen}(he:ui w Z s ι e):ui w' Z' au bp e:=by obtain ⟨h1,h2⟩:=he;refine⟨fun d ah=>h.turns.dep (h1 d ah),fun ha=>?_⟩;obtain ⟨cU,eF⟩:=h.dt h1 ha;obtain ⟨bH,cm⟩:=h2 (h.turns.stays h1 ha).1;exact⟨cU.CF cm bH,fun j hj=>eF _ _ (cm j hj)⟩
theorem ie.move(h:eR w Z s ι w' Z' au bp){id:Nat}(hl:(s.o id).live→au.o id=s.o id ∧ bp id = ι id){o:cE}(ho:s.o id=o)(hs:ie w Z s ι (ι id) o):ie w' Z' au bp (ι id) o:=by
 cases o with
 | none=>trivial
 | dead=>trivial
 | ck=>trivial
 | row t em ver xs=>
  have cj:(s.o id).live:=by rw [ho];trivial
  have hs1:cd w w' (ι id).F:=h.same.mono fun b o hf=>.inr ⟨id,cj,(hl cj).1,(hl cj).2,hf⟩
  rcases hs with hs | ⟨a,h1,h2⟩
  ·exact .inl hs
  ·refine .inr ⟨a,h1,h2.spot,h2.cap,fun j hj=>hs1.kF (h2.inF j hj) (h2.wr j hj),h2.inF,?_⟩;obtain ⟨G,g1,g2,g3⟩:=h2.row;have hle:xs.length*t.size≤(ι id).cap*t.size:=Nat.mul_le_mul_right _ h2.cap;exact⟨G,g1.imp (fun y vs dx hG hr=>ae.ar.mono h.dO _ _ (fun _ _ h=>h) (ae.ar.same (h.same.mono fun b o hz=>.inl hz) _ _ (hs1.mono fun b o aI=>g3 b o (hG b o aI)) hr)) (fun j hj=>(hs1 _ _ (h2.inF j (by omega))).1),g2,g3⟩
 | var ver cs=>
  have cj:(s.o id).live:=by rw [ho];trivial
  have hs1:cd w w' (ι id).F:=h.same.mono fun b o hf=>.inr ⟨id,cj,(hl cj).1,(hl cj).2,hf⟩
  obtain ⟨a,vs,h1,h2,h3,h4,a'⟩:=hs;exact⟨a,vs,h1,h2,h3.move h,hs1.CF (fun i hi=>(a' i (by rw [← h3.len];exact hi)).2) h4,fun j hj=>⟨hs1.qx (a' j hj).2 (a' j hj).1,(a' j hj).2⟩⟩
end
end Go.LM
namespace Go.LM
section
variable{w0:World}{F0 Z0:ai}{n:cO}{s au:aq}{a cg:Act}{w w':World}{ι bp:Nat→bJ}{Z Z':ai}
theorem Inv.next(h:Inv w0 F0 Z0 n s a w ι Z)(hm:eR w Z s ι w' Z' au bp){S:ai}(hx:Ext w w' S)
  (dZ:∀b o,S b o→F0 b o∨w0.heap.size≤b)
  (hz:∀b o,Z' b o→Z b o∨((F0 b o∨w0.heap.size≤b)∧b<w'.heap.size))
  (ho:∀id,(au.o id).live→¬(au.o id=s.o id ∧ bp id = ι id)→ie w' Z' au bp (bp id) (au.o id) ∧
   (∀b o,(bp id).F b o→(F0 b o∨w0.heap.size≤b)∧b<w'.heap.size)∧(∀ei,(au.o ei).live→id≠ei→ai.apart (bp id).F (bp ei).F))
  (ox:∀id,(au.o id).live→ai.apart (bp id).F Z')
  (ht:∀k,aV w' Z' au bp (au.t k) (cg.tmps.getD k undef))
  (hn:cg.tmps.size=n) (ah:cg.defers=[]) (zt:au.g=s.g:=by rfl):Inv w0 F0 Z0 n au cg w' bp Z':=by
 have hsz:=hx.size;refine⟨?_,?_,?_,?_,?_,?_,?_,ox,ht,hn,by rw [zt];exact a8.move hm h.ghost,fun e he=>(h.seen e he).move hm,ah⟩
 ·refine h.ext.trans' hx dZ
 ·intro b o hb;rcases hz b o hb with h1 | h1
  ·exact h.dO b o h1
  ·exact .inr h1.1
 ·exact fun b o hb=>hm.dO b o (h.sa b o hb)
 ·intro b o hb;rcases hz b o hb with h1 | h1
  ·exact Nat.lt_of_lt_of_le (h.je b o h1) hsz
  ·exact h1.2
 ·intro id;by_cases hl:(au.o id).live
  ·by_cases hst:au.o id=s.o id ∧ bp id = ι id
   ·have:=ie.move hm (id:=id) (fun _=>hst) rfl (h.f_ id);rw [hst.2,hst.1];exact this
   ·exact(ho id hl hst).1
  ·cases hh:au.o id with
   | none=>trivial
   | dead=>trivial
   | ck=>trivial
   | row=>rw [hh] at hl;exact absurd trivial hl
   | var=>rw [hh] at hl;exact absurd trivial hl
 ·intro id hl b o hf;by_cases hst:au.o id=s.o id ∧ bp id = ι id
  ·rw [hst.2] at hf;have:=h.own id (hst.1 ▸ hl) b o hf;exact⟨this.1,Nat.lt_of_lt_of_le this.2 hsz⟩
  ·exact(ho id hl hst).2.1 b o hf
 ·intro id ei hl gu hne;by_cases hst:au.o id=s.o id ∧ bp id = ι id
  ·by_cases qE:au.o ei=s.o ei ∧ bp ei = ι ei
   ·rw [hst.2,qE.2];exact h.apart id ei (hst.1 ▸ hl) (qE.1 ▸ gu) hne
   ·exact fun b o h1 h2=>(ho ei gu qE).2.2 id hl (Ne.symm hne) b o h2 h1
  ·exact(ho id hl hst).2.2 ei gu hne
theorem cd.jg{S T:ai}(hx:Ext w w' S)(b3:∀b o,T b o→b<w.heap.size)(ha:ai.apart T S):cd w w' T:=
 fun b o ht=>⟨hx.cell (b3 b o ht) (fun hs=>ha b o ht hs),hx.frozen (b3 b o ht)⟩
theorem Inv.se(h:Inv w0 F0 Z0 n s a w ι Z):∀b o,RS s ι au bp Z b o→b<w.heap.size:=by
 rintro b o (hz | ⟨id,hl,_,_,hf⟩)
 ·exact h.je b o hz
 ·exact(h.own id hl b o hf).2
theorem cZ{α : Type}{f:Nat → α}{i j:Nat}{v : α}(h:i≠j):bZ f i v j=f j:=r5 (Ne.symm h)
theorem Inv.tmp(h:Inv w0 F0 Z0 n s a w ι Z)(ho:au.o=s.o)(ht:∀k,aV w Z au ι (au.t k) (cg.tmps.getD k undef))
  (hn:cg.tmps.size=n) (ah:cg.defers=[]) (zt:au.g=s.g:=by rfl):Inv w0 F0 Z0 n au cg w ι Z:=by
 refine h.next (S:=ai.none) ⟨fun id=>by rw [ho];exact .stay _ _,fun _ _ h=>h,cd.refl _ _⟩ (Ext.refl _ _) (fun _ _ h=>h.elim) (fun _ _ h=>.inl h) ?_ ?_ ht hn ah zt
 ·intro id _ hne;exact absurd ⟨by rw [ho],rfl⟩ hne
 ·intro id hl;exact h.dd id (by rwa [ho] at hl)
theorem JM(ho:au.o=s.o):eR w Z s ι w Z au ι :=⟨fun id=>by rw [ho];exact .stay _ _,fun _ _ h=>h,cd.refl _ _⟩
theorem JN(t:Array Value)(d k:Nat)(u:Value)(ah:d<t.size):(t.setIfInBounds d u).getD k undef=if d=k then u else t.getD k undef:=by
 simp only [Array.getD_eq_getD_getElem?,Array.getElem?_setIfInBounds];by_cases hk:d=k
 ·subst hk;simp [ah]
 ·simp [hk]
theorem Inv.set(h:Inv w0 F0 Z0 n s a w ι Z){d:Nat}{v:a_}{u:Value}(hv:aV w Z s ι v u)(ah:d<n) :
  Inv w0 F0 Z0 n (s.set d v) (a.put (some d) u) w ι Z:=by
 have hm:eR w Z s ι w Z (s.set d v) ι := JM rfl;refine h.tmp rfl (fun k=>?_) (by simpa [Act.put] using h.size) (by simpa [Act.put] using h.defers);show aV w Z (s.set d v) ι (bZ s.t d v k) ((a.tmps.setIfInBounds d u).getD k undef);rw [JN _ _ _ _ (by rw [h.size];exact ah)];by_cases hk:d=k
 ·subst hk;rw [cN,if_pos rfl];exact hv.move hm
 ·rw [cZ hk,if_neg hk];exact(h.tmps k).move hm
theorem Inv.dst(h:Inv w0 F0 Z0 n s a w ι Z){d:Option Nat}{v:a_}{u:Value}(hv:aV w Z s ι v u)(ah:∀k,d=some k→k<n) :
  Inv w0 F0 Z0 n (s.dst d v) (a.put d u) w ι Z:=by
 cases d with
 | none=>exact h
 | some d=>exact h.set hv (ah d rfl)
theorem Inv.world(h:Inv w0 F0 Z0 n s a w ι Z)(hx:Ext w w' ai.none):Inv w0 F0 Z0 n s a w' ι Z:=by have hm:eR w Z s ι w' Z s ι :=⟨fun id=>.stay _ _,fun _ _ h=>h,cd.jg hx h.se (fun _ _ _ h=>h)⟩;refine h.next hm hx (fun _ _ h=>h.elim) (fun _ _ h=>.inl h) ?_ h.dd (fun k=>(h.tmps k).move hm) h.size h.defers;intro id _ hne;exact absurd ⟨rfl,rfl⟩ hne
theorem Inv.drew(h:Inv w0 F0 Z0 n s a w ι Z)(m:Nat):Inv w0 F0 Z0 n s a { w with drawn:=m } ι Z:=h.world (Ext.drew _ _ _)
theorem RT(h:Inv w0 F0 Z0 n s a w ι Z){id:Nat}(cf:s.o id=.none)(hx:Ext w w' ai.none)(o:cE)(i:bJ) :
  eR w Z s ι w' Z (s.bV id o) (bZ ι id i):=by
 refine⟨fun j=>?_,fun _ _ h=>h,cd.jg hx h.se (fun _ _ _ h=>h)⟩;show jf (s.o j) (ι j) (bZ s.o id o j) (bZ ι id i j);by_cases hj:id=j
 ·subst hj;rw [cf];exact .made _ _ _
 ·rw [cZ hj,cZ hj];exact .stay _ _
theorem Inv.new(h:Inv w0 F0 Z0 n s a w ι Z){id:Nat}(cf:s.o id=.none)(hx:Ext w w' ai.none){o:cE}{i:bJ}
  (cV:ie w' Z (s.bV id o) (bZ ι id i) i o) (hF:∀b o,i.F b o→w.heap.size≤b∧b<w'.heap.size) :
  Inv w0 F0 Z0 n (s.bV id o) a w' (bZ ι id i) Z:=by
 have hm:=RT h cf hx o i;have hsz:=h.ext.size;refine h.next hm hx (fun _ _ h=>h.elim) (fun _ _ h=>.inl h) ?_ ?_ (fun k=>(h.tmps k).move hm) h.size h.defers
 ·intro j hl hne;by_cases hj:id=j
  ·subst hj;rw [cN];refine⟨by show ie _ _ _ _ _ (bZ s.o id o id);rw [cN];exact cV,fun b o hf=>⟨.inr (by have:=(hF b o hf).1;omega),(hF b o hf).2⟩,fun lj gu j2 b o h1 h2=>?_⟩;rw [cZ j2] at h2;have d':(s.o lj).live:=by have:(bZ s.o id _ lj).live:=gu;rwa [cZ j2] at this
   have:=(h.own lj d' b o h2).2;have:=(hF b o h1).1;omega
  ·exact absurd ⟨cZ hj,cZ hj⟩ hne
 ·intro j hl b o h1 h2;by_cases hj:id=j
  ·subst hj;rw [cN] at h1;have:=(hF b o h1).1;have:=h.je b o h2;omega
  ·rw [cZ hj] at h1;have d':(s.o j).live:=by have:(bZ s.o id _ j).live:=hl;rwa [cZ hj] at this
   exact h.dd j d' b o h1 h2
theorem JO{id j:Nat}(hl:((s.bV id .dead).o j).live):id≠j∧(s.o j).live:=by
 have h:(bZ s.o id cE.dead j).live:=hl;by_cases hj:id=j
 ·subst hj;rw [cN] at h;exact h.elim
 ·rw [cZ hj] at h;exact⟨hj,h⟩
theorem acd(h:Inv w0 F0 Z0 n s a w ι Z)(id:Nat)(hZ:ai.sub Z Z'):eR w Z s ι w Z' (s.bV id .dead) ι := by
 refine⟨fun j=>?_,hZ,cd.refl _ _⟩;show jf (s.o j) (ι j) (bZ s.o id cE.dead j) (ι j);by_cases hj:id=j
 ·subst hj;rw [cN];exact .dead _ _ _
 ·rw [cZ hj];exact .stay _ _
theorem Inv.take(h:Inv w0 F0 Z0 n s a w ι Z)(id:Nat)(hZ:ai.sub Z Z')(hz:∀b o,Z' b o→Z b o∨((s.o id).live∧(ι id).F b o)) :
  Inv w0 F0 Z0 n (s.bV id .dead) a w ι Z':=by
 have hm:=acd h id hZ;refine h.next hm (Ext.refl _ ai.none) (fun _ _ h=>h.elim) ?_ ?_ ?_ (fun k=>(h.tmps k).move hm) h.size h.defers
 ·intro b o hb;rcases hz b o hb with h1 | ⟨h1,h2⟩
  ·exact .inl h1
  ·exact .inr (h.own id h1 b o h2)
 ·intro j hl hne;obtain ⟨hj,d'⟩:=JO hl;exact absurd ⟨cZ hj,rfl⟩ hne
 ·intro j hl b o h1 h2;obtain ⟨hj,d'⟩:=JO hl;rcases hz b o h2 with h3 | ⟨h3,h4⟩
  ·exact h.dd j d' b o h1 h3
  ·exact h.apart id j h3 d' hj b o h4 h1
end
end Go.LM
namespace Go.LM
theorem Row.drop{α : Type}{w:World}{R : α → List Value→ai→Prop}{size:Nat} : ∀(k:Nat) {x:List α} {b o:Nat} {F:ai},Row w R size x b o F→Row w R size (x.drop k) b (o+k*size) F
 | 0,x,b,o,F,h=>by simpa using h
 | k+1,[],b,o,F,h=>trivial
 | k+1,y :: x,b,o,F,⟨vs,G,H,h1,h2,h3,h4,a',br,bL⟩=>by have:=Row.drop k h4;rw [show o+size+k*size=o +(k+1)*size by rw [Nat.add_one_mul];omega] at this;exact this.mono bL
theorem Row.take{α : Type}{w:World}{R : α → List Value→ai→Prop}{size:Nat} : ∀(k:Nat) {x:List α} {b o:Nat} {F:ai},Row w R size x b o F→Row w R size (x.take k) b o F
 | 0,x,b,o,F,h=>by rw [List.take_zero];trivial
 | k+1,[],b,o,F,h=>trivial
 | k+1,y :: x,b,o,F,⟨vs,G,H,h1,h2,h3,h4,a',br,bL⟩=>⟨vs,G,H,h1,h2,h3,Row.take k h4,a',br,bL⟩
theorem hp{u t:ae}{xs:List u.D}{x:List t.D}(h:eP (.sl u) (.sl t) xs=some x):∃e:u=t,x=e ▸ xs:=by
 obtain ⟨e,hx⟩:=Cz h;injection e with e
 subst e;exact⟨rfl,hx⟩
section
variable{w0:World}{F0 Z0:ai}{n:cO}{s au:aq}{a:Act}{w:World}{ι : Nat→bJ}{Z Z':ai}
structure bM(w0:World)(F0:ai)(s:aq)(w:World)(ι : Nat→bJ)(Z F:ai):Prop where
 own:∀b o,F b o→(F0 b o∨w0.heap.size≤b)∧b<w.heap.size
 apart:∀id,(s.o id).live→ai.apart F (ι id).F
 dd:ai.apart F Z
theorem bM.none:bM w0 F0 s w ι Z ai.none:=⟨fun _ _ h=>h.elim,fun _ _ _ _ h=>h.elim,fun _ _ h=>h.elim⟩
structure fj(s:aq)(ι : Nat→bJ)(Z:ai)(au:aq)(Z':ai):Prop where
 o:∀id,au.o id=s.o id∨((s.o id).live∧au.o id=.dead)
 t:au.t=s.t
 g:au.g=s.g
 dO:ai.sub Z Z'
 pC:∀b o,Z' b o→Z b o∨∃id,(s.o id).live∧au.o id=.dead∧(ι id).F b o
theorem fj.refl:fj s ι Z s Z:=⟨fun _=>.inl rfl,rfl,rfl,fun _ _ h=>h,fun _ _ h=>.inl h⟩
theorem fj.trans{s2:aq}{bR:ai}(h:fj s ι Z au Z')(k:fj au ι Z' s2 bR):fj s ι Z s2 bR:=by
 refine⟨fun id=>?_,k.t.trans h.t,k.g.trans h.g,fun b o hz=>k.dO b o (h.dO b o hz),fun b o hz=>?_⟩
 ·rcases k.o id with h1 | ⟨h0,h1⟩
  ·rw [h1];exact h.o id
  ·rcases h.o id with h2 | ⟨_,h2⟩
   ·exact .inr ⟨h2 ▸ h0,h1⟩
   ·rw [h2] at h0;exact h0.elim
 ·rcases k.pC b o hz with h1 | ⟨id,h1,h2,h3⟩
  ·rcases h.pC b o h1 with h1 | ⟨id,h1,h2,h3⟩
   ·exact .inl h1
   ·refine .inr ⟨id,h1,?_,h3⟩;rcases k.o id with h4 | ⟨_,h4⟩
    ·rw [h4,h2]
    ·exact h4
  ·rcases h.o id with h4 | ⟨_,h4⟩
   ·exact .inr ⟨id,h4 ▸ h1,h2,h3⟩
   ·rw [h4] at h1;exact h1.elim
theorem fj.et(h:fj s ι Z au Z'):eR w Z s ι w Z' au ι := by
 refine⟨fun id=>?_,h.dO,cd.refl _ _⟩;rcases h.o id with h1 | ⟨_,h1⟩
 ·rw [h1];exact .stay _ _
 ·rw [h1];exact .dead _ _ _
theorem fj.live(h:fj s ι Z au Z'){id:Nat}(hl:(au.o id).live):(s.o id).live∧au.o id=s.o id:=by
 rcases h.o id with h1 | ⟨_,h1⟩
 ·exact⟨h1 ▸ hl,h1⟩
 ·rw [h1] at hl;exact hl.elim
theorem bM.shrink{F:ai}(hf:bM w0 F0 s w ι Z F)(h:fj s ι Z au Z'):bM w0 F0 au w ι Z' F:=by
 refine⟨hf.own,fun id hl=>hf.apart id (h.live hl).1,fun b o h1 h2=>?_⟩;rcases h.pC b o h2 with h3 | ⟨id,h3,_,h4⟩
 ·exact hf.dd b o h1 h3
 ·exact hf.apart id h3 b o h1 h4
theorem bM.or{F G:ai}(hf:bM w0 F0 s w ι Z F)(aI:bM w0 F0 s w ι Z G):bM w0 F0 s w ι Z (F.or G):=
 ⟨fun b o h=>h.elim (hf.own b o) (aI.own b o),fun id hl b o h=>h.elim (hf.apart id hl b o) (aI.apart id hl b o),fun b o h=>h.elim (hf.dd b o) (aI.dd b o)⟩
theorem Inv.w8(h:Inv w0 F0 Z0 n s a w ι Z){id:Nat}(hl:(s.o id).live):bM w0 F0 (s.bV id .dead) w ι Z (ι id).F:=
 ⟨h.own id hl,fun j hj=>by obtain ⟨h1,h2⟩:=JO hj;exact h.apart id j hl h2 h1,h.dd id hl⟩
theorem w9(id:Nat)(hl:(s.o id).live):fj s ι Z (s.bV id .dead) Z:=by
 refine⟨fun j=>?_,rfl,rfl,fun _ _ h=>h,fun _ _ h=>.inl h⟩;by_cases hj:id=j
 ·subst hj;exact .inr ⟨hl,cN _ _ _⟩
 ·exact .inl (cZ hj)
theorem RU(h:Inv w0 F0 Z0 n s a w ι Z){id:Nat}(hl:(s.o id).live):fj s ι Z (s.bV id .dead) (Z.or (ι id).F):=by
 refine⟨fun j=>?_,rfl,rfl,fun _ _ h=>.inl h,fun b o hz=>?_⟩
 ·by_cases hj:id=j
  ·subst hj;exact .inr ⟨hl,cN _ _ _⟩
  ·exact .inl (cZ hj)
 ·rcases hz with h1 | h1
  ·exact .inl h1
  ·exact .inr ⟨id,hl,cN _ _ _,h1⟩
theorem w_{i:bJ}{t:ae}{em:bl}{xs:List t.D}{sub:Option (Nat×Nat)}{A:Option Addr}{m c:Nat}{ver:Nat}
  (ho:ie w Z s ι i (.row t em ver xs)) (hh:JL i t.size sub xs.length A m c) :
  (ae.sl t).ar w Z (.O em) (lf sub xs) [.slice A m c] i.F:=by
 obtain ⟨hn,hfit,hle,hcap,cB⟩:=hh
 have hlen:(lf sub xs).length=m:=by
  cases sub with
  | none=>simp [lf,hn]
  | some p=>obtain ⟨lo,k⟩:=p;simp only [lf,part,List.length_take,List.length_drop,er] at *;omega
 simp only [ae.ar];refine⟨A,c,by rw [hlen],?_⟩;rcases cB with h0 | ⟨a0,hb,hA⟩
 ·exact .inl ⟨List.eq_nil_of_length_eq_zero (by omega),h0⟩
 ·rcases ho with⟨hx,h0⟩ | ⟨xa,dP,hr⟩
  ·refine .inl ⟨List.eq_nil_of_length_eq_zero (by omega),by omega⟩
  ·rw [hb] at dP;obtain rfl:=aZ dP;refine .inr ⟨_,hA,rfl,by rw [hlen];exact hle,fun j hj=>?_,fun j hj=>?_,?_⟩
   ·have:=hr.wr (er sub*t.size+j) (by
     have:(er sub+c)*t.size≤i.cap*t.size:=Nat.mul_le_mul_right _ hcap
     rw [Nat.add_mul] at this;omega)
    rwa [← Nat.add_assoc] at this
   ·have:=hr.inF (er sub*t.size+j) (by
     have:(er sub+c)*t.size≤i.cap*t.size:=Nat.mul_le_mul_right _ hcap
     rw [Nat.add_mul] at this;omega)
    rwa [← Nat.add_assoc] at this
   ·obtain ⟨G,g1,g2,g3⟩:=hr.row;refine⟨G,?_,fun j hj=>?_,g3⟩
    ·cases sub with
     | none=>simpa [lf,er] using g1
     | some p=>obtain ⟨lo,k⟩:=p;exact(g1.drop lo).take k
    ·have:=g2 (er sub*t.size+j) (by
      have:(er sub+c)*t.size≤i.cap*t.size:=Nat.mul_le_mul_right _ hcap
      rw [Nat.add_mul] at this;omega)
     rwa [← Nat.add_assoc] at this
theorem JP{t:ae}{c:bd}{xs:List t.D}{v:Value}(h:Inv w0 F0 Z0 n s a w ι Z)(hl:pA s t c=some xs)(hc:cw w Z s ι c v) :
  (ae.sl t).ar w (Z.or (dt ι (borrows s c))) .R xs [v] ai.none∧alive s (borrows s c)=true∧∀d,d∈borrows s c→eE s d:=by
 cases c with
 | nil u=>obtain ⟨e,rfl⟩:=hp hl;subst e;have hv:v=.slice none 0 0:=hc;subst hv;refine⟨?_,rfl,by simp [borrows]⟩;simp only [ae.ar];exact⟨none,0,rfl,.inl trivial⟩
 | bY u dp cJ ys=>
  simp only [pA] at hl;obtain ⟨h1,h2,h3⟩:=hc
  cases ha:alive s dp with
  | false=>rw [ha] at hl;simp at hl
  | true=>rw [ha] at hl;obtain ⟨e,rfl⟩:=hp hl;subst e;exact⟨h3.1 ha,ha,h1⟩
 | ah id sub=>
  simp only [pA] at hl;obtain ⟨h1,A,m,k,rfl,h2⟩:=hc
  cases ho:s.o id with
  | row u em ver ys=>
   rw [ho] at hl;obtain ⟨e,rfl⟩:=hp hl;subst e;have hb:borrows s (.ah id sub)=[(id,ver)]:=by simp only [borrows,ho]
   rw [hb];refine⟨?_,?_,?_⟩
   ·have da:=h.f_ id;rw [ho] at da;refine ae.ar.read (fun _ _ h=>.inl h) _ _ (fun b o hf=>.inr ⟨(id,ver),by simp,hf⟩) (w_ da (h2 u em ver ys (lU ho)))
   ·simp [alive,ho]
   ·intro d ah;simp at ah;subst ah;exact⟨h1,.inr (by simp [kG,ho])⟩
  | _=>rw [ho] at hl;simp at hl
 | _=>simp [pA] at hl
theorem JQ(ι : Nat→bJ)(nb bw:List (Nat×Nat)):ai.sub (dt ι bw) (dt ι (nb++bw)):=
 fun b o ⟨d,h1,h2⟩=>⟨d,List.mem_append.2 (.inr h1),h2⟩
def zu(w0:World)(F0 Z0:ai)(n:cO)(s:aq)(a:Act)(w:World)(ι : Nat→bJ)(Z:ai)(b:Bool)(R:ai→List Value→ai→Prop)(vs:List Value)
  (cs':List bd) (au:aq) (bw ns:List (Nat×Nat)):Prop:=
 ∃us bK F Z',vs=us++bK∧Inv w0 F0 Z0 n au a w ι Z'∧fj s ι Z au Z'∧bN w Z' au ι cs' bK∧bM w0 F0 au w ι Z' F ∧
  R (Z'.or (dt ι ns)) us F∧(∃nb,ns=nb++bw)∧(b=false→ns=bw)∧(∀d,d∈ns→eE au d) ∧
  ∀b o,F b o→∃id,(s.o id).live∧(ι id).F b o
theorem xb{b:Bool}{R:ai→List Value→ai→Prop}{v:Value}{bK:List Value}{cs':List bd}{bw:List (Nat×Nat)}(h:Inv w0 F0 Z0 n s a w ι Z)
  (hc:bN w Z s ι cs' bK) (hb:∀d,d∈bw→eE s d) (d_:∀Z,R Z [v] ai.none):zu w0 F0 Z0 n s a w ι Z b R (v :: bK) cs' s bw bw:=
 ⟨[v],bK,ai.none,Z,rfl,h,.refl,hc,.none,d_ _,⟨[],rfl⟩,fun _=>rfl,hb,fun _ _ h=>h.elim⟩
theorem JR(h:fj s ι Z au Z'){d:Nat×Nat}(ah:eE s d):eE au d:=by
 obtain ⟨h1,h2⟩:=ah;unfold eE known kG at *;rcases h.o d.1 with h3 | ⟨_,h3⟩
 ·rw [h3];exact⟨h1,h2⟩
 ·rw [h3];exact⟨by simp,.inl rfl⟩
theorem RV{t:ae}{e:bl}{x:List t.D}{vs:List Value}{F:ai}(h:(ae.sl t).ar w Z (.O e) x vs F) :
  ∃F',ai.sub F' F∧(ae.sl t).ar w (Z.or fun b o=>F b o∧¬F' b o) (.O .R) x vs F':=by
 simp only [ae.ar] at h ⊢;obtain ⟨A,c,hv,h⟩:=h;rcases h with h | ⟨a,hA,hr⟩
 ·exact⟨ai.none,fun _ _ h=>h.elim,A,c,hv,.inl h⟩
 ·obtain ⟨G,g1,g2,g3⟩:=hr.row;refine⟨ai.run a.block a.off (c*t.size),?_,A,c,hv,.inr ⟨a,hA,hr.spot,hr.cap,hr.wr,fun j hj=>⟨rfl,by omega,by omega⟩,ai.none,?_,fun _ _ h=>h,fun _ _ h=>h.elim⟩⟩
  ·rintro b o ⟨rfl,h1,h2⟩
   have:=hr.inF (o-a.off) (by omega);rwa [show a.off +(o-a.off)=o by omega] at this
  ·refine g1.bare fun y us dx hG aT=>ae.ar.read (fun _ _ h=>.inl h) _ _ (fun b o aI=>.inr ⟨g3 b o (hG b o aI),?_⟩) aT
   rintro ⟨rfl,h1,h2⟩
   have:=g2 (o-a.off) (by omega);rw [show a.off +(o-a.off)=o by omega] at this;exact this (hG _ o aI)
theorem ace(t:ae)(b:Bool)(m:bl)(c:bd)(cs:List bd)(s:aq)(bw:List (Nat×Nat))(r:List t.D×List bd×aq×List (Nat×Nat))(v:Value)(vs:List Value)(Z:ai)
  (hi:(ae.sl t).imp b m (c :: cs) s bw=some r) (h:Inv w0 F0 Z0 n s a w ι Z) (hc:bN w Z s ι (c :: cs) (v :: vs)) (hb:∀d,d∈bw→eE s d) :
  zu w0 F0 Z0 n s a w ι Z b (fun Z us F=>(ae.sl t).ar w Z m r.1 us F) (v :: vs) r.2.1 r.2.2.1 bw r.2.2.2:=by
 have nt:∀ {Z m},v=.slice none 0 0→(ae.sl t).ar w Z m ([]:List t.D) [v] ai.none:=by intro Z m hv;subst hv;cases m <;> simp only [ae.ar] <;> exact⟨none,0,rfl,.inl (by simp)⟩
 have frozen:∀(m:bl),m=.R∨(∃ms,m=.S ms)→(ae.sl t).imp b m (c :: cs) s bw=some r →
   zu w0 F0 Z0 n s a w ι Z b (fun Z us F=>(ae.sl t).ar w Z m r.1 us F) (v :: vs) r.2.1 r.2.2.1 bw r.2.2.2:=by
  intro m hm hi
  have JS:∀ {Z:ai} {x:List t.D} {us:List Value},(ae.sl t).ar w Z .R x us ai.none→(ae.sl t).ar w Z m x us ai.none:=by
   rcases hm with rfl | ⟨ms,rfl⟩
   ·exact fun h=>h
   ·intro Z x us h;simpa only [ae.ar] using h
  cases b with
  | true=>
   have dm:(pA s t c).bind (fun x=>some (x,cs,s,borrows s c++bw))=some r:=by rcases hm with rfl | ⟨ms,rfl⟩ <;> simpa only [ae.imp] using hi
   obtain ⟨x,hx,dm⟩:=bq dm;obtain rfl:=aZ dm;obtain ⟨ea,e7,fF⟩:=JP h hx hc.1;refine⟨[v],vs,ai.none,Z,rfl,h,.refl,hc.2,.none,JS (ae.ar.mono ?_ _ _ (fun _ _ h=>h) ea),⟨_,rfl⟩,fun hf=>by simp at hf,?_,fun _ _ h=>h.elim⟩
   ·rintro b o (hz | ⟨d,ah,hf⟩)
    ·exact .inl hz
    ·exact .inr ⟨d,List.mem_append.2 (.inl ah),hf⟩
   ·intro d ah;rcases List.mem_append.1 ah with ah | ah
    ·exact fF d ah
    ·exact hb d ah
  | false=>
   cases c with
   | nil u=>
    have dm:(eP (.sl u) (.sl t) ([]:List u.D)).bind (fun x=>some (x,cs,s,bw))=some r:=by rcases hm with rfl | ⟨ms,rfl⟩ <;> simpa only [ae.imp] using hi
    obtain ⟨x,hx,dm⟩:=bq dm;obtain rfl:=aZ dm;obtain ⟨e,rfl⟩:=hp hx;subst e;exact xb h hc.2 hb fun Z=>nt hc.1
   | bY u dp cJ xs=>
    cases dp with
    | cons d dp=>rcases hm with rfl | ⟨ms,rfl⟩ <;> simp [ae.imp] at hi
    | nil=>
     have dm:(eP (.sl u) (.sl t) xs).bind (fun x=>some (x,cs,s,bw))=some r:=by rcases hm with rfl | ⟨ms,rfl⟩ <;> simpa only [ae.imp] using hi
     obtain ⟨x,hx,dm⟩:=bq dm;obtain rfl:=aZ dm;obtain ⟨e,rfl⟩:=hp hx;subst e;have p:=hc.1.2.2.1 rfl;refine⟨[v],vs,ai.none,Z,rfl,h,.refl,hc.2,.none,JS (ae.ar.mono ?_ _ _ (fun _ _ h=>h) p),⟨[],rfl⟩,fun _=>rfl,hb,fun _ _ h=>h.elim⟩
     rintro b o (hz | ⟨d,ah,hf⟩)
     ·exact .inl hz
     ·simp at ah
   | ah id sub=>
    cases ho:s.o id with
    | row u em ver xs=>
     have dm:(eP (.sl u) (.sl t) (lf sub xs)).bind (fun x=>some (x,cs,s.bV id .dead,bw))=some r:=by rcases hm with rfl | ⟨ms,rfl⟩ <;> simpa only [ae.imp,ho] using hi
     obtain ⟨x,hx,dm⟩:=bq dm;obtain rfl:=aZ dm;obtain ⟨e,rfl⟩:=hp hx;subst e;have hl:(s.o id).live:=by rw [ho];trivial
     obtain ⟨hk,A,m',k,rfl,hh⟩:=hc.1;have da:=h.f_ id;rw [ho] at da;have p:=w_ da (hh u em ver xs (lU ho));have iH:=RU h hl;refine⟨[_],vs,ai.none,Z.or (ι id).F,rfl,h.take id (fun _ _ h=>.inl h) (fun b o hz=>hz.imp (fun h=>h) fun h=>⟨hl,h⟩),iH,hc.2.move iH.et,.none,JS ?_,⟨[],rfl⟩,fun _=>rfl,fun d ah=>JR iH (hb d ah),fun _ _ h=>h.elim⟩;exact ae.ar.read (fun _ _ h=>.inl (.inl h)) _ _ (fun b o hf=>.inl (.inr hf)) p
    | _=>rcases hm with rfl | ⟨ms,rfl⟩ <;> simp [ae.imp,ho] at hi
   | _=>rcases hm with rfl | ⟨ms,rfl⟩ <;> simp [ae.imp] at hi
 cases m with
 | R=>exact frozen _ (.inl rfl) hi
 | S ms=>exact frozen _ (.inr ⟨ms,rfl⟩) hi
 | O e=>
  cases c with
  | nil u=>
   have dm:(eP (.sl u) (.sl t) ([]:List u.D)).bind (fun x=>some (x,cs,s,bw))=some r:=by cases b <;> simpa only [ae.imp] using hi
   obtain ⟨x,hx,dm⟩:=bq dm;obtain rfl:=aZ dm;obtain ⟨e,rfl⟩:=hp hx;subst e;exact xb h hc.2 hb fun Z=>nt hc.1
  | ah id sub=>
   cases ho:s.o id with
   | row u em ver xs=>
    have dm:(if bl.le em e=true then(eP (.sl u) (.sl t) (lf sub xs)).bind (fun x=>some (x,cs,s.bV id .dead,bw)) else none)=some r:=by cases b <;>(simp only [ae.imp,ho] at hi;rw [← hi];cases bl.le em e <;> rfl)
    split at dm
    case isFalse=>simp at dm
    rename_i hle;obtain ⟨x,hx,dm⟩:=bq dm;obtain rfl:=aZ dm;obtain ⟨gr,rfl⟩:=hp hx;subst gr;have hl:(s.o id).live:=by rw [ho];trivial
    obtain ⟨hk,A,m',k,rfl,hh⟩:=hc.1;have da:=h.f_ id;rw [ho] at da;have p:=w_ da (hh u em ver xs (lU ho));have fs:=h.w8 hl;by_cases JT:em=e
    ·subst JT;have iH:fj s ι Z (s.bV id .dead) Z:=w9 id (by rw [ho];trivial)
     exact⟨[_],vs,(ι id).F,Z,rfl,h.take id (fun _ _ h=>h) (fun b o hz=>.inl hz),iH,hc.2.move iH.et,fs,
      ae.ar.mono (fun _ _ h=>.inl h) _ _ (fun _ _ h=>h) p,⟨[],rfl⟩,fun _=>rfl,fun d ah=>JR iH (hb d ah),fun b o hf=>⟨id,hl,hf⟩⟩
    ·have acf:e=.R:=by
      cases e with
      | R=>rfl
      | O e=>exact absurd (bl.eq_of_beq _ _ hle) JT
      | S e=>exact absurd (bl.eq_of_beq _ _ hle) JT
     subst acf;obtain ⟨F',cU,eF⟩:=RV p
     have iH:fj s ι Z (s.bV id .dead) (Z.or fun b o=>(ι id).F b o∧¬F' b o):=by
      have h0:=RU h hl;refine⟨h0.o,h0.t,h0.g,fun _ _ h=>.inl h,fun b o hz=>?_⟩;rcases hz with h1 | h1
      ·exact .inl h1
      ·exact .inr ⟨id,hl,cN _ _ _,h1.1⟩
     refine⟨[_],vs,F',_,rfl,h.take id (fun _ _ h=>.inl h) (fun b o hz=>hz.imp (fun h=>h) fun h=>⟨hl,h.1⟩),iH,hc.2.move iH.et,⟨fun b o hf=>fs.own b o (cU b o hf),fun j hj b o hf=>fs.apart j hj b o (cU b o hf),?_⟩,
      ae.ar.mono (fun _ _ h=>.inl h) _ _ (fun _ _ h=>h) eF,⟨[],rfl⟩,fun _=>rfl,fun d ah=>JR iH (hb d ah),fun b o hf=>⟨id,hl,cU b o hf⟩⟩
     rintro b o hf (hz | hz)
     ·exact fs.dd b o (cU b o hf) hz
     ·exact hz.2 hf
   | _=>cases b <;> simp [ae.imp,ho] at hi
  | _=>cases b <;> simp [ae.imp] at hi
mutual
theorem ae.lW:∀(t:ae) (b:Bool) (m:bl) (cs:List bd) (s:aq) (bw:List (Nat×Nat)) (r:t.D×List bd×aq×List (Nat×Nat)) (vs:List Value) (Z:ai),
  t.imp b m cs s bw=some r→Inv w0 F0 Z0 n s a w ι Z→bN w Z s ι cs vs→(∀d,d∈bw→eE s d) →
  zu w0 F0 Z0 n s a w ι Z b (fun Z us F=>t.ar w Z m r.1 us F) vs r.2.1 r.2.2.1 bw r.2.2.2
 | .int k,b,m,cs,s,bw,r,vs,Z,hi,h,hc,hb=>by
  cases cs with
  | nil=>cases m <;> simp [ae.imp] at hi
  | cons c cs=>
   cases vs with
   | nil=>exact hc.elim
   | cons v vs=>
    cases c <;> simp only [ae.imp] at hi <;> try (simp at hi;done)
    rename_i k' x;cases hk:Nat.beq (dz k) (dz k')
    ·rw [hk] at hi;simp at hi
    ·rw [hk] at hi;obtain rfl:=aZ hi;obtain rfl:=t_ (Nat.eq_of_beq_eq_true hk);have hv:v=.int k x:=hc.1;subst hv;exact xb h hc.2 hb fun Z=>by simp only [ae.ar]
 | .bool,b,m,cs,s,bw,r,vs,Z,hi,h,hc,hb=>by
  cases cs with
  | nil=>cases m <;> simp [ae.imp] at hi
  | cons c cs=>
   cases vs with
   | nil=>exact hc.elim
   | cons v vs=>
    cases c <;> simp only [ae.imp] at hi <;> try (simp at hi;done)
    obtain rfl:=aZ hi;have hv:v=.bool _:=hc.1;subst hv;exact xb h hc.2 hb fun Z=>by simp only [ae.ar]
 | .str,b,m,cs,s,bw,r,vs,Z,hi,h,hc,hb=>by
  cases cs with
  | nil=>cases m <;> simp [ae.imp] at hi
  | cons c cs=>
   cases vs with
   | nil=>exact hc.elim
   | cons v vs=>
    cases c <;> simp only [ae.imp] at hi <;> try (simp at hi;done)
    obtain rfl:=aZ hi;obtain ⟨q,rfl,hq⟩:=hc.1;exact xb h hc.2 hb fun Z=>by simp only [ae.ar];exact⟨q,rfl,hq⟩
 | .raw,b,m,cs,s,bw,r,vs,Z,hi,h,hc,hb=>by
  cases cs with
  | nil=>cases m <;> simp [ae.imp] at hi
  | cons c cs=>
   cases vs with
   | nil=>exact hc.elim
   | cons v vs=>
    cases c <;> simp only [ae.imp] at hi <;> try (simp at hi;done)
    obtain rfl:=aZ hi;obtain ⟨q,hq⟩:=hc.1;exact xb h hc.2 hb fun Z=>by simp only [ae.ar];exact⟨by rw [q],hq⟩
 | .sl t,b,m,cs,s,bw,r,vs,Z,hi,h,hc,hb=>by
  cases cs with
  | nil=>cases m <;> cases b <;> simp [ae.imp] at hi
  | cons c cs=>
   cases vs with
   | nil=>exact hc.elim
   | cons v vs=>exact ace t b m c cs s bw r v vs Z hi h hc hb
 | .st ak,b,m,cs,s,bw,r,vs,Z,hi,h,hc,hb=>by simp only [ae.imp] at hi;have:=aC.lW ak b m.parts cs s bw r vs Z hi h hc hb;simpa only [ae.ar] using this
theorem aC.lW:∀(ak:aC) (b:Bool) (m:c4) (cs:List bd) (s:aq) (bw:List (Nat×Nat)) (r:ak.D×List bd×aq×List (Nat×Nat)) (vs:List Value) (Z:ai),
  ak.imp b m cs s bw=some r→Inv w0 F0 Z0 n s a w ι Z→bN w Z s ι cs vs→(∀d,d∈bw→eE s d) →
  zu w0 F0 Z0 n s a w ι Z b (fun Z us F=>ak.ar w Z m r.1 us F) vs r.2.1 r.2.2.1 bw r.2.2.2
 | .nil,b,m,cs,s,bw,r,vs,Z,hi,h,hc,hb=>by simp only [aC.imp] at hi;obtain rfl:=aZ hi;exact⟨[],vs,ai.none,Z,rfl,h,.refl,hc,.none,by simp only [aC.ar],⟨[],rfl⟩,fun _=>rfl,hb,fun _ _ h=>h.elim⟩
 | .cons t ak,b,m,cs,s,bw,r,vs,Z,hi,h,hc,hb=>by
  simp only [aC.imp] at hi;obtain ⟨bH,h1,hi⟩:=bq hi;obtain ⟨cm,h2,hi⟩:=bq hi;obtain rfl:=aZ hi;obtain ⟨us,vs1,F,cI,e1,i1,s1,c1,f1,ea,⟨acg,e8⟩,iI,d1,g1⟩:=ae.lW t b m.ah cs s bw bH vs Z h1 h hc hb;obtain ⟨us2,vs2,G,bR,e2,i2,s2,gR,f2,e7,⟨JU,jG⟩,pD,d2,g2⟩:=aC.lW ak b m.dF bH.2.1 bH.2.2.1 bH.2.2.2 cm vs1 cI h2 i1 c1 d1
  have lk:ai.sub (cI.or (dt ι bH.2.2.2)) (bR.or (dt ι cm.2.2.2)):=by
   rintro b o (hz | hz)
   ·exact .inl (s2.dO b o hz)
   ·rw [jG];exact .inr (JQ _ _ _ b o hz)
  refine⟨us++us2,vs2,F.or G,bR,by rw [e1,e2,List.append_assoc],i2,s1.trans s2,gR,(f1.shrink s2).or f2,?rep,⟨JU++acg,by rw [jG,e8,List.append_assoc]⟩,fun hf=>by rw [pD hf,iI hf],d2,?src⟩
  case src=>
   rintro b o (hf | hf)
   ·exact g1 b o hf
   ·obtain ⟨id,hl,hi⟩:=g2 b o hf;exact⟨id,(s1.live hl).1,hi⟩
  simp only [aC.ar];refine⟨us,us2,F,G,rfl,ae.ar.mono lk _ _ (fun _ _ h=>h) ea,e7,?_,fun _ _ h=>.inl h,fun _ _ h=>.inr h⟩;intro b o h1 h2;obtain ⟨id,hl,hi⟩:=g2 b o h2;exact f1.apart id hl b o h1 hi
end
end
end Go.LM
namespace Go.LM
theorem Row.get{α : Type}{w:World}{R : α → List Value→ai→Prop}{size:Nat} : ∀ {x:List α} {b o:Nat} {F:ai} (i:Nat) (hi:i<x.length),Row w R size x b o F →
  ∃vs G,R x[i] vs G∧vs.length=size∧ca w b (o+i*size) vs∧ai.sub G F
 | y :: x,b,o,F,0,_,⟨vs,G,H,h1,h2,h3,h4,a',br,bL⟩=>⟨vs,G,h1,h2,by simpa using h3,br⟩
 | y :: x,b,o,F,i+1,hi,⟨vs,G,H,h1,h2,h3,h4,a',br,bL⟩=>by obtain ⟨us,dx,k1,k2,k3,bg⟩:=Row.get i (by simpa using hi) h4;refine⟨us,dx,k1,k2,?_,fun b o h=>bL b o (bg b o h)⟩;rwa [show o +(i+1)*size=o+size+i*size by rw [Nat.add_one_mul];omega]
theorem Row.set{α : Type}{w w':World}{R jd : α → List Value→ai→Prop}{size:Nat}{bG : α}{F1:ai} : ∀ {x:List α} {b o:Nat} {F:ai} (i:Nat) (hi:i<x.length),Row w R size x b o F →
  (∀y vs G,ai.sub G F→R y vs G→jd y vs G) →
  (∀j,j<x.length*size→(j<i*size∨(i+1)*size≤j)→w'.cell? (at_ b (o+j))=w.cell? (at_ b (o+j))) →
  (∀vs G,R x[i] vs G→vs.length=size→ca w b (o+i*size) vs→ai.sub G F→∃bK,bK.length=size∧ca w' b (o+i*size) bK∧jd bG bK (G.or F1)) →
  ai.apart F1 F→Row w' jd size (x.set i bG) b o (F.or F1)
 | y :: x,b,o,F,0,_,⟨vs,G,H,h1,h2,h3,h4,a',br,bL⟩,d_,hc,hn,ha=>by
  obtain ⟨bK,k1,k2,k3⟩:=hn vs G h1 h2 (by simpa using h3) br;refine⟨bK,G.or F1,H,k3,k1,by simpa using k2,?_,?_,?_,fun b o h=>.inl (bL b o h)⟩
  ·refine Row.imp h4 (fun y vs dx hG=>d_ y vs dx fun b o h=>bL b o (hG b o h)) fun j hj=>?_
   have:=hc (size+j) (by rw [List.length_cons,Nat.add_one_mul];omega) (.inr (by simp));rwa [← Nat.add_assoc] at this
  ·rintro b o (h | h) hh
   ·exact a' b o h hh
   ·exact ha b o h (bL b o hh)
  ·rintro b o (h | h)
   ·exact .inl (br b o h)
   ·exact .inr h
 | y :: x,b,o,F,i+1,hi,⟨vs,G,H,h1,h2,h3,h4,a',br,bL⟩,d_,hc,hn,ha=>by
  refine⟨vs,G,H.or F1,d_ _ _ _ br h1,h2,?_,?_,?_,fun b o h=>.inl (br b o h),?_⟩
  ·refine h3.of_eq fun k hk=>hc k ?_ (.inl ?_)
   ·rw [List.length_cons,Nat.add_one_mul];omega
   ·rw [Nat.add_one_mul];omega
  ·refine Row.set i (by simpa using hi) h4 (fun y vs dx hG=>d_ y vs dx fun b o h=>bL b o (hG b o h)) ?_ ?_ (fun b o h k=>ha b o h (bL b o k))
   ·intro j hj JV
    have:=hc (size+j) (by rw [List.length_cons,Nat.add_one_mul];omega) (by
     rcases JV with h | h
     ·left;rw [Nat.add_one_mul];omega
     ·right;rw [Nat.add_one_mul];omega)
    rwa [← Nat.add_assoc] at this
   ·intro bK dx k1 k2 k3 bg;have:=hn bK dx k1 k2 (by rwa [show o +(i+1)*size=o+size+i*size by rw [Nat.add_one_mul];omega]) (fun b o h=>bL b o (bg b o h));rwa [show o +(i+1)*size=o+size+i*size by rw [Nat.add_one_mul];omega] at this
  ·rintro b o h (hh | hh)
   ·exact a' b o h hh
   ·exact ha b o hh (br b o h)
  ·rintro b o (h | h)
   ·exact .inl (bL b o h)
   ·exact .inr h
section
variable{w0:World}{F0 Z0:ai}{n:cO}{s au:aq}{a cg:Act}{w w':World}{ι bp:Nat→bJ}{Z Z':ai}
def my(w:World)(s:aq)(ι : Nat→bJ)(dp:List (Nat×Nat))(cJ:Option Place)(vs:List Value):Prop:=
 ∀k v,vs[k]?=some v→r' w s ι dp (cJ.map fun p=> { p with off:=p.off+k }) v
theorem my.none{dp:List (Nat×Nat)}{vs:List Value} : my w s ι dp none vs:=fun _ _ _=>.none
theorem my.head{dp:List (Nat×Nat)}{cJ:Option Place}{v:Value}{vs:List Value}(h:my w s ι dp cJ (v :: vs)):r' w s ι dp cJ v:=by
 have:=h 0 v rfl
 cases cJ with
 | none=>exact .none
 | some p=>simpa using this
theorem my.left{dp:List (Nat×Nat)}{cJ:Option Place}{us vs:List Value}(h:my w s ι dp cJ (us++vs)):my w s ι dp cJ us:=fun k v hv=>h k v (by rw [List.getElem?_append_left (List.getElem?_eq_some_iff.1 hv).1];exact hv)
theorem my.right{dp:List (Nat×Nat)}{cJ:Option Place}{us vs:List Value}(h:my w s ι dp cJ (us++vs)):my w s ι dp (cJ.map fun p=> { p with off:=p.off+us.length }) vs:=fun k v hv=>by
 have:=h (us.length+k) v (by rw [List.getElem?_append_right (by omega)];simpa using hv)
 cases cJ with
 | none=>exact .none
 | some p=>simpa [Nat.add_assoc] using this
mutual
theorem ae.qF:∀(t:ae) (dp:List (Nat×Nat)) (cJ:Option Place) {x:t.D} {vs:List Value},(∀d,d∈dp→eE s d) →
  (alive s dp=true→t.ar w (Z.or (dt ι dp)) .R x vs ai.none)→(∃m Z' F',t.ar w Z' m x vs F')→my w s ι dp cJ vs→bN w Z s ι (t.cells dp cJ x) vs
 | .int k,dp,cJ,x,vs,ah,h,⟨m,Z',F',h'⟩,mz=>by simp only [ae.ar] at h';subst h';exact⟨rfl,trivial⟩
 | .bool,dp,cJ,x,vs,ah,h,⟨m,Z',F',h'⟩,mz=>by simp only [ae.ar] at h';subst h';exact⟨rfl,trivial⟩
 | .str,dp,cJ,x,vs,ah,h,⟨m,Z',F',h'⟩,mz=>by simp only [ae.ar] at h';obtain ⟨q,rfl,hq⟩:=h';exact⟨⟨q,rfl,hq⟩,trivial⟩
 | .raw,dp,cJ,x,vs,ah,h,⟨m,Z',F',h'⟩,mz=>by simp only [ae.ar] at h';obtain ⟨rfl,hq⟩:=h';exact⟨⟨rfl,hq⟩,trivial⟩
 | .sl t,dp,cJ,x,vs,ah,h,⟨m,Z',F',h'⟩,mz=>by
  have hv:∃A c,vs=[.slice A x.length c]:=by cases m <;>(simp only [ae.ar] at h';obtain ⟨A,c,hv,_⟩:=h';exact⟨A,c,hv⟩)
  obtain ⟨A,c,rfl⟩:=hv;exact⟨⟨ah,⟨A,_,c,rfl⟩,h,mz.head⟩,trivial⟩
 | .st ak,dp,cJ,x,vs,ah,h,⟨m,Z',F',h'⟩,mz=>by simp only [ae.ar] at h h';simp only [ae.cells];exact aC.qF ak dp cJ ah h ⟨_,_,_,h'⟩ mz
theorem aC.qF:∀(ak:aC) (dp:List (Nat×Nat)) (cJ:Option Place) {x:ak.D} {vs:List Value},(∀d,d∈dp→eE s d) →
  (alive s dp=true→ak.ar w (Z.or (dt ι dp)) (bl.parts .R) x vs ai.none)→(∃m Z' F',ak.ar w Z' m x vs F')→my w s ι dp cJ vs→bN w Z s ι (ak.cells dp cJ x) vs
 | .nil,dp,cJ,x,vs,ah,h,⟨m,Z',F',h'⟩,mz=>by simp only [aC.ar] at h';subst h';trivial
 | .cons t ak,dp,cJ,x,vs,ah,h,⟨m,Z',F',h'⟩,mz=>by
  simp only [aC.ar] at h h';obtain ⟨us,bK,G,H,rfl,h2,h3,_⟩:=h';have hlen:=(ae.ar.len t _ h2).1;simp only [aC.cells];refine bN.append (ae.qF t dp cJ ah (fun ha=>?_) ⟨_,_,_,h2⟩ mz.left) (aC.qF ak dp _ ah (fun ha=>?_) ⟨_,_,_,h3⟩ (hlen ▸ mz.right))
  ·obtain ⟨aX,ach,dx,gb,e,k2,k3,bg,bx,du⟩:=h ha;have:=(ae.ar.len t _ k2).1;obtain ⟨rfl,rfl⟩:=List.append_inj e (by omega);exact ae.ar.mono (fun _ _ h=>h) _ _ bx k2
  ·obtain ⟨aX,ach,dx,gb,e,k2,k3,bg,bx,du⟩:=h ha;have:=(ae.ar.len t _ k2).1;obtain ⟨rfl,rfl⟩:=List.append_inj e (by omega);exact aC.ar.mono (fun _ _ h=>h) _ _ du k3
end
theorem pE{off k:Nat}{cs ds:List bd}(h:takeN off k cs=some ds):off+k≤cs.length∧ds=(cs.drop off).take k:=by
 unfold takeN at h;cases hb:Nat.ble (off+k) cs.length
 ·rw [hb] at h;simp at h
 ·rw [hb] at h;exact⟨Nat.le_of_ble_eq_true hb,(aZ h).symm⟩
theorem c0{t:ae}{xs:List t.D}{i:Nat}(hi:i<xs.length):I t xs i=xs[i]:=by simp [I,hi]
theorem RW(h:Inv w0 F0 Z0 n s a w ι Z){id:Nat}{t:ae}{em:bl}{ver:Nat}{xs:List t.D}(ho:s.o id=.row t em ver xs){i:Nat}(hi:i<xs.length) :
  ∃a0 vs,(ι id).base=some a0∧a0.spot=none∧bN w Z s ι (Ju t em id ver i (I t xs i)) vs∧ca w a0.block (a0.off+i*t.size) vs∧vs.length=t.size:=by
 have da:=h.f_ id;rw [ho] at da;rcases da with⟨rfl,_⟩ | ⟨a0,hb,hr⟩
 ·simp at hi
 ·obtain ⟨G,g1,g2,g3⟩:=hr.row;obtain ⟨vs,dx,k1,k2,k3,bg⟩:=g1.get i hi;refine⟨a0,vs,hb,hr.spot,?_,k3,k2⟩;rw [c0 hi]
  have key:∀dp cJ,(∀d,d∈dp→eE s d)→(em=.R∨(id,ver)∈dp)→my w s ι dp cJ vs→bN w Z s ι (t.cells dp cJ xs[i]) vs:=by
   intro dp cJ ah uj mz;refine ae.qF t dp cJ ah (fun ha=>?_) ⟨_,_,_,k1⟩ mz;rcases uj with rfl | hm
   ·exact ae.ar.mono (fun _ _ h=>.inl h) _ _ (fun _ _ h=>h) (ae.ar.read (Z:=Z) (Z':=Z) (F:=ai.none) (fun _ _ h=>h) t .R (fun _ _ h=>h.elim) (by
     have:=k1
     exact r_ this))
   ·exact ae.ar.read (fun _ _ h=>.inl h) t em (fun b o aI=>.inr ⟨_,hm,g3 b o (bg b o aI)⟩) k1
  unfold Ju;split
  ·exact key [] _ (by simp) (.inl rfl) .none
  ·refine key _ _ ?_ (.inr (by simp)) ?_
   case refine_2=>
    intro k v hv p av;simp only [Option.map_some,Option.some.injEq] at av;subst av;refine⟨⟨(id,ver),by simp,rfl⟩,fun _=>?_⟩;have hk:k<t.size:=by rw [← k2];exact(List.getElem?_eq_some_iff.1 hv).1
    have JW:(i+1)*t.size≤(ι id).cap*t.size:=Nat.mul_le_mul_right _ (by have:=hr.cap;omega);rw [Nat.add_one_mul] at JW;refine⟨a0.block,a0.off+i*t.size+k,⟨rfl,?_⟩,k3 k v hv,?_⟩
    ·show match (s.o id).core with | .var _ _=>_ | .row t _ _ xs=>_ | _=>_
     rw [ho];exact⟨i,rfl,hi,a0,hb,by simp⟩
    ·have:=hr.inF (i*t.size+k) (by omega);rwa [← Nat.add_assoc] at this
   intro d ah;simp at ah;subst ah;exact⟨by simp [known,ho],.inr (by simp [kG,ho])⟩
theorem zv(h:Inv w0 F0 Z0 n s a w ι Z){k:Nat}{p:Place}{cs:List bd}{A:Addr}(hr:mv s k p=some cs)(av:jF s ι p A) :
  ∃b o vs,A=at_ b o∧bN w Z s ι cs vs∧ca w b o vs∧vs.length=k:=by
 obtain ⟨hs,av⟩:=av;unfold mv at hr
 cases ho:s.o p.id with
 | var ver old=>rw [ho] at hr av;obtain ⟨he,a0,hb,rfl⟩:=av;rw [he] at hr;obtain ⟨h1,rfl⟩:=pE hr;have da:=h.f_ p.id;rw [ho] at da;obtain ⟨xa,vs,dP,hsp,hc,cB,_⟩:=da;rw [hb] at dP;obtain rfl:=aZ dP;refine⟨_,_,(vs.drop p.off).take k,rfl,(hc.drop _).take _,cB.part _ _,?_⟩;have:=hc.len;simp;omega
 | row t em ver xs=>
  rw [ho] at hr av;obtain ⟨i,he,hi,a0,hb,rfl⟩:=av;rw [he] at hr;obtain ⟨h1,rfl⟩:=pE hr;obtain ⟨xa,vs,dP,hsp,hc,cB,hl⟩:=RW h ho hi;rw [hb] at dP;obtain rfl:=aZ dP;refine⟨_,_,(vs.drop p.off).take k,rfl,(hc.drop _).take _,?_,?_⟩
  ·have:=cB.part p.off k;exact this
  ·have:=hc.len;simp;omega
 | none=>rw [ho] at hr;simp at hr
 | dead=>rw [ho] at hr;simp at hr
 | ck=>rw [ho] at hr;simp at hr
theorem aci{id:Nat}(cf:s.o id=.none)(o:cE)(i:bJ):eR w Z s ι w Z (s.bV id o) (bZ ι id i):=by
 refine⟨fun j=>?_,fun _ _ h=>h,cd.refl _ _⟩;show jf (s.o j) (ι j) (bZ s.o id o j) (bZ ι id i j);by_cases hj:id=j
 ·subst hj;rw [cf];exact .made _ _ _
 ·rw [cZ hj,cZ hj];exact .stay _ _
theorem Inv.CH(h:Inv w0 F0 Z0 n s a w ι Z){id:Nat}(cf:s.o id=.none){o:cE}{i:bJ}
  (cV:ie w Z (s.bV id o) (bZ ι id i) i o) (hF:bM w0 F0 s w ι Z i.F):Inv w0 F0 Z0 n (s.bV id o) a w (bZ ι id i) Z:=by
 have hm:=aci (w:=w) (Z:=Z) (ι := ι) cf o i;refine h.next hm (Ext.refl _ ai.none) (fun _ _ h=>h.elim) (fun _ _ h=>.inl h) ?_ ?_ (fun k=>(h.tmps k).move hm) h.size h.defers
 ·intro j hl hne;by_cases hj:id=j
  ·subst hj;rw [cN];refine⟨by show ie _ _ _ _ _ (bZ s.o id o id);rw [cN];exact cV,hF.own,fun lj gu j2=>?_⟩;rw [cZ j2];have d':(s.o lj).live:=by have:(bZ s.o id _ lj).live:=gu;rwa [cZ j2] at this
   exact hF.apart lj d'
  ·exact absurd ⟨cZ hj,cZ hj⟩ hne
 ·intro j hl;by_cases hj:id=j
  ·subst hj;rw [cN];exact hF.dd
  ·rw [cZ hj];have d':(s.o j).live:=by have:(bZ s.o id _ j).live:=hl;rwa [cZ hj] at this
   exact h.dd j d'
structure lX(s:aq)(ι : Nat→bJ)(au:aq)(bp:Nat→bJ):Prop where
 o:∀id,s.o id≠.none→au.o id=s.o id ∧ bp id = ι id
 t:au.t=s.t
 g:au.g=s.g
 nl:∀id o',s.o id=.none→au.o id≠.ck o'
theorem lX.refl:lX s ι s ι :=⟨fun _ _=>⟨rfl,rfl⟩,rfl,rfl,fun _ _ h=>by rw [h];simp⟩
theorem lX.trans{s2:aq}{eJ:Nat→bJ}(h:lX s ι au bp)(k:lX au bp s2 eJ):lX s ι s2 eJ:=
 ⟨fun id hn=>by have h1:=h.o id hn;have h2:=k.o id (by rw [h1.1];exact hn);exact⟨h2.1.trans h1.1,h2.2.trans h1.2⟩,k.t.trans h.t,k.g.trans h.g,fun id o' hn=>by
  by_cases hm:au.o id=.none
  ·exact k.nl id o' hm
  ·rw [(k.o id hm).1];exact h.nl id o' hn⟩
theorem lX.et(h:lX s ι au bp):eR w Z s ι w Z au bp:=by
 refine⟨fun id=>?_,fun _ _ h=>h,cd.refl _ _⟩;by_cases hn:s.o id=.none
 ·rw [hn];exact .made _ _ _
 ·rw [(h.o id hn).1,(h.o id hn).2];exact .stay _ _
theorem acj{id:Nat}(cf:s.o id=.none)(o:cE)(i:bJ)(hnl:∀o',o≠.ck o'):lX s ι (s.bV id o) (bZ ι id i):=by
 refine⟨fun j hn=>?_,rfl,rfl,fun j o' hn=>?_⟩
 ·have hj:id≠j:=fun e=>hn (e ▸ cf)
  exact⟨cZ hj,cZ hj⟩
 ·show bZ s.o id o j≠_;by_cases hj:id=j
  ·subst hj;rw [cN];exact hnl o'
  ·rw [cZ hj,hn];simp
def JX(w0:World)(F0 Z0:ai)(n:cO)(s:aq)(a:Act)(w:World)(ι : Nat→bJ)(Z:ai)(vs:List Value)(F:ai)(cs:List bd)(au:aq):Prop:=
 ∃ bp,Inv w0 F0 Z0 n au a w bp Z∧lX s ι au bp∧bN w Z au bp cs vs∧∀G,bM w0 F0 s w ι Z G→ai.apart G F→bM w0 F0 au w bp Z G
theorem uk(h:Inv w0 F0 Z0 n s a w ι Z){vs:List Value}{F:ai}{cs:List bd}(hc:bN w Z s ι cs vs):JX w0 F0 Z0 n s a w ι Z vs F cs s:=
 ⟨ι,h,.refl,hc,fun _ hG _=>hG⟩
mutual
theorem ae.oy:∀(t:ae) (m:bl) (dp:List (Nat×Nat)) (x:t.D) (s:aq) (ι : Nat→bJ) (j:Nat) (r:List bd×aq×Nat) (vs:List Value) (F:ai),
  t.hT m dp x s j=some r→Inv w0 F0 Z0 n s a w ι Z→t.ar w (Z.or (dt ι dp)) m x vs F→bM w0 F0 s w ι Z F→ai.apart F (dt ι dp)→(∀d,d∈dp→eE s d) →
  JX w0 F0 Z0 n s a w ι Z vs F r.1 r.2.1
 | .int k,m,dp,x,s,ι,j,r,vs,F,he,h,hr,hf,nu,ah=>by simp only [ae.hT] at he;obtain rfl:=aZ he;simp only [ae.ar] at hr;subst hr;exact uk h ⟨rfl,trivial⟩
 | .bool,m,dp,x,s,ι,j,r,vs,F,he,h,hr,hf,nu,ah=>by simp only [ae.hT] at he;obtain rfl:=aZ he;simp only [ae.ar] at hr;subst hr;exact uk h ⟨rfl,trivial⟩
 | .str,m,dp,x,s,ι,j,r,vs,F,he,h,hr,hf,nu,ah=>by simp only [ae.hT] at he;obtain rfl:=aZ he;simp only [ae.ar] at hr;obtain ⟨q,rfl,hq⟩:=hr;exact uk h ⟨⟨q,rfl,hq⟩,trivial⟩
 | .raw,m,dp,x,s,ι,j,r,vs,F,he,h,hr,hf,nu,ah=>by simp only [ae.hT] at he;obtain rfl:=aZ he;simp only [ae.ar] at hr;obtain ⟨rfl,hq⟩:=hr;exact uk h ⟨⟨rfl,hq⟩,trivial⟩
 | .sl t,.R,dp,x,s,ι,j,r,vs,F,he,h,hr,hf,nu,ah=>by simp only [ae.hT] at he;obtain rfl:=aZ he;have iJ:=hr;simp only [ae.ar] at hr;obtain ⟨A,c,rfl,_⟩:=hr;exact uk h ⟨⟨ah,⟨A,_,c,rfl⟩,fun _=>r_ iJ,.none⟩,trivial⟩
 | .sl t,.S ms,dp,x,s,ι,j,r,vs,F,he,h,hr,hf,nu,ah=>by
  simp only [ae.hT] at he;obtain rfl:=aZ he;have iJ:(ae.sl t).ar w (Z.or (dt ι dp)) .R x vs F:=by simp only [ae.ar] at hr ⊢;exact hr
  simp only [ae.ar] at hr;obtain ⟨A,c,rfl,_⟩:=hr;exact uk h ⟨⟨ah,⟨A,_,c,rfl⟩,fun _=>r_ iJ,.none⟩,trivial⟩
 | .sl t,.O e,dp,x,s,ι,j,r,vs,F,he,h,hr,hf,nu,ah=>by
  simp only [ae.hT] at he;cases hq:(dp.isEmpty||bl.beq e t.own)
  ·rw [hq] at he;simp at he
  rw [hq] at he
  cases ho:s.o j with
  | none=>
   rw [ho] at he;obtain rfl:=aZ he
   have gS:(ae.sl t).ar w Z (.O e) x vs F:=by
    cases nv:dp with
    | nil=>subst nv;exact ae.ar.mono (fun b o hz=>hz.elim (fun h=>h) fun⟨d,ah,_⟩=>by simp at ah) _ _ (fun _ _ h=>h) hr
    | cons d aq1=>subst nv;have he:e=t.own:=bl.eq_of_beq _ _ (by simpa using hq);subst he;exact uh (.sl t) hr
   simp only [ae.ar] at gS;obtain ⟨A,c,rfl,gS⟩:=gS
   let i:bJ:=⟨A,c,F⟩
   have cV:ie w Z (s.bV j (.row t e 0 x)) (bZ ι j i) i (.row t e 0 x):=by
    rcases gS with gS | ⟨a0,hA,gS⟩
    ·exact .inl gS
    ·exact .inr ⟨a0,hA,gS⟩
   refine⟨bZ ι j i,h.CH ho cV hf,acj ho _ _ (fun o'=>by simp),⟨⟨?_,A,_,c,rfl,?_⟩,trivial⟩,?_⟩
   ·show bZ s.o j _ j≠_;rw [cN];simp
   ·intro cq em ver xs hh;have this:(bZ s.o j (cE.row t e 0 x) j).core=.row cq em ver xs:=hh;rw [cN] at this;have this:cE.row t e 0 x=.row cq em ver xs:=this;injection this with h1 h2 h3 h4
    subst h1;obtain rfl:=eq_of_heq h4;rw [cN];refine⟨rfl,by simp [er],?_,by simp [er,i],?_⟩
    ·rcases gS with⟨hx,hc⟩ | ⟨a0,hA,gS⟩
     ·subst hx;simp
     ·exact gS.cap
    ·rcases gS with⟨hx,hc⟩ | ⟨a0,hA,gS⟩
     ·exact .inl hc
     ·refine .inr ⟨a0,hA,?_⟩;rw [hA];have:=gS.spot;obtain ⟨qG,off,sp⟩:=a0;subst this;simp [er,at_]
   ·intro G hG hGF;refine⟨hG.own,fun id hl=>?_,hG.dd⟩;by_cases hj:j=id
    ·subst hj;rw [cN];exact hGF
    ·rw [cZ hj];exact hG.apart id (by have:(bZ s.o j _ id).live:=hl;rwa [cZ hj] at this)
  | _=>rw [ho] at he;simp at he
 | .st ak,m,dp,x,s,ι,j,r,vs,F,he,h,hr,hf,nu,ah=>by simp only [ae.hT] at he;simp only [ae.ar] at hr;exact aC.oy ak m.parts dp x s ι j r vs F he h hr hf nu ah
theorem aC.oy:∀(ak:aC) (m:c4) (dp:List (Nat×Nat)) (x:ak.D) (s:aq) (ι : Nat→bJ) (j:Nat) (r:List bd×aq×Nat) (vs:List Value) (F:ai),
  ak.hT m dp x s j=some r→Inv w0 F0 Z0 n s a w ι Z→ak.ar w (Z.or (dt ι dp)) m x vs F→bM w0 F0 s w ι Z F→ai.apart F (dt ι dp)→(∀d,d∈dp→eE s d) →
  JX w0 F0 Z0 n s a w ι Z vs F r.1 r.2.1
 | .nil,m,dp,x,s,ι,j,r,vs,F,he,h,hr,hf,nu,ah=>by simp only [aC.hT] at he;obtain rfl:=aZ he;simp only [aC.ar] at hr;subst hr;exact uk h trivial
 | .cons t ak,m,dp,x,s,ι,j,r,vs,F,he,h,hr,hf,nu,ah=>by
  simp only [aC.hT] at he;obtain ⟨bH,h1,he⟩:=bq he;obtain ⟨cm,h2,he⟩:=bq he;obtain rfl:=aZ he;simp only [aC.ar] at hr;obtain ⟨us,bK,G,H,rfl,ea,e7,fF,hy,nw⟩:=hr;have ack:bM w0 F0 s w ι Z G:=⟨fun b o aI=>hf.own b o (hy b o aI),fun id hl b o aI=>hf.apart id hl b o (hy b o aI),fun b o aI=>hf.dd b o (hy b o aI)⟩;have acm:bM w0 F0 s w ι Z H:=⟨fun b o aI=>hf.own b o (nw b o aI),fun id hl b o aI=>hf.apart id hl b o (nw b o aI),fun b o aI=>hf.dd b o (nw b o aI)⟩;obtain ⟨dH,i1,g1,c1,f1⟩:=ae.oy t m.ah dp x.1 s ι j bH us G h1 h ea ack (fun b o aI=>nu b o (hy b o aI)) ah;have RX:∀d,d∈dp→s.o d.1≠.none:=fun d ig=>(ah d ig).1
  have RY:∀b o,dt ι dp b o↔dt dH dp b o:=by
   intro b o;constructor
   ·rintro ⟨d,ig,hx⟩;exact⟨d,ig,by rw [(g1.o d.1 (RX d ig)).2];exact hx⟩
   ·rintro ⟨d,ig,hx⟩;exact⟨d,ig,by rw [(g1.o d.1 (RX d ig)).2] at hx;exact hx⟩
  have gv:∀d,d∈dp→eE bH.2.1 d:=by intro d ig;have:=ah d ig;unfold eE known kG at *;rw [(g1.o d.1 this.1).1];exact this
  obtain ⟨eJ,i2,g2,gR,f2⟩:=aC.oy ak m.dF dp x.2 bH.2.1 dH bH.2.2 cm bK H h2 i1 (aC.ar.mono (fun b o hz=>hz.imp (fun h=>h) (fun h=>(RY b o).1 h)) _ _ (fun _ _ h=>h) e7)
   (f1 H acm (fun b o k1 k2=>fF b o k2 k1)) (fun b o k1 k2=>nu b o (nw b o k1) ((RY b o).2 k2)) gv
  refine⟨eJ,i2,g1.trans g2,(c1.move g2.et).append gR,fun dx JY hGF=>?_⟩;exact f2 dx (f1 dx JY fun b o k1 k2=>hGF b o k1 (hy b o k2)) fun b o k1 k2=>hGF b o k1 (nw b o k2)
end
end
end Go.LM
namespace Go.LM
def dr{α : Type}(l:List α)(k:Nat)(us:List α):List α := l.take k++us++l.drop (k+us.length)
theorem CI{α : Type}(l:List α)(k:Nat):dr l k []=l:=by simp [dr]
theorem Jl{α : Type}{l us:List α}{k:Nat}(h:k+us.length≤l.length):(dr l k us).length=l.length:=by simp [dr];omega
theorem acn{α : Type}{A B us:List α}{k:Nat}(h:k+us.length≤A.length):dr (A++B) k us=dr A k us++B:=by unfold dr;rw [List.take_append_of_le_length (by omega),List.drop_append_of_le_length (by omega)];simp [List.append_assoc]
theorem RZ{α : Type}{A B us:List α}{k:Nat}(h:A.length≤k):dr (A++B) k us=A++dr B (k-A.length) us:=by
 unfold dr;obtain ⟨j,rfl⟩:∃j,k=A.length+j:=⟨k-A.length,by omega⟩
 rw [List.take_append,List.take_of_length_le (by omega),Nat.add_sub_cancel_left,show A.length+j+us.length=A.length +(j+us.length) by omega,List.drop_append,List.drop_of_length_le (by omega),Nat.add_sub_cancel_left];simp [List.append_assoc]
theorem aco{α : Type}{A B us vs:List α}{k:Nat}(h:k+us.length=A.length):dr (A++B) k (us++vs)=dr A k us++dr B 0 vs:=by unfold dr;rw [List.take_append_of_le_length (by omega),List.length_append,show k +(us.length+vs.length)=A.length+vs.length by omega,List.drop_append,List.drop_of_length_le (by omega),Nat.add_sub_cancel_left,h,List.drop_length];simp [List.append_assoc]
theorem acp{α : Type}{l us:List α}(h:us.length=l.length):dr l 0 us=us:=by unfold dr;rw [List.take_zero,Nat.zero_add,h,List.drop_length];simp
section
variable{w0:World}{F0 Z0:ai}{n:cO}{s au:aq}{a cg:Act}{w w':World}{ι bp:Nat→bJ}{Z Z':ai}
def R0(w0:World)(F0 Z0:ai)(n:cO)(s:aq)(a:Act)(w:World)(ι : Nat→bJ)(Z:ai)(R1:List Value→ai→Prop)(R:ai→List Value→ai→Prop)(size skip:Nat)(vs:List Value)
  (cs':List bd) (au:aq):Prop:=
 ∃us rest F1 Z',vs=us++rest∧Inv w0 F0 Z0 n au a w ι Z'∧fj s ι Z au Z'∧bN w Z' au ι cs' rest∧bM w0 F0 au w ι Z' F1 ∧
  (∀b o,F1 b o→∃id,(s.o id).live∧(ι id).F b o)∧skip+us.length≤size∧(cs'≠[]→skip+us.length=size) ∧
  ∀old G,R1 old G→∀id,(au.o id).live→ai.sub G (ι id).F→R Z' (dr old skip us) (G.or F1)
mutual
theorem ae.xc:∀(t:ae) (m:bl) (x:t.D) (skip:Nat) (cs:List bd) (s:aq) (r:t.D×List bd×aq) (vs:List Value) (Z:ai),
  t.put m x skip cs s=some r→skip≤t.size→Inv w0 F0 Z0 n s a w ι Z→bN w Z s ι cs vs →
  R0 w0 F0 Z0 n s a w ι Z (fun us F=>t.ar w Z m x us F) (fun Z us F=>t.ar w Z m r.1 us F) t.size skip vs r.2.1 r.2.2
 | t,m,x,skip,[],s,r,vs,Z,av,pF,h,hc=>by
  have oz:some (x,([]:List bd),s)=some r:=by cases t <;> simpa only [ae.put] using av
  obtain rfl:=aZ oz
  cases vs with
  | cons=>exact hc.elim
  | nil=>refine⟨[],[],ai.none,Z,rfl,h,.refl,trivial,.none,fun _ _ h=>h.elim,by simpa using pF,fun h=>absurd rfl h,fun _ _ hr _ _ _=>?_⟩;rw [CI];exact ae.ar.mono (fun _ _ h=>h) _ _ (fun _ _ h=>.inl h) hr
 | t,m,x,skip,c :: cs,s,r,vs,Z,av,pF,h,hc=>by
  cases hb:(Nat.beq skip 0&&Nat.ble t.size (cs.length+1)) with
  | true=>
   have oz:(t.imp false m (c :: cs) s []).bind (fun r=>some (r.1,r.2.1,r.2.2.1))=some r:=by cases t <;>(simp only [ae.put] at av;rw [hb] at av;exact av)
   obtain ⟨q,hq,oz⟩:=bq oz;obtain rfl:=aZ oz;have dP:skip=0∧t.size≤cs.length+1:=by simp only [Bool.and_eq_true] at hb;exact⟨Nat.eq_of_beq_eq_true hb.1,Nat.le_of_ble_eq_true hb.2⟩
   obtain ⟨rfl,_⟩:=dP;obtain ⟨us,rest,F,Z',e1,i1,s1,c1,f1,ea,_,iI,_,g1⟩:=ae.lW t false m (c :: cs) s [] q vs Z hq h hc (by simp);have pG:=(ae.ar.len t m ea).1;refine⟨us,rest,F,Z',e1,i1,s1,c1,f1,g1,by omega,fun _=>by omega,fun _ _ hr _ _ _=>?_⟩;have hlen:=(ae.ar.len t m hr).1;rw [acp (by omega)];refine ae.ar.mono ?_ _ _ (fun _ _ h=>.inr h) ea
   rintro b o (hz | ⟨d,ah,_⟩)
   ·exact hz
   ·rw [iI rfl] at ah;simp at ah
  | false=>
   cases t with
   | st ak=>simp only [ae.put] at av;rw [hb] at av;have:=aC.xc ak m.parts x skip (c :: cs) s r vs Z av (by simpa only [ae.size] using pF) h hc;simpa only [ae.ar,ae.size] using this
   | _=>simp only [ae.put] at av;rw [hb] at av;simp at av
theorem aC.xc:∀(ak:aC) (m:c4) (x:ak.D) (skip:Nat) (cs:List bd) (s:aq) (r:ak.D×List bd×aq) (vs:List Value) (Z:ai),
  ak.put m x skip cs s=some r→skip≤ak.size→Inv w0 F0 Z0 n s a w ι Z→bN w Z s ι cs vs →
  R0 w0 F0 Z0 n s a w ι Z (fun us F=>ak.ar w Z m x us F) (fun Z us F=>ak.ar w Z m r.1 us F) ak.size skip vs r.2.1 r.2.2
 | .nil,m,x,skip,cs,s,r,vs,Z,av,pF,h,hc=>by simp only [aC.put] at av;obtain rfl:=aZ av;simp only [aC.size] at pF ⊢;refine⟨[],vs,ai.none,Z,rfl,h,.refl,hc,.none,fun _ _ h=>h.elim,by simpa using pF,fun _=>by simp;omega,fun _ _ hr _ _ _=>?_⟩;rw [CI];simp only [aC.ar] at hr ⊢;exact hr
 | .cons t ak,m,x,skip,cs,s,r,vs,Z,av,pF,h,hc=>by
  simp only [aC.put] at av
  cases hb:Nat.ble t.size skip with
  | true=>
   rw [hb] at av;have qH:=Nat.le_of_ble_eq_true hb;obtain ⟨q,hq,av⟩:=bq av;obtain rfl:=aZ av;simp only [aC.size] at pF;obtain ⟨us,rest,F1,Z',e1,i1,s1,c1,f1,g1,eb,eS,k1⟩:=aC.xc ak m.dF x.2 (skip-t.size) cs s q vs Z hq (by omega) h hc;refine⟨us,rest,F1,Z',e1,i1,s1,c1,f1,g1,by simp only [aC.size];omega,fun hne=>by have:=eS hne;simp only [aC.size];omega,fun old G hr id hl hG=>?_⟩;simp only [aC.ar] at hr;obtain ⟨xd,CJ,G1,G2,rfl,ea,e7,fF,hy,nw⟩:=hr;have hl1:=(ae.ar.len t _ ea).1;rw [RZ (by omega),hl1];simp only [aC.ar];refine⟨xd,_,G1,G2.or F1,rfl,ae.ar.mono s1.dO _ _ (fun _ _ h=>h) ea,k1 _ _ e7 id hl (fun b o aI=>hG b o (nw b o aI)),?_,fun b o aI=>.inl (hy b o aI),?_⟩
   ·rintro b o aI (hh | hh)
    ·exact fF b o aI hh
    ·exact f1.apart id hl b o hh (hG b o (hy b o aI))
   ·rintro b o (aI | aI)
    ·exact .inl (nw b o aI)
    ·exact .inr aI
  | false=>
   rw [hb] at av
   have b2:skip<t.size:=by
    rcases Nat.lt_or_ge skip t.size with h | h
    ·exact h
    ·rw [Nat.ble_eq_true_of_le h] at hb;simp at hb
   obtain ⟨cU,oA,av⟩:=bq av;obtain ⟨eF,ij,av⟩:=bq av;obtain rfl:=aZ av;obtain ⟨us,rest,F1,cI,e1,i1,s1,c1,f1,g1,eb,eS,k1⟩:=ae.xc t m.ah x.1 skip cs s cU vs Z oA (by omega) h hc;obtain ⟨us2,R2,dU,bR,e2,i2,s2,gR,f2,g2,oB,pH,k2⟩:=aC.xc ak m.dF x.2 0 cU.2.1 cU.2.2 eF rest cI ij (by omega) i1 c1
   have ga:cU.2.1=[]→us2=[]∧R2=[]:=by
    intro hcs;rw [hcs] at c1
    cases rest with
    | nil=>have:=e2;simp at this;exact⟨this.1,this.2⟩
    | cons=>exact c1.elim
   refine⟨us++us2,R2,F1.or dU,bR,by rw [e1,e2,List.append_assoc],i2,s1.trans s2,gR,(f1.shrink s2).or f2,?_,?_,?_,fun old G hr id hl hG=>?_⟩
   ·rintro b o (hf | hf)
    ·exact g1 b o hf
    ·obtain ⟨id,hl,hi⟩:=g2 b o hf;exact⟨id,(s1.live hl).1,hi⟩
   ·simp only [aC.size,List.length_append];by_cases hcs:cU.2.1=[]
    ·rw [(ga hcs).1];simp;omega
    ·have:=eS hcs;omega
   ·intro hne;simp only [aC.size,List.length_append];have h4:=pH hne;by_cases hcs:cU.2.1=[]
    ·have:eF.2.1=[]:=by
      have h1:=gR.len;rw [(ga hcs).2] at h1;exact List.eq_nil_of_length_eq_zero (by simpa using h1.symm)
     exact absurd this hne
    ·have:=eS hcs;omega
   ·simp only [aC.ar] at hr;obtain ⟨xd,CJ,G1,G2,rfl,ea,e7,fF,hy,nw⟩:=hr;have hl1:=(ae.ar.len t _ ea).1;have gu:=(s2.live hl);have bH:=k1 _ _ ea id gu.1 (fun b o aI=>hG b o (hy b o aI));have cm:=k2 _ _ (aC.ar.mono s1.dO _ _ (fun _ _ h=>h) e7) id hl (fun b o aI=>hG b o (nw b o aI))
    have hsp:dr (xd++CJ) skip (us++us2)=dr xd skip us++dr CJ 0 us2:=by
     by_cases hcs:cU.2.1=[]
     ·rw [(ga hcs).1,List.append_nil,CI,acn (by omega)]
     ·exact aco (by have:=eS hcs;omega)
    rw [hsp];simp only [aC.ar];refine⟨_,_,G1.or F1,G2.or dU,rfl,ae.ar.mono s2.dO _ _ (fun _ _ h=>h) bH,cm,?_,?_,?_⟩
    ·rintro b o (aI | aI) (hh | hh)
     ·exact fF b o aI hh
     ·exact f2.apart id hl b o hh (hG b o (hy b o aI))
     ·exact f1.apart id gu.1 b o aI (hG b o (nw b o hh))
     ·obtain ⟨acq,d',gw⟩:=g2 b o hh;exact f1.apart acq d' b o aI gw
    ·rintro b o (aI | aI)
     ·exact .inl (hy b o aI)
     ·exact .inr (.inl aI)
    ·rintro b o (aI | aI)
     ·exact .inl (nw b o aI)
     ·exact .inr (.inr aI)
end
theorem bN.dr{cs ds:List bd}{us vs:List Value}(h:bN w Z s ι cs us)(k:bN w Z s ι ds vs)(p:Nat) :
  bN w Z s ι (cs.take p++ds++cs.drop (p+ds.length)) (dr us p vs):=by
 unfold LM.dr;rw [k.len];exact((h.take p).append k).append (h.drop _)
theorem acr{cs:List bd}{vs:List Value}(h:fj s ι Z au Z')(hc:bN w Z s ι cs vs):bN w Z' au ι cs vs:=hc.move h.et
theorem acs{b o:Nat}{vs:List Value}(hw:∀i,i<vs.length→fC w b (o+i)):ca (setCells w b o vs) b o vs:=by
 intro i v hv
 have hi:i<vs.length:=by
  rcases Nat.lt_or_ge i vs.length with h | h
  ·exact h
  ·rw [List.getElem?_eq_none h] at hv;simp at hv
 rw [w7 b vs w o (fun i hi=>(hw i hi).1),if_pos ⟨rfl,by omega,by omega⟩,Nat.add_sub_cancel_left];exact hv
theorem r2{b o k:Nat}{old vs:List Value}(hc:ca w b o old)(hw:∀i,i<old.length→fC w b (o+i))(hk:k+vs.length≤old.length) :
  ca (setCells w b (o+k) vs) b o (dr old k vs):=by
 have JZ:∀i,i<vs.length→fC w b (o+k+i):=fun i hi=>by have:=hw (k+i) (by omega);rwa [← Nat.add_assoc] at this
 intro i v hv;have hx:=w7 b vs w (o+k) (fun i hi=>(JZ i hi).1) b (o+i);rw [hx];unfold dr at hv;by_cases h1:i<k
 ·rw [if_neg (by omega)];rw [List.append_assoc,List.getElem?_append_left (by simp;omega),List.getElem?_take,if_pos h1] at hv;exact hc i v hv
 ·by_cases h2:i<k+vs.length
  ·rw [if_pos ⟨rfl,by omega,by omega⟩];rw [List.getElem?_append_left (by simp;omega),List.getElem?_append_right (by simp;omega)] at hv;simp only [List.length_take] at hv;rw [show o+i-(o+k)=i-min k old.length by omega];exact hv
  ·rw [if_neg (by omega)];rw [List.getElem?_append_right (by simp;omega)] at hv;simp only [List.length_append,List.length_take,List.getElem?_drop] at hv;rw [show k+vs.length +(i-(min k old.length+vs.length))=i by omega] at hv;exact hc i v hv
theorem acu(h:Inv w0 F0 Z0 n s a w ι Z){p:Place}{cs:List bd}{A:Addr}{vs:List Value}(hr:CA s p cs=some au)(av:jF s ι p A)(hc:bN w Z s ι cs vs) :
  ∃b o,A=at_ b o∧(∀i,i<vs.length→fC w b (o+i))∧∃ bp Z',Inv w0 F0 Z0 n au a (setCells w b o vs) bp Z':=by
 obtain ⟨hs,av⟩:=av;unfold CA at hr
 cases ho:s.o p.id with
 | var ver old=>
  rw [ho] at hr av;obtain ⟨he,a0,hb,rfl⟩:=av;rw [he] at hr;have cj:(s.o p.id).live:=by rw [ho];trivial
  simp only at hr;cases qH:Nat.ble (p.off+cs.length) old.length
  ·rw [qH] at hr;simp at hr
  rw [qH] at hr;obtain rfl:=aZ hr;have hle:=Nat.le_of_ble_eq_true qH;have da:=h.f_ p.id;rw [ho] at da;obtain ⟨xa,us,dP,hsp,hcu,cB,hwr⟩:=da;rw [hb] at dP;obtain rfl:=aZ dP;have pG:=hcu.len;have hvl:=hc.len;have hw:∀i,i<vs.length→fC w a0.block (a0.off+p.off+i):=fun i hi=>by have:=(hwr (p.off+i) (by omega)).1;rwa [← Nat.add_assoc] at this
  refine⟨_,_,rfl,hw,ι,Z,?_⟩;have hx:Ext w (setCells w a0.block (a0.off+p.off) vs) (ι p.id).F:=oi _ _ _ _ fun i hi=>by have:=(hwr (p.off+i) (by omega)).2;rwa [← Nat.add_assoc] at this
  have hm:eR w Z s ι (setCells w a0.block (a0.off+p.off) vs) Z (s.bV p.id (.var (ver+1) (old.take p.off++cs++old.drop (p.off+cs.length)))) ι := by
   refine⟨fun j=>?_,fun _ _ h=>h,cd.jg hx h.se ?_⟩
   ·show jf (s.o j) (ι j) (bZ s.o p.id _ j) (ι j);by_cases hj:p.id=j
    ·subst hj;rw [cN,ho];exact .var _ _ _ _ _ (by omega) (by simp;omega)
    ·rw [cZ hj];exact .stay _ _
   ·rintro b o (hz | ⟨id,hl,hst,_,hf⟩) iK
    ·exact h.dd p.id cj b o iK hz
    ·have hne:id≠p.id:=by
      rintro rfl
      have:bZ s.o p.id _ p.id=s.o p.id:=hst;rw [cN,ho] at this;injection this with h1 h2
      omega
     exact h.apart id p.id hl cj hne b o hf iK
  refine h.next hm hx (fun b o hf=>(h.own p.id cj b o hf).1) (fun _ _ h=>.inl h) ?_ ?_ (fun k=>(h.tmps k).move hm) h.size h.defers
  ·intro j hl hne;by_cases hj:p.id=j
   ·subst hj;refine⟨?_,fun b o hf=>⟨(h.own _ cj b o hf).1,by have:=(h.own _ cj b o hf).2;exact Nat.lt_of_lt_of_le this hx.size⟩,fun ei gu j2=>?_⟩
    ·show ie _ _ _ _ _ (bZ s.o p.id _ p.id);rw [cN];refine⟨a0,dr us p.off vs,hb,hsp,(hcu.dr hc p.off).move hm,?_,fun j hj=>?_⟩
     ·exact r2 cB (fun i hi=>(hwr i (by omega)).1) (by omega)
     ·have:j<old.length:=by simp at hj;omega
      exact⟨hx.qx (hwr j this).1,(hwr j this).2⟩
    ·have d':(s.o ei).live:=by
      have:(bZ s.o p.id _ ei).live:=gu;rwa [cZ j2] at this
     exact h.apart p.id ei cj d' j2
   ·exact absurd ⟨cZ hj,rfl⟩ hne
  ·intro j hl;by_cases hj:p.id=j
   ·subst hj;exact h.dd _ cj
   ·have d':(s.o j).live:=by
     have:(bZ s.o p.id _ j).live:=hl;rwa [cZ hj] at this
    exact h.dd j d'
 | row t em ver xs=>
  rw [ho] at hr av;obtain ⟨i,he,hi,a0,hb,rfl⟩:=av;rw [he] at hr;have cj:(s.o p.id).live:=by rw [ho];trivial
  simp only at hr;cases qH:Nat.ble (p.off+cs.length) t.size
  ·rw [qH] at hr;simp at hr
  rw [qH] at hr;have qH:=Nat.le_of_ble_eq_true qH;obtain ⟨q,hq,hr⟩:=bq hr
  cases oA:q.2.1 with
  | cons=>rw [oA] at hr;simp at hr
  | nil=>
   cases ij:q.2.2.o p.id with
   | none=>rw [oA,ij] at hr;simp at hr
   | dead=>rw [oA,ij] at hr;simp at hr
   | ck=>rw [oA,ij] at hr;simp at hr
   | var=>rw [oA,ij] at hr;simp at hr
   | row t2 acv acw acx=>
    rw [oA,ij] at hr;obtain rfl:=aZ hr;have pF:p.off≤t.size:=by omega
    obtain ⟨us,rest,F1,cI,e1,i1,s1,c1,f1,g1,eb,eS,k1⟩:=ae.xc t em (I t xs i) p.off cs s q vs Z hq pF h hc;rw [oA] at c1
    have ga:rest=[]:=by
     cases rest with
     | nil=>rfl
     | cons=>exact c1.elim
    subst ga;rw [List.append_nil] at e1;subst e1;have hl1:(q.2.2.o p.id).live:=by rw [ij];trivial
    have hst:=(s1.live hl1).2;rw [ho] at hst;have da:=h.f_ p.id;rw [ho] at da;rcases da with⟨rfl,_⟩ | ⟨xa,dP,hrow⟩
    ·simp at hi
    rw [hb] at dP;obtain rfl:=aZ dP;have hin:(i+1)*t.size≤(ι p.id).cap*t.size:=Nat.mul_le_mul_right _ (by have:=hrow.cap;omega);have hin':i*t.size+t.size≤(ι p.id).cap*t.size:=by rw [← Nat.add_one_mul];exact hin
    have hw:∀k,k<vs.length→fC w a0.block (a0.off+i*t.size+p.off+k):=fun k hk=>by have:=(hrow.wr (i*t.size+p.off+k) (by omega)).1;rwa [show a0.off +(i*t.size+p.off+k)=a0.off+i*t.size+p.off+k by omega] at this
    have acy:∀k,k<vs.length→(ι p.id).F a0.block (a0.off+i*t.size+p.off+k):=fun k hk=>by have:=hrow.inF (i*t.size+p.off+k) (by omega);rwa [show a0.off +(i*t.size+p.off+k)=a0.off+i*t.size+p.off+k by omega] at this
    refine⟨_,_,rfl,hw,?_⟩
    let dS:bJ:=⟨(ι p.id).base,(ι p.id).cap,(ι p.id).F.or F1⟩
    let o':cE:=.row t em (ver+1) (xs.set i q.1)
    have hx:Ext w (setCells w a0.block (a0.off+i*t.size+p.off) vs) (ι p.id).F:=oi _ _ _ _ acy
    have hm:eR w cI q.2.2 ι (setCells w a0.block (a0.off+i*t.size+p.off) vs) cI (q.2.2.bV p.id o') (bZ ι p.id dS):=by
     refine⟨fun j=>?_,fun _ _ h=>h,cd.jg hx i1.se ?_⟩
     ·show jf (q.2.2.o j) (ι j) (bZ q.2.2.o p.id o' j) (bZ ι p.id dS j);by_cases hj:p.id=j
      ·subst hj;rw [cN,cN,hst];exact .row _ _ _ _ _ _ _ _ _ (by omega) (by simp) rfl rfl
      ·rw [cZ hj,cZ hj];exact .stay _ _
     ·rintro b o (hz | ⟨id,hl,qE,_,hf⟩) iK
      ·exact i1.dd p.id hl1 b o iK hz
      ·have hne:id≠p.id:=by
        rintro rfl
        have:bZ q.2.2.o p.id o' p.id=q.2.2.o p.id:=qE;rw [cN,hst] at this;injection this with h1 h2 h3
        omega
       exact i1.apart id p.id hl hl1 hne b o hf iK
    have sf:∀ {j},p.id≠j→((q.2.2.bV p.id o').o j).live→(q.2.2.o j).live:=fun hj hl=>by have:(bZ q.2.2.o p.id o' _).live:=hl;rwa [cZ hj] at this
    refine⟨_,_,i1.next hm hx (fun b o hf=>(i1.own p.id hl1 b o hf).1) (fun _ _ h=>.inl h) ?_ ?_ (fun k=>(i1.tmps k).move hm) i1.size i1.defers⟩
    ·intro j hl hne;by_cases hj:p.id=j
     ·subst hj;rw [cN];refine⟨?_,fun b o hf=>?_,fun ei gu j2=>?_⟩
      ·show ie _ _ _ _ _ (bZ q.2.2.o p.id o' p.id);rw [cN];refine .inr ⟨a0,hb,hrow.spot,by simpa [o'] using hrow.cap,fun j hj=>hx.kF (hrow.wr j hj),fun j hj=>.inl (hrow.inF j hj),?_⟩;obtain ⟨G,bH,cm,gQ⟩:=hrow.row
       have R3:cd w (setCells w a0.block (a0.off+i*t.size+p.off) vs) G:=by
        intro b o aI;refine⟨?_,fun _=>acb _ _ _ _ _ _⟩;rw [w7 _ _ _ _ (fun i hi=>(hw i hi).1),if_neg]
        rintro ⟨rfl,h1,h2⟩
        have:=cm (o-a0.off) (by omega);rw [show a0.off +(o-a0.off)=o by omega] at this;exact this aI
       have R4:cd w (setCells w a0.block (a0.off+i*t.size+p.off) vs) cI:=hm.same.mono fun b o hz=>.inl hz
       have acz:cd w (setCells w a0.block (a0.off+i*t.size+p.off) vs) F1:=by refine cd.jg hx (fun b o hf=>(f1.own b o hf).2) fun b o hf iK=>f1.apart p.id hl1 b o hf iK
       refine⟨G.or F1,?_,?_,?_⟩
       ·refine Row.set (w:=w) (R:=t.ar w Z em) i hi bH (fun y us dx hG aT=>ae.ar.same R4 _ _ (R3.mono hG) (ae.ar.mono s1.dO _ _ (fun _ _ h=>h) aT)) ?_ ?_ (fun b o hf aI=>f1.apart p.id hl1 b o hf (gQ b o aI))
        ·intro j hj JV;rw [w7 _ _ _ _ (fun i hi=>(hw i hi).1),if_neg]
         rintro ⟨_,h1,h2⟩
         rw [Nat.add_one_mul] at JV;omega
        ·intro us dx k2 k3 bg bx;refine⟨dr us p.off vs,by rw [Jl (by omega)];exact k3,?_,?_⟩
         ·refine r2 bg (fun k hk=>?_) (by omega);have:=(hrow.wr (i*t.size+k) (by omega)).1;rwa [← Nat.add_assoc] at this
         ·have:=k1 us dx (by rw [c0 hi];exact k2) p.id hl1 (fun b o aI=>gQ b o (bx b o aI));refine ae.ar.same R4 _ _ ?_ this;intro b o aI;rcases aI with aI | aI
          ·exact R3 b o (bx b o aI)
          ·exact acz b o aI
       ·rintro j hj (aI | aI)
        ·exact cm j hj aI
        ·exact f1.apart p.id hl1 _ _ aI (hrow.inF j hj)
       ·rintro b o (aI | aI)
        ·exact .inl (gQ b o aI)
        ·exact .inr aI
      ·rcases hf with hf | hf
       ·exact⟨(i1.own _ hl1 b o hf).1,Nat.lt_of_lt_of_le (i1.own _ hl1 b o hf).2 hx.size⟩
       ·exact⟨(f1.own b o hf).1,Nat.lt_of_lt_of_le (f1.own b o hf).2 hx.size⟩
      ·rw [cZ j2];have d':=sf j2 gu
       rintro b o (hf | hf) iK
       ·exact i1.apart p.id ei hl1 d' j2 b o hf iK
       ·exact f1.apart ei d' b o hf iK
     ·exact absurd ⟨cZ hj,cZ hj⟩ hne
    ·intro j hl;by_cases hj:p.id=j
     ·subst hj;rw [cN]
      rintro b o (hf | hf) hz
      ·exact i1.dd _ hl1 b o hf hz
      ·exact f1.dd b o hf hz
     ·rw [cZ hj];exact i1.dd j (sf hj hl)
 | none=>rw [ho] at hr;simp at hr
 | dead=>rw [ho] at hr;simp at hr
 | ck=>rw [ho] at hr;simp at hr
end
end Go.LM
namespace Go.LM
mutual
def ae.cW:ae→List Value
 | .int k=>[.int k 0]
 | .bool=>[.bool false]
 | .str=>[.string ⟨#[]⟩]
 | .raw=>[.slice none 0 0]
 | .sl _=>[.slice none 0 0]
 | .st ak=>ak.cW
def aC.cW:aC→List Value
 | .nil=>[]
 | .cons t ak=>t.cW++ak.cW
end
def dQ(t:ae)(vs:List Value):Value:=
 match t with
 | .st _=>.agg vs.toArray
 | _=>vs.headD undef
def lY(P:Program)(id:TypeId)(t:ae):Prop:=
 ∃i,P.info? id=some i∧i.size=t.size∧i.zero=some (dQ t t.cW)∧i.bytes≤2048
mutual
def ae.ok(P:Program):ae→TypeId→Prop
 | .int k,id=>P.underlying id=some (.int k)∧lY P id (.int k)
 | .bool,id=>P.underlying id=some .bool∧lY P id .bool
 | .str,id=>P.underlying id=some .string∧lY P id .str
 | .raw,id=>lY P id .raw∧∃e,P.underlying id=some (.slice e)
 | .sl t,id=>lY P id (.sl t)∧∃e,P.underlying id=some (.slice e)∧t.ok P e
 | .st ak,id=>lY P id (.st ak)∧∃cG,P.underlying id=some (.struct cG)∧ak.okF P cG.toList 0
def aC.okF(P:Program):aC→List Field→Nat→Prop
 | .nil,cG,_=>cG=[]
 | .cons t ak,cG,off=>∃f lZ,cG=f :: lZ∧f.offset=off∧t.ok P f.type∧ak.okF P lZ (off+t.size)
end
def ae.agg:ae→Bool
 | .st _=>true
 | _=>false
theorem ae.ok.info{P:Program}{t:ae}{id:TypeId}(h:t.ok P id):lY P id t:=by cases t <;> simp only [ae.ok] at h <;> first | exact h.2 | exact h.1
theorem ae.l0:∀t:ae,t.cW.length=t.size
 | .int _=>rfl
 | .bool=>rfl
 | .str=>rfl
 | .raw=>rfl
 | .sl _=>rfl
 | .st ak=>by simp only [ae.cW,ae.size];exact go ak
where
 go:∀ak:aC,ak.cW.length=ak.size
 | .nil=>rfl
 | .cons t ak=>by simp only [aC.cW,aC.size,List.length_append,ae.l0 t,go ak]
section
variable{P:Program}{t:ae}{id:TypeId}{w:World}
theorem run_underlying{d:TypeDesc}(h:P.underlying id=some d):(underlying id).run P w=.ok d w:=by simp [underlying,run_bind,program,Sem.run,h,run_pure]
theorem run_typeInfo{i:TypeInfo}(h:P.info? id=some i):(typeInfo id).run P w=.ok i w:=by simp [typeInfo,run_bind,program,Sem.run,h,run_pure]
theorem run_sizeOf(h:t.ok P id):(sizeOf id).run P w=.ok t.size w:=by obtain ⟨i,h1,h2,_⟩:=h.info;simp [sizeOf,run_bind,run_typeInfo h1,run_pure,h2]
theorem CK(h:t.ok P id):(zeroValue id).run P w=.ok (dQ t t.cW) w:=by obtain ⟨i,h1,_,h3,_⟩:=h.info;simp [zeroValue,run_bind,run_typeInfo h1,run_pure,h3]
theorem R5(h:t.ok P id):(isAgg id).run P w=.ok t.agg w:=by
 unfold isAgg
 cases t with
 | st ak=>obtain ⟨_,cG,h1,_⟩:=(by simpa only [ae.ok] using h:lY P id (.st ak)∧∃cG,P.underlying id=some (.struct cG)∧ak.okF P cG.toList 0);rw [run_bind,run_underlying h1];rfl
 | sl t=>obtain ⟨_,e,h1,_⟩:=(by simpa only [ae.ok] using h:lY P id (.sl t)∧∃e,P.underlying id=some (.slice e)∧t.ok P e);rw [run_bind,run_underlying h1];rfl
 | raw=>obtain ⟨_,e,h1⟩:=(by simpa only [ae.ok] using h:lY P id .raw∧∃e,P.underlying id=some (.slice e));rw [run_bind,run_underlying h1];rfl
 | int k=>have h1:=(by simpa only [ae.ok] using h:P.underlying id=some (.int k)∧lY P id (.int k));rw [run_bind,run_underlying h1.1];rfl
 | bool=>have h1:=(by simpa only [ae.ok] using h:P.underlying id=some .bool∧lY P id .bool);rw [run_bind,run_underlying h1.1];rfl
 | str=>have h1:=(by simpa only [ae.ok] using h:P.underlying id=some .string∧lY P id .str);rw [run_bind,run_underlying h1.1];rfl
theorem J0(h:t.agg=false):t.size=1:=by cases t <;> simp_all [ae.agg,ae.size]
theorem J1(h:t.agg=true)(vs:List Value):dQ t vs=.agg vs.toArray:=by cases t <;> simp_all [ae.agg,dQ]
theorem J2(h:t.agg=false)(v:Value):dQ t [v]=v:=by cases t <;> simp_all [ae.agg,dQ]
theorem J3(h:t.ok P id){b o:Nat}{vs:List Value}(hc:ca w b o vs)(hl:vs.length=t.size):(loadVar id (at_ b o)).run P w=.ok (dQ t vs) w:=by
 unfold loadVar;rw [run_bind,R5 h];simp only;cases ha:t.agg
 ·rw [J0 ha] at hl
  match vs,hl with
  | [v],_=>rw [J2 ha];simp only [Bool.false_eq_true,if_false];exact run_load hc.head
 ·simp only [if_true];rw [run_bind,run_sizeOf h,← hl];simp only;rw [run_bind,run_loadCells hc,J1 ha];rfl
theorem J4{v:Value}(h:ek v=true):v.cells = #[v]:=by cases v <;> simp_all [ek,Value.cells]
theorem J5(h:t.ok P id){b o:Nat}{v:Value}(hl:v.cells.size=t.size)(h1:∀u∈v.cells.toList,ek u=true)(hw:∀i,i<v.cells.size→fC w b (o+i)) :
  (storeVar id (at_ b o) v).run P w=.ok () (setCells w b o v.cells.toList):=by
 unfold storeVar;rw [run_bind,run_sizeOf h];simp only;rw [if_neg (by simp [hl])];have:=Cr (P:=P) (b:=b) (o:=o) v.cells.toList w 0 h1 (fun i hi=>by simpa using hw i (by simpa using hi));simpa using this
theorem R6{e:TypeId}{v:Value} :(newVar e v).run P w=.ok (at_ w.heap.size 0) { w with heap:=w.heap.push (.cells v.cells e) }:= by simp [newVar,newRow,Go.newObj,run_bind,Sem.run,run_pure,at_]
end
section
variable{w0:World}{F0 Z0:ai}{n:cO}{s au:aq}{a cg:Act}{w w':World}{ι bp:Nat→bJ}{Z Z':ai}
theorem sg{t:ae}{x:a_}{cs:List bd}{v:Value}(h:ja t x=some cs)(hv:aV w Z s ι x v):bN w Z s ι cs v.cells.toList:=by
 cases x <;> simp only [ja] at h <;> try (simp at h;done)
 ·obtain rfl:=aZ h;simp only [aV] at hv;rw [J4 hv.ek];exact⟨hv,trivial⟩
 ·obtain rfl:=aZ h;simp only [aV] at hv;obtain ⟨vs,rfl,hc⟩:=hv;simpa [Value.cells] using hc
 ·cases t <;> simp at h
  subst h;simp only [aV] at hv;subst hv;exact⟨rfl,trivial⟩
theorem pI{t:ae}{x:a_}{cs:List bd}{vs:List Value}(h:ke t cs=some x)(hc:bN w Z s ι cs vs):aV w Z s ι x (dQ t vs):=by
 cases t with
 | st ak=>simp only [ke] at h;obtain rfl:=aZ h;simp only [aV,dQ];exact⟨vs,rfl,hc⟩
 | _=>
  simp only [ke] at h
  match cs,vs,hc with
  | [],[],_=>simp at h
  | [c],[v],hc=>simp at h;subst h;simp only [aV,dQ];exact hc.1
  | _ :: _ :: _,_,_=>simp at h
theorem sh:∀t:ae,bN w Z s ι t.jE t.cW
 | .int _=>⟨rfl,trivial⟩
 | .bool=>⟨rfl,trivial⟩
 | .str=>⟨⟨_,rfl,rfl⟩,trivial⟩
 | .raw=>⟨⟨rfl,_,_,_,rfl⟩,trivial⟩
 | .sl _=>⟨rfl,trivial⟩
 | .st ak=>by simp only [ae.jE,ae.cW];exact go ak
where
 go:∀ak:aC,bN w Z s ι ak.jE ak.cW
 | .nil=>trivial
 | .cons t ak=>by simp only [aC.jE,aC.cW];exact(sh t).append (go ak)
theorem J6{t:ae}{vs:List Value}(hl:vs.length=t.size)(h1:∀v∈vs,ek v=true):(dQ t vs).cells.toList=vs:=by
 cases ha:t.agg
 ·rw [J0 ha] at hl
  match vs,hl with
  | [v],_=>rw [J2 ha,J4 (h1 v (by simp))]
 ·rw [J1 ha];simp [Value.cells]
theorem Inv.newVar(h:Inv w0 F0 Z0 n s a w ι Z){id:Nat}(cf:s.o id=.none){cs:List bd}{vs:Array Value}(hc:bN w Z s ι cs vs.toList)(e:TypeId) :
  Inv w0 F0 Z0 n (s.bV id (.var 0 cs)) a { w with heap:=w.heap.push (.cells vs e) } (bZ ι id ⟨some (at_ w.heap.size 0),0,ai.run w.heap.size 0 cs.length⟩) Z:=by
 have hx:=Ext.push w (.cells vs e) ai.none;have hm:=RT h cf hx (.var 0 cs) ⟨some (at_ w.heap.size 0),0,ai.run w.heap.size 0 cs.length⟩;have hl:=hc.len;refine h.new cf hx ?_ ?_
 ·refine⟨at_ w.heap.size 0,vs.toList,rfl,rfl,hc.move hm,?_,fun j hj=>⟨⟨?_,?_⟩,rfl,by simp [at_],by simpa [at_] using hj⟩⟩
  ·intro i v hv;show World.cell? _ (at_ w.heap.size (0+i))=_;rw [RO];simpa using hv
  ·refine⟨vs[j]'(by simp at hl;omega),?_⟩;show World.cell? _ (at_ w.heap.size (0+j))=_;rw [RO];simp
  ·show World.frozen? _ (at_ w.heap.size (0+j))=_;rw [qy,RN];simp
 ·rintro b o ⟨rfl,_,_⟩;simp
end
end Go.LM
