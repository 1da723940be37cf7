/- The data and the interpreter of the reflective walk, and how its states stand for frames and worlds. Conditions: each theorem's own hypotheses. -/
import Derived.Calls
import Derived.KernelRfl
import Derived.Orders
set_option linter.unusedVariables false
set_option linter.unusedSimpArgs false
namespace Go.LM
theorem al.{u,v}{α:Type u}{β:Type v}(a:α)(f:α→Option β):(some a).bind f=f a:=rfl
theorem aW.{u}{α:Type u}{a b:α}(h:some a=some b):a=b:=_root_.Option.some.inj h
theorem bd.{u,v}{α:Type u}{β:Type v}{o:Option α}{f:α→Option β}{b:β}(h:o.bind f=some b):∃a,o=some a∧f a=some b:=_root_.Option.bind_eq_some_iff.1 h
mutual
inductive ad where
 | int (k:IntKind)
 | bool
 | str
 | sl (t:ad)
 | st (ak:aA)
 | raw
inductive aA where
 | nil
 | cons (t:ad) (ak:aA)
end
mutual
@[reducible] def ad.D:ad→Type
 | .int _=>Int
 | .bool=>Bool
 | .str=>List UInt8
 | .sl t=>List t.D
 | .st ak=>ak.D
 | .raw=>Value
@[reducible] def aA.D:aA→Type
 | .nil=>Unit
 | .cons t ak=>t.D×ak.D
end
def dx:IntKind→Nat
 | .i8=>0 | .i16=>1 | .i32=>2 | .i64=>3 | .u8=>4 | .u16=>5 | .u32=>6 | .u64=>7
theorem uA:∀ {a b:IntKind},dx a=dx b→a=b:=by intro a b;cases a <;> cases b <;> simp [dx]
mutual
def ad.beq:ad→ad→Bool
 | .int a,.int b=>Nat.beq (dx a) (dx b)
 | .bool,.bool=>true
 | .str,.str=>true
 | .sl a,.sl b=>ad.beq a b
 | .st a,.st b=>aA.beq a b
 | .raw,.raw=>true
 | _,_=>false
def aA.beq:aA→aA→Bool
 | .nil,.nil=>true
 | .cons a as,.cons b bt=>cond (ad.beq a b) (aA.beq as bt) false
 | _,_=>false
end
mutual
theorem ad.eq_of_beq:∀(a b:ad),ad.beq a b=true→a=b
 | .int a,.int b,h=>by simp only [ad.beq] at h;rw [uA (Nat.eq_of_beq_eq_true h)]
 | .bool,.bool,_=>rfl
 | .str,.str,_=>rfl
 | .sl a,.sl b,h=>by simp only [ad.beq] at h;rw [ad.eq_of_beq a b h]
 | .st a,.st b,h=>by simp only [ad.beq] at h;rw [aA.eq_of_beq a b h]
 | .raw,.raw,_=>rfl
 | .int _,.bool,h | .int _,.str,h | .int _,.sl _,h | .int _,.st _,h | .int _,.raw,h=>by simp [ad.beq] at h
 | .bool,.int _,h | .bool,.str,h | .bool,.sl _,h | .bool,.st _,h | .bool,.raw,h=>by simp [ad.beq] at h
 | .str,.int _,h | .str,.bool,h | .str,.sl _,h | .str,.st _,h | .str,.raw,h=>by simp [ad.beq] at h
 | .sl _,.int _,h | .sl _,.bool,h | .sl _,.str,h | .sl _,.st _,h | .sl _,.raw,h=>by simp [ad.beq] at h
 | .st _,.int _,h | .st _,.bool,h | .st _,.str,h | .st _,.sl _,h | .st _,.raw,h=>by simp [ad.beq] at h
 | .raw,.int _,h | .raw,.bool,h | .raw,.str,h | .raw,.sl _,h | .raw,.st _,h=>by simp [ad.beq] at h
theorem aA.eq_of_beq:∀(a b:aA),aA.beq a b=true→a=b
 | .nil,.nil,_=>rfl
 | .cons a as,.cons b bt,h=>by
  simp only [aA.beq] at h;cases hb:ad.beq a b
  ·rw [hb] at h;simp at h
  ·rw [hb] at h;rw [ad.eq_of_beq a b hb,aA.eq_of_beq as bt h]
 | .nil,.cons _ _,h | .cons _ _,.nil,h=>by simp [aA.beq] at h
end
def eR(a b:ad)(x:a.D):Option b.D:=
 if h:ad.beq a b=true then some ((ad.eq_of_beq a b h) ▸ x) else none
theorem C_{a b:ad}{x:a.D}{y:b.D}(h:eR a b x=some y):∃e:a=b,y=e ▸ x:=by
 unfold eR at h;split at h
 ·rename_i hb;exact⟨ad.eq_of_beq a b hb,by injection h with h;exact h.symm⟩
 ·simp at h
mutual
def ad.size:ad→Nat
 | .st ak=>ak.size
 | _=>1
def aA.size:aA→Nat
 | .nil=>0
 | .cons t ak=>t.size+ak.size
end
mutual
def ad.zero:(t:ad)→t.D
 | .int _=>(0:Int)
 | .bool=>false
 | .str=>([]:List UInt8)
 | .sl t=>([]:List t.D)
 | .st ak=>ak.zero
 | .raw=>(.slice none 0 0:Value)
def aA.zero:(ak:aA)→ak.D
 | .nil=>()
 | .cons t ak=>(t.zero,ak.zero)
end
mutual
inductive bg where
 | R
 | O (e:bg)
 | S (ms:c3)
inductive c3 where
 | nil
 | cons (m:bg) (ms:c3)
end
mutual
def bg.beq:bg→bg→Bool
 | .R,.R=>true
 | .O a,.O b=>bg.beq a b
 | .S a,.S b=>c3.beq a b
 | _,_=>false
def c3.beq:c3→c3→Bool
 | .nil,.nil=>true
 | .cons a as,.cons b bt=>cond (bg.beq a b) (c3.beq as bt) false
 | _,_=>false
end
mutual
theorem bg.eq_of_beq:∀(a b:bg),bg.beq a b=true→a=b
 | .R,.R,_=>rfl
 | .O a,.O b,h=>by simp only [bg.beq] at h;rw [bg.eq_of_beq a b h]
 | .S a,.S b,h=>by simp only [bg.beq] at h;rw [c3.eq_of_beq a b h]
 | .R,.O _,h | .R,.S _,h | .O _,.R,h | .O _,.S _,h | .S _,.R,h | .S _,.O _,h=>by simp [bg.beq] at h
theorem c3.eq_of_beq:∀(a b:c3),c3.beq a b=true→a=b
 | .nil,.nil,_=>rfl
 | .cons a as,.cons b bt,h=>by
  simp only [c3.beq] at h;cases hb:bg.beq a b
  ·rw [hb] at h;simp at h
  ·rw [hb] at h;rw [bg.eq_of_beq a b hb,c3.eq_of_beq as bt h]
 | .nil,.cons _ _,h | .cons _ _,.nil,h=>by simp [c3.beq] at h
end
def bg.elem:bg→bg
 | .O e=>e
 | _=>.R
def c3.af:c3→bg
 | .cons m _=>m
 | .nil=>.R
def c3.dC:c3→c3
 | .cons _ ms=>ms
 | .nil=>.nil
def bg.parts:bg→c3
 | .S ms=>ms
 | _=>.nil
structure Place where
 id:Nat
 fF:Option Nat
 off:Nat
inductive bb where
 | int (k:IntKind) (x:Int)
 | bool (b:Bool)
 | str (s:List UInt8)
 | raw (v:Value)
 | nil (t:ad)
 | bM (t:ad) (ati:List (Nat×Nat)) (atj:Option Place) (xs:List t.D)
 | af (id:Nat) (sub:Option (Nat×Nat))
inductive ba where
 | aB
 | gone
 | aV (c:bb)
 | iK (cs:List bb)
 | ptr (p:Place)
 | du (dp:List (Nat×Nat)) (cs:List bb) (off:Nat)
 | kg
 | lh
 | opt (id:Nat) (o:Int)
 | sr (t:ad)
 | may (b:Bool) (dp:List (Nat×Nat)) (cs:List bb)
 | fn (f:FuncId) (first lR:List ba)
 | pM (l:List ba)
inductive cB where
 | none
 | dead
 | var (ver:Nat) (cs:List bb)
 | row (t:ad) (em:bg) (ver:Nat) (xs:List t.D)
 | cm (o:cB)
def cB.core:cB→cB
 | .cm o=>o
 | o=>o
structure ar where
 t:Nat→ba
 o:Nat→cB
 g:List ba
def bW{α : Type}(f:Nat → α)(i:Nat)(v : α):Nat → α := fun j=>cond (Nat.beq j i) v (f j)
theorem cL{α : Type}(f:Nat → α)(i:Nat)(v : α):bW f i v i=v:=by simp [bW]
theorem su{α : Type}{f:Nat → α}{i j:Nat}{v : α}(h:j≠i):bW f i v j=f j:=by
 unfold bW
 have:Nat.beq j i=false:=by
  cases hb:Nat.beq j i
  ·rfl
  ·exact absurd (Nat.eq_of_beq_eq_true hb) h
 rw [this];rfl
def ar.set(s:ar)(d:Nat)(v:ba):ar:=⟨bW s.t d v,s.o,s.g⟩
def ar.bV(s:ar)(i:Nat)(v:cB):ar:=⟨s.t,bW s.o i v,s.g⟩
def ar.dst(s:ar)(d:Option Nat)(v:ba):ar:=
 match d with
 | some d=>s.set d v
 | none=>s
mutual
def ad.cells:(t:ad)→List (Nat×Nat)→Option Place→t.D→List bb
 | .int k,_,_,x=>[.int k x]
 | .bool,_,_,x=>[.bool x]
 | .str,_,_,x=>[.str x]
 | .sl t,dp,cI,x=>[.bM t dp cI x]
 | .st ak,dp,cI,x=>ak.cells dp cI x
 | .raw,_,_,x=>[.raw x]
def aA.cells:(ak:aA)→List (Nat×Nat)→Option Place→ak.D→List bb
 | .nil,_,_,_=>[]
 | .cons t ak,dp,cI,x=>t.cells dp cI x.1++ak.cells dp (cI.map fun p=> { p with off:=p.off+t.size }) x.2
end
mutual
def ad.jH:ad→List bb
 | .int k=>[.int k 0]
 | .bool=>[.bool false]
 | .str=>[.str []]
 | .sl t=>[.nil t]
 | .st ak=>ak.jH
 | .raw=>[.raw (.slice none 0 0)]
def aA.jH:aA→List bb
 | .nil=>[]
 | .cons t ak=>t.jH++ak.jH
end
mutual
def ad.own:ad→bg
 | .sl t=>.O t.own
 | .st ak=>if ak.flat then .R else .S ak.own
 | _=>.R
def aA.own:aA→c3
 | .nil=>.nil
 | .cons t ak=>.cons t.own ak.own
def ad.flat:ad→Bool
 | .sl _=>false
 | .st ak=>ak.flat
 | _=>true
def aA.flat:aA→Bool
 | .nil=>true
 | .cons t ak=>cond t.flat ak.flat false
end
def bg.le(a b:bg):Bool:=
 match b with
 | .R=>true
 | _=>bg.beq a b
end Go.LM
namespace Go.LM
def room(n:Nat):Bool:=Nat.ble n 68719476736
def jZ{bB : Type}(b:Bool)(x:Option bB):Option bB:= cond b x none
def ix(n:Nat)(i:Int):Option Nat:=if 0≤i∧i<(n:Int) then some i.toNat else none
def dh(n:Nat)(lo hi:Int):Option (Nat×Nat):=if 0≤lo∧lo≤hi∧hi≤(n:Int) then some (lo.toNat,hi.toNat) else none
def I(t:ad)(xs:List t.D)(n:Nat):t.D:=xs.getD n t.zero
def part{α : Type}(l:List α)(lo len:Nat):List α :=(l.drop lo).take len
def ax(x:Int):Int:=IntKind.wrap .i64 x
def cY(op:BinOp)(k:IntKind)(x y:Int):Int:=
 let a:=BitVec.ofInt k.bits x
 let b:=BitVec.ofInt k.bits y
 match op with
 | .and=>k.wrap (a &&& b).toNat
 | .or=>k.wrap (a ||| b).toNat
 | .xor=>k.wrap (a ^^^ b).toNat
 | _=>k.wrap (a &&& ~~~b).toNat
def bw(x y:List UInt8):Bool:=decide (x=y)
def eg(x y:List UInt8):Bool:=Op.bytesLess x y
def ady(x y:Int):Int:=if y>x then y else x
def j0(x y:Int):Int:=if y<x then y else x
def eM(s:List UInt8):List Int:=s.map fun b=>(b.toNat:Int)
def eS(l:List Int):List UInt8:=l.map fun n=>UInt8.ofNat n.toNat
inductive bD where
 | val (t:ad) (m:bg)
 | ref (t:ad)
 | mut (t:ad) (m m':bg)
 | hg (t:ad) (m:bg)
 | fn (mz pN:Nat)
 | hV (t:ad)
inductive c4 where
 | val (t:ad) (m:bg)
 | opt (arg off:Nat) (t:ad)
 | new (t:ad) (m:bg)
 | pO (t:ad)
 | any (t:ad)
def bD.ins:List bD→aA
 | []=>.nil
 | .val t _ :: l | .ref t :: l | .mut t _ _ :: l | .hg t _ :: l | .hV t :: l=>.cons t (bD.ins l)
 | .fn _ _ :: l=>bD.ins l
def c4.outs:List c4→aA→aA
 | [],ak=>ak
 | .val t _ :: l,ak=>.cons t (c4.outs l ak)
 | .new t _ :: l,ak=>.cons t (c4.outs l ak)
 | .pO t :: l,ak=>.cons (.sl t) (c4.outs l ak)
 | .any _ :: l,ak=>c4.outs l ak
 | .opt _ _ _ :: l,ak=>.cons (.int .i64) (c4.outs l ak)
def bD.ef:List bD→aA
 | []=>.nil
 | .mut t _ _ :: l | .hg t _ :: l=>.cons t (bD.ef l)
 | _ :: l=>bD.ef l
structure Entry where
 ps:List bD
 rs:List c4
 f:(bD.ins ps).D→Option (c4.outs rs (bD.ef ps)).D
structure Env where
 n:Nat
 ty:Nat→Option ad
 Kh:Nat→Bool
 uB:Nat→Bool
 fns:FuncId→FuncId→Option Entry
def lj{α : Type}(sub:Option (Nat×Nat))(xs:List α):List α :=
 match sub with
 | none=>xs
 | some (lo,len)=>part xs lo len
def lS{α : Type}(sub:Option (Nat×Nat))(xs:List α):Nat:=
 match sub with
 | none=>xs.length
 | some (_,len)=>len
def eB(sub:Option (Nat×Nat)):Nat:=
 match sub with
 | none=>0
 | some (lo,_)=>lo
def alive(s:ar):List (Nat×Nat)→Bool
 | []=>true
 | (i,v) :: l=>match s.o i with
  | .row _ _ w _=>cond (Nat.beq w v) (alive s l) false
  | .var w _=>cond (Nat.beq w v) (alive s l) false
  | _=>false
def kM(s:ar)(id:Nat):Nat:=
 match s.o id with
 | .row _ _ v _=>v
 | .var v _=>v
 | .cm (.row _ _ v _)=>v
 | .cm (.var v _)=>v
 | _=>0
def pP(s:ar)(t:ad):bb→Option (List t.D)
 | .nil u=>eR (.sl u) (.sl t) ([]:List u.D)
 | .bM u dp _ xs=>cond (alive s dp) (eR (.sl u) (.sl t) xs) none
 | .af id sub=>match s.o id with
  | .row u _ _ xs=>eR (.sl u) (.sl t) (lj sub xs)
  | _=>none
 | _=>none
def borrows(s:ar):bb→List (Nat×Nat)
 | .af id _=>match s.o id with
  | .row _ _ v _=>[(id,v)]
  | _=>[]
 | .bM _ dp _ _=>dp
 | _=>[]
mutual
def ad.imp:(t:ad)→(b:Bool)→bg→List bb→ar→List (Nat×Nat)→Option (t.D×List bb×ar×List (Nat×Nat))
 | .int k,_,_,.int k' x :: cs,s,bt=>cond (Nat.beq (dx k) (dx k')) (some (x,cs,s,bt)) none
 | .bool,_,_,.bool x :: cs,s,bt=>some (x,cs,s,bt)
 | .str,_,_,.str x :: cs,s,bt=>some (x,cs,s,bt)
 | .raw,_,_,.raw x :: cs,s,bt=>some (x,cs,s,bt)
 | .sl t,b,.O e,c :: cs,s,bt=>match c with
  | .nil u=>(eR (.sl u) (.sl t) ([]:List u.D)).bind fun x=>some (x,cs,s,bt)
  | .af id sub=>match s.o id with
   | .row u em _ xs=>cond (bg.le em e) ((eR (.sl u) (.sl t) (lj sub xs)).bind fun x=>some (x,cs,s.bV id .dead,bt)) none
   | _=>none
  | _=>none
 | .sl t,true,_,c :: cs,s,bt=>(pP s t c).bind fun x=>some (x,cs,s,borrows s c++bt)
 | .sl t,false,_,c :: cs,s,bt=>match c with
  | .nil u=>(eR (.sl u) (.sl t) ([]:List u.D)).bind fun x=>some (x,cs,s,bt)
  | .bM u [] _ xs=>(eR (.sl u) (.sl t) xs).bind fun x=>some (x,cs,s,bt)
  | .af id sub=>match s.o id with
   | .row u _ _ xs=>(eR (.sl u) (.sl t) (lj sub xs)).bind fun x=>some (x,cs,s.bV id .dead,bt)
   | _=>none
  | _=>none
 | .st ak,b,m,cs,s,bt=>ak.imp b m.parts cs s bt
 | _,_,_,_,_,_=>none
def aA.imp:(ak:aA)→(b:Bool)→c3→List bb→ar→List (Nat×Nat)→Option (ak.D×List bb×ar×List (Nat×Nat))
 | .nil,_,_,cs,s,bt=>some ((),cs,s,bt)
 | .cons t ak,b,m,cs,s,bt=>(t.imp b m.af cs s bt).bind fun r=>(ak.imp b m.dC r.2.1 r.2.2.1 r.2.2.2).bind fun q=>some ((r.1,q.1),q.2)
end
mutual
def ad.put:(t:ad)→bg→t.D→Nat→List bb→ar→Option (t.D×List bb×ar)
 | t,m,x,skip,cs,s=>
  match cs with
  | []=>some (x,[],s)
  | c :: cs'=>
   cond (Nat.beq skip 0&&Nat.ble t.size (cs'.length+1)) ((t.imp false m (c :: cs') s []).bind fun r=>some (r.1,r.2.1,r.2.2.1))
    (match t,x with
     | .st ak,x=>ak.put m.parts x skip (c :: cs') s
     | _,_=>none)
def aA.put:(ak:aA)→c3→ak.D→Nat→List bb→ar→Option (ak.D×List bb×ar)
 | .nil,_,_,_,cs,s=>some ((),cs,s)
 | .cons t ak,m,x,skip,cs,s=>
  cond (Nat.ble t.size skip) ((ak.put m.dC x.2 (skip-t.size) cs s).bind fun q=>some ((x.1,q.1),q.2))
   ((t.put m.af x.1 skip cs s).bind fun r=>(ak.put m.dC x.2 0 r.2.1 r.2.2).bind fun q=>some ((r.1,q.1),q.2))
end
mutual
def ad.hW:(t:ad)→bg→List (Nat×Nat)→t.D→ar→Nat→Option (List bb×ar×Nat)
 | .int k,_,_,x,s,j=>some ([.int k x],s,j)
 | .bool,_,_,x,s,j=>some ([.bool x],s,j)
 | .str,_,_,x,s,j=>some ([.str x],s,j)
 | .raw,_,_,x,s,j=>some ([.raw x],s,j)
 | .sl t,.O e,dp,x,s,j=>cond (dp.isEmpty||bg.beq e t.own) (match s.o j with
  | .none=>some ([.af j none],s.bV j (.row t e 0 x),j+1)
  | _=>none) none
 | .sl t,_,dp,x,s,j=>some ([.bM t dp none x],s,j)
 | .st ak,m,dp,x,s,j=>ak.hW m.parts dp x s j
def aA.hW:(ak:aA)→c3→List (Nat×Nat)→ak.D→ar→Nat→Option (List bb×ar×Nat)
 | .nil,_,_,_,s,j=>some ([],s,j)
 | .cons t ak,m,dp,x,s,j=>(t.hW m.af dp x.1 s j).bind fun r=>(ak.hW m.dC dp x.2 r.2.1 r.2.2).bind fun q=>some (r.1++q.1,q.2)
end
mutual
def ad.zP:(t:ad)→ar→List bb→bg×List bb
 | .sl t,s,c :: cs=>(match c with
  | .nil _=>.O t.own
  | .af id _=>match s.o id with
   | .row _ em _ _=>.O em
   | _=>.R
  | _=>.R,cs)
 | .st ak,s,cs=>cond ak.flat (.R,cs.drop ak.size) (let r:=ak.zP s cs;(.S r.1,r.2))
 | _,_,cs=>(.R,cs.drop 1)
def aA.zP:(ak:aA)→ar→List bb→c3×List bb
 | .nil,_,cs=>(.nil,cs)
 | .cons t ak,s,cs=>let r:=t.zP s cs;let q:=ak.zP s r.2;(.cons r.1 q.1,q.2)
end
def takeN(off n:Nat)(cs:List bb):Option (List bb):=
 cond (Nat.ble (off+n) cs.length) (some (part cs off n)) none
def Ki(t:ad)(em:bg)(id ver i:Nat)(x:t.D):List bb:=
 match em with
 | .R=>t.cells [] none x
 | _=>t.cells [(id,ver)] (some ⟨id,some i,0⟩) x
def mA(s:ar)(n:Nat)(p:Place):Option (List bb):=
 match s.o p.id,p.fF with
 | .var _ cs,none=>takeN p.off n cs
 | .row t em ver xs,some i=>takeN p.off n (Ki t em p.id ver i (I t xs i))
 | _,_=>none
def C'(s:ar)(p:Place)(cs:List bb):Option ar:=
 match s.o p.id,p.fF with
 | .var ver old,none=>cond (Nat.ble (p.off+cs.length) old.length) (some (s.bV p.id (.var (ver+1) (old.take p.off++cs++old.drop (p.off+cs.length))))) none
 | .row t em ver xs,some i=>
  cond (Nat.ble (p.off+cs.length) t.size) ((t.put em (I t xs i) p.off cs s).bind fun r=>
   match r.2.1,r.2.2.o p.id with
   | [],.row _ _ _ _=>some (r.2.2.bV p.id (.row t em (ver+1) (xs.set i r.1)))
   | _,_=>none) none
 | _,_=>none
def kh(t:ad)(cs:List bb):Option ba:=
 match t with
 | .st _=>some (.iK cs)
 | _=>match cs with
  | [c]=>some (.aV c)
  | _=>none
def je(t:ad):ba→Option (List bb)
 | .aV c=>some [c]
 | .iK cs=>some cs
 | .lh=>match t with
  | .sl u=>some [.nil u]
  | _=>none
 | _=>none
def Kj:Value→ba
 | .int k n=>.aV (.int k n)
 | .bool b=>.aV (.bool b)
 | .string b=>.aV (.str b.data.toList)
 | .slice none 0 0=>.lh
 | .pointer none=>.kg
 | _=>.aB
def bZ(s:ar):Operand→ba
 | .tmp t=>s.t t
 | .const v=>Kj v
 | .func f=>.fn f [] []
 | .global _=>.aB
def typed(E:Env)(t:Nat):ba→Option ba
 | .aB=>none
 | .gone=>none
 | .lh=>match E.ty t with
  | some (.sl u)=>some (.aV (.nil u))
  | _=>none
 | v=>some v
def kN:ba→Option Int
 | .aV (.int _ n)=>some n
 | _=>none
end Go.LM
namespace Go.LM
def oG(s:ar):bb→Option Nat
 | .nil _=>some 0
 | .bM _ dp _ xs=>cond (alive s dp) (some xs.length) none
 | .af id sub=>match s.o id with
  | .row _ _ _ xs=>some (lS sub xs)
  | _=>none
 | .str x=>some x.length
 | _=>none
mutual
def ad.cmp:ad→List bb→List bb→Option (Bool×List bb×List bb)
 | .int k,.int k1 x :: a,.int k2 y :: b=>cond (Nat.beq (dx k1) (dx k)&&Nat.beq (dx k2) (dx k)) (some (x==y,a,b)) none
 | .bool,.bool x :: a,.bool y :: b=>some (x==y,a,b)
 | .str,.str x :: a,.str y :: b=>some (bw x y,a,b)
 | .st ak,a,b=>ak.cmp a b
 | _,_,_=>none
def aA.cmp:aA→List bb→List bb→Option (Bool×List bb×List bb)
 | .nil,a,b=>some (true,a,b)
 | .cons t ak,a,b=>(t.cmp a b).bind fun r=>(ak.cmp r.2.1 r.2.2).bind fun q=>some (r.1&&q.1,q.2)
end
def Da(op:BinOp)(k:IntKind)(x y:Int):Option ba:=
 match op with
 | .add=>some (.aV (.int k (k.wrap (x+y))))
 | .sub=>some (.aV (.int k (k.wrap (x-y))))
 | .mul=>some (.aV (.int k (k.wrap (x*y))))
 | .and=>some (.aV (.int k (cY .and k x y)))
 | .or=>some (.aV (.int k (cY .or k x y)))
 | .xor=>some (.aV (.int k (cY .xor k x y)))
 | .andNot=>some (.aV (.int k (cY .andNot k x y)))
 | .eql=>some (.aV (.bool (x==y)))
 | .neq=>some (.aV (.bool (x != y)))
 | .lss=>some (.aV (.bool (decide (x<y))))
 | .leq=>some (.aV (.bool (decide (x≤y))))
 | .gtr=>some (.aV (.bool (decide (x>y))))
 | .geq=>some (.aV (.bool (decide (x≥y))))
 | _=>none
def Db(op:BinOp)(x y:List UInt8):Option ba:=
 match op with
 | .eql=>some (.aV (.bool (bw x y)))
 | .neq=>some (.aV (.bool (!bw x y)))
 | .lss=>some (.aV (.bool (eg x y)))
 | .leq=>some (.aV (.bool (eg x y||bw x y)))
 | .gtr=>some (.aV (.bool (!(eg x y||bw x y))))
 | .geq=>some (.aV (.bool (!eg x y)))
 | _=>none
section
variable{bB : Type}
def lift(x:Option ba)(K:ba→Option bB):Option bB:=
 match x with
 | some v=>K v
 | none=>none
open Classical in
noncomputable def both(a b:Option bB):Option bB:= if a=b then a else none
noncomputable def Dc(b:Bool)(x y:Option bB):Option bB:= cond b (both x y) y
noncomputable def lk(E:Env)(ty:Nat)(op:BinOp)(x y:ba)(K:ba→Option bB):Option bB:=
 match x,y with
 | .aV (.int k a),.aV (.int k' b)=>
  match op with
  | .shl=>jZ (decide (0≤b)) (K (.aV (.int k (k.wrap (a*2 ^ min b.toNat k.bits)))))
  | .shr=>jZ (decide (0≤b)) (K (.aV (.int k (a.fdiv (2 ^ min b.toNat k.bits)))))
  | .quo=>cond (Nat.beq (dx k) (dx k')) (jZ (b != 0) (K (.aV (.int k (k.wrap (a.tdiv b)))))) none
  | .rem=>cond (Nat.beq (dx k) (dx k')) (jZ (b != 0) (K (.aV (.int k (a.tmod b))))) none
  | _=>cond (Nat.beq (dx k) (dx k')) (lift (Da op k a b) K) none
 | .aV (.str a),.aV (.str b)=>
  match op with
  | .add=>jZ (room (a.length+b.length)) (K (.aV (.str (a++b))))
  | _=>lift (Db op a b) K
 | .aV (.bool a),.aV (.bool b)=>
  match E.ty ty,op with
  | some .bool,.eql=>K (.aV (.bool (a==b)))
  | some .bool,.neq=>K (.aV (.bool (!(a==b))))
  | _,_=>none
 | .iK a,.iK b=>
  cond (E.Kh ty) (match E.ty ty with
  | some T=>(match op,T.cmp a b with
   | .eql,some (r,[],[])=>K (.aV (.bool r))
   | .neq,some (r,[],[])=>K (.aV (.bool (!r)))
   | _,_=>none)
  | none=>none) none
 | .aV (.bM _ [] _ xs),.lh=>
  match E.ty ty,op with
  | some (.sl _),.eql=>Dc xs.isEmpty (K (.aV (.bool true))) (K (.aV (.bool false)))
  | some (.sl _),.neq=>Dc xs.isEmpty (K (.aV (.bool false))) (K (.aV (.bool true)))
  | _,_=>none
 | .opt _ o,.kg=>
  match E.uB ty,op with
  | true,.eql=>K (.aV (.bool (decide (o<0))))
  | true,.neq=>K (.aV (.bool (!decide (o<0))))
  | _,_=>none
 | .ptr _,.kg=>
  match E.uB ty,op with
  | true,.eql=>K (.aV (.bool false))
  | true,.neq=>K (.aV (.bool true))
  | _,_=>none
 | .may b _ _,.kg=>
  match E.uB ty,op with
  | true,.eql=>K (.aV (.bool (!b)))
  | true,.neq=>K (.aV (.bool b))
  | _,_=>none
 | _,_=>none
def Kk(op:UnOp)(x:ba)(K:ba→Option bB):Option bB:=
 match op,x with
 | .neg,.aV (.int k n)=>K (.aV (.int k (k.wrap (0-n))))
 | .xor,.aV (.int k n)=>K (.aV (.int k (cY .xor k (if k.signed then -1 else k.max) n)))
 | .not,.aV (.bool b)=>K (.aV (.bool (!b)))
 | _,_=>none
def qW(t:ad)(m:bg):List (List bb)→ar→Option (List t.D×ar)
 | [],s=>some ([],s)
 | cs :: B,s=>(t.imp false m cs s []).bind fun r=>
   match r.2.1 with
   | []=>(qW t m B r.2.2.1).bind fun q=>some (r.1 :: q.1,q.2)
   | _=>none
def aA.nth:aA→Nat→Option ad
 | .nil,_=>none
 | .cons t _,0=>some t
 | .cons _ ak,n+1=>aA.nth ak n
def aA.oH:aA→List (List bb)
 | .nil=>[]
 | .cons t ak=>t.jH :: aA.oH ak
def sv(s:ar)(ty:Nat→Option ad):List (Nat×Operand)→List (List bb)→Option (List (List bb))
 | [],B=>some B
 | (i,x) :: ps,B=>
  match ty i with
  | none=>none
  | some t=>
   match je t (bZ s x) with
   | none=>none
   | some cs=>cond (Nat.beq cs.length t.size) (sv s ty ps (B.set i cs)) none
def aA.off:aA→Nat→Option (Nat×ad)
 | .nil,_=>none
 | .cons t _,0=>some (0,t)
 | .cons t ak,n+1=>(aA.off ak n).bind fun r=>some (t.size+r.1,r.2)
def mkObj(s:ar)(id:Nat)(o:cB):Option ar:=
 match s.o id with
 | .none=>some (s.bV id o)
 | _=>none
def taken(s:ar)(t:ad):bb→Option (bg×List t.D×ar)
 | .nil u=>(eR (.sl u) (.sl t) ([]:List u.D)).bind fun x=>some (t.own,x,s)
 | .af id sub=>match s.o id with
  | .row u em _ xs=>(eR (.sl u) (.sl t) (lj sub xs)).bind fun x=>some (em,x,s.bV id .dead)
  | _=>none
 | _=>none
def added(s:ar)(t:ad):bb→Option (bg×List t.D×ar)
 | .af id sub=>match s.o id with
  | .row u em _ xs=>match em with
   | .R=>(eR (.sl u) (.sl t) (lj sub xs)).bind fun x=>some (.R,x,s)
   | _=>(eR (.sl u) (.sl t) (lj sub xs)).bind fun x=>some (em,x,s.bV id .dead)
  | _=>none
 | .bM u dp _ xs=>cond (alive s dp&&(t.flat||dp.isEmpty)) ((eR (.sl u) (.sl t) xs).bind fun x=>some (.R,x,s)) none
 | .nil u=>(eR (.sl u) (.sl t) ([]:List u.D)).bind fun x=>some (t.own,x,s)
 | .str x=>(eR (.sl (.int .u8)) (.sl t) (eM x)).bind fun y=>some (.R,y,s)
 | _=>none
def meet(a b:bg):bg:=cond (bg.beq a b) a .R
def Sw(id:Nat)(t:ad)(s:ar)(a b:bb)(K:bb→ar→Option bB):Option bB:=
 match added s t b with
 | none=>none
 | some (kO,ys,s1)=>
  match taken s1 t a with
  | none=>none
  | some (oI,xs,s2)=>
   match mkObj s2 id (.row t (meet oI kO) 0 (xs++ys)) with
   | none=>none
   | some s3=>jZ (room (xs.length+ys.length)) (K (.af id none) s3)
def oJ(t:ad)(v:ba):Bool:=
 match t,v with
 | .st _,.iK _=>true
 | .st _,_=>false
 | _,.aV _=>true
 | .sl _,.lh=>true
 | _,_=>false
mutual
def ad.getAt:(T:ad)→Nat→(t:ad)→T.D→Option (List t.D)
 | .sl u,off,t,x=>cond (Nat.beq off 0) (eR (.sl u) (.sl t) x) none
 | .st ak,off,t,x=>ak.getAt off t x
 | _,_,_,_=>none
def aA.getAt:(ak:aA)→Nat→(t:ad)→ak.D→Option (List t.D)
 | .nil,_,_,_=>none
 | .cons T ak,off,t,x=>cond (Nat.blt off T.size) (T.getAt off t x.1) (ak.getAt (off-T.size) t x.2)
end
mutual
def ad.setAt:(T:ad)→Nat→(t:ad)→List t.D→T.D→Option T.D
 | .sl u,off,t,y,_=>cond (Nat.beq off 0) (eR (.sl t) (.sl u) y) none
 | .st ak,off,t,y,x=>ak.setAt off t y x
 | _,_,_,_,_=>none
def aA.setAt:(ak:aA)→Nat→(t:ad)→List t.D→ak.D→Option ak.D
 | .nil,_,_,_,_=>none
 | .cons T ak,off,t,y,x=>cond (Nat.blt off T.size) ((T.setAt off t y x.1).bind fun z=>some (z,x.2)) ((ak.setAt (off-T.size) t y x.2).bind fun z=>some (x.1,z))
end
def uC(t:ad)(e:bg)(s:ar)(dp:List (Nat×Nat)):Option Place→Option (List t.D×ar)
 | none=>none
 | some p=>
  match p.fF,s.o p.id with
  | some i,.row T em ver ys=>cond (alive s dp&&bg.beq em T.own&&bg.beq e t.own) ((T.getAt p.off t (I T ys i)).bind fun x=>some (x,s.bV p.id (.cm (.row T em ver ys)))) none
  | _,_=>none
def xn(t:ad)(x:List t.D)(s:ar):Option Place→Option ar
 | none=>none
 | some p=>
  match p.fF,s.o p.id with
  | some i,.cm (.row T em ver ys)=>(T.setAt p.off t x (I T ys i)).bind fun z=>some (s.bV p.id (.row T em (ver+1) (ys.set i z)))
  | _,_=>none
mutual
def ad.fG:(t:ad)→bg→List bb→ar→Option (t.D×List bb×ar)
 | .int k,_,.int k' x :: cs,s=>cond (Nat.beq (dx k) (dx k')) (some (x,cs,s)) none
 | .bool,_,.bool x :: cs,s=>some (x,cs,s)
 | .str,_,.str x :: cs,s=>some (x,cs,s)
 | .sl t,.O e,c :: cs,s=>match c with
  | .nil u=>(eR (.sl u) (.sl t) ([]:List u.D)).bind fun x=>some (x,cs,s)
  | .af id none=>match s.o id with
   | .row u em ver xs=>cond (bg.beq em e) ((eR (.sl u) (.sl t) xs).bind fun x=>some (x,cs,s.bV id (.cm (.row u em ver xs)))) none
   | _=>none
  | .bM _ dp cI _=>(uC t e s dp cI).bind fun r=>some (r.1,cs,r.2)
  | _=>none
 | .st ak,m,cs,s=>ak.fG m.parts cs s
 | _,_,_,_=>none
def aA.fG:(ak:aA)→c3→List bb→ar→Option (ak.D×List bb×ar)
 | .nil,_,cs,s=>some ((),cs,s)
 | .cons t ak,m,cs,s=>(t.fG m.af cs s).bind fun r=>(ak.fG m.dC r.2.1 r.2.2).bind fun q=>some ((r.1,q.1),q.2)
end
mutual
def ad.back:(t:ad)→t.D→List bb→ar→Option (List bb×ar)
 | .sl t,x,c :: cs,s=>match c with
  | .nil _=>some (cs,s)
  | .af id none=>match s.o id with
   | .cm (.row u em ver _)=>(eR (.sl t) (.sl u) x).bind fun y=>some (cs,s.bV id (.row u em (ver+1) y))
   | _=>none
  | .bM _ _ cI _=>(xn t x s cI).bind fun av=>some (cs,av)
  | _=>none
 | .st ak,x,cs,s=>ak.back x cs s
 | _,_,_ :: cs,s=>some (cs,s)
 | _,_,[],_=>none
def aA.back:(ak:aA)→ak.D→List bb→ar→Option (List bb×ar)
 | .nil,_,cs,s=>some (cs,s)
 | .cons t ak,x,cs,s=>(t.back x.1 cs s).bind fun r=>ak.back x.2 r.1 r.2
end
def gq(key:Nat)(s:ar):(ps:List bD)→List ba→List (Nat×Nat)→Option ((bD.ins ps).D×ar×List (Nat×Nat))
 | [],[],bt=>some ((),s,bt)
 | .fn mz pN :: ps,.fn g a b :: vs,bt=>cond (Nat.beq g key&&Nat.beq a.length mz&&Nat.beq b.length pN) (gq key s ps vs bt) none
 | .val t m :: ps,v :: vs,bt=>cond (oJ t v)
  (match je t v with
  | none=>none
  | some cs=>(t.imp true m cs s bt).bind fun r=>
   match r.2.1 with
   | []=>(gq key r.2.2.1 ps vs r.2.2.2).bind fun q=>some ((r.1,q.1),q.2)
   | _=>none) none
 | .hV t :: ps,v :: vs,bt=>cond (oJ t v)
  (match je t v with
  | none=>none
  | some cs=>(t.imp false .R cs s bt).bind fun r=>
   match r.2.1 with
   | []=>(gq key r.2.2.1 ps vs r.2.2.2).bind fun q=>some ((r.1,q.1),q.2)
   | _=>none) none
 | .hg t m :: ps,v :: vs,bt=>cond (oJ t v&&bg.beq m t.own)
  (match je t v with
  | none=>none
  | some cs=>(t.fG m cs s).bind fun r=>
   match r.2.1 with
   | []=>(gq key r.2.2 ps vs bt).bind fun q=>some ((r.1,q.1),q.2)
   | _=>none) none
 | .ref t :: ps,.du dp cs off :: vs,bt=>
  match takeN off t.size cs with
  | none=>none
  | some cs=>cond (alive s dp) ((t.imp true .R cs s (dp++bt)).bind fun r=>
   match r.2.1 with
   | []=>(gq key r.2.2.1 ps vs r.2.2.2).bind fun q=>some ((r.1,q.1),q.2)
   | _=>none) none
 | .ref t :: ps,.ptr p :: vs,bt=>
  match mA s t.size p with
  | none=>none
  | some cs=>(t.imp true .R cs s ((p.id,kM s p.id) :: bt)).bind fun r=>
   match r.2.1 with
   | []=>(gq key r.2.2.1 ps vs r.2.2.2).bind fun q=>some ((r.1,q.1),q.2)
   | _=>none
 | .mut t m m' :: ps,.ptr p :: vs,bt=>
  match s.o p.id,p.fF with
  | .var ver old,none=>
   match takeN p.off t.size old with
   | none=>none
   | some cs=>(t.imp true m cs (s.bV p.id (.cm (.var ver old))) bt).bind fun r=>
    match r.2.1 with
    | []=>(gq key r.2.2.1 ps vs r.2.2.2).bind fun q=>some ((r.1,q.1),q.2)
    | _=>none
  | .row u em ver xs,some i=>cond (Nat.beq p.off 0&&bg.beq em m&&bg.beq m' em&&bg.beq m t.own) ((eR u t (I u xs i)).bind fun x=>(gq key (s.bV p.id (.cm (.row u em ver xs))) ps vs bt).bind fun q=>some ((x,q.1),q.2)) none
  | _,_=>none
 | _,_,_=>none
def mB(dp:List (Nat×Nat)):(ps:List bD)→List ba→(bD.ef ps).D→ar→Nat→Option (ar×Nat)
 | [],_,_,s,j=>some (s,j)
 | .mut t _ m' :: ps,.ptr p :: vs,x,s,j=>
  match s.o p.id,p.fF with
  | .cm (.var ver old),none=>(t.hW m' dp x.1 s j).bind fun r=>mB dp ps vs x.2 (r.2.1.bV p.id (.var (ver+1) (old.take p.off++r.1++old.drop (p.off+t.size)))) r.2.2
  | .cm (.row u em ver xs),some i=>(eR t u x.1).bind fun y=>mB dp ps vs x.2 (s.bV p.id (.row u em (ver+1) (xs.set i y))) j
  | _,_=>none
 | .hg t _ :: ps,v :: vs,x,s,j=>
  match je t v with
  | none=>none
  | some cs=>(t.back x.1 cs s).bind fun r=>mB dp ps vs x.2 r.2 j
 | .val _ _ :: ps,_ :: vs,x,s,j | .hV _ :: ps,_ :: vs,x,s,j | .ref _ :: ps,_ :: vs,x,s,j | .fn _ _ :: ps,_ :: vs,x,s,j=>mB dp ps vs x s j
 | _,_,_,_,_=>none
def qX(s:ar)(vs:List ba)(arg off:Nat):Option Nat:=
 match vs[arg]? with
 | some (.ptr p)=>match mA s 1 { p with off:=p.off+off } with
  | some [.af id none]=>some id
  | _=>none
 | _=>none
def qY(s:ar)(t:ad)(id:Nat):Bool:=
 match s.o id with
 | .row u _ _ _=>ad.beq u t
 | _=>false
def lT(vs:List ba)(ps:List bD)(dp:List (Nat×Nat)):(rs:List c4)→(c4.outs rs (bD.ef ps)).D→ar→Nat→Option (List ba×ar)
 | [],x,s,j=>(mB dp ps vs x s j).bind fun r=>some ([],r.1)
 | .val t m :: rs,x,s,j=>(t.hW m dp x.1 s j).bind fun r=>
  match kh t r.1 with
  | none=>none
  | some v=>(lT vs ps dp rs x.2 r.2.1 r.2.2).bind fun q=>some (v :: q.1,q.2)
 | .new t m :: rs,x,s,j=>(t.hW m dp x.1 s j).bind fun r=>(mkObj r.2.1 r.2.2 (.var 0 r.1)).bind fun s1=>(lT vs ps dp rs x.2 s1 (r.2.2+1)).bind fun q=>some (.ptr ⟨r.2.2,none,0⟩ :: q.1,q.2)
 | .opt a off t :: rs,x,s,j=>(lT vs ps dp rs x.2 s j).bind fun q=>
  match qX q.2 vs a off with
  | none=>none
  | some id=>cond (qY q.2 t id) (some (.opt id x.1 :: q.1,q.2)) none
 | .any t :: rs,x,s,j=>(lT vs ps dp rs x s j).bind fun q=>some (.sr t :: q.1,q.2)
 | .pO t :: rs,x,s,j=>(lT vs ps dp rs x.2 s j).bind fun q=>some (.may (!List.isEmpty x.1) dp (t.cells dp none (I t x.1 0)) :: q.1,q.2)
def pQ:List ba→FuncId
 | []=>0
 | .fn f _ _ :: _=>f
 | _ :: l=>pQ l
def lU:List ba→List ba
 | []=>[]
 | .fn _ a b :: l=>a++b++lU l
 | _ :: l=>lU l
def oK:List ba→Bool
 | []=>true
 | .aB :: _=>false
 | .gone :: _=>false
 | .sr _ :: _=>false
 | _ :: l=>oK l
def Kl(E:Env)(id:Nat)(s:ar)(f:FuncId)(vs:List ba)(K:ba→ar→Option bB):Option bB:=
 match E.fns f (pQ vs) with
 | none=>none
 | some e=>
  match gq (pQ vs) s e.ps (vs++lU vs) [] with
  | none=>none
  | some (x,s1,bt)=>
   cond (alive s1 bt&&oK vs)
    ((e.f x).bind fun r=>
     match lT (vs++lU vs) e.ps bt e.rs r s1 id with
     | none=>none
     | some ([v],s2)=>K v s2
     | some (l,s2)=>K (.pM l) s2)
    none
def sw(s:ar):List ba→(List ba→Option bB)→Option bB
 | [],K=>K []
 | .opt i n :: l,K=>(ix (match s.o i with | .row _ _ _ xs=>xs.length | _=>0) n).bind fun k=>sw s l fun l'=>K (.ptr ⟨i,some k,0⟩ :: l')
 | .may b dp cs :: l,K=>jZ b (sw s l fun l'=>K (.du dp cs 0 :: l'))
 | v :: l,K=>sw s l fun l'=>K (v :: l')
def Km(E:Env)(id:Nat)(s:ar)(f:FuncId)(vs:List ba)(K:ba→ar→Option bB):Option bB:= sw s vs fun vs=>Kl E id s f vs K
end
end Go.LM
namespace Go.LM
section
variable{bB : Type}
def uD(fH:Bool)(k:IntKind):Int→List ba→Option (IntKind×Int)
 | x,[]=>some (k,x)
 | x,.aV (.int _ y) :: l=>uD fH k (cond fH (ady x y) (j0 x y)) l
 | _,_=>none
def xp(fH:Bool):List ba→Option (IntKind×Int)
 | .aV (.int k x) :: l=>uD fH k x l
 | _=>none
def ll(s:ar)(T:ad):bb→Bool
 | .str _=>ad.beq T .str
 | .nil u=>ad.beq T (.sl u)
 | .bM u _ _ _=>ad.beq T (.sl u)
 | .af id _=>match s.o id with
  | .row u _ _ _=>ad.beq T (.sl u)
  | _=>false
 | _=>false
def oneCell(t:ad):ba→Option bb
 | .aV c=>some c
 | .lh=>some (.nil t)
 | _=>none
def xq(E:Env):List Nat→Option ad
 | hY :: il :: _=>
  match E.ty hY,E.ty il with
  | some (.sl t),some (.sl _)=>some t
  | some (.sl t),some .str=>some t
  | _,_=>none
 | _=>none
def ki(E:Env)(id:Nat)(s:ar)(b:Builtin)(Kn:List Nat)(vs:List ba)(K:ba→ar→Option bB):Option bB:=
 match b,vs with
 | .len,[.aV c]=>
  match Kn with
  | t :: _=>
   match E.ty t with
   | some T=>cond (ll s T c)
    (match oG s c with
    | some n=>K (.aV (.int .i64 n)) s
    | none=>none) none
   | none=>none
  | _=>none
 | .append,[lV,vb]=>
  match xq E Kn with
  | some t=>
   match oneCell t lV,oneCell t vb with
   | some a,some b=>Sw id t s a b fun c s=>K (.aV c) s
   | _,_=>none
  | none=>none
 | .clear,[.aV (.af i sub)]=>
  match Kn with
  | t :: _=>
   match E.ty t,s.o i with
   | some (.sl u),.row v em ver xs=>cond (ad.beq u v&&v.flat) (K (.pM []) (s.bV i (.row v em (ver+1) (xs.take (eB sub)++List.replicate (lS sub xs) v.zero++xs.drop (eB sub+lS sub xs))))) none
   | _,_=>none
  | _=>none
 | .min,vs=>
  match xp false vs with
  | some (k,x)=>K (.aV (.int k x)) s
  | none=>none
 | .max,vs=>
  match xp true vs with
  | some (k,x)=>K (.aV (.int k x)) s
  | none=>none
 | _,_=>none
def bound(s:ar)(x:Option Operand)(d:Int):Option Int:=
 match x with
 | none=>some d
 | some x=>kN (bZ s x)
def xr(c:bb)(l m:Nat):Option bb:=
 match c with
 | .str x=>some (.str (part x l m))
 | .nil t=>some (.nil t)
 | .bM t dp cI xs=>some (.bM t dp none (part xs l m))
 | .af id sub=>some (.af id (some (eB sub+l,m)))
 | _=>none
def Sx(s:ar)(T:ad)(x:ba)(lo hi fH:Option Operand)(K:ba→Option bB):Option bB:=
 match x with
 | .aV c=>
  cond (ll s T c)
  (match oG s c with
  | none=>none
  | some n=>
   match bound s lo 0,bound s hi n with
   | some l,some h=>
    (match fH with
     | none=>fun k=>k
     | some m=>fun k=>cond (ad.beq T .str) none (match kN (bZ s m) with
      | some m=>cond hi.isSome (jZ (decide (h=m)) k) none
      | none=>none))
    ((dh n l h).bind fun r=>
     match xr c r.1 (r.2-r.1) with
     | some c'=>K (.aV c')
     | none=>none)
   | _,_=>none) none
 | _=>none
def sx(E:Env)(id:Nat)(s:ar)(src dst:Nat)(x:ba)(K:ba→ar→Option bB):Option bB:=
 match E.ty src,E.ty dst,x with
 | some (.int _),some (.int k),.aV (.int _ n)=>K (.aV (.int k (k.wrap n))) s
 | some .str,some .str,.aV (.str b)=>K (.aV (.str b)) s
 | some .str,some (.sl (.int .u8)),.aV (.str b)=>
  match mkObj s id (.row (.int .u8) .R 0 (eM b)) with
  | some s1=>K (.aV (.af id none)) s1
  | none=>none
 | some (.sl (.int .u8)),some .str,.aV c=>
  match pP s (.int .u8) c with
  | some xs=>K (.aV (.str (eS xs))) s
  | none=>none
 | _,_,_=>none
def Ko(T:ad)(s:ar):List (List bb)→bg
 | cs :: _=>(T.zP s cs).1
 | []=>T.own
noncomputable def cZ(E:Env)(id:Nat)(o:Oper)(s:ar)(K:ar→Option bB):Option bB:=
 let put (v:ba) (s:ar):Option bB:= K (s.dst o.dst v)
 match o.op with
 | .move x | .assign x=>
  match typed E o.type (bZ s x) with
  | some v=>put v s
  | none=>none
 | .pick c a b=>
  match bZ s c,typed E o.type (bZ s a),typed E o.type (bZ s b) with
  | .aV (.bool t),some lV,some vb=>cond t (put lV s) (put vb s)
  | .aV (.bool t),some lV,none=>cond t (put lV s) none
  | .aV (.bool t),none,some vb=>cond t none (put vb s)
  | _,_,_=>none
 | .alloc t=>
  match E.ty t with
  | some T=>match mkObj s id (.var 0 T.jH) with
   | some s1=>put (.ptr ⟨id,none,0⟩) s1
   | none=>none
  | none=>none
 | .box t x=>
  match E.ty t with
  | some T=>match je T (bZ s x) with
   | some cs=>cond (Nat.beq cs.length T.size)
    (match mkObj s id (.var 0 cs) with
     | some s1=>put (.ptr ⟨id,none,0⟩) s1
     | none=>none) none
   | none=>none
  | none=>none
 | .build t parts=>
  match E.ty t with
  | some (.st ak)=>match sv s ak.nth parts.toList ak.oH with
   | some B=>put (.iK B.flatten) s
   | none=>none
  | _=>none
 | .buildSlice t n parts=>
  match E.ty t with
  | some (.sl T)=>cond (Nat.ble (n*T.size) 16777216)
   (match sv s (fun i=>cond (Nat.blt i n) (some T) none) parts.toList (List.replicate n T.jH) with
   | some B=>
    match qW T (Ko T s B) B s with
    | some (xs,s1)=>match mkObj s1 id (.row T (Ko T s B) 0 xs) with
     | some s2=>put (.aV (.af id none)) s2
     | none=>none
    | none=>none
   | none=>none) none
  | _=>none
 | .load t a=>
  match E.ty t,bZ s a with
  | some T,.ptr p=>match (mA s T.size p).bind (kh T) with
   | some v=>put v s
   | none=>none
  | some T,.du dp cs off=>match (takeN off T.size cs).bind (kh T) with
   | some v=>cond (alive s dp) (put v s) none
   | none=>none
  | _,_=>none
 | .store t a x=>
  match E.ty t,bZ s a with
  | some T,.ptr p=>match je T (bZ s x) with
   | some cs=>cond (Nat.beq cs.length T.size)
    (match C' s p cs with
     | some s1=>put .aB s1
     | none=>none) none
   | none=>match bZ s x,s.o p.id,p.fF with
    | .sr u,.var _ old,none=>cond (ad.beq u T&&Nat.beq p.off 0&&Nat.ble T.size old.length) (put .aB (s.bV p.id .dead)) none
    | _,_,_=>none
  | _,_=>none
 | .nilCheck x=>
  match bZ s x with
  | .ptr p=>put (.ptr p) s
  | .du dp cs off=>put (.du dp cs off) s
  | .fn f a b=>put (.fn f a b) s
  | .may b dp cs=>jZ b (put (.du dp cs 0) s)
  | .opt i n=>(ix (match s.o i with | .row _ _ _ xs=>xs.length | _=>0) n).bind fun k=>put (.ptr ⟨i,some k,0⟩) s
  | _=>none
 | .binOp op ty x y _=>lk E ty op (bZ s x) (bZ s y) fun v=>put v s
 | .unOp op _ x=>Kk op (bZ s x) fun v=>put v s
 | .convert src dst x=>sx E id s src dst (bZ s x) put
 | .makeFunc (.func f) first lR=>put (.fn f (first.toList.map (bZ s)) (lR.toList.map (bZ s))) s
 | .makeSlice t l c=>
  match E.ty t,kN (bZ s l),kN (bZ s c) with
  | some (.sl T),some n,some m=>
   jZ (decide (0≤n)&&decide (n=m)&&room n.toNat)
    (match mkObj s id (.row T T.own 0 (List.replicate n.toNat T.zero)) with
     | some s1=>put (.aV (.af id none)) s1
     | none=>none)
  | _,_,_=>none
 | .slice t x lo hi fH=>
  match E.ty t with
  | some T=>Sx s T (bZ s x) lo hi fH fun v=>put v s
  | none=>none
 | .fieldAddr t x f=>
  match E.ty t,bZ s x with
  | some (.st ak),.ptr p=>match ak.off f with
   | some (k,u)=>cond (Nat.beq u.size 0) none (put (.ptr { p with off:=p.off+k }) s)
   | none=>none
  | some (.st ak),.du dp cs off=>match ak.off f with
   | some (k,u)=>cond (Nat.beq u.size 0) none (put (.du dp cs (off+k)) s)
   | none=>none
  | _,_=>none
 | .field t x f=>
  match E.ty t,bZ s x with
  | some (.st ak),.iK cs=>match ak.off f with
   | some (k,u)=>match (takeN k u.size cs).bind (kh u) with
    | some v=>put v s
    | none=>none
   | none=>none
  | _,_=>none
 | .indexAddr t x i=>
  match E.ty t,bZ s x,kN (bZ s i) with
  | some (.sl u),.aV c,some n=>
   match c with
   | .af id sub=>match s.o id with
    | .row v _ _ xs=>cond (ad.beq u v) ((ix (lS sub xs) n).bind fun k=>put (.ptr ⟨id,some (eB sub+k),0⟩) s) none
    | _=>none
   | .bM v dp cI xs=>cond (alive s dp&&ad.beq u v) ((ix xs.length n).bind fun k=>put (.du dp (v.cells dp none (I v xs k)) 0) s) none
   | _=>none
  | _,_,_=>none
 | .index t x i=>
  match E.ty t,bZ s x,kN (bZ s i) with
  | some .str,.aV (.str b),some n=>(ix b.length n).bind fun k=>put (.aV (.int .u8 (b.getD k 0).toNat)) s
  | _,_,_=>none
 | .extract x i=>
  match bZ s x with
  | .pM l=>match l[i]? with
   | some v=>put v s
   | none=>none
  | _=>none
 | .call c=>
  let vs:=c.args.toList.map (bZ s)
  match c.callee with
  | .builtin b=>ki E id s b c.argTypes.toList vs put
  | .value f=>match bZ s f with
   | .fn g first lR=>Km E id s g (first++vs++lR) put
   | _=>none
  | _=>none
 | _=>none
def guardOf(ops:List Oper)(o:Oper):Option (Option Nat×Bool):=
 match o.guard with
 | none=>none
 | some (j,w)=>some ((ops[j]?).bind (·.dst),w)
def zQ(E:Env)(o:Oper):Bool:=
 match o.dst with
 | some d=>Nat.blt d E.n
 | none=>true
noncomputable def uE(E:Env)(id:Nat)(ops:List Oper)(o:Oper)(s:ar)(K:ar→Option bB):Option bB:=
 cond (zQ E o) (match guardOf ops o with
 | none=>cZ E id o s K
 | some (some d,w)=>
  match s.t d with
  | .aV (.bool b)=>
   cond b (let av:=s.set d (.aV (.bool true));cond w (cZ E id o av K) (K (av.dst o.dst .gone)))
    (let av:=s.set d (.aV (.bool false));cond w (K (av.dst o.dst .gone)) (cZ E id o av K))
  | .gone=>K (s.dst o.dst .gone)
  | _=>none
 | some (none,_)=>none) none
def xt:List ba→Option Place
 | .aV (.bM _ _ cI _) :: _=>cI
 | _=>none
def Kp:List bD→Bool
 | []=>true
 | .mut _ _ _ :: _=>false
 | .hg _ _ :: _=>false
 | .val _ _ :: l | .ref _ :: l | .fn _ _ :: l | .hV _ :: l=>Kp l
def adz:List bD→Bool
 | .val (.sl _) (.O _) :: _=>true
 | _=>false
def xu(key:Nat)(s:ar)(t:ad):(ps:List bD)→List ba→Option ((bD.ins ps).D×ar×List (Nat×Nat))
 | .val (.sl u) m :: ps,.aV (.bM _ dp cI _) :: vs=>cond (bg.beq m (.O u.own)&&(ad.beq t u&&Kp ps)) ((uC u u.own s dp cI).bind fun r=>(gq key r.2 ps vs []).bind fun q=>some ((r.1,q.1),q.2)) none
 | _,_=>none
def zR(t:ad){ak:aA} :(rs:List c4)→(c4.outs rs ak).D→Option (List t.D)
 | [.val u m],x=>cond (bg.beq m (.O t.own)) (eR u (.sl t) x.1) none
 | _,_=>none
def Sy(E:Env)(s:ar)(o:Oper):Bool:=
 match o.op with
 | .call c=>match c.callee with
  | .value cd=>match bZ s cd with
   | .fn g [] []=>match xt (c.args.toList.map (bZ s)),E.fns g (pQ (c.args.toList.map (bZ s))) with
    | some _,some e=>adz e.ps
    | _,_=>false
   | _=>false
  | _=>false
 | _=>false
def xv(E:Env)(o dK eT e5:Oper)(k1 e1 e2 e0 d0 d1 d2:Nat):Bool:=
 Nat.beq d0 e0&&(Nat.beq d1 e1&&(Nat.beq d2 e2&&(!(Nat.beq k1 d0)&&(!(Nat.beq d0 d1)&&(!(Nat.beq d0 d2)&&(o.guard.isNone&&(dK.guard.isNone&&(eT.guard.isNone&&(e5.guard.isNone&&(e5.dst.isNone&&(Nat.blt d0 E.n&&(Nat.blt d1 E.n&&Nat.blt d2 E.n))))))))))))
def Kq(s:ar)(v:ba)(K:Place→Option bB):Option bB:=
 match v with
 | .ptr p=>K p
 | .opt i n=>(ix (match s.o i with | .row _ _ _ xs=>xs.length | _=>0) n).bind fun k=>K ⟨i,some k,0⟩
 | _=>none
def Kr(E:Env)(s:ar)(o:Oper)(l:List Oper)(K:ar→Option bB):Option bB:=
 match l with
 | dK :: eT :: e5 :: _=>
  match o.op,dK.op,eT.op,e5.op with
  | .call c,.nilCheck (.tmp k1),.fieldAddr nC (.tmp e1) oL,.store nD (.tmp e2) (.tmp e0)=>
   match c.callee,o.dst,dK.dst,eT.dst with
   | .value cd,some d0,some d1,some d2=>cond (xv E o dK eT e5 k1 e1 e2 e0 d0 d1 d2)
    (match bZ s cd,E.ty nC,E.ty nD with
    | .fn g [] [],some (.st ak),some (.sl t)=>
     match E.fns g (pQ (c.args.toList.map (bZ s))),ak.off oL,xt (c.args.toList.map (bZ s)) with
     | some e,some (k,u),some p=>Kq s (s.t k1) fun j1=>cond (!(Nat.beq u.size 0)&&(Nat.beq j1.id p.id&&Nat.beq (j1.off+k) p.off))
      (match j1.fF,p.fF with
      | some i,some j=>cond (Nat.beq i j) (match xu (pQ (c.args.toList.map (bZ s))) s t e.ps (c.args.toList.map (bZ s)++lU (c.args.toList.map (bZ s))) with
       | none=>none
       | some (x,s1,bt)=>cond (alive s1 bt&&oK (c.args.toList.map (bZ s)))
        ((e.f x).bind fun r=>(zR t e.rs r).bind fun y=>(xn t y (((s1.set d0 .aB).set d1 .aB).set d2 .aB) (some p)).bind K) none) none
      | _,_=>none) none
     | _,_,_=>none
    | _,_,_=>none) none
   | _,_,_,_=>none
  | _,_,_,_=>none
 | _=>none
noncomputable def uF(E:Env)(bF:Nat)(all:List Oper):List Oper→Nat→Nat→ar→(ar→Option bB)→Option bB
 | [],_,_,s,K=>K s
 | _ :: l,i,q+1,s,K=>uF E bF all l (i+1) q s K
 | o :: l,i,0,s,K=>cond (Sy E s o) (Kr E s o l fun av=>uF E bF all l (i+1) 3 av K) (uE E ((bF*256+i)*32) all o s fun av=>uF E bF all l (i+1) 0 av K)
noncomputable def Ks(E:Env)(bF:Nat)(all:List Oper)(l:List Oper)(i:Nat)(s:ar)(K:ar→Option bB):Option bB:= uF E bF all l i 0 s K
def uG(E:Env)(o:Oper):Bool:=
 match o.op with
 | .move _ | .assign _ | .pick _ _ _ | .load _ _ | .nilCheck _ | .binOp _ _ _ _ _ | .unOp _ _ _ | .slice _ _ _ _ _ | .fieldAddr _ _ _ | .field _ _ _ | .indexAddr _ _ _ | .index _ _ _ | .extract _ _ | .build _ _=>true
 | .makeFunc (.func _) _ _=>true
 | .convert a b _=>match E.ty a,E.ty b with
  | some (.int _),some (.int _)=>true
  | _,_=>false
 | .call c=>match c.callee with
  | .builtin .len | .builtin .min | .builtin .max=>true
  | _=>false
 | _=>false
def waits(ops:Array Oper)(j i:Nat):Bool:=
 match ops[j]? with
 | some o=>o.after.any fun e=>Region.binds .any e&&Nat.beq e.on i
 | none=>false
def Kt(E:Env)(ops:Array Oper)(i:Nat):Bool:=
 match ops[i]? with
 | some o=>uG E o
 | none=>false
def jf(s:ar)(o:Oper):List (Nat×Nat):=
 match o.op with
 | .load _ x=>match bZ s x with
  | .ptr p=>[(p.id,kM s p.id)]
  | .du dp _ _=>dp
  | _=>[]
 | _=>[]
def uH(s:ar):List (Nat×List (Nat×Nat))→Bool
 | []=>true
 | p :: l=>cond (alive s p.2) (uH s l) false
def isApp(s:ar)(o:Oper):Bool:=
 match o.op with
 | .call c=>match c.callee with
  | .builtin .append=>(xt (c.args.toList.map (bZ s))).isSome
  | _=>false
 | _=>false
def Ku(id:Nat)(t:ad)(p:Place)(dp:List (Nat×Nat))(s:ar)(cb:bb)(d0 d1 d2:Nat)(M:ar→Bool)(K:ar→Option bB):Option bB:=
 match added s t cb with
 | none=>none
 | some (kO,ys,s1)=>cond (bg.beq kO t.own) ((uC t t.own s1 dp (some p)).bind fun r=>(mkObj r.2 id .dead).bind fun s2=>jZ (room (r.1.length+ys.length)) (cond (M (s2.set d0 .aB)) ((xn t (r.1++ys) (((s2.set d0 .aB).set d1 .aB).set d2 .aB) (some p)).bind K) none)) none
def Kv(E:Env)(id:Nat)(s:ar)(o dK eT e5:Oper)(M:ar→Bool)(K:ar→Option bB):Option bB:=
 match o.op,dK.op,eT.op,e5.op with
 | .call c,.indexAddr xw (.tmp k1) (.tmp k2),.fieldAddr nC (.tmp e1) oL,.store nD (.tmp e2) (.tmp e0)=>
  match c.callee,o.dst,dK.dst,eT.dst with
  | .builtin .append,some d0,some d1,some d2=>cond (xv E o dK eT e5 k1 e1 e2 e0 d0 d1 d2 && !(Nat.beq k2 d0))
   (match E.ty xw,E.ty nC,E.ty nD,xq E c.argTypes.toList,c.args.toList.map (bZ s) with
   | some (.sl nE),some (.st ak),some (.sl t),some hY,[.aV (.bM _ dp (some p) _),vb]=>
    match ak.off oL,oneCell hY vb,s.t k1,kN (s.t k2),s.o p.id,p.fF with
    | some (k,u),some cb,.aV (.af i sub),some q,.row v _ _ xs,some j=>cond (ad.beq hY t&&(ad.beq nE v&&(!(Nat.beq u.size 0)&&(Nat.beq i p.id&&Nat.beq k p.off))))
      ((ix (lS sub xs) q).bind fun m=>cond (Nat.beq (eB sub+m) j) (Ku id t p dp s cb d0 d1 d2 M K) none) none
    | _,_,_,_,_,_=>none
   | _,_,_,_,_=>none) none
  | _,_,_,_=>none
 | _,_,_,_=>none
def Sz(s:ar)(ops:Array Oper)(rs:List Nat):Bool:=rs.any fun i=>match ops[i]? with
 | some o=>isApp s o
 | none=>false
def one:List Nat→Option Nat
 | [i]=>some i
 | _=>none
def Kw(E:Env)(bF:Nat)(ops:Array Oper)(listed:Array Bool)(jg:List (Nat×List (Nat×Nat)))(rs:List Nat)(s:ar)(K:ar→Option bB):Option bB:=
 (one rs).bind fun i=>(one (Region.ready .any ops (listed.setIfInBounds i true))).bind fun i1=>(one (Region.ready .any ops ((listed.setIfInBounds i true).setIfInBounds i1 true))).bind fun i2=>
  (one (Region.ready .any ops (((listed.setIfInBounds i true).setIfInBounds i1 true).setIfInBounds i2 true))).bind fun i3=>
   cond ((Region.ready .any ops ((((listed.setIfInBounds i true).setIfInBounds i1 true).setIfInBounds i2 true).setIfInBounds i3 true)).isEmpty&&((jg.filter fun p=> !waits ops i p.1).filter fun p=> !waits ops i1 p.1).isEmpty)
    (ops[i]?.bind fun o=>ops[i1]?.bind fun dK=>ops[i2]?.bind fun eT=>ops[i3]?.bind fun e5=>Kv E ((bF*256+i)*32) s o dK eT e5 (fun oM=>uH oM (jg.filter fun p=> !waits ops i p.1)) K) none
noncomputable def dup(a:Option bB):Option bB:= both a a
noncomputable def Dd:List (Option bB)→Option bB
 | []=>none
 | [x]=>x
 | x :: l=>both x (Dd l)
noncomputable def uI(E:Env)(bF:Nat)(ops:Array Oper):Nat→Array Bool→List (Nat×List (Nat×Nat))→ar→(ar→Option bB)→Option bB
 | 0,listed,_,s,K=>match Region.ready .any ops listed with
  | []=>K s
  | _=>none
 | n+1,listed,jg,s,K=>
  match Region.ready .any ops listed with
  | []=>K s
  | rs=>match rs.find? fun i=>Kt E ops i&&Region.free .any ops listed i with
   | some i=>(match ops[i]? with
    | none=>none
    | some o=>uE E ((bF*256+i)*32) ops.toList o s fun av=>uI E bF ops n (listed.setIfInBounds i true) ((i,jf s o) :: jg) av K)
   | none=>cond (Sz s ops rs&&Nat.ble 3 n) (Kw E bF ops listed jg rs s K) (Dd (rs.map fun i=>match ops[i]? with
    | none=>none
    | some o=>cond (uG E o) none (uE E ((bF*256+i)*32) ops.toList o s fun av=>cond (uH av (jg.filter fun p=> !waits ops i p.1)) (uI E bF ops n (listed.setIfInBounds i true) (jg.filter fun p=> !waits ops i p.1) av K) none)))
noncomputable def Kx(E:Env)(bF:Nat)(ops:Array Oper)(s:ar)(K:ar→Option bB):Option bB:=
 cond (Region.noSelect ops) (uI E bF ops ops.size (Array.replicate ops.size false) [] s K) none
structure Hand(bB : Type) where
 cut:Nat→List Item→ar→Option bB
 fin:ar→Option bB
noncomputable def kj(E:Env)(cuts:Nat→Bool)(H:Hand bB):Nat→Bool→List Item→ar→Option bB
 | 0,_,_,_=>none
 | n+1,first,todo,s=>
  match todo with
  | []=>H.fin s
  | .code .ret :: _=>H.fin s
  | .code .skip :: k | .inBlock _ :: k=>kj E cuts H n first k s
  | .code (.seq a b) :: k=>kj E cuts H n first (.code a :: .code b :: k) s
  | .code (.cond c x y) :: k=>
   match bZ s c with
   | .aV (.bool b)=>cond b (kj E cuts H n first (.code x :: k) s) (kj E cuts H n first (.code y :: k) s)
   | _=>none
  | .code (.block id c) :: k=>kj E cuts H n first (.code c :: .inBlock id :: k) s
  | .code (.loop c) :: k | .inLoop c :: k=>kj E cuts H n first (.code c :: .inLoop c :: k) s
  | .code (.exit id) :: k=>
   match exitTo id k with
   | some k'=>kj E cuts H n first k' s
   | none=>none
  | .code (.region bF ops im) :: k=>
   cond (cuts bF && !first) (H.cut bF todo s)
    (cond im (Kx E bF ops s fun av=>kj E cuts H n false k av) (Ks E bF ops.toList ops.toList 0 s fun av=>kj E cuts H n false k av))
  | _=>none
end
end Go.LM
namespace Go.LM
abbrev ag:=Nat→Nat→Prop
def ag.none:ag:=fun _ _=>False
def ag.or(F G:ag):ag:=fun b o=>F b o∨G b o
def ag.apart(F G:ag):Prop:=∀b o,F b o→G b o→False
def ag.sub(F G:ag):Prop:=∀b o,F b o→G b o
def ag.run(b lo n:Nat):ag:=fun b' o=>b'=b∧lo≤o∧o<lo+n
abbrev at_(b o:Nat):Addr:=⟨b,o,none⟩
theorem sy(w:World)(b o:Nat):w.cell? (at_ b o)=match w.heap[b]? with | some (.cells c _ _)=>c[o]? | _=>none:=by
 simp only [World.cell?,at_]
 cases w.heap[b]? with
 | none=>rfl
 | some x=>cases x <;> rfl
theorem cell_of_heap{w:World}{b:Nat}{c:Array Value}{e:TypeId}{f:Nat×Nat}(h:w.heap[b]?=some (.cells c e f))(o:Nat) :
  w.cell? (at_ b o)=c[o]?:=by rw [sy,h]
theorem zI{w:World}{b o:Nat}{v:Value}(h:w.cell? (at_ b o)=some v) :
  ∃c e f,w.heap[b]?=some (.cells c e f)∧c[o]?=some v:=by
 rw [sy] at h;split at h
 ·rename_i c e f hb;exact⟨c,e,f,hb,h⟩
 ·simp at h
theorem zJ{w:World}{b o:Nat}{v:Value}(h:w.cell? (at_ b o)=some v):b<w.heap.size:=by
 obtain ⟨c,e,f,hb,_⟩:=zI h;rcases Nat.lt_or_ge b w.heap.size with h | h
 ·exact h
 ·simp [Array.getElem?_eq_none h] at hb
structure Ext(w w':World)(F:ag):Prop where
 os:w'.os=w.os
 tape:w'.tape=w.tape
 output:w'.output=w.output
 size:w.heap.size≤w'.heap.size
 block:∀b,b<w.heap.size→w'.heap[b]?=w.heap[b]? ∨
  ∃c c' e f,w.heap[b]?=some (.cells c e f)∧w'.heap[b]?=some (.cells c' e f)∧c'.size=c.size∧∀o,¬F b o→c'[o]?=c[o]?
theorem Ext.refl(w:World)(F:ag):Ext w w F:=⟨rfl,rfl,rfl,Nat.le_refl _,fun _ _=>.inl rfl⟩
theorem Ext.mono{w w':World}{F G:ag}(h:Ext w w' F)(hs:∀b o,b<w.heap.size→F b o→G b o):Ext w w' G:=by
 refine⟨h.os,h.tape,h.output,h.size,fun b hb=>?_⟩;rcases h.block b hb with h | ⟨c,c',e,f,h1,h2,h3,h4⟩
 ·exact .inl h
 ·exact .inr ⟨c,c',e,f,h1,h2,h3,fun o ho=>h4 o fun hf=>ho (hs b o hb hf)⟩
theorem Ext.trans{a b c:World}{F:ag}(h:Ext a b F)(k:Ext b c F):Ext a c F:=by
 refine⟨k.os.trans h.os,k.tape.trans h.tape,k.output.trans h.output,Nat.le_trans h.size k.size,fun i hi=>?_⟩;rcases h.block i hi with h1 | ⟨x,bz,e,f,h1,h2,h3,h4⟩
 ·rcases k.block i (Nat.lt_of_lt_of_le hi h.size) with k1 | ⟨y,mC,gP,nF,k1,k2,k3,bs⟩
  ·exact .inl (k1.trans h1)
  ·exact .inr ⟨y,mC,gP,nF,h1 ▸ k1,k2,k3,bs⟩
 ·rcases k.block i (Nat.lt_of_lt_of_le hi h.size) with k1 | ⟨y,mC,gP,nF,k1,k2,k3,bs⟩
  ·exact .inr ⟨x,bz,e,f,h1,k1.trans h2,h3,h4⟩
  ·rw [h2] at k1;simp only [Option.some.injEq,Obj.cells.injEq] at k1;obtain ⟨rfl,rfl,rfl⟩:=k1;exact .inr ⟨x,mC,e,f,h1,k2,k3.trans h3,fun o ho=>(bs o ho).trans (h4 o ho)⟩
theorem Ext.trans'{a b c:World}{F S:ag}(h:Ext a b F)(k:Ext b c S)(de:∀i o,S i o→F i o∨a.heap.size≤i):Ext a c F:=by
 refine⟨k.os.trans h.os,k.tape.trans h.tape,k.output.trans h.output,Nat.le_trans h.size k.size,fun i hi=>?_⟩
 have hk:c.heap[i]?=b.heap[i]?∨∃x bz e f,b.heap[i]?=some (.cells x e f)∧c.heap[i]?=some (.cells bz e f)∧bz.size=x.size∧∀o,¬F i o→bz[o]?=x[o]?:=by
  rcases k.block i (Nat.lt_of_lt_of_le hi h.size) with k1 | ⟨y,mC,gP,nF,k1,k2,k3,bs⟩
  ·exact .inl k1
  ·refine .inr ⟨y,mC,gP,nF,k1,k2,k3,fun o ho=>bs o fun hs=>?_⟩;rcases de i o hs with h | h
   ·exact ho h
   ·omega
 rcases h.block i hi with h1 | ⟨x,bz,e,f,h1,h2,h3,h4⟩
 ·rcases hk with k1 | ⟨y,mC,gP,nF,k1,k2,k3,bs⟩
  ·exact .inl (k1.trans h1)
  ·exact .inr ⟨y,mC,gP,nF,h1 ▸ k1,k2,k3,bs⟩
 ·rcases hk with k1 | ⟨y,mC,gP,nF,k1,k2,k3,bs⟩
  ·exact .inr ⟨x,bz,e,f,h1,k1.trans h2,h3,h4⟩
  ·rw [h2] at k1;simp only [Option.some.injEq,Obj.cells.injEq] at k1;obtain ⟨rfl,rfl,rfl⟩:=k1;exact .inr ⟨x,mC,e,f,h1,k2,k3.trans h3,fun o ho=>(bs o ho).trans (h4 o ho)⟩
theorem Ext.cell{w w':World}{F:ag}(h:Ext w w' F){b o:Nat}(hb:b<w.heap.size)(hf:¬F b o):w'.cell? (at_ b o)=w.cell? (at_ b o):=by
 rw [sy,sy];rcases h.block b hb with h | ⟨c,c',e,f,h1,h2,_,h4⟩
 ·rw [h]
 ·rw [h1,h2];exact h4 o hf
theorem qU(w:World)(b o:Nat):w.frozen? (at_ b o)=match w.heap[b]? with | some (.cells _ _ (lo,hi))=>decide (lo≤o)&&decide (o<hi) | _=>false:=rfl
theorem Ext.frozen{w w':World}{F:ag}(h:Ext w w' F){b:Nat}(hb:b<w.heap.size)(o:Nat):w'.frozen? (at_ b o)=w.frozen? (at_ b o):=by
 rw [qU,qU];rcases h.block b hb with h | ⟨c,c',e,f,h1,h2,_,_⟩
 ·rw [h]
 ·rw [h1,h2]
def fE(w:World)(b o:Nat):Prop:=(∃v,w.cell? (at_ b o)=some v)∧w.frozen? (at_ b o)=false
theorem Ext.adA{w w':World}{F:ag}(h:Ext w w' F){b o:Nat}(hc:∃v,w.cell? (at_ b o)=some v):∃v,w'.cell? (at_ b o)=some v:=by
 obtain ⟨v,hv⟩:=hc;have hb:=zJ hv;obtain ⟨c,e,f,hh,hcv⟩:=zI hv;rcases h.block b hb with h | ⟨x,bz,gP,nF,h1,h2,h3,_⟩
 ·exact⟨v,by rw [sy,h,hh];exact hcv⟩
 ·rw [hh] at h1;simp only [Option.some.injEq,Obj.cells.injEq] at h1;obtain ⟨rfl,rfl,rfl⟩:=h1
  have ho:o<c.size:=by
   rcases Nat.lt_or_ge o c.size with h | h
   ·exact h
   ·rw [Array.getElem?_eq_none h] at hcv;simp at hcv
  exact⟨bz[o]'(by omega),by rw [sy,h2];simp [Array.getElem?_eq_getElem,h3,ho]⟩
theorem Ext.qT{w w':World}{F:ag}(h:Ext w w' F){b o:Nat}(hc:fE w b o):fE w' b o:=
 ⟨h.adA hc.1,by rw [h.frozen (zJ hc.1.choose_spec) o];exact hc.2⟩
def gb(w:World)(size b o:Nat):Prop:=fE w b o∧(size=1∨∀k,w.frozen? (at_ b k)=false)
theorem Ext.kL{w w':World}{F:ag}(h:Ext w w' F){size b o:Nat}(hc:gb w size b o):gb w' size b o:=
 ⟨h.qT hc.1,hc.2.imp id fun hk k=>by rw [h.frozen (zJ hc.1.1.choose_spec) k];exact hk k⟩
theorem Ext.drew(w:World)(n:Nat)(F:ag):Ext w { w with drawn:=n } F:=⟨rfl,rfl,rfl,Nat.le_refl _,fun _ _=>.inl rfl⟩
theorem Ext.push(w:World)(o:Obj)(F:ag):Ext w { w with heap:=w.heap.push o } F:=
 ⟨rfl,rfl,rfl,by simp,fun b hb=>.inl (by simp only;rw [Array.getElem?_push,if_neg (by omega)])⟩
theorem SA(w:World)(o:Obj):({ w with heap:=w.heap.push o } : World).heap[w.heap.size]?=some o:=by simp
theorem SB(w:World)(c:Array Value)(e:TypeId)(f:Nat×Nat)(o:Nat) :
  ({ w with heap:=w.heap.push (.cells c e f) } : World).cell? (at_ w.heap.size o)=c[o]?:=cell_of_heap (SA w _) o
theorem Ky(w:World)(b o:Nat)(v:Value)(b':Nat) :
  (w.setCell (at_ b o) v).heap[b']?=if b=b' then(w.heap[b']?).map (fun | .cells c e f=>.cells (c.setIfInBounds o v) e f | x=>x) else w.heap[b']?:=by
 simp only [World.setCell,Array.getElem?_modify,at_];split
 ·rename_i h;subst h
  cases w.heap[b]? with
  | none=>rfl
  | some x=>cases x <;> rfl
 ·rfl
theorem adB(w:World)(b o:Nat)(v:Value)(b' o':Nat)(h:∃u,w.cell? (at_ b o)=some u) :
  (w.setCell (at_ b o) v).cell? (at_ b' o')=if b=b'∧o=o' then some v else w.cell? (at_ b' o'):=by
 obtain ⟨u,hu⟩:=h;obtain ⟨c,e,f,hb,hc⟩:=zI hu
 have ho:o<c.size:=by
  rcases Nat.lt_or_ge o c.size with h | h
  ·exact h
  ·rw [Array.getElem?_eq_none h] at hc;simp at hc
 rw [sy,Ky,sy];by_cases oN:b=b'
 ·subst oN;rw [if_pos rfl,hb];simp only [Option.map_some,true_and];by_cases xx:o=o'
  ·subst xx;simp [Array.getElem?_setIfInBounds,ho]
  ·simp [Array.getElem?_setIfInBounds,xx]
 ·rw [if_neg oN];simp [oN]
theorem adC(w:World)(b o:Nat)(v:Value)(b' o':Nat):(w.setCell (at_ b o) v).frozen? (at_ b' o')=w.frozen? (at_ b' o'):=by
 rw [qU,Ky,qU];by_cases oN:b=b'
 ·subst oN;rw [if_pos rfl]
  cases w.heap[b]? with
  | none=>rfl
  | some x=>cases x <;> rfl
 ·rw [if_neg oN]
theorem Ext.setCell{w:World}{b o:Nat}{F:ag}(v:Value)(hF:F b o):Ext w (w.setCell (at_ b o) v) F:=by
 refine⟨rfl,rfl,rfl,by simp [World.setCell],fun b' hb=>?_⟩;rw [Ky];by_cases oN:b=b'
 ·subst oN;rw [if_pos rfl]
  cases hh:w.heap[b]? with
  | none=>exact .inl rfl
  | some x=>
   cases x with
   | cells c e f=>
    refine .inr ⟨c,_,e,f,rfl,rfl,by simp,fun o' ho=>?_⟩;have:o≠o':=fun e=>ho (e ▸ hF)
    simp [Array.getElem?_setIfInBounds,this]
   | _=>exact .inl rfl
 ·rw [if_neg oN];exact .inl rfl
def setCells(w:World)(b:Nat):Nat→List Value→World
 | _,[]=>w
 | o,v :: vs=>setCells (w.setCell (at_ b o) v) b (o+1) vs
theorem oF{F:ag}(b:Nat)(vs:List Value):∀(w:World) (o:Nat),(∀i,i<vs.length→F b (o+i))→Ext w (setCells w b o vs) F:=by
 induction vs with
 | nil=>intro w o _;exact Ext.refl _ _
 | cons v vs ih=>intro w o h;have h1:=Ext.setCell (w:=w) v (h 0 (by simp));have h2:=ih (w.setCell (at_ b o) v) (o+1) (fun i hi=>by have:=h (i+1) (by simp;omega);rwa [show o+1+i=o +(i+1) by omega]);exact h1.trans (h2.mono fun _ _ _ h=>h)
theorem adD(b:Nat)(vs:List Value):∀(w:World) (o b' o':Nat),(setCells w b o vs).frozen? (at_ b' o')=w.frozen? (at_ b' o'):=by
 induction vs with
 | nil=>intros;rfl
 | cons v vs ih=>intro w o b' o';rw [setCells,ih,adC]
theorem xy(b:Nat)(vs:List Value):∀(w:World) (o:Nat),(∀i,i<vs.length→∃u,w.cell? (at_ b (o+i))=some u)→∀b' o',
  (setCells w b o vs).cell? (at_ b' o')=if b=b'∧o≤o'∧o'<o+vs.length then vs[o'-o]? else w.cell? (at_ b' o'):=by
 induction vs with
 | nil=>intro w o _ b' o';rw [setCells,if_neg];simp only [List.length_nil];omega
 | cons v vs ih=>
  intro w o h b' o';have h0:∃u,w.cell? (at_ b o)=some u:=by simpa using h 0 (by simp)
  have hx:=adB w b o v;rw [setCells,ih]
  ·by_cases hb:b=b'
   ·subst hb;by_cases h1:o+1≤o'∧o'<o+1+vs.length
    ·rw [if_pos ⟨rfl,h1⟩,if_pos ⟨rfl,by omega,by simp;omega⟩];obtain ⟨k,hk⟩:∃k,o'-o=k+1:=⟨o'-o-1,by omega⟩
     rw [hk,List.getElem?_cons_succ,show o'-(o+1)=k by omega]
    ·rw [if_neg (by simpa using h1),hx b o' h0];by_cases h2:o=o'
     ·subst h2;rw [if_pos ⟨rfl,rfl⟩,if_pos ⟨rfl,Nat.le_refl _,by simp⟩];simp
     ·rw [if_neg (by simp [h2]),if_neg];simp only [List.length_cons];omega
   ·rw [if_neg (by simp [hb]),if_neg (by simp [hb]),hx b' o' h0,if_neg (by simp [hb])]
  ·intro i hi;rw [hx b _ h0];split
   ·exact⟨v,rfl⟩
   ·have:=h (i+1) (by simp;omega);rwa [show o+1+i=o +(i+1) by omega]
def cc(w:World)(b o:Nat)(vs:List Value):Prop:=∀i v,vs[i]?=some v→w.cell? (at_ b (o+i))=some v
theorem cc.nil(w:World)(b o:Nat):cc w b o []:=by intro i v h;simp at h
theorem cc.cons{w:World}{b o:Nat}{v:Value}{vs:List Value}(h:w.cell? (at_ b o)=some v)(hs:cc w b (o+1) vs):cc w b o (v :: vs):=by
 intro i u hu
 cases i with
 | zero=>simp at hu;subst hu;simpa using h
 | succ i=>rw [List.getElem?_cons_succ] at hu;have:=hs i u hu;rwa [show o+1+i=o +(i+1) by omega] at this
theorem cc.head{w:World}{b o:Nat}{v:Value}{vs:List Value}(h:cc w b o (v :: vs)):w.cell? (at_ b o)=some v:=by simpa using h 0 v rfl
theorem cc.tail{w:World}{b o:Nat}{v:Value}{vs:List Value}(h:cc w b o (v :: vs)):cc w b (o+1) vs:=by intro i u hu;have:=h (i+1) u (by simpa using hu);rwa [show o +(i+1)=o+1+i by omega] at this
theorem cc.append{w:World}{b o:Nat}{us vs:List Value}(h:cc w b o us)(k:cc w b (o+us.length) vs):cc w b o (us++vs):=by
 intro i v hv;rcases Nat.lt_or_ge i us.length with hi | hi
 ·rw [List.getElem?_append_left hi] at hv;exact h i v hv
 ·rw [List.getElem?_append_right hi] at hv;have:=k _ v hv;rwa [show o+us.length +(i-us.length)=o+i by omega] at this
theorem cc.left{w:World}{b o:Nat}{us vs:List Value}(h:cc w b o (us++vs)):cc w b o us:=by
 intro i v hv
 have hi:i<us.length:=by
  rcases Nat.lt_or_ge i us.length with h | h
  ·exact h
  ·rw [List.getElem?_eq_none h] at hv;simp at hv
 exact h i v (by rw [List.getElem?_append_left hi];exact hv)
theorem cc.right{w:World}{b o:Nat}{us vs:List Value}(h:cc w b o (us++vs)):cc w b (o+us.length) vs:=by intro i v hv;have:=h (us.length+i) v (by rw [List.getElem?_append_right (by omega),Nat.add_sub_cancel_left];exact hv);rwa [show o +(us.length+i)=o+us.length+i by omega] at this
theorem cc.part{w:World}{b o:Nat}{vs:List Value}(h:cc w b o vs)(k n:Nat):cc w b (o+k) ((vs.drop k).take n):=by
 intro i v hv;rw [List.getElem?_take] at hv;split at hv
 ·rw [List.getElem?_drop] at hv;have:=h _ v hv;rwa [show o +(k+i)=o+k+i by omega] at this
 ·simp at hv
theorem cc.of_eq{w w':World}{b o:Nat}{vs:List Value}(h:cc w b o vs)(he:∀i,i<vs.length→w'.cell? (at_ b (o+i))=w.cell? (at_ b (o+i))):cc w' b o vs:=by
 intro i v hv
 have hi:i<vs.length:=by
  rcases Nat.lt_or_ge i vs.length with h | h
  ·exact h
  ·rw [List.getElem?_eq_none h] at hv;simp at hv
 rw [he i hi];exact h i v hv
theorem qZ(b o n:Nat):(at_ b o).add n=at_ b (o+n):=by
 unfold Addr.add;split
 ·rename_i h;subst h;rfl
 ·rfl
section
variable{P:Program}
theorem run_pure{α : Type}(x : α)(w:World):(pure x:Sem α).run P w=.ok x w:=rfl
theorem run_bind{α β : Type}(s:Sem α)(f : α → Sem β)(w:World):(s >>= f).run P w=match s.run P w with | .ok x w'=>(f x).run P w' | .halt h w'=>.halt h w':=by
 show(Sem.bind s f).run P w=_
 induction s generalizing w with
 | pure a=>rfl
 | load m a k ih=>
  simp only [Sem.bind,Sem.run]
  cases w.cell? a with
  | some v=>exact ih v w
  | none=>
   cases w.farLoad P a (m==.atomic) with
   | error h=>rfl
   | ok r=>exact ih r.1 w
 | store m a v k ih=>
  cases v with
  | agg _=>rfl
  | tuple _=>rfl
  | _=>
   simp only [Sem.bind,Sem.run]
   cases w.cell? a with
   | some u=>
    dsimp only;split
    ·rfl
    ·exact ih _
   | none=>
    dsimp only;split
    ·exact ih _
    ·rfl
 | new o k ih=>exact ih _ _
 | shape r k ih=>exact ih _ _
 | freeze a n k ih=>exact ih _
 | frozen a k ih=>exact ih _ _
 | getObj r k ih=>
  simp only [Sem.bind,Sem.run]
  cases w.heap[r]? with
  | none=>rfl
  | some o=>cases o <;> first | rfl | exact ih _ _
 | setObj r o k ih=>
  simp only [Sem.bind,Sem.run]
  cases w.heap[r]? with
  | none=>rfl
  | some o=>cases o <;> first | rfl | exact ih _
 | choose q k ih=>simp only [Sem.bind,Sem.run];split <;> exact ih _ _
 | sys c k ih=>exact ih _ _
 | program k ih=>exact ih _ _
 | mark m k ih=>exact ih _
 | halt h=>rfl
def ep:Value→Bool
 | .agg _ | .tuple _=>false
 | _=>true
theorem run_load{w:World}{b o:Nat}{v:Value}(h:w.cell? (at_ b o)=some v):(load (at_ b o)).run P w=.ok v w:=by simp [load,Sem.run,h]
theorem run_loadCellsFrom{w:World}(b o:Nat)(vs:List Value):∀(k:Nat) (acc:Array Value),cc w b (o+k) vs →
  (loadCellsFrom (at_ b o) k vs.length acc).run P w=.ok (acc++vs.toArray) w:=by
 induction vs with
 | nil=>intro k acc _;simp [loadCellsFrom,run_pure]
 | cons v vs ih=>intro k acc h;simp only [List.length_cons,loadCellsFrom];rw [run_bind,qZ,run_load h.head];simp only;rw [ih (k+1) (acc.push v) (by rw [← Nat.add_assoc];exact h.tail)];congr 1;apply Array.ext';simp
theorem run_loadCells{w:World}{b o:Nat}{vs:List Value}(h:cc w b o vs):(loadCells (at_ b o) vs.length).run P w=.ok vs.toArray w:=by unfold loadCells;rw [run_loadCellsFrom b o vs 0 #[] (by simpa using h)];simp
theorem run_store{w:World}{b o:Nat}{v:Value}(hv:ep v=true)(h:fE w b o):(store (at_ b o) v).run P w=.ok () (w.setCell (at_ b o) v):=by obtain ⟨⟨u,hu⟩,hf⟩:=h;cases v <;> simp_all [store,Sem.run,ep]
theorem C2{b o:Nat}(vs:List Value):∀(w:World) (k:Nat),(∀v∈vs,ep v=true)→(∀i,i<vs.length→fE w b (o+k+i)) →
  (storeCells (at_ b o) vs k).run P w=.ok () (setCells w b (o+k) vs):=by
 induction vs with
 | nil=>intros;rfl
 | cons v vs ih=>
  intro w k h1 h2;unfold storeCells;have h0:fE w b (o+k):=h2 0 (by simp);rw [run_bind,qZ,run_store (h1 v (by simp)) h0];simp only;rw [ih _ (k+1) (fun v hv=>h1 v (by simp [hv]))]
  ·rfl
  ·intro i hi;have:=h2 (i+1) (by simp;omega);refine Ext.qT (Ext.setCell (F:=fun _ _=>True) v trivial) ?_;rwa [show o +(k+1)+i=o+k +(i+1) by omega]
end
end Go.LM
namespace Go.LM
def Row{α : Type}(w:World)(R : α → List Value→ag→Prop)(size:Nat):List α → Nat→Nat→ag→Prop
 | [],_,_,_=>True
 | x :: xs,b,o,F=>∃vs G H,R x vs G∧vs.length=size∧cc w b o vs∧Row w R size xs b (o+size) H∧ag.apart G H∧ag.sub G F∧ag.sub H F
structure nB{α : Type}(w:World)(R : α → List Value→ag→Prop)(size:Nat)(x:List α)(a:Addr)(c:Nat)(F:ag):Prop where
 spot:a.spot=none
 cap:x.length≤c
 wr:∀j,j<c*size→gb w size a.block (a.off+j)
 inF:∀j,j<c*size→F a.block (a.off+j)
 row:∃G,Row w R size x a.block a.off G∧(∀j,j<c*size→¬G a.block (a.off+j))∧ag.sub G F
mutual
def ad.au(w:World)(Z:ag):(t:ad)→bg→t.D→List Value→ag→Prop
 | .int k,_,x,vs,_=>vs=[.int k x]
 | .bool,_,x,vs,_=>vs=[.bool x]
 | .str,_,x,vs,_=>∃s:ByteArray,vs=[.string s]∧s.data.toList=x
 | .raw,_,x,vs,_=>vs=[x]∧∃A n c,x=.slice A n c
 | .sl t,.O e,x,vs,F=>∃A c,vs=[.slice A x.length c]∧((x=[]∧c=0)∨∃a,A=some a∧nB w (t.au w Z e) t.size x a c F)
 | .sl t,_,x,vs,_=>∃A c,vs=[.slice A x.length c]∧(x=[]∨∃a,A=some a∧a.spot=none∧Row w (fun y us _=>t.au w Z .R y us ag.none) t.size x a.block a.off ag.none∧(∀j,j<x.length*t.size→Z a.block (a.off+j))∧x.length≤c)
 | .st ak,m,x,vs,F=>ak.au w Z m.parts x vs F
def aA.au(w:World)(Z:ag):(ak:aA)→c3→ak.D→List Value→ag→Prop
 | .nil,_,_,vs,_=>vs=[]
 | .cons t ak,m,x,vs,F=>∃us bI G H,vs=us++bI∧t.au w Z m.af x.1 us G∧ak.au w Z m.dC x.2 bI H∧ag.apart G H∧ag.sub G F∧ag.sub H F
end
def cf(w w':World)(S:ag):Prop:=∀b o,S b o→w'.cell? (at_ b o)=w.cell? (at_ b o)∧∀k,w'.frozen? (at_ b k)=w.frozen? (at_ b k)
theorem cf.mono{w w':World}{S T:ag}(h:cf w w' S)(hs:ag.sub T S):cf w w' T:=fun b o ho=>h b o (hs b o ho)
theorem cf.qT{w w':World}{S:ag}(h:cf w w' S){b o:Nat}(hs:S b o)(hw:fE w b o):fE w' b o:=by obtain ⟨⟨v,hv⟩,hf⟩:=hw;exact⟨⟨v,by rw [(h b o hs).1];exact hv⟩,by rw [(h b o hs).2 o];exact hf⟩
theorem cf.kL{w w':World}{S:ag}(h:cf w w' S){size b o:Nat}(hs:S b o)(hw:gb w size b o):gb w' size b o:=
 ⟨h.qT hs hw.1,hw.2.imp id fun hk k=>by rw [(h b o hs).2 k];exact hk k⟩
theorem cf.De{w w':World}{S:ag}(h:cf w w' S){b o:Nat}{vs:List Value}(hs:∀i,i<vs.length→S b (o+i))(hc:cc w b o vs):cc w' b o vs:=
 hc.of_eq fun i hi=>(h b _ (hs i hi)).1
theorem cf.refl(w:World)(S:ag):cf w w S:=fun _ _ _=>⟨rfl,fun _=>rfl⟩
theorem cf.trans{a b c:World}{S:ag}(h:cf a b S)(k:cf b c S):cf a c S:=fun i o hs=>⟨(k i o hs).1.trans (h i o hs).1,fun j=>((k i o hs).2 j).trans ((h i o hs).2 j)⟩
theorem Row.mono{α : Type}{w:World}{R : α → List Value→ag→Prop}{size:Nat}{F F':ag}(hF:ag.sub F F'):∀ {x:List α} {b o:Nat},Row w R size x b o F→Row w R size x b o F'
 | [],_,_,_=>trivial
 | _ :: _,_,_,⟨vs,G,H,h1,h2,h3,h4,a7,bh,bJ⟩=>⟨vs,G,H,h1,h2,h3,h4,a7,fun b o h=>hF b o (bh b o h),fun b o h=>hF b o (bJ b o h)⟩
theorem Row.imp{α : Type}{w w':World}{R jh : α → List Value→ag→Prop}{size:Nat} : ∀ {x:List α} {b o:Nat} {F:ag},Row w R size x b o F →
  (∀y vs G,ag.sub G F→R y vs G→jh y vs G)→(∀j,j<x.length*size→w'.cell? (at_ b (o+j))=w.cell? (at_ b (o+j)))→Row w' jh size x b o F
 | [],_,_,_,_,_,_=>trivial
 | y :: x,b,o,F,⟨vs,G,H,h1,h2,h3,h4,a7,bh,bJ⟩,e6,hc=>by
  refine⟨vs,G,H,e6 _ _ _ bh h1,h2,h3.of_eq fun i hi=>hc i ?_,?_,a7,bh,bJ⟩
  ·rw [List.length_cons,Nat.add_one_mul];omega
  ·refine Row.imp h4 (fun y vs dv hG=>e6 y vs dv fun b o h=>bJ b o (hG b o h)) fun j hj=>?_
   have:=hc (size+j) (by rw [List.length_cons,Nat.add_one_mul];omega);rwa [← Nat.add_assoc] at this
theorem Row.bare{α : Type}{w:World}{R jh : α → List Value→ag→Prop}{size:Nat} : ∀ {x:List α} {b o:Nat} {F:ag},Row w R size x b o F →
  (∀y vs G,ag.sub G F→R y vs G→jh y vs ag.none)→Row w jh size x b o ag.none
 | [],_,_,_,_,_=>trivial
 | y :: x,b,o,F,⟨vs,G,H,h1,h2,h3,h4,a7,bh,bJ⟩,e6=>⟨vs,ag.none,ag.none,e6 _ _ _ bh h1,h2,h3,Row.bare h4 fun y vs dv hG=>e6 y vs dv fun b o h=>bJ b o (hG b o h),fun _ _ h=>h.elim,fun _ _ h=>h,fun _ _ h=>h⟩
mutual
theorem ad.au.mono{w:World}{Z Z':ag}(hZ:ag.sub Z Z'):∀(t:ad) (m:bg) {x:t.D} {vs:List Value} {F F':ag},ag.sub F F'→t.au w Z m x vs F→t.au w Z' m x vs F'
 | .int _,_,_,_,_,_,_,h=>by simpa only [ad.au] using h
 | .bool,_,_,_,_,_,_,h=>by simpa only [ad.au] using h
 | .str,_,_,_,_,_,_,h=>by simpa only [ad.au] using h
 | .raw,_,_,_,_,_,_,h=>by simpa only [ad.au] using h
 | .sl t,.O e,x,vs,F,F',hF,h=>by
  simp only [ad.au] at h ⊢;obtain ⟨A,c,h1,h2⟩:=h;refine⟨A,c,h1,h2.imp id ?_⟩
  rintro ⟨a,h3,h4⟩
  obtain ⟨G,g1,g2,g3⟩:=h4.row;exact⟨a,h3,h4.spot,h4.cap,h4.wr,fun j hj=>hF _ _ (h4.inF j hj),G,g1.imp (fun y vs dv _=>ad.au.mono hZ t e fun _ _ h=>h) (fun _ _=>rfl),g2,fun b o h=>hF b o (g3 b o h)⟩
 | .sl t,.R,x,vs,F,F',hF,h=>by
  simp only [ad.au] at h ⊢;obtain ⟨A,c,h1,h2⟩:=h;refine⟨A,c,h1,h2.imp id ?_⟩
  rintro ⟨a,h3,h4,a7,bh⟩
  exact⟨a,h3,h4,a7.imp (fun y vs dv _=>ad.au.mono hZ t .R fun _ _ h=>h) (fun _ _=>rfl),fun j hj=>hZ _ _ (bh.1 j hj),bh.2⟩
 | .sl t,.S _,x,vs,F,F',hF,h=>by
  simp only [ad.au] at h ⊢;obtain ⟨A,c,h1,h2⟩:=h;refine⟨A,c,h1,h2.imp id ?_⟩
  rintro ⟨a,h3,h4,a7,bh⟩
  exact⟨a,h3,h4,a7.imp (fun y vs dv _=>ad.au.mono hZ t .R fun _ _ h=>h) (fun _ _=>rfl),fun j hj=>hZ _ _ (bh.1 j hj),bh.2⟩
 | .st ak,m,x,vs,F,F',hF,h=>by simp only [ad.au] at h ⊢;exact aA.au.mono hZ ak m.parts hF h
theorem aA.au.mono{w:World}{Z Z':ag}(hZ:ag.sub Z Z'):∀(ak:aA) (m:c3) {x:ak.D} {vs:List Value} {F F':ag},ag.sub F F'→ak.au w Z m x vs F→ak.au w Z' m x vs F'
 | .nil,_,_,_,_,_,_,h=>by simpa only [aA.au] using h
 | .cons t ak,m,x,vs,F,F',hF,h=>by simp only [aA.au] at h ⊢;obtain ⟨us,bI,G,H,h1,h2,h3,h4,a7,bh⟩:=h;exact⟨us,bI,G,H,h1,ad.au.mono hZ t m.af (fun _ _ h=>h) h2,aA.au.mono hZ ak m.dC (fun _ _ h=>h) h3,h4,fun b o h=>hF b o (a7 b o h),fun b o h=>hF b o (bh b o h)⟩
end
mutual
theorem ad.au.same{w w':World}{Z:ag}(hZ:cf w w' Z):∀(t:ad) (m:bg) {x:t.D} {vs:List Value} {F:ag},cf w w' F→t.au w Z m x vs F→t.au w' Z m x vs F
 | .int _,_,_,_,_,_,h=>by simpa only [ad.au] using h
 | .bool,_,_,_,_,_,h=>by simpa only [ad.au] using h
 | .str,_,_,_,_,_,h=>by simpa only [ad.au] using h
 | .raw,_,_,_,_,_,h=>by simpa only [ad.au] using h
 | .sl t,.O e,x,vs,F,hF,h=>by
  simp only [ad.au] at h ⊢;obtain ⟨A,c,h1,h2⟩:=h;refine⟨A,c,h1,h2.imp id ?_⟩
  rintro ⟨a,h3,h4⟩
  obtain ⟨G,g1,g2,g3⟩:=h4.row;have hle:x.length*t.size≤c*t.size:=Nat.mul_le_mul_right _ h4.cap;exact⟨a,h3,h4.spot,h4.cap,fun j hj=>hF.kL (h4.inF j hj) (h4.wr j hj),h4.inF,G,g1.imp (fun y vs dv hG=>ad.au.same hZ t e (hF.mono fun b o h=>g3 b o (hG b o h))) (fun j hj=>(hF _ _ (h4.inF j (by omega))).1),g2,g3⟩
 | .sl t,.R,x,vs,F,hF,h=>by
  simp only [ad.au] at h ⊢;obtain ⟨A,c,h1,h2⟩:=h;refine⟨A,c,h1,h2.imp id ?_⟩
  rintro ⟨a,h3,h4,a7,bh⟩
  exact⟨a,h3,h4,a7.imp (fun y vs dv _=>ad.au.same hZ t .R (fun _ _ h=>h.elim)) (fun j hj=>(hZ _ _ (bh.1 j hj)).1),bh⟩
 | .sl t,.S _,x,vs,F,hF,h=>by
  simp only [ad.au] at h ⊢;obtain ⟨A,c,h1,h2⟩:=h;refine⟨A,c,h1,h2.imp id ?_⟩
  rintro ⟨a,h3,h4,a7,bh⟩
  exact⟨a,h3,h4,a7.imp (fun y vs dv _=>ad.au.same hZ t .R (fun _ _ h=>h.elim)) (fun j hj=>(hZ _ _ (bh.1 j hj)).1),bh⟩
 | .st ak,m,x,vs,F,hF,h=>by simp only [ad.au] at h ⊢;exact aA.au.same hZ ak m.parts hF h
theorem aA.au.same{w w':World}{Z:ag}(hZ:cf w w' Z):∀(ak:aA) (m:c3) {x:ak.D} {vs:List Value} {F:ag},cf w w' F→ak.au w Z m x vs F→ak.au w' Z m x vs F
 | .nil,_,_,_,_,_,h=>by simpa only [aA.au] using h
 | .cons t ak,m,x,vs,F,hF,h=>by simp only [aA.au] at h ⊢;obtain ⟨us,bI,G,H,h1,h2,h3,h4,a7,bh⟩:=h;exact⟨us,bI,G,H,h1,ad.au.same hZ t m.af (hF.mono a7) h2,aA.au.same hZ ak m.dC (hF.mono bh) h3,h4,a7,bh⟩
end
mutual
theorem ad.au.len{w:World}{Z:ag} : ∀(t:ad) (m:bg) {x:t.D} {vs:List Value} {F:ag},t.au w Z m x vs F→vs.length=t.size∧∀v∈vs,ep v=true
 | .int _,_,_,_,_,h=>by simp only [ad.au] at h;subst h;simp [ad.size,ep]
 | .bool,_,_,_,_,h=>by simp only [ad.au] at h;subst h;simp [ad.size,ep]
 | .str,_,_,_,_,h=>by simp only [ad.au] at h;obtain ⟨s,rfl,_⟩:=h;simp [ad.size,ep]
 | .raw,_,_,_,_,h=>by simp only [ad.au] at h;obtain ⟨rfl,A,n,c,rfl⟩:=h;simp [ad.size,ep]
 | .sl t,.O e,x,vs,F,h=>by simp only [ad.au] at h;obtain ⟨A,c,rfl,_⟩:=h;simp [ad.size,ep]
 | .sl t,.R,x,vs,F,h=>by simp only [ad.au] at h;obtain ⟨A,c,rfl,_⟩:=h;simp [ad.size,ep]
 | .sl t,.S _,x,vs,F,h=>by simp only [ad.au] at h;obtain ⟨A,c,rfl,_⟩:=h;simp [ad.size,ep]
 | .st ak,m,x,vs,F,h=>by simp only [ad.au] at h;simpa only [ad.size] using aA.au.len ak m.parts h
theorem aA.au.len{w:World}{Z:ag} : ∀(ak:aA) (m:c3) {x:ak.D} {vs:List Value} {F:ag},ak.au w Z m x vs F→vs.length=ak.size∧∀v∈vs,ep v=true
 | .nil,_,_,_,_,h=>by simp only [aA.au] at h;subst h;simp [aA.size]
 | .cons t ak,m,x,vs,F,h=>by
  simp only [aA.au] at h;obtain ⟨us,bI,G,H,rfl,h2,h3,_⟩:=h;have a:=ad.au.len t m.af h2;have b:=aA.au.len ak m.dC h3;refine⟨by simp [aA.size,a.1,b.1],fun v hv=>?_⟩;rcases List.mem_append.1 hv with h | h
  ·exact a.2 v h
  ·exact b.2 v h
end
mutual
theorem ad.au.read{w:World}{Z Z':ag}(hZ:ag.sub Z Z'):∀(t:ad) (m:bg) {x:t.D} {vs:List Value} {F:ag},ag.sub F Z'→t.au w Z m x vs F→t.au w Z' .R x vs ag.none
 | .int _,_,_,_,_,_,h=>by simpa only [ad.au] using h
 | .bool,_,_,_,_,_,h=>by simpa only [ad.au] using h
 | .str,_,_,_,_,_,h=>by simpa only [ad.au] using h
 | .raw,_,_,_,_,_,h=>by simpa only [ad.au] using h
 | .sl t,.O e,x,vs,F,hF,h=>by
  simp only [ad.au] at h ⊢;obtain ⟨A,c,h1,h2⟩:=h;refine⟨A,c,h1,?_⟩;rcases h2 with⟨h,_⟩ | ⟨a,h3,h4⟩
  ·exact .inl h
  ·obtain ⟨G,g1,g2,g3⟩:=h4.row;have hle:x.length*t.size≤c*t.size:=Nat.mul_le_mul_right _ h4.cap;exact .inr ⟨a,h3,h4.spot,g1.bare fun y vs dv hG=>ad.au.read hZ t e (fun b o h=>hF b o (g3 b o (hG b o h))),fun j hj=>hF _ _ (h4.inF j (by omega)),h4.cap⟩
 | .sl t,.R,x,vs,F,hF,h=>ad.au.mono hZ (.sl t) .R (F:=ag.none) (fun _ _ h=>h) (by simpa only [ad.au] using h)
 | .sl t,.S _,x,vs,F,hF,h=>ad.au.mono hZ (.sl t) .R (F:=ag.none) (fun _ _ h=>h) (by simpa only [ad.au] using h)
 | .st ak,m,x,vs,F,hF,h=>by simp only [ad.au] at h ⊢;exact aA.au.read hZ ak m.parts hF h
theorem aA.au.read{w:World}{Z Z':ag}(hZ:ag.sub Z Z'):∀(ak:aA) (m:c3) {x:ak.D} {vs:List Value} {F:ag},ag.sub F Z'→ak.au w Z m x vs F→ak.au w Z' (bg.parts .R) x vs ag.none
 | .nil,_,_,_,_,_,h=>by simpa only [aA.au] using h
 | .cons t ak,m,x,vs,F,hF,h=>by simp only [aA.au] at h ⊢;obtain ⟨us,bI,G,H,h1,h2,h3,h4,a7,bh⟩:=h;exact⟨us,bI,ag.none,ag.none,h1,ad.au.read hZ t m.af (fun b o h=>hF b o (a7 b o h)) h2,aA.au.read hZ ak m.dC (fun b o h=>hF b o (bh b o h)) h3,fun _ _ h=>h.elim,fun _ _ h=>h,fun _ _ h=>h⟩
end
mutual
theorem sA{w:World}{Z:ag} : ∀ {t:ad} {x:t.D} {vs:List Value} {F:ag},t.au w Z .R x vs F→t.au w Z .R x vs ag.none
 | .int _,_,_,_,h=>by simpa only [ad.au] using h
 | .bool,_,_,_,h=>by simpa only [ad.au] using h
 | .str,_,_,_,h=>by simpa only [ad.au] using h
 | .raw,_,_,_,h=>by simpa only [ad.au] using h
 | .sl t,_,_,_,h=>by simpa only [ad.au] using h
 | .st ak,_,_,_,h=>by simp only [ad.au] at h ⊢;exact SC h
theorem SC{w:World}{Z:ag} : ∀ {ak:aA} {x:ak.D} {vs:List Value} {F:ag},ak.au w Z (bg.parts .R) x vs F→ak.au w Z (bg.parts .R) x vs ag.none
 | .nil,_,_,_,h=>by simpa only [aA.au] using h
 | .cons t ak,_,_,_,h=>by simp only [aA.au] at h ⊢;obtain ⟨us,bI,G,H,h1,h2,h3,h4,a7,bh⟩:=h;exact⟨us,bI,ag.none,ag.none,h1,sA h2,SC h3,fun _ _ h=>h.elim,fun _ _ h=>h,fun _ _ h=>h⟩
end
mutual
theorem sq{w:World}{Z Z':ag} : ∀(t:ad) {m m':bg} {x:t.D} {vs:List Value} {F F':ag},t.flat=true→t.au w Z m x vs F→t.au w Z' m' x vs F'
 | .int _,_,_,_,_,_,_,_,h=>by simpa only [ad.au] using h
 | .bool,_,_,_,_,_,_,_,h=>by simpa only [ad.au] using h
 | .str,_,_,_,_,_,_,_,h=>by simpa only [ad.au] using h
 | .raw,_,_,_,_,_,_,_,h=>by simpa only [ad.au] using h
 | .sl t,_,_,_,_,_,_,hf,h=>by simp [ad.flat] at hf
 | .st ak,_,_,_,_,_,_,hf,h=>by simp only [ad.flat] at hf;simp only [ad.au] at h ⊢;exact SD ak hf h
theorem SD{w:World}{Z Z':ag} : ∀(ak:aA) {m m':c3} {x:ak.D} {vs:List Value} {F F':ag},ak.flat=true→ak.au w Z m x vs F→ak.au w Z' m' x vs F'
 | .nil,_,_,_,_,_,_,_,h=>by simpa only [aA.au] using h
 | .cons t ak,_,_,_,_,_,_,hf,h=>by
  simp only [aA.flat] at hf;simp only [aA.au] at h ⊢;obtain ⟨us,bI,G,H,h1,h2,h3,h4,a7,bh⟩:=h;cases hb:t.flat
  ·rw [hb] at hf;simp at hf
  ·rw [hb] at hf;exact⟨us,bI,ag.none,ag.none,h1,sq t hb h2,SD ak hf h3,fun _ _ h=>h.elim,fun _ _ h=>h.elim,fun _ _ h=>h.elim⟩
end
mutual
theorem uJ{w:World}{Z Z':ag} : ∀(t:ad) {x:t.D} {vs:List Value} {F:ag},t.au w Z t.own x vs F→t.au w Z' t.own x vs F
 | .int _,_,_,_,h=>by simpa only [ad.au] using h
 | .bool,_,_,_,h=>by simpa only [ad.au] using h
 | .str,_,_,_,h=>by simpa only [ad.au] using h
 | .raw,_,_,_,h=>by simpa only [ad.au] using h
 | .sl t,_,_,_,h=>by
  simp only [ad.own,ad.au] at h ⊢;obtain ⟨A,c,h1,h2⟩:=h;refine⟨A,c,h1,h2.imp (fun h=>h) ?_⟩
  rintro ⟨a,h3,h4⟩
  obtain ⟨G,g1,g2,g3⟩:=h4.row;exact⟨a,h3,h4.spot,h4.cap,h4.wr,h4.inF,G,g1.imp (fun y vs dv _=>uJ t) (fun _ _=>rfl),g2,g3⟩
 | .st ak,_,_,_,h=>by
  simp only [ad.own] at h ⊢;cases hb:ak.flat
  ·rw [hb] at h;simp only [ad.au,bg.parts,Bool.false_eq_true,if_false] at h ⊢;exact Df ak h
  ·rw [hb] at h;exact sq (.st ak) (by simp only [ad.flat];exact hb) h
theorem Df{w:World}{Z Z':ag} : ∀(ak:aA) {x:ak.D} {vs:List Value} {F:ag},ak.au w Z ak.own x vs F→ak.au w Z' ak.own x vs F
 | .nil,_,_,_,h=>by simpa only [aA.au] using h
 | .cons t ak,_,_,_,h=>by simp only [aA.own,aA.au,c3.af,c3.dC] at h ⊢;obtain ⟨us,bI,G,H,h1,h2,h3,h4,a7,bh⟩:=h;exact⟨us,bI,G,H,h1,uJ t h2,Df ak h3,h4,a7,bh⟩
end
end Go.LM
namespace Go.LM
structure bH where
 base:Option Addr
 cap:Nat
 F:ag
def dt(ι : Nat→bH)(dp:List (Nat×Nat)):ag:=fun b o=>∃d,d∈dp∧(ι d.1).F b o
def known(s:ar)(id:Nat):Prop:=s.o id≠.none
def eI(s:ar)(d:Nat×Nat):Prop:=known s d.1∧(s.o d.1=.dead∨d.2≤kM s d.1)
def cB.live:cB→Prop
 | .row .. | .var .. => True
 | _=>False
structure Kz(i:bH)(size:Nat)(sub:Option (Nat×Nat))(len:Nat)(A:Option Addr)(n c:Nat):Prop where
 SE:n=match sub with | none=>len | some (_,m)=>m
 fits:eB sub+n≤len
 le:n≤c
 cap:eB sub+c≤i.cap
 at_:c=0∨∃a,i.base=some a∧A=some (at_ a.block (a.off+eB sub*size))
theorem lW{o:cB}{t:ad}{em:bg}{ver:Nat}{xs:List t.D}(h:o=.row t em ver xs):o.core=.row t em ver xs:=by rw [h];rfl
def jI(s:ar)(ι : Nat→bH)(p:Place)(a:Addr):Prop:=
 a.spot=none∧match (s.o p.id).core with
  | .var _ cs=>p.fF=none∧∃a0,(ι p.id).base=some a0∧a=at_ a0.block (a0.off+p.off)
  | .row t _ _ xs=>∃i,p.fF=some i∧i<xs.length∧∃a0,(ι p.id).base=some a0∧a=at_ a0.block (a0.off+i*t.size+p.off)
  | _=>True
def sB(w:World)(s:ar)(ι : Nat→bH)(dp:List (Nat×Nat))(cI:Option Place)(v:Value):Prop:=
 ∀p,cI=some p→(∃d,d∈dp∧d.1=p.id)∧(alive s dp=true→∃b o,jI s ι p (at_ b o)∧w.cell? (at_ b o)=some v∧(ι p.id).F b o)
theorem sB.none{w:World}{s:ar}{ι : Nat→bH}{dp:List (Nat×Nat)}{v:Value} : sB w s ι dp none v:=fun p h=>by cases h
def cr(w:World)(Z:ag)(s:ar)(ι : Nat→bH):bb→Value→Prop
 | .int k x,v=>v=.int k x
 | .bool x,v=>v=.bool x
 | .str x,v=>∃b:ByteArray,v=.string b∧b.data.toList=x
 | .raw x,v=>v=x∧∃A n c,x=.slice A n c
 | .nil _,v=>v=.slice none 0 0
 | .bM t dp cI xs,v=>(∀d,d∈dp→eI s d)∧(∃A n c,v=.slice A n c) ∧
   (alive s dp=true→(ad.sl t).au w (Z.or (dt ι dp)) .R xs [v] ag.none)∧sB w s ι dp cI v
 | .af id sub,v=>known s id∧∃A n c,v=.slice A n c∧∀t em ver xs,(s.o id).core=.row t em ver xs→Kz (ι id) t.size sub xs.length A n c
def bL(w:World)(Z:ag)(s:ar)(ι : Nat→bH):List bb→List Value→Prop
 | [],[]=>True
 | c :: cs,v :: vs=>cr w Z s ι c v∧bL w Z s ι cs vs
 | _,_=>False
mutual
def aT(w:World)(Z:ag)(s:ar)(ι : Nat→bH):ba→Value→Prop
 | .aB,_=>True
 | .gone,v=>v=undef
 | .aV c,v=>cr w Z s ι c v
 | .iK cs,v=>∃vs,v=.agg vs.toArray∧bL w Z s ι cs vs
 | .ptr p,v=>known s p.id∧∃a,v=.pointer (some a)∧jI s ι p a
 | .du dp cs off,v=>(∀d,d∈dp→eI s d)∧∃b o vs,v=.pointer (some (at_ b (o+off))) ∧
   (alive s dp=true→bL w Z s ι cs vs∧cc w b o vs∧∀j,j<cs.length→Z.or (dt ι dp) b (o+j))
 | .kg,v=>v=.pointer none
 | .lh,v=>v=.slice none 0 0
 | .opt id o,v=>known s id∧((o<0∧v=.pointer none)∨(0≤o∧∃a,v=.pointer (some a)∧jI s ι ⟨id,some o.toNat,0⟩ a))
 | .sr t,v=>v.cells.toList.length=t.size∧∀u∈v.cells.toList,LM.ep u=true
 | .may b dp cs,v=>(b=false∧v=.pointer none)∨(b=true∧(∀d,d∈dp→eI s d)∧∃b o vs,v=.pointer (some (at_ b (o+0))) ∧
   (alive s dp=true→bL w Z s ι cs vs∧cc w b o vs∧∀j,j<cs.length→Z.or (dt ι dp) b (o+j)))
 | .fn f first lR,v=>∃us vs,v=.func (.func f) us.toArray vs.toArray∧a' w Z s ι first us∧a' w Z s ι lR vs
 | .pM l,v=>∃vs,v=.tuple vs.toArray∧a' w Z s ι l vs
def a'(w:World)(Z:ag)(s:ar)(ι : Nat→bH):List ba→List Value→Prop
 | [],vs=>vs=[]
 | x :: l,vs=>∃v bI,vs=v :: bI∧aT w Z s ι x v∧a' w Z s ι l bI
end
def iq(w:World)(Z:ag)(s:ar)(ι : Nat→bH)(i:bH):cB→Prop
 | .row t em _ xs=>(xs=[]∧i.cap=0)∨∃a,i.base=some a∧nB w (t.au w Z em) t.size xs a i.cap i.F
 | .var _ cs=>∃a vs,i.base=some a∧a.spot=none∧bL w Z s ι cs vs∧cc w a.block a.off vs ∧
   (∀j,j<cs.length→fE w a.block (a.off+j)∧i.F a.block (a.off+j))
 | _=>True
structure Seen where
 dp:List (Nat×Nat)
 b:Nat
 o:Nat
 vs:List Value
def uK(w:World)(Z:ag)(s:ar)(ι : Nat→bH)(e:Seen):Prop:=
 (∀d,d∈e.dp→eI s d)∧(alive s e.dp=true→cc w e.b e.o e.vs∧∀j,j<e.vs.length→Z.or (dt ι e.dp) e.b (e.o+j))
structure cM where
 n:Nat
 q0:List Value
 gc:List Seen
instance:Coe cM Nat:=⟨cM.n⟩
structure Inv(w0:World)(F0 Z0:ag)(n:cM)(s:ar)(a:Act)(w:World)(ι : Nat→bH)(Z:ag):Prop where
 ext:Ext w0 w F0
 dL:∀b o,Z b o→Z0 b o∨F0 b o∨w0.heap.size≤b
 sC:ag.sub Z0 Z
 ji:∀b o,Z b o→b<w.heap.size
 gf:∀id,iq w Z s ι (ι id) (s.o id)
 own:∀id,(s.o id).live→∀b o,(ι id).F b o→(F0 b o∨w0.heap.size≤b)∧b<w.heap.size
 apart:∀id eh,(s.o id).live→(s.o eh).live→id≠eh→ag.apart (ι id).F (ι eh).F
 db:∀id,(s.o id).live→ag.apart (ι id).F Z
 tmps:∀k,aT w Z s ι (s.t k) (a.tmps.getD k undef)
 size:a.tmps.size=n.n
 ghost:a' w Z s ι s.g n.q0
 seen:∀e,e∈n.gc→uK w Z s ι e
 defers:a.defers=[]
theorem bL.len{w:World}{Z:ag}{s:ar}{ι : Nat→bH} : ∀ {cs:List bb} {vs:List Value},bL w Z s ι cs vs→vs.length=cs.length
 | [],[],_=>rfl
 | _ :: _,_ :: _,h=>by simp [bL.len h.2]
 | [],_ :: _,h=>h.elim
 | _ :: _,[],h=>h.elim
theorem cr.ep{w:World}{Z:ag}{s:ar}{ι : Nat→bH} : ∀ {c:bb} {v:Value},cr w Z s ι c v→LM.ep v=true
 | .int _ _,_,h=>by cases h;rfl
 | .bool _,_,h=>by cases h;rfl
 | .str _,_,⟨_,h,_⟩=>by cases h;rfl
 | .raw _,_,⟨h,_,_,_,h2⟩=>by subst h;subst h2;rfl
 | .nil _,_,h=>by cases h;rfl
 | .bM _ _ _ _,_,⟨_,⟨_,_,_,h⟩,_,_⟩=>by cases h;rfl
 | .af _ _,_,⟨_,_,_,_,h,_⟩=>by cases h;rfl
theorem bL.ep{w:World}{Z:ag}{s:ar}{ι : Nat→bH} : ∀ {cs:List bb} {vs:List Value},bL w Z s ι cs vs→∀v∈vs,LM.ep v=true
 | [],[],_=>by simp
 | _ :: _,_ :: _,h=>by
  intro v hv;rcases List.mem_cons.1 hv with rfl | hv
  ·exact h.1.ep
  ·exact bL.ep h.2 v hv
 | [],_ :: _,h=>h.elim
 | _ :: _,[],h=>h.elim
theorem bL.append{w:World}{Z:ag}{s:ar}{ι : Nat→bH} : ∀ {cs ds:List bb} {us vs:List Value},bL w Z s ι cs us→bL w Z s ι ds vs→bL w Z s ι (cs++ds) (us++vs)
 | [],_,[],_,_,k=>k
 | _ :: _,_,_ :: _,_,h,k=>⟨h.1,bL.append h.2 k⟩
 | [],_,_ :: _,_,h,_=>h.elim
 | _ :: _,_,[],_,h,_=>h.elim
theorem bL.split{w:World}{Z:ag}{s:ar}{ι : Nat→bH} : ∀ {cs ds:List bb} {vs:List Value},bL w Z s ι (cs++ds) vs →
  ∃us ak,vs=us++ak∧us.length=cs.length∧bL w Z s ι cs us∧bL w Z s ι ds ak
 | [],ds,vs,h=>⟨[],vs,rfl,rfl,trivial,h⟩
 | c :: cs,ds,v :: vs,h=>by obtain ⟨us,ak,h1,h2,h3,h4⟩:=bL.split (cs:=cs) h.2;exact⟨v :: us,ak,by rw [h1];rfl,by simp [h2],⟨h.1,h3⟩,h4⟩
 | _ :: _,_,[],h=>h.elim
theorem bL.drop{w:World}{Z:ag}{s:ar}{ι : Nat→bH} : ∀(k:Nat) {cs:List bb} {vs:List Value},bL w Z s ι cs vs→bL w Z s ι (cs.drop k) (vs.drop k)
 | 0,_,_,h=>h
 | _+1,[],[],h=>h
 | k+1,_ :: _,_ :: _,h=>bL.drop k h.2
 | _+1,[],_ :: _,h=>h.elim
 | _+1,_ :: _,[],h=>h.elim
theorem bL.take{w:World}{Z:ag}{s:ar}{ι : Nat→bH} : ∀(k:Nat) {cs:List bb} {vs:List Value},bL w Z s ι cs vs→bL w Z s ι (cs.take k) (vs.take k)
 | 0,_,_,h=>trivial
 | _+1,[],[],h=>h
 | k+1,_ :: _,_ :: _,h=>⟨h.1,bL.take k h.2⟩
 | _+1,[],_ :: _,h=>h.elim
 | _+1,_ :: _,[],h=>h.elim
theorem bL.mono{w w':World}{Z Z':ag}{s av:ar}{ι bm:Nat→bH}(hc:∀c v,cr w Z s ι c v→cr w' Z' av bm c v) :
  ∀ {cs:List bb} {vs:List Value},bL w Z s ι cs vs→bL w' Z' av bm cs vs
 | [],[],_=>trivial
 | _ :: _,_ :: _,h=>⟨hc _ _ h.1,bL.mono hc h.2⟩
 | [],_ :: _,h=>h.elim
 | _ :: _,[],h=>h.elim
inductive jj:cB→bH→cB→bH→Prop
 | stay (o:cB) (i:bH):jj o i o i
 | made (o':cB) (i ei:bH):jj .none i o' ei
 | dead (o:cB) (i ei:bH):jj o i .dead ei
 | row (t:ad) (em gD:bg) (v eY:Nat) (xs gg:List t.D) (i ei:bH) (hv:v<eY) (hl:gg.length=xs.length) (hb:ei.base=i.base) (hc:ei.cap=i.cap):jj (.row t em v xs) i (.row t gD eY gg) ei
 | var (v eY:Nat) (cs cs':List bb) (i:bH) (hv:v<eY) (hl:cs'.length=cs.length):jj (.var v cs) i (.var eY cs') i
 | fG (o:cB) (i:bH) (hl:o.live):jj o i (.cm o) i
 | sD (t:ad) (em gD:bg) (v eY:Nat) (xs gg:List t.D) (i ei:bH) (hv:v<eY) (hl:gg.length=xs.length) (hb:ei.base=i.base) (hc:ei.cap=i.cap):jj (.cm (.row t em v xs)) i (.row t gD eY gg) ei
 | zS (v eY:Nat) (cs cs':List bb) (i ei:bH) (hv:v<eY) (hb:ei.base=i.base):jj (.cm (.var v cs)) i (.var eY cs') ei
def sE(s:ar)(ι : Nat→bH)(av:ar)(bm:Nat→bH):Prop:=∀id,jj (s.o id) (ι id) (av.o id) (bm id)
theorem sE.known{s av:ar}{ι bm:Nat→bH}(h:sE s ι av bm){id:Nat}(hk:known s id):known av id:=by unfold LM.known at *;have:=h id;generalize s.o id=o at *;generalize av.o id=o' at *;generalize ι id=i at *;generalize bm id=ei at *;cases this <;> simp_all
theorem sE.dep{s av:ar}{ι bm:Nat→bH}(h:sE s ι av bm){d:Nat×Nat}(hk:eI s d):eI av d:=by
 refine⟨h.known hk.1,?_⟩;obtain ⟨k1,k2⟩:=hk;unfold LM.known kM at *;have:=h d.1;generalize s.o d.1=o at *;generalize av.o d.1=o' at *;generalize ι d.1=i at *;generalize bm d.1=ei at *
 cases this with
 | stay=>exact k2
 | made=>exact absurd rfl k1
 | dead=>exact .inl rfl
 | row t em gD v eY xs gg i ei lX hl hb hc=>rcases k2 with h | h;exact absurd h (by simp);exact .inr (by dsimp only at *;omega)
 | var v eY cs cs' i lX hl=>rcases k2 with h | h;exact absurd h (by simp);exact .inr (by dsimp only at *;omega)
 | fG o i hl=>
  rcases k2 with h | h
  ·rw [h] at hl;exact hl.elim
  ·cases o <;> first | exact hl.elim | exact .inr h
 | sD t em gD v eY xs gg i ei lX hl hb hc=>rcases k2 with h | h;exact absurd h (by simp);exact .inr (by dsimp only at *;omega)
 | zS v eY cs cs' i ei lX hb=>rcases k2 with h | h;exact absurd h (by simp);exact .inr (by dsimp only at *;omega)
theorem sE.stays{s av:ar}{ι bm:Nat→bH}(h:sE s ι av bm):∀ {dp:List (Nat×Nat)},(∀d,d∈dp→eI s d)→alive av dp=true →
  alive s dp=true∧∀d,d∈dp→av.o d.1=s.o d.1 ∧ bm d.1 = ι d.1∧(s.o d.1).live
 | [],_,_=>⟨rfl,by simp⟩
 | (id,v) :: dp,hk,ha=>by
  have gh:=fun ha=>sE.stays h (dp:=dp) (fun d af=>hk d (by simp [af])) ha
  obtain ⟨k1,k2⟩:=hk (id,v) (by simp);have ht:=h id;simp only [LM.known,kM] at k1 k2;unfold alive at ha ⊢;generalize ho:s.o id=o at *;generalize sF:av.o id=o' at *;generalize hi : ι id=i at *;generalize dk : bm id=ei at *
  cases ht with
  | stay=>
   cases o with
   | row t em w xs=>
    dsimp only at ha ⊢;cases hb:Nat.beq w v
    ·rw [hb] at ha;simp at ha
    ·rw [hb] at ha;obtain ⟨bE,cp⟩:=gh ha;refine⟨bE,fun d af=>?_⟩;rcases List.mem_cons.1 af with rfl | af
     ·exact⟨by rw [ho,sF],by rw [hi,dk],by rw [ho];trivial⟩
     ·exact cp d af
   | var w cs=>
    dsimp only at ha ⊢;cases hb:Nat.beq w v
    ·rw [hb] at ha;simp at ha
    ·rw [hb] at ha;obtain ⟨bE,cp⟩:=gh ha;refine⟨bE,fun d af=>?_⟩;rcases List.mem_cons.1 af with rfl | af
     ·exact⟨by rw [ho,sF],by rw [hi,dk],by rw [ho];trivial⟩
     ·exact cp d af
   | none=>simp at ha
   | dead=>simp at ha
   | cm=>simp at ha
  | made=>exact absurd rfl k1
  | dead=>simp at ha
  | fG=>simp at ha
  | sD t em gD w w' xs gg i ei hv hl hb hc=>
   dsimp only at ha;cases hb:Nat.beq w' v
   ·rw [hb] at ha;simp at ha
   ·have:=Nat.eq_of_beq_eq_true hb;simp at k2;omega
  | zS w w' cs cs' i ei hv hb=>
   dsimp only at ha;cases hb:Nat.beq w' v
   ·rw [hb] at ha;simp at ha
   ·have:=Nat.eq_of_beq_eq_true hb;simp at k2;omega
  | row t em gD w w' xs gg i ei hv hl hb hc=>
   dsimp only at ha;cases hb:Nat.beq w' v
   ·rw [hb] at ha;simp at ha
   ·have:=Nat.eq_of_beq_eq_true hb;simp at k2;omega
  | var w w' cs cs' i hv hl=>
   dsimp only at ha;cases hb:Nat.beq w' v
   ·rw [hb] at ha;simp at ha
   ·have:=Nat.eq_of_beq_eq_true hb;simp at k2;omega
def SF(s:ar)(ι : Nat→bH)(av:ar)(bm:Nat→bH)(Z:ag):ag:=
 fun b o=>Z b o∨∃id,(s.o id).live∧av.o id=s.o id ∧ bm id = ι id∧(ι id).F b o
section
variable{w w':World}{Z Z':ag}{s av:ar}{ι bm:Nat→bH}
structure eU(w:World)(Z:ag)(s:ar)(ι : Nat→bH)(w':World)(Z':ag)(av:ar)(bm:Nat→bH):Prop where
 turns:sE s ι av bm
 dL:ag.sub Z Z'
 same:cf w w' (SF s ι av bm Z)
theorem eU.dt(h:eU w Z s ι w' Z' av bm){dp:List (Nat×Nat)}(hk:∀d,d∈dp→eI s d)(ha:alive av dp=true) :
  cf w w' (Z.or (dt ι dp))∧ag.sub (Z.or (LM.dt ι dp)) (Z'.or (LM.dt bm dp)):=by
 obtain ⟨h1,h2⟩:=h.turns.stays hk ha;refine⟨h.same.mono ?_,?_⟩
 ·rintro b o (hz | ⟨d,af,hf⟩)
  ·exact .inl hz
  ·exact .inr ⟨d.1,(h2 d af).2.2,(h2 d af).1,(h2 d af).2.1,hf⟩
 ·rintro b o (hz | ⟨d,af,hf⟩)
  ·exact .inl (h.dL b o hz)
  ·exact .inr ⟨d,af,by rw [(h2 d af).2.1];exact hf⟩
theorem jI.move(h:eU w Z s ι w' Z' av bm){p:Place}{a:Addr}(hk:known s p.id)(aw:jI s ι p a):jI av bm p a:=by
 obtain ⟨hs,aw⟩:=aw;refine⟨hs,?_⟩;have ht:=h.turns p.id;unfold known at hk;generalize s.o p.id=o at *;generalize av.o p.id=o' at *;generalize ι p.id=i at *;generalize bm p.id=ei at *
 cases ht with
 | stay=>exact aw
 | made=>exact absurd rfl hk
 | dead=>trivial
 | row t em gD v eY xs gg i ei hv hl hb hc=>obtain ⟨k,h1,h2,h3⟩:=aw;exact⟨k,h1,by omega,by rw [hb];exact h3⟩
 | var=>exact aw
 | fG o i hl=>cases o <;> first | exact hl.elim | exact aw
 | sD t em gD v eY xs gg i ei hv hl hb hc=>obtain ⟨k,h1,h2,h3⟩:=aw;exact⟨k,h1,by omega,by rw [hb];exact h3⟩
 | zS v eY cs cs' i ei hv hb=>obtain ⟨h1,h2⟩:=aw;exact⟨h1,by rw [hb];exact h2⟩
theorem sB.move(h:eU w Z s ι w' Z' av bm){dp:List (Nat×Nat)}{cI:Option Place}{v:Value}(hk:∀d,d∈dp→eI s d)(ho:sB w s ι dp cI v):sB w' av bm dp cI v:=by
 intro p aw;obtain ⟨⟨d,af,cj⟩,h2⟩:=ho p aw;refine⟨⟨d,af,cj⟩,fun ha=>?_⟩;obtain ⟨c0,d_⟩:=h.dt hk ha;obtain ⟨s1,s2⟩:=h.turns.stays hk ha;obtain ⟨b,o,k1,k2,k3⟩:=h2 s1;refine⟨b,o,k1.move h (cj ▸ (hk d af).1),?_,?_⟩
 ·rw [(c0 b o (.inr ⟨d,af,cj ▸ k3⟩)).1];exact k2
 ·rw [← cj,(s2 d af).2.1,cj];exact k3
theorem cr.move(h:eU w Z s ι w' Z' av bm):∀ {c:bb} {v:Value},cr w Z s ι c v→cr w' Z' av bm c v
 | .int _ _,_,hc=>hc
 | .bool _,_,hc=>hc
 | .str _,_,hc=>hc
 | .raw _,_,hc=>hc
 | .nil _,_,hc=>hc
 | .bM t dp cI xs,v,⟨h1,h2,h3,h4⟩=>by refine⟨fun d af=>h.turns.dep (h1 d af),h2,fun ha=>?_,h4.move h h1⟩;obtain ⟨a,b⟩:=h.dt h1 ha;exact ad.au.mono b _ _ (fun _ _ h=>h) (ad.au.same a _ _ (fun _ _ h=>h.elim) (h3 (h.turns.stays h1 ha).1))
 | .af id sub,v,⟨h1,A,n,c,hv,h2⟩=>by
  refine⟨h.turns.known h1,A,n,c,hv,fun t em ver xs ho=>?_⟩;have ht:=h.turns id;unfold LM.known at h1;generalize xx:s.o id=o at *;generalize hii : ι id=i at *;generalize atk:av.o id=o' at *;generalize atl : bm id=ei at *
  cases ht with
  | stay=>exact h2 _ _ _ _ ho
  | made=>exact absurd rfl h1
  | dead=>simp [cB.core] at ho
  | row t em gD v eY xs gg i ei hv hl hb hc=>simp only [cB.core,cB.row.injEq] at ho;obtain ⟨rfl,_,_,ho⟩:=ho;have:=eq_of_heq ho;subst this;obtain ⟨c0,d_,gQ,hp,h5⟩:=h2 _ _ _ _ rfl;exact⟨by rw [hl];exact c0,by rw [hl];exact d_,gQ,by rw [hc];exact hp,by rw [hb];exact h5⟩
  | var=>simp [cB.core] at ho
  | fG o i hl=>exact h2 _ _ _ _ (by cases o <;> first | exact hl.elim | exact ho)
  | sD t em gD v eY xs gg i ei hv hl hb hc=>simp only [cB.core,cB.row.injEq] at ho;obtain ⟨rfl,_,_,ho⟩:=ho;have:=eq_of_heq ho;subst this;obtain ⟨c0,d_,gQ,hp,h5⟩:=h2 _ _ _ _ rfl;exact⟨by rw [hl];exact c0,by rw [hl];exact d_,gQ,by rw [hc];exact hp,by rw [hb];exact h5⟩
  | zS=>simp [cB.core] at ho
theorem bL.move(h:eU w Z s ι w' Z' av bm){cs:List bb}{vs:List Value}(hc:bL w Z s ι cs vs):bL w' Z' av bm cs vs:=
 bL.mono (fun _ _=>cr.move h) hc
mutual
theorem aT.move(h:eU w Z s ι w' Z' av bm):∀ {x:ba} {v:Value},aT w Z s ι x v→aT w' Z' av bm x v
 | .aB,_,_=>by simp only [aT]
 | .gone,_,hx=>by simpa only [aT] using hx
 | .aV c,v,hx=>by simp only [aT] at hx ⊢;exact hx.move h
 | .iK cs,v,hx=>by simp only [aT] at hx ⊢;obtain ⟨vs,h1,h2⟩:=hx;exact⟨vs,h1,h2.move h⟩
 | .ptr p,v,hx=>by simp only [aT] at hx ⊢;obtain ⟨h1,a,h2,h3⟩:=hx;exact⟨h.turns.known h1,a,h2,h3.move h h1⟩
 | .du dp cs off,v,hx=>by simp only [aT] at hx ⊢;obtain ⟨h1,b,o,vs,h2,h3⟩:=hx;refine⟨fun d af=>h.turns.dep (h1 d af),b,o,vs,h2,fun ha=>?_⟩;obtain ⟨c0,d_⟩:=h.dt h1 ha;obtain ⟨bE,cp,gi⟩:=h3 (h.turns.stays h1 ha).1;exact⟨bE.move h,c0.De (fun i hi=>gi i (by rw [← bE.len];exact hi)) cp,fun j hj=>d_ _ _ (gi j hj)⟩
 | .sr t,v,hx=>by simpa only [aT] using hx
 | .may q dp cs,v,hx=>by
  simp only [aT] at hx ⊢;rcases hx with hx | ⟨h0,h1,b,o,vs,h2,h3⟩
  ·exact .inl hx
  refine .inr ⟨h0,fun d af=>h.turns.dep (h1 d af),b,o,vs,h2,fun ha=>?_⟩;obtain ⟨c0,d_⟩:=h.dt h1 ha;obtain ⟨bE,cp,gi⟩:=h3 (h.turns.stays h1 ha).1;exact⟨bE.move h,c0.De (fun i hi=>gi i (by rw [← bE.len];exact hi)) cp,fun j hj=>d_ _ _ (gi j hj)⟩
 | .kg,_,hx=>by simpa only [aT] using hx
 | .lh,_,hx=>by simpa only [aT] using hx
 | .opt id o,v,hx=>by simp only [aT] at hx ⊢;obtain ⟨h1,h2⟩:=hx;exact⟨h.turns.known h1,h2.imp (fun x=>x) fun⟨h3,a,h4,a7⟩=>⟨h3,a,h4,a7.move h h1⟩⟩
 | .fn f l m,v,hx=>by simp only [aT] at hx ⊢;obtain ⟨us,vs,h1,h2,h3⟩:=hx;exact⟨us,vs,h1,a'.move h h2,a'.move h h3⟩
 | .pM l,v,hx=>by simp only [aT] at hx ⊢;obtain ⟨vs,h1,h2⟩:=hx;exact⟨vs,h1,a'.move h h2⟩
theorem a'.move(h:eU w Z s ι w' Z' av bm):∀ {x:List ba} {v:List Value},a' w Z s ι x v→a' w' Z' av bm x v
 | [],v,hx=>by simpa only [a'] using hx
 | x :: l,v,hx=>by simp only [a'] at hx ⊢;obtain ⟨u,us,h1,h2,h3⟩:=hx;exact⟨u,us,h1,aT.move h h2,a'.move h h3⟩
end
theorem uK.move(h:eU w Z s ι w' Z' av bm){e:Seen}(he:uK w Z s ι e):uK w' Z' av bm e:=by obtain ⟨h1,h2⟩:=he;refine⟨fun d af=>h.turns.dep (h1 d af),fun ha=>?_⟩;obtain ⟨c0,d_⟩:=h.dt h1 ha;obtain ⟨bE,cp⟩:=h2 (h.turns.stays h1 ha).1;exact⟨c0.De cp bE,fun j hj=>d_ _ _ (cp j hj)⟩
theorem iq.move(h:eU w Z s ι w' Z' av bm){id:Nat}(hl:(s.o id).live→av.o id=s.o id ∧ bm id = ι id){o:cB}(ho:s.o id=o)(hs:iq w Z s ι (ι id) o):iq w' Z' av bm (ι id) o:=by
 cases o with
 | none=>trivial
 | dead=>trivial
 | cm=>trivial
 | row t em ver xs=>
  have ck:(s.o id).live:=by rw [ho];trivial
  have hs1:cf w w' (ι id).F:=h.same.mono fun b o hf=>.inr ⟨id,ck,(hl ck).1,(hl ck).2,hf⟩
  rcases hs with hs | ⟨a,h1,h2⟩
  ·exact .inl hs
  ·refine .inr ⟨a,h1,h2.spot,h2.cap,fun j hj=>hs1.kL (h2.inF j hj) (h2.wr j hj),h2.inF,?_⟩;obtain ⟨G,g1,g2,g3⟩:=h2.row;have hle:xs.length*t.size≤(ι id).cap*t.size:=Nat.mul_le_mul_right _ h2.cap;exact⟨G,g1.imp (fun y vs dv hG hr=>ad.au.mono h.dL _ _ (fun _ _ h=>h) (ad.au.same (h.same.mono fun b o hz=>.inl hz) _ _ (hs1.mono fun b o aC=>g3 b o (hG b o aC)) hr)) (fun j hj=>(hs1 _ _ (h2.inF j (by omega))).1),g2,g3⟩
 | var ver cs=>
  have ck:(s.o id).live:=by rw [ho];trivial
  have hs1:cf w w' (ι id).F:=h.same.mono fun b o hf=>.inr ⟨id,ck,(hl ck).1,(hl ck).2,hf⟩
  obtain ⟨a,vs,h1,h2,h3,h4,a7⟩:=hs;exact⟨a,vs,h1,h2,h3.move h,hs1.De (fun i hi=>(a7 i (by rw [← h3.len];exact hi)).2) h4,fun j hj=>⟨hs1.qT (a7 j hj).2 (a7 j hj).1,(a7 j hj).2⟩⟩
end
end Go.LM
namespace Go.LM
section
variable{w0:World}{F0 Z0:ag}{n:cM}{s av:ar}{a b5:Act}{w w':World}{ι bm:Nat→bH}{Z Z':ag}
theorem Inv.next(h:Inv w0 F0 Z0 n s a w ι Z)(hm:eU w Z s ι w' Z' av bm){S:ag}(hx:Ext w w' S)
  (de:∀b o,S b o→F0 b o∨w0.heap.size≤b)
  (hz:∀b o,Z' b o→Z b o∨((F0 b o∨w0.heap.size≤b)∧b<w'.heap.size))
  (ho:∀id,(av.o id).live→¬(av.o id=s.o id ∧ bm id = ι id)→iq w' Z' av bm (bm id) (av.o id) ∧
   (∀b o,(bm id).F b o→(F0 b o∨w0.heap.size≤b)∧b<w'.heap.size)∧(∀eh,(av.o eh).live→id≠eh→ag.apart (bm id).F (bm eh).F))
  (oO:∀id,(av.o id).live→ag.apart (bm id).F Z')
  (ht:∀k,aT w' Z' av bm (av.t k) (b5.tmps.getD k undef))
  (hn:b5.tmps.size=n) (af:b5.defers=[]) (zT:av.g=s.g:=by rfl):Inv w0 F0 Z0 n av b5 w' bm Z':=by
 have hsz:=hx.size;refine⟨?_,?_,?_,?_,?_,?_,?_,oO,ht,hn,by rw [zT];exact a'.move hm h.ghost,fun e he=>(h.seen e he).move hm,af⟩
 ·refine h.ext.trans' hx de
 ·intro b o hb;rcases hz b o hb with h1 | h1
  ·exact h.dL b o h1
  ·exact .inr h1.1
 ·exact fun b o hb=>hm.dL b o (h.sC b o hb)
 ·intro b o hb;rcases hz b o hb with h1 | h1
  ·exact Nat.lt_of_lt_of_le (h.ji b o h1) hsz
  ·exact h1.2
 ·intro id;by_cases hl:(av.o id).live
  ·by_cases hst:av.o id=s.o id ∧ bm id = ι id
   ·have:=iq.move hm (id:=id) (fun _=>hst) rfl (h.gf id);rw [hst.2,hst.1];exact this
   ·exact(ho id hl hst).1
  ·cases hh:av.o id with
   | none=>trivial
   | dead=>trivial
   | cm=>trivial
   | row=>rw [hh] at hl;exact absurd trivial hl
   | var=>rw [hh] at hl;exact absurd trivial hl
 ·intro id hl b o hf;by_cases hst:av.o id=s.o id ∧ bm id = ι id
  ·rw [hst.2] at hf;have:=h.own id (hst.1 ▸ hl) b o hf;exact⟨this.1,Nat.lt_of_lt_of_le this.2 hsz⟩
  ·exact(ho id hl hst).2.1 b o hf
 ·intro id eh hl gr hne;by_cases hst:av.o id=s.o id ∧ bm id = ι id
  ·by_cases q1:av.o eh=s.o eh ∧ bm eh = ι eh
   ·rw [hst.2,q1.2];exact h.apart id eh (hst.1 ▸ hl) (q1.1 ▸ gr) hne
   ·exact fun b o h1 h2=>(ho eh gr q1).2.2 id hl (Ne.symm hne) b o h2 h1
  ·exact(ho id hl hst).2.2 eh gr hne
theorem cf.jk{S T:ag}(hx:Ext w w' S)(b2:∀b o,T b o→b<w.heap.size)(ha:ag.apart T S):cf w w' T:=
 fun b o ht=>⟨hx.cell (b2 b o ht) (fun hs=>ha b o ht hs),hx.frozen (b2 b o ht)⟩
theorem Inv.sG(h:Inv w0 F0 Z0 n s a w ι Z):∀b o,SF s ι av bm Z b o→b<w.heap.size:=by
 rintro b o (hz | ⟨id,hl,_,_,hf⟩)
 ·exact h.ji b o hz
 ·exact(h.own id hl b o hf).2
theorem cW{α : Type}{f:Nat → α}{i j:Nat}{v : α}(h:i≠j):bW f i v j=f j:=su (Ne.symm h)
theorem Inv.tmp(h:Inv w0 F0 Z0 n s a w ι Z)(ho:av.o=s.o)(ht:∀k,aT w Z av ι (av.t k) (b5.tmps.getD k undef))
  (hn:b5.tmps.size=n) (af:b5.defers=[]) (zT:av.g=s.g:=by rfl):Inv w0 F0 Z0 n av b5 w ι Z:=by
 refine h.next (S:=ag.none) ⟨fun id=>by rw [ho];exact .stay _ _,fun _ _ h=>h,cf.refl _ _⟩ (Ext.refl _ _) (fun _ _ h=>h.elim) (fun _ _ h=>.inl h) ?_ ?_ ht hn af zT
 ·intro id _ hne;exact absurd ⟨by rw [ho],rfl⟩ hne
 ·intro id hl;exact h.db id (by rwa [ho] at hl)
theorem KA(ho:av.o=s.o):eU w Z s ι w Z av ι :=⟨fun id=>by rw [ho];exact .stay _ _,fun _ _ h=>h,cf.refl _ _⟩
theorem KB(t:Array Value)(d k:Nat)(u:Value)(af:d<t.size):(t.setIfInBounds d u).getD k undef=if d=k then u else t.getD k undef:=by
 simp only [Array.getD_eq_getD_getElem?,Array.getElem?_setIfInBounds];by_cases hk:d=k
 ·subst hk;simp [af]
 ·simp [hk]
theorem Inv.set(h:Inv w0 F0 Z0 n s a w ι Z){d:Nat}{v:ba}{u:Value}(hv:aT w Z s ι v u)(af:d<n) :
  Inv w0 F0 Z0 n (s.set d v) (a.put (some d) u) w ι Z:=by
 have hm:eU w Z s ι w Z (s.set d v) ι := KA rfl;refine h.tmp rfl (fun k=>?_) (by simpa [Act.put] using h.size) (by simpa [Act.put] using h.defers);show aT w Z (s.set d v) ι (bW s.t d v k) ((a.tmps.setIfInBounds d u).getD k undef);rw [KB _ _ _ _ (by rw [h.size];exact af)];by_cases hk:d=k
 ·subst hk;rw [cL,if_pos rfl];exact hv.move hm
 ·rw [cW hk,if_neg hk];exact(h.tmps k).move hm
theorem Inv.dst(h:Inv w0 F0 Z0 n s a w ι Z){d:Option Nat}{v:ba}{u:Value}(hv:aT w Z s ι v u)(af:∀k,d=some k→k<n) :
  Inv w0 F0 Z0 n (s.dst d v) (a.put d u) w ι Z:=by
 cases d with
 | none=>exact h
 | some d=>exact h.set hv (af d rfl)
theorem Inv.world(h:Inv w0 F0 Z0 n s a w ι Z)(hx:Ext w w' ag.none):Inv w0 F0 Z0 n s a w' ι Z:=by have hm:eU w Z s ι w' Z s ι :=⟨fun id=>.stay _ _,fun _ _ h=>h,cf.jk hx h.sG (fun _ _ _ h=>h)⟩;refine h.next hm hx (fun _ _ h=>h.elim) (fun _ _ h=>.inl h) ?_ h.db (fun k=>(h.tmps k).move hm) h.size h.defers;intro id _ hne;exact absurd ⟨rfl,rfl⟩ hne
theorem Inv.drew(h:Inv w0 F0 Z0 n s a w ι Z)(m:Nat):Inv w0 F0 Z0 n s a { w with drawn:=m } ι Z:=h.world (Ext.drew _ _ _)
theorem SG(h:Inv w0 F0 Z0 n s a w ι Z){id:Nat}(cj:s.o id=.none)(hx:Ext w w' ag.none)(o:cB)(i:bH) :
  eU w Z s ι w' Z (s.bV id o) (bW ι id i):=by
 refine⟨fun j=>?_,fun _ _ h=>h,cf.jk hx h.sG (fun _ _ _ h=>h)⟩;show jj (s.o j) (ι j) (bW s.o id o j) (bW ι id i j);by_cases hj:id=j
 ·subst hj;rw [cj];exact .made _ _ _
 ·rw [cW hj,cW hj];exact .stay _ _
theorem Inv.new(h:Inv w0 F0 Z0 n s a w ι Z){id:Nat}(cj:s.o id=.none)(hx:Ext w w' ag.none){o:cB}{i:bH}
  (cS:iq w' Z (s.bV id o) (bW ι id i) i o) (hF:∀b o,i.F b o→w.heap.size≤b∧b<w'.heap.size) :
  Inv w0 F0 Z0 n (s.bV id o) a w' (bW ι id i) Z:=by
 have hm:=SG h cj hx o i;have hsz:=h.ext.size;refine h.next hm hx (fun _ _ h=>h.elim) (fun _ _ h=>.inl h) ?_ ?_ (fun k=>(h.tmps k).move hm) h.size h.defers
 ·intro j hl hne;by_cases hj:id=j
  ·subst hj;rw [cL];refine⟨by show iq _ _ _ _ _ (bW s.o id o id);rw [cL];exact cS,fun b o hf=>⟨.inr (by have:=(hF b o hf).1;omega),(hF b o hf).2⟩,fun ln gr j2 b o h1 h2=>?_⟩;rw [cW j2] at h2;have d':(s.o ln).live:=by have:(bW s.o id _ ln).live:=gr;rwa [cW j2] at this
   have:=(h.own ln d' b o h2).2;have:=(hF b o h1).1;omega
  ·exact absurd ⟨cW hj,cW hj⟩ hne
 ·intro j hl b o h1 h2;by_cases hj:id=j
  ·subst hj;rw [cL] at h1;have:=(hF b o h1).1;have:=h.ji b o h2;omega
  ·rw [cW hj] at h1;have d':(s.o j).live:=by have:(bW s.o id _ j).live:=hl;rwa [cW hj] at this
   exact h.db j d' b o h1 h2
theorem KC{id j:Nat}(hl:((s.bV id .dead).o j).live):id≠j∧(s.o j).live:=by
 have h:(bW s.o id cB.dead j).live:=hl;by_cases hj:id=j
 ·subst hj;rw [cL] at h;exact h.elim
 ·rw [cW hj] at h;exact⟨hj,h⟩
theorem adE(h:Inv w0 F0 Z0 n s a w ι Z)(id:Nat)(hZ:ag.sub Z Z'):eU w Z s ι w Z' (s.bV id .dead) ι := by
 refine⟨fun j=>?_,hZ,cf.refl _ _⟩;show jj (s.o j) (ι j) (bW s.o id cB.dead j) (ι j);by_cases hj:id=j
 ·subst hj;rw [cL];exact .dead _ _ _
 ·rw [cW hj];exact .stay _ _
theorem Inv.take(h:Inv w0 F0 Z0 n s a w ι Z)(id:Nat)(hZ:ag.sub Z Z')(hz:∀b o,Z' b o→Z b o∨((s.o id).live∧(ι id).F b o)) :
  Inv w0 F0 Z0 n (s.bV id .dead) a w ι Z':=by
 have hm:=adE h id hZ;refine h.next hm (Ext.refl _ ag.none) (fun _ _ h=>h.elim) ?_ ?_ ?_ (fun k=>(h.tmps k).move hm) h.size h.defers
 ·intro b o hb;rcases hz b o hb with h1 | ⟨h1,h2⟩
  ·exact .inl h1
  ·exact .inr (h.own id h1 b o h2)
 ·intro j hl hne;obtain ⟨hj,d'⟩:=KC hl;exact absurd ⟨cW hj,rfl⟩ hne
 ·intro j hl b o h1 h2;obtain ⟨hj,d'⟩:=KC hl;rcases hz b o h2 with h3 | ⟨h3,h4⟩
  ·exact h.db j d' b o h1 h3
  ·exact h.apart id j h3 d' hj b o h4 h1
end
end Go.LM
namespace Go.LM
theorem Row.drop{α : Type}{w:World}{R : α → List Value→ag→Prop}{size:Nat} : ∀(k:Nat) {x:List α} {b o:Nat} {F:ag},Row w R size x b o F→Row w R size (x.drop k) b (o+k*size) F
 | 0,x,b,o,F,h=>by simpa using h
 | k+1,[],b,o,F,h=>trivial
 | k+1,y :: x,b,o,F,⟨vs,G,H,h1,h2,h3,h4,a7,bh,bJ⟩=>by have:=Row.drop k h4;rw [show o+size+k*size=o +(k+1)*size by rw [Nat.add_one_mul];omega] at this;exact this.mono bJ
theorem Row.take{α : Type}{w:World}{R : α → List Value→ag→Prop}{size:Nat} : ∀(k:Nat) {x:List α} {b o:Nat} {F:ag},Row w R size x b o F→Row w R size (x.take k) b o F
 | 0,x,b,o,F,h=>by rw [List.take_zero];trivial
 | k+1,[],b,o,F,h=>trivial
 | k+1,y :: x,b,o,F,⟨vs,G,H,h1,h2,h3,h4,a7,bh,bJ⟩=>⟨vs,G,H,h1,h2,h3,Row.take k h4,a7,bh,bJ⟩
theorem hy{u t:ad}{xs:List u.D}{x:List t.D}(h:eR (.sl u) (.sl t) xs=some x):∃e:u=t,x=e ▸ xs:=by
 obtain ⟨e,hx⟩:=C_ h;injection e with e
 subst e;exact⟨rfl,hx⟩
section
variable{w0:World}{F0 Z0:ag}{n:cM}{s av:ar}{a:Act}{w:World}{ι : Nat→bH}{Z Z':ag}
structure bK(w0:World)(F0:ag)(s:ar)(w:World)(ι : Nat→bH)(Z F:ag):Prop where
 own:∀b o,F b o→(F0 b o∨w0.heap.size≤b)∧b<w.heap.size
 apart:∀id,(s.o id).live→ag.apart F (ι id).F
 db:ag.apart F Z
theorem bK.none:bK w0 F0 s w ι Z ag.none:=⟨fun _ _ h=>h.elim,fun _ _ _ _ h=>h.elim,fun _ _ h=>h.elim⟩
structure fj(s:ar)(ι : Nat→bH)(Z:ag)(av:ar)(Z':ag):Prop where
 o:∀id,av.o id=s.o id∨((s.o id).live∧av.o id=.dead)
 t:av.t=s.t
 g:av.g=s.g
 dL:ag.sub Z Z'
 pR:∀b o,Z' b o→Z b o∨∃id,(s.o id).live∧av.o id=.dead∧(ι id).F b o
theorem fj.refl:fj s ι Z s Z:=⟨fun _=>.inl rfl,rfl,rfl,fun _ _ h=>h,fun _ _ h=>.inl h⟩
theorem fj.trans{s2:ar}{bQ:ag}(h:fj s ι Z av Z')(k:fj av ι Z' s2 bQ):fj s ι Z s2 bQ:=by
 refine⟨fun id=>?_,k.t.trans h.t,k.g.trans h.g,fun b o hz=>k.dL b o (h.dL b o hz),fun b o hz=>?_⟩
 ·rcases k.o id with h1 | ⟨h0,h1⟩
  ·rw [h1];exact h.o id
  ·rcases h.o id with h2 | ⟨_,h2⟩
   ·exact .inr ⟨h2 ▸ h0,h1⟩
   ·rw [h2] at h0;exact h0.elim
 ·rcases k.pR b o hz with h1 | ⟨id,h1,h2,h3⟩
  ·rcases h.pR b o h1 with h1 | ⟨id,h1,h2,h3⟩
   ·exact .inl h1
   ·refine .inr ⟨id,h1,?_,h3⟩;rcases k.o id with h4 | ⟨_,h4⟩
    ·rw [h4,h2]
    ·exact h4
  ·rcases h.o id with h4 | ⟨_,h4⟩
   ·exact .inr ⟨id,h4 ▸ h1,h2,h3⟩
   ·rw [h4] at h1;exact h1.elim
theorem fj.eC(h:fj s ι Z av Z'):eU w Z s ι w Z' av ι := by
 refine⟨fun id=>?_,h.dL,cf.refl _ _⟩;rcases h.o id with h1 | ⟨_,h1⟩
 ·rw [h1];exact .stay _ _
 ·rw [h1];exact .dead _ _ _
theorem fj.live(h:fj s ι Z av Z'){id:Nat}(hl:(av.o id).live):(s.o id).live∧av.o id=s.o id:=by
 rcases h.o id with h1 | ⟨_,h1⟩
 ·exact⟨h1 ▸ hl,h1⟩
 ·rw [h1] at hl;exact hl.elim
theorem bK.shrink{F:ag}(hf:bK w0 F0 s w ι Z F)(h:fj s ι Z av Z'):bK w0 F0 av w ι Z' F:=by
 refine⟨hf.own,fun id hl=>hf.apart id (h.live hl).1,fun b o h1 h2=>?_⟩;rcases h.pR b o h2 with h3 | ⟨id,h3,_,h4⟩
 ·exact hf.db b o h1 h3
 ·exact hf.apart id h3 b o h1 h4
theorem bK.or{F G:ag}(hf:bK w0 F0 s w ι Z F)(aC:bK w0 F0 s w ι Z G):bK w0 F0 s w ι Z (F.or G):=
 ⟨fun b o h=>h.elim (hf.own b o) (aC.own b o),fun id hl b o h=>h.elim (hf.apart id hl b o) (aC.apart id hl b o),fun b o h=>h.elim (hf.db b o) (aC.db b o)⟩
theorem Inv.xz(h:Inv w0 F0 Z0 n s a w ι Z){id:Nat}(hl:(s.o id).live):bK w0 F0 (s.bV id .dead) w ι Z (ι id).F:=
 ⟨h.own id hl,fun j hj=>by obtain ⟨h1,h2⟩:=KC hj;exact h.apart id j hl h2 h1,h.db id hl⟩
theorem xA(id:Nat)(hl:(s.o id).live):fj s ι Z (s.bV id .dead) Z:=by
 refine⟨fun j=>?_,rfl,rfl,fun _ _ h=>h,fun _ _ h=>.inl h⟩;by_cases hj:id=j
 ·subst hj;exact .inr ⟨hl,cL _ _ _⟩
 ·exact .inl (cW hj)
theorem SH(h:Inv w0 F0 Z0 n s a w ι Z){id:Nat}(hl:(s.o id).live):fj s ι Z (s.bV id .dead) (Z.or (ι id).F):=by
 refine⟨fun j=>?_,rfl,rfl,fun _ _ h=>.inl h,fun b o hz=>?_⟩
 ·by_cases hj:id=j
  ·subst hj;exact .inr ⟨hl,cL _ _ _⟩
  ·exact .inl (cW hj)
 ·rcases hz with h1 | h1
  ·exact .inl h1
  ·exact .inr ⟨id,hl,cL _ _ _,h1⟩
theorem xB{i:bH}{t:ad}{em:bg}{xs:List t.D}{sub:Option (Nat×Nat)}{A:Option Addr}{m c:Nat}{ver:Nat}
  (ho:iq w Z s ι i (.row t em ver xs)) (hh:Kz i t.size sub xs.length A m c) :
  (ad.sl t).au w Z (.O em) (lj sub xs) [.slice A m c] i.F:=by
 obtain ⟨hn,hfit,hle,hcap,cC⟩:=hh
 have hlen:(lj sub xs).length=m:=by
  cases sub with
  | none=>simp [lj,hn]
  | some p=>obtain ⟨lo,k⟩:=p;simp only [lj,part,List.length_take,List.length_drop,eB] at *;omega
 simp only [ad.au];refine⟨A,c,by rw [hlen],?_⟩;rcases cC with h0 | ⟨a0,hb,hA⟩
 ·exact .inl ⟨List.eq_nil_of_length_eq_zero (by omega),h0⟩
 ·rcases ho with⟨hx,h0⟩ | ⟨xC,dM,hr⟩
  ·refine .inl ⟨List.eq_nil_of_length_eq_zero (by omega),by omega⟩
  ·rw [hb] at dM;obtain rfl:=aW dM;refine .inr ⟨_,hA,rfl,by rw [hlen];exact hle,fun j hj=>?_,fun j hj=>?_,?_⟩
   ·have:=hr.wr (eB sub*t.size+j) (by
     have:(eB sub+c)*t.size≤i.cap*t.size:=Nat.mul_le_mul_right _ hcap
     rw [Nat.add_mul] at this;omega)
    rwa [← Nat.add_assoc] at this
   ·have:=hr.inF (eB sub*t.size+j) (by
     have:(eB sub+c)*t.size≤i.cap*t.size:=Nat.mul_le_mul_right _ hcap
     rw [Nat.add_mul] at this;omega)
    rwa [← Nat.add_assoc] at this
   ·obtain ⟨G,g1,g2,g3⟩:=hr.row;refine⟨G,?_,fun j hj=>?_,g3⟩
    ·cases sub with
     | none=>simpa [lj,eB] using g1
     | some p=>obtain ⟨lo,k⟩:=p;exact(g1.drop lo).take k
    ·have:=g2 (eB sub*t.size+j) (by
      have:(eB sub+c)*t.size≤i.cap*t.size:=Nat.mul_le_mul_right _ hcap
      rw [Nat.add_mul] at this;omega)
     rwa [← Nat.add_assoc] at this
theorem KD{t:ad}{c:bb}{xs:List t.D}{v:Value}(h:Inv w0 F0 Z0 n s a w ι Z)(hl:pP s t c=some xs)(hc:cr w Z s ι c v) :
  (ad.sl t).au w (Z.or (dt ι (borrows s c))) .R xs [v] ag.none∧alive s (borrows s c)=true∧∀d,d∈borrows s c→eI s d:=by
 cases c with
 | nil u=>obtain ⟨e,rfl⟩:=hy hl;subst e;have hv:v=.slice none 0 0:=hc;subst hv;refine⟨?_,rfl,by simp [borrows]⟩;simp only [ad.au];exact⟨none,0,rfl,.inl trivial⟩
 | bM u dp cI ys=>
  simp only [pP] at hl;obtain ⟨h1,h2,h3⟩:=hc
  cases ha:alive s dp with
  | false=>rw [ha] at hl;simp at hl
  | true=>rw [ha] at hl;obtain ⟨e,rfl⟩:=hy hl;subst e;exact⟨h3.1 ha,ha,h1⟩
 | af id sub=>
  simp only [pP] at hl;obtain ⟨h1,A,m,k,rfl,h2⟩:=hc
  cases ho:s.o id with
  | row u em ver ys=>
   rw [ho] at hl;obtain ⟨e,rfl⟩:=hy hl;subst e;have hb:borrows s (.af id sub)=[(id,ver)]:=by simp only [borrows,ho]
   rw [hb];refine⟨?_,?_,?_⟩
   ·have c7:=h.gf id;rw [ho] at c7;refine ad.au.read (fun _ _ h=>.inl h) _ _ (fun b o hf=>.inr ⟨(id,ver),by simp,hf⟩) (xB c7 (h2 u em ver ys (lW ho)))
   ·simp [alive,ho]
   ·intro d af;simp at af;subst af;exact⟨h1,.inr (by simp [kM,ho])⟩
  | _=>rw [ho] at hl;simp at hl
 | _=>simp [pP] at hl
theorem KE(ι : Nat→bH)(nb bt:List (Nat×Nat)):ag.sub (dt ι bt) (dt ι (nb++bt)):=
 fun b o ⟨d,h1,h2⟩=>⟨d,List.mem_append.2 (.inr h1),h2⟩
def zU(w0:World)(F0 Z0:ag)(n:cM)(s:ar)(a:Act)(w:World)(ι : Nat→bH)(Z:ag)(b:Bool)(R:ag→List Value→ag→Prop)(vs:List Value)
  (cs':List bb) (av:ar) (bt nG:List (Nat×Nat)):Prop:=
 ∃us bI F Z',vs=us++bI∧Inv w0 F0 Z0 n av a w ι Z'∧fj s ι Z av Z'∧bL w Z' av ι cs' bI∧bK w0 F0 av w ι Z' F ∧
  R (Z'.or (dt ι nG)) us F∧(∃nb,nG=nb++bt)∧(b=false→nG=bt)∧(∀d,d∈nG→eI av d) ∧
  ∀b o,F b o→∃id,(s.o id).live∧(ι id).F b o
theorem xD{b:Bool}{R:ag→List Value→ag→Prop}{v:Value}{bI:List Value}{cs':List bb}{bt:List (Nat×Nat)}(h:Inv w0 F0 Z0 n s a w ι Z)
  (hc:bL w Z s ι cs' bI) (hb:∀d,d∈bt→eI s d) (e6:∀Z,R Z [v] ag.none):zU w0 F0 Z0 n s a w ι Z b R (v :: bI) cs' s bt bt:=
 ⟨[v],bI,ag.none,Z,rfl,h,.refl,hc,.none,e6 _,⟨[],rfl⟩,fun _=>rfl,hb,fun _ _ h=>h.elim⟩
theorem KF(h:fj s ι Z av Z'){d:Nat×Nat}(af:eI s d):eI av d:=by
 obtain ⟨h1,h2⟩:=af;unfold eI known kM at *;rcases h.o d.1 with h3 | ⟨_,h3⟩
 ·rw [h3];exact⟨h1,h2⟩
 ·rw [h3];exact⟨by simp,.inl rfl⟩
theorem SI{t:ad}{e:bg}{x:List t.D}{vs:List Value}{F:ag}(h:(ad.sl t).au w Z (.O e) x vs F) :
  ∃F',ag.sub F' F∧(ad.sl t).au w (Z.or fun b o=>F b o∧¬F' b o) (.O .R) x vs F':=by
 simp only [ad.au] at h ⊢;obtain ⟨A,c,hv,h⟩:=h;rcases h with h | ⟨a,hA,hr⟩
 ·exact⟨ag.none,fun _ _ h=>h.elim,A,c,hv,.inl h⟩
 ·obtain ⟨G,g1,g2,g3⟩:=hr.row;refine⟨ag.run a.block a.off (c*t.size),?_,A,c,hv,.inr ⟨a,hA,hr.spot,hr.cap,hr.wr,fun j hj=>⟨rfl,by omega,by omega⟩,ag.none,?_,fun _ _ h=>h,fun _ _ h=>h.elim⟩⟩
  ·rintro b o ⟨rfl,h1,h2⟩
   have:=hr.inF (o-a.off) (by omega);rwa [show a.off +(o-a.off)=o by omega] at this
  ·refine g1.bare fun y us dv hG aR=>ad.au.read (fun _ _ h=>.inl h) _ _ (fun b o aC=>.inr ⟨g3 b o (hG b o aC),?_⟩) aR
   rintro ⟨rfl,h1,h2⟩
   have:=g2 (o-a.off) (by omega);rw [show a.off +(o-a.off)=o by omega] at this;exact this (hG _ o aC)
theorem adF(t:ad)(b:Bool)(m:bg)(c:bb)(cs:List bb)(s:ar)(bt:List (Nat×Nat))(r:List t.D×List bb×ar×List (Nat×Nat))(v:Value)(vs:List Value)(Z:ag)
  (hi:(ad.sl t).imp b m (c :: cs) s bt=some r) (h:Inv w0 F0 Z0 n s a w ι Z) (hc:bL w Z s ι (c :: cs) (v :: vs)) (hb:∀d,d∈bt→eI s d) :
  zU w0 F0 Z0 n s a w ι Z b (fun Z us F=>(ad.sl t).au w Z m r.1 us F) (v :: vs) r.2.1 r.2.2.1 bt r.2.2.2:=by
 have pS:∀ {Z m},v=.slice none 0 0→(ad.sl t).au w Z m ([]:List t.D) [v] ag.none:=by intro Z m hv;subst hv;cases m <;> simp only [ad.au] <;> exact⟨none,0,rfl,.inl (by simp)⟩
 have frozen:∀(m:bg),m=.R∨(∃ms,m=.S ms)→(ad.sl t).imp b m (c :: cs) s bt=some r →
   zU w0 F0 Z0 n s a w ι Z b (fun Z us F=>(ad.sl t).au w Z m r.1 us F) (v :: vs) r.2.1 r.2.2.1 bt r.2.2.2:=by
  intro m hm hi
  have KG:∀ {Z:ag} {x:List t.D} {us:List Value},(ad.sl t).au w Z .R x us ag.none→(ad.sl t).au w Z m x us ag.none:=by
   rcases hm with rfl | ⟨ms,rfl⟩
   ·exact fun h=>h
   ·intro Z x us h;simpa only [ad.au] using h
  cases b with
  | true=>
   have dk:(pP s t c).bind (fun x=>some (x,cs,s,borrows s c++bt))=some r:=by rcases hm with rfl | ⟨ms,rfl⟩ <;> simpa only [ad.imp] using hi
   obtain ⟨x,hx,dk⟩:=bd dk;obtain rfl:=aW dk;obtain ⟨er,fc,gu⟩:=KD h hx hc.1;refine⟨[v],vs,ag.none,Z,rfl,h,.refl,hc.2,.none,KG (ad.au.mono ?_ _ _ (fun _ _ h=>h) er),⟨_,rfl⟩,fun hf=>by simp at hf,?_,fun _ _ h=>h.elim⟩
   ·rintro b o (hz | ⟨d,af,hf⟩)
    ·exact .inl hz
    ·exact .inr ⟨d,List.mem_append.2 (.inl af),hf⟩
   ·intro d af;rcases List.mem_append.1 af with af | af
    ·exact gu d af
    ·exact hb d af
  | false=>
   cases c with
   | nil u=>
    have dk:(eR (.sl u) (.sl t) ([]:List u.D)).bind (fun x=>some (x,cs,s,bt))=some r:=by rcases hm with rfl | ⟨ms,rfl⟩ <;> simpa only [ad.imp] using hi
    obtain ⟨x,hx,dk⟩:=bd dk;obtain rfl:=aW dk;obtain ⟨e,rfl⟩:=hy hx;subst e;exact xD h hc.2 hb fun Z=>pS hc.1
   | bM u dp cI xs=>
    cases dp with
    | cons d dp=>rcases hm with rfl | ⟨ms,rfl⟩ <;> simp [ad.imp] at hi
    | nil=>
     have dk:(eR (.sl u) (.sl t) xs).bind (fun x=>some (x,cs,s,bt))=some r:=by rcases hm with rfl | ⟨ms,rfl⟩ <;> simpa only [ad.imp] using hi
     obtain ⟨x,hx,dk⟩:=bd dk;obtain rfl:=aW dk;obtain ⟨e,rfl⟩:=hy hx;subst e;have p:=hc.1.2.2.1 rfl;refine⟨[v],vs,ag.none,Z,rfl,h,.refl,hc.2,.none,KG (ad.au.mono ?_ _ _ (fun _ _ h=>h) p),⟨[],rfl⟩,fun _=>rfl,hb,fun _ _ h=>h.elim⟩
     rintro b o (hz | ⟨d,af,hf⟩)
     ·exact .inl hz
     ·simp at af
   | af id sub=>
    cases ho:s.o id with
    | row u em ver xs=>
     have dk:(eR (.sl u) (.sl t) (lj sub xs)).bind (fun x=>some (x,cs,s.bV id .dead,bt))=some r:=by rcases hm with rfl | ⟨ms,rfl⟩ <;> simpa only [ad.imp,ho] using hi
     obtain ⟨x,hx,dk⟩:=bd dk;obtain rfl:=aW dk;obtain ⟨e,rfl⟩:=hy hx;subst e;have hl:(s.o id).live:=by rw [ho];trivial
     obtain ⟨hk,A,m',k,rfl,hh⟩:=hc.1;have c7:=h.gf id;rw [ho] at c7;have p:=xB c7 (hh u em ver xs (lW ho));have iL:=SH h hl;refine⟨[_],vs,ag.none,Z.or (ι id).F,rfl,h.take id (fun _ _ h=>.inl h) (fun b o hz=>hz.imp (fun h=>h) fun h=>⟨hl,h⟩),iL,hc.2.move iL.eC,.none,KG ?_,⟨[],rfl⟩,fun _=>rfl,fun d af=>KF iL (hb d af),fun _ _ h=>h.elim⟩;exact ad.au.read (fun _ _ h=>.inl (.inl h)) _ _ (fun b o hf=>.inl (.inr hf)) p
    | _=>rcases hm with rfl | ⟨ms,rfl⟩ <;> simp [ad.imp,ho] at hi
   | _=>rcases hm with rfl | ⟨ms,rfl⟩ <;> simp [ad.imp] at hi
 cases m with
 | R=>exact frozen _ (.inl rfl) hi
 | S ms=>exact frozen _ (.inr ⟨ms,rfl⟩) hi
 | O e=>
  cases c with
  | nil u=>
   have dk:(eR (.sl u) (.sl t) ([]:List u.D)).bind (fun x=>some (x,cs,s,bt))=some r:=by cases b <;> simpa only [ad.imp] using hi
   obtain ⟨x,hx,dk⟩:=bd dk;obtain rfl:=aW dk;obtain ⟨e,rfl⟩:=hy hx;subst e;exact xD h hc.2 hb fun Z=>pS hc.1
  | af id sub=>
   cases ho:s.o id with
   | row u em ver xs=>
    have dk:(if bg.le em e=true then(eR (.sl u) (.sl t) (lj sub xs)).bind (fun x=>some (x,cs,s.bV id .dead,bt)) else none)=some r:=by cases b <;>(simp only [ad.imp,ho] at hi;rw [← hi];cases bg.le em e <;> rfl)
    split at dk
    case isFalse=>simp at dk
    rename_i hle;obtain ⟨x,hx,dk⟩:=bd dk;obtain rfl:=aW dk;obtain ⟨gP,rfl⟩:=hy hx;subst gP;have hl:(s.o id).live:=by rw [ho];trivial
    obtain ⟨hk,A,m',k,rfl,hh⟩:=hc.1;have c7:=h.gf id;rw [ho] at c7;have p:=xB c7 (hh u em ver xs (lW ho));have fs:=h.xz hl;by_cases KH:em=e
    ·subst KH;have iL:fj s ι Z (s.bV id .dead) Z:=xA id (by rw [ho];trivial)
     exact⟨[_],vs,(ι id).F,Z,rfl,h.take id (fun _ _ h=>h) (fun b o hz=>.inl hz),iL,hc.2.move iL.eC,fs,
      ad.au.mono (fun _ _ h=>.inl h) _ _ (fun _ _ h=>h) p,⟨[],rfl⟩,fun _=>rfl,fun d af=>KF iL (hb d af),fun b o hf=>⟨id,hl,hf⟩⟩
    ·have adG:e=.R:=by
      cases e with
      | R=>rfl
      | O e=>exact absurd (bg.eq_of_beq _ _ hle) KH
      | S e=>exact absurd (bg.eq_of_beq _ _ hle) KH
     subst adG;obtain ⟨F',c0,d_⟩:=SI p
     have iL:fj s ι Z (s.bV id .dead) (Z.or fun b o=>(ι id).F b o∧¬F' b o):=by
      have h0:=SH h hl;refine⟨h0.o,h0.t,h0.g,fun _ _ h=>.inl h,fun b o hz=>?_⟩;rcases hz with h1 | h1
      ·exact .inl h1
      ·exact .inr ⟨id,hl,cL _ _ _,h1.1⟩
     refine⟨[_],vs,F',_,rfl,h.take id (fun _ _ h=>.inl h) (fun b o hz=>hz.imp (fun h=>h) fun h=>⟨hl,h.1⟩),iL,hc.2.move iL.eC,⟨fun b o hf=>fs.own b o (c0 b o hf),fun j hj b o hf=>fs.apart j hj b o (c0 b o hf),?_⟩,
      ad.au.mono (fun _ _ h=>.inl h) _ _ (fun _ _ h=>h) d_,⟨[],rfl⟩,fun _=>rfl,fun d af=>KF iL (hb d af),fun b o hf=>⟨id,hl,c0 b o hf⟩⟩
     rintro b o hf (hz | hz)
     ·exact fs.db b o (c0 b o hf) hz
     ·exact hz.2 hf
   | _=>cases b <;> simp [ad.imp,ho] at hi
  | _=>cases b <;> simp [ad.imp] at hi
mutual
theorem ad.lY:∀(t:ad) (b:Bool) (m:bg) (cs:List bb) (s:ar) (bt:List (Nat×Nat)) (r:t.D×List bb×ar×List (Nat×Nat)) (vs:List Value) (Z:ag),
  t.imp b m cs s bt=some r→Inv w0 F0 Z0 n s a w ι Z→bL w Z s ι cs vs→(∀d,d∈bt→eI s d) →
  zU w0 F0 Z0 n s a w ι Z b (fun Z us F=>t.au w Z m r.1 us F) vs r.2.1 r.2.2.1 bt r.2.2.2
 | .int k,b,m,cs,s,bt,r,vs,Z,hi,h,hc,hb=>by
  cases cs with
  | nil=>cases m <;> simp [ad.imp] at hi
  | cons c cs=>
   cases vs with
   | nil=>exact hc.elim
   | cons v vs=>
    cases c <;> simp only [ad.imp] at hi <;> try (simp at hi;done)
    rename_i k' x;cases hk:Nat.beq (dx k) (dx k')
    ·rw [hk] at hi;simp at hi
    ·rw [hk] at hi;obtain rfl:=aW hi;obtain rfl:=uA (Nat.eq_of_beq_eq_true hk);have hv:v=.int k x:=hc.1;subst hv;exact xD h hc.2 hb fun Z=>by simp only [ad.au]
 | .bool,b,m,cs,s,bt,r,vs,Z,hi,h,hc,hb=>by
  cases cs with
  | nil=>cases m <;> simp [ad.imp] at hi
  | cons c cs=>
   cases vs with
   | nil=>exact hc.elim
   | cons v vs=>
    cases c <;> simp only [ad.imp] at hi <;> try (simp at hi;done)
    obtain rfl:=aW hi;have hv:v=.bool _:=hc.1;subst hv;exact xD h hc.2 hb fun Z=>by simp only [ad.au]
 | .str,b,m,cs,s,bt,r,vs,Z,hi,h,hc,hb=>by
  cases cs with
  | nil=>cases m <;> simp [ad.imp] at hi
  | cons c cs=>
   cases vs with
   | nil=>exact hc.elim
   | cons v vs=>
    cases c <;> simp only [ad.imp] at hi <;> try (simp at hi;done)
    obtain rfl:=aW hi;obtain ⟨q,rfl,hq⟩:=hc.1;exact xD h hc.2 hb fun Z=>by simp only [ad.au];exact⟨q,rfl,hq⟩
 | .raw,b,m,cs,s,bt,r,vs,Z,hi,h,hc,hb=>by
  cases cs with
  | nil=>cases m <;> simp [ad.imp] at hi
  | cons c cs=>
   cases vs with
   | nil=>exact hc.elim
   | cons v vs=>
    cases c <;> simp only [ad.imp] at hi <;> try (simp at hi;done)
    obtain rfl:=aW hi;obtain ⟨q,hq⟩:=hc.1;exact xD h hc.2 hb fun Z=>by simp only [ad.au];exact⟨by rw [q],hq⟩
 | .sl t,b,m,cs,s,bt,r,vs,Z,hi,h,hc,hb=>by
  cases cs with
  | nil=>cases m <;> cases b <;> simp [ad.imp] at hi
  | cons c cs=>
   cases vs with
   | nil=>exact hc.elim
   | cons v vs=>exact adF t b m c cs s bt r v vs Z hi h hc hb
 | .st ak,b,m,cs,s,bt,r,vs,Z,hi,h,hc,hb=>by simp only [ad.imp] at hi;have:=aA.lY ak b m.parts cs s bt r vs Z hi h hc hb;simpa only [ad.au] using this
theorem aA.lY:∀(ak:aA) (b:Bool) (m:c3) (cs:List bb) (s:ar) (bt:List (Nat×Nat)) (r:ak.D×List bb×ar×List (Nat×Nat)) (vs:List Value) (Z:ag),
  ak.imp b m cs s bt=some r→Inv w0 F0 Z0 n s a w ι Z→bL w Z s ι cs vs→(∀d,d∈bt→eI s d) →
  zU w0 F0 Z0 n s a w ι Z b (fun Z us F=>ak.au w Z m r.1 us F) vs r.2.1 r.2.2.1 bt r.2.2.2
 | .nil,b,m,cs,s,bt,r,vs,Z,hi,h,hc,hb=>by simp only [aA.imp] at hi;obtain rfl:=aW hi;exact⟨[],vs,ag.none,Z,rfl,h,.refl,hc,.none,by simp only [aA.au],⟨[],rfl⟩,fun _=>rfl,hb,fun _ _ h=>h.elim⟩
 | .cons t ak,b,m,cs,s,bt,r,vs,Z,hi,h,hc,hb=>by
  simp only [aA.imp] at hi;obtain ⟨bE,h1,hi⟩:=bd hi;obtain ⟨cp,h2,hi⟩:=bd hi;obtain rfl:=aW hi;obtain ⟨us,vs1,F,cH,e1,i1,s1,c1,f1,er,⟨adH,fk⟩,jl,d1,g1⟩:=ad.lY t b m.af cs s bt bE vs Z h1 h hc hb;obtain ⟨us2,vs2,G,bQ,e2,i2,s2,fL,f2,fc,⟨KI,kk⟩,nH,d2,g2⟩:=aA.lY ak b m.dC bE.2.1 bE.2.2.1 bE.2.2.2 cp vs1 cH h2 i1 c1 d1
  have lp:ag.sub (cH.or (dt ι bE.2.2.2)) (bQ.or (dt ι cp.2.2.2)):=by
   rintro b o (hz | hz)
   ·exact .inl (s2.dL b o hz)
   ·rw [kk];exact .inr (KE _ _ _ b o hz)
  refine⟨us++us2,vs2,F.or G,bQ,by rw [e1,e2,List.append_assoc],i2,s1.trans s2,fL,(f1.shrink s2).or f2,?rep,⟨KI++adH,by rw [kk,fk,List.append_assoc]⟩,fun hf=>by rw [nH hf,jl hf],d2,?src⟩
  case src=>
   rintro b o (hf | hf)
   ·exact g1 b o hf
   ·obtain ⟨id,hl,hi⟩:=g2 b o hf;exact⟨id,(s1.live hl).1,hi⟩
  simp only [aA.au];refine⟨us,us2,F,G,rfl,ad.au.mono lp _ _ (fun _ _ h=>h) er,fc,?_,fun _ _ h=>.inl h,fun _ _ h=>.inr h⟩;intro b o h1 h2;obtain ⟨id,hl,hi⟩:=g2 b o h2;exact f1.apart id hl b o h1 hi
end
end
end Go.LM
namespace Go.LM
theorem Row.get{α : Type}{w:World}{R : α → List Value→ag→Prop}{size:Nat} : ∀ {x:List α} {b o:Nat} {F:ag} (i:Nat) (hi:i<x.length),Row w R size x b o F →
  ∃vs G,R x[i] vs G∧vs.length=size∧cc w b (o+i*size) vs∧ag.sub G F
 | y :: x,b,o,F,0,_,⟨vs,G,H,h1,h2,h3,h4,a7,bh,bJ⟩=>⟨vs,G,h1,h2,by simpa using h3,bh⟩
 | y :: x,b,o,F,i+1,hi,⟨vs,G,H,h1,h2,h3,h4,a7,bh,bJ⟩=>by obtain ⟨us,dv,k1,k2,k3,bs⟩:=Row.get i (by simpa using hi) h4;refine⟨us,dv,k1,k2,?_,fun b o h=>bJ b o (bs b o h)⟩;rwa [show o +(i+1)*size=o+size+i*size by rw [Nat.add_one_mul];omega]
theorem Row.set{α : Type}{w w':World}{R jh : α → List Value→ag→Prop}{size:Nat}{bz : α}{F1:ag} : ∀ {x:List α} {b o:Nat} {F:ag} (i:Nat) (hi:i<x.length),Row w R size x b o F →
  (∀y vs G,ag.sub G F→R y vs G→jh y vs G) →
  (∀j,j<x.length*size→(j<i*size∨(i+1)*size≤j)→w'.cell? (at_ b (o+j))=w.cell? (at_ b (o+j))) →
  (∀vs G,R x[i] vs G→vs.length=size→cc w b (o+i*size) vs→ag.sub G F→∃bI,bI.length=size∧cc w' b (o+i*size) bI∧jh bz bI (G.or F1)) →
  ag.apart F1 F→Row w' jh size (x.set i bz) b o (F.or F1)
 | y :: x,b,o,F,0,_,⟨vs,G,H,h1,h2,h3,h4,a7,bh,bJ⟩,e6,hc,hn,ha=>by
  obtain ⟨bI,k1,k2,k3⟩:=hn vs G h1 h2 (by simpa using h3) bh;refine⟨bI,G.or F1,H,k3,k1,by simpa using k2,?_,?_,?_,fun b o h=>.inl (bJ b o h)⟩
  ·refine Row.imp h4 (fun y vs dv hG=>e6 y vs dv fun b o h=>bJ b o (hG b o h)) fun j hj=>?_
   have:=hc (size+j) (by rw [List.length_cons,Nat.add_one_mul];omega) (.inr (by simp));rwa [← Nat.add_assoc] at this
  ·rintro b o (h | h) hh
   ·exact a7 b o h hh
   ·exact ha b o h (bJ b o hh)
  ·rintro b o (h | h)
   ·exact .inl (bh b o h)
   ·exact .inr h
 | y :: x,b,o,F,i+1,hi,⟨vs,G,H,h1,h2,h3,h4,a7,bh,bJ⟩,e6,hc,hn,ha=>by
  refine⟨vs,G,H.or F1,e6 _ _ _ bh h1,h2,?_,?_,?_,fun b o h=>.inl (bh b o h),?_⟩
  ·refine h3.of_eq fun k hk=>hc k ?_ (.inl ?_)
   ·rw [List.length_cons,Nat.add_one_mul];omega
   ·rw [Nat.add_one_mul];omega
  ·refine Row.set i (by simpa using hi) h4 (fun y vs dv hG=>e6 y vs dv fun b o h=>bJ b o (hG b o h)) ?_ ?_ (fun b o h k=>ha b o h (bJ b o k))
   ·intro j hj KJ
    have:=hc (size+j) (by rw [List.length_cons,Nat.add_one_mul];omega) (by
     rcases KJ with h | h
     ·left;rw [Nat.add_one_mul];omega
     ·right;rw [Nat.add_one_mul];omega)
    rwa [← Nat.add_assoc] at this
   ·intro bI dv k1 k2 k3 bs;have:=hn bI dv k1 k2 (by rwa [show o +(i+1)*size=o+size+i*size by rw [Nat.add_one_mul];omega]) (fun b o h=>bJ b o (bs b o h));rwa [show o +(i+1)*size=o+size+i*size by rw [Nat.add_one_mul];omega] at this
  ·rintro b o h (hh | hh)
   ·exact a7 b o h hh
   ·exact ha b o hh (bh b o h)
  ·rintro b o (h | h)
   ·exact .inl (bJ b o h)
   ·exact .inr h
section
variable{w0:World}{F0 Z0:ag}{n:cM}{s av:ar}{a b5:Act}{w w':World}{ι bm:Nat→bH}{Z Z':ag}
def mD(w:World)(s:ar)(ι : Nat→bH)(dp:List (Nat×Nat))(cI:Option Place)(vs:List Value):Prop:=
 ∀k v,vs[k]?=some v→sB w s ι dp (cI.map fun p=> { p with off:=p.off+k }) v
theorem mD.none{dp:List (Nat×Nat)}{vs:List Value} : mD w s ι dp none vs:=fun _ _ _=>.none
theorem mD.head{dp:List (Nat×Nat)}{cI:Option Place}{v:Value}{vs:List Value}(h:mD w s ι dp cI (v :: vs)):sB w s ι dp cI v:=by
 have:=h 0 v rfl
 cases cI with
 | none=>exact .none
 | some p=>simpa using this
theorem mD.left{dp:List (Nat×Nat)}{cI:Option Place}{us vs:List Value}(h:mD w s ι dp cI (us++vs)):mD w s ι dp cI us:=fun k v hv=>h k v (by rw [List.getElem?_append_left (List.getElem?_eq_some_iff.1 hv).1];exact hv)
theorem mD.right{dp:List (Nat×Nat)}{cI:Option Place}{us vs:List Value}(h:mD w s ι dp cI (us++vs)):mD w s ι dp (cI.map fun p=> { p with off:=p.off+us.length }) vs:=fun k v hv=>by
 have:=h (us.length+k) v (by rw [List.getElem?_append_right (by omega)];simpa using hv)
 cases cI with
 | none=>exact .none
 | some p=>simpa [Nat.add_assoc] using this
mutual
theorem ad.q2:∀(t:ad) (dp:List (Nat×Nat)) (cI:Option Place) {x:t.D} {vs:List Value},(∀d,d∈dp→eI s d) →
  (alive s dp=true→t.au w (Z.or (dt ι dp)) .R x vs ag.none)→(∃m Z' F',t.au w Z' m x vs F')→mD w s ι dp cI vs→bL w Z s ι (t.cells dp cI x) vs
 | .int k,dp,cI,x,vs,af,h,⟨m,Z',F',h'⟩,mE=>by simp only [ad.au] at h';subst h';exact⟨rfl,trivial⟩
 | .bool,dp,cI,x,vs,af,h,⟨m,Z',F',h'⟩,mE=>by simp only [ad.au] at h';subst h';exact⟨rfl,trivial⟩
 | .str,dp,cI,x,vs,af,h,⟨m,Z',F',h'⟩,mE=>by simp only [ad.au] at h';obtain ⟨q,rfl,hq⟩:=h';exact⟨⟨q,rfl,hq⟩,trivial⟩
 | .raw,dp,cI,x,vs,af,h,⟨m,Z',F',h'⟩,mE=>by simp only [ad.au] at h';obtain ⟨rfl,hq⟩:=h';exact⟨⟨rfl,hq⟩,trivial⟩
 | .sl t,dp,cI,x,vs,af,h,⟨m,Z',F',h'⟩,mE=>by
  have hv:∃A c,vs=[.slice A x.length c]:=by cases m <;>(simp only [ad.au] at h';obtain ⟨A,c,hv,_⟩:=h';exact⟨A,c,hv⟩)
  obtain ⟨A,c,rfl⟩:=hv;exact⟨⟨af,⟨A,_,c,rfl⟩,h,mE.head⟩,trivial⟩
 | .st ak,dp,cI,x,vs,af,h,⟨m,Z',F',h'⟩,mE=>by simp only [ad.au] at h h';simp only [ad.cells];exact aA.q2 ak dp cI af h ⟨_,_,_,h'⟩ mE
theorem aA.q2:∀(ak:aA) (dp:List (Nat×Nat)) (cI:Option Place) {x:ak.D} {vs:List Value},(∀d,d∈dp→eI s d) →
  (alive s dp=true→ak.au w (Z.or (dt ι dp)) (bg.parts .R) x vs ag.none)→(∃m Z' F',ak.au w Z' m x vs F')→mD w s ι dp cI vs→bL w Z s ι (ak.cells dp cI x) vs
 | .nil,dp,cI,x,vs,af,h,⟨m,Z',F',h'⟩,mE=>by simp only [aA.au] at h';subst h';trivial
 | .cons t ak,dp,cI,x,vs,af,h,⟨m,Z',F',h'⟩,mE=>by
  simp only [aA.au] at h h';obtain ⟨us,bI,G,H,rfl,h2,h3,_⟩:=h';have hlen:=(ad.au.len t _ h2).1;simp only [aA.cells];refine bL.append (ad.q2 t dp cI af (fun ha=>?_) ⟨_,_,_,h2⟩ mE.left) (aA.q2 ak dp _ af (fun ha=>?_) ⟨_,_,_,h3⟩ (hlen ▸ mE.right))
  ·obtain ⟨aX,adI,dv,gj,e,k2,k3,bs,bp,df⟩:=h ha;have:=(ad.au.len t _ k2).1;obtain ⟨rfl,rfl⟩:=List.append_inj e (by omega);exact ad.au.mono (fun _ _ h=>h) _ _ bp k2
  ·obtain ⟨aX,adI,dv,gj,e,k2,k3,bs,bp,df⟩:=h ha;have:=(ad.au.len t _ k2).1;obtain ⟨rfl,rfl⟩:=List.append_inj e (by omega);exact aA.au.mono (fun _ _ h=>h) _ _ df k3
end
theorem pT{off k:Nat}{cs ds:List bb}(h:takeN off k cs=some ds):off+k≤cs.length∧ds=(cs.drop off).take k:=by
 unfold takeN at h;cases hb:Nat.ble (off+k) cs.length
 ·rw [hb] at h;simp at h
 ·rw [hb] at h;exact⟨Nat.le_of_ble_eq_true hb,(aW h).symm⟩
theorem c2{t:ad}{xs:List t.D}{i:Nat}(hi:i<xs.length):I t xs i=xs[i]:=by simp [I,hi]
theorem SJ(h:Inv w0 F0 Z0 n s a w ι Z){id:Nat}{t:ad}{em:bg}{ver:Nat}{xs:List t.D}(ho:s.o id=.row t em ver xs){i:Nat}(hi:i<xs.length) :
  ∃a0 vs,(ι id).base=some a0∧a0.spot=none∧bL w Z s ι (Ki t em id ver i (I t xs i)) vs∧cc w a0.block (a0.off+i*t.size) vs∧vs.length=t.size:=by
 have c7:=h.gf id;rw [ho] at c7;rcases c7 with⟨rfl,_⟩ | ⟨a0,hb,hr⟩
 ·simp at hi
 ·obtain ⟨G,g1,g2,g3⟩:=hr.row;obtain ⟨vs,dv,k1,k2,k3,bs⟩:=g1.get i hi;refine⟨a0,vs,hb,hr.spot,?_,k3,k2⟩;rw [c2 hi]
  have key:∀dp cI,(∀d,d∈dp→eI s d)→(em=.R∨(id,ver)∈dp)→mD w s ι dp cI vs→bL w Z s ι (t.cells dp cI xs[i]) vs:=by
   intro dp cI af uL mE;refine ad.q2 t dp cI af (fun ha=>?_) ⟨_,_,_,k1⟩ mE;rcases uL with rfl | hm
   ·exact ad.au.mono (fun _ _ h=>.inl h) _ _ (fun _ _ h=>h) (ad.au.read (Z:=Z) (Z':=Z) (F:=ag.none) (fun _ _ h=>h) t .R (fun _ _ h=>h.elim) (by
     have:=k1
     exact sA this))
   ·exact ad.au.read (fun _ _ h=>.inl h) t em (fun b o aC=>.inr ⟨_,hm,g3 b o (bs b o aC)⟩) k1
  unfold Ki;split
  ·exact key [] _ (by simp) (.inl rfl) .none
  ·refine key _ _ ?_ (.inr (by simp)) ?_
   case refine_2=>
    intro k v hv p aw;simp only [Option.map_some,Option.some.injEq] at aw;subst aw;refine⟨⟨(id,ver),by simp,rfl⟩,fun _=>?_⟩;have hk:k<t.size:=by rw [← k2];exact(List.getElem?_eq_some_iff.1 hv).1
    have KK:(i+1)*t.size≤(ι id).cap*t.size:=Nat.mul_le_mul_right _ (by have:=hr.cap;omega);rw [Nat.add_one_mul] at KK;refine⟨a0.block,a0.off+i*t.size+k,⟨rfl,?_⟩,k3 k v hv,?_⟩
    ·show match (s.o id).core with | .var _ _=>_ | .row t _ _ xs=>_ | _=>_
     rw [ho];exact⟨i,rfl,hi,a0,hb,by simp⟩
    ·have:=hr.inF (i*t.size+k) (by omega);rwa [← Nat.add_assoc] at this
   intro d af;simp at af;subst af;exact⟨by simp [known,ho],.inr (by simp [kM,ho])⟩
theorem zV(h:Inv w0 F0 Z0 n s a w ι Z){k:Nat}{p:Place}{cs:List bb}{A:Addr}(hr:mA s k p=some cs)(aw:jI s ι p A) :
  ∃b o vs,A=at_ b o∧bL w Z s ι cs vs∧cc w b o vs∧vs.length=k:=by
 obtain ⟨hs,aw⟩:=aw;unfold mA at hr
 cases ho:s.o p.id with
 | var ver old=>rw [ho] at hr aw;obtain ⟨he,a0,hb,rfl⟩:=aw;rw [he] at hr;obtain ⟨h1,rfl⟩:=pT hr;have c7:=h.gf p.id;rw [ho] at c7;obtain ⟨xC,vs,dM,hsp,hc,cC,_⟩:=c7;rw [hb] at dM;obtain rfl:=aW dM;refine⟨_,_,(vs.drop p.off).take k,rfl,(hc.drop _).take _,cC.part _ _,?_⟩;have:=hc.len;simp;omega
 | row t em ver xs=>
  rw [ho] at hr aw;obtain ⟨i,he,hi,a0,hb,rfl⟩:=aw;rw [he] at hr;obtain ⟨h1,rfl⟩:=pT hr;obtain ⟨xC,vs,dM,hsp,hc,cC,hl⟩:=SJ h ho hi;rw [hb] at dM;obtain rfl:=aW dM;refine⟨_,_,(vs.drop p.off).take k,rfl,(hc.drop _).take _,?_,?_⟩
  ·have:=cC.part p.off k;exact this
  ·have:=hc.len;simp;omega
 | none=>rw [ho] at hr;simp at hr
 | dead=>rw [ho] at hr;simp at hr
 | cm=>rw [ho] at hr;simp at hr
theorem adJ{id:Nat}(cj:s.o id=.none)(o:cB)(i:bH):eU w Z s ι w Z (s.bV id o) (bW ι id i):=by
 refine⟨fun j=>?_,fun _ _ h=>h,cf.refl _ _⟩;show jj (s.o j) (ι j) (bW s.o id o j) (bW ι id i j);by_cases hj:id=j
 ·subst hj;rw [cj];exact .made _ _ _
 ·rw [cW hj,cW hj];exact .stay _ _
theorem Inv.Dg(h:Inv w0 F0 Z0 n s a w ι Z){id:Nat}(cj:s.o id=.none){o:cB}{i:bH}
  (cS:iq w Z (s.bV id o) (bW ι id i) i o) (hF:bK w0 F0 s w ι Z i.F):Inv w0 F0 Z0 n (s.bV id o) a w (bW ι id i) Z:=by
 have hm:=adJ (w:=w) (Z:=Z) (ι := ι) cj o i;refine h.next hm (Ext.refl _ ag.none) (fun _ _ h=>h.elim) (fun _ _ h=>.inl h) ?_ ?_ (fun k=>(h.tmps k).move hm) h.size h.defers
 ·intro j hl hne;by_cases hj:id=j
  ·subst hj;rw [cL];refine⟨by show iq _ _ _ _ _ (bW s.o id o id);rw [cL];exact cS,hF.own,fun ln gr j2=>?_⟩;rw [cW j2];have d':(s.o ln).live:=by have:(bW s.o id _ ln).live:=gr;rwa [cW j2] at this
   exact hF.apart ln d'
  ·exact absurd ⟨cW hj,cW hj⟩ hne
 ·intro j hl;by_cases hj:id=j
  ·subst hj;rw [cL];exact hF.db
  ·rw [cW hj];have d':(s.o j).live:=by have:(bW s.o id _ j).live:=hl;rwa [cW hj] at this
   exact h.db j d'
structure lZ(s:ar)(ι : Nat→bH)(av:ar)(bm:Nat→bH):Prop where
 o:∀id,s.o id≠.none→av.o id=s.o id ∧ bm id = ι id
 t:av.t=s.t
 g:av.g=s.g
 nl:∀id o',s.o id=.none→av.o id≠.cm o'
theorem lZ.refl:lZ s ι s ι :=⟨fun _ _=>⟨rfl,rfl⟩,rfl,rfl,fun _ _ h=>by rw [h];simp⟩
theorem lZ.trans{s2:ar}{eN:Nat→bH}(h:lZ s ι av bm)(k:lZ av bm s2 eN):lZ s ι s2 eN:=
 ⟨fun id hn=>by have h1:=h.o id hn;have h2:=k.o id (by rw [h1.1];exact hn);exact⟨h2.1.trans h1.1,h2.2.trans h1.2⟩,k.t.trans h.t,k.g.trans h.g,fun id o' hn=>by
  by_cases hm:av.o id=.none
  ·exact k.nl id o' hm
  ·rw [(k.o id hm).1];exact h.nl id o' hn⟩
theorem lZ.eC(h:lZ s ι av bm):eU w Z s ι w Z av bm:=by
 refine⟨fun id=>?_,fun _ _ h=>h,cf.refl _ _⟩;by_cases hn:s.o id=.none
 ·rw [hn];exact .made _ _ _
 ·rw [(h.o id hn).1,(h.o id hn).2];exact .stay _ _
theorem adK{id:Nat}(cj:s.o id=.none)(o:cB)(i:bH)(hnl:∀o',o≠.cm o'):lZ s ι (s.bV id o) (bW ι id i):=by
 refine⟨fun j hn=>?_,rfl,rfl,fun j o' hn=>?_⟩
 ·have hj:id≠j:=fun e=>hn (e ▸ cj)
  exact⟨cW hj,cW hj⟩
 ·show bW s.o id o j≠_;by_cases hj:id=j
  ·subst hj;rw [cL];exact hnl o'
  ·rw [cW hj,hn];simp
def KL(w0:World)(F0 Z0:ag)(n:cM)(s:ar)(a:Act)(w:World)(ι : Nat→bH)(Z:ag)(vs:List Value)(F:ag)(cs:List bb)(av:ar):Prop:=
 ∃ bm,Inv w0 F0 Z0 n av a w bm Z∧lZ s ι av bm∧bL w Z av bm cs vs∧∀G,bK w0 F0 s w ι Z G→ag.apart G F→bK w0 F0 av w bm Z G
theorem uM(h:Inv w0 F0 Z0 n s a w ι Z){vs:List Value}{F:ag}{cs:List bb}(hc:bL w Z s ι cs vs):KL w0 F0 Z0 n s a w ι Z vs F cs s:=
 ⟨ι,h,.refl,hc,fun _ hG _=>hG⟩
mutual
theorem ad.oP:∀(t:ad) (m:bg) (dp:List (Nat×Nat)) (x:t.D) (s:ar) (ι : Nat→bH) (j:Nat) (r:List bb×ar×Nat) (vs:List Value) (F:ag),
  t.hW m dp x s j=some r→Inv w0 F0 Z0 n s a w ι Z→t.au w (Z.or (dt ι dp)) m x vs F→bK w0 F0 s w ι Z F→ag.apart F (dt ι dp)→(∀d,d∈dp→eI s d) →
  KL w0 F0 Z0 n s a w ι Z vs F r.1 r.2.1
 | .int k,m,dp,x,s,ι,j,r,vs,F,he,h,hr,hf,nI,af=>by simp only [ad.hW] at he;obtain rfl:=aW he;simp only [ad.au] at hr;subst hr;exact uM h ⟨rfl,trivial⟩
 | .bool,m,dp,x,s,ι,j,r,vs,F,he,h,hr,hf,nI,af=>by simp only [ad.hW] at he;obtain rfl:=aW he;simp only [ad.au] at hr;subst hr;exact uM h ⟨rfl,trivial⟩
 | .str,m,dp,x,s,ι,j,r,vs,F,he,h,hr,hf,nI,af=>by simp only [ad.hW] at he;obtain rfl:=aW he;simp only [ad.au] at hr;obtain ⟨q,rfl,hq⟩:=hr;exact uM h ⟨⟨q,rfl,hq⟩,trivial⟩
 | .raw,m,dp,x,s,ι,j,r,vs,F,he,h,hr,hf,nI,af=>by simp only [ad.hW] at he;obtain rfl:=aW he;simp only [ad.au] at hr;obtain ⟨rfl,hq⟩:=hr;exact uM h ⟨⟨rfl,hq⟩,trivial⟩
 | .sl t,.R,dp,x,s,ι,j,r,vs,F,he,h,hr,hf,nI,af=>by simp only [ad.hW] at he;obtain rfl:=aW he;have iM:=hr;simp only [ad.au] at hr;obtain ⟨A,c,rfl,_⟩:=hr;exact uM h ⟨⟨af,⟨A,_,c,rfl⟩,fun _=>sA iM,.none⟩,trivial⟩
 | .sl t,.S ms,dp,x,s,ι,j,r,vs,F,he,h,hr,hf,nI,af=>by
  simp only [ad.hW] at he;obtain rfl:=aW he;have iM:(ad.sl t).au w (Z.or (dt ι dp)) .R x vs F:=by simp only [ad.au] at hr ⊢;exact hr
  simp only [ad.au] at hr;obtain ⟨A,c,rfl,_⟩:=hr;exact uM h ⟨⟨af,⟨A,_,c,rfl⟩,fun _=>sA iM,.none⟩,trivial⟩
 | .sl t,.O e,dp,x,s,ι,j,r,vs,F,he,h,hr,hf,nI,af=>by
  simp only [ad.hW] at he;cases hq:(dp.isEmpty||bg.beq e t.own)
  ·rw [hq] at he;simp at he
  rw [hq] at he
  cases ho:s.o j with
  | none=>
   rw [ho] at he;obtain rfl:=aW he
   have gR:(ad.sl t).au w Z (.O e) x vs F:=by
    cases nJ:dp with
    | nil=>subst nJ;exact ad.au.mono (fun b o hz=>hz.elim (fun h=>h) fun⟨d,af,_⟩=>by simp at af) _ _ (fun _ _ h=>h) hr
    | cons d atm=>subst nJ;have he:e=t.own:=bg.eq_of_beq _ _ (by simpa using hq);subst he;exact uJ (.sl t) hr
   simp only [ad.au] at gR;obtain ⟨A,c,rfl,gR⟩:=gR
   let i:bH:=⟨A,c,F⟩
   have cS:iq w Z (s.bV j (.row t e 0 x)) (bW ι j i) i (.row t e 0 x):=by
    rcases gR with gR | ⟨a0,hA,gR⟩
    ·exact .inl gR
    ·exact .inr ⟨a0,hA,gR⟩
   refine⟨bW ι j i,h.Dg ho cS hf,adK ho _ _ (fun o'=>by simp),⟨⟨?_,A,_,c,rfl,?_⟩,trivial⟩,?_⟩
   ·show bW s.o j _ j≠_;rw [cL];simp
   ·intro cO em ver xs hh;have this:(bW s.o j (cB.row t e 0 x) j).core=.row cO em ver xs:=hh;rw [cL] at this;have this:cB.row t e 0 x=.row cO em ver xs:=this;injection this with h1 h2 h3 h4
    subst h1;obtain rfl:=eq_of_heq h4;rw [cL];refine⟨rfl,by simp [eB],?_,by simp [eB,i],?_⟩
    ·rcases gR with⟨hx,hc⟩ | ⟨a0,hA,gR⟩
     ·subst hx;simp
     ·exact gR.cap
    ·rcases gR with⟨hx,hc⟩ | ⟨a0,hA,gR⟩
     ·exact .inl hc
     ·refine .inr ⟨a0,hA,?_⟩;rw [hA];have:=gR.spot;obtain ⟨q3,off,sp⟩:=a0;subst this;simp [eB,at_]
   ·intro G hG hGF;refine⟨hG.own,fun id hl=>?_,hG.db⟩;by_cases hj:j=id
    ·subst hj;rw [cL];exact hGF
    ·rw [cW hj];exact hG.apart id (by have:(bW s.o j _ id).live:=hl;rwa [cW hj] at this)
  | _=>rw [ho] at he;simp at he
 | .st ak,m,dp,x,s,ι,j,r,vs,F,he,h,hr,hf,nI,af=>by simp only [ad.hW] at he;simp only [ad.au] at hr;exact aA.oP ak m.parts dp x s ι j r vs F he h hr hf nI af
theorem aA.oP:∀(ak:aA) (m:c3) (dp:List (Nat×Nat)) (x:ak.D) (s:ar) (ι : Nat→bH) (j:Nat) (r:List bb×ar×Nat) (vs:List Value) (F:ag),
  ak.hW m dp x s j=some r→Inv w0 F0 Z0 n s a w ι Z→ak.au w (Z.or (dt ι dp)) m x vs F→bK w0 F0 s w ι Z F→ag.apart F (dt ι dp)→(∀d,d∈dp→eI s d) →
  KL w0 F0 Z0 n s a w ι Z vs F r.1 r.2.1
 | .nil,m,dp,x,s,ι,j,r,vs,F,he,h,hr,hf,nI,af=>by simp only [aA.hW] at he;obtain rfl:=aW he;simp only [aA.au] at hr;subst hr;exact uM h trivial
 | .cons t ak,m,dp,x,s,ι,j,r,vs,F,he,h,hr,hf,nI,af=>by
  simp only [aA.hW] at he;obtain ⟨bE,h1,he⟩:=bd he;obtain ⟨cp,h2,he⟩:=bd he;obtain rfl:=aW he;simp only [aA.au] at hr;obtain ⟨us,bI,G,H,rfl,er,fc,gu,fU,mF⟩:=hr;have adL:bK w0 F0 s w ι Z G:=⟨fun b o aC=>hf.own b o (fU b o aC),fun id hl b o aC=>hf.apart id hl b o (fU b o aC),fun b o aC=>hf.db b o (fU b o aC)⟩;have adM:bK w0 F0 s w ι Z H:=⟨fun b o aC=>hf.own b o (mF b o aC),fun id hl b o aC=>hf.apart id hl b o (mF b o aC),fun b o aC=>hf.db b o (mF b o aC)⟩;obtain ⟨dD,i1,g1,c1,f1⟩:=ad.oP t m.af dp x.1 s ι j bE us G h1 h er adL (fun b o aC=>nI b o (fU b o aC)) af;have SK:∀d,d∈dp→s.o d.1≠.none:=fun d iu=>(af d iu).1
  have SL:∀b o,dt ι dp b o↔dt dD dp b o:=by
   intro b o;constructor
   ·rintro ⟨d,iu,hx⟩;exact⟨d,iu,by rw [(g1.o d.1 (SK d iu)).2];exact hx⟩
   ·rintro ⟨d,iu,hx⟩;exact⟨d,iu,by rw [(g1.o d.1 (SK d iu)).2] at hx;exact hx⟩
  have gv:∀d,d∈dp→eI bE.2.1 d:=by intro d iu;have:=af d iu;unfold eI known kM at *;rw [(g1.o d.1 this.1).1];exact this
  obtain ⟨eN,i2,g2,fL,f2⟩:=aA.oP ak m.dC dp x.2 bE.2.1 dD bE.2.2 cp bI H h2 i1 (aA.au.mono (fun b o hz=>hz.imp (fun h=>h) (fun h=>(SL b o).1 h)) _ _ (fun _ _ h=>h) fc)
   (f1 H adM (fun b o k1 k2=>gu b o k2 k1)) (fun b o k1 k2=>nI b o (mF b o k1) ((SL b o).2 k2)) gv
  refine⟨eN,i2,g1.trans g2,(c1.move g2.eC).append fL,fun dv KM hGF=>?_⟩;exact f2 dv (f1 dv KM fun b o k1 k2=>hGF b o k1 (fU b o k2)) fun b o k1 k2=>hGF b o k1 (mF b o k2)
end
end
end Go.LM
namespace Go.LM
def dr{α : Type}(l:List α)(k:Nat)(us:List α):List α := l.take k++us++l.drop (k+us.length)
theorem Dh{α : Type}(l:List α)(k:Nat):dr l k []=l:=by simp [dr]
theorem J'{α : Type}{l us:List α}{k:Nat}(h:k+us.length≤l.length):(dr l k us).length=l.length:=by simp [dr];omega
theorem adN{α : Type}{A B us:List α}{k:Nat}(h:k+us.length≤A.length):dr (A++B) k us=dr A k us++B:=by unfold dr;rw [List.take_append_of_le_length (by omega),List.drop_append_of_le_length (by omega)];simp [List.append_assoc]
theorem SM{α : Type}{A B us:List α}{k:Nat}(h:A.length≤k):dr (A++B) k us=A++dr B (k-A.length) us:=by
 unfold dr;obtain ⟨j,rfl⟩:∃j,k=A.length+j:=⟨k-A.length,by omega⟩
 rw [List.take_append,List.take_of_length_le (by omega),Nat.add_sub_cancel_left,show A.length+j+us.length=A.length +(j+us.length) by omega,List.drop_append,List.drop_of_length_le (by omega),Nat.add_sub_cancel_left];simp [List.append_assoc]
theorem adO{α : Type}{A B us vs:List α}{k:Nat}(h:k+us.length=A.length):dr (A++B) k (us++vs)=dr A k us++dr B 0 vs:=by unfold dr;rw [List.take_append_of_le_length (by omega),List.length_append,show k +(us.length+vs.length)=A.length+vs.length by omega,List.drop_append,List.drop_of_length_le (by omega),Nat.add_sub_cancel_left,h,List.drop_length];simp [List.append_assoc]
theorem adP{α : Type}{l us:List α}(h:us.length=l.length):dr l 0 us=us:=by unfold dr;rw [List.take_zero,Nat.zero_add,h,List.drop_length];simp
section
variable{w0:World}{F0 Z0:ag}{n:cM}{s av:ar}{a b5:Act}{w w':World}{ι bm:Nat→bH}{Z Z':ag}
def SN(w0:World)(F0 Z0:ag)(n:cM)(s:ar)(a:Act)(w:World)(ι : Nat→bH)(Z:ag)(SO:List Value→ag→Prop)(R:ag→List Value→ag→Prop)(size skip:Nat)(vs:List Value)
  (cs':List bb) (av:ar):Prop:=
 ∃us rest F1 Z',vs=us++rest∧Inv w0 F0 Z0 n av a w ι Z'∧fj s ι Z av Z'∧bL w Z' av ι cs' rest∧bK w0 F0 av w ι Z' F1 ∧
  (∀b o,F1 b o→∃id,(s.o id).live∧(ι id).F b o)∧skip+us.length≤size∧(cs'≠[]→skip+us.length=size) ∧
  ∀old G,SO old G→∀id,(av.o id).live→ag.sub G (ι id).F→R Z' (dr old skip us) (G.or F1)
mutual
theorem ad.xE:∀(t:ad) (m:bg) (x:t.D) (skip:Nat) (cs:List bb) (s:ar) (r:t.D×List bb×ar) (vs:List Value) (Z:ag),
  t.put m x skip cs s=some r→skip≤t.size→Inv w0 F0 Z0 n s a w ι Z→bL w Z s ι cs vs →
  SN w0 F0 Z0 n s a w ι Z (fun us F=>t.au w Z m x us F) (fun Z us F=>t.au w Z m r.1 us F) t.size skip vs r.2.1 r.2.2
 | t,m,x,skip,[],s,r,vs,Z,aw,pU,h,hc=>by
  have jm:some (x,([]:List bb),s)=some r:=by cases t <;> simpa only [ad.put] using aw
  obtain rfl:=aW jm
  cases vs with
  | cons=>exact hc.elim
  | nil=>refine⟨[],[],ag.none,Z,rfl,h,.refl,trivial,.none,fun _ _ h=>h.elim,by simpa using pU,fun h=>absurd rfl h,fun _ _ hr _ _ _=>?_⟩;rw [Dh];exact ad.au.mono (fun _ _ h=>h) _ _ (fun _ _ h=>.inl h) hr
 | t,m,x,skip,c :: cs,s,r,vs,Z,aw,pU,h,hc=>by
  cases hb:(Nat.beq skip 0&&Nat.ble t.size (cs.length+1)) with
  | true=>
   have jm:(t.imp false m (c :: cs) s []).bind (fun r=>some (r.1,r.2.1,r.2.2.1))=some r:=by cases t <;>(simp only [ad.put] at aw;rw [hb] at aw;exact aw)
   obtain ⟨q,hq,jm⟩:=bd jm;obtain rfl:=aW jm;have dM:skip=0∧t.size≤cs.length+1:=by simp only [Bool.and_eq_true] at hb;exact⟨Nat.eq_of_beq_eq_true hb.1,Nat.le_of_ble_eq_true hb.2⟩
   obtain ⟨rfl,_⟩:=dM;obtain ⟨us,rest,F,Z',e1,i1,s1,c1,f1,er,_,jl,_,g1⟩:=ad.lY t false m (c :: cs) s [] q vs Z hq h hc (by simp);have q4:=(ad.au.len t m er).1;refine⟨us,rest,F,Z',e1,i1,s1,c1,f1,g1,by omega,fun _=>by omega,fun _ _ hr _ _ _=>?_⟩;have hlen:=(ad.au.len t m hr).1;rw [adP (by omega)];refine ad.au.mono ?_ _ _ (fun _ _ h=>.inr h) er
   rintro b o (hz | ⟨d,af,_⟩)
   ·exact hz
   ·rw [jl rfl] at af;simp at af
  | false=>
   cases t with
   | st ak=>simp only [ad.put] at aw;rw [hb] at aw;have:=aA.xE ak m.parts x skip (c :: cs) s r vs Z aw (by simpa only [ad.size] using pU) h hc;simpa only [ad.au,ad.size] using this
   | _=>simp only [ad.put] at aw;rw [hb] at aw;simp at aw
theorem aA.xE:∀(ak:aA) (m:c3) (x:ak.D) (skip:Nat) (cs:List bb) (s:ar) (r:ak.D×List bb×ar) (vs:List Value) (Z:ag),
  ak.put m x skip cs s=some r→skip≤ak.size→Inv w0 F0 Z0 n s a w ι Z→bL w Z s ι cs vs →
  SN w0 F0 Z0 n s a w ι Z (fun us F=>ak.au w Z m x us F) (fun Z us F=>ak.au w Z m r.1 us F) ak.size skip vs r.2.1 r.2.2
 | .nil,m,x,skip,cs,s,r,vs,Z,aw,pU,h,hc=>by simp only [aA.put] at aw;obtain rfl:=aW aw;simp only [aA.size] at pU ⊢;refine⟨[],vs,ag.none,Z,rfl,h,.refl,hc,.none,fun _ _ h=>h.elim,by simpa using pU,fun _=>by simp;omega,fun _ _ hr _ _ _=>?_⟩;rw [Dh];simp only [aA.au] at hr ⊢;exact hr
 | .cons t ak,m,x,skip,cs,s,r,vs,Z,aw,pU,h,hc=>by
  simp only [aA.put] at aw
  cases hb:Nat.ble t.size skip with
  | true=>
   rw [hb] at aw;have q5:=Nat.le_of_ble_eq_true hb;obtain ⟨q,hq,aw⟩:=bd aw;obtain rfl:=aW aw;simp only [aA.size] at pU;obtain ⟨us,rest,F1,Z',e1,i1,s1,c1,f1,g1,ea,eV,k1⟩:=aA.xE ak m.dC x.2 (skip-t.size) cs s q vs Z hq (by omega) h hc;refine⟨us,rest,F1,Z',e1,i1,s1,c1,f1,g1,by simp only [aA.size];omega,fun hne=>by have:=eV hne;simp only [aA.size];omega,fun old G hr id hl hG=>?_⟩;simp only [aA.au] at hr;obtain ⟨xF,Di,G1,G2,rfl,er,fc,gu,fU,mF⟩:=hr;have hl1:=(ad.au.len t _ er).1;rw [SM (by omega),hl1];simp only [aA.au];refine⟨xF,_,G1,G2.or F1,rfl,ad.au.mono s1.dL _ _ (fun _ _ h=>h) er,k1 _ _ fc id hl (fun b o aC=>hG b o (mF b o aC)),?_,fun b o aC=>.inl (fU b o aC),?_⟩
   ·rintro b o aC (hh | hh)
    ·exact gu b o aC hh
    ·exact f1.apart id hl b o hh (hG b o (fU b o aC))
   ·rintro b o (aC | aC)
    ·exact .inl (mF b o aC)
    ·exact .inr aC
  | false=>
   rw [hb] at aw
   have bO:skip<t.size:=by
    rcases Nat.lt_or_ge skip t.size with h | h
    ·exact h
    ·rw [Nat.ble_eq_true_of_le h] at hb;simp at hb
   obtain ⟨c0,oQ,aw⟩:=bd aw;obtain ⟨d_,jn,aw⟩:=bd aw;obtain rfl:=aW aw;obtain ⟨us,rest,F1,cH,e1,i1,s1,c1,f1,g1,ea,eV,k1⟩:=ad.xE t m.af x.1 skip cs s c0 vs Z oQ (by omega) h hc;obtain ⟨us2,SP,dU,bQ,e2,i2,s2,fL,f2,g2,oR,pV,k2⟩:=aA.xE ak m.dC x.2 0 c0.2.1 c0.2.2 d_ rest cH jn (by omega) i1 c1
   have gh:c0.2.1=[]→us2=[]∧SP=[]:=by
    intro hcs;rw [hcs] at c1
    cases rest with
    | nil=>have:=e2;simp at this;exact⟨this.1,this.2⟩
    | cons=>exact c1.elim
   refine⟨us++us2,SP,F1.or dU,bQ,by rw [e1,e2,List.append_assoc],i2,s1.trans s2,fL,(f1.shrink s2).or f2,?_,?_,?_,fun old G hr id hl hG=>?_⟩
   ·rintro b o (hf | hf)
    ·exact g1 b o hf
    ·obtain ⟨id,hl,hi⟩:=g2 b o hf;exact⟨id,(s1.live hl).1,hi⟩
   ·simp only [aA.size,List.length_append];by_cases hcs:c0.2.1=[]
    ·rw [(gh hcs).1];simp;omega
    ·have:=eV hcs;omega
   ·intro hne;simp only [aA.size,List.length_append];have h4:=pV hne;by_cases hcs:c0.2.1=[]
    ·have:d_.2.1=[]:=by
      have h1:=fL.len;rw [(gh hcs).2] at h1;exact List.eq_nil_of_length_eq_zero (by simpa using h1.symm)
     exact absurd this hne
    ·have:=eV hcs;omega
   ·simp only [aA.au] at hr;obtain ⟨xF,Di,G1,G2,rfl,er,fc,gu,fU,mF⟩:=hr;have hl1:=(ad.au.len t _ er).1;have gr:=(s2.live hl);have bE:=k1 _ _ er id gr.1 (fun b o aC=>hG b o (fU b o aC));have cp:=k2 _ _ (aA.au.mono s1.dL _ _ (fun _ _ h=>h) fc) id hl (fun b o aC=>hG b o (mF b o aC))
    have hsp:dr (xF++Di) skip (us++us2)=dr xF skip us++dr Di 0 us2:=by
     by_cases hcs:c0.2.1=[]
     ·rw [(gh hcs).1,List.append_nil,Dh,adN (by omega)]
     ·exact adO (by have:=eV hcs;omega)
    rw [hsp];simp only [aA.au];refine⟨_,_,G1.or F1,G2.or dU,rfl,ad.au.mono s2.dL _ _ (fun _ _ h=>h) bE,cp,?_,?_,?_⟩
    ·rintro b o (aC | aC) (hh | hh)
     ·exact gu b o aC hh
     ·exact f2.apart id hl b o hh (hG b o (fU b o aC))
     ·exact f1.apart id gr.1 b o aC (hG b o (mF b o hh))
     ·obtain ⟨adQ,d',gw⟩:=g2 b o hh;exact f1.apart adQ d' b o aC gw
    ·rintro b o (aC | aC)
     ·exact .inl (fU b o aC)
     ·exact .inr (.inl aC)
    ·rintro b o (aC | aC)
     ·exact .inl (mF b o aC)
     ·exact .inr (.inr aC)
end
theorem bL.dr{cs ds:List bb}{us vs:List Value}(h:bL w Z s ι cs us)(k:bL w Z s ι ds vs)(p:Nat) :
  bL w Z s ι (cs.take p++ds++cs.drop (p+ds.length)) (dr us p vs):=by
 unfold LM.dr;rw [k.len];exact((h.take p).append k).append (h.drop _)
theorem adR{cs:List bb}{vs:List Value}(h:fj s ι Z av Z')(hc:bL w Z s ι cs vs):bL w Z' av ι cs vs:=hc.move h.eC
theorem adS{b o:Nat}{vs:List Value}(hw:∀i,i<vs.length→fE w b (o+i)):cc (setCells w b o vs) b o vs:=by
 intro i v hv
 have hi:i<vs.length:=by
  rcases Nat.lt_or_ge i vs.length with h | h
  ·exact h
  ·rw [List.getElem?_eq_none h] at hv;simp at hv
 rw [xy b vs w o (fun i hi=>(hw i hi).1),if_pos ⟨rfl,by omega,by omega⟩,Nat.add_sub_cancel_left];exact hv
theorem so{b o k:Nat}{old vs:List Value}(hc:cc w b o old)(hw:∀i,i<old.length→fE w b (o+i))(hk:k+vs.length≤old.length) :
  cc (setCells w b (o+k) vs) b o (dr old k vs):=by
 have adT:∀i,i<vs.length→fE w b (o+k+i):=fun i hi=>by have:=hw (k+i) (by omega);rwa [← Nat.add_assoc] at this
 intro i v hv;have hx:=xy b vs w (o+k) (fun i hi=>(adT i hi).1) b (o+i);rw [hx];unfold dr at hv;by_cases h1:i<k
 ·rw [if_neg (by omega)];rw [List.append_assoc,List.getElem?_append_left (by simp;omega),List.getElem?_take,if_pos h1] at hv;exact hc i v hv
 ·by_cases h2:i<k+vs.length
  ·rw [if_pos ⟨rfl,by omega,by omega⟩];rw [List.getElem?_append_left (by simp;omega),List.getElem?_append_right (by simp;omega)] at hv;simp only [List.length_take] at hv;rw [show o+i-(o+k)=i-min k old.length by omega];exact hv
  ·rw [if_neg (by omega)];rw [List.getElem?_append_right (by simp;omega)] at hv;simp only [List.length_append,List.length_take,List.getElem?_drop] at hv;rw [show k+vs.length +(i-(min k old.length+vs.length))=i by omega] at hv;exact hc i v hv
theorem adU(h:Inv w0 F0 Z0 n s a w ι Z){p:Place}{cs:List bb}{A:Addr}{vs:List Value}(hr:C' s p cs=some av)(aw:jI s ι p A)(hc:bL w Z s ι cs vs) :
  ∃b o,A=at_ b o∧(∀i,i<vs.length→fE w b (o+i))∧∃ bm Z',Inv w0 F0 Z0 n av a (setCells w b o vs) bm Z':=by
 obtain ⟨hs,aw⟩:=aw;unfold C' at hr
 cases ho:s.o p.id with
 | var ver old=>
  rw [ho] at hr aw;obtain ⟨he,a0,hb,rfl⟩:=aw;rw [he] at hr;have ck:(s.o p.id).live:=by rw [ho];trivial
  simp only at hr;cases q5:Nat.ble (p.off+cs.length) old.length
  ·rw [q5] at hr;simp at hr
  rw [q5] at hr;obtain rfl:=aW hr;have hle:=Nat.le_of_ble_eq_true q5;have c7:=h.gf p.id;rw [ho] at c7;obtain ⟨xC,us,dM,hsp,hcu,cC,hwr⟩:=c7;rw [hb] at dM;obtain rfl:=aW dM;have q4:=hcu.len;have hvl:=hc.len;have hw:∀i,i<vs.length→fE w a0.block (a0.off+p.off+i):=fun i hi=>by have:=(hwr (p.off+i) (by omega)).1;rwa [← Nat.add_assoc] at this
  refine⟨_,_,rfl,hw,ι,Z,?_⟩;have hx:Ext w (setCells w a0.block (a0.off+p.off) vs) (ι p.id).F:=oF _ _ _ _ fun i hi=>by have:=(hwr (p.off+i) (by omega)).2;rwa [← Nat.add_assoc] at this
  have hm:eU w Z s ι (setCells w a0.block (a0.off+p.off) vs) Z (s.bV p.id (.var (ver+1) (old.take p.off++cs++old.drop (p.off+cs.length)))) ι := by
   refine⟨fun j=>?_,fun _ _ h=>h,cf.jk hx h.sG ?_⟩
   ·show jj (s.o j) (ι j) (bW s.o p.id _ j) (ι j);by_cases hj:p.id=j
    ·subst hj;rw [cL,ho];exact .var _ _ _ _ _ (by omega) (by simp;omega)
    ·rw [cW hj];exact .stay _ _
   ·rintro b o (hz | ⟨id,hl,hst,_,hf⟩) iN
    ·exact h.db p.id ck b o iN hz
    ·have hne:id≠p.id:=by
      rintro rfl
      have:bW s.o p.id _ p.id=s.o p.id:=hst;rw [cL,ho] at this;injection this with h1 h2
      omega
     exact h.apart id p.id hl ck hne b o hf iN
  refine h.next hm hx (fun b o hf=>(h.own p.id ck b o hf).1) (fun _ _ h=>.inl h) ?_ ?_ (fun k=>(h.tmps k).move hm) h.size h.defers
  ·intro j hl hne;by_cases hj:p.id=j
   ·subst hj;refine⟨?_,fun b o hf=>⟨(h.own _ ck b o hf).1,by have:=(h.own _ ck b o hf).2;exact Nat.lt_of_lt_of_le this hx.size⟩,fun eh gr j2=>?_⟩
    ·show iq _ _ _ _ _ (bW s.o p.id _ p.id);rw [cL];refine⟨a0,dr us p.off vs,hb,hsp,(hcu.dr hc p.off).move hm,?_,fun j hj=>?_⟩
     ·exact so cC (fun i hi=>(hwr i (by omega)).1) (by omega)
     ·have:j<old.length:=by simp at hj;omega
      exact⟨hx.qT (hwr j this).1,(hwr j this).2⟩
    ·have d':(s.o eh).live:=by
      have:(bW s.o p.id _ eh).live:=gr;rwa [cW j2] at this
     exact h.apart p.id eh ck d' j2
   ·exact absurd ⟨cW hj,rfl⟩ hne
  ·intro j hl;by_cases hj:p.id=j
   ·subst hj;exact h.db _ ck
   ·have d':(s.o j).live:=by
     have:(bW s.o p.id _ j).live:=hl;rwa [cW hj] at this
    exact h.db j d'
 | row t em ver xs=>
  rw [ho] at hr aw;obtain ⟨i,he,hi,a0,hb,rfl⟩:=aw;rw [he] at hr;have ck:(s.o p.id).live:=by rw [ho];trivial
  simp only at hr;cases q5:Nat.ble (p.off+cs.length) t.size
  ·rw [q5] at hr;simp at hr
  rw [q5] at hr;have q5:=Nat.le_of_ble_eq_true q5;obtain ⟨q,hq,hr⟩:=bd hr
  cases oQ:q.2.1 with
  | cons=>rw [oQ] at hr;simp at hr
  | nil=>
   cases jn:q.2.2.o p.id with
   | none=>rw [oQ,jn] at hr;simp at hr
   | dead=>rw [oQ,jn] at hr;simp at hr
   | cm=>rw [oQ,jn] at hr;simp at hr
   | var=>rw [oQ,jn] at hr;simp at hr
   | row t2 adV adW adX=>
    rw [oQ,jn] at hr;obtain rfl:=aW hr;have pU:p.off≤t.size:=by omega
    obtain ⟨us,rest,F1,cH,e1,i1,s1,c1,f1,g1,ea,eV,k1⟩:=ad.xE t em (I t xs i) p.off cs s q vs Z hq pU h hc;rw [oQ] at c1
    have gh:rest=[]:=by
     cases rest with
     | nil=>rfl
     | cons=>exact c1.elim
    subst gh;rw [List.append_nil] at e1;subst e1;have hl1:(q.2.2.o p.id).live:=by rw [jn];trivial
    have hst:=(s1.live hl1).2;rw [ho] at hst;have c7:=h.gf p.id;rw [ho] at c7;rcases c7 with⟨rfl,_⟩ | ⟨xC,dM,hrow⟩
    ·simp at hi
    rw [hb] at dM;obtain rfl:=aW dM;have hin:(i+1)*t.size≤(ι p.id).cap*t.size:=Nat.mul_le_mul_right _ (by have:=hrow.cap;omega);have hin':i*t.size+t.size≤(ι p.id).cap*t.size:=by rw [← Nat.add_one_mul];exact hin
    have hw:∀k,k<vs.length→fE w a0.block (a0.off+i*t.size+p.off+k):=fun k hk=>by have:=(hrow.wr (i*t.size+p.off+k) (by omega)).1;rwa [show a0.off +(i*t.size+p.off+k)=a0.off+i*t.size+p.off+k by omega] at this
    have adY:∀k,k<vs.length→(ι p.id).F a0.block (a0.off+i*t.size+p.off+k):=fun k hk=>by have:=hrow.inF (i*t.size+p.off+k) (by omega);rwa [show a0.off +(i*t.size+p.off+k)=a0.off+i*t.size+p.off+k by omega] at this
    refine⟨_,_,rfl,hw,?_⟩
    let ei:bH:=⟨(ι p.id).base,(ι p.id).cap,(ι p.id).F.or F1⟩
    let o':cB:=.row t em (ver+1) (xs.set i q.1)
    have hx:Ext w (setCells w a0.block (a0.off+i*t.size+p.off) vs) (ι p.id).F:=oF _ _ _ _ adY
    have hm:eU w cH q.2.2 ι (setCells w a0.block (a0.off+i*t.size+p.off) vs) cH (q.2.2.bV p.id o') (bW ι p.id ei):=by
     refine⟨fun j=>?_,fun _ _ h=>h,cf.jk hx i1.sG ?_⟩
     ·show jj (q.2.2.o j) (ι j) (bW q.2.2.o p.id o' j) (bW ι p.id ei j);by_cases hj:p.id=j
      ·subst hj;rw [cL,cL,hst];exact .row _ _ _ _ _ _ _ _ _ (by omega) (by simp) rfl rfl
      ·rw [cW hj,cW hj];exact .stay _ _
     ·rintro b o (hz | ⟨id,hl,q1,_,hf⟩) iN
      ·exact i1.db p.id hl1 b o iN hz
      ·have hne:id≠p.id:=by
        rintro rfl
        have:bW q.2.2.o p.id o' p.id=q.2.2.o p.id:=q1;rw [cL,hst] at this;injection this with h1 h2 h3
        omega
       exact i1.apart id p.id hl hl1 hne b o hf iN
    have sH:∀ {j},p.id≠j→((q.2.2.bV p.id o').o j).live→(q.2.2.o j).live:=fun hj hl=>by have:(bW q.2.2.o p.id o' _).live:=hl;rwa [cW hj] at this
    refine⟨_,_,i1.next hm hx (fun b o hf=>(i1.own p.id hl1 b o hf).1) (fun _ _ h=>.inl h) ?_ ?_ (fun k=>(i1.tmps k).move hm) i1.size i1.defers⟩
    ·intro j hl hne;by_cases hj:p.id=j
     ·subst hj;rw [cL];refine⟨?_,fun b o hf=>?_,fun eh gr j2=>?_⟩
      ·show iq _ _ _ _ _ (bW q.2.2.o p.id o' p.id);rw [cL];refine .inr ⟨a0,hb,hrow.spot,by simpa [o'] using hrow.cap,fun j hj=>hx.kL (hrow.wr j hj),fun j hj=>.inl (hrow.inF j hj),?_⟩;obtain ⟨G,bE,cp,gi⟩:=hrow.row
       have SQ:cf w (setCells w a0.block (a0.off+i*t.size+p.off) vs) G:=by
        intro b o aC;refine⟨?_,fun _=>adD _ _ _ _ _ _⟩;rw [xy _ _ _ _ (fun i hi=>(hw i hi).1),if_neg]
        rintro ⟨rfl,h1,h2⟩
        have:=cp (o-a0.off) (by omega);rw [show a0.off +(o-a0.off)=o by omega] at this;exact this aC
       have SR:cf w (setCells w a0.block (a0.off+i*t.size+p.off) vs) cH:=hm.same.mono fun b o hz=>.inl hz
       have adZ:cf w (setCells w a0.block (a0.off+i*t.size+p.off) vs) F1:=by refine cf.jk hx (fun b o hf=>(f1.own b o hf).2) fun b o hf iN=>f1.apart p.id hl1 b o hf iN
       refine⟨G.or F1,?_,?_,?_⟩
       ·refine Row.set (w:=w) (R:=t.au w Z em) i hi bE (fun y us dv hG aR=>ad.au.same SR _ _ (SQ.mono hG) (ad.au.mono s1.dL _ _ (fun _ _ h=>h) aR)) ?_ ?_ (fun b o hf aC=>f1.apart p.id hl1 b o hf (gi b o aC))
        ·intro j hj KJ;rw [xy _ _ _ _ (fun i hi=>(hw i hi).1),if_neg]
         rintro ⟨_,h1,h2⟩
         rw [Nat.add_one_mul] at KJ;omega
        ·intro us dv k2 k3 bs bp;refine⟨dr us p.off vs,by rw [J' (by omega)];exact k3,?_,?_⟩
         ·refine so bs (fun k hk=>?_) (by omega);have:=(hrow.wr (i*t.size+k) (by omega)).1;rwa [← Nat.add_assoc] at this
         ·have:=k1 us dv (by rw [c2 hi];exact k2) p.id hl1 (fun b o aC=>gi b o (bp b o aC));refine ad.au.same SR _ _ ?_ this;intro b o aC;rcases aC with aC | aC
          ·exact SQ b o (bp b o aC)
          ·exact adZ b o aC
       ·rintro j hj (aC | aC)
        ·exact cp j hj aC
        ·exact f1.apart p.id hl1 _ _ aC (hrow.inF j hj)
       ·rintro b o (aC | aC)
        ·exact .inl (gi b o aC)
        ·exact .inr aC
      ·rcases hf with hf | hf
       ·exact⟨(i1.own _ hl1 b o hf).1,Nat.lt_of_lt_of_le (i1.own _ hl1 b o hf).2 hx.size⟩
       ·exact⟨(f1.own b o hf).1,Nat.lt_of_lt_of_le (f1.own b o hf).2 hx.size⟩
      ·rw [cW j2];have d':=sH j2 gr
       rintro b o (hf | hf) iN
       ·exact i1.apart p.id eh hl1 d' j2 b o hf iN
       ·exact f1.apart eh d' b o hf iN
     ·exact absurd ⟨cW hj,cW hj⟩ hne
    ·intro j hl;by_cases hj:p.id=j
     ·subst hj;rw [cL]
      rintro b o (hf | hf) hz
      ·exact i1.db _ hl1 b o hf hz
      ·exact f1.db b o hf hz
     ·rw [cW hj];exact i1.db j (sH hj hl)
 | none=>rw [ho] at hr;simp at hr
 | dead=>rw [ho] at hr;simp at hr
 | cm=>rw [ho] at hr;simp at hr
end
end Go.LM
namespace Go.LM
mutual
def ad.cT:ad→List Value
 | .int k=>[.int k 0]
 | .bool=>[.bool false]
 | .str=>[.string ⟨#[]⟩]
 | .raw=>[.slice none 0 0]
 | .sl _=>[.slice none 0 0]
 | .st ak=>ak.cT
def aA.cT:aA→List Value
 | .nil=>[]
 | .cons t ak=>t.cT++ak.cT
end
def dN(t:ad)(vs:List Value):Value:=
 match t with
 | .st _=>.agg vs.toArray
 | _=>vs.headD undef
def l0(P:Program)(id:TypeId)(t:ad):Prop:=
 ∃i,P.info? id=some i∧i.size=t.size∧i.zero=some (dN t t.cT)∧i.bytes≤2048
mutual
def ad.ok(P:Program):ad→TypeId→Prop
 | .int k,id=>P.underlying id=some (.int k)∧l0 P id (.int k)
 | .bool,id=>P.underlying id=some .bool∧l0 P id .bool
 | .str,id=>P.underlying id=some .string∧l0 P id .str
 | .raw,id=>l0 P id .raw∧∃e,P.underlying id=some (.slice e)
 | .sl t,id=>l0 P id (.sl t)∧∃e,P.underlying id=some (.slice e)∧t.ok P e
 | .st ak,id=>l0 P id (.st ak)∧∃cD,P.underlying id=some (.struct cD)∧ak.okF P cD.toList 0
def aA.okF(P:Program):aA→List Field→Nat→Prop
 | .nil,cD,_=>cD=[]
 | .cons t ak,cD,off=>∃f l1,cD=f :: l1∧f.offset=off∧t.ok P f.type∧ak.okF P l1 (off+t.size)
end
def ad.agg:ad→Bool
 | .st _=>true
 | _=>false
theorem ad.ok.info{P:Program}{t:ad}{id:TypeId}(h:t.ok P id):l0 P id t:=by cases t <;> simp only [ad.ok] at h <;> first | exact h.2 | exact h.1
theorem ad.l2:∀t:ad,t.cT.length=t.size
 | .int _=>rfl
 | .bool=>rfl
 | .str=>rfl
 | .raw=>rfl
 | .sl _=>rfl
 | .st ak=>by simp only [ad.cT,ad.size];exact go ak
where
 go:∀ak:aA,ak.cT.length=ak.size
 | .nil=>rfl
 | .cons t ak=>by simp only [aA.cT,aA.size,List.length_append,ad.l2 t,go ak]
section
variable{P:Program}{t:ad}{id:TypeId}{w:World}
theorem run_underlying{d:TypeDesc}(h:P.underlying id=some d):(underlying id).run P w=.ok d w:=by simp [underlying,run_bind,program,Sem.run,h,run_pure]
theorem run_typeInfo{i:TypeInfo}(h:P.info? id=some i):(typeInfo id).run P w=.ok i w:=by simp [typeInfo,run_bind,program,Sem.run,h,run_pure]
theorem run_sizeOf(h:t.ok P id):(sizeOf id).run P w=.ok t.size w:=by obtain ⟨i,h1,h2,_⟩:=h.info;simp [sizeOf,run_bind,run_typeInfo h1,run_pure,h2]
theorem Dj(h:t.ok P id):(zeroValue id).run P w=.ok (dN t t.cT) w:=by obtain ⟨i,h1,_,h3,_⟩:=h.info;simp [zeroValue,run_bind,run_typeInfo h1,run_pure,h3]
theorem SS(h:t.ok P id):(isAgg id).run P w=.ok t.agg w:=by
 unfold isAgg
 cases t with
 | st ak=>obtain ⟨_,cD,h1,_⟩:=(by simpa only [ad.ok] using h:l0 P id (.st ak)∧∃cD,P.underlying id=some (.struct cD)∧ak.okF P cD.toList 0);rw [run_bind,run_underlying h1];rfl
 | sl t=>obtain ⟨_,e,h1,_⟩:=(by simpa only [ad.ok] using h:l0 P id (.sl t)∧∃e,P.underlying id=some (.slice e)∧t.ok P e);rw [run_bind,run_underlying h1];rfl
 | raw=>obtain ⟨_,e,h1⟩:=(by simpa only [ad.ok] using h:l0 P id .raw∧∃e,P.underlying id=some (.slice e));rw [run_bind,run_underlying h1];rfl
 | int k=>have h1:=(by simpa only [ad.ok] using h:P.underlying id=some (.int k)∧l0 P id (.int k));rw [run_bind,run_underlying h1.1];rfl
 | bool=>have h1:=(by simpa only [ad.ok] using h:P.underlying id=some .bool∧l0 P id .bool);rw [run_bind,run_underlying h1.1];rfl
 | str=>have h1:=(by simpa only [ad.ok] using h:P.underlying id=some .string∧l0 P id .str);rw [run_bind,run_underlying h1.1];rfl
theorem KN(h:t.agg=false):t.size=1:=by cases t <;> simp_all [ad.agg,ad.size]
theorem KO(h:t.agg=true)(vs:List Value):dN t vs=.agg vs.toArray:=by cases t <;> simp_all [ad.agg,dN]
theorem KP(h:t.agg=false)(v:Value):dN t [v]=v:=by cases t <;> simp_all [ad.agg,dN]
theorem KQ(h:t.ok P id){b o:Nat}{vs:List Value}(hc:cc w b o vs)(hl:vs.length=t.size):(loadVar id (at_ b o)).run P w=.ok (dN t vs) w:=by
 unfold loadVar;rw [run_bind,SS h];simp only;cases ha:t.agg
 ·rw [KN ha] at hl
  match vs,hl with
  | [v],_=>rw [KP ha];simp only [Bool.false_eq_true,if_false];exact run_load hc.head
 ·simp only [if_true];rw [run_bind,run_sizeOf h,← hl];simp only;rw [run_bind,run_loadCells hc,KO ha];rfl
theorem KR{v:Value}(h:ep v=true):v.cells = #[v]:=by cases v <;> simp_all [ep,Value.cells]
theorem KS(h:t.ok P id){b o:Nat}{v:Value}(hl:v.cells.size=t.size)(h1:∀u∈v.cells.toList,ep u=true)(hw:∀i,i<v.cells.size→fE w b (o+i)) :
  (storeVar id (at_ b o) v).run P w=.ok () (setCells w b o v.cells.toList):=by
 unfold storeVar;rw [run_bind,run_sizeOf h];simp only;rw [if_neg (by simp [hl])];have:=C2 (P:=P) (b:=b) (o:=o) v.cells.toList w 0 h1 (fun i hi=>by simpa using hw i (by simpa using hi));simpa using this
theorem SU{e:TypeId}{v:Value} :(newVar e v).run P w=.ok (at_ w.heap.size 0) { w with heap:=w.heap.push (.cells v.cells e) }:= by simp [newVar,newRow,Go.newObj,run_bind,Sem.run,run_pure,at_]
end
section
variable{w0:World}{F0 Z0:ag}{n:cM}{s av:ar}{a b5:Act}{w w':World}{ι bm:Nat→bH}{Z Z':ag}
theorem sI{t:ad}{x:ba}{cs:List bb}{v:Value}(h:je t x=some cs)(hv:aT w Z s ι x v):bL w Z s ι cs v.cells.toList:=by
 cases x <;> simp only [je] at h <;> try (simp at h;done)
 ·obtain rfl:=aW h;simp only [aT] at hv;rw [KR hv.ep];exact⟨hv,trivial⟩
 ·obtain rfl:=aW h;simp only [aT] at hv;obtain ⟨vs,rfl,hc⟩:=hv;simpa [Value.cells] using hc
 ·cases t <;> simp at h
  subst h;simp only [aT] at hv;subst hv;exact⟨rfl,trivial⟩
theorem pW{t:ad}{x:ba}{cs:List bb}{vs:List Value}(h:kh t cs=some x)(hc:bL w Z s ι cs vs):aT w Z s ι x (dN t vs):=by
 cases t with
 | st ak=>simp only [kh] at h;obtain rfl:=aW h;simp only [aT,dN];exact⟨vs,rfl,hc⟩
 | _=>
  simp only [kh] at h
  match cs,vs,hc with
  | [],[],_=>simp at h
  | [c],[v],hc=>simp at h;subst h;simp only [aT,dN];exact hc.1
  | _ :: _ :: _,_,_=>simp at h
theorem sJ:∀t:ad,bL w Z s ι t.jH t.cT
 | .int _=>⟨rfl,trivial⟩
 | .bool=>⟨rfl,trivial⟩
 | .str=>⟨⟨_,rfl,rfl⟩,trivial⟩
 | .raw=>⟨⟨rfl,_,_,_,rfl⟩,trivial⟩
 | .sl _=>⟨rfl,trivial⟩
 | .st ak=>by simp only [ad.jH,ad.cT];exact go ak
where
 go:∀ak:aA,bL w Z s ι ak.jH ak.cT
 | .nil=>trivial
 | .cons t ak=>by simp only [aA.jH,aA.cT];exact(sJ t).append (go ak)
theorem KT{t:ad}{vs:List Value}(hl:vs.length=t.size)(h1:∀v∈vs,ep v=true):(dN t vs).cells.toList=vs:=by
 cases ha:t.agg
 ·rw [KN ha] at hl
  match vs,hl with
  | [v],_=>rw [KP ha,KR (h1 v (by simp))]
 ·rw [KO ha];simp [Value.cells]
theorem Inv.newVar(h:Inv w0 F0 Z0 n s a w ι Z){id:Nat}(cj:s.o id=.none){cs:List bb}{vs:Array Value}(hc:bL w Z s ι cs vs.toList)(e:TypeId) :
  Inv w0 F0 Z0 n (s.bV id (.var 0 cs)) a { w with heap:=w.heap.push (.cells vs e) } (bW ι id ⟨some (at_ w.heap.size 0),0,ag.run w.heap.size 0 cs.length⟩) Z:=by
 have hx:=Ext.push w (.cells vs e) ag.none;have hm:=SG h cj hx (.var 0 cs) ⟨some (at_ w.heap.size 0),0,ag.run w.heap.size 0 cs.length⟩;have hl:=hc.len;refine h.new cj hx ?_ ?_
 ·refine⟨at_ w.heap.size 0,vs.toList,rfl,rfl,hc.move hm,?_,fun j hj=>⟨⟨?_,?_⟩,rfl,by simp [at_],by simpa [at_] using hj⟩⟩
  ·intro i v hv;show World.cell? _ (at_ w.heap.size (0+i))=_;rw [SB];simpa using hv
  ·refine⟨vs[j]'(by simp at hl;omega),?_⟩;show World.cell? _ (at_ w.heap.size (0+j))=_;rw [SB];simp
  ·show World.frozen? _ (at_ w.heap.size (0+j))=_;rw [qU,SA];simp
 ·rintro b o ⟨rfl,_,_⟩;simp
end
end Go.LM
