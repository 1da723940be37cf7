/- The data and the interpreter of the reflective walk, and how its states stand for frames and worlds. Conditions: each theorem's own hypotheses. -/
import Derived.Calls
import Derived.KernelRfl
import Derived.Orders
set_option linter.unusedVariables false
set_option linter.unusedSimpArgs false
namespace Go.LM
theorem av.{u,v}{α:Type u}{β:Type v}(a:α)(f:α→Option β):(some a).bind f=f a:=rfl
theorem aV.{u}{α:Type u}{a b:α}(h:some a=some b):a=b:=_root_.Option.some.inj h
theorem bf.{u,v}{α:Type u}{β:Type v}{o:Option α}{f:α→Option β}{b:β}(h:o.bind f=some b):∃a,o=some a∧f a=some b:=_root_.Option.bind_eq_some_iff.1 h
mutual
inductive ae where
 | int (k:IntKind)
 | bool
 | str
 | sl (t:ae)
 | st (aj:ay)
 | raw
inductive ay where
 | nil
 | cons (t:ae) (aj:ay)
end
mutual
@[reducible] def ae.D:ae→Type
 | .int _=>Int
 | .bool=>Bool
 | .str=>List UInt8
 | .sl t=>List t.D
 | .st aj=>aj.D
 | .raw=>Value
@[reducible] def ay.D:ay→Type
 | .nil=>Unit
 | .cons t aj=>t.D×aj.D
end
def di:IntKind→Nat
 | .i8=>0 | .i16=>1 | .i32=>2 | .i64=>3 | .u8=>4 | .u16=>5 | .u32=>6 | .u64=>7
theorem sH:∀ {a b:IntKind},di a=di b→a=b:=by
 intro a b;cases a <;> cases b <;> simp [di]
mutual
def ae.beq:ae→ae→Bool
 | .int a,.int b=>Nat.beq (di a) (di b)
 | .bool,.bool=>true
 | .str,.str=>true
 | .sl a,.sl b=>ae.beq a b
 | .st a,.st b=>ay.beq a b
 | .raw,.raw=>true
 | _,_=>false
def ay.beq:ay→ay→Bool
 | .nil,.nil=>true
 | .cons a as,.cons b bn=>cond (ae.beq a b) (ay.beq as bn) false
 | _,_=>false
end
mutual
theorem ae.eq_of_beq:∀(a b:ae),ae.beq a b=true→a=b
 | .int a,.int b,h=>by simp only [ae.beq] at h;rw [sH (Nat.eq_of_beq_eq_true h)]
 | .bool,.bool,_=>rfl
 | .str,.str,_=>rfl
 | .sl a,.sl b,h=>by simp only [ae.beq] at h;rw [ae.eq_of_beq a b h]
 | .st a,.st b,h=>by simp only [ae.beq] at h;rw [ay.eq_of_beq a b h]
 | .raw,.raw,_=>rfl
 | .int _,.bool,h | .int _,.str,h | .int _,.sl _,h | .int _,.st _,h | .int _,.raw,h=>by simp [ae.beq] at h
 | .bool,.int _,h | .bool,.str,h | .bool,.sl _,h | .bool,.st _,h | .bool,.raw,h=>by simp [ae.beq] at h
 | .str,.int _,h | .str,.bool,h | .str,.sl _,h | .str,.st _,h | .str,.raw,h=>by simp [ae.beq] at h
 | .sl _,.int _,h | .sl _,.bool,h | .sl _,.str,h | .sl _,.st _,h | .sl _,.raw,h=>by simp [ae.beq] at h
 | .st _,.int _,h | .st _,.bool,h | .st _,.str,h | .st _,.sl _,h | .st _,.raw,h=>by simp [ae.beq] at h
 | .raw,.int _,h | .raw,.bool,h | .raw,.str,h | .raw,.sl _,h | .raw,.st _,h=>by simp [ae.beq] at h
theorem ay.eq_of_beq:∀(a b:ay),ay.beq a b=true→a=b
 | .nil,.nil,_=>rfl
 | .cons a as,.cons b bn,h=>by
  simp only [ay.beq] at h
  cases hb:ae.beq a b
  ·rw [hb] at h;simp at h
  ·rw [hb] at h;rw [ae.eq_of_beq a b hb,ay.eq_of_beq as bn h]
 | .nil,.cons _ _,h | .cons _ _,.nil,h=>by simp [ay.beq] at h
end
def eB(a b:ae)(x:a.D):Option b.D :=
 if h:ae.beq a b=true then some ((ae.eq_of_beq a b h) ▸ x) else none
theorem AI{a b:ae}{x:a.D}{y:b.D}(h:eB a b x=some y):∃e:a=b,y=e ▸ x:=by
 unfold eB at h
 split at h
 ·rename_i hb;exact⟨ae.eq_of_beq a b hb,by injection h with h;exact h.symm⟩
 ·simp at h
mutual
def ae.size:ae→Nat
 | .st aj=>aj.size
 | _=>1
def ay.size:ay→Nat
 | .nil=>0
 | .cons t aj=>t.size+aj.size
end
mutual
def ae.zero:(t:ae)→t.D
 | .int _=>(0:Int)
 | .bool=>false
 | .str=>([]:List UInt8)
 | .sl t=>([]:List t.D)
 | .st aj=>aj.zero
 | .raw=>(.slice none 0 0:Value)
def ay.zero:(aj:ay)→aj.D
 | .nil=>()
 | .cons t aj=>(t.zero,aj.zero)
end
mutual
inductive ba where
 | R
 | O (e:ba)
 | S (ms:cS)
inductive cS where
 | nil
 | cons (m:ba) (ms:cS)
end
mutual
def ba.beq:ba→ba→Bool
 | .R,.R=>true
 | .O a,.O b=>ba.beq a b
 | .S a,.S b=>cS.beq a b
 | _,_=>false
def cS.beq:cS→cS→Bool
 | .nil,.nil=>true
 | .cons a as,.cons b bn=>cond (ba.beq a b) (cS.beq as bn) false
 | _,_=>false
end
mutual
theorem ba.eq_of_beq:∀(a b:ba),ba.beq a b=true→a=b
 | .R,.R,_=>rfl
 | .O a,.O b,h=>by simp only [ba.beq] at h;rw [ba.eq_of_beq a b h]
 | .S a,.S b,h=>by simp only [ba.beq] at h;rw [cS.eq_of_beq a b h]
 | .R,.O _,h | .R,.S _,h | .O _,.R,h | .O _,.S _,h | .S _,.R,h | .S _,.O _,h=>by simp [ba.beq] at h
theorem cS.eq_of_beq:∀(a b:cS),cS.beq a b=true→a=b
 | .nil,.nil,_=>rfl
 | .cons a as,.cons b bn,h=>by
  simp only [cS.beq] at h
  cases hb:ba.beq a b
  ·rw [hb] at h;simp at h
  ·rw [hb] at h;rw [ba.eq_of_beq a b hb,cS.eq_of_beq as bn h]
 | .nil,.cons _ _,h | .cons _ _,.nil,h=>by simp [cS.beq] at h
end
def ba.elem:ba→ba
 | .O e=>e
 | _=>.R
def cS.ag:cS→ba
 | .cons m _=>m
 | .nil=>.R
def cS.dt:cS→cS
 | .cons _ ms=>ms
 | .nil=>.nil
def ba.parts:ba→cS
 | .S ms=>ms
 | _=>.nil
structure Place where
 id:Nat
 fa:Option Nat
 off:Nat
inductive a8 where
 | int (k:IntKind) (x:Int)
 | bool (b:Bool)
 | str (s:List UInt8)
 | raw (v:Value)
 | nil (t:ae)
 | bW (t:ae) (akj:List (Nat×Nat)) (akk:Option Place) (xs:List t.D)
 | ag (id:Nat) (sub:Option (Nat×Nat))
inductive a6 where
 | aD
 | gone
 | aU (c:a8)
 | h7 (cs:List a8)
 | ptr (p:Place)
 | dg (dp:List (Nat×Nat)) (cs:List a8) (off:Nat)
 | jD
 | kq
 | opt (id:Nat) (o:Int)
 | q0 (t:ae)
 | may (b:Bool) (dp:List (Nat×Nat)) (cs:List a8)
 | fn (f:FuncId) (first kU:List a6)
 | oE (l:List a6)
inductive ck where
 | none
 | dead
 | var (ver:Nat) (cs:List a8)
 | row (t:ae) (em:ba) (ver:Nat) (xs:List t.D)
 | b_ (o:ck)
def ck.core:ck→ck
 | .b_ o=>o
 | o=>o
structure aq where
 t:Nat→a6
 o:Nat→ck
 g:List a6
def bQ{α : Type}(f:Nat → α)(i:Nat)(v : α):Nat → α := fun j=>cond (Nat.beq j i) v (f j)
theorem cw{α : Type}(f:Nat → α)(i:Nat)(v : α):bQ f i v i=v:=by simp [bQ]
theorem q1{α : Type}{f:Nat → α}{i j:Nat}{v : α}(h:j≠i):bQ f i v j=f j:=by
 unfold bQ
 have:Nat.beq j i=false:=by
  cases hb:Nat.beq j i
  ·rfl
  ·exact absurd (Nat.eq_of_beq_eq_true hb) h
 rw [this];rfl
def aq.set(s:aq)(d:Nat)(v:a6):aq:=⟨bQ s.t d v,s.o,s.g⟩
def aq.bN(s:aq)(i:Nat)(v:ck):aq:=⟨s.t,bQ s.o i v,s.g⟩
def aq.dst(s:aq)(d:Option Nat)(v:a6):aq :=
 match d with
 | some d=>s.set d v
 | none=>s
mutual
def ae.cells:(t:ae)→List (Nat×Nat)→Option Place→t.D→List a8
 | .int k,_,_,x=>[.int k x]
 | .bool,_,_,x=>[.bool x]
 | .str,_,_,x=>[.str x]
 | .sl t,dp,cr,x=>[.bW t dp cr x]
 | .st aj,dp,cr,x=>aj.cells dp cr x
 | .raw,_,_,x=>[.raw x]
def ay.cells:(aj:ay)→List (Nat×Nat)→Option Place→aj.D→List a8
 | .nil,_,_,_=>[]
 | .cons t aj,dp,cr,x=>t.cells dp cr x.1++aj.cells dp (cr.map fun p => { p with off:=p.off+t.size }) x.2
end
mutual
def ae.iU:ae→List a8
 | .int k=>[.int k 0]
 | .bool=>[.bool false]
 | .str=>[.str []]
 | .sl t=>[.nil t]
 | .st aj=>aj.iU
 | .raw=>[.raw (.slice none 0 0)]
def ay.iU:ay→List a8
 | .nil=>[]
 | .cons t aj=>t.iU++aj.iU
end
mutual
def ae.own:ae→ba
 | .sl t=>.O t.own
 | .st aj=>if aj.flat then .R else .S aj.own
 | _=>.R
def ay.own:ay→cS
 | .nil=>.nil
 | .cons t aj=>.cons t.own aj.own
def ae.flat:ae→Bool
 | .sl _=>false
 | .st aj=>aj.flat
 | _=>true
def ay.flat:ay→Bool
 | .nil=>true
 | .cons t aj=>cond t.flat aj.flat false
end
def ba.le(a b:ba):Bool :=
 match b with
 | .R=>true
 | _=>ba.beq a b
end Go.LM
namespace Go.LM
def room(n:Nat):Bool:=Nat.ble n 68719476736
def jl{bs : Type}(b:Bool)(x:Option bs):Option bs := cond b x none
def aN(n:Nat)(i:Int):Option Nat:=if 0≤i∧i<(n:Int) then some i.toNat else none
def dZ(n:Nat)(lo hi:Int):Option (Nat×Nat):=if 0≤lo∧lo≤hi∧hi≤(n:Int) then some (lo.toNat,hi.toNat) else none
def J(t:ae)(xs:List t.D)(n:Nat):t.D:=xs.getD n t.zero
def part{α : Type}(l:List α)(lo len:Nat):List α :=(l.drop lo).take len
def aG(x:Int):Int:=IntKind.wrap .i64 x
def cN(op:BinOp)(k:IntKind)(x y:Int):Int :=
 let a:=BitVec.ofInt k.bits x
 let b:=BitVec.ofInt k.bits y
 match op with
 | .and=>k.wrap (a &&& b).toNat
 | .or=>k.wrap (a ||| b).toNat
 | .xor=>k.wrap (a ^^^ b).toNat
 | _=>k.wrap (a &&& ~~~b).toNat
def br(x y:List UInt8):Bool:=decide (x=y)
def du(x y:List UInt8):Bool:=Op.bytesLess x y
def Xx(x y:Int):Int:=if y>x then y else x
def jm(x y:Int):Int:=if y<x then y else x
def eo(s:List UInt8):List Int:=s.map fun b=>(b.toNat:Int)
def gp(l:List Int):List UInt8:=l.map fun n=>UInt8.ofNat n.toNat
inductive bx where
 | val (t:ae) (m:ba)
 | ref (t:ae)
 | mut (t:ae) (m m':ba)
 | gU (t:ae) (m:ba)
 | fn (lJ oF:Nat)
 | gV (t:ae)
inductive cU where
 | val (t:ae) (m:ba)
 | opt (arg off:Nat) (t:ae)
 | new (t:ae) (m:ba)
 | oG (t:ae)
 | any (t:ae)
def bx.ins:List bx→ay
 | []=>.nil
 | .val t _ :: l | .ref t :: l | .mut t _ _ :: l | .gU t _ :: l | .gV t :: l=>.cons t (bx.ins l)
 | .fn _ _ :: l=>bx.ins l
def cU.outs:List cU→ay→ay
 | [],aj=>aj
 | .val t _ :: l,aj=>.cons t (cU.outs l aj)
 | .new t _ :: l,aj=>.cons t (cU.outs l aj)
 | .oG t :: l,aj=>.cons (.sl t) (cU.outs l aj)
 | .any _ :: l,aj=>cU.outs l aj
 | .opt _ _ _ :: l,aj=>.cons (.int .i64) (cU.outs l aj)
def bx.dU:List bx→ay
 | []=>.nil
 | .mut t _ _ :: l | .gU t _ :: l=>.cons t (bx.dU l)
 | _ :: l=>bx.dU l
structure Entry where
 ps:List bx
 rs:List cU
 f:(bx.ins ps).D→Option (cU.outs rs (bx.dU ps)).D
structure Env where
 n:Nat
 ty:Nat→Option ae
 GK:Nat→Bool
 sI:Nat→Bool
 fns:FuncId→FuncId→Option Entry
def kr{α : Type}(sub:Option (Nat×Nat))(xs:List α):List α :=
 match sub with
 | none=>xs
 | some (lo,len)=>part xs lo len
def kV{α : Type}(sub:Option (Nat×Nat))(xs:List α):Nat :=
 match sub with
 | none=>xs.length
 | some (_,len)=>len
def eb(sub:Option (Nat×Nat)):Nat :=
 match sub with
 | none=>0
 | some (lo,_)=>lo
def alive(s:aq):List (Nat×Nat)→Bool
 | []=>true
 | (i,v) :: l=>match s.o i with
  | .row _ _ w _=>cond (Nat.beq w v) (alive s l) false
  | .var w _=>cond (Nat.beq w v) (alive s l) false
  | _=>false
def j7(s:aq)(id:Nat):Nat :=
 match s.o id with
 | .row _ _ v _=>v
 | .var v _=>v
 | .b_ (.row _ _ v _)=>v
 | .b_ (.var v _)=>v
 | _=>0
def oH(s:aq)(t:ae):a8→Option (List t.D)
 | .nil u=>eB (.sl u) (.sl t) ([]:List u.D)
 | .bW u dp _ xs=>cond (alive s dp) (eB (.sl u) (.sl t) xs) none
 | .ag id sub=>match s.o id with
  | .row u _ _ xs=>eB (.sl u) (.sl t) (kr sub xs)
  | _=>none
 | _=>none
def borrows(s:aq):a8→List (Nat×Nat)
 | .ag id _=>match s.o id with
  | .row _ _ v _=>[(id,v)]
  | _=>[]
 | .bW _ dp _ _=>dp
 | _=>[]
mutual
def ae.imp:(t:ae)→(b:Bool)→ba→List a8→aq→List (Nat×Nat)→Option (t.D×List a8×aq×List (Nat×Nat))
 | .int k,_,_,.int k' x :: cs,s,bn=>cond (Nat.beq (di k) (di k')) (some (x,cs,s,bn)) none
 | .bool,_,_,.bool x :: cs,s,bn=>some (x,cs,s,bn)
 | .str,_,_,.str x :: cs,s,bn=>some (x,cs,s,bn)
 | .raw,_,_,.raw x :: cs,s,bn=>some (x,cs,s,bn)
 | .sl t,b,.O e,c :: cs,s,bn=>match c with
  | .nil u=>(eB (.sl u) (.sl t) ([]:List u.D)).bind fun x=>some (x,cs,s,bn)
  | .ag id sub=>match s.o id with
   | .row u em _ xs=>cond (ba.le em e) ((eB (.sl u) (.sl t) (kr sub xs)).bind fun x=>some (x,cs,s.bN id .dead,bn)) none
   | _=>none
  | _=>none
 | .sl t,true,_,c :: cs,s,bn=>(oH s t c).bind fun x=>some (x,cs,s,borrows s c++bn)
 | .sl t,false,_,c :: cs,s,bn=>match c with
  | .nil u=>(eB (.sl u) (.sl t) ([]:List u.D)).bind fun x=>some (x,cs,s,bn)
  | .bW u [] _ xs=>(eB (.sl u) (.sl t) xs).bind fun x=>some (x,cs,s,bn)
  | .ag id sub=>match s.o id with
   | .row u _ _ xs=>(eB (.sl u) (.sl t) (kr sub xs)).bind fun x=>some (x,cs,s.bN id .dead,bn)
   | _=>none
  | _=>none
 | .st aj,b,m,cs,s,bn=>aj.imp b m.parts cs s bn
 | _,_,_,_,_,_=>none
def ay.imp:(aj:ay)→(b:Bool)→cS→List a8→aq→List (Nat×Nat)→Option (aj.D×List a8×aq×List (Nat×Nat))
 | .nil,_,_,cs,s,bn=>some ((),cs,s,bn)
 | .cons t aj,b,m,cs,s,bn=>(t.imp b m.ag cs s bn).bind fun r=>(aj.imp b m.dt r.2.1 r.2.2.1 r.2.2.2).bind fun q=>some ((r.1,q.1),q.2)
end
mutual
def ae.put:(t:ae)→ba→t.D→Nat→List a8→aq→Option (t.D×List a8×aq)
 | t,m,x,skip,cs,s =>
  match cs with
  | []=>some (x,[],s)
  | c :: cs' =>
   cond (Nat.beq skip 0&&Nat.ble t.size (cs'.length+1)) ((t.imp false m (c :: cs') s []).bind fun r=>some (r.1,r.2.1,r.2.2.1))
    (match t,x with
     | .st aj,x=>aj.put m.parts x skip (c :: cs') s
     | _,_=>none)
def ay.put:(aj:ay)→cS→aj.D→Nat→List a8→aq→Option (aj.D×List a8×aq)
 | .nil,_,_,_,cs,s=>some ((),cs,s)
 | .cons t aj,m,x,skip,cs,s =>
  cond (Nat.ble t.size skip) ((aj.put m.dt x.2 (skip-t.size) cs s).bind fun q=>some ((x.1,q.1),q.2))
   ((t.put m.ag x.1 skip cs s).bind fun r=>(aj.put m.dt x.2 0 r.2.1 r.2.2).bind fun q=>some ((r.1,q.1),q.2))
end
mutual
def ae.gW:(t:ae)→ba→List (Nat×Nat)→t.D→aq→Nat→Option (List a8×aq×Nat)
 | .int k,_,_,x,s,j=>some ([.int k x],s,j)
 | .bool,_,_,x,s,j=>some ([.bool x],s,j)
 | .str,_,_,x,s,j=>some ([.str x],s,j)
 | .raw,_,_,x,s,j=>some ([.raw x],s,j)
 | .sl t,.O e,dp,x,s,j=>cond (dp.isEmpty||ba.beq e t.own) (match s.o j with
  | .none=>some ([.ag j none],s.bN j (.row t e 0 x),j+1)
  | _=>none) none
 | .sl t,_,dp,x,s,j=>some ([.bW t dp none x],s,j)
 | .st aj,m,dp,x,s,j=>aj.gW m.parts dp x s j
def ay.gW:(aj:ay)→cS→List (Nat×Nat)→aj.D→aq→Nat→Option (List a8×aq×Nat)
 | .nil,_,_,_,s,j=>some ([],s,j)
 | .cons t aj,m,dp,x,s,j=>(t.gW m.ag dp x.1 s j).bind fun r=>(aj.gW m.dt dp x.2 r.2.1 r.2.2).bind fun q=>some (r.1++q.1,q.2)
end
mutual
def ae.xF:(t:ae)→aq→List a8→ba×List a8
 | .sl t,s,c :: cs=>(match c with
  | .nil _=>.O t.own
  | .ag id _=>match s.o id with
   | .row _ em _ _=>.O em
   | _=>.R
  | _=>.R,cs)
 | .st aj,s,cs=>cond aj.flat (.R,cs.drop aj.size) (let r:=aj.xF s cs;(.S r.1,r.2))
 | _,_,cs=>(.R,cs.drop 1)
def ay.xF:(aj:ay)→aq→List a8→cS×List a8
 | .nil,_,cs=>(.nil,cs)
 | .cons t aj,s,cs=>let r:=t.xF s cs;let q:=aj.xF s r.2;(.cons r.1 q.1,q.2)
end
def takeN(off n:Nat)(cs:List a8):Option (List a8) :=
 cond (Nat.ble (off+n) cs.length) (some (part cs off n)) none
def GL(t:ae)(em:ba)(id ver i:Nat)(x:t.D):List a8 :=
 match em with
 | .R=>t.cells [] none x
 | _=>t.cells [(id,ver)] (some ⟨id,some i,0⟩) x
def lK(s:aq)(n:Nat)(p:Place):Option (List a8) :=
 match s.o p.id,p.fa with
 | .var _ cs,none=>takeN p.off n cs
 | .row t em ver xs,some i=>takeN p.off n (GL t em p.id ver i (J t xs i))
 | _,_=>none
def AJ(s:aq)(p:Place)(cs:List a8):Option aq :=
 match s.o p.id,p.fa with
 | .var ver old,none=>cond (Nat.ble (p.off+cs.length) old.length) (some (s.bN p.id (.var (ver+1) (old.take p.off++cs++old.drop (p.off+cs.length))))) none
 | .row t em ver xs,some i =>
  cond (Nat.ble (p.off+cs.length) t.size) ((t.put em (J t xs i) p.off cs s).bind fun r =>
   match r.2.1,r.2.2.o p.id with
   | [],.row _ _ _ _=>some (r.2.2.bN p.id (.row t em (ver+1) (xs.set i r.1)))
   | _,_=>none) none
 | _,_=>none
def jE(t:ae)(cs:List a8):Option a6 :=
 match t with
 | .st _=>some (.h7 cs)
 | _=>match cs with
  | [c]=>some (.aU c)
  | _=>none
def iy(t:ae):a6→Option (List a8)
 | .aU c=>some [c]
 | .h7 cs=>some cs
 | .kq=>match t with
  | .sl u=>some [.nil u]
  | _=>none
 | _=>none
def GM:Value→a6
 | .int k n=>.aU (.int k n)
 | .bool b=>.aU (.bool b)
 | .string b=>.aU (.str b.data.toList)
 | .slice none 0 0=>.kq
 | .pointer none=>.jD
 | _=>.aD
def bT(s:aq):Operand→a6
 | .tmp t=>s.t t
 | .const v=>GM v
 | .func f=>.fn f [] []
 | .global _=>.aD
def typed(E:Env)(t:Nat):a6→Option a6
 | .aD=>none
 | .gone=>none
 | .kq=>match E.ty t with
  | some (.sl u)=>some (.aU (.nil u))
  | _=>none
 | v=>some v
def j8:a6→Option Int
 | .aU (.int _ n)=>some n
 | _=>none
end Go.LM
namespace Go.LM
def nF(s:aq):a8→Option Nat
 | .nil _=>some 0
 | .bW _ dp _ xs=>cond (alive s dp) (some xs.length) none
 | .ag id sub=>match s.o id with
  | .row _ _ _ xs=>some (kV sub xs)
  | _=>none
 | .str x=>some x.length
 | _=>none
mutual
def ae.cmp:ae→List a8→List a8→Option (Bool×List a8×List a8)
 | .int k,.int k1 x :: a,.int k2 y :: b=>cond (Nat.beq (di k1) (di k)&&Nat.beq (di k2) (di k)) (some (x==y,a,b)) none
 | .bool,.bool x :: a,.bool y :: b=>some (x==y,a,b)
 | .str,.str x :: a,.str y :: b=>some (br x y,a,b)
 | .st aj,a,b=>aj.cmp a b
 | _,_,_=>none
def ay.cmp:ay→List a8→List a8→Option (Bool×List a8×List a8)
 | .nil,a,b=>some (true,a,b)
 | .cons t aj,a,b=>(t.cmp a b).bind fun r=>(aj.cmp r.2.1 r.2.2).bind fun q=>some (r.1&&q.1,q.2)
end
def AK(op:BinOp)(k:IntKind)(x y:Int):Option a6 :=
 match op with
 | .add=>some (.aU (.int k (k.wrap (x+y))))
 | .sub=>some (.aU (.int k (k.wrap (x-y))))
 | .mul=>some (.aU (.int k (k.wrap (x*y))))
 | .and=>some (.aU (.int k (cN .and k x y)))
 | .or=>some (.aU (.int k (cN .or k x y)))
 | .xor=>some (.aU (.int k (cN .xor k x y)))
 | .andNot=>some (.aU (.int k (cN .andNot k x y)))
 | .eql=>some (.aU (.bool (x==y)))
 | .neq=>some (.aU (.bool (x != y)))
 | .lss=>some (.aU (.bool (decide (x<y))))
 | .leq=>some (.aU (.bool (decide (x≤y))))
 | .gtr=>some (.aU (.bool (decide (x>y))))
 | .geq=>some (.aU (.bool (decide (x≥y))))
 | _=>none
def AL(op:BinOp)(x y:List UInt8):Option a6 :=
 match op with
 | .eql=>some (.aU (.bool (br x y)))
 | .neq=>some (.aU (.bool (!br x y)))
 | .lss=>some (.aU (.bool (du x y)))
 | .leq=>some (.aU (.bool (du x y||br x y)))
 | .gtr=>some (.aU (.bool (!(du x y||br x y))))
 | .geq=>some (.aU (.bool (!du x y)))
 | _=>none
section
variable{bs : Type}
def lift(x:Option a6)(K:a6→Option bs):Option bs :=
 match x with
 | some v=>K v
 | none=>none
open Classical in
noncomputable def both(a b:Option bs):Option bs := if a=b then a else none
noncomputable def AM(b:Bool)(x y:Option bs):Option bs := cond b (both x y) y
noncomputable def ks(E:Env)(ty:Nat)(op:BinOp)(x y:a6)(K:a6→Option bs):Option bs :=
 match x,y with
 | .aU (.int k a),.aU (.int k' b) =>
  match op with
  | .shl=>jl (decide (0≤b)) (K (.aU (.int k (k.wrap (a*2 ^ min b.toNat k.bits)))))
  | .shr=>jl (decide (0≤b)) (K (.aU (.int k (a.fdiv (2 ^ min b.toNat k.bits)))))
  | .quo=>cond (Nat.beq (di k) (di k')) (jl (b != 0) (K (.aU (.int k (k.wrap (a.tdiv b)))))) none
  | .rem=>cond (Nat.beq (di k) (di k')) (jl (b != 0) (K (.aU (.int k (a.tmod b))))) none
  | _=>cond (Nat.beq (di k) (di k')) (lift (AK op k a b) K) none
 | .aU (.str a),.aU (.str b) =>
  match op with
  | .add=>jl (room (a.length+b.length)) (K (.aU (.str (a++b))))
  | _=>lift (AL op a b) K
 | .aU (.bool a),.aU (.bool b) =>
  match E.ty ty,op with
  | some .bool,.eql=>K (.aU (.bool (a==b)))
  | some .bool,.neq=>K (.aU (.bool (!(a==b))))
  | _,_=>none
 | .h7 a,.h7 b =>
  cond (E.GK ty) (match E.ty ty with
  | some T=>(match op,T.cmp a b with
   | .eql,some (r,[],[])=>K (.aU (.bool r))
   | .neq,some (r,[],[])=>K (.aU (.bool (!r)))
   | _,_=>none)
  | none=>none) none
 | .aU (.bW _ [] _ xs),.kq =>
  match E.ty ty,op with
  | some (.sl _),.eql=>AM xs.isEmpty (K (.aU (.bool true))) (K (.aU (.bool false)))
  | some (.sl _),.neq=>AM xs.isEmpty (K (.aU (.bool false))) (K (.aU (.bool true)))
  | _,_=>none
 | .opt _ o,.jD =>
  match E.sI ty,op with
  | true,.eql=>K (.aU (.bool (decide (o<0))))
  | true,.neq=>K (.aU (.bool (!decide (o<0))))
  | _,_=>none
 | .ptr _,.jD =>
  match E.sI ty,op with
  | true,.eql=>K (.aU (.bool false))
  | true,.neq=>K (.aU (.bool true))
  | _,_=>none
 | .may b _ _,.jD =>
  match E.sI ty,op with
  | true,.eql=>K (.aU (.bool (!b)))
  | true,.neq=>K (.aU (.bool b))
  | _,_=>none
 | _,_=>none
def GN(op:UnOp)(x:a6)(K:a6→Option bs):Option bs :=
 match op,x with
 | .neg,.aU (.int k n)=>K (.aU (.int k (k.wrap (0-n))))
 | .xor,.aU (.int k n)=>K (.aU (.int k (cN .xor k (if k.signed then -1 else k.max) n)))
 | .not,.aU (.bool b)=>K (.aU (.bool (!b)))
 | _,_=>none
def pP(t:ae)(m:ba):List (List a8)→aq→Option (List t.D×aq)
 | [],s=>some ([],s)
 | cs :: B,s=>(t.imp false m cs s []).bind fun r =>
   match r.2.1 with
   | []=>(pP t m B r.2.2.1).bind fun q=>some (r.1 :: q.1,q.2)
   | _=>none
def ay.nth:ay→Nat→Option ae
 | .nil,_=>none
 | .cons t _,0=>some t
 | .cons _ aj,n+1=>ay.nth aj n
def ay.nG:ay→List (List a8)
 | .nil=>[]
 | .cons t aj=>t.iU :: ay.nG aj
def q2(s:aq)(ty:Nat→Option ae):List (Nat×Operand)→List (List a8)→Option (List (List a8))
 | [],B=>some B
 | (i,x) :: ps,B =>
  match ty i with
  | none=>none
  | some t =>
   match iy t (bT s x) with
   | none=>none
   | some cs=>cond (Nat.beq cs.length t.size) (q2 s ty ps (B.set i cs)) none
def ay.off:ay→Nat→Option (Nat×ae)
 | .nil,_=>none
 | .cons t _,0=>some (0,t)
 | .cons t aj,n+1=>(ay.off aj n).bind fun r=>some (t.size+r.1,r.2)
def mkObj(s:aq)(id:Nat)(o:ck):Option aq :=
 match s.o id with
 | .none=>some (s.bN id o)
 | _=>none
def taken(s:aq)(t:ae):a8→Option (ba×List t.D×aq)
 | .nil u=>(eB (.sl u) (.sl t) ([]:List u.D)).bind fun x=>some (t.own,x,s)
 | .ag id sub=>match s.o id with
  | .row u em _ xs=>(eB (.sl u) (.sl t) (kr sub xs)).bind fun x=>some (em,x,s.bN id .dead)
  | _=>none
 | _=>none
def added(s:aq)(t:ae):a8→Option (ba×List t.D×aq)
 | .ag id sub=>match s.o id with
  | .row u em _ xs=>match em with
   | .R=>(eB (.sl u) (.sl t) (kr sub xs)).bind fun x=>some (.R,x,s)
   | _=>(eB (.sl u) (.sl t) (kr sub xs)).bind fun x=>some (em,x,s.bN id .dead)
  | _=>none
 | .bW u dp _ xs=>cond (alive s dp&&(t.flat||dp.isEmpty)) ((eB (.sl u) (.sl t) xs).bind fun x=>some (.R,x,s)) none
 | .nil u=>(eB (.sl u) (.sl t) ([]:List u.D)).bind fun x=>some (t.own,x,s)
 | .str x=>(eB (.sl (.int .u8)) (.sl t) (eo x)).bind fun y=>some (.R,y,s)
 | _=>none
def meet(a b:ba):ba:=cond (ba.beq a b) a .R
def N7(id:Nat)(t:ae)(s:aq)(a b:a8)(K:a8→aq→Option bs):Option bs :=
 match added s t b with
 | none=>none
 | some (j9,ys,s1) =>
  match taken s1 t a with
  | none=>none
  | some (nH,xs,s2) =>
   match mkObj s2 id (.row t (meet nH j9) 0 (xs++ys)) with
   | none=>none
   | some s3=>jl (room (xs.length+ys.length)) (K (.ag id none) s3)
def nI(t:ae)(v:a6):Bool :=
 match t,v with
 | .st _,.h7 _=>true
 | .st _,_=>false
 | _,.aU _=>true
 | .sl _,.kq=>true
 | _,_=>false
mutual
def ae.getAt:(T:ae)→Nat→(t:ae)→T.D→Option (List t.D)
 | .sl u,off,t,x=>cond (Nat.beq off 0) (eB (.sl u) (.sl t) x) none
 | .st aj,off,t,x=>aj.getAt off t x
 | _,_,_,_=>none
def ay.getAt:(aj:ay)→Nat→(t:ae)→aj.D→Option (List t.D)
 | .nil,_,_,_=>none
 | .cons T aj,off,t,x=>cond (Nat.blt off T.size) (T.getAt off t x.1) (aj.getAt (off-T.size) t x.2)
end
mutual
def ae.setAt:(T:ae)→Nat→(t:ae)→List t.D→T.D→Option T.D
 | .sl u,off,t,y,_=>cond (Nat.beq off 0) (eB (.sl t) (.sl u) y) none
 | .st aj,off,t,y,x=>aj.setAt off t y x
 | _,_,_,_,_=>none
def ay.setAt:(aj:ay)→Nat→(t:ae)→List t.D→aj.D→Option aj.D
 | .nil,_,_,_,_=>none
 | .cons T aj,off,t,y,x=>cond (Nat.blt off T.size) ((T.setAt off t y x.1).bind fun z=>some (z,x.2)) ((aj.setAt (off-T.size) t y x.2).bind fun z=>some (x.1,z))
end
def sJ(t:ae)(e:ba)(s:aq)(dp:List (Nat×Nat)):Option Place→Option (List t.D×aq)
 | none=>none
 | some p =>
  match p.fa,s.o p.id with
  | some i,.row T em ver ys=>cond (alive s dp&&ba.beq em T.own&&ba.beq e t.own) ((T.getAt p.off t (J T ys i)).bind fun x=>some (x,s.bN p.id (.b_ (.row T em ver ys)))) none
  | _,_=>none
def vd(t:ae)(x:List t.D)(s:aq):Option Place→Option aq
 | none=>none
 | some p =>
  match p.fa,s.o p.id with
  | some i,.b_ (.row T em ver ys)=>(T.setAt p.off t x (J T ys i)).bind fun z=>some (s.bN p.id (.row T em (ver+1) (ys.set i z)))
  | _,_=>none
mutual
def ae.fb:(t:ae)→ba→List a8→aq→Option (t.D×List a8×aq)
 | .int k,_,.int k' x :: cs,s=>cond (Nat.beq (di k) (di k')) (some (x,cs,s)) none
 | .bool,_,.bool x :: cs,s=>some (x,cs,s)
 | .str,_,.str x :: cs,s=>some (x,cs,s)
 | .sl t,.O e,c :: cs,s=>match c with
  | .nil u=>(eB (.sl u) (.sl t) ([]:List u.D)).bind fun x=>some (x,cs,s)
  | .ag id none=>match s.o id with
   | .row u em ver xs=>cond (ba.beq em e) ((eB (.sl u) (.sl t) xs).bind fun x=>some (x,cs,s.bN id (.b_ (.row u em ver xs)))) none
   | _=>none
  | .bW _ dp cr _=>(sJ t e s dp cr).bind fun r=>some (r.1,cs,r.2)
  | _=>none
 | .st aj,m,cs,s=>aj.fb m.parts cs s
 | _,_,_,_=>none
def ay.fb:(aj:ay)→cS→List a8→aq→Option (aj.D×List a8×aq)
 | .nil,_,cs,s=>some ((),cs,s)
 | .cons t aj,m,cs,s=>(t.fb m.ag cs s).bind fun r=>(aj.fb m.dt r.2.1 r.2.2).bind fun q=>some ((r.1,q.1),q.2)
end
mutual
def ae.back:(t:ae)→t.D→List a8→aq→Option (List a8×aq)
 | .sl t,x,c :: cs,s=>match c with
  | .nil _=>some (cs,s)
  | .ag id none=>match s.o id with
   | .b_ (.row u em ver _)=>(eB (.sl t) (.sl u) x).bind fun y=>some (cs,s.bN id (.row u em (ver+1) y))
   | _=>none
  | .bW _ _ cr _=>(vd t x s cr).bind fun ar=>some (cs,ar)
  | _=>none
 | .st aj,x,cs,s=>aj.back x cs s
 | _,_,_ :: cs,s=>some (cs,s)
 | _,_,[],_=>none
def ay.back:(aj:ay)→aj.D→List a8→aq→Option (List a8×aq)
 | .nil,_,cs,s=>some (cs,s)
 | .cons t aj,x,cs,s=>(t.back x.1 cs s).bind fun r=>aj.back x.2 r.1 r.2
end
def fS(key:Nat)(s:aq):(ps:List bx)→List a6→List (Nat×Nat)→Option ((bx.ins ps).D×aq×List (Nat×Nat))
 | [],[],bn=>some ((),s,bn)
 | .fn lJ oF :: ps,.fn g a b :: vs,bn=>cond (Nat.beq g key&&Nat.beq a.length lJ&&Nat.beq b.length oF) (fS key s ps vs bn) none
 | .val t m :: ps,v :: vs,bn=>cond (nI t v)
  (match iy t v with
  | none=>none
  | some cs=>(t.imp true m cs s bn).bind fun r =>
   match r.2.1 with
   | []=>(fS key r.2.2.1 ps vs r.2.2.2).bind fun q=>some ((r.1,q.1),q.2)
   | _=>none) none
 | .gV t :: ps,v :: vs,bn=>cond (nI t v)
  (match iy t v with
  | none=>none
  | some cs=>(t.imp false .R cs s bn).bind fun r =>
   match r.2.1 with
   | []=>(fS key r.2.2.1 ps vs r.2.2.2).bind fun q=>some ((r.1,q.1),q.2)
   | _=>none) none
 | .gU t m :: ps,v :: vs,bn=>cond (nI t v&&ba.beq m t.own)
  (match iy t v with
  | none=>none
  | some cs=>(t.fb m cs s).bind fun r =>
   match r.2.1 with
   | []=>(fS key r.2.2 ps vs bn).bind fun q=>some ((r.1,q.1),q.2)
   | _=>none) none
 | .ref t :: ps,.dg dp cs off :: vs,bn =>
  match takeN off t.size cs with
  | none=>none
  | some cs=>cond (alive s dp) ((t.imp true .R cs s (dp++bn)).bind fun r =>
   match r.2.1 with
   | []=>(fS key r.2.2.1 ps vs r.2.2.2).bind fun q=>some ((r.1,q.1),q.2)
   | _=>none) none
 | .ref t :: ps,.ptr p :: vs,bn =>
  match lK s t.size p with
  | none=>none
  | some cs=>(t.imp true .R cs s ((p.id,j7 s p.id) :: bn)).bind fun r =>
   match r.2.1 with
   | []=>(fS key r.2.2.1 ps vs r.2.2.2).bind fun q=>some ((r.1,q.1),q.2)
   | _=>none
 | .mut t m m' :: ps,.ptr p :: vs,bn =>
  match s.o p.id,p.fa with
  | .var ver old,none =>
   match takeN p.off t.size old with
   | none=>none
   | some cs=>(t.imp true m cs (s.bN p.id (.b_ (.var ver old))) bn).bind fun r =>
    match r.2.1 with
    | []=>(fS key r.2.2.1 ps vs r.2.2.2).bind fun q=>some ((r.1,q.1),q.2)
    | _=>none
  | .row u em ver xs,some i =>
   cond (Nat.beq p.off 0&&ba.beq em m&&ba.beq m' em&&ba.beq m t.own) ((eB u t (J u xs i)).bind fun x =>
    (fS key (s.bN p.id (.b_ (.row u em ver xs))) ps vs bn).bind fun q=>some ((x,q.1),q.2)) none
  | _,_=>none
 | _,_,_=>none
def lL(dp:List (Nat×Nat)):(ps:List bx)→List a6→(bx.dU ps).D→aq→Nat→Option (aq×Nat)
 | [],_,_,s,j=>some (s,j)
 | .mut t _ m' :: ps,.ptr p :: vs,x,s,j =>
  match s.o p.id,p.fa with
  | .b_ (.var ver old),none=>(t.gW m' dp x.1 s j).bind fun r =>
   lL dp ps vs x.2 (r.2.1.bN p.id (.var (ver+1) (old.take p.off++r.1++old.drop (p.off+t.size)))) r.2.2
  | .b_ (.row u em ver xs),some i=>(eB t u x.1).bind fun y=>lL dp ps vs x.2 (s.bN p.id (.row u em (ver+1) (xs.set i y))) j
  | _,_=>none
 | .gU t _ :: ps,v :: vs,x,s,j =>
  match iy t v with
  | none=>none
  | some cs=>(t.back x.1 cs s).bind fun r=>lL dp ps vs x.2 r.2 j
 | .val _ _ :: ps,_ :: vs,x,s,j | .gV _ :: ps,_ :: vs,x,s,j | .ref _ :: ps,_ :: vs,x,s,j | .fn _ _ :: ps,_ :: vs,x,s,j=>lL dp ps vs x s j
 | _,_,_,_,_=>none
def pQ(s:aq)(vs:List a6)(arg off:Nat):Option Nat :=
 match vs[arg]? with
 | some (.ptr p)=>match lK s 1 { p with off:=p.off+off } with
  | some [.ag id none]=>some id
  | _=>none
 | _=>none
def pR(s:aq)(t:ae)(id:Nat):Bool :=
 match s.o id with
 | .row u _ _ _=>ae.beq u t
 | _=>false
def kW(vs:List a6)(ps:List bx)(dp:List (Nat×Nat)):(rs:List cU)→(cU.outs rs (bx.dU ps)).D→aq→Nat→Option (List a6×aq)
 | [],x,s,j=>(lL dp ps vs x s j).bind fun r=>some ([],r.1)
 | .val t m :: rs,x,s,j=>(t.gW m dp x.1 s j).bind fun r =>
  match jE t r.1 with
  | none=>none
  | some v=>(kW vs ps dp rs x.2 r.2.1 r.2.2).bind fun q=>some (v :: q.1,q.2)
 | .new t m :: rs,x,s,j=>(t.gW m dp x.1 s j).bind fun r=>(mkObj r.2.1 r.2.2 (.var 0 r.1)).bind fun s1=>(kW vs ps dp rs x.2 s1 (r.2.2+1)).bind fun q=>some (.ptr ⟨r.2.2,none,0⟩ :: q.1,q.2)
 | .opt a off t :: rs,x,s,j=>(kW vs ps dp rs x.2 s j).bind fun q =>
  match pQ q.2 vs a off with
  | none=>none
  | some id=>cond (pR q.2 t id) (some (.opt id x.1 :: q.1,q.2)) none
 | .any t :: rs,x,s,j=>(kW vs ps dp rs x s j).bind fun q=>some (.q0 t :: q.1,q.2)
 | .oG t :: rs,x,s,j=>(kW vs ps dp rs x.2 s j).bind fun q=>some (.may (!List.isEmpty x.1) dp (t.cells dp none (J t x.1 0)) :: q.1,q.2)
def oI:List a6→FuncId
 | []=>0
 | .fn f _ _ :: _=>f
 | _ :: l=>oI l
def kX:List a6→List a6
 | []=>[]
 | .fn _ a b :: l=>a++b++kX l
 | _ :: l=>kX l
def nJ:List a6→Bool
 | []=>true
 | .aD :: _=>false
 | .gone :: _=>false
 | .q0 _ :: _=>false
 | _ :: l=>nJ l
def GO(E:Env)(id:Nat)(s:aq)(f:FuncId)(vs:List a6)(K:a6→aq→Option bs):Option bs :=
 match E.fns f (oI vs) with
 | none=>none
 | some e =>
  match fS (oI vs) s e.ps (vs++kX vs) [] with
  | none=>none
  | some (x,s1,bn) =>
   cond (alive s1 bn&&nJ vs)
    ((e.f x).bind fun r =>
     match kW (vs++kX vs) e.ps bn e.rs r s1 id with
     | none=>none
     | some ([v],s2)=>K v s2
     | some (l,s2)=>K (.oE l) s2)
    none
def q3(s:aq):List a6→(List a6→Option bs)→Option bs
 | [],K=>K []
 | .opt i n :: l,K=>(aN (match s.o i with | .row _ _ _ xs=>xs.length | _=>0) n).bind fun k=>q3 s l fun l'=>K (.ptr ⟨i,some k,0⟩ :: l')
 | .may b dp cs :: l,K=>jl b (q3 s l fun l'=>K (.dg dp cs 0 :: l'))
 | v :: l,K=>q3 s l fun l'=>K (v :: l')
def GP(E:Env)(id:Nat)(s:aq)(f:FuncId)(vs:List a6)(K:a6→aq→Option bs):Option bs := q3 s vs fun vs=>GO E id s f vs K
end
end Go.LM
namespace Go.LM
section
variable{bs : Type}
def sK(gE:Bool)(k:IntKind):Int→List a6→Option (IntKind×Int)
 | x,[]=>some (k,x)
 | x,.aU (.int _ y) :: l=>sK gE k (cond gE (Xx x y) (jm x y)) l
 | _,_=>none
def ve(gE:Bool):List a6→Option (IntKind×Int)
 | .aU (.int k x) :: l=>sK gE k x l
 | _=>none
def kt(s:aq)(T:ae):a8→Bool
 | .str _=>ae.beq T .str
 | .nil u=>ae.beq T (.sl u)
 | .bW u _ _ _=>ae.beq T (.sl u)
 | .ag id _=>match s.o id with
  | .row u _ _ _=>ae.beq T (.sl u)
  | _=>false
 | _=>false
def oneCell(t:ae):a6→Option a8
 | .aU c=>some c
 | .kq=>some (.nil t)
 | _=>none
def vf(E:Env):List Nat→Option ae
 | gX :: hH :: _ =>
  match E.ty gX,E.ty hH with
  | some (.sl t),some (.sl _)=>some t
  | some (.sl t),some .str=>some t
  | _,_=>none
 | _=>none
def jF(E:Env)(id:Nat)(s:aq)(b:Builtin)(GQ:List Nat)(vs:List a6)(K:a6→aq→Option bs):Option bs :=
 match b,vs with
 | .len,[.aU c] =>
  match GQ with
  | t :: _ =>
   match E.ty t with
   | some T=>cond (kt s T c)
    (match nF s c with
    | some n=>K (.aU (.int .i64 n)) s
    | none=>none) none
   | none=>none
  | _=>none
 | .append,[kY,vb] =>
  match vf E GQ with
  | some t =>
   match oneCell t kY,oneCell t vb with
   | some a,some b=>N7 id t s a b fun c s=>K (.aU c) s
   | _,_=>none
  | none=>none
 | .clear,[.aU (.ag i sub)] =>
  match GQ with
  | t :: _ =>
   match E.ty t,s.o i with
   | some (.sl u),.row v em ver xs=>cond (ae.beq u v&&v.flat) (K (.oE []) (s.bN i (.row v em (ver+1) (xs.take (eb sub)++List.replicate (kV sub xs) v.zero++xs.drop (eb sub+kV sub xs))))) none
   | _,_=>none
  | _=>none
 | .min,vs =>
  match ve false vs with
  | some (k,x)=>K (.aU (.int k x)) s
  | none=>none
 | .max,vs =>
  match ve true vs with
  | some (k,x)=>K (.aU (.int k x)) s
  | none=>none
 | _,_=>none
def bound(s:aq)(x:Option Operand)(d:Int):Option Int :=
 match x with
 | none=>some d
 | some x=>j8 (bT s x)
def vg(c:a8)(l m:Nat):Option a8 :=
 match c with
 | .str x=>some (.str (part x l m))
 | .nil t=>some (.nil t)
 | .bW t dp cr xs=>some (.bW t dp none (part xs l m))
 | .ag id sub=>some (.ag id (some (eb sub+l,m)))
 | _=>none
def N8(s:aq)(T:ae)(x:a6)(lo hi gE:Option Operand)(K:a6→Option bs):Option bs :=
 match x with
 | .aU c =>
  cond (kt s T c)
  (match nF s c with
  | none=>none
  | some n =>
   match bound s lo 0,bound s hi n with
   | some l,some h =>
    (match gE with
     | none=>fun k=>k
     | some m=>fun k=>cond (ae.beq T .str) none (match j8 (bT s m) with
      | some m=>cond hi.isSome (jl (decide (h=m)) k) none
      | none=>none))
    ((dZ n l h).bind fun r =>
     match vg c r.1 (r.2-r.1) with
     | some c'=>K (.aU c')
     | none=>none)
   | _,_=>none) none
 | _=>none
def q4(E:Env)(id:Nat)(s:aq)(src dst:Nat)(x:a6)(K:a6→aq→Option bs):Option bs :=
 match E.ty src,E.ty dst,x with
 | some (.int _),some (.int k),.aU (.int _ n)=>K (.aU (.int k (k.wrap n))) s
 | some .str,some .str,.aU (.str b)=>K (.aU (.str b)) s
 | some .str,some (.sl (.int .u8)),.aU (.str b) =>
  match mkObj s id (.row (.int .u8) .R 0 (eo b)) with
  | some s1=>K (.aU (.ag id none)) s1
  | none=>none
 | some (.sl (.int .u8)),some .str,.aU c =>
  match oH s (.int .u8) c with
  | some xs=>K (.aU (.str (gp xs))) s
  | none=>none
 | _,_,_=>none
def GR(T:ae)(s:aq):List (List a8)→ba
 | cs :: _=>(T.xF s cs).1
 | []=>T.own
noncomputable def cQ(E:Env)(id:Nat)(o:Oper)(s:aq)(K:aq→Option bs):Option bs :=
 let put (v:a6) (s:aq):Option bs := K (s.dst o.dst v)
 match o.op with
 | .move x | .assign x =>
  match typed E o.type (bT s x) with
  | some v=>put v s
  | none=>none
 | .pick c a b =>
  match bT s c,typed E o.type (bT s a),typed E o.type (bT s b) with
  | .aU (.bool t),some kY,some vb=>cond t (put kY s) (put vb s)
  | .aU (.bool t),some kY,none=>cond t (put kY s) none
  | .aU (.bool t),none,some vb=>cond t none (put vb s)
  | _,_,_=>none
 | .alloc t =>
  match E.ty t with
  | some T=>match mkObj s id (.var 0 T.iU) with
   | some s1=>put (.ptr ⟨id,none,0⟩) s1
   | none=>none
  | none=>none
 | .box t x =>
  match E.ty t with
  | some T=>match iy T (bT s x) with
   | some cs=>cond (Nat.beq cs.length T.size)
    (match mkObj s id (.var 0 cs) with
     | some s1=>put (.ptr ⟨id,none,0⟩) s1
     | none=>none) none
   | none=>none
  | none=>none
 | .build t parts =>
  match E.ty t with
  | some (.st aj)=>match q2 s aj.nth parts.toList aj.nG with
   | some B=>put (.h7 B.flatten) s
   | none=>none
  | _=>none
 | .buildSlice t n parts =>
  match E.ty t with
  | some (.sl T)=>cond (Nat.ble (n*T.size) 16777216)
   (match q2 s (fun i=>cond (Nat.blt i n) (some T) none) parts.toList (List.replicate n T.iU) with
   | some B =>
    match pP T (GR T s B) B s with
    | some (xs,s1)=>match mkObj s1 id (.row T (GR T s B) 0 xs) with
     | some s2=>put (.aU (.ag id none)) s2
     | none=>none
    | none=>none
   | none=>none) none
  | _=>none
 | .load t a =>
  match E.ty t,bT s a with
  | some T,.ptr p=>match (lK s T.size p).bind (jE T) with
   | some v=>put v s
   | none=>none
  | some T,.dg dp cs off=>match (takeN off T.size cs).bind (jE T) with
   | some v=>cond (alive s dp) (put v s) none
   | none=>none
  | _,_=>none
 | .store t a x =>
  match E.ty t,bT s a with
  | some T,.ptr p=>match iy T (bT s x) with
   | some cs=>cond (Nat.beq cs.length T.size)
    (match AJ s p cs with
     | some s1=>put .aD s1
     | none=>none) none
   | none=>match bT s x,s.o p.id,p.fa with
    | .q0 u,.var _ old,none=>cond (ae.beq u T&&Nat.beq p.off 0&&Nat.ble T.size old.length) (put .aD (s.bN p.id .dead)) none
    | _,_,_=>none
  | _,_=>none
 | .nilCheck x =>
  match bT s x with
  | .ptr p=>put (.ptr p) s
  | .dg dp cs off=>put (.dg dp cs off) s
  | .fn f a b=>put (.fn f a b) s
  | .may b dp cs=>jl b (put (.dg dp cs 0) s)
  | .opt i n=>(aN (match s.o i with | .row _ _ _ xs=>xs.length | _=>0) n).bind fun k=>put (.ptr ⟨i,some k,0⟩) s
  | _=>none
 | .binOp op ty x y _=>ks E ty op (bT s x) (bT s y) fun v=>put v s
 | .unOp op _ x=>GN op (bT s x) fun v=>put v s
 | .convert src dst x=>q4 E id s src dst (bT s x) put
 | .makeFunc (.func f) first kU=>put (.fn f (first.toList.map (bT s)) (kU.toList.map (bT s))) s
 | .makeSlice t l c =>
  match E.ty t,j8 (bT s l),j8 (bT s c) with
  | some (.sl T),some n,some m =>
   jl (decide (0≤n)&&decide (n=m)&&room n.toNat)
    (match mkObj s id (.row T T.own 0 (List.replicate n.toNat T.zero)) with
     | some s1=>put (.aU (.ag id none)) s1
     | none=>none)
  | _,_,_=>none
 | .slice t x lo hi gE =>
  match E.ty t with
  | some T=>N8 s T (bT s x) lo hi gE fun v=>put v s
  | none=>none
 | .fieldAddr t x f =>
  match E.ty t,bT s x with
  | some (.st aj),.ptr p=>match aj.off f with
   | some (k,u)=>cond (Nat.beq u.size 0) none (put (.ptr { p with off:=p.off+k }) s)
   | none=>none
  | some (.st aj),.dg dp cs off=>match aj.off f with
   | some (k,u)=>cond (Nat.beq u.size 0) none (put (.dg dp cs (off+k)) s)
   | none=>none
  | _,_=>none
 | .field t x f =>
  match E.ty t,bT s x with
  | some (.st aj),.h7 cs=>match aj.off f with
   | some (k,u)=>match (takeN k u.size cs).bind (jE u) with
    | some v=>put v s
    | none=>none
   | none=>none
  | _,_=>none
 | .indexAddr t x i =>
  match E.ty t,bT s x,j8 (bT s i) with
  | some (.sl u),.aU c,some n =>
   match c with
   | .ag id sub=>match s.o id with
    | .row v _ _ xs=>cond (ae.beq u v) ((aN (kV sub xs) n).bind fun k=>put (.ptr ⟨id,some (eb sub+k),0⟩) s) none
    | _=>none
   | .bW v dp cr xs=>cond (alive s dp&&ae.beq u v) ((aN xs.length n).bind fun k=>put (.dg dp (v.cells dp none (J v xs k)) 0) s) none
   | _=>none
  | _,_,_=>none
 | .index t x i =>
  match E.ty t,bT s x,j8 (bT s i) with
  | some .str,.aU (.str b),some n=>(aN b.length n).bind fun k=>put (.aU (.int .u8 (b.getD k 0).toNat)) s
  | _,_,_=>none
 | .extract x i =>
  match bT s x with
  | .oE l=>match l[i]? with
   | some v=>put v s
   | none=>none
  | _=>none
 | .call c =>
  let vs:=c.args.toList.map (bT s)
  match c.callee with
  | .builtin b=>jF E id s b c.argTypes.toList vs put
  | .value f=>match bT s f with
   | .fn g first kU=>GP E id s g (first++vs++kU) put
   | _=>none
  | _=>none
 | _=>none
def guardOf(ops:List Oper)(o:Oper):Option (Option Nat×Bool) :=
 match o.guard with
 | none=>none
 | some (j,w)=>some ((ops[j]?).bind (·.dst),w)
def xG(E:Env)(o:Oper):Bool :=
 match o.dst with
 | some d=>Nat.blt d E.n
 | none=>true
noncomputable def sL(E:Env)(id:Nat)(ops:List Oper)(o:Oper)(s:aq)(K:aq→Option bs):Option bs :=
 cond (xG E o) (match guardOf ops o with
 | none=>cQ E id o s K
 | some (some d,w) =>
  match s.t d with
  | .aU (.bool b) =>
   cond b (let ar:=s.set d (.aU (.bool true));cond w (cQ E id o ar K) (K (ar.dst o.dst .gone)))
    (let ar:=s.set d (.aU (.bool false));cond w (K (ar.dst o.dst .gone)) (cQ E id o ar K))
  | .gone=>K (s.dst o.dst .gone)
  | _=>none
 | some (none,_)=>none) none
def vh:List a6→Option Place
 | .aU (.bW _ _ cr _) :: _=>cr
 | _=>none
def GS:List bx→Bool
 | []=>true
 | .mut _ _ _ :: _=>false
 | .gU _ _ :: _=>false
 | .val _ _ :: l | .ref _ :: l | .fn _ _ :: l | .gV _ :: l=>GS l
def Xy:List bx→Bool
 | .val (.sl _) (.O _) :: _=>true
 | _=>false
def vi(key:Nat)(s:aq)(t:ae):(ps:List bx)→List a6→Option ((bx.ins ps).D×aq×List (Nat×Nat))
 | .val (.sl u) m :: ps,.aU (.bW _ dp cr _) :: vs=>cond (ba.beq m (.O u.own)&&(ae.beq t u&&GS ps)) ((sJ u u.own s dp cr).bind fun r=>(fS key r.2 ps vs []).bind fun q=>some ((r.1,q.1),q.2)) none
 | _,_=>none
def xH(t:ae){aj:ay} :(rs:List cU)→(cU.outs rs aj).D→Option (List t.D)
 | [.val u m],x=>cond (ba.beq m (.O t.own)) (eB u (.sl t) x.1) none
 | _,_=>none
def N9(E:Env)(s:aq)(o:Oper):Bool :=
 match o.op with
 | .call c=>match c.callee with
  | .value bZ=>match bT s bZ with
   | .fn g [] []=>match vh (c.args.toList.map (bT s)),E.fns g (oI (c.args.toList.map (bT s))) with
    | some _,some e=>Xy e.ps
    | _,_=>false
   | _=>false
  | _=>false
 | _=>false
def vj(E:Env)(o dy eC eP:Oper)(k1 e1 e2 e0 d0 d1 d2:Nat):Bool :=
 Nat.beq d0 e0&&(Nat.beq d1 e1&&(Nat.beq d2 e2&&(!(Nat.beq k1 d0)&&(!(Nat.beq d0 d1)&&(!(Nat.beq d0 d2)&&(o.guard.isNone&&(dy.guard.isNone&&(eC.guard.isNone&&(eP.guard.isNone&&(eP.dst.isNone&&(Nat.blt d0 E.n&&(Nat.blt d1 E.n&&Nat.blt d2 E.n))))))))))))
def GU(s:aq)(v:a6)(K:Place→Option bs):Option bs :=
 match v with
 | .ptr p=>K p
 | .opt i n=>(aN (match s.o i with | .row _ _ _ xs=>xs.length | _=>0) n).bind fun k=>K ⟨i,some k,0⟩
 | _=>none
def GV(E:Env)(s:aq)(o:Oper)(l:List Oper)(K:aq→Option bs):Option bs :=
 match l with
 | dy :: eC :: eP :: _ =>
  match o.op,dy.op,eC.op,eP.op with
  | .call c,.nilCheck (.tmp k1),.fieldAddr mE (.tmp e1) nK,.store mF (.tmp e2) (.tmp e0) =>
   match c.callee,o.dst,dy.dst,eC.dst with
   | .value bZ,some d0,some d1,some d2=>cond (vj E o dy eC eP k1 e1 e2 e0 d0 d1 d2)
    (match bT s bZ,E.ty mE,E.ty mF with
    | .fn g [] [],some (.st aj),some (.sl t) =>
     match E.fns g (oI (c.args.toList.map (bT s))),aj.off nK,vh (c.args.toList.map (bT s)) with
     | some e,some (k,u),some p=>GU s (s.t k1) fun jn=>cond (!(Nat.beq u.size 0)&&(Nat.beq jn.id p.id&&Nat.beq (jn.off+k) p.off))
      (match jn.fa,p.fa with
      | some i,some j=>cond (Nat.beq i j) (match vi (oI (c.args.toList.map (bT s))) s t e.ps (c.args.toList.map (bT s)++kX (c.args.toList.map (bT s))) with
       | none=>none
       | some (x,s1,bn)=>cond (alive s1 bn&&nJ (c.args.toList.map (bT s)))
        ((e.f x).bind fun r=>(xH t e.rs r).bind fun y=>(vd t y (((s1.set d0 .aD).set d1 .aD).set d2 .aD) (some p)).bind K) none) none
      | _,_=>none) none
     | _,_,_=>none
    | _,_,_=>none) none
   | _,_,_,_=>none
  | _,_,_,_=>none
 | _=>none
noncomputable def sM(E:Env)(bA:Nat)(all:List Oper):List Oper→Nat→Nat→aq→(aq→Option bs)→Option bs
 | [],_,_,s,K=>K s
 | _ :: l,i,q+1,s,K=>sM E bA all l (i+1) q s K
 | o :: l,i,0,s,K=>cond (N9 E s o) (GV E s o l fun ar=>sM E bA all l (i+1) 3 ar K) (sL E ((bA*256+i)*32) all o s fun ar=>sM E bA all l (i+1) 0 ar K)
noncomputable def GW(E:Env)(bA:Nat)(all:List Oper)(l:List Oper)(i:Nat)(s:aq)(K:aq→Option bs):Option bs := sM E bA all l i 0 s K
def sN(E:Env)(o:Oper):Bool :=
 match o.op with
 | .move _ | .assign _ | .pick _ _ _ | .load _ _ | .nilCheck _ | .binOp _ _ _ _ _ | .unOp _ _ _ | .slice _ _ _ _ _ | .fieldAddr _ _ _ | .field _ _ _ | .indexAddr _ _ _ | .index _ _ _ | .extract _ _ | .build _ _=>true
 | .makeFunc (.func _) _ _=>true
 | .convert a b _=>match E.ty a,E.ty b with
  | some (.int _),some (.int _)=>true
  | _,_=>false
 | .call c=>match c.callee with
  | .builtin .len | .builtin .min | .builtin .max=>true
  | _=>false
 | _=>false
def waits(ops:Array Oper)(j i:Nat):Bool :=
 match ops[j]? with
 | some o=>o.after.any fun e=>Region.binds .any e&&Nat.beq e.on i
 | none=>false
def GX(E:Env)(ops:Array Oper)(i:Nat):Bool :=
 match ops[i]? with
 | some o=>sN E o
 | none=>false
def iz(s:aq)(o:Oper):List (Nat×Nat) :=
 match o.op with
 | .load _ x=>match bT s x with
  | .ptr p=>[(p.id,j7 s p.id)]
  | .dg dp _ _=>dp
  | _=>[]
 | _=>[]
def sO(s:aq):List (Nat×List (Nat×Nat))→Bool
 | []=>true
 | p :: l=>cond (alive s p.2) (sO s l) false
def isApp(s:aq)(o:Oper):Bool :=
 match o.op with
 | .call c=>match c.callee with
  | .builtin .append=>(vh (c.args.toList.map (bT s))).isSome
  | _=>false
 | _=>false
def GY(id:Nat)(t:ae)(p:Place)(dp:List (Nat×Nat))(s:aq)(cb:a8)(d0 d1 d2:Nat)(M:aq→Bool)(K:aq→Option bs):Option bs :=
 match added s t cb with
 | none=>none
 | some (j9,ys,s1)=>cond (ba.beq j9 t.own) ((sJ t t.own s1 dp (some p)).bind fun r =>
   (mkObj r.2 id .dead).bind fun s2=>jl (room (r.1.length+ys.length)) (cond (M (s2.set d0 .aD)) ((vd t (r.1++ys) (((s2.set d0 .aD).set d1 .aD).set d2 .aD) (some p)).bind K) none)) none
def GZ(E:Env)(id:Nat)(s:aq)(o dy eC eP:Oper)(M:aq→Bool)(K:aq→Option bs):Option bs :=
 match o.op,dy.op,eC.op,eP.op with
 | .call c,.indexAddr vk (.tmp k1) (.tmp k2),.fieldAddr mE (.tmp e1) nK,.store mF (.tmp e2) (.tmp e0) =>
  match c.callee,o.dst,dy.dst,eC.dst with
  | .builtin .append,some d0,some d1,some d2=>cond (vj E o dy eC eP k1 e1 e2 e0 d0 d1 d2 && !(Nat.beq k2 d0))
   (match E.ty vk,E.ty mE,E.ty mF,vf E c.argTypes.toList,c.args.toList.map (bT s) with
   | some (.sl kZ),some (.st aj),some (.sl t),some gX,[.aU (.bW _ dp (some p) _),vb] =>
    match aj.off nK,oneCell gX vb,s.t k1,j8 (s.t k2),s.o p.id,p.fa with
    | some (k,u),some cb,.aU (.ag i sub),some q,.row v _ _ xs,some j=>cond (ae.beq gX t&&(ae.beq kZ v&&(!(Nat.beq u.size 0)&&(Nat.beq i p.id&&Nat.beq k p.off))))
      ((aN (kV sub xs) q).bind fun m=>cond (Nat.beq (eb sub+m) j) (GY id t p dp s cb d0 d1 d2 M K) none) none
    | _,_,_,_,_,_=>none
   | _,_,_,_,_=>none) none
  | _,_,_,_=>none
 | _,_,_,_=>none
def N_(s:aq)(ops:Array Oper)(rs:List Nat):Bool:=rs.any fun i=>match ops[i]? with
 | some o=>isApp s o
 | none=>false
def one:List Nat→Option Nat
 | [i]=>some i
 | _=>none
def G0(E:Env)(bA:Nat)(ops:Array Oper)(listed:Array Bool)(iA:List (Nat×List (Nat×Nat)))(rs:List Nat)(s:aq)(K:aq→Option bs):Option bs :=
 (one rs).bind fun i=>(one (Region.ready .any ops (listed.setIfInBounds i true))).bind fun i1=>(one (Region.ready .any ops ((listed.setIfInBounds i true).setIfInBounds i1 true))).bind fun i2 =>
  (one (Region.ready .any ops (((listed.setIfInBounds i true).setIfInBounds i1 true).setIfInBounds i2 true))).bind fun i3 =>
   cond ((Region.ready .any ops ((((listed.setIfInBounds i true).setIfInBounds i1 true).setIfInBounds i2 true).setIfInBounds i3 true)).isEmpty&&((iA.filter fun p => !waits ops i p.1).filter fun p => !waits ops i1 p.1).isEmpty)
    (ops[i]?.bind fun o=>ops[i1]?.bind fun dy=>ops[i2]?.bind fun eC=>ops[i3]?.bind fun eP=>GZ E ((bA*256+i)*32) s o dy eC eP (fun nL=>sO nL (iA.filter fun p => !waits ops i p.1)) K) none
noncomputable def dup(a:Option bs):Option bs := both a a
noncomputable def AN:List (Option bs)→Option bs
 | []=>none
 | [x]=>x
 | x :: l=>both x (AN l)
noncomputable def sP(E:Env)(bA:Nat)(ops:Array Oper):Nat→Array Bool→List (Nat×List (Nat×Nat))→aq→(aq→Option bs)→Option bs
 | 0,listed,_,s,K=>match Region.ready .any ops listed with
  | []=>K s
  | _=>none
 | n+1,listed,iA,s,K =>
  match Region.ready .any ops listed with
  | []=>K s
  | rs=>match rs.find? fun i=>GX E ops i&&Region.free .any ops listed i with
   | some i=>(match ops[i]? with
    | none=>none
    | some o=>sL E ((bA*256+i)*32) ops.toList o s fun ar=>sP E bA ops n (listed.setIfInBounds i true) ((i,iz s o) :: iA) ar K)
   | none=>cond (N_ s ops rs&&Nat.ble 3 n) (G0 E bA ops listed iA rs s K) (AN (rs.map fun i=>match ops[i]? with
    | none=>none
    | some o=>cond (sN E o) none (sL E ((bA*256+i)*32) ops.toList o s fun ar =>
      cond (sO ar (iA.filter fun p => !waits ops i p.1)) (sP E bA ops n (listed.setIfInBounds i true) (iA.filter fun p => !waits ops i p.1) ar K) none)))
noncomputable def G4(E:Env)(bA:Nat)(ops:Array Oper)(s:aq)(K:aq→Option bs):Option bs :=
 cond (Region.noSelect ops) (sP E bA ops ops.size (Array.replicate ops.size false) [] s K) none
structure Hand(bs : Type) where
 cut:Nat→List Item→aq→Option bs
 fin:aq→Option bs
noncomputable def jG(E:Env)(cuts:Nat→Bool)(H:Hand bs):Nat→Bool→List Item→aq→Option bs
 | 0,_,_,_=>none
 | n+1,first,todo,s =>
  match todo with
  | []=>H.fin s
  | .code .ret :: _=>H.fin s
  | .code .skip :: k | .inBlock _ :: k=>jG E cuts H n first k s
  | .code (.seq a b) :: k=>jG E cuts H n first (.code a :: .code b :: k) s
  | .code (.cond c x y) :: k =>
   match bT s c with
   | .aU (.bool b)=>cond b (jG E cuts H n first (.code x :: k) s) (jG E cuts H n first (.code y :: k) s)
   | _=>none
  | .code (.block id c) :: k=>jG E cuts H n first (.code c :: .inBlock id :: k) s
  | .code (.loop c) :: k | .inLoop c :: k=>jG E cuts H n first (.code c :: .inLoop c :: k) s
  | .code (.exit id) :: k =>
   match exitTo id k with
   | some k'=>jG E cuts H n first k' s
   | none=>none
  | .code (.region bA ops hI) :: k =>
   cond (cuts bA && !first) (H.cut bA todo s)
    (cond hI (G4 E bA ops s fun ar=>jG E cuts H n false k ar) (GW E bA ops.toList ops.toList 0 s fun ar=>jG E cuts H n false k ar))
  | _=>none
end
end Go.LM
namespace Go.LM
abbrev ah:=Nat→Nat→Prop
def ah.none:ah:=fun _ _=>False
def ah.or(F G:ah):ah:=fun b o=>F b o∨G b o
def ah.apart(F G:ah):Prop:=∀b o,F b o→G b o→False
def ah.sub(F G:ah):Prop:=∀b o,F b o→G b o
def ah.run(b lo n:Nat):ah:=fun b' o=>b'=b∧lo≤o∧o<lo+n
abbrev at_(b o:Nat):Addr:=⟨b,o,none⟩
theorem q5(w:World)(b o:Nat):w.cell? (at_ b o)=match w.heap[b]? with | some (.cells c _ _)=>c[o]? | _=>none:=by
 simp only [World.cell?,at_]
 cases w.heap[b]? with
 | none=>rfl
 | some x=>cases x <;> rfl
theorem cell_of_heap{w:World}{b:Nat}{c:Array Value}{e:TypeId}{f:Nat×Nat}(h:w.heap[b]?=some (.cells c e f))(o:Nat) :
  w.cell? (at_ b o)=c[o]?:=by rw [q5,h]
theorem xz{w:World}{b o:Nat}{v:Value}(h:w.cell? (at_ b o)=some v) :
  ∃c e f,w.heap[b]?=some (.cells c e f)∧c[o]?=some v:=by
 rw [q5] at h
 split at h
 ·rename_i c e f hb;exact⟨c,e,f,hb,h⟩
 ·simp at h
theorem xA{w:World}{b o:Nat}{v:Value}(h:w.cell? (at_ b o)=some v):b<w.heap.size:=by
 obtain ⟨c,e,f,hb,_⟩:=xz h
 rcases Nat.lt_or_ge b w.heap.size with h | h
 ·exact h
 ·simp [Array.getElem?_eq_none h] at hb
structure Ext(w w':World)(F:ah):Prop where
 os:w'.os=w.os
 tape:w'.tape=w.tape
 output:w'.output=w.output
 size:w.heap.size≤w'.heap.size
 block:∀b,b<w.heap.size→w'.heap[b]?=w.heap[b]? ∨
  ∃c c' e f,w.heap[b]?=some (.cells c e f)∧w'.heap[b]?=some (.cells c' e f)∧c'.size=c.size∧∀o,¬F b o→c'[o]?=c[o]?
theorem Ext.refl(w:World)(F:ah):Ext w w F:=⟨rfl,rfl,rfl,Nat.le_refl _,fun _ _=>.inl rfl⟩
theorem Ext.mono{w w':World}{F G:ah}(h:Ext w w' F)(hs:∀b o,b<w.heap.size→F b o→G b o):Ext w w' G:=by
 refine⟨h.os,h.tape,h.output,h.size,fun b hb=>?_⟩
 rcases h.block b hb with h | ⟨c,c',e,f,h1,h2,h3,h4⟩
 ·exact .inl h
 ·exact .inr ⟨c,c',e,f,h1,h2,h3,fun o ho=>h4 o fun hf=>ho (hs b o hb hf)⟩
theorem Ext.trans{a b c:World}{F:ah}(h:Ext a b F)(k:Ext b c F):Ext a c F:=by
 refine⟨k.os.trans h.os,k.tape.trans h.tape,k.output.trans h.output,Nat.le_trans h.size k.size,fun i hi=>?_⟩
 rcases h.block i hi with h1 | ⟨x,bz,e,f,h1,h2,h3,h4⟩
 ·rcases k.block i (Nat.lt_of_lt_of_le hi h.size) with k1 | ⟨y,lM,gF,mG,k1,k2,k3,bh⟩
  ·exact .inl (k1.trans h1)
  ·exact .inr ⟨y,lM,gF,mG,h1 ▸ k1,k2,k3,bh⟩
 ·rcases k.block i (Nat.lt_of_lt_of_le hi h.size) with k1 | ⟨y,lM,gF,mG,k1,k2,k3,bh⟩
  ·exact .inr ⟨x,bz,e,f,h1,k1.trans h2,h3,h4⟩
  ·rw [h2] at k1
   simp only [Option.some.injEq,Obj.cells.injEq] at k1
   obtain ⟨rfl,rfl,rfl⟩:=k1
   exact .inr ⟨x,lM,e,f,h1,k2,k3.trans h3,fun o ho=>(bh o ho).trans (h4 o ho)⟩
theorem Ext.trans'{a b c:World}{F S:ah}(h:Ext a b F)(k:Ext b c S)(dN:∀i o,S i o→F i o∨a.heap.size≤i):Ext a c F:=by
 refine⟨k.os.trans h.os,k.tape.trans h.tape,k.output.trans h.output,Nat.le_trans h.size k.size,fun i hi=>?_⟩
 have hk:c.heap[i]?=b.heap[i]?∨∃x bz e f,b.heap[i]?=some (.cells x e f)∧c.heap[i]?=some (.cells bz e f)∧bz.size=x.size∧∀o,¬F i o→bz[o]?=x[o]?:=by
  rcases k.block i (Nat.lt_of_lt_of_le hi h.size) with k1 | ⟨y,lM,gF,mG,k1,k2,k3,bh⟩
  ·exact .inl k1
  ·refine .inr ⟨y,lM,gF,mG,k1,k2,k3,fun o ho=>bh o fun hs=>?_⟩
   rcases dN i o hs with h | h
   ·exact ho h
   ·omega
 rcases h.block i hi with h1 | ⟨x,bz,e,f,h1,h2,h3,h4⟩
 ·rcases hk with k1 | ⟨y,lM,gF,mG,k1,k2,k3,bh⟩
  ·exact .inl (k1.trans h1)
  ·exact .inr ⟨y,lM,gF,mG,h1 ▸ k1,k2,k3,bh⟩
 ·rcases hk with k1 | ⟨y,lM,gF,mG,k1,k2,k3,bh⟩
  ·exact .inr ⟨x,bz,e,f,h1,k1.trans h2,h3,h4⟩
  ·rw [h2] at k1
   simp only [Option.some.injEq,Obj.cells.injEq] at k1
   obtain ⟨rfl,rfl,rfl⟩:=k1
   exact .inr ⟨x,lM,e,f,h1,k2,k3.trans h3,fun o ho=>(bh o ho).trans (h4 o ho)⟩
theorem Ext.cell{w w':World}{F:ah}(h:Ext w w' F){b o:Nat}(hb:b<w.heap.size)(hf:¬F b o):w'.cell? (at_ b o)=w.cell? (at_ b o):=by
 rw [q5,q5]
 rcases h.block b hb with h | ⟨c,c',e,f,h1,h2,_,h4⟩
 ·rw [h]
 ·rw [h1,h2];exact h4 o hf
theorem pO(w:World)(b o:Nat):w.frozen? (at_ b o)=match w.heap[b]? with | some (.cells _ _ (lo,hi))=>decide (lo≤o)&&decide (o<hi) | _=>false:=rfl
theorem Ext.frozen{w w':World}{F:ah}(h:Ext w w' F){b:Nat}(hb:b<w.heap.size)(o:Nat):w'.frozen? (at_ b o)=w.frozen? (at_ b o):=by
 rw [pO,pO]
 rcases h.block b hb with h | ⟨c,c',e,f,h1,h2,_,_⟩
 ·rw [h]
 ·rw [h1,h2]
def e'(w:World)(b o:Nat):Prop:=(∃v,w.cell? (at_ b o)=some v)∧w.frozen? (at_ b o)=false
theorem Ext.Xz{w w':World}{F:ah}(h:Ext w w' F){b o:Nat}(hc:∃v,w.cell? (at_ b o)=some v):∃v,w'.cell? (at_ b o)=some v:=by
 obtain ⟨v,hv⟩:=hc
 have hb:=xA hv
 obtain ⟨c,e,f,hh,hcv⟩:=xz hv
 rcases h.block b hb with h | ⟨x,bz,gF,mG,h1,h2,h3,_⟩
 ·exact⟨v,by rw [q5,h,hh];exact hcv⟩
 ·rw [hh] at h1
  simp only [Option.some.injEq,Obj.cells.injEq] at h1
  obtain ⟨rfl,rfl,rfl⟩:=h1
  have ho:o<c.size:=by
   rcases Nat.lt_or_ge o c.size with h | h
   ·exact h
   ·rw [Array.getElem?_eq_none h] at hcv;simp at hcv
  exact⟨bz[o]'(by omega),by rw [q5,h2];simp [Array.getElem?_eq_getElem,h3,ho]⟩
theorem Ext.pN{w w':World}{F:ah}(h:Ext w w' F){b o:Nat}(hc:e' w b o):e' w' b o :=
 ⟨h.Xz hc.1,by rw [h.frozen (xA hc.1.choose_spec) o];exact hc.2⟩
def fB(w:World)(size b o:Nat):Prop:=e' w b o∧(size=1∨∀k,w.frozen? (at_ b k)=false)
theorem Ext.j5{w w':World}{F:ah}(h:Ext w w' F){size b o:Nat}(hc:fB w size b o):fB w' size b o :=
 ⟨h.pN hc.1,hc.2.imp id fun hk k=>by rw [h.frozen (xA hc.1.1.choose_spec) k];exact hk k⟩
theorem Ext.drew(w:World)(n:Nat)(F:ah):Ext w { w with drawn:=n } F:=⟨rfl,rfl,rfl,Nat.le_refl _,fun _ _=>.inl rfl⟩
theorem Ext.push(w:World)(o:Obj)(F:ah):Ext w { w with heap:=w.heap.push o } F :=
 ⟨rfl,rfl,rfl,by simp,fun b hb=>.inl (by simp only;rw [Array.getElem?_push,if_neg (by omega)])⟩
theorem N'(w:World)(o:Obj):({ w with heap:=w.heap.push o } : World).heap[w.heap.size]?=some o:=by simp
theorem Oa(w:World)(c:Array Value)(e:TypeId)(f:Nat×Nat)(o:Nat) :
  ({ w with heap:=w.heap.push (.cells c e f) } : World).cell? (at_ w.heap.size o)=c[o]?:=cell_of_heap (N' w _) o
theorem G5(w:World)(b o:Nat)(v:Value)(b':Nat) :
  (w.setCell (at_ b o) v).heap[b']?=if b=b' then(w.heap[b']?).map (fun | .cells c e f=>.cells (c.setIfInBounds o v) e f | x=>x) else w.heap[b']?:=by
 simp only [World.setCell,Array.getElem?_modify,at_]
 split
 ·rename_i h;subst h
  cases w.heap[b]? with
  | none=>rfl
  | some x=>cases x <;> rfl
 ·rfl
theorem XA(w:World)(b o:Nat)(v:Value)(b' o':Nat)(h:∃u,w.cell? (at_ b o)=some u) :
  (w.setCell (at_ b o) v).cell? (at_ b' o')=if b=b'∧o=o' then some v else w.cell? (at_ b' o'):=by
 obtain ⟨u,hu⟩:=h
 obtain ⟨c,e,f,hb,hc⟩:=xz hu
 have ho:o<c.size:=by
  rcases Nat.lt_or_ge o c.size with h | h
  ·exact h
  ·rw [Array.getElem?_eq_none h] at hc;simp at hc
 rw [q5,G5,q5]
 by_cases nM:b=b'
 ·subst nM
  rw [if_pos rfl,hb]
  simp only [Option.map_some,true_and]
  by_cases vl:o=o'
  ·subst vl;simp [Array.getElem?_setIfInBounds,ho]
  ·simp [Array.getElem?_setIfInBounds,vl]
 ·rw [if_neg nM];simp [nM]
theorem XB(w:World)(b o:Nat)(v:Value)(b' o':Nat):(w.setCell (at_ b o) v).frozen? (at_ b' o')=w.frozen? (at_ b' o'):=by
 rw [pO,G5,pO]
 by_cases nM:b=b'
 ·subst nM
  rw [if_pos rfl]
  cases w.heap[b]? with
  | none=>rfl
  | some x=>cases x <;> rfl
 ·rw [if_neg nM]
theorem Ext.setCell{w:World}{b o:Nat}{F:ah}(v:Value)(hF:F b o):Ext w (w.setCell (at_ b o) v) F:=by
 refine⟨rfl,rfl,rfl,by simp [World.setCell],fun b' hb=>?_⟩
 rw [G5]
 by_cases nM:b=b'
 ·subst nM
  rw [if_pos rfl]
  cases hh:w.heap[b]? with
  | none=>exact .inl rfl
  | some x =>
   cases x with
   | cells c e f =>
    refine .inr ⟨c,_,e,f,rfl,rfl,by simp,fun o' ho=>?_⟩
    have:o≠o':=fun e=>ho (e ▸ hF)
    simp [Array.getElem?_setIfInBounds,this]
   | _=>exact .inl rfl
 ·rw [if_neg nM];exact .inl rfl
def setCells(w:World)(b:Nat):Nat→List Value→World
 | _,[]=>w
 | o,v :: vs=>setCells (w.setCell (at_ b o) v) b (o+1) vs
theorem nD{F:ah}(b:Nat)(vs:List Value):∀(w:World) (o:Nat),(∀i,i<vs.length→F b (o+i))→Ext w (setCells w b o vs) F:=by
 induction vs with
 | nil=>intro w o _;exact Ext.refl _ _
 | cons v vs ih =>
  intro w o h
  have h1:=Ext.setCell (w:=w) v (h 0 (by simp))
  have h2:=ih (w.setCell (at_ b o) v) (o+1) (fun i hi=>by have:=h (i+1) (by simp;omega);rwa [show o+1+i=o +(i+1) by omega])
  exact h1.trans (h2.mono fun _ _ _ h=>h)
theorem XC(b:Nat)(vs:List Value):∀(w:World) (o b' o':Nat),(setCells w b o vs).frozen? (at_ b' o')=w.frozen? (at_ b' o'):=by
 induction vs with
 | nil=>intros;rfl
 | cons v vs ih=>intro w o b' o';rw [setCells,ih,XB]
theorem vm(b:Nat)(vs:List Value):∀(w:World) (o:Nat),(∀i,i<vs.length→∃u,w.cell? (at_ b (o+i))=some u)→∀b' o',
  (setCells w b o vs).cell? (at_ b' o')=if b=b'∧o≤o'∧o'<o+vs.length then vs[o'-o]? else w.cell? (at_ b' o'):=by
 induction vs with
 | nil =>
  intro w o _ b' o'
  rw [setCells,if_neg]
  simp only [List.length_nil];omega
 | cons v vs ih =>
  intro w o h b' o'
  have h0:∃u,w.cell? (at_ b o)=some u:=by simpa using h 0 (by simp)
  have hx:=XA w b o v
  rw [setCells,ih]
  ·by_cases hb:b=b'
   ·subst hb
    by_cases h1:o+1≤o'∧o'<o+1+vs.length
    ·rw [if_pos ⟨rfl,h1⟩,if_pos ⟨rfl,by omega,by simp;omega⟩]
     obtain ⟨k,hk⟩:∃k,o'-o=k+1:=⟨o'-o-1,by omega⟩
     rw [hk,List.getElem?_cons_succ,show o'-(o+1)=k by omega]
    ·rw [if_neg (by simpa using h1),hx b o' h0]
     by_cases h2:o=o'
     ·subst h2;rw [if_pos ⟨rfl,rfl⟩,if_pos ⟨rfl,Nat.le_refl _,by simp⟩];simp
     ·rw [if_neg (by simp [h2]),if_neg]
      simp only [List.length_cons];omega
   ·rw [if_neg (by simp [hb]),if_neg (by simp [hb]),hx b' o' h0,if_neg (by simp [hb])]
  ·intro i hi
   rw [hx b _ h0]
   split
   ·exact⟨v,rfl⟩
   ·have:=h (i+1) (by simp;omega)
    rwa [show o+1+i=o +(i+1) by omega]
def b4(w:World)(b o:Nat)(vs:List Value):Prop:=∀i v,vs[i]?=some v→w.cell? (at_ b (o+i))=some v
theorem b4.nil(w:World)(b o:Nat):b4 w b o []:=by intro i v h;simp at h
theorem b4.cons{w:World}{b o:Nat}{v:Value}{vs:List Value}(h:w.cell? (at_ b o)=some v)(hs:b4 w b (o+1) vs):b4 w b o (v :: vs):=by
 intro i u hu
 cases i with
 | zero=>simp at hu;subst hu;simpa using h
 | succ i=>rw [List.getElem?_cons_succ] at hu;have:=hs i u hu;rwa [show o+1+i=o +(i+1) by omega] at this
theorem b4.head{w:World}{b o:Nat}{v:Value}{vs:List Value}(h:b4 w b o (v :: vs)):w.cell? (at_ b o)=some v:=by simpa using h 0 v rfl
theorem b4.tail{w:World}{b o:Nat}{v:Value}{vs:List Value}(h:b4 w b o (v :: vs)):b4 w b (o+1) vs:=by
 intro i u hu;have:=h (i+1) u (by simpa using hu);rwa [show o +(i+1)=o+1+i by omega] at this
theorem b4.append{w:World}{b o:Nat}{us vs:List Value}(h:b4 w b o us)(k:b4 w b (o+us.length) vs):b4 w b o (us++vs):=by
 intro i v hv
 rcases Nat.lt_or_ge i us.length with hi | hi
 ·rw [List.getElem?_append_left hi] at hv;exact h i v hv
 ·rw [List.getElem?_append_right hi] at hv
  have:=k _ v hv
  rwa [show o+us.length +(i-us.length)=o+i by omega] at this
theorem b4.left{w:World}{b o:Nat}{us vs:List Value}(h:b4 w b o (us++vs)):b4 w b o us:=by
 intro i v hv
 have hi:i<us.length:=by
  rcases Nat.lt_or_ge i us.length with h | h
  ·exact h
  ·rw [List.getElem?_eq_none h] at hv;simp at hv
 exact h i v (by rw [List.getElem?_append_left hi];exact hv)
theorem b4.right{w:World}{b o:Nat}{us vs:List Value}(h:b4 w b o (us++vs)):b4 w b (o+us.length) vs:=by
 intro i v hv
 have:=h (us.length+i) v (by rw [List.getElem?_append_right (by omega),Nat.add_sub_cancel_left];exact hv)
 rwa [show o +(us.length+i)=o+us.length+i by omega] at this
theorem b4.part{w:World}{b o:Nat}{vs:List Value}(h:b4 w b o vs)(k n:Nat):b4 w b (o+k) ((vs.drop k).take n):=by
 intro i v hv
 rw [List.getElem?_take] at hv
 split at hv
 ·rw [List.getElem?_drop] at hv
  have:=h _ v hv
  rwa [show o +(k+i)=o+k+i by omega] at this
 ·simp at hv
theorem b4.of_eq{w w':World}{b o:Nat}{vs:List Value}(h:b4 w b o vs)(he:∀i,i<vs.length→w'.cell? (at_ b (o+i))=w.cell? (at_ b (o+i))):b4 w' b o vs:=by
 intro i v hv
 have hi:i<vs.length:=by
  rcases Nat.lt_or_ge i vs.length with h | h
  ·exact h
  ·rw [List.getElem?_eq_none h] at hv;simp at hv
 rw [he i hi];exact h i v hv
theorem pS(b o n:Nat):(at_ b o).add n=at_ b (o+n):=by
 unfold Addr.add;split
 ·rename_i h;subst h;rfl
 ·rfl
section
variable{P:Program}
theorem run_pure{α : Type}(x : α)(w:World):(pure x:Sem α).run P w=.ok x w:=rfl
theorem run_bind{α β : Type}(s:Sem α)(f : α → Sem β)(w:World):(s >>= f).run P w=match s.run P w with | .ok x w'=>(f x).run P w' | .halt h w'=>.halt h w':=by
 show(Sem.bind s f).run P w=_
 induction s generalizing w with
 | pure a=>rfl
 | load m a k ih =>
  simp only [Sem.bind,Sem.run]
  cases w.cell? a with
  | some v=>exact ih v w
  | none =>
   cases w.farLoad P a (m==.atomic) with
   | error h=>rfl
   | ok r=>exact ih r.1 w
 | store m a v k ih =>
  cases v with
  | agg _=>rfl
  | tuple _=>rfl
  | _ =>
   simp only [Sem.bind,Sem.run]
   cases w.cell? a with
   | some u =>
    dsimp only
    split
    ·rfl
    ·exact ih _
   | none =>
    dsimp only
    split
    ·exact ih _
    ·rfl
 | new o k ih=>exact ih _ _
 | shape r k ih=>exact ih _ _
 | freeze a n k ih=>exact ih _
 | frozen a k ih=>exact ih _ _
 | getObj r k ih =>
  simp only [Sem.bind,Sem.run]
  cases w.heap[r]? with
  | none=>rfl
  | some o=>cases o <;> first | rfl | exact ih _ _
 | setObj r o k ih =>
  simp only [Sem.bind,Sem.run]
  cases w.heap[r]? with
  | none=>rfl
  | some o=>cases o <;> first | rfl | exact ih _
 | choose q k ih =>
  simp only [Sem.bind,Sem.run]
  split <;> exact ih _ _
 | sys c k ih=>exact ih _ _
 | program k ih=>exact ih _ _
 | mark m k ih=>exact ih _
 | halt h=>rfl
def dY:Value→Bool
 | .agg _ | .tuple _=>false
 | _=>true
theorem run_load{w:World}{b o:Nat}{v:Value}(h:w.cell? (at_ b o)=some v):(load (at_ b o)).run P w=.ok v w:=by
 simp [load,Sem.run,h]
theorem run_loadCellsFrom{w:World}(b o:Nat)(vs:List Value):∀(k:Nat) (acc:Array Value),b4 w b (o+k) vs →
  (loadCellsFrom (at_ b o) k vs.length acc).run P w=.ok (acc++vs.toArray) w:=by
 induction vs with
 | nil=>intro k acc _;simp [loadCellsFrom,run_pure]
 | cons v vs ih =>
  intro k acc h
  simp only [List.length_cons,loadCellsFrom]
  rw [run_bind,pS,run_load h.head]
  simp only
  rw [ih (k+1) (acc.push v) (by rw [← Nat.add_assoc];exact h.tail)]
  congr 1
  apply Array.ext'
  simp
theorem run_loadCells{w:World}{b o:Nat}{vs:List Value}(h:b4 w b o vs):(loadCells (at_ b o) vs.length).run P w=.ok vs.toArray w:=by
 unfold loadCells
 rw [run_loadCellsFrom b o vs 0 #[] (by simpa using h)]
 simp
theorem run_store{w:World}{b o:Nat}{v:Value}(hv:dY v=true)(h:e' w b o):(store (at_ b o) v).run P w=.ok () (w.setCell (at_ b o) v):=by
 obtain ⟨⟨u,hu⟩,hf⟩:=h
 cases v <;> simp_all [store,Sem.run,dY]
theorem Az{b o:Nat}(vs:List Value):∀(w:World) (k:Nat),(∀v∈vs,dY v=true)→(∀i,i<vs.length→e' w b (o+k+i)) →
  (storeCells (at_ b o) vs k).run P w=.ok () (setCells w b (o+k) vs):=by
 induction vs with
 | nil=>intros;rfl
 | cons v vs ih =>
  intro w k h1 h2
  unfold storeCells
  have h0:e' w b (o+k):=h2 0 (by simp)
  rw [run_bind,pS,run_store (h1 v (by simp)) h0]
  simp only
  rw [ih _ (k+1) (fun v hv=>h1 v (by simp [hv]))]
  ·rfl
  ·intro i hi
   have:=h2 (i+1) (by simp;omega)
   refine Ext.pN (Ext.setCell (F:=fun _ _=>True) v trivial) ?_
   rwa [show o +(k+1)+i=o+k +(i+1) by omega]
end
end Go.LM
namespace Go.LM
def Row{α : Type}(w:World)(R : α → List Value→ah→Prop)(size:Nat):List α → Nat→Nat→ah→Prop
 | [],_,_,_=>True
 | x :: xs,b,o,F=>∃vs G H,R x vs G∧vs.length=size∧b4 w b o vs∧Row w R size xs b (o+size) H∧ah.apart G H∧ah.sub G F∧ah.sub H F
structure mD{α : Type}(w:World)(R : α → List Value→ah→Prop)(size:Nat)(x:List α)(a:Addr)(c:Nat)(F:ah):Prop where
 spot:a.spot=none
 cap:x.length≤c
 wr:∀j,j<c*size→fB w size a.block (a.off+j)
 inF:∀j,j<c*size→F a.block (a.off+j)
 row:∃G,Row w R size x a.block a.off G∧(∀j,j<c*size→¬G a.block (a.off+j))∧ah.sub G F
mutual
def ae.al(w:World)(Z:ah):(t:ae)→ba→t.D→List Value→ah→Prop
 | .int k,_,x,vs,_=>vs=[.int k x]
 | .bool,_,x,vs,_=>vs=[.bool x]
 | .str,_,x,vs,_=>∃s:ByteArray,vs=[.string s]∧s.data.toList=x
 | .raw,_,x,vs,_=>vs=[x]∧∃A n c,x=.slice A n c
 | .sl t,.O e,x,vs,F=>∃A c,vs=[.slice A x.length c]∧((x=[]∧c=0)∨∃a,A=some a∧mD w (t.al w Z e) t.size x a c F)
 | .sl t,_,x,vs,_=>∃A c,vs=[.slice A x.length c]∧(x=[]∨∃a,A=some a∧a.spot=none∧Row w (fun y us _=>t.al w Z .R y us ah.none) t.size x a.block a.off ah.none∧(∀j,j<x.length*t.size→Z a.block (a.off+j))∧x.length≤c)
 | .st aj,m,x,vs,F=>aj.al w Z m.parts x vs F
def ay.al(w:World)(Z:ah):(aj:ay)→cS→aj.D→List Value→ah→Prop
 | .nil,_,_,vs,_=>vs=[]
 | .cons t aj,m,x,vs,F=>∃us bD G H,vs=us++bD∧t.al w Z m.ag x.1 us G∧aj.al w Z m.dt x.2 bD H∧ah.apart G H∧ah.sub G F∧ah.sub H F
end
def b5(w w':World)(S:ah):Prop:=∀b o,S b o→w'.cell? (at_ b o)=w.cell? (at_ b o)∧∀k,w'.frozen? (at_ b k)=w.frozen? (at_ b k)
theorem b5.mono{w w':World}{S T:ah}(h:b5 w w' S)(hs:ah.sub T S):b5 w w' T:=fun b o ho=>h b o (hs b o ho)
theorem b5.pN{w w':World}{S:ah}(h:b5 w w' S){b o:Nat}(hs:S b o)(hw:e' w b o):e' w' b o:=by
 obtain ⟨⟨v,hv⟩,hf⟩:=hw
 exact⟨⟨v,by rw [(h b o hs).1];exact hv⟩,by rw [(h b o hs).2 o];exact hf⟩
theorem b5.j5{w w':World}{S:ah}(h:b5 w w' S){size b o:Nat}(hs:S b o)(hw:fB w size b o):fB w' size b o :=
 ⟨h.pN hs hw.1,hw.2.imp id fun hk k=>by rw [(h b o hs).2 k];exact hk k⟩
theorem b5.AO{w w':World}{S:ah}(h:b5 w w' S){b o:Nat}{vs:List Value}(hs:∀i,i<vs.length→S b (o+i))(hc:b4 w b o vs):b4 w' b o vs :=
 hc.of_eq fun i hi=>(h b _ (hs i hi)).1
theorem b5.refl(w:World)(S:ah):b5 w w S:=fun _ _ _=>⟨rfl,fun _=>rfl⟩
theorem b5.trans{a b c:World}{S:ah}(h:b5 a b S)(k:b5 b c S):b5 a c S:=fun i o hs=>⟨(k i o hs).1.trans (h i o hs).1,fun j=>((k i o hs).2 j).trans ((h i o hs).2 j)⟩
theorem Row.mono{α : Type}{w:World}{R : α → List Value→ah→Prop}{size:Nat}{F F':ah}(hF:ah.sub F F'):∀ {x:List α} {b o:Nat},Row w R size x b o F→Row w R size x b o F'
 | [],_,_,_=>trivial
 | _ :: _,_,_,⟨vs,G,H,h1,h2,h3,h4,a7,bj,bE⟩=>⟨vs,G,H,h1,h2,h3,h4,a7,fun b o h=>hF b o (bj b o h),fun b o h=>hF b o (bE b o h)⟩
theorem Row.imp{α : Type}{w w':World}{R iB : α → List Value→ah→Prop}{size:Nat} : ∀ {x:List α} {b o:Nat} {F:ah},Row w R size x b o F →
  (∀y vs G,ah.sub G F→R y vs G→iB y vs G)→(∀j,j<x.length*size→w'.cell? (at_ b (o+j))=w.cell? (at_ b (o+j)))→Row w' iB size x b o F
 | [],_,_,_,_,_,_=>trivial
 | y :: x,b,o,F,⟨vs,G,H,h1,h2,h3,h4,a7,bj,bE⟩,dG,hc=>by
  refine⟨vs,G,H,dG _ _ _ bj h1,h2,h3.of_eq fun i hi=>hc i ?_,?_,a7,bj,bE⟩
  ·rw [List.length_cons,Nat.add_one_mul];omega
  ·refine Row.imp h4 (fun y vs dh hG=>dG y vs dh fun b o h=>bE b o (hG b o h)) fun j hj=>?_
   have:=hc (size+j) (by rw [List.length_cons,Nat.add_one_mul];omega)
   rwa [← Nat.add_assoc] at this
theorem Row.bare{α : Type}{w:World}{R iB : α → List Value→ah→Prop}{size:Nat} : ∀ {x:List α} {b o:Nat} {F:ah},Row w R size x b o F →
  (∀y vs G,ah.sub G F→R y vs G→iB y vs ah.none)→Row w iB size x b o ah.none
 | [],_,_,_,_,_=>trivial
 | y :: x,b,o,F,⟨vs,G,H,h1,h2,h3,h4,a7,bj,bE⟩,dG =>
  ⟨vs,ah.none,ah.none,dG _ _ _ bj h1,h2,h3,Row.bare h4 fun y vs dh hG=>dG y vs dh fun b o h=>bE b o (hG b o h),fun _ _ h=>h.elim,fun _ _ h=>h,fun _ _ h=>h⟩
mutual
theorem ae.al.mono{w:World}{Z Z':ah}(hZ:ah.sub Z Z'):∀(t:ae) (m:ba) {x:t.D} {vs:List Value} {F F':ah},ah.sub F F'→t.al w Z m x vs F→t.al w Z' m x vs F'
 | .int _,_,_,_,_,_,_,h=>by simpa only [ae.al] using h
 | .bool,_,_,_,_,_,_,h=>by simpa only [ae.al] using h
 | .str,_,_,_,_,_,_,h=>by simpa only [ae.al] using h
 | .raw,_,_,_,_,_,_,h=>by simpa only [ae.al] using h
 | .sl t,.O e,x,vs,F,F',hF,h=>by
  simp only [ae.al] at h ⊢
  obtain ⟨A,c,h1,h2⟩:=h
  refine⟨A,c,h1,h2.imp id ?_⟩
  rintro ⟨a,h3,h4⟩
  obtain ⟨G,g1,g2,g3⟩:=h4.row
  exact⟨a,h3,h4.spot,h4.cap,h4.wr,fun j hj=>hF _ _ (h4.inF j hj),G,g1.imp (fun y vs dh _=>ae.al.mono hZ t e fun _ _ h=>h) (fun _ _=>rfl),g2,fun b o h=>hF b o (g3 b o h)⟩
 | .sl t,.R,x,vs,F,F',hF,h=>by
  simp only [ae.al] at h ⊢
  obtain ⟨A,c,h1,h2⟩:=h
  refine⟨A,c,h1,h2.imp id ?_⟩
  rintro ⟨a,h3,h4,a7,bj⟩
  exact⟨a,h3,h4,a7.imp (fun y vs dh _=>ae.al.mono hZ t .R fun _ _ h=>h) (fun _ _=>rfl),fun j hj=>hZ _ _ (bj.1 j hj),bj.2⟩
 | .sl t,.S _,x,vs,F,F',hF,h=>by
  simp only [ae.al] at h ⊢
  obtain ⟨A,c,h1,h2⟩:=h
  refine⟨A,c,h1,h2.imp id ?_⟩
  rintro ⟨a,h3,h4,a7,bj⟩
  exact⟨a,h3,h4,a7.imp (fun y vs dh _=>ae.al.mono hZ t .R fun _ _ h=>h) (fun _ _=>rfl),fun j hj=>hZ _ _ (bj.1 j hj),bj.2⟩
 | .st aj,m,x,vs,F,F',hF,h=>by
  simp only [ae.al] at h ⊢
  exact ay.al.mono hZ aj m.parts hF h
theorem ay.al.mono{w:World}{Z Z':ah}(hZ:ah.sub Z Z'):∀(aj:ay) (m:cS) {x:aj.D} {vs:List Value} {F F':ah},ah.sub F F'→aj.al w Z m x vs F→aj.al w Z' m x vs F'
 | .nil,_,_,_,_,_,_,h=>by simpa only [ay.al] using h
 | .cons t aj,m,x,vs,F,F',hF,h=>by
  simp only [ay.al] at h ⊢
  obtain ⟨us,bD,G,H,h1,h2,h3,h4,a7,bj⟩:=h
  exact⟨us,bD,G,H,h1,ae.al.mono hZ t m.ag (fun _ _ h=>h) h2,ay.al.mono hZ aj m.dt (fun _ _ h=>h) h3,h4,fun b o h=>hF b o (a7 b o h),fun b o h=>hF b o (bj b o h)⟩
end
mutual
theorem ae.al.same{w w':World}{Z:ah}(hZ:b5 w w' Z):∀(t:ae) (m:ba) {x:t.D} {vs:List Value} {F:ah},b5 w w' F→t.al w Z m x vs F→t.al w' Z m x vs F
 | .int _,_,_,_,_,_,h=>by simpa only [ae.al] using h
 | .bool,_,_,_,_,_,h=>by simpa only [ae.al] using h
 | .str,_,_,_,_,_,h=>by simpa only [ae.al] using h
 | .raw,_,_,_,_,_,h=>by simpa only [ae.al] using h
 | .sl t,.O e,x,vs,F,hF,h=>by
  simp only [ae.al] at h ⊢
  obtain ⟨A,c,h1,h2⟩:=h
  refine⟨A,c,h1,h2.imp id ?_⟩
  rintro ⟨a,h3,h4⟩
  obtain ⟨G,g1,g2,g3⟩:=h4.row
  have hle:x.length*t.size≤c*t.size:=Nat.mul_le_mul_right _ h4.cap
  exact⟨a,h3,h4.spot,h4.cap,fun j hj=>hF.j5 (h4.inF j hj) (h4.wr j hj),h4.inF,G,g1.imp (fun y vs dh hG=>ae.al.same hZ t e (hF.mono fun b o h=>g3 b o (hG b o h))) (fun j hj=>(hF _ _ (h4.inF j (by omega))).1),g2,g3⟩
 | .sl t,.R,x,vs,F,hF,h=>by
  simp only [ae.al] at h ⊢
  obtain ⟨A,c,h1,h2⟩:=h
  refine⟨A,c,h1,h2.imp id ?_⟩
  rintro ⟨a,h3,h4,a7,bj⟩
  exact⟨a,h3,h4,a7.imp (fun y vs dh _=>ae.al.same hZ t .R (fun _ _ h=>h.elim)) (fun j hj=>(hZ _ _ (bj.1 j hj)).1),bj⟩
 | .sl t,.S _,x,vs,F,hF,h=>by
  simp only [ae.al] at h ⊢
  obtain ⟨A,c,h1,h2⟩:=h
  refine⟨A,c,h1,h2.imp id ?_⟩
  rintro ⟨a,h3,h4,a7,bj⟩
  exact⟨a,h3,h4,a7.imp (fun y vs dh _=>ae.al.same hZ t .R (fun _ _ h=>h.elim)) (fun j hj=>(hZ _ _ (bj.1 j hj)).1),bj⟩
 | .st aj,m,x,vs,F,hF,h=>by
  simp only [ae.al] at h ⊢
  exact ay.al.same hZ aj m.parts hF h
theorem ay.al.same{w w':World}{Z:ah}(hZ:b5 w w' Z):∀(aj:ay) (m:cS) {x:aj.D} {vs:List Value} {F:ah},b5 w w' F→aj.al w Z m x vs F→aj.al w' Z m x vs F
 | .nil,_,_,_,_,_,h=>by simpa only [ay.al] using h
 | .cons t aj,m,x,vs,F,hF,h=>by
  simp only [ay.al] at h ⊢
  obtain ⟨us,bD,G,H,h1,h2,h3,h4,a7,bj⟩:=h
  exact⟨us,bD,G,H,h1,ae.al.same hZ t m.ag (hF.mono a7) h2,ay.al.same hZ aj m.dt (hF.mono bj) h3,h4,a7,bj⟩
end
mutual
theorem ae.al.len{w:World}{Z:ah} : ∀(t:ae) (m:ba) {x:t.D} {vs:List Value} {F:ah},t.al w Z m x vs F→vs.length=t.size∧∀v∈vs,dY v=true
 | .int _,_,_,_,_,h=>by simp only [ae.al] at h;subst h;simp [ae.size,dY]
 | .bool,_,_,_,_,h=>by simp only [ae.al] at h;subst h;simp [ae.size,dY]
 | .str,_,_,_,_,h=>by simp only [ae.al] at h;obtain ⟨s,rfl,_⟩:=h;simp [ae.size,dY]
 | .raw,_,_,_,_,h=>by simp only [ae.al] at h;obtain ⟨rfl,A,n,c,rfl⟩:=h;simp [ae.size,dY]
 | .sl t,.O e,x,vs,F,h=>by simp only [ae.al] at h;obtain ⟨A,c,rfl,_⟩:=h;simp [ae.size,dY]
 | .sl t,.R,x,vs,F,h=>by simp only [ae.al] at h;obtain ⟨A,c,rfl,_⟩:=h;simp [ae.size,dY]
 | .sl t,.S _,x,vs,F,h=>by simp only [ae.al] at h;obtain ⟨A,c,rfl,_⟩:=h;simp [ae.size,dY]
 | .st aj,m,x,vs,F,h=>by simp only [ae.al] at h;simpa only [ae.size] using ay.al.len aj m.parts h
theorem ay.al.len{w:World}{Z:ah} : ∀(aj:ay) (m:cS) {x:aj.D} {vs:List Value} {F:ah},aj.al w Z m x vs F→vs.length=aj.size∧∀v∈vs,dY v=true
 | .nil,_,_,_,_,h=>by simp only [ay.al] at h;subst h;simp [ay.size]
 | .cons t aj,m,x,vs,F,h=>by
  simp only [ay.al] at h
  obtain ⟨us,bD,G,H,rfl,h2,h3,_⟩:=h
  have a:=ae.al.len t m.ag h2
  have b:=ay.al.len aj m.dt h3
  refine⟨by simp [ay.size,a.1,b.1],fun v hv=>?_⟩
  rcases List.mem_append.1 hv with h | h
  ·exact a.2 v h
  ·exact b.2 v h
end
mutual
theorem ae.al.read{w:World}{Z Z':ah}(hZ:ah.sub Z Z'):∀(t:ae) (m:ba) {x:t.D} {vs:List Value} {F:ah},ah.sub F Z'→t.al w Z m x vs F→t.al w Z' .R x vs ah.none
 | .int _,_,_,_,_,_,h=>by simpa only [ae.al] using h
 | .bool,_,_,_,_,_,h=>by simpa only [ae.al] using h
 | .str,_,_,_,_,_,h=>by simpa only [ae.al] using h
 | .raw,_,_,_,_,_,h=>by simpa only [ae.al] using h
 | .sl t,.O e,x,vs,F,hF,h=>by
  simp only [ae.al] at h ⊢
  obtain ⟨A,c,h1,h2⟩:=h
  refine⟨A,c,h1,?_⟩
  rcases h2 with⟨h,_⟩ | ⟨a,h3,h4⟩
  ·exact .inl h
  ·obtain ⟨G,g1,g2,g3⟩:=h4.row
   have hle:x.length*t.size≤c*t.size:=Nat.mul_le_mul_right _ h4.cap
   exact .inr ⟨a,h3,h4.spot,g1.bare fun y vs dh hG=>ae.al.read hZ t e (fun b o h=>hF b o (g3 b o (hG b o h))),fun j hj=>hF _ _ (h4.inF j (by omega)),h4.cap⟩
 | .sl t,.R,x,vs,F,hF,h=>ae.al.mono hZ (.sl t) .R (F:=ah.none) (fun _ _ h=>h) (by simpa only [ae.al] using h)
 | .sl t,.S _,x,vs,F,hF,h=>ae.al.mono hZ (.sl t) .R (F:=ah.none) (fun _ _ h=>h) (by simpa only [ae.al] using h)
 | .st aj,m,x,vs,F,hF,h=>by
  simp only [ae.al] at h ⊢
  exact ay.al.read hZ aj m.parts hF h
theorem ay.al.read{w:World}{Z Z':ah}(hZ:ah.sub Z Z'):∀(aj:ay) (m:cS) {x:aj.D} {vs:List Value} {F:ah},ah.sub F Z'→aj.al w Z m x vs F→aj.al w Z' (ba.parts .R) x vs ah.none
 | .nil,_,_,_,_,_,h=>by simpa only [ay.al] using h
 | .cons t aj,m,x,vs,F,hF,h=>by
  simp only [ay.al] at h ⊢
  obtain ⟨us,bD,G,H,h1,h2,h3,h4,a7,bj⟩:=h
  exact⟨us,bD,ah.none,ah.none,h1,ae.al.read hZ t m.ag (fun b o h=>hF b o (a7 b o h)) h2,ay.al.read hZ aj m.dt (fun b o h=>hF b o (bj b o h)) h3,fun _ _ h=>h.elim,fun _ _ h=>h,fun _ _ h=>h⟩
end
mutual
theorem q6{w:World}{Z:ah} : ∀ {t:ae} {x:t.D} {vs:List Value} {F:ah},t.al w Z .R x vs F→t.al w Z .R x vs ah.none
 | .int _,_,_,_,h=>by simpa only [ae.al] using h
 | .bool,_,_,_,h=>by simpa only [ae.al] using h
 | .str,_,_,_,h=>by simpa only [ae.al] using h
 | .raw,_,_,_,h=>by simpa only [ae.al] using h
 | .sl t,_,_,_,h=>by simpa only [ae.al] using h
 | .st aj,_,_,_,h=>by simp only [ae.al] at h ⊢;exact Ob h
theorem Ob{w:World}{Z:ah} : ∀ {aj:ay} {x:aj.D} {vs:List Value} {F:ah},aj.al w Z (ba.parts .R) x vs F→aj.al w Z (ba.parts .R) x vs ah.none
 | .nil,_,_,_,h=>by simpa only [ay.al] using h
 | .cons t aj,_,_,_,h=>by
  simp only [ay.al] at h ⊢
  obtain ⟨us,bD,G,H,h1,h2,h3,h4,a7,bj⟩:=h
  exact⟨us,bD,ah.none,ah.none,h1,q6 h2,Ob h3,fun _ _ h=>h.elim,fun _ _ h=>h,fun _ _ h=>h⟩
end
mutual
theorem qZ{w:World}{Z Z':ah} : ∀(t:ae) {m m':ba} {x:t.D} {vs:List Value} {F F':ah},t.flat=true→t.al w Z m x vs F→t.al w Z' m' x vs F'
 | .int _,_,_,_,_,_,_,_,h=>by simpa only [ae.al] using h
 | .bool,_,_,_,_,_,_,_,h=>by simpa only [ae.al] using h
 | .str,_,_,_,_,_,_,_,h=>by simpa only [ae.al] using h
 | .raw,_,_,_,_,_,_,_,h=>by simpa only [ae.al] using h
 | .sl t,_,_,_,_,_,_,hf,h=>by simp [ae.flat] at hf
 | .st aj,_,_,_,_,_,_,hf,h=>by simp only [ae.flat] at hf;simp only [ae.al] at h ⊢;exact Oc aj hf h
theorem Oc{w:World}{Z Z':ah} : ∀(aj:ay) {m m':cS} {x:aj.D} {vs:List Value} {F F':ah},aj.flat=true→aj.al w Z m x vs F→aj.al w Z' m' x vs F'
 | .nil,_,_,_,_,_,_,_,h=>by simpa only [ay.al] using h
 | .cons t aj,_,_,_,_,_,_,hf,h=>by
  simp only [ay.flat] at hf
  simp only [ay.al] at h ⊢
  obtain ⟨us,bD,G,H,h1,h2,h3,h4,a7,bj⟩:=h
  cases hb:t.flat
  ·rw [hb] at hf;simp at hf
  ·rw [hb] at hf
   exact⟨us,bD,ah.none,ah.none,h1,qZ t hb h2,Oc aj hf h3,fun _ _ h=>h.elim,fun _ _ h=>h.elim,fun _ _ h=>h.elim⟩
end
mutual
theorem sQ{w:World}{Z Z':ah} : ∀(t:ae) {x:t.D} {vs:List Value} {F:ah},t.al w Z t.own x vs F→t.al w Z' t.own x vs F
 | .int _,_,_,_,h=>by simpa only [ae.al] using h
 | .bool,_,_,_,h=>by simpa only [ae.al] using h
 | .str,_,_,_,h=>by simpa only [ae.al] using h
 | .raw,_,_,_,h=>by simpa only [ae.al] using h
 | .sl t,_,_,_,h=>by
  simp only [ae.own,ae.al] at h ⊢
  obtain ⟨A,c,h1,h2⟩:=h
  refine⟨A,c,h1,h2.imp (fun h=>h) ?_⟩
  rintro ⟨a,h3,h4⟩
  obtain ⟨G,g1,g2,g3⟩:=h4.row
  exact⟨a,h3,h4.spot,h4.cap,h4.wr,h4.inF,G,g1.imp (fun y vs dh _=>sQ t) (fun _ _=>rfl),g2,g3⟩
 | .st aj,_,_,_,h=>by
  simp only [ae.own] at h ⊢
  cases hb:aj.flat
  ·rw [hb] at h
   simp only [ae.al,ba.parts,Bool.false_eq_true,if_false] at h ⊢
   exact AP aj h
  ·rw [hb] at h
   exact qZ (.st aj) (by simp only [ae.flat];exact hb) h
theorem AP{w:World}{Z Z':ah} : ∀(aj:ay) {x:aj.D} {vs:List Value} {F:ah},aj.al w Z aj.own x vs F→aj.al w Z' aj.own x vs F
 | .nil,_,_,_,h=>by simpa only [ay.al] using h
 | .cons t aj,_,_,_,h=>by
  simp only [ay.own,ay.al,cS.ag,cS.dt] at h ⊢
  obtain ⟨us,bD,G,H,h1,h2,h3,h4,a7,bj⟩:=h
  exact⟨us,bD,G,H,h1,sQ t h2,AP aj h3,h4,a7,bj⟩
end
end Go.LM
namespace Go.LM
structure bC where
 base:Option Addr
 cap:Nat
 F:ah
def db(ι : Nat→bC)(dp:List (Nat×Nat)):ah:=fun b o=>∃d,d∈dp∧(ι d.1).F b o
def known(s:aq)(id:Nat):Prop:=s.o id≠.none
def ek(s:aq)(d:Nat×Nat):Prop:=known s d.1∧(s.o d.1=.dead∨d.2≤j7 s d.1)
def ck.live:ck→Prop
 | .row .. | .var .. => True
 | _=>False
structure G6(i:bC)(size:Nat)(sub:Option (Nat×Nat))(len:Nat)(A:Option Addr)(n c:Nat):Prop where
 Od:n=match sub with | none=>len | some (_,m)=>m
 fits:eb sub+n≤len
 le:n≤c
 cap:eb sub+c≤i.cap
 at_:c=0∨∃a,i.base=some a∧A=some (at_ a.block (a.off+eb sub*size))
theorem k0{o:ck}{t:ae}{em:ba}{ver:Nat}{xs:List t.D}(h:o=.row t em ver xs):o.core=.row t em ver xs:=by rw [h];rfl
def iV(s:aq)(ι : Nat→bC)(p:Place)(a:Addr):Prop :=
 a.spot=none∧match (s.o p.id).core with
  | .var _ cs=>p.fa=none∧∃a0,(ι p.id).base=some a0∧a=at_ a0.block (a0.off+p.off)
  | .row t _ _ xs=>∃i,p.fa=some i∧i<xs.length∧∃a0,(ι p.id).base=some a0∧a=at_ a0.block (a0.off+i*t.size+p.off)
  | _=>True
def q7(w:World)(s:aq)(ι : Nat→bC)(dp:List (Nat×Nat))(cr:Option Place)(v:Value):Prop :=
 ∀p,cr=some p→(∃d,d∈dp∧d.1=p.id)∧(alive s dp=true→∃b o,iV s ι p (at_ b o)∧w.cell? (at_ b o)=some v∧(ι p.id).F b o)
theorem q7.none{w:World}{s:aq}{ι : Nat→bC}{dp:List (Nat×Nat)}{v:Value} : q7 w s ι dp none v:=fun p h=>by cases h
def cf(w:World)(Z:ah)(s:aq)(ι : Nat→bC):a8→Value→Prop
 | .int k x,v=>v=.int k x
 | .bool x,v=>v=.bool x
 | .str x,v=>∃b:ByteArray,v=.string b∧b.data.toList=x
 | .raw x,v=>v=x∧∃A n c,x=.slice A n c
 | .nil _,v=>v=.slice none 0 0
 | .bW t dp cr xs,v=>(∀d,d∈dp→ek s d)∧(∃A n c,v=.slice A n c) ∧
   (alive s dp=true→(ae.sl t).al w (Z.or (db ι dp)) .R xs [v] ah.none)∧q7 w s ι dp cr v
 | .ag id sub,v=>known s id∧∃A n c,v=.slice A n c∧∀t em ver xs,(s.o id).core=.row t em ver xs→G6 (ι id) t.size sub xs.length A n c
def bG(w:World)(Z:ah)(s:aq)(ι : Nat→bC):List a8→List Value→Prop
 | [],[]=>True
 | c :: cs,v :: vs=>cf w Z s ι c v∧bG w Z s ι cs vs
 | _,_=>False
mutual
def aQ(w:World)(Z:ah)(s:aq)(ι : Nat→bC):a6→Value→Prop
 | .aD,_=>True
 | .gone,v=>v=undef
 | .aU c,v=>cf w Z s ι c v
 | .h7 cs,v=>∃vs,v=.agg vs.toArray∧bG w Z s ι cs vs
 | .ptr p,v=>known s p.id∧∃a,v=.pointer (some a)∧iV s ι p a
 | .dg dp cs off,v=>(∀d,d∈dp→ek s d)∧∃b o vs,v=.pointer (some (at_ b (o+off))) ∧
   (alive s dp=true→bG w Z s ι cs vs∧b4 w b o vs∧∀j,j<cs.length→Z.or (db ι dp) b (o+j))
 | .jD,v=>v=.pointer none
 | .kq,v=>v=.slice none 0 0
 | .opt id o,v=>known s id∧((o<0∧v=.pointer none)∨(0≤o∧∃a,v=.pointer (some a)∧iV s ι ⟨id,some o.toNat,0⟩ a))
 | .q0 t,v=>v.cells.toList.length=t.size∧∀u∈v.cells.toList,LM.dY u=true
 | .may b dp cs,v=>(b=false∧v=.pointer none)∨(b=true∧(∀d,d∈dp→ek s d)∧∃b o vs,v=.pointer (some (at_ b (o+0))) ∧
   (alive s dp=true→bG w Z s ι cs vs∧b4 w b o vs∧∀j,j<cs.length→Z.or (db ι dp) b (o+j)))
 | .fn f first kU,v=>∃us vs,v=.func (.func f) us.toArray vs.toArray∧aZ w Z s ι first us∧aZ w Z s ι kU vs
 | .oE l,v=>∃vs,v=.tuple vs.toArray∧aZ w Z s ι l vs
def aZ(w:World)(Z:ah)(s:aq)(ι : Nat→bC):List a6→List Value→Prop
 | [],vs=>vs=[]
 | x :: l,vs=>∃v bD,vs=v :: bD∧aQ w Z s ι x v∧aZ w Z s ι l bD
end
def hJ(w:World)(Z:ah)(s:aq)(ι : Nat→bC)(i:bC):ck→Prop
 | .row t em _ xs=>(xs=[]∧i.cap=0)∨∃a,i.base=some a∧mD w (t.al w Z em) t.size xs a i.cap i.F
 | .var _ cs=>∃a vs,i.base=some a∧a.spot=none∧bG w Z s ι cs vs∧b4 w a.block a.off vs ∧
   (∀j,j<cs.length→e' w a.block (a.off+j)∧i.F a.block (a.off+j))
 | _=>True
structure Seen where
 dp:List (Nat×Nat)
 b:Nat
 o:Nat
 vs:List Value
def sR(w:World)(Z:ah)(s:aq)(ι : Nat→bC)(e:Seen):Prop :=
 (∀d,d∈e.dp→ek s d)∧(alive s e.dp=true→b4 w e.b e.o e.vs∧∀j,j<e.vs.length→Z.or (db ι e.dp) e.b (e.o+j))
structure cB where
 n:Nat
 pT:List Value
 gc:List Seen
instance:Coe cB Nat:=⟨cB.n⟩
structure Inv(w0:World)(F0 Z0:ah)(n:cB)(s:aq)(a:Act)(w:World)(ι : Nat→bC)(Z:ah):Prop where
 ext:Ext w0 w F0
 dz:∀b o,Z b o→Z0 b o∨F0 b o∨w0.heap.size≤b
 q8:ah.sub Z0 Z
 iC:∀b o,Z b o→b<w.heap.size
 fC:∀id,hJ w Z s ι (ι id) (s.o id)
 own:∀id,(s.o id).live→∀b o,(ι id).F b o→(F0 b o∨w0.heap.size≤b)∧b<w.heap.size
 apart:∀id dV,(s.o id).live→(s.o dV).live→id≠dV→ah.apart (ι id).F (ι dV).F
 c0:∀id,(s.o id).live→ah.apart (ι id).F Z
 tmps:∀k,aQ w Z s ι (s.t k) (a.tmps.getD k undef)
 size:a.tmps.size=n.n
 ghost:aZ w Z s ι s.g n.pT
 seen:∀e,e∈n.gc→sR w Z s ι e
 defers:a.defers=[]
theorem bG.len{w:World}{Z:ah}{s:aq}{ι : Nat→bC} : ∀ {cs:List a8} {vs:List Value},bG w Z s ι cs vs→vs.length=cs.length
 | [],[],_=>rfl
 | _ :: _,_ :: _,h=>by simp [bG.len h.2]
 | [],_ :: _,h=>h.elim
 | _ :: _,[],h=>h.elim
theorem cf.dY{w:World}{Z:ah}{s:aq}{ι : Nat→bC} : ∀ {c:a8} {v:Value},cf w Z s ι c v→LM.dY v=true
 | .int _ _,_,h=>by cases h;rfl
 | .bool _,_,h=>by cases h;rfl
 | .str _,_,⟨_,h,_⟩=>by cases h;rfl
 | .raw _,_,⟨h,_,_,_,h2⟩=>by subst h;subst h2;rfl
 | .nil _,_,h=>by cases h;rfl
 | .bW _ _ _ _,_,⟨_,⟨_,_,_,h⟩,_,_⟩=>by cases h;rfl
 | .ag _ _,_,⟨_,_,_,_,h,_⟩=>by cases h;rfl
theorem bG.dY{w:World}{Z:ah}{s:aq}{ι : Nat→bC} : ∀ {cs:List a8} {vs:List Value},bG w Z s ι cs vs→∀v∈vs,LM.dY v=true
 | [],[],_=>by simp
 | _ :: _,_ :: _,h=>by
  intro v hv
  rcases List.mem_cons.1 hv with rfl | hv
  ·exact h.1.dY
  ·exact bG.dY h.2 v hv
 | [],_ :: _,h=>h.elim
 | _ :: _,[],h=>h.elim
theorem bG.append{w:World}{Z:ah}{s:aq}{ι : Nat→bC} : ∀ {cs ds:List a8} {us vs:List Value},bG w Z s ι cs us→bG w Z s ι ds vs→bG w Z s ι (cs++ds) (us++vs)
 | [],_,[],_,_,k=>k
 | _ :: _,_,_ :: _,_,h,k=>⟨h.1,bG.append h.2 k⟩
 | [],_,_ :: _,_,h,_=>h.elim
 | _ :: _,_,[],_,h,_=>h.elim
theorem bG.split{w:World}{Z:ah}{s:aq}{ι : Nat→bC} : ∀ {cs ds:List a8} {vs:List Value},bG w Z s ι (cs++ds) vs →
  ∃us aj,vs=us++aj∧us.length=cs.length∧bG w Z s ι cs us∧bG w Z s ι ds aj
 | [],ds,vs,h=>⟨[],vs,rfl,rfl,trivial,h⟩
 | c :: cs,ds,v :: vs,h=>by
  obtain ⟨us,aj,h1,h2,h3,h4⟩:=bG.split (cs:=cs) h.2
  exact⟨v :: us,aj,by rw [h1];rfl,by simp [h2],⟨h.1,h3⟩,h4⟩
 | _ :: _,_,[],h=>h.elim
theorem bG.drop{w:World}{Z:ah}{s:aq}{ι : Nat→bC} : ∀(k:Nat) {cs:List a8} {vs:List Value},bG w Z s ι cs vs→bG w Z s ι (cs.drop k) (vs.drop k)
 | 0,_,_,h=>h
 | _+1,[],[],h=>h
 | k+1,_ :: _,_ :: _,h=>bG.drop k h.2
 | _+1,[],_ :: _,h=>h.elim
 | _+1,_ :: _,[],h=>h.elim
theorem bG.take{w:World}{Z:ah}{s:aq}{ι : Nat→bC} : ∀(k:Nat) {cs:List a8} {vs:List Value},bG w Z s ι cs vs→bG w Z s ι (cs.take k) (vs.take k)
 | 0,_,_,h=>trivial
 | _+1,[],[],h=>h
 | k+1,_ :: _,_ :: _,h=>⟨h.1,bG.take k h.2⟩
 | _+1,[],_ :: _,h=>h.elim
 | _+1,_ :: _,[],h=>h.elim
theorem bG.mono{w w':World}{Z Z':ah}{s ar:aq}{ι bd:Nat→bC}(hc:∀c v,cf w Z s ι c v→cf w' Z' ar bd c v) :
  ∀ {cs:List a8} {vs:List Value},bG w Z s ι cs vs→bG w' Z' ar bd cs vs
 | [],[],_=>trivial
 | _ :: _,_ :: _,h=>⟨hc _ _ h.1,bG.mono hc h.2⟩
 | [],_ :: _,h=>h.elim
 | _ :: _,[],h=>h.elim
inductive iD:ck→bC→ck→bC→Prop
 | stay (o:ck) (i:bC):iD o i o i
 | made (o':ck) (i dW:bC):iD .none i o' dW
 | dead (o:ck) (i dW:bC):iD o i .dead dW
 | row (t:ae) (em gd:ba) (v eK:Nat) (xs fD:List t.D) (i dW:bC) (hv:v<eK) (hl:fD.length=xs.length) (hb:dW.base=i.base) (hc:dW.cap=i.cap):iD (.row t em v xs) i (.row t gd eK fD) dW
 | var (v eK:Nat) (cs cs':List a8) (i:bC) (hv:v<eK) (hl:cs'.length=cs.length):iD (.var v cs) i (.var eK cs') i
 | fb (o:ck) (i:bC) (hl:o.live):iD o i (.b_ o) i
 | q9 (t:ae) (em gd:ba) (v eK:Nat) (xs fD:List t.D) (i dW:bC) (hv:v<eK) (hl:fD.length=xs.length) (hb:dW.base=i.base) (hc:dW.cap=i.cap):iD (.b_ (.row t em v xs)) i (.row t gd eK fD) dW
 | xI (v eK:Nat) (cs cs':List a8) (i dW:bC) (hv:v<eK) (hb:dW.base=i.base):iD (.b_ (.var v cs)) i (.var eK cs') dW
def q_(s:aq)(ι : Nat→bC)(ar:aq)(bd:Nat→bC):Prop:=∀id,iD (s.o id) (ι id) (ar.o id) (bd id)
theorem q_.known{s ar:aq}{ι bd:Nat→bC}(h:q_ s ι ar bd){id:Nat}(hk:known s id):known ar id:=by
 unfold LM.known at *
 have:=h id
 generalize s.o id=o at *;generalize ar.o id=o' at *;generalize ι id=i at *;generalize bd id=dW at *
 cases this <;> simp_all
theorem q_.dep{s ar:aq}{ι bd:Nat→bC}(h:q_ s ι ar bd){d:Nat×Nat}(hk:ek s d):ek ar d:=by
 refine⟨h.known hk.1,?_⟩
 obtain ⟨k1,k2⟩:=hk
 unfold LM.known j7 at *
 have:=h d.1
 generalize s.o d.1=o at *;generalize ar.o d.1=o' at *;generalize ι d.1=i at *;generalize bd d.1=dW at *
 cases this with
 | stay=>exact k2
 | made=>exact absurd rfl k1
 | dead=>exact .inl rfl
 | row t em gd v eK xs fD i dW k4 hl hb hc=>rcases k2 with h | h;exact absurd h (by simp);exact .inr (by dsimp only at *;omega)
 | var v eK cs cs' i k4 hl=>rcases k2 with h | h;exact absurd h (by simp);exact .inr (by dsimp only at *;omega)
 | fb o i hl =>
  rcases k2 with h | h
  ·rw [h] at hl;exact hl.elim
  ·cases o <;> first | exact hl.elim | exact .inr h
 | q9 t em gd v eK xs fD i dW k4 hl hb hc=>rcases k2 with h | h;exact absurd h (by simp);exact .inr (by dsimp only at *;omega)
 | xI v eK cs cs' i dW k4 hb=>rcases k2 with h | h;exact absurd h (by simp);exact .inr (by dsimp only at *;omega)
theorem q_.stays{s ar:aq}{ι bd:Nat→bC}(h:q_ s ι ar bd):∀ {dp:List (Nat×Nat)},(∀d,d∈dp→ek s d)→alive ar dp=true →
  alive s dp=true∧∀d,d∈dp→ar.o d.1=s.o d.1 ∧ bd d.1 = ι d.1∧(s.o d.1).live
 | [],_,_=>⟨rfl,by simp⟩
 | (id,v) :: dp,hk,ha=>by
  have fE:=fun ha=>q_.stays h (dp:=dp) (fun d ag=>hk d (by simp [ag])) ha
  obtain ⟨k1,k2⟩:=hk (id,v) (by simp)
  have ht:=h id
  simp only [LM.known,j7] at k1 k2
  unfold alive at ha ⊢
  generalize ho:s.o id=o at *
  generalize q':ar.o id=o' at *
  generalize hi : ι id=i at *
  generalize c5 : bd id=dW at *
  cases ht with
  | stay =>
   cases o with
   | row t em w xs =>
    dsimp only at ha ⊢
    cases hb:Nat.beq w v
    ·rw [hb] at ha;simp at ha
    ·rw [hb] at ha
     obtain ⟨bB,cc⟩:=fE ha
     refine⟨bB,fun d ag=>?_⟩
     rcases List.mem_cons.1 ag with rfl | ag
     ·exact⟨by rw [ho,q'],by rw [hi,c5],by rw [ho];trivial⟩
     ·exact cc d ag
   | var w cs =>
    dsimp only at ha ⊢
    cases hb:Nat.beq w v
    ·rw [hb] at ha;simp at ha
    ·rw [hb] at ha
     obtain ⟨bB,cc⟩:=fE ha
     refine⟨bB,fun d ag=>?_⟩
     rcases List.mem_cons.1 ag with rfl | ag
     ·exact⟨by rw [ho,q'],by rw [hi,c5],by rw [ho];trivial⟩
     ·exact cc d ag
   | none=>simp at ha
   | dead=>simp at ha
   | b_=>simp at ha
  | made=>exact absurd rfl k1
  | dead=>simp at ha
  | fb=>simp at ha
  | q9 t em gd w w' xs fD i dW hv hl hb hc =>
   dsimp only at ha
   cases hb:Nat.beq w' v
   ·rw [hb] at ha;simp at ha
   ·have:=Nat.eq_of_beq_eq_true hb;simp at k2;omega
  | xI w w' cs cs' i dW hv hb =>
   dsimp only at ha
   cases hb:Nat.beq w' v
   ·rw [hb] at ha;simp at ha
   ·have:=Nat.eq_of_beq_eq_true hb;simp at k2;omega
  | row t em gd w w' xs fD i dW hv hl hb hc =>
   dsimp only at ha
   cases hb:Nat.beq w' v
   ·rw [hb] at ha;simp at ha
   ·have:=Nat.eq_of_beq_eq_true hb;simp at k2;omega
  | var w w' cs cs' i hv hl =>
   dsimp only at ha
   cases hb:Nat.beq w' v
   ·rw [hb] at ha;simp at ha
   ·have:=Nat.eq_of_beq_eq_true hb;simp at k2;omega
def Oe(s:aq)(ι : Nat→bC)(ar:aq)(bd:Nat→bC)(Z:ah):ah :=
 fun b o=>Z b o∨∃id,(s.o id).live∧ar.o id=s.o id ∧ bd id = ι id∧(ι id).F b o
section
variable{w w':World}{Z Z':ah}{s ar:aq}{ι bd:Nat→bC}
structure eD(w:World)(Z:ah)(s:aq)(ι : Nat→bC)(w':World)(Z':ah)(ar:aq)(bd:Nat→bC):Prop where
 turns:q_ s ι ar bd
 dz:ah.sub Z Z'
 same:b5 w w' (Oe s ι ar bd Z)
theorem eD.db(h:eD w Z s ι w' Z' ar bd){dp:List (Nat×Nat)}(hk:∀d,d∈dp→ek s d)(ha:alive ar dp=true) :
  b5 w w' (Z.or (db ι dp))∧ah.sub (Z.or (LM.db ι dp)) (Z'.or (LM.db bd dp)):=by
 obtain ⟨h1,h2⟩:=h.turns.stays hk ha
 refine⟨h.same.mono ?_,?_⟩
 ·rintro b o (hz | ⟨d,ag,hf⟩)
  ·exact .inl hz
  ·exact .inr ⟨d.1,(h2 d ag).2.2,(h2 d ag).1,(h2 d ag).2.1,hf⟩
 ·rintro b o (hz | ⟨d,ag,hf⟩)
  ·exact .inl (h.dz b o hz)
  ·exact .inr ⟨d,ag,by rw [(h2 d ag).2.1];exact hf⟩
theorem iV.move(h:eD w Z s ι w' Z' ar bd){p:Place}{a:Addr}(hk:known s p.id)(au:iV s ι p a):iV ar bd p a:=by
 obtain ⟨hs,au⟩:=au
 refine⟨hs,?_⟩
 have ht:=h.turns p.id
 unfold known at hk
 generalize s.o p.id=o at *;generalize ar.o p.id=o' at *;generalize ι p.id=i at *;generalize bd p.id=dW at *
 cases ht with
 | stay=>exact au
 | made=>exact absurd rfl hk
 | dead=>trivial
 | row t em gd v eK xs fD i dW hv hl hb hc=>obtain ⟨k,h1,h2,h3⟩:=au;exact⟨k,h1,by omega,by rw [hb];exact h3⟩
 | var=>exact au
 | fb o i hl=>cases o <;> first | exact hl.elim | exact au
 | q9 t em gd v eK xs fD i dW hv hl hb hc=>obtain ⟨k,h1,h2,h3⟩:=au;exact⟨k,h1,by omega,by rw [hb];exact h3⟩
 | xI v eK cs cs' i dW hv hb=>obtain ⟨h1,h2⟩:=au;exact⟨h1,by rw [hb];exact h2⟩
theorem q7.move(h:eD w Z s ι w' Z' ar bd){dp:List (Nat×Nat)}{cr:Option Place}{v:Value}(hk:∀d,d∈dp→ek s d)(ho:q7 w s ι dp cr v):q7 w' ar bd dp cr v:=by
 intro p au
 obtain ⟨⟨d,ag,b3⟩,h2⟩:=ho p au
 refine⟨⟨d,ag,b3⟩,fun ha=>?_⟩
 obtain ⟨c6,eE⟩:=h.db hk ha
 obtain ⟨s1,s2⟩:=h.turns.stays hk ha
 obtain ⟨b,o,k1,k2,k3⟩:=h2 s1
 refine⟨b,o,k1.move h (b3 ▸ (hk d ag).1),?_,?_⟩
 ·rw [(c6 b o (.inr ⟨d,ag,b3 ▸ k3⟩)).1];exact k2
 ·rw [← b3,(s2 d ag).2.1,b3];exact k3
theorem cf.move(h:eD w Z s ι w' Z' ar bd):∀ {c:a8} {v:Value},cf w Z s ι c v→cf w' Z' ar bd c v
 | .int _ _,_,hc=>hc
 | .bool _,_,hc=>hc
 | .str _,_,hc=>hc
 | .raw _,_,hc=>hc
 | .nil _,_,hc=>hc
 | .bW t dp cr xs,v,⟨h1,h2,h3,h4⟩=>by
  refine⟨fun d ag=>h.turns.dep (h1 d ag),h2,fun ha=>?_,h4.move h h1⟩
  obtain ⟨a,b⟩:=h.db h1 ha
  exact ae.al.mono b _ _ (fun _ _ h=>h) (ae.al.same a _ _ (fun _ _ h=>h.elim) (h3 (h.turns.stays h1 ha).1))
 | .ag id sub,v,⟨h1,A,n,c,hv,h2⟩=>by
  refine⟨h.turns.known h1,A,n,c,hv,fun t em ver xs ho=>?_⟩
  have ht:=h.turns id
  unfold LM.known at h1
  generalize vl:s.o id=o at *
  generalize hii : ι id=i at *
  generalize akl:ar.o id=o' at *
  generalize akm : bd id=dW at *
  cases ht with
  | stay=>exact h2 _ _ _ _ ho
  | made=>exact absurd rfl h1
  | dead=>simp [ck.core] at ho
  | row t em gd v eK xs fD i dW hv hl hb hc =>
   simp only [ck.core,ck.row.injEq] at ho
   obtain ⟨rfl,_,_,ho⟩:=ho
   have:=eq_of_heq ho;subst this
   obtain ⟨c6,eE,h8,h9,h_⟩:=h2 _ _ _ _ rfl
   exact⟨by rw [hl];exact c6,by rw [hl];exact eE,h8,by rw [hc];exact h9,by rw [hb];exact h_⟩
  | var=>simp [ck.core] at ho
  | fb o i hl=>exact h2 _ _ _ _ (by cases o <;> first | exact hl.elim | exact ho)
  | q9 t em gd v eK xs fD i dW hv hl hb hc =>
   simp only [ck.core,ck.row.injEq] at ho
   obtain ⟨rfl,_,_,ho⟩:=ho
   have:=eq_of_heq ho;subst this
   obtain ⟨c6,eE,h8,h9,h_⟩:=h2 _ _ _ _ rfl
   exact⟨by rw [hl];exact c6,by rw [hl];exact eE,h8,by rw [hc];exact h9,by rw [hb];exact h_⟩
  | xI=>simp [ck.core] at ho
theorem bG.move(h:eD w Z s ι w' Z' ar bd){cs:List a8}{vs:List Value}(hc:bG w Z s ι cs vs):bG w' Z' ar bd cs vs :=
 bG.mono (fun _ _=>cf.move h) hc
mutual
theorem aQ.move(h:eD w Z s ι w' Z' ar bd):∀ {x:a6} {v:Value},aQ w Z s ι x v→aQ w' Z' ar bd x v
 | .aD,_,_=>by simp only [aQ]
 | .gone,_,hx=>by simpa only [aQ] using hx
 | .aU c,v,hx=>by simp only [aQ] at hx ⊢;exact hx.move h
 | .h7 cs,v,hx=>by simp only [aQ] at hx ⊢;obtain ⟨vs,h1,h2⟩:=hx;exact⟨vs,h1,h2.move h⟩
 | .ptr p,v,hx=>by
  simp only [aQ] at hx ⊢;obtain ⟨h1,a,h2,h3⟩:=hx;exact⟨h.turns.known h1,a,h2,h3.move h h1⟩
 | .dg dp cs off,v,hx=>by
  simp only [aQ] at hx ⊢
  obtain ⟨h1,b,o,vs,h2,h3⟩:=hx
  refine⟨fun d ag=>h.turns.dep (h1 d ag),b,o,vs,h2,fun ha=>?_⟩
  obtain ⟨c6,eE⟩:=h.db h1 ha
  obtain ⟨bB,cc,gG⟩:=h3 (h.turns.stays h1 ha).1
  exact⟨bB.move h,c6.AO (fun i hi=>gG i (by rw [← bB.len];exact hi)) cc,fun j hj=>eE _ _ (gG j hj)⟩
 | .q0 t,v,hx=>by simpa only [aQ] using hx
 | .may q dp cs,v,hx=>by
  simp only [aQ] at hx ⊢
  rcases hx with hx | ⟨h0,h1,b,o,vs,h2,h3⟩
  ·exact .inl hx
  refine .inr ⟨h0,fun d ag=>h.turns.dep (h1 d ag),b,o,vs,h2,fun ha=>?_⟩
  obtain ⟨c6,eE⟩:=h.db h1 ha
  obtain ⟨bB,cc,gG⟩:=h3 (h.turns.stays h1 ha).1
  exact⟨bB.move h,c6.AO (fun i hi=>gG i (by rw [← bB.len];exact hi)) cc,fun j hj=>eE _ _ (gG j hj)⟩
 | .jD,_,hx=>by simpa only [aQ] using hx
 | .kq,_,hx=>by simpa only [aQ] using hx
 | .opt id o,v,hx=>by
  simp only [aQ] at hx ⊢
  obtain ⟨h1,h2⟩:=hx
  exact⟨h.turns.known h1,h2.imp (fun x=>x) fun⟨h3,a,h4,a7⟩=>⟨h3,a,h4,a7.move h h1⟩⟩
 | .fn f l m,v,hx=>by
  simp only [aQ] at hx ⊢
  obtain ⟨us,vs,h1,h2,h3⟩:=hx
  exact⟨us,vs,h1,aZ.move h h2,aZ.move h h3⟩
 | .oE l,v,hx=>by
  simp only [aQ] at hx ⊢
  obtain ⟨vs,h1,h2⟩:=hx
  exact⟨vs,h1,aZ.move h h2⟩
theorem aZ.move(h:eD w Z s ι w' Z' ar bd):∀ {x:List a6} {v:List Value},aZ w Z s ι x v→aZ w' Z' ar bd x v
 | [],v,hx=>by simpa only [aZ] using hx
 | x :: l,v,hx=>by
  simp only [aZ] at hx ⊢
  obtain ⟨u,us,h1,h2,h3⟩:=hx
  exact⟨u,us,h1,aQ.move h h2,aZ.move h h3⟩
end
theorem sR.move(h:eD w Z s ι w' Z' ar bd){e:Seen}(he:sR w Z s ι e):sR w' Z' ar bd e:=by
 obtain ⟨h1,h2⟩:=he
 refine⟨fun d ag=>h.turns.dep (h1 d ag),fun ha=>?_⟩
 obtain ⟨c6,eE⟩:=h.db h1 ha
 obtain ⟨bB,cc⟩:=h2 (h.turns.stays h1 ha).1
 exact⟨c6.AO cc bB,fun j hj=>eE _ _ (cc j hj)⟩
theorem hJ.move(h:eD w Z s ι w' Z' ar bd){id:Nat}(hl:(s.o id).live→ar.o id=s.o id ∧ bd id = ι id){o:ck}(ho:s.o id=o)(hs:hJ w Z s ι (ι id) o):hJ w' Z' ar bd (ι id) o:=by
 cases o with
 | none=>trivial
 | dead=>trivial
 | b_=>trivial
 | row t em ver xs =>
  have b8:(s.o id).live:=by rw [ho];trivial
  have hs1:b5 w w' (ι id).F:=h.same.mono fun b o hf=>.inr ⟨id,b8,(hl b8).1,(hl b8).2,hf⟩
  rcases hs with hs | ⟨a,h1,h2⟩
  ·exact .inl hs
  ·refine .inr ⟨a,h1,h2.spot,h2.cap,fun j hj=>hs1.j5 (h2.inF j hj) (h2.wr j hj),h2.inF,?_⟩
   obtain ⟨G,g1,g2,g3⟩:=h2.row
   have hle:xs.length*t.size≤(ι id).cap*t.size:=Nat.mul_le_mul_right _ h2.cap
   exact⟨G,g1.imp (fun y vs dh hG hr=>ae.al.mono h.dz _ _ (fun _ _ h=>h) (ae.al.same (h.same.mono fun b o hz=>.inl hz) _ _ (hs1.mono fun b o aA=>g3 b o (hG b o aA)) hr)) (fun j hj=>(hs1 _ _ (h2.inF j (by omega))).1),g2,g3⟩
 | var ver cs =>
  have b8:(s.o id).live:=by rw [ho];trivial
  have hs1:b5 w w' (ι id).F:=h.same.mono fun b o hf=>.inr ⟨id,b8,(hl b8).1,(hl b8).2,hf⟩
  obtain ⟨a,vs,h1,h2,h3,h4,a7⟩:=hs
  exact⟨a,vs,h1,h2,h3.move h,hs1.AO (fun i hi=>(a7 i (by rw [← h3.len];exact hi)).2) h4,fun j hj=>⟨hs1.pN (a7 j hj).2 (a7 j hj).1,(a7 j hj).2⟩⟩
end
end Go.LM
namespace Go.LM
section
variable{w0:World}{F0 Z0:ah}{n:cB}{s ar:aq}{a b6:Act}{w w':World}{ι bd:Nat→bC}{Z Z':ah}
theorem Inv.next(h:Inv w0 F0 Z0 n s a w ι Z)(hm:eD w Z s ι w' Z' ar bd){S:ah}(hx:Ext w w' S)
  (dN:∀b o,S b o→F0 b o∨w0.heap.size≤b)
  (hz:∀b o,Z' b o→Z b o∨((F0 b o∨w0.heap.size≤b)∧b<w'.heap.size))
  (ho:∀id,(ar.o id).live→¬(ar.o id=s.o id ∧ bd id = ι id)→hJ w' Z' ar bd (bd id) (ar.o id) ∧
   (∀b o,(bd id).F b o→(F0 b o∨w0.heap.size≤b)∧b<w'.heap.size)∧(∀dV,(ar.o dV).live→id≠dV→ah.apart (bd id).F (bd dV).F))
  (nN:∀id,(ar.o id).live→ah.apart (bd id).F Z')
  (ht:∀k,aQ w' Z' ar bd (ar.t k) (b6.tmps.getD k undef))
  (hn:b6.tmps.size=n) (ag:b6.defers=[]) (xJ:ar.g=s.g:=by rfl):Inv w0 F0 Z0 n ar b6 w' bd Z':=by
 have hsz:=hx.size
 refine⟨?_,?_,?_,?_,?_,?_,?_,nN,ht,hn,by rw [xJ];exact aZ.move hm h.ghost,fun e he=>(h.seen e he).move hm,ag⟩
 ·refine h.ext.trans' hx dN
 ·intro b o hb
  rcases hz b o hb with h1 | h1
  ·exact h.dz b o h1
  ·exact .inr h1.1
 ·exact fun b o hb=>hm.dz b o (h.q8 b o hb)
 ·intro b o hb
  rcases hz b o hb with h1 | h1
  ·exact Nat.lt_of_lt_of_le (h.iC b o h1) hsz
  ·exact h1.2
 ·intro id
  by_cases hl:(ar.o id).live
  ·by_cases hst:ar.o id=s.o id ∧ bd id = ι id
   ·have:=hJ.move hm (id:=id) (fun _=>hst) rfl (h.fC id)
    rw [hst.2,hst.1];exact this
   ·exact(ho id hl hst).1
  ·cases hh:ar.o id with
   | none=>trivial
   | dead=>trivial
   | b_=>trivial
   | row=>rw [hh] at hl;exact absurd trivial hl
   | var=>rw [hh] at hl;exact absurd trivial hl
 ·intro id hl b o hf
  by_cases hst:ar.o id=s.o id ∧ bd id = ι id
  ·rw [hst.2] at hf
   have:=h.own id (hst.1 ▸ hl) b o hf
   exact⟨this.1,Nat.lt_of_lt_of_le this.2 hsz⟩
  ·exact(ho id hl hst).2.1 b o hf
 ·intro id dV hl fT hne
  by_cases hst:ar.o id=s.o id ∧ bd id = ι id
  ·by_cases pU:ar.o dV=s.o dV ∧ bd dV = ι dV
   ·rw [hst.2,pU.2];exact h.apart id dV (hst.1 ▸ hl) (pU.1 ▸ fT) hne
   ·exact fun b o h1 h2=>(ho dV fT pU).2.2 id hl (Ne.symm hne) b o h2 h1
  ·exact(ho id hl hst).2.2 dV fT hne
theorem b5.iE{S T:ah}(hx:Ext w w' S)(bX:∀b o,T b o→b<w.heap.size)(ha:ah.apart T S):b5 w w' T :=
 fun b o ht=>⟨hx.cell (bX b o ht) (fun hs=>ha b o ht hs),hx.frozen (bX b o ht)⟩
theorem Inv.ra(h:Inv w0 F0 Z0 n s a w ι Z):∀b o,Oe s ι ar bd Z b o→b<w.heap.size:=by
 rintro b o (hz | ⟨id,hl,_,_,hf⟩)
 ·exact h.iC b o hz
 ·exact(h.own id hl b o hf).2
theorem cO{α : Type}{f:Nat → α}{i j:Nat}{v : α}(h:i≠j):bQ f i v j=f j:=q1 (Ne.symm h)
theorem Inv.tmp(h:Inv w0 F0 Z0 n s a w ι Z)(ho:ar.o=s.o)(ht:∀k,aQ w Z ar ι (ar.t k) (b6.tmps.getD k undef))
  (hn:b6.tmps.size=n) (ag:b6.defers=[]) (xJ:ar.g=s.g:=by rfl):Inv w0 F0 Z0 n ar b6 w ι Z:=by
 refine h.next (S:=ah.none) ⟨fun id=>by rw [ho];exact .stay _ _,fun _ _ h=>h,b5.refl _ _⟩ (Ext.refl _ _) (fun _ _ h=>h.elim) (fun _ _ h=>.inl h) ?_ ?_ ht hn ag xJ
 ·intro id _ hne;exact absurd ⟨by rw [ho],rfl⟩ hne
 ·intro id hl;exact h.c0 id (by rwa [ho] at hl)
theorem G7(ho:ar.o=s.o):eD w Z s ι w Z ar ι :=⟨fun id=>by rw [ho];exact .stay _ _,fun _ _ h=>h,b5.refl _ _⟩
theorem G8(t:Array Value)(d k:Nat)(u:Value)(ag:d<t.size):(t.setIfInBounds d u).getD k undef=if d=k then u else t.getD k undef:=by
 simp only [Array.getD_eq_getD_getElem?,Array.getElem?_setIfInBounds]
 by_cases hk:d=k
 ·subst hk;simp [ag]
 ·simp [hk]
theorem Inv.set(h:Inv w0 F0 Z0 n s a w ι Z){d:Nat}{v:a6}{u:Value}(hv:aQ w Z s ι v u)(ag:d<n) :
  Inv w0 F0 Z0 n (s.set d v) (a.put (some d) u) w ι Z:=by
 have hm:eD w Z s ι w Z (s.set d v) ι := G7 rfl
 refine h.tmp rfl (fun k=>?_) (by simpa [Act.put] using h.size) (by simpa [Act.put] using h.defers)
 show aQ w Z (s.set d v) ι (bQ s.t d v k) ((a.tmps.setIfInBounds d u).getD k undef)
 rw [G8 _ _ _ _ (by rw [h.size];exact ag)]
 by_cases hk:d=k
 ·subst hk;rw [cw,if_pos rfl];exact hv.move hm
 ·rw [cO hk,if_neg hk];exact(h.tmps k).move hm
theorem Inv.dst(h:Inv w0 F0 Z0 n s a w ι Z){d:Option Nat}{v:a6}{u:Value}(hv:aQ w Z s ι v u)(ag:∀k,d=some k→k<n) :
  Inv w0 F0 Z0 n (s.dst d v) (a.put d u) w ι Z:=by
 cases d with
 | none=>exact h
 | some d=>exact h.set hv (ag d rfl)
theorem Inv.world(h:Inv w0 F0 Z0 n s a w ι Z)(hx:Ext w w' ah.none):Inv w0 F0 Z0 n s a w' ι Z:=by
 have hm:eD w Z s ι w' Z s ι :=⟨fun id=>.stay _ _,fun _ _ h=>h,b5.iE hx h.ra (fun _ _ _ h=>h)⟩
 refine h.next hm hx (fun _ _ h=>h.elim) (fun _ _ h=>.inl h) ?_ h.c0 (fun k=>(h.tmps k).move hm) h.size h.defers
 intro id _ hne;exact absurd ⟨rfl,rfl⟩ hne
theorem Inv.drew(h:Inv w0 F0 Z0 n s a w ι Z)(m:Nat):Inv w0 F0 Z0 n s a { w with drawn:=m } ι Z:=h.world (Ext.drew _ _ _)
theorem Of(h:Inv w0 F0 Z0 n s a w ι Z){id:Nat}(b3:s.o id=.none)(hx:Ext w w' ah.none)(o:ck)(i:bC) :
  eD w Z s ι w' Z (s.bN id o) (bQ ι id i):=by
 refine⟨fun j=>?_,fun _ _ h=>h,b5.iE hx h.ra (fun _ _ _ h=>h)⟩
 show iD (s.o j) (ι j) (bQ s.o id o j) (bQ ι id i j)
 by_cases hj:id=j
 ·subst hj;rw [b3];exact .made _ _ _
 ·rw [cO hj,cO hj];exact .stay _ _
theorem Inv.new(h:Inv w0 F0 Z0 n s a w ι Z){id:Nat}(b3:s.o id=.none)(hx:Ext w w' ah.none){o:ck}{i:bC}
  (cK:hJ w' Z (s.bN id o) (bQ ι id i) i o) (hF:∀b o,i.F b o→w.heap.size≤b∧b<w'.heap.size) :
  Inv w0 F0 Z0 n (s.bN id o) a w' (bQ ι id i) Z:=by
 have hm:=Of h b3 hx o i
 have hsz:=h.ext.size
 refine h.next hm hx (fun _ _ h=>h.elim) (fun _ _ h=>.inl h) ?_ ?_ (fun k=>(h.tmps k).move hm) h.size h.defers
 ·intro j hl hne
  by_cases hj:id=j
  ·subst hj
   rw [cw]
   refine⟨by show hJ _ _ _ _ _ (bQ s.o id o id);rw [cw];exact cK,fun b o hf=>⟨.inr (by have:=(hF b o hf).1;omega),(hF b o hf).2⟩,fun ku fT jo b o h1 h2=>?_⟩
   rw [cO jo] at h2
   have dO:(s.o ku).live:=by
    have:(bQ s.o id _ ku).live:=fT
    rwa [cO jo] at this
   have:=(h.own ku dO b o h2).2
   have:=(hF b o h1).1
   omega
  ·exact absurd ⟨cO hj,cO hj⟩ hne
 ·intro j hl b o h1 h2
  by_cases hj:id=j
  ·subst hj
   rw [cw] at h1
   have:=(hF b o h1).1
   have:=h.iC b o h2
   omega
  ·rw [cO hj] at h1
   have dO:(s.o j).live:=by
    have:(bQ s.o id _ j).live:=hl
    rwa [cO hj] at this
   exact h.c0 j dO b o h1 h2
theorem G9{id j:Nat}(hl:((s.bN id .dead).o j).live):id≠j∧(s.o j).live:=by
 have h:(bQ s.o id ck.dead j).live:=hl
 by_cases hj:id=j
 ·subst hj;rw [cw] at h;exact h.elim
 ·rw [cO hj] at h;exact⟨hj,h⟩
theorem XD(h:Inv w0 F0 Z0 n s a w ι Z)(id:Nat)(hZ:ah.sub Z Z'):eD w Z s ι w Z' (s.bN id .dead) ι := by
 refine⟨fun j=>?_,hZ,b5.refl _ _⟩
 show iD (s.o j) (ι j) (bQ s.o id ck.dead j) (ι j)
 by_cases hj:id=j
 ·subst hj;rw [cw];exact .dead _ _ _
 ·rw [cO hj];exact .stay _ _
theorem Inv.take(h:Inv w0 F0 Z0 n s a w ι Z)(id:Nat)(hZ:ah.sub Z Z')(hz:∀b o,Z' b o→Z b o∨((s.o id).live∧(ι id).F b o)) :
  Inv w0 F0 Z0 n (s.bN id .dead) a w ι Z':=by
 have hm:=XD h id hZ
 refine h.next hm (Ext.refl _ ah.none) (fun _ _ h=>h.elim) ?_ ?_ ?_ (fun k=>(h.tmps k).move hm) h.size h.defers
 ·intro b o hb
  rcases hz b o hb with h1 | ⟨h1,h2⟩
  ·exact .inl h1
  ·exact .inr (h.own id h1 b o h2)
 ·intro j hl hne
  obtain ⟨hj,dO⟩:=G9 hl
  exact absurd ⟨cO hj,rfl⟩ hne
 ·intro j hl b o h1 h2
  obtain ⟨hj,dO⟩:=G9 hl
  rcases hz b o h2 with h3 | ⟨h3,h4⟩
  ·exact h.c0 j dO b o h1 h3
  ·exact h.apart id j h3 dO hj b o h4 h1
end
end Go.LM
namespace Go.LM
theorem Row.drop{α : Type}{w:World}{R : α → List Value→ah→Prop}{size:Nat} : ∀(k:Nat) {x:List α} {b o:Nat} {F:ah},Row w R size x b o F→Row w R size (x.drop k) b (o+k*size) F
 | 0,x,b,o,F,h=>by simpa using h
 | k+1,[],b,o,F,h=>trivial
 | k+1,y :: x,b,o,F,⟨vs,G,H,h1,h2,h3,h4,a7,bj,bE⟩=>by
  have:=Row.drop k h4
  rw [show o+size+k*size=o +(k+1)*size by rw [Nat.add_one_mul];omega] at this
  exact this.mono bE
theorem Row.take{α : Type}{w:World}{R : α → List Value→ah→Prop}{size:Nat} : ∀(k:Nat) {x:List α} {b o:Nat} {F:ah},Row w R size x b o F→Row w R size (x.take k) b o F
 | 0,x,b,o,F,h=>by rw [List.take_zero];trivial
 | k+1,[],b,o,F,h=>trivial
 | k+1,y :: x,b,o,F,⟨vs,G,H,h1,h2,h3,h4,a7,bj,bE⟩=>⟨vs,G,H,h1,h2,h3,Row.take k h4,a7,bj,bE⟩
theorem gH{u t:ae}{xs:List u.D}{x:List t.D}(h:eB (.sl u) (.sl t) xs=some x):∃e:u=t,x=e ▸ xs:=by
 obtain ⟨e,hx⟩:=AI h
 injection e with e
 subst e
 exact⟨rfl,hx⟩
section
variable{w0:World}{F0 Z0:ah}{n:cB}{s ar:aq}{a:Act}{w:World}{ι : Nat→bC}{Z Z':ah}
structure bF(w0:World)(F0:ah)(s:aq)(w:World)(ι : Nat→bC)(Z F:ah):Prop where
 own:∀b o,F b o→(F0 b o∨w0.heap.size≤b)∧b<w.heap.size
 apart:∀id,(s.o id).live→ah.apart F (ι id).F
 c0:ah.apart F Z
theorem bF.none:bF w0 F0 s w ι Z ah.none:=⟨fun _ _ h=>h.elim,fun _ _ _ _ h=>h.elim,fun _ _ h=>h.elim⟩
structure eV(s:aq)(ι : Nat→bC)(Z:ah)(ar:aq)(Z':ah):Prop where
 o:∀id,ar.o id=s.o id∨((s.o id).live∧ar.o id=.dead)
 t:ar.t=s.t
 g:ar.g=s.g
 dz:ah.sub Z Z'
 oJ:∀b o,Z' b o→Z b o∨∃id,(s.o id).live∧ar.o id=.dead∧(ι id).F b o
theorem eV.refl:eV s ι Z s Z:=⟨fun _=>.inl rfl,rfl,rfl,fun _ _ h=>h,fun _ _ h=>.inl h⟩
theorem eV.trans{s2:aq}{bK:ah}(h:eV s ι Z ar Z')(k:eV ar ι Z' s2 bK):eV s ι Z s2 bK:=by
 refine⟨fun id=>?_,k.t.trans h.t,k.g.trans h.g,fun b o hz=>k.dz b o (h.dz b o hz),fun b o hz=>?_⟩
 ·rcases k.o id with h1 | ⟨h0,h1⟩
  ·rw [h1];exact h.o id
  ·rcases h.o id with h2 | ⟨_,h2⟩
   ·exact .inr ⟨h2 ▸ h0,h1⟩
   ·rw [h2] at h0;exact h0.elim
 ·rcases k.oJ b o hz with h1 | ⟨id,h1,h2,h3⟩
  ·rcases h.oJ b o h1 with h1 | ⟨id,h1,h2,h3⟩
   ·exact .inl h1
   ·refine .inr ⟨id,h1,?_,h3⟩
    rcases k.o id with h4 | ⟨_,h4⟩
    ·rw [h4,h2]
    ·exact h4
  ·rcases h.o id with h4 | ⟨_,h4⟩
   ·exact .inr ⟨id,h4 ▸ h1,h2,h3⟩
   ·rw [h4] at h1;exact h1.elim
theorem eV.ec(h:eV s ι Z ar Z'):eD w Z s ι w Z' ar ι := by
 refine⟨fun id=>?_,h.dz,b5.refl _ _⟩
 rcases h.o id with h1 | ⟨_,h1⟩
 ·rw [h1];exact .stay _ _
 ·rw [h1];exact .dead _ _ _
theorem eV.live(h:eV s ι Z ar Z'){id:Nat}(hl:(ar.o id).live):(s.o id).live∧ar.o id=s.o id:=by
 rcases h.o id with h1 | ⟨_,h1⟩
 ·exact⟨h1 ▸ hl,h1⟩
 ·rw [h1] at hl;exact hl.elim
theorem bF.shrink{F:ah}(hf:bF w0 F0 s w ι Z F)(h:eV s ι Z ar Z'):bF w0 F0 ar w ι Z' F:=by
 refine⟨hf.own,fun id hl=>hf.apart id (h.live hl).1,fun b o h1 h2=>?_⟩
 rcases h.oJ b o h2 with h3 | ⟨id,h3,_,h4⟩
 ·exact hf.c0 b o h1 h3
 ·exact hf.apart id h3 b o h1 h4
theorem bF.or{F G:ah}(hf:bF w0 F0 s w ι Z F)(aA:bF w0 F0 s w ι Z G):bF w0 F0 s w ι Z (F.or G) :=
 ⟨fun b o h=>h.elim (hf.own b o) (aA.own b o),fun id hl b o h=>h.elim (hf.apart id hl b o) (aA.apart id hl b o),fun b o h=>h.elim (hf.c0 b o) (aA.c0 b o)⟩
theorem Inv.vn(h:Inv w0 F0 Z0 n s a w ι Z){id:Nat}(hl:(s.o id).live):bF w0 F0 (s.bN id .dead) w ι Z (ι id).F :=
 ⟨h.own id hl,fun j hj=>by obtain ⟨h1,h2⟩:=G9 hj;exact h.apart id j hl h2 h1,h.c0 id hl⟩
theorem vo(id:Nat)(hl:(s.o id).live):eV s ι Z (s.bN id .dead) Z:=by
 refine⟨fun j=>?_,rfl,rfl,fun _ _ h=>h,fun _ _ h=>.inl h⟩
 by_cases hj:id=j
 ·subst hj;exact .inr ⟨hl,cw _ _ _⟩
 ·exact .inl (cO hj)
theorem Og(h:Inv w0 F0 Z0 n s a w ι Z){id:Nat}(hl:(s.o id).live):eV s ι Z (s.bN id .dead) (Z.or (ι id).F):=by
 refine⟨fun j=>?_,rfl,rfl,fun _ _ h=>.inl h,fun b o hz=>?_⟩
 ·by_cases hj:id=j
  ·subst hj;exact .inr ⟨hl,cw _ _ _⟩
  ·exact .inl (cO hj)
 ·rcases hz with h1 | h1
  ·exact .inl h1
  ·exact .inr ⟨id,hl,cw _ _ _,h1⟩
theorem vp{i:bC}{t:ae}{em:ba}{xs:List t.D}{sub:Option (Nat×Nat)}{A:Option Addr}{m c:Nat}{ver:Nat}
  (ho:hJ w Z s ι i (.row t em ver xs)) (hh:G6 i t.size sub xs.length A m c) :
  (ae.sl t).al w Z (.O em) (kr sub xs) [.slice A m c] i.F:=by
 obtain ⟨hn,hfit,hle,hcap,cl⟩:=hh
 have hlen:(kr sub xs).length=m:=by
  cases sub with
  | none=>simp [kr,hn]
  | some p=>obtain ⟨lo,k⟩:=p;simp only [kr,part,List.length_take,List.length_drop,eb] at *;omega
 simp only [ae.al]
 refine⟨A,c,by rw [hlen],?_⟩
 rcases cl with h0 | ⟨a0,hb,hA⟩
 ·exact .inl ⟨List.eq_nil_of_length_eq_zero (by omega),h0⟩
 ·rcases ho with⟨hx,h0⟩ | ⟨vq,dA,hr⟩
  ·refine .inl ⟨List.eq_nil_of_length_eq_zero (by omega),by omega⟩
  ·rw [hb] at dA
   obtain rfl:=aV dA
   refine .inr ⟨_,hA,rfl,by rw [hlen];exact hle,fun j hj=>?_,fun j hj=>?_,?_⟩
   ·have:=hr.wr (eb sub*t.size+j) (by
     have:(eb sub+c)*t.size≤i.cap*t.size:=Nat.mul_le_mul_right _ hcap
     rw [Nat.add_mul] at this;omega)
    rwa [← Nat.add_assoc] at this
   ·have:=hr.inF (eb sub*t.size+j) (by
     have:(eb sub+c)*t.size≤i.cap*t.size:=Nat.mul_le_mul_right _ hcap
     rw [Nat.add_mul] at this;omega)
    rwa [← Nat.add_assoc] at this
   ·obtain ⟨G,g1,g2,g3⟩:=hr.row
    refine⟨G,?_,fun j hj=>?_,g3⟩
    ·cases sub with
     | none=>simpa [kr,eb] using g1
     | some p=>obtain ⟨lo,k⟩:=p;exact(g1.drop lo).take k
    ·have:=g2 (eb sub*t.size+j) (by
      have:(eb sub+c)*t.size≤i.cap*t.size:=Nat.mul_le_mul_right _ hcap
      rw [Nat.add_mul] at this;omega)
     rwa [← Nat.add_assoc] at this
theorem G_{t:ae}{c:a8}{xs:List t.D}{v:Value}(h:Inv w0 F0 Z0 n s a w ι Z)(hl:oH s t c=some xs)(hc:cf w Z s ι c v) :
  (ae.sl t).al w (Z.or (db ι (borrows s c))) .R xs [v] ah.none∧alive s (borrows s c)=true∧∀d,d∈borrows s c→ek s d:=by
 cases c with
 | nil u =>
  obtain ⟨e,rfl⟩:=gH hl
  subst e
  have hv:v=.slice none 0 0:=hc
  subst hv
  refine⟨?_,rfl,by simp [borrows]⟩
  simp only [ae.al]
  exact⟨none,0,rfl,.inl trivial⟩
 | bW u dp cr ys =>
  simp only [oH] at hl
  obtain ⟨h1,h2,h3⟩:=hc
  cases ha:alive s dp with
  | false=>rw [ha] at hl;simp at hl
  | true =>
   rw [ha] at hl
   obtain ⟨e,rfl⟩:=gH hl
   subst e
   exact⟨h3.1 ha,ha,h1⟩
 | ag id sub =>
  simp only [oH] at hl
  obtain ⟨h1,A,m,k,rfl,h2⟩:=hc
  cases ho:s.o id with
  | row u em ver ys =>
   rw [ho] at hl
   obtain ⟨e,rfl⟩:=gH hl
   subst e
   have hb:borrows s (.ag id sub)=[(id,ver)]:=by simp only [borrows,ho]
   rw [hb]
   refine⟨?_,?_,?_⟩
   ·have cX:=h.fC id
    rw [ho] at cX
    refine ae.al.read (fun _ _ h=>.inl h) _ _ (fun b o hf=>.inr ⟨(id,ver),by simp,hf⟩) (vp cX (h2 u em ver ys (k0 ho)))
   ·simp [alive,ho]
   ·intro d ag
    simp at ag
    subst ag
    exact⟨h1,.inr (by simp [j7,ho])⟩
  | _=>rw [ho] at hl;simp at hl
 | _=>simp [oH] at hl
theorem G'(ι : Nat→bC)(nb bn:List (Nat×Nat)):ah.sub (db ι bn) (db ι (nb++bn)) :=
 fun b o ⟨d,h1,h2⟩=>⟨d,List.mem_append.2 (.inr h1),h2⟩
def xK(w0:World)(F0 Z0:ah)(n:cB)(s:aq)(a:Act)(w:World)(ι : Nat→bC)(Z:ah)(b:Bool)(R:ah→List Value→ah→Prop)(vs:List Value)
  (cs':List a8) (ar:aq) (bn mH:List (Nat×Nat)):Prop :=
 ∃us bD F Z',vs=us++bD∧Inv w0 F0 Z0 n ar a w ι Z'∧eV s ι Z ar Z'∧bG w Z' ar ι cs' bD∧bF w0 F0 ar w ι Z' F ∧
  R (Z'.or (db ι mH)) us F∧(∃nb,mH=nb++bn)∧(b=false→mH=bn)∧(∀d,d∈mH→ek ar d) ∧
  ∀b o,F b o→∃id,(s.o id).live∧(ι id).F b o
theorem vr{b:Bool}{R:ah→List Value→ah→Prop}{v:Value}{bD:List Value}{cs':List a8}{bn:List (Nat×Nat)}(h:Inv w0 F0 Z0 n s a w ι Z)
  (hc:bG w Z s ι cs' bD) (hb:∀d,d∈bn→ek s d) (dG:∀Z,R Z [v] ah.none):xK w0 F0 Z0 n s a w ι Z b R (v :: bD) cs' s bn bn :=
 ⟨[v],bD,ah.none,Z,rfl,h,.refl,hc,.none,dG _,⟨[],rfl⟩,fun _=>rfl,hb,fun _ _ h=>h.elim⟩
theorem Ha(h:eV s ι Z ar Z'){d:Nat×Nat}(ag:ek s d):ek ar d:=by
 obtain ⟨h1,h2⟩:=ag
 unfold ek known j7 at *
 rcases h.o d.1 with h3 | ⟨_,h3⟩
 ·rw [h3];exact⟨h1,h2⟩
 ·rw [h3];exact⟨by simp,.inl rfl⟩
theorem Oh{t:ae}{e:ba}{x:List t.D}{vs:List Value}{F:ah}(h:(ae.sl t).al w Z (.O e) x vs F) :
  ∃F',ah.sub F' F∧(ae.sl t).al w (Z.or fun b o=>F b o∧¬F' b o) (.O .R) x vs F':=by
 simp only [ae.al] at h ⊢
 obtain ⟨A,c,hv,h⟩:=h
 rcases h with h | ⟨a,hA,hr⟩
 ·exact⟨ah.none,fun _ _ h=>h.elim,A,c,hv,.inl h⟩
 ·obtain ⟨G,g1,g2,g3⟩:=hr.row
  refine⟨ah.run a.block a.off (c*t.size),?_,A,c,hv,.inr ⟨a,hA,hr.spot,hr.cap,hr.wr,fun j hj=>⟨rfl,by omega,by omega⟩,ah.none,?_,fun _ _ h=>h,fun _ _ h=>h.elim⟩⟩
  ·rintro b o ⟨rfl,h1,h2⟩
   have:=hr.inF (o-a.off) (by omega)
   rwa [show a.off +(o-a.off)=o by omega] at this
  ·refine g1.bare fun y us dh hG aO=>ae.al.read (fun _ _ h=>.inl h) _ _ (fun b o aA=>.inr ⟨g3 b o (hG b o aA),?_⟩) aO
   rintro ⟨rfl,h1,h2⟩
   have:=g2 (o-a.off) (by omega)
   rw [show a.off +(o-a.off)=o by omega] at this
   exact this (hG _ o aA)
theorem XE(t:ae)(b:Bool)(m:ba)(c:a8)(cs:List a8)(s:aq)(bn:List (Nat×Nat))(r:List t.D×List a8×aq×List (Nat×Nat))(v:Value)(vs:List Value)(Z:ah)
  (hi:(ae.sl t).imp b m (c :: cs) s bn=some r) (h:Inv w0 F0 Z0 n s a w ι Z) (hc:bG w Z s ι (c :: cs) (v :: vs)) (hb:∀d,d∈bn→ek s d) :
  xK w0 F0 Z0 n s a w ι Z b (fun Z us F=>(ae.sl t).al w Z m r.1 us F) (v :: vs) r.2.1 r.2.2.1 bn r.2.2.2:=by
 have oK:∀ {Z m},v=.slice none 0 0→(ae.sl t).al w Z m ([]:List t.D) [v] ah.none:=by
  intro Z m hv;subst hv
  cases m <;> simp only [ae.al] <;> exact⟨none,0,rfl,.inl (by simp)⟩
 have frozen:∀(m:ba),m=.R∨(∃ms,m=.S ms)→(ae.sl t).imp b m (c :: cs) s bn=some r →
   xK w0 F0 Z0 n s a w ι Z b (fun Z us F=>(ae.sl t).al w Z m r.1 us F) (v :: vs) r.2.1 r.2.2.1 bn r.2.2.2:=by
  intro m hm hi
  have Hb:∀ {Z:ah} {x:List t.D} {us:List Value},(ae.sl t).al w Z .R x us ah.none→(ae.sl t).al w Z m x us ah.none:=by
   rcases hm with rfl | ⟨ms,rfl⟩
   ·exact fun h=>h
   ·intro Z x us h;simpa only [ae.al] using h
  cases b with
  | true =>
   have c5:(oH s t c).bind (fun x=>some (x,cs,s,borrows s c++bn))=some r:=by
    rcases hm with rfl | ⟨ms,rfl⟩ <;> simpa only [ae.imp] using hi
   obtain ⟨x,hx,c5⟩:=bf c5
   obtain rfl:=aV c5
   obtain ⟨ed,d_,fU⟩:=G_ h hx hc.1
   refine⟨[v],vs,ah.none,Z,rfl,h,.refl,hc.2,.none,Hb (ae.al.mono ?_ _ _ (fun _ _ h=>h) ed),⟨_,rfl⟩,fun hf=>by simp at hf,?_,fun _ _ h=>h.elim⟩
   ·rintro b o (hz | ⟨d,ag,hf⟩)
    ·exact .inl hz
    ·exact .inr ⟨d,List.mem_append.2 (.inl ag),hf⟩
   ·intro d ag
    rcases List.mem_append.1 ag with ag | ag
    ·exact fU d ag
    ·exact hb d ag
  | false =>
   cases c with
   | nil u =>
    have c5:(eB (.sl u) (.sl t) ([]:List u.D)).bind (fun x=>some (x,cs,s,bn))=some r:=by
     rcases hm with rfl | ⟨ms,rfl⟩ <;> simpa only [ae.imp] using hi
    obtain ⟨x,hx,c5⟩:=bf c5
    obtain rfl:=aV c5
    obtain ⟨e,rfl⟩:=gH hx
    subst e
    exact vr h hc.2 hb fun Z=>oK hc.1
   | bW u dp cr xs =>
    cases dp with
    | cons d dp=>rcases hm with rfl | ⟨ms,rfl⟩ <;> simp [ae.imp] at hi
    | nil =>
     have c5:(eB (.sl u) (.sl t) xs).bind (fun x=>some (x,cs,s,bn))=some r:=by
      rcases hm with rfl | ⟨ms,rfl⟩ <;> simpa only [ae.imp] using hi
     obtain ⟨x,hx,c5⟩:=bf c5
     obtain rfl:=aV c5
     obtain ⟨e,rfl⟩:=gH hx
     subst e
     have p:=hc.1.2.2.1 rfl
     refine⟨[v],vs,ah.none,Z,rfl,h,.refl,hc.2,.none,Hb (ae.al.mono ?_ _ _ (fun _ _ h=>h) p),⟨[],rfl⟩,fun _=>rfl,hb,fun _ _ h=>h.elim⟩
     rintro b o (hz | ⟨d,ag,hf⟩)
     ·exact .inl hz
     ·simp at ag
   | ag id sub =>
    cases ho:s.o id with
    | row u em ver xs =>
     have c5:(eB (.sl u) (.sl t) (kr sub xs)).bind (fun x=>some (x,cs,s.bN id .dead,bn))=some r:=by
      rcases hm with rfl | ⟨ms,rfl⟩ <;> simpa only [ae.imp,ho] using hi
     obtain ⟨x,hx,c5⟩:=bf c5
     obtain rfl:=aV c5
     obtain ⟨e,rfl⟩:=gH hx
     subst e
     have hl:(s.o id).live:=by rw [ho];trivial
     obtain ⟨hk,A,m',k,rfl,hh⟩:=hc.1
     have cX:=h.fC id
     rw [ho] at cX
     have p:=vp cX (hh u em ver xs (k0 ho))
     have ia:=Og h hl
     refine⟨[_],vs,ah.none,Z.or (ι id).F,rfl,h.take id (fun _ _ h=>.inl h) (fun b o hz=>hz.imp (fun h=>h) fun h=>⟨hl,h⟩),ia,hc.2.move ia.ec,.none,Hb ?_,⟨[],rfl⟩,fun _=>rfl,fun d ag=>Ha ia (hb d ag),fun _ _ h=>h.elim⟩
     exact ae.al.read (fun _ _ h=>.inl (.inl h)) _ _ (fun b o hf=>.inl (.inr hf)) p
    | _=>rcases hm with rfl | ⟨ms,rfl⟩ <;> simp [ae.imp,ho] at hi
   | _=>rcases hm with rfl | ⟨ms,rfl⟩ <;> simp [ae.imp] at hi
 cases m with
 | R=>exact frozen _ (.inl rfl) hi
 | S ms=>exact frozen _ (.inr ⟨ms,rfl⟩) hi
 | O e =>
  cases c with
  | nil u =>
   have c5:(eB (.sl u) (.sl t) ([]:List u.D)).bind (fun x=>some (x,cs,s,bn))=some r:=by
    cases b <;> simpa only [ae.imp] using hi
   obtain ⟨x,hx,c5⟩:=bf c5
   obtain rfl:=aV c5
   obtain ⟨e,rfl⟩:=gH hx
   subst e
   exact vr h hc.2 hb fun Z=>oK hc.1
  | ag id sub =>
   cases ho:s.o id with
   | row u em ver xs =>
    have c5:(if ba.le em e=true then(eB (.sl u) (.sl t) (kr sub xs)).bind (fun x=>some (x,cs,s.bN id .dead,bn)) else none)=some r:=by
     cases b <;>(simp only [ae.imp,ho] at hi;rw [← hi];cases ba.le em e <;> rfl)
    split at c5
    case isFalse=>simp at c5
    rename_i hle
    obtain ⟨x,hx,c5⟩:=bf c5
    obtain rfl:=aV c5
    obtain ⟨gF,rfl⟩:=gH hx
    subst gF
    have hl:(s.o id).live:=by rw [ho];trivial
    obtain ⟨hk,A,m',k,rfl,hh⟩:=hc.1
    have cX:=h.fC id
    rw [ho] at cX
    have p:=vp cX (hh u em ver xs (k0 ho))
    have eZ:=h.vn hl
    by_cases Hc:em=e
    ·subst Hc
     have ia:eV s ι Z (s.bN id .dead) Z:=vo id (by rw [ho];trivial)
     exact⟨[_],vs,(ι id).F,Z,rfl,h.take id (fun _ _ h=>h) (fun b o hz=>.inl hz),ia,hc.2.move ia.ec,eZ,
      ae.al.mono (fun _ _ h=>.inl h) _ _ (fun _ _ h=>h) p,⟨[],rfl⟩,fun _=>rfl,fun d ag=>Ha ia (hb d ag),fun b o hf=>⟨id,hl,hf⟩⟩
    ·have XF:e=.R:=by
      cases e with
      | R=>rfl
      | O e=>exact absurd (ba.eq_of_beq _ _ hle) Hc
      | S e=>exact absurd (ba.eq_of_beq _ _ hle) Hc
     subst XF
     obtain ⟨F',c6,eE⟩:=Oh p
     have ia:eV s ι Z (s.bN id .dead) (Z.or fun b o=>(ι id).F b o∧¬F' b o):=by
      have h0:=Og h hl
      refine⟨h0.o,h0.t,h0.g,fun _ _ h=>.inl h,fun b o hz=>?_⟩
      rcases hz with h1 | h1
      ·exact .inl h1
      ·exact .inr ⟨id,hl,cw _ _ _,h1.1⟩
     refine⟨[_],vs,F',_,rfl,h.take id (fun _ _ h=>.inl h) (fun b o hz=>hz.imp (fun h=>h) fun h=>⟨hl,h.1⟩),ia,hc.2.move ia.ec,⟨fun b o hf=>eZ.own b o (c6 b o hf),fun j hj b o hf=>eZ.apart j hj b o (c6 b o hf),?_⟩,
      ae.al.mono (fun _ _ h=>.inl h) _ _ (fun _ _ h=>h) eE,⟨[],rfl⟩,fun _=>rfl,fun d ag=>Ha ia (hb d ag),fun b o hf=>⟨id,hl,c6 b o hf⟩⟩
     rintro b o hf (hz | hz)
     ·exact eZ.c0 b o (c6 b o hf) hz
     ·exact hz.2 hf
   | _=>cases b <;> simp [ae.imp,ho] at hi
  | _=>cases b <;> simp [ae.imp] at hi
mutual
theorem ae.k5:∀(t:ae) (b:Bool) (m:ba) (cs:List a8) (s:aq) (bn:List (Nat×Nat)) (r:t.D×List a8×aq×List (Nat×Nat)) (vs:List Value) (Z:ah),
  t.imp b m cs s bn=some r→Inv w0 F0 Z0 n s a w ι Z→bG w Z s ι cs vs→(∀d,d∈bn→ek s d) →
  xK w0 F0 Z0 n s a w ι Z b (fun Z us F=>t.al w Z m r.1 us F) vs r.2.1 r.2.2.1 bn r.2.2.2
 | .int k,b,m,cs,s,bn,r,vs,Z,hi,h,hc,hb=>by
  cases cs with
  | nil=>cases m <;> simp [ae.imp] at hi
  | cons c cs =>
   cases vs with
   | nil=>exact hc.elim
   | cons v vs =>
    cases c <;> simp only [ae.imp] at hi <;> try (simp at hi;done)
    rename_i k' x
    cases hk:Nat.beq (di k) (di k')
    ·rw [hk] at hi;simp at hi
    ·rw [hk] at hi
     obtain rfl:=aV hi
     obtain rfl:=sH (Nat.eq_of_beq_eq_true hk)
     have hv:v=.int k x:=hc.1
     subst hv
     exact vr h hc.2 hb fun Z=>by simp only [ae.al]
 | .bool,b,m,cs,s,bn,r,vs,Z,hi,h,hc,hb=>by
  cases cs with
  | nil=>cases m <;> simp [ae.imp] at hi
  | cons c cs =>
   cases vs with
   | nil=>exact hc.elim
   | cons v vs =>
    cases c <;> simp only [ae.imp] at hi <;> try (simp at hi;done)
    obtain rfl:=aV hi
    have hv:v=.bool _:=hc.1
    subst hv
    exact vr h hc.2 hb fun Z=>by simp only [ae.al]
 | .str,b,m,cs,s,bn,r,vs,Z,hi,h,hc,hb=>by
  cases cs with
  | nil=>cases m <;> simp [ae.imp] at hi
  | cons c cs =>
   cases vs with
   | nil=>exact hc.elim
   | cons v vs =>
    cases c <;> simp only [ae.imp] at hi <;> try (simp at hi;done)
    obtain rfl:=aV hi
    obtain ⟨q,rfl,hq⟩:=hc.1
    exact vr h hc.2 hb fun Z=>by simp only [ae.al];exact⟨q,rfl,hq⟩
 | .raw,b,m,cs,s,bn,r,vs,Z,hi,h,hc,hb=>by
  cases cs with
  | nil=>cases m <;> simp [ae.imp] at hi
  | cons c cs =>
   cases vs with
   | nil=>exact hc.elim
   | cons v vs =>
    cases c <;> simp only [ae.imp] at hi <;> try (simp at hi;done)
    obtain rfl:=aV hi
    obtain ⟨q,hq⟩:=hc.1
    exact vr h hc.2 hb fun Z=>by simp only [ae.al];exact⟨by rw [q],hq⟩
 | .sl t,b,m,cs,s,bn,r,vs,Z,hi,h,hc,hb=>by
  cases cs with
  | nil=>cases m <;> cases b <;> simp [ae.imp] at hi
  | cons c cs =>
   cases vs with
   | nil=>exact hc.elim
   | cons v vs =>
    exact XE t b m c cs s bn r v vs Z hi h hc hb
 | .st aj,b,m,cs,s,bn,r,vs,Z,hi,h,hc,hb=>by
  simp only [ae.imp] at hi
  have:=ay.k5 aj b m.parts cs s bn r vs Z hi h hc hb
  simpa only [ae.al] using this
theorem ay.k5:∀(aj:ay) (b:Bool) (m:cS) (cs:List a8) (s:aq) (bn:List (Nat×Nat)) (r:aj.D×List a8×aq×List (Nat×Nat)) (vs:List Value) (Z:ah),
  aj.imp b m cs s bn=some r→Inv w0 F0 Z0 n s a w ι Z→bG w Z s ι cs vs→(∀d,d∈bn→ek s d) →
  xK w0 F0 Z0 n s a w ι Z b (fun Z us F=>aj.al w Z m r.1 us F) vs r.2.1 r.2.2.1 bn r.2.2.2
 | .nil,b,m,cs,s,bn,r,vs,Z,hi,h,hc,hb=>by
  simp only [ay.imp] at hi
  obtain rfl:=aV hi
  exact⟨[],vs,ah.none,Z,rfl,h,.refl,hc,.none,by simp only [ay.al],⟨[],rfl⟩,fun _=>rfl,hb,fun _ _ h=>h.elim⟩
 | .cons t aj,b,m,cs,s,bn,r,vs,Z,hi,h,hc,hb=>by
  simp only [ay.imp] at hi
  obtain ⟨bB,h1,hi⟩:=bf hi
  obtain ⟨cc,h2,hi⟩:=bf hi
  obtain rfl:=aV hi
  obtain ⟨us,vs1,F,cp,e1,i1,s1,c1,f1,ed,⟨XG,fF⟩,iF,d1,g1⟩:=ae.k5 t b m.ag cs s bn bB vs Z h1 h hc hb
  obtain ⟨us2,vs2,G,bK,e2,i2,s2,gf,f2,d_,⟨Hd,lN⟩,pV,d2,g2⟩:=ay.k5 aj b m.dt bB.2.1 bB.2.2.1 bB.2.2.2 cc vs1 cp h2 i1 c1 d1
  have kv:ah.sub (cp.or (db ι bB.2.2.2)) (bK.or (db ι cc.2.2.2)):=by
   rintro b o (hz | hz)
   ·exact .inl (s2.dz b o hz)
   ·rw [lN];exact .inr (G' _ _ _ b o hz)
  refine⟨us++us2,vs2,F.or G,bK,by rw [e1,e2,List.append_assoc],i2,s1.trans s2,gf,(f1.shrink s2).or f2,?rep,⟨Hd++XG,by rw [lN,fF,List.append_assoc]⟩,fun hf=>by rw [pV hf,iF hf],d2,?src⟩
  case src =>
   rintro b o (hf | hf)
   ·exact g1 b o hf
   ·obtain ⟨id,hl,hi⟩:=g2 b o hf;exact⟨id,(s1.live hl).1,hi⟩
  simp only [ay.al]
  refine⟨us,us2,F,G,rfl,ae.al.mono kv _ _ (fun _ _ h=>h) ed,d_,?_,fun _ _ h=>.inl h,fun _ _ h=>.inr h⟩
  intro b o h1 h2
  obtain ⟨id,hl,hi⟩:=g2 b o h2
  exact f1.apart id hl b o h1 hi
end
end
end Go.LM
namespace Go.LM
theorem Row.get{α : Type}{w:World}{R : α → List Value→ah→Prop}{size:Nat} : ∀ {x:List α} {b o:Nat} {F:ah} (i:Nat) (hi:i<x.length),Row w R size x b o F →
  ∃vs G,R x[i] vs G∧vs.length=size∧b4 w b (o+i*size) vs∧ah.sub G F
 | y :: x,b,o,F,0,_,⟨vs,G,H,h1,h2,h3,h4,a7,bj,bE⟩=>⟨vs,G,h1,h2,by simpa using h3,bj⟩
 | y :: x,b,o,F,i+1,hi,⟨vs,G,H,h1,h2,h3,h4,a7,bj,bE⟩=>by
  obtain ⟨us,dh,k1,k2,k3,bh⟩:=Row.get i (by simpa using hi) h4
  refine⟨us,dh,k1,k2,?_,fun b o h=>bE b o (bh b o h)⟩
  rwa [show o +(i+1)*size=o+size+i*size by rw [Nat.add_one_mul];omega]
theorem Row.set{α : Type}{w w':World}{R iB : α → List Value→ah→Prop}{size:Nat}{bz : α}{F1:ah} : ∀ {x:List α} {b o:Nat} {F:ah} (i:Nat) (hi:i<x.length),Row w R size x b o F →
  (∀y vs G,ah.sub G F→R y vs G→iB y vs G) →
  (∀j,j<x.length*size→(j<i*size∨(i+1)*size≤j)→w'.cell? (at_ b (o+j))=w.cell? (at_ b (o+j))) →
  (∀vs G,R x[i] vs G→vs.length=size→b4 w b (o+i*size) vs→ah.sub G F→∃bD,bD.length=size∧b4 w' b (o+i*size) bD∧iB bz bD (G.or F1)) →
  ah.apart F1 F→Row w' iB size (x.set i bz) b o (F.or F1)
 | y :: x,b,o,F,0,_,⟨vs,G,H,h1,h2,h3,h4,a7,bj,bE⟩,dG,hc,hn,ha=>by
  obtain ⟨bD,k1,k2,k3⟩:=hn vs G h1 h2 (by simpa using h3) bj
  refine⟨bD,G.or F1,H,k3,k1,by simpa using k2,?_,?_,?_,fun b o h=>.inl (bE b o h)⟩
  ·refine Row.imp h4 (fun y vs dh hG=>dG y vs dh fun b o h=>bE b o (hG b o h)) fun j hj=>?_
   have:=hc (size+j) (by rw [List.length_cons,Nat.add_one_mul];omega) (.inr (by simp))
   rwa [← Nat.add_assoc] at this
  ·rintro b o (h | h) hh
   ·exact a7 b o h hh
   ·exact ha b o h (bE b o hh)
  ·rintro b o (h | h)
   ·exact .inl (bj b o h)
   ·exact .inr h
 | y :: x,b,o,F,i+1,hi,⟨vs,G,H,h1,h2,h3,h4,a7,bj,bE⟩,dG,hc,hn,ha=>by
  refine⟨vs,G,H.or F1,dG _ _ _ bj h1,h2,?_,?_,?_,fun b o h=>.inl (bj b o h),?_⟩
  ·refine h3.of_eq fun k hk=>hc k ?_ (.inl ?_)
   ·rw [List.length_cons,Nat.add_one_mul];omega
   ·rw [Nat.add_one_mul];omega
  ·refine Row.set i (by simpa using hi) h4 (fun y vs dh hG=>dG y vs dh fun b o h=>bE b o (hG b o h)) ?_ ?_ (fun b o h k=>ha b o h (bE b o k))
   ·intro j hj He
    have:=hc (size+j) (by rw [List.length_cons,Nat.add_one_mul];omega) (by
     rcases He with h | h
     ·left;rw [Nat.add_one_mul];omega
     ·right;rw [Nat.add_one_mul];omega)
    rwa [← Nat.add_assoc] at this
   ·intro bD dh k1 k2 k3 bh
    have:=hn bD dh k1 k2 (by rwa [show o +(i+1)*size=o+size+i*size by rw [Nat.add_one_mul];omega]) (fun b o h=>bE b o (bh b o h))
    rwa [show o +(i+1)*size=o+size+i*size by rw [Nat.add_one_mul];omega] at this
  ·rintro b o h (hh | hh)
   ·exact a7 b o h hh
   ·exact ha b o hh (bj b o h)
  ·rintro b o (h | h)
   ·exact .inl (bE b o h)
   ·exact .inr h
section
variable{w0:World}{F0 Z0:ah}{n:cB}{s ar:aq}{a b6:Act}{w w':World}{ι bd:Nat→bC}{Z Z':ah}
def lO(w:World)(s:aq)(ι : Nat→bC)(dp:List (Nat×Nat))(cr:Option Place)(vs:List Value):Prop :=
 ∀k v,vs[k]?=some v→q7 w s ι dp (cr.map fun p => { p with off:=p.off+k }) v
theorem lO.none{dp:List (Nat×Nat)}{vs:List Value} : lO w s ι dp none vs:=fun _ _ _=>.none
theorem lO.head{dp:List (Nat×Nat)}{cr:Option Place}{v:Value}{vs:List Value}(h:lO w s ι dp cr (v :: vs)):q7 w s ι dp cr v:=by
 have:=h 0 v rfl
 cases cr with
 | none=>exact .none
 | some p=>simpa using this
theorem lO.left{dp:List (Nat×Nat)}{cr:Option Place}{us vs:List Value}(h:lO w s ι dp cr (us++vs)):lO w s ι dp cr us:=fun k v hv=>h k v (by
 rw [List.getElem?_append_left (List.getElem?_eq_some_iff.1 hv).1];exact hv)
theorem lO.right{dp:List (Nat×Nat)}{cr:Option Place}{us vs:List Value}(h:lO w s ι dp cr (us++vs)):lO w s ι dp (cr.map fun p => { p with off:=p.off+us.length }) vs:=fun k v hv=>by
 have:=h (us.length+k) v (by rw [List.getElem?_append_right (by omega)];simpa using hv)
 cases cr with
 | none=>exact .none
 | some p=>simpa [Nat.add_assoc] using this
mutual
theorem ae.pW:∀(t:ae) (dp:List (Nat×Nat)) (cr:Option Place) {x:t.D} {vs:List Value},(∀d,d∈dp→ek s d) →
  (alive s dp=true→t.al w (Z.or (db ι dp)) .R x vs ah.none)→(∃m Z' F',t.al w Z' m x vs F')→lO w s ι dp cr vs→bG w Z s ι (t.cells dp cr x) vs
 | .int k,dp,cr,x,vs,ag,h,⟨m,Z',F',h'⟩,lP=>by simp only [ae.al] at h';subst h';exact⟨rfl,trivial⟩
 | .bool,dp,cr,x,vs,ag,h,⟨m,Z',F',h'⟩,lP=>by simp only [ae.al] at h';subst h';exact⟨rfl,trivial⟩
 | .str,dp,cr,x,vs,ag,h,⟨m,Z',F',h'⟩,lP=>by simp only [ae.al] at h';obtain ⟨q,rfl,hq⟩:=h';exact⟨⟨q,rfl,hq⟩,trivial⟩
 | .raw,dp,cr,x,vs,ag,h,⟨m,Z',F',h'⟩,lP=>by simp only [ae.al] at h';obtain ⟨rfl,hq⟩:=h';exact⟨⟨rfl,hq⟩,trivial⟩
 | .sl t,dp,cr,x,vs,ag,h,⟨m,Z',F',h'⟩,lP=>by
  have hv:∃A c,vs=[.slice A x.length c]:=by
   cases m <;>(simp only [ae.al] at h';obtain ⟨A,c,hv,_⟩:=h';exact⟨A,c,hv⟩)
  obtain ⟨A,c,rfl⟩:=hv
  exact⟨⟨ag,⟨A,_,c,rfl⟩,h,lP.head⟩,trivial⟩
 | .st aj,dp,cr,x,vs,ag,h,⟨m,Z',F',h'⟩,lP=>by
  simp only [ae.al] at h h'
  simp only [ae.cells]
  exact ay.pW aj dp cr ag h ⟨_,_,_,h'⟩ lP
theorem ay.pW:∀(aj:ay) (dp:List (Nat×Nat)) (cr:Option Place) {x:aj.D} {vs:List Value},(∀d,d∈dp→ek s d) →
  (alive s dp=true→aj.al w (Z.or (db ι dp)) (ba.parts .R) x vs ah.none)→(∃m Z' F',aj.al w Z' m x vs F')→lO w s ι dp cr vs→bG w Z s ι (aj.cells dp cr x) vs
 | .nil,dp,cr,x,vs,ag,h,⟨m,Z',F',h'⟩,lP=>by simp only [ay.al] at h';subst h';trivial
 | .cons t aj,dp,cr,x,vs,ag,h,⟨m,Z',F',h'⟩,lP=>by
  simp only [ay.al] at h h'
  obtain ⟨us,bD,G,H,rfl,h2,h3,_⟩:=h'
  have hlen:=(ae.al.len t _ h2).1
  simp only [ay.cells]
  refine bG.append (ae.pW t dp cr ag (fun ha=>?_) ⟨_,_,_,h2⟩ lP.left) (ay.pW aj dp _ ag (fun ha=>?_) ⟨_,_,_,h3⟩ (hlen ▸ lP.right))
  ·obtain ⟨aT,XH,dh,fG,e,k2,k3,bh,bu,dd⟩:=h ha
   have:=(ae.al.len t _ k2).1
   obtain ⟨rfl,rfl⟩:=List.append_inj e (by omega)
   exact ae.al.mono (fun _ _ h=>h) _ _ bu k2
  ·obtain ⟨aT,XH,dh,fG,e,k2,k3,bh,bu,dd⟩:=h ha
   have:=(ae.al.len t _ k2).1
   obtain ⟨rfl,rfl⟩:=List.append_inj e (by omega)
   exact ay.al.mono (fun _ _ h=>h) _ _ dd k3
end
theorem oL{off k:Nat}{cs ds:List a8}(h:takeN off k cs=some ds):off+k≤cs.length∧ds=(cs.drop off).take k:=by
 unfold takeN at h
 cases hb:Nat.ble (off+k) cs.length
 ·rw [hb] at h;simp at h
 ·rw [hb] at h;exact⟨Nat.le_of_ble_eq_true hb,(aV h).symm⟩
theorem c7{t:ae}{xs:List t.D}{i:Nat}(hi:i<xs.length):J t xs i=xs[i]:=by simp [J,hi]
theorem Oi(h:Inv w0 F0 Z0 n s a w ι Z){id:Nat}{t:ae}{em:ba}{ver:Nat}{xs:List t.D}(ho:s.o id=.row t em ver xs){i:Nat}(hi:i<xs.length) :
  ∃a0 vs,(ι id).base=some a0∧a0.spot=none∧bG w Z s ι (GL t em id ver i (J t xs i)) vs∧b4 w a0.block (a0.off+i*t.size) vs∧vs.length=t.size:=by
 have cX:=h.fC id
 rw [ho] at cX
 rcases cX with⟨rfl,_⟩ | ⟨a0,hb,hr⟩
 ·simp at hi
 ·obtain ⟨G,g1,g2,g3⟩:=hr.row
  obtain ⟨vs,dh,k1,k2,k3,bh⟩:=g1.get i hi
  refine⟨a0,vs,hb,hr.spot,?_,k3,k2⟩
  rw [c7 hi]
  have key:∀dp cr,(∀d,d∈dp→ek s d)→(em=.R∨(id,ver)∈dp)→lO w s ι dp cr vs→bG w Z s ι (t.cells dp cr xs[i]) vs:=by
   intro dp cr ag sS lP
   refine ae.pW t dp cr ag (fun ha=>?_) ⟨_,_,_,k1⟩ lP
   rcases sS with rfl | hm
   ·exact ae.al.mono (fun _ _ h=>.inl h) _ _ (fun _ _ h=>h) (ae.al.read (Z:=Z) (Z':=Z) (F:=ah.none) (fun _ _ h=>h) t .R (fun _ _ h=>h.elim) (by
     have:=k1
     exact q6 this))
   ·exact ae.al.read (fun _ _ h=>.inl h) t em (fun b o aA=>.inr ⟨_,hm,g3 b o (bh b o aA)⟩) k1
  unfold GL
  split
  ·exact key [] _ (by simp) (.inl rfl) .none
  ·refine key _ _ ?_ (.inr (by simp)) ?_
   case refine_2 =>
    intro k v hv p au
    simp only [Option.map_some,Option.some.injEq] at au
    subst au
    refine⟨⟨(id,ver),by simp,rfl⟩,fun _=>?_⟩
    have hk:k<t.size:=by rw [← k2];exact(List.getElem?_eq_some_iff.1 hv).1
    have Hf:(i+1)*t.size≤(ι id).cap*t.size:=Nat.mul_le_mul_right _ (by have:=hr.cap;omega)
    rw [Nat.add_one_mul] at Hf
    refine⟨a0.block,a0.off+i*t.size+k,⟨rfl,?_⟩,k3 k v hv,?_⟩
    ·show match (s.o id).core with | .var _ _=>_ | .row t _ _ xs=>_ | _=>_
     rw [ho]
     exact⟨i,rfl,hi,a0,hb,by simp⟩
    ·have:=hr.inF (i*t.size+k) (by omega)
     rwa [← Nat.add_assoc] at this
   intro d ag
   simp at ag
   subst ag
   exact⟨by simp [known,ho],.inr (by simp [j7,ho])⟩
theorem xL(h:Inv w0 F0 Z0 n s a w ι Z){k:Nat}{p:Place}{cs:List a8}{A:Addr}(hr:lK s k p=some cs)(au:iV s ι p A) :
  ∃b o vs,A=at_ b o∧bG w Z s ι cs vs∧b4 w b o vs∧vs.length=k:=by
 obtain ⟨hs,au⟩:=au
 unfold lK at hr
 cases ho:s.o p.id with
 | var ver old =>
  rw [ho] at hr au
  obtain ⟨he,a0,hb,rfl⟩:=au
  rw [he] at hr
  obtain ⟨h1,rfl⟩:=oL hr
  have cX:=h.fC p.id
  rw [ho] at cX
  obtain ⟨vq,vs,dA,hsp,hc,cl,_⟩:=cX
  rw [hb] at dA
  obtain rfl:=aV dA
  refine⟨_,_,(vs.drop p.off).take k,rfl,(hc.drop _).take _,cl.part _ _,?_⟩
  have:=hc.len
  simp;omega
 | row t em ver xs =>
  rw [ho] at hr au
  obtain ⟨i,he,hi,a0,hb,rfl⟩:=au
  rw [he] at hr
  obtain ⟨h1,rfl⟩:=oL hr
  obtain ⟨vq,vs,dA,hsp,hc,cl,hl⟩:=Oi h ho hi
  rw [hb] at dA
  obtain rfl:=aV dA
  refine⟨_,_,(vs.drop p.off).take k,rfl,(hc.drop _).take _,?_,?_⟩
  ·have:=cl.part p.off k
   exact this
  ·have:=hc.len
   simp;omega
 | none=>rw [ho] at hr;simp at hr
 | dead=>rw [ho] at hr;simp at hr
 | b_=>rw [ho] at hr;simp at hr
theorem XI{id:Nat}(b3:s.o id=.none)(o:ck)(i:bC):eD w Z s ι w Z (s.bN id o) (bQ ι id i):=by
 refine⟨fun j=>?_,fun _ _ h=>h,b5.refl _ _⟩
 show iD (s.o j) (ι j) (bQ s.o id o j) (bQ ι id i j)
 by_cases hj:id=j
 ·subst hj;rw [b3];exact .made _ _ _
 ·rw [cO hj,cO hj];exact .stay _ _
theorem Inv.AQ(h:Inv w0 F0 Z0 n s a w ι Z){id:Nat}(b3:s.o id=.none){o:ck}{i:bC}
  (cK:hJ w Z (s.bN id o) (bQ ι id i) i o) (hF:bF w0 F0 s w ι Z i.F):Inv w0 F0 Z0 n (s.bN id o) a w (bQ ι id i) Z:=by
 have hm:=XI (w:=w) (Z:=Z) (ι := ι) b3 o i
 refine h.next hm (Ext.refl _ ah.none) (fun _ _ h=>h.elim) (fun _ _ h=>.inl h) ?_ ?_ (fun k=>(h.tmps k).move hm) h.size h.defers
 ·intro j hl hne
  by_cases hj:id=j
  ·subst hj
   rw [cw]
   refine⟨by show hJ _ _ _ _ _ (bQ s.o id o id);rw [cw];exact cK,hF.own,fun ku fT jo=>?_⟩
   rw [cO jo]
   have dO:(s.o ku).live:=by
    have:(bQ s.o id _ ku).live:=fT
    rwa [cO jo] at this
   exact hF.apart ku dO
  ·exact absurd ⟨cO hj,cO hj⟩ hne
 ·intro j hl
  by_cases hj:id=j
  ·subst hj;rw [cw];exact hF.c0
  ·rw [cO hj]
   have dO:(s.o j).live:=by
    have:(bQ s.o id _ j).live:=hl
    rwa [cO hj] at this
   exact h.c0 j dO
structure k6(s:aq)(ι : Nat→bC)(ar:aq)(bd:Nat→bC):Prop where
 o:∀id,s.o id≠.none→ar.o id=s.o id ∧ bd id = ι id
 t:ar.t=s.t
 g:ar.g=s.g
 nl:∀id o',s.o id=.none→ar.o id≠.b_ o'
theorem k6.refl:k6 s ι s ι :=⟨fun _ _=>⟨rfl,rfl⟩,rfl,rfl,fun _ _ h=>by rw [h];simp⟩
theorem k6.trans{s2:aq}{ep:Nat→bC}(h:k6 s ι ar bd)(k:k6 ar bd s2 ep):k6 s ι s2 ep :=
 ⟨fun id hn=>by have h1:=h.o id hn;have h2:=k.o id (by rw [h1.1];exact hn);exact⟨h2.1.trans h1.1,h2.2.trans h1.2⟩,k.t.trans h.t,k.g.trans h.g,fun id o' hn=>by
  by_cases hm:ar.o id=.none
  ·exact k.nl id o' hm
  ·rw [(k.o id hm).1];exact h.nl id o' hn⟩
theorem k6.ec(h:k6 s ι ar bd):eD w Z s ι w Z ar bd:=by
 refine⟨fun id=>?_,fun _ _ h=>h,b5.refl _ _⟩
 by_cases hn:s.o id=.none
 ·rw [hn];exact .made _ _ _
 ·rw [(h.o id hn).1,(h.o id hn).2];exact .stay _ _
theorem XJ{id:Nat}(b3:s.o id=.none)(o:ck)(i:bC)(hnl:∀o',o≠.b_ o'):k6 s ι (s.bN id o) (bQ ι id i):=by
 refine⟨fun j hn=>?_,rfl,rfl,fun j o' hn=>?_⟩
 ·have hj:id≠j:=fun e=>hn (e ▸ b3)
  exact⟨cO hj,cO hj⟩
 ·show bQ s.o id o j≠_
  by_cases hj:id=j
  ·subst hj;rw [cw];exact hnl o'
  ·rw [cO hj,hn];simp
def Hg(w0:World)(F0 Z0:ah)(n:cB)(s:aq)(a:Act)(w:World)(ι : Nat→bC)(Z:ah)(vs:List Value)(F:ah)(cs:List a8)(ar:aq):Prop :=
 ∃ bd,Inv w0 F0 Z0 n ar a w bd Z∧k6 s ι ar bd∧bG w Z ar bd cs vs∧∀G,bF w0 F0 s w ι Z G→ah.apart G F→bF w0 F0 ar w bd Z G
theorem sU(h:Inv w0 F0 Z0 n s a w ι Z){vs:List Value}{F:ah}{cs:List a8}(hc:bG w Z s ι cs vs):Hg w0 F0 Z0 n s a w ι Z vs F cs s :=
 ⟨ι,h,.refl,hc,fun _ hG _=>hG⟩
mutual
theorem ae.nO:∀(t:ae) (m:ba) (dp:List (Nat×Nat)) (x:t.D) (s:aq) (ι : Nat→bC) (j:Nat) (r:List a8×aq×Nat) (vs:List Value) (F:ah),
  t.gW m dp x s j=some r→Inv w0 F0 Z0 n s a w ι Z→t.al w (Z.or (db ι dp)) m x vs F→bF w0 F0 s w ι Z F→ah.apart F (db ι dp)→(∀d,d∈dp→ek s d) →
  Hg w0 F0 Z0 n s a w ι Z vs F r.1 r.2.1
 | .int k,m,dp,x,s,ι,j,r,vs,F,he,h,hr,hf,mI,ag=>by
  simp only [ae.gW] at he;obtain rfl:=aV he
  simp only [ae.al] at hr;subst hr;exact sU h ⟨rfl,trivial⟩
 | .bool,m,dp,x,s,ι,j,r,vs,F,he,h,hr,hf,mI,ag=>by
  simp only [ae.gW] at he;obtain rfl:=aV he
  simp only [ae.al] at hr;subst hr;exact sU h ⟨rfl,trivial⟩
 | .str,m,dp,x,s,ι,j,r,vs,F,he,h,hr,hf,mI,ag=>by
  simp only [ae.gW] at he;obtain rfl:=aV he
  simp only [ae.al] at hr;obtain ⟨q,rfl,hq⟩:=hr;exact sU h ⟨⟨q,rfl,hq⟩,trivial⟩
 | .raw,m,dp,x,s,ι,j,r,vs,F,he,h,hr,hf,mI,ag=>by
  simp only [ae.gW] at he;obtain rfl:=aV he
  simp only [ae.al] at hr;obtain ⟨rfl,hq⟩:=hr;exact sU h ⟨⟨rfl,hq⟩,trivial⟩
 | .sl t,.R,dp,x,s,ι,j,r,vs,F,he,h,hr,hf,mI,ag=>by
  simp only [ae.gW] at he;obtain rfl:=aV he
  have ib:=hr
  simp only [ae.al] at hr;obtain ⟨A,c,rfl,_⟩:=hr
  exact sU h ⟨⟨ag,⟨A,_,c,rfl⟩,fun _=>q6 ib,.none⟩,trivial⟩
 | .sl t,.S ms,dp,x,s,ι,j,r,vs,F,he,h,hr,hf,mI,ag=>by
  simp only [ae.gW] at he;obtain rfl:=aV he
  have ib:(ae.sl t).al w (Z.or (db ι dp)) .R x vs F:=by simp only [ae.al] at hr ⊢;exact hr
  simp only [ae.al] at hr;obtain ⟨A,c,rfl,_⟩:=hr
  exact sU h ⟨⟨ag,⟨A,_,c,rfl⟩,fun _=>q6 ib,.none⟩,trivial⟩
 | .sl t,.O e,dp,x,s,ι,j,r,vs,F,he,h,hr,hf,mI,ag=>by
  simp only [ae.gW] at he
  cases hq:(dp.isEmpty||ba.beq e t.own)
  ·rw [hq] at he;simp at he
  rw [hq] at he
  cases ho:s.o j with
  | none =>
   rw [ho] at he
   obtain rfl:=aV he
   have gq:(ae.sl t).al w Z (.O e) x vs F:=by
    cases mJ:dp with
    | nil=>subst mJ;exact ae.al.mono (fun b o hz=>hz.elim (fun h=>h) fun⟨d,ag,_⟩=>by simp at ag) _ _ (fun _ _ h=>h) hr
    | cons d akn =>
     subst mJ
     have he:e=t.own:=ba.eq_of_beq _ _ (by simpa using hq)
     subst he
     exact sQ (.sl t) hr
   simp only [ae.al] at gq
   obtain ⟨A,c,rfl,gq⟩:=gq
   let i:bC:=⟨A,c,F⟩
   have cK:hJ w Z (s.bN j (.row t e 0 x)) (bQ ι j i) i (.row t e 0 x):=by
    rcases gq with gq | ⟨a0,hA,gq⟩
    ·exact .inl gq
    ·exact .inr ⟨a0,hA,gq⟩
   refine⟨bQ ι j i,h.AQ ho cK hf,XJ ho _ _ (fun o'=>by simp),⟨⟨?_,A,_,c,rfl,?_⟩,trivial⟩,?_⟩
   ·show bQ s.o j _ j≠_
    rw [cw];simp
   ·intro c8 em ver xs hh
    have this:(bQ s.o j (ck.row t e 0 x) j).core=.row c8 em ver xs:=hh
    rw [cw] at this
    have this:ck.row t e 0 x=.row c8 em ver xs:=this
    injection this with h1 h2 h3 h4
    subst h1
    obtain rfl:=eq_of_heq h4
    rw [cw]
    refine⟨rfl,by simp [eb],?_,by simp [eb,i],?_⟩
    ·rcases gq with⟨hx,hc⟩ | ⟨a0,hA,gq⟩
     ·subst hx;simp
     ·exact gq.cap
    ·rcases gq with⟨hx,hc⟩ | ⟨a0,hA,gq⟩
     ·exact .inl hc
     ·refine .inr ⟨a0,hA,?_⟩
      rw [hA]
      have:=gq.spot
      obtain ⟨pX,off,sp⟩:=a0
      subst this
      simp [eb,at_]
   ·intro G hG hGF
    refine⟨hG.own,fun id hl=>?_,hG.c0⟩
    by_cases hj:j=id
    ·subst hj;rw [cw];exact hGF
    ·rw [cO hj]
     exact hG.apart id (by have:(bQ s.o j _ id).live:=hl;rwa [cO hj] at this)
  | _=>rw [ho] at he;simp at he
 | .st aj,m,dp,x,s,ι,j,r,vs,F,he,h,hr,hf,mI,ag=>by
  simp only [ae.gW] at he;simp only [ae.al] at hr
  exact ay.nO aj m.parts dp x s ι j r vs F he h hr hf mI ag
theorem ay.nO:∀(aj:ay) (m:cS) (dp:List (Nat×Nat)) (x:aj.D) (s:aq) (ι : Nat→bC) (j:Nat) (r:List a8×aq×Nat) (vs:List Value) (F:ah),
  aj.gW m dp x s j=some r→Inv w0 F0 Z0 n s a w ι Z→aj.al w (Z.or (db ι dp)) m x vs F→bF w0 F0 s w ι Z F→ah.apart F (db ι dp)→(∀d,d∈dp→ek s d) →
  Hg w0 F0 Z0 n s a w ι Z vs F r.1 r.2.1
 | .nil,m,dp,x,s,ι,j,r,vs,F,he,h,hr,hf,mI,ag=>by
  simp only [ay.gW] at he;obtain rfl:=aV he
  simp only [ay.al] at hr;subst hr;exact sU h trivial
 | .cons t aj,m,dp,x,s,ι,j,r,vs,F,he,h,hr,hf,mI,ag=>by
  simp only [ay.gW] at he
  obtain ⟨bB,h1,he⟩:=bf he
  obtain ⟨cc,h2,he⟩:=bf he
  obtain rfl:=aV he
  simp only [ay.al] at hr
  obtain ⟨us,bD,G,H,rfl,ed,d_,fU,jq,mK⟩:=hr
  have XK:bF w0 F0 s w ι Z G:=⟨fun b o aA=>hf.own b o (jq b o aA),fun id hl b o aA=>hf.apart id hl b o (jq b o aA),fun b o aA=>hf.c0 b o (jq b o aA)⟩
  have XL:bF w0 F0 s w ι Z H:=⟨fun b o aA=>hf.own b o (mK b o aA),fun id hl b o aA=>hf.apart id hl b o (mK b o aA),fun b o aA=>hf.c0 b o (mK b o aA)⟩
  obtain ⟨dv,i1,g1,c1,f1⟩:=ae.nO t m.ag dp x.1 s ι j bB us G h1 h ed XK (fun b o aA=>mI b o (jq b o aA)) ag
  have Oj:∀d,d∈dp→s.o d.1≠.none:=fun d hK=>(ag d hK).1
  have Ok:∀b o,db ι dp b o↔db dv dp b o:=by
   intro b o
   constructor
   ·rintro ⟨d,hK,hx⟩;exact⟨d,hK,by rw [(g1.o d.1 (Oj d hK)).2];exact hx⟩
   ·rintro ⟨d,hK,hx⟩;exact⟨d,hK,by rw [(g1.o d.1 (Oj d hK)).2] at hx;exact hx⟩
  have fV:∀d,d∈dp→ek bB.2.1 d:=by
   intro d hK
   have:=ag d hK
   unfold ek known j7 at *
   rw [(g1.o d.1 this.1).1];exact this
  obtain ⟨ep,i2,g2,gf,f2⟩:=ay.nO aj m.dt dp x.2 bB.2.1 dv bB.2.2 cc bD H h2 i1 (ay.al.mono (fun b o hz=>hz.imp (fun h=>h) (fun h=>(Ok b o).1 h)) _ _ (fun _ _ h=>h) d_)
   (f1 H XL (fun b o k1 k2=>fU b o k2 k1)) (fun b o k1 k2=>mI b o (mK b o k1) ((Ok b o).2 k2)) fV
  refine⟨ep,i2,g1.trans g2,(c1.move g2.ec).append gf,fun dh Hh hGF=>?_⟩
  exact f2 dh (f1 dh Hh fun b o k1 k2=>hGF b o k1 (jq b o k2)) fun b o k1 k2=>hGF b o k1 (mK b o k2)
end
end
end Go.LM
namespace Go.LM
def da{α : Type}(l:List α)(k:Nat)(us:List α):List α := l.take k++us++l.drop (k+us.length)
theorem AR{α : Type}(l:List α)(k:Nat):da l k []=l:=by simp [da]
theorem GB{α : Type}{l us:List α}{k:Nat}(h:k+us.length≤l.length):(da l k us).length=l.length:=by simp [da];omega
theorem XM{α : Type}{A B us:List α}{k:Nat}(h:k+us.length≤A.length):da (A++B) k us=da A k us++B:=by
 unfold da
 rw [List.take_append_of_le_length (by omega),List.drop_append_of_le_length (by omega)]
 simp [List.append_assoc]
theorem Ol{α : Type}{A B us:List α}{k:Nat}(h:A.length≤k):da (A++B) k us=A++da B (k-A.length) us:=by
 unfold da
 obtain ⟨j,rfl⟩:∃j,k=A.length+j:=⟨k-A.length,by omega⟩
 rw [List.take_append,List.take_of_length_le (by omega),Nat.add_sub_cancel_left,show A.length+j+us.length=A.length +(j+us.length) by omega,List.drop_append,List.drop_of_length_le (by omega),Nat.add_sub_cancel_left]
 simp [List.append_assoc]
theorem XN{α : Type}{A B us vs:List α}{k:Nat}(h:k+us.length=A.length):da (A++B) k (us++vs)=da A k us++da B 0 vs:=by
 unfold da
 rw [List.take_append_of_le_length (by omega),List.length_append,show k +(us.length+vs.length)=A.length+vs.length by omega,List.drop_append,List.drop_of_length_le (by omega),Nat.add_sub_cancel_left,h,List.drop_length]
 simp [List.append_assoc]
theorem XO{α : Type}{l us:List α}(h:us.length=l.length):da l 0 us=us:=by
 unfold da;rw [List.take_zero,Nat.zero_add,h,List.drop_length];simp
section
variable{w0:World}{F0 Z0:ah}{n:cB}{s ar:aq}{a b6:Act}{w w':World}{ι bd:Nat→bC}{Z Z':ah}
def Om(w0:World)(F0 Z0:ah)(n:cB)(s:aq)(a:Act)(w:World)(ι : Nat→bC)(Z:ah)(On:List Value→ah→Prop)(R:ah→List Value→ah→Prop)(size skip:Nat)(vs:List Value)
  (cs':List a8) (ar:aq):Prop :=
 ∃us rest F1 Z',vs=us++rest∧Inv w0 F0 Z0 n ar a w ι Z'∧eV s ι Z ar Z'∧bG w Z' ar ι cs' rest∧bF w0 F0 ar w ι Z' F1 ∧
  (∀b o,F1 b o→∃id,(s.o id).live∧(ι id).F b o)∧skip+us.length≤size∧(cs'≠[]→skip+us.length=size) ∧
  ∀old G,On old G→∀id,(ar.o id).live→ah.sub G (ι id).F→R Z' (da old skip us) (G.or F1)
mutual
theorem ae.vt:∀(t:ae) (m:ba) (x:t.D) (skip:Nat) (cs:List a8) (s:aq) (r:t.D×List a8×aq) (vs:List Value) (Z:ah),
  t.put m x skip cs s=some r→skip≤t.size→Inv w0 F0 Z0 n s a w ι Z→bG w Z s ι cs vs →
  Om w0 F0 Z0 n s a w ι Z (fun us F=>t.al w Z m x us F) (fun Z us F=>t.al w Z m r.1 us F) t.size skip vs r.2.1 r.2.2
 | t,m,x,skip,[],s,r,vs,Z,au,oM,h,hc=>by
  have nP:some (x,([]:List a8),s)=some r:=by cases t <;> simpa only [ae.put] using au
  obtain rfl:=aV nP
  cases vs with
  | cons=>exact hc.elim
  | nil =>
   refine⟨[],[],ah.none,Z,rfl,h,.refl,trivial,.none,fun _ _ h=>h.elim,by simpa using oM,fun h=>absurd rfl h,fun _ _ hr _ _ _=>?_⟩
   rw [AR]
   exact ae.al.mono (fun _ _ h=>h) _ _ (fun _ _ h=>.inl h) hr
 | t,m,x,skip,c :: cs,s,r,vs,Z,au,oM,h,hc=>by
  cases hb:(Nat.beq skip 0&&Nat.ble t.size (cs.length+1)) with
  | true =>
   have nP:(t.imp false m (c :: cs) s []).bind (fun r=>some (r.1,r.2.1,r.2.2.1))=some r:=by
    cases t <;>(simp only [ae.put] at au;rw [hb] at au;exact au)
   obtain ⟨q,hq,nP⟩:=bf nP
   obtain rfl:=aV nP
   have dA:skip=0∧t.size≤cs.length+1:=by
    simp only [Bool.and_eq_true] at hb
    exact⟨Nat.eq_of_beq_eq_true hb.1,Nat.le_of_ble_eq_true hb.2⟩
   obtain ⟨rfl,_⟩:=dA
   obtain ⟨us,rest,F,Z',e1,i1,s1,c1,f1,ed,_,iF,_,g1⟩:=ae.k5 t false m (c :: cs) s [] q vs Z hq h hc (by simp)
   have pY:=(ae.al.len t m ed).1
   refine⟨us,rest,F,Z',e1,i1,s1,c1,f1,g1,by omega,fun _=>by omega,fun _ _ hr _ _ _=>?_⟩
   have hlen:=(ae.al.len t m hr).1
   rw [XO (by omega)]
   refine ae.al.mono ?_ _ _ (fun _ _ h=>.inr h) ed
   rintro b o (hz | ⟨d,ag,_⟩)
   ·exact hz
   ·rw [iF rfl] at ag;simp at ag
  | false =>
   cases t with
   | st aj =>
    simp only [ae.put] at au
    rw [hb] at au
    have:=ay.vt aj m.parts x skip (c :: cs) s r vs Z au (by simpa only [ae.size] using oM) h hc
    simpa only [ae.al,ae.size] using this
   | _=>simp only [ae.put] at au;rw [hb] at au;simp at au
theorem ay.vt:∀(aj:ay) (m:cS) (x:aj.D) (skip:Nat) (cs:List a8) (s:aq) (r:aj.D×List a8×aq) (vs:List Value) (Z:ah),
  aj.put m x skip cs s=some r→skip≤aj.size→Inv w0 F0 Z0 n s a w ι Z→bG w Z s ι cs vs →
  Om w0 F0 Z0 n s a w ι Z (fun us F=>aj.al w Z m x us F) (fun Z us F=>aj.al w Z m r.1 us F) aj.size skip vs r.2.1 r.2.2
 | .nil,m,x,skip,cs,s,r,vs,Z,au,oM,h,hc=>by
  simp only [ay.put] at au
  obtain rfl:=aV au
  simp only [ay.size] at oM ⊢
  refine⟨[],vs,ah.none,Z,rfl,h,.refl,hc,.none,fun _ _ h=>h.elim,by simpa using oM,fun _=>by simp;omega,fun _ _ hr _ _ _=>?_⟩
  rw [AR]
  simp only [ay.al] at hr ⊢
  exact hr
 | .cons t aj,m,x,skip,cs,s,r,vs,Z,au,oM,h,hc=>by
  simp only [ay.put] at au
  cases hb:Nat.ble t.size skip with
  | true =>
   rw [hb] at au
   have pZ:=Nat.le_of_ble_eq_true hb
   obtain ⟨q,hq,au⟩:=bf au
   obtain rfl:=aV au
   simp only [ay.size] at oM
   obtain ⟨us,rest,F1,Z',e1,i1,s1,c1,f1,g1,dP,eF,k1⟩:=ay.vt aj m.dt x.2 (skip-t.size) cs s q vs Z hq (by omega) h hc
   refine⟨us,rest,F1,Z',e1,i1,s1,c1,f1,g1,by simp only [ay.size];omega,fun hne=>by have:=eF hne;simp only [ay.size];omega,fun old G hr id hl hG=>?_⟩
   simp only [ay.al] at hr
   obtain ⟨vu,AS,G1,G2,rfl,ed,d_,fU,jq,mK⟩:=hr
   have hl1:=(ae.al.len t _ ed).1
   rw [Ol (by omega),hl1]
   simp only [ay.al]
   refine⟨vu,_,G1,G2.or F1,rfl,ae.al.mono s1.dz _ _ (fun _ _ h=>h) ed,k1 _ _ d_ id hl (fun b o aA=>hG b o (mK b o aA)),?_,fun b o aA=>.inl (jq b o aA),?_⟩
   ·rintro b o aA (hh | hh)
    ·exact fU b o aA hh
    ·exact f1.apart id hl b o hh (hG b o (jq b o aA))
   ·rintro b o (aA | aA)
    ·exact .inl (mK b o aA)
    ·exact .inr aA
  | false =>
   rw [hb] at au
   have cz:skip<t.size:=by
    rcases Nat.lt_or_ge skip t.size with h | h
    ·exact h
    ·rw [Nat.ble_eq_true_of_le h] at hb;simp at hb
   obtain ⟨c6,nQ,au⟩:=bf au
   obtain ⟨eE,hL,au⟩:=bf au
   obtain rfl:=aV au
   obtain ⟨us,rest,F1,cp,e1,i1,s1,c1,f1,g1,dP,eF,k1⟩:=ae.vt t m.ag x.1 skip cs s c6 vs Z nQ (by omega) h hc
   obtain ⟨us2,Oo,dH,bK,e2,i2,s2,gf,f2,g2,nR,oN,k2⟩:=ay.vt aj m.dt x.2 0 c6.2.1 c6.2.2 eE rest cp hL (by omega) i1 c1
   have fE:c6.2.1=[]→us2=[]∧Oo=[]:=by
    intro hcs
    rw [hcs] at c1
    cases rest with
    | nil=>have:=e2;simp at this;exact⟨this.1,this.2⟩
    | cons=>exact c1.elim
   refine⟨us++us2,Oo,F1.or dH,bK,by rw [e1,e2,List.append_assoc],i2,s1.trans s2,gf,(f1.shrink s2).or f2,?_,?_,?_,fun old G hr id hl hG=>?_⟩
   ·rintro b o (hf | hf)
    ·exact g1 b o hf
    ·obtain ⟨id,hl,hi⟩:=g2 b o hf;exact⟨id,(s1.live hl).1,hi⟩
   ·simp only [ay.size,List.length_append]
    by_cases hcs:c6.2.1=[]
    ·rw [(fE hcs).1];simp;omega
    ·have:=eF hcs;omega
   ·intro hne
    simp only [ay.size,List.length_append]
    have h4:=oN hne
    by_cases hcs:c6.2.1=[]
    ·have:eE.2.1=[]:=by
      have h1:=gf.len
      rw [(fE hcs).2] at h1
      exact List.eq_nil_of_length_eq_zero (by simpa using h1.symm)
     exact absurd this hne
    ·have:=eF hcs;omega
   ·simp only [ay.al] at hr
    obtain ⟨vu,AS,G1,G2,rfl,ed,d_,fU,jq,mK⟩:=hr
    have hl1:=(ae.al.len t _ ed).1
    have fT:=(s2.live hl)
    have bB:=k1 _ _ ed id fT.1 (fun b o aA=>hG b o (jq b o aA))
    have cc:=k2 _ _ (ay.al.mono s1.dz _ _ (fun _ _ h=>h) d_) id hl (fun b o aA=>hG b o (mK b o aA))
    have hsp:da (vu++AS) skip (us++us2)=da vu skip us++da AS 0 us2:=by
     by_cases hcs:c6.2.1=[]
     ·rw [(fE hcs).1,List.append_nil,AR,XM (by omega)]
     ·exact XN (by have:=eF hcs;omega)
    rw [hsp]
    simp only [ay.al]
    refine⟨_,_,G1.or F1,G2.or dH,rfl,ae.al.mono s2.dz _ _ (fun _ _ h=>h) bB,cc,?_,?_,?_⟩
    ·rintro b o (aA | aA) (hh | hh)
     ·exact fU b o aA hh
     ·exact f2.apart id hl b o hh (hG b o (jq b o aA))
     ·exact f1.apart id fT.1 b o aA (hG b o (mK b o hh))
     ·obtain ⟨XP,dO,gr⟩:=g2 b o hh
      exact f1.apart XP dO b o aA gr
    ·rintro b o (aA | aA)
     ·exact .inl (jq b o aA)
     ·exact .inr (.inl aA)
    ·rintro b o (aA | aA)
     ·exact .inl (mK b o aA)
     ·exact .inr (.inr aA)
end
theorem bG.da{cs ds:List a8}{us vs:List Value}(h:bG w Z s ι cs us)(k:bG w Z s ι ds vs)(p:Nat) :
  bG w Z s ι (cs.take p++ds++cs.drop (p+ds.length)) (da us p vs):=by
 unfold LM.da
 rw [k.len]
 exact((h.take p).append k).append (h.drop _)
theorem XQ{cs:List a8}{vs:List Value}(h:eV s ι Z ar Z')(hc:bG w Z s ι cs vs):bG w Z' ar ι cs vs:=hc.move h.ec
theorem XR{b o:Nat}{vs:List Value}(hw:∀i,i<vs.length→e' w b (o+i)):b4 (setCells w b o vs) b o vs:=by
 intro i v hv
 have hi:i<vs.length:=by
  rcases Nat.lt_or_ge i vs.length with h | h
  ·exact h
  ·rw [List.getElem?_eq_none h] at hv;simp at hv
 rw [vm b vs w o (fun i hi=>(hw i hi).1),if_pos ⟨rfl,by omega,by omega⟩,Nat.add_sub_cancel_left]
 exact hv
theorem qY{b o k:Nat}{old vs:List Value}(hc:b4 w b o old)(hw:∀i,i<old.length→e' w b (o+i))(hk:k+vs.length≤old.length) :
  b4 (setCells w b (o+k) vs) b o (da old k vs):=by
 have Hi:∀i,i<vs.length→e' w b (o+k+i):=fun i hi=>by have:=hw (k+i) (by omega);rwa [← Nat.add_assoc] at this
 intro i v hv
 have hx:=vm b vs w (o+k) (fun i hi=>(Hi i hi).1) b (o+i)
 rw [hx]
 unfold da at hv
 by_cases h1:i<k
 ·rw [if_neg (by omega)]
  rw [List.append_assoc,List.getElem?_append_left (by simp;omega),List.getElem?_take,if_pos h1] at hv
  exact hc i v hv
 ·by_cases h2:i<k+vs.length
  ·rw [if_pos ⟨rfl,by omega,by omega⟩]
   rw [List.getElem?_append_left (by simp;omega),List.getElem?_append_right (by simp;omega)] at hv
   simp only [List.length_take] at hv
   rw [show o+i-(o+k)=i-min k old.length by omega]
   exact hv
  ·rw [if_neg (by omega)]
   rw [List.getElem?_append_right (by simp;omega)] at hv
   simp only [List.length_append,List.length_take,List.getElem?_drop] at hv
   rw [show k+vs.length +(i-(min k old.length+vs.length))=i by omega] at hv
   exact hc i v hv
theorem XS(h:Inv w0 F0 Z0 n s a w ι Z){p:Place}{cs:List a8}{A:Addr}{vs:List Value}(hr:AJ s p cs=some ar)(au:iV s ι p A)(hc:bG w Z s ι cs vs) :
  ∃b o,A=at_ b o∧(∀i,i<vs.length→e' w b (o+i))∧∃ bd Z',Inv w0 F0 Z0 n ar a (setCells w b o vs) bd Z':=by
 obtain ⟨hs,au⟩:=au
 unfold AJ at hr
 cases ho:s.o p.id with
 | var ver old =>
  rw [ho] at hr au
  obtain ⟨he,a0,hb,rfl⟩:=au
  rw [he] at hr
  have b8:(s.o p.id).live:=by rw [ho];trivial
  simp only at hr
  cases pZ:Nat.ble (p.off+cs.length) old.length
  ·rw [pZ] at hr;simp at hr
  rw [pZ] at hr
  obtain rfl:=aV hr
  have hle:=Nat.le_of_ble_eq_true pZ
  have cX:=h.fC p.id
  rw [ho] at cX
  obtain ⟨vq,us,dA,hsp,hcu,cl,hwr⟩:=cX
  rw [hb] at dA
  obtain rfl:=aV dA
  have pY:=hcu.len
  have hvl:=hc.len
  have hw:∀i,i<vs.length→e' w a0.block (a0.off+p.off+i):=fun i hi=>by
   have:=(hwr (p.off+i) (by omega)).1;rwa [← Nat.add_assoc] at this
  refine⟨_,_,rfl,hw,ι,Z,?_⟩
  have hx:Ext w (setCells w a0.block (a0.off+p.off) vs) (ι p.id).F:=nD _ _ _ _ fun i hi=>by
   have:=(hwr (p.off+i) (by omega)).2;rwa [← Nat.add_assoc] at this
  have hm:eD w Z s ι (setCells w a0.block (a0.off+p.off) vs) Z (s.bN p.id (.var (ver+1) (old.take p.off++cs++old.drop (p.off+cs.length)))) ι := by
   refine⟨fun j=>?_,fun _ _ h=>h,b5.iE hx h.ra ?_⟩
   ·show iD (s.o j) (ι j) (bQ s.o p.id _ j) (ι j)
    by_cases hj:p.id=j
    ·subst hj;rw [cw,ho];exact .var _ _ _ _ _ (by omega) (by simp;omega)
    ·rw [cO hj];exact .stay _ _
   ·rintro b o (hz | ⟨id,hl,hst,_,hf⟩) ic
    ·exact h.c0 p.id b8 b o ic hz
    ·have hne:id≠p.id:=by
      rintro rfl
      have:bQ s.o p.id _ p.id=s.o p.id:=hst
      rw [cw,ho] at this
      injection this with h1 h2
      omega
     exact h.apart id p.id hl b8 hne b o hf ic
  refine h.next hm hx (fun b o hf=>(h.own p.id b8 b o hf).1) (fun _ _ h=>.inl h) ?_ ?_ (fun k=>(h.tmps k).move hm) h.size h.defers
  ·intro j hl hne
   by_cases hj:p.id=j
   ·subst hj
    refine⟨?_,fun b o hf=>⟨(h.own _ b8 b o hf).1,by have:=(h.own _ b8 b o hf).2;exact Nat.lt_of_lt_of_le this hx.size⟩,fun dV fT jo=>?_⟩
    ·show hJ _ _ _ _ _ (bQ s.o p.id _ p.id)
     rw [cw]
     refine⟨a0,da us p.off vs,hb,hsp,(hcu.da hc p.off).move hm,?_,fun j hj=>?_⟩
     ·exact qY cl (fun i hi=>(hwr i (by omega)).1) (by omega)
     ·have:j<old.length:=by simp at hj;omega
      exact⟨hx.pN (hwr j this).1,(hwr j this).2⟩
    ·have dO:(s.o dV).live:=by
      have:(bQ s.o p.id _ dV).live:=fT
      rwa [cO jo] at this
     exact h.apart p.id dV b8 dO jo
   ·exact absurd ⟨cO hj,rfl⟩ hne
  ·intro j hl
   by_cases hj:p.id=j
   ·subst hj;exact h.c0 _ b8
   ·have dO:(s.o j).live:=by
     have:(bQ s.o p.id _ j).live:=hl
     rwa [cO hj] at this
    exact h.c0 j dO
 | row t em ver xs =>
  rw [ho] at hr au
  obtain ⟨i,he,hi,a0,hb,rfl⟩:=au
  rw [he] at hr
  have b8:(s.o p.id).live:=by rw [ho];trivial
  simp only at hr
  cases pZ:Nat.ble (p.off+cs.length) t.size
  ·rw [pZ] at hr;simp at hr
  rw [pZ] at hr
  have pZ:=Nat.le_of_ble_eq_true pZ
  obtain ⟨q,hq,hr⟩:=bf hr
  cases nQ:q.2.1 with
  | cons=>rw [nQ] at hr;simp at hr
  | nil =>
   cases hL:q.2.2.o p.id with
   | none=>rw [nQ,hL] at hr;simp at hr
   | dead=>rw [nQ,hL] at hr;simp at hr
   | b_=>rw [nQ,hL] at hr;simp at hr
   | var=>rw [nQ,hL] at hr;simp at hr
   | row t2 XT XU XV =>
    rw [nQ,hL] at hr
    obtain rfl:=aV hr
    have oM:p.off≤t.size:=by omega
    obtain ⟨us,rest,F1,cp,e1,i1,s1,c1,f1,g1,dP,eF,k1⟩:=ae.vt t em (J t xs i) p.off cs s q vs Z hq oM h hc
    rw [nQ] at c1
    have fE:rest=[]:=by
     cases rest with
     | nil=>rfl
     | cons=>exact c1.elim
    subst fE
    rw [List.append_nil] at e1
    subst e1
    have hl1:(q.2.2.o p.id).live:=by rw [hL];trivial
    have hst:=(s1.live hl1).2
    rw [ho] at hst
    have cX:=h.fC p.id
    rw [ho] at cX
    rcases cX with⟨rfl,_⟩ | ⟨vq,dA,hrow⟩
    ·simp at hi
    rw [hb] at dA
    obtain rfl:=aV dA
    have hin:(i+1)*t.size≤(ι p.id).cap*t.size:=Nat.mul_le_mul_right _ (by have:=hrow.cap;omega)
    have hin':i*t.size+t.size≤(ι p.id).cap*t.size:=by rw [← Nat.add_one_mul];exact hin
    have hw:∀k,k<vs.length→e' w a0.block (a0.off+i*t.size+p.off+k):=fun k hk=>by
     have:=(hrow.wr (i*t.size+p.off+k) (by omega)).1
     rwa [show a0.off +(i*t.size+p.off+k)=a0.off+i*t.size+p.off+k by omega] at this
    have XW:∀k,k<vs.length→(ι p.id).F a0.block (a0.off+i*t.size+p.off+k):=fun k hk=>by
     have:=hrow.inF (i*t.size+p.off+k) (by omega)
     rwa [show a0.off +(i*t.size+p.off+k)=a0.off+i*t.size+p.off+k by omega] at this
    refine⟨_,_,rfl,hw,?_⟩
    let dW:bC:=⟨(ι p.id).base,(ι p.id).cap,(ι p.id).F.or F1⟩
    let o':ck:=.row t em (ver+1) (xs.set i q.1)
    have hx:Ext w (setCells w a0.block (a0.off+i*t.size+p.off) vs) (ι p.id).F:=nD _ _ _ _ XW
    have hm:eD w cp q.2.2 ι (setCells w a0.block (a0.off+i*t.size+p.off) vs) cp (q.2.2.bN p.id o') (bQ ι p.id dW):=by
     refine⟨fun j=>?_,fun _ _ h=>h,b5.iE hx i1.ra ?_⟩
     ·show iD (q.2.2.o j) (ι j) (bQ q.2.2.o p.id o' j) (bQ ι p.id dW j)
      by_cases hj:p.id=j
      ·subst hj;rw [cw,cw,hst];exact .row _ _ _ _ _ _ _ _ _ (by omega) (by simp) rfl rfl
      ·rw [cO hj,cO hj];exact .stay _ _
     ·rintro b o (hz | ⟨id,hl,pU,_,hf⟩) ic
      ·exact i1.c0 p.id hl1 b o ic hz
      ·have hne:id≠p.id:=by
        rintro rfl
        have:bQ q.2.2.o p.id o' p.id=q.2.2.o p.id:=pU
        rw [cw,hst] at this
        injection this with h1 h2 h3
        omega
       exact i1.apart id p.id hl hl1 hne b o hf ic
    have rb:∀ {j},p.id≠j→((q.2.2.bN p.id o').o j).live→(q.2.2.o j).live:=fun hj hl=>by
     have:(bQ q.2.2.o p.id o' _).live:=hl
     rwa [cO hj] at this
    refine⟨_,_,i1.next hm hx (fun b o hf=>(i1.own p.id hl1 b o hf).1) (fun _ _ h=>.inl h) ?_ ?_ (fun k=>(i1.tmps k).move hm) i1.size i1.defers⟩
    ·intro j hl hne
     by_cases hj:p.id=j
     ·subst hj
      rw [cw]
      refine⟨?_,fun b o hf=>?_,fun dV fT jo=>?_⟩
      ·show hJ _ _ _ _ _ (bQ q.2.2.o p.id o' p.id)
       rw [cw]
       refine .inr ⟨a0,hb,hrow.spot,by simpa [o'] using hrow.cap,fun j hj=>hx.j5 (hrow.wr j hj),fun j hj=>.inl (hrow.inF j hj),?_⟩
       obtain ⟨G,bB,cc,gG⟩:=hrow.row
       have Oq:b5 w (setCells w a0.block (a0.off+i*t.size+p.off) vs) G:=by
        intro b o aA
        refine⟨?_,fun _=>XC _ _ _ _ _ _⟩
        rw [vm _ _ _ _ (fun i hi=>(hw i hi).1),if_neg]
        rintro ⟨rfl,h1,h2⟩
        have:=cc (o-a0.off) (by omega)
        rw [show a0.off +(o-a0.off)=o by omega] at this
        exact this aA
       have Ot:b5 w (setCells w a0.block (a0.off+i*t.size+p.off) vs) cp:=hm.same.mono fun b o hz=>.inl hz
       have XX:b5 w (setCells w a0.block (a0.off+i*t.size+p.off) vs) F1:=by
        refine b5.iE hx (fun b o hf=>(f1.own b o hf).2) fun b o hf ic=>f1.apart p.id hl1 b o hf ic
       refine⟨G.or F1,?_,?_,?_⟩
       ·refine Row.set (w:=w) (R:=t.al w Z em) i hi bB (fun y us dh hG aO=>ae.al.same Ot _ _ (Oq.mono hG) (ae.al.mono s1.dz _ _ (fun _ _ h=>h) aO)) ?_ ?_ (fun b o hf aA=>f1.apart p.id hl1 b o hf (gG b o aA))
        ·intro j hj He
         rw [vm _ _ _ _ (fun i hi=>(hw i hi).1),if_neg]
         rintro ⟨_,h1,h2⟩
         rw [Nat.add_one_mul] at He
         omega
        ·intro us dh k2 k3 bh bu
         refine⟨da us p.off vs,by rw [GB (by omega)];exact k3,?_,?_⟩
         ·refine qY bh (fun k hk=>?_) (by omega)
          have:=(hrow.wr (i*t.size+k) (by omega)).1
          rwa [← Nat.add_assoc] at this
         ·have:=k1 us dh (by rw [c7 hi];exact k2) p.id hl1 (fun b o aA=>gG b o (bu b o aA))
          refine ae.al.same Ot _ _ ?_ this
          intro b o aA
          rcases aA with aA | aA
          ·exact Oq b o (bu b o aA)
          ·exact XX b o aA
       ·rintro j hj (aA | aA)
        ·exact cc j hj aA
        ·exact f1.apart p.id hl1 _ _ aA (hrow.inF j hj)
       ·rintro b o (aA | aA)
        ·exact .inl (gG b o aA)
        ·exact .inr aA
      ·rcases hf with hf | hf
       ·exact⟨(i1.own _ hl1 b o hf).1,Nat.lt_of_lt_of_le (i1.own _ hl1 b o hf).2 hx.size⟩
       ·exact⟨(f1.own b o hf).1,Nat.lt_of_lt_of_le (f1.own b o hf).2 hx.size⟩
      ·rw [cO jo]
       have dO:=rb jo fT
       rintro b o (hf | hf) ic
       ·exact i1.apart p.id dV hl1 dO jo b o hf ic
       ·exact f1.apart dV dO b o hf ic
     ·exact absurd ⟨cO hj,cO hj⟩ hne
    ·intro j hl
     by_cases hj:p.id=j
     ·subst hj
      rw [cw]
      rintro b o (hf | hf) hz
      ·exact i1.c0 _ hl1 b o hf hz
      ·exact f1.c0 b o hf hz
     ·rw [cO hj];exact i1.c0 j (rb hj hl)
 | none=>rw [ho] at hr;simp at hr
 | dead=>rw [ho] at hr;simp at hr
 | b_=>rw [ho] at hr;simp at hr
end
end Go.LM
namespace Go.LM
mutual
def ae.cL:ae→List Value
 | .int k=>[.int k 0]
 | .bool=>[.bool false]
 | .str=>[.string ⟨#[]⟩]
 | .raw=>[.slice none 0 0]
 | .sl _=>[.slice none 0 0]
 | .st aj=>aj.cL
def ay.cL:ay→List Value
 | .nil=>[]
 | .cons t aj=>t.cL++aj.cL
end
def dB(t:ae)(vs:List Value):Value :=
 match t with
 | .st _=>.agg vs.toArray
 | _=>vs.headD undef
def k7(P:Program)(id:TypeId)(t:ae):Prop :=
 ∃i,P.info? id=some i∧i.size=t.size∧i.zero=some (dB t t.cL)∧i.bytes≤2048
mutual
def ae.ok(P:Program):ae→TypeId→Prop
 | .int k,id=>P.underlying id=some (.int k)∧k7 P id (.int k)
 | .bool,id=>P.underlying id=some .bool∧k7 P id .bool
 | .str,id=>P.underlying id=some .string∧k7 P id .str
 | .raw,id=>k7 P id .raw∧∃e,P.underlying id=some (.slice e)
 | .sl t,id=>k7 P id (.sl t)∧∃e,P.underlying id=some (.slice e)∧t.ok P e
 | .st aj,id=>k7 P id (.st aj)∧∃cm,P.underlying id=some (.struct cm)∧aj.okF P cm.toList 0
def ay.okF(P:Program):ay→List Field→Nat→Prop
 | .nil,cm,_=>cm=[]
 | .cons t aj,cm,off=>∃f k8,cm=f :: k8∧f.offset=off∧t.ok P f.type∧aj.okF P k8 (off+t.size)
end
def ae.agg:ae→Bool
 | .st _=>true
 | _=>false
theorem ae.ok.info{P:Program}{t:ae}{id:TypeId}(h:t.ok P id):k7 P id t:=by
 cases t <;> simp only [ae.ok] at h <;> first | exact h.2 | exact h.1
theorem ae.k9:∀t:ae,t.cL.length=t.size
 | .int _=>rfl
 | .bool=>rfl
 | .str=>rfl
 | .raw=>rfl
 | .sl _=>rfl
 | .st aj=>by
  simp only [ae.cL,ae.size]
  exact go aj
where
 go:∀aj:ay,aj.cL.length=aj.size
 | .nil=>rfl
 | .cons t aj=>by simp only [ay.cL,ay.size,List.length_append,ae.k9 t,go aj]
section
variable{P:Program}{t:ae}{id:TypeId}{w:World}
theorem run_underlying{d:TypeDesc}(h:P.underlying id=some d):(underlying id).run P w=.ok d w:=by
 simp [underlying,run_bind,program,Sem.run,h,run_pure]
theorem run_typeInfo{i:TypeInfo}(h:P.info? id=some i):(typeInfo id).run P w=.ok i w:=by
 simp [typeInfo,run_bind,program,Sem.run,h,run_pure]
theorem run_sizeOf(h:t.ok P id):(sizeOf id).run P w=.ok t.size w:=by
 obtain ⟨i,h1,h2,_⟩:=h.info
 simp [sizeOf,run_bind,run_typeInfo h1,run_pure,h2]
theorem AT(h:t.ok P id):(zeroValue id).run P w=.ok (dB t t.cL) w:=by
 obtain ⟨i,h1,_,h3,_⟩:=h.info
 simp [zeroValue,run_bind,run_typeInfo h1,run_pure,h3]
theorem Ou(h:t.ok P id):(isAgg id).run P w=.ok t.agg w:=by
 unfold isAgg
 cases t with
 | st aj=>obtain ⟨_,cm,h1,_⟩:=(by simpa only [ae.ok] using h:k7 P id (.st aj)∧∃cm,P.underlying id=some (.struct cm)∧aj.okF P cm.toList 0);rw [run_bind,run_underlying h1];rfl
 | sl t=>obtain ⟨_,e,h1,_⟩:=(by simpa only [ae.ok] using h:k7 P id (.sl t)∧∃e,P.underlying id=some (.slice e)∧t.ok P e);rw [run_bind,run_underlying h1];rfl
 | raw=>obtain ⟨_,e,h1⟩:=(by simpa only [ae.ok] using h:k7 P id .raw∧∃e,P.underlying id=some (.slice e));rw [run_bind,run_underlying h1];rfl
 | int k=>have h1:=(by simpa only [ae.ok] using h:P.underlying id=some (.int k)∧k7 P id (.int k));rw [run_bind,run_underlying h1.1];rfl
 | bool=>have h1:=(by simpa only [ae.ok] using h:P.underlying id=some .bool∧k7 P id .bool);rw [run_bind,run_underlying h1.1];rfl
 | str=>have h1:=(by simpa only [ae.ok] using h:P.underlying id=some .string∧k7 P id .str);rw [run_bind,run_underlying h1.1];rfl
theorem Hj(h:t.agg=false):t.size=1:=by cases t <;> simp_all [ae.agg,ae.size]
theorem Hk(h:t.agg=true)(vs:List Value):dB t vs=.agg vs.toArray:=by cases t <;> simp_all [ae.agg,dB]
theorem Hl(h:t.agg=false)(v:Value):dB t [v]=v:=by cases t <;> simp_all [ae.agg,dB]
theorem Hm(h:t.ok P id){b o:Nat}{vs:List Value}(hc:b4 w b o vs)(hl:vs.length=t.size):(loadVar id (at_ b o)).run P w=.ok (dB t vs) w:=by
 unfold loadVar
 rw [run_bind,Ou h]
 simp only
 cases ha:t.agg
 ·rw [Hj ha] at hl
  match vs,hl with
  | [v],_ =>
   rw [Hl ha]
   simp only [Bool.false_eq_true,if_false]
   exact run_load hc.head
 ·simp only [if_true]
  rw [run_bind,run_sizeOf h,← hl]
  simp only
  rw [run_bind,run_loadCells hc,Hk ha]
  rfl
theorem Hn{v:Value}(h:dY v=true):v.cells = #[v]:=by cases v <;> simp_all [dY,Value.cells]
theorem Ho(h:t.ok P id){b o:Nat}{v:Value}(hl:v.cells.size=t.size)(h1:∀u∈v.cells.toList,dY u=true)(hw:∀i,i<v.cells.size→e' w b (o+i)) :
  (storeVar id (at_ b o) v).run P w=.ok () (setCells w b o v.cells.toList):=by
 unfold storeVar
 rw [run_bind,run_sizeOf h]
 simp only
 rw [if_neg (by simp [hl])]
 have:=Az (P:=P) (b:=b) (o:=o) v.cells.toList w 0 h1 (fun i hi=>by simpa using hw i (by simpa using hi))
 simpa using this
theorem Ov{e:TypeId}{v:Value} :(newVar e v).run P w=.ok (at_ w.heap.size 0) { w with heap:=w.heap.push (.cells v.cells e) } := by
 simp [newVar,newRow,Go.newObj,run_bind,Sem.run,run_pure,at_]
end
section
variable{w0:World}{F0 Z0:ah}{n:cB}{s ar:aq}{a b6:Act}{w w':World}{ι bd:Nat→bC}{Z Z':ah}
theorem re{t:ae}{x:a6}{cs:List a8}{v:Value}(h:iy t x=some cs)(hv:aQ w Z s ι x v):bG w Z s ι cs v.cells.toList:=by
 cases x <;> simp only [iy] at h <;> try (simp at h;done)
 ·obtain rfl:=aV h
  simp only [aQ] at hv
  rw [Hn hv.dY]
  exact⟨hv,trivial⟩
 ·obtain rfl:=aV h
  simp only [aQ] at hv
  obtain ⟨vs,rfl,hc⟩:=hv
  simpa [Value.cells] using hc
 ·cases t <;> simp at h
  subst h
  simp only [aQ] at hv
  subst hv
  exact⟨rfl,trivial⟩
theorem oO{t:ae}{x:a6}{cs:List a8}{vs:List Value}(h:jE t cs=some x)(hc:bG w Z s ι cs vs):aQ w Z s ι x (dB t vs):=by
 cases t with
 | st aj=>simp only [jE] at h;obtain rfl:=aV h;simp only [aQ,dB];exact⟨vs,rfl,hc⟩
 | _ =>
  simp only [jE] at h
  match cs,vs,hc with
  | [],[],_=>simp at h
  | [c],[v],hc=>simp at h;subst h;simp only [aQ,dB];exact hc.1
  | _ :: _ :: _,_,_=>simp at h
theorem rf:∀t:ae,bG w Z s ι t.iU t.cL
 | .int _=>⟨rfl,trivial⟩
 | .bool=>⟨rfl,trivial⟩
 | .str=>⟨⟨_,rfl,rfl⟩,trivial⟩
 | .raw=>⟨⟨rfl,_,_,_,rfl⟩,trivial⟩
 | .sl _=>⟨rfl,trivial⟩
 | .st aj=>by simp only [ae.iU,ae.cL];exact go aj
where
 go:∀aj:ay,bG w Z s ι aj.iU aj.cL
 | .nil=>trivial
 | .cons t aj=>by simp only [ay.iU,ay.cL];exact(rf t).append (go aj)
theorem Hp{t:ae}{vs:List Value}(hl:vs.length=t.size)(h1:∀v∈vs,dY v=true):(dB t vs).cells.toList=vs:=by
 cases ha:t.agg
 ·rw [Hj ha] at hl
  match vs,hl with
  | [v],_=>rw [Hl ha,Hn (h1 v (by simp))]
 ·rw [Hk ha];simp [Value.cells]
theorem Inv.newVar(h:Inv w0 F0 Z0 n s a w ι Z){id:Nat}(b3:s.o id=.none){cs:List a8}{vs:Array Value}(hc:bG w Z s ι cs vs.toList)(e:TypeId) :
  Inv w0 F0 Z0 n (s.bN id (.var 0 cs)) a { w with heap:=w.heap.push (.cells vs e) } (bQ ι id ⟨some (at_ w.heap.size 0),0,ah.run w.heap.size 0 cs.length⟩) Z:=by
 have hx:=Ext.push w (.cells vs e) ah.none
 have hm:=Of h b3 hx (.var 0 cs) ⟨some (at_ w.heap.size 0),0,ah.run w.heap.size 0 cs.length⟩
 have hl:=hc.len
 refine h.new b3 hx ?_ ?_
 ·refine⟨at_ w.heap.size 0,vs.toList,rfl,rfl,hc.move hm,?_,fun j hj=>⟨⟨?_,?_⟩,rfl,by simp [at_],by simpa [at_] using hj⟩⟩
  ·intro i v hv
   show World.cell? _ (at_ w.heap.size (0+i))=_
   rw [Oa];simpa using hv
  ·refine⟨vs[j]'(by simp at hl;omega),?_⟩
   show World.cell? _ (at_ w.heap.size (0+j))=_
   rw [Oa];simp
  ·show World.frozen? _ (at_ w.heap.size (0+j))=_
   rw [pO,N'];simp
 ·rintro b o ⟨rfl,_,_⟩;simp
end
end Go.LM
