/- The data and the interpreter of the reflective walk, and how its states stand for frames and worlds. Conditions: each theorem's own hypotheses. -/
import Derived.Calls
import Derived.KernelRfl
import Derived.Orders
set_option linter.unusedVariables false
set_option linter.unusedSimpArgs false
namespace Go.LM
theorem av.{u,v}{α:Type u}{β:Type v}(a:α)(f:α→Option β):(some a).bind f=f a:=rfl
theorem aU.{u}{α:Type u}{a b:α}(h:some a=some b):a=b:=_root_.Option.some.inj h
theorem bb.{u,v}{α:Type u}{β:Type v}{o:Option α}{f:α→Option β}{b:β}(h:o.bind f=some b):∃a,o=some a∧f a=some b:=_root_.Option.bind_eq_some_iff.1 h
mutual
inductive ad where
 | int (k:IntKind)
 | bool
 | str
 | sl (t:ad)
 | st (aj:ax)
 | raw
inductive ax where
 | nil
 | cons (t:ad) (aj:ax)
end
mutual
@[reducible] def ad.D:ad→Type
 | .int _=>Int
 | .bool=>Bool
 | .str=>List UInt8
 | .sl t=>List t.D
 | .st aj=>aj.D
 | .raw=>Value
@[reducible] def ax.D:ax→Type
 | .nil=>Unit
 | .cons t aj=>t.D×aj.D
end
def dg:IntKind→Nat
 | .i8=>0 | .i16=>1 | .i32=>2 | .i64=>3 | .u8=>4 | .u16=>5 | .u32=>6 | .u64=>7
theorem sA:∀ {a b:IntKind},dg a=dg b→a=b:=by
 intro a b;cases a <;> cases b <;> simp [dg]
mutual
def ad.beq:ad→ad→Bool
 | .int a,.int b=>Nat.beq (dg a) (dg b)
 | .bool,.bool=>true
 | .str,.str=>true
 | .sl a,.sl b=>ad.beq a b
 | .st a,.st b=>ax.beq a b
 | .raw,.raw=>true
 | _,_=>false
def ax.beq:ax→ax→Bool
 | .nil,.nil=>true
 | .cons a as,.cons b bh=>cond (ad.beq a b) (ax.beq as bh) false
 | _,_=>false
end
mutual
theorem ad.eq_of_beq:∀(a b:ad),ad.beq a b=true→a=b
 | .int a,.int b,h=>by simp only [ad.beq] at h;rw [sA (Nat.eq_of_beq_eq_true h)]
 | .bool,.bool,_=>rfl
 | .str,.str,_=>rfl
 | .sl a,.sl b,h=>by simp only [ad.beq] at h;rw [ad.eq_of_beq a b h]
 | .st a,.st b,h=>by simp only [ad.beq] at h;rw [ax.eq_of_beq a b h]
 | .raw,.raw,_=>rfl
 | .int _,.bool,h | .int _,.str,h | .int _,.sl _,h | .int _,.st _,h | .int _,.raw,h=>by simp [ad.beq] at h
 | .bool,.int _,h | .bool,.str,h | .bool,.sl _,h | .bool,.st _,h | .bool,.raw,h=>by simp [ad.beq] at h
 | .str,.int _,h | .str,.bool,h | .str,.sl _,h | .str,.st _,h | .str,.raw,h=>by simp [ad.beq] at h
 | .sl _,.int _,h | .sl _,.bool,h | .sl _,.str,h | .sl _,.st _,h | .sl _,.raw,h=>by simp [ad.beq] at h
 | .st _,.int _,h | .st _,.bool,h | .st _,.str,h | .st _,.sl _,h | .st _,.raw,h=>by simp [ad.beq] at h
 | .raw,.int _,h | .raw,.bool,h | .raw,.str,h | .raw,.sl _,h | .raw,.st _,h=>by simp [ad.beq] at h
theorem ax.eq_of_beq:∀(a b:ax),ax.beq a b=true→a=b
 | .nil,.nil,_=>rfl
 | .cons a as,.cons b bh,h=>by
  simp only [ax.beq] at h
  cases hb:ad.beq a b
  ·rw [hb] at h;simp at h
  ·rw [hb] at h;rw [ad.eq_of_beq a b hb,ax.eq_of_beq as bh h]
 | .nil,.cons _ _,h | .cons _ _,.nil,h=>by simp [ax.beq] at h
end
def ez(a b:ad)(x:a.D):Option b.D :=
 if h:ad.beq a b=true then some ((ad.eq_of_beq a b h) ▸ x) else none
theorem Aq{a b:ad}{x:a.D}{y:b.D}(h:ez a b x=some y):∃e:a=b,y=e ▸ x:=by
 unfold ez at h
 split at h
 ·rename_i hb;exact⟨ad.eq_of_beq a b hb,by injection h with h;exact h.symm⟩
 ·simp at h
mutual
def ad.size:ad→Nat
 | .st aj=>aj.size
 | _=>1
def ax.size:ax→Nat
 | .nil=>0
 | .cons t aj=>t.size+aj.size
end
mutual
def ad.zero:(t:ad)→t.D
 | .int _=>(0:Int)
 | .bool=>false
 | .str=>([]:List UInt8)
 | .sl t=>([]:List t.D)
 | .st aj=>aj.zero
 | .raw=>(.slice none 0 0:Value)
def ax.zero:(aj:ax)→aj.D
 | .nil=>()
 | .cons t aj=>(t.zero,aj.zero)
end
mutual
inductive a' where
 | R
 | O (e:a')
 | S (ms:cQ)
inductive cQ where
 | nil
 | cons (m:a') (ms:cQ)
end
mutual
def a'.beq:a'→a'→Bool
 | .R,.R=>true
 | .O a,.O b=>a'.beq a b
 | .S a,.S b=>cQ.beq a b
 | _,_=>false
def cQ.beq:cQ→cQ→Bool
 | .nil,.nil=>true
 | .cons a as,.cons b bh=>cond (a'.beq a b) (cQ.beq as bh) false
 | _,_=>false
end
mutual
theorem a'.eq_of_beq:∀(a b:a'),a'.beq a b=true→a=b
 | .R,.R,_=>rfl
 | .O a,.O b,h=>by simp only [a'.beq] at h;rw [a'.eq_of_beq a b h]
 | .S a,.S b,h=>by simp only [a'.beq] at h;rw [cQ.eq_of_beq a b h]
 | .R,.O _,h | .R,.S _,h | .O _,.R,h | .O _,.S _,h | .S _,.R,h | .S _,.O _,h=>by simp [a'.beq] at h
theorem cQ.eq_of_beq:∀(a b:cQ),cQ.beq a b=true→a=b
 | .nil,.nil,_=>rfl
 | .cons a as,.cons b bh,h=>by
  simp only [cQ.beq] at h
  cases hb:a'.beq a b
  ·rw [hb] at h;simp at h
  ·rw [hb] at h;rw [a'.eq_of_beq a b hb,cQ.eq_of_beq as bh h]
 | .nil,.cons _ _,h | .cons _ _,.nil,h=>by simp [cQ.beq] at h
end
def a'.elem:a'→a'
 | .O e=>e
 | _=>.R
def cQ.ag:cQ→a'
 | .cons m _=>m
 | .nil=>.R
def cQ.dq:cQ→cQ
 | .cons _ ms=>ms
 | .nil=>.nil
def a'.parts:a'→cQ
 | .S ms=>ms
 | _=>.nil
structure Place where
 id:Nat
 fa:Option Nat
 off:Nat
inductive a8 where
 | int (k:IntKind) (x:Int)
 | bool (b:Bool)
 | str (s:List UInt8)
 | raw (v:Value)
 | nil (t:ad)
 | bY (t:ad) (ajJ:List (Nat×Nat)) (ajK:Option Place) (xs:List t.D)
 | ag (id:Nat) (sub:Option (Nat×Nat))
inductive a6 where
 | aC
 | gone
 | aS (c:a8)
 | hW (cs:List a8)
 | ptr (p:Place)
 | dd (dp:List (Nat×Nat)) (cs:List a8) (off:Nat)
 | jC
 | ko
 | opt (id:Nat) (o:Int)
 | qT (t:ad)
 | may (b:Bool) (dp:List (Nat×Nat)) (cs:List a8)
 | fn (f:FuncId) (first kS:List a6)
 | ox (l:List a6)
inductive cj where
 | none
 | dead
 | var (ver:Nat) (cs:List a8)
 | row (t:ad) (em:a') (ver:Nat) (xs:List t.D)
 | b_ (o:cj)
def cj.core:cj→cj
 | .b_ o=>o
 | o=>o
structure an where
 t:Nat→a6
 o:Nat→cj
 g:List a6
def bQ{α : Type}(f:Nat → α)(i:Nat)(v : α):Nat → α := fun j=>cond (Nat.beq j i) v (f j)
theorem ct{α : Type}(f:Nat → α)(i:Nat)(v : α):bQ f i v i=v:=by simp [bQ]
theorem qU{α : Type}{f:Nat → α}{i j:Nat}{v : α}(h:j≠i):bQ f i v j=f j:=by
 unfold bQ
 have:Nat.beq j i=false:=by
  cases hb:Nat.beq j i
  ·rfl
  ·exact absurd (Nat.eq_of_beq_eq_true hb) h
 rw [this];rfl
def an.set(s:an)(d:Nat)(v:a6):an:=⟨bQ s.t d v,s.o,s.g⟩
def an.bO(s:an)(i:Nat)(v:cj):an:=⟨s.t,bQ s.o i v,s.g⟩
def an.dst(s:an)(d:Option Nat)(v:a6):an :=
 match d with
 | some d=>s.set d v
 | none=>s
mutual
def ad.cells:(t:ad)→List (Nat×Nat)→Option Place→t.D→List a8
 | .int k,_,_,x=>[.int k x]
 | .bool,_,_,x=>[.bool x]
 | .str,_,_,x=>[.str x]
 | .sl t,dp,cq,x=>[.bY t dp cq x]
 | .st aj,dp,cq,x=>aj.cells dp cq x
 | .raw,_,_,x=>[.raw x]
def ax.cells:(aj:ax)→List (Nat×Nat)→Option Place→aj.D→List a8
 | .nil,_,_,_=>[]
 | .cons t aj,dp,cq,x=>t.cells dp cq x.1++aj.cells dp (cq.map fun p => { p with off:=p.off+t.size }) x.2
end
mutual
def ad.iQ:ad→List a8
 | .int k=>[.int k 0]
 | .bool=>[.bool false]
 | .str=>[.str []]
 | .sl t=>[.nil t]
 | .st aj=>aj.iQ
 | .raw=>[.raw (.slice none 0 0)]
def ax.iQ:ax→List a8
 | .nil=>[]
 | .cons t aj=>t.iQ++aj.iQ
end
mutual
def ad.own:ad→a'
 | .sl t=>.O t.own
 | .st aj=>if aj.flat then .R else .S aj.own
 | _=>.R
def ax.own:ax→cQ
 | .nil=>.nil
 | .cons t aj=>.cons t.own aj.own
def ad.flat:ad→Bool
 | .sl _=>false
 | .st aj=>aj.flat
 | _=>true
def ax.flat:ax→Bool
 | .nil=>true
 | .cons t aj=>cond t.flat aj.flat false
end
def a'.le(a b:a'):Bool :=
 match b with
 | .R=>true
 | _=>a'.beq a b
end Go.LM
namespace Go.LM
def room(n:Nat):Bool:=Nat.ble n 68719476736
def jj{br : Type}(b:Bool)(x:Option br):Option br := cond b x none
def aN(n:Nat)(i:Int):Option Nat:=if 0≤i∧i<(n:Int) then some i.toNat else none
def dZ(n:Nat)(lo hi:Int):Option (Nat×Nat):=if 0≤lo∧lo≤hi∧hi≤(n:Int) then some (lo.toNat,hi.toNat) else none
def J(t:ad)(xs:List t.D)(n:Nat):t.D:=xs.getD n t.zero
def part{α : Type}(l:List α)(lo len:Nat):List α :=(l.drop lo).take len
def aH(x:Int):Int:=IntKind.wrap .i64 x
def cN(op:BinOp)(k:IntKind)(x y:Int):Int :=
 let a:=BitVec.ofInt k.bits x
 let b:=BitVec.ofInt k.bits y
 match op with
 | .and=>k.wrap (a &&& b).toNat
 | .or=>k.wrap (a ||| b).toNat
 | .xor=>k.wrap (a ^^^ b).toNat
 | _=>k.wrap (a &&& ~~~b).toNat
def bu(x y:List UInt8):Bool:=decide (x=y)
def dr(x y:List UInt8):Bool:=Op.bytesLess x y
def WW(x y:Int):Int:=if y>x then y else x
def jk(x y:Int):Int:=if y<x then y else x
def en(s:List UInt8):List Int:=s.map fun b=>(b.toNat:Int)
def gl(l:List Int):List UInt8:=l.map fun n=>UInt8.ofNat n.toNat
inductive bw where
 | val (t:ad) (m:a')
 | ref (t:ad)
 | mut (t:ad) (m m':a')
 | gP (t:ad) (m:a')
 | fn (lF oy:Nat)
 | gQ (t:ad)
inductive cS where
 | val (t:ad) (m:a')
 | opt (arg off:Nat) (t:ad)
 | new (t:ad) (m:a')
 | oz (t:ad)
 | any (t:ad)
def bw.ins:List bw→ax
 | []=>.nil
 | .val t _ :: l | .ref t :: l | .mut t _ _ :: l | .gP t _ :: l | .gQ t :: l=>.cons t (bw.ins l)
 | .fn _ _ :: l=>bw.ins l
def cS.outs:List cS→ax→ax
 | [],aj=>aj
 | .val t _ :: l,aj=>.cons t (cS.outs l aj)
 | .new t _ :: l,aj=>.cons t (cS.outs l aj)
 | .oz t :: l,aj=>.cons (.sl t) (cS.outs l aj)
 | .any _ :: l,aj=>cS.outs l aj
 | .opt _ _ _ :: l,aj=>.cons (.int .i64) (cS.outs l aj)
def bw.dU:List bw→ax
 | []=>.nil
 | .mut t _ _ :: l | .gP t _ :: l=>.cons t (bw.dU l)
 | _ :: l=>bw.dU l
structure Entry where
 ps:List bw
 rs:List cS
 f:(bw.ins ps).D→Option (cS.outs rs (bw.dU ps)).D
structure Env where
 n:Nat
 ty:Nat→Option ad
 Gr:Nat→Bool
 sB:Nat→Bool
 fns:FuncId→FuncId→Option Entry
def kp{α : Type}(sub:Option (Nat×Nat))(xs:List α):List α :=
 match sub with
 | none=>xs
 | some (lo,len)=>part xs lo len
def kT{α : Type}(sub:Option (Nat×Nat))(xs:List α):Nat :=
 match sub with
 | none=>xs.length
 | some (_,len)=>len
def ea(sub:Option (Nat×Nat)):Nat :=
 match sub with
 | none=>0
 | some (lo,_)=>lo
def alive(s:an):List (Nat×Nat)→Bool
 | []=>true
 | (i,v) :: l=>match s.o i with
  | .row _ _ w _=>cond (Nat.beq w v) (alive s l) false
  | .var w _=>cond (Nat.beq w v) (alive s l) false
  | _=>false
def j5(s:an)(id:Nat):Nat :=
 match s.o id with
 | .row _ _ v _=>v
 | .var v _=>v
 | .b_ (.row _ _ v _)=>v
 | .b_ (.var v _)=>v
 | _=>0
def oA(s:an)(t:ad):a8→Option (List t.D)
 | .nil u=>ez (.sl u) (.sl t) ([]:List u.D)
 | .bY u dp _ xs=>cond (alive s dp) (ez (.sl u) (.sl t) xs) none
 | .ag id sub=>match s.o id with
  | .row u _ _ xs=>ez (.sl u) (.sl t) (kp sub xs)
  | _=>none
 | _=>none
def borrows(s:an):a8→List (Nat×Nat)
 | .ag id _=>match s.o id with
  | .row _ _ v _=>[(id,v)]
  | _=>[]
 | .bY _ dp _ _=>dp
 | _=>[]
mutual
def ad.imp:(t:ad)→(b:Bool)→a'→List a8→an→List (Nat×Nat)→Option (t.D×List a8×an×List (Nat×Nat))
 | .int k,_,_,.int k' x :: cs,s,bh=>cond (Nat.beq (dg k) (dg k')) (some (x,cs,s,bh)) none
 | .bool,_,_,.bool x :: cs,s,bh=>some (x,cs,s,bh)
 | .str,_,_,.str x :: cs,s,bh=>some (x,cs,s,bh)
 | .raw,_,_,.raw x :: cs,s,bh=>some (x,cs,s,bh)
 | .sl t,b,.O e,c :: cs,s,bh=>match c with
  | .nil u=>(ez (.sl u) (.sl t) ([]:List u.D)).bind fun x=>some (x,cs,s,bh)
  | .ag id sub=>match s.o id with
   | .row u em _ xs=>cond (a'.le em e) ((ez (.sl u) (.sl t) (kp sub xs)).bind fun x=>some (x,cs,s.bO id .dead,bh)) none
   | _=>none
  | _=>none
 | .sl t,true,_,c :: cs,s,bh=>(oA s t c).bind fun x=>some (x,cs,s,borrows s c++bh)
 | .sl t,false,_,c :: cs,s,bh=>match c with
  | .nil u=>(ez (.sl u) (.sl t) ([]:List u.D)).bind fun x=>some (x,cs,s,bh)
  | .bY u [] _ xs=>(ez (.sl u) (.sl t) xs).bind fun x=>some (x,cs,s,bh)
  | .ag id sub=>match s.o id with
   | .row u _ _ xs=>(ez (.sl u) (.sl t) (kp sub xs)).bind fun x=>some (x,cs,s.bO id .dead,bh)
   | _=>none
  | _=>none
 | .st aj,b,m,cs,s,bh=>aj.imp b m.parts cs s bh
 | _,_,_,_,_,_=>none
def ax.imp:(aj:ax)→(b:Bool)→cQ→List a8→an→List (Nat×Nat)→Option (aj.D×List a8×an×List (Nat×Nat))
 | .nil,_,_,cs,s,bh=>some ((),cs,s,bh)
 | .cons t aj,b,m,cs,s,bh=>(t.imp b m.ag cs s bh).bind fun r=>(aj.imp b m.dq r.2.1 r.2.2.1 r.2.2.2).bind fun q=>some ((r.1,q.1),q.2)
end
mutual
def ad.put:(t:ad)→a'→t.D→Nat→List a8→an→Option (t.D×List a8×an)
 | t,m,x,skip,cs,s =>
  match cs with
  | []=>some (x,[],s)
  | c :: cs' =>
   cond (Nat.beq skip 0&&Nat.ble t.size (cs'.length+1)) ((t.imp false m (c :: cs') s []).bind fun r=>some (r.1,r.2.1,r.2.2.1))
    (match t,x with
     | .st aj,x=>aj.put m.parts x skip (c :: cs') s
     | _,_=>none)
def ax.put:(aj:ax)→cQ→aj.D→Nat→List a8→an→Option (aj.D×List a8×an)
 | .nil,_,_,_,cs,s=>some ((),cs,s)
 | .cons t aj,m,x,skip,cs,s =>
  cond (Nat.ble t.size skip) ((aj.put m.dq x.2 (skip-t.size) cs s).bind fun q=>some ((x.1,q.1),q.2))
   ((t.put m.ag x.1 skip cs s).bind fun r=>(aj.put m.dq x.2 0 r.2.1 r.2.2).bind fun q=>some ((r.1,q.1),q.2))
end
mutual
def ad.gR:(t:ad)→a'→List (Nat×Nat)→t.D→an→Nat→Option (List a8×an×Nat)
 | .int k,_,_,x,s,j=>some ([.int k x],s,j)
 | .bool,_,_,x,s,j=>some ([.bool x],s,j)
 | .str,_,_,x,s,j=>some ([.str x],s,j)
 | .raw,_,_,x,s,j=>some ([.raw x],s,j)
 | .sl t,.O e,dp,x,s,j=>cond (dp.isEmpty||a'.beq e t.own) (match s.o j with
  | .none=>some ([.ag j none],s.bO j (.row t e 0 x),j+1)
  | _=>none) none
 | .sl t,_,dp,x,s,j=>some ([.bY t dp none x],s,j)
 | .st aj,m,dp,x,s,j=>aj.gR m.parts dp x s j
def ax.gR:(aj:ax)→cQ→List (Nat×Nat)→aj.D→an→Nat→Option (List a8×an×Nat)
 | .nil,_,_,_,s,j=>some ([],s,j)
 | .cons t aj,m,dp,x,s,j=>(t.gR m.ag dp x.1 s j).bind fun r=>(aj.gR m.dq dp x.2 r.2.1 r.2.2).bind fun q=>some (r.1++q.1,q.2)
end
mutual
def ad.xr:(t:ad)→an→List a8→a'×List a8
 | .sl t,s,c :: cs=>(match c with
  | .nil _=>.O t.own
  | .ag id _=>match s.o id with
   | .row _ em _ _=>.O em
   | _=>.R
  | _=>.R,cs)
 | .st aj,s,cs=>cond aj.flat (.R,cs.drop aj.size) (let r:=aj.xr s cs;(.S r.1,r.2))
 | _,_,cs=>(.R,cs.drop 1)
def ax.xr:(aj:ax)→an→List a8→cQ×List a8
 | .nil,_,cs=>(.nil,cs)
 | .cons t aj,s,cs=>let r:=t.xr s cs;let q:=aj.xr s r.2;(.cons r.1 q.1,q.2)
end
def takeN(off n:Nat)(cs:List a8):Option (List a8) :=
 cond (Nat.ble (off+n) cs.length) (some (part cs off n)) none
def Gs(t:ad)(em:a')(id ver i:Nat)(x:t.D):List a8 :=
 match em with
 | .R=>t.cells [] none x
 | _=>t.cells [(id,ver)] (some ⟨id,some i,0⟩) x
def lG(s:an)(n:Nat)(p:Place):Option (List a8) :=
 match s.o p.id,p.fa with
 | .var _ cs,none=>takeN p.off n cs
 | .row t em ver xs,some i=>takeN p.off n (Gs t em p.id ver i (J t xs i))
 | _,_=>none
def Ar(s:an)(p:Place)(cs:List a8):Option an :=
 match s.o p.id,p.fa with
 | .var ver old,none=>cond (Nat.ble (p.off+cs.length) old.length) (some (s.bO p.id (.var (ver+1) (old.take p.off++cs++old.drop (p.off+cs.length))))) none
 | .row t em ver xs,some i =>
  cond (Nat.ble (p.off+cs.length) t.size) ((t.put em (J t xs i) p.off cs s).bind fun r =>
   match r.2.1,r.2.2.o p.id with
   | [],.row _ _ _ _=>some (r.2.2.bO p.id (.row t em (ver+1) (xs.set i r.1)))
   | _,_=>none) none
 | _,_=>none
def jD(t:ad)(cs:List a8):Option a6 :=
 match t with
 | .st _=>some (.hW cs)
 | _=>match cs with
  | [c]=>some (.aS c)
  | _=>none
def im(t:ad):a6→Option (List a8)
 | .aS c=>some [c]
 | .hW cs=>some cs
 | .ko=>match t with
  | .sl u=>some [.nil u]
  | _=>none
 | _=>none
def Gt:Value→a6
 | .int k n=>.aS (.int k n)
 | .bool b=>.aS (.bool b)
 | .string b=>.aS (.str b.data.toList)
 | .slice none 0 0=>.ko
 | .pointer none=>.jC
 | _=>.aC
def bS(s:an):Operand→a6
 | .tmp t=>s.t t
 | .const v=>Gt v
 | .func f=>.fn f [] []
 | .global _=>.aC
def typed(E:Env)(t:Nat):a6→Option a6
 | .aC=>none
 | .gone=>none
 | .ko=>match E.ty t with
  | some (.sl u)=>some (.aS (.nil u))
  | _=>none
 | v=>some v
def j6:a6→Option Int
 | .aS (.int _ n)=>some n
 | _=>none
end Go.LM
namespace Go.LM
def nA(s:an):a8→Option Nat
 | .nil _=>some 0
 | .bY _ dp _ xs=>cond (alive s dp) (some xs.length) none
 | .ag id sub=>match s.o id with
  | .row _ _ _ xs=>some (kT sub xs)
  | _=>none
 | .str x=>some x.length
 | _=>none
mutual
def ad.cmp:ad→List a8→List a8→Option (Bool×List a8×List a8)
 | .int k,.int k1 x :: a,.int k2 y :: b=>cond (Nat.beq (dg k1) (dg k)&&Nat.beq (dg k2) (dg k)) (some (x==y,a,b)) none
 | .bool,.bool x :: a,.bool y :: b=>some (x==y,a,b)
 | .str,.str x :: a,.str y :: b=>some (bu x y,a,b)
 | .st aj,a,b=>aj.cmp a b
 | _,_,_=>none
def ax.cmp:ax→List a8→List a8→Option (Bool×List a8×List a8)
 | .nil,a,b=>some (true,a,b)
 | .cons t aj,a,b=>(t.cmp a b).bind fun r=>(aj.cmp r.2.1 r.2.2).bind fun q=>some (r.1&&q.1,q.2)
end
def As(op:BinOp)(k:IntKind)(x y:Int):Option a6 :=
 match op with
 | .add=>some (.aS (.int k (k.wrap (x+y))))
 | .sub=>some (.aS (.int k (k.wrap (x-y))))
 | .mul=>some (.aS (.int k (k.wrap (x*y))))
 | .and=>some (.aS (.int k (cN .and k x y)))
 | .or=>some (.aS (.int k (cN .or k x y)))
 | .xor=>some (.aS (.int k (cN .xor k x y)))
 | .andNot=>some (.aS (.int k (cN .andNot k x y)))
 | .eql=>some (.aS (.bool (x==y)))
 | .neq=>some (.aS (.bool (x != y)))
 | .lss=>some (.aS (.bool (decide (x<y))))
 | .leq=>some (.aS (.bool (decide (x≤y))))
 | .gtr=>some (.aS (.bool (decide (x>y))))
 | .geq=>some (.aS (.bool (decide (x≥y))))
 | _=>none
def At(op:BinOp)(x y:List UInt8):Option a6 :=
 match op with
 | .eql=>some (.aS (.bool (bu x y)))
 | .neq=>some (.aS (.bool (!bu x y)))
 | .lss=>some (.aS (.bool (dr x y)))
 | .leq=>some (.aS (.bool (dr x y||bu x y)))
 | .gtr=>some (.aS (.bool (!(dr x y||bu x y))))
 | .geq=>some (.aS (.bool (!dr x y)))
 | _=>none
section
variable{br : Type}
def lift(x:Option a6)(K:a6→Option br):Option br :=
 match x with
 | some v=>K v
 | none=>none
open Classical in
noncomputable def both(a b:Option br):Option br := if a=b then a else none
noncomputable def Au(b:Bool)(x y:Option br):Option br := cond b (both x y) y
noncomputable def kq(E:Env)(ty:Nat)(op:BinOp)(x y:a6)(K:a6→Option br):Option br :=
 match x,y with
 | .aS (.int k a),.aS (.int k' b) =>
  match op with
  | .shl=>jj (decide (0≤b)) (K (.aS (.int k (k.wrap (a*2 ^ min b.toNat k.bits)))))
  | .shr=>jj (decide (0≤b)) (K (.aS (.int k (a.fdiv (2 ^ min b.toNat k.bits)))))
  | .quo=>cond (Nat.beq (dg k) (dg k')) (jj (b != 0) (K (.aS (.int k (k.wrap (a.tdiv b)))))) none
  | .rem=>cond (Nat.beq (dg k) (dg k')) (jj (b != 0) (K (.aS (.int k (a.tmod b))))) none
  | _=>cond (Nat.beq (dg k) (dg k')) (lift (As op k a b) K) none
 | .aS (.str a),.aS (.str b) =>
  match op with
  | .add=>jj (room (a.length+b.length)) (K (.aS (.str (a++b))))
  | _=>lift (At op a b) K
 | .aS (.bool a),.aS (.bool b) =>
  match E.ty ty,op with
  | some .bool,.eql=>K (.aS (.bool (a==b)))
  | some .bool,.neq=>K (.aS (.bool (!(a==b))))
  | _,_=>none
 | .hW a,.hW b =>
  cond (E.Gr ty) (match E.ty ty with
  | some T=>(match op,T.cmp a b with
   | .eql,some (r,[],[])=>K (.aS (.bool r))
   | .neq,some (r,[],[])=>K (.aS (.bool (!r)))
   | _,_=>none)
  | none=>none) none
 | .aS (.bY _ [] _ xs),.ko =>
  match E.ty ty,op with
  | some (.sl _),.eql=>Au xs.isEmpty (K (.aS (.bool true))) (K (.aS (.bool false)))
  | some (.sl _),.neq=>Au xs.isEmpty (K (.aS (.bool false))) (K (.aS (.bool true)))
  | _,_=>none
 | .opt _ o,.jC =>
  match E.sB ty,op with
  | true,.eql=>K (.aS (.bool (decide (o<0))))
  | true,.neq=>K (.aS (.bool (!decide (o<0))))
  | _,_=>none
 | .ptr _,.jC =>
  match E.sB ty,op with
  | true,.eql=>K (.aS (.bool false))
  | true,.neq=>K (.aS (.bool true))
  | _,_=>none
 | .may b _ _,.jC =>
  match E.sB ty,op with
  | true,.eql=>K (.aS (.bool (!b)))
  | true,.neq=>K (.aS (.bool b))
  | _,_=>none
 | _,_=>none
def Gu(op:UnOp)(x:a6)(K:a6→Option br):Option br :=
 match op,x with
 | .neg,.aS (.int k n)=>K (.aS (.int k (k.wrap (0-n))))
 | .xor,.aS (.int k n)=>K (.aS (.int k (cN .xor k (if k.signed then -1 else k.max) n)))
 | .not,.aS (.bool b)=>K (.aS (.bool (!b)))
 | _,_=>none
def pH(t:ad)(m:a'):List (List a8)→an→Option (List t.D×an)
 | [],s=>some ([],s)
 | cs :: B,s=>(t.imp false m cs s []).bind fun r =>
   match r.2.1 with
   | []=>(pH t m B r.2.2.1).bind fun q=>some (r.1 :: q.1,q.2)
   | _=>none
def ax.nth:ax→Nat→Option ad
 | .nil,_=>none
 | .cons t _,0=>some t
 | .cons _ aj,n+1=>ax.nth aj n
def ax.nB:ax→List (List a8)
 | .nil=>[]
 | .cons t aj=>t.iQ :: ax.nB aj
def qV(s:an)(ty:Nat→Option ad):List (Nat×Operand)→List (List a8)→Option (List (List a8))
 | [],B=>some B
 | (i,x) :: ps,B =>
  match ty i with
  | none=>none
  | some t =>
   match im t (bS s x) with
   | none=>none
   | some cs=>cond (Nat.beq cs.length t.size) (qV s ty ps (B.set i cs)) none
def ax.off:ax→Nat→Option (Nat×ad)
 | .nil,_=>none
 | .cons t _,0=>some (0,t)
 | .cons t aj,n+1=>(ax.off aj n).bind fun r=>some (t.size+r.1,r.2)
def mkObj(s:an)(id:Nat)(o:cj):Option an :=
 match s.o id with
 | .none=>some (s.bO id o)
 | _=>none
def taken(s:an)(t:ad):a8→Option (a'×List t.D×an)
 | .nil u=>(ez (.sl u) (.sl t) ([]:List u.D)).bind fun x=>some (t.own,x,s)
 | .ag id sub=>match s.o id with
  | .row u em _ xs=>(ez (.sl u) (.sl t) (kp sub xs)).bind fun x=>some (em,x,s.bO id .dead)
  | _=>none
 | _=>none
def added(s:an)(t:ad):a8→Option (a'×List t.D×an)
 | .ag id sub=>match s.o id with
  | .row u em _ xs=>match em with
   | .R=>(ez (.sl u) (.sl t) (kp sub xs)).bind fun x=>some (.R,x,s)
   | _=>(ez (.sl u) (.sl t) (kp sub xs)).bind fun x=>some (em,x,s.bO id .dead)
  | _=>none
 | .bY u dp _ xs=>cond (alive s dp&&(t.flat||dp.isEmpty)) ((ez (.sl u) (.sl t) xs).bind fun x=>some (.R,x,s)) none
 | .nil u=>(ez (.sl u) (.sl t) ([]:List u.D)).bind fun x=>some (t.own,x,s)
 | .str x=>(ez (.sl (.int .u8)) (.sl t) (en x)).bind fun y=>some (.R,y,s)
 | _=>none
def meet(a b:a'):a':=cond (a'.beq a b) a .R
def NG(id:Nat)(t:ad)(s:an)(a b:a8)(K:a8→an→Option br):Option br :=
 match added s t b with
 | none=>none
 | some (j7,ys,s1) =>
  match taken s1 t a with
  | none=>none
  | some (nC,xs,s2) =>
   match mkObj s2 id (.row t (meet nC j7) 0 (xs++ys)) with
   | none=>none
   | some s3=>jj (room (xs.length+ys.length)) (K (.ag id none) s3)
def nD(t:ad)(v:a6):Bool :=
 match t,v with
 | .st _,.hW _=>true
 | .st _,_=>false
 | _,.aS _=>true
 | .sl _,.ko=>true
 | _,_=>false
mutual
def ad.getAt:(T:ad)→Nat→(t:ad)→T.D→Option (List t.D)
 | .sl u,off,t,x=>cond (Nat.beq off 0) (ez (.sl u) (.sl t) x) none
 | .st aj,off,t,x=>aj.getAt off t x
 | _,_,_,_=>none
def ax.getAt:(aj:ax)→Nat→(t:ad)→aj.D→Option (List t.D)
 | .nil,_,_,_=>none
 | .cons T aj,off,t,x=>cond (Nat.blt off T.size) (T.getAt off t x.1) (aj.getAt (off-T.size) t x.2)
end
mutual
def ad.setAt:(T:ad)→Nat→(t:ad)→List t.D→T.D→Option T.D
 | .sl u,off,t,y,_=>cond (Nat.beq off 0) (ez (.sl t) (.sl u) y) none
 | .st aj,off,t,y,x=>aj.setAt off t y x
 | _,_,_,_,_=>none
def ax.setAt:(aj:ax)→Nat→(t:ad)→List t.D→aj.D→Option aj.D
 | .nil,_,_,_,_=>none
 | .cons T aj,off,t,y,x=>cond (Nat.blt off T.size) ((T.setAt off t y x.1).bind fun z=>some (z,x.2)) ((aj.setAt (off-T.size) t y x.2).bind fun z=>some (x.1,z))
end
def sC(t:ad)(e:a')(s:an)(dp:List (Nat×Nat)):Option Place→Option (List t.D×an)
 | none=>none
 | some p =>
  match p.fa,s.o p.id with
  | some i,.row T em ver ys=>cond (alive s dp&&a'.beq em T.own&&a'.beq e t.own) ((T.getAt p.off t (J T ys i)).bind fun x=>some (x,s.bO p.id (.b_ (.row T em ver ys)))) none
  | _,_=>none
def u3(t:ad)(x:List t.D)(s:an):Option Place→Option an
 | none=>none
 | some p =>
  match p.fa,s.o p.id with
  | some i,.b_ (.row T em ver ys)=>(T.setAt p.off t x (J T ys i)).bind fun z=>some (s.bO p.id (.row T em (ver+1) (ys.set i z)))
  | _,_=>none
mutual
def ad.fb:(t:ad)→a'→List a8→an→Option (t.D×List a8×an)
 | .int k,_,.int k' x :: cs,s=>cond (Nat.beq (dg k) (dg k')) (some (x,cs,s)) none
 | .bool,_,.bool x :: cs,s=>some (x,cs,s)
 | .str,_,.str x :: cs,s=>some (x,cs,s)
 | .sl t,.O e,c :: cs,s=>match c with
  | .nil u=>(ez (.sl u) (.sl t) ([]:List u.D)).bind fun x=>some (x,cs,s)
  | .ag id none=>match s.o id with
   | .row u em ver xs=>cond (a'.beq em e) ((ez (.sl u) (.sl t) xs).bind fun x=>some (x,cs,s.bO id (.b_ (.row u em ver xs)))) none
   | _=>none
  | .bY _ dp cq _=>(sC t e s dp cq).bind fun r=>some (r.1,cs,r.2)
  | _=>none
 | .st aj,m,cs,s=>aj.fb m.parts cs s
 | _,_,_,_=>none
def ax.fb:(aj:ax)→cQ→List a8→an→Option (aj.D×List a8×an)
 | .nil,_,cs,s=>some ((),cs,s)
 | .cons t aj,m,cs,s=>(t.fb m.ag cs s).bind fun r=>(aj.fb m.dq r.2.1 r.2.2).bind fun q=>some ((r.1,q.1),q.2)
end
mutual
def ad.back:(t:ad)→t.D→List a8→an→Option (List a8×an)
 | .sl t,x,c :: cs,s=>match c with
  | .nil _=>some (cs,s)
  | .ag id none=>match s.o id with
   | .b_ (.row u em ver _)=>(ez (.sl t) (.sl u) x).bind fun y=>some (cs,s.bO id (.row u em (ver+1) y))
   | _=>none
  | .bY _ _ cq _=>(u3 t x s cq).bind fun aq=>some (cs,aq)
  | _=>none
 | .st aj,x,cs,s=>aj.back x cs s
 | _,_,_ :: cs,s=>some (cs,s)
 | _,_,[],_=>none
def ax.back:(aj:ax)→aj.D→List a8→an→Option (List a8×an)
 | .nil,_,cs,s=>some (cs,s)
 | .cons t aj,x,cs,s=>(t.back x.1 cs s).bind fun r=>aj.back x.2 r.1 r.2
end
def fR(key:Nat)(s:an):(ps:List bw)→List a6→List (Nat×Nat)→Option ((bw.ins ps).D×an×List (Nat×Nat))
 | [],[],bh=>some ((),s,bh)
 | .fn lF oy :: ps,.fn g a b :: vs,bh=>cond (Nat.beq g key&&Nat.beq a.length lF&&Nat.beq b.length oy) (fR key s ps vs bh) none
 | .val t m :: ps,v :: vs,bh=>cond (nD t v)
  (match im t v with
  | none=>none
  | some cs=>(t.imp true m cs s bh).bind fun r =>
   match r.2.1 with
   | []=>(fR key r.2.2.1 ps vs r.2.2.2).bind fun q=>some ((r.1,q.1),q.2)
   | _=>none) none
 | .gQ t :: ps,v :: vs,bh=>cond (nD t v)
  (match im t v with
  | none=>none
  | some cs=>(t.imp false .R cs s bh).bind fun r =>
   match r.2.1 with
   | []=>(fR key r.2.2.1 ps vs r.2.2.2).bind fun q=>some ((r.1,q.1),q.2)
   | _=>none) none
 | .gP t m :: ps,v :: vs,bh=>cond (nD t v&&a'.beq m t.own)
  (match im t v with
  | none=>none
  | some cs=>(t.fb m cs s).bind fun r =>
   match r.2.1 with
   | []=>(fR key r.2.2 ps vs bh).bind fun q=>some ((r.1,q.1),q.2)
   | _=>none) none
 | .ref t :: ps,.dd dp cs off :: vs,bh =>
  match takeN off t.size cs with
  | none=>none
  | some cs=>cond (alive s dp) ((t.imp true .R cs s (dp++bh)).bind fun r =>
   match r.2.1 with
   | []=>(fR key r.2.2.1 ps vs r.2.2.2).bind fun q=>some ((r.1,q.1),q.2)
   | _=>none) none
 | .ref t :: ps,.ptr p :: vs,bh =>
  match lG s t.size p with
  | none=>none
  | some cs=>(t.imp true .R cs s ((p.id,j5 s p.id) :: bh)).bind fun r =>
   match r.2.1 with
   | []=>(fR key r.2.2.1 ps vs r.2.2.2).bind fun q=>some ((r.1,q.1),q.2)
   | _=>none
 | .mut t m m' :: ps,.ptr p :: vs,bh =>
  match s.o p.id,p.fa with
  | .var ver old,none =>
   match takeN p.off t.size old with
   | none=>none
   | some cs=>(t.imp true m cs (s.bO p.id (.b_ (.var ver old))) bh).bind fun r =>
    match r.2.1 with
    | []=>(fR key r.2.2.1 ps vs r.2.2.2).bind fun q=>some ((r.1,q.1),q.2)
    | _=>none
  | .row u em ver xs,some i =>
   cond (Nat.beq p.off 0&&a'.beq em m&&a'.beq m' em&&a'.beq m t.own) ((ez u t (J u xs i)).bind fun x =>
    (fR key (s.bO p.id (.b_ (.row u em ver xs))) ps vs bh).bind fun q=>some ((x,q.1),q.2)) none
  | _,_=>none
 | _,_,_=>none
def lH(dp:List (Nat×Nat)):(ps:List bw)→List a6→(bw.dU ps).D→an→Nat→Option (an×Nat)
 | [],_,_,s,j=>some (s,j)
 | .mut t _ m' :: ps,.ptr p :: vs,x,s,j =>
  match s.o p.id,p.fa with
  | .b_ (.var ver old),none=>(t.gR m' dp x.1 s j).bind fun r =>
   lH dp ps vs x.2 (r.2.1.bO p.id (.var (ver+1) (old.take p.off++r.1++old.drop (p.off+t.size)))) r.2.2
  | .b_ (.row u em ver xs),some i=>(ez t u x.1).bind fun y=>lH dp ps vs x.2 (s.bO p.id (.row u em (ver+1) (xs.set i y))) j
  | _,_=>none
 | .gP t _ :: ps,v :: vs,x,s,j =>
  match im t v with
  | none=>none
  | some cs=>(t.back x.1 cs s).bind fun r=>lH dp ps vs x.2 r.2 j
 | .val _ _ :: ps,_ :: vs,x,s,j | .gQ _ :: ps,_ :: vs,x,s,j | .ref _ :: ps,_ :: vs,x,s,j | .fn _ _ :: ps,_ :: vs,x,s,j=>lH dp ps vs x s j
 | _,_,_,_,_=>none
def pI(s:an)(vs:List a6)(arg off:Nat):Option Nat :=
 match vs[arg]? with
 | some (.ptr p)=>match lG s 1 { p with off:=p.off+off } with
  | some [.ag id none]=>some id
  | _=>none
 | _=>none
def pJ(s:an)(t:ad)(id:Nat):Bool :=
 match s.o id with
 | .row u _ _ _=>ad.beq u t
 | _=>false
def kU(vs:List a6)(ps:List bw)(dp:List (Nat×Nat)):(rs:List cS)→(cS.outs rs (bw.dU ps)).D→an→Nat→Option (List a6×an)
 | [],x,s,j=>(lH dp ps vs x s j).bind fun r=>some ([],r.1)
 | .val t m :: rs,x,s,j=>(t.gR m dp x.1 s j).bind fun r =>
  match jD t r.1 with
  | none=>none
  | some v=>(kU vs ps dp rs x.2 r.2.1 r.2.2).bind fun q=>some (v :: q.1,q.2)
 | .new t m :: rs,x,s,j=>(t.gR m dp x.1 s j).bind fun r=>(mkObj r.2.1 r.2.2 (.var 0 r.1)).bind fun s1=>(kU vs ps dp rs x.2 s1 (r.2.2+1)).bind fun q=>some (.ptr ⟨r.2.2,none,0⟩ :: q.1,q.2)
 | .opt a off t :: rs,x,s,j=>(kU vs ps dp rs x.2 s j).bind fun q =>
  match pI q.2 vs a off with
  | none=>none
  | some id=>cond (pJ q.2 t id) (some (.opt id x.1 :: q.1,q.2)) none
 | .any t :: rs,x,s,j=>(kU vs ps dp rs x s j).bind fun q=>some (.qT t :: q.1,q.2)
 | .oz t :: rs,x,s,j=>(kU vs ps dp rs x.2 s j).bind fun q=>some (.may (!List.isEmpty x.1) dp (t.cells dp none (J t x.1 0)) :: q.1,q.2)
def oB:List a6→FuncId
 | []=>0
 | .fn f _ _ :: _=>f
 | _ :: l=>oB l
def kV:List a6→List a6
 | []=>[]
 | .fn _ a b :: l=>a++b++kV l
 | _ :: l=>kV l
def nE:List a6→Bool
 | []=>true
 | .aC :: _=>false
 | .gone :: _=>false
 | .qT _ :: _=>false
 | _ :: l=>nE l
def Gv(E:Env)(id:Nat)(s:an)(f:FuncId)(vs:List a6)(K:a6→an→Option br):Option br :=
 match E.fns f (oB vs) with
 | none=>none
 | some e =>
  match fR (oB vs) s e.ps (vs++kV vs) [] with
  | none=>none
  | some (x,s1,bh) =>
   cond (alive s1 bh&&nE vs)
    ((e.f x).bind fun r =>
     match kU (vs++kV vs) e.ps bh e.rs r s1 id with
     | none=>none
     | some ([v],s2)=>K v s2
     | some (l,s2)=>K (.ox l) s2)
    none
def qW(s:an):List a6→(List a6→Option br)→Option br
 | [],K=>K []
 | .opt i n :: l,K=>(aN (match s.o i with | .row _ _ _ xs=>xs.length | _=>0) n).bind fun k=>qW s l fun l'=>K (.ptr ⟨i,some k,0⟩ :: l')
 | .may b dp cs :: l,K=>jj b (qW s l fun l'=>K (.dd dp cs 0 :: l'))
 | v :: l,K=>qW s l fun l'=>K (v :: l')
def Gw(E:Env)(id:Nat)(s:an)(f:FuncId)(vs:List a6)(K:a6→an→Option br):Option br := qW s vs fun vs=>Gv E id s f vs K
end
end Go.LM
namespace Go.LM
section
variable{br : Type}
def sD(gA:Bool)(k:IntKind):Int→List a6→Option (IntKind×Int)
 | x,[]=>some (k,x)
 | x,.aS (.int _ y) :: l=>sD gA k (cond gA (WW x y) (jk x y)) l
 | _,_=>none
def u4(gA:Bool):List a6→Option (IntKind×Int)
 | .aS (.int k x) :: l=>sD gA k x l
 | _=>none
def kr(s:an)(T:ad):a8→Bool
 | .str _=>ad.beq T .str
 | .nil u=>ad.beq T (.sl u)
 | .bY u _ _ _=>ad.beq T (.sl u)
 | .ag id _=>match s.o id with
  | .row u _ _ _=>ad.beq T (.sl u)
  | _=>false
 | _=>false
def oneCell(t:ad):a6→Option a8
 | .aS c=>some c
 | .ko=>some (.nil t)
 | _=>none
def u5(E:Env):List Nat→Option ad
 | gS :: hB :: _ =>
  match E.ty gS,E.ty hB with
  | some (.sl t),some (.sl _)=>some t
  | some (.sl t),some .str=>some t
  | _,_=>none
 | _=>none
def jE(E:Env)(id:Nat)(s:an)(b:Builtin)(Gz:List Nat)(vs:List a6)(K:a6→an→Option br):Option br :=
 match b,vs with
 | .len,[.aS c] =>
  match Gz with
  | t :: _ =>
   match E.ty t with
   | some T=>cond (kr s T c)
    (match nA s c with
    | some n=>K (.aS (.int .i64 n)) s
    | none=>none) none
   | none=>none
  | _=>none
 | .append,[kW,vb] =>
  match u5 E Gz with
  | some t =>
   match oneCell t kW,oneCell t vb with
   | some a,some b=>NG id t s a b fun c s=>K (.aS c) s
   | _,_=>none
  | none=>none
 | .clear,[.aS (.ag i sub)] =>
  match Gz with
  | t :: _ =>
   match E.ty t,s.o i with
   | some (.sl u),.row v em ver xs=>cond (ad.beq u v&&v.flat) (K (.ox []) (s.bO i (.row v em (ver+1) (xs.take (ea sub)++List.replicate (kT sub xs) v.zero++xs.drop (ea sub+kT sub xs))))) none
   | _,_=>none
  | _=>none
 | .min,vs =>
  match u4 false vs with
  | some (k,x)=>K (.aS (.int k x)) s
  | none=>none
 | .max,vs =>
  match u4 true vs with
  | some (k,x)=>K (.aS (.int k x)) s
  | none=>none
 | _,_=>none
def bound(s:an)(x:Option Operand)(d:Int):Option Int :=
 match x with
 | none=>some d
 | some x=>j6 (bS s x)
def u6(c:a8)(l m:Nat):Option a8 :=
 match c with
 | .str x=>some (.str (part x l m))
 | .nil t=>some (.nil t)
 | .bY t dp cq xs=>some (.bY t dp none (part xs l m))
 | .ag id sub=>some (.ag id (some (ea sub+l,m)))
 | _=>none
def NH(s:an)(T:ad)(x:a6)(lo hi gA:Option Operand)(K:a6→Option br):Option br :=
 match x with
 | .aS c =>
  cond (kr s T c)
  (match nA s c with
  | none=>none
  | some n =>
   match bound s lo 0,bound s hi n with
   | some l,some h =>
    (match gA with
     | none=>fun k=>k
     | some m=>fun k=>cond (ad.beq T .str) none (match j6 (bS s m) with
      | some m=>cond hi.isSome (jj (decide (h=m)) k) none
      | none=>none))
    ((dZ n l h).bind fun r =>
     match u6 c r.1 (r.2-r.1) with
     | some c'=>K (.aS c')
     | none=>none)
   | _,_=>none) none
 | _=>none
def qX(E:Env)(id:Nat)(s:an)(src dst:Nat)(x:a6)(K:a6→an→Option br):Option br :=
 match E.ty src,E.ty dst,x with
 | some (.int _),some (.int k),.aS (.int _ n)=>K (.aS (.int k (k.wrap n))) s
 | some .str,some .str,.aS (.str b)=>K (.aS (.str b)) s
 | some .str,some (.sl (.int .u8)),.aS (.str b) =>
  match mkObj s id (.row (.int .u8) .R 0 (en b)) with
  | some s1=>K (.aS (.ag id none)) s1
  | none=>none
 | some (.sl (.int .u8)),some .str,.aS c =>
  match oA s (.int .u8) c with
  | some xs=>K (.aS (.str (gl xs))) s
  | none=>none
 | _,_,_=>none
def GA(T:ad)(s:an):List (List a8)→a'
 | cs :: _=>(T.xr s cs).1
 | []=>T.own
noncomputable def cP(E:Env)(id:Nat)(o:Oper)(s:an)(K:an→Option br):Option br :=
 let put (v:a6) (s:an):Option br := K (s.dst o.dst v)
 match o.op with
 | .move x | .assign x =>
  match typed E o.type (bS s x) with
  | some v=>put v s
  | none=>none
 | .pick c a b =>
  match bS s c,typed E o.type (bS s a),typed E o.type (bS s b) with
  | .aS (.bool t),some kW,some vb=>cond t (put kW s) (put vb s)
  | .aS (.bool t),some kW,none=>cond t (put kW s) none
  | .aS (.bool t),none,some vb=>cond t none (put vb s)
  | _,_,_=>none
 | .alloc t =>
  match E.ty t with
  | some T=>match mkObj s id (.var 0 T.iQ) with
   | some s1=>put (.ptr ⟨id,none,0⟩) s1
   | none=>none
  | none=>none
 | .box t x =>
  match E.ty t with
  | some T=>match im T (bS s x) with
   | some cs=>cond (Nat.beq cs.length T.size)
    (match mkObj s id (.var 0 cs) with
     | some s1=>put (.ptr ⟨id,none,0⟩) s1
     | none=>none) none
   | none=>none
  | none=>none
 | .build t parts =>
  match E.ty t with
  | some (.st aj)=>match qV s aj.nth parts.toList aj.nB with
   | some B=>put (.hW B.flatten) s
   | none=>none
  | _=>none
 | .buildSlice t n parts =>
  match E.ty t with
  | some (.sl T)=>cond (Nat.ble (n*T.size) 16777216)
   (match qV s (fun i=>cond (Nat.blt i n) (some T) none) parts.toList (List.replicate n T.iQ) with
   | some B =>
    match pH T (GA T s B) B s with
    | some (xs,s1)=>match mkObj s1 id (.row T (GA T s B) 0 xs) with
     | some s2=>put (.aS (.ag id none)) s2
     | none=>none
    | none=>none
   | none=>none) none
  | _=>none
 | .load t a =>
  match E.ty t,bS s a with
  | some T,.ptr p=>match (lG s T.size p).bind (jD T) with
   | some v=>put v s
   | none=>none
  | some T,.dd dp cs off=>match (takeN off T.size cs).bind (jD T) with
   | some v=>cond (alive s dp) (put v s) none
   | none=>none
  | _,_=>none
 | .store t a x =>
  match E.ty t,bS s a with
  | some T,.ptr p=>match im T (bS s x) with
   | some cs=>cond (Nat.beq cs.length T.size)
    (match Ar s p cs with
     | some s1=>put .aC s1
     | none=>none) none
   | none=>match bS s x,s.o p.id,p.fa with
    | .qT u,.var _ old,none=>cond (ad.beq u T&&Nat.beq p.off 0&&Nat.ble T.size old.length) (put .aC (s.bO p.id .dead)) none
    | _,_,_=>none
  | _,_=>none
 | .nilCheck x =>
  match bS s x with
  | .ptr p=>put (.ptr p) s
  | .dd dp cs off=>put (.dd dp cs off) s
  | .fn f a b=>put (.fn f a b) s
  | .may b dp cs=>jj b (put (.dd dp cs 0) s)
  | .opt i n=>(aN (match s.o i with | .row _ _ _ xs=>xs.length | _=>0) n).bind fun k=>put (.ptr ⟨i,some k,0⟩) s
  | _=>none
 | .binOp op ty x y _=>kq E ty op (bS s x) (bS s y) fun v=>put v s
 | .unOp op _ x=>Gu op (bS s x) fun v=>put v s
 | .convert src dst x=>qX E id s src dst (bS s x) put
 | .makeFunc (.func f) first kS=>put (.fn f (first.toList.map (bS s)) (kS.toList.map (bS s))) s
 | .makeSlice t l c =>
  match E.ty t,j6 (bS s l),j6 (bS s c) with
  | some (.sl T),some n,some m =>
   jj (decide (0≤n)&&decide (n=m)&&room n.toNat)
    (match mkObj s id (.row T T.own 0 (List.replicate n.toNat T.zero)) with
     | some s1=>put (.aS (.ag id none)) s1
     | none=>none)
  | _,_,_=>none
 | .slice t x lo hi gA =>
  match E.ty t with
  | some T=>NH s T (bS s x) lo hi gA fun v=>put v s
  | none=>none
 | .fieldAddr t x f =>
  match E.ty t,bS s x with
  | some (.st aj),.ptr p=>match aj.off f with
   | some (k,u)=>cond (Nat.beq u.size 0) none (put (.ptr { p with off:=p.off+k }) s)
   | none=>none
  | some (.st aj),.dd dp cs off=>match aj.off f with
   | some (k,u)=>cond (Nat.beq u.size 0) none (put (.dd dp cs (off+k)) s)
   | none=>none
  | _,_=>none
 | .field t x f =>
  match E.ty t,bS s x with
  | some (.st aj),.hW cs=>match aj.off f with
   | some (k,u)=>match (takeN k u.size cs).bind (jD u) with
    | some v=>put v s
    | none=>none
   | none=>none
  | _,_=>none
 | .indexAddr t x i =>
  match E.ty t,bS s x,j6 (bS s i) with
  | some (.sl u),.aS c,some n =>
   match c with
   | .ag id sub=>match s.o id with
    | .row v _ _ xs=>cond (ad.beq u v) ((aN (kT sub xs) n).bind fun k=>put (.ptr ⟨id,some (ea sub+k),0⟩) s) none
    | _=>none
   | .bY v dp cq xs=>cond (alive s dp&&ad.beq u v) ((aN xs.length n).bind fun k=>put (.dd dp (v.cells dp none (J v xs k)) 0) s) none
   | _=>none
  | _,_,_=>none
 | .index t x i =>
  match E.ty t,bS s x,j6 (bS s i) with
  | some .str,.aS (.str b),some n=>(aN b.length n).bind fun k=>put (.aS (.int .u8 (b.getD k 0).toNat)) s
  | _,_,_=>none
 | .extract x i =>
  match bS s x with
  | .ox l=>match l[i]? with
   | some v=>put v s
   | none=>none
  | _=>none
 | .call c =>
  let vs:=c.args.toList.map (bS s)
  match c.callee with
  | .builtin b=>jE E id s b c.argTypes.toList vs put
  | .value f=>match bS s f with
   | .fn g first kS=>Gw E id s g (first++vs++kS) put
   | _=>none
  | _=>none
 | _=>none
def guardOf(ops:List Oper)(o:Oper):Option (Option Nat×Bool) :=
 match o.guard with
 | none=>none
 | some (j,w)=>some ((ops[j]?).bind (·.dst),w)
def xt(E:Env)(o:Oper):Bool :=
 match o.dst with
 | some d=>Nat.blt d E.n
 | none=>true
noncomputable def sE(E:Env)(id:Nat)(ops:List Oper)(o:Oper)(s:an)(K:an→Option br):Option br :=
 cond (xt E o) (match guardOf ops o with
 | none=>cP E id o s K
 | some (some d,w) =>
  match s.t d with
  | .aS (.bool b) =>
   cond b (let aq:=s.set d (.aS (.bool true));cond w (cP E id o aq K) (K (aq.dst o.dst .gone)))
    (let aq:=s.set d (.aS (.bool false));cond w (K (aq.dst o.dst .gone)) (cP E id o aq K))
  | .gone=>K (s.dst o.dst .gone)
  | _=>none
 | some (none,_)=>none) none
def u7:List a6→Option Place
 | .aS (.bY _ _ cq _) :: _=>cq
 | _=>none
def GB:List bw→Bool
 | []=>true
 | .mut _ _ _ :: _=>false
 | .gP _ _ :: _=>false
 | .val _ _ :: l | .ref _ :: l | .fn _ _ :: l | .gQ _ :: l=>GB l
def WX:List bw→Bool
 | .val (.sl _) (.O _) :: _=>true
 | _=>false
def u9(key:Nat)(s:an)(t:ad):(ps:List bw)→List a6→Option ((bw.ins ps).D×an×List (Nat×Nat))
 | .val (.sl u) m :: ps,.aS (.bY _ dp cq _) :: vs=>cond (a'.beq m (.O u.own)&&(ad.beq t u&&GB ps)) ((sC u u.own s dp cq).bind fun r=>(fR key r.2 ps vs []).bind fun q=>some ((r.1,q.1),q.2)) none
 | _,_=>none
def xu(t:ad){aj:ax} :(rs:List cS)→(cS.outs rs aj).D→Option (List t.D)
 | [.val u m],x=>cond (a'.beq m (.O t.own)) (ez u (.sl t) x.1) none
 | _,_=>none
def NI(E:Env)(s:an)(o:Oper):Bool :=
 match o.op with
 | .call c=>match c.callee with
  | .value b3=>match bS s b3 with
   | .fn g [] []=>match u7 (c.args.toList.map (bS s)),E.fns g (oB (c.args.toList.map (bS s))) with
    | some _,some e=>WX e.ps
    | _,_=>false
   | _=>false
  | _=>false
 | _=>false
def u_(E:Env)(o dz eA eL:Oper)(k1 e1 e2 e0 d0 d1 d2:Nat):Bool :=
 Nat.beq d0 e0&&(Nat.beq d1 e1&&(Nat.beq d2 e2&&(!(Nat.beq k1 d0)&&(!(Nat.beq d0 d1)&&(!(Nat.beq d0 d2)&&(o.guard.isNone&&(dz.guard.isNone&&(eA.guard.isNone&&(eL.guard.isNone&&(eL.dst.isNone&&(Nat.blt d0 E.n&&(Nat.blt d1 E.n&&Nat.blt d2 E.n))))))))))))
def GC(s:an)(v:a6)(K:Place→Option br):Option br :=
 match v with
 | .ptr p=>K p
 | .opt i n=>(aN (match s.o i with | .row _ _ _ xs=>xs.length | _=>0) n).bind fun k=>K ⟨i,some k,0⟩
 | _=>none
def GD(E:Env)(s:an)(o:Oper)(l:List Oper)(K:an→Option br):Option br :=
 match l with
 | dz :: eA :: eL :: _ =>
  match o.op,dz.op,eA.op,eL.op with
  | .call c,.nilCheck (.tmp k1),.fieldAddr mB (.tmp e1) nF,.store mC (.tmp e2) (.tmp e0) =>
   match c.callee,o.dst,dz.dst,eA.dst with
   | .value b3,some d0,some d1,some d2=>cond (u_ E o dz eA eL k1 e1 e2 e0 d0 d1 d2)
    (match bS s b3,E.ty mB,E.ty mC with
    | .fn g [] [],some (.st aj),some (.sl t) =>
     match E.fns g (oB (c.args.toList.map (bS s))),aj.off nF,u7 (c.args.toList.map (bS s)) with
     | some e,some (k,u),some p=>GC s (s.t k1) fun jl=>cond (!(Nat.beq u.size 0)&&(Nat.beq jl.id p.id&&Nat.beq (jl.off+k) p.off))
      (match jl.fa,p.fa with
      | some i,some j=>cond (Nat.beq i j) (match u9 (oB (c.args.toList.map (bS s))) s t e.ps (c.args.toList.map (bS s)++kV (c.args.toList.map (bS s))) with
       | none=>none
       | some (x,s1,bh)=>cond (alive s1 bh&&nE (c.args.toList.map (bS s)))
        ((e.f x).bind fun r=>(xu t e.rs r).bind fun y=>(u3 t y (((s1.set d0 .aC).set d1 .aC).set d2 .aC) (some p)).bind K) none) none
      | _,_=>none) none
     | _,_,_=>none
    | _,_,_=>none) none
   | _,_,_,_=>none
  | _,_,_,_=>none
 | _=>none
noncomputable def sF(E:Env)(bB:Nat)(all:List Oper):List Oper→Nat→Nat→an→(an→Option br)→Option br
 | [],_,_,s,K=>K s
 | _ :: l,i,q+1,s,K=>sF E bB all l (i+1) q s K
 | o :: l,i,0,s,K=>cond (NI E s o) (GD E s o l fun aq=>sF E bB all l (i+1) 3 aq K) (sE E ((bB*256+i)*32) all o s fun aq=>sF E bB all l (i+1) 0 aq K)
noncomputable def GF(E:Env)(bB:Nat)(all:List Oper)(l:List Oper)(i:Nat)(s:an)(K:an→Option br):Option br := sF E bB all l i 0 s K
def sG(E:Env)(o:Oper):Bool :=
 match o.op with
 | .move _ | .assign _ | .pick _ _ _ | .load _ _ | .nilCheck _ | .binOp _ _ _ _ _ | .unOp _ _ _ | .slice _ _ _ _ _ | .fieldAddr _ _ _ | .field _ _ _ | .indexAddr _ _ _ | .index _ _ _ | .extract _ _ | .build _ _=>true
 | .makeFunc (.func _) _ _=>true
 | .convert a b _=>match E.ty a,E.ty b with
  | some (.int _),some (.int _)=>true
  | _,_=>false
 | .call c=>match c.callee with
  | .builtin .len | .builtin .min | .builtin .max=>true
  | _=>false
 | _=>false
def waits(ops:Array Oper)(j i:Nat):Bool :=
 match ops[j]? with
 | some o=>o.after.any fun e=>Region.binds .any e&&Nat.beq e.on i
 | none=>false
def GG(E:Env)(ops:Array Oper)(i:Nat):Bool :=
 match ops[i]? with
 | some o=>sG E o
 | none=>false
def iq(s:an)(o:Oper):List (Nat×Nat) :=
 match o.op with
 | .load _ x=>match bS s x with
  | .ptr p=>[(p.id,j5 s p.id)]
  | .dd dp _ _=>dp
  | _=>[]
 | _=>[]
def sH(s:an):List (Nat×List (Nat×Nat))→Bool
 | []=>true
 | p :: l=>cond (alive s p.2) (sH s l) false
def isApp(s:an)(o:Oper):Bool :=
 match o.op with
 | .call c=>match c.callee with
  | .builtin .append=>(u7 (c.args.toList.map (bS s))).isSome
  | _=>false
 | _=>false
def GH(id:Nat)(t:ad)(p:Place)(dp:List (Nat×Nat))(s:an)(cb:a8)(d0 d1 d2:Nat)(M:an→Bool)(K:an→Option br):Option br :=
 match added s t cb with
 | none=>none
 | some (j7,ys,s1)=>cond (a'.beq j7 t.own) ((sC t t.own s1 dp (some p)).bind fun r =>
   (mkObj r.2 id .dead).bind fun s2=>jj (room (r.1.length+ys.length)) (cond (M (s2.set d0 .aC)) ((u3 t (r.1++ys) (((s2.set d0 .aC).set d1 .aC).set d2 .aC) (some p)).bind K) none)) none
def GI(E:Env)(id:Nat)(s:an)(o dz eA eL:Oper)(M:an→Bool)(K:an→Option br):Option br :=
 match o.op,dz.op,eA.op,eL.op with
 | .call c,.indexAddr u' (.tmp k1) (.tmp k2),.fieldAddr mB (.tmp e1) nF,.store mC (.tmp e2) (.tmp e0) =>
  match c.callee,o.dst,dz.dst,eA.dst with
  | .builtin .append,some d0,some d1,some d2=>cond (u_ E o dz eA eL k1 e1 e2 e0 d0 d1 d2 && !(Nat.beq k2 d0))
   (match E.ty u',E.ty mB,E.ty mC,u5 E c.argTypes.toList,c.args.toList.map (bS s) with
   | some (.sl kX),some (.st aj),some (.sl t),some gS,[.aS (.bY _ dp (some p) _),vb] =>
    match aj.off nF,oneCell gS vb,s.t k1,j6 (s.t k2),s.o p.id,p.fa with
    | some (k,u),some cb,.aS (.ag i sub),some q,.row v _ _ xs,some j=>cond (ad.beq gS t&&(ad.beq kX v&&(!(Nat.beq u.size 0)&&(Nat.beq i p.id&&Nat.beq k p.off))))
      ((aN (kT sub xs) q).bind fun m=>cond (Nat.beq (ea sub+m) j) (GH id t p dp s cb d0 d1 d2 M K) none) none
    | _,_,_,_,_,_=>none
   | _,_,_,_,_=>none) none
  | _,_,_,_=>none
 | _,_,_,_=>none
def NJ(s:an)(ops:Array Oper)(rs:List Nat):Bool:=rs.any fun i=>match ops[i]? with
 | some o=>isApp s o
 | none=>false
def one:List Nat→Option Nat
 | [i]=>some i
 | _=>none
def GJ(E:Env)(bB:Nat)(ops:Array Oper)(listed:Array Bool)(iu:List (Nat×List (Nat×Nat)))(rs:List Nat)(s:an)(K:an→Option br):Option br :=
 (one rs).bind fun i=>(one (Region.ready .any ops (listed.setIfInBounds i true))).bind fun i1=>(one (Region.ready .any ops ((listed.setIfInBounds i true).setIfInBounds i1 true))).bind fun i2 =>
  (one (Region.ready .any ops (((listed.setIfInBounds i true).setIfInBounds i1 true).setIfInBounds i2 true))).bind fun i3 =>
   cond ((Region.ready .any ops ((((listed.setIfInBounds i true).setIfInBounds i1 true).setIfInBounds i2 true).setIfInBounds i3 true)).isEmpty&&((iu.filter fun p => !waits ops i p.1).filter fun p => !waits ops i1 p.1).isEmpty)
    (ops[i]?.bind fun o=>ops[i1]?.bind fun dz=>ops[i2]?.bind fun eA=>ops[i3]?.bind fun eL=>GI E ((bB*256+i)*32) s o dz eA eL (fun nG=>sH nG (iu.filter fun p => !waits ops i p.1)) K) none
noncomputable def dup(a:Option br):Option br := both a a
noncomputable def Av:List (Option br)→Option br
 | []=>none
 | [x]=>x
 | x :: l=>both x (Av l)
noncomputable def sI(E:Env)(bB:Nat)(ops:Array Oper):Nat→Array Bool→List (Nat×List (Nat×Nat))→an→(an→Option br)→Option br
 | 0,listed,_,s,K=>match Region.ready .any ops listed with
  | []=>K s
  | _=>none
 | n+1,listed,iu,s,K =>
  match Region.ready .any ops listed with
  | []=>K s
  | rs=>match rs.find? fun i=>GG E ops i&&Region.free .any ops listed i with
   | some i=>(match ops[i]? with
    | none=>none
    | some o=>sE E ((bB*256+i)*32) ops.toList o s fun aq=>sI E bB ops n (listed.setIfInBounds i true) ((i,iq s o) :: iu) aq K)
   | none=>cond (NJ s ops rs&&Nat.ble 3 n) (GJ E bB ops listed iu rs s K) (Av (rs.map fun i=>match ops[i]? with
    | none=>none
    | some o=>cond (sG E o) none (sE E ((bB*256+i)*32) ops.toList o s fun aq =>
      cond (sH aq (iu.filter fun p => !waits ops i p.1)) (sI E bB ops n (listed.setIfInBounds i true) (iu.filter fun p => !waits ops i p.1) aq K) none)))
noncomputable def GK(E:Env)(bB:Nat)(ops:Array Oper)(s:an)(K:an→Option br):Option br :=
 cond (Region.noSelect ops) (sI E bB ops ops.size (Array.replicate ops.size false) [] s K) none
structure Hand(br : Type) where
 cut:Nat→List Item→an→Option br
 fin:an→Option br
noncomputable def jF(E:Env)(cuts:Nat→Bool)(H:Hand br):Nat→Bool→List Item→an→Option br
 | 0,_,_,_=>none
 | n+1,first,todo,s =>
  match todo with
  | []=>H.fin s
  | .code .ret :: _=>H.fin s
  | .code .skip :: k | .inBlock _ :: k=>jF E cuts H n first k s
  | .code (.seq a b) :: k=>jF E cuts H n first (.code a :: .code b :: k) s
  | .code (.cond c x y) :: k =>
   match bS s c with
   | .aS (.bool b)=>cond b (jF E cuts H n first (.code x :: k) s) (jF E cuts H n first (.code y :: k) s)
   | _=>none
  | .code (.block id c) :: k=>jF E cuts H n first (.code c :: .inBlock id :: k) s
  | .code (.loop c) :: k | .inLoop c :: k=>jF E cuts H n first (.code c :: .inLoop c :: k) s
  | .code (.exit id) :: k =>
   match exitTo id k with
   | some k'=>jF E cuts H n first k' s
   | none=>none
  | .code (.region bB ops hC) :: k =>
   cond (cuts bB && !first) (H.cut bB todo s)
    (cond hC (GK E bB ops s fun aq=>jF E cuts H n false k aq) (GF E bB ops.toList ops.toList 0 s fun aq=>jF E cuts H n false k aq))
  | _=>none
end
end Go.LM
namespace Go.LM
abbrev ah:=Nat→Nat→Prop
def ah.none:ah:=fun _ _=>False
def ah.or(F G:ah):ah:=fun b o=>F b o∨G b o
def ah.apart(F G:ah):Prop:=∀b o,F b o→G b o→False
def ah.sub(F G:ah):Prop:=∀b o,F b o→G b o
def ah.run(b lo n:Nat):ah:=fun b' o=>b'=b∧lo≤o∧o<lo+n
abbrev at_(b o:Nat):Addr:=⟨b,o,none⟩
theorem qY(w:World)(b o:Nat):w.cell? (at_ b o)=match w.heap[b]? with | some (.cells c _ _)=>c[o]? | _=>none:=by
 simp only [World.cell?,at_]
 cases w.heap[b]? with
 | none=>rfl
 | some x=>cases x <;> rfl
theorem cell_of_heap{w:World}{b:Nat}{c:Array Value}{e:TypeId}{f:Nat×Nat}(h:w.heap[b]?=some (.cells c e f))(o:Nat) :
  w.cell? (at_ b o)=c[o]?:=by rw [qY,h]
theorem xk{w:World}{b o:Nat}{v:Value}(h:w.cell? (at_ b o)=some v) :
  ∃c e f,w.heap[b]?=some (.cells c e f)∧c[o]?=some v:=by
 rw [qY] at h
 split at h
 ·rename_i c e f hb;exact⟨c,e,f,hb,h⟩
 ·simp at h
theorem xl{w:World}{b o:Nat}{v:Value}(h:w.cell? (at_ b o)=some v):b<w.heap.size:=by
 obtain ⟨c,e,f,hb,_⟩:=xk h
 rcases Nat.lt_or_ge b w.heap.size with h | h
 ·exact h
 ·simp [Array.getElem?_eq_none h] at hb
structure Ext(w w':World)(F:ah):Prop where
 os:w'.os=w.os
 tape:w'.tape=w.tape
 output:w'.output=w.output
 size:w.heap.size≤w'.heap.size
 block:∀b,b<w.heap.size→w'.heap[b]?=w.heap[b]? ∨
  ∃c c' e f,w.heap[b]?=some (.cells c e f)∧w'.heap[b]?=some (.cells c' e f)∧c'.size=c.size∧∀o,¬F b o→c'[o]?=c[o]?
theorem Ext.refl(w:World)(F:ah):Ext w w F:=⟨rfl,rfl,rfl,Nat.le_refl _,fun _ _=>.inl rfl⟩
theorem Ext.mono{w w':World}{F G:ah}(h:Ext w w' F)(hs:∀b o,b<w.heap.size→F b o→G b o):Ext w w' G:=by
 refine⟨h.os,h.tape,h.output,h.size,fun b hb=>?_⟩
 rcases h.block b hb with h | ⟨c,c',e,f,h1,h2,h3,h4⟩
 ·exact .inl h
 ·exact .inr ⟨c,c',e,f,h1,h2,h3,fun o ho=>h4 o fun hf=>ho (hs b o hb hf)⟩
theorem Ext.trans{a b c:World}{F:ah}(h:Ext a b F)(k:Ext b c F):Ext a c F:=by
 refine⟨k.os.trans h.os,k.tape.trans h.tape,k.output.trans h.output,Nat.le_trans h.size k.size,fun i hi=>?_⟩
 rcases h.block i hi with h1 | ⟨x,bz,e,f,h1,h2,h3,h4⟩
 ·rcases k.block i (Nat.lt_of_lt_of_le hi h.size) with k1 | ⟨y,lI,gB,mD,k1,k2,k3,bf⟩
  ·exact .inl (k1.trans h1)
  ·exact .inr ⟨y,lI,gB,mD,h1 ▸ k1,k2,k3,bf⟩
 ·rcases k.block i (Nat.lt_of_lt_of_le hi h.size) with k1 | ⟨y,lI,gB,mD,k1,k2,k3,bf⟩
  ·exact .inr ⟨x,bz,e,f,h1,k1.trans h2,h3,h4⟩
  ·rw [h2] at k1
   simp only [Option.some.injEq,Obj.cells.injEq] at k1
   obtain ⟨rfl,rfl,rfl⟩:=k1
   exact .inr ⟨x,lI,e,f,h1,k2,k3.trans h3,fun o ho=>(bf o ho).trans (h4 o ho)⟩
theorem Ext.trans'{a b c:World}{F S:ah}(h:Ext a b F)(k:Ext b c S)(dM:∀i o,S i o→F i o∨a.heap.size≤i):Ext a c F:=by
 refine⟨k.os.trans h.os,k.tape.trans h.tape,k.output.trans h.output,Nat.le_trans h.size k.size,fun i hi=>?_⟩
 have hk:c.heap[i]?=b.heap[i]?∨∃x bz e f,b.heap[i]?=some (.cells x e f)∧c.heap[i]?=some (.cells bz e f)∧bz.size=x.size∧∀o,¬F i o→bz[o]?=x[o]?:=by
  rcases k.block i (Nat.lt_of_lt_of_le hi h.size) with k1 | ⟨y,lI,gB,mD,k1,k2,k3,bf⟩
  ·exact .inl k1
  ·refine .inr ⟨y,lI,gB,mD,k1,k2,k3,fun o ho=>bf o fun hs=>?_⟩
   rcases dM i o hs with h | h
   ·exact ho h
   ·omega
 rcases h.block i hi with h1 | ⟨x,bz,e,f,h1,h2,h3,h4⟩
 ·rcases hk with k1 | ⟨y,lI,gB,mD,k1,k2,k3,bf⟩
  ·exact .inl (k1.trans h1)
  ·exact .inr ⟨y,lI,gB,mD,h1 ▸ k1,k2,k3,bf⟩
 ·rcases hk with k1 | ⟨y,lI,gB,mD,k1,k2,k3,bf⟩
  ·exact .inr ⟨x,bz,e,f,h1,k1.trans h2,h3,h4⟩
  ·rw [h2] at k1
   simp only [Option.some.injEq,Obj.cells.injEq] at k1
   obtain ⟨rfl,rfl,rfl⟩:=k1
   exact .inr ⟨x,lI,e,f,h1,k2,k3.trans h3,fun o ho=>(bf o ho).trans (h4 o ho)⟩
theorem Ext.cell{w w':World}{F:ah}(h:Ext w w' F){b o:Nat}(hb:b<w.heap.size)(hf:¬F b o):w'.cell? (at_ b o)=w.cell? (at_ b o):=by
 rw [qY,qY]
 rcases h.block b hb with h | ⟨c,c',e,f,h1,h2,_,h4⟩
 ·rw [h]
 ·rw [h1,h2];exact h4 o hf
theorem pG(w:World)(b o:Nat):w.frozen? (at_ b o)=match w.heap[b]? with | some (.cells _ _ (lo,hi))=>decide (lo≤o)&&decide (o<hi) | _=>false:=rfl
theorem Ext.frozen{w w':World}{F:ah}(h:Ext w w' F){b:Nat}(hb:b<w.heap.size)(o:Nat):w'.frozen? (at_ b o)=w.frozen? (at_ b o):=by
 rw [pG,pG]
 rcases h.block b hb with h | ⟨c,c',e,f,h1,h2,_,_⟩
 ·rw [h]
 ·rw [h1,h2]
def e'(w:World)(b o:Nat):Prop:=(∃v,w.cell? (at_ b o)=some v)∧w.frozen? (at_ b o)=false
theorem Ext.WY{w w':World}{F:ah}(h:Ext w w' F){b o:Nat}(hc:∃v,w.cell? (at_ b o)=some v):∃v,w'.cell? (at_ b o)=some v:=by
 obtain ⟨v,hv⟩:=hc
 have hb:=xl hv
 obtain ⟨c,e,f,hh,hcv⟩:=xk hv
 rcases h.block b hb with h | ⟨x,bz,gB,mD,h1,h2,h3,_⟩
 ·exact⟨v,by rw [qY,h,hh];exact hcv⟩
 ·rw [hh] at h1
  simp only [Option.some.injEq,Obj.cells.injEq] at h1
  obtain ⟨rfl,rfl,rfl⟩:=h1
  have ho:o<c.size:=by
   rcases Nat.lt_or_ge o c.size with h | h
   ·exact h
   ·rw [Array.getElem?_eq_none h] at hcv;simp at hcv
  exact⟨bz[o]'(by omega),by rw [qY,h2];simp [Array.getElem?_eq_getElem,h3,ho]⟩
theorem Ext.pF{w w':World}{F:ah}(h:Ext w w' F){b o:Nat}(hc:e' w b o):e' w' b o :=
 ⟨h.WY hc.1,by rw [h.frozen (xl hc.1.choose_spec) o];exact hc.2⟩
def fz(w:World)(size b o:Nat):Prop:=e' w b o∧(size=1∨∀k,w.frozen? (at_ b k)=false)
theorem Ext.j3{w w':World}{F:ah}(h:Ext w w' F){size b o:Nat}(hc:fz w size b o):fz w' size b o :=
 ⟨h.pF hc.1,hc.2.imp id fun hk k=>by rw [h.frozen (xl hc.1.1.choose_spec) k];exact hk k⟩
theorem Ext.drew(w:World)(n:Nat)(F:ah):Ext w { w with drawn:=n } F:=⟨rfl,rfl,rfl,Nat.le_refl _,fun _ _=>.inl rfl⟩
theorem Ext.push(w:World)(o:Obj)(F:ah):Ext w { w with heap:=w.heap.push o } F :=
 ⟨rfl,rfl,rfl,by simp,fun b hb=>.inl (by simp only;rw [Array.getElem?_push,if_neg (by omega)])⟩
theorem NK(w:World)(o:Obj):({ w with heap:=w.heap.push o } : World).heap[w.heap.size]?=some o:=by simp
theorem NL(w:World)(c:Array Value)(e:TypeId)(f:Nat×Nat)(o:Nat) :
  ({ w with heap:=w.heap.push (.cells c e f) } : World).cell? (at_ w.heap.size o)=c[o]?:=cell_of_heap (NK w _) o
theorem GL(w:World)(b o:Nat)(v:Value)(b':Nat) :
  (w.setCell (at_ b o) v).heap[b']?=if b=b' then(w.heap[b']?).map (fun | .cells c e f=>.cells (c.setIfInBounds o v) e f | x=>x) else w.heap[b']?:=by
 simp only [World.setCell,Array.getElem?_modify,at_]
 split
 ·rename_i h;subst h
  cases w.heap[b]? with
  | none=>rfl
  | some x=>cases x <;> rfl
 ·rfl
theorem WZ(w:World)(b o:Nat)(v:Value)(b' o':Nat)(h:∃u,w.cell? (at_ b o)=some u) :
  (w.setCell (at_ b o) v).cell? (at_ b' o')=if b=b'∧o=o' then some v else w.cell? (at_ b' o'):=by
 obtain ⟨u,hu⟩:=h
 obtain ⟨c,e,f,hb,hc⟩:=xk hu
 have ho:o<c.size:=by
  rcases Nat.lt_or_ge o c.size with h | h
  ·exact h
  ·rw [Array.getElem?_eq_none h] at hc;simp at hc
 rw [qY,GL,qY]
 by_cases nH:b=b'
 ·subst nH
  rw [if_pos rfl,hb]
  simp only [Option.map_some,true_and]
  by_cases va:o=o'
  ·subst va;simp [Array.getElem?_setIfInBounds,ho]
  ·simp [Array.getElem?_setIfInBounds,va]
 ·rw [if_neg nH];simp [nH]
theorem W0(w:World)(b o:Nat)(v:Value)(b' o':Nat):(w.setCell (at_ b o) v).frozen? (at_ b' o')=w.frozen? (at_ b' o'):=by
 rw [pG,GL,pG]
 by_cases nH:b=b'
 ·subst nH
  rw [if_pos rfl]
  cases w.heap[b]? with
  | none=>rfl
  | some x=>cases x <;> rfl
 ·rw [if_neg nH]
theorem Ext.setCell{w:World}{b o:Nat}{F:ah}(v:Value)(hF:F b o):Ext w (w.setCell (at_ b o) v) F:=by
 refine⟨rfl,rfl,rfl,by simp [World.setCell],fun b' hb=>?_⟩
 rw [GL]
 by_cases nH:b=b'
 ·subst nH
  rw [if_pos rfl]
  cases hh:w.heap[b]? with
  | none=>exact .inl rfl
  | some x =>
   cases x with
   | cells c e f =>
    refine .inr ⟨c,_,e,f,rfl,rfl,by simp,fun o' ho=>?_⟩
    have:o≠o':=fun e=>ho (e ▸ hF)
    simp [Array.getElem?_setIfInBounds,this]
   | _=>exact .inl rfl
 ·rw [if_neg nH];exact .inl rfl
def setCells(w:World)(b:Nat):Nat→List Value→World
 | _,[]=>w
 | o,v :: vs=>setCells (w.setCell (at_ b o) v) b (o+1) vs
theorem ny{F:ah}(b:Nat)(vs:List Value):∀(w:World) (o:Nat),(∀i,i<vs.length→F b (o+i))→Ext w (setCells w b o vs) F:=by
 induction vs with
 | nil=>intro w o _;exact Ext.refl _ _
 | cons v vs ih =>
  intro w o h
  have h1:=Ext.setCell (w:=w) v (h 0 (by simp))
  have h2:=ih (w.setCell (at_ b o) v) (o+1) (fun i hi=>by have:=h (i+1) (by simp;omega);rwa [show o+1+i=o +(i+1) by omega])
  exact h1.trans (h2.mono fun _ _ _ h=>h)
theorem W4(b:Nat)(vs:List Value):∀(w:World) (o b' o':Nat),(setCells w b o vs).frozen? (at_ b' o')=w.frozen? (at_ b' o'):=by
 induction vs with
 | nil=>intros;rfl
 | cons v vs ih=>intro w o b' o';rw [setCells,ih,W0]
theorem vd(b:Nat)(vs:List Value):∀(w:World) (o:Nat),(∀i,i<vs.length→∃u,w.cell? (at_ b (o+i))=some u)→∀b' o',
  (setCells w b o vs).cell? (at_ b' o')=if b=b'∧o≤o'∧o'<o+vs.length then vs[o'-o]? else w.cell? (at_ b' o'):=by
 induction vs with
 | nil =>
  intro w o _ b' o'
  rw [setCells,if_neg]
  simp only [List.length_nil];omega
 | cons v vs ih =>
  intro w o h b' o'
  have h0:∃u,w.cell? (at_ b o)=some u:=by simpa using h 0 (by simp)
  have hx:=WZ w b o v
  rw [setCells,ih]
  ·by_cases hb:b=b'
   ·subst hb
    by_cases h1:o+1≤o'∧o'<o+1+vs.length
    ·rw [if_pos ⟨rfl,h1⟩,if_pos ⟨rfl,by omega,by simp;omega⟩]
     obtain ⟨k,hk⟩:∃k,o'-o=k+1:=⟨o'-o-1,by omega⟩
     rw [hk,List.getElem?_cons_succ,show o'-(o+1)=k by omega]
    ·rw [if_neg (by simpa using h1),hx b o' h0]
     by_cases h2:o=o'
     ·subst h2;rw [if_pos ⟨rfl,rfl⟩,if_pos ⟨rfl,Nat.le_refl _,by simp⟩];simp
     ·rw [if_neg (by simp [h2]),if_neg]
      simp only [List.length_cons];omega
   ·rw [if_neg (by simp [hb]),if_neg (by simp [hb]),hx b' o' h0,if_neg (by simp [hb])]
  ·intro i hi
   rw [hx b _ h0]
   split
   ·exact⟨v,rfl⟩
   ·have:=h (i+1) (by simp;omega)
    rwa [show o+1+i=o +(i+1) by omega]
def b2(w:World)(b o:Nat)(vs:List Value):Prop:=∀i v,vs[i]?=some v→w.cell? (at_ b (o+i))=some v
theorem b2.nil(w:World)(b o:Nat):b2 w b o []:=by intro i v h;simp at h
theorem b2.cons{w:World}{b o:Nat}{v:Value}{vs:List Value}(h:w.cell? (at_ b o)=some v)(hs:b2 w b (o+1) vs):b2 w b o (v :: vs):=by
 intro i u hu
 cases i with
 | zero=>simp at hu;subst hu;simpa using h
 | succ i=>rw [List.getElem?_cons_succ] at hu;have:=hs i u hu;rwa [show o+1+i=o +(i+1) by omega] at this
theorem b2.head{w:World}{b o:Nat}{v:Value}{vs:List Value}(h:b2 w b o (v :: vs)):w.cell? (at_ b o)=some v:=by simpa using h 0 v rfl
theorem b2.tail{w:World}{b o:Nat}{v:Value}{vs:List Value}(h:b2 w b o (v :: vs)):b2 w b (o+1) vs:=by
 intro i u hu;have:=h (i+1) u (by simpa using hu);rwa [show o +(i+1)=o+1+i by omega] at this
theorem b2.append{w:World}{b o:Nat}{us vs:List Value}(h:b2 w b o us)(k:b2 w b (o+us.length) vs):b2 w b o (us++vs):=by
 intro i v hv
 rcases Nat.lt_or_ge i us.length with hi | hi
 ·rw [List.getElem?_append_left hi] at hv;exact h i v hv
 ·rw [List.getElem?_append_right hi] at hv
  have:=k _ v hv
  rwa [show o+us.length +(i-us.length)=o+i by omega] at this
theorem b2.left{w:World}{b o:Nat}{us vs:List Value}(h:b2 w b o (us++vs)):b2 w b o us:=by
 intro i v hv
 have hi:i<us.length:=by
  rcases Nat.lt_or_ge i us.length with h | h
  ·exact h
  ·rw [List.getElem?_eq_none h] at hv;simp at hv
 exact h i v (by rw [List.getElem?_append_left hi];exact hv)
theorem b2.right{w:World}{b o:Nat}{us vs:List Value}(h:b2 w b o (us++vs)):b2 w b (o+us.length) vs:=by
 intro i v hv
 have:=h (us.length+i) v (by rw [List.getElem?_append_right (by omega),Nat.add_sub_cancel_left];exact hv)
 rwa [show o +(us.length+i)=o+us.length+i by omega] at this
theorem b2.part{w:World}{b o:Nat}{vs:List Value}(h:b2 w b o vs)(k n:Nat):b2 w b (o+k) ((vs.drop k).take n):=by
 intro i v hv
 rw [List.getElem?_take] at hv
 split at hv
 ·rw [List.getElem?_drop] at hv
  have:=h _ v hv
  rwa [show o +(k+i)=o+k+i by omega] at this
 ·simp at hv
theorem b2.of_eq{w w':World}{b o:Nat}{vs:List Value}(h:b2 w b o vs)(he:∀i,i<vs.length→w'.cell? (at_ b (o+i))=w.cell? (at_ b (o+i))):b2 w' b o vs:=by
 intro i v hv
 have hi:i<vs.length:=by
  rcases Nat.lt_or_ge i vs.length with h | h
  ·exact h
  ·rw [List.getElem?_eq_none h] at hv;simp at hv
 rw [he i hi];exact h i v hv
theorem pK(b o n:Nat):(at_ b o).add n=at_ b (o+n):=by
 unfold Addr.add;split
 ·rename_i h;subst h;rfl
 ·rfl
section
variable{P:Program}
theorem run_pure{α : Type}(x : α)(w:World):(pure x:Sem α).run P w=.ok x w:=rfl
theorem run_bind{α β : Type}(s:Sem α)(f : α → Sem β)(w:World):(s >>= f).run P w=match s.run P w with | .ok x w'=>(f x).run P w' | .halt h w'=>.halt h w':=by
 show(Sem.bind s f).run P w=_
 induction s generalizing w with
 | pure a=>rfl
 | load m a k ih =>
  simp only [Sem.bind,Sem.run]
  cases w.cell? a with
  | some v=>exact ih v w
  | none =>
   cases w.farLoad P a (m==.atomic) with
   | error h=>rfl
   | ok r=>exact ih r.1 w
 | store m a v k ih =>
  cases v with
  | agg _=>rfl
  | tuple _=>rfl
  | _ =>
   simp only [Sem.bind,Sem.run]
   cases w.cell? a with
   | some u =>
    dsimp only
    split
    ·rfl
    ·exact ih _
   | none =>
    dsimp only
    split
    ·exact ih _
    ·rfl
 | new o k ih=>exact ih _ _
 | shape r k ih=>exact ih _ _
 | freeze a n k ih=>exact ih _
 | frozen a k ih=>exact ih _ _
 | getObj r k ih =>
  simp only [Sem.bind,Sem.run]
  cases w.heap[r]? with
  | none=>rfl
  | some o=>cases o <;> first | rfl | exact ih _ _
 | setObj r o k ih =>
  simp only [Sem.bind,Sem.run]
  cases w.heap[r]? with
  | none=>rfl
  | some o=>cases o <;> first | rfl | exact ih _
 | choose q k ih =>
  simp only [Sem.bind,Sem.run]
  split <;> exact ih _ _
 | sys c k ih=>exact ih _ _
 | program k ih=>exact ih _ _
 | mark m k ih=>exact ih _
 | halt h=>rfl
def dY:Value→Bool
 | .agg _ | .tuple _=>false
 | _=>true
theorem run_load{w:World}{b o:Nat}{v:Value}(h:w.cell? (at_ b o)=some v):(load (at_ b o)).run P w=.ok v w:=by
 simp [load,Sem.run,h]
theorem run_loadCellsFrom{w:World}(b o:Nat)(vs:List Value):∀(k:Nat) (acc:Array Value),b2 w b (o+k) vs →
  (loadCellsFrom (at_ b o) k vs.length acc).run P w=.ok (acc++vs.toArray) w:=by
 induction vs with
 | nil=>intro k acc _;simp [loadCellsFrom,run_pure]
 | cons v vs ih =>
  intro k acc h
  simp only [List.length_cons,loadCellsFrom]
  rw [run_bind,pK,run_load h.head]
  simp only
  rw [ih (k+1) (acc.push v) (by rw [← Nat.add_assoc];exact h.tail)]
  congr 1
  apply Array.ext'
  simp
theorem run_loadCells{w:World}{b o:Nat}{vs:List Value}(h:b2 w b o vs):(loadCells (at_ b o) vs.length).run P w=.ok vs.toArray w:=by
 unfold loadCells
 rw [run_loadCellsFrom b o vs 0 #[] (by simpa using h)]
 simp
theorem run_store{w:World}{b o:Nat}{v:Value}(hv:dY v=true)(h:e' w b o):(store (at_ b o) v).run P w=.ok () (w.setCell (at_ b o) v):=by
 obtain ⟨⟨u,hu⟩,hf⟩:=h
 cases v <;> simp_all [store,Sem.run,dY]
theorem Ai{b o:Nat}(vs:List Value):∀(w:World) (k:Nat),(∀v∈vs,dY v=true)→(∀i,i<vs.length→e' w b (o+k+i)) →
  (storeCells (at_ b o) vs k).run P w=.ok () (setCells w b (o+k) vs):=by
 induction vs with
 | nil=>intros;rfl
 | cons v vs ih =>
  intro w k h1 h2
  unfold storeCells
  have h0:e' w b (o+k):=h2 0 (by simp)
  rw [run_bind,pK,run_store (h1 v (by simp)) h0]
  simp only
  rw [ih _ (k+1) (fun v hv=>h1 v (by simp [hv]))]
  ·rfl
  ·intro i hi
   have:=h2 (i+1) (by simp;omega)
   refine Ext.pF (Ext.setCell (F:=fun _ _=>True) v trivial) ?_
   rwa [show o +(k+1)+i=o+k +(i+1) by omega]
end
end Go.LM
namespace Go.LM
def Row{α : Type}(w:World)(R : α → List Value→ah→Prop)(size:Nat):List α → Nat→Nat→ah→Prop
 | [],_,_,_=>True
 | x :: xs,b,o,F=>∃vs G H,R x vs G∧vs.length=size∧b2 w b o vs∧Row w R size xs b (o+size) H∧ah.apart G H∧ah.sub G F∧ah.sub H F
structure mA{α : Type}(w:World)(R : α → List Value→ah→Prop)(size:Nat)(x:List α)(a:Addr)(c:Nat)(F:ah):Prop where
 spot:a.spot=none
 cap:x.length≤c
 wr:∀j,j<c*size→fz w size a.block (a.off+j)
 inF:∀j,j<c*size→F a.block (a.off+j)
 row:∃G,Row w R size x a.block a.off G∧(∀j,j<c*size→¬G a.block (a.off+j))∧ah.sub G F
mutual
def ad.al(w:World)(Z:ah):(t:ad)→a'→t.D→List Value→ah→Prop
 | .int k,_,x,vs,_=>vs=[.int k x]
 | .bool,_,x,vs,_=>vs=[.bool x]
 | .str,_,x,vs,_=>∃s:ByteArray,vs=[.string s]∧s.data.toList=x
 | .raw,_,x,vs,_=>vs=[x]∧∃A n c,x=.slice A n c
 | .sl t,.O e,x,vs,F=>∃A c,vs=[.slice A x.length c]∧((x=[]∧c=0)∨∃a,A=some a∧mA w (t.al w Z e) t.size x a c F)
 | .sl t,_,x,vs,_=>∃A c,vs=[.slice A x.length c]∧(x=[]∨∃a,A=some a∧a.spot=none∧Row w (fun y us _=>t.al w Z .R y us ah.none) t.size x a.block a.off ah.none∧(∀j,j<x.length*t.size→Z a.block (a.off+j))∧x.length≤c)
 | .st aj,m,x,vs,F=>aj.al w Z m.parts x vs F
def ax.al(w:World)(Z:ah):(aj:ax)→cQ→aj.D→List Value→ah→Prop
 | .nil,_,_,vs,_=>vs=[]
 | .cons t aj,m,x,vs,F=>∃us bE G H,vs=us++bE∧t.al w Z m.ag x.1 us G∧aj.al w Z m.dq x.2 bE H∧ah.apart G H∧ah.sub G F∧ah.sub H F
end
def b4(w w':World)(S:ah):Prop:=∀b o,S b o→w'.cell? (at_ b o)=w.cell? (at_ b o)∧∀k,w'.frozen? (at_ b k)=w.frozen? (at_ b k)
theorem b4.mono{w w':World}{S T:ah}(h:b4 w w' S)(hs:ah.sub T S):b4 w w' T:=fun b o ho=>h b o (hs b o ho)
theorem b4.pF{w w':World}{S:ah}(h:b4 w w' S){b o:Nat}(hs:S b o)(hw:e' w b o):e' w' b o:=by
 obtain ⟨⟨v,hv⟩,hf⟩:=hw
 exact⟨⟨v,by rw [(h b o hs).1];exact hv⟩,by rw [(h b o hs).2 o];exact hf⟩
theorem b4.j3{w w':World}{S:ah}(h:b4 w w' S){size b o:Nat}(hs:S b o)(hw:fz w size b o):fz w' size b o :=
 ⟨h.pF hs hw.1,hw.2.imp id fun hk k=>by rw [(h b o hs).2 k];exact hk k⟩
theorem b4.Aw{w w':World}{S:ah}(h:b4 w w' S){b o:Nat}{vs:List Value}(hs:∀i,i<vs.length→S b (o+i))(hc:b2 w b o vs):b2 w' b o vs :=
 hc.of_eq fun i hi=>(h b _ (hs i hi)).1
theorem b4.refl(w:World)(S:ah):b4 w w S:=fun _ _ _=>⟨rfl,fun _=>rfl⟩
theorem b4.trans{a b c:World}{S:ah}(h:b4 a b S)(k:b4 b c S):b4 a c S:=fun i o hs=>⟨(k i o hs).1.trans (h i o hs).1,fun j=>((k i o hs).2 j).trans ((h i o hs).2 j)⟩
theorem Row.mono{α : Type}{w:World}{R : α → List Value→ah→Prop}{size:Nat}{F F':ah}(hF:ah.sub F F'):∀ {x:List α} {b o:Nat},Row w R size x b o F→Row w R size x b o F'
 | [],_,_,_=>trivial
 | _ :: _,_,_,⟨vs,G,H,h1,h2,h3,h4,aZ,bd,bC⟩=>⟨vs,G,H,h1,h2,h3,h4,aZ,fun b o h=>hF b o (bd b o h),fun b o h=>hF b o (bC b o h)⟩
theorem Row.imp{α : Type}{w w':World}{R iv : α → List Value→ah→Prop}{size:Nat} : ∀ {x:List α} {b o:Nat} {F:ah},Row w R size x b o F →
  (∀y vs G,ah.sub G F→R y vs G→iv y vs G)→(∀j,j<x.length*size→w'.cell? (at_ b (o+j))=w.cell? (at_ b (o+j)))→Row w' iv size x b o F
 | [],_,_,_,_,_,_=>trivial
 | y :: x,b,o,F,⟨vs,G,H,h1,h2,h3,h4,aZ,bd,bC⟩,dt,hc=>by
  refine⟨vs,G,H,dt _ _ _ bd h1,h2,h3.of_eq fun i hi=>hc i ?_,?_,aZ,bd,bC⟩
  ·rw [List.length_cons,Nat.add_one_mul];omega
  ·refine Row.imp h4 (fun y vs de hG=>dt y vs de fun b o h=>bC b o (hG b o h)) fun j hj=>?_
   have:=hc (size+j) (by rw [List.length_cons,Nat.add_one_mul];omega)
   rwa [← Nat.add_assoc] at this
theorem Row.bare{α : Type}{w:World}{R iv : α → List Value→ah→Prop}{size:Nat} : ∀ {x:List α} {b o:Nat} {F:ah},Row w R size x b o F →
  (∀y vs G,ah.sub G F→R y vs G→iv y vs ah.none)→Row w iv size x b o ah.none
 | [],_,_,_,_,_=>trivial
 | y :: x,b,o,F,⟨vs,G,H,h1,h2,h3,h4,aZ,bd,bC⟩,dt =>
  ⟨vs,ah.none,ah.none,dt _ _ _ bd h1,h2,h3,Row.bare h4 fun y vs de hG=>dt y vs de fun b o h=>bC b o (hG b o h),fun _ _ h=>h.elim,fun _ _ h=>h,fun _ _ h=>h⟩
mutual
theorem ad.al.mono{w:World}{Z Z':ah}(hZ:ah.sub Z Z'):∀(t:ad) (m:a') {x:t.D} {vs:List Value} {F F':ah},ah.sub F F'→t.al w Z m x vs F→t.al w Z' m x vs F'
 | .int _,_,_,_,_,_,_,h=>by simpa only [ad.al] using h
 | .bool,_,_,_,_,_,_,h=>by simpa only [ad.al] using h
 | .str,_,_,_,_,_,_,h=>by simpa only [ad.al] using h
 | .raw,_,_,_,_,_,_,h=>by simpa only [ad.al] using h
 | .sl t,.O e,x,vs,F,F',hF,h=>by
  simp only [ad.al] at h ⊢
  obtain ⟨A,c,h1,h2⟩:=h
  refine⟨A,c,h1,h2.imp id ?_⟩
  rintro ⟨a,h3,h4⟩
  obtain ⟨G,g1,g2,g3⟩:=h4.row
  exact⟨a,h3,h4.spot,h4.cap,h4.wr,fun j hj=>hF _ _ (h4.inF j hj),G,g1.imp (fun y vs de _=>ad.al.mono hZ t e fun _ _ h=>h) (fun _ _=>rfl),g2,fun b o h=>hF b o (g3 b o h)⟩
 | .sl t,.R,x,vs,F,F',hF,h=>by
  simp only [ad.al] at h ⊢
  obtain ⟨A,c,h1,h2⟩:=h
  refine⟨A,c,h1,h2.imp id ?_⟩
  rintro ⟨a,h3,h4,aZ,bd⟩
  exact⟨a,h3,h4,aZ.imp (fun y vs de _=>ad.al.mono hZ t .R fun _ _ h=>h) (fun _ _=>rfl),fun j hj=>hZ _ _ (bd.1 j hj),bd.2⟩
 | .sl t,.S _,x,vs,F,F',hF,h=>by
  simp only [ad.al] at h ⊢
  obtain ⟨A,c,h1,h2⟩:=h
  refine⟨A,c,h1,h2.imp id ?_⟩
  rintro ⟨a,h3,h4,aZ,bd⟩
  exact⟨a,h3,h4,aZ.imp (fun y vs de _=>ad.al.mono hZ t .R fun _ _ h=>h) (fun _ _=>rfl),fun j hj=>hZ _ _ (bd.1 j hj),bd.2⟩
 | .st aj,m,x,vs,F,F',hF,h=>by
  simp only [ad.al] at h ⊢
  exact ax.al.mono hZ aj m.parts hF h
theorem ax.al.mono{w:World}{Z Z':ah}(hZ:ah.sub Z Z'):∀(aj:ax) (m:cQ) {x:aj.D} {vs:List Value} {F F':ah},ah.sub F F'→aj.al w Z m x vs F→aj.al w Z' m x vs F'
 | .nil,_,_,_,_,_,_,h=>by simpa only [ax.al] using h
 | .cons t aj,m,x,vs,F,F',hF,h=>by
  simp only [ax.al] at h ⊢
  obtain ⟨us,bE,G,H,h1,h2,h3,h4,aZ,bd⟩:=h
  exact⟨us,bE,G,H,h1,ad.al.mono hZ t m.ag (fun _ _ h=>h) h2,ax.al.mono hZ aj m.dq (fun _ _ h=>h) h3,h4,fun b o h=>hF b o (aZ b o h),fun b o h=>hF b o (bd b o h)⟩
end
mutual
theorem ad.al.same{w w':World}{Z:ah}(hZ:b4 w w' Z):∀(t:ad) (m:a') {x:t.D} {vs:List Value} {F:ah},b4 w w' F→t.al w Z m x vs F→t.al w' Z m x vs F
 | .int _,_,_,_,_,_,h=>by simpa only [ad.al] using h
 | .bool,_,_,_,_,_,h=>by simpa only [ad.al] using h
 | .str,_,_,_,_,_,h=>by simpa only [ad.al] using h
 | .raw,_,_,_,_,_,h=>by simpa only [ad.al] using h
 | .sl t,.O e,x,vs,F,hF,h=>by
  simp only [ad.al] at h ⊢
  obtain ⟨A,c,h1,h2⟩:=h
  refine⟨A,c,h1,h2.imp id ?_⟩
  rintro ⟨a,h3,h4⟩
  obtain ⟨G,g1,g2,g3⟩:=h4.row
  have hle:x.length*t.size≤c*t.size:=Nat.mul_le_mul_right _ h4.cap
  exact⟨a,h3,h4.spot,h4.cap,fun j hj=>hF.j3 (h4.inF j hj) (h4.wr j hj),h4.inF,G,g1.imp (fun y vs de hG=>ad.al.same hZ t e (hF.mono fun b o h=>g3 b o (hG b o h))) (fun j hj=>(hF _ _ (h4.inF j (by omega))).1),g2,g3⟩
 | .sl t,.R,x,vs,F,hF,h=>by
  simp only [ad.al] at h ⊢
  obtain ⟨A,c,h1,h2⟩:=h
  refine⟨A,c,h1,h2.imp id ?_⟩
  rintro ⟨a,h3,h4,aZ,bd⟩
  exact⟨a,h3,h4,aZ.imp (fun y vs de _=>ad.al.same hZ t .R (fun _ _ h=>h.elim)) (fun j hj=>(hZ _ _ (bd.1 j hj)).1),bd⟩
 | .sl t,.S _,x,vs,F,hF,h=>by
  simp only [ad.al] at h ⊢
  obtain ⟨A,c,h1,h2⟩:=h
  refine⟨A,c,h1,h2.imp id ?_⟩
  rintro ⟨a,h3,h4,aZ,bd⟩
  exact⟨a,h3,h4,aZ.imp (fun y vs de _=>ad.al.same hZ t .R (fun _ _ h=>h.elim)) (fun j hj=>(hZ _ _ (bd.1 j hj)).1),bd⟩
 | .st aj,m,x,vs,F,hF,h=>by
  simp only [ad.al] at h ⊢
  exact ax.al.same hZ aj m.parts hF h
theorem ax.al.same{w w':World}{Z:ah}(hZ:b4 w w' Z):∀(aj:ax) (m:cQ) {x:aj.D} {vs:List Value} {F:ah},b4 w w' F→aj.al w Z m x vs F→aj.al w' Z m x vs F
 | .nil,_,_,_,_,_,h=>by simpa only [ax.al] using h
 | .cons t aj,m,x,vs,F,hF,h=>by
  simp only [ax.al] at h ⊢
  obtain ⟨us,bE,G,H,h1,h2,h3,h4,aZ,bd⟩:=h
  exact⟨us,bE,G,H,h1,ad.al.same hZ t m.ag (hF.mono aZ) h2,ax.al.same hZ aj m.dq (hF.mono bd) h3,h4,aZ,bd⟩
end
mutual
theorem ad.al.len{w:World}{Z:ah} : ∀(t:ad) (m:a') {x:t.D} {vs:List Value} {F:ah},t.al w Z m x vs F→vs.length=t.size∧∀v∈vs,dY v=true
 | .int _,_,_,_,_,h=>by simp only [ad.al] at h;subst h;simp [ad.size,dY]
 | .bool,_,_,_,_,h=>by simp only [ad.al] at h;subst h;simp [ad.size,dY]
 | .str,_,_,_,_,h=>by simp only [ad.al] at h;obtain ⟨s,rfl,_⟩:=h;simp [ad.size,dY]
 | .raw,_,_,_,_,h=>by simp only [ad.al] at h;obtain ⟨rfl,A,n,c,rfl⟩:=h;simp [ad.size,dY]
 | .sl t,.O e,x,vs,F,h=>by simp only [ad.al] at h;obtain ⟨A,c,rfl,_⟩:=h;simp [ad.size,dY]
 | .sl t,.R,x,vs,F,h=>by simp only [ad.al] at h;obtain ⟨A,c,rfl,_⟩:=h;simp [ad.size,dY]
 | .sl t,.S _,x,vs,F,h=>by simp only [ad.al] at h;obtain ⟨A,c,rfl,_⟩:=h;simp [ad.size,dY]
 | .st aj,m,x,vs,F,h=>by simp only [ad.al] at h;simpa only [ad.size] using ax.al.len aj m.parts h
theorem ax.al.len{w:World}{Z:ah} : ∀(aj:ax) (m:cQ) {x:aj.D} {vs:List Value} {F:ah},aj.al w Z m x vs F→vs.length=aj.size∧∀v∈vs,dY v=true
 | .nil,_,_,_,_,h=>by simp only [ax.al] at h;subst h;simp [ax.size]
 | .cons t aj,m,x,vs,F,h=>by
  simp only [ax.al] at h
  obtain ⟨us,bE,G,H,rfl,h2,h3,_⟩:=h
  have a:=ad.al.len t m.ag h2
  have b:=ax.al.len aj m.dq h3
  refine⟨by simp [ax.size,a.1,b.1],fun v hv=>?_⟩
  rcases List.mem_append.1 hv with h | h
  ·exact a.2 v h
  ·exact b.2 v h
end
mutual
theorem ad.al.read{w:World}{Z Z':ah}(hZ:ah.sub Z Z'):∀(t:ad) (m:a') {x:t.D} {vs:List Value} {F:ah},ah.sub F Z'→t.al w Z m x vs F→t.al w Z' .R x vs ah.none
 | .int _,_,_,_,_,_,h=>by simpa only [ad.al] using h
 | .bool,_,_,_,_,_,h=>by simpa only [ad.al] using h
 | .str,_,_,_,_,_,h=>by simpa only [ad.al] using h
 | .raw,_,_,_,_,_,h=>by simpa only [ad.al] using h
 | .sl t,.O e,x,vs,F,hF,h=>by
  simp only [ad.al] at h ⊢
  obtain ⟨A,c,h1,h2⟩:=h
  refine⟨A,c,h1,?_⟩
  rcases h2 with⟨h,_⟩ | ⟨a,h3,h4⟩
  ·exact .inl h
  ·obtain ⟨G,g1,g2,g3⟩:=h4.row
   have hle:x.length*t.size≤c*t.size:=Nat.mul_le_mul_right _ h4.cap
   exact .inr ⟨a,h3,h4.spot,g1.bare fun y vs de hG=>ad.al.read hZ t e (fun b o h=>hF b o (g3 b o (hG b o h))),fun j hj=>hF _ _ (h4.inF j (by omega)),h4.cap⟩
 | .sl t,.R,x,vs,F,hF,h=>ad.al.mono hZ (.sl t) .R (F:=ah.none) (fun _ _ h=>h) (by simpa only [ad.al] using h)
 | .sl t,.S _,x,vs,F,hF,h=>ad.al.mono hZ (.sl t) .R (F:=ah.none) (fun _ _ h=>h) (by simpa only [ad.al] using h)
 | .st aj,m,x,vs,F,hF,h=>by
  simp only [ad.al] at h ⊢
  exact ax.al.read hZ aj m.parts hF h
theorem ax.al.read{w:World}{Z Z':ah}(hZ:ah.sub Z Z'):∀(aj:ax) (m:cQ) {x:aj.D} {vs:List Value} {F:ah},ah.sub F Z'→aj.al w Z m x vs F→aj.al w Z' (a'.parts .R) x vs ah.none
 | .nil,_,_,_,_,_,h=>by simpa only [ax.al] using h
 | .cons t aj,m,x,vs,F,hF,h=>by
  simp only [ax.al] at h ⊢
  obtain ⟨us,bE,G,H,h1,h2,h3,h4,aZ,bd⟩:=h
  exact⟨us,bE,ah.none,ah.none,h1,ad.al.read hZ t m.ag (fun b o h=>hF b o (aZ b o h)) h2,ax.al.read hZ aj m.dq (fun b o h=>hF b o (bd b o h)) h3,fun _ _ h=>h.elim,fun _ _ h=>h,fun _ _ h=>h⟩
end
mutual
theorem qZ{w:World}{Z:ah} : ∀ {t:ad} {x:t.D} {vs:List Value} {F:ah},t.al w Z .R x vs F→t.al w Z .R x vs ah.none
 | .int _,_,_,_,h=>by simpa only [ad.al] using h
 | .bool,_,_,_,h=>by simpa only [ad.al] using h
 | .str,_,_,_,h=>by simpa only [ad.al] using h
 | .raw,_,_,_,h=>by simpa only [ad.al] using h
 | .sl t,_,_,_,h=>by simpa only [ad.al] using h
 | .st aj,_,_,_,h=>by simp only [ad.al] at h ⊢;exact NM h
theorem NM{w:World}{Z:ah} : ∀ {aj:ax} {x:aj.D} {vs:List Value} {F:ah},aj.al w Z (a'.parts .R) x vs F→aj.al w Z (a'.parts .R) x vs ah.none
 | .nil,_,_,_,h=>by simpa only [ax.al] using h
 | .cons t aj,_,_,_,h=>by
  simp only [ax.al] at h ⊢
  obtain ⟨us,bE,G,H,h1,h2,h3,h4,aZ,bd⟩:=h
  exact⟨us,bE,ah.none,ah.none,h1,qZ h2,NM h3,fun _ _ h=>h.elim,fun _ _ h=>h,fun _ _ h=>h⟩
end
mutual
theorem qS{w:World}{Z Z':ah} : ∀(t:ad) {m m':a'} {x:t.D} {vs:List Value} {F F':ah},t.flat=true→t.al w Z m x vs F→t.al w Z' m' x vs F'
 | .int _,_,_,_,_,_,_,_,h=>by simpa only [ad.al] using h
 | .bool,_,_,_,_,_,_,_,h=>by simpa only [ad.al] using h
 | .str,_,_,_,_,_,_,_,h=>by simpa only [ad.al] using h
 | .raw,_,_,_,_,_,_,_,h=>by simpa only [ad.al] using h
 | .sl t,_,_,_,_,_,_,hf,h=>by simp [ad.flat] at hf
 | .st aj,_,_,_,_,_,_,hf,h=>by simp only [ad.flat] at hf;simp only [ad.al] at h ⊢;exact NN aj hf h
theorem NN{w:World}{Z Z':ah} : ∀(aj:ax) {m m':cQ} {x:aj.D} {vs:List Value} {F F':ah},aj.flat=true→aj.al w Z m x vs F→aj.al w Z' m' x vs F'
 | .nil,_,_,_,_,_,_,_,h=>by simpa only [ax.al] using h
 | .cons t aj,_,_,_,_,_,_,hf,h=>by
  simp only [ax.flat] at hf
  simp only [ax.al] at h ⊢
  obtain ⟨us,bE,G,H,h1,h2,h3,h4,aZ,bd⟩:=h
  cases hb:t.flat
  ·rw [hb] at hf;simp at hf
  ·rw [hb] at hf
   exact⟨us,bE,ah.none,ah.none,h1,qS t hb h2,NN aj hf h3,fun _ _ h=>h.elim,fun _ _ h=>h.elim,fun _ _ h=>h.elim⟩
end
mutual
theorem sJ{w:World}{Z Z':ah} : ∀(t:ad) {x:t.D} {vs:List Value} {F:ah},t.al w Z t.own x vs F→t.al w Z' t.own x vs F
 | .int _,_,_,_,h=>by simpa only [ad.al] using h
 | .bool,_,_,_,h=>by simpa only [ad.al] using h
 | .str,_,_,_,h=>by simpa only [ad.al] using h
 | .raw,_,_,_,h=>by simpa only [ad.al] using h
 | .sl t,_,_,_,h=>by
  simp only [ad.own,ad.al] at h ⊢
  obtain ⟨A,c,h1,h2⟩:=h
  refine⟨A,c,h1,h2.imp (fun h=>h) ?_⟩
  rintro ⟨a,h3,h4⟩
  obtain ⟨G,g1,g2,g3⟩:=h4.row
  exact⟨a,h3,h4.spot,h4.cap,h4.wr,h4.inF,G,g1.imp (fun y vs de _=>sJ t) (fun _ _=>rfl),g2,g3⟩
 | .st aj,_,_,_,h=>by
  simp only [ad.own] at h ⊢
  cases hb:aj.flat
  ·rw [hb] at h
   simp only [ad.al,a'.parts,Bool.false_eq_true,if_false] at h ⊢
   exact Ax aj h
  ·rw [hb] at h
   exact qS (.st aj) (by simp only [ad.flat];exact hb) h
theorem Ax{w:World}{Z Z':ah} : ∀(aj:ax) {x:aj.D} {vs:List Value} {F:ah},aj.al w Z aj.own x vs F→aj.al w Z' aj.own x vs F
 | .nil,_,_,_,h=>by simpa only [ax.al] using h
 | .cons t aj,_,_,_,h=>by
  simp only [ax.own,ax.al,cQ.ag,cQ.dq] at h ⊢
  obtain ⟨us,bE,G,H,h1,h2,h3,h4,aZ,bd⟩:=h
  exact⟨us,bE,G,H,h1,sJ t h2,Ax aj h3,h4,aZ,bd⟩
end
end Go.LM
namespace Go.LM
structure bD where
 base:Option Addr
 cap:Nat
 F:ah
def c9(ι : Nat→bD)(dp:List (Nat×Nat)):ah:=fun b o=>∃d,d∈dp∧(ι d.1).F b o
def known(s:an)(id:Nat):Prop:=s.o id≠.none
def ei(s:an)(d:Nat×Nat):Prop:=known s d.1∧(s.o d.1=.dead∨d.2≤j5 s d.1)
def cj.live:cj→Prop
 | .row .. | .var .. => True
 | _=>False
structure GM(i:bD)(size:Nat)(sub:Option (Nat×Nat))(len:Nat)(A:Option Addr)(n c:Nat):Prop where
 NO:n=match sub with | none=>len | some (_,m)=>m
 fits:ea sub+n≤len
 le:n≤c
 cap:ea sub+c≤i.cap
 at_:c=0∨∃a,i.base=some a∧A=some (at_ a.block (a.off+ea sub*size))
theorem kY{o:cj}{t:ad}{em:a'}{ver:Nat}{xs:List t.D}(h:o=.row t em ver xs):o.core=.row t em ver xs:=by rw [h];rfl
def iR(s:an)(ι : Nat→bD)(p:Place)(a:Addr):Prop :=
 a.spot=none∧match (s.o p.id).core with
  | .var _ cs=>p.fa=none∧∃a0,(ι p.id).base=some a0∧a=at_ a0.block (a0.off+p.off)
  | .row t _ _ xs=>∃i,p.fa=some i∧i<xs.length∧∃a0,(ι p.id).base=some a0∧a=at_ a0.block (a0.off+i*t.size+p.off)
  | _=>True
def q0(w:World)(s:an)(ι : Nat→bD)(dp:List (Nat×Nat))(cq:Option Place)(v:Value):Prop :=
 ∀p,cq=some p→(∃d,d∈dp∧d.1=p.id)∧(alive s dp=true→∃b o,iR s ι p (at_ b o)∧w.cell? (at_ b o)=some v∧(ι p.id).F b o)
theorem q0.none{w:World}{s:an}{ι : Nat→bD}{dp:List (Nat×Nat)}{v:Value} : q0 w s ι dp none v:=fun p h=>by cases h
def cf(w:World)(Z:ah)(s:an)(ι : Nat→bD):a8→Value→Prop
 | .int k x,v=>v=.int k x
 | .bool x,v=>v=.bool x
 | .str x,v=>∃b:ByteArray,v=.string b∧b.data.toList=x
 | .raw x,v=>v=x∧∃A n c,x=.slice A n c
 | .nil _,v=>v=.slice none 0 0
 | .bY t dp cq xs,v=>(∀d,d∈dp→ei s d)∧(∃A n c,v=.slice A n c) ∧
   (alive s dp=true→(ad.sl t).al w (Z.or (c9 ι dp)) .R xs [v] ah.none)∧q0 w s ι dp cq v
 | .ag id sub,v=>known s id∧∃A n c,v=.slice A n c∧∀t em ver xs,(s.o id).core=.row t em ver xs→GM (ι id) t.size sub xs.length A n c
def bH(w:World)(Z:ah)(s:an)(ι : Nat→bD):List a8→List Value→Prop
 | [],[]=>True
 | c :: cs,v :: vs=>cf w Z s ι c v∧bH w Z s ι cs vs
 | _,_=>False
mutual
def aO(w:World)(Z:ah)(s:an)(ι : Nat→bD):a6→Value→Prop
 | .aC,_=>True
 | .gone,v=>v=undef
 | .aS c,v=>cf w Z s ι c v
 | .hW cs,v=>∃vs,v=.agg vs.toArray∧bH w Z s ι cs vs
 | .ptr p,v=>known s p.id∧∃a,v=.pointer (some a)∧iR s ι p a
 | .dd dp cs off,v=>(∀d,d∈dp→ei s d)∧∃b o vs,v=.pointer (some (at_ b (o+off))) ∧
   (alive s dp=true→bH w Z s ι cs vs∧b2 w b o vs∧∀j,j<cs.length→Z.or (c9 ι dp) b (o+j))
 | .jC,v=>v=.pointer none
 | .ko,v=>v=.slice none 0 0
 | .opt id o,v=>known s id∧((o<0∧v=.pointer none)∨(0≤o∧∃a,v=.pointer (some a)∧iR s ι ⟨id,some o.toNat,0⟩ a))
 | .qT t,v=>v.cells.toList.length=t.size∧∀u∈v.cells.toList,LM.dY u=true
 | .may b dp cs,v=>(b=false∧v=.pointer none)∨(b=true∧(∀d,d∈dp→ei s d)∧∃b o vs,v=.pointer (some (at_ b (o+0))) ∧
   (alive s dp=true→bH w Z s ι cs vs∧b2 w b o vs∧∀j,j<cs.length→Z.or (c9 ι dp) b (o+j)))
 | .fn f first kS,v=>∃us vs,v=.func (.func f) us.toArray vs.toArray∧aX w Z s ι first us∧aX w Z s ι kS vs
 | .ox l,v=>∃vs,v=.tuple vs.toArray∧aX w Z s ι l vs
def aX(w:World)(Z:ah)(s:an)(ι : Nat→bD):List a6→List Value→Prop
 | [],vs=>vs=[]
 | x :: l,vs=>∃v bE,vs=v :: bE∧aO w Z s ι x v∧aX w Z s ι l bE
end
def hD(w:World)(Z:ah)(s:an)(ι : Nat→bD)(i:bD):cj→Prop
 | .row t em _ xs=>(xs=[]∧i.cap=0)∨∃a,i.base=some a∧mA w (t.al w Z em) t.size xs a i.cap i.F
 | .var _ cs=>∃a vs,i.base=some a∧a.spot=none∧bH w Z s ι cs vs∧b2 w a.block a.off vs ∧
   (∀j,j<cs.length→e' w a.block (a.off+j)∧i.F a.block (a.off+j))
 | _=>True
structure Seen where
 dp:List (Nat×Nat)
 b:Nat
 o:Nat
 vs:List Value
def sK(w:World)(Z:ah)(s:an)(ι : Nat→bD)(e:Seen):Prop :=
 (∀d,d∈e.dp→ei s d)∧(alive s e.dp=true→b2 w e.b e.o e.vs∧∀j,j<e.vs.length→Z.or (c9 ι e.dp) e.b (e.o+j))
structure cC where
 n:Nat
 pL:List Value
 gc:List Seen
instance:Coe cC Nat:=⟨cC.n⟩
structure Inv(w0:World)(F0 Z0:ah)(n:cC)(s:an)(a:Act)(w:World)(ι : Nat→bD)(Z:ah):Prop where
 ext:Ext w0 w F0
 dA:∀b o,Z b o→Z0 b o∨F0 b o∨w0.heap.size≤b
 q1:ah.sub Z0 Z
 iw:∀b o,Z b o→b<w.heap.size
 fA:∀id,hD w Z s ι (ι id) (s.o id)
 own:∀id,(s.o id).live→∀b o,(ι id).F b o→(F0 b o∨w0.heap.size≤b)∧b<w.heap.size
 apart:∀id dV,(s.o id).live→(s.o dV).live→id≠dV→ah.apart (ι id).F (ι dV).F
 cY:∀id,(s.o id).live→ah.apart (ι id).F Z
 tmps:∀k,aO w Z s ι (s.t k) (a.tmps.getD k undef)
 size:a.tmps.size=n.n
 ghost:aX w Z s ι s.g n.pL
 seen:∀e,e∈n.gc→sK w Z s ι e
 defers:a.defers=[]
theorem bH.len{w:World}{Z:ah}{s:an}{ι : Nat→bD} : ∀ {cs:List a8} {vs:List Value},bH w Z s ι cs vs→vs.length=cs.length
 | [],[],_=>rfl
 | _ :: _,_ :: _,h=>by simp [bH.len h.2]
 | [],_ :: _,h=>h.elim
 | _ :: _,[],h=>h.elim
theorem cf.dY{w:World}{Z:ah}{s:an}{ι : Nat→bD} : ∀ {c:a8} {v:Value},cf w Z s ι c v→LM.dY v=true
 | .int _ _,_,h=>by cases h;rfl
 | .bool _,_,h=>by cases h;rfl
 | .str _,_,⟨_,h,_⟩=>by cases h;rfl
 | .raw _,_,⟨h,_,_,_,h2⟩=>by subst h;subst h2;rfl
 | .nil _,_,h=>by cases h;rfl
 | .bY _ _ _ _,_,⟨_,⟨_,_,_,h⟩,_,_⟩=>by cases h;rfl
 | .ag _ _,_,⟨_,_,_,_,h,_⟩=>by cases h;rfl
theorem bH.dY{w:World}{Z:ah}{s:an}{ι : Nat→bD} : ∀ {cs:List a8} {vs:List Value},bH w Z s ι cs vs→∀v∈vs,LM.dY v=true
 | [],[],_=>by simp
 | _ :: _,_ :: _,h=>by
  intro v hv
  rcases List.mem_cons.1 hv with rfl | hv
  ·exact h.1.dY
  ·exact bH.dY h.2 v hv
 | [],_ :: _,h=>h.elim
 | _ :: _,[],h=>h.elim
theorem bH.append{w:World}{Z:ah}{s:an}{ι : Nat→bD} : ∀ {cs ds:List a8} {us vs:List Value},bH w Z s ι cs us→bH w Z s ι ds vs→bH w Z s ι (cs++ds) (us++vs)
 | [],_,[],_,_,k=>k
 | _ :: _,_,_ :: _,_,h,k=>⟨h.1,bH.append h.2 k⟩
 | [],_,_ :: _,_,h,_=>h.elim
 | _ :: _,_,[],_,h,_=>h.elim
theorem bH.split{w:World}{Z:ah}{s:an}{ι : Nat→bD} : ∀ {cs ds:List a8} {vs:List Value},bH w Z s ι (cs++ds) vs →
  ∃us aj,vs=us++aj∧us.length=cs.length∧bH w Z s ι cs us∧bH w Z s ι ds aj
 | [],ds,vs,h=>⟨[],vs,rfl,rfl,trivial,h⟩
 | c :: cs,ds,v :: vs,h=>by
  obtain ⟨us,aj,h1,h2,h3,h4⟩:=bH.split (cs:=cs) h.2
  exact⟨v :: us,aj,by rw [h1];rfl,by simp [h2],⟨h.1,h3⟩,h4⟩
 | _ :: _,_,[],h=>h.elim
theorem bH.drop{w:World}{Z:ah}{s:an}{ι : Nat→bD} : ∀(k:Nat) {cs:List a8} {vs:List Value},bH w Z s ι cs vs→bH w Z s ι (cs.drop k) (vs.drop k)
 | 0,_,_,h=>h
 | _+1,[],[],h=>h
 | k+1,_ :: _,_ :: _,h=>bH.drop k h.2
 | _+1,[],_ :: _,h=>h.elim
 | _+1,_ :: _,[],h=>h.elim
theorem bH.take{w:World}{Z:ah}{s:an}{ι : Nat→bD} : ∀(k:Nat) {cs:List a8} {vs:List Value},bH w Z s ι cs vs→bH w Z s ι (cs.take k) (vs.take k)
 | 0,_,_,h=>trivial
 | _+1,[],[],h=>h
 | k+1,_ :: _,_ :: _,h=>⟨h.1,bH.take k h.2⟩
 | _+1,[],_ :: _,h=>h.elim
 | _+1,_ :: _,[],h=>h.elim
theorem bH.mono{w w':World}{Z Z':ah}{s aq:an}{ι ba:Nat→bD}(hc:∀c v,cf w Z s ι c v→cf w' Z' aq ba c v) :
  ∀ {cs:List a8} {vs:List Value},bH w Z s ι cs vs→bH w' Z' aq ba cs vs
 | [],[],_=>trivial
 | _ :: _,_ :: _,h=>⟨hc _ _ h.1,bH.mono hc h.2⟩
 | [],_ :: _,h=>h.elim
 | _ :: _,[],h=>h.elim
inductive ix:cj→bD→cj→bD→Prop
 | stay (o:cj) (i:bD):ix o i o i
 | made (o':cj) (i dW:bD):ix .none i o' dW
 | dead (o:cj) (i dW:bD):ix o i .dead dW
 | row (t:ad) (em gb:a') (v eJ:Nat) (xs fB:List t.D) (i dW:bD) (hv:v<eJ) (hl:fB.length=xs.length) (hb:dW.base=i.base) (hc:dW.cap=i.cap):ix (.row t em v xs) i (.row t gb eJ fB) dW
 | var (v eJ:Nat) (cs cs':List a8) (i:bD) (hv:v<eJ) (hl:cs'.length=cs.length):ix (.var v cs) i (.var eJ cs') i
 | fb (o:cj) (i:bD) (hl:o.live):ix o i (.b_ o) i
 | q2 (t:ad) (em gb:a') (v eJ:Nat) (xs fB:List t.D) (i dW:bD) (hv:v<eJ) (hl:fB.length=xs.length) (hb:dW.base=i.base) (hc:dW.cap=i.cap):ix (.b_ (.row t em v xs)) i (.row t gb eJ fB) dW
 | xv (v eJ:Nat) (cs cs':List a8) (i dW:bD) (hv:v<eJ) (hb:dW.base=i.base):ix (.b_ (.var v cs)) i (.var eJ cs') dW
def q3(s:an)(ι : Nat→bD)(aq:an)(ba:Nat→bD):Prop:=∀id,ix (s.o id) (ι id) (aq.o id) (ba id)
theorem q3.known{s aq:an}{ι ba:Nat→bD}(h:q3 s ι aq ba){id:Nat}(hk:known s id):known aq id:=by
 unfold LM.known at *
 have:=h id
 generalize s.o id=o at *;generalize aq.o id=o' at *;generalize ι id=i at *;generalize ba id=dW at *
 cases this <;> simp_all
theorem q3.dep{s aq:an}{ι ba:Nat→bD}(h:q3 s ι aq ba){d:Nat×Nat}(hk:ei s d):ei aq d:=by
 refine⟨h.known hk.1,?_⟩
 obtain ⟨k1,k2⟩:=hk
 unfold LM.known j5 at *
 have:=h d.1
 generalize s.o d.1=o at *;generalize aq.o d.1=o' at *;generalize ι d.1=i at *;generalize ba d.1=dW at *
 cases this with
 | stay=>exact k2
 | made=>exact absurd rfl k1
 | dead=>exact .inl rfl
 | row t em gb v eJ xs fB i dW kZ hl hb hc=>rcases k2 with h | h;exact absurd h (by simp);exact .inr (by dsimp only at *;omega)
 | var v eJ cs cs' i kZ hl=>rcases k2 with h | h;exact absurd h (by simp);exact .inr (by dsimp only at *;omega)
 | fb o i hl =>
  rcases k2 with h | h
  ·rw [h] at hl;exact hl.elim
  ·cases o <;> first | exact hl.elim | exact .inr h
 | q2 t em gb v eJ xs fB i dW kZ hl hb hc=>rcases k2 with h | h;exact absurd h (by simp);exact .inr (by dsimp only at *;omega)
 | xv v eJ cs cs' i dW kZ hb=>rcases k2 with h | h;exact absurd h (by simp);exact .inr (by dsimp only at *;omega)
theorem q3.stays{s aq:an}{ι ba:Nat→bD}(h:q3 s ι aq ba):∀ {dp:List (Nat×Nat)},(∀d,d∈dp→ei s d)→alive aq dp=true →
  alive s dp=true∧∀d,d∈dp→aq.o d.1=s.o d.1 ∧ ba d.1 = ι d.1∧(s.o d.1).live
 | [],_,_=>⟨rfl,by simp⟩
 | (id,v) :: dp,hk,ha=>by
  have fC:=fun ha=>q3.stays h (dp:=dp) (fun d ag=>hk d (by simp [ag])) ha
  obtain ⟨k1,k2⟩:=hk (id,v) (by simp)
  have ht:=h id
  simp only [LM.known,j5] at k1 k2
  unfold alive at ha ⊢
  generalize ho:s.o id=o at *
  generalize q4:aq.o id=o' at *
  generalize hi : ι id=i at *
  generalize c5 : ba id=dW at *
  cases ht with
  | stay =>
   cases o with
   | row t em w xs =>
    dsimp only at ha ⊢
    cases hb:Nat.beq w v
    ·rw [hb] at ha;simp at ha
    ·rw [hb] at ha
     obtain ⟨bA,cc⟩:=fC ha
     refine⟨bA,fun d ag=>?_⟩
     rcases List.mem_cons.1 ag with rfl | ag
     ·exact⟨by rw [ho,q4],by rw [hi,c5],by rw [ho];trivial⟩
     ·exact cc d ag
   | var w cs =>
    dsimp only at ha ⊢
    cases hb:Nat.beq w v
    ·rw [hb] at ha;simp at ha
    ·rw [hb] at ha
     obtain ⟨bA,cc⟩:=fC ha
     refine⟨bA,fun d ag=>?_⟩
     rcases List.mem_cons.1 ag with rfl | ag
     ·exact⟨by rw [ho,q4],by rw [hi,c5],by rw [ho];trivial⟩
     ·exact cc d ag
   | none=>simp at ha
   | dead=>simp at ha
   | b_=>simp at ha
  | made=>exact absurd rfl k1
  | dead=>simp at ha
  | fb=>simp at ha
  | q2 t em gb w w' xs fB i dW hv hl hb hc =>
   dsimp only at ha
   cases hb:Nat.beq w' v
   ·rw [hb] at ha;simp at ha
   ·have:=Nat.eq_of_beq_eq_true hb;simp at k2;omega
  | xv w w' cs cs' i dW hv hb =>
   dsimp only at ha
   cases hb:Nat.beq w' v
   ·rw [hb] at ha;simp at ha
   ·have:=Nat.eq_of_beq_eq_true hb;simp at k2;omega
  | row t em gb w w' xs fB i dW hv hl hb hc =>
   dsimp only at ha
   cases hb:Nat.beq w' v
   ·rw [hb] at ha;simp at ha
   ·have:=Nat.eq_of_beq_eq_true hb;simp at k2;omega
  | var w w' cs cs' i hv hl =>
   dsimp only at ha
   cases hb:Nat.beq w' v
   ·rw [hb] at ha;simp at ha
   ·have:=Nat.eq_of_beq_eq_true hb;simp at k2;omega
def NP(s:an)(ι : Nat→bD)(aq:an)(ba:Nat→bD)(Z:ah):ah :=
 fun b o=>Z b o∨∃id,(s.o id).live∧aq.o id=s.o id ∧ ba id = ι id∧(ι id).F b o
section
variable{w w':World}{Z Z':ah}{s aq:an}{ι ba:Nat→bD}
structure eB(w:World)(Z:ah)(s:an)(ι : Nat→bD)(w':World)(Z':ah)(aq:an)(ba:Nat→bD):Prop where
 turns:q3 s ι aq ba
 dA:ah.sub Z Z'
 same:b4 w w' (NP s ι aq ba Z)
theorem eB.c9(h:eB w Z s ι w' Z' aq ba){dp:List (Nat×Nat)}(hk:∀d,d∈dp→ei s d)(ha:alive aq dp=true) :
  b4 w w' (Z.or (c9 ι dp))∧ah.sub (Z.or (LM.c9 ι dp)) (Z'.or (LM.c9 ba dp)):=by
 obtain ⟨h1,h2⟩:=h.turns.stays hk ha
 refine⟨h.same.mono ?_,?_⟩
 ·rintro b o (hz | ⟨d,ag,hf⟩)
  ·exact .inl hz
  ·exact .inr ⟨d.1,(h2 d ag).2.2,(h2 d ag).1,(h2 d ag).2.1,hf⟩
 ·rintro b o (hz | ⟨d,ag,hf⟩)
  ·exact .inl (h.dA b o hz)
  ·exact .inr ⟨d,ag,by rw [(h2 d ag).2.1];exact hf⟩
theorem iR.move(h:eB w Z s ι w' Z' aq ba){p:Place}{a:Addr}(hk:known s p.id)(au:iR s ι p a):iR aq ba p a:=by
 obtain ⟨hs,au⟩:=au
 refine⟨hs,?_⟩
 have ht:=h.turns p.id
 unfold known at hk
 generalize s.o p.id=o at *;generalize aq.o p.id=o' at *;generalize ι p.id=i at *;generalize ba p.id=dW at *
 cases ht with
 | stay=>exact au
 | made=>exact absurd rfl hk
 | dead=>trivial
 | row t em gb v eJ xs fB i dW hv hl hb hc=>obtain ⟨k,h1,h2,h3⟩:=au;exact⟨k,h1,by omega,by rw [hb];exact h3⟩
 | var=>exact au
 | fb o i hl=>cases o <;> first | exact hl.elim | exact au
 | q2 t em gb v eJ xs fB i dW hv hl hb hc=>obtain ⟨k,h1,h2,h3⟩:=au;exact⟨k,h1,by omega,by rw [hb];exact h3⟩
 | xv v eJ cs cs' i dW hv hb=>obtain ⟨h1,h2⟩:=au;exact⟨h1,by rw [hb];exact h2⟩
theorem q0.move(h:eB w Z s ι w' Z' aq ba){dp:List (Nat×Nat)}{cq:Option Place}{v:Value}(hk:∀d,d∈dp→ei s d)(ho:q0 w s ι dp cq v):q0 w' aq ba dp cq v:=by
 intro p au
 obtain ⟨⟨d,ag,b5⟩,h2⟩:=ho p au
 refine⟨⟨d,ag,b5⟩,fun ha=>?_⟩
 obtain ⟨c4,eC⟩:=h.c9 hk ha
 obtain ⟨s1,s2⟩:=h.turns.stays hk ha
 obtain ⟨b,o,k1,k2,k3⟩:=h2 s1
 refine⟨b,o,k1.move h (b5 ▸ (hk d ag).1),?_,?_⟩
 ·rw [(c4 b o (.inr ⟨d,ag,b5 ▸ k3⟩)).1];exact k2
 ·rw [← b5,(s2 d ag).2.1,b5];exact k3
theorem cf.move(h:eB w Z s ι w' Z' aq ba):∀ {c:a8} {v:Value},cf w Z s ι c v→cf w' Z' aq ba c v
 | .int _ _,_,hc=>hc
 | .bool _,_,hc=>hc
 | .str _,_,hc=>hc
 | .raw _,_,hc=>hc
 | .nil _,_,hc=>hc
 | .bY t dp cq xs,v,⟨h1,h2,h3,h4⟩=>by
  refine⟨fun d ag=>h.turns.dep (h1 d ag),h2,fun ha=>?_,h4.move h h1⟩
  obtain ⟨a,b⟩:=h.c9 h1 ha
  exact ad.al.mono b _ _ (fun _ _ h=>h) (ad.al.same a _ _ (fun _ _ h=>h.elim) (h3 (h.turns.stays h1 ha).1))
 | .ag id sub,v,⟨h1,A,n,c,hv,h2⟩=>by
  refine⟨h.turns.known h1,A,n,c,hv,fun t em ver xs ho=>?_⟩
  have ht:=h.turns id
  unfold LM.known at h1
  generalize va:s.o id=o at *
  generalize hii : ι id=i at *
  generalize ajL:aq.o id=o' at *
  generalize ajM : ba id=dW at *
  cases ht with
  | stay=>exact h2 _ _ _ _ ho
  | made=>exact absurd rfl h1
  | dead=>simp [cj.core] at ho
  | row t em gb v eJ xs fB i dW hv hl hb hc =>
   simp only [cj.core,cj.row.injEq] at ho
   obtain ⟨rfl,_,_,ho⟩:=ho
   have:=eq_of_heq ho;subst this
   obtain ⟨c4,eC,hY,h5,h6⟩:=h2 _ _ _ _ rfl
   exact⟨by rw [hl];exact c4,by rw [hl];exact eC,hY,by rw [hc];exact h5,by rw [hb];exact h6⟩
  | var=>simp [cj.core] at ho
  | fb o i hl=>exact h2 _ _ _ _ (by cases o <;> first | exact hl.elim | exact ho)
  | q2 t em gb v eJ xs fB i dW hv hl hb hc =>
   simp only [cj.core,cj.row.injEq] at ho
   obtain ⟨rfl,_,_,ho⟩:=ho
   have:=eq_of_heq ho;subst this
   obtain ⟨c4,eC,hY,h5,h6⟩:=h2 _ _ _ _ rfl
   exact⟨by rw [hl];exact c4,by rw [hl];exact eC,hY,by rw [hc];exact h5,by rw [hb];exact h6⟩
  | xv=>simp [cj.core] at ho
theorem bH.move(h:eB w Z s ι w' Z' aq ba){cs:List a8}{vs:List Value}(hc:bH w Z s ι cs vs):bH w' Z' aq ba cs vs :=
 bH.mono (fun _ _=>cf.move h) hc
mutual
theorem aO.move(h:eB w Z s ι w' Z' aq ba):∀ {x:a6} {v:Value},aO w Z s ι x v→aO w' Z' aq ba x v
 | .aC,_,_=>by simp only [aO]
 | .gone,_,hx=>by simpa only [aO] using hx
 | .aS c,v,hx=>by simp only [aO] at hx ⊢;exact hx.move h
 | .hW cs,v,hx=>by simp only [aO] at hx ⊢;obtain ⟨vs,h1,h2⟩:=hx;exact⟨vs,h1,h2.move h⟩
 | .ptr p,v,hx=>by
  simp only [aO] at hx ⊢;obtain ⟨h1,a,h2,h3⟩:=hx;exact⟨h.turns.known h1,a,h2,h3.move h h1⟩
 | .dd dp cs off,v,hx=>by
  simp only [aO] at hx ⊢
  obtain ⟨h1,b,o,vs,h2,h3⟩:=hx
  refine⟨fun d ag=>h.turns.dep (h1 d ag),b,o,vs,h2,fun ha=>?_⟩
  obtain ⟨c4,eC⟩:=h.c9 h1 ha
  obtain ⟨bA,cc,gC⟩:=h3 (h.turns.stays h1 ha).1
  exact⟨bA.move h,c4.Aw (fun i hi=>gC i (by rw [← bA.len];exact hi)) cc,fun j hj=>eC _ _ (gC j hj)⟩
 | .qT t,v,hx=>by simpa only [aO] using hx
 | .may q dp cs,v,hx=>by
  simp only [aO] at hx ⊢
  rcases hx with hx | ⟨h0,h1,b,o,vs,h2,h3⟩
  ·exact .inl hx
  refine .inr ⟨h0,fun d ag=>h.turns.dep (h1 d ag),b,o,vs,h2,fun ha=>?_⟩
  obtain ⟨c4,eC⟩:=h.c9 h1 ha
  obtain ⟨bA,cc,gC⟩:=h3 (h.turns.stays h1 ha).1
  exact⟨bA.move h,c4.Aw (fun i hi=>gC i (by rw [← bA.len];exact hi)) cc,fun j hj=>eC _ _ (gC j hj)⟩
 | .jC,_,hx=>by simpa only [aO] using hx
 | .ko,_,hx=>by simpa only [aO] using hx
 | .opt id o,v,hx=>by
  simp only [aO] at hx ⊢
  obtain ⟨h1,h2⟩:=hx
  exact⟨h.turns.known h1,h2.imp (fun x=>x) fun⟨h3,a,h4,aZ⟩=>⟨h3,a,h4,aZ.move h h1⟩⟩
 | .fn f l m,v,hx=>by
  simp only [aO] at hx ⊢
  obtain ⟨us,vs,h1,h2,h3⟩:=hx
  exact⟨us,vs,h1,aX.move h h2,aX.move h h3⟩
 | .ox l,v,hx=>by
  simp only [aO] at hx ⊢
  obtain ⟨vs,h1,h2⟩:=hx
  exact⟨vs,h1,aX.move h h2⟩
theorem aX.move(h:eB w Z s ι w' Z' aq ba):∀ {x:List a6} {v:List Value},aX w Z s ι x v→aX w' Z' aq ba x v
 | [],v,hx=>by simpa only [aX] using hx
 | x :: l,v,hx=>by
  simp only [aX] at hx ⊢
  obtain ⟨u,us,h1,h2,h3⟩:=hx
  exact⟨u,us,h1,aO.move h h2,aX.move h h3⟩
end
theorem sK.move(h:eB w Z s ι w' Z' aq ba){e:Seen}(he:sK w Z s ι e):sK w' Z' aq ba e:=by
 obtain ⟨h1,h2⟩:=he
 refine⟨fun d ag=>h.turns.dep (h1 d ag),fun ha=>?_⟩
 obtain ⟨c4,eC⟩:=h.c9 h1 ha
 obtain ⟨bA,cc⟩:=h2 (h.turns.stays h1 ha).1
 exact⟨c4.Aw cc bA,fun j hj=>eC _ _ (cc j hj)⟩
theorem hD.move(h:eB w Z s ι w' Z' aq ba){id:Nat}(hl:(s.o id).live→aq.o id=s.o id ∧ ba id = ι id){o:cj}(ho:s.o id=o)(hs:hD w Z s ι (ι id) o):hD w' Z' aq ba (ι id) o:=by
 cases o with
 | none=>trivial
 | dead=>trivial
 | b_=>trivial
 | row t em ver xs =>
  have b8:(s.o id).live:=by rw [ho];trivial
  have hs1:b4 w w' (ι id).F:=h.same.mono fun b o hf=>.inr ⟨id,b8,(hl b8).1,(hl b8).2,hf⟩
  rcases hs with hs | ⟨a,h1,h2⟩
  ·exact .inl hs
  ·refine .inr ⟨a,h1,h2.spot,h2.cap,fun j hj=>hs1.j3 (h2.inF j hj) (h2.wr j hj),h2.inF,?_⟩
   obtain ⟨G,g1,g2,g3⟩:=h2.row
   have hle:xs.length*t.size≤(ι id).cap*t.size:=Nat.mul_le_mul_right _ h2.cap
   exact⟨G,g1.imp (fun y vs de hG hr=>ad.al.mono h.dA _ _ (fun _ _ h=>h) (ad.al.same (h.same.mono fun b o hz=>.inl hz) _ _ (hs1.mono fun b o az=>g3 b o (hG b o az)) hr)) (fun j hj=>(hs1 _ _ (h2.inF j (by omega))).1),g2,g3⟩
 | var ver cs =>
  have b8:(s.o id).live:=by rw [ho];trivial
  have hs1:b4 w w' (ι id).F:=h.same.mono fun b o hf=>.inr ⟨id,b8,(hl b8).1,(hl b8).2,hf⟩
  obtain ⟨a,vs,h1,h2,h3,h4,aZ⟩:=hs
  exact⟨a,vs,h1,h2,h3.move h,hs1.Aw (fun i hi=>(aZ i (by rw [← h3.len];exact hi)).2) h4,fun j hj=>⟨hs1.pF (aZ j hj).2 (aZ j hj).1,(aZ j hj).2⟩⟩
end
end Go.LM
namespace Go.LM
section
variable{w0:World}{F0 Z0:ah}{n:cC}{s aq:an}{a b6:Act}{w w':World}{ι ba:Nat→bD}{Z Z':ah}
theorem Inv.next(h:Inv w0 F0 Z0 n s a w ι Z)(hm:eB w Z s ι w' Z' aq ba){S:ah}(hx:Ext w w' S)
  (dM:∀b o,S b o→F0 b o∨w0.heap.size≤b)
  (hz:∀b o,Z' b o→Z b o∨((F0 b o∨w0.heap.size≤b)∧b<w'.heap.size))
  (ho:∀id,(aq.o id).live→¬(aq.o id=s.o id ∧ ba id = ι id)→hD w' Z' aq ba (ba id) (aq.o id) ∧
   (∀b o,(ba id).F b o→(F0 b o∨w0.heap.size≤b)∧b<w'.heap.size)∧(∀dV,(aq.o dV).live→id≠dV→ah.apart (ba id).F (ba dV).F))
  (nI:∀id,(aq.o id).live→ah.apart (ba id).F Z')
  (ht:∀k,aO w' Z' aq ba (aq.t k) (b6.tmps.getD k undef))
  (hn:b6.tmps.size=n) (ag:b6.defers=[]) (xw:aq.g=s.g:=by rfl):Inv w0 F0 Z0 n aq b6 w' ba Z':=by
 have hsz:=hx.size
 refine⟨?_,?_,?_,?_,?_,?_,?_,nI,ht,hn,by rw [xw];exact aX.move hm h.ghost,fun e he=>(h.seen e he).move hm,ag⟩
 ·refine h.ext.trans' hx dM
 ·intro b o hb
  rcases hz b o hb with h1 | h1
  ·exact h.dA b o h1
  ·exact .inr h1.1
 ·exact fun b o hb=>hm.dA b o (h.q1 b o hb)
 ·intro b o hb
  rcases hz b o hb with h1 | h1
  ·exact Nat.lt_of_lt_of_le (h.iw b o h1) hsz
  ·exact h1.2
 ·intro id
  by_cases hl:(aq.o id).live
  ·by_cases hst:aq.o id=s.o id ∧ ba id = ι id
   ·have:=hD.move hm (id:=id) (fun _=>hst) rfl (h.fA id)
    rw [hst.2,hst.1];exact this
   ·exact(ho id hl hst).1
  ·cases hh:aq.o id with
   | none=>trivial
   | dead=>trivial
   | b_=>trivial
   | row=>rw [hh] at hl;exact absurd trivial hl
   | var=>rw [hh] at hl;exact absurd trivial hl
 ·intro id hl b o hf
  by_cases hst:aq.o id=s.o id ∧ ba id = ι id
  ·rw [hst.2] at hf
   have:=h.own id (hst.1 ▸ hl) b o hf
   exact⟨this.1,Nat.lt_of_lt_of_le this.2 hsz⟩
  ·exact(ho id hl hst).2.1 b o hf
 ·intro id dV hl fS hne
  by_cases hst:aq.o id=s.o id ∧ ba id = ι id
  ·by_cases pM:aq.o dV=s.o dV ∧ ba dV = ι dV
   ·rw [hst.2,pM.2];exact h.apart id dV (hst.1 ▸ hl) (pM.1 ▸ fS) hne
   ·exact fun b o h1 h2=>(ho dV fS pM).2.2 id hl (Ne.symm hne) b o h2 h1
  ·exact(ho id hl hst).2.2 dV fS hne
theorem b4.iy{S T:ah}(hx:Ext w w' S)(bW:∀b o,T b o→b<w.heap.size)(ha:ah.apart T S):b4 w w' T :=
 fun b o ht=>⟨hx.cell (bW b o ht) (fun hs=>ha b o ht hs),hx.frozen (bW b o ht)⟩
theorem Inv.q5(h:Inv w0 F0 Z0 n s a w ι Z):∀b o,NP s ι aq ba Z b o→b<w.heap.size:=by
 rintro b o (hz | ⟨id,hl,_,_,hf⟩)
 ·exact h.iw b o hz
 ·exact(h.own id hl b o hf).2
theorem cO{α : Type}{f:Nat → α}{i j:Nat}{v : α}(h:i≠j):bQ f i v j=f j:=qU (Ne.symm h)
theorem Inv.tmp(h:Inv w0 F0 Z0 n s a w ι Z)(ho:aq.o=s.o)(ht:∀k,aO w Z aq ι (aq.t k) (b6.tmps.getD k undef))
  (hn:b6.tmps.size=n) (ag:b6.defers=[]) (xw:aq.g=s.g:=by rfl):Inv w0 F0 Z0 n aq b6 w ι Z:=by
 refine h.next (S:=ah.none) ⟨fun id=>by rw [ho];exact .stay _ _,fun _ _ h=>h,b4.refl _ _⟩ (Ext.refl _ _) (fun _ _ h=>h.elim) (fun _ _ h=>.inl h) ?_ ?_ ht hn ag xw
 ·intro id _ hne;exact absurd ⟨by rw [ho],rfl⟩ hne
 ·intro id hl;exact h.cY id (by rwa [ho] at hl)
theorem GN(ho:aq.o=s.o):eB w Z s ι w Z aq ι :=⟨fun id=>by rw [ho];exact .stay _ _,fun _ _ h=>h,b4.refl _ _⟩
theorem GO(t:Array Value)(d k:Nat)(u:Value)(ag:d<t.size):(t.setIfInBounds d u).getD k undef=if d=k then u else t.getD k undef:=by
 simp only [Array.getD_eq_getD_getElem?,Array.getElem?_setIfInBounds]
 by_cases hk:d=k
 ·subst hk;simp [ag]
 ·simp [hk]
theorem Inv.set(h:Inv w0 F0 Z0 n s a w ι Z){d:Nat}{v:a6}{u:Value}(hv:aO w Z s ι v u)(ag:d<n) :
  Inv w0 F0 Z0 n (s.set d v) (a.put (some d) u) w ι Z:=by
 have hm:eB w Z s ι w Z (s.set d v) ι := GN rfl
 refine h.tmp rfl (fun k=>?_) (by simpa [Act.put] using h.size) (by simpa [Act.put] using h.defers)
 show aO w Z (s.set d v) ι (bQ s.t d v k) ((a.tmps.setIfInBounds d u).getD k undef)
 rw [GO _ _ _ _ (by rw [h.size];exact ag)]
 by_cases hk:d=k
 ·subst hk;rw [ct,if_pos rfl];exact hv.move hm
 ·rw [cO hk,if_neg hk];exact(h.tmps k).move hm
theorem Inv.dst(h:Inv w0 F0 Z0 n s a w ι Z){d:Option Nat}{v:a6}{u:Value}(hv:aO w Z s ι v u)(ag:∀k,d=some k→k<n) :
  Inv w0 F0 Z0 n (s.dst d v) (a.put d u) w ι Z:=by
 cases d with
 | none=>exact h
 | some d=>exact h.set hv (ag d rfl)
theorem Inv.world(h:Inv w0 F0 Z0 n s a w ι Z)(hx:Ext w w' ah.none):Inv w0 F0 Z0 n s a w' ι Z:=by
 have hm:eB w Z s ι w' Z s ι :=⟨fun id=>.stay _ _,fun _ _ h=>h,b4.iy hx h.q5 (fun _ _ _ h=>h)⟩
 refine h.next hm hx (fun _ _ h=>h.elim) (fun _ _ h=>.inl h) ?_ h.cY (fun k=>(h.tmps k).move hm) h.size h.defers
 intro id _ hne;exact absurd ⟨rfl,rfl⟩ hne
theorem Inv.drew(h:Inv w0 F0 Z0 n s a w ι Z)(m:Nat):Inv w0 F0 Z0 n s a { w with drawn:=m } ι Z:=h.world (Ext.drew _ _ _)
theorem NQ(h:Inv w0 F0 Z0 n s a w ι Z){id:Nat}(b5:s.o id=.none)(hx:Ext w w' ah.none)(o:cj)(i:bD) :
  eB w Z s ι w' Z (s.bO id o) (bQ ι id i):=by
 refine⟨fun j=>?_,fun _ _ h=>h,b4.iy hx h.q5 (fun _ _ _ h=>h)⟩
 show ix (s.o j) (ι j) (bQ s.o id o j) (bQ ι id i j)
 by_cases hj:id=j
 ·subst hj;rw [b5];exact .made _ _ _
 ·rw [cO hj,cO hj];exact .stay _ _
theorem Inv.new(h:Inv w0 F0 Z0 n s a w ι Z){id:Nat}(b5:s.o id=.none)(hx:Ext w w' ah.none){o:cj}{i:bD}
  (cK:hD w' Z (s.bO id o) (bQ ι id i) i o) (hF:∀b o,i.F b o→w.heap.size≤b∧b<w'.heap.size) :
  Inv w0 F0 Z0 n (s.bO id o) a w' (bQ ι id i) Z:=by
 have hm:=NQ h b5 hx o i
 have hsz:=h.ext.size
 refine h.next hm hx (fun _ _ h=>h.elim) (fun _ _ h=>.inl h) ?_ ?_ (fun k=>(h.tmps k).move hm) h.size h.defers
 ·intro j hl hne
  by_cases hj:id=j
  ·subst hj
   rw [ct]
   refine⟨by show hD _ _ _ _ _ (bQ s.o id o id);rw [ct];exact cK,fun b o hf=>⟨.inr (by have:=(hF b o hf).1;omega),(hF b o hf).2⟩,fun ks fS jm b o h1 h2=>?_⟩
   rw [cO jm] at h2
   have dN:(s.o ks).live:=by
    have:(bQ s.o id _ ks).live:=fS
    rwa [cO jm] at this
   have:=(h.own ks dN b o h2).2
   have:=(hF b o h1).1
   omega
  ·exact absurd ⟨cO hj,cO hj⟩ hne
 ·intro j hl b o h1 h2
  by_cases hj:id=j
  ·subst hj
   rw [ct] at h1
   have:=(hF b o h1).1
   have:=h.iw b o h2
   omega
  ·rw [cO hj] at h1
   have dN:(s.o j).live:=by
    have:(bQ s.o id _ j).live:=hl
    rwa [cO hj] at this
   exact h.cY j dN b o h1 h2
theorem GP{id j:Nat}(hl:((s.bO id .dead).o j).live):id≠j∧(s.o j).live:=by
 have h:(bQ s.o id cj.dead j).live:=hl
 by_cases hj:id=j
 ·subst hj;rw [ct] at h;exact h.elim
 ·rw [cO hj] at h;exact⟨hj,h⟩
theorem W5(h:Inv w0 F0 Z0 n s a w ι Z)(id:Nat)(hZ:ah.sub Z Z'):eB w Z s ι w Z' (s.bO id .dead) ι := by
 refine⟨fun j=>?_,hZ,b4.refl _ _⟩
 show ix (s.o j) (ι j) (bQ s.o id cj.dead j) (ι j)
 by_cases hj:id=j
 ·subst hj;rw [ct];exact .dead _ _ _
 ·rw [cO hj];exact .stay _ _
theorem Inv.take(h:Inv w0 F0 Z0 n s a w ι Z)(id:Nat)(hZ:ah.sub Z Z')(hz:∀b o,Z' b o→Z b o∨((s.o id).live∧(ι id).F b o)) :
  Inv w0 F0 Z0 n (s.bO id .dead) a w ι Z':=by
 have hm:=W5 h id hZ
 refine h.next hm (Ext.refl _ ah.none) (fun _ _ h=>h.elim) ?_ ?_ ?_ (fun k=>(h.tmps k).move hm) h.size h.defers
 ·intro b o hb
  rcases hz b o hb with h1 | ⟨h1,h2⟩
  ·exact .inl h1
  ·exact .inr (h.own id h1 b o h2)
 ·intro j hl hne
  obtain ⟨hj,dN⟩:=GP hl
  exact absurd ⟨cO hj,rfl⟩ hne
 ·intro j hl b o h1 h2
  obtain ⟨hj,dN⟩:=GP hl
  rcases hz b o h2 with h3 | ⟨h3,h4⟩
  ·exact h.cY j dN b o h1 h3
  ·exact h.apart id j h3 dN hj b o h4 h1
end
end Go.LM
namespace Go.LM
theorem Row.drop{α : Type}{w:World}{R : α → List Value→ah→Prop}{size:Nat} : ∀(k:Nat) {x:List α} {b o:Nat} {F:ah},Row w R size x b o F→Row w R size (x.drop k) b (o+k*size) F
 | 0,x,b,o,F,h=>by simpa using h
 | k+1,[],b,o,F,h=>trivial
 | k+1,y :: x,b,o,F,⟨vs,G,H,h1,h2,h3,h4,aZ,bd,bC⟩=>by
  have:=Row.drop k h4
  rw [show o+size+k*size=o +(k+1)*size by rw [Nat.add_one_mul];omega] at this
  exact this.mono bC
theorem Row.take{α : Type}{w:World}{R : α → List Value→ah→Prop}{size:Nat} : ∀(k:Nat) {x:List α} {b o:Nat} {F:ah},Row w R size x b o F→Row w R size (x.take k) b o F
 | 0,x,b,o,F,h=>by rw [List.take_zero];trivial
 | k+1,[],b,o,F,h=>trivial
 | k+1,y :: x,b,o,F,⟨vs,G,H,h1,h2,h3,h4,aZ,bd,bC⟩=>⟨vs,G,H,h1,h2,h3,Row.take k h4,aZ,bd,bC⟩
theorem gD{u t:ad}{xs:List u.D}{x:List t.D}(h:ez (.sl u) (.sl t) xs=some x):∃e:u=t,x=e ▸ xs:=by
 obtain ⟨e,hx⟩:=Aq h
 injection e with e
 subst e
 exact⟨rfl,hx⟩
section
variable{w0:World}{F0 Z0:ah}{n:cC}{s aq:an}{a:Act}{w:World}{ι : Nat→bD}{Z Z':ah}
structure bF(w0:World)(F0:ah)(s:an)(w:World)(ι : Nat→bD)(Z F:ah):Prop where
 own:∀b o,F b o→(F0 b o∨w0.heap.size≤b)∧b<w.heap.size
 apart:∀id,(s.o id).live→ah.apart F (ι id).F
 cY:ah.apart F Z
theorem bF.none:bF w0 F0 s w ι Z ah.none:=⟨fun _ _ h=>h.elim,fun _ _ _ _ h=>h.elim,fun _ _ h=>h.elim⟩
structure eV(s:an)(ι : Nat→bD)(Z:ah)(aq:an)(Z':ah):Prop where
 o:∀id,aq.o id=s.o id∨((s.o id).live∧aq.o id=.dead)
 t:aq.t=s.t
 g:aq.g=s.g
 dA:ah.sub Z Z'
 oC:∀b o,Z' b o→Z b o∨∃id,(s.o id).live∧aq.o id=.dead∧(ι id).F b o
theorem eV.refl:eV s ι Z s Z:=⟨fun _=>.inl rfl,rfl,rfl,fun _ _ h=>h,fun _ _ h=>.inl h⟩
theorem eV.trans{s2:an}{bK:ah}(h:eV s ι Z aq Z')(k:eV aq ι Z' s2 bK):eV s ι Z s2 bK:=by
 refine⟨fun id=>?_,k.t.trans h.t,k.g.trans h.g,fun b o hz=>k.dA b o (h.dA b o hz),fun b o hz=>?_⟩
 ·rcases k.o id with h1 | ⟨h0,h1⟩
  ·rw [h1];exact h.o id
  ·rcases h.o id with h2 | ⟨_,h2⟩
   ·exact .inr ⟨h2 ▸ h0,h1⟩
   ·rw [h2] at h0;exact h0.elim
 ·rcases k.oC b o hz with h1 | ⟨id,h1,h2,h3⟩
  ·rcases h.oC b o h1 with h1 | ⟨id,h1,h2,h3⟩
   ·exact .inl h1
   ·refine .inr ⟨id,h1,?_,h3⟩
    rcases k.o id with h4 | ⟨_,h4⟩
    ·rw [h4,h2]
    ·exact h4
  ·rcases h.o id with h4 | ⟨_,h4⟩
   ·exact .inr ⟨id,h4 ▸ h1,h2,h3⟩
   ·rw [h4] at h1;exact h1.elim
theorem eV.eb(h:eV s ι Z aq Z'):eB w Z s ι w Z' aq ι := by
 refine⟨fun id=>?_,h.dA,b4.refl _ _⟩
 rcases h.o id with h1 | ⟨_,h1⟩
 ·rw [h1];exact .stay _ _
 ·rw [h1];exact .dead _ _ _
theorem eV.live(h:eV s ι Z aq Z'){id:Nat}(hl:(aq.o id).live):(s.o id).live∧aq.o id=s.o id:=by
 rcases h.o id with h1 | ⟨_,h1⟩
 ·exact⟨h1 ▸ hl,h1⟩
 ·rw [h1] at hl;exact hl.elim
theorem bF.shrink{F:ah}(hf:bF w0 F0 s w ι Z F)(h:eV s ι Z aq Z'):bF w0 F0 aq w ι Z' F:=by
 refine⟨hf.own,fun id hl=>hf.apart id (h.live hl).1,fun b o h1 h2=>?_⟩
 rcases h.oC b o h2 with h3 | ⟨id,h3,_,h4⟩
 ·exact hf.cY b o h1 h3
 ·exact hf.apart id h3 b o h1 h4
theorem bF.or{F G:ah}(hf:bF w0 F0 s w ι Z F)(az:bF w0 F0 s w ι Z G):bF w0 F0 s w ι Z (F.or G) :=
 ⟨fun b o h=>h.elim (hf.own b o) (az.own b o),fun id hl b o h=>h.elim (hf.apart id hl b o) (az.apart id hl b o),fun b o h=>h.elim (hf.cY b o) (az.cY b o)⟩
theorem Inv.ve(h:Inv w0 F0 Z0 n s a w ι Z){id:Nat}(hl:(s.o id).live):bF w0 F0 (s.bO id .dead) w ι Z (ι id).F :=
 ⟨h.own id hl,fun j hj=>by obtain ⟨h1,h2⟩:=GP hj;exact h.apart id j hl h2 h1,h.cY id hl⟩
theorem vf(id:Nat)(hl:(s.o id).live):eV s ι Z (s.bO id .dead) Z:=by
 refine⟨fun j=>?_,rfl,rfl,fun _ _ h=>h,fun _ _ h=>.inl h⟩
 by_cases hj:id=j
 ·subst hj;exact .inr ⟨hl,ct _ _ _⟩
 ·exact .inl (cO hj)
theorem NR(h:Inv w0 F0 Z0 n s a w ι Z){id:Nat}(hl:(s.o id).live):eV s ι Z (s.bO id .dead) (Z.or (ι id).F):=by
 refine⟨fun j=>?_,rfl,rfl,fun _ _ h=>.inl h,fun b o hz=>?_⟩
 ·by_cases hj:id=j
  ·subst hj;exact .inr ⟨hl,ct _ _ _⟩
  ·exact .inl (cO hj)
 ·rcases hz with h1 | h1
  ·exact .inl h1
  ·exact .inr ⟨id,hl,ct _ _ _,h1⟩
theorem vg{i:bD}{t:ad}{em:a'}{xs:List t.D}{sub:Option (Nat×Nat)}{A:Option Addr}{m c:Nat}{ver:Nat}
  (ho:hD w Z s ι i (.row t em ver xs)) (hh:GM i t.size sub xs.length A m c) :
  (ad.sl t).al w Z (.O em) (kp sub xs) [.slice A m c] i.F:=by
 obtain ⟨hn,hfit,hle,hcap,cl⟩:=hh
 have hlen:(kp sub xs).length=m:=by
  cases sub with
  | none=>simp [kp,hn]
  | some p=>obtain ⟨lo,k⟩:=p;simp only [kp,part,List.length_take,List.length_drop,ea] at *;omega
 simp only [ad.al]
 refine⟨A,c,by rw [hlen],?_⟩
 rcases cl with h0 | ⟨a0,hb,hA⟩
 ·exact .inl ⟨List.eq_nil_of_length_eq_zero (by omega),h0⟩
 ·rcases ho with⟨hx,h0⟩ | ⟨vh,dj,hr⟩
  ·refine .inl ⟨List.eq_nil_of_length_eq_zero (by omega),by omega⟩
  ·rw [hb] at dj
   obtain rfl:=aU dj
   refine .inr ⟨_,hA,rfl,by rw [hlen];exact hle,fun j hj=>?_,fun j hj=>?_,?_⟩
   ·have:=hr.wr (ea sub*t.size+j) (by
     have:(ea sub+c)*t.size≤i.cap*t.size:=Nat.mul_le_mul_right _ hcap
     rw [Nat.add_mul] at this;omega)
    rwa [← Nat.add_assoc] at this
   ·have:=hr.inF (ea sub*t.size+j) (by
     have:(ea sub+c)*t.size≤i.cap*t.size:=Nat.mul_le_mul_right _ hcap
     rw [Nat.add_mul] at this;omega)
    rwa [← Nat.add_assoc] at this
   ·obtain ⟨G,g1,g2,g3⟩:=hr.row
    refine⟨G,?_,fun j hj=>?_,g3⟩
    ·cases sub with
     | none=>simpa [kp,ea] using g1
     | some p=>obtain ⟨lo,k⟩:=p;exact(g1.drop lo).take k
    ·have:=g2 (ea sub*t.size+j) (by
      have:(ea sub+c)*t.size≤i.cap*t.size:=Nat.mul_le_mul_right _ hcap
      rw [Nat.add_mul] at this;omega)
     rwa [← Nat.add_assoc] at this
theorem GQ{t:ad}{c:a8}{xs:List t.D}{v:Value}(h:Inv w0 F0 Z0 n s a w ι Z)(hl:oA s t c=some xs)(hc:cf w Z s ι c v) :
  (ad.sl t).al w (Z.or (c9 ι (borrows s c))) .R xs [v] ah.none∧alive s (borrows s c)=true∧∀d,d∈borrows s c→ei s d:=by
 cases c with
 | nil u =>
  obtain ⟨e,rfl⟩:=gD hl
  subst e
  have hv:v=.slice none 0 0:=hc
  subst hv
  refine⟨?_,rfl,by simp [borrows]⟩
  simp only [ad.al]
  exact⟨none,0,rfl,.inl trivial⟩
 | bY u dp cq ys =>
  simp only [oA] at hl
  obtain ⟨h1,h2,h3⟩:=hc
  cases ha:alive s dp with
  | false=>rw [ha] at hl;simp at hl
  | true =>
   rw [ha] at hl
   obtain ⟨e,rfl⟩:=gD hl
   subst e
   exact⟨h3.1 ha,ha,h1⟩
 | ag id sub =>
  simp only [oA] at hl
  obtain ⟨h1,A,m,k,rfl,h2⟩:=hc
  cases ho:s.o id with
  | row u em ver ys =>
   rw [ho] at hl
   obtain ⟨e,rfl⟩:=gD hl
   subst e
   have hb:borrows s (.ag id sub)=[(id,ver)]:=by simp only [borrows,ho]
   rw [hb]
   refine⟨?_,?_,?_⟩
   ·have cW:=h.fA id
    rw [ho] at cW
    refine ad.al.read (fun _ _ h=>.inl h) _ _ (fun b o hf=>.inr ⟨(id,ver),by simp,hf⟩) (vg cW (h2 u em ver ys (kY ho)))
   ·simp [alive,ho]
   ·intro d ag
    simp at ag
    subst ag
    exact⟨h1,.inr (by simp [j5,ho])⟩
  | _=>rw [ho] at hl;simp at hl
 | _=>simp [oA] at hl
theorem GR(ι : Nat→bD)(nb bh:List (Nat×Nat)):ah.sub (c9 ι bh) (c9 ι (nb++bh)) :=
 fun b o ⟨d,h1,h2⟩=>⟨d,List.mem_append.2 (.inr h1),h2⟩
def xx(w0:World)(F0 Z0:ah)(n:cC)(s:an)(a:Act)(w:World)(ι : Nat→bD)(Z:ah)(b:Bool)(R:ah→List Value→ah→Prop)(vs:List Value)
  (cs':List a8) (aq:an) (bh mE:List (Nat×Nat)):Prop :=
 ∃us bE F Z',vs=us++bE∧Inv w0 F0 Z0 n aq a w ι Z'∧eV s ι Z aq Z'∧bH w Z' aq ι cs' bE∧bF w0 F0 aq w ι Z' F ∧
  R (Z'.or (c9 ι mE)) us F∧(∃nb,mE=nb++bh)∧(b=false→mE=bh)∧(∀d,d∈mE→ei aq d) ∧
  ∀b o,F b o→∃id,(s.o id).live∧(ι id).F b o
theorem vi{b:Bool}{R:ah→List Value→ah→Prop}{v:Value}{bE:List Value}{cs':List a8}{bh:List (Nat×Nat)}(h:Inv w0 F0 Z0 n s a w ι Z)
  (hc:bH w Z s ι cs' bE) (hb:∀d,d∈bh→ei s d) (dt:∀Z,R Z [v] ah.none):xx w0 F0 Z0 n s a w ι Z b R (v :: bE) cs' s bh bh :=
 ⟨[v],bE,ah.none,Z,rfl,h,.refl,hc,.none,dt _,⟨[],rfl⟩,fun _=>rfl,hb,fun _ _ h=>h.elim⟩
theorem GS(h:eV s ι Z aq Z'){d:Nat×Nat}(ag:ei s d):ei aq d:=by
 obtain ⟨h1,h2⟩:=ag
 unfold ei known j5 at *
 rcases h.o d.1 with h3 | ⟨_,h3⟩
 ·rw [h3];exact⟨h1,h2⟩
 ·rw [h3];exact⟨by simp,.inl rfl⟩
theorem NS{t:ad}{e:a'}{x:List t.D}{vs:List Value}{F:ah}(h:(ad.sl t).al w Z (.O e) x vs F) :
  ∃F',ah.sub F' F∧(ad.sl t).al w (Z.or fun b o=>F b o∧¬F' b o) (.O .R) x vs F':=by
 simp only [ad.al] at h ⊢
 obtain ⟨A,c,hv,h⟩:=h
 rcases h with h | ⟨a,hA,hr⟩
 ·exact⟨ah.none,fun _ _ h=>h.elim,A,c,hv,.inl h⟩
 ·obtain ⟨G,g1,g2,g3⟩:=hr.row
  refine⟨ah.run a.block a.off (c*t.size),?_,A,c,hv,.inr ⟨a,hA,hr.spot,hr.cap,hr.wr,fun j hj=>⟨rfl,by omega,by omega⟩,ah.none,?_,fun _ _ h=>h,fun _ _ h=>h.elim⟩⟩
  ·rintro b o ⟨rfl,h1,h2⟩
   have:=hr.inF (o-a.off) (by omega)
   rwa [show a.off +(o-a.off)=o by omega] at this
  ·refine g1.bare fun y us de hG aM=>ad.al.read (fun _ _ h=>.inl h) _ _ (fun b o az=>.inr ⟨g3 b o (hG b o az),?_⟩) aM
   rintro ⟨rfl,h1,h2⟩
   have:=g2 (o-a.off) (by omega)
   rw [show a.off +(o-a.off)=o by omega] at this
   exact this (hG _ o az)
theorem W6(t:ad)(b:Bool)(m:a')(c:a8)(cs:List a8)(s:an)(bh:List (Nat×Nat))(r:List t.D×List a8×an×List (Nat×Nat))(v:Value)(vs:List Value)(Z:ah)
  (hi:(ad.sl t).imp b m (c :: cs) s bh=some r) (h:Inv w0 F0 Z0 n s a w ι Z) (hc:bH w Z s ι (c :: cs) (v :: vs)) (hb:∀d,d∈bh→ei s d) :
  xx w0 F0 Z0 n s a w ι Z b (fun Z us F=>(ad.sl t).al w Z m r.1 us F) (v :: vs) r.2.1 r.2.2.1 bh r.2.2.2:=by
 have oD:∀ {Z m},v=.slice none 0 0→(ad.sl t).al w Z m ([]:List t.D) [v] ah.none:=by
  intro Z m hv;subst hv
  cases m <;> simp only [ad.al] <;> exact⟨none,0,rfl,.inl (by simp)⟩
 have frozen:∀(m:a'),m=.R∨(∃ms,m=.S ms)→(ad.sl t).imp b m (c :: cs) s bh=some r →
   xx w0 F0 Z0 n s a w ι Z b (fun Z us F=>(ad.sl t).al w Z m r.1 us F) (v :: vs) r.2.1 r.2.2.1 bh r.2.2.2:=by
  intro m hm hi
  have GU:∀ {Z:ah} {x:List t.D} {us:List Value},(ad.sl t).al w Z .R x us ah.none→(ad.sl t).al w Z m x us ah.none:=by
   rcases hm with rfl | ⟨ms,rfl⟩
   ·exact fun h=>h
   ·intro Z x us h;simpa only [ad.al] using h
  cases b with
  | true =>
   have c5:(oA s t c).bind (fun x=>some (x,cs,s,borrows s c++bh))=some r:=by
    rcases hm with rfl | ⟨ms,rfl⟩ <;> simpa only [ad.imp] using hi
   obtain ⟨x,hx,c5⟩:=bb c5
   obtain rfl:=aU c5
   obtain ⟨ec,fc,fT⟩:=GQ h hx hc.1
   refine⟨[v],vs,ah.none,Z,rfl,h,.refl,hc.2,.none,GU (ad.al.mono ?_ _ _ (fun _ _ h=>h) ec),⟨_,rfl⟩,fun hf=>by simp at hf,?_,fun _ _ h=>h.elim⟩
   ·rintro b o (hz | ⟨d,ag,hf⟩)
    ·exact .inl hz
    ·exact .inr ⟨d,List.mem_append.2 (.inl ag),hf⟩
   ·intro d ag
    rcases List.mem_append.1 ag with ag | ag
    ·exact fT d ag
    ·exact hb d ag
  | false =>
   cases c with
   | nil u =>
    have c5:(ez (.sl u) (.sl t) ([]:List u.D)).bind (fun x=>some (x,cs,s,bh))=some r:=by
     rcases hm with rfl | ⟨ms,rfl⟩ <;> simpa only [ad.imp] using hi
    obtain ⟨x,hx,c5⟩:=bb c5
    obtain rfl:=aU c5
    obtain ⟨e,rfl⟩:=gD hx
    subst e
    exact vi h hc.2 hb fun Z=>oD hc.1
   | bY u dp cq xs =>
    cases dp with
    | cons d dp=>rcases hm with rfl | ⟨ms,rfl⟩ <;> simp [ad.imp] at hi
    | nil =>
     have c5:(ez (.sl u) (.sl t) xs).bind (fun x=>some (x,cs,s,bh))=some r:=by
      rcases hm with rfl | ⟨ms,rfl⟩ <;> simpa only [ad.imp] using hi
     obtain ⟨x,hx,c5⟩:=bb c5
     obtain rfl:=aU c5
     obtain ⟨e,rfl⟩:=gD hx
     subst e
     have p:=hc.1.2.2.1 rfl
     refine⟨[v],vs,ah.none,Z,rfl,h,.refl,hc.2,.none,GU (ad.al.mono ?_ _ _ (fun _ _ h=>h) p),⟨[],rfl⟩,fun _=>rfl,hb,fun _ _ h=>h.elim⟩
     rintro b o (hz | ⟨d,ag,hf⟩)
     ·exact .inl hz
     ·simp at ag
   | ag id sub =>
    cases ho:s.o id with
    | row u em ver xs =>
     have c5:(ez (.sl u) (.sl t) (kp sub xs)).bind (fun x=>some (x,cs,s.bO id .dead,bh))=some r:=by
      rcases hm with rfl | ⟨ms,rfl⟩ <;> simpa only [ad.imp,ho] using hi
     obtain ⟨x,hx,c5⟩:=bb c5
     obtain rfl:=aU c5
     obtain ⟨e,rfl⟩:=gD hx
     subst e
     have hl:(s.o id).live:=by rw [ho];trivial
     obtain ⟨hk,A,m',k,rfl,hh⟩:=hc.1
     have cW:=h.fA id
     rw [ho] at cW
     have p:=vg cW (hh u em ver xs (kY ho))
     have h7:=NR h hl
     refine⟨[_],vs,ah.none,Z.or (ι id).F,rfl,h.take id (fun _ _ h=>.inl h) (fun b o hz=>hz.imp (fun h=>h) fun h=>⟨hl,h⟩),h7,hc.2.move h7.eb,.none,GU ?_,⟨[],rfl⟩,fun _=>rfl,fun d ag=>GS h7 (hb d ag),fun _ _ h=>h.elim⟩
     exact ad.al.read (fun _ _ h=>.inl (.inl h)) _ _ (fun b o hf=>.inl (.inr hf)) p
    | _=>rcases hm with rfl | ⟨ms,rfl⟩ <;> simp [ad.imp,ho] at hi
   | _=>rcases hm with rfl | ⟨ms,rfl⟩ <;> simp [ad.imp] at hi
 cases m with
 | R=>exact frozen _ (.inl rfl) hi
 | S ms=>exact frozen _ (.inr ⟨ms,rfl⟩) hi
 | O e =>
  cases c with
  | nil u =>
   have c5:(ez (.sl u) (.sl t) ([]:List u.D)).bind (fun x=>some (x,cs,s,bh))=some r:=by
    cases b <;> simpa only [ad.imp] using hi
   obtain ⟨x,hx,c5⟩:=bb c5
   obtain rfl:=aU c5
   obtain ⟨e,rfl⟩:=gD hx
   subst e
   exact vi h hc.2 hb fun Z=>oD hc.1
  | ag id sub =>
   cases ho:s.o id with
   | row u em ver xs =>
    have c5:(if a'.le em e=true then(ez (.sl u) (.sl t) (kp sub xs)).bind (fun x=>some (x,cs,s.bO id .dead,bh)) else none)=some r:=by
     cases b <;>(simp only [ad.imp,ho] at hi;rw [← hi];cases a'.le em e <;> rfl)
    split at c5
    case isFalse=>simp at c5
    rename_i hle
    obtain ⟨x,hx,c5⟩:=bb c5
    obtain rfl:=aU c5
    obtain ⟨gB,rfl⟩:=gD hx
    subst gB
    have hl:(s.o id).live:=by rw [ho];trivial
    obtain ⟨hk,A,m',k,rfl,hh⟩:=hc.1
    have cW:=h.fA id
    rw [ho] at cW
    have p:=vg cW (hh u em ver xs (kY ho))
    have e4:=h.ve hl
    by_cases GV:em=e
    ·subst GV
     have h7:eV s ι Z (s.bO id .dead) Z:=vf id (by rw [ho];trivial)
     exact⟨[_],vs,(ι id).F,Z,rfl,h.take id (fun _ _ h=>h) (fun b o hz=>.inl hz),h7,hc.2.move h7.eb,e4,
      ad.al.mono (fun _ _ h=>.inl h) _ _ (fun _ _ h=>h) p,⟨[],rfl⟩,fun _=>rfl,fun d ag=>GS h7 (hb d ag),fun b o hf=>⟨id,hl,hf⟩⟩
    ·have W7:e=.R:=by
      cases e with
      | R=>rfl
      | O e=>exact absurd (a'.eq_of_beq _ _ hle) GV
      | S e=>exact absurd (a'.eq_of_beq _ _ hle) GV
     subst W7
     obtain ⟨F',c4,eC⟩:=NS p
     have h7:eV s ι Z (s.bO id .dead) (Z.or fun b o=>(ι id).F b o∧¬F' b o):=by
      have h0:=NR h hl
      refine⟨h0.o,h0.t,h0.g,fun _ _ h=>.inl h,fun b o hz=>?_⟩
      rcases hz with h1 | h1
      ·exact .inl h1
      ·exact .inr ⟨id,hl,ct _ _ _,h1.1⟩
     refine⟨[_],vs,F',_,rfl,h.take id (fun _ _ h=>.inl h) (fun b o hz=>hz.imp (fun h=>h) fun h=>⟨hl,h.1⟩),h7,hc.2.move h7.eb,⟨fun b o hf=>e4.own b o (c4 b o hf),fun j hj b o hf=>e4.apart j hj b o (c4 b o hf),?_⟩,
      ad.al.mono (fun _ _ h=>.inl h) _ _ (fun _ _ h=>h) eC,⟨[],rfl⟩,fun _=>rfl,fun d ag=>GS h7 (hb d ag),fun b o hf=>⟨id,hl,c4 b o hf⟩⟩
     rintro b o hf (hz | hz)
     ·exact e4.cY b o (c4 b o hf) hz
     ·exact hz.2 hf
   | _=>cases b <;> simp [ad.imp,ho] at hi
  | _=>cases b <;> simp [ad.imp] at hi
mutual
theorem ad.k0:∀(t:ad) (b:Bool) (m:a') (cs:List a8) (s:an) (bh:List (Nat×Nat)) (r:t.D×List a8×an×List (Nat×Nat)) (vs:List Value) (Z:ah),
  t.imp b m cs s bh=some r→Inv w0 F0 Z0 n s a w ι Z→bH w Z s ι cs vs→(∀d,d∈bh→ei s d) →
  xx w0 F0 Z0 n s a w ι Z b (fun Z us F=>t.al w Z m r.1 us F) vs r.2.1 r.2.2.1 bh r.2.2.2
 | .int k,b,m,cs,s,bh,r,vs,Z,hi,h,hc,hb=>by
  cases cs with
  | nil=>cases m <;> simp [ad.imp] at hi
  | cons c cs =>
   cases vs with
   | nil=>exact hc.elim
   | cons v vs =>
    cases c <;> simp only [ad.imp] at hi <;> try (simp at hi;done)
    rename_i k' x
    cases hk:Nat.beq (dg k) (dg k')
    ·rw [hk] at hi;simp at hi
    ·rw [hk] at hi
     obtain rfl:=aU hi
     obtain rfl:=sA (Nat.eq_of_beq_eq_true hk)
     have hv:v=.int k x:=hc.1
     subst hv
     exact vi h hc.2 hb fun Z=>by simp only [ad.al]
 | .bool,b,m,cs,s,bh,r,vs,Z,hi,h,hc,hb=>by
  cases cs with
  | nil=>cases m <;> simp [ad.imp] at hi
  | cons c cs =>
   cases vs with
   | nil=>exact hc.elim
   | cons v vs =>
    cases c <;> simp only [ad.imp] at hi <;> try (simp at hi;done)
    obtain rfl:=aU hi
    have hv:v=.bool _:=hc.1
    subst hv
    exact vi h hc.2 hb fun Z=>by simp only [ad.al]
 | .str,b,m,cs,s,bh,r,vs,Z,hi,h,hc,hb=>by
  cases cs with
  | nil=>cases m <;> simp [ad.imp] at hi
  | cons c cs =>
   cases vs with
   | nil=>exact hc.elim
   | cons v vs =>
    cases c <;> simp only [ad.imp] at hi <;> try (simp at hi;done)
    obtain rfl:=aU hi
    obtain ⟨q,rfl,hq⟩:=hc.1
    exact vi h hc.2 hb fun Z=>by simp only [ad.al];exact⟨q,rfl,hq⟩
 | .raw,b,m,cs,s,bh,r,vs,Z,hi,h,hc,hb=>by
  cases cs with
  | nil=>cases m <;> simp [ad.imp] at hi
  | cons c cs =>
   cases vs with
   | nil=>exact hc.elim
   | cons v vs =>
    cases c <;> simp only [ad.imp] at hi <;> try (simp at hi;done)
    obtain rfl:=aU hi
    obtain ⟨q,hq⟩:=hc.1
    exact vi h hc.2 hb fun Z=>by simp only [ad.al];exact⟨by rw [q],hq⟩
 | .sl t,b,m,cs,s,bh,r,vs,Z,hi,h,hc,hb=>by
  cases cs with
  | nil=>cases m <;> cases b <;> simp [ad.imp] at hi
  | cons c cs =>
   cases vs with
   | nil=>exact hc.elim
   | cons v vs =>
    exact W6 t b m c cs s bh r v vs Z hi h hc hb
 | .st aj,b,m,cs,s,bh,r,vs,Z,hi,h,hc,hb=>by
  simp only [ad.imp] at hi
  have:=ax.k0 aj b m.parts cs s bh r vs Z hi h hc hb
  simpa only [ad.al] using this
theorem ax.k0:∀(aj:ax) (b:Bool) (m:cQ) (cs:List a8) (s:an) (bh:List (Nat×Nat)) (r:aj.D×List a8×an×List (Nat×Nat)) (vs:List Value) (Z:ah),
  aj.imp b m cs s bh=some r→Inv w0 F0 Z0 n s a w ι Z→bH w Z s ι cs vs→(∀d,d∈bh→ei s d) →
  xx w0 F0 Z0 n s a w ι Z b (fun Z us F=>aj.al w Z m r.1 us F) vs r.2.1 r.2.2.1 bh r.2.2.2
 | .nil,b,m,cs,s,bh,r,vs,Z,hi,h,hc,hb=>by
  simp only [ax.imp] at hi
  obtain rfl:=aU hi
  exact⟨[],vs,ah.none,Z,rfl,h,.refl,hc,.none,by simp only [ax.al],⟨[],rfl⟩,fun _=>rfl,hb,fun _ _ h=>h.elim⟩
 | .cons t aj,b,m,cs,s,bh,r,vs,Z,hi,h,hc,hb=>by
  simp only [ax.imp] at hi
  obtain ⟨bA,h1,hi⟩:=bb hi
  obtain ⟨cc,h2,hi⟩:=bb hi
  obtain rfl:=aU hi
  obtain ⟨us,vs1,F,cp,e1,i1,s1,c1,f1,ec,⟨W8,fD⟩,iS,d1,g1⟩:=ad.k0 t b m.ag cs s bh bA vs Z h1 h hc hb
  obtain ⟨us2,vs2,G,bK,e2,i2,s2,gm,f2,fc,⟨GW,lJ⟩,q6,d2,g2⟩:=ax.k0 aj b m.dq bA.2.1 bA.2.2.1 bA.2.2.2 cc vs1 cp h2 i1 c1 d1
  have kt:ah.sub (cp.or (c9 ι bA.2.2.2)) (bK.or (c9 ι cc.2.2.2)):=by
   rintro b o (hz | hz)
   ·exact .inl (s2.dA b o hz)
   ·rw [lJ];exact .inr (GR _ _ _ b o hz)
  refine⟨us++us2,vs2,F.or G,bK,by rw [e1,e2,List.append_assoc],i2,s1.trans s2,gm,(f1.shrink s2).or f2,?rep,⟨GW++W8,by rw [lJ,fD,List.append_assoc]⟩,fun hf=>by rw [q6 hf,iS hf],d2,?src⟩
  case src =>
   rintro b o (hf | hf)
   ·exact g1 b o hf
   ·obtain ⟨id,hl,hi⟩:=g2 b o hf;exact⟨id,(s1.live hl).1,hi⟩
  simp only [ax.al]
  refine⟨us,us2,F,G,rfl,ad.al.mono kt _ _ (fun _ _ h=>h) ec,fc,?_,fun _ _ h=>.inl h,fun _ _ h=>.inr h⟩
  intro b o h1 h2
  obtain ⟨id,hl,hi⟩:=g2 b o h2
  exact f1.apart id hl b o h1 hi
end
end
end Go.LM
namespace Go.LM
theorem Row.get{α : Type}{w:World}{R : α → List Value→ah→Prop}{size:Nat} : ∀ {x:List α} {b o:Nat} {F:ah} (i:Nat) (hi:i<x.length),Row w R size x b o F →
  ∃vs G,R x[i] vs G∧vs.length=size∧b2 w b (o+i*size) vs∧ah.sub G F
 | y :: x,b,o,F,0,_,⟨vs,G,H,h1,h2,h3,h4,aZ,bd,bC⟩=>⟨vs,G,h1,h2,by simpa using h3,bd⟩
 | y :: x,b,o,F,i+1,hi,⟨vs,G,H,h1,h2,h3,h4,aZ,bd,bC⟩=>by
  obtain ⟨us,de,k1,k2,k3,bf⟩:=Row.get i (by simpa using hi) h4
  refine⟨us,de,k1,k2,?_,fun b o h=>bC b o (bf b o h)⟩
  rwa [show o +(i+1)*size=o+size+i*size by rw [Nat.add_one_mul];omega]
theorem Row.set{α : Type}{w w':World}{R iv : α → List Value→ah→Prop}{size:Nat}{bz : α}{F1:ah} : ∀ {x:List α} {b o:Nat} {F:ah} (i:Nat) (hi:i<x.length),Row w R size x b o F →
  (∀y vs G,ah.sub G F→R y vs G→iv y vs G) →
  (∀j,j<x.length*size→(j<i*size∨(i+1)*size≤j)→w'.cell? (at_ b (o+j))=w.cell? (at_ b (o+j))) →
  (∀vs G,R x[i] vs G→vs.length=size→b2 w b (o+i*size) vs→ah.sub G F→∃bE,bE.length=size∧b2 w' b (o+i*size) bE∧iv bz bE (G.or F1)) →
  ah.apart F1 F→Row w' iv size (x.set i bz) b o (F.or F1)
 | y :: x,b,o,F,0,_,⟨vs,G,H,h1,h2,h3,h4,aZ,bd,bC⟩,dt,hc,hn,ha=>by
  obtain ⟨bE,k1,k2,k3⟩:=hn vs G h1 h2 (by simpa using h3) bd
  refine⟨bE,G.or F1,H,k3,k1,by simpa using k2,?_,?_,?_,fun b o h=>.inl (bC b o h)⟩
  ·refine Row.imp h4 (fun y vs de hG=>dt y vs de fun b o h=>bC b o (hG b o h)) fun j hj=>?_
   have:=hc (size+j) (by rw [List.length_cons,Nat.add_one_mul];omega) (.inr (by simp))
   rwa [← Nat.add_assoc] at this
  ·rintro b o (h | h) hh
   ·exact aZ b o h hh
   ·exact ha b o h (bC b o hh)
  ·rintro b o (h | h)
   ·exact .inl (bd b o h)
   ·exact .inr h
 | y :: x,b,o,F,i+1,hi,⟨vs,G,H,h1,h2,h3,h4,aZ,bd,bC⟩,dt,hc,hn,ha=>by
  refine⟨vs,G,H.or F1,dt _ _ _ bd h1,h2,?_,?_,?_,fun b o h=>.inl (bd b o h),?_⟩
  ·refine h3.of_eq fun k hk=>hc k ?_ (.inl ?_)
   ·rw [List.length_cons,Nat.add_one_mul];omega
   ·rw [Nat.add_one_mul];omega
  ·refine Row.set i (by simpa using hi) h4 (fun y vs de hG=>dt y vs de fun b o h=>bC b o (hG b o h)) ?_ ?_ (fun b o h k=>ha b o h (bC b o k))
   ·intro j hj GX
    have:=hc (size+j) (by rw [List.length_cons,Nat.add_one_mul];omega) (by
     rcases GX with h | h
     ·left;rw [Nat.add_one_mul];omega
     ·right;rw [Nat.add_one_mul];omega)
    rwa [← Nat.add_assoc] at this
   ·intro bE de k1 k2 k3 bf
    have:=hn bE de k1 k2 (by rwa [show o +(i+1)*size=o+size+i*size by rw [Nat.add_one_mul];omega]) (fun b o h=>bC b o (bf b o h))
    rwa [show o +(i+1)*size=o+size+i*size by rw [Nat.add_one_mul];omega] at this
  ·rintro b o h (hh | hh)
   ·exact aZ b o h hh
   ·exact ha b o hh (bd b o h)
  ·rintro b o (h | h)
   ·exact .inl (bC b o h)
   ·exact .inr h
section
variable{w0:World}{F0 Z0:ah}{n:cC}{s aq:an}{a b6:Act}{w w':World}{ι ba:Nat→bD}{Z Z':ah}
def lK(w:World)(s:an)(ι : Nat→bD)(dp:List (Nat×Nat))(cq:Option Place)(vs:List Value):Prop :=
 ∀k v,vs[k]?=some v→q0 w s ι dp (cq.map fun p => { p with off:=p.off+k }) v
theorem lK.none{dp:List (Nat×Nat)}{vs:List Value} : lK w s ι dp none vs:=fun _ _ _=>.none
theorem lK.head{dp:List (Nat×Nat)}{cq:Option Place}{v:Value}{vs:List Value}(h:lK w s ι dp cq (v :: vs)):q0 w s ι dp cq v:=by
 have:=h 0 v rfl
 cases cq with
 | none=>exact .none
 | some p=>simpa using this
theorem lK.left{dp:List (Nat×Nat)}{cq:Option Place}{us vs:List Value}(h:lK w s ι dp cq (us++vs)):lK w s ι dp cq us:=fun k v hv=>h k v (by
 rw [List.getElem?_append_left (List.getElem?_eq_some_iff.1 hv).1];exact hv)
theorem lK.right{dp:List (Nat×Nat)}{cq:Option Place}{us vs:List Value}(h:lK w s ι dp cq (us++vs)):lK w s ι dp (cq.map fun p => { p with off:=p.off+us.length }) vs:=fun k v hv=>by
 have:=h (us.length+k) v (by rw [List.getElem?_append_right (by omega)];simpa using hv)
 cases cq with
 | none=>exact .none
 | some p=>simpa [Nat.add_assoc] using this
mutual
theorem ad.pN:∀(t:ad) (dp:List (Nat×Nat)) (cq:Option Place) {x:t.D} {vs:List Value},(∀d,d∈dp→ei s d) →
  (alive s dp=true→t.al w (Z.or (c9 ι dp)) .R x vs ah.none)→(∃m Z' F',t.al w Z' m x vs F')→lK w s ι dp cq vs→bH w Z s ι (t.cells dp cq x) vs
 | .int k,dp,cq,x,vs,ag,h,⟨m,Z',F',h'⟩,lL=>by simp only [ad.al] at h';subst h';exact⟨rfl,trivial⟩
 | .bool,dp,cq,x,vs,ag,h,⟨m,Z',F',h'⟩,lL=>by simp only [ad.al] at h';subst h';exact⟨rfl,trivial⟩
 | .str,dp,cq,x,vs,ag,h,⟨m,Z',F',h'⟩,lL=>by simp only [ad.al] at h';obtain ⟨q,rfl,hq⟩:=h';exact⟨⟨q,rfl,hq⟩,trivial⟩
 | .raw,dp,cq,x,vs,ag,h,⟨m,Z',F',h'⟩,lL=>by simp only [ad.al] at h';obtain ⟨rfl,hq⟩:=h';exact⟨⟨rfl,hq⟩,trivial⟩
 | .sl t,dp,cq,x,vs,ag,h,⟨m,Z',F',h'⟩,lL=>by
  have hv:∃A c,vs=[.slice A x.length c]:=by
   cases m <;>(simp only [ad.al] at h';obtain ⟨A,c,hv,_⟩:=h';exact⟨A,c,hv⟩)
  obtain ⟨A,c,rfl⟩:=hv
  exact⟨⟨ag,⟨A,_,c,rfl⟩,h,lL.head⟩,trivial⟩
 | .st aj,dp,cq,x,vs,ag,h,⟨m,Z',F',h'⟩,lL=>by
  simp only [ad.al] at h h'
  simp only [ad.cells]
  exact ax.pN aj dp cq ag h ⟨_,_,_,h'⟩ lL
theorem ax.pN:∀(aj:ax) (dp:List (Nat×Nat)) (cq:Option Place) {x:aj.D} {vs:List Value},(∀d,d∈dp→ei s d) →
  (alive s dp=true→aj.al w (Z.or (c9 ι dp)) (a'.parts .R) x vs ah.none)→(∃m Z' F',aj.al w Z' m x vs F')→lK w s ι dp cq vs→bH w Z s ι (aj.cells dp cq x) vs
 | .nil,dp,cq,x,vs,ag,h,⟨m,Z',F',h'⟩,lL=>by simp only [ax.al] at h';subst h';trivial
 | .cons t aj,dp,cq,x,vs,ag,h,⟨m,Z',F',h'⟩,lL=>by
  simp only [ax.al] at h h'
  obtain ⟨us,bE,G,H,rfl,h2,h3,_⟩:=h'
  have hlen:=(ad.al.len t _ h2).1
  simp only [ax.cells]
  refine bH.append (ad.pN t dp cq ag (fun ha=>?_) ⟨_,_,_,h2⟩ lL.left) (ax.pN aj dp _ ag (fun ha=>?_) ⟨_,_,_,h3⟩ (hlen ▸ lL.right))
  ·obtain ⟨aR,W9,de,fE,e,k2,k3,bf,bs,c_⟩:=h ha
   have:=(ad.al.len t _ k2).1
   obtain ⟨rfl,rfl⟩:=List.append_inj e (by omega)
   exact ad.al.mono (fun _ _ h=>h) _ _ bs k2
  ·obtain ⟨aR,W9,de,fE,e,k2,k3,bf,bs,c_⟩:=h ha
   have:=(ad.al.len t _ k2).1
   obtain ⟨rfl,rfl⟩:=List.append_inj e (by omega)
   exact ax.al.mono (fun _ _ h=>h) _ _ c_ k3
end
theorem oE{off k:Nat}{cs ds:List a8}(h:takeN off k cs=some ds):off+k≤cs.length∧ds=(cs.drop off).take k:=by
 unfold takeN at h
 cases hb:Nat.ble (off+k) cs.length
 ·rw [hb] at h;simp at h
 ·rw [hb] at h;exact⟨Nat.le_of_ble_eq_true hb,(aU h).symm⟩
theorem c6{t:ad}{xs:List t.D}{i:Nat}(hi:i<xs.length):J t xs i=xs[i]:=by simp [J,hi]
theorem NT(h:Inv w0 F0 Z0 n s a w ι Z){id:Nat}{t:ad}{em:a'}{ver:Nat}{xs:List t.D}(ho:s.o id=.row t em ver xs){i:Nat}(hi:i<xs.length) :
  ∃a0 vs,(ι id).base=some a0∧a0.spot=none∧bH w Z s ι (Gs t em id ver i (J t xs i)) vs∧b2 w a0.block (a0.off+i*t.size) vs∧vs.length=t.size:=by
 have cW:=h.fA id
 rw [ho] at cW
 rcases cW with⟨rfl,_⟩ | ⟨a0,hb,hr⟩
 ·simp at hi
 ·obtain ⟨G,g1,g2,g3⟩:=hr.row
  obtain ⟨vs,de,k1,k2,k3,bf⟩:=g1.get i hi
  refine⟨a0,vs,hb,hr.spot,?_,k3,k2⟩
  rw [c6 hi]
  have key:∀dp cq,(∀d,d∈dp→ei s d)→(em=.R∨(id,ver)∈dp)→lK w s ι dp cq vs→bH w Z s ι (t.cells dp cq xs[i]) vs:=by
   intro dp cq ag sL lL
   refine ad.pN t dp cq ag (fun ha=>?_) ⟨_,_,_,k1⟩ lL
   rcases sL with rfl | hm
   ·exact ad.al.mono (fun _ _ h=>.inl h) _ _ (fun _ _ h=>h) (ad.al.read (Z:=Z) (Z':=Z) (F:=ah.none) (fun _ _ h=>h) t .R (fun _ _ h=>h.elim) (by
     have:=k1
     exact qZ this))
   ·exact ad.al.read (fun _ _ h=>.inl h) t em (fun b o az=>.inr ⟨_,hm,g3 b o (bf b o az)⟩) k1
  unfold Gs
  split
  ·exact key [] _ (by simp) (.inl rfl) .none
  ·refine key _ _ ?_ (.inr (by simp)) ?_
   case refine_2 =>
    intro k v hv p au
    simp only [Option.map_some,Option.some.injEq] at au
    subst au
    refine⟨⟨(id,ver),by simp,rfl⟩,fun _=>?_⟩
    have hk:k<t.size:=by rw [← k2];exact(List.getElem?_eq_some_iff.1 hv).1
    have GY:(i+1)*t.size≤(ι id).cap*t.size:=Nat.mul_le_mul_right _ (by have:=hr.cap;omega)
    rw [Nat.add_one_mul] at GY
    refine⟨a0.block,a0.off+i*t.size+k,⟨rfl,?_⟩,k3 k v hv,?_⟩
    ·show match (s.o id).core with | .var _ _=>_ | .row t _ _ xs=>_ | _=>_
     rw [ho]
     exact⟨i,rfl,hi,a0,hb,by simp⟩
    ·have:=hr.inF (i*t.size+k) (by omega)
     rwa [← Nat.add_assoc] at this
   intro d ag
   simp at ag
   subst ag
   exact⟨by simp [known,ho],.inr (by simp [j5,ho])⟩
theorem xy(h:Inv w0 F0 Z0 n s a w ι Z){k:Nat}{p:Place}{cs:List a8}{A:Addr}(hr:lG s k p=some cs)(au:iR s ι p A) :
  ∃b o vs,A=at_ b o∧bH w Z s ι cs vs∧b2 w b o vs∧vs.length=k:=by
 obtain ⟨hs,au⟩:=au
 unfold lG at hr
 cases ho:s.o p.id with
 | var ver old =>
  rw [ho] at hr au
  obtain ⟨he,a0,hb,rfl⟩:=au
  rw [he] at hr
  obtain ⟨h1,rfl⟩:=oE hr
  have cW:=h.fA p.id
  rw [ho] at cW
  obtain ⟨vh,vs,dj,hsp,hc,cl,_⟩:=cW
  rw [hb] at dj
  obtain rfl:=aU dj
  refine⟨_,_,(vs.drop p.off).take k,rfl,(hc.drop _).take _,cl.part _ _,?_⟩
  have:=hc.len
  simp;omega
 | row t em ver xs =>
  rw [ho] at hr au
  obtain ⟨i,he,hi,a0,hb,rfl⟩:=au
  rw [he] at hr
  obtain ⟨h1,rfl⟩:=oE hr
  obtain ⟨vh,vs,dj,hsp,hc,cl,hl⟩:=NT h ho hi
  rw [hb] at dj
  obtain rfl:=aU dj
  refine⟨_,_,(vs.drop p.off).take k,rfl,(hc.drop _).take _,?_,?_⟩
  ·have:=cl.part p.off k
   exact this
  ·have:=hc.len
   simp;omega
 | none=>rw [ho] at hr;simp at hr
 | dead=>rw [ho] at hr;simp at hr
 | b_=>rw [ho] at hr;simp at hr
theorem W_{id:Nat}(b5:s.o id=.none)(o:cj)(i:bD):eB w Z s ι w Z (s.bO id o) (bQ ι id i):=by
 refine⟨fun j=>?_,fun _ _ h=>h,b4.refl _ _⟩
 show ix (s.o j) (ι j) (bQ s.o id o j) (bQ ι id i j)
 by_cases hj:id=j
 ·subst hj;rw [b5];exact .made _ _ _
 ·rw [cO hj,cO hj];exact .stay _ _
theorem Inv.Ay(h:Inv w0 F0 Z0 n s a w ι Z){id:Nat}(b5:s.o id=.none){o:cj}{i:bD}
  (cK:hD w Z (s.bO id o) (bQ ι id i) i o) (hF:bF w0 F0 s w ι Z i.F):Inv w0 F0 Z0 n (s.bO id o) a w (bQ ι id i) Z:=by
 have hm:=W_ (w:=w) (Z:=Z) (ι := ι) b5 o i
 refine h.next hm (Ext.refl _ ah.none) (fun _ _ h=>h.elim) (fun _ _ h=>.inl h) ?_ ?_ (fun k=>(h.tmps k).move hm) h.size h.defers
 ·intro j hl hne
  by_cases hj:id=j
  ·subst hj
   rw [ct]
   refine⟨by show hD _ _ _ _ _ (bQ s.o id o id);rw [ct];exact cK,hF.own,fun ks fS jm=>?_⟩
   rw [cO jm]
   have dN:(s.o ks).live:=by
    have:(bQ s.o id _ ks).live:=fS
    rwa [cO jm] at this
   exact hF.apart ks dN
  ·exact absurd ⟨cO hj,cO hj⟩ hne
 ·intro j hl
  by_cases hj:id=j
  ·subst hj;rw [ct];exact hF.cY
  ·rw [cO hj]
   have dN:(s.o j).live:=by
    have:(bQ s.o id _ j).live:=hl
    rwa [cO hj] at this
   exact h.cY j dN
structure k4(s:an)(ι : Nat→bD)(aq:an)(ba:Nat→bD):Prop where
 o:∀id,s.o id≠.none→aq.o id=s.o id ∧ ba id = ι id
 t:aq.t=s.t
 g:aq.g=s.g
 nl:∀id o',s.o id=.none→aq.o id≠.b_ o'
theorem k4.refl:k4 s ι s ι :=⟨fun _ _=>⟨rfl,rfl⟩,rfl,rfl,fun _ _ h=>by rw [h];simp⟩
theorem k4.trans{s2:an}{eo:Nat→bD}(h:k4 s ι aq ba)(k:k4 aq ba s2 eo):k4 s ι s2 eo :=
 ⟨fun id hn=>by have h1:=h.o id hn;have h2:=k.o id (by rw [h1.1];exact hn);exact⟨h2.1.trans h1.1,h2.2.trans h1.2⟩,k.t.trans h.t,k.g.trans h.g,fun id o' hn=>by
  by_cases hm:aq.o id=.none
  ·exact k.nl id o' hm
  ·rw [(k.o id hm).1];exact h.nl id o' hn⟩
theorem k4.eb(h:k4 s ι aq ba):eB w Z s ι w Z aq ba:=by
 refine⟨fun id=>?_,fun _ _ h=>h,b4.refl _ _⟩
 by_cases hn:s.o id=.none
 ·rw [hn];exact .made _ _ _
 ·rw [(h.o id hn).1,(h.o id hn).2];exact .stay _ _
theorem Xa{id:Nat}(b5:s.o id=.none)(o:cj)(i:bD)(hnl:∀o',o≠.b_ o'):k4 s ι (s.bO id o) (bQ ι id i):=by
 refine⟨fun j hn=>?_,rfl,rfl,fun j o' hn=>?_⟩
 ·have hj:id≠j:=fun e=>hn (e ▸ b5)
  exact⟨cO hj,cO hj⟩
 ·show bQ s.o id o j≠_
  by_cases hj:id=j
  ·subst hj;rw [ct];exact hnl o'
  ·rw [cO hj,hn];simp
def GZ(w0:World)(F0 Z0:ah)(n:cC)(s:an)(a:Act)(w:World)(ι : Nat→bD)(Z:ah)(vs:List Value)(F:ah)(cs:List a8)(aq:an):Prop :=
 ∃ ba,Inv w0 F0 Z0 n aq a w ba Z∧k4 s ι aq ba∧bH w Z aq ba cs vs∧∀G,bF w0 F0 s w ι Z G→ah.apart G F→bF w0 F0 aq w ba Z G
theorem sM(h:Inv w0 F0 Z0 n s a w ι Z){vs:List Value}{F:ah}{cs:List a8}(hc:bH w Z s ι cs vs):GZ w0 F0 Z0 n s a w ι Z vs F cs s :=
 ⟨ι,h,.refl,hc,fun _ hG _=>hG⟩
mutual
theorem ad.nJ:∀(t:ad) (m:a') (dp:List (Nat×Nat)) (x:t.D) (s:an) (ι : Nat→bD) (j:Nat) (r:List a8×an×Nat) (vs:List Value) (F:ah),
  t.gR m dp x s j=some r→Inv w0 F0 Z0 n s a w ι Z→t.al w (Z.or (c9 ι dp)) m x vs F→bF w0 F0 s w ι Z F→ah.apart F (c9 ι dp)→(∀d,d∈dp→ei s d) →
  GZ w0 F0 Z0 n s a w ι Z vs F r.1 r.2.1
 | .int k,m,dp,x,s,ι,j,r,vs,F,he,h,hr,hf,mF,ag=>by
  simp only [ad.gR] at he;obtain rfl:=aU he
  simp only [ad.al] at hr;subst hr;exact sM h ⟨rfl,trivial⟩
 | .bool,m,dp,x,s,ι,j,r,vs,F,he,h,hr,hf,mF,ag=>by
  simp only [ad.gR] at he;obtain rfl:=aU he
  simp only [ad.al] at hr;subst hr;exact sM h ⟨rfl,trivial⟩
 | .str,m,dp,x,s,ι,j,r,vs,F,he,h,hr,hf,mF,ag=>by
  simp only [ad.gR] at he;obtain rfl:=aU he
  simp only [ad.al] at hr;obtain ⟨q,rfl,hq⟩:=hr;exact sM h ⟨⟨q,rfl,hq⟩,trivial⟩
 | .raw,m,dp,x,s,ι,j,r,vs,F,he,h,hr,hf,mF,ag=>by
  simp only [ad.gR] at he;obtain rfl:=aU he
  simp only [ad.al] at hr;obtain ⟨rfl,hq⟩:=hr;exact sM h ⟨⟨rfl,hq⟩,trivial⟩
 | .sl t,.R,dp,x,s,ι,j,r,vs,F,he,h,hr,hf,mF,ag=>by
  simp only [ad.gR] at he;obtain rfl:=aU he
  have h8:=hr
  simp only [ad.al] at hr;obtain ⟨A,c,rfl,_⟩:=hr
  exact sM h ⟨⟨ag,⟨A,_,c,rfl⟩,fun _=>qZ h8,.none⟩,trivial⟩
 | .sl t,.S ms,dp,x,s,ι,j,r,vs,F,he,h,hr,hf,mF,ag=>by
  simp only [ad.gR] at he;obtain rfl:=aU he
  have h8:(ad.sl t).al w (Z.or (c9 ι dp)) .R x vs F:=by simp only [ad.al] at hr ⊢;exact hr
  simp only [ad.al] at hr;obtain ⟨A,c,rfl,_⟩:=hr
  exact sM h ⟨⟨ag,⟨A,_,c,rfl⟩,fun _=>qZ h8,.none⟩,trivial⟩
 | .sl t,.O e,dp,x,s,ι,j,r,vs,F,he,h,hr,hf,mF,ag=>by
  simp only [ad.gR] at he
  cases hq:(dp.isEmpty||a'.beq e t.own)
  ·rw [hq] at he;simp at he
  rw [hq] at he
  cases ho:s.o j with
  | none =>
   rw [ho] at he
   obtain rfl:=aU he
   have gn:(ad.sl t).al w Z (.O e) x vs F:=by
    cases mG:dp with
    | nil=>subst mG;exact ad.al.mono (fun b o hz=>hz.elim (fun h=>h) fun⟨d,ag,_⟩=>by simp at ag) _ _ (fun _ _ h=>h) hr
    | cons d ajN =>
     subst mG
     have he:e=t.own:=a'.eq_of_beq _ _ (by simpa using hq)
     subst he
     exact sJ (.sl t) hr
   simp only [ad.al] at gn
   obtain ⟨A,c,rfl,gn⟩:=gn
   let i:bD:=⟨A,c,F⟩
   have cK:hD w Z (s.bO j (.row t e 0 x)) (bQ ι j i) i (.row t e 0 x):=by
    rcases gn with gn | ⟨a0,hA,gn⟩
    ·exact .inl gn
    ·exact .inr ⟨a0,hA,gn⟩
   refine⟨bQ ι j i,h.Ay ho cK hf,Xa ho _ _ (fun o'=>by simp),⟨⟨?_,A,_,c,rfl,?_⟩,trivial⟩,?_⟩
   ·show bQ s.o j _ j≠_
    rw [ct];simp
   ·intro dk em ver xs hh
    have this:(bQ s.o j (cj.row t e 0 x) j).core=.row dk em ver xs:=hh
    rw [ct] at this
    have this:cj.row t e 0 x=.row dk em ver xs:=this
    injection this with h1 h2 h3 h4
    subst h1
    obtain rfl:=eq_of_heq h4
    rw [ct]
    refine⟨rfl,by simp [ea],?_,by simp [ea,i],?_⟩
    ·rcases gn with⟨hx,hc⟩ | ⟨a0,hA,gn⟩
     ·subst hx;simp
     ·exact gn.cap
    ·rcases gn with⟨hx,hc⟩ | ⟨a0,hA,gn⟩
     ·exact .inl hc
     ·refine .inr ⟨a0,hA,?_⟩
      rw [hA]
      have:=gn.spot
      obtain ⟨pO,off,sp⟩:=a0
      subst this
      simp [ea,at_]
   ·intro G hG hGF
    refine⟨hG.own,fun id hl=>?_,hG.cY⟩
    by_cases hj:j=id
    ·subst hj;rw [ct];exact hGF
    ·rw [cO hj]
     exact hG.apart id (by have:(bQ s.o j _ id).live:=hl;rwa [cO hj] at this)
  | _=>rw [ho] at he;simp at he
 | .st aj,m,dp,x,s,ι,j,r,vs,F,he,h,hr,hf,mF,ag=>by
  simp only [ad.gR] at he;simp only [ad.al] at hr
  exact ax.nJ aj m.parts dp x s ι j r vs F he h hr hf mF ag
theorem ax.nJ:∀(aj:ax) (m:cQ) (dp:List (Nat×Nat)) (x:aj.D) (s:an) (ι : Nat→bD) (j:Nat) (r:List a8×an×Nat) (vs:List Value) (F:ah),
  aj.gR m dp x s j=some r→Inv w0 F0 Z0 n s a w ι Z→aj.al w (Z.or (c9 ι dp)) m x vs F→bF w0 F0 s w ι Z F→ah.apart F (c9 ι dp)→(∀d,d∈dp→ei s d) →
  GZ w0 F0 Z0 n s a w ι Z vs F r.1 r.2.1
 | .nil,m,dp,x,s,ι,j,r,vs,F,he,h,hr,hf,mF,ag=>by
  simp only [ax.gR] at he;obtain rfl:=aU he
  simp only [ax.al] at hr;subst hr;exact sM h trivial
 | .cons t aj,m,dp,x,s,ι,j,r,vs,F,he,h,hr,hf,mF,ag=>by
  simp only [ax.gR] at he
  obtain ⟨bA,h1,he⟩:=bb he
  obtain ⟨cc,h2,he⟩:=bb he
  obtain rfl:=aU he
  simp only [ax.al] at hr
  obtain ⟨us,bE,G,H,rfl,ec,fc,fT,jn,mH⟩:=hr
  have Xb:bF w0 F0 s w ι Z G:=⟨fun b o az=>hf.own b o (jn b o az),fun id hl b o az=>hf.apart id hl b o (jn b o az),fun b o az=>hf.cY b o (jn b o az)⟩
  have Xc:bF w0 F0 s w ι Z H:=⟨fun b o az=>hf.own b o (mH b o az),fun id hl b o az=>hf.apart id hl b o (mH b o az),fun b o az=>hf.cY b o (mH b o az)⟩
  obtain ⟨du,i1,g1,c1,f1⟩:=ad.nJ t m.ag dp x.1 s ι j bA us G h1 h ec Xb (fun b o az=>mF b o (jn b o az)) ag
  have NU:∀d,d∈dp→s.o d.1≠.none:=fun d hH=>(ag d hH).1
  have NV:∀b o,c9 ι dp b o↔c9 du dp b o:=by
   intro b o
   constructor
   ·rintro ⟨d,hH,hx⟩;exact⟨d,hH,by rw [(g1.o d.1 (NU d hH)).2];exact hx⟩
   ·rintro ⟨d,hH,hx⟩;exact⟨d,hH,by rw [(g1.o d.1 (NU d hH)).2] at hx;exact hx⟩
  have fU:∀d,d∈dp→ei bA.2.1 d:=by
   intro d hH
   have:=ag d hH
   unfold ei known j5 at *
   rw [(g1.o d.1 this.1).1];exact this
  obtain ⟨eo,i2,g2,gm,f2⟩:=ax.nJ aj m.dq dp x.2 bA.2.1 du bA.2.2 cc bE H h2 i1 (ax.al.mono (fun b o hz=>hz.imp (fun h=>h) (fun h=>(NV b o).1 h)) _ _ (fun _ _ h=>h) fc)
   (f1 H Xc (fun b o k1 k2=>fT b o k2 k1)) (fun b o k1 k2=>mF b o (mH b o k1) ((NV b o).2 k2)) fU
  refine⟨eo,i2,g1.trans g2,(c1.move g2.eb).append gm,fun de G0 hGF=>?_⟩
  exact f2 de (f1 de G0 fun b o k1 k2=>hGF b o k1 (jn b o k2)) fun b o k1 k2=>hGF b o k1 (mH b o k2)
end
end
end Go.LM
namespace Go.LM
def c8{α : Type}(l:List α)(k:Nat)(us:List α):List α := l.take k++us++l.drop (k+us.length)
theorem Az{α : Type}(l:List α)(k:Nat):c8 l k []=l:=by simp [c8]
theorem Gi{α : Type}{l us:List α}{k:Nat}(h:k+us.length≤l.length):(c8 l k us).length=l.length:=by simp [c8];omega
theorem Xd{α : Type}{A B us:List α}{k:Nat}(h:k+us.length≤A.length):c8 (A++B) k us=c8 A k us++B:=by
 unfold c8
 rw [List.take_append_of_le_length (by omega),List.drop_append_of_le_length (by omega)]
 simp [List.append_assoc]
theorem NW{α : Type}{A B us:List α}{k:Nat}(h:A.length≤k):c8 (A++B) k us=A++c8 B (k-A.length) us:=by
 unfold c8
 obtain ⟨j,rfl⟩:∃j,k=A.length+j:=⟨k-A.length,by omega⟩
 rw [List.take_append,List.take_of_length_le (by omega),Nat.add_sub_cancel_left,show A.length+j+us.length=A.length +(j+us.length) by omega,List.drop_append,List.drop_of_length_le (by omega),Nat.add_sub_cancel_left]
 simp [List.append_assoc]
theorem Xe{α : Type}{A B us vs:List α}{k:Nat}(h:k+us.length=A.length):c8 (A++B) k (us++vs)=c8 A k us++c8 B 0 vs:=by
 unfold c8
 rw [List.take_append_of_le_length (by omega),List.length_append,show k +(us.length+vs.length)=A.length+vs.length by omega,List.drop_append,List.drop_of_length_le (by omega),Nat.add_sub_cancel_left,h,List.drop_length]
 simp [List.append_assoc]
theorem Xf{α : Type}{l us:List α}(h:us.length=l.length):c8 l 0 us=us:=by
 unfold c8;rw [List.take_zero,Nat.zero_add,h,List.drop_length];simp
section
variable{w0:World}{F0 Z0:ah}{n:cC}{s aq:an}{a b6:Act}{w w':World}{ι ba:Nat→bD}{Z Z':ah}
def NX(w0:World)(F0 Z0:ah)(n:cC)(s:an)(a:Act)(w:World)(ι : Nat→bD)(Z:ah)(NY:List Value→ah→Prop)(R:ah→List Value→ah→Prop)(size skip:Nat)(vs:List Value)
  (cs':List a8) (aq:an):Prop :=
 ∃us rest F1 Z',vs=us++rest∧Inv w0 F0 Z0 n aq a w ι Z'∧eV s ι Z aq Z'∧bH w Z' aq ι cs' rest∧bF w0 F0 aq w ι Z' F1 ∧
  (∀b o,F1 b o→∃id,(s.o id).live∧(ι id).F b o)∧skip+us.length≤size∧(cs'≠[]→skip+us.length=size) ∧
  ∀old G,NY old G→∀id,(aq.o id).live→ah.sub G (ι id).F→R Z' (c8 old skip us) (G.or F1)
mutual
theorem ad.vj:∀(t:ad) (m:a') (x:t.D) (skip:Nat) (cs:List a8) (s:an) (r:t.D×List a8×an) (vs:List Value) (Z:ah),
  t.put m x skip cs s=some r→skip≤t.size→Inv w0 F0 Z0 n s a w ι Z→bH w Z s ι cs vs →
  NX w0 F0 Z0 n s a w ι Z (fun us F=>t.al w Z m x us F) (fun Z us F=>t.al w Z m r.1 us F) t.size skip vs r.2.1 r.2.2
 | t,m,x,skip,[],s,r,vs,Z,au,oF,h,hc=>by
  have nK:some (x,([]:List a8),s)=some r:=by cases t <;> simpa only [ad.put] using au
  obtain rfl:=aU nK
  cases vs with
  | cons=>exact hc.elim
  | nil =>
   refine⟨[],[],ah.none,Z,rfl,h,.refl,trivial,.none,fun _ _ h=>h.elim,by simpa using oF,fun h=>absurd rfl h,fun _ _ hr _ _ _=>?_⟩
   rw [Az]
   exact ad.al.mono (fun _ _ h=>h) _ _ (fun _ _ h=>.inl h) hr
 | t,m,x,skip,c :: cs,s,r,vs,Z,au,oF,h,hc=>by
  cases hb:(Nat.beq skip 0&&Nat.ble t.size (cs.length+1)) with
  | true =>
   have nK:(t.imp false m (c :: cs) s []).bind (fun r=>some (r.1,r.2.1,r.2.2.1))=some r:=by
    cases t <;>(simp only [ad.put] at au;rw [hb] at au;exact au)
   obtain ⟨q,hq,nK⟩:=bb nK
   obtain rfl:=aU nK
   have dj:skip=0∧t.size≤cs.length+1:=by
    simp only [Bool.and_eq_true] at hb
    exact⟨Nat.eq_of_beq_eq_true hb.1,Nat.le_of_ble_eq_true hb.2⟩
   obtain ⟨rfl,_⟩:=dj
   obtain ⟨us,rest,F,Z',e1,i1,s1,c1,f1,ec,_,iS,_,g1⟩:=ad.k0 t false m (c :: cs) s [] q vs Z hq h hc (by simp)
   have pP:=(ad.al.len t m ec).1
   refine⟨us,rest,F,Z',e1,i1,s1,c1,f1,g1,by omega,fun _=>by omega,fun _ _ hr _ _ _=>?_⟩
   have hlen:=(ad.al.len t m hr).1
   rw [Xf (by omega)]
   refine ad.al.mono ?_ _ _ (fun _ _ h=>.inr h) ec
   rintro b o (hz | ⟨d,ag,_⟩)
   ·exact hz
   ·rw [iS rfl] at ag;simp at ag
  | false =>
   cases t with
   | st aj =>
    simp only [ad.put] at au
    rw [hb] at au
    have:=ax.vj aj m.parts x skip (c :: cs) s r vs Z au (by simpa only [ad.size] using oF) h hc
    simpa only [ad.al,ad.size] using this
   | _=>simp only [ad.put] at au;rw [hb] at au;simp at au
theorem ax.vj:∀(aj:ax) (m:cQ) (x:aj.D) (skip:Nat) (cs:List a8) (s:an) (r:aj.D×List a8×an) (vs:List Value) (Z:ah),
  aj.put m x skip cs s=some r→skip≤aj.size→Inv w0 F0 Z0 n s a w ι Z→bH w Z s ι cs vs →
  NX w0 F0 Z0 n s a w ι Z (fun us F=>aj.al w Z m x us F) (fun Z us F=>aj.al w Z m r.1 us F) aj.size skip vs r.2.1 r.2.2
 | .nil,m,x,skip,cs,s,r,vs,Z,au,oF,h,hc=>by
  simp only [ax.put] at au
  obtain rfl:=aU au
  simp only [ax.size] at oF ⊢
  refine⟨[],vs,ah.none,Z,rfl,h,.refl,hc,.none,fun _ _ h=>h.elim,by simpa using oF,fun _=>by simp;omega,fun _ _ hr _ _ _=>?_⟩
  rw [Az]
  simp only [ax.al] at hr ⊢
  exact hr
 | .cons t aj,m,x,skip,cs,s,r,vs,Z,au,oF,h,hc=>by
  simp only [ax.put] at au
  cases hb:Nat.ble t.size skip with
  | true =>
   rw [hb] at au
   have pQ:=Nat.le_of_ble_eq_true hb
   obtain ⟨q,hq,au⟩:=bb au
   obtain rfl:=aU au
   simp only [ax.size] at oF
   obtain ⟨us,rest,F1,Z',e1,i1,s1,c1,f1,g1,dO,eD,k1⟩:=ax.vj aj m.dq x.2 (skip-t.size) cs s q vs Z hq (by omega) h hc
   refine⟨us,rest,F1,Z',e1,i1,s1,c1,f1,g1,by simp only [ax.size];omega,fun hne=>by have:=eD hne;simp only [ax.size];omega,fun old G hr id hl hG=>?_⟩
   simp only [ax.al] at hr
   obtain ⟨vk,AA,G1,G2,rfl,ec,fc,fT,jn,mH⟩:=hr
   have hl1:=(ad.al.len t _ ec).1
   rw [NW (by omega),hl1]
   simp only [ax.al]
   refine⟨vk,_,G1,G2.or F1,rfl,ad.al.mono s1.dA _ _ (fun _ _ h=>h) ec,k1 _ _ fc id hl (fun b o az=>hG b o (mH b o az)),?_,fun b o az=>.inl (jn b o az),?_⟩
   ·rintro b o az (hh | hh)
    ·exact fT b o az hh
    ·exact f1.apart id hl b o hh (hG b o (jn b o az))
   ·rintro b o (az | az)
    ·exact .inl (mH b o az)
    ·exact .inr az
  | false =>
   rw [hb] at au
   have cw:skip<t.size:=by
    rcases Nat.lt_or_ge skip t.size with h | h
    ·exact h
    ·rw [Nat.ble_eq_true_of_le h] at hb;simp at hb
   obtain ⟨c4,nL,au⟩:=bb au
   obtain ⟨eC,hI,au⟩:=bb au
   obtain rfl:=aU au
   obtain ⟨us,rest,F1,cp,e1,i1,s1,c1,f1,g1,dO,eD,k1⟩:=ad.vj t m.ag x.1 skip cs s c4 vs Z nL (by omega) h hc
   obtain ⟨us2,NZ,dE,bK,e2,i2,s2,gm,f2,g2,nM,oG,k2⟩:=ax.vj aj m.dq x.2 0 c4.2.1 c4.2.2 eC rest cp hI (by omega) i1 c1
   have fC:c4.2.1=[]→us2=[]∧NZ=[]:=by
    intro hcs
    rw [hcs] at c1
    cases rest with
    | nil=>have:=e2;simp at this;exact⟨this.1,this.2⟩
    | cons=>exact c1.elim
   refine⟨us++us2,NZ,F1.or dE,bK,by rw [e1,e2,List.append_assoc],i2,s1.trans s2,gm,(f1.shrink s2).or f2,?_,?_,?_,fun old G hr id hl hG=>?_⟩
   ·rintro b o (hf | hf)
    ·exact g1 b o hf
    ·obtain ⟨id,hl,hi⟩:=g2 b o hf;exact⟨id,(s1.live hl).1,hi⟩
   ·simp only [ax.size,List.length_append]
    by_cases hcs:c4.2.1=[]
    ·rw [(fC hcs).1];simp;omega
    ·have:=eD hcs;omega
   ·intro hne
    simp only [ax.size,List.length_append]
    have h4:=oG hne
    by_cases hcs:c4.2.1=[]
    ·have:eC.2.1=[]:=by
      have h1:=gm.len
      rw [(fC hcs).2] at h1
      exact List.eq_nil_of_length_eq_zero (by simpa using h1.symm)
     exact absurd this hne
    ·have:=eD hcs;omega
   ·simp only [ax.al] at hr
    obtain ⟨vk,AA,G1,G2,rfl,ec,fc,fT,jn,mH⟩:=hr
    have hl1:=(ad.al.len t _ ec).1
    have fS:=(s2.live hl)
    have bA:=k1 _ _ ec id fS.1 (fun b o az=>hG b o (jn b o az))
    have cc:=k2 _ _ (ax.al.mono s1.dA _ _ (fun _ _ h=>h) fc) id hl (fun b o az=>hG b o (mH b o az))
    have hsp:c8 (vk++AA) skip (us++us2)=c8 vk skip us++c8 AA 0 us2:=by
     by_cases hcs:c4.2.1=[]
     ·rw [(fC hcs).1,List.append_nil,Az,Xd (by omega)]
     ·exact Xe (by have:=eD hcs;omega)
    rw [hsp]
    simp only [ax.al]
    refine⟨_,_,G1.or F1,G2.or dE,rfl,ad.al.mono s2.dA _ _ (fun _ _ h=>h) bA,cc,?_,?_,?_⟩
    ·rintro b o (az | az) (hh | hh)
     ·exact fT b o az hh
     ·exact f2.apart id hl b o hh (hG b o (jn b o az))
     ·exact f1.apart id fS.1 b o az (hG b o (mH b o hh))
     ·obtain ⟨Xg,dN,fV⟩:=g2 b o hh
      exact f1.apart Xg dN b o az fV
    ·rintro b o (az | az)
     ·exact .inl (jn b o az)
     ·exact .inr (.inl az)
    ·rintro b o (az | az)
     ·exact .inl (mH b o az)
     ·exact .inr (.inr az)
end
theorem bH.c8{cs ds:List a8}{us vs:List Value}(h:bH w Z s ι cs us)(k:bH w Z s ι ds vs)(p:Nat) :
  bH w Z s ι (cs.take p++ds++cs.drop (p+ds.length)) (c8 us p vs):=by
 unfold LM.c8
 rw [k.len]
 exact((h.take p).append k).append (h.drop _)
theorem Xh{cs:List a8}{vs:List Value}(h:eV s ι Z aq Z')(hc:bH w Z s ι cs vs):bH w Z' aq ι cs vs:=hc.move h.eb
theorem Xi{b o:Nat}{vs:List Value}(hw:∀i,i<vs.length→e' w b (o+i)):b2 (setCells w b o vs) b o vs:=by
 intro i v hv
 have hi:i<vs.length:=by
  rcases Nat.lt_or_ge i vs.length with h | h
  ·exact h
  ·rw [List.getElem?_eq_none h] at hv;simp at hv
 rw [vd b vs w o (fun i hi=>(hw i hi).1),if_pos ⟨rfl,by omega,by omega⟩,Nat.add_sub_cancel_left]
 exact hv
theorem qR{b o k:Nat}{old vs:List Value}(hc:b2 w b o old)(hw:∀i,i<old.length→e' w b (o+i))(hk:k+vs.length≤old.length) :
  b2 (setCells w b (o+k) vs) b o (c8 old k vs):=by
 have G4:∀i,i<vs.length→e' w b (o+k+i):=fun i hi=>by have:=hw (k+i) (by omega);rwa [← Nat.add_assoc] at this
 intro i v hv
 have hx:=vd b vs w (o+k) (fun i hi=>(G4 i hi).1) b (o+i)
 rw [hx]
 unfold c8 at hv
 by_cases h1:i<k
 ·rw [if_neg (by omega)]
  rw [List.append_assoc,List.getElem?_append_left (by simp;omega),List.getElem?_take,if_pos h1] at hv
  exact hc i v hv
 ·by_cases h2:i<k+vs.length
  ·rw [if_pos ⟨rfl,by omega,by omega⟩]
   rw [List.getElem?_append_left (by simp;omega),List.getElem?_append_right (by simp;omega)] at hv
   simp only [List.length_take] at hv
   rw [show o+i-(o+k)=i-min k old.length by omega]
   exact hv
  ·rw [if_neg (by omega)]
   rw [List.getElem?_append_right (by simp;omega)] at hv
   simp only [List.length_append,List.length_take,List.getElem?_drop] at hv
   rw [show k+vs.length +(i-(min k old.length+vs.length))=i by omega] at hv
   exact hc i v hv
theorem Xj(h:Inv w0 F0 Z0 n s a w ι Z){p:Place}{cs:List a8}{A:Addr}{vs:List Value}(hr:Ar s p cs=some aq)(au:iR s ι p A)(hc:bH w Z s ι cs vs) :
  ∃b o,A=at_ b o∧(∀i,i<vs.length→e' w b (o+i))∧∃ ba Z',Inv w0 F0 Z0 n aq a (setCells w b o vs) ba Z':=by
 obtain ⟨hs,au⟩:=au
 unfold Ar at hr
 cases ho:s.o p.id with
 | var ver old =>
  rw [ho] at hr au
  obtain ⟨he,a0,hb,rfl⟩:=au
  rw [he] at hr
  have b8:(s.o p.id).live:=by rw [ho];trivial
  simp only at hr
  cases pQ:Nat.ble (p.off+cs.length) old.length
  ·rw [pQ] at hr;simp at hr
  rw [pQ] at hr
  obtain rfl:=aU hr
  have hle:=Nat.le_of_ble_eq_true pQ
  have cW:=h.fA p.id
  rw [ho] at cW
  obtain ⟨vh,us,dj,hsp,hcu,cl,hwr⟩:=cW
  rw [hb] at dj
  obtain rfl:=aU dj
  have pP:=hcu.len
  have hvl:=hc.len
  have hw:∀i,i<vs.length→e' w a0.block (a0.off+p.off+i):=fun i hi=>by
   have:=(hwr (p.off+i) (by omega)).1;rwa [← Nat.add_assoc] at this
  refine⟨_,_,rfl,hw,ι,Z,?_⟩
  have hx:Ext w (setCells w a0.block (a0.off+p.off) vs) (ι p.id).F:=ny _ _ _ _ fun i hi=>by
   have:=(hwr (p.off+i) (by omega)).2;rwa [← Nat.add_assoc] at this
  have hm:eB w Z s ι (setCells w a0.block (a0.off+p.off) vs) Z (s.bO p.id (.var (ver+1) (old.take p.off++cs++old.drop (p.off+cs.length)))) ι := by
   refine⟨fun j=>?_,fun _ _ h=>h,b4.iy hx h.q5 ?_⟩
   ·show ix (s.o j) (ι j) (bQ s.o p.id _ j) (ι j)
    by_cases hj:p.id=j
    ·subst hj;rw [ct,ho];exact .var _ _ _ _ _ (by omega) (by simp;omega)
    ·rw [cO hj];exact .stay _ _
   ·rintro b o (hz | ⟨id,hl,hst,_,hf⟩) h9
    ·exact h.cY p.id b8 b o h9 hz
    ·have hne:id≠p.id:=by
      rintro rfl
      have:bQ s.o p.id _ p.id=s.o p.id:=hst
      rw [ct,ho] at this
      injection this with h1 h2
      omega
     exact h.apart id p.id hl b8 hne b o hf h9
  refine h.next hm hx (fun b o hf=>(h.own p.id b8 b o hf).1) (fun _ _ h=>.inl h) ?_ ?_ (fun k=>(h.tmps k).move hm) h.size h.defers
  ·intro j hl hne
   by_cases hj:p.id=j
   ·subst hj
    refine⟨?_,fun b o hf=>⟨(h.own _ b8 b o hf).1,by have:=(h.own _ b8 b o hf).2;exact Nat.lt_of_lt_of_le this hx.size⟩,fun dV fS jm=>?_⟩
    ·show hD _ _ _ _ _ (bQ s.o p.id _ p.id)
     rw [ct]
     refine⟨a0,c8 us p.off vs,hb,hsp,(hcu.c8 hc p.off).move hm,?_,fun j hj=>?_⟩
     ·exact qR cl (fun i hi=>(hwr i (by omega)).1) (by omega)
     ·have:j<old.length:=by simp at hj;omega
      exact⟨hx.pF (hwr j this).1,(hwr j this).2⟩
    ·have dN:(s.o dV).live:=by
      have:(bQ s.o p.id _ dV).live:=fS
      rwa [cO jm] at this
     exact h.apart p.id dV b8 dN jm
   ·exact absurd ⟨cO hj,rfl⟩ hne
  ·intro j hl
   by_cases hj:p.id=j
   ·subst hj;exact h.cY _ b8
   ·have dN:(s.o j).live:=by
     have:(bQ s.o p.id _ j).live:=hl
     rwa [cO hj] at this
    exact h.cY j dN
 | row t em ver xs =>
  rw [ho] at hr au
  obtain ⟨i,he,hi,a0,hb,rfl⟩:=au
  rw [he] at hr
  have b8:(s.o p.id).live:=by rw [ho];trivial
  simp only at hr
  cases pQ:Nat.ble (p.off+cs.length) t.size
  ·rw [pQ] at hr;simp at hr
  rw [pQ] at hr
  have pQ:=Nat.le_of_ble_eq_true pQ
  obtain ⟨q,hq,hr⟩:=bb hr
  cases nL:q.2.1 with
  | cons=>rw [nL] at hr;simp at hr
  | nil =>
   cases hI:q.2.2.o p.id with
   | none=>rw [nL,hI] at hr;simp at hr
   | dead=>rw [nL,hI] at hr;simp at hr
   | b_=>rw [nL,hI] at hr;simp at hr
   | var=>rw [nL,hI] at hr;simp at hr
   | row t2 Xk Xl Xm =>
    rw [nL,hI] at hr
    obtain rfl:=aU hr
    have oF:p.off≤t.size:=by omega
    obtain ⟨us,rest,F1,cp,e1,i1,s1,c1,f1,g1,dO,eD,k1⟩:=ad.vj t em (J t xs i) p.off cs s q vs Z hq oF h hc
    rw [nL] at c1
    have fC:rest=[]:=by
     cases rest with
     | nil=>rfl
     | cons=>exact c1.elim
    subst fC
    rw [List.append_nil] at e1
    subst e1
    have hl1:(q.2.2.o p.id).live:=by rw [hI];trivial
    have hst:=(s1.live hl1).2
    rw [ho] at hst
    have cW:=h.fA p.id
    rw [ho] at cW
    rcases cW with⟨rfl,_⟩ | ⟨vh,dj,hrow⟩
    ·simp at hi
    rw [hb] at dj
    obtain rfl:=aU dj
    have hin:(i+1)*t.size≤(ι p.id).cap*t.size:=Nat.mul_le_mul_right _ (by have:=hrow.cap;omega)
    have hin':i*t.size+t.size≤(ι p.id).cap*t.size:=by rw [← Nat.add_one_mul];exact hin
    have hw:∀k,k<vs.length→e' w a0.block (a0.off+i*t.size+p.off+k):=fun k hk=>by
     have:=(hrow.wr (i*t.size+p.off+k) (by omega)).1
     rwa [show a0.off +(i*t.size+p.off+k)=a0.off+i*t.size+p.off+k by omega] at this
    have Xn:∀k,k<vs.length→(ι p.id).F a0.block (a0.off+i*t.size+p.off+k):=fun k hk=>by
     have:=hrow.inF (i*t.size+p.off+k) (by omega)
     rwa [show a0.off +(i*t.size+p.off+k)=a0.off+i*t.size+p.off+k by omega] at this
    refine⟨_,_,rfl,hw,?_⟩
    let dW:bD:=⟨(ι p.id).base,(ι p.id).cap,(ι p.id).F.or F1⟩
    let o':cj:=.row t em (ver+1) (xs.set i q.1)
    have hx:Ext w (setCells w a0.block (a0.off+i*t.size+p.off) vs) (ι p.id).F:=ny _ _ _ _ Xn
    have hm:eB w cp q.2.2 ι (setCells w a0.block (a0.off+i*t.size+p.off) vs) cp (q.2.2.bO p.id o') (bQ ι p.id dW):=by
     refine⟨fun j=>?_,fun _ _ h=>h,b4.iy hx i1.q5 ?_⟩
     ·show ix (q.2.2.o j) (ι j) (bQ q.2.2.o p.id o' j) (bQ ι p.id dW j)
      by_cases hj:p.id=j
      ·subst hj;rw [ct,ct,hst];exact .row _ _ _ _ _ _ _ _ _ (by omega) (by simp) rfl rfl
      ·rw [cO hj,cO hj];exact .stay _ _
     ·rintro b o (hz | ⟨id,hl,pM,_,hf⟩) h9
      ·exact i1.cY p.id hl1 b o h9 hz
      ·have hne:id≠p.id:=by
        rintro rfl
        have:bQ q.2.2.o p.id o' p.id=q.2.2.o p.id:=pM
        rw [ct,hst] at this
        injection this with h1 h2 h3
        omega
       exact i1.apart id p.id hl hl1 hne b o hf h9
    have q7:∀ {j},p.id≠j→((q.2.2.bO p.id o').o j).live→(q.2.2.o j).live:=fun hj hl=>by
     have:(bQ q.2.2.o p.id o' _).live:=hl
     rwa [cO hj] at this
    refine⟨_,_,i1.next hm hx (fun b o hf=>(i1.own p.id hl1 b o hf).1) (fun _ _ h=>.inl h) ?_ ?_ (fun k=>(i1.tmps k).move hm) i1.size i1.defers⟩
    ·intro j hl hne
     by_cases hj:p.id=j
     ·subst hj
      rw [ct]
      refine⟨?_,fun b o hf=>?_,fun dV fS jm=>?_⟩
      ·show hD _ _ _ _ _ (bQ q.2.2.o p.id o' p.id)
       rw [ct]
       refine .inr ⟨a0,hb,hrow.spot,by simpa [o'] using hrow.cap,fun j hj=>hx.j3 (hrow.wr j hj),fun j hj=>.inl (hrow.inF j hj),?_⟩
       obtain ⟨G,bA,cc,gC⟩:=hrow.row
       have N0:b4 w (setCells w a0.block (a0.off+i*t.size+p.off) vs) G:=by
        intro b o az
        refine⟨?_,fun _=>W4 _ _ _ _ _ _⟩
        rw [vd _ _ _ _ (fun i hi=>(hw i hi).1),if_neg]
        rintro ⟨rfl,h1,h2⟩
        have:=cc (o-a0.off) (by omega)
        rw [show a0.off +(o-a0.off)=o by omega] at this
        exact this az
       have N1:b4 w (setCells w a0.block (a0.off+i*t.size+p.off) vs) cp:=hm.same.mono fun b o hz=>.inl hz
       have Xo:b4 w (setCells w a0.block (a0.off+i*t.size+p.off) vs) F1:=by
        refine b4.iy hx (fun b o hf=>(f1.own b o hf).2) fun b o hf h9=>f1.apart p.id hl1 b o hf h9
       refine⟨G.or F1,?_,?_,?_⟩
       ·refine Row.set (w:=w) (R:=t.al w Z em) i hi bA (fun y us de hG aM=>ad.al.same N1 _ _ (N0.mono hG) (ad.al.mono s1.dA _ _ (fun _ _ h=>h) aM)) ?_ ?_ (fun b o hf az=>f1.apart p.id hl1 b o hf (gC b o az))
        ·intro j hj GX
         rw [vd _ _ _ _ (fun i hi=>(hw i hi).1),if_neg]
         rintro ⟨_,h1,h2⟩
         rw [Nat.add_one_mul] at GX
         omega
        ·intro us de k2 k3 bf bs
         refine⟨c8 us p.off vs,by rw [Gi (by omega)];exact k3,?_,?_⟩
         ·refine qR bf (fun k hk=>?_) (by omega)
          have:=(hrow.wr (i*t.size+k) (by omega)).1
          rwa [← Nat.add_assoc] at this
         ·have:=k1 us de (by rw [c6 hi];exact k2) p.id hl1 (fun b o az=>gC b o (bs b o az))
          refine ad.al.same N1 _ _ ?_ this
          intro b o az
          rcases az with az | az
          ·exact N0 b o (bs b o az)
          ·exact Xo b o az
       ·rintro j hj (az | az)
        ·exact cc j hj az
        ·exact f1.apart p.id hl1 _ _ az (hrow.inF j hj)
       ·rintro b o (az | az)
        ·exact .inl (gC b o az)
        ·exact .inr az
      ·rcases hf with hf | hf
       ·exact⟨(i1.own _ hl1 b o hf).1,Nat.lt_of_lt_of_le (i1.own _ hl1 b o hf).2 hx.size⟩
       ·exact⟨(f1.own b o hf).1,Nat.lt_of_lt_of_le (f1.own b o hf).2 hx.size⟩
      ·rw [cO jm]
       have dN:=q7 jm fS
       rintro b o (hf | hf) h9
       ·exact i1.apart p.id dV hl1 dN jm b o hf h9
       ·exact f1.apart dV dN b o hf h9
     ·exact absurd ⟨cO hj,cO hj⟩ hne
    ·intro j hl
     by_cases hj:p.id=j
     ·subst hj
      rw [ct]
      rintro b o (hf | hf) hz
      ·exact i1.cY _ hl1 b o hf hz
      ·exact f1.cY b o hf hz
     ·rw [cO hj];exact i1.cY j (q7 hj hl)
 | none=>rw [ho] at hr;simp at hr
 | dead=>rw [ho] at hr;simp at hr
 | b_=>rw [ho] at hr;simp at hr
end
end Go.LM
namespace Go.LM
mutual
def ad.cL:ad→List Value
 | .int k=>[.int k 0]
 | .bool=>[.bool false]
 | .str=>[.string ⟨#[]⟩]
 | .raw=>[.slice none 0 0]
 | .sl _=>[.slice none 0 0]
 | .st aj=>aj.cL
def ax.cL:ax→List Value
 | .nil=>[]
 | .cons t aj=>t.cL++aj.cL
end
def dB(t:ad)(vs:List Value):Value :=
 match t with
 | .st _=>.agg vs.toArray
 | _=>vs.headD undef
def k5(P:Program)(id:TypeId)(t:ad):Prop :=
 ∃i,P.info? id=some i∧i.size=t.size∧i.zero=some (dB t t.cL)∧i.bytes≤2048
mutual
def ad.ok(P:Program):ad→TypeId→Prop
 | .int k,id=>P.underlying id=some (.int k)∧k5 P id (.int k)
 | .bool,id=>P.underlying id=some .bool∧k5 P id .bool
 | .str,id=>P.underlying id=some .string∧k5 P id .str
 | .raw,id=>k5 P id .raw∧∃e,P.underlying id=some (.slice e)
 | .sl t,id=>k5 P id (.sl t)∧∃e,P.underlying id=some (.slice e)∧t.ok P e
 | .st aj,id=>k5 P id (.st aj)∧∃cm,P.underlying id=some (.struct cm)∧aj.okF P cm.toList 0
def ax.okF(P:Program):ax→List Field→Nat→Prop
 | .nil,cm,_=>cm=[]
 | .cons t aj,cm,off=>∃f k6,cm=f :: k6∧f.offset=off∧t.ok P f.type∧aj.okF P k6 (off+t.size)
end
def ad.agg:ad→Bool
 | .st _=>true
 | _=>false
theorem ad.ok.info{P:Program}{t:ad}{id:TypeId}(h:t.ok P id):k5 P id t:=by
 cases t <;> simp only [ad.ok] at h <;> first | exact h.2 | exact h.1
theorem ad.k7:∀t:ad,t.cL.length=t.size
 | .int _=>rfl
 | .bool=>rfl
 | .str=>rfl
 | .raw=>rfl
 | .sl _=>rfl
 | .st aj=>by
  simp only [ad.cL,ad.size]
  exact go aj
where
 go:∀aj:ax,aj.cL.length=aj.size
 | .nil=>rfl
 | .cons t aj=>by simp only [ax.cL,ax.size,List.length_append,ad.k7 t,go aj]
section
variable{P:Program}{t:ad}{id:TypeId}{w:World}
theorem run_underlying{d:TypeDesc}(h:P.underlying id=some d):(underlying id).run P w=.ok d w:=by
 simp [underlying,run_bind,program,Sem.run,h,run_pure]
theorem run_typeInfo{i:TypeInfo}(h:P.info? id=some i):(typeInfo id).run P w=.ok i w:=by
 simp [typeInfo,run_bind,program,Sem.run,h,run_pure]
theorem run_sizeOf(h:t.ok P id):(sizeOf id).run P w=.ok t.size w:=by
 obtain ⟨i,h1,h2,_⟩:=h.info
 simp [sizeOf,run_bind,run_typeInfo h1,run_pure,h2]
theorem AB(h:t.ok P id):(zeroValue id).run P w=.ok (dB t t.cL) w:=by
 obtain ⟨i,h1,_,h3,_⟩:=h.info
 simp [zeroValue,run_bind,run_typeInfo h1,run_pure,h3]
theorem N2(h:t.ok P id):(isAgg id).run P w=.ok t.agg w:=by
 unfold isAgg
 cases t with
 | st aj=>obtain ⟨_,cm,h1,_⟩:=(by simpa only [ad.ok] using h:k5 P id (.st aj)∧∃cm,P.underlying id=some (.struct cm)∧aj.okF P cm.toList 0);rw [run_bind,run_underlying h1];rfl
 | sl t=>obtain ⟨_,e,h1,_⟩:=(by simpa only [ad.ok] using h:k5 P id (.sl t)∧∃e,P.underlying id=some (.slice e)∧t.ok P e);rw [run_bind,run_underlying h1];rfl
 | raw=>obtain ⟨_,e,h1⟩:=(by simpa only [ad.ok] using h:k5 P id .raw∧∃e,P.underlying id=some (.slice e));rw [run_bind,run_underlying h1];rfl
 | int k=>have h1:=(by simpa only [ad.ok] using h:P.underlying id=some (.int k)∧k5 P id (.int k));rw [run_bind,run_underlying h1.1];rfl
 | bool=>have h1:=(by simpa only [ad.ok] using h:P.underlying id=some .bool∧k5 P id .bool);rw [run_bind,run_underlying h1.1];rfl
 | str=>have h1:=(by simpa only [ad.ok] using h:P.underlying id=some .string∧k5 P id .str);rw [run_bind,run_underlying h1.1];rfl
theorem G5(h:t.agg=false):t.size=1:=by cases t <;> simp_all [ad.agg,ad.size]
theorem G6(h:t.agg=true)(vs:List Value):dB t vs=.agg vs.toArray:=by cases t <;> simp_all [ad.agg,dB]
theorem G7(h:t.agg=false)(v:Value):dB t [v]=v:=by cases t <;> simp_all [ad.agg,dB]
theorem G8(h:t.ok P id){b o:Nat}{vs:List Value}(hc:b2 w b o vs)(hl:vs.length=t.size):(loadVar id (at_ b o)).run P w=.ok (dB t vs) w:=by
 unfold loadVar
 rw [run_bind,N2 h]
 simp only
 cases ha:t.agg
 ·rw [G5 ha] at hl
  match vs,hl with
  | [v],_ =>
   rw [G7 ha]
   simp only [Bool.false_eq_true,if_false]
   exact run_load hc.head
 ·simp only [if_true]
  rw [run_bind,run_sizeOf h,← hl]
  simp only
  rw [run_bind,run_loadCells hc,G6 ha]
  rfl
theorem G9{v:Value}(h:dY v=true):v.cells = #[v]:=by cases v <;> simp_all [dY,Value.cells]
theorem G_(h:t.ok P id){b o:Nat}{v:Value}(hl:v.cells.size=t.size)(h1:∀u∈v.cells.toList,dY u=true)(hw:∀i,i<v.cells.size→e' w b (o+i)) :
  (storeVar id (at_ b o) v).run P w=.ok () (setCells w b o v.cells.toList):=by
 unfold storeVar
 rw [run_bind,run_sizeOf h]
 simp only
 rw [if_neg (by simp [hl])]
 have:=Ai (P:=P) (b:=b) (o:=o) v.cells.toList w 0 h1 (fun i hi=>by simpa using hw i (by simpa using hi))
 simpa using this
theorem N3{e:TypeId}{v:Value} :(newVar e v).run P w=.ok (at_ w.heap.size 0) { w with heap:=w.heap.push (.cells v.cells e) } := by
 simp [newVar,newRow,Go.newObj,run_bind,Sem.run,run_pure,at_]
end
section
variable{w0:World}{F0 Z0:ah}{n:cC}{s aq:an}{a b6:Act}{w w':World}{ι ba:Nat→bD}{Z Z':ah}
theorem q8{t:ad}{x:a6}{cs:List a8}{v:Value}(h:im t x=some cs)(hv:aO w Z s ι x v):bH w Z s ι cs v.cells.toList:=by
 cases x <;> simp only [im] at h <;> try (simp at h;done)
 ·obtain rfl:=aU h
  simp only [aO] at hv
  rw [G9 hv.dY]
  exact⟨hv,trivial⟩
 ·obtain rfl:=aU h
  simp only [aO] at hv
  obtain ⟨vs,rfl,hc⟩:=hv
  simpa [Value.cells] using hc
 ·cases t <;> simp at h
  subst h
  simp only [aO] at hv
  subst hv
  exact⟨rfl,trivial⟩
theorem oH{t:ad}{x:a6}{cs:List a8}{vs:List Value}(h:jD t cs=some x)(hc:bH w Z s ι cs vs):aO w Z s ι x (dB t vs):=by
 cases t with
 | st aj=>simp only [jD] at h;obtain rfl:=aU h;simp only [aO,dB];exact⟨vs,rfl,hc⟩
 | _ =>
  simp only [jD] at h
  match cs,vs,hc with
  | [],[],_=>simp at h
  | [c],[v],hc=>simp at h;subst h;simp only [aO,dB];exact hc.1
  | _ :: _ :: _,_,_=>simp at h
theorem q9:∀t:ad,bH w Z s ι t.iQ t.cL
 | .int _=>⟨rfl,trivial⟩
 | .bool=>⟨rfl,trivial⟩
 | .str=>⟨⟨_,rfl,rfl⟩,trivial⟩
 | .raw=>⟨⟨rfl,_,_,_,rfl⟩,trivial⟩
 | .sl _=>⟨rfl,trivial⟩
 | .st aj=>by simp only [ad.iQ,ad.cL];exact go aj
where
 go:∀aj:ax,bH w Z s ι aj.iQ aj.cL
 | .nil=>trivial
 | .cons t aj=>by simp only [ax.iQ,ax.cL];exact(q9 t).append (go aj)
theorem G'{t:ad}{vs:List Value}(hl:vs.length=t.size)(h1:∀v∈vs,dY v=true):(dB t vs).cells.toList=vs:=by
 cases ha:t.agg
 ·rw [G5 ha] at hl
  match vs,hl with
  | [v],_=>rw [G7 ha,G9 (h1 v (by simp))]
 ·rw [G6 ha];simp [Value.cells]
theorem Inv.newVar(h:Inv w0 F0 Z0 n s a w ι Z){id:Nat}(b5:s.o id=.none){cs:List a8}{vs:Array Value}(hc:bH w Z s ι cs vs.toList)(e:TypeId) :
  Inv w0 F0 Z0 n (s.bO id (.var 0 cs)) a { w with heap:=w.heap.push (.cells vs e) } (bQ ι id ⟨some (at_ w.heap.size 0),0,ah.run w.heap.size 0 cs.length⟩) Z:=by
 have hx:=Ext.push w (.cells vs e) ah.none
 have hm:=NQ h b5 hx (.var 0 cs) ⟨some (at_ w.heap.size 0),0,ah.run w.heap.size 0 cs.length⟩
 have hl:=hc.len
 refine h.new b5 hx ?_ ?_
 ·refine⟨at_ w.heap.size 0,vs.toList,rfl,rfl,hc.move hm,?_,fun j hj=>⟨⟨?_,?_⟩,rfl,by simp [at_],by simpa [at_] using hj⟩⟩
  ·intro i v hv
   show World.cell? _ (at_ w.heap.size (0+i))=_
   rw [NL];simpa using hv
  ·refine⟨vs[j]'(by simp at hl;omega),?_⟩
   show World.cell? _ (at_ w.heap.size (0+j))=_
   rw [NL];simp
  ·show World.frozen? _ (at_ w.heap.size (0+j))=_
   rw [pG,NK];simp
 ·rintro b o ⟨rfl,_,_⟩;simp
end
end Go.LM
