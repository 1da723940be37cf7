/- The data and the interpreter of the reflective walk, and how its states stand for frames and worlds. Conditions: each theorem's own hypotheses. -/
import Derived.Calls
import Derived.KernelRfl
import Derived.Orders
set_option linter.unusedVariables false
set_option linter.unusedSimpArgs false
namespace Go.LM
theorem av.{u,v}{α:Type u}{β:Type v}(a:α)(f:α→Option β):(some a).bind f=f a:=rfl
theorem aU.{u}{α:Type u}{a b:α}(h:some a=some b):a=b:=_root_.Option.some.inj h
theorem bf.{u,v}{α:Type u}{β:Type v}{o:Option α}{f:α→Option β}{b:β}(h:o.bind f=some b):∃a,o=some a∧f a=some b:=_root_.Option.bind_eq_some_iff.1 h
mutual
inductive ad where
 | int (k:IntKind)
 | bool
 | str
 | sl (t:ad)
 | st (aj:ax)
 | raw
inductive ax where
 | nil
 | cons (t:ad) (aj:ax)
end
mutual
@[reducible] def ad.D:ad→Type
 | .int _=>Int
 | .bool=>Bool
 | .str=>List UInt8
 | .sl t=>List t.D
 | .st aj=>aj.D
 | .raw=>Value
@[reducible] def ax.D:ax→Type
 | .nil=>Unit
 | .cons t aj=>t.D×aj.D
end
def dq:IntKind→Nat
 | .i8=>0 | .i16=>1 | .i32=>2 | .i64=>3 | .u8=>4 | .u16=>5 | .u32=>6 | .u64=>7
theorem tk:∀ {a b:IntKind},dq a=dq b→a=b:=by
 intro a b;cases a <;> cases b <;> simp [dq]
mutual
def ad.beq:ad→ad→Bool
 | .int a,.int b=>Nat.beq (dq a) (dq b)
 | .bool,.bool=>true
 | .str,.str=>true
 | .sl a,.sl b=>ad.beq a b
 | .st a,.st b=>ax.beq a b
 | .raw,.raw=>true
 | _,_=>false
def ax.beq:ax→ax→Bool
 | .nil,.nil=>true
 | .cons a as,.cons b bn=>cond (ad.beq a b) (ax.beq as bn) false
 | _,_=>false
end
mutual
theorem ad.eq_of_beq:∀(a b:ad),ad.beq a b=true→a=b
 | .int a,.int b,h=>by simp only [ad.beq] at h;rw [tk (Nat.eq_of_beq_eq_true h)]
 | .bool,.bool,_=>rfl
 | .str,.str,_=>rfl
 | .sl a,.sl b,h=>by simp only [ad.beq] at h;rw [ad.eq_of_beq a b h]
 | .st a,.st b,h=>by simp only [ad.beq] at h;rw [ax.eq_of_beq a b h]
 | .raw,.raw,_=>rfl
 | .int _,.bool,h | .int _,.str,h | .int _,.sl _,h | .int _,.st _,h | .int _,.raw,h=>by simp [ad.beq] at h
 | .bool,.int _,h | .bool,.str,h | .bool,.sl _,h | .bool,.st _,h | .bool,.raw,h=>by simp [ad.beq] at h
 | .str,.int _,h | .str,.bool,h | .str,.sl _,h | .str,.st _,h | .str,.raw,h=>by simp [ad.beq] at h
 | .sl _,.int _,h | .sl _,.bool,h | .sl _,.str,h | .sl _,.st _,h | .sl _,.raw,h=>by simp [ad.beq] at h
 | .st _,.int _,h | .st _,.bool,h | .st _,.str,h | .st _,.sl _,h | .st _,.raw,h=>by simp [ad.beq] at h
 | .raw,.int _,h | .raw,.bool,h | .raw,.str,h | .raw,.sl _,h | .raw,.st _,h=>by simp [ad.beq] at h
theorem ax.eq_of_beq:∀(a b:ax),ax.beq a b=true→a=b
 | .nil,.nil,_=>rfl
 | .cons a as,.cons b bn,h=>by
  simp only [ax.beq] at h
  cases hb:ad.beq a b
  ·rw [hb] at h;simp at h
  ·rw [hb] at h;rw [ad.eq_of_beq a b hb,ax.eq_of_beq as bn h]
 | .nil,.cons _ _,h | .cons _ _,.nil,h=>by simp [ax.beq] at h
end
def eG(a b:ad)(x:a.D):Option b.D :=
 if h:ad.beq a b=true then some ((ad.eq_of_beq a b h) ▸ x) else none
theorem Be{a b:ad}{x:a.D}{y:b.D}(h:eG a b x=some y):∃e:a=b,y=e ▸ x:=by
 unfold eG at h
 split at h
 ·rename_i hb;exact⟨ad.eq_of_beq a b hb,by injection h with h;exact h.symm⟩
 ·simp at h
mutual
def ad.size:ad→Nat
 | .st aj=>aj.size
 | _=>1
def ax.size:ax→Nat
 | .nil=>0
 | .cons t aj=>t.size+aj.size
end
mutual
def ad.zero:(t:ad)→t.D
 | .int _=>(0:Int)
 | .bool=>false
 | .str=>([]:List UInt8)
 | .sl t=>([]:List t.D)
 | .st aj=>aj.zero
 | .raw=>(.slice none 0 0:Value)
def ax.zero:(aj:ax)→aj.D
 | .nil=>()
 | .cons t aj=>(t.zero,aj.zero)
end
mutual
inductive ba where
 | R
 | O (e:ba)
 | S (ms:cU)
inductive cU where
 | nil
 | cons (m:ba) (ms:cU)
end
mutual
def ba.beq:ba→ba→Bool
 | .R,.R=>true
 | .O a,.O b=>ba.beq a b
 | .S a,.S b=>cU.beq a b
 | _,_=>false
def cU.beq:cU→cU→Bool
 | .nil,.nil=>true
 | .cons a as,.cons b bn=>cond (ba.beq a b) (cU.beq as bn) false
 | _,_=>false
end
mutual
theorem ba.eq_of_beq:∀(a b:ba),ba.beq a b=true→a=b
 | .R,.R,_=>rfl
 | .O a,.O b,h=>by simp only [ba.beq] at h;rw [ba.eq_of_beq a b h]
 | .S a,.S b,h=>by simp only [ba.beq] at h;rw [cU.eq_of_beq a b h]
 | .R,.O _,h | .R,.S _,h | .O _,.R,h | .O _,.S _,h | .S _,.R,h | .S _,.O _,h=>by simp [ba.beq] at h
theorem cU.eq_of_beq:∀(a b:cU),cU.beq a b=true→a=b
 | .nil,.nil,_=>rfl
 | .cons a as,.cons b bn,h=>by
  simp only [cU.beq] at h
  cases hb:ba.beq a b
  ·rw [hb] at h;simp at h
  ·rw [hb] at h;rw [ba.eq_of_beq a b hb,cU.eq_of_beq as bn h]
 | .nil,.cons _ _,h | .cons _ _,.nil,h=>by simp [cU.beq] at h
end
def ba.elem:ba→ba
 | .O e=>e
 | _=>.R
def cU.ag:cU→ba
 | .cons m _=>m
 | .nil=>.R
def cU.dv:cU→cU
 | .cons _ ms=>ms
 | .nil=>.nil
def ba.parts:ba→cU
 | .S ms=>ms
 | _=>.nil
structure Place where
 id:Nat
 e_:Option Nat
 off:Nat
inductive a_ where
 | int (k:IntKind) (x:Int)
 | bool (b:Bool)
 | str (s:List UInt8)
 | raw (v:Value)
 | nil (t:ad)
 | b1 (t:ad) (ak2:List (Nat×Nat)) (ak3:Option Place) (xs:List t.D)
 | ag (id:Nat) (sub:Option (Nat×Nat))
inductive a7 where
 | aD
 | gone
 | aT (c:a_)
 | iC (cs:List a_)
 | ptr (p:Place)
 | di (dp:List (Nat×Nat)) (cs:List a_) (off:Nat)
 | j1
 | kS
 | opt (id:Nat) (o:Int)
 | ry (t:ad)
 | may (b:Bool) (dp:List (Nat×Nat)) (cs:List a_)
 | fn (f:FuncId) (first ly:List a7)
 | pb (l:List a7)
inductive cn where
 | none
 | dead
 | var (ver:Nat) (cs:List a_)
 | row (t:ad) (em:ba) (ver:Nat) (xs:List t.D)
 | cf (o:cn)
def cn.core:cn→cn
 | .cf o=>o
 | o=>o
structure aq where
 t:Nat→a7
 o:Nat→cn
 g:List a7
def bU{α : Type}(f:Nat → α)(i:Nat)(v : α):Nat → α := fun j=>cond (Nat.beq j i) v (f j)
theorem cB{α : Type}(f:Nat → α)(i:Nat)(v : α):bU f i v i=v:=by simp [bU]
theorem rz{α : Type}{f:Nat → α}{i j:Nat}{v : α}(h:j≠i):bU f i v j=f j:=by
 unfold bU
 have:Nat.beq j i=false:=by
  cases hb:Nat.beq j i
  ·rfl
  ·exact absurd (Nat.eq_of_beq_eq_true hb) h
 rw [this];rfl
def aq.set(s:aq)(d:Nat)(v:a7):aq:=⟨bU s.t d v,s.o,s.g⟩
def aq.bR(s:aq)(i:Nat)(v:cn):aq:=⟨s.t,bU s.o i v,s.g⟩
def aq.dst(s:aq)(d:Option Nat)(v:a7):aq :=
 match d with
 | some d=>s.set d v
 | none=>s
mutual
def ad.cells:(t:ad)→List (Nat×Nat)→Option Place→t.D→List a_
 | .int k,_,_,x=>[.int k x]
 | .bool,_,_,x=>[.bool x]
 | .str,_,_,x=>[.str x]
 | .sl t,dp,ct,x=>[.b1 t dp ct x]
 | .st aj,dp,ct,x=>aj.cells dp ct x
 | .raw,_,_,x=>[.raw x]
def ax.cells:(aj:ax)→List (Nat×Nat)→Option Place→aj.D→List a_
 | .nil,_,_,_=>[]
 | .cons t aj,dp,ct,x=>t.cells dp ct x.1++aj.cells dp (ct.map fun p => { p with off:=p.off+t.size }) x.2
end
mutual
def ad.jt:ad→List a_
 | .int k=>[.int k 0]
 | .bool=>[.bool false]
 | .str=>[.str []]
 | .sl t=>[.nil t]
 | .st aj=>aj.jt
 | .raw=>[.raw (.slice none 0 0)]
def ax.jt:ax→List a_
 | .nil=>[]
 | .cons t aj=>t.jt++aj.jt
end
mutual
def ad.own:ad→ba
 | .sl t=>.O t.own
 | .st aj=>if aj.flat then .R else .S aj.own
 | _=>.R
def ax.own:ax→cU
 | .nil=>.nil
 | .cons t aj=>.cons t.own aj.own
def ad.flat:ad→Bool
 | .sl _=>false
 | .st aj=>aj.flat
 | _=>true
def ax.flat:ax→Bool
 | .nil=>true
 | .cons t aj=>cond t.flat aj.flat false
end
def ba.le(a b:ba):Bool :=
 match b with
 | .R=>true
 | _=>ba.beq a b
end Go.LM
namespace Go.LM
def room(n:Nat):Bool:=Nat.ble n 68719476736
def jF{bu : Type}(b:Bool)(x:Option bu):Option bu := cond b x none
def aO(n:Nat)(i:Int):Option Nat:=if 0≤i∧i<(n:Int) then some i.toNat else none
def du(n:Nat)(lo hi:Int):Option (Nat×Nat):=if 0≤lo∧lo≤hi∧hi≤(n:Int) then some (lo.toNat,hi.toNat) else none
def J(t:ad)(xs:List t.D)(n:Nat):t.D:=xs.getD n t.zero
def part{α : Type}(l:List α)(lo len:Nat):List α :=(l.drop lo).take len
def aK(x:Int):Int:=IntKind.wrap .i64 x
def cQ(op:BinOp)(k:IntKind)(x y:Int):Int :=
 let a:=BitVec.ofInt k.bits x
 let b:=BitVec.ofInt k.bits y
 match op with
 | .and=>k.wrap (a &&& b).toNat
 | .or=>k.wrap (a ||| b).toNat
 | .xor=>k.wrap (a ^^^ b).toNat
 | _=>k.wrap (a &&& ~~~b).toNat
def bs(x y:List UInt8):Bool:=decide (x=y)
def dz(x y:List UInt8):Bool:=Op.bytesLess x y
def X'(x y:Int):Int:=if y>x then y else x
def jG(x y:Int):Int:=if y<x then y else x
def eA(s:List UInt8):List Int:=s.map fun b=>(b.toNat:Int)
def gI(l:List Int):List UInt8:=l.map fun n=>UInt8.ofNat n.toNat
inductive bA where
 | val (t:ad) (m:ba)
 | ref (t:ad)
 | mut (t:ad) (m m':ba)
 | hQ (t:ad) (m:ba)
 | fn (mc pc:Nat)
 | hR (t:ad)
inductive cW where
 | val (t:ad) (m:ba)
 | opt (arg off:Nat) (t:ad)
 | new (t:ad) (m:ba)
 | pd (t:ad)
 | any (t:ad)
def bA.ins:List bA→ax
 | []=>.nil
 | .val t _ :: l | .ref t :: l | .mut t _ _ :: l | .hQ t _ :: l | .hR t :: l=>.cons t (bA.ins l)
 | .fn _ _ :: l=>bA.ins l
def cW.outs:List cW→ax→ax
 | [],aj=>aj
 | .val t _ :: l,aj=>.cons t (cW.outs l aj)
 | .new t _ :: l,aj=>.cons t (cW.outs l aj)
 | .pd t :: l,aj=>.cons (.sl t) (cW.outs l aj)
 | .any _ :: l,aj=>cW.outs l aj
 | .opt _ _ _ :: l,aj=>.cons (.int .i64) (cW.outs l aj)
def bA.d':List bA→ax
 | []=>.nil
 | .mut t _ _ :: l | .hQ t _ :: l=>.cons t (bA.d' l)
 | _ :: l=>bA.d' l
structure Entry where
 ps:List bA
 rs:List cW
 f:(bA.ins ps).D→Option (cW.outs rs (bA.d' ps)).D
structure Env where
 n:Nat
 ty:Nat→Option ad
 He:Nat→Bool
 tl:Nat→Bool
 fns:FuncId→FuncId→Option Entry
def kT{α : Type}(sub:Option (Nat×Nat))(xs:List α):List α :=
 match sub with
 | none=>xs
 | some (lo,len)=>part xs lo len
def lz{α : Type}(sub:Option (Nat×Nat))(xs:List α):Nat :=
 match sub with
 | none=>xs.length
 | some (_,len)=>len
def eh(sub:Option (Nat×Nat)):Nat :=
 match sub with
 | none=>0
 | some (lo,_)=>lo
def alive(s:aq):List (Nat×Nat)→Bool
 | []=>true
 | (i,v) :: l=>match s.o i with
  | .row _ _ w _=>cond (Nat.beq w v) (alive s l) false
  | .var w _=>cond (Nat.beq w v) (alive s l) false
  | _=>false
def kv(s:aq)(id:Nat):Nat :=
 match s.o id with
 | .row _ _ v _=>v
 | .var v _=>v
 | .cf (.row _ _ v _)=>v
 | .cf (.var v _)=>v
 | _=>0
def pe(s:aq)(t:ad):a_→Option (List t.D)
 | .nil u=>eG (.sl u) (.sl t) ([]:List u.D)
 | .b1 u dp _ xs=>cond (alive s dp) (eG (.sl u) (.sl t) xs) none
 | .ag id sub=>match s.o id with
  | .row u _ _ xs=>eG (.sl u) (.sl t) (kT sub xs)
  | _=>none
 | _=>none
def borrows(s:aq):a_→List (Nat×Nat)
 | .ag id _=>match s.o id with
  | .row _ _ v _=>[(id,v)]
  | _=>[]
 | .b1 _ dp _ _=>dp
 | _=>[]
mutual
def ad.imp:(t:ad)→(b:Bool)→ba→List a_→aq→List (Nat×Nat)→Option (t.D×List a_×aq×List (Nat×Nat))
 | .int k,_,_,.int k' x :: cs,s,bn=>cond (Nat.beq (dq k) (dq k')) (some (x,cs,s,bn)) none
 | .bool,_,_,.bool x :: cs,s,bn=>some (x,cs,s,bn)
 | .str,_,_,.str x :: cs,s,bn=>some (x,cs,s,bn)
 | .raw,_,_,.raw x :: cs,s,bn=>some (x,cs,s,bn)
 | .sl t,b,.O e,c :: cs,s,bn=>match c with
  | .nil u=>(eG (.sl u) (.sl t) ([]:List u.D)).bind fun x=>some (x,cs,s,bn)
  | .ag id sub=>match s.o id with
   | .row u em _ xs=>cond (ba.le em e) ((eG (.sl u) (.sl t) (kT sub xs)).bind fun x=>some (x,cs,s.bR id .dead,bn)) none
   | _=>none
  | _=>none
 | .sl t,true,_,c :: cs,s,bn=>(pe s t c).bind fun x=>some (x,cs,s,borrows s c++bn)
 | .sl t,false,_,c :: cs,s,bn=>match c with
  | .nil u=>(eG (.sl u) (.sl t) ([]:List u.D)).bind fun x=>some (x,cs,s,bn)
  | .b1 u [] _ xs=>(eG (.sl u) (.sl t) xs).bind fun x=>some (x,cs,s,bn)
  | .ag id sub=>match s.o id with
   | .row u _ _ xs=>(eG (.sl u) (.sl t) (kT sub xs)).bind fun x=>some (x,cs,s.bR id .dead,bn)
   | _=>none
  | _=>none
 | .st aj,b,m,cs,s,bn=>aj.imp b m.parts cs s bn
 | _,_,_,_,_,_=>none
def ax.imp:(aj:ax)→(b:Bool)→cU→List a_→aq→List (Nat×Nat)→Option (aj.D×List a_×aq×List (Nat×Nat))
 | .nil,_,_,cs,s,bn=>some ((),cs,s,bn)
 | .cons t aj,b,m,cs,s,bn=>(t.imp b m.ag cs s bn).bind fun r=>(aj.imp b m.dv r.2.1 r.2.2.1 r.2.2.2).bind fun q=>some ((r.1,q.1),q.2)
end
mutual
def ad.put:(t:ad)→ba→t.D→Nat→List a_→aq→Option (t.D×List a_×aq)
 | t,m,x,skip,cs,s =>
  match cs with
  | []=>some (x,[],s)
  | c :: cs' =>
   cond (Nat.beq skip 0&&Nat.ble t.size (cs'.length+1)) ((t.imp false m (c :: cs') s []).bind fun r=>some (r.1,r.2.1,r.2.2.1))
    (match t,x with
     | .st aj,x=>aj.put m.parts x skip (c :: cs') s
     | _,_=>none)
def ax.put:(aj:ax)→cU→aj.D→Nat→List a_→aq→Option (aj.D×List a_×aq)
 | .nil,_,_,_,cs,s=>some ((),cs,s)
 | .cons t aj,m,x,skip,cs,s =>
  cond (Nat.ble t.size skip) ((aj.put m.dv x.2 (skip-t.size) cs s).bind fun q=>some ((x.1,q.1),q.2))
   ((t.put m.ag x.1 skip cs s).bind fun r=>(aj.put m.dv x.2 0 r.2.1 r.2.2).bind fun q=>some ((r.1,q.1),q.2))
end
mutual
def ad.hS:(t:ad)→ba→List (Nat×Nat)→t.D→aq→Nat→Option (List a_×aq×Nat)
 | .int k,_,_,x,s,j=>some ([.int k x],s,j)
 | .bool,_,_,x,s,j=>some ([.bool x],s,j)
 | .str,_,_,x,s,j=>some ([.str x],s,j)
 | .raw,_,_,x,s,j=>some ([.raw x],s,j)
 | .sl t,.O e,dp,x,s,j=>cond (dp.isEmpty||ba.beq e t.own) (match s.o j with
  | .none=>some ([.ag j none],s.bR j (.row t e 0 x),j+1)
  | _=>none) none
 | .sl t,_,dp,x,s,j=>some ([.b1 t dp none x],s,j)
 | .st aj,m,dp,x,s,j=>aj.hS m.parts dp x s j
def ax.hS:(aj:ax)→cU→List (Nat×Nat)→aj.D→aq→Nat→Option (List a_×aq×Nat)
 | .nil,_,_,_,s,j=>some ([],s,j)
 | .cons t aj,m,dp,x,s,j=>(t.hS m.ag dp x.1 s j).bind fun r=>(aj.hS m.dv dp x.2 r.2.1 r.2.2).bind fun q=>some (r.1++q.1,q.2)
end
mutual
def ad.yh:(t:ad)→aq→List a_→ba×List a_
 | .sl t,s,c :: cs=>(match c with
  | .nil _=>.O t.own
  | .ag id _=>match s.o id with
   | .row _ em _ _=>.O em
   | _=>.R
  | _=>.R,cs)
 | .st aj,s,cs=>cond aj.flat (.R,cs.drop aj.size) (let r:=aj.yh s cs;(.S r.1,r.2))
 | _,_,cs=>(.R,cs.drop 1)
def ax.yh:(aj:ax)→aq→List a_→cU×List a_
 | .nil,_,cs=>(.nil,cs)
 | .cons t aj,s,cs=>let r:=t.yh s cs;let q:=aj.yh s r.2;(.cons r.1 q.1,q.2)
end
def takeN(off n:Nat)(cs:List a_):Option (List a_) :=
 cond (Nat.ble (off+n) cs.length) (some (part cs off n)) none
def Hf(t:ad)(em:ba)(id ver i:Nat)(x:t.D):List a_ :=
 match em with
 | .R=>t.cells [] none x
 | _=>t.cells [(id,ver)] (some ⟨id,some i,0⟩) x
def me(s:aq)(n:Nat)(p:Place):Option (List a_) :=
 match s.o p.id,p.e_ with
 | .var _ cs,none=>takeN p.off n cs
 | .row t em ver xs,some i=>takeN p.off n (Hf t em p.id ver i (J t xs i))
 | _,_=>none
def Bf(s:aq)(p:Place)(cs:List a_):Option aq :=
 match s.o p.id,p.e_ with
 | .var ver old,none=>cond (Nat.ble (p.off+cs.length) old.length) (some (s.bR p.id (.var (ver+1) (old.take p.off++cs++old.drop (p.off+cs.length))))) none
 | .row t em ver xs,some i =>
  cond (Nat.ble (p.off+cs.length) t.size) ((t.put em (J t xs i) p.off cs s).bind fun r =>
   match r.2.1,r.2.2.o p.id with
   | [],.row _ _ _ _=>some (r.2.2.bR p.id (.row t em (ver+1) (xs.set i r.1)))
   | _,_=>none) none
 | _,_=>none
def j2(t:ad)(cs:List a_):Option a7 :=
 match t with
 | .st _=>some (.iC cs)
 | _=>match cs with
  | [c]=>some (.aT c)
  | _=>none
def iX(t:ad):a7→Option (List a_)
 | .aT c=>some [c]
 | .iC cs=>some cs
 | .kS=>match t with
  | .sl u=>some [.nil u]
  | _=>none
 | _=>none
def Hg:Value→a7
 | .int k n=>.aT (.int k n)
 | .bool b=>.aT (.bool b)
 | .string b=>.aT (.str b.data.toList)
 | .slice none 0 0=>.kS
 | .pointer none=>.j1
 | _=>.aD
def bV(s:aq):Operand→a7
 | .tmp t=>s.t t
 | .const v=>Hg v
 | .func f=>.fn f [] []
 | .global _=>.aD
def typed(E:Env)(t:Nat):a7→Option a7
 | .aD=>none
 | .gone=>none
 | .kS=>match E.ty t with
  | some (.sl u)=>some (.aT (.nil u))
  | _=>none
 | v=>some v
def kx:a7→Option Int
 | .aT (.int _ n)=>some n
 | _=>none
end Go.LM
namespace Go.LM
def n8(s:aq):a_→Option Nat
 | .nil _=>some 0
 | .b1 _ dp _ xs=>cond (alive s dp) (some xs.length) none
 | .ag id sub=>match s.o id with
  | .row _ _ _ xs=>some (lz sub xs)
  | _=>none
 | .str x=>some x.length
 | _=>none
mutual
def ad.cmp:ad→List a_→List a_→Option (Bool×List a_×List a_)
 | .int k,.int k1 x :: a,.int k2 y :: b=>cond (Nat.beq (dq k1) (dq k)&&Nat.beq (dq k2) (dq k)) (some (x==y,a,b)) none
 | .bool,.bool x :: a,.bool y :: b=>some (x==y,a,b)
 | .str,.str x :: a,.str y :: b=>some (bs x y,a,b)
 | .st aj,a,b=>aj.cmp a b
 | _,_,_=>none
def ax.cmp:ax→List a_→List a_→Option (Bool×List a_×List a_)
 | .nil,a,b=>some (true,a,b)
 | .cons t aj,a,b=>(t.cmp a b).bind fun r=>(aj.cmp r.2.1 r.2.2).bind fun q=>some (r.1&&q.1,q.2)
end
def Bg(op:BinOp)(k:IntKind)(x y:Int):Option a7 :=
 match op with
 | .add=>some (.aT (.int k (k.wrap (x+y))))
 | .sub=>some (.aT (.int k (k.wrap (x-y))))
 | .mul=>some (.aT (.int k (k.wrap (x*y))))
 | .and=>some (.aT (.int k (cQ .and k x y)))
 | .or=>some (.aT (.int k (cQ .or k x y)))
 | .xor=>some (.aT (.int k (cQ .xor k x y)))
 | .andNot=>some (.aT (.int k (cQ .andNot k x y)))
 | .eql=>some (.aT (.bool (x==y)))
 | .neq=>some (.aT (.bool (x != y)))
 | .lss=>some (.aT (.bool (decide (x<y))))
 | .leq=>some (.aT (.bool (decide (x≤y))))
 | .gtr=>some (.aT (.bool (decide (x>y))))
 | .geq=>some (.aT (.bool (decide (x≥y))))
 | _=>none
def Bh(op:BinOp)(x y:List UInt8):Option a7 :=
 match op with
 | .eql=>some (.aT (.bool (bs x y)))
 | .neq=>some (.aT (.bool (!bs x y)))
 | .lss=>some (.aT (.bool (dz x y)))
 | .leq=>some (.aT (.bool (dz x y||bs x y)))
 | .gtr=>some (.aT (.bool (!(dz x y||bs x y))))
 | .geq=>some (.aT (.bool (!dz x y)))
 | _=>none
section
variable{bu : Type}
def lift(x:Option a7)(K:a7→Option bu):Option bu :=
 match x with
 | some v=>K v
 | none=>none
open Classical in
noncomputable def both(a b:Option bu):Option bu := if a=b then a else none
noncomputable def Bi(b:Bool)(x y:Option bu):Option bu := cond b (both x y) y
noncomputable def kU(E:Env)(ty:Nat)(op:BinOp)(x y:a7)(K:a7→Option bu):Option bu :=
 match x,y with
 | .aT (.int k a),.aT (.int k' b) =>
  match op with
  | .shl=>jF (decide (0≤b)) (K (.aT (.int k (k.wrap (a*2 ^ min b.toNat k.bits)))))
  | .shr=>jF (decide (0≤b)) (K (.aT (.int k (a.fdiv (2 ^ min b.toNat k.bits)))))
  | .quo=>cond (Nat.beq (dq k) (dq k')) (jF (b != 0) (K (.aT (.int k (k.wrap (a.tdiv b)))))) none
  | .rem=>cond (Nat.beq (dq k) (dq k')) (jF (b != 0) (K (.aT (.int k (a.tmod b))))) none
  | _=>cond (Nat.beq (dq k) (dq k')) (lift (Bg op k a b) K) none
 | .aT (.str a),.aT (.str b) =>
  match op with
  | .add=>jF (room (a.length+b.length)) (K (.aT (.str (a++b))))
  | _=>lift (Bh op a b) K
 | .aT (.bool a),.aT (.bool b) =>
  match E.ty ty,op with
  | some .bool,.eql=>K (.aT (.bool (a==b)))
  | some .bool,.neq=>K (.aT (.bool (!(a==b))))
  | _,_=>none
 | .iC a,.iC b =>
  cond (E.He ty) (match E.ty ty with
  | some T=>(match op,T.cmp a b with
   | .eql,some (r,[],[])=>K (.aT (.bool r))
   | .neq,some (r,[],[])=>K (.aT (.bool (!r)))
   | _,_=>none)
  | none=>none) none
 | .aT (.b1 _ [] _ xs),.kS =>
  match E.ty ty,op with
  | some (.sl _),.eql=>Bi xs.isEmpty (K (.aT (.bool true))) (K (.aT (.bool false)))
  | some (.sl _),.neq=>Bi xs.isEmpty (K (.aT (.bool false))) (K (.aT (.bool true)))
  | _,_=>none
 | .opt _ o,.j1 =>
  match E.tl ty,op with
  | true,.eql=>K (.aT (.bool (decide (o<0))))
  | true,.neq=>K (.aT (.bool (!decide (o<0))))
  | _,_=>none
 | .ptr _,.j1 =>
  match E.tl ty,op with
  | true,.eql=>K (.aT (.bool false))
  | true,.neq=>K (.aT (.bool true))
  | _,_=>none
 | .may b _ _,.j1 =>
  match E.tl ty,op with
  | true,.eql=>K (.aT (.bool (!b)))
  | true,.neq=>K (.aT (.bool b))
  | _,_=>none
 | _,_=>none
def Hh(op:UnOp)(x:a7)(K:a7→Option bu):Option bu :=
 match op,x with
 | .neg,.aT (.int k n)=>K (.aT (.int k (k.wrap (0-n))))
 | .xor,.aT (.int k n)=>K (.aT (.int k (cQ .xor k (if k.signed then -1 else k.max) n)))
 | .not,.aT (.bool b)=>K (.aT (.bool (!b)))
 | _,_=>none
def qi(t:ad)(m:ba):List (List a_)→aq→Option (List t.D×aq)
 | [],s=>some ([],s)
 | cs :: B,s=>(t.imp false m cs s []).bind fun r =>
   match r.2.1 with
   | []=>(qi t m B r.2.2.1).bind fun q=>some (r.1 :: q.1,q.2)
   | _=>none
def ax.nth:ax→Nat→Option ad
 | .nil,_=>none
 | .cons t _,0=>some t
 | .cons _ aj,n+1=>ax.nth aj n
def ax.n9:ax→List (List a_)
 | .nil=>[]
 | .cons t aj=>t.jt :: ax.n9 aj
def rA(s:aq)(ty:Nat→Option ad):List (Nat×Operand)→List (List a_)→Option (List (List a_))
 | [],B=>some B
 | (i,x) :: ps,B =>
  match ty i with
  | none=>none
  | some t =>
   match iX t (bV s x) with
   | none=>none
   | some cs=>cond (Nat.beq cs.length t.size) (rA s ty ps (B.set i cs)) none
def ax.off:ax→Nat→Option (Nat×ad)
 | .nil,_=>none
 | .cons t _,0=>some (0,t)
 | .cons t aj,n+1=>(ax.off aj n).bind fun r=>some (t.size+r.1,r.2)
def mkObj(s:aq)(id:Nat)(o:cn):Option aq :=
 match s.o id with
 | .none=>some (s.bR id o)
 | _=>none
def taken(s:aq)(t:ad):a_→Option (ba×List t.D×aq)
 | .nil u=>(eG (.sl u) (.sl t) ([]:List u.D)).bind fun x=>some (t.own,x,s)
 | .ag id sub=>match s.o id with
  | .row u em _ xs=>(eG (.sl u) (.sl t) (kT sub xs)).bind fun x=>some (em,x,s.bR id .dead)
  | _=>none
 | _=>none
def added(s:aq)(t:ad):a_→Option (ba×List t.D×aq)
 | .ag id sub=>match s.o id with
  | .row u em _ xs=>match em with
   | .R=>(eG (.sl u) (.sl t) (kT sub xs)).bind fun x=>some (.R,x,s)
   | _=>(eG (.sl u) (.sl t) (kT sub xs)).bind fun x=>some (em,x,s.bR id .dead)
  | _=>none
 | .b1 u dp _ xs=>cond (alive s dp&&(t.flat||dp.isEmpty)) ((eG (.sl u) (.sl t) xs).bind fun x=>some (.R,x,s)) none
 | .nil u=>(eG (.sl u) (.sl t) ([]:List u.D)).bind fun x=>some (t.own,x,s)
 | .str x=>(eG (.sl (.int .u8)) (.sl t) (eA x)).bind fun y=>some (.R,y,s)
 | _=>none
def meet(a b:ba):ba:=cond (ba.beq a b) a .R
def ON(id:Nat)(t:ad)(s:aq)(a b:a_)(K:a_→aq→Option bu):Option bu :=
 match added s t b with
 | none=>none
 | some (ky,ys,s1) =>
  match taken s1 t a with
  | none=>none
  | some (n_,xs,s2) =>
   match mkObj s2 id (.row t (meet n_ ky) 0 (xs++ys)) with
   | none=>none
   | some s3=>jF (room (xs.length+ys.length)) (K (.ag id none) s3)
def n'(t:ad)(v:a7):Bool :=
 match t,v with
 | .st _,.iC _=>true
 | .st _,_=>false
 | _,.aT _=>true
 | .sl _,.kS=>true
 | _,_=>false
mutual
def ad.getAt:(T:ad)→Nat→(t:ad)→T.D→Option (List t.D)
 | .sl u,off,t,x=>cond (Nat.beq off 0) (eG (.sl u) (.sl t) x) none
 | .st aj,off,t,x=>aj.getAt off t x
 | _,_,_,_=>none
def ax.getAt:(aj:ax)→Nat→(t:ad)→aj.D→Option (List t.D)
 | .nil,_,_,_=>none
 | .cons T aj,off,t,x=>cond (Nat.blt off T.size) (T.getAt off t x.1) (aj.getAt (off-T.size) t x.2)
end
mutual
def ad.setAt:(T:ad)→Nat→(t:ad)→List t.D→T.D→Option T.D
 | .sl u,off,t,y,_=>cond (Nat.beq off 0) (eG (.sl t) (.sl u) y) none
 | .st aj,off,t,y,x=>aj.setAt off t y x
 | _,_,_,_,_=>none
def ax.setAt:(aj:ax)→Nat→(t:ad)→List t.D→aj.D→Option aj.D
 | .nil,_,_,_,_=>none
 | .cons T aj,off,t,y,x=>cond (Nat.blt off T.size) ((T.setAt off t y x.1).bind fun z=>some (z,x.2)) ((aj.setAt (off-T.size) t y x.2).bind fun z=>some (x.1,z))
end
def tm(t:ad)(e:ba)(s:aq)(dp:List (Nat×Nat)):Option Place→Option (List t.D×aq)
 | none=>none
 | some p =>
  match p.e_,s.o p.id with
  | some i,.row T em ver ys=>cond (alive s dp&&ba.beq em T.own&&ba.beq e t.own) ((T.getAt p.off t (J T ys i)).bind fun x=>some (x,s.bR p.id (.cf (.row T em ver ys)))) none
  | _,_=>none
def vQ(t:ad)(x:List t.D)(s:aq):Option Place→Option aq
 | none=>none
 | some p =>
  match p.e_,s.o p.id with
  | some i,.cf (.row T em ver ys)=>(T.setAt p.off t x (J T ys i)).bind fun z=>some (s.bR p.id (.row T em (ver+1) (ys.set i z)))
  | _,_=>none
mutual
def ad.fl:(t:ad)→ba→List a_→aq→Option (t.D×List a_×aq)
 | .int k,_,.int k' x :: cs,s=>cond (Nat.beq (dq k) (dq k')) (some (x,cs,s)) none
 | .bool,_,.bool x :: cs,s=>some (x,cs,s)
 | .str,_,.str x :: cs,s=>some (x,cs,s)
 | .sl t,.O e,c :: cs,s=>match c with
  | .nil u=>(eG (.sl u) (.sl t) ([]:List u.D)).bind fun x=>some (x,cs,s)
  | .ag id none=>match s.o id with
   | .row u em ver xs=>cond (ba.beq em e) ((eG (.sl u) (.sl t) xs).bind fun x=>some (x,cs,s.bR id (.cf (.row u em ver xs)))) none
   | _=>none
  | .b1 _ dp ct _=>(tm t e s dp ct).bind fun r=>some (r.1,cs,r.2)
  | _=>none
 | .st aj,m,cs,s=>aj.fl m.parts cs s
 | _,_,_,_=>none
def ax.fl:(aj:ax)→cU→List a_→aq→Option (aj.D×List a_×aq)
 | .nil,_,cs,s=>some ((),cs,s)
 | .cons t aj,m,cs,s=>(t.fl m.ag cs s).bind fun r=>(aj.fl m.dv r.2.1 r.2.2).bind fun q=>some ((r.1,q.1),q.2)
end
mutual
def ad.back:(t:ad)→t.D→List a_→aq→Option (List a_×aq)
 | .sl t,x,c :: cs,s=>match c with
  | .nil _=>some (cs,s)
  | .ag id none=>match s.o id with
   | .cf (.row u em ver _)=>(eG (.sl t) (.sl u) x).bind fun y=>some (cs,s.bR id (.row u em (ver+1) y))
   | _=>none
  | .b1 _ _ ct _=>(vQ t x s ct).bind fun ar=>some (cs,ar)
  | _=>none
 | .st aj,x,cs,s=>aj.back x cs s
 | _,_,_ :: cs,s=>some (cs,s)
 | _,_,[],_=>none
def ax.back:(aj:ax)→aj.D→List a_→aq→Option (List a_×aq)
 | .nil,_,cs,s=>some (cs,s)
 | .cons t aj,x,cs,s=>(t.back x.1 cs s).bind fun r=>aj.back x.2 r.1 r.2
end
def gh(key:Nat)(s:aq):(ps:List bA)→List a7→List (Nat×Nat)→Option ((bA.ins ps).D×aq×List (Nat×Nat))
 | [],[],bn=>some ((),s,bn)
 | .fn mc pc :: ps,.fn g a b :: vs,bn=>cond (Nat.beq g key&&Nat.beq a.length mc&&Nat.beq b.length pc) (gh key s ps vs bn) none
 | .val t m :: ps,v :: vs,bn=>cond (n' t v)
  (match iX t v with
  | none=>none
  | some cs=>(t.imp true m cs s bn).bind fun r =>
   match r.2.1 with
   | []=>(gh key r.2.2.1 ps vs r.2.2.2).bind fun q=>some ((r.1,q.1),q.2)
   | _=>none) none
 | .hR t :: ps,v :: vs,bn=>cond (n' t v)
  (match iX t v with
  | none=>none
  | some cs=>(t.imp false .R cs s bn).bind fun r =>
   match r.2.1 with
   | []=>(gh key r.2.2.1 ps vs r.2.2.2).bind fun q=>some ((r.1,q.1),q.2)
   | _=>none) none
 | .hQ t m :: ps,v :: vs,bn=>cond (n' t v&&ba.beq m t.own)
  (match iX t v with
  | none=>none
  | some cs=>(t.fl m cs s).bind fun r =>
   match r.2.1 with
   | []=>(gh key r.2.2 ps vs bn).bind fun q=>some ((r.1,q.1),q.2)
   | _=>none) none
 | .ref t :: ps,.di dp cs off :: vs,bn =>
  match takeN off t.size cs with
  | none=>none
  | some cs=>cond (alive s dp) ((t.imp true .R cs s (dp++bn)).bind fun r =>
   match r.2.1 with
   | []=>(gh key r.2.2.1 ps vs r.2.2.2).bind fun q=>some ((r.1,q.1),q.2)
   | _=>none) none
 | .ref t :: ps,.ptr p :: vs,bn =>
  match me s t.size p with
  | none=>none
  | some cs=>(t.imp true .R cs s ((p.id,kv s p.id) :: bn)).bind fun r =>
   match r.2.1 with
   | []=>(gh key r.2.2.1 ps vs r.2.2.2).bind fun q=>some ((r.1,q.1),q.2)
   | _=>none
 | .mut t m m' :: ps,.ptr p :: vs,bn =>
  match s.o p.id,p.e_ with
  | .var ver old,none =>
   match takeN p.off t.size old with
   | none=>none
   | some cs=>(t.imp true m cs (s.bR p.id (.cf (.var ver old))) bn).bind fun r =>
    match r.2.1 with
    | []=>(gh key r.2.2.1 ps vs r.2.2.2).bind fun q=>some ((r.1,q.1),q.2)
    | _=>none
  | .row u em ver xs,some i =>
   cond (Nat.beq p.off 0&&ba.beq em m&&ba.beq m' em&&ba.beq m t.own) ((eG u t (J u xs i)).bind fun x =>
    (gh key (s.bR p.id (.cf (.row u em ver xs))) ps vs bn).bind fun q=>some ((x,q.1),q.2)) none
  | _,_=>none
 | _,_,_=>none
def mf(dp:List (Nat×Nat)):(ps:List bA)→List a7→(bA.d' ps).D→aq→Nat→Option (aq×Nat)
 | [],_,_,s,j=>some (s,j)
 | .mut t _ m' :: ps,.ptr p :: vs,x,s,j =>
  match s.o p.id,p.e_ with
  | .cf (.var ver old),none=>(t.hS m' dp x.1 s j).bind fun r =>
   mf dp ps vs x.2 (r.2.1.bR p.id (.var (ver+1) (old.take p.off++r.1++old.drop (p.off+t.size)))) r.2.2
  | .cf (.row u em ver xs),some i=>(eG t u x.1).bind fun y=>mf dp ps vs x.2 (s.bR p.id (.row u em (ver+1) (xs.set i y))) j
  | _,_=>none
 | .hQ t _ :: ps,v :: vs,x,s,j =>
  match iX t v with
  | none=>none
  | some cs=>(t.back x.1 cs s).bind fun r=>mf dp ps vs x.2 r.2 j
 | .val _ _ :: ps,_ :: vs,x,s,j | .hR _ :: ps,_ :: vs,x,s,j | .ref _ :: ps,_ :: vs,x,s,j | .fn _ _ :: ps,_ :: vs,x,s,j=>mf dp ps vs x s j
 | _,_,_,_,_=>none
def qj(s:aq)(vs:List a7)(arg off:Nat):Option Nat :=
 match vs[arg]? with
 | some (.ptr p)=>match me s 1 { p with off:=p.off+off } with
  | some [.ag id none]=>some id
  | _=>none
 | _=>none
def qk(s:aq)(t:ad)(id:Nat):Bool :=
 match s.o id with
 | .row u _ _ _=>ad.beq u t
 | _=>false
def lA(vs:List a7)(ps:List bA)(dp:List (Nat×Nat)):(rs:List cW)→(cW.outs rs (bA.d' ps)).D→aq→Nat→Option (List a7×aq)
 | [],x,s,j=>(mf dp ps vs x s j).bind fun r=>some ([],r.1)
 | .val t m :: rs,x,s,j=>(t.hS m dp x.1 s j).bind fun r =>
  match j2 t r.1 with
  | none=>none
  | some v=>(lA vs ps dp rs x.2 r.2.1 r.2.2).bind fun q=>some (v :: q.1,q.2)
 | .new t m :: rs,x,s,j=>(t.hS m dp x.1 s j).bind fun r=>(mkObj r.2.1 r.2.2 (.var 0 r.1)).bind fun s1=>(lA vs ps dp rs x.2 s1 (r.2.2+1)).bind fun q=>some (.ptr ⟨r.2.2,none,0⟩ :: q.1,q.2)
 | .opt a off t :: rs,x,s,j=>(lA vs ps dp rs x.2 s j).bind fun q =>
  match qj q.2 vs a off with
  | none=>none
  | some id=>cond (qk q.2 t id) (some (.opt id x.1 :: q.1,q.2)) none
 | .any t :: rs,x,s,j=>(lA vs ps dp rs x s j).bind fun q=>some (.ry t :: q.1,q.2)
 | .pd t :: rs,x,s,j=>(lA vs ps dp rs x.2 s j).bind fun q=>some (.may (!List.isEmpty x.1) dp (t.cells dp none (J t x.1 0)) :: q.1,q.2)
def pf:List a7→FuncId
 | []=>0
 | .fn f _ _ :: _=>f
 | _ :: l=>pf l
def lB:List a7→List a7
 | []=>[]
 | .fn _ a b :: l=>a++b++lB l
 | _ :: l=>lB l
def oa:List a7→Bool
 | []=>true
 | .aD :: _=>false
 | .gone :: _=>false
 | .ry _ :: _=>false
 | _ :: l=>oa l
def Hi(E:Env)(id:Nat)(s:aq)(f:FuncId)(vs:List a7)(K:a7→aq→Option bu):Option bu :=
 match E.fns f (pf vs) with
 | none=>none
 | some e =>
  match gh (pf vs) s e.ps (vs++lB vs) [] with
  | none=>none
  | some (x,s1,bn) =>
   cond (alive s1 bn&&oa vs)
    ((e.f x).bind fun r =>
     match lA (vs++lB vs) e.ps bn e.rs r s1 id with
     | none=>none
     | some ([v],s2)=>K v s2
     | some (l,s2)=>K (.pb l) s2)
    none
def rB(s:aq):List a7→(List a7→Option bu)→Option bu
 | [],K=>K []
 | .opt i n :: l,K=>(aO (match s.o i with | .row _ _ _ xs=>xs.length | _=>0) n).bind fun k=>rB s l fun l'=>K (.ptr ⟨i,some k,0⟩ :: l')
 | .may b dp cs :: l,K=>jF b (rB s l fun l'=>K (.di dp cs 0 :: l'))
 | v :: l,K=>rB s l fun l'=>K (v :: l')
def Hj(E:Env)(id:Nat)(s:aq)(f:FuncId)(vs:List a7)(K:a7→aq→Option bu):Option bu := rB s vs fun vs=>Hi E id s f vs K
end
end Go.LM
namespace Go.LM
section
variable{bu : Type}
def tn(gY:Bool)(k:IntKind):Int→List a7→Option (IntKind×Int)
 | x,[]=>some (k,x)
 | x,.aT (.int _ y) :: l=>tn gY k (cond gY (X' x y) (jG x y)) l
 | _,_=>none
def vR(gY:Bool):List a7→Option (IntKind×Int)
 | .aT (.int k x) :: l=>tn gY k x l
 | _=>none
def kV(s:aq)(T:ad):a_→Bool
 | .str _=>ad.beq T .str
 | .nil u=>ad.beq T (.sl u)
 | .b1 u _ _ _=>ad.beq T (.sl u)
 | .ag id _=>match s.o id with
  | .row u _ _ _=>ad.beq T (.sl u)
  | _=>false
 | _=>false
def oneCell(t:ad):a7→Option a_
 | .aT c=>some c
 | .kS=>some (.nil t)
 | _=>none
def vS(E:Env):List Nat→Option ad
 | e' :: gi :: _ =>
  match E.ty e',E.ty gi with
  | some (.sl t),some (.sl _)=>some t
  | some (.sl t),some .str=>some t
  | _,_=>none
 | _=>none
def j3(E:Env)(id:Nat)(s:aq)(b:Builtin)(Hk:List Nat)(vs:List a7)(K:a7→aq→Option bu):Option bu :=
 match b,vs with
 | .len,[.aT c] =>
  match Hk with
  | t :: _ =>
   match E.ty t with
   | some T=>cond (kV s T c)
    (match n8 s c with
    | some n=>K (.aT (.int .i64 n)) s
    | none=>none) none
   | none=>none
  | _=>none
 | .append,[lC,vb] =>
  match vS E Hk with
  | some t =>
   match oneCell t lC,oneCell t vb with
   | some a,some b=>ON id t s a b fun c s=>K (.aT c) s
   | _,_=>none
  | none=>none
 | .clear,[.aT (.ag i sub)] =>
  match Hk with
  | t :: _ =>
   match E.ty t,s.o i with
   | some (.sl u),.row v em ver xs=>cond (ad.beq u v&&v.flat) (K (.pb []) (s.bR i (.row v em (ver+1) (xs.take (eh sub)++List.replicate (lz sub xs) v.zero++xs.drop (eh sub+lz sub xs))))) none
   | _,_=>none
  | _=>none
 | .min,vs =>
  match vR false vs with
  | some (k,x)=>K (.aT (.int k x)) s
  | none=>none
 | .max,vs =>
  match vR true vs with
  | some (k,x)=>K (.aT (.int k x)) s
  | none=>none
 | _,_=>none
def bound(s:aq)(x:Option Operand)(d:Int):Option Int :=
 match x with
 | none=>some d
 | some x=>kx (bV s x)
def vT(c:a_)(l m:Nat):Option a_ :=
 match c with
 | .str x=>some (.str (part x l m))
 | .nil t=>some (.nil t)
 | .b1 t dp ct xs=>some (.b1 t dp none (part xs l m))
 | .ag id sub=>some (.ag id (some (eh sub+l,m)))
 | _=>none
def OO(s:aq)(T:ad)(x:a7)(lo hi gY:Option Operand)(K:a7→Option bu):Option bu :=
 match x with
 | .aT c =>
  cond (kV s T c)
  (match n8 s c with
  | none=>none
  | some n =>
   match bound s lo 0,bound s hi n with
   | some l,some h =>
    (match gY with
     | none=>fun k=>k
     | some m=>fun k=>cond (ad.beq T .str) none (match kx (bV s m) with
      | some m=>cond hi.isSome (jF (decide (h=m)) k) none
      | none=>none))
    ((du n l h).bind fun r =>
     match vT c r.1 (r.2-r.1) with
     | some c'=>K (.aT c')
     | none=>none)
   | _,_=>none) none
 | _=>none
def rC(E:Env)(id:Nat)(s:aq)(src dst:Nat)(x:a7)(K:a7→aq→Option bu):Option bu :=
 match E.ty src,E.ty dst,x with
 | some (.int _),some (.int k),.aT (.int _ n)=>K (.aT (.int k (k.wrap n))) s
 | some .str,some .str,.aT (.str b)=>K (.aT (.str b)) s
 | some .str,some (.sl (.int .u8)),.aT (.str b) =>
  match mkObj s id (.row (.int .u8) .R 0 (eA b)) with
  | some s1=>K (.aT (.ag id none)) s1
  | none=>none
 | some (.sl (.int .u8)),some .str,.aT c =>
  match pe s (.int .u8) c with
  | some xs=>K (.aT (.str (gI xs))) s
  | none=>none
 | _,_,_=>none
def Hl(T:ad)(s:aq):List (List a_)→ba
 | cs :: _=>(T.yh s cs).1
 | []=>T.own
noncomputable def cT(E:Env)(id:Nat)(o:Oper)(s:aq)(K:aq→Option bu):Option bu :=
 let put (v:a7) (s:aq):Option bu := K (s.dst o.dst v)
 match o.op with
 | .move x | .assign x =>
  match typed E o.type (bV s x) with
  | some v=>put v s
  | none=>none
 | .pick c a b =>
  match bV s c,typed E o.type (bV s a),typed E o.type (bV s b) with
  | .aT (.bool t),some lC,some vb=>cond t (put lC s) (put vb s)
  | .aT (.bool t),some lC,none=>cond t (put lC s) none
  | .aT (.bool t),none,some vb=>cond t none (put vb s)
  | _,_,_=>none
 | .alloc t =>
  match E.ty t with
  | some T=>match mkObj s id (.var 0 T.jt) with
   | some s1=>put (.ptr ⟨id,none,0⟩) s1
   | none=>none
  | none=>none
 | .box t x =>
  match E.ty t with
  | some T=>match iX T (bV s x) with
   | some cs=>cond (Nat.beq cs.length T.size)
    (match mkObj s id (.var 0 cs) with
     | some s1=>put (.ptr ⟨id,none,0⟩) s1
     | none=>none) none
   | none=>none
  | none=>none
 | .build t parts =>
  match E.ty t with
  | some (.st aj)=>match rA s aj.nth parts.toList aj.n9 with
   | some B=>put (.iC B.flatten) s
   | none=>none
  | _=>none
 | .buildSlice t n parts =>
  match E.ty t with
  | some (.sl T)=>cond (Nat.ble (n*T.size) 16777216)
   (match rA s (fun i=>cond (Nat.blt i n) (some T) none) parts.toList (List.replicate n T.jt) with
   | some B =>
    match qi T (Hl T s B) B s with
    | some (xs,s1)=>match mkObj s1 id (.row T (Hl T s B) 0 xs) with
     | some s2=>put (.aT (.ag id none)) s2
     | none=>none
    | none=>none
   | none=>none) none
  | _=>none
 | .load t a =>
  match E.ty t,bV s a with
  | some T,.ptr p=>match (me s T.size p).bind (j2 T) with
   | some v=>put v s
   | none=>none
  | some T,.di dp cs off=>match (takeN off T.size cs).bind (j2 T) with
   | some v=>cond (alive s dp) (put v s) none
   | none=>none
  | _,_=>none
 | .store t a x =>
  match E.ty t,bV s a with
  | some T,.ptr p=>match iX T (bV s x) with
   | some cs=>cond (Nat.beq cs.length T.size)
    (match Bf s p cs with
     | some s1=>put .aD s1
     | none=>none) none
   | none=>match bV s x,s.o p.id,p.e_ with
    | .ry u,.var _ old,none=>cond (ad.beq u T&&Nat.beq p.off 0&&Nat.ble T.size old.length) (put .aD (s.bR p.id .dead)) none
    | _,_,_=>none
  | _,_=>none
 | .nilCheck x =>
  match bV s x with
  | .ptr p=>put (.ptr p) s
  | .di dp cs off=>put (.di dp cs off) s
  | .fn f a b=>put (.fn f a b) s
  | .may b dp cs=>jF b (put (.di dp cs 0) s)
  | .opt i n=>(aO (match s.o i with | .row _ _ _ xs=>xs.length | _=>0) n).bind fun k=>put (.ptr ⟨i,some k,0⟩) s
  | _=>none
 | .binOp op ty x y _=>kU E ty op (bV s x) (bV s y) fun v=>put v s
 | .unOp op _ x=>Hh op (bV s x) fun v=>put v s
 | .convert src dst x=>rC E id s src dst (bV s x) put
 | .makeFunc (.func f) first ly=>put (.fn f (first.toList.map (bV s)) (ly.toList.map (bV s))) s
 | .makeSlice t l c =>
  match E.ty t,kx (bV s l),kx (bV s c) with
  | some (.sl T),some n,some m =>
   jF (decide (0≤n)&&decide (n=m)&&room n.toNat)
    (match mkObj s id (.row T T.own 0 (List.replicate n.toNat T.zero)) with
     | some s1=>put (.aT (.ag id none)) s1
     | none=>none)
  | _,_,_=>none
 | .slice t x lo hi gY =>
  match E.ty t with
  | some T=>OO s T (bV s x) lo hi gY fun v=>put v s
  | none=>none
 | .fieldAddr t x f =>
  match E.ty t,bV s x with
  | some (.st aj),.ptr p=>match aj.off f with
   | some (k,u)=>cond (Nat.beq u.size 0) none (put (.ptr { p with off:=p.off+k }) s)
   | none=>none
  | some (.st aj),.di dp cs off=>match aj.off f with
   | some (k,u)=>cond (Nat.beq u.size 0) none (put (.di dp cs (off+k)) s)
   | none=>none
  | _,_=>none
 | .field t x f =>
  match E.ty t,bV s x with
  | some (.st aj),.iC cs=>match aj.off f with
   | some (k,u)=>match (takeN k u.size cs).bind (j2 u) with
    | some v=>put v s
    | none=>none
   | none=>none
  | _,_=>none
 | .indexAddr t x i =>
  match E.ty t,bV s x,kx (bV s i) with
  | some (.sl u),.aT c,some n =>
   match c with
   | .ag id sub=>match s.o id with
    | .row v _ _ xs=>cond (ad.beq u v) ((aO (lz sub xs) n).bind fun k=>put (.ptr ⟨id,some (eh sub+k),0⟩) s) none
    | _=>none
   | .b1 v dp ct xs=>cond (alive s dp&&ad.beq u v) ((aO xs.length n).bind fun k=>put (.di dp (v.cells dp none (J v xs k)) 0) s) none
   | _=>none
  | _,_,_=>none
 | .index t x i =>
  match E.ty t,bV s x,kx (bV s i) with
  | some .str,.aT (.str b),some n=>(aO b.length n).bind fun k=>put (.aT (.int .u8 (b.getD k 0).toNat)) s
  | _,_,_=>none
 | .extract x i =>
  match bV s x with
  | .pb l=>match l[i]? with
   | some v=>put v s
   | none=>none
  | _=>none
 | .call c =>
  let vs:=c.args.toList.map (bV s)
  match c.callee with
  | .builtin b=>j3 E id s b c.argTypes.toList vs put
  | .value f=>match bV s f with
   | .fn g first ly=>Hj E id s g (first++vs++ly) put
   | _=>none
  | _=>none
 | _=>none
def guardOf(ops:List Oper)(o:Oper):Option (Option Nat×Bool) :=
 match o.guard with
 | none=>none
 | some (j,w)=>some ((ops[j]?).bind (·.dst),w)
def yi(E:Env)(o:Oper):Bool :=
 match o.dst with
 | some d=>Nat.blt d E.n
 | none=>true
noncomputable def tp(E:Env)(id:Nat)(ops:List Oper)(o:Oper)(s:aq)(K:aq→Option bu):Option bu :=
 cond (yi E o) (match guardOf ops o with
 | none=>cT E id o s K
 | some (some d,w) =>
  match s.t d with
  | .aT (.bool b) =>
   cond b (let ar:=s.set d (.aT (.bool true));cond w (cT E id o ar K) (K (ar.dst o.dst .gone)))
    (let ar:=s.set d (.aT (.bool false));cond w (K (ar.dst o.dst .gone)) (cT E id o ar K))
  | .gone=>K (s.dst o.dst .gone)
  | _=>none
 | some (none,_)=>none) none
def vU:List a7→Option Place
 | .aT (.b1 _ _ ct _) :: _=>ct
 | _=>none
def Hm:List bA→Bool
 | []=>true
 | .mut _ _ _ :: _=>false
 | .hQ _ _ :: _=>false
 | .val _ _ :: l | .ref _ :: l | .fn _ _ :: l | .hR _ :: l=>Hm l
def Ya:List bA→Bool
 | .val (.sl _) (.O _) :: _=>true
 | _=>false
def vV(key:Nat)(s:aq)(t:ad):(ps:List bA)→List a7→Option ((bA.ins ps).D×aq×List (Nat×Nat))
 | .val (.sl u) m :: ps,.aT (.b1 _ dp ct _) :: vs=>cond (ba.beq m (.O u.own)&&(ad.beq t u&&Hm ps)) ((tm u u.own s dp ct).bind fun r=>(gh key r.2 ps vs []).bind fun q=>some ((r.1,q.1),q.2)) none
 | _,_=>none
def yj(t:ad){aj:ax} :(rs:List cW)→(cW.outs rs aj).D→Option (List t.D)
 | [.val u m],x=>cond (ba.beq m (.O t.own)) (eG u (.sl t) x.1) none
 | _,_=>none
def OP(E:Env)(s:aq)(o:Oper):Bool :=
 match o.op with
 | .call c=>match c.callee with
  | .value bw=>match bV s bw with
   | .fn g [] []=>match vU (c.args.toList.map (bV s)),E.fns g (pf (c.args.toList.map (bV s))) with
    | some _,some e=>Ya e.ps
    | _,_=>false
   | _=>false
  | _=>false
 | _=>false
def vW(E:Env)(o dH eH eV:Oper)(k1 e1 e2 e0 d0 d1 d2:Nat):Bool :=
 Nat.beq d0 e0&&(Nat.beq d1 e1&&(Nat.beq d2 e2&&(!(Nat.beq k1 d0)&&(!(Nat.beq d0 d1)&&(!(Nat.beq d0 d2)&&(o.guard.isNone&&(dH.guard.isNone&&(eH.guard.isNone&&(eV.guard.isNone&&(eV.dst.isNone&&(Nat.blt d0 E.n&&(Nat.blt d1 E.n&&Nat.blt d2 E.n))))))))))))
def Hn(s:aq)(v:a7)(K:Place→Option bu):Option bu :=
 match v with
 | .ptr p=>K p
 | .opt i n=>(aO (match s.o i with | .row _ _ _ xs=>xs.length | _=>0) n).bind fun k=>K ⟨i,some k,0⟩
 | _=>none
def Ho(E:Env)(s:aq)(o:Oper)(l:List Oper)(K:aq→Option bu):Option bu :=
 match l with
 | dH :: eH :: eV :: _ =>
  match o.op,dH.op,eH.op,eV.op with
  | .call c,.nilCheck (.tmp k1),.fieldAddr na (.tmp e1) ob,.store nc (.tmp e2) (.tmp e0) =>
   match c.callee,o.dst,dH.dst,eH.dst with
   | .value bw,some d0,some d1,some d2=>cond (vW E o dH eH eV k1 e1 e2 e0 d0 d1 d2)
    (match bV s bw,E.ty na,E.ty nc with
    | .fn g [] [],some (.st aj),some (.sl t) =>
     match E.fns g (pf (c.args.toList.map (bV s))),aj.off ob,vU (c.args.toList.map (bV s)) with
     | some e,some (k,u),some p=>Hn s (s.t k1) fun jH=>cond (!(Nat.beq u.size 0)&&(Nat.beq jH.id p.id&&Nat.beq (jH.off+k) p.off))
      (match jH.e_,p.e_ with
      | some i,some j=>cond (Nat.beq i j) (match vV (pf (c.args.toList.map (bV s))) s t e.ps (c.args.toList.map (bV s)++lB (c.args.toList.map (bV s))) with
       | none=>none
       | some (x,s1,bn)=>cond (alive s1 bn&&oa (c.args.toList.map (bV s)))
        ((e.f x).bind fun r=>(yj t e.rs r).bind fun y=>(vQ t y (((s1.set d0 .aD).set d1 .aD).set d2 .aD) (some p)).bind K) none) none
      | _,_=>none) none
     | _,_,_=>none
    | _,_,_=>none) none
   | _,_,_,_=>none
  | _,_,_,_=>none
 | _=>none
noncomputable def tq(E:Env)(bG:Nat)(all:List Oper):List Oper→Nat→Nat→aq→(aq→Option bu)→Option bu
 | [],_,_,s,K=>K s
 | _ :: l,i,q+1,s,K=>tq E bG all l (i+1) q s K
 | o :: l,i,0,s,K=>cond (OP E s o) (Ho E s o l fun ar=>tq E bG all l (i+1) 3 ar K) (tp E ((bG*256+i)*32) all o s fun ar=>tq E bG all l (i+1) 0 ar K)
noncomputable def Hp(E:Env)(bG:Nat)(all:List Oper)(l:List Oper)(i:Nat)(s:aq)(K:aq→Option bu):Option bu := tq E bG all l i 0 s K
def tr(E:Env)(o:Oper):Bool :=
 match o.op with
 | .move _ | .assign _ | .pick _ _ _ | .load _ _ | .nilCheck _ | .binOp _ _ _ _ _ | .unOp _ _ _ | .slice _ _ _ _ _ | .fieldAddr _ _ _ | .field _ _ _ | .indexAddr _ _ _ | .index _ _ _ | .extract _ _ | .build _ _=>true
 | .makeFunc (.func _) _ _=>true
 | .convert a b _=>match E.ty a,E.ty b with
  | some (.int _),some (.int _)=>true
  | _,_=>false
 | .call c=>match c.callee with
  | .builtin .len | .builtin .min | .builtin .max=>true
  | _=>false
 | _=>false
def waits(ops:Array Oper)(j i:Nat):Bool :=
 match ops[j]? with
 | some o=>o.after.any fun e=>Region.binds .any e&&Nat.beq e.on i
 | none=>false
def Hq(E:Env)(ops:Array Oper)(i:Nat):Bool :=
 match ops[i]? with
 | some o=>tr E o
 | none=>false
def iY(s:aq)(o:Oper):List (Nat×Nat) :=
 match o.op with
 | .load _ x=>match bV s x with
  | .ptr p=>[(p.id,kv s p.id)]
  | .di dp _ _=>dp
  | _=>[]
 | _=>[]
def ts(s:aq):List (Nat×List (Nat×Nat))→Bool
 | []=>true
 | p :: l=>cond (alive s p.2) (ts s l) false
def isApp(s:aq)(o:Oper):Bool :=
 match o.op with
 | .call c=>match c.callee with
  | .builtin .append=>(vU (c.args.toList.map (bV s))).isSome
  | _=>false
 | _=>false
def Hr(id:Nat)(t:ad)(p:Place)(dp:List (Nat×Nat))(s:aq)(cb:a_)(d0 d1 d2:Nat)(M:aq→Bool)(K:aq→Option bu):Option bu :=
 match added s t cb with
 | none=>none
 | some (ky,ys,s1)=>cond (ba.beq ky t.own) ((tm t t.own s1 dp (some p)).bind fun r =>
   (mkObj r.2 id .dead).bind fun s2=>jF (room (r.1.length+ys.length)) (cond (M (s2.set d0 .aD)) ((vQ t (r.1++ys) (((s2.set d0 .aD).set d1 .aD).set d2 .aD) (some p)).bind K) none)) none
def Hs(E:Env)(id:Nat)(s:aq)(o dH eH eV:Oper)(M:aq→Bool)(K:aq→Option bu):Option bu :=
 match o.op,dH.op,eH.op,eV.op with
 | .call c,.indexAddr vX (.tmp k1) (.tmp k2),.fieldAddr na (.tmp e1) ob,.store nc (.tmp e2) (.tmp e0) =>
  match c.callee,o.dst,dH.dst,eH.dst with
  | .builtin .append,some d0,some d1,some d2=>cond (vW E o dH eH eV k1 e1 e2 e0 d0 d1 d2 && !(Nat.beq k2 d0))
   (match E.ty vX,E.ty na,E.ty nc,vS E c.argTypes.toList,c.args.toList.map (bV s) with
   | some (.sl kW),some (.st aj),some (.sl t),some e',[.aT (.b1 _ dp (some p) _),vb] =>
    match aj.off ob,oneCell e' vb,s.t k1,kx (s.t k2),s.o p.id,p.e_ with
    | some (k,u),some cb,.aT (.ag i sub),some q,.row v _ _ xs,some j=>cond (ad.beq e' t&&(ad.beq kW v&&(!(Nat.beq u.size 0)&&(Nat.beq i p.id&&Nat.beq k p.off))))
      ((aO (lz sub xs) q).bind fun m=>cond (Nat.beq (eh sub+m) j) (Hr id t p dp s cb d0 d1 d2 M K) none) none
    | _,_,_,_,_,_=>none
   | _,_,_,_,_=>none) none
  | _,_,_,_=>none
 | _,_,_,_=>none
def OQ(s:aq)(ops:Array Oper)(rs:List Nat):Bool:=rs.any fun i=>match ops[i]? with
 | some o=>isApp s o
 | none=>false
def one:List Nat→Option Nat
 | [i]=>some i
 | _=>none
def Ht(E:Env)(bG:Nat)(ops:Array Oper)(listed:Array Bool)(iZ:List (Nat×List (Nat×Nat)))(rs:List Nat)(s:aq)(K:aq→Option bu):Option bu :=
 (one rs).bind fun i=>(one (Region.ready .any ops (listed.setIfInBounds i true))).bind fun i1=>(one (Region.ready .any ops ((listed.setIfInBounds i true).setIfInBounds i1 true))).bind fun i2 =>
  (one (Region.ready .any ops (((listed.setIfInBounds i true).setIfInBounds i1 true).setIfInBounds i2 true))).bind fun i3 =>
   cond ((Region.ready .any ops ((((listed.setIfInBounds i true).setIfInBounds i1 true).setIfInBounds i2 true).setIfInBounds i3 true)).isEmpty&&((iZ.filter fun p => !waits ops i p.1).filter fun p => !waits ops i1 p.1).isEmpty)
    (ops[i]?.bind fun o=>ops[i1]?.bind fun dH=>ops[i2]?.bind fun eH=>ops[i3]?.bind fun eV=>Hs E ((bG*256+i)*32) s o dH eH eV (fun oc=>ts oc (iZ.filter fun p => !waits ops i p.1)) K) none
noncomputable def dup(a:Option bu):Option bu := both a a
noncomputable def Bj:List (Option bu)→Option bu
 | []=>none
 | [x]=>x
 | x :: l=>both x (Bj l)
noncomputable def tt(E:Env)(bG:Nat)(ops:Array Oper):Nat→Array Bool→List (Nat×List (Nat×Nat))→aq→(aq→Option bu)→Option bu
 | 0,listed,_,s,K=>match Region.ready .any ops listed with
  | []=>K s
  | _=>none
 | n+1,listed,iZ,s,K =>
  match Region.ready .any ops listed with
  | []=>K s
  | rs=>match rs.find? fun i=>Hq E ops i&&Region.free .any ops listed i with
   | some i=>(match ops[i]? with
    | none=>none
    | some o=>tp E ((bG*256+i)*32) ops.toList o s fun ar=>tt E bG ops n (listed.setIfInBounds i true) ((i,iY s o) :: iZ) ar K)
   | none=>cond (OQ s ops rs&&Nat.ble 3 n) (Ht E bG ops listed iZ rs s K) (Bj (rs.map fun i=>match ops[i]? with
    | none=>none
    | some o=>cond (tr E o) none (tp E ((bG*256+i)*32) ops.toList o s fun ar =>
      cond (ts ar (iZ.filter fun p => !waits ops i p.1)) (tt E bG ops n (listed.setIfInBounds i true) (iZ.filter fun p => !waits ops i p.1) ar K) none)))
noncomputable def Hu(E:Env)(bG:Nat)(ops:Array Oper)(s:aq)(K:aq→Option bu):Option bu :=
 cond (Region.noSelect ops) (tt E bG ops ops.size (Array.replicate ops.size false) [] s K) none
structure Hand(bu : Type) where
 cut:Nat→List Item→aq→Option bu
 fin:aq→Option bu
noncomputable def j4(E:Env)(cuts:Nat→Bool)(H:Hand bu):Nat→Bool→List Item→aq→Option bu
 | 0,_,_,_=>none
 | n+1,first,todo,s =>
  match todo with
  | []=>H.fin s
  | .code .ret :: _=>H.fin s
  | .code .skip :: k | .inBlock _ :: k=>j4 E cuts H n first k s
  | .code (.seq a b) :: k=>j4 E cuts H n first (.code a :: .code b :: k) s
  | .code (.cond c x y) :: k =>
   match bV s c with
   | .aT (.bool b)=>cond b (j4 E cuts H n first (.code x :: k) s) (j4 E cuts H n first (.code y :: k) s)
   | _=>none
  | .code (.block id c) :: k=>j4 E cuts H n first (.code c :: .inBlock id :: k) s
  | .code (.loop c) :: k | .inLoop c :: k=>j4 E cuts H n first (.code c :: .inLoop c :: k) s
  | .code (.exit id) :: k =>
   match exitTo id k with
   | some k'=>j4 E cuts H n first k' s
   | none=>none
  | .code (.region bG ops ik) :: k =>
   cond (cuts bG && !first) (H.cut bG todo s)
    (cond ik (Hu E bG ops s fun ar=>j4 E cuts H n false k ar) (Hp E bG ops.toList ops.toList 0 s fun ar=>j4 E cuts H n false k ar))
  | _=>none
end
end Go.LM
namespace Go.LM
abbrev ah:=Nat→Nat→Prop
def ah.none:ah:=fun _ _=>False
def ah.or(F G:ah):ah:=fun b o=>F b o∨G b o
def ah.apart(F G:ah):Prop:=∀b o,F b o→G b o→False
def ah.sub(F G:ah):Prop:=∀b o,F b o→G b o
def ah.run(b lo n:Nat):ah:=fun b' o=>b'=b∧lo≤o∧o<lo+n
abbrev at_(b o:Nat):Addr:=⟨b,o,none⟩
theorem rD(w:World)(b o:Nat):w.cell? (at_ b o)=match w.heap[b]? with | some (.cells c _ _)=>c[o]? | _=>none:=by
 simp only [World.cell?,at_]
 cases w.heap[b]? with
 | none=>rfl
 | some x=>cases x <;> rfl
theorem cell_of_heap{w:World}{b:Nat}{c:Array Value}{e:TypeId}{f:Nat×Nat}(h:w.heap[b]?=some (.cells c e f))(o:Nat) :
  w.cell? (at_ b o)=c[o]?:=by rw [rD,h]
theorem yb{w:World}{b o:Nat}{v:Value}(h:w.cell? (at_ b o)=some v) :
  ∃c e f,w.heap[b]?=some (.cells c e f)∧c[o]?=some v:=by
 rw [rD] at h
 split at h
 ·rename_i c e f hb;exact⟨c,e,f,hb,h⟩
 ·simp at h
theorem yc{w:World}{b o:Nat}{v:Value}(h:w.cell? (at_ b o)=some v):b<w.heap.size:=by
 obtain ⟨c,e,f,hb,_⟩:=yb h
 rcases Nat.lt_or_ge b w.heap.size with h | h
 ·exact h
 ·simp [Array.getElem?_eq_none h] at hb
structure Ext(w w':World)(F:ah):Prop where
 os:w'.os=w.os
 tape:w'.tape=w.tape
 output:w'.output=w.output
 size:w.heap.size≤w'.heap.size
 block:∀b,b<w.heap.size→w'.heap[b]?=w.heap[b]? ∨
  ∃c c' e f,w.heap[b]?=some (.cells c e f)∧w'.heap[b]?=some (.cells c' e f)∧c'.size=c.size∧∀o,¬F b o→c'[o]?=c[o]?
theorem Ext.refl(w:World)(F:ah):Ext w w F:=⟨rfl,rfl,rfl,Nat.le_refl _,fun _ _=>.inl rfl⟩
theorem Ext.mono{w w':World}{F G:ah}(h:Ext w w' F)(hs:∀b o,b<w.heap.size→F b o→G b o):Ext w w' G:=by
 refine⟨h.os,h.tape,h.output,h.size,fun b hb=>?_⟩
 rcases h.block b hb with h | ⟨c,c',e,f,h1,h2,h3,h4⟩
 ·exact .inl h
 ·exact .inr ⟨c,c',e,f,h1,h2,h3,fun o ho=>h4 o fun hf=>ho (hs b o hb hf)⟩
theorem Ext.trans{a b c:World}{F:ah}(h:Ext a b F)(k:Ext b c F):Ext a c F:=by
 refine⟨k.os.trans h.os,k.tape.trans h.tape,k.output.trans h.output,Nat.le_trans h.size k.size,fun i hi=>?_⟩
 rcases h.block i hi with h1 | ⟨x,bF,e,f,h1,h2,h3,h4⟩
 ·rcases k.block i (Nat.lt_of_lt_of_le hi h.size) with k1 | ⟨y,mg,gZ,nd,k1,k2,k3,bg⟩
  ·exact .inl (k1.trans h1)
  ·exact .inr ⟨y,mg,gZ,nd,h1 ▸ k1,k2,k3,bg⟩
 ·rcases k.block i (Nat.lt_of_lt_of_le hi h.size) with k1 | ⟨y,mg,gZ,nd,k1,k2,k3,bg⟩
  ·exact .inr ⟨x,bF,e,f,h1,k1.trans h2,h3,h4⟩
  ·rw [h2] at k1
   simp only [Option.some.injEq,Obj.cells.injEq] at k1
   obtain ⟨rfl,rfl,rfl⟩:=k1
   exact .inr ⟨x,mg,e,f,h1,k2,k3.trans h3,fun o ho=>(bg o ho).trans (h4 o ho)⟩
theorem Ext.trans'{a b c:World}{F S:ah}(h:Ext a b F)(k:Ext b c S)(dm:∀i o,S i o→F i o∨a.heap.size≤i):Ext a c F:=by
 refine⟨k.os.trans h.os,k.tape.trans h.tape,k.output.trans h.output,Nat.le_trans h.size k.size,fun i hi=>?_⟩
 have hk:c.heap[i]?=b.heap[i]?∨∃x bF e f,b.heap[i]?=some (.cells x e f)∧c.heap[i]?=some (.cells bF e f)∧bF.size=x.size∧∀o,¬F i o→bF[o]?=x[o]?:=by
  rcases k.block i (Nat.lt_of_lt_of_le hi h.size) with k1 | ⟨y,mg,gZ,nd,k1,k2,k3,bg⟩
  ·exact .inl k1
  ·refine .inr ⟨y,mg,gZ,nd,k1,k2,k3,fun o ho=>bg o fun hs=>?_⟩
   rcases dm i o hs with h | h
   ·exact ho h
   ·omega
 rcases h.block i hi with h1 | ⟨x,bF,e,f,h1,h2,h3,h4⟩
 ·rcases hk with k1 | ⟨y,mg,gZ,nd,k1,k2,k3,bg⟩
  ·exact .inl (k1.trans h1)
  ·exact .inr ⟨y,mg,gZ,nd,h1 ▸ k1,k2,k3,bg⟩
 ·rcases hk with k1 | ⟨y,mg,gZ,nd,k1,k2,k3,bg⟩
  ·exact .inr ⟨x,bF,e,f,h1,k1.trans h2,h3,h4⟩
  ·rw [h2] at k1
   simp only [Option.some.injEq,Obj.cells.injEq] at k1
   obtain ⟨rfl,rfl,rfl⟩:=k1
   exact .inr ⟨x,mg,e,f,h1,k2,k3.trans h3,fun o ho=>(bg o ho).trans (h4 o ho)⟩
theorem Ext.cell{w w':World}{F:ah}(h:Ext w w' F){b o:Nat}(hb:b<w.heap.size)(hf:¬F b o):w'.cell? (at_ b o)=w.cell? (at_ b o):=by
 rw [rD,rD]
 rcases h.block b hb with h | ⟨c,c',e,f,h1,h2,_,h4⟩
 ·rw [h]
 ·rw [h1,h2];exact h4 o hf
theorem qh(w:World)(b o:Nat):w.frozen? (at_ b o)=match w.heap[b]? with | some (.cells _ _ (lo,hi))=>decide (lo≤o)&&decide (o<hi) | _=>false:=rfl
theorem Ext.frozen{w w':World}{F:ah}(h:Ext w w' F){b:Nat}(hb:b<w.heap.size)(o:Nat):w'.frozen? (at_ b o)=w.frozen? (at_ b o):=by
 rw [qh,qh]
 rcases h.block b hb with h | ⟨c,c',e,f,h1,h2,_,_⟩
 ·rw [h]
 ·rw [h1,h2]
def fk(w:World)(b o:Nat):Prop:=(∃v,w.cell? (at_ b o)=some v)∧w.frozen? (at_ b o)=false
theorem Ext.Yb{w w':World}{F:ah}(h:Ext w w' F){b o:Nat}(hc:∃v,w.cell? (at_ b o)=some v):∃v,w'.cell? (at_ b o)=some v:=by
 obtain ⟨v,hv⟩:=hc
 have hb:=yc hv
 obtain ⟨c,e,f,hh,hcv⟩:=yb hv
 rcases h.block b hb with h | ⟨x,bF,gZ,nd,h1,h2,h3,_⟩
 ·exact⟨v,by rw [rD,h,hh];exact hcv⟩
 ·rw [hh] at h1
  simp only [Option.some.injEq,Obj.cells.injEq] at h1
  obtain ⟨rfl,rfl,rfl⟩:=h1
  have ho:o<c.size:=by
   rcases Nat.lt_or_ge o c.size with h | h
   ·exact h
   ·rw [Array.getElem?_eq_none h] at hcv;simp at hcv
  exact⟨bF[o]'(by omega),by rw [rD,h2];simp [Array.getElem?_eq_getElem,h3,ho]⟩
theorem Ext.qg{w w':World}{F:ah}(h:Ext w w' F){b o:Nat}(hc:fk w b o):fk w' b o :=
 ⟨h.Yb hc.1,by rw [h.frozen (yc hc.1.choose_spec) o];exact hc.2⟩
def fS(w:World)(size b o:Nat):Prop:=fk w b o∧(size=1∨∀k,w.frozen? (at_ b k)=false)
theorem Ext.kt{w w':World}{F:ah}(h:Ext w w' F){size b o:Nat}(hc:fS w size b o):fS w' size b o :=
 ⟨h.qg hc.1,hc.2.imp id fun hk k=>by rw [h.frozen (yc hc.1.1.choose_spec) k];exact hk k⟩
theorem Ext.drew(w:World)(n:Nat)(F:ah):Ext w { w with drawn:=n } F:=⟨rfl,rfl,rfl,Nat.le_refl _,fun _ _=>.inl rfl⟩
theorem Ext.push(w:World)(o:Obj)(F:ah):Ext w { w with heap:=w.heap.push o } F :=
 ⟨rfl,rfl,rfl,by simp,fun b hb=>.inl (by simp only;rw [Array.getElem?_push,if_neg (by omega)])⟩
theorem OR(w:World)(o:Obj):({ w with heap:=w.heap.push o } : World).heap[w.heap.size]?=some o:=by simp
theorem OS(w:World)(c:Array Value)(e:TypeId)(f:Nat×Nat)(o:Nat) :
  ({ w with heap:=w.heap.push (.cells c e f) } : World).cell? (at_ w.heap.size o)=c[o]?:=cell_of_heap (OR w _) o
theorem Hv(w:World)(b o:Nat)(v:Value)(b':Nat) :
  (w.setCell (at_ b o) v).heap[b']?=if b=b' then(w.heap[b']?).map (fun | .cells c e f=>.cells (c.setIfInBounds o v) e f | x=>x) else w.heap[b']?:=by
 simp only [World.setCell,Array.getElem?_modify,at_]
 split
 ·rename_i h;subst h
  cases w.heap[b]? with
  | none=>rfl
  | some x=>cases x <;> rfl
 ·rfl
theorem Yc(w:World)(b o:Nat)(v:Value)(b' o':Nat)(h:∃u,w.cell? (at_ b o)=some u) :
  (w.setCell (at_ b o) v).cell? (at_ b' o')=if b=b'∧o=o' then some v else w.cell? (at_ b' o'):=by
 obtain ⟨u,hu⟩:=h
 obtain ⟨c,e,f,hb,hc⟩:=yb hu
 have ho:o<c.size:=by
  rcases Nat.lt_or_ge o c.size with h | h
  ·exact h
  ·rw [Array.getElem?_eq_none h] at hc;simp at hc
 rw [rD,Hv,rD]
 by_cases od:b=b'
 ·subst od
  rw [if_pos rfl,hb]
  simp only [Option.map_some,true_and]
  by_cases vY:o=o'
  ·subst vY;simp [Array.getElem?_setIfInBounds,ho]
  ·simp [Array.getElem?_setIfInBounds,vY]
 ·rw [if_neg od];simp [od]
theorem Yd(w:World)(b o:Nat)(v:Value)(b' o':Nat):(w.setCell (at_ b o) v).frozen? (at_ b' o')=w.frozen? (at_ b' o'):=by
 rw [qh,Hv,qh]
 by_cases od:b=b'
 ·subst od
  rw [if_pos rfl]
  cases w.heap[b]? with
  | none=>rfl
  | some x=>cases x <;> rfl
 ·rw [if_neg od]
theorem Ext.setCell{w:World}{b o:Nat}{F:ah}(v:Value)(hF:F b o):Ext w (w.setCell (at_ b o) v) F:=by
 refine⟨rfl,rfl,rfl,by simp [World.setCell],fun b' hb=>?_⟩
 rw [Hv]
 by_cases od:b=b'
 ·subst od
  rw [if_pos rfl]
  cases hh:w.heap[b]? with
  | none=>exact .inl rfl
  | some x =>
   cases x with
   | cells c e f =>
    refine .inr ⟨c,_,e,f,rfl,rfl,by simp,fun o' ho=>?_⟩
    have:o≠o':=fun e=>ho (e ▸ hF)
    simp [Array.getElem?_setIfInBounds,this]
   | _=>exact .inl rfl
 ·rw [if_neg od];exact .inl rfl
def setCells(w:World)(b:Nat):Nat→List Value→World
 | _,[]=>w
 | o,v :: vs=>setCells (w.setCell (at_ b o) v) b (o+1) vs
theorem n6{F:ah}(b:Nat)(vs:List Value):∀(w:World) (o:Nat),(∀i,i<vs.length→F b (o+i))→Ext w (setCells w b o vs) F:=by
 induction vs with
 | nil=>intro w o _;exact Ext.refl _ _
 | cons v vs ih =>
  intro w o h
  have h1:=Ext.setCell (w:=w) v (h 0 (by simp))
  have h2:=ih (w.setCell (at_ b o) v) (o+1) (fun i hi=>by have:=h (i+1) (by simp;omega);rwa [show o+1+i=o +(i+1) by omega])
  exact h1.trans (h2.mono fun _ _ _ h=>h)
theorem Ye(b:Nat)(vs:List Value):∀(w:World) (o b' o':Nat),(setCells w b o vs).frozen? (at_ b' o')=w.frozen? (at_ b' o'):=by
 induction vs with
 | nil=>intros;rfl
 | cons v vs ih=>intro w o b' o';rw [setCells,ih,Yd]
theorem vZ(b:Nat)(vs:List Value):∀(w:World) (o:Nat),(∀i,i<vs.length→∃u,w.cell? (at_ b (o+i))=some u)→∀b' o',
  (setCells w b o vs).cell? (at_ b' o')=if b=b'∧o≤o'∧o'<o+vs.length then vs[o'-o]? else w.cell? (at_ b' o'):=by
 induction vs with
 | nil =>
  intro w o _ b' o'
  rw [setCells,if_neg]
  simp only [List.length_nil];omega
 | cons v vs ih =>
  intro w o h b' o'
  have h0:∃u,w.cell? (at_ b o)=some u:=by simpa using h 0 (by simp)
  have hx:=Yc w b o v
  rw [setCells,ih]
  ·by_cases hb:b=b'
   ·subst hb
    by_cases h1:o+1≤o'∧o'<o+1+vs.length
    ·rw [if_pos ⟨rfl,h1⟩,if_pos ⟨rfl,by omega,by simp;omega⟩]
     obtain ⟨k,hk⟩:∃k,o'-o=k+1:=⟨o'-o-1,by omega⟩
     rw [hk,List.getElem?_cons_succ,show o'-(o+1)=k by omega]
    ·rw [if_neg (by simpa using h1),hx b o' h0]
     by_cases h2:o=o'
     ·subst h2;rw [if_pos ⟨rfl,rfl⟩,if_pos ⟨rfl,Nat.le_refl _,by simp⟩];simp
     ·rw [if_neg (by simp [h2]),if_neg]
      simp only [List.length_cons];omega
   ·rw [if_neg (by simp [hb]),if_neg (by simp [hb]),hx b' o' h0,if_neg (by simp [hb])]
  ·intro i hi
   rw [hx b _ h0]
   split
   ·exact⟨v,rfl⟩
   ·have:=h (i+1) (by simp;omega)
    rwa [show o+1+i=o +(i+1) by omega]
def b3(w:World)(b o:Nat)(vs:List Value):Prop:=∀i v,vs[i]?=some v→w.cell? (at_ b (o+i))=some v
theorem b3.nil(w:World)(b o:Nat):b3 w b o []:=by intro i v h;simp at h
theorem b3.cons{w:World}{b o:Nat}{v:Value}{vs:List Value}(h:w.cell? (at_ b o)=some v)(hs:b3 w b (o+1) vs):b3 w b o (v :: vs):=by
 intro i u hu
 cases i with
 | zero=>simp at hu;subst hu;simpa using h
 | succ i=>rw [List.getElem?_cons_succ] at hu;have:=hs i u hu;rwa [show o+1+i=o +(i+1) by omega] at this
theorem b3.head{w:World}{b o:Nat}{v:Value}{vs:List Value}(h:b3 w b o (v :: vs)):w.cell? (at_ b o)=some v:=by simpa using h 0 v rfl
theorem b3.tail{w:World}{b o:Nat}{v:Value}{vs:List Value}(h:b3 w b o (v :: vs)):b3 w b (o+1) vs:=by
 intro i u hu;have:=h (i+1) u (by simpa using hu);rwa [show o +(i+1)=o+1+i by omega] at this
theorem b3.append{w:World}{b o:Nat}{us vs:List Value}(h:b3 w b o us)(k:b3 w b (o+us.length) vs):b3 w b o (us++vs):=by
 intro i v hv
 rcases Nat.lt_or_ge i us.length with hi | hi
 ·rw [List.getElem?_append_left hi] at hv;exact h i v hv
 ·rw [List.getElem?_append_right hi] at hv
  have:=k _ v hv
  rwa [show o+us.length +(i-us.length)=o+i by omega] at this
theorem b3.left{w:World}{b o:Nat}{us vs:List Value}(h:b3 w b o (us++vs)):b3 w b o us:=by
 intro i v hv
 have hi:i<us.length:=by
  rcases Nat.lt_or_ge i us.length with h | h
  ·exact h
  ·rw [List.getElem?_eq_none h] at hv;simp at hv
 exact h i v (by rw [List.getElem?_append_left hi];exact hv)
theorem b3.right{w:World}{b o:Nat}{us vs:List Value}(h:b3 w b o (us++vs)):b3 w b (o+us.length) vs:=by
 intro i v hv
 have:=h (us.length+i) v (by rw [List.getElem?_append_right (by omega),Nat.add_sub_cancel_left];exact hv)
 rwa [show o +(us.length+i)=o+us.length+i by omega] at this
theorem b3.part{w:World}{b o:Nat}{vs:List Value}(h:b3 w b o vs)(k n:Nat):b3 w b (o+k) ((vs.drop k).take n):=by
 intro i v hv
 rw [List.getElem?_take] at hv
 split at hv
 ·rw [List.getElem?_drop] at hv
  have:=h _ v hv
  rwa [show o +(k+i)=o+k+i by omega] at this
 ·simp at hv
theorem b3.of_eq{w w':World}{b o:Nat}{vs:List Value}(h:b3 w b o vs)(he:∀i,i<vs.length→w'.cell? (at_ b (o+i))=w.cell? (at_ b (o+i))):b3 w' b o vs:=by
 intro i v hv
 have hi:i<vs.length:=by
  rcases Nat.lt_or_ge i vs.length with h | h
  ·exact h
  ·rw [List.getElem?_eq_none h] at hv;simp at hv
 rw [he i hi];exact h i v hv
theorem ql(b o n:Nat):(at_ b o).add n=at_ b (o+n):=by
 unfold Addr.add;split
 ·rename_i h;subst h;rfl
 ·rfl
section
variable{P:Program}
theorem run_pure{α : Type}(x : α)(w:World):(pure x:Sem α).run P w=.ok x w:=rfl
theorem run_bind{α β : Type}(s:Sem α)(f : α → Sem β)(w:World):(s >>= f).run P w=match s.run P w with | .ok x w'=>(f x).run P w' | .halt h w'=>.halt h w':=by
 show(Sem.bind s f).run P w=_
 induction s generalizing w with
 | pure a=>rfl
 | load m a k ih =>
  simp only [Sem.bind,Sem.run]
  cases w.cell? a with
  | some v=>exact ih v w
  | none =>
   cases w.farLoad P a (m==.atomic) with
   | error h=>rfl
   | ok r=>exact ih r.1 w
 | store m a v k ih =>
  cases v with
  | agg _=>rfl
  | tuple _=>rfl
  | _ =>
   simp only [Sem.bind,Sem.run]
   cases w.cell? a with
   | some u =>
    dsimp only
    split
    ·rfl
    ·exact ih _
   | none =>
    dsimp only
    split
    ·exact ih _
    ·rfl
 | new o k ih=>exact ih _ _
 | shape r k ih=>exact ih _ _
 | freeze a n k ih=>exact ih _
 | frozen a k ih=>exact ih _ _
 | getObj r k ih =>
  simp only [Sem.bind,Sem.run]
  cases w.heap[r]? with
  | none=>rfl
  | some o=>cases o <;> first | rfl | exact ih _ _
 | setObj r o k ih =>
  simp only [Sem.bind,Sem.run]
  cases w.heap[r]? with
  | none=>rfl
  | some o=>cases o <;> first | rfl | exact ih _
 | choose q k ih =>
  simp only [Sem.bind,Sem.run]
  split <;> exact ih _ _
 | sys c k ih=>exact ih _ _
 | program k ih=>exact ih _ _
 | mark m k ih=>exact ih _
 | halt h=>rfl
def ee:Value→Bool
 | .agg _ | .tuple _=>false
 | _=>true
theorem run_load{w:World}{b o:Nat}{v:Value}(h:w.cell? (at_ b o)=some v):(load (at_ b o)).run P w=.ok v w:=by
 simp [load,Sem.run,h]
theorem run_loadCellsFrom{w:World}(b o:Nat)(vs:List Value):∀(k:Nat) (acc:Array Value),b3 w b (o+k) vs →
  (loadCellsFrom (at_ b o) k vs.length acc).run P w=.ok (acc++vs.toArray) w:=by
 induction vs with
 | nil=>intro k acc _;simp [loadCellsFrom,run_pure]
 | cons v vs ih =>
  intro k acc h
  simp only [List.length_cons,loadCellsFrom]
  rw [run_bind,ql,run_load h.head]
  simp only
  rw [ih (k+1) (acc.push v) (by rw [← Nat.add_assoc];exact h.tail)]
  congr 1
  apply Array.ext'
  simp
theorem run_loadCells{w:World}{b o:Nat}{vs:List Value}(h:b3 w b o vs):(loadCells (at_ b o) vs.length).run P w=.ok vs.toArray w:=by
 unfold loadCells
 rw [run_loadCellsFrom b o vs 0 #[] (by simpa using h)]
 simp
theorem run_store{w:World}{b o:Nat}{v:Value}(hv:ee v=true)(h:fk w b o):(store (at_ b o) v).run P w=.ok () (w.setCell (at_ b o) v):=by
 obtain ⟨⟨u,hu⟩,hf⟩:=h
 cases v <;> simp_all [store,Sem.run,ee]
theorem A8{b o:Nat}(vs:List Value):∀(w:World) (k:Nat),(∀v∈vs,ee v=true)→(∀i,i<vs.length→fk w b (o+k+i)) →
  (storeCells (at_ b o) vs k).run P w=.ok () (setCells w b (o+k) vs):=by
 induction vs with
 | nil=>intros;rfl
 | cons v vs ih =>
  intro w k h1 h2
  unfold storeCells
  have h0:fk w b (o+k):=h2 0 (by simp)
  rw [run_bind,ql,run_store (h1 v (by simp)) h0]
  simp only
  rw [ih _ (k+1) (fun v hv=>h1 v (by simp [hv]))]
  ·rfl
  ·intro i hi
   have:=h2 (i+1) (by simp;omega)
   refine Ext.qg (Ext.setCell (F:=fun _ _=>True) v trivial) ?_
   rwa [show o +(k+1)+i=o+k +(i+1) by omega]
end
end Go.LM
namespace Go.LM
def Row{α : Type}(w:World)(R : α → List Value→ah→Prop)(size:Nat):List α → Nat→Nat→ah→Prop
 | [],_,_,_=>True
 | x :: xs,b,o,F=>∃vs G H,R x vs G∧vs.length=size∧b3 w b o vs∧Row w R size xs b (o+size) H∧ah.apart G H∧ah.sub G F∧ah.sub H F
structure m9{α : Type}(w:World)(R : α → List Value→ah→Prop)(size:Nat)(x:List α)(a:Addr)(c:Nat)(F:ah):Prop where
 spot:a.spot=none
 cap:x.length≤c
 wr:∀j,j<c*size→fS w size a.block (a.off+j)
 inF:∀j,j<c*size→F a.block (a.off+j)
 row:∃G,Row w R size x a.block a.off G∧(∀j,j<c*size→¬G a.block (a.off+j))∧ah.sub G F
mutual
def ad.al(w:World)(Z:ah):(t:ad)→ba→t.D→List Value→ah→Prop
 | .int k,_,x,vs,_=>vs=[.int k x]
 | .bool,_,x,vs,_=>vs=[.bool x]
 | .str,_,x,vs,_=>∃s:ByteArray,vs=[.string s]∧s.data.toList=x
 | .raw,_,x,vs,_=>vs=[x]∧∃A n c,x=.slice A n c
 | .sl t,.O e,x,vs,F=>∃A c,vs=[.slice A x.length c]∧((x=[]∧c=0)∨∃a,A=some a∧m9 w (t.al w Z e) t.size x a c F)
 | .sl t,_,x,vs,_=>∃A c,vs=[.slice A x.length c]∧(x=[]∨∃a,A=some a∧a.spot=none∧Row w (fun y us _=>t.al w Z .R y us ah.none) t.size x a.block a.off ah.none∧(∀j,j<x.length*t.size→Z a.block (a.off+j))∧x.length≤c)
 | .st aj,m,x,vs,F=>aj.al w Z m.parts x vs F
def ax.al(w:World)(Z:ah):(aj:ax)→cU→aj.D→List Value→ah→Prop
 | .nil,_,_,vs,_=>vs=[]
 | .cons t aj,m,x,vs,F=>∃us bJ G H,vs=us++bJ∧t.al w Z m.ag x.1 us G∧aj.al w Z m.dv x.2 bJ H∧ah.apart G H∧ah.sub G F∧ah.sub H F
end
def b4(w w':World)(S:ah):Prop:=∀b o,S b o→w'.cell? (at_ b o)=w.cell? (at_ b o)∧∀k,w'.frozen? (at_ b k)=w.frozen? (at_ b k)
theorem b4.mono{w w':World}{S T:ah}(h:b4 w w' S)(hs:ah.sub T S):b4 w w' T:=fun b o ho=>h b o (hs b o ho)
theorem b4.qg{w w':World}{S:ah}(h:b4 w w' S){b o:Nat}(hs:S b o)(hw:fk w b o):fk w' b o:=by
 obtain ⟨⟨v,hv⟩,hf⟩:=hw
 exact⟨⟨v,by rw [(h b o hs).1];exact hv⟩,by rw [(h b o hs).2 o];exact hf⟩
theorem b4.kt{w w':World}{S:ah}(h:b4 w w' S){size b o:Nat}(hs:S b o)(hw:fS w size b o):fS w' size b o :=
 ⟨h.qg hs hw.1,hw.2.imp id fun hk k=>by rw [(h b o hs).2 k];exact hk k⟩
theorem b4.Bk{w w':World}{S:ah}(h:b4 w w' S){b o:Nat}{vs:List Value}(hs:∀i,i<vs.length→S b (o+i))(hc:b3 w b o vs):b3 w' b o vs :=
 hc.of_eq fun i hi=>(h b _ (hs i hi)).1
theorem b4.refl(w:World)(S:ah):b4 w w S:=fun _ _ _=>⟨rfl,fun _=>rfl⟩
theorem b4.trans{a b c:World}{S:ah}(h:b4 a b S)(k:b4 b c S):b4 a c S:=fun i o hs=>⟨(k i o hs).1.trans (h i o hs).1,fun j=>((k i o hs).2 j).trans ((h i o hs).2 j)⟩
theorem Row.mono{α : Type}{w:World}{R : α → List Value→ah→Prop}{size:Nat}{F F':ah}(hF:ah.sub F F'):∀ {x:List α} {b o:Nat},Row w R size x b o F→Row w R size x b o F'
 | [],_,_,_=>trivial
 | _ :: _,_,_,⟨vs,G,H,h1,h2,h3,h4,a8,bl,bK⟩=>⟨vs,G,H,h1,h2,h3,h4,a8,fun b o h=>hF b o (bl b o h),fun b o h=>hF b o (bK b o h)⟩
theorem Row.imp{α : Type}{w w':World}{R i_ : α → List Value→ah→Prop}{size:Nat} : ∀ {x:List α} {b o:Nat} {F:ah},Row w R size x b o F →
  (∀y vs G,ah.sub G F→R y vs G→i_ y vs G)→(∀j,j<x.length*size→w'.cell? (at_ b (o+j))=w.cell? (at_ b (o+j)))→Row w' i_ size x b o F
 | [],_,_,_,_,_,_=>trivial
 | y :: x,b,o,F,⟨vs,G,H,h1,h2,h3,h4,a8,bl,bK⟩,dM,hc=>by
  refine⟨vs,G,H,dM _ _ _ bl h1,h2,h3.of_eq fun i hi=>hc i ?_,?_,a8,bl,bK⟩
  ·rw [List.length_cons,Nat.add_one_mul];omega
  ·refine Row.imp h4 (fun y vs dj hG=>dM y vs dj fun b o h=>bK b o (hG b o h)) fun j hj=>?_
   have:=hc (size+j) (by rw [List.length_cons,Nat.add_one_mul];omega)
   rwa [← Nat.add_assoc] at this
theorem Row.bare{α : Type}{w:World}{R i_ : α → List Value→ah→Prop}{size:Nat} : ∀ {x:List α} {b o:Nat} {F:ah},Row w R size x b o F →
  (∀y vs G,ah.sub G F→R y vs G→i_ y vs ah.none)→Row w i_ size x b o ah.none
 | [],_,_,_,_,_=>trivial
 | y :: x,b,o,F,⟨vs,G,H,h1,h2,h3,h4,a8,bl,bK⟩,dM =>
  ⟨vs,ah.none,ah.none,dM _ _ _ bl h1,h2,h3,Row.bare h4 fun y vs dj hG=>dM y vs dj fun b o h=>bK b o (hG b o h),fun _ _ h=>h.elim,fun _ _ h=>h,fun _ _ h=>h⟩
mutual
theorem ad.al.mono{w:World}{Z Z':ah}(hZ:ah.sub Z Z'):∀(t:ad) (m:ba) {x:t.D} {vs:List Value} {F F':ah},ah.sub F F'→t.al w Z m x vs F→t.al w Z' m x vs F'
 | .int _,_,_,_,_,_,_,h=>by simpa only [ad.al] using h
 | .bool,_,_,_,_,_,_,h=>by simpa only [ad.al] using h
 | .str,_,_,_,_,_,_,h=>by simpa only [ad.al] using h
 | .raw,_,_,_,_,_,_,h=>by simpa only [ad.al] using h
 | .sl t,.O e,x,vs,F,F',hF,h=>by
  simp only [ad.al] at h ⊢
  obtain ⟨A,c,h1,h2⟩:=h
  refine⟨A,c,h1,h2.imp id ?_⟩
  rintro ⟨a,h3,h4⟩
  obtain ⟨G,g1,g2,g3⟩:=h4.row
  exact⟨a,h3,h4.spot,h4.cap,h4.wr,fun j hj=>hF _ _ (h4.inF j hj),G,g1.imp (fun y vs dj _=>ad.al.mono hZ t e fun _ _ h=>h) (fun _ _=>rfl),g2,fun b o h=>hF b o (g3 b o h)⟩
 | .sl t,.R,x,vs,F,F',hF,h=>by
  simp only [ad.al] at h ⊢
  obtain ⟨A,c,h1,h2⟩:=h
  refine⟨A,c,h1,h2.imp id ?_⟩
  rintro ⟨a,h3,h4,a8,bl⟩
  exact⟨a,h3,h4,a8.imp (fun y vs dj _=>ad.al.mono hZ t .R fun _ _ h=>h) (fun _ _=>rfl),fun j hj=>hZ _ _ (bl.1 j hj),bl.2⟩
 | .sl t,.S _,x,vs,F,F',hF,h=>by
  simp only [ad.al] at h ⊢
  obtain ⟨A,c,h1,h2⟩:=h
  refine⟨A,c,h1,h2.imp id ?_⟩
  rintro ⟨a,h3,h4,a8,bl⟩
  exact⟨a,h3,h4,a8.imp (fun y vs dj _=>ad.al.mono hZ t .R fun _ _ h=>h) (fun _ _=>rfl),fun j hj=>hZ _ _ (bl.1 j hj),bl.2⟩
 | .st aj,m,x,vs,F,F',hF,h=>by
  simp only [ad.al] at h ⊢
  exact ax.al.mono hZ aj m.parts hF h
theorem ax.al.mono{w:World}{Z Z':ah}(hZ:ah.sub Z Z'):∀(aj:ax) (m:cU) {x:aj.D} {vs:List Value} {F F':ah},ah.sub F F'→aj.al w Z m x vs F→aj.al w Z' m x vs F'
 | .nil,_,_,_,_,_,_,h=>by simpa only [ax.al] using h
 | .cons t aj,m,x,vs,F,F',hF,h=>by
  simp only [ax.al] at h ⊢
  obtain ⟨us,bJ,G,H,h1,h2,h3,h4,a8,bl⟩:=h
  exact⟨us,bJ,G,H,h1,ad.al.mono hZ t m.ag (fun _ _ h=>h) h2,ax.al.mono hZ aj m.dv (fun _ _ h=>h) h3,h4,fun b o h=>hF b o (a8 b o h),fun b o h=>hF b o (bl b o h)⟩
end
mutual
theorem ad.al.same{w w':World}{Z:ah}(hZ:b4 w w' Z):∀(t:ad) (m:ba) {x:t.D} {vs:List Value} {F:ah},b4 w w' F→t.al w Z m x vs F→t.al w' Z m x vs F
 | .int _,_,_,_,_,_,h=>by simpa only [ad.al] using h
 | .bool,_,_,_,_,_,h=>by simpa only [ad.al] using h
 | .str,_,_,_,_,_,h=>by simpa only [ad.al] using h
 | .raw,_,_,_,_,_,h=>by simpa only [ad.al] using h
 | .sl t,.O e,x,vs,F,hF,h=>by
  simp only [ad.al] at h ⊢
  obtain ⟨A,c,h1,h2⟩:=h
  refine⟨A,c,h1,h2.imp id ?_⟩
  rintro ⟨a,h3,h4⟩
  obtain ⟨G,g1,g2,g3⟩:=h4.row
  have hle:x.length*t.size≤c*t.size:=Nat.mul_le_mul_right _ h4.cap
  exact⟨a,h3,h4.spot,h4.cap,fun j hj=>hF.kt (h4.inF j hj) (h4.wr j hj),h4.inF,G,g1.imp (fun y vs dj hG=>ad.al.same hZ t e (hF.mono fun b o h=>g3 b o (hG b o h))) (fun j hj=>(hF _ _ (h4.inF j (by omega))).1),g2,g3⟩
 | .sl t,.R,x,vs,F,hF,h=>by
  simp only [ad.al] at h ⊢
  obtain ⟨A,c,h1,h2⟩:=h
  refine⟨A,c,h1,h2.imp id ?_⟩
  rintro ⟨a,h3,h4,a8,bl⟩
  exact⟨a,h3,h4,a8.imp (fun y vs dj _=>ad.al.same hZ t .R (fun _ _ h=>h.elim)) (fun j hj=>(hZ _ _ (bl.1 j hj)).1),bl⟩
 | .sl t,.S _,x,vs,F,hF,h=>by
  simp only [ad.al] at h ⊢
  obtain ⟨A,c,h1,h2⟩:=h
  refine⟨A,c,h1,h2.imp id ?_⟩
  rintro ⟨a,h3,h4,a8,bl⟩
  exact⟨a,h3,h4,a8.imp (fun y vs dj _=>ad.al.same hZ t .R (fun _ _ h=>h.elim)) (fun j hj=>(hZ _ _ (bl.1 j hj)).1),bl⟩
 | .st aj,m,x,vs,F,hF,h=>by
  simp only [ad.al] at h ⊢
  exact ax.al.same hZ aj m.parts hF h
theorem ax.al.same{w w':World}{Z:ah}(hZ:b4 w w' Z):∀(aj:ax) (m:cU) {x:aj.D} {vs:List Value} {F:ah},b4 w w' F→aj.al w Z m x vs F→aj.al w' Z m x vs F
 | .nil,_,_,_,_,_,h=>by simpa only [ax.al] using h
 | .cons t aj,m,x,vs,F,hF,h=>by
  simp only [ax.al] at h ⊢
  obtain ⟨us,bJ,G,H,h1,h2,h3,h4,a8,bl⟩:=h
  exact⟨us,bJ,G,H,h1,ad.al.same hZ t m.ag (hF.mono a8) h2,ax.al.same hZ aj m.dv (hF.mono bl) h3,h4,a8,bl⟩
end
mutual
theorem ad.al.len{w:World}{Z:ah} : ∀(t:ad) (m:ba) {x:t.D} {vs:List Value} {F:ah},t.al w Z m x vs F→vs.length=t.size∧∀v∈vs,ee v=true
 | .int _,_,_,_,_,h=>by simp only [ad.al] at h;subst h;simp [ad.size,ee]
 | .bool,_,_,_,_,h=>by simp only [ad.al] at h;subst h;simp [ad.size,ee]
 | .str,_,_,_,_,h=>by simp only [ad.al] at h;obtain ⟨s,rfl,_⟩:=h;simp [ad.size,ee]
 | .raw,_,_,_,_,h=>by simp only [ad.al] at h;obtain ⟨rfl,A,n,c,rfl⟩:=h;simp [ad.size,ee]
 | .sl t,.O e,x,vs,F,h=>by simp only [ad.al] at h;obtain ⟨A,c,rfl,_⟩:=h;simp [ad.size,ee]
 | .sl t,.R,x,vs,F,h=>by simp only [ad.al] at h;obtain ⟨A,c,rfl,_⟩:=h;simp [ad.size,ee]
 | .sl t,.S _,x,vs,F,h=>by simp only [ad.al] at h;obtain ⟨A,c,rfl,_⟩:=h;simp [ad.size,ee]
 | .st aj,m,x,vs,F,h=>by simp only [ad.al] at h;simpa only [ad.size] using ax.al.len aj m.parts h
theorem ax.al.len{w:World}{Z:ah} : ∀(aj:ax) (m:cU) {x:aj.D} {vs:List Value} {F:ah},aj.al w Z m x vs F→vs.length=aj.size∧∀v∈vs,ee v=true
 | .nil,_,_,_,_,h=>by simp only [ax.al] at h;subst h;simp [ax.size]
 | .cons t aj,m,x,vs,F,h=>by
  simp only [ax.al] at h
  obtain ⟨us,bJ,G,H,rfl,h2,h3,_⟩:=h
  have a:=ad.al.len t m.ag h2
  have b:=ax.al.len aj m.dv h3
  refine⟨by simp [ax.size,a.1,b.1],fun v hv=>?_⟩
  rcases List.mem_append.1 hv with h | h
  ·exact a.2 v h
  ·exact b.2 v h
end
mutual
theorem ad.al.read{w:World}{Z Z':ah}(hZ:ah.sub Z Z'):∀(t:ad) (m:ba) {x:t.D} {vs:List Value} {F:ah},ah.sub F Z'→t.al w Z m x vs F→t.al w Z' .R x vs ah.none
 | .int _,_,_,_,_,_,h=>by simpa only [ad.al] using h
 | .bool,_,_,_,_,_,h=>by simpa only [ad.al] using h
 | .str,_,_,_,_,_,h=>by simpa only [ad.al] using h
 | .raw,_,_,_,_,_,h=>by simpa only [ad.al] using h
 | .sl t,.O e,x,vs,F,hF,h=>by
  simp only [ad.al] at h ⊢
  obtain ⟨A,c,h1,h2⟩:=h
  refine⟨A,c,h1,?_⟩
  rcases h2 with⟨h,_⟩ | ⟨a,h3,h4⟩
  ·exact .inl h
  ·obtain ⟨G,g1,g2,g3⟩:=h4.row
   have hle:x.length*t.size≤c*t.size:=Nat.mul_le_mul_right _ h4.cap
   exact .inr ⟨a,h3,h4.spot,g1.bare fun y vs dj hG=>ad.al.read hZ t e (fun b o h=>hF b o (g3 b o (hG b o h))),fun j hj=>hF _ _ (h4.inF j (by omega)),h4.cap⟩
 | .sl t,.R,x,vs,F,hF,h=>ad.al.mono hZ (.sl t) .R (F:=ah.none) (fun _ _ h=>h) (by simpa only [ad.al] using h)
 | .sl t,.S _,x,vs,F,hF,h=>ad.al.mono hZ (.sl t) .R (F:=ah.none) (fun _ _ h=>h) (by simpa only [ad.al] using h)
 | .st aj,m,x,vs,F,hF,h=>by
  simp only [ad.al] at h ⊢
  exact ax.al.read hZ aj m.parts hF h
theorem ax.al.read{w:World}{Z Z':ah}(hZ:ah.sub Z Z'):∀(aj:ax) (m:cU) {x:aj.D} {vs:List Value} {F:ah},ah.sub F Z'→aj.al w Z m x vs F→aj.al w Z' (ba.parts .R) x vs ah.none
 | .nil,_,_,_,_,_,h=>by simpa only [ax.al] using h
 | .cons t aj,m,x,vs,F,hF,h=>by
  simp only [ax.al] at h ⊢
  obtain ⟨us,bJ,G,H,h1,h2,h3,h4,a8,bl⟩:=h
  exact⟨us,bJ,ah.none,ah.none,h1,ad.al.read hZ t m.ag (fun b o h=>hF b o (a8 b o h)) h2,ax.al.read hZ aj m.dv (fun b o h=>hF b o (bl b o h)) h3,fun _ _ h=>h.elim,fun _ _ h=>h,fun _ _ h=>h⟩
end
mutual
theorem rE{w:World}{Z:ah} : ∀ {t:ad} {x:t.D} {vs:List Value} {F:ah},t.al w Z .R x vs F→t.al w Z .R x vs ah.none
 | .int _,_,_,_,h=>by simpa only [ad.al] using h
 | .bool,_,_,_,h=>by simpa only [ad.al] using h
 | .str,_,_,_,h=>by simpa only [ad.al] using h
 | .raw,_,_,_,h=>by simpa only [ad.al] using h
 | .sl t,_,_,_,h=>by simpa only [ad.al] using h
 | .st aj,_,_,_,h=>by simp only [ad.al] at h ⊢;exact OT h
theorem OT{w:World}{Z:ah} : ∀ {aj:ax} {x:aj.D} {vs:List Value} {F:ah},aj.al w Z (ba.parts .R) x vs F→aj.al w Z (ba.parts .R) x vs ah.none
 | .nil,_,_,_,h=>by simpa only [ax.al] using h
 | .cons t aj,_,_,_,h=>by
  simp only [ax.al] at h ⊢
  obtain ⟨us,bJ,G,H,h1,h2,h3,h4,a8,bl⟩:=h
  exact⟨us,bJ,ah.none,ah.none,h1,rE h2,OT h3,fun _ _ h=>h.elim,fun _ _ h=>h,fun _ _ h=>h⟩
end
mutual
theorem rv{w:World}{Z Z':ah} : ∀(t:ad) {m m':ba} {x:t.D} {vs:List Value} {F F':ah},t.flat=true→t.al w Z m x vs F→t.al w Z' m' x vs F'
 | .int _,_,_,_,_,_,_,_,h=>by simpa only [ad.al] using h
 | .bool,_,_,_,_,_,_,_,h=>by simpa only [ad.al] using h
 | .str,_,_,_,_,_,_,_,h=>by simpa only [ad.al] using h
 | .raw,_,_,_,_,_,_,_,h=>by simpa only [ad.al] using h
 | .sl t,_,_,_,_,_,_,hf,h=>by simp [ad.flat] at hf
 | .st aj,_,_,_,_,_,_,hf,h=>by simp only [ad.flat] at hf;simp only [ad.al] at h ⊢;exact OU aj hf h
theorem OU{w:World}{Z Z':ah} : ∀(aj:ax) {m m':cU} {x:aj.D} {vs:List Value} {F F':ah},aj.flat=true→aj.al w Z m x vs F→aj.al w Z' m' x vs F'
 | .nil,_,_,_,_,_,_,_,h=>by simpa only [ax.al] using h
 | .cons t aj,_,_,_,_,_,_,hf,h=>by
  simp only [ax.flat] at hf
  simp only [ax.al] at h ⊢
  obtain ⟨us,bJ,G,H,h1,h2,h3,h4,a8,bl⟩:=h
  cases hb:t.flat
  ·rw [hb] at hf;simp at hf
  ·rw [hb] at hf
   exact⟨us,bJ,ah.none,ah.none,h1,rv t hb h2,OU aj hf h3,fun _ _ h=>h.elim,fun _ _ h=>h.elim,fun _ _ h=>h.elim⟩
end
mutual
theorem tu{w:World}{Z Z':ah} : ∀(t:ad) {x:t.D} {vs:List Value} {F:ah},t.al w Z t.own x vs F→t.al w Z' t.own x vs F
 | .int _,_,_,_,h=>by simpa only [ad.al] using h
 | .bool,_,_,_,h=>by simpa only [ad.al] using h
 | .str,_,_,_,h=>by simpa only [ad.al] using h
 | .raw,_,_,_,h=>by simpa only [ad.al] using h
 | .sl t,_,_,_,h=>by
  simp only [ad.own,ad.al] at h ⊢
  obtain ⟨A,c,h1,h2⟩:=h
  refine⟨A,c,h1,h2.imp (fun h=>h) ?_⟩
  rintro ⟨a,h3,h4⟩
  obtain ⟨G,g1,g2,g3⟩:=h4.row
  exact⟨a,h3,h4.spot,h4.cap,h4.wr,h4.inF,G,g1.imp (fun y vs dj _=>tu t) (fun _ _=>rfl),g2,g3⟩
 | .st aj,_,_,_,h=>by
  simp only [ad.own] at h ⊢
  cases hb:aj.flat
  ·rw [hb] at h
   simp only [ad.al,ba.parts,Bool.false_eq_true,if_false] at h ⊢
   exact Bl aj h
  ·rw [hb] at h
   exact rv (.st aj) (by simp only [ad.flat];exact hb) h
theorem Bl{w:World}{Z Z':ah} : ∀(aj:ax) {x:aj.D} {vs:List Value} {F:ah},aj.al w Z aj.own x vs F→aj.al w Z' aj.own x vs F
 | .nil,_,_,_,h=>by simpa only [ax.al] using h
 | .cons t aj,_,_,_,h=>by
  simp only [ax.own,ax.al,cU.ag,cU.dv] at h ⊢
  obtain ⟨us,bJ,G,H,h1,h2,h3,h4,a8,bl⟩:=h
  exact⟨us,bJ,G,H,h1,tu t h2,Bl aj h3,h4,a8,bl⟩
end
end Go.LM
namespace Go.LM
structure bH where
 base:Option Addr
 cap:Nat
 F:ah
def df(ι : Nat→bH)(dp:List (Nat×Nat)):ah:=fun b o=>∃d,d∈dp∧(ι d.1).F b o
def known(s:aq)(id:Nat):Prop:=s.o id≠.none
def ew(s:aq)(d:Nat×Nat):Prop:=known s d.1∧(s.o d.1=.dead∨d.2≤kv s d.1)
def cn.live:cn→Prop
 | .row .. | .var .. => True
 | _=>False
structure Hw(i:bH)(size:Nat)(sub:Option (Nat×Nat))(len:Nat)(A:Option Addr)(n c:Nat):Prop where
 OV:n=match sub with | none=>len | some (_,m)=>m
 fits:eh sub+n≤len
 le:n≤c
 cap:eh sub+c≤i.cap
 at_:c=0∨∃a,i.base=some a∧A=some (at_ a.block (a.off+eh sub*size))
theorem lD{o:cn}{t:ad}{em:ba}{ver:Nat}{xs:List t.D}(h:o=.row t em ver xs):o.core=.row t em ver xs:=by rw [h];rfl
def ju(s:aq)(ι : Nat→bH)(p:Place)(a:Addr):Prop :=
 a.spot=none∧match (s.o p.id).core with
  | .var _ cs=>p.e_=none∧∃a0,(ι p.id).base=some a0∧a=at_ a0.block (a0.off+p.off)
  | .row t _ _ xs=>∃i,p.e_=some i∧i<xs.length∧∃a0,(ι p.id).base=some a0∧a=at_ a0.block (a0.off+i*t.size+p.off)
  | _=>True
def rF(w:World)(s:aq)(ι : Nat→bH)(dp:List (Nat×Nat))(ct:Option Place)(v:Value):Prop :=
 ∀p,ct=some p→(∃d,d∈dp∧d.1=p.id)∧(alive s dp=true→∃b o,ju s ι p (at_ b o)∧w.cell? (at_ b o)=some v∧(ι p.id).F b o)
theorem rF.none{w:World}{s:aq}{ι : Nat→bH}{dp:List (Nat×Nat)}{v:Value} : rF w s ι dp none v:=fun p h=>by cases h
def cj(w:World)(Z:ah)(s:aq)(ι : Nat→bH):a_→Value→Prop
 | .int k x,v=>v=.int k x
 | .bool x,v=>v=.bool x
 | .str x,v=>∃b:ByteArray,v=.string b∧b.data.toList=x
 | .raw x,v=>v=x∧∃A n c,x=.slice A n c
 | .nil _,v=>v=.slice none 0 0
 | .b1 t dp ct xs,v=>(∀d,d∈dp→ew s d)∧(∃A n c,v=.slice A n c) ∧
   (alive s dp=true→(ad.sl t).al w (Z.or (df ι dp)) .R xs [v] ah.none)∧rF w s ι dp ct v
 | .ag id sub,v=>known s id∧∃A n c,v=.slice A n c∧∀t em ver xs,(s.o id).core=.row t em ver xs→Hw (ι id) t.size sub xs.length A n c
def bM(w:World)(Z:ah)(s:aq)(ι : Nat→bH):List a_→List Value→Prop
 | [],[]=>True
 | c :: cs,v :: vs=>cj w Z s ι c v∧bM w Z s ι cs vs
 | _,_=>False
mutual
def aP(w:World)(Z:ah)(s:aq)(ι : Nat→bH):a7→Value→Prop
 | .aD,_=>True
 | .gone,v=>v=undef
 | .aT c,v=>cj w Z s ι c v
 | .iC cs,v=>∃vs,v=.agg vs.toArray∧bM w Z s ι cs vs
 | .ptr p,v=>known s p.id∧∃a,v=.pointer (some a)∧ju s ι p a
 | .di dp cs off,v=>(∀d,d∈dp→ew s d)∧∃b o vs,v=.pointer (some (at_ b (o+off))) ∧
   (alive s dp=true→bM w Z s ι cs vs∧b3 w b o vs∧∀j,j<cs.length→Z.or (df ι dp) b (o+j))
 | .j1,v=>v=.pointer none
 | .kS,v=>v=.slice none 0 0
 | .opt id o,v=>known s id∧((o<0∧v=.pointer none)∨(0≤o∧∃a,v=.pointer (some a)∧ju s ι ⟨id,some o.toNat,0⟩ a))
 | .ry t,v=>v.cells.toList.length=t.size∧∀u∈v.cells.toList,LM.ee u=true
 | .may b dp cs,v=>(b=false∧v=.pointer none)∨(b=true∧(∀d,d∈dp→ew s d)∧∃b o vs,v=.pointer (some (at_ b (o+0))) ∧
   (alive s dp=true→bM w Z s ι cs vs∧b3 w b o vs∧∀j,j<cs.length→Z.or (df ι dp) b (o+j)))
 | .fn f first ly,v=>∃us vs,v=.func (.func f) us.toArray vs.toArray∧aX w Z s ι first us∧aX w Z s ι ly vs
 | .pb l,v=>∃vs,v=.tuple vs.toArray∧aX w Z s ι l vs
def aX(w:World)(Z:ah)(s:aq)(ι : Nat→bH):List a7→List Value→Prop
 | [],vs=>vs=[]
 | x :: l,vs=>∃v bJ,vs=v :: bJ∧aP w Z s ι x v∧aX w Z s ι l bJ
end
def il(w:World)(Z:ah)(s:aq)(ι : Nat→bH)(i:bH):cn→Prop
 | .row t em _ xs=>(xs=[]∧i.cap=0)∨∃a,i.base=some a∧m9 w (t.al w Z em) t.size xs a i.cap i.F
 | .var _ cs=>∃a vs,i.base=some a∧a.spot=none∧bM w Z s ι cs vs∧b3 w a.block a.off vs ∧
   (∀j,j<cs.length→fk w a.block (a.off+j)∧i.F a.block (a.off+j))
 | _=>True
structure Seen where
 dp:List (Nat×Nat)
 b:Nat
 o:Nat
 vs:List Value
def tv(w:World)(Z:ah)(s:aq)(ι : Nat→bH)(e:Seen):Prop :=
 (∀d,d∈e.dp→ew s d)∧(alive s e.dp=true→b3 w e.b e.o e.vs∧∀j,j<e.vs.length→Z.or (df ι e.dp) e.b (e.o+j))
structure cC where
 n:Nat
 qm:List Value
 gc:List Seen
instance:Coe cC Nat:=⟨cC.n⟩
structure Inv(w0:World)(F0 Z0:ah)(n:cC)(s:aq)(a:Act)(w:World)(ι : Nat→bH)(Z:ah):Prop where
 ext:Ext w0 w F0
 dI:∀b o,Z b o→Z0 b o∨F0 b o∨w0.heap.size≤b
 rG:ah.sub Z0 Z
 i':∀b o,Z b o→b<w.heap.size
 fT:∀id,il w Z s ι (ι id) (s.o id)
 own:∀id,(s.o id).live→∀b o,(ι id).F b o→(F0 b o∨w0.heap.size≤b)∧b<w.heap.size
 apart:∀id ea,(s.o id).live→(s.o ea).live→id≠ea→ah.apart (ι id).F (ι ea).F
 c2:∀id,(s.o id).live→ah.apart (ι id).F Z
 tmps:∀k,aP w Z s ι (s.t k) (a.tmps.getD k undef)
 size:a.tmps.size=n.n
 ghost:aX w Z s ι s.g n.qm
 seen:∀e,e∈n.gc→tv w Z s ι e
 defers:a.defers=[]
theorem bM.len{w:World}{Z:ah}{s:aq}{ι : Nat→bH} : ∀ {cs:List a_} {vs:List Value},bM w Z s ι cs vs→vs.length=cs.length
 | [],[],_=>rfl
 | _ :: _,_ :: _,h=>by simp [bM.len h.2]
 | [],_ :: _,h=>h.elim
 | _ :: _,[],h=>h.elim
theorem cj.ee{w:World}{Z:ah}{s:aq}{ι : Nat→bH} : ∀ {c:a_} {v:Value},cj w Z s ι c v→LM.ee v=true
 | .int _ _,_,h=>by cases h;rfl
 | .bool _,_,h=>by cases h;rfl
 | .str _,_,⟨_,h,_⟩=>by cases h;rfl
 | .raw _,_,⟨h,_,_,_,h2⟩=>by subst h;subst h2;rfl
 | .nil _,_,h=>by cases h;rfl
 | .b1 _ _ _ _,_,⟨_,⟨_,_,_,h⟩,_,_⟩=>by cases h;rfl
 | .ag _ _,_,⟨_,_,_,_,h,_⟩=>by cases h;rfl
theorem bM.ee{w:World}{Z:ah}{s:aq}{ι : Nat→bH} : ∀ {cs:List a_} {vs:List Value},bM w Z s ι cs vs→∀v∈vs,LM.ee v=true
 | [],[],_=>by simp
 | _ :: _,_ :: _,h=>by
  intro v hv
  rcases List.mem_cons.1 hv with rfl | hv
  ·exact h.1.ee
  ·exact bM.ee h.2 v hv
 | [],_ :: _,h=>h.elim
 | _ :: _,[],h=>h.elim
theorem bM.append{w:World}{Z:ah}{s:aq}{ι : Nat→bH} : ∀ {cs ds:List a_} {us vs:List Value},bM w Z s ι cs us→bM w Z s ι ds vs→bM w Z s ι (cs++ds) (us++vs)
 | [],_,[],_,_,k=>k
 | _ :: _,_,_ :: _,_,h,k=>⟨h.1,bM.append h.2 k⟩
 | [],_,_ :: _,_,h,_=>h.elim
 | _ :: _,_,[],_,h,_=>h.elim
theorem bM.split{w:World}{Z:ah}{s:aq}{ι : Nat→bH} : ∀ {cs ds:List a_} {vs:List Value},bM w Z s ι (cs++ds) vs →
  ∃us aj,vs=us++aj∧us.length=cs.length∧bM w Z s ι cs us∧bM w Z s ι ds aj
 | [],ds,vs,h=>⟨[],vs,rfl,rfl,trivial,h⟩
 | c :: cs,ds,v :: vs,h=>by
  obtain ⟨us,aj,h1,h2,h3,h4⟩:=bM.split (cs:=cs) h.2
  exact⟨v :: us,aj,by rw [h1];rfl,by simp [h2],⟨h.1,h3⟩,h4⟩
 | _ :: _,_,[],h=>h.elim
theorem bM.drop{w:World}{Z:ah}{s:aq}{ι : Nat→bH} : ∀(k:Nat) {cs:List a_} {vs:List Value},bM w Z s ι cs vs→bM w Z s ι (cs.drop k) (vs.drop k)
 | 0,_,_,h=>h
 | _+1,[],[],h=>h
 | k+1,_ :: _,_ :: _,h=>bM.drop k h.2
 | _+1,[],_ :: _,h=>h.elim
 | _+1,_ :: _,[],h=>h.elim
theorem bM.take{w:World}{Z:ah}{s:aq}{ι : Nat→bH} : ∀(k:Nat) {cs:List a_} {vs:List Value},bM w Z s ι cs vs→bM w Z s ι (cs.take k) (vs.take k)
 | 0,_,_,h=>trivial
 | _+1,[],[],h=>h
 | k+1,_ :: _,_ :: _,h=>⟨h.1,bM.take k h.2⟩
 | _+1,[],_ :: _,h=>h.elim
 | _+1,_ :: _,[],h=>h.elim
theorem bM.mono{w w':World}{Z Z':ah}{s ar:aq}{ι bb:Nat→bH}(hc:∀c v,cj w Z s ι c v→cj w' Z' ar bb c v) :
  ∀ {cs:List a_} {vs:List Value},bM w Z s ι cs vs→bM w' Z' ar bb cs vs
 | [],[],_=>trivial
 | _ :: _,_ :: _,h=>⟨hc _ _ h.1,bM.mono hc h.2⟩
 | [],_ :: _,h=>h.elim
 | _ :: _,[],h=>h.elim
inductive ja:cn→bH→cn→bH→Prop
 | stay (o:cn) (i:bH):ja o i o i
 | made (o':cn) (i cz:bH):ja .none i o' cz
 | dead (o:cn) (i cz:bH):ja o i .dead cz
 | row (t:ad) (em gz:ba) (v eQ:Nat) (xs fU:List t.D) (i cz:bH) (hv:v<eQ) (hl:fU.length=xs.length) (hb:cz.base=i.base) (hc:cz.cap=i.cap):ja (.row t em v xs) i (.row t gz eQ fU) cz
 | var (v eQ:Nat) (cs cs':List a_) (i:bH) (hv:v<eQ) (hl:cs'.length=cs.length):ja (.var v cs) i (.var eQ cs') i
 | fl (o:cn) (i:bH) (hl:o.live):ja o i (.cf o) i
 | rH (t:ad) (em gz:ba) (v eQ:Nat) (xs fU:List t.D) (i cz:bH) (hv:v<eQ) (hl:fU.length=xs.length) (hb:cz.base=i.base) (hc:cz.cap=i.cap):ja (.cf (.row t em v xs)) i (.row t gz eQ fU) cz
 | yk (v eQ:Nat) (cs cs':List a_) (i cz:bH) (hv:v<eQ) (hb:cz.base=i.base):ja (.cf (.var v cs)) i (.var eQ cs') cz
def rI(s:aq)(ι : Nat→bH)(ar:aq)(bb:Nat→bH):Prop:=∀id,ja (s.o id) (ι id) (ar.o id) (bb id)
theorem rI.known{s ar:aq}{ι bb:Nat→bH}(h:rI s ι ar bb){id:Nat}(hk:known s id):known ar id:=by
 unfold LM.known at *
 have:=h id
 generalize s.o id=o at *;generalize ar.o id=o' at *;generalize ι id=i at *;generalize bb id=cz at *
 cases this <;> simp_all
theorem rI.dep{s ar:aq}{ι bb:Nat→bH}(h:rI s ι ar bb){d:Nat×Nat}(hk:ew s d):ew ar d:=by
 refine⟨h.known hk.1,?_⟩
 obtain ⟨k1,k2⟩:=hk
 unfold LM.known kv at *
 have:=h d.1
 generalize s.o d.1=o at *;generalize ar.o d.1=o' at *;generalize ι d.1=i at *;generalize bb d.1=cz at *
 cases this with
 | stay=>exact k2
 | made=>exact absurd rfl k1
 | dead=>exact .inl rfl
 | row t em gz v eQ xs fU i cz lE hl hb hc=>rcases k2 with h | h;exact absurd h (by simp);exact .inr (by dsimp only at *;omega)
 | var v eQ cs cs' i lE hl=>rcases k2 with h | h;exact absurd h (by simp);exact .inr (by dsimp only at *;omega)
 | fl o i hl =>
  rcases k2 with h | h
  ·rw [h] at hl;exact hl.elim
  ·cases o <;> first | exact hl.elim | exact .inr h
 | rH t em gz v eQ xs fU i cz lE hl hb hc=>rcases k2 with h | h;exact absurd h (by simp);exact .inr (by dsimp only at *;omega)
 | yk v eQ cs cs' i cz lE hb=>rcases k2 with h | h;exact absurd h (by simp);exact .inr (by dsimp only at *;omega)
theorem rI.stays{s ar:aq}{ι bb:Nat→bH}(h:rI s ι ar bb):∀ {dp:List (Nat×Nat)},(∀d,d∈dp→ew s d)→alive ar dp=true →
  alive s dp=true∧∀d,d∈dp→ar.o d.1=s.o d.1 ∧ bb d.1 = ι d.1∧(s.o d.1).live
 | [],_,_=>⟨rfl,by simp⟩
 | (id,v) :: dp,hk,ha=>by
  have fa:=fun ha=>rI.stays h (dp:=dp) (fun d ag=>hk d (by simp [ag])) ha
  obtain ⟨k1,k2⟩:=hk (id,v) (by simp)
  have ht:=h id
  simp only [LM.known,kv] at k1 k2
  unfold alive at ha ⊢
  generalize ho:s.o id=o at *
  generalize rJ:ar.o id=o' at *
  generalize hi : ι id=i at *
  generalize c4 : bb id=cz at *
  cases ht with
  | stay =>
   cases o with
   | row t em w xs =>
    dsimp only at ha ⊢
    cases hb:Nat.beq w v
    ·rw [hb] at ha;simp at ha
    ·rw [hb] at ha
     obtain ⟨bz,cc⟩:=fa ha
     refine⟨bz,fun d ag=>?_⟩
     rcases List.mem_cons.1 ag with rfl | ag
     ·exact⟨by rw [ho,rJ],by rw [hi,c4],by rw [ho];trivial⟩
     ·exact cc d ag
   | var w cs =>
    dsimp only at ha ⊢
    cases hb:Nat.beq w v
    ·rw [hb] at ha;simp at ha
    ·rw [hb] at ha
     obtain ⟨bz,cc⟩:=fa ha
     refine⟨bz,fun d ag=>?_⟩
     rcases List.mem_cons.1 ag with rfl | ag
     ·exact⟨by rw [ho,rJ],by rw [hi,c4],by rw [ho];trivial⟩
     ·exact cc d ag
   | none=>simp at ha
   | dead=>simp at ha
   | cf=>simp at ha
  | made=>exact absurd rfl k1
  | dead=>simp at ha
  | fl=>simp at ha
  | rH t em gz w w' xs fU i cz hv hl hb hc =>
   dsimp only at ha
   cases hb:Nat.beq w' v
   ·rw [hb] at ha;simp at ha
   ·have:=Nat.eq_of_beq_eq_true hb;simp at k2;omega
  | yk w w' cs cs' i cz hv hb =>
   dsimp only at ha
   cases hb:Nat.beq w' v
   ·rw [hb] at ha;simp at ha
   ·have:=Nat.eq_of_beq_eq_true hb;simp at k2;omega
  | row t em gz w w' xs fU i cz hv hl hb hc =>
   dsimp only at ha
   cases hb:Nat.beq w' v
   ·rw [hb] at ha;simp at ha
   ·have:=Nat.eq_of_beq_eq_true hb;simp at k2;omega
  | var w w' cs cs' i hv hl =>
   dsimp only at ha
   cases hb:Nat.beq w' v
   ·rw [hb] at ha;simp at ha
   ·have:=Nat.eq_of_beq_eq_true hb;simp at k2;omega
def OW(s:aq)(ι : Nat→bH)(ar:aq)(bb:Nat→bH)(Z:ah):ah :=
 fun b o=>Z b o∨∃id,(s.o id).live∧ar.o id=s.o id ∧ bb id = ι id∧(ι id).F b o
section
variable{w w':World}{Z Z':ah}{s ar:aq}{ι bb:Nat→bH}
structure eI(w:World)(Z:ah)(s:aq)(ι : Nat→bH)(w':World)(Z':ah)(ar:aq)(bb:Nat→bH):Prop where
 turns:rI s ι ar bb
 dI:ah.sub Z Z'
 same:b4 w w' (OW s ι ar bb Z)
theorem eI.df(h:eI w Z s ι w' Z' ar bb){dp:List (Nat×Nat)}(hk:∀d,d∈dp→ew s d)(ha:alive ar dp=true) :
  b4 w w' (Z.or (df ι dp))∧ah.sub (Z.or (LM.df ι dp)) (Z'.or (LM.df bb dp)):=by
 obtain ⟨h1,h2⟩:=h.turns.stays hk ha
 refine⟨h.same.mono ?_,?_⟩
 ·rintro b o (hz | ⟨d,ag,hf⟩)
  ·exact .inl hz
  ·exact .inr ⟨d.1,(h2 d ag).2.2,(h2 d ag).1,(h2 d ag).2.1,hf⟩
 ·rintro b o (hz | ⟨d,ag,hf⟩)
  ·exact .inl (h.dI b o hz)
  ·exact .inr ⟨d,ag,by rw [(h2 d ag).2.1];exact hf⟩
theorem ju.move(h:eI w Z s ι w' Z' ar bb){p:Place}{a:Addr}(hk:known s p.id)(au:ju s ι p a):ju ar bb p a:=by
 obtain ⟨hs,au⟩:=au
 refine⟨hs,?_⟩
 have ht:=h.turns p.id
 unfold known at hk
 generalize s.o p.id=o at *;generalize ar.o p.id=o' at *;generalize ι p.id=i at *;generalize bb p.id=cz at *
 cases ht with
 | stay=>exact au
 | made=>exact absurd rfl hk
 | dead=>trivial
 | row t em gz v eQ xs fU i cz hv hl hb hc=>obtain ⟨k,h1,h2,h3⟩:=au;exact⟨k,h1,by omega,by rw [hb];exact h3⟩
 | var=>exact au
 | fl o i hl=>cases o <;> first | exact hl.elim | exact au
 | rH t em gz v eQ xs fU i cz hv hl hb hc=>obtain ⟨k,h1,h2,h3⟩:=au;exact⟨k,h1,by omega,by rw [hb];exact h3⟩
 | yk v eQ cs cs' i cz hv hb=>obtain ⟨h1,h2⟩:=au;exact⟨h1,by rw [hb];exact h2⟩
theorem rF.move(h:eI w Z s ι w' Z' ar bb){dp:List (Nat×Nat)}{ct:Option Place}{v:Value}(hk:∀d,d∈dp→ew s d)(ho:rF w s ι dp ct v):rF w' ar bb dp ct v:=by
 intro p au
 obtain ⟨⟨d,ag,b6⟩,h2⟩:=ho p au
 refine⟨⟨d,ag,b6⟩,fun ha=>?_⟩
 obtain ⟨c7,eJ⟩:=h.df hk ha
 obtain ⟨s1,s2⟩:=h.turns.stays hk ha
 obtain ⟨b,o,k1,k2,k3⟩:=h2 s1
 refine⟨b,o,k1.move h (b6 ▸ (hk d ag).1),?_,?_⟩
 ·rw [(c7 b o (.inr ⟨d,ag,b6 ▸ k3⟩)).1];exact k2
 ·rw [← b6,(s2 d ag).2.1,b6];exact k3
theorem cj.move(h:eI w Z s ι w' Z' ar bb):∀ {c:a_} {v:Value},cj w Z s ι c v→cj w' Z' ar bb c v
 | .int _ _,_,hc=>hc
 | .bool _,_,hc=>hc
 | .str _,_,hc=>hc
 | .raw _,_,hc=>hc
 | .nil _,_,hc=>hc
 | .b1 t dp ct xs,v,⟨h1,h2,h3,h4⟩=>by
  refine⟨fun d ag=>h.turns.dep (h1 d ag),h2,fun ha=>?_,h4.move h h1⟩
  obtain ⟨a,b⟩:=h.df h1 ha
  exact ad.al.mono b _ _ (fun _ _ h=>h) (ad.al.same a _ _ (fun _ _ h=>h.elim) (h3 (h.turns.stays h1 ha).1))
 | .ag id sub,v,⟨h1,A,n,c,hv,h2⟩=>by
  refine⟨h.turns.known h1,A,n,c,hv,fun t em ver xs ho=>?_⟩
  have ht:=h.turns id
  unfold LM.known at h1
  generalize vY:s.o id=o at *
  generalize hii : ι id=i at *
  generalize ak4:ar.o id=o' at *
  generalize ak5 : bb id=cz at *
  cases ht with
  | stay=>exact h2 _ _ _ _ ho
  | made=>exact absurd rfl h1
  | dead=>simp [cn.core] at ho
  | row t em gz v eQ xs fU i cz hv hl hb hc =>
   simp only [cn.core,cn.row.injEq] at ho
   obtain ⟨rfl,_,_,ho⟩:=ho
   have:=eq_of_heq ho;subst this
   obtain ⟨c7,eJ,iD,iE,iF⟩:=h2 _ _ _ _ rfl
   exact⟨by rw [hl];exact c7,by rw [hl];exact eJ,iD,by rw [hc];exact iE,by rw [hb];exact iF⟩
  | var=>simp [cn.core] at ho
  | fl o i hl=>exact h2 _ _ _ _ (by cases o <;> first | exact hl.elim | exact ho)
  | rH t em gz v eQ xs fU i cz hv hl hb hc =>
   simp only [cn.core,cn.row.injEq] at ho
   obtain ⟨rfl,_,_,ho⟩:=ho
   have:=eq_of_heq ho;subst this
   obtain ⟨c7,eJ,iD,iE,iF⟩:=h2 _ _ _ _ rfl
   exact⟨by rw [hl];exact c7,by rw [hl];exact eJ,iD,by rw [hc];exact iE,by rw [hb];exact iF⟩
  | yk=>simp [cn.core] at ho
theorem bM.move(h:eI w Z s ι w' Z' ar bb){cs:List a_}{vs:List Value}(hc:bM w Z s ι cs vs):bM w' Z' ar bb cs vs :=
 bM.mono (fun _ _=>cj.move h) hc
mutual
theorem aP.move(h:eI w Z s ι w' Z' ar bb):∀ {x:a7} {v:Value},aP w Z s ι x v→aP w' Z' ar bb x v
 | .aD,_,_=>by simp only [aP]
 | .gone,_,hx=>by simpa only [aP] using hx
 | .aT c,v,hx=>by simp only [aP] at hx ⊢;exact hx.move h
 | .iC cs,v,hx=>by simp only [aP] at hx ⊢;obtain ⟨vs,h1,h2⟩:=hx;exact⟨vs,h1,h2.move h⟩
 | .ptr p,v,hx=>by
  simp only [aP] at hx ⊢;obtain ⟨h1,a,h2,h3⟩:=hx;exact⟨h.turns.known h1,a,h2,h3.move h h1⟩
 | .di dp cs off,v,hx=>by
  simp only [aP] at hx ⊢
  obtain ⟨h1,b,o,vs,h2,h3⟩:=hx
  refine⟨fun d ag=>h.turns.dep (h1 d ag),b,o,vs,h2,fun ha=>?_⟩
  obtain ⟨c7,eJ⟩:=h.df h1 ha
  obtain ⟨bz,cc,gj⟩:=h3 (h.turns.stays h1 ha).1
  exact⟨bz.move h,c7.Bk (fun i hi=>gj i (by rw [← bz.len];exact hi)) cc,fun j hj=>eJ _ _ (gj j hj)⟩
 | .ry t,v,hx=>by simpa only [aP] using hx
 | .may q dp cs,v,hx=>by
  simp only [aP] at hx ⊢
  rcases hx with hx | ⟨h0,h1,b,o,vs,h2,h3⟩
  ·exact .inl hx
  refine .inr ⟨h0,fun d ag=>h.turns.dep (h1 d ag),b,o,vs,h2,fun ha=>?_⟩
  obtain ⟨c7,eJ⟩:=h.df h1 ha
  obtain ⟨bz,cc,gj⟩:=h3 (h.turns.stays h1 ha).1
  exact⟨bz.move h,c7.Bk (fun i hi=>gj i (by rw [← bz.len];exact hi)) cc,fun j hj=>eJ _ _ (gj j hj)⟩
 | .j1,_,hx=>by simpa only [aP] using hx
 | .kS,_,hx=>by simpa only [aP] using hx
 | .opt id o,v,hx=>by
  simp only [aP] at hx ⊢
  obtain ⟨h1,h2⟩:=hx
  exact⟨h.turns.known h1,h2.imp (fun x=>x) fun⟨h3,a,h4,a8⟩=>⟨h3,a,h4,a8.move h h1⟩⟩
 | .fn f l m,v,hx=>by
  simp only [aP] at hx ⊢
  obtain ⟨us,vs,h1,h2,h3⟩:=hx
  exact⟨us,vs,h1,aX.move h h2,aX.move h h3⟩
 | .pb l,v,hx=>by
  simp only [aP] at hx ⊢
  obtain ⟨vs,h1,h2⟩:=hx
  exact⟨vs,h1,aX.move h h2⟩
theorem aX.move(h:eI w Z s ι w' Z' ar bb):∀ {x:List a7} {v:List Value},aX w Z s ι x v→aX w' Z' ar bb x v
 | [],v,hx=>by simpa only [aX] using hx
 | x :: l,v,hx=>by
  simp only [aX] at hx ⊢
  obtain ⟨u,us,h1,h2,h3⟩:=hx
  exact⟨u,us,h1,aP.move h h2,aX.move h h3⟩
end
theorem tv.move(h:eI w Z s ι w' Z' ar bb){e:Seen}(he:tv w Z s ι e):tv w' Z' ar bb e:=by
 obtain ⟨h1,h2⟩:=he
 refine⟨fun d ag=>h.turns.dep (h1 d ag),fun ha=>?_⟩
 obtain ⟨c7,eJ⟩:=h.df h1 ha
 obtain ⟨bz,cc⟩:=h2 (h.turns.stays h1 ha).1
 exact⟨c7.Bk cc bz,fun j hj=>eJ _ _ (cc j hj)⟩
theorem il.move(h:eI w Z s ι w' Z' ar bb){id:Nat}(hl:(s.o id).live→ar.o id=s.o id ∧ bb id = ι id){o:cn}(ho:s.o id=o)(hs:il w Z s ι (ι id) o):il w' Z' ar bb (ι id) o:=by
 cases o with
 | none=>trivial
 | dead=>trivial
 | cf=>trivial
 | row t em ver xs =>
  have b9:(s.o id).live:=by rw [ho];trivial
  have hs1:b4 w w' (ι id).F:=h.same.mono fun b o hf=>.inr ⟨id,b9,(hl b9).1,(hl b9).2,hf⟩
  rcases hs with hs | ⟨a,h1,h2⟩
  ·exact .inl hs
  ·refine .inr ⟨a,h1,h2.spot,h2.cap,fun j hj=>hs1.kt (h2.inF j hj) (h2.wr j hj),h2.inF,?_⟩
   obtain ⟨G,g1,g2,g3⟩:=h2.row
   have hle:xs.length*t.size≤(ι id).cap*t.size:=Nat.mul_le_mul_right _ h2.cap
   exact⟨G,g1.imp (fun y vs dj hG hr=>ad.al.mono h.dI _ _ (fun _ _ h=>h) (ad.al.same (h.same.mono fun b o hz=>.inl hz) _ _ (hs1.mono fun b o aA=>g3 b o (hG b o aA)) hr)) (fun j hj=>(hs1 _ _ (h2.inF j (by omega))).1),g2,g3⟩
 | var ver cs =>
  have b9:(s.o id).live:=by rw [ho];trivial
  have hs1:b4 w w' (ι id).F:=h.same.mono fun b o hf=>.inr ⟨id,b9,(hl b9).1,(hl b9).2,hf⟩
  obtain ⟨a,vs,h1,h2,h3,h4,a8⟩:=hs
  exact⟨a,vs,h1,h2,h3.move h,hs1.Bk (fun i hi=>(a8 i (by rw [← h3.len];exact hi)).2) h4,fun j hj=>⟨hs1.qg (a8 j hj).2 (a8 j hj).1,(a8 j hj).2⟩⟩
end
end Go.LM
namespace Go.LM
section
variable{w0:World}{F0 Z0:ah}{n:cC}{s ar:aq}{a b7:Act}{w w':World}{ι bb:Nat→bH}{Z Z':ah}
theorem Inv.next(h:Inv w0 F0 Z0 n s a w ι Z)(hm:eI w Z s ι w' Z' ar bb){S:ah}(hx:Ext w w' S)
  (dm:∀b o,S b o→F0 b o∨w0.heap.size≤b)
  (hz:∀b o,Z' b o→Z b o∨((F0 b o∨w0.heap.size≤b)∧b<w'.heap.size))
  (ho:∀id,(ar.o id).live→¬(ar.o id=s.o id ∧ bb id = ι id)→il w' Z' ar bb (bb id) (ar.o id) ∧
   (∀b o,(bb id).F b o→(F0 b o∨w0.heap.size≤b)∧b<w'.heap.size)∧(∀ea,(ar.o ea).live→id≠ea→ah.apart (bb id).F (bb ea).F))
  (oe:∀id,(ar.o id).live→ah.apart (bb id).F Z')
  (ht:∀k,aP w' Z' ar bb (ar.t k) (b7.tmps.getD k undef))
  (hn:b7.tmps.size=n) (ag:b7.defers=[]) (yl:ar.g=s.g:=by rfl):Inv w0 F0 Z0 n ar b7 w' bb Z':=by
 have hsz:=hx.size
 refine⟨?_,?_,?_,?_,?_,?_,?_,oe,ht,hn,by rw [yl];exact aX.move hm h.ghost,fun e he=>(h.seen e he).move hm,ag⟩
 ·refine h.ext.trans' hx dm
 ·intro b o hb
  rcases hz b o hb with h1 | h1
  ·exact h.dI b o h1
  ·exact .inr h1.1
 ·exact fun b o hb=>hm.dI b o (h.rG b o hb)
 ·intro b o hb
  rcases hz b o hb with h1 | h1
  ·exact Nat.lt_of_lt_of_le (h.i' b o h1) hsz
  ·exact h1.2
 ·intro id
  by_cases hl:(ar.o id).live
  ·by_cases hst:ar.o id=s.o id ∧ bb id = ι id
   ·have:=il.move hm (id:=id) (fun _=>hst) rfl (h.fT id)
    rw [hst.2,hst.1];exact this
   ·exact(ho id hl hst).1
  ·cases hh:ar.o id with
   | none=>trivial
   | dead=>trivial
   | cf=>trivial
   | row=>rw [hh] at hl;exact absurd trivial hl
   | var=>rw [hh] at hl;exact absurd trivial hl
 ·intro id hl b o hf
  by_cases hst:ar.o id=s.o id ∧ bb id = ι id
  ·rw [hst.2] at hf
   have:=h.own id (hst.1 ▸ hl) b o hf
   exact⟨this.1,Nat.lt_of_lt_of_le this.2 hsz⟩
  ·exact(ho id hl hst).2.1 b o hf
 ·intro id ea hl gk hne
  by_cases hst:ar.o id=s.o id ∧ bb id = ι id
  ·by_cases qn:ar.o ea=s.o ea ∧ bb ea = ι ea
   ·rw [hst.2,qn.2];exact h.apart id ea (hst.1 ▸ hl) (qn.1 ▸ gk) hne
   ·exact fun b o h1 h2=>(ho ea gk qn).2.2 id hl (Ne.symm hne) b o h2 h1
  ·exact(ho id hl hst).2.2 ea gk hne
theorem b4.jb{S T:ah}(hx:Ext w w' S)(bX:∀b o,T b o→b<w.heap.size)(ha:ah.apart T S):b4 w w' T :=
 fun b o ht=>⟨hx.cell (bX b o ht) (fun hs=>ha b o ht hs),hx.frozen (bX b o ht)⟩
theorem Inv.rK(h:Inv w0 F0 Z0 n s a w ι Z):∀b o,OW s ι ar bb Z b o→b<w.heap.size:=by
 rintro b o (hz | ⟨id,hl,_,_,hf⟩)
 ·exact h.i' b o hz
 ·exact(h.own id hl b o hf).2
theorem cR{α : Type}{f:Nat → α}{i j:Nat}{v : α}(h:i≠j):bU f i v j=f j:=rz (Ne.symm h)
theorem Inv.tmp(h:Inv w0 F0 Z0 n s a w ι Z)(ho:ar.o=s.o)(ht:∀k,aP w Z ar ι (ar.t k) (b7.tmps.getD k undef))
  (hn:b7.tmps.size=n) (ag:b7.defers=[]) (yl:ar.g=s.g:=by rfl):Inv w0 F0 Z0 n ar b7 w ι Z:=by
 refine h.next (S:=ah.none) ⟨fun id=>by rw [ho];exact .stay _ _,fun _ _ h=>h,b4.refl _ _⟩ (Ext.refl _ _) (fun _ _ h=>h.elim) (fun _ _ h=>.inl h) ?_ ?_ ht hn ag yl
 ·intro id _ hne;exact absurd ⟨by rw [ho],rfl⟩ hne
 ·intro id hl;exact h.c2 id (by rwa [ho] at hl)
theorem Hy(ho:ar.o=s.o):eI w Z s ι w Z ar ι :=⟨fun id=>by rw [ho];exact .stay _ _,fun _ _ h=>h,b4.refl _ _⟩
theorem Hz(t:Array Value)(d k:Nat)(u:Value)(ag:d<t.size):(t.setIfInBounds d u).getD k undef=if d=k then u else t.getD k undef:=by
 simp only [Array.getD_eq_getD_getElem?,Array.getElem?_setIfInBounds]
 by_cases hk:d=k
 ·subst hk;simp [ag]
 ·simp [hk]
theorem Inv.set(h:Inv w0 F0 Z0 n s a w ι Z){d:Nat}{v:a7}{u:Value}(hv:aP w Z s ι v u)(ag:d<n) :
  Inv w0 F0 Z0 n (s.set d v) (a.put (some d) u) w ι Z:=by
 have hm:eI w Z s ι w Z (s.set d v) ι := Hy rfl
 refine h.tmp rfl (fun k=>?_) (by simpa [Act.put] using h.size) (by simpa [Act.put] using h.defers)
 show aP w Z (s.set d v) ι (bU s.t d v k) ((a.tmps.setIfInBounds d u).getD k undef)
 rw [Hz _ _ _ _ (by rw [h.size];exact ag)]
 by_cases hk:d=k
 ·subst hk;rw [cB,if_pos rfl];exact hv.move hm
 ·rw [cR hk,if_neg hk];exact(h.tmps k).move hm
theorem Inv.dst(h:Inv w0 F0 Z0 n s a w ι Z){d:Option Nat}{v:a7}{u:Value}(hv:aP w Z s ι v u)(ag:∀k,d=some k→k<n) :
  Inv w0 F0 Z0 n (s.dst d v) (a.put d u) w ι Z:=by
 cases d with
 | none=>exact h
 | some d=>exact h.set hv (ag d rfl)
theorem Inv.world(h:Inv w0 F0 Z0 n s a w ι Z)(hx:Ext w w' ah.none):Inv w0 F0 Z0 n s a w' ι Z:=by
 have hm:eI w Z s ι w' Z s ι :=⟨fun id=>.stay _ _,fun _ _ h=>h,b4.jb hx h.rK (fun _ _ _ h=>h)⟩
 refine h.next hm hx (fun _ _ h=>h.elim) (fun _ _ h=>.inl h) ?_ h.c2 (fun k=>(h.tmps k).move hm) h.size h.defers
 intro id _ hne;exact absurd ⟨rfl,rfl⟩ hne
theorem Inv.drew(h:Inv w0 F0 Z0 n s a w ι Z)(m:Nat):Inv w0 F0 Z0 n s a { w with drawn:=m } ι Z:=h.world (Ext.drew _ _ _)
theorem OX(h:Inv w0 F0 Z0 n s a w ι Z){id:Nat}(b6:s.o id=.none)(hx:Ext w w' ah.none)(o:cn)(i:bH) :
  eI w Z s ι w' Z (s.bR id o) (bU ι id i):=by
 refine⟨fun j=>?_,fun _ _ h=>h,b4.jb hx h.rK (fun _ _ _ h=>h)⟩
 show ja (s.o j) (ι j) (bU s.o id o j) (bU ι id i j)
 by_cases hj:id=j
 ·subst hj;rw [b6];exact .made _ _ _
 ·rw [cR hj,cR hj];exact .stay _ _
theorem Inv.new(h:Inv w0 F0 Z0 n s a w ι Z){id:Nat}(b6:s.o id=.none)(hx:Ext w w' ah.none){o:cn}{i:bH}
  (cM:il w' Z (s.bR id o) (bU ι id i) i o) (hF:∀b o,i.F b o→w.heap.size≤b∧b<w'.heap.size) :
  Inv w0 F0 Z0 n (s.bR id o) a w' (bU ι id i) Z:=by
 have hm:=OX h b6 hx o i
 have hsz:=h.ext.size
 refine h.next hm hx (fun _ _ h=>h.elim) (fun _ _ h=>.inl h) ?_ ?_ (fun k=>(h.tmps k).move hm) h.size h.defers
 ·intro j hl hne
  by_cases hj:id=j
  ·subst hj
   rw [cB]
   refine⟨by show il _ _ _ _ _ (bU s.o id o id);rw [cB];exact cM,fun b o hf=>⟨.inr (by have:=(hF b o hf).1;omega),(hF b o hf).2⟩,fun kX gk jI b o h1 h2=>?_⟩
   rw [cR jI] at h2
   have dW:(s.o kX).live:=by
    have:(bU s.o id _ kX).live:=gk
    rwa [cR jI] at this
   have:=(h.own kX dW b o h2).2
   have:=(hF b o h1).1
   omega
  ·exact absurd ⟨cR hj,cR hj⟩ hne
 ·intro j hl b o h1 h2
  by_cases hj:id=j
  ·subst hj
   rw [cB] at h1
   have:=(hF b o h1).1
   have:=h.i' b o h2
   omega
  ·rw [cR hj] at h1
   have dW:(s.o j).live:=by
    have:(bU s.o id _ j).live:=hl
    rwa [cR hj] at this
   exact h.c2 j dW b o h1 h2
theorem HA{id j:Nat}(hl:((s.bR id .dead).o j).live):id≠j∧(s.o j).live:=by
 have h:(bU s.o id cn.dead j).live:=hl
 by_cases hj:id=j
 ·subst hj;rw [cB] at h;exact h.elim
 ·rw [cR hj] at h;exact⟨hj,h⟩
theorem Yf(h:Inv w0 F0 Z0 n s a w ι Z)(id:Nat)(hZ:ah.sub Z Z'):eI w Z s ι w Z' (s.bR id .dead) ι := by
 refine⟨fun j=>?_,hZ,b4.refl _ _⟩
 show ja (s.o j) (ι j) (bU s.o id cn.dead j) (ι j)
 by_cases hj:id=j
 ·subst hj;rw [cB];exact .dead _ _ _
 ·rw [cR hj];exact .stay _ _
theorem Inv.take(h:Inv w0 F0 Z0 n s a w ι Z)(id:Nat)(hZ:ah.sub Z Z')(hz:∀b o,Z' b o→Z b o∨((s.o id).live∧(ι id).F b o)) :
  Inv w0 F0 Z0 n (s.bR id .dead) a w ι Z':=by
 have hm:=Yf h id hZ
 refine h.next hm (Ext.refl _ ah.none) (fun _ _ h=>h.elim) ?_ ?_ ?_ (fun k=>(h.tmps k).move hm) h.size h.defers
 ·intro b o hb
  rcases hz b o hb with h1 | ⟨h1,h2⟩
  ·exact .inl h1
  ·exact .inr (h.own id h1 b o h2)
 ·intro j hl hne
  obtain ⟨hj,dW⟩:=HA hl
  exact absurd ⟨cR hj,rfl⟩ hne
 ·intro j hl b o h1 h2
  obtain ⟨hj,dW⟩:=HA hl
  rcases hz b o h2 with h3 | ⟨h3,h4⟩
  ·exact h.c2 j dW b o h1 h3
  ·exact h.apart id j h3 dW hj b o h4 h1
end
end Go.LM
namespace Go.LM
theorem Row.drop{α : Type}{w:World}{R : α → List Value→ah→Prop}{size:Nat} : ∀(k:Nat) {x:List α} {b o:Nat} {F:ah},Row w R size x b o F→Row w R size (x.drop k) b (o+k*size) F
 | 0,x,b,o,F,h=>by simpa using h
 | k+1,[],b,o,F,h=>trivial
 | k+1,y :: x,b,o,F,⟨vs,G,H,h1,h2,h3,h4,a8,bl,bK⟩=>by
  have:=Row.drop k h4
  rw [show o+size+k*size=o +(k+1)*size by rw [Nat.add_one_mul];omega] at this
  exact this.mono bK
theorem Row.take{α : Type}{w:World}{R : α → List Value→ah→Prop}{size:Nat} : ∀(k:Nat) {x:List α} {b o:Nat} {F:ah},Row w R size x b o F→Row w R size (x.take k) b o F
 | 0,x,b,o,F,h=>by rw [List.take_zero];trivial
 | k+1,[],b,o,F,h=>trivial
 | k+1,y :: x,b,o,F,⟨vs,G,H,h1,h2,h3,h4,a8,bl,bK⟩=>⟨vs,G,H,h1,h2,h3,Row.take k h4,a8,bl,bK⟩
theorem g_{u t:ad}{xs:List u.D}{x:List t.D}(h:eG (.sl u) (.sl t) xs=some x):∃e:u=t,x=e ▸ xs:=by
 obtain ⟨e,hx⟩:=Be h
 injection e with e
 subst e
 exact⟨rfl,hx⟩
section
variable{w0:World}{F0 Z0:ah}{n:cC}{s ar:aq}{a:Act}{w:World}{ι : Nat→bH}{Z Z':ah}
structure bL(w0:World)(F0:ah)(s:aq)(w:World)(ι : Nat→bH)(Z F:ah):Prop where
 own:∀b o,F b o→(F0 b o∨w0.heap.size≤b)∧b<w.heap.size
 apart:∀id,(s.o id).live→ah.apart F (ι id).F
 c2:ah.apart F Z
theorem bL.none:bL w0 F0 s w ι Z ah.none:=⟨fun _ _ h=>h.elim,fun _ _ _ _ h=>h.elim,fun _ _ h=>h.elim⟩
structure fb(s:aq)(ι : Nat→bH)(Z:ah)(ar:aq)(Z':ah):Prop where
 o:∀id,ar.o id=s.o id∨((s.o id).live∧ar.o id=.dead)
 t:ar.t=s.t
 g:ar.g=s.g
 dI:ah.sub Z Z'
 pg:∀b o,Z' b o→Z b o∨∃id,(s.o id).live∧ar.o id=.dead∧(ι id).F b o
theorem fb.refl:fb s ι Z s Z:=⟨fun _=>.inl rfl,rfl,rfl,fun _ _ h=>h,fun _ _ h=>.inl h⟩
theorem fb.trans{s2:aq}{bN:ah}(h:fb s ι Z ar Z')(k:fb ar ι Z' s2 bN):fb s ι Z s2 bN:=by
 refine⟨fun id=>?_,k.t.trans h.t,k.g.trans h.g,fun b o hz=>k.dI b o (h.dI b o hz),fun b o hz=>?_⟩
 ·rcases k.o id with h1 | ⟨h0,h1⟩
  ·rw [h1];exact h.o id
  ·rcases h.o id with h2 | ⟨_,h2⟩
   ·exact .inr ⟨h2 ▸ h0,h1⟩
   ·rw [h2] at h0;exact h0.elim
 ·rcases k.pg b o hz with h1 | ⟨id,h1,h2,h3⟩
  ·rcases h.pg b o h1 with h1 | ⟨id,h1,h2,h3⟩
   ·exact .inl h1
   ·refine .inr ⟨id,h1,?_,h3⟩
    rcases k.o id with h4 | ⟨_,h4⟩
    ·rw [h4,h2]
    ·exact h4
  ·rcases h.o id with h4 | ⟨_,h4⟩
   ·exact .inr ⟨id,h4 ▸ h1,h2,h3⟩
   ·rw [h4] at h1;exact h1.elim
theorem fb.ei(h:fb s ι Z ar Z'):eI w Z s ι w Z' ar ι := by
 refine⟨fun id=>?_,h.dI,b4.refl _ _⟩
 rcases h.o id with h1 | ⟨_,h1⟩
 ·rw [h1];exact .stay _ _
 ·rw [h1];exact .dead _ _ _
theorem fb.live(h:fb s ι Z ar Z'){id:Nat}(hl:(ar.o id).live):(s.o id).live∧ar.o id=s.o id:=by
 rcases h.o id with h1 | ⟨_,h1⟩
 ·exact⟨h1 ▸ hl,h1⟩
 ·rw [h1] at hl;exact hl.elim
theorem bL.shrink{F:ah}(hf:bL w0 F0 s w ι Z F)(h:fb s ι Z ar Z'):bL w0 F0 ar w ι Z' F:=by
 refine⟨hf.own,fun id hl=>hf.apart id (h.live hl).1,fun b o h1 h2=>?_⟩
 rcases h.pg b o h2 with h3 | ⟨id,h3,_,h4⟩
 ·exact hf.c2 b o h1 h3
 ·exact hf.apart id h3 b o h1 h4
theorem bL.or{F G:ah}(hf:bL w0 F0 s w ι Z F)(aA:bL w0 F0 s w ι Z G):bL w0 F0 s w ι Z (F.or G) :=
 ⟨fun b o h=>h.elim (hf.own b o) (aA.own b o),fun id hl b o h=>h.elim (hf.apart id hl b o) (aA.apart id hl b o),fun b o h=>h.elim (hf.c2 b o) (aA.c2 b o)⟩
theorem Inv.v7(h:Inv w0 F0 Z0 n s a w ι Z){id:Nat}(hl:(s.o id).live):bL w0 F0 (s.bR id .dead) w ι Z (ι id).F :=
 ⟨h.own id hl,fun j hj=>by obtain ⟨h1,h2⟩:=HA hj;exact h.apart id j hl h2 h1,h.c2 id hl⟩
theorem v8(id:Nat)(hl:(s.o id).live):fb s ι Z (s.bR id .dead) Z:=by
 refine⟨fun j=>?_,rfl,rfl,fun _ _ h=>h,fun _ _ h=>.inl h⟩
 by_cases hj:id=j
 ·subst hj;exact .inr ⟨hl,cB _ _ _⟩
 ·exact .inl (cR hj)
theorem OY(h:Inv w0 F0 Z0 n s a w ι Z){id:Nat}(hl:(s.o id).live):fb s ι Z (s.bR id .dead) (Z.or (ι id).F):=by
 refine⟨fun j=>?_,rfl,rfl,fun _ _ h=>.inl h,fun b o hz=>?_⟩
 ·by_cases hj:id=j
  ·subst hj;exact .inr ⟨hl,cB _ _ _⟩
  ·exact .inl (cR hj)
 ·rcases hz with h1 | h1
  ·exact .inl h1
  ·exact .inr ⟨id,hl,cB _ _ _,h1⟩
theorem v_{i:bH}{t:ad}{em:ba}{xs:List t.D}{sub:Option (Nat×Nat)}{A:Option Addr}{m c:Nat}{ver:Nat}
  (ho:il w Z s ι i (.row t em ver xs)) (hh:Hw i t.size sub xs.length A m c) :
  (ad.sl t).al w Z (.O em) (kT sub xs) [.slice A m c] i.F:=by
 obtain ⟨hn,hfit,hle,hcap,ck⟩:=hh
 have hlen:(kT sub xs).length=m:=by
  cases sub with
  | none=>simp [kT,hn]
  | some p=>obtain ⟨lo,k⟩:=p;simp only [kT,part,List.length_take,List.length_drop,eh] at *;omega
 simp only [ad.al]
 refine⟨A,c,by rw [hlen],?_⟩
 rcases ck with h0 | ⟨a0,hb,hA⟩
 ·exact .inl ⟨List.eq_nil_of_length_eq_zero (by omega),h0⟩
 ·rcases ho with⟨hx,h0⟩ | ⟨v',dJ,hr⟩
  ·refine .inl ⟨List.eq_nil_of_length_eq_zero (by omega),by omega⟩
  ·rw [hb] at dJ
   obtain rfl:=aU dJ
   refine .inr ⟨_,hA,rfl,by rw [hlen];exact hle,fun j hj=>?_,fun j hj=>?_,?_⟩
   ·have:=hr.wr (eh sub*t.size+j) (by
     have:(eh sub+c)*t.size≤i.cap*t.size:=Nat.mul_le_mul_right _ hcap
     rw [Nat.add_mul] at this;omega)
    rwa [← Nat.add_assoc] at this
   ·have:=hr.inF (eh sub*t.size+j) (by
     have:(eh sub+c)*t.size≤i.cap*t.size:=Nat.mul_le_mul_right _ hcap
     rw [Nat.add_mul] at this;omega)
    rwa [← Nat.add_assoc] at this
   ·obtain ⟨G,g1,g2,g3⟩:=hr.row
    refine⟨G,?_,fun j hj=>?_,g3⟩
    ·cases sub with
     | none=>simpa [kT,eh] using g1
     | some p=>obtain ⟨lo,k⟩:=p;exact(g1.drop lo).take k
    ·have:=g2 (eh sub*t.size+j) (by
      have:(eh sub+c)*t.size≤i.cap*t.size:=Nat.mul_le_mul_right _ hcap
      rw [Nat.add_mul] at this;omega)
     rwa [← Nat.add_assoc] at this
theorem HB{t:ad}{c:a_}{xs:List t.D}{v:Value}(h:Inv w0 F0 Z0 n s a w ι Z)(hl:pe s t c=some xs)(hc:cj w Z s ι c v) :
  (ad.sl t).al w (Z.or (df ι (borrows s c))) .R xs [v] ah.none∧alive s (borrows s c)=true∧∀d,d∈borrows s c→ew s d:=by
 cases c with
 | nil u =>
  obtain ⟨e,rfl⟩:=g_ hl
  subst e
  have hv:v=.slice none 0 0:=hc
  subst hv
  refine⟨?_,rfl,by simp [borrows]⟩
  simp only [ad.al]
  exact⟨none,0,rfl,.inl trivial⟩
 | b1 u dp ct ys =>
  simp only [pe] at hl
  obtain ⟨h1,h2,h3⟩:=hc
  cases ha:alive s dp with
  | false=>rw [ha] at hl;simp at hl
  | true =>
   rw [ha] at hl
   obtain ⟨e,rfl⟩:=g_ hl
   subst e
   exact⟨h3.1 ha,ha,h1⟩
 | ag id sub =>
  simp only [pe] at hl
  obtain ⟨h1,A,m,k,rfl,h2⟩:=hc
  cases ho:s.o id with
  | row u em ver ys =>
   rw [ho] at hl
   obtain ⟨e,rfl⟩:=g_ hl
   subst e
   have hb:borrows s (.ag id sub)=[(id,ver)]:=by simp only [borrows,ho]
   rw [hb]
   refine⟨?_,?_,?_⟩
   ·have cZ:=h.fT id
    rw [ho] at cZ
    refine ad.al.read (fun _ _ h=>.inl h) _ _ (fun b o hf=>.inr ⟨(id,ver),by simp,hf⟩) (v_ cZ (h2 u em ver ys (lD ho)))
   ·simp [alive,ho]
   ·intro d ag
    simp at ag
    subst ag
    exact⟨h1,.inr (by simp [kv,ho])⟩
  | _=>rw [ho] at hl;simp at hl
 | _=>simp [pe] at hl
theorem HC(ι : Nat→bH)(nb bn:List (Nat×Nat)):ah.sub (df ι bn) (df ι (nb++bn)) :=
 fun b o ⟨d,h1,h2⟩=>⟨d,List.mem_append.2 (.inr h1),h2⟩
def ym(w0:World)(F0 Z0:ah)(n:cC)(s:aq)(a:Act)(w:World)(ι : Nat→bH)(Z:ah)(b:Bool)(R:ah→List Value→ah→Prop)(vs:List Value)
  (cs':List a_) (ar:aq) (bn nf:List (Nat×Nat)):Prop :=
 ∃us bJ F Z',vs=us++bJ∧Inv w0 F0 Z0 n ar a w ι Z'∧fb s ι Z ar Z'∧bM w Z' ar ι cs' bJ∧bL w0 F0 ar w ι Z' F ∧
  R (Z'.or (df ι nf)) us F∧(∃nb,nf=nb++bn)∧(b=false→nf=bn)∧(∀d,d∈nf→ew ar d) ∧
  ∀b o,F b o→∃id,(s.o id).live∧(ι id).F b o
theorem wa{b:Bool}{R:ah→List Value→ah→Prop}{v:Value}{bJ:List Value}{cs':List a_}{bn:List (Nat×Nat)}(h:Inv w0 F0 Z0 n s a w ι Z)
  (hc:bM w Z s ι cs' bJ) (hb:∀d,d∈bn→ew s d) (dM:∀Z,R Z [v] ah.none):ym w0 F0 Z0 n s a w ι Z b R (v :: bJ) cs' s bn bn :=
 ⟨[v],bJ,ah.none,Z,rfl,h,.refl,hc,.none,dM _,⟨[],rfl⟩,fun _=>rfl,hb,fun _ _ h=>h.elim⟩
theorem HD(h:fb s ι Z ar Z'){d:Nat×Nat}(ag:ew s d):ew ar d:=by
 obtain ⟨h1,h2⟩:=ag
 unfold ew known kv at *
 rcases h.o d.1 with h3 | ⟨_,h3⟩
 ·rw [h3];exact⟨h1,h2⟩
 ·rw [h3];exact⟨by simp,.inl rfl⟩
theorem OZ{t:ad}{e:ba}{x:List t.D}{vs:List Value}{F:ah}(h:(ad.sl t).al w Z (.O e) x vs F) :
  ∃F',ah.sub F' F∧(ad.sl t).al w (Z.or fun b o=>F b o∧¬F' b o) (.O .R) x vs F':=by
 simp only [ad.al] at h ⊢
 obtain ⟨A,c,hv,h⟩:=h
 rcases h with h | ⟨a,hA,hr⟩
 ·exact⟨ah.none,fun _ _ h=>h.elim,A,c,hv,.inl h⟩
 ·obtain ⟨G,g1,g2,g3⟩:=hr.row
  refine⟨ah.run a.block a.off (c*t.size),?_,A,c,hv,.inr ⟨a,hA,hr.spot,hr.cap,hr.wr,fun j hj=>⟨rfl,by omega,by omega⟩,ah.none,?_,fun _ _ h=>h,fun _ _ h=>h.elim⟩⟩
  ·rintro b o ⟨rfl,h1,h2⟩
   have:=hr.inF (o-a.off) (by omega)
   rwa [show a.off +(o-a.off)=o by omega] at this
  ·refine g1.bare fun y us dj hG aN=>ad.al.read (fun _ _ h=>.inl h) _ _ (fun b o aA=>.inr ⟨g3 b o (hG b o aA),?_⟩) aN
   rintro ⟨rfl,h1,h2⟩
   have:=g2 (o-a.off) (by omega)
   rw [show a.off +(o-a.off)=o by omega] at this
   exact this (hG _ o aA)
theorem Yg(t:ad)(b:Bool)(m:ba)(c:a_)(cs:List a_)(s:aq)(bn:List (Nat×Nat))(r:List t.D×List a_×aq×List (Nat×Nat))(v:Value)(vs:List Value)(Z:ah)
  (hi:(ad.sl t).imp b m (c :: cs) s bn=some r) (h:Inv w0 F0 Z0 n s a w ι Z) (hc:bM w Z s ι (c :: cs) (v :: vs)) (hb:∀d,d∈bn→ew s d) :
  ym w0 F0 Z0 n s a w ι Z b (fun Z us F=>(ad.sl t).al w Z m r.1 us F) (v :: vs) r.2.1 r.2.2.1 bn r.2.2.2:=by
 have ph:∀ {Z m},v=.slice none 0 0→(ad.sl t).al w Z m ([]:List t.D) [v] ah.none:=by
  intro Z m hv;subst hv
  cases m <;> simp only [ad.al] <;> exact⟨none,0,rfl,.inl (by simp)⟩
 have frozen:∀(m:ba),m=.R∨(∃ms,m=.S ms)→(ad.sl t).imp b m (c :: cs) s bn=some r →
   ym w0 F0 Z0 n s a w ι Z b (fun Z us F=>(ad.sl t).al w Z m r.1 us F) (v :: vs) r.2.1 r.2.2.1 bn r.2.2.2:=by
  intro m hm hi
  have HE:∀ {Z:ah} {x:List t.D} {us:List Value},(ad.sl t).al w Z .R x us ah.none→(ad.sl t).al w Z m x us ah.none:=by
   rcases hm with rfl | ⟨ms,rfl⟩
   ·exact fun h=>h
   ·intro Z x us h;simpa only [ad.al] using h
  cases b with
  | true =>
   have c4:(pe s t c).bind (fun x=>some (x,cs,s,borrows s c++bn))=some r:=by
    rcases hm with rfl | ⟨ms,rfl⟩ <;> simpa only [ad.imp] using hi
   obtain ⟨x,hx,c4⟩:=bf c4
   obtain rfl:=aU c4
   obtain ⟨ej,fm,gl⟩:=HB h hx hc.1
   refine⟨[v],vs,ah.none,Z,rfl,h,.refl,hc.2,.none,HE (ad.al.mono ?_ _ _ (fun _ _ h=>h) ej),⟨_,rfl⟩,fun hf=>by simp at hf,?_,fun _ _ h=>h.elim⟩
   ·rintro b o (hz | ⟨d,ag,hf⟩)
    ·exact .inl hz
    ·exact .inr ⟨d,List.mem_append.2 (.inl ag),hf⟩
   ·intro d ag
    rcases List.mem_append.1 ag with ag | ag
    ·exact gl d ag
    ·exact hb d ag
  | false =>
   cases c with
   | nil u =>
    have c4:(eG (.sl u) (.sl t) ([]:List u.D)).bind (fun x=>some (x,cs,s,bn))=some r:=by
     rcases hm with rfl | ⟨ms,rfl⟩ <;> simpa only [ad.imp] using hi
    obtain ⟨x,hx,c4⟩:=bf c4
    obtain rfl:=aU c4
    obtain ⟨e,rfl⟩:=g_ hx
    subst e
    exact wa h hc.2 hb fun Z=>ph hc.1
   | b1 u dp ct xs =>
    cases dp with
    | cons d dp=>rcases hm with rfl | ⟨ms,rfl⟩ <;> simp [ad.imp] at hi
    | nil =>
     have c4:(eG (.sl u) (.sl t) xs).bind (fun x=>some (x,cs,s,bn))=some r:=by
      rcases hm with rfl | ⟨ms,rfl⟩ <;> simpa only [ad.imp] using hi
     obtain ⟨x,hx,c4⟩:=bf c4
     obtain rfl:=aU c4
     obtain ⟨e,rfl⟩:=g_ hx
     subst e
     have p:=hc.1.2.2.1 rfl
     refine⟨[v],vs,ah.none,Z,rfl,h,.refl,hc.2,.none,HE (ad.al.mono ?_ _ _ (fun _ _ h=>h) p),⟨[],rfl⟩,fun _=>rfl,hb,fun _ _ h=>h.elim⟩
     rintro b o (hz | ⟨d,ag,hf⟩)
     ·exact .inl hz
     ·simp at ag
   | ag id sub =>
    cases ho:s.o id with
    | row u em ver xs =>
     have c4:(eG (.sl u) (.sl t) (kT sub xs)).bind (fun x=>some (x,cs,s.bR id .dead,bn))=some r:=by
      rcases hm with rfl | ⟨ms,rfl⟩ <;> simpa only [ad.imp,ho] using hi
     obtain ⟨x,hx,c4⟩:=bf c4
     obtain rfl:=aU c4
     obtain ⟨e,rfl⟩:=g_ hx
     subst e
     have hl:(s.o id).live:=by rw [ho];trivial
     obtain ⟨hk,A,m',k,rfl,hh⟩:=hc.1
     have cZ:=h.fT id
     rw [ho] at cZ
     have p:=v_ cZ (hh u em ver xs (lD ho))
     have iG:=OY h hl
     refine⟨[_],vs,ah.none,Z.or (ι id).F,rfl,h.take id (fun _ _ h=>.inl h) (fun b o hz=>hz.imp (fun h=>h) fun h=>⟨hl,h⟩),iG,hc.2.move iG.ei,.none,HE ?_,⟨[],rfl⟩,fun _=>rfl,fun d ag=>HD iG (hb d ag),fun _ _ h=>h.elim⟩
     exact ad.al.read (fun _ _ h=>.inl (.inl h)) _ _ (fun b o hf=>.inl (.inr hf)) p
    | _=>rcases hm with rfl | ⟨ms,rfl⟩ <;> simp [ad.imp,ho] at hi
   | _=>rcases hm with rfl | ⟨ms,rfl⟩ <;> simp [ad.imp] at hi
 cases m with
 | R=>exact frozen _ (.inl rfl) hi
 | S ms=>exact frozen _ (.inr ⟨ms,rfl⟩) hi
 | O e =>
  cases c with
  | nil u =>
   have c4:(eG (.sl u) (.sl t) ([]:List u.D)).bind (fun x=>some (x,cs,s,bn))=some r:=by
    cases b <;> simpa only [ad.imp] using hi
   obtain ⟨x,hx,c4⟩:=bf c4
   obtain rfl:=aU c4
   obtain ⟨e,rfl⟩:=g_ hx
   subst e
   exact wa h hc.2 hb fun Z=>ph hc.1
  | ag id sub =>
   cases ho:s.o id with
   | row u em ver xs =>
    have c4:(if ba.le em e=true then(eG (.sl u) (.sl t) (kT sub xs)).bind (fun x=>some (x,cs,s.bR id .dead,bn)) else none)=some r:=by
     cases b <;>(simp only [ad.imp,ho] at hi;rw [← hi];cases ba.le em e <;> rfl)
    split at c4
    case isFalse=>simp at c4
    rename_i hle
    obtain ⟨x,hx,c4⟩:=bf c4
    obtain rfl:=aU c4
    obtain ⟨gZ,rfl⟩:=g_ hx
    subst gZ
    have hl:(s.o id).live:=by rw [ho];trivial
    obtain ⟨hk,A,m',k,rfl,hh⟩:=hc.1
    have cZ:=h.fT id
    rw [ho] at cZ
    have p:=v_ cZ (hh u em ver xs (lD ho))
    have fg:=h.v7 hl
    by_cases HF:em=e
    ·subst HF
     have iG:fb s ι Z (s.bR id .dead) Z:=v8 id (by rw [ho];trivial)
     exact⟨[_],vs,(ι id).F,Z,rfl,h.take id (fun _ _ h=>h) (fun b o hz=>.inl hz),iG,hc.2.move iG.ei,fg,
      ad.al.mono (fun _ _ h=>.inl h) _ _ (fun _ _ h=>h) p,⟨[],rfl⟩,fun _=>rfl,fun d ag=>HD iG (hb d ag),fun b o hf=>⟨id,hl,hf⟩⟩
    ·have Yh:e=.R:=by
      cases e with
      | R=>rfl
      | O e=>exact absurd (ba.eq_of_beq _ _ hle) HF
      | S e=>exact absurd (ba.eq_of_beq _ _ hle) HF
     subst Yh
     obtain ⟨F',c7,eJ⟩:=OZ p
     have iG:fb s ι Z (s.bR id .dead) (Z.or fun b o=>(ι id).F b o∧¬F' b o):=by
      have h0:=OY h hl
      refine⟨h0.o,h0.t,h0.g,fun _ _ h=>.inl h,fun b o hz=>?_⟩
      rcases hz with h1 | h1
      ·exact .inl h1
      ·exact .inr ⟨id,hl,cB _ _ _,h1.1⟩
     refine⟨[_],vs,F',_,rfl,h.take id (fun _ _ h=>.inl h) (fun b o hz=>hz.imp (fun h=>h) fun h=>⟨hl,h.1⟩),iG,hc.2.move iG.ei,⟨fun b o hf=>fg.own b o (c7 b o hf),fun j hj b o hf=>fg.apart j hj b o (c7 b o hf),?_⟩,
      ad.al.mono (fun _ _ h=>.inl h) _ _ (fun _ _ h=>h) eJ,⟨[],rfl⟩,fun _=>rfl,fun d ag=>HD iG (hb d ag),fun b o hf=>⟨id,hl,c7 b o hf⟩⟩
     rintro b o hf (hz | hz)
     ·exact fg.c2 b o (c7 b o hf) hz
     ·exact hz.2 hf
   | _=>cases b <;> simp [ad.imp,ho] at hi
  | _=>cases b <;> simp [ad.imp] at hi
mutual
theorem ad.lF:∀(t:ad) (b:Bool) (m:ba) (cs:List a_) (s:aq) (bn:List (Nat×Nat)) (r:t.D×List a_×aq×List (Nat×Nat)) (vs:List Value) (Z:ah),
  t.imp b m cs s bn=some r→Inv w0 F0 Z0 n s a w ι Z→bM w Z s ι cs vs→(∀d,d∈bn→ew s d) →
  ym w0 F0 Z0 n s a w ι Z b (fun Z us F=>t.al w Z m r.1 us F) vs r.2.1 r.2.2.1 bn r.2.2.2
 | .int k,b,m,cs,s,bn,r,vs,Z,hi,h,hc,hb=>by
  cases cs with
  | nil=>cases m <;> simp [ad.imp] at hi
  | cons c cs =>
   cases vs with
   | nil=>exact hc.elim
   | cons v vs =>
    cases c <;> simp only [ad.imp] at hi <;> try (simp at hi;done)
    rename_i k' x
    cases hk:Nat.beq (dq k) (dq k')
    ·rw [hk] at hi;simp at hi
    ·rw [hk] at hi
     obtain rfl:=aU hi
     obtain rfl:=tk (Nat.eq_of_beq_eq_true hk)
     have hv:v=.int k x:=hc.1
     subst hv
     exact wa h hc.2 hb fun Z=>by simp only [ad.al]
 | .bool,b,m,cs,s,bn,r,vs,Z,hi,h,hc,hb=>by
  cases cs with
  | nil=>cases m <;> simp [ad.imp] at hi
  | cons c cs =>
   cases vs with
   | nil=>exact hc.elim
   | cons v vs =>
    cases c <;> simp only [ad.imp] at hi <;> try (simp at hi;done)
    obtain rfl:=aU hi
    have hv:v=.bool _:=hc.1
    subst hv
    exact wa h hc.2 hb fun Z=>by simp only [ad.al]
 | .str,b,m,cs,s,bn,r,vs,Z,hi,h,hc,hb=>by
  cases cs with
  | nil=>cases m <;> simp [ad.imp] at hi
  | cons c cs =>
   cases vs with
   | nil=>exact hc.elim
   | cons v vs =>
    cases c <;> simp only [ad.imp] at hi <;> try (simp at hi;done)
    obtain rfl:=aU hi
    obtain ⟨q,rfl,hq⟩:=hc.1
    exact wa h hc.2 hb fun Z=>by simp only [ad.al];exact⟨q,rfl,hq⟩
 | .raw,b,m,cs,s,bn,r,vs,Z,hi,h,hc,hb=>by
  cases cs with
  | nil=>cases m <;> simp [ad.imp] at hi
  | cons c cs =>
   cases vs with
   | nil=>exact hc.elim
   | cons v vs =>
    cases c <;> simp only [ad.imp] at hi <;> try (simp at hi;done)
    obtain rfl:=aU hi
    obtain ⟨q,hq⟩:=hc.1
    exact wa h hc.2 hb fun Z=>by simp only [ad.al];exact⟨by rw [q],hq⟩
 | .sl t,b,m,cs,s,bn,r,vs,Z,hi,h,hc,hb=>by
  cases cs with
  | nil=>cases m <;> cases b <;> simp [ad.imp] at hi
  | cons c cs =>
   cases vs with
   | nil=>exact hc.elim
   | cons v vs =>
    exact Yg t b m c cs s bn r v vs Z hi h hc hb
 | .st aj,b,m,cs,s,bn,r,vs,Z,hi,h,hc,hb=>by
  simp only [ad.imp] at hi
  have:=ax.lF aj b m.parts cs s bn r vs Z hi h hc hb
  simpa only [ad.al] using this
theorem ax.lF:∀(aj:ax) (b:Bool) (m:cU) (cs:List a_) (s:aq) (bn:List (Nat×Nat)) (r:aj.D×List a_×aq×List (Nat×Nat)) (vs:List Value) (Z:ah),
  aj.imp b m cs s bn=some r→Inv w0 F0 Z0 n s a w ι Z→bM w Z s ι cs vs→(∀d,d∈bn→ew s d) →
  ym w0 F0 Z0 n s a w ι Z b (fun Z us F=>aj.al w Z m r.1 us F) vs r.2.1 r.2.2.1 bn r.2.2.2
 | .nil,b,m,cs,s,bn,r,vs,Z,hi,h,hc,hb=>by
  simp only [ax.imp] at hi
  obtain rfl:=aU hi
  exact⟨[],vs,ah.none,Z,rfl,h,.refl,hc,.none,by simp only [ax.al],⟨[],rfl⟩,fun _=>rfl,hb,fun _ _ h=>h.elim⟩
 | .cons t aj,b,m,cs,s,bn,r,vs,Z,hi,h,hc,hb=>by
  simp only [ax.imp] at hi
  obtain ⟨bz,h1,hi⟩:=bf hi
  obtain ⟨cc,h2,hi⟩:=bf hi
  obtain rfl:=aU hi
  obtain ⟨us,vs1,F,cq,e1,i1,s1,c1,f1,ej,⟨Yi,fV⟩,jc,d1,g1⟩:=ad.lF t b m.ag cs s bn bz vs Z h1 h hc hb
  obtain ⟨us2,vs2,G,bN,e2,i2,s2,gJ,f2,fm,⟨HG,mh⟩,og,d2,g2⟩:=ax.lF aj b m.dv bz.2.1 bz.2.2.1 bz.2.2.2 cc vs1 cq h2 i1 c1 d1
  have kY:ah.sub (cq.or (df ι bz.2.2.2)) (bN.or (df ι cc.2.2.2)):=by
   rintro b o (hz | hz)
   ·exact .inl (s2.dI b o hz)
   ·rw [mh];exact .inr (HC _ _ _ b o hz)
  refine⟨us++us2,vs2,F.or G,bN,by rw [e1,e2,List.append_assoc],i2,s1.trans s2,gJ,(f1.shrink s2).or f2,?rep,⟨HG++Yi,by rw [mh,fV,List.append_assoc]⟩,fun hf=>by rw [og hf,jc hf],d2,?src⟩
  case src =>
   rintro b o (hf | hf)
   ·exact g1 b o hf
   ·obtain ⟨id,hl,hi⟩:=g2 b o hf;exact⟨id,(s1.live hl).1,hi⟩
  simp only [ax.al]
  refine⟨us,us2,F,G,rfl,ad.al.mono kY _ _ (fun _ _ h=>h) ej,fm,?_,fun _ _ h=>.inl h,fun _ _ h=>.inr h⟩
  intro b o h1 h2
  obtain ⟨id,hl,hi⟩:=g2 b o h2
  exact f1.apart id hl b o h1 hi
end
end
end Go.LM
namespace Go.LM
theorem Row.get{α : Type}{w:World}{R : α → List Value→ah→Prop}{size:Nat} : ∀ {x:List α} {b o:Nat} {F:ah} (i:Nat) (hi:i<x.length),Row w R size x b o F →
  ∃vs G,R x[i] vs G∧vs.length=size∧b3 w b (o+i*size) vs∧ah.sub G F
 | y :: x,b,o,F,0,_,⟨vs,G,H,h1,h2,h3,h4,a8,bl,bK⟩=>⟨vs,G,h1,h2,by simpa using h3,bl⟩
 | y :: x,b,o,F,i+1,hi,⟨vs,G,H,h1,h2,h3,h4,a8,bl,bK⟩=>by
  obtain ⟨us,dj,k1,k2,k3,bg⟩:=Row.get i (by simpa using hi) h4
  refine⟨us,dj,k1,k2,?_,fun b o h=>bK b o (bg b o h)⟩
  rwa [show o +(i+1)*size=o+size+i*size by rw [Nat.add_one_mul];omega]
theorem Row.set{α : Type}{w w':World}{R i_ : α → List Value→ah→Prop}{size:Nat}{bF : α}{F1:ah} : ∀ {x:List α} {b o:Nat} {F:ah} (i:Nat) (hi:i<x.length),Row w R size x b o F →
  (∀y vs G,ah.sub G F→R y vs G→i_ y vs G) →
  (∀j,j<x.length*size→(j<i*size∨(i+1)*size≤j)→w'.cell? (at_ b (o+j))=w.cell? (at_ b (o+j))) →
  (∀vs G,R x[i] vs G→vs.length=size→b3 w b (o+i*size) vs→ah.sub G F→∃bJ,bJ.length=size∧b3 w' b (o+i*size) bJ∧i_ bF bJ (G.or F1)) →
  ah.apart F1 F→Row w' i_ size (x.set i bF) b o (F.or F1)
 | y :: x,b,o,F,0,_,⟨vs,G,H,h1,h2,h3,h4,a8,bl,bK⟩,dM,hc,hn,ha=>by
  obtain ⟨bJ,k1,k2,k3⟩:=hn vs G h1 h2 (by simpa using h3) bl
  refine⟨bJ,G.or F1,H,k3,k1,by simpa using k2,?_,?_,?_,fun b o h=>.inl (bK b o h)⟩
  ·refine Row.imp h4 (fun y vs dj hG=>dM y vs dj fun b o h=>bK b o (hG b o h)) fun j hj=>?_
   have:=hc (size+j) (by rw [List.length_cons,Nat.add_one_mul];omega) (.inr (by simp))
   rwa [← Nat.add_assoc] at this
  ·rintro b o (h | h) hh
   ·exact a8 b o h hh
   ·exact ha b o h (bK b o hh)
  ·rintro b o (h | h)
   ·exact .inl (bl b o h)
   ·exact .inr h
 | y :: x,b,o,F,i+1,hi,⟨vs,G,H,h1,h2,h3,h4,a8,bl,bK⟩,dM,hc,hn,ha=>by
  refine⟨vs,G,H.or F1,dM _ _ _ bl h1,h2,?_,?_,?_,fun b o h=>.inl (bl b o h),?_⟩
  ·refine h3.of_eq fun k hk=>hc k ?_ (.inl ?_)
   ·rw [List.length_cons,Nat.add_one_mul];omega
   ·rw [Nat.add_one_mul];omega
  ·refine Row.set i (by simpa using hi) h4 (fun y vs dj hG=>dM y vs dj fun b o h=>bK b o (hG b o h)) ?_ ?_ (fun b o h k=>ha b o h (bK b o k))
   ·intro j hj HH
    have:=hc (size+j) (by rw [List.length_cons,Nat.add_one_mul];omega) (by
     rcases HH with h | h
     ·left;rw [Nat.add_one_mul];omega
     ·right;rw [Nat.add_one_mul];omega)
    rwa [← Nat.add_assoc] at this
   ·intro bJ dj k1 k2 k3 bg
    have:=hn bJ dj k1 k2 (by rwa [show o +(i+1)*size=o+size+i*size by rw [Nat.add_one_mul];omega]) (fun b o h=>bK b o (bg b o h))
    rwa [show o +(i+1)*size=o+size+i*size by rw [Nat.add_one_mul];omega] at this
  ·rintro b o h (hh | hh)
   ·exact a8 b o h hh
   ·exact ha b o hh (bl b o h)
  ·rintro b o (h | h)
   ·exact .inl (bK b o h)
   ·exact .inr h
section
variable{w0:World}{F0 Z0:ah}{n:cC}{s ar:aq}{a b7:Act}{w w':World}{ι bb:Nat→bH}{Z Z':ah}
def mi(w:World)(s:aq)(ι : Nat→bH)(dp:List (Nat×Nat))(ct:Option Place)(vs:List Value):Prop :=
 ∀k v,vs[k]?=some v→rF w s ι dp (ct.map fun p => { p with off:=p.off+k }) v
theorem mi.none{dp:List (Nat×Nat)}{vs:List Value} : mi w s ι dp none vs:=fun _ _ _=>.none
theorem mi.head{dp:List (Nat×Nat)}{ct:Option Place}{v:Value}{vs:List Value}(h:mi w s ι dp ct (v :: vs)):rF w s ι dp ct v:=by
 have:=h 0 v rfl
 cases ct with
 | none=>exact .none
 | some p=>simpa using this
theorem mi.left{dp:List (Nat×Nat)}{ct:Option Place}{us vs:List Value}(h:mi w s ι dp ct (us++vs)):mi w s ι dp ct us:=fun k v hv=>h k v (by
 rw [List.getElem?_append_left (List.getElem?_eq_some_iff.1 hv).1];exact hv)
theorem mi.right{dp:List (Nat×Nat)}{ct:Option Place}{us vs:List Value}(h:mi w s ι dp ct (us++vs)):mi w s ι dp (ct.map fun p => { p with off:=p.off+us.length }) vs:=fun k v hv=>by
 have:=h (us.length+k) v (by rw [List.getElem?_append_right (by omega)];simpa using hv)
 cases ct with
 | none=>exact .none
 | some p=>simpa [Nat.add_assoc] using this
mutual
theorem ad.qo:∀(t:ad) (dp:List (Nat×Nat)) (ct:Option Place) {x:t.D} {vs:List Value},(∀d,d∈dp→ew s d) →
  (alive s dp=true→t.al w (Z.or (df ι dp)) .R x vs ah.none)→(∃m Z' F',t.al w Z' m x vs F')→mi w s ι dp ct vs→bM w Z s ι (t.cells dp ct x) vs
 | .int k,dp,ct,x,vs,ag,h,⟨m,Z',F',h'⟩,mj=>by simp only [ad.al] at h';subst h';exact⟨rfl,trivial⟩
 | .bool,dp,ct,x,vs,ag,h,⟨m,Z',F',h'⟩,mj=>by simp only [ad.al] at h';subst h';exact⟨rfl,trivial⟩
 | .str,dp,ct,x,vs,ag,h,⟨m,Z',F',h'⟩,mj=>by simp only [ad.al] at h';obtain ⟨q,rfl,hq⟩:=h';exact⟨⟨q,rfl,hq⟩,trivial⟩
 | .raw,dp,ct,x,vs,ag,h,⟨m,Z',F',h'⟩,mj=>by simp only [ad.al] at h';obtain ⟨rfl,hq⟩:=h';exact⟨⟨rfl,hq⟩,trivial⟩
 | .sl t,dp,ct,x,vs,ag,h,⟨m,Z',F',h'⟩,mj=>by
  have hv:∃A c,vs=[.slice A x.length c]:=by
   cases m <;>(simp only [ad.al] at h';obtain ⟨A,c,hv,_⟩:=h';exact⟨A,c,hv⟩)
  obtain ⟨A,c,rfl⟩:=hv
  exact⟨⟨ag,⟨A,_,c,rfl⟩,h,mj.head⟩,trivial⟩
 | .st aj,dp,ct,x,vs,ag,h,⟨m,Z',F',h'⟩,mj=>by
  simp only [ad.al] at h h'
  simp only [ad.cells]
  exact ax.qo aj dp ct ag h ⟨_,_,_,h'⟩ mj
theorem ax.qo:∀(aj:ax) (dp:List (Nat×Nat)) (ct:Option Place) {x:aj.D} {vs:List Value},(∀d,d∈dp→ew s d) →
  (alive s dp=true→aj.al w (Z.or (df ι dp)) (ba.parts .R) x vs ah.none)→(∃m Z' F',aj.al w Z' m x vs F')→mi w s ι dp ct vs→bM w Z s ι (aj.cells dp ct x) vs
 | .nil,dp,ct,x,vs,ag,h,⟨m,Z',F',h'⟩,mj=>by simp only [ax.al] at h';subst h';trivial
 | .cons t aj,dp,ct,x,vs,ag,h,⟨m,Z',F',h'⟩,mj=>by
  simp only [ax.al] at h h'
  obtain ⟨us,bJ,G,H,rfl,h2,h3,_⟩:=h'
  have hlen:=(ad.al.len t _ h2).1
  simp only [ax.cells]
  refine bM.append (ad.qo t dp ct ag (fun ha=>?_) ⟨_,_,_,h2⟩ mj.left) (ax.qo aj dp _ ag (fun ha=>?_) ⟨_,_,_,h3⟩ (hlen ▸ mj.right))
  ·obtain ⟨aS,Yj,dj,fW,e,k2,k3,bg,bx,dg⟩:=h ha
   have:=(ad.al.len t _ k2).1
   obtain ⟨rfl,rfl⟩:=List.append_inj e (by omega)
   exact ad.al.mono (fun _ _ h=>h) _ _ bx k2
  ·obtain ⟨aS,Yj,dj,fW,e,k2,k3,bg,bx,dg⟩:=h ha
   have:=(ad.al.len t _ k2).1
   obtain ⟨rfl,rfl⟩:=List.append_inj e (by omega)
   exact ax.al.mono (fun _ _ h=>h) _ _ dg k3
end
theorem pj{off k:Nat}{cs ds:List a_}(h:takeN off k cs=some ds):off+k≤cs.length∧ds=(cs.drop off).take k:=by
 unfold takeN at h
 cases hb:Nat.ble (off+k) cs.length
 ·rw [hb] at h;simp at h
 ·rw [hb] at h;exact⟨Nat.le_of_ble_eq_true hb,(aU h).symm⟩
theorem c8{t:ad}{xs:List t.D}{i:Nat}(hi:i<xs.length):J t xs i=xs[i]:=by simp [J,hi]
theorem O0(h:Inv w0 F0 Z0 n s a w ι Z){id:Nat}{t:ad}{em:ba}{ver:Nat}{xs:List t.D}(ho:s.o id=.row t em ver xs){i:Nat}(hi:i<xs.length) :
  ∃a0 vs,(ι id).base=some a0∧a0.spot=none∧bM w Z s ι (Hf t em id ver i (J t xs i)) vs∧b3 w a0.block (a0.off+i*t.size) vs∧vs.length=t.size:=by
 have cZ:=h.fT id
 rw [ho] at cZ
 rcases cZ with⟨rfl,_⟩ | ⟨a0,hb,hr⟩
 ·simp at hi
 ·obtain ⟨G,g1,g2,g3⟩:=hr.row
  obtain ⟨vs,dj,k1,k2,k3,bg⟩:=g1.get i hi
  refine⟨a0,vs,hb,hr.spot,?_,k3,k2⟩
  rw [c8 hi]
  have key:∀dp ct,(∀d,d∈dp→ew s d)→(em=.R∨(id,ver)∈dp)→mi w s ι dp ct vs→bM w Z s ι (t.cells dp ct xs[i]) vs:=by
   intro dp ct ag tw mj
   refine ad.qo t dp ct ag (fun ha=>?_) ⟨_,_,_,k1⟩ mj
   rcases tw with rfl | hm
   ·exact ad.al.mono (fun _ _ h=>.inl h) _ _ (fun _ _ h=>h) (ad.al.read (Z:=Z) (Z':=Z) (F:=ah.none) (fun _ _ h=>h) t .R (fun _ _ h=>h.elim) (by
     have:=k1
     exact rE this))
   ·exact ad.al.read (fun _ _ h=>.inl h) t em (fun b o aA=>.inr ⟨_,hm,g3 b o (bg b o aA)⟩) k1
  unfold Hf
  split
  ·exact key [] _ (by simp) (.inl rfl) .none
  ·refine key _ _ ?_ (.inr (by simp)) ?_
   case refine_2 =>
    intro k v hv p au
    simp only [Option.map_some,Option.some.injEq] at au
    subst au
    refine⟨⟨(id,ver),by simp,rfl⟩,fun _=>?_⟩
    have hk:k<t.size:=by rw [← k2];exact(List.getElem?_eq_some_iff.1 hv).1
    have HI:(i+1)*t.size≤(ι id).cap*t.size:=Nat.mul_le_mul_right _ (by have:=hr.cap;omega)
    rw [Nat.add_one_mul] at HI
    refine⟨a0.block,a0.off+i*t.size+k,⟨rfl,?_⟩,k3 k v hv,?_⟩
    ·show match (s.o id).core with | .var _ _=>_ | .row t _ _ xs=>_ | _=>_
     rw [ho]
     exact⟨i,rfl,hi,a0,hb,by simp⟩
    ·have:=hr.inF (i*t.size+k) (by omega)
     rwa [← Nat.add_assoc] at this
   intro d ag
   simp at ag
   subst ag
   exact⟨by simp [known,ho],.inr (by simp [kv,ho])⟩
theorem yn(h:Inv w0 F0 Z0 n s a w ι Z){k:Nat}{p:Place}{cs:List a_}{A:Addr}(hr:me s k p=some cs)(au:ju s ι p A) :
  ∃b o vs,A=at_ b o∧bM w Z s ι cs vs∧b3 w b o vs∧vs.length=k:=by
 obtain ⟨hs,au⟩:=au
 unfold me at hr
 cases ho:s.o p.id with
 | var ver old =>
  rw [ho] at hr au
  obtain ⟨he,a0,hb,rfl⟩:=au
  rw [he] at hr
  obtain ⟨h1,rfl⟩:=pj hr
  have cZ:=h.fT p.id
  rw [ho] at cZ
  obtain ⟨v',vs,dJ,hsp,hc,ck,_⟩:=cZ
  rw [hb] at dJ
  obtain rfl:=aU dJ
  refine⟨_,_,(vs.drop p.off).take k,rfl,(hc.drop _).take _,ck.part _ _,?_⟩
  have:=hc.len
  simp;omega
 | row t em ver xs =>
  rw [ho] at hr au
  obtain ⟨i,he,hi,a0,hb,rfl⟩:=au
  rw [he] at hr
  obtain ⟨h1,rfl⟩:=pj hr
  obtain ⟨v',vs,dJ,hsp,hc,ck,hl⟩:=O0 h ho hi
  rw [hb] at dJ
  obtain rfl:=aU dJ
  refine⟨_,_,(vs.drop p.off).take k,rfl,(hc.drop _).take _,?_,?_⟩
  ·have:=ck.part p.off k
   exact this
  ·have:=hc.len
   simp;omega
 | none=>rw [ho] at hr;simp at hr
 | dead=>rw [ho] at hr;simp at hr
 | cf=>rw [ho] at hr;simp at hr
theorem Yk{id:Nat}(b6:s.o id=.none)(o:cn)(i:bH):eI w Z s ι w Z (s.bR id o) (bU ι id i):=by
 refine⟨fun j=>?_,fun _ _ h=>h,b4.refl _ _⟩
 show ja (s.o j) (ι j) (bU s.o id o j) (bU ι id i j)
 by_cases hj:id=j
 ·subst hj;rw [b6];exact .made _ _ _
 ·rw [cR hj,cR hj];exact .stay _ _
theorem Inv.Bm(h:Inv w0 F0 Z0 n s a w ι Z){id:Nat}(b6:s.o id=.none){o:cn}{i:bH}
  (cM:il w Z (s.bR id o) (bU ι id i) i o) (hF:bL w0 F0 s w ι Z i.F):Inv w0 F0 Z0 n (s.bR id o) a w (bU ι id i) Z:=by
 have hm:=Yk (w:=w) (Z:=Z) (ι := ι) b6 o i
 refine h.next hm (Ext.refl _ ah.none) (fun _ _ h=>h.elim) (fun _ _ h=>.inl h) ?_ ?_ (fun k=>(h.tmps k).move hm) h.size h.defers
 ·intro j hl hne
  by_cases hj:id=j
  ·subst hj
   rw [cB]
   refine⟨by show il _ _ _ _ _ (bU s.o id o id);rw [cB];exact cM,hF.own,fun kX gk jI=>?_⟩
   rw [cR jI]
   have dW:(s.o kX).live:=by
    have:(bU s.o id _ kX).live:=gk
    rwa [cR jI] at this
   exact hF.apart kX dW
  ·exact absurd ⟨cR hj,cR hj⟩ hne
 ·intro j hl
  by_cases hj:id=j
  ·subst hj;rw [cB];exact hF.c2
  ·rw [cR hj]
   have dW:(s.o j).live:=by
    have:(bU s.o id _ j).live:=hl
    rwa [cR hj] at this
   exact h.c2 j dW
structure lG(s:aq)(ι : Nat→bH)(ar:aq)(bb:Nat→bH):Prop where
 o:∀id,s.o id≠.none→ar.o id=s.o id ∧ bb id = ι id
 t:ar.t=s.t
 g:ar.g=s.g
 nl:∀id o',s.o id=.none→ar.o id≠.cf o'
theorem lG.refl:lG s ι s ι :=⟨fun _ _=>⟨rfl,rfl⟩,rfl,rfl,fun _ _ h=>by rw [h];simp⟩
theorem lG.trans{s2:aq}{eB:Nat→bH}(h:lG s ι ar bb)(k:lG ar bb s2 eB):lG s ι s2 eB :=
 ⟨fun id hn=>by have h1:=h.o id hn;have h2:=k.o id (by rw [h1.1];exact hn);exact⟨h2.1.trans h1.1,h2.2.trans h1.2⟩,k.t.trans h.t,k.g.trans h.g,fun id o' hn=>by
  by_cases hm:ar.o id=.none
  ·exact k.nl id o' hm
  ·rw [(k.o id hm).1];exact h.nl id o' hn⟩
theorem lG.ei(h:lG s ι ar bb):eI w Z s ι w Z ar bb:=by
 refine⟨fun id=>?_,fun _ _ h=>h,b4.refl _ _⟩
 by_cases hn:s.o id=.none
 ·rw [hn];exact .made _ _ _
 ·rw [(h.o id hn).1,(h.o id hn).2];exact .stay _ _
theorem Yl{id:Nat}(b6:s.o id=.none)(o:cn)(i:bH)(hnl:∀o',o≠.cf o'):lG s ι (s.bR id o) (bU ι id i):=by
 refine⟨fun j hn=>?_,rfl,rfl,fun j o' hn=>?_⟩
 ·have hj:id≠j:=fun e=>hn (e ▸ b6)
  exact⟨cR hj,cR hj⟩
 ·show bU s.o id o j≠_
  by_cases hj:id=j
  ·subst hj;rw [cB];exact hnl o'
  ·rw [cR hj,hn];simp
def HJ(w0:World)(F0 Z0:ah)(n:cC)(s:aq)(a:Act)(w:World)(ι : Nat→bH)(Z:ah)(vs:List Value)(F:ah)(cs:List a_)(ar:aq):Prop :=
 ∃ bb,Inv w0 F0 Z0 n ar a w bb Z∧lG s ι ar bb∧bM w Z ar bb cs vs∧∀G,bL w0 F0 s w ι Z G→ah.apart G F→bL w0 F0 ar w bb Z G
theorem tx(h:Inv w0 F0 Z0 n s a w ι Z){vs:List Value}{F:ah}{cs:List a_}(hc:bM w Z s ι cs vs):HJ w0 F0 Z0 n s a w ι Z vs F cs s :=
 ⟨ι,h,.refl,hc,fun _ hG _=>hG⟩
mutual
theorem ad.oh:∀(t:ad) (m:ba) (dp:List (Nat×Nat)) (x:t.D) (s:aq) (ι : Nat→bH) (j:Nat) (r:List a_×aq×Nat) (vs:List Value) (F:ah),
  t.hS m dp x s j=some r→Inv w0 F0 Z0 n s a w ι Z→t.al w (Z.or (df ι dp)) m x vs F→bL w0 F0 s w ι Z F→ah.apart F (df ι dp)→(∀d,d∈dp→ew s d) →
  HJ w0 F0 Z0 n s a w ι Z vs F r.1 r.2.1
 | .int k,m,dp,x,s,ι,j,r,vs,F,he,h,hr,hf,ng,ag=>by
  simp only [ad.hS] at he;obtain rfl:=aU he
  simp only [ad.al] at hr;subst hr;exact tx h ⟨rfl,trivial⟩
 | .bool,m,dp,x,s,ι,j,r,vs,F,he,h,hr,hf,ng,ag=>by
  simp only [ad.hS] at he;obtain rfl:=aU he
  simp only [ad.al] at hr;subst hr;exact tx h ⟨rfl,trivial⟩
 | .str,m,dp,x,s,ι,j,r,vs,F,he,h,hr,hf,ng,ag=>by
  simp only [ad.hS] at he;obtain rfl:=aU he
  simp only [ad.al] at hr;obtain ⟨q,rfl,hq⟩:=hr;exact tx h ⟨⟨q,rfl,hq⟩,trivial⟩
 | .raw,m,dp,x,s,ι,j,r,vs,F,he,h,hr,hf,ng,ag=>by
  simp only [ad.hS] at he;obtain rfl:=aU he
  simp only [ad.al] at hr;obtain ⟨rfl,hq⟩:=hr;exact tx h ⟨⟨rfl,hq⟩,trivial⟩
 | .sl t,.R,dp,x,s,ι,j,r,vs,F,he,h,hr,hf,ng,ag=>by
  simp only [ad.hS] at he;obtain rfl:=aU he
  have iH:=hr
  simp only [ad.al] at hr;obtain ⟨A,c,rfl,_⟩:=hr
  exact tx h ⟨⟨ag,⟨A,_,c,rfl⟩,fun _=>rE iH,.none⟩,trivial⟩
 | .sl t,.S ms,dp,x,s,ι,j,r,vs,F,he,h,hr,hf,ng,ag=>by
  simp only [ad.hS] at he;obtain rfl:=aU he
  have iH:(ad.sl t).al w (Z.or (df ι dp)) .R x vs F:=by simp only [ad.al] at hr ⊢;exact hr
  simp only [ad.al] at hr;obtain ⟨A,c,rfl,_⟩:=hr
  exact tx h ⟨⟨ag,⟨A,_,c,rfl⟩,fun _=>rE iH,.none⟩,trivial⟩
 | .sl t,.O e,dp,x,s,ι,j,r,vs,F,he,h,hr,hf,ng,ag=>by
  simp only [ad.hS] at he
  cases hq:(dp.isEmpty||ba.beq e t.own)
  ·rw [hq] at he;simp at he
  rw [hq] at he
  cases ho:s.o j with
  | none =>
   rw [ho] at he
   obtain rfl:=aU he
   have gK:(ad.sl t).al w Z (.O e) x vs F:=by
    cases nh:dp with
    | nil=>subst nh;exact ad.al.mono (fun b o hz=>hz.elim (fun h=>h) fun⟨d,ag,_⟩=>by simp at ag) _ _ (fun _ _ h=>h) hr
    | cons d ak6 =>
     subst nh
     have he:e=t.own:=ba.eq_of_beq _ _ (by simpa using hq)
     subst he
     exact tu (.sl t) hr
   simp only [ad.al] at gK
   obtain ⟨A,c,rfl,gK⟩:=gK
   let i:bH:=⟨A,c,F⟩
   have cM:il w Z (s.bR j (.row t e 0 x)) (bU ι j i) i (.row t e 0 x):=by
    rcases gK with gK | ⟨a0,hA,gK⟩
    ·exact .inl gK
    ·exact .inr ⟨a0,hA,gK⟩
   refine⟨bU ι j i,h.Bm ho cM hf,Yl ho _ _ (fun o'=>by simp),⟨⟨?_,A,_,c,rfl,?_⟩,trivial⟩,?_⟩
   ·show bU s.o j _ j≠_
    rw [cB];simp
   ·intro dn em ver xs hh
    have this:(bU s.o j (cn.row t e 0 x) j).core=.row dn em ver xs:=hh
    rw [cB] at this
    have this:cn.row t e 0 x=.row dn em ver xs:=this
    injection this with h1 h2 h3 h4
    subst h1
    obtain rfl:=eq_of_heq h4
    rw [cB]
    refine⟨rfl,by simp [eh],?_,by simp [eh,i],?_⟩
    ·rcases gK with⟨hx,hc⟩ | ⟨a0,hA,gK⟩
     ·subst hx;simp
     ·exact gK.cap
    ·rcases gK with⟨hx,hc⟩ | ⟨a0,hA,gK⟩
     ·exact .inl hc
     ·refine .inr ⟨a0,hA,?_⟩
      rw [hA]
      have:=gK.spot
      obtain ⟨ml,off,sp⟩:=a0
      subst this
      simp [eh,at_]
   ·intro G hG hGF
    refine⟨hG.own,fun id hl=>?_,hG.c2⟩
    by_cases hj:j=id
    ·subst hj;rw [cB];exact hGF
    ·rw [cR hj]
     exact hG.apart id (by have:(bU s.o j _ id).live:=hl;rwa [cR hj] at this)
  | _=>rw [ho] at he;simp at he
 | .st aj,m,dp,x,s,ι,j,r,vs,F,he,h,hr,hf,ng,ag=>by
  simp only [ad.hS] at he;simp only [ad.al] at hr
  exact ax.oh aj m.parts dp x s ι j r vs F he h hr hf ng ag
theorem ax.oh:∀(aj:ax) (m:cU) (dp:List (Nat×Nat)) (x:aj.D) (s:aq) (ι : Nat→bH) (j:Nat) (r:List a_×aq×Nat) (vs:List Value) (F:ah),
  aj.hS m dp x s j=some r→Inv w0 F0 Z0 n s a w ι Z→aj.al w (Z.or (df ι dp)) m x vs F→bL w0 F0 s w ι Z F→ah.apart F (df ι dp)→(∀d,d∈dp→ew s d) →
  HJ w0 F0 Z0 n s a w ι Z vs F r.1 r.2.1
 | .nil,m,dp,x,s,ι,j,r,vs,F,he,h,hr,hf,ng,ag=>by
  simp only [ax.hS] at he;obtain rfl:=aU he
  simp only [ax.al] at hr;subst hr;exact tx h trivial
 | .cons t aj,m,dp,x,s,ι,j,r,vs,F,he,h,hr,hf,ng,ag=>by
  simp only [ax.hS] at he
  obtain ⟨bz,h1,he⟩:=bf he
  obtain ⟨cc,h2,he⟩:=bf he
  obtain rfl:=aU he
  simp only [ax.al] at hr
  obtain ⟨us,bJ,G,H,rfl,ej,fm,gl,jJ,ni⟩:=hr
  have Ym:bL w0 F0 s w ι Z G:=⟨fun b o aA=>hf.own b o (jJ b o aA),fun id hl b o aA=>hf.apart id hl b o (jJ b o aA),fun b o aA=>hf.c2 b o (jJ b o aA)⟩
  have Yn:bL w0 F0 s w ι Z H:=⟨fun b o aA=>hf.own b o (ni b o aA),fun id hl b o aA=>hf.apart id hl b o (ni b o aA),fun b o aA=>hf.c2 b o (ni b o aA)⟩
  obtain ⟨dA,i1,g1,c1,f1⟩:=ad.oh t m.ag dp x.1 s ι j bz us G h1 h ej Ym (fun b o aA=>ng b o (jJ b o aA)) ag
  have O1:∀d,d∈dp→s.o d.1≠.none:=fun d im=>(ag d im).1
  have O2:∀b o,df ι dp b o↔df dA dp b o:=by
   intro b o
   constructor
   ·rintro ⟨d,im,hx⟩;exact⟨d,im,by rw [(g1.o d.1 (O1 d im)).2];exact hx⟩
   ·rintro ⟨d,im,hx⟩;exact⟨d,im,by rw [(g1.o d.1 (O1 d im)).2] at hx;exact hx⟩
  have gm:∀d,d∈dp→ew bz.2.1 d:=by
   intro d im
   have:=ag d im
   unfold ew known kv at *
   rw [(g1.o d.1 this.1).1];exact this
  obtain ⟨eB,i2,g2,gJ,f2⟩:=ax.oh aj m.dv dp x.2 bz.2.1 dA bz.2.2 cc bJ H h2 i1 (ax.al.mono (fun b o hz=>hz.imp (fun h=>h) (fun h=>(O2 b o).1 h)) _ _ (fun _ _ h=>h) fm)
   (f1 H Yn (fun b o k1 k2=>gl b o k2 k1)) (fun b o k1 k2=>ng b o (ni b o k1) ((O2 b o).2 k2)) gm
  refine⟨eB,i2,g1.trans g2,(c1.move g2.ei).append gJ,fun dj HK hGF=>?_⟩
  exact f2 dj (f1 dj HK fun b o k1 k2=>hGF b o k1 (jJ b o k2)) fun b o k1 k2=>hGF b o k1 (ni b o k2)
end
end
end Go.LM
namespace Go.LM
def c_{α : Type}(l:List α)(k:Nat)(us:List α):List α := l.take k++us++l.drop (k+us.length)
theorem Bn{α : Type}(l:List α)(k:Nat):c_ l k []=l:=by simp [c_]
theorem G8{α : Type}{l us:List α}{k:Nat}(h:k+us.length≤l.length):(c_ l k us).length=l.length:=by simp [c_];omega
theorem Yo{α : Type}{A B us:List α}{k:Nat}(h:k+us.length≤A.length):c_ (A++B) k us=c_ A k us++B:=by
 unfold c_
 rw [List.take_append_of_le_length (by omega),List.drop_append_of_le_length (by omega)]
 simp [List.append_assoc]
theorem O3{α : Type}{A B us:List α}{k:Nat}(h:A.length≤k):c_ (A++B) k us=A++c_ B (k-A.length) us:=by
 unfold c_
 obtain ⟨j,rfl⟩:∃j,k=A.length+j:=⟨k-A.length,by omega⟩
 rw [List.take_append,List.take_of_length_le (by omega),Nat.add_sub_cancel_left,show A.length+j+us.length=A.length +(j+us.length) by omega,List.drop_append,List.drop_of_length_le (by omega),Nat.add_sub_cancel_left]
 simp [List.append_assoc]
theorem Yp{α : Type}{A B us vs:List α}{k:Nat}(h:k+us.length=A.length):c_ (A++B) k (us++vs)=c_ A k us++c_ B 0 vs:=by
 unfold c_
 rw [List.take_append_of_le_length (by omega),List.length_append,show k +(us.length+vs.length)=A.length+vs.length by omega,List.drop_append,List.drop_of_length_le (by omega),Nat.add_sub_cancel_left,h,List.drop_length]
 simp [List.append_assoc]
theorem Yq{α : Type}{l us:List α}(h:us.length=l.length):c_ l 0 us=us:=by
 unfold c_;rw [List.take_zero,Nat.zero_add,h,List.drop_length];simp
section
variable{w0:World}{F0 Z0:ah}{n:cC}{s ar:aq}{a b7:Act}{w w':World}{ι bb:Nat→bH}{Z Z':ah}
def O4(w0:World)(F0 Z0:ah)(n:cC)(s:aq)(a:Act)(w:World)(ι : Nat→bH)(Z:ah)(O5:List Value→ah→Prop)(R:ah→List Value→ah→Prop)(size skip:Nat)(vs:List Value)
  (cs':List a_) (ar:aq):Prop :=
 ∃us rest F1 Z',vs=us++rest∧Inv w0 F0 Z0 n ar a w ι Z'∧fb s ι Z ar Z'∧bM w Z' ar ι cs' rest∧bL w0 F0 ar w ι Z' F1 ∧
  (∀b o,F1 b o→∃id,(s.o id).live∧(ι id).F b o)∧skip+us.length≤size∧(cs'≠[]→skip+us.length=size) ∧
  ∀old G,O5 old G→∀id,(ar.o id).live→ah.sub G (ι id).F→R Z' (c_ old skip us) (G.or F1)
mutual
theorem ad.wb:∀(t:ad) (m:ba) (x:t.D) (skip:Nat) (cs:List a_) (s:aq) (r:t.D×List a_×aq) (vs:List Value) (Z:ah),
  t.put m x skip cs s=some r→skip≤t.size→Inv w0 F0 Z0 n s a w ι Z→bM w Z s ι cs vs →
  O4 w0 F0 Z0 n s a w ι Z (fun us F=>t.al w Z m x us F) (fun Z us F=>t.al w Z m r.1 us F) t.size skip vs r.2.1 r.2.2
 | t,m,x,skip,[],s,r,vs,Z,au,pk,h,hc=>by
  have kz:some (x,([]:List a_),s)=some r:=by cases t <;> simpa only [ad.put] using au
  obtain rfl:=aU kz
  cases vs with
  | cons=>exact hc.elim
  | nil =>
   refine⟨[],[],ah.none,Z,rfl,h,.refl,trivial,.none,fun _ _ h=>h.elim,by simpa using pk,fun h=>absurd rfl h,fun _ _ hr _ _ _=>?_⟩
   rw [Bn]
   exact ad.al.mono (fun _ _ h=>h) _ _ (fun _ _ h=>.inl h) hr
 | t,m,x,skip,c :: cs,s,r,vs,Z,au,pk,h,hc=>by
  cases hb:(Nat.beq skip 0&&Nat.ble t.size (cs.length+1)) with
  | true =>
   have kz:(t.imp false m (c :: cs) s []).bind (fun r=>some (r.1,r.2.1,r.2.2.1))=some r:=by
    cases t <;>(simp only [ad.put] at au;rw [hb] at au;exact au)
   obtain ⟨q,hq,kz⟩:=bf kz
   obtain rfl:=aU kz
   have dJ:skip=0∧t.size≤cs.length+1:=by
    simp only [Bool.and_eq_true] at hb
    exact⟨Nat.eq_of_beq_eq_true hb.1,Nat.le_of_ble_eq_true hb.2⟩
   obtain ⟨rfl,_⟩:=dJ
   obtain ⟨us,rest,F,Z',e1,i1,s1,c1,f1,ej,_,jc,_,g1⟩:=ad.lF t false m (c :: cs) s [] q vs Z hq h hc (by simp)
   have qp:=(ad.al.len t m ej).1
   refine⟨us,rest,F,Z',e1,i1,s1,c1,f1,g1,by omega,fun _=>by omega,fun _ _ hr _ _ _=>?_⟩
   have hlen:=(ad.al.len t m hr).1
   rw [Yq (by omega)]
   refine ad.al.mono ?_ _ _ (fun _ _ h=>.inr h) ej
   rintro b o (hz | ⟨d,ag,_⟩)
   ·exact hz
   ·rw [jc rfl] at ag;simp at ag
  | false =>
   cases t with
   | st aj =>
    simp only [ad.put] at au
    rw [hb] at au
    have:=ax.wb aj m.parts x skip (c :: cs) s r vs Z au (by simpa only [ad.size] using pk) h hc
    simpa only [ad.al,ad.size] using this
   | _=>simp only [ad.put] at au;rw [hb] at au;simp at au
theorem ax.wb:∀(aj:ax) (m:cU) (x:aj.D) (skip:Nat) (cs:List a_) (s:aq) (r:aj.D×List a_×aq) (vs:List Value) (Z:ah),
  aj.put m x skip cs s=some r→skip≤aj.size→Inv w0 F0 Z0 n s a w ι Z→bM w Z s ι cs vs →
  O4 w0 F0 Z0 n s a w ι Z (fun us F=>aj.al w Z m x us F) (fun Z us F=>aj.al w Z m r.1 us F) aj.size skip vs r.2.1 r.2.2
 | .nil,m,x,skip,cs,s,r,vs,Z,au,pk,h,hc=>by
  simp only [ax.put] at au
  obtain rfl:=aU au
  simp only [ax.size] at pk ⊢
  refine⟨[],vs,ah.none,Z,rfl,h,.refl,hc,.none,fun _ _ h=>h.elim,by simpa using pk,fun _=>by simp;omega,fun _ _ hr _ _ _=>?_⟩
  rw [Bn]
  simp only [ax.al] at hr ⊢
  exact hr
 | .cons t aj,m,x,skip,cs,s,r,vs,Z,au,pk,h,hc=>by
  simp only [ax.put] at au
  cases hb:Nat.ble t.size skip with
  | true =>
   rw [hb] at au
   have qq:=Nat.le_of_ble_eq_true hb
   obtain ⟨q,hq,au⟩:=bf au
   obtain rfl:=aU au
   simp only [ax.size] at pk
   obtain ⟨us,rest,F1,Z',e1,i1,s1,c1,f1,g1,dN,ek,k1⟩:=ax.wb aj m.dv x.2 (skip-t.size) cs s q vs Z hq (by omega) h hc
   refine⟨us,rest,F1,Z',e1,i1,s1,c1,f1,g1,by simp only [ax.size];omega,fun hne=>by have:=ek hne;simp only [ax.size];omega,fun old G hr id hl hG=>?_⟩
   simp only [ax.al] at hr
   obtain ⟨wc,Bo,G1,G2,rfl,ej,fm,gl,jJ,ni⟩:=hr
   have hl1:=(ad.al.len t _ ej).1
   rw [O3 (by omega),hl1]
   simp only [ax.al]
   refine⟨wc,_,G1,G2.or F1,rfl,ad.al.mono s1.dI _ _ (fun _ _ h=>h) ej,k1 _ _ fm id hl (fun b o aA=>hG b o (ni b o aA)),?_,fun b o aA=>.inl (jJ b o aA),?_⟩
   ·rintro b o aA (hh | hh)
    ·exact gl b o aA hh
    ·exact f1.apart id hl b o hh (hG b o (jJ b o aA))
   ·rintro b o (aA | aA)
    ·exact .inl (ni b o aA)
    ·exact .inr aA
  | false =>
   rw [hb] at au
   have cw:skip<t.size:=by
    rcases Nat.lt_or_ge skip t.size with h | h
    ·exact h
    ·rw [Nat.ble_eq_true_of_le h] at hb;simp at hb
   obtain ⟨c7,oi,au⟩:=bf au
   obtain ⟨eJ,iq,au⟩:=bf au
   obtain rfl:=aU au
   obtain ⟨us,rest,F1,cq,e1,i1,s1,c1,f1,g1,dN,ek,k1⟩:=ad.wb t m.ag x.1 skip cs s c7 vs Z oi (by omega) h hc
   obtain ⟨us2,O6,dO,bN,e2,i2,s2,gJ,f2,g2,mm,pn,k2⟩:=ax.wb aj m.dv x.2 0 c7.2.1 c7.2.2 eJ rest cq iq (by omega) i1 c1
   have fa:c7.2.1=[]→us2=[]∧O6=[]:=by
    intro hcs
    rw [hcs] at c1
    cases rest with
    | nil=>have:=e2;simp at this;exact⟨this.1,this.2⟩
    | cons=>exact c1.elim
   refine⟨us++us2,O6,F1.or dO,bN,by rw [e1,e2,List.append_assoc],i2,s1.trans s2,gJ,(f1.shrink s2).or f2,?_,?_,?_,fun old G hr id hl hG=>?_⟩
   ·rintro b o (hf | hf)
    ·exact g1 b o hf
    ·obtain ⟨id,hl,hi⟩:=g2 b o hf;exact⟨id,(s1.live hl).1,hi⟩
   ·simp only [ax.size,List.length_append]
    by_cases hcs:c7.2.1=[]
    ·rw [(fa hcs).1];simp;omega
    ·have:=ek hcs;omega
   ·intro hne
    simp only [ax.size,List.length_append]
    have h4:=pn hne
    by_cases hcs:c7.2.1=[]
    ·have:eJ.2.1=[]:=by
      have h1:=gJ.len
      rw [(fa hcs).2] at h1
      exact List.eq_nil_of_length_eq_zero (by simpa using h1.symm)
     exact absurd this hne
    ·have:=ek hcs;omega
   ·simp only [ax.al] at hr
    obtain ⟨wc,Bo,G1,G2,rfl,ej,fm,gl,jJ,ni⟩:=hr
    have hl1:=(ad.al.len t _ ej).1
    have gk:=(s2.live hl)
    have bz:=k1 _ _ ej id gk.1 (fun b o aA=>hG b o (jJ b o aA))
    have cc:=k2 _ _ (ax.al.mono s1.dI _ _ (fun _ _ h=>h) fm) id hl (fun b o aA=>hG b o (ni b o aA))
    have hsp:c_ (wc++Bo) skip (us++us2)=c_ wc skip us++c_ Bo 0 us2:=by
     by_cases hcs:c7.2.1=[]
     ·rw [(fa hcs).1,List.append_nil,Bn,Yo (by omega)]
     ·exact Yp (by have:=ek hcs;omega)
    rw [hsp]
    simp only [ax.al]
    refine⟨_,_,G1.or F1,G2.or dO,rfl,ad.al.mono s2.dI _ _ (fun _ _ h=>h) bz,cc,?_,?_,?_⟩
    ·rintro b o (aA | aA) (hh | hh)
     ·exact gl b o aA hh
     ·exact f2.apart id hl b o hh (hG b o (jJ b o aA))
     ·exact f1.apart id gk.1 b o aA (hG b o (ni b o hh))
     ·obtain ⟨Yr,dW,fo⟩:=g2 b o hh
      exact f1.apart Yr dW b o aA fo
    ·rintro b o (aA | aA)
     ·exact .inl (jJ b o aA)
     ·exact .inr (.inl aA)
    ·rintro b o (aA | aA)
     ·exact .inl (ni b o aA)
     ·exact .inr (.inr aA)
end
theorem bM.c_{cs ds:List a_}{us vs:List Value}(h:bM w Z s ι cs us)(k:bM w Z s ι ds vs)(p:Nat) :
  bM w Z s ι (cs.take p++ds++cs.drop (p+ds.length)) (c_ us p vs):=by
 unfold LM.c_
 rw [k.len]
 exact((h.take p).append k).append (h.drop _)
theorem Ys{cs:List a_}{vs:List Value}(h:fb s ι Z ar Z')(hc:bM w Z s ι cs vs):bM w Z' ar ι cs vs:=hc.move h.ei
theorem Yt{b o:Nat}{vs:List Value}(hw:∀i,i<vs.length→fk w b (o+i)):b3 (setCells w b o vs) b o vs:=by
 intro i v hv
 have hi:i<vs.length:=by
  rcases Nat.lt_or_ge i vs.length with h | h
  ·exact h
  ·rw [List.getElem?_eq_none h] at hv;simp at hv
 rw [vZ b vs w o (fun i hi=>(hw i hi).1),if_pos ⟨rfl,by omega,by omega⟩,Nat.add_sub_cancel_left]
 exact hv
theorem ru{b o k:Nat}{old vs:List Value}(hc:b3 w b o old)(hw:∀i,i<old.length→fk w b (o+i))(hk:k+vs.length≤old.length) :
  b3 (setCells w b (o+k) vs) b o (c_ old k vs):=by
 have rL:∀i,i<vs.length→fk w b (o+k+i):=fun i hi=>by have:=hw (k+i) (by omega);rwa [← Nat.add_assoc] at this
 intro i v hv
 have hx:=vZ b vs w (o+k) (fun i hi=>(rL i hi).1) b (o+i)
 rw [hx]
 unfold c_ at hv
 by_cases h1:i<k
 ·rw [if_neg (by omega)]
  rw [List.append_assoc,List.getElem?_append_left (by simp;omega),List.getElem?_take,if_pos h1] at hv
  exact hc i v hv
 ·by_cases h2:i<k+vs.length
  ·rw [if_pos ⟨rfl,by omega,by omega⟩]
   rw [List.getElem?_append_left (by simp;omega),List.getElem?_append_right (by simp;omega)] at hv
   simp only [List.length_take] at hv
   rw [show o+i-(o+k)=i-min k old.length by omega]
   exact hv
  ·rw [if_neg (by omega)]
   rw [List.getElem?_append_right (by simp;omega)] at hv
   simp only [List.length_append,List.length_take,List.getElem?_drop] at hv
   rw [show k+vs.length +(i-(min k old.length+vs.length))=i by omega] at hv
   exact hc i v hv
theorem Yu(h:Inv w0 F0 Z0 n s a w ι Z){p:Place}{cs:List a_}{A:Addr}{vs:List Value}(hr:Bf s p cs=some ar)(au:ju s ι p A)(hc:bM w Z s ι cs vs) :
  ∃b o,A=at_ b o∧(∀i,i<vs.length→fk w b (o+i))∧∃ bb Z',Inv w0 F0 Z0 n ar a (setCells w b o vs) bb Z':=by
 obtain ⟨hs,au⟩:=au
 unfold Bf at hr
 cases ho:s.o p.id with
 | var ver old =>
  rw [ho] at hr au
  obtain ⟨he,a0,hb,rfl⟩:=au
  rw [he] at hr
  have b9:(s.o p.id).live:=by rw [ho];trivial
  simp only at hr
  cases qq:Nat.ble (p.off+cs.length) old.length
  ·rw [qq] at hr;simp at hr
  rw [qq] at hr
  obtain rfl:=aU hr
  have hle:=Nat.le_of_ble_eq_true qq
  have cZ:=h.fT p.id
  rw [ho] at cZ
  obtain ⟨v',us,dJ,hsp,hcu,ck,hwr⟩:=cZ
  rw [hb] at dJ
  obtain rfl:=aU dJ
  have qp:=hcu.len
  have hvl:=hc.len
  have hw:∀i,i<vs.length→fk w a0.block (a0.off+p.off+i):=fun i hi=>by
   have:=(hwr (p.off+i) (by omega)).1;rwa [← Nat.add_assoc] at this
  refine⟨_,_,rfl,hw,ι,Z,?_⟩
  have hx:Ext w (setCells w a0.block (a0.off+p.off) vs) (ι p.id).F:=n6 _ _ _ _ fun i hi=>by
   have:=(hwr (p.off+i) (by omega)).2;rwa [← Nat.add_assoc] at this
  have hm:eI w Z s ι (setCells w a0.block (a0.off+p.off) vs) Z (s.bR p.id (.var (ver+1) (old.take p.off++cs++old.drop (p.off+cs.length)))) ι := by
   refine⟨fun j=>?_,fun _ _ h=>h,b4.jb hx h.rK ?_⟩
   ·show ja (s.o j) (ι j) (bU s.o p.id _ j) (ι j)
    by_cases hj:p.id=j
    ·subst hj;rw [cB,ho];exact .var _ _ _ _ _ (by omega) (by simp;omega)
    ·rw [cR hj];exact .stay _ _
   ·rintro b o (hz | ⟨id,hl,hst,_,hf⟩) iI
    ·exact h.c2 p.id b9 b o iI hz
    ·have hne:id≠p.id:=by
      rintro rfl
      have:bU s.o p.id _ p.id=s.o p.id:=hst
      rw [cB,ho] at this
      injection this with h1 h2
      omega
     exact h.apart id p.id hl b9 hne b o hf iI
  refine h.next hm hx (fun b o hf=>(h.own p.id b9 b o hf).1) (fun _ _ h=>.inl h) ?_ ?_ (fun k=>(h.tmps k).move hm) h.size h.defers
  ·intro j hl hne
   by_cases hj:p.id=j
   ·subst hj
    refine⟨?_,fun b o hf=>⟨(h.own _ b9 b o hf).1,by have:=(h.own _ b9 b o hf).2;exact Nat.lt_of_lt_of_le this hx.size⟩,fun ea gk jI=>?_⟩
    ·show il _ _ _ _ _ (bU s.o p.id _ p.id)
     rw [cB]
     refine⟨a0,c_ us p.off vs,hb,hsp,(hcu.c_ hc p.off).move hm,?_,fun j hj=>?_⟩
     ·exact ru ck (fun i hi=>(hwr i (by omega)).1) (by omega)
     ·have:j<old.length:=by simp at hj;omega
      exact⟨hx.qg (hwr j this).1,(hwr j this).2⟩
    ·have dW:(s.o ea).live:=by
      have:(bU s.o p.id _ ea).live:=gk
      rwa [cR jI] at this
     exact h.apart p.id ea b9 dW jI
   ·exact absurd ⟨cR hj,rfl⟩ hne
  ·intro j hl
   by_cases hj:p.id=j
   ·subst hj;exact h.c2 _ b9
   ·have dW:(s.o j).live:=by
     have:(bU s.o p.id _ j).live:=hl
     rwa [cR hj] at this
    exact h.c2 j dW
 | row t em ver xs =>
  rw [ho] at hr au
  obtain ⟨i,he,hi,a0,hb,rfl⟩:=au
  rw [he] at hr
  have b9:(s.o p.id).live:=by rw [ho];trivial
  simp only at hr
  cases qq:Nat.ble (p.off+cs.length) t.size
  ·rw [qq] at hr;simp at hr
  rw [qq] at hr
  have qq:=Nat.le_of_ble_eq_true qq
  obtain ⟨q,hq,hr⟩:=bf hr
  cases oi:q.2.1 with
  | cons=>rw [oi] at hr;simp at hr
  | nil =>
   cases iq:q.2.2.o p.id with
   | none=>rw [oi,iq] at hr;simp at hr
   | dead=>rw [oi,iq] at hr;simp at hr
   | cf=>rw [oi,iq] at hr;simp at hr
   | var=>rw [oi,iq] at hr;simp at hr
   | row t2 Yv Yw Yx =>
    rw [oi,iq] at hr
    obtain rfl:=aU hr
    have pk:p.off≤t.size:=by omega
    obtain ⟨us,rest,F1,cq,e1,i1,s1,c1,f1,g1,dN,ek,k1⟩:=ad.wb t em (J t xs i) p.off cs s q vs Z hq pk h hc
    rw [oi] at c1
    have fa:rest=[]:=by
     cases rest with
     | nil=>rfl
     | cons=>exact c1.elim
    subst fa
    rw [List.append_nil] at e1
    subst e1
    have hl1:(q.2.2.o p.id).live:=by rw [iq];trivial
    have hst:=(s1.live hl1).2
    rw [ho] at hst
    have cZ:=h.fT p.id
    rw [ho] at cZ
    rcases cZ with⟨rfl,_⟩ | ⟨v',dJ,hrow⟩
    ·simp at hi
    rw [hb] at dJ
    obtain rfl:=aU dJ
    have hin:(i+1)*t.size≤(ι p.id).cap*t.size:=Nat.mul_le_mul_right _ (by have:=hrow.cap;omega)
    have hin':i*t.size+t.size≤(ι p.id).cap*t.size:=by rw [← Nat.add_one_mul];exact hin
    have hw:∀k,k<vs.length→fk w a0.block (a0.off+i*t.size+p.off+k):=fun k hk=>by
     have:=(hrow.wr (i*t.size+p.off+k) (by omega)).1
     rwa [show a0.off +(i*t.size+p.off+k)=a0.off+i*t.size+p.off+k by omega] at this
    have Yy:∀k,k<vs.length→(ι p.id).F a0.block (a0.off+i*t.size+p.off+k):=fun k hk=>by
     have:=hrow.inF (i*t.size+p.off+k) (by omega)
     rwa [show a0.off +(i*t.size+p.off+k)=a0.off+i*t.size+p.off+k by omega] at this
    refine⟨_,_,rfl,hw,?_⟩
    let cz:bH:=⟨(ι p.id).base,(ι p.id).cap,(ι p.id).F.or F1⟩
    let o':cn:=.row t em (ver+1) (xs.set i q.1)
    have hx:Ext w (setCells w a0.block (a0.off+i*t.size+p.off) vs) (ι p.id).F:=n6 _ _ _ _ Yy
    have hm:eI w cq q.2.2 ι (setCells w a0.block (a0.off+i*t.size+p.off) vs) cq (q.2.2.bR p.id o') (bU ι p.id cz):=by
     refine⟨fun j=>?_,fun _ _ h=>h,b4.jb hx i1.rK ?_⟩
     ·show ja (q.2.2.o j) (ι j) (bU q.2.2.o p.id o' j) (bU ι p.id cz j)
      by_cases hj:p.id=j
      ·subst hj;rw [cB,cB,hst];exact .row _ _ _ _ _ _ _ _ _ (by omega) (by simp) rfl rfl
      ·rw [cR hj,cR hj];exact .stay _ _
     ·rintro b o (hz | ⟨id,hl,qn,_,hf⟩) iI
      ·exact i1.c2 p.id hl1 b o iI hz
      ·have hne:id≠p.id:=by
        rintro rfl
        have:bU q.2.2.o p.id o' p.id=q.2.2.o p.id:=qn
        rw [cB,hst] at this
        injection this with h1 h2 h3
        omega
       exact i1.apart id p.id hl hl1 hne b o hf iI
    have rM:∀ {j},p.id≠j→((q.2.2.bR p.id o').o j).live→(q.2.2.o j).live:=fun hj hl=>by
     have:(bU q.2.2.o p.id o' _).live:=hl
     rwa [cR hj] at this
    refine⟨_,_,i1.next hm hx (fun b o hf=>(i1.own p.id hl1 b o hf).1) (fun _ _ h=>.inl h) ?_ ?_ (fun k=>(i1.tmps k).move hm) i1.size i1.defers⟩
    ·intro j hl hne
     by_cases hj:p.id=j
     ·subst hj
      rw [cB]
      refine⟨?_,fun b o hf=>?_,fun ea gk jI=>?_⟩
      ·show il _ _ _ _ _ (bU q.2.2.o p.id o' p.id)
       rw [cB]
       refine .inr ⟨a0,hb,hrow.spot,by simpa [o'] using hrow.cap,fun j hj=>hx.kt (hrow.wr j hj),fun j hj=>.inl (hrow.inF j hj),?_⟩
       obtain ⟨G,bz,cc,gj⟩:=hrow.row
       have O7:b4 w (setCells w a0.block (a0.off+i*t.size+p.off) vs) G:=by
        intro b o aA
        refine⟨?_,fun _=>Ye _ _ _ _ _ _⟩
        rw [vZ _ _ _ _ (fun i hi=>(hw i hi).1),if_neg]
        rintro ⟨rfl,h1,h2⟩
        have:=cc (o-a0.off) (by omega)
        rw [show a0.off +(o-a0.off)=o by omega] at this
        exact this aA
       have O8:b4 w (setCells w a0.block (a0.off+i*t.size+p.off) vs) cq:=hm.same.mono fun b o hz=>.inl hz
       have Yz:b4 w (setCells w a0.block (a0.off+i*t.size+p.off) vs) F1:=by
        refine b4.jb hx (fun b o hf=>(f1.own b o hf).2) fun b o hf iI=>f1.apart p.id hl1 b o hf iI
       refine⟨G.or F1,?_,?_,?_⟩
       ·refine Row.set (w:=w) (R:=t.al w Z em) i hi bz (fun y us dj hG aN=>ad.al.same O8 _ _ (O7.mono hG) (ad.al.mono s1.dI _ _ (fun _ _ h=>h) aN)) ?_ ?_ (fun b o hf aA=>f1.apart p.id hl1 b o hf (gj b o aA))
        ·intro j hj HH
         rw [vZ _ _ _ _ (fun i hi=>(hw i hi).1),if_neg]
         rintro ⟨_,h1,h2⟩
         rw [Nat.add_one_mul] at HH
         omega
        ·intro us dj k2 k3 bg bx
         refine⟨c_ us p.off vs,by rw [G8 (by omega)];exact k3,?_,?_⟩
         ·refine ru bg (fun k hk=>?_) (by omega)
          have:=(hrow.wr (i*t.size+k) (by omega)).1
          rwa [← Nat.add_assoc] at this
         ·have:=k1 us dj (by rw [c8 hi];exact k2) p.id hl1 (fun b o aA=>gj b o (bx b o aA))
          refine ad.al.same O8 _ _ ?_ this
          intro b o aA
          rcases aA with aA | aA
          ·exact O7 b o (bx b o aA)
          ·exact Yz b o aA
       ·rintro j hj (aA | aA)
        ·exact cc j hj aA
        ·exact f1.apart p.id hl1 _ _ aA (hrow.inF j hj)
       ·rintro b o (aA | aA)
        ·exact .inl (gj b o aA)
        ·exact .inr aA
      ·rcases hf with hf | hf
       ·exact⟨(i1.own _ hl1 b o hf).1,Nat.lt_of_lt_of_le (i1.own _ hl1 b o hf).2 hx.size⟩
       ·exact⟨(f1.own b o hf).1,Nat.lt_of_lt_of_le (f1.own b o hf).2 hx.size⟩
      ·rw [cR jI]
       have dW:=rM jI gk
       rintro b o (hf | hf) iI
       ·exact i1.apart p.id ea hl1 dW jI b o hf iI
       ·exact f1.apart ea dW b o hf iI
     ·exact absurd ⟨cR hj,cR hj⟩ hne
    ·intro j hl
     by_cases hj:p.id=j
     ·subst hj
      rw [cB]
      rintro b o (hf | hf) hz
      ·exact i1.c2 _ hl1 b o hf hz
      ·exact f1.c2 b o hf hz
     ·rw [cR hj];exact i1.c2 j (rM hj hl)
 | none=>rw [ho] at hr;simp at hr
 | dead=>rw [ho] at hr;simp at hr
 | cf=>rw [ho] at hr;simp at hr
end
end Go.LM
namespace Go.LM
mutual
def ad.cN:ad→List Value
 | .int k=>[.int k 0]
 | .bool=>[.bool false]
 | .str=>[.string ⟨#[]⟩]
 | .raw=>[.slice none 0 0]
 | .sl _=>[.slice none 0 0]
 | .st aj=>aj.cN
def ax.cN:ax→List Value
 | .nil=>[]
 | .cons t aj=>t.cN++aj.cN
end
def dK(t:ad)(vs:List Value):Value :=
 match t with
 | .st _=>.agg vs.toArray
 | _=>vs.headD undef
def lH(P:Program)(id:TypeId)(t:ad):Prop :=
 ∃i,P.info? id=some i∧i.size=t.size∧i.zero=some (dK t t.cN)∧i.bytes≤2048
mutual
def ad.ok(P:Program):ad→TypeId→Prop
 | .int k,id=>P.underlying id=some (.int k)∧lH P id (.int k)
 | .bool,id=>P.underlying id=some .bool∧lH P id .bool
 | .str,id=>P.underlying id=some .string∧lH P id .str
 | .raw,id=>lH P id .raw∧∃e,P.underlying id=some (.slice e)
 | .sl t,id=>lH P id (.sl t)∧∃e,P.underlying id=some (.slice e)∧t.ok P e
 | .st aj,id=>lH P id (.st aj)∧∃cp,P.underlying id=some (.struct cp)∧aj.okF P cp.toList 0
def ax.okF(P:Program):ax→List Field→Nat→Prop
 | .nil,cp,_=>cp=[]
 | .cons t aj,cp,off=>∃f lI,cp=f :: lI∧f.offset=off∧t.ok P f.type∧aj.okF P lI (off+t.size)
end
def ad.agg:ad→Bool
 | .st _=>true
 | _=>false
theorem ad.ok.info{P:Program}{t:ad}{id:TypeId}(h:t.ok P id):lH P id t:=by
 cases t <;> simp only [ad.ok] at h <;> first | exact h.2 | exact h.1
theorem ad.lJ:∀t:ad,t.cN.length=t.size
 | .int _=>rfl
 | .bool=>rfl
 | .str=>rfl
 | .raw=>rfl
 | .sl _=>rfl
 | .st aj=>by
  simp only [ad.cN,ad.size]
  exact go aj
where
 go:∀aj:ax,aj.cN.length=aj.size
 | .nil=>rfl
 | .cons t aj=>by simp only [ax.cN,ax.size,List.length_append,ad.lJ t,go aj]
section
variable{P:Program}{t:ad}{id:TypeId}{w:World}
theorem run_underlying{d:TypeDesc}(h:P.underlying id=some d):(underlying id).run P w=.ok d w:=by
 simp [underlying,run_bind,program,Sem.run,h,run_pure]
theorem run_typeInfo{i:TypeInfo}(h:P.info? id=some i):(typeInfo id).run P w=.ok i w:=by
 simp [typeInfo,run_bind,program,Sem.run,h,run_pure]
theorem run_sizeOf(h:t.ok P id):(sizeOf id).run P w=.ok t.size w:=by
 obtain ⟨i,h1,h2,_⟩:=h.info
 simp [sizeOf,run_bind,run_typeInfo h1,run_pure,h2]
theorem Bp(h:t.ok P id):(zeroValue id).run P w=.ok (dK t t.cN) w:=by
 obtain ⟨i,h1,_,h3,_⟩:=h.info
 simp [zeroValue,run_bind,run_typeInfo h1,run_pure,h3]
theorem O9(h:t.ok P id):(isAgg id).run P w=.ok t.agg w:=by
 unfold isAgg
 cases t with
 | st aj=>obtain ⟨_,cp,h1,_⟩:=(by simpa only [ad.ok] using h:lH P id (.st aj)∧∃cp,P.underlying id=some (.struct cp)∧aj.okF P cp.toList 0);rw [run_bind,run_underlying h1];rfl
 | sl t=>obtain ⟨_,e,h1,_⟩:=(by simpa only [ad.ok] using h:lH P id (.sl t)∧∃e,P.underlying id=some (.slice e)∧t.ok P e);rw [run_bind,run_underlying h1];rfl
 | raw=>obtain ⟨_,e,h1⟩:=(by simpa only [ad.ok] using h:lH P id .raw∧∃e,P.underlying id=some (.slice e));rw [run_bind,run_underlying h1];rfl
 | int k=>have h1:=(by simpa only [ad.ok] using h:P.underlying id=some (.int k)∧lH P id (.int k));rw [run_bind,run_underlying h1.1];rfl
 | bool=>have h1:=(by simpa only [ad.ok] using h:P.underlying id=some .bool∧lH P id .bool);rw [run_bind,run_underlying h1.1];rfl
 | str=>have h1:=(by simpa only [ad.ok] using h:P.underlying id=some .string∧lH P id .str);rw [run_bind,run_underlying h1.1];rfl
theorem HL(h:t.agg=false):t.size=1:=by cases t <;> simp_all [ad.agg,ad.size]
theorem HM(h:t.agg=true)(vs:List Value):dK t vs=.agg vs.toArray:=by cases t <;> simp_all [ad.agg,dK]
theorem HN(h:t.agg=false)(v:Value):dK t [v]=v:=by cases t <;> simp_all [ad.agg,dK]
theorem HO(h:t.ok P id){b o:Nat}{vs:List Value}(hc:b3 w b o vs)(hl:vs.length=t.size):(loadVar id (at_ b o)).run P w=.ok (dK t vs) w:=by
 unfold loadVar
 rw [run_bind,O9 h]
 simp only
 cases ha:t.agg
 ·rw [HL ha] at hl
  match vs,hl with
  | [v],_ =>
   rw [HN ha]
   simp only [Bool.false_eq_true,if_false]
   exact run_load hc.head
 ·simp only [if_true]
  rw [run_bind,run_sizeOf h,← hl]
  simp only
  rw [run_bind,run_loadCells hc,HM ha]
  rfl
theorem HP{v:Value}(h:ee v=true):v.cells = #[v]:=by cases v <;> simp_all [ee,Value.cells]
theorem HQ(h:t.ok P id){b o:Nat}{v:Value}(hl:v.cells.size=t.size)(h1:∀u∈v.cells.toList,ee u=true)(hw:∀i,i<v.cells.size→fk w b (o+i)) :
  (storeVar id (at_ b o) v).run P w=.ok () (setCells w b o v.cells.toList):=by
 unfold storeVar
 rw [run_bind,run_sizeOf h]
 simp only
 rw [if_neg (by simp [hl])]
 have:=A8 (P:=P) (b:=b) (o:=o) v.cells.toList w 0 h1 (fun i hi=>by simpa using hw i (by simpa using hi))
 simpa using this
theorem O_{e:TypeId}{v:Value} :(newVar e v).run P w=.ok (at_ w.heap.size 0) { w with heap:=w.heap.push (.cells v.cells e) } := by
 simp [newVar,newRow,Go.newObj,run_bind,Sem.run,run_pure,at_]
end
section
variable{w0:World}{F0 Z0:ah}{n:cC}{s ar:aq}{a b7:Act}{w w':World}{ι bb:Nat→bH}{Z Z':ah}
theorem rN{t:ad}{x:a7}{cs:List a_}{v:Value}(h:iX t x=some cs)(hv:aP w Z s ι x v):bM w Z s ι cs v.cells.toList:=by
 cases x <;> simp only [iX] at h <;> try (simp at h;done)
 ·obtain rfl:=aU h
  simp only [aP] at hv
  rw [HP hv.ee]
  exact⟨hv,trivial⟩
 ·obtain rfl:=aU h
  simp only [aP] at hv
  obtain ⟨vs,rfl,hc⟩:=hv
  simpa [Value.cells] using hc
 ·cases t <;> simp at h
  subst h
  simp only [aP] at hv
  subst hv
  exact⟨rfl,trivial⟩
theorem pq{t:ad}{x:a7}{cs:List a_}{vs:List Value}(h:j2 t cs=some x)(hc:bM w Z s ι cs vs):aP w Z s ι x (dK t vs):=by
 cases t with
 | st aj=>simp only [j2] at h;obtain rfl:=aU h;simp only [aP,dK];exact⟨vs,rfl,hc⟩
 | _ =>
  simp only [j2] at h
  match cs,vs,hc with
  | [],[],_=>simp at h
  | [c],[v],hc=>simp at h;subst h;simp only [aP,dK];exact hc.1
  | _ :: _ :: _,_,_=>simp at h
theorem rO:∀t:ad,bM w Z s ι t.jt t.cN
 | .int _=>⟨rfl,trivial⟩
 | .bool=>⟨rfl,trivial⟩
 | .str=>⟨⟨_,rfl,rfl⟩,trivial⟩
 | .raw=>⟨⟨rfl,_,_,_,rfl⟩,trivial⟩
 | .sl _=>⟨rfl,trivial⟩
 | .st aj=>by simp only [ad.jt,ad.cN];exact go aj
where
 go:∀aj:ax,bM w Z s ι aj.jt aj.cN
 | .nil=>trivial
 | .cons t aj=>by simp only [ax.jt,ax.cN];exact(rO t).append (go aj)
theorem HR{t:ad}{vs:List Value}(hl:vs.length=t.size)(h1:∀v∈vs,ee v=true):(dK t vs).cells.toList=vs:=by
 cases ha:t.agg
 ·rw [HL ha] at hl
  match vs,hl with
  | [v],_=>rw [HN ha,HP (h1 v (by simp))]
 ·rw [HM ha];simp [Value.cells]
theorem Inv.newVar(h:Inv w0 F0 Z0 n s a w ι Z){id:Nat}(b6:s.o id=.none){cs:List a_}{vs:Array Value}(hc:bM w Z s ι cs vs.toList)(e:TypeId) :
  Inv w0 F0 Z0 n (s.bR id (.var 0 cs)) a { w with heap:=w.heap.push (.cells vs e) } (bU ι id ⟨some (at_ w.heap.size 0),0,ah.run w.heap.size 0 cs.length⟩) Z:=by
 have hx:=Ext.push w (.cells vs e) ah.none
 have hm:=OX h b6 hx (.var 0 cs) ⟨some (at_ w.heap.size 0),0,ah.run w.heap.size 0 cs.length⟩
 have hl:=hc.len
 refine h.new b6 hx ?_ ?_
 ·refine⟨at_ w.heap.size 0,vs.toList,rfl,rfl,hc.move hm,?_,fun j hj=>⟨⟨?_,?_⟩,rfl,by simp [at_],by simpa [at_] using hj⟩⟩
  ·intro i v hv
   show World.cell? _ (at_ w.heap.size (0+i))=_
   rw [OS];simpa using hv
  ·refine⟨vs[j]'(by simp at hl;omega),?_⟩
   show World.cell? _ (at_ w.heap.size (0+j))=_
   rw [OS];simp
  ·show World.frozen? _ (at_ w.heap.size (0+j))=_
   rw [qh,OR];simp
 ·rintro b o ⟨rfl,_,_⟩;simp
end
end Go.LM
