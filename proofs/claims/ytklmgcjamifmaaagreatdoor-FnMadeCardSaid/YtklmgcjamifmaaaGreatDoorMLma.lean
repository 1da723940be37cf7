/- The data and the interpreter of the reflective walk, and how its states stand for frames and worlds. Conditions: each theorem's own hypotheses. -/
import Derived.Calls
import Derived.KernelRfl
import Derived.Orders
set_option linter.unusedVariables false
set_option linter.unusedSimpArgs false
namespace Go.LM
theorem av.{u,v}{α:Type u}{β:Type v}(a:α)(f:α→Option β):(some a).bind f=f a:=rfl
theorem aT.{u}{α:Type u}{a b:α}(h:some a=some b):a=b:=_root_.Option.some.inj h
theorem bg.{u,v}{α:Type u}{β:Type v}{o:Option α}{f:α→Option β}{b:β}(h:o.bind f=some b):∃a,o=some a∧f a=some b:=_root_.Option.bind_eq_some_iff.1 h
mutual
inductive ad where
 | int (k:IntKind)
 | bool
 | str
 | sl (t:ad)
 | st (aj:ay)
 | raw
inductive ay where
 | nil
 | cons (t:ad) (aj:ay)
end
mutual
@[reducible] def ad.D:ad→Type
 | .int _=>Int
 | .bool=>Bool
 | .str=>List UInt8
 | .sl t=>List t.D
 | .st aj=>aj.D
 | .raw=>Value
@[reducible] def ay.D:ay→Type
 | .nil=>Unit
 | .cons t aj=>t.D×aj.D
end
def dq:IntKind→Nat
 | .i8=>0 | .i16=>1 | .i32=>2 | .i64=>3 | .u8=>4 | .u16=>5 | .u32=>6 | .u64=>7
theorem tf:∀ {a b:IntKind},dq a=dq b→a=b:=by
 intro a b;cases a <;> cases b <;> simp [dq]
mutual
def ad.beq:ad→ad→Bool
 | .int a,.int b=>Nat.beq (dq a) (dq b)
 | .bool,.bool=>true
 | .str,.str=>true
 | .sl a,.sl b=>ad.beq a b
 | .st a,.st b=>ay.beq a b
 | .raw,.raw=>true
 | _,_=>false
def ay.beq:ay→ay→Bool
 | .nil,.nil=>true
 | .cons a as,.cons b bl=>cond (ad.beq a b) (ay.beq as bl) false
 | _,_=>false
end
mutual
theorem ad.eq_of_beq:∀(a b:ad),ad.beq a b=true→a=b
 | .int a,.int b,h=>by simp only [ad.beq] at h;rw [tf (Nat.eq_of_beq_eq_true h)]
 | .bool,.bool,_=>rfl
 | .str,.str,_=>rfl
 | .sl a,.sl b,h=>by simp only [ad.beq] at h;rw [ad.eq_of_beq a b h]
 | .st a,.st b,h=>by simp only [ad.beq] at h;rw [ay.eq_of_beq a b h]
 | .raw,.raw,_=>rfl
 | .int _,.bool,h | .int _,.str,h | .int _,.sl _,h | .int _,.st _,h | .int _,.raw,h=>by simp [ad.beq] at h
 | .bool,.int _,h | .bool,.str,h | .bool,.sl _,h | .bool,.st _,h | .bool,.raw,h=>by simp [ad.beq] at h
 | .str,.int _,h | .str,.bool,h | .str,.sl _,h | .str,.st _,h | .str,.raw,h=>by simp [ad.beq] at h
 | .sl _,.int _,h | .sl _,.bool,h | .sl _,.str,h | .sl _,.st _,h | .sl _,.raw,h=>by simp [ad.beq] at h
 | .st _,.int _,h | .st _,.bool,h | .st _,.str,h | .st _,.sl _,h | .st _,.raw,h=>by simp [ad.beq] at h
 | .raw,.int _,h | .raw,.bool,h | .raw,.str,h | .raw,.sl _,h | .raw,.st _,h=>by simp [ad.beq] at h
theorem ay.eq_of_beq:∀(a b:ay),ay.beq a b=true→a=b
 | .nil,.nil,_=>rfl
 | .cons a as,.cons b bl,h=>by
  simp only [ay.beq] at h
  cases hb:ad.beq a b
  ·rw [hb] at h;simp at h
  ·rw [hb] at h;rw [ad.eq_of_beq a b hb,ay.eq_of_beq as bl h]
 | .nil,.cons _ _,h | .cons _ _,.nil,h=>by simp [ay.beq] at h
end
def eG(a b:ad)(x:a.D):Option b.D :=
 if h:ad.beq a b=true then some ((ad.eq_of_beq a b h) ▸ x) else none
theorem Bd{a b:ad}{x:a.D}{y:b.D}(h:eG a b x=some y):∃e:a=b,y=e ▸ x:=by
 unfold eG at h
 split at h
 ·rename_i hb;exact⟨ad.eq_of_beq a b hb,by injection h with h;exact h.symm⟩
 ·simp at h
mutual
def ad.size:ad→Nat
 | .st aj=>aj.size
 | _=>1
def ay.size:ay→Nat
 | .nil=>0
 | .cons t aj=>t.size+aj.size
end
mutual
def ad.zero:(t:ad)→t.D
 | .int _=>(0:Int)
 | .bool=>false
 | .str=>([]:List UInt8)
 | .sl t=>([]:List t.D)
 | .st aj=>aj.zero
 | .raw=>(.slice none 0 0:Value)
def ay.zero:(aj:ay)→aj.D
 | .nil=>()
 | .cons t aj=>(t.zero,aj.zero)
end
mutual
inductive a' where
 | R
 | O (e:a')
 | S (ms:cU)
inductive cU where
 | nil
 | cons (m:a') (ms:cU)
end
mutual
def a'.beq:a'→a'→Bool
 | .R,.R=>true
 | .O a,.O b=>a'.beq a b
 | .S a,.S b=>cU.beq a b
 | _,_=>false
def cU.beq:cU→cU→Bool
 | .nil,.nil=>true
 | .cons a as,.cons b bl=>cond (a'.beq a b) (cU.beq as bl) false
 | _,_=>false
end
mutual
theorem a'.eq_of_beq:∀(a b:a'),a'.beq a b=true→a=b
 | .R,.R,_=>rfl
 | .O a,.O b,h=>by simp only [a'.beq] at h;rw [a'.eq_of_beq a b h]
 | .S a,.S b,h=>by simp only [a'.beq] at h;rw [cU.eq_of_beq a b h]
 | .R,.O _,h | .R,.S _,h | .O _,.R,h | .O _,.S _,h | .S _,.R,h | .S _,.O _,h=>by simp [a'.beq] at h
theorem cU.eq_of_beq:∀(a b:cU),cU.beq a b=true→a=b
 | .nil,.nil,_=>rfl
 | .cons a as,.cons b bl,h=>by
  simp only [cU.beq] at h
  cases hb:a'.beq a b
  ·rw [hb] at h;simp at h
  ·rw [hb] at h;rw [a'.eq_of_beq a b hb,cU.eq_of_beq as bl h]
 | .nil,.cons _ _,h | .cons _ _,.nil,h=>by simp [cU.beq] at h
end
def a'.elem:a'→a'
 | .O e=>e
 | _=>.R
def cU.ag:cU→a'
 | .cons m _=>m
 | .nil=>.R
def cU.dx:cU→cU
 | .cons _ ms=>ms
 | .nil=>.nil
def a'.parts:a'→cU
 | .S ms=>ms
 | _=>.nil
structure Place where
 id:Nat
 fa:Option Nat
 off:Nat
inductive a8 where
 | int (k:IntKind) (x:Int)
 | bool (b:Bool)
 | str (s:List UInt8)
 | raw (v:Value)
 | nil (t:ad)
 | b1 (t:ad) (ak4:List (Nat×Nat)) (ak5:Option Place) (xs:List t.D)
 | ag (id:Nat) (sub:Option (Nat×Nat))
inductive a6 where
 | aD
 | gone
 | aV (c:a8)
 | iu (cs:List a8)
 | ptr (p:Place)
 | dk (dp:List (Nat×Nat)) (cs:List a8) (off:Nat)
 | jY
 | kQ
 | opt (id:Nat) (o:Int)
 | rk (t:ad)
 | may (b:Bool) (dp:List (Nat×Nat)) (cs:List a8)
 | fn (f:FuncId) (first lx:List a6)
 | o9 (l:List a6)
inductive cm where
 | none
 | dead
 | var (ver:Nat) (cs:List a8)
 | row (t:ad) (em:a') (ver:Nat) (xs:List t.D)
 | ch (o:cm)
def cm.core:cm→cm
 | .ch o=>o
 | o=>o
structure an where
 t:Nat→a6
 o:Nat→cm
 g:List a6
def bU{α : Type}(f:Nat → α)(i:Nat)(v : α):Nat → α := fun j=>cond (Nat.beq j i) v (f j)
theorem cw{α : Type}(f:Nat → α)(i:Nat)(v : α):bU f i v i=v:=by simp [bU]
theorem rl{α : Type}{f:Nat → α}{i j:Nat}{v : α}(h:j≠i):bU f i v j=f j:=by
 unfold bU
 have:Nat.beq j i=false:=by
  cases hb:Nat.beq j i
  ·rfl
  ·exact absurd (Nat.eq_of_beq_eq_true hb) h
 rw [this];rfl
def an.set(s:an)(d:Nat)(v:a6):an:=⟨bU s.t d v,s.o,s.g⟩
def an.bQ(s:an)(i:Nat)(v:cm):an:=⟨s.t,bU s.o i v,s.g⟩
def an.dst(s:an)(d:Option Nat)(v:a6):an :=
 match d with
 | some d=>s.set d v
 | none=>s
mutual
def ad.cells:(t:ad)→List (Nat×Nat)→Option Place→t.D→List a8
 | .int k,_,_,x=>[.int k x]
 | .bool,_,_,x=>[.bool x]
 | .str,_,_,x=>[.str x]
 | .sl t,dp,cr,x=>[.b1 t dp cr x]
 | .st aj,dp,cr,x=>aj.cells dp cr x
 | .raw,_,_,x=>[.raw x]
def ay.cells:(aj:ay)→List (Nat×Nat)→Option Place→aj.D→List a8
 | .nil,_,_,_=>[]
 | .cons t aj,dp,cr,x=>t.cells dp cr x.1++aj.cells dp (cr.map fun p => { p with off:=p.off+t.size }) x.2
end
mutual
def ad.jl:ad→List a8
 | .int k=>[.int k 0]
 | .bool=>[.bool false]
 | .str=>[.str []]
 | .sl t=>[.nil t]
 | .st aj=>aj.jl
 | .raw=>[.raw (.slice none 0 0)]
def ay.jl:ay→List a8
 | .nil=>[]
 | .cons t aj=>t.jl++aj.jl
end
mutual
def ad.own:ad→a'
 | .sl t=>.O t.own
 | .st aj=>if aj.flat then .R else .S aj.own
 | _=>.R
def ay.own:ay→cU
 | .nil=>.nil
 | .cons t aj=>.cons t.own aj.own
def ad.flat:ad→Bool
 | .sl _=>false
 | .st aj=>aj.flat
 | _=>true
def ay.flat:ay→Bool
 | .nil=>true
 | .cons t aj=>cond t.flat aj.flat false
end
def a'.le(a b:a'):Bool :=
 match b with
 | .R=>true
 | _=>a'.beq a b
end Go.LM
namespace Go.LM
def room(n:Nat):Bool:=Nat.ble n 68719476736
def jF{bs : Type}(b:Bool)(x:Option bs):Option bs := cond b x none
def aM(n:Nat)(i:Int):Option Nat:=if 0≤i∧i<(n:Int) then some i.toNat else none
def d_(n:Nat)(lo hi:Int):Option (Nat×Nat):=if 0≤lo∧lo≤hi∧hi≤(n:Int) then some (lo.toNat,hi.toNat) else none
def J(t:ad)(xs:List t.D)(n:Nat):t.D:=xs.getD n t.zero
def part{α : Type}(l:List α)(lo len:Nat):List α :=(l.drop lo).take len
def aG(x:Int):Int:=IntKind.wrap .i64 x
def cR(op:BinOp)(k:IntKind)(x y:Int):Int :=
 let a:=BitVec.ofInt k.bits x
 let b:=BitVec.ofInt k.bits y
 match op with
 | .and=>k.wrap (a &&& b).toNat
 | .or=>k.wrap (a ||| b).toNat
 | .xor=>k.wrap (a ^^^ b).toNat
 | _=>k.wrap (a &&& ~~~b).toNat
def bn(x y:List UInt8):Bool:=decide (x=y)
def dy(x y:List UInt8):Bool:=Op.bytesLess x y
def X1(x y:Int):Int:=if y>x then y else x
def jG(x y:Int):Int:=if y<x then y else x
def ez(s:List UInt8):List Int:=s.map fun b=>(b.toNat:Int)
def gB(l:List Int):List UInt8:=l.map fun n=>UInt8.ofNat n.toNat
inductive bC where
 | val (t:ad) (m:a')
 | ref (t:ad)
 | mut (t:ad) (m m':a')
 | hC (t:ad) (m:a')
 | fn (l9 o_:Nat)
 | hD (t:ad)
inductive cX where
 | val (t:ad) (m:a')
 | opt (arg off:Nat) (t:ad)
 | new (t:ad) (m:a')
 | pa (t:ad)
 | any (t:ad)
def bC.ins:List bC→ay
 | []=>.nil
 | .val t _ :: l | .ref t :: l | .mut t _ _ :: l | .hC t _ :: l | .hD t :: l=>.cons t (bC.ins l)
 | .fn _ _ :: l=>bC.ins l
def cX.outs:List cX→ay→ay
 | [],aj=>aj
 | .val t _ :: l,aj=>.cons t (cX.outs l aj)
 | .new t _ :: l,aj=>.cons t (cX.outs l aj)
 | .pa t :: l,aj=>.cons (.sl t) (cX.outs l aj)
 | .any _ :: l,aj=>cX.outs l aj
 | .opt _ _ _ :: l,aj=>.cons (.int .i64) (cX.outs l aj)
def bC.dZ:List bC→ay
 | []=>.nil
 | .mut t _ _ :: l | .hC t _ :: l=>.cons t (bC.dZ l)
 | _ :: l=>bC.dZ l
structure Entry where
 ps:List bC
 rs:List cX
 f:(bC.ins ps).D→Option (cX.outs rs (bC.dZ ps)).D
structure Env where
 n:Nat
 ty:Nat→Option ad
 He:Nat→Bool
 tg:Nat→Bool
 fns:FuncId→FuncId→Option Entry
def kR{α : Type}(sub:Option (Nat×Nat))(xs:List α):List α :=
 match sub with
 | none=>xs
 | some (lo,len)=>part xs lo len
def ly{α : Type}(sub:Option (Nat×Nat))(xs:List α):Nat :=
 match sub with
 | none=>xs.length
 | some (_,len)=>len
def ei(sub:Option (Nat×Nat)):Nat :=
 match sub with
 | none=>0
 | some (lo,_)=>lo
def alive(s:an):List (Nat×Nat)→Bool
 | []=>true
 | (i,v) :: l=>match s.o i with
  | .row _ _ w _=>cond (Nat.beq w v) (alive s l) false
  | .var w _=>cond (Nat.beq w v) (alive s l) false
  | _=>false
def ks(s:an)(id:Nat):Nat :=
 match s.o id with
 | .row _ _ v _=>v
 | .var v _=>v
 | .ch (.row _ _ v _)=>v
 | .ch (.var v _)=>v
 | _=>0
def pb(s:an)(t:ad):a8→Option (List t.D)
 | .nil u=>eG (.sl u) (.sl t) ([]:List u.D)
 | .b1 u dp _ xs=>cond (alive s dp) (eG (.sl u) (.sl t) xs) none
 | .ag id sub=>match s.o id with
  | .row u _ _ xs=>eG (.sl u) (.sl t) (kR sub xs)
  | _=>none
 | _=>none
def borrows(s:an):a8→List (Nat×Nat)
 | .ag id _=>match s.o id with
  | .row _ _ v _=>[(id,v)]
  | _=>[]
 | .b1 _ dp _ _=>dp
 | _=>[]
mutual
def ad.imp:(t:ad)→(b:Bool)→a'→List a8→an→List (Nat×Nat)→Option (t.D×List a8×an×List (Nat×Nat))
 | .int k,_,_,.int k' x :: cs,s,bl=>cond (Nat.beq (dq k) (dq k')) (some (x,cs,s,bl)) none
 | .bool,_,_,.bool x :: cs,s,bl=>some (x,cs,s,bl)
 | .str,_,_,.str x :: cs,s,bl=>some (x,cs,s,bl)
 | .raw,_,_,.raw x :: cs,s,bl=>some (x,cs,s,bl)
 | .sl t,b,.O e,c :: cs,s,bl=>match c with
  | .nil u=>(eG (.sl u) (.sl t) ([]:List u.D)).bind fun x=>some (x,cs,s,bl)
  | .ag id sub=>match s.o id with
   | .row u em _ xs=>cond (a'.le em e) ((eG (.sl u) (.sl t) (kR sub xs)).bind fun x=>some (x,cs,s.bQ id .dead,bl)) none
   | _=>none
  | _=>none
 | .sl t,true,_,c :: cs,s,bl=>(pb s t c).bind fun x=>some (x,cs,s,borrows s c++bl)
 | .sl t,false,_,c :: cs,s,bl=>match c with
  | .nil u=>(eG (.sl u) (.sl t) ([]:List u.D)).bind fun x=>some (x,cs,s,bl)
  | .b1 u [] _ xs=>(eG (.sl u) (.sl t) xs).bind fun x=>some (x,cs,s,bl)
  | .ag id sub=>match s.o id with
   | .row u _ _ xs=>(eG (.sl u) (.sl t) (kR sub xs)).bind fun x=>some (x,cs,s.bQ id .dead,bl)
   | _=>none
  | _=>none
 | .st aj,b,m,cs,s,bl=>aj.imp b m.parts cs s bl
 | _,_,_,_,_,_=>none
def ay.imp:(aj:ay)→(b:Bool)→cU→List a8→an→List (Nat×Nat)→Option (aj.D×List a8×an×List (Nat×Nat))
 | .nil,_,_,cs,s,bl=>some ((),cs,s,bl)
 | .cons t aj,b,m,cs,s,bl=>(t.imp b m.ag cs s bl).bind fun r=>(aj.imp b m.dx r.2.1 r.2.2.1 r.2.2.2).bind fun q=>some ((r.1,q.1),q.2)
end
mutual
def ad.put:(t:ad)→a'→t.D→Nat→List a8→an→Option (t.D×List a8×an)
 | t,m,x,skip,cs,s =>
  match cs with
  | []=>some (x,[],s)
  | c :: cs' =>
   cond (Nat.beq skip 0&&Nat.ble t.size (cs'.length+1)) ((t.imp false m (c :: cs') s []).bind fun r=>some (r.1,r.2.1,r.2.2.1))
    (match t,x with
     | .st aj,x=>aj.put m.parts x skip (c :: cs') s
     | _,_=>none)
def ay.put:(aj:ay)→cU→aj.D→Nat→List a8→an→Option (aj.D×List a8×an)
 | .nil,_,_,_,cs,s=>some ((),cs,s)
 | .cons t aj,m,x,skip,cs,s =>
  cond (Nat.ble t.size skip) ((aj.put m.dx x.2 (skip-t.size) cs s).bind fun q=>some ((x.1,q.1),q.2))
   ((t.put m.ag x.1 skip cs s).bind fun r=>(aj.put m.dx x.2 0 r.2.1 r.2.2).bind fun q=>some ((r.1,q.1),q.2))
end
mutual
def ad.hH:(t:ad)→a'→List (Nat×Nat)→t.D→an→Nat→Option (List a8×an×Nat)
 | .int k,_,_,x,s,j=>some ([.int k x],s,j)
 | .bool,_,_,x,s,j=>some ([.bool x],s,j)
 | .str,_,_,x,s,j=>some ([.str x],s,j)
 | .raw,_,_,x,s,j=>some ([.raw x],s,j)
 | .sl t,.O e,dp,x,s,j=>cond (dp.isEmpty||a'.beq e t.own) (match s.o j with
  | .none=>some ([.ag j none],s.bQ j (.row t e 0 x),j+1)
  | _=>none) none
 | .sl t,_,dp,x,s,j=>some ([.b1 t dp none x],s,j)
 | .st aj,m,dp,x,s,j=>aj.hH m.parts dp x s j
def ay.hH:(aj:ay)→cU→List (Nat×Nat)→aj.D→an→Nat→Option (List a8×an×Nat)
 | .nil,_,_,_,s,j=>some ([],s,j)
 | .cons t aj,m,dp,x,s,j=>(t.hH m.ag dp x.1 s j).bind fun r=>(aj.hH m.dx dp x.2 r.2.1 r.2.2).bind fun q=>some (r.1++q.1,q.2)
end
mutual
def ad.yf:(t:ad)→an→List a8→a'×List a8
 | .sl t,s,c :: cs=>(match c with
  | .nil _=>.O t.own
  | .ag id _=>match s.o id with
   | .row _ em _ _=>.O em
   | _=>.R
  | _=>.R,cs)
 | .st aj,s,cs=>cond aj.flat (.R,cs.drop aj.size) (let r:=aj.yf s cs;(.S r.1,r.2))
 | _,_,cs=>(.R,cs.drop 1)
def ay.yf:(aj:ay)→an→List a8→cU×List a8
 | .nil,_,cs=>(.nil,cs)
 | .cons t aj,s,cs=>let r:=t.yf s cs;let q:=aj.yf s r.2;(.cons r.1 q.1,q.2)
end
def takeN(off n:Nat)(cs:List a8):Option (List a8) :=
 cond (Nat.ble (off+n) cs.length) (some (part cs off n)) none
def Hf(t:ad)(em:a')(id ver i:Nat)(x:t.D):List a8 :=
 match em with
 | .R=>t.cells [] none x
 | _=>t.cells [(id,ver)] (some ⟨id,some i,0⟩) x
def l_(s:an)(n:Nat)(p:Place):Option (List a8) :=
 match s.o p.id,p.fa with
 | .var _ cs,none=>takeN p.off n cs
 | .row t em ver xs,some i=>takeN p.off n (Hf t em p.id ver i (J t xs i))
 | _,_=>none
def Be(s:an)(p:Place)(cs:List a8):Option an :=
 match s.o p.id,p.fa with
 | .var ver old,none=>cond (Nat.ble (p.off+cs.length) old.length) (some (s.bQ p.id (.var (ver+1) (old.take p.off++cs++old.drop (p.off+cs.length))))) none
 | .row t em ver xs,some i =>
  cond (Nat.ble (p.off+cs.length) t.size) ((t.put em (J t xs i) p.off cs s).bind fun r =>
   match r.2.1,r.2.2.o p.id with
   | [],.row _ _ _ _=>some (r.2.2.bQ p.id (.row t em (ver+1) (xs.set i r.1)))
   | _,_=>none) none
 | _,_=>none
def jZ(t:ad)(cs:List a8):Option a6 :=
 match t with
 | .st _=>some (.iu cs)
 | _=>match cs with
  | [c]=>some (.aV c)
  | _=>none
def iQ(t:ad):a6→Option (List a8)
 | .aV c=>some [c]
 | .iu cs=>some cs
 | .kQ=>match t with
  | .sl u=>some [.nil u]
  | _=>none
 | _=>none
def Hg:Value→a6
 | .int k n=>.aV (.int k n)
 | .bool b=>.aV (.bool b)
 | .string b=>.aV (.str b.data.toList)
 | .slice none 0 0=>.kQ
 | .pointer none=>.jY
 | _=>.aD
def bV(s:an):Operand→a6
 | .tmp t=>s.t t
 | .const v=>Hg v
 | .func f=>.fn f [] []
 | .global _=>.aD
def typed(E:Env)(t:Nat):a6→Option a6
 | .aD=>none
 | .gone=>none
 | .kQ=>match E.ty t with
  | some (.sl u)=>some (.aV (.nil u))
  | _=>none
 | v=>some v
def kt:a6→Option Int
 | .aV (.int _ n)=>some n
 | _=>none
end Go.LM
namespace Go.LM
def n'(s:an):a8→Option Nat
 | .nil _=>some 0
 | .b1 _ dp _ xs=>cond (alive s dp) (some xs.length) none
 | .ag id sub=>match s.o id with
  | .row _ _ _ xs=>some (ly sub xs)
  | _=>none
 | .str x=>some x.length
 | _=>none
mutual
def ad.cmp:ad→List a8→List a8→Option (Bool×List a8×List a8)
 | .int k,.int k1 x :: a,.int k2 y :: b=>cond (Nat.beq (dq k1) (dq k)&&Nat.beq (dq k2) (dq k)) (some (x==y,a,b)) none
 | .bool,.bool x :: a,.bool y :: b=>some (x==y,a,b)
 | .str,.str x :: a,.str y :: b=>some (bn x y,a,b)
 | .st aj,a,b=>aj.cmp a b
 | _,_,_=>none
def ay.cmp:ay→List a8→List a8→Option (Bool×List a8×List a8)
 | .nil,a,b=>some (true,a,b)
 | .cons t aj,a,b=>(t.cmp a b).bind fun r=>(aj.cmp r.2.1 r.2.2).bind fun q=>some (r.1&&q.1,q.2)
end
def Bf(op:BinOp)(k:IntKind)(x y:Int):Option a6 :=
 match op with
 | .add=>some (.aV (.int k (k.wrap (x+y))))
 | .sub=>some (.aV (.int k (k.wrap (x-y))))
 | .mul=>some (.aV (.int k (k.wrap (x*y))))
 | .and=>some (.aV (.int k (cR .and k x y)))
 | .or=>some (.aV (.int k (cR .or k x y)))
 | .xor=>some (.aV (.int k (cR .xor k x y)))
 | .andNot=>some (.aV (.int k (cR .andNot k x y)))
 | .eql=>some (.aV (.bool (x==y)))
 | .neq=>some (.aV (.bool (x != y)))
 | .lss=>some (.aV (.bool (decide (x<y))))
 | .leq=>some (.aV (.bool (decide (x≤y))))
 | .gtr=>some (.aV (.bool (decide (x>y))))
 | .geq=>some (.aV (.bool (decide (x≥y))))
 | _=>none
def Bg(op:BinOp)(x y:List UInt8):Option a6 :=
 match op with
 | .eql=>some (.aV (.bool (bn x y)))
 | .neq=>some (.aV (.bool (!bn x y)))
 | .lss=>some (.aV (.bool (dy x y)))
 | .leq=>some (.aV (.bool (dy x y||bn x y)))
 | .gtr=>some (.aV (.bool (!(dy x y||bn x y))))
 | .geq=>some (.aV (.bool (!dy x y)))
 | _=>none
section
variable{bs : Type}
def lift(x:Option a6)(K:a6→Option bs):Option bs :=
 match x with
 | some v=>K v
 | none=>none
open Classical in
noncomputable def both(a b:Option bs):Option bs := if a=b then a else none
noncomputable def Bh(b:Bool)(x y:Option bs):Option bs := cond b (both x y) y
noncomputable def kS(E:Env)(ty:Nat)(op:BinOp)(x y:a6)(K:a6→Option bs):Option bs :=
 match x,y with
 | .aV (.int k a),.aV (.int k' b) =>
  match op with
  | .shl=>jF (decide (0≤b)) (K (.aV (.int k (k.wrap (a*2 ^ min b.toNat k.bits)))))
  | .shr=>jF (decide (0≤b)) (K (.aV (.int k (a.fdiv (2 ^ min b.toNat k.bits)))))
  | .quo=>cond (Nat.beq (dq k) (dq k')) (jF (b != 0) (K (.aV (.int k (k.wrap (a.tdiv b)))))) none
  | .rem=>cond (Nat.beq (dq k) (dq k')) (jF (b != 0) (K (.aV (.int k (a.tmod b))))) none
  | _=>cond (Nat.beq (dq k) (dq k')) (lift (Bf op k a b) K) none
 | .aV (.str a),.aV (.str b) =>
  match op with
  | .add=>jF (room (a.length+b.length)) (K (.aV (.str (a++b))))
  | _=>lift (Bg op a b) K
 | .aV (.bool a),.aV (.bool b) =>
  match E.ty ty,op with
  | some .bool,.eql=>K (.aV (.bool (a==b)))
  | some .bool,.neq=>K (.aV (.bool (!(a==b))))
  | _,_=>none
 | .iu a,.iu b =>
  cond (E.He ty) (match E.ty ty with
  | some T=>(match op,T.cmp a b with
   | .eql,some (r,[],[])=>K (.aV (.bool r))
   | .neq,some (r,[],[])=>K (.aV (.bool (!r)))
   | _,_=>none)
  | none=>none) none
 | .aV (.b1 _ [] _ xs),.kQ =>
  match E.ty ty,op with
  | some (.sl _),.eql=>Bh xs.isEmpty (K (.aV (.bool true))) (K (.aV (.bool false)))
  | some (.sl _),.neq=>Bh xs.isEmpty (K (.aV (.bool false))) (K (.aV (.bool true)))
  | _,_=>none
 | .opt _ o,.jY =>
  match E.tg ty,op with
  | true,.eql=>K (.aV (.bool (decide (o<0))))
  | true,.neq=>K (.aV (.bool (!decide (o<0))))
  | _,_=>none
 | .ptr _,.jY =>
  match E.tg ty,op with
  | true,.eql=>K (.aV (.bool false))
  | true,.neq=>K (.aV (.bool true))
  | _,_=>none
 | .may b _ _,.jY =>
  match E.tg ty,op with
  | true,.eql=>K (.aV (.bool (!b)))
  | true,.neq=>K (.aV (.bool b))
  | _,_=>none
 | _,_=>none
def Hh(op:UnOp)(x:a6)(K:a6→Option bs):Option bs :=
 match op,x with
 | .neg,.aV (.int k n)=>K (.aV (.int k (k.wrap (0-n))))
 | .xor,.aV (.int k n)=>K (.aV (.int k (cR .xor k (if k.signed then -1 else k.max) n)))
 | .not,.aV (.bool b)=>K (.aV (.bool (!b)))
 | _,_=>none
def qa(t:ad)(m:a'):List (List a8)→an→Option (List t.D×an)
 | [],s=>some ([],s)
 | cs :: B,s=>(t.imp false m cs s []).bind fun r =>
   match r.2.1 with
   | []=>(qa t m B r.2.2.1).bind fun q=>some (r.1 :: q.1,q.2)
   | _=>none
def ay.nth:ay→Nat→Option ad
 | .nil,_=>none
 | .cons t _,0=>some t
 | .cons _ aj,n+1=>ay.nth aj n
def ay.oa:ay→List (List a8)
 | .nil=>[]
 | .cons t aj=>t.jl :: ay.oa aj
def rm(s:an)(ty:Nat→Option ad):List (Nat×Operand)→List (List a8)→Option (List (List a8))
 | [],B=>some B
 | (i,x) :: ps,B =>
  match ty i with
  | none=>none
  | some t =>
   match iQ t (bV s x) with
   | none=>none
   | some cs=>cond (Nat.beq cs.length t.size) (rm s ty ps (B.set i cs)) none
def ay.off:ay→Nat→Option (Nat×ad)
 | .nil,_=>none
 | .cons t _,0=>some (0,t)
 | .cons t aj,n+1=>(ay.off aj n).bind fun r=>some (t.size+r.1,r.2)
def mkObj(s:an)(id:Nat)(o:cm):Option an :=
 match s.o id with
 | .none=>some (s.bQ id o)
 | _=>none
def taken(s:an)(t:ad):a8→Option (a'×List t.D×an)
 | .nil u=>(eG (.sl u) (.sl t) ([]:List u.D)).bind fun x=>some (t.own,x,s)
 | .ag id sub=>match s.o id with
  | .row u em _ xs=>(eG (.sl u) (.sl t) (kR sub xs)).bind fun x=>some (em,x,s.bQ id .dead)
  | _=>none
 | _=>none
def added(s:an)(t:ad):a8→Option (a'×List t.D×an)
 | .ag id sub=>match s.o id with
  | .row u em _ xs=>match em with
   | .R=>(eG (.sl u) (.sl t) (kR sub xs)).bind fun x=>some (.R,x,s)
   | _=>(eG (.sl u) (.sl t) (kR sub xs)).bind fun x=>some (em,x,s.bQ id .dead)
  | _=>none
 | .b1 u dp _ xs=>cond (alive s dp&&(t.flat||dp.isEmpty)) ((eG (.sl u) (.sl t) xs).bind fun x=>some (.R,x,s)) none
 | .nil u=>(eG (.sl u) (.sl t) ([]:List u.D)).bind fun x=>some (t.own,x,s)
 | .str x=>(eG (.sl (.int .u8)) (.sl t) (ez x)).bind fun y=>some (.R,y,s)
 | _=>none
def meet(a b:a'):a':=cond (a'.beq a b) a .R
def Ox(id:Nat)(t:ad)(s:an)(a b:a8)(K:a8→an→Option bs):Option bs :=
 match added s t b with
 | none=>none
 | some (ku,ys,s1) =>
  match taken s1 t a with
  | none=>none
  | some (ob,xs,s2) =>
   match mkObj s2 id (.row t (meet ob ku) 0 (xs++ys)) with
   | none=>none
   | some s3=>jF (room (xs.length+ys.length)) (K (.ag id none) s3)
def oc(t:ad)(v:a6):Bool :=
 match t,v with
 | .st _,.iu _=>true
 | .st _,_=>false
 | _,.aV _=>true
 | .sl _,.kQ=>true
 | _,_=>false
mutual
def ad.getAt:(T:ad)→Nat→(t:ad)→T.D→Option (List t.D)
 | .sl u,off,t,x=>cond (Nat.beq off 0) (eG (.sl u) (.sl t) x) none
 | .st aj,off,t,x=>aj.getAt off t x
 | _,_,_,_=>none
def ay.getAt:(aj:ay)→Nat→(t:ad)→aj.D→Option (List t.D)
 | .nil,_,_,_=>none
 | .cons T aj,off,t,x=>cond (Nat.blt off T.size) (T.getAt off t x.1) (aj.getAt (off-T.size) t x.2)
end
mutual
def ad.setAt:(T:ad)→Nat→(t:ad)→List t.D→T.D→Option T.D
 | .sl u,off,t,y,_=>cond (Nat.beq off 0) (eG (.sl t) (.sl u) y) none
 | .st aj,off,t,y,x=>aj.setAt off t y x
 | _,_,_,_,_=>none
def ay.setAt:(aj:ay)→Nat→(t:ad)→List t.D→aj.D→Option aj.D
 | .nil,_,_,_,_=>none
 | .cons T aj,off,t,y,x=>cond (Nat.blt off T.size) ((T.setAt off t y x.1).bind fun z=>some (z,x.2)) ((aj.setAt (off-T.size) t y x.2).bind fun z=>some (x.1,z))
end
def th(t:ad)(e:a')(s:an)(dp:List (Nat×Nat)):Option Place→Option (List t.D×an)
 | none=>none
 | some p =>
  match p.fa,s.o p.id with
  | some i,.row T em ver ys=>cond (alive s dp&&a'.beq em T.own&&a'.beq e t.own) ((T.getAt p.off t (J T ys i)).bind fun x=>some (x,s.bQ p.id (.ch (.row T em ver ys)))) none
  | _,_=>none
def vL(t:ad)(x:List t.D)(s:an):Option Place→Option an
 | none=>none
 | some p =>
  match p.fa,s.o p.id with
  | some i,.ch (.row T em ver ys)=>(T.setAt p.off t x (J T ys i)).bind fun z=>some (s.bQ p.id (.row T em (ver+1) (ys.set i z)))
  | _,_=>none
mutual
def ad.fo:(t:ad)→a'→List a8→an→Option (t.D×List a8×an)
 | .int k,_,.int k' x :: cs,s=>cond (Nat.beq (dq k) (dq k')) (some (x,cs,s)) none
 | .bool,_,.bool x :: cs,s=>some (x,cs,s)
 | .str,_,.str x :: cs,s=>some (x,cs,s)
 | .sl t,.O e,c :: cs,s=>match c with
  | .nil u=>(eG (.sl u) (.sl t) ([]:List u.D)).bind fun x=>some (x,cs,s)
  | .ag id none=>match s.o id with
   | .row u em ver xs=>cond (a'.beq em e) ((eG (.sl u) (.sl t) xs).bind fun x=>some (x,cs,s.bQ id (.ch (.row u em ver xs)))) none
   | _=>none
  | .b1 _ dp cr _=>(th t e s dp cr).bind fun r=>some (r.1,cs,r.2)
  | _=>none
 | .st aj,m,cs,s=>aj.fo m.parts cs s
 | _,_,_,_=>none
def ay.fo:(aj:ay)→cU→List a8→an→Option (aj.D×List a8×an)
 | .nil,_,cs,s=>some ((),cs,s)
 | .cons t aj,m,cs,s=>(t.fo m.ag cs s).bind fun r=>(aj.fo m.dx r.2.1 r.2.2).bind fun q=>some ((r.1,q.1),q.2)
end
mutual
def ad.back:(t:ad)→t.D→List a8→an→Option (List a8×an)
 | .sl t,x,c :: cs,s=>match c with
  | .nil _=>some (cs,s)
  | .ag id none=>match s.o id with
   | .ch (.row u em ver _)=>(eG (.sl t) (.sl u) x).bind fun y=>some (cs,s.bQ id (.row u em (ver+1) y))
   | _=>none
  | .b1 _ _ cr _=>(vL t x s cr).bind fun aq=>some (cs,aq)
  | _=>none
 | .st aj,x,cs,s=>aj.back x cs s
 | _,_,_ :: cs,s=>some (cs,s)
 | _,_,[],_=>none
def ay.back:(aj:ay)→aj.D→List a8→an→Option (List a8×an)
 | .nil,_,cs,s=>some (cs,s)
 | .cons t aj,x,cs,s=>(t.back x.1 cs s).bind fun r=>aj.back x.2 r.1 r.2
end
def gb(key:Nat)(s:an):(ps:List bC)→List a6→List (Nat×Nat)→Option ((bC.ins ps).D×an×List (Nat×Nat))
 | [],[],bl=>some ((),s,bl)
 | .fn l9 o_ :: ps,.fn g a b :: vs,bl=>cond (Nat.beq g key&&Nat.beq a.length l9&&Nat.beq b.length o_) (gb key s ps vs bl) none
 | .val t m :: ps,v :: vs,bl=>cond (oc t v)
  (match iQ t v with
  | none=>none
  | some cs=>(t.imp true m cs s bl).bind fun r =>
   match r.2.1 with
   | []=>(gb key r.2.2.1 ps vs r.2.2.2).bind fun q=>some ((r.1,q.1),q.2)
   | _=>none) none
 | .hD t :: ps,v :: vs,bl=>cond (oc t v)
  (match iQ t v with
  | none=>none
  | some cs=>(t.imp false .R cs s bl).bind fun r =>
   match r.2.1 with
   | []=>(gb key r.2.2.1 ps vs r.2.2.2).bind fun q=>some ((r.1,q.1),q.2)
   | _=>none) none
 | .hC t m :: ps,v :: vs,bl=>cond (oc t v&&a'.beq m t.own)
  (match iQ t v with
  | none=>none
  | some cs=>(t.fo m cs s).bind fun r =>
   match r.2.1 with
   | []=>(gb key r.2.2 ps vs bl).bind fun q=>some ((r.1,q.1),q.2)
   | _=>none) none
 | .ref t :: ps,.dk dp cs off :: vs,bl =>
  match takeN off t.size cs with
  | none=>none
  | some cs=>cond (alive s dp) ((t.imp true .R cs s (dp++bl)).bind fun r =>
   match r.2.1 with
   | []=>(gb key r.2.2.1 ps vs r.2.2.2).bind fun q=>some ((r.1,q.1),q.2)
   | _=>none) none
 | .ref t :: ps,.ptr p :: vs,bl =>
  match l_ s t.size p with
  | none=>none
  | some cs=>(t.imp true .R cs s ((p.id,ks s p.id) :: bl)).bind fun r =>
   match r.2.1 with
   | []=>(gb key r.2.2.1 ps vs r.2.2.2).bind fun q=>some ((r.1,q.1),q.2)
   | _=>none
 | .mut t m m' :: ps,.ptr p :: vs,bl =>
  match s.o p.id,p.fa with
  | .var ver old,none =>
   match takeN p.off t.size old with
   | none=>none
   | some cs=>(t.imp true m cs (s.bQ p.id (.ch (.var ver old))) bl).bind fun r =>
    match r.2.1 with
    | []=>(gb key r.2.2.1 ps vs r.2.2.2).bind fun q=>some ((r.1,q.1),q.2)
    | _=>none
  | .row u em ver xs,some i =>
   cond (Nat.beq p.off 0&&a'.beq em m&&a'.beq m' em&&a'.beq m t.own) ((eG u t (J u xs i)).bind fun x =>
    (gb key (s.bQ p.id (.ch (.row u em ver xs))) ps vs bl).bind fun q=>some ((x,q.1),q.2)) none
  | _,_=>none
 | _,_,_=>none
def ma(dp:List (Nat×Nat)):(ps:List bC)→List a6→(bC.dZ ps).D→an→Nat→Option (an×Nat)
 | [],_,_,s,j=>some (s,j)
 | .mut t _ m' :: ps,.ptr p :: vs,x,s,j =>
  match s.o p.id,p.fa with
  | .ch (.var ver old),none=>(t.hH m' dp x.1 s j).bind fun r =>
   ma dp ps vs x.2 (r.2.1.bQ p.id (.var (ver+1) (old.take p.off++r.1++old.drop (p.off+t.size)))) r.2.2
  | .ch (.row u em ver xs),some i=>(eG t u x.1).bind fun y=>ma dp ps vs x.2 (s.bQ p.id (.row u em (ver+1) (xs.set i y))) j
  | _,_=>none
 | .hC t _ :: ps,v :: vs,x,s,j =>
  match iQ t v with
  | none=>none
  | some cs=>(t.back x.1 cs s).bind fun r=>ma dp ps vs x.2 r.2 j
 | .val _ _ :: ps,_ :: vs,x,s,j | .hD _ :: ps,_ :: vs,x,s,j | .ref _ :: ps,_ :: vs,x,s,j | .fn _ _ :: ps,_ :: vs,x,s,j=>ma dp ps vs x s j
 | _,_,_,_,_=>none
def qb(s:an)(vs:List a6)(arg off:Nat):Option Nat :=
 match vs[arg]? with
 | some (.ptr p)=>match l_ s 1 { p with off:=p.off+off } with
  | some [.ag id none]=>some id
  | _=>none
 | _=>none
def qc(s:an)(t:ad)(id:Nat):Bool :=
 match s.o id with
 | .row u _ _ _=>ad.beq u t
 | _=>false
def lz(vs:List a6)(ps:List bC)(dp:List (Nat×Nat)):(rs:List cX)→(cX.outs rs (bC.dZ ps)).D→an→Nat→Option (List a6×an)
 | [],x,s,j=>(ma dp ps vs x s j).bind fun r=>some ([],r.1)
 | .val t m :: rs,x,s,j=>(t.hH m dp x.1 s j).bind fun r =>
  match jZ t r.1 with
  | none=>none
  | some v=>(lz vs ps dp rs x.2 r.2.1 r.2.2).bind fun q=>some (v :: q.1,q.2)
 | .new t m :: rs,x,s,j=>(t.hH m dp x.1 s j).bind fun r=>(mkObj r.2.1 r.2.2 (.var 0 r.1)).bind fun s1=>(lz vs ps dp rs x.2 s1 (r.2.2+1)).bind fun q=>some (.ptr ⟨r.2.2,none,0⟩ :: q.1,q.2)
 | .opt a off t :: rs,x,s,j=>(lz vs ps dp rs x.2 s j).bind fun q =>
  match qb q.2 vs a off with
  | none=>none
  | some id=>cond (qc q.2 t id) (some (.opt id x.1 :: q.1,q.2)) none
 | .any t :: rs,x,s,j=>(lz vs ps dp rs x s j).bind fun q=>some (.rk t :: q.1,q.2)
 | .pa t :: rs,x,s,j=>(lz vs ps dp rs x.2 s j).bind fun q=>some (.may (!List.isEmpty x.1) dp (t.cells dp none (J t x.1 0)) :: q.1,q.2)
def pc:List a6→FuncId
 | []=>0
 | .fn f _ _ :: _=>f
 | _ :: l=>pc l
def lA:List a6→List a6
 | []=>[]
 | .fn _ a b :: l=>a++b++lA l
 | _ :: l=>lA l
def od:List a6→Bool
 | []=>true
 | .aD :: _=>false
 | .gone :: _=>false
 | .rk _ :: _=>false
 | _ :: l=>od l
def Hi(E:Env)(id:Nat)(s:an)(f:FuncId)(vs:List a6)(K:a6→an→Option bs):Option bs :=
 match E.fns f (pc vs) with
 | none=>none
 | some e =>
  match gb (pc vs) s e.ps (vs++lA vs) [] with
  | none=>none
  | some (x,s1,bl) =>
   cond (alive s1 bl&&od vs)
    ((e.f x).bind fun r =>
     match lz (vs++lA vs) e.ps bl e.rs r s1 id with
     | none=>none
     | some ([v],s2)=>K v s2
     | some (l,s2)=>K (.o9 l) s2)
    none
def rn(s:an):List a6→(List a6→Option bs)→Option bs
 | [],K=>K []
 | .opt i n :: l,K=>(aM (match s.o i with | .row _ _ _ xs=>xs.length | _=>0) n).bind fun k=>rn s l fun l'=>K (.ptr ⟨i,some k,0⟩ :: l')
 | .may b dp cs :: l,K=>jF b (rn s l fun l'=>K (.dk dp cs 0 :: l'))
 | v :: l,K=>rn s l fun l'=>K (v :: l')
def Hj(E:Env)(id:Nat)(s:an)(f:FuncId)(vs:List a6)(K:a6→an→Option bs):Option bs := rn s vs fun vs=>Hi E id s f vs K
end
end Go.LM
namespace Go.LM
section
variable{bs : Type}
def ti(gP:Bool)(k:IntKind):Int→List a6→Option (IntKind×Int)
 | x,[]=>some (k,x)
 | x,.aV (.int _ y) :: l=>ti gP k (cond gP (X1 x y) (jG x y)) l
 | _,_=>none
def vM(gP:Bool):List a6→Option (IntKind×Int)
 | .aV (.int k x) :: l=>ti gP k x l
 | _=>none
def kT(s:an)(T:ad):a8→Bool
 | .str _=>ad.beq T .str
 | .nil u=>ad.beq T (.sl u)
 | .b1 u _ _ _=>ad.beq T (.sl u)
 | .ag id _=>match s.o id with
  | .row u _ _ _=>ad.beq T (.sl u)
  | _=>false
 | _=>false
def oneCell(t:ad):a6→Option a8
 | .aV c=>some c
 | .kQ=>some (.nil t)
 | _=>none
def vN(E:Env):List Nat→Option ad
 | hI :: h5 :: _ =>
  match E.ty hI,E.ty h5 with
  | some (.sl t),some (.sl _)=>some t
  | some (.sl t),some .str=>some t
  | _,_=>none
 | _=>none
def j0(E:Env)(id:Nat)(s:an)(b:Builtin)(Hk:List Nat)(vs:List a6)(K:a6→an→Option bs):Option bs :=
 match b,vs with
 | .len,[.aV c] =>
  match Hk with
  | t :: _ =>
   match E.ty t with
   | some T=>cond (kT s T c)
    (match n' s c with
    | some n=>K (.aV (.int .i64 n)) s
    | none=>none) none
   | none=>none
  | _=>none
 | .append,[lB,vb] =>
  match vN E Hk with
  | some t =>
   match oneCell t lB,oneCell t vb with
   | some a,some b=>Ox id t s a b fun c s=>K (.aV c) s
   | _,_=>none
  | none=>none
 | .clear,[.aV (.ag i sub)] =>
  match Hk with
  | t :: _ =>
   match E.ty t,s.o i with
   | some (.sl u),.row v em ver xs=>cond (ad.beq u v&&v.flat) (K (.o9 []) (s.bQ i (.row v em (ver+1) (xs.take (ei sub)++List.replicate (ly sub xs) v.zero++xs.drop (ei sub+ly sub xs))))) none
   | _,_=>none
  | _=>none
 | .min,vs =>
  match vM false vs with
  | some (k,x)=>K (.aV (.int k x)) s
  | none=>none
 | .max,vs =>
  match vM true vs with
  | some (k,x)=>K (.aV (.int k x)) s
  | none=>none
 | _,_=>none
def bound(s:an)(x:Option Operand)(d:Int):Option Int :=
 match x with
 | none=>some d
 | some x=>kt (bV s x)
def vO(c:a8)(l m:Nat):Option a8 :=
 match c with
 | .str x=>some (.str (part x l m))
 | .nil t=>some (.nil t)
 | .b1 t dp cr xs=>some (.b1 t dp none (part xs l m))
 | .ag id sub=>some (.ag id (some (ei sub+l,m)))
 | _=>none
def Oy(s:an)(T:ad)(x:a6)(lo hi gP:Option Operand)(K:a6→Option bs):Option bs :=
 match x with
 | .aV c =>
  cond (kT s T c)
  (match n' s c with
  | none=>none
  | some n =>
   match bound s lo 0,bound s hi n with
   | some l,some h =>
    (match gP with
     | none=>fun k=>k
     | some m=>fun k=>cond (ad.beq T .str) none (match kt (bV s m) with
      | some m=>cond hi.isSome (jF (decide (h=m)) k) none
      | none=>none))
    ((d_ n l h).bind fun r =>
     match vO c r.1 (r.2-r.1) with
     | some c'=>K (.aV c')
     | none=>none)
   | _,_=>none) none
 | _=>none
def rp(E:Env)(id:Nat)(s:an)(src dst:Nat)(x:a6)(K:a6→an→Option bs):Option bs :=
 match E.ty src,E.ty dst,x with
 | some (.int _),some (.int k),.aV (.int _ n)=>K (.aV (.int k (k.wrap n))) s
 | some .str,some .str,.aV (.str b)=>K (.aV (.str b)) s
 | some .str,some (.sl (.int .u8)),.aV (.str b) =>
  match mkObj s id (.row (.int .u8) .R 0 (ez b)) with
  | some s1=>K (.aV (.ag id none)) s1
  | none=>none
 | some (.sl (.int .u8)),some .str,.aV c =>
  match pb s (.int .u8) c with
  | some xs=>K (.aV (.str (gB xs))) s
  | none=>none
 | _,_,_=>none
def Hl(T:ad)(s:an):List (List a8)→a'
 | cs :: _=>(T.yf s cs).1
 | []=>T.own
noncomputable def cT(E:Env)(id:Nat)(o:Oper)(s:an)(K:an→Option bs):Option bs :=
 let put (v:a6) (s:an):Option bs := K (s.dst o.dst v)
 match o.op with
 | .move x | .assign x =>
  match typed E o.type (bV s x) with
  | some v=>put v s
  | none=>none
 | .pick c a b =>
  match bV s c,typed E o.type (bV s a),typed E o.type (bV s b) with
  | .aV (.bool t),some lB,some vb=>cond t (put lB s) (put vb s)
  | .aV (.bool t),some lB,none=>cond t (put lB s) none
  | .aV (.bool t),none,some vb=>cond t none (put vb s)
  | _,_,_=>none
 | .alloc t =>
  match E.ty t with
  | some T=>match mkObj s id (.var 0 T.jl) with
   | some s1=>put (.ptr ⟨id,none,0⟩) s1
   | none=>none
  | none=>none
 | .box t x =>
  match E.ty t with
  | some T=>match iQ T (bV s x) with
   | some cs=>cond (Nat.beq cs.length T.size)
    (match mkObj s id (.var 0 cs) with
     | some s1=>put (.ptr ⟨id,none,0⟩) s1
     | none=>none) none
   | none=>none
  | none=>none
 | .build t parts =>
  match E.ty t with
  | some (.st aj)=>match rm s aj.nth parts.toList aj.oa with
   | some B=>put (.iu B.flatten) s
   | none=>none
  | _=>none
 | .buildSlice t n parts =>
  match E.ty t with
  | some (.sl T)=>cond (Nat.ble (n*T.size) 16777216)
   (match rm s (fun i=>cond (Nat.blt i n) (some T) none) parts.toList (List.replicate n T.jl) with
   | some B =>
    match qa T (Hl T s B) B s with
    | some (xs,s1)=>match mkObj s1 id (.row T (Hl T s B) 0 xs) with
     | some s2=>put (.aV (.ag id none)) s2
     | none=>none
    | none=>none
   | none=>none) none
  | _=>none
 | .load t a =>
  match E.ty t,bV s a with
  | some T,.ptr p=>match (l_ s T.size p).bind (jZ T) with
   | some v=>put v s
   | none=>none
  | some T,.dk dp cs off=>match (takeN off T.size cs).bind (jZ T) with
   | some v=>cond (alive s dp) (put v s) none
   | none=>none
  | _,_=>none
 | .store t a x =>
  match E.ty t,bV s a with
  | some T,.ptr p=>match iQ T (bV s x) with
   | some cs=>cond (Nat.beq cs.length T.size)
    (match Be s p cs with
     | some s1=>put .aD s1
     | none=>none) none
   | none=>match bV s x,s.o p.id,p.fa with
    | .rk u,.var _ old,none=>cond (ad.beq u T&&Nat.beq p.off 0&&Nat.ble T.size old.length) (put .aD (s.bQ p.id .dead)) none
    | _,_,_=>none
  | _,_=>none
 | .nilCheck x =>
  match bV s x with
  | .ptr p=>put (.ptr p) s
  | .dk dp cs off=>put (.dk dp cs off) s
  | .fn f a b=>put (.fn f a b) s
  | .may b dp cs=>jF b (put (.dk dp cs 0) s)
  | .opt i n=>(aM (match s.o i with | .row _ _ _ xs=>xs.length | _=>0) n).bind fun k=>put (.ptr ⟨i,some k,0⟩) s
  | _=>none
 | .binOp op ty x y _=>kS E ty op (bV s x) (bV s y) fun v=>put v s
 | .unOp op _ x=>Hh op (bV s x) fun v=>put v s
 | .convert src dst x=>rp E id s src dst (bV s x) put
 | .makeFunc (.func f) first lx=>put (.fn f (first.toList.map (bV s)) (lx.toList.map (bV s))) s
 | .makeSlice t l c =>
  match E.ty t,kt (bV s l),kt (bV s c) with
  | some (.sl T),some n,some m =>
   jF (decide (0≤n)&&decide (n=m)&&room n.toNat)
    (match mkObj s id (.row T T.own 0 (List.replicate n.toNat T.zero)) with
     | some s1=>put (.aV (.ag id none)) s1
     | none=>none)
  | _,_,_=>none
 | .slice t x lo hi gP =>
  match E.ty t with
  | some T=>Oy s T (bV s x) lo hi gP fun v=>put v s
  | none=>none
 | .fieldAddr t x f =>
  match E.ty t,bV s x with
  | some (.st aj),.ptr p=>match aj.off f with
   | some (k,u)=>cond (Nat.beq u.size 0) none (put (.ptr { p with off:=p.off+k }) s)
   | none=>none
  | some (.st aj),.dk dp cs off=>match aj.off f with
   | some (k,u)=>cond (Nat.beq u.size 0) none (put (.dk dp cs (off+k)) s)
   | none=>none
  | _,_=>none
 | .field t x f =>
  match E.ty t,bV s x with
  | some (.st aj),.iu cs=>match aj.off f with
   | some (k,u)=>match (takeN k u.size cs).bind (jZ u) with
    | some v=>put v s
    | none=>none
   | none=>none
  | _,_=>none
 | .indexAddr t x i =>
  match E.ty t,bV s x,kt (bV s i) with
  | some (.sl u),.aV c,some n =>
   match c with
   | .ag id sub=>match s.o id with
    | .row v _ _ xs=>cond (ad.beq u v) ((aM (ly sub xs) n).bind fun k=>put (.ptr ⟨id,some (ei sub+k),0⟩) s) none
    | _=>none
   | .b1 v dp cr xs=>cond (alive s dp&&ad.beq u v) ((aM xs.length n).bind fun k=>put (.dk dp (v.cells dp none (J v xs k)) 0) s) none
   | _=>none
  | _,_,_=>none
 | .index t x i =>
  match E.ty t,bV s x,kt (bV s i) with
  | some .str,.aV (.str b),some n=>(aM b.length n).bind fun k=>put (.aV (.int .u8 (b.getD k 0).toNat)) s
  | _,_,_=>none
 | .extract x i =>
  match bV s x with
  | .o9 l=>match l[i]? with
   | some v=>put v s
   | none=>none
  | _=>none
 | .call c =>
  let vs:=c.args.toList.map (bV s)
  match c.callee with
  | .builtin b=>j0 E id s b c.argTypes.toList vs put
  | .value f=>match bV s f with
   | .fn g first lx=>Hj E id s g (first++vs++lx) put
   | _=>none
  | _=>none
 | _=>none
def guardOf(ops:List Oper)(o:Oper):Option (Option Nat×Bool) :=
 match o.guard with
 | none=>none
 | some (j,w)=>some ((ops[j]?).bind (·.dst),w)
def yg(E:Env)(o:Oper):Bool :=
 match o.dst with
 | some d=>Nat.blt d E.n
 | none=>true
noncomputable def tj(E:Env)(id:Nat)(ops:List Oper)(o:Oper)(s:an)(K:an→Option bs):Option bs :=
 cond (yg E o) (match guardOf ops o with
 | none=>cT E id o s K
 | some (some d,w) =>
  match s.t d with
  | .aV (.bool b) =>
   cond b (let aq:=s.set d (.aV (.bool true));cond w (cT E id o aq K) (K (aq.dst o.dst .gone)))
    (let aq:=s.set d (.aV (.bool false));cond w (K (aq.dst o.dst .gone)) (cT E id o aq K))
  | .gone=>K (s.dst o.dst .gone)
  | _=>none
 | some (none,_)=>none) none
def vP:List a6→Option Place
 | .aV (.b1 _ _ cr _) :: _=>cr
 | _=>none
def Hm:List bC→Bool
 | []=>true
 | .mut _ _ _ :: _=>false
 | .hC _ _ :: _=>false
 | .val _ _ :: l | .ref _ :: l | .fn _ _ :: l | .hD _ :: l=>Hm l
def X2:List bC→Bool
 | .val (.sl _) (.O _) :: _=>true
 | _=>false
def vQ(key:Nat)(s:an)(t:ad):(ps:List bC)→List a6→Option ((bC.ins ps).D×an×List (Nat×Nat))
 | .val (.sl u) m :: ps,.aV (.b1 _ dp cr _) :: vs=>cond (a'.beq m (.O u.own)&&(ad.beq t u&&Hm ps)) ((th u u.own s dp cr).bind fun r=>(gb key r.2 ps vs []).bind fun q=>some ((r.1,q.1),q.2)) none
 | _,_=>none
def yh(t:ad){aj:ay} :(rs:List cX)→(cX.outs rs aj).D→Option (List t.D)
 | [.val u m],x=>cond (a'.beq m (.O t.own)) (eG u (.sl t) x.1) none
 | _,_=>none
def Oz(E:Env)(s:an)(o:Oper):Bool :=
 match o.op with
 | .call c=>match c.callee with
  | .value bA=>match bV s bA with
   | .fn g [] []=>match vP (c.args.toList.map (bV s)),E.fns g (pc (c.args.toList.map (bV s))) with
    | some _,some e=>X2 e.ps
    | _,_=>false
   | _=>false
  | _=>false
 | _=>false
def vR(E:Env)(o dE eH eW:Oper)(k1 e1 e2 e0 d0 d1 d2:Nat):Bool :=
 Nat.beq d0 e0&&(Nat.beq d1 e1&&(Nat.beq d2 e2&&(!(Nat.beq k1 d0)&&(!(Nat.beq d0 d1)&&(!(Nat.beq d0 d2)&&(o.guard.isNone&&(dE.guard.isNone&&(eH.guard.isNone&&(eW.guard.isNone&&(eW.dst.isNone&&(Nat.blt d0 E.n&&(Nat.blt d1 E.n&&Nat.blt d2 E.n))))))))))))
def Hn(s:an)(v:a6)(K:Place→Option bs):Option bs :=
 match v with
 | .ptr p=>K p
 | .opt i n=>(aM (match s.o i with | .row _ _ _ xs=>xs.length | _=>0) n).bind fun k=>K ⟨i,some k,0⟩
 | _=>none
def Ho(E:Env)(s:an)(o:Oper)(l:List Oper)(K:an→Option bs):Option bs :=
 match l with
 | dE :: eH :: eW :: _ =>
  match o.op,dE.op,eH.op,eW.op with
  | .call c,.nilCheck (.tmp k1),.fieldAddr m8 (.tmp e1) oe,.store m9 (.tmp e2) (.tmp e0) =>
   match c.callee,o.dst,dE.dst,eH.dst with
   | .value bA,some d0,some d1,some d2=>cond (vR E o dE eH eW k1 e1 e2 e0 d0 d1 d2)
    (match bV s bA,E.ty m8,E.ty m9 with
    | .fn g [] [],some (.st aj),some (.sl t) =>
     match E.fns g (pc (c.args.toList.map (bV s))),aj.off oe,vP (c.args.toList.map (bV s)) with
     | some e,some (k,u),some p=>Hn s (s.t k1) fun jH=>cond (!(Nat.beq u.size 0)&&(Nat.beq jH.id p.id&&Nat.beq (jH.off+k) p.off))
      (match jH.fa,p.fa with
      | some i,some j=>cond (Nat.beq i j) (match vQ (pc (c.args.toList.map (bV s))) s t e.ps (c.args.toList.map (bV s)++lA (c.args.toList.map (bV s))) with
       | none=>none
       | some (x,s1,bl)=>cond (alive s1 bl&&od (c.args.toList.map (bV s)))
        ((e.f x).bind fun r=>(yh t e.rs r).bind fun y=>(vL t y (((s1.set d0 .aD).set d1 .aD).set d2 .aD) (some p)).bind K) none) none
      | _,_=>none) none
     | _,_,_=>none
    | _,_,_=>none) none
   | _,_,_,_=>none
  | _,_,_,_=>none
 | _=>none
noncomputable def tk(E:Env)(bF:Nat)(all:List Oper):List Oper→Nat→Nat→an→(an→Option bs)→Option bs
 | [],_,_,s,K=>K s
 | _ :: l,i,q+1,s,K=>tk E bF all l (i+1) q s K
 | o :: l,i,0,s,K=>cond (Oz E s o) (Ho E s o l fun aq=>tk E bF all l (i+1) 3 aq K) (tj E ((bF*256+i)*32) all o s fun aq=>tk E bF all l (i+1) 0 aq K)
noncomputable def Hp(E:Env)(bF:Nat)(all:List Oper)(l:List Oper)(i:Nat)(s:an)(K:an→Option bs):Option bs := tk E bF all l i 0 s K
def tl(E:Env)(o:Oper):Bool :=
 match o.op with
 | .move _ | .assign _ | .pick _ _ _ | .load _ _ | .nilCheck _ | .binOp _ _ _ _ _ | .unOp _ _ _ | .slice _ _ _ _ _ | .fieldAddr _ _ _ | .field _ _ _ | .indexAddr _ _ _ | .index _ _ _ | .extract _ _ | .build _ _=>true
 | .makeFunc (.func _) _ _=>true
 | .convert a b _=>match E.ty a,E.ty b with
  | some (.int _),some (.int _)=>true
  | _,_=>false
 | .call c=>match c.callee with
  | .builtin .len | .builtin .min | .builtin .max=>true
  | _=>false
 | _=>false
def waits(ops:Array Oper)(j i:Nat):Bool :=
 match ops[j]? with
 | some o=>o.after.any fun e=>Region.binds .any e&&Nat.beq e.on i
 | none=>false
def Hq(E:Env)(ops:Array Oper)(i:Nat):Bool :=
 match ops[i]? with
 | some o=>tl E o
 | none=>false
def iR(s:an)(o:Oper):List (Nat×Nat) :=
 match o.op with
 | .load _ x=>match bV s x with
  | .ptr p=>[(p.id,ks s p.id)]
  | .dk dp _ _=>dp
  | _=>[]
 | _=>[]
def tm(s:an):List (Nat×List (Nat×Nat))→Bool
 | []=>true
 | p :: l=>cond (alive s p.2) (tm s l) false
def isApp(s:an)(o:Oper):Bool :=
 match o.op with
 | .call c=>match c.callee with
  | .builtin .append=>(vP (c.args.toList.map (bV s))).isSome
  | _=>false
 | _=>false
def Hr(id:Nat)(t:ad)(p:Place)(dp:List (Nat×Nat))(s:an)(cb:a8)(d0 d1 d2:Nat)(M:an→Bool)(K:an→Option bs):Option bs :=
 match added s t cb with
 | none=>none
 | some (ku,ys,s1)=>cond (a'.beq ku t.own) ((th t t.own s1 dp (some p)).bind fun r =>
   (mkObj r.2 id .dead).bind fun s2=>jF (room (r.1.length+ys.length)) (cond (M (s2.set d0 .aD)) ((vL t (r.1++ys) (((s2.set d0 .aD).set d1 .aD).set d2 .aD) (some p)).bind K) none)) none
def Hs(E:Env)(id:Nat)(s:an)(o dE eH eW:Oper)(M:an→Bool)(K:an→Option bs):Option bs :=
 match o.op,dE.op,eH.op,eW.op with
 | .call c,.indexAddr vS (.tmp k1) (.tmp k2),.fieldAddr m8 (.tmp e1) oe,.store m9 (.tmp e2) (.tmp e0) =>
  match c.callee,o.dst,dE.dst,eH.dst with
  | .builtin .append,some d0,some d1,some d2=>cond (vR E o dE eH eW k1 e1 e2 e0 d0 d1 d2 && !(Nat.beq k2 d0))
   (match E.ty vS,E.ty m8,E.ty m9,vN E c.argTypes.toList,c.args.toList.map (bV s) with
   | some (.sl lC),some (.st aj),some (.sl t),some hI,[.aV (.b1 _ dp (some p) _),vb] =>
    match aj.off oe,oneCell hI vb,s.t k1,kt (s.t k2),s.o p.id,p.fa with
    | some (k,u),some cb,.aV (.ag i sub),some q,.row v _ _ xs,some j=>cond (ad.beq hI t&&(ad.beq lC v&&(!(Nat.beq u.size 0)&&(Nat.beq i p.id&&Nat.beq k p.off))))
      ((aM (ly sub xs) q).bind fun m=>cond (Nat.beq (ei sub+m) j) (Hr id t p dp s cb d0 d1 d2 M K) none) none
    | _,_,_,_,_,_=>none
   | _,_,_,_,_=>none) none
  | _,_,_,_=>none
 | _,_,_,_=>none
def OA(s:an)(ops:Array Oper)(rs:List Nat):Bool:=rs.any fun i=>match ops[i]? with
 | some o=>isApp s o
 | none=>false
def one:List Nat→Option Nat
 | [i]=>some i
 | _=>none
def Ht(E:Env)(bF:Nat)(ops:Array Oper)(listed:Array Bool)(iS:List (Nat×List (Nat×Nat)))(rs:List Nat)(s:an)(K:an→Option bs):Option bs :=
 (one rs).bind fun i=>(one (Region.ready .any ops (listed.setIfInBounds i true))).bind fun i1=>(one (Region.ready .any ops ((listed.setIfInBounds i true).setIfInBounds i1 true))).bind fun i2 =>
  (one (Region.ready .any ops (((listed.setIfInBounds i true).setIfInBounds i1 true).setIfInBounds i2 true))).bind fun i3 =>
   cond ((Region.ready .any ops ((((listed.setIfInBounds i true).setIfInBounds i1 true).setIfInBounds i2 true).setIfInBounds i3 true)).isEmpty&&((iS.filter fun p => !waits ops i p.1).filter fun p => !waits ops i1 p.1).isEmpty)
    (ops[i]?.bind fun o=>ops[i1]?.bind fun dE=>ops[i2]?.bind fun eH=>ops[i3]?.bind fun eW=>Hs E ((bF*256+i)*32) s o dE eH eW (fun og=>tm og (iS.filter fun p => !waits ops i p.1)) K) none
noncomputable def dup(a:Option bs):Option bs := both a a
noncomputable def Bi:List (Option bs)→Option bs
 | []=>none
 | [x]=>x
 | x :: l=>both x (Bi l)
noncomputable def tn(E:Env)(bF:Nat)(ops:Array Oper):Nat→Array Bool→List (Nat×List (Nat×Nat))→an→(an→Option bs)→Option bs
 | 0,listed,_,s,K=>match Region.ready .any ops listed with
  | []=>K s
  | _=>none
 | n+1,listed,iS,s,K =>
  match Region.ready .any ops listed with
  | []=>K s
  | rs=>match rs.find? fun i=>Hq E ops i&&Region.free .any ops listed i with
   | some i=>(match ops[i]? with
    | none=>none
    | some o=>tj E ((bF*256+i)*32) ops.toList o s fun aq=>tn E bF ops n (listed.setIfInBounds i true) ((i,iR s o) :: iS) aq K)
   | none=>cond (OA s ops rs&&Nat.ble 3 n) (Ht E bF ops listed iS rs s K) (Bi (rs.map fun i=>match ops[i]? with
    | none=>none
    | some o=>cond (tl E o) none (tj E ((bF*256+i)*32) ops.toList o s fun aq =>
      cond (tm aq (iS.filter fun p => !waits ops i p.1)) (tn E bF ops n (listed.setIfInBounds i true) (iS.filter fun p => !waits ops i p.1) aq K) none)))
noncomputable def Hu(E:Env)(bF:Nat)(ops:Array Oper)(s:an)(K:an→Option bs):Option bs :=
 cond (Region.noSelect ops) (tn E bF ops ops.size (Array.replicate ops.size false) [] s K) none
structure Hand(bs : Type) where
 cut:Nat→List Item→an→Option bs
 fin:an→Option bs
noncomputable def j1(E:Env)(cuts:Nat→Bool)(H:Hand bs):Nat→Bool→List Item→an→Option bs
 | 0,_,_,_=>none
 | n+1,first,todo,s =>
  match todo with
  | []=>H.fin s
  | .code .ret :: _=>H.fin s
  | .code .skip :: k | .inBlock _ :: k=>j1 E cuts H n first k s
  | .code (.seq a b) :: k=>j1 E cuts H n first (.code a :: .code b :: k) s
  | .code (.cond c x y) :: k =>
   match bV s c with
   | .aV (.bool b)=>cond b (j1 E cuts H n first (.code x :: k) s) (j1 E cuts H n first (.code y :: k) s)
   | _=>none
  | .code (.block id c) :: k=>j1 E cuts H n first (.code c :: .inBlock id :: k) s
  | .code (.loop c) :: k | .inLoop c :: k=>j1 E cuts H n first (.code c :: .inLoop c :: k) s
  | .code (.exit id) :: k =>
   match exitTo id k with
   | some k'=>j1 E cuts H n first k' s
   | none=>none
  | .code (.region bF ops h6) :: k =>
   cond (cuts bF && !first) (H.cut bF todo s)
    (cond h6 (Hu E bF ops s fun aq=>j1 E cuts H n false k aq) (Hp E bF ops.toList ops.toList 0 s fun aq=>j1 E cuts H n false k aq))
  | _=>none
end
end Go.LM
namespace Go.LM
abbrev ah:=Nat→Nat→Prop
def ah.none:ah:=fun _ _=>False
def ah.or(F G:ah):ah:=fun b o=>F b o∨G b o
def ah.apart(F G:ah):Prop:=∀b o,F b o→G b o→False
def ah.sub(F G:ah):Prop:=∀b o,F b o→G b o
def ah.run(b lo n:Nat):ah:=fun b' o=>b'=b∧lo≤o∧o<lo+n
abbrev at_(b o:Nat):Addr:=⟨b,o,none⟩
theorem rq(w:World)(b o:Nat):w.cell? (at_ b o)=match w.heap[b]? with | some (.cells c _ _)=>c[o]? | _=>none:=by
 simp only [World.cell?,at_]
 cases w.heap[b]? with
 | none=>rfl
 | some x=>cases x <;> rfl
theorem cell_of_heap{w:World}{b:Nat}{c:Array Value}{e:TypeId}{f:Nat×Nat}(h:w.heap[b]?=some (.cells c e f))(o:Nat) :
  w.cell? (at_ b o)=c[o]?:=by rw [rq,h]
theorem x'{w:World}{b o:Nat}{v:Value}(h:w.cell? (at_ b o)=some v) :
  ∃c e f,w.heap[b]?=some (.cells c e f)∧c[o]?=some v:=by
 rw [rq] at h
 split at h
 ·rename_i c e f hb;exact⟨c,e,f,hb,h⟩
 ·simp at h
theorem ya{w:World}{b o:Nat}{v:Value}(h:w.cell? (at_ b o)=some v):b<w.heap.size:=by
 obtain ⟨c,e,f,hb,_⟩:=x' h
 rcases Nat.lt_or_ge b w.heap.size with h | h
 ·exact h
 ·simp [Array.getElem?_eq_none h] at hb
structure Ext(w w':World)(F:ah):Prop where
 os:w'.os=w.os
 tape:w'.tape=w.tape
 output:w'.output=w.output
 size:w.heap.size≤w'.heap.size
 block:∀b,b<w.heap.size→w'.heap[b]?=w.heap[b]? ∨
  ∃c c' e f,w.heap[b]?=some (.cells c e f)∧w'.heap[b]?=some (.cells c' e f)∧c'.size=c.size∧∀o,¬F b o→c'[o]?=c[o]?
theorem Ext.refl(w:World)(F:ah):Ext w w F:=⟨rfl,rfl,rfl,Nat.le_refl _,fun _ _=>.inl rfl⟩
theorem Ext.mono{w w':World}{F G:ah}(h:Ext w w' F)(hs:∀b o,b<w.heap.size→F b o→G b o):Ext w w' G:=by
 refine⟨h.os,h.tape,h.output,h.size,fun b hb=>?_⟩
 rcases h.block b hb with h | ⟨c,c',e,f,h1,h2,h3,h4⟩
 ·exact .inl h
 ·exact .inr ⟨c,c',e,f,h1,h2,h3,fun o ho=>h4 o fun hf=>ho (hs b o hb hf)⟩
theorem Ext.trans{a b c:World}{F:ah}(h:Ext a b F)(k:Ext b c F):Ext a c F:=by
 refine⟨k.os.trans h.os,k.tape.trans h.tape,k.output.trans h.output,Nat.le_trans h.size k.size,fun i hi=>?_⟩
 rcases h.block i hi with h1 | ⟨x,bB,e,f,h1,h2,h3,h4⟩
 ·rcases k.block i (Nat.lt_of_lt_of_le hi h.size) with k1 | ⟨y,kv,gQ,na,k1,k2,k3,ba⟩
  ·exact .inl (k1.trans h1)
  ·exact .inr ⟨y,kv,gQ,na,h1 ▸ k1,k2,k3,ba⟩
 ·rcases k.block i (Nat.lt_of_lt_of_le hi h.size) with k1 | ⟨y,kv,gQ,na,k1,k2,k3,ba⟩
  ·exact .inr ⟨x,bB,e,f,h1,k1.trans h2,h3,h4⟩
  ·rw [h2] at k1
   simp only [Option.some.injEq,Obj.cells.injEq] at k1
   obtain ⟨rfl,rfl,rfl⟩:=k1
   exact .inr ⟨x,kv,e,f,h1,k2,k3.trans h3,fun o ho=>(ba o ho).trans (h4 o ho)⟩
theorem Ext.trans'{a b c:World}{F S:ah}(h:Ext a b F)(k:Ext b c S)(dQ:∀i o,S i o→F i o∨a.heap.size≤i):Ext a c F:=by
 refine⟨k.os.trans h.os,k.tape.trans h.tape,k.output.trans h.output,Nat.le_trans h.size k.size,fun i hi=>?_⟩
 have hk:c.heap[i]?=b.heap[i]?∨∃x bB e f,b.heap[i]?=some (.cells x e f)∧c.heap[i]?=some (.cells bB e f)∧bB.size=x.size∧∀o,¬F i o→bB[o]?=x[o]?:=by
  rcases k.block i (Nat.lt_of_lt_of_le hi h.size) with k1 | ⟨y,kv,gQ,na,k1,k2,k3,ba⟩
  ·exact .inl k1
  ·refine .inr ⟨y,kv,gQ,na,k1,k2,k3,fun o ho=>ba o fun hs=>?_⟩
   rcases dQ i o hs with h | h
   ·exact ho h
   ·omega
 rcases h.block i hi with h1 | ⟨x,bB,e,f,h1,h2,h3,h4⟩
 ·rcases hk with k1 | ⟨y,kv,gQ,na,k1,k2,k3,ba⟩
  ·exact .inl (k1.trans h1)
  ·exact .inr ⟨y,kv,gQ,na,h1 ▸ k1,k2,k3,ba⟩
 ·rcases hk with k1 | ⟨y,kv,gQ,na,k1,k2,k3,ba⟩
  ·exact .inr ⟨x,bB,e,f,h1,k1.trans h2,h3,h4⟩
  ·rw [h2] at k1
   simp only [Option.some.injEq,Obj.cells.injEq] at k1
   obtain ⟨rfl,rfl,rfl⟩:=k1
   exact .inr ⟨x,kv,e,f,h1,k2,k3.trans h3,fun o ho=>(ba o ho).trans (h4 o ho)⟩
theorem Ext.cell{w w':World}{F:ah}(h:Ext w w' F){b o:Nat}(hb:b<w.heap.size)(hf:¬F b o):w'.cell? (at_ b o)=w.cell? (at_ b o):=by
 rw [rq,rq]
 rcases h.block b hb with h | ⟨c,c',e,f,h1,h2,_,h4⟩
 ·rw [h]
 ·rw [h1,h2];exact h4 o hf
theorem p_(w:World)(b o:Nat):w.frozen? (at_ b o)=match w.heap[b]? with | some (.cells _ _ (lo,hi))=>decide (lo≤o)&&decide (o<hi) | _=>false:=rfl
theorem Ext.frozen{w w':World}{F:ah}(h:Ext w w' F){b:Nat}(hb:b<w.heap.size)(o:Nat):w'.frozen? (at_ b o)=w.frozen? (at_ b o):=by
 rw [p_,p_]
 rcases h.block b hb with h | ⟨c,c',e,f,h1,h2,_,_⟩
 ·rw [h]
 ·rw [h1,h2]
def fm(w:World)(b o:Nat):Prop:=(∃v,w.cell? (at_ b o)=some v)∧w.frozen? (at_ b o)=false
theorem Ext.X3{w w':World}{F:ah}(h:Ext w w' F){b o:Nat}(hc:∃v,w.cell? (at_ b o)=some v):∃v,w'.cell? (at_ b o)=some v:=by
 obtain ⟨v,hv⟩:=hc
 have hb:=ya hv
 obtain ⟨c,e,f,hh,hcv⟩:=x' hv
 rcases h.block b hb with h | ⟨x,bB,gQ,na,h1,h2,h3,_⟩
 ·exact⟨v,by rw [rq,h,hh];exact hcv⟩
 ·rw [hh] at h1
  simp only [Option.some.injEq,Obj.cells.injEq] at h1
  obtain ⟨rfl,rfl,rfl⟩:=h1
  have ho:o<c.size:=by
   rcases Nat.lt_or_ge o c.size with h | h
   ·exact h
   ·rw [Array.getElem?_eq_none h] at hcv;simp at hcv
  exact⟨bB[o]'(by omega),by rw [rq,h2];simp [Array.getElem?_eq_getElem,h3,ho]⟩
theorem Ext.p9{w w':World}{F:ah}(h:Ext w w' F){b o:Nat}(hc:fm w b o):fm w' b o :=
 ⟨h.X3 hc.1,by rw [h.frozen (ya hc.1.choose_spec) o];exact hc.2⟩
def fR(w:World)(size b o:Nat):Prop:=fm w b o∧(size=1∨∀k,w.frozen? (at_ b k)=false)
theorem Ext.kp{w w':World}{F:ah}(h:Ext w w' F){size b o:Nat}(hc:fR w size b o):fR w' size b o :=
 ⟨h.p9 hc.1,hc.2.imp id fun hk k=>by rw [h.frozen (ya hc.1.1.choose_spec) k];exact hk k⟩
theorem Ext.drew(w:World)(n:Nat)(F:ah):Ext w { w with drawn:=n } F:=⟨rfl,rfl,rfl,Nat.le_refl _,fun _ _=>.inl rfl⟩
theorem Ext.push(w:World)(o:Obj)(F:ah):Ext w { w with heap:=w.heap.push o } F :=
 ⟨rfl,rfl,rfl,by simp,fun b hb=>.inl (by simp only;rw [Array.getElem?_push,if_neg (by omega)])⟩
theorem OB(w:World)(o:Obj):({ w with heap:=w.heap.push o } : World).heap[w.heap.size]?=some o:=by simp
theorem OC(w:World)(c:Array Value)(e:TypeId)(f:Nat×Nat)(o:Nat) :
  ({ w with heap:=w.heap.push (.cells c e f) } : World).cell? (at_ w.heap.size o)=c[o]?:=cell_of_heap (OB w _) o
theorem Hv(w:World)(b o:Nat)(v:Value)(b':Nat) :
  (w.setCell (at_ b o) v).heap[b']?=if b=b' then(w.heap[b']?).map (fun | .cells c e f=>.cells (c.setIfInBounds o v) e f | x=>x) else w.heap[b']?:=by
 simp only [World.setCell,Array.getElem?_modify,at_]
 split
 ·rename_i h;subst h
  cases w.heap[b]? with
  | none=>rfl
  | some x=>cases x <;> rfl
 ·rfl
theorem X4(w:World)(b o:Nat)(v:Value)(b' o':Nat)(h:∃u,w.cell? (at_ b o)=some u) :
  (w.setCell (at_ b o) v).cell? (at_ b' o')=if b=b'∧o=o' then some v else w.cell? (at_ b' o'):=by
 obtain ⟨u,hu⟩:=h
 obtain ⟨c,e,f,hb,hc⟩:=x' hu
 have ho:o<c.size:=by
  rcases Nat.lt_or_ge o c.size with h | h
  ·exact h
  ·rw [Array.getElem?_eq_none h] at hc;simp at hc
 rw [rq,Hv,rq]
 by_cases oh:b=b'
 ·subst oh
  rw [if_pos rfl,hb]
  simp only [Option.map_some,true_and]
  by_cases vT:o=o'
  ·subst vT;simp [Array.getElem?_setIfInBounds,ho]
  ·simp [Array.getElem?_setIfInBounds,vT]
 ·rw [if_neg oh];simp [oh]
theorem X5(w:World)(b o:Nat)(v:Value)(b' o':Nat):(w.setCell (at_ b o) v).frozen? (at_ b' o')=w.frozen? (at_ b' o'):=by
 rw [p_,Hv,p_]
 by_cases oh:b=b'
 ·subst oh
  rw [if_pos rfl]
  cases w.heap[b]? with
  | none=>rfl
  | some x=>cases x <;> rfl
 ·rw [if_neg oh]
theorem Ext.setCell{w:World}{b o:Nat}{F:ah}(v:Value)(hF:F b o):Ext w (w.setCell (at_ b o) v) F:=by
 refine⟨rfl,rfl,rfl,by simp [World.setCell],fun b' hb=>?_⟩
 rw [Hv]
 by_cases oh:b=b'
 ·subst oh
  rw [if_pos rfl]
  cases hh:w.heap[b]? with
  | none=>exact .inl rfl
  | some x =>
   cases x with
   | cells c e f =>
    refine .inr ⟨c,_,e,f,rfl,rfl,by simp,fun o' ho=>?_⟩
    have:o≠o':=fun e=>ho (e ▸ hF)
    simp [Array.getElem?_setIfInBounds,this]
   | _=>exact .inl rfl
 ·rw [if_neg oh];exact .inl rfl
def setCells(w:World)(b:Nat):Nat→List Value→World
 | _,[]=>w
 | o,v :: vs=>setCells (w.setCell (at_ b o) v) b (o+1) vs
theorem n9{F:ah}(b:Nat)(vs:List Value):∀(w:World) (o:Nat),(∀i,i<vs.length→F b (o+i))→Ext w (setCells w b o vs) F:=by
 induction vs with
 | nil=>intro w o _;exact Ext.refl _ _
 | cons v vs ih =>
  intro w o h
  have h1:=Ext.setCell (w:=w) v (h 0 (by simp))
  have h2:=ih (w.setCell (at_ b o) v) (o+1) (fun i hi=>by have:=h (i+1) (by simp;omega);rwa [show o+1+i=o +(i+1) by omega])
  exact h1.trans (h2.mono fun _ _ _ h=>h)
theorem X6(b:Nat)(vs:List Value):∀(w:World) (o b' o':Nat),(setCells w b o vs).frozen? (at_ b' o')=w.frozen? (at_ b' o'):=by
 induction vs with
 | nil=>intros;rfl
 | cons v vs ih=>intro w o b' o';rw [setCells,ih,X5]
theorem vU(b:Nat)(vs:List Value):∀(w:World) (o:Nat),(∀i,i<vs.length→∃u,w.cell? (at_ b (o+i))=some u)→∀b' o',
  (setCells w b o vs).cell? (at_ b' o')=if b=b'∧o≤o'∧o'<o+vs.length then vs[o'-o]? else w.cell? (at_ b' o'):=by
 induction vs with
 | nil =>
  intro w o _ b' o'
  rw [setCells,if_neg]
  simp only [List.length_nil];omega
 | cons v vs ih =>
  intro w o h b' o'
  have h0:∃u,w.cell? (at_ b o)=some u:=by simpa using h 0 (by simp)
  have hx:=X4 w b o v
  rw [setCells,ih]
  ·by_cases hb:b=b'
   ·subst hb
    by_cases h1:o+1≤o'∧o'<o+1+vs.length
    ·rw [if_pos ⟨rfl,h1⟩,if_pos ⟨rfl,by omega,by simp;omega⟩]
     obtain ⟨k,hk⟩:∃k,o'-o=k+1:=⟨o'-o-1,by omega⟩
     rw [hk,List.getElem?_cons_succ,show o'-(o+1)=k by omega]
    ·rw [if_neg (by simpa using h1),hx b o' h0]
     by_cases h2:o=o'
     ·subst h2;rw [if_pos ⟨rfl,rfl⟩,if_pos ⟨rfl,Nat.le_refl _,by simp⟩];simp
     ·rw [if_neg (by simp [h2]),if_neg]
      simp only [List.length_cons];omega
   ·rw [if_neg (by simp [hb]),if_neg (by simp [hb]),hx b' o' h0,if_neg (by simp [hb])]
  ·intro i hi
   rw [hx b _ h0]
   split
   ·exact⟨v,rfl⟩
   ·have:=h (i+1) (by simp;omega)
    rwa [show o+1+i=o +(i+1) by omega]
def b8(w:World)(b o:Nat)(vs:List Value):Prop:=∀i v,vs[i]?=some v→w.cell? (at_ b (o+i))=some v
theorem b8.nil(w:World)(b o:Nat):b8 w b o []:=by intro i v h;simp at h
theorem b8.cons{w:World}{b o:Nat}{v:Value}{vs:List Value}(h:w.cell? (at_ b o)=some v)(hs:b8 w b (o+1) vs):b8 w b o (v :: vs):=by
 intro i u hu
 cases i with
 | zero=>simp at hu;subst hu;simpa using h
 | succ i=>rw [List.getElem?_cons_succ] at hu;have:=hs i u hu;rwa [show o+1+i=o +(i+1) by omega] at this
theorem b8.head{w:World}{b o:Nat}{v:Value}{vs:List Value}(h:b8 w b o (v :: vs)):w.cell? (at_ b o)=some v:=by simpa using h 0 v rfl
theorem b8.tail{w:World}{b o:Nat}{v:Value}{vs:List Value}(h:b8 w b o (v :: vs)):b8 w b (o+1) vs:=by
 intro i u hu;have:=h (i+1) u (by simpa using hu);rwa [show o +(i+1)=o+1+i by omega] at this
theorem b8.append{w:World}{b o:Nat}{us vs:List Value}(h:b8 w b o us)(k:b8 w b (o+us.length) vs):b8 w b o (us++vs):=by
 intro i v hv
 rcases Nat.lt_or_ge i us.length with hi | hi
 ·rw [List.getElem?_append_left hi] at hv;exact h i v hv
 ·rw [List.getElem?_append_right hi] at hv
  have:=k _ v hv
  rwa [show o+us.length +(i-us.length)=o+i by omega] at this
theorem b8.left{w:World}{b o:Nat}{us vs:List Value}(h:b8 w b o (us++vs)):b8 w b o us:=by
 intro i v hv
 have hi:i<us.length:=by
  rcases Nat.lt_or_ge i us.length with h | h
  ·exact h
  ·rw [List.getElem?_eq_none h] at hv;simp at hv
 exact h i v (by rw [List.getElem?_append_left hi];exact hv)
theorem b8.right{w:World}{b o:Nat}{us vs:List Value}(h:b8 w b o (us++vs)):b8 w b (o+us.length) vs:=by
 intro i v hv
 have:=h (us.length+i) v (by rw [List.getElem?_append_right (by omega),Nat.add_sub_cancel_left];exact hv)
 rwa [show o +(us.length+i)=o+us.length+i by omega] at this
theorem b8.part{w:World}{b o:Nat}{vs:List Value}(h:b8 w b o vs)(k n:Nat):b8 w b (o+k) ((vs.drop k).take n):=by
 intro i v hv
 rw [List.getElem?_take] at hv
 split at hv
 ·rw [List.getElem?_drop] at hv
  have:=h _ v hv
  rwa [show o +(k+i)=o+k+i by omega] at this
 ·simp at hv
theorem b8.of_eq{w w':World}{b o:Nat}{vs:List Value}(h:b8 w b o vs)(he:∀i,i<vs.length→w'.cell? (at_ b (o+i))=w.cell? (at_ b (o+i))):b8 w' b o vs:=by
 intro i v hv
 have hi:i<vs.length:=by
  rcases Nat.lt_or_ge i vs.length with h | h
  ·exact h
  ·rw [List.getElem?_eq_none h] at hv;simp at hv
 rw [he i hi];exact h i v hv
theorem qd(b o n:Nat):(at_ b o).add n=at_ b (o+n):=by
 unfold Addr.add;split
 ·rename_i h;subst h;rfl
 ·rfl
section
variable{P:Program}
theorem run_pure{α : Type}(x : α)(w:World):(pure x:Sem α).run P w=.ok x w:=rfl
theorem run_bind{α β : Type}(s:Sem α)(f : α → Sem β)(w:World):(s >>= f).run P w=match s.run P w with | .ok x w'=>(f x).run P w' | .halt h w'=>.halt h w':=by
 show(Sem.bind s f).run P w=_
 induction s generalizing w with
 | pure a=>rfl
 | load m a k ih =>
  simp only [Sem.bind,Sem.run]
  cases w.cell? a with
  | some v=>exact ih v w
  | none =>
   cases w.farLoad P a (m==.atomic) with
   | error h=>rfl
   | ok r=>exact ih r.1 w
 | store m a v k ih =>
  cases v with
  | agg _=>rfl
  | tuple _=>rfl
  | _ =>
   simp only [Sem.bind,Sem.run]
   cases w.cell? a with
   | some u =>
    dsimp only
    split
    ·rfl
    ·exact ih _
   | none =>
    dsimp only
    split
    ·exact ih _
    ·rfl
 | new o k ih=>exact ih _ _
 | shape r k ih=>exact ih _ _
 | freeze a n k ih=>exact ih _
 | frozen a k ih=>exact ih _ _
 | getObj r k ih =>
  simp only [Sem.bind,Sem.run]
  cases w.heap[r]? with
  | none=>rfl
  | some o=>cases o <;> first | rfl | exact ih _ _
 | setObj r o k ih =>
  simp only [Sem.bind,Sem.run]
  cases w.heap[r]? with
  | none=>rfl
  | some o=>cases o <;> first | rfl | exact ih _
 | choose q k ih =>
  simp only [Sem.bind,Sem.run]
  split <;> exact ih _ _
 | sys c k ih=>exact ih _ _
 | program k ih=>exact ih _ _
 | mark m k ih=>exact ih _
 | halt h=>rfl
def ee:Value→Bool
 | .agg _ | .tuple _=>false
 | _=>true
theorem run_load{w:World}{b o:Nat}{v:Value}(h:w.cell? (at_ b o)=some v):(load (at_ b o)).run P w=.ok v w:=by
 simp [load,Sem.run,h]
theorem run_loadCellsFrom{w:World}(b o:Nat)(vs:List Value):∀(k:Nat) (acc:Array Value),b8 w b (o+k) vs →
  (loadCellsFrom (at_ b o) k vs.length acc).run P w=.ok (acc++vs.toArray) w:=by
 induction vs with
 | nil=>intro k acc _;simp [loadCellsFrom,run_pure]
 | cons v vs ih =>
  intro k acc h
  simp only [List.length_cons,loadCellsFrom]
  rw [run_bind,qd,run_load h.head]
  simp only
  rw [ih (k+1) (acc.push v) (by rw [← Nat.add_assoc];exact h.tail)]
  congr 1
  apply Array.ext'
  simp
theorem run_loadCells{w:World}{b o:Nat}{vs:List Value}(h:b8 w b o vs):(loadCells (at_ b o) vs.length).run P w=.ok vs.toArray w:=by
 unfold loadCells
 rw [run_loadCellsFrom b o vs 0 #[] (by simpa using h)]
 simp
theorem run_store{w:World}{b o:Nat}{v:Value}(hv:ee v=true)(h:fm w b o):(store (at_ b o) v).run P w=.ok () (w.setCell (at_ b o) v):=by
 obtain ⟨⟨u,hu⟩,hf⟩:=h
 cases v <;> simp_all [store,Sem.run,ee]
theorem A7{b o:Nat}(vs:List Value):∀(w:World) (k:Nat),(∀v∈vs,ee v=true)→(∀i,i<vs.length→fm w b (o+k+i)) →
  (storeCells (at_ b o) vs k).run P w=.ok () (setCells w b (o+k) vs):=by
 induction vs with
 | nil=>intros;rfl
 | cons v vs ih =>
  intro w k h1 h2
  unfold storeCells
  have h0:fm w b (o+k):=h2 0 (by simp)
  rw [run_bind,qd,run_store (h1 v (by simp)) h0]
  simp only
  rw [ih _ (k+1) (fun v hv=>h1 v (by simp [hv]))]
  ·rfl
  ·intro i hi
   have:=h2 (i+1) (by simp;omega)
   refine Ext.p9 (Ext.setCell (F:=fun _ _=>True) v trivial) ?_
   rwa [show o +(k+1)+i=o+k +(i+1) by omega]
end
end Go.LM
namespace Go.LM
def Row{α : Type}(w:World)(R : α → List Value→ah→Prop)(size:Nat):List α → Nat→Nat→ah→Prop
 | [],_,_,_=>True
 | x :: xs,b,o,F=>∃vs G H,R x vs G∧vs.length=size∧b8 w b o vs∧Row w R size xs b (o+size) H∧ah.apart G H∧ah.sub G F∧ah.sub H F
structure m7{α : Type}(w:World)(R : α → List Value→ah→Prop)(size:Nat)(x:List α)(a:Addr)(c:Nat)(F:ah):Prop where
 spot:a.spot=none
 cap:x.length≤c
 wr:∀j,j<c*size→fR w size a.block (a.off+j)
 inF:∀j,j<c*size→F a.block (a.off+j)
 row:∃G,Row w R size x a.block a.off G∧(∀j,j<c*size→¬G a.block (a.off+j))∧ah.sub G F
mutual
def ad.al(w:World)(Z:ah):(t:ad)→a'→t.D→List Value→ah→Prop
 | .int k,_,x,vs,_=>vs=[.int k x]
 | .bool,_,x,vs,_=>vs=[.bool x]
 | .str,_,x,vs,_=>∃s:ByteArray,vs=[.string s]∧s.data.toList=x
 | .raw,_,x,vs,_=>vs=[x]∧∃A n c,x=.slice A n c
 | .sl t,.O e,x,vs,F=>∃A c,vs=[.slice A x.length c]∧((x=[]∧c=0)∨∃a,A=some a∧m7 w (t.al w Z e) t.size x a c F)
 | .sl t,_,x,vs,_=>∃A c,vs=[.slice A x.length c]∧(x=[]∨∃a,A=some a∧a.spot=none∧Row w (fun y us _=>t.al w Z .R y us ah.none) t.size x a.block a.off ah.none∧(∀j,j<x.length*t.size→Z a.block (a.off+j))∧x.length≤c)
 | .st aj,m,x,vs,F=>aj.al w Z m.parts x vs F
def ay.al(w:World)(Z:ah):(aj:ay)→cU→aj.D→List Value→ah→Prop
 | .nil,_,_,vs,_=>vs=[]
 | .cons t aj,m,x,vs,F=>∃us bI G H,vs=us++bI∧t.al w Z m.ag x.1 us G∧aj.al w Z m.dx x.2 bI H∧ah.apart G H∧ah.sub G F∧ah.sub H F
end
def b9(w w':World)(S:ah):Prop:=∀b o,S b o→w'.cell? (at_ b o)=w.cell? (at_ b o)∧∀k,w'.frozen? (at_ b k)=w.frozen? (at_ b k)
theorem b9.mono{w w':World}{S T:ah}(h:b9 w w' S)(hs:ah.sub T S):b9 w w' T:=fun b o ho=>h b o (hs b o ho)
theorem b9.p9{w w':World}{S:ah}(h:b9 w w' S){b o:Nat}(hs:S b o)(hw:fm w b o):fm w' b o:=by
 obtain ⟨⟨v,hv⟩,hf⟩:=hw
 exact⟨⟨v,by rw [(h b o hs).1];exact hv⟩,by rw [(h b o hs).2 o];exact hf⟩
theorem b9.kp{w w':World}{S:ah}(h:b9 w w' S){size b o:Nat}(hs:S b o)(hw:fR w size b o):fR w' size b o :=
 ⟨h.p9 hs hw.1,hw.2.imp id fun hk k=>by rw [(h b o hs).2 k];exact hk k⟩
theorem b9.Bj{w w':World}{S:ah}(h:b9 w w' S){b o:Nat}{vs:List Value}(hs:∀i,i<vs.length→S b (o+i))(hc:b8 w b o vs):b8 w' b o vs :=
 hc.of_eq fun i hi=>(h b _ (hs i hi)).1
theorem b9.refl(w:World)(S:ah):b9 w w S:=fun _ _ _=>⟨rfl,fun _=>rfl⟩
theorem b9.trans{a b c:World}{S:ah}(h:b9 a b S)(k:b9 b c S):b9 a c S:=fun i o hs=>⟨(k i o hs).1.trans (h i o hs).1,fun j=>((k i o hs).2 j).trans ((h i o hs).2 j)⟩
theorem Row.mono{α : Type}{w:World}{R : α → List Value→ah→Prop}{size:Nat}{F F':ah}(hF:ah.sub F F'):∀ {x:List α} {b o:Nat},Row w R size x b o F→Row w R size x b o F'
 | [],_,_,_=>trivial
 | _ :: _,_,_,⟨vs,G,H,h1,h2,h3,h4,a7,bh,bH⟩=>⟨vs,G,H,h1,h2,h3,h4,a7,fun b o h=>hF b o (bh b o h),fun b o h=>hF b o (bH b o h)⟩
theorem Row.imp{α : Type}{w w':World}{R iT : α → List Value→ah→Prop}{size:Nat} : ∀ {x:List α} {b o:Nat} {F:ah},Row w R size x b o F →
  (∀y vs G,ah.sub G F→R y vs G→iT y vs G)→(∀j,j<x.length*size→w'.cell? (at_ b (o+j))=w.cell? (at_ b (o+j)))→Row w' iT size x b o F
 | [],_,_,_,_,_,_=>trivial
 | y :: x,b,o,F,⟨vs,G,H,h1,h2,h3,h4,a7,bh,bH⟩,dJ,hc=>by
  refine⟨vs,G,H,dJ _ _ _ bh h1,h2,h3.of_eq fun i hi=>hc i ?_,?_,a7,bh,bH⟩
  ·rw [List.length_cons,Nat.add_one_mul];omega
  ·refine Row.imp h4 (fun y vs dm hG=>dJ y vs dm fun b o h=>bH b o (hG b o h)) fun j hj=>?_
   have:=hc (size+j) (by rw [List.length_cons,Nat.add_one_mul];omega)
   rwa [← Nat.add_assoc] at this
theorem Row.bare{α : Type}{w:World}{R iT : α → List Value→ah→Prop}{size:Nat} : ∀ {x:List α} {b o:Nat} {F:ah},Row w R size x b o F →
  (∀y vs G,ah.sub G F→R y vs G→iT y vs ah.none)→Row w iT size x b o ah.none
 | [],_,_,_,_,_=>trivial
 | y :: x,b,o,F,⟨vs,G,H,h1,h2,h3,h4,a7,bh,bH⟩,dJ =>
  ⟨vs,ah.none,ah.none,dJ _ _ _ bh h1,h2,h3,Row.bare h4 fun y vs dm hG=>dJ y vs dm fun b o h=>bH b o (hG b o h),fun _ _ h=>h.elim,fun _ _ h=>h,fun _ _ h=>h⟩
mutual
theorem ad.al.mono{w:World}{Z Z':ah}(hZ:ah.sub Z Z'):∀(t:ad) (m:a') {x:t.D} {vs:List Value} {F F':ah},ah.sub F F'→t.al w Z m x vs F→t.al w Z' m x vs F'
 | .int _,_,_,_,_,_,_,h=>by simpa only [ad.al] using h
 | .bool,_,_,_,_,_,_,h=>by simpa only [ad.al] using h
 | .str,_,_,_,_,_,_,h=>by simpa only [ad.al] using h
 | .raw,_,_,_,_,_,_,h=>by simpa only [ad.al] using h
 | .sl t,.O e,x,vs,F,F',hF,h=>by
  simp only [ad.al] at h ⊢
  obtain ⟨A,c,h1,h2⟩:=h
  refine⟨A,c,h1,h2.imp id ?_⟩
  rintro ⟨a,h3,h4⟩
  obtain ⟨G,g1,g2,g3⟩:=h4.row
  exact⟨a,h3,h4.spot,h4.cap,h4.wr,fun j hj=>hF _ _ (h4.inF j hj),G,g1.imp (fun y vs dm _=>ad.al.mono hZ t e fun _ _ h=>h) (fun _ _=>rfl),g2,fun b o h=>hF b o (g3 b o h)⟩
 | .sl t,.R,x,vs,F,F',hF,h=>by
  simp only [ad.al] at h ⊢
  obtain ⟨A,c,h1,h2⟩:=h
  refine⟨A,c,h1,h2.imp id ?_⟩
  rintro ⟨a,h3,h4,a7,bh⟩
  exact⟨a,h3,h4,a7.imp (fun y vs dm _=>ad.al.mono hZ t .R fun _ _ h=>h) (fun _ _=>rfl),fun j hj=>hZ _ _ (bh.1 j hj),bh.2⟩
 | .sl t,.S _,x,vs,F,F',hF,h=>by
  simp only [ad.al] at h ⊢
  obtain ⟨A,c,h1,h2⟩:=h
  refine⟨A,c,h1,h2.imp id ?_⟩
  rintro ⟨a,h3,h4,a7,bh⟩
  exact⟨a,h3,h4,a7.imp (fun y vs dm _=>ad.al.mono hZ t .R fun _ _ h=>h) (fun _ _=>rfl),fun j hj=>hZ _ _ (bh.1 j hj),bh.2⟩
 | .st aj,m,x,vs,F,F',hF,h=>by
  simp only [ad.al] at h ⊢
  exact ay.al.mono hZ aj m.parts hF h
theorem ay.al.mono{w:World}{Z Z':ah}(hZ:ah.sub Z Z'):∀(aj:ay) (m:cU) {x:aj.D} {vs:List Value} {F F':ah},ah.sub F F'→aj.al w Z m x vs F→aj.al w Z' m x vs F'
 | .nil,_,_,_,_,_,_,h=>by simpa only [ay.al] using h
 | .cons t aj,m,x,vs,F,F',hF,h=>by
  simp only [ay.al] at h ⊢
  obtain ⟨us,bI,G,H,h1,h2,h3,h4,a7,bh⟩:=h
  exact⟨us,bI,G,H,h1,ad.al.mono hZ t m.ag (fun _ _ h=>h) h2,ay.al.mono hZ aj m.dx (fun _ _ h=>h) h3,h4,fun b o h=>hF b o (a7 b o h),fun b o h=>hF b o (bh b o h)⟩
end
mutual
theorem ad.al.same{w w':World}{Z:ah}(hZ:b9 w w' Z):∀(t:ad) (m:a') {x:t.D} {vs:List Value} {F:ah},b9 w w' F→t.al w Z m x vs F→t.al w' Z m x vs F
 | .int _,_,_,_,_,_,h=>by simpa only [ad.al] using h
 | .bool,_,_,_,_,_,h=>by simpa only [ad.al] using h
 | .str,_,_,_,_,_,h=>by simpa only [ad.al] using h
 | .raw,_,_,_,_,_,h=>by simpa only [ad.al] using h
 | .sl t,.O e,x,vs,F,hF,h=>by
  simp only [ad.al] at h ⊢
  obtain ⟨A,c,h1,h2⟩:=h
  refine⟨A,c,h1,h2.imp id ?_⟩
  rintro ⟨a,h3,h4⟩
  obtain ⟨G,g1,g2,g3⟩:=h4.row
  have hle:x.length*t.size≤c*t.size:=Nat.mul_le_mul_right _ h4.cap
  exact⟨a,h3,h4.spot,h4.cap,fun j hj=>hF.kp (h4.inF j hj) (h4.wr j hj),h4.inF,G,g1.imp (fun y vs dm hG=>ad.al.same hZ t e (hF.mono fun b o h=>g3 b o (hG b o h))) (fun j hj=>(hF _ _ (h4.inF j (by omega))).1),g2,g3⟩
 | .sl t,.R,x,vs,F,hF,h=>by
  simp only [ad.al] at h ⊢
  obtain ⟨A,c,h1,h2⟩:=h
  refine⟨A,c,h1,h2.imp id ?_⟩
  rintro ⟨a,h3,h4,a7,bh⟩
  exact⟨a,h3,h4,a7.imp (fun y vs dm _=>ad.al.same hZ t .R (fun _ _ h=>h.elim)) (fun j hj=>(hZ _ _ (bh.1 j hj)).1),bh⟩
 | .sl t,.S _,x,vs,F,hF,h=>by
  simp only [ad.al] at h ⊢
  obtain ⟨A,c,h1,h2⟩:=h
  refine⟨A,c,h1,h2.imp id ?_⟩
  rintro ⟨a,h3,h4,a7,bh⟩
  exact⟨a,h3,h4,a7.imp (fun y vs dm _=>ad.al.same hZ t .R (fun _ _ h=>h.elim)) (fun j hj=>(hZ _ _ (bh.1 j hj)).1),bh⟩
 | .st aj,m,x,vs,F,hF,h=>by
  simp only [ad.al] at h ⊢
  exact ay.al.same hZ aj m.parts hF h
theorem ay.al.same{w w':World}{Z:ah}(hZ:b9 w w' Z):∀(aj:ay) (m:cU) {x:aj.D} {vs:List Value} {F:ah},b9 w w' F→aj.al w Z m x vs F→aj.al w' Z m x vs F
 | .nil,_,_,_,_,_,h=>by simpa only [ay.al] using h
 | .cons t aj,m,x,vs,F,hF,h=>by
  simp only [ay.al] at h ⊢
  obtain ⟨us,bI,G,H,h1,h2,h3,h4,a7,bh⟩:=h
  exact⟨us,bI,G,H,h1,ad.al.same hZ t m.ag (hF.mono a7) h2,ay.al.same hZ aj m.dx (hF.mono bh) h3,h4,a7,bh⟩
end
mutual
theorem ad.al.len{w:World}{Z:ah} : ∀(t:ad) (m:a') {x:t.D} {vs:List Value} {F:ah},t.al w Z m x vs F→vs.length=t.size∧∀v∈vs,ee v=true
 | .int _,_,_,_,_,h=>by simp only [ad.al] at h;subst h;simp [ad.size,ee]
 | .bool,_,_,_,_,h=>by simp only [ad.al] at h;subst h;simp [ad.size,ee]
 | .str,_,_,_,_,h=>by simp only [ad.al] at h;obtain ⟨s,rfl,_⟩:=h;simp [ad.size,ee]
 | .raw,_,_,_,_,h=>by simp only [ad.al] at h;obtain ⟨rfl,A,n,c,rfl⟩:=h;simp [ad.size,ee]
 | .sl t,.O e,x,vs,F,h=>by simp only [ad.al] at h;obtain ⟨A,c,rfl,_⟩:=h;simp [ad.size,ee]
 | .sl t,.R,x,vs,F,h=>by simp only [ad.al] at h;obtain ⟨A,c,rfl,_⟩:=h;simp [ad.size,ee]
 | .sl t,.S _,x,vs,F,h=>by simp only [ad.al] at h;obtain ⟨A,c,rfl,_⟩:=h;simp [ad.size,ee]
 | .st aj,m,x,vs,F,h=>by simp only [ad.al] at h;simpa only [ad.size] using ay.al.len aj m.parts h
theorem ay.al.len{w:World}{Z:ah} : ∀(aj:ay) (m:cU) {x:aj.D} {vs:List Value} {F:ah},aj.al w Z m x vs F→vs.length=aj.size∧∀v∈vs,ee v=true
 | .nil,_,_,_,_,h=>by simp only [ay.al] at h;subst h;simp [ay.size]
 | .cons t aj,m,x,vs,F,h=>by
  simp only [ay.al] at h
  obtain ⟨us,bI,G,H,rfl,h2,h3,_⟩:=h
  have a:=ad.al.len t m.ag h2
  have b:=ay.al.len aj m.dx h3
  refine⟨by simp [ay.size,a.1,b.1],fun v hv=>?_⟩
  rcases List.mem_append.1 hv with h | h
  ·exact a.2 v h
  ·exact b.2 v h
end
mutual
theorem ad.al.read{w:World}{Z Z':ah}(hZ:ah.sub Z Z'):∀(t:ad) (m:a') {x:t.D} {vs:List Value} {F:ah},ah.sub F Z'→t.al w Z m x vs F→t.al w Z' .R x vs ah.none
 | .int _,_,_,_,_,_,h=>by simpa only [ad.al] using h
 | .bool,_,_,_,_,_,h=>by simpa only [ad.al] using h
 | .str,_,_,_,_,_,h=>by simpa only [ad.al] using h
 | .raw,_,_,_,_,_,h=>by simpa only [ad.al] using h
 | .sl t,.O e,x,vs,F,hF,h=>by
  simp only [ad.al] at h ⊢
  obtain ⟨A,c,h1,h2⟩:=h
  refine⟨A,c,h1,?_⟩
  rcases h2 with⟨h,_⟩ | ⟨a,h3,h4⟩
  ·exact .inl h
  ·obtain ⟨G,g1,g2,g3⟩:=h4.row
   have hle:x.length*t.size≤c*t.size:=Nat.mul_le_mul_right _ h4.cap
   exact .inr ⟨a,h3,h4.spot,g1.bare fun y vs dm hG=>ad.al.read hZ t e (fun b o h=>hF b o (g3 b o (hG b o h))),fun j hj=>hF _ _ (h4.inF j (by omega)),h4.cap⟩
 | .sl t,.R,x,vs,F,hF,h=>ad.al.mono hZ (.sl t) .R (F:=ah.none) (fun _ _ h=>h) (by simpa only [ad.al] using h)
 | .sl t,.S _,x,vs,F,hF,h=>ad.al.mono hZ (.sl t) .R (F:=ah.none) (fun _ _ h=>h) (by simpa only [ad.al] using h)
 | .st aj,m,x,vs,F,hF,h=>by
  simp only [ad.al] at h ⊢
  exact ay.al.read hZ aj m.parts hF h
theorem ay.al.read{w:World}{Z Z':ah}(hZ:ah.sub Z Z'):∀(aj:ay) (m:cU) {x:aj.D} {vs:List Value} {F:ah},ah.sub F Z'→aj.al w Z m x vs F→aj.al w Z' (a'.parts .R) x vs ah.none
 | .nil,_,_,_,_,_,h=>by simpa only [ay.al] using h
 | .cons t aj,m,x,vs,F,hF,h=>by
  simp only [ay.al] at h ⊢
  obtain ⟨us,bI,G,H,h1,h2,h3,h4,a7,bh⟩:=h
  exact⟨us,bI,ah.none,ah.none,h1,ad.al.read hZ t m.ag (fun b o h=>hF b o (a7 b o h)) h2,ay.al.read hZ aj m.dx (fun b o h=>hF b o (bh b o h)) h3,fun _ _ h=>h.elim,fun _ _ h=>h,fun _ _ h=>h⟩
end
mutual
theorem rr{w:World}{Z:ah} : ∀ {t:ad} {x:t.D} {vs:List Value} {F:ah},t.al w Z .R x vs F→t.al w Z .R x vs ah.none
 | .int _,_,_,_,h=>by simpa only [ad.al] using h
 | .bool,_,_,_,h=>by simpa only [ad.al] using h
 | .str,_,_,_,h=>by simpa only [ad.al] using h
 | .raw,_,_,_,h=>by simpa only [ad.al] using h
 | .sl t,_,_,_,h=>by simpa only [ad.al] using h
 | .st aj,_,_,_,h=>by simp only [ad.al] at h ⊢;exact OD h
theorem OD{w:World}{Z:ah} : ∀ {aj:ay} {x:aj.D} {vs:List Value} {F:ah},aj.al w Z (a'.parts .R) x vs F→aj.al w Z (a'.parts .R) x vs ah.none
 | .nil,_,_,_,h=>by simpa only [ay.al] using h
 | .cons t aj,_,_,_,h=>by
  simp only [ay.al] at h ⊢
  obtain ⟨us,bI,G,H,h1,h2,h3,h4,a7,bh⟩:=h
  exact⟨us,bI,ah.none,ah.none,h1,rr h2,OD h3,fun _ _ h=>h.elim,fun _ _ h=>h,fun _ _ h=>h⟩
end
mutual
theorem rj{w:World}{Z Z':ah} : ∀(t:ad) {m m':a'} {x:t.D} {vs:List Value} {F F':ah},t.flat=true→t.al w Z m x vs F→t.al w Z' m' x vs F'
 | .int _,_,_,_,_,_,_,_,h=>by simpa only [ad.al] using h
 | .bool,_,_,_,_,_,_,_,h=>by simpa only [ad.al] using h
 | .str,_,_,_,_,_,_,_,h=>by simpa only [ad.al] using h
 | .raw,_,_,_,_,_,_,_,h=>by simpa only [ad.al] using h
 | .sl t,_,_,_,_,_,_,hf,h=>by simp [ad.flat] at hf
 | .st aj,_,_,_,_,_,_,hf,h=>by simp only [ad.flat] at hf;simp only [ad.al] at h ⊢;exact OE aj hf h
theorem OE{w:World}{Z Z':ah} : ∀(aj:ay) {m m':cU} {x:aj.D} {vs:List Value} {F F':ah},aj.flat=true→aj.al w Z m x vs F→aj.al w Z' m' x vs F'
 | .nil,_,_,_,_,_,_,_,h=>by simpa only [ay.al] using h
 | .cons t aj,_,_,_,_,_,_,hf,h=>by
  simp only [ay.flat] at hf
  simp only [ay.al] at h ⊢
  obtain ⟨us,bI,G,H,h1,h2,h3,h4,a7,bh⟩:=h
  cases hb:t.flat
  ·rw [hb] at hf;simp at hf
  ·rw [hb] at hf
   exact⟨us,bI,ah.none,ah.none,h1,rj t hb h2,OE aj hf h3,fun _ _ h=>h.elim,fun _ _ h=>h.elim,fun _ _ h=>h.elim⟩
end
mutual
theorem tp{w:World}{Z Z':ah} : ∀(t:ad) {x:t.D} {vs:List Value} {F:ah},t.al w Z t.own x vs F→t.al w Z' t.own x vs F
 | .int _,_,_,_,h=>by simpa only [ad.al] using h
 | .bool,_,_,_,h=>by simpa only [ad.al] using h
 | .str,_,_,_,h=>by simpa only [ad.al] using h
 | .raw,_,_,_,h=>by simpa only [ad.al] using h
 | .sl t,_,_,_,h=>by
  simp only [ad.own,ad.al] at h ⊢
  obtain ⟨A,c,h1,h2⟩:=h
  refine⟨A,c,h1,h2.imp (fun h=>h) ?_⟩
  rintro ⟨a,h3,h4⟩
  obtain ⟨G,g1,g2,g3⟩:=h4.row
  exact⟨a,h3,h4.spot,h4.cap,h4.wr,h4.inF,G,g1.imp (fun y vs dm _=>tp t) (fun _ _=>rfl),g2,g3⟩
 | .st aj,_,_,_,h=>by
  simp only [ad.own] at h ⊢
  cases hb:aj.flat
  ·rw [hb] at h
   simp only [ad.al,a'.parts,Bool.false_eq_true,if_false] at h ⊢
   exact Bk aj h
  ·rw [hb] at h
   exact rj (.st aj) (by simp only [ad.flat];exact hb) h
theorem Bk{w:World}{Z Z':ah} : ∀(aj:ay) {x:aj.D} {vs:List Value} {F:ah},aj.al w Z aj.own x vs F→aj.al w Z' aj.own x vs F
 | .nil,_,_,_,h=>by simpa only [ay.al] using h
 | .cons t aj,_,_,_,h=>by
  simp only [ay.own,ay.al,cU.ag,cU.dx] at h ⊢
  obtain ⟨us,bI,G,H,h1,h2,h3,h4,a7,bh⟩:=h
  exact⟨us,bI,G,H,h1,tp t h2,Bk aj h3,h4,a7,bh⟩
end
end Go.LM
namespace Go.LM
structure bG where
 base:Option Addr
 cap:Nat
 F:ah
def dg(ι : Nat→bG)(dp:List (Nat×Nat)):ah:=fun b o=>∃d,d∈dp∧(ι d.1).F b o
def known(s:an)(id:Nat):Prop:=s.o id≠.none
def et(s:an)(d:Nat×Nat):Prop:=known s d.1∧(s.o d.1=.dead∨d.2≤ks s d.1)
def cm.live:cm→Prop
 | .row .. | .var .. => True
 | _=>False
structure Hw(i:bG)(size:Nat)(sub:Option (Nat×Nat))(len:Nat)(A:Option Addr)(n c:Nat):Prop where
 OF:n=match sub with | none=>len | some (_,m)=>m
 fits:ei sub+n≤len
 le:n≤c
 cap:ei sub+c≤i.cap
 at_:c=0∨∃a,i.base=some a∧A=some (at_ a.block (a.off+ei sub*size))
theorem lD{o:cm}{t:ad}{em:a'}{ver:Nat}{xs:List t.D}(h:o=.row t em ver xs):o.core=.row t em ver xs:=by rw [h];rfl
def jm(s:an)(ι : Nat→bG)(p:Place)(a:Addr):Prop :=
 a.spot=none∧match (s.o p.id).core with
  | .var _ cs=>p.fa=none∧∃a0,(ι p.id).base=some a0∧a=at_ a0.block (a0.off+p.off)
  | .row t _ _ xs=>∃i,p.fa=some i∧i<xs.length∧∃a0,(ι p.id).base=some a0∧a=at_ a0.block (a0.off+i*t.size+p.off)
  | _=>True
def ru(w:World)(s:an)(ι : Nat→bG)(dp:List (Nat×Nat))(cr:Option Place)(v:Value):Prop :=
 ∀p,cr=some p→(∃d,d∈dp∧d.1=p.id)∧(alive s dp=true→∃b o,jm s ι p (at_ b o)∧w.cell? (at_ b o)=some v∧(ι p.id).F b o)
theorem ru.none{w:World}{s:an}{ι : Nat→bG}{dp:List (Nat×Nat)}{v:Value} : ru w s ι dp none v:=fun p h=>by cases h
def cj(w:World)(Z:ah)(s:an)(ι : Nat→bG):a8→Value→Prop
 | .int k x,v=>v=.int k x
 | .bool x,v=>v=.bool x
 | .str x,v=>∃b:ByteArray,v=.string b∧b.data.toList=x
 | .raw x,v=>v=x∧∃A n c,x=.slice A n c
 | .nil _,v=>v=.slice none 0 0
 | .b1 t dp cr xs,v=>(∀d,d∈dp→et s d)∧(∃A n c,v=.slice A n c) ∧
   (alive s dp=true→(ad.sl t).al w (Z.or (dg ι dp)) .R xs [v] ah.none)∧ru w s ι dp cr v
 | .ag id sub,v=>known s id∧∃A n c,v=.slice A n c∧∀t em ver xs,(s.o id).core=.row t em ver xs→Hw (ι id) t.size sub xs.length A n c
def bK(w:World)(Z:ah)(s:an)(ι : Nat→bG):List a8→List Value→Prop
 | [],[]=>True
 | c :: cs,v :: vs=>cj w Z s ι c v∧bK w Z s ι cs vs
 | _,_=>False
mutual
def aQ(w:World)(Z:ah)(s:an)(ι : Nat→bG):a6→Value→Prop
 | .aD,_=>True
 | .gone,v=>v=undef
 | .aV c,v=>cj w Z s ι c v
 | .iu cs,v=>∃vs,v=.agg vs.toArray∧bK w Z s ι cs vs
 | .ptr p,v=>known s p.id∧∃a,v=.pointer (some a)∧jm s ι p a
 | .dk dp cs off,v=>(∀d,d∈dp→et s d)∧∃b o vs,v=.pointer (some (at_ b (o+off))) ∧
   (alive s dp=true→bK w Z s ι cs vs∧b8 w b o vs∧∀j,j<cs.length→Z.or (dg ι dp) b (o+j))
 | .jY,v=>v=.pointer none
 | .kQ,v=>v=.slice none 0 0
 | .opt id o,v=>known s id∧((o<0∧v=.pointer none)∨(0≤o∧∃a,v=.pointer (some a)∧jm s ι ⟨id,some o.toNat,0⟩ a))
 | .rk t,v=>v.cells.toList.length=t.size∧∀u∈v.cells.toList,LM.ee u=true
 | .may b dp cs,v=>(b=false∧v=.pointer none)∨(b=true∧(∀d,d∈dp→et s d)∧∃b o vs,v=.pointer (some (at_ b (o+0))) ∧
   (alive s dp=true→bK w Z s ι cs vs∧b8 w b o vs∧∀j,j<cs.length→Z.or (dg ι dp) b (o+j)))
 | .fn f first lx,v=>∃us vs,v=.func (.func f) us.toArray vs.toArray∧aY w Z s ι first us∧aY w Z s ι lx vs
 | .o9 l,v=>∃vs,v=.tuple vs.toArray∧aY w Z s ι l vs
def aY(w:World)(Z:ah)(s:an)(ι : Nat→bG):List a6→List Value→Prop
 | [],vs=>vs=[]
 | x :: l,vs=>∃v bI,vs=v :: bI∧aQ w Z s ι x v∧aY w Z s ι l bI
end
def h7(w:World)(Z:ah)(s:an)(ι : Nat→bG)(i:bG):cm→Prop
 | .row t em _ xs=>(xs=[]∧i.cap=0)∨∃a,i.base=some a∧m7 w (t.al w Z em) t.size xs a i.cap i.F
 | .var _ cs=>∃a vs,i.base=some a∧a.spot=none∧bK w Z s ι cs vs∧b8 w a.block a.off vs ∧
   (∀j,j<cs.length→fm w a.block (a.off+j)∧i.F a.block (a.off+j))
 | _=>True
structure Seen where
 dp:List (Nat×Nat)
 b:Nat
 o:Nat
 vs:List Value
def tq(w:World)(Z:ah)(s:an)(ι : Nat→bG)(e:Seen):Prop :=
 (∀d,d∈e.dp→et s d)∧(alive s e.dp=true→b8 w e.b e.o e.vs∧∀j,j<e.vs.length→Z.or (dg ι e.dp) e.b (e.o+j))
structure cD where
 n:Nat
 qe:List Value
 gc:List Seen
instance:Coe cD Nat:=⟨cD.n⟩
structure Inv(w0:World)(F0 Z0:ah)(n:cD)(s:an)(a:Act)(w:World)(ι : Nat→bG)(Z:ah):Prop where
 ext:Ext w0 w F0
 dF:∀b o,Z b o→Z0 b o∨F0 b o∨w0.heap.size≤b
 rv:ah.sub Z0 Z
 iU:∀b o,Z b o→b<w.heap.size
 fS:∀id,h7 w Z s ι (ι id) (s.o id)
 own:∀id,(s.o id).live→∀b o,(ι id).F b o→(F0 b o∨w0.heap.size≤b)∧b<w.heap.size
 apart:∀id d',(s.o id).live→(s.o d').live→id≠d'→ah.apart (ι id).F (ι d').F
 c5:∀id,(s.o id).live→ah.apart (ι id).F Z
 tmps:∀k,aQ w Z s ι (s.t k) (a.tmps.getD k undef)
 size:a.tmps.size=n.n
 ghost:aY w Z s ι s.g n.qe
 seen:∀e,e∈n.gc→tq w Z s ι e
 defers:a.defers=[]
theorem bK.len{w:World}{Z:ah}{s:an}{ι : Nat→bG} : ∀ {cs:List a8} {vs:List Value},bK w Z s ι cs vs→vs.length=cs.length
 | [],[],_=>rfl
 | _ :: _,_ :: _,h=>by simp [bK.len h.2]
 | [],_ :: _,h=>h.elim
 | _ :: _,[],h=>h.elim
theorem cj.ee{w:World}{Z:ah}{s:an}{ι : Nat→bG} : ∀ {c:a8} {v:Value},cj w Z s ι c v→LM.ee v=true
 | .int _ _,_,h=>by cases h;rfl
 | .bool _,_,h=>by cases h;rfl
 | .str _,_,⟨_,h,_⟩=>by cases h;rfl
 | .raw _,_,⟨h,_,_,_,h2⟩=>by subst h;subst h2;rfl
 | .nil _,_,h=>by cases h;rfl
 | .b1 _ _ _ _,_,⟨_,⟨_,_,_,h⟩,_,_⟩=>by cases h;rfl
 | .ag _ _,_,⟨_,_,_,_,h,_⟩=>by cases h;rfl
theorem bK.ee{w:World}{Z:ah}{s:an}{ι : Nat→bG} : ∀ {cs:List a8} {vs:List Value},bK w Z s ι cs vs→∀v∈vs,LM.ee v=true
 | [],[],_=>by simp
 | _ :: _,_ :: _,h=>by
  intro v hv
  rcases List.mem_cons.1 hv with rfl | hv
  ·exact h.1.ee
  ·exact bK.ee h.2 v hv
 | [],_ :: _,h=>h.elim
 | _ :: _,[],h=>h.elim
theorem bK.append{w:World}{Z:ah}{s:an}{ι : Nat→bG} : ∀ {cs ds:List a8} {us vs:List Value},bK w Z s ι cs us→bK w Z s ι ds vs→bK w Z s ι (cs++ds) (us++vs)
 | [],_,[],_,_,k=>k
 | _ :: _,_,_ :: _,_,h,k=>⟨h.1,bK.append h.2 k⟩
 | [],_,_ :: _,_,h,_=>h.elim
 | _ :: _,_,[],_,h,_=>h.elim
theorem bK.split{w:World}{Z:ah}{s:an}{ι : Nat→bG} : ∀ {cs ds:List a8} {vs:List Value},bK w Z s ι (cs++ds) vs →
  ∃us aj,vs=us++aj∧us.length=cs.length∧bK w Z s ι cs us∧bK w Z s ι ds aj
 | [],ds,vs,h=>⟨[],vs,rfl,rfl,trivial,h⟩
 | c :: cs,ds,v :: vs,h=>by
  obtain ⟨us,aj,h1,h2,h3,h4⟩:=bK.split (cs:=cs) h.2
  exact⟨v :: us,aj,by rw [h1];rfl,by simp [h2],⟨h.1,h3⟩,h4⟩
 | _ :: _,_,[],h=>h.elim
theorem bK.drop{w:World}{Z:ah}{s:an}{ι : Nat→bG} : ∀(k:Nat) {cs:List a8} {vs:List Value},bK w Z s ι cs vs→bK w Z s ι (cs.drop k) (vs.drop k)
 | 0,_,_,h=>h
 | _+1,[],[],h=>h
 | k+1,_ :: _,_ :: _,h=>bK.drop k h.2
 | _+1,[],_ :: _,h=>h.elim
 | _+1,_ :: _,[],h=>h.elim
theorem bK.take{w:World}{Z:ah}{s:an}{ι : Nat→bG} : ∀(k:Nat) {cs:List a8} {vs:List Value},bK w Z s ι cs vs→bK w Z s ι (cs.take k) (vs.take k)
 | 0,_,_,h=>trivial
 | _+1,[],[],h=>h
 | k+1,_ :: _,_ :: _,h=>⟨h.1,bK.take k h.2⟩
 | _+1,[],_ :: _,h=>h.elim
 | _+1,_ :: _,[],h=>h.elim
theorem bK.mono{w w':World}{Z Z':ah}{s aq:an}{ι bf:Nat→bG}(hc:∀c v,cj w Z s ι c v→cj w' Z' aq bf c v) :
  ∀ {cs:List a8} {vs:List Value},bK w Z s ι cs vs→bK w' Z' aq bf cs vs
 | [],[],_=>trivial
 | _ :: _,_ :: _,h=>⟨hc _ _ h.1,bK.mono hc h.2⟩
 | [],_ :: _,h=>h.elim
 | _ :: _,[],h=>h.elim
inductive iV:cm→bG→cm→bG→Prop
 | stay (o:cm) (i:bG):iV o i o i
 | made (o':cm) (i ea:bG):iV .none i o' ea
 | dead (o:cm) (i ea:bG):iV o i .dead ea
 | row (t:ad) (em gr:a') (v eQ:Nat) (xs fT:List t.D) (i ea:bG) (hv:v<eQ) (hl:fT.length=xs.length) (hb:ea.base=i.base) (hc:ea.cap=i.cap):iV (.row t em v xs) i (.row t gr eQ fT) ea
 | var (v eQ:Nat) (cs cs':List a8) (i:bG) (hv:v<eQ) (hl:cs'.length=cs.length):iV (.var v cs) i (.var eQ cs') i
 | fo (o:cm) (i:bG) (hl:o.live):iV o i (.ch o) i
 | ry (t:ad) (em gr:a') (v eQ:Nat) (xs fT:List t.D) (i ea:bG) (hv:v<eQ) (hl:fT.length=xs.length) (hb:ea.base=i.base) (hc:ea.cap=i.cap):iV (.ch (.row t em v xs)) i (.row t gr eQ fT) ea
 | yi (v eQ:Nat) (cs cs':List a8) (i ea:bG) (hv:v<eQ) (hb:ea.base=i.base):iV (.ch (.var v cs)) i (.var eQ cs') ea
def rz(s:an)(ι : Nat→bG)(aq:an)(bf:Nat→bG):Prop:=∀id,iV (s.o id) (ι id) (aq.o id) (bf id)
theorem rz.known{s aq:an}{ι bf:Nat→bG}(h:rz s ι aq bf){id:Nat}(hk:known s id):known aq id:=by
 unfold LM.known at *
 have:=h id
 generalize s.o id=o at *;generalize aq.o id=o' at *;generalize ι id=i at *;generalize bf id=ea at *
 cases this <;> simp_all
theorem rz.dep{s aq:an}{ι bf:Nat→bG}(h:rz s ι aq bf){d:Nat×Nat}(hk:et s d):et aq d:=by
 refine⟨h.known hk.1,?_⟩
 obtain ⟨k1,k2⟩:=hk
 unfold LM.known ks at *
 have:=h d.1
 generalize s.o d.1=o at *;generalize aq.o d.1=o' at *;generalize ι d.1=i at *;generalize bf d.1=ea at *
 cases this with
 | stay=>exact k2
 | made=>exact absurd rfl k1
 | dead=>exact .inl rfl
 | row t em gr v eQ xs fT i ea lE hl hb hc=>rcases k2 with h | h;exact absurd h (by simp);exact .inr (by dsimp only at *;omega)
 | var v eQ cs cs' i lE hl=>rcases k2 with h | h;exact absurd h (by simp);exact .inr (by dsimp only at *;omega)
 | fo o i hl =>
  rcases k2 with h | h
  ·rw [h] at hl;exact hl.elim
  ·cases o <;> first | exact hl.elim | exact .inr h
 | ry t em gr v eQ xs fT i ea lE hl hb hc=>rcases k2 with h | h;exact absurd h (by simp);exact .inr (by dsimp only at *;omega)
 | yi v eQ cs cs' i ea lE hb=>rcases k2 with h | h;exact absurd h (by simp);exact .inr (by dsimp only at *;omega)
theorem rz.stays{s aq:an}{ι bf:Nat→bG}(h:rz s ι aq bf):∀ {dp:List (Nat×Nat)},(∀d,d∈dp→et s d)→alive aq dp=true →
  alive s dp=true∧∀d,d∈dp→aq.o d.1=s.o d.1 ∧ bf d.1 = ι d.1∧(s.o d.1).live
 | [],_,_=>⟨rfl,by simp⟩
 | (id,v) :: dp,hk,ha=>by
  have fb:=fun ha=>rz.stays h (dp:=dp) (fun d ag=>hk d (by simp [ag])) ha
  obtain ⟨k1,k2⟩:=hk (id,v) (by simp)
  have ht:=h id
  simp only [LM.known,ks] at k1 k2
  unfold alive at ha ⊢
  generalize ho:s.o id=o at *
  generalize rA:aq.o id=o' at *
  generalize hi : ι id=i at *
  generalize c_ : bf id=ea at *
  cases ht with
  | stay =>
   cases o with
   | row t em w xs =>
    dsimp only at ha ⊢
    cases hb:Nat.beq w v
    ·rw [hb] at ha;simp at ha
    ·rw [hb] at ha
     obtain ⟨bD,cg⟩:=fb ha
     refine⟨bD,fun d ag=>?_⟩
     rcases List.mem_cons.1 ag with rfl | ag
     ·exact⟨by rw [ho,rA],by rw [hi,c_],by rw [ho];trivial⟩
     ·exact cg d ag
   | var w cs =>
    dsimp only at ha ⊢
    cases hb:Nat.beq w v
    ·rw [hb] at ha;simp at ha
    ·rw [hb] at ha
     obtain ⟨bD,cg⟩:=fb ha
     refine⟨bD,fun d ag=>?_⟩
     rcases List.mem_cons.1 ag with rfl | ag
     ·exact⟨by rw [ho,rA],by rw [hi,c_],by rw [ho];trivial⟩
     ·exact cg d ag
   | none=>simp at ha
   | dead=>simp at ha
   | ch=>simp at ha
  | made=>exact absurd rfl k1
  | dead=>simp at ha
  | fo=>simp at ha
  | ry t em gr w w' xs fT i ea hv hl hb hc =>
   dsimp only at ha
   cases hb:Nat.beq w' v
   ·rw [hb] at ha;simp at ha
   ·have:=Nat.eq_of_beq_eq_true hb;simp at k2;omega
  | yi w w' cs cs' i ea hv hb =>
   dsimp only at ha
   cases hb:Nat.beq w' v
   ·rw [hb] at ha;simp at ha
   ·have:=Nat.eq_of_beq_eq_true hb;simp at k2;omega
  | row t em gr w w' xs fT i ea hv hl hb hc =>
   dsimp only at ha
   cases hb:Nat.beq w' v
   ·rw [hb] at ha;simp at ha
   ·have:=Nat.eq_of_beq_eq_true hb;simp at k2;omega
  | var w w' cs cs' i hv hl =>
   dsimp only at ha
   cases hb:Nat.beq w' v
   ·rw [hb] at ha;simp at ha
   ·have:=Nat.eq_of_beq_eq_true hb;simp at k2;omega
def OG(s:an)(ι : Nat→bG)(aq:an)(bf:Nat→bG)(Z:ah):ah :=
 fun b o=>Z b o∨∃id,(s.o id).live∧aq.o id=s.o id ∧ bf id = ι id∧(ι id).F b o
section
variable{w w':World}{Z Z':ah}{s aq:an}{ι bf:Nat→bG}
structure eI(w:World)(Z:ah)(s:an)(ι : Nat→bG)(w':World)(Z':ah)(aq:an)(bf:Nat→bG):Prop where
 turns:rz s ι aq bf
 dF:ah.sub Z Z'
 same:b9 w w' (OG s ι aq bf Z)
theorem eI.dg(h:eI w Z s ι w' Z' aq bf){dp:List (Nat×Nat)}(hk:∀d,d∈dp→et s d)(ha:alive aq dp=true) :
  b9 w w' (Z.or (dg ι dp))∧ah.sub (Z.or (LM.dg ι dp)) (Z'.or (LM.dg bf dp)):=by
 obtain ⟨h1,h2⟩:=h.turns.stays hk ha
 refine⟨h.same.mono ?_,?_⟩
 ·rintro b o (hz | ⟨d,ag,hf⟩)
  ·exact .inl hz
  ·exact .inr ⟨d.1,(h2 d ag).2.2,(h2 d ag).1,(h2 d ag).2.1,hf⟩
 ·rintro b o (hz | ⟨d,ag,hf⟩)
  ·exact .inl (h.dF b o hz)
  ·exact .inr ⟨d,ag,by rw [(h2 d ag).2.1];exact hf⟩
theorem jm.move(h:eI w Z s ι w' Z' aq bf){p:Place}{a:Addr}(hk:known s p.id)(au:jm s ι p a):jm aq bf p a:=by
 obtain ⟨hs,au⟩:=au
 refine⟨hs,?_⟩
 have ht:=h.turns p.id
 unfold known at hk
 generalize s.o p.id=o at *;generalize aq.o p.id=o' at *;generalize ι p.id=i at *;generalize bf p.id=ea at *
 cases ht with
 | stay=>exact au
 | made=>exact absurd rfl hk
 | dead=>trivial
 | row t em gr v eQ xs fT i ea hv hl hb hc=>obtain ⟨k,h1,h2,h3⟩:=au;exact⟨k,h1,by omega,by rw [hb];exact h3⟩
 | var=>exact au
 | fo o i hl=>cases o <;> first | exact hl.elim | exact au
 | ry t em gr v eQ xs fT i ea hv hl hb hc=>obtain ⟨k,h1,h2,h3⟩:=au;exact⟨k,h1,by omega,by rw [hb];exact h3⟩
 | yi v eQ cs cs' i ea hv hb=>obtain ⟨h1,h2⟩:=au;exact⟨h1,by rw [hb];exact h2⟩
theorem ru.move(h:eI w Z s ι w' Z' aq bf){dp:List (Nat×Nat)}{cr:Option Place}{v:Value}(hk:∀d,d∈dp→et s d)(ho:ru w s ι dp cr v):ru w' aq bf dp cr v:=by
 intro p au
 obtain ⟨⟨d,ag,b2⟩,h2⟩:=ho p au
 refine⟨⟨d,ag,b2⟩,fun ha=>?_⟩
 obtain ⟨c8,eJ⟩:=h.dg hk ha
 obtain ⟨s1,s2⟩:=h.turns.stays hk ha
 obtain ⟨b,o,k1,k2,k3⟩:=h2 s1
 refine⟨b,o,k1.move h (b2 ▸ (hk d ag).1),?_,?_⟩
 ·rw [(c8 b o (.inr ⟨d,ag,b2 ▸ k3⟩)).1];exact k2
 ·rw [← b2,(s2 d ag).2.1,b2];exact k3
theorem cj.move(h:eI w Z s ι w' Z' aq bf):∀ {c:a8} {v:Value},cj w Z s ι c v→cj w' Z' aq bf c v
 | .int _ _,_,hc=>hc
 | .bool _,_,hc=>hc
 | .str _,_,hc=>hc
 | .raw _,_,hc=>hc
 | .nil _,_,hc=>hc
 | .b1 t dp cr xs,v,⟨h1,h2,h3,h4⟩=>by
  refine⟨fun d ag=>h.turns.dep (h1 d ag),h2,fun ha=>?_,h4.move h h1⟩
  obtain ⟨a,b⟩:=h.dg h1 ha
  exact ad.al.mono b _ _ (fun _ _ h=>h) (ad.al.same a _ _ (fun _ _ h=>h.elim) (h3 (h.turns.stays h1 ha).1))
 | .ag id sub,v,⟨h1,A,n,c,hv,h2⟩=>by
  refine⟨h.turns.known h1,A,n,c,hv,fun t em ver xs ho=>?_⟩
  have ht:=h.turns id
  unfold LM.known at h1
  generalize vT:s.o id=o at *
  generalize hii : ι id=i at *
  generalize ak6:aq.o id=o' at *
  generalize ak7 : bf id=ea at *
  cases ht with
  | stay=>exact h2 _ _ _ _ ho
  | made=>exact absurd rfl h1
  | dead=>simp [cm.core] at ho
  | row t em gr v eQ xs fT i ea hv hl hb hc =>
   simp only [cm.core,cm.row.injEq] at ho
   obtain ⟨rfl,_,_,ho⟩:=ho
   have:=eq_of_heq ho;subst this
   obtain ⟨c8,eJ,iv,iw,ix⟩:=h2 _ _ _ _ rfl
   exact⟨by rw [hl];exact c8,by rw [hl];exact eJ,iv,by rw [hc];exact iw,by rw [hb];exact ix⟩
  | var=>simp [cm.core] at ho
  | fo o i hl=>exact h2 _ _ _ _ (by cases o <;> first | exact hl.elim | exact ho)
  | ry t em gr v eQ xs fT i ea hv hl hb hc =>
   simp only [cm.core,cm.row.injEq] at ho
   obtain ⟨rfl,_,_,ho⟩:=ho
   have:=eq_of_heq ho;subst this
   obtain ⟨c8,eJ,iv,iw,ix⟩:=h2 _ _ _ _ rfl
   exact⟨by rw [hl];exact c8,by rw [hl];exact eJ,iv,by rw [hc];exact iw,by rw [hb];exact ix⟩
  | yi=>simp [cm.core] at ho
theorem bK.move(h:eI w Z s ι w' Z' aq bf){cs:List a8}{vs:List Value}(hc:bK w Z s ι cs vs):bK w' Z' aq bf cs vs :=
 bK.mono (fun _ _=>cj.move h) hc
mutual
theorem aQ.move(h:eI w Z s ι w' Z' aq bf):∀ {x:a6} {v:Value},aQ w Z s ι x v→aQ w' Z' aq bf x v
 | .aD,_,_=>by simp only [aQ]
 | .gone,_,hx=>by simpa only [aQ] using hx
 | .aV c,v,hx=>by simp only [aQ] at hx ⊢;exact hx.move h
 | .iu cs,v,hx=>by simp only [aQ] at hx ⊢;obtain ⟨vs,h1,h2⟩:=hx;exact⟨vs,h1,h2.move h⟩
 | .ptr p,v,hx=>by
  simp only [aQ] at hx ⊢;obtain ⟨h1,a,h2,h3⟩:=hx;exact⟨h.turns.known h1,a,h2,h3.move h h1⟩
 | .dk dp cs off,v,hx=>by
  simp only [aQ] at hx ⊢
  obtain ⟨h1,b,o,vs,h2,h3⟩:=hx
  refine⟨fun d ag=>h.turns.dep (h1 d ag),b,o,vs,h2,fun ha=>?_⟩
  obtain ⟨c8,eJ⟩:=h.dg h1 ha
  obtain ⟨bD,cg,gd⟩:=h3 (h.turns.stays h1 ha).1
  exact⟨bD.move h,c8.Bj (fun i hi=>gd i (by rw [← bD.len];exact hi)) cg,fun j hj=>eJ _ _ (gd j hj)⟩
 | .rk t,v,hx=>by simpa only [aQ] using hx
 | .may q dp cs,v,hx=>by
  simp only [aQ] at hx ⊢
  rcases hx with hx | ⟨h0,h1,b,o,vs,h2,h3⟩
  ·exact .inl hx
  refine .inr ⟨h0,fun d ag=>h.turns.dep (h1 d ag),b,o,vs,h2,fun ha=>?_⟩
  obtain ⟨c8,eJ⟩:=h.dg h1 ha
  obtain ⟨bD,cg,gd⟩:=h3 (h.turns.stays h1 ha).1
  exact⟨bD.move h,c8.Bj (fun i hi=>gd i (by rw [← bD.len];exact hi)) cg,fun j hj=>eJ _ _ (gd j hj)⟩
 | .jY,_,hx=>by simpa only [aQ] using hx
 | .kQ,_,hx=>by simpa only [aQ] using hx
 | .opt id o,v,hx=>by
  simp only [aQ] at hx ⊢
  obtain ⟨h1,h2⟩:=hx
  exact⟨h.turns.known h1,h2.imp (fun x=>x) fun⟨h3,a,h4,a7⟩=>⟨h3,a,h4,a7.move h h1⟩⟩
 | .fn f l m,v,hx=>by
  simp only [aQ] at hx ⊢
  obtain ⟨us,vs,h1,h2,h3⟩:=hx
  exact⟨us,vs,h1,aY.move h h2,aY.move h h3⟩
 | .o9 l,v,hx=>by
  simp only [aQ] at hx ⊢
  obtain ⟨vs,h1,h2⟩:=hx
  exact⟨vs,h1,aY.move h h2⟩
theorem aY.move(h:eI w Z s ι w' Z' aq bf):∀ {x:List a6} {v:List Value},aY w Z s ι x v→aY w' Z' aq bf x v
 | [],v,hx=>by simpa only [aY] using hx
 | x :: l,v,hx=>by
  simp only [aY] at hx ⊢
  obtain ⟨u,us,h1,h2,h3⟩:=hx
  exact⟨u,us,h1,aQ.move h h2,aY.move h h3⟩
end
theorem tq.move(h:eI w Z s ι w' Z' aq bf){e:Seen}(he:tq w Z s ι e):tq w' Z' aq bf e:=by
 obtain ⟨h1,h2⟩:=he
 refine⟨fun d ag=>h.turns.dep (h1 d ag),fun ha=>?_⟩
 obtain ⟨c8,eJ⟩:=h.dg h1 ha
 obtain ⟨bD,cg⟩:=h2 (h.turns.stays h1 ha).1
 exact⟨c8.Bj cg bD,fun j hj=>eJ _ _ (cg j hj)⟩
theorem h7.move(h:eI w Z s ι w' Z' aq bf){id:Nat}(hl:(s.o id).live→aq.o id=s.o id ∧ bf id = ι id){o:cm}(ho:s.o id=o)(hs:h7 w Z s ι (ι id) o):h7 w' Z' aq bf (ι id) o:=by
 cases o with
 | none=>trivial
 | dead=>trivial
 | ch=>trivial
 | row t em ver xs =>
  have cc:(s.o id).live:=by rw [ho];trivial
  have hs1:b9 w w' (ι id).F:=h.same.mono fun b o hf=>.inr ⟨id,cc,(hl cc).1,(hl cc).2,hf⟩
  rcases hs with hs | ⟨a,h1,h2⟩
  ·exact .inl hs
  ·refine .inr ⟨a,h1,h2.spot,h2.cap,fun j hj=>hs1.kp (h2.inF j hj) (h2.wr j hj),h2.inF,?_⟩
   obtain ⟨G,g1,g2,g3⟩:=h2.row
   have hle:xs.length*t.size≤(ι id).cap*t.size:=Nat.mul_le_mul_right _ h2.cap
   exact⟨G,g1.imp (fun y vs dm hG hr=>ad.al.mono h.dF _ _ (fun _ _ h=>h) (ad.al.same (h.same.mono fun b o hz=>.inl hz) _ _ (hs1.mono fun b o aB=>g3 b o (hG b o aB)) hr)) (fun j hj=>(hs1 _ _ (h2.inF j (by omega))).1),g2,g3⟩
 | var ver cs =>
  have cc:(s.o id).live:=by rw [ho];trivial
  have hs1:b9 w w' (ι id).F:=h.same.mono fun b o hf=>.inr ⟨id,cc,(hl cc).1,(hl cc).2,hf⟩
  obtain ⟨a,vs,h1,h2,h3,h4,a7⟩:=hs
  exact⟨a,vs,h1,h2,h3.move h,hs1.Bj (fun i hi=>(a7 i (by rw [← h3.len];exact hi)).2) h4,fun j hj=>⟨hs1.p9 (a7 j hj).2 (a7 j hj).1,(a7 j hj).2⟩⟩
end
end Go.LM
namespace Go.LM
section
variable{w0:World}{F0 Z0:ah}{n:cD}{s aq:an}{a b_:Act}{w w':World}{ι bf:Nat→bG}{Z Z':ah}
theorem Inv.next(h:Inv w0 F0 Z0 n s a w ι Z)(hm:eI w Z s ι w' Z' aq bf){S:ah}(hx:Ext w w' S)
  (dQ:∀b o,S b o→F0 b o∨w0.heap.size≤b)
  (hz:∀b o,Z' b o→Z b o∨((F0 b o∨w0.heap.size≤b)∧b<w'.heap.size))
  (ho:∀id,(aq.o id).live→¬(aq.o id=s.o id ∧ bf id = ι id)→h7 w' Z' aq bf (bf id) (aq.o id) ∧
   (∀b o,(bf id).F b o→(F0 b o∨w0.heap.size≤b)∧b<w'.heap.size)∧(∀d',(aq.o d').live→id≠d'→ah.apart (bf id).F (bf d').F))
  (oi:∀id,(aq.o id).live→ah.apart (bf id).F Z')
  (ht:∀k,aQ w' Z' aq bf (aq.t k) (b_.tmps.getD k undef))
  (hn:b_.tmps.size=n) (ag:b_.defers=[]) (yj:aq.g=s.g:=by rfl):Inv w0 F0 Z0 n aq b_ w' bf Z':=by
 have hsz:=hx.size
 refine⟨?_,?_,?_,?_,?_,?_,?_,oi,ht,hn,by rw [yj];exact aY.move hm h.ghost,fun e he=>(h.seen e he).move hm,ag⟩
 ·refine h.ext.trans' hx dQ
 ·intro b o hb
  rcases hz b o hb with h1 | h1
  ·exact h.dF b o h1
  ·exact .inr h1.1
 ·exact fun b o hb=>hm.dF b o (h.rv b o hb)
 ·intro b o hb
  rcases hz b o hb with h1 | h1
  ·exact Nat.lt_of_lt_of_le (h.iU b o h1) hsz
  ·exact h1.2
 ·intro id
  by_cases hl:(aq.o id).live
  ·by_cases hst:aq.o id=s.o id ∧ bf id = ι id
   ·have:=h7.move hm (id:=id) (fun _=>hst) rfl (h.fS id)
    rw [hst.2,hst.1];exact this
   ·exact(ho id hl hst).1
  ·cases hh:aq.o id with
   | none=>trivial
   | dead=>trivial
   | ch=>trivial
   | row=>rw [hh] at hl;exact absurd trivial hl
   | var=>rw [hh] at hl;exact absurd trivial hl
 ·intro id hl b o hf
  by_cases hst:aq.o id=s.o id ∧ bf id = ι id
  ·rw [hst.2] at hf
   have:=h.own id (hst.1 ▸ hl) b o hf
   exact⟨this.1,Nat.lt_of_lt_of_le this.2 hsz⟩
  ·exact(ho id hl hst).2.1 b o hf
 ·intro id d' hl gf hne
  by_cases hst:aq.o id=s.o id ∧ bf id = ι id
  ·by_cases qf:aq.o d'=s.o d' ∧ bf d' = ι d'
   ·rw [hst.2,qf.2];exact h.apart id d' (hst.1 ▸ hl) (qf.1 ▸ gf) hne
   ·exact fun b o h1 h2=>(ho d' gf qf).2.2 id hl (Ne.symm hne) b o h2 h1
  ·exact(ho id hl hst).2.2 d' gf hne
theorem b9.iW{S T:ah}(hx:Ext w w' S)(bZ:∀b o,T b o→b<w.heap.size)(ha:ah.apart T S):b9 w w' T :=
 fun b o ht=>⟨hx.cell (bZ b o ht) (fun hs=>ha b o ht hs),hx.frozen (bZ b o ht)⟩
theorem Inv.rB(h:Inv w0 F0 Z0 n s a w ι Z):∀b o,OG s ι aq bf Z b o→b<w.heap.size:=by
 rintro b o (hz | ⟨id,hl,_,_,hf⟩)
 ·exact h.iU b o hz
 ·exact(h.own id hl b o hf).2
theorem cS{α : Type}{f:Nat → α}{i j:Nat}{v : α}(h:i≠j):bU f i v j=f j:=rl (Ne.symm h)
theorem Inv.tmp(h:Inv w0 F0 Z0 n s a w ι Z)(ho:aq.o=s.o)(ht:∀k,aQ w Z aq ι (aq.t k) (b_.tmps.getD k undef))
  (hn:b_.tmps.size=n) (ag:b_.defers=[]) (yj:aq.g=s.g:=by rfl):Inv w0 F0 Z0 n aq b_ w ι Z:=by
 refine h.next (S:=ah.none) ⟨fun id=>by rw [ho];exact .stay _ _,fun _ _ h=>h,b9.refl _ _⟩ (Ext.refl _ _) (fun _ _ h=>h.elim) (fun _ _ h=>.inl h) ?_ ?_ ht hn ag yj
 ·intro id _ hne;exact absurd ⟨by rw [ho],rfl⟩ hne
 ·intro id hl;exact h.c5 id (by rwa [ho] at hl)
theorem Hy(ho:aq.o=s.o):eI w Z s ι w Z aq ι :=⟨fun id=>by rw [ho];exact .stay _ _,fun _ _ h=>h,b9.refl _ _⟩
theorem Hz(t:Array Value)(d k:Nat)(u:Value)(ag:d<t.size):(t.setIfInBounds d u).getD k undef=if d=k then u else t.getD k undef:=by
 simp only [Array.getD_eq_getD_getElem?,Array.getElem?_setIfInBounds]
 by_cases hk:d=k
 ·subst hk;simp [ag]
 ·simp [hk]
theorem Inv.set(h:Inv w0 F0 Z0 n s a w ι Z){d:Nat}{v:a6}{u:Value}(hv:aQ w Z s ι v u)(ag:d<n) :
  Inv w0 F0 Z0 n (s.set d v) (a.put (some d) u) w ι Z:=by
 have hm:eI w Z s ι w Z (s.set d v) ι := Hy rfl
 refine h.tmp rfl (fun k=>?_) (by simpa [Act.put] using h.size) (by simpa [Act.put] using h.defers)
 show aQ w Z (s.set d v) ι (bU s.t d v k) ((a.tmps.setIfInBounds d u).getD k undef)
 rw [Hz _ _ _ _ (by rw [h.size];exact ag)]
 by_cases hk:d=k
 ·subst hk;rw [cw,if_pos rfl];exact hv.move hm
 ·rw [cS hk,if_neg hk];exact(h.tmps k).move hm
theorem Inv.dst(h:Inv w0 F0 Z0 n s a w ι Z){d:Option Nat}{v:a6}{u:Value}(hv:aQ w Z s ι v u)(ag:∀k,d=some k→k<n) :
  Inv w0 F0 Z0 n (s.dst d v) (a.put d u) w ι Z:=by
 cases d with
 | none=>exact h
 | some d=>exact h.set hv (ag d rfl)
theorem Inv.world(h:Inv w0 F0 Z0 n s a w ι Z)(hx:Ext w w' ah.none):Inv w0 F0 Z0 n s a w' ι Z:=by
 have hm:eI w Z s ι w' Z s ι :=⟨fun id=>.stay _ _,fun _ _ h=>h,b9.iW hx h.rB (fun _ _ _ h=>h)⟩
 refine h.next hm hx (fun _ _ h=>h.elim) (fun _ _ h=>.inl h) ?_ h.c5 (fun k=>(h.tmps k).move hm) h.size h.defers
 intro id _ hne;exact absurd ⟨rfl,rfl⟩ hne
theorem Inv.drew(h:Inv w0 F0 Z0 n s a w ι Z)(m:Nat):Inv w0 F0 Z0 n s a { w with drawn:=m } ι Z:=h.world (Ext.drew _ _ _)
theorem OH(h:Inv w0 F0 Z0 n s a w ι Z){id:Nat}(b2:s.o id=.none)(hx:Ext w w' ah.none)(o:cm)(i:bG) :
  eI w Z s ι w' Z (s.bQ id o) (bU ι id i):=by
 refine⟨fun j=>?_,fun _ _ h=>h,b9.iW hx h.rB (fun _ _ _ h=>h)⟩
 show iV (s.o j) (ι j) (bU s.o id o j) (bU ι id i j)
 by_cases hj:id=j
 ·subst hj;rw [b2];exact .made _ _ _
 ·rw [cS hj,cS hj];exact .stay _ _
theorem Inv.new(h:Inv w0 F0 Z0 n s a w ι Z){id:Nat}(b2:s.o id=.none)(hx:Ext w w' ah.none){o:cm}{i:bG}
  (cN:h7 w' Z (s.bQ id o) (bU ι id i) i o) (hF:∀b o,i.F b o→w.heap.size≤b∧b<w'.heap.size) :
  Inv w0 F0 Z0 n (s.bQ id o) a w' (bU ι id i) Z:=by
 have hm:=OH h b2 hx o i
 have hsz:=h.ext.size
 refine h.next hm hx (fun _ _ h=>h.elim) (fun _ _ h=>.inl h) ?_ ?_ (fun k=>(h.tmps k).move hm) h.size h.defers
 ·intro j hl hne
  by_cases hj:id=j
  ·subst hj
   rw [cw]
   refine⟨by show h7 _ _ _ _ _ (bU s.o id o id);rw [cw];exact cN,fun b o hf=>⟨.inr (by have:=(hF b o hf).1;omega),(hF b o hf).2⟩,fun kU gf jI b o h1 h2=>?_⟩
   rw [cS jI] at h2
   have dR:(s.o kU).live:=by
    have:(bU s.o id _ kU).live:=gf
    rwa [cS jI] at this
   have:=(h.own kU dR b o h2).2
   have:=(hF b o h1).1
   omega
  ·exact absurd ⟨cS hj,cS hj⟩ hne
 ·intro j hl b o h1 h2
  by_cases hj:id=j
  ·subst hj
   rw [cw] at h1
   have:=(hF b o h1).1
   have:=h.iU b o h2
   omega
  ·rw [cS hj] at h1
   have dR:(s.o j).live:=by
    have:(bU s.o id _ j).live:=hl
    rwa [cS hj] at this
   exact h.c5 j dR b o h1 h2
theorem HA{id j:Nat}(hl:((s.bQ id .dead).o j).live):id≠j∧(s.o j).live:=by
 have h:(bU s.o id cm.dead j).live:=hl
 by_cases hj:id=j
 ·subst hj;rw [cw] at h;exact h.elim
 ·rw [cS hj] at h;exact⟨hj,h⟩
theorem X7(h:Inv w0 F0 Z0 n s a w ι Z)(id:Nat)(hZ:ah.sub Z Z'):eI w Z s ι w Z' (s.bQ id .dead) ι := by
 refine⟨fun j=>?_,hZ,b9.refl _ _⟩
 show iV (s.o j) (ι j) (bU s.o id cm.dead j) (ι j)
 by_cases hj:id=j
 ·subst hj;rw [cw];exact .dead _ _ _
 ·rw [cS hj];exact .stay _ _
theorem Inv.take(h:Inv w0 F0 Z0 n s a w ι Z)(id:Nat)(hZ:ah.sub Z Z')(hz:∀b o,Z' b o→Z b o∨((s.o id).live∧(ι id).F b o)) :
  Inv w0 F0 Z0 n (s.bQ id .dead) a w ι Z':=by
 have hm:=X7 h id hZ
 refine h.next hm (Ext.refl _ ah.none) (fun _ _ h=>h.elim) ?_ ?_ ?_ (fun k=>(h.tmps k).move hm) h.size h.defers
 ·intro b o hb
  rcases hz b o hb with h1 | ⟨h1,h2⟩
  ·exact .inl h1
  ·exact .inr (h.own id h1 b o h2)
 ·intro j hl hne
  obtain ⟨hj,dR⟩:=HA hl
  exact absurd ⟨cS hj,rfl⟩ hne
 ·intro j hl b o h1 h2
  obtain ⟨hj,dR⟩:=HA hl
  rcases hz b o h2 with h3 | ⟨h3,h4⟩
  ·exact h.c5 j dR b o h1 h3
  ·exact h.apart id j h3 dR hj b o h4 h1
end
end Go.LM
namespace Go.LM
theorem Row.drop{α : Type}{w:World}{R : α → List Value→ah→Prop}{size:Nat} : ∀(k:Nat) {x:List α} {b o:Nat} {F:ah},Row w R size x b o F→Row w R size (x.drop k) b (o+k*size) F
 | 0,x,b,o,F,h=>by simpa using h
 | k+1,[],b,o,F,h=>trivial
 | k+1,y :: x,b,o,F,⟨vs,G,H,h1,h2,h3,h4,a7,bh,bH⟩=>by
  have:=Row.drop k h4
  rw [show o+size+k*size=o +(k+1)*size by rw [Nat.add_one_mul];omega] at this
  exact this.mono bH
theorem Row.take{α : Type}{w:World}{R : α → List Value→ah→Prop}{size:Nat} : ∀(k:Nat) {x:List α} {b o:Nat} {F:ah},Row w R size x b o F→Row w R size (x.take k) b o F
 | 0,x,b,o,F,h=>by rw [List.take_zero];trivial
 | k+1,[],b,o,F,h=>trivial
 | k+1,y :: x,b,o,F,⟨vs,G,H,h1,h2,h3,h4,a7,bh,bH⟩=>⟨vs,G,H,h1,h2,h3,Row.take k h4,a7,bh,bH⟩
theorem gR{u t:ad}{xs:List u.D}{x:List t.D}(h:eG (.sl u) (.sl t) xs=some x):∃e:u=t,x=e ▸ xs:=by
 obtain ⟨e,hx⟩:=Bd h
 injection e with e
 subst e
 exact⟨rfl,hx⟩
section
variable{w0:World}{F0 Z0:ah}{n:cD}{s aq:an}{a:Act}{w:World}{ι : Nat→bG}{Z Z':ah}
structure bJ(w0:World)(F0:ah)(s:an)(w:World)(ι : Nat→bG)(Z F:ah):Prop where
 own:∀b o,F b o→(F0 b o∨w0.heap.size≤b)∧b<w.heap.size
 apart:∀id,(s.o id).live→ah.apart F (ι id).F
 c5:ah.apart F Z
theorem bJ.none:bJ w0 F0 s w ι Z ah.none:=⟨fun _ _ h=>h.elim,fun _ _ _ _ h=>h.elim,fun _ _ h=>h.elim⟩
structure fc(s:an)(ι : Nat→bG)(Z:ah)(aq:an)(Z':ah):Prop where
 o:∀id,aq.o id=s.o id∨((s.o id).live∧aq.o id=.dead)
 t:aq.t=s.t
 g:aq.g=s.g
 dF:ah.sub Z Z'
 pd:∀b o,Z' b o→Z b o∨∃id,(s.o id).live∧aq.o id=.dead∧(ι id).F b o
theorem fc.refl:fc s ι Z s Z:=⟨fun _=>.inl rfl,rfl,rfl,fun _ _ h=>h,fun _ _ h=>.inl h⟩
theorem fc.trans{s2:an}{bL:ah}(h:fc s ι Z aq Z')(k:fc aq ι Z' s2 bL):fc s ι Z s2 bL:=by
 refine⟨fun id=>?_,k.t.trans h.t,k.g.trans h.g,fun b o hz=>k.dF b o (h.dF b o hz),fun b o hz=>?_⟩
 ·rcases k.o id with h1 | ⟨h0,h1⟩
  ·rw [h1];exact h.o id
  ·rcases h.o id with h2 | ⟨_,h2⟩
   ·exact .inr ⟨h2 ▸ h0,h1⟩
   ·rw [h2] at h0;exact h0.elim
 ·rcases k.pd b o hz with h1 | ⟨id,h1,h2,h3⟩
  ·rcases h.pd b o h1 with h1 | ⟨id,h1,h2,h3⟩
   ·exact .inl h1
   ·refine .inr ⟨id,h1,?_,h3⟩
    rcases k.o id with h4 | ⟨_,h4⟩
    ·rw [h4,h2]
    ·exact h4
  ·rcases h.o id with h4 | ⟨_,h4⟩
   ·exact .inr ⟨id,h4 ▸ h1,h2,h3⟩
   ·rw [h4] at h1;exact h1.elim
theorem fc.ej(h:fc s ι Z aq Z'):eI w Z s ι w Z' aq ι := by
 refine⟨fun id=>?_,h.dF,b9.refl _ _⟩
 rcases h.o id with h1 | ⟨_,h1⟩
 ·rw [h1];exact .stay _ _
 ·rw [h1];exact .dead _ _ _
theorem fc.live(h:fc s ι Z aq Z'){id:Nat}(hl:(aq.o id).live):(s.o id).live∧aq.o id=s.o id:=by
 rcases h.o id with h1 | ⟨_,h1⟩
 ·exact⟨h1 ▸ hl,h1⟩
 ·rw [h1] at hl;exact hl.elim
theorem bJ.shrink{F:ah}(hf:bJ w0 F0 s w ι Z F)(h:fc s ι Z aq Z'):bJ w0 F0 aq w ι Z' F:=by
 refine⟨hf.own,fun id hl=>hf.apart id (h.live hl).1,fun b o h1 h2=>?_⟩
 rcases h.pd b o h2 with h3 | ⟨id,h3,_,h4⟩
 ·exact hf.c5 b o h1 h3
 ·exact hf.apart id h3 b o h1 h4
theorem bJ.or{F G:ah}(hf:bJ w0 F0 s w ι Z F)(aB:bJ w0 F0 s w ι Z G):bJ w0 F0 s w ι Z (F.or G) :=
 ⟨fun b o h=>h.elim (hf.own b o) (aB.own b o),fun id hl b o h=>h.elim (hf.apart id hl b o) (aB.apart id hl b o),fun b o h=>h.elim (hf.c5 b o) (aB.c5 b o)⟩
theorem Inv.vV(h:Inv w0 F0 Z0 n s a w ι Z){id:Nat}(hl:(s.o id).live):bJ w0 F0 (s.bQ id .dead) w ι Z (ι id).F :=
 ⟨h.own id hl,fun j hj=>by obtain ⟨h1,h2⟩:=HA hj;exact h.apart id j hl h2 h1,h.c5 id hl⟩
theorem vW(id:Nat)(hl:(s.o id).live):fc s ι Z (s.bQ id .dead) Z:=by
 refine⟨fun j=>?_,rfl,rfl,fun _ _ h=>h,fun _ _ h=>.inl h⟩
 by_cases hj:id=j
 ·subst hj;exact .inr ⟨hl,cw _ _ _⟩
 ·exact .inl (cS hj)
theorem OI(h:Inv w0 F0 Z0 n s a w ι Z){id:Nat}(hl:(s.o id).live):fc s ι Z (s.bQ id .dead) (Z.or (ι id).F):=by
 refine⟨fun j=>?_,rfl,rfl,fun _ _ h=>.inl h,fun b o hz=>?_⟩
 ·by_cases hj:id=j
  ·subst hj;exact .inr ⟨hl,cw _ _ _⟩
  ·exact .inl (cS hj)
 ·rcases hz with h1 | h1
  ·exact .inl h1
  ·exact .inr ⟨id,hl,cw _ _ _,h1⟩
theorem vX{i:bG}{t:ad}{em:a'}{xs:List t.D}{sub:Option (Nat×Nat)}{A:Option Addr}{m c:Nat}{ver:Nat}
  (ho:h7 w Z s ι i (.row t em ver xs)) (hh:Hw i t.size sub xs.length A m c) :
  (ad.sl t).al w Z (.O em) (kR sub xs) [.slice A m c] i.F:=by
 obtain ⟨hn,hfit,hle,hcap,b4⟩:=hh
 have hlen:(kR sub xs).length=m:=by
  cases sub with
  | none=>simp [kR,hn]
  | some p=>obtain ⟨lo,k⟩:=p;simp only [kR,part,List.length_take,List.length_drop,ei] at *;omega
 simp only [ad.al]
 refine⟨A,c,by rw [hlen],?_⟩
 rcases b4 with h0 | ⟨a0,hb,hA⟩
 ·exact .inl ⟨List.eq_nil_of_length_eq_zero (by omega),h0⟩
 ·rcases ho with⟨hx,h0⟩ | ⟨vY,dG,hr⟩
  ·refine .inl ⟨List.eq_nil_of_length_eq_zero (by omega),by omega⟩
  ·rw [hb] at dG
   obtain rfl:=aT dG
   refine .inr ⟨_,hA,rfl,by rw [hlen];exact hle,fun j hj=>?_,fun j hj=>?_,?_⟩
   ·have:=hr.wr (ei sub*t.size+j) (by
     have:(ei sub+c)*t.size≤i.cap*t.size:=Nat.mul_le_mul_right _ hcap
     rw [Nat.add_mul] at this;omega)
    rwa [← Nat.add_assoc] at this
   ·have:=hr.inF (ei sub*t.size+j) (by
     have:(ei sub+c)*t.size≤i.cap*t.size:=Nat.mul_le_mul_right _ hcap
     rw [Nat.add_mul] at this;omega)
    rwa [← Nat.add_assoc] at this
   ·obtain ⟨G,g1,g2,g3⟩:=hr.row
    refine⟨G,?_,fun j hj=>?_,g3⟩
    ·cases sub with
     | none=>simpa [kR,ei] using g1
     | some p=>obtain ⟨lo,k⟩:=p;exact(g1.drop lo).take k
    ·have:=g2 (ei sub*t.size+j) (by
      have:(ei sub+c)*t.size≤i.cap*t.size:=Nat.mul_le_mul_right _ hcap
      rw [Nat.add_mul] at this;omega)
     rwa [← Nat.add_assoc] at this
theorem HB{t:ad}{c:a8}{xs:List t.D}{v:Value}(h:Inv w0 F0 Z0 n s a w ι Z)(hl:pb s t c=some xs)(hc:cj w Z s ι c v) :
  (ad.sl t).al w (Z.or (dg ι (borrows s c))) .R xs [v] ah.none∧alive s (borrows s c)=true∧∀d,d∈borrows s c→et s d:=by
 cases c with
 | nil u =>
  obtain ⟨e,rfl⟩:=gR hl
  subst e
  have hv:v=.slice none 0 0:=hc
  subst hv
  refine⟨?_,rfl,by simp [borrows]⟩
  simp only [ad.al]
  exact⟨none,0,rfl,.inl trivial⟩
 | b1 u dp cr ys =>
  simp only [pb] at hl
  obtain ⟨h1,h2,h3⟩:=hc
  cases ha:alive s dp with
  | false=>rw [ha] at hl;simp at hl
  | true =>
   rw [ha] at hl
   obtain ⟨e,rfl⟩:=gR hl
   subst e
   exact⟨h3.1 ha,ha,h1⟩
 | ag id sub =>
  simp only [pb] at hl
  obtain ⟨h1,A,m,k,rfl,h2⟩:=hc
  cases ho:s.o id with
  | row u em ver ys =>
   rw [ho] at hl
   obtain ⟨e,rfl⟩:=gR hl
   subst e
   have hb:borrows s (.ag id sub)=[(id,ver)]:=by simp only [borrows,ho]
   rw [hb]
   refine⟨?_,?_,?_⟩
   ·have c2:=h.fS id
    rw [ho] at c2
    refine ad.al.read (fun _ _ h=>.inl h) _ _ (fun b o hf=>.inr ⟨(id,ver),by simp,hf⟩) (vX c2 (h2 u em ver ys (lD ho)))
   ·simp [alive,ho]
   ·intro d ag
    simp at ag
    subst ag
    exact⟨h1,.inr (by simp [ks,ho])⟩
  | _=>rw [ho] at hl;simp at hl
 | _=>simp [pb] at hl
theorem HC(ι : Nat→bG)(nb bl:List (Nat×Nat)):ah.sub (dg ι bl) (dg ι (nb++bl)) :=
 fun b o ⟨d,h1,h2⟩=>⟨d,List.mem_append.2 (.inr h1),h2⟩
def yk(w0:World)(F0 Z0:ah)(n:cD)(s:an)(a:Act)(w:World)(ι : Nat→bG)(Z:ah)(b:Bool)(R:ah→List Value→ah→Prop)(vs:List Value)
  (cs':List a8) (aq:an) (bl nc:List (Nat×Nat)):Prop :=
 ∃us bI F Z',vs=us++bI∧Inv w0 F0 Z0 n aq a w ι Z'∧fc s ι Z aq Z'∧bK w Z' aq ι cs' bI∧bJ w0 F0 aq w ι Z' F ∧
  R (Z'.or (dg ι nc)) us F∧(∃nb,nc=nb++bl)∧(b=false→nc=bl)∧(∀d,d∈nc→et aq d) ∧
  ∀b o,F b o→∃id,(s.o id).live∧(ι id).F b o
theorem vZ{b:Bool}{R:ah→List Value→ah→Prop}{v:Value}{bI:List Value}{cs':List a8}{bl:List (Nat×Nat)}(h:Inv w0 F0 Z0 n s a w ι Z)
  (hc:bK w Z s ι cs' bI) (hb:∀d,d∈bl→et s d) (dJ:∀Z,R Z [v] ah.none):yk w0 F0 Z0 n s a w ι Z b R (v :: bI) cs' s bl bl :=
 ⟨[v],bI,ah.none,Z,rfl,h,.refl,hc,.none,dJ _,⟨[],rfl⟩,fun _=>rfl,hb,fun _ _ h=>h.elim⟩
theorem HD(h:fc s ι Z aq Z'){d:Nat×Nat}(ag:et s d):et aq d:=by
 obtain ⟨h1,h2⟩:=ag
 unfold et known ks at *
 rcases h.o d.1 with h3 | ⟨_,h3⟩
 ·rw [h3];exact⟨h1,h2⟩
 ·rw [h3];exact⟨by simp,.inl rfl⟩
theorem OJ{t:ad}{e:a'}{x:List t.D}{vs:List Value}{F:ah}(h:(ad.sl t).al w Z (.O e) x vs F) :
  ∃F',ah.sub F' F∧(ad.sl t).al w (Z.or fun b o=>F b o∧¬F' b o) (.O .R) x vs F':=by
 simp only [ad.al] at h ⊢
 obtain ⟨A,c,hv,h⟩:=h
 rcases h with h | ⟨a,hA,hr⟩
 ·exact⟨ah.none,fun _ _ h=>h.elim,A,c,hv,.inl h⟩
 ·obtain ⟨G,g1,g2,g3⟩:=hr.row
  refine⟨ah.run a.block a.off (c*t.size),?_,A,c,hv,.inr ⟨a,hA,hr.spot,hr.cap,hr.wr,fun j hj=>⟨rfl,by omega,by omega⟩,ah.none,?_,fun _ _ h=>h,fun _ _ h=>h.elim⟩⟩
  ·rintro b o ⟨rfl,h1,h2⟩
   have:=hr.inF (o-a.off) (by omega)
   rwa [show a.off +(o-a.off)=o by omega] at this
  ·refine g1.bare fun y us dm hG aN=>ad.al.read (fun _ _ h=>.inl h) _ _ (fun b o aB=>.inr ⟨g3 b o (hG b o aB),?_⟩) aN
   rintro ⟨rfl,h1,h2⟩
   have:=g2 (o-a.off) (by omega)
   rw [show a.off +(o-a.off)=o by omega] at this
   exact this (hG _ o aB)
theorem X8(t:ad)(b:Bool)(m:a')(c:a8)(cs:List a8)(s:an)(bl:List (Nat×Nat))(r:List t.D×List a8×an×List (Nat×Nat))(v:Value)(vs:List Value)(Z:ah)
  (hi:(ad.sl t).imp b m (c :: cs) s bl=some r) (h:Inv w0 F0 Z0 n s a w ι Z) (hc:bK w Z s ι (c :: cs) (v :: vs)) (hb:∀d,d∈bl→et s d) :
  yk w0 F0 Z0 n s a w ι Z b (fun Z us F=>(ad.sl t).al w Z m r.1 us F) (v :: vs) r.2.1 r.2.2.1 bl r.2.2.2:=by
 have nd:∀ {Z m},v=.slice none 0 0→(ad.sl t).al w Z m ([]:List t.D) [v] ah.none:=by
  intro Z m hv;subst hv
  cases m <;> simp only [ad.al] <;> exact⟨none,0,rfl,.inl (by simp)⟩
 have frozen:∀(m:a'),m=.R∨(∃ms,m=.S ms)→(ad.sl t).imp b m (c :: cs) s bl=some r →
   yk w0 F0 Z0 n s a w ι Z b (fun Z us F=>(ad.sl t).al w Z m r.1 us F) (v :: vs) r.2.1 r.2.2.1 bl r.2.2.2:=by
  intro m hm hi
  have HE:∀ {Z:ah} {x:List t.D} {us:List Value},(ad.sl t).al w Z .R x us ah.none→(ad.sl t).al w Z m x us ah.none:=by
   rcases hm with rfl | ⟨ms,rfl⟩
   ·exact fun h=>h
   ·intro Z x us h;simpa only [ad.al] using h
  cases b with
  | true =>
   have c_:(pb s t c).bind (fun x=>some (x,cs,s,borrows s c++bl))=some r:=by
    rcases hm with rfl | ⟨ms,rfl⟩ <;> simpa only [ad.imp] using hi
   obtain ⟨x,hx,c_⟩:=bg c_
   obtain rfl:=aT c_
   obtain ⟨ek,fp,gg⟩:=HB h hx hc.1
   refine⟨[v],vs,ah.none,Z,rfl,h,.refl,hc.2,.none,HE (ad.al.mono ?_ _ _ (fun _ _ h=>h) ek),⟨_,rfl⟩,fun hf=>by simp at hf,?_,fun _ _ h=>h.elim⟩
   ·rintro b o (hz | ⟨d,ag,hf⟩)
    ·exact .inl hz
    ·exact .inr ⟨d,List.mem_append.2 (.inl ag),hf⟩
   ·intro d ag
    rcases List.mem_append.1 ag with ag | ag
    ·exact gg d ag
    ·exact hb d ag
  | false =>
   cases c with
   | nil u =>
    have c_:(eG (.sl u) (.sl t) ([]:List u.D)).bind (fun x=>some (x,cs,s,bl))=some r:=by
     rcases hm with rfl | ⟨ms,rfl⟩ <;> simpa only [ad.imp] using hi
    obtain ⟨x,hx,c_⟩:=bg c_
    obtain rfl:=aT c_
    obtain ⟨e,rfl⟩:=gR hx
    subst e
    exact vZ h hc.2 hb fun Z=>nd hc.1
   | b1 u dp cr xs =>
    cases dp with
    | cons d dp=>rcases hm with rfl | ⟨ms,rfl⟩ <;> simp [ad.imp] at hi
    | nil =>
     have c_:(eG (.sl u) (.sl t) xs).bind (fun x=>some (x,cs,s,bl))=some r:=by
      rcases hm with rfl | ⟨ms,rfl⟩ <;> simpa only [ad.imp] using hi
     obtain ⟨x,hx,c_⟩:=bg c_
     obtain rfl:=aT c_
     obtain ⟨e,rfl⟩:=gR hx
     subst e
     have p:=hc.1.2.2.1 rfl
     refine⟨[v],vs,ah.none,Z,rfl,h,.refl,hc.2,.none,HE (ad.al.mono ?_ _ _ (fun _ _ h=>h) p),⟨[],rfl⟩,fun _=>rfl,hb,fun _ _ h=>h.elim⟩
     rintro b o (hz | ⟨d,ag,hf⟩)
     ·exact .inl hz
     ·simp at ag
   | ag id sub =>
    cases ho:s.o id with
    | row u em ver xs =>
     have c_:(eG (.sl u) (.sl t) (kR sub xs)).bind (fun x=>some (x,cs,s.bQ id .dead,bl))=some r:=by
      rcases hm with rfl | ⟨ms,rfl⟩ <;> simpa only [ad.imp,ho] using hi
     obtain ⟨x,hx,c_⟩:=bg c_
     obtain rfl:=aT c_
     obtain ⟨e,rfl⟩:=gR hx
     subst e
     have hl:(s.o id).live:=by rw [ho];trivial
     obtain ⟨hk,A,m',k,rfl,hh⟩:=hc.1
     have c2:=h.fS id
     rw [ho] at c2
     have p:=vX c2 (hh u em ver xs (lD ho))
     have iy:=OI h hl
     refine⟨[_],vs,ah.none,Z.or (ι id).F,rfl,h.take id (fun _ _ h=>.inl h) (fun b o hz=>hz.imp (fun h=>h) fun h=>⟨hl,h⟩),iy,hc.2.move iy.ej,.none,HE ?_,⟨[],rfl⟩,fun _=>rfl,fun d ag=>HD iy (hb d ag),fun _ _ h=>h.elim⟩
     exact ad.al.read (fun _ _ h=>.inl (.inl h)) _ _ (fun b o hf=>.inl (.inr hf)) p
    | _=>rcases hm with rfl | ⟨ms,rfl⟩ <;> simp [ad.imp,ho] at hi
   | _=>rcases hm with rfl | ⟨ms,rfl⟩ <;> simp [ad.imp] at hi
 cases m with
 | R=>exact frozen _ (.inl rfl) hi
 | S ms=>exact frozen _ (.inr ⟨ms,rfl⟩) hi
 | O e =>
  cases c with
  | nil u =>
   have c_:(eG (.sl u) (.sl t) ([]:List u.D)).bind (fun x=>some (x,cs,s,bl))=some r:=by
    cases b <;> simpa only [ad.imp] using hi
   obtain ⟨x,hx,c_⟩:=bg c_
   obtain rfl:=aT c_
   obtain ⟨e,rfl⟩:=gR hx
   subst e
   exact vZ h hc.2 hb fun Z=>nd hc.1
  | ag id sub =>
   cases ho:s.o id with
   | row u em ver xs =>
    have c_:(if a'.le em e=true then(eG (.sl u) (.sl t) (kR sub xs)).bind (fun x=>some (x,cs,s.bQ id .dead,bl)) else none)=some r:=by
     cases b <;>(simp only [ad.imp,ho] at hi;rw [← hi];cases a'.le em e <;> rfl)
    split at c_
    case isFalse=>simp at c_
    rename_i hle
    obtain ⟨x,hx,c_⟩:=bg c_
    obtain rfl:=aT c_
    obtain ⟨gQ,rfl⟩:=gR hx
    subst gQ
    have hl:(s.o id).live:=by rw [ho];trivial
    obtain ⟨hk,A,m',k,rfl,hh⟩:=hc.1
    have c2:=h.fS id
    rw [ho] at c2
    have p:=vX c2 (hh u em ver xs (lD ho))
    have fi:=h.vV hl
    by_cases HF:em=e
    ·subst HF
     have iy:fc s ι Z (s.bQ id .dead) Z:=vW id (by rw [ho];trivial)
     exact⟨[_],vs,(ι id).F,Z,rfl,h.take id (fun _ _ h=>h) (fun b o hz=>.inl hz),iy,hc.2.move iy.ej,fi,
      ad.al.mono (fun _ _ h=>.inl h) _ _ (fun _ _ h=>h) p,⟨[],rfl⟩,fun _=>rfl,fun d ag=>HD iy (hb d ag),fun b o hf=>⟨id,hl,hf⟩⟩
    ·have X9:e=.R:=by
      cases e with
      | R=>rfl
      | O e=>exact absurd (a'.eq_of_beq _ _ hle) HF
      | S e=>exact absurd (a'.eq_of_beq _ _ hle) HF
     subst X9
     obtain ⟨F',c8,eJ⟩:=OJ p
     have iy:fc s ι Z (s.bQ id .dead) (Z.or fun b o=>(ι id).F b o∧¬F' b o):=by
      have h0:=OI h hl
      refine⟨h0.o,h0.t,h0.g,fun _ _ h=>.inl h,fun b o hz=>?_⟩
      rcases hz with h1 | h1
      ·exact .inl h1
      ·exact .inr ⟨id,hl,cw _ _ _,h1.1⟩
     refine⟨[_],vs,F',_,rfl,h.take id (fun _ _ h=>.inl h) (fun b o hz=>hz.imp (fun h=>h) fun h=>⟨hl,h.1⟩),iy,hc.2.move iy.ej,⟨fun b o hf=>fi.own b o (c8 b o hf),fun j hj b o hf=>fi.apart j hj b o (c8 b o hf),?_⟩,
      ad.al.mono (fun _ _ h=>.inl h) _ _ (fun _ _ h=>h) eJ,⟨[],rfl⟩,fun _=>rfl,fun d ag=>HD iy (hb d ag),fun b o hf=>⟨id,hl,c8 b o hf⟩⟩
     rintro b o hf (hz | hz)
     ·exact fi.c5 b o (c8 b o hf) hz
     ·exact hz.2 hf
   | _=>cases b <;> simp [ad.imp,ho] at hi
  | _=>cases b <;> simp [ad.imp] at hi
mutual
theorem ad.lF:∀(t:ad) (b:Bool) (m:a') (cs:List a8) (s:an) (bl:List (Nat×Nat)) (r:t.D×List a8×an×List (Nat×Nat)) (vs:List Value) (Z:ah),
  t.imp b m cs s bl=some r→Inv w0 F0 Z0 n s a w ι Z→bK w Z s ι cs vs→(∀d,d∈bl→et s d) →
  yk w0 F0 Z0 n s a w ι Z b (fun Z us F=>t.al w Z m r.1 us F) vs r.2.1 r.2.2.1 bl r.2.2.2
 | .int k,b,m,cs,s,bl,r,vs,Z,hi,h,hc,hb=>by
  cases cs with
  | nil=>cases m <;> simp [ad.imp] at hi
  | cons c cs =>
   cases vs with
   | nil=>exact hc.elim
   | cons v vs =>
    cases c <;> simp only [ad.imp] at hi <;> try (simp at hi;done)
    rename_i k' x
    cases hk:Nat.beq (dq k) (dq k')
    ·rw [hk] at hi;simp at hi
    ·rw [hk] at hi
     obtain rfl:=aT hi
     obtain rfl:=tf (Nat.eq_of_beq_eq_true hk)
     have hv:v=.int k x:=hc.1
     subst hv
     exact vZ h hc.2 hb fun Z=>by simp only [ad.al]
 | .bool,b,m,cs,s,bl,r,vs,Z,hi,h,hc,hb=>by
  cases cs with
  | nil=>cases m <;> simp [ad.imp] at hi
  | cons c cs =>
   cases vs with
   | nil=>exact hc.elim
   | cons v vs =>
    cases c <;> simp only [ad.imp] at hi <;> try (simp at hi;done)
    obtain rfl:=aT hi
    have hv:v=.bool _:=hc.1
    subst hv
    exact vZ h hc.2 hb fun Z=>by simp only [ad.al]
 | .str,b,m,cs,s,bl,r,vs,Z,hi,h,hc,hb=>by
  cases cs with
  | nil=>cases m <;> simp [ad.imp] at hi
  | cons c cs =>
   cases vs with
   | nil=>exact hc.elim
   | cons v vs =>
    cases c <;> simp only [ad.imp] at hi <;> try (simp at hi;done)
    obtain rfl:=aT hi
    obtain ⟨q,rfl,hq⟩:=hc.1
    exact vZ h hc.2 hb fun Z=>by simp only [ad.al];exact⟨q,rfl,hq⟩
 | .raw,b,m,cs,s,bl,r,vs,Z,hi,h,hc,hb=>by
  cases cs with
  | nil=>cases m <;> simp [ad.imp] at hi
  | cons c cs =>
   cases vs with
   | nil=>exact hc.elim
   | cons v vs =>
    cases c <;> simp only [ad.imp] at hi <;> try (simp at hi;done)
    obtain rfl:=aT hi
    obtain ⟨q,hq⟩:=hc.1
    exact vZ h hc.2 hb fun Z=>by simp only [ad.al];exact⟨by rw [q],hq⟩
 | .sl t,b,m,cs,s,bl,r,vs,Z,hi,h,hc,hb=>by
  cases cs with
  | nil=>cases m <;> cases b <;> simp [ad.imp] at hi
  | cons c cs =>
   cases vs with
   | nil=>exact hc.elim
   | cons v vs =>
    exact X8 t b m c cs s bl r v vs Z hi h hc hb
 | .st aj,b,m,cs,s,bl,r,vs,Z,hi,h,hc,hb=>by
  simp only [ad.imp] at hi
  have:=ay.lF aj b m.parts cs s bl r vs Z hi h hc hb
  simpa only [ad.al] using this
theorem ay.lF:∀(aj:ay) (b:Bool) (m:cU) (cs:List a8) (s:an) (bl:List (Nat×Nat)) (r:aj.D×List a8×an×List (Nat×Nat)) (vs:List Value) (Z:ah),
  aj.imp b m cs s bl=some r→Inv w0 F0 Z0 n s a w ι Z→bK w Z s ι cs vs→(∀d,d∈bl→et s d) →
  yk w0 F0 Z0 n s a w ι Z b (fun Z us F=>aj.al w Z m r.1 us F) vs r.2.1 r.2.2.1 bl r.2.2.2
 | .nil,b,m,cs,s,bl,r,vs,Z,hi,h,hc,hb=>by
  simp only [ay.imp] at hi
  obtain rfl:=aT hi
  exact⟨[],vs,ah.none,Z,rfl,h,.refl,hc,.none,by simp only [ay.al],⟨[],rfl⟩,fun _=>rfl,hb,fun _ _ h=>h.elim⟩
 | .cons t aj,b,m,cs,s,bl,r,vs,Z,hi,h,hc,hb=>by
  simp only [ay.imp] at hi
  obtain ⟨bD,h1,hi⟩:=bg hi
  obtain ⟨cg,h2,hi⟩:=bg hi
  obtain rfl:=aT hi
  obtain ⟨us,vs1,F,cq,e1,i1,s1,c1,f1,ek,⟨X_,fU⟩,jn,d1,g1⟩:=ad.lF t b m.ag cs s bl bD vs Z h1 h hc hb
  obtain ⟨us2,vs2,G,bL,e2,i2,s2,gC,f2,fp,⟨HG,mb⟩,rC,d2,g2⟩:=ay.lF aj b m.dx bD.2.1 bD.2.2.1 bD.2.2.2 cg vs1 cq h2 i1 c1 d1
  have kV:ah.sub (cq.or (dg ι bD.2.2.2)) (bL.or (dg ι cg.2.2.2)):=by
   rintro b o (hz | hz)
   ·exact .inl (s2.dF b o hz)
   ·rw [mb];exact .inr (HC _ _ _ b o hz)
  refine⟨us++us2,vs2,F.or G,bL,by rw [e1,e2,List.append_assoc],i2,s1.trans s2,gC,(f1.shrink s2).or f2,?rep,⟨HG++X_,by rw [mb,fU,List.append_assoc]⟩,fun hf=>by rw [rC hf,jn hf],d2,?src⟩
  case src =>
   rintro b o (hf | hf)
   ·exact g1 b o hf
   ·obtain ⟨id,hl,hi⟩:=g2 b o hf;exact⟨id,(s1.live hl).1,hi⟩
  simp only [ay.al]
  refine⟨us,us2,F,G,rfl,ad.al.mono kV _ _ (fun _ _ h=>h) ek,fp,?_,fun _ _ h=>.inl h,fun _ _ h=>.inr h⟩
  intro b o h1 h2
  obtain ⟨id,hl,hi⟩:=g2 b o h2
  exact f1.apart id hl b o h1 hi
end
end
end Go.LM
namespace Go.LM
theorem Row.get{α : Type}{w:World}{R : α → List Value→ah→Prop}{size:Nat} : ∀ {x:List α} {b o:Nat} {F:ah} (i:Nat) (hi:i<x.length),Row w R size x b o F →
  ∃vs G,R x[i] vs G∧vs.length=size∧b8 w b (o+i*size) vs∧ah.sub G F
 | y :: x,b,o,F,0,_,⟨vs,G,H,h1,h2,h3,h4,a7,bh,bH⟩=>⟨vs,G,h1,h2,by simpa using h3,bh⟩
 | y :: x,b,o,F,i+1,hi,⟨vs,G,H,h1,h2,h3,h4,a7,bh,bH⟩=>by
  obtain ⟨us,dm,k1,k2,k3,ba⟩:=Row.get i (by simpa using hi) h4
  refine⟨us,dm,k1,k2,?_,fun b o h=>bH b o (ba b o h)⟩
  rwa [show o +(i+1)*size=o+size+i*size by rw [Nat.add_one_mul];omega]
theorem Row.set{α : Type}{w w':World}{R iT : α → List Value→ah→Prop}{size:Nat}{bB : α}{F1:ah} : ∀ {x:List α} {b o:Nat} {F:ah} (i:Nat) (hi:i<x.length),Row w R size x b o F →
  (∀y vs G,ah.sub G F→R y vs G→iT y vs G) →
  (∀j,j<x.length*size→(j<i*size∨(i+1)*size≤j)→w'.cell? (at_ b (o+j))=w.cell? (at_ b (o+j))) →
  (∀vs G,R x[i] vs G→vs.length=size→b8 w b (o+i*size) vs→ah.sub G F→∃bI,bI.length=size∧b8 w' b (o+i*size) bI∧iT bB bI (G.or F1)) →
  ah.apart F1 F→Row w' iT size (x.set i bB) b o (F.or F1)
 | y :: x,b,o,F,0,_,⟨vs,G,H,h1,h2,h3,h4,a7,bh,bH⟩,dJ,hc,hn,ha=>by
  obtain ⟨bI,k1,k2,k3⟩:=hn vs G h1 h2 (by simpa using h3) bh
  refine⟨bI,G.or F1,H,k3,k1,by simpa using k2,?_,?_,?_,fun b o h=>.inl (bH b o h)⟩
  ·refine Row.imp h4 (fun y vs dm hG=>dJ y vs dm fun b o h=>bH b o (hG b o h)) fun j hj=>?_
   have:=hc (size+j) (by rw [List.length_cons,Nat.add_one_mul];omega) (.inr (by simp))
   rwa [← Nat.add_assoc] at this
  ·rintro b o (h | h) hh
   ·exact a7 b o h hh
   ·exact ha b o h (bH b o hh)
  ·rintro b o (h | h)
   ·exact .inl (bh b o h)
   ·exact .inr h
 | y :: x,b,o,F,i+1,hi,⟨vs,G,H,h1,h2,h3,h4,a7,bh,bH⟩,dJ,hc,hn,ha=>by
  refine⟨vs,G,H.or F1,dJ _ _ _ bh h1,h2,?_,?_,?_,fun b o h=>.inl (bh b o h),?_⟩
  ·refine h3.of_eq fun k hk=>hc k ?_ (.inl ?_)
   ·rw [List.length_cons,Nat.add_one_mul];omega
   ·rw [Nat.add_one_mul];omega
  ·refine Row.set i (by simpa using hi) h4 (fun y vs dm hG=>dJ y vs dm fun b o h=>bH b o (hG b o h)) ?_ ?_ (fun b o h k=>ha b o h (bH b o k))
   ·intro j hj HH
    have:=hc (size+j) (by rw [List.length_cons,Nat.add_one_mul];omega) (by
     rcases HH with h | h
     ·left;rw [Nat.add_one_mul];omega
     ·right;rw [Nat.add_one_mul];omega)
    rwa [← Nat.add_assoc] at this
   ·intro bI dm k1 k2 k3 ba
    have:=hn bI dm k1 k2 (by rwa [show o +(i+1)*size=o+size+i*size by rw [Nat.add_one_mul];omega]) (fun b o h=>bH b o (ba b o h))
    rwa [show o +(i+1)*size=o+size+i*size by rw [Nat.add_one_mul];omega] at this
  ·rintro b o h (hh | hh)
   ·exact a7 b o h hh
   ·exact ha b o hh (bh b o h)
  ·rintro b o (h | h)
   ·exact .inl (bH b o h)
   ·exact .inr h
section
variable{w0:World}{F0 Z0:ah}{n:cD}{s aq:an}{a b_:Act}{w w':World}{ι bf:Nat→bG}{Z Z':ah}
def mc(w:World)(s:an)(ι : Nat→bG)(dp:List (Nat×Nat))(cr:Option Place)(vs:List Value):Prop :=
 ∀k v,vs[k]?=some v→ru w s ι dp (cr.map fun p => { p with off:=p.off+k }) v
theorem mc.none{dp:List (Nat×Nat)}{vs:List Value} : mc w s ι dp none vs:=fun _ _ _=>.none
theorem mc.head{dp:List (Nat×Nat)}{cr:Option Place}{v:Value}{vs:List Value}(h:mc w s ι dp cr (v :: vs)):ru w s ι dp cr v:=by
 have:=h 0 v rfl
 cases cr with
 | none=>exact .none
 | some p=>simpa using this
theorem mc.left{dp:List (Nat×Nat)}{cr:Option Place}{us vs:List Value}(h:mc w s ι dp cr (us++vs)):mc w s ι dp cr us:=fun k v hv=>h k v (by
 rw [List.getElem?_append_left (List.getElem?_eq_some_iff.1 hv).1];exact hv)
theorem mc.right{dp:List (Nat×Nat)}{cr:Option Place}{us vs:List Value}(h:mc w s ι dp cr (us++vs)):mc w s ι dp (cr.map fun p => { p with off:=p.off+us.length }) vs:=fun k v hv=>by
 have:=h (us.length+k) v (by rw [List.getElem?_append_right (by omega)];simpa using hv)
 cases cr with
 | none=>exact .none
 | some p=>simpa [Nat.add_assoc] using this
mutual
theorem ad.qg:∀(t:ad) (dp:List (Nat×Nat)) (cr:Option Place) {x:t.D} {vs:List Value},(∀d,d∈dp→et s d) →
  (alive s dp=true→t.al w (Z.or (dg ι dp)) .R x vs ah.none)→(∃m Z' F',t.al w Z' m x vs F')→mc w s ι dp cr vs→bK w Z s ι (t.cells dp cr x) vs
 | .int k,dp,cr,x,vs,ag,h,⟨m,Z',F',h'⟩,me=>by simp only [ad.al] at h';subst h';exact⟨rfl,trivial⟩
 | .bool,dp,cr,x,vs,ag,h,⟨m,Z',F',h'⟩,me=>by simp only [ad.al] at h';subst h';exact⟨rfl,trivial⟩
 | .str,dp,cr,x,vs,ag,h,⟨m,Z',F',h'⟩,me=>by simp only [ad.al] at h';obtain ⟨q,rfl,hq⟩:=h';exact⟨⟨q,rfl,hq⟩,trivial⟩
 | .raw,dp,cr,x,vs,ag,h,⟨m,Z',F',h'⟩,me=>by simp only [ad.al] at h';obtain ⟨rfl,hq⟩:=h';exact⟨⟨rfl,hq⟩,trivial⟩
 | .sl t,dp,cr,x,vs,ag,h,⟨m,Z',F',h'⟩,me=>by
  have hv:∃A c,vs=[.slice A x.length c]:=by
   cases m <;>(simp only [ad.al] at h';obtain ⟨A,c,hv,_⟩:=h';exact⟨A,c,hv⟩)
  obtain ⟨A,c,rfl⟩:=hv
  exact⟨⟨ag,⟨A,_,c,rfl⟩,h,me.head⟩,trivial⟩
 | .st aj,dp,cr,x,vs,ag,h,⟨m,Z',F',h'⟩,me=>by
  simp only [ad.al] at h h'
  simp only [ad.cells]
  exact ay.qg aj dp cr ag h ⟨_,_,_,h'⟩ me
theorem ay.qg:∀(aj:ay) (dp:List (Nat×Nat)) (cr:Option Place) {x:aj.D} {vs:List Value},(∀d,d∈dp→et s d) →
  (alive s dp=true→aj.al w (Z.or (dg ι dp)) (a'.parts .R) x vs ah.none)→(∃m Z' F',aj.al w Z' m x vs F')→mc w s ι dp cr vs→bK w Z s ι (aj.cells dp cr x) vs
 | .nil,dp,cr,x,vs,ag,h,⟨m,Z',F',h'⟩,me=>by simp only [ay.al] at h';subst h';trivial
 | .cons t aj,dp,cr,x,vs,ag,h,⟨m,Z',F',h'⟩,me=>by
  simp only [ay.al] at h h'
  obtain ⟨us,bI,G,H,rfl,h2,h3,_⟩:=h'
  have hlen:=(ad.al.len t _ h2).1
  simp only [ay.cells]
  refine bK.append (ad.qg t dp cr ag (fun ha=>?_) ⟨_,_,_,h2⟩ me.left) (ay.qg aj dp _ ag (fun ha=>?_) ⟨_,_,_,h3⟩ (hlen ▸ me.right))
  ·obtain ⟨aU,X',dm,fV,e,k2,k3,ba,bt,dh⟩:=h ha
   have:=(ad.al.len t _ k2).1
   obtain ⟨rfl,rfl⟩:=List.append_inj e (by omega)
   exact ad.al.mono (fun _ _ h=>h) _ _ bt k2
  ·obtain ⟨aU,X',dm,fV,e,k2,k3,ba,bt,dh⟩:=h ha
   have:=(ad.al.len t _ k2).1
   obtain ⟨rfl,rfl⟩:=List.append_inj e (by omega)
   exact ay.al.mono (fun _ _ h=>h) _ _ dh k3
end
theorem pe{off k:Nat}{cs ds:List a8}(h:takeN off k cs=some ds):off+k≤cs.length∧ds=(cs.drop off).take k:=by
 unfold takeN at h
 cases hb:Nat.ble (off+k) cs.length
 ·rw [hb] at h;simp at h
 ·rw [hb] at h;exact⟨Nat.le_of_ble_eq_true hb,(aT h).symm⟩
theorem c6{t:ad}{xs:List t.D}{i:Nat}(hi:i<xs.length):J t xs i=xs[i]:=by simp [J,hi]
theorem OK(h:Inv w0 F0 Z0 n s a w ι Z){id:Nat}{t:ad}{em:a'}{ver:Nat}{xs:List t.D}(ho:s.o id=.row t em ver xs){i:Nat}(hi:i<xs.length) :
  ∃a0 vs,(ι id).base=some a0∧a0.spot=none∧bK w Z s ι (Hf t em id ver i (J t xs i)) vs∧b8 w a0.block (a0.off+i*t.size) vs∧vs.length=t.size:=by
 have c2:=h.fS id
 rw [ho] at c2
 rcases c2 with⟨rfl,_⟩ | ⟨a0,hb,hr⟩
 ·simp at hi
 ·obtain ⟨G,g1,g2,g3⟩:=hr.row
  obtain ⟨vs,dm,k1,k2,k3,ba⟩:=g1.get i hi
  refine⟨a0,vs,hb,hr.spot,?_,k3,k2⟩
  rw [c6 hi]
  have key:∀dp cr,(∀d,d∈dp→et s d)→(em=.R∨(id,ver)∈dp)→mc w s ι dp cr vs→bK w Z s ι (t.cells dp cr xs[i]) vs:=by
   intro dp cr ag tr me
   refine ad.qg t dp cr ag (fun ha=>?_) ⟨_,_,_,k1⟩ me
   rcases tr with rfl | hm
   ·exact ad.al.mono (fun _ _ h=>.inl h) _ _ (fun _ _ h=>h) (ad.al.read (Z:=Z) (Z':=Z) (F:=ah.none) (fun _ _ h=>h) t .R (fun _ _ h=>h.elim) (by
     have:=k1
     exact rr this))
   ·exact ad.al.read (fun _ _ h=>.inl h) t em (fun b o aB=>.inr ⟨_,hm,g3 b o (ba b o aB)⟩) k1
  unfold Hf
  split
  ·exact key [] _ (by simp) (.inl rfl) .none
  ·refine key _ _ ?_ (.inr (by simp)) ?_
   case refine_2 =>
    intro k v hv p au
    simp only [Option.map_some,Option.some.injEq] at au
    subst au
    refine⟨⟨(id,ver),by simp,rfl⟩,fun _=>?_⟩
    have hk:k<t.size:=by rw [← k2];exact(List.getElem?_eq_some_iff.1 hv).1
    have HI:(i+1)*t.size≤(ι id).cap*t.size:=Nat.mul_le_mul_right _ (by have:=hr.cap;omega)
    rw [Nat.add_one_mul] at HI
    refine⟨a0.block,a0.off+i*t.size+k,⟨rfl,?_⟩,k3 k v hv,?_⟩
    ·show match (s.o id).core with | .var _ _=>_ | .row t _ _ xs=>_ | _=>_
     rw [ho]
     exact⟨i,rfl,hi,a0,hb,by simp⟩
    ·have:=hr.inF (i*t.size+k) (by omega)
     rwa [← Nat.add_assoc] at this
   intro d ag
   simp at ag
   subst ag
   exact⟨by simp [known,ho],.inr (by simp [ks,ho])⟩
theorem yl(h:Inv w0 F0 Z0 n s a w ι Z){k:Nat}{p:Place}{cs:List a8}{A:Addr}(hr:l_ s k p=some cs)(au:jm s ι p A) :
  ∃b o vs,A=at_ b o∧bK w Z s ι cs vs∧b8 w b o vs∧vs.length=k:=by
 obtain ⟨hs,au⟩:=au
 unfold l_ at hr
 cases ho:s.o p.id with
 | var ver old =>
  rw [ho] at hr au
  obtain ⟨he,a0,hb,rfl⟩:=au
  rw [he] at hr
  obtain ⟨h1,rfl⟩:=pe hr
  have c2:=h.fS p.id
  rw [ho] at c2
  obtain ⟨vY,vs,dG,hsp,hc,b4,_⟩:=c2
  rw [hb] at dG
  obtain rfl:=aT dG
  refine⟨_,_,(vs.drop p.off).take k,rfl,(hc.drop _).take _,b4.part _ _,?_⟩
  have:=hc.len
  simp;omega
 | row t em ver xs =>
  rw [ho] at hr au
  obtain ⟨i,he,hi,a0,hb,rfl⟩:=au
  rw [he] at hr
  obtain ⟨h1,rfl⟩:=pe hr
  obtain ⟨vY,vs,dG,hsp,hc,b4,hl⟩:=OK h ho hi
  rw [hb] at dG
  obtain rfl:=aT dG
  refine⟨_,_,(vs.drop p.off).take k,rfl,(hc.drop _).take _,?_,?_⟩
  ·have:=b4.part p.off k
   exact this
  ·have:=hc.len
   simp;omega
 | none=>rw [ho] at hr;simp at hr
 | dead=>rw [ho] at hr;simp at hr
 | ch=>rw [ho] at hr;simp at hr
theorem Ya{id:Nat}(b2:s.o id=.none)(o:cm)(i:bG):eI w Z s ι w Z (s.bQ id o) (bU ι id i):=by
 refine⟨fun j=>?_,fun _ _ h=>h,b9.refl _ _⟩
 show iV (s.o j) (ι j) (bU s.o id o j) (bU ι id i j)
 by_cases hj:id=j
 ·subst hj;rw [b2];exact .made _ _ _
 ·rw [cS hj,cS hj];exact .stay _ _
theorem Inv.Bl(h:Inv w0 F0 Z0 n s a w ι Z){id:Nat}(b2:s.o id=.none){o:cm}{i:bG}
  (cN:h7 w Z (s.bQ id o) (bU ι id i) i o) (hF:bJ w0 F0 s w ι Z i.F):Inv w0 F0 Z0 n (s.bQ id o) a w (bU ι id i) Z:=by
 have hm:=Ya (w:=w) (Z:=Z) (ι := ι) b2 o i
 refine h.next hm (Ext.refl _ ah.none) (fun _ _ h=>h.elim) (fun _ _ h=>.inl h) ?_ ?_ (fun k=>(h.tmps k).move hm) h.size h.defers
 ·intro j hl hne
  by_cases hj:id=j
  ·subst hj
   rw [cw]
   refine⟨by show h7 _ _ _ _ _ (bU s.o id o id);rw [cw];exact cN,hF.own,fun kU gf jI=>?_⟩
   rw [cS jI]
   have dR:(s.o kU).live:=by
    have:(bU s.o id _ kU).live:=gf
    rwa [cS jI] at this
   exact hF.apart kU dR
  ·exact absurd ⟨cS hj,cS hj⟩ hne
 ·intro j hl
  by_cases hj:id=j
  ·subst hj;rw [cw];exact hF.c5
  ·rw [cS hj]
   have dR:(s.o j).live:=by
    have:(bU s.o id _ j).live:=hl
    rwa [cS hj] at this
   exact h.c5 j dR
structure lG(s:an)(ι : Nat→bG)(aq:an)(bf:Nat→bG):Prop where
 o:∀id,s.o id≠.none→aq.o id=s.o id ∧ bf id = ι id
 t:aq.t=s.t
 g:aq.g=s.g
 nl:∀id o',s.o id=.none→aq.o id≠.ch o'
theorem lG.refl:lG s ι s ι :=⟨fun _ _=>⟨rfl,rfl⟩,rfl,rfl,fun _ _ h=>by rw [h];simp⟩
theorem lG.trans{s2:an}{eA:Nat→bG}(h:lG s ι aq bf)(k:lG aq bf s2 eA):lG s ι s2 eA :=
 ⟨fun id hn=>by have h1:=h.o id hn;have h2:=k.o id (by rw [h1.1];exact hn);exact⟨h2.1.trans h1.1,h2.2.trans h1.2⟩,k.t.trans h.t,k.g.trans h.g,fun id o' hn=>by
  by_cases hm:aq.o id=.none
  ·exact k.nl id o' hm
  ·rw [(k.o id hm).1];exact h.nl id o' hn⟩
theorem lG.ej(h:lG s ι aq bf):eI w Z s ι w Z aq bf:=by
 refine⟨fun id=>?_,fun _ _ h=>h,b9.refl _ _⟩
 by_cases hn:s.o id=.none
 ·rw [hn];exact .made _ _ _
 ·rw [(h.o id hn).1,(h.o id hn).2];exact .stay _ _
theorem Yb{id:Nat}(b2:s.o id=.none)(o:cm)(i:bG)(hnl:∀o',o≠.ch o'):lG s ι (s.bQ id o) (bU ι id i):=by
 refine⟨fun j hn=>?_,rfl,rfl,fun j o' hn=>?_⟩
 ·have hj:id≠j:=fun e=>hn (e ▸ b2)
  exact⟨cS hj,cS hj⟩
 ·show bU s.o id o j≠_
  by_cases hj:id=j
  ·subst hj;rw [cw];exact hnl o'
  ·rw [cS hj,hn];simp
def HJ(w0:World)(F0 Z0:ah)(n:cD)(s:an)(a:Act)(w:World)(ι : Nat→bG)(Z:ah)(vs:List Value)(F:ah)(cs:List a8)(aq:an):Prop :=
 ∃ bf,Inv w0 F0 Z0 n aq a w bf Z∧lG s ι aq bf∧bK w Z aq bf cs vs∧∀G,bJ w0 F0 s w ι Z G→ah.apart G F→bJ w0 F0 aq w bf Z G
theorem ts(h:Inv w0 F0 Z0 n s a w ι Z){vs:List Value}{F:ah}{cs:List a8}(hc:bK w Z s ι cs vs):HJ w0 F0 Z0 n s a w ι Z vs F cs s :=
 ⟨ι,h,.refl,hc,fun _ hG _=>hG⟩
mutual
theorem ad.oj:∀(t:ad) (m:a') (dp:List (Nat×Nat)) (x:t.D) (s:an) (ι : Nat→bG) (j:Nat) (r:List a8×an×Nat) (vs:List Value) (F:ah),
  t.hH m dp x s j=some r→Inv w0 F0 Z0 n s a w ι Z→t.al w (Z.or (dg ι dp)) m x vs F→bJ w0 F0 s w ι Z F→ah.apart F (dg ι dp)→(∀d,d∈dp→et s d) →
  HJ w0 F0 Z0 n s a w ι Z vs F r.1 r.2.1
 | .int k,m,dp,x,s,ι,j,r,vs,F,he,h,hr,hf,nf,ag=>by
  simp only [ad.hH] at he;obtain rfl:=aT he
  simp only [ad.al] at hr;subst hr;exact ts h ⟨rfl,trivial⟩
 | .bool,m,dp,x,s,ι,j,r,vs,F,he,h,hr,hf,nf,ag=>by
  simp only [ad.hH] at he;obtain rfl:=aT he
  simp only [ad.al] at hr;subst hr;exact ts h ⟨rfl,trivial⟩
 | .str,m,dp,x,s,ι,j,r,vs,F,he,h,hr,hf,nf,ag=>by
  simp only [ad.hH] at he;obtain rfl:=aT he
  simp only [ad.al] at hr;obtain ⟨q,rfl,hq⟩:=hr;exact ts h ⟨⟨q,rfl,hq⟩,trivial⟩
 | .raw,m,dp,x,s,ι,j,r,vs,F,he,h,hr,hf,nf,ag=>by
  simp only [ad.hH] at he;obtain rfl:=aT he
  simp only [ad.al] at hr;obtain ⟨rfl,hq⟩:=hr;exact ts h ⟨⟨rfl,hq⟩,trivial⟩
 | .sl t,.R,dp,x,s,ι,j,r,vs,F,he,h,hr,hf,nf,ag=>by
  simp only [ad.hH] at he;obtain rfl:=aT he
  have iz:=hr
  simp only [ad.al] at hr;obtain ⟨A,c,rfl,_⟩:=hr
  exact ts h ⟨⟨ag,⟨A,_,c,rfl⟩,fun _=>rr iz,.none⟩,trivial⟩
 | .sl t,.S ms,dp,x,s,ι,j,r,vs,F,he,h,hr,hf,nf,ag=>by
  simp only [ad.hH] at he;obtain rfl:=aT he
  have iz:(ad.sl t).al w (Z.or (dg ι dp)) .R x vs F:=by simp only [ad.al] at hr ⊢;exact hr
  simp only [ad.al] at hr;obtain ⟨A,c,rfl,_⟩:=hr
  exact ts h ⟨⟨ag,⟨A,_,c,rfl⟩,fun _=>rr iz,.none⟩,trivial⟩
 | .sl t,.O e,dp,x,s,ι,j,r,vs,F,he,h,hr,hf,nf,ag=>by
  simp only [ad.hH] at he
  cases hq:(dp.isEmpty||a'.beq e t.own)
  ·rw [hq] at he;simp at he
  rw [hq] at he
  cases ho:s.o j with
  | none =>
   rw [ho] at he
   obtain rfl:=aT he
   have gD:(ad.sl t).al w Z (.O e) x vs F:=by
    cases ng:dp with
    | nil=>subst ng;exact ad.al.mono (fun b o hz=>hz.elim (fun h=>h) fun⟨d,ag,_⟩=>by simp at ag) _ _ (fun _ _ h=>h) hr
    | cons d ak8 =>
     subst ng
     have he:e=t.own:=a'.eq_of_beq _ _ (by simpa using hq)
     subst he
     exact tp (.sl t) hr
   simp only [ad.al] at gD
   obtain ⟨A,c,rfl,gD⟩:=gD
   let i:bG:=⟨A,c,F⟩
   have cN:h7 w Z (s.bQ j (.row t e 0 x)) (bU ι j i) i (.row t e 0 x):=by
    rcases gD with gD | ⟨a0,hA,gD⟩
    ·exact .inl gD
    ·exact .inr ⟨a0,hA,gD⟩
   refine⟨bU ι j i,h.Bl ho cN hf,Yb ho _ _ (fun o'=>by simp),⟨⟨?_,A,_,c,rfl,?_⟩,trivial⟩,?_⟩
   ·show bU s.o j _ j≠_
    rw [cw];simp
   ·intro di em ver xs hh
    have this:(bU s.o j (cm.row t e 0 x) j).core=.row di em ver xs:=hh
    rw [cw] at this
    have this:cm.row t e 0 x=.row di em ver xs:=this
    injection this with h1 h2 h3 h4
    subst h1
    obtain rfl:=eq_of_heq h4
    rw [cw]
    refine⟨rfl,by simp [ei],?_,by simp [ei,i],?_⟩
    ·rcases gD with⟨hx,hc⟩ | ⟨a0,hA,gD⟩
     ·subst hx;simp
     ·exact gD.cap
    ·rcases gD with⟨hx,hc⟩ | ⟨a0,hA,gD⟩
     ·exact .inl hc
     ·refine .inr ⟨a0,hA,?_⟩
      rw [hA]
      have:=gD.spot
      obtain ⟨qh,off,sp⟩:=a0
      subst this
      simp [ei,at_]
   ·intro G hG hGF
    refine⟨hG.own,fun id hl=>?_,hG.c5⟩
    by_cases hj:j=id
    ·subst hj;rw [cw];exact hGF
    ·rw [cS hj]
     exact hG.apart id (by have:(bU s.o j _ id).live:=hl;rwa [cS hj] at this)
  | _=>rw [ho] at he;simp at he
 | .st aj,m,dp,x,s,ι,j,r,vs,F,he,h,hr,hf,nf,ag=>by
  simp only [ad.hH] at he;simp only [ad.al] at hr
  exact ay.oj aj m.parts dp x s ι j r vs F he h hr hf nf ag
theorem ay.oj:∀(aj:ay) (m:cU) (dp:List (Nat×Nat)) (x:aj.D) (s:an) (ι : Nat→bG) (j:Nat) (r:List a8×an×Nat) (vs:List Value) (F:ah),
  aj.hH m dp x s j=some r→Inv w0 F0 Z0 n s a w ι Z→aj.al w (Z.or (dg ι dp)) m x vs F→bJ w0 F0 s w ι Z F→ah.apart F (dg ι dp)→(∀d,d∈dp→et s d) →
  HJ w0 F0 Z0 n s a w ι Z vs F r.1 r.2.1
 | .nil,m,dp,x,s,ι,j,r,vs,F,he,h,hr,hf,nf,ag=>by
  simp only [ay.hH] at he;obtain rfl:=aT he
  simp only [ay.al] at hr;subst hr;exact ts h trivial
 | .cons t aj,m,dp,x,s,ι,j,r,vs,F,he,h,hr,hf,nf,ag=>by
  simp only [ay.hH] at he
  obtain ⟨bD,h1,he⟩:=bg he
  obtain ⟨cg,h2,he⟩:=bg he
  obtain rfl:=aT he
  simp only [ay.al] at hr
  obtain ⟨us,bI,G,H,rfl,ek,fp,gg,jJ,nh⟩:=hr
  have Yc:bJ w0 F0 s w ι Z G:=⟨fun b o aB=>hf.own b o (jJ b o aB),fun id hl b o aB=>hf.apart id hl b o (jJ b o aB),fun b o aB=>hf.c5 b o (jJ b o aB)⟩
  have Yd:bJ w0 F0 s w ι Z H:=⟨fun b o aB=>hf.own b o (nh b o aB),fun id hl b o aB=>hf.apart id hl b o (nh b o aB),fun b o aB=>hf.c5 b o (nh b o aB)⟩
  obtain ⟨dz,i1,g1,c1,f1⟩:=ad.oj t m.ag dp x.1 s ι j bD us G h1 h ek Yc (fun b o aB=>nf b o (jJ b o aB)) ag
  have OL:∀d,d∈dp→s.o d.1≠.none:=fun d h8=>(ag d h8).1
  have OM:∀b o,dg ι dp b o↔dg dz dp b o:=by
   intro b o
   constructor
   ·rintro ⟨d,h8,hx⟩;exact⟨d,h8,by rw [(g1.o d.1 (OL d h8)).2];exact hx⟩
   ·rintro ⟨d,h8,hx⟩;exact⟨d,h8,by rw [(g1.o d.1 (OL d h8)).2] at hx;exact hx⟩
  have gh:∀d,d∈dp→et bD.2.1 d:=by
   intro d h8
   have:=ag d h8
   unfold et known ks at *
   rw [(g1.o d.1 this.1).1];exact this
  obtain ⟨eA,i2,g2,gC,f2⟩:=ay.oj aj m.dx dp x.2 bD.2.1 dz bD.2.2 cg bI H h2 i1 (ay.al.mono (fun b o hz=>hz.imp (fun h=>h) (fun h=>(OM b o).1 h)) _ _ (fun _ _ h=>h) fp)
   (f1 H Yd (fun b o k1 k2=>gg b o k2 k1)) (fun b o k1 k2=>nf b o (nh b o k1) ((OM b o).2 k2)) gh
  refine⟨eA,i2,g1.trans g2,(c1.move g2.ej).append gC,fun dm HK hGF=>?_⟩
  exact f2 dm (f1 dm HK fun b o k1 k2=>hGF b o k1 (jJ b o k2)) fun b o k1 k2=>hGF b o k1 (nh b o k2)
end
end
end Go.LM
namespace Go.LM
def db{α : Type}(l:List α)(k:Nat)(us:List α):List α := l.take k++us++l.drop (k+us.length)
theorem Bm{α : Type}(l:List α)(k:Nat):db l k []=l:=by simp [db]
theorem G8{α : Type}{l us:List α}{k:Nat}(h:k+us.length≤l.length):(db l k us).length=l.length:=by simp [db];omega
theorem Ye{α : Type}{A B us:List α}{k:Nat}(h:k+us.length≤A.length):db (A++B) k us=db A k us++B:=by
 unfold db
 rw [List.take_append_of_le_length (by omega),List.drop_append_of_le_length (by omega)]
 simp [List.append_assoc]
theorem ON{α : Type}{A B us:List α}{k:Nat}(h:A.length≤k):db (A++B) k us=A++db B (k-A.length) us:=by
 unfold db
 obtain ⟨j,rfl⟩:∃j,k=A.length+j:=⟨k-A.length,by omega⟩
 rw [List.take_append,List.take_of_length_le (by omega),Nat.add_sub_cancel_left,show A.length+j+us.length=A.length +(j+us.length) by omega,List.drop_append,List.drop_of_length_le (by omega),Nat.add_sub_cancel_left]
 simp [List.append_assoc]
theorem Yf{α : Type}{A B us vs:List α}{k:Nat}(h:k+us.length=A.length):db (A++B) k (us++vs)=db A k us++db B 0 vs:=by
 unfold db
 rw [List.take_append_of_le_length (by omega),List.length_append,show k +(us.length+vs.length)=A.length+vs.length by omega,List.drop_append,List.drop_of_length_le (by omega),Nat.add_sub_cancel_left,h,List.drop_length]
 simp [List.append_assoc]
theorem Yg{α : Type}{l us:List α}(h:us.length=l.length):db l 0 us=us:=by
 unfold db;rw [List.take_zero,Nat.zero_add,h,List.drop_length];simp
section
variable{w0:World}{F0 Z0:ah}{n:cD}{s aq:an}{a b_:Act}{w w':World}{ι bf:Nat→bG}{Z Z':ah}
def OO(w0:World)(F0 Z0:ah)(n:cD)(s:an)(a:Act)(w:World)(ι : Nat→bG)(Z:ah)(OP:List Value→ah→Prop)(R:ah→List Value→ah→Prop)(size skip:Nat)(vs:List Value)
  (cs':List a8) (aq:an):Prop :=
 ∃us rest F1 Z',vs=us++rest∧Inv w0 F0 Z0 n aq a w ι Z'∧fc s ι Z aq Z'∧bK w Z' aq ι cs' rest∧bJ w0 F0 aq w ι Z' F1 ∧
  (∀b o,F1 b o→∃id,(s.o id).live∧(ι id).F b o)∧skip+us.length≤size∧(cs'≠[]→skip+us.length=size) ∧
  ∀old G,OP old G→∀id,(aq.o id).live→ah.sub G (ι id).F→R Z' (db old skip us) (G.or F1)
mutual
theorem ad.v7:∀(t:ad) (m:a') (x:t.D) (skip:Nat) (cs:List a8) (s:an) (r:t.D×List a8×an) (vs:List Value) (Z:ah),
  t.put m x skip cs s=some r→skip≤t.size→Inv w0 F0 Z0 n s a w ι Z→bK w Z s ι cs vs →
  OO w0 F0 Z0 n s a w ι Z (fun us F=>t.al w Z m x us F) (fun Z us F=>t.al w Z m r.1 us F) t.size skip vs r.2.1 r.2.2
 | t,m,x,skip,[],s,r,vs,Z,au,pf,h,hc=>by
  have kx:some (x,([]:List a8),s)=some r:=by cases t <;> simpa only [ad.put] using au
  obtain rfl:=aT kx
  cases vs with
  | cons=>exact hc.elim
  | nil =>
   refine⟨[],[],ah.none,Z,rfl,h,.refl,trivial,.none,fun _ _ h=>h.elim,by simpa using pf,fun h=>absurd rfl h,fun _ _ hr _ _ _=>?_⟩
   rw [Bm]
   exact ad.al.mono (fun _ _ h=>h) _ _ (fun _ _ h=>.inl h) hr
 | t,m,x,skip,c :: cs,s,r,vs,Z,au,pf,h,hc=>by
  cases hb:(Nat.beq skip 0&&Nat.ble t.size (cs.length+1)) with
  | true =>
   have kx:(t.imp false m (c :: cs) s []).bind (fun r=>some (r.1,r.2.1,r.2.2.1))=some r:=by
    cases t <;>(simp only [ad.put] at au;rw [hb] at au;exact au)
   obtain ⟨q,hq,kx⟩:=bg kx
   obtain rfl:=aT kx
   have dG:skip=0∧t.size≤cs.length+1:=by
    simp only [Bool.and_eq_true] at hb
    exact⟨Nat.eq_of_beq_eq_true hb.1,Nat.le_of_ble_eq_true hb.2⟩
   obtain ⟨rfl,_⟩:=dG
   obtain ⟨us,rest,F,Z',e1,i1,s1,c1,f1,ek,_,jn,_,g1⟩:=ad.lF t false m (c :: cs) s [] q vs Z hq h hc (by simp)
   have qi:=(ad.al.len t m ek).1
   refine⟨us,rest,F,Z',e1,i1,s1,c1,f1,g1,by omega,fun _=>by omega,fun _ _ hr _ _ _=>?_⟩
   have hlen:=(ad.al.len t m hr).1
   rw [Yg (by omega)]
   refine ad.al.mono ?_ _ _ (fun _ _ h=>.inr h) ek
   rintro b o (hz | ⟨d,ag,_⟩)
   ·exact hz
   ·rw [jn rfl] at ag;simp at ag
  | false =>
   cases t with
   | st aj =>
    simp only [ad.put] at au
    rw [hb] at au
    have:=ay.v7 aj m.parts x skip (c :: cs) s r vs Z au (by simpa only [ad.size] using pf) h hc
    simpa only [ad.al,ad.size] using this
   | _=>simp only [ad.put] at au;rw [hb] at au;simp at au
theorem ay.v7:∀(aj:ay) (m:cU) (x:aj.D) (skip:Nat) (cs:List a8) (s:an) (r:aj.D×List a8×an) (vs:List Value) (Z:ah),
  aj.put m x skip cs s=some r→skip≤aj.size→Inv w0 F0 Z0 n s a w ι Z→bK w Z s ι cs vs →
  OO w0 F0 Z0 n s a w ι Z (fun us F=>aj.al w Z m x us F) (fun Z us F=>aj.al w Z m r.1 us F) aj.size skip vs r.2.1 r.2.2
 | .nil,m,x,skip,cs,s,r,vs,Z,au,pf,h,hc=>by
  simp only [ay.put] at au
  obtain rfl:=aT au
  simp only [ay.size] at pf ⊢
  refine⟨[],vs,ah.none,Z,rfl,h,.refl,hc,.none,fun _ _ h=>h.elim,by simpa using pf,fun _=>by simp;omega,fun _ _ hr _ _ _=>?_⟩
  rw [Bm]
  simp only [ay.al] at hr ⊢
  exact hr
 | .cons t aj,m,x,skip,cs,s,r,vs,Z,au,pf,h,hc=>by
  simp only [ay.put] at au
  cases hb:Nat.ble t.size skip with
  | true =>
   rw [hb] at au
   have qj:=Nat.le_of_ble_eq_true hb
   obtain ⟨q,hq,au⟩:=bg au
   obtain rfl:=aT au
   simp only [ay.size] at pf
   obtain ⟨us,rest,F1,Z',e1,i1,s1,c1,f1,g1,dS,eK,k1⟩:=ay.v7 aj m.dx x.2 (skip-t.size) cs s q vs Z hq (by omega) h hc
   refine⟨us,rest,F1,Z',e1,i1,s1,c1,f1,g1,by simp only [ay.size];omega,fun hne=>by have:=eK hne;simp only [ay.size];omega,fun old G hr id hl hG=>?_⟩
   simp only [ay.al] at hr
   obtain ⟨v8,Bn,G1,G2,rfl,ek,fp,gg,jJ,nh⟩:=hr
   have hl1:=(ad.al.len t _ ek).1
   rw [ON (by omega),hl1]
   simp only [ay.al]
   refine⟨v8,_,G1,G2.or F1,rfl,ad.al.mono s1.dF _ _ (fun _ _ h=>h) ek,k1 _ _ fp id hl (fun b o aB=>hG b o (nh b o aB)),?_,fun b o aB=>.inl (jJ b o aB),?_⟩
   ·rintro b o aB (hh | hh)
    ·exact gg b o aB hh
    ·exact f1.apart id hl b o hh (hG b o (jJ b o aB))
   ·rintro b o (aB | aB)
    ·exact .inl (nh b o aB)
    ·exact .inr aB
  | false =>
   rw [hb] at au
   have cz:skip<t.size:=by
    rcases Nat.lt_or_ge skip t.size with h | h
    ·exact h
    ·rw [Nat.ble_eq_true_of_le h] at hb;simp at hb
   obtain ⟨c8,om,au⟩:=bg au
   obtain ⟨eJ,h9,au⟩:=bg au
   obtain rfl:=aT au
   obtain ⟨us,rest,F1,cq,e1,i1,s1,c1,f1,g1,dS,eK,k1⟩:=ad.v7 t m.ag x.1 skip cs s c8 vs Z om (by omega) h hc
   obtain ⟨us2,OQ,dK,bL,e2,i2,s2,gC,f2,g2,oo,pg,k2⟩:=ay.v7 aj m.dx x.2 0 c8.2.1 c8.2.2 eJ rest cq h9 (by omega) i1 c1
   have fb:c8.2.1=[]→us2=[]∧OQ=[]:=by
    intro hcs
    rw [hcs] at c1
    cases rest with
    | nil=>have:=e2;simp at this;exact⟨this.1,this.2⟩
    | cons=>exact c1.elim
   refine⟨us++us2,OQ,F1.or dK,bL,by rw [e1,e2,List.append_assoc],i2,s1.trans s2,gC,(f1.shrink s2).or f2,?_,?_,?_,fun old G hr id hl hG=>?_⟩
   ·rintro b o (hf | hf)
    ·exact g1 b o hf
    ·obtain ⟨id,hl,hi⟩:=g2 b o hf;exact⟨id,(s1.live hl).1,hi⟩
   ·simp only [ay.size,List.length_append]
    by_cases hcs:c8.2.1=[]
    ·rw [(fb hcs).1];simp;omega
    ·have:=eK hcs;omega
   ·intro hne
    simp only [ay.size,List.length_append]
    have h4:=pg hne
    by_cases hcs:c8.2.1=[]
    ·have:eJ.2.1=[]:=by
      have h1:=gC.len
      rw [(fb hcs).2] at h1
      exact List.eq_nil_of_length_eq_zero (by simpa using h1.symm)
     exact absurd this hne
    ·have:=eK hcs;omega
   ·simp only [ay.al] at hr
    obtain ⟨v8,Bn,G1,G2,rfl,ek,fp,gg,jJ,nh⟩:=hr
    have hl1:=(ad.al.len t _ ek).1
    have gf:=(s2.live hl)
    have bD:=k1 _ _ ek id gf.1 (fun b o aB=>hG b o (jJ b o aB))
    have cg:=k2 _ _ (ay.al.mono s1.dF _ _ (fun _ _ h=>h) fp) id hl (fun b o aB=>hG b o (nh b o aB))
    have hsp:db (v8++Bn) skip (us++us2)=db v8 skip us++db Bn 0 us2:=by
     by_cases hcs:c8.2.1=[]
     ·rw [(fb hcs).1,List.append_nil,Bm,Ye (by omega)]
     ·exact Yf (by have:=eK hcs;omega)
    rw [hsp]
    simp only [ay.al]
    refine⟨_,_,G1.or F1,G2.or dK,rfl,ad.al.mono s2.dF _ _ (fun _ _ h=>h) bD,cg,?_,?_,?_⟩
    ·rintro b o (aB | aB) (hh | hh)
     ·exact gg b o aB hh
     ·exact f2.apart id hl b o hh (hG b o (jJ b o aB))
     ·exact f1.apart id gf.1 b o aB (hG b o (nh b o hh))
     ·obtain ⟨Yh,dR,eL⟩:=g2 b o hh
      exact f1.apart Yh dR b o aB eL
    ·rintro b o (aB | aB)
     ·exact .inl (jJ b o aB)
     ·exact .inr (.inl aB)
    ·rintro b o (aB | aB)
     ·exact .inl (nh b o aB)
     ·exact .inr (.inr aB)
end
theorem bK.db{cs ds:List a8}{us vs:List Value}(h:bK w Z s ι cs us)(k:bK w Z s ι ds vs)(p:Nat) :
  bK w Z s ι (cs.take p++ds++cs.drop (p+ds.length)) (db us p vs):=by
 unfold LM.db
 rw [k.len]
 exact((h.take p).append k).append (h.drop _)
theorem Yi{cs:List a8}{vs:List Value}(h:fc s ι Z aq Z')(hc:bK w Z s ι cs vs):bK w Z' aq ι cs vs:=hc.move h.ej
theorem Yj{b o:Nat}{vs:List Value}(hw:∀i,i<vs.length→fm w b (o+i)):b8 (setCells w b o vs) b o vs:=by
 intro i v hv
 have hi:i<vs.length:=by
  rcases Nat.lt_or_ge i vs.length with h | h
  ·exact h
  ·rw [List.getElem?_eq_none h] at hv;simp at hv
 rw [vU b vs w o (fun i hi=>(hw i hi).1),if_pos ⟨rfl,by omega,by omega⟩,Nat.add_sub_cancel_left]
 exact hv
theorem ri{b o k:Nat}{old vs:List Value}(hc:b8 w b o old)(hw:∀i,i<old.length→fm w b (o+i))(hk:k+vs.length≤old.length) :
  b8 (setCells w b (o+k) vs) b o (db old k vs):=by
 have HL:∀i,i<vs.length→fm w b (o+k+i):=fun i hi=>by have:=hw (k+i) (by omega);rwa [← Nat.add_assoc] at this
 intro i v hv
 have hx:=vU b vs w (o+k) (fun i hi=>(HL i hi).1) b (o+i)
 rw [hx]
 unfold db at hv
 by_cases h1:i<k
 ·rw [if_neg (by omega)]
  rw [List.append_assoc,List.getElem?_append_left (by simp;omega),List.getElem?_take,if_pos h1] at hv
  exact hc i v hv
 ·by_cases h2:i<k+vs.length
  ·rw [if_pos ⟨rfl,by omega,by omega⟩]
   rw [List.getElem?_append_left (by simp;omega),List.getElem?_append_right (by simp;omega)] at hv
   simp only [List.length_take] at hv
   rw [show o+i-(o+k)=i-min k old.length by omega]
   exact hv
  ·rw [if_neg (by omega)]
   rw [List.getElem?_append_right (by simp;omega)] at hv
   simp only [List.length_append,List.length_take,List.getElem?_drop] at hv
   rw [show k+vs.length +(i-(min k old.length+vs.length))=i by omega] at hv
   exact hc i v hv
theorem Yk(h:Inv w0 F0 Z0 n s a w ι Z){p:Place}{cs:List a8}{A:Addr}{vs:List Value}(hr:Be s p cs=some aq)(au:jm s ι p A)(hc:bK w Z s ι cs vs) :
  ∃b o,A=at_ b o∧(∀i,i<vs.length→fm w b (o+i))∧∃ bf Z',Inv w0 F0 Z0 n aq a (setCells w b o vs) bf Z':=by
 obtain ⟨hs,au⟩:=au
 unfold Be at hr
 cases ho:s.o p.id with
 | var ver old =>
  rw [ho] at hr au
  obtain ⟨he,a0,hb,rfl⟩:=au
  rw [he] at hr
  have cc:(s.o p.id).live:=by rw [ho];trivial
  simp only at hr
  cases qj:Nat.ble (p.off+cs.length) old.length
  ·rw [qj] at hr;simp at hr
  rw [qj] at hr
  obtain rfl:=aT hr
  have hle:=Nat.le_of_ble_eq_true qj
  have c2:=h.fS p.id
  rw [ho] at c2
  obtain ⟨vY,us,dG,hsp,hcu,b4,hwr⟩:=c2
  rw [hb] at dG
  obtain rfl:=aT dG
  have qi:=hcu.len
  have hvl:=hc.len
  have hw:∀i,i<vs.length→fm w a0.block (a0.off+p.off+i):=fun i hi=>by
   have:=(hwr (p.off+i) (by omega)).1;rwa [← Nat.add_assoc] at this
  refine⟨_,_,rfl,hw,ι,Z,?_⟩
  have hx:Ext w (setCells w a0.block (a0.off+p.off) vs) (ι p.id).F:=n9 _ _ _ _ fun i hi=>by
   have:=(hwr (p.off+i) (by omega)).2;rwa [← Nat.add_assoc] at this
  have hm:eI w Z s ι (setCells w a0.block (a0.off+p.off) vs) Z (s.bQ p.id (.var (ver+1) (old.take p.off++cs++old.drop (p.off+cs.length)))) ι := by
   refine⟨fun j=>?_,fun _ _ h=>h,b9.iW hx h.rB ?_⟩
   ·show iV (s.o j) (ι j) (bU s.o p.id _ j) (ι j)
    by_cases hj:p.id=j
    ·subst hj;rw [cw,ho];exact .var _ _ _ _ _ (by omega) (by simp;omega)
    ·rw [cS hj];exact .stay _ _
   ·rintro b o (hz | ⟨id,hl,hst,_,hf⟩) iA
    ·exact h.c5 p.id cc b o iA hz
    ·have hne:id≠p.id:=by
      rintro rfl
      have:bU s.o p.id _ p.id=s.o p.id:=hst
      rw [cw,ho] at this
      injection this with h1 h2
      omega
     exact h.apart id p.id hl cc hne b o hf iA
  refine h.next hm hx (fun b o hf=>(h.own p.id cc b o hf).1) (fun _ _ h=>.inl h) ?_ ?_ (fun k=>(h.tmps k).move hm) h.size h.defers
  ·intro j hl hne
   by_cases hj:p.id=j
   ·subst hj
    refine⟨?_,fun b o hf=>⟨(h.own _ cc b o hf).1,by have:=(h.own _ cc b o hf).2;exact Nat.lt_of_lt_of_le this hx.size⟩,fun d' gf jI=>?_⟩
    ·show h7 _ _ _ _ _ (bU s.o p.id _ p.id)
     rw [cw]
     refine⟨a0,db us p.off vs,hb,hsp,(hcu.db hc p.off).move hm,?_,fun j hj=>?_⟩
     ·exact ri b4 (fun i hi=>(hwr i (by omega)).1) (by omega)
     ·have:j<old.length:=by simp at hj;omega
      exact⟨hx.p9 (hwr j this).1,(hwr j this).2⟩
    ·have dR:(s.o d').live:=by
      have:(bU s.o p.id _ d').live:=gf
      rwa [cS jI] at this
     exact h.apart p.id d' cc dR jI
   ·exact absurd ⟨cS hj,rfl⟩ hne
  ·intro j hl
   by_cases hj:p.id=j
   ·subst hj;exact h.c5 _ cc
   ·have dR:(s.o j).live:=by
     have:(bU s.o p.id _ j).live:=hl
     rwa [cS hj] at this
    exact h.c5 j dR
 | row t em ver xs =>
  rw [ho] at hr au
  obtain ⟨i,he,hi,a0,hb,rfl⟩:=au
  rw [he] at hr
  have cc:(s.o p.id).live:=by rw [ho];trivial
  simp only at hr
  cases qj:Nat.ble (p.off+cs.length) t.size
  ·rw [qj] at hr;simp at hr
  rw [qj] at hr
  have qj:=Nat.le_of_ble_eq_true qj
  obtain ⟨q,hq,hr⟩:=bg hr
  cases om:q.2.1 with
  | cons=>rw [om] at hr;simp at hr
  | nil =>
   cases h9:q.2.2.o p.id with
   | none=>rw [om,h9] at hr;simp at hr
   | dead=>rw [om,h9] at hr;simp at hr
   | ch=>rw [om,h9] at hr;simp at hr
   | var=>rw [om,h9] at hr;simp at hr
   | row t2 Yl Ym Yn =>
    rw [om,h9] at hr
    obtain rfl:=aT hr
    have pf:p.off≤t.size:=by omega
    obtain ⟨us,rest,F1,cq,e1,i1,s1,c1,f1,g1,dS,eK,k1⟩:=ad.v7 t em (J t xs i) p.off cs s q vs Z hq pf h hc
    rw [om] at c1
    have fb:rest=[]:=by
     cases rest with
     | nil=>rfl
     | cons=>exact c1.elim
    subst fb
    rw [List.append_nil] at e1
    subst e1
    have hl1:(q.2.2.o p.id).live:=by rw [h9];trivial
    have hst:=(s1.live hl1).2
    rw [ho] at hst
    have c2:=h.fS p.id
    rw [ho] at c2
    rcases c2 with⟨rfl,_⟩ | ⟨vY,dG,hrow⟩
    ·simp at hi
    rw [hb] at dG
    obtain rfl:=aT dG
    have hin:(i+1)*t.size≤(ι p.id).cap*t.size:=Nat.mul_le_mul_right _ (by have:=hrow.cap;omega)
    have hin':i*t.size+t.size≤(ι p.id).cap*t.size:=by rw [← Nat.add_one_mul];exact hin
    have hw:∀k,k<vs.length→fm w a0.block (a0.off+i*t.size+p.off+k):=fun k hk=>by
     have:=(hrow.wr (i*t.size+p.off+k) (by omega)).1
     rwa [show a0.off +(i*t.size+p.off+k)=a0.off+i*t.size+p.off+k by omega] at this
    have Yo:∀k,k<vs.length→(ι p.id).F a0.block (a0.off+i*t.size+p.off+k):=fun k hk=>by
     have:=hrow.inF (i*t.size+p.off+k) (by omega)
     rwa [show a0.off +(i*t.size+p.off+k)=a0.off+i*t.size+p.off+k by omega] at this
    refine⟨_,_,rfl,hw,?_⟩
    let ea:bG:=⟨(ι p.id).base,(ι p.id).cap,(ι p.id).F.or F1⟩
    let o':cm:=.row t em (ver+1) (xs.set i q.1)
    have hx:Ext w (setCells w a0.block (a0.off+i*t.size+p.off) vs) (ι p.id).F:=n9 _ _ _ _ Yo
    have hm:eI w cq q.2.2 ι (setCells w a0.block (a0.off+i*t.size+p.off) vs) cq (q.2.2.bQ p.id o') (bU ι p.id ea):=by
     refine⟨fun j=>?_,fun _ _ h=>h,b9.iW hx i1.rB ?_⟩
     ·show iV (q.2.2.o j) (ι j) (bU q.2.2.o p.id o' j) (bU ι p.id ea j)
      by_cases hj:p.id=j
      ·subst hj;rw [cw,cw,hst];exact .row _ _ _ _ _ _ _ _ _ (by omega) (by simp) rfl rfl
      ·rw [cS hj,cS hj];exact .stay _ _
     ·rintro b o (hz | ⟨id,hl,qf,_,hf⟩) iA
      ·exact i1.c5 p.id hl1 b o iA hz
      ·have hne:id≠p.id:=by
        rintro rfl
        have:bU q.2.2.o p.id o' p.id=q.2.2.o p.id:=qf
        rw [cw,hst] at this
        injection this with h1 h2 h3
        omega
       exact i1.apart id p.id hl hl1 hne b o hf iA
    have rD:∀ {j},p.id≠j→((q.2.2.bQ p.id o').o j).live→(q.2.2.o j).live:=fun hj hl=>by
     have:(bU q.2.2.o p.id o' _).live:=hl
     rwa [cS hj] at this
    refine⟨_,_,i1.next hm hx (fun b o hf=>(i1.own p.id hl1 b o hf).1) (fun _ _ h=>.inl h) ?_ ?_ (fun k=>(i1.tmps k).move hm) i1.size i1.defers⟩
    ·intro j hl hne
     by_cases hj:p.id=j
     ·subst hj
      rw [cw]
      refine⟨?_,fun b o hf=>?_,fun d' gf jI=>?_⟩
      ·show h7 _ _ _ _ _ (bU q.2.2.o p.id o' p.id)
       rw [cw]
       refine .inr ⟨a0,hb,hrow.spot,by simpa [o'] using hrow.cap,fun j hj=>hx.kp (hrow.wr j hj),fun j hj=>.inl (hrow.inF j hj),?_⟩
       obtain ⟨G,bD,cg,gd⟩:=hrow.row
       have OR:b9 w (setCells w a0.block (a0.off+i*t.size+p.off) vs) G:=by
        intro b o aB
        refine⟨?_,fun _=>X6 _ _ _ _ _ _⟩
        rw [vU _ _ _ _ (fun i hi=>(hw i hi).1),if_neg]
        rintro ⟨rfl,h1,h2⟩
        have:=cg (o-a0.off) (by omega)
        rw [show a0.off +(o-a0.off)=o by omega] at this
        exact this aB
       have OS:b9 w (setCells w a0.block (a0.off+i*t.size+p.off) vs) cq:=hm.same.mono fun b o hz=>.inl hz
       have Yp:b9 w (setCells w a0.block (a0.off+i*t.size+p.off) vs) F1:=by
        refine b9.iW hx (fun b o hf=>(f1.own b o hf).2) fun b o hf iA=>f1.apart p.id hl1 b o hf iA
       refine⟨G.or F1,?_,?_,?_⟩
       ·refine Row.set (w:=w) (R:=t.al w Z em) i hi bD (fun y us dm hG aN=>ad.al.same OS _ _ (OR.mono hG) (ad.al.mono s1.dF _ _ (fun _ _ h=>h) aN)) ?_ ?_ (fun b o hf aB=>f1.apart p.id hl1 b o hf (gd b o aB))
        ·intro j hj HH
         rw [vU _ _ _ _ (fun i hi=>(hw i hi).1),if_neg]
         rintro ⟨_,h1,h2⟩
         rw [Nat.add_one_mul] at HH
         omega
        ·intro us dm k2 k3 ba bt
         refine⟨db us p.off vs,by rw [G8 (by omega)];exact k3,?_,?_⟩
         ·refine ri ba (fun k hk=>?_) (by omega)
          have:=(hrow.wr (i*t.size+k) (by omega)).1
          rwa [← Nat.add_assoc] at this
         ·have:=k1 us dm (by rw [c6 hi];exact k2) p.id hl1 (fun b o aB=>gd b o (bt b o aB))
          refine ad.al.same OS _ _ ?_ this
          intro b o aB
          rcases aB with aB | aB
          ·exact OR b o (bt b o aB)
          ·exact Yp b o aB
       ·rintro j hj (aB | aB)
        ·exact cg j hj aB
        ·exact f1.apart p.id hl1 _ _ aB (hrow.inF j hj)
       ·rintro b o (aB | aB)
        ·exact .inl (gd b o aB)
        ·exact .inr aB
      ·rcases hf with hf | hf
       ·exact⟨(i1.own _ hl1 b o hf).1,Nat.lt_of_lt_of_le (i1.own _ hl1 b o hf).2 hx.size⟩
       ·exact⟨(f1.own b o hf).1,Nat.lt_of_lt_of_le (f1.own b o hf).2 hx.size⟩
      ·rw [cS jI]
       have dR:=rD jI gf
       rintro b o (hf | hf) iA
       ·exact i1.apart p.id d' hl1 dR jI b o hf iA
       ·exact f1.apart d' dR b o hf iA
     ·exact absurd ⟨cS hj,cS hj⟩ hne
    ·intro j hl
     by_cases hj:p.id=j
     ·subst hj
      rw [cw]
      rintro b o (hf | hf) hz
      ·exact i1.c5 _ hl1 b o hf hz
      ·exact f1.c5 b o hf hz
     ·rw [cS hj];exact i1.c5 j (rD hj hl)
 | none=>rw [ho] at hr;simp at hr
 | dead=>rw [ho] at hr;simp at hr
 | ch=>rw [ho] at hr;simp at hr
end
end Go.LM
namespace Go.LM
mutual
def ad.cO:ad→List Value
 | .int k=>[.int k 0]
 | .bool=>[.bool false]
 | .str=>[.string ⟨#[]⟩]
 | .raw=>[.slice none 0 0]
 | .sl _=>[.slice none 0 0]
 | .st aj=>aj.cO
def ay.cO:ay→List Value
 | .nil=>[]
 | .cons t aj=>t.cO++aj.cO
end
def dH(t:ad)(vs:List Value):Value :=
 match t with
 | .st _=>.agg vs.toArray
 | _=>vs.headD undef
def lH(P:Program)(id:TypeId)(t:ad):Prop :=
 ∃i,P.info? id=some i∧i.size=t.size∧i.zero=some (dH t t.cO)∧i.bytes≤2048
mutual
def ad.ok(P:Program):ad→TypeId→Prop
 | .int k,id=>P.underlying id=some (.int k)∧lH P id (.int k)
 | .bool,id=>P.underlying id=some .bool∧lH P id .bool
 | .str,id=>P.underlying id=some .string∧lH P id .str
 | .raw,id=>lH P id .raw∧∃e,P.underlying id=some (.slice e)
 | .sl t,id=>lH P id (.sl t)∧∃e,P.underlying id=some (.slice e)∧t.ok P e
 | .st aj,id=>lH P id (.st aj)∧∃cn,P.underlying id=some (.struct cn)∧aj.okF P cn.toList 0
def ay.okF(P:Program):ay→List Field→Nat→Prop
 | .nil,cn,_=>cn=[]
 | .cons t aj,cn,off=>∃f lI,cn=f :: lI∧f.offset=off∧t.ok P f.type∧aj.okF P lI (off+t.size)
end
def ad.agg:ad→Bool
 | .st _=>true
 | _=>false
theorem ad.ok.info{P:Program}{t:ad}{id:TypeId}(h:t.ok P id):lH P id t:=by
 cases t <;> simp only [ad.ok] at h <;> first | exact h.2 | exact h.1
theorem ad.lJ:∀t:ad,t.cO.length=t.size
 | .int _=>rfl
 | .bool=>rfl
 | .str=>rfl
 | .raw=>rfl
 | .sl _=>rfl
 | .st aj=>by
  simp only [ad.cO,ad.size]
  exact go aj
where
 go:∀aj:ay,aj.cO.length=aj.size
 | .nil=>rfl
 | .cons t aj=>by simp only [ay.cO,ay.size,List.length_append,ad.lJ t,go aj]
section
variable{P:Program}{t:ad}{id:TypeId}{w:World}
theorem run_underlying{d:TypeDesc}(h:P.underlying id=some d):(underlying id).run P w=.ok d w:=by
 simp [underlying,run_bind,program,Sem.run,h,run_pure]
theorem run_typeInfo{i:TypeInfo}(h:P.info? id=some i):(typeInfo id).run P w=.ok i w:=by
 simp [typeInfo,run_bind,program,Sem.run,h,run_pure]
theorem run_sizeOf(h:t.ok P id):(sizeOf id).run P w=.ok t.size w:=by
 obtain ⟨i,h1,h2,_⟩:=h.info
 simp [sizeOf,run_bind,run_typeInfo h1,run_pure,h2]
theorem Bo(h:t.ok P id):(zeroValue id).run P w=.ok (dH t t.cO) w:=by
 obtain ⟨i,h1,_,h3,_⟩:=h.info
 simp [zeroValue,run_bind,run_typeInfo h1,run_pure,h3]
theorem OT(h:t.ok P id):(isAgg id).run P w=.ok t.agg w:=by
 unfold isAgg
 cases t with
 | st aj=>obtain ⟨_,cn,h1,_⟩:=(by simpa only [ad.ok] using h:lH P id (.st aj)∧∃cn,P.underlying id=some (.struct cn)∧aj.okF P cn.toList 0);rw [run_bind,run_underlying h1];rfl
 | sl t=>obtain ⟨_,e,h1,_⟩:=(by simpa only [ad.ok] using h:lH P id (.sl t)∧∃e,P.underlying id=some (.slice e)∧t.ok P e);rw [run_bind,run_underlying h1];rfl
 | raw=>obtain ⟨_,e,h1⟩:=(by simpa only [ad.ok] using h:lH P id .raw∧∃e,P.underlying id=some (.slice e));rw [run_bind,run_underlying h1];rfl
 | int k=>have h1:=(by simpa only [ad.ok] using h:P.underlying id=some (.int k)∧lH P id (.int k));rw [run_bind,run_underlying h1.1];rfl
 | bool=>have h1:=(by simpa only [ad.ok] using h:P.underlying id=some .bool∧lH P id .bool);rw [run_bind,run_underlying h1.1];rfl
 | str=>have h1:=(by simpa only [ad.ok] using h:P.underlying id=some .string∧lH P id .str);rw [run_bind,run_underlying h1.1];rfl
theorem HM(h:t.agg=false):t.size=1:=by cases t <;> simp_all [ad.agg,ad.size]
theorem HN(h:t.agg=true)(vs:List Value):dH t vs=.agg vs.toArray:=by cases t <;> simp_all [ad.agg,dH]
theorem HO(h:t.agg=false)(v:Value):dH t [v]=v:=by cases t <;> simp_all [ad.agg,dH]
theorem HP(h:t.ok P id){b o:Nat}{vs:List Value}(hc:b8 w b o vs)(hl:vs.length=t.size):(loadVar id (at_ b o)).run P w=.ok (dH t vs) w:=by
 unfold loadVar
 rw [run_bind,OT h]
 simp only
 cases ha:t.agg
 ·rw [HM ha] at hl
  match vs,hl with
  | [v],_ =>
   rw [HO ha]
   simp only [Bool.false_eq_true,if_false]
   exact run_load hc.head
 ·simp only [if_true]
  rw [run_bind,run_sizeOf h,← hl]
  simp only
  rw [run_bind,run_loadCells hc,HN ha]
  rfl
theorem HQ{v:Value}(h:ee v=true):v.cells = #[v]:=by cases v <;> simp_all [ee,Value.cells]
theorem HR(h:t.ok P id){b o:Nat}{v:Value}(hl:v.cells.size=t.size)(h1:∀u∈v.cells.toList,ee u=true)(hw:∀i,i<v.cells.size→fm w b (o+i)) :
  (storeVar id (at_ b o) v).run P w=.ok () (setCells w b o v.cells.toList):=by
 unfold storeVar
 rw [run_bind,run_sizeOf h]
 simp only
 rw [if_neg (by simp [hl])]
 have:=A7 (P:=P) (b:=b) (o:=o) v.cells.toList w 0 h1 (fun i hi=>by simpa using hw i (by simpa using hi))
 simpa using this
theorem OU{e:TypeId}{v:Value} :(newVar e v).run P w=.ok (at_ w.heap.size 0) { w with heap:=w.heap.push (.cells v.cells e) } := by
 simp [newVar,newRow,Go.newObj,run_bind,Sem.run,run_pure,at_]
end
section
variable{w0:World}{F0 Z0:ah}{n:cD}{s aq:an}{a b_:Act}{w w':World}{ι bf:Nat→bG}{Z Z':ah}
theorem rE{t:ad}{x:a6}{cs:List a8}{v:Value}(h:iQ t x=some cs)(hv:aQ w Z s ι x v):bK w Z s ι cs v.cells.toList:=by
 cases x <;> simp only [iQ] at h <;> try (simp at h;done)
 ·obtain rfl:=aT h
  simp only [aQ] at hv
  rw [HQ hv.ee]
  exact⟨hv,trivial⟩
 ·obtain rfl:=aT h
  simp only [aQ] at hv
  obtain ⟨vs,rfl,hc⟩:=hv
  simpa [Value.cells] using hc
 ·cases t <;> simp at h
  subst h
  simp only [aQ] at hv
  subst hv
  exact⟨rfl,trivial⟩
theorem ph{t:ad}{x:a6}{cs:List a8}{vs:List Value}(h:jZ t cs=some x)(hc:bK w Z s ι cs vs):aQ w Z s ι x (dH t vs):=by
 cases t with
 | st aj=>simp only [jZ] at h;obtain rfl:=aT h;simp only [aQ,dH];exact⟨vs,rfl,hc⟩
 | _ =>
  simp only [jZ] at h
  match cs,vs,hc with
  | [],[],_=>simp at h
  | [c],[v],hc=>simp at h;subst h;simp only [aQ,dH];exact hc.1
  | _ :: _ :: _,_,_=>simp at h
theorem rF:∀t:ad,bK w Z s ι t.jl t.cO
 | .int _=>⟨rfl,trivial⟩
 | .bool=>⟨rfl,trivial⟩
 | .str=>⟨⟨_,rfl,rfl⟩,trivial⟩
 | .raw=>⟨⟨rfl,_,_,_,rfl⟩,trivial⟩
 | .sl _=>⟨rfl,trivial⟩
 | .st aj=>by simp only [ad.jl,ad.cO];exact go aj
where
 go:∀aj:ay,bK w Z s ι aj.jl aj.cO
 | .nil=>trivial
 | .cons t aj=>by simp only [ay.jl,ay.cO];exact(rF t).append (go aj)
theorem HS{t:ad}{vs:List Value}(hl:vs.length=t.size)(h1:∀v∈vs,ee v=true):(dH t vs).cells.toList=vs:=by
 cases ha:t.agg
 ·rw [HM ha] at hl
  match vs,hl with
  | [v],_=>rw [HO ha,HQ (h1 v (by simp))]
 ·rw [HN ha];simp [Value.cells]
theorem Inv.newVar(h:Inv w0 F0 Z0 n s a w ι Z){id:Nat}(b2:s.o id=.none){cs:List a8}{vs:Array Value}(hc:bK w Z s ι cs vs.toList)(e:TypeId) :
  Inv w0 F0 Z0 n (s.bQ id (.var 0 cs)) a { w with heap:=w.heap.push (.cells vs e) } (bU ι id ⟨some (at_ w.heap.size 0),0,ah.run w.heap.size 0 cs.length⟩) Z:=by
 have hx:=Ext.push w (.cells vs e) ah.none
 have hm:=OH h b2 hx (.var 0 cs) ⟨some (at_ w.heap.size 0),0,ah.run w.heap.size 0 cs.length⟩
 have hl:=hc.len
 refine h.new b2 hx ?_ ?_
 ·refine⟨at_ w.heap.size 0,vs.toList,rfl,rfl,hc.move hm,?_,fun j hj=>⟨⟨?_,?_⟩,rfl,by simp [at_],by simpa [at_] using hj⟩⟩
  ·intro i v hv
   show World.cell? _ (at_ w.heap.size (0+i))=_
   rw [OC];simpa using hv
  ·refine⟨vs[j]'(by simp at hl;omega),?_⟩
   show World.cell? _ (at_ w.heap.size (0+j))=_
   rw [OC];simp
  ·show World.frozen? _ (at_ w.heap.size (0+j))=_
   rw [p_,OB];simp
 ·rintro b o ⟨rfl,_,_⟩;simp
end
end Go.LM
