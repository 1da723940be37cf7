/- The data and the interpreter of the reflective walk, and how its states stand for frames and worlds. Conditions: each theorem's own hypotheses. -/
import Derived.Calls
import Derived.KernelRfl
import Derived.Orders
set_option linter.unusedVariables false
set_option linter.unusedSimpArgs false
namespace Go.LM
theorem al.{u,v}{α:Type u}{β:Type v}(a:α)(f:α→Option β):(some a).bind f=f a:=rfl
theorem aX.{u}{α:Type u}{a b:α}(h:some a=some b):a=b:=_root_.Option.some.inj h
theorem bb.{u,v}{α:Type u}{β:Type v}{o:Option α}{f:α→Option β}{b:β}(h:o.bind f=some b):∃a,o=some a∧f a=some b:=_root_.Option.bind_eq_some_iff.1 h
mutual
inductive ad where
 |int (k:IntKind)
 |bool
 |str
 |sl (t:ad)
 |st (ak:aA)
 |raw
inductive aA where
 |nil
 |cons (t:ad) (ak:aA)
end
mutual
@[reducible] def ad.D:ad→Type
 |.int _=>Int
 |.bool=>Bool
 |.str=>List UInt8
 |.sl t=>List t.D
 |.st ak=>ak.D
 |.raw=>Value
@[reducible] def aA.D:aA→Type
 |.nil=>Unit
 |.cons t ak=>t.D×ak.D
end
def dD:IntKind→Nat
 |.i8=>0|.i16=>1|.i32=>2|.i64=>3|.u8=>4|.u16=>5|.u32=>6|.u64=>7
theorem vk:∀{a b:IntKind},dD a=dD b→a=b:=by intro a b;cases a<;>cases b<;>simp[dD]
mutual
def ad.beq:ad→ad→Bool
 |.int a,.int b=>Nat.beq (dD a) (dD b)
 |.bool,.bool=>true
 |.str,.str=>true
 |.sl a,.sl b=>ad.beq a b
 |.st a,.st b=>aA.beq a b
 |.raw,.raw=>true
 |_,_=>false
def aA.beq:aA→aA→Bool
 |.nil,.nil=>true
 |.cons a as,.cons b bu=>cond (ad.beq a b) (aA.beq as bu) false
 |_,_=>false
end
mutual
theorem ad.eq_of_beq:∀(a b:ad),ad.beq a b=true→a=b
 |.int a,.int b,h=>by simp only[ad.beq]at h;rw[vk (Nat.eq_of_beq_eq_true h)]
 |.bool,.bool,_=>rfl
 |.str,.str,_=>rfl
 |.sl a,.sl b,h=>by simp only[ad.beq]at h;rw[ad.eq_of_beq a b h]
 |.st a,.st b,h=>by simp only[ad.beq]at h;rw[aA.eq_of_beq a b h]
 |.raw,.raw,_=>rfl
 |.int _,.bool,h|.int _,.str,h|.int _,.sl _,h|.int _,.st _,h|.int _,.raw,h=>by simp[ad.beq]at h
 |.bool,.int _,h|.bool,.str,h|.bool,.sl _,h|.bool,.st _,h|.bool,.raw,h=>by simp[ad.beq]at h
 |.str,.int _,h|.str,.bool,h|.str,.sl _,h|.str,.st _,h|.str,.raw,h=>by simp[ad.beq]at h
 |.sl _,.int _,h|.sl _,.bool,h|.sl _,.str,h|.sl _,.st _,h|.sl _,.raw,h=>by simp[ad.beq]at h
 |.st _,.int _,h|.st _,.bool,h|.st _,.str,h|.st _,.sl _,h|.st _,.raw,h=>by simp[ad.beq]at h
 |.raw,.int _,h|.raw,.bool,h|.raw,.str,h|.raw,.sl _,h|.raw,.st _,h=>by simp[ad.beq]at h
theorem aA.eq_of_beq:∀(a b:aA),aA.beq a b=true→a=b
 |.nil,.nil,_=>rfl
 |.cons a as,.cons b bu,h=>by
  simp only[aA.beq]at h;cases hb:ad.beq a b
  ·rw[hb]at h;simp at h
  ·rw[hb]at h;rw[ad.eq_of_beq a b hb,aA.eq_of_beq as bu h]
 |.nil,.cons _ _,h|.cons _ _,.nil,h=>by simp[aA.beq]at h
end
def eY(a b:ad)(x:a.D):Option b.D:=
 if h:ad.beq a b=true then some ((ad.eq_of_beq a b h)▸x) else none
theorem D8{a b:ad}{x:a.D}{y:b.D}(h:eY a b x=some y):∃e:a=b,y=e▸x:=by
 unfold eY at h;split at h
 ·rename_i hb;exact⟨ad.eq_of_beq a b hb,by injection h with h;exact h.symm⟩
 ·simp at h
mutual
def ad.size:ad→Nat
 |.st ak=>ak.size
 |_=>1
def aA.size:aA→Nat
 |.nil=>0
 |.cons t ak=>t.size+ak.size
end
mutual
def ad.zero:(t:ad)→t.D
 |.int _=>(0:Int)
 |.bool=>false
 |.str=>([]:List UInt8)
 |.sl t=>([]:List t.D)
 |.st ak=>ak.zero
 |.raw=>(.slice none 0 0:Value)
def aA.zero:(ak:aA)→ak.D
 |.nil=>()
 |.cons t ak=>(t.zero,ak.zero)
end
mutual
inductive bg where
 |R
 |O (e:bg)
 |S (ms:c5)
inductive c5 where
 |nil
 |cons (m:bg) (ms:c5)
end
mutual
def bg.beq:bg→bg→Bool
 |.R,.R=>true
 |.O a,.O b=>bg.beq a b
 |.S a,.S b=>c5.beq a b
 |_,_=>false
def c5.beq:c5→c5→Bool
 |.nil,.nil=>true
 |.cons a as,.cons b bu=>cond (bg.beq a b) (c5.beq as bu) false
 |_,_=>false
end
mutual
theorem bg.eq_of_beq:∀(a b:bg),bg.beq a b=true→a=b
 |.R,.R,_=>rfl
 |.O a,.O b,h=>by simp only[bg.beq]at h;rw[bg.eq_of_beq a b h]
 |.S a,.S b,h=>by simp only[bg.beq]at h;rw[c5.eq_of_beq a b h]
 |.R,.O _,h|.R,.S _,h|.O _,.R,h|.O _,.S _,h|.S _,.R,h|.S _,.O _,h=>by simp[bg.beq]at h
theorem c5.eq_of_beq:∀(a b:c5),c5.beq a b=true→a=b
 |.nil,.nil,_=>rfl
 |.cons a as,.cons b bu,h=>by
  simp only[c5.beq]at h;cases hb:bg.beq a b
  ·rw[hb]at h;simp at h
  ·rw[hb]at h;rw[bg.eq_of_beq a b hb,c5.eq_of_beq as bu h]
 |.nil,.cons _ _,h|.cons _ _,.nil,h=>by simp[c5.beq]at h
end
def bg.elem:bg→bg
 |.O e=>e
 |_=>.R
def c5.af:c5→bg
 |.cons m _=>m
 |.nil=>.R
def c5.dK:c5→c5
 |.cons _ ms=>ms
 |.nil=>.nil
def bg.parts:bg→c5
 |.S ms=>ms
 |_=>.nil
structure Place where
 id:Nat
 fO:Option Nat
 off:Nat
inductive ba where
 |int (k:IntKind) (x:Int)
 |bool (b:Bool)
 |str (s:List UInt8)
 |raw (v:Value)
 |nil (t:ad)
 |bG (t:ad) (auz:List (Nat×Nat)) (auA:Option Place) (xs:List t.D)
 |af (id:Nat) (sub:Option (Nat×Nat))
inductive a_ where
 |bB
 |gone
 |aU (c:ba)
 |iV (cs:List ba)
 |ptr (p:Place)
 |dA (dp:List (Nat×Nat)) (cs:List ba) (off:Nat)
 |kD
 |lG
 |opt (id:Nat) (o:Int)
 |td (t:ad)
 |may (b:Bool) (dp:List (Nat×Nat)) (cs:List ba)
 |fn (f:FuncId) (first ma:List a_)
 |p6 (l:List a_)
inductive cD where
 |none
 |dead
 |var (ver:Nat) (cs:List ba)
 |row (t:ad) (em:bg) (ver:Nat) (xs:List t.D)
 |cr (o:cD)
def cD.core:cD→cD
 |.cr o=>o
 |o=>o
structure az where
 t:Nat→a_
 o:Nat→cD
 g:List a_
def bW{α:Type}(f:Nat→α)(i:Nat)(v:α):Nat→α :=fun j=>cond (Nat.beq j i) v (f j)
theorem cM{α:Type}(f:Nat→α)(i:Nat)(v:α):bW f i v i=v:=by simp[bW]
theorem te{α:Type}{f:Nat→α}{i j:Nat}{v:α}(h:j≠i):bW f i v j=f j:=by
 unfold bW
 have:Nat.beq j i=false:=by
  cases hb:Nat.beq j i
  ·rfl
  ·exact absurd (Nat.eq_of_beq_eq_true hb) h
 rw[this];rfl
def az.set(s:az)(d:Nat)(v:a_):az:=⟨bW s.t d v,s.o,s.g⟩
def az.bV(s:az)(i:Nat)(v:cD):az:=⟨s.t,bW s.o i v,s.g⟩
def az.dst(s:az)(d:Option Nat)(v:a_):az:=
 match d with
 |some d=>s.set d v
 |none=>s
mutual
def ad.cells:(t:ad)→List (Nat×Nat)→Option Place→t.D→List ba
 |.int k,_,_,x=>[.int k x]
 |.bool,_,_,x=>[.bool x]
 |.str,_,_,x=>[.str x]
 |.sl t,dp,cJ,x=>[.bG t dp cJ x]
 |.st ak,dp,cJ,x=>ak.cells dp cJ x
 |.raw,_,_,x=>[.raw x]
def aA.cells:(ak:aA)→List (Nat×Nat)→Option Place→ak.D→List ba
 |.nil,_,_,_=>[]
 |.cons t ak,dp,cJ,x=>t.cells dp cJ x.1++ak.cells dp (cJ.map fun p=> { p with off:=p.off+t.size }) x.2
end
mutual
def ad.j1:ad→List ba
 |.int k=>[.int k 0]
 |.bool=>[.bool false]
 |.str=>[.str []]
 |.sl t=>[.nil t]
 |.st ak=>ak.j1
 |.raw=>[.raw (.slice none 0 0)]
def aA.j1:aA→List ba
 |.nil=>[]
 |.cons t ak=>t.j1++ak.j1
end
mutual
def ad.own:ad→bg
 |.sl t=>.O t.own
 |.st ak=>if ak.flat then .R else .S ak.own
 |_=>.R
def aA.own:aA→c5
 |.nil=>.nil
 |.cons t ak=>.cons t.own ak.own
def ad.flat:ad→Bool
 |.sl _=>false
 |.st ak=>ak.flat
 |_=>true
def aA.flat:aA→Bool
 |.nil=>true
 |.cons t ak=>cond t.flat ak.flat false
end
def bg.le(a b:bg):Bool:=
 match b with
 |.R=>true
 |_=>bg.beq a b
end Go.LM
namespace Go.LM
def room(n:Nat):Bool:=Nat.ble n 68719476736
def kj{bC:Type}(b:Bool)(x:Option bC):Option bC:=cond b x none
def ix(n:Nat)(i:Int):Option Nat:=if 0≤i∧i<(n:Int) then some i.toNat else none
def dj(n:Nat)(lo hi:Int):Option (Nat×Nat):=if 0≤lo∧lo≤hi∧hi≤(n:Int) then some (lo.toNat,hi.toNat) else none
def I(t:ad)(xs:List t.D)(n:Nat):t.D:=xs.getD n t.zero
def part{α:Type}(l:List α)(lo len:Nat):List α :=(l.drop lo).take len
def aw(x:Int):Int:=IntKind.wrap .i64 x
def cZ(op:BinOp)(k:IntKind)(x y:Int):Int:=
 let a:=BitVec.ofInt k.bits x
 let b:=BitVec.ofInt k.bits y
 match op with
 |.and=>k.wrap (a &&& b).toNat
 |.or=>k.wrap (a ||| b).toNat
 |.xor=>k.wrap (a ^^^ b).toNat
 |_=>k.wrap (a &&& ~~~b).toNat
def bx(x y:List UInt8):Bool:=decide (x=y)
def eo(x y:List UInt8):Bool:=Op.bytesLess x y
def afv(x y:Int):Int:=if y>x then y else x
def kk(x y:Int):Int:=if y<x then y else x
def eT(s:List UInt8):List Int:=s.map fun b=>(b.toNat:Int)
def eZ(l:List Int):List UInt8:=l.map fun n=>UInt8.ofNat n.toNat
inductive bE where
 |val (t:ad) (m:bg)
 |ref (t:ad)
 |mut (t:ad) (m m':bg)
 |hI (t:ad) (m:bg)
 |fn (mW p7:Nat)
 |ic (t:ad)
inductive c4 where
 |val (t:ad) (m:bg)
 |opt (arg off:Nat) (t:ad)
 |new (t:ad) (m:bg)
 |p8 (t:ad)
 |any (t:ad)
def bE.ins:List bE→aA
 | []=>.nil
 |.val t _::l|.ref t::l|.mut t _ _::l|.hI t _::l|.ic t::l=>.cons t (bE.ins l)
 |.fn _ _::l=>bE.ins l
def c4.outs:List c4→aA→aA
 | [],ak=>ak
 |.val t _::l,ak=>.cons t (c4.outs l ak)
 |.new t _::l,ak=>.cons t (c4.outs l ak)
 |.p8 t::l,ak=>.cons (.sl t) (c4.outs l ak)
 |.any _::l,ak=>c4.outs l ak
 |.opt _ _ _::l,ak=>.cons (.int .i64) (c4.outs l ak)
def bE.en:List bE→aA
 | []=>.nil
 |.mut t _ _::l|.hI t _::l=>.cons t (bE.en l)
 |_::l=>bE.en l
structure Entry where
 ps:List bE
 rs:List c4
 f:(bE.ins ps).D→Option (c4.outs rs (bE.en ps)).D
structure Env where
 n:Nat
 ty:Nat→Option ad
 Lt:Nat→Bool
 vl:Nat→Bool
 fns:FuncId→FuncId→Option Entry
def lH{α:Type}(sub:Option (Nat×Nat))(xs:List α):List α :=
 match sub with
 |none=>xs
 |some (lo,len)=>part xs lo len
def mb{α:Type}(sub:Option (Nat×Nat))(xs:List α):Nat:=
 match sub with
 |none=>xs.length
 |some (_,len)=>len
def eH(sub:Option (Nat×Nat)):Nat:=
 match sub with
 |none=>0
 |some (lo,_)=>lo
def alive(s:az):List (Nat×Nat)→Bool
 | []=>true
 |(i,v)::l=>match s.o i with
  |.row _ _ w _=>cond (Nat.beq w v) (alive s l) false
  |.var w _=>cond (Nat.beq w v) (alive s l) false
  |_=>false
def lf(s:az)(id:Nat):Nat:=
 match s.o id with
 |.row _ _ v _=>v
 |.var v _=>v
 |.cr (.row _ _ v _)=>v
 |.cr (.var v _)=>v
 |_=>0
def p9(s:az)(t:ad):ba→Option (List t.D)
 |.nil u=>eY (.sl u) (.sl t) ([]:List u.D)
 |.bG u dp _ xs=>cond (alive s dp) (eY (.sl u) (.sl t) xs) none
 |.af id sub=>match s.o id with
  |.row u _ _ xs=>eY (.sl u) (.sl t) (lH sub xs)
  |_=>none
 |_=>none
def borrows(s:az):ba→List (Nat×Nat)
 |.af id _=>match s.o id with
  |.row _ _ v _=>[(id,v)]
  |_=>[]
 |.bG _ dp _ _=>dp
 |_=>[]
mutual
def ad.imp:(t:ad)→(b:Bool)→bg→List ba→az→List (Nat×Nat)→Option (t.D×List ba×az×List (Nat×Nat))
 |.int k,_,_,.int k' x::cs,s,bu=>cond (Nat.beq (dD k) (dD k')) (some (x,cs,s,bu)) none
 |.bool,_,_,.bool x::cs,s,bu=>some (x,cs,s,bu)
 |.str,_,_,.str x::cs,s,bu=>some (x,cs,s,bu)
 |.raw,_,_,.raw x::cs,s,bu=>some (x,cs,s,bu)
 |.sl t,b,.O e,c::cs,s,bu=>match c with
  |.nil u=>(eY (.sl u) (.sl t) ([]:List u.D)).bind fun x=>some (x,cs,s,bu)
  |.af id sub=>match s.o id with
   |.row u em _ xs=>cond (bg.le em e) ((eY (.sl u) (.sl t) (lH sub xs)).bind fun x=>some (x,cs,s.bV id .dead,bu)) none
   |_=>none
  |_=>none
 |.sl t,true,_,c::cs,s,bu=>(p9 s t c).bind fun x=>some (x,cs,s,borrows s c++bu)
 |.sl t,false,_,c::cs,s,bu=>match c with
  |.nil u=>(eY (.sl u) (.sl t) ([]:List u.D)).bind fun x=>some (x,cs,s,bu)
  |.bG u [] _ xs=>(eY (.sl u) (.sl t) xs).bind fun x=>some (x,cs,s,bu)
  |.af id sub=>match s.o id with
   |.row u _ _ xs=>(eY (.sl u) (.sl t) (lH sub xs)).bind fun x=>some (x,cs,s.bV id .dead,bu)
   |_=>none
  |_=>none
 |.st ak,b,m,cs,s,bu=>ak.imp b m.parts cs s bu
 |_,_,_,_,_,_=>none
def aA.imp:(ak:aA)→(b:Bool)→c5→List ba→az→List (Nat×Nat)→Option (ak.D×List ba×az×List (Nat×Nat))
 |.nil,_,_,cs,s,bu=>some ((),cs,s,bu)
 |.cons t ak,b,m,cs,s,bu=>(t.imp b m.af cs s bu).bind fun r=>(ak.imp b m.dK r.2.1 r.2.2.1 r.2.2.2).bind fun q=>some ((r.1,q.1),q.2)
end
mutual
def ad.put:(t:ad)→bg→t.D→Nat→List ba→az→Option (t.D×List ba×az)
 |t,m,x,skip,cs,s=>
  match cs with
  | []=>some (x,[],s)
  |c::cs'=>
   cond (Nat.beq skip 0&&Nat.ble t.size (cs'.length+1)) ((t.imp false m (c::cs') s []).bind fun r=>some (r.1,r.2.1,r.2.2.1))
    (match t,x with
     |.st ak,x=>ak.put m.parts x skip (c::cs') s
     |_,_=>none)
def aA.put:(ak:aA)→c5→ak.D→Nat→List ba→az→Option (ak.D×List ba×az)
 |.nil,_,_,_,cs,s=>some ((),cs,s)
 |.cons t ak,m,x,skip,cs,s=>
  cond (Nat.ble t.size skip) ((ak.put m.dK x.2 (skip-t.size) cs s).bind fun q=>some ((x.1,q.1),q.2))
   ((t.put m.af x.1 skip cs s).bind fun r=>(ak.put m.dK x.2 0 r.2.1 r.2.2).bind fun q=>some ((r.1,q.1),q.2))
end
mutual
def ad.ie:(t:ad)→bg→List (Nat×Nat)→t.D→az→Nat→Option (List ba×az×Nat)
 |.int k,_,_,x,s,j=>some ([.int k x],s,j)
 |.bool,_,_,x,s,j=>some ([.bool x],s,j)
 |.str,_,_,x,s,j=>some ([.str x],s,j)
 |.raw,_,_,x,s,j=>some ([.raw x],s,j)
 |.sl t,.O e,dp,x,s,j=>cond (dp.isEmpty||bg.beq e t.own) (match s.o j with
  |.none=>some ([.af j none],s.bV j (.row t e 0 x),j+1)
  |_=>none) none
 |.sl t,_,dp,x,s,j=>some ([.bG t dp none x],s,j)
 |.st ak,m,dp,x,s,j=>ak.ie m.parts dp x s j
def aA.ie:(ak:aA)→c5→List (Nat×Nat)→ak.D→az→Nat→Option (List ba×az×Nat)
 |.nil,_,_,_,s,j=>some ([],s,j)
 |.cons t ak,m,dp,x,s,j=>(t.ie m.af dp x.1 s j).bind fun r=>(ak.ie m.dK dp x.2 r.2.1 r.2.2).bind fun q=>some (r.1++q.1,q.2)
end
mutual
def ad.AH:(t:ad)→az→List ba→bg×List ba
 |.sl t,s,c::cs=>(match c with
  |.nil _=>.O t.own
  |.af id _=>match s.o id with
   |.row _ em _ _=>.O em
   |_=>.R
  |_=>.R,cs)
 |.st ak,s,cs=>cond ak.flat (.R,cs.drop ak.size) (let r:=ak.AH s cs;(.S r.1,r.2))
 |_,_,cs=>(.R,cs.drop 1)
def aA.AH:(ak:aA)→az→List ba→c5×List ba
 |.nil,_,cs=>(.nil,cs)
 |.cons t ak,s,cs=>let r:=t.AH s cs;let q:=ak.AH s r.2;(.cons r.1 q.1,q.2)
end
def takeN(off n:Nat)(cs:List ba):Option (List ba):=
 cond (Nat.ble (off+n) cs.length) (some (part cs off n)) none
def Lu(t:ad)(em:bg)(id ver i:Nat)(x:t.D):List ba:=
 match em with
 |.R=>t.cells [] none x
 |_=>t.cells [(id,ver)] (some ⟨id,some i,0⟩) x
def mX(s:az)(n:Nat)(p:Place):Option (List ba):=
 match s.o p.id,p.fO with
 |.var _ cs,none=>takeN p.off n cs
 |.row t em ver xs,some i=>takeN p.off n (Lu t em p.id ver i (I t xs i))
 |_,_=>none
def D9(s:az)(p:Place)(cs:List ba):Option az:=
 match s.o p.id,p.fO with
 |.var ver old,none=>cond (Nat.ble (p.off+cs.length) old.length) (some (s.bV p.id (.var (ver+1) (old.take p.off++cs++old.drop (p.off+cs.length))))) none
 |.row t em ver xs,some i=>
  cond (Nat.ble (p.off+cs.length) t.size) ((t.put em (I t xs i) p.off cs s).bind fun r=>
   match r.2.1,r.2.2.o p.id with
   | [],.row _ _ _ _=>some (r.2.2.bV p.id (.row t em (ver+1) (xs.set i r.1)))
   |_,_=>none) none
 |_,_=>none
def kE(t:ad)(cs:List ba):Option a_:=
 match t with
 |.st _=>some (.iV cs)
 |_=>match cs with
  | [c]=>some (.aU c)
  |_=>none
def jo(t:ad):a_→Option (List ba)
 |.aU c=>some [c]
 |.iV cs=>some cs
 |.lG=>match t with
  |.sl u=>some [.nil u]
  |_=>none
 |_=>none
def Lv:Value→a_
 |.int k n=>.aU (.int k n)
 |.bool b=>.aU (.bool b)
 |.string b=>.aU (.str b.data.toList)
 |.slice none 0 0=>.lG
 |.pointer none=>.kD
 |_=>.bB
def bZ(s:az):Operand→a_
 |.tmp t=>s.t t
 |.const v=>Lv v
 |.func f=>.fn f [] []
 |.global _=>.bB
def typed(E:Env)(t:Nat):a_→Option a_
 |.bB=>none
 |.gone=>none
 |.lG=>match E.ty t with
  |some (.sl u)=>some (.aU (.nil u))
  |_=>none
 |v=>some v
def lg:a_→Option Int
 |.aU (.int _ n)=>some n
 |_=>none
end Go.LM
namespace Go.LM
def oY(s:az):ba→Option Nat
 |.nil _=>some 0
 |.bG _ dp _ xs=>cond (alive s dp) (some xs.length) none
 |.af id sub=>match s.o id with
  |.row _ _ _ xs=>some (mb sub xs)
  |_=>none
 |.str x=>some x.length
 |_=>none
mutual
def ad.cmp:ad→List ba→List ba→Option (Bool×List ba×List ba)
 |.int k,.int k1 x::a,.int k2 y::b=>cond (Nat.beq (dD k1) (dD k)&&Nat.beq (dD k2) (dD k)) (some (x==y,a,b)) none
 |.bool,.bool x::a,.bool y::b=>some (x==y,a,b)
 |.str,.str x::a,.str y::b=>some (bx x y,a,b)
 |.st ak,a,b=>ak.cmp a b
 |_,_,_=>none
def aA.cmp:aA→List ba→List ba→Option (Bool×List ba×List ba)
 |.nil,a,b=>some (true,a,b)
 |.cons t ak,a,b=>(t.cmp a b).bind fun r=>(ak.cmp r.2.1 r.2.2).bind fun q=>some (r.1&&q.1,q.2)
end
def D_(op:BinOp)(k:IntKind)(x y:Int):Option a_:=
 match op with
 |.add=>some (.aU (.int k (k.wrap (x+y))))
 |.sub=>some (.aU (.int k (k.wrap (x-y))))
 |.mul=>some (.aU (.int k (k.wrap (x*y))))
 |.and=>some (.aU (.int k (cZ .and k x y)))
 |.or=>some (.aU (.int k (cZ .or k x y)))
 |.xor=>some (.aU (.int k (cZ .xor k x y)))
 |.andNot=>some (.aU (.int k (cZ .andNot k x y)))
 |.eql=>some (.aU (.bool (x==y)))
 |.neq=>some (.aU (.bool (x != y)))
 |.lss=>some (.aU (.bool (decide (x<y))))
 |.leq=>some (.aU (.bool (decide (x≤y))))
 |.gtr=>some (.aU (.bool (decide (x>y))))
 |.geq=>some (.aU (.bool (decide (x≥y))))
 |_=>none
def D'(op:BinOp)(x y:List UInt8):Option a_:=
 match op with
 |.eql=>some (.aU (.bool (bx x y)))
 |.neq=>some (.aU (.bool (!bx x y)))
 |.lss=>some (.aU (.bool (eo x y)))
 |.leq=>some (.aU (.bool (eo x y||bx x y)))
 |.gtr=>some (.aU (.bool (!(eo x y||bx x y))))
 |.geq=>some (.aU (.bool (!eo x y)))
 |_=>none
section
variable{bC:Type}
def lift(x:Option a_)(K:a_→Option bC):Option bC:=
 match x with
 |some v=>K v
 |none=>none
open Classical in
noncomputable def both(a b:Option bC):Option bC:=if a=b then a else none
noncomputable def Ea(b:Bool)(x y:Option bC):Option bC:=cond b (both x y) y
noncomputable def lI(E:Env)(ty:Nat)(op:BinOp)(x y:a_)(K:a_→Option bC):Option bC:=
 match x,y with
 |.aU (.int k a),.aU (.int k' b)=>
  match op with
  |.shl=>kj (decide (0≤b)) (K (.aU (.int k (k.wrap (a*2^min b.toNat k.bits)))))
  |.shr=>kj (decide (0≤b)) (K (.aU (.int k (a.fdiv (2^min b.toNat k.bits)))))
  |.quo=>cond (Nat.beq (dD k) (dD k')) (kj (b != 0) (K (.aU (.int k (k.wrap (a.tdiv b)))))) none
  |.rem=>cond (Nat.beq (dD k) (dD k')) (kj (b != 0) (K (.aU (.int k (a.tmod b))))) none
  |_=>cond (Nat.beq (dD k) (dD k')) (lift (D_ op k a b) K) none
 |.aU (.str a),.aU (.str b)=>
  match op with
  |.add=>kj (room (a.length+b.length)) (K (.aU (.str (a++b))))
  |_=>lift (D' op a b) K
 |.aU (.bool a),.aU (.bool b)=>
  match E.ty ty,op with
  |some .bool,.eql=>K (.aU (.bool (a==b)))
  |some .bool,.neq=>K (.aU (.bool (!(a==b))))
  |_,_=>none
 |.iV a,.iV b=>
  cond (E.Lt ty) (match E.ty ty with
  |some T=>(match op,T.cmp a b with
   |.eql,some (r,[],[])=>K (.aU (.bool r))
   |.neq,some (r,[],[])=>K (.aU (.bool (!r)))
   |_,_=>none)
  |none=>none) none
 |.aU (.bG _ [] _ xs),.lG=>
  match E.ty ty,op with
  |some (.sl _),.eql=>Ea xs.isEmpty (K (.aU (.bool true))) (K (.aU (.bool false)))
  |some (.sl _),.neq=>Ea xs.isEmpty (K (.aU (.bool false))) (K (.aU (.bool true)))
  |_,_=>none
 |.opt _ o,.kD=>
  match E.vl ty,op with
  |true,.eql=>K (.aU (.bool (decide (o<0))))
  |true,.neq=>K (.aU (.bool (!decide (o<0))))
  |_,_=>none
 |.ptr _,.kD=>
  match E.vl ty,op with
  |true,.eql=>K (.aU (.bool false))
  |true,.neq=>K (.aU (.bool true))
  |_,_=>none
 |.may b _ _,.kD=>
  match E.vl ty,op with
  |true,.eql=>K (.aU (.bool (!b)))
  |true,.neq=>K (.aU (.bool b))
  |_,_=>none
 |_,_=>none
def Lw(op:UnOp)(x:a_)(K:a_→Option bC):Option bC:=
 match op,x with
 |.neg,.aU (.int k n)=>K (.aU (.int k (k.wrap (0-n))))
 |.xor,.aU (.int k n)=>K (.aU (.int k (cZ .xor k (if k.signed then -1 else k.max) n)))
 |.not,.aU (.bool b)=>K (.aU (.bool (!b)))
 |_,_=>none
def rk(t:ad)(m:bg):List (List ba)→az→Option (List t.D×az)
 | [],s=>some ([],s)
 |cs::B,s=>(t.imp false m cs s []).bind fun r=>
   match r.2.1 with
   | []=>(rk t m B r.2.2.1).bind fun q=>some (r.1::q.1,q.2)
   |_=>none
def aA.nth:aA→Nat→Option ad
 |.nil,_=>none
 |.cons t _,0=>some t
 |.cons _ ak,n+1=>aA.nth ak n
def aA.oZ:aA→List (List ba)
 |.nil=>[]
 |.cons t ak=>t.j1::aA.oZ ak
def tf(s:az)(ty:Nat→Option ad):List (Nat×Operand)→List (List ba)→Option (List (List ba))
 | [],B=>some B
 |(i,x)::ps,B=>
  match ty i with
  |none=>none
  |some t=>
   match jo t (bZ s x)with
   |none=>none
   |some cs=>cond (Nat.beq cs.length t.size) (tf s ty ps (B.set i cs)) none
def aA.off:aA→Nat→Option (Nat×ad)
 |.nil,_=>none
 |.cons t _,0=>some (0,t)
 |.cons t ak,n+1=>(aA.off ak n).bind fun r=>some (t.size+r.1,r.2)
def mkObj(s:az)(id:Nat)(o:cD):Option az:=
 match s.o id with
 |.none=>some (s.bV id o)
 |_=>none
def taken(s:az)(t:ad):ba→Option (bg×List t.D×az)
 |.nil u=>(eY (.sl u) (.sl t) ([]:List u.D)).bind fun x=>some (t.own,x,s)
 |.af id sub=>match s.o id with
  |.row u em _ xs=>(eY (.sl u) (.sl t) (lH sub xs)).bind fun x=>some (em,x,s.bV id .dead)
  |_=>none
 |_=>none
def added(s:az)(t:ad):ba→Option (bg×List t.D×az)
 |.af id sub=>match s.o id with
  |.row u em _ xs=>match em with
   |.R=>(eY (.sl u) (.sl t) (lH sub xs)).bind fun x=>some (.R,x,s)
   |_=>(eY (.sl u) (.sl t) (lH sub xs)).bind fun x=>some (em,x,s.bV id .dead)
  |_=>none
 |.bG u dp _ xs=>cond (alive s dp&&(t.flat||dp.isEmpty)) ((eY (.sl u) (.sl t) xs).bind fun x=>some (.R,x,s)) none
 |.nil u=>(eY (.sl u) (.sl t) ([]:List u.D)).bind fun x=>some (t.own,x,s)
 |.str x=>(eY (.sl (.int .u8)) (.sl t) (eT x)).bind fun y=>some (.R,y,s)
 |_=>none
def meet(a b:bg):bg:=cond (bg.beq a b) a .R
def Ug(id:Nat)(t:ad)(s:az)(a b:ba)(K:ba→az→Option bC):Option bC:=
 match added s t b with
 |none=>none
 |some (lh,ys,s1)=>
  match taken s1 t a with
  |none=>none
  |some (o0,xs,s2)=>
   match mkObj s2 id (.row t (meet o0 lh) 0 (xs++ys))with
   |none=>none
   |some s3=>kj (room (xs.length+ys.length)) (K (.af id none) s3)
def o1(t:ad)(v:a_):Bool:=
 match t,v with
 |.st _,.iV _=>true
 |.st _,_=>false
 |_,.aU _=>true
 |.sl _,.lG=>true
 |_,_=>false
mutual
def ad.getAt:(T:ad)→Nat→(t:ad)→T.D→Option (List t.D)
 |.sl u,off,t,x=>cond (Nat.beq off 0) (eY (.sl u) (.sl t) x) none
 |.st ak,off,t,x=>ak.getAt off t x
 |_,_,_,_=>none
def aA.getAt:(ak:aA)→Nat→(t:ad)→ak.D→Option (List t.D)
 |.nil,_,_,_=>none
 |.cons T ak,off,t,x=>cond (Nat.blt off T.size) (T.getAt off t x.1) (ak.getAt (off-T.size) t x.2)
end
mutual
def ad.setAt:(T:ad)→Nat→(t:ad)→List t.D→T.D→Option T.D
 |.sl u,off,t,y,_=>cond (Nat.beq off 0) (eY (.sl t) (.sl u) y) none
 |.st ak,off,t,y,x=>ak.setAt off t y x
 |_,_,_,_,_=>none
def aA.setAt:(ak:aA)→Nat→(t:ad)→List t.D→ak.D→Option ak.D
 |.nil,_,_,_,_=>none
 |.cons T ak,off,t,y,x=>cond (Nat.blt off T.size) ((T.setAt off t y x.1).bind fun z=>some (z,x.2)) ((ak.setAt (off-T.size) t y x.2).bind fun z=>some (x.1,z))
end
def vm(t:ad)(e:bg)(s:az)(dp:List (Nat×Nat)):Option Place→Option (List t.D×az)
 |none=>none
 |some p=>
  match p.fO,s.o p.id with
  |some i,.row T em ver ys=>cond (alive s dp&&bg.beq em T.own&&bg.beq e t.own) ((T.getAt p.off t (I T ys i)).bind fun x=>some (x,s.bV p.id (.cr (.row T em ver ys)))) none
  |_,_=>none
def ya(t:ad)(x:List t.D)(s:az):Option Place→Option az
 |none=>none
 |some p=>
  match p.fO,s.o p.id with
  |some i,.cr (.row T em ver ys)=>(T.setAt p.off t x (I T ys i)).bind fun z=>some (s.bV p.id (.row T em (ver+1) (ys.set i z)))
  |_,_=>none
mutual
def ad.fP:(t:ad)→bg→List ba→az→Option (t.D×List ba×az)
 |.int k,_,.int k' x::cs,s=>cond (Nat.beq (dD k) (dD k')) (some (x,cs,s)) none
 |.bool,_,.bool x::cs,s=>some (x,cs,s)
 |.str,_,.str x::cs,s=>some (x,cs,s)
 |.sl t,.O e,c::cs,s=>match c with
  |.nil u=>(eY (.sl u) (.sl t) ([]:List u.D)).bind fun x=>some (x,cs,s)
  |.af id none=>match s.o id with
   |.row u em ver xs=>cond (bg.beq em e) ((eY (.sl u) (.sl t) xs).bind fun x=>some (x,cs,s.bV id (.cr (.row u em ver xs)))) none
   |_=>none
  |.bG _ dp cJ _=>(vm t e s dp cJ).bind fun r=>some (r.1,cs,r.2)
  |_=>none
 |.st ak,m,cs,s=>ak.fP m.parts cs s
 |_,_,_,_=>none
def aA.fP:(ak:aA)→c5→List ba→az→Option (ak.D×List ba×az)
 |.nil,_,cs,s=>some ((),cs,s)
 |.cons t ak,m,cs,s=>(t.fP m.af cs s).bind fun r=>(ak.fP m.dK r.2.1 r.2.2).bind fun q=>some ((r.1,q.1),q.2)
end
mutual
def ad.back:(t:ad)→t.D→List ba→az→Option (List ba×az)
 |.sl t,x,c::cs,s=>match c with
  |.nil _=>some (cs,s)
  |.af id none=>match s.o id with
   |.cr (.row u em ver _)=>(eY (.sl t) (.sl u) x).bind fun y=>some (cs,s.bV id (.row u em (ver+1) y))
   |_=>none
  |.bG _ _ cJ _=>(ya t x s cJ).bind fun au=>some (cs,au)
  |_=>none
 |.st ak,x,cs,s=>ak.back x cs s
 |_,_,_::cs,s=>some (cs,s)
 |_,_,[],_=>none
def aA.back:(ak:aA)→ak.D→List ba→az→Option (List ba×az)
 |.nil,_,cs,s=>some (cs,s)
 |.cons t ak,x,cs,s=>(t.back x.1 cs s).bind fun r=>ak.back x.2 r.1 r.2
end
def gB(key:Nat)(s:az):(ps:List bE)→List a_→List (Nat×Nat)→Option ((bE.ins ps).D×az×List (Nat×Nat))
 | [],[],bu=>some ((),s,bu)
 |.fn mW p7::ps,.fn g a b::vs,bu=>cond (Nat.beq g key&&Nat.beq a.length mW&&Nat.beq b.length p7) (gB key s ps vs bu) none
 |.val t m::ps,v::vs,bu=>cond (o1 t v)
  (match jo t v with
  |none=>none
  |some cs=>(t.imp true m cs s bu).bind fun r=>
   match r.2.1 with
   | []=>(gB key r.2.2.1 ps vs r.2.2.2).bind fun q=>some ((r.1,q.1),q.2)
   |_=>none) none
 |.ic t::ps,v::vs,bu=>cond (o1 t v)
  (match jo t v with
  |none=>none
  |some cs=>(t.imp false .R cs s bu).bind fun r=>
   match r.2.1 with
   | []=>(gB key r.2.2.1 ps vs r.2.2.2).bind fun q=>some ((r.1,q.1),q.2)
   |_=>none) none
 |.hI t m::ps,v::vs,bu=>cond (o1 t v&&bg.beq m t.own)
  (match jo t v with
  |none=>none
  |some cs=>(t.fP m cs s).bind fun r=>
   match r.2.1 with
   | []=>(gB key r.2.2 ps vs bu).bind fun q=>some ((r.1,q.1),q.2)
   |_=>none) none
 |.ref t::ps,.dA dp cs off::vs,bu=>
  match takeN off t.size cs with
  |none=>none
  |some cs=>cond (alive s dp) ((t.imp true .R cs s (dp++bu)).bind fun r=>
   match r.2.1 with
   | []=>(gB key r.2.2.1 ps vs r.2.2.2).bind fun q=>some ((r.1,q.1),q.2)
   |_=>none) none
 |.ref t::ps,.ptr p::vs,bu=>
  match mX s t.size p with
  |none=>none
  |some cs=>(t.imp true .R cs s ((p.id,lf s p.id)::bu)).bind fun r=>
   match r.2.1 with
   | []=>(gB key r.2.2.1 ps vs r.2.2.2).bind fun q=>some ((r.1,q.1),q.2)
   |_=>none
 |.mut t m m'::ps,.ptr p::vs,bu=>
  match s.o p.id,p.fO with
  |.var ver old,none=>
   match takeN p.off t.size old with
   |none=>none
   |some cs=>(t.imp true m cs (s.bV p.id (.cr (.var ver old))) bu).bind fun r=>
    match r.2.1 with
    | []=>(gB key r.2.2.1 ps vs r.2.2.2).bind fun q=>some ((r.1,q.1),q.2)
    |_=>none
  |.row u em ver xs,some i=>cond (Nat.beq p.off 0&&bg.beq em m&&bg.beq m' em&&bg.beq m t.own) ((eY u t (I u xs i)).bind fun x=>(gB key (s.bV p.id (.cr (.row u em ver xs))) ps vs bu).bind fun q=>some ((x,q.1),q.2)) none
  |_,_=>none
 |_,_,_=>none
def mY(dp:List (Nat×Nat)):(ps:List bE)→List a_→(bE.en ps).D→az→Nat→Option (az×Nat)
 | [],_,_,s,j=>some (s,j)
 |.mut t _ m'::ps,.ptr p::vs,x,s,j=>
  match s.o p.id,p.fO with
  |.cr (.var ver old),none=>(t.ie m' dp x.1 s j).bind fun r=>mY dp ps vs x.2 (r.2.1.bV p.id (.var (ver+1) (old.take p.off++r.1++old.drop (p.off+t.size)))) r.2.2
  |.cr (.row u em ver xs),some i=>(eY t u x.1).bind fun y=>mY dp ps vs x.2 (s.bV p.id (.row u em (ver+1) (xs.set i y))) j
  |_,_=>none
 |.hI t _::ps,v::vs,x,s,j=>
  match jo t v with
  |none=>none
  |some cs=>(t.back x.1 cs s).bind fun r=>mY dp ps vs x.2 r.2 j
 |.val _ _::ps,_::vs,x,s,j|.ic _::ps,_::vs,x,s,j|.ref _::ps,_::vs,x,s,j|.fn _ _::ps,_::vs,x,s,j=>mY dp ps vs x s j
 |_,_,_,_,_=>none
def rl(s:az)(vs:List a_)(arg off:Nat):Option Nat:=
 match vs[arg]? with
 |some (.ptr p)=>match mX s 1 { p with off:=p.off+off }with
  |some [.af id none]=>some id
  |_=>none
 |_=>none
def rm(s:az)(t:ad)(id:Nat):Bool:=
 match s.o id with
 |.row u _ _ _=>ad.beq u t
 |_=>false
def mc(vs:List a_)(ps:List bE)(dp:List (Nat×Nat)):(rs:List c4)→(c4.outs rs (bE.en ps)).D→az→Nat→Option (List a_×az)
 | [],x,s,j=>(mY dp ps vs x s j).bind fun r=>some ([],r.1)
 |.val t m::rs,x,s,j=>(t.ie m dp x.1 s j).bind fun r=>
  match kE t r.1 with
  |none=>none
  |some v=>(mc vs ps dp rs x.2 r.2.1 r.2.2).bind fun q=>some (v::q.1,q.2)
 |.new t m::rs,x,s,j=>(t.ie m dp x.1 s j).bind fun r=>(mkObj r.2.1 r.2.2 (.var 0 r.1)).bind fun s1=>(mc vs ps dp rs x.2 s1 (r.2.2+1)).bind fun q=>some (.ptr ⟨r.2.2,none,0⟩::q.1,q.2)
 |.opt a off t::rs,x,s,j=>(mc vs ps dp rs x.2 s j).bind fun q=>
  match rl q.2 vs a off with
  |none=>none
  |some id=>cond (rm q.2 t id) (some (.opt id x.1::q.1,q.2)) none
 |.any t::rs,x,s,j=>(mc vs ps dp rs x s j).bind fun q=>some (.td t::q.1,q.2)
 |.p8 t::rs,x,s,j=>(mc vs ps dp rs x.2 s j).bind fun q=>some (.may (!List.isEmpty x.1) dp (t.cells dp none (I t x.1 0))::q.1,q.2)
def p_:List a_→FuncId
 | []=>0
 |.fn f _ _::_=>f
 |_::l=>p_ l
def me:List a_→List a_
 | []=>[]
 |.fn _ a b::l=>a++b++me l
 |_::l=>me l
def o2:List a_→Bool
 | []=>true
 |.bB::_=>false
 |.gone::_=>false
 |.td _::_=>false
 |_::l=>o2 l
def Lx(E:Env)(id:Nat)(s:az)(f:FuncId)(vs:List a_)(K:a_→az→Option bC):Option bC:=
 match E.fns f (p_ vs)with
 |none=>none
 |some e=>
  match gB (p_ vs) s e.ps (vs++me vs) []with
  |none=>none
  |some (x,s1,bu)=>
   cond (alive s1 bu&&o2 vs)
    ((e.f x).bind fun r=>
     match mc (vs++me vs) e.ps bu e.rs r s1 id with
     |none=>none
     |some ([v],s2)=>K v s2
     |some (l,s2)=>K (.p6 l) s2)
    none
def tg(s:az):List a_→(List a_→Option bC)→Option bC
 | [],K=>K []
 |.opt i n::l,K=>(ix (match s.o i with|.row _ _ _ xs=>xs.length|_=>0) n).bind fun k=>tg s l fun l'=>K (.ptr ⟨i,some k,0⟩::l')
 |.may b dp cs::l,K=>kj b (tg s l fun l'=>K (.dA dp cs 0::l'))
 |v::l,K=>tg s l fun l'=>K (v::l')
def Ly(E:Env)(id:Nat)(s:az)(f:FuncId)(vs:List a_)(K:a_→az→Option bC):Option bC:=tg s vs fun vs=>Lx E id s f vs K
end
end Go.LM
namespace Go.LM
section
variable{bC:Type}
def vn(fQ:Bool)(k:IntKind):Int→List a_→Option (IntKind×Int)
 |x,[]=>some (k,x)
 |x,.aU (.int _ y)::l=>vn fQ k (cond fQ (afv x y) (kk x y)) l
 |_,_=>none
def yb(fQ:Bool):List a_→Option (IntKind×Int)
 |.aU (.int k x)::l=>vn fQ k x l
 |_=>none
def lJ(s:az)(T:ad):ba→Bool
 |.str _=>ad.beq T .str
 |.nil u=>ad.beq T (.sl u)
 |.bG u _ _ _=>ad.beq T (.sl u)
 |.af id _=>match s.o id with
  |.row u _ _ _=>ad.beq T (.sl u)
  |_=>false
 |_=>false
def oneCell(t:ad):a_→Option ba
 |.aU c=>some c
 |.lG=>some (.nil t)
 |_=>none
def yc(E:Env):List Nat→Option ad
 |ig::iE::_=>
  match E.ty ig,E.ty iE with
  |some (.sl t),some (.sl _)=>some t
  |some (.sl t),some .str=>some t
  |_,_=>none
 |_=>none
def kF(E:Env)(id:Nat)(s:az)(b:Builtin)(LA:List Nat)(vs:List a_)(K:a_→az→Option bC):Option bC:=
 match b,vs with
 |.len,[.aU c]=>
  match LA with
  |t::_=>
   match E.ty t with
   |some T=>cond (lJ s T c)
    (match oY s c with
    |some n=>K (.aU (.int .i64 n)) s
    |none=>none) none
   |none=>none
  |_=>none
 |.append,[mf,vb]=>
  match yc E LA with
  |some t=>
   match oneCell t mf,oneCell t vb with
   |some a,some b=>Ug id t s a b fun c s=>K (.aU c) s
   |_,_=>none
  |none=>none
 |.clear,[.aU (.af i sub)]=>
  match LA with
  |t::_=>
   match E.ty t,s.o i with
   |some (.sl u),.row v em ver xs=>cond (ad.beq u v&&v.flat) (K (.p6 []) (s.bV i (.row v em (ver+1) (xs.take (eH sub)++List.replicate (mb sub xs) v.zero++xs.drop (eH sub+mb sub xs))))) none
   |_,_=>none
  |_=>none
 |.min,vs=>
  match yb false vs with
  |some (k,x)=>K (.aU (.int k x)) s
  |none=>none
 |.max,vs=>
  match yb true vs with
  |some (k,x)=>K (.aU (.int k x)) s
  |none=>none
 |_,_=>none
def bound(s:az)(x:Option Operand)(d:Int):Option Int:=
 match x with
 |none=>some d
 |some x=>lg (bZ s x)
def yd(c:ba)(l m:Nat):Option ba:=
 match c with
 |.str x=>some (.str (part x l m))
 |.nil t=>some (.nil t)
 |.bG t dp cJ xs=>some (.bG t dp none (part xs l m))
 |.af id sub=>some (.af id (some (eH sub+l,m)))
 |_=>none
def Uh(s:az)(T:ad)(x:a_)(lo hi fQ:Option Operand)(K:a_→Option bC):Option bC:=
 match x with
 |.aU c=>
  cond (lJ s T c)
  (match oY s c with
  |none=>none
  |some n=>
   match bound s lo 0,bound s hi n with
   |some l,some h=>
    (match fQ with
     |none=>fun k=>k
     |some m=>fun k=>cond (ad.beq T .str) none (match lg (bZ s m)with
      |some m=>cond hi.isSome (kj (decide (h=m)) k) none
      |none=>none))
    ((dj n l h).bind fun r=>
     match yd c r.1 (r.2-r.1)with
     |some c'=>K (.aU c')
     |none=>none)
   |_,_=>none) none
 |_=>none
def th(E:Env)(id:Nat)(s:az)(src dst:Nat)(x:a_)(K:a_→az→Option bC):Option bC:=
 match E.ty src,E.ty dst,x with
 |some (.int _),some (.int k),.aU (.int _ n)=>K (.aU (.int k (k.wrap n))) s
 |some .str,some .str,.aU (.str b)=>K (.aU (.str b)) s
 |some .str,some (.sl (.int .u8)),.aU (.str b)=>
  match mkObj s id (.row (.int .u8) .R 0 (eT b))with
  |some s1=>K (.aU (.af id none)) s1
  |none=>none
 |some (.sl (.int .u8)),some .str,.aU c=>
  match p9 s (.int .u8) c with
  |some xs=>K (.aU (.str (eZ xs))) s
  |none=>none
 |_,_,_=>none
def LB(T:ad)(s:az):List (List ba)→bg
 |cs::_=>(T.AH s cs).1
 | []=>T.own
noncomputable def c0(E:Env)(id:Nat)(o:Oper)(s:az)(K:az→Option bC):Option bC:=
 let put (v:a_) (s:az):Option bC:=K (s.dst o.dst v)
 match o.op with
 |.move x|.assign x=>
  match typed E o.type (bZ s x)with
  |some v=>put v s
  |none=>none
 |.pick c a b=>
  match bZ s c,typed E o.type (bZ s a),typed E o.type (bZ s b)with
  |.aU (.bool t),some mf,some vb=>cond t (put mf s) (put vb s)
  |.aU (.bool t),some mf,none=>cond t (put mf s) none
  |.aU (.bool t),none,some vb=>cond t none (put vb s)
  |_,_,_=>none
 |.alloc t=>
  match E.ty t with
  |some T=>match mkObj s id (.var 0 T.j1)with
   |some s1=>put (.ptr ⟨id,none,0⟩) s1
   |none=>none
  |none=>none
 |.box t x=>
  match E.ty t with
  |some T=>match jo T (bZ s x)with
   |some cs=>cond (Nat.beq cs.length T.size)
    (match mkObj s id (.var 0 cs)with
     |some s1=>put (.ptr ⟨id,none,0⟩) s1
     |none=>none) none
   |none=>none
  |none=>none
 |.build t parts=>
  match E.ty t with
  |some (.st ak)=>match tf s ak.nth parts.toList ak.oZ with
   |some B=>put (.iV B.flatten) s
   |none=>none
  |_=>none
 |.buildSlice t n parts=>
  match E.ty t with
  |some (.sl T)=>cond (Nat.ble (n*T.size) 16777216)
   (match tf s (fun i=>cond (Nat.blt i n) (some T) none) parts.toList (List.replicate n T.j1)with
   |some B=>
    match rk T (LB T s B) B s with
    |some (xs,s1)=>match mkObj s1 id (.row T (LB T s B) 0 xs)with
     |some s2=>put (.aU (.af id none)) s2
     |none=>none
    |none=>none
   |none=>none) none
  |_=>none
 |.load t a=>
  match E.ty t,bZ s a with
  |some T,.ptr p=>match (mX s T.size p).bind (kE T)with
   |some v=>put v s
   |none=>none
  |some T,.dA dp cs off=>match (takeN off T.size cs).bind (kE T)with
   |some v=>cond (alive s dp) (put v s) none
   |none=>none
  |_,_=>none
 |.store t a x=>
  match E.ty t,bZ s a with
  |some T,.ptr p=>match jo T (bZ s x)with
   |some cs=>cond (Nat.beq cs.length T.size)
    (match D9 s p cs with
     |some s1=>put .bB s1
     |none=>none) none
   |none=>match bZ s x,s.o p.id,p.fO with
    |.td u,.var _ old,none=>cond (ad.beq u T&&Nat.beq p.off 0&&Nat.ble T.size old.length) (put .bB (s.bV p.id .dead)) none
    |_,_,_=>none
  |_,_=>none
 |.nilCheck x=>
  match bZ s x with
  |.ptr p=>put (.ptr p) s
  |.dA dp cs off=>put (.dA dp cs off) s
  |.fn f a b=>put (.fn f a b) s
  |.may b dp cs=>kj b (put (.dA dp cs 0) s)
  |.opt i n=>(ix (match s.o i with|.row _ _ _ xs=>xs.length|_=>0) n).bind fun k=>put (.ptr ⟨i,some k,0⟩) s
  |_=>none
 |.binOp op ty x y _=>lI E ty op (bZ s x) (bZ s y) fun v=>put v s
 |.unOp op _ x=>Lw op (bZ s x) fun v=>put v s
 |.convert src dst x=>th E id s src dst (bZ s x) put
 |.makeFunc (.func f) first ma=>put (.fn f (first.toList.map (bZ s)) (ma.toList.map (bZ s))) s
 |.makeSlice t l c=>
  match E.ty t,lg (bZ s l),lg (bZ s c)with
  |some (.sl T),some n,some m=>
   kj (decide (0≤n)&&decide (n=m)&&room n.toNat)
    (match mkObj s id (.row T T.own 0 (List.replicate n.toNat T.zero))with
     |some s1=>put (.aU (.af id none)) s1
     |none=>none)
  |_,_,_=>none
 |.slice t x lo hi fQ=>
  match E.ty t with
  |some T=>Uh s T (bZ s x) lo hi fQ fun v=>put v s
  |none=>none
 |.fieldAddr t x f=>
  match E.ty t,bZ s x with
  |some (.st ak),.ptr p=>match ak.off f with
   |some (k,u)=>cond (Nat.beq u.size 0) none (put (.ptr { p with off:=p.off+k }) s)
   |none=>none
  |some (.st ak),.dA dp cs off=>match ak.off f with
   |some (k,u)=>cond (Nat.beq u.size 0) none (put (.dA dp cs (off+k)) s)
   |none=>none
  |_,_=>none
 |.field t x f=>
  match E.ty t,bZ s x with
  |some (.st ak),.iV cs=>match ak.off f with
   |some (k,u)=>match (takeN k u.size cs).bind (kE u)with
    |some v=>put v s
    |none=>none
   |none=>none
  |_,_=>none
 |.indexAddr t x i=>
  match E.ty t,bZ s x,lg (bZ s i)with
  |some (.sl u),.aU c,some n=>
   match c with
   |.af id sub=>match s.o id with
    |.row v _ _ xs=>cond (ad.beq u v) ((ix (mb sub xs) n).bind fun k=>put (.ptr ⟨id,some (eH sub+k),0⟩) s) none
    |_=>none
   |.bG v dp cJ xs=>cond (alive s dp&&ad.beq u v) ((ix xs.length n).bind fun k=>put (.dA dp (v.cells dp none (I v xs k)) 0) s) none
   |_=>none
  |_,_,_=>none
 |.index t x i=>
  match E.ty t,bZ s x,lg (bZ s i)with
  |some .str,.aU (.str b),some n=>(ix b.length n).bind fun k=>put (.aU (.int .u8 (b.getD k 0).toNat)) s
  |_,_,_=>none
 |.extract x i=>
  match bZ s x with
  |.p6 l=>match l[i]? with
   |some v=>put v s
   |none=>none
  |_=>none
 |.call c=>
  let vs:=c.args.toList.map (bZ s)
  match c.callee with
  |.builtin b=>kF E id s b c.argTypes.toList vs put
  |.value f=>match bZ s f with
   |.fn g first ma=>Ly E id s g (first++vs++ma) put
   |_=>none
  |_=>none
 |_=>none
def guardOf(ops:List Oper)(o:Oper):Option (Option Nat×Bool):=
 match o.guard with
 |none=>none
 |some (j,w)=>some ((ops[j]?).bind (·.dst),w)
def AI(E:Env)(o:Oper):Bool:=
 match o.dst with
 |some d=>Nat.blt d E.n
 |none=>true
noncomputable def vo(E:Env)(id:Nat)(ops:List Oper)(o:Oper)(s:az)(K:az→Option bC):Option bC:=
 cond (AI E o) (match guardOf ops o with
 |none=>c0 E id o s K
 |some (some d,w)=>
  match s.t d with
  |.aU (.bool b)=>
   cond b (let au:=s.set d (.aU (.bool true));cond w (c0 E id o au K) (K (au.dst o.dst .gone)))
    (let au:=s.set d (.aU (.bool false));cond w (K (au.dst o.dst .gone)) (c0 E id o au K))
  |.gone=>K (s.dst o.dst .gone)
  |_=>none
 |some (none,_)=>none) none
def ye:List a_→Option Place
 |.aU (.bG _ _ cJ _)::_=>cJ
 |_=>none
def LC:List bE→Bool
 | []=>true
 |.mut _ _ _::_=>false
 |.hI _ _::_=>false
 |.val _ _::l|.ref _::l|.fn _ _::l|.ic _::l=>LC l
def afw:List bE→Bool
 |.val (.sl _) (.O _)::_=>true
 |_=>false
def yf(key:Nat)(s:az)(t:ad):(ps:List bE)→List a_→Option ((bE.ins ps).D×az×List (Nat×Nat))
 |.val (.sl u) m::ps,.aU (.bG _ dp cJ _)::vs=>cond (bg.beq m (.O u.own)&&(ad.beq t u&&LC ps)) ((vm u u.own s dp cJ).bind fun r=>(gB key r.2 ps vs []).bind fun q=>some ((r.1,q.1),q.2)) none
 |_,_=>none
def AJ(t:ad){ak:aA}:(rs:List c4)→(c4.outs rs ak).D→Option (List t.D)
 | [.val u m],x=>cond (bg.beq m (.O t.own)) (eY u (.sl t) x.1) none
 |_,_=>none
def Ui(E:Env)(s:az)(o:Oper):Bool:=
 match o.op with
 |.call c=>match c.callee with
  |.value cg=>match bZ s cg with
   |.fn g [] []=>match ye (c.args.toList.map (bZ s)),E.fns g (p_ (c.args.toList.map (bZ s)))with
    |some _,some e=>afw e.ps
    |_,_=>false
   |_=>false
  |_=>false
 |_=>false
def yg(E:Env)(o dS e4 e':Oper)(k1 e1 e2 e0 d0 d1 d2:Nat):Bool:=
 Nat.beq d0 e0&&(Nat.beq d1 e1&&(Nat.beq d2 e2&&(!(Nat.beq k1 d0)&&(!(Nat.beq d0 d1)&&(!(Nat.beq d0 d2)&&(o.guard.isNone&&(dS.guard.isNone&&(e4.guard.isNone&&(e'.guard.isNone&&(e'.dst.isNone&&(Nat.blt d0 E.n&&(Nat.blt d1 E.n&&Nat.blt d2 E.n))))))))))))
def LD(s:az)(v:a_)(K:Place→Option bC):Option bC:=
 match v with
 |.ptr p=>K p
 |.opt i n=>(ix (match s.o i with|.row _ _ _ xs=>xs.length|_=>0) n).bind fun k=>K ⟨i,some k,0⟩
 |_=>none
def LF(E:Env)(s:az)(o:Oper)(l:List Oper)(K:az→Option bC):Option bC:=
 match l with
 |dS::e4::e'::_=>
  match o.op,dS.op,e4.op,e'.op with
  |.call c,.nilCheck (.tmp k1),.fieldAddr nU (.tmp e1) o3,.store nV (.tmp e2) (.tmp e0)=>
   match c.callee,o.dst,dS.dst,e4.dst with
   |.value cg,some d0,some d1,some d2=>cond (yg E o dS e4 e' k1 e1 e2 e0 d0 d1 d2)
    (match bZ s cg,E.ty nU,E.ty nV with
    |.fn g [] [],some (.st ak),some (.sl t)=>
     match E.fns g (p_ (c.args.toList.map (bZ s))),ak.off o3,ye (c.args.toList.map (bZ s))with
     |some e,some (k,u),some p=>LD s (s.t k1) fun kl=>cond (!(Nat.beq u.size 0)&&(Nat.beq kl.id p.id&&Nat.beq (kl.off+k) p.off))
      (match kl.fO,p.fO with
      |some i,some j=>cond (Nat.beq i j) (match yf (p_ (c.args.toList.map (bZ s))) s t e.ps (c.args.toList.map (bZ s)++me (c.args.toList.map (bZ s)))with
       |none=>none
       |some (x,s1,bu)=>cond (alive s1 bu&&o2 (c.args.toList.map (bZ s)))
        ((e.f x).bind fun r=>(AJ t e.rs r).bind fun y=>(ya t y (((s1.set d0 .bB).set d1 .bB).set d2 .bB) (some p)).bind K) none) none
      |_,_=>none) none
     |_,_,_=>none
    |_,_,_=>none) none
   |_,_,_,_=>none
  |_,_,_,_=>none
 |_=>none
noncomputable def vp(E:Env)(bH:Nat)(all:List Oper):List Oper→Nat→Nat→az→(az→Option bC)→Option bC
 | [],_,_,s,K=>K s
 |_::l,i,q+1,s,K=>vp E bH all l (i+1) q s K
 |o::l,i,0,s,K=>cond (Ui E s o) (LF E s o l fun au=>vp E bH all l (i+1) 3 au K) (vo E ((bH*256+i)*32) all o s fun au=>vp E bH all l (i+1) 0 au K)
noncomputable def LG(E:Env)(bH:Nat)(all:List Oper)(l:List Oper)(i:Nat)(s:az)(K:az→Option bC):Option bC:=vp E bH all l i 0 s K
def vq(E:Env)(o:Oper):Bool:=
 match o.op with
 |.move _|.assign _|.pick _ _ _|.load _ _|.nilCheck _|.binOp _ _ _ _ _|.unOp _ _ _|.slice _ _ _ _ _|.fieldAddr _ _ _|.field _ _ _|.indexAddr _ _ _|.index _ _ _|.extract _ _|.build _ _=>true
 |.makeFunc (.func _) _ _=>true
 |.convert a b _=>match E.ty a,E.ty b with
  |some (.int _),some (.int _)=>true
  |_,_=>false
 |.call c=>match c.callee with
  |.builtin .len|.builtin .min|.builtin .max=>true
  |_=>false
 |_=>false
def waits(ops:Array Oper)(j i:Nat):Bool:=
 match ops[j]? with
 |some o=>o.after.any fun e=>Region.binds .any e&&Nat.beq e.on i
 |none=>false
def LH(E:Env)(ops:Array Oper)(i:Nat):Bool:=
 match ops[i]? with
 |some o=>vq E o
 |none=>false
def jq(s:az)(o:Oper):List (Nat×Nat):=
 match o.op with
 |.load _ x=>match bZ s x with
  |.ptr p=>[(p.id,lf s p.id)]
  |.dA dp _ _=>dp
  |_=>[]
 |_=>[]
def vr(s:az):List (Nat×List (Nat×Nat))→Bool
 | []=>true
 |p::l=>cond (alive s p.2) (vr s l) false
def isApp(s:az)(o:Oper):Bool:=
 match o.op with
 |.call c=>match c.callee with
  |.builtin .append=>(ye (c.args.toList.map (bZ s))).isSome
  |_=>false
 |_=>false
def LI(id:Nat)(t:ad)(p:Place)(dp:List (Nat×Nat))(s:az)(cb:ba)(d0 d1 d2:Nat)(M:az→Bool)(K:az→Option bC):Option bC:=
 match added s t cb with
 |none=>none
 |some (lh,ys,s1)=>cond (bg.beq lh t.own) ((vm t t.own s1 dp (some p)).bind fun r=>(mkObj r.2 id .dead).bind fun s2=>kj (room (r.1.length+ys.length)) (cond (M (s2.set d0 .bB)) ((ya t (r.1++ys) (((s2.set d0 .bB).set d1 .bB).set d2 .bB) (some p)).bind K) none)) none
def LJ(E:Env)(id:Nat)(s:az)(o dS e4 e':Oper)(M:az→Bool)(K:az→Option bC):Option bC:=
 match o.op,dS.op,e4.op,e'.op with
 |.call c,.indexAddr yh (.tmp k1) (.tmp k2),.fieldAddr nU (.tmp e1) o3,.store nV (.tmp e2) (.tmp e0)=>
  match c.callee,o.dst,dS.dst,e4.dst with
  |.builtin .append,some d0,some d1,some d2=>cond (yg E o dS e4 e' k1 e1 e2 e0 d0 d1 d2 && !(Nat.beq k2 d0))
   (match E.ty yh,E.ty nU,E.ty nV,yc E c.argTypes.toList,c.args.toList.map (bZ s)with
   |some (.sl nW),some (.st ak),some (.sl t),some ig,[.aU (.bG _ dp (some p) _),vb]=>
    match ak.off o3,oneCell ig vb,s.t k1,lg (s.t k2),s.o p.id,p.fO with
    |some (k,u),some cb,.aU (.af i sub),some q,.row v _ _ xs,some j=>cond (ad.beq ig t&&(ad.beq nW v&&(!(Nat.beq u.size 0)&&(Nat.beq i p.id&&Nat.beq k p.off))))
      ((ix (mb sub xs) q).bind fun m=>cond (Nat.beq (eH sub+m) j) (LI id t p dp s cb d0 d1 d2 M K) none) none
    |_,_,_,_,_,_=>none
   |_,_,_,_,_=>none) none
  |_,_,_,_=>none
 |_,_,_,_=>none
def Uj(s:az)(ops:Array Oper)(rs:List Nat):Bool:=rs.any fun i=>match ops[i]? with
 |some o=>isApp s o
 |none=>false
def one:List Nat→Option Nat
 | [i]=>some i
 |_=>none
def LK(E:Env)(bH:Nat)(ops:Array Oper)(listed:Array Bool)(jr:List (Nat×List (Nat×Nat)))(rs:List Nat)(s:az)(K:az→Option bC):Option bC:=
 (one rs).bind fun i=>(one (Region.ready .any ops (listed.setIfInBounds i true))).bind fun i1=>(one (Region.ready .any ops ((listed.setIfInBounds i true).setIfInBounds i1 true))).bind fun i2=>
  (one (Region.ready .any ops (((listed.setIfInBounds i true).setIfInBounds i1 true).setIfInBounds i2 true))).bind fun i3=>
   cond ((Region.ready .any ops ((((listed.setIfInBounds i true).setIfInBounds i1 true).setIfInBounds i2 true).setIfInBounds i3 true)).isEmpty&&((jr.filter fun p=> !waits ops i p.1).filter fun p=> !waits ops i1 p.1).isEmpty)
    (ops[i]?.bind fun o=>ops[i1]?.bind fun dS=>ops[i2]?.bind fun e4=>ops[i3]?.bind fun e'=>LJ E ((bH*256+i)*32) s o dS e4 e' (fun o4=>vr o4 (jr.filter fun p=> !waits ops i p.1)) K) none
noncomputable def dup(a:Option bC):Option bC:=both a a
noncomputable def Eb:List (Option bC)→Option bC
 | []=>none
 | [x]=>x
 |x::l=>both x (Eb l)
noncomputable def vt(E:Env)(bH:Nat)(ops:Array Oper):Nat→Array Bool→List (Nat×List (Nat×Nat))→az→(az→Option bC)→Option bC
 |0,listed,_,s,K=>match Region.ready .any ops listed with
  | []=>K s
  |_=>none
 |n+1,listed,jr,s,K=>
  match Region.ready .any ops listed with
  | []=>K s
  |rs=>match rs.find? fun i=>LH E ops i&&Region.free .any ops listed i with
   |some i=>(match ops[i]? with
    |none=>none
    |some o=>vo E ((bH*256+i)*32) ops.toList o s fun au=>vt E bH ops n (listed.setIfInBounds i true) ((i,jq s o)::jr) au K)
   |none=>cond (Uj s ops rs&&Nat.ble 3 n) (LK E bH ops listed jr rs s K) (Eb (rs.map fun i=>match ops[i]? with
    |none=>none
    |some o=>cond (vq E o) none (vo E ((bH*256+i)*32) ops.toList o s fun au=>cond (vr au (jr.filter fun p=> !waits ops i p.1)) (vt E bH ops n (listed.setIfInBounds i true) (jr.filter fun p=> !waits ops i p.1) au K) none)))
noncomputable def LL(E:Env)(bH:Nat)(ops:Array Oper)(s:az)(K:az→Option bC):Option bC:=
 cond (Region.noSelect ops) (vt E bH ops ops.size (Array.replicate ops.size false) [] s K) none
structure Hand(bC:Type) where
 cut:Nat→List Item→az→Option bC
 fin:az→Option bC
noncomputable def kG(E:Env)(cuts:Nat→Bool)(H:Hand bC):Nat→Bool→List Item→az→Option bC
 |0,_,_,_=>none
 |n+1,first,todo,s=>
  match todo with
  | []=>H.fin s
  |.code .ret::_=>H.fin s
  |.code .skip::k|.inBlock _::k=>kG E cuts H n first k s
  |.code (.seq a b)::k=>kG E cuts H n first (.code a :: .code b::k) s
  |.code (.cond c x y)::k=>
   match bZ s c with
   |.aU (.bool b)=>cond b (kG E cuts H n first (.code x::k) s) (kG E cuts H n first (.code y::k) s)
   |_=>none
  |.code (.block id c)::k=>kG E cuts H n first (.code c :: .inBlock id::k) s
  |.code (.loop c)::k|.inLoop c::k=>kG E cuts H n first (.code c :: .inLoop c::k) s
  |.code (.exit id)::k=>
   match exitTo id k with
   |some k'=>kG E cuts H n first k' s
   |none=>none
  |.code (.region bH ops iF)::k=>
   cond (cuts bH && !first) (H.cut bH todo s)
    (cond iF (LL E bH ops s fun au=>kG E cuts H n false k au) (LG E bH ops.toList ops.toList 0 s fun au=>kG E cuts H n false k au))
  |_=>none
end
end Go.LM
namespace Go.LM
abbrev ah:=Nat→Nat→Prop
def ah.none:ah:=fun _ _=>False
def ah.or(F G:ah):ah:=fun b o=>F b o∨G b o
def ah.apart(F G:ah):Prop:=∀b o,F b o→G b o→False
def ah.sub(F G:ah):Prop:=∀b o,F b o→G b o
def ah.run(b lo n:Nat):ah:=fun b' o=>b'=b∧lo≤o∧o<lo+n
abbrev at_(b o:Nat):Addr:=⟨b,o,none⟩
theorem ti(w:World)(b o:Nat):w.cell? (at_ b o)=match w.heap[b]? with|some (.cells c _ _)=>c[o]? |_=>none:=by
 simp only[World.cell?,at_]
 cases w.heap[b]? with
 |none=>rfl
 |some x=>cases x<;>rfl
theorem cell_of_heap{w:World}{b:Nat}{c:Array Value}{e:TypeId}{f:Nat×Nat}(h:w.heap[b]?=some (.cells c e f))(o:Nat):
  w.cell? (at_ b o)=c[o]?:=by rw[ti,h]
theorem Az{w:World}{b o:Nat}{v:Value}(h:w.cell? (at_ b o)=some v):
  ∃c e f,w.heap[b]?=some (.cells c e f)∧c[o]?=some v:=by
 rw[ti]at h;split at h
 ·rename_i c e f hb;exact⟨c,e,f,hb,h⟩
 ·simp at h
theorem AA{w:World}{b o:Nat}{v:Value}(h:w.cell? (at_ b o)=some v):b<w.heap.size:=by
 obtain⟨c,e,f,hb,_⟩:=Az h;rcases Nat.lt_or_ge b w.heap.size with h|h
 ·exact h
 ·simp[Array.getElem?_eq_none h]at hb
structure Ext(w w':World)(F:ah):Prop where
 os:w'.os=w.os
 tape:w'.tape=w.tape
 output:w'.output=w.output
 size:w.heap.size≤w'.heap.size
 block:∀b,b<w.heap.size→w'.heap[b]?=w.heap[b]? ∨
  ∃c c' e f,w.heap[b]?=some (.cells c e f)∧w'.heap[b]?=some (.cells c' e f)∧c'.size=c.size∧∀o,¬F b o→c'[o]?=c[o]?
theorem Ext.refl(w:World)(F:ah):Ext w w F:=⟨rfl,rfl,rfl,Nat.le_refl _,fun _ _=>.inl rfl⟩
theorem Ext.mono{w w':World}{F G:ah}(h:Ext w w' F)(hs:∀b o,b<w.heap.size→F b o→G b o):Ext w w' G:=by
 refine⟨h.os,h.tape,h.output,h.size,fun b hb=>?_⟩;rcases h.block b hb with h|⟨c,c',e,f,h1,h2,h3,h4⟩
 ·exact .inl h
 ·exact .inr ⟨c,c',e,f,h1,h2,h3,fun o ho=>h4 o fun hf=>ho (hs b o hb hf)⟩
theorem Ext.trans{a b c:World}{F:ah}(h:Ext a b F)(k:Ext b c F):Ext a c F:=by
 refine⟨k.os.trans h.os,k.tape.trans h.tape,k.output.trans h.output,Nat.le_trans h.size k.size,fun i hi=>?_⟩;rcases h.block i hi with h1|⟨x,bA,e,f,h1,h2,h3,h4⟩
 ·rcases k.block i (Nat.lt_of_lt_of_le hi h.size)with k1|⟨y,mZ,gX,nX,k1,k2,k3,bn⟩
  ·exact .inl (k1.trans h1)
  ·exact .inr ⟨y,mZ,gX,nX,h1▸k1,k2,k3,bn⟩
 ·rcases k.block i (Nat.lt_of_lt_of_le hi h.size)with k1|⟨y,mZ,gX,nX,k1,k2,k3,bn⟩
  ·exact .inr ⟨x,bA,e,f,h1,k1.trans h2,h3,h4⟩
  ·rw[h2]at k1;simp only[Option.some.injEq,Obj.cells.injEq]at k1;obtain⟨rfl,rfl,rfl⟩:=k1;exact .inr ⟨x,mZ,e,f,h1,k2,k3.trans h3,fun o ho=>(bn o ho).trans (h4 o ho)⟩
theorem Ext.trans'{a b c:World}{F S:ah}(h:Ext a b F)(k:Ext b c S)(dg:∀i o,S i o→F i o∨a.heap.size≤i):Ext a c F:=by
 refine⟨k.os.trans h.os,k.tape.trans h.tape,k.output.trans h.output,Nat.le_trans h.size k.size,fun i hi=>?_⟩
 have hk:c.heap[i]?=b.heap[i]?∨∃x bA e f,b.heap[i]?=some (.cells x e f)∧c.heap[i]?=some (.cells bA e f)∧bA.size=x.size∧∀o,¬F i o→bA[o]?=x[o]?:=by
  rcases k.block i (Nat.lt_of_lt_of_le hi h.size)with k1|⟨y,mZ,gX,nX,k1,k2,k3,bn⟩
  ·exact .inl k1
  ·refine .inr ⟨y,mZ,gX,nX,k1,k2,k3,fun o ho=>bn o fun hs=>?_⟩;rcases dg i o hs with h|h
   ·exact ho h
   ·omega
 rcases h.block i hi with h1|⟨x,bA,e,f,h1,h2,h3,h4⟩
 ·rcases hk with k1|⟨y,mZ,gX,nX,k1,k2,k3,bn⟩
  ·exact .inl (k1.trans h1)
  ·exact .inr ⟨y,mZ,gX,nX,h1▸k1,k2,k3,bn⟩
 ·rcases hk with k1|⟨y,mZ,gX,nX,k1,k2,k3,bn⟩
  ·exact .inr ⟨x,bA,e,f,h1,k1.trans h2,h3,h4⟩
  ·rw[h2]at k1;simp only[Option.some.injEq,Obj.cells.injEq]at k1;obtain⟨rfl,rfl,rfl⟩:=k1;exact .inr ⟨x,mZ,e,f,h1,k2,k3.trans h3,fun o ho=>(bn o ho).trans (h4 o ho)⟩
theorem Ext.cell{w w':World}{F:ah}(h:Ext w w' F){b o:Nat}(hb:b<w.heap.size)(hf:¬F b o):w'.cell? (at_ b o)=w.cell? (at_ b o):=by
 rw[ti,ti];rcases h.block b hb with h|⟨c,c',e,f,h1,h2,_,h4⟩
 ·rw[h]
 ·rw[h1,h2];exact h4 o hf
theorem ri(w:World)(b o:Nat):w.frozen? (at_ b o)=match w.heap[b]? with|some (.cells _ _ (lo,hi))=>decide (lo≤o)&&decide (o<hi)|_=>false:=rfl
theorem Ext.frozen{w w':World}{F:ah}(h:Ext w w' F){b:Nat}(hb:b<w.heap.size)(o:Nat):w'.frozen? (at_ b o)=w.frozen? (at_ b o):=by
 rw[ri,ri];rcases h.block b hb with h|⟨c,c',e,f,h1,h2,_,_⟩
 ·rw[h]
 ·rw[h1,h2]
def fN(w:World)(b o:Nat):Prop:=(∃v,w.cell? (at_ b o)=some v)∧w.frozen? (at_ b o)=false
theorem Ext.afx{w w':World}{F:ah}(h:Ext w w' F){b o:Nat}(hc:∃v,w.cell? (at_ b o)=some v):∃v,w'.cell? (at_ b o)=some v:=by
 obtain⟨v,hv⟩:=hc;have hb:=AA hv;obtain⟨c,e,f,hh,hcv⟩:=Az hv;rcases h.block b hb with h|⟨x,bA,gX,nX,h1,h2,h3,_⟩
 ·exact⟨v,by rw[ti,h,hh];exact hcv⟩
 ·rw[hh]at h1;simp only[Option.some.injEq,Obj.cells.injEq]at h1;obtain⟨rfl,rfl,rfl⟩:=h1
  have ho:o<c.size:=by
   rcases Nat.lt_or_ge o c.size with h|h
   ·exact h
   ·rw[Array.getElem?_eq_none h]at hcv;simp at hcv
  exact⟨bA[o]'(by omega),by rw[ti,h2];simp[Array.getElem?_eq_getElem,h3,ho]⟩
theorem Ext.rh{w w':World}{F:ah}(h:Ext w w' F){b o:Nat}(hc:fN w b o):fN w' b o:=
 ⟨h.afx hc.1,by rw[h.frozen (AA hc.1.choose_spec) o];exact hc.2⟩
def gm(w:World)(size b o:Nat):Prop:=fN w b o∧(size=1∨∀k,w.frozen? (at_ b k)=false)
theorem Ext.ld{w w':World}{F:ah}(h:Ext w w' F){size b o:Nat}(hc:gm w size b o):gm w' size b o:=
 ⟨h.rh hc.1,hc.2.imp id fun hk k=>by rw[h.frozen (AA hc.1.1.choose_spec) k];exact hk k⟩
theorem Ext.drew(w:World)(n:Nat)(F:ah):Ext w { w with drawn:=n } F:=⟨rfl,rfl,rfl,Nat.le_refl _,fun _ _=>.inl rfl⟩
theorem Ext.push(w:World)(o:Obj)(F:ah):Ext w { w with heap:=w.heap.push o } F:=
 ⟨rfl,rfl,rfl,by simp,fun b hb=>.inl (by simp only;rw[Array.getElem?_push,if_neg (by omega)])⟩
theorem Uk(w:World)(o:Obj):({ w with heap:=w.heap.push o }:World).heap[w.heap.size]?=some o:=by simp
theorem Ul(w:World)(c:Array Value)(e:TypeId)(f:Nat×Nat)(o:Nat):
  ({ w with heap:=w.heap.push (.cells c e f) }:World).cell? (at_ w.heap.size o)=c[o]?:=cell_of_heap (Uk w _) o
theorem LN(w:World)(b o:Nat)(v:Value)(b':Nat):
  (w.setCell (at_ b o) v).heap[b']?=if b=b' then(w.heap[b']?).map (fun|.cells c e f=>.cells (c.setIfInBounds o v) e f|x=>x) else w.heap[b']?:=by
 simp only[World.setCell,Array.getElem?_modify,at_];split
 ·rename_i h;subst h
  cases w.heap[b]? with
  |none=>rfl
  |some x=>cases x<;>rfl
 ·rfl
theorem afy(w:World)(b o:Nat)(v:Value)(b' o':Nat)(h:∃u,w.cell? (at_ b o)=some u):
  (w.setCell (at_ b o) v).cell? (at_ b' o')=if b=b'∧o=o' then some v else w.cell? (at_ b' o'):=by
 obtain⟨u,hu⟩:=h;obtain⟨c,e,f,hb,hc⟩:=Az hu
 have ho:o<c.size:=by
  rcases Nat.lt_or_ge o c.size with h|h
  ·exact h
  ·rw[Array.getElem?_eq_none h]at hc;simp at hc
 rw[ti,LN,ti];by_cases o5:b=b'
 ·subst o5;rw[if_pos rfl,hb];simp only[Option.map_some,true_and];by_cases yi:o=o'
  ·subst yi;simp[Array.getElem?_setIfInBounds,ho]
  ·simp[Array.getElem?_setIfInBounds,yi]
 ·rw[if_neg o5];simp[o5]
theorem afz(w:World)(b o:Nat)(v:Value)(b' o':Nat):(w.setCell (at_ b o) v).frozen? (at_ b' o')=w.frozen? (at_ b' o'):=by
 rw[ri,LN,ri];by_cases o5:b=b'
 ·subst o5;rw[if_pos rfl]
  cases w.heap[b]? with
  |none=>rfl
  |some x=>cases x<;>rfl
 ·rw[if_neg o5]
theorem Ext.setCell{w:World}{b o:Nat}{F:ah}(v:Value)(hF:F b o):Ext w (w.setCell (at_ b o) v) F:=by
 refine⟨rfl,rfl,rfl,by simp[World.setCell],fun b' hb=>?_⟩;rw[LN];by_cases o5:b=b'
 ·subst o5;rw[if_pos rfl]
  cases hh:w.heap[b]? with
  |none=>exact .inl rfl
  |some x=>
   cases x with
   |cells c e f=>
    refine .inr ⟨c,_,e,f,rfl,rfl,by simp,fun o' ho=>?_⟩;have:o≠o':=fun e=>ho (e▸hF)
    simp[Array.getElem?_setIfInBounds,this]
   |_=>exact .inl rfl
 ·rw[if_neg o5];exact .inl rfl
def setCells(w:World)(b:Nat):Nat→List Value→World
 |_,[]=>w
 |o,v::vs=>setCells (w.setCell (at_ b o) v) b (o+1) vs
theorem oX{F:ah}(b:Nat)(vs:List Value):∀(w:World) (o:Nat),(∀i,i<vs.length→F b (o+i))→Ext w (setCells w b o vs) F:=by
 induction vs with
 |nil=>intro w o _;exact Ext.refl _ _
 |cons v vs ih=>intro w o h;have h1:=Ext.setCell (w:=w) v (h 0 (by simp));have h2:=ih (w.setCell (at_ b o) v) (o+1) (fun i hi=>by have:=h (i+1) (by simp;omega);rwa[show o+1+i=o +(i+1) by omega]);exact h1.trans (h2.mono fun _ _ _ h=>h)
theorem afA(b:Nat)(vs:List Value):∀(w:World) (o b' o':Nat),(setCells w b o vs).frozen? (at_ b' o')=w.frozen? (at_ b' o'):=by
 induction vs with
 |nil=>intros;rfl
 |cons v vs ih=>intro w o b' o';rw[setCells,ih,afz]
theorem yj(b:Nat)(vs:List Value):∀(w:World) (o:Nat),(∀i,i<vs.length→∃u,w.cell? (at_ b (o+i))=some u)→∀b' o',
  (setCells w b o vs).cell? (at_ b' o')=if b=b'∧o≤o'∧o'<o+vs.length then vs[o'-o]? else w.cell? (at_ b' o'):=by
 induction vs with
 |nil=>intro w o _ b' o';rw[setCells,if_neg];simp only[List.length_nil];omega
 |cons v vs ih=>
  intro w o h b' o';have h0:∃u,w.cell? (at_ b o)=some u:=by simpa using h 0 (by simp)
  have hx:=afy w b o v;rw[setCells,ih]
  ·by_cases hb:b=b'
   ·subst hb;by_cases h1:o+1≤o'∧o'<o+1+vs.length
    ·rw[if_pos ⟨rfl,h1⟩,if_pos ⟨rfl,by omega,by simp;omega⟩];obtain⟨k,hk⟩:∃k,o'-o=k+1:=⟨o'-o-1,by omega⟩
     rw[hk,List.getElem?_cons_succ,show o'-(o+1)=k by omega]
    ·rw[if_neg (by simpa using h1),hx b o' h0];by_cases h2:o=o'
     ·subst h2;rw[if_pos ⟨rfl,rfl⟩,if_pos ⟨rfl,Nat.le_refl _,by simp⟩];simp
     ·rw[if_neg (by simp[h2]),if_neg];simp only[List.length_cons];omega
   ·rw[if_neg (by simp[hb]),if_neg (by simp[hb]),hx b' o' h0,if_neg (by simp[hb])]
  ·intro i hi;rw[hx b _ h0];split
   ·exact⟨v,rfl⟩
   ·have:=h (i+1) (by simp;omega);rwa[show o+1+i=o +(i+1) by omega]
def cf(w:World)(b o:Nat)(vs:List Value):Prop:=∀i v,vs[i]?=some v→w.cell? (at_ b (o+i))=some v
theorem cf.nil(w:World)(b o:Nat):cf w b o []:=by intro i v h;simp at h
theorem cf.cons{w:World}{b o:Nat}{v:Value}{vs:List Value}(h:w.cell? (at_ b o)=some v)(hs:cf w b (o+1) vs):cf w b o (v::vs):=by
 intro i u hu
 cases i with
 |zero=>simp at hu;subst hu;simpa using h
 |succ i=>rw[List.getElem?_cons_succ]at hu;have:=hs i u hu;rwa[show o+1+i=o +(i+1) by omega]at this
theorem cf.head{w:World}{b o:Nat}{v:Value}{vs:List Value}(h:cf w b o (v::vs)):w.cell? (at_ b o)=some v:=by simpa using h 0 v rfl
theorem cf.tail{w:World}{b o:Nat}{v:Value}{vs:List Value}(h:cf w b o (v::vs)):cf w b (o+1) vs:=by intro i u hu;have:=h (i+1) u (by simpa using hu);rwa[show o +(i+1)=o+1+i by omega]at this
theorem cf.append{w:World}{b o:Nat}{us vs:List Value}(h:cf w b o us)(k:cf w b (o+us.length) vs):cf w b o (us++vs):=by
 intro i v hv;rcases Nat.lt_or_ge i us.length with hi|hi
 ·rw[List.getElem?_append_left hi]at hv;exact h i v hv
 ·rw[List.getElem?_append_right hi]at hv;have:=k _ v hv;rwa[show o+us.length +(i-us.length)=o+i by omega]at this
theorem cf.left{w:World}{b o:Nat}{us vs:List Value}(h:cf w b o (us++vs)):cf w b o us:=by
 intro i v hv
 have hi:i<us.length:=by
  rcases Nat.lt_or_ge i us.length with h|h
  ·exact h
  ·rw[List.getElem?_eq_none h]at hv;simp at hv
 exact h i v (by rw[List.getElem?_append_left hi];exact hv)
theorem cf.right{w:World}{b o:Nat}{us vs:List Value}(h:cf w b o (us++vs)):cf w b (o+us.length) vs:=by intro i v hv;have:=h (us.length+i) v (by rw[List.getElem?_append_right (by omega),Nat.add_sub_cancel_left];exact hv);rwa[show o +(us.length+i)=o+us.length+i by omega]at this
theorem cf.part{w:World}{b o:Nat}{vs:List Value}(h:cf w b o vs)(k n:Nat):cf w b (o+k) ((vs.drop k).take n):=by
 intro i v hv;rw[List.getElem?_take]at hv;split at hv
 ·rw[List.getElem?_drop]at hv;have:=h _ v hv;rwa[show o +(k+i)=o+k+i by omega]at this
 ·simp at hv
theorem cf.of_eq{w w':World}{b o:Nat}{vs:List Value}(h:cf w b o vs)(he:∀i,i<vs.length→w'.cell? (at_ b (o+i))=w.cell? (at_ b (o+i))):cf w' b o vs:=by
 intro i v hv
 have hi:i<vs.length:=by
  rcases Nat.lt_or_ge i vs.length with h|h
  ·exact h
  ·rw[List.getElem?_eq_none h]at hv;simp at hv
 rw[he i hi];exact h i v hv
theorem rn(b o n:Nat):(at_ b o).add n=at_ b (o+n):=by
 unfold Addr.add;split
 ·rename_i h;subst h;rfl
 ·rfl
section
variable{P:Program}
theorem run_pure{α:Type}(x:α)(w:World):(pure x:Sem α).run P w=.ok x w:=rfl
theorem run_bind{α β:Type}(s:Sem α)(f:α→Sem β)(w:World):(s >>= f).run P w=match s.run P w with|.ok x w'=>(f x).run P w'|.halt h w'=>.halt h w':=by
 show(Sem.bind s f).run P w=_
 induction s generalizing w with
 |pure a=>rfl
 |load m a k ih=>
  simp only[Sem.bind,Sem.run]
  cases w.cell? a with
  |some v=>exact ih v w
  |none=>
   cases w.farLoad P a (m==.atomic)with
   |error h=>rfl
   |ok r=>exact ih r.1 w
 |store m a v k ih=>
  cases v with
  |agg _=>rfl
  |tuple _=>rfl
  |_=>
   simp only[Sem.bind,Sem.run]
   cases w.cell? a with
   |some u=>
    dsimp only;split
    ·rfl
    ·exact ih _
   |none=>
    dsimp only;split
    ·exact ih _
    ·rfl
 |new o k ih=>exact ih _ _
 |shape r k ih=>exact ih _ _
 |freeze a n k ih=>exact ih _
 |frozen a k ih=>exact ih _ _
 |getObj r k ih=>
  simp only[Sem.bind,Sem.run]
  cases w.heap[r]? with
  |none=>rfl
  |some o=>cases o<;>first|rfl|exact ih _ _
 |setObj r o k ih=>
  simp only[Sem.bind,Sem.run]
  cases w.heap[r]? with
  |none=>rfl
  |some o=>cases o<;>first|rfl|exact ih _
 |choose q k ih=>simp only[Sem.bind,Sem.run];split<;>exact ih _ _
 |sys c k ih=>exact ih _ _
 |program k ih=>exact ih _ _
 |mark m k ih=>exact ih _
 |halt h=>rfl
def eC:Value→Bool
 |.agg _|.tuple _=>false
 |_=>true
theorem run_load{w:World}{b o:Nat}{v:Value}(h:w.cell? (at_ b o)=some v):(load (at_ b o)).run P w=.ok v w:=by simp[load,Sem.run,h]
theorem run_loadCellsFrom{w:World}(b o:Nat)(vs:List Value):∀(k:Nat) (acc:Array Value),cf w b (o+k) vs →
  (loadCellsFrom (at_ b o) k vs.length acc).run P w=.ok (acc++vs.toArray) w:=by
 induction vs with
 |nil=>intro k acc _;simp[loadCellsFrom,run_pure]
 |cons v vs ih=>intro k acc h;simp only[List.length_cons,loadCellsFrom];rw[run_bind,rn,run_load h.head];simp only;rw[ih (k+1) (acc.push v) (by rw[←Nat.add_assoc];exact h.tail)];congr 1;apply Array.ext';simp
theorem run_loadCells{w:World}{b o:Nat}{vs:List Value}(h:cf w b o vs):(loadCells (at_ b o) vs.length).run P w=.ok vs.toArray w:=by unfold loadCells;rw[run_loadCellsFrom b o vs 0 #[] (by simpa using h)];simp
theorem run_store{w:World}{b o:Nat}{v:Value}(hv:eC v=true)(h:fN w b o):(store (at_ b o) v).run P w=.ok () (w.setCell (at_ b o) v):=by obtain⟨⟨u,hu⟩,hf⟩:=h;cases v<;>simp_all[store,Sem.run,eC]
theorem D0{b o:Nat}(vs:List Value):∀(w:World) (k:Nat),(∀v∈vs,eC v=true)→(∀i,i<vs.length→fN w b (o+k+i)) →
  (storeCells (at_ b o) vs k).run P w=.ok () (setCells w b (o+k) vs):=by
 induction vs with
 |nil=>intros;rfl
 |cons v vs ih=>
  intro w k h1 h2;unfold storeCells;have h0:fN w b (o+k):=h2 0 (by simp);rw[run_bind,rn,run_store (h1 v (by simp)) h0];simp only;rw[ih _ (k+1) (fun v hv=>h1 v (by simp[hv]))]
  ·rfl
  ·intro i hi;have:=h2 (i+1) (by simp;omega);refine Ext.rh (Ext.setCell (F:=fun _ _=>True) v trivial) ?_;rwa[show o +(k+1)+i=o+k +(i+1) by omega]
end
end Go.LM
namespace Go.LM
def Row{α:Type}(w:World)(R:α→List Value→ah→Prop)(size:Nat):List α→Nat→Nat→ah→Prop
 | [],_,_,_=>True
 |x::xs,b,o,F=>∃vs G H,R x vs G∧vs.length=size∧cf w b o vs∧Row w R size xs b (o+size) H∧ah.apart G H∧ah.sub G F∧ah.sub H F
structure nT{α:Type}(w:World)(R:α→List Value→ah→Prop)(size:Nat)(x:List α)(a:Addr)(c:Nat)(F:ah):Prop where
 spot:a.spot=none
 cap:x.length≤c
 wr:∀j,j<c*size→gm w size a.block (a.off+j)
 inF:∀j,j<c*size→F a.block (a.off+j)
 row:∃G,Row w R size x a.block a.off G∧(∀j,j<c*size→¬G a.block (a.off+j))∧ah.sub G F
mutual
def ad.ar(w:World)(Z:ah):(t:ad)→bg→t.D→List Value→ah→Prop
 |.int k,_,x,vs,_=>vs=[.int k x]
 |.bool,_,x,vs,_=>vs=[.bool x]
 |.str,_,x,vs,_=>∃s:ByteArray,vs=[.string s]∧s.data.toList=x
 |.raw,_,x,vs,_=>vs=[x]∧∃A n c,x=.slice A n c
 |.sl t,.O e,x,vs,F=>∃A c,vs=[.slice A x.length c]∧((x=[]∧c=0)∨∃a,A=some a∧nT w (t.ar w Z e) t.size x a c F)
 |.sl t,_,x,vs,_=>∃A c,vs=[.slice A x.length c]∧(x=[]∨∃a,A=some a∧a.spot=none∧Row w (fun y us _=>t.ar w Z .R y us ah.none) t.size x a.block a.off ah.none∧(∀j,j<x.length*t.size→Z a.block (a.off+j))∧x.length≤c)
 |.st ak,m,x,vs,F=>ak.ar w Z m.parts x vs F
def aA.ar(w:World)(Z:ah):(ak:aA)→c5→ak.D→List Value→ah→Prop
 |.nil,_,_,vs,_=>vs=[]
 |.cons t ak,m,x,vs,F=>∃us bK G H,vs=us++bK∧t.ar w Z m.af x.1 us G∧ak.ar w Z m.dK x.2 bK H∧ah.apart G H∧ah.sub G F∧ah.sub H F
end
def ch(w w':World)(S:ah):Prop:=∀b o,S b o→w'.cell? (at_ b o)=w.cell? (at_ b o)∧∀k,w'.frozen? (at_ b k)=w.frozen? (at_ b k)
theorem ch.mono{w w':World}{S T:ah}(h:ch w w' S)(hs:ah.sub T S):ch w w' T:=fun b o ho=>h b o (hs b o ho)
theorem ch.rh{w w':World}{S:ah}(h:ch w w' S){b o:Nat}(hs:S b o)(hw:fN w b o):fN w' b o:=by obtain⟨⟨v,hv⟩,hf⟩:=hw;exact⟨⟨v,by rw[(h b o hs).1];exact hv⟩,by rw[(h b o hs).2 o];exact hf⟩
theorem ch.ld{w w':World}{S:ah}(h:ch w w' S){size b o:Nat}(hs:S b o)(hw:gm w size b o):gm w' size b o:=
 ⟨h.rh hs hw.1,hw.2.imp id fun hk k=>by rw[(h b o hs).2 k];exact hk k⟩
theorem ch.Ec{w w':World}{S:ah}(h:ch w w' S){b o:Nat}{vs:List Value}(hs:∀i,i<vs.length→S b (o+i))(hc:cf w b o vs):cf w' b o vs:=
 hc.of_eq fun i hi=>(h b _ (hs i hi)).1
theorem ch.refl(w:World)(S:ah):ch w w S:=fun _ _ _=>⟨rfl,fun _=>rfl⟩
theorem ch.trans{a b c:World}{S:ah}(h:ch a b S)(k:ch b c S):ch a c S:=fun i o hs=>⟨(k i o hs).1.trans (h i o hs).1,fun j=>((k i o hs).2 j).trans ((h i o hs).2 j)⟩
theorem Row.mono{α:Type}{w:World}{R:α→List Value→ah→Prop}{size:Nat}{F F':ah}(hF:ah.sub F F'):∀{x:List α}{b o:Nat},Row w R size x b o F→Row w R size x b o F'
 | [],_,_,_=>trivial
 |_::_,_,_,⟨vs,G,H,h1,h2,h3,h4,a6,bj,bL⟩=>⟨vs,G,H,h1,h2,h3,h4,a6,fun b o h=>hF b o (bj b o h),fun b o h=>hF b o (bL b o h)⟩
theorem Row.imp{α:Type}{w w':World}{R js:α→List Value→ah→Prop}{size:Nat}:∀{x:List α}{b o:Nat}{F:ah},Row w R size x b o F →
  (∀y vs G,ah.sub G F→R y vs G→js y vs G)→(∀j,j<x.length*size→w'.cell? (at_ b (o+j))=w.cell? (at_ b (o+j)))→Row w' js size x b o F
 | [],_,_,_,_,_,_=>trivial
 |y::x,b,o,F,⟨vs,G,H,h1,h2,h3,h4,a6,bj,bL⟩,fa,hc=>by
  refine⟨vs,G,H,fa _ _ _ bj h1,h2,h3.of_eq fun i hi=>hc i ?_,?_,a6,bj,bL⟩
  ·rw[List.length_cons,Nat.add_one_mul];omega
  ·refine Row.imp h4 (fun y vs dB hG=>fa y vs dB fun b o h=>bL b o (hG b o h)) fun j hj=>?_
   have:=hc (size+j) (by rw[List.length_cons,Nat.add_one_mul];omega);rwa[←Nat.add_assoc]at this
theorem Row.bare{α:Type}{w:World}{R js:α→List Value→ah→Prop}{size:Nat}:∀{x:List α}{b o:Nat}{F:ah},Row w R size x b o F →
  (∀y vs G,ah.sub G F→R y vs G→js y vs ah.none)→Row w js size x b o ah.none
 | [],_,_,_,_,_=>trivial
 |y::x,b,o,F,⟨vs,G,H,h1,h2,h3,h4,a6,bj,bL⟩,fa=>⟨vs,ah.none,ah.none,fa _ _ _ bj h1,h2,h3,Row.bare h4 fun y vs dB hG=>fa y vs dB fun b o h=>bL b o (hG b o h),fun _ _ h=>h.elim,fun _ _ h=>h,fun _ _ h=>h⟩
mutual
theorem ad.ar.mono{w:World}{Z Z':ah}(hZ:ah.sub Z Z'):∀(t:ad) (m:bg) {x:t.D}{vs:List Value}{F F':ah},ah.sub F F'→t.ar w Z m x vs F→t.ar w Z' m x vs F'
 |.int _,_,_,_,_,_,_,h=>by simpa only[ad.ar]using h
 |.bool,_,_,_,_,_,_,h=>by simpa only[ad.ar]using h
 |.str,_,_,_,_,_,_,h=>by simpa only[ad.ar]using h
 |.raw,_,_,_,_,_,_,h=>by simpa only[ad.ar]using h
 |.sl t,.O e,x,vs,F,F',hF,h=>by
  simp only[ad.ar]at h⊢;obtain⟨A,c,h1,h2⟩:=h;refine⟨A,c,h1,h2.imp id ?_⟩
  rintro⟨a,h3,h4⟩
  obtain⟨G,g1,g2,g3⟩:=h4.row;exact⟨a,h3,h4.spot,h4.cap,h4.wr,fun j hj=>hF _ _ (h4.inF j hj),G,g1.imp (fun y vs dB _=>ad.ar.mono hZ t e fun _ _ h=>h) (fun _ _=>rfl),g2,fun b o h=>hF b o (g3 b o h)⟩
 |.sl t,.R,x,vs,F,F',hF,h=>by
  simp only[ad.ar]at h⊢;obtain⟨A,c,h1,h2⟩:=h;refine⟨A,c,h1,h2.imp id ?_⟩
  rintro⟨a,h3,h4,a6,bj⟩
  exact⟨a,h3,h4,a6.imp (fun y vs dB _=>ad.ar.mono hZ t .R fun _ _ h=>h) (fun _ _=>rfl),fun j hj=>hZ _ _ (bj.1 j hj),bj.2⟩
 |.sl t,.S _,x,vs,F,F',hF,h=>by
  simp only[ad.ar]at h⊢;obtain⟨A,c,h1,h2⟩:=h;refine⟨A,c,h1,h2.imp id ?_⟩
  rintro⟨a,h3,h4,a6,bj⟩
  exact⟨a,h3,h4,a6.imp (fun y vs dB _=>ad.ar.mono hZ t .R fun _ _ h=>h) (fun _ _=>rfl),fun j hj=>hZ _ _ (bj.1 j hj),bj.2⟩
 |.st ak,m,x,vs,F,F',hF,h=>by simp only[ad.ar]at h⊢;exact aA.ar.mono hZ ak m.parts hF h
theorem aA.ar.mono{w:World}{Z Z':ah}(hZ:ah.sub Z Z'):∀(ak:aA) (m:c5) {x:ak.D}{vs:List Value}{F F':ah},ah.sub F F'→ak.ar w Z m x vs F→ak.ar w Z' m x vs F'
 |.nil,_,_,_,_,_,_,h=>by simpa only[aA.ar]using h
 |.cons t ak,m,x,vs,F,F',hF,h=>by simp only[aA.ar]at h⊢;obtain⟨us,bK,G,H,h1,h2,h3,h4,a6,bj⟩:=h;exact⟨us,bK,G,H,h1,ad.ar.mono hZ t m.af (fun _ _ h=>h) h2,aA.ar.mono hZ ak m.dK (fun _ _ h=>h) h3,h4,fun b o h=>hF b o (a6 b o h),fun b o h=>hF b o (bj b o h)⟩
end
mutual
theorem ad.ar.same{w w':World}{Z:ah}(hZ:ch w w' Z):∀(t:ad) (m:bg) {x:t.D}{vs:List Value}{F:ah},ch w w' F→t.ar w Z m x vs F→t.ar w' Z m x vs F
 |.int _,_,_,_,_,_,h=>by simpa only[ad.ar]using h
 |.bool,_,_,_,_,_,h=>by simpa only[ad.ar]using h
 |.str,_,_,_,_,_,h=>by simpa only[ad.ar]using h
 |.raw,_,_,_,_,_,h=>by simpa only[ad.ar]using h
 |.sl t,.O e,x,vs,F,hF,h=>by
  simp only[ad.ar]at h⊢;obtain⟨A,c,h1,h2⟩:=h;refine⟨A,c,h1,h2.imp id ?_⟩
  rintro⟨a,h3,h4⟩
  obtain⟨G,g1,g2,g3⟩:=h4.row;have hle:x.length*t.size≤c*t.size:=Nat.mul_le_mul_right _ h4.cap;exact⟨a,h3,h4.spot,h4.cap,fun j hj=>hF.ld (h4.inF j hj) (h4.wr j hj),h4.inF,G,g1.imp (fun y vs dB hG=>ad.ar.same hZ t e (hF.mono fun b o h=>g3 b o (hG b o h))) (fun j hj=>(hF _ _ (h4.inF j (by omega))).1),g2,g3⟩
 |.sl t,.R,x,vs,F,hF,h=>by
  simp only[ad.ar]at h⊢;obtain⟨A,c,h1,h2⟩:=h;refine⟨A,c,h1,h2.imp id ?_⟩
  rintro⟨a,h3,h4,a6,bj⟩
  exact⟨a,h3,h4,a6.imp (fun y vs dB _=>ad.ar.same hZ t .R (fun _ _ h=>h.elim)) (fun j hj=>(hZ _ _ (bj.1 j hj)).1),bj⟩
 |.sl t,.S _,x,vs,F,hF,h=>by
  simp only[ad.ar]at h⊢;obtain⟨A,c,h1,h2⟩:=h;refine⟨A,c,h1,h2.imp id ?_⟩
  rintro⟨a,h3,h4,a6,bj⟩
  exact⟨a,h3,h4,a6.imp (fun y vs dB _=>ad.ar.same hZ t .R (fun _ _ h=>h.elim)) (fun j hj=>(hZ _ _ (bj.1 j hj)).1),bj⟩
 |.st ak,m,x,vs,F,hF,h=>by simp only[ad.ar]at h⊢;exact aA.ar.same hZ ak m.parts hF h
theorem aA.ar.same{w w':World}{Z:ah}(hZ:ch w w' Z):∀(ak:aA) (m:c5) {x:ak.D}{vs:List Value}{F:ah},ch w w' F→ak.ar w Z m x vs F→ak.ar w' Z m x vs F
 |.nil,_,_,_,_,_,h=>by simpa only[aA.ar]using h
 |.cons t ak,m,x,vs,F,hF,h=>by simp only[aA.ar]at h⊢;obtain⟨us,bK,G,H,h1,h2,h3,h4,a6,bj⟩:=h;exact⟨us,bK,G,H,h1,ad.ar.same hZ t m.af (hF.mono a6) h2,aA.ar.same hZ ak m.dK (hF.mono bj) h3,h4,a6,bj⟩
end
mutual
theorem ad.ar.len{w:World}{Z:ah}:∀(t:ad) (m:bg) {x:t.D}{vs:List Value}{F:ah},t.ar w Z m x vs F→vs.length=t.size∧∀v∈vs,eC v=true
 |.int _,_,_,_,_,h=>by simp only[ad.ar]at h;subst h;simp[ad.size,eC]
 |.bool,_,_,_,_,h=>by simp only[ad.ar]at h;subst h;simp[ad.size,eC]
 |.str,_,_,_,_,h=>by simp only[ad.ar]at h;obtain⟨s,rfl,_⟩:=h;simp[ad.size,eC]
 |.raw,_,_,_,_,h=>by simp only[ad.ar]at h;obtain⟨rfl,A,n,c,rfl⟩:=h;simp[ad.size,eC]
 |.sl t,.O e,x,vs,F,h=>by simp only[ad.ar]at h;obtain⟨A,c,rfl,_⟩:=h;simp[ad.size,eC]
 |.sl t,.R,x,vs,F,h=>by simp only[ad.ar]at h;obtain⟨A,c,rfl,_⟩:=h;simp[ad.size,eC]
 |.sl t,.S _,x,vs,F,h=>by simp only[ad.ar]at h;obtain⟨A,c,rfl,_⟩:=h;simp[ad.size,eC]
 |.st ak,m,x,vs,F,h=>by simp only[ad.ar]at h;simpa only[ad.size]using aA.ar.len ak m.parts h
theorem aA.ar.len{w:World}{Z:ah}:∀(ak:aA) (m:c5) {x:ak.D}{vs:List Value}{F:ah},ak.ar w Z m x vs F→vs.length=ak.size∧∀v∈vs,eC v=true
 |.nil,_,_,_,_,h=>by simp only[aA.ar]at h;subst h;simp[aA.size]
 |.cons t ak,m,x,vs,F,h=>by
  simp only[aA.ar]at h;obtain⟨us,bK,G,H,rfl,h2,h3,_⟩:=h;have a:=ad.ar.len t m.af h2;have b:=aA.ar.len ak m.dK h3;refine⟨by simp[aA.size,a.1,b.1],fun v hv=>?_⟩;rcases List.mem_append.1 hv with h|h
  ·exact a.2 v h
  ·exact b.2 v h
end
mutual
theorem ad.ar.read{w:World}{Z Z':ah}(hZ:ah.sub Z Z'):∀(t:ad) (m:bg) {x:t.D}{vs:List Value}{F:ah},ah.sub F Z'→t.ar w Z m x vs F→t.ar w Z' .R x vs ah.none
 |.int _,_,_,_,_,_,h=>by simpa only[ad.ar]using h
 |.bool,_,_,_,_,_,h=>by simpa only[ad.ar]using h
 |.str,_,_,_,_,_,h=>by simpa only[ad.ar]using h
 |.raw,_,_,_,_,_,h=>by simpa only[ad.ar]using h
 |.sl t,.O e,x,vs,F,hF,h=>by
  simp only[ad.ar]at h⊢;obtain⟨A,c,h1,h2⟩:=h;refine⟨A,c,h1,?_⟩;rcases h2 with⟨h,_⟩|⟨a,h3,h4⟩
  ·exact .inl h
  ·obtain⟨G,g1,g2,g3⟩:=h4.row;have hle:x.length*t.size≤c*t.size:=Nat.mul_le_mul_right _ h4.cap;exact .inr ⟨a,h3,h4.spot,g1.bare fun y vs dB hG=>ad.ar.read hZ t e (fun b o h=>hF b o (g3 b o (hG b o h))),fun j hj=>hF _ _ (h4.inF j (by omega)),h4.cap⟩
 |.sl t,.R,x,vs,F,hF,h=>ad.ar.mono hZ (.sl t) .R (F:=ah.none) (fun _ _ h=>h) (by simpa only[ad.ar]using h)
 |.sl t,.S _,x,vs,F,hF,h=>ad.ar.mono hZ (.sl t) .R (F:=ah.none) (fun _ _ h=>h) (by simpa only[ad.ar]using h)
 |.st ak,m,x,vs,F,hF,h=>by simp only[ad.ar]at h⊢;exact aA.ar.read hZ ak m.parts hF h
theorem aA.ar.read{w:World}{Z Z':ah}(hZ:ah.sub Z Z'):∀(ak:aA) (m:c5) {x:ak.D}{vs:List Value}{F:ah},ah.sub F Z'→ak.ar w Z m x vs F→ak.ar w Z' (bg.parts .R) x vs ah.none
 |.nil,_,_,_,_,_,h=>by simpa only[aA.ar]using h
 |.cons t ak,m,x,vs,F,hF,h=>by simp only[aA.ar]at h⊢;obtain⟨us,bK,G,H,h1,h2,h3,h4,a6,bj⟩:=h;exact⟨us,bK,ah.none,ah.none,h1,ad.ar.read hZ t m.af (fun b o h=>hF b o (a6 b o h)) h2,aA.ar.read hZ ak m.dK (fun b o h=>hF b o (bj b o h)) h3,fun _ _ h=>h.elim,fun _ _ h=>h,fun _ _ h=>h⟩
end
mutual
theorem tj{w:World}{Z:ah}:∀{t:ad}{x:t.D}{vs:List Value}{F:ah},t.ar w Z .R x vs F→t.ar w Z .R x vs ah.none
 |.int _,_,_,_,h=>by simpa only[ad.ar]using h
 |.bool,_,_,_,h=>by simpa only[ad.ar]using h
 |.str,_,_,_,h=>by simpa only[ad.ar]using h
 |.raw,_,_,_,h=>by simpa only[ad.ar]using h
 |.sl t,_,_,_,h=>by simpa only[ad.ar]using h
 |.st ak,_,_,_,h=>by simp only[ad.ar]at h⊢;exact Um h
theorem Um{w:World}{Z:ah}:∀{ak:aA}{x:ak.D}{vs:List Value}{F:ah},ak.ar w Z (bg.parts .R) x vs F→ak.ar w Z (bg.parts .R) x vs ah.none
 |.nil,_,_,_,h=>by simpa only[aA.ar]using h
 |.cons t ak,_,_,_,h=>by simp only[aA.ar]at h⊢;obtain⟨us,bK,G,H,h1,h2,h3,h4,a6,bj⟩:=h;exact⟨us,bK,ah.none,ah.none,h1,tj h2,Um h3,fun _ _ h=>h.elim,fun _ _ h=>h,fun _ _ h=>h⟩
end
mutual
theorem tc{w:World}{Z Z':ah}:∀(t:ad) {m m':bg}{x:t.D}{vs:List Value}{F F':ah},t.flat=true→t.ar w Z m x vs F→t.ar w Z' m' x vs F'
 |.int _,_,_,_,_,_,_,_,h=>by simpa only[ad.ar]using h
 |.bool,_,_,_,_,_,_,_,h=>by simpa only[ad.ar]using h
 |.str,_,_,_,_,_,_,_,h=>by simpa only[ad.ar]using h
 |.raw,_,_,_,_,_,_,_,h=>by simpa only[ad.ar]using h
 |.sl t,_,_,_,_,_,_,hf,h=>by simp[ad.flat]at hf
 |.st ak,_,_,_,_,_,_,hf,h=>by simp only[ad.flat]at hf;simp only[ad.ar]at h⊢;exact Un ak hf h
theorem Un{w:World}{Z Z':ah}:∀(ak:aA) {m m':c5}{x:ak.D}{vs:List Value}{F F':ah},ak.flat=true→ak.ar w Z m x vs F→ak.ar w Z' m' x vs F'
 |.nil,_,_,_,_,_,_,_,h=>by simpa only[aA.ar]using h
 |.cons t ak,_,_,_,_,_,_,hf,h=>by
  simp only[aA.flat]at hf;simp only[aA.ar]at h⊢;obtain⟨us,bK,G,H,h1,h2,h3,h4,a6,bj⟩:=h;cases hb:t.flat
  ·rw[hb]at hf;simp at hf
  ·rw[hb]at hf;exact⟨us,bK,ah.none,ah.none,h1,tc t hb h2,Un ak hf h3,fun _ _ h=>h.elim,fun _ _ h=>h.elim,fun _ _ h=>h.elim⟩
end
mutual
theorem vu{w:World}{Z Z':ah}:∀(t:ad) {x:t.D}{vs:List Value}{F:ah},t.ar w Z t.own x vs F→t.ar w Z' t.own x vs F
 |.int _,_,_,_,h=>by simpa only[ad.ar]using h
 |.bool,_,_,_,h=>by simpa only[ad.ar]using h
 |.str,_,_,_,h=>by simpa only[ad.ar]using h
 |.raw,_,_,_,h=>by simpa only[ad.ar]using h
 |.sl t,_,_,_,h=>by
  simp only[ad.own,ad.ar]at h⊢;obtain⟨A,c,h1,h2⟩:=h;refine⟨A,c,h1,h2.imp (fun h=>h) ?_⟩
  rintro⟨a,h3,h4⟩
  obtain⟨G,g1,g2,g3⟩:=h4.row;exact⟨a,h3,h4.spot,h4.cap,h4.wr,h4.inF,G,g1.imp (fun y vs dB _=>vu t) (fun _ _=>rfl),g2,g3⟩
 |.st ak,_,_,_,h=>by
  simp only[ad.own]at h⊢;cases hb:ak.flat
  ·rw[hb]at h;simp only[ad.ar,bg.parts,Bool.false_eq_true,if_false]at h⊢;exact Ed ak h
  ·rw[hb]at h;exact tc (.st ak) (by simp only[ad.flat];exact hb) h
theorem Ed{w:World}{Z Z':ah}:∀(ak:aA) {x:ak.D}{vs:List Value}{F:ah},ak.ar w Z ak.own x vs F→ak.ar w Z' ak.own x vs F
 |.nil,_,_,_,h=>by simpa only[aA.ar]using h
 |.cons t ak,_,_,_,h=>by simp only[aA.own,aA.ar,c5.af,c5.dK]at h⊢;obtain⟨us,bK,G,H,h1,h2,h3,h4,a6,bj⟩:=h;exact⟨us,bK,G,H,h1,vu t h2,Ed ak h3,h4,a6,bj⟩
end
end Go.LM
namespace Go.LM
structure bI where
 base:Option Addr
 cap:Nat
 F:ah
def dz(ι:Nat→bI)(dp:List (Nat×Nat)):ah:=fun b o=>∃d,d∈dp∧(ι d.1).F b o
def known(s:az)(id:Nat):Prop:=s.o id≠.none
def eO(s:az)(d:Nat×Nat):Prop:=known s d.1∧(s.o d.1=.dead∨d.2≤lf s d.1)
def cD.live:cD→Prop
 |.row .. |.var .. => True
 |_=>False
structure LO(i:bI)(size:Nat)(sub:Option (Nat×Nat))(len:Nat)(A:Option Addr)(n c:Nat):Prop where
 Uo:n=match sub with|none=>len|some (_,m)=>m
 fits:eH sub+n≤len
 le:n≤c
 cap:eH sub+c≤i.cap
 at_:c=0∨∃a,i.base=some a∧A=some (at_ a.block (a.off+eH sub*size))
theorem mg{o:cD}{t:ad}{em:bg}{ver:Nat}{xs:List t.D}(h:o=.row t em ver xs):o.core=.row t em ver xs:=by rw[h];rfl
def j2(s:az)(ι:Nat→bI)(p:Place)(a:Addr):Prop:=
 a.spot=none∧match (s.o p.id).core with
  |.var _ cs=>p.fO=none∧∃a0,(ι p.id).base=some a0∧a=at_ a0.block (a0.off+p.off)
  |.row t _ _ xs=>∃i,p.fO=some i∧i<xs.length∧∃a0,(ι p.id).base=some a0∧a=at_ a0.block (a0.off+i*t.size+p.off)
  |_=>True
def tk(w:World)(s:az)(ι:Nat→bI)(dp:List (Nat×Nat))(cJ:Option Place)(v:Value):Prop:=
 ∀p,cJ=some p→(∃d,d∈dp∧d.1=p.id)∧(alive s dp=true→∃b o,j2 s ι p (at_ b o)∧w.cell? (at_ b o)=some v∧(ι p.id).F b o)
theorem tk.none{w:World}{s:az}{ι:Nat→bI}{dp:List (Nat×Nat)}{v:Value}:tk w s ι dp none v:=fun p h=>by cases h
def cz(w:World)(Z:ah)(s:az)(ι:Nat→bI):ba→Value→Prop
 |.int k x,v=>v=.int k x
 |.bool x,v=>v=.bool x
 |.str x,v=>∃b:ByteArray,v=.string b∧b.data.toList=x
 |.raw x,v=>v=x∧∃A n c,x=.slice A n c
 |.nil _,v=>v=.slice none 0 0
 |.bG t dp cJ xs,v=>(∀d,d∈dp→eO s d)∧(∃A n c,v=.slice A n c) ∧
   (alive s dp=true→(ad.sl t).ar w (Z.or (dz ι dp)) .R xs [v] ah.none)∧tk w s ι dp cJ v
 |.af id sub,v=>known s id∧∃A n c,v=.slice A n c∧∀t em ver xs,(s.o id).core=.row t em ver xs→LO (ι id) t.size sub xs.length A n c
def bO(w:World)(Z:ah)(s:az)(ι:Nat→bI):List ba→List Value→Prop
 | [],[]=>True
 |c::cs,v::vs=>cz w Z s ι c v∧bO w Z s ι cs vs
 |_,_=>False
mutual
def aV(w:World)(Z:ah)(s:az)(ι:Nat→bI):a_→Value→Prop
 |.bB,_=>True
 |.gone,v=>v=undef
 |.aU c,v=>cz w Z s ι c v
 |.iV cs,v=>∃vs,v=.agg vs.toArray∧bO w Z s ι cs vs
 |.ptr p,v=>known s p.id∧∃a,v=.pointer (some a)∧j2 s ι p a
 |.dA dp cs off,v=>(∀d,d∈dp→eO s d)∧∃b o vs,v=.pointer (some (at_ b (o+off))) ∧
   (alive s dp=true→bO w Z s ι cs vs∧cf w b o vs∧∀j,j<cs.length→Z.or (dz ι dp) b (o+j))
 |.kD,v=>v=.pointer none
 |.lG,v=>v=.slice none 0 0
 |.opt id o,v=>known s id∧((o<0∧v=.pointer none)∨(0≤o∧∃a,v=.pointer (some a)∧j2 s ι ⟨id,some o.toNat,0⟩ a))
 |.td t,v=>v.cells.toList.length=t.size∧∀u∈v.cells.toList,LM.eC u=true
 |.may b dp cs,v=>(b=false∧v=.pointer none)∨(b=true∧(∀d,d∈dp→eO s d)∧∃b o vs,v=.pointer (some (at_ b (o+0))) ∧
   (alive s dp=true→bO w Z s ι cs vs∧cf w b o vs∧∀j,j<cs.length→Z.or (dz ι dp) b (o+j)))
 |.fn f first ma,v=>∃us vs,v=.func (.func f) us.toArray vs.toArray∧a8 w Z s ι first us∧a8 w Z s ι ma vs
 |.p6 l,v=>∃vs,v=.tuple vs.toArray∧a8 w Z s ι l vs
def a8(w:World)(Z:ah)(s:az)(ι:Nat→bI):List a_→List Value→Prop
 | [],vs=>vs=[]
 |x::l,vs=>∃v bK,vs=v::bK∧aV w Z s ι x v∧a8 w Z s ι l bK
end
def iG(w:World)(Z:ah)(s:az)(ι:Nat→bI)(i:bI):cD→Prop
 |.row t em _ xs=>(xs=[]∧i.cap=0)∨∃a,i.base=some a∧nT w (t.ar w Z em) t.size xs a i.cap i.F
 |.var _ cs=>∃a vs,i.base=some a∧a.spot=none∧bO w Z s ι cs vs∧cf w a.block a.off vs ∧
   (∀j,j<cs.length→fN w a.block (a.off+j)∧i.F a.block (a.off+j))
 |_=>True
structure Seen where
 dp:List (Nat×Nat)
 b:Nat
 o:Nat
 vs:List Value
def vv(w:World)(Z:ah)(s:az)(ι:Nat→bI)(e:Seen):Prop:=
 (∀d,d∈e.dp→eO s d)∧(alive s e.dp=true→cf w e.b e.o e.vs∧∀j,j<e.vs.length→Z.or (dz ι e.dp) e.b (e.o+j))
structure cN where
 n:Nat
 rp:List Value
 gc:List Seen
instance:Coe cN Nat:=⟨cN.n⟩
structure Inv(w0:World)(F0 Z0:ah)(n:cN)(s:az)(a:Act)(w:World)(ι:Nat→bI)(Z:ah):Prop where
 ext:Ext w0 w F0
 dU:∀b o,Z b o→Z0 b o∨F0 b o∨w0.heap.size≤b
 tl:ah.sub Z0 Z
 jt:∀b o,Z b o→b<w.heap.size
 gp:∀id,iG w Z s ι (ι id) (s.o id)
 own:∀id,(s.o id).live→∀b o,(ι id).F b o→(F0 b o∨w0.heap.size≤b)∧b<w.heap.size
 apart:∀id ep,(s.o id).live→(s.o ep).live→id≠ep→ah.apart (ι id).F (ι ep).F
 db:∀id,(s.o id).live→ah.apart (ι id).F Z
 tmps:∀k,aV w Z s ι (s.t k) (a.tmps.getD k undef)
 size:a.tmps.size=n.n
 ghost:a8 w Z s ι s.g n.rp
 seen:∀e,e∈n.gc→vv w Z s ι e
 defers:a.defers=[]
theorem bO.len{w:World}{Z:ah}{s:az}{ι:Nat→bI}:∀{cs:List ba}{vs:List Value},bO w Z s ι cs vs→vs.length=cs.length
 | [],[],_=>rfl
 |_::_,_::_,h=>by simp[bO.len h.2]
 | [],_::_,h=>h.elim
 |_::_,[],h=>h.elim
theorem cz.eC{w:World}{Z:ah}{s:az}{ι:Nat→bI}:∀{c:ba}{v:Value},cz w Z s ι c v→LM.eC v=true
 |.int _ _,_,h=>by cases h;rfl
 |.bool _,_,h=>by cases h;rfl
 |.str _,_,⟨_,h,_⟩=>by cases h;rfl
 |.raw _,_,⟨h,_,_,_,h2⟩=>by subst h;subst h2;rfl
 |.nil _,_,h=>by cases h;rfl
 |.bG _ _ _ _,_,⟨_,⟨_,_,_,h⟩,_,_⟩=>by cases h;rfl
 |.af _ _,_,⟨_,_,_,_,h,_⟩=>by cases h;rfl
theorem bO.eC{w:World}{Z:ah}{s:az}{ι:Nat→bI}:∀{cs:List ba}{vs:List Value},bO w Z s ι cs vs→∀v∈vs,LM.eC v=true
 | [],[],_=>by simp
 |_::_,_::_,h=>by
  intro v hv;rcases List.mem_cons.1 hv with rfl|hv
  ·exact h.1.eC
  ·exact bO.eC h.2 v hv
 | [],_::_,h=>h.elim
 |_::_,[],h=>h.elim
theorem bO.append{w:World}{Z:ah}{s:az}{ι:Nat→bI}:∀{cs ds:List ba}{us vs:List Value},bO w Z s ι cs us→bO w Z s ι ds vs→bO w Z s ι (cs++ds) (us++vs)
 | [],_,[],_,_,k=>k
 |_::_,_,_::_,_,h,k=>⟨h.1,bO.append h.2 k⟩
 | [],_,_::_,_,h,_=>h.elim
 |_::_,_,[],_,h,_=>h.elim
theorem bO.split{w:World}{Z:ah}{s:az}{ι:Nat→bI}:∀{cs ds:List ba}{vs:List Value},bO w Z s ι (cs++ds) vs →
  ∃us ak,vs=us++ak∧us.length=cs.length∧bO w Z s ι cs us∧bO w Z s ι ds ak
 | [],ds,vs,h=>⟨[],vs,rfl,rfl,trivial,h⟩
 |c::cs,ds,v::vs,h=>by obtain⟨us,ak,h1,h2,h3,h4⟩:=bO.split (cs:=cs) h.2;exact⟨v::us,ak,by rw[h1];rfl,by simp[h2],⟨h.1,h3⟩,h4⟩
 |_::_,_,[],h=>h.elim
theorem bO.drop{w:World}{Z:ah}{s:az}{ι:Nat→bI}:∀(k:Nat) {cs:List ba}{vs:List Value},bO w Z s ι cs vs→bO w Z s ι (cs.drop k) (vs.drop k)
 |0,_,_,h=>h
 |_+1,[],[],h=>h
 |k+1,_::_,_::_,h=>bO.drop k h.2
 |_+1,[],_::_,h=>h.elim
 |_+1,_::_,[],h=>h.elim
theorem bO.take{w:World}{Z:ah}{s:az}{ι:Nat→bI}:∀(k:Nat) {cs:List ba}{vs:List Value},bO w Z s ι cs vs→bO w Z s ι (cs.take k) (vs.take k)
 |0,_,_,h=>trivial
 |_+1,[],[],h=>h
 |k+1,_::_,_::_,h=>⟨h.1,bO.take k h.2⟩
 |_+1,[],_::_,h=>h.elim
 |_+1,_::_,[],h=>h.elim
theorem bO.mono{w w':World}{Z Z':ah}{s au:az}{ι bp:Nat→bI}(hc:∀c v,cz w Z s ι c v→cz w' Z' au bp c v):
  ∀{cs:List ba}{vs:List Value},bO w Z s ι cs vs→bO w' Z' au bp cs vs
 | [],[],_=>trivial
 |_::_,_::_,h=>⟨hc _ _ h.1,bO.mono hc h.2⟩
 | [],_::_,h=>h.elim
 |_::_,[],h=>h.elim
inductive ju:cD→bI→cD→bI→Prop
 |stay (o:cD) (i:bI):ju o i o i
 |made (o':cD) (i er:bI):ju .none i o' er
 |dead (o:cD) (i er:bI):ju o i .dead er
 |row (t:ad) (em gN:bg) (v e9:Nat) (xs gq:List t.D) (i er:bI) (hv:v<e9) (hl:gq.length=xs.length) (hb:er.base=i.base) (hc:er.cap=i.cap):ju (.row t em v xs) i (.row t gN e9 gq) er
 |var (v e9:Nat) (cs cs':List ba) (i:bI) (hv:v<e9) (hl:cs'.length=cs.length):ju (.var v cs) i (.var e9 cs') i
 |fP (o:cD) (i:bI) (hl:o.live):ju o i (.cr o) i
 |tm (t:ad) (em gN:bg) (v e9:Nat) (xs gq:List t.D) (i er:bI) (hv:v<e9) (hl:gq.length=xs.length) (hb:er.base=i.base) (hc:er.cap=i.cap):ju (.cr (.row t em v xs)) i (.row t gN e9 gq) er
 |AK (v e9:Nat) (cs cs':List ba) (i er:bI) (hv:v<e9) (hb:er.base=i.base):ju (.cr (.var v cs)) i (.var e9 cs') er
def tp(s:az)(ι:Nat→bI)(au:az)(bp:Nat→bI):Prop:=∀id,ju (s.o id) (ι id) (au.o id) (bp id)
theorem tp.known{s au:az}{ι bp:Nat→bI}(h:tp s ι au bp){id:Nat}(hk:known s id):known au id:=by unfold LM.known at *;have:=h id;generalize s.o id=o at *;generalize au.o id=o' at *;generalize ι id=i at *;generalize bp id=er at *;cases this<;>simp_all
theorem tp.dep{s au:az}{ι bp:Nat→bI}(h:tp s ι au bp){d:Nat×Nat}(hk:eO s d):eO au d:=by
 refine⟨h.known hk.1,?_⟩;obtain⟨k1,k2⟩:=hk;unfold LM.known lf at *;have:=h d.1;generalize s.o d.1=o at *;generalize au.o d.1=o' at *;generalize ι d.1=i at *;generalize bp d.1=er at *
 cases this with
 |stay=>exact k2
 |made=>exact absurd rfl k1
 |dead=>exact .inl rfl
 |row t em gN v e9 xs gq i er mh hl hb hc=>rcases k2 with h|h;exact absurd h (by simp);exact .inr (by dsimp only at *;omega)
 |var v e9 cs cs' i mh hl=>rcases k2 with h|h;exact absurd h (by simp);exact .inr (by dsimp only at *;omega)
 |fP o i hl=>
  rcases k2 with h|h
  ·rw[h]at hl;exact hl.elim
  ·cases o<;>first|exact hl.elim|exact .inr h
 |tm t em gN v e9 xs gq i er mh hl hb hc=>rcases k2 with h|h;exact absurd h (by simp);exact .inr (by dsimp only at *;omega)
 |AK v e9 cs cs' i er mh hb=>rcases k2 with h|h;exact absurd h (by simp);exact .inr (by dsimp only at *;omega)
theorem tp.stays{s au:az}{ι bp:Nat→bI}(h:tp s ι au bp):∀{dp:List (Nat×Nat)},(∀d,d∈dp→eO s d)→alive au dp=true →
  alive s dp=true∧∀d,d∈dp→au.o d.1=s.o d.1∧bp d.1=ι d.1∧(s.o d.1).live
 | [],_,_=>⟨rfl,by simp⟩
 |(id,v)::dp,hk,ha=>by
  have gr:=fun ha=>tp.stays h (dp:=dp) (fun d af=>hk d (by simp[af])) ha
  obtain⟨k1,k2⟩:=hk (id,v) (by simp);have ht:=h id;simp only[LM.known,lf]at k1 k2;unfold alive at ha⊢;generalize ho:s.o id=o at *;generalize tq:au.o id=o' at *;generalize hi:ι id=i at *;generalize dr:bp id=er at *
  cases ht with
  |stay=>
   cases o with
   |row t em w xs=>
    dsimp only at ha⊢;cases hb:Nat.beq w v
    ·rw[hb]at ha;simp at ha
    ·rw[hb]at ha;obtain⟨bF,cq⟩:=gr ha;refine⟨bF,fun d af=>?_⟩;rcases List.mem_cons.1 af with rfl|af
     ·exact⟨by rw[ho,tq],by rw[hi,dr],by rw[ho];trivial⟩
     ·exact cq d af
   |var w cs=>
    dsimp only at ha⊢;cases hb:Nat.beq w v
    ·rw[hb]at ha;simp at ha
    ·rw[hb]at ha;obtain⟨bF,cq⟩:=gr ha;refine⟨bF,fun d af=>?_⟩;rcases List.mem_cons.1 af with rfl|af
     ·exact⟨by rw[ho,tq],by rw[hi,dr],by rw[ho];trivial⟩
     ·exact cq d af
   |none=>simp at ha
   |dead=>simp at ha
   |cr=>simp at ha
  |made=>exact absurd rfl k1
  |dead=>simp at ha
  |fP=>simp at ha
  |tm t em gN w w' xs gq i er hv hl hb hc=>
   dsimp only at ha;cases hb:Nat.beq w' v
   ·rw[hb]at ha;simp at ha
   ·have:=Nat.eq_of_beq_eq_true hb;simp at k2;omega
  |AK w w' cs cs' i er hv hb=>
   dsimp only at ha;cases hb:Nat.beq w' v
   ·rw[hb]at ha;simp at ha
   ·have:=Nat.eq_of_beq_eq_true hb;simp at k2;omega
  |row t em gN w w' xs gq i er hv hl hb hc=>
   dsimp only at ha;cases hb:Nat.beq w' v
   ·rw[hb]at ha;simp at ha
   ·have:=Nat.eq_of_beq_eq_true hb;simp at k2;omega
  |var w w' cs cs' i hv hl=>
   dsimp only at ha;cases hb:Nat.beq w' v
   ·rw[hb]at ha;simp at ha
   ·have:=Nat.eq_of_beq_eq_true hb;simp at k2;omega
def Up(s:az)(ι:Nat→bI)(au:az)(bp:Nat→bI)(Z:ah):ah:=
 fun b o=>Z b o∨∃id,(s.o id).live∧au.o id=s.o id∧bp id=ι id∧(ι id).F b o
section
variable{w w':World}{Z Z':ah}{s au:az}{ι bp:Nat→bI}
structure e5(w:World)(Z:ah)(s:az)(ι:Nat→bI)(w':World)(Z':ah)(au:az)(bp:Nat→bI):Prop where
 turns:tp s ι au bp
 dU:ah.sub Z Z'
 same:ch w w' (Up s ι au bp Z)
theorem e5.dz(h:e5 w Z s ι w' Z' au bp){dp:List (Nat×Nat)}(hk:∀d,d∈dp→eO s d)(ha:alive au dp=true):
  ch w w' (Z.or (dz ι dp))∧ah.sub (Z.or (LM.dz ι dp)) (Z'.or (LM.dz bp dp)):=by
 obtain⟨h1,h2⟩:=h.turns.stays hk ha;refine⟨h.same.mono ?_,?_⟩
 ·rintro b o (hz|⟨d,af,hf⟩)
  ·exact .inl hz
  ·exact .inr ⟨d.1,(h2 d af).2.2,(h2 d af).1,(h2 d af).2.1,hf⟩
 ·rintro b o (hz|⟨d,af,hf⟩)
  ·exact .inl (h.dU b o hz)
  ·exact .inr ⟨d,af,by rw[(h2 d af).2.1];exact hf⟩
theorem j2.move(h:e5 w Z s ι w' Z' au bp){p:Place}{a:Addr}(hk:known s p.id)(av:j2 s ι p a):j2 au bp p a:=by
 obtain⟨hs,av⟩:=av;refine⟨hs,?_⟩;have ht:=h.turns p.id;unfold known at hk;generalize s.o p.id=o at *;generalize au.o p.id=o' at *;generalize ι p.id=i at *;generalize bp p.id=er at *
 cases ht with
 |stay=>exact av
 |made=>exact absurd rfl hk
 |dead=>trivial
 |row t em gN v e9 xs gq i er hv hl hb hc=>obtain⟨k,h1,h2,h3⟩:=av;exact⟨k,h1,by omega,by rw[hb];exact h3⟩
 |var=>exact av
 |fP o i hl=>cases o<;>first|exact hl.elim|exact av
 |tm t em gN v e9 xs gq i er hv hl hb hc=>obtain⟨k,h1,h2,h3⟩:=av;exact⟨k,h1,by omega,by rw[hb];exact h3⟩
 |AK v e9 cs cs' i er hv hb=>obtain⟨h1,h2⟩:=av;exact⟨h1,by rw[hb];exact h2⟩
theorem tk.move(h:e5 w Z s ι w' Z' au bp){dp:List (Nat×Nat)}{cJ:Option Place}{v:Value}(hk:∀d,d∈dp→eO s d)(ho:tk w s ι dp cJ v):tk w' au bp dp cJ v:=by
 intro p av;obtain⟨⟨d,af,cm⟩,h2⟩:=ho p av;refine⟨⟨d,af,cm⟩,fun ha=>?_⟩;obtain⟨c2,eb⟩:=h.dz hk ha;obtain⟨s1,s2⟩:=h.turns.stays hk ha;obtain⟨b,o,k1,k2,k3⟩:=h2 s1;refine⟨b,o,k1.move h (cm▸(hk d af).1),?_,?_⟩
 ·rw[(c2 b o (.inr ⟨d,af,cm▸k3⟩)).1];exact k2
 ·rw[←cm,(s2 d af).2.1,cm];exact k3
theorem cz.move(h:e5 w Z s ι w' Z' au bp):∀{c:ba}{v:Value},cz w Z s ι c v→cz w' Z' au bp c v
 |.int _ _,_,hc=>hc
 |.bool _,_,hc=>hc
 |.str _,_,hc=>hc
 |.raw _,_,hc=>hc
 |.nil _,_,hc=>hc
 |.bG t dp cJ xs,v,⟨h1,h2,h3,h4⟩=>by refine⟨fun d af=>h.turns.dep (h1 d af),h2,fun ha=>?_,h4.move h h1⟩;obtain⟨a,b⟩:=h.dz h1 ha;exact ad.ar.mono b _ _ (fun _ _ h=>h) (ad.ar.same a _ _ (fun _ _ h=>h.elim) (h3 (h.turns.stays h1 ha).1))
 |.af id sub,v,⟨h1,A,n,c,hv,h2⟩=>by
  refine⟨h.turns.known h1,A,n,c,hv,fun t em ver xs ho=>?_⟩;have ht:=h.turns id;unfold LM.known at h1;generalize yi:s.o id=o at *;generalize hii:ι id=i at *;generalize auB:au.o id=o' at *;generalize auC:bp id=er at *
  cases ht with
  |stay=>exact h2 _ _ _ _ ho
  |made=>exact absurd rfl h1
  |dead=>simp[cD.core]at ho
  |row t em gN v e9 xs gq i er hv hl hb hc=>simp only[cD.core,cD.row.injEq]at ho;obtain⟨rfl,_,_,ho⟩:=ho;have:=eq_of_heq ho;subst this;obtain⟨c2,eb,gY,hJ,ij⟩:=h2 _ _ _ _ rfl;exact⟨by rw[hl];exact c2,by rw[hl];exact eb,gY,by rw[hc];exact hJ,by rw[hb];exact ij⟩
  |var=>simp[cD.core]at ho
  |fP o i hl=>exact h2 _ _ _ _ (by cases o<;>first|exact hl.elim|exact ho)
  |tm t em gN v e9 xs gq i er hv hl hb hc=>simp only[cD.core,cD.row.injEq]at ho;obtain⟨rfl,_,_,ho⟩:=ho;have:=eq_of_heq ho;subst this;obtain⟨c2,eb,gY,hJ,ij⟩:=h2 _ _ _ _ rfl;exact⟨by rw[hl];exact c2,by rw[hl];exact eb,gY,by rw[hc];exact hJ,by rw[hb];exact ij⟩
  |AK=>simp[cD.core]at ho
theorem bO.move(h:e5 w Z s ι w' Z' au bp){cs:List ba}{vs:List Value}(hc:bO w Z s ι cs vs):bO w' Z' au bp cs vs:=
 bO.mono (fun _ _=>cz.move h) hc
mutual
theorem aV.move(h:e5 w Z s ι w' Z' au bp):∀{x:a_}{v:Value},aV w Z s ι x v→aV w' Z' au bp x v
 |.bB,_,_=>by simp only[aV]
 |.gone,_,hx=>by simpa only[aV]using hx
 |.aU c,v,hx=>by simp only[aV]at hx⊢;exact hx.move h
 |.iV cs,v,hx=>by simp only[aV]at hx⊢;obtain⟨vs,h1,h2⟩:=hx;exact⟨vs,h1,h2.move h⟩
 |.ptr p,v,hx=>by simp only[aV]at hx⊢;obtain⟨h1,a,h2,h3⟩:=hx;exact⟨h.turns.known h1,a,h2,h3.move h h1⟩
 |.dA dp cs off,v,hx=>by simp only[aV]at hx⊢;obtain⟨h1,b,o,vs,h2,h3⟩:=hx;refine⟨fun d af=>h.turns.dep (h1 d af),b,o,vs,h2,fun ha=>?_⟩;obtain⟨c2,eb⟩:=h.dz h1 ha;obtain⟨bF,cq,gu⟩:=h3 (h.turns.stays h1 ha).1;exact⟨bF.move h,c2.Ec (fun i hi=>gu i (by rw[←bF.len];exact hi)) cq,fun j hj=>eb _ _ (gu j hj)⟩
 |.td t,v,hx=>by simpa only[aV]using hx
 |.may q dp cs,v,hx=>by
  simp only[aV]at hx⊢;rcases hx with hx|⟨h0,h1,b,o,vs,h2,h3⟩
  ·exact .inl hx
  refine .inr ⟨h0,fun d af=>h.turns.dep (h1 d af),b,o,vs,h2,fun ha=>?_⟩;obtain⟨c2,eb⟩:=h.dz h1 ha;obtain⟨bF,cq,gu⟩:=h3 (h.turns.stays h1 ha).1;exact⟨bF.move h,c2.Ec (fun i hi=>gu i (by rw[←bF.len];exact hi)) cq,fun j hj=>eb _ _ (gu j hj)⟩
 |.kD,_,hx=>by simpa only[aV]using hx
 |.lG,_,hx=>by simpa only[aV]using hx
 |.opt id o,v,hx=>by simp only[aV]at hx⊢;obtain⟨h1,h2⟩:=hx;exact⟨h.turns.known h1,h2.imp (fun x=>x) fun⟨h3,a,h4,a6⟩=>⟨h3,a,h4,a6.move h h1⟩⟩
 |.fn f l m,v,hx=>by simp only[aV]at hx⊢;obtain⟨us,vs,h1,h2,h3⟩:=hx;exact⟨us,vs,h1,a8.move h h2,a8.move h h3⟩
 |.p6 l,v,hx=>by simp only[aV]at hx⊢;obtain⟨vs,h1,h2⟩:=hx;exact⟨vs,h1,a8.move h h2⟩
theorem a8.move(h:e5 w Z s ι w' Z' au bp):∀{x:List a_}{v:List Value},a8 w Z s ι x v→a8 w' Z' au bp x v
 | [],v,hx=>by simpa only[a8]using hx
 |x::l,v,hx=>by simp only[a8]at hx⊢;obtain⟨u,us,h1,h2,h3⟩:=hx;exact⟨u,us,h1,aV.move h h2,a8.move h h3⟩
end
theorem vv.move(h:e5 w Z s ι w' Z' au bp){e:Seen}(he:vv w Z s ι e):vv w' Z' au bp e:=by obtain⟨h1,h2⟩:=he;refine⟨fun d af=>h.turns.dep (h1 d af),fun ha=>?_⟩;obtain⟨c2,eb⟩:=h.dz h1 ha;obtain⟨bF,cq⟩:=h2 (h.turns.stays h1 ha).1;exact⟨c2.Ec cq bF,fun j hj=>eb _ _ (cq j hj)⟩
theorem iG.move(h:e5 w Z s ι w' Z' au bp){id:Nat}(hl:(s.o id).live→au.o id=s.o id∧bp id=ι id){o:cD}(ho:s.o id=o)(hs:iG w Z s ι (ι id) o):iG w' Z' au bp (ι id) o:=by
 cases o with
 |none=>trivial
 |dead=>trivial
 |cr=>trivial
 |row t em ver xs=>
  have cn:(s.o id).live:=by rw[ho];trivial
  have hs1:ch w w' (ι id).F:=h.same.mono fun b o hf=>.inr ⟨id,cn,(hl cn).1,(hl cn).2,hf⟩
  rcases hs with hs|⟨a,h1,h2⟩
  ·exact .inl hs
  ·refine .inr ⟨a,h1,h2.spot,h2.cap,fun j hj=>hs1.ld (h2.inF j hj) (h2.wr j hj),h2.inF,?_⟩;obtain⟨G,g1,g2,g3⟩:=h2.row;have hle:xs.length*t.size≤(ι id).cap*t.size:=Nat.mul_le_mul_right _ h2.cap;exact⟨G,g1.imp (fun y vs dB hG hr=>ad.ar.mono h.dU _ _ (fun _ _ h=>h) (ad.ar.same (h.same.mono fun b o hz=>.inl hz) _ _ (hs1.mono fun b o aB=>g3 b o (hG b o aB)) hr)) (fun j hj=>(hs1 _ _ (h2.inF j (by omega))).1),g2,g3⟩
 |var ver cs=>
  have cn:(s.o id).live:=by rw[ho];trivial
  have hs1:ch w w' (ι id).F:=h.same.mono fun b o hf=>.inr ⟨id,cn,(hl cn).1,(hl cn).2,hf⟩
  obtain⟨a,vs,h1,h2,h3,h4,a6⟩:=hs;exact⟨a,vs,h1,h2,h3.move h,hs1.Ec (fun i hi=>(a6 i (by rw[←h3.len];exact hi)).2) h4,fun j hj=>⟨hs1.rh (a6 j hj).2 (a6 j hj).1,(a6 j hj).2⟩⟩
end
end Go.LM
namespace Go.LM
section
variable{w0:World}{F0 Z0:ah}{n:cN}{s au:az}{a b8:Act}{w w':World}{ι bp:Nat→bI}{Z Z':ah}
theorem Inv.next(h:Inv w0 F0 Z0 n s a w ι Z)(hm:e5 w Z s ι w' Z' au bp){S:ah}(hx:Ext w w' S)
  (dg:∀b o,S b o→F0 b o∨w0.heap.size≤b)
  (hz:∀b o,Z' b o→Z b o∨((F0 b o∨w0.heap.size≤b)∧b<w'.heap.size))
  (ho:∀id,(au.o id).live→¬(au.o id=s.o id∧bp id=ι id)→iG w' Z' au bp (bp id) (au.o id) ∧
   (∀b o,(bp id).F b o→(F0 b o∨w0.heap.size≤b)∧b<w'.heap.size)∧(∀ep,(au.o ep).live→id≠ep→ah.apart (bp id).F (bp ep).F))
  (o6:∀id,(au.o id).live→ah.apart (bp id).F Z')
  (ht:∀k,aV w' Z' au bp (au.t k) (b8.tmps.getD k undef))
  (hn:b8.tmps.size=n) (af:b8.defers=[]) (AL:au.g=s.g:=by rfl):Inv w0 F0 Z0 n au b8 w' bp Z':=by
 have hsz:=hx.size;refine⟨?_,?_,?_,?_,?_,?_,?_,o6,ht,hn,by rw[AL];exact a8.move hm h.ghost,fun e he=>(h.seen e he).move hm,af⟩
 ·refine h.ext.trans' hx dg
 ·intro b o hb;rcases hz b o hb with h1|h1
  ·exact h.dU b o h1
  ·exact .inr h1.1
 ·exact fun b o hb=>hm.dU b o (h.tl b o hb)
 ·intro b o hb;rcases hz b o hb with h1|h1
  ·exact Nat.lt_of_lt_of_le (h.jt b o h1) hsz
  ·exact h1.2
 ·intro id;by_cases hl:(au.o id).live
  ·by_cases hst:au.o id=s.o id∧bp id=ι id
   ·have:=iG.move hm (id:=id) (fun _=>hst) rfl (h.gp id);rw[hst.2,hst.1];exact this
   ·exact(ho id hl hst).1
  ·cases hh:au.o id with
   |none=>trivial
   |dead=>trivial
   |cr=>trivial
   |row=>rw[hh]at hl;exact absurd trivial hl
   |var=>rw[hh]at hl;exact absurd trivial hl
 ·intro id hl b o hf;by_cases hst:au.o id=s.o id∧bp id=ι id
  ·rw[hst.2]at hf;have:=h.own id (hst.1▸hl) b o hf;exact⟨this.1,Nat.lt_of_lt_of_le this.2 hsz⟩
  ·exact(ho id hl hst).2.1 b o hf
 ·intro id ep hl gC hne;by_cases hst:au.o id=s.o id∧bp id=ι id
  ·by_cases rq:au.o ep=s.o ep∧bp ep=ι ep
   ·rw[hst.2,rq.2];exact h.apart id ep (hst.1▸hl) (rq.1▸gC) hne
   ·exact fun b o h1 h2=>(ho ep gC rq).2.2 id hl (Ne.symm hne) b o h2 h1
  ·exact(ho id hl hst).2.2 ep gC hne
theorem ch.jv{S T:ah}(hx:Ext w w' S)(b5:∀b o,T b o→b<w.heap.size)(ha:ah.apart T S):ch w w' T:=
 fun b o ht=>⟨hx.cell (b5 b o ht) (fun hs=>ha b o ht hs),hx.frozen (b5 b o ht)⟩
theorem Inv.tr(h:Inv w0 F0 Z0 n s a w ι Z):∀b o,Up s ι au bp Z b o→b<w.heap.size:=by
 rintro b o (hz|⟨id,hl,_,_,hf⟩)
 ·exact h.jt b o hz
 ·exact(h.own id hl b o hf).2
theorem cX{α:Type}{f:Nat→α}{i j:Nat}{v:α}(h:i≠j):bW f i v j=f j:=te (Ne.symm h)
theorem Inv.tmp(h:Inv w0 F0 Z0 n s a w ι Z)(ho:au.o=s.o)(ht:∀k,aV w Z au ι (au.t k) (b8.tmps.getD k undef))
  (hn:b8.tmps.size=n) (af:b8.defers=[]) (AL:au.g=s.g:=by rfl):Inv w0 F0 Z0 n au b8 w ι Z:=by
 refine h.next (S:=ah.none) ⟨fun id=>by rw[ho];exact .stay _ _,fun _ _ h=>h,ch.refl _ _⟩ (Ext.refl _ _) (fun _ _ h=>h.elim) (fun _ _ h=>.inl h) ?_ ?_ ht hn af AL
 ·intro id _ hne;exact absurd ⟨by rw[ho],rfl⟩ hne
 ·intro id hl;exact h.db id (by rwa[ho]at hl)
theorem LP(ho:au.o=s.o):e5 w Z s ι w Z au ι :=⟨fun id=>by rw[ho];exact .stay _ _,fun _ _ h=>h,ch.refl _ _⟩
theorem LQ(t:Array Value)(d k:Nat)(u:Value)(af:d<t.size):(t.setIfInBounds d u).getD k undef=if d=k then u else t.getD k undef:=by
 simp only[Array.getD_eq_getD_getElem?,Array.getElem?_setIfInBounds];by_cases hk:d=k
 ·subst hk;simp[af]
 ·simp[hk]
theorem Inv.set(h:Inv w0 F0 Z0 n s a w ι Z){d:Nat}{v:a_}{u:Value}(hv:aV w Z s ι v u)(af:d<n):
  Inv w0 F0 Z0 n (s.set d v) (a.put (some d) u) w ι Z:=by
 have hm:e5 w Z s ι w Z (s.set d v) ι :=LP rfl;refine h.tmp rfl (fun k=>?_) (by simpa[Act.put]using h.size) (by simpa[Act.put]using h.defers);show aV w Z (s.set d v) ι (bW s.t d v k) ((a.tmps.setIfInBounds d u).getD k undef);rw[LQ _ _ _ _ (by rw[h.size];exact af)];by_cases hk:d=k
 ·subst hk;rw[cM,if_pos rfl];exact hv.move hm
 ·rw[cX hk,if_neg hk];exact(h.tmps k).move hm
theorem Inv.dst(h:Inv w0 F0 Z0 n s a w ι Z){d:Option Nat}{v:a_}{u:Value}(hv:aV w Z s ι v u)(af:∀k,d=some k→k<n):
  Inv w0 F0 Z0 n (s.dst d v) (a.put d u) w ι Z:=by
 cases d with
 |none=>exact h
 |some d=>exact h.set hv (af d rfl)
theorem Inv.world(h:Inv w0 F0 Z0 n s a w ι Z)(hx:Ext w w' ah.none):Inv w0 F0 Z0 n s a w' ι Z:=by have hm:e5 w Z s ι w' Z s ι :=⟨fun id=>.stay _ _,fun _ _ h=>h,ch.jv hx h.tr (fun _ _ _ h=>h)⟩;refine h.next hm hx (fun _ _ h=>h.elim) (fun _ _ h=>.inl h) ?_ h.db (fun k=>(h.tmps k).move hm) h.size h.defers;intro id _ hne;exact absurd ⟨rfl,rfl⟩ hne
theorem Inv.drew(h:Inv w0 F0 Z0 n s a w ι Z)(m:Nat):Inv w0 F0 Z0 n s a { w with drawn:=m } ι Z:=h.world (Ext.drew _ _ _)
theorem Uq(h:Inv w0 F0 Z0 n s a w ι Z){id:Nat}(cm:s.o id=.none)(hx:Ext w w' ah.none)(o:cD)(i:bI):
  e5 w Z s ι w' Z (s.bV id o) (bW ι id i):=by
 refine⟨fun j=>?_,fun _ _ h=>h,ch.jv hx h.tr (fun _ _ _ h=>h)⟩;show ju (s.o j) (ι j) (bW s.o id o j) (bW ι id i j);by_cases hj:id=j
 ·subst hj;rw[cm];exact .made _ _ _
 ·rw[cX hj,cX hj];exact .stay _ _
theorem Inv.new(h:Inv w0 F0 Z0 n s a w ι Z){id:Nat}(cm:s.o id=.none)(hx:Ext w w' ah.none){o:cD}{i:bI}
  (cT:iG w' Z (s.bV id o) (bW ι id i) i o) (hF:∀b o,i.F b o→w.heap.size≤b∧b<w'.heap.size):
  Inv w0 F0 Z0 n (s.bV id o) a w' (bW ι id i) Z:=by
 have hm:=Uq h cm hx o i;have hsz:=h.ext.size;refine h.next hm hx (fun _ _ h=>h.elim) (fun _ _ h=>.inl h) ?_ ?_ (fun k=>(h.tmps k).move hm) h.size h.defers
 ·intro j hl hne;by_cases hj:id=j
  ·subst hj;rw[cM];refine⟨by show iG _ _ _ _ _ (bW s.o id o id);rw[cM];exact cT,fun b o hf=>⟨.inr (by have:=(hF b o hf).1;omega),(hF b o hf).2⟩,fun lK gC km b o h1 h2=>?_⟩;rw[cX km]at h2;have ei:(s.o lK).live:=by have:(bW s.o id _ lK).live:=gC;rwa[cX km]at this
   have:=(h.own lK ei b o h2).2;have:=(hF b o h1).1;omega
  ·exact absurd ⟨cX hj,cX hj⟩ hne
 ·intro j hl b o h1 h2;by_cases hj:id=j
  ·subst hj;rw[cM]at h1;have:=(hF b o h1).1;have:=h.jt b o h2;omega
  ·rw[cX hj]at h1;have ei:(s.o j).live:=by have:(bW s.o id _ j).live:=hl;rwa[cX hj]at this
   exact h.db j ei b o h1 h2
theorem LR{id j:Nat}(hl:((s.bV id .dead).o j).live):id≠j∧(s.o j).live:=by
 have h:(bW s.o id cD.dead j).live:=hl;by_cases hj:id=j
 ·subst hj;rw[cM]at h;exact h.elim
 ·rw[cX hj]at h;exact⟨hj,h⟩
theorem afB(h:Inv w0 F0 Z0 n s a w ι Z)(id:Nat)(hZ:ah.sub Z Z'):e5 w Z s ι w Z' (s.bV id .dead) ι :=by
 refine⟨fun j=>?_,hZ,ch.refl _ _⟩;show ju (s.o j) (ι j) (bW s.o id cD.dead j) (ι j);by_cases hj:id=j
 ·subst hj;rw[cM];exact .dead _ _ _
 ·rw[cX hj];exact .stay _ _
theorem Inv.take(h:Inv w0 F0 Z0 n s a w ι Z)(id:Nat)(hZ:ah.sub Z Z')(hz:∀b o,Z' b o→Z b o∨((s.o id).live∧(ι id).F b o)):
  Inv w0 F0 Z0 n (s.bV id .dead) a w ι Z':=by
 have hm:=afB h id hZ;refine h.next hm (Ext.refl _ ah.none) (fun _ _ h=>h.elim) ?_ ?_ ?_ (fun k=>(h.tmps k).move hm) h.size h.defers
 ·intro b o hb;rcases hz b o hb with h1|⟨h1,h2⟩
  ·exact .inl h1
  ·exact .inr (h.own id h1 b o h2)
 ·intro j hl hne;obtain⟨hj,ei⟩:=LR hl;exact absurd ⟨cX hj,rfl⟩ hne
 ·intro j hl b o h1 h2;obtain⟨hj,ei⟩:=LR hl;rcases hz b o h2 with h3|⟨h3,h4⟩
  ·exact h.db j ei b o h1 h3
  ·exact h.apart id j h3 ei hj b o h4 h1
end
end Go.LM
namespace Go.LM
theorem Row.drop{α:Type}{w:World}{R:α→List Value→ah→Prop}{size:Nat}:∀(k:Nat) {x:List α}{b o:Nat}{F:ah},Row w R size x b o F→Row w R size (x.drop k) b (o+k*size) F
 |0,x,b,o,F,h=>by simpa using h
 |k+1,[],b,o,F,h=>trivial
 |k+1,y::x,b,o,F,⟨vs,G,H,h1,h2,h3,h4,a6,bj,bL⟩=>by have:=Row.drop k h4;rw[show o+size+k*size=o +(k+1)*size by rw[Nat.add_one_mul];omega]at this;exact this.mono bL
theorem Row.take{α:Type}{w:World}{R:α→List Value→ah→Prop}{size:Nat}:∀(k:Nat) {x:List α}{b o:Nat}{F:ah},Row w R size x b o F→Row w R size (x.take k) b o F
 |0,x,b,o,F,h=>by rw[List.take_zero];trivial
 |k+1,[],b,o,F,h=>trivial
 |k+1,y::x,b,o,F,⟨vs,G,H,h1,h2,h3,h4,a6,bj,bL⟩=>⟨vs,G,H,h1,h2,h3,Row.take k h4,a6,bj,bL⟩
theorem hK{u t:ad}{xs:List u.D}{x:List t.D}(h:eY (.sl u) (.sl t) xs=some x):∃e:u=t,x=e▸xs:=by
 obtain⟨e,hx⟩:=D8 h;injection e with e
 subst e;exact⟨rfl,hx⟩
section
variable{w0:World}{F0 Z0:ah}{n:cN}{s au:az}{a:Act}{w:World}{ι:Nat→bI}{Z Z':ah}
structure bM(w0:World)(F0:ah)(s:az)(w:World)(ι:Nat→bI)(Z F:ah):Prop where
 own:∀b o,F b o→(F0 b o∨w0.heap.size≤b)∧b<w.heap.size
 apart:∀id,(s.o id).live→ah.apart F (ι id).F
 db:ah.apart F Z
theorem bM.none:bM w0 F0 s w ι Z ah.none:=⟨fun _ _ h=>h.elim,fun _ _ _ _ h=>h.elim,fun _ _ h=>h.elim⟩
structure ft(s:az)(ι:Nat→bI)(Z:ah)(au:az)(Z':ah):Prop where
 o:∀id,au.o id=s.o id∨((s.o id).live∧au.o id=.dead)
 t:au.t=s.t
 g:au.g=s.g
 dU:ah.sub Z Z'
 qa:∀b o,Z' b o→Z b o∨∃id,(s.o id).live∧au.o id=.dead∧(ι id).F b o
theorem ft.refl:ft s ι Z s Z:=⟨fun _=>.inl rfl,rfl,rfl,fun _ _ h=>h,fun _ _ h=>.inl h⟩
theorem ft.trans{s2:az}{bR:ah}(h:ft s ι Z au Z')(k:ft au ι Z' s2 bR):ft s ι Z s2 bR:=by
 refine⟨fun id=>?_,k.t.trans h.t,k.g.trans h.g,fun b o hz=>k.dU b o (h.dU b o hz),fun b o hz=>?_⟩
 ·rcases k.o id with h1|⟨h0,h1⟩
  ·rw[h1];exact h.o id
  ·rcases h.o id with h2|⟨_,h2⟩
   ·exact .inr ⟨h2▸h0,h1⟩
   ·rw[h2]at h0;exact h0.elim
 ·rcases k.qa b o hz with h1|⟨id,h1,h2,h3⟩
  ·rcases h.qa b o h1 with h1|⟨id,h1,h2,h3⟩
   ·exact .inl h1
   ·refine .inr ⟨id,h1,?_,h3⟩;rcases k.o id with h4|⟨_,h4⟩
    ·rw[h4,h2]
    ·exact h4
  ·rcases h.o id with h4|⟨_,h4⟩
   ·exact .inr ⟨id,h4▸h1,h2,h3⟩
   ·rw[h4]at h1;exact h1.elim
theorem ft.eI(h:ft s ι Z au Z'):e5 w Z s ι w Z' au ι :=by
 refine⟨fun id=>?_,h.dU,ch.refl _ _⟩;rcases h.o id with h1|⟨_,h1⟩
 ·rw[h1];exact .stay _ _
 ·rw[h1];exact .dead _ _ _
theorem ft.live(h:ft s ι Z au Z'){id:Nat}(hl:(au.o id).live):(s.o id).live∧au.o id=s.o id:=by
 rcases h.o id with h1|⟨_,h1⟩
 ·exact⟨h1▸hl,h1⟩
 ·rw[h1]at hl;exact hl.elim
theorem bM.shrink{F:ah}(hf:bM w0 F0 s w ι Z F)(h:ft s ι Z au Z'):bM w0 F0 au w ι Z' F:=by
 refine⟨hf.own,fun id hl=>hf.apart id (h.live hl).1,fun b o h1 h2=>?_⟩;rcases h.qa b o h2 with h3|⟨id,h3,_,h4⟩
 ·exact hf.db b o h1 h3
 ·exact hf.apart id h3 b o h1 h4
theorem bM.or{F G:ah}(hf:bM w0 F0 s w ι Z F)(aB:bM w0 F0 s w ι Z G):bM w0 F0 s w ι Z (F.or G):=
 ⟨fun b o h=>h.elim (hf.own b o) (aB.own b o),fun id hl b o h=>h.elim (hf.apart id hl b o) (aB.apart id hl b o),fun b o h=>h.elim (hf.db b o) (aB.db b o)⟩
theorem Inv.yk(h:Inv w0 F0 Z0 n s a w ι Z){id:Nat}(hl:(s.o id).live):bM w0 F0 (s.bV id .dead) w ι Z (ι id).F:=
 ⟨h.own id hl,fun j hj=>by obtain⟨h1,h2⟩:=LR hj;exact h.apart id j hl h2 h1,h.db id hl⟩
theorem yl(id:Nat)(hl:(s.o id).live):ft s ι Z (s.bV id .dead) Z:=by
 refine⟨fun j=>?_,rfl,rfl,fun _ _ h=>h,fun _ _ h=>.inl h⟩;by_cases hj:id=j
 ·subst hj;exact .inr ⟨hl,cM _ _ _⟩
 ·exact .inl (cX hj)
theorem Ur(h:Inv w0 F0 Z0 n s a w ι Z){id:Nat}(hl:(s.o id).live):ft s ι Z (s.bV id .dead) (Z.or (ι id).F):=by
 refine⟨fun j=>?_,rfl,rfl,fun _ _ h=>.inl h,fun b o hz=>?_⟩
 ·by_cases hj:id=j
  ·subst hj;exact .inr ⟨hl,cM _ _ _⟩
  ·exact .inl (cX hj)
 ·rcases hz with h1|h1
  ·exact .inl h1
  ·exact .inr ⟨id,hl,cM _ _ _,h1⟩
theorem ym{i:bI}{t:ad}{em:bg}{xs:List t.D}{sub:Option (Nat×Nat)}{A:Option Addr}{m c:Nat}{ver:Nat}
  (ho:iG w Z s ι i (.row t em ver xs)) (hh:LO i t.size sub xs.length A m c):
  (ad.sl t).ar w Z (.O em) (lH sub xs) [.slice A m c] i.F:=by
 obtain⟨hn,hfit,hle,hcap,cE⟩:=hh
 have hlen:(lH sub xs).length=m:=by
  cases sub with
  |none=>simp[lH,hn]
  |some p=>obtain⟨lo,k⟩:=p;simp only[lH,part,List.length_take,List.length_drop,eH]at *;omega
 simp only[ad.ar];refine⟨A,c,by rw[hlen],?_⟩;rcases cE with h0|⟨a0,hb,hA⟩
 ·exact .inl ⟨List.eq_nil_of_length_eq_zero (by omega),h0⟩
 ·rcases ho with⟨hx,h0⟩|⟨yn,dV,hr⟩
  ·refine .inl ⟨List.eq_nil_of_length_eq_zero (by omega),by omega⟩
  ·rw[hb]at dV;obtain rfl:=aX dV;refine .inr ⟨_,hA,rfl,by rw[hlen];exact hle,fun j hj=>?_,fun j hj=>?_,?_⟩
   ·have:=hr.wr (eH sub*t.size+j) (by
     have:(eH sub+c)*t.size≤i.cap*t.size:=Nat.mul_le_mul_right _ hcap
     rw[Nat.add_mul]at this;omega)
    rwa[←Nat.add_assoc]at this
   ·have:=hr.inF (eH sub*t.size+j) (by
     have:(eH sub+c)*t.size≤i.cap*t.size:=Nat.mul_le_mul_right _ hcap
     rw[Nat.add_mul]at this;omega)
    rwa[←Nat.add_assoc]at this
   ·obtain⟨G,g1,g2,g3⟩:=hr.row;refine⟨G,?_,fun j hj=>?_,g3⟩
    ·cases sub with
     |none=>simpa[lH,eH]using g1
     |some p=>obtain⟨lo,k⟩:=p;exact(g1.drop lo).take k
    ·have:=g2 (eH sub*t.size+j) (by
      have:(eH sub+c)*t.size≤i.cap*t.size:=Nat.mul_le_mul_right _ hcap
      rw[Nat.add_mul]at this;omega)
     rwa[←Nat.add_assoc]at this
theorem LS{t:ad}{c:ba}{xs:List t.D}{v:Value}(h:Inv w0 F0 Z0 n s a w ι Z)(hl:p9 s t c=some xs)(hc:cz w Z s ι c v):
  (ad.sl t).ar w (Z.or (dz ι (borrows s c))) .R xs [v] ah.none∧alive s (borrows s c)=true∧∀d,d∈borrows s c→eO s d:=by
 cases c with
 |nil u=>obtain⟨e,rfl⟩:=hK hl;subst e;have hv:v=.slice none 0 0:=hc;subst hv;refine⟨?_,rfl,by simp[borrows]⟩;simp only[ad.ar];exact⟨none,0,rfl,.inl trivial⟩
 |bG u dp cJ ys=>
  simp only[p9]at hl;obtain⟨h1,h2,h3⟩:=hc
  cases ha:alive s dp with
  |false=>rw[ha]at hl;simp at hl
  |true=>rw[ha]at hl;obtain⟨e,rfl⟩:=hK hl;subst e;exact⟨h3.1 ha,ha,h1⟩
 |af id sub=>
  simp only[p9]at hl;obtain⟨h1,A,m,k,rfl,h2⟩:=hc
  cases ho:s.o id with
  |row u em ver ys=>
   rw[ho]at hl;obtain⟨e,rfl⟩:=hK hl;subst e;have hb:borrows s (.af id sub)=[(id,ver)]:=by simp only[borrows,ho]
   rw[hb];refine⟨?_,?_,?_⟩
   ·have c9:=h.gp id;rw[ho]at c9;refine ad.ar.read (fun _ _ h=>.inl h) _ _ (fun b o hf=>.inr ⟨(id,ver),by simp,hf⟩) (ym c9 (h2 u em ver ys (mg ho)))
   ·simp[alive,ho]
   ·intro d af;simp at af;subst af;exact⟨h1,.inr (by simp[lf,ho])⟩
  |_=>rw[ho]at hl;simp at hl
 |_=>simp[p9]at hl
theorem LU(ι:Nat→bI)(nb bu:List (Nat×Nat)):ah.sub (dz ι bu) (dz ι (nb++bu)):=
 fun b o ⟨d,h1,h2⟩=>⟨d,List.mem_append.2 (.inr h1),h2⟩
def AM(w0:World)(F0 Z0:ah)(n:cN)(s:az)(a:Act)(w:World)(ι:Nat→bI)(Z:ah)(b:Bool)(R:ah→List Value→ah→Prop)(vs:List Value)
  (cs':List ba) (au:az) (bu nY:List (Nat×Nat)):Prop:=
 ∃us bK F Z',vs=us++bK∧Inv w0 F0 Z0 n au a w ι Z'∧ft s ι Z au Z'∧bO w Z' au ι cs' bK∧bM w0 F0 au w ι Z' F ∧
  R (Z'.or (dz ι nY)) us F∧(∃nb,nY=nb++bu)∧(b=false→nY=bu)∧(∀d,d∈nY→eO au d) ∧
  ∀b o,F b o→∃id,(s.o id).live∧(ι id).F b o
theorem yp{b:Bool}{R:ah→List Value→ah→Prop}{v:Value}{bK:List Value}{cs':List ba}{bu:List (Nat×Nat)}(h:Inv w0 F0 Z0 n s a w ι Z)
  (hc:bO w Z s ι cs' bK) (hb:∀d,d∈bu→eO s d) (fa:∀Z,R Z [v] ah.none):AM w0 F0 Z0 n s a w ι Z b R (v::bK) cs' s bu bu:=
 ⟨[v],bK,ah.none,Z,rfl,h,.refl,hc,.none,fa _,⟨[],rfl⟩,fun _=>rfl,hb,fun _ _ h=>h.elim⟩
theorem LV(h:ft s ι Z au Z'){d:Nat×Nat}(af:eO s d):eO au d:=by
 obtain⟨h1,h2⟩:=af;unfold eO known lf at *;rcases h.o d.1 with h3|⟨_,h3⟩
 ·rw[h3];exact⟨h1,h2⟩
 ·rw[h3];exact⟨by simp,.inl rfl⟩
theorem Us{t:ad}{e:bg}{x:List t.D}{vs:List Value}{F:ah}(h:(ad.sl t).ar w Z (.O e) x vs F):
  ∃F',ah.sub F' F∧(ad.sl t).ar w (Z.or fun b o=>F b o∧¬F' b o) (.O .R) x vs F':=by
 simp only[ad.ar]at h⊢;obtain⟨A,c,hv,h⟩:=h;rcases h with h|⟨a,hA,hr⟩
 ·exact⟨ah.none,fun _ _ h=>h.elim,A,c,hv,.inl h⟩
 ·obtain⟨G,g1,g2,g3⟩:=hr.row;refine⟨ah.run a.block a.off (c*t.size),?_,A,c,hv,.inr ⟨a,hA,hr.spot,hr.cap,hr.wr,fun j hj=>⟨rfl,by omega,by omega⟩,ah.none,?_,fun _ _ h=>h,fun _ _ h=>h.elim⟩⟩
  ·rintro b o ⟨rfl,h1,h2⟩
   have:=hr.inF (o-a.off) (by omega);rwa[show a.off +(o-a.off)=o by omega]at this
  ·refine g1.bare fun y us dB hG aR=>ad.ar.read (fun _ _ h=>.inl h) _ _ (fun b o aB=>.inr ⟨g3 b o (hG b o aB),?_⟩) aR
   rintro⟨rfl,h1,h2⟩
   have:=g2 (o-a.off) (by omega);rw[show a.off +(o-a.off)=o by omega]at this;exact this (hG _ o aB)
theorem afC(t:ad)(b:Bool)(m:bg)(c:ba)(cs:List ba)(s:az)(bu:List (Nat×Nat))(r:List t.D×List ba×az×List (Nat×Nat))(v:Value)(vs:List Value)(Z:ah)
  (hi:(ad.sl t).imp b m (c::cs) s bu=some r) (h:Inv w0 F0 Z0 n s a w ι Z) (hc:bO w Z s ι (c::cs) (v::vs)) (hb:∀d,d∈bu→eO s d):
  AM w0 F0 Z0 n s a w ι Z b (fun Z us F=>(ad.sl t).ar w Z m r.1 us F) (v::vs) r.2.1 r.2.2.1 bu r.2.2.2:=by
 have qb:∀{Z m},v=.slice none 0 0→(ad.sl t).ar w Z m ([]:List t.D) [v] ah.none:=by intro Z m hv;subst hv;cases m<;>simp only[ad.ar]<;>exact⟨none,0,rfl,.inl (by simp)⟩
 have frozen:∀(m:bg),m=.R∨(∃ms,m=.S ms)→(ad.sl t).imp b m (c::cs) s bu=some r →
   AM w0 F0 Z0 n s a w ι Z b (fun Z us F=>(ad.sl t).ar w Z m r.1 us F) (v::vs) r.2.1 r.2.2.1 bu r.2.2.2:=by
  intro m hm hi
  have LW:∀{Z:ah}{x:List t.D}{us:List Value},(ad.sl t).ar w Z .R x us ah.none→(ad.sl t).ar w Z m x us ah.none:=by
   rcases hm with rfl|⟨ms,rfl⟩
   ·exact fun h=>h
   ·intro Z x us h;simpa only[ad.ar]using h
  cases b with
  |true=>
   have dr:(p9 s t c).bind (fun x=>some (x,cs,s,borrows s c++bu))=some r:=by rcases hm with rfl|⟨ms,rfl⟩<;>simpa only[ad.imp]using hi
   obtain⟨x,hx,dr⟩:=bb dr;obtain rfl:=aX dr;obtain⟨eD,fb,gD⟩:=LS h hx hc.1;refine⟨[v],vs,ah.none,Z,rfl,h,.refl,hc.2,.none,LW (ad.ar.mono ?_ _ _ (fun _ _ h=>h) eD),⟨_,rfl⟩,fun hf=>by simp at hf,?_,fun _ _ h=>h.elim⟩
   ·rintro b o (hz|⟨d,af,hf⟩)
    ·exact .inl hz
    ·exact .inr ⟨d,List.mem_append.2 (.inl af),hf⟩
   ·intro d af;rcases List.mem_append.1 af with af|af
    ·exact gD d af
    ·exact hb d af
  |false=>
   cases c with
   |nil u=>
    have dr:(eY (.sl u) (.sl t) ([]:List u.D)).bind (fun x=>some (x,cs,s,bu))=some r:=by rcases hm with rfl|⟨ms,rfl⟩<;>simpa only[ad.imp]using hi
    obtain⟨x,hx,dr⟩:=bb dr;obtain rfl:=aX dr;obtain⟨e,rfl⟩:=hK hx;subst e;exact yp h hc.2 hb fun Z=>qb hc.1
   |bG u dp cJ xs=>
    cases dp with
    |cons d dp=>rcases hm with rfl|⟨ms,rfl⟩<;>simp[ad.imp]at hi
    |nil=>
     have dr:(eY (.sl u) (.sl t) xs).bind (fun x=>some (x,cs,s,bu))=some r:=by rcases hm with rfl|⟨ms,rfl⟩<;>simpa only[ad.imp]using hi
     obtain⟨x,hx,dr⟩:=bb dr;obtain rfl:=aX dr;obtain⟨e,rfl⟩:=hK hx;subst e;have p:=hc.1.2.2.1 rfl;refine⟨[v],vs,ah.none,Z,rfl,h,.refl,hc.2,.none,LW (ad.ar.mono ?_ _ _ (fun _ _ h=>h) p),⟨[],rfl⟩,fun _=>rfl,hb,fun _ _ h=>h.elim⟩
     rintro b o (hz|⟨d,af,hf⟩)
     ·exact .inl hz
     ·simp at af
   |af id sub=>
    cases ho:s.o id with
    |row u em ver xs=>
     have dr:(eY (.sl u) (.sl t) (lH sub xs)).bind (fun x=>some (x,cs,s.bV id .dead,bu))=some r:=by rcases hm with rfl|⟨ms,rfl⟩<;>simpa only[ad.imp,ho]using hi
     obtain⟨x,hx,dr⟩:=bb dr;obtain rfl:=aX dr;obtain⟨e,rfl⟩:=hK hx;subst e;have hl:(s.o id).live:=by rw[ho];trivial
     obtain⟨hk,A,m',k,rfl,hh⟩:=hc.1;have c9:=h.gp id;rw[ho]at c9;have p:=ym c9 (hh u em ver xs (mg ho));have iW:=Ur h hl;refine⟨[_],vs,ah.none,Z.or (ι id).F,rfl,h.take id (fun _ _ h=>.inl h) (fun b o hz=>hz.imp (fun h=>h) fun h=>⟨hl,h⟩),iW,hc.2.move iW.eI,.none,LW ?_,⟨[],rfl⟩,fun _=>rfl,fun d af=>LV iW (hb d af),fun _ _ h=>h.elim⟩;exact ad.ar.read (fun _ _ h=>.inl (.inl h)) _ _ (fun b o hf=>.inl (.inr hf)) p
    |_=>rcases hm with rfl|⟨ms,rfl⟩<;>simp[ad.imp,ho]at hi
   |_=>rcases hm with rfl|⟨ms,rfl⟩<;>simp[ad.imp]at hi
 cases m with
 |R=>exact frozen _ (.inl rfl) hi
 |S ms=>exact frozen _ (.inr ⟨ms,rfl⟩) hi
 |O e=>
  cases c with
  |nil u=>
   have dr:(eY (.sl u) (.sl t) ([]:List u.D)).bind (fun x=>some (x,cs,s,bu))=some r:=by cases b<;>simpa only[ad.imp]using hi
   obtain⟨x,hx,dr⟩:=bb dr;obtain rfl:=aX dr;obtain⟨e,rfl⟩:=hK hx;subst e;exact yp h hc.2 hb fun Z=>qb hc.1
  |af id sub=>
   cases ho:s.o id with
   |row u em ver xs=>
    have dr:(if bg.le em e=true then(eY (.sl u) (.sl t) (lH sub xs)).bind (fun x=>some (x,cs,s.bV id .dead,bu)) else none)=some r:=by cases b<;>(simp only[ad.imp,ho]at hi;rw[←hi];cases bg.le em e<;>rfl)
    split at dr
    case isFalse=>simp at dr
    rename_i hle;obtain⟨x,hx,dr⟩:=bb dr;obtain rfl:=aX dr;obtain⟨gX,rfl⟩:=hK hx;subst gX;have hl:(s.o id).live:=by rw[ho];trivial
    obtain⟨hk,A,m',k,rfl,hh⟩:=hc.1;have c9:=h.gp id;rw[ho]at c9;have p:=ym c9 (hh u em ver xs (mg ho));have fD:=h.yk hl;by_cases LX:em=e
    ·subst LX;have iW:ft s ι Z (s.bV id .dead) Z:=yl id (by rw[ho];trivial)
     exact⟨[_],vs,(ι id).F,Z,rfl,h.take id (fun _ _ h=>h) (fun b o hz=>.inl hz),iW,hc.2.move iW.eI,fD,
      ad.ar.mono (fun _ _ h=>.inl h) _ _ (fun _ _ h=>h) p,⟨[],rfl⟩,fun _=>rfl,fun d af=>LV iW (hb d af),fun b o hf=>⟨id,hl,hf⟩⟩
    ·have afD:e=.R:=by
      cases e with
      |R=>rfl
      |O e=>exact absurd (bg.eq_of_beq _ _ hle) LX
      |S e=>exact absurd (bg.eq_of_beq _ _ hle) LX
     subst afD;obtain⟨F',c2,eb⟩:=Us p
     have iW:ft s ι Z (s.bV id .dead) (Z.or fun b o=>(ι id).F b o∧¬F' b o):=by
      have h0:=Ur h hl;refine⟨h0.o,h0.t,h0.g,fun _ _ h=>.inl h,fun b o hz=>?_⟩;rcases hz with h1|h1
      ·exact .inl h1
      ·exact .inr ⟨id,hl,cM _ _ _,h1.1⟩
     refine⟨[_],vs,F',_,rfl,h.take id (fun _ _ h=>.inl h) (fun b o hz=>hz.imp (fun h=>h) fun h=>⟨hl,h.1⟩),iW,hc.2.move iW.eI,⟨fun b o hf=>fD.own b o (c2 b o hf),fun j hj b o hf=>fD.apart j hj b o (c2 b o hf),?_⟩,
      ad.ar.mono (fun _ _ h=>.inl h) _ _ (fun _ _ h=>h) eb,⟨[],rfl⟩,fun _=>rfl,fun d af=>LV iW (hb d af),fun b o hf=>⟨id,hl,c2 b o hf⟩⟩
     rintro b o hf (hz|hz)
     ·exact fD.db b o (c2 b o hf) hz
     ·exact hz.2 hf
   |_=>cases b<;>simp[ad.imp,ho]at hi
  |_=>cases b<;>simp[ad.imp]at hi
mutual
theorem ad.mi:∀(t:ad) (b:Bool) (m:bg) (cs:List ba) (s:az) (bu:List (Nat×Nat)) (r:t.D×List ba×az×List (Nat×Nat)) (vs:List Value) (Z:ah),
  t.imp b m cs s bu=some r→Inv w0 F0 Z0 n s a w ι Z→bO w Z s ι cs vs→(∀d,d∈bu→eO s d) →
  AM w0 F0 Z0 n s a w ι Z b (fun Z us F=>t.ar w Z m r.1 us F) vs r.2.1 r.2.2.1 bu r.2.2.2
 |.int k,b,m,cs,s,bu,r,vs,Z,hi,h,hc,hb=>by
  cases cs with
  |nil=>cases m<;>simp[ad.imp]at hi
  |cons c cs=>
   cases vs with
   |nil=>exact hc.elim
   |cons v vs=>
    cases c<;>simp only[ad.imp]at hi<;>try (simp at hi;done)
    rename_i k' x;cases hk:Nat.beq (dD k) (dD k')
    ·rw[hk]at hi;simp at hi
    ·rw[hk]at hi;obtain rfl:=aX hi;obtain rfl:=vk (Nat.eq_of_beq_eq_true hk);have hv:v=.int k x:=hc.1;subst hv;exact yp h hc.2 hb fun Z=>by simp only[ad.ar]
 |.bool,b,m,cs,s,bu,r,vs,Z,hi,h,hc,hb=>by
  cases cs with
  |nil=>cases m<;>simp[ad.imp]at hi
  |cons c cs=>
   cases vs with
   |nil=>exact hc.elim
   |cons v vs=>
    cases c<;>simp only[ad.imp]at hi<;>try (simp at hi;done)
    obtain rfl:=aX hi;have hv:v=.bool _:=hc.1;subst hv;exact yp h hc.2 hb fun Z=>by simp only[ad.ar]
 |.str,b,m,cs,s,bu,r,vs,Z,hi,h,hc,hb=>by
  cases cs with
  |nil=>cases m<;>simp[ad.imp]at hi
  |cons c cs=>
   cases vs with
   |nil=>exact hc.elim
   |cons v vs=>
    cases c<;>simp only[ad.imp]at hi<;>try (simp at hi;done)
    obtain rfl:=aX hi;obtain⟨q,rfl,hq⟩:=hc.1;exact yp h hc.2 hb fun Z=>by simp only[ad.ar];exact⟨q,rfl,hq⟩
 |.raw,b,m,cs,s,bu,r,vs,Z,hi,h,hc,hb=>by
  cases cs with
  |nil=>cases m<;>simp[ad.imp]at hi
  |cons c cs=>
   cases vs with
   |nil=>exact hc.elim
   |cons v vs=>
    cases c<;>simp only[ad.imp]at hi<;>try (simp at hi;done)
    obtain rfl:=aX hi;obtain⟨q,hq⟩:=hc.1;exact yp h hc.2 hb fun Z=>by simp only[ad.ar];exact⟨by rw[q],hq⟩
 |.sl t,b,m,cs,s,bu,r,vs,Z,hi,h,hc,hb=>by
  cases cs with
  |nil=>cases m<;>cases b<;>simp[ad.imp]at hi
  |cons c cs=>
   cases vs with
   |nil=>exact hc.elim
   |cons v vs=>exact afC t b m c cs s bu r v vs Z hi h hc hb
 |.st ak,b,m,cs,s,bu,r,vs,Z,hi,h,hc,hb=>by simp only[ad.imp]at hi;have:=aA.mi ak b m.parts cs s bu r vs Z hi h hc hb;simpa only[ad.ar]using this
theorem aA.mi:∀(ak:aA) (b:Bool) (m:c5) (cs:List ba) (s:az) (bu:List (Nat×Nat)) (r:ak.D×List ba×az×List (Nat×Nat)) (vs:List Value) (Z:ah),
  ak.imp b m cs s bu=some r→Inv w0 F0 Z0 n s a w ι Z→bO w Z s ι cs vs→(∀d,d∈bu→eO s d) →
  AM w0 F0 Z0 n s a w ι Z b (fun Z us F=>ak.ar w Z m r.1 us F) vs r.2.1 r.2.2.1 bu r.2.2.2
 |.nil,b,m,cs,s,bu,r,vs,Z,hi,h,hc,hb=>by simp only[aA.imp]at hi;obtain rfl:=aX hi;exact⟨[],vs,ah.none,Z,rfl,h,.refl,hc,.none,by simp only[aA.ar],⟨[],rfl⟩,fun _=>rfl,hb,fun _ _ h=>h.elim⟩
 |.cons t ak,b,m,cs,s,bu,r,vs,Z,hi,h,hc,hb=>by
  simp only[aA.imp]at hi;obtain⟨bF,h1,hi⟩:=bb hi;obtain⟨cq,h2,hi⟩:=bb hi;obtain rfl:=aX hi;obtain⟨us,vs1,F,cI,e1,i1,s1,c1,f1,eD,⟨afE,fw⟩,jw,d1,g1⟩:=ad.mi t b m.af cs s bu bF vs Z h1 h hc hb;obtain⟨us2,vs2,G,bR,e2,i2,s2,fV,f2,fb,⟨LY,kH⟩,nZ,d2,g2⟩:=aA.mi ak b m.dK bF.2.1 bF.2.2.1 bF.2.2.2 cq vs1 cI h2 i1 c1 d1
  have lL:ah.sub (cI.or (dz ι bF.2.2.2)) (bR.or (dz ι cq.2.2.2)):=by
   rintro b o (hz|hz)
   ·exact .inl (s2.dU b o hz)
   ·rw[kH];exact .inr (LU _ _ _ b o hz)
  refine⟨us++us2,vs2,F.or G,bR,by rw[e1,e2,List.append_assoc],i2,s1.trans s2,fV,(f1.shrink s2).or f2,?rep,⟨LY++afE,by rw[kH,fw,List.append_assoc]⟩,fun hf=>by rw[nZ hf,jw hf],d2,?src⟩
  case src=>
   rintro b o (hf|hf)
   ·exact g1 b o hf
   ·obtain⟨id,hl,hi⟩:=g2 b o hf;exact⟨id,(s1.live hl).1,hi⟩
  simp only[aA.ar];refine⟨us,us2,F,G,rfl,ad.ar.mono lL _ _ (fun _ _ h=>h) eD,fb,?_,fun _ _ h=>.inl h,fun _ _ h=>.inr h⟩;intro b o h1 h2;obtain⟨id,hl,hi⟩:=g2 b o h2;exact f1.apart id hl b o h1 hi
end
end
end Go.LM
namespace Go.LM
theorem Row.get{α:Type}{w:World}{R:α→List Value→ah→Prop}{size:Nat}:∀{x:List α}{b o:Nat}{F:ah} (i:Nat) (hi:i<x.length),Row w R size x b o F →
  ∃vs G,R x[i] vs G∧vs.length=size∧cf w b (o+i*size) vs∧ah.sub G F
 |y::x,b,o,F,0,_,⟨vs,G,H,h1,h2,h3,h4,a6,bj,bL⟩=>⟨vs,G,h1,h2,by simpa using h3,bj⟩
 |y::x,b,o,F,i+1,hi,⟨vs,G,H,h1,h2,h3,h4,a6,bj,bL⟩=>by obtain⟨us,dB,k1,k2,k3,bn⟩:=Row.get i (by simpa using hi) h4;refine⟨us,dB,k1,k2,?_,fun b o h=>bL b o (bn b o h)⟩;rwa[show o +(i+1)*size=o+size+i*size by rw[Nat.add_one_mul];omega]
theorem Row.set{α:Type}{w w':World}{R js:α→List Value→ah→Prop}{size:Nat}{bA:α}{F1:ah}:∀{x:List α}{b o:Nat}{F:ah} (i:Nat) (hi:i<x.length),Row w R size x b o F →
  (∀y vs G,ah.sub G F→R y vs G→js y vs G) →
  (∀j,j<x.length*size→(j<i*size∨(i+1)*size≤j)→w'.cell? (at_ b (o+j))=w.cell? (at_ b (o+j))) →
  (∀vs G,R x[i] vs G→vs.length=size→cf w b (o+i*size) vs→ah.sub G F→∃bK,bK.length=size∧cf w' b (o+i*size) bK∧js bA bK (G.or F1)) →
  ah.apart F1 F→Row w' js size (x.set i bA) b o (F.or F1)
 |y::x,b,o,F,0,_,⟨vs,G,H,h1,h2,h3,h4,a6,bj,bL⟩,fa,hc,hn,ha=>by
  obtain⟨bK,k1,k2,k3⟩:=hn vs G h1 h2 (by simpa using h3) bj;refine⟨bK,G.or F1,H,k3,k1,by simpa using k2,?_,?_,?_,fun b o h=>.inl (bL b o h)⟩
  ·refine Row.imp h4 (fun y vs dB hG=>fa y vs dB fun b o h=>bL b o (hG b o h)) fun j hj=>?_
   have:=hc (size+j) (by rw[List.length_cons,Nat.add_one_mul];omega) (.inr (by simp));rwa[←Nat.add_assoc]at this
  ·rintro b o (h|h) hh
   ·exact a6 b o h hh
   ·exact ha b o h (bL b o hh)
  ·rintro b o (h|h)
   ·exact .inl (bj b o h)
   ·exact .inr h
 |y::x,b,o,F,i+1,hi,⟨vs,G,H,h1,h2,h3,h4,a6,bj,bL⟩,fa,hc,hn,ha=>by
  refine⟨vs,G,H.or F1,fa _ _ _ bj h1,h2,?_,?_,?_,fun b o h=>.inl (bj b o h),?_⟩
  ·refine h3.of_eq fun k hk=>hc k ?_ (.inl ?_)
   ·rw[List.length_cons,Nat.add_one_mul];omega
   ·rw[Nat.add_one_mul];omega
  ·refine Row.set i (by simpa using hi) h4 (fun y vs dB hG=>fa y vs dB fun b o h=>bL b o (hG b o h)) ?_ ?_ (fun b o h k=>ha b o h (bL b o k))
   ·intro j hj LZ
    have:=hc (size+j) (by rw[List.length_cons,Nat.add_one_mul];omega) (by
     rcases LZ with h|h
     ·left;rw[Nat.add_one_mul];omega
     ·right;rw[Nat.add_one_mul];omega)
    rwa[←Nat.add_assoc]at this
   ·intro bK dB k1 k2 k3 bn;have:=hn bK dB k1 k2 (by rwa[show o +(i+1)*size=o+size+i*size by rw[Nat.add_one_mul];omega]) (fun b o h=>bL b o (bn b o h));rwa[show o +(i+1)*size=o+size+i*size by rw[Nat.add_one_mul];omega]at this
  ·rintro b o h (hh|hh)
   ·exact a6 b o h hh
   ·exact ha b o hh (bj b o h)
  ·rintro b o (h|h)
   ·exact .inl (bL b o h)
   ·exact .inr h
section
variable{w0:World}{F0 Z0:ah}{n:cN}{s au:az}{a b8:Act}{w w':World}{ι bp:Nat→bI}{Z Z':ah}
def m0(w:World)(s:az)(ι:Nat→bI)(dp:List (Nat×Nat))(cJ:Option Place)(vs:List Value):Prop:=
 ∀k v,vs[k]?=some v→tk w s ι dp (cJ.map fun p=> { p with off:=p.off+k }) v
theorem m0.none{dp:List (Nat×Nat)}{vs:List Value}:m0 w s ι dp none vs:=fun _ _ _=>.none
theorem m0.head{dp:List (Nat×Nat)}{cJ:Option Place}{v:Value}{vs:List Value}(h:m0 w s ι dp cJ (v::vs)):tk w s ι dp cJ v:=by
 have:=h 0 v rfl
 cases cJ with
 |none=>exact .none
 |some p=>simpa using this
theorem m0.left{dp:List (Nat×Nat)}{cJ:Option Place}{us vs:List Value}(h:m0 w s ι dp cJ (us++vs)):m0 w s ι dp cJ us:=fun k v hv=>h k v (by rw[List.getElem?_append_left (List.getElem?_eq_some_iff.1 hv).1];exact hv)
theorem m0.right{dp:List (Nat×Nat)}{cJ:Option Place}{us vs:List Value}(h:m0 w s ι dp cJ (us++vs)):m0 w s ι dp (cJ.map fun p=> { p with off:=p.off+us.length }) vs:=fun k v hv=>by
 have:=h (us.length+k) v (by rw[List.getElem?_append_right (by omega)];simpa using hv)
 cases cJ with
 |none=>exact .none
 |some p=>simpa[Nat.add_assoc]using this
mutual
theorem ad.rr:∀(t:ad) (dp:List (Nat×Nat)) (cJ:Option Place) {x:t.D}{vs:List Value},(∀d,d∈dp→eO s d) →
  (alive s dp=true→t.ar w (Z.or (dz ι dp)) .R x vs ah.none)→(∃m Z' F',t.ar w Z' m x vs F')→m0 w s ι dp cJ vs→bO w Z s ι (t.cells dp cJ x) vs
 |.int k,dp,cJ,x,vs,af,h,⟨m,Z',F',h'⟩,m1=>by simp only[ad.ar]at h';subst h';exact⟨rfl,trivial⟩
 |.bool,dp,cJ,x,vs,af,h,⟨m,Z',F',h'⟩,m1=>by simp only[ad.ar]at h';subst h';exact⟨rfl,trivial⟩
 |.str,dp,cJ,x,vs,af,h,⟨m,Z',F',h'⟩,m1=>by simp only[ad.ar]at h';obtain⟨q,rfl,hq⟩:=h';exact⟨⟨q,rfl,hq⟩,trivial⟩
 |.raw,dp,cJ,x,vs,af,h,⟨m,Z',F',h'⟩,m1=>by simp only[ad.ar]at h';obtain⟨rfl,hq⟩:=h';exact⟨⟨rfl,hq⟩,trivial⟩
 |.sl t,dp,cJ,x,vs,af,h,⟨m,Z',F',h'⟩,m1=>by
  have hv:∃A c,vs=[.slice A x.length c]:=by cases m<;>(simp only[ad.ar]at h';obtain⟨A,c,hv,_⟩:=h';exact⟨A,c,hv⟩)
  obtain⟨A,c,rfl⟩:=hv;exact⟨⟨af,⟨A,_,c,rfl⟩,h,m1.head⟩,trivial⟩
 |.st ak,dp,cJ,x,vs,af,h,⟨m,Z',F',h'⟩,m1=>by simp only[ad.ar]at h h';simp only[ad.cells];exact aA.rr ak dp cJ af h ⟨_,_,_,h'⟩ m1
theorem aA.rr:∀(ak:aA) (dp:List (Nat×Nat)) (cJ:Option Place) {x:ak.D}{vs:List Value},(∀d,d∈dp→eO s d) →
  (alive s dp=true→ak.ar w (Z.or (dz ι dp)) (bg.parts .R) x vs ah.none)→(∃m Z' F',ak.ar w Z' m x vs F')→m0 w s ι dp cJ vs→bO w Z s ι (ak.cells dp cJ x) vs
 |.nil,dp,cJ,x,vs,af,h,⟨m,Z',F',h'⟩,m1=>by simp only[aA.ar]at h';subst h';trivial
 |.cons t ak,dp,cJ,x,vs,af,h,⟨m,Z',F',h'⟩,m1=>by
  simp only[aA.ar]at h h';obtain⟨us,bK,G,H,rfl,h2,h3,_⟩:=h';have hlen:=(ad.ar.len t _ h2).1;simp only[aA.cells];refine bO.append (ad.rr t dp cJ af (fun ha=>?_) ⟨_,_,_,h2⟩ m1.left) (aA.rr ak dp _ af (fun ha=>?_) ⟨_,_,_,h3⟩ (hlen▸m1.right))
  ·obtain⟨aY,afF,dB,gv,e,k2,k3,bn,bs,dh⟩:=h ha;have:=(ad.ar.len t _ k2).1;obtain⟨rfl,rfl⟩:=List.append_inj e (by omega);exact ad.ar.mono (fun _ _ h=>h) _ _ bs k2
  ·obtain⟨aY,afF,dB,gv,e,k2,k3,bn,bs,dh⟩:=h ha;have:=(ad.ar.len t _ k2).1;obtain⟨rfl,rfl⟩:=List.append_inj e (by omega);exact aA.ar.mono (fun _ _ h=>h) _ _ dh k3
end
theorem qc{off k:Nat}{cs ds:List ba}(h:takeN off k cs=some ds):off+k≤cs.length∧ds=(cs.drop off).take k:=by
 unfold takeN at h;cases hb:Nat.ble (off+k) cs.length
 ·rw[hb]at h;simp at h
 ·rw[hb]at h;exact⟨Nat.le_of_ble_eq_true hb,(aX h).symm⟩
theorem c3{t:ad}{xs:List t.D}{i:Nat}(hi:i<xs.length):I t xs i=xs[i]:=by simp[I,hi]
theorem Ut(h:Inv w0 F0 Z0 n s a w ι Z){id:Nat}{t:ad}{em:bg}{ver:Nat}{xs:List t.D}(ho:s.o id=.row t em ver xs){i:Nat}(hi:i<xs.length):
  ∃a0 vs,(ι id).base=some a0∧a0.spot=none∧bO w Z s ι (Lu t em id ver i (I t xs i)) vs∧cf w a0.block (a0.off+i*t.size) vs∧vs.length=t.size:=by
 have c9:=h.gp id;rw[ho]at c9;rcases c9 with⟨rfl,_⟩|⟨a0,hb,hr⟩
 ·simp at hi
 ·obtain⟨G,g1,g2,g3⟩:=hr.row;obtain⟨vs,dB,k1,k2,k3,bn⟩:=g1.get i hi;refine⟨a0,vs,hb,hr.spot,?_,k3,k2⟩;rw[c3 hi]
  have key:∀dp cJ,(∀d,d∈dp→eO s d)→(em=.R∨(id,ver)∈dp)→m0 w s ι dp cJ vs→bO w Z s ι (t.cells dp cJ xs[i]) vs:=by
   intro dp cJ af vw m1;refine ad.rr t dp cJ af (fun ha=>?_) ⟨_,_,_,k1⟩ m1;rcases vw with rfl|hm
   ·exact ad.ar.mono (fun _ _ h=>.inl h) _ _ (fun _ _ h=>h) (ad.ar.read (Z:=Z) (Z':=Z) (F:=ah.none) (fun _ _ h=>h) t .R (fun _ _ h=>h.elim) (by
     have:=k1
     exact tj this))
   ·exact ad.ar.read (fun _ _ h=>.inl h) t em (fun b o aB=>.inr ⟨_,hm,g3 b o (bn b o aB)⟩) k1
  unfold Lu;split
  ·exact key [] _ (by simp) (.inl rfl) .none
  ·refine key _ _ ?_ (.inr (by simp)) ?_
   case refine_2=>
    intro k v hv p av;simp only[Option.map_some,Option.some.injEq]at av;subst av;refine⟨⟨(id,ver),by simp,rfl⟩,fun _=>?_⟩;have hk:k<t.size:=by rw[←k2];exact(List.getElem?_eq_some_iff.1 hv).1
    have L0:(i+1)*t.size≤(ι id).cap*t.size:=Nat.mul_le_mul_right _ (by have:=hr.cap;omega);rw[Nat.add_one_mul]at L0;refine⟨a0.block,a0.off+i*t.size+k,⟨rfl,?_⟩,k3 k v hv,?_⟩
    ·show match (s.o id).core with|.var _ _=>_|.row t _ _ xs=>_|_=>_
     rw[ho];exact⟨i,rfl,hi,a0,hb,by simp⟩
    ·have:=hr.inF (i*t.size+k) (by omega);rwa[←Nat.add_assoc]at this
   intro d af;simp at af;subst af;exact⟨by simp[known,ho],.inr (by simp[lf,ho])⟩
theorem AN(h:Inv w0 F0 Z0 n s a w ι Z){k:Nat}{p:Place}{cs:List ba}{A:Addr}(hr:mX s k p=some cs)(av:j2 s ι p A):
  ∃b o vs,A=at_ b o∧bO w Z s ι cs vs∧cf w b o vs∧vs.length=k:=by
 obtain⟨hs,av⟩:=av;unfold mX at hr
 cases ho:s.o p.id with
 |var ver old=>rw[ho]at hr av;obtain⟨he,a0,hb,rfl⟩:=av;rw[he]at hr;obtain⟨h1,rfl⟩:=qc hr;have c9:=h.gp p.id;rw[ho]at c9;obtain⟨yn,vs,dV,hsp,hc,cE,_⟩:=c9;rw[hb]at dV;obtain rfl:=aX dV;refine⟨_,_,(vs.drop p.off).take k,rfl,(hc.drop _).take _,cE.part _ _,?_⟩;have:=hc.len;simp;omega
 |row t em ver xs=>
  rw[ho]at hr av;obtain⟨i,he,hi,a0,hb,rfl⟩:=av;rw[he]at hr;obtain⟨h1,rfl⟩:=qc hr;obtain⟨yn,vs,dV,hsp,hc,cE,hl⟩:=Ut h ho hi;rw[hb]at dV;obtain rfl:=aX dV;refine⟨_,_,(vs.drop p.off).take k,rfl,(hc.drop _).take _,?_,?_⟩
  ·have:=cE.part p.off k;exact this
  ·have:=hc.len;simp;omega
 |none=>rw[ho]at hr;simp at hr
 |dead=>rw[ho]at hr;simp at hr
 |cr=>rw[ho]at hr;simp at hr
theorem afG{id:Nat}(cm:s.o id=.none)(o:cD)(i:bI):e5 w Z s ι w Z (s.bV id o) (bW ι id i):=by
 refine⟨fun j=>?_,fun _ _ h=>h,ch.refl _ _⟩;show ju (s.o j) (ι j) (bW s.o id o j) (bW ι id i j);by_cases hj:id=j
 ·subst hj;rw[cm];exact .made _ _ _
 ·rw[cX hj,cX hj];exact .stay _ _
theorem Inv.Ee(h:Inv w0 F0 Z0 n s a w ι Z){id:Nat}(cm:s.o id=.none){o:cD}{i:bI}
  (cT:iG w Z (s.bV id o) (bW ι id i) i o) (hF:bM w0 F0 s w ι Z i.F):Inv w0 F0 Z0 n (s.bV id o) a w (bW ι id i) Z:=by
 have hm:=afG (w:=w) (Z:=Z) (ι :=ι) cm o i;refine h.next hm (Ext.refl _ ah.none) (fun _ _ h=>h.elim) (fun _ _ h=>.inl h) ?_ ?_ (fun k=>(h.tmps k).move hm) h.size h.defers
 ·intro j hl hne;by_cases hj:id=j
  ·subst hj;rw[cM];refine⟨by show iG _ _ _ _ _ (bW s.o id o id);rw[cM];exact cT,hF.own,fun lK gC km=>?_⟩;rw[cX km];have ei:(s.o lK).live:=by have:(bW s.o id _ lK).live:=gC;rwa[cX km]at this
   exact hF.apart lK ei
  ·exact absurd ⟨cX hj,cX hj⟩ hne
 ·intro j hl;by_cases hj:id=j
  ·subst hj;rw[cM];exact hF.db
  ·rw[cX hj];have ei:(s.o j).live:=by have:(bW s.o id _ j).live:=hl;rwa[cX hj]at this
   exact h.db j ei
structure mj(s:az)(ι:Nat→bI)(au:az)(bp:Nat→bI):Prop where
 o:∀id,s.o id≠.none→au.o id=s.o id∧bp id=ι id
 t:au.t=s.t
 g:au.g=s.g
 nl:∀id o',s.o id=.none→au.o id≠.cr o'
theorem mj.refl:mj s ι s ι :=⟨fun _ _=>⟨rfl,rfl⟩,rfl,rfl,fun _ _ h=>by rw[h];simp⟩
theorem mj.trans{s2:az}{eU:Nat→bI}(h:mj s ι au bp)(k:mj au bp s2 eU):mj s ι s2 eU:=
 ⟨fun id hn=>by have h1:=h.o id hn;have h2:=k.o id (by rw[h1.1];exact hn);exact⟨h2.1.trans h1.1,h2.2.trans h1.2⟩,k.t.trans h.t,k.g.trans h.g,fun id o' hn=>by
  by_cases hm:au.o id=.none
  ·exact k.nl id o' hm
  ·rw[(k.o id hm).1];exact h.nl id o' hn⟩
theorem mj.eI(h:mj s ι au bp):e5 w Z s ι w Z au bp:=by
 refine⟨fun id=>?_,fun _ _ h=>h,ch.refl _ _⟩;by_cases hn:s.o id=.none
 ·rw[hn];exact .made _ _ _
 ·rw[(h.o id hn).1,(h.o id hn).2];exact .stay _ _
theorem afH{id:Nat}(cm:s.o id=.none)(o:cD)(i:bI)(hnl:∀o',o≠.cr o'):mj s ι (s.bV id o) (bW ι id i):=by
 refine⟨fun j hn=>?_,rfl,rfl,fun j o' hn=>?_⟩
 ·have hj:id≠j:=fun e=>hn (e▸cm)
  exact⟨cX hj,cX hj⟩
 ·show bW s.o id o j≠_;by_cases hj:id=j
  ·subst hj;rw[cM];exact hnl o'
  ·rw[cX hj,hn];simp
def L1(w0:World)(F0 Z0:ah)(n:cN)(s:az)(a:Act)(w:World)(ι:Nat→bI)(Z:ah)(vs:List Value)(F:ah)(cs:List ba)(au:az):Prop:=
 ∃ bp,Inv w0 F0 Z0 n au a w bp Z∧mj s ι au bp∧bO w Z au bp cs vs∧∀G,bM w0 F0 s w ι Z G→ah.apart G F→bM w0 F0 au w bp Z G
theorem vx(h:Inv w0 F0 Z0 n s a w ι Z){vs:List Value}{F:ah}{cs:List ba}(hc:bO w Z s ι cs vs):L1 w0 F0 Z0 n s a w ι Z vs F cs s:=
 ⟨ι,h,.refl,hc,fun _ hG _=>hG⟩
mutual
theorem ad.o7:∀(t:ad) (m:bg) (dp:List (Nat×Nat)) (x:t.D) (s:az) (ι:Nat→bI) (j:Nat) (r:List ba×az×Nat) (vs:List Value) (F:ah),
  t.ie m dp x s j=some r→Inv w0 F0 Z0 n s a w ι Z→t.ar w (Z.or (dz ι dp)) m x vs F→bM w0 F0 s w ι Z F→ah.apart F (dz ι dp)→(∀d,d∈dp→eO s d) →
  L1 w0 F0 Z0 n s a w ι Z vs F r.1 r.2.1
 |.int k,m,dp,x,s,ι,j,r,vs,F,he,h,hr,hf,n0,af=>by simp only[ad.ie]at he;obtain rfl:=aX he;simp only[ad.ar]at hr;subst hr;exact vx h ⟨rfl,trivial⟩
 |.bool,m,dp,x,s,ι,j,r,vs,F,he,h,hr,hf,n0,af=>by simp only[ad.ie]at he;obtain rfl:=aX he;simp only[ad.ar]at hr;subst hr;exact vx h ⟨rfl,trivial⟩
 |.str,m,dp,x,s,ι,j,r,vs,F,he,h,hr,hf,n0,af=>by simp only[ad.ie]at he;obtain rfl:=aX he;simp only[ad.ar]at hr;obtain⟨q,rfl,hq⟩:=hr;exact vx h ⟨⟨q,rfl,hq⟩,trivial⟩
 |.raw,m,dp,x,s,ι,j,r,vs,F,he,h,hr,hf,n0,af=>by simp only[ad.ie]at he;obtain rfl:=aX he;simp only[ad.ar]at hr;obtain⟨rfl,hq⟩:=hr;exact vx h ⟨⟨rfl,hq⟩,trivial⟩
 |.sl t,.R,dp,x,s,ι,j,r,vs,F,he,h,hr,hf,n0,af=>by simp only[ad.ie]at he;obtain rfl:=aX he;have iX:=hr;simp only[ad.ar]at hr;obtain⟨A,c,rfl,_⟩:=hr;exact vx h ⟨⟨af,⟨A,_,c,rfl⟩,fun _=>tj iX,.none⟩,trivial⟩
 |.sl t,.S ms,dp,x,s,ι,j,r,vs,F,he,h,hr,hf,n0,af=>by
  simp only[ad.ie]at he;obtain rfl:=aX he;have iX:(ad.sl t).ar w (Z.or (dz ι dp)) .R x vs F:=by simp only[ad.ar]at hr⊢;exact hr
  simp only[ad.ar]at hr;obtain⟨A,c,rfl,_⟩:=hr;exact vx h ⟨⟨af,⟨A,_,c,rfl⟩,fun _=>tj iX,.none⟩,trivial⟩
 |.sl t,.O e,dp,x,s,ι,j,r,vs,F,he,h,hr,hf,n0,af=>by
  simp only[ad.ie]at he;cases hq:(dp.isEmpty||bg.beq e t.own)
  ·rw[hq]at he;simp at he
  rw[hq]at he
  cases ho:s.o j with
  |none=>
   rw[ho]at he;obtain rfl:=aX he
   have gZ:(ad.sl t).ar w Z (.O e) x vs F:=by
    cases n1:dp with
    |nil=>subst n1;exact ad.ar.mono (fun b o hz=>hz.elim (fun h=>h) fun⟨d,af,_⟩=>by simp at af) _ _ (fun _ _ h=>h) hr
    |cons d auD=>subst n1;have he:e=t.own:=bg.eq_of_beq _ _ (by simpa using hq);subst he;exact vu (.sl t) hr
   simp only[ad.ar]at gZ;obtain⟨A,c,rfl,gZ⟩:=gZ
   let i:bI:=⟨A,c,F⟩
   have cT:iG w Z (s.bV j (.row t e 0 x)) (bW ι j i) i (.row t e 0 x):=by
    rcases gZ with gZ|⟨a0,hA,gZ⟩
    ·exact .inl gZ
    ·exact .inr ⟨a0,hA,gZ⟩
   refine⟨bW ι j i,h.Ee ho cT hf,afH ho _ _ (fun o'=>by simp),⟨⟨?_,A,_,c,rfl,?_⟩,trivial⟩,?_⟩
   ·show bW s.o j _ j≠_;rw[cM];simp
   ·intro cQ em ver xs hh;have this:(bW s.o j (cD.row t e 0 x) j).core=.row cQ em ver xs:=hh;rw[cM]at this;have this:cD.row t e 0 x=.row cQ em ver xs:=this;injection this with h1 h2 h3 h4
    subst h1;obtain rfl:=eq_of_heq h4;rw[cM];refine⟨rfl,by simp[eH],?_,by simp[eH,i],?_⟩
    ·rcases gZ with⟨hx,hc⟩|⟨a0,hA,gZ⟩
     ·subst hx;simp
     ·exact gZ.cap
    ·rcases gZ with⟨hx,hc⟩|⟨a0,hA,gZ⟩
     ·exact .inl hc
     ·refine .inr ⟨a0,hA,?_⟩;rw[hA];have:=gZ.spot;obtain⟨ru,off,sp⟩:=a0;subst this;simp[eH,at_]
   ·intro G hG hGF;refine⟨hG.own,fun id hl=>?_,hG.db⟩;by_cases hj:j=id
    ·subst hj;rw[cM];exact hGF
    ·rw[cX hj];exact hG.apart id (by have:(bW s.o j _ id).live:=hl;rwa[cX hj]at this)
  |_=>rw[ho]at he;simp at he
 |.st ak,m,dp,x,s,ι,j,r,vs,F,he,h,hr,hf,n0,af=>by simp only[ad.ie]at he;simp only[ad.ar]at hr;exact aA.o7 ak m.parts dp x s ι j r vs F he h hr hf n0 af
theorem aA.o7:∀(ak:aA) (m:c5) (dp:List (Nat×Nat)) (x:ak.D) (s:az) (ι:Nat→bI) (j:Nat) (r:List ba×az×Nat) (vs:List Value) (F:ah),
  ak.ie m dp x s j=some r→Inv w0 F0 Z0 n s a w ι Z→ak.ar w (Z.or (dz ι dp)) m x vs F→bM w0 F0 s w ι Z F→ah.apart F (dz ι dp)→(∀d,d∈dp→eO s d) →
  L1 w0 F0 Z0 n s a w ι Z vs F r.1 r.2.1
 |.nil,m,dp,x,s,ι,j,r,vs,F,he,h,hr,hf,n0,af=>by simp only[aA.ie]at he;obtain rfl:=aX he;simp only[aA.ar]at hr;subst hr;exact vx h trivial
 |.cons t ak,m,dp,x,s,ι,j,r,vs,F,he,h,hr,hf,n0,af=>by
  simp only[aA.ie]at he;obtain⟨bF,h1,he⟩:=bb he;obtain⟨cq,h2,he⟩:=bb he;obtain rfl:=aX he;simp only[aA.ar]at hr;obtain⟨us,bK,G,H,rfl,eD,fb,gD,gb,m2⟩:=hr;have afI:bM w0 F0 s w ι Z G:=⟨fun b o aB=>hf.own b o (gb b o aB),fun id hl b o aB=>hf.apart id hl b o (gb b o aB),fun b o aB=>hf.db b o (gb b o aB)⟩;have afJ:bM w0 F0 s w ι Z H:=⟨fun b o aB=>hf.own b o (m2 b o aB),fun id hl b o aB=>hf.apart id hl b o (m2 b o aB),fun b o aB=>hf.db b o (m2 b o aB)⟩;obtain⟨dL,i1,g1,c1,f1⟩:=ad.o7 t m.af dp x.1 s ι j bF us G h1 h eD afI (fun b o aB=>n0 b o (gb b o aB)) af;have Uu:∀d,d∈dp→s.o d.1≠.none:=fun d iH=>(af d iH).1
  have Uv:∀b o,dz ι dp b o↔dz dL dp b o:=by
   intro b o;constructor
   ·rintro⟨d,iH,hx⟩;exact⟨d,iH,by rw[(g1.o d.1 (Uu d iH)).2];exact hx⟩
   ·rintro⟨d,iH,hx⟩;exact⟨d,iH,by rw[(g1.o d.1 (Uu d iH)).2]at hx;exact hx⟩
  have gE:∀d,d∈dp→eO bF.2.1 d:=by intro d iH;have:=af d iH;unfold eO known lf at *;rw[(g1.o d.1 this.1).1];exact this
  obtain⟨eU,i2,g2,fV,f2⟩:=aA.o7 ak m.dK dp x.2 bF.2.1 dL bF.2.2 cq bK H h2 i1 (aA.ar.mono (fun b o hz=>hz.imp (fun h=>h) (fun h=>(Uv b o).1 h)) _ _ (fun _ _ h=>h) fb)
   (f1 H afJ (fun b o k1 k2=>gD b o k2 k1)) (fun b o k1 k2=>n0 b o (m2 b o k1) ((Uv b o).2 k2)) gE
  refine⟨eU,i2,g1.trans g2,(c1.move g2.eI).append fV,fun dB L2 hGF=>?_⟩;exact f2 dB (f1 dB L2 fun b o k1 k2=>hGF b o k1 (gb b o k2)) fun b o k1 k2=>hGF b o k1 (m2 b o k2)
end
end
end Go.LM
namespace Go.LM
def dw{α:Type}(l:List α)(k:Nat)(us:List α):List α :=l.take k++us++l.drop (k+us.length)
theorem Ef{α:Type}(l:List α)(k:Nat):dw l k []=l:=by simp[dw]
theorem Ll{α:Type}{l us:List α}{k:Nat}(h:k+us.length≤l.length):(dw l k us).length=l.length:=by simp[dw];omega
theorem afK{α:Type}{A B us:List α}{k:Nat}(h:k+us.length≤A.length):dw (A++B) k us=dw A k us++B:=by unfold dw;rw[List.take_append_of_le_length (by omega),List.drop_append_of_le_length (by omega)];simp[List.append_assoc]
theorem Uw{α:Type}{A B us:List α}{k:Nat}(h:A.length≤k):dw (A++B) k us=A++dw B (k-A.length) us:=by
 unfold dw;obtain⟨j,rfl⟩:∃j,k=A.length+j:=⟨k-A.length,by omega⟩
 rw[List.take_append,List.take_of_length_le (by omega),Nat.add_sub_cancel_left,show A.length+j+us.length=A.length +(j+us.length) by omega,List.drop_append,List.drop_of_length_le (by omega),Nat.add_sub_cancel_left];simp[List.append_assoc]
theorem afL{α:Type}{A B us vs:List α}{k:Nat}(h:k+us.length=A.length):dw (A++B) k (us++vs)=dw A k us++dw B 0 vs:=by unfold dw;rw[List.take_append_of_le_length (by omega),List.length_append,show k +(us.length+vs.length)=A.length+vs.length by omega,List.drop_append,List.drop_of_length_le (by omega),Nat.add_sub_cancel_left,h,List.drop_length];simp[List.append_assoc]
theorem afM{α:Type}{l us:List α}(h:us.length=l.length):dw l 0 us=us:=by unfold dw;rw[List.take_zero,Nat.zero_add,h,List.drop_length];simp
section
variable{w0:World}{F0 Z0:ah}{n:cN}{s au:az}{a b8:Act}{w w':World}{ι bp:Nat→bI}{Z Z':ah}
def Ux(w0:World)(F0 Z0:ah)(n:cN)(s:az)(a:Act)(w:World)(ι:Nat→bI)(Z:ah)(Uy:List Value→ah→Prop)(R:ah→List Value→ah→Prop)(size skip:Nat)(vs:List Value)
  (cs':List ba) (au:az):Prop:=
 ∃us rest F1 Z',vs=us++rest∧Inv w0 F0 Z0 n au a w ι Z'∧ft s ι Z au Z'∧bO w Z' au ι cs' rest∧bM w0 F0 au w ι Z' F1 ∧
  (∀b o,F1 b o→∃id,(s.o id).live∧(ι id).F b o)∧skip+us.length≤size∧(cs'≠[]→skip+us.length=size) ∧
  ∀old G,Uy old G→∀id,(au.o id).live→ah.sub G (ι id).F→R Z' (dw old skip us) (G.or F1)
mutual
theorem ad.yq:∀(t:ad) (m:bg) (x:t.D) (skip:Nat) (cs:List ba) (s:az) (r:t.D×List ba×az) (vs:List Value) (Z:ah),
  t.put m x skip cs s=some r→skip≤t.size→Inv w0 F0 Z0 n s a w ι Z→bO w Z s ι cs vs →
  Ux w0 F0 Z0 n s a w ι Z (fun us F=>t.ar w Z m x us F) (fun Z us F=>t.ar w Z m r.1 us F) t.size skip vs r.2.1 r.2.2
 |t,m,x,skip,[],s,r,vs,Z,av,qd,h,hc=>by
  have jx:some (x,([]:List ba),s)=some r:=by cases t<;>simpa only[ad.put]using av
  obtain rfl:=aX jx
  cases vs with
  |cons=>exact hc.elim
  |nil=>refine⟨[],[],ah.none,Z,rfl,h,.refl,trivial,.none,fun _ _ h=>h.elim,by simpa using qd,fun h=>absurd rfl h,fun _ _ hr _ _ _=>?_⟩;rw[Ef];exact ad.ar.mono (fun _ _ h=>h) _ _ (fun _ _ h=>.inl h) hr
 |t,m,x,skip,c::cs,s,r,vs,Z,av,qd,h,hc=>by
  cases hb:(Nat.beq skip 0&&Nat.ble t.size (cs.length+1))with
  |true=>
   have jx:(t.imp false m (c::cs) s []).bind (fun r=>some (r.1,r.2.1,r.2.2.1))=some r:=by cases t<;>(simp only[ad.put]at av;rw[hb]at av;exact av)
   obtain⟨q,hq,jx⟩:=bb jx;obtain rfl:=aX jx;have dV:skip=0∧t.size≤cs.length+1:=by simp only[Bool.and_eq_true]at hb;exact⟨Nat.eq_of_beq_eq_true hb.1,Nat.le_of_ble_eq_true hb.2⟩
   obtain⟨rfl,_⟩:=dV;obtain⟨us,rest,F,Z',e1,i1,s1,c1,f1,eD,_,jw,_,g1⟩:=ad.mi t false m (c::cs) s [] q vs Z hq h hc (by simp);have rv:=(ad.ar.len t m eD).1;refine⟨us,rest,F,Z',e1,i1,s1,c1,f1,g1,by omega,fun _=>by omega,fun _ _ hr _ _ _=>?_⟩;have hlen:=(ad.ar.len t m hr).1;rw[afM (by omega)];refine ad.ar.mono ?_ _ _ (fun _ _ h=>.inr h) eD
   rintro b o (hz|⟨d,af,_⟩)
   ·exact hz
   ·rw[jw rfl]at af;simp at af
  |false=>
   cases t with
   |st ak=>simp only[ad.put]at av;rw[hb]at av;have:=aA.yq ak m.parts x skip (c::cs) s r vs Z av (by simpa only[ad.size]using qd) h hc;simpa only[ad.ar,ad.size]using this
   |_=>simp only[ad.put]at av;rw[hb]at av;simp at av
theorem aA.yq:∀(ak:aA) (m:c5) (x:ak.D) (skip:Nat) (cs:List ba) (s:az) (r:ak.D×List ba×az) (vs:List Value) (Z:ah),
  ak.put m x skip cs s=some r→skip≤ak.size→Inv w0 F0 Z0 n s a w ι Z→bO w Z s ι cs vs →
  Ux w0 F0 Z0 n s a w ι Z (fun us F=>ak.ar w Z m x us F) (fun Z us F=>ak.ar w Z m r.1 us F) ak.size skip vs r.2.1 r.2.2
 |.nil,m,x,skip,cs,s,r,vs,Z,av,qd,h,hc=>by simp only[aA.put]at av;obtain rfl:=aX av;simp only[aA.size]at qd⊢;refine⟨[],vs,ah.none,Z,rfl,h,.refl,hc,.none,fun _ _ h=>h.elim,by simpa using qd,fun _=>by simp;omega,fun _ _ hr _ _ _=>?_⟩;rw[Ef];simp only[aA.ar]at hr⊢;exact hr
 |.cons t ak,m,x,skip,cs,s,r,vs,Z,av,qd,h,hc=>by
  simp only[aA.put]at av
  cases hb:Nat.ble t.size skip with
  |true=>
   rw[hb]at av;have ry:=Nat.le_of_ble_eq_true hb;obtain⟨q,hq,av⟩:=bb av;obtain rfl:=aX av;simp only[aA.size]at qd;obtain⟨us,rest,F1,Z',e1,i1,s1,c1,f1,g1,dI,eP,k1⟩:=aA.yq ak m.dK x.2 (skip-t.size) cs s q vs Z hq (by omega) h hc;refine⟨us,rest,F1,Z',e1,i1,s1,c1,f1,g1,by simp only[aA.size];omega,fun hne=>by have:=eP hne;simp only[aA.size];omega,fun old G hr id hl hG=>?_⟩;simp only[aA.ar]at hr;obtain⟨yr,Eg,G1,G2,rfl,eD,fb,gD,gb,m2⟩:=hr;have hl1:=(ad.ar.len t _ eD).1;rw[Uw (by omega),hl1];simp only[aA.ar];refine⟨yr,_,G1,G2.or F1,rfl,ad.ar.mono s1.dU _ _ (fun _ _ h=>h) eD,k1 _ _ fb id hl (fun b o aB=>hG b o (m2 b o aB)),?_,fun b o aB=>.inl (gb b o aB),?_⟩
   ·rintro b o aB (hh|hh)
    ·exact gD b o aB hh
    ·exact f1.apart id hl b o hh (hG b o (gb b o aB))
   ·rintro b o (aB|aB)
    ·exact .inl (m2 b o aB)
    ·exact .inr aB
  |false=>
   rw[hb]at av
   have bQ:skip<t.size:=by
    rcases Nat.lt_or_ge skip t.size with h|h
    ·exact h
    ·rw[Nat.ble_eq_true_of_le h]at hb;simp at hb
   obtain⟨c2,o8,av⟩:=bb av;obtain⟨eb,jy,av⟩:=bb av;obtain rfl:=aX av;obtain⟨us,rest,F1,cI,e1,i1,s1,c1,f1,g1,dI,eP,k1⟩:=ad.yq t m.af x.1 skip cs s c2 vs Z o8 (by omega) h hc;obtain⟨us2,Uz,ec,bR,e2,i2,s2,fV,f2,g2,o9,qe,k2⟩:=aA.yq ak m.dK x.2 0 c2.2.1 c2.2.2 eb rest cI jy (by omega) i1 c1
   have gr:c2.2.1=[]→us2=[]∧Uz=[]:=by
    intro hcs;rw[hcs]at c1
    cases rest with
    |nil=>have:=e2;simp at this;exact⟨this.1,this.2⟩
    |cons=>exact c1.elim
   refine⟨us++us2,Uz,F1.or ec,bR,by rw[e1,e2,List.append_assoc],i2,s1.trans s2,fV,(f1.shrink s2).or f2,?_,?_,?_,fun old G hr id hl hG=>?_⟩
   ·rintro b o (hf|hf)
    ·exact g1 b o hf
    ·obtain⟨id,hl,hi⟩:=g2 b o hf;exact⟨id,(s1.live hl).1,hi⟩
   ·simp only[aA.size,List.length_append];by_cases hcs:c2.2.1=[]
    ·rw[(gr hcs).1];simp;omega
    ·have:=eP hcs;omega
   ·intro hne;simp only[aA.size,List.length_append];have h4:=qe hne;by_cases hcs:c2.2.1=[]
    ·have:eb.2.1=[]:=by
      have h1:=fV.len;rw[(gr hcs).2]at h1;exact List.eq_nil_of_length_eq_zero (by simpa using h1.symm)
     exact absurd this hne
    ·have:=eP hcs;omega
   ·simp only[aA.ar]at hr;obtain⟨yr,Eg,G1,G2,rfl,eD,fb,gD,gb,m2⟩:=hr;have hl1:=(ad.ar.len t _ eD).1;have gC:=(s2.live hl);have bF:=k1 _ _ eD id gC.1 (fun b o aB=>hG b o (gb b o aB));have cq:=k2 _ _ (aA.ar.mono s1.dU _ _ (fun _ _ h=>h) fb) id hl (fun b o aB=>hG b o (m2 b o aB))
    have hsp:dw (yr++Eg) skip (us++us2)=dw yr skip us++dw Eg 0 us2:=by
     by_cases hcs:c2.2.1=[]
     ·rw[(gr hcs).1,List.append_nil,Ef,afK (by omega)]
     ·exact afL (by have:=eP hcs;omega)
    rw[hsp];simp only[aA.ar];refine⟨_,_,G1.or F1,G2.or ec,rfl,ad.ar.mono s2.dU _ _ (fun _ _ h=>h) bF,cq,?_,?_,?_⟩
    ·rintro b o (aB|aB) (hh|hh)
     ·exact gD b o aB hh
     ·exact f2.apart id hl b o hh (hG b o (gb b o aB))
     ·exact f1.apart id gC.1 b o aB (hG b o (m2 b o hh))
     ·obtain⟨afN,ei,gF⟩:=g2 b o hh;exact f1.apart afN ei b o aB gF
    ·rintro b o (aB|aB)
     ·exact .inl (gb b o aB)
     ·exact .inr (.inl aB)
    ·rintro b o (aB|aB)
     ·exact .inl (m2 b o aB)
     ·exact .inr (.inr aB)
end
theorem bO.dw{cs ds:List ba}{us vs:List Value}(h:bO w Z s ι cs us)(k:bO w Z s ι ds vs)(p:Nat):
  bO w Z s ι (cs.take p++ds++cs.drop (p+ds.length)) (dw us p vs):=by
 unfold LM.dw;rw[k.len];exact((h.take p).append k).append (h.drop _)
theorem afO{cs:List ba}{vs:List Value}(h:ft s ι Z au Z')(hc:bO w Z s ι cs vs):bO w Z' au ι cs vs:=hc.move h.eI
theorem afP{b o:Nat}{vs:List Value}(hw:∀i,i<vs.length→fN w b (o+i)):cf (setCells w b o vs) b o vs:=by
 intro i v hv
 have hi:i<vs.length:=by
  rcases Nat.lt_or_ge i vs.length with h|h
  ·exact h
  ·rw[List.getElem?_eq_none h]at hv;simp at hv
 rw[yj b vs w o (fun i hi=>(hw i hi).1),if_pos ⟨rfl,by omega,by omega⟩,Nat.add_sub_cancel_left];exact hv
theorem tb{b o k:Nat}{old vs:List Value}(hc:cf w b o old)(hw:∀i,i<old.length→fN w b (o+i))(hk:k+vs.length≤old.length):
  cf (setCells w b (o+k) vs) b o (dw old k vs):=by
 have afQ:∀i,i<vs.length→fN w b (o+k+i):=fun i hi=>by have:=hw (k+i) (by omega);rwa[←Nat.add_assoc]at this
 intro i v hv;have hx:=yj b vs w (o+k) (fun i hi=>(afQ i hi).1) b (o+i);rw[hx];unfold dw at hv;by_cases h1:i<k
 ·rw[if_neg (by omega)];rw[List.append_assoc,List.getElem?_append_left (by simp;omega),List.getElem?_take,if_pos h1]at hv;exact hc i v hv
 ·by_cases h2:i<k+vs.length
  ·rw[if_pos ⟨rfl,by omega,by omega⟩];rw[List.getElem?_append_left (by simp;omega),List.getElem?_append_right (by simp;omega)]at hv;simp only[List.length_take]at hv;rw[show o+i-(o+k)=i-min k old.length by omega];exact hv
  ·rw[if_neg (by omega)];rw[List.getElem?_append_right (by simp;omega)]at hv;simp only[List.length_append,List.length_take,List.getElem?_drop]at hv;rw[show k+vs.length +(i-(min k old.length+vs.length))=i by omega]at hv;exact hc i v hv
theorem afR(h:Inv w0 F0 Z0 n s a w ι Z){p:Place}{cs:List ba}{A:Addr}{vs:List Value}(hr:D9 s p cs=some au)(av:j2 s ι p A)(hc:bO w Z s ι cs vs):
  ∃b o,A=at_ b o∧(∀i,i<vs.length→fN w b (o+i))∧∃ bp Z',Inv w0 F0 Z0 n au a (setCells w b o vs) bp Z':=by
 obtain⟨hs,av⟩:=av;unfold D9 at hr
 cases ho:s.o p.id with
 |var ver old=>
  rw[ho]at hr av;obtain⟨he,a0,hb,rfl⟩:=av;rw[he]at hr;have cn:(s.o p.id).live:=by rw[ho];trivial
  simp only at hr;cases ry:Nat.ble (p.off+cs.length) old.length
  ·rw[ry]at hr;simp at hr
  rw[ry]at hr;obtain rfl:=aX hr;have hle:=Nat.le_of_ble_eq_true ry;have c9:=h.gp p.id;rw[ho]at c9;obtain⟨yn,us,dV,hsp,hcu,cE,hwr⟩:=c9;rw[hb]at dV;obtain rfl:=aX dV;have rv:=hcu.len;have hvl:=hc.len;have hw:∀i,i<vs.length→fN w a0.block (a0.off+p.off+i):=fun i hi=>by have:=(hwr (p.off+i) (by omega)).1;rwa[←Nat.add_assoc]at this
  refine⟨_,_,rfl,hw,ι,Z,?_⟩;have hx:Ext w (setCells w a0.block (a0.off+p.off) vs) (ι p.id).F:=oX _ _ _ _ fun i hi=>by have:=(hwr (p.off+i) (by omega)).2;rwa[←Nat.add_assoc]at this
  have hm:e5 w Z s ι (setCells w a0.block (a0.off+p.off) vs) Z (s.bV p.id (.var (ver+1) (old.take p.off++cs++old.drop (p.off+cs.length)))) ι :=by
   refine⟨fun j=>?_,fun _ _ h=>h,ch.jv hx h.tr ?_⟩
   ·show ju (s.o j) (ι j) (bW s.o p.id _ j) (ι j);by_cases hj:p.id=j
    ·subst hj;rw[cM,ho];exact .var _ _ _ _ _ (by omega) (by simp;omega)
    ·rw[cX hj];exact .stay _ _
   ·rintro b o (hz|⟨id,hl,hst,_,hf⟩) iY
    ·exact h.db p.id cn b o iY hz
    ·have hne:id≠p.id:=by
      rintro rfl
      have:bW s.o p.id _ p.id=s.o p.id:=hst;rw[cM,ho]at this;injection this with h1 h2
      omega
     exact h.apart id p.id hl cn hne b o hf iY
  refine h.next hm hx (fun b o hf=>(h.own p.id cn b o hf).1) (fun _ _ h=>.inl h) ?_ ?_ (fun k=>(h.tmps k).move hm) h.size h.defers
  ·intro j hl hne;by_cases hj:p.id=j
   ·subst hj;refine⟨?_,fun b o hf=>⟨(h.own _ cn b o hf).1,by have:=(h.own _ cn b o hf).2;exact Nat.lt_of_lt_of_le this hx.size⟩,fun ep gC km=>?_⟩
    ·show iG _ _ _ _ _ (bW s.o p.id _ p.id);rw[cM];refine⟨a0,dw us p.off vs,hb,hsp,(hcu.dw hc p.off).move hm,?_,fun j hj=>?_⟩
     ·exact tb cE (fun i hi=>(hwr i (by omega)).1) (by omega)
     ·have:j<old.length:=by simp at hj;omega
      exact⟨hx.rh (hwr j this).1,(hwr j this).2⟩
    ·have ei:(s.o ep).live:=by
      have:(bW s.o p.id _ ep).live:=gC;rwa[cX km]at this
     exact h.apart p.id ep cn ei km
   ·exact absurd ⟨cX hj,rfl⟩ hne
  ·intro j hl;by_cases hj:p.id=j
   ·subst hj;exact h.db _ cn
   ·have ei:(s.o j).live:=by
     have:(bW s.o p.id _ j).live:=hl;rwa[cX hj]at this
    exact h.db j ei
 |row t em ver xs=>
  rw[ho]at hr av;obtain⟨i,he,hi,a0,hb,rfl⟩:=av;rw[he]at hr;have cn:(s.o p.id).live:=by rw[ho];trivial
  simp only at hr;cases ry:Nat.ble (p.off+cs.length) t.size
  ·rw[ry]at hr;simp at hr
  rw[ry]at hr;have ry:=Nat.le_of_ble_eq_true ry;obtain⟨q,hq,hr⟩:=bb hr
  cases o8:q.2.1 with
  |cons=>rw[o8]at hr;simp at hr
  |nil=>
   cases jy:q.2.2.o p.id with
   |none=>rw[o8,jy]at hr;simp at hr
   |dead=>rw[o8,jy]at hr;simp at hr
   |cr=>rw[o8,jy]at hr;simp at hr
   |var=>rw[o8,jy]at hr;simp at hr
   |row t2 afS afT afU=>
    rw[o8,jy]at hr;obtain rfl:=aX hr;have qd:p.off≤t.size:=by omega
    obtain⟨us,rest,F1,cI,e1,i1,s1,c1,f1,g1,dI,eP,k1⟩:=ad.yq t em (I t xs i) p.off cs s q vs Z hq qd h hc;rw[o8]at c1
    have gr:rest=[]:=by
     cases rest with
     |nil=>rfl
     |cons=>exact c1.elim
    subst gr;rw[List.append_nil]at e1;subst e1;have hl1:(q.2.2.o p.id).live:=by rw[jy];trivial
    have hst:=(s1.live hl1).2;rw[ho]at hst;have c9:=h.gp p.id;rw[ho]at c9;rcases c9 with⟨rfl,_⟩|⟨yn,dV,hrow⟩
    ·simp at hi
    rw[hb]at dV;obtain rfl:=aX dV;have hin:(i+1)*t.size≤(ι p.id).cap*t.size:=Nat.mul_le_mul_right _ (by have:=hrow.cap;omega);have hin':i*t.size+t.size≤(ι p.id).cap*t.size:=by rw[←Nat.add_one_mul];exact hin
    have hw:∀k,k<vs.length→fN w a0.block (a0.off+i*t.size+p.off+k):=fun k hk=>by have:=(hrow.wr (i*t.size+p.off+k) (by omega)).1;rwa[show a0.off +(i*t.size+p.off+k)=a0.off+i*t.size+p.off+k by omega]at this
    have afV:∀k,k<vs.length→(ι p.id).F a0.block (a0.off+i*t.size+p.off+k):=fun k hk=>by have:=hrow.inF (i*t.size+p.off+k) (by omega);rwa[show a0.off +(i*t.size+p.off+k)=a0.off+i*t.size+p.off+k by omega]at this
    refine⟨_,_,rfl,hw,?_⟩
    let er:bI:=⟨(ι p.id).base,(ι p.id).cap,(ι p.id).F.or F1⟩
    let o':cD:=.row t em (ver+1) (xs.set i q.1)
    have hx:Ext w (setCells w a0.block (a0.off+i*t.size+p.off) vs) (ι p.id).F:=oX _ _ _ _ afV
    have hm:e5 w cI q.2.2 ι (setCells w a0.block (a0.off+i*t.size+p.off) vs) cI (q.2.2.bV p.id o') (bW ι p.id er):=by
     refine⟨fun j=>?_,fun _ _ h=>h,ch.jv hx i1.tr ?_⟩
     ·show ju (q.2.2.o j) (ι j) (bW q.2.2.o p.id o' j) (bW ι p.id er j);by_cases hj:p.id=j
      ·subst hj;rw[cM,cM,hst];exact .row _ _ _ _ _ _ _ _ _ (by omega) (by simp) rfl rfl
      ·rw[cX hj,cX hj];exact .stay _ _
     ·rintro b o (hz|⟨id,hl,rq,_,hf⟩) iY
      ·exact i1.db p.id hl1 b o iY hz
      ·have hne:id≠p.id:=by
        rintro rfl
        have:bW q.2.2.o p.id o' p.id=q.2.2.o p.id:=rq;rw[cM,hst]at this;injection this with h1 h2 h3
        omega
       exact i1.apart id p.id hl hl1 hne b o hf iY
    have ts:∀{j},p.id≠j→((q.2.2.bV p.id o').o j).live→(q.2.2.o j).live:=fun hj hl=>by have:(bW q.2.2.o p.id o' _).live:=hl;rwa[cX hj]at this
    refine⟨_,_,i1.next hm hx (fun b o hf=>(i1.own p.id hl1 b o hf).1) (fun _ _ h=>.inl h) ?_ ?_ (fun k=>(i1.tmps k).move hm) i1.size i1.defers⟩
    ·intro j hl hne;by_cases hj:p.id=j
     ·subst hj;rw[cM];refine⟨?_,fun b o hf=>?_,fun ep gC km=>?_⟩
      ·show iG _ _ _ _ _ (bW q.2.2.o p.id o' p.id);rw[cM];refine .inr ⟨a0,hb,hrow.spot,by simpa[o']using hrow.cap,fun j hj=>hx.ld (hrow.wr j hj),fun j hj=>.inl (hrow.inF j hj),?_⟩;obtain⟨G,bF,cq,gu⟩:=hrow.row
       have UA:ch w (setCells w a0.block (a0.off+i*t.size+p.off) vs) G:=by
        intro b o aB;refine⟨?_,fun _=>afA _ _ _ _ _ _⟩;rw[yj _ _ _ _ (fun i hi=>(hw i hi).1),if_neg]
        rintro⟨rfl,h1,h2⟩
        have:=cq (o-a0.off) (by omega);rw[show a0.off +(o-a0.off)=o by omega]at this;exact this aB
       have UB:ch w (setCells w a0.block (a0.off+i*t.size+p.off) vs) cI:=hm.same.mono fun b o hz=>.inl hz
       have afW:ch w (setCells w a0.block (a0.off+i*t.size+p.off) vs) F1:=by refine ch.jv hx (fun b o hf=>(f1.own b o hf).2) fun b o hf iY=>f1.apart p.id hl1 b o hf iY
       refine⟨G.or F1,?_,?_,?_⟩
       ·refine Row.set (w:=w) (R:=t.ar w Z em) i hi bF (fun y us dB hG aR=>ad.ar.same UB _ _ (UA.mono hG) (ad.ar.mono s1.dU _ _ (fun _ _ h=>h) aR)) ?_ ?_ (fun b o hf aB=>f1.apart p.id hl1 b o hf (gu b o aB))
        ·intro j hj LZ;rw[yj _ _ _ _ (fun i hi=>(hw i hi).1),if_neg]
         rintro⟨_,h1,h2⟩
         rw[Nat.add_one_mul]at LZ;omega
        ·intro us dB k2 k3 bn bs;refine⟨dw us p.off vs,by rw[Ll (by omega)];exact k3,?_,?_⟩
         ·refine tb bn (fun k hk=>?_) (by omega);have:=(hrow.wr (i*t.size+k) (by omega)).1;rwa[←Nat.add_assoc]at this
         ·have:=k1 us dB (by rw[c3 hi];exact k2) p.id hl1 (fun b o aB=>gu b o (bs b o aB));refine ad.ar.same UB _ _ ?_ this;intro b o aB;rcases aB with aB|aB
          ·exact UA b o (bs b o aB)
          ·exact afW b o aB
       ·rintro j hj (aB|aB)
        ·exact cq j hj aB
        ·exact f1.apart p.id hl1 _ _ aB (hrow.inF j hj)
       ·rintro b o (aB|aB)
        ·exact .inl (gu b o aB)
        ·exact .inr aB
      ·rcases hf with hf|hf
       ·exact⟨(i1.own _ hl1 b o hf).1,Nat.lt_of_lt_of_le (i1.own _ hl1 b o hf).2 hx.size⟩
       ·exact⟨(f1.own b o hf).1,Nat.lt_of_lt_of_le (f1.own b o hf).2 hx.size⟩
      ·rw[cX km];have ei:=ts km gC
       rintro b o (hf|hf) iY
       ·exact i1.apart p.id ep hl1 ei km b o hf iY
       ·exact f1.apart ep ei b o hf iY
     ·exact absurd ⟨cX hj,cX hj⟩ hne
    ·intro j hl;by_cases hj:p.id=j
     ·subst hj;rw[cM]
      rintro b o (hf|hf) hz
      ·exact i1.db _ hl1 b o hf hz
      ·exact f1.db b o hf hz
     ·rw[cX hj];exact i1.db j (ts hj hl)
 |none=>rw[ho]at hr;simp at hr
 |dead=>rw[ho]at hr;simp at hr
 |cr=>rw[ho]at hr;simp at hr
end
end Go.LM
namespace Go.LM
mutual
def ad.cU:ad→List Value
 |.int k=>[.int k 0]
 |.bool=>[.bool false]
 |.str=>[.string ⟨#[]⟩]
 |.raw=>[.slice none 0 0]
 |.sl _=>[.slice none 0 0]
 |.st ak=>ak.cU
def aA.cU:aA→List Value
 |.nil=>[]
 |.cons t ak=>t.cU++ak.cU
end
def dW(t:ad)(vs:List Value):Value:=
 match t with
 |.st _=>.agg vs.toArray
 |_=>vs.headD undef
def ml(P:Program)(id:TypeId)(t:ad):Prop:=
 ∃i,P.info? id=some i∧i.size=t.size∧i.zero=some (dW t t.cU)∧i.bytes≤2048
mutual
def ad.ok(P:Program):ad→TypeId→Prop
 |.int k,id=>P.underlying id=some (.int k)∧ml P id (.int k)
 |.bool,id=>P.underlying id=some .bool∧ml P id .bool
 |.str,id=>P.underlying id=some .string∧ml P id .str
 |.raw,id=>ml P id .raw∧∃e,P.underlying id=some (.slice e)
 |.sl t,id=>ml P id (.sl t)∧∃e,P.underlying id=some (.slice e)∧t.ok P e
 |.st ak,id=>ml P id (.st ak)∧∃cF,P.underlying id=some (.struct cF)∧ak.okF P cF.toList 0
def aA.okF(P:Program):aA→List Field→Nat→Prop
 |.nil,cF,_=>cF=[]
 |.cons t ak,cF,off=>∃f mm,cF=f::mm∧f.offset=off∧t.ok P f.type∧ak.okF P mm (off+t.size)
end
def ad.agg:ad→Bool
 |.st _=>true
 |_=>false
theorem ad.ok.info{P:Program}{t:ad}{id:TypeId}(h:t.ok P id):ml P id t:=by cases t<;>simp only[ad.ok]at h<;>first|exact h.2|exact h.1
theorem ad.mn:∀t:ad,t.cU.length=t.size
 |.int _=>rfl
 |.bool=>rfl
 |.str=>rfl
 |.raw=>rfl
 |.sl _=>rfl
 |.st ak=>by simp only[ad.cU,ad.size];exact go ak
where
 go:∀ak:aA,ak.cU.length=ak.size
 |.nil=>rfl
 |.cons t ak=>by simp only[aA.cU,aA.size,List.length_append,ad.mn t,go ak]
section
variable{P:Program}{t:ad}{id:TypeId}{w:World}
theorem run_underlying{d:TypeDesc}(h:P.underlying id=some d):(underlying id).run P w=.ok d w:=by simp[underlying,run_bind,program,Sem.run,h,run_pure]
theorem run_typeInfo{i:TypeInfo}(h:P.info? id=some i):(typeInfo id).run P w=.ok i w:=by simp[typeInfo,run_bind,program,Sem.run,h,run_pure]
theorem run_sizeOf(h:t.ok P id):(sizeOf id).run P w=.ok t.size w:=by obtain⟨i,h1,h2,_⟩:=h.info;simp[sizeOf,run_bind,run_typeInfo h1,run_pure,h2]
theorem Eh(h:t.ok P id):(zeroValue id).run P w=.ok (dW t t.cU) w:=by obtain⟨i,h1,_,h3,_⟩:=h.info;simp[zeroValue,run_bind,run_typeInfo h1,run_pure,h3]
theorem UC(h:t.ok P id):(isAgg id).run P w=.ok t.agg w:=by
 unfold isAgg
 cases t with
 |st ak=>obtain⟨_,cF,h1,_⟩:=(by simpa only[ad.ok]using h:ml P id (.st ak)∧∃cF,P.underlying id=some (.struct cF)∧ak.okF P cF.toList 0);rw[run_bind,run_underlying h1];rfl
 |sl t=>obtain⟨_,e,h1,_⟩:=(by simpa only[ad.ok]using h:ml P id (.sl t)∧∃e,P.underlying id=some (.slice e)∧t.ok P e);rw[run_bind,run_underlying h1];rfl
 |raw=>obtain⟨_,e,h1⟩:=(by simpa only[ad.ok]using h:ml P id .raw∧∃e,P.underlying id=some (.slice e));rw[run_bind,run_underlying h1];rfl
 |int k=>have h1:=(by simpa only[ad.ok]using h:P.underlying id=some (.int k)∧ml P id (.int k));rw[run_bind,run_underlying h1.1];rfl
 |bool=>have h1:=(by simpa only[ad.ok]using h:P.underlying id=some .bool∧ml P id .bool);rw[run_bind,run_underlying h1.1];rfl
 |str=>have h1:=(by simpa only[ad.ok]using h:P.underlying id=some .string∧ml P id .str);rw[run_bind,run_underlying h1.1];rfl
theorem L3(h:t.agg=false):t.size=1:=by cases t<;>simp_all[ad.agg,ad.size]
theorem L4(h:t.agg=true)(vs:List Value):dW t vs=.agg vs.toArray:=by cases t<;>simp_all[ad.agg,dW]
theorem L5(h:t.agg=false)(v:Value):dW t [v]=v:=by cases t<;>simp_all[ad.agg,dW]
theorem L6(h:t.ok P id){b o:Nat}{vs:List Value}(hc:cf w b o vs)(hl:vs.length=t.size):(loadVar id (at_ b o)).run P w=.ok (dW t vs) w:=by
 unfold loadVar;rw[run_bind,UC h];simp only;cases ha:t.agg
 ·rw[L3 ha]at hl
  match vs,hl with
  | [v],_=>rw[L5 ha];simp only[Bool.false_eq_true,if_false];exact run_load hc.head
 ·simp only[if_true];rw[run_bind,run_sizeOf h,←hl];simp only;rw[run_bind,run_loadCells hc,L4 ha];rfl
theorem L7{v:Value}(h:eC v=true):v.cells = #[v]:=by cases v<;>simp_all[eC,Value.cells]
theorem L8(h:t.ok P id){b o:Nat}{v:Value}(hl:v.cells.size=t.size)(h1:∀u∈v.cells.toList,eC u=true)(hw:∀i,i<v.cells.size→fN w b (o+i)):
  (storeVar id (at_ b o) v).run P w=.ok () (setCells w b o v.cells.toList):=by
 unfold storeVar;rw[run_bind,run_sizeOf h];simp only;rw[if_neg (by simp[hl])];have:=D0 (P:=P) (b:=b) (o:=o) v.cells.toList w 0 h1 (fun i hi=>by simpa using hw i (by simpa using hi));simpa using this
theorem UD{e:TypeId}{v:Value}:(newVar e v).run P w=.ok (at_ w.heap.size 0) { w with heap:=w.heap.push (.cells v.cells e) }:=by simp[newVar,newRow,Go.newObj,run_bind,Sem.run,run_pure,at_]
end
section
variable{w0:World}{F0 Z0:ah}{n:cN}{s au:az}{a b8:Act}{w w':World}{ι bp:Nat→bI}{Z Z':ah}
theorem tt{t:ad}{x:a_}{cs:List ba}{v:Value}(h:jo t x=some cs)(hv:aV w Z s ι x v):bO w Z s ι cs v.cells.toList:=by
 cases x<;>simp only[jo]at h<;>try (simp at h;done)
 ·obtain rfl:=aX h;simp only[aV]at hv;rw[L7 hv.eC];exact⟨hv,trivial⟩
 ·obtain rfl:=aX h;simp only[aV]at hv;obtain⟨vs,rfl,hc⟩:=hv;simpa[Value.cells]using hc
 ·cases t<;>simp at h
  subst h;simp only[aV]at hv;subst hv;exact⟨rfl,trivial⟩
theorem qf{t:ad}{x:a_}{cs:List ba}{vs:List Value}(h:kE t cs=some x)(hc:bO w Z s ι cs vs):aV w Z s ι x (dW t vs):=by
 cases t with
 |st ak=>simp only[kE]at h;obtain rfl:=aX h;simp only[aV,dW];exact⟨vs,rfl,hc⟩
 |_=>
  simp only[kE]at h
  match cs,vs,hc with
  | [],[],_=>simp at h
  | [c],[v],hc=>simp at h;subst h;simp only[aV,dW];exact hc.1
  |_::_::_,_,_=>simp at h
theorem tu:∀t:ad,bO w Z s ι t.j1 t.cU
 |.int _=>⟨rfl,trivial⟩
 |.bool=>⟨rfl,trivial⟩
 |.str=>⟨⟨_,rfl,rfl⟩,trivial⟩
 |.raw=>⟨⟨rfl,_,_,_,rfl⟩,trivial⟩
 |.sl _=>⟨rfl,trivial⟩
 |.st ak=>by simp only[ad.j1,ad.cU];exact go ak
where
 go:∀ak:aA,bO w Z s ι ak.j1 ak.cU
 |.nil=>trivial
 |.cons t ak=>by simp only[aA.j1,aA.cU];exact(tu t).append (go ak)
theorem L9{t:ad}{vs:List Value}(hl:vs.length=t.size)(h1:∀v∈vs,eC v=true):(dW t vs).cells.toList=vs:=by
 cases ha:t.agg
 ·rw[L3 ha]at hl
  match vs,hl with
  | [v],_=>rw[L5 ha,L7 (h1 v (by simp))]
 ·rw[L4 ha];simp[Value.cells]
theorem Inv.newVar(h:Inv w0 F0 Z0 n s a w ι Z){id:Nat}(cm:s.o id=.none){cs:List ba}{vs:Array Value}(hc:bO w Z s ι cs vs.toList)(e:TypeId):
  Inv w0 F0 Z0 n (s.bV id (.var 0 cs)) a { w with heap:=w.heap.push (.cells vs e) } (bW ι id ⟨some (at_ w.heap.size 0),0,ah.run w.heap.size 0 cs.length⟩) Z:=by
 have hx:=Ext.push w (.cells vs e) ah.none;have hm:=Uq h cm hx (.var 0 cs) ⟨some (at_ w.heap.size 0),0,ah.run w.heap.size 0 cs.length⟩;have hl:=hc.len;refine h.new cm hx ?_ ?_
 ·refine⟨at_ w.heap.size 0,vs.toList,rfl,rfl,hc.move hm,?_,fun j hj=>⟨⟨?_,?_⟩,rfl,by simp[at_],by simpa[at_]using hj⟩⟩
  ·intro i v hv;show World.cell? _ (at_ w.heap.size (0+i))=_;rw[Ul];simpa using hv
  ·refine⟨vs[j]'(by simp at hl;omega),?_⟩;show World.cell? _ (at_ w.heap.size (0+j))=_;rw[Ul];simp
  ·show World.frozen? _ (at_ w.heap.size (0+j))=_;rw[ri,Uk];simp
 ·rintro b o ⟨rfl,_,_⟩;simp
end
end Go.LM
