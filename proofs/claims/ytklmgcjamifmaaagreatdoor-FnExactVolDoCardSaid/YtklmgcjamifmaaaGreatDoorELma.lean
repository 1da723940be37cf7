/- The data and the interpreter of the reflective walk, and how its states stand for frames and worlds. Conditions: each theorem's own hypotheses. -/
import Derived.Calls
import Derived.KernelRfl
import Derived.Orders
set_option linter.unusedVariables false
set_option linter.unusedSimpArgs false
namespace Go.LM
theorem obs.{u,v}{α:Type u}{β:Type v}(a:α)(f:α→Option β):(some a).bind f=f a:=rfl
theorem osj.{u}{α:Type u}{a b:α}(h:some a=some b):a=b:=_root_.Option.some.inj h
theorem obi.{u,v}{α:Type u}{β:Type v}{o:Option α}{f:α→Option β}{b:β}(h:o.bind f=some b):∃a,o=some a∧f a=some b:=_root_.Option.bind_eq_some_iff.1 h
mutual
inductive Ty where
 | int (k:IntKind)
 | bool
 | str
 | sl (t:Ty)
 | st (ts:Tys)
 | raw
inductive Tys where
 | nil
 | cons (t:Ty) (ts:Tys)
end
mutual
@[reducible] def Ty.D:Ty→Type
 | .int _=>Int
 | .bool=>Bool
 | .str=>List UInt8
 | .sl t=>List t.D
 | .st ts=>ts.D
 | .raw=>Value
@[reducible] def Tys.D:Tys→Type
 | .nil=>Unit
 | .cons t ts=>t.D×ts.D
end
def kindNo:IntKind→Nat
 | .i8=>0 | .i16=>1 | .i32=>2 | .i64=>3 | .u8=>4 | .u16=>5 | .u32=>6 | .u64=>7
theorem kindNo_inj:∀ {a b:IntKind},kindNo a=kindNo b→a=b:=by
 intro a b;cases a <;> cases b <;> simp [kindNo]
mutual
def Ty.beq:Ty→Ty→Bool
 | .int a,.int b=>Nat.beq (kindNo a) (kindNo b)
 | .bool,.bool=>true
 | .str,.str=>true
 | .sl a,.sl b=>Ty.beq a b
 | .st a,.st b=>Tys.beq a b
 | .raw,.raw=>true
 | _,_=>false
def Tys.beq:Tys→Tys→Bool
 | .nil,.nil=>true
 | .cons a as,.cons b bs=>cond (Ty.beq a b) (Tys.beq as bs) false
 | _,_=>false
end
mutual
theorem Ty.eq_of_beq:∀(a b:Ty),Ty.beq a b=true→a=b
 | .int a,.int b,h=>by simp only [Ty.beq] at h;rw [kindNo_inj (Nat.eq_of_beq_eq_true h)]
 | .bool,.bool,_=>rfl
 | .str,.str,_=>rfl
 | .sl a,.sl b,h=>by simp only [Ty.beq] at h;rw [Ty.eq_of_beq a b h]
 | .st a,.st b,h=>by simp only [Ty.beq] at h;rw [Tys.eq_of_beq a b h]
 | .raw,.raw,_=>rfl
 | .int _,.bool,h | .int _,.str,h | .int _,.sl _,h | .int _,.st _,h | .int _,.raw,h=>by simp [Ty.beq] at h
 | .bool,.int _,h | .bool,.str,h | .bool,.sl _,h | .bool,.st _,h | .bool,.raw,h=>by simp [Ty.beq] at h
 | .str,.int _,h | .str,.bool,h | .str,.sl _,h | .str,.st _,h | .str,.raw,h=>by simp [Ty.beq] at h
 | .sl _,.int _,h | .sl _,.bool,h | .sl _,.str,h | .sl _,.st _,h | .sl _,.raw,h=>by simp [Ty.beq] at h
 | .st _,.int _,h | .st _,.bool,h | .st _,.str,h | .st _,.sl _,h | .st _,.raw,h=>by simp [Ty.beq] at h
 | .raw,.int _,h | .raw,.bool,h | .raw,.str,h | .raw,.sl _,h | .raw,.st _,h=>by simp [Ty.beq] at h
theorem Tys.eq_of_beq:∀(a b:Tys),Tys.beq a b=true→a=b
 | .nil,.nil,_=>rfl
 | .cons a as,.cons b bs,h=>by
  simp only [Tys.beq] at h
  cases hb:Ty.beq a b
  ·rw [hb] at h;simp at h
  ·rw [hb] at h;rw [Ty.eq_of_beq a b hb,Tys.eq_of_beq as bs h]
 | .nil,.cons _ _,h | .cons _ _,.nil,h=>by simp [Tys.beq] at h
end
def castD(a b:Ty)(x:a.D):Option b.D :=
 if h:Ty.beq a b=true then some ((Ty.eq_of_beq a b h) ▸ x) else none
theorem castD_some{a b:Ty}{x:a.D}{y:b.D}(h:castD a b x=some y):∃e:a=b,y=e ▸ x:=by
 unfold castD at h
 split at h
 ·rename_i hb;exact⟨Ty.eq_of_beq a b hb,by injection h with h;exact h.symm⟩
 ·simp at h
mutual
def Ty.size:Ty→Nat
 | .st ts=>ts.size
 | _=>1
def Tys.size:Tys→Nat
 | .nil=>0
 | .cons t ts=>t.size+ts.size
end
mutual
def Ty.zero:(t:Ty)→t.D
 | .int _=>(0:Int)
 | .bool=>false
 | .str=>([]:List UInt8)
 | .sl t=>([]:List t.D)
 | .st ts=>ts.zero
 | .raw=>(.slice none 0 0:Value)
def Tys.zero:(ts:Tys)→ts.D
 | .nil=>()
 | .cons t ts=>(t.zero,ts.zero)
end
mutual
inductive Md where
 | R
 | O (e:Md)
 | S (ms:Mds)
inductive Mds where
 | nil
 | cons (m:Md) (ms:Mds)
end
mutual
def Md.beq:Md→Md→Bool
 | .R,.R=>true
 | .O a,.O b=>Md.beq a b
 | .S a,.S b=>Mds.beq a b
 | _,_=>false
def Mds.beq:Mds→Mds→Bool
 | .nil,.nil=>true
 | .cons a as,.cons b bs=>cond (Md.beq a b) (Mds.beq as bs) false
 | _,_=>false
end
mutual
theorem Md.eq_of_beq:∀(a b:Md),Md.beq a b=true→a=b
 | .R,.R,_=>rfl
 | .O a,.O b,h=>by simp only [Md.beq] at h;rw [Md.eq_of_beq a b h]
 | .S a,.S b,h=>by simp only [Md.beq] at h;rw [Mds.eq_of_beq a b h]
 | .R,.O _,h | .R,.S _,h | .O _,.R,h | .O _,.S _,h | .S _,.R,h | .S _,.O _,h=>by simp [Md.beq] at h
theorem Mds.eq_of_beq:∀(a b:Mds),Mds.beq a b=true→a=b
 | .nil,.nil,_=>rfl
 | .cons a as,.cons b bs,h=>by
  simp only [Mds.beq] at h
  cases hb:Md.beq a b
  ·rw [hb] at h;simp at h
  ·rw [hb] at h;rw [Md.eq_of_beq a b hb,Mds.eq_of_beq as bs h]
 | .nil,.cons _ _,h | .cons _ _,.nil,h=>by simp [Mds.beq] at h
end
def Md.elem:Md→Md
 | .O e=>e
 | _=>.R
def Mds.hd:Mds→Md
 | .cons m _=>m
 | .nil=>.R
def Mds.tl:Mds→Mds
 | .cons _ ms=>ms
 | .nil=>.nil
def Md.parts:Md→Mds
 | .S ms=>ms
 | _=>.nil
structure Place where
 id:Nat
 ei:Option Nat
 off:Nat
inductive HC where
 | int (k:IntKind) (x:Int)
 | bool (b:Bool)
 | str (s:List UInt8)
 | raw (v:Value)
 | nil (t:Ty)
 | lst (t:Ty) (deps:List (Nat×Nat)) (org:Option Place) (xs:List t.D)
 | hd (id:Nat) (sub:Option (Nat×Nat))
inductive TV where
 | und
 | gone
 | sc (c:HC)
 | ag (cs:List HC)
 | ptr (p:Place)
 | rp (dp:List (Nat×Nat)) (cs:List HC) (off:Nat)
 | nilp
 | nilc
 | opt (id:Nat) (o:Int)
 | junk (t:Ty)
 | may (b:Bool) (dp:List (Nat×Nat)) (cs:List HC)
 | fn (f:FuncId) (first caps:List TV)
 | tup (l:List TV)
inductive LObj where
 | none
 | dead
 | var (ver:Nat) (cs:List HC)
 | row (t:Ty) (em:Md) (ver:Nat) (xs:List t.D)
 | lent (o:LObj)
def LObj.core:LObj→LObj
 | .lent o=>o
 | o=>o
structure St where
 t:Nat→TV
 o:Nat→LObj
 g:List TV
def upd{α : Type}(f:Nat → α)(i:Nat)(v : α):Nat → α := fun j=>cond (Nat.beq j i) v (f j)
theorem upd_same{α : Type}(f:Nat → α)(i:Nat)(v : α):upd f i v i=v:=by simp [upd]
theorem upd_other{α : Type}{f:Nat → α}{i j:Nat}{v : α}(h:j≠i):upd f i v j=f j:=by
 unfold upd
 have:Nat.beq j i=false:=by
  cases hb:Nat.beq j i
  ·rfl
  ·exact absurd (Nat.eq_of_beq_eq_true hb) h
 rw [this];rfl
def St.set(s:St)(d:Nat)(v:TV):St:=⟨upd s.t d v,s.o,s.g⟩
def St.putO(s:St)(i:Nat)(v:LObj):St:=⟨s.t,upd s.o i v,s.g⟩
def St.dst(s:St)(d:Option Nat)(v:TV):St :=
 match d with
 | some d=>s.set d v
 | none=>s
mutual
def Ty.cells:(t:Ty)→List (Nat×Nat)→Option Place→t.D→List HC
 | .int k,_,_,x=>[.int k x]
 | .bool,_,_,x=>[.bool x]
 | .str,_,_,x=>[.str x]
 | .sl t,dp,og,x=>[.lst t dp og x]
 | .st ts,dp,og,x=>ts.cells dp og x
 | .raw,_,_,x=>[.raw x]
def Tys.cells:(ts:Tys)→List (Nat×Nat)→Option Place→ts.D→List HC
 | .nil,_,_,_=>[]
 | .cons t ts,dp,og,x=>t.cells dp og x.1++ts.cells dp (og.map fun p => { p with off:=p.off+t.size }) x.2
end
mutual
def Ty.zcells:Ty→List HC
 | .int k=>[.int k 0]
 | .bool=>[.bool false]
 | .str=>[.str []]
 | .sl t=>[.nil t]
 | .st ts=>ts.zcells
 | .raw=>[.raw (.slice none 0 0)]
def Tys.zcells:Tys→List HC
 | .nil=>[]
 | .cons t ts=>t.zcells++ts.zcells
end
mutual
def Ty.own:Ty→Md
 | .sl t=>.O t.own
 | .st ts=>if ts.flat then .R else .S ts.own
 | _=>.R
def Tys.own:Tys→Mds
 | .nil=>.nil
 | .cons t ts=>.cons t.own ts.own
def Ty.flat:Ty→Bool
 | .sl _=>false
 | .st ts=>ts.flat
 | _=>true
def Tys.flat:Tys→Bool
 | .nil=>true
 | .cons t ts=>cond t.flat ts.flat false
end
def Md.le(a b:Md):Bool :=
 match b with
 | .R=>true
 | _=>Md.beq a b
end Go.LM
namespace Go.LM
def room(n:Nat):Bool:=Nat.ble n 68719476736
def grd{ρ : Type}(b:Bool)(x:Option ρ):Option ρ := cond b x none
def ix(n:Nat)(i:Int):Option Nat:=if 0≤i∧i<(n:Int) then some i.toNat else none
def rng(n:Nat)(lo hi:Int):Option (Nat×Nat):=if 0≤lo∧lo≤hi∧hi≤(n:Int) then some (lo.toNat,hi.toNat) else none
def gd(t:Ty)(xs:List t.D)(n:Nat):t.D:=xs.getD n t.zero
def part{α : Type}(l:List α)(lo len:Nat):List α :=(l.drop lo).take len
def w64(x:Int):Int:=IntKind.wrap .i64 x
def bitsI(op:BinOp)(k:IntKind)(x y:Int):Int :=
 let a:=BitVec.ofInt k.bits x
 let b:=BitVec.ofInt k.bits y
 match op with
 | .and=>k.wrap (a &&& b).toNat
 | .or=>k.wrap (a ||| b).toNat
 | .xor=>k.wrap (a ^^^ b).toNat
 | _=>k.wrap (a &&& ~~~b).toNat
def eqS(x y:List UInt8):Bool:=decide (x=y)
def ltS(x y:List UInt8):Bool:=Op.bytesLess x y
def mxI(x y:Int):Int:=if y>x then y else x
def mnI(x y:Int):Int:=if y<x then y else x
def strBytes(s:List UInt8):List Int:=s.map fun b=>(b.toNat:Int)
def bytesStr(l:List Int):List UInt8:=l.map fun n=>UInt8.ofNat n.toNat
inductive PSpec where
 | val (t:Ty) (m:Md)
 | ref (t:Ty)
 | mut (t:Ty) (m m':Md)
 | vm (t:Ty) (m:Md)
 | fn (nf nc:Nat)
 | frz (t:Ty)
inductive RSpec where
 | val (t:Ty) (m:Md)
 | opt (arg off:Nat) (t:Ty)
 | new (t:Ty) (m:Md)
 | optr (t:Ty)
 | any (t:Ty)
def PSpec.ins:List PSpec→Tys
 | []=>.nil
 | .val t _ :: l | .ref t :: l | .mut t _ _ :: l | .vm t _ :: l | .frz t :: l=>.cons t (PSpec.ins l)
 | .fn _ _ :: l=>PSpec.ins l
def RSpec.outs:List RSpec→Tys→Tys
 | [],ts=>ts
 | .val t _ :: l,ts=>.cons t (RSpec.outs l ts)
 | .new t _ :: l,ts=>.cons t (RSpec.outs l ts)
 | .optr t :: l,ts=>.cons (.sl t) (RSpec.outs l ts)
 | .any _ :: l,ts=>RSpec.outs l ts
 | .opt _ _ _ :: l,ts=>.cons (.int .i64) (RSpec.outs l ts)
def PSpec.muts:List PSpec→Tys
 | []=>.nil
 | .mut t _ _ :: l | .vm t _ :: l=>.cons t (PSpec.muts l)
 | _ :: l=>PSpec.muts l
structure Entry where
 ps:List PSpec
 rs:List RSpec
 f:(PSpec.ins ps).D→Option (RSpec.outs rs (PSpec.muts ps)).D
structure Env where
 n:Nat
 ty:Nat→Option Ty
 eqt:Nat→Bool
 ptrT:Nat→Bool
 fns:FuncId→FuncId→Option Entry
def subL{α : Type}(sub:Option (Nat×Nat))(xs:List α):List α :=
 match sub with
 | none=>xs
 | some (lo,len)=>part xs lo len
def subLen{α : Type}(sub:Option (Nat×Nat))(xs:List α):Nat :=
 match sub with
 | none=>xs.length
 | some (_,len)=>len
def subLo(sub:Option (Nat×Nat)):Nat :=
 match sub with
 | none=>0
 | some (lo,_)=>lo
def alive(s:St):List (Nat×Nat)→Bool
 | []=>true
 | (i,v) :: l=>match s.o i with
  | .row _ _ w _=>cond (Nat.beq w v) (alive s l) false
  | .var w _=>cond (Nat.beq w v) (alive s l) false
  | _=>false
def verOf(s:St)(id:Nat):Nat :=
 match s.o id with
 | .row _ _ v _=>v
 | .var v _=>v
 | .lent (.row _ _ v _)=>v
 | .lent (.var v _)=>v
 | _=>0
def listOf(s:St)(t:Ty):HC→Option (List t.D)
 | .nil u=>castD (.sl u) (.sl t) ([]:List u.D)
 | .lst u dp _ xs=>cond (alive s dp) (castD (.sl u) (.sl t) xs) none
 | .hd id sub=>match s.o id with
  | .row u _ _ xs=>castD (.sl u) (.sl t) (subL sub xs)
  | _=>none
 | _=>none
def borrows(s:St):HC→List (Nat×Nat)
 | .hd id _=>match s.o id with
  | .row _ _ v _=>[(id,v)]
  | _=>[]
 | .lst _ dp _ _=>dp
 | _=>[]
mutual
def Ty.imp:(t:Ty)→(b:Bool)→Md→List HC→St→List (Nat×Nat)→Option (t.D×List HC×St×List (Nat×Nat))
 | .int k,_,_,.int k' x :: cs,s,bs=>cond (Nat.beq (kindNo k) (kindNo k')) (some (x,cs,s,bs)) none
 | .bool,_,_,.bool x :: cs,s,bs=>some (x,cs,s,bs)
 | .str,_,_,.str x :: cs,s,bs=>some (x,cs,s,bs)
 | .raw,_,_,.raw x :: cs,s,bs=>some (x,cs,s,bs)
 | .sl t,b,.O e,c :: cs,s,bs=>match c with
  | .nil u=>(castD (.sl u) (.sl t) ([]:List u.D)).bind fun x=>some (x,cs,s,bs)
  | .hd id sub=>match s.o id with
   | .row u em _ xs=>cond (Md.le em e) ((castD (.sl u) (.sl t) (subL sub xs)).bind fun x=>some (x,cs,s.putO id .dead,bs)) none
   | _=>none
  | _=>none
 | .sl t,true,_,c :: cs,s,bs=>(listOf s t c).bind fun x=>some (x,cs,s,borrows s c++bs)
 | .sl t,false,_,c :: cs,s,bs=>match c with
  | .nil u=>(castD (.sl u) (.sl t) ([]:List u.D)).bind fun x=>some (x,cs,s,bs)
  | .lst u [] _ xs=>(castD (.sl u) (.sl t) xs).bind fun x=>some (x,cs,s,bs)
  | .hd id sub=>match s.o id with
   | .row u _ _ xs=>(castD (.sl u) (.sl t) (subL sub xs)).bind fun x=>some (x,cs,s.putO id .dead,bs)
   | _=>none
  | _=>none
 | .st ts,b,m,cs,s,bs=>ts.imp b m.parts cs s bs
 | _,_,_,_,_,_=>none
def Tys.imp:(ts:Tys)→(b:Bool)→Mds→List HC→St→List (Nat×Nat)→Option (ts.D×List HC×St×List (Nat×Nat))
 | .nil,_,_,cs,s,bs=>some ((),cs,s,bs)
 | .cons t ts,b,m,cs,s,bs=>(t.imp b m.hd cs s bs).bind fun r=>(ts.imp b m.tl r.2.1 r.2.2.1 r.2.2.2).bind fun q=>some ((r.1,q.1),q.2)
end
mutual
def Ty.put:(t:Ty)→Md→t.D→Nat→List HC→St→Option (t.D×List HC×St)
 | t,m,x,skip,cs,s =>
  match cs with
  | []=>some (x,[],s)
  | c :: cs' =>
   cond (Nat.beq skip 0&&Nat.ble t.size (cs'.length+1)) ((t.imp false m (c :: cs') s []).bind fun r=>some (r.1,r.2.1,r.2.2.1))
    (match t,x with
     | .st ts,x=>ts.put m.parts x skip (c :: cs') s
     | _,_=>none)
def Tys.put:(ts:Tys)→Mds→ts.D→Nat→List HC→St→Option (ts.D×List HC×St)
 | .nil,_,_,_,cs,s=>some ((),cs,s)
 | .cons t ts,m,x,skip,cs,s =>
  cond (Nat.ble t.size skip) ((ts.put m.tl x.2 (skip-t.size) cs s).bind fun q=>some ((x.1,q.1),q.2))
   ((t.put m.hd x.1 skip cs s).bind fun r=>(ts.put m.tl x.2 0 r.2.1 r.2.2).bind fun q=>some ((r.1,q.1),q.2))
end
mutual
def Ty.expl:(t:Ty)→Md→List (Nat×Nat)→t.D→St→Nat→Option (List HC×St×Nat)
 | .int k,_,_,x,s,j=>some ([.int k x],s,j)
 | .bool,_,_,x,s,j=>some ([.bool x],s,j)
 | .str,_,_,x,s,j=>some ([.str x],s,j)
 | .raw,_,_,x,s,j=>some ([.raw x],s,j)
 | .sl t,.O e,dp,x,s,j=>cond (dp.isEmpty||Md.beq e t.own) (match s.o j with
  | .none=>some ([.hd j none],s.putO j (.row t e 0 x),j+1)
  | _=>none) none
 | .sl t,_,dp,x,s,j=>some ([.lst t dp none x],s,j)
 | .st ts,m,dp,x,s,j=>ts.expl m.parts dp x s j
def Tys.expl:(ts:Tys)→Mds→List (Nat×Nat)→ts.D→St→Nat→Option (List HC×St×Nat)
 | .nil,_,_,_,s,j=>some ([],s,j)
 | .cons t ts,m,dp,x,s,j=>(t.expl m.hd dp x.1 s j).bind fun r=>(ts.expl m.tl dp x.2 r.2.1 r.2.2).bind fun q=>some (r.1++q.1,q.2)
end
mutual
def Ty.mdOf:(t:Ty)→St→List HC→Md×List HC
 | .sl t,s,c :: cs=>(match c with
  | .nil _=>.O t.own
  | .hd id _=>match s.o id with
   | .row _ em _ _=>.O em
   | _=>.R
  | _=>.R,cs)
 | .st ts,s,cs=>cond ts.flat (.R,cs.drop ts.size) (let r:=ts.mdOf s cs;(.S r.1,r.2))
 | _,_,cs=>(.R,cs.drop 1)
def Tys.mdOf:(ts:Tys)→St→List HC→Mds×List HC
 | .nil,_,cs=>(.nil,cs)
 | .cons t ts,s,cs=>let r:=t.mdOf s cs;let q:=ts.mdOf s r.2;(.cons r.1 q.1,q.2)
end
def takeN(off n:Nat)(cs:List HC):Option (List HC) :=
 cond (Nat.ble (off+n) cs.length) (some (part cs off n)) none
def cells1(t:Ty)(em:Md)(id ver i:Nat)(x:t.D):List HC :=
 match em with
 | .R=>t.cells [] none x
 | _=>t.cells [(id,ver)] (some ⟨id,some i,0⟩) x
def readP(s:St)(n:Nat)(p:Place):Option (List HC) :=
 match s.o p.id,p.ei with
 | .var _ cs,none=>takeN p.off n cs
 | .row t em ver xs,some i=>takeN p.off n (cells1 t em p.id ver i (gd t xs i))
 | _,_=>none
def writeP(s:St)(p:Place)(cs:List HC):Option St :=
 match s.o p.id,p.ei with
 | .var ver old,none=>cond (Nat.ble (p.off+cs.length) old.length) (some (s.putO p.id (.var (ver+1) (old.take p.off++cs++old.drop (p.off+cs.length))))) none
 | .row t em ver xs,some i =>
  cond (Nat.ble (p.off+cs.length) t.size) ((t.put em (gd t xs i) p.off cs s).bind fun r =>
   match r.2.1,r.2.2.o p.id with
   | [],.row _ _ _ _=>some (r.2.2.putO p.id (.row t em (ver+1) (xs.set i r.1)))
   | _,_=>none) none
 | _,_=>none
def wrapT(t:Ty)(cs:List HC):Option TV :=
 match t with
 | .st _=>some (.ag cs)
 | _=>match cs with
  | [c]=>some (.sc c)
  | _=>none
def cellsT(t:Ty):TV→Option (List HC)
 | .sc c=>some [c]
 | .ag cs=>some cs
 | .nilc=>match t with
  | .sl u=>some [.nil u]
  | _=>none
 | _=>none
def constV:Value→TV
 | .int k n=>.sc (.int k n)
 | .bool b=>.sc (.bool b)
 | .string b=>.sc (.str b.data.toList)
 | .slice none 0 0=>.nilc
 | .pointer none=>.nilp
 | _=>.und
def opd(s:St):Operand→TV
 | .tmp t=>s.t t
 | .const v=>constV v
 | .func f=>.fn f [] []
 | .global _=>.und
def typed(E:Env)(t:Nat):TV→Option TV
 | .und=>none
 | .gone=>none
 | .nilc=>match E.ty t with
  | some (.sl u)=>some (.sc (.nil u))
  | _=>none
 | v=>some v
def asInt?:TV→Option Int
 | .sc (.int _ n)=>some n
 | _=>none
end Go.LM
namespace Go.LM
def lenC(s:St):HC→Option Nat
 | .nil _=>some 0
 | .lst _ dp _ xs=>cond (alive s dp) (some xs.length) none
 | .hd id sub=>match s.o id with
  | .row _ _ _ xs=>some (subLen sub xs)
  | _=>none
 | .str x=>some x.length
 | _=>none
mutual
def Ty.cmp:Ty→List HC→List HC→Option (Bool×List HC×List HC)
 | .int k,.int k1 x :: a,.int k2 y :: b=>cond (Nat.beq (kindNo k1) (kindNo k)&&Nat.beq (kindNo k2) (kindNo k)) (some (x==y,a,b)) none
 | .bool,.bool x :: a,.bool y :: b=>some (x==y,a,b)
 | .str,.str x :: a,.str y :: b=>some (eqS x y,a,b)
 | .st ts,a,b=>ts.cmp a b
 | _,_,_=>none
def Tys.cmp:Tys→List HC→List HC→Option (Bool×List HC×List HC)
 | .nil,a,b=>some (true,a,b)
 | .cons t ts,a,b=>(t.cmp a b).bind fun r=>(ts.cmp r.2.1 r.2.2).bind fun q=>some (r.1&&q.1,q.2)
end
def intBin(op:BinOp)(k:IntKind)(x y:Int):Option TV :=
 match op with
 | .add=>some (.sc (.int k (k.wrap (x+y))))
 | .sub=>some (.sc (.int k (k.wrap (x-y))))
 | .mul=>some (.sc (.int k (k.wrap (x*y))))
 | .and=>some (.sc (.int k (bitsI .and k x y)))
 | .or=>some (.sc (.int k (bitsI .or k x y)))
 | .xor=>some (.sc (.int k (bitsI .xor k x y)))
 | .andNot=>some (.sc (.int k (bitsI .andNot k x y)))
 | .eql=>some (.sc (.bool (x==y)))
 | .neq=>some (.sc (.bool (x != y)))
 | .lss=>some (.sc (.bool (decide (x<y))))
 | .leq=>some (.sc (.bool (decide (x≤y))))
 | .gtr=>some (.sc (.bool (decide (x>y))))
 | .geq=>some (.sc (.bool (decide (x≥y))))
 | _=>none
def strCmp(op:BinOp)(x y:List UInt8):Option TV :=
 match op with
 | .eql=>some (.sc (.bool (eqS x y)))
 | .neq=>some (.sc (.bool (!eqS x y)))
 | .lss=>some (.sc (.bool (ltS x y)))
 | .leq=>some (.sc (.bool (ltS x y||eqS x y)))
 | .gtr=>some (.sc (.bool (!(ltS x y||eqS x y))))
 | .geq=>some (.sc (.bool (!ltS x y)))
 | _=>none
section
variable{ρ : Type}
def lift(x:Option TV)(K:TV→Option ρ):Option ρ :=
 match x with
 | some v=>K v
 | none=>none
open Classical in
noncomputable def both(a b:Option ρ):Option ρ := if a=b then a else none
noncomputable def nilK(b:Bool)(x y:Option ρ):Option ρ := cond b (both x y) y
noncomputable def binK(E:Env)(ty:Nat)(op:BinOp)(x y:TV)(K:TV→Option ρ):Option ρ :=
 match x,y with
 | .sc (.int k a),.sc (.int k' b) =>
  match op with
  | .shl=>grd (decide (0≤b)) (K (.sc (.int k (k.wrap (a*2 ^ min b.toNat k.bits)))))
  | .shr=>grd (decide (0≤b)) (K (.sc (.int k (a.fdiv (2 ^ min b.toNat k.bits)))))
  | .quo=>cond (Nat.beq (kindNo k) (kindNo k')) (grd (b != 0) (K (.sc (.int k (k.wrap (a.tdiv b)))))) none
  | .rem=>cond (Nat.beq (kindNo k) (kindNo k')) (grd (b != 0) (K (.sc (.int k (a.tmod b))))) none
  | _=>cond (Nat.beq (kindNo k) (kindNo k')) (lift (intBin op k a b) K) none
 | .sc (.str a),.sc (.str b) =>
  match op with
  | .add=>grd (room (a.length+b.length)) (K (.sc (.str (a++b))))
  | _=>lift (strCmp op a b) K
 | .sc (.bool a),.sc (.bool b) =>
  match E.ty ty,op with
  | some .bool,.eql=>K (.sc (.bool (a==b)))
  | some .bool,.neq=>K (.sc (.bool (!(a==b))))
  | _,_=>none
 | .ag a,.ag b =>
  cond (E.eqt ty) (match E.ty ty with
  | some T=>(match op,T.cmp a b with
   | .eql,some (r,[],[])=>K (.sc (.bool r))
   | .neq,some (r,[],[])=>K (.sc (.bool (!r)))
   | _,_=>none)
  | none=>none) none
 | .sc (.lst _ [] _ xs),.nilc =>
  match E.ty ty,op with
  | some (.sl _),.eql=>nilK xs.isEmpty (K (.sc (.bool true))) (K (.sc (.bool false)))
  | some (.sl _),.neq=>nilK xs.isEmpty (K (.sc (.bool false))) (K (.sc (.bool true)))
  | _,_=>none
 | .opt _ o,.nilp =>
  match E.ptrT ty,op with
  | true,.eql=>K (.sc (.bool (decide (o<0))))
  | true,.neq=>K (.sc (.bool (!decide (o<0))))
  | _,_=>none
 | .ptr _,.nilp =>
  match E.ptrT ty,op with
  | true,.eql=>K (.sc (.bool false))
  | true,.neq=>K (.sc (.bool true))
  | _,_=>none
 | .may b _ _,.nilp =>
  match E.ptrT ty,op with
  | true,.eql=>K (.sc (.bool (!b)))
  | true,.neq=>K (.sc (.bool b))
  | _,_=>none
 | _,_=>none
def unK(op:UnOp)(x:TV)(K:TV→Option ρ):Option ρ :=
 match op,x with
 | .neg,.sc (.int k n)=>K (.sc (.int k (k.wrap (0-n))))
 | .xor,.sc (.int k n)=>K (.sc (.int k (bitsI .xor k (if k.signed then -1 else k.max) n)))
 | .not,.sc (.bool b)=>K (.sc (.bool (!b)))
 | _,_=>none
def impAll(t:Ty)(m:Md):List (List HC)→St→Option (List t.D×St)
 | [],s=>some ([],s)
 | cs :: B,s=>(t.imp false m cs s []).bind fun r =>
   match r.2.1 with
   | []=>(impAll t m B r.2.2.1).bind fun q=>some (r.1 :: q.1,q.2)
   | _=>none
def Tys.nth:Tys→Nat→Option Ty
 | .nil,_=>none
 | .cons t _,0=>some t
 | .cons _ ts,n+1=>Tys.nth ts n
def Tys.zblocks:Tys→List (List HC)
 | .nil=>[]
 | .cons t ts=>t.zcells :: Tys.zblocks ts
def fillB(s:St)(ty:Nat→Option Ty):List (Nat×Operand)→List (List HC)→Option (List (List HC))
 | [],B=>some B
 | (i,x) :: ps,B =>
  match ty i with
  | none=>none
  | some t =>
   match cellsT t (opd s x) with
   | none=>none
   | some cs=>cond (Nat.beq cs.length t.size) (fillB s ty ps (B.set i cs)) none
def Tys.off:Tys→Nat→Option (Nat×Ty)
 | .nil,_=>none
 | .cons t _,0=>some (0,t)
 | .cons t ts,n+1=>(Tys.off ts n).bind fun r=>some (t.size+r.1,r.2)
def mkObj(s:St)(id:Nat)(o:LObj):Option St :=
 match s.o id with
 | .none=>some (s.putO id o)
 | _=>none
def taken(s:St)(t:Ty):HC→Option (Md×List t.D×St)
 | .nil u=>(castD (.sl u) (.sl t) ([]:List u.D)).bind fun x=>some (t.own,x,s)
 | .hd id sub=>match s.o id with
  | .row u em _ xs=>(castD (.sl u) (.sl t) (subL sub xs)).bind fun x=>some (em,x,s.putO id .dead)
  | _=>none
 | _=>none
def added(s:St)(t:Ty):HC→Option (Md×List t.D×St)
 | .hd id sub=>match s.o id with
  | .row u em _ xs=>match em with
   | .R=>(castD (.sl u) (.sl t) (subL sub xs)).bind fun x=>some (.R,x,s)
   | _=>(castD (.sl u) (.sl t) (subL sub xs)).bind fun x=>some (em,x,s.putO id .dead)
  | _=>none
 | .lst u dp _ xs=>cond (alive s dp&&(t.flat||dp.isEmpty)) ((castD (.sl u) (.sl t) xs).bind fun x=>some (.R,x,s)) none
 | .nil u=>(castD (.sl u) (.sl t) ([]:List u.D)).bind fun x=>some (t.own,x,s)
 | .str x=>(castD (.sl (.int .u8)) (.sl t) (strBytes x)).bind fun y=>some (.R,y,s)
 | _=>none
def meet(a b:Md):Md:=cond (Md.beq a b) a .R
def appendK(id:Nat)(t:Ty)(s:St)(a b:HC)(K:HC→St→Option ρ):Option ρ :=
 match added s t b with
 | none=>none
 | some (mb,ys,s1) =>
  match taken s1 t a with
  | none=>none
  | some (ma,xs,s2) =>
   match mkObj s2 id (.row t (meet ma mb) 0 (xs++ys)) with
   | none=>none
   | some s3=>grd (room (xs.length+ys.length)) (K (.hd id none) s3)
def fitV(t:Ty)(v:TV):Bool :=
 match t,v with
 | .st _,.ag _=>true
 | .st _,_=>false
 | _,.sc _=>true
 | .sl _,.nilc=>true
 | _,_=>false
mutual
def Ty.getAt:(T:Ty)→Nat→(t:Ty)→T.D→Option (List t.D)
 | .sl u,off,t,x=>cond (Nat.beq off 0) (castD (.sl u) (.sl t) x) none
 | .st ts,off,t,x=>ts.getAt off t x
 | _,_,_,_=>none
def Tys.getAt:(ts:Tys)→Nat→(t:Ty)→ts.D→Option (List t.D)
 | .nil,_,_,_=>none
 | .cons T ts,off,t,x=>cond (Nat.blt off T.size) (T.getAt off t x.1) (ts.getAt (off-T.size) t x.2)
end
mutual
def Ty.setAt:(T:Ty)→Nat→(t:Ty)→List t.D→T.D→Option T.D
 | .sl u,off,t,y,_=>cond (Nat.beq off 0) (castD (.sl t) (.sl u) y) none
 | .st ts,off,t,y,x=>ts.setAt off t y x
 | _,_,_,_,_=>none
def Tys.setAt:(ts:Tys)→Nat→(t:Ty)→List t.D→ts.D→Option ts.D
 | .nil,_,_,_,_=>none
 | .cons T ts,off,t,y,x=>cond (Nat.blt off T.size) ((T.setAt off t y x.1).bind fun z=>some (z,x.2)) ((ts.setAt (off-T.size) t y x.2).bind fun z=>some (x.1,z))
end
def lendOrg(t:Ty)(e:Md)(s:St)(dp:List (Nat×Nat)):Option Place→Option (List t.D×St)
 | none=>none
 | some p =>
  match p.ei,s.o p.id with
  | some i,.row T em ver ys=>cond (alive s dp&&Md.beq em T.own&&Md.beq e t.own) ((T.getAt p.off t (gd T ys i)).bind fun x=>some (x,s.putO p.id (.lent (.row T em ver ys)))) none
  | _,_=>none
def backOrg(t:Ty)(x:List t.D)(s:St):Option Place→Option St
 | none=>none
 | some p =>
  match p.ei,s.o p.id with
  | some i,.lent (.row T em ver ys)=>(T.setAt p.off t x (gd T ys i)).bind fun z=>some (s.putO p.id (.row T em (ver+1) (ys.set i z)))
  | _,_=>none
mutual
def Ty.lend:(t:Ty)→Md→List HC→St→Option (t.D×List HC×St)
 | .int k,_,.int k' x :: cs,s=>cond (Nat.beq (kindNo k) (kindNo k')) (some (x,cs,s)) none
 | .bool,_,.bool x :: cs,s=>some (x,cs,s)
 | .str,_,.str x :: cs,s=>some (x,cs,s)
 | .sl t,.O e,c :: cs,s=>match c with
  | .nil u=>(castD (.sl u) (.sl t) ([]:List u.D)).bind fun x=>some (x,cs,s)
  | .hd id none=>match s.o id with
   | .row u em ver xs=>cond (Md.beq em e) ((castD (.sl u) (.sl t) xs).bind fun x=>some (x,cs,s.putO id (.lent (.row u em ver xs)))) none
   | _=>none
  | .lst _ dp og _=>(lendOrg t e s dp og).bind fun r=>some (r.1,cs,r.2)
  | _=>none
 | .st ts,m,cs,s=>ts.lend m.parts cs s
 | _,_,_,_=>none
def Tys.lend:(ts:Tys)→Mds→List HC→St→Option (ts.D×List HC×St)
 | .nil,_,cs,s=>some ((),cs,s)
 | .cons t ts,m,cs,s=>(t.lend m.hd cs s).bind fun r=>(ts.lend m.tl r.2.1 r.2.2).bind fun q=>some ((r.1,q.1),q.2)
end
mutual
def Ty.back:(t:Ty)→t.D→List HC→St→Option (List HC×St)
 | .sl t,x,c :: cs,s=>match c with
  | .nil _=>some (cs,s)
  | .hd id none=>match s.o id with
   | .lent (.row u em ver _)=>(castD (.sl t) (.sl u) x).bind fun y=>some (cs,s.putO id (.row u em (ver+1) y))
   | _=>none
  | .lst _ _ og _=>(backOrg t x s og).bind fun s'=>some (cs,s')
  | _=>none
 | .st ts,x,cs,s=>ts.back x cs s
 | _,_,_ :: cs,s=>some (cs,s)
 | _,_,[],_=>none
def Tys.back:(ts:Tys)→ts.D→List HC→St→Option (List HC×St)
 | .nil,_,cs,s=>some (cs,s)
 | .cons t ts,x,cs,s=>(t.back x.1 cs s).bind fun r=>ts.back x.2 r.1 r.2
end
def marsh(key:Nat)(s:St):(ps:List PSpec)→List TV→List (Nat×Nat)→Option ((PSpec.ins ps).D×St×List (Nat×Nat))
 | [],[],bs=>some ((),s,bs)
 | .fn nf nc :: ps,.fn g a b :: vs,bs=>cond (Nat.beq g key&&Nat.beq a.length nf&&Nat.beq b.length nc) (marsh key s ps vs bs) none
 | .val t m :: ps,v :: vs,bs=>cond (fitV t v)
  (match cellsT t v with
  | none=>none
  | some cs=>(t.imp true m cs s bs).bind fun r =>
   match r.2.1 with
   | []=>(marsh key r.2.2.1 ps vs r.2.2.2).bind fun q=>some ((r.1,q.1),q.2)
   | _=>none) none
 | .frz t :: ps,v :: vs,bs=>cond (fitV t v)
  (match cellsT t v with
  | none=>none
  | some cs=>(t.imp false .R cs s bs).bind fun r =>
   match r.2.1 with
   | []=>(marsh key r.2.2.1 ps vs r.2.2.2).bind fun q=>some ((r.1,q.1),q.2)
   | _=>none) none
 | .vm t m :: ps,v :: vs,bs=>cond (fitV t v&&Md.beq m t.own)
  (match cellsT t v with
  | none=>none
  | some cs=>(t.lend m cs s).bind fun r =>
   match r.2.1 with
   | []=>(marsh key r.2.2 ps vs bs).bind fun q=>some ((r.1,q.1),q.2)
   | _=>none) none
 | .ref t :: ps,.rp dp cs off :: vs,bs =>
  match takeN off t.size cs with
  | none=>none
  | some cs=>cond (alive s dp) ((t.imp true .R cs s (dp++bs)).bind fun r =>
   match r.2.1 with
   | []=>(marsh key r.2.2.1 ps vs r.2.2.2).bind fun q=>some ((r.1,q.1),q.2)
   | _=>none) none
 | .ref t :: ps,.ptr p :: vs,bs =>
  match readP s t.size p with
  | none=>none
  | some cs=>(t.imp true .R cs s ((p.id,verOf s p.id) :: bs)).bind fun r =>
   match r.2.1 with
   | []=>(marsh key r.2.2.1 ps vs r.2.2.2).bind fun q=>some ((r.1,q.1),q.2)
   | _=>none
 | .mut t m m' :: ps,.ptr p :: vs,bs =>
  match s.o p.id,p.ei with
  | .var ver old,none =>
   match takeN p.off t.size old with
   | none=>none
   | some cs=>(t.imp true m cs (s.putO p.id (.lent (.var ver old))) bs).bind fun r =>
    match r.2.1 with
    | []=>(marsh key r.2.2.1 ps vs r.2.2.2).bind fun q=>some ((r.1,q.1),q.2)
    | _=>none
  | .row u em ver xs,some i =>
   cond (Nat.beq p.off 0&&Md.beq em m&&Md.beq m' em&&Md.beq m t.own) ((castD u t (gd u xs i)).bind fun x =>
    (marsh key (s.putO p.id (.lent (.row u em ver xs))) ps vs bs).bind fun q=>some ((x,q.1),q.2)) none
  | _,_=>none
 | _,_,_=>none
def unmut(dp:List (Nat×Nat)):(ps:List PSpec)→List TV→(PSpec.muts ps).D→St→Nat→Option (St×Nat)
 | [],_,_,s,j=>some (s,j)
 | .mut t _ m' :: ps,.ptr p :: vs,x,s,j =>
  match s.o p.id,p.ei with
  | .lent (.var ver old),none=>(t.expl m' dp x.1 s j).bind fun r =>
   unmut dp ps vs x.2 (r.2.1.putO p.id (.var (ver+1) (old.take p.off++r.1++old.drop (p.off+t.size)))) r.2.2
  | .lent (.row u em ver xs),some i=>(castD t u x.1).bind fun y=>unmut dp ps vs x.2 (s.putO p.id (.row u em (ver+1) (xs.set i y))) j
  | _,_=>none
 | .vm t _ :: ps,v :: vs,x,s,j =>
  match cellsT t v with
  | none=>none
  | some cs=>(t.back x.1 cs s).bind fun r=>unmut dp ps vs x.2 r.2 j
 | .val _ _ :: ps,_ :: vs,x,s,j | .frz _ :: ps,_ :: vs,x,s,j | .ref _ :: ps,_ :: vs,x,s,j | .fn _ _ :: ps,_ :: vs,x,s,j=>unmut dp ps vs x s j
 | _,_,_,_,_=>none
def optOf(s:St)(vs:List TV)(arg off:Nat):Option Nat :=
 match vs[arg]? with
 | some (.ptr p)=>match readP s 1 { p with off:=p.off+off } with
  | some [.hd id none]=>some id
  | _=>none
 | _=>none
def rowTy(s:St)(t:Ty)(id:Nat):Bool :=
 match s.o id with
 | .row u _ _ _=>Ty.beq u t
 | _=>false
def unres(vs:List TV)(ps:List PSpec)(dp:List (Nat×Nat)):(rs:List RSpec)→(RSpec.outs rs (PSpec.muts ps)).D→St→Nat→Option (List TV×St)
 | [],x,s,j=>(unmut dp ps vs x s j).bind fun r=>some ([],r.1)
 | .val t m :: rs,x,s,j=>(t.expl m dp x.1 s j).bind fun r =>
  match wrapT t r.1 with
  | none=>none
  | some v=>(unres vs ps dp rs x.2 r.2.1 r.2.2).bind fun q=>some (v :: q.1,q.2)
 | .new t m :: rs,x,s,j=>(t.expl m dp x.1 s j).bind fun r=>(mkObj r.2.1 r.2.2 (.var 0 r.1)).bind fun s1=>(unres vs ps dp rs x.2 s1 (r.2.2+1)).bind fun q=>some (.ptr ⟨r.2.2,none,0⟩ :: q.1,q.2)
 | .opt a off t :: rs,x,s,j=>(unres vs ps dp rs x.2 s j).bind fun q =>
  match optOf q.2 vs a off with
  | none=>none
  | some id=>cond (rowTy q.2 t id) (some (.opt id x.1 :: q.1,q.2)) none
 | .any t :: rs,x,s,j=>(unres vs ps dp rs x s j).bind fun q=>some (.junk t :: q.1,q.2)
 | .optr t :: rs,x,s,j=>(unres vs ps dp rs x.2 s j).bind fun q=>some (.may (!List.isEmpty x.1) dp (t.cells dp none (gd t x.1 0)) :: q.1,q.2)
def fnKey:List TV→FuncId
 | []=>0
 | .fn f _ _ :: _=>f
 | _ :: l=>fnKey l
def fnCaps:List TV→List TV
 | []=>[]
 | .fn _ a b :: l=>a++b++fnCaps l
 | _ :: l=>fnCaps l
def noUnd:List TV→Bool
 | []=>true
 | .und :: _=>false
 | .gone :: _=>false
 | .junk _ :: _=>false
 | _ :: l=>noUnd l
def callK0(E:Env)(id:Nat)(s:St)(f:FuncId)(vs:List TV)(K:TV→St→Option ρ):Option ρ :=
 match E.fns f (fnKey vs) with
 | none=>none
 | some e =>
  match marsh (fnKey vs) s e.ps (vs++fnCaps vs) [] with
  | none=>none
  | some (x,s1,bs) =>
   cond (alive s1 bs&&noUnd vs)
    ((e.f x).bind fun r =>
     match unres (vs++fnCaps vs) e.ps bs e.rs r s1 id with
     | none=>none
     | some ([v],s2)=>K v s2
     | some (l,s2)=>K (.tup l) s2)
    none
def optsK(s:St):List TV→(List TV→Option ρ)→Option ρ
 | [],K=>K []
 | .opt i n :: l,K=>(ix (match s.o i with | .row _ _ _ xs=>xs.length | _=>0) n).bind fun k=>optsK s l fun l'=>K (.ptr ⟨i,some k,0⟩ :: l')
 | .may b dp cs :: l,K=>grd b (optsK s l fun l'=>K (.rp dp cs 0 :: l'))
 | v :: l,K=>optsK s l fun l'=>K (v :: l')
def callK(E:Env)(id:Nat)(s:St)(f:FuncId)(vs:List TV)(K:TV→St→Option ρ):Option ρ := optsK s vs fun vs=>callK0 E id s f vs K
end
end Go.LM
namespace Go.LM
section
variable{ρ : Type}
def minMaxGo(mx:Bool)(k:IntKind):Int→List TV→Option (IntKind×Int)
 | x,[]=>some (k,x)
 | x,.sc (.int _ y) :: l=>minMaxGo mx k (cond mx (mxI x y) (mnI x y)) l
 | _,_=>none
def minMax(mx:Bool):List TV→Option (IntKind×Int)
 | .sc (.int k x) :: l=>minMaxGo mx k x l
 | _=>none
def fitsC(s:St)(T:Ty):HC→Bool
 | .str _=>Ty.beq T .str
 | .nil u=>Ty.beq T (.sl u)
 | .lst u _ _ _=>Ty.beq T (.sl u)
 | .hd id _=>match s.o id with
  | .row u _ _ _=>Ty.beq T (.sl u)
  | _=>false
 | _=>false
def oneCell(t:Ty):TV→Option HC
 | .sc c=>some c
 | .nilc=>some (.nil t)
 | _=>none
def appTy(E:Env):List Nat→Option Ty
 | ta :: tb :: _ =>
  match E.ty ta,E.ty tb with
  | some (.sl t),some (.sl _)=>some t
  | some (.sl t),some .str=>some t
  | _,_=>none
 | _=>none
def builtinK(E:Env)(id:Nat)(s:St)(b:Builtin)(tys:List Nat)(vs:List TV)(K:TV→St→Option ρ):Option ρ :=
 match b,vs with
 | .len,[.sc c] =>
  match tys with
  | t :: _ =>
   match E.ty t with
   | some T=>cond (fitsC s T c)
    (match lenC s c with
    | some n=>K (.sc (.int .i64 n)) s
    | none=>none) none
   | none=>none
  | _=>none
 | .append,[va,vb] =>
  match appTy E tys with
  | some t =>
   match oneCell t va,oneCell t vb with
   | some a,some b=>appendK id t s a b fun c s=>K (.sc c) s
   | _,_=>none
  | none=>none
 | .clear,[.sc (.hd i sub)] =>
  match tys with
  | t :: _ =>
   match E.ty t,s.o i with
   | some (.sl u),.row v em ver xs=>cond (Ty.beq u v&&v.flat) (K (.tup []) (s.putO i (.row v em (ver+1) (xs.take (subLo sub)++List.replicate (subLen sub xs) v.zero++xs.drop (subLo sub+subLen sub xs))))) none
   | _,_=>none
  | _=>none
 | .min,vs =>
  match minMax false vs with
  | some (k,x)=>K (.sc (.int k x)) s
  | none=>none
 | .max,vs =>
  match minMax true vs with
  | some (k,x)=>K (.sc (.int k x)) s
  | none=>none
 | _,_=>none
def bound(s:St)(x:Option Operand)(d:Int):Option Int :=
 match x with
 | none=>some d
 | some x=>asInt? (opd s x)
def cutC(c:HC)(l m:Nat):Option HC :=
 match c with
 | .str x=>some (.str (part x l m))
 | .nil t=>some (.nil t)
 | .lst t dp og xs=>some (.lst t dp none (part xs l m))
 | .hd id sub=>some (.hd id (some (subLo sub+l,m)))
 | _=>none
def sliceK(s:St)(T:Ty)(x:TV)(lo hi mx:Option Operand)(K:TV→Option ρ):Option ρ :=
 match x with
 | .sc c =>
  cond (fitsC s T c)
  (match lenC s c with
  | none=>none
  | some n =>
   match bound s lo 0,bound s hi n with
   | some l,some h =>
    (match mx with
     | none=>fun k=>k
     | some m=>fun k=>cond (Ty.beq T .str) none (match asInt? (opd s m) with
      | some m=>cond hi.isSome (grd (decide (h=m)) k) none
      | none=>none))
    ((rng n l h).bind fun r =>
     match cutC c r.1 (r.2-r.1) with
     | some c'=>K (.sc c')
     | none=>none)
   | _,_=>none) none
 | _=>none
def convK(E:Env)(id:Nat)(s:St)(src dst:Nat)(x:TV)(K:TV→St→Option ρ):Option ρ :=
 match E.ty src,E.ty dst,x with
 | some (.int _),some (.int k),.sc (.int _ n)=>K (.sc (.int k (k.wrap n))) s
 | some .str,some .str,.sc (.str b)=>K (.sc (.str b)) s
 | some .str,some (.sl (.int .u8)),.sc (.str b) =>
  match mkObj s id (.row (.int .u8) .R 0 (strBytes b)) with
  | some s1=>K (.sc (.hd id none)) s1
  | none=>none
 | some (.sl (.int .u8)),some .str,.sc c =>
  match listOf s (.int .u8) c with
  | some xs=>K (.sc (.str (bytesStr xs))) s
  | none=>none
 | _,_,_=>none
def firstMd(T:Ty)(s:St):List (List HC)→Md
 | cs :: _=>(T.mdOf s cs).1
 | []=>T.own
noncomputable def opK(E:Env)(id:Nat)(o:Oper)(s:St)(K:St→Option ρ):Option ρ :=
 let put (v:TV) (s:St):Option ρ := K (s.dst o.dst v)
 match o.op with
 | .move x | .assign x =>
  match typed E o.type (opd s x) with
  | some v=>put v s
  | none=>none
 | .pick c a b =>
  match opd s c,typed E o.type (opd s a),typed E o.type (opd s b) with
  | .sc (.bool t),some va,some vb=>cond t (put va s) (put vb s)
  | .sc (.bool t),some va,none=>cond t (put va s) none
  | .sc (.bool t),none,some vb=>cond t none (put vb s)
  | _,_,_=>none
 | .alloc t =>
  match E.ty t with
  | some T=>match mkObj s id (.var 0 T.zcells) with
   | some s1=>put (.ptr ⟨id,none,0⟩) s1
   | none=>none
  | none=>none
 | .box t x =>
  match E.ty t with
  | some T=>match cellsT T (opd s x) with
   | some cs=>cond (Nat.beq cs.length T.size)
    (match mkObj s id (.var 0 cs) with
     | some s1=>put (.ptr ⟨id,none,0⟩) s1
     | none=>none) none
   | none=>none
  | none=>none
 | .build t parts =>
  match E.ty t with
  | some (.st ts)=>match fillB s ts.nth parts.toList ts.zblocks with
   | some B=>put (.ag B.flatten) s
   | none=>none
  | _=>none
 | .buildSlice t n parts =>
  match E.ty t with
  | some (.sl T)=>cond (Nat.ble (n*T.size) 16777216)
   (match fillB s (fun i=>cond (Nat.blt i n) (some T) none) parts.toList (List.replicate n T.zcells) with
   | some B =>
    match impAll T (firstMd T s B) B s with
    | some (xs,s1)=>match mkObj s1 id (.row T (firstMd T s B) 0 xs) with
     | some s2=>put (.sc (.hd id none)) s2
     | none=>none
    | none=>none
   | none=>none) none
  | _=>none
 | .load t a =>
  match E.ty t,opd s a with
  | some T,.ptr p=>match (readP s T.size p).bind (wrapT T) with
   | some v=>put v s
   | none=>none
  | some T,.rp dp cs off=>match (takeN off T.size cs).bind (wrapT T) with
   | some v=>cond (alive s dp) (put v s) none
   | none=>none
  | _,_=>none
 | .store t a x =>
  match E.ty t,opd s a with
  | some T,.ptr p=>match cellsT T (opd s x) with
   | some cs=>cond (Nat.beq cs.length T.size)
    (match writeP s p cs with
     | some s1=>put .und s1
     | none=>none) none
   | none=>match opd s x,s.o p.id,p.ei with
    | .junk u,.var _ old,none=>cond (Ty.beq u T&&Nat.beq p.off 0&&Nat.ble T.size old.length) (put .und (s.putO p.id .dead)) none
    | _,_,_=>none
  | _,_=>none
 | .nilCheck x =>
  match opd s x with
  | .ptr p=>put (.ptr p) s
  | .rp dp cs off=>put (.rp dp cs off) s
  | .fn f a b=>put (.fn f a b) s
  | .may b dp cs=>grd b (put (.rp dp cs 0) s)
  | .opt i n=>(ix (match s.o i with | .row _ _ _ xs=>xs.length | _=>0) n).bind fun k=>put (.ptr ⟨i,some k,0⟩) s
  | _=>none
 | .binOp op ty x y _=>binK E ty op (opd s x) (opd s y) fun v=>put v s
 | .unOp op _ x=>unK op (opd s x) fun v=>put v s
 | .convert src dst x=>convK E id s src dst (opd s x) put
 | .makeFunc (.func f) first caps=>put (.fn f (first.toList.map (opd s)) (caps.toList.map (opd s))) s
 | .makeSlice t l c =>
  match E.ty t,asInt? (opd s l),asInt? (opd s c) with
  | some (.sl T),some n,some m =>
   grd (decide (0≤n)&&decide (n=m)&&room n.toNat)
    (match mkObj s id (.row T T.own 0 (List.replicate n.toNat T.zero)) with
     | some s1=>put (.sc (.hd id none)) s1
     | none=>none)
  | _,_,_=>none
 | .slice t x lo hi mx =>
  match E.ty t with
  | some T=>sliceK s T (opd s x) lo hi mx fun v=>put v s
  | none=>none
 | .fieldAddr t x f =>
  match E.ty t,opd s x with
  | some (.st ts),.ptr p=>match ts.off f with
   | some (k,u)=>cond (Nat.beq u.size 0) none (put (.ptr { p with off:=p.off+k }) s)
   | none=>none
  | some (.st ts),.rp dp cs off=>match ts.off f with
   | some (k,u)=>cond (Nat.beq u.size 0) none (put (.rp dp cs (off+k)) s)
   | none=>none
  | _,_=>none
 | .field t x f =>
  match E.ty t,opd s x with
  | some (.st ts),.ag cs=>match ts.off f with
   | some (k,u)=>match (takeN k u.size cs).bind (wrapT u) with
    | some v=>put v s
    | none=>none
   | none=>none
  | _,_=>none
 | .indexAddr t x i =>
  match E.ty t,opd s x,asInt? (opd s i) with
  | some (.sl u),.sc c,some n =>
   match c with
   | .hd id sub=>match s.o id with
    | .row v _ _ xs=>cond (Ty.beq u v) ((ix (subLen sub xs) n).bind fun k=>put (.ptr ⟨id,some (subLo sub+k),0⟩) s) none
    | _=>none
   | .lst v dp og xs=>cond (alive s dp&&Ty.beq u v) ((ix xs.length n).bind fun k=>put (.rp dp (v.cells dp none (gd v xs k)) 0) s) none
   | _=>none
  | _,_,_=>none
 | .index t x i =>
  match E.ty t,opd s x,asInt? (opd s i) with
  | some .str,.sc (.str b),some n=>(ix b.length n).bind fun k=>put (.sc (.int .u8 (b.getD k 0).toNat)) s
  | _,_,_=>none
 | .extract x i =>
  match opd s x with
  | .tup l=>match l[i]? with
   | some v=>put v s
   | none=>none
  | _=>none
 | .call c =>
  let vs:=c.args.toList.map (opd s)
  match c.callee with
  | .builtin b=>builtinK E id s b c.argTypes.toList vs put
  | .value f=>match opd s f with
   | .fn g first caps=>callK E id s g (first++vs++caps) put
   | _=>none
  | _=>none
 | _=>none
def guardOf(ops:List Oper)(o:Oper):Option (Option Nat×Bool) :=
 match o.guard with
 | none=>none
 | some (j,w)=>some ((ops[j]?).bind (·.dst),w)
def okDst(E:Env)(o:Oper):Bool :=
 match o.dst with
 | some d=>Nat.blt d E.n
 | none=>true
noncomputable def oneK(E:Env)(id:Nat)(ops:List Oper)(o:Oper)(s:St)(K:St→Option ρ):Option ρ :=
 cond (okDst E o) (match guardOf ops o with
 | none=>opK E id o s K
 | some (some d,w) =>
  match s.t d with
  | .sc (.bool b) =>
   cond b (let s':=s.set d (.sc (.bool true));cond w (opK E id o s' K) (K (s'.dst o.dst .gone)))
    (let s':=s.set d (.sc (.bool false));cond w (K (s'.dst o.dst .gone)) (opK E id o s' K))
  | .gone=>K (s.dst o.dst .gone)
  | _=>none
 | some (none,_)=>none) none
def orgOf:List TV→Option Place
 | .sc (.lst _ _ og _) :: _=>og
 | _=>none
def noLend:List PSpec→Bool
 | []=>true
 | .mut _ _ _ :: _=>false
 | .vm _ _ :: _=>false
 | .val _ _ :: l | .ref _ :: l | .fn _ _ :: l | .frz _ :: l=>noLend l
def firstO:List PSpec→Bool
 | .val (.sl _) (.O _) :: _=>true
 | _=>false
def marshTake(key:Nat)(s:St)(t:Ty):(ps:List PSpec)→List TV→Option ((PSpec.ins ps).D×St×List (Nat×Nat))
 | .val (.sl u) m :: ps,.sc (.lst _ dp og _) :: vs=>cond (Md.beq m (.O u.own)&&(Ty.beq t u&&noLend ps)) ((lendOrg u u.own s dp og).bind fun r=>(marsh key r.2 ps vs []).bind fun q=>some ((r.1,q.1),q.2)) none
 | _,_=>none
def resTake(t:Ty){ts:Tys} :(rs:List RSpec)→(RSpec.outs rs ts).D→Option (List t.D)
 | [.val u m],x=>cond (Md.beq m (.O t.own)) (castD u (.sl t) x.1) none
 | _,_=>none
def isTake(E:Env)(s:St)(o:Oper):Bool :=
 match o.op with
 | .call c=>match c.callee with
  | .value fo=>match opd s fo with
   | .fn g [] []=>match orgOf (c.args.toList.map (opd s)),E.fns g (fnKey (c.args.toList.map (opd s))) with
    | some _,some e=>firstO e.ps
    | _,_=>false
   | _=>false
  | _=>false
 | _=>false
def takeOk(E:Env)(o o1 o2 o3:Oper)(k1 e1 e2 e0 d0 d1 d2:Nat):Bool :=
 Nat.beq d0 e0&&(Nat.beq d1 e1&&(Nat.beq d2 e2&&(!(Nat.beq k1 d0)&&(!(Nat.beq d0 d1)&&(!(Nat.beq d0 d2)&&(o.guard.isNone&&(o1.guard.isNone&&(o2.guard.isNone&&(o3.guard.isNone&&(o3.dst.isNone&&(Nat.blt d0 E.n&&(Nat.blt d1 E.n&&Nat.blt d2 E.n))))))))))))
def idxK(s:St)(v:TV)(K:Place→Option ρ):Option ρ :=
 match v with
 | .ptr p=>K p
 | .opt i n=>(ix (match s.o i with | .row _ _ _ xs=>xs.length | _=>0) n).bind fun k=>K ⟨i,some k,0⟩
 | _=>none
def takeK(E:Env)(s:St)(o:Oper)(l:List Oper)(K:St→Option ρ):Option ρ :=
 match l with
 | o1 :: o2 :: o3 :: _ =>
  match o.op,o1.op,o2.op,o3.op with
  | .call c,.nilCheck (.tmp k1),.fieldAddr ty2 (.tmp e1) fld,.store ty3 (.tmp e2) (.tmp e0) =>
   match c.callee,o.dst,o1.dst,o2.dst with
   | .value fo,some d0,some d1,some d2=>cond (takeOk E o o1 o2 o3 k1 e1 e2 e0 d0 d1 d2)
    (match opd s fo,E.ty ty2,E.ty ty3 with
    | .fn g [] [],some (.st ts),some (.sl t) =>
     match E.fns g (fnKey (c.args.toList.map (opd s))),ts.off fld,orgOf (c.args.toList.map (opd s)) with
     | some e,some (k,u),some p=>idxK s (s.t k1) fun p0=>cond (!(Nat.beq u.size 0)&&(Nat.beq p0.id p.id&&Nat.beq (p0.off+k) p.off))
      (match p0.ei,p.ei with
      | some i,some j=>cond (Nat.beq i j) (match marshTake (fnKey (c.args.toList.map (opd s))) s t e.ps (c.args.toList.map (opd s)++fnCaps (c.args.toList.map (opd s))) with
       | none=>none
       | some (x,s1,bs)=>cond (alive s1 bs&&noUnd (c.args.toList.map (opd s)))
        ((e.f x).bind fun r=>(resTake t e.rs r).bind fun y=>(backOrg t y (((s1.set d0 .und).set d1 .und).set d2 .und) (some p)).bind K) none) none
      | _,_=>none) none
     | _,_,_=>none
    | _,_,_=>none) none
   | _,_,_,_=>none
  | _,_,_,_=>none
 | _=>none
noncomputable def opsQ(E:Env)(rid:Nat)(all:List Oper):List Oper→Nat→Nat→St→(St→Option ρ)→Option ρ
 | [],_,_,s,K=>K s
 | _ :: l,i,q+1,s,K=>opsQ E rid all l (i+1) q s K
 | o :: l,i,0,s,K=>cond (isTake E s o) (takeK E s o l fun s'=>opsQ E rid all l (i+1) 3 s' K) (oneK E ((rid*256+i)*32) all o s fun s'=>opsQ E rid all l (i+1) 0 s' K)
noncomputable def opsK(E:Env)(rid:Nat)(all:List Oper)(l:List Oper)(i:Nat)(s:St)(K:St→Option ρ):Option ρ := opsQ E rid all l i 0 s K
def rdOp(E:Env)(o:Oper):Bool :=
 match o.op with
 | .move _ | .assign _ | .pick _ _ _ | .load _ _ | .nilCheck _ | .binOp _ _ _ _ _ | .unOp _ _ _ | .slice _ _ _ _ _ | .fieldAddr _ _ _ | .field _ _ _ | .indexAddr _ _ _ | .index _ _ _ | .extract _ _ | .build _ _=>true
 | .makeFunc (.func _) _ _=>true
 | .convert a b _=>match E.ty a,E.ty b with
  | some (.int _),some (.int _)=>true
  | _,_=>false
 | .call c=>match c.callee with
  | .builtin .len | .builtin .min | .builtin .max=>true
  | _=>false
 | _=>false
def waits(ops:Array Oper)(j i:Nat):Bool :=
 match ops[j]? with
 | some o=>o.after.any fun e=>Region.binds .any e&&Nat.beq e.on i
 | none=>false
def rdAt(E:Env)(ops:Array Oper)(i:Nat):Bool :=
 match ops[i]? with
 | some o=>rdOp E o
 | none=>false
def depsOf(s:St)(o:Oper):List (Nat×Nat) :=
 match o.op with
 | .load _ x=>match opd s x with
  | .ptr p=>[(p.id,verOf s p.id)]
  | .rp dp _ _=>dp
  | _=>[]
 | _=>[]
def allAlive(s:St):List (Nat×List (Nat×Nat))→Bool
 | []=>true
 | p :: l=>cond (alive s p.2) (allAlive s l) false
noncomputable def dup(a:Option ρ):Option ρ := both a a
noncomputable def bothL:List (Option ρ)→Option ρ
 | []=>none
 | [x]=>x
 | x :: l=>both x (bothL l)
noncomputable def drawRun(E:Env)(rid:Nat)(ops:Array Oper):Nat→Array Bool→List (Nat×List (Nat×Nat))→St→(St→Option ρ)→Option ρ
 | 0,listed,_,s,K=>match Region.ready .any ops listed with
  | []=>K s
  | _=>none
 | n+1,listed,pend,s,K =>
  match Region.ready .any ops listed with
  | []=>K s
  | rs=>match rs.find? fun i=>rdAt E ops i&&Region.free .any ops listed i with
   | some i=>(match ops[i]? with
    | none=>none
    | some o=>oneK E ((rid*256+i)*32) ops.toList o s fun s'=>drawRun E rid ops n (listed.setIfInBounds i true) ((i,depsOf s o) :: pend) s' K)
   | none=>bothL (rs.map fun i=>match ops[i]? with
    | none=>none
    | some o=>cond (rdOp E o) none (oneK E ((rid*256+i)*32) ops.toList o s fun s' =>
      cond (allAlive s' (pend.filter fun p => !waits ops i p.1)) (drawRun E rid ops n (listed.setIfInBounds i true) (pend.filter fun p => !waits ops i p.1) s' K) none))
noncomputable def drawK(E:Env)(rid:Nat)(ops:Array Oper)(s:St)(K:St→Option ρ):Option ρ :=
 cond (Region.noSelect ops) (drawRun E rid ops ops.size (Array.replicate ops.size false) [] s K) none
structure Hand(ρ : Type) where
 cut:Nat→List Item→St→Option ρ
 fin:St→Option ρ
noncomputable def seg(E:Env)(cuts:Nat→Bool)(H:Hand ρ):Nat→Bool→List Item→St→Option ρ
 | 0,_,_,_=>none
 | n+1,first,todo,s =>
  match todo with
  | []=>H.fin s
  | .code .ret :: _=>H.fin s
  | .code .skip :: k | .inBlock _ :: k=>seg E cuts H n first k s
  | .code (.seq a b) :: k=>seg E cuts H n first (.code a :: .code b :: k) s
  | .code (.cond c x y) :: k =>
   match opd s c with
   | .sc (.bool b)=>cond b (seg E cuts H n first (.code x :: k) s) (seg E cuts H n first (.code y :: k) s)
   | _=>none
  | .code (.block id c) :: k=>seg E cuts H n first (.code c :: .inBlock id :: k) s
  | .code (.loop c) :: k | .inLoop c :: k=>seg E cuts H n first (.code c :: .inLoop c :: k) s
  | .code (.exit id) :: k =>
   match exitTo id k with
   | some k'=>seg E cuts H n first k' s
   | none=>none
  | .code (.region rid ops dr) :: k =>
   cond (cuts rid && !first) (H.cut rid todo s)
    (cond dr (drawK E rid ops s fun s'=>seg E cuts H n false k s') (opsK E rid ops.toList ops.toList 0 s fun s'=>seg E cuts H n false k s'))
  | _=>none
end
end Go.LM
namespace Go.LM
abbrev Reg:=Nat→Nat→Prop
def Reg.none:Reg:=fun _ _=>False
def Reg.or(F G:Reg):Reg:=fun b o=>F b o∨G b o
def Reg.apart(F G:Reg):Prop:=∀b o,F b o→G b o→False
def Reg.sub(F G:Reg):Prop:=∀b o,F b o→G b o
def Reg.run(b lo n:Nat):Reg:=fun b' o=>b'=b∧lo≤o∧o<lo+n
abbrev at_(b o:Nat):Addr:=⟨b,o,none⟩
theorem cell_eq(w:World)(b o:Nat):w.cell? (at_ b o)=match w.heap[b]? with | some (.cells c _ _)=>c[o]? | _=>none:=by
 simp only [World.cell?,at_]
 cases w.heap[b]? with
 | none=>rfl
 | some x=>cases x <;> rfl
theorem cell_of_heap{w:World}{b:Nat}{c:Array Value}{e:TypeId}{f:Nat×Nat}(h:w.heap[b]?=some (.cells c e f))(o:Nat) :
  w.cell? (at_ b o)=c[o]?:=by rw [cell_eq,h]
theorem heap_of_cell{w:World}{b o:Nat}{v:Value}(h:w.cell? (at_ b o)=some v) :
  ∃c e f,w.heap[b]?=some (.cells c e f)∧c[o]?=some v:=by
 rw [cell_eq] at h
 split at h
 ·rename_i c e f hb;exact⟨c,e,f,hb,h⟩
 ·simp at h
theorem lt_of_cell{w:World}{b o:Nat}{v:Value}(h:w.cell? (at_ b o)=some v):b<w.heap.size:=by
 obtain ⟨c,e,f,hb,_⟩:=heap_of_cell h
 rcases Nat.lt_or_ge b w.heap.size with h | h
 ·exact h
 ·simp [Array.getElem?_eq_none h] at hb
structure Ext(w w':World)(F:Reg):Prop where
 os:w'.os=w.os
 tape:w'.tape=w.tape
 output:w'.output=w.output
 size:w.heap.size≤w'.heap.size
 block:∀b,b<w.heap.size→w'.heap[b]?=w.heap[b]? ∨
  ∃c c' e f,w.heap[b]?=some (.cells c e f)∧w'.heap[b]?=some (.cells c' e f)∧c'.size=c.size∧∀o,¬F b o→c'[o]?=c[o]?
theorem Ext.refl(w:World)(F:Reg):Ext w w F:=⟨rfl,rfl,rfl,Nat.le_refl _,fun _ _=>.inl rfl⟩
theorem Ext.mono{w w':World}{F G:Reg}(h:Ext w w' F)(hs:∀b o,b<w.heap.size→F b o→G b o):Ext w w' G:=by
 refine⟨h.os,h.tape,h.output,h.size,fun b hb=>?_⟩
 rcases h.block b hb with h | ⟨c,c',e,f,h1,h2,h3,h4⟩
 ·exact .inl h
 ·exact .inr ⟨c,c',e,f,h1,h2,h3,fun o ho=>h4 o fun hf=>ho (hs b o hb hf)⟩
theorem Ext.trans{a b c:World}{F:Reg}(h:Ext a b F)(k:Ext b c F):Ext a c F:=by
 refine⟨k.os.trans h.os,k.tape.trans h.tape,k.output.trans h.output,Nat.le_trans h.size k.size,fun i hi=>?_⟩
 rcases h.block i hi with h1 | ⟨x,x',e,f,h1,h2,h3,h4⟩
 ·rcases k.block i (Nat.lt_of_lt_of_le hi h.size) with k1 | ⟨y,y',e',f',k1,k2,k3,k4⟩
  ·exact .inl (k1.trans h1)
  ·exact .inr ⟨y,y',e',f',h1 ▸ k1,k2,k3,k4⟩
 ·rcases k.block i (Nat.lt_of_lt_of_le hi h.size) with k1 | ⟨y,y',e',f',k1,k2,k3,k4⟩
  ·exact .inr ⟨x,x',e,f,h1,k1.trans h2,h3,h4⟩
  ·rw [h2] at k1
   simp only [Option.some.injEq,Obj.cells.injEq] at k1
   obtain ⟨rfl,rfl,rfl⟩:=k1
   exact .inr ⟨x,y',e,f,h1,k2,k3.trans h3,fun o ho=>(k4 o ho).trans (h4 o ho)⟩
theorem Ext.trans'{a b c:World}{F S:Reg}(h:Ext a b F)(k:Ext b c S)(hS:∀i o,S i o→F i o∨a.heap.size≤i):Ext a c F:=by
 refine⟨k.os.trans h.os,k.tape.trans h.tape,k.output.trans h.output,Nat.le_trans h.size k.size,fun i hi=>?_⟩
 have hk:c.heap[i]?=b.heap[i]?∨∃x x' e f,b.heap[i]?=some (.cells x e f)∧c.heap[i]?=some (.cells x' e f)∧x'.size=x.size∧∀o,¬F i o→x'[o]?=x[o]?:=by
  rcases k.block i (Nat.lt_of_lt_of_le hi h.size) with k1 | ⟨y,y',e',f',k1,k2,k3,k4⟩
  ·exact .inl k1
  ·refine .inr ⟨y,y',e',f',k1,k2,k3,fun o ho=>k4 o fun hs=>?_⟩
   rcases hS i o hs with h | h
   ·exact ho h
   ·omega
 rcases h.block i hi with h1 | ⟨x,x',e,f,h1,h2,h3,h4⟩
 ·rcases hk with k1 | ⟨y,y',e',f',k1,k2,k3,k4⟩
  ·exact .inl (k1.trans h1)
  ·exact .inr ⟨y,y',e',f',h1 ▸ k1,k2,k3,k4⟩
 ·rcases hk with k1 | ⟨y,y',e',f',k1,k2,k3,k4⟩
  ·exact .inr ⟨x,x',e,f,h1,k1.trans h2,h3,h4⟩
  ·rw [h2] at k1
   simp only [Option.some.injEq,Obj.cells.injEq] at k1
   obtain ⟨rfl,rfl,rfl⟩:=k1
   exact .inr ⟨x,y',e,f,h1,k2,k3.trans h3,fun o ho=>(k4 o ho).trans (h4 o ho)⟩
theorem Ext.cell{w w':World}{F:Reg}(h:Ext w w' F){b o:Nat}(hb:b<w.heap.size)(hf:¬F b o):w'.cell? (at_ b o)=w.cell? (at_ b o):=by
 rw [cell_eq,cell_eq]
 rcases h.block b hb with h | ⟨c,c',e,f,h1,h2,_,h4⟩
 ·rw [h]
 ·rw [h1,h2];exact h4 o hf
theorem frozen_eq(w:World)(b o:Nat):w.frozen? (at_ b o)=match w.heap[b]? with | some (.cells _ _ (lo,hi))=>decide (lo≤o)&&decide (o<hi) | _=>false:=rfl
theorem Ext.frozen{w w':World}{F:Reg}(h:Ext w w' F){b:Nat}(hb:b<w.heap.size)(o:Nat):w'.frozen? (at_ b o)=w.frozen? (at_ b o):=by
 rw [frozen_eq,frozen_eq]
 rcases h.block b hb with h | ⟨c,c',e,f,h1,h2,_,_⟩
 ·rw [h]
 ·rw [h1,h2]
def Writable(w:World)(b o:Nat):Prop:=(∃v,w.cell? (at_ b o)=some v)∧w.frozen? (at_ b o)=false
theorem Ext.some_cell{w w':World}{F:Reg}(h:Ext w w' F){b o:Nat}(hc:∃v,w.cell? (at_ b o)=some v):∃v,w'.cell? (at_ b o)=some v:=by
 obtain ⟨v,hv⟩:=hc
 have hb:=lt_of_cell hv
 obtain ⟨c,e,f,hh,hcv⟩:=heap_of_cell hv
 rcases h.block b hb with h | ⟨x,x',e',f',h1,h2,h3,_⟩
 ·exact⟨v,by rw [cell_eq,h,hh];exact hcv⟩
 ·rw [hh] at h1
  simp only [Option.some.injEq,Obj.cells.injEq] at h1
  obtain ⟨rfl,rfl,rfl⟩:=h1
  have ho:o<c.size:=by
   rcases Nat.lt_or_ge o c.size with h | h
   ·exact h
   ·rw [Array.getElem?_eq_none h] at hcv;simp at hcv
  exact⟨x'[o]'(by omega),by rw [cell_eq,h2];simp [Array.getElem?_eq_getElem,h3,ho]⟩
theorem Ext.writable{w w':World}{F:Reg}(h:Ext w w' F){b o:Nat}(hc:Writable w b o):Writable w' b o :=
 ⟨h.some_cell hc.1,by rw [h.frozen (lt_of_cell hc.1.choose_spec) o];exact hc.2⟩
def WrR(w:World)(size b o:Nat):Prop:=Writable w b o∧(size=1∨∀k,w.frozen? (at_ b k)=false)
theorem Ext.wrR{w w':World}{F:Reg}(h:Ext w w' F){size b o:Nat}(hc:WrR w size b o):WrR w' size b o :=
 ⟨h.writable hc.1,hc.2.imp id fun hk k=>by rw [h.frozen (lt_of_cell hc.1.1.choose_spec) k];exact hk k⟩
theorem Ext.drew(w:World)(n:Nat)(F:Reg):Ext w { w with drawn:=n } F:=⟨rfl,rfl,rfl,Nat.le_refl _,fun _ _=>.inl rfl⟩
theorem Ext.push(w:World)(o:Obj)(F:Reg):Ext w { w with heap:=w.heap.push o } F :=
 ⟨rfl,rfl,rfl,by simp,fun b hb=>.inl (by simp only;rw [Array.getElem?_push,if_neg (by omega)])⟩
theorem heap_push_new(w:World)(o:Obj):({ w with heap:=w.heap.push o } : World).heap[w.heap.size]?=some o:=by simp
theorem cell_push_new(w:World)(c:Array Value)(e:TypeId)(f:Nat×Nat)(o:Nat) :
  ({ w with heap:=w.heap.push (.cells c e f) } : World).cell? (at_ w.heap.size o)=c[o]?:=cell_of_heap (heap_push_new w _) o
theorem setCell_heap(w:World)(b o:Nat)(v:Value)(b':Nat) :
  (w.setCell (at_ b o) v).heap[b']?=if b=b' then(w.heap[b']?).map (fun | .cells c e f=>.cells (c.setIfInBounds o v) e f | x=>x) else w.heap[b']?:=by
 simp only [World.setCell,Array.getElem?_modify,at_]
 split
 ·rename_i h;subst h
  cases w.heap[b]? with
  | none=>rfl
  | some x=>cases x <;> rfl
 ·rfl
theorem setCell_cell(w:World)(b o:Nat)(v:Value)(b' o':Nat)(h:∃u,w.cell? (at_ b o)=some u) :
  (w.setCell (at_ b o) v).cell? (at_ b' o')=if b=b'∧o=o' then some v else w.cell? (at_ b' o'):=by
 obtain ⟨u,hu⟩:=h
 obtain ⟨c,e,f,hb,hc⟩:=heap_of_cell hu
 have ho:o<c.size:=by
  rcases Nat.lt_or_ge o c.size with h | h
  ·exact h
  ·rw [Array.getElem?_eq_none h] at hc;simp at hc
 rw [cell_eq,setCell_heap,cell_eq]
 by_cases hbb:b=b'
 ·subst hbb
  rw [if_pos rfl,hb]
  simp only [Option.map_some,true_and]
  by_cases hoo:o=o'
  ·subst hoo;simp [Array.getElem?_setIfInBounds,ho]
  ·simp [Array.getElem?_setIfInBounds,hoo]
 ·rw [if_neg hbb];simp [hbb]
theorem setCell_frozen(w:World)(b o:Nat)(v:Value)(b' o':Nat):(w.setCell (at_ b o) v).frozen? (at_ b' o')=w.frozen? (at_ b' o'):=by
 rw [frozen_eq,setCell_heap,frozen_eq]
 by_cases hbb:b=b'
 ·subst hbb
  rw [if_pos rfl]
  cases w.heap[b]? with
  | none=>rfl
  | some x=>cases x <;> rfl
 ·rw [if_neg hbb]
theorem Ext.setCell{w:World}{b o:Nat}{F:Reg}(v:Value)(hF:F b o):Ext w (w.setCell (at_ b o) v) F:=by
 refine⟨rfl,rfl,rfl,by simp [World.setCell],fun b' hb=>?_⟩
 rw [setCell_heap]
 by_cases hbb:b=b'
 ·subst hbb
  rw [if_pos rfl]
  cases hh:w.heap[b]? with
  | none=>exact .inl rfl
  | some x =>
   cases x with
   | cells c e f =>
    refine .inr ⟨c,_,e,f,rfl,rfl,by simp,fun o' ho=>?_⟩
    have:o≠o':=fun e=>ho (e ▸ hF)
    simp [Array.getElem?_setIfInBounds,this]
   | _=>exact .inl rfl
 ·rw [if_neg hbb];exact .inl rfl
def setCells(w:World)(b:Nat):Nat→List Value→World
 | _,[]=>w
 | o,v :: vs=>setCells (w.setCell (at_ b o) v) b (o+1) vs
theorem setCells_ext{F:Reg}(b:Nat)(vs:List Value):∀(w:World) (o:Nat),(∀i,i<vs.length→F b (o+i))→Ext w (setCells w b o vs) F:=by
 induction vs with
 | nil=>intro w o _;exact Ext.refl _ _
 | cons v vs ih =>
  intro w o h
  have h1:=Ext.setCell (w:=w) v (h 0 (by simp))
  have h2:=ih (w.setCell (at_ b o) v) (o+1) (fun i hi=>by have:=h (i+1) (by simp;omega);rwa [show o+1+i=o +(i+1) by omega])
  exact h1.trans (h2.mono fun _ _ _ h=>h)
theorem setCells_frozen(b:Nat)(vs:List Value):∀(w:World) (o b' o':Nat),(setCells w b o vs).frozen? (at_ b' o')=w.frozen? (at_ b' o'):=by
 induction vs with
 | nil=>intros;rfl
 | cons v vs ih=>intro w o b' o';rw [setCells,ih,setCell_frozen]
theorem setCells_cell(b:Nat)(vs:List Value):∀(w:World) (o:Nat),(∀i,i<vs.length→∃u,w.cell? (at_ b (o+i))=some u)→∀b' o',
  (setCells w b o vs).cell? (at_ b' o')=if b=b'∧o≤o'∧o'<o+vs.length then vs[o'-o]? else w.cell? (at_ b' o'):=by
 induction vs with
 | nil =>
  intro w o _ b' o'
  rw [setCells,if_neg]
  simp only [List.length_nil];omega
 | cons v vs ih =>
  intro w o h b' o'
  have h0:∃u,w.cell? (at_ b o)=some u:=by simpa using h 0 (by simp)
  have hx:=setCell_cell w b o v
  rw [setCells,ih]
  ·by_cases hb:b=b'
   ·subst hb
    by_cases h1:o+1≤o'∧o'<o+1+vs.length
    ·rw [if_pos ⟨rfl,h1⟩,if_pos ⟨rfl,by omega,by simp;omega⟩]
     obtain ⟨k,hk⟩:∃k,o'-o=k+1:=⟨o'-o-1,by omega⟩
     rw [hk,List.getElem?_cons_succ,show o'-(o+1)=k by omega]
    ·rw [if_neg (by simpa using h1),hx b o' h0]
     by_cases h2:o=o'
     ·subst h2;rw [if_pos ⟨rfl,rfl⟩,if_pos ⟨rfl,Nat.le_refl _,by simp⟩];simp
     ·rw [if_neg (by simp [h2]),if_neg]
      simp only [List.length_cons];omega
   ·rw [if_neg (by simp [hb]),if_neg (by simp [hb]),hx b' o' h0,if_neg (by simp [hb])]
  ·intro i hi
   rw [hx b _ h0]
   split
   ·exact⟨v,rfl⟩
   ·have:=h (i+1) (by simp;omega)
    rwa [show o+1+i=o +(i+1) by omega]
def CellsAt(w:World)(b o:Nat)(vs:List Value):Prop:=∀i v,vs[i]?=some v→w.cell? (at_ b (o+i))=some v
theorem CellsAt.nil(w:World)(b o:Nat):CellsAt w b o []:=by intro i v h;simp at h
theorem CellsAt.cons{w:World}{b o:Nat}{v:Value}{vs:List Value}(h:w.cell? (at_ b o)=some v)(hs:CellsAt w b (o+1) vs):CellsAt w b o (v :: vs):=by
 intro i u hu
 cases i with
 | zero=>simp at hu;subst hu;simpa using h
 | succ i=>rw [List.getElem?_cons_succ] at hu;have:=hs i u hu;rwa [show o+1+i=o +(i+1) by omega] at this
theorem CellsAt.head{w:World}{b o:Nat}{v:Value}{vs:List Value}(h:CellsAt w b o (v :: vs)):w.cell? (at_ b o)=some v:=by simpa using h 0 v rfl
theorem CellsAt.tail{w:World}{b o:Nat}{v:Value}{vs:List Value}(h:CellsAt w b o (v :: vs)):CellsAt w b (o+1) vs:=by
 intro i u hu;have:=h (i+1) u (by simpa using hu);rwa [show o +(i+1)=o+1+i by omega] at this
theorem CellsAt.append{w:World}{b o:Nat}{us vs:List Value}(h:CellsAt w b o us)(k:CellsAt w b (o+us.length) vs):CellsAt w b o (us++vs):=by
 intro i v hv
 rcases Nat.lt_or_ge i us.length with hi | hi
 ·rw [List.getElem?_append_left hi] at hv;exact h i v hv
 ·rw [List.getElem?_append_right hi] at hv
  have:=k _ v hv
  rwa [show o+us.length +(i-us.length)=o+i by omega] at this
theorem CellsAt.left{w:World}{b o:Nat}{us vs:List Value}(h:CellsAt w b o (us++vs)):CellsAt w b o us:=by
 intro i v hv
 have hi:i<us.length:=by
  rcases Nat.lt_or_ge i us.length with h | h
  ·exact h
  ·rw [List.getElem?_eq_none h] at hv;simp at hv
 exact h i v (by rw [List.getElem?_append_left hi];exact hv)
theorem CellsAt.right{w:World}{b o:Nat}{us vs:List Value}(h:CellsAt w b o (us++vs)):CellsAt w b (o+us.length) vs:=by
 intro i v hv
 have:=h (us.length+i) v (by rw [List.getElem?_append_right (by omega),Nat.add_sub_cancel_left];exact hv)
 rwa [show o +(us.length+i)=o+us.length+i by omega] at this
theorem CellsAt.part{w:World}{b o:Nat}{vs:List Value}(h:CellsAt w b o vs)(k n:Nat):CellsAt w b (o+k) ((vs.drop k).take n):=by
 intro i v hv
 rw [List.getElem?_take] at hv
 split at hv
 ·rw [List.getElem?_drop] at hv
  have:=h _ v hv
  rwa [show o +(k+i)=o+k+i by omega] at this
 ·simp at hv
theorem CellsAt.of_eq{w w':World}{b o:Nat}{vs:List Value}(h:CellsAt w b o vs)(he:∀i,i<vs.length→w'.cell? (at_ b (o+i))=w.cell? (at_ b (o+i))):CellsAt w' b o vs:=by
 intro i v hv
 have hi:i<vs.length:=by
  rcases Nat.lt_or_ge i vs.length with h | h
  ·exact h
  ·rw [List.getElem?_eq_none h] at hv;simp at hv
 rw [he i hi];exact h i v hv
theorem add_at(b o n:Nat):(at_ b o).add n=at_ b (o+n):=by
 unfold Addr.add;split
 ·rename_i h;subst h;rfl
 ·rfl
section
variable{P:Program}
theorem run_pure{α : Type}(x : α)(w:World):(pure x:Sem α).run P w=.ok x w:=rfl
theorem run_bind{α β : Type}(s:Sem α)(f : α → Sem β)(w:World):(s >>= f).run P w=match s.run P w with | .ok x w'=>(f x).run P w' | .halt h w'=>.halt h w':=by
 show(Sem.bind s f).run P w=_
 induction s generalizing w with
 | pure a=>rfl
 | load m a k ih =>
  simp only [Sem.bind,Sem.run]
  cases w.cell? a with
  | some v=>exact ih v w
  | none =>
   cases w.farLoad P a (m==.atomic) with
   | error h=>rfl
   | ok r=>exact ih r.1 w
 | store m a v k ih =>
  cases v with
  | agg _=>rfl
  | tuple _=>rfl
  | _ =>
   simp only [Sem.bind,Sem.run]
   cases w.cell? a with
   | some u =>
    dsimp only
    split
    ·rfl
    ·exact ih _
   | none =>
    dsimp only
    split
    ·exact ih _
    ·rfl
 | new o k ih=>exact ih _ _
 | shape r k ih=>exact ih _ _
 | freeze a n k ih=>exact ih _
 | frozen a k ih=>exact ih _ _
 | getObj r k ih =>
  simp only [Sem.bind,Sem.run]
  cases w.heap[r]? with
  | none=>rfl
  | some o=>cases o <;> first | rfl | exact ih _ _
 | setObj r o k ih =>
  simp only [Sem.bind,Sem.run]
  cases w.heap[r]? with
  | none=>rfl
  | some o=>cases o <;> first | rfl | exact ih _
 | choose q k ih =>
  simp only [Sem.bind,Sem.run]
  split <;> exact ih _ _
 | sys c k ih=>exact ih _ _
 | program k ih=>exact ih _ _
 | mark m k ih=>exact ih _
 | halt h=>rfl
def oneC:Value→Bool
 | .agg _ | .tuple _=>false
 | _=>true
theorem run_load{w:World}{b o:Nat}{v:Value}(h:w.cell? (at_ b o)=some v):(load (at_ b o)).run P w=.ok v w:=by
 simp [load,Sem.run,h]
theorem run_loadCellsFrom{w:World}(b o:Nat)(vs:List Value):∀(k:Nat) (acc:Array Value),CellsAt w b (o+k) vs →
  (loadCellsFrom (at_ b o) k vs.length acc).run P w=.ok (acc++vs.toArray) w:=by
 induction vs with
 | nil=>intro k acc _;simp [loadCellsFrom,run_pure]
 | cons v vs ih =>
  intro k acc h
  simp only [List.length_cons,loadCellsFrom]
  rw [run_bind,add_at,run_load h.head]
  simp only
  rw [ih (k+1) (acc.push v) (by rw [← Nat.add_assoc];exact h.tail)]
  congr 1
  apply Array.ext'
  simp
theorem run_loadCells{w:World}{b o:Nat}{vs:List Value}(h:CellsAt w b o vs):(loadCells (at_ b o) vs.length).run P w=.ok vs.toArray w:=by
 unfold loadCells
 rw [run_loadCellsFrom b o vs 0 #[] (by simpa using h)]
 simp
theorem run_store{w:World}{b o:Nat}{v:Value}(hv:oneC v=true)(h:Writable w b o):(store (at_ b o) v).run P w=.ok () (w.setCell (at_ b o) v):=by
 obtain ⟨⟨u,hu⟩,hf⟩:=h
 cases v <;> simp_all [store,Sem.run,oneC]
theorem run_storeCells{b o:Nat}(vs:List Value):∀(w:World) (k:Nat),(∀v∈vs,oneC v=true)→(∀i,i<vs.length→Writable w b (o+k+i)) →
  (storeCells (at_ b o) vs k).run P w=.ok () (setCells w b (o+k) vs):=by
 induction vs with
 | nil=>intros;rfl
 | cons v vs ih =>
  intro w k h1 h2
  unfold storeCells
  have h0:Writable w b (o+k):=h2 0 (by simp)
  rw [run_bind,add_at,run_store (h1 v (by simp)) h0]
  simp only
  rw [ih _ (k+1) (fun v hv=>h1 v (by simp [hv]))]
  ·rfl
  ·intro i hi
   have:=h2 (i+1) (by simp;omega)
   refine Ext.writable (Ext.setCell (F:=fun _ _=>True) v trivial) ?_
   rwa [show o +(k+1)+i=o+k +(i+1) by omega]
end
end Go.LM
namespace Go.LM
def Row{α : Type}(w:World)(R : α → List Value→Reg→Prop)(size:Nat):List α → Nat→Nat→Reg→Prop
 | [],_,_,_=>True
 | x :: xs,b,o,F=>∃vs G H,R x vs G∧vs.length=size∧CellsAt w b o vs∧Row w R size xs b (o+size) H∧Reg.apart G H∧Reg.sub G F∧Reg.sub H F
structure OwnRow{α : Type}(w:World)(R : α → List Value→Reg→Prop)(size:Nat)(x:List α)(a:Addr)(c:Nat)(F:Reg):Prop where
 spot:a.spot=none
 cap:x.length≤c
 wr:∀j,j<c*size→WrR w size a.block (a.off+j)
 inF:∀j,j<c*size→F a.block (a.off+j)
 row:∃G,Row w R size x a.block a.off G∧(∀j,j<c*size→¬G a.block (a.off+j))∧Reg.sub G F
mutual
def Ty.Rep(w:World)(Z:Reg):(t:Ty)→Md→t.D→List Value→Reg→Prop
 | .int k,_,x,vs,_=>vs=[.int k x]
 | .bool,_,x,vs,_=>vs=[.bool x]
 | .str,_,x,vs,_=>∃s:ByteArray,vs=[.string s]∧s.data.toList=x
 | .raw,_,x,vs,_=>vs=[x]∧∃A n c,x=.slice A n c
 | .sl t,.O e,x,vs,F=>∃A c,vs=[.slice A x.length c]∧((x=[]∧c=0)∨∃a,A=some a∧OwnRow w (t.Rep w Z e) t.size x a c F)
 | .sl t,_,x,vs,_=>∃A c,vs=[.slice A x.length c]∧(x=[]∨∃a,A=some a∧a.spot=none∧Row w (fun y us _=>t.Rep w Z .R y us Reg.none) t.size x a.block a.off Reg.none∧(∀j,j<x.length*t.size→Z a.block (a.off+j))∧x.length≤c)
 | .st ts,m,x,vs,F=>ts.Rep w Z m.parts x vs F
def Tys.Rep(w:World)(Z:Reg):(ts:Tys)→Mds→ts.D→List Value→Reg→Prop
 | .nil,_,_,vs,_=>vs=[]
 | .cons t ts,m,x,vs,F=>∃us vs' G H,vs=us++vs'∧t.Rep w Z m.hd x.1 us G∧ts.Rep w Z m.tl x.2 vs' H∧Reg.apart G H∧Reg.sub G F∧Reg.sub H F
end
def Same(w w':World)(S:Reg):Prop:=∀b o,S b o→w'.cell? (at_ b o)=w.cell? (at_ b o)∧∀k,w'.frozen? (at_ b k)=w.frozen? (at_ b k)
theorem Same.mono{w w':World}{S T:Reg}(h:Same w w' S)(hs:Reg.sub T S):Same w w' T:=fun b o ho=>h b o (hs b o ho)
theorem Same.writable{w w':World}{S:Reg}(h:Same w w' S){b o:Nat}(hs:S b o)(hw:Writable w b o):Writable w' b o:=by
 obtain ⟨⟨v,hv⟩,hf⟩:=hw
 exact⟨⟨v,by rw [(h b o hs).1];exact hv⟩,by rw [(h b o hs).2 o];exact hf⟩
theorem Same.wrR{w w':World}{S:Reg}(h:Same w w' S){size b o:Nat}(hs:S b o)(hw:WrR w size b o):WrR w' size b o :=
 ⟨h.writable hs hw.1,hw.2.imp id fun hk k=>by rw [(h b o hs).2 k];exact hk k⟩
theorem Same.cellsAt{w w':World}{S:Reg}(h:Same w w' S){b o:Nat}{vs:List Value}(hs:∀i,i<vs.length→S b (o+i))(hc:CellsAt w b o vs):CellsAt w' b o vs :=
 hc.of_eq fun i hi=>(h b _ (hs i hi)).1
theorem Same.refl(w:World)(S:Reg):Same w w S:=fun _ _ _=>⟨rfl,fun _=>rfl⟩
theorem Same.trans{a b c:World}{S:Reg}(h:Same a b S)(k:Same b c S):Same a c S:=fun i o hs=>⟨(k i o hs).1.trans (h i o hs).1,fun j=>((k i o hs).2 j).trans ((h i o hs).2 j)⟩
theorem Row.mono{α : Type}{w:World}{R : α → List Value→Reg→Prop}{size:Nat}{F F':Reg}(hF:Reg.sub F F'):∀ {x:List α} {b o:Nat},Row w R size x b o F→Row w R size x b o F'
 | [],_,_,_=>trivial
 | _ :: _,_,_,⟨vs,G,H,h1,h2,h3,h4,h5,h6,h7⟩=>⟨vs,G,H,h1,h2,h3,h4,h5,fun b o h=>hF b o (h6 b o h),fun b o h=>hF b o (h7 b o h)⟩
theorem Row.imp{α : Type}{w w':World}{R R' : α → List Value→Reg→Prop}{size:Nat} : ∀ {x:List α} {b o:Nat} {F:Reg},Row w R size x b o F →
  (∀y vs G,Reg.sub G F→R y vs G→R' y vs G)→(∀j,j<x.length*size→w'.cell? (at_ b (o+j))=w.cell? (at_ b (o+j)))→Row w' R' size x b o F
 | [],_,_,_,_,_,_=>trivial
 | y :: x,b,o,F,⟨vs,G,H,h1,h2,h3,h4,h5,h6,h7⟩,hR,hc=>by
  refine⟨vs,G,H,hR _ _ _ h6 h1,h2,h3.of_eq fun i hi=>hc i ?_,?_,h5,h6,h7⟩
  ·rw [List.length_cons,Nat.add_one_mul];omega
  ·refine Row.imp h4 (fun y vs G' hG=>hR y vs G' fun b o h=>h7 b o (hG b o h)) fun j hj=>?_
   have:=hc (size+j) (by rw [List.length_cons,Nat.add_one_mul];omega)
   rwa [← Nat.add_assoc] at this
theorem Row.bare{α : Type}{w:World}{R R' : α → List Value→Reg→Prop}{size:Nat} : ∀ {x:List α} {b o:Nat} {F:Reg},Row w R size x b o F →
  (∀y vs G,Reg.sub G F→R y vs G→R' y vs Reg.none)→Row w R' size x b o Reg.none
 | [],_,_,_,_,_=>trivial
 | y :: x,b,o,F,⟨vs,G,H,h1,h2,h3,h4,h5,h6,h7⟩,hR =>
  ⟨vs,Reg.none,Reg.none,hR _ _ _ h6 h1,h2,h3,Row.bare h4 fun y vs G' hG=>hR y vs G' fun b o h=>h7 b o (hG b o h),fun _ _ h=>h.elim,fun _ _ h=>h,fun _ _ h=>h⟩
mutual
theorem Ty.Rep.mono{w:World}{Z Z':Reg}(hZ:Reg.sub Z Z'):∀(t:Ty) (m:Md) {x:t.D} {vs:List Value} {F F':Reg},Reg.sub F F'→t.Rep w Z m x vs F→t.Rep w Z' m x vs F'
 | .int _,_,_,_,_,_,_,h=>by simpa only [Ty.Rep] using h
 | .bool,_,_,_,_,_,_,h=>by simpa only [Ty.Rep] using h
 | .str,_,_,_,_,_,_,h=>by simpa only [Ty.Rep] using h
 | .raw,_,_,_,_,_,_,h=>by simpa only [Ty.Rep] using h
 | .sl t,.O e,x,vs,F,F',hF,h=>by
  simp only [Ty.Rep] at h ⊢
  obtain ⟨A,c,h1,h2⟩:=h
  refine⟨A,c,h1,h2.imp id ?_⟩
  rintro ⟨a,h3,h4⟩
  obtain ⟨G,g1,g2,g3⟩:=h4.row
  exact⟨a,h3,h4.spot,h4.cap,h4.wr,fun j hj=>hF _ _ (h4.inF j hj),G,g1.imp (fun y vs G' _=>Ty.Rep.mono hZ t e fun _ _ h=>h) (fun _ _=>rfl),g2,fun b o h=>hF b o (g3 b o h)⟩
 | .sl t,.R,x,vs,F,F',hF,h=>by
  simp only [Ty.Rep] at h ⊢
  obtain ⟨A,c,h1,h2⟩:=h
  refine⟨A,c,h1,h2.imp id ?_⟩
  rintro ⟨a,h3,h4,h5,h6⟩
  exact⟨a,h3,h4,h5.imp (fun y vs G' _=>Ty.Rep.mono hZ t .R fun _ _ h=>h) (fun _ _=>rfl),fun j hj=>hZ _ _ (h6.1 j hj),h6.2⟩
 | .sl t,.S _,x,vs,F,F',hF,h=>by
  simp only [Ty.Rep] at h ⊢
  obtain ⟨A,c,h1,h2⟩:=h
  refine⟨A,c,h1,h2.imp id ?_⟩
  rintro ⟨a,h3,h4,h5,h6⟩
  exact⟨a,h3,h4,h5.imp (fun y vs G' _=>Ty.Rep.mono hZ t .R fun _ _ h=>h) (fun _ _=>rfl),fun j hj=>hZ _ _ (h6.1 j hj),h6.2⟩
 | .st ts,m,x,vs,F,F',hF,h=>by
  simp only [Ty.Rep] at h ⊢
  exact Tys.Rep.mono hZ ts m.parts hF h
theorem Tys.Rep.mono{w:World}{Z Z':Reg}(hZ:Reg.sub Z Z'):∀(ts:Tys) (m:Mds) {x:ts.D} {vs:List Value} {F F':Reg},Reg.sub F F'→ts.Rep w Z m x vs F→ts.Rep w Z' m x vs F'
 | .nil,_,_,_,_,_,_,h=>by simpa only [Tys.Rep] using h
 | .cons t ts,m,x,vs,F,F',hF,h=>by
  simp only [Tys.Rep] at h ⊢
  obtain ⟨us,vs',G,H,h1,h2,h3,h4,h5,h6⟩:=h
  exact⟨us,vs',G,H,h1,Ty.Rep.mono hZ t m.hd (fun _ _ h=>h) h2,Tys.Rep.mono hZ ts m.tl (fun _ _ h=>h) h3,h4,fun b o h=>hF b o (h5 b o h),fun b o h=>hF b o (h6 b o h)⟩
end
mutual
theorem Ty.Rep.same{w w':World}{Z:Reg}(hZ:Same w w' Z):∀(t:Ty) (m:Md) {x:t.D} {vs:List Value} {F:Reg},Same w w' F→t.Rep w Z m x vs F→t.Rep w' Z m x vs F
 | .int _,_,_,_,_,_,h=>by simpa only [Ty.Rep] using h
 | .bool,_,_,_,_,_,h=>by simpa only [Ty.Rep] using h
 | .str,_,_,_,_,_,h=>by simpa only [Ty.Rep] using h
 | .raw,_,_,_,_,_,h=>by simpa only [Ty.Rep] using h
 | .sl t,.O e,x,vs,F,hF,h=>by
  simp only [Ty.Rep] at h ⊢
  obtain ⟨A,c,h1,h2⟩:=h
  refine⟨A,c,h1,h2.imp id ?_⟩
  rintro ⟨a,h3,h4⟩
  obtain ⟨G,g1,g2,g3⟩:=h4.row
  have hle:x.length*t.size≤c*t.size:=Nat.mul_le_mul_right _ h4.cap
  exact⟨a,h3,h4.spot,h4.cap,fun j hj=>hF.wrR (h4.inF j hj) (h4.wr j hj),h4.inF,G,g1.imp (fun y vs G' hG=>Ty.Rep.same hZ t e (hF.mono fun b o h=>g3 b o (hG b o h))) (fun j hj=>(hF _ _ (h4.inF j (by omega))).1),g2,g3⟩
 | .sl t,.R,x,vs,F,hF,h=>by
  simp only [Ty.Rep] at h ⊢
  obtain ⟨A,c,h1,h2⟩:=h
  refine⟨A,c,h1,h2.imp id ?_⟩
  rintro ⟨a,h3,h4,h5,h6⟩
  exact⟨a,h3,h4,h5.imp (fun y vs G' _=>Ty.Rep.same hZ t .R (fun _ _ h=>h.elim)) (fun j hj=>(hZ _ _ (h6.1 j hj)).1),h6⟩
 | .sl t,.S _,x,vs,F,hF,h=>by
  simp only [Ty.Rep] at h ⊢
  obtain ⟨A,c,h1,h2⟩:=h
  refine⟨A,c,h1,h2.imp id ?_⟩
  rintro ⟨a,h3,h4,h5,h6⟩
  exact⟨a,h3,h4,h5.imp (fun y vs G' _=>Ty.Rep.same hZ t .R (fun _ _ h=>h.elim)) (fun j hj=>(hZ _ _ (h6.1 j hj)).1),h6⟩
 | .st ts,m,x,vs,F,hF,h=>by
  simp only [Ty.Rep] at h ⊢
  exact Tys.Rep.same hZ ts m.parts hF h
theorem Tys.Rep.same{w w':World}{Z:Reg}(hZ:Same w w' Z):∀(ts:Tys) (m:Mds) {x:ts.D} {vs:List Value} {F:Reg},Same w w' F→ts.Rep w Z m x vs F→ts.Rep w' Z m x vs F
 | .nil,_,_,_,_,_,h=>by simpa only [Tys.Rep] using h
 | .cons t ts,m,x,vs,F,hF,h=>by
  simp only [Tys.Rep] at h ⊢
  obtain ⟨us,vs',G,H,h1,h2,h3,h4,h5,h6⟩:=h
  exact⟨us,vs',G,H,h1,Ty.Rep.same hZ t m.hd (hF.mono h5) h2,Tys.Rep.same hZ ts m.tl (hF.mono h6) h3,h4,h5,h6⟩
end
mutual
theorem Ty.Rep.len{w:World}{Z:Reg} : ∀(t:Ty) (m:Md) {x:t.D} {vs:List Value} {F:Reg},t.Rep w Z m x vs F→vs.length=t.size∧∀v∈vs,oneC v=true
 | .int _,_,_,_,_,h=>by simp only [Ty.Rep] at h;subst h;simp [Ty.size,oneC]
 | .bool,_,_,_,_,h=>by simp only [Ty.Rep] at h;subst h;simp [Ty.size,oneC]
 | .str,_,_,_,_,h=>by simp only [Ty.Rep] at h;obtain ⟨s,rfl,_⟩:=h;simp [Ty.size,oneC]
 | .raw,_,_,_,_,h=>by simp only [Ty.Rep] at h;obtain ⟨rfl,A,n,c,rfl⟩:=h;simp [Ty.size,oneC]
 | .sl t,.O e,x,vs,F,h=>by simp only [Ty.Rep] at h;obtain ⟨A,c,rfl,_⟩:=h;simp [Ty.size,oneC]
 | .sl t,.R,x,vs,F,h=>by simp only [Ty.Rep] at h;obtain ⟨A,c,rfl,_⟩:=h;simp [Ty.size,oneC]
 | .sl t,.S _,x,vs,F,h=>by simp only [Ty.Rep] at h;obtain ⟨A,c,rfl,_⟩:=h;simp [Ty.size,oneC]
 | .st ts,m,x,vs,F,h=>by simp only [Ty.Rep] at h;simpa only [Ty.size] using Tys.Rep.len ts m.parts h
theorem Tys.Rep.len{w:World}{Z:Reg} : ∀(ts:Tys) (m:Mds) {x:ts.D} {vs:List Value} {F:Reg},ts.Rep w Z m x vs F→vs.length=ts.size∧∀v∈vs,oneC v=true
 | .nil,_,_,_,_,h=>by simp only [Tys.Rep] at h;subst h;simp [Tys.size]
 | .cons t ts,m,x,vs,F,h=>by
  simp only [Tys.Rep] at h
  obtain ⟨us,vs',G,H,rfl,h2,h3,_⟩:=h
  have a:=Ty.Rep.len t m.hd h2
  have b:=Tys.Rep.len ts m.tl h3
  refine⟨by simp [Tys.size,a.1,b.1],fun v hv=>?_⟩
  rcases List.mem_append.1 hv with h | h
  ·exact a.2 v h
  ·exact b.2 v h
end
mutual
theorem Ty.Rep.read{w:World}{Z Z':Reg}(hZ:Reg.sub Z Z'):∀(t:Ty) (m:Md) {x:t.D} {vs:List Value} {F:Reg},Reg.sub F Z'→t.Rep w Z m x vs F→t.Rep w Z' .R x vs Reg.none
 | .int _,_,_,_,_,_,h=>by simpa only [Ty.Rep] using h
 | .bool,_,_,_,_,_,h=>by simpa only [Ty.Rep] using h
 | .str,_,_,_,_,_,h=>by simpa only [Ty.Rep] using h
 | .raw,_,_,_,_,_,h=>by simpa only [Ty.Rep] using h
 | .sl t,.O e,x,vs,F,hF,h=>by
  simp only [Ty.Rep] at h ⊢
  obtain ⟨A,c,h1,h2⟩:=h
  refine⟨A,c,h1,?_⟩
  rcases h2 with⟨h,_⟩ | ⟨a,h3,h4⟩
  ·exact .inl h
  ·obtain ⟨G,g1,g2,g3⟩:=h4.row
   have hle:x.length*t.size≤c*t.size:=Nat.mul_le_mul_right _ h4.cap
   exact .inr ⟨a,h3,h4.spot,g1.bare fun y vs G' hG=>Ty.Rep.read hZ t e (fun b o h=>hF b o (g3 b o (hG b o h))),fun j hj=>hF _ _ (h4.inF j (by omega)),h4.cap⟩
 | .sl t,.R,x,vs,F,hF,h=>Ty.Rep.mono hZ (.sl t) .R (F:=Reg.none) (fun _ _ h=>h) (by simpa only [Ty.Rep] using h)
 | .sl t,.S _,x,vs,F,hF,h=>Ty.Rep.mono hZ (.sl t) .R (F:=Reg.none) (fun _ _ h=>h) (by simpa only [Ty.Rep] using h)
 | .st ts,m,x,vs,F,hF,h=>by
  simp only [Ty.Rep] at h ⊢
  exact Tys.Rep.read hZ ts m.parts hF h
theorem Tys.Rep.read{w:World}{Z Z':Reg}(hZ:Reg.sub Z Z'):∀(ts:Tys) (m:Mds) {x:ts.D} {vs:List Value} {F:Reg},Reg.sub F Z'→ts.Rep w Z m x vs F→ts.Rep w Z' (Md.parts .R) x vs Reg.none
 | .nil,_,_,_,_,_,h=>by simpa only [Tys.Rep] using h
 | .cons t ts,m,x,vs,F,hF,h=>by
  simp only [Tys.Rep] at h ⊢
  obtain ⟨us,vs',G,H,h1,h2,h3,h4,h5,h6⟩:=h
  exact⟨us,vs',Reg.none,Reg.none,h1,Ty.Rep.read hZ t m.hd (fun b o h=>hF b o (h5 b o h)) h2,Tys.Rep.read hZ ts m.tl (fun b o h=>hF b o (h6 b o h)) h3,fun _ _ h=>h.elim,fun _ _ h=>h,fun _ _ h=>h⟩
end
mutual
theorem rep_R_none{w:World}{Z:Reg} : ∀ {t:Ty} {x:t.D} {vs:List Value} {F:Reg},t.Rep w Z .R x vs F→t.Rep w Z .R x vs Reg.none
 | .int _,_,_,_,h=>by simpa only [Ty.Rep] using h
 | .bool,_,_,_,h=>by simpa only [Ty.Rep] using h
 | .str,_,_,_,h=>by simpa only [Ty.Rep] using h
 | .raw,_,_,_,h=>by simpa only [Ty.Rep] using h
 | .sl t,_,_,_,h=>by simpa only [Ty.Rep] using h
 | .st ts,_,_,_,h=>by simp only [Ty.Rep] at h ⊢;exact reps_R_none h
theorem reps_R_none{w:World}{Z:Reg} : ∀ {ts:Tys} {x:ts.D} {vs:List Value} {F:Reg},ts.Rep w Z (Md.parts .R) x vs F→ts.Rep w Z (Md.parts .R) x vs Reg.none
 | .nil,_,_,_,h=>by simpa only [Tys.Rep] using h
 | .cons t ts,_,_,_,h=>by
  simp only [Tys.Rep] at h ⊢
  obtain ⟨us,vs',G,H,h1,h2,h3,h4,h5,h6⟩:=h
  exact⟨us,vs',Reg.none,Reg.none,h1,rep_R_none h2,reps_R_none h3,fun _ _ h=>h.elim,fun _ _ h=>h,fun _ _ h=>h⟩
end
mutual
theorem rep_flat{w:World}{Z Z':Reg} : ∀(t:Ty) {m m':Md} {x:t.D} {vs:List Value} {F F':Reg},t.flat=true→t.Rep w Z m x vs F→t.Rep w Z' m' x vs F'
 | .int _,_,_,_,_,_,_,_,h=>by simpa only [Ty.Rep] using h
 | .bool,_,_,_,_,_,_,_,h=>by simpa only [Ty.Rep] using h
 | .str,_,_,_,_,_,_,_,h=>by simpa only [Ty.Rep] using h
 | .raw,_,_,_,_,_,_,_,h=>by simpa only [Ty.Rep] using h
 | .sl t,_,_,_,_,_,_,hf,h=>by simp [Ty.flat] at hf
 | .st ts,_,_,_,_,_,_,hf,h=>by simp only [Ty.flat] at hf;simp only [Ty.Rep] at h ⊢;exact reps_flat ts hf h
theorem reps_flat{w:World}{Z Z':Reg} : ∀(ts:Tys) {m m':Mds} {x:ts.D} {vs:List Value} {F F':Reg},ts.flat=true→ts.Rep w Z m x vs F→ts.Rep w Z' m' x vs F'
 | .nil,_,_,_,_,_,_,_,h=>by simpa only [Tys.Rep] using h
 | .cons t ts,_,_,_,_,_,_,hf,h=>by
  simp only [Tys.flat] at hf
  simp only [Tys.Rep] at h ⊢
  obtain ⟨us,vs',G,H,h1,h2,h3,h4,h5,h6⟩:=h
  cases hb:t.flat
  ·rw [hb] at hf;simp at hf
  ·rw [hb] at hf
   exact⟨us,vs',Reg.none,Reg.none,h1,rep_flat t hb h2,reps_flat ts hf h3,fun _ _ h=>h.elim,fun _ _ h=>h.elim,fun _ _ h=>h.elim⟩
end
mutual
theorem rep_own{w:World}{Z Z':Reg} : ∀(t:Ty) {x:t.D} {vs:List Value} {F:Reg},t.Rep w Z t.own x vs F→t.Rep w Z' t.own x vs F
 | .int _,_,_,_,h=>by simpa only [Ty.Rep] using h
 | .bool,_,_,_,h=>by simpa only [Ty.Rep] using h
 | .str,_,_,_,h=>by simpa only [Ty.Rep] using h
 | .raw,_,_,_,h=>by simpa only [Ty.Rep] using h
 | .sl t,_,_,_,h=>by
  simp only [Ty.own,Ty.Rep] at h ⊢
  obtain ⟨A,c,h1,h2⟩:=h
  refine⟨A,c,h1,h2.imp (fun h=>h) ?_⟩
  rintro ⟨a,h3,h4⟩
  obtain ⟨G,g1,g2,g3⟩:=h4.row
  exact⟨a,h3,h4.spot,h4.cap,h4.wr,h4.inF,G,g1.imp (fun y vs G' _=>rep_own t) (fun _ _=>rfl),g2,g3⟩
 | .st ts,_,_,_,h=>by
  simp only [Ty.own] at h ⊢
  cases hb:ts.flat
  ·rw [hb] at h
   simp only [Ty.Rep,Md.parts,Bool.false_eq_true,if_false] at h ⊢
   exact reps_own ts h
  ·rw [hb] at h
   exact rep_flat (.st ts) (by simp only [Ty.flat];exact hb) h
theorem reps_own{w:World}{Z Z':Reg} : ∀(ts:Tys) {x:ts.D} {vs:List Value} {F:Reg},ts.Rep w Z ts.own x vs F→ts.Rep w Z' ts.own x vs F
 | .nil,_,_,_,h=>by simpa only [Tys.Rep] using h
 | .cons t ts,_,_,_,h=>by
  simp only [Tys.own,Tys.Rep,Mds.hd,Mds.tl] at h ⊢
  obtain ⟨us,vs',G,H,h1,h2,h3,h4,h5,h6⟩:=h
  exact⟨us,vs',G,H,h1,rep_own t h2,reps_own ts h3,h4,h5,h6⟩
end
end Go.LM
namespace Go.LM
structure OI where
 base:Option Addr
 cap:Nat
 F:Reg
def depF(ι : Nat→OI)(dp:List (Nat×Nat)):Reg:=fun b o=>∃d,d∈dp∧(ι d.1).F b o
def known(s:St)(id:Nat):Prop:=s.o id≠.none
def okDep(s:St)(d:Nat×Nat):Prop:=known s d.1∧(s.o d.1=.dead∨d.2≤verOf s d.1)
def LObj.live:LObj→Prop
 | .row .. | .var .. => True
 | _=>False
structure HdRep(i:OI)(size:Nat)(sub:Option (Nat×Nat))(len:Nat)(A:Option Addr)(n c:Nat):Prop where
 n_eq:n=match sub with | none=>len | some (_,m)=>m
 fits:subLo sub+n≤len
 le:n≤c
 cap:subLo sub+c≤i.cap
 at_:c=0∨∃a,i.base=some a∧A=some (at_ a.block (a.off+subLo sub*size))
theorem core_row{o:LObj}{t:Ty}{em:Md}{ver:Nat}{xs:List t.D}(h:o=.row t em ver xs):o.core=.row t em ver xs:=by rw [h];rfl
def PlaceAt(s:St)(ι : Nat→OI)(p:Place)(a:Addr):Prop :=
 a.spot=none∧match (s.o p.id).core with
  | .var _ cs=>p.ei=none∧∃a0,(ι p.id).base=some a0∧a=at_ a0.block (a0.off+p.off)
  | .row t _ _ xs=>∃i,p.ei=some i∧i<xs.length∧∃a0,(ι p.id).base=some a0∧a=at_ a0.block (a0.off+i*t.size+p.off)
  | _=>True
def OrgAt(w:World)(s:St)(ι : Nat→OI)(dp:List (Nat×Nat))(og:Option Place)(v:Value):Prop :=
 ∀p,og=some p→(∃d,d∈dp∧d.1=p.id)∧(alive s dp=true→∃b o,PlaceAt s ι p (at_ b o)∧w.cell? (at_ b o)=some v∧(ι p.id).F b o)
theorem OrgAt.none{w:World}{s:St}{ι : Nat→OI}{dp:List (Nat×Nat)}{v:Value} : OrgAt w s ι dp none v:=fun p h=>by cases h
def CellRep(w:World)(Z:Reg)(s:St)(ι : Nat→OI):HC→Value→Prop
 | .int k x,v=>v=.int k x
 | .bool x,v=>v=.bool x
 | .str x,v=>∃b:ByteArray,v=.string b∧b.data.toList=x
 | .raw x,v=>v=x∧∃A n c,x=.slice A n c
 | .nil _,v=>v=.slice none 0 0
 | .lst t dp og xs,v=>(∀d,d∈dp→okDep s d)∧(∃A n c,v=.slice A n c) ∧
   (alive s dp=true→(Ty.sl t).Rep w (Z.or (depF ι dp)) .R xs [v] Reg.none)∧OrgAt w s ι dp og v
 | .hd id sub,v=>known s id∧∃A n c,v=.slice A n c∧∀t em ver xs,(s.o id).core=.row t em ver xs→HdRep (ι id) t.size sub xs.length A n c
def CellsRep(w:World)(Z:Reg)(s:St)(ι : Nat→OI):List HC→List Value→Prop
 | [],[]=>True
 | c :: cs,v :: vs=>CellRep w Z s ι c v∧CellsRep w Z s ι cs vs
 | _,_=>False
mutual
def TVRep(w:World)(Z:Reg)(s:St)(ι : Nat→OI):TV→Value→Prop
 | .und,_=>True
 | .gone,v=>v=undef
 | .sc c,v=>CellRep w Z s ι c v
 | .ag cs,v=>∃vs,v=.agg vs.toArray∧CellsRep w Z s ι cs vs
 | .ptr p,v=>known s p.id∧∃a,v=.pointer (some a)∧PlaceAt s ι p a
 | .rp dp cs off,v=>(∀d,d∈dp→okDep s d)∧∃b o vs,v=.pointer (some (at_ b (o+off))) ∧
   (alive s dp=true→CellsRep w Z s ι cs vs∧CellsAt w b o vs∧∀j,j<cs.length→Z.or (depF ι dp) b (o+j))
 | .nilp,v=>v=.pointer none
 | .nilc,v=>v=.slice none 0 0
 | .opt id o,v=>known s id∧((o<0∧v=.pointer none)∨(0≤o∧∃a,v=.pointer (some a)∧PlaceAt s ι ⟨id,some o.toNat,0⟩ a))
 | .junk t,v=>v.cells.toList.length=t.size∧∀u∈v.cells.toList,LM.oneC u=true
 | .may b dp cs,v=>(b=false∧v=.pointer none)∨(b=true∧(∀d,d∈dp→okDep s d)∧∃b o vs,v=.pointer (some (at_ b (o+0))) ∧
   (alive s dp=true→CellsRep w Z s ι cs vs∧CellsAt w b o vs∧∀j,j<cs.length→Z.or (depF ι dp) b (o+j)))
 | .fn f first caps,v=>∃us vs,v=.func (.func f) us.toArray vs.toArray∧TVsRep w Z s ι first us∧TVsRep w Z s ι caps vs
 | .tup l,v=>∃vs,v=.tuple vs.toArray∧TVsRep w Z s ι l vs
def TVsRep(w:World)(Z:Reg)(s:St)(ι : Nat→OI):List TV→List Value→Prop
 | [],vs=>vs=[]
 | x :: l,vs=>∃v vs',vs=v :: vs'∧TVRep w Z s ι x v∧TVsRep w Z s ι l vs'
end
def ObjRep(w:World)(Z:Reg)(s:St)(ι : Nat→OI)(i:OI):LObj→Prop
 | .row t em _ xs=>(xs=[]∧i.cap=0)∨∃a,i.base=some a∧OwnRow w (t.Rep w Z em) t.size xs a i.cap i.F
 | .var _ cs=>∃a vs,i.base=some a∧a.spot=none∧CellsRep w Z s ι cs vs∧CellsAt w a.block a.off vs ∧
   (∀j,j<cs.length→Writable w a.block (a.off+j)∧i.F a.block (a.off+j))
 | _=>True
structure Seen where
 dp:List (Nat×Nat)
 b:Nat
 o:Nat
 vs:List Value
def SeenAt(w:World)(Z:Reg)(s:St)(ι : Nat→OI)(e:Seen):Prop :=
 (∀d,d∈e.dp→okDep s d)∧(alive s e.dp=true→CellsAt w e.b e.o e.vs∧∀j,j<e.vs.length→Z.or (depF ι e.dp) e.b (e.o+j))
structure Frm where
 n:Nat
 gv:List Value
 gc:List Seen
instance:Coe Frm Nat:=⟨Frm.n⟩
structure Inv(w0:World)(F0 Z0:Reg)(n:Frm)(s:St)(a:Act)(w:World)(ι : Nat→OI)(Z:Reg):Prop where
 ext:Ext w0 w F0
 zsub:∀b o,Z b o→Z0 b o∨F0 b o∨w0.heap.size≤b
 zold:Reg.sub Z0 Z
 zin:∀b o,Z b o→b<w.heap.size
 objs:∀id,ObjRep w Z s ι (ι id) (s.o id)
 own:∀id,(s.o id).live→∀b o,(ι id).F b o→(F0 b o∨w0.heap.size≤b)∧b<w.heap.size
 apart:∀id id',(s.o id).live→(s.o id').live→id≠id'→Reg.apart (ι id).F (ι id').F
 apartZ:∀id,(s.o id).live→Reg.apart (ι id).F Z
 tmps:∀k,TVRep w Z s ι (s.t k) (a.tmps.getD k undef)
 size:a.tmps.size=n.n
 ghost:TVsRep w Z s ι s.g n.gv
 seen:∀e,e∈n.gc→SeenAt w Z s ι e
 defers:a.defers=[]
theorem CellsRep.len{w:World}{Z:Reg}{s:St}{ι : Nat→OI} : ∀ {cs:List HC} {vs:List Value},CellsRep w Z s ι cs vs→vs.length=cs.length
 | [],[],_=>rfl
 | _ :: _,_ :: _,h=>by simp [CellsRep.len h.2]
 | [],_ :: _,h=>h.elim
 | _ :: _,[],h=>h.elim
theorem CellRep.oneC{w:World}{Z:Reg}{s:St}{ι : Nat→OI} : ∀ {c:HC} {v:Value},CellRep w Z s ι c v→LM.oneC v=true
 | .int _ _,_,h=>by cases h;rfl
 | .bool _,_,h=>by cases h;rfl
 | .str _,_,⟨_,h,_⟩=>by cases h;rfl
 | .raw _,_,⟨h,_,_,_,h2⟩=>by subst h;subst h2;rfl
 | .nil _,_,h=>by cases h;rfl
 | .lst _ _ _ _,_,⟨_,⟨_,_,_,h⟩,_,_⟩=>by cases h;rfl
 | .hd _ _,_,⟨_,_,_,_,h,_⟩=>by cases h;rfl
theorem CellsRep.oneC{w:World}{Z:Reg}{s:St}{ι : Nat→OI} : ∀ {cs:List HC} {vs:List Value},CellsRep w Z s ι cs vs→∀v∈vs,LM.oneC v=true
 | [],[],_=>by simp
 | _ :: _,_ :: _,h=>by
  intro v hv
  rcases List.mem_cons.1 hv with rfl | hv
  ·exact h.1.oneC
  ·exact CellsRep.oneC h.2 v hv
 | [],_ :: _,h=>h.elim
 | _ :: _,[],h=>h.elim
theorem CellsRep.append{w:World}{Z:Reg}{s:St}{ι : Nat→OI} : ∀ {cs ds:List HC} {us vs:List Value},CellsRep w Z s ι cs us→CellsRep w Z s ι ds vs→CellsRep w Z s ι (cs++ds) (us++vs)
 | [],_,[],_,_,k=>k
 | _ :: _,_,_ :: _,_,h,k=>⟨h.1,CellsRep.append h.2 k⟩
 | [],_,_ :: _,_,h,_=>h.elim
 | _ :: _,_,[],_,h,_=>h.elim
theorem CellsRep.split{w:World}{Z:Reg}{s:St}{ι : Nat→OI} : ∀ {cs ds:List HC} {vs:List Value},CellsRep w Z s ι (cs++ds) vs →
  ∃us ts,vs=us++ts∧us.length=cs.length∧CellsRep w Z s ι cs us∧CellsRep w Z s ι ds ts
 | [],ds,vs,h=>⟨[],vs,rfl,rfl,trivial,h⟩
 | c :: cs,ds,v :: vs,h=>by
  obtain ⟨us,ts,h1,h2,h3,h4⟩:=CellsRep.split (cs:=cs) h.2
  exact⟨v :: us,ts,by rw [h1];rfl,by simp [h2],⟨h.1,h3⟩,h4⟩
 | _ :: _,_,[],h=>h.elim
theorem CellsRep.drop{w:World}{Z:Reg}{s:St}{ι : Nat→OI} : ∀(k:Nat) {cs:List HC} {vs:List Value},CellsRep w Z s ι cs vs→CellsRep w Z s ι (cs.drop k) (vs.drop k)
 | 0,_,_,h=>h
 | _+1,[],[],h=>h
 | k+1,_ :: _,_ :: _,h=>CellsRep.drop k h.2
 | _+1,[],_ :: _,h=>h.elim
 | _+1,_ :: _,[],h=>h.elim
theorem CellsRep.take{w:World}{Z:Reg}{s:St}{ι : Nat→OI} : ∀(k:Nat) {cs:List HC} {vs:List Value},CellsRep w Z s ι cs vs→CellsRep w Z s ι (cs.take k) (vs.take k)
 | 0,_,_,h=>trivial
 | _+1,[],[],h=>h
 | k+1,_ :: _,_ :: _,h=>⟨h.1,CellsRep.take k h.2⟩
 | _+1,[],_ :: _,h=>h.elim
 | _+1,_ :: _,[],h=>h.elim
theorem CellsRep.mono{w w':World}{Z Z':Reg}{s s':St}{ι ι':Nat→OI}(hc:∀c v,CellRep w Z s ι c v→CellRep w' Z' s' ι' c v) :
  ∀ {cs:List HC} {vs:List Value},CellsRep w Z s ι cs vs→CellsRep w' Z' s' ι' cs vs
 | [],[],_=>trivial
 | _ :: _,_ :: _,h=>⟨hc _ _ h.1,CellsRep.mono hc h.2⟩
 | [],_ :: _,h=>h.elim
 | _ :: _,[],h=>h.elim
inductive Turn:LObj→OI→LObj→OI→Prop
 | stay (o:LObj) (i:OI):Turn o i o i
 | made (o':LObj) (i i':OI):Turn .none i o' i'
 | dead (o:LObj) (i i':OI):Turn o i .dead i'
 | row (t:Ty) (em em':Md) (v v':Nat) (xs xs':List t.D) (i i':OI) (hv:v<v') (hl:xs'.length=xs.length) (hb:i'.base=i.base) (hc:i'.cap=i.cap):Turn (.row t em v xs) i (.row t em' v' xs') i'
 | var (v v':Nat) (cs cs':List HC) (i:OI) (hv:v<v') (hl:cs'.length=cs.length):Turn (.var v cs) i (.var v' cs') i
 | lend (o:LObj) (i:OI) (hl:o.live):Turn o i (.lent o) i
 | backR (t:Ty) (em em':Md) (v v':Nat) (xs xs':List t.D) (i i':OI) (hv:v<v') (hl:xs'.length=xs.length) (hb:i'.base=i.base) (hc:i'.cap=i.cap):Turn (.lent (.row t em v xs)) i (.row t em' v' xs') i'
 | backV (v v':Nat) (cs cs':List HC) (i i':OI) (hv:v<v') (hb:i'.base=i.base):Turn (.lent (.var v cs)) i (.var v' cs') i'
def Turns(s:St)(ι : Nat→OI)(s':St)(ι':Nat→OI):Prop:=∀id,Turn (s.o id) (ι id) (s'.o id) (ι' id)
theorem Turns.known{s s':St}{ι ι':Nat→OI}(h:Turns s ι s' ι'){id:Nat}(hk:known s id):known s' id:=by
 unfold LM.known at *
 have:=h id
 generalize s.o id=o at *;generalize s'.o id=o' at *;generalize ι id=i at *;generalize ι' id=i' at *
 cases this <;> simp_all
theorem Turns.dep{s s':St}{ι ι':Nat→OI}(h:Turns s ι s' ι'){d:Nat×Nat}(hk:okDep s d):okDep s' d:=by
 refine⟨h.known hk.1,?_⟩
 obtain ⟨k1,k2⟩:=hk
 unfold LM.known verOf at *
 have:=h d.1
 generalize s.o d.1=o at *;generalize s'.o d.1=o' at *;generalize ι d.1=i at *;generalize ι' d.1=i' at *
 cases this with
 | stay=>exact k2
 | made=>exact absurd rfl k1
 | dead=>exact .inl rfl
 | row t em em' v v' xs xs' i i' hv' hl hb hc=>rcases k2 with h | h;exact absurd h (by simp);exact .inr (by dsimp only at *;omega)
 | var v v' cs cs' i hv' hl=>rcases k2 with h | h;exact absurd h (by simp);exact .inr (by dsimp only at *;omega)
 | lend o i hl =>
  rcases k2 with h | h
  ·rw [h] at hl;exact hl.elim
  ·cases o <;> first | exact hl.elim | exact .inr h
 | backR t em em' v v' xs xs' i i' hv' hl hb hc=>rcases k2 with h | h;exact absurd h (by simp);exact .inr (by dsimp only at *;omega)
 | backV v v' cs cs' i i' hv' hb=>rcases k2 with h | h;exact absurd h (by simp);exact .inr (by dsimp only at *;omega)
theorem Turns.stays{s s':St}{ι ι':Nat→OI}(h:Turns s ι s' ι'):∀ {dp:List (Nat×Nat)},(∀d,d∈dp→okDep s d)→alive s' dp=true →
  alive s dp=true∧∀d,d∈dp→s'.o d.1=s.o d.1 ∧ ι' d.1 = ι d.1∧(s.o d.1).live
 | [],_,_=>⟨rfl,by simp⟩
 | (id,v) :: dp,hk,ha=>by
  have hrest:=fun ha=>Turns.stays h (dp:=dp) (fun d hd=>hk d (by simp [hd])) ha
  obtain ⟨k1,k2⟩:=hk (id,v) (by simp)
  have ht:=h id
  simp only [LM.known,verOf] at k1 k2
  unfold alive at ha ⊢
  generalize ho:s.o id=o at *
  generalize ho':s'.o id=o' at *
  generalize hi : ι id=i at *
  generalize hi' : ι' id=i' at *
  cases ht with
  | stay =>
   cases o with
   | row t em w xs =>
    dsimp only at ha ⊢
    cases hb:Nat.beq w v
    ·rw [hb] at ha;simp at ha
    ·rw [hb] at ha
     obtain ⟨r1,r2⟩:=hrest ha
     refine⟨r1,fun d hd=>?_⟩
     rcases List.mem_cons.1 hd with rfl | hd
     ·exact⟨by rw [ho,ho'],by rw [hi,hi'],by rw [ho];trivial⟩
     ·exact r2 d hd
   | var w cs =>
    dsimp only at ha ⊢
    cases hb:Nat.beq w v
    ·rw [hb] at ha;simp at ha
    ·rw [hb] at ha
     obtain ⟨r1,r2⟩:=hrest ha
     refine⟨r1,fun d hd=>?_⟩
     rcases List.mem_cons.1 hd with rfl | hd
     ·exact⟨by rw [ho,ho'],by rw [hi,hi'],by rw [ho];trivial⟩
     ·exact r2 d hd
   | none=>simp at ha
   | dead=>simp at ha
   | lent=>simp at ha
  | made=>exact absurd rfl k1
  | dead=>simp at ha
  | lend=>simp at ha
  | backR t em em' w w' xs xs' i i' hv hl hb hc =>
   dsimp only at ha
   cases hb:Nat.beq w' v
   ·rw [hb] at ha;simp at ha
   ·have:=Nat.eq_of_beq_eq_true hb;simp at k2;omega
  | backV w w' cs cs' i i' hv hb =>
   dsimp only at ha
   cases hb:Nat.beq w' v
   ·rw [hb] at ha;simp at ha
   ·have:=Nat.eq_of_beq_eq_true hb;simp at k2;omega
  | row t em em' w w' xs xs' i i' hv hl hb hc =>
   dsimp only at ha
   cases hb:Nat.beq w' v
   ·rw [hb] at ha;simp at ha
   ·have:=Nat.eq_of_beq_eq_true hb;simp at k2;omega
  | var w w' cs cs' i hv hl =>
   dsimp only at ha
   cases hb:Nat.beq w' v
   ·rw [hb] at ha;simp at ha
   ·have:=Nat.eq_of_beq_eq_true hb;simp at k2;omega
def keptCells(s:St)(ι : Nat→OI)(s':St)(ι':Nat→OI)(Z:Reg):Reg :=
 fun b o=>Z b o∨∃id,(s.o id).live∧s'.o id=s.o id ∧ ι' id = ι id∧(ι id).F b o
section
variable{w w':World}{Z Z':Reg}{s s':St}{ι ι':Nat→OI}
structure Moves(w:World)(Z:Reg)(s:St)(ι : Nat→OI)(w':World)(Z':Reg)(s':St)(ι':Nat→OI):Prop where
 turns:Turns s ι s' ι'
 zsub:Reg.sub Z Z'
 same:Same w w' (keptCells s ι s' ι' Z)
theorem Moves.depF(h:Moves w Z s ι w' Z' s' ι'){dp:List (Nat×Nat)}(hk:∀d,d∈dp→okDep s d)(ha:alive s' dp=true) :
  Same w w' (Z.or (depF ι dp))∧Reg.sub (Z.or (LM.depF ι dp)) (Z'.or (LM.depF ι' dp)):=by
 obtain ⟨h1,h2⟩:=h.turns.stays hk ha
 refine⟨h.same.mono ?_,?_⟩
 ·rintro b o (hz | ⟨d,hd,hf⟩)
  ·exact .inl hz
  ·exact .inr ⟨d.1,(h2 d hd).2.2,(h2 d hd).1,(h2 d hd).2.1,hf⟩
 ·rintro b o (hz | ⟨d,hd,hf⟩)
  ·exact .inl (h.zsub b o hz)
  ·exact .inr ⟨d,hd,by rw [(h2 d hd).2.1];exact hf⟩
theorem PlaceAt.move(h:Moves w Z s ι w' Z' s' ι'){p:Place}{a:Addr}(hk:known s p.id)(hp:PlaceAt s ι p a):PlaceAt s' ι' p a:=by
 obtain ⟨hs,hp⟩:=hp
 refine⟨hs,?_⟩
 have ht:=h.turns p.id
 unfold known at hk
 generalize s.o p.id=o at *;generalize s'.o p.id=o' at *;generalize ι p.id=i at *;generalize ι' p.id=i' at *
 cases ht with
 | stay=>exact hp
 | made=>exact absurd rfl hk
 | dead=>trivial
 | row t em em' v v' xs xs' i i' hv hl hb hc=>obtain ⟨k,h1,h2,h3⟩:=hp;exact⟨k,h1,by omega,by rw [hb];exact h3⟩
 | var=>exact hp
 | lend o i hl=>cases o <;> first | exact hl.elim | exact hp
 | backR t em em' v v' xs xs' i i' hv hl hb hc=>obtain ⟨k,h1,h2,h3⟩:=hp;exact⟨k,h1,by omega,by rw [hb];exact h3⟩
 | backV v v' cs cs' i i' hv hb=>obtain ⟨h1,h2⟩:=hp;exact⟨h1,by rw [hb];exact h2⟩
theorem OrgAt.move(h:Moves w Z s ι w' Z' s' ι'){dp:List (Nat×Nat)}{og:Option Place}{v:Value}(hk:∀d,d∈dp→okDep s d)(ho:OrgAt w s ι dp og v):OrgAt w' s' ι' dp og v:=by
 intro p hp
 obtain ⟨⟨d,hd,hid⟩,h2⟩:=ho p hp
 refine⟨⟨d,hd,hid⟩,fun ha=>?_⟩
 obtain ⟨q1,q2⟩:=h.depF hk ha
 obtain ⟨s1,s2⟩:=h.turns.stays hk ha
 obtain ⟨b,o,k1,k2,k3⟩:=h2 s1
 refine⟨b,o,k1.move h (hid ▸ (hk d hd).1),?_,?_⟩
 ·rw [(q1 b o (.inr ⟨d,hd,hid ▸ k3⟩)).1];exact k2
 ·rw [← hid,(s2 d hd).2.1,hid];exact k3
theorem CellRep.move(h:Moves w Z s ι w' Z' s' ι'):∀ {c:HC} {v:Value},CellRep w Z s ι c v→CellRep w' Z' s' ι' c v
 | .int _ _,_,hc=>hc
 | .bool _,_,hc=>hc
 | .str _,_,hc=>hc
 | .raw _,_,hc=>hc
 | .nil _,_,hc=>hc
 | .lst t dp og xs,v,⟨h1,h2,h3,h4⟩=>by
  refine⟨fun d hd=>h.turns.dep (h1 d hd),h2,fun ha=>?_,h4.move h h1⟩
  obtain ⟨a,b⟩:=h.depF h1 ha
  exact Ty.Rep.mono b _ _ (fun _ _ h=>h) (Ty.Rep.same a _ _ (fun _ _ h=>h.elim) (h3 (h.turns.stays h1 ha).1))
 | .hd id sub,v,⟨h1,A,n,c,hv,h2⟩=>by
  refine⟨h.turns.known h1,A,n,c,hv,fun t em ver xs ho=>?_⟩
  have ht:=h.turns id
  unfold LM.known at h1
  generalize hoo:s.o id=o at *
  generalize hii : ι id=i at *
  generalize hoo':s'.o id=o' at *
  generalize hii' : ι' id=i' at *
  cases ht with
  | stay=>exact h2 _ _ _ _ ho
  | made=>exact absurd rfl h1
  | dead=>simp [LObj.core] at ho
  | row t em em' v v' xs xs' i i' hv hl hb hc =>
   simp only [LObj.core,LObj.row.injEq] at ho
   obtain ⟨rfl,_,_,ho⟩:=ho
   have:=eq_of_heq ho;subst this
   obtain ⟨q1,q2,q3,q4,q5⟩:=h2 _ _ _ _ rfl
   exact⟨by rw [hl];exact q1,by rw [hl];exact q2,q3,by rw [hc];exact q4,by rw [hb];exact q5⟩
  | var=>simp [LObj.core] at ho
  | lend o i hl=>exact h2 _ _ _ _ (by cases o <;> first | exact hl.elim | exact ho)
  | backR t em em' v v' xs xs' i i' hv hl hb hc =>
   simp only [LObj.core,LObj.row.injEq] at ho
   obtain ⟨rfl,_,_,ho⟩:=ho
   have:=eq_of_heq ho;subst this
   obtain ⟨q1,q2,q3,q4,q5⟩:=h2 _ _ _ _ rfl
   exact⟨by rw [hl];exact q1,by rw [hl];exact q2,q3,by rw [hc];exact q4,by rw [hb];exact q5⟩
  | backV=>simp [LObj.core] at ho
theorem CellsRep.move(h:Moves w Z s ι w' Z' s' ι'){cs:List HC}{vs:List Value}(hc:CellsRep w Z s ι cs vs):CellsRep w' Z' s' ι' cs vs :=
 CellsRep.mono (fun _ _=>CellRep.move h) hc
mutual
theorem TVRep.move(h:Moves w Z s ι w' Z' s' ι'):∀ {x:TV} {v:Value},TVRep w Z s ι x v→TVRep w' Z' s' ι' x v
 | .und,_,_=>by simp only [TVRep]
 | .gone,_,hx=>by simpa only [TVRep] using hx
 | .sc c,v,hx=>by simp only [TVRep] at hx ⊢;exact hx.move h
 | .ag cs,v,hx=>by simp only [TVRep] at hx ⊢;obtain ⟨vs,h1,h2⟩:=hx;exact⟨vs,h1,h2.move h⟩
 | .ptr p,v,hx=>by
  simp only [TVRep] at hx ⊢;obtain ⟨h1,a,h2,h3⟩:=hx;exact⟨h.turns.known h1,a,h2,h3.move h h1⟩
 | .rp dp cs off,v,hx=>by
  simp only [TVRep] at hx ⊢
  obtain ⟨h1,b,o,vs,h2,h3⟩:=hx
  refine⟨fun d hd=>h.turns.dep (h1 d hd),b,o,vs,h2,fun ha=>?_⟩
  obtain ⟨q1,q2⟩:=h.depF h1 ha
  obtain ⟨r1,r2,r3⟩:=h3 (h.turns.stays h1 ha).1
  exact⟨r1.move h,q1.cellsAt (fun i hi=>r3 i (by rw [← r1.len];exact hi)) r2,fun j hj=>q2 _ _ (r3 j hj)⟩
 | .junk t,v,hx=>by simpa only [TVRep] using hx
 | .may q dp cs,v,hx=>by
  simp only [TVRep] at hx ⊢
  rcases hx with hx | ⟨h0,h1,b,o,vs,h2,h3⟩
  ·exact .inl hx
  refine .inr ⟨h0,fun d hd=>h.turns.dep (h1 d hd),b,o,vs,h2,fun ha=>?_⟩
  obtain ⟨q1,q2⟩:=h.depF h1 ha
  obtain ⟨r1,r2,r3⟩:=h3 (h.turns.stays h1 ha).1
  exact⟨r1.move h,q1.cellsAt (fun i hi=>r3 i (by rw [← r1.len];exact hi)) r2,fun j hj=>q2 _ _ (r3 j hj)⟩
 | .nilp,_,hx=>by simpa only [TVRep] using hx
 | .nilc,_,hx=>by simpa only [TVRep] using hx
 | .opt id o,v,hx=>by
  simp only [TVRep] at hx ⊢
  obtain ⟨h1,h2⟩:=hx
  exact⟨h.turns.known h1,h2.imp (fun x=>x) fun⟨h3,a,h4,h5⟩=>⟨h3,a,h4,h5.move h h1⟩⟩
 | .fn f l m,v,hx=>by
  simp only [TVRep] at hx ⊢
  obtain ⟨us,vs,h1,h2,h3⟩:=hx
  exact⟨us,vs,h1,TVsRep.move h h2,TVsRep.move h h3⟩
 | .tup l,v,hx=>by
  simp only [TVRep] at hx ⊢
  obtain ⟨vs,h1,h2⟩:=hx
  exact⟨vs,h1,TVsRep.move h h2⟩
theorem TVsRep.move(h:Moves w Z s ι w' Z' s' ι'):∀ {x:List TV} {v:List Value},TVsRep w Z s ι x v→TVsRep w' Z' s' ι' x v
 | [],v,hx=>by simpa only [TVsRep] using hx
 | x :: l,v,hx=>by
  simp only [TVsRep] at hx ⊢
  obtain ⟨u,us,h1,h2,h3⟩:=hx
  exact⟨u,us,h1,TVRep.move h h2,TVsRep.move h h3⟩
end
theorem SeenAt.move(h:Moves w Z s ι w' Z' s' ι'){e:Seen}(he:SeenAt w Z s ι e):SeenAt w' Z' s' ι' e:=by
 obtain ⟨h1,h2⟩:=he
 refine⟨fun d hd=>h.turns.dep (h1 d hd),fun ha=>?_⟩
 obtain ⟨q1,q2⟩:=h.depF h1 ha
 obtain ⟨r1,r2⟩:=h2 (h.turns.stays h1 ha).1
 exact⟨q1.cellsAt r2 r1,fun j hj=>q2 _ _ (r2 j hj)⟩
theorem ObjRep.move(h:Moves w Z s ι w' Z' s' ι'){id:Nat}(hl:(s.o id).live→s'.o id=s.o id ∧ ι' id = ι id){o:LObj}(ho:s.o id=o)(hs:ObjRep w Z s ι (ι id) o):ObjRep w' Z' s' ι' (ι id) o:=by
 cases o with
 | none=>trivial
 | dead=>trivial
 | lent=>trivial
 | row t em ver xs =>
  have hlive:(s.o id).live:=by rw [ho];trivial
  have hs1:Same w w' (ι id).F:=h.same.mono fun b o hf=>.inr ⟨id,hlive,(hl hlive).1,(hl hlive).2,hf⟩
  rcases hs with hs | ⟨a,h1,h2⟩
  ·exact .inl hs
  ·refine .inr ⟨a,h1,h2.spot,h2.cap,fun j hj=>hs1.wrR (h2.inF j hj) (h2.wr j hj),h2.inF,?_⟩
   obtain ⟨G,g1,g2,g3⟩:=h2.row
   have hle:xs.length*t.size≤(ι id).cap*t.size:=Nat.mul_le_mul_right _ h2.cap
   exact⟨G,g1.imp (fun y vs G' hG hr=>Ty.Rep.mono h.zsub _ _ (fun _ _ h=>h) (Ty.Rep.same (h.same.mono fun b o hz=>.inl hz) _ _ (hs1.mono fun b o hg=>g3 b o (hG b o hg)) hr)) (fun j hj=>(hs1 _ _ (h2.inF j (by omega))).1),g2,g3⟩
 | var ver cs =>
  have hlive:(s.o id).live:=by rw [ho];trivial
  have hs1:Same w w' (ι id).F:=h.same.mono fun b o hf=>.inr ⟨id,hlive,(hl hlive).1,(hl hlive).2,hf⟩
  obtain ⟨a,vs,h1,h2,h3,h4,h5⟩:=hs
  exact⟨a,vs,h1,h2,h3.move h,hs1.cellsAt (fun i hi=>(h5 i (by rw [← h3.len];exact hi)).2) h4,fun j hj=>⟨hs1.writable (h5 j hj).2 (h5 j hj).1,(h5 j hj).2⟩⟩
end
end Go.LM
namespace Go.LM
section
variable{w0:World}{F0 Z0:Reg}{n:Frm}{s s':St}{a a':Act}{w w':World}{ι ι':Nat→OI}{Z Z':Reg}
theorem Inv.next(h:Inv w0 F0 Z0 n s a w ι Z)(hm:Moves w Z s ι w' Z' s' ι'){S:Reg}(hx:Ext w w' S)
  (hS:∀b o,S b o→F0 b o∨w0.heap.size≤b)
  (hz:∀b o,Z' b o→Z b o∨((F0 b o∨w0.heap.size≤b)∧b<w'.heap.size))
  (ho:∀id,(s'.o id).live→¬(s'.o id=s.o id ∧ ι' id = ι id)→ObjRep w' Z' s' ι' (ι' id) (s'.o id) ∧
   (∀b o,(ι' id).F b o→(F0 b o∨w0.heap.size≤b)∧b<w'.heap.size)∧(∀id',(s'.o id').live→id≠id'→Reg.apart (ι' id).F (ι' id').F))
  (hzz:∀id,(s'.o id).live→Reg.apart (ι' id).F Z')
  (ht:∀k,TVRep w' Z' s' ι' (s'.t k) (a'.tmps.getD k undef))
  (hn:a'.tmps.size=n) (hd:a'.defers=[]) (hgg:s'.g=s.g:=by rfl):Inv w0 F0 Z0 n s' a' w' ι' Z':=by
 have hsz:=hx.size
 refine⟨?_,?_,?_,?_,?_,?_,?_,hzz,ht,hn,by rw [hgg];exact TVsRep.move hm h.ghost,fun e he=>(h.seen e he).move hm,hd⟩
 ·refine h.ext.trans' hx hS
 ·intro b o hb
  rcases hz b o hb with h1 | h1
  ·exact h.zsub b o h1
  ·exact .inr h1.1
 ·exact fun b o hb=>hm.zsub b o (h.zold b o hb)
 ·intro b o hb
  rcases hz b o hb with h1 | h1
  ·exact Nat.lt_of_lt_of_le (h.zin b o h1) hsz
  ·exact h1.2
 ·intro id
  by_cases hl:(s'.o id).live
  ·by_cases hst:s'.o id=s.o id ∧ ι' id = ι id
   ·have:=ObjRep.move hm (id:=id) (fun _=>hst) rfl (h.objs id)
    rw [hst.2,hst.1];exact this
   ·exact(ho id hl hst).1
  ·cases hh:s'.o id with
   | none=>trivial
   | dead=>trivial
   | lent=>trivial
   | row=>rw [hh] at hl;exact absurd trivial hl
   | var=>rw [hh] at hl;exact absurd trivial hl
 ·intro id hl b o hf
  by_cases hst:s'.o id=s.o id ∧ ι' id = ι id
  ·rw [hst.2] at hf
   have:=h.own id (hst.1 ▸ hl) b o hf
   exact⟨this.1,Nat.lt_of_lt_of_le this.2 hsz⟩
  ·exact(ho id hl hst).2.1 b o hf
 ·intro id id' hl hl' hne
  by_cases hst:s'.o id=s.o id ∧ ι' id = ι id
  ·by_cases hst':s'.o id'=s.o id' ∧ ι' id' = ι id'
   ·rw [hst.2,hst'.2];exact h.apart id id' (hst.1 ▸ hl) (hst'.1 ▸ hl') hne
   ·exact fun b o h1 h2=>(ho id' hl' hst').2.2 id hl (Ne.symm hne) b o h2 h1
  ·exact(ho id hl hst).2.2 id' hl' hne
theorem Same.of_ext{S T:Reg}(hx:Ext w w' S)(hT:∀b o,T b o→b<w.heap.size)(ha:Reg.apart T S):Same w w' T :=
 fun b o ht=>⟨hx.cell (hT b o ht) (fun hs=>ha b o ht hs),hx.frozen (hT b o ht)⟩
theorem Inv.kept_in(h:Inv w0 F0 Z0 n s a w ι Z):∀b o,keptCells s ι s' ι' Z b o→b<w.heap.size:=by
 rintro b o (hz | ⟨id,hl,_,_,hf⟩)
 ·exact h.zin b o hz
 ·exact(h.own id hl b o hf).2
theorem upd_ne{α : Type}{f:Nat → α}{i j:Nat}{v : α}(h:i≠j):upd f i v j=f j:=upd_other (Ne.symm h)
theorem Inv.tmp(h:Inv w0 F0 Z0 n s a w ι Z)(ho:s'.o=s.o)(ht:∀k,TVRep w Z s' ι (s'.t k) (a'.tmps.getD k undef))
  (hn:a'.tmps.size=n) (hd:a'.defers=[]) (hgg:s'.g=s.g:=by rfl):Inv w0 F0 Z0 n s' a' w ι Z:=by
 refine h.next (S:=Reg.none) ⟨fun id=>by rw [ho];exact .stay _ _,fun _ _ h=>h,Same.refl _ _⟩ (Ext.refl _ _) (fun _ _ h=>h.elim) (fun _ _ h=>.inl h) ?_ ?_ ht hn hd hgg
 ·intro id _ hne;exact absurd ⟨by rw [ho],rfl⟩ hne
 ·intro id hl;exact h.apartZ id (by rwa [ho] at hl)
theorem moves_tmp(ho:s'.o=s.o):Moves w Z s ι w Z s' ι :=⟨fun id=>by rw [ho];exact .stay _ _,fun _ _ h=>h,Same.refl _ _⟩
theorem getD_put(t:Array Value)(d k:Nat)(u:Value)(hd:d<t.size):(t.setIfInBounds d u).getD k undef=if d=k then u else t.getD k undef:=by
 simp only [Array.getD_eq_getD_getElem?,Array.getElem?_setIfInBounds]
 by_cases hk:d=k
 ·subst hk;simp [hd]
 ·simp [hk]
theorem Inv.set(h:Inv w0 F0 Z0 n s a w ι Z){d:Nat}{v:TV}{u:Value}(hv:TVRep w Z s ι v u)(hd:d<n) :
  Inv w0 F0 Z0 n (s.set d v) (a.put (some d) u) w ι Z:=by
 have hm:Moves w Z s ι w Z (s.set d v) ι := moves_tmp rfl
 refine h.tmp rfl (fun k=>?_) (by simpa [Act.put] using h.size) (by simpa [Act.put] using h.defers)
 show TVRep w Z (s.set d v) ι (upd s.t d v k) ((a.tmps.setIfInBounds d u).getD k undef)
 rw [getD_put _ _ _ _ (by rw [h.size];exact hd)]
 by_cases hk:d=k
 ·subst hk;rw [upd_same,if_pos rfl];exact hv.move hm
 ·rw [upd_ne hk,if_neg hk];exact(h.tmps k).move hm
theorem Inv.dst(h:Inv w0 F0 Z0 n s a w ι Z){d:Option Nat}{v:TV}{u:Value}(hv:TVRep w Z s ι v u)(hd:∀k,d=some k→k<n) :
  Inv w0 F0 Z0 n (s.dst d v) (a.put d u) w ι Z:=by
 cases d with
 | none=>exact h
 | some d=>exact h.set hv (hd d rfl)
theorem Inv.world(h:Inv w0 F0 Z0 n s a w ι Z)(hx:Ext w w' Reg.none):Inv w0 F0 Z0 n s a w' ι Z:=by
 have hm:Moves w Z s ι w' Z s ι :=⟨fun id=>.stay _ _,fun _ _ h=>h,Same.of_ext hx h.kept_in (fun _ _ _ h=>h)⟩
 refine h.next hm hx (fun _ _ h=>h.elim) (fun _ _ h=>.inl h) ?_ h.apartZ (fun k=>(h.tmps k).move hm) h.size h.defers
 intro id _ hne;exact absurd ⟨rfl,rfl⟩ hne
theorem Inv.drew(h:Inv w0 F0 Z0 n s a w ι Z)(m:Nat):Inv w0 F0 Z0 n s a { w with drawn:=m } ι Z:=h.world (Ext.drew _ _ _)
theorem moves_new(h:Inv w0 F0 Z0 n s a w ι Z){id:Nat}(hid:s.o id=.none)(hx:Ext w w' Reg.none)(o:LObj)(i:OI) :
  Moves w Z s ι w' Z (s.putO id o) (upd ι id i):=by
 refine⟨fun j=>?_,fun _ _ h=>h,Same.of_ext hx h.kept_in (fun _ _ _ h=>h)⟩
 show Turn (s.o j) (ι j) (upd s.o id o j) (upd ι id i j)
 by_cases hj:id=j
 ·subst hj;rw [hid];exact .made _ _ _
 ·rw [upd_ne hj,upd_ne hj];exact .stay _ _
theorem Inv.new(h:Inv w0 F0 Z0 n s a w ι Z){id:Nat}(hid:s.o id=.none)(hx:Ext w w' Reg.none){o:LObj}{i:OI}
  (hrep:ObjRep w' Z (s.putO id o) (upd ι id i) i o) (hF:∀b o,i.F b o→w.heap.size≤b∧b<w'.heap.size) :
  Inv w0 F0 Z0 n (s.putO id o) a w' (upd ι id i) Z:=by
 have hm:=moves_new h hid hx o i
 have hsz:=h.ext.size
 refine h.next hm hx (fun _ _ h=>h.elim) (fun _ _ h=>.inl h) ?_ ?_ (fun k=>(h.tmps k).move hm) h.size h.defers
 ·intro j hl hne
  by_cases hj:id=j
  ·subst hj
   rw [upd_same]
   refine⟨by show ObjRep _ _ _ _ _ (upd s.o id o id);rw [upd_same];exact hrep,fun b o hf=>⟨.inr (by have:=(hF b o hf).1;omega),(hF b o hf).2⟩,fun j' hl' hne' b o h1 h2=>?_⟩
   rw [upd_ne hne'] at h2
   have hl2:(s.o j').live:=by
    have:(upd s.o id _ j').live:=hl'
    rwa [upd_ne hne'] at this
   have:=(h.own j' hl2 b o h2).2
   have:=(hF b o h1).1
   omega
  ·exact absurd ⟨upd_ne hj,upd_ne hj⟩ hne
 ·intro j hl b o h1 h2
  by_cases hj:id=j
  ·subst hj
   rw [upd_same] at h1
   have:=(hF b o h1).1
   have:=h.zin b o h2
   omega
  ·rw [upd_ne hj] at h1
   have hl2:(s.o j).live:=by
    have:(upd s.o id _ j).live:=hl
    rwa [upd_ne hj] at this
   exact h.apartZ j hl2 b o h1 h2
theorem live_dead{id j:Nat}(hl:((s.putO id .dead).o j).live):id≠j∧(s.o j).live:=by
 have h:(upd s.o id LObj.dead j).live:=hl
 by_cases hj:id=j
 ·subst hj;rw [upd_same] at h;exact h.elim
 ·rw [upd_ne hj] at h;exact⟨hj,h⟩
theorem moves_dead(h:Inv w0 F0 Z0 n s a w ι Z)(id:Nat)(hZ:Reg.sub Z Z'):Moves w Z s ι w Z' (s.putO id .dead) ι := by
 refine⟨fun j=>?_,hZ,Same.refl _ _⟩
 show Turn (s.o j) (ι j) (upd s.o id LObj.dead j) (ι j)
 by_cases hj:id=j
 ·subst hj;rw [upd_same];exact .dead _ _ _
 ·rw [upd_ne hj];exact .stay _ _
theorem Inv.take(h:Inv w0 F0 Z0 n s a w ι Z)(id:Nat)(hZ:Reg.sub Z Z')(hz:∀b o,Z' b o→Z b o∨((s.o id).live∧(ι id).F b o)) :
  Inv w0 F0 Z0 n (s.putO id .dead) a w ι Z':=by
 have hm:=moves_dead h id hZ
 refine h.next hm (Ext.refl _ Reg.none) (fun _ _ h=>h.elim) ?_ ?_ ?_ (fun k=>(h.tmps k).move hm) h.size h.defers
 ·intro b o hb
  rcases hz b o hb with h1 | ⟨h1,h2⟩
  ·exact .inl h1
  ·exact .inr (h.own id h1 b o h2)
 ·intro j hl hne
  obtain ⟨hj,hl2⟩:=live_dead hl
  exact absurd ⟨upd_ne hj,rfl⟩ hne
 ·intro j hl b o h1 h2
  obtain ⟨hj,hl2⟩:=live_dead hl
  rcases hz b o h2 with h3 | ⟨h3,h4⟩
  ·exact h.apartZ j hl2 b o h1 h3
  ·exact h.apart id j h3 hl2 hj b o h4 h1
end
end Go.LM
namespace Go.LM
theorem Row.drop{α : Type}{w:World}{R : α → List Value→Reg→Prop}{size:Nat} : ∀(k:Nat) {x:List α} {b o:Nat} {F:Reg},Row w R size x b o F→Row w R size (x.drop k) b (o+k*size) F
 | 0,x,b,o,F,h=>by simpa using h
 | k+1,[],b,o,F,h=>trivial
 | k+1,y :: x,b,o,F,⟨vs,G,H,h1,h2,h3,h4,h5,h6,h7⟩=>by
  have:=Row.drop k h4
  rw [show o+size+k*size=o +(k+1)*size by rw [Nat.add_one_mul];omega] at this
  exact this.mono h7
theorem Row.take{α : Type}{w:World}{R : α → List Value→Reg→Prop}{size:Nat} : ∀(k:Nat) {x:List α} {b o:Nat} {F:Reg},Row w R size x b o F→Row w R size (x.take k) b o F
 | 0,x,b,o,F,h=>by rw [List.take_zero];trivial
 | k+1,[],b,o,F,h=>trivial
 | k+1,y :: x,b,o,F,⟨vs,G,H,h1,h2,h3,h4,h5,h6,h7⟩=>⟨vs,G,H,h1,h2,h3,Row.take k h4,h5,h6,h7⟩
theorem castD_sl{u t:Ty}{xs:List u.D}{x:List t.D}(h:castD (.sl u) (.sl t) xs=some x):∃e:u=t,x=e ▸ xs:=by
 obtain ⟨e,hx⟩:=castD_some h
 injection e with e
 subst e
 exact⟨rfl,hx⟩
section
variable{w0:World}{F0 Z0:Reg}{n:Frm}{s s':St}{a:Act}{w:World}{ι : Nat→OI}{Z Z':Reg}
structure Free(w0:World)(F0:Reg)(s:St)(w:World)(ι : Nat→OI)(Z F:Reg):Prop where
 own:∀b o,F b o→(F0 b o∨w0.heap.size≤b)∧b<w.heap.size
 apart:∀id,(s.o id).live→Reg.apart F (ι id).F
 apartZ:Reg.apart F Z
theorem Free.none:Free w0 F0 s w ι Z Reg.none:=⟨fun _ _ h=>h.elim,fun _ _ _ _ h=>h.elim,fun _ _ h=>h.elim⟩
structure Shrinks(s:St)(ι : Nat→OI)(Z:Reg)(s':St)(Z':Reg):Prop where
 o:∀id,s'.o id=s.o id∨((s.o id).live∧s'.o id=.dead)
 t:s'.t=s.t
 g:s'.g=s.g
 zsub:Reg.sub Z Z'
 znew:∀b o,Z' b o→Z b o∨∃id,(s.o id).live∧s'.o id=.dead∧(ι id).F b o
theorem Shrinks.refl:Shrinks s ι Z s Z:=⟨fun _=>.inl rfl,rfl,rfl,fun _ _ h=>h,fun _ _ h=>.inl h⟩
theorem Shrinks.trans{s2:St}{Z2:Reg}(h:Shrinks s ι Z s' Z')(k:Shrinks s' ι Z' s2 Z2):Shrinks s ι Z s2 Z2:=by
 refine⟨fun id=>?_,k.t.trans h.t,k.g.trans h.g,fun b o hz=>k.zsub b o (h.zsub b o hz),fun b o hz=>?_⟩
 ·rcases k.o id with h1 | ⟨h0,h1⟩
  ·rw [h1];exact h.o id
  ·rcases h.o id with h2 | ⟨_,h2⟩
   ·exact .inr ⟨h2 ▸ h0,h1⟩
   ·rw [h2] at h0;exact h0.elim
 ·rcases k.znew b o hz with h1 | ⟨id,h1,h2,h3⟩
  ·rcases h.znew b o h1 with h1 | ⟨id,h1,h2,h3⟩
   ·exact .inl h1
   ·refine .inr ⟨id,h1,?_,h3⟩
    rcases k.o id with h4 | ⟨_,h4⟩
    ·rw [h4,h2]
    ·exact h4
  ·rcases h.o id with h4 | ⟨_,h4⟩
   ·exact .inr ⟨id,h4 ▸ h1,h2,h3⟩
   ·rw [h4] at h1;exact h1.elim
theorem Shrinks.moves(h:Shrinks s ι Z s' Z'):Moves w Z s ι w Z' s' ι := by
 refine⟨fun id=>?_,h.zsub,Same.refl _ _⟩
 rcases h.o id with h1 | ⟨_,h1⟩
 ·rw [h1];exact .stay _ _
 ·rw [h1];exact .dead _ _ _
theorem Shrinks.live(h:Shrinks s ι Z s' Z'){id:Nat}(hl:(s'.o id).live):(s.o id).live∧s'.o id=s.o id:=by
 rcases h.o id with h1 | ⟨_,h1⟩
 ·exact⟨h1 ▸ hl,h1⟩
 ·rw [h1] at hl;exact hl.elim
theorem Free.shrink{F:Reg}(hf:Free w0 F0 s w ι Z F)(h:Shrinks s ι Z s' Z'):Free w0 F0 s' w ι Z' F:=by
 refine⟨hf.own,fun id hl=>hf.apart id (h.live hl).1,fun b o h1 h2=>?_⟩
 rcases h.znew b o h2 with h3 | ⟨id,h3,_,h4⟩
 ·exact hf.apartZ b o h1 h3
 ·exact hf.apart id h3 b o h1 h4
theorem Free.or{F G:Reg}(hf:Free w0 F0 s w ι Z F)(hg:Free w0 F0 s w ι Z G):Free w0 F0 s w ι Z (F.or G) :=
 ⟨fun b o h=>h.elim (hf.own b o) (hg.own b o),fun id hl b o h=>h.elim (hf.apart id hl b o) (hg.apart id hl b o),fun b o h=>h.elim (hf.apartZ b o) (hg.apartZ b o)⟩
theorem Inv.freed(h:Inv w0 F0 Z0 n s a w ι Z){id:Nat}(hl:(s.o id).live):Free w0 F0 (s.putO id .dead) w ι Z (ι id).F :=
 ⟨h.own id hl,fun j hj=>by obtain ⟨h1,h2⟩:=live_dead hj;exact h.apart id j hl h2 h1,h.apartZ id hl⟩
theorem shrinks_take(id:Nat)(hl:(s.o id).live):Shrinks s ι Z (s.putO id .dead) Z:=by
 refine⟨fun j=>?_,rfl,rfl,fun _ _ h=>h,fun _ _ h=>.inl h⟩
 by_cases hj:id=j
 ·subst hj;exact .inr ⟨hl,upd_same _ _ _⟩
 ·exact .inl (upd_ne hj)
theorem shrinks_freeze(h:Inv w0 F0 Z0 n s a w ι Z){id:Nat}(hl:(s.o id).live):Shrinks s ι Z (s.putO id .dead) (Z.or (ι id).F):=by
 refine⟨fun j=>?_,rfl,rfl,fun _ _ h=>.inl h,fun b o hz=>?_⟩
 ·by_cases hj:id=j
  ·subst hj;exact .inr ⟨hl,upd_same _ _ _⟩
  ·exact .inl (upd_ne hj)
 ·rcases hz with h1 | h1
  ·exact .inl h1
  ·exact .inr ⟨id,hl,upd_same _ _ _,h1⟩
theorem header_own{i:OI}{t:Ty}{em:Md}{xs:List t.D}{sub:Option (Nat×Nat)}{A:Option Addr}{m c:Nat}{ver:Nat}
  (ho:ObjRep w Z s ι i (.row t em ver xs)) (hh:HdRep i t.size sub xs.length A m c) :
  (Ty.sl t).Rep w Z (.O em) (subL sub xs) [.slice A m c] i.F:=by
 obtain ⟨hn,hfit,hle,hcap,hat⟩:=hh
 have hlen:(subL sub xs).length=m:=by
  cases sub with
  | none=>simp [subL,hn]
  | some p=>obtain ⟨lo,k⟩:=p;simp only [subL,part,List.length_take,List.length_drop,subLo] at *;omega
 simp only [Ty.Rep]
 refine⟨A,c,by rw [hlen],?_⟩
 rcases hat with h0 | ⟨a0,hb,hA⟩
 ·exact .inl ⟨List.eq_nil_of_length_eq_zero (by omega),h0⟩
 ·rcases ho with⟨hx,h0⟩ | ⟨a0',hb',hr⟩
  ·refine .inl ⟨List.eq_nil_of_length_eq_zero (by omega),by omega⟩
  ·rw [hb] at hb'
   obtain rfl:=osj hb'
   refine .inr ⟨_,hA,rfl,by rw [hlen];exact hle,fun j hj=>?_,fun j hj=>?_,?_⟩
   ·have:=hr.wr (subLo sub*t.size+j) (by
     have:(subLo sub+c)*t.size≤i.cap*t.size:=Nat.mul_le_mul_right _ hcap
     rw [Nat.add_mul] at this;omega)
    rwa [← Nat.add_assoc] at this
   ·have:=hr.inF (subLo sub*t.size+j) (by
     have:(subLo sub+c)*t.size≤i.cap*t.size:=Nat.mul_le_mul_right _ hcap
     rw [Nat.add_mul] at this;omega)
    rwa [← Nat.add_assoc] at this
   ·obtain ⟨G,g1,g2,g3⟩:=hr.row
    refine⟨G,?_,fun j hj=>?_,g3⟩
    ·cases sub with
     | none=>simpa [subL,subLo] using g1
     | some p=>obtain ⟨lo,k⟩:=p;exact(g1.drop lo).take k
    ·have:=g2 (subLo sub*t.size+j) (by
      have:(subLo sub+c)*t.size≤i.cap*t.size:=Nat.mul_le_mul_right _ hcap
      rw [Nat.add_mul] at this;omega)
     rwa [← Nat.add_assoc] at this
theorem listOf_sound{t:Ty}{c:HC}{xs:List t.D}{v:Value}(h:Inv w0 F0 Z0 n s a w ι Z)(hl:listOf s t c=some xs)(hc:CellRep w Z s ι c v) :
  (Ty.sl t).Rep w (Z.or (depF ι (borrows s c))) .R xs [v] Reg.none∧alive s (borrows s c)=true∧∀d,d∈borrows s c→okDep s d:=by
 cases c with
 | nil u =>
  obtain ⟨e,rfl⟩:=castD_sl hl
  subst e
  have hv:v=.slice none 0 0:=hc
  subst hv
  refine⟨?_,rfl,by simp [borrows]⟩
  simp only [Ty.Rep]
  exact⟨none,0,rfl,.inl trivial⟩
 | lst u dp og ys =>
  simp only [listOf] at hl
  obtain ⟨h1,h2,h3⟩:=hc
  cases ha:alive s dp with
  | false=>rw [ha] at hl;simp at hl
  | true =>
   rw [ha] at hl
   obtain ⟨e,rfl⟩:=castD_sl hl
   subst e
   exact⟨h3.1 ha,ha,h1⟩
 | hd id sub =>
  simp only [listOf] at hl
  obtain ⟨h1,A,m,k,rfl,h2⟩:=hc
  cases ho:s.o id with
  | row u em ver ys =>
   rw [ho] at hl
   obtain ⟨e,rfl⟩:=castD_sl hl
   subst e
   have hb:borrows s (.hd id sub)=[(id,ver)]:=by simp only [borrows,ho]
   rw [hb]
   refine⟨?_,?_,?_⟩
   ·have hobj:=h.objs id
    rw [ho] at hobj
    refine Ty.Rep.read (fun _ _ h=>.inl h) _ _ (fun b o hf=>.inr ⟨(id,ver),by simp,hf⟩) (header_own hobj (h2 u em ver ys (core_row ho)))
   ·simp [alive,ho]
   ·intro d hd
    simp at hd
    subst hd
    exact⟨h1,.inr (by simp [verOf,ho])⟩
  | _=>rw [ho] at hl;simp at hl
 | _=>simp [listOf] at hl
theorem depF_append(ι : Nat→OI)(nb bs:List (Nat×Nat)):Reg.sub (depF ι bs) (depF ι (nb++bs)) :=
 fun b o ⟨d,h1,h2⟩=>⟨d,List.mem_append.2 (.inr h1),h2⟩
def ImpRes(w0:World)(F0 Z0:Reg)(n:Frm)(s:St)(a:Act)(w:World)(ι : Nat→OI)(Z:Reg)(b:Bool)(R:Reg→List Value→Reg→Prop)(vs:List Value)
  (cs':List HC) (s':St) (bs bs':List (Nat×Nat)):Prop :=
 ∃us vs' F Z',vs=us++vs'∧Inv w0 F0 Z0 n s' a w ι Z'∧Shrinks s ι Z s' Z'∧CellsRep w Z' s' ι cs' vs'∧Free w0 F0 s' w ι Z' F ∧
  R (Z'.or (depF ι bs')) us F∧(∃nb,bs'=nb++bs)∧(b=false→bs'=bs)∧(∀d,d∈bs'→okDep s' d) ∧
  ∀b o,F b o→∃id,(s.o id).live∧(ι id).F b o
theorem impRes_bare{b:Bool}{R:Reg→List Value→Reg→Prop}{v:Value}{vs':List Value}{cs':List HC}{bs:List (Nat×Nat)}(h:Inv w0 F0 Z0 n s a w ι Z)
  (hc:CellsRep w Z s ι cs' vs') (hb:∀d,d∈bs→okDep s d) (hR:∀Z,R Z [v] Reg.none):ImpRes w0 F0 Z0 n s a w ι Z b R (v :: vs') cs' s bs bs :=
 ⟨[v],vs',Reg.none,Z,rfl,h,.refl,hc,.none,hR _,⟨[],rfl⟩,fun _=>rfl,hb,fun _ _ h=>h.elim⟩
theorem okDep_shrink(h:Shrinks s ι Z s' Z'){d:Nat×Nat}(hd:okDep s d):okDep s' d:=by
 obtain ⟨h1,h2⟩:=hd
 unfold okDep known verOf at *
 rcases h.o d.1 with h3 | ⟨_,h3⟩
 ·rw [h3];exact⟨h1,h2⟩
 ·rw [h3];exact⟨by simp,.inl rfl⟩
theorem own_weaken{t:Ty}{e:Md}{x:List t.D}{vs:List Value}{F:Reg}(h:(Ty.sl t).Rep w Z (.O e) x vs F) :
  ∃F',Reg.sub F' F∧(Ty.sl t).Rep w (Z.or fun b o=>F b o∧¬F' b o) (.O .R) x vs F':=by
 simp only [Ty.Rep] at h ⊢
 obtain ⟨A,c,hv,h⟩:=h
 rcases h with h | ⟨a,hA,hr⟩
 ·exact⟨Reg.none,fun _ _ h=>h.elim,A,c,hv,.inl h⟩
 ·obtain ⟨G,g1,g2,g3⟩:=hr.row
  refine⟨Reg.run a.block a.off (c*t.size),?_,A,c,hv,.inr ⟨a,hA,hr.spot,hr.cap,hr.wr,fun j hj=>⟨rfl,by omega,by omega⟩,Reg.none,?_,fun _ _ h=>h,fun _ _ h=>h.elim⟩⟩
  ·rintro b o ⟨rfl,h1,h2⟩
   have:=hr.inF (o-a.off) (by omega)
   rwa [show a.off +(o-a.off)=o by omega] at this
  ·refine g1.bare fun y us G' hG hy=>Ty.Rep.read (fun _ _ h=>.inl h) _ _ (fun b o hg=>.inr ⟨g3 b o (hG b o hg),?_⟩) hy
   rintro ⟨rfl,h1,h2⟩
   have:=g2 (o-a.off) (by omega)
   rw [show a.off +(o-a.off)=o by omega] at this
   exact this (hG _ o hg)
theorem sl_imp(t:Ty)(b:Bool)(m:Md)(c:HC)(cs:List HC)(s:St)(bs:List (Nat×Nat))(r:List t.D×List HC×St×List (Nat×Nat))(v:Value)(vs:List Value)(Z:Reg)
  (hi:(Ty.sl t).imp b m (c :: cs) s bs=some r) (h:Inv w0 F0 Z0 n s a w ι Z) (hc:CellsRep w Z s ι (c :: cs) (v :: vs)) (hb:∀d,d∈bs→okDep s d) :
  ImpRes w0 F0 Z0 n s a w ι Z b (fun Z us F=>(Ty.sl t).Rep w Z m r.1 us F) (v :: vs) r.2.1 r.2.2.1 bs r.2.2.2:=by
 have hnil:∀ {Z m},v=.slice none 0 0→(Ty.sl t).Rep w Z m ([]:List t.D) [v] Reg.none:=by
  intro Z m hv;subst hv
  cases m <;> simp only [Ty.Rep] <;> exact⟨none,0,rfl,.inl (by simp)⟩
 have frozen:∀(m:Md),m=.R∨(∃ms,m=.S ms)→(Ty.sl t).imp b m (c :: cs) s bs=some r →
   ImpRes w0 F0 Z0 n s a w ι Z b (fun Z us F=>(Ty.sl t).Rep w Z m r.1 us F) (v :: vs) r.2.1 r.2.2.1 bs r.2.2.2:=by
  intro m hm hi
  have hRS:∀ {Z:Reg} {x:List t.D} {us:List Value},(Ty.sl t).Rep w Z .R x us Reg.none→(Ty.sl t).Rep w Z m x us Reg.none:=by
   rcases hm with rfl | ⟨ms,rfl⟩
   ·exact fun h=>h
   ·intro Z x us h;simpa only [Ty.Rep] using h
  cases b with
  | true =>
   have hi':(listOf s t c).bind (fun x=>some (x,cs,s,borrows s c++bs))=some r:=by
    rcases hm with rfl | ⟨ms,rfl⟩ <;> simpa only [Ty.imp] using hi
   obtain ⟨x,hx,hi'⟩:=obi hi'
   obtain rfl:=osj hi'
   obtain ⟨p1,p2,p3⟩:=listOf_sound h hx hc.1
   refine⟨[v],vs,Reg.none,Z,rfl,h,.refl,hc.2,.none,hRS (Ty.Rep.mono ?_ _ _ (fun _ _ h=>h) p1),⟨_,rfl⟩,fun hf=>by simp at hf,?_,fun _ _ h=>h.elim⟩
   ·rintro b o (hz | ⟨d,hd,hf⟩)
    ·exact .inl hz
    ·exact .inr ⟨d,List.mem_append.2 (.inl hd),hf⟩
   ·intro d hd
    rcases List.mem_append.1 hd with hd | hd
    ·exact p3 d hd
    ·exact hb d hd
  | false =>
   cases c with
   | nil u =>
    have hi':(castD (.sl u) (.sl t) ([]:List u.D)).bind (fun x=>some (x,cs,s,bs))=some r:=by
     rcases hm with rfl | ⟨ms,rfl⟩ <;> simpa only [Ty.imp] using hi
    obtain ⟨x,hx,hi'⟩:=obi hi'
    obtain rfl:=osj hi'
    obtain ⟨e,rfl⟩:=castD_sl hx
    subst e
    exact impRes_bare h hc.2 hb fun Z=>hnil hc.1
   | lst u dp og xs =>
    cases dp with
    | cons d dp=>rcases hm with rfl | ⟨ms,rfl⟩ <;> simp [Ty.imp] at hi
    | nil =>
     have hi':(castD (.sl u) (.sl t) xs).bind (fun x=>some (x,cs,s,bs))=some r:=by
      rcases hm with rfl | ⟨ms,rfl⟩ <;> simpa only [Ty.imp] using hi
     obtain ⟨x,hx,hi'⟩:=obi hi'
     obtain rfl:=osj hi'
     obtain ⟨e,rfl⟩:=castD_sl hx
     subst e
     have p:=hc.1.2.2.1 rfl
     refine⟨[v],vs,Reg.none,Z,rfl,h,.refl,hc.2,.none,hRS (Ty.Rep.mono ?_ _ _ (fun _ _ h=>h) p),⟨[],rfl⟩,fun _=>rfl,hb,fun _ _ h=>h.elim⟩
     rintro b o (hz | ⟨d,hd,hf⟩)
     ·exact .inl hz
     ·simp at hd
   | hd id sub =>
    cases ho:s.o id with
    | row u em ver xs =>
     have hi':(castD (.sl u) (.sl t) (subL sub xs)).bind (fun x=>some (x,cs,s.putO id .dead,bs))=some r:=by
      rcases hm with rfl | ⟨ms,rfl⟩ <;> simpa only [Ty.imp,ho] using hi
     obtain ⟨x,hx,hi'⟩:=obi hi'
     obtain rfl:=osj hi'
     obtain ⟨e,rfl⟩:=castD_sl hx
     subst e
     have hl:(s.o id).live:=by rw [ho];trivial
     obtain ⟨hk,A,m',k,rfl,hh⟩:=hc.1
     have hobj:=h.objs id
     rw [ho] at hobj
     have p:=header_own hobj (hh u em ver xs (core_row ho))
     have hsh:=shrinks_freeze h hl
     refine⟨[_],vs,Reg.none,Z.or (ι id).F,rfl,h.take id (fun _ _ h=>.inl h) (fun b o hz=>hz.imp (fun h=>h) fun h=>⟨hl,h⟩),hsh,hc.2.move hsh.moves,.none,hRS ?_,⟨[],rfl⟩,fun _=>rfl,fun d hd=>okDep_shrink hsh (hb d hd),fun _ _ h=>h.elim⟩
     exact Ty.Rep.read (fun _ _ h=>.inl (.inl h)) _ _ (fun b o hf=>.inl (.inr hf)) p
    | _=>rcases hm with rfl | ⟨ms,rfl⟩ <;> simp [Ty.imp,ho] at hi
   | _=>rcases hm with rfl | ⟨ms,rfl⟩ <;> simp [Ty.imp] at hi
 cases m with
 | R=>exact frozen _ (.inl rfl) hi
 | S ms=>exact frozen _ (.inr ⟨ms,rfl⟩) hi
 | O e =>
  cases c with
  | nil u =>
   have hi':(castD (.sl u) (.sl t) ([]:List u.D)).bind (fun x=>some (x,cs,s,bs))=some r:=by
    cases b <;> simpa only [Ty.imp] using hi
   obtain ⟨x,hx,hi'⟩:=obi hi'
   obtain rfl:=osj hi'
   obtain ⟨e,rfl⟩:=castD_sl hx
   subst e
   exact impRes_bare h hc.2 hb fun Z=>hnil hc.1
  | hd id sub =>
   cases ho:s.o id with
   | row u em ver xs =>
    have hi':(if Md.le em e=true then(castD (.sl u) (.sl t) (subL sub xs)).bind (fun x=>some (x,cs,s.putO id .dead,bs)) else none)=some r:=by
     cases b <;>(simp only [Ty.imp,ho] at hi;rw [← hi];cases Md.le em e <;> rfl)
    split at hi'
    case isFalse=>simp at hi'
    rename_i hle
    obtain ⟨x,hx,hi'⟩:=obi hi'
    obtain rfl:=osj hi'
    obtain ⟨e',rfl⟩:=castD_sl hx
    subst e'
    have hl:(s.o id).live:=by rw [ho];trivial
    obtain ⟨hk,A,m',k,rfl,hh⟩:=hc.1
    have hobj:=h.objs id
    rw [ho] at hobj
    have p:=header_own hobj (hh u em ver xs (core_row ho))
    have hfree:=h.freed hl
    by_cases hee:em=e
    ·subst hee
     have hsh:Shrinks s ι Z (s.putO id .dead) Z:=shrinks_take id (by rw [ho];trivial)
     exact⟨[_],vs,(ι id).F,Z,rfl,h.take id (fun _ _ h=>h) (fun b o hz=>.inl hz),hsh,hc.2.move hsh.moves,hfree,
      Ty.Rep.mono (fun _ _ h=>.inl h) _ _ (fun _ _ h=>h) p,⟨[],rfl⟩,fun _=>rfl,fun d hd=>okDep_shrink hsh (hb d hd),fun b o hf=>⟨id,hl,hf⟩⟩
    ·have heR:e=.R:=by
      cases e with
      | R=>rfl
      | O e=>exact absurd (Md.eq_of_beq _ _ hle) hee
      | S e=>exact absurd (Md.eq_of_beq _ _ hle) hee
     subst heR
     obtain ⟨F',q1,q2⟩:=own_weaken p
     have hsh:Shrinks s ι Z (s.putO id .dead) (Z.or fun b o=>(ι id).F b o∧¬F' b o):=by
      have h0:=shrinks_freeze h hl
      refine⟨h0.o,h0.t,h0.g,fun _ _ h=>.inl h,fun b o hz=>?_⟩
      rcases hz with h1 | h1
      ·exact .inl h1
      ·exact .inr ⟨id,hl,upd_same _ _ _,h1.1⟩
     refine⟨[_],vs,F',_,rfl,h.take id (fun _ _ h=>.inl h) (fun b o hz=>hz.imp (fun h=>h) fun h=>⟨hl,h.1⟩),hsh,hc.2.move hsh.moves,⟨fun b o hf=>hfree.own b o (q1 b o hf),fun j hj b o hf=>hfree.apart j hj b o (q1 b o hf),?_⟩,
      Ty.Rep.mono (fun _ _ h=>.inl h) _ _ (fun _ _ h=>h) q2,⟨[],rfl⟩,fun _=>rfl,fun d hd=>okDep_shrink hsh (hb d hd),fun b o hf=>⟨id,hl,q1 b o hf⟩⟩
     rintro b o hf (hz | hz)
     ·exact hfree.apartZ b o (q1 b o hf) hz
     ·exact hz.2 hf
   | _=>cases b <;> simp [Ty.imp,ho] at hi
  | _=>cases b <;> simp [Ty.imp] at hi
mutual
theorem Ty.imp_sound:∀(t:Ty) (b:Bool) (m:Md) (cs:List HC) (s:St) (bs:List (Nat×Nat)) (r:t.D×List HC×St×List (Nat×Nat)) (vs:List Value) (Z:Reg),
  t.imp b m cs s bs=some r→Inv w0 F0 Z0 n s a w ι Z→CellsRep w Z s ι cs vs→(∀d,d∈bs→okDep s d) →
  ImpRes w0 F0 Z0 n s a w ι Z b (fun Z us F=>t.Rep w Z m r.1 us F) vs r.2.1 r.2.2.1 bs r.2.2.2
 | .int k,b,m,cs,s,bs,r,vs,Z,hi,h,hc,hb=>by
  cases cs with
  | nil=>cases m <;> simp [Ty.imp] at hi
  | cons c cs =>
   cases vs with
   | nil=>exact hc.elim
   | cons v vs =>
    cases c <;> simp only [Ty.imp] at hi <;> try (simp at hi;done)
    rename_i k' x
    cases hk:Nat.beq (kindNo k) (kindNo k')
    ·rw [hk] at hi;simp at hi
    ·rw [hk] at hi
     obtain rfl:=osj hi
     obtain rfl:=kindNo_inj (Nat.eq_of_beq_eq_true hk)
     have hv:v=.int k x:=hc.1
     subst hv
     exact impRes_bare h hc.2 hb fun Z=>by simp only [Ty.Rep]
 | .bool,b,m,cs,s,bs,r,vs,Z,hi,h,hc,hb=>by
  cases cs with
  | nil=>cases m <;> simp [Ty.imp] at hi
  | cons c cs =>
   cases vs with
   | nil=>exact hc.elim
   | cons v vs =>
    cases c <;> simp only [Ty.imp] at hi <;> try (simp at hi;done)
    obtain rfl:=osj hi
    have hv:v=.bool _:=hc.1
    subst hv
    exact impRes_bare h hc.2 hb fun Z=>by simp only [Ty.Rep]
 | .str,b,m,cs,s,bs,r,vs,Z,hi,h,hc,hb=>by
  cases cs with
  | nil=>cases m <;> simp [Ty.imp] at hi
  | cons c cs =>
   cases vs with
   | nil=>exact hc.elim
   | cons v vs =>
    cases c <;> simp only [Ty.imp] at hi <;> try (simp at hi;done)
    obtain rfl:=osj hi
    obtain ⟨q,rfl,hq⟩:=hc.1
    exact impRes_bare h hc.2 hb fun Z=>by simp only [Ty.Rep];exact⟨q,rfl,hq⟩
 | .raw,b,m,cs,s,bs,r,vs,Z,hi,h,hc,hb=>by
  cases cs with
  | nil=>cases m <;> simp [Ty.imp] at hi
  | cons c cs =>
   cases vs with
   | nil=>exact hc.elim
   | cons v vs =>
    cases c <;> simp only [Ty.imp] at hi <;> try (simp at hi;done)
    obtain rfl:=osj hi
    obtain ⟨q,hq⟩:=hc.1
    exact impRes_bare h hc.2 hb fun Z=>by simp only [Ty.Rep];exact⟨by rw [q],hq⟩
 | .sl t,b,m,cs,s,bs,r,vs,Z,hi,h,hc,hb=>by
  cases cs with
  | nil=>cases m <;> cases b <;> simp [Ty.imp] at hi
  | cons c cs =>
   cases vs with
   | nil=>exact hc.elim
   | cons v vs =>
    exact sl_imp t b m c cs s bs r v vs Z hi h hc hb
 | .st ts,b,m,cs,s,bs,r,vs,Z,hi,h,hc,hb=>by
  simp only [Ty.imp] at hi
  have:=Tys.imp_sound ts b m.parts cs s bs r vs Z hi h hc hb
  simpa only [Ty.Rep] using this
theorem Tys.imp_sound:∀(ts:Tys) (b:Bool) (m:Mds) (cs:List HC) (s:St) (bs:List (Nat×Nat)) (r:ts.D×List HC×St×List (Nat×Nat)) (vs:List Value) (Z:Reg),
  ts.imp b m cs s bs=some r→Inv w0 F0 Z0 n s a w ι Z→CellsRep w Z s ι cs vs→(∀d,d∈bs→okDep s d) →
  ImpRes w0 F0 Z0 n s a w ι Z b (fun Z us F=>ts.Rep w Z m r.1 us F) vs r.2.1 r.2.2.1 bs r.2.2.2
 | .nil,b,m,cs,s,bs,r,vs,Z,hi,h,hc,hb=>by
  simp only [Tys.imp] at hi
  obtain rfl:=osj hi
  exact⟨[],vs,Reg.none,Z,rfl,h,.refl,hc,.none,by simp only [Tys.Rep],⟨[],rfl⟩,fun _=>rfl,hb,fun _ _ h=>h.elim⟩
 | .cons t ts,b,m,cs,s,bs,r,vs,Z,hi,h,hc,hb=>by
  simp only [Tys.imp] at hi
  obtain ⟨r1,h1,hi⟩:=obi hi
  obtain ⟨r2,h2,hi⟩:=obi hi
  obtain rfl:=osj hi
  obtain ⟨us,vs1,F,Z1,e1,i1,s1,c1,f1,p1,⟨nb1,n1⟩,b1,d1,g1⟩:=Ty.imp_sound t b m.hd cs s bs r1 vs Z h1 h hc hb
  obtain ⟨us2,vs2,G,Z2,e2,i2,s2,c2,f2,p2,⟨nb2,n2⟩,b2,d2,g2⟩:=Tys.imp_sound ts b m.tl r1.2.1 r1.2.2.1 r1.2.2.2 r2 vs1 Z1 h2 i1 c1 d1
  have hsub:Reg.sub (Z1.or (depF ι r1.2.2.2)) (Z2.or (depF ι r2.2.2.2)):=by
   rintro b o (hz | hz)
   ·exact .inl (s2.zsub b o hz)
   ·rw [n2];exact .inr (depF_append _ _ _ b o hz)
  refine⟨us++us2,vs2,F.or G,Z2,by rw [e1,e2,List.append_assoc],i2,s1.trans s2,c2,(f1.shrink s2).or f2,?rep,⟨nb2++nb1,by rw [n2,n1,List.append_assoc]⟩,fun hf=>by rw [b2 hf,b1 hf],d2,?src⟩
  case src =>
   rintro b o (hf | hf)
   ·exact g1 b o hf
   ·obtain ⟨id,hl,hi⟩:=g2 b o hf;exact⟨id,(s1.live hl).1,hi⟩
  simp only [Tys.Rep]
  refine⟨us,us2,F,G,rfl,Ty.Rep.mono hsub _ _ (fun _ _ h=>h) p1,p2,?_,fun _ _ h=>.inl h,fun _ _ h=>.inr h⟩
  intro b o h1 h2
  obtain ⟨id,hl,hi⟩:=g2 b o h2
  exact f1.apart id hl b o h1 hi
end
end
end Go.LM
namespace Go.LM
theorem Row.get{α : Type}{w:World}{R : α → List Value→Reg→Prop}{size:Nat} : ∀ {x:List α} {b o:Nat} {F:Reg} (i:Nat) (hi:i<x.length),Row w R size x b o F →
  ∃vs G,R x[i] vs G∧vs.length=size∧CellsAt w b (o+i*size) vs∧Reg.sub G F
 | y :: x,b,o,F,0,_,⟨vs,G,H,h1,h2,h3,h4,h5,h6,h7⟩=>⟨vs,G,h1,h2,by simpa using h3,h6⟩
 | y :: x,b,o,F,i+1,hi,⟨vs,G,H,h1,h2,h3,h4,h5,h6,h7⟩=>by
  obtain ⟨us,G',k1,k2,k3,k4⟩:=Row.get i (by simpa using hi) h4
  refine⟨us,G',k1,k2,?_,fun b o h=>h7 b o (k4 b o h)⟩
  rwa [show o +(i+1)*size=o+size+i*size by rw [Nat.add_one_mul];omega]
theorem Row.set{α : Type}{w w':World}{R R' : α → List Value→Reg→Prop}{size:Nat}{x' : α}{F1:Reg} : ∀ {x:List α} {b o:Nat} {F:Reg} (i:Nat) (hi:i<x.length),Row w R size x b o F →
  (∀y vs G,Reg.sub G F→R y vs G→R' y vs G) →
  (∀j,j<x.length*size→(j<i*size∨(i+1)*size≤j)→w'.cell? (at_ b (o+j))=w.cell? (at_ b (o+j))) →
  (∀vs G,R x[i] vs G→vs.length=size→CellsAt w b (o+i*size) vs→Reg.sub G F→∃vs',vs'.length=size∧CellsAt w' b (o+i*size) vs'∧R' x' vs' (G.or F1)) →
  Reg.apart F1 F→Row w' R' size (x.set i x') b o (F.or F1)
 | y :: x,b,o,F,0,_,⟨vs,G,H,h1,h2,h3,h4,h5,h6,h7⟩,hR,hc,hn,ha=>by
  obtain ⟨vs',k1,k2,k3⟩:=hn vs G h1 h2 (by simpa using h3) h6
  refine⟨vs',G.or F1,H,k3,k1,by simpa using k2,?_,?_,?_,fun b o h=>.inl (h7 b o h)⟩
  ·refine Row.imp h4 (fun y vs G' hG=>hR y vs G' fun b o h=>h7 b o (hG b o h)) fun j hj=>?_
   have:=hc (size+j) (by rw [List.length_cons,Nat.add_one_mul];omega) (.inr (by simp))
   rwa [← Nat.add_assoc] at this
  ·rintro b o (h | h) hh
   ·exact h5 b o h hh
   ·exact ha b o h (h7 b o hh)
  ·rintro b o (h | h)
   ·exact .inl (h6 b o h)
   ·exact .inr h
 | y :: x,b,o,F,i+1,hi,⟨vs,G,H,h1,h2,h3,h4,h5,h6,h7⟩,hR,hc,hn,ha=>by
  refine⟨vs,G,H.or F1,hR _ _ _ h6 h1,h2,?_,?_,?_,fun b o h=>.inl (h6 b o h),?_⟩
  ·refine h3.of_eq fun k hk=>hc k ?_ (.inl ?_)
   ·rw [List.length_cons,Nat.add_one_mul];omega
   ·rw [Nat.add_one_mul];omega
  ·refine Row.set i (by simpa using hi) h4 (fun y vs G' hG=>hR y vs G' fun b o h=>h7 b o (hG b o h)) ?_ ?_ (fun b o h k=>ha b o h (h7 b o k))
   ·intro j hj hjj
    have:=hc (size+j) (by rw [List.length_cons,Nat.add_one_mul];omega) (by
     rcases hjj with h | h
     ·left;rw [Nat.add_one_mul];omega
     ·right;rw [Nat.add_one_mul];omega)
    rwa [← Nat.add_assoc] at this
   ·intro vs' G' k1 k2 k3 k4
    have:=hn vs' G' k1 k2 (by rwa [show o +(i+1)*size=o+size+i*size by rw [Nat.add_one_mul];omega]) (fun b o h=>h7 b o (k4 b o h))
    rwa [show o +(i+1)*size=o+size+i*size by rw [Nat.add_one_mul];omega] at this
  ·rintro b o h (hh | hh)
   ·exact h5 b o h hh
   ·exact ha b o hh (h6 b o h)
  ·rintro b o (h | h)
   ·exact .inl (h7 b o h)
   ·exact .inr h
section
variable{w0:World}{F0 Z0:Reg}{n:Frm}{s s':St}{a a':Act}{w w':World}{ι ι':Nat→OI}{Z Z':Reg}
def OrgsAt(w:World)(s:St)(ι : Nat→OI)(dp:List (Nat×Nat))(og:Option Place)(vs:List Value):Prop :=
 ∀k v,vs[k]?=some v→OrgAt w s ι dp (og.map fun p => { p with off:=p.off+k }) v
theorem OrgsAt.none{dp:List (Nat×Nat)}{vs:List Value} : OrgsAt w s ι dp none vs:=fun _ _ _=>.none
theorem OrgsAt.head{dp:List (Nat×Nat)}{og:Option Place}{v:Value}{vs:List Value}(h:OrgsAt w s ι dp og (v :: vs)):OrgAt w s ι dp og v:=by
 have:=h 0 v rfl
 cases og with
 | none=>exact .none
 | some p=>simpa using this
theorem OrgsAt.left{dp:List (Nat×Nat)}{og:Option Place}{us vs:List Value}(h:OrgsAt w s ι dp og (us++vs)):OrgsAt w s ι dp og us:=fun k v hv=>h k v (by
 rw [List.getElem?_append_left (List.getElem?_eq_some_iff.1 hv).1];exact hv)
theorem OrgsAt.right{dp:List (Nat×Nat)}{og:Option Place}{us vs:List Value}(h:OrgsAt w s ι dp og (us++vs)):OrgsAt w s ι dp (og.map fun p => { p with off:=p.off+us.length }) vs:=fun k v hv=>by
 have:=h (us.length+k) v (by rw [List.getElem?_append_right (by omega)];simpa using hv)
 cases og with
 | none=>exact .none
 | some p=>simpa [Nat.add_assoc] using this
mutual
theorem Ty.cells_rep:∀(t:Ty) (dp:List (Nat×Nat)) (og:Option Place) {x:t.D} {vs:List Value},(∀d,d∈dp→okDep s d) →
  (alive s dp=true→t.Rep w (Z.or (depF ι dp)) .R x vs Reg.none)→(∃m Z' F',t.Rep w Z' m x vs F')→OrgsAt w s ι dp og vs→CellsRep w Z s ι (t.cells dp og x) vs
 | .int k,dp,og,x,vs,hd,h,⟨m,Z',F',h'⟩,hog=>by simp only [Ty.Rep] at h';subst h';exact⟨rfl,trivial⟩
 | .bool,dp,og,x,vs,hd,h,⟨m,Z',F',h'⟩,hog=>by simp only [Ty.Rep] at h';subst h';exact⟨rfl,trivial⟩
 | .str,dp,og,x,vs,hd,h,⟨m,Z',F',h'⟩,hog=>by simp only [Ty.Rep] at h';obtain ⟨q,rfl,hq⟩:=h';exact⟨⟨q,rfl,hq⟩,trivial⟩
 | .raw,dp,og,x,vs,hd,h,⟨m,Z',F',h'⟩,hog=>by simp only [Ty.Rep] at h';obtain ⟨rfl,hq⟩:=h';exact⟨⟨rfl,hq⟩,trivial⟩
 | .sl t,dp,og,x,vs,hd,h,⟨m,Z',F',h'⟩,hog=>by
  have hv:∃A c,vs=[.slice A x.length c]:=by
   cases m <;>(simp only [Ty.Rep] at h';obtain ⟨A,c,hv,_⟩:=h';exact⟨A,c,hv⟩)
  obtain ⟨A,c,rfl⟩:=hv
  exact⟨⟨hd,⟨A,_,c,rfl⟩,h,hog.head⟩,trivial⟩
 | .st ts,dp,og,x,vs,hd,h,⟨m,Z',F',h'⟩,hog=>by
  simp only [Ty.Rep] at h h'
  simp only [Ty.cells]
  exact Tys.cells_rep ts dp og hd h ⟨_,_,_,h'⟩ hog
theorem Tys.cells_rep:∀(ts:Tys) (dp:List (Nat×Nat)) (og:Option Place) {x:ts.D} {vs:List Value},(∀d,d∈dp→okDep s d) →
  (alive s dp=true→ts.Rep w (Z.or (depF ι dp)) (Md.parts .R) x vs Reg.none)→(∃m Z' F',ts.Rep w Z' m x vs F')→OrgsAt w s ι dp og vs→CellsRep w Z s ι (ts.cells dp og x) vs
 | .nil,dp,og,x,vs,hd,h,⟨m,Z',F',h'⟩,hog=>by simp only [Tys.Rep] at h';subst h';trivial
 | .cons t ts,dp,og,x,vs,hd,h,⟨m,Z',F',h'⟩,hog=>by
  simp only [Tys.Rep] at h h'
  obtain ⟨us,vs',G,H,rfl,h2,h3,_⟩:=h'
  have hlen:=(Ty.Rep.len t _ h2).1
  simp only [Tys.cells]
  refine CellsRep.append (Ty.cells_rep t dp og hd (fun ha=>?_) ⟨_,_,_,h2⟩ hog.left) (Tys.cells_rep ts dp _ hd (fun ha=>?_) ⟨_,_,_,h3⟩ (hlen ▸ hog.right))
  ·obtain ⟨us',vs'',G',H',e,k2,k3,k4,k5,k6⟩:=h ha
   have:=(Ty.Rep.len t _ k2).1
   obtain ⟨rfl,rfl⟩:=List.append_inj e (by omega)
   exact Ty.Rep.mono (fun _ _ h=>h) _ _ k5 k2
  ·obtain ⟨us',vs'',G',H',e,k2,k3,k4,k5,k6⟩:=h ha
   have:=(Ty.Rep.len t _ k2).1
   obtain ⟨rfl,rfl⟩:=List.append_inj e (by omega)
   exact Tys.Rep.mono (fun _ _ h=>h) _ _ k6 k3
end
theorem takeN_some{off k:Nat}{cs ds:List HC}(h:takeN off k cs=some ds):off+k≤cs.length∧ds=(cs.drop off).take k:=by
 unfold takeN at h
 cases hb:Nat.ble (off+k) cs.length
 ·rw [hb] at h;simp at h
 ·rw [hb] at h;exact⟨Nat.le_of_ble_eq_true hb,(osj h).symm⟩
theorem gd_eq{t:Ty}{xs:List t.D}{i:Nat}(hi:i<xs.length):gd t xs i=xs[i]:=by simp [gd,hi]
theorem cells1_rep(h:Inv w0 F0 Z0 n s a w ι Z){id:Nat}{t:Ty}{em:Md}{ver:Nat}{xs:List t.D}(ho:s.o id=.row t em ver xs){i:Nat}(hi:i<xs.length) :
  ∃a0 vs,(ι id).base=some a0∧a0.spot=none∧CellsRep w Z s ι (cells1 t em id ver i (gd t xs i)) vs∧CellsAt w a0.block (a0.off+i*t.size) vs∧vs.length=t.size:=by
 have hobj:=h.objs id
 rw [ho] at hobj
 rcases hobj with⟨rfl,_⟩ | ⟨a0,hb,hr⟩
 ·simp at hi
 ·obtain ⟨G,g1,g2,g3⟩:=hr.row
  obtain ⟨vs,G',k1,k2,k3,k4⟩:=g1.get i hi
  refine⟨a0,vs,hb,hr.spot,?_,k3,k2⟩
  rw [gd_eq hi]
  have key:∀dp og,(∀d,d∈dp→okDep s d)→(em=.R∨(id,ver)∈dp)→OrgsAt w s ι dp og vs→CellsRep w Z s ι (t.cells dp og xs[i]) vs:=by
   intro dp og hd hor hog
   refine Ty.cells_rep t dp og hd (fun ha=>?_) ⟨_,_,_,k1⟩ hog
   rcases hor with rfl | hm
   ·exact Ty.Rep.mono (fun _ _ h=>.inl h) _ _ (fun _ _ h=>h) (Ty.Rep.read (Z:=Z) (Z':=Z) (F:=Reg.none) (fun _ _ h=>h) t .R (fun _ _ h=>h.elim) (by
     have:=k1
     exact rep_R_none this))
   ·exact Ty.Rep.read (fun _ _ h=>.inl h) t em (fun b o hg=>.inr ⟨_,hm,g3 b o (k4 b o hg)⟩) k1
  unfold cells1
  split
  ·exact key [] _ (by simp) (.inl rfl) .none
  ·refine key _ _ ?_ (.inr (by simp)) ?_
   case refine_2 =>
    intro k v hv p hp
    simp only [Option.map_some,Option.some.injEq] at hp
    subst hp
    refine⟨⟨(id,ver),by simp,rfl⟩,fun _=>?_⟩
    have hk:k<t.size:=by rw [← k2];exact(List.getElem?_eq_some_iff.1 hv).1
    have hle2:(i+1)*t.size≤(ι id).cap*t.size:=Nat.mul_le_mul_right _ (by have:=hr.cap;omega)
    rw [Nat.add_one_mul] at hle2
    refine⟨a0.block,a0.off+i*t.size+k,⟨rfl,?_⟩,k3 k v hv,?_⟩
    ·show match (s.o id).core with | .var _ _=>_ | .row t _ _ xs=>_ | _=>_
     rw [ho]
     exact⟨i,rfl,hi,a0,hb,by simp⟩
    ·have:=hr.inF (i*t.size+k) (by omega)
     rwa [← Nat.add_assoc] at this
   intro d hd
   simp at hd
   subst hd
   exact⟨by simp [known,ho],.inr (by simp [verOf,ho])⟩
theorem readP_sound(h:Inv w0 F0 Z0 n s a w ι Z){k:Nat}{p:Place}{cs:List HC}{A:Addr}(hr:readP s k p=some cs)(hp:PlaceAt s ι p A) :
  ∃b o vs,A=at_ b o∧CellsRep w Z s ι cs vs∧CellsAt w b o vs∧vs.length=k:=by
 obtain ⟨hs,hp⟩:=hp
 unfold readP at hr
 cases ho:s.o p.id with
 | var ver old =>
  rw [ho] at hr hp
  obtain ⟨he,a0,hb,rfl⟩:=hp
  rw [he] at hr
  obtain ⟨h1,rfl⟩:=takeN_some hr
  have hobj:=h.objs p.id
  rw [ho] at hobj
  obtain ⟨a0',vs,hb',hsp,hc,hat,_⟩:=hobj
  rw [hb] at hb'
  obtain rfl:=osj hb'
  refine⟨_,_,(vs.drop p.off).take k,rfl,(hc.drop _).take _,hat.part _ _,?_⟩
  have:=hc.len
  simp;omega
 | row t em ver xs =>
  rw [ho] at hr hp
  obtain ⟨i,he,hi,a0,hb,rfl⟩:=hp
  rw [he] at hr
  obtain ⟨h1,rfl⟩:=takeN_some hr
  obtain ⟨a0',vs,hb',hsp,hc,hat,hl⟩:=cells1_rep h ho hi
  rw [hb] at hb'
  obtain rfl:=osj hb'
  refine⟨_,_,(vs.drop p.off).take k,rfl,(hc.drop _).take _,?_,?_⟩
  ·have:=hat.part p.off k
   exact this
  ·have:=hc.len
   simp;omega
 | none=>rw [ho] at hr;simp at hr
 | dead=>rw [ho] at hr;simp at hr
 | lent=>rw [ho] at hr;simp at hr
theorem moves_adopt{id:Nat}(hid:s.o id=.none)(o:LObj)(i:OI):Moves w Z s ι w Z (s.putO id o) (upd ι id i):=by
 refine⟨fun j=>?_,fun _ _ h=>h,Same.refl _ _⟩
 show Turn (s.o j) (ι j) (upd s.o id o j) (upd ι id i j)
 by_cases hj:id=j
 ·subst hj;rw [hid];exact .made _ _ _
 ·rw [upd_ne hj,upd_ne hj];exact .stay _ _
theorem Inv.adopt(h:Inv w0 F0 Z0 n s a w ι Z){id:Nat}(hid:s.o id=.none){o:LObj}{i:OI}
  (hrep:ObjRep w Z (s.putO id o) (upd ι id i) i o) (hF:Free w0 F0 s w ι Z i.F):Inv w0 F0 Z0 n (s.putO id o) a w (upd ι id i) Z:=by
 have hm:=moves_adopt (w:=w) (Z:=Z) (ι := ι) hid o i
 refine h.next hm (Ext.refl _ Reg.none) (fun _ _ h=>h.elim) (fun _ _ h=>.inl h) ?_ ?_ (fun k=>(h.tmps k).move hm) h.size h.defers
 ·intro j hl hne
  by_cases hj:id=j
  ·subst hj
   rw [upd_same]
   refine⟨by show ObjRep _ _ _ _ _ (upd s.o id o id);rw [upd_same];exact hrep,hF.own,fun j' hl' hne'=>?_⟩
   rw [upd_ne hne']
   have hl2:(s.o j').live:=by
    have:(upd s.o id _ j').live:=hl'
    rwa [upd_ne hne'] at this
   exact hF.apart j' hl2
  ·exact absurd ⟨upd_ne hj,upd_ne hj⟩ hne
 ·intro j hl
  by_cases hj:id=j
  ·subst hj;rw [upd_same];exact hF.apartZ
  ·rw [upd_ne hj]
   have hl2:(s.o j).live:=by
    have:(upd s.o id _ j).live:=hl
    rwa [upd_ne hj] at this
   exact h.apartZ j hl2
structure Grows(s:St)(ι : Nat→OI)(s':St)(ι':Nat→OI):Prop where
 o:∀id,s.o id≠.none→s'.o id=s.o id ∧ ι' id = ι id
 t:s'.t=s.t
 g:s'.g=s.g
 nl:∀id o',s.o id=.none→s'.o id≠.lent o'
theorem Grows.refl:Grows s ι s ι :=⟨fun _ _=>⟨rfl,rfl⟩,rfl,rfl,fun _ _ h=>by rw [h];simp⟩
theorem Grows.trans{s2:St}{ι2:Nat→OI}(h:Grows s ι s' ι')(k:Grows s' ι' s2 ι2):Grows s ι s2 ι2 :=
 ⟨fun id hn=>by have h1:=h.o id hn;have h2:=k.o id (by rw [h1.1];exact hn);exact⟨h2.1.trans h1.1,h2.2.trans h1.2⟩,k.t.trans h.t,k.g.trans h.g,fun id o' hn=>by
  by_cases hm:s'.o id=.none
  ·exact k.nl id o' hm
  ·rw [(k.o id hm).1];exact h.nl id o' hn⟩
theorem Grows.moves(h:Grows s ι s' ι'):Moves w Z s ι w Z s' ι':=by
 refine⟨fun id=>?_,fun _ _ h=>h,Same.refl _ _⟩
 by_cases hn:s.o id=.none
 ·rw [hn];exact .made _ _ _
 ·rw [(h.o id hn).1,(h.o id hn).2];exact .stay _ _
theorem grows_put{id:Nat}(hid:s.o id=.none)(o:LObj)(i:OI)(hnl:∀o',o≠.lent o'):Grows s ι (s.putO id o) (upd ι id i):=by
 refine⟨fun j hn=>?_,rfl,rfl,fun j o' hn=>?_⟩
 ·have hj:id≠j:=fun e=>hn (e ▸ hid)
  exact⟨upd_ne hj,upd_ne hj⟩
 ·show upd s.o id o j≠_
  by_cases hj:id=j
  ·subst hj;rw [upd_same];exact hnl o'
  ·rw [upd_ne hj,hn];simp
def ExplRes(w0:World)(F0 Z0:Reg)(n:Frm)(s:St)(a:Act)(w:World)(ι : Nat→OI)(Z:Reg)(vs:List Value)(F:Reg)(cs:List HC)(s':St):Prop :=
 ∃ ι',Inv w0 F0 Z0 n s' a w ι' Z∧Grows s ι s' ι'∧CellsRep w Z s' ι' cs vs∧∀G,Free w0 F0 s w ι Z G→Reg.apart G F→Free w0 F0 s' w ι' Z G
theorem explRes_bare(h:Inv w0 F0 Z0 n s a w ι Z){vs:List Value}{F:Reg}{cs:List HC}(hc:CellsRep w Z s ι cs vs):ExplRes w0 F0 Z0 n s a w ι Z vs F cs s :=
 ⟨ι,h,.refl,hc,fun _ hG _=>hG⟩
mutual
theorem Ty.expl_sound:∀(t:Ty) (m:Md) (dp:List (Nat×Nat)) (x:t.D) (s:St) (ι : Nat→OI) (j:Nat) (r:List HC×St×Nat) (vs:List Value) (F:Reg),
  t.expl m dp x s j=some r→Inv w0 F0 Z0 n s a w ι Z→t.Rep w (Z.or (depF ι dp)) m x vs F→Free w0 F0 s w ι Z F→Reg.apart F (depF ι dp)→(∀d,d∈dp→okDep s d) →
  ExplRes w0 F0 Z0 n s a w ι Z vs F r.1 r.2.1
 | .int k,m,dp,x,s,ι,j,r,vs,F,he,h,hr,hf,hfd,hd=>by
  simp only [Ty.expl] at he;obtain rfl:=osj he
  simp only [Ty.Rep] at hr;subst hr;exact explRes_bare h ⟨rfl,trivial⟩
 | .bool,m,dp,x,s,ι,j,r,vs,F,he,h,hr,hf,hfd,hd=>by
  simp only [Ty.expl] at he;obtain rfl:=osj he
  simp only [Ty.Rep] at hr;subst hr;exact explRes_bare h ⟨rfl,trivial⟩
 | .str,m,dp,x,s,ι,j,r,vs,F,he,h,hr,hf,hfd,hd=>by
  simp only [Ty.expl] at he;obtain rfl:=osj he
  simp only [Ty.Rep] at hr;obtain ⟨q,rfl,hq⟩:=hr;exact explRes_bare h ⟨⟨q,rfl,hq⟩,trivial⟩
 | .raw,m,dp,x,s,ι,j,r,vs,F,he,h,hr,hf,hfd,hd=>by
  simp only [Ty.expl] at he;obtain rfl:=osj he
  simp only [Ty.Rep] at hr;obtain ⟨rfl,hq⟩:=hr;exact explRes_bare h ⟨⟨rfl,hq⟩,trivial⟩
 | .sl t,.R,dp,x,s,ι,j,r,vs,F,he,h,hr,hf,hfd,hd=>by
  simp only [Ty.expl] at he;obtain rfl:=osj he
  have hr':=hr
  simp only [Ty.Rep] at hr;obtain ⟨A,c,rfl,_⟩:=hr
  exact explRes_bare h ⟨⟨hd,⟨A,_,c,rfl⟩,fun _=>rep_R_none hr',.none⟩,trivial⟩
 | .sl t,.S ms,dp,x,s,ι,j,r,vs,F,he,h,hr,hf,hfd,hd=>by
  simp only [Ty.expl] at he;obtain rfl:=osj he
  have hr':(Ty.sl t).Rep w (Z.or (depF ι dp)) .R x vs F:=by simp only [Ty.Rep] at hr ⊢;exact hr
  simp only [Ty.Rep] at hr;obtain ⟨A,c,rfl,_⟩:=hr
  exact explRes_bare h ⟨⟨hd,⟨A,_,c,rfl⟩,fun _=>rep_R_none hr',.none⟩,trivial⟩
 | .sl t,.O e,dp,x,s,ι,j,r,vs,F,he,h,hr,hf,hfd,hd=>by
  simp only [Ty.expl] at he
  cases hq:(dp.isEmpty||Md.beq e t.own)
  ·rw [hq] at he;simp at he
  rw [hq] at he
  cases ho:s.o j with
  | none =>
   rw [ho] at he
   obtain rfl:=osj he
   have hr2:(Ty.sl t).Rep w Z (.O e) x vs F:=by
    cases hdp:dp with
    | nil=>subst hdp;exact Ty.Rep.mono (fun b o hz=>hz.elim (fun h=>h) fun⟨d,hd,_⟩=>by simp at hd) _ _ (fun _ _ h=>h) hr
    | cons d dp' =>
     subst hdp
     have he:e=t.own:=Md.eq_of_beq _ _ (by simpa using hq)
     subst he
     exact rep_own (.sl t) hr
   simp only [Ty.Rep] at hr2
   obtain ⟨A,c,rfl,hr2⟩:=hr2
   let i:OI:=⟨A,c,F⟩
   have hrep:ObjRep w Z (s.putO j (.row t e 0 x)) (upd ι j i) i (.row t e 0 x):=by
    rcases hr2 with hr2 | ⟨a0,hA,hr2⟩
    ·exact .inl hr2
    ·exact .inr ⟨a0,hA,hr2⟩
   refine⟨upd ι j i,h.adopt ho hrep hf,grows_put ho _ _ (fun o'=>by simp),⟨⟨?_,A,_,c,rfl,?_⟩,trivial⟩,?_⟩
   ·show upd s.o j _ j≠_
    rw [upd_same];simp
   ·intro t' em ver xs hh
    have this:(upd s.o j (LObj.row t e 0 x) j).core=.row t' em ver xs:=hh
    rw [upd_same] at this
    have this:LObj.row t e 0 x=.row t' em ver xs:=this
    injection this with h1 h2 h3 h4
    subst h1
    obtain rfl:=eq_of_heq h4
    rw [upd_same]
    refine⟨rfl,by simp [subLo],?_,by simp [subLo,i],?_⟩
    ·rcases hr2 with⟨hx,hc⟩ | ⟨a0,hA,hr2⟩
     ·subst hx;simp
     ·exact hr2.cap
    ·rcases hr2 with⟨hx,hc⟩ | ⟨a0,hA,hr2⟩
     ·exact .inl hc
     ·refine .inr ⟨a0,hA,?_⟩
      rw [hA]
      have:=hr2.spot
      obtain ⟨bl,off,sp⟩:=a0
      subst this
      simp [subLo,at_]
   ·intro G hG hGF
    refine⟨hG.own,fun id hl=>?_,hG.apartZ⟩
    by_cases hj:j=id
    ·subst hj;rw [upd_same];exact hGF
    ·rw [upd_ne hj]
     exact hG.apart id (by have:(upd s.o j _ id).live:=hl;rwa [upd_ne hj] at this)
  | _=>rw [ho] at he;simp at he
 | .st ts,m,dp,x,s,ι,j,r,vs,F,he,h,hr,hf,hfd,hd=>by
  simp only [Ty.expl] at he;simp only [Ty.Rep] at hr
  exact Tys.expl_sound ts m.parts dp x s ι j r vs F he h hr hf hfd hd
theorem Tys.expl_sound:∀(ts:Tys) (m:Mds) (dp:List (Nat×Nat)) (x:ts.D) (s:St) (ι : Nat→OI) (j:Nat) (r:List HC×St×Nat) (vs:List Value) (F:Reg),
  ts.expl m dp x s j=some r→Inv w0 F0 Z0 n s a w ι Z→ts.Rep w (Z.or (depF ι dp)) m x vs F→Free w0 F0 s w ι Z F→Reg.apart F (depF ι dp)→(∀d,d∈dp→okDep s d) →
  ExplRes w0 F0 Z0 n s a w ι Z vs F r.1 r.2.1
 | .nil,m,dp,x,s,ι,j,r,vs,F,he,h,hr,hf,hfd,hd=>by
  simp only [Tys.expl] at he;obtain rfl:=osj he
  simp only [Tys.Rep] at hr;subst hr;exact explRes_bare h trivial
 | .cons t ts,m,dp,x,s,ι,j,r,vs,F,he,h,hr,hf,hfd,hd=>by
  simp only [Tys.expl] at he
  obtain ⟨r1,h1,he⟩:=obi he
  obtain ⟨r2,h2,he⟩:=obi he
  obtain rfl:=osj he
  simp only [Tys.Rep] at hr
  obtain ⟨us,vs',G,H,rfl,p1,p2,p3,p4,p5⟩:=hr
  have hfG:Free w0 F0 s w ι Z G:=⟨fun b o hg=>hf.own b o (p4 b o hg),fun id hl b o hg=>hf.apart id hl b o (p4 b o hg),fun b o hg=>hf.apartZ b o (p4 b o hg)⟩
  have hfH:Free w0 F0 s w ι Z H:=⟨fun b o hg=>hf.own b o (p5 b o hg),fun id hl b o hg=>hf.apart id hl b o (p5 b o hg),fun b o hg=>hf.apartZ b o (p5 b o hg)⟩
  obtain ⟨ι1,i1,g1,c1,f1⟩:=Ty.expl_sound t m.hd dp x.1 s ι j r1 us G h1 h p1 hfG (fun b o hg=>hfd b o (p4 b o hg)) hd
  have hdep:∀d,d∈dp→s.o d.1≠.none:=fun d hdm=>(hd d hdm).1
  have hdF:∀b o,depF ι dp b o↔depF ι1 dp b o:=by
   intro b o
   constructor
   ·rintro ⟨d,hdm,hx⟩;exact⟨d,hdm,by rw [(g1.o d.1 (hdep d hdm)).2];exact hx⟩
   ·rintro ⟨d,hdm,hx⟩;exact⟨d,hdm,by rw [(g1.o d.1 (hdep d hdm)).2] at hx;exact hx⟩
  have hd1:∀d,d∈dp→okDep r1.2.1 d:=by
   intro d hdm
   have:=hd d hdm
   unfold okDep known verOf at *
   rw [(g1.o d.1 this.1).1];exact this
  obtain ⟨ι2,i2,g2,c2,f2⟩:=Tys.expl_sound ts m.tl dp x.2 r1.2.1 ι1 r1.2.2 r2 vs' H h2 i1 (Tys.Rep.mono (fun b o hz=>hz.imp (fun h=>h) (fun h=>(hdF b o).1 h)) _ _ (fun _ _ h=>h) p2)
   (f1 H hfH (fun b o k1 k2=>p3 b o k2 k1)) (fun b o k1 k2=>hfd b o (p5 b o k1) ((hdF b o).2 k2)) hd1
  refine⟨ι2,i2,g1.trans g2,(c1.move g2.moves).append c2,fun G' hG' hGF=>?_⟩
  exact f2 G' (f1 G' hG' fun b o k1 k2=>hGF b o k1 (p4 b o k2)) fun b o k1 k2=>hGF b o k1 (p5 b o k2)
end
end
end Go.LM
namespace Go.LM
def splice{α : Type}(l:List α)(k:Nat)(us:List α):List α := l.take k++us++l.drop (k+us.length)
theorem splice_nil{α : Type}(l:List α)(k:Nat):splice l k []=l:=by simp [splice]
theorem splice_length{α : Type}{l us:List α}{k:Nat}(h:k+us.length≤l.length):(splice l k us).length=l.length:=by simp [splice];omega
theorem splice_left{α : Type}{A B us:List α}{k:Nat}(h:k+us.length≤A.length):splice (A++B) k us=splice A k us++B:=by
 unfold splice
 rw [List.take_append_of_le_length (by omega),List.drop_append_of_le_length (by omega)]
 simp [List.append_assoc]
theorem splice_right{α : Type}{A B us:List α}{k:Nat}(h:A.length≤k):splice (A++B) k us=A++splice B (k-A.length) us:=by
 unfold splice
 obtain ⟨j,rfl⟩:∃j,k=A.length+j:=⟨k-A.length,by omega⟩
 rw [List.take_append,List.take_of_length_le (by omega),Nat.add_sub_cancel_left,show A.length+j+us.length=A.length +(j+us.length) by omega,List.drop_append,List.drop_of_length_le (by omega),Nat.add_sub_cancel_left]
 simp [List.append_assoc]
theorem splice_both{α : Type}{A B us vs:List α}{k:Nat}(h:k+us.length=A.length):splice (A++B) k (us++vs)=splice A k us++splice B 0 vs:=by
 unfold splice
 rw [List.take_append_of_le_length (by omega),List.length_append,show k +(us.length+vs.length)=A.length+vs.length by omega,List.drop_append,List.drop_of_length_le (by omega),Nat.add_sub_cancel_left,h,List.drop_length]
 simp [List.append_assoc]
theorem splice_all{α : Type}{l us:List α}(h:us.length=l.length):splice l 0 us=us:=by
 unfold splice;rw [List.take_zero,Nat.zero_add,h,List.drop_length];simp
section
variable{w0:World}{F0 Z0:Reg}{n:Frm}{s s':St}{a a':Act}{w w':World}{ι ι':Nat→OI}{Z Z':Reg}
def PutRes(w0:World)(F0 Z0:Reg)(n:Frm)(s:St)(a:Act)(w:World)(ι : Nat→OI)(Z:Reg)(R0:List Value→Reg→Prop)(R:Reg→List Value→Reg→Prop)(size skip:Nat)(vs:List Value)
  (cs':List HC) (s':St):Prop :=
 ∃us rest F1 Z',vs=us++rest∧Inv w0 F0 Z0 n s' a w ι Z'∧Shrinks s ι Z s' Z'∧CellsRep w Z' s' ι cs' rest∧Free w0 F0 s' w ι Z' F1 ∧
  (∀b o,F1 b o→∃id,(s.o id).live∧(ι id).F b o)∧skip+us.length≤size∧(cs'≠[]→skip+us.length=size) ∧
  ∀old G,R0 old G→∀id,(s'.o id).live→Reg.sub G (ι id).F→R Z' (splice old skip us) (G.or F1)
mutual
theorem Ty.put_sound:∀(t:Ty) (m:Md) (x:t.D) (skip:Nat) (cs:List HC) (s:St) (r:t.D×List HC×St) (vs:List Value) (Z:Reg),
  t.put m x skip cs s=some r→skip≤t.size→Inv w0 F0 Z0 n s a w ι Z→CellsRep w Z s ι cs vs →
  PutRes w0 F0 Z0 n s a w ι Z (fun us F=>t.Rep w Z m x us F) (fun Z us F=>t.Rep w Z m r.1 us F) t.size skip vs r.2.1 r.2.2
 | t,m,x,skip,[],s,r,vs,Z,hp,hsk,h,hc=>by
  have hp':some (x,([]:List HC),s)=some r:=by cases t <;> simpa only [Ty.put] using hp
  obtain rfl:=osj hp'
  cases vs with
  | cons=>exact hc.elim
  | nil =>
   refine⟨[],[],Reg.none,Z,rfl,h,.refl,trivial,.none,fun _ _ h=>h.elim,by simpa using hsk,fun h=>absurd rfl h,fun _ _ hr _ _ _=>?_⟩
   rw [splice_nil]
   exact Ty.Rep.mono (fun _ _ h=>h) _ _ (fun _ _ h=>.inl h) hr
 | t,m,x,skip,c :: cs,s,r,vs,Z,hp,hsk,h,hc=>by
  cases hb:(Nat.beq skip 0&&Nat.ble t.size (cs.length+1)) with
  | true =>
   have hp':(t.imp false m (c :: cs) s []).bind (fun r=>some (r.1,r.2.1,r.2.2.1))=some r:=by
    cases t <;>(simp only [Ty.put] at hp;rw [hb] at hp;exact hp)
   obtain ⟨q,hq,hp'⟩:=obi hp'
   obtain rfl:=osj hp'
   have hb':skip=0∧t.size≤cs.length+1:=by
    simp only [Bool.and_eq_true] at hb
    exact⟨Nat.eq_of_beq_eq_true hb.1,Nat.le_of_ble_eq_true hb.2⟩
   obtain ⟨rfl,_⟩:=hb'
   obtain ⟨us,rest,F,Z',e1,i1,s1,c1,f1,p1,_,b1,_,g1⟩:=Ty.imp_sound t false m (c :: cs) s [] q vs Z hq h hc (by simp)
   have hul:=(Ty.Rep.len t m p1).1
   refine⟨us,rest,F,Z',e1,i1,s1,c1,f1,g1,by omega,fun _=>by omega,fun _ _ hr _ _ _=>?_⟩
   have hlen:=(Ty.Rep.len t m hr).1
   rw [splice_all (by omega)]
   refine Ty.Rep.mono ?_ _ _ (fun _ _ h=>.inr h) p1
   rintro b o (hz | ⟨d,hd,_⟩)
   ·exact hz
   ·rw [b1 rfl] at hd;simp at hd
  | false =>
   cases t with
   | st ts =>
    simp only [Ty.put] at hp
    rw [hb] at hp
    have:=Tys.put_sound ts m.parts x skip (c :: cs) s r vs Z hp (by simpa only [Ty.size] using hsk) h hc
    simpa only [Ty.Rep,Ty.size] using this
   | _=>simp only [Ty.put] at hp;rw [hb] at hp;simp at hp
theorem Tys.put_sound:∀(ts:Tys) (m:Mds) (x:ts.D) (skip:Nat) (cs:List HC) (s:St) (r:ts.D×List HC×St) (vs:List Value) (Z:Reg),
  ts.put m x skip cs s=some r→skip≤ts.size→Inv w0 F0 Z0 n s a w ι Z→CellsRep w Z s ι cs vs →
  PutRes w0 F0 Z0 n s a w ι Z (fun us F=>ts.Rep w Z m x us F) (fun Z us F=>ts.Rep w Z m r.1 us F) ts.size skip vs r.2.1 r.2.2
 | .nil,m,x,skip,cs,s,r,vs,Z,hp,hsk,h,hc=>by
  simp only [Tys.put] at hp
  obtain rfl:=osj hp
  simp only [Tys.size] at hsk ⊢
  refine⟨[],vs,Reg.none,Z,rfl,h,.refl,hc,.none,fun _ _ h=>h.elim,by simpa using hsk,fun _=>by simp;omega,fun _ _ hr _ _ _=>?_⟩
  rw [splice_nil]
  simp only [Tys.Rep] at hr ⊢
  exact hr
 | .cons t ts,m,x,skip,cs,s,r,vs,Z,hp,hsk,h,hc=>by
  simp only [Tys.put] at hp
  cases hb:Nat.ble t.size skip with
  | true =>
   rw [hb] at hp
   have hble:=Nat.le_of_ble_eq_true hb
   obtain ⟨q,hq,hp⟩:=obi hp
   obtain rfl:=osj hp
   simp only [Tys.size] at hsk
   obtain ⟨us,rest,F1,Z',e1,i1,s1,c1,f1,g1,l1,l2,k1⟩:=Tys.put_sound ts m.tl x.2 (skip-t.size) cs s q vs Z hq (by omega) h hc
   refine⟨us,rest,F1,Z',e1,i1,s1,c1,f1,g1,by simp only [Tys.size];omega,fun hne=>by have:=l2 hne;simp only [Tys.size];omega,fun old G hr id hl hG=>?_⟩
   simp only [Tys.Rep] at hr
   obtain ⟨us0,vs0,G1,G2,rfl,p1,p2,p3,p4,p5⟩:=hr
   have hl1:=(Ty.Rep.len t _ p1).1
   rw [splice_right (by omega),hl1]
   simp only [Tys.Rep]
   refine⟨us0,_,G1,G2.or F1,rfl,Ty.Rep.mono s1.zsub _ _ (fun _ _ h=>h) p1,k1 _ _ p2 id hl (fun b o hg=>hG b o (p5 b o hg)),?_,fun b o hg=>.inl (p4 b o hg),?_⟩
   ·rintro b o hg (hh | hh)
    ·exact p3 b o hg hh
    ·exact f1.apart id hl b o hh (hG b o (p4 b o hg))
   ·rintro b o (hg | hg)
    ·exact .inl (p5 b o hg)
    ·exact .inr hg
  | false =>
   rw [hb] at hp
   have hlt:skip<t.size:=by
    rcases Nat.lt_or_ge skip t.size with h | h
    ·exact h
    ·rw [Nat.ble_eq_true_of_le h] at hb;simp at hb
   obtain ⟨q1,hq1,hp⟩:=obi hp
   obtain ⟨q2,hq2,hp⟩:=obi hp
   obtain rfl:=osj hp
   obtain ⟨us,rest,F1,Z1,e1,i1,s1,c1,f1,g1,l1,l2,k1⟩:=Ty.put_sound t m.hd x.1 skip cs s q1 vs Z hq1 (by omega) h hc
   obtain ⟨us2,rest2,F2,Z2,e2,i2,s2,c2,f2,g2,l3,l4,k2⟩:=Tys.put_sound ts m.tl x.2 0 q1.2.1 q1.2.2 q2 rest Z1 hq2 (by omega) i1 c1
   have hrest:q1.2.1=[]→us2=[]∧rest2=[]:=by
    intro hcs
    rw [hcs] at c1
    cases rest with
    | nil=>have:=e2;simp at this;exact⟨this.1,this.2⟩
    | cons=>exact c1.elim
   refine⟨us++us2,rest2,F1.or F2,Z2,by rw [e1,e2,List.append_assoc],i2,s1.trans s2,c2,(f1.shrink s2).or f2,?_,?_,?_,fun old G hr id hl hG=>?_⟩
   ·rintro b o (hf | hf)
    ·exact g1 b o hf
    ·obtain ⟨id,hl,hi⟩:=g2 b o hf;exact⟨id,(s1.live hl).1,hi⟩
   ·simp only [Tys.size,List.length_append]
    by_cases hcs:q1.2.1=[]
    ·rw [(hrest hcs).1];simp;omega
    ·have:=l2 hcs;omega
   ·intro hne
    simp only [Tys.size,List.length_append]
    have h4:=l4 hne
    by_cases hcs:q1.2.1=[]
    ·have:q2.2.1=[]:=by
      have h1:=c2.len
      rw [(hrest hcs).2] at h1
      exact List.eq_nil_of_length_eq_zero (by simpa using h1.symm)
     exact absurd this hne
    ·have:=l2 hcs;omega
   ·simp only [Tys.Rep] at hr
    obtain ⟨us0,vs0,G1,G2,rfl,p1,p2,p3,p4,p5⟩:=hr
    have hl1:=(Ty.Rep.len t _ p1).1
    have hl':=(s2.live hl)
    have r1:=k1 _ _ p1 id hl'.1 (fun b o hg=>hG b o (p4 b o hg))
    have r2:=k2 _ _ (Tys.Rep.mono s1.zsub _ _ (fun _ _ h=>h) p2) id hl (fun b o hg=>hG b o (p5 b o hg))
    have hsp:splice (us0++vs0) skip (us++us2)=splice us0 skip us++splice vs0 0 us2:=by
     by_cases hcs:q1.2.1=[]
     ·rw [(hrest hcs).1,List.append_nil,splice_nil,splice_left (by omega)]
     ·exact splice_both (by have:=l2 hcs;omega)
    rw [hsp]
    simp only [Tys.Rep]
    refine⟨_,_,G1.or F1,G2.or F2,rfl,Ty.Rep.mono s2.zsub _ _ (fun _ _ h=>h) r1,r2,?_,?_,?_⟩
    ·rintro b o (hg | hg) (hh | hh)
     ·exact p3 b o hg hh
     ·exact f2.apart id hl b o hh (hG b o (p4 b o hg))
     ·exact f1.apart id hl'.1 b o hg (hG b o (p5 b o hh))
     ·obtain ⟨id2,hl2,hi2⟩:=g2 b o hh
      exact f1.apart id2 hl2 b o hg hi2
    ·rintro b o (hg | hg)
     ·exact .inl (p4 b o hg)
     ·exact .inr (.inl hg)
    ·rintro b o (hg | hg)
     ·exact .inl (p5 b o hg)
     ·exact .inr (.inr hg)
end
theorem CellsRep.splice{cs ds:List HC}{us vs:List Value}(h:CellsRep w Z s ι cs us)(k:CellsRep w Z s ι ds vs)(p:Nat) :
  CellsRep w Z s ι (cs.take p++ds++cs.drop (p+ds.length)) (splice us p vs):=by
 unfold LM.splice
 rw [k.len]
 exact((h.take p).append k).append (h.drop _)
theorem shrink_vs{cs:List HC}{vs:List Value}(h:Shrinks s ι Z s' Z')(hc:CellsRep w Z s ι cs vs):CellsRep w Z' s' ι cs vs:=hc.move h.moves
theorem setCells_at{b o:Nat}{vs:List Value}(hw:∀i,i<vs.length→Writable w b (o+i)):CellsAt (setCells w b o vs) b o vs:=by
 intro i v hv
 have hi:i<vs.length:=by
  rcases Nat.lt_or_ge i vs.length with h | h
  ·exact h
  ·rw [List.getElem?_eq_none h] at hv;simp at hv
 rw [setCells_cell b vs w o (fun i hi=>(hw i hi).1),if_pos ⟨rfl,by omega,by omega⟩,Nat.add_sub_cancel_left]
 exact hv
theorem setCells_splice{b o k:Nat}{old vs:List Value}(hc:CellsAt w b o old)(hw:∀i,i<old.length→Writable w b (o+i))(hk:k+vs.length≤old.length) :
  CellsAt (setCells w b (o+k) vs) b o (splice old k vs):=by
 have hw':∀i,i<vs.length→Writable w b (o+k+i):=fun i hi=>by have:=hw (k+i) (by omega);rwa [← Nat.add_assoc] at this
 intro i v hv
 have hx:=setCells_cell b vs w (o+k) (fun i hi=>(hw' i hi).1) b (o+i)
 rw [hx]
 unfold splice at hv
 by_cases h1:i<k
 ·rw [if_neg (by omega)]
  rw [List.append_assoc,List.getElem?_append_left (by simp;omega),List.getElem?_take,if_pos h1] at hv
  exact hc i v hv
 ·by_cases h2:i<k+vs.length
  ·rw [if_pos ⟨rfl,by omega,by omega⟩]
   rw [List.getElem?_append_left (by simp;omega),List.getElem?_append_right (by simp;omega)] at hv
   simp only [List.length_take] at hv
   rw [show o+i-(o+k)=i-min k old.length by omega]
   exact hv
  ·rw [if_neg (by omega)]
   rw [List.getElem?_append_right (by simp;omega)] at hv
   simp only [List.length_append,List.length_take,List.getElem?_drop] at hv
   rw [show k+vs.length +(i-(min k old.length+vs.length))=i by omega] at hv
   exact hc i v hv
theorem writeP_sound(h:Inv w0 F0 Z0 n s a w ι Z){p:Place}{cs:List HC}{A:Addr}{vs:List Value}(hr:writeP s p cs=some s')(hp:PlaceAt s ι p A)(hc:CellsRep w Z s ι cs vs) :
  ∃b o,A=at_ b o∧(∀i,i<vs.length→Writable w b (o+i))∧∃ ι' Z',Inv w0 F0 Z0 n s' a (setCells w b o vs) ι' Z':=by
 obtain ⟨hs,hp⟩:=hp
 unfold writeP at hr
 cases ho:s.o p.id with
 | var ver old =>
  rw [ho] at hr hp
  obtain ⟨he,a0,hb,rfl⟩:=hp
  rw [he] at hr
  have hlive:(s.o p.id).live:=by rw [ho];trivial
  simp only at hr
  cases hble:Nat.ble (p.off+cs.length) old.length
  ·rw [hble] at hr;simp at hr
  rw [hble] at hr
  obtain rfl:=osj hr
  have hle:=Nat.le_of_ble_eq_true hble
  have hobj:=h.objs p.id
  rw [ho] at hobj
  obtain ⟨a0',us,hb',hsp,hcu,hat,hwr⟩:=hobj
  rw [hb] at hb'
  obtain rfl:=osj hb'
  have hul:=hcu.len
  have hvl:=hc.len
  have hw:∀i,i<vs.length→Writable w a0.block (a0.off+p.off+i):=fun i hi=>by
   have:=(hwr (p.off+i) (by omega)).1;rwa [← Nat.add_assoc] at this
  refine⟨_,_,rfl,hw,ι,Z,?_⟩
  have hx:Ext w (setCells w a0.block (a0.off+p.off) vs) (ι p.id).F:=setCells_ext _ _ _ _ fun i hi=>by
   have:=(hwr (p.off+i) (by omega)).2;rwa [← Nat.add_assoc] at this
  have hm:Moves w Z s ι (setCells w a0.block (a0.off+p.off) vs) Z (s.putO p.id (.var (ver+1) (old.take p.off++cs++old.drop (p.off+cs.length)))) ι := by
   refine⟨fun j=>?_,fun _ _ h=>h,Same.of_ext hx h.kept_in ?_⟩
   ·show Turn (s.o j) (ι j) (upd s.o p.id _ j) (ι j)
    by_cases hj:p.id=j
    ·subst hj;rw [upd_same,ho];exact .var _ _ _ _ _ (by omega) (by simp;omega)
    ·rw [upd_ne hj];exact .stay _ _
   ·rintro b o (hz | ⟨id,hl,hst,_,hf⟩) hf'
    ·exact h.apartZ p.id hlive b o hf' hz
    ·have hne:id≠p.id:=by
      rintro rfl
      have:upd s.o p.id _ p.id=s.o p.id:=hst
      rw [upd_same,ho] at this
      injection this with h1 h2
      omega
     exact h.apart id p.id hl hlive hne b o hf hf'
  refine h.next hm hx (fun b o hf=>(h.own p.id hlive b o hf).1) (fun _ _ h=>.inl h) ?_ ?_ (fun k=>(h.tmps k).move hm) h.size h.defers
  ·intro j hl hne
   by_cases hj:p.id=j
   ·subst hj
    refine⟨?_,fun b o hf=>⟨(h.own _ hlive b o hf).1,by have:=(h.own _ hlive b o hf).2;exact Nat.lt_of_lt_of_le this hx.size⟩,fun id' hl' hne'=>?_⟩
    ·show ObjRep _ _ _ _ _ (upd s.o p.id _ p.id)
     rw [upd_same]
     refine⟨a0,splice us p.off vs,hb,hsp,(hcu.splice hc p.off).move hm,?_,fun j hj=>?_⟩
     ·exact setCells_splice hat (fun i hi=>(hwr i (by omega)).1) (by omega)
     ·have:j<old.length:=by simp at hj;omega
      exact⟨hx.writable (hwr j this).1,(hwr j this).2⟩
    ·have hl2:(s.o id').live:=by
      have:(upd s.o p.id _ id').live:=hl'
      rwa [upd_ne hne'] at this
     exact h.apart p.id id' hlive hl2 hne'
   ·exact absurd ⟨upd_ne hj,rfl⟩ hne
  ·intro j hl
   by_cases hj:p.id=j
   ·subst hj;exact h.apartZ _ hlive
   ·have hl2:(s.o j).live:=by
     have:(upd s.o p.id _ j).live:=hl
     rwa [upd_ne hj] at this
    exact h.apartZ j hl2
 | row t em ver xs =>
  rw [ho] at hr hp
  obtain ⟨i,he,hi,a0,hb,rfl⟩:=hp
  rw [he] at hr
  have hlive:(s.o p.id).live:=by rw [ho];trivial
  simp only at hr
  cases hble:Nat.ble (p.off+cs.length) t.size
  ·rw [hble] at hr;simp at hr
  rw [hble] at hr
  have hble:=Nat.le_of_ble_eq_true hble
  obtain ⟨q,hq,hr⟩:=obi hr
  cases hq1:q.2.1 with
  | cons=>rw [hq1] at hr;simp at hr
  | nil =>
   cases hq2:q.2.2.o p.id with
   | none=>rw [hq1,hq2] at hr;simp at hr
   | dead=>rw [hq1,hq2] at hr;simp at hr
   | lent=>rw [hq1,hq2] at hr;simp at hr
   | var=>rw [hq1,hq2] at hr;simp at hr
   | row t2 em2 ver2 xs2 =>
    rw [hq1,hq2] at hr
    obtain rfl:=osj hr
    have hsk:p.off≤t.size:=by omega
    obtain ⟨us,rest,F1,Z1,e1,i1,s1,c1,f1,g1,l1,l2,k1⟩:=Ty.put_sound t em (gd t xs i) p.off cs s q vs Z hq hsk h hc
    rw [hq1] at c1
    have hrest:rest=[]:=by
     cases rest with
     | nil=>rfl
     | cons=>exact c1.elim
    subst hrest
    rw [List.append_nil] at e1
    subst e1
    have hl1:(q.2.2.o p.id).live:=by rw [hq2];trivial
    have hst:=(s1.live hl1).2
    rw [ho] at hst
    have hobj:=h.objs p.id
    rw [ho] at hobj
    rcases hobj with⟨rfl,_⟩ | ⟨a0',hb',hrow⟩
    ·simp at hi
    rw [hb] at hb'
    obtain rfl:=osj hb'
    have hin:(i+1)*t.size≤(ι p.id).cap*t.size:=Nat.mul_le_mul_right _ (by have:=hrow.cap;omega)
    have hin':i*t.size+t.size≤(ι p.id).cap*t.size:=by rw [← Nat.add_one_mul];exact hin
    have hw:∀k,k<vs.length→Writable w a0.block (a0.off+i*t.size+p.off+k):=fun k hk=>by
     have:=(hrow.wr (i*t.size+p.off+k) (by omega)).1
     rwa [show a0.off +(i*t.size+p.off+k)=a0.off+i*t.size+p.off+k by omega] at this
    have hwF:∀k,k<vs.length→(ι p.id).F a0.block (a0.off+i*t.size+p.off+k):=fun k hk=>by
     have:=hrow.inF (i*t.size+p.off+k) (by omega)
     rwa [show a0.off +(i*t.size+p.off+k)=a0.off+i*t.size+p.off+k by omega] at this
    refine⟨_,_,rfl,hw,?_⟩
    let i':OI:=⟨(ι p.id).base,(ι p.id).cap,(ι p.id).F.or F1⟩
    let o':LObj:=.row t em (ver+1) (xs.set i q.1)
    have hx:Ext w (setCells w a0.block (a0.off+i*t.size+p.off) vs) (ι p.id).F:=setCells_ext _ _ _ _ hwF
    have hm:Moves w Z1 q.2.2 ι (setCells w a0.block (a0.off+i*t.size+p.off) vs) Z1 (q.2.2.putO p.id o') (upd ι p.id i'):=by
     refine⟨fun j=>?_,fun _ _ h=>h,Same.of_ext hx i1.kept_in ?_⟩
     ·show Turn (q.2.2.o j) (ι j) (upd q.2.2.o p.id o' j) (upd ι p.id i' j)
      by_cases hj:p.id=j
      ·subst hj;rw [upd_same,upd_same,hst];exact .row _ _ _ _ _ _ _ _ _ (by omega) (by simp) rfl rfl
      ·rw [upd_ne hj,upd_ne hj];exact .stay _ _
     ·rintro b o (hz | ⟨id,hl,hst',_,hf⟩) hf'
      ·exact i1.apartZ p.id hl1 b o hf' hz
      ·have hne:id≠p.id:=by
        rintro rfl
        have:upd q.2.2.o p.id o' p.id=q.2.2.o p.id:=hst'
        rw [upd_same,hst] at this
        injection this with h1 h2 h3
        omega
       exact i1.apart id p.id hl hl1 hne b o hf hf'
    have hlive':∀ {j},p.id≠j→((q.2.2.putO p.id o').o j).live→(q.2.2.o j).live:=fun hj hl=>by
     have:(upd q.2.2.o p.id o' _).live:=hl
     rwa [upd_ne hj] at this
    refine⟨_,_,i1.next hm hx (fun b o hf=>(i1.own p.id hl1 b o hf).1) (fun _ _ h=>.inl h) ?_ ?_ (fun k=>(i1.tmps k).move hm) i1.size i1.defers⟩
    ·intro j hl hne
     by_cases hj:p.id=j
     ·subst hj
      rw [upd_same]
      refine⟨?_,fun b o hf=>?_,fun id' hl' hne'=>?_⟩
      ·show ObjRep _ _ _ _ _ (upd q.2.2.o p.id o' p.id)
       rw [upd_same]
       refine .inr ⟨a0,hb,hrow.spot,by simpa [o'] using hrow.cap,fun j hj=>hx.wrR (hrow.wr j hj),fun j hj=>.inl (hrow.inF j hj),?_⟩
       obtain ⟨G,r1,r2,r3⟩:=hrow.row
       have hGsame:Same w (setCells w a0.block (a0.off+i*t.size+p.off) vs) G:=by
        intro b o hg
        refine⟨?_,fun _=>setCells_frozen _ _ _ _ _ _⟩
        rw [setCells_cell _ _ _ _ (fun i hi=>(hw i hi).1),if_neg]
        rintro ⟨rfl,h1,h2⟩
        have:=r2 (o-a0.off) (by omega)
        rw [show a0.off +(o-a0.off)=o by omega] at this
        exact this hg
       have hZsame:Same w (setCells w a0.block (a0.off+i*t.size+p.off) vs) Z1:=hm.same.mono fun b o hz=>.inl hz
       have hF1same:Same w (setCells w a0.block (a0.off+i*t.size+p.off) vs) F1:=by
        refine Same.of_ext hx (fun b o hf=>(f1.own b o hf).2) fun b o hf hf'=>f1.apart p.id hl1 b o hf hf'
       refine⟨G.or F1,?_,?_,?_⟩
       ·refine Row.set (w:=w) (R:=t.Rep w Z em) i hi r1 (fun y us G' hG hy=>Ty.Rep.same hZsame _ _ (hGsame.mono hG) (Ty.Rep.mono s1.zsub _ _ (fun _ _ h=>h) hy)) ?_ ?_ (fun b o hf hg=>f1.apart p.id hl1 b o hf (r3 b o hg))
        ·intro j hj hjj
         rw [setCells_cell _ _ _ _ (fun i hi=>(hw i hi).1),if_neg]
         rintro ⟨_,h1,h2⟩
         rw [Nat.add_one_mul] at hjj
         omega
        ·intro us G' k2 k3 k4 k5
         refine⟨splice us p.off vs,by rw [splice_length (by omega)];exact k3,?_,?_⟩
         ·refine setCells_splice k4 (fun k hk=>?_) (by omega)
          have:=(hrow.wr (i*t.size+k) (by omega)).1
          rwa [← Nat.add_assoc] at this
         ·have:=k1 us G' (by rw [gd_eq hi];exact k2) p.id hl1 (fun b o hg=>r3 b o (k5 b o hg))
          refine Ty.Rep.same hZsame _ _ ?_ this
          intro b o hg
          rcases hg with hg | hg
          ·exact hGsame b o (k5 b o hg)
          ·exact hF1same b o hg
       ·rintro j hj (hg | hg)
        ·exact r2 j hj hg
        ·exact f1.apart p.id hl1 _ _ hg (hrow.inF j hj)
       ·rintro b o (hg | hg)
        ·exact .inl (r3 b o hg)
        ·exact .inr hg
      ·rcases hf with hf | hf
       ·exact⟨(i1.own _ hl1 b o hf).1,Nat.lt_of_lt_of_le (i1.own _ hl1 b o hf).2 hx.size⟩
       ·exact⟨(f1.own b o hf).1,Nat.lt_of_lt_of_le (f1.own b o hf).2 hx.size⟩
      ·rw [upd_ne hne']
       have hl2:=hlive' hne' hl'
       rintro b o (hf | hf) hf'
       ·exact i1.apart p.id id' hl1 hl2 hne' b o hf hf'
       ·exact f1.apart id' hl2 b o hf hf'
     ·exact absurd ⟨upd_ne hj,upd_ne hj⟩ hne
    ·intro j hl
     by_cases hj:p.id=j
     ·subst hj
      rw [upd_same]
      rintro b o (hf | hf) hz
      ·exact i1.apartZ _ hl1 b o hf hz
      ·exact f1.apartZ b o hf hz
     ·rw [upd_ne hj];exact i1.apartZ j (hlive' hj hl)
 | none=>rw [ho] at hr;simp at hr
 | dead=>rw [ho] at hr;simp at hr
 | lent=>rw [ho] at hr;simp at hr
end
end Go.LM
namespace Go.LM
mutual
def Ty.zvals:Ty→List Value
 | .int k=>[.int k 0]
 | .bool=>[.bool false]
 | .str=>[.string ⟨#[]⟩]
 | .raw=>[.slice none 0 0]
 | .sl _=>[.slice none 0 0]
 | .st ts=>ts.zvals
def Tys.zvals:Tys→List Value
 | .nil=>[]
 | .cons t ts=>t.zvals++ts.zvals
end
def wrapV(t:Ty)(vs:List Value):Value :=
 match t with
 | .st _=>.agg vs.toArray
 | _=>vs.headD undef
def InfoOk(P:Program)(id:TypeId)(t:Ty):Prop :=
 ∃i,P.info? id=some i∧i.size=t.size∧i.zero=some (wrapV t t.zvals)∧i.bytes≤2048
mutual
def Ty.ok(P:Program):Ty→TypeId→Prop
 | .int k,id=>P.underlying id=some (.int k)∧InfoOk P id (.int k)
 | .bool,id=>P.underlying id=some .bool∧InfoOk P id .bool
 | .str,id=>P.underlying id=some .string∧InfoOk P id .str
 | .raw,id=>InfoOk P id .raw∧∃e,P.underlying id=some (.slice e)
 | .sl t,id=>InfoOk P id (.sl t)∧∃e,P.underlying id=some (.slice e)∧t.ok P e
 | .st ts,id=>InfoOk P id (.st ts)∧∃fs,P.underlying id=some (.struct fs)∧ts.okF P fs.toList 0
def Tys.okF(P:Program):Tys→List Field→Nat→Prop
 | .nil,fs,_=>fs=[]
 | .cons t ts,fs,off=>∃f fs',fs=f :: fs'∧f.offset=off∧t.ok P f.type∧ts.okF P fs' (off+t.size)
end
def Ty.agg:Ty→Bool
 | .st _=>true
 | _=>false
theorem Ty.ok.info{P:Program}{t:Ty}{id:TypeId}(h:t.ok P id):InfoOk P id t:=by
 cases t <;> simp only [Ty.ok] at h <;> first | exact h.2 | exact h.1
theorem Ty.zvals_len:∀t:Ty,t.zvals.length=t.size
 | .int _=>rfl
 | .bool=>rfl
 | .str=>rfl
 | .raw=>rfl
 | .sl _=>rfl
 | .st ts=>by
  simp only [Ty.zvals,Ty.size]
  exact go ts
where
 go:∀ts:Tys,ts.zvals.length=ts.size
 | .nil=>rfl
 | .cons t ts=>by simp only [Tys.zvals,Tys.size,List.length_append,Ty.zvals_len t,go ts]
section
variable{P:Program}{t:Ty}{id:TypeId}{w:World}
theorem run_underlying{d:TypeDesc}(h:P.underlying id=some d):(underlying id).run P w=.ok d w:=by
 simp [underlying,run_bind,program,Sem.run,h,run_pure]
theorem run_typeInfo{i:TypeInfo}(h:P.info? id=some i):(typeInfo id).run P w=.ok i w:=by
 simp [typeInfo,run_bind,program,Sem.run,h,run_pure]
theorem run_sizeOf(h:t.ok P id):(sizeOf id).run P w=.ok t.size w:=by
 obtain ⟨i,h1,h2,_⟩:=h.info
 simp [sizeOf,run_bind,run_typeInfo h1,run_pure,h2]
theorem run_zeroValue(h:t.ok P id):(zeroValue id).run P w=.ok (wrapV t t.zvals) w:=by
 obtain ⟨i,h1,_,h3,_⟩:=h.info
 simp [zeroValue,run_bind,run_typeInfo h1,run_pure,h3]
theorem run_isAgg(h:t.ok P id):(isAgg id).run P w=.ok t.agg w:=by
 unfold isAgg
 cases t with
 | st ts=>obtain ⟨_,fs,h1,_⟩:=(by simpa only [Ty.ok] using h:InfoOk P id (.st ts)∧∃fs,P.underlying id=some (.struct fs)∧ts.okF P fs.toList 0);rw [run_bind,run_underlying h1];rfl
 | sl t=>obtain ⟨_,e,h1,_⟩:=(by simpa only [Ty.ok] using h:InfoOk P id (.sl t)∧∃e,P.underlying id=some (.slice e)∧t.ok P e);rw [run_bind,run_underlying h1];rfl
 | raw=>obtain ⟨_,e,h1⟩:=(by simpa only [Ty.ok] using h:InfoOk P id .raw∧∃e,P.underlying id=some (.slice e));rw [run_bind,run_underlying h1];rfl
 | int k=>have h1:=(by simpa only [Ty.ok] using h:P.underlying id=some (.int k)∧InfoOk P id (.int k));rw [run_bind,run_underlying h1.1];rfl
 | bool=>have h1:=(by simpa only [Ty.ok] using h:P.underlying id=some .bool∧InfoOk P id .bool);rw [run_bind,run_underlying h1.1];rfl
 | str=>have h1:=(by simpa only [Ty.ok] using h:P.underlying id=some .string∧InfoOk P id .str);rw [run_bind,run_underlying h1.1];rfl
theorem size_one(h:t.agg=false):t.size=1:=by cases t <;> simp_all [Ty.agg,Ty.size]
theorem wrapV_agg(h:t.agg=true)(vs:List Value):wrapV t vs=.agg vs.toArray:=by cases t <;> simp_all [Ty.agg,wrapV]
theorem wrapV_one(h:t.agg=false)(v:Value):wrapV t [v]=v:=by cases t <;> simp_all [Ty.agg,wrapV]
theorem run_loadVar(h:t.ok P id){b o:Nat}{vs:List Value}(hc:CellsAt w b o vs)(hl:vs.length=t.size):(loadVar id (at_ b o)).run P w=.ok (wrapV t vs) w:=by
 unfold loadVar
 rw [run_bind,run_isAgg h]
 simp only
 cases ha:t.agg
 ·rw [size_one ha] at hl
  match vs,hl with
  | [v],_ =>
   rw [wrapV_one ha]
   simp only [Bool.false_eq_true,if_false]
   exact run_load hc.head
 ·simp only [if_true]
  rw [run_bind,run_sizeOf h,← hl]
  simp only
  rw [run_bind,run_loadCells hc,wrapV_agg ha]
  rfl
theorem cells_one{v:Value}(h:oneC v=true):v.cells = #[v]:=by cases v <;> simp_all [oneC,Value.cells]
theorem run_storeVar(h:t.ok P id){b o:Nat}{v:Value}(hl:v.cells.size=t.size)(h1:∀u∈v.cells.toList,oneC u=true)(hw:∀i,i<v.cells.size→Writable w b (o+i)) :
  (storeVar id (at_ b o) v).run P w=.ok () (setCells w b o v.cells.toList):=by
 unfold storeVar
 rw [run_bind,run_sizeOf h]
 simp only
 rw [if_neg (by simp [hl])]
 have:=run_storeCells (P:=P) (b:=b) (o:=o) v.cells.toList w 0 h1 (fun i hi=>by simpa using hw i (by simpa using hi))
 simpa using this
theorem run_newVar{e:TypeId}{v:Value} :(newVar e v).run P w=.ok (at_ w.heap.size 0) { w with heap:=w.heap.push (.cells v.cells e) } := by
 simp [newVar,newRow,Go.newObj,run_bind,Sem.run,run_pure,at_]
end
section
variable{w0:World}{F0 Z0:Reg}{n:Frm}{s s':St}{a a':Act}{w w':World}{ι ι':Nat→OI}{Z Z':Reg}
theorem cellsT_rep{t:Ty}{x:TV}{cs:List HC}{v:Value}(h:cellsT t x=some cs)(hv:TVRep w Z s ι x v):CellsRep w Z s ι cs v.cells.toList:=by
 cases x <;> simp only [cellsT] at h <;> try (simp at h;done)
 ·obtain rfl:=osj h
  simp only [TVRep] at hv
  rw [cells_one hv.oneC]
  exact⟨hv,trivial⟩
 ·obtain rfl:=osj h
  simp only [TVRep] at hv
  obtain ⟨vs,rfl,hc⟩:=hv
  simpa [Value.cells] using hc
 ·cases t <;> simp at h
  subst h
  simp only [TVRep] at hv
  subst hv
  exact⟨rfl,trivial⟩
theorem wrapT_rep{t:Ty}{x:TV}{cs:List HC}{vs:List Value}(h:wrapT t cs=some x)(hc:CellsRep w Z s ι cs vs):TVRep w Z s ι x (wrapV t vs):=by
 cases t with
 | st ts=>simp only [wrapT] at h;obtain rfl:=osj h;simp only [TVRep,wrapV];exact⟨vs,rfl,hc⟩
 | _ =>
  simp only [wrapT] at h
  match cs,vs,hc with
  | [],[],_=>simp at h
  | [c],[v],hc=>simp at h;subst h;simp only [TVRep,wrapV];exact hc.1
  | _ :: _ :: _,_,_=>simp at h
theorem zcells_rep:∀t:Ty,CellsRep w Z s ι t.zcells t.zvals
 | .int _=>⟨rfl,trivial⟩
 | .bool=>⟨rfl,trivial⟩
 | .str=>⟨⟨_,rfl,rfl⟩,trivial⟩
 | .raw=>⟨⟨rfl,_,_,_,rfl⟩,trivial⟩
 | .sl _=>⟨rfl,trivial⟩
 | .st ts=>by simp only [Ty.zcells,Ty.zvals];exact go ts
where
 go:∀ts:Tys,CellsRep w Z s ι ts.zcells ts.zvals
 | .nil=>trivial
 | .cons t ts=>by simp only [Tys.zcells,Tys.zvals];exact(zcells_rep t).append (go ts)
theorem wrapV_cells{t:Ty}{vs:List Value}(hl:vs.length=t.size)(h1:∀v∈vs,oneC v=true):(wrapV t vs).cells.toList=vs:=by
 cases ha:t.agg
 ·rw [size_one ha] at hl
  match vs,hl with
  | [v],_=>rw [wrapV_one ha,cells_one (h1 v (by simp))]
 ·rw [wrapV_agg ha];simp [Value.cells]
theorem Inv.newVar(h:Inv w0 F0 Z0 n s a w ι Z){id:Nat}(hid:s.o id=.none){cs:List HC}{vs:Array Value}(hc:CellsRep w Z s ι cs vs.toList)(e:TypeId) :
  Inv w0 F0 Z0 n (s.putO id (.var 0 cs)) a { w with heap:=w.heap.push (.cells vs e) } (upd ι id ⟨some (at_ w.heap.size 0),0,Reg.run w.heap.size 0 cs.length⟩) Z:=by
 have hx:=Ext.push w (.cells vs e) Reg.none
 have hm:=moves_new h hid hx (.var 0 cs) ⟨some (at_ w.heap.size 0),0,Reg.run w.heap.size 0 cs.length⟩
 have hl:=hc.len
 refine h.new hid hx ?_ ?_
 ·refine⟨at_ w.heap.size 0,vs.toList,rfl,rfl,hc.move hm,?_,fun j hj=>⟨⟨?_,?_⟩,rfl,by simp [at_],by simpa [at_] using hj⟩⟩
  ·intro i v hv
   show World.cell? _ (at_ w.heap.size (0+i))=_
   rw [cell_push_new];simpa using hv
  ·refine⟨vs[j]'(by simp at hl;omega),?_⟩
   show World.cell? _ (at_ w.heap.size (0+j))=_
   rw [cell_push_new];simp
  ·show World.frozen? _ (at_ w.heap.size (0+j))=_
   rw [frozen_eq,heap_push_new];simp
 ·rintro b o ⟨rfl,_,_⟩;simp
end
end Go.LM
