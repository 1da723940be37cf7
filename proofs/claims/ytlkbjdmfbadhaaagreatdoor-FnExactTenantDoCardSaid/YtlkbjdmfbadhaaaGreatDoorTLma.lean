/- The data and the interpreter of the reflective walk, and how its states stand for frames and worlds. Conditions: each theorem's own hypotheses. -/
import Derived.Calls
import Derived.KernelRfl
import Derived.Orders
set_option linter.unusedVariables false
set_option linter.unusedSimpArgs false
namespace Go.LM
theorem ak.{u,v}{α:Type u}{β:Type v}(a:α)(f:α→Option β):(some a).bind f=f a:=rfl
theorem aX.{u}{α:Type u}{a b:α}(h:some a=some b):a=b:=_root_.Option.some.inj h
theorem bj.{u,v}{α:Type u}{β:Type v}{o:Option α}{f:α→Option β}{b:β}(h:o.bind f=some b):∃a,o=some a∧f a=some b:=_root_.Option.bind_eq_some_iff.1 h
mutual
inductive aa where
 | int (k:IntKind)
 | bool
 | str
 | sl (t:aa)
 | st (aj:az)
 | raw
inductive az where
 | nil
 | cons (t:aa) (aj:az)
end
mutual
@[reducible] def aa.D:aa→Type
 | .int _=>Int
 | .bool=>Bool
 | .str=>List UInt8
 | .sl t=>List t.D
 | .st aj=>aj.D
 | .raw=>Value
@[reducible] def az.D:az→Type
 | .nil=>Unit
 | .cons t aj=>t.D×aj.D
end
def dj:IntKind→Nat
 | .i8=>0 | .i16=>1 | .i32=>2 | .i64=>3 | .u8=>4 | .u16=>5 | .u32=>6 | .u64=>7
theorem tw:∀ {a b:IntKind},dj a=dj b→a=b:=by
 intro a b;cases a <;> cases b <;> simp [dj]
mutual
def aa.beq:aa→aa→Bool
 | .int a,.int b=>Nat.beq (dj a) (dj b)
 | .bool,.bool=>true
 | .str,.str=>true
 | .sl a,.sl b=>aa.beq a b
 | .st a,.st b=>az.beq a b
 | .raw,.raw=>true
 | _,_=>false
def az.beq:az→az→Bool
 | .nil,.nil=>true
 | .cons a as,.cons b bq=>cond (aa.beq a b) (az.beq as bq) false
 | _,_=>false
end
mutual
theorem aa.eq_of_beq:∀(a b:aa),aa.beq a b=true→a=b
 | .int a,.int b,h=>by simp only [aa.beq] at h;rw [tw (Nat.eq_of_beq_eq_true h)]
 | .bool,.bool,_=>rfl
 | .str,.str,_=>rfl
 | .sl a,.sl b,h=>by simp only [aa.beq] at h;rw [aa.eq_of_beq a b h]
 | .st a,.st b,h=>by simp only [aa.beq] at h;rw [az.eq_of_beq a b h]
 | .raw,.raw,_=>rfl
 | .int _,.bool,h | .int _,.str,h | .int _,.sl _,h | .int _,.st _,h | .int _,.raw,h=>by simp [aa.beq] at h
 | .bool,.int _,h | .bool,.str,h | .bool,.sl _,h | .bool,.st _,h | .bool,.raw,h=>by simp [aa.beq] at h
 | .str,.int _,h | .str,.bool,h | .str,.sl _,h | .str,.st _,h | .str,.raw,h=>by simp [aa.beq] at h
 | .sl _,.int _,h | .sl _,.bool,h | .sl _,.str,h | .sl _,.st _,h | .sl _,.raw,h=>by simp [aa.beq] at h
 | .st _,.int _,h | .st _,.bool,h | .st _,.str,h | .st _,.sl _,h | .st _,.raw,h=>by simp [aa.beq] at h
 | .raw,.int _,h | .raw,.bool,h | .raw,.str,h | .raw,.sl _,h | .raw,.st _,h=>by simp [aa.beq] at h
theorem az.eq_of_beq:∀(a b:az),az.beq a b=true→a=b
 | .nil,.nil,_=>rfl
 | .cons a as,.cons b bq,h=>by
  simp only [az.beq] at h
  cases hb:aa.beq a b
  ·rw [hb] at h;simp at h
  ·rw [hb] at h;rw [aa.eq_of_beq a b hb,az.eq_of_beq as bq h]
 | .nil,.cons _ _,h | .cons _ _,.nil,h=>by simp [az.beq] at h
end
def ew(a b:aa)(x:a.D):Option b.D :=
 if h:aa.beq a b=true then some ((aa.eq_of_beq a b h) ▸ x) else none
theorem BG{a b:aa}{x:a.D}{y:b.D}(h:ew a b x=some y):∃e:a=b,y=e ▸ x:=by
 unfold ew at h
 split at h
 ·rename_i hb;exact⟨aa.eq_of_beq a b hb,by injection h with h;exact h.symm⟩
 ·simp at h
mutual
def aa.size:aa→Nat
 | .st aj=>aj.size
 | _=>1
def az.size:az→Nat
 | .nil=>0
 | .cons t aj=>t.size+aj.size
end
mutual
def aa.zero:(t:aa)→t.D
 | .int _=>(0:Int)
 | .bool=>false
 | .str=>([]:List UInt8)
 | .sl t=>([]:List t.D)
 | .st aj=>aj.zero
 | .raw=>(.slice none 0 0:Value)
def az.zero:(aj:az)→aj.D
 | .nil=>()
 | .cons t aj=>(t.zero,aj.zero)
end
mutual
inductive bg where
 | R
 | O (e:bg)
 | S (ms:cM)
inductive cM where
 | nil
 | cons (m:bg) (ms:cM)
end
mutual
def bg.beq:bg→bg→Bool
 | .R,.R=>true
 | .O a,.O b=>bg.beq a b
 | .S a,.S b=>cM.beq a b
 | _,_=>false
def cM.beq:cM→cM→Bool
 | .nil,.nil=>true
 | .cons a as,.cons b bq=>cond (bg.beq a b) (cM.beq as bq) false
 | _,_=>false
end
mutual
theorem bg.eq_of_beq:∀(a b:bg),bg.beq a b=true→a=b
 | .R,.R,_=>rfl
 | .O a,.O b,h=>by simp only [bg.beq] at h;rw [bg.eq_of_beq a b h]
 | .S a,.S b,h=>by simp only [bg.beq] at h;rw [cM.eq_of_beq a b h]
 | .R,.O _,h | .R,.S _,h | .O _,.R,h | .O _,.S _,h | .S _,.R,h | .S _,.O _,h=>by simp [bg.beq] at h
theorem cM.eq_of_beq:∀(a b:cM),cM.beq a b=true→a=b
 | .nil,.nil,_=>rfl
 | .cons a as,.cons b bq,h=>by
  simp only [cM.beq] at h
  cases hb:bg.beq a b
  ·rw [hb] at h;simp at h
  ·rw [hb] at h;rw [bg.eq_of_beq a b hb,cM.eq_of_beq as bq h]
 | .nil,.cons _ _,h | .cons _ _,.nil,h=>by simp [cM.beq] at h
end
def bg.elem:bg→bg
 | .O e=>e
 | _=>.R
def cM.ah:cM→bg
 | .cons m _=>m
 | .nil=>.R
def cM.du:cM→cM
 | .cons _ ms=>ms
 | .nil=>.nil
def bg.parts:bg→cM
 | .S ms=>ms
 | _=>.nil
structure Place where
 id:Nat
 fb:Option Nat
 off:Nat
inductive bb where
 | int (k:IntKind) (x:Int)
 | bool (b:Bool)
 | str (s:List UInt8)
 | raw (v:Value)
 | nil (t:aa)
 | bA (t:aa) (aqP:List (Nat×Nat)) (aqQ:Option Place) (xs:List t.D)
 | ah (id:Nat) (sub:Option (Nat×Nat))
inductive a' where
 | aw
 | gone
 | aU (c:bb)
 | h8 (cs:List bb)
 | ptr (p:Place)
 | c3 (dp:List (Nat×Nat)) (cs:List bb) (off:Nat)
 | jS
 | kD
 | opt (id:Nat) (o:Int)
 | ru (t:aa)
 | may (b:Bool) (dp:List (Nat×Nat)) (cs:List bb)
 | fn (f:FuncId) (first k0:List a')
 | oK (l:List a')
inductive cj where
 | none
 | dead
 | var (ver:Nat) (cs:List bb)
 | row (t:aa) (em:bg) (ver:Nat) (xs:List t.D)
 | b_ (o:cj)
def cj.core:cj→cj
 | .b_ o=>o
 | o=>o
structure al where
 t:Nat→a'
 o:Nat→cj
 g:List a'
def bP{α : Type}(f:Nat → α)(i:Nat)(v : α):Nat → α := fun j=>cond (Nat.beq j i) v (f j)
theorem cz{α : Type}(f:Nat → α)(i:Nat)(v : α):bP f i v i=v:=by simp [bP]
theorem rv{α : Type}{f:Nat → α}{i j:Nat}{v : α}(h:j≠i):bP f i v j=f j:=by
 unfold bP
 have:Nat.beq j i=false:=by
  cases hb:Nat.beq j i
  ·rfl
  ·exact absurd (Nat.eq_of_beq_eq_true hb) h
 rw [this];rfl
def al.set(s:al)(d:Nat)(v:a'):al:=⟨bP s.t d v,s.o,s.g⟩
def al.bL(s:al)(i:Nat)(v:cj):al:=⟨s.t,bP s.o i v,s.g⟩
def al.dst(s:al)(d:Option Nat)(v:a'):al :=
 match d with
 | some d=>s.set d v
 | none=>s
mutual
def aa.cells:(t:aa)→List (Nat×Nat)→Option Place→t.D→List bb
 | .int k,_,_,x=>[.int k x]
 | .bool,_,_,x=>[.bool x]
 | .str,_,_,x=>[.str x]
 | .sl t,dp,ct,x=>[.bA t dp ct x]
 | .st aj,dp,ct,x=>aj.cells dp ct x
 | .raw,_,_,x=>[.raw x]
def az.cells:(aj:az)→List (Nat×Nat)→Option Place→aj.D→List bb
 | .nil,_,_,_=>[]
 | .cons t aj,dp,ct,x=>t.cells dp ct x.1++aj.cells dp (ct.map fun p => { p with off:=p.off+t.size }) x.2
end
mutual
def aa.jd:aa→List bb
 | .int k=>[.int k 0]
 | .bool=>[.bool false]
 | .str=>[.str []]
 | .sl t=>[.nil t]
 | .st aj=>aj.jd
 | .raw=>[.raw (.slice none 0 0)]
def az.jd:az→List bb
 | .nil=>[]
 | .cons t aj=>t.jd++aj.jd
end
mutual
def aa.own:aa→bg
 | .sl t=>.O t.own
 | .st aj=>if aj.flat then .R else .S aj.own
 | _=>.R
def az.own:az→cM
 | .nil=>.nil
 | .cons t aj=>.cons t.own aj.own
def aa.flat:aa→Bool
 | .sl _=>false
 | .st aj=>aj.flat
 | _=>true
def az.flat:az→Bool
 | .nil=>true
 | .cons t aj=>cond t.flat aj.flat false
end
def bg.le(a b:bg):Bool :=
 match b with
 | .R=>true
 | _=>bg.beq a b
end Go.LM
namespace Go.LM
def room(n:Nat):Bool:=Nat.ble n 68719476736
def jy{bs : Type}(b:Bool)(x:Option bs):Option bs := cond b x none
def aL(n:Nat)(i:Int):Option Nat:=if 0≤i∧i<(n:Int) then some i.toNat else none
def dN(n:Nat)(lo hi:Int):Option (Nat×Nat):=if 0≤lo∧lo≤hi∧hi≤(n:Int) then some (lo.toNat,hi.toNat) else none
def J(t:aa)(xs:List t.D)(n:Nat):t.D:=xs.getD n t.zero
def part{α : Type}(l:List α)(lo len:Nat):List α :=(l.drop lo).take len
def ay(x:Int):Int:=IntKind.wrap .i64 x
def c_(op:BinOp)(k:IntKind)(x y:Int):Int :=
 let a:=BitVec.ofInt k.bits x
 let b:=BitVec.ofInt k.bits y
 match op with
 | .and=>k.wrap (a &&& b).toNat
 | .or=>k.wrap (a ||| b).toNat
 | .xor=>k.wrap (a ^^^ b).toNat
 | _=>k.wrap (a &&& ~~~b).toNat
def bB(x y:List UInt8):Bool:=decide (x=y)
def dv(x y:List UInt8):Bool:=Op.bytesLess x y
def abH(x y:Int):Int:=if y>x then y else x
def jz(x y:Int):Int:=if y<x then y else x
def ek(s:List UInt8):List Int:=s.map fun b=>(b.toNat:Int)
def ga(l:List Int):List UInt8:=l.map fun n=>UInt8.ofNat n.toNat
inductive bt where
 | val (t:aa) (m:bg)
 | ref (t:aa)
 | mut (t:aa) (m m':bg)
 | gI (t:aa) (m:bg)
 | fn (lR oL:Nat)
 | gZ (t:aa)
inductive cO where
 | val (t:aa) (m:bg)
 | opt (arg off:Nat) (t:aa)
 | new (t:aa) (m:bg)
 | oM (t:aa)
 | any (t:aa)
def bt.ins:List bt→az
 | []=>.nil
 | .val t _ :: l | .ref t :: l | .mut t _ _ :: l | .gI t _ :: l | .gZ t :: l=>.cons t (bt.ins l)
 | .fn _ _ :: l=>bt.ins l
def cO.outs:List cO→az→az
 | [],aj=>aj
 | .val t _ :: l,aj=>.cons t (cO.outs l aj)
 | .new t _ :: l,aj=>.cons t (cO.outs l aj)
 | .oM t :: l,aj=>.cons (.sl t) (cO.outs l aj)
 | .any _ :: l,aj=>cO.outs l aj
 | .opt _ _ _ :: l,aj=>.cons (.int .i64) (cO.outs l aj)
def bt.dM:List bt→az
 | []=>.nil
 | .mut t _ _ :: l | .gI t _ :: l=>.cons t (bt.dM l)
 | _ :: l=>bt.dM l
structure Entry where
 ps:List bt
 rs:List cO
 f:(bt.ins ps).D→Option (cO.outs rs (bt.dM ps)).D
structure Env where
 n:Nat
 ty:Nat→Option aa
 I4:Nat→Bool
 tx:Nat→Bool
 fns:FuncId→FuncId→Option Entry
def kE{α : Type}(sub:Option (Nat×Nat))(xs:List α):List α :=
 match sub with
 | none=>xs
 | some (lo,len)=>part xs lo len
def k4{α : Type}(sub:Option (Nat×Nat))(xs:List α):Nat :=
 match sub with
 | none=>xs.length
 | some (_,len)=>len
def d_(sub:Option (Nat×Nat)):Nat :=
 match sub with
 | none=>0
 | some (lo,_)=>lo
def alive(s:al):List (Nat×Nat)→Bool
 | []=>true
 | (i,v) :: l=>match s.o i with
  | .row _ _ w _=>cond (Nat.beq w v) (alive s l) false
  | .var w _=>cond (Nat.beq w v) (alive s l) false
  | _=>false
def km(s:al)(id:Nat):Nat :=
 match s.o id with
 | .row _ _ v _=>v
 | .var v _=>v
 | .b_ (.row _ _ v _)=>v
 | .b_ (.var v _)=>v
 | _=>0
def oN(s:al)(t:aa):bb→Option (List t.D)
 | .nil u=>ew (.sl u) (.sl t) ([]:List u.D)
 | .bA u dp _ xs=>cond (alive s dp) (ew (.sl u) (.sl t) xs) none
 | .ah id sub=>match s.o id with
  | .row u _ _ xs=>ew (.sl u) (.sl t) (kE sub xs)
  | _=>none
 | _=>none
def borrows(s:al):bb→List (Nat×Nat)
 | .ah id _=>match s.o id with
  | .row _ _ v _=>[(id,v)]
  | _=>[]
 | .bA _ dp _ _=>dp
 | _=>[]
mutual
def aa.imp:(t:aa)→(b:Bool)→bg→List bb→al→List (Nat×Nat)→Option (t.D×List bb×al×List (Nat×Nat))
 | .int k,_,_,.int k' x :: cs,s,bq=>cond (Nat.beq (dj k) (dj k')) (some (x,cs,s,bq)) none
 | .bool,_,_,.bool x :: cs,s,bq=>some (x,cs,s,bq)
 | .str,_,_,.str x :: cs,s,bq=>some (x,cs,s,bq)
 | .raw,_,_,.raw x :: cs,s,bq=>some (x,cs,s,bq)
 | .sl t,b,.O e,c :: cs,s,bq=>match c with
  | .nil u=>(ew (.sl u) (.sl t) ([]:List u.D)).bind fun x=>some (x,cs,s,bq)
  | .ah id sub=>match s.o id with
   | .row u em _ xs=>cond (bg.le em e) ((ew (.sl u) (.sl t) (kE sub xs)).bind fun x=>some (x,cs,s.bL id .dead,bq)) none
   | _=>none
  | _=>none
 | .sl t,true,_,c :: cs,s,bq=>(oN s t c).bind fun x=>some (x,cs,s,borrows s c++bq)
 | .sl t,false,_,c :: cs,s,bq=>match c with
  | .nil u=>(ew (.sl u) (.sl t) ([]:List u.D)).bind fun x=>some (x,cs,s,bq)
  | .bA u [] _ xs=>(ew (.sl u) (.sl t) xs).bind fun x=>some (x,cs,s,bq)
  | .ah id sub=>match s.o id with
   | .row u _ _ xs=>(ew (.sl u) (.sl t) (kE sub xs)).bind fun x=>some (x,cs,s.bL id .dead,bq)
   | _=>none
  | _=>none
 | .st aj,b,m,cs,s,bq=>aj.imp b m.parts cs s bq
 | _,_,_,_,_,_=>none
def az.imp:(aj:az)→(b:Bool)→cM→List bb→al→List (Nat×Nat)→Option (aj.D×List bb×al×List (Nat×Nat))
 | .nil,_,_,cs,s,bq=>some ((),cs,s,bq)
 | .cons t aj,b,m,cs,s,bq=>(t.imp b m.ah cs s bq).bind fun r=>(aj.imp b m.du r.2.1 r.2.2.1 r.2.2.2).bind fun q=>some ((r.1,q.1),q.2)
end
mutual
def aa.put:(t:aa)→bg→t.D→Nat→List bb→al→Option (t.D×List bb×al)
 | t,m,x,skip,cs,s =>
  match cs with
  | []=>some (x,[],s)
  | c :: cs' =>
   cond (Nat.beq skip 0&&Nat.ble t.size (cs'.length+1)) ((t.imp false m (c :: cs') s []).bind fun r=>some (r.1,r.2.1,r.2.2.1))
    (match t,x with
     | .st aj,x=>aj.put m.parts x skip (c :: cs') s
     | _,_=>none)
def az.put:(aj:az)→cM→aj.D→Nat→List bb→al→Option (aj.D×List bb×al)
 | .nil,_,_,_,cs,s=>some ((),cs,s)
 | .cons t aj,m,x,skip,cs,s =>
  cond (Nat.ble t.size skip) ((aj.put m.du x.2 (skip-t.size) cs s).bind fun q=>some ((x.1,q.1),q.2))
   ((t.put m.ah x.1 skip cs s).bind fun r=>(aj.put m.du x.2 0 r.2.1 r.2.2).bind fun q=>some ((r.1,q.1),q.2))
end
mutual
def aa.g_:(t:aa)→bg→List (Nat×Nat)→t.D→al→Nat→Option (List bb×al×Nat)
 | .int k,_,_,x,s,j=>some ([.int k x],s,j)
 | .bool,_,_,x,s,j=>some ([.bool x],s,j)
 | .str,_,_,x,s,j=>some ([.str x],s,j)
 | .raw,_,_,x,s,j=>some ([.raw x],s,j)
 | .sl t,.O e,dp,x,s,j=>cond (dp.isEmpty||bg.beq e t.own) (match s.o j with
  | .none=>some ([.ah j none],s.bL j (.row t e 0 x),j+1)
  | _=>none) none
 | .sl t,_,dp,x,s,j=>some ([.bA t dp none x],s,j)
 | .st aj,m,dp,x,s,j=>aj.g_ m.parts dp x s j
def az.g_:(aj:az)→cM→List (Nat×Nat)→aj.D→al→Nat→Option (List bb×al×Nat)
 | .nil,_,_,_,s,j=>some ([],s,j)
 | .cons t aj,m,dp,x,s,j=>(t.g_ m.ah dp x.1 s j).bind fun r=>(aj.g_ m.du dp x.2 r.2.1 r.2.2).bind fun q=>some (r.1++q.1,q.2)
end
mutual
def aa.yL:(t:aa)→al→List bb→bg×List bb
 | .sl t,s,c :: cs=>(match c with
  | .nil _=>.O t.own
  | .ah id _=>match s.o id with
   | .row _ em _ _=>.O em
   | _=>.R
  | _=>.R,cs)
 | .st aj,s,cs=>cond aj.flat (.R,cs.drop aj.size) (let r:=aj.yL s cs;(.S r.1,r.2))
 | _,_,cs=>(.R,cs.drop 1)
def az.yL:(aj:az)→al→List bb→cM×List bb
 | .nil,_,cs=>(.nil,cs)
 | .cons t aj,s,cs=>let r:=t.yL s cs;let q:=aj.yL s r.2;(.cons r.1 q.1,q.2)
end
def takeN(off n:Nat)(cs:List bb):Option (List bb) :=
 cond (Nat.ble (off+n) cs.length) (some (part cs off n)) none
def I5(t:aa)(em:bg)(id ver i:Nat)(x:t.D):List bb :=
 match em with
 | .R=>t.cells [] none x
 | _=>t.cells [(id,ver)] (some ⟨id,some i,0⟩) x
def lS(s:al)(n:Nat)(p:Place):Option (List bb) :=
 match s.o p.id,p.fb with
 | .var _ cs,none=>takeN p.off n cs
 | .row t em ver xs,some i=>takeN p.off n (I5 t em p.id ver i (J t xs i))
 | _,_=>none
def BH(s:al)(p:Place)(cs:List bb):Option al :=
 match s.o p.id,p.fb with
 | .var ver old,none=>cond (Nat.ble (p.off+cs.length) old.length) (some (s.bL p.id (.var (ver+1) (old.take p.off++cs++old.drop (p.off+cs.length))))) none
 | .row t em ver xs,some i =>
  cond (Nat.ble (p.off+cs.length) t.size) ((t.put em (J t xs i) p.off cs s).bind fun r =>
   match r.2.1,r.2.2.o p.id with
   | [],.row _ _ _ _=>some (r.2.2.bL p.id (.row t em (ver+1) (xs.set i r.1)))
   | _,_=>none) none
 | _,_=>none
def jT(t:aa)(cs:List bb):Option a' :=
 match t with
 | .st _=>some (.h8 cs)
 | _=>match cs with
  | [c]=>some (.aU c)
  | _=>none
def iy(t:aa):a'→Option (List bb)
 | .aU c=>some [c]
 | .h8 cs=>some cs
 | .kD=>match t with
  | .sl u=>some [.nil u]
  | _=>none
 | _=>none
def I6:Value→a'
 | .int k n=>.aU (.int k n)
 | .bool b=>.aU (.bool b)
 | .string b=>.aU (.str b.data.toList)
 | .slice none 0 0=>.kD
 | .pointer none=>.jS
 | _=>.aw
def bR(s:al):Operand→a'
 | .tmp t=>s.t t
 | .const v=>I6 v
 | .func f=>.fn f [] []
 | .global _=>.aw
def typed(E:Env)(t:Nat):a'→Option a'
 | .aw=>none
 | .gone=>none
 | .kD=>match E.ty t with
  | some (.sl u)=>some (.aU (.nil u))
  | _=>none
 | v=>some v
def kn:a'→Option Int
 | .aU (.int _ n)=>some n
 | _=>none
end Go.LM
namespace Go.LM
def nM(s:al):bb→Option Nat
 | .nil _=>some 0
 | .bA _ dp _ xs=>cond (alive s dp) (some xs.length) none
 | .ah id sub=>match s.o id with
  | .row _ _ _ xs=>some (k4 sub xs)
  | _=>none
 | .str x=>some x.length
 | _=>none
mutual
def aa.cmp:aa→List bb→List bb→Option (Bool×List bb×List bb)
 | .int k,.int k1 x :: a,.int k2 y :: b=>cond (Nat.beq (dj k1) (dj k)&&Nat.beq (dj k2) (dj k)) (some (x==y,a,b)) none
 | .bool,.bool x :: a,.bool y :: b=>some (x==y,a,b)
 | .str,.str x :: a,.str y :: b=>some (bB x y,a,b)
 | .st aj,a,b=>aj.cmp a b
 | _,_,_=>none
def az.cmp:az→List bb→List bb→Option (Bool×List bb×List bb)
 | .nil,a,b=>some (true,a,b)
 | .cons t aj,a,b=>(t.cmp a b).bind fun r=>(aj.cmp r.2.1 r.2.2).bind fun q=>some (r.1&&q.1,q.2)
end
def BI(op:BinOp)(k:IntKind)(x y:Int):Option a' :=
 match op with
 | .add=>some (.aU (.int k (k.wrap (x+y))))
 | .sub=>some (.aU (.int k (k.wrap (x-y))))
 | .mul=>some (.aU (.int k (k.wrap (x*y))))
 | .and=>some (.aU (.int k (c_ .and k x y)))
 | .or=>some (.aU (.int k (c_ .or k x y)))
 | .xor=>some (.aU (.int k (c_ .xor k x y)))
 | .andNot=>some (.aU (.int k (c_ .andNot k x y)))
 | .eql=>some (.aU (.bool (x==y)))
 | .neq=>some (.aU (.bool (x != y)))
 | .lss=>some (.aU (.bool (decide (x<y))))
 | .leq=>some (.aU (.bool (decide (x≤y))))
 | .gtr=>some (.aU (.bool (decide (x>y))))
 | .geq=>some (.aU (.bool (decide (x≥y))))
 | _=>none
def BJ(op:BinOp)(x y:List UInt8):Option a' :=
 match op with
 | .eql=>some (.aU (.bool (bB x y)))
 | .neq=>some (.aU (.bool (!bB x y)))
 | .lss=>some (.aU (.bool (dv x y)))
 | .leq=>some (.aU (.bool (dv x y||bB x y)))
 | .gtr=>some (.aU (.bool (!(dv x y||bB x y))))
 | .geq=>some (.aU (.bool (!dv x y)))
 | _=>none
section
variable{bs : Type}
def lift(x:Option a')(K:a'→Option bs):Option bs :=
 match x with
 | some v=>K v
 | none=>none
open Classical in
noncomputable def both(a b:Option bs):Option bs := if a=b then a else none
noncomputable def BK(b:Bool)(x y:Option bs):Option bs := cond b (both x y) y
noncomputable def kF(E:Env)(ty:Nat)(op:BinOp)(x y:a')(K:a'→Option bs):Option bs :=
 match x,y with
 | .aU (.int k a),.aU (.int k' b) =>
  match op with
  | .shl=>jy (decide (0≤b)) (K (.aU (.int k (k.wrap (a*2 ^ min b.toNat k.bits)))))
  | .shr=>jy (decide (0≤b)) (K (.aU (.int k (a.fdiv (2 ^ min b.toNat k.bits)))))
  | .quo=>cond (Nat.beq (dj k) (dj k')) (jy (b != 0) (K (.aU (.int k (k.wrap (a.tdiv b)))))) none
  | .rem=>cond (Nat.beq (dj k) (dj k')) (jy (b != 0) (K (.aU (.int k (a.tmod b))))) none
  | _=>cond (Nat.beq (dj k) (dj k')) (lift (BI op k a b) K) none
 | .aU (.str a),.aU (.str b) =>
  match op with
  | .add=>jy (room (a.length+b.length)) (K (.aU (.str (a++b))))
  | _=>lift (BJ op a b) K
 | .aU (.bool a),.aU (.bool b) =>
  match E.ty ty,op with
  | some .bool,.eql=>K (.aU (.bool (a==b)))
  | some .bool,.neq=>K (.aU (.bool (!(a==b))))
  | _,_=>none
 | .h8 a,.h8 b =>
  cond (E.I4 ty) (match E.ty ty with
  | some T=>(match op,T.cmp a b with
   | .eql,some (r,[],[])=>K (.aU (.bool r))
   | .neq,some (r,[],[])=>K (.aU (.bool (!r)))
   | _,_=>none)
  | none=>none) none
 | .aU (.bA _ [] _ xs),.kD =>
  match E.ty ty,op with
  | some (.sl _),.eql=>BK xs.isEmpty (K (.aU (.bool true))) (K (.aU (.bool false)))
  | some (.sl _),.neq=>BK xs.isEmpty (K (.aU (.bool false))) (K (.aU (.bool true)))
  | _,_=>none
 | .opt _ o,.jS =>
  match E.tx ty,op with
  | true,.eql=>K (.aU (.bool (decide (o<0))))
  | true,.neq=>K (.aU (.bool (!decide (o<0))))
  | _,_=>none
 | .ptr _,.jS =>
  match E.tx ty,op with
  | true,.eql=>K (.aU (.bool false))
  | true,.neq=>K (.aU (.bool true))
  | _,_=>none
 | .may b _ _,.jS =>
  match E.tx ty,op with
  | true,.eql=>K (.aU (.bool (!b)))
  | true,.neq=>K (.aU (.bool b))
  | _,_=>none
 | _,_=>none
def I7(op:UnOp)(x:a')(K:a'→Option bs):Option bs :=
 match op,x with
 | .neg,.aU (.int k n)=>K (.aU (.int k (k.wrap (0-n))))
 | .xor,.aU (.int k n)=>K (.aU (.int k (c_ .xor k (if k.signed then -1 else k.max) n)))
 | .not,.aU (.bool b)=>K (.aU (.bool (!b)))
 | _,_=>none
def p3(t:aa)(m:bg):List (List bb)→al→Option (List t.D×al)
 | [],s=>some ([],s)
 | cs :: B,s=>(t.imp false m cs s []).bind fun r =>
   match r.2.1 with
   | []=>(p3 t m B r.2.2.1).bind fun q=>some (r.1 :: q.1,q.2)
   | _=>none
def az.nth:az→Nat→Option aa
 | .nil,_=>none
 | .cons t _,0=>some t
 | .cons _ aj,n+1=>az.nth aj n
def az.nN:az→List (List bb)
 | .nil=>[]
 | .cons t aj=>t.jd :: az.nN aj
def ry(s:al)(ty:Nat→Option aa):List (Nat×Operand)→List (List bb)→Option (List (List bb))
 | [],B=>some B
 | (i,x) :: ps,B =>
  match ty i with
  | none=>none
  | some t =>
   match iy t (bR s x) with
   | none=>none
   | some cs=>cond (Nat.beq cs.length t.size) (ry s ty ps (B.set i cs)) none
def az.off:az→Nat→Option (Nat×aa)
 | .nil,_=>none
 | .cons t _,0=>some (0,t)
 | .cons t aj,n+1=>(az.off aj n).bind fun r=>some (t.size+r.1,r.2)
def mkObj(s:al)(id:Nat)(o:cj):Option al :=
 match s.o id with
 | .none=>some (s.bL id o)
 | _=>none
def taken(s:al)(t:aa):bb→Option (bg×List t.D×al)
 | .nil u=>(ew (.sl u) (.sl t) ([]:List u.D)).bind fun x=>some (t.own,x,s)
 | .ah id sub=>match s.o id with
  | .row u em _ xs=>(ew (.sl u) (.sl t) (kE sub xs)).bind fun x=>some (em,x,s.bL id .dead)
  | _=>none
 | _=>none
def added(s:al)(t:aa):bb→Option (bg×List t.D×al)
 | .ah id sub=>match s.o id with
  | .row u em _ xs=>match em with
   | .R=>(ew (.sl u) (.sl t) (kE sub xs)).bind fun x=>some (.R,x,s)
   | _=>(ew (.sl u) (.sl t) (kE sub xs)).bind fun x=>some (em,x,s.bL id .dead)
  | _=>none
 | .bA u dp _ xs=>cond (alive s dp&&(t.flat||dp.isEmpty)) ((ew (.sl u) (.sl t) xs).bind fun x=>some (.R,x,s)) none
 | .nil u=>(ew (.sl u) (.sl t) ([]:List u.D)).bind fun x=>some (t.own,x,s)
 | .str x=>(ew (.sl (.int .u8)) (.sl t) (ek x)).bind fun y=>some (.R,y,s)
 | _=>none
def meet(a b:bg):bg:=cond (bg.beq a b) a .R
def Ro(id:Nat)(t:aa)(s:al)(a b:bb)(K:bb→al→Option bs):Option bs :=
 match added s t b with
 | none=>none
 | some (ko,ys,s1) =>
  match taken s1 t a with
  | none=>none
  | some (nO,xs,s2) =>
   match mkObj s2 id (.row t (meet nO ko) 0 (xs++ys)) with
   | none=>none
   | some s3=>jy (room (xs.length+ys.length)) (K (.ah id none) s3)
def nP(t:aa)(v:a'):Bool :=
 match t,v with
 | .st _,.h8 _=>true
 | .st _,_=>false
 | _,.aU _=>true
 | .sl _,.kD=>true
 | _,_=>false
mutual
def aa.getAt:(T:aa)→Nat→(t:aa)→T.D→Option (List t.D)
 | .sl u,off,t,x=>cond (Nat.beq off 0) (ew (.sl u) (.sl t) x) none
 | .st aj,off,t,x=>aj.getAt off t x
 | _,_,_,_=>none
def az.getAt:(aj:az)→Nat→(t:aa)→aj.D→Option (List t.D)
 | .nil,_,_,_=>none
 | .cons T aj,off,t,x=>cond (Nat.blt off T.size) (T.getAt off t x.1) (aj.getAt (off-T.size) t x.2)
end
mutual
def aa.setAt:(T:aa)→Nat→(t:aa)→List t.D→T.D→Option T.D
 | .sl u,off,t,y,_=>cond (Nat.beq off 0) (ew (.sl t) (.sl u) y) none
 | .st aj,off,t,y,x=>aj.setAt off t y x
 | _,_,_,_,_=>none
def az.setAt:(aj:az)→Nat→(t:aa)→List t.D→aj.D→Option aj.D
 | .nil,_,_,_,_=>none
 | .cons T aj,off,t,y,x=>cond (Nat.blt off T.size) ((T.setAt off t y x.1).bind fun z=>some (z,x.2)) ((aj.setAt (off-T.size) t y x.2).bind fun z=>some (x.1,z))
end
def tz(t:aa)(e:bg)(s:al)(dp:List (Nat×Nat)):Option Place→Option (List t.D×al)
 | none=>none
 | some p =>
  match p.fb,s.o p.id with
  | some i,.row T em ver ys=>cond (alive s dp&&bg.beq em T.own&&bg.beq e t.own) ((T.getAt p.off t (J T ys i)).bind fun x=>some (x,s.bL p.id (.b_ (.row T em ver ys)))) none
  | _,_=>none
def wB(t:aa)(x:List t.D)(s:al):Option Place→Option al
 | none=>none
 | some p =>
  match p.fb,s.o p.id with
  | some i,.b_ (.row T em ver ys)=>(T.setAt p.off t x (J T ys i)).bind fun z=>some (s.bL p.id (.row T em (ver+1) (ys.set i z)))
  | _,_=>none
mutual
def aa.fc:(t:aa)→bg→List bb→al→Option (t.D×List bb×al)
 | .int k,_,.int k' x :: cs,s=>cond (Nat.beq (dj k) (dj k')) (some (x,cs,s)) none
 | .bool,_,.bool x :: cs,s=>some (x,cs,s)
 | .str,_,.str x :: cs,s=>some (x,cs,s)
 | .sl t,.O e,c :: cs,s=>match c with
  | .nil u=>(ew (.sl u) (.sl t) ([]:List u.D)).bind fun x=>some (x,cs,s)
  | .ah id none=>match s.o id with
   | .row u em ver xs=>cond (bg.beq em e) ((ew (.sl u) (.sl t) xs).bind fun x=>some (x,cs,s.bL id (.b_ (.row u em ver xs)))) none
   | _=>none
  | .bA _ dp ct _=>(tz t e s dp ct).bind fun r=>some (r.1,cs,r.2)
  | _=>none
 | .st aj,m,cs,s=>aj.fc m.parts cs s
 | _,_,_,_=>none
def az.fc:(aj:az)→cM→List bb→al→Option (aj.D×List bb×al)
 | .nil,_,cs,s=>some ((),cs,s)
 | .cons t aj,m,cs,s=>(t.fc m.ah cs s).bind fun r=>(aj.fc m.du r.2.1 r.2.2).bind fun q=>some ((r.1,q.1),q.2)
end
mutual
def aa.back:(t:aa)→t.D→List bb→al→Option (List bb×al)
 | .sl t,x,c :: cs,s=>match c with
  | .nil _=>some (cs,s)
  | .ah id none=>match s.o id with
   | .b_ (.row u em ver _)=>(ew (.sl t) (.sl u) x).bind fun y=>some (cs,s.bL id (.row u em (ver+1) y))
   | _=>none
  | .bA _ _ ct _=>(wB t x s ct).bind fun aq=>some (cs,aq)
  | _=>none
 | .st aj,x,cs,s=>aj.back x cs s
 | _,_,_ :: cs,s=>some (cs,s)
 | _,_,[],_=>none
def az.back:(aj:az)→aj.D→List bb→al→Option (List bb×al)
 | .nil,_,cs,s=>some (cs,s)
 | .cons t aj,x,cs,s=>(t.back x.1 cs s).bind fun r=>aj.back x.2 r.1 r.2
end
def gb(key:Nat)(s:al):(ps:List bt)→List a'→List (Nat×Nat)→Option ((bt.ins ps).D×al×List (Nat×Nat))
 | [],[],bq=>some ((),s,bq)
 | .fn lR oL :: ps,.fn g a b :: vs,bq=>cond (Nat.beq g key&&Nat.beq a.length lR&&Nat.beq b.length oL) (gb key s ps vs bq) none
 | .val t m :: ps,v :: vs,bq=>cond (nP t v)
  (match iy t v with
  | none=>none
  | some cs=>(t.imp true m cs s bq).bind fun r =>
   match r.2.1 with
   | []=>(gb key r.2.2.1 ps vs r.2.2.2).bind fun q=>some ((r.1,q.1),q.2)
   | _=>none) none
 | .gZ t :: ps,v :: vs,bq=>cond (nP t v)
  (match iy t v with
  | none=>none
  | some cs=>(t.imp false .R cs s bq).bind fun r =>
   match r.2.1 with
   | []=>(gb key r.2.2.1 ps vs r.2.2.2).bind fun q=>some ((r.1,q.1),q.2)
   | _=>none) none
 | .gI t m :: ps,v :: vs,bq=>cond (nP t v&&bg.beq m t.own)
  (match iy t v with
  | none=>none
  | some cs=>(t.fc m cs s).bind fun r =>
   match r.2.1 with
   | []=>(gb key r.2.2 ps vs bq).bind fun q=>some ((r.1,q.1),q.2)
   | _=>none) none
 | .ref t :: ps,.c3 dp cs off :: vs,bq =>
  match takeN off t.size cs with
  | none=>none
  | some cs=>cond (alive s dp) ((t.imp true .R cs s (dp++bq)).bind fun r =>
   match r.2.1 with
   | []=>(gb key r.2.2.1 ps vs r.2.2.2).bind fun q=>some ((r.1,q.1),q.2)
   | _=>none) none
 | .ref t :: ps,.ptr p :: vs,bq =>
  match lS s t.size p with
  | none=>none
  | some cs=>(t.imp true .R cs s ((p.id,km s p.id) :: bq)).bind fun r =>
   match r.2.1 with
   | []=>(gb key r.2.2.1 ps vs r.2.2.2).bind fun q=>some ((r.1,q.1),q.2)
   | _=>none
 | .mut t m m' :: ps,.ptr p :: vs,bq =>
  match s.o p.id,p.fb with
  | .var ver old,none =>
   match takeN p.off t.size old with
   | none=>none
   | some cs=>(t.imp true m cs (s.bL p.id (.b_ (.var ver old))) bq).bind fun r =>
    match r.2.1 with
    | []=>(gb key r.2.2.1 ps vs r.2.2.2).bind fun q=>some ((r.1,q.1),q.2)
    | _=>none
  | .row u em ver xs,some i =>
   cond (Nat.beq p.off 0&&bg.beq em m&&bg.beq m' em&&bg.beq m t.own) ((ew u t (J u xs i)).bind fun x =>
    (gb key (s.bL p.id (.b_ (.row u em ver xs))) ps vs bq).bind fun q=>some ((x,q.1),q.2)) none
  | _,_=>none
 | _,_,_=>none
def lT(dp:List (Nat×Nat)):(ps:List bt)→List a'→(bt.dM ps).D→al→Nat→Option (al×Nat)
 | [],_,_,s,j=>some (s,j)
 | .mut t _ m' :: ps,.ptr p :: vs,x,s,j =>
  match s.o p.id,p.fb with
  | .b_ (.var ver old),none=>(t.g_ m' dp x.1 s j).bind fun r =>
   lT dp ps vs x.2 (r.2.1.bL p.id (.var (ver+1) (old.take p.off++r.1++old.drop (p.off+t.size)))) r.2.2
  | .b_ (.row u em ver xs),some i=>(ew t u x.1).bind fun y=>lT dp ps vs x.2 (s.bL p.id (.row u em (ver+1) (xs.set i y))) j
  | _,_=>none
 | .gI t _ :: ps,v :: vs,x,s,j =>
  match iy t v with
  | none=>none
  | some cs=>(t.back x.1 cs s).bind fun r=>lT dp ps vs x.2 r.2 j
 | .val _ _ :: ps,_ :: vs,x,s,j | .gZ _ :: ps,_ :: vs,x,s,j | .ref _ :: ps,_ :: vs,x,s,j | .fn _ _ :: ps,_ :: vs,x,s,j=>lT dp ps vs x s j
 | _,_,_,_,_=>none
def p4(s:al)(vs:List a')(arg off:Nat):Option Nat :=
 match vs[arg]? with
 | some (.ptr p)=>match lS s 1 { p with off:=p.off+off } with
  | some [.ah id none]=>some id
  | _=>none
 | _=>none
def p5(s:al)(t:aa)(id:Nat):Bool :=
 match s.o id with
 | .row u _ _ _=>aa.beq u t
 | _=>false
def k5(vs:List a')(ps:List bt)(dp:List (Nat×Nat)):(rs:List cO)→(cO.outs rs (bt.dM ps)).D→al→Nat→Option (List a'×al)
 | [],x,s,j=>(lT dp ps vs x s j).bind fun r=>some ([],r.1)
 | .val t m :: rs,x,s,j=>(t.g_ m dp x.1 s j).bind fun r =>
  match jT t r.1 with
  | none=>none
  | some v=>(k5 vs ps dp rs x.2 r.2.1 r.2.2).bind fun q=>some (v :: q.1,q.2)
 | .new t m :: rs,x,s,j=>(t.g_ m dp x.1 s j).bind fun r=>(mkObj r.2.1 r.2.2 (.var 0 r.1)).bind fun s1=>(k5 vs ps dp rs x.2 s1 (r.2.2+1)).bind fun q=>some (.ptr ⟨r.2.2,none,0⟩ :: q.1,q.2)
 | .opt a off t :: rs,x,s,j=>(k5 vs ps dp rs x.2 s j).bind fun q =>
  match p4 q.2 vs a off with
  | none=>none
  | some id=>cond (p5 q.2 t id) (some (.opt id x.1 :: q.1,q.2)) none
 | .any t :: rs,x,s,j=>(k5 vs ps dp rs x s j).bind fun q=>some (.ru t :: q.1,q.2)
 | .oM t :: rs,x,s,j=>(k5 vs ps dp rs x.2 s j).bind fun q=>some (.may (!List.isEmpty x.1) dp (t.cells dp none (J t x.1 0)) :: q.1,q.2)
def oO:List a'→FuncId
 | []=>0
 | .fn f _ _ :: _=>f
 | _ :: l=>oO l
def k6:List a'→List a'
 | []=>[]
 | .fn _ a b :: l=>a++b++k6 l
 | _ :: l=>k6 l
def nQ:List a'→Bool
 | []=>true
 | .aw :: _=>false
 | .gone :: _=>false
 | .ru _ :: _=>false
 | _ :: l=>nQ l
def I8(E:Env)(id:Nat)(s:al)(f:FuncId)(vs:List a')(K:a'→al→Option bs):Option bs :=
 match E.fns f (oO vs) with
 | none=>none
 | some e =>
  match gb (oO vs) s e.ps (vs++k6 vs) [] with
  | none=>none
  | some (x,s1,bq) =>
   cond (alive s1 bq&&nQ vs)
    ((e.f x).bind fun r =>
     match k5 (vs++k6 vs) e.ps bq e.rs r s1 id with
     | none=>none
     | some ([v],s2)=>K v s2
     | some (l,s2)=>K (.oK l) s2)
    none
def rz(s:al):List a'→(List a'→Option bs)→Option bs
 | [],K=>K []
 | .opt i n :: l,K=>(aL (match s.o i with | .row _ _ _ xs=>xs.length | _=>0) n).bind fun k=>rz s l fun dh=>K (.ptr ⟨i,some k,0⟩ :: dh)
 | .may b dp cs :: l,K=>jy b (rz s l fun dh=>K (.c3 dp cs 0 :: dh))
 | v :: l,K=>rz s l fun dh=>K (v :: dh)
def I9(E:Env)(id:Nat)(s:al)(f:FuncId)(vs:List a')(K:a'→al→Option bs):Option bs := rz s vs fun vs=>I8 E id s f vs K
end
end Go.LM
namespace Go.LM
section
variable{bs : Type}
def tA(fi:Bool)(k:IntKind):Int→List a'→Option (IntKind×Int)
 | x,[]=>some (k,x)
 | x,.aU (.int _ y) :: l=>tA fi k (cond fi (abH x y) (jz x y)) l
 | _,_=>none
def wC(fi:Bool):List a'→Option (IntKind×Int)
 | .aU (.int k x) :: l=>tA fi k x l
 | _=>none
def kG(s:al)(T:aa):bb→Bool
 | .str _=>aa.beq T .str
 | .nil u=>aa.beq T (.sl u)
 | .bA u _ _ _=>aa.beq T (.sl u)
 | .ah id _=>match s.o id with
  | .row u _ _ _=>aa.beq T (.sl u)
  | _=>false
 | _=>false
def oneCell(t:aa):a'→Option bb
 | .aU c=>some c
 | .kD=>some (.nil t)
 | _=>none
def wD(E:Env):List Nat→Option aa
 | g' :: hL :: _ =>
  match E.ty g',E.ty hL with
  | some (.sl t),some (.sl _)=>some t
  | some (.sl t),some .str=>some t
  | _,_=>none
 | _=>none
def jU(E:Env)(id:Nat)(s:al)(b:Builtin)(I_:List Nat)(vs:List a')(K:a'→al→Option bs):Option bs :=
 match b,vs with
 | .len,[.aU c] =>
  match I_ with
  | t :: _ =>
   match E.ty t with
   | some T=>cond (kG s T c)
    (match nM s c with
    | some n=>K (.aU (.int .i64 n)) s
    | none=>none) none
   | none=>none
  | _=>none
 | .append,[k7,vb] =>
  match wD E I_ with
  | some t =>
   match oneCell t k7,oneCell t vb with
   | some a,some b=>Ro id t s a b fun c s=>K (.aU c) s
   | _,_=>none
  | none=>none
 | .clear,[.aU (.ah i sub)] =>
  match I_ with
  | t :: _ =>
   match E.ty t,s.o i with
   | some (.sl u),.row v em ver xs=>cond (aa.beq u v&&v.flat) (K (.oK []) (s.bL i (.row v em (ver+1) (xs.take (d_ sub)++List.replicate (k4 sub xs) v.zero++xs.drop (d_ sub+k4 sub xs))))) none
   | _,_=>none
  | _=>none
 | .min,vs =>
  match wC false vs with
  | some (k,x)=>K (.aU (.int k x)) s
  | none=>none
 | .max,vs =>
  match wC true vs with
  | some (k,x)=>K (.aU (.int k x)) s
  | none=>none
 | _,_=>none
def bound(s:al)(x:Option Operand)(d:Int):Option Int :=
 match x with
 | none=>some d
 | some x=>kn (bR s x)
def wE(c:bb)(l m:Nat):Option bb :=
 match c with
 | .str x=>some (.str (part x l m))
 | .nil t=>some (.nil t)
 | .bA t dp ct xs=>some (.bA t dp none (part xs l m))
 | .ah id sub=>some (.ah id (some (d_ sub+l,m)))
 | _=>none
def Rp(s:al)(T:aa)(x:a')(lo hi fi:Option Operand)(K:a'→Option bs):Option bs :=
 match x with
 | .aU c =>
  cond (kG s T c)
  (match nM s c with
  | none=>none
  | some n =>
   match bound s lo 0,bound s hi n with
   | some l,some h =>
    (match fi with
     | none=>fun k=>k
     | some m=>fun k=>cond (aa.beq T .str) none (match kn (bR s m) with
      | some m=>cond hi.isSome (jy (decide (h=m)) k) none
      | none=>none))
    ((dN n l h).bind fun r =>
     match wE c r.1 (r.2-r.1) with
     | some c'=>K (.aU c')
     | none=>none)
   | _,_=>none) none
 | _=>none
def rA(E:Env)(id:Nat)(s:al)(src dst:Nat)(x:a')(K:a'→al→Option bs):Option bs :=
 match E.ty src,E.ty dst,x with
 | some (.int _),some (.int k),.aU (.int _ n)=>K (.aU (.int k (k.wrap n))) s
 | some .str,some .str,.aU (.str b)=>K (.aU (.str b)) s
 | some .str,some (.sl (.int .u8)),.aU (.str b) =>
  match mkObj s id (.row (.int .u8) .R 0 (ek b)) with
  | some s1=>K (.aU (.ah id none)) s1
  | none=>none
 | some (.sl (.int .u8)),some .str,.aU c =>
  match oN s (.int .u8) c with
  | some xs=>K (.aU (.str (ga xs))) s
  | none=>none
 | _,_,_=>none
def I'(T:aa)(s:al):List (List bb)→bg
 | cs :: _=>(T.yL s cs).1
 | []=>T.own
noncomputable def cL(E:Env)(id:Nat)(o:Oper)(s:al)(K:al→Option bs):Option bs :=
 let put (v:a') (s:al):Option bs := K (s.dst o.dst v)
 match o.op with
 | .move x | .assign x =>
  match typed E o.type (bR s x) with
  | some v=>put v s
  | none=>none
 | .pick c a b =>
  match bR s c,typed E o.type (bR s a),typed E o.type (bR s b) with
  | .aU (.bool t),some k7,some vb=>cond t (put k7 s) (put vb s)
  | .aU (.bool t),some k7,none=>cond t (put k7 s) none
  | .aU (.bool t),none,some vb=>cond t none (put vb s)
  | _,_,_=>none
 | .alloc t =>
  match E.ty t with
  | some T=>match mkObj s id (.var 0 T.jd) with
   | some s1=>put (.ptr ⟨id,none,0⟩) s1
   | none=>none
  | none=>none
 | .box t x =>
  match E.ty t with
  | some T=>match iy T (bR s x) with
   | some cs=>cond (Nat.beq cs.length T.size)
    (match mkObj s id (.var 0 cs) with
     | some s1=>put (.ptr ⟨id,none,0⟩) s1
     | none=>none) none
   | none=>none
  | none=>none
 | .build t parts =>
  match E.ty t with
  | some (.st aj)=>match ry s aj.nth parts.toList aj.nN with
   | some B=>put (.h8 B.flatten) s
   | none=>none
  | _=>none
 | .buildSlice t n parts =>
  match E.ty t with
  | some (.sl T)=>cond (Nat.ble (n*T.size) 16777216)
   (match ry s (fun i=>cond (Nat.blt i n) (some T) none) parts.toList (List.replicate n T.jd) with
   | some B =>
    match p3 T (I' T s B) B s with
    | some (xs,s1)=>match mkObj s1 id (.row T (I' T s B) 0 xs) with
     | some s2=>put (.aU (.ah id none)) s2
     | none=>none
    | none=>none
   | none=>none) none
  | _=>none
 | .load t a =>
  match E.ty t,bR s a with
  | some T,.ptr p=>match (lS s T.size p).bind (jT T) with
   | some v=>put v s
   | none=>none
  | some T,.c3 dp cs off=>match (takeN off T.size cs).bind (jT T) with
   | some v=>cond (alive s dp) (put v s) none
   | none=>none
  | _,_=>none
 | .store t a x =>
  match E.ty t,bR s a with
  | some T,.ptr p=>match iy T (bR s x) with
   | some cs=>cond (Nat.beq cs.length T.size)
    (match BH s p cs with
     | some s1=>put .aw s1
     | none=>none) none
   | none=>match bR s x,s.o p.id,p.fb with
    | .ru u,.var _ old,none=>cond (aa.beq u T&&Nat.beq p.off 0&&Nat.ble T.size old.length) (put .aw (s.bL p.id .dead)) none
    | _,_,_=>none
  | _,_=>none
 | .nilCheck x =>
  match bR s x with
  | .ptr p=>put (.ptr p) s
  | .c3 dp cs off=>put (.c3 dp cs off) s
  | .fn f a b=>put (.fn f a b) s
  | .may b dp cs=>jy b (put (.c3 dp cs 0) s)
  | .opt i n=>(aL (match s.o i with | .row _ _ _ xs=>xs.length | _=>0) n).bind fun k=>put (.ptr ⟨i,some k,0⟩) s
  | _=>none
 | .binOp op ty x y _=>kF E ty op (bR s x) (bR s y) fun v=>put v s
 | .unOp op _ x=>I7 op (bR s x) fun v=>put v s
 | .convert src dst x=>rA E id s src dst (bR s x) put
 | .makeFunc (.func f) first k0=>put (.fn f (first.toList.map (bR s)) (k0.toList.map (bR s))) s
 | .makeSlice t l c =>
  match E.ty t,kn (bR s l),kn (bR s c) with
  | some (.sl T),some n,some m =>
   jy (decide (0≤n)&&decide (n=m)&&room n.toNat)
    (match mkObj s id (.row T T.own 0 (List.replicate n.toNat T.zero)) with
     | some s1=>put (.aU (.ah id none)) s1
     | none=>none)
  | _,_,_=>none
 | .slice t x lo hi fi =>
  match E.ty t with
  | some T=>Rp s T (bR s x) lo hi fi fun v=>put v s
  | none=>none
 | .fieldAddr t x f =>
  match E.ty t,bR s x with
  | some (.st aj),.ptr p=>match aj.off f with
   | some (k,u)=>cond (Nat.beq u.size 0) none (put (.ptr { p with off:=p.off+k }) s)
   | none=>none
  | some (.st aj),.c3 dp cs off=>match aj.off f with
   | some (k,u)=>cond (Nat.beq u.size 0) none (put (.c3 dp cs (off+k)) s)
   | none=>none
  | _,_=>none
 | .field t x f =>
  match E.ty t,bR s x with
  | some (.st aj),.h8 cs=>match aj.off f with
   | some (k,u)=>match (takeN k u.size cs).bind (jT u) with
    | some v=>put v s
    | none=>none
   | none=>none
  | _,_=>none
 | .indexAddr t x i =>
  match E.ty t,bR s x,kn (bR s i) with
  | some (.sl u),.aU c,some n =>
   match c with
   | .ah id sub=>match s.o id with
    | .row v _ _ xs=>cond (aa.beq u v) ((aL (k4 sub xs) n).bind fun k=>put (.ptr ⟨id,some (d_ sub+k),0⟩) s) none
    | _=>none
   | .bA v dp ct xs=>cond (alive s dp&&aa.beq u v) ((aL xs.length n).bind fun k=>put (.c3 dp (v.cells dp none (J v xs k)) 0) s) none
   | _=>none
  | _,_,_=>none
 | .index t x i =>
  match E.ty t,bR s x,kn (bR s i) with
  | some .str,.aU (.str b),some n=>(aL b.length n).bind fun k=>put (.aU (.int .u8 (b.getD k 0).toNat)) s
  | _,_,_=>none
 | .extract x i =>
  match bR s x with
  | .oK l=>match l[i]? with
   | some v=>put v s
   | none=>none
  | _=>none
 | .call c =>
  let vs:=c.args.toList.map (bR s)
  match c.callee with
  | .builtin b=>jU E id s b c.argTypes.toList vs put
  | .value f=>match bR s f with
   | .fn g first k0=>I9 E id s g (first++vs++k0) put
   | _=>none
  | _=>none
 | _=>none
def guardOf(ops:List Oper)(o:Oper):Option (Option Nat×Bool) :=
 match o.guard with
 | none=>none
 | some (j,w)=>some ((ops[j]?).bind (·.dst),w)
def yM(E:Env)(o:Oper):Bool :=
 match o.dst with
 | some d=>Nat.blt d E.n
 | none=>true
noncomputable def tB(E:Env)(id:Nat)(ops:List Oper)(o:Oper)(s:al)(K:al→Option bs):Option bs :=
 cond (yM E o) (match guardOf ops o with
 | none=>cL E id o s K
 | some (some d,w) =>
  match s.t d with
  | .aU (.bool b) =>
   cond b (let aq:=s.set d (.aU (.bool true));cond w (cL E id o aq K) (K (aq.dst o.dst .gone)))
    (let aq:=s.set d (.aU (.bool false));cond w (K (aq.dst o.dst .gone)) (cL E id o aq K))
  | .gone=>K (s.dst o.dst .gone)
  | _=>none
 | some (none,_)=>none) none
def wF:List a'→Option Place
 | .aU (.bA _ _ ct _) :: _=>ct
 | _=>none
def Ja:List bt→Bool
 | []=>true
 | .mut _ _ _ :: _=>false
 | .gI _ _ :: _=>false
 | .val _ _ :: l | .ref _ :: l | .fn _ _ :: l | .gZ _ :: l=>Ja l
def abI:List bt→Bool
 | .val (.sl _) (.O _) :: _=>true
 | _=>false
def wG(key:Nat)(s:al)(t:aa):(ps:List bt)→List a'→Option ((bt.ins ps).D×al×List (Nat×Nat))
 | .val (.sl u) m :: ps,.aU (.bA _ dp ct _) :: vs=>cond (bg.beq m (.O u.own)&&(aa.beq t u&&Ja ps)) ((tz u u.own s dp ct).bind fun r=>(gb key r.2 ps vs []).bind fun q=>some ((r.1,q.1),q.2)) none
 | _,_=>none
def yN(t:aa){aj:az} :(rs:List cO)→(cO.outs rs aj).D→Option (List t.D)
 | [.val u m],x=>cond (bg.beq m (.O t.own)) (ew u (.sl t) x.1) none
 | _,_=>none
def Rq(E:Env)(s:al)(o:Oper):Bool :=
 match o.op with
 | .call c=>match c.callee with
  | .value b3=>match bR s b3 with
   | .fn g [] []=>match wF (c.args.toList.map (bR s)),E.fns g (oO (c.args.toList.map (bR s))) with
    | some _,some e=>abI e.ps
    | _,_=>false
   | _=>false
  | _=>false
 | _=>false
def wH(E:Env)(o dB ez eL:Oper)(k1 e1 e2 e0 d0 d1 d2:Nat):Bool :=
 Nat.beq d0 e0&&(Nat.beq d1 e1&&(Nat.beq d2 e2&&(!(Nat.beq k1 d0)&&(!(Nat.beq d0 d1)&&(!(Nat.beq d0 d2)&&(o.guard.isNone&&(dB.guard.isNone&&(ez.guard.isNone&&(eL.guard.isNone&&(eL.dst.isNone&&(Nat.blt d0 E.n&&(Nat.blt d1 E.n&&Nat.blt d2 E.n))))))))))))
def Jb(s:al)(v:a')(K:Place→Option bs):Option bs :=
 match v with
 | .ptr p=>K p
 | .opt i n=>(aL (match s.o i with | .row _ _ _ xs=>xs.length | _=>0) n).bind fun k=>K ⟨i,some k,0⟩
 | _=>none
def Jc(E:Env)(s:al)(o:Oper)(l:List Oper)(K:al→Option bs):Option bs :=
 match l with
 | dB :: ez :: eL :: _ =>
  match o.op,dB.op,ez.op,eL.op with
  | .call c,.nilCheck (.tmp k1),.fieldAddr mH (.tmp e1) nR,.store mI (.tmp e2) (.tmp e0) =>
   match c.callee,o.dst,dB.dst,ez.dst with
   | .value b3,some d0,some d1,some d2=>cond (wH E o dB ez eL k1 e1 e2 e0 d0 d1 d2)
    (match bR s b3,E.ty mH,E.ty mI with
    | .fn g [] [],some (.st aj),some (.sl t) =>
     match E.fns g (oO (c.args.toList.map (bR s))),aj.off nR,wF (c.args.toList.map (bR s)) with
     | some e,some (k,u),some p=>Jb s (s.t k1) fun jA=>cond (!(Nat.beq u.size 0)&&(Nat.beq jA.id p.id&&Nat.beq (jA.off+k) p.off))
      (match jA.fb,p.fb with
      | some i,some j=>cond (Nat.beq i j) (match wG (oO (c.args.toList.map (bR s))) s t e.ps (c.args.toList.map (bR s)++k6 (c.args.toList.map (bR s))) with
       | none=>none
       | some (x,s1,bq)=>cond (alive s1 bq&&nQ (c.args.toList.map (bR s)))
        ((e.f x).bind fun r=>(yN t e.rs r).bind fun y=>(wB t y (((s1.set d0 .aw).set d1 .aw).set d2 .aw) (some p)).bind K) none) none
      | _,_=>none) none
     | _,_,_=>none
    | _,_,_=>none) none
   | _,_,_,_=>none
  | _,_,_,_=>none
 | _=>none
noncomputable def tC(E:Env)(ca:Nat)(all:List Oper):List Oper→Nat→Nat→al→(al→Option bs)→Option bs
 | [],_,_,s,K=>K s
 | _ :: l,i,q+1,s,K=>tC E ca all l (i+1) q s K
 | o :: l,i,0,s,K=>cond (Rq E s o) (Jc E s o l fun aq=>tC E ca all l (i+1) 3 aq K) (tB E ((ca*256+i)*32) all o s fun aq=>tC E ca all l (i+1) 0 aq K)
noncomputable def Jd(E:Env)(ca:Nat)(all:List Oper)(l:List Oper)(i:Nat)(s:al)(K:al→Option bs):Option bs := tC E ca all l i 0 s K
def tD(E:Env)(o:Oper):Bool :=
 match o.op with
 | .move _ | .assign _ | .pick _ _ _ | .load _ _ | .nilCheck _ | .binOp _ _ _ _ _ | .unOp _ _ _ | .slice _ _ _ _ _ | .fieldAddr _ _ _ | .field _ _ _ | .indexAddr _ _ _ | .index _ _ _ | .extract _ _ | .build _ _=>true
 | .makeFunc (.func _) _ _=>true
 | .convert a b _=>match E.ty a,E.ty b with
  | some (.int _),some (.int _)=>true
  | _,_=>false
 | .call c=>match c.callee with
  | .builtin .len | .builtin .min | .builtin .max=>true
  | _=>false
 | _=>false
def waits(ops:Array Oper)(j i:Nat):Bool :=
 match ops[j]? with
 | some o=>o.after.any fun e=>Region.binds .any e&&Nat.beq e.on i
 | none=>false
def Je(E:Env)(ops:Array Oper)(i:Nat):Bool :=
 match ops[i]? with
 | some o=>tD E o
 | none=>false
def iz(s:al)(o:Oper):List (Nat×Nat) :=
 match o.op with
 | .load _ x=>match bR s x with
  | .ptr p=>[(p.id,km s p.id)]
  | .c3 dp _ _=>dp
  | _=>[]
 | _=>[]
def tE(s:al):List (Nat×List (Nat×Nat))→Bool
 | []=>true
 | p :: l=>cond (alive s p.2) (tE s l) false
def isApp(s:al)(o:Oper):Bool :=
 match o.op with
 | .call c=>match c.callee with
  | .builtin .append=>(wF (c.args.toList.map (bR s))).isSome
  | _=>false
 | _=>false
def Jf(id:Nat)(t:aa)(p:Place)(dp:List (Nat×Nat))(s:al)(cb:bb)(d0 d1 d2:Nat)(M:al→Bool)(K:al→Option bs):Option bs :=
 match added s t cb with
 | none=>none
 | some (ko,ys,s1)=>cond (bg.beq ko t.own) ((tz t t.own s1 dp (some p)).bind fun r =>
   (mkObj r.2 id .dead).bind fun s2=>jy (room (r.1.length+ys.length)) (cond (M (s2.set d0 .aw)) ((wB t (r.1++ys) (((s2.set d0 .aw).set d1 .aw).set d2 .aw) (some p)).bind K) none)) none
def Jg(E:Env)(id:Nat)(s:al)(o dB ez eL:Oper)(M:al→Bool)(K:al→Option bs):Option bs :=
 match o.op,dB.op,ez.op,eL.op with
 | .call c,.indexAddr wI (.tmp k1) (.tmp k2),.fieldAddr mH (.tmp e1) nR,.store mI (.tmp e2) (.tmp e0) =>
  match c.callee,o.dst,dB.dst,ez.dst with
  | .builtin .append,some d0,some d1,some d2=>cond (wH E o dB ez eL k1 e1 e2 e0 d0 d1 d2 && !(Nat.beq k2 d0))
   (match E.ty wI,E.ty mH,E.ty mI,wD E c.argTypes.toList,c.args.toList.map (bR s) with
   | some (.sl mJ),some (.st aj),some (.sl t),some g',[.aU (.bA _ dp (some p) _),vb] =>
    match aj.off nR,oneCell g' vb,s.t k1,kn (s.t k2),s.o p.id,p.fb with
    | some (k,u),some cb,.aU (.ah i sub),some q,.row v _ _ xs,some j=>cond (aa.beq g' t&&(aa.beq mJ v&&(!(Nat.beq u.size 0)&&(Nat.beq i p.id&&Nat.beq k p.off))))
      ((aL (k4 sub xs) q).bind fun m=>cond (Nat.beq (d_ sub+m) j) (Jf id t p dp s cb d0 d1 d2 M K) none) none
    | _,_,_,_,_,_=>none
   | _,_,_,_,_=>none) none
  | _,_,_,_=>none
 | _,_,_,_=>none
def Rr(s:al)(ops:Array Oper)(rs:List Nat):Bool:=rs.any fun i=>match ops[i]? with
 | some o=>isApp s o
 | none=>false
def one:List Nat→Option Nat
 | [i]=>some i
 | _=>none
def Jh(E:Env)(ca:Nat)(ops:Array Oper)(listed:Array Bool)(iA:List (Nat×List (Nat×Nat)))(rs:List Nat)(s:al)(K:al→Option bs):Option bs :=
 (one rs).bind fun i=>(one (Region.ready .any ops (listed.setIfInBounds i true))).bind fun i1=>(one (Region.ready .any ops ((listed.setIfInBounds i true).setIfInBounds i1 true))).bind fun i2 =>
  (one (Region.ready .any ops (((listed.setIfInBounds i true).setIfInBounds i1 true).setIfInBounds i2 true))).bind fun i3 =>
   cond ((Region.ready .any ops ((((listed.setIfInBounds i true).setIfInBounds i1 true).setIfInBounds i2 true).setIfInBounds i3 true)).isEmpty&&((iA.filter fun p => !waits ops i p.1).filter fun p => !waits ops i1 p.1).isEmpty)
    (ops[i]?.bind fun o=>ops[i1]?.bind fun dB=>ops[i2]?.bind fun ez=>ops[i3]?.bind fun eL=>Jg E ((ca*256+i)*32) s o dB ez eL (fun nS=>tE nS (iA.filter fun p => !waits ops i p.1)) K) none
noncomputable def dup(a:Option bs):Option bs := both a a
noncomputable def BL:List (Option bs)→Option bs
 | []=>none
 | [x]=>x
 | x :: l=>both x (BL l)
noncomputable def tF(E:Env)(ca:Nat)(ops:Array Oper):Nat→Array Bool→List (Nat×List (Nat×Nat))→al→(al→Option bs)→Option bs
 | 0,listed,_,s,K=>match Region.ready .any ops listed with
  | []=>K s
  | _=>none
 | n+1,listed,iA,s,K =>
  match Region.ready .any ops listed with
  | []=>K s
  | rs=>match rs.find? fun i=>Je E ops i&&Region.free .any ops listed i with
   | some i=>(match ops[i]? with
    | none=>none
    | some o=>tB E ((ca*256+i)*32) ops.toList o s fun aq=>tF E ca ops n (listed.setIfInBounds i true) ((i,iz s o) :: iA) aq K)
   | none=>cond (Rr s ops rs&&Nat.ble 3 n) (Jh E ca ops listed iA rs s K) (BL (rs.map fun i=>match ops[i]? with
    | none=>none
    | some o=>cond (tD E o) none (tB E ((ca*256+i)*32) ops.toList o s fun aq =>
      cond (tE aq (iA.filter fun p => !waits ops i p.1)) (tF E ca ops n (listed.setIfInBounds i true) (iA.filter fun p => !waits ops i p.1) aq K) none)))
noncomputable def Ji(E:Env)(ca:Nat)(ops:Array Oper)(s:al)(K:al→Option bs):Option bs :=
 cond (Region.noSelect ops) (tF E ca ops ops.size (Array.replicate ops.size false) [] s K) none
structure Hand(bs : Type) where
 cut:Nat→List Item→al→Option bs
 fin:al→Option bs
noncomputable def jV(E:Env)(cuts:Nat→Bool)(H:Hand bs):Nat→Bool→List Item→al→Option bs
 | 0,_,_,_=>none
 | n+1,first,todo,s =>
  match todo with
  | []=>H.fin s
  | .code .ret :: _=>H.fin s
  | .code .skip :: k | .inBlock _ :: k=>jV E cuts H n first k s
  | .code (.seq a b) :: k=>jV E cuts H n first (.code a :: .code b :: k) s
  | .code (.cond c x y) :: k =>
   match bR s c with
   | .aU (.bool b)=>cond b (jV E cuts H n first (.code x :: k) s) (jV E cuts H n first (.code y :: k) s)
   | _=>none
  | .code (.block id c) :: k=>jV E cuts H n first (.code c :: .inBlock id :: k) s
  | .code (.loop c) :: k | .inLoop c :: k=>jV E cuts H n first (.code c :: .inLoop c :: k) s
  | .code (.exit id) :: k =>
   match exitTo id k with
   | some k'=>jV E cuts H n first k' s
   | none=>none
  | .code (.region ca ops hM) :: k =>
   cond (cuts ca && !first) (H.cut ca todo s)
    (cond hM (Ji E ca ops s fun aq=>jV E cuts H n false k aq) (Jd E ca ops.toList ops.toList 0 s fun aq=>jV E cuts H n false k aq))
  | _=>none
end
end Go.LM
namespace Go.LM
abbrev ag:=Nat→Nat→Prop
def ag.none:ag:=fun _ _=>False
def ag.or(F G:ag):ag:=fun b o=>F b o∨G b o
def ag.apart(F G:ag):Prop:=∀b o,F b o→G b o→False
def ag.sub(F G:ag):Prop:=∀b o,F b o→G b o
def ag.run(b lo n:Nat):ag:=fun b' o=>b'=b∧lo≤o∧o<lo+n
abbrev at_(b o:Nat):Addr:=⟨b,o,none⟩
theorem rB(w:World)(b o:Nat):w.cell? (at_ b o)=match w.heap[b]? with | some (.cells c _ _)=>c[o]? | _=>none:=by
 simp only [World.cell?,at_]
 cases w.heap[b]? with
 | none=>rfl
 | some x=>cases x <;> rfl
theorem cell_of_heap{w:World}{b:Nat}{c:Array Value}{e:TypeId}{f:Nat×Nat}(h:w.heap[b]?=some (.cells c e f))(o:Nat) :
  w.cell? (at_ b o)=c[o]?:=by rw [rB,h]
theorem yE{w:World}{b o:Nat}{v:Value}(h:w.cell? (at_ b o)=some v) :
  ∃c e f,w.heap[b]?=some (.cells c e f)∧c[o]?=some v:=by
 rw [rB] at h
 split at h
 ·rename_i c e f hb;exact⟨c,e,f,hb,h⟩
 ·simp at h
theorem yF{w:World}{b o:Nat}{v:Value}(h:w.cell? (at_ b o)=some v):b<w.heap.size:=by
 obtain ⟨c,e,f,hb,_⟩:=yE h
 rcases Nat.lt_or_ge b w.heap.size with h | h
 ·exact h
 ·simp [Array.getElem?_eq_none h] at hb
structure Ext(w w':World)(F:ag):Prop where
 os:w'.os=w.os
 tape:w'.tape=w.tape
 output:w'.output=w.output
 size:w.heap.size≤w'.heap.size
 block:∀b,b<w.heap.size→w'.heap[b]?=w.heap[b]? ∨
  ∃c c' e f,w.heap[b]?=some (.cells c e f)∧w'.heap[b]?=some (.cells c' e f)∧c'.size=c.size∧∀o,¬F b o→c'[o]?=c[o]?
theorem Ext.refl(w:World)(F:ag):Ext w w F:=⟨rfl,rfl,rfl,Nat.le_refl _,fun _ _=>.inl rfl⟩
theorem Ext.mono{w w':World}{F G:ag}(h:Ext w w' F)(hs:∀b o,b<w.heap.size→F b o→G b o):Ext w w' G:=by
 refine⟨h.os,h.tape,h.output,h.size,fun b hb=>?_⟩
 rcases h.block b hb with h | ⟨c,c',e,f,h1,h2,h3,h4⟩
 ·exact .inl h
 ·exact .inr ⟨c,c',e,f,h1,h2,h3,fun o ho=>h4 o fun hf=>ho (hs b o hb hf)⟩
theorem Ext.trans{a b c:World}{F:ag}(h:Ext a b F)(k:Ext b c F):Ext a c F:=by
 refine⟨k.os.trans h.os,k.tape.trans h.tape,k.output.trans h.output,Nat.le_trans h.size k.size,fun i hi=>?_⟩
 rcases h.block i hi with h1 | ⟨x,cl,e,f,h1,h2,h3,h4⟩
 ·rcases k.block i (Nat.lt_of_lt_of_le hi h.size) with k1 | ⟨y,oP,gu,mK,k1,k2,k3,bf⟩
  ·exact .inl (k1.trans h1)
  ·exact .inr ⟨y,oP,gu,mK,h1 ▸ k1,k2,k3,bf⟩
 ·rcases k.block i (Nat.lt_of_lt_of_le hi h.size) with k1 | ⟨y,oP,gu,mK,k1,k2,k3,bf⟩
  ·exact .inr ⟨x,cl,e,f,h1,k1.trans h2,h3,h4⟩
  ·rw [h2] at k1
   simp only [Option.some.injEq,Obj.cells.injEq] at k1
   obtain ⟨rfl,rfl,rfl⟩:=k1
   exact .inr ⟨x,oP,e,f,h1,k2,k3.trans h3,fun o ho=>(bf o ho).trans (h4 o ho)⟩
theorem Ext.trans'{a b c:World}{F S:ag}(h:Ext a b F)(k:Ext b c S)(ef:∀i o,S i o→F i o∨a.heap.size≤i):Ext a c F:=by
 refine⟨k.os.trans h.os,k.tape.trans h.tape,k.output.trans h.output,Nat.le_trans h.size k.size,fun i hi=>?_⟩
 have hk:c.heap[i]?=b.heap[i]?∨∃x cl e f,b.heap[i]?=some (.cells x e f)∧c.heap[i]?=some (.cells cl e f)∧cl.size=x.size∧∀o,¬F i o→cl[o]?=x[o]?:=by
  rcases k.block i (Nat.lt_of_lt_of_le hi h.size) with k1 | ⟨y,oP,gu,mK,k1,k2,k3,bf⟩
  ·exact .inl k1
  ·refine .inr ⟨y,oP,gu,mK,k1,k2,k3,fun o ho=>bf o fun hs=>?_⟩
   rcases ef i o hs with h | h
   ·exact ho h
   ·omega
 rcases h.block i hi with h1 | ⟨x,cl,e,f,h1,h2,h3,h4⟩
 ·rcases hk with k1 | ⟨y,oP,gu,mK,k1,k2,k3,bf⟩
  ·exact .inl (k1.trans h1)
  ·exact .inr ⟨y,oP,gu,mK,h1 ▸ k1,k2,k3,bf⟩
 ·rcases hk with k1 | ⟨y,oP,gu,mK,k1,k2,k3,bf⟩
  ·exact .inr ⟨x,cl,e,f,h1,k1.trans h2,h3,h4⟩
  ·rw [h2] at k1
   simp only [Option.some.injEq,Obj.cells.injEq] at k1
   obtain ⟨rfl,rfl,rfl⟩:=k1
   exact .inr ⟨x,oP,e,f,h1,k2,k3.trans h3,fun o ho=>(bf o ho).trans (h4 o ho)⟩
theorem Ext.cell{w w':World}{F:ag}(h:Ext w w' F){b o:Nat}(hb:b<w.heap.size)(hf:¬F b o):w'.cell? (at_ b o)=w.cell? (at_ b o):=by
 rw [rB,rB]
 rcases h.block b hb with h | ⟨c,c',e,f,h1,h2,_,h4⟩
 ·rw [h]
 ·rw [h1,h2];exact h4 o hf
theorem p1(w:World)(b o:Nat):w.frozen? (at_ b o)=match w.heap[b]? with | some (.cells _ _ (lo,hi))=>decide (lo≤o)&&decide (o<hi) | _=>false:=rfl
theorem Ext.frozen{w w':World}{F:ag}(h:Ext w w' F){b:Nat}(hb:b<w.heap.size)(o:Nat):w'.frozen? (at_ b o)=w.frozen? (at_ b o):=by
 rw [p1,p1]
 rcases h.block b hb with h | ⟨c,c',e,f,h1,h2,_,_⟩
 ·rw [h]
 ·rw [h1,h2]
def fa(w:World)(b o:Nat):Prop:=(∃v,w.cell? (at_ b o)=some v)∧w.frozen? (at_ b o)=false
theorem Ext.abJ{w w':World}{F:ag}(h:Ext w w' F){b o:Nat}(hc:∃v,w.cell? (at_ b o)=some v):∃v,w'.cell? (at_ b o)=some v:=by
 obtain ⟨v,hv⟩:=hc
 have hb:=yF hv
 obtain ⟨c,e,f,hh,hcv⟩:=yE hv
 rcases h.block b hb with h | ⟨x,cl,gu,mK,h1,h2,h3,_⟩
 ·exact⟨v,by rw [rB,h,hh];exact hcv⟩
 ·rw [hh] at h1
  simp only [Option.some.injEq,Obj.cells.injEq] at h1
  obtain ⟨rfl,rfl,rfl⟩:=h1
  have ho:o<c.size:=by
   rcases Nat.lt_or_ge o c.size with h | h
   ·exact h
   ·rw [Array.getElem?_eq_none h] at hcv;simp at hcv
  exact⟨cl[o]'(by omega),by rw [rB,h2];simp [Array.getElem?_eq_getElem,h3,ho]⟩
theorem Ext.p0{w w':World}{F:ag}(h:Ext w w' F){b o:Nat}(hc:fa w b o):fa w' b o :=
 ⟨h.abJ hc.1,by rw [h.frozen (yF hc.1.choose_spec) o];exact hc.2⟩
def fO(w:World)(size b o:Nat):Prop:=fa w b o∧(size=1∨∀k,w.frozen? (at_ b k)=false)
theorem Ext.kk{w w':World}{F:ag}(h:Ext w w' F){size b o:Nat}(hc:fO w size b o):fO w' size b o :=
 ⟨h.p0 hc.1,hc.2.imp id fun hk k=>by rw [h.frozen (yF hc.1.1.choose_spec) k];exact hk k⟩
theorem Ext.drew(w:World)(n:Nat)(F:ag):Ext w { w with drawn:=n } F:=⟨rfl,rfl,rfl,Nat.le_refl _,fun _ _=>.inl rfl⟩
theorem Ext.push(w:World)(o:Obj)(F:ag):Ext w { w with heap:=w.heap.push o } F :=
 ⟨rfl,rfl,rfl,by simp,fun b hb=>.inl (by simp only;rw [Array.getElem?_push,if_neg (by omega)])⟩
theorem Rs(w:World)(o:Obj):({ w with heap:=w.heap.push o } : World).heap[w.heap.size]?=some o:=by simp
theorem Rt(w:World)(c:Array Value)(e:TypeId)(f:Nat×Nat)(o:Nat) :
  ({ w with heap:=w.heap.push (.cells c e f) } : World).cell? (at_ w.heap.size o)=c[o]?:=cell_of_heap (Rs w _) o
theorem Jj(w:World)(b o:Nat)(v:Value)(b':Nat) :
  (w.setCell (at_ b o) v).heap[b']?=if b=b' then(w.heap[b']?).map (fun | .cells c e f=>.cells (c.setIfInBounds o v) e f | x=>x) else w.heap[b']?:=by
 simp only [World.setCell,Array.getElem?_modify,at_]
 split
 ·rename_i h;subst h
  cases w.heap[b]? with
  | none=>rfl
  | some x=>cases x <;> rfl
 ·rfl
theorem abK(w:World)(b o:Nat)(v:Value)(b' o':Nat)(h:∃u,w.cell? (at_ b o)=some u) :
  (w.setCell (at_ b o) v).cell? (at_ b' o')=if b=b'∧o=o' then some v else w.cell? (at_ b' o'):=by
 obtain ⟨u,hu⟩:=h
 obtain ⟨c,e,f,hb,hc⟩:=yE hu
 have ho:o<c.size:=by
  rcases Nat.lt_or_ge o c.size with h | h
  ·exact h
  ·rw [Array.getElem?_eq_none h] at hc;simp at hc
 rw [rB,Jj,rB]
 by_cases nT:b=b'
 ·subst nT
  rw [if_pos rfl,hb]
  simp only [Option.map_some,true_and]
  by_cases wJ:o=o'
  ·subst wJ;simp [Array.getElem?_setIfInBounds,ho]
  ·simp [Array.getElem?_setIfInBounds,wJ]
 ·rw [if_neg nT];simp [nT]
theorem abL(w:World)(b o:Nat)(v:Value)(b' o':Nat):(w.setCell (at_ b o) v).frozen? (at_ b' o')=w.frozen? (at_ b' o'):=by
 rw [p1,Jj,p1]
 by_cases nT:b=b'
 ·subst nT
  rw [if_pos rfl]
  cases w.heap[b]? with
  | none=>rfl
  | some x=>cases x <;> rfl
 ·rw [if_neg nT]
theorem Ext.setCell{w:World}{b o:Nat}{F:ag}(v:Value)(hF:F b o):Ext w (w.setCell (at_ b o) v) F:=by
 refine⟨rfl,rfl,rfl,by simp [World.setCell],fun b' hb=>?_⟩
 rw [Jj]
 by_cases nT:b=b'
 ·subst nT
  rw [if_pos rfl]
  cases hh:w.heap[b]? with
  | none=>exact .inl rfl
  | some x =>
   cases x with
   | cells c e f =>
    refine .inr ⟨c,_,e,f,rfl,rfl,by simp,fun o' ho=>?_⟩
    have:o≠o':=fun e=>ho (e ▸ hF)
    simp [Array.getElem?_setIfInBounds,this]
   | _=>exact .inl rfl
 ·rw [if_neg nT];exact .inl rfl
def setCells(w:World)(b:Nat):Nat→List Value→World
 | _,[]=>w
 | o,v :: vs=>setCells (w.setCell (at_ b o) v) b (o+1) vs
theorem nJ{F:ag}(b:Nat)(vs:List Value):∀(w:World) (o:Nat),(∀i,i<vs.length→F b (o+i))→Ext w (setCells w b o vs) F:=by
 induction vs with
 | nil=>intro w o _;exact Ext.refl _ _
 | cons v vs ih =>
  intro w o h
  have h1:=Ext.setCell (w:=w) v (h 0 (by simp))
  have h2:=ih (w.setCell (at_ b o) v) (o+1) (fun i hi=>by have:=h (i+1) (by simp;omega);rwa [show o+1+i=o +(i+1) by omega])
  exact h1.trans (h2.mono fun _ _ _ h=>h)
theorem abM(b:Nat)(vs:List Value):∀(w:World) (o b' o':Nat),(setCells w b o vs).frozen? (at_ b' o')=w.frozen? (at_ b' o'):=by
 induction vs with
 | nil=>intros;rfl
 | cons v vs ih=>intro w o b' o';rw [setCells,ih,abL]
theorem wK(b:Nat)(vs:List Value):∀(w:World) (o:Nat),(∀i,i<vs.length→∃u,w.cell? (at_ b (o+i))=some u)→∀b' o',
  (setCells w b o vs).cell? (at_ b' o')=if b=b'∧o≤o'∧o'<o+vs.length then vs[o'-o]? else w.cell? (at_ b' o'):=by
 induction vs with
 | nil =>
  intro w o _ b' o'
  rw [setCells,if_neg]
  simp only [List.length_nil];omega
 | cons v vs ih =>
  intro w o h b' o'
  have h0:∃u,w.cell? (at_ b o)=some u:=by simpa using h 0 (by simp)
  have hx:=abK w b o v
  rw [setCells,ih]
  ·by_cases hb:b=b'
   ·subst hb
    by_cases h1:o+1≤o'∧o'<o+1+vs.length
    ·rw [if_pos ⟨rfl,h1⟩,if_pos ⟨rfl,by omega,by simp;omega⟩]
     obtain ⟨k,hk⟩:∃k,o'-o=k+1:=⟨o'-o-1,by omega⟩
     rw [hk,List.getElem?_cons_succ,show o'-(o+1)=k by omega]
    ·rw [if_neg (by simpa using h1),hx b o' h0]
     by_cases h2:o=o'
     ·subst h2;rw [if_pos ⟨rfl,rfl⟩,if_pos ⟨rfl,Nat.le_refl _,by simp⟩];simp
     ·rw [if_neg (by simp [h2]),if_neg]
      simp only [List.length_cons];omega
   ·rw [if_neg (by simp [hb]),if_neg (by simp [hb]),hx b' o' h0,if_neg (by simp [hb])]
  ·intro i hi
   rw [hx b _ h0]
   split
   ·exact⟨v,rfl⟩
   ·have:=h (i+1) (by simp;omega)
    rwa [show o+1+i=o +(i+1) by omega]
def b2(w:World)(b o:Nat)(vs:List Value):Prop:=∀i v,vs[i]?=some v→w.cell? (at_ b (o+i))=some v
theorem b2.nil(w:World)(b o:Nat):b2 w b o []:=by intro i v h;simp at h
theorem b2.cons{w:World}{b o:Nat}{v:Value}{vs:List Value}(h:w.cell? (at_ b o)=some v)(hs:b2 w b (o+1) vs):b2 w b o (v :: vs):=by
 intro i u hu
 cases i with
 | zero=>simp at hu;subst hu;simpa using h
 | succ i=>rw [List.getElem?_cons_succ] at hu;have:=hs i u hu;rwa [show o+1+i=o +(i+1) by omega] at this
theorem b2.head{w:World}{b o:Nat}{v:Value}{vs:List Value}(h:b2 w b o (v :: vs)):w.cell? (at_ b o)=some v:=by simpa using h 0 v rfl
theorem b2.tail{w:World}{b o:Nat}{v:Value}{vs:List Value}(h:b2 w b o (v :: vs)):b2 w b (o+1) vs:=by
 intro i u hu;have:=h (i+1) u (by simpa using hu);rwa [show o +(i+1)=o+1+i by omega] at this
theorem b2.append{w:World}{b o:Nat}{us vs:List Value}(h:b2 w b o us)(k:b2 w b (o+us.length) vs):b2 w b o (us++vs):=by
 intro i v hv
 rcases Nat.lt_or_ge i us.length with hi | hi
 ·rw [List.getElem?_append_left hi] at hv;exact h i v hv
 ·rw [List.getElem?_append_right hi] at hv
  have:=k _ v hv
  rwa [show o+us.length +(i-us.length)=o+i by omega] at this
theorem b2.left{w:World}{b o:Nat}{us vs:List Value}(h:b2 w b o (us++vs)):b2 w b o us:=by
 intro i v hv
 have hi:i<us.length:=by
  rcases Nat.lt_or_ge i us.length with h | h
  ·exact h
  ·rw [List.getElem?_eq_none h] at hv;simp at hv
 exact h i v (by rw [List.getElem?_append_left hi];exact hv)
theorem b2.right{w:World}{b o:Nat}{us vs:List Value}(h:b2 w b o (us++vs)):b2 w b (o+us.length) vs:=by
 intro i v hv
 have:=h (us.length+i) v (by rw [List.getElem?_append_right (by omega),Nat.add_sub_cancel_left];exact hv)
 rwa [show o +(us.length+i)=o+us.length+i by omega] at this
theorem b2.part{w:World}{b o:Nat}{vs:List Value}(h:b2 w b o vs)(k n:Nat):b2 w b (o+k) ((vs.drop k).take n):=by
 intro i v hv
 rw [List.getElem?_take] at hv
 split at hv
 ·rw [List.getElem?_drop] at hv
  have:=h _ v hv
  rwa [show o +(k+i)=o+k+i by omega] at this
 ·simp at hv
theorem b2.of_eq{w w':World}{b o:Nat}{vs:List Value}(h:b2 w b o vs)(he:∀i,i<vs.length→w'.cell? (at_ b (o+i))=w.cell? (at_ b (o+i))):b2 w' b o vs:=by
 intro i v hv
 have hi:i<vs.length:=by
  rcases Nat.lt_or_ge i vs.length with h | h
  ·exact h
  ·rw [List.getElem?_eq_none h] at hv;simp at hv
 rw [he i hi];exact h i v hv
theorem p6(b o n:Nat):(at_ b o).add n=at_ b (o+n):=by
 unfold Addr.add;split
 ·rename_i h;subst h;rfl
 ·rfl
section
variable{P:Program}
theorem run_pure{α : Type}(x : α)(w:World):(pure x:Sem α).run P w=.ok x w:=rfl
theorem run_bind{α β : Type}(s:Sem α)(f : α → Sem β)(w:World):(s >>= f).run P w=match s.run P w with | .ok x w'=>(f x).run P w' | .halt h w'=>.halt h w':=by
 show(Sem.bind s f).run P w=_
 induction s generalizing w with
 | pure a=>rfl
 | load m a k ih =>
  simp only [Sem.bind,Sem.run]
  cases w.cell? a with
  | some v=>exact ih v w
  | none =>
   cases w.farLoad P a (m==.atomic) with
   | error h=>rfl
   | ok r=>exact ih r.1 w
 | store m a v k ih =>
  cases v with
  | agg _=>rfl
  | tuple _=>rfl
  | _ =>
   simp only [Sem.bind,Sem.run]
   cases w.cell? a with
   | some u =>
    dsimp only
    split
    ·rfl
    ·exact ih _
   | none =>
    dsimp only
    split
    ·exact ih _
    ·rfl
 | new o k ih=>exact ih _ _
 | shape r k ih=>exact ih _ _
 | freeze a n k ih=>exact ih _
 | frozen a k ih=>exact ih _ _
 | getObj r k ih =>
  simp only [Sem.bind,Sem.run]
  cases w.heap[r]? with
  | none=>rfl
  | some o=>cases o <;> first | rfl | exact ih _ _
 | setObj r o k ih =>
  simp only [Sem.bind,Sem.run]
  cases w.heap[r]? with
  | none=>rfl
  | some o=>cases o <;> first | rfl | exact ih _
 | choose q k ih =>
  simp only [Sem.bind,Sem.run]
  split <;> exact ih _ _
 | sys c k ih=>exact ih _ _
 | program k ih=>exact ih _ _
 | mark m k ih=>exact ih _
 | halt h=>rfl
def dS:Value→Bool
 | .agg _ | .tuple _=>false
 | _=>true
theorem run_load{w:World}{b o:Nat}{v:Value}(h:w.cell? (at_ b o)=some v):(load (at_ b o)).run P w=.ok v w:=by
 simp [load,Sem.run,h]
theorem run_loadCellsFrom{w:World}(b o:Nat)(vs:List Value):∀(k:Nat) (acc:Array Value),b2 w b (o+k) vs →
  (loadCellsFrom (at_ b o) k vs.length acc).run P w=.ok (acc++vs.toArray) w:=by
 induction vs with
 | nil=>intro k acc _;simp [loadCellsFrom,run_pure]
 | cons v vs ih =>
  intro k acc h
  simp only [List.length_cons,loadCellsFrom]
  rw [run_bind,p6,run_load h.head]
  simp only
  rw [ih (k+1) (acc.push v) (by rw [← Nat.add_assoc];exact h.tail)]
  congr 1
  apply Array.ext'
  simp
theorem run_loadCells{w:World}{b o:Nat}{vs:List Value}(h:b2 w b o vs):(loadCells (at_ b o) vs.length).run P w=.ok vs.toArray w:=by
 unfold loadCells
 rw [run_loadCellsFrom b o vs 0 #[] (by simpa using h)]
 simp
theorem run_store{w:World}{b o:Nat}{v:Value}(hv:dS v=true)(h:fa w b o):(store (at_ b o) v).run P w=.ok () (w.setCell (at_ b o) v):=by
 obtain ⟨⟨u,hu⟩,hf⟩:=h
 cases v <;> simp_all [store,Sem.run,dS]
theorem By{b o:Nat}(vs:List Value):∀(w:World) (k:Nat),(∀v∈vs,dS v=true)→(∀i,i<vs.length→fa w b (o+k+i)) →
  (storeCells (at_ b o) vs k).run P w=.ok () (setCells w b (o+k) vs):=by
 induction vs with
 | nil=>intros;rfl
 | cons v vs ih =>
  intro w k h1 h2
  unfold storeCells
  have h0:fa w b (o+k):=h2 0 (by simp)
  rw [run_bind,p6,run_store (h1 v (by simp)) h0]
  simp only
  rw [ih _ (k+1) (fun v hv=>h1 v (by simp [hv]))]
  ·rfl
  ·intro i hi
   have:=h2 (i+1) (by simp;omega)
   refine Ext.p0 (Ext.setCell (F:=fun _ _=>True) v trivial) ?_
   rwa [show o +(k+1)+i=o+k +(i+1) by omega]
end
end Go.LM
namespace Go.LM
def Row{α : Type}(w:World)(R : α → List Value→ag→Prop)(size:Nat):List α → Nat→Nat→ag→Prop
 | [],_,_,_=>True
 | x :: xs,b,o,F=>∃vs G H,R x vs G∧vs.length=size∧b2 w b o vs∧Row w R size xs b (o+size) H∧ag.apart G H∧ag.sub G F∧ag.sub H F
structure mG{α : Type}(w:World)(R : α → List Value→ag→Prop)(size:Nat)(x:List α)(a:Addr)(c:Nat)(F:ag):Prop where
 spot:a.spot=none
 cap:x.length≤c
 wr:∀j,j<c*size→fO w size a.block (a.off+j)
 inF:∀j,j<c*size→F a.block (a.off+j)
 row:∃G,Row w R size x a.block a.off G∧(∀j,j<c*size→¬G a.block (a.off+j))∧ag.sub G F
mutual
def aa.an(w:World)(Z:ag):(t:aa)→bg→t.D→List Value→ag→Prop
 | .int k,_,x,vs,_=>vs=[.int k x]
 | .bool,_,x,vs,_=>vs=[.bool x]
 | .str,_,x,vs,_=>∃s:ByteArray,vs=[.string s]∧s.data.toList=x
 | .raw,_,x,vs,_=>vs=[x]∧∃A n c,x=.slice A n c
 | .sl t,.O e,x,vs,F=>∃A c,vs=[.slice A x.length c]∧((x=[]∧c=0)∨∃a,A=some a∧mG w (t.an w Z e) t.size x a c F)
 | .sl t,_,x,vs,_=>∃A c,vs=[.slice A x.length c]∧(x=[]∨∃a,A=some a∧a.spot=none∧Row w (fun y us _=>t.an w Z .R y us ag.none) t.size x a.block a.off ag.none∧(∀j,j<x.length*t.size→Z a.block (a.off+j))∧x.length≤c)
 | .st aj,m,x,vs,F=>aj.an w Z m.parts x vs F
def az.an(w:World)(Z:ag):(aj:az)→cM→aj.D→List Value→ag→Prop
 | .nil,_,_,vs,_=>vs=[]
 | .cons t aj,m,x,vs,F=>∃us bD G H,vs=us++bD∧t.an w Z m.ah x.1 us G∧aj.an w Z m.du x.2 bD H∧ag.apart G H∧ag.sub G F∧ag.sub H F
end
def b4(w w':World)(S:ag):Prop:=∀b o,S b o→w'.cell? (at_ b o)=w.cell? (at_ b o)∧∀k,w'.frozen? (at_ b k)=w.frozen? (at_ b k)
theorem b4.mono{w w':World}{S T:ag}(h:b4 w w' S)(hs:ag.sub T S):b4 w w' T:=fun b o ho=>h b o (hs b o ho)
theorem b4.p0{w w':World}{S:ag}(h:b4 w w' S){b o:Nat}(hs:S b o)(hw:fa w b o):fa w' b o:=by
 obtain ⟨⟨v,hv⟩,hf⟩:=hw
 exact⟨⟨v,by rw [(h b o hs).1];exact hv⟩,by rw [(h b o hs).2 o];exact hf⟩
theorem b4.kk{w w':World}{S:ag}(h:b4 w w' S){size b o:Nat}(hs:S b o)(hw:fO w size b o):fO w' size b o :=
 ⟨h.p0 hs hw.1,hw.2.imp id fun hk k=>by rw [(h b o hs).2 k];exact hk k⟩
theorem b4.BM{w w':World}{S:ag}(h:b4 w w' S){b o:Nat}{vs:List Value}(hs:∀i,i<vs.length→S b (o+i))(hc:b2 w b o vs):b2 w' b o vs :=
 hc.of_eq fun i hi=>(h b _ (hs i hi)).1
theorem b4.refl(w:World)(S:ag):b4 w w S:=fun _ _ _=>⟨rfl,fun _=>rfl⟩
theorem b4.trans{a b c:World}{S:ag}(h:b4 a b S)(k:b4 b c S):b4 a c S:=fun i o hs=>⟨(k i o hs).1.trans (h i o hs).1,fun j=>((k i o hs).2 j).trans ((h i o hs).2 j)⟩
theorem Row.mono{α : Type}{w:World}{R : α → List Value→ag→Prop}{size:Nat}{F F':ag}(hF:ag.sub F F'):∀ {x:List α} {b o:Nat},Row w R size x b o F→Row w R size x b o F'
 | [],_,_,_=>trivial
 | _ :: _,_,_,⟨vs,G,H,h1,h2,h3,h4,a7,bp,bI⟩=>⟨vs,G,H,h1,h2,h3,h4,a7,fun b o h=>hF b o (bp b o h),fun b o h=>hF b o (bI b o h)⟩
theorem Row.imp{α : Type}{w w':World}{R iB : α → List Value→ag→Prop}{size:Nat} : ∀ {x:List α} {b o:Nat} {F:ag},Row w R size x b o F →
  (∀y vs G,ag.sub G F→R y vs G→iB y vs G)→(∀j,j<x.length*size→w'.cell? (at_ b (o+j))=w.cell? (at_ b (o+j)))→Row w' iB size x b o F
 | [],_,_,_,_,_,_=>trivial
 | y :: x,b,o,F,⟨vs,G,H,h1,h2,h3,h4,a7,bp,bI⟩,eM,hc=>by
  refine⟨vs,G,H,eM _ _ _ bp h1,h2,h3.of_eq fun i hi=>hc i ?_,?_,a7,bp,bI⟩
  ·rw [List.length_cons,Nat.add_one_mul];omega
  ·refine Row.imp h4 (fun y vs df hG=>eM y vs df fun b o h=>bI b o (hG b o h)) fun j hj=>?_
   have:=hc (size+j) (by rw [List.length_cons,Nat.add_one_mul];omega)
   rwa [← Nat.add_assoc] at this
theorem Row.bare{α : Type}{w:World}{R iB : α → List Value→ag→Prop}{size:Nat} : ∀ {x:List α} {b o:Nat} {F:ag},Row w R size x b o F →
  (∀y vs G,ag.sub G F→R y vs G→iB y vs ag.none)→Row w iB size x b o ag.none
 | [],_,_,_,_,_=>trivial
 | y :: x,b,o,F,⟨vs,G,H,h1,h2,h3,h4,a7,bp,bI⟩,eM =>
  ⟨vs,ag.none,ag.none,eM _ _ _ bp h1,h2,h3,Row.bare h4 fun y vs df hG=>eM y vs df fun b o h=>bI b o (hG b o h),fun _ _ h=>h.elim,fun _ _ h=>h,fun _ _ h=>h⟩
mutual
theorem aa.an.mono{w:World}{Z Z':ag}(hZ:ag.sub Z Z'):∀(t:aa) (m:bg) {x:t.D} {vs:List Value} {F F':ag},ag.sub F F'→t.an w Z m x vs F→t.an w Z' m x vs F'
 | .int _,_,_,_,_,_,_,h=>by simpa only [aa.an] using h
 | .bool,_,_,_,_,_,_,h=>by simpa only [aa.an] using h
 | .str,_,_,_,_,_,_,h=>by simpa only [aa.an] using h
 | .raw,_,_,_,_,_,_,h=>by simpa only [aa.an] using h
 | .sl t,.O e,x,vs,F,F',hF,h=>by
  simp only [aa.an] at h ⊢
  obtain ⟨A,c,h1,h2⟩:=h
  refine⟨A,c,h1,h2.imp id ?_⟩
  rintro ⟨a,h3,h4⟩
  obtain ⟨G,g1,g2,g3⟩:=h4.row
  exact⟨a,h3,h4.spot,h4.cap,h4.wr,fun j hj=>hF _ _ (h4.inF j hj),G,g1.imp (fun y vs df _=>aa.an.mono hZ t e fun _ _ h=>h) (fun _ _=>rfl),g2,fun b o h=>hF b o (g3 b o h)⟩
 | .sl t,.R,x,vs,F,F',hF,h=>by
  simp only [aa.an] at h ⊢
  obtain ⟨A,c,h1,h2⟩:=h
  refine⟨A,c,h1,h2.imp id ?_⟩
  rintro ⟨a,h3,h4,a7,bp⟩
  exact⟨a,h3,h4,a7.imp (fun y vs df _=>aa.an.mono hZ t .R fun _ _ h=>h) (fun _ _=>rfl),fun j hj=>hZ _ _ (bp.1 j hj),bp.2⟩
 | .sl t,.S _,x,vs,F,F',hF,h=>by
  simp only [aa.an] at h ⊢
  obtain ⟨A,c,h1,h2⟩:=h
  refine⟨A,c,h1,h2.imp id ?_⟩
  rintro ⟨a,h3,h4,a7,bp⟩
  exact⟨a,h3,h4,a7.imp (fun y vs df _=>aa.an.mono hZ t .R fun _ _ h=>h) (fun _ _=>rfl),fun j hj=>hZ _ _ (bp.1 j hj),bp.2⟩
 | .st aj,m,x,vs,F,F',hF,h=>by
  simp only [aa.an] at h ⊢
  exact az.an.mono hZ aj m.parts hF h
theorem az.an.mono{w:World}{Z Z':ag}(hZ:ag.sub Z Z'):∀(aj:az) (m:cM) {x:aj.D} {vs:List Value} {F F':ag},ag.sub F F'→aj.an w Z m x vs F→aj.an w Z' m x vs F'
 | .nil,_,_,_,_,_,_,h=>by simpa only [az.an] using h
 | .cons t aj,m,x,vs,F,F',hF,h=>by
  simp only [az.an] at h ⊢
  obtain ⟨us,bD,G,H,h1,h2,h3,h4,a7,bp⟩:=h
  exact⟨us,bD,G,H,h1,aa.an.mono hZ t m.ah (fun _ _ h=>h) h2,az.an.mono hZ aj m.du (fun _ _ h=>h) h3,h4,fun b o h=>hF b o (a7 b o h),fun b o h=>hF b o (bp b o h)⟩
end
mutual
theorem aa.an.same{w w':World}{Z:ag}(hZ:b4 w w' Z):∀(t:aa) (m:bg) {x:t.D} {vs:List Value} {F:ag},b4 w w' F→t.an w Z m x vs F→t.an w' Z m x vs F
 | .int _,_,_,_,_,_,h=>by simpa only [aa.an] using h
 | .bool,_,_,_,_,_,h=>by simpa only [aa.an] using h
 | .str,_,_,_,_,_,h=>by simpa only [aa.an] using h
 | .raw,_,_,_,_,_,h=>by simpa only [aa.an] using h
 | .sl t,.O e,x,vs,F,hF,h=>by
  simp only [aa.an] at h ⊢
  obtain ⟨A,c,h1,h2⟩:=h
  refine⟨A,c,h1,h2.imp id ?_⟩
  rintro ⟨a,h3,h4⟩
  obtain ⟨G,g1,g2,g3⟩:=h4.row
  have hle:x.length*t.size≤c*t.size:=Nat.mul_le_mul_right _ h4.cap
  exact⟨a,h3,h4.spot,h4.cap,fun j hj=>hF.kk (h4.inF j hj) (h4.wr j hj),h4.inF,G,g1.imp (fun y vs df hG=>aa.an.same hZ t e (hF.mono fun b o h=>g3 b o (hG b o h))) (fun j hj=>(hF _ _ (h4.inF j (by omega))).1),g2,g3⟩
 | .sl t,.R,x,vs,F,hF,h=>by
  simp only [aa.an] at h ⊢
  obtain ⟨A,c,h1,h2⟩:=h
  refine⟨A,c,h1,h2.imp id ?_⟩
  rintro ⟨a,h3,h4,a7,bp⟩
  exact⟨a,h3,h4,a7.imp (fun y vs df _=>aa.an.same hZ t .R (fun _ _ h=>h.elim)) (fun j hj=>(hZ _ _ (bp.1 j hj)).1),bp⟩
 | .sl t,.S _,x,vs,F,hF,h=>by
  simp only [aa.an] at h ⊢
  obtain ⟨A,c,h1,h2⟩:=h
  refine⟨A,c,h1,h2.imp id ?_⟩
  rintro ⟨a,h3,h4,a7,bp⟩
  exact⟨a,h3,h4,a7.imp (fun y vs df _=>aa.an.same hZ t .R (fun _ _ h=>h.elim)) (fun j hj=>(hZ _ _ (bp.1 j hj)).1),bp⟩
 | .st aj,m,x,vs,F,hF,h=>by
  simp only [aa.an] at h ⊢
  exact az.an.same hZ aj m.parts hF h
theorem az.an.same{w w':World}{Z:ag}(hZ:b4 w w' Z):∀(aj:az) (m:cM) {x:aj.D} {vs:List Value} {F:ag},b4 w w' F→aj.an w Z m x vs F→aj.an w' Z m x vs F
 | .nil,_,_,_,_,_,h=>by simpa only [az.an] using h
 | .cons t aj,m,x,vs,F,hF,h=>by
  simp only [az.an] at h ⊢
  obtain ⟨us,bD,G,H,h1,h2,h3,h4,a7,bp⟩:=h
  exact⟨us,bD,G,H,h1,aa.an.same hZ t m.ah (hF.mono a7) h2,az.an.same hZ aj m.du (hF.mono bp) h3,h4,a7,bp⟩
end
mutual
theorem aa.an.len{w:World}{Z:ag} : ∀(t:aa) (m:bg) {x:t.D} {vs:List Value} {F:ag},t.an w Z m x vs F→vs.length=t.size∧∀v∈vs,dS v=true
 | .int _,_,_,_,_,h=>by simp only [aa.an] at h;subst h;simp [aa.size,dS]
 | .bool,_,_,_,_,h=>by simp only [aa.an] at h;subst h;simp [aa.size,dS]
 | .str,_,_,_,_,h=>by simp only [aa.an] at h;obtain ⟨s,rfl,_⟩:=h;simp [aa.size,dS]
 | .raw,_,_,_,_,h=>by simp only [aa.an] at h;obtain ⟨rfl,A,n,c,rfl⟩:=h;simp [aa.size,dS]
 | .sl t,.O e,x,vs,F,h=>by simp only [aa.an] at h;obtain ⟨A,c,rfl,_⟩:=h;simp [aa.size,dS]
 | .sl t,.R,x,vs,F,h=>by simp only [aa.an] at h;obtain ⟨A,c,rfl,_⟩:=h;simp [aa.size,dS]
 | .sl t,.S _,x,vs,F,h=>by simp only [aa.an] at h;obtain ⟨A,c,rfl,_⟩:=h;simp [aa.size,dS]
 | .st aj,m,x,vs,F,h=>by simp only [aa.an] at h;simpa only [aa.size] using az.an.len aj m.parts h
theorem az.an.len{w:World}{Z:ag} : ∀(aj:az) (m:cM) {x:aj.D} {vs:List Value} {F:ag},aj.an w Z m x vs F→vs.length=aj.size∧∀v∈vs,dS v=true
 | .nil,_,_,_,_,h=>by simp only [az.an] at h;subst h;simp [az.size]
 | .cons t aj,m,x,vs,F,h=>by
  simp only [az.an] at h
  obtain ⟨us,bD,G,H,rfl,h2,h3,_⟩:=h
  have a:=aa.an.len t m.ah h2
  have b:=az.an.len aj m.du h3
  refine⟨by simp [az.size,a.1,b.1],fun v hv=>?_⟩
  rcases List.mem_append.1 hv with h | h
  ·exact a.2 v h
  ·exact b.2 v h
end
mutual
theorem aa.an.read{w:World}{Z Z':ag}(hZ:ag.sub Z Z'):∀(t:aa) (m:bg) {x:t.D} {vs:List Value} {F:ag},ag.sub F Z'→t.an w Z m x vs F→t.an w Z' .R x vs ag.none
 | .int _,_,_,_,_,_,h=>by simpa only [aa.an] using h
 | .bool,_,_,_,_,_,h=>by simpa only [aa.an] using h
 | .str,_,_,_,_,_,h=>by simpa only [aa.an] using h
 | .raw,_,_,_,_,_,h=>by simpa only [aa.an] using h
 | .sl t,.O e,x,vs,F,hF,h=>by
  simp only [aa.an] at h ⊢
  obtain ⟨A,c,h1,h2⟩:=h
  refine⟨A,c,h1,?_⟩
  rcases h2 with⟨h,_⟩ | ⟨a,h3,h4⟩
  ·exact .inl h
  ·obtain ⟨G,g1,g2,g3⟩:=h4.row
   have hle:x.length*t.size≤c*t.size:=Nat.mul_le_mul_right _ h4.cap
   exact .inr ⟨a,h3,h4.spot,g1.bare fun y vs df hG=>aa.an.read hZ t e (fun b o h=>hF b o (g3 b o (hG b o h))),fun j hj=>hF _ _ (h4.inF j (by omega)),h4.cap⟩
 | .sl t,.R,x,vs,F,hF,h=>aa.an.mono hZ (.sl t) .R (F:=ag.none) (fun _ _ h=>h) (by simpa only [aa.an] using h)
 | .sl t,.S _,x,vs,F,hF,h=>aa.an.mono hZ (.sl t) .R (F:=ag.none) (fun _ _ h=>h) (by simpa only [aa.an] using h)
 | .st aj,m,x,vs,F,hF,h=>by
  simp only [aa.an] at h ⊢
  exact az.an.read hZ aj m.parts hF h
theorem az.an.read{w:World}{Z Z':ag}(hZ:ag.sub Z Z'):∀(aj:az) (m:cM) {x:aj.D} {vs:List Value} {F:ag},ag.sub F Z'→aj.an w Z m x vs F→aj.an w Z' (bg.parts .R) x vs ag.none
 | .nil,_,_,_,_,_,h=>by simpa only [az.an] using h
 | .cons t aj,m,x,vs,F,hF,h=>by
  simp only [az.an] at h ⊢
  obtain ⟨us,bD,G,H,h1,h2,h3,h4,a7,bp⟩:=h
  exact⟨us,bD,ag.none,ag.none,h1,aa.an.read hZ t m.ah (fun b o h=>hF b o (a7 b o h)) h2,az.an.read hZ aj m.du (fun b o h=>hF b o (bp b o h)) h3,fun _ _ h=>h.elim,fun _ _ h=>h,fun _ _ h=>h⟩
end
mutual
theorem rC{w:World}{Z:ag} : ∀ {t:aa} {x:t.D} {vs:List Value} {F:ag},t.an w Z .R x vs F→t.an w Z .R x vs ag.none
 | .int _,_,_,_,h=>by simpa only [aa.an] using h
 | .bool,_,_,_,h=>by simpa only [aa.an] using h
 | .str,_,_,_,h=>by simpa only [aa.an] using h
 | .raw,_,_,_,h=>by simpa only [aa.an] using h
 | .sl t,_,_,_,h=>by simpa only [aa.an] using h
 | .st aj,_,_,_,h=>by simp only [aa.an] at h ⊢;exact Ru h
theorem Ru{w:World}{Z:ag} : ∀ {aj:az} {x:aj.D} {vs:List Value} {F:ag},aj.an w Z (bg.parts .R) x vs F→aj.an w Z (bg.parts .R) x vs ag.none
 | .nil,_,_,_,h=>by simpa only [az.an] using h
 | .cons t aj,_,_,_,h=>by
  simp only [az.an] at h ⊢
  obtain ⟨us,bD,G,H,h1,h2,h3,h4,a7,bp⟩:=h
  exact⟨us,bD,ag.none,ag.none,h1,rC h2,Ru h3,fun _ _ h=>h.elim,fun _ _ h=>h,fun _ _ h=>h⟩
end
mutual
theorem rr{w:World}{Z Z':ag} : ∀(t:aa) {m m':bg} {x:t.D} {vs:List Value} {F F':ag},t.flat=true→t.an w Z m x vs F→t.an w Z' m' x vs F'
 | .int _,_,_,_,_,_,_,_,h=>by simpa only [aa.an] using h
 | .bool,_,_,_,_,_,_,_,h=>by simpa only [aa.an] using h
 | .str,_,_,_,_,_,_,_,h=>by simpa only [aa.an] using h
 | .raw,_,_,_,_,_,_,_,h=>by simpa only [aa.an] using h
 | .sl t,_,_,_,_,_,_,hf,h=>by simp [aa.flat] at hf
 | .st aj,_,_,_,_,_,_,hf,h=>by simp only [aa.flat] at hf;simp only [aa.an] at h ⊢;exact Rv aj hf h
theorem Rv{w:World}{Z Z':ag} : ∀(aj:az) {m m':cM} {x:aj.D} {vs:List Value} {F F':ag},aj.flat=true→aj.an w Z m x vs F→aj.an w Z' m' x vs F'
 | .nil,_,_,_,_,_,_,_,h=>by simpa only [az.an] using h
 | .cons t aj,_,_,_,_,_,_,hf,h=>by
  simp only [az.flat] at hf
  simp only [az.an] at h ⊢
  obtain ⟨us,bD,G,H,h1,h2,h3,h4,a7,bp⟩:=h
  cases hb:t.flat
  ·rw [hb] at hf;simp at hf
  ·rw [hb] at hf
   exact⟨us,bD,ag.none,ag.none,h1,rr t hb h2,Rv aj hf h3,fun _ _ h=>h.elim,fun _ _ h=>h.elim,fun _ _ h=>h.elim⟩
end
mutual
theorem tG{w:World}{Z Z':ag} : ∀(t:aa) {x:t.D} {vs:List Value} {F:ag},t.an w Z t.own x vs F→t.an w Z' t.own x vs F
 | .int _,_,_,_,h=>by simpa only [aa.an] using h
 | .bool,_,_,_,h=>by simpa only [aa.an] using h
 | .str,_,_,_,h=>by simpa only [aa.an] using h
 | .raw,_,_,_,h=>by simpa only [aa.an] using h
 | .sl t,_,_,_,h=>by
  simp only [aa.own,aa.an] at h ⊢
  obtain ⟨A,c,h1,h2⟩:=h
  refine⟨A,c,h1,h2.imp (fun h=>h) ?_⟩
  rintro ⟨a,h3,h4⟩
  obtain ⟨G,g1,g2,g3⟩:=h4.row
  exact⟨a,h3,h4.spot,h4.cap,h4.wr,h4.inF,G,g1.imp (fun y vs df _=>tG t) (fun _ _=>rfl),g2,g3⟩
 | .st aj,_,_,_,h=>by
  simp only [aa.own] at h ⊢
  cases hb:aj.flat
  ·rw [hb] at h
   simp only [aa.an,bg.parts,Bool.false_eq_true,if_false] at h ⊢
   exact BN aj h
  ·rw [hb] at h
   exact rr (.st aj) (by simp only [aa.flat];exact hb) h
theorem BN{w:World}{Z Z':ag} : ∀(aj:az) {x:aj.D} {vs:List Value} {F:ag},aj.an w Z aj.own x vs F→aj.an w Z' aj.own x vs F
 | .nil,_,_,_,h=>by simpa only [az.an] using h
 | .cons t aj,_,_,_,h=>by
  simp only [az.own,az.an,cM.ah,cM.du] at h ⊢
  obtain ⟨us,bD,G,H,h1,h2,h3,h4,a7,bp⟩:=h
  exact⟨us,bD,G,H,h1,tG t h2,BN aj h3,h4,a7,bp⟩
end
end Go.LM
namespace Go.LM
structure bC where
 base:Option Addr
 cap:Nat
 F:ag
def dd(ι : Nat→bC)(dp:List (Nat×Nat)):ag:=fun b o=>∃d,d∈dp∧(ι d.1).F b o
def known(s:al)(id:Nat):Prop:=s.o id≠.none
def eg(s:al)(d:Nat×Nat):Prop:=known s d.1∧(s.o d.1=.dead∨d.2≤km s d.1)
def cj.live:cj→Prop
 | .row .. | .var .. => True
 | _=>False
structure Jk(i:bC)(size:Nat)(sub:Option (Nat×Nat))(len:Nat)(A:Option Addr)(n c:Nat):Prop where
 Rw:n=match sub with | none=>len | some (_,m)=>m
 fits:d_ sub+n≤len
 le:n≤c
 cap:d_ sub+c≤i.cap
 at_:c=0∨∃a,i.base=some a∧A=some (at_ a.block (a.off+d_ sub*size))
theorem k8{o:cj}{t:aa}{em:bg}{ver:Nat}{xs:List t.D}(h:o=.row t em ver xs):o.core=.row t em ver xs:=by rw [h];rfl
def je(s:al)(ι : Nat→bC)(p:Place)(a:Addr):Prop :=
 a.spot=none∧match (s.o p.id).core with
  | .var _ cs=>p.fb=none∧∃a0,(ι p.id).base=some a0∧a=at_ a0.block (a0.off+p.off)
  | .row t _ _ xs=>∃i,p.fb=some i∧i<xs.length∧∃a0,(ι p.id).base=some a0∧a=at_ a0.block (a0.off+i*t.size+p.off)
  | _=>True
def rD(w:World)(s:al)(ι : Nat→bC)(dp:List (Nat×Nat))(ct:Option Place)(v:Value):Prop :=
 ∀p,ct=some p→(∃d,d∈dp∧d.1=p.id)∧(alive s dp=true→∃b o,je s ι p (at_ b o)∧w.cell? (at_ b o)=some v∧(ι p.id).F b o)
theorem rD.none{w:World}{s:al}{ι : Nat→bC}{dp:List (Nat×Nat)}{v:Value} : rD w s ι dp none v:=fun p h=>by cases h
def cc(w:World)(Z:ag)(s:al)(ι : Nat→bC):bb→Value→Prop
 | .int k x,v=>v=.int k x
 | .bool x,v=>v=.bool x
 | .str x,v=>∃b:ByteArray,v=.string b∧b.data.toList=x
 | .raw x,v=>v=x∧∃A n c,x=.slice A n c
 | .nil _,v=>v=.slice none 0 0
 | .bA t dp ct xs,v=>(∀d,d∈dp→eg s d)∧(∃A n c,v=.slice A n c) ∧
   (alive s dp=true→(aa.sl t).an w (Z.or (dd ι dp)) .R xs [v] ag.none)∧rD w s ι dp ct v
 | .ah id sub,v=>known s id∧∃A n c,v=.slice A n c∧∀t em ver xs,(s.o id).core=.row t em ver xs→Jk (ι id) t.size sub xs.length A n c
def bF(w:World)(Z:ag)(s:al)(ι : Nat→bC):List bb→List Value→Prop
 | [],[]=>True
 | c :: cs,v :: vs=>cc w Z s ι c v∧bF w Z s ι cs vs
 | _,_=>False
mutual
def aT(w:World)(Z:ag)(s:al)(ι : Nat→bC):a'→Value→Prop
 | .aw,_=>True
 | .gone,v=>v=undef
 | .aU c,v=>cc w Z s ι c v
 | .h8 cs,v=>∃vs,v=.agg vs.toArray∧bF w Z s ι cs vs
 | .ptr p,v=>known s p.id∧∃a,v=.pointer (some a)∧je s ι p a
 | .c3 dp cs off,v=>(∀d,d∈dp→eg s d)∧∃b o vs,v=.pointer (some (at_ b (o+off))) ∧
   (alive s dp=true→bF w Z s ι cs vs∧b2 w b o vs∧∀j,j<cs.length→Z.or (dd ι dp) b (o+j))
 | .jS,v=>v=.pointer none
 | .kD,v=>v=.slice none 0 0
 | .opt id o,v=>known s id∧((o<0∧v=.pointer none)∨(0≤o∧∃a,v=.pointer (some a)∧je s ι ⟨id,some o.toNat,0⟩ a))
 | .ru t,v=>v.cells.toList.length=t.size∧∀u∈v.cells.toList,LM.dS u=true
 | .may b dp cs,v=>(b=false∧v=.pointer none)∨(b=true∧(∀d,d∈dp→eg s d)∧∃b o vs,v=.pointer (some (at_ b (o+0))) ∧
   (alive s dp=true→bF w Z s ι cs vs∧b2 w b o vs∧∀j,j<cs.length→Z.or (dd ι dp) b (o+j)))
 | .fn f first k0,v=>∃us vs,v=.func (.func f) us.toArray vs.toArray∧a8 w Z s ι first us∧a8 w Z s ι k0 vs
 | .oK l,v=>∃vs,v=.tuple vs.toArray∧a8 w Z s ι l vs
def a8(w:World)(Z:ag)(s:al)(ι : Nat→bC):List a'→List Value→Prop
 | [],vs=>vs=[]
 | x :: l,vs=>∃v bD,vs=v :: bD∧aT w Z s ι x v∧a8 w Z s ι l bD
end
def hO(w:World)(Z:ag)(s:al)(ι : Nat→bC)(i:bC):cj→Prop
 | .row t em _ xs=>(xs=[]∧i.cap=0)∨∃a,i.base=some a∧mG w (t.an w Z em) t.size xs a i.cap i.F
 | .var _ cs=>∃a vs,i.base=some a∧a.spot=none∧bF w Z s ι cs vs∧b2 w a.block a.off vs ∧
   (∀j,j<cs.length→fa w a.block (a.off+j)∧i.F a.block (a.off+j))
 | _=>True
structure Seen where
 dp:List (Nat×Nat)
 b:Nat
 o:Nat
 vs:List Value
def tH(w:World)(Z:ag)(s:al)(ι : Nat→bC)(e:Seen):Prop :=
 (∀d,d∈e.dp→eg s d)∧(alive s e.dp=true→b2 w e.b e.o e.vs∧∀j,j<e.vs.length→Z.or (dd ι e.dp) e.b (e.o+j))
structure cB where
 n:Nat
 p7:List Value
 gc:List Seen
instance:Coe cB Nat:=⟨cB.n⟩
structure Inv(w0:World)(F0 Z0:ag)(n:cB)(s:al)(a:Act)(w:World)(ι : Nat→bC)(Z:ag):Prop where
 ext:Ext w0 w F0
 dC:∀b o,Z b o→Z0 b o∨F0 b o∨w0.heap.size≤b
 rE:ag.sub Z0 Z
 iC:∀b o,Z b o→b<w.heap.size
 fP:∀id,hO w Z s ι (ι id) (s.o id)
 own:∀id,(s.o id).live→∀b o,(ι id).F b o→(F0 b o∨w0.heap.size≤b)∧b<w.heap.size
 apart:∀id dO,(s.o id).live→(s.o dO).live→id≠dO→ag.apart (ι id).F (ι dO).F
 cW:∀id,(s.o id).live→ag.apart (ι id).F Z
 tmps:∀k,aT w Z s ι (s.t k) (a.tmps.getD k undef)
 size:a.tmps.size=n.n
 ghost:a8 w Z s ι s.g n.p7
 seen:∀e,e∈n.gc→tH w Z s ι e
 defers:a.defers=[]
theorem bF.len{w:World}{Z:ag}{s:al}{ι : Nat→bC} : ∀ {cs:List bb} {vs:List Value},bF w Z s ι cs vs→vs.length=cs.length
 | [],[],_=>rfl
 | _ :: _,_ :: _,h=>by simp [bF.len h.2]
 | [],_ :: _,h=>h.elim
 | _ :: _,[],h=>h.elim
theorem cc.dS{w:World}{Z:ag}{s:al}{ι : Nat→bC} : ∀ {c:bb} {v:Value},cc w Z s ι c v→LM.dS v=true
 | .int _ _,_,h=>by cases h;rfl
 | .bool _,_,h=>by cases h;rfl
 | .str _,_,⟨_,h,_⟩=>by cases h;rfl
 | .raw _,_,⟨h,_,_,_,h2⟩=>by subst h;subst h2;rfl
 | .nil _,_,h=>by cases h;rfl
 | .bA _ _ _ _,_,⟨_,⟨_,_,_,h⟩,_,_⟩=>by cases h;rfl
 | .ah _ _,_,⟨_,_,_,_,h,_⟩=>by cases h;rfl
theorem bF.dS{w:World}{Z:ag}{s:al}{ι : Nat→bC} : ∀ {cs:List bb} {vs:List Value},bF w Z s ι cs vs→∀v∈vs,LM.dS v=true
 | [],[],_=>by simp
 | _ :: _,_ :: _,h=>by
  intro v hv
  rcases List.mem_cons.1 hv with rfl | hv
  ·exact h.1.dS
  ·exact bF.dS h.2 v hv
 | [],_ :: _,h=>h.elim
 | _ :: _,[],h=>h.elim
theorem bF.append{w:World}{Z:ag}{s:al}{ι : Nat→bC} : ∀ {cs ds:List bb} {us vs:List Value},bF w Z s ι cs us→bF w Z s ι ds vs→bF w Z s ι (cs++ds) (us++vs)
 | [],_,[],_,_,k=>k
 | _ :: _,_,_ :: _,_,h,k=>⟨h.1,bF.append h.2 k⟩
 | [],_,_ :: _,_,h,_=>h.elim
 | _ :: _,_,[],_,h,_=>h.elim
theorem bF.split{w:World}{Z:ag}{s:al}{ι : Nat→bC} : ∀ {cs ds:List bb} {vs:List Value},bF w Z s ι (cs++ds) vs →
  ∃us aj,vs=us++aj∧us.length=cs.length∧bF w Z s ι cs us∧bF w Z s ι ds aj
 | [],ds,vs,h=>⟨[],vs,rfl,rfl,trivial,h⟩
 | c :: cs,ds,v :: vs,h=>by
  obtain ⟨us,aj,h1,h2,h3,h4⟩:=bF.split (cs:=cs) h.2
  exact⟨v :: us,aj,by rw [h1];rfl,by simp [h2],⟨h.1,h3⟩,h4⟩
 | _ :: _,_,[],h=>h.elim
theorem bF.drop{w:World}{Z:ag}{s:al}{ι : Nat→bC} : ∀(k:Nat) {cs:List bb} {vs:List Value},bF w Z s ι cs vs→bF w Z s ι (cs.drop k) (vs.drop k)
 | 0,_,_,h=>h
 | _+1,[],[],h=>h
 | k+1,_ :: _,_ :: _,h=>bF.drop k h.2
 | _+1,[],_ :: _,h=>h.elim
 | _+1,_ :: _,[],h=>h.elim
theorem bF.take{w:World}{Z:ag}{s:al}{ι : Nat→bC} : ∀(k:Nat) {cs:List bb} {vs:List Value},bF w Z s ι cs vs→bF w Z s ι (cs.take k) (vs.take k)
 | 0,_,_,h=>trivial
 | _+1,[],[],h=>h
 | k+1,_ :: _,_ :: _,h=>⟨h.1,bF.take k h.2⟩
 | _+1,[],_ :: _,h=>h.elim
 | _+1,_ :: _,[],h=>h.elim
theorem bF.mono{w w':World}{Z Z':ag}{s aq:al}{ι bh:Nat→bC}(hc:∀c v,cc w Z s ι c v→cc w' Z' aq bh c v) :
  ∀ {cs:List bb} {vs:List Value},bF w Z s ι cs vs→bF w' Z' aq bh cs vs
 | [],[],_=>trivial
 | _ :: _,_ :: _,h=>⟨hc _ _ h.1,bF.mono hc h.2⟩
 | [],_ :: _,h=>h.elim
 | _ :: _,[],h=>h.elim
inductive iD:cj→bC→cj→bC→Prop
 | stay (o:cj) (i:bC):iD o i o i
 | made (o':cj) (i dP:bC):iD .none i o' dP
 | dead (o:cj) (i dP:bC):iD o i .dead dP
 | row (t:aa) (em gk:bg) (v eG:Nat) (xs fQ:List t.D) (i dP:bC) (hv:v<eG) (hl:fQ.length=xs.length) (hb:dP.base=i.base) (hc:dP.cap=i.cap):iD (.row t em v xs) i (.row t gk eG fQ) dP
 | var (v eG:Nat) (cs cs':List bb) (i:bC) (hv:v<eG) (hl:cs'.length=cs.length):iD (.var v cs) i (.var eG cs') i
 | fc (o:cj) (i:bC) (hl:o.live):iD o i (.b_ o) i
 | rF (t:aa) (em gk:bg) (v eG:Nat) (xs fQ:List t.D) (i dP:bC) (hv:v<eG) (hl:fQ.length=xs.length) (hb:dP.base=i.base) (hc:dP.cap=i.cap):iD (.b_ (.row t em v xs)) i (.row t gk eG fQ) dP
 | yO (v eG:Nat) (cs cs':List bb) (i dP:bC) (hv:v<eG) (hb:dP.base=i.base):iD (.b_ (.var v cs)) i (.var eG cs') dP
def rG(s:al)(ι : Nat→bC)(aq:al)(bh:Nat→bC):Prop:=∀id,iD (s.o id) (ι id) (aq.o id) (bh id)
theorem rG.known{s aq:al}{ι bh:Nat→bC}(h:rG s ι aq bh){id:Nat}(hk:known s id):known aq id:=by
 unfold LM.known at *
 have:=h id
 generalize s.o id=o at *;generalize aq.o id=o' at *;generalize ι id=i at *;generalize bh id=dP at *
 cases this <;> simp_all
theorem rG.dep{s aq:al}{ι bh:Nat→bC}(h:rG s ι aq bh){d:Nat×Nat}(hk:eg s d):eg aq d:=by
 refine⟨h.known hk.1,?_⟩
 obtain ⟨k1,k2⟩:=hk
 unfold LM.known km at *
 have:=h d.1
 generalize s.o d.1=o at *;generalize aq.o d.1=o' at *;generalize ι d.1=i at *;generalize bh d.1=dP at *
 cases this with
 | stay=>exact k2
 | made=>exact absurd rfl k1
 | dead=>exact .inl rfl
 | row t em gk v eG xs fQ i dP k9 hl hb hc=>rcases k2 with h | h;exact absurd h (by simp);exact .inr (by dsimp only at *;omega)
 | var v eG cs cs' i k9 hl=>rcases k2 with h | h;exact absurd h (by simp);exact .inr (by dsimp only at *;omega)
 | fc o i hl =>
  rcases k2 with h | h
  ·rw [h] at hl;exact hl.elim
  ·cases o <;> first | exact hl.elim | exact .inr h
 | rF t em gk v eG xs fQ i dP k9 hl hb hc=>rcases k2 with h | h;exact absurd h (by simp);exact .inr (by dsimp only at *;omega)
 | yO v eG cs cs' i dP k9 hb=>rcases k2 with h | h;exact absurd h (by simp);exact .inr (by dsimp only at *;omega)
theorem rG.stays{s aq:al}{ι bh:Nat→bC}(h:rG s ι aq bh):∀ {dp:List (Nat×Nat)},(∀d,d∈dp→eg s d)→alive aq dp=true →
  alive s dp=true∧∀d,d∈dp→aq.o d.1=s.o d.1 ∧ bh d.1 = ι d.1∧(s.o d.1).live
 | [],_,_=>⟨rfl,by simp⟩
 | (id,v) :: dp,hk,ha=>by
  have fR:=fun ha=>rG.stays h (dp:=dp) (fun d ah=>hk d (by simp [ah])) ha
  obtain ⟨k1,k2⟩:=hk (id,v) (by simp)
  have ht:=h id
  simp only [LM.known,km] at k1 k2
  unfold alive at ha ⊢
  generalize ho:s.o id=o at *
  generalize rH:aq.o id=o' at *
  generalize hi : ι id=i at *
  generalize c6 : bh id=dP at *
  cases ht with
  | stay =>
   cases o with
   | row t em w xs =>
    dsimp only at ha ⊢
    cases hb:Nat.beq w v
    ·rw [hb] at ha;simp at ha
    ·rw [hb] at ha
     obtain ⟨bw,b9⟩:=fR ha
     refine⟨bw,fun d ah=>?_⟩
     rcases List.mem_cons.1 ah with rfl | ah
     ·exact⟨by rw [ho,rH],by rw [hi,c6],by rw [ho];trivial⟩
     ·exact b9 d ah
   | var w cs =>
    dsimp only at ha ⊢
    cases hb:Nat.beq w v
    ·rw [hb] at ha;simp at ha
    ·rw [hb] at ha
     obtain ⟨bw,b9⟩:=fR ha
     refine⟨bw,fun d ah=>?_⟩
     rcases List.mem_cons.1 ah with rfl | ah
     ·exact⟨by rw [ho,rH],by rw [hi,c6],by rw [ho];trivial⟩
     ·exact b9 d ah
   | none=>simp at ha
   | dead=>simp at ha
   | b_=>simp at ha
  | made=>exact absurd rfl k1
  | dead=>simp at ha
  | fc=>simp at ha
  | rF t em gk w w' xs fQ i dP hv hl hb hc =>
   dsimp only at ha
   cases hb:Nat.beq w' v
   ·rw [hb] at ha;simp at ha
   ·have:=Nat.eq_of_beq_eq_true hb;simp at k2;omega
  | yO w w' cs cs' i dP hv hb =>
   dsimp only at ha
   cases hb:Nat.beq w' v
   ·rw [hb] at ha;simp at ha
   ·have:=Nat.eq_of_beq_eq_true hb;simp at k2;omega
  | row t em gk w w' xs fQ i dP hv hl hb hc =>
   dsimp only at ha
   cases hb:Nat.beq w' v
   ·rw [hb] at ha;simp at ha
   ·have:=Nat.eq_of_beq_eq_true hb;simp at k2;omega
  | var w w' cs cs' i hv hl =>
   dsimp only at ha
   cases hb:Nat.beq w' v
   ·rw [hb] at ha;simp at ha
   ·have:=Nat.eq_of_beq_eq_true hb;simp at k2;omega
def Rx(s:al)(ι : Nat→bC)(aq:al)(bh:Nat→bC)(Z:ag):ag :=
 fun b o=>Z b o∨∃id,(s.o id).live∧aq.o id=s.o id ∧ bh id = ι id∧(ι id).F b o
section
variable{w w':World}{Z Z':ag}{s aq:al}{ι bh:Nat→bC}
structure eA(w:World)(Z:ag)(s:al)(ι : Nat→bC)(w':World)(Z':ag)(aq:al)(bh:Nat→bC):Prop where
 turns:rG s ι aq bh
 dC:ag.sub Z Z'
 same:b4 w w' (Rx s ι aq bh Z)
theorem eA.dd(h:eA w Z s ι w' Z' aq bh){dp:List (Nat×Nat)}(hk:∀d,d∈dp→eg s d)(ha:alive aq dp=true) :
  b4 w w' (Z.or (dd ι dp))∧ag.sub (Z.or (LM.dd ι dp)) (Z'.or (LM.dd bh dp)):=by
 obtain ⟨h1,h2⟩:=h.turns.stays hk ha
 refine⟨h.same.mono ?_,?_⟩
 ·rintro b o (hz | ⟨d,ah,hf⟩)
  ·exact .inl hz
  ·exact .inr ⟨d.1,(h2 d ah).2.2,(h2 d ah).1,(h2 d ah).2.1,hf⟩
 ·rintro b o (hz | ⟨d,ah,hf⟩)
  ·exact .inl (h.dC b o hz)
  ·exact .inr ⟨d,ah,by rw [(h2 d ah).2.1];exact hf⟩
theorem je.move(h:eA w Z s ι w' Z' aq bh){p:Place}{a:Addr}(hk:known s p.id)(av:je s ι p a):je aq bh p a:=by
 obtain ⟨hs,av⟩:=av
 refine⟨hs,?_⟩
 have ht:=h.turns p.id
 unfold known at hk
 generalize s.o p.id=o at *;generalize aq.o p.id=o' at *;generalize ι p.id=i at *;generalize bh p.id=dP at *
 cases ht with
 | stay=>exact av
 | made=>exact absurd rfl hk
 | dead=>trivial
 | row t em gk v eG xs fQ i dP hv hl hb hc=>obtain ⟨k,h1,h2,h3⟩:=av;exact⟨k,h1,by omega,by rw [hb];exact h3⟩
 | var=>exact av
 | fc o i hl=>cases o <;> first | exact hl.elim | exact av
 | rF t em gk v eG xs fQ i dP hv hl hb hc=>obtain ⟨k,h1,h2,h3⟩:=av;exact⟨k,h1,by omega,by rw [hb];exact h3⟩
 | yO v eG cs cs' i dP hv hb=>obtain ⟨h1,h2⟩:=av;exact⟨h1,by rw [hb];exact h2⟩
theorem rD.move(h:eA w Z s ι w' Z' aq bh){dp:List (Nat×Nat)}{ct:Option Place}{v:Value}(hk:∀d,d∈dp→eg s d)(ho:rD w s ι dp ct v):rD w' aq bh dp ct v:=by
 intro p av
 obtain ⟨⟨d,ah,cd⟩,h2⟩:=ho p av
 refine⟨⟨d,ah,cd⟩,fun ha=>?_⟩
 obtain ⟨cP,dU⟩:=h.dd hk ha
 obtain ⟨s1,s2⟩:=h.turns.stays hk ha
 obtain ⟨b,o,k1,k2,k3⟩:=h2 s1
 refine⟨b,o,k1.move h (cd ▸ (hk d ah).1),?_,?_⟩
 ·rw [(cP b o (.inr ⟨d,ah,cd ▸ k3⟩)).1];exact k2
 ·rw [← cd,(s2 d ah).2.1,cd];exact k3
theorem cc.move(h:eA w Z s ι w' Z' aq bh):∀ {c:bb} {v:Value},cc w Z s ι c v→cc w' Z' aq bh c v
 | .int _ _,_,hc=>hc
 | .bool _,_,hc=>hc
 | .str _,_,hc=>hc
 | .raw _,_,hc=>hc
 | .nil _,_,hc=>hc
 | .bA t dp ct xs,v,⟨h1,h2,h3,h4⟩=>by
  refine⟨fun d ah=>h.turns.dep (h1 d ah),h2,fun ha=>?_,h4.move h h1⟩
  obtain ⟨a,b⟩:=h.dd h1 ha
  exact aa.an.mono b _ _ (fun _ _ h=>h) (aa.an.same a _ _ (fun _ _ h=>h.elim) (h3 (h.turns.stays h1 ha).1))
 | .ah id sub,v,⟨h1,A,n,c,hv,h2⟩=>by
  refine⟨h.turns.known h1,A,n,c,hv,fun t em ver xs ho=>?_⟩
  have ht:=h.turns id
  unfold LM.known at h1
  generalize wJ:s.o id=o at *
  generalize hii : ι id=i at *
  generalize aqR:aq.o id=o' at *
  generalize aqS : bh id=dP at *
  cases ht with
  | stay=>exact h2 _ _ _ _ ho
  | made=>exact absurd rfl h1
  | dead=>simp [cj.core] at ho
  | row t em gk v eG xs fQ i dP hv hl hb hc =>
   simp only [cj.core,cj.row.injEq] at ho
   obtain ⟨rfl,_,_,ho⟩:=ho
   have:=eq_of_heq ho;subst this
   obtain ⟨cP,dU,gJ,hP,h9⟩:=h2 _ _ _ _ rfl
   exact⟨by rw [hl];exact cP,by rw [hl];exact dU,gJ,by rw [hc];exact hP,by rw [hb];exact h9⟩
  | var=>simp [cj.core] at ho
  | fc o i hl=>exact h2 _ _ _ _ (by cases o <;> first | exact hl.elim | exact ho)
  | rF t em gk v eG xs fQ i dP hv hl hb hc =>
   simp only [cj.core,cj.row.injEq] at ho
   obtain ⟨rfl,_,_,ho⟩:=ho
   have:=eq_of_heq ho;subst this
   obtain ⟨cP,dU,gJ,hP,h9⟩:=h2 _ _ _ _ rfl
   exact⟨by rw [hl];exact cP,by rw [hl];exact dU,gJ,by rw [hc];exact hP,by rw [hb];exact h9⟩
  | yO=>simp [cj.core] at ho
theorem bF.move(h:eA w Z s ι w' Z' aq bh){cs:List bb}{vs:List Value}(hc:bF w Z s ι cs vs):bF w' Z' aq bh cs vs :=
 bF.mono (fun _ _=>cc.move h) hc
mutual
theorem aT.move(h:eA w Z s ι w' Z' aq bh):∀ {x:a'} {v:Value},aT w Z s ι x v→aT w' Z' aq bh x v
 | .aw,_,_=>by simp only [aT]
 | .gone,_,hx=>by simpa only [aT] using hx
 | .aU c,v,hx=>by simp only [aT] at hx ⊢;exact hx.move h
 | .h8 cs,v,hx=>by simp only [aT] at hx ⊢;obtain ⟨vs,h1,h2⟩:=hx;exact⟨vs,h1,h2.move h⟩
 | .ptr p,v,hx=>by
  simp only [aT] at hx ⊢;obtain ⟨h1,a,h2,h3⟩:=hx;exact⟨h.turns.known h1,a,h2,h3.move h h1⟩
 | .c3 dp cs off,v,hx=>by
  simp only [aT] at hx ⊢
  obtain ⟨h1,b,o,vs,h2,h3⟩:=hx
  refine⟨fun d ah=>h.turns.dep (h1 d ah),b,o,vs,h2,fun ha=>?_⟩
  obtain ⟨cP,dU⟩:=h.dd h1 ha
  obtain ⟨bw,b9,gd⟩:=h3 (h.turns.stays h1 ha).1
  exact⟨bw.move h,cP.BM (fun i hi=>gd i (by rw [← bw.len];exact hi)) b9,fun j hj=>dU _ _ (gd j hj)⟩
 | .ru t,v,hx=>by simpa only [aT] using hx
 | .may q dp cs,v,hx=>by
  simp only [aT] at hx ⊢
  rcases hx with hx | ⟨h0,h1,b,o,vs,h2,h3⟩
  ·exact .inl hx
  refine .inr ⟨h0,fun d ah=>h.turns.dep (h1 d ah),b,o,vs,h2,fun ha=>?_⟩
  obtain ⟨cP,dU⟩:=h.dd h1 ha
  obtain ⟨bw,b9,gd⟩:=h3 (h.turns.stays h1 ha).1
  exact⟨bw.move h,cP.BM (fun i hi=>gd i (by rw [← bw.len];exact hi)) b9,fun j hj=>dU _ _ (gd j hj)⟩
 | .jS,_,hx=>by simpa only [aT] using hx
 | .kD,_,hx=>by simpa only [aT] using hx
 | .opt id o,v,hx=>by
  simp only [aT] at hx ⊢
  obtain ⟨h1,h2⟩:=hx
  exact⟨h.turns.known h1,h2.imp (fun x=>x) fun⟨h3,a,h4,a7⟩=>⟨h3,a,h4,a7.move h h1⟩⟩
 | .fn f l m,v,hx=>by
  simp only [aT] at hx ⊢
  obtain ⟨us,vs,h1,h2,h3⟩:=hx
  exact⟨us,vs,h1,a8.move h h2,a8.move h h3⟩
 | .oK l,v,hx=>by
  simp only [aT] at hx ⊢
  obtain ⟨vs,h1,h2⟩:=hx
  exact⟨vs,h1,a8.move h h2⟩
theorem a8.move(h:eA w Z s ι w' Z' aq bh):∀ {x:List a'} {v:List Value},a8 w Z s ι x v→a8 w' Z' aq bh x v
 | [],v,hx=>by simpa only [a8] using hx
 | x :: l,v,hx=>by
  simp only [a8] at hx ⊢
  obtain ⟨u,us,h1,h2,h3⟩:=hx
  exact⟨u,us,h1,aT.move h h2,a8.move h h3⟩
end
theorem tH.move(h:eA w Z s ι w' Z' aq bh){e:Seen}(he:tH w Z s ι e):tH w' Z' aq bh e:=by
 obtain ⟨h1,h2⟩:=he
 refine⟨fun d ah=>h.turns.dep (h1 d ah),fun ha=>?_⟩
 obtain ⟨cP,dU⟩:=h.dd h1 ha
 obtain ⟨bw,b9⟩:=h2 (h.turns.stays h1 ha).1
 exact⟨cP.BM b9 bw,fun j hj=>dU _ _ (b9 j hj)⟩
theorem hO.move(h:eA w Z s ι w' Z' aq bh){id:Nat}(hl:(s.o id).live→aq.o id=s.o id ∧ bh id = ι id){o:cj}(ho:s.o id=o)(hs:hO w Z s ι (ι id) o):hO w' Z' aq bh (ι id) o:=by
 cases o with
 | none=>trivial
 | dead=>trivial
 | b_=>trivial
 | row t em ver xs =>
  have b8:(s.o id).live:=by rw [ho];trivial
  have hs1:b4 w w' (ι id).F:=h.same.mono fun b o hf=>.inr ⟨id,b8,(hl b8).1,(hl b8).2,hf⟩
  rcases hs with hs | ⟨a,h1,h2⟩
  ·exact .inl hs
  ·refine .inr ⟨a,h1,h2.spot,h2.cap,fun j hj=>hs1.kk (h2.inF j hj) (h2.wr j hj),h2.inF,?_⟩
   obtain ⟨G,g1,g2,g3⟩:=h2.row
   have hle:xs.length*t.size≤(ι id).cap*t.size:=Nat.mul_le_mul_right _ h2.cap
   exact⟨G,g1.imp (fun y vs df hG hr=>aa.an.mono h.dC _ _ (fun _ _ h=>h) (aa.an.same (h.same.mono fun b o hz=>.inl hz) _ _ (hs1.mono fun b o aD=>g3 b o (hG b o aD)) hr)) (fun j hj=>(hs1 _ _ (h2.inF j (by omega))).1),g2,g3⟩
 | var ver cs =>
  have b8:(s.o id).live:=by rw [ho];trivial
  have hs1:b4 w w' (ι id).F:=h.same.mono fun b o hf=>.inr ⟨id,b8,(hl b8).1,(hl b8).2,hf⟩
  obtain ⟨a,vs,h1,h2,h3,h4,a7⟩:=hs
  exact⟨a,vs,h1,h2,h3.move h,hs1.BM (fun i hi=>(a7 i (by rw [← h3.len];exact hi)).2) h4,fun j hj=>⟨hs1.p0 (a7 j hj).2 (a7 j hj).1,(a7 j hj).2⟩⟩
end
end Go.LM
namespace Go.LM
section
variable{w0:World}{F0 Z0:ag}{n:cB}{s aq:al}{a b6:Act}{w w':World}{ι bh:Nat→bC}{Z Z':ag}
theorem Inv.next(h:Inv w0 F0 Z0 n s a w ι Z)(hm:eA w Z s ι w' Z' aq bh){S:ag}(hx:Ext w w' S)
  (ef:∀b o,S b o→F0 b o∨w0.heap.size≤b)
  (hz:∀b o,Z' b o→Z b o∨((F0 b o∨w0.heap.size≤b)∧b<w'.heap.size))
  (ho:∀id,(aq.o id).live→¬(aq.o id=s.o id ∧ bh id = ι id)→hO w' Z' aq bh (bh id) (aq.o id) ∧
   (∀b o,(bh id).F b o→(F0 b o∨w0.heap.size≤b)∧b<w'.heap.size)∧(∀dO,(aq.o dO).live→id≠dO→ag.apart (bh id).F (bh dO).F))
  (nU:∀id,(aq.o id).live→ag.apart (bh id).F Z')
  (ht:∀k,aT w' Z' aq bh (aq.t k) (b6.tmps.getD k undef))
  (hn:b6.tmps.size=n) (ah:b6.defers=[]) (yP:aq.g=s.g:=by rfl):Inv w0 F0 Z0 n aq b6 w' bh Z':=by
 have hsz:=hx.size
 refine⟨?_,?_,?_,?_,?_,?_,?_,nU,ht,hn,by rw [yP];exact a8.move hm h.ghost,fun e he=>(h.seen e he).move hm,ah⟩
 ·refine h.ext.trans' hx ef
 ·intro b o hb
  rcases hz b o hb with h1 | h1
  ·exact h.dC b o h1
  ·exact .inr h1.1
 ·exact fun b o hb=>hm.dC b o (h.rE b o hb)
 ·intro b o hb
  rcases hz b o hb with h1 | h1
  ·exact Nat.lt_of_lt_of_le (h.iC b o h1) hsz
  ·exact h1.2
 ·intro id
  by_cases hl:(aq.o id).live
  ·by_cases hst:aq.o id=s.o id ∧ bh id = ι id
   ·have:=hO.move hm (id:=id) (fun _=>hst) rfl (h.fP id)
    rw [hst.2,hst.1];exact this
   ·exact(ho id hl hst).1
  ·cases hh:aq.o id with
   | none=>trivial
   | dead=>trivial
   | b_=>trivial
   | row=>rw [hh] at hl;exact absurd trivial hl
   | var=>rw [hh] at hl;exact absurd trivial hl
 ·intro id hl b o hf
  by_cases hst:aq.o id=s.o id ∧ bh id = ι id
  ·rw [hst.2] at hf
   have:=h.own id (hst.1 ▸ hl) b o hf
   exact⟨this.1,Nat.lt_of_lt_of_le this.2 hsz⟩
  ·exact(ho id hl hst).2.1 b o hf
 ·intro id dO hl gf hne
  by_cases hst:aq.o id=s.o id ∧ bh id = ι id
  ·by_cases p8:aq.o dO=s.o dO ∧ bh dO = ι dO
   ·rw [hst.2,p8.2];exact h.apart id dO (hst.1 ▸ hl) (p8.1 ▸ gf) hne
   ·exact fun b o h1 h2=>(ho dO gf p8).2.2 id hl (Ne.symm hne) b o h2 h1
  ·exact(ho id hl hst).2.2 dO gf hne
theorem b4.iE{S T:ag}(hx:Ext w w' S)(bX:∀b o,T b o→b<w.heap.size)(ha:ag.apart T S):b4 w w' T :=
 fun b o ht=>⟨hx.cell (bX b o ht) (fun hs=>ha b o ht hs),hx.frozen (bX b o ht)⟩
theorem Inv.rI(h:Inv w0 F0 Z0 n s a w ι Z):∀b o,Rx s ι aq bh Z b o→b<w.heap.size:=by
 rintro b o (hz | ⟨id,hl,_,_,hf⟩)
 ·exact h.iC b o hz
 ·exact(h.own id hl b o hf).2
theorem cK{α : Type}{f:Nat → α}{i j:Nat}{v : α}(h:i≠j):bP f i v j=f j:=rv (Ne.symm h)
theorem Inv.tmp(h:Inv w0 F0 Z0 n s a w ι Z)(ho:aq.o=s.o)(ht:∀k,aT w Z aq ι (aq.t k) (b6.tmps.getD k undef))
  (hn:b6.tmps.size=n) (ah:b6.defers=[]) (yP:aq.g=s.g:=by rfl):Inv w0 F0 Z0 n aq b6 w ι Z:=by
 refine h.next (S:=ag.none) ⟨fun id=>by rw [ho];exact .stay _ _,fun _ _ h=>h,b4.refl _ _⟩ (Ext.refl _ _) (fun _ _ h=>h.elim) (fun _ _ h=>.inl h) ?_ ?_ ht hn ah yP
 ·intro id _ hne;exact absurd ⟨by rw [ho],rfl⟩ hne
 ·intro id hl;exact h.cW id (by rwa [ho] at hl)
theorem Jl(ho:aq.o=s.o):eA w Z s ι w Z aq ι :=⟨fun id=>by rw [ho];exact .stay _ _,fun _ _ h=>h,b4.refl _ _⟩
theorem Jm(t:Array Value)(d k:Nat)(u:Value)(ah:d<t.size):(t.setIfInBounds d u).getD k undef=if d=k then u else t.getD k undef:=by
 simp only [Array.getD_eq_getD_getElem?,Array.getElem?_setIfInBounds]
 by_cases hk:d=k
 ·subst hk;simp [ah]
 ·simp [hk]
theorem Inv.set(h:Inv w0 F0 Z0 n s a w ι Z){d:Nat}{v:a'}{u:Value}(hv:aT w Z s ι v u)(ah:d<n) :
  Inv w0 F0 Z0 n (s.set d v) (a.put (some d) u) w ι Z:=by
 have hm:eA w Z s ι w Z (s.set d v) ι := Jl rfl
 refine h.tmp rfl (fun k=>?_) (by simpa [Act.put] using h.size) (by simpa [Act.put] using h.defers)
 show aT w Z (s.set d v) ι (bP s.t d v k) ((a.tmps.setIfInBounds d u).getD k undef)
 rw [Jm _ _ _ _ (by rw [h.size];exact ah)]
 by_cases hk:d=k
 ·subst hk;rw [cz,if_pos rfl];exact hv.move hm
 ·rw [cK hk,if_neg hk];exact(h.tmps k).move hm
theorem Inv.dst(h:Inv w0 F0 Z0 n s a w ι Z){d:Option Nat}{v:a'}{u:Value}(hv:aT w Z s ι v u)(ah:∀k,d=some k→k<n) :
  Inv w0 F0 Z0 n (s.dst d v) (a.put d u) w ι Z:=by
 cases d with
 | none=>exact h
 | some d=>exact h.set hv (ah d rfl)
theorem Inv.world(h:Inv w0 F0 Z0 n s a w ι Z)(hx:Ext w w' ag.none):Inv w0 F0 Z0 n s a w' ι Z:=by
 have hm:eA w Z s ι w' Z s ι :=⟨fun id=>.stay _ _,fun _ _ h=>h,b4.iE hx h.rI (fun _ _ _ h=>h)⟩
 refine h.next hm hx (fun _ _ h=>h.elim) (fun _ _ h=>.inl h) ?_ h.cW (fun k=>(h.tmps k).move hm) h.size h.defers
 intro id _ hne;exact absurd ⟨rfl,rfl⟩ hne
theorem Inv.drew(h:Inv w0 F0 Z0 n s a w ι Z)(m:Nat):Inv w0 F0 Z0 n s a { w with drawn:=m } ι Z:=h.world (Ext.drew _ _ _)
theorem Ry(h:Inv w0 F0 Z0 n s a w ι Z){id:Nat}(cd:s.o id=.none)(hx:Ext w w' ag.none)(o:cj)(i:bC) :
  eA w Z s ι w' Z (s.bL id o) (bP ι id i):=by
 refine⟨fun j=>?_,fun _ _ h=>h,b4.iE hx h.rI (fun _ _ _ h=>h)⟩
 show iD (s.o j) (ι j) (bP s.o id o j) (bP ι id i j)
 by_cases hj:id=j
 ·subst hj;rw [cd];exact .made _ _ _
 ·rw [cK hj,cK hj];exact .stay _ _
theorem Inv.new(h:Inv w0 F0 Z0 n s a w ι Z){id:Nat}(cd:s.o id=.none)(hx:Ext w w' ag.none){o:cj}{i:bC}
  (cH:hO w' Z (s.bL id o) (bP ι id i) i o) (hF:∀b o,i.F b o→w.heap.size≤b∧b<w'.heap.size) :
  Inv w0 F0 Z0 n (s.bL id o) a w' (bP ι id i) Z:=by
 have hm:=Ry h cd hx o i
 have hsz:=h.ext.size
 refine h.next hm hx (fun _ _ h=>h.elim) (fun _ _ h=>.inl h) ?_ ?_ (fun k=>(h.tmps k).move hm) h.size h.defers
 ·intro j hl hne
  by_cases hj:id=j
  ·subst hj
   rw [cz]
   refine⟨by show hO _ _ _ _ _ (bP s.o id o id);rw [cz];exact cH,fun b o hf=>⟨.inr (by have:=(hF b o hf).1;omega),(hF b o hf).2⟩,fun nV gf jB b o h1 h2=>?_⟩
   rw [cK jB] at h2
   have eB:(s.o nV).live:=by
    have:(bP s.o id _ nV).live:=gf
    rwa [cK jB] at this
   have:=(h.own nV eB b o h2).2
   have:=(hF b o h1).1
   omega
  ·exact absurd ⟨cK hj,cK hj⟩ hne
 ·intro j hl b o h1 h2
  by_cases hj:id=j
  ·subst hj
   rw [cz] at h1
   have:=(hF b o h1).1
   have:=h.iC b o h2
   omega
  ·rw [cK hj] at h1
   have eB:(s.o j).live:=by
    have:(bP s.o id _ j).live:=hl
    rwa [cK hj] at this
   exact h.cW j eB b o h1 h2
theorem Jn{id j:Nat}(hl:((s.bL id .dead).o j).live):id≠j∧(s.o j).live:=by
 have h:(bP s.o id cj.dead j).live:=hl
 by_cases hj:id=j
 ·subst hj;rw [cz] at h;exact h.elim
 ·rw [cK hj] at h;exact⟨hj,h⟩
theorem abN(h:Inv w0 F0 Z0 n s a w ι Z)(id:Nat)(hZ:ag.sub Z Z'):eA w Z s ι w Z' (s.bL id .dead) ι := by
 refine⟨fun j=>?_,hZ,b4.refl _ _⟩
 show iD (s.o j) (ι j) (bP s.o id cj.dead j) (ι j)
 by_cases hj:id=j
 ·subst hj;rw [cz];exact .dead _ _ _
 ·rw [cK hj];exact .stay _ _
theorem Inv.take(h:Inv w0 F0 Z0 n s a w ι Z)(id:Nat)(hZ:ag.sub Z Z')(hz:∀b o,Z' b o→Z b o∨((s.o id).live∧(ι id).F b o)) :
  Inv w0 F0 Z0 n (s.bL id .dead) a w ι Z':=by
 have hm:=abN h id hZ
 refine h.next hm (Ext.refl _ ag.none) (fun _ _ h=>h.elim) ?_ ?_ ?_ (fun k=>(h.tmps k).move hm) h.size h.defers
 ·intro b o hb
  rcases hz b o hb with h1 | ⟨h1,h2⟩
  ·exact .inl h1
  ·exact .inr (h.own id h1 b o h2)
 ·intro j hl hne
  obtain ⟨hj,eB⟩:=Jn hl
  exact absurd ⟨cK hj,rfl⟩ hne
 ·intro j hl b o h1 h2
  obtain ⟨hj,eB⟩:=Jn hl
  rcases hz b o h2 with h3 | ⟨h3,h4⟩
  ·exact h.cW j eB b o h1 h3
  ·exact h.apart id j h3 eB hj b o h4 h1
end
end Go.LM
namespace Go.LM
theorem Row.drop{α : Type}{w:World}{R : α → List Value→ag→Prop}{size:Nat} : ∀(k:Nat) {x:List α} {b o:Nat} {F:ag},Row w R size x b o F→Row w R size (x.drop k) b (o+k*size) F
 | 0,x,b,o,F,h=>by simpa using h
 | k+1,[],b,o,F,h=>trivial
 | k+1,y :: x,b,o,F,⟨vs,G,H,h1,h2,h3,h4,a7,bp,bI⟩=>by
  have:=Row.drop k h4
  rw [show o+size+k*size=o +(k+1)*size by rw [Nat.add_one_mul];omega] at this
  exact this.mono bI
theorem Row.take{α : Type}{w:World}{R : α → List Value→ag→Prop}{size:Nat} : ∀(k:Nat) {x:List α} {b o:Nat} {F:ag},Row w R size x b o F→Row w R size (x.take k) b o F
 | 0,x,b,o,F,h=>by rw [List.take_zero];trivial
 | k+1,[],b,o,F,h=>trivial
 | k+1,y :: x,b,o,F,⟨vs,G,H,h1,h2,h3,h4,a7,bp,bI⟩=>⟨vs,G,H,h1,h2,h3,Row.take k h4,a7,bp,bI⟩
theorem gK{u t:aa}{xs:List u.D}{x:List t.D}(h:ew (.sl u) (.sl t) xs=some x):∃e:u=t,x=e ▸ xs:=by
 obtain ⟨e,hx⟩:=BG h
 injection e with e
 subst e
 exact⟨rfl,hx⟩
section
variable{w0:World}{F0 Z0:ag}{n:cB}{s aq:al}{a:Act}{w:World}{ι : Nat→bC}{Z Z':ag}
structure bE(w0:World)(F0:ag)(s:al)(w:World)(ι : Nat→bC)(Z F:ag):Prop where
 own:∀b o,F b o→(F0 b o∨w0.heap.size≤b)∧b<w.heap.size
 apart:∀id,(s.o id).live→ag.apart F (ι id).F
 cW:ag.apart F Z
theorem bE.none:bE w0 F0 s w ι Z ag.none:=⟨fun _ _ h=>h.elim,fun _ _ _ _ h=>h.elim,fun _ _ h=>h.elim⟩
structure eU(s:al)(ι : Nat→bC)(Z:ag)(aq:al)(Z':ag):Prop where
 o:∀id,aq.o id=s.o id∨((s.o id).live∧aq.o id=.dead)
 t:aq.t=s.t
 g:aq.g=s.g
 dC:ag.sub Z Z'
 oQ:∀b o,Z' b o→Z b o∨∃id,(s.o id).live∧aq.o id=.dead∧(ι id).F b o
theorem eU.refl:eU s ι Z s Z:=⟨fun _=>.inl rfl,rfl,rfl,fun _ _ h=>h,fun _ _ h=>.inl h⟩
theorem eU.trans{s2:al}{bJ:ag}(h:eU s ι Z aq Z')(k:eU aq ι Z' s2 bJ):eU s ι Z s2 bJ:=by
 refine⟨fun id=>?_,k.t.trans h.t,k.g.trans h.g,fun b o hz=>k.dC b o (h.dC b o hz),fun b o hz=>?_⟩
 ·rcases k.o id with h1 | ⟨h0,h1⟩
  ·rw [h1];exact h.o id
  ·rcases h.o id with h2 | ⟨_,h2⟩
   ·exact .inr ⟨h2 ▸ h0,h1⟩
   ·rw [h2] at h0;exact h0.elim
 ·rcases k.oQ b o hz with h1 | ⟨id,h1,h2,h3⟩
  ·rcases h.oQ b o h1 with h1 | ⟨id,h1,h2,h3⟩
   ·exact .inl h1
   ·refine .inr ⟨id,h1,?_,h3⟩
    rcases k.o id with h4 | ⟨_,h4⟩
    ·rw [h4,h2]
    ·exact h4
  ·rcases h.o id with h4 | ⟨_,h4⟩
   ·exact .inr ⟨id,h4 ▸ h1,h2,h3⟩
   ·rw [h4] at h1;exact h1.elim
theorem eU.d'(h:eU s ι Z aq Z'):eA w Z s ι w Z' aq ι := by
 refine⟨fun id=>?_,h.dC,b4.refl _ _⟩
 rcases h.o id with h1 | ⟨_,h1⟩
 ·rw [h1];exact .stay _ _
 ·rw [h1];exact .dead _ _ _
theorem eU.live(h:eU s ι Z aq Z'){id:Nat}(hl:(aq.o id).live):(s.o id).live∧aq.o id=s.o id:=by
 rcases h.o id with h1 | ⟨_,h1⟩
 ·exact⟨h1 ▸ hl,h1⟩
 ·rw [h1] at hl;exact hl.elim
theorem bE.shrink{F:ag}(hf:bE w0 F0 s w ι Z F)(h:eU s ι Z aq Z'):bE w0 F0 aq w ι Z' F:=by
 refine⟨hf.own,fun id hl=>hf.apart id (h.live hl).1,fun b o h1 h2=>?_⟩
 rcases h.oQ b o h2 with h3 | ⟨id,h3,_,h4⟩
 ·exact hf.cW b o h1 h3
 ·exact hf.apart id h3 b o h1 h4
theorem bE.or{F G:ag}(hf:bE w0 F0 s w ι Z F)(aD:bE w0 F0 s w ι Z G):bE w0 F0 s w ι Z (F.or G) :=
 ⟨fun b o h=>h.elim (hf.own b o) (aD.own b o),fun id hl b o h=>h.elim (hf.apart id hl b o) (aD.apart id hl b o),fun b o h=>h.elim (hf.cW b o) (aD.cW b o)⟩
theorem Inv.wL(h:Inv w0 F0 Z0 n s a w ι Z){id:Nat}(hl:(s.o id).live):bE w0 F0 (s.bL id .dead) w ι Z (ι id).F :=
 ⟨h.own id hl,fun j hj=>by obtain ⟨h1,h2⟩:=Jn hj;exact h.apart id j hl h2 h1,h.cW id hl⟩
theorem wM(id:Nat)(hl:(s.o id).live):eU s ι Z (s.bL id .dead) Z:=by
 refine⟨fun j=>?_,rfl,rfl,fun _ _ h=>h,fun _ _ h=>.inl h⟩
 by_cases hj:id=j
 ·subst hj;exact .inr ⟨hl,cz _ _ _⟩
 ·exact .inl (cK hj)
theorem Rz(h:Inv w0 F0 Z0 n s a w ι Z){id:Nat}(hl:(s.o id).live):eU s ι Z (s.bL id .dead) (Z.or (ι id).F):=by
 refine⟨fun j=>?_,rfl,rfl,fun _ _ h=>.inl h,fun b o hz=>?_⟩
 ·by_cases hj:id=j
  ·subst hj;exact .inr ⟨hl,cz _ _ _⟩
  ·exact .inl (cK hj)
 ·rcases hz with h1 | h1
  ·exact .inl h1
  ·exact .inr ⟨id,hl,cz _ _ _,h1⟩
theorem wN{i:bC}{t:aa}{em:bg}{xs:List t.D}{sub:Option (Nat×Nat)}{A:Option Addr}{m c:Nat}{ver:Nat}
  (ho:hO w Z s ι i (.row t em ver xs)) (hh:Jk i t.size sub xs.length A m c) :
  (aa.sl t).an w Z (.O em) (kE sub xs) [.slice A m c] i.F:=by
 obtain ⟨hn,hfit,hle,hcap,cm⟩:=hh
 have hlen:(kE sub xs).length=m:=by
  cases sub with
  | none=>simp [kE,hn]
  | some p=>obtain ⟨lo,k⟩:=p;simp only [kE,part,List.length_take,List.length_drop,d_] at *;omega
 simp only [aa.an]
 refine⟨A,c,by rw [hlen],?_⟩
 rcases cm with h0 | ⟨a0,hb,hA⟩
 ·exact .inl ⟨List.eq_nil_of_length_eq_zero (by omega),h0⟩
 ·rcases ho with⟨hx,h0⟩ | ⟨wO,dV,hr⟩
  ·refine .inl ⟨List.eq_nil_of_length_eq_zero (by omega),by omega⟩
  ·rw [hb] at dV
   obtain rfl:=aX dV
   refine .inr ⟨_,hA,rfl,by rw [hlen];exact hle,fun j hj=>?_,fun j hj=>?_,?_⟩
   ·have:=hr.wr (d_ sub*t.size+j) (by
     have:(d_ sub+c)*t.size≤i.cap*t.size:=Nat.mul_le_mul_right _ hcap
     rw [Nat.add_mul] at this;omega)
    rwa [← Nat.add_assoc] at this
   ·have:=hr.inF (d_ sub*t.size+j) (by
     have:(d_ sub+c)*t.size≤i.cap*t.size:=Nat.mul_le_mul_right _ hcap
     rw [Nat.add_mul] at this;omega)
    rwa [← Nat.add_assoc] at this
   ·obtain ⟨G,g1,g2,g3⟩:=hr.row
    refine⟨G,?_,fun j hj=>?_,g3⟩
    ·cases sub with
     | none=>simpa [kE,d_] using g1
     | some p=>obtain ⟨lo,k⟩:=p;exact(g1.drop lo).take k
    ·have:=g2 (d_ sub*t.size+j) (by
      have:(d_ sub+c)*t.size≤i.cap*t.size:=Nat.mul_le_mul_right _ hcap
      rw [Nat.add_mul] at this;omega)
     rwa [← Nat.add_assoc] at this
theorem Jo{t:aa}{c:bb}{xs:List t.D}{v:Value}(h:Inv w0 F0 Z0 n s a w ι Z)(hl:oN s t c=some xs)(hc:cc w Z s ι c v) :
  (aa.sl t).an w (Z.or (dd ι (borrows s c))) .R xs [v] ag.none∧alive s (borrows s c)=true∧∀d,d∈borrows s c→eg s d:=by
 cases c with
 | nil u =>
  obtain ⟨e,rfl⟩:=gK hl
  subst e
  have hv:v=.slice none 0 0:=hc
  subst hv
  refine⟨?_,rfl,by simp [borrows]⟩
  simp only [aa.an]
  exact⟨none,0,rfl,.inl trivial⟩
 | bA u dp ct ys =>
  simp only [oN] at hl
  obtain ⟨h1,h2,h3⟩:=hc
  cases ha:alive s dp with
  | false=>rw [ha] at hl;simp at hl
  | true =>
   rw [ha] at hl
   obtain ⟨e,rfl⟩:=gK hl
   subst e
   exact⟨h3.1 ha,ha,h1⟩
 | ah id sub =>
  simp only [oN] at hl
  obtain ⟨h1,A,m,k,rfl,h2⟩:=hc
  cases ho:s.o id with
  | row u em ver ys =>
   rw [ho] at hl
   obtain ⟨e,rfl⟩:=gK hl
   subst e
   have hb:borrows s (.ah id sub)=[(id,ver)]:=by simp only [borrows,ho]
   rw [hb]
   refine⟨?_,?_,?_⟩
   ·have cU:=h.fP id
    rw [ho] at cU
    refine aa.an.read (fun _ _ h=>.inl h) _ _ (fun b o hf=>.inr ⟨(id,ver),by simp,hf⟩) (wN cU (h2 u em ver ys (k8 ho)))
   ·simp [alive,ho]
   ·intro d ah
    simp at ah
    subst ah
    exact⟨h1,.inr (by simp [km,ho])⟩
  | _=>rw [ho] at hl;simp at hl
 | _=>simp [oN] at hl
theorem Jp(ι : Nat→bC)(nb bq:List (Nat×Nat)):ag.sub (dd ι bq) (dd ι (nb++bq)) :=
 fun b o ⟨d,h1,h2⟩=>⟨d,List.mem_append.2 (.inr h1),h2⟩
def yQ(w0:World)(F0 Z0:ag)(n:cB)(s:al)(a:Act)(w:World)(ι : Nat→bC)(Z:ag)(b:Bool)(R:ag→List Value→ag→Prop)(vs:List Value)
  (cs':List bb) (aq:al) (bq mL:List (Nat×Nat)):Prop :=
 ∃us bD F Z',vs=us++bD∧Inv w0 F0 Z0 n aq a w ι Z'∧eU s ι Z aq Z'∧bF w Z' aq ι cs' bD∧bE w0 F0 aq w ι Z' F ∧
  R (Z'.or (dd ι mL)) us F∧(∃nb,mL=nb++bq)∧(b=false→mL=bq)∧(∀d,d∈mL→eg aq d) ∧
  ∀b o,F b o→∃id,(s.o id).live∧(ι id).F b o
theorem wP{b:Bool}{R:ag→List Value→ag→Prop}{v:Value}{bD:List Value}{cs':List bb}{bq:List (Nat×Nat)}(h:Inv w0 F0 Z0 n s a w ι Z)
  (hc:bF w Z s ι cs' bD) (hb:∀d,d∈bq→eg s d) (eM:∀Z,R Z [v] ag.none):yQ w0 F0 Z0 n s a w ι Z b R (v :: bD) cs' s bq bq :=
 ⟨[v],bD,ag.none,Z,rfl,h,.refl,hc,.none,eM _,⟨[],rfl⟩,fun _=>rfl,hb,fun _ _ h=>h.elim⟩
theorem Jq(h:eU s ι Z aq Z'){d:Nat×Nat}(ah:eg s d):eg aq d:=by
 obtain ⟨h1,h2⟩:=ah
 unfold eg known km at *
 rcases h.o d.1 with h3 | ⟨_,h3⟩
 ·rw [h3];exact⟨h1,h2⟩
 ·rw [h3];exact⟨by simp,.inl rfl⟩
theorem RA{t:aa}{e:bg}{x:List t.D}{vs:List Value}{F:ag}(h:(aa.sl t).an w Z (.O e) x vs F) :
  ∃F',ag.sub F' F∧(aa.sl t).an w (Z.or fun b o=>F b o∧¬F' b o) (.O .R) x vs F':=by
 simp only [aa.an] at h ⊢
 obtain ⟨A,c,hv,h⟩:=h
 rcases h with h | ⟨a,hA,hr⟩
 ·exact⟨ag.none,fun _ _ h=>h.elim,A,c,hv,.inl h⟩
 ·obtain ⟨G,g1,g2,g3⟩:=hr.row
  refine⟨ag.run a.block a.off (c*t.size),?_,A,c,hv,.inr ⟨a,hA,hr.spot,hr.cap,hr.wr,fun j hj=>⟨rfl,by omega,by omega⟩,ag.none,?_,fun _ _ h=>h,fun _ _ h=>h.elim⟩⟩
  ·rintro b o ⟨rfl,h1,h2⟩
   have:=hr.inF (o-a.off) (by omega)
   rwa [show a.off +(o-a.off)=o by omega] at this
  ·refine g1.bare fun y us df hG a_=>aa.an.read (fun _ _ h=>.inl h) _ _ (fun b o aD=>.inr ⟨g3 b o (hG b o aD),?_⟩) a_
   rintro ⟨rfl,h1,h2⟩
   have:=g2 (o-a.off) (by omega)
   rw [show a.off +(o-a.off)=o by omega] at this
   exact this (hG _ o aD)
theorem abO(t:aa)(b:Bool)(m:bg)(c:bb)(cs:List bb)(s:al)(bq:List (Nat×Nat))(r:List t.D×List bb×al×List (Nat×Nat))(v:Value)(vs:List Value)(Z:ag)
  (hi:(aa.sl t).imp b m (c :: cs) s bq=some r) (h:Inv w0 F0 Z0 n s a w ι Z) (hc:bF w Z s ι (c :: cs) (v :: vs)) (hb:∀d,d∈bq→eg s d) :
  yQ w0 F0 Z0 n s a w ι Z b (fun Z us F=>(aa.sl t).an w Z m r.1 us F) (v :: vs) r.2.1 r.2.2.1 bq r.2.2.2:=by
 have oR:∀ {Z m},v=.slice none 0 0→(aa.sl t).an w Z m ([]:List t.D) [v] ag.none:=by
  intro Z m hv;subst hv
  cases m <;> simp only [aa.an] <;> exact⟨none,0,rfl,.inl (by simp)⟩
 have frozen:∀(m:bg),m=.R∨(∃ms,m=.S ms)→(aa.sl t).imp b m (c :: cs) s bq=some r →
   yQ w0 F0 Z0 n s a w ι Z b (fun Z us F=>(aa.sl t).an w Z m r.1 us F) (v :: vs) r.2.1 r.2.2.1 bq r.2.2.2:=by
  intro m hm hi
  have Jr:∀ {Z:ag} {x:List t.D} {us:List Value},(aa.sl t).an w Z .R x us ag.none→(aa.sl t).an w Z m x us ag.none:=by
   rcases hm with rfl | ⟨ms,rfl⟩
   ·exact fun h=>h
   ·intro Z x us h;simpa only [aa.an] using h
  cases b with
  | true =>
   have c6:(oN s t c).bind (fun x=>some (x,cs,s,borrows s c++bq))=some r:=by
    rcases hm with rfl | ⟨ms,rfl⟩ <;> simpa only [aa.imp] using hi
   obtain ⟨x,hx,c6⟩:=bj c6
   obtain rfl:=aX c6
   obtain ⟨dQ,e5,fA⟩:=Jo h hx hc.1
   refine⟨[v],vs,ag.none,Z,rfl,h,.refl,hc.2,.none,Jr (aa.an.mono ?_ _ _ (fun _ _ h=>h) dQ),⟨_,rfl⟩,fun hf=>by simp at hf,?_,fun _ _ h=>h.elim⟩
   ·rintro b o (hz | ⟨d,ah,hf⟩)
    ·exact .inl hz
    ·exact .inr ⟨d,List.mem_append.2 (.inl ah),hf⟩
   ·intro d ah
    rcases List.mem_append.1 ah with ah | ah
    ·exact fA d ah
    ·exact hb d ah
  | false =>
   cases c with
   | nil u =>
    have c6:(ew (.sl u) (.sl t) ([]:List u.D)).bind (fun x=>some (x,cs,s,bq))=some r:=by
     rcases hm with rfl | ⟨ms,rfl⟩ <;> simpa only [aa.imp] using hi
    obtain ⟨x,hx,c6⟩:=bj c6
    obtain rfl:=aX c6
    obtain ⟨e,rfl⟩:=gK hx
    subst e
    exact wP h hc.2 hb fun Z=>oR hc.1
   | bA u dp ct xs =>
    cases dp with
    | cons d dp=>rcases hm with rfl | ⟨ms,rfl⟩ <;> simp [aa.imp] at hi
    | nil =>
     have c6:(ew (.sl u) (.sl t) xs).bind (fun x=>some (x,cs,s,bq))=some r:=by
      rcases hm with rfl | ⟨ms,rfl⟩ <;> simpa only [aa.imp] using hi
     obtain ⟨x,hx,c6⟩:=bj c6
     obtain rfl:=aX c6
     obtain ⟨e,rfl⟩:=gK hx
     subst e
     have p:=hc.1.2.2.1 rfl
     refine⟨[v],vs,ag.none,Z,rfl,h,.refl,hc.2,.none,Jr (aa.an.mono ?_ _ _ (fun _ _ h=>h) p),⟨[],rfl⟩,fun _=>rfl,hb,fun _ _ h=>h.elim⟩
     rintro b o (hz | ⟨d,ah,hf⟩)
     ·exact .inl hz
     ·simp at ah
   | ah id sub =>
    cases ho:s.o id with
    | row u em ver xs =>
     have c6:(ew (.sl u) (.sl t) (kE sub xs)).bind (fun x=>some (x,cs,s.bL id .dead,bq))=some r:=by
      rcases hm with rfl | ⟨ms,rfl⟩ <;> simpa only [aa.imp,ho] using hi
     obtain ⟨x,hx,c6⟩:=bj c6
     obtain rfl:=aX c6
     obtain ⟨e,rfl⟩:=gK hx
     subst e
     have hl:(s.o id).live:=by rw [ho];trivial
     obtain ⟨hk,A,m',k,rfl,hh⟩:=hc.1
     have cU:=h.fP id
     rw [ho] at cU
     have p:=wN cU (hh u em ver xs (k8 ho))
     have h_:=Rz h hl
     refine⟨[_],vs,ag.none,Z.or (ι id).F,rfl,h.take id (fun _ _ h=>.inl h) (fun b o hz=>hz.imp (fun h=>h) fun h=>⟨hl,h⟩),h_,hc.2.move h_.d',.none,Jr ?_,⟨[],rfl⟩,fun _=>rfl,fun d ah=>Jq h_ (hb d ah),fun _ _ h=>h.elim⟩
     exact aa.an.read (fun _ _ h=>.inl (.inl h)) _ _ (fun b o hf=>.inl (.inr hf)) p
    | _=>rcases hm with rfl | ⟨ms,rfl⟩ <;> simp [aa.imp,ho] at hi
   | _=>rcases hm with rfl | ⟨ms,rfl⟩ <;> simp [aa.imp] at hi
 cases m with
 | R=>exact frozen _ (.inl rfl) hi
 | S ms=>exact frozen _ (.inr ⟨ms,rfl⟩) hi
 | O e =>
  cases c with
  | nil u =>
   have c6:(ew (.sl u) (.sl t) ([]:List u.D)).bind (fun x=>some (x,cs,s,bq))=some r:=by
    cases b <;> simpa only [aa.imp] using hi
   obtain ⟨x,hx,c6⟩:=bj c6
   obtain rfl:=aX c6
   obtain ⟨e,rfl⟩:=gK hx
   subst e
   exact wP h hc.2 hb fun Z=>oR hc.1
  | ah id sub =>
   cases ho:s.o id with
   | row u em ver xs =>
    have c6:(if bg.le em e=true then(ew (.sl u) (.sl t) (kE sub xs)).bind (fun x=>some (x,cs,s.bL id .dead,bq)) else none)=some r:=by
     cases b <;>(simp only [aa.imp,ho] at hi;rw [← hi];cases bg.le em e <;> rfl)
    split at c6
    case isFalse=>simp at c6
    rename_i hle
    obtain ⟨x,hx,c6⟩:=bj c6
    obtain rfl:=aX c6
    obtain ⟨gu,rfl⟩:=gK hx
    subst gu
    have hl:(s.o id).live:=by rw [ho];trivial
    obtain ⟨hk,A,m',k,rfl,hh⟩:=hc.1
    have cU:=h.fP id
    rw [ho] at cU
    have p:=wN cU (hh u em ver xs (k8 ho))
    have fS:=h.wL hl
    by_cases Js:em=e
    ·subst Js
     have h_:eU s ι Z (s.bL id .dead) Z:=wM id (by rw [ho];trivial)
     exact⟨[_],vs,(ι id).F,Z,rfl,h.take id (fun _ _ h=>h) (fun b o hz=>.inl hz),h_,hc.2.move h_.d',fS,
      aa.an.mono (fun _ _ h=>.inl h) _ _ (fun _ _ h=>h) p,⟨[],rfl⟩,fun _=>rfl,fun d ah=>Jq h_ (hb d ah),fun b o hf=>⟨id,hl,hf⟩⟩
    ·have abP:e=.R:=by
      cases e with
      | R=>rfl
      | O e=>exact absurd (bg.eq_of_beq _ _ hle) Js
      | S e=>exact absurd (bg.eq_of_beq _ _ hle) Js
     subst abP
     obtain ⟨F',cP,dU⟩:=RA p
     have h_:eU s ι Z (s.bL id .dead) (Z.or fun b o=>(ι id).F b o∧¬F' b o):=by
      have h0:=Rz h hl
      refine⟨h0.o,h0.t,h0.g,fun _ _ h=>.inl h,fun b o hz=>?_⟩
      rcases hz with h1 | h1
      ·exact .inl h1
      ·exact .inr ⟨id,hl,cz _ _ _,h1.1⟩
     refine⟨[_],vs,F',_,rfl,h.take id (fun _ _ h=>.inl h) (fun b o hz=>hz.imp (fun h=>h) fun h=>⟨hl,h.1⟩),h_,hc.2.move h_.d',⟨fun b o hf=>fS.own b o (cP b o hf),fun j hj b o hf=>fS.apart j hj b o (cP b o hf),?_⟩,
      aa.an.mono (fun _ _ h=>.inl h) _ _ (fun _ _ h=>h) dU,⟨[],rfl⟩,fun _=>rfl,fun d ah=>Jq h_ (hb d ah),fun b o hf=>⟨id,hl,cP b o hf⟩⟩
     rintro b o hf (hz | hz)
     ·exact fS.cW b o (cP b o hf) hz
     ·exact hz.2 hf
   | _=>cases b <;> simp [aa.imp,ho] at hi
  | _=>cases b <;> simp [aa.imp] at hi
mutual
theorem aa.k_:∀(t:aa) (b:Bool) (m:bg) (cs:List bb) (s:al) (bq:List (Nat×Nat)) (r:t.D×List bb×al×List (Nat×Nat)) (vs:List Value) (Z:ag),
  t.imp b m cs s bq=some r→Inv w0 F0 Z0 n s a w ι Z→bF w Z s ι cs vs→(∀d,d∈bq→eg s d) →
  yQ w0 F0 Z0 n s a w ι Z b (fun Z us F=>t.an w Z m r.1 us F) vs r.2.1 r.2.2.1 bq r.2.2.2
 | .int k,b,m,cs,s,bq,r,vs,Z,hi,h,hc,hb=>by
  cases cs with
  | nil=>cases m <;> simp [aa.imp] at hi
  | cons c cs =>
   cases vs with
   | nil=>exact hc.elim
   | cons v vs =>
    cases c <;> simp only [aa.imp] at hi <;> try (simp at hi;done)
    rename_i k' x
    cases hk:Nat.beq (dj k) (dj k')
    ·rw [hk] at hi;simp at hi
    ·rw [hk] at hi
     obtain rfl:=aX hi
     obtain rfl:=tw (Nat.eq_of_beq_eq_true hk)
     have hv:v=.int k x:=hc.1
     subst hv
     exact wP h hc.2 hb fun Z=>by simp only [aa.an]
 | .bool,b,m,cs,s,bq,r,vs,Z,hi,h,hc,hb=>by
  cases cs with
  | nil=>cases m <;> simp [aa.imp] at hi
  | cons c cs =>
   cases vs with
   | nil=>exact hc.elim
   | cons v vs =>
    cases c <;> simp only [aa.imp] at hi <;> try (simp at hi;done)
    obtain rfl:=aX hi
    have hv:v=.bool _:=hc.1
    subst hv
    exact wP h hc.2 hb fun Z=>by simp only [aa.an]
 | .str,b,m,cs,s,bq,r,vs,Z,hi,h,hc,hb=>by
  cases cs with
  | nil=>cases m <;> simp [aa.imp] at hi
  | cons c cs =>
   cases vs with
   | nil=>exact hc.elim
   | cons v vs =>
    cases c <;> simp only [aa.imp] at hi <;> try (simp at hi;done)
    obtain rfl:=aX hi
    obtain ⟨q,rfl,hq⟩:=hc.1
    exact wP h hc.2 hb fun Z=>by simp only [aa.an];exact⟨q,rfl,hq⟩
 | .raw,b,m,cs,s,bq,r,vs,Z,hi,h,hc,hb=>by
  cases cs with
  | nil=>cases m <;> simp [aa.imp] at hi
  | cons c cs =>
   cases vs with
   | nil=>exact hc.elim
   | cons v vs =>
    cases c <;> simp only [aa.imp] at hi <;> try (simp at hi;done)
    obtain rfl:=aX hi
    obtain ⟨q,hq⟩:=hc.1
    exact wP h hc.2 hb fun Z=>by simp only [aa.an];exact⟨by rw [q],hq⟩
 | .sl t,b,m,cs,s,bq,r,vs,Z,hi,h,hc,hb=>by
  cases cs with
  | nil=>cases m <;> cases b <;> simp [aa.imp] at hi
  | cons c cs =>
   cases vs with
   | nil=>exact hc.elim
   | cons v vs =>
    exact abO t b m c cs s bq r v vs Z hi h hc hb
 | .st aj,b,m,cs,s,bq,r,vs,Z,hi,h,hc,hb=>by
  simp only [aa.imp] at hi
  have:=az.k_ aj b m.parts cs s bq r vs Z hi h hc hb
  simpa only [aa.an] using this
theorem az.k_:∀(aj:az) (b:Bool) (m:cM) (cs:List bb) (s:al) (bq:List (Nat×Nat)) (r:aj.D×List bb×al×List (Nat×Nat)) (vs:List Value) (Z:ag),
  aj.imp b m cs s bq=some r→Inv w0 F0 Z0 n s a w ι Z→bF w Z s ι cs vs→(∀d,d∈bq→eg s d) →
  yQ w0 F0 Z0 n s a w ι Z b (fun Z us F=>aj.an w Z m r.1 us F) vs r.2.1 r.2.2.1 bq r.2.2.2
 | .nil,b,m,cs,s,bq,r,vs,Z,hi,h,hc,hb=>by
  simp only [az.imp] at hi
  obtain rfl:=aX hi
  exact⟨[],vs,ag.none,Z,rfl,h,.refl,hc,.none,by simp only [az.an],⟨[],rfl⟩,fun _=>rfl,hb,fun _ _ h=>h.elim⟩
 | .cons t aj,b,m,cs,s,bq,r,vs,Z,hi,h,hc,hb=>by
  simp only [az.imp] at hi
  obtain ⟨bw,h1,hi⟩:=bj hi
  obtain ⟨b9,h2,hi⟩:=bj hi
  obtain rfl:=aX hi
  obtain ⟨us,vs1,F,cr,e1,i1,s1,c1,f1,dQ,⟨abQ,fj⟩,iF,d1,g1⟩:=aa.k_ t b m.ah cs s bq bw vs Z h1 h hc hb
  obtain ⟨us2,vs2,G,bJ,e2,i2,s2,gv,f2,e5,⟨Jt,la⟩,rJ,d2,g2⟩:=az.k_ aj b m.du bw.2.1 bw.2.2.1 bw.2.2.2 b9 vs1 cr h2 i1 c1 d1
  have tI:ag.sub (cr.or (dd ι bw.2.2.2)) (bJ.or (dd ι b9.2.2.2)):=by
   rintro b o (hz | hz)
   ·exact .inl (s2.dC b o hz)
   ·rw [la];exact .inr (Jp _ _ _ b o hz)
  refine⟨us++us2,vs2,F.or G,bJ,by rw [e1,e2,List.append_assoc],i2,s1.trans s2,gv,(f1.shrink s2).or f2,?rep,⟨Jt++abQ,by rw [la,fj,List.append_assoc]⟩,fun hf=>by rw [rJ hf,iF hf],d2,?src⟩
  case src =>
   rintro b o (hf | hf)
   ·exact g1 b o hf
   ·obtain ⟨id,hl,hi⟩:=g2 b o hf;exact⟨id,(s1.live hl).1,hi⟩
  simp only [az.an]
  refine⟨us,us2,F,G,rfl,aa.an.mono tI _ _ (fun _ _ h=>h) dQ,e5,?_,fun _ _ h=>.inl h,fun _ _ h=>.inr h⟩
  intro b o h1 h2
  obtain ⟨id,hl,hi⟩:=g2 b o h2
  exact f1.apart id hl b o h1 hi
end
end
end Go.LM
namespace Go.LM
theorem Row.get{α : Type}{w:World}{R : α → List Value→ag→Prop}{size:Nat} : ∀ {x:List α} {b o:Nat} {F:ag} (i:Nat) (hi:i<x.length),Row w R size x b o F →
  ∃vs G,R x[i] vs G∧vs.length=size∧b2 w b (o+i*size) vs∧ag.sub G F
 | y :: x,b,o,F,0,_,⟨vs,G,H,h1,h2,h3,h4,a7,bp,bI⟩=>⟨vs,G,h1,h2,by simpa using h3,bp⟩
 | y :: x,b,o,F,i+1,hi,⟨vs,G,H,h1,h2,h3,h4,a7,bp,bI⟩=>by
  obtain ⟨us,df,k1,k2,k3,bf⟩:=Row.get i (by simpa using hi) h4
  refine⟨us,df,k1,k2,?_,fun b o h=>bI b o (bf b o h)⟩
  rwa [show o +(i+1)*size=o+size+i*size by rw [Nat.add_one_mul];omega]
theorem Row.set{α : Type}{w w':World}{R iB : α → List Value→ag→Prop}{size:Nat}{cl : α}{F1:ag} : ∀ {x:List α} {b o:Nat} {F:ag} (i:Nat) (hi:i<x.length),Row w R size x b o F →
  (∀y vs G,ag.sub G F→R y vs G→iB y vs G) →
  (∀j,j<x.length*size→(j<i*size∨(i+1)*size≤j)→w'.cell? (at_ b (o+j))=w.cell? (at_ b (o+j))) →
  (∀vs G,R x[i] vs G→vs.length=size→b2 w b (o+i*size) vs→ag.sub G F→∃bD,bD.length=size∧b2 w' b (o+i*size) bD∧iB cl bD (G.or F1)) →
  ag.apart F1 F→Row w' iB size (x.set i cl) b o (F.or F1)
 | y :: x,b,o,F,0,_,⟨vs,G,H,h1,h2,h3,h4,a7,bp,bI⟩,eM,hc,hn,ha=>by
  obtain ⟨bD,k1,k2,k3⟩:=hn vs G h1 h2 (by simpa using h3) bp
  refine⟨bD,G.or F1,H,k3,k1,by simpa using k2,?_,?_,?_,fun b o h=>.inl (bI b o h)⟩
  ·refine Row.imp h4 (fun y vs df hG=>eM y vs df fun b o h=>bI b o (hG b o h)) fun j hj=>?_
   have:=hc (size+j) (by rw [List.length_cons,Nat.add_one_mul];omega) (.inr (by simp))
   rwa [← Nat.add_assoc] at this
  ·rintro b o (h | h) hh
   ·exact a7 b o h hh
   ·exact ha b o h (bI b o hh)
  ·rintro b o (h | h)
   ·exact .inl (bp b o h)
   ·exact .inr h
 | y :: x,b,o,F,i+1,hi,⟨vs,G,H,h1,h2,h3,h4,a7,bp,bI⟩,eM,hc,hn,ha=>by
  refine⟨vs,G,H.or F1,eM _ _ _ bp h1,h2,?_,?_,?_,fun b o h=>.inl (bp b o h),?_⟩
  ·refine h3.of_eq fun k hk=>hc k ?_ (.inl ?_)
   ·rw [List.length_cons,Nat.add_one_mul];omega
   ·rw [Nat.add_one_mul];omega
  ·refine Row.set i (by simpa using hi) h4 (fun y vs df hG=>eM y vs df fun b o h=>bI b o (hG b o h)) ?_ ?_ (fun b o h k=>ha b o h (bI b o k))
   ·intro j hj Ju
    have:=hc (size+j) (by rw [List.length_cons,Nat.add_one_mul];omega) (by
     rcases Ju with h | h
     ·left;rw [Nat.add_one_mul];omega
     ·right;rw [Nat.add_one_mul];omega)
    rwa [← Nat.add_assoc] at this
   ·intro bD df k1 k2 k3 bf
    have:=hn bD df k1 k2 (by rwa [show o +(i+1)*size=o+size+i*size by rw [Nat.add_one_mul];omega]) (fun b o h=>bI b o (bf b o h))
    rwa [show o +(i+1)*size=o+size+i*size by rw [Nat.add_one_mul];omega] at this
  ·rintro b o h (hh | hh)
   ·exact a7 b o h hh
   ·exact ha b o hh (bp b o h)
  ·rintro b o (h | h)
   ·exact .inl (bI b o h)
   ·exact .inr h
section
variable{w0:World}{F0 Z0:ag}{n:cB}{s aq:al}{a b6:Act}{w w':World}{ι bh:Nat→bC}{Z Z':ag}
def lU(w:World)(s:al)(ι : Nat→bC)(dp:List (Nat×Nat))(ct:Option Place)(vs:List Value):Prop :=
 ∀k v,vs[k]?=some v→rD w s ι dp (ct.map fun p => { p with off:=p.off+k }) v
theorem lU.none{dp:List (Nat×Nat)}{vs:List Value} : lU w s ι dp none vs:=fun _ _ _=>.none
theorem lU.head{dp:List (Nat×Nat)}{ct:Option Place}{v:Value}{vs:List Value}(h:lU w s ι dp ct (v :: vs)):rD w s ι dp ct v:=by
 have:=h 0 v rfl
 cases ct with
 | none=>exact .none
 | some p=>simpa using this
theorem lU.left{dp:List (Nat×Nat)}{ct:Option Place}{us vs:List Value}(h:lU w s ι dp ct (us++vs)):lU w s ι dp ct us:=fun k v hv=>h k v (by
 rw [List.getElem?_append_left (List.getElem?_eq_some_iff.1 hv).1];exact hv)
theorem lU.right{dp:List (Nat×Nat)}{ct:Option Place}{us vs:List Value}(h:lU w s ι dp ct (us++vs)):lU w s ι dp (ct.map fun p => { p with off:=p.off+us.length }) vs:=fun k v hv=>by
 have:=h (us.length+k) v (by rw [List.getElem?_append_right (by omega)];simpa using hv)
 cases ct with
 | none=>exact .none
 | some p=>simpa [Nat.add_assoc] using this
mutual
theorem aa.p9:∀(t:aa) (dp:List (Nat×Nat)) (ct:Option Place) {x:t.D} {vs:List Value},(∀d,d∈dp→eg s d) →
  (alive s dp=true→t.an w (Z.or (dd ι dp)) .R x vs ag.none)→(∃m Z' F',t.an w Z' m x vs F')→lU w s ι dp ct vs→bF w Z s ι (t.cells dp ct x) vs
 | .int k,dp,ct,x,vs,ah,h,⟨m,Z',F',h'⟩,lV=>by simp only [aa.an] at h';subst h';exact⟨rfl,trivial⟩
 | .bool,dp,ct,x,vs,ah,h,⟨m,Z',F',h'⟩,lV=>by simp only [aa.an] at h';subst h';exact⟨rfl,trivial⟩
 | .str,dp,ct,x,vs,ah,h,⟨m,Z',F',h'⟩,lV=>by simp only [aa.an] at h';obtain ⟨q,rfl,hq⟩:=h';exact⟨⟨q,rfl,hq⟩,trivial⟩
 | .raw,dp,ct,x,vs,ah,h,⟨m,Z',F',h'⟩,lV=>by simp only [aa.an] at h';obtain ⟨rfl,hq⟩:=h';exact⟨⟨rfl,hq⟩,trivial⟩
 | .sl t,dp,ct,x,vs,ah,h,⟨m,Z',F',h'⟩,lV=>by
  have hv:∃A c,vs=[.slice A x.length c]:=by
   cases m <;>(simp only [aa.an] at h';obtain ⟨A,c,hv,_⟩:=h';exact⟨A,c,hv⟩)
  obtain ⟨A,c,rfl⟩:=hv
  exact⟨⟨ah,⟨A,_,c,rfl⟩,h,lV.head⟩,trivial⟩
 | .st aj,dp,ct,x,vs,ah,h,⟨m,Z',F',h'⟩,lV=>by
  simp only [aa.an] at h h'
  simp only [aa.cells]
  exact az.p9 aj dp ct ah h ⟨_,_,_,h'⟩ lV
theorem az.p9:∀(aj:az) (dp:List (Nat×Nat)) (ct:Option Place) {x:aj.D} {vs:List Value},(∀d,d∈dp→eg s d) →
  (alive s dp=true→aj.an w (Z.or (dd ι dp)) (bg.parts .R) x vs ag.none)→(∃m Z' F',aj.an w Z' m x vs F')→lU w s ι dp ct vs→bF w Z s ι (aj.cells dp ct x) vs
 | .nil,dp,ct,x,vs,ah,h,⟨m,Z',F',h'⟩,lV=>by simp only [az.an] at h';subst h';trivial
 | .cons t aj,dp,ct,x,vs,ah,h,⟨m,Z',F',h'⟩,lV=>by
  simp only [az.an] at h h'
  obtain ⟨us,bD,G,H,rfl,h2,h3,_⟩:=h'
  have hlen:=(aa.an.len t _ h2).1
  simp only [az.cells]
  refine bF.append (aa.p9 t dp ct ah (fun ha=>?_) ⟨_,_,_,h2⟩ lV.left) (az.p9 aj dp _ ah (fun ha=>?_) ⟨_,_,_,h3⟩ (hlen ▸ lV.right))
  ·obtain ⟨aV,abR,df,fT,e,k2,k3,bf,bm,dJ⟩:=h ha
   have:=(aa.an.len t _ k2).1
   obtain ⟨rfl,rfl⟩:=List.append_inj e (by omega)
   exact aa.an.mono (fun _ _ h=>h) _ _ bm k2
  ·obtain ⟨aV,abR,df,fT,e,k2,k3,bf,bm,dJ⟩:=h ha
   have:=(aa.an.len t _ k2).1
   obtain ⟨rfl,rfl⟩:=List.append_inj e (by omega)
   exact az.an.mono (fun _ _ h=>h) _ _ dJ k3
end
theorem oS{off k:Nat}{cs ds:List bb}(h:takeN off k cs=some ds):off+k≤cs.length∧ds=(cs.drop off).take k:=by
 unfold takeN at h
 cases hb:Nat.ble (off+k) cs.length
 ·rw [hb] at h;simp at h
 ·rw [hb] at h;exact⟨Nat.le_of_ble_eq_true hb,(aX h).symm⟩
theorem di{t:aa}{xs:List t.D}{i:Nat}(hi:i<xs.length):J t xs i=xs[i]:=by simp [J,hi]
theorem RB(h:Inv w0 F0 Z0 n s a w ι Z){id:Nat}{t:aa}{em:bg}{ver:Nat}{xs:List t.D}(ho:s.o id=.row t em ver xs){i:Nat}(hi:i<xs.length) :
  ∃a0 vs,(ι id).base=some a0∧a0.spot=none∧bF w Z s ι (I5 t em id ver i (J t xs i)) vs∧b2 w a0.block (a0.off+i*t.size) vs∧vs.length=t.size:=by
 have cU:=h.fP id
 rw [ho] at cU
 rcases cU with⟨rfl,_⟩ | ⟨a0,hb,hr⟩
 ·simp at hi
 ·obtain ⟨G,g1,g2,g3⟩:=hr.row
  obtain ⟨vs,df,k1,k2,k3,bf⟩:=g1.get i hi
  refine⟨a0,vs,hb,hr.spot,?_,k3,k2⟩
  rw [di hi]
  have key:∀dp ct,(∀d,d∈dp→eg s d)→(em=.R∨(id,ver)∈dp)→lU w s ι dp ct vs→bF w Z s ι (t.cells dp ct xs[i]) vs:=by
   intro dp ct ah tJ lV
   refine aa.p9 t dp ct ah (fun ha=>?_) ⟨_,_,_,k1⟩ lV
   rcases tJ with rfl | hm
   ·exact aa.an.mono (fun _ _ h=>.inl h) _ _ (fun _ _ h=>h) (aa.an.read (Z:=Z) (Z':=Z) (F:=ag.none) (fun _ _ h=>h) t .R (fun _ _ h=>h.elim) (by
     have:=k1
     exact rC this))
   ·exact aa.an.read (fun _ _ h=>.inl h) t em (fun b o aD=>.inr ⟨_,hm,g3 b o (bf b o aD)⟩) k1
  unfold I5
  split
  ·exact key [] _ (by simp) (.inl rfl) .none
  ·refine key _ _ ?_ (.inr (by simp)) ?_
   case refine_2 =>
    intro k v hv p av
    simp only [Option.map_some,Option.some.injEq] at av
    subst av
    refine⟨⟨(id,ver),by simp,rfl⟩,fun _=>?_⟩
    have hk:k<t.size:=by rw [← k2];exact(List.getElem?_eq_some_iff.1 hv).1
    have Jv:(i+1)*t.size≤(ι id).cap*t.size:=Nat.mul_le_mul_right _ (by have:=hr.cap;omega)
    rw [Nat.add_one_mul] at Jv
    refine⟨a0.block,a0.off+i*t.size+k,⟨rfl,?_⟩,k3 k v hv,?_⟩
    ·show match (s.o id).core with | .var _ _=>_ | .row t _ _ xs=>_ | _=>_
     rw [ho]
     exact⟨i,rfl,hi,a0,hb,by simp⟩
    ·have:=hr.inF (i*t.size+k) (by omega)
     rwa [← Nat.add_assoc] at this
   intro d ah
   simp at ah
   subst ah
   exact⟨by simp [known,ho],.inr (by simp [km,ho])⟩
theorem yR(h:Inv w0 F0 Z0 n s a w ι Z){k:Nat}{p:Place}{cs:List bb}{A:Addr}(hr:lS s k p=some cs)(av:je s ι p A) :
  ∃b o vs,A=at_ b o∧bF w Z s ι cs vs∧b2 w b o vs∧vs.length=k:=by
 obtain ⟨hs,av⟩:=av
 unfold lS at hr
 cases ho:s.o p.id with
 | var ver old =>
  rw [ho] at hr av
  obtain ⟨he,a0,hb,rfl⟩:=av
  rw [he] at hr
  obtain ⟨h1,rfl⟩:=oS hr
  have cU:=h.fP p.id
  rw [ho] at cU
  obtain ⟨wO,vs,dV,hsp,hc,cm,_⟩:=cU
  rw [hb] at dV
  obtain rfl:=aX dV
  refine⟨_,_,(vs.drop p.off).take k,rfl,(hc.drop _).take _,cm.part _ _,?_⟩
  have:=hc.len
  simp;omega
 | row t em ver xs =>
  rw [ho] at hr av
  obtain ⟨i,he,hi,a0,hb,rfl⟩:=av
  rw [he] at hr
  obtain ⟨h1,rfl⟩:=oS hr
  obtain ⟨wO,vs,dV,hsp,hc,cm,hl⟩:=RB h ho hi
  rw [hb] at dV
  obtain rfl:=aX dV
  refine⟨_,_,(vs.drop p.off).take k,rfl,(hc.drop _).take _,?_,?_⟩
  ·have:=cm.part p.off k
   exact this
  ·have:=hc.len
   simp;omega
 | none=>rw [ho] at hr;simp at hr
 | dead=>rw [ho] at hr;simp at hr
 | b_=>rw [ho] at hr;simp at hr
theorem abS{id:Nat}(cd:s.o id=.none)(o:cj)(i:bC):eA w Z s ι w Z (s.bL id o) (bP ι id i):=by
 refine⟨fun j=>?_,fun _ _ h=>h,b4.refl _ _⟩
 show iD (s.o j) (ι j) (bP s.o id o j) (bP ι id i j)
 by_cases hj:id=j
 ·subst hj;rw [cd];exact .made _ _ _
 ·rw [cK hj,cK hj];exact .stay _ _
theorem Inv.BO(h:Inv w0 F0 Z0 n s a w ι Z){id:Nat}(cd:s.o id=.none){o:cj}{i:bC}
  (cH:hO w Z (s.bL id o) (bP ι id i) i o) (hF:bE w0 F0 s w ι Z i.F):Inv w0 F0 Z0 n (s.bL id o) a w (bP ι id i) Z:=by
 have hm:=abS (w:=w) (Z:=Z) (ι := ι) cd o i
 refine h.next hm (Ext.refl _ ag.none) (fun _ _ h=>h.elim) (fun _ _ h=>.inl h) ?_ ?_ (fun k=>(h.tmps k).move hm) h.size h.defers
 ·intro j hl hne
  by_cases hj:id=j
  ·subst hj
   rw [cz]
   refine⟨by show hO _ _ _ _ _ (bP s.o id o id);rw [cz];exact cH,hF.own,fun nV gf jB=>?_⟩
   rw [cK jB]
   have eB:(s.o nV).live:=by
    have:(bP s.o id _ nV).live:=gf
    rwa [cK jB] at this
   exact hF.apart nV eB
  ·exact absurd ⟨cK hj,cK hj⟩ hne
 ·intro j hl
  by_cases hj:id=j
  ·subst hj;rw [cz];exact hF.cW
  ·rw [cK hj]
   have eB:(s.o j).live:=by
    have:(bP s.o id _ j).live:=hl
    rwa [cK hj] at this
   exact h.cW j eB
structure ld(s:al)(ι : Nat→bC)(aq:al)(bh:Nat→bC):Prop where
 o:∀id,s.o id≠.none→aq.o id=s.o id ∧ bh id = ι id
 t:aq.t=s.t
 g:aq.g=s.g
 nl:∀id o',s.o id=.none→aq.o id≠.b_ o'
theorem ld.refl:ld s ι s ι :=⟨fun _ _=>⟨rfl,rfl⟩,rfl,rfl,fun _ _ h=>by rw [h];simp⟩
theorem ld.trans{s2:al}{en:Nat→bC}(h:ld s ι aq bh)(k:ld aq bh s2 en):ld s ι s2 en :=
 ⟨fun id hn=>by have h1:=h.o id hn;have h2:=k.o id (by rw [h1.1];exact hn);exact⟨h2.1.trans h1.1,h2.2.trans h1.2⟩,k.t.trans h.t,k.g.trans h.g,fun id o' hn=>by
  by_cases hm:aq.o id=.none
  ·exact k.nl id o' hm
  ·rw [(k.o id hm).1];exact h.nl id o' hn⟩
theorem ld.d'(h:ld s ι aq bh):eA w Z s ι w Z aq bh:=by
 refine⟨fun id=>?_,fun _ _ h=>h,b4.refl _ _⟩
 by_cases hn:s.o id=.none
 ·rw [hn];exact .made _ _ _
 ·rw [(h.o id hn).1,(h.o id hn).2];exact .stay _ _
theorem abT{id:Nat}(cd:s.o id=.none)(o:cj)(i:bC)(hnl:∀o',o≠.b_ o'):ld s ι (s.bL id o) (bP ι id i):=by
 refine⟨fun j hn=>?_,rfl,rfl,fun j o' hn=>?_⟩
 ·have hj:id≠j:=fun e=>hn (e ▸ cd)
  exact⟨cK hj,cK hj⟩
 ·show bP s.o id o j≠_
  by_cases hj:id=j
  ·subst hj;rw [cz];exact hnl o'
  ·rw [cK hj,hn];simp
def Jw(w0:World)(F0 Z0:ag)(n:cB)(s:al)(a:Act)(w:World)(ι : Nat→bC)(Z:ag)(vs:List Value)(F:ag)(cs:List bb)(aq:al):Prop :=
 ∃ bh,Inv w0 F0 Z0 n aq a w bh Z∧ld s ι aq bh∧bF w Z aq bh cs vs∧∀G,bE w0 F0 s w ι Z G→ag.apart G F→bE w0 F0 aq w bh Z G
theorem tK(h:Inv w0 F0 Z0 n s a w ι Z){vs:List Value}{F:ag}{cs:List bb}(hc:bF w Z s ι cs vs):Jw w0 F0 Z0 n s a w ι Z vs F cs s :=
 ⟨ι,h,.refl,hc,fun _ hG _=>hG⟩
mutual
theorem aa.nW:∀(t:aa) (m:bg) (dp:List (Nat×Nat)) (x:t.D) (s:al) (ι : Nat→bC) (j:Nat) (r:List bb×al×Nat) (vs:List Value) (F:ag),
  t.g_ m dp x s j=some r→Inv w0 F0 Z0 n s a w ι Z→t.an w (Z.or (dd ι dp)) m x vs F→bE w0 F0 s w ι Z F→ag.apart F (dd ι dp)→(∀d,d∈dp→eg s d) →
  Jw w0 F0 Z0 n s a w ι Z vs F r.1 r.2.1
 | .int k,m,dp,x,s,ι,j,r,vs,F,he,h,hr,hf,mM,ah=>by
  simp only [aa.g_] at he;obtain rfl:=aX he
  simp only [aa.an] at hr;subst hr;exact tK h ⟨rfl,trivial⟩
 | .bool,m,dp,x,s,ι,j,r,vs,F,he,h,hr,hf,mM,ah=>by
  simp only [aa.g_] at he;obtain rfl:=aX he
  simp only [aa.an] at hr;subst hr;exact tK h ⟨rfl,trivial⟩
 | .str,m,dp,x,s,ι,j,r,vs,F,he,h,hr,hf,mM,ah=>by
  simp only [aa.g_] at he;obtain rfl:=aX he
  simp only [aa.an] at hr;obtain ⟨q,rfl,hq⟩:=hr;exact tK h ⟨⟨q,rfl,hq⟩,trivial⟩
 | .raw,m,dp,x,s,ι,j,r,vs,F,he,h,hr,hf,mM,ah=>by
  simp only [aa.g_] at he;obtain rfl:=aX he
  simp only [aa.an] at hr;obtain ⟨rfl,hq⟩:=hr;exact tK h ⟨⟨rfl,hq⟩,trivial⟩
 | .sl t,.R,dp,x,s,ι,j,r,vs,F,he,h,hr,hf,mM,ah=>by
  simp only [aa.g_] at he;obtain rfl:=aX he
  have jC:=hr
  simp only [aa.an] at hr;obtain ⟨A,c,rfl,_⟩:=hr
  exact tK h ⟨⟨ah,⟨A,_,c,rfl⟩,fun _=>rC jC,.none⟩,trivial⟩
 | .sl t,.S ms,dp,x,s,ι,j,r,vs,F,he,h,hr,hf,mM,ah=>by
  simp only [aa.g_] at he;obtain rfl:=aX he
  have jC:(aa.sl t).an w (Z.or (dd ι dp)) .R x vs F:=by simp only [aa.an] at hr ⊢;exact hr
  simp only [aa.an] at hr;obtain ⟨A,c,rfl,_⟩:=hr
  exact tK h ⟨⟨ah,⟨A,_,c,rfl⟩,fun _=>rC jC,.none⟩,trivial⟩
 | .sl t,.O e,dp,x,s,ι,j,r,vs,F,he,h,hr,hf,mM,ah=>by
  simp only [aa.g_] at he
  cases hq:(dp.isEmpty||bg.beq e t.own)
  ·rw [hq] at he;simp at he
  rw [hq] at he
  cases ho:s.o j with
  | none =>
   rw [ho] at he
   obtain rfl:=aX he
   have iG:(aa.sl t).an w Z (.O e) x vs F:=by
    cases mN:dp with
    | nil=>subst mN;exact aa.an.mono (fun b o hz=>hz.elim (fun h=>h) fun⟨d,ah,_⟩=>by simp at ah) _ _ (fun _ _ h=>h) hr
    | cons d aqT =>
     subst mN
     have he:e=t.own:=bg.eq_of_beq _ _ (by simpa using hq)
     subst he
     exact tG (.sl t) hr
   simp only [aa.an] at iG
   obtain ⟨A,c,rfl,iG⟩:=iG
   let i:bC:=⟨A,c,F⟩
   have cH:hO w Z (s.bL j (.row t e 0 x)) (bP ι j i) i (.row t e 0 x):=by
    rcases iG with iG | ⟨a0,hA,iG⟩
    ·exact .inl iG
    ·exact .inr ⟨a0,hA,iG⟩
   refine⟨bP ι j i,h.BO ho cH hf,abT ho _ _ (fun o'=>by simp),⟨⟨?_,A,_,c,rfl,?_⟩,trivial⟩,?_⟩
   ·show bP s.o j _ j≠_
    rw [cz];simp
   ·intro cE em ver xs hh
    have this:(bP s.o j (cj.row t e 0 x) j).core=.row cE em ver xs:=hh
    rw [cz] at this
    have this:cj.row t e 0 x=.row cE em ver xs:=this
    injection this with h1 h2 h3 h4
    subst h1
    obtain rfl:=eq_of_heq h4
    rw [cz]
    refine⟨rfl,by simp [d_],?_,by simp [d_,i],?_⟩
    ·rcases iG with⟨hx,hc⟩ | ⟨a0,hA,iG⟩
     ·subst hx;simp
     ·exact iG.cap
    ·rcases iG with⟨hx,hc⟩ | ⟨a0,hA,iG⟩
     ·exact .inl hc
     ·refine .inr ⟨a0,hA,?_⟩
      rw [hA]
      have:=iG.spot
      obtain ⟨aqU,off,sp⟩:=a0
      subst this
      simp [d_,at_]
   ·intro G hG hGF
    refine⟨hG.own,fun id hl=>?_,hG.cW⟩
    by_cases hj:j=id
    ·subst hj;rw [cz];exact hGF
    ·rw [cK hj]
     exact hG.apart id (by have:(bP s.o j _ id).live:=hl;rwa [cK hj] at this)
  | _=>rw [ho] at he;simp at he
 | .st aj,m,dp,x,s,ι,j,r,vs,F,he,h,hr,hf,mM,ah=>by
  simp only [aa.g_] at he;simp only [aa.an] at hr
  exact az.nW aj m.parts dp x s ι j r vs F he h hr hf mM ah
theorem az.nW:∀(aj:az) (m:cM) (dp:List (Nat×Nat)) (x:aj.D) (s:al) (ι : Nat→bC) (j:Nat) (r:List bb×al×Nat) (vs:List Value) (F:ag),
  aj.g_ m dp x s j=some r→Inv w0 F0 Z0 n s a w ι Z→aj.an w (Z.or (dd ι dp)) m x vs F→bE w0 F0 s w ι Z F→ag.apart F (dd ι dp)→(∀d,d∈dp→eg s d) →
  Jw w0 F0 Z0 n s a w ι Z vs F r.1 r.2.1
 | .nil,m,dp,x,s,ι,j,r,vs,F,he,h,hr,hf,mM,ah=>by
  simp only [az.g_] at he;obtain rfl:=aX he
  simp only [az.an] at hr;subst hr;exact tK h trivial
 | .cons t aj,m,dp,x,s,ι,j,r,vs,F,he,h,hr,hf,mM,ah=>by
  simp only [az.g_] at he
  obtain ⟨bw,h1,he⟩:=bj he
  obtain ⟨b9,h2,he⟩:=bj he
  obtain rfl:=aX he
  simp only [az.an] at hr
  obtain ⟨us,bD,G,H,rfl,dQ,e5,fA,jf,mO⟩:=hr
  have abU:bE w0 F0 s w ι Z G:=⟨fun b o aD=>hf.own b o (jf b o aD),fun id hl b o aD=>hf.apart id hl b o (jf b o aD),fun b o aD=>hf.cW b o (jf b o aD)⟩
  have abV:bE w0 F0 s w ι Z H:=⟨fun b o aD=>hf.own b o (mO b o aD),fun id hl b o aD=>hf.apart id hl b o (mO b o aD),fun b o aD=>hf.cW b o (mO b o aD)⟩
  obtain ⟨dw,i1,g1,c1,f1⟩:=aa.nW t m.ah dp x.1 s ι j bw us G h1 h dQ abU (fun b o aD=>mM b o (jf b o aD)) ah
  have RC:∀d,d∈dp→s.o d.1≠.none:=fun d lW=>(ah d lW).1
  have RD:∀b o,dd ι dp b o↔dd dw dp b o:=by
   intro b o
   constructor
   ·rintro ⟨d,lW,hx⟩;exact⟨d,lW,by rw [(g1.o d.1 (RC d lW)).2];exact hx⟩
   ·rintro ⟨d,lW,hx⟩;exact⟨d,lW,by rw [(g1.o d.1 (RC d lW)).2] at hx;exact hx⟩
  have p_:∀d,d∈dp→eg bw.2.1 d:=by
   intro d lW
   have:=ah d lW
   unfold eg known km at *
   rw [(g1.o d.1 this.1).1];exact this
  obtain ⟨en,i2,g2,gv,f2⟩:=az.nW aj m.du dp x.2 bw.2.1 dw bw.2.2 b9 bD H h2 i1 (az.an.mono (fun b o hz=>hz.imp (fun h=>h) (fun h=>(RD b o).1 h)) _ _ (fun _ _ h=>h) e5)
   (f1 H abV (fun b o k1 k2=>fA b o k2 k1)) (fun b o k1 k2=>mM b o (mO b o k1) ((RD b o).2 k2)) p_
  refine⟨en,i2,g1.trans g2,(c1.move g2.d').append gv,fun df Jx hGF=>?_⟩
  exact f2 df (f1 df Jx fun b o k1 k2=>hGF b o k1 (jf b o k2)) fun b o k1 k2=>hGF b o k1 (mO b o k2)
end
end
end Go.LM
namespace Go.LM
def c9{α : Type}(l:List α)(k:Nat)(us:List α):List α := l.take k++us++l.drop (k+us.length)
theorem BP{α : Type}(l:List α)(k:Nat):c9 l k []=l:=by simp [c9]
theorem IW{α : Type}{l us:List α}{k:Nat}(h:k+us.length≤l.length):(c9 l k us).length=l.length:=by simp [c9];omega
theorem abW{α : Type}{A B us:List α}{k:Nat}(h:k+us.length≤A.length):c9 (A++B) k us=c9 A k us++B:=by
 unfold c9
 rw [List.take_append_of_le_length (by omega),List.drop_append_of_le_length (by omega)]
 simp [List.append_assoc]
theorem RE{α : Type}{A B us:List α}{k:Nat}(h:A.length≤k):c9 (A++B) k us=A++c9 B (k-A.length) us:=by
 unfold c9
 obtain ⟨j,rfl⟩:∃j,k=A.length+j:=⟨k-A.length,by omega⟩
 rw [List.take_append,List.take_of_length_le (by omega),Nat.add_sub_cancel_left,show A.length+j+us.length=A.length +(j+us.length) by omega,List.drop_append,List.drop_of_length_le (by omega),Nat.add_sub_cancel_left]
 simp [List.append_assoc]
theorem abX{α : Type}{A B us vs:List α}{k:Nat}(h:k+us.length=A.length):c9 (A++B) k (us++vs)=c9 A k us++c9 B 0 vs:=by
 unfold c9
 rw [List.take_append_of_le_length (by omega),List.length_append,show k +(us.length+vs.length)=A.length+vs.length by omega,List.drop_append,List.drop_of_length_le (by omega),Nat.add_sub_cancel_left,h,List.drop_length]
 simp [List.append_assoc]
theorem abY{α : Type}{l us:List α}(h:us.length=l.length):c9 l 0 us=us:=by
 unfold c9;rw [List.take_zero,Nat.zero_add,h,List.drop_length];simp
section
variable{w0:World}{F0 Z0:ag}{n:cB}{s aq:al}{a b6:Act}{w w':World}{ι bh:Nat→bC}{Z Z':ag}
def RF(w0:World)(F0 Z0:ag)(n:cB)(s:al)(a:Act)(w:World)(ι : Nat→bC)(Z:ag)(RG:List Value→ag→Prop)(R:ag→List Value→ag→Prop)(size skip:Nat)(vs:List Value)
  (cs':List bb) (aq:al):Prop :=
 ∃us rest F1 Z',vs=us++rest∧Inv w0 F0 Z0 n aq a w ι Z'∧eU s ι Z aq Z'∧bF w Z' aq ι cs' rest∧bE w0 F0 aq w ι Z' F1 ∧
  (∀b o,F1 b o→∃id,(s.o id).live∧(ι id).F b o)∧skip+us.length≤size∧(cs'≠[]→skip+us.length=size) ∧
  ∀old G,RG old G→∀id,(aq.o id).live→ag.sub G (ι id).F→R Z' (c9 old skip us) (G.or F1)
mutual
theorem aa.wQ:∀(t:aa) (m:bg) (x:t.D) (skip:Nat) (cs:List bb) (s:al) (r:t.D×List bb×al) (vs:List Value) (Z:ag),
  t.put m x skip cs s=some r→skip≤t.size→Inv w0 F0 Z0 n s a w ι Z→bF w Z s ι cs vs →
  RF w0 F0 Z0 n s a w ι Z (fun us F=>t.an w Z m x us F) (fun Z us F=>t.an w Z m r.1 us F) t.size skip vs r.2.1 r.2.2
 | t,m,x,skip,[],s,r,vs,Z,av,oT,h,hc=>by
  have nX:some (x,([]:List bb),s)=some r:=by cases t <;> simpa only [aa.put] using av
  obtain rfl:=aX nX
  cases vs with
  | cons=>exact hc.elim
  | nil =>
   refine⟨[],[],ag.none,Z,rfl,h,.refl,trivial,.none,fun _ _ h=>h.elim,by simpa using oT,fun h=>absurd rfl h,fun _ _ hr _ _ _=>?_⟩
   rw [BP]
   exact aa.an.mono (fun _ _ h=>h) _ _ (fun _ _ h=>.inl h) hr
 | t,m,x,skip,c :: cs,s,r,vs,Z,av,oT,h,hc=>by
  cases hb:(Nat.beq skip 0&&Nat.ble t.size (cs.length+1)) with
  | true =>
   have nX:(t.imp false m (c :: cs) s []).bind (fun r=>some (r.1,r.2.1,r.2.2.1))=some r:=by
    cases t <;>(simp only [aa.put] at av;rw [hb] at av;exact av)
   obtain ⟨q,hq,nX⟩:=bj nX
   obtain rfl:=aX nX
   have dV:skip=0∧t.size≤cs.length+1:=by
    simp only [Bool.and_eq_true] at hb
    exact⟨Nat.eq_of_beq_eq_true hb.1,Nat.le_of_ble_eq_true hb.2⟩
   obtain ⟨rfl,_⟩:=dV
   obtain ⟨us,rest,F,Z',e1,i1,s1,c1,f1,dQ,_,iF,_,g1⟩:=aa.k_ t false m (c :: cs) s [] q vs Z hq h hc (by simp)
   have qa:=(aa.an.len t m dQ).1
   refine⟨us,rest,F,Z',e1,i1,s1,c1,f1,g1,by omega,fun _=>by omega,fun _ _ hr _ _ _=>?_⟩
   have hlen:=(aa.an.len t m hr).1
   rw [abY (by omega)]
   refine aa.an.mono ?_ _ _ (fun _ _ h=>.inr h) dQ
   rintro b o (hz | ⟨d,ah,_⟩)
   ·exact hz
   ·rw [iF rfl] at ah;simp at ah
  | false =>
   cases t with
   | st aj =>
    simp only [aa.put] at av
    rw [hb] at av
    have:=az.wQ aj m.parts x skip (c :: cs) s r vs Z av (by simpa only [aa.size] using oT) h hc
    simpa only [aa.an,aa.size] using this
   | _=>simp only [aa.put] at av;rw [hb] at av;simp at av
theorem az.wQ:∀(aj:az) (m:cM) (x:aj.D) (skip:Nat) (cs:List bb) (s:al) (r:aj.D×List bb×al) (vs:List Value) (Z:ag),
  aj.put m x skip cs s=some r→skip≤aj.size→Inv w0 F0 Z0 n s a w ι Z→bF w Z s ι cs vs →
  RF w0 F0 Z0 n s a w ι Z (fun us F=>aj.an w Z m x us F) (fun Z us F=>aj.an w Z m r.1 us F) aj.size skip vs r.2.1 r.2.2
 | .nil,m,x,skip,cs,s,r,vs,Z,av,oT,h,hc=>by
  simp only [az.put] at av
  obtain rfl:=aX av
  simp only [az.size] at oT ⊢
  refine⟨[],vs,ag.none,Z,rfl,h,.refl,hc,.none,fun _ _ h=>h.elim,by simpa using oT,fun _=>by simp;omega,fun _ _ hr _ _ _=>?_⟩
  rw [BP]
  simp only [az.an] at hr ⊢
  exact hr
 | .cons t aj,m,x,skip,cs,s,r,vs,Z,av,oT,h,hc=>by
  simp only [az.put] at av
  cases hb:Nat.ble t.size skip with
  | true =>
   rw [hb] at av
   have qb:=Nat.le_of_ble_eq_true hb
   obtain ⟨q,hq,av⟩:=bj av
   obtain rfl:=aX av
   simp only [az.size] at oT
   obtain ⟨us,rest,F1,Z',e1,i1,s1,c1,f1,g1,dn,eh,k1⟩:=az.wQ aj m.du x.2 (skip-t.size) cs s q vs Z hq (by omega) h hc
   refine⟨us,rest,F1,Z',e1,i1,s1,c1,f1,g1,by simp only [az.size];omega,fun hne=>by have:=eh hne;simp only [az.size];omega,fun old G hr id hl hG=>?_⟩
   simp only [az.an] at hr
   obtain ⟨wR,BQ,G1,G2,rfl,dQ,e5,fA,jf,mO⟩:=hr
   have hl1:=(aa.an.len t _ dQ).1
   rw [RE (by omega),hl1]
   simp only [az.an]
   refine⟨wR,_,G1,G2.or F1,rfl,aa.an.mono s1.dC _ _ (fun _ _ h=>h) dQ,k1 _ _ e5 id hl (fun b o aD=>hG b o (mO b o aD)),?_,fun b o aD=>.inl (jf b o aD),?_⟩
   ·rintro b o aD (hh | hh)
    ·exact fA b o aD hh
    ·exact f1.apart id hl b o hh (hG b o (jf b o aD))
   ·rintro b o (aD | aD)
    ·exact .inl (mO b o aD)
    ·exact .inr aD
  | false =>
   rw [hb] at av
   have bY:skip<t.size:=by
    rcases Nat.lt_or_ge skip t.size with h | h
    ·exact h
    ·rw [Nat.ble_eq_true_of_le h] at hb;simp at hb
   obtain ⟨cP,nY,av⟩:=bj av
   obtain ⟨dU,hQ,av⟩:=bj av
   obtain rfl:=aX av
   obtain ⟨us,rest,F1,cr,e1,i1,s1,c1,f1,g1,dn,eh,k1⟩:=aa.wQ t m.ah x.1 skip cs s cP vs Z nY (by omega) h hc
   obtain ⟨us2,RH,dE,bJ,e2,i2,s2,gv,f2,g2,nZ,oU,k2⟩:=az.wQ aj m.du x.2 0 cP.2.1 cP.2.2 dU rest cr hQ (by omega) i1 c1
   have fR:cP.2.1=[]→us2=[]∧RH=[]:=by
    intro hcs
    rw [hcs] at c1
    cases rest with
    | nil=>have:=e2;simp at this;exact⟨this.1,this.2⟩
    | cons=>exact c1.elim
   refine⟨us++us2,RH,F1.or dE,bJ,by rw [e1,e2,List.append_assoc],i2,s1.trans s2,gv,(f1.shrink s2).or f2,?_,?_,?_,fun old G hr id hl hG=>?_⟩
   ·rintro b o (hf | hf)
    ·exact g1 b o hf
    ·obtain ⟨id,hl,hi⟩:=g2 b o hf;exact⟨id,(s1.live hl).1,hi⟩
   ·simp only [az.size,List.length_append]
    by_cases hcs:cP.2.1=[]
    ·rw [(fR hcs).1];simp;omega
    ·have:=eh hcs;omega
   ·intro hne
    simp only [az.size,List.length_append]
    have h4:=oU hne
    by_cases hcs:cP.2.1=[]
    ·have:dU.2.1=[]:=by
      have h1:=gv.len
      rw [(fR hcs).2] at h1
      exact List.eq_nil_of_length_eq_zero (by simpa using h1.symm)
     exact absurd this hne
    ·have:=eh hcs;omega
   ·simp only [az.an] at hr
    obtain ⟨wR,BQ,G1,G2,rfl,dQ,e5,fA,jf,mO⟩:=hr
    have hl1:=(aa.an.len t _ dQ).1
    have gf:=(s2.live hl)
    have bw:=k1 _ _ dQ id gf.1 (fun b o aD=>hG b o (jf b o aD))
    have b9:=k2 _ _ (az.an.mono s1.dC _ _ (fun _ _ h=>h) e5) id hl (fun b o aD=>hG b o (mO b o aD))
    have hsp:c9 (wR++BQ) skip (us++us2)=c9 wR skip us++c9 BQ 0 us2:=by
     by_cases hcs:cP.2.1=[]
     ·rw [(fR hcs).1,List.append_nil,BP,abW (by omega)]
     ·exact abX (by have:=eh hcs;omega)
    rw [hsp]
    simp only [az.an]
    refine⟨_,_,G1.or F1,G2.or dE,rfl,aa.an.mono s2.dC _ _ (fun _ _ h=>h) bw,b9,?_,?_,?_⟩
    ·rintro b o (aD | aD) (hh | hh)
     ·exact fA b o aD hh
     ·exact f2.apart id hl b o hh (hG b o (jf b o aD))
     ·exact f1.apart id gf.1 b o aD (hG b o (mO b o hh))
     ·obtain ⟨abZ,eB,ia⟩:=g2 b o hh
      exact f1.apart abZ eB b o aD ia
    ·rintro b o (aD | aD)
     ·exact .inl (jf b o aD)
     ·exact .inr (.inl aD)
    ·rintro b o (aD | aD)
     ·exact .inl (mO b o aD)
     ·exact .inr (.inr aD)
end
theorem bF.c9{cs ds:List bb}{us vs:List Value}(h:bF w Z s ι cs us)(k:bF w Z s ι ds vs)(p:Nat) :
  bF w Z s ι (cs.take p++ds++cs.drop (p+ds.length)) (c9 us p vs):=by
 unfold LM.c9
 rw [k.len]
 exact((h.take p).append k).append (h.drop _)
theorem ab0{cs:List bb}{vs:List Value}(h:eU s ι Z aq Z')(hc:bF w Z s ι cs vs):bF w Z' aq ι cs vs:=hc.move h.d'
theorem ab1{b o:Nat}{vs:List Value}(hw:∀i,i<vs.length→fa w b (o+i)):b2 (setCells w b o vs) b o vs:=by
 intro i v hv
 have hi:i<vs.length:=by
  rcases Nat.lt_or_ge i vs.length with h | h
  ·exact h
  ·rw [List.getElem?_eq_none h] at hv;simp at hv
 rw [wK b vs w o (fun i hi=>(hw i hi).1),if_pos ⟨rfl,by omega,by omega⟩,Nat.add_sub_cancel_left]
 exact hv
theorem rq{b o k:Nat}{old vs:List Value}(hc:b2 w b o old)(hw:∀i,i<old.length→fa w b (o+i))(hk:k+vs.length≤old.length) :
  b2 (setCells w b (o+k) vs) b o (c9 old k vs):=by
 have ab2:∀i,i<vs.length→fa w b (o+k+i):=fun i hi=>by have:=hw (k+i) (by omega);rwa [← Nat.add_assoc] at this
 intro i v hv
 have hx:=wK b vs w (o+k) (fun i hi=>(ab2 i hi).1) b (o+i)
 rw [hx]
 unfold c9 at hv
 by_cases h1:i<k
 ·rw [if_neg (by omega)]
  rw [List.append_assoc,List.getElem?_append_left (by simp;omega),List.getElem?_take,if_pos h1] at hv
  exact hc i v hv
 ·by_cases h2:i<k+vs.length
  ·rw [if_pos ⟨rfl,by omega,by omega⟩]
   rw [List.getElem?_append_left (by simp;omega),List.getElem?_append_right (by simp;omega)] at hv
   simp only [List.length_take] at hv
   rw [show o+i-(o+k)=i-min k old.length by omega]
   exact hv
  ·rw [if_neg (by omega)]
   rw [List.getElem?_append_right (by simp;omega)] at hv
   simp only [List.length_append,List.length_take,List.getElem?_drop] at hv
   rw [show k+vs.length +(i-(min k old.length+vs.length))=i by omega] at hv
   exact hc i v hv
theorem ab3(h:Inv w0 F0 Z0 n s a w ι Z){p:Place}{cs:List bb}{A:Addr}{vs:List Value}(hr:BH s p cs=some aq)(av:je s ι p A)(hc:bF w Z s ι cs vs) :
  ∃b o,A=at_ b o∧(∀i,i<vs.length→fa w b (o+i))∧∃ bh Z',Inv w0 F0 Z0 n aq a (setCells w b o vs) bh Z':=by
 obtain ⟨hs,av⟩:=av
 unfold BH at hr
 cases ho:s.o p.id with
 | var ver old =>
  rw [ho] at hr av
  obtain ⟨he,a0,hb,rfl⟩:=av
  rw [he] at hr
  have b8:(s.o p.id).live:=by rw [ho];trivial
  simp only at hr
  cases qb:Nat.ble (p.off+cs.length) old.length
  ·rw [qb] at hr;simp at hr
  rw [qb] at hr
  obtain rfl:=aX hr
  have hle:=Nat.le_of_ble_eq_true qb
  have cU:=h.fP p.id
  rw [ho] at cU
  obtain ⟨wO,us,dV,hsp,hcu,cm,hwr⟩:=cU
  rw [hb] at dV
  obtain rfl:=aX dV
  have qa:=hcu.len
  have hvl:=hc.len
  have hw:∀i,i<vs.length→fa w a0.block (a0.off+p.off+i):=fun i hi=>by
   have:=(hwr (p.off+i) (by omega)).1;rwa [← Nat.add_assoc] at this
  refine⟨_,_,rfl,hw,ι,Z,?_⟩
  have hx:Ext w (setCells w a0.block (a0.off+p.off) vs) (ι p.id).F:=nJ _ _ _ _ fun i hi=>by
   have:=(hwr (p.off+i) (by omega)).2;rwa [← Nat.add_assoc] at this
  have hm:eA w Z s ι (setCells w a0.block (a0.off+p.off) vs) Z (s.bL p.id (.var (ver+1) (old.take p.off++cs++old.drop (p.off+cs.length)))) ι := by
   refine⟨fun j=>?_,fun _ _ h=>h,b4.iE hx h.rI ?_⟩
   ·show iD (s.o j) (ι j) (bP s.o p.id _ j) (ι j)
    by_cases hj:p.id=j
    ·subst hj;rw [cz,ho];exact .var _ _ _ _ _ (by omega) (by simp;omega)
    ·rw [cK hj];exact .stay _ _
   ·rintro b o (hz | ⟨id,hl,hst,_,hf⟩) ib
    ·exact h.cW p.id b8 b o ib hz
    ·have hne:id≠p.id:=by
      rintro rfl
      have:bP s.o p.id _ p.id=s.o p.id:=hst
      rw [cz,ho] at this
      injection this with h1 h2
      omega
     exact h.apart id p.id hl b8 hne b o hf ib
  refine h.next hm hx (fun b o hf=>(h.own p.id b8 b o hf).1) (fun _ _ h=>.inl h) ?_ ?_ (fun k=>(h.tmps k).move hm) h.size h.defers
  ·intro j hl hne
   by_cases hj:p.id=j
   ·subst hj
    refine⟨?_,fun b o hf=>⟨(h.own _ b8 b o hf).1,by have:=(h.own _ b8 b o hf).2;exact Nat.lt_of_lt_of_le this hx.size⟩,fun dO gf jB=>?_⟩
    ·show hO _ _ _ _ _ (bP s.o p.id _ p.id)
     rw [cz]
     refine⟨a0,c9 us p.off vs,hb,hsp,(hcu.c9 hc p.off).move hm,?_,fun j hj=>?_⟩
     ·exact rq cm (fun i hi=>(hwr i (by omega)).1) (by omega)
     ·have:j<old.length:=by simp at hj;omega
      exact⟨hx.p0 (hwr j this).1,(hwr j this).2⟩
    ·have eB:(s.o dO).live:=by
      have:(bP s.o p.id _ dO).live:=gf
      rwa [cK jB] at this
     exact h.apart p.id dO b8 eB jB
   ·exact absurd ⟨cK hj,rfl⟩ hne
  ·intro j hl
   by_cases hj:p.id=j
   ·subst hj;exact h.cW _ b8
   ·have eB:(s.o j).live:=by
     have:(bP s.o p.id _ j).live:=hl
     rwa [cK hj] at this
    exact h.cW j eB
 | row t em ver xs =>
  rw [ho] at hr av
  obtain ⟨i,he,hi,a0,hb,rfl⟩:=av
  rw [he] at hr
  have b8:(s.o p.id).live:=by rw [ho];trivial
  simp only at hr
  cases qb:Nat.ble (p.off+cs.length) t.size
  ·rw [qb] at hr;simp at hr
  rw [qb] at hr
  have qb:=Nat.le_of_ble_eq_true qb
  obtain ⟨q,hq,hr⟩:=bj hr
  cases nY:q.2.1 with
  | cons=>rw [nY] at hr;simp at hr
  | nil =>
   cases hQ:q.2.2.o p.id with
   | none=>rw [nY,hQ] at hr;simp at hr
   | dead=>rw [nY,hQ] at hr;simp at hr
   | b_=>rw [nY,hQ] at hr;simp at hr
   | var=>rw [nY,hQ] at hr;simp at hr
   | row t2 ab4 ab5 ab6 =>
    rw [nY,hQ] at hr
    obtain rfl:=aX hr
    have oT:p.off≤t.size:=by omega
    obtain ⟨us,rest,F1,cr,e1,i1,s1,c1,f1,g1,dn,eh,k1⟩:=aa.wQ t em (J t xs i) p.off cs s q vs Z hq oT h hc
    rw [nY] at c1
    have fR:rest=[]:=by
     cases rest with
     | nil=>rfl
     | cons=>exact c1.elim
    subst fR
    rw [List.append_nil] at e1
    subst e1
    have hl1:(q.2.2.o p.id).live:=by rw [hQ];trivial
    have hst:=(s1.live hl1).2
    rw [ho] at hst
    have cU:=h.fP p.id
    rw [ho] at cU
    rcases cU with⟨rfl,_⟩ | ⟨wO,dV,hrow⟩
    ·simp at hi
    rw [hb] at dV
    obtain rfl:=aX dV
    have hin:(i+1)*t.size≤(ι p.id).cap*t.size:=Nat.mul_le_mul_right _ (by have:=hrow.cap;omega)
    have hin':i*t.size+t.size≤(ι p.id).cap*t.size:=by rw [← Nat.add_one_mul];exact hin
    have hw:∀k,k<vs.length→fa w a0.block (a0.off+i*t.size+p.off+k):=fun k hk=>by
     have:=(hrow.wr (i*t.size+p.off+k) (by omega)).1
     rwa [show a0.off +(i*t.size+p.off+k)=a0.off+i*t.size+p.off+k by omega] at this
    have ab7:∀k,k<vs.length→(ι p.id).F a0.block (a0.off+i*t.size+p.off+k):=fun k hk=>by
     have:=hrow.inF (i*t.size+p.off+k) (by omega)
     rwa [show a0.off +(i*t.size+p.off+k)=a0.off+i*t.size+p.off+k by omega] at this
    refine⟨_,_,rfl,hw,?_⟩
    let dP:bC:=⟨(ι p.id).base,(ι p.id).cap,(ι p.id).F.or F1⟩
    let o':cj:=.row t em (ver+1) (xs.set i q.1)
    have hx:Ext w (setCells w a0.block (a0.off+i*t.size+p.off) vs) (ι p.id).F:=nJ _ _ _ _ ab7
    have hm:eA w cr q.2.2 ι (setCells w a0.block (a0.off+i*t.size+p.off) vs) cr (q.2.2.bL p.id o') (bP ι p.id dP):=by
     refine⟨fun j=>?_,fun _ _ h=>h,b4.iE hx i1.rI ?_⟩
     ·show iD (q.2.2.o j) (ι j) (bP q.2.2.o p.id o' j) (bP ι p.id dP j)
      by_cases hj:p.id=j
      ·subst hj;rw [cz,cz,hst];exact .row _ _ _ _ _ _ _ _ _ (by omega) (by simp) rfl rfl
      ·rw [cK hj,cK hj];exact .stay _ _
     ·rintro b o (hz | ⟨id,hl,p8,_,hf⟩) ib
      ·exact i1.cW p.id hl1 b o ib hz
      ·have hne:id≠p.id:=by
        rintro rfl
        have:bP q.2.2.o p.id o' p.id=q.2.2.o p.id:=p8
        rw [cz,hst] at this
        injection this with h1 h2 h3
        omega
       exact i1.apart id p.id hl hl1 hne b o hf ib
    have rK:∀ {j},p.id≠j→((q.2.2.bL p.id o').o j).live→(q.2.2.o j).live:=fun hj hl=>by
     have:(bP q.2.2.o p.id o' _).live:=hl
     rwa [cK hj] at this
    refine⟨_,_,i1.next hm hx (fun b o hf=>(i1.own p.id hl1 b o hf).1) (fun _ _ h=>.inl h) ?_ ?_ (fun k=>(i1.tmps k).move hm) i1.size i1.defers⟩
    ·intro j hl hne
     by_cases hj:p.id=j
     ·subst hj
      rw [cz]
      refine⟨?_,fun b o hf=>?_,fun dO gf jB=>?_⟩
      ·show hO _ _ _ _ _ (bP q.2.2.o p.id o' p.id)
       rw [cz]
       refine .inr ⟨a0,hb,hrow.spot,by simpa [o'] using hrow.cap,fun j hj=>hx.kk (hrow.wr j hj),fun j hj=>.inl (hrow.inF j hj),?_⟩
       obtain ⟨G,bw,b9,gd⟩:=hrow.row
       have RI:b4 w (setCells w a0.block (a0.off+i*t.size+p.off) vs) G:=by
        intro b o aD
        refine⟨?_,fun _=>abM _ _ _ _ _ _⟩
        rw [wK _ _ _ _ (fun i hi=>(hw i hi).1),if_neg]
        rintro ⟨rfl,h1,h2⟩
        have:=b9 (o-a0.off) (by omega)
        rw [show a0.off +(o-a0.off)=o by omega] at this
        exact this aD
       have RJ:b4 w (setCells w a0.block (a0.off+i*t.size+p.off) vs) cr:=hm.same.mono fun b o hz=>.inl hz
       have ab8:b4 w (setCells w a0.block (a0.off+i*t.size+p.off) vs) F1:=by
        refine b4.iE hx (fun b o hf=>(f1.own b o hf).2) fun b o hf ib=>f1.apart p.id hl1 b o hf ib
       refine⟨G.or F1,?_,?_,?_⟩
       ·refine Row.set (w:=w) (R:=t.an w Z em) i hi bw (fun y us df hG a_=>aa.an.same RJ _ _ (RI.mono hG) (aa.an.mono s1.dC _ _ (fun _ _ h=>h) a_)) ?_ ?_ (fun b o hf aD=>f1.apart p.id hl1 b o hf (gd b o aD))
        ·intro j hj Ju
         rw [wK _ _ _ _ (fun i hi=>(hw i hi).1),if_neg]
         rintro ⟨_,h1,h2⟩
         rw [Nat.add_one_mul] at Ju
         omega
        ·intro us df k2 k3 bf bm
         refine⟨c9 us p.off vs,by rw [IW (by omega)];exact k3,?_,?_⟩
         ·refine rq bf (fun k hk=>?_) (by omega)
          have:=(hrow.wr (i*t.size+k) (by omega)).1
          rwa [← Nat.add_assoc] at this
         ·have:=k1 us df (by rw [di hi];exact k2) p.id hl1 (fun b o aD=>gd b o (bm b o aD))
          refine aa.an.same RJ _ _ ?_ this
          intro b o aD
          rcases aD with aD | aD
          ·exact RI b o (bm b o aD)
          ·exact ab8 b o aD
       ·rintro j hj (aD | aD)
        ·exact b9 j hj aD
        ·exact f1.apart p.id hl1 _ _ aD (hrow.inF j hj)
       ·rintro b o (aD | aD)
        ·exact .inl (gd b o aD)
        ·exact .inr aD
      ·rcases hf with hf | hf
       ·exact⟨(i1.own _ hl1 b o hf).1,Nat.lt_of_lt_of_le (i1.own _ hl1 b o hf).2 hx.size⟩
       ·exact⟨(f1.own b o hf).1,Nat.lt_of_lt_of_le (f1.own b o hf).2 hx.size⟩
      ·rw [cK jB]
       have eB:=rK jB gf
       rintro b o (hf | hf) ib
       ·exact i1.apart p.id dO hl1 eB jB b o hf ib
       ·exact f1.apart dO eB b o hf ib
     ·exact absurd ⟨cK hj,cK hj⟩ hne
    ·intro j hl
     by_cases hj:p.id=j
     ·subst hj
      rw [cz]
      rintro b o (hf | hf) hz
      ·exact i1.cW _ hl1 b o hf hz
      ·exact f1.cW b o hf hz
     ·rw [cK hj];exact i1.cW j (rK hj hl)
 | none=>rw [ho] at hr;simp at hr
 | dead=>rw [ho] at hr;simp at hr
 | b_=>rw [ho] at hr;simp at hr
end
end Go.LM
namespace Go.LM
mutual
def aa.cI:aa→List Value
 | .int k=>[.int k 0]
 | .bool=>[.bool false]
 | .str=>[.string ⟨#[]⟩]
 | .raw=>[.slice none 0 0]
 | .sl _=>[.slice none 0 0]
 | .st aj=>aj.cI
def az.cI:az→List Value
 | .nil=>[]
 | .cons t aj=>t.cI++aj.cI
end
def dD(t:aa)(vs:List Value):Value :=
 match t with
 | .st _=>.agg vs.toArray
 | _=>vs.headD undef
def lf(P:Program)(id:TypeId)(t:aa):Prop :=
 ∃i,P.info? id=some i∧i.size=t.size∧i.zero=some (dD t t.cI)∧i.bytes≤2048
mutual
def aa.ok(P:Program):aa→TypeId→Prop
 | .int k,id=>P.underlying id=some (.int k)∧lf P id (.int k)
 | .bool,id=>P.underlying id=some .bool∧lf P id .bool
 | .str,id=>P.underlying id=some .string∧lf P id .str
 | .raw,id=>lf P id .raw∧∃e,P.underlying id=some (.slice e)
 | .sl t,id=>lf P id (.sl t)∧∃e,P.underlying id=some (.slice e)∧t.ok P e
 | .st aj,id=>lf P id (.st aj)∧∃cn,P.underlying id=some (.struct cn)∧aj.okF P cn.toList 0
def az.okF(P:Program):az→List Field→Nat→Prop
 | .nil,cn,_=>cn=[]
 | .cons t aj,cn,off=>∃f lg,cn=f :: lg∧f.offset=off∧t.ok P f.type∧aj.okF P lg (off+t.size)
end
def aa.agg:aa→Bool
 | .st _=>true
 | _=>false
theorem aa.ok.info{P:Program}{t:aa}{id:TypeId}(h:t.ok P id):lf P id t:=by
 cases t <;> simp only [aa.ok] at h <;> first | exact h.2 | exact h.1
theorem aa.lh:∀t:aa,t.cI.length=t.size
 | .int _=>rfl
 | .bool=>rfl
 | .str=>rfl
 | .raw=>rfl
 | .sl _=>rfl
 | .st aj=>by
  simp only [aa.cI,aa.size]
  exact go aj
where
 go:∀aj:az,aj.cI.length=aj.size
 | .nil=>rfl
 | .cons t aj=>by simp only [az.cI,az.size,List.length_append,aa.lh t,go aj]
section
variable{P:Program}{t:aa}{id:TypeId}{w:World}
theorem run_underlying{d:TypeDesc}(h:P.underlying id=some d):(underlying id).run P w=.ok d w:=by
 simp [underlying,run_bind,program,Sem.run,h,run_pure]
theorem run_typeInfo{i:TypeInfo}(h:P.info? id=some i):(typeInfo id).run P w=.ok i w:=by
 simp [typeInfo,run_bind,program,Sem.run,h,run_pure]
theorem run_sizeOf(h:t.ok P id):(sizeOf id).run P w=.ok t.size w:=by
 obtain ⟨i,h1,h2,_⟩:=h.info
 simp [sizeOf,run_bind,run_typeInfo h1,run_pure,h2]
theorem BR(h:t.ok P id):(zeroValue id).run P w=.ok (dD t t.cI) w:=by
 obtain ⟨i,h1,_,h3,_⟩:=h.info
 simp [zeroValue,run_bind,run_typeInfo h1,run_pure,h3]
theorem RK(h:t.ok P id):(isAgg id).run P w=.ok t.agg w:=by
 unfold isAgg
 cases t with
 | st aj=>obtain ⟨_,cn,h1,_⟩:=(by simpa only [aa.ok] using h:lf P id (.st aj)∧∃cn,P.underlying id=some (.struct cn)∧aj.okF P cn.toList 0);rw [run_bind,run_underlying h1];rfl
 | sl t=>obtain ⟨_,e,h1,_⟩:=(by simpa only [aa.ok] using h:lf P id (.sl t)∧∃e,P.underlying id=some (.slice e)∧t.ok P e);rw [run_bind,run_underlying h1];rfl
 | raw=>obtain ⟨_,e,h1⟩:=(by simpa only [aa.ok] using h:lf P id .raw∧∃e,P.underlying id=some (.slice e));rw [run_bind,run_underlying h1];rfl
 | int k=>have h1:=(by simpa only [aa.ok] using h:P.underlying id=some (.int k)∧lf P id (.int k));rw [run_bind,run_underlying h1.1];rfl
 | bool=>have h1:=(by simpa only [aa.ok] using h:P.underlying id=some .bool∧lf P id .bool);rw [run_bind,run_underlying h1.1];rfl
 | str=>have h1:=(by simpa only [aa.ok] using h:P.underlying id=some .string∧lf P id .str);rw [run_bind,run_underlying h1.1];rfl
theorem Jy(h:t.agg=false):t.size=1:=by cases t <;> simp_all [aa.agg,aa.size]
theorem Jz(h:t.agg=true)(vs:List Value):dD t vs=.agg vs.toArray:=by cases t <;> simp_all [aa.agg,dD]
theorem JA(h:t.agg=false)(v:Value):dD t [v]=v:=by cases t <;> simp_all [aa.agg,dD]
theorem JB(h:t.ok P id){b o:Nat}{vs:List Value}(hc:b2 w b o vs)(hl:vs.length=t.size):(loadVar id (at_ b o)).run P w=.ok (dD t vs) w:=by
 unfold loadVar
 rw [run_bind,RK h]
 simp only
 cases ha:t.agg
 ·rw [Jy ha] at hl
  match vs,hl with
  | [v],_ =>
   rw [JA ha]
   simp only [Bool.false_eq_true,if_false]
   exact run_load hc.head
 ·simp only [if_true]
  rw [run_bind,run_sizeOf h,← hl]
  simp only
  rw [run_bind,run_loadCells hc,Jz ha]
  rfl
theorem JC{v:Value}(h:dS v=true):v.cells = #[v]:=by cases v <;> simp_all [dS,Value.cells]
theorem JD(h:t.ok P id){b o:Nat}{v:Value}(hl:v.cells.size=t.size)(h1:∀u∈v.cells.toList,dS u=true)(hw:∀i,i<v.cells.size→fa w b (o+i)) :
  (storeVar id (at_ b o) v).run P w=.ok () (setCells w b o v.cells.toList):=by
 unfold storeVar
 rw [run_bind,run_sizeOf h]
 simp only
 rw [if_neg (by simp [hl])]
 have:=By (P:=P) (b:=b) (o:=o) v.cells.toList w 0 h1 (fun i hi=>by simpa using hw i (by simpa using hi))
 simpa using this
theorem RL{e:TypeId}{v:Value} :(newVar e v).run P w=.ok (at_ w.heap.size 0) { w with heap:=w.heap.push (.cells v.cells e) } := by
 simp [newVar,newRow,Go.newObj,run_bind,Sem.run,run_pure,at_]
end
section
variable{w0:World}{F0 Z0:ag}{n:cB}{s aq:al}{a b6:Act}{w w':World}{ι bh:Nat→bC}{Z Z':ag}
theorem rL{t:aa}{x:a'}{cs:List bb}{v:Value}(h:iy t x=some cs)(hv:aT w Z s ι x v):bF w Z s ι cs v.cells.toList:=by
 cases x <;> simp only [iy] at h <;> try (simp at h;done)
 ·obtain rfl:=aX h
  simp only [aT] at hv
  rw [JC hv.dS]
  exact⟨hv,trivial⟩
 ·obtain rfl:=aX h
  simp only [aT] at hv
  obtain ⟨vs,rfl,hc⟩:=hv
  simpa [Value.cells] using hc
 ·cases t <;> simp at h
  subst h
  simp only [aT] at hv
  subst hv
  exact⟨rfl,trivial⟩
theorem oV{t:aa}{x:a'}{cs:List bb}{vs:List Value}(h:jT t cs=some x)(hc:bF w Z s ι cs vs):aT w Z s ι x (dD t vs):=by
 cases t with
 | st aj=>simp only [jT] at h;obtain rfl:=aX h;simp only [aT,dD];exact⟨vs,rfl,hc⟩
 | _ =>
  simp only [jT] at h
  match cs,vs,hc with
  | [],[],_=>simp at h
  | [c],[v],hc=>simp at h;subst h;simp only [aT,dD];exact hc.1
  | _ :: _ :: _,_,_=>simp at h
theorem rM:∀t:aa,bF w Z s ι t.jd t.cI
 | .int _=>⟨rfl,trivial⟩
 | .bool=>⟨rfl,trivial⟩
 | .str=>⟨⟨_,rfl,rfl⟩,trivial⟩
 | .raw=>⟨⟨rfl,_,_,_,rfl⟩,trivial⟩
 | .sl _=>⟨rfl,trivial⟩
 | .st aj=>by simp only [aa.jd,aa.cI];exact go aj
where
 go:∀aj:az,bF w Z s ι aj.jd aj.cI
 | .nil=>trivial
 | .cons t aj=>by simp only [az.jd,az.cI];exact(rM t).append (go aj)
theorem JE{t:aa}{vs:List Value}(hl:vs.length=t.size)(h1:∀v∈vs,dS v=true):(dD t vs).cells.toList=vs:=by
 cases ha:t.agg
 ·rw [Jy ha] at hl
  match vs,hl with
  | [v],_=>rw [JA ha,JC (h1 v (by simp))]
 ·rw [Jz ha];simp [Value.cells]
theorem Inv.newVar(h:Inv w0 F0 Z0 n s a w ι Z){id:Nat}(cd:s.o id=.none){cs:List bb}{vs:Array Value}(hc:bF w Z s ι cs vs.toList)(e:TypeId) :
  Inv w0 F0 Z0 n (s.bL id (.var 0 cs)) a { w with heap:=w.heap.push (.cells vs e) } (bP ι id ⟨some (at_ w.heap.size 0),0,ag.run w.heap.size 0 cs.length⟩) Z:=by
 have hx:=Ext.push w (.cells vs e) ag.none
 have hm:=Ry h cd hx (.var 0 cs) ⟨some (at_ w.heap.size 0),0,ag.run w.heap.size 0 cs.length⟩
 have hl:=hc.len
 refine h.new cd hx ?_ ?_
 ·refine⟨at_ w.heap.size 0,vs.toList,rfl,rfl,hc.move hm,?_,fun j hj=>⟨⟨?_,?_⟩,rfl,by simp [at_],by simpa [at_] using hj⟩⟩
  ·intro i v hv
   show World.cell? _ (at_ w.heap.size (0+i))=_
   rw [Rt];simpa using hv
  ·refine⟨vs[j]'(by simp at hl;omega),?_⟩
   show World.cell? _ (at_ w.heap.size (0+j))=_
   rw [Rt];simp
  ·show World.frozen? _ (at_ w.heap.size (0+j))=_
   rw [p1,Rs];simp
 ·rintro b o ⟨rfl,_,_⟩;simp
end
end Go.LM
