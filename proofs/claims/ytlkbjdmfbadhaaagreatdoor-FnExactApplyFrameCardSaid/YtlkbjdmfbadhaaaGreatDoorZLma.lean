/- The data and the interpreter of the reflective walk, and how its states stand for frames and worlds. Conditions: each theorem's own hypotheses. -/
import Derived.Calls
import Derived.KernelRfl
import Derived.Orders
set_option linter.unusedVariables false
set_option linter.defProp false
set_option linter.unusedSimpArgs false
namespace Go.LM
def ay.{d}{α:Sort d}(a b:α):(bif false then a else b)=b:=cond_false a b
def au.{d}{α:Sort d}(a b:α):(bif true then a else b)=a:=cond_true a b
def bs(a b:Bool):((a && b)=true)=(a=true/\b=true):=Bool.and_eq_true a b
def bZ.{u}{α:Type u}{as a:List α}:(as++a).length=as.length+a.length:=List.length_append
def b2.{u}{α:Type u}{a:α}{as:List α}:(a::as).length=as.length+1:=List.length_cons
def bW{p:Prop}[Decidable p]:¬p->decide p=false:=decide_eq_false
def bJ:(!true)=false:=Bool.not_true
def bR{p:Prop}[inst:Decidable p]:p->decide p=true:=decide_eq_true
def bL.{u}{α:Type u}{as:List α}{i:Nat}{a:α}:(as.set i a).length=as.length:=List.length_set
def cG{n m:Nat}:n.beq m=true->n=m:=Nat.eq_of_beq_eq_true
def bu(n:Nat):n<=n:=Nat.le_refl n
def cQ.{u}{α:Type u}(val a:α):(some val=some a)=(val=a):=Option.some.injEq val a
def bE(n:Nat):0+n=n:=Nat.zero_add n
def c3{n m:Nat}(k:Nat)(h:n<=m):n*k<=m*k:=Nat.mul_le_mul_right k h
def cR:(!false)=true:=Bool.not_false
def cU.{u}{α:Type u}:([]:List α).length=0:=List.length_nil
def cw{n m k:Nat}:n<=m->m<=k->n<=k:=Nat.le_trans
def dW.{u}{α:Type u}(as a cs:List α):as++a++cs=as++(a++cs):=List.append_assoc as a cs
def de(n m:Nat):(n+1)*m=n*m+m:=Nat.add_one_mul n m
def cz(n:Nat):n+0=n:=Nat.add_zero n
def bd.{u}{c:Prop}{h:Decidable c}(a:¬c){α:Sort u}{t e:α}:(if c then t else e)=e:=if_neg a
def dn.{u}{α:Type u}(as:List α):as++[]=as:=List.append_nil as
def hD.{a}{α:Type a}{i:Nat}{l:List α}(h:i<l.length):List.take (i+1) l=List.take i l++[l[i]]:=List.take_succ_eq_append_getElem h
def fc{n m:Nat}(h:n.ble m=true):n<=m:=Nat.le_of_ble_eq_true h
def bg.{u}{c:Prop}{h:Decidable c}(hc:c){α:Sort u}{t e:α}:(if c then t else e)=t:=if_pos hc
def ei{p:Prop}[Decidable p]:(decide p=true)=p:=decide_eq_true_eq
def dh.{u, v}{α:Type u}{b:Type v}{f:α->b}{a:α}{l:List α}:List.map f (a::l)=f a::List.map f l:=List.map_cons
def eT(b:Bool):((!b)=true)=(b=false):=Bool.not_eq_true' b
def dX.{a}{α:Type a}{i:Nat}{l:List α}:(List.take i l).length=min i l.length:=List.length_take
def hH{p:Prop}{a:Decidable p}:decide p=false↔¬p:=decide_eq_false_iff_not
def eG.{b}{α:Type b}[BEq α][LawfulBEq α](a:α):(a != a)=false:=bne_self_eq_false a
def dQ(n m k:Nat):n+m+k=n+(m+k):=Nat.add_assoc n m k
def gp.{a}{α:Type a}{i:Nat}{l:List α}(h:l.length<=i):List.drop i l=[]:=List.drop_of_length_le h
def fe.{b, d}{α:Type b}{e:Type d}(a:α)(f:α->e):Option.map f (some a)=some (f a):=Option.map_some a f
def da(a b c:Int):a+b+c=a+(b+c):=Int.add_assoc a b c
def gq:(false=true)=False:=Bool.false_eq_true
def gS.{b}{α:Type b}(y:α){a:α}{l:List α}:a ∈ l->a ∈ y::l:=List.mem_cons_of_mem y
def kG.{d}{α:Type d}{a b:α}:a ∈ [b]↔a=b:=List.mem_singleton
def eM.{u}{α:Type u}[Add α][Zero α]{a:α}{l:List α}:(a::l).sum=a+l.sum:=List.sum_cons
def gT.{b}{α:Type b}{a:α}{l:List α}:a ∈ a::l:=List.mem_cons_self
def gr.{a}{α:Type a}{x:α}{xs:List α}{p:α->Bool}:List.filter p (x::xs)=if p x=true then x::List.filter p xs else List.filter p xs:=List.filter_cons
def gU.{u}{α:Type u}{x:α}{xs:List α}:(x::xs).isEmpty=false:=List.isEmpty_cons
def dL.{d}{α:Type d}(a:α){b:α}{l:List α}{i:Nat}:(l.set i a).set i b=l.set i b:=List.set_set a
def jD.{d}{α:Type d}[BEq α][LawfulBEq α]{a b:α}:(a == b)=false↔a ≠ b:=beq_eq_false_iff_ne
def ji{x y:Bool}:(x && y)=false↔x=false\/y=false:=Bool.and_eq_false_iff
def fJ.{b}{α:Type b}[BEq α][ReflBEq α](a:α):(a == a)=true:=beq_self_eq_true a
def fS.{a}{α:Type a}{i:Nat}{l:List α}:(List.drop i l).length=l.length - i:=List.length_drop
def kf.{a}{α:Type a}{i:Nat}{l:List α}(h:i<l.length):List.drop i l=l[i]::List.drop (i+1) l:=List.drop_eq_getElem_cons h
def lq.{a}{b:Type a}{l:List b}:l.length=0->l=[]:=List.eq_nil_of_length_eq_zero
def fj.{u, v}{α:Type u}{d:Type v}(fst:α)(snd:d)(a:α)(b:d):((fst, snd)=(a, b))=(fst=a/\snd=b):=Prod.mk.injEq fst snd a b
def iD(n m:Nat):n+m - m=n:=Nat.add_sub_cancel n m
def ff(n m:Nat):n<m\/n ≥ m:=Nat.lt_or_ge n m
def ia.{a}{α:Type a}{l:List α}:List.take l.length l=l:=List.take_length
def gI(b:Bool):(true && b)=b:=Bool.true_and b
def jE.{u}{α:Type u}{a:α}:[a].length=1:=List.length_singleton
def lr.{a}{α:Type a}(p:α->Bool)(l:List α):(List.filter p l).length<=l.length:=List.length_filter_le p l
def mX{p:Prop}[dec:Decidable p](h:¬p->False):p:=Decidable.byContradiction h
def jF.{u}{α:Type u}{a:α}{as b:List α}:a::as++b=a::(as++b):=List.cons_append
def jG(b:Bool):(¬b=true)=(b=false):=Bool.not_eq_true b
def gV.{u}{α:Type u}{l:List α}:List.drop 0 l=l:=List.drop_zero
def jH.{u}{α:Type u}(as:List α):[]++as=as:=List.nil_append as
def jI.{u}{α:Type u}(head:α)(tail:List α)(a:α)(b:List α):(head::tail=a::b)=(head=a/\tail=b):=List.cons.injEq head tail a b
def jj{a b:Bool}:a=b↔(a=true↔b=true):=Bool.eq_iff_iff
def jW{n m k:Nat}:n<m->m<=k->n<k:=Nat.lt_of_lt_of_le
def kH.{d}{a:Type d}{l:List a}{b:List (List a)}:(l::b).flatten=l++b.flatten:=List.flatten_cons
def q'.{a}{α:Type a}{p:α->Bool}{l:List α}:List.takeWhile p l++List.dropWhile p l=l:=List.takeWhile_append_dropWhile
def lu.{a}{α:Type a}{xs:Array α}:xs.toList.length=xs.size:=Array.length_toList
def kg.{a, b}{α:Type a}{d:Type b}{f:α->d}{l₁ l₂:List α}:List.map f (l₁++l₂)=List.map f l₁++List.map f l₂:=List.map_append
def hI.{d}{α:Type d}[BEq α][LawfulBEq α]{a b:α}:(a == b)=true↔a=b:=beq_iff_eq
def nX{n m:Nat}:n.beq m=false->¬n=m:=Nat.ne_of_beq_eq_false
def jk(b:Bool):(b && b)=b:=Bool.and_self b
def l_(n:Nat):n=0\/n > 0:=Nat.eq_zero_or_pos n
def nY(x w:Nat):(BitVec.ofNat w x).toNat=x%2^w:=BitVec.toNat_ofNat x w
def kI(a b:Bool):((a || b)=true)=(a=true\/b=true):=Bool.or_eq_true a b
def fT.{a}{α:Sort a}{b:Decidable False}(t e:α):(if False then t else e)=e:=if_false t e
def fK(p:Prop):(p/\True)=p:=and_true p
def mY{a b:Nat}(h:a<b):a%b=a:=Nat.mod_eq_of_lt h
def kJ(b:Bool):(b && true)=b:=Bool.and_true b
def pz{l₁ l₂:List Nat}:(l₁++l₂).sum=l₁.sum+l₂.sum:=List.sum_append_nat
def ma(b:Bool):(false && b)=false:=Bool.false_and b
def pA.{b}{a:Type b}{x:a}{l:List a}:[x]++l=x::l:=List.singleton_append
def ra.{u}{α:Type u}{n:Nat}{a:α}:(List.replicate n a).length=n:=List.length_replicate
def jJ(n m k:Nat):(n+m)*k=n*k+m*k:=Nat.add_mul n m k
def nZ(n:Nat):0<n.succ:=Nat.zero_lt_succ n
def n0(n k:Nat):n<=n+k:=Nat.le_add_right n k
def mb(n:Nat):n - 0=n:=Nat.sub_zero n
def mc(n:Nat):0<=n:=Nat.zero_le n
def me(a:Int):a<=a:=Int.le_refl a
def n1(n:Nat):¬n<n:=Nat.lt_irrefl n
def ed(n:Nat):((n:Nat):Int).toNat=n:=Int.toNat_natCast n
def ag.{u,v}{α:Type u}{b:Type v}(a:α)(f:α->Option b):(some a).bind f=f a:=rfl
def aS.{u}{α:Type u}{a b:α}(h:some a=some b):a=b:=_root_.Option.some.inj h
def a6.{u,v}{α:Type u}{d:Type v}{o:Option α}{f:α->Option d}{b:d}(h:o.bind f=some b):∃a,o=some a/\f a=some b:=_root_.Option.bind_eq_some_iff.1 h
mutual
inductive U where
 |int (k:IntKind)
 |bool
 |str
 |sl (t:U)
 |st (ah:aw)
 |raw
inductive aw where
 |nil
 |cons (t:U) (ah:aw)
end
mutual
@[reducible] def U.D:U->Type
 |.int _=>Int
 |.bool=>Bool
 |.str=>List UInt8
 |.sl t=>List t.D
 |.st ah=>ah.D
 |.raw=>Value
@[reducible] def aw.D:aw->Type
 |.nil=>Unit
 |.cons t ah=>t.D×ah.D
end
def df:IntKind->Nat
 |.i8=>0|.i16=>1|.i32=>2|.i64=>3|.u8=>4|.u16=>5|.u32=>6|.u64=>7
def rb:∀{a b:IntKind},df a=df b->a=b:=by intro a b;cases a<;>cases b<;>simp[df]
mutual
def U.beq:U->U->Bool
 |.int a,.int b=>Nat.beq (df a) (df b)
 |.bool,.bool=>true
 |.str,.str=>true
 |.sl a,.sl b=>U.beq a b
 |.st a,.st b=>aw.beq a b
 |.raw,.raw=>true
 |_,_=>false
def aw.beq:aw->aw->Bool
 |.nil,.nil=>true
 |.cons a as,.cons b d=>cond (U.beq a b) (aw.beq as d) false
 |_,_=>false
end
mutual
def U.eq_of_beq:∀(a b:U),U.beq a b=true->a=b
 |.int a,.int b,h=>by simp only[U.beq]at h;rw[rb (cG h)]
 |.bool,.bool,_=>rfl
 |.str,.str,_=>rfl
 |.sl a,.sl b,h=>by simp only[U.beq]at h;rw[U.eq_of_beq a b h]
 |.st a,.st b,h=>by simp only[U.beq]at h;rw[aw.eq_of_beq a b h]
 |.raw,.raw,_=>rfl
 |.int _,.bool,h|.int _,.str,h|.int _,.sl _,h|.int _,.st _,h|.int _,.raw,h=>by simp[U.beq]at h
 |.bool,.int _,h|.bool,.str,h|.bool,.sl _,h|.bool,.st _,h|.bool,.raw,h=>by simp[U.beq]at h
 |.str,.int _,h|.str,.bool,h|.str,.sl _,h|.str,.st _,h|.str,.raw,h=>by simp[U.beq]at h
 |.sl _,.int _,h|.sl _,.bool,h|.sl _,.str,h|.sl _,.st _,h|.sl _,.raw,h=>by simp[U.beq]at h
 |.st _,.int _,h|.st _,.bool,h|.st _,.str,h|.st _,.sl _,h|.st _,.raw,h=>by simp[U.beq]at h
 |.raw,.int _,h|.raw,.bool,h|.raw,.str,h|.raw,.sl _,h|.raw,.st _,h=>by simp[U.beq]at h
def aw.eq_of_beq:∀(a b:aw),aw.beq a b=true->a=b
 |.nil,.nil,_=>rfl
 |.cons a as,.cons b d,h=>by
  simp only[aw.beq]at h;cases hb:U.beq a b
  ·rw[hb]at h;simp at h
  ·rw[hb]at h;rw[U.eq_of_beq a b hb,aw.eq_of_beq as d h]
 |.nil,.cons _ _,h|.cons _ _,.nil,h=>by simp[aw.beq]at h
end
def ej(a b:U)(x:a.D):Option b.D:=
 if h:U.beq a b=true then some ((U.eq_of_beq a b h)▸x) else none
def y7{a b:U}{x:a.D}{y:b.D}(h:ej a b x=some y):∃e:a=b,y=e▸x:=by
 unfold ej at h;split at h
 ·rename_i hb;exact⟨U.eq_of_beq a b hb,by injection h with h;exact h.symm⟩
 ·simp at h
mutual
def U.size:U->Nat
 |.st ah=>ah.size
 |_=>1
def aw.size:aw->Nat
 |.nil=>0
 |.cons t ah=>t.size+ah.size
end
mutual
def U.zero:(t:U)->t.D
 |.int _=>(0:Int)
 |.bool=>false
 |.str=>([]:List UInt8)
 |.sl t=>([]:List t.D)
 |.st ah=>ah.zero
 |.raw=>(.slice none 0 0:Value)
def aw.zero:(ah:aw)->ah.D
 |.nil=>()
 |.cons t ah=>(t.zero,ah.zero)
end
mutual
inductive a8 where
 |R
 |O (e:a8)
 |S (ms:cA)
inductive cA where
 |nil
 |cons (m:a8) (ms:cA)
end
mutual
def a8.beq:a8->a8->Bool
 |.R,.R=>true
 |.O a,.O b=>a8.beq a b
 |.S a,.S b=>cA.beq a b
 |_,_=>false
def cA.beq:cA->cA->Bool
 |.nil,.nil=>true
 |.cons a as,.cons b d=>cond (a8.beq a b) (cA.beq as d) false
 |_,_=>false
end
mutual
def a8.eq_of_beq:∀(a b:a8),a8.beq a b=true->a=b
 |.R,.R,_=>rfl
 |.O a,.O b,h=>by simp only[a8.beq]at h;rw[a8.eq_of_beq a b h]
 |.S a,.S b,h=>by simp only[a8.beq]at h;rw[cA.eq_of_beq a b h]
 |.R,.O _,h|.R,.S _,h|.O _,.R,h|.O _,.S _,h|.S _,.R,h|.S _,.O _,h=>by simp[a8.beq]at h
def cA.eq_of_beq:∀(a b:cA),cA.beq a b=true->a=b
 |.nil,.nil,_=>rfl
 |.cons a as,.cons b d,h=>by
  simp only[cA.beq]at h;cases hb:a8.beq a b
  ·rw[hb]at h;simp at h
  ·rw[hb]at h;rw[a8.eq_of_beq a b hb,cA.eq_of_beq as d h]
 |.nil,.cons _ _,h|.cons _ _,.nil,h=>by simp[cA.beq]at h
end
def a8.elem:a8->a8
 |.O e=>e
 |_=>.R
def cA.aa:cA->a8
 |.cons m _=>m
 |.nil=>.R
def cA.dq:cA->cA
 |.cons _ ms=>ms
 |.nil=>.nil
def a8.parts:a8->cA
 |.S ms=>ms
 |_=>.nil
structure Place where
 id:Nat
 eH:Option Nat
 off:Nat
inductive a7 where
 |int (k:IntKind) (x:Int)
 |bool (b:Bool)
 |str (s:List UInt8)
 |raw (v:Value)
 |nil (t:U)
 |bq (t:U) (alP:List (Nat×Nat)) (alQ:Option Place) (xs:List t.D)
 |aa (id:Nat) (sub:Option (Nat×Nat))
inductive aY where
 |bf
 |gone
 |aP (c:a7)
 |hJ (cs:List a7)
 |ptr (p:Place)
 |c2 (dp:List (Nat×Nat)) (cs:List a7) (off:Nat)
 |jl
 |jX
 |opt (id:Nat) (o:Int)
 |pB (t:U)
 |may (b:Bool) (dp:List (Nat×Nat)) (cs:List a7)
 |fn (f:FuncId) (first kh:List aY)
 |mZ (l:List aY)
inductive b9 where
 |none
 |dead
 |var (ver:Nat) (cs:List a7)
 |row (t:U) (em:a8) (ver:Nat) (xs:List t.D)
 |b7 (o:b9)
 |hole (t:U) (em:a8) (ver:Nat) (xs:List t.D) (k:Nat)
def b9.core:b9->b9
 |.b7 (.hole t em ver xs _)=>.row t em ver xs
 |.b7 o=>o
 |.hole t em ver xs _=>.row t em ver xs
 |o=>o
structure av where
 t:Nat->aY
 o:Nat->b9
 g:List aY
def bF{α:Type}(f:Nat->α)(i:Nat)(v:α):Nat->α :=fun j=>cond (Nat.beq j i) v (f j)
def b6{α:Type}(f:Nat->α)(i:Nat)(v:α):bF f i v i=v:=by simp[bF]
def pC{α:Type}{f:Nat->α}{i j:Nat}{v:α}(h:j≠i):bF f i v j=f j:=by
 unfold bF
 have:Nat.beq j i=false:=by
  cases hb:Nat.beq j i
  ·rfl
  ·exact absurd (cG hb) h
 rw[this];rfl
def av.set(s:av)(d:Nat)(v:aY):av:=⟨bF s.t d v,s.o,s.g⟩
def av.bA(s:av)(i:Nat)(v:b9):av:=⟨s.t,bF s.o i v,s.g⟩
def av.dst(s:av)(d:Option Nat)(v:aY):av:=
 match d with
 |some d=>s.set d v
 |none=>s
mutual
def U.cells:(t:U)->List (Nat×Nat)->Option Place->t.D->List a7
 |.int k,_,_,x=>[.int k x]
 |.bool,_,_,x=>[.bool x]
 |.str,_,_,x=>[.str x]
 |.sl t,dp,a,x=>[.bq t dp a x]
 |.st ah,dp,a,x=>ah.cells dp a x
 |.raw,_,_,x=>[.raw x]
def aw.cells:(ah:aw)->List (Nat×Nat)->Option Place->ah.D->List a7
 |.nil,_,_,_=>[]
 |.cons t ah,dp,a,x=>t.cells dp a x.1++ah.cells dp (a.map fun p=> { p with off:=p.off+t.size }) x.2
end
mutual
def U.iE:U->List a7
 |.int k=>[.int k 0]
 |.bool=>[.bool false]
 |.str=>[.str []]
 |.sl t=>[.nil t]
 |.st ah=>ah.iE
 |.raw=>[.raw (.slice none 0 0)]
def aw.iE:aw->List a7
 |.nil=>[]
 |.cons t ah=>t.iE++ah.iE
end
mutual
def U.own:U->a8
 |.sl t=>.O t.own
 |.st ah=>if ah.flat then .R else .S ah.own
 |_=>.R
def aw.own:aw->cA
 |.nil=>.nil
 |.cons t ah=>.cons t.own ah.own
def U.flat:U->Bool
 |.sl _=>false
 |.st ah=>ah.flat
 |_=>true
def aw.flat:aw->Bool
 |.nil=>true
 |.cons t ah=>cond t.flat ah.flat false
end
def a8.le(a b:a8):Bool:=
 match b with
 |.R=>true
 |_=>a8.beq a b
end Go.LM
namespace Go.LM
def room(n:Nat):Bool:=Nat.ble n 68719476736
def iV{bn:Type}(b:Bool)(x:Option bn):Option bn:=cond b x none
def ax(n:Nat)(i:Int):Option Nat:=if 0<=i/\i<(n:Int) then some i.toNat else none
def cZ(n:Nat)(lo a:Int):Option (Nat×Nat):=if 0<=lo/\lo<=a/\a<=(n:Int) then some (lo.toNat,a.toNat) else none
def I(t:U)(xs:List t.D)(n:Nat):t.D:=xs.getD n t.zero
def part{α:Type}(l:List α)(lo len:Nat):List α :=(l.drop lo).take len
def aj(x:Int):Int:=IntKind.wrap .i64 x
def cJ(op:BinOp)(k:IntKind)(x y:Int):Int:=
 let a:=BitVec.ofInt k.bits x
 let b:=BitVec.ofInt k.bits y
 match op with
 |.and=>k.wrap (a &&& b).toNat
 |.or=>k.wrap (a ||| b).toNat
 |.xor=>k.wrap (a ^^^ b).toNat
 |_=>k.wrap (a &&& ~~~b).toNat
def bm(x y:List UInt8):Bool:=decide (x=y)
def dr(x y:List UInt8):Bool:=Op.bytesLess x y
def YV(x y:Int):Int:=if y>x then y else x
def iW(x y:Int):Int:=if y<x then y else x
def eg(s:List UInt8):List Int:=s.map fun b=>(b.toNat:Int)
def ek(l:List Int):List UInt8:=l.map fun n=>UInt8.ofNat n.toNat
inductive bt where
 |val (t:U) (m:a8)
 |ref (t:U)
 |mut (t:U) (m m':a8)
 |gu (t:U) (m:a8)
 |fn (kK m0:Nat)
 |gJ (t:U)
inductive cN where
 |val (t:U) (m:a8)
 |opt (arg off:Nat) (t:U)
 |new (t:U) (m:a8)
 |m1 (t:U)
 |any (t:U)
def bt.ins:List bt->aw
 | []=>.nil
 |.val t _::l|.ref t::l|.mut t _ _::l|.gu t _::l|.gJ t::l=>.cons t (bt.ins l)
 |.fn _ _::l=>bt.ins l
def cN.outs:List cN->aw->aw
 | [],ah=>ah
 |.val t _::l,ah=>.cons t (cN.outs l ah)
 |.new t _::l,ah=>.cons t (cN.outs l ah)
 |.m1 t::l,ah=>.cons (.sl t) (cN.outs l ah)
 |.any _::l,ah=>cN.outs l ah
 |.opt _ _ _::l,ah=>.cons (.int .i64) (cN.outs l ah)
def bt.dP:List bt->aw
 | []=>.nil
 |.mut t _ _::l|.gu t _::l=>.cons t (bt.dP l)
 |_::l=>bt.dP l
structure Entry where
 ps:List bt
 rs:List cN
 f:(bt.ins ps).D->Option (cN.outs rs (bt.dP ps)).D
structure Env where
 n:Nat
 ty:Nat->Option U
 GQ:Nat->Bool
 re:Nat->Bool
 fns:FuncId->FuncId->Option Entry
def jY{α:Type}(sub:Option (Nat×Nat))(xs:List α):List α :=
 match sub with
 |none=>xs
 |some (a,len)=>part xs a len
def iF{α:Type}(sub:Option (Nat×Nat))(xs:List α):Nat:=
 match sub with
 |none=>xs.length
 |some (_,len)=>len
def dz(sub:Option (Nat×Nat)):Nat:=
 match sub with
 |none=>0
 |some (a,_)=>a
def alive(s:av):List (Nat×Nat)->Bool
 | []=>true
 |(i,v)::l=>match s.o i with
  |.row _ _ w _=>cond (Nat.beq w v) (alive s l) false
  |.var w _=>cond (Nat.beq w v) (alive s l) false
  |_=>false
def jK(s:av)(id:Nat):Nat:=
 match s.o id with
 |.row _ _ v _=>v
 |.var v _=>v
 |.b7 (.row _ _ v _)=>v
 |.hole _ _ v _ _=>v
 |.b7 (.hole _ _ v _ _)=>v
 |.b7 (.var v _)=>v
 |_=>0
def m2(s:av)(t:U):a7->Option (List t.D)
 |.nil a=>ej (.sl a) (.sl t) ([]:List a.D)
 |.bq a dp _ xs=>cond (alive s dp) (ej (.sl a) (.sl t) xs) none
 |.aa id sub=>match s.o id with
  |.row a _ _ xs=>ej (.sl a) (.sl t) (jY sub xs)
  |_=>none
 |_=>none
def borrows(s:av):a7->List (Nat×Nat)
 |.aa id _=>match s.o id with
  |.row _ _ v _=>[(id,v)]
  |_=>[]
 |.bq _ dp _ _=>dp
 |_=>[]
mutual
def U.imp:(t:U)->(b:Bool)->a8->List a7->av->List (Nat×Nat)->Option (t.D×List a7×av×List (Nat×Nat))
 |.int k,_,_,.int k' x::cs,s,a=>cond (Nat.beq (df k) (df k')) (some (x,cs,s,a)) none
 |.bool,_,_,.bool x::cs,s,a=>some (x,cs,s,a)
 |.str,_,_,.str x::cs,s,a=>some (x,cs,s,a)
 |.raw,_,_,.raw x::cs,s,a=>some (x,cs,s,a)
 |.sl t,b,.O e,c::cs,s,a=>match c with
  |.nil d=>(ej (.sl d) (.sl t) ([]:List d.D)).bind fun x=>some (x,cs,s,a)
  |.aa id sub=>match s.o id with
   |.row d em _ xs=>cond (a8.le em e) ((ej (.sl d) (.sl t) (jY sub xs)).bind fun x=>some (x,cs,s.bA id .dead,a)) none
   |_=>none
  |_=>none
 |.sl t,true,_,c::cs,s,a=>(m2 s t c).bind fun x=>some (x,cs,s,borrows s c++a)
 |.sl t,false,_,c::cs,s,a=>match c with
  |.nil d=>(ej (.sl d) (.sl t) ([]:List d.D)).bind fun x=>some (x,cs,s,a)
  |.bq d [] _ xs=>(ej (.sl d) (.sl t) xs).bind fun x=>some (x,cs,s,a)
  |.aa id sub=>match s.o id with
   |.row d _ _ xs=>(ej (.sl d) (.sl t) (jY sub xs)).bind fun x=>some (x,cs,s.bA id .dead,a)
   |_=>none
  |_=>none
 |.st ah,b,m,cs,s,a=>ah.imp b m.parts cs s a
 |_,_,_,_,_,_=>none
def aw.imp:(ah:aw)->(b:Bool)->cA->List a7->av->List (Nat×Nat)->Option (ah.D×List a7×av×List (Nat×Nat))
 |.nil,_,_,cs,s,a=>some ((),cs,s,a)
 |.cons t ah,b,m,cs,s,a=>(t.imp b m.aa cs s a).bind fun r=>(ah.imp b m.dq r.2.1 r.2.2.1 r.2.2.2).bind fun q=>some ((r.1,q.1),q.2)
end
mutual
def U.put:(t:U)->a8->t.D->Nat->List a7->av->Option (t.D×List a7×av)
 |t,m,x,skip,cs,s=>
  match cs with
  | []=>some (x,[],s)
  |c::cs'=>
   cond (Nat.beq skip 0&&Nat.ble t.size (cs'.length+1)) ((t.imp false m (c::cs') s []).bind fun r=>some (r.1,r.2.1,r.2.2.1))
    (match t,x with
     |.st ah,x=>ah.put m.parts x skip (c::cs') s
     |_,_=>none)
def aw.put:(ah:aw)->cA->ah.D->Nat->List a7->av->Option (ah.D×List a7×av)
 |.nil,_,_,_,cs,s=>some ((),cs,s)
 |.cons t ah,m,x,skip,cs,s=>
  cond (Nat.ble t.size skip) ((ah.put m.dq x.2 (skip-t.size) cs s).bind fun q=>some ((x.1,q.1),q.2))
   ((t.put m.aa x.1 skip cs s).bind fun r=>(ah.put m.dq x.2 0 r.2.1 r.2.2).bind fun q=>some ((r.1,q.1),q.2))
end
mutual
def U.gv:(t:U)->a8->List (Nat×Nat)->t.D->av->Nat->Option (List a7×av×Nat)
 |.int k,_,_,x,s,j=>some ([.int k x],s,j)
 |.bool,_,_,x,s,j=>some ([.bool x],s,j)
 |.str,_,_,x,s,j=>some ([.str x],s,j)
 |.raw,_,_,x,s,j=>some ([.raw x],s,j)
 |.sl t,.O e,dp,x,s,j=>cond (dp.isEmpty||a8.beq e t.own) (match s.o j with
  |.none=>some ([.aa j none],s.bA j (.row t e 0 x),j+1)
  |_=>none) none
 |.sl t,_,dp,x,s,j=>some ([.bq t dp none x],s,j)
 |.st ah,m,dp,x,s,j=>ah.gv m.parts dp x s j
def aw.gv:(ah:aw)->cA->List (Nat×Nat)->ah.D->av->Nat->Option (List a7×av×Nat)
 |.nil,_,_,_,s,j=>some ([],s,j)
 |.cons t ah,m,dp,x,s,j=>(t.gv m.aa dp x.1 s j).bind fun r=>(ah.gv m.dq dp x.2 r.2.1 r.2.2).bind fun q=>some (r.1++q.1,q.2)
end
def cA.OJ:cA->Bool
 |.nil=>true
 |.cons .R ms=>ms.OJ
 |_=>false
mutual
def U.wb:(t:U)->av->List a7->a8×List a7
 |.sl t,s,c::cs=>(match c with
  |.nil _=>.O t.own
  |.aa id _=>match s.o id with
   |.row _ em _ _=>.O em
   |_=>.R
  |_=>.R,cs)
 |.st ah,s,cs=>cond ah.flat (.R,cs.drop ah.size) (let r:=ah.wb s cs;(cond r.1.OJ .R (.S r.1),r.2))
 |_,_,cs=>(.R,cs.drop 1)
def aw.wb:(ah:aw)->av->List a7->cA×List a7
 |.nil,_,cs=>(.nil,cs)
 |.cons t ah,s,cs=>let r:=t.wb s cs;let q:=ah.wb s r.2;(.cons r.1 q.1,q.2)
end
def takeN(off n:Nat)(cs:List a7):Option (List a7):=
 cond (Nat.ble (off+n) cs.length) (some (part cs off n)) none
def y8(t:U)(em:a8)(id ver i:Nat)(x:t.D):List a7:=
 match em with
 |.R=>t.cells [] none x
 |_=>t.cells [(id,ver)] (some ⟨id,some i,0⟩) x
def kL(s:av)(n:Nat)(p:Place):Option (List a7):=
 match s.o p.id,p.eH with
 |.var _ cs,none=>takeN p.off n cs
 |.row t em ver xs,some i=>takeN p.off n (y8 t em p.id ver i (I t xs i))
 |_,_=>none
def y9(s:av)(p:Place)(cs:List a7):Option av:=
 match s.o p.id,p.eH with
 |.var ver old,none=>cond (Nat.ble (p.off+cs.length) old.length) (some (s.bA p.id (.var (ver+1) (old.take p.off++cs++old.drop (p.off+cs.length))))) none
 |.row t em ver xs,some i=>
  cond (Nat.ble (p.off+cs.length) t.size) ((t.put em (I t xs i) p.off cs s).bind fun r=>
   match r.2.1,r.2.2.o p.id with
   | [],.row _ _ _ _=>some (r.2.2.bA p.id (.row t em (ver+1) (xs.set i r.1)))
   |_,_=>none) none
 |_,_=>none
def iX(t:U)(cs:List a7):Option aY:=
 match t with
 |.st _=>some (.hJ cs)
 |_=>match cs with
  | [c]=>some (.aP c)
  |_=>none
def ib(t:U):aY->Option (List a7)
 |.aP c=>some [c]
 |.hJ cs=>some cs
 |.jX=>match t with
  |.sl a=>some [.nil a]
  |_=>none
 |_=>none
def GR:Value->aY
 |.int k n=>.aP (.int k n)
 |.bool b=>.aP (.bool b)
 |.string b=>.aP (.str b.data.toList)
 |.slice none 0 0=>.jX
 |.pointer none=>.jl
 |_=>.bf
def bP(s:av):Operand->aY
 |.tmp t=>s.t t
 |.const v=>GR v
 |.func f=>.fn f [] []
 |.global _=>.bf
def typed(E:Env)(t:Nat):aY->Option aY
 |.bf=>none
 |.gone=>none
 |.jX=>match E.ty t with
  |some (.sl a)=>some (.aP (.nil a))
  |_=>none
 |v=>some v
def iY:aY->Option Int
 |.aP (.int _ n)=>some n
 |_=>none
end Go.LM
namespace Go.LM
def mf(s:av):a7->Option Nat
 |.nil _=>some 0
 |.bq _ dp _ xs=>cond (alive s dp) (some xs.length) none
 |.aa id sub=>match s.o id with
  |.row _ _ _ xs=>some (iF sub xs)
  |_=>none
 |.str x=>some x.length
 |_=>none
mutual
def U.cmp:U->List a7->List a7->Option (Bool×List a7×List a7)
 |.int k,.int e x::a,.int k2 d::b=>cond (Nat.beq (df e) (df k)&&Nat.beq (df k2) (df k)) (some (x==d,a,b)) none
 |.bool,.bool x::a,.bool d::b=>some (x==d,a,b)
 |.str,.str x::a,.str d::b=>some (bm x d,a,b)
 |.st ah,a,b=>ah.cmp a b
 |_,_,_=>none
def aw.cmp:aw->List a7->List a7->Option (Bool×List a7×List a7)
 |.nil,a,b=>some (true,a,b)
 |.cons t ah,a,b=>(t.cmp a b).bind fun r=>(ah.cmp r.2.1 r.2.2).bind fun q=>some (r.1&&q.1,q.2)
end
def y_(op:BinOp)(k:IntKind)(x y:Int):Option aY:=
 match op with
 |.add=>some (.aP (.int k (k.wrap (x+y))))
 |.sub=>some (.aP (.int k (k.wrap (x-y))))
 |.mul=>some (.aP (.int k (k.wrap (x*y))))
 |.and=>some (.aP (.int k (cJ .and k x y)))
 |.or=>some (.aP (.int k (cJ .or k x y)))
 |.xor=>some (.aP (.int k (cJ .xor k x y)))
 |.andNot=>some (.aP (.int k (cJ .andNot k x y)))
 |.eql=>some (.aP (.bool (x==y)))
 |.neq=>some (.aP (.bool (x != y)))
 |.lss=>some (.aP (.bool (decide (x<y))))
 |.leq=>some (.aP (.bool (decide (x<=y))))
 |.gtr=>some (.aP (.bool (decide (x>y))))
 |.geq=>some (.aP (.bool (decide (x>=y))))
 |_=>none
def y'(op:BinOp)(x y:List UInt8):Option aY:=
 match op with
 |.eql=>some (.aP (.bool (bm x y)))
 |.neq=>some (.aP (.bool (!bm x y)))
 |.lss=>some (.aP (.bool (dr x y)))
 |.leq=>some (.aP (.bool (dr x y||bm x y)))
 |.gtr=>some (.aP (.bool (!(dr x y||bm x y))))
 |.geq=>some (.aP (.bool (!dr x y)))
 |_=>none
section
variable{bn:Type}
def lift(x:Option aY)(K:aY->Option bn):Option bn:=
 match x with
 |some v=>K v
 |none=>none
open Classical in
noncomputable def both(a b:Option bn):Option bn:=if a=b then a else none
noncomputable def za(b:Bool)(x y:Option bn):Option bn:=cond b (both x y) y
noncomputable def jZ(E:Env)(ty:Nat)(op:BinOp)(x y:aY)(K:aY->Option bn):Option bn:=
 match x,y with
 |.aP (.int k a),.aP (.int k' b)=>
  match op with
  |.shl=>iV (decide (0<=b)) (K (.aP (.int k (k.wrap (a*2^min b.toNat k.bits)))))
  |.shr=>iV (decide (0<=b)) (K (.aP (.int k (a.fdiv (2^min b.toNat k.bits)))))
  |.quo=>cond (Nat.beq (df k) (df k')) (iV (b != 0) (K (.aP (.int k (k.wrap (a.tdiv b)))))) none
  |.rem=>cond (Nat.beq (df k) (df k')) (iV (b != 0) (K (.aP (.int k (a.tmod b))))) none
  |_=>cond (Nat.beq (df k) (df k')) (lift (y_ op k a b) K) none
 |.aP (.str a),.aP (.str b)=>
  match op with
  |.add=>iV (room (a.length+b.length)) (K (.aP (.str (a++b))))
  |_=>lift (y' op a b) K
 |.aP (.bool a),.aP (.bool b)=>
  match E.ty ty,op with
  |some .bool,.eql=>K (.aP (.bool (a==b)))
  |some .bool,.neq=>K (.aP (.bool (!(a==b))))
  |_,_=>none
 |.hJ a,.hJ b=>
  cond (E.GQ ty) (match E.ty ty with
  |some T=>(match op,T.cmp a b with
   |.eql,some (r,[],[])=>K (.aP (.bool r))
   |.neq,some (r,[],[])=>K (.aP (.bool (!r)))
   |_,_=>none)
  |none=>none) none
 |.aP (.bq _ [] _ xs),.jX=>
  match E.ty ty,op with
  |some (.sl _),.eql=>za xs.isEmpty (K (.aP (.bool true))) (K (.aP (.bool false)))
  |some (.sl _),.neq=>za xs.isEmpty (K (.aP (.bool false))) (K (.aP (.bool true)))
  |_,_=>none
 |.opt _ o,.jl=>
  match E.re ty,op with
  |true,.eql=>K (.aP (.bool (decide (o<0))))
  |true,.neq=>K (.aP (.bool (!decide (o<0))))
  |_,_=>none
 |.ptr _,.jl=>
  match E.re ty,op with
  |true,.eql=>K (.aP (.bool false))
  |true,.neq=>K (.aP (.bool true))
  |_,_=>none
 |.may b _ _,.jl=>
  match E.re ty,op with
  |true,.eql=>K (.aP (.bool (!b)))
  |true,.neq=>K (.aP (.bool b))
  |_,_=>none
 |_,_=>none
def GS(op:UnOp)(x:aY)(K:aY->Option bn):Option bn:=
 match op,x with
 |.neg,.aP (.int k n)=>K (.aP (.int k (k.wrap (0-n))))
 |.xor,.aP (.int k n)=>K (.aP (.int k (cJ .xor k (if k.signed then -1 else k.max) n)))
 |.not,.aP (.bool b)=>K (.aP (.bool (!b)))
 |_,_=>none
def n2(t:U)(m:a8):List (List a7)->av->Option (List t.D×av)
 | [],s=>some ([],s)
 |cs::B,s=>(t.imp false m cs s []).bind fun r=>
   match r.2.1 with
   | []=>(n2 t m B r.2.2.1).bind fun q=>some (r.1::q.1,q.2)
   |_=>none
def aw.nth:aw->Nat->Option U
 |.nil,_=>none
 |.cons t _,0=>some t
 |.cons _ ah,n+1=>aw.nth ah n
def aw.mg:aw->List (List a7)
 |.nil=>[]
 |.cons t ah=>t.iE::aw.mg ah
def pD(s:av)(ty:Nat->Option U):List (Nat×Operand)->List (List a7)->Option (List (List a7))
 | [],B=>some B
 |(i,x)::ps,B=>
  match ty i with
  |none=>none
  |some t=>
   match ib t (bP s x)with
   |none=>none
   |some cs=>cond (Nat.beq cs.length t.size) (pD s ty ps (B.set i cs)) none
def aw.off:aw->Nat->Option (Nat×U)
 |.nil,_=>none
 |.cons t _,0=>some (0,t)
 |.cons t ah,n+1=>(aw.off ah n).bind fun r=>some (t.size+r.1,r.2)
def mkObj(s:av)(id:Nat)(o:b9):Option av:=
 match s.o id with
 |.none=>some (s.bA id o)
 |_=>none
def taken(s:av)(t:U):a7->Option (a8×List t.D×av)
 |.nil a=>(ej (.sl a) (.sl t) ([]:List a.D)).bind fun x=>some (t.own,x,s)
 |.aa id sub=>match s.o id with
  |.row a em _ xs=>(ej (.sl a) (.sl t) (jY sub xs)).bind fun x=>some (em,x,s.bA id .dead)
  |_=>none
 |_=>none
def added(s:av)(t:U):a7->Option (a8×List t.D×av)
 |.aa id sub=>match s.o id with
  |.row a em _ xs=>match em with
   |.R=>(ej (.sl a) (.sl t) (jY sub xs)).bind fun x=>some (.R,x,s)
   |_=>(ej (.sl a) (.sl t) (jY sub xs)).bind fun x=>some (em,x,s.bA id .dead)
  |_=>none
 |.bq a dp _ xs=>cond (alive s dp&&(t.flat||dp.isEmpty)) ((ej (.sl a) (.sl t) xs).bind fun x=>some (.R,x,s)) none
 |.nil a=>(ej (.sl a) (.sl t) ([]:List a.D)).bind fun x=>some (t.own,x,s)
 |.str x=>(ej (.sl (.int .u8)) (.sl t) (eg x)).bind fun b=>some (.R,b,s)
 |_=>none
def meet(a b:a8):a8:=cond (a8.beq a b) a .R
def OK(id:Nat)(t:U)(s:av)(a b:a7)(K:a7->av->Option bn):Option bn:=
 match added s t b with
 |none=>none
 |some (e,d,g)=>
  match taken g t a with
  |none=>none
  |some (h,xs,i)=>
   match mkObj i id (.row t (meet h e) 0 (xs++d))with
   |none=>none
   |some j=>iV (room (xs.length+d.length)) (K (.aa id none) j)
def mh(t:U)(v:aY):Bool:=
 match t,v with
 |.st _,.hJ _=>true
 |.st _,_=>false
 |_,.aP _=>true
 |.sl _,.jX=>true
 |_,_=>false
mutual
def U.getAt:(T:U)->Nat->(t:U)->T.D->Option (List t.D)
 |.sl a,off,t,x=>cond (Nat.beq off 0) (ej (.sl a) (.sl t) x) none
 |.st ah,off,t,x=>ah.getAt off t x
 |_,_,_,_=>none
def aw.getAt:(ah:aw)->Nat->(t:U)->ah.D->Option (List t.D)
 |.nil,_,_,_=>none
 |.cons T ah,off,t,x=>cond (Nat.blt off T.size) (T.getAt off t x.1) (ah.getAt (off-T.size) t x.2)
end
mutual
def U.setAt:(T:U)->Nat->(t:U)->List t.D->T.D->Option T.D
 |.sl b,off,t,a,_=>cond (Nat.beq off 0) (ej (.sl t) (.sl b) a) none
 |.st ah,off,t,a,x=>ah.setAt off t a x
 |_,_,_,_,_=>none
def aw.setAt:(ah:aw)->Nat->(t:U)->List t.D->ah.D->Option ah.D
 |.nil,_,_,_,_=>none
 |.cons T ah,off,t,a,x=>cond (Nat.blt off T.size) ((T.setAt off t a x.1).bind fun z=>some (z,x.2)) ((ah.setAt (off-T.size) t a x.2).bind fun z=>some (x.1,z))
end
def rf(t:U)(e:a8)(s:av)(dp:List (Nat×Nat)):Option Place->Option (List t.D×av)
 |none=>none
 |some p=>
  match p.eH,s.o p.id with
  |some i,.row T em ver a=>cond (alive s dp&&a8.beq em T.own&&a8.beq e t.own) ((T.getAt p.off t (I T a i)).bind fun x=>some (x,s.bA p.id (.b7 (.row T em ver a)))) none
  |_,_=>none
def tU(t:U)(x:List t.D)(s:av):Option Place->Option av
 |none=>none
 |some p=>
  match p.eH,s.o p.id with
  |some i,.b7 (.row T em ver a)=>(T.setAt p.off t x (I T a i)).bind fun z=>some (s.bA p.id (.row T em (ver+1) (a.set i z)))
  |_,_=>none
mutual
def U.e5:(t:U)->a8->List a7->av->Option (t.D×List a7×av)
 |.int k,_,.int k' x::cs,s=>cond (Nat.beq (df k) (df k')) (some (x,cs,s)) none
 |.bool,_,.bool x::cs,s=>some (x,cs,s)
 |.str,_,.str x::cs,s=>some (x,cs,s)
 |.sl t,.O e,c::cs,s=>match c with
  |.nil a=>(ej (.sl a) (.sl t) ([]:List a.D)).bind fun x=>some (x,cs,s)
  |.aa id none=>match s.o id with
   |.row a em ver xs=>cond (a8.beq em e) ((ej (.sl a) (.sl t) xs).bind fun x=>some (x,cs,s.bA id (.b7 (.row a em ver xs)))) none
   |_=>none
  |.bq _ dp b _=>(rf t e s dp b).bind fun r=>some (r.1,cs,r.2)
  |_=>none
 |.st ah,m,cs,s=>ah.e5 m.parts cs s
 |_,_,_,_=>none
def aw.e5:(ah:aw)->cA->List a7->av->Option (ah.D×List a7×av)
 |.nil,_,cs,s=>some ((),cs,s)
 |.cons t ah,m,cs,s=>(t.e5 m.aa cs s).bind fun r=>(ah.e5 m.dq r.2.1 r.2.2).bind fun q=>some ((r.1,q.1),q.2)
end
mutual
def U.back:(t:U)->t.D->List a7->av->Option (List a7×av)
 |.sl t,x,c::cs,s=>match c with
  |.nil _=>some (cs,s)
  |.aa id none=>match s.o id with
   |.b7 (.row a em ver _)=>(ej (.sl t) (.sl a) x).bind fun b=>some (cs,s.bA id (.row a em (ver+1) b))
   |_=>none
  |.bq _ _ d _=>(tU t x s d).bind fun an=>some (cs,an)
  |_=>none
 |.st ah,x,cs,s=>ah.back x cs s
 |_,_,_::cs,s=>some (cs,s)
 |_,_,[],_=>none
def aw.back:(ah:aw)->ah.D->List a7->av->Option (List a7×av)
 |.nil,_,cs,s=>some (cs,s)
 |.cons t ah,x,cs,s=>(t.back x.1 cs s).bind fun r=>ah.back x.2 r.1 r.2
end
def fL(key:Nat)(s:av):(ps:List bt)->List aY->List (Nat×Nat)->Option ((bt.ins ps).D×av×List (Nat×Nat))
 | [],[],d=>some ((),s,d)
 |.fn kK m0::ps,.fn g a b::vs,d=>cond (Nat.beq g key&&Nat.beq a.length kK&&Nat.beq b.length m0) (fL key s ps vs d) none
 |.val t m::ps,v::vs,d=>cond (mh t v)
  (match ib t v with
  |none=>none
  |some cs=>(t.imp true m cs s d).bind fun r=>
   match r.2.1 with
   | []=>(fL key r.2.2.1 ps vs r.2.2.2).bind fun q=>some ((r.1,q.1),q.2)
   |_=>none) none
 |.gJ t::ps,v::vs,d=>cond (mh t v)
  (match ib t v with
  |none=>none
  |some cs=>(t.imp false .R cs s d).bind fun r=>
   match r.2.1 with
   | []=>(fL key r.2.2.1 ps vs r.2.2.2).bind fun q=>some ((r.1,q.1),q.2)
   |_=>none) none
 |.gu t m::ps,v::vs,d=>cond (mh t v&&a8.beq m t.own)
  (match ib t v with
  |none=>none
  |some cs=>(t.e5 m cs s).bind fun r=>
   match r.2.1 with
   | []=>(fL key r.2.2 ps vs d).bind fun q=>some ((r.1,q.1),q.2)
   |_=>none) none
 |.ref t::ps,.c2 dp cs off::vs,d=>
  match takeN off t.size cs with
  |none=>none
  |some cs=>cond (alive s dp) ((t.imp true .R cs s (dp++d)).bind fun r=>
   match r.2.1 with
   | []=>(fL key r.2.2.1 ps vs r.2.2.2).bind fun q=>some ((r.1,q.1),q.2)
   |_=>none) none
 |.ref t::ps,.ptr p::vs,d=>
  match kL s t.size p with
  |none=>none
  |some cs=>(t.imp true .R cs s ((p.id,jK s p.id)::d)).bind fun r=>
   match r.2.1 with
   | []=>(fL key r.2.2.1 ps vs r.2.2.2).bind fun q=>some ((r.1,q.1),q.2)
   |_=>none
 |.mut t m m'::ps,.ptr p::vs,d=>
  match s.o p.id,p.eH with
  |.var ver old,none=>
   match takeN p.off t.size old with
   |none=>none
   |some cs=>(t.imp true m cs (s.bA p.id (.b7 (.var ver old))) d).bind fun r=>
    match r.2.1 with
    | []=>(fL key r.2.2.1 ps vs r.2.2.2).bind fun q=>some ((r.1,q.1),q.2)
    |_=>none
  |.row e em ver xs,some i=>cond (Nat.beq p.off 0&&a8.beq em m&&a8.beq m' em&&a8.beq m t.own) ((ej e t (I e xs i)).bind fun x=>(fL key (s.bA p.id (.b7 (.row e em ver xs))) ps vs d).bind fun q=>some ((x,q.1),q.2)) none
  |_,_=>none
 |_,_,_=>none
def kM(dp:List (Nat×Nat)):(ps:List bt)->List aY->(bt.dP ps).D->av->Nat->Option (av×Nat)
 | [],_,_,s,j=>some (s,j)
 |.mut t _ m'::ps,.ptr p::vs,x,s,j=>
  match s.o p.id,p.eH with
  |.b7 (.var ver old),none=>(t.gv m' dp x.1 s j).bind fun r=>kM dp ps vs x.2 (r.2.1.bA p.id (.var (ver+1) (old.take p.off++r.1++old.drop (p.off+t.size)))) r.2.2
  |.b7 (.row a em ver xs),some i=>(ej t a x.1).bind fun b=>kM dp ps vs x.2 (s.bA p.id (.row a em (ver+1) (xs.set i b))) j
  |_,_=>none
 |.gu t _::ps,v::vs,x,s,j=>
  match ib t v with
  |none=>none
  |some cs=>(t.back x.1 cs s).bind fun r=>kM dp ps vs x.2 r.2 j
 |.val _ _::ps,_::vs,x,s,j|.gJ _::ps,_::vs,x,s,j|.ref _::ps,_::vs,x,s,j|.fn _ _::ps,_::vs,x,s,j=>kM dp ps vs x s j
 |_,_,_,_,_=>none
def n3(s:av)(vs:List aY)(arg off:Nat):Option Nat:=
 match vs[arg]? with
 |some (.ptr p)=>match kL s 1 { p with off:=p.off+off }with
  |some [.aa id none]=>some id
  |_=>none
 |_=>none
def n4(s:av)(t:U)(id:Nat):Bool:=
 match s.o id with
 |.row a _ _ _=>U.beq a t
 |_=>false
def ki(vs:List aY)(ps:List bt)(dp:List (Nat×Nat)):(rs:List cN)->(cN.outs rs (bt.dP ps)).D->av->Nat->Option (List aY×av)
 | [],x,s,j=>(kM dp ps vs x s j).bind fun r=>some ([],r.1)
 |.val t m::rs,x,s,j=>(t.gv m dp x.1 s j).bind fun r=>
  match iX t r.1 with
  |none=>none
  |some v=>(ki vs ps dp rs x.2 r.2.1 r.2.2).bind fun q=>some (v::q.1,q.2)
 |.new t m::rs,x,s,j=>(t.gv m dp x.1 s j).bind fun r=>(mkObj r.2.1 r.2.2 (.var 0 r.1)).bind fun b=>(ki vs ps dp rs x.2 b (r.2.2+1)).bind fun q=>some (.ptr ⟨r.2.2,none,0⟩::q.1,q.2)
 |.opt a off t::rs,x,s,j=>(ki vs ps dp rs x.2 s j).bind fun q=>
  match n3 q.2 vs a off with
  |none=>none
  |some id=>cond (n4 q.2 t id) (some (.opt id x.1::q.1,q.2)) none
 |.any t::rs,x,s,j=>(ki vs ps dp rs x s j).bind fun q=>some (.pB t::q.1,q.2)
 |.m1 t::rs,x,s,j=>(ki vs ps dp rs x.2 s j).bind fun q=>some (.may (!List.isEmpty x.1) dp (t.cells dp none (I t x.1 0))::q.1,q.2)
def m3:List aY->FuncId
 | []=>0
 |.fn f _ _::_=>f
 |_::l=>m3 l
def kj:List aY->List aY
 | []=>[]
 |.fn _ a b::l=>a++b++kj l
 |_::l=>kj l
def mi:List aY->Bool
 | []=>true
 |.bf::_=>false
 |.gone::_=>false
 |.pB _::_=>false
 |_::l=>mi l
def GU(E:Env)(id:Nat)(s:av)(f:FuncId)(vs:List aY)(K:aY->av->Option bn):Option bn:=
 match E.fns f (m3 vs)with
 |none=>none
 |some e=>
  match fL (m3 vs) s e.ps (vs++kj vs) []with
  |none=>none
  |some (x,b,d)=>
   cond (alive b d&&mi vs)
    ((e.f x).bind fun r=>
     match ki (vs++kj vs) e.ps d e.rs r b id with
     |none=>none
     |some ([v],a)=>K v a
     |some (l,a)=>K (.mZ l) a)
    none
def pE(s:av):List aY->(List aY->Option bn)->Option bn
 | [],K=>K []
 |.opt i n::l,K=>(ax (match s.o i with|.row _ _ _ xs=>xs.length|_=>0) n).bind fun k=>pE s l fun l'=>K (.ptr ⟨i,some k,0⟩::l')
 |.may b dp cs::l,K=>iV b (pE s l fun l'=>K (.c2 dp cs 0::l'))
 |v::l,K=>pE s l fun l'=>K (v::l')
def GV(E:Env)(id:Nat)(s:av)(f:FuncId)(vs:List aY)(K:aY->av->Option bn):Option bn:=pE s vs fun vs=>GU E id s f vs K
end
end Go.LM
namespace Go.LM
section
variable{bn:Type}
def rh(e6:Bool)(k:IntKind):Int->List aY->Option (IntKind×Int)
 |x,[]=>some (k,x)
 |x,.aP (.int _ a)::l=>rh e6 k (cond e6 (YV x a) (iW x a)) l
 |_,_=>none
def tV(e6:Bool):List aY->Option (IntKind×Int)
 |.aP (.int k x)::l=>rh e6 k x l
 |_=>none
def j0(s:av)(T:U):a7->Bool
 |.str _=>U.beq T .str
 |.nil a=>U.beq T (.sl a)
 |.bq a _ _ _=>U.beq T (.sl a)
 |.aa id _=>match s.o id with
  |.row a _ _ _=>U.beq T (.sl a)
  |_=>false
 |_=>false
def oneCell(t:U):aY->Option a7
 |.aP c=>some c
 |.jX=>some (.nil t)
 |_=>none
def tW(E:Env):List Nat->Option U
 |a::b::_=>
  match E.ty a,E.ty b with
  |some (.sl t),some (.sl _)=>some t
  |some (.sl t),some .str=>some t
  |_,_=>none
 |_=>none
def jm(E:Env)(id:Nat)(s:av)(b:Builtin)(d:List Nat)(vs:List aY)(K:aY->av->Option bn):Option bn:=
 match b,vs with
 |.len,[.aP c]=>
  match d with
  |t::_=>
   match E.ty t with
   |some T=>cond (j0 s T c)
    (match mf s c with
    |some n=>K (.aP (.int .i64 n)) s
    |none=>none) none
   |none=>none
  |_=>none
 |.append,[e,g]=>
  match tW E d with
  |some t=>
   match oneCell t e,oneCell t g with
   |some a,some b=>OK id t s a b fun c s=>K (.aP c) s
   |_,_=>none
  |none=>none
 |.clear,[.aP (.aa i sub)]=>
  match d with
  |t::_=>
   match E.ty t,s.o i with
   |some (.sl h),.row v em ver xs=>cond (U.beq h v&&v.flat) (K (.mZ []) (s.bA i (.row v em (ver+1) (xs.take (dz sub)++List.replicate (iF sub xs) v.zero++xs.drop (dz sub+iF sub xs))))) none
   |_,_=>none
  |_=>none
 |.min,vs=>
  match tV false vs with
  |some (k,x)=>K (.aP (.int k x)) s
  |none=>none
 |.max,vs=>
  match tV true vs with
  |some (k,x)=>K (.aP (.int k x)) s
  |none=>none
 |_,_=>none
def bound(s:av)(x:Option Operand)(d:Int):Option Int:=
 match x with
 |none=>some d
 |some x=>iY (bP s x)
def tX(c:a7)(l m:Nat):Option a7:=
 match c with
 |.str x=>some (.str (part x l m))
 |.nil t=>some (.nil t)
 |.bq t dp a xs=>some (.bq t dp none (part xs l m))
 |.aa id sub=>some (.aa id (some (dz sub+l,m)))
 |_=>none
def OL(s:av)(T:U)(x:aY)(lo a e6:Option Operand)(K:aY->Option bn):Option bn:=
 match x with
 |.aP c=>
  cond (j0 s T c)
  (match mf s c with
  |none=>none
  |some n=>
   match bound s lo 0,bound s a n with
   |some l,some h=>
    (match e6 with
     |none=>fun k=>k
     |some m=>fun k=>cond (U.beq T .str) none (match iY (bP s m)with
      |some m=>cond a.isSome (iV (decide (h=m)) k) none
      |none=>none))
    ((cZ n l h).bind fun r=>
     match tX c r.1 (r.2-r.1)with
     |some c'=>K (.aP c')
     |none=>none)
   |_,_=>none) none
 |_=>none
def pF(E:Env)(id:Nat)(s:av)(src dst:Nat)(x:aY)(K:aY->av->Option bn):Option bn:=
 match E.ty src,E.ty dst,x with
 |some (.int _),some (.int k),.aP (.int _ n)=>K (.aP (.int k (k.wrap n))) s
 |some .str,some .str,.aP (.str b)=>K (.aP (.str b)) s
 |some .str,some (.sl (.int .u8)),.aP (.str b)=>
  match mkObj s id (.row (.int .u8) .R 0 (eg b))with
  |some a=>K (.aP (.aa id none)) a
  |none=>none
 |some (.sl (.int .u8)),some .str,.aP c=>
  match m2 s (.int .u8) c with
  |some xs=>K (.aP (.str (ek xs))) s
  |none=>none
 |_,_,_=>none
def GW(T:U)(s:av):List (List a7)->a8
 |cs::_=>(T.wb s cs).1
 | []=>T.own
noncomputable def cK(E:Env)(id:Nat)(o:Oper)(s:av)(K:av->Option bn):Option bn:=
 let put (v:aY) (s:av):Option bn:=K (s.dst o.dst v)
 match o.op with
 |.move x|.assign x=>
  match typed E o.type (bP s x)with
  |some v=>put v s
  |none=>none
 |.pick c a b=>
  match bP s c,typed E o.type (bP s a),typed E o.type (bP s b)with
  |.aP (.bool t),some h,some j=>cond t (put h s) (put j s)
  |.aP (.bool t),some h,none=>cond t (put h s) none
  |.aP (.bool t),none,some j=>cond t none (put j s)
  |_,_,_=>none
 |.alloc t=>
  match E.ty t with
  |some T=>match mkObj s id (.var 0 T.iE)with
   |some e=>put (.ptr ⟨id,none,0⟩) e
   |none=>none
  |none=>none
 |.box t x=>
  match E.ty t with
  |some T=>match ib T (bP s x)with
   |some cs=>cond (Nat.beq cs.length T.size)
    (match mkObj s id (.var 0 cs)with
     |some e=>put (.ptr ⟨id,none,0⟩) e
     |none=>none) none
   |none=>none
  |none=>none
 |.build t parts=>
  match E.ty t with
  |some (.st ah)=>match pD s ah.nth parts.toList ah.mg with
   |some B=>put (.hJ B.flatten) s
   |none=>none
  |_=>none
 |.buildSlice t n parts=>
  match E.ty t with
  |some (.sl T)=>cond (Nat.ble (n*T.size) 16777216)
   (match pD s (fun i=>cond (Nat.blt i n) (some T) none) parts.toList (List.replicate n T.iE)with
   |some B=>
    match n2 T (GW T s B) B s with
    |some (xs,e)=>match mkObj e id (.row T (GW T s B) 0 xs)with
     |some q=>put (.aP (.aa id none)) q
     |none=>none
    |none=>none
   |none=>none) none
  |_=>none
 |.load t a=>
  match E.ty t,bP s a with
  |some T,.ptr p=>match (kL s T.size p).bind (iX T)with
   |some v=>put v s
   |none=>none
  |some T,.c2 dp cs off=>match (takeN off T.size cs).bind (iX T)with
   |some v=>cond (alive s dp) (put v s) none
   |none=>none
  |_,_=>none
 |.store t a x=>
  match E.ty t,bP s a with
  |some T,.ptr p=>match ib T (bP s x)with
   |some cs=>cond (Nat.beq cs.length T.size)
    (match y9 s p cs with
     |some e=>put .bf e
     |none=>none) none
   |none=>match bP s x,s.o p.id,p.eH with
    |.pB d,.var _ old,none=>cond (U.beq d T&&Nat.beq p.off 0&&Nat.ble T.size old.length) (put .bf (s.bA p.id .dead)) none
    |_,_,_=>none
  |_,_=>none
 |.nilCheck x=>
  match bP s x with
  |.ptr p=>put (.ptr p) s
  |.c2 dp cs off=>put (.c2 dp cs off) s
  |.fn f a b=>put (.fn f a b) s
  |.may b dp cs=>iV b (put (.c2 dp cs 0) s)
  |.opt i n=>(ax (match s.o i with|.row _ _ _ xs=>xs.length|_=>0) n).bind fun k=>put (.ptr ⟨i,some k,0⟩) s
  |_=>none
 |.binOp op ty x r _=>jZ E ty op (bP s x) (bP s r) fun v=>put v s
 |.unOp op _ x=>GS op (bP s x) fun v=>put v s
 |.convert src dst x=>pF E id s src dst (bP s x) put
 |.makeFunc (.func f) first kh=>put (.fn f (first.toList.map (bP s)) (kh.toList.map (bP s))) s
 |.makeSlice t l c=>
  match E.ty t,iY (bP s l),iY (bP s c)with
  |some (.sl T),some n,some m=>
   iV (decide (0<=n)&&decide (n=m)&&room n.toNat)
    (match mkObj s id (.row T T.own 0 (List.replicate n.toNat T.zero))with
     |some e=>put (.aP (.aa id none)) e
     |none=>none)
  |_,_,_=>none
 |.slice t x u w e6=>
  match E.ty t with
  |some T=>OL s T (bP s x) u w e6 fun v=>put v s
  |none=>none
 |.fieldAddr t x f=>
  match E.ty t,bP s x with
  |some (.st ah),.ptr p=>match ah.off f with
   |some (k,d)=>cond (Nat.beq d.size 0) none (put (.ptr { p with off:=p.off+k }) s)
   |none=>none
  |some (.st ah),.c2 dp cs off=>match ah.off f with
   |some (k,d)=>cond (Nat.beq d.size 0) none (put (.c2 dp cs (off+k)) s)
   |none=>none
  |_,_=>none
 |.field t x f=>
  match E.ty t,bP s x with
  |some (.st ah),.hJ cs=>match ah.off f with
   |some (k,d)=>match (takeN k d.size cs).bind (iX d)with
    |some v=>put v s
    |none=>none
   |none=>none
  |_,_=>none
 |.indexAddr t x i=>
  match E.ty t,bP s x,iY (bP s i)with
  |some (.sl d),.aP c,some n=>
   match c with
   |.aa id sub=>match s.o id with
    |.row v _ _ xs=>cond (U.beq d v) ((ax (iF sub xs) n).bind fun k=>put (.ptr ⟨id,some (dz sub+k),0⟩) s) none
    |_=>none
   |.bq v dp y xs=>cond (alive s dp&&U.beq d v) ((ax xs.length n).bind fun k=>put (.c2 dp (v.cells dp none (I v xs k)) 0) s) none
   |_=>none
  |_,_,_=>none
 |.index t x i=>
  match E.ty t,bP s x,iY (bP s i)with
  |some .str,.aP (.str b),some n=>(ax b.length n).bind fun k=>put (.aP (.int .u8 (b.getD k 0).toNat)) s
  |_,_,_=>none
 |.extract x i=>
  match bP s x with
  |.mZ l=>match l[i]? with
   |some v=>put v s
   |none=>none
  |_=>none
 |.call c=>
  let vs:=c.args.toList.map (bP s)
  match c.callee with
  |.builtin b=>jm E id s b c.argTypes.toList vs put
  |.value f=>match bP s f with
   |.fn g first kh=>GV E id s g (first++vs++kh) put
   |_=>none
  |_=>none
 |_=>none
def guardOf(ops:List Oper)(o:Oper):Option (Option Nat×Bool):=
 match o.guard with
 |none=>none
 |some (j,w)=>some ((ops[j]?).bind (·.dst),w)
def wc(E:Env)(o:Oper):Bool:=
 match o.dst with
 |some d=>Nat.blt d E.n
 |none=>true
mutual
def a8.e7:a8->Bool
 |.R=>false
 |.O _=>true
 |.S ms=>ms.e7
def cA.e7:cA->Bool
 |.nil=>false
 |.cons m ms=>cond m.e7 true ms.e7
end
def ownArg(d:Nat):List Operand->List bt->Bool
 |.tmp j::xs,.val (.st _) m::ps=>cond (Nat.beq j d&&m.e7) true (ownArg d xs ps)
 |_::xs,_::ps=>ownArg d xs ps
 |_,_=>false
def YW(E:Env)(d:Nat)(o:Oper):Bool:=
 match o.op with
 |.call c=>match c.callee with
  |.value (.func g)=>match E.fns g 0 with
   |some e=>ownArg d c.args.toList e.ps
   |none=>false
  |_=>false
 |_=>false
def ri(E:Env)(ops:List Oper)(s:av)(o:Oper):Bool:=
 match o.op,o.dst with
 |.load _ a,some d=>match bP s a with
  |.ptr p=>match s.o p.id,p.eH with
   |.row _ em _ _,some _=>em.e7&&ops.any (YW E d)
   |_,_=>false
  |_=>false
 |_,_=>false
def GX(E:Env)(id:Nat)(o:Oper)(s:av)(K:av->Option bn):Option bn:=
 match o.op with
 |.load t a=>match E.ty t,bP s a with
  |some T,.ptr p=>match s.o p.id,p.eH with
   |.row b em ver xs,some k=>cond (U.beq b T&&Nat.beq p.off 0)
     ((b.gv em [] (I b xs k) (s.bA p.id (.hole b em ver xs k)) id).bind fun r=>(iX b r.1).bind fun v=>K (r.2.1.dst o.dst v)) none
   |_,_=>none
  |_,_=>none
 |_=>none
def OM(s:av)(o:Oper)(l:List Oper):Bool:=
 match o.op,l with
 |.load _ _,a::b::_=>match a.op,b.op with
  |.indexAddr _ x _,.store _ _ _=>match bP s x with
   |.aP (.aa i _)=>match s.o i with
    |.hole _ _ _ _ _=>true
    |_=>false
   |_=>false
  |_,_=>false
 |_,_=>false
def GY(E:Env)(o e d:Oper)(g k2 h i a b:Nat):Bool:=
 Nat.beq i a&&(Nat.beq h b&&(!(Nat.beq g a)&&(!(Nat.beq k2 a)&&(!(Nat.beq a b)&&(o.guard.isNone&&(e.guard.isNone&&(d.guard.isNone&&(d.dst.isNone&&(Nat.blt a E.n&&Nat.blt b E.n)))))))))
def we:b9->Bool
 |.dead=>false
 |_=>true
def GZ(E:Env)(s:av)(o:Oper)(l:List Oper)(K:av->Option bn):Option bn:=
 match l with
 |b::d::_=>match o.op,b.op,d.op with
  |.load j (.tmp n),.indexAddr t1 (.tmp e) (.tmp k2),.store u (.tmp v) (.tmp w)=>match o.dst,b.dst with
   |some g,some h=>cond (GY E o b d e k2 v w g h)
    (match E.ty j,E.ty t1,E.ty u,s.t n,s.t e,iY (s.t k2)with
    |some T,some (.sl y),some z,.ptr p,.aP (.aa i sub),some q=>match s.o p.id,p.eH,s.o i with
     |.var A cs,none,.hole a em ver xs k=>cond (U.beq T a&&(U.beq y a&&(U.beq z a&&(Nat.beq p.off 0&&Nat.beq cs.length a.size))))
       ((ax (iF sub xs) q).bind fun m=>cond (Nat.beq (dz sub+m) k)
        ((a.imp false em cs s []).bind fun r=>cond (r.2.1.isEmpty&&(we (r.2.2.1.o p.id)&&we (r.2.2.1.o i)))
         (K ((((r.2.2.1.bA i (.row a em (ver+1) (xs.set k r.1))).bA p.id (.var (A+1) (y8 a em i (ver+1) k r.1))).set g .bf).set h .bf)) none) none) none
     |_,_,_=>none
    |_,_,_,_,_,_=>none) none
   |_,_=>none
  |_,_,_=>none
 |_=>none
noncomputable def rj(E:Env)(id:Nat)(ops:List Oper)(o:Oper)(s:av)(K:av->Option bn):Option bn:=
 cond (wc E o) (match guardOf ops o with
 |none=>cond (ri E ops s o) (GX E id o s K) (cK E id o s K)
 |some (some d,w)=>
  match s.t d with
  |.aP (.bool b)=>
   cond b (let an:=s.set d (.aP (.bool true));cond w (cK E id o an K) (K (an.dst o.dst .gone)))
    (let an:=s.set d (.aP (.bool false));cond w (K (an.dst o.dst .gone)) (cK E id o an K))
  |.gone=>K (s.dst o.dst .gone)
  |_=>none
 |some (none,_)=>none) none
def tY:List aY->Option Place
 |.aP (.bq _ _ a _)::_=>a
 |_=>none
def G0:List bt->Bool
 | []=>true
 |.mut _ _ _::_=>false
 |.gu _ _::_=>false
 |.val _ _::l|.ref _::l|.fn _ _::l|.gJ _::l=>G0 l
def YX:List bt->Bool
 |.val (.sl _) (.O _)::_=>true
 |_=>false
def tZ(key:Nat)(s:av)(t:U):(ps:List bt)->List aY->Option ((bt.ins ps).D×av×List (Nat×Nat))
 |.val (.sl a) m::ps,.aP (.bq _ dp b _)::vs=>cond (a8.beq m (.O a.own)&&(U.beq t a&&G0 ps)) ((rf a a.own s dp b).bind fun r=>(fL key r.2 ps vs []).bind fun q=>some ((r.1,q.1),q.2)) none
 |_,_=>none
def wg(t:U){ah:aw}:(rs:List cN)->(cN.outs rs ah).D->Option (List t.D)
 | [.val a m],x=>cond (a8.beq m (.O t.own)) (ej a (.sl t) x.1) none
 |_,_=>none
def ON(E:Env)(s:av)(o:Oper):Bool:=
 match o.op with
 |.call c=>match c.callee with
  |.value a=>match bP s a with
   |.fn g [] []=>match tY (c.args.toList.map (bP s)),E.fns g (m3 (c.args.toList.map (bP s)))with
    |some _,some e=>YX e.ps
    |_,_=>false
   |_=>false
  |_=>false
 |_=>false
def t_(E:Env)(o g h e:Oper)(i j k l a b d:Nat):Bool:=
 Nat.beq a l&&(Nat.beq b j&&(Nat.beq d k&&(!(Nat.beq i a)&&(!(Nat.beq a b)&&(!(Nat.beq a d)&&(o.guard.isNone&&(g.guard.isNone&&(h.guard.isNone&&(e.guard.isNone&&(e.dst.isNone&&(Nat.blt a E.n&&(Nat.blt b E.n&&Nat.blt d E.n))))))))))))
def G4(s:av)(v:aY)(K:Place->Option bn):Option bn:=
 match v with
 |.ptr p=>K p
 |.opt i n=>(ax (match s.o i with|.row _ _ _ xs=>xs.length|_=>0) n).bind fun k=>K ⟨i,some k,0⟩
 |_=>none
def G5(E:Env)(s:av)(o:Oper)(l:List Oper)(K:av->Option bn):Option bn:=
 match l with
 |a::b::h::_=>
  match o.op,a.op,b.op,h.op with
  |.call c,.nilCheck (.tmp m),.fieldAddr w (.tmp y) z,.store A (.tmp B) (.tmp C)=>
   match c.callee,o.dst,a.dst,b.dst with
   |.value D,some n,some q,some u=>cond (t_ E o a b h m y B C n q u)
    (match bP s D,E.ty w,E.ty A with
    |.fn g [] [],some (.st ah),some (.sl t)=>
     match E.fns g (m3 (c.args.toList.map (bP s))),ah.off z,tY (c.args.toList.map (bP s))with
     |some e,some (k,F),some p=>G4 s (s.t m) fun d=>cond (!(Nat.beq F.size 0)&&(Nat.beq d.id p.id&&Nat.beq (d.off+k) p.off))
      (match d.eH,p.eH with
      |some i,some j=>cond (Nat.beq i j) (match tZ (m3 (c.args.toList.map (bP s))) s t e.ps (c.args.toList.map (bP s)++kj (c.args.toList.map (bP s)))with
       |none=>none
       |some (x,v,G)=>cond (alive v G&&mi (c.args.toList.map (bP s)))
        ((e.f x).bind fun r=>(wg t e.rs r).bind fun H=>(tU t H (((v.set n .bf).set q .bf).set u .bf) (some p)).bind K) none) none
      |_,_=>none) none
     |_,_,_=>none
    |_,_,_=>none) none
   |_,_,_,_=>none
  |_,_,_,_=>none
 |_=>none
noncomputable def pG(E:Env)(bx:Nat)(all:List Oper):List Oper->Nat->Nat->av->(av->Option bn)->Option bn
 | [],_,_,s,K=>K s
 |_::l,i,q+1,s,K=>pG E bx all l (i+1) q s K
 |o::l,i,0,s,K=>cond (ON E s o) (G5 E s o l fun an=>pG E bx all l (i+1) 3 an K) (cond (OM s o l) (GZ E s o l fun an=>pG E bx all l (i+1) 2 an K) (rj E ((bx*256+i)*32) all o s fun an=>pG E bx all l (i+1) 0 an K))
noncomputable def G6(E:Env)(bx:Nat)(all:List Oper)(l:List Oper)(i:Nat)(s:av)(K:av->Option bn):Option bn:=pG E bx all l i 0 s K
def rk(E:Env)(o:Oper):Bool:=
 match o.op with
 |.move _|.assign _|.pick _ _ _|.load _ _|.nilCheck _|.binOp _ _ _ _ _|.unOp _ _ _|.slice _ _ _ _ _|.fieldAddr _ _ _|.field _ _ _|.indexAddr _ _ _|.index _ _ _|.extract _ _|.build _ _=>true
 |.makeFunc (.func _) _ _=>true
 |.convert a b _=>match E.ty a,E.ty b with
  |some (.int _),some (.int _)=>true
  |_,_=>false
 |.call c=>match c.callee with
  |.builtin .len|.builtin .min|.builtin .max=>true
  |_=>false
 |_=>false
def waits(ops:Array Oper)(j i:Nat):Bool:=
 match ops[j]? with
 |some o=>o.after.any fun e=>Region.binds .any e&&Nat.beq e.on i
 |none=>false
def G7(E:Env)(ops:Array Oper)(s:av)(i:Nat):Bool:=
 match ops[i]? with
 |some o=>rk E o && !ri E ops.toList s o
 |none=>false
def ic(s:av)(o:Oper):List (Nat×Nat):=
 match o.op with
 |.load _ x=>match bP s x with
  |.ptr p=>[(p.id,jK s p.id)]
  |.c2 dp _ _=>dp
  |_=>[]
 |_=>[]
def rl(s:av):List (Nat×List (Nat×Nat))->Bool
 | []=>true
 |p::l=>cond (alive s p.2) (rl s l) false
def isApp(s:av)(o:Oper):Bool:=
 match o.op with
 |.call c=>match c.callee with
  |.builtin .append=>(tY (c.args.toList.map (bP s))).isSome
  |_=>false
 |_=>false
def G8(id:Nat)(t:U)(p:Place)(dp:List (Nat×Nat))(s:av)(e:a7)(a g h:Nat)(i:av->Bool)(K:av->Option bn):Option bn:=
 match added s t e with
 |none=>none
 |some (j,b,k)=>cond (a8.beq j t.own) ((rf t t.own k dp (some p)).bind fun r=>(mkObj r.2 id .dead).bind fun d=>iV (room (r.1.length+b.length)) (cond (i (d.set a .bf)) ((tU t (r.1++b) (((d.set a .bf).set g .bf).set h .bf) (some p)).bind K) none)) none
def G9(E:Env)(id:Nat)(s:av)(o a b e:Oper)(r:av->Bool)(K:av->Option bn):Option bn:=
 match o.op,a.op,b.op,e.op with
 |.call c,.indexAddr u (.tmp g) (.tmp k2),.fieldAddr w (.tmp y) z,.store A (.tmp B) (.tmp C)=>
  match c.callee,o.dst,a.dst,b.dst with
  |.builtin .append,some d,some h,some l=>cond (t_ E o a b e g y B C d h l && !(Nat.beq k2 d))
   (match E.ty u,E.ty w,E.ty A,tW E c.argTypes.toList,c.args.toList.map (bP s)with
   |some (.sl D),some (.st ah),some (.sl t),some n,[.aP (.bq _ dp (some p) _),F]=>
    match ah.off z,oneCell n F,s.t g,iY (s.t k2),s.o p.id,p.eH with
    |some (k,G),some H,.aP (.aa i sub),some q,.row v _ _ xs,some j=>cond (U.beq n t&&(U.beq D v&&(!(Nat.beq G.size 0)&&(Nat.beq i p.id&&Nat.beq k p.off))))
      ((ax (iF sub xs) q).bind fun m=>cond (Nat.beq (dz sub+m) j) (G8 id t p dp s H d h l r K) none) none
    |_,_,_,_,_,_=>none
   |_,_,_,_,_=>none) none
  |_,_,_,_=>none
 |_,_,_,_=>none
def OO(s:av)(ops:Array Oper)(rs:List Nat):Bool:=rs.any fun i=>match ops[i]? with
 |some o=>isApp s o
 |none=>false
def one:List Nat->Option Nat
 | [i]=>some i
 |_=>none
def G_(E:Env)(bx:Nat)(ops:Array Oper)(listed:Array Bool)(b:List (Nat×List (Nat×Nat)))(rs:List Nat)(s:av)(K:av->Option bn):Option bn:=
 (one rs).bind fun i=>(one (Region.ready .any ops (listed.setIfInBounds i true))).bind fun a=>(one (Region.ready .any ops ((listed.setIfInBounds i true).setIfInBounds a true))).bind fun i2=>
  (one (Region.ready .any ops (((listed.setIfInBounds i true).setIfInBounds a true).setIfInBounds i2 true))).bind fun d=>
   cond ((Region.ready .any ops ((((listed.setIfInBounds i true).setIfInBounds a true).setIfInBounds i2 true).setIfInBounds d true)).isEmpty&&((b.filter fun p=> !waits ops i p.1).filter fun p=> !waits ops a p.1).isEmpty)
    (ops[i]?.bind fun o=>ops[a]?.bind fun e=>ops[i2]?.bind fun g=>ops[d]?.bind fun h=>G9 E ((bx*256+i)*32) s o e g h (fun j=>rl j (b.filter fun p=> !waits ops i p.1)) K) none
noncomputable def dup(a:Option bn):Option bn:=both a a
noncomputable def zb:List (Option bn)->Option bn
 | []=>none
 | [x]=>x
 |x::l=>both x (zb l)
noncomputable def rm(E:Env)(bx:Nat)(ops:Array Oper):Nat->Array Bool->List (Nat×List (Nat×Nat))->av->(av->Option bn)->Option bn
 |0,listed,_,s,K=>match Region.ready .any ops listed with
  | []=>K s
  |_=>none
 |n+1,listed,a,s,K=>
  match Region.ready .any ops listed with
  | []=>K s
  |rs=>match rs.find? fun i=>G7 E ops s i&&Region.free .any ops listed i with
   |some i=>(match ops[i]? with
    |none=>none
    |some o=>rj E ((bx*256+i)*32) ops.toList o s fun an=>rm E bx ops n (listed.setIfInBounds i true) ((i,ic s o)::a) an K)
   |none=>cond (OO s ops rs&&Nat.ble 3 n) (G_ E bx ops listed a rs s K) (zb (rs.map fun i=>match ops[i]? with
    |none=>none
    |some o=>cond (rk E o && !ri E ops.toList s o) none (rj E ((bx*256+i)*32) ops.toList o s fun an=>cond (rl an (a.filter fun p=> !waits ops i p.1)) (rm E bx ops n (listed.setIfInBounds i true) (a.filter fun p=> !waits ops i p.1) an K) none)))
noncomputable def G'(E:Env)(bx:Nat)(ops:Array Oper)(s:av)(K:av->Option bn):Option bn:=
 cond (Region.noSelect ops) (rm E bx ops ops.size (Array.replicate ops.size false) [] s K) none
structure Hand(bn:Type) where
 cut:Nat->List Item->av->Option bn
 fin:av->Option bn
noncomputable def jn(E:Env)(cuts:Nat->Bool)(H:Hand bn):Nat->Bool->List Item->av->Option bn
 |0,_,_,_=>none
 |n+1,first,todo,s=>
  match todo with
  | []=>H.fin s
  |.code .ret::_=>H.fin s
  |.code .skip::k|.inBlock _::k=>jn E cuts H n first k s
  |.code (.seq a b)::k=>jn E cuts H n first (.code a :: .code b::k) s
  |.code (.cond c x d)::k=>
   match bP s c with
   |.aP (.bool b)=>cond b (jn E cuts H n first (.code x::k) s) (jn E cuts H n first (.code d::k) s)
   |_=>none
  |.code (.block id c)::k=>jn E cuts H n first (.code c :: .inBlock id::k) s
  |.code (.loop c)::k|.inLoop c::k=>jn E cuts H n first (.code c :: .inLoop c::k) s
  |.code (.exit id)::k=>
   match exitTo id k with
   |some k'=>jn E cuts H n first k' s
   |none=>none
  |.code (.region bx ops e)::k=>
   cond (cuts bx && !first) (H.cut bx todo s)
    (cond e (G' E bx ops s fun an=>jn E cuts H n false k an) (G6 E bx ops.toList ops.toList 0 s fun an=>jn E cuts H n false k an))
  |_=>none
end
end Go.LM
namespace Go.LM
abbrev ae:=Nat->Nat->Prop
def ae.none:ae:=fun _ _=>False
def ae.or(F G:ae):ae:=fun b o=>F b o\/G b o
def ae.apart(F G:ae):Prop:=∀b o,F b o->G b o->False
def ae.sub(F G:ae):Prop:=∀b o,F b o->G b o
def ae.run(b lo n:Nat):ae:=fun a o=>a=b/\lo<=o/\o<lo+n
abbrev at_(b o:Nat):Addr:=⟨b,o,none⟩
def pH(w:World)(b o:Nat):w.cell? (at_ b o)=match w.heap[b]? with|some (.cells c _ _)=>c[o]? |_=>none:=by
 simp only[World.cell?,at_]
 cases w.heap[b]? with
 |none=>rfl
 |some x=>cases x<;>rfl
def cell_of_heap{w:World}{b:Nat}{c:Array Value}{e:TypeId}{f:Nat×Nat}(h:w.heap[b]?=some (.cells c e f))(o:Nat):
  w.cell? (at_ b o)=c[o]?:=by rw[pH,h]
def vZ{w:World}{b o:Nat}{v:Value}(h:w.cell? (at_ b o)=some v):
  ∃c e f,w.heap[b]?=some (.cells c e f)/\c[o]?=some v:=by
 rw[pH]at h;split at h
 ·rename_i c e f hb;exact⟨c,e,f,hb,h⟩
 ·simp at h
def v7{w:World}{b o:Nat}{v:Value}(h:w.cell? (at_ b o)=some v):b<w.heap.size:=by
 obtain⟨c,e,f,hb,_⟩:=vZ h;rcases ff b w.heap.size with h|h
 ·exact h
 ·simp[Array.getElem?_eq_none h]at hb
structure Ext(w w':World)(F:ae):Prop where
 os:w'.os=w.os
 tape:w'.tape=w.tape
 output:w'.output=w.output
 size:w.heap.size<=w'.heap.size
 block:∀b,b<w.heap.size->w'.heap[b]?=w.heap[b]? ∨
  ∃c c' e f,w.heap[b]?=some (.cells c e f)/\w'.heap[b]?=some (.cells c' e f)/\c'.size=c.size/\∀o,¬F b o->c'[o]?=c[o]?
def Ext.refl(w:World)(F:ae):Ext w w F:=⟨rfl,rfl,rfl,bu _,fun _ _=>.inl rfl⟩
def Ext.mono{w w':World}{F G:ae}(h:Ext w w' F)(hs:∀b o,b<w.heap.size->F b o->G b o):Ext w w' G:=by
 refine⟨h.os,h.tape,h.output,h.size,fun b hb=>?_⟩;rcases h.block b hb with h|⟨c,c',e,f,h1,a,d,g⟩
 ·exact .inl h
 ·exact .inr ⟨c,c',e,f,h1,a,d,fun o i=>g o fun j=>i (hs b o hb j)⟩
def Ext.trans{a b c:World}{F:ae}(h:Ext a b F)(k:Ext b c F):Ext a c F:=by
 refine⟨k.os.trans h.os,k.tape.trans h.tape,k.output.trans h.output,cw h.size k.size,fun i g=>?_⟩;rcases h.block i g with h1|⟨x,u,e,f,h1,l,m,n⟩
 ·rcases k.block i (jW g h.size)with d|⟨p,j,q,r,d,k2,k3,aZ⟩
  ·exact .inl (d.trans h1)
  ·exact .inr ⟨p,j,q,r,h1▸d,k2,k3,aZ⟩
 ·rcases k.block i (jW g h.size)with d|⟨p,j,q,r,d,k2,k3,aZ⟩
  ·exact .inr ⟨x,u,e,f,h1,d.trans l,m,n⟩
  ·rw[l]at d;simp only[cQ,Obj.cells.injEq]at d;obtain⟨rfl,rfl,rfl⟩:=d;exact .inr ⟨x,j,e,f,h1,k2,k3.trans m,fun o s=>(aZ o s).trans (n o s)⟩
def Ext.trans'{a b c:World}{F S:ae}(h:Ext a b F)(k:Ext b c S)(v:∀i o,S i o->F i o\/a.heap.size<=i):Ext a c F:=by
 refine⟨k.os.trans h.os,k.tape.trans h.tape,k.output.trans h.output,cw h.size k.size,fun i q=>?_⟩
 have hk:c.heap[i]?=b.heap[i]?\/∃x g e f,b.heap[i]?=some (.cells x e f)/\c.heap[i]?=some (.cells g e f)/\g.size=x.size/\∀o,¬F i o->g[o]?=x[o]?:=by
  rcases k.block i (jW q h.size)with d|⟨l,j,m,n,d,k2,k3,aZ⟩
  ·exact .inl d
  ·refine .inr ⟨l,j,m,n,d,k2,k3,fun o p=>aZ o fun hs=>?_⟩;rcases v i o hs with h|h
   ·exact p h
   ·omega
 rcases h.block i q with h1|⟨x,g,e,f,h1,r,s,u⟩
 ·rcases hk with d|⟨l,j,m,n,d,k2,k3,aZ⟩
  ·exact .inl (d.trans h1)
  ·exact .inr ⟨l,j,m,n,h1▸d,k2,k3,aZ⟩
 ·rcases hk with d|⟨l,j,m,n,d,k2,k3,aZ⟩
  ·exact .inr ⟨x,g,e,f,h1,d.trans r,s,u⟩
  ·rw[r]at d;simp only[cQ,Obj.cells.injEq]at d;obtain⟨rfl,rfl,rfl⟩:=d;exact .inr ⟨x,j,e,f,h1,k2,k3.trans s,fun o p=>(aZ o p).trans (u o p)⟩
def Ext.cell{w w':World}{F:ae}(h:Ext w w' F){b o:Nat}(hb:b<w.heap.size)(a:¬F b o):w'.cell? (at_ b o)=w.cell? (at_ b o):=by
 rw[pH,pH];rcases h.block b hb with h|⟨c,c',e,f,h1,d,_,g⟩
 ·rw[h]
 ·rw[h1,d];exact g o a
def nV(w:World)(b o:Nat):w.frozen? (at_ b o)=match w.heap[b]? with|some (.cells _ _ (a,d))=>decide (a<=o)&&decide (o<d)|_=>false:=rfl
def Ext.frozen{w w':World}{F:ae}(h:Ext w w' F){b:Nat}(hb:b<w.heap.size)(o:Nat):w'.frozen? (at_ b o)=w.frozen? (at_ b o):=by
 rw[nV,nV];rcases h.block b hb with h|⟨c,c',e,f,h1,a,_,_⟩
 ·rw[h]
 ·rw[h1,a]
def eS(w:World)(b o:Nat):Prop:=(∃v,w.cell? (at_ b o)=some v)/\w.frozen? (at_ b o)=false
def Ext.YY{w w':World}{F:ae}(h:Ext w w' F){b o:Nat}(hc:∃v,w.cell? (at_ b o)=some v):∃v,w'.cell? (at_ b o)=some v:=by
 obtain⟨v,hv⟩:=hc;have hb:=v7 hv;obtain⟨c,e,f,d,a⟩:=vZ hv;rcases h.block b hb with h|⟨x,g,l,m,h1,i,j,_⟩
 ·exact⟨v,by rw[pH,h,d];exact a⟩
 ·rw[d]at h1;simp only[cQ,Obj.cells.injEq]at h1;obtain⟨rfl,rfl,rfl⟩:=h1
  have k:o<c.size:=by
   rcases ff o c.size with h|h
   ·exact h
   ·rw[Array.getElem?_eq_none h]at a;simp at a
  exact⟨g[o]'(by omega),by rw[pH,i];simp[Array.getElem?_eq_getElem,j,k]⟩
def Ext.nU{w w':World}{F:ae}(h:Ext w w' F){b o:Nat}(hc:eS w b o):eS w' b o:=
 ⟨h.YY hc.1,by rw[h.frozen (v7 hc.1.choose_spec) o];exact hc.2⟩
def fb(w:World)(size b o:Nat):Prop:=eS w b o/\(size=1\/∀k,w.frozen? (at_ b k)=false)
def Ext.iz{w w':World}{F:ae}(h:Ext w w' F){size b o:Nat}(hc:fb w size b o):fb w' size b o:=
 ⟨h.nU hc.1,hc.2.imp id fun hk k=>by rw[h.frozen (v7 hc.1.1.choose_spec) k];exact hk k⟩
def Ext.drew(w:World)(n:Nat)(F:ae):Ext w { w with drawn:=n } F:=⟨rfl,rfl,rfl,bu _,fun _ _=>.inl rfl⟩
def Ext.push(w:World)(o:Obj)(F:ae):Ext w { w with heap:=w.heap.push o } F:=
 ⟨rfl,rfl,rfl,by simp,fun b hb=>.inl (by simp only;rw[Array.getElem?_push,bd (by omega)])⟩
def OP(w:World)(o:Obj):({ w with heap:=w.heap.push o }:World).heap[w.heap.size]?=some o:=by simp
def OQ(w:World)(c:Array Value)(e:TypeId)(f:Nat×Nat)(o:Nat):
  ({ w with heap:=w.heap.push (.cells c e f) }:World).cell? (at_ w.heap.size o)=c[o]?:=cell_of_heap (OP w _) o
def Ha(w:World)(b o:Nat)(v:Value)(a:Nat):
  (w.setCell (at_ b o) v).heap[a]?=if b=a then(w.heap[a]?).map (fun|.cells c e f=>.cells (c.setIfInBounds o v) e f|x=>x) else w.heap[a]?:=by
 simp only[World.setCell,Array.getElem?_modify,at_];split
 ·rename_i h;subst h
  cases w.heap[b]? with
  |none=>rfl
  |some x=>cases x<;>rfl
 ·rfl
def YZ(w:World)(b o:Nat)(v:Value)(a o':Nat)(h:∃u,w.cell? (at_ b o)=some u):
  (w.setCell (at_ b o) v).cell? (at_ a o')=if b=a/\o=o' then some v else w.cell? (at_ a o'):=by
 obtain⟨u,i⟩:=h;obtain⟨c,e,f,hb,hc⟩:=vZ i
 have j:o<c.size:=by
  rcases ff o c.size with h|h
  ·exact h
  ·rw[Array.getElem?_eq_none h]at hc;simp at hc
 rw[pH,Ha,pH];by_cases d:b=a
 ·subst d;rw[bg rfl,hb];simp only[fe,true_and];by_cases g:o=o'
  ·subst g;simp[Array.getElem?_setIfInBounds,j]
  ·simp[Array.getElem?_setIfInBounds,g]
 ·rw[bd d];simp[d]
def Y0(w:World)(b o:Nat)(v:Value)(a o':Nat):(w.setCell (at_ b o) v).frozen? (at_ a o')=w.frozen? (at_ a o'):=by
 rw[nV,Ha,nV];by_cases d:b=a
 ·subst d;rw[bg rfl]
  cases w.heap[b]? with
  |none=>rfl
  |some x=>cases x<;>rfl
 ·rw[bd d]
def Ext.setCell{w:World}{b o:Nat}{F:ae}(v:Value)(d:F b o):Ext w (w.setCell (at_ b o) v) F:=by
 refine⟨rfl,rfl,rfl,by simp[World.setCell],fun g hb=>?_⟩;rw[Ha];by_cases a:b=g
 ·subst a;rw[bg rfl]
  cases i:w.heap[b]? with
  |none=>exact .inl rfl
  |some x=>
   cases x with
   |cells c e f=>
    refine .inr ⟨c,_,e,f,rfl,rfl,by simp,fun o' h=>?_⟩;have:o≠o':=fun e=>h (e▸d)
    simp[Array.getElem?_setIfInBounds,this]
   |_=>exact .inl rfl
 ·rw[bd a];exact .inl rfl
def setCells(w:World)(b:Nat):Nat->List Value->World
 |_,[]=>w
 |o,v::vs=>setCells (w.setCell (at_ b o) v) b (o+1) vs
def lp{F:ae}(b:Nat)(vs:List Value):∀(w:World) (o:Nat),(∀i,i<vs.length->F b (o+i))->Ext w (setCells w b o vs) F:=by
 induction vs with
 |nil=>intro w o _;exact Ext.refl _ _
 |cons v vs a=>intro w o h;have h1:=Ext.setCell (w:=w) v (h 0 (by simp));have d:=a (w.setCell (at_ b o) v) (o+1) (fun i e=>by have:=h (i+1) (by simp;omega);rwa[show o+1+i=o +(i+1) by omega]);exact h1.trans (d.mono fun _ _ _ h=>h)
def Y1(b:Nat)(vs:List Value):∀(w:World) (o a o':Nat),(setCells w b o vs).frozen? (at_ a o')=w.frozen? (at_ a o'):=by
 induction vs with
 |nil=>intros;rfl
 |cons v vs d=>intro w o a o';rw[setCells,d,Y0]
def t'(b:Nat)(vs:List Value):∀(w:World) (o:Nat),(∀i,i<vs.length->∃u,w.cell? (at_ b (o+i))=some u)->∀a o',
  (setCells w b o vs).cell? (at_ a o')=if b=a/\o<=o'/\o'<o+vs.length then vs[o'-o]? else w.cell? (at_ a o'):=by
 induction vs with
 |nil=>intro w o _ a o';rw[setCells,bd];simp only[cU];omega
 |cons v vs j=>
  intro w o h a o';have d:∃u,w.cell? (at_ b o)=some u:=by simpa using h 0 (by simp)
  have e:=YZ w b o v;rw[setCells,j]
  ·by_cases hb:b=a
   ·subst hb;by_cases h1:o+1<=o'/\o'<o+1+vs.length
    ·rw[bg ⟨rfl,h1⟩,bg ⟨rfl,by omega,by simp;omega⟩];obtain⟨k,hk⟩:∃k,o'-o=k+1:=⟨o'-o-1,by omega⟩
     rw[hk,List.getElem?_cons_succ,show o'-(o+1)=k by omega]
    ·rw[bd (by simpa using h1),e b o' d];by_cases g:o=o'
     ·subst g;rw[bg ⟨rfl,rfl⟩,bg ⟨rfl,bu _,by simp⟩];simp
     ·rw[bd (by simp[g]),bd];simp only[b2];omega
   ·rw[bd (by simp[hb]),bd (by simp[hb]),e a o' d,bd (by simp[hb])]
  ·intro i l;rw[e b _ d];split
   ·exact⟨v,rfl⟩
   ·have:=h (i+1) (by simp;omega);rwa[show o+1+i=o +(i+1) by omega]
def bV(w:World)(b o:Nat)(vs:List Value):Prop:=∀i v,vs[i]?=some v->w.cell? (at_ b (o+i))=some v
def bV.nil(w:World)(b o:Nat):bV w b o []:=by intro i v h;simp at h
def bV.cons{w:World}{b o:Nat}{v:Value}{vs:List Value}(h:w.cell? (at_ b o)=some v)(hs:bV w b (o+1) vs):bV w b o (v::vs):=by
 intro i d a
 cases i with
 |zero=>simp at a;subst a;simpa using h
 |succ i=>rw[List.getElem?_cons_succ]at a;have:=hs i d a;rwa[show o+1+i=o +(i+1) by omega]at this
def bV.head{w:World}{b o:Nat}{v:Value}{vs:List Value}(h:bV w b o (v::vs)):w.cell? (at_ b o)=some v:=by simpa using h 0 v rfl
def bV.tail{w:World}{b o:Nat}{v:Value}{vs:List Value}(h:bV w b o (v::vs)):bV w b (o+1) vs:=by intro i a d;have:=h (i+1) a (by simpa using d);rwa[show o +(i+1)=o+1+i by omega]at this
def bV.append{w:World}{b o:Nat}{us vs:List Value}(h:bV w b o us)(k:bV w b (o+us.length) vs):bV w b o (us++vs):=by
 intro i v hv;rcases ff i us.length with a|a
 ·rw[List.getElem?_append_left a]at hv;exact h i v hv
 ·rw[List.getElem?_append_right a]at hv;have:=k _ v hv;rwa[show o+us.length +(i-us.length)=o+i by omega]at this
def bV.left{w:World}{b o:Nat}{us vs:List Value}(h:bV w b o (us++vs)):bV w b o us:=by
 intro i v hv
 have a:i<us.length:=by
  rcases ff i us.length with h|h
  ·exact h
  ·rw[List.getElem?_eq_none h]at hv;simp at hv
 exact h i v (by rw[List.getElem?_append_left a];exact hv)
def bV.right{w:World}{b o:Nat}{us vs:List Value}(h:bV w b o (us++vs)):bV w b (o+us.length) vs:=by intro i v hv;have:=h (us.length+i) v (by rw[List.getElem?_append_right (by omega),Nat.add_sub_cancel_left];exact hv);rwa[show o +(us.length+i)=o+us.length+i by omega]at this
def bV.part{w:World}{b o:Nat}{vs:List Value}(h:bV w b o vs)(k n:Nat):bV w b (o+k) ((vs.drop k).take n):=by
 intro i v hv;rw[List.getElem?_take]at hv;split at hv
 ·rw[List.getElem?_drop]at hv;have:=h _ v hv;rwa[show o +(k+i)=o+k+i by omega]at this
 ·simp at hv
def bV.of_eq{w w':World}{b o:Nat}{vs:List Value}(h:bV w b o vs)(he:∀i,i<vs.length->w'.cell? (at_ b (o+i))=w.cell? (at_ b (o+i))):bV w' b o vs:=by
 intro i v hv
 have a:i<vs.length:=by
  rcases ff i vs.length with h|h
  ·exact h
  ·rw[List.getElem?_eq_none h]at hv;simp at hv
 rw[he i a];exact h i v hv
def n5(b o n:Nat):(at_ b o).add n=at_ b (o+n):=by
 unfold Addr.add;split
 ·rename_i h;subst h;rfl
 ·rfl
section
variable{P:Program}
def run_pure{α:Type}(x:α)(w:World):(pure x:Sem α).run P w=.ok x w:=rfl
def run_bind{α d:Type}(s:Sem α)(f:α->Sem d)(w:World):(s >>= f).run P w=match s.run P w with|.ok x w'=>(f x).run P w'|.halt h w'=>.halt h w':=by
 show(Sem.bind s f).run P w=_
 induction s generalizing w with
 |pure a=>rfl
 |load m a k b=>
  simp only[Sem.bind,Sem.run]
  cases w.cell? a with
  |some v=>exact b v w
  |none=>
   cases w.farLoad P a (m==.atomic)with
   |error h=>rfl
   |ok r=>exact b r.1 w
 |store m a v k b=>
  cases v with
  |agg _=>rfl
  |tuple _=>rfl
  |_=>
   simp only[Sem.bind,Sem.run]
   cases w.cell? a with
   |some e=>
    dsimp only;split
    ·rfl
    ·exact b _
   |none=>
    dsimp only;split
    ·exact b _
    ·rfl
 |new o k b=>exact b _ _
 |shape r k b=>exact b _ _
 |freeze a n k b=>exact b _
 |frozen a k b=>exact b _ _
 |getObj r k b=>
  simp only[Sem.bind,Sem.run]
  cases w.heap[r]? with
  |none=>rfl
  |some o=>cases o<;>first|rfl|exact b _ _
 |setObj r o k b=>
  simp only[Sem.bind,Sem.run]
  cases w.heap[r]? with
  |none=>rfl
  |some o=>cases o<;>first|rfl|exact b _
 |choose q k b=>simp only[Sem.bind,Sem.run];split<;>exact b _ _
 |sys c k b=>exact b _ _
 |program k b=>exact b _ _
 |mark m k b=>exact b _
 |halt h=>rfl
def dD:Value->Bool
 |.agg _|.tuple _=>false
 |_=>true
def run_load{w:World}{b o:Nat}{v:Value}(h:w.cell? (at_ b o)=some v):(load (at_ b o)).run P w=.ok v w:=by simp[load,Sem.run,h]
def run_loadCellsFrom{w:World}(b o:Nat)(vs:List Value):∀(k:Nat) (acc:Array Value),bV w b (o+k) vs →
  (loadCellsFrom (at_ b o) k vs.length acc).run P w=.ok (acc++vs.toArray) w:=by
 induction vs with
 |nil=>intro k acc _;simp[loadCellsFrom,run_pure]
 |cons v vs a=>intro k acc h;simp only[b2,loadCellsFrom];rw[run_bind,n5,run_load h.head];simp only;rw[a (k+1) (acc.push v) (by rw[<-dQ];exact h.tail)];congr 1;apply Array.ext';simp
def run_loadCells{w:World}{b o:Nat}{vs:List Value}(h:bV w b o vs):(loadCells (at_ b o) vs.length).run P w=.ok vs.toArray w:=by unfold loadCells;rw[run_loadCellsFrom b o vs 0 #[] (by simpa using h)];simp
def run_store{w:World}{b o:Nat}{v:Value}(hv:dD v=true)(h:eS w b o):(store (at_ b o) v).run P w=.ok () (w.setCell (at_ b o) v):=by obtain⟨⟨a,d⟩,e⟩:=h;cases v<;>simp_all[store,Sem.run,dD]
def yY{b o:Nat}(vs:List Value):∀(w:World) (k:Nat),(∀v∈vs,dD v=true)->(∀i,i<vs.length->eS w b (o+k+i)) →
  (storeCells (at_ b o) vs k).run P w=.ok () (setCells w b (o+k) vs):=by
 induction vs with
 |nil=>intros;rfl
 |cons v vs d=>
  intro w k h1 a;unfold storeCells;have e:eS w b (o+k):=a 0 (by simp);rw[run_bind,n5,run_store (h1 v (by simp)) e];simp only;rw[d _ (k+1) (fun v hv=>h1 v (by simp[hv]))]
  ·rfl
  ·intro i g;have:=a (i+1) (by simp;omega);refine Ext.nU (Ext.setCell (F:=fun _ _=>True) v trivial) ?_;rwa[show o +(k+1)+i=o+k +(i+1) by omega]
end
end Go.LM
namespace Go.LM
def Row{α:Type}(w:World)(R:α->List Value->ae->Prop)(size:Nat):List α->Nat->Nat->ae->Prop
 | [],_,_,_=>True
 |x::xs,b,o,F=>∃vs G H,R x vs G/\vs.length=size/\bV w b o vs/\Row w R size xs b (o+size) H/\ae.apart G H/\ae.sub G F/\ae.sub H F
structure iA{α:Type}(w:World)(R:α->List Value->ae->Prop)(size:Nat)(x:List α)(a:Addr)(c:Nat)(F:ae):Prop where
 spot:a.spot=none
 cap:x.length<=c
 wr:∀j,j<c*size->fb w size a.block (a.off+j)
 inF:∀j,j<c*size->F a.block (a.off+j)
 row:∃G,Row w R size x a.block a.off G/\(∀j,j<c*size->¬G a.block (a.off+j))/\ae.sub G F
mutual
def U.al(w:World)(Z:ae):(t:U)->a8->t.D->List Value->ae->Prop
 |.int k,_,x,vs,_=>vs=[.int k x]
 |.bool,_,x,vs,_=>vs=[.bool x]
 |.str,_,x,vs,_=>∃s:ByteArray,vs=[.string s]/\s.data.toList=x
 |.raw,_,x,vs,_=>vs=[x]/\∃A n c,x=.slice A n c
 |.sl t,.O e,x,vs,F=>∃A c,vs=[.slice A x.length c]/\((x=[]/\c=0)\/∃a,A=some a/\iA w (t.al w Z e) t.size x a c F)
 |.sl t,_,x,vs,_=>∃A c,vs=[.slice A x.length c]/\(x=[]\/∃a,A=some a/\a.spot=none/\Row w (fun d us _=>t.al w Z .R d us ae.none) t.size x a.block a.off ae.none/\(∀j,j<x.length*t.size->Z a.block (a.off+j))/\x.length<=c)
 |.st ah,m,x,vs,F=>ah.al w Z m.parts x vs F
def aw.al(w:World)(Z:ae):(ah:aw)->cA->ah.D->List Value->ae->Prop
 |.nil,_,_,vs,_=>vs=[]
 |.cons t ah,m,x,vs,F=>∃us b G H,vs=us++b/\t.al w Z m.aa x.1 us G/\ah.al w Z m.dq x.2 b H/\ae.apart G H/\ae.sub G F/\ae.sub H F
end
def bS(w w':World)(S:ae):Prop:=∀b o,S b o->w'.cell? (at_ b o)=w.cell? (at_ b o)/\∀k,w'.frozen? (at_ b k)=w.frozen? (at_ b k)
def bS.mono{w w':World}{S T:ae}(h:bS w w' S)(hs:ae.sub T S):bS w w' T:=fun b o a=>h b o (hs b o a)
def bS.nU{w w':World}{S:ae}(h:bS w w' S){b o:Nat}(hs:S b o)(a:eS w b o):eS w' b o:=by obtain⟨⟨v,hv⟩,d⟩:=a;exact⟨⟨v,by rw[(h b o hs).1];exact hv⟩,by rw[(h b o hs).2 o];exact d⟩
def bS.iz{w w':World}{S:ae}(h:bS w w' S){size b o:Nat}(hs:S b o)(a:fb w size b o):fb w' size b o:=
 ⟨h.nU hs a.1,a.2.imp id fun hk k=>by rw[(h b o hs).2 k];exact hk k⟩
def bS.wh{w w':World}{S:ae}(h:bS w w' S){b o:Nat}{vs:List Value}(hs:∀i,i<vs.length->S b (o+i))(hc:bV w b o vs):bV w' b o vs:=
 hc.of_eq fun i a=>(h b _ (hs i a)).1
def bS.refl(w:World)(S:ae):bS w w S:=fun _ _ _=>⟨rfl,fun _=>rfl⟩
def bS.trans{a b c:World}{S:ae}(h:bS a b S)(k:bS b c S):bS a c S:=fun i o hs=>⟨(k i o hs).1.trans (h i o hs).1,fun j=>((k i o hs).2 j).trans ((h i o hs).2 j)⟩
def Row.mono{α:Type}{w:World}{R:α->List Value->ae->Prop}{size:Nat}{F F':ae}(a:ae.sub F F'):∀{x:List α}{b o:Nat},Row w R size x b o F->Row w R size x b o F'
 | [],_,_,_=>trivial
 |_::_,_,_,⟨vs,G,H,h1,d,e,g,i,j,k⟩=>⟨vs,G,H,h1,d,e,g,i,fun b o h=>a b o (j b o h),fun b o h=>a b o (k b o h)⟩
def Row.imp{α:Type}{w w':World}{R ie:α->List Value->ae->Prop}{size:Nat}:∀{x:List α}{b o:Nat}{F:ae},Row w R size x b o F →
  (∀y vs G,ae.sub G F->R y vs G->ie y vs G)->(∀j,j<x.length*size->w'.cell? (at_ b (o+j))=w.cell? (at_ b (o+j)))->Row w' ie size x b o F
 | [],_,_,_,_,_,_=>trivial
 |y::x,b,o,F,⟨vs,G,H,h1,g,k,l,m,a,d⟩,e,hc=>by
  refine⟨vs,G,H,e _ _ _ a h1,g,k.of_eq fun i q=>hc i ?_,?_,m,a,d⟩
  ·rw[b2,de];omega
  ·refine Row.imp l (fun y vs n p=>e y vs n fun b o h=>d b o (p b o h)) fun j r=>?_
   have:=hc (size+j) (by rw[b2,de];omega);rwa[<-dQ]at this
def Row.bare{α:Type}{w:World}{R ie:α->List Value->ae->Prop}{size:Nat}:∀{x:List α}{b o:Nat}{F:ae},Row w R size x b o F →
  (∀y vs G,ae.sub G F->R y vs G->ie y vs ae.none)->Row w ie size x b o ae.none
 | [],_,_,_,_,_=>trivial
 |y::x,b,o,F,⟨vs,G,H,h1,d,e,g,m,i,j⟩,a=>⟨vs,ae.none,ae.none,a _ _ _ i h1,d,e,Row.bare g fun y vs k l=>a y vs k fun b o h=>j b o (l b o h),fun _ _ h=>h.elim,fun _ _ h=>h,fun _ _ h=>h⟩
mutual
def U.al.mono{w:World}{Z Z':ae}(g:ae.sub Z Z'):∀(t:U) (m:a8) {x:t.D}{vs:List Value}{F F':ae},ae.sub F F'->t.al w Z m x vs F->t.al w Z' m x vs F'
 |.int _,_,_,_,_,_,_,h=>by simpa only[U.al]using h
 |.bool,_,_,_,_,_,_,h=>by simpa only[U.al]using h
 |.str,_,_,_,_,_,_,h=>by simpa only[U.al]using h
 |.raw,_,_,_,_,_,_,h=>by simpa only[U.al]using h
 |.sl t,.O e,x,vs,F,F',i,h=>by
  simp only[U.al]at h⊢;obtain⟨A,c,h1,k⟩:=h;refine⟨A,c,h1,k.imp id ?_⟩
  rintro⟨a,l,d⟩
  obtain⟨G,u,v,y⟩:=d.row;exact⟨a,l,d.spot,d.cap,d.wr,fun j p=>i _ _ (d.inF j p),G,u.imp (fun r vs s _=>U.al.mono g t e fun _ _ h=>h) (fun _ _=>rfl),v,fun b o h=>i b o (y b o h)⟩
 |.sl t,.R,x,vs,F,F',i,h=>by
  simp only[U.al]at h⊢;obtain⟨A,c,h1,k⟩:=h;refine⟨A,c,h1,k.imp id ?_⟩
  rintro⟨a,l,d,q,n⟩
  exact⟨a,l,d,q.imp (fun r vs s _=>U.al.mono g t .R fun _ _ h=>h) (fun _ _=>rfl),fun j p=>g _ _ (n.1 j p),n.2⟩
 |.sl t,.S _,x,vs,F,F',i,h=>by
  simp only[U.al]at h⊢;obtain⟨A,c,h1,k⟩:=h;refine⟨A,c,h1,k.imp id ?_⟩
  rintro⟨a,l,d,q,n⟩
  exact⟨a,l,d,q.imp (fun r vs s _=>U.al.mono g t .R fun _ _ h=>h) (fun _ _=>rfl),fun j p=>g _ _ (n.1 j p),n.2⟩
 |.st ah,m,x,vs,F,F',i,h=>by simp only[U.al]at h⊢;exact aw.al.mono g ah m.parts i h
def aw.al.mono{w:World}{Z Z':ae}(g:ae.sub Z Z'):∀(ah:aw) (m:cA) {x:ah.D}{vs:List Value}{F F':ae},ae.sub F F'->ah.al w Z m x vs F->ah.al w Z' m x vs F'
 |.nil,_,_,_,_,_,_,h=>by simpa only[aw.al]using h
 |.cons t ah,m,x,vs,F,F',i,h=>by simp only[aw.al]at h⊢;obtain⟨us,z,G,H,h1,k,l,d,q,n⟩:=h;exact⟨us,z,G,H,h1,U.al.mono g t m.aa (fun _ _ h=>h) k,aw.al.mono g ah m.dq (fun _ _ h=>h) l,d,fun b o h=>i b o (q b o h),fun b o h=>i b o (n b o h)⟩
end
mutual
def U.al.same{w w':World}{Z:ae}(i:bS w w' Z):∀(t:U) (m:a8) {x:t.D}{vs:List Value}{F:ae},bS w w' F->t.al w Z m x vs F->t.al w' Z m x vs F
 |.int _,_,_,_,_,_,h=>by simpa only[U.al]using h
 |.bool,_,_,_,_,_,h=>by simpa only[U.al]using h
 |.str,_,_,_,_,_,h=>by simpa only[U.al]using h
 |.raw,_,_,_,_,_,h=>by simpa only[U.al]using h
 |.sl t,.O e,x,vs,F,g,h=>by
  simp only[U.al]at h⊢;obtain⟨A,c,h1,l⟩:=h;refine⟨A,c,h1,l.imp id ?_⟩
  rintro⟨a,n,d⟩
  obtain⟨G,v,y,r⟩:=d.row;have hle:x.length*t.size<=c*t.size:=c3 _ d.cap;exact⟨a,n,d.spot,d.cap,fun j p=>g.iz (d.inF j p) (d.wr j p),d.inF,G,v.imp (fun s vs u z=>U.al.same i t e (g.mono fun b o h=>r b o (z b o h))) (fun j p=>(g _ _ (d.inF j (by omega))).1),y,r⟩
 |.sl t,.R,x,vs,F,g,h=>by
  simp only[U.al]at h⊢;obtain⟨A,c,h1,l⟩:=h;refine⟨A,c,h1,l.imp id ?_⟩
  rintro⟨a,n,d,q,k⟩
  exact⟨a,n,d,q.imp (fun s vs u _=>U.al.same i t .R (fun _ _ h=>h.elim)) (fun j p=>(i _ _ (k.1 j p)).1),k⟩
 |.sl t,.S _,x,vs,F,g,h=>by
  simp only[U.al]at h⊢;obtain⟨A,c,h1,l⟩:=h;refine⟨A,c,h1,l.imp id ?_⟩
  rintro⟨a,n,d,q,k⟩
  exact⟨a,n,d,q.imp (fun s vs u _=>U.al.same i t .R (fun _ _ h=>h.elim)) (fun j p=>(i _ _ (k.1 j p)).1),k⟩
 |.st ah,m,x,vs,F,g,h=>by simp only[U.al]at h⊢;exact aw.al.same i ah m.parts g h
def aw.al.same{w w':World}{Z:ae}(i:bS w w' Z):∀(ah:aw) (m:cA) {x:ah.D}{vs:List Value}{F:ae},bS w w' F->ah.al w Z m x vs F->ah.al w' Z m x vs F
 |.nil,_,_,_,_,_,h=>by simpa only[aw.al]using h
 |.cons t ah,m,x,vs,F,g,h=>by simp only[aw.al]at h⊢;obtain⟨us,B,G,H,h1,l,n,d,q,k⟩:=h;exact⟨us,B,G,H,h1,U.al.same i t m.aa (g.mono q) l,aw.al.same i ah m.dq (g.mono k) n,d,q,k⟩
end
mutual
def U.al.len{w:World}{Z:ae}:∀(t:U) (m:a8) {x:t.D}{vs:List Value}{F:ae},t.al w Z m x vs F->vs.length=t.size/\∀v∈vs,dD v=true
 |.int _,_,_,_,_,h=>by simp only[U.al]at h;subst h;simp[U.size,dD]
 |.bool,_,_,_,_,h=>by simp only[U.al]at h;subst h;simp[U.size,dD]
 |.str,_,_,_,_,h=>by simp only[U.al]at h;obtain⟨s,rfl,_⟩:=h;simp[U.size,dD]
 |.raw,_,_,_,_,h=>by simp only[U.al]at h;obtain⟨rfl,A,n,c,rfl⟩:=h;simp[U.size,dD]
 |.sl t,.O e,x,vs,F,h=>by simp only[U.al]at h;obtain⟨A,c,rfl,_⟩:=h;simp[U.size,dD]
 |.sl t,.R,x,vs,F,h=>by simp only[U.al]at h;obtain⟨A,c,rfl,_⟩:=h;simp[U.size,dD]
 |.sl t,.S _,x,vs,F,h=>by simp only[U.al]at h;obtain⟨A,c,rfl,_⟩:=h;simp[U.size,dD]
 |.st ah,m,x,vs,F,h=>by simp only[U.al]at h;simpa only[U.size]using aw.al.len ah m.parts h
def aw.al.len{w:World}{Z:ae}:∀(ah:aw) (m:cA) {x:ah.D}{vs:List Value}{F:ae},ah.al w Z m x vs F->vs.length=ah.size/\∀v∈vs,dD v=true
 |.nil,_,_,_,_,h=>by simp only[aw.al]at h;subst h;simp[aw.size]
 |.cons t ah,m,x,vs,F,h=>by
  simp only[aw.al]at h;obtain⟨us,i,G,H,rfl,d,g,_⟩:=h;have a:=U.al.len t m.aa d;have b:=aw.al.len ah m.dq g;refine⟨by simp[aw.size,a.1,b.1],fun v hv=>?_⟩;rcases List.mem_append.1 hv with h|h
  ·exact a.2 v h
  ·exact b.2 v h
end
mutual
def U.al.read{w:World}{Z Z':ae}(g:ae.sub Z Z'):∀(t:U) (m:a8) {x:t.D}{vs:List Value}{F:ae},ae.sub F Z'->t.al w Z m x vs F->t.al w Z' .R x vs ae.none
 |.int _,_,_,_,_,_,h=>by simpa only[U.al]using h
 |.bool,_,_,_,_,_,h=>by simpa only[U.al]using h
 |.str,_,_,_,_,_,h=>by simpa only[U.al]using h
 |.raw,_,_,_,_,_,h=>by simpa only[U.al]using h
 |.sl t,.O e,x,vs,F,d,h=>by
  simp only[U.al]at h⊢;obtain⟨A,c,h1,k⟩:=h;refine⟨A,c,h1,?_⟩;rcases k with⟨h,_⟩|⟨a,l,i⟩
  ·exact .inl h
  ·obtain⟨G,n,v,p⟩:=i.row;have hle:x.length*t.size<=c*t.size:=c3 _ i.cap;exact .inr ⟨a,l,i.spot,n.bare fun y vs z q=>U.al.read g t e (fun b o h=>d b o (p b o (q b o h))),fun j B=>d _ _ (i.inF j (by omega)),i.cap⟩
 |.sl t,.R,x,vs,F,d,h=>U.al.mono g (.sl t) .R (F:=ae.none) (fun _ _ h=>h) (by simpa only[U.al]using h)
 |.sl t,.S _,x,vs,F,d,h=>U.al.mono g (.sl t) .R (F:=ae.none) (fun _ _ h=>h) (by simpa only[U.al]using h)
 |.st ah,m,x,vs,F,d,h=>by simp only[U.al]at h⊢;exact aw.al.read g ah m.parts d h
def aw.al.read{w:World}{Z Z':ae}(g:ae.sub Z Z'):∀(ah:aw) (m:cA) {x:ah.D}{vs:List Value}{F:ae},ae.sub F Z'->ah.al w Z m x vs F->ah.al w Z' (a8.parts .R) x vs ae.none
 |.nil,_,_,_,_,_,h=>by simpa only[aw.al]using h
 |.cons t ah,m,x,vs,F,d,h=>by simp only[aw.al]at h⊢;obtain⟨us,r,G,H,h1,k,l,i,s,u⟩:=h;exact⟨us,r,ae.none,ae.none,h1,U.al.read g t m.aa (fun b o h=>d b o (s b o h)) k,aw.al.read g ah m.dq (fun b o h=>d b o (u b o h)) l,fun _ _ h=>h.elim,fun _ _ h=>h,fun _ _ h=>h⟩
end
mutual
def pI{w:World}{Z:ae}:∀{t:U}{x:t.D}{vs:List Value}{F:ae},t.al w Z .R x vs F->t.al w Z .R x vs ae.none
 |.int _,_,_,_,h=>by simpa only[U.al]using h
 |.bool,_,_,_,h=>by simpa only[U.al]using h
 |.str,_,_,_,h=>by simpa only[U.al]using h
 |.raw,_,_,_,h=>by simpa only[U.al]using h
 |.sl t,_,_,_,h=>by simpa only[U.al]using h
 |.st ah,_,_,_,h=>by simp only[U.al]at h⊢;exact OR h
def OR{w:World}{Z:ae}:∀{ah:aw}{x:ah.D}{vs:List Value}{F:ae},ah.al w Z (a8.parts .R) x vs F->ah.al w Z (a8.parts .R) x vs ae.none
 |.nil,_,_,_,h=>by simpa only[aw.al]using h
 |.cons t ah,_,_,_,h=>by simp only[aw.al]at h⊢;obtain⟨us,a,G,H,h1,b,d,e,g,i⟩:=h;exact⟨us,a,ae.none,ae.none,h1,pI b,OR d,fun _ _ h=>h.elim,fun _ _ h=>h,fun _ _ h=>h⟩
end
mutual
def py{w:World}{Z Z':ae}:∀(t:U) {m m':a8}{x:t.D}{vs:List Value}{F F':ae},t.flat=true->t.al w Z m x vs F->t.al w Z' m' x vs F'
 |.int _,_,_,_,_,_,_,_,h=>by simpa only[U.al]using h
 |.bool,_,_,_,_,_,_,_,h=>by simpa only[U.al]using h
 |.str,_,_,_,_,_,_,_,h=>by simpa only[U.al]using h
 |.raw,_,_,_,_,_,_,_,h=>by simpa only[U.al]using h
 |.sl t,_,_,_,_,_,_,a,h=>by simp[U.flat]at a
 |.st ah,_,_,_,_,_,_,a,h=>by simp only[U.flat]at a;simp only[U.al]at h⊢;exact OS ah a h
def OS{w:World}{Z Z':ae}:∀(ah:aw) {m m':cA}{x:ah.D}{vs:List Value}{F F':ae},ah.flat=true->ah.al w Z m x vs F->ah.al w Z' m' x vs F'
 |.nil,_,_,_,_,_,_,_,h=>by simpa only[aw.al]using h
 |.cons t ah,_,_,_,_,_,_,a,h=>by
  simp only[aw.flat]at a;simp only[aw.al]at h⊢;obtain⟨us,b,G,H,h1,d,e,g,i,j⟩:=h;cases hb:t.flat
  ·rw[hb]at a;simp at a
  ·rw[hb]at a;exact⟨us,b,ae.none,ae.none,h1,py t hb d,OS ah a e,fun _ _ h=>h.elim,fun _ _ h=>h.elim,fun _ _ h=>h.elim⟩
end
mutual
def rn{w:World}{Z Z':ae}:∀(t:U) {x:t.D}{vs:List Value}{F:ae},t.al w Z t.own x vs F->t.al w Z' t.own x vs F
 |.int _,_,_,_,h=>by simpa only[U.al]using h
 |.bool,_,_,_,h=>by simpa only[U.al]using h
 |.str,_,_,_,h=>by simpa only[U.al]using h
 |.raw,_,_,_,h=>by simpa only[U.al]using h
 |.sl t,_,_,_,h=>by
  simp only[U.own,U.al]at h⊢;obtain⟨A,c,h1,d⟩:=h;refine⟨A,c,h1,d.imp (fun h=>h) ?_⟩
  rintro⟨a,e,b⟩
  obtain⟨G,g,i,j⟩:=b.row;exact⟨a,e,b.spot,b.cap,b.wr,b.inF,G,g.imp (fun n vs o _=>rn t) (fun _ _=>rfl),i,j⟩
 |.st ah,_,_,_,h=>by
  simp only[U.own]at h⊢;cases hb:ah.flat
  ·rw[hb]at h;simp only[U.al,a8.parts,gq,fT]at h⊢;exact zc ah h
  ·rw[hb]at h;exact py (.st ah) (by simp only[U.flat];exact hb) h
def zc{w:World}{Z Z':ae}:∀(ah:aw) {x:ah.D}{vs:List Value}{F:ae},ah.al w Z ah.own x vs F->ah.al w Z' ah.own x vs F
 |.nil,_,_,_,h=>by simpa only[aw.al]using h
 |.cons t ah,_,_,_,h=>by simp only[aw.own,aw.al,cA.aa,cA.dq]at h⊢;obtain⟨us,k,G,H,h1,d,e,b,l,m⟩:=h;exact⟨us,k,G,H,h1,rn t d,zc ah e,b,l,m⟩
end
end Go.LM
namespace Go.LM
structure bz where
 base:Option Addr
 cap:Nat
 F:ae
def db(ι:Nat->bz)(dp:List (Nat×Nat)):ae:=fun b o=>∃d,d∈dp/\(ι d.1).F b o
def known(s:av)(id:Nat):Prop:=s.o id≠.none
def ee(s:av)(d:Nat×Nat):Prop:=known s d.1/\(s.o d.1=.dead\/d.2<=jK s d.1)
def b9.live:b9->Prop
 |.row .. |.var .. |.hole .. => True
 |_=>False
structure Hb(i:bz)(size:Nat)(sub:Option (Nat×Nat))(len:Nat)(A:Option Addr)(n c:Nat):Prop where
 OT:n=match sub with|none=>len|some (_,m)=>m
 fits:dz sub+n<=len
 le:n<=c
 cap:dz sub+c<=i.cap
 at_:c=0\/∃a,i.base=some a/\A=some (at_ a.block (a.off+dz sub*size))
def kk{o:b9}{t:U}{em:a8}{ver:Nat}{xs:List t.D}(h:o=.row t em ver xs):o.core=.row t em ver xs:=by rw[h];rfl
def iG(s:av)(ι:Nat->bz)(p:Place)(a:Addr):Prop:=
 a.spot=none/\match (s.o p.id).core with
  |.var _ cs=>p.eH=none/\∃b,(ι p.id).base=some b/\a=at_ b.block (b.off+p.off)
  |.row t _ _ xs=>∃i,p.eH=some i/\i<xs.length/\∃b,(ι p.id).base=some b/\a=at_ b.block (b.off+i*t.size+p.off)
  |_=>True
def pJ(w:World)(s:av)(ι:Nat->bz)(dp:List (Nat×Nat))(a:Option Place)(v:Value):Prop:=
 ∀p,a=some p->(∃d,d∈dp/\d.1=p.id)/\(alive s dp=true->∃b o,iG s ι p (at_ b o)/\w.cell? (at_ b o)=some v/\(ι p.id).F b o)
def pJ.none{w:World}{s:av}{ι:Nat->bz}{dp:List (Nat×Nat)}{v:Value}:pJ w s ι dp none v:=fun p h=>by cases h
def cd(w:World)(Z:ae)(s:av)(ι:Nat->bz):a7->Value->Prop
 |.int k x,v=>v=.int k x
 |.bool x,v=>v=.bool x
 |.str x,v=>∃b:ByteArray,v=.string b/\b.data.toList=x
 |.raw x,v=>v=x/\∃A n c,x=.slice A n c
 |.nil _,v=>v=.slice none 0 0
 |.bq t dp a xs,v=>(∀d,d∈dp->ee s d)/\(∃A n c,v=.slice A n c) ∧
   (alive s dp=true->(U.sl t).al w (Z.or (db ι dp)) .R xs [v] ae.none)/\pJ w s ι dp a v
 |.aa id sub,v=>known s id/\∃A n c,v=.slice A n c/\∀t em ver xs,(s.o id).core=.row t em ver xs->Hb (ι id) t.size sub xs.length A n c
def bG(w:World)(Z:ae)(s:av)(ι:Nat->bz):List a7->List Value->Prop
 | [],[]=>True
 |c::cs,v::vs=>cd w Z s ι c v/\bG w Z s ι cs vs
 |_,_=>False
mutual
def aR(w:World)(Z:ae)(s:av)(ι:Nat->bz):aY->Value->Prop
 |.bf,_=>True
 |.gone,v=>v=undef
 |.aP c,v=>cd w Z s ι c v
 |.hJ cs,v=>∃vs,v=.agg vs.toArray/\bG w Z s ι cs vs
 |.ptr p,v=>known s p.id/\∃a,v=.pointer (some a)/\iG s ι p a
 |.c2 dp cs off,v=>(∀d,d∈dp->ee s d)/\∃b o vs,v=.pointer (some (at_ b (o+off))) ∧
   (alive s dp=true->bG w Z s ι cs vs/\bV w b o vs/\∀j,j<cs.length->Z.or (db ι dp) b (o+j))
 |.jl,v=>v=.pointer none
 |.jX,v=>v=.slice none 0 0
 |.opt id o,v=>known s id/\((o<0/\v=.pointer none)\/(0<=o/\∃a,v=.pointer (some a)/\iG s ι ⟨id,some o.toNat,0⟩ a))
 |.pB t,v=>v.cells.toList.length=t.size/\∀g∈v.cells.toList,LM.dD g=true
 |.may b dp cs,v=>(b=false/\v=.pointer none)\/(b=true/\(∀d,d∈dp->ee s d)/\∃b o vs,v=.pointer (some (at_ b (o+0))) ∧
   (alive s dp=true->bG w Z s ι cs vs/\bV w b o vs/\∀j,j<cs.length->Z.or (db ι dp) b (o+j)))
 |.fn f first kh,v=>∃us vs,v=.func (.func f) us.toArray vs.toArray/\aX w Z s ι first us/\aX w Z s ι kh vs
 |.mZ l,v=>∃vs,v=.tuple vs.toArray/\aX w Z s ι l vs
def aX(w:World)(Z:ae)(s:av)(ι:Nat->bz):List aY->List Value->Prop
 | [],vs=>vs=[]
 |x::l,vs=>∃v e,vs=v::e/\aR w Z s ι x v/\aX w Z s ι l e
end
def Hc(w:World)(Z:ae)(t:U)(em:a8):Option t.D->List Value->ae->Prop
 |some b,us,G=>t.al w Z em b us G
 |none,us,_=>∀a,a∈us->LM.dD a=true
def mj{α:Type}(xs:List α)(k:Nat):List (Option α):=(xs.map some).set k none
def zd{α:Type}(xs:List α)(k:Nat):(mj xs k).length=xs.length:=by simp[mj]
def gd(w:World)(Z:ae)(s:av)(ι:Nat->bz)(i:bz):b9->Prop
 |.row t em _ xs=>(xs=[]/\i.cap=0)\/∃a,i.base=some a/\iA w (t.al w Z em) t.size xs a i.cap i.F
 |.var _ cs=>∃a vs,i.base=some a/\a.spot=none/\bG w Z s ι cs vs/\bV w a.block a.off vs ∧
   (∀j,j<cs.length->eS w a.block (a.off+j)/\i.F a.block (a.off+j))
 |.hole t em _ xs k=>∃a,i.base=some a/\iA w (Hc w Z t em) t.size (mj xs k) a i.cap i.F
 |_=>True
structure Seen where
 dp:List (Nat×Nat)
 b:Nat
 o:Nat
 vs:List Value
def rp(w:World)(Z:ae)(s:av)(ι:Nat->bz)(e:Seen):Prop:=
 (∀d,d∈e.dp->ee s d)/\(alive s e.dp=true->bV w e.b e.o e.vs/\∀j,j<e.vs.length->Z.or (db ι e.dp) e.b (e.o+j))
structure cl where
 n:Nat
 n6:List Value
 gc:List Seen
instance:Coe cl Nat:=⟨cl.n⟩
structure Inv(w0:World)(F0 Z0:ae)(n:cl)(s:av)(a:Act)(w:World)(ι:Nat->bz)(Z:ae):Prop where
 ext:Ext w0 w F0
 dt:∀b o,Z b o->Z0 b o\/F0 b o\/w0.heap.size<=b
 pK:ae.sub Z0 Z
 hK:∀b o,Z b o->b<w.heap.size
 eU:∀id,gd w Z s ι (ι id) (s.o id)
 own:∀id,(s.o id).live->∀b o,(ι id).F b o->(F0 b o\/w0.heap.size<=b)/\b<w.heap.size
 apart:∀id dR,(s.o id).live->(s.o dR).live->id≠dR->ae.apart (ι id).F (ι dR).F
 cB:∀id,(s.o id).live->ae.apart (ι id).F Z
 tmps:∀k,aR w Z s ι (s.t k) (a.tmps.getD k undef)
 size:a.tmps.size=n.n
 ghost:aX w Z s ι s.g n.n6
 seen:∀e,e∈n.gc->rp w Z s ι e
 defers:a.defers=[]
def bG.len{w:World}{Z:ae}{s:av}{ι:Nat->bz}:∀{cs:List a7}{vs:List Value},bG w Z s ι cs vs->vs.length=cs.length
 | [],[],_=>rfl
 |_::_,_::_,h=>by simp[bG.len h.2]
 | [],_::_,h=>h.elim
 |_::_,[],h=>h.elim
def cd.dD{w:World}{Z:ae}{s:av}{ι:Nat->bz}:∀{c:a7}{v:Value},cd w Z s ι c v->LM.dD v=true
 |.int _ _,_,h=>by cases h;rfl
 |.bool _,_,h=>by cases h;rfl
 |.str _,_,⟨_,h,_⟩=>by cases h;rfl
 |.raw _,_,⟨h,_,_,_,a⟩=>by subst h;subst a;rfl
 |.nil _,_,h=>by cases h;rfl
 |.bq _ _ _ _,_,⟨_,⟨_,_,_,h⟩,_,_⟩=>by cases h;rfl
 |.aa _ _,_,⟨_,_,_,_,h,_⟩=>by cases h;rfl
def bG.dD{w:World}{Z:ae}{s:av}{ι:Nat->bz}:∀{cs:List a7}{vs:List Value},bG w Z s ι cs vs->∀v∈vs,LM.dD v=true
 | [],[],_=>by simp
 |_::_,_::_,h=>by
  intro v hv;rcases List.mem_cons.1 hv with rfl|hv
  ·exact h.1.dD
  ·exact bG.dD h.2 v hv
 | [],_::_,h=>h.elim
 |_::_,[],h=>h.elim
def bG.append{w:World}{Z:ae}{s:av}{ι:Nat->bz}:∀{cs ds:List a7}{us vs:List Value},bG w Z s ι cs us->bG w Z s ι ds vs->bG w Z s ι (cs++ds) (us++vs)
 | [],_,[],_,_,k=>k
 |_::_,_,_::_,_,h,k=>⟨h.1,bG.append h.2 k⟩
 | [],_,_::_,_,h,_=>h.elim
 |_::_,_,[],_,h,_=>h.elim
def bG.split{w:World}{Z:ae}{s:av}{ι:Nat->bz}:∀{cs ds:List a7}{vs:List Value},bG w Z s ι (cs++ds) vs →
  ∃us ah,vs=us++ah/\us.length=cs.length/\bG w Z s ι cs us/\bG w Z s ι ds ah
 | [],ds,vs,h=>⟨[],vs,rfl,rfl,trivial,h⟩
 |c::cs,ds,v::vs,h=>by obtain⟨us,ah,h1,a,b,d⟩:=bG.split (cs:=cs) h.2;exact⟨v::us,ah,by rw[h1];rfl,by simp[a],⟨h.1,b⟩,d⟩
 |_::_,_,[],h=>h.elim
def bG.drop{w:World}{Z:ae}{s:av}{ι:Nat->bz}:∀(k:Nat) {cs:List a7}{vs:List Value},bG w Z s ι cs vs->bG w Z s ι (cs.drop k) (vs.drop k)
 |0,_,_,h=>h
 |_+1,[],[],h=>h
 |k+1,_::_,_::_,h=>bG.drop k h.2
 |_+1,[],_::_,h=>h.elim
 |_+1,_::_,[],h=>h.elim
def bG.take{w:World}{Z:ae}{s:av}{ι:Nat->bz}:∀(k:Nat) {cs:List a7}{vs:List Value},bG w Z s ι cs vs->bG w Z s ι (cs.take k) (vs.take k)
 |0,_,_,h=>trivial
 |_+1,[],[],h=>h
 |k+1,_::_,_::_,h=>⟨h.1,bG.take k h.2⟩
 |_+1,[],_::_,h=>h.elim
 |_+1,_::_,[],h=>h.elim
def bG.mono{w w':World}{Z Z':ae}{s an:av}{ι a':Nat->bz}(hc:∀c v,cd w Z s ι c v->cd w' Z' an a' c v):
  ∀{cs:List a7}{vs:List Value},bG w Z s ι cs vs->bG w' Z' an a' cs vs
 | [],[],_=>trivial
 |_::_,_::_,h=>⟨hc _ _ h.1,bG.mono hc h.2⟩
 | [],_::_,h=>h.elim
 |_::_,[],h=>h.elim
inductive gf:b9->bz->b9->bz->Prop
 |stay (o:b9) (i:bz):gf o i o i
 |made (o':b9) (i cW:bz):gf .none i o' cW
 |dead (o:b9) (i cW:bz):gf o i .dead cW
 |row (t:U) (em eV:a8) (v di:Nat) (xs et:List t.D) (i cW:bz) (hv:v<di) (hl:et.length=xs.length) (hb:cW.base=i.base) (hc:cW.cap=i.cap):gf (.row t em v xs) i (.row t eV di et) cW
 |var (v di:Nat) (cs cs':List a7) (i:bz) (hv:v<di) (hl:cs'.length=cs.length):gf (.var v cs) i (.var di cs') i
 |e5 (o:b9) (i:bz) (hl:o.live):gf o i (.b7 o) i
 |pL (t:U) (em eV:a8) (v di:Nat) (xs et:List t.D) (i cW:bz) (hv:v<di) (hl:et.length=xs.length) (hb:cW.base=i.base) (hc:cW.cap=i.cap):gf (.b7 (.row t em v xs)) i (.row t eV di et) cW
 |n7 (t:U) (em:a8) (v di:Nat) (xs:List t.D) (k:Nat) (i cW:bz) (hv:v<=di) (hb:cW.base=i.base) (hc:cW.cap=i.cap):gf (.row t em v xs) i (.hole t em di xs k) cW
 |fill (t:U) (em eV:a8) (v di:Nat) (xs et:List t.D) (k:Nat) (i cW:bz) (hv:v<di) (hl:et.length=xs.length) (hb:cW.base=i.base) (hc:cW.cap=i.cap):gf (.hole t em v xs k) i (.row t eV di et) cW
 |wi (v di:Nat) (cs cs':List a7) (i cW:bz) (hv:v<di) (hb:cW.base=i.base):gf (.b7 (.var v cs)) i (.var di cs') cW
def pM(s:av)(ι:Nat->bz)(an:av)(a':Nat->bz):Prop:=∀id,gf (s.o id) (ι id) (an.o id) (a' id)
def pM.known{s an:av}{ι a':Nat->bz}(h:pM s ι an a'){id:Nat}(hk:known s id):known an id:=by unfold LM.known at *;have:=h id;generalize s.o id=o at *;generalize an.o id=o' at *;generalize ι id=i at *;generalize a' id=cW at *;cases this<;>simp_all
def pM.dep{s an:av}{ι a':Nat->bz}(h:pM s ι an a'){d:Nat×Nat}(hk:ee s d):ee an d:=by
 refine⟨h.known hk.1,?_⟩;obtain⟨b,k2⟩:=hk;unfold LM.known jK at *;have:=h d.1;generalize s.o d.1=o at *;generalize an.o d.1=o' at *;generalize ι d.1=i at *;generalize a' d.1=cW at *
 cases this with
 |stay=>exact k2
 |made=>exact absurd rfl b
 |dead=>exact .inl rfl
 |row t em eV v di xs et i cW a hl hb hc=>rcases k2 with h|h;exact absurd h (by simp);exact .inr (by dsimp only at *;omega)
 |var v di cs cs' i a hl=>rcases k2 with h|h;exact absurd h (by simp);exact .inr (by dsimp only at *;omega)
 |n7 t em v di xs k i cW a hb hc=>rcases k2 with h|h;exact absurd h (by simp);exact .inr (by dsimp only at *;omega)
 |fill t em eV v di xs et k i cW a hl hb hc=>rcases k2 with h|h;exact absurd h (by simp);exact .inr (by dsimp only at *;omega)
 |e5 o i hl=>
  rcases k2 with h|h
  ·rw[h]at hl;exact hl.elim
  ·cases o<;>first|exact hl.elim|exact .inr h
 |pL t em eV v di xs et i cW a hl hb hc=>rcases k2 with h|h;exact absurd h (by simp);exact .inr (by dsimp only at *;omega)
 |wi v di cs cs' i cW a hb=>rcases k2 with h|h;exact absurd h (by simp);exact .inr (by dsimp only at *;omega)
def pM.stays{s an:av}{ι a':Nat->bz}(h:pM s ι an a'):∀{dp:List (Nat×Nat)},(∀d,d∈dp->ee s d)->alive an dp=true →
  alive s dp=true/\∀d,d∈dp->an.o d.1=s.o d.1/\a' d.1=ι d.1/\(s.o d.1).live
 | [],_,_=>⟨rfl,by simp⟩
 |(id,v)::dp,hk,a=>by
  have j:=fun a=>pM.stays h (dp:=dp) (fun d aa=>hk d (by simp[aa])) a
  obtain⟨l,k2⟩:=hk (id,v) (by simp);have ht:=h id;simp only[LM.known,jK]at l k2;unfold alive at a⊢;generalize b:s.o id=o at *;generalize m:an.o id=o' at *;generalize n:ι id=i at *;generalize p:a' id=cW at *
  cases ht with
  |stay=>
   cases o with
   |row t em w xs=>
    dsimp only at a⊢;cases hb:Nat.beq w v
    ·rw[hb]at a;simp at a
    ·rw[hb]at a;obtain⟨e,g⟩:=j a;refine⟨e,fun d aa=>?_⟩;rcases List.mem_cons.1 aa with rfl|aa
     ·exact⟨by rw[b,m],by rw[n,p],by rw[b];trivial⟩
     ·exact g d aa
   |var w cs=>
    dsimp only at a⊢;cases hb:Nat.beq w v
    ·rw[hb]at a;simp at a
    ·rw[hb]at a;obtain⟨e,g⟩:=j a;refine⟨e,fun d aa=>?_⟩;rcases List.mem_cons.1 aa with rfl|aa
     ·exact⟨by rw[b,m],by rw[n,p],by rw[b];trivial⟩
     ·exact g d aa
   |none=>simp at a
   |dead=>simp at a
   |b7=>simp at a
   |hole=>simp at a
  |made=>exact absurd rfl l
  |dead=>simp at a
  |e5=>simp at a
  |n7=>simp at a
  |fill t em eV w w' xs et k i cW hv hl hb hc=>
   dsimp only at a;cases hb:Nat.beq w' v
   ·rw[hb]at a;simp at a
   ·have:=cG hb;simp at k2;omega
  |pL t em eV w w' xs et i cW hv hl hb hc=>
   dsimp only at a;cases hb:Nat.beq w' v
   ·rw[hb]at a;simp at a
   ·have:=cG hb;simp at k2;omega
  |wi w w' cs cs' i cW hv hb=>
   dsimp only at a;cases hb:Nat.beq w' v
   ·rw[hb]at a;simp at a
   ·have:=cG hb;simp at k2;omega
  |row t em eV w w' xs et i cW hv hl hb hc=>
   dsimp only at a;cases hb:Nat.beq w' v
   ·rw[hb]at a;simp at a
   ·have:=cG hb;simp at k2;omega
  |var w w' cs cs' i hv hl=>
   dsimp only at a;cases hb:Nat.beq w' v
   ·rw[hb]at a;simp at a
   ·have:=cG hb;simp at k2;omega
def OU(s:av)(ι:Nat->bz)(an:av)(a':Nat->bz)(Z:ae):ae:=
 fun b o=>Z b o\/∃id,(s.o id).live/\an.o id=s.o id/\a' id=ι id/\(ι id).F b o
section
variable{w w':World}{Z Z':ae}{s an:av}{ι a':Nat->bz}
structure d_(w:World)(Z:ae)(s:av)(ι:Nat->bz)(w':World)(Z':ae)(an:av)(a':Nat->bz):Prop where
 turns:pM s ι an a'
 dt:ae.sub Z Z'
 same:bS w w' (OU s ι an a' Z)
def d_.db(h:d_ w Z s ι w' Z' an a'){dp:List (Nat×Nat)}(hk:∀d,d∈dp->ee s d)(i:alive an dp=true):
  bS w w' (Z.or (db ι dp))/\ae.sub (Z.or (LM.db ι dp)) (Z'.or (LM.db a' dp)):=by
 obtain⟨h1,a⟩:=h.turns.stays hk i;refine⟨h.same.mono ?_,?_⟩
 ·rintro b o (e|⟨d,aa,g⟩)
  ·exact .inl e
  ·exact .inr ⟨d.1,(a d aa).2.2,(a d aa).1,(a d aa).2.1,g⟩
 ·rintro b o (e|⟨d,aa,g⟩)
  ·exact .inl (h.dt b o e)
  ·exact .inr ⟨d,aa,by rw[(a d aa).2.1];exact g⟩
def iG.move(h:d_ w Z s ι w' Z' an a'){p:Place}{a:Addr}(hk:known s p.id)(ai:iG s ι p a):iG an a' p a:=by
 obtain⟨hs,ai⟩:=ai;refine⟨hs,?_⟩;have ht:=h.turns p.id;unfold known at hk;generalize s.o p.id=o at *;generalize an.o p.id=o' at *;generalize ι p.id=i at *;generalize a' p.id=cW at *
 cases ht with
 |stay=>exact ai
 |made=>exact absurd rfl hk
 |dead=>trivial
 |row t em eV v di xs et i cW hv hl hb hc=>obtain⟨k,h1,d,b⟩:=ai;exact⟨k,h1,by omega,by rw[hb];exact b⟩
 |var=>exact ai
 |n7 t em v di xs k i cW hv hb hc=>obtain⟨k,h1,d,b⟩:=ai;exact⟨k,h1,d,by rw[hb];exact b⟩
 |fill t em eV v di xs et k i cW hv hl hb hc=>obtain⟨k,h1,d,b⟩:=ai;exact⟨k,h1,by omega,by rw[hb];exact b⟩
 |e5 o i hl=>cases o<;>first|exact hl.elim|exact ai
 |pL t em eV v di xs et i cW hv hl hb hc=>obtain⟨k,h1,d,b⟩:=ai;exact⟨k,h1,by omega,by rw[hb];exact b⟩
 |wi v di cs cs' i cW hv hb=>obtain⟨h1,d⟩:=ai;exact⟨h1,by rw[hb];exact d⟩
def pJ.move(h:d_ w Z s ι w' Z' an a'){dp:List (Nat×Nat)}{e:Option Place}{v:Value}(hk:∀d,d∈dp->ee s d)(i:pJ w s ι dp e v):pJ w' an a' dp e v:=by
 intro p ai;obtain⟨⟨d,aa,a⟩,j⟩:=i p ai;refine⟨⟨d,aa,a⟩,fun g=>?_⟩;obtain⟨k,q⟩:=h.db hk g;obtain⟨l,m⟩:=h.turns.stays hk g;obtain⟨b,o,n,k2,k3⟩:=j l;refine⟨b,o,n.move h (a▸(hk d aa).1),?_,?_⟩
 ·rw[(k b o (.inr ⟨d,aa,a▸k3⟩)).1];exact k2
 ·rw[<-a,(m d aa).2.1,a];exact k3
def cd.move(h:d_ w Z s ι w' Z' an a'):∀{c:a7}{v:Value},cd w Z s ι c v->cd w' Z' an a' c v
 |.int _ _,_,hc=>hc
 |.bool _,_,hc=>hc
 |.str _,_,hc=>hc
 |.raw _,_,hc=>hc
 |.nil _,_,hc=>hc
 |.bq t dp z xs,v,⟨h1,g,u,y⟩=>by refine⟨fun d aa=>h.turns.dep (h1 d aa),g,fun r=>?_,y.move h h1⟩;obtain⟨a,b⟩:=h.db h1 r;exact U.al.mono b _ _ (fun _ _ h=>h) (U.al.same a _ _ (fun _ _ h=>h.elim) (u (h.turns.stays h1 r).1))
 |.aa id sub,v,⟨h1,A,n,c,hv,g⟩=>by
  refine⟨h.turns.known h1,A,n,c,hv,fun t em ver xs e=>?_⟩;have ht:=h.turns id;unfold LM.known at h1;generalize B:s.o id=o at *;generalize C:ι id=i at *;generalize D:an.o id=o' at *;generalize E:a' id=cW at *
  cases ht with
  |stay=>exact g _ _ _ _ e
  |made=>exact absurd rfl h1
  |dead=>simp[b9.core]at e
  |row t em eV v di xs et i cW hv hl hb hc=>simp only[b9.core,b9.row.injEq]at e;obtain⟨rfl,_,_,e⟩:=e;have:=eq_of_heq e;subst this;obtain⟨j,l,m,p,q⟩:=g _ _ _ _ rfl;exact⟨by rw[hl];exact j,by rw[hl];exact l,m,by rw[hc];exact p,by rw[hb];exact q⟩
  |var=>simp[b9.core]at e
  |n7 t em v di xs k i cW hv hb hc=>simp only[b9.core,b9.row.injEq]at e;obtain⟨rfl,_,_,e⟩:=e;have:=eq_of_heq e;subst this;obtain⟨j,l,m,p,q⟩:=g _ _ _ _ rfl;exact⟨j,l,m,by rw[hc];exact p,by rw[hb];exact q⟩
  |fill t em eV v di xs et k i cW hv hl hb hc=>simp only[b9.core,b9.row.injEq]at e;obtain⟨rfl,_,_,e⟩:=e;have:=eq_of_heq e;subst this;obtain⟨j,l,m,p,q⟩:=g _ _ _ _ rfl;exact⟨by rw[hl];exact j,by rw[hl];exact l,m,by rw[hc];exact p,by rw[hb];exact q⟩
  |e5 o i hl=>exact g _ _ _ _ (by cases o<;>first|exact hl.elim|exact e)
  |pL t em eV v di xs et i cW hv hl hb hc=>simp only[b9.core,b9.row.injEq]at e;obtain⟨rfl,_,_,e⟩:=e;have:=eq_of_heq e;subst this;obtain⟨j,l,m,p,q⟩:=g _ _ _ _ rfl;exact⟨by rw[hl];exact j,by rw[hl];exact l,m,by rw[hc];exact p,by rw[hb];exact q⟩
  |wi=>simp[b9.core]at e
def bG.move(h:d_ w Z s ι w' Z' an a'){cs:List a7}{vs:List Value}(hc:bG w Z s ι cs vs):bG w' Z' an a' cs vs:=
 bG.mono (fun _ _=>cd.move h) hc
mutual
def aR.move(h:d_ w Z s ι w' Z' an a'):∀{x:aY}{v:Value},aR w Z s ι x v->aR w' Z' an a' x v
 |.bf,_,_=>by simp only[aR]
 |.gone,_,e=>by simpa only[aR]using e
 |.aP c,v,e=>by simp only[aR]at e⊢;exact e.move h
 |.hJ cs,v,e=>by simp only[aR]at e⊢;obtain⟨vs,h1,g⟩:=e;exact⟨vs,h1,g.move h⟩
 |.ptr p,v,e=>by simp only[aR]at e⊢;obtain⟨h1,a,g,k⟩:=e;exact⟨h.turns.known h1,a,g,k.move h h1⟩
 |.c2 dp cs off,v,e=>by simp only[aR]at e⊢;obtain⟨h1,b,o,vs,g,k⟩:=e;refine⟨fun d aa=>h.turns.dep (h1 d aa),b,o,vs,g,fun n=>?_⟩;obtain⟨y,z⟩:=h.db h1 n;obtain⟨r,A,u⟩:=k (h.turns.stays h1 n).1;exact⟨r.move h,y.wh (fun i B=>u i (by rw[<-r.len];exact B)) A,fun j C=>z _ _ (u j C)⟩
 |.pB t,v,e=>by simpa only[aR]using e
 |.may q dp cs,v,e=>by
  simp only[aR]at e⊢;rcases e with e|⟨D,h1,b,o,vs,g,k⟩
  ·exact .inl e
  refine .inr ⟨D,fun d aa=>h.turns.dep (h1 d aa),b,o,vs,g,fun n=>?_⟩;obtain⟨y,z⟩:=h.db h1 n;obtain⟨r,A,u⟩:=k (h.turns.stays h1 n).1;exact⟨r.move h,y.wh (fun i B=>u i (by rw[<-r.len];exact B)) A,fun j C=>z _ _ (u j C)⟩
 |.jl,_,e=>by simpa only[aR]using e
 |.jX,_,e=>by simpa only[aR]using e
 |.opt id o,v,e=>by simp only[aR]at e⊢;obtain⟨h1,g⟩:=e;exact⟨h.turns.known h1,g.imp (fun x=>x) fun⟨k,a,E,F⟩=>⟨k,a,E,F.move h h1⟩⟩
 |.fn f l m,v,e=>by simp only[aR]at e⊢;obtain⟨us,vs,h1,g,k⟩:=e;exact⟨us,vs,h1,aX.move h g,aX.move h k⟩
 |.mZ l,v,e=>by simp only[aR]at e⊢;obtain⟨vs,h1,g⟩:=e;exact⟨vs,h1,aX.move h g⟩
def aX.move(h:d_ w Z s ι w' Z' an a'):∀{x:List aY}{v:List Value},aX w Z s ι x v->aX w' Z' an a' x v
 | [],v,e=>by simpa only[aX]using e
 |x::l,v,e=>by simp only[aX]at e⊢;obtain⟨G,us,h1,g,k⟩:=e;exact⟨G,us,h1,aR.move h g,aX.move h k⟩
end
def rp.move(h:d_ w Z s ι w' Z' an a'){e:Seen}(he:rp w Z s ι e):rp w' Z' an a' e:=by obtain⟨h1,g⟩:=he;refine⟨fun d aa=>h.turns.dep (h1 d aa),fun a=>?_⟩;obtain⟨i,k⟩:=h.db h1 a;obtain⟨l,b⟩:=g (h.turns.stays h1 a).1;exact⟨i.wh b l,fun j m=>k _ _ (b j m)⟩
def gd.move(h:d_ w Z s ι w' Z' an a'){id:Nat}(hl:(s.o id).live->an.o id=s.o id/\a' id=ι id){o:b9}(q:s.o id=o)(hs:gd w Z s ι (ι id) o):gd w' Z' an a' (ι id) o:=by
 cases o with
 |none=>trivial
 |dead=>trivial
 |b7=>trivial
 |row t em ver xs=>
  have e:(s.o id).live:=by rw[q];trivial
  have l:bS w w' (ι id).F:=h.same.mono fun b o m=>.inr ⟨id,e,(hl e).1,(hl e).2,m⟩
  rcases hs with hs|⟨a,h1,d⟩
  ·exact .inl hs
  ·refine .inr ⟨a,h1,d.spot,d.cap,fun j g=>l.iz (d.inF j g) (d.wr j g),d.inF,?_⟩;obtain⟨G,r,u,n⟩:=d.row;have hle:xs.length*t.size<=(ι id).cap*t.size:=c3 _ d.cap;exact⟨G,r.imp (fun v vs C y hr=>U.al.mono h.dt _ _ (fun _ _ h=>h) (U.al.same (h.same.mono fun b o z=>.inl z) _ _ (l.mono fun b o A=>n b o (y b o A)) hr)) (fun j g=>(l _ _ (d.inF j (by omega))).1),u,n⟩
 |hole t em ver xs k=>
  have e:(s.o id).live:=by rw[q];trivial
  have l:bS w w' (ι id).F:=h.same.mono fun b o m=>.inr ⟨id,e,(hl e).1,(hl e).2,m⟩
  obtain⟨a,h1,d⟩:=hs;refine⟨a,h1,d.spot,d.cap,fun j g=>l.iz (d.inF j g) (d.wr j g),d.inF,?_⟩;obtain⟨G,r,u,n⟩:=d.row;have hle:(mj xs k).length*t.size<=(ι id).cap*t.size:=c3 _ d.cap;refine⟨G,r.imp (fun v vs C y hr=>?_) (fun j g=>(l _ _ (d.inF j (by omega))).1),u,n⟩
  cases v with
  |none=>exact hr
  |some v=>exact U.al.mono h.dt _ _ (fun _ _ h=>h) (U.al.same (h.same.mono fun b o z=>.inl z) _ _ (l.mono fun b o A=>n b o (y b o A)) hr)
 |var ver cs=>
  have e:(s.o id).live:=by rw[q];trivial
  have l:bS w w' (ι id).F:=h.same.mono fun b o m=>.inr ⟨id,e,(hl e).1,(hl e).2,m⟩
  obtain⟨a,vs,h1,d,B,D,p⟩:=hs;exact⟨a,vs,h1,d,B.move h,l.wh (fun i E=>(p i (by rw[<-B.len];exact E)).2) D,fun j g=>⟨l.nU (p j g).2 (p j g).1,(p j g).2⟩⟩
end
end Go.LM
namespace Go.LM
section
variable{w0:World}{F0 Z0:ae}{n:cl}{s an:av}{a b0:Act}{w w':World}{ι a':Nat->bz}{Z Z':ae}
def Inv.next(h:Inv w0 F0 Z0 n s a w ι Z)(hm:d_ w Z s ι w' Z' an a'){S:ae}(q:Ext w w' S)
  (v:∀b o,S b o->F0 b o\/w0.heap.size<=b)
  (r:∀b o,Z' b o->Z b o\/((F0 b o\/w0.heap.size<=b)/\b<w'.heap.size))
  (g:∀id,(an.o id).live->¬(an.o id=s.o id/\a' id=ι id)->gd w' Z' an a' (a' id) (an.o id) ∧
   (∀b o,(a' id).F b o->(F0 b o\/w0.heap.size<=b)/\b<w'.heap.size)/\(∀dR,(an.o dR).live->id≠dR->ae.apart (a' id).F (a' dR).F))
  (y:∀id,(an.o id).live->ae.apart (a' id).F Z')
  (ht:∀k,aR w' Z' an a' (an.t k) (b0.tmps.getD k undef))
  (hn:b0.tmps.size=n) (aa:b0.defers=[]) (z:an.g=s.g:=by rfl):Inv w0 F0 Z0 n an b0 w' a' Z':=by
 have u:=q.size;refine⟨?_,?_,?_,?_,?_,?_,?_,y,ht,hn,by rw[z];exact aX.move hm h.ghost,fun e he=>(h.seen e he).move hm,aa⟩
 ·refine h.ext.trans' q v
 ·intro b o hb;rcases r b o hb with h1|h1
  ·exact h.dt b o h1
  ·exact .inr h1.1
 ·exact fun b o hb=>hm.dt b o (h.pK b o hb)
 ·intro b o hb;rcases r b o hb with h1|h1
  ·exact jW (h.hK b o h1) u
  ·exact h1.2
 ·intro id;by_cases hl:(an.o id).live
  ·by_cases d:an.o id=s.o id/\a' id=ι id
   ·have:=gd.move hm (id:=id) (fun _=>d) rfl (h.eU id);rw[d.2,d.1];exact this
   ·exact(g id hl d).1
  ·cases i:an.o id with
   |none=>trivial
   |dead=>trivial
   |b7=>trivial
   |row=>rw[i]at hl;exact absurd trivial hl
   |var=>rw[i]at hl;exact absurd trivial hl
   |hole=>rw[i]at hl;exact absurd trivial hl
 ·intro id hl b o j;by_cases d:an.o id=s.o id/\a' id=ι id
  ·rw[d.2]at j;have:=h.own id (d.1▸hl) b o j;exact⟨this.1,jW this.2 u⟩
  ·exact(g id hl d).2.1 b o j
 ·intro id dR hl l m;by_cases d:an.o id=s.o id/\a' id=ι id
  ·by_cases p:an.o dR=s.o dR/\a' dR=ι dR
   ·rw[d.2,p.2];exact h.apart id dR (d.1▸hl) (p.1▸l) m
   ·exact fun b o h1 A=>(g dR l p).2.2 id hl (Ne.symm m) b o A h1
  ·exact(g id hl d).2.2 dR l m
def bS.gw{S T:ae}(a:Ext w w' S)(d:∀b o,T b o->b<w.heap.size)(e:ae.apart T S):bS w w' T:=
 fun b o ht=>⟨a.cell (d b o ht) (fun hs=>e b o ht hs),a.frozen (d b o ht)⟩
def Inv.pN(h:Inv w0 F0 Z0 n s a w ι Z):∀b o,OU s ι an a' Z b o->b<w.heap.size:=by
 rintro b o (d|⟨id,hl,_,_,e⟩)
 ·exact h.hK b o d
 ·exact(h.own id hl b o e).2
def ca{α:Type}{f:Nat->α}{i j:Nat}{v:α}(h:i≠j):bF f i v j=f j:=pC (Ne.symm h)
def Inv.tmp(h:Inv w0 F0 Z0 n s a w ι Z)(b:an.o=s.o)(ht:∀k,aR w Z an ι (an.t k) (b0.tmps.getD k undef))
  (hn:b0.tmps.size=n) (aa:b0.defers=[]) (d:an.g=s.g:=by rfl):Inv w0 F0 Z0 n an b0 w ι Z:=by
 refine h.next (S:=ae.none) ⟨fun id=>by rw[b];exact .stay _ _,fun _ _ h=>h,bS.refl _ _⟩ (Ext.refl _ _) (fun _ _ h=>h.elim) (fun _ _ h=>.inl h) ?_ ?_ ht hn aa d
 ·intro id _ e;exact absurd ⟨by rw[b],rfl⟩ e
 ·intro id hl;exact h.cB id (by rwa[b]at hl)
def Hd(a:an.o=s.o):d_ w Z s ι w Z an ι :=⟨fun id=>by rw[a];exact .stay _ _,fun _ _ h=>h,bS.refl _ _⟩
def He(t:Array Value)(d k:Nat)(u:Value)(aa:d<t.size):(t.setIfInBounds d u).getD k undef=if d=k then u else t.getD k undef:=by
 simp only[Array.getD_eq_getD_getElem?,Array.getElem?_setIfInBounds];by_cases hk:d=k
 ·subst hk;simp[aa]
 ·simp[hk]
def Inv.set(h:Inv w0 F0 Z0 n s a w ι Z){d:Nat}{v:aY}{u:Value}(hv:aR w Z s ι v u)(aa:d<n):
  Inv w0 F0 Z0 n (s.set d v) (a.put (some d) u) w ι Z:=by
 have hm:d_ w Z s ι w Z (s.set d v) ι :=Hd rfl;refine h.tmp rfl (fun k=>?_) (by simpa[Act.put]using h.size) (by simpa[Act.put]using h.defers);show aR w Z (s.set d v) ι (bF s.t d v k) ((a.tmps.setIfInBounds d u).getD k undef);rw[He _ _ _ _ (by rw[h.size];exact aa)];by_cases hk:d=k
 ·subst hk;rw[b6,bg rfl];exact hv.move hm
 ·rw[ca hk,bd hk];exact(h.tmps k).move hm
def Inv.dst(h:Inv w0 F0 Z0 n s a w ι Z){d:Option Nat}{v:aY}{u:Value}(hv:aR w Z s ι v u)(aa:∀k,d=some k->k<n):
  Inv w0 F0 Z0 n (s.dst d v) (a.put d u) w ι Z:=by
 cases d with
 |none=>exact h
 |some d=>exact h.set hv (aa d rfl)
def Inv.world(h:Inv w0 F0 Z0 n s a w ι Z)(b:Ext w w' ae.none):Inv w0 F0 Z0 n s a w' ι Z:=by have hm:d_ w Z s ι w' Z s ι :=⟨fun id=>.stay _ _,fun _ _ h=>h,bS.gw b h.pN (fun _ _ _ h=>h)⟩;refine h.next hm b (fun _ _ h=>h.elim) (fun _ _ h=>.inl h) ?_ h.cB (fun k=>(h.tmps k).move hm) h.size h.defers;intro id _ d;exact absurd ⟨rfl,rfl⟩ d
def Inv.drew(h:Inv w0 F0 Z0 n s a w ι Z)(m:Nat):Inv w0 F0 Z0 n s a { w with drawn:=m } ι Z:=h.world (Ext.drew _ _ _)
def OV(h:Inv w0 F0 Z0 n s a w ι Z){id:Nat}(d:s.o id=.none)(e:Ext w w' ae.none)(o:b9)(i:bz):
  d_ w Z s ι w' Z (s.bA id o) (bF ι id i):=by
 refine⟨fun j=>?_,fun _ _ h=>h,bS.gw e h.pN (fun _ _ _ h=>h)⟩;show gf (s.o j) (ι j) (bF s.o id o j) (bF ι id i j);by_cases b:id=j
 ·subst b;rw[d];exact .made _ _ _
 ·rw[ca b,ca b];exact .stay _ _
def Inv.new(h:Inv w0 F0 Z0 n s a w ι Z){id:Nat}(u:s.o id=.none)(p:Ext w w' ae.none){o:b9}{i:bz}
  (v:gd w' Z (s.bA id o) (bF ι id i) i o) (g:∀b o,i.F b o->w.heap.size<=b/\b<w'.heap.size):
  Inv w0 F0 Z0 n (s.bA id o) a w' (bF ι id i) Z:=by
 have hm:=OV h u p o i;have A:=h.ext.size;refine h.next hm p (fun _ _ h=>h.elim) (fun _ _ h=>.inl h) ?_ ?_ (fun k=>(h.tmps k).move hm) h.size h.defers
 ·intro j hl y;by_cases d:id=j
  ·subst d;rw[b6];refine⟨by show gd _ _ _ _ _ (bF s.o id o id);rw[b6];exact v,fun b o q=>⟨.inr (by have:=(g b o q).1;omega),(g b o q).2⟩,fun l z r b o h1 e=>?_⟩;rw[ca r]at e;have m:(s.o l).live:=by have:(bF s.o id _ l).live:=z;rwa[ca r]at this
   have:=(h.own l m b o e).2;have:=(g b o h1).1;omega
  ·exact absurd ⟨ca d,ca d⟩ y
 ·intro j hl b o h1 e;by_cases d:id=j
  ·subst d;rw[b6]at h1;have:=(g b o h1).1;have:=h.hK b o e;omega
  ·rw[ca d]at h1;have m:(s.o j).live:=by have:(bF s.o id _ j).live:=hl;rwa[ca d]at this
   exact h.cB j m b o h1 e
def Hf{id j:Nat}(hl:((s.bA id .dead).o j).live):id≠j/\(s.o j).live:=by
 have h:(bF s.o id b9.dead j).live:=hl;by_cases a:id=j
 ·subst a;rw[b6]at h;exact h.elim
 ·rw[ca a]at h;exact⟨a,h⟩
def Y2(h:Inv w0 F0 Z0 n s a w ι Z)(id:Nat)(d:ae.sub Z Z'):d_ w Z s ι w Z' (s.bA id .dead) ι :=by
 refine⟨fun j=>?_,d,bS.refl _ _⟩;show gf (s.o j) (ι j) (bF s.o id b9.dead j) (ι j);by_cases b:id=j
 ·subst b;rw[b6];exact .dead _ _ _
 ·rw[ca b];exact .stay _ _
def Inv.take(h:Inv w0 F0 Z0 n s a w ι Z)(id:Nat)(m:ae.sub Z Z')(l:∀b o,Z' b o->Z b o\/((s.o id).live/\(ι id).F b o)):
  Inv w0 F0 Z0 n (s.bA id .dead) a w ι Z':=by
 have hm:=Y2 h id m;refine h.next hm (Ext.refl _ ae.none) (fun _ _ h=>h.elim) ?_ ?_ ?_ (fun k=>(h.tmps k).move hm) h.size h.defers
 ·intro b o hb;rcases l b o hb with h1|⟨h1,d⟩
  ·exact .inl h1
  ·exact .inr (h.own id h1 b o d)
 ·intro j hl p;obtain⟨e,g⟩:=Hf hl;exact absurd ⟨ca e,rfl⟩ p
 ·intro j hl b o h1 d;obtain⟨e,g⟩:=Hf hl;rcases l b o d with i|⟨i,q⟩
  ·exact h.cB j g b o h1 i
  ·exact h.apart id j i g e b o q h1
end
end Go.LM
namespace Go.LM
def Row.drop{α:Type}{w:World}{R:α->List Value->ae->Prop}{size:Nat}:∀(k:Nat) {x:List α}{b o:Nat}{F:ae},Row w R size x b o F->Row w R size (x.drop k) b (o+k*size) F
 |0,x,b,o,F,h=>by simpa using h
 |k+1,[],b,o,F,h=>trivial
 |k+1,e::x,b,o,F,⟨vs,G,H,h1,g,i,a,j,l,d⟩=>by have:=Row.drop k a;rw[show o+size+k*size=o +(k+1)*size by rw[de];omega]at this;exact this.mono d
def Row.take{α:Type}{w:World}{R:α->List Value->ae->Prop}{size:Nat}:∀(k:Nat) {x:List α}{b o:Nat}{F:ae},Row w R size x b o F->Row w R size (x.take k) b o F
 |0,x,b,o,F,h=>by rw[List.take_zero];trivial
 |k+1,[],b,o,F,h=>trivial
 |k+1,l::x,b,o,F,⟨vs,G,H,h1,a,d,e,g,i,j⟩=>⟨vs,G,H,h1,a,d,Row.take k e,g,i,j⟩
def gx{u t:U}{xs:List u.D}{x:List t.D}(h:ej (.sl u) (.sl t) xs=some x):∃e:u=t,x=e▸xs:=by
 obtain⟨e,a⟩:=y7 h;injection e with e
 subst e;exact⟨rfl,a⟩
section
variable{w0:World}{F0 Z0:ae}{n:cl}{s an:av}{a:Act}{w:World}{ι:Nat->bz}{Z Z':ae}
structure bD(w0:World)(F0:ae)(s:av)(w:World)(ι:Nat->bz)(Z F:ae):Prop where
 own:∀b o,F b o->(F0 b o\/w0.heap.size<=b)/\b<w.heap.size
 apart:∀id,(s.o id).live->ae.apart F (ι id).F
 cB:ae.apart F Z
def bD.none:bD w0 F0 s w ι Z ae.none:=⟨fun _ _ h=>h.elim,fun _ _ _ _ h=>h.elim,fun _ _ h=>h.elim⟩
structure eN(s:av)(ι:Nat->bz)(Z:ae)(an:av)(Z':ae):Prop where
 o:∀id,an.o id=s.o id\/((s.o id).live/\an.o id=.dead)
 t:an.t=s.t
 g:an.g=s.g
 dt:ae.sub Z Z'
 m4:∀b o,Z' b o->Z b o\/∃id,(s.o id).live/\an.o id=.dead/\(ι id).F b o
def eN.refl:eN s ι Z s Z:=⟨fun _=>.inl rfl,rfl,rfl,fun _ _ h=>h,fun _ _ h=>.inl h⟩
def eN.trans{j:av}{bK:ae}(h:eN s ι Z an Z')(k:eN an ι Z' j bK):eN s ι Z j bK:=by
 refine⟨fun id=>?_,k.t.trans h.t,k.g.trans h.g,fun b o e=>k.dt b o (h.dt b o e),fun b o e=>?_⟩
 ·rcases k.o id with h1|⟨g,h1⟩
  ·rw[h1];exact h.o id
  ·rcases h.o id with a|⟨_,a⟩
   ·exact .inr ⟨a▸g,h1⟩
   ·rw[a]at g;exact g.elim
 ·rcases k.m4 b o e with h1|⟨id,h1,a,i⟩
  ·rcases h.m4 b o h1 with h1|⟨id,h1,a,i⟩
   ·exact .inl h1
   ·refine .inr ⟨id,h1,?_,i⟩;rcases k.o id with d|⟨_,d⟩
    ·rw[d,a]
    ·exact d
  ·rcases h.o id with d|⟨_,d⟩
   ·exact .inr ⟨id,d▸h1,a,i⟩
   ·rw[d]at h1;exact h1.elim
def eN.d'(h:eN s ι Z an Z'):d_ w Z s ι w Z' an ι :=by
 refine⟨fun id=>?_,h.dt,bS.refl _ _⟩;rcases h.o id with h1|⟨_,h1⟩
 ·rw[h1];exact .stay _ _
 ·rw[h1];exact .dead _ _ _
def eN.live(h:eN s ι Z an Z'){id:Nat}(hl:(an.o id).live):(s.o id).live/\an.o id=s.o id:=by
 rcases h.o id with h1|⟨_,h1⟩
 ·exact⟨h1▸hl,h1⟩
 ·rw[h1]at hl;exact hl.elim
def bD.shrink{F:ae}(a:bD w0 F0 s w ι Z F)(h:eN s ι Z an Z'):bD w0 F0 an w ι Z' F:=by
 refine⟨a.own,fun id hl=>a.apart id (h.live hl).1,fun b o h1 e=>?_⟩;rcases h.m4 b o e with d|⟨id,d,_,g⟩
 ·exact a.cB b o h1 d
 ·exact a.apart id d b o h1 g
def bD.or{F G:ae}(a:bD w0 F0 s w ι Z F)(d:bD w0 F0 s w ι Z G):bD w0 F0 s w ι Z (F.or G):=
 ⟨fun b o h=>h.elim (a.own b o) (d.own b o),fun id hl b o h=>h.elim (a.apart id hl b o) (d.apart id hl b o),fun b o h=>h.elim (a.cB b o) (d.cB b o)⟩
def Inv.ua(h:Inv w0 F0 Z0 n s a w ι Z){id:Nat}(hl:(s.o id).live):bD w0 F0 (s.bA id .dead) w ι Z (ι id).F:=
 ⟨h.own id hl,fun j b=>by obtain⟨h1,d⟩:=Hf b;exact h.apart id j hl d h1,h.cB id hl⟩
def ub(id:Nat)(hl:(s.o id).live):eN s ι Z (s.bA id .dead) Z:=by
 refine⟨fun j=>?_,rfl,rfl,fun _ _ h=>h,fun _ _ h=>.inl h⟩;by_cases a:id=j
 ·subst a;exact .inr ⟨hl,b6 _ _ _⟩
 ·exact .inl (ca a)
def OW(h:Inv w0 F0 Z0 n s a w ι Z){id:Nat}(hl:(s.o id).live):eN s ι Z (s.bA id .dead) (Z.or (ι id).F):=by
 refine⟨fun j=>?_,rfl,rfl,fun _ _ h=>.inl h,fun b o e=>?_⟩
 ·by_cases d:id=j
  ·subst d;exact .inr ⟨hl,b6 _ _ _⟩
  ·exact .inl (ca d)
 ·rcases e with h1|h1
  ·exact .inl h1
  ·exact .inr ⟨id,hl,b6 _ _ _,h1⟩
def uc{i:bz}{t:U}{em:a8}{xs:List t.D}{sub:Option (Nat×Nat)}{A:Option Addr}{m c:Nat}{ver:Nat}
  (l:gd w Z s ι i (.row t em ver xs)) (n:Hb i t.size sub xs.length A m c):
  (U.sl t).al w Z (.O em) (jY sub xs) [.slice A m c] i.F:=by
 obtain⟨hn,v,hle,a,o⟩:=n
 have hlen:(jY sub xs).length=m:=by
  cases sub with
  |none=>simp[jY,hn]
  |some p=>obtain⟨b,k⟩:=p;simp only[jY,part,dX,fS,dz]at *;omega
 simp only[U.al];refine⟨A,c,by rw[hlen],?_⟩;rcases o with d|⟨y,hb,q⟩
 ·exact .inl ⟨lq (by omega),d⟩
 ·rcases l with⟨z,d⟩|⟨B,e,hr⟩
  ·refine .inl ⟨lq (by omega),by omega⟩
  ·rw[hb]at e;obtain rfl:=aS e;refine .inr ⟨_,q,rfl,by rw[hlen];exact hle,fun j g=>?_,fun j g=>?_,?_⟩
   ·have:=hr.wr (dz sub*t.size+j) (by
     have:(dz sub+c)*t.size<=i.cap*t.size:=c3 _ a
     rw[jJ]at this;omega)
    rwa[<-dQ]at this
   ·have:=hr.inF (dz sub*t.size+j) (by
     have:(dz sub+c)*t.size<=i.cap*t.size:=c3 _ a
     rw[jJ]at this;omega)
    rwa[<-dQ]at this
   ·obtain⟨G,h,r,u⟩:=hr.row;refine⟨G,?_,fun j g=>?_,u⟩
    ·cases sub with
     |none=>simpa[jY,dz]using h
     |some p=>obtain⟨b,k⟩:=p;exact(h.drop b).take k
    ·have:=r (dz sub*t.size+j) (by
      have:(dz sub+c)*t.size<=i.cap*t.size:=c3 _ a
      rw[jJ]at this;omega)
     rwa[<-dQ]at this
def Hg{t:U}{c:a7}{xs:List t.D}{v:Value}(h:Inv w0 F0 Z0 n s a w ι Z)(hl:m2 s t c=some xs)(hc:cd w Z s ι c v):
  (U.sl t).al w (Z.or (db ι (borrows s c))) .R xs [v] ae.none/\alive s (borrows s c)=true/\∀d,d∈borrows s c->ee s d:=by
 cases c with
 |nil j=>obtain⟨e,rfl⟩:=gx hl;subst e;have hv:v=.slice none 0 0:=hc;subst hv;refine⟨?_,rfl,by simp[borrows]⟩;simp only[U.al];exact⟨none,0,rfl,.inl trivial⟩
 |bq j dp y l=>
  simp only[m2]at hl;obtain⟨h1,p,r⟩:=hc
  cases i:alive s dp with
  |false=>rw[i]at hl;simp at hl
  |true=>rw[i]at hl;obtain⟨e,rfl⟩:=gx hl;subst e;exact⟨r.1 i,i,h1⟩
 |aa id sub=>
  simp only[m2]at hl;obtain⟨h1,A,m,k,rfl,p⟩:=hc
  cases g:s.o id with
  |row j em ver l=>
   rw[g]at hl;obtain⟨e,rfl⟩:=gx hl;subst e;have hb:borrows s (.aa id sub)=[(id,ver)]:=by simp only[borrows,g]
   rw[hb];refine⟨?_,?_,?_⟩
   ·have q:=h.eU id;rw[g]at q;refine U.al.read (fun _ _ h=>.inl h) _ _ (fun b o u=>.inr ⟨(id,ver),by simp,u⟩) (uc q (p j em ver l (kk g)))
   ·simp[alive,g]
   ·intro d aa;simp at aa;subst aa;exact⟨h1,.inr (by simp[jK,g])⟩
  |_=>rw[g]at hl;simp at hl
 |_=>simp[m2]at hl
def Hh(ι:Nat->bz)(nb a:List (Nat×Nat)):ae.sub (db ι a) (db ι (nb++a)):=
 fun b o ⟨d,h1,e⟩=>⟨d,List.mem_append.2 (.inr h1),e⟩
def wj(w0:World)(F0 Z0:ae)(n:cl)(s:av)(a:Act)(w:World)(ι:Nat->bz)(Z:ae)(b:Bool)(R:ae->List Value->ae->Prop)(vs:List Value)
  (cs':List a7) (an:av) (g e:List (Nat×Nat)):Prop:=
 ∃us h F Z',vs=us++h/\Inv w0 F0 Z0 n an a w ι Z'/\eN s ι Z an Z'/\bG w Z' an ι cs' h/\bD w0 F0 an w ι Z' F ∧
  R (Z'.or (db ι e)) us F/\(∃nb,e=nb++g)/\(b=false->e=g)/\(∀d,d∈e->ee an d) ∧
  ∀b o,F b o->∃id,(s.o id).live/\(ι id).F b o
def ud{b:Bool}{R:ae->List Value->ae->Prop}{v:Value}{e:List Value}{cs':List a7}{g:List (Nat×Nat)}(h:Inv w0 F0 Z0 n s a w ι Z)
  (hc:bG w Z s ι cs' e) (hb:∀d,d∈g->ee s d) (i:∀Z,R Z [v] ae.none):wj w0 F0 Z0 n s a w ι Z b R (v::e) cs' s g g:=
 ⟨[v],e,ae.none,Z,rfl,h,.refl,hc,.none,i _,⟨[],rfl⟩,fun _=>rfl,hb,fun _ _ h=>h.elim⟩
def Hi(h:eN s ι Z an Z'){d:Nat×Nat}(aa:ee s d):ee an d:=by
 obtain⟨h1,b⟩:=aa;unfold ee known jK at *;rcases h.o d.1 with a|⟨_,a⟩
 ·rw[a];exact⟨h1,b⟩
 ·rw[a];exact⟨by simp,.inl rfl⟩
def OX{t:U}{e:a8}{x:List t.D}{vs:List Value}{F:ae}(h:(U.sl t).al w Z (.O e) x vs F):
  ∃F',ae.sub F' F/\(U.sl t).al w (Z.or fun b o=>F b o/\¬F' b o) (.O .R) x vs F':=by
 simp only[U.al]at h⊢;obtain⟨A,c,hv,h⟩:=h;rcases h with h|⟨a,i,hr⟩
 ·exact⟨ae.none,fun _ _ h=>h.elim,A,c,hv,.inl h⟩
 ·obtain⟨G,k,l,m⟩:=hr.row;refine⟨ae.run a.block a.off (c*t.size),?_,A,c,hv,.inr ⟨a,i,hr.spot,hr.cap,hr.wr,fun j q=>⟨rfl,by omega,by omega⟩,ae.none,?_,fun _ _ h=>h,fun _ _ h=>h.elim⟩⟩
  ·rintro b o ⟨rfl,h1,n⟩
   have:=hr.inF (o-a.off) (by omega);rwa[show a.off +(o-a.off)=o by omega]at this
  ·refine k.bare fun r us s d p=>U.al.read (fun _ _ h=>.inl h) _ _ (fun b o g=>.inr ⟨m b o (d b o g),?_⟩) p
   rintro⟨rfl,h1,n⟩
   have:=l (o-a.off) (by omega);rw[show a.off +(o-a.off)=o by omega]at this;exact this (d _ o g)
def Y3(t:U)(b:Bool)(m:a8)(c:a7)(cs:List a7)(s:av)(z:List (Nat×Nat))(r:List t.D×List a7×av×List (Nat×Nat))(v:Value)(vs:List Value)(Z:ae)
  (l:(U.sl t).imp b m (c::cs) s z=some r) (h:Inv w0 F0 Z0 n s a w ι Z) (hc:bG w Z s ι (c::cs) (v::vs)) (hb:∀d,d∈z->ee s d):
  wj w0 F0 Z0 n s a w ι Z b (fun Z us F=>(U.sl t).al w Z m r.1 us F) (v::vs) r.2.1 r.2.2.1 z r.2.2.2:=by
 have L:∀{Z m},v=.slice none 0 0->(U.sl t).al w Z m ([]:List t.D) [v] ae.none:=by intro Z m hv;subst hv;cases m<;>simp only[U.al]<;>exact⟨none,0,rfl,.inl (by simp)⟩
 have frozen:∀(m:a8),m=.R\/(∃ms,m=.S ms)->(U.sl t).imp b m (c::cs) s z=some r →
   wj w0 F0 Z0 n s a w ι Z b (fun Z us F=>(U.sl t).al w Z m r.1 us F) (v::vs) r.2.1 r.2.2.1 z r.2.2.2:=by
  intro m hm l
  have H:∀{Z:ae}{x:List t.D}{us:List Value},(U.sl t).al w Z .R x us ae.none->(U.sl t).al w Z m x us ae.none:=by
   rcases hm with rfl|⟨ms,rfl⟩
   ·exact fun h=>h
   ·intro Z x us h;simpa only[U.al]using h
  cases b with
  |true=>
   have g:(m2 s t c).bind (fun x=>some (x,cs,s,borrows s c++z))=some r:=by rcases hm with rfl|⟨ms,rfl⟩<;>simpa only[U.imp]using l
   obtain⟨x,B,g⟩:=a6 g;obtain rfl:=aS g;obtain⟨M,W,N⟩:=Hg h B hc.1;refine⟨[v],vs,ae.none,Z,rfl,h,.refl,hc.2,.none,H (U.al.mono ?_ _ _ (fun _ _ h=>h) M),⟨_,rfl⟩,fun i=>by simp at i,?_,fun _ _ h=>h.elim⟩
   ·rintro b o (q|⟨d,aa,i⟩)
    ·exact .inl q
    ·exact .inr ⟨d,List.mem_append.2 (.inl aa),i⟩
   ·intro d aa;rcases List.mem_append.1 aa with aa|aa
    ·exact N d aa
    ·exact hb d aa
  |false=>
   cases c with
   |nil u=>
    have g:(ej (.sl u) (.sl t) ([]:List u.D)).bind (fun x=>some (x,cs,s,z))=some r:=by rcases hm with rfl|⟨ms,rfl⟩<;>simpa only[U.imp]using l
    obtain⟨x,B,g⟩:=a6 g;obtain rfl:=aS g;obtain⟨e,rfl⟩:=gx B;subst e;exact ud h hc.2 hb fun Z=>L hc.1
   |bq u dp X xs=>
    cases dp with
    |cons d dp=>rcases hm with rfl|⟨ms,rfl⟩<;>simp[U.imp]at l
    |nil=>
     have g:(ej (.sl u) (.sl t) xs).bind (fun x=>some (x,cs,s,z))=some r:=by rcases hm with rfl|⟨ms,rfl⟩<;>simpa only[U.imp]using l
     obtain⟨x,B,g⟩:=a6 g;obtain rfl:=aS g;obtain⟨e,rfl⟩:=gx B;subst e;have p:=hc.1.2.2.1 rfl;refine⟨[v],vs,ae.none,Z,rfl,h,.refl,hc.2,.none,H (U.al.mono ?_ _ _ (fun _ _ h=>h) p),⟨[],rfl⟩,fun _=>rfl,hb,fun _ _ h=>h.elim⟩
     rintro b o (q|⟨d,aa,i⟩)
     ·exact .inl q
     ·simp at aa
   |aa id sub=>
    cases y:s.o id with
    |row u em ver xs=>
     have g:(ej (.sl u) (.sl t) (jY sub xs)).bind (fun x=>some (x,cs,s.bA id .dead,z))=some r:=by rcases hm with rfl|⟨ms,rfl⟩<;>simpa only[U.imp,y]using l
     obtain⟨x,B,g⟩:=a6 g;obtain rfl:=aS g;obtain⟨e,rfl⟩:=gx B;subst e;have hl:(s.o id).live:=by rw[y];trivial
     obtain⟨hk,A,m',k,rfl,I⟩:=hc.1;have D:=h.eU id;rw[y]at D;have p:=uc D (I u em ver xs (kk y));have C:=OW h hl;refine⟨[_],vs,ae.none,Z.or (ι id).F,rfl,h.take id (fun _ _ h=>.inl h) (fun b o q=>q.imp (fun h=>h) fun h=>⟨hl,h⟩),C,hc.2.move C.d',.none,H ?_,⟨[],rfl⟩,fun _=>rfl,fun d aa=>Hi C (hb d aa),fun _ _ h=>h.elim⟩;exact U.al.read (fun _ _ h=>.inl (.inl h)) _ _ (fun b o i=>.inl (.inr i)) p
    |_=>rcases hm with rfl|⟨ms,rfl⟩<;>simp[U.imp,y]at l
   |_=>rcases hm with rfl|⟨ms,rfl⟩<;>simp[U.imp]at l
 cases m with
 |R=>exact frozen _ (.inl rfl) l
 |S ms=>exact frozen _ (.inr ⟨ms,rfl⟩) l
 |O e=>
  cases c with
  |nil u=>
   have g:(ej (.sl u) (.sl t) ([]:List u.D)).bind (fun x=>some (x,cs,s,z))=some r:=by cases b<;>simpa only[U.imp]using l
   obtain⟨x,B,g⟩:=a6 g;obtain rfl:=aS g;obtain⟨e,rfl⟩:=gx B;subst e;exact ud h hc.2 hb fun Z=>L hc.1
  |aa id sub=>
   cases y:s.o id with
   |row u em ver xs=>
    have g:(if a8.le em e=true then(ej (.sl u) (.sl t) (jY sub xs)).bind (fun x=>some (x,cs,s.bA id .dead,z)) else none)=some r:=by cases b<;>(simp only[U.imp,y]at l;rw[<-l];cases a8.le em e<;>rfl)
    split at g
    case isFalse=>simp at g
    rename_i hle;obtain⟨x,B,g⟩:=a6 g;obtain rfl:=aS g;obtain⟨P,rfl⟩:=gx B;subst P;have hl:(s.o id).live:=by rw[y];trivial
    obtain⟨hk,A,m',k,rfl,I⟩:=hc.1;have D:=h.eU id;rw[y]at D;have p:=uc D (I u em ver xs (kk y));have E:=h.ua hl;by_cases J:em=e
    ·subst J;have C:eN s ι Z (s.bA id .dead) Z:=ub id (by rw[y];trivial)
     exact⟨[_],vs,(ι id).F,Z,rfl,h.take id (fun _ _ h=>h) (fun b o q=>.inl q),C,hc.2.move C.d',E,
      U.al.mono (fun _ _ h=>.inl h) _ _ (fun _ _ h=>h) p,⟨[],rfl⟩,fun _=>rfl,fun d aa=>Hi C (hb d aa),fun b o i=>⟨id,hl,i⟩⟩
    ·have Q:e=.R:=by
      cases e with
      |R=>rfl
      |O e=>exact absurd (a8.eq_of_beq _ _ hle) J
      |S e=>exact absurd (a8.eq_of_beq _ _ hle) J
     subst Q;obtain⟨F',G,T⟩:=OX p
     have C:eN s ι Z (s.bA id .dead) (Z.or fun b o=>(ι id).F b o/\¬F' b o):=by
      have K:=OW h hl;refine⟨K.o,K.t,K.g,fun _ _ h=>.inl h,fun b o q=>?_⟩;rcases q with h1|h1
      ·exact .inl h1
      ·exact .inr ⟨id,hl,b6 _ _ _,h1.1⟩
     refine⟨[_],vs,F',_,rfl,h.take id (fun _ _ h=>.inl h) (fun b o q=>q.imp (fun h=>h) fun h=>⟨hl,h.1⟩),C,hc.2.move C.d',⟨fun b o i=>E.own b o (G b o i),fun j V b o i=>E.apart j V b o (G b o i),?_⟩,
      U.al.mono (fun _ _ h=>.inl h) _ _ (fun _ _ h=>h) T,⟨[],rfl⟩,fun _=>rfl,fun d aa=>Hi C (hb d aa),fun b o i=>⟨id,hl,G b o i⟩⟩
     rintro b o i (q|q)
     ·exact E.cB b o (G b o i) q
     ·exact q.2 i
   |_=>cases b<;>simp[U.imp,y]at l
  |_=>cases b<;>simp[U.imp]at l
mutual
def U.j1:∀(t:U) (b:Bool) (m:a8) (cs:List a7) (s:av) (g:List (Nat×Nat)) (r:t.D×List a7×av×List (Nat×Nat)) (vs:List Value) (Z:ae),
  t.imp b m cs s g=some r->Inv w0 F0 Z0 n s a w ι Z->bG w Z s ι cs vs->(∀d,d∈g->ee s d) →
  wj w0 F0 Z0 n s a w ι Z b (fun Z us F=>t.al w Z m r.1 us F) vs r.2.1 r.2.2.1 g r.2.2.2
 |.int k,b,m,cs,s,g,r,vs,Z,e,h,hc,hb=>by
  cases cs with
  |nil=>cases m<;>simp[U.imp]at e
  |cons c cs=>
   cases vs with
   |nil=>exact hc.elim
   |cons v vs=>
    cases c<;>simp only[U.imp]at e<;>try (simp at e;done)
    rename_i k' x;cases hk:Nat.beq (df k) (df k')
    ·rw[hk]at e;simp at e
    ·rw[hk]at e;obtain rfl:=aS e;obtain rfl:=rb (cG hk);have hv:v=.int k x:=hc.1;subst hv;exact ud h hc.2 hb fun Z=>by simp only[U.al]
 |.bool,b,m,cs,s,g,r,vs,Z,e,h,hc,hb=>by
  cases cs with
  |nil=>cases m<;>simp[U.imp]at e
  |cons c cs=>
   cases vs with
   |nil=>exact hc.elim
   |cons v vs=>
    cases c<;>simp only[U.imp]at e<;>try (simp at e;done)
    obtain rfl:=aS e;have hv:v=.bool _:=hc.1;subst hv;exact ud h hc.2 hb fun Z=>by simp only[U.al]
 |.str,b,m,cs,s,g,r,vs,Z,e,h,hc,hb=>by
  cases cs with
  |nil=>cases m<;>simp[U.imp]at e
  |cons c cs=>
   cases vs with
   |nil=>exact hc.elim
   |cons v vs=>
    cases c<;>simp only[U.imp]at e<;>try (simp at e;done)
    obtain rfl:=aS e;obtain⟨q,rfl,l⟩:=hc.1;exact ud h hc.2 hb fun Z=>by simp only[U.al];exact⟨q,rfl,l⟩
 |.raw,b,m,cs,s,g,r,vs,Z,e,h,hc,hb=>by
  cases cs with
  |nil=>cases m<;>simp[U.imp]at e
  |cons c cs=>
   cases vs with
   |nil=>exact hc.elim
   |cons v vs=>
    cases c<;>simp only[U.imp]at e<;>try (simp at e;done)
    obtain rfl:=aS e;obtain⟨q,l⟩:=hc.1;exact ud h hc.2 hb fun Z=>by simp only[U.al];exact⟨by rw[q],l⟩
 |.sl t,b,m,cs,s,g,r,vs,Z,e,h,hc,hb=>by
  cases cs with
  |nil=>cases m<;>cases b<;>simp[U.imp]at e
  |cons c cs=>
   cases vs with
   |nil=>exact hc.elim
   |cons v vs=>exact Y3 t b m c cs s g r v vs Z e h hc hb
 |.st ah,b,m,cs,s,g,r,vs,Z,e,h,hc,hb=>by simp only[U.imp]at e;have:=aw.j1 ah b m.parts cs s g r vs Z e h hc hb;simpa only[U.al]using this
def aw.j1:∀(ah:aw) (b:Bool) (m:cA) (cs:List a7) (s:av) (g:List (Nat×Nat)) (r:ah.D×List a7×av×List (Nat×Nat)) (vs:List Value) (Z:ae),
  ah.imp b m cs s g=some r->Inv w0 F0 Z0 n s a w ι Z->bG w Z s ι cs vs->(∀d,d∈g->ee s d) →
  wj w0 F0 Z0 n s a w ι Z b (fun Z us F=>ah.al w Z m r.1 us F) vs r.2.1 r.2.2.1 g r.2.2.2
 |.nil,b,m,cs,s,g,r,vs,Z,e,h,hc,hb=>by simp only[aw.imp]at e;obtain rfl:=aS e;exact⟨[],vs,ae.none,Z,rfl,h,.refl,hc,.none,by simp only[aw.al],⟨[],rfl⟩,fun _=>rfl,hb,fun _ _ h=>h.elim⟩
 |.cons t ah,b,m,cs,s,g,r,vs,Z,e,h,hc,hb=>by
  simp only[aw.imp]at e;obtain⟨j,h1,e⟩:=a6 e;obtain⟨z,p,e⟩:=a6 e;obtain rfl:=aS e;obtain⟨us,I,F,A,J,K,B,L,C,M,⟨N,P⟩,Q,T,V⟩:=U.j1 t b m.aa cs s g j vs Z h1 h hc hb;obtain⟨D,W,G,bK,X,i2,u,Y,ab,ac,⟨ad,E⟩,af,aj,H⟩:=aw.j1 ah b m.dq j.2.1 j.2.2.1 j.2.2.2 z I A p K L T
  have ak:ae.sub (A.or (db ι j.2.2.2)) (bK.or (db ι z.2.2.2)):=by
   rintro b o (y|y)
   ·exact .inl (u.dt b o y)
   ·rw[E];exact .inr (Hh _ _ _ b o y)
  refine⟨us++D,W,F.or G,bK,by rw[J,X,dW],i2,B.trans u,Y,(C.shrink u).or ab,?rep,⟨ad++N,by rw[E,P,dW]⟩,fun i=>by rw[af i,Q i],aj,?src⟩
  case src=>
   rintro b o (i|i)
   ·exact V b o i
   ·obtain⟨id,hl,e⟩:=H b o i;exact⟨id,(B.live hl).1,e⟩
  simp only[aw.al];refine⟨us,D,F,G,rfl,U.al.mono ak _ _ (fun _ _ h=>h) M,ac,?_,fun _ _ h=>.inl h,fun _ _ h=>.inr h⟩;intro b o h1 p;obtain⟨id,hl,e⟩:=H b o p;exact C.apart id hl b o h1 e
end
end
end Go.LM
namespace Go.LM
def Row.get{α:Type}{w:World}{R:α->List Value->ae->Prop}{size:Nat}:∀{x:List α}{b o:Nat}{F:ae} (i:Nat) (a:i<x.length),Row w R size x b o F →
  ∃vs G,R x[i] vs G/\vs.length=size/\bV w b (o+i*size) vs/\ae.sub G F
 |l::x,b,o,F,0,_,⟨vs,G,H,h1,d,e,g,m,j,k⟩=>⟨vs,G,h1,d,by simpa using e,j⟩
 |l::x,b,o,F,i+1,a,⟨vs,G,H,h1,d,e,g,m,j,k⟩=>by obtain⟨us,n,p,k2,k3,aZ⟩:=Row.get i (by simpa using a) g;refine⟨us,n,p,k2,?_,fun b o h=>k b o (aZ b o h)⟩;rwa[show o +(i+1)*size=o+size+i*size by rw[de];omega]
def Row.set{α:Type}{w w':World}{R ie:α->List Value->ae->Prop}{size:Nat}{z:α}{F1:ae}:∀{x:List α}{b o:Nat}{F:ae} (i:Nat) (A:i<x.length),Row w R size x b o F →
  (∀y vs G,ae.sub G F->R y vs G->ie y vs G) →
  (∀j,j<x.length*size->(j<i*size\/(i+1)*size<=j)->w'.cell? (at_ b (o+j))=w.cell? (at_ b (o+j))) →
  (∀vs G,R x[i] vs G->vs.length=size->bV w b (o+i*size) vs->ae.sub G F->∃d,d.length=size/\bV w' b (o+i*size) d/\ie z d (G.or F1)) →
  ae.apart F1 F->Row w' ie size (x.set i z) b o (F.or F1)
 |y::x,b,o,F,0,_,⟨vs,G,H,h1,p,q,r,s,e,a⟩,m,hc,hn,n=>by
  obtain⟨d,u,k2,k3⟩:=hn vs G h1 p (by simpa using q) e;refine⟨d,G.or F1,H,k3,u,by simpa using k2,?_,?_,?_,fun b o h=>.inl (a b o h)⟩
  ·refine Row.imp r (fun y vs l v=>m y vs l fun b o h=>a b o (v b o h)) fun j B=>?_
   have:=hc (size+j) (by rw[b2,de];omega) (.inr (by simp));rwa[<-dQ]at this
  ·rintro b o (h|h) g
   ·exact s b o h g
   ·exact n b o h (a b o g)
  ·rintro b o (h|h)
   ·exact .inl (e b o h)
   ·exact .inr h
 |y::x,b,o,F,i+1,A,⟨vs,G,H,h1,p,q,r,s,e,a⟩,m,hc,hn,n=>by
  refine⟨vs,G,H.or F1,m _ _ _ e h1,p,?_,?_,?_,fun b o h=>.inl (e b o h),?_⟩
  ·refine q.of_eq fun k hk=>hc k ?_ (.inl ?_)
   ·rw[b2,de];omega
   ·rw[de];omega
  ·refine Row.set i (by simpa using A) r (fun y vs l v=>m y vs l fun b o h=>a b o (v b o h)) ?_ ?_ (fun b o h k=>n b o h (a b o k))
   ·intro j B C
    have:=hc (size+j) (by rw[b2,de];omega) (by
     rcases C with h|h
     ·left;rw[de];omega
     ·right;rw[de];omega)
    rwa[<-dQ]at this
   ·intro d l u k2 k3 aZ;have:=hn d l u k2 (by rwa[show o +(i+1)*size=o+size+i*size by rw[de];omega]) (fun b o h=>a b o (aZ b o h));rwa[show o +(i+1)*size=o+size+i*size by rw[de];omega]at this
  ·rintro b o h (g|g)
   ·exact s b o h g
   ·exact n b o g (e b o h)
  ·rintro b o (h|h)
   ·exact .inl (a b o h)
   ·exact .inr h
section
variable{w0:World}{F0 Z0:ae}{n:cl}{s an:av}{a b0:Act}{w w':World}{ι a':Nat->bz}{Z Z':ae}
def kN(w:World)(s:av)(ι:Nat->bz)(dp:List (Nat×Nat))(a:Option Place)(vs:List Value):Prop:=
 ∀k v,vs[k]?=some v->pJ w s ι dp (a.map fun p=> { p with off:=p.off+k }) v
def kN.none{dp:List (Nat×Nat)}{vs:List Value}:kN w s ι dp none vs:=fun _ _ _=>.none
def kN.head{dp:List (Nat×Nat)}{a:Option Place}{v:Value}{vs:List Value}(h:kN w s ι dp a (v::vs)):pJ w s ι dp a v:=by
 have:=h 0 v rfl
 cases a with
 |none=>exact .none
 |some p=>simpa using this
def kN.left{dp:List (Nat×Nat)}{a:Option Place}{us vs:List Value}(h:kN w s ι dp a (us++vs)):kN w s ι dp a us:=fun k v hv=>h k v (by rw[List.getElem?_append_left (List.getElem?_eq_some_iff.1 hv).1];exact hv)
def kN.right{dp:List (Nat×Nat)}{a:Option Place}{us vs:List Value}(h:kN w s ι dp a (us++vs)):kN w s ι dp (a.map fun p=> { p with off:=p.off+us.length }) vs:=fun k v hv=>by
 have:=h (us.length+k) v (by rw[List.getElem?_append_right (by omega)];simpa using hv)
 cases a with
 |none=>exact .none
 |some p=>simpa[dQ]using this
mutual
def U.n8:∀(t:U) (dp:List (Nat×Nat)) (b:Option Place) {x:t.D}{vs:List Value},(∀d,d∈dp->ee s d) →
  (alive s dp=true->t.al w (Z.or (db ι dp)) .R x vs ae.none)->(∃m Z' F',t.al w Z' m x vs F')->kN w s ι dp b vs->bG w Z s ι (t.cells dp b x) vs
 |.int k,dp,b,x,vs,aa,h,⟨m,Z',F',a⟩,g=>by simp only[U.al]at a;subst a;exact⟨rfl,trivial⟩
 |.bool,dp,b,x,vs,aa,h,⟨m,Z',F',a⟩,g=>by simp only[U.al]at a;subst a;exact⟨rfl,trivial⟩
 |.str,dp,b,x,vs,aa,h,⟨m,Z',F',a⟩,g=>by simp only[U.al]at a;obtain⟨q,rfl,i⟩:=a;exact⟨⟨q,rfl,i⟩,trivial⟩
 |.raw,dp,b,x,vs,aa,h,⟨m,Z',F',a⟩,g=>by simp only[U.al]at a;obtain⟨rfl,i⟩:=a;exact⟨⟨rfl,i⟩,trivial⟩
 |.sl t,dp,b,x,vs,aa,h,⟨m,Z',F',a⟩,g=>by
  have hv:∃A c,vs=[.slice A x.length c]:=by cases m<;>(simp only[U.al]at a;obtain⟨A,c,hv,_⟩:=a;exact⟨A,c,hv⟩)
  obtain⟨A,c,rfl⟩:=hv;exact⟨⟨aa,⟨A,_,c,rfl⟩,h,g.head⟩,trivial⟩
 |.st ah,dp,b,x,vs,aa,h,⟨m,Z',F',a⟩,g=>by simp only[U.al]at h a;simp only[U.cells];exact aw.n8 ah dp b aa h ⟨_,_,_,a⟩ g
def aw.n8:∀(ah:aw) (dp:List (Nat×Nat)) (b:Option Place) {x:ah.D}{vs:List Value},(∀d,d∈dp->ee s d) →
  (alive s dp=true->ah.al w (Z.or (db ι dp)) (a8.parts .R) x vs ae.none)->(∃m Z' F',ah.al w Z' m x vs F')->kN w s ι dp b vs->bG w Z s ι (ah.cells dp b x) vs
 |.nil,dp,b,x,vs,aa,h,⟨m,Z',F',a⟩,g=>by simp only[aw.al]at a;subst a;trivial
 |.cons t ah,dp,b,x,vs,aa,h,⟨m,Z',F',a⟩,g=>by
  simp only[aw.al]at h a;obtain⟨us,v,G,H,rfl,l,n,_⟩:=a;have hlen:=(U.al.len t _ l).1;simp only[aw.cells];refine bG.append (U.n8 t dp b aa (fun j=>?_) ⟨_,_,_,l⟩ g.left) (aw.n8 ah dp _ aa (fun j=>?_) ⟨_,_,_,n⟩ (hlen▸g.right))
  ·obtain⟨o,p,r,u,e,k2,k3,aZ,a_,c7⟩:=h j;have:=(U.al.len t _ k2).1;obtain⟨rfl,rfl⟩:=List.append_inj e (by omega);exact U.al.mono (fun _ _ h=>h) _ _ a_ k2
  ·obtain⟨o,p,r,u,e,k2,k3,aZ,a_,c7⟩:=h j;have:=(U.al.len t _ k2).1;obtain⟨rfl,rfl⟩:=List.append_inj e (by omega);exact aw.al.mono (fun _ _ h=>h) _ _ c7 k3
end
def m5{off k:Nat}{cs ds:List a7}(h:takeN off k cs=some ds):off+k<=cs.length/\ds=(cs.drop off).take k:=by
 unfold takeN at h;cases hb:Nat.ble (off+k) cs.length
 ·rw[hb]at h;simp at h
 ·rw[hb]at h;exact⟨fc hb,(aS h).symm⟩
def cC{t:U}{xs:List t.D}{i:Nat}(a:i<xs.length):I t xs i=xs[i]:=by simp[I,a]
def Hj(h:Inv w0 F0 Z0 n s a w ι Z){id:Nat}{t:U}{em:a8}{ver:Nat}{xs:List t.D}(g:s.o id=.row t em ver xs){i:Nat}(j:i<xs.length):
  ∃e vs,(ι id).base=some e/\e.spot=none/\bG w Z s ι (y8 t em id ver i (I t xs i)) vs/\bV w e.block (e.off+i*t.size) vs/\vs.length=t.size:=by
 have q:=h.eU id;rw[g]at q;rcases q with⟨rfl,_⟩|⟨e,hb,hr⟩
 ·simp at j
 ·obtain⟨G,r,C,u⟩:=hr.row;obtain⟨vs,D,m,k2,k3,aZ⟩:=r.get i j;refine⟨e,vs,hb,hr.spot,?_,k3,k2⟩;rw[cC j]
  have key:∀dp l,(∀d,d∈dp->ee s d)->(em=.R\/(id,ver)∈dp)->kN w s ι dp l vs->bG w Z s ι (t.cells dp l xs[i]) vs:=by
   intro dp l aa y z;refine U.n8 t dp l aa (fun E=>?_) ⟨_,_,_,m⟩ z;rcases y with rfl|hm
   ·exact U.al.mono (fun _ _ h=>.inl h) _ _ (fun _ _ h=>h) (U.al.read (Z:=Z) (Z':=Z) (F:=ae.none) (fun _ _ h=>h) t .R (fun _ _ h=>h.elim) (by
     have:=m
     exact pI this))
   ·exact U.al.read (fun _ _ h=>.inl h) t em (fun b o A=>.inr ⟨_,hm,u b o (aZ b o A)⟩) m
  unfold y8;split
  ·exact key [] _ (by simp) (.inl rfl) .none
  ·refine key _ _ ?_ (.inr (by simp)) ?_
   case refine_2=>
    intro k v hv p ai;simp only[fe,cQ]at ai;subst ai;refine⟨⟨(id,ver),by simp,rfl⟩,fun _=>?_⟩;have hk:k<t.size:=by rw[<-k2];exact(List.getElem?_eq_some_iff.1 hv).1
    have B:(i+1)*t.size<=(ι id).cap*t.size:=c3 _ (by have:=hr.cap;omega);rw[de]at B;refine⟨e.block,e.off+i*t.size+k,⟨rfl,?_⟩,k3 k v hv,?_⟩
    ·show match (s.o id).core with|.var _ _=>_|.row t _ _ xs=>_|_=>_
     rw[g];exact⟨i,rfl,j,e,hb,by simp⟩
    ·have:=hr.inF (i*t.size+k) (by omega);rwa[<-dQ]at this
   intro d aa;simp at aa;subst aa;exact⟨by simp[known,g],.inr (by simp[jK,g])⟩
def wk(h:Inv w0 F0 Z0 n s a w ι Z){k:Nat}{p:Place}{cs:List a7}{A:Addr}(hr:kL s k p=some cs)(ai:iG s ι p A):
  ∃b o vs,A=at_ b o/\bG w Z s ι cs vs/\bV w b o vs/\vs.length=k:=by
 obtain⟨hs,ai⟩:=ai;unfold kL at hr
 cases d:s.o p.id with
 |var ver old=>rw[d]at hr ai;obtain⟨he,l,hb,rfl⟩:=ai;rw[he]at hr;obtain⟨h1,rfl⟩:=m5 hr;have j:=h.eU p.id;rw[d]at j;obtain⟨m,vs,e,q,hc,g,_⟩:=j;rw[hb]at e;obtain rfl:=aS e;refine⟨_,_,(vs.drop p.off).take k,rfl,(hc.drop _).take _,g.part _ _,?_⟩;have:=hc.len;simp;omega
 |row t em ver xs=>
  rw[d]at hr ai;obtain⟨i,he,r,l,hb,rfl⟩:=ai;rw[he]at hr;obtain⟨h1,rfl⟩:=m5 hr;obtain⟨m,vs,e,q,hc,g,hl⟩:=Hj h d r;rw[hb]at e;obtain rfl:=aS e;refine⟨_,_,(vs.drop p.off).take k,rfl,(hc.drop _).take _,?_,?_⟩
  ·have:=g.part p.off k;exact this
  ·have:=hc.len;simp;omega
 |none=>rw[d]at hr;simp at hr
 |dead=>rw[d]at hr;simp at hr
 |b7=>rw[d]at hr;simp at hr
 |hole=>rw[d]at hr;simp at hr
def Y4{id:Nat}(b:s.o id=.none)(o:b9)(i:bz):d_ w Z s ι w Z (s.bA id o) (bF ι id i):=by
 refine⟨fun j=>?_,fun _ _ h=>h,bS.refl _ _⟩;show gf (s.o j) (ι j) (bF s.o id o j) (bF ι id i j);by_cases a:id=j
 ·subst a;rw[b];exact .made _ _ _
 ·rw[ca a,ca a];exact .stay _ _
def Inv.ze(h:Inv w0 F0 Z0 n s a w ι Z){id:Nat}(m:s.o id=.none){o:b9}{i:bz}
  (p:gd w Z (s.bA id o) (bF ι id i) i o) (d:bD w0 F0 s w ι Z i.F):Inv w0 F0 Z0 n (s.bA id o) a w (bF ι id i) Z:=by
 have hm:=Y4 (w:=w) (Z:=Z) (ι :=ι) m o i;refine h.next hm (Ext.refl _ ae.none) (fun _ _ h=>h.elim) (fun _ _ h=>.inl h) ?_ ?_ (fun k=>(h.tmps k).move hm) h.size h.defers
 ·intro j hl q;by_cases b:id=j
  ·subst b;rw[b6];refine⟨by show gd _ _ _ _ _ (bF s.o id o id);rw[b6];exact p,d.own,fun e r l=>?_⟩;rw[ca l];have g:(s.o e).live:=by have:(bF s.o id _ e).live:=r;rwa[ca l]at this
   exact d.apart e g
  ·exact absurd ⟨ca b,ca b⟩ q
 ·intro j hl;by_cases b:id=j
  ·subst b;rw[b6];exact d.cB
  ·rw[ca b];have g:(s.o j).live:=by have:(bF s.o id _ j).live:=hl;rwa[ca b]at this
   exact h.cB j g
structure kl(s:av)(ι:Nat->bz)(an:av)(a':Nat->bz):Prop where
 o:∀id,s.o id≠.none->an.o id=s.o id/\a' id=ι id
 t:an.t=s.t
 g:an.g=s.g
 nl:∀id o',s.o id=.none->an.o id≠.b7 o'
def kl.refl:kl s ι s ι :=⟨fun _ _=>⟨rfl,rfl⟩,rfl,rfl,fun _ _ h=>by rw[h];simp⟩
def kl.trans{a:av}{dY:Nat->bz}(h:kl s ι an a')(k:kl an a' a dY):kl s ι a dY:=
 ⟨fun id hn=>by have h1:=h.o id hn;have b:=k.o id (by rw[h1.1];exact hn);exact⟨b.1.trans h1.1,b.2.trans h1.2⟩,k.t.trans h.t,k.g.trans h.g,fun id o' hn=>by
  by_cases hm:an.o id=.none
  ·exact k.nl id o' hm
  ·rw[(k.o id hm).1];exact h.nl id o' hn⟩
def kl.d'(h:kl s ι an a'):d_ w Z s ι w Z an a':=by
 refine⟨fun id=>?_,fun _ _ h=>h,bS.refl _ _⟩;by_cases hn:s.o id=.none
 ·rw[hn];exact .made _ _ _
 ·rw[(h.o id hn).1,(h.o id hn).2];exact .stay _ _
def Y5{id:Nat}(b:s.o id=.none)(o:b9)(i:bz)(d:∀o',o≠.b7 o'):kl s ι (s.bA id o) (bF ι id i):=by
 refine⟨fun j hn=>?_,rfl,rfl,fun j o' hn=>?_⟩
 ·have a:id≠j:=fun e=>hn (e▸b)
  exact⟨ca a,ca a⟩
 ·show bF s.o id o j≠_;by_cases a:id=j
  ·subst a;rw[b6];exact d o'
  ·rw[ca a,hn];simp
def Hk(w0:World)(F0 Z0:ae)(n:cl)(s:av)(a:Act)(w:World)(ι:Nat->bz)(Z:ae)(vs:List Value)(F:ae)(cs:List a7)(an:av):Prop:=
 ∃ a',Inv w0 F0 Z0 n an a w a' Z/\kl s ι an a'/\bG w Z an a' cs vs/\∀G,bD w0 F0 s w ι Z G->ae.apart G F->bD w0 F0 an w a' Z G
def rq(h:Inv w0 F0 Z0 n s a w ι Z){vs:List Value}{F:ae}{cs:List a7}(hc:bG w Z s ι cs vs):Hk w0 F0 Z0 n s a w ι Z vs F cs s:=
 ⟨ι,h,.refl,hc,fun _ b _=>b⟩
mutual
def U.lv:∀(t:U) (m:a8) (dp:List (Nat×Nat)) (x:t.D) (s:av) (ι:Nat->bz) (j:Nat) (r:List a7×av×Nat) (vs:List Value) (F:ae),
  t.gv m dp x s j=some r->Inv w0 F0 Z0 n s a w ι Z->t.al w (Z.or (db ι dp)) m x vs F->bD w0 F0 s w ι Z F->ae.apart F (db ι dp)->(∀d,d∈dp->ee s d) →
  Hk w0 F0 Z0 n s a w ι Z vs F r.1 r.2.1
 |.int k,m,dp,x,s,ι,j,r,vs,F,he,h,hr,g,u,aa=>by simp only[U.gv]at he;obtain rfl:=aS he;simp only[U.al]at hr;subst hr;exact rq h ⟨rfl,trivial⟩
 |.bool,m,dp,x,s,ι,j,r,vs,F,he,h,hr,g,u,aa=>by simp only[U.gv]at he;obtain rfl:=aS he;simp only[U.al]at hr;subst hr;exact rq h ⟨rfl,trivial⟩
 |.str,m,dp,x,s,ι,j,r,vs,F,he,h,hr,g,u,aa=>by simp only[U.gv]at he;obtain rfl:=aS he;simp only[U.al]at hr;obtain⟨q,rfl,y⟩:=hr;exact rq h ⟨⟨q,rfl,y⟩,trivial⟩
 |.raw,m,dp,x,s,ι,j,r,vs,F,he,h,hr,g,u,aa=>by simp only[U.gv]at he;obtain rfl:=aS he;simp only[U.al]at hr;obtain⟨rfl,y⟩:=hr;exact rq h ⟨⟨rfl,y⟩,trivial⟩
 |.sl t,.R,dp,x,s,ι,j,r,vs,F,he,h,hr,g,u,aa=>by simp only[U.gv]at he;obtain rfl:=aS he;have N:=hr;simp only[U.al]at hr;obtain⟨A,c,rfl,_⟩:=hr;exact rq h ⟨⟨aa,⟨A,_,c,rfl⟩,fun _=>pI N,.none⟩,trivial⟩
 |.sl t,.S ms,dp,x,s,ι,j,r,vs,F,he,h,hr,g,u,aa=>by
  simp only[U.gv]at he;obtain rfl:=aS he;have N:(U.sl t).al w (Z.or (db ι dp)) .R x vs F:=by simp only[U.al]at hr⊢;exact hr
  simp only[U.al]at hr;obtain⟨A,c,rfl,_⟩:=hr;exact rq h ⟨⟨aa,⟨A,_,c,rfl⟩,fun _=>pI N,.none⟩,trivial⟩
 |.sl t,.O e,dp,x,s,ι,j,r,vs,F,he,h,hr,g,u,aa=>by
  simp only[U.gv]at he;cases y:(dp.isEmpty||a8.beq e t.own)
  ·rw[y]at he;simp at he
  rw[y]at he
  cases J:s.o j with
  |none=>
   rw[J]at he;obtain rfl:=aS he
   have l:(U.sl t).al w Z (.O e) x vs F:=by
    cases V:dp with
    |nil=>subst V;exact U.al.mono (fun b o P=>P.elim (fun h=>h) fun⟨d,aa,_⟩=>by simp at aa) _ _ (fun _ _ h=>h) hr
    |cons d aG=>subst V;have he:e=t.own:=a8.eq_of_beq _ _ (by simpa using y);subst he;exact rn (.sl t) hr
   simp only[U.al]at l;obtain⟨A,c,rfl,l⟩:=l
   let i:bz:=⟨A,c,F⟩
   have ak:gd w Z (s.bA j (.row t e 0 x)) (bF ι j i) i (.row t e 0 x):=by
    rcases l with l|⟨C,D,l⟩
    ·exact .inl l
    ·exact .inr ⟨C,D,l⟩
   refine⟨bF ι j i,h.ze J ak g,Y5 J _ _ (fun o'=>by simp),⟨⟨?_,A,_,c,rfl,?_⟩,trivial⟩,?_⟩
   ·show bF s.o j _ j≠_;rw[b6];simp
   ·intro W em ver xs al;have this:(bF s.o j (b9.row t e 0 x) j).core=.row W em ver xs:=al;rw[b6]at this;have this:b9.row t e 0 x=.row W em ver xs:=this;injection this with h1 X aH an
    subst h1;obtain rfl:=eq_of_heq an;rw[b6];refine⟨rfl,by simp[dz],?_,by simp[dz,i],?_⟩
    ·rcases l with⟨z,hc⟩|⟨C,D,l⟩
     ·subst z;simp
     ·exact l.cap
    ·rcases l with⟨z,hc⟩|⟨C,D,l⟩
     ·exact .inl hc
     ·refine .inr ⟨C,D,?_⟩;rw[D];have:=l.spot;obtain⟨n9,off,aI⟩:=C;subst this;simp[dz,at_]
   ·intro G Q K;refine⟨Q.own,fun id hl=>?_,Q.cB⟩;by_cases T:j=id
    ·subst T;rw[b6];exact K
    ·rw[ca T];exact Q.apart id (by have:(bF s.o j _ id).live:=hl;rwa[ca T]at this)
  |_=>rw[J]at he;simp at he
 |.st ah,m,dp,x,s,ι,j,r,vs,F,he,h,hr,g,u,aa=>by simp only[U.gv]at he;simp only[U.al]at hr;exact aw.lv ah m.parts dp x s ι j r vs F he h hr g u aa
def aw.lv:∀(ah:aw) (m:cA) (dp:List (Nat×Nat)) (x:ah.D) (s:av) (ι:Nat->bz) (j:Nat) (r:List a7×av×Nat) (vs:List Value) (F:ae),
  ah.gv m dp x s j=some r->Inv w0 F0 Z0 n s a w ι Z->ah.al w (Z.or (db ι dp)) m x vs F->bD w0 F0 s w ι Z F->ae.apart F (db ι dp)->(∀d,d∈dp->ee s d) →
  Hk w0 F0 Z0 n s a w ι Z vs F r.1 r.2.1
 |.nil,m,dp,x,s,ι,j,r,vs,F,he,h,hr,g,u,aa=>by simp only[aw.gv]at he;obtain rfl:=aS he;simp only[aw.al]at hr;subst hr;exact rq h trivial
 |.cons t ah,m,dp,x,s,ι,j,r,vs,F,he,h,hr,g,u,aa=>by
  simp only[aw.gv]at he;obtain⟨L,h1,he⟩:=a6 he;obtain⟨ao,X,he⟩:=a6 he;obtain rfl:=aS he;simp only[aw.al]at hr;obtain⟨us,aq,G,H,rfl,ar,au,ax,E,I⟩:=hr;have ay:bD w0 F0 s w ι Z G:=⟨fun b o p=>g.own b o (E b o p),fun id hl b o p=>g.apart id hl b o (E b o p),fun b o p=>g.cB b o (E b o p)⟩;have az:bD w0 F0 s w ι Z H:=⟨fun b o p=>g.own b o (I b o p),fun id hl b o p=>g.apart id hl b o (I b o p),fun b o p=>g.cB b o (I b o p)⟩;obtain⟨Y,aA,M,aB,ab⟩:=U.lv t m.aa dp x.1 s ι j L us G h1 h ar ay (fun b o p=>u b o (E b o p)) aa;have ac:∀d,d∈dp->s.o d.1≠.none:=fun d v=>(aa d v).1
  have ad:∀b o,db ι dp b o↔db Y dp b o:=by
   intro b o;constructor
   ·rintro⟨d,v,z⟩;exact⟨d,v,by rw[(M.o d.1 (ac d v)).2];exact z⟩
   ·rintro⟨d,v,z⟩;exact⟨d,v,by rw[(M.o d.1 (ac d v)).2]at z;exact z⟩
  have aC:∀d,d∈dp->ee L.2.1 d:=by intro d v;have:=aa d v;unfold ee known jK at *;rw[(M.o d.1 this.1).1];exact this
  obtain⟨dY,i2,af,aD,aE⟩:=aw.lv ah m.dq dp x.2 L.2.1 Y L.2.2 ao aq H X aA (aw.al.mono (fun b o P=>P.imp (fun h=>h) (fun h=>(ad b o).1 h)) _ _ (fun _ _ h=>h) au)
   (ab H az (fun b o B k2=>ax b o k2 B)) (fun b o B k2=>u b o (I b o B) ((ad b o).2 k2)) aC
  refine⟨dY,i2,M.trans af,(aB.move af.d').append aD,fun aj aF K=>?_⟩;exact aE aj (ab aj aF fun b o B k2=>K b o B (E b o k2)) fun b o B k2=>K b o B (I b o k2)
end
end
end Go.LM
namespace Go.LM
def c9{α:Type}(l:List α)(k:Nat)(us:List α):List α :=l.take k++us++l.drop (k+us.length)
def zf{α:Type}(l:List α)(k:Nat):c9 l k []=l:=by simp[c9]
def GH{α:Type}{l us:List α}{k:Nat}(h:k+us.length<=l.length):(c9 l k us).length=l.length:=by simp[c9];omega
def Y6{α:Type}{A B us:List α}{k:Nat}(h:k+us.length<=A.length):c9 (A++B) k us=c9 A k us++B:=by unfold c9;rw[List.take_append_of_le_length (by omega),List.drop_append_of_le_length (by omega)];simp[dW]
def OY{α:Type}{A B us:List α}{k:Nat}(h:A.length<=k):c9 (A++B) k us=A++c9 B (k-A.length) us:=by
 unfold c9;obtain⟨j,rfl⟩:∃j,k=A.length+j:=⟨k-A.length,by omega⟩
 rw[List.take_append,List.take_of_length_le (by omega),Nat.add_sub_cancel_left,show A.length+j+us.length=A.length +(j+us.length) by omega,List.drop_append,gp (by omega),Nat.add_sub_cancel_left];simp[dW]
def Y7{α:Type}{A B us vs:List α}{k:Nat}(h:k+us.length=A.length):c9 (A++B) k (us++vs)=c9 A k us++c9 B 0 vs:=by unfold c9;rw[List.take_append_of_le_length (by omega),bZ,show k +(us.length+vs.length)=A.length+vs.length by omega,List.drop_append,gp (by omega),Nat.add_sub_cancel_left,h,List.drop_length];simp[dW]
def Y8{α:Type}{l us:List α}(h:us.length=l.length):c9 l 0 us=us:=by unfold c9;rw[List.take_zero,bE,h,List.drop_length];simp
section
variable{w0:World}{F0 Z0:ae}{n:cl}{s an:av}{a b0:Act}{w w':World}{ι a':Nat->bz}{Z Z':ae}
def OZ(w0:World)(F0 Z0:ae)(n:cl)(s:av)(a:Act)(w:World)(ι:Nat->bz)(Z:ae)(e:List Value->ae->Prop)(R:ae->List Value->ae->Prop)(size skip:Nat)(vs:List Value)
  (cs':List a7) (an:av):Prop:=
 ∃us rest d Z',vs=us++rest/\Inv w0 F0 Z0 n an a w ι Z'/\eN s ι Z an Z'/\bG w Z' an ι cs' rest/\bD w0 F0 an w ι Z' d ∧
  (∀b o,d b o->∃id,(s.o id).live/\(ι id).F b o)/\skip+us.length<=size/\(cs'≠[]->skip+us.length=size) ∧
  ∀old G,e old G->∀id,(an.o id).live->ae.sub G (ι id).F->R Z' (c9 old skip us) (G.or d)
mutual
def U.ue:∀(t:U) (m:a8) (x:t.D) (skip:Nat) (cs:List a7) (s:av) (r:t.D×List a7×av) (vs:List Value) (Z:ae),
  t.put m x skip cs s=some r->skip<=t.size->Inv w0 F0 Z0 n s a w ι Z->bG w Z s ι cs vs →
  OZ w0 F0 Z0 n s a w ι Z (fun us F=>t.al w Z m x us F) (fun Z us F=>t.al w Z m r.1 us F) t.size skip vs r.2.1 r.2.2
 |t,m,x,skip,[],s,r,vs,Z,ai,j,h,hc=>by
  have B:some (x,([]:List a7),s)=some r:=by cases t<;>simpa only[U.put]using ai
  obtain rfl:=aS B
  cases vs with
  |cons=>exact hc.elim
  |nil=>refine⟨[],[],ae.none,Z,rfl,h,.refl,trivial,.none,fun _ _ h=>h.elim,by simpa using j,fun h=>absurd rfl h,fun _ _ hr _ _ _=>?_⟩;rw[zf];exact U.al.mono (fun _ _ h=>h) _ _ (fun _ _ h=>.inl h) hr
 |t,m,x,skip,c::cs,s,r,vs,Z,ai,j,h,hc=>by
  cases hb:(Nat.beq skip 0&&Nat.ble t.size (cs.length+1))with
  |true=>
   have B:(t.imp false m (c::cs) s []).bind (fun r=>some (r.1,r.2.1,r.2.2.1))=some r:=by cases t<;>(simp only[U.put]at ai;rw[hb]at ai;exact ai)
   obtain⟨q,N,B⟩:=a6 B;obtain rfl:=aS B;have ar:skip=0/\t.size<=cs.length+1:=by simp only[bs]at hb;exact⟨cG hb.1,fc hb.2⟩
   obtain⟨rfl,_⟩:=ar;obtain⟨us,rest,F,Z',C,D,k,u,l,p,_,au,_,E⟩:=U.j1 t false m (c::cs) s [] q vs Z N h hc (by simp);have aK:=(U.al.len t m p).1;refine⟨us,rest,F,Z',C,D,k,u,l,E,by omega,fun _=>by omega,fun _ _ hr _ _ _=>?_⟩;have hlen:=(U.al.len t m hr).1;rw[Y8 (by omega)];refine U.al.mono ?_ _ _ (fun _ _ h=>.inr h) p
   rintro b o (ax|⟨d,aa,_⟩)
   ·exact ax
   ·rw[au rfl]at aa;simp at aa
  |false=>
   cases t with
   |st ah=>simp only[U.put]at ai;rw[hb]at ai;have:=aw.ue ah m.parts x skip (c::cs) s r vs Z ai (by simpa only[U.size]using j) h hc;simpa only[U.al,U.size]using this
   |_=>simp only[U.put]at ai;rw[hb]at ai;simp at ai
def aw.ue:∀(ah:aw) (m:cA) (x:ah.D) (skip:Nat) (cs:List a7) (s:av) (r:ah.D×List a7×av) (vs:List Value) (Z:ae),
  ah.put m x skip cs s=some r->skip<=ah.size->Inv w0 F0 Z0 n s a w ι Z->bG w Z s ι cs vs →
  OZ w0 F0 Z0 n s a w ι Z (fun us F=>ah.al w Z m x us F) (fun Z us F=>ah.al w Z m r.1 us F) ah.size skip vs r.2.1 r.2.2
 |.nil,m,x,skip,cs,s,r,vs,Z,ai,j,h,hc=>by simp only[aw.put]at ai;obtain rfl:=aS ai;simp only[aw.size]at j⊢;refine⟨[],vs,ae.none,Z,rfl,h,.refl,hc,.none,fun _ _ h=>h.elim,by simpa using j,fun _=>by simp;omega,fun _ _ hr _ _ _=>?_⟩;rw[zf];simp only[aw.al]at hr⊢;exact hr
 |.cons t ah,m,x,skip,cs,s,r,vs,Z,ai,j,h,hc=>by
  simp only[aw.put]at ai
  cases hb:Nat.ble t.size skip with
  |true=>
   rw[hb]at ai;have aL:=fc hb;obtain⟨q,N,ai⟩:=a6 ai;obtain rfl:=aS ai;simp only[aw.size]at j;obtain⟨us,rest,H,Z',C,D,k,u,l,E,ay,I,P⟩:=aw.ue ah m.dq x.2 (skip-t.size) cs s q vs Z N (by omega) h hc;refine⟨us,rest,H,Z',C,D,k,u,l,E,by simp only[aw.size];omega,fun J=>by have:=I J;simp only[aw.size];omega,fun old G hr id hl v=>?_⟩;simp only[aw.al]at hr;obtain⟨K,Q,T,V,rfl,p,W,X,z,A⟩:=hr;have ac:=(U.al.len t _ p).1;rw[OY (by omega),ac];simp only[aw.al];refine⟨K,_,T,V.or H,rfl,U.al.mono k.dt _ _ (fun _ _ h=>h) p,P _ _ W id hl (fun b o e=>v b o (A b o e)),?_,fun b o e=>.inl (z b o e),?_⟩
   ·rintro b o e (i|i)
    ·exact X b o e i
    ·exact l.apart id hl b o i (v b o (z b o e))
   ·rintro b o (e|e)
    ·exact .inl (A b o e)
    ·exact .inr e
  |false=>
   rw[hb]at ai
   have aM:skip<t.size:=by
    rcases ff skip t.size with h|h
    ·exact h
    ·rw[Nat.ble_eq_true_of_le h]at hb;simp at hb
   obtain⟨y,az,ai⟩:=a6 ai;obtain⟨ad,aA,ai⟩:=a6 ai;obtain rfl:=aS ai;obtain⟨us,rest,H,aB,C,D,k,u,l,E,ay,I,P⟩:=U.ue t m.aa x.1 skip cs s y vs Z az (by omega) h hc;obtain⟨L,af,aj,bK,ak,i2,M,al,an,ao,aN,aC,k2⟩:=aw.ue ah m.dq x.2 0 y.2.1 y.2.2 ad rest aB aA (by omega) D u
   have Y:y.2.1=[]->L=[]/\af=[]:=by
    intro g;rw[g]at u
    cases rest with
    |nil=>have:=ak;simp at this;exact⟨this.1,this.2⟩
    |cons=>exact u.elim
   refine⟨us++L,af,H.or aj,bK,by rw[C,ak,dW],i2,k.trans M,al,(l.shrink M).or an,?_,?_,?_,fun old G hr id hl v=>?_⟩
   ·rintro b o (ab|ab)
    ·exact E b o ab
    ·obtain⟨id,hl,aD⟩:=ao b o ab;exact⟨id,(k.live hl).1,aD⟩
   ·simp only[aw.size,bZ];by_cases g:y.2.1=[]
    ·rw[(Y g).1];simp;omega
    ·have:=I g;omega
   ·intro J;simp only[aw.size,bZ];have aO:=aC J;by_cases g:y.2.1=[]
    ·have:ad.2.1=[]:=by
      have h1:=al.len;rw[(Y g).2]at h1;exact lq (by simpa using h1.symm)
     exact absurd this J
    ·have:=I g;omega
   ·simp only[aw.al]at hr;obtain⟨K,Q,T,V,rfl,p,W,X,z,A⟩:=hr;have ac:=(U.al.len t _ p).1;have aq:=(M.live hl);have aE:=P _ _ p id aq.1 (fun b o e=>v b o (z b o e));have aF:=k2 _ _ (aw.al.mono k.dt _ _ (fun _ _ h=>h) W) id hl (fun b o e=>v b o (A b o e))
    have aG:c9 (K++Q) skip (us++L)=c9 K skip us++c9 Q 0 L:=by
     by_cases g:y.2.1=[]
     ·rw[(Y g).1,dn,zf,Y6 (by omega)]
     ·exact Y7 (by have:=I g;omega)
    rw[aG];simp only[aw.al];refine⟨_,_,T.or H,V.or aj,rfl,U.al.mono M.dt _ _ (fun _ _ h=>h) aE,aF,?_,?_,?_⟩
    ·rintro b o (e|e) (i|i)
     ·exact X b o e i
     ·exact an.apart id hl b o i (v b o (z b o e))
     ·exact l.apart id aq.1 b o e (v b o (A b o i))
     ·obtain⟨aH,aI,aJ⟩:=ao b o i;exact l.apart aH aI b o e aJ
    ·rintro b o (e|e)
     ·exact .inl (z b o e)
     ·exact .inr (.inl e)
    ·rintro b o (e|e)
     ·exact .inl (A b o e)
     ·exact .inr (.inr e)
end
def bG.c9{cs ds:List a7}{us vs:List Value}(h:bG w Z s ι cs us)(k:bG w Z s ι ds vs)(p:Nat):
  bG w Z s ι (cs.take p++ds++cs.drop (p+ds.length)) (c9 us p vs):=by
 unfold LM.c9;rw[k.len];exact((h.take p).append k).append (h.drop _)
def Y9{cs:List a7}{vs:List Value}(h:eN s ι Z an Z')(hc:bG w Z s ι cs vs):bG w Z' an ι cs vs:=hc.move h.d'
def Hl{b o:Nat}{vs:List Value}(d:∀i,i<vs.length->eS w b (o+i)):bV (setCells w b o vs) b o vs:=by
 intro i v hv
 have a:i<vs.length:=by
  rcases ff i vs.length with h|h
  ·exact h
  ·rw[List.getElem?_eq_none h]at hv;simp at hv
 rw[t' b vs w o (fun i a=>(d i a).1),bg ⟨rfl,by omega,by omega⟩,Nat.add_sub_cancel_left];exact hv
def px{b o k:Nat}{old vs:List Value}(hc:bV w b o old)(d:∀i,i<old.length->eS w b (o+i))(hk:k+vs.length<=old.length):
  bV (setCells w b (o+k) vs) b o (c9 old k vs):=by
 have e:∀i,i<vs.length->eS w b (o+k+i):=fun i a=>by have:=d (k+i) (by omega);rwa[<-dQ]at this
 intro i v hv;have g:=t' b vs w (o+k) (fun i a=>(e i a).1) b (o+i);rw[g];unfold c9 at hv;by_cases h1:i<k
 ·rw[bd (by omega)];rw[dW,List.getElem?_append_left (by simp;omega),List.getElem?_take,bg h1]at hv;exact hc i v hv
 ·by_cases h:i<k+vs.length
  ·rw[bg ⟨rfl,by omega,by omega⟩];rw[List.getElem?_append_left (by simp;omega),List.getElem?_append_right (by simp;omega)]at hv;simp only[dX]at hv;rw[show o+i-(o+k)=i-min k old.length by omega];exact hv
  ·rw[bd (by omega)];rw[List.getElem?_append_right (by simp;omega)]at hv;simp only[bZ,dX,List.getElem?_drop]at hv;rw[show k+vs.length +(i-(min k old.length+vs.length))=i by omega]at hv;exact hc i v hv
def Y_(h:Inv w0 F0 Z0 n s a w ι Z){p:Place}{cs:List a7}{A:Addr}{vs:List Value}(hr:y9 s p cs=some an)(ai:iG s ι p A)(hc:bG w Z s ι cs vs):
  ∃b o,A=at_ b o/\(∀i,i<vs.length->eS w b (o+i))/\∃ a' Z',Inv w0 F0 Z0 n an a (setCells w b o vs) a' Z':=by
 obtain⟨hs,ai⟩:=ai;unfold y9 at hr
 cases m:s.o p.id with
 |var ver old=>
  rw[m]at hr ai;obtain⟨he,g,hb,rfl⟩:=ai;rw[he]at hr;have C:(s.o p.id).live:=by rw[m];trivial
  simp only at hr;cases D:Nat.ble (p.off+cs.length) old.length
  ·rw[D]at hr;simp at hr
  rw[D]at hr;obtain rfl:=aS hr;have hle:=fc D;have N:=h.eU p.id;rw[m]at N;obtain⟨ar,us,P,au,ad,av,Q⟩:=N;rw[hb]at P;obtain rfl:=aS P;have aI:=ad.len;have aJ:=hc.len;have T:∀i,i<vs.length->eS w g.block (g.off+p.off+i):=fun i y=>by have:=(Q (p.off+i) (by omega)).1;rwa[<-dQ]at this
  refine⟨_,_,rfl,T,ι,Z,?_⟩;have v:Ext w (setCells w g.block (g.off+p.off) vs) (ι p.id).F:=lp _ _ _ _ fun i y=>by have:=(Q (p.off+i) (by omega)).2;rwa[<-dQ]at this
  have hm:d_ w Z s ι (setCells w g.block (g.off+p.off) vs) Z (s.bA p.id (.var (ver+1) (old.take p.off++cs++old.drop (p.off+cs.length)))) ι :=by
   refine⟨fun j=>?_,fun _ _ h=>h,bS.gw v h.pN ?_⟩
   ·show gf (s.o j) (ι j) (bF s.o p.id _ j) (ι j);by_cases d:p.id=j
    ·subst d;rw[b6,m];exact .var _ _ _ _ _ (by omega) (by simp;omega)
    ·rw[ca d];exact .stay _ _
   ·rintro b o (E|⟨id,hl,V,_,e⟩) z
    ·exact h.cB p.id C b o z E
    ·have J:id≠p.id:=by
      rintro rfl
      have:bF s.o p.id _ p.id=s.o p.id:=V;rw[b6,m]at this;injection this with h1 W
      omega
     exact h.apart id p.id hl C J b o e z
  refine h.next hm v (fun b o e=>(h.own p.id C b o e).1) (fun _ _ h=>.inl h) ?_ ?_ (fun k=>(h.tmps k).move hm) h.size h.defers
  ·intro j hl J;by_cases d:p.id=j
   ·subst d;refine⟨?_,fun b o e=>⟨(h.own _ C b o e).1,by have:=(h.own _ C b o e).2;exact jW this v.size⟩,fun dR X L=>?_⟩
    ·show gd _ _ _ _ _ (bF s.o p.id _ p.id);rw[b6];refine⟨g,c9 us p.off vs,hb,au,(ad.c9 hc p.off).move hm,?_,fun j d=>?_⟩
     ·exact px av (fun i y=>(Q i (by omega)).1) (by omega)
     ·have:j<old.length:=by simp at d;omega
      exact⟨v.nU (Q j this).1,(Q j this).2⟩
    ·have M:(s.o dR).live:=by
      have:(bF s.o p.id _ dR).live:=X;rwa[ca L]at this
     exact h.apart p.id dR C M L
   ·exact absurd ⟨ca d,rfl⟩ J
  ·intro j hl;by_cases d:p.id=j
   ·subst d;exact h.cB _ C
   ·have M:(s.o j).live:=by
     have:(bF s.o p.id _ j).live:=hl;rwa[ca d]at this
    exact h.cB j M
 |row t em ver xs=>
  rw[m]at hr ai;obtain⟨i,he,y,g,hb,rfl⟩:=ai;rw[he]at hr;have C:(s.o p.id).live:=by rw[m];trivial
  simp only at hr;cases D:Nat.ble (p.off+cs.length) t.size
  ·rw[D]at hr;simp at hr
  rw[D]at hr;have D:=fc D;obtain⟨q,aw,hr⟩:=a6 hr
  cases F:q.2.1 with
  |cons=>rw[F]at hr;simp at hr
  |nil=>
   cases K:q.2.2.o p.id with
   |none=>rw[F,K]at hr;simp at hr
   |dead=>rw[F,K]at hr;simp at hr
   |b7=>rw[F,K]at hr;simp at hr
   |hole=>rw[F,K]at hr;simp at hr
   |var=>rw[F,K]at hr;simp at hr
   |row aK aL aM aN=>
    rw[F,K]at hr;obtain rfl:=aS hr;have ax:p.off<=t.size:=by omega
    obtain⟨us,rest,Y,ab,ae,r,af,ah,H,aO,aQ,aR,ay⟩:=U.ue t em (I t xs i) p.off cs s q vs Z aw ax h hc;rw[F]at ah
    have az:rest=[]:=by
     cases rest with
     |nil=>rfl
     |cons=>exact ah.elim
    subst az;rw[dn]at ae;subst ae;have u:(q.2.2.o p.id).live:=by rw[K];trivial
    have V:=(af.live u).2;rw[m]at V;have N:=h.eU p.id;rw[m]at N;rcases N with⟨rfl,_⟩|⟨ar,P,B⟩
    ·simp at y
    rw[hb]at P;obtain rfl:=aS P;have aA:(i+1)*t.size<=(ι p.id).cap*t.size:=c3 _ (by have:=B.cap;omega);have aT:i*t.size+t.size<=(ι p.id).cap*t.size:=by rw[<-de];exact aA
    have T:∀k,k<vs.length->eS w g.block (g.off+i*t.size+p.off+k):=fun k hk=>by have:=(B.wr (i*t.size+p.off+k) (by omega)).1;rwa[show g.off +(i*t.size+p.off+k)=g.off+i*t.size+p.off+k by omega]at this
    have aB:∀k,k<vs.length->(ι p.id).F g.block (g.off+i*t.size+p.off+k):=fun k hk=>by have:=B.inF (i*t.size+p.off+k) (by omega);rwa[show g.off +(i*t.size+p.off+k)=g.off+i*t.size+p.off+k by omega]at this
    refine⟨_,_,rfl,T,?_⟩
    let cW:bz:=⟨(ι p.id).base,(ι p.id).cap,(ι p.id).F.or Y⟩
    let o':b9:=.row t em (ver+1) (xs.set i q.1)
    have v:Ext w (setCells w g.block (g.off+i*t.size+p.off) vs) (ι p.id).F:=lp _ _ _ _ aB
    have hm:d_ w ab q.2.2 ι (setCells w g.block (g.off+i*t.size+p.off) vs) ab (q.2.2.bA p.id o') (bF ι p.id cW):=by
     refine⟨fun j=>?_,fun _ _ h=>h,bS.gw v r.pN ?_⟩
     ·show gf (q.2.2.o j) (ι j) (bF q.2.2.o p.id o' j) (bF ι p.id cW j);by_cases d:p.id=j
      ·subst d;rw[b6,b6,V];exact .row _ _ _ _ _ _ _ _ _ (by omega) (by simp) rfl rfl
      ·rw[ca d,ca d];exact .stay _ _
     ·rintro b o (E|⟨id,hl,aC,_,e⟩) z
      ·exact r.cB p.id u b o z E
      ·have J:id≠p.id:=by
        rintro rfl
        have:bF q.2.2.o p.id o' p.id=q.2.2.o p.id:=aC;rw[b6,V]at this;injection this with h1 W aU
        omega
       exact r.apart id p.id hl u J b o e z
    have aj:∀{j},p.id≠j->((q.2.2.bA p.id o').o j).live->(q.2.2.o j).live:=fun d hl=>by have:(bF q.2.2.o p.id o' _).live:=hl;rwa[ca d]at this
    refine⟨_,_,r.next hm v (fun b o e=>(r.own p.id u b o e).1) (fun _ _ h=>.inl h) ?_ ?_ (fun k=>(r.tmps k).move hm) r.size r.defers⟩
    ·intro j hl J;by_cases d:p.id=j
     ·subst d;rw[b6];refine⟨?_,fun b o e=>?_,fun dR X L=>?_⟩
      ·show gd _ _ _ _ _ (bF q.2.2.o p.id o' p.id);rw[b6];refine .inr ⟨g,hb,B.spot,by simpa[o']using B.cap,fun j d=>v.iz (B.wr j d),fun j d=>.inl (B.inF j d),?_⟩;obtain⟨G,aD,ak,ac⟩:=B.row
       have al:bS w (setCells w g.block (g.off+i*t.size+p.off) vs) G:=by
        intro b o l;refine⟨?_,fun _=>Y1 _ _ _ _ _ _⟩;rw[t' _ _ _ _ (fun i y=>(T i y).1),bd]
        rintro⟨rfl,h1,W⟩
        have:=ak (o-g.off) (by omega);rw[show g.off +(o-g.off)=o by omega]at this;exact this l
       have ao:bS w (setCells w g.block (g.off+i*t.size+p.off) vs) ab:=hm.same.mono fun b o E=>.inl E
       have aE:bS w (setCells w g.block (g.off+i*t.size+p.off) vs) Y:=by refine bS.gw v (fun b o e=>(H.own b o e).2) fun b o e z=>H.apart p.id u b o e z
       refine⟨G.or Y,?_,?_,?_⟩
       ·refine Row.set (w:=w) (R:=t.al w Z em) i y aD (fun aV us aq aF aG=>U.al.same ao _ _ (al.mono aF) (U.al.mono af.dt _ _ (fun _ _ h=>h) aG)) ?_ ?_ (fun b o e l=>H.apart p.id u b o e (ac b o l))
        ·intro j d aH;rw[t' _ _ _ _ (fun i y=>(T i y).1),bd]
         rintro⟨_,h1,W⟩
         rw[de]at aH;omega
        ·intro us aq k2 k3 aZ a_;refine⟨c9 us p.off vs,by rw[GH (by omega)];exact k3,?_,?_⟩
         ·refine px aZ (fun k hk=>?_) (by omega);have:=(B.wr (i*t.size+k) (by omega)).1;rwa[<-dQ]at this
         ·have:=ay us aq (by rw[cC y];exact k2) p.id u (fun b o l=>ac b o (a_ b o l));refine U.al.same ao _ _ ?_ this;intro b o l;rcases l with l|l
          ·exact al b o (a_ b o l)
          ·exact aE b o l
       ·rintro j d (l|l)
        ·exact ak j d l
        ·exact H.apart p.id u _ _ l (B.inF j d)
       ·rintro b o (l|l)
        ·exact .inl (ac b o l)
        ·exact .inr l
      ·rcases e with e|e
       ·exact⟨(r.own _ u b o e).1,jW (r.own _ u b o e).2 v.size⟩
       ·exact⟨(H.own b o e).1,jW (H.own b o e).2 v.size⟩
      ·rw[ca L];have M:=aj L X
       rintro b o (e|e) z
       ·exact r.apart p.id dR u M L b o e z
       ·exact H.apart dR M b o e z
     ·exact absurd ⟨ca d,ca d⟩ J
    ·intro j hl;by_cases d:p.id=j
     ·subst d;rw[b6]
      rintro b o (e|e) E
      ·exact r.cB _ u b o e E
      ·exact H.cB b o e E
     ·rw[ca d];exact r.cB j (aj d hl)
 |none=>rw[m]at hr;simp at hr
 |dead=>rw[m]at hr;simp at hr
 |b7=>rw[m]at hr;simp at hr
 |hole=>rw[m]at hr;simp at hr
end
end Go.LM
namespace Go.LM
mutual
def U.cD:U->List Value
 |.int k=>[.int k 0]
 |.bool=>[.bool false]
 |.str=>[.string ⟨#[]⟩]
 |.raw=>[.slice none 0 0]
 |.sl _=>[.slice none 0 0]
 |.st ah=>ah.cD
def aw.cD:aw->List Value
 |.nil=>[]
 |.cons t ah=>t.cD++ah.cD
end
def c8(t:U)(vs:List Value):Value:=
 match t with
 |.st _=>.agg vs.toArray
 |_=>vs.headD undef
def km(P:Program)(id:TypeId)(t:U):Prop:=
 ∃i,P.info? id=some i/\i.size=t.size/\i.zero=some (c8 t t.cD)/\i.bytes<=2048
mutual
def U.ok(P:Program):U->TypeId->Prop
 |.int k,id=>P.underlying id=some (.int k)/\km P id (.int k)
 |.bool,id=>P.underlying id=some .bool/\km P id .bool
 |.str,id=>P.underlying id=some .string/\km P id .str
 |.raw,id=>km P id .raw/\∃e,P.underlying id=some (.slice e)
 |.sl t,id=>km P id (.sl t)/\∃e,P.underlying id=some (.slice e)/\t.ok P e
 |.st ah,id=>km P id (.st ah)/\∃a,P.underlying id=some (.struct a)/\ah.okF P a.toList 0
def aw.okF(P:Program):aw->List Field->Nat->Prop
 |.nil,a,_=>a=[]
 |.cons t ah,a,off=>∃f b,a=f::b/\f.offset=off/\t.ok P f.type/\ah.okF P b (off+t.size)
end
def U.agg:U->Bool
 |.st _=>true
 |_=>false
def U.ok.info{P:Program}{t:U}{id:TypeId}(h:t.ok P id):km P id t:=by cases t<;>simp only[U.ok]at h<;>first|exact h.2|exact h.1
def U.kn:∀t:U,t.cD.length=t.size
 |.int _=>rfl
 |.bool=>rfl
 |.str=>rfl
 |.raw=>rfl
 |.sl _=>rfl
 |.st ah=>by simp only[U.cD,U.size];exact go ah
where
 go:∀ah:aw,ah.cD.length=ah.size
 |.nil=>rfl
 |.cons t ah=>by simp only[aw.cD,aw.size,bZ,U.kn t,go ah]
section
variable{P:Program}{t:U}{id:TypeId}{w:World}
def run_underlying{d:TypeDesc}(h:P.underlying id=some d):(underlying id).run P w=.ok d w:=by simp[underlying,run_bind,program,Sem.run,h,run_pure]
def run_typeInfo{i:TypeInfo}(h:P.info? id=some i):(typeInfo id).run P w=.ok i w:=by simp[typeInfo,run_bind,program,Sem.run,h,run_pure]
def run_sizeOf(h:t.ok P id):(sizeOf id).run P w=.ok t.size w:=by obtain⟨i,h1,a,_⟩:=h.info;simp[sizeOf,run_bind,run_typeInfo h1,run_pure,a]
def zg(h:t.ok P id):(zeroValue id).run P w=.ok (c8 t t.cD) w:=by obtain⟨i,h1,_,a,_⟩:=h.info;simp[zeroValue,run_bind,run_typeInfo h1,run_pure,a]
def O0(h:t.ok P id):(isAgg id).run P w=.ok t.agg w:=by
 unfold isAgg
 cases t with
 |st ah=>obtain⟨_,a,h1,_⟩:=(by simpa only[U.ok]using h:km P id (.st ah)/\∃a,P.underlying id=some (.struct a)/\ah.okF P a.toList 0);rw[run_bind,run_underlying h1];rfl
 |sl t=>obtain⟨_,e,h1,_⟩:=(by simpa only[U.ok]using h:km P id (.sl t)/\∃e,P.underlying id=some (.slice e)/\t.ok P e);rw[run_bind,run_underlying h1];rfl
 |raw=>obtain⟨_,e,h1⟩:=(by simpa only[U.ok]using h:km P id .raw/\∃e,P.underlying id=some (.slice e));rw[run_bind,run_underlying h1];rfl
 |int k=>have h1:=(by simpa only[U.ok]using h:P.underlying id=some (.int k)/\km P id (.int k));rw[run_bind,run_underlying h1.1];rfl
 |bool=>have h1:=(by simpa only[U.ok]using h:P.underlying id=some .bool/\km P id .bool);rw[run_bind,run_underlying h1.1];rfl
 |str=>have h1:=(by simpa only[U.ok]using h:P.underlying id=some .string/\km P id .str);rw[run_bind,run_underlying h1.1];rfl
def Hm(h:t.agg=false):t.size=1:=by cases t<;>simp_all[U.agg,U.size]
def Hn(h:t.agg=true)(vs:List Value):c8 t vs=.agg vs.toArray:=by cases t<;>simp_all[U.agg,c8]
def Ho(h:t.agg=false)(v:Value):c8 t [v]=v:=by cases t<;>simp_all[U.agg,c8]
def wm(h:t.ok P id){b o:Nat}{vs:List Value}(hc:bV w b o vs)(hl:vs.length=t.size):(loadVar id (at_ b o)).run P w=.ok (c8 t vs) w:=by
 unfold loadVar;rw[run_bind,O0 h];simp only;cases a:t.agg
 ·rw[Hm a]at hl
  match vs,hl with
  | [v],_=>rw[Ho a];simp only[gq,fT];exact run_load hc.head
 ·simp only[if_true];rw[run_bind,run_sizeOf h,<-hl];simp only;rw[run_bind,run_loadCells hc,Hn a];rfl
def Hp{v:Value}(h:dD v=true):v.cells = #[v]:=by cases v<;>simp_all[dD,Value.cells]
def zh(h:t.ok P id){b o:Nat}{v:Value}(hl:v.cells.size=t.size)(h1:∀u∈v.cells.toList,dD u=true)(a:∀i,i<v.cells.size->eS w b (o+i)):
  (storeVar id (at_ b o) v).run P w=.ok () (setCells w b o v.cells.toList):=by
 unfold storeVar;rw[run_bind,run_sizeOf h];simp only;rw[bd (by simp[hl])];have:=yY (P:=P) (b:=b) (o:=o) v.cells.toList w 0 h1 (fun i d=>by simpa using a i (by simpa using d));simpa using this
def O1{e:TypeId}{v:Value}:(newVar e v).run P w=.ok (at_ w.heap.size 0) { w with heap:=w.heap.push (.cells v.cells e) }:=by simp[newVar,newRow,Go.newObj,run_bind,Sem.run,run_pure,at_]
end
section
variable{w0:World}{F0 Z0:ae}{n:cl}{s an:av}{a b0:Act}{w w':World}{ι a':Nat->bz}{Z Z':ae}
def pO{t:U}{x:aY}{cs:List a7}{v:Value}(h:ib t x=some cs)(hv:aR w Z s ι x v):bG w Z s ι cs v.cells.toList:=by
 cases x<;>simp only[ib]at h<;>try (simp at h;done)
 ·obtain rfl:=aS h;simp only[aR]at hv;rw[Hp hv.dD];exact⟨hv,trivial⟩
 ·obtain rfl:=aS h;simp only[aR]at hv;obtain⟨vs,rfl,hc⟩:=hv;simpa[Value.cells]using hc
 ·cases t<;>simp at h
  subst h;simp only[aR]at hv;subst hv;exact⟨rfl,trivial⟩
def ml{t:U}{x:aY}{cs:List a7}{vs:List Value}(h:iX t cs=some x)(hc:bG w Z s ι cs vs):aR w Z s ι x (c8 t vs):=by
 cases t with
 |st ah=>simp only[iX]at h;obtain rfl:=aS h;simp only[aR,c8];exact⟨vs,rfl,hc⟩
 |_=>
  simp only[iX]at h
  match cs,vs,hc with
  | [],[],_=>simp at h
  | [c],[v],hc=>simp at h;subst h;simp only[aR,c8];exact hc.1
  |_::_::_,_,_=>simp at h
def pP:∀t:U,bG w Z s ι t.iE t.cD
 |.int _=>⟨rfl,trivial⟩
 |.bool=>⟨rfl,trivial⟩
 |.str=>⟨⟨_,rfl,rfl⟩,trivial⟩
 |.raw=>⟨⟨rfl,_,_,_,rfl⟩,trivial⟩
 |.sl _=>⟨rfl,trivial⟩
 |.st ah=>by simp only[U.iE,U.cD];exact go ah
where
 go:∀ah:aw,bG w Z s ι ah.iE ah.cD
 |.nil=>trivial
 |.cons t ah=>by simp only[aw.iE,aw.cD];exact(pP t).append (go ah)
def zi{t:U}{vs:List Value}(hl:vs.length=t.size)(h1:∀v∈vs,dD v=true):(c8 t vs).cells.toList=vs:=by
 cases a:t.agg
 ·rw[Hm a]at hl
  match vs,hl with
  | [v],_=>rw[Ho a,Hp (h1 v (by simp))]
 ·rw[Hn a];simp[Value.cells]
def Inv.newVar(h:Inv w0 F0 Z0 n s a w ι Z){id:Nat}(d:s.o id=.none){cs:List a7}{vs:Array Value}(hc:bG w Z s ι cs vs.toList)(e:TypeId):
  Inv w0 F0 Z0 n (s.bA id (.var 0 cs)) a { w with heap:=w.heap.push (.cells vs e) } (bF ι id ⟨some (at_ w.heap.size 0),0,ae.run w.heap.size 0 cs.length⟩) Z:=by
 have g:=Ext.push w (.cells vs e) ae.none;have hm:=OV h d g (.var 0 cs) ⟨some (at_ w.heap.size 0),0,ae.run w.heap.size 0 cs.length⟩;have hl:=hc.len;refine h.new d g ?_ ?_
 ·refine⟨at_ w.heap.size 0,vs.toList,rfl,rfl,hc.move hm,?_,fun j k=>⟨⟨?_,?_⟩,rfl,by simp[at_],by simpa[at_]using k⟩⟩
  ·intro i v hv;show World.cell? _ (at_ w.heap.size (0+i))=_;rw[OQ];simpa using hv
  ·refine⟨vs[j]'(by simp at hl;omega),?_⟩;show World.cell? _ (at_ w.heap.size (0+j))=_;rw[OQ];simp
  ·show World.frozen? _ (at_ w.heap.size (0+j))=_;rw[nV,OP];simp
 ·rintro b o ⟨rfl,_,_⟩;simp
end
end Go.LM
