/- The functions that the law reaches, as plain functions. Printed by a program. Conditions: each theorem's own hypotheses. -/
import Derived.Test.YtlkbjdmfbadhaaaGreatDoorZLmd
import Derived.Test.YtlkbjdmfbadhaaaGreatDoorZIn
set_option linter.unusedVariables false
set_option linter.unusedSimpArgs false
namespace Go.LM.i_
abbrev af:Type:=List UInt8
noncomputable section
@[reducible] def aA:U:=.st (.cons (.int .i64) (.cons .str .nil))
@[reducible] def aG:U:=.st (.cons (.int .i64) (.cons (.int .i64) (.cons (.int .i64) (.cons (.int .i64) (.cons (.int .i64) .nil)))))
@[reducible] def ar:U:=.st (.cons .str (.cons (.int .i64) .nil))
@[reducible] def J:U:=.st (.cons (.int .i64) (.cons (.int .i64) (.cons (.int .i64) (.cons (.int .i64) (.cons (.int .i64) (.cons .str (.cons (.sl ar) (.cons (.int .i64) (.cons (.int .i64) .nil)))))))))
@[reducible] def ad:U:=.st (.cons (.int .i64) (.cons (.sl J) .nil))
@[reducible] def aK:U:=.st (.cons (.int .i64) (.cons (.int .i64) (.cons (.int .i64) (.cons aA .nil))))
@[reducible] def ak:U:=.st (.cons ad (.cons (.int .i64) (.cons (.sl aG) (.cons (.sl aK) .nil))))
@[reducible] def aL:U:=.st (.cons (.int .i64) (.cons .str (.cons .str (.cons (.int .i64) (.cons (.int .i64) (.cons .str .nil))))))
@[reducible] def aM:U:=.st (.cons (.int .i64) (.cons (.int .i64) (.cons (.sl (.int .i64)) .nil)))
@[reducible] def aV:U:=.st (.cons (.int .i64) (.cons .str (.cons (.int .i64) (.cons (.int .i64) .nil))))
@[reducible] def aN:U:=.st (.cons ad (.cons aM (.cons aL .nil)))
@[reducible] def i':U:=.st (.cons .str (.cons .bool .nil))
@[reducible] def aB:U:=.st (.cons (.int .i64) (.cons (.int .i64) (.cons (.int .i64) (.cons aL .nil))))
@[reducible] def bh:U:=.st (.cons (.int .i64) (.cons (.int .i64) (.cons (.int .i64) (.cons (.int .i64) (.cons aA .nil)))))
def Ig(a:Int)(b:Int)(d:Int):Option (Bool×Unit):=cond (decide (a>=b)) (some (decide (a<=d),())) (some (false,()))
def cT(x:Int×Int×Int×Unit):Option (Bool×Unit):=Ig x.1 x.2.1 x.2.2.1
def Ih(a:aA.D):Option (Bool×Unit):=(cT (a.1,0,200,())).bind fun v1=>cond v1.1 (some (decide ((a.2.1.length:Int)<=400),())) (some (false,()))
def zV(x:aA.D×Unit):Option (Bool×Unit):=Ih x.1
abbrev zW:Type:=(List aG.D)->(List aG.D)->Int->Int->Option (Bool×Unit)
def zX(k2:zW)(a:List aG.D):Option (Bool×Unit):=k2 a a (a.length:Int) 0
def zY(k2:zW)(d:List aG.D)(a:List aG.D)(e:Int)(b:Int):Option (Bool×Unit):=cond (decide (b<e)) ((ax a.length b).bind fun v1=>(cT ((I aG a v1).1,1,100000,())).bind fun g=>cond (!g.1) (some (false,())) (cond (decide (b>0)) ((ax d.length (aj (b-1))).bind fun h=>cond (decide ((I aG d h).1 >(I aG a v1).1)) (some (false,())) ((cT ((I aG a v1).2.1,1,3,())).bind fun v4=>cond (!v4.1) (some (false,())) ((cT ((I aG a v1).2.2.1,1,1000000,())).bind fun i=>cond (!i.1) (some (false,())) ((cT ((I aG a v1).2.2.2.1,1,22,())).bind fun v6=>cond (!v6.1) (some (false,())) ((cT ((I aG a v1).2.2.2.2.1,0,200,())).bind fun j=>cond (!j.1) (some (false,())) (k2 d a e (aj (b+1)))))))) ((cT ((I aG a v1).2.1,1,3,())).bind fun k=>cond (!k.1) (some (false,())) ((cT ((I aG a v1).2.2.1,1,1000000,())).bind fun l=>cond (!l.1) (some (false,())) ((cT ((I aG a v1).2.2.2.1,1,22,())).bind fun v10=>cond (!v10.1) (some (false,())) ((cT ((I aG a v1).2.2.2.2.1,0,200,())).bind fun v11=>cond (!v11.1) (some (false,())) (k2 d a e (aj (b+1))))))))) (some (decide ((d.length:Int)<=20),()))
def rM:Nat->zW|0,_,_,_,_=>none|m+1,a,b,d,e=>zY (rM m) a b d e
def zZ(x:(List aG.D)×Unit):Option (Bool×Unit):=zX (rM aC) x.1
def Qx(a:Int):Option (Bool×Unit):=cond (decide (a>=97)) (cond (decide (a<=122)) (some (true,())) (cond (decide (a>=48)) (cond (decide (a<=57)) (some (true,())) (cond (a==46) (some (true,())) (cond (a==95) (some (true,())) (some (a==45,()))))) (cond (a==46) (some (true,())) (cond (a==95) (some (true,())) (some (a==45,())))))) (cond (decide (a>=48)) (cond (decide (a<=57)) (some (true,())) (cond (a==46) (some (true,())) (cond (a==95) (some (true,())) (some (a==45,()))))) (cond (a==46) (some (true,())) (cond (a==95) (some (true,())) (some (a==45,())))))
def z1(x:Int×Unit):Option (Bool×Unit):=Qx x.1
abbrev z6:Type:=(af)->Int->Int->Option (Bool×Unit)
def z7(k2:z6)(a:af):Option (Bool×Unit):=k2 a (a.length:Int) 0
def z8(k2:z6)(a:af)(d:Int)(b:Int):Option (Bool×Unit):=cond (decide (b<d)) ((ax a.length b).bind fun v1=>cond (((a.getD v1 0).toNat:Int) != 47) ((ax a.length b).bind fun e=>(z1 (((a.getD e 0).toNat:Int),())).bind fun g=>cond (!g.1) (some (false,())) (k2 a d (aj (b+1)))) (k2 a d (aj (b+1)))) ((cT ((a.length:Int),1,60,())).bind fun v4=>some (v4.1,()))
def rN:Nat->z6|0,_,_,_=>none|m+1,a,b,d=>z8 (rN m) a b d
def uI(x:(af)×Unit):Option (Bool×Unit):=z7 (rN aC) x.1
abbrev wO:Type:=(List J.D)×Unit
abbrev z_:Type:=ad.D->Int->Int->Int->Option (wO)
def z'(k2:z_)(a:ad.D)(b:Int):Option (wO):=k2 a b (a.2.1.length:Int) 0
def Aa(k2:z_)(a:ad.D)(d:Int)(e:Int)(b:Int):Option (wO):=cond (decide (b<e)) ((ax a.2.1.length b).bind fun v1=>cond ((I J a.2.1 v1).1==d) ((ax a.2.1.length b).bind fun g=>some ([I J a.2.1 g],())) (k2 a d e (aj (b+1)))) (some ([],()))
def rO:Nat->z_|0,_,_,_,_=>none|m+1,a,b,d,e=>Aa (rO m) a b d e
def fo(x:ad.D×Int×Unit):Option (wO):=z' (rO aC) x.1 x.2.1
abbrev Ab:Type:=Int->Int->Int->ad.D->Option (Int×ad.D×Unit)
def Ac(k2:Ab)(a:ad.D)(b:Int):Option (Int×ad.D×Unit):=k2 b (a.2.1.length:Int) 0 a
def Ad(k2:Ab)(d:Int)(e:Int)(b:Int)(a:ad.D):Option (Int×ad.D×Unit):=cond (decide (b<e)) ((ax a.2.1.length b).bind fun v1=>cond ((I J a.2.1 (0+v1)).1==d) ((ax a.2.1.length b).bind fun g=>some ((((0+g):Nat):Int),a,())) (k2 d e (aj (b+1)) a)) (some ((-1),a,()))
def rP:Nat->Ab|0,_,_,_,_=>none|m+1,a,b,d,e=>Ad (rP m) a b d e
def uJ(x:ad.D×Int×Unit):Option (Int×ad.D×Unit):=Ac (rP aC) x.1 x.2.1
abbrev Ae:Type:=(af)->Int->Int->Option (Bool×Unit)
def Af(k2:Ae)(a:af):Option (Bool×Unit):=k2 a (a.length:Int) 0
def Ag(k2:Ae)(a:af)(d:Int)(b:Int):Option (Bool×Unit):=cond (decide (b<d)) ((ax a.length b).bind fun v1=>(z1 (((a.getD v1 0).toNat:Int),())).bind fun e=>cond (!e.1) (some (false,())) (k2 a d (aj (b+1)))) ((cT ((a.length:Int),1,8,())).bind fun g=>cond g.1 (cond (!(bm a ([46]:af))) (some (!(bm a ([46,46]:af)),())) (some (false,()))) (some (false,())))
def rQ:Nat->Ae|0,_,_,_=>none|m+1,a,b,d=>Ag (rQ m) a b d
def Ii(x:(af)×Unit):Option (Bool×Unit):=Af (rQ aC) x.1
abbrev Ah:Type:=ad.D->(List ar.D)->Int->Int->J.D->Option (Bool×Unit)
def Ai(k2:Ah)(b:ad.D)(a:J.D):Option (Bool×Unit):=k2 b a.2.2.2.2.2.2.1 (a.2.2.2.2.2.2.1.length:Int) 0 a
def Aj(k2:Ah)(e:ad.D)(a:List ar.D)(g:Int)(b:Int)(d:J.D):Option (Bool×Unit):=cond (decide (b<g)) ((ax a.length b).bind fun v1=>(Ii ((I ar a v1).1,())).bind fun h=>cond (!h.1) (some (false,())) (cond ((I ar a v1).2.1==1) (some (false,())) ((fo (e,(I ar a v1).2.1,())).bind fun i=>cond (!(!List.isEmpty i.1)) (some (false,())) (cond (decide (b>0)) ((ax d.2.2.2.2.2.2.1.length (aj (b-1))).bind fun v4=>cond (!(dr ((I ar d.2.2.2.2.2.2.1 v4).1) ((I ar a v1).1))) (some (false,())) (k2 e a g (aj (b+1)) d)) (k2 e a g (aj (b+1)) d))))) (some (decide ((d.2.2.2.2.2.2.1.length:Int)<=12),()))
def rR:Nat->Ah|0,_,_,_,_,_=>none|m+1,a,b,d,e,g=>Aj (rR m) a b d e g
def Ij(x:ad.D×J.D×Unit):Option (Bool×Unit):=Ai (rR aC) x.1 x.2.1
abbrev Ak:Type:=ad.D->J.D->Option (Bool×Unit)
def Al(a_:Ak)(b:ad.D)(a:J.D):Option (Bool×Unit):=(cT (a.2.2.1,0,2047,())).bind fun v1=>cond (!v1.1) (some (false,())) ((cT (a.2.2.2.1,0,1000,())).bind fun d=>cond (!d.1) (some (false,())) ((cT (a.2.2.2.2.1,0,1000,())).bind fun e=>cond (!e.1) (some (false,())) (cond (a.2.1 != 2) (cond (decide ((a.2.2.2.2.2.2.1.length:Int)>0)) (some (false,())) (cond (a.2.2.2.2.2.2.2.1 != 0) (some (false,())) (cond (a.2.2.2.2.2.2.2.2.1 != 0) (some (false,())) (a_ b a)))) (a_ b a))))
def Ik(a_:Ak)(b:ad.D)(a:J.D):Option (Bool×Unit):=cond (a.2.1==1) (some (decide ((a.2.2.2.2.2.1.length:Int)<=64),())) (cond (a.2.1==3) ((uI (a.2.2.2.2.2.1,())).bind fun v1=>cond v1.1 (some (a.2.2.1==511,())) (some (false,()))) (cond (a.2.1==2) (cond (bm a.2.2.2.2.2.1 []) ((Ij (b,a,())).bind fun d=>cond d.1 ((cT (a.2.2.2.2.2.2.2.1,0,400,())).bind fun e=>cond e.1 ((cT (a.2.2.2.2.2.2.2.2.1,0,24,())).bind fun v4=>some (v4.1,())) (some (false,()))) (some (false,()))) (some (false,()))) (some (false,()))))
def wP:Nat->Ak|0,_,_=>none|m+1,a,b=>Ik (wP m) a b
def Am(x:ad.D×J.D×Unit):Option (Bool×Unit):=Al (wP aC) x.1 x.2.1
abbrev An:Type:=(List Int)->Int->Int->Int->Option (Int×Unit)
def Ao(k2:An)(a:List Int)(b:Int):Option (Int×Unit):=k2 a b (a.length:Int) 0
def Ap(k2:An)(b:List Int)(d:Int)(e:Int)(a:Int):Option (Int×Unit):=cond (decide (a<e)) ((ax b.length a).bind fun v1=>cond (d==I (U.int .i64) b v1) (some (a,())) (k2 b d e (aj (a+1)))) (some ((-1),()))
def rS:Nat->An|0,_,_,_,_=>none|m+1,a,b,d,e=>Ap (rS m) a b d e
def Il(x:(List Int)×Int×Unit):Option (Int×Unit):=Ao (rS aC) x.1 x.2.1
def Im(a:List Int)(b:Int):Option (Bool×Unit):=(Il (a,b,())).bind fun v1=>some (decide (v1.1>=0),())
def p3(x:(List Int)×Int×Unit):Option (Bool×Unit):=Im x.1 x.2.1
structure rT where
 aZ:ad.D->Int->(List Int)->(List Int)->Option ((List Int)×Unit)
 fk:ad.D->Int->(List ar.D)->Int->Int->(List Int)->(List Int)->Option ((List Int)×Unit)
def Aq(k:rT)(a:ad.D)(b:Int):Option ((List Int)×Unit):=k.aZ a 0 ([]:List Int) [b]
def og(k:rT)(e:ad.D)(b:Int)(g:List Int)(a:List Int):Option ((List Int)×Unit):=cond (decide (b<(a.length:Int))) ((ax a.length b).bind fun v1=>(fo (e,I (U.int .i64) a (0+v1),())).bind fun d=>cond (!(!List.isEmpty d.1)) (k.aZ e (aj (b+1)) g a) (cond (!List.isEmpty d.1) (k.fk e b ((I J d.1 0).2.2.2.2.2.2.1) (((I J d.1 0).2.2.2.2.2.2.1).length:Int) 0 g a) (none))) (some (g,()))
def wQ(k:rT)(g:ad.D)(h:Int)(a:List ar.D)(i:Int)(d:Int)(b:List Int)(e:List Int):Option ((List Int)×Unit):=cond (decide (d<i)) ((ax a.length d).bind fun v1=>(p3 (b,(I ar a v1).2.1,())).bind fun j=>cond (!j.1) (cond (room (b.length+[(I ar a v1).2.1].length)) (cond (room (e.length+[(I ar a v1).2.1].length)) (k.fk g h a i (aj (d+1)) (b++[(I ar a v1).2.1]) (e++[(I ar a v1).2.1])) (none)) (none)) (k.fk g h a i (aj (d+1)) b e)) (k.aZ g (aj (h+1)) b e)
def Qy(k:rT):rT:=⟨og k,wQ k⟩
def kU:Nat->rT:=dF Qy ⟨fun _ _ _ _=>none,fun _ _ _ _ _ _ _=>none⟩
def rU(x:ad.D×Int×Unit):Option ((List Int)×Unit):=Aq (kU aC) x.1 x.2.1
structure rV where
 k3:Int->Int->(List J.D)->Int->Int->Option (Int×Unit)
 c7:Int->Int->(List J.D)->Int->Int->(List ar.D)->Int->Int->Option (Int×Unit)
def Ar(k:rV)(a:ad.D)(b:Int):Option (Int×Unit):=k.k3 b 0 a.2.1 (a.2.1.length:Int) 0
def wR(k:rV)(g:Int)(d:Int)(a:List J.D)(e:Int)(b:Int):Option (Int×Unit):=cond (decide (b<e)) ((ax a.length b).bind fun v1=>k.c7 g d a e b ((I J a v1).2.2.2.2.2.2.1) (((I J a v1).2.2.2.2.2.2.1).length:Int) 0) (some (d,()))
def wS(k:rV)(a:Int)(e:Int)(g:List J.D)(h:Int)(i:Int)(b:List ar.D)(j:Int)(d:Int):Option (Int×Unit):=cond (decide (d<j)) ((ax b.length d).bind fun v1=>cond ((I ar b v1).2.1==a) (k.c7 a (aj (e+1)) g h i b j (aj (d+1))) (k.c7 a e g h i b j (aj (d+1)))) (k.k3 a e g h (aj (i+1)))
def Qz(k:rV):rV:=⟨wR k,wS k⟩
def m9:Nat->rV:=dF Qz ⟨fun _ _ _ _ _=>none,fun _ _ _ _ _ _ _ _=>none⟩
def uK(x:ad.D×Int×Unit):Option (Int×Unit):=Ar (m9 aC) x.1 x.2.1
abbrev As:Type:=Int->(List J.D)->Int->Int->Option (Int×Unit)
def At(k3:As)(a:ad.D):Option (Int×Unit):=k3 0 a.2.1 (a.2.1.length:Int) 0
def Au(k3:As)(d:Int)(a:List J.D)(e:Int)(b:Int):Option (Int×Unit):=cond (decide (b<e)) ((ax a.length b).bind fun v1=>k3 (aj (d +(((I J a v1).2.2.2.2.2.1).length:Int))) a e (aj (b+1))) (some (d,()))
def rW:Nat->As|0,_,_,_,_=>none|m+1,a,b,d,e=>Au (rW m) a b d e
def p4(x:ad.D×Unit):Option (Int×Unit):=At (rW aC) x.1
abbrev Av:Type:=ad.D->Int->Int->Int->(List Int)->Option (Int×Int×Unit)
def Aw(aZ:Av)(a:ad.D)(b:Int):Option (Int×Int×Unit):=(rU (a,b,())).bind fun v1=>aZ a 0 (v1.1.length:Int) 0 v1.1
def Ax(aZ:Av)(d:ad.D)(e:Int)(g:Int)(b:Int)(a:List Int):Option (Int×Int×Unit):=cond (decide (b<g)) ((ax a.length b).bind fun v1=>(fo (d,I (U.int .i64) a (0+v1),())).bind fun h=>cond (!List.isEmpty h.1) (cond (!List.isEmpty h.1) (aZ d (aj (e +(((I J h.1 0).2.2.2.2.2.1).length:Int))) g (aj (b+1)) a) (none)) (aZ d e g (aj (b+1)) a)) (some (e,(a.length:Int),()))
def oh:Nat->Av|0,_,_,_,_,_=>none|m+1,a,b,d,e,g=>Ax (oh m) a b d e g
def wT(x:ad.D×Int×Unit):Option (Int×Int×Unit):=Aw (oh aC) x.1 x.2.1
def Io(b:ad.D)(a:J.D):Option (Bool×Unit):=(wT (b,a.1,())).bind fun v1=>cond (decide (a.2.2.2.2.2.2.2.1>0)) (cond (decide (v1.1>a.2.2.2.2.2.2.2.1)) (some (true,())) (cond (decide (a.2.2.2.2.2.2.2.2.1>0)) (some (decide (v1.2.1>a.2.2.2.2.2.2.2.2.1),())) (some (false,())))) (cond (decide (a.2.2.2.2.2.2.2.2.1>0)) (some (decide (v1.2.1>a.2.2.2.2.2.2.2.2.1),())) (some (false,())))
def Ip(x:ad.D×J.D×Unit):Option (Bool×Unit):=Io x.1 x.2.1
abbrev Ay:Type:=(List J.D)->ad.D->Int->Int->Option (Int×Unit)
def Az(k2:Ay)(a:List J.D)(b:ad.D):Option (Int×Unit):=k2 a b (a.length:Int) 0
def AA(k2:Ay)(b:List J.D)(d:ad.D)(e:Int)(a:Int):Option (Int×Unit):=cond (decide (a<e)) ((ax b.length a).bind fun v1=>(Ip (d,I J b v1,())).bind fun g=>cond g.1 (some (a,())) (k2 b d e (aj (a+1)))) (some ((-1),()))
def rX:Nat->Ay|0,_,_,_,_=>none|m+1,a,b,d,e=>AA (rX m) a b d e
def Iq(x:(List J.D)×ad.D×Unit):Option (Int×Unit):=Az (rX aC) x.1 x.2.1
def Ir(a:List J.D)(b:ad.D):Option (Bool×Unit):=(Iq (a,b,())).bind fun v1=>some (decide (v1.1>=0),())
def wU(x:(List J.D)×ad.D×Unit):Option (Bool×Unit):=Ir x.1 x.2.1
structure rY where
 aZ:(List J.D)->Int->Int->ad.D->Option (Bool×Unit)
 cn:(List J.D)->Int->Int->ad.D->(List Int)->Option (Bool×Unit)
def AB(k:rY)(a:ad.D):Option (Bool×Unit):=(cT (a.1,2,100000,())).bind fun v1=>cond (!v1.1) (some (false,())) ((cT ((a.2.1.length:Int),1,24,())).bind fun b=>cond (!b.1) (some (false,())) ((ax a.2.1.length 0).bind fun d=>cond ((I J a.2.1 d).1 != 1) (some (false,())) ((ax a.2.1.length 0).bind fun v4=>cond ((I J a.2.1 v4).2.1 != 2) (some (false,())) (k.aZ a.2.1 (a.2.1.length:Int) 0 a))))
def rZ(k:rY)(b:List J.D)(g:Int)(d:Int)(a:ad.D):Option (Bool×Unit):=cond (decide (d<g)) ((ax b.length d).bind fun v1=>(cT ((I J b v1).1,1,aj (a.1-1),())).bind fun h=>cond (!h.1) (some (false,())) (cond (decide (d>0)) ((ax a.2.1.length (aj (d-1))).bind fun i=>cond (decide ((I J a.2.1 i).1>=(I J b v1).1)) (some (false,())) ((Am (a,I J b v1,())).bind fun v4=>cond (!v4.1) (some (false,())) (k.aZ b g (aj (d+1)) a))) ((Am (a,I J b v1,())).bind fun j=>cond (!j.1) (some (false,())) (k.aZ b g (aj (d+1)) a)))) ((rU (a,1,())).bind fun v6=>(cZ a.2.1.length 1 (a.2.1.length:Int)).bind fun e=>k.cn (part a.2.1 e.1 (e.2-e.1)) (((part a.2.1 e.1 (e.2-e.1)).length:Nat):Int) 0 a v6.1)
def r0(k:rY)(a:List J.D)(e:Int)(d:Int)(b:ad.D)(g:List Int):Option (Bool×Unit):=cond (decide (d<e)) ((ax a.length d).bind fun v1=>(p3 (g,(I J a v1).1,())).bind fun h=>cond (!h.1) (some (false,())) (cond ((I J a v1).2.1==2) ((uK (b,(I J a v1).1,())).bind fun i=>cond (i.1 != 1) (some (false,())) (k.cn a e (aj (d+1)) b g)) (k.cn a e (aj (d+1)) b g))) ((p4 (b,())).bind fun v4=>cond (decide (v4.1<=400)) ((wU (b.2.1,b,())).bind fun j=>some (!j.1,())) (some (false,())))
def QA(k:rY):rY:=⟨rZ k,r0 k⟩
def lz:Nat->rY:=dF QA ⟨fun _ _ _ _=>none,fun _ _ _ _ _=>none⟩
def Is(x:ad.D×Unit):Option (Bool×Unit):=AB (lz aC) x.1
abbrev AD:Type:=(List aK.D)->Int->Int->ak.D->Option (Bool×Unit)
def AE(k2:AD)(a:ak.D):Option (Bool×Unit):=k2 a.2.2.2.1 (a.2.2.2.1.length:Int) 0 a
def AF(k2:AD)(a:List aK.D)(e:Int)(d:Int)(b:ak.D):Option (Bool×Unit):=cond (decide (d<e)) ((ax a.length d).bind fun v1=>(cT ((I aK a v1).1,1,3,())).bind fun g=>cond (!g.1) (some (false,())) (cond (decide (d>0)) ((ax b.2.2.2.1.length (aj (d-1))).bind fun h=>cond (decide ((I aK b.2.2.2.1 h).1>=(I aK a v1).1)) (some (false,())) ((cT ((I aK a v1).2.1,1,1000000,())).bind fun v4=>cond (!v4.1) (some (false,())) ((cT ((I aK a v1).2.2.1,1,100000,())).bind fun i=>cond (!i.1) (some (false,())) ((zV ((I aK a v1).2.2.2.1,())).bind fun v6=>cond (!v6.1) (some (false,())) (k2 a e (aj (d+1)) b))))) ((cT ((I aK a v1).2.1,1,1000000,())).bind fun j=>cond (!j.1) (some (false,())) ((cT ((I aK a v1).2.2.1,1,100000,())).bind fun k=>cond (!k.1) (some (false,())) ((zV ((I aK a v1).2.2.2.1,())).bind fun l=>cond (!l.1) (some (false,())) (k2 a e (aj (d+1)) b)))))) ((cT (b.2.1,0,30,())).bind fun v10=>cond v10.1 ((zZ (b.2.2.1,())).bind fun v11=>cond v11.1 ((Is (b.1,())).bind fun m=>some (m.1,())) (some (false,()))) (some (false,())))
def r1:Nat->AD|0,_,_,_,_=>none|m+1,a,b,d,e=>AF (r1 m) a b d e
def It(x:ak.D×Unit):Option (Bool×Unit):=AE (r1 aC) x.1
abbrev AG:Type:=(List ak.D)->(List ak.D)->Int->Int->Option (Bool×Unit)
def AH(k2:AG)(a:List ak.D):Option (Bool×Unit):=k2 a a (a.length:Int) 0
def AI(k2:AG)(d:List ak.D)(a:List ak.D)(e:Int)(b:Int):Option (Bool×Unit):=cond (decide (b<e)) ((ax a.length b).bind fun v1=>(It (I ak a v1,())).bind fun g=>cond (!g.1) (some (false,())) (k2 d a e (aj (b+1)))) (some ((d.length:Int)==3,()))
def r2:Nat->AG|0,_,_,_,_=>none|m+1,a,b,d,e=>AI (r2 m) a b d e
def Iu(x:(List ak.D)×Unit):Option (Bool×Unit):=AH (r2 aC) x.1
abbrev uL:Type:=(List J.D)->Int->Int->ad.D->ad.D->Option (ad.D×Unit)
def AJ(k3:uL)(a:ad.D):Option (ad.D×Unit):=k3 a.2.1 (a.2.1.length:Int) 0 (0,[],()) (a.1,[],())
def QB(k3:uL)(a:List J.D)(b:Int)(d:Int)(e:ad.D)(g:ad.D)(h:List J.D):Option (ad.D×Unit):=k3 a b (aj (d+1)) e (g.1,h,())
def QC(k3:uL)(b:ad.D)(a:List J.D)(v1:Nat)(e:Int)(g:Int)(h:ad.D)(d:List ar.D):Option (ad.D×Unit):=cond (room (b.2.1.length+[((I J a v1).1,(I J a v1).2.1,(I J a v1).2.2.1,(I J a v1).2.2.2.1,(I J a v1).2.2.2.2.1,(I J a v1).2.2.2.2.2.1,d,(I J a v1).2.2.2.2.2.2.2.1,(I J a v1).2.2.2.2.2.2.2.2.1,())].length)) (QB k3 a e g h b (b.2.1++[((I J a v1).1,(I J a v1).2.1,(I J a v1).2.2.1,(I J a v1).2.2.2.1,(I J a v1).2.2.2.2.1,(I J a v1).2.2.2.2.2.1,d,(I J a v1).2.2.2.2.2.2.2.1,(I J a v1).2.2.2.2.2.2.2.2.1,())])) (none)
def AK(k3:uL)(a:List J.D)(d:Int)(b:Int)(g:ad.D)(e:ad.D):Option (ad.D×Unit):=cond (decide (b<d)) ((ax a.length b).bind fun v1=>cond (room (([]:List ar.D).length +((I J a v1).2.2.2.2.2.2.1).length)) (QC k3 e a v1 d b g (([]:List ar.D)++((I J a v1).2.2.2.2.2.2.1))) (none)) (some (e,()))
def r3:Nat->uL|0,_,_,_,_,_=>none|m+1,a,b,d,e,g=>AK (r3 m) a b d e g
def oi(x:ad.D×Unit):Option (ad.D×Unit):=AJ (r3 aC) x.1
def Iv(a:ak.D):Option (ak.D×Unit):=(oi (a.1,())).bind fun v1=>cond (room (([]:List aG.D).length+a.2.2.1.length)) (cond (room (([]:List aK.D).length+a.2.2.2.1.length)) (some ((v1.1,a.2.1,([]:List aG.D)++a.2.2.1,([]:List aK.D)++a.2.2.2.1,()),())) (none)) (none)
def Iw(x:ak.D×Unit):Option (ak.D×Unit):=Iv x.1
abbrev wV:Type:=(List ak.D)×Unit
abbrev AL:Type:=(List ak.D)->Int->Int->(List ak.D)->Option (wV)
def QD(k3:AL)(a:List ak.D):Option (wV):=k3 a (a.length:Int) 0 ([]:List ak.D)
def AM(k3:AL)(a:List ak.D)(e:Int)(b:Int)(d:List ak.D):Option (wV):=cond (decide (b<e)) ((ax a.length b).bind fun v1=>(Iw (I ak a v1,())).bind fun g=>cond (room (d.length+[g.1].length)) (k3 a e (aj (b+1)) (d++[g.1])) (none)) (some (d,()))
def uM:Nat->AL|0,_,_,_,_=>none|m+1,a,b,d,e=>AM (uM m) a b d e
def Ix(x:(List ak.D)×Unit):Option (wV):=QD (uM aC) x.1
structure r4 where
 k2:ak.D->Int->(List aG.D)->Int->Int->Option (Bool×Unit)
 cE:Int->(List aK.D)->Int->Int->Option (Bool×Unit)
def QE(k:r4)(a:ak.D)(b:Int):Option (Bool×Unit):=k.k2 a b a.2.2.1 (a.2.2.1.length:Int) 0
def AN(k:r4)(a:ak.D)(b:Int)(d:List aG.D)(g:Int)(e:Int):Option (Bool×Unit):=cond (decide (e<g)) ((ax d.length e).bind fun v1=>cond (decide (b<(I aG d v1).1)) (some (true,())) (k.k2 a b d g (aj (e+1)))) (k.cE b a.2.2.2.1 (a.2.2.2.1.length:Int) 0)
def AO(k:r4)(d:Int)(a:List aK.D)(e:Int)(b:Int):Option (Bool×Unit):=cond (decide (b<e)) ((ax a.length b).bind fun v1=>cond (decide (d<(I aK a v1).2.2.1)) (some (true,())) (k.cE d a e (aj (b+1)))) (some (false,()))
def QF(k:r4):r4:=⟨AN k,AO k⟩
def p5:Nat->r4:=dF QF ⟨fun _ _ _ _ _=>none,fun _ _ _ _=>none⟩
def Iy(x:ak.D×Int×Unit):Option (Bool×Unit):=QE (p5 aC) x.1 x.2.1
abbrev AP:Type:=ak.D->Int->Int->Option (Int×Bool×Unit)
def QG(k2:AP)(a:ak.D)(b:Int):Option (Int×Bool×Unit):=k2 a b 0
def uN(k2:AP)(b:ak.D)(d:Int)(a:Int):Option (Int×Bool×Unit):=cond (decide (a<(b.2.2.2.1.length:Int))) ((ax b.2.2.2.1.length a).bind fun v1=>cond (decide ((I aK b.2.2.2.1 v1).1<d)) (k2 b d (aj (a+1))) (cond (decide (a<(b.2.2.2.1.length:Int))) ((ax b.2.2.2.1.length a).bind fun e=>some (a,(I aK b.2.2.2.1 e).1==d,())) (some (a,false,())))) (cond (decide (a<(b.2.2.2.1.length:Int))) ((ax b.2.2.2.1.length a).bind fun g=>some (a,(I aK b.2.2.2.1 g).1==d,())) (some (a,false,())))
def uO:Nat->AP|0,_,_,_=>none|m+1,a,b,d=>uN (uO m) a b d
def AQ(x:ak.D×Int×Unit):Option (Int×Bool×Unit):=QG (uO aC) x.1 x.2.1
def Iz(a:ak.D)(b:Int):Option (aK.D×Unit):=(AQ (a,b,())).bind fun v1=>cond v1.2.1 ((ax a.2.2.2.1.length v1.1).bind fun d=>some (I aK a.2.2.2.1 d,())) (some ((0,0,0,(0,[],()),()),()))
def wW(x:ak.D×Int×Unit):Option (aK.D×Unit):=Iz x.1 x.2.1
structure r5 where
 k3:Bool->Bool->aL.D->Option (Bool×Unit)
 a_:aL.D->Option (Bool×Unit)
def AR(k:r5)(a:aL.D):Option (Bool×Unit):=cond (a.1==9) (cond (a.1==5) (k.k3 true true a) (k.k3 true (a.1==6) a)) (cond (a.1==10) (cond (a.1==5) (k.k3 true true a) (k.k3 true (a.1==6) a)) (cond (a.1==5) (k.k3 (a.1==12) true a) (k.k3 (a.1==12) (a.1==6) a)))
def QH(k:r5)(d:Bool)(b:Bool)(a:aL.D):Option (Bool×Unit):=cond (!d) (cond (!(bm a.2.2.1 [])) (some (false,())) (cond (!b) (cond (!(bm a.2.2.2.2.2.1 [])) (some (false,())) (k.a_ a)) (k.a_ a))) (cond (!b) (cond (!(bm a.2.2.2.2.2.1 [])) (some (false,())) (k.a_ a)) (k.a_ a))
def QI(k:r5)(a:aL.D):Option (Bool×Unit):=(cT (a.1,1,22,())).bind fun v1=>cond v1.1 (cond (decide ((a.2.1.length:Int)<=60)) (cond (decide ((a.2.2.1.length:Int)<=60)) (cond (decide ((a.2.2.2.2.2.1.length:Int)<=64)) ((cT (a.2.2.2.1,(-1000000),1000000,())).bind fun b=>cond b.1 ((cT (a.2.2.2.2.1,(-1000000),1000000,())).bind fun d=>some (d.1,())) (some (false,()))) (some (false,()))) (some (false,()))) (some (false,()))) (some (false,()))
def IA(k:r5):r5:=⟨QH k,QI k⟩
def AS:Nat->r5:=dF IA ⟨fun _ _ _=>none,fun _=>none⟩
def r6(x:aL.D×Unit):Option (Bool×Unit):=AR (AS aC) x.1
def aaJ(a:Int):Option (Bool×Unit):=cond (a==4) (cond (a==4) (some (true,())) (some (false,()))) (cond (a==11) (cond (a==11) (some (true,())) (some (false,()))) (cond (a==13) (cond (a==13) (some (true,())) (some (false,()))) (cond (a==14) (cond (a==14) (some (true,())) (some (false,()))) (cond (a==17) (cond (a==17) (some (true,())) (some (false,()))) (cond (a==18) (cond (a==18) (some (true,())) (some (false,()))) (cond (a==20) (cond (a==20) (some (true,())) (some (false,()))) (cond (a==21) (some (true,())) (some (false,())))))))))
def wX(x:Int×Unit):Option (Bool×Unit):=aaJ x.1
def aaK(a:Int):Option (aA.D×Unit):=some ((a,[],()),())
def ea(x:Int×Unit):Option (aA.D×Unit):=aaK x.1
def IB(a:Int):Option (Int×Unit):=(cT (a,1,22,())).bind fun v1=>cond (!v1.1) (some (0,())) ((wX (a,())).bind fun b=>cond b.1 (some (1,())) (some (3,())))
def IC(x:Int×Unit):Option (Int×Unit):=IB x.1
def ID(a:Int)(b:Int):Option (Int×Bool×Unit):=(IC (b,())).bind fun v1=>cond (v1.1==0) (some (a,false,())) (cond (decide (v1.1>a)) (some (a,false,())) (some (aj (a-v1.1),true,())))
def IE(x:Int×Int×Unit):Option (Int×Bool×Unit):=ID x.1 x.2.1
def IF(a:Int):Option (aM.D×Unit):=cond (a==1) (some ((0,0,[],()),())) (cond (a==2) (some ((2,2,[5],()),())) (cond (a==3) (some ((3,2,[],()),())) (some ((1000,1000,[],()),()))))
def IG(x:Int×Unit):Option (aM.D×Unit):=IF x.1
structure r7 where
 aZ:Int->(af)->Int->Option ((af)×Unit)
 dE:Int->(af)->Int->Int->Option ((af)×Unit)
def QJ(k:r7)(a:Int):Option ((af)×Unit):=k.aZ a ([]:af) a
def IH(k:r7)(b:Int)(d:af)(a:Int):Option ((af)×Unit):=cond (decide (Int.tmod a 10<0)) (k.dE b d a (aj (0-(Int.tmod a 10)))) (k.dE b d a (Int.tmod a 10))
def II(k:r7)(d:Int)(a:af)(e:Int)(b:Int):Option ((af)×Unit):=cond (room ((ek [IntKind.wrap .u8 (aj (48+b))]).length+a.length)) ((cT (e,(-9),9,())).bind fun v1=>cond v1.1 (cond (decide (d<0)) (cond (room (([45]:af).length +((ek [IntKind.wrap .u8 (aj (48+b))])++a).length)) (some (([45]:af)++((ek [IntKind.wrap .u8 (aj (48+b))])++a),())) (none)) (some ((ek [IntKind.wrap .u8 (aj (48+b))])++a,()))) (k.aZ d ((ek [IntKind.wrap .u8 (aj (48+b))])++a) (aj (Int.tdiv e 10)))) (none)
def QK(k:r7):r7:=⟨IH k,II k⟩
def kV:Nat->r7:=dF QK ⟨fun _ _ _=>none,fun _ _ _ _=>none⟩
def r8(x:Int×Unit):Option ((af)×Unit):=QJ (kV aC) x.1
structure r9 where
 a_:(List aG.D)->Int->(af)->Int->Option ((af)×Unit)
 cn:(List aG.D)->Int->(af)->Int->Int->Int->(List Int)->Option ((af)×Unit)
def AT(k:r9)(b:List aG.D)(a:Int):Option ((af)×Unit):=(zZ (b,())).bind fun v1=>cond (!v1.1) (some ([],())) (cond (decide (a<0)) (some ([],())) (k.a_ b a ([]:af) a))
def AU(k:r9)(a:List aG.D)(g:Int)(e:af)(d:Int):Option ((af)×Unit):=cond (decide (d<(a.length:Int))) (cond (decide (d<aj (g+6))) (cond (decide (d>g)) (cond (room (e.length +([32]:af).length)) ((ax a.length d).bind fun v1=>k.cn a g (e++([32]:af)) d ([(I aG a v1).1,(I aG a v1).2.1,(I aG a v1).2.2.1,(I aG a v1).2.2.2.1,(I aG a v1).2.2.2.2.1].length:Int) 0 [(I aG a v1).1,(I aG a v1).2.1,(I aG a v1).2.2.1,(I aG a v1).2.2.2.1,(I aG a v1).2.2.2.2.1]) (none)) ((ax a.length d).bind fun b=>k.cn a g e d ([(I aG a b).1,(I aG a b).2.1,(I aG a b).2.2.1,(I aG a b).2.2.2.1,(I aG a b).2.2.2.2.1].length:Int) 0 [(I aG a b).1,(I aG a b).2.1,(I aG a b).2.2.1,(I aG a b).2.2.2.1,(I aG a b).2.2.2.2.1])) (some (e,()))) (some (e,()))
def AV(k:r9)(e:List aG.D)(g:Int)(a:af)(h:Int)(i:Int)(b:Int)(d:List Int):Option ((af)×Unit):=cond (decide (b<i)) ((ax d.length b).bind fun v1=>cond (decide (b>0)) (cond (room (a.length +([46]:af).length)) ((r8 (I (U.int .i64) d (0+v1),())).bind fun j=>cond (room ((a++([46]:af)).length+j.1.length)) (k.cn e g ((a++([46]:af))++j.1) h i (aj (b+1)) d) (none)) (none)) ((r8 (I (U.int .i64) d (0+v1),())).bind fun l=>cond (room (a.length+l.1.length)) (k.cn e g (a++l.1) h i (aj (b+1)) d) (none))) (k.a_ e g a (aj (h+1)))
def QL(k:r9):r9:=⟨AU k,AV k⟩
def lA:Nat->r9:=dF QL ⟨fun _ _ _ _=>none,fun _ _ _ _ _ _ _=>none⟩
def IJ(x:(List aG.D)×Int×Unit):Option ((af)×Unit):=AT (lA aC) x.1 x.2.1
def IK(a:Int):Option (Bool×Unit):=(cT (a,0,1000,())).bind fun v1=>some (!v1.1,())
def QM(x:Int×Unit):Option (Bool×Unit):=IK x.1
abbrev AW:Type:=(List Int)->Int->Int->Option (Int×Unit)
def AX(k2:AW)(a:List Int):Option (Int×Unit):=k2 a (a.length:Int) 0
def AY(k2:AW)(b:List Int)(d:Int)(a:Int):Option (Int×Unit):=cond (decide (a<d)) ((ax b.length a).bind fun v1=>(QM (I (U.int .i64) b v1,())).bind fun e=>cond e.1 (some (a,())) (k2 b d (aj (a+1)))) (some ((-1),()))
def r_:Nat->AW|0,_,_,_=>none|m+1,a,b,d=>AY (r_ m) a b d
def IL(x:(List Int)×Unit):Option (Int×Unit):=AX (r_ aC) x.1
def IM(a:List Int):Option (Bool×Unit):=(IL (a,())).bind fun v1=>some (decide (v1.1>=0),())
def IN(x:(List Int)×Unit):Option (Bool×Unit):=IM x.1
def IP(a:aM.D):Option (Bool×Unit):=(cT (a.1,0,1000,())).bind fun v1=>cond (!v1.1) (some (false,())) ((cT (a.2.1,0,1000,())).bind fun b=>cond (!b.1) (some (false,())) (cond (decide ((a.2.2.1.length:Int)>4)) (some (false,())) ((IN (a.2.2.1,())).bind fun d=>some (!d.1,()))))
def uP(x:aM.D×Unit):Option (Bool×Unit):=IP x.1
def IQ(a:af):Option (Bool×Unit):=(uI (a,())).bind fun v1=>cond v1.1 ((ax a.length 0).bind fun b=>some (((a.getD b 0).toNat:Int)==47,())) (some (false,()))
def IS(x:(af)×Unit):Option (Bool×Unit):=IQ x.1
def IT(a:aM.D)(b:Int):Option (Bool×Unit):=(uP (a,())).bind fun v1=>cond v1.1 (cond (b==a.2.1) (some (true,())) ((p3 (a.2.2.1,b,())).bind fun d=>some (d.1,()))) (some (false,()))
def r'(x:aM.D×Int×Unit):Option (Bool×Unit):=IT x.1 x.2.1
def IU(d:aM.D)(b:J.D)(a:Int):Option (Bool×Unit):=(uP (d,())).bind fun v1=>cond (!v1.1) (some (false,())) ((cT (a,0,7,())).bind fun e=>cond (!e.1) (some (false,())) (cond (d.1==0) (cond (b.2.1 != 1) (some (true,())) (cond (cJ .and .i64 b.2.2.1 73 != 0) (some (true,())) (some (cJ .and .i64 a 1==0,())))) (cond (d.1==b.2.2.2.1) (some (cJ .and .i64 (cJ .and .i64 (Int.fdiv b.2.2.1 (2^min (Int.toNat 6) 64)) 7) a==a,())) ((r' (d,b.2.2.2.2.1,())).bind fun g=>cond g.1 (some (cJ .and .i64 (cJ .and .i64 (Int.fdiv b.2.2.1 (2^min (Int.toNat 3) 64)) 7) a==a,())) (some (cJ .and .i64 (cJ .and .i64 b.2.2.1 7) a==a,()))))))
def na(x:aM.D×J.D×Int×Unit):Option (Bool×Unit):=IU x.1 x.2.1 x.2.2.1
abbrev AZ:Type:=(af)->(List ar.D)->Int->Int->Option (Int×Unit)
def A0(k2:AZ)(a:J.D)(b:af):Option (Int×Unit):=k2 b a.2.2.2.2.2.2.1 (a.2.2.2.2.2.2.1.length:Int) 0
def A1(k2:AZ)(d:af)(a:List ar.D)(e:Int)(b:Int):Option (Int×Unit):=cond (decide (b<e)) ((ax a.length b).bind fun v1=>cond (bm ((I ar a v1).1) d) (some ((I ar a v1).2.1,())) (k2 d a e (aj (b+1)))) (some (0,()))
def p6:Nat->AZ|0,_,_,_,_=>none|m+1,a,b,d,e=>A1 (p6 m) a b d e
def A2(x:J.D×(af)×Unit):Option (Int×Unit):=A0 (p6 aC) x.1 x.2.1
def QN(_:(af)×Int×Unit):Option ((List (af))×Unit):=none
def QO(x:(af)×Int×Unit):Option (Int×Unit):=some (Lib.indexByte x.1 x.2.1.toNat.toUInt8,())
def aaL(a:af)(b:Int):Option (Int×Unit):=(QO (a,b,())).bind fun v1=>some (v1.1,())
def QP(x:(af)×Int×Unit):Option (Int×Unit):=aaL x.1 x.2.1
def IV(b:af)(a:af):Option (Int×Unit):=cond ((a.length:Int)==0) (some (0,())) (cond (bm a b) (some (0,())) (cond ((a.length:Int)==1) ((ax a.length 0).bind fun v1=>(QP (b,((a.getD v1 0).toNat:Int),())).bind fun d=>some (d.1,())) (cond (decide ((a.length:Int)>=(b.length:Int))) (some ((-1),())) (none))))
def QQ(x:(af)×(af)×Unit):Option (Int×Unit):=IV x.1 x.2.1
def IW(a:af)(b:af):Option (Int×Unit):=(QQ (a,b,())).bind fun v1=>some (v1.1,())
def A3(x:(af)×(af)×Unit):Option (Int×Unit):=IW x.1 x.2.1
def QR(_:(af)×Unit):Option (Int×Unit):=none
def QS(x:(af)×Int×Unit):Option (Int×Unit):=some ((Lib.countByte x.1 x.2.1.toNat.toUInt8:Int),())
abbrev A4:Type:=(af)->(af)->Int->Option (Int×Unit)
def A5(c7:A4)(b:af)(a:af):Option (Int×Unit):=cond ((a.length:Int)==0) ((QR (b,())).bind fun v1=>some (aj (v1.1+1),())) (cond ((a.length:Int)==1) ((ax a.length 0).bind fun d=>(QS (b,((a.getD d 0).toNat:Int),())).bind fun e=>some (e.1,())) (c7 b a 0))
def QT(c7:A4)(a:af)(b:af)(e:Int):Option (Int×Unit):=(A3 (a,b,())).bind fun v1=>cond (v1.1 ==(-1)) (some (e,())) ((cZ a.length (aj (v1.1 +(b.length:Int))) (a.length:Int)).bind fun d=>c7 (part a d.1 (d.2-d.1)) b (aj (e+1)))
def A6:Nat->A4|0,_,_,_=>none|m+1,a,b,d=>QT (A6 m) a b d
def IX(x:(af)×(af)×Unit):Option (Int×Unit):=A5 (A6 aC) x.1 x.2.1
abbrev nc:Type:=(List (af))×Unit
structure oj where
 dE:(af)->(af)->Int->Int->Option (nc)
 cn:(af)->(af)->Int->Int->Int->(List (af))->Option (nc)
 p7:(af)->Int->(List (af))->Option (nc)
def A7(k:oj)(a:af)(b:af)(e:Int)(d:Int):Option (nc):=cond (d==0) (some ([],())) (cond (bm b []) ((QN (a,d,())).bind fun v1=>some (v1.1,())) (cond (decide (d<0)) ((IX (a,b,())).bind fun g=>k.dE a b e (aj (g.1+1))) (k.dE a b e d)))
def IY(k:oj)(a:af)(d:af)(e:Int)(b:Int):Option (nc):=cond (decide (0<=iW b (aj ((a.length:Int)+1)))&&decide (iW b (aj ((a.length:Int)+1))=iW b (aj ((a.length:Int)+1)))&&room (Int.toNat (iW b (aj ((a.length:Int)+1))))) (k.cn a d e (aj (iW b (aj ((a.length:Int)+1))-1)) 0 (List.replicate (Int.toNat (iW b (aj ((a.length:Int)+1)))) (([]:af):af))) (none)
def QU(k:oj)(a:af)(v1:Int×Unit)(d:af)(e:Int)(g:Int)(h:Int)(v4:List (af)):Option (nc):=(cZ a.length (aj (v1.1 +(d.length:Int))) (a.length:Int)).bind fun b=>k.cn (part a b.1 (b.2-b.1)) d e g (aj (h+1)) v4
def wY(k:oj)(a:af)(g:af)(h:Int)(i:Int)(b:Int)(d:List (af)):Option (nc):=cond (decide (b<i)) ((A3 (a,g,())).bind fun v1=>cond (decide (v1.1<0)) (k.p7 a b d) ((cZ a.length 0 (aj (v1.1+h))).bind fun e=>(ax d.length b).bind fun j=>QU k a v1 g h i b (d.set (0+j) (part a e.1 (e.2-e.1))))) (k.p7 a b d)
def IZ(k:oj)(d:af)(e:Int)(a:List (af)):Option (nc):=(ax a.length e).bind fun v1=>(cZ ((a.set (0+v1) d).length) 0 (aj (e+1))).bind fun b=>some (part (a.set (0+v1) d) (0+b.1) (b.2-b.1),())
def QV(k:oj):oj:=⟨IY k,wY k,IZ k⟩
def om:Nat->oj:=dF QV ⟨fun _ _ _ _=>none,fun _ _ _ _ _ _=>none,fun _ _ _=>none⟩
def I0(x:(af)×(af)×Int×Int×Unit):Option (nc):=A7 (om aC) x.1 x.2.1 x.2.2.1 x.2.2.2.1
abbrev QW:Type:=(List (af))×Unit
def I1(a:af)(b:af):Option (QW):=(I0 (a,b,0,(-1),())).bind fun v1=>some (v1.1,())
def I2(x:(af)×(af)×Unit):Option (QW):=I1 x.1 x.2.1
abbrev wZ:Type:=(List (af))×Unit
abbrev A8:Type:=Int->Int->(List (af))->(List (af))->Option (wZ)
def A9(k3:A8)(a:af):Option (wZ):=(I2 (a,([47]:af),())).bind fun v1=>k3 (v1.1.length:Int) 0 ([]:List (af)) v1.1
def A_(k3:A8)(e:Int)(b:Int)(d:List (af))(a:List (af)):Option (wZ):=cond (decide (b<e)) ((ax a.length b).bind fun v1=>cond (!(bm (I U.str a (0+v1)) [])) (cond (room (d.length+[I U.str a (0+v1)].length)) (k3 e (aj (b+1)) (d++[I U.str a (0+v1)]) a) (none)) (k3 e (aj (b+1)) d a)) (some (d,()))
def p8:Nat->A8|0,_,_,_,_=>none|m+1,a,b,d,e=>A_ (p8 m) a b d e
def p9(x:(af)×Unit):Option (wZ):=A9 (p8 aC) x.1
structure sa where
 k2:Int->(List J.D)->Int->Int->Option (Int×Unit)
 a_:Int->(List J.D)->Int->Int->(List ar.D)->Int->Int->J.D->Option (Int×Unit)
def A'(k:sa)(a:ad.D)(b:Int):Option (Int×Unit):=k.k2 b a.2.1 (a.2.1.length:Int) 0
def sb(k:sa)(e:Int)(a:List J.D)(d:Int)(b:Int):Option (Int×Unit):=cond (decide (b<d)) ((ax a.length b).bind fun v1=>k.a_ e a d b ((I J a v1).2.2.2.2.2.2.1) (((I J a v1).2.2.2.2.2.2.1).length:Int) 0 (I J a v1)) (some (1,()))
def sc(k:sa)(a:Int)(e:List J.D)(g:Int)(h:Int)(b:List ar.D)(i:Int)(d:Int)(j:J.D):Option (Int×Unit):=cond (decide (d<i)) ((ax b.length d).bind fun v1=>cond ((I ar b v1).2.1==a) (some (j.1,())) (k.a_ a e g h b i (aj (d+1)) j)) (k.k2 a e g (aj (h+1)))
def QX(k:sa):sa:=⟨sb k,sc k⟩
def jL:Nat->sa:=dF QX ⟨fun _ _ _ _=>none,fun _ _ _ _ _ _ _ _=>none⟩
def I3(x:ad.D×Int×Unit):Option (Int×Unit):=A' (jL aC) x.1 x.2.1
abbrev p_:Type:=ad.D->Bool->Nat->Nat->Int->Int->aM.D->aV.D->(List (af))->Option (aV.D×Unit)
def Ba(k3:p_)(a:ad.D)(b:aM.D)(d:af)(e:Bool):Option (aV.D×Unit):=(p9 (d,())).bind fun v1=>k3 a e 0 v1.1.length 1 0 b (0,[],0,0,()) v1.1
def QY(k3:p_)(a:ad.D)(b:Bool)(d:Int)(e:aM.D)(g:aV.D)(v10:List (af)):Option (aV.D×Unit):=cond (decide ((v10.length:Int)>40)) (some ((0,[],0,36,()),())) (k3 a b 0 v10.length 1 (aj (d+1)) e g v10)
def QZ(k3:p_)(b:ad.D)(d:Bool)(e:Int)(g:Int)(h:aM.D)(i:aV.D)(a:List (af)):Option (aV.D×Unit):=cond (decide ((a.length:Int)>40)) (some ((0,[],0,36,()),())) (k3 b d 0 a.length e (aj (g+1)) h i a)
def Q0(k3:p_)(b:ad.D)(d:Bool)(e:Int)(g:aM.D)(h:aV.D)(a:List (af)):Option (aV.D×Unit):=cond (decide ((a.length:Int)>40)) (some ((0,[],0,36,()),())) (k3 b d 0 a.length 1 (aj (e+1)) g h a)
def Q1(k3:p_)(b:ad.D)(d:Bool)(e:Int)(g:Int)(h:aM.D)(i:aV.D)(a:List (af)):Option (aV.D×Unit):=cond (decide ((a.length:Int)>40)) (some ((0,[],0,36,()),())) (k3 b d 0 a.length e (aj (g+1)) h i a)
def kq(k3:p_)(g:ad.D)(i:Bool)(d:Nat)(m:Nat)(j:Int)(h:Int)(k:aM.D)(l:aV.D)(e:List (af)):Option (aV.D×Unit):=cond (decide ((m:Int)>0)) ((ax m 0).bind fun v1=>(cZ m 1 (m:Int)).bind fun a=>(fo (g,j,())).bind fun n=>cond (!List.isEmpty n.1) ((na (k,I J n.1 0,1,())).bind fun v4=>cond (!v4.1) (some ((0,[],0,13,()),())) (cond (bm (I U.str e (d+v1)) ([46]:af)) (k3 g i (d+a.1) (a.2-a.1) j h k l e) (cond (bm (I U.str e (d+v1)) ([46,46]:af)) ((I3 (g,j,())).bind fun r=>k3 g i (d+a.1) (a.2-a.1) r.1 h k l e) (cond (decide (((I U.str e (d+v1)).length:Int)>8)) (some ((0,[],0,36,()),())) (cond (!List.isEmpty n.1) ((A2 (I J n.1 0,I U.str e (d+v1),())).bind fun v6=>cond (v6.1==0) (cond ((((a.2-a.1):Nat):Int)==0) (some ((j,I U.str e (d+v1),0,2,()),())) (some ((0,[],0,2,()),()))) ((fo (g,v6.1,())).bind fun b=>cond (!List.isEmpty b.1) (cond ((I J b.1 0).2.1==3) (cond (!((((a.2-a.1):Nat):Int)==0)) (cond (h==8) (some ((0,[],0,40,()),())) (cond (!List.isEmpty b.1) ((ax (((I J b.1 0).2.2.2.2.2.1).length) 0).bind fun s=>cond (((((I J b.1 0).2.2.2.2.2.1).getD s 0).toNat:Int)==47) (cond (!List.isEmpty b.1) ((p9 ((I J b.1 0).2.2.2.2.2.1,())).bind fun o=>cond (room (o.1.length +(part e (d+a.1) (a.2-a.1)).length)) (QY k3 g i h k l (o.1++(part e (d+a.1) (a.2-a.1)))) (none)) (none)) (cond (!List.isEmpty b.1) ((p9 ((I J b.1 0).2.2.2.2.2.1,())).bind fun v11=>cond (room (v11.1.length +(part e (d+a.1) (a.2-a.1)).length)) (QZ k3 g i j h k l (v11.1++(part e (d+a.1) (a.2-a.1)))) (none)) (none))) (none))) (cond i (cond (h==8) (some ((0,[],0,40,()),())) (cond (!List.isEmpty b.1) ((ax (((I J b.1 0).2.2.2.2.2.1).length) 0).bind fun u=>cond (((((I J b.1 0).2.2.2.2.2.1).getD u 0).toNat:Int)==47) (cond (!List.isEmpty b.1) ((p9 ((I J b.1 0).2.2.2.2.2.1,())).bind fun p=>cond (room (p.1.length +(part e (d+a.1) (a.2-a.1)).length)) (Q0 k3 g i h k l (p.1++(part e (d+a.1) (a.2-a.1)))) (none)) (none)) (cond (!List.isEmpty b.1) ((p9 ((I J b.1 0).2.2.2.2.2.1,())).bind fun q=>cond (room (q.1.length +(part e (d+a.1) (a.2-a.1)).length)) (Q1 k3 g i j h k l (q.1++(part e (d+a.1) (a.2-a.1)))) (none)) (none))) (none))) (cond ((((a.2-a.1):Nat):Int)==0) (some ((j,I U.str e (d+v1),v6.1,0,()),())) (cond (!List.isEmpty b.1) (cond ((I J b.1 0).2.1 != 2) (some ((0,[],0,20,()),())) (k3 g i (d+a.1) (a.2-a.1) v6.1 h k l e)) (none))))) (cond ((((a.2-a.1):Nat):Int)==0) (some ((j,I U.str e (d+v1),v6.1,0,()),())) (cond (!List.isEmpty b.1) (cond ((I J b.1 0).2.1 != 2) (some ((0,[],0,20,()),())) (k3 g i (d+a.1) (a.2-a.1) v6.1 h k l e)) (none)))) (none))) (none)))))) (none)) (some ((0,[],j,0,()),()))
def fM:Nat->p_|0,_,_,_,_,_,_,_,_,_=>none|m+1,a,b,d,e,g,h,i,j,k=>kq (fM m) a b d e g h i j k
def I4(x:ad.D×aM.D×(af)×Bool×Unit):Option (aV.D×Unit):=Ba (fM aC) x.1 x.2.1 x.2.2.1 x.2.2.2.1
def oo(a:aN.D)(b:af)(d:Bool):Option (aV.D×Unit):=(IS (b,())).bind fun v1=>cond (!v1.1) (some ((0,[],0,22,()),())) ((I4 (a.1,a.2.1,b,d,())).bind fun e=>some (e.1,()))
def j5(x:aN.D×(af)×Bool×Unit):Option (aV.D×Unit):=oo x.1 x.2.1 x.2.2.1
def w1(a:aN.D)(b:af):Option (aV.D×Int×Unit):=(j5 (a,b,false,())).bind fun v1=>cond (v1.1.2.2.2.1==2) (cond (!(bm v1.1.2.1 [])) (some (v1.1,0,())) (cond (v1.1.2.2.2.1==0) (some (v1.1,17,())) (some (v1.1,v1.1.2.2.2.1,())))) (cond (v1.1.2.2.2.1==0) (some (v1.1,17,())) (some (v1.1,v1.1.2.2.2.1,())))
def sd(x:aN.D×(af)×Unit):Option (aV.D×Int×Unit):=w1 x.1 x.2.1
def I5(a:aN.D)(b:Int):Option (Bool×Unit):=(fo (a.1,b,())).bind fun v1=>cond (!List.isEmpty v1.1) ((na (a.2.1,I J v1.1 0,3,())).bind fun d=>some (d.1,())) (none)
def lB(x:aN.D×Int×Unit):Option (Bool×Unit):=I5 x.1 x.2.1
def Q2(x:(List ar.D)×Int×(List ar.D)×Unit):Option ((List ar.D)×Unit):=insF x.1 x.2.1 x.2.2.1
structure se where
 k2:(af)->Int->Int->Int->aN.D->Option (aN.D×Unit)
 aZ:(af)->Int->Int->Int->aN.D->Option (aN.D×Unit)
def Bb(k:se)(a:aN.D)(b:Int)(d:af)(e:Int):Option (aN.D×Unit):=(uJ (a.1,b,())).bind fun v1=>k.k2 d e v1.1 0 (v1.2.1,a.2.1,a.2.2.1,())
def w2(k:se)(e:af)(g:Int)(b:Int)(d:Int)(a:aN.D):Option (aN.D×Unit):=(ax a.1.2.1.length b).bind fun v1=>cond (decide (d<(((I J a.1.2.1 v1).2.2.2.2.2.2.1).length:Int))) ((ax a.1.2.1.length b).bind fun h=>(ax (((I J a.1.2.1 h).2.2.2.2.2.2.1).length) d).bind fun i=>cond (dr ((I ar ((I J a.1.2.1 h).2.2.2.2.2.2.1) i).1) e) (k.k2 e g b (aj (d+1)) a) (k.aZ e g b d a)) (k.aZ e g b d a)
def aaM(a:aN.D)(v4:List J.D):Option (aN.D×Unit):=some (((a.1.1,v4,()),a.2.1,a.2.2.1,()),())
def I6(k:se)(d:af)(e:Int)(b:Int)(g:Int)(a:aN.D):Option (aN.D×Unit):=(ax a.1.2.1.length b).bind fun v1=>(ax a.1.2.1.length b).bind fun h=>cond (Nat.beq h v1) ((Q2 ((I J a.1.2.1 v1).2.2.2.2.2.2.1,g,[(d,e,())],())).bind fun i=>aaM a (a.1.2.1.set v1 ((I J a.1.2.1 v1).1,(I J a.1.2.1 v1).2.1,(I J a.1.2.1 v1).2.2.1,(I J a.1.2.1 v1).2.2.2.1,(I J a.1.2.1 v1).2.2.2.2.1,(I J a.1.2.1 v1).2.2.2.2.2.1,i.1,(I J a.1.2.1 v1).2.2.2.2.2.2.2.1,(I J a.1.2.1 v1).2.2.2.2.2.2.2.2.1,()))) (none)
def Q3(k:se):se:=⟨w2 k,I6 k⟩
def qa:Nat->se:=dF Q3 ⟨fun _ _ _ _ _=>none,fun _ _ _ _ _=>none⟩
def qb(x:aN.D×Int×(af)×Int×Unit):Option (aN.D×Unit):=Bb (qa aC) x.1 x.2.1 x.2.2.1 x.2.2.2.1
def I7(a:aN.D):Option (Int×Unit):=(p4 (a.1,())).bind fun v1=>cond (decide (v1.1>400)) (some (28,())) ((wU (a.1.2.1,a.1,())).bind fun b=>cond b.1 (some (122,())) (some (0,())))
def lC(x:aN.D×Unit):Option (Int×Unit):=I7 x.1
structure sf where
 aZ:aN.D->aL.D->Option (Int×aN.D×Unit)
 gK:aN.D->aV.D->J.D->Option (Int×aN.D×Unit)
def Bc(k:sf)(a:aN.D):Option (Int×aN.D×Unit):=cond (a.2.2.1.1==10) ((uI (a.2.2.1.2.2.1,())).bind fun v1=>cond (!v1.1) (some (22,a,())) (cond (a.2.2.1.1 != 10) ((cT (a.2.2.1.2.2.2.1,0,2047,())).bind fun b=>cond (!b.1) (some (22,a,())) (k.aZ a a.2.2.1)) (k.aZ a a.2.2.1))) (cond (a.2.2.1.1 != 10) ((cT (a.2.2.1.2.2.2.1,0,2047,())).bind fun d=>cond (!d.1) (some (22,a,())) (k.aZ a a.2.2.1)) (k.aZ a a.2.2.1))
def I8(k:sf)(a:aN.D)(d:aL.D):Option (Int×aN.D×Unit):=(sd (a,d.2.1,())).bind fun v1=>cond (v1.2.1 != 0) (some (v1.2.1,a,())) ((lB (a,v1.1.1,())).bind fun e=>cond (!e.1) (some (13,a,())) ((fo (a.1,v1.1.1,())).bind fun b=>cond (!List.isEmpty b.1) (cond ((((I J b.1 0).2.2.2.2.2.2.1).length:Int)==12) (some (28,a,())) (cond ((a.1.2.1.length:Int)==24) (some (28,a,())) (cond (a.1.1==100000) (some (28,a,())) (cond (!List.isEmpty b.1) (cond (cJ .and .i64 ((I J b.1 0).2.2.1) 1024 != 0) (cond (!List.isEmpty b.1) (cond (d.1==1) (cond (!List.isEmpty b.1) (k.gK a v1.1 (a.1.1,2,cJ .or .i64 d.2.2.2.1 (cJ .and .i64 ((I J b.1 0).2.2.1) 1024),a.2.1.1,(I J b.1 0).2.2.2.2.1,[],[],0,0,())) (none)) (cond (d.1==10) (k.gK a v1.1 (a.1.1,3,511,a.2.1.1,(I J b.1 0).2.2.2.2.1,d.2.2.1,[],0,0,())) (k.gK a v1.1 (a.1.1,1,d.2.2.2.1,a.2.1.1,(I J b.1 0).2.2.2.2.1,[],[],0,0,())))) (none)) (cond (d.1==1) (cond (!List.isEmpty b.1) (k.gK a v1.1 (a.1.1,2,cJ .or .i64 d.2.2.2.1 (cJ .and .i64 ((I J b.1 0).2.2.1) 1024),a.2.1.1,a.2.1.2.1,[],[],0,0,())) (none)) (cond (d.1==10) (k.gK a v1.1 (a.1.1,3,511,a.2.1.1,a.2.1.2.1,d.2.2.1,[],0,0,())) (k.gK a v1.1 (a.1.1,1,d.2.2.2.1,a.2.1.1,a.2.1.2.1,[],[],0,0,()))))) (none))))) (none)))
def I9(k:sf)(a:aN.D)(d:aV.D)(b:J.D):Option (Int×aN.D×Unit):=(qb (((aj (a.1.1+1),a.1.2.1,()),a.2.1,a.2.2.1,()),d.1,d.2.1,b.1,())).bind fun v1=>cond (room (v1.1.1.2.1.length+[b].length)) ((lC (((v1.1.1.1,v1.1.1.2.1++[b],()),v1.1.2.1,v1.1.2.2.1,()),())).bind fun e=>some (e.1,((v1.1.1.1,v1.1.1.2.1++[b],()),v1.1.2.1,v1.1.2.2.1,()),())) (none)
def Q4(k:sf):sf:=⟨I8 k,I9 k⟩
def j6:Nat->sf:=dF Q4 ⟨fun _ _=>none,fun _ _ _=>none⟩
def w3(x:aN.D×Unit):Option (Int×aN.D×Unit):=Bc (j6 aC) x.1
def I_(a:aM.D)(b:J.D)(d:J.D):Option (Bool×Unit):=(uP (a,())).bind fun v1=>cond v1.1 (cond (cJ .and .i64 b.2.2.1 512==0) (some (true,())) (cond (a.1==0) (some (true,())) (cond (a.1==b.2.2.2.1) (some (true,())) (some (a.1==d.2.2.2.1,()))))) (some (false,()))
def qc(x:aM.D×J.D×J.D×Unit):Option (Bool×Unit):=I_ x.1 x.2.1 x.2.2.1
def aaN(a:ar.D)(b:af):Option (Bool×Unit):=some (bm a.1 b,())
def Bd(x:ar.D×(af)×Unit):Option (Bool×Unit):=aaN x.1 x.2.1
abbrev Be:Type:=(List ar.D)->(af)->Int->Int->Option (Int×Unit)
def Q5(k2:Be)(a:List ar.D)(b:af):Option (Int×Unit):=k2 a b (a.length:Int) 0
def Bf(k2:Be)(b:List ar.D)(d:af)(e:Int)(a:Int):Option (Int×Unit):=cond (decide (a<e)) ((ax b.length a).bind fun v1=>(Bd (I ar b v1,d,())).bind fun g=>cond g.1 (some (a,())) (k2 b d e (aj (a+1)))) (some ((-1),()))
def uQ:Nat->Be|0,_,_,_,_=>none|m+1,a,b,d,e=>Bf (uQ m) a b d e
def I'(x:(List ar.D)×(af)×Unit):Option (Int×Unit):=Q5 (uQ aC) x.1 x.2.1
abbrev uR:Type:=(List ar.D)×Unit
abbrev Bg:Type:=(af)->Int->Int->(List ar.D)->Option (uR)
def Bh(a_:Bg)(a:List ar.D)(b:af):Option (uR):=(I' (a,b,())).bind fun v1=>cond (v1.1 ==(-1)) (some (a,())) (a_ b v1.1 (aj (v1.1+1)) a)
def Q6(b:Int)(a:List ar.D):Option (uR):=(cZ a.length 0 b).bind fun v6=>some (part a (0+v6.1) (v6.2-v6.1),())
def Bi(a_:Bg)(e:af)(b:Int)(d:Int)(a:List ar.D):Option (uR):=cond (decide (d<(a.length:Int))) ((ax a.length d).bind fun v1=>(Bd (I ar a (0+v1),e,())).bind fun g=>cond (!g.1) ((ax a.length b).bind fun h=>a_ e (aj (b+1)) (aj (d+1)) (a.set (0+h) (I ar a (0+v1)))) (a_ e b (aj (d+1)) a)) ((cZ a.length b (a.length:Int)).bind fun v4=>Q6 b (a.take (0+v4.1)++List.replicate (v4.2-v4.1) (([],0,()):ar.D)++a.drop ((0+v4.1) +(v4.2-v4.1))))
def uS:Nat->Bg|0,_,_,_,_=>none|m+1,a,b,d,e=>Bi (uS m) a b d e
def Bj(x:(List ar.D)×(af)×Unit):Option (uR):=Bh (uS aC) x.1 x.2.1
def Q7(x:(List J.D)×Int×Unit):Option ((List J.D)×Unit):=cond (room x.1.length) (some (x.1.filter (fun a=> !(a.1==x.2.1)),())) none
def Ja(e:Bool)(v1:Int×ad.D×Unit)(d:Int×Unit)(a:aN.D)(b:List J.D):Option (aN.D×Unit):=cond e ((uK ((v1.2.1.1,b,()),d.1,())).bind fun g=>cond (g.1==0) ((Q7 (b,d.1,())).bind fun h=>some (((v1.2.1.1,h.1,()),a.2.1,a.2.2.1,()),())) (some (((v1.2.1.1,b,()),a.2.1,a.2.2.1,()),()))) (some (((v1.2.1.1,b,()),a.2.1,a.2.2.1,()),()))
def Jb(a:aN.D)(d:Int)(b:af)(e:Bool):Option (aN.D×Unit):=(uJ (a.1,d,())).bind fun v1=>(ax v1.2.1.2.1.length v1.1).bind fun g=>(A2 (I J v1.2.1.2.1 g,b,())).bind fun h=>(ax v1.2.1.2.1.length v1.1).bind fun v4=>(ax v1.2.1.2.1.length v1.1).bind fun i=>cond (Nat.beq i v4) ((Bj ((I J v1.2.1.2.1 v4).2.2.2.2.2.2.1,b,())).bind fun v6=>Ja e v1 h a (v1.2.1.2.1.set v4 ((I J v1.2.1.2.1 v4).1,(I J v1.2.1.2.1 v4).2.1,(I J v1.2.1.2.1 v4).2.2.1,(I J v1.2.1.2.1 v4).2.2.2.1,(I J v1.2.1.2.1 v4).2.2.2.2.1,(I J v1.2.1.2.1 v4).2.2.2.2.2.1,v6.1,(I J v1.2.1.2.1 v4).2.2.2.2.2.2.2.1,(I J v1.2.1.2.1 v4).2.2.2.2.2.2.2.2.1,()))) (none)
def mv(x:aN.D×Int×(af)×Bool×Unit):Option (aN.D×Unit):=Jb x.1 x.2.1 x.2.2.1 x.2.2.2.1
structure oq where
 a_:aN.D->aV.D->J.D->Option (Int×aN.D×Unit)
 dE:aN.D->aV.D->J.D->Option (Int×aN.D×Unit)
 fk:aN.D->aV.D->J.D->Option (Int×aN.D×Unit)
 cn:aN.D->aV.D->J.D->Option (Int×aN.D×Unit)
def Bk(k:oq)(a:aN.D):Option (Int×aN.D×Unit):=(j5 (a,a.2.2.1.2.1,false,())).bind fun v1=>cond (v1.1.2.2.2.1 != 0) (some (v1.1.2.2.2.1,a,())) (dup ((fo (a.1,v1.1.2.2.1,())).bind fun b=>cond (!List.isEmpty b.1) (k.a_ a v1.1 (I J b.1 0)) (none)))
def Jc(k:oq)(a:aN.D)(b:aV.D)(d:J.D):Option (Int×aN.D×Unit):=cond (a.2.2.1.1==2) (cond (bm b.2.1 []) (some (16,a,())) (k.dE a b d)) (k.dE a b d)
def Jd(k:oq)(a:aN.D)(d:aV.D)(b:J.D):Option (Int×aN.D×Unit):=cond (a.2.2.1.1==2) (cond (b.2.1 != 2) (some (20,a,())) (k.fk a d b)) (k.fk a d b)
def Je(k:oq)(a:aN.D)(d:aV.D)(b:J.D):Option (Int×aN.D×Unit):=cond (a.2.2.1.1==8) (cond (b.2.1==2) (some (21,a,())) (k.cn a d b)) (k.cn a d b)
def Jf(k:oq)(a:aN.D)(b:aV.D)(d:J.D):Option (Int×aN.D×Unit):=(lB (a,b.1,())).bind fun v1=>cond (!v1.1) (some (13,a,())) ((fo (a.1,b.1,())).bind fun e=>cond (!List.isEmpty e.1) ((qc (a.2.1,I J e.1 0,d,())).bind fun g=>cond (!g.1) (some (1,a,())) (cond (a.2.2.1.1==2) (cond (decide ((d.2.2.2.2.2.2.1.length:Int)>0)) (some (39,a,())) ((mv (a,b.1,b.2.1,true,())).bind fun v4=>some (0,v4.1,()))) ((mv (a,b.1,b.2.1,true,())).bind fun h=>some (0,h.1,())))) (none))
def Q8(k:oq):oq:=⟨Jc k,Jd k,Je k,Jf k⟩
def mw:Nat->oq:=dF Q8 ⟨fun _ _ _=>none,fun _ _ _=>none,fun _ _ _=>none,fun _ _ _=>none⟩
def Bl(x:aN.D×Unit):Option (Int×aN.D×Unit):=Bk (mw aC) x.1
def Jg(a:ad.D)(b:Int):Option (Bool×Unit):=(fo (a,b,())).bind fun v1=>cond (!List.isEmpty v1.1) (cond (!List.isEmpty v1.1) (some ((I J v1.1 0).2.1==2,())) (none)) (some (false,()))
def w4(x:ad.D×Int×Unit):Option (Bool×Unit):=Jg x.1 x.2.1
def Jh(a:aN.D):Option (Int×aN.D×Unit):=(j5 (a,a.2.2.1.2.1,false,())).bind fun v1=>cond (v1.1.2.2.2.1 != 0) (some (v1.1.2.2.2.1,a,())) ((w4 (a.1,v1.1.2.2.1,())).bind fun e=>cond e.1 (some (1,a,())) ((sd (a,a.2.2.1.2.2.1,())).bind fun b=>cond (b.2.1 != 0) (some (b.2.1,a,())) ((lB (a,b.1.1,())).bind fun v4=>cond (!v4.1) (some (13,a,())) ((fo (a.1,b.1.1,())).bind fun d=>cond (!List.isEmpty d.1) (cond ((((I J d.1 0).2.2.2.2.2.2.1).length:Int)==12) (some (28,a,())) ((qb (a,b.1.1,b.1.2.1,v1.1.2.2.1,())).bind fun v6=>(lC (v6.1,())).bind fun g=>some (g.1,v6.1,()))) (none)))))
def Bm(x:aN.D×Unit):Option (Int×aN.D×Unit):=Jh x.1
def Ji(b:aN.D)(a:J.D)(d:aV.D):Option (Int×Unit):=dup ((fo (b.1,d.2.2.1,())).bind fun v1=>cond (!List.isEmpty v1.1) ((fo (b.1,d.1,())).bind fun e=>cond (!List.isEmpty e.1) ((qc (b.2.1,I J e.1 0,I J v1.1 0,())).bind fun g=>cond (!g.1) (some (1,())) (cond (a.2.1==2) (cond ((I J v1.1 0).2.1 != 2) (some (20,())) (cond (a.2.1==2) (cond (decide ((((I J v1.1 0).2.2.2.2.2.2.1).length:Int)>0)) (some (39,())) (cond (a.2.1 != 2) (cond ((I J v1.1 0).2.1==2) (some (21,())) (some (0,()))) (some (0,())))) (cond (a.2.1 != 2) (cond ((I J v1.1 0).2.1==2) (some (21,())) (some (0,()))) (some (0,()))))) (cond (a.2.1==2) (cond (decide ((((I J v1.1 0).2.2.2.2.2.2.1).length:Int)>0)) (some (39,())) (cond (a.2.1 != 2) (cond ((I J v1.1 0).2.1==2) (some (21,())) (some (0,()))) (some (0,())))) (cond (a.2.1 != 2) (cond ((I J v1.1 0).2.1==2) (some (21,())) (some (0,()))) (some (0,())))))) (none)) (none))
def Bn(x:aN.D×J.D×aV.D×Unit):Option (Int×Unit):=Ji x.1 x.2.1 x.2.2.1
structure ot where
 dE:aN.D->aV.D->aV.D->Option (Int×aN.D×Unit)
 c4:aN.D->aV.D->aV.D->J.D->Option (Int×aN.D×Unit)
 ou:aN.D->aV.D->aV.D->J.D->Option (Int×aN.D×Unit)
 mx:aN.D->aV.D->aV.D->Option (Int×aN.D×Unit)
def Bo(k:ot)(a:aN.D):Option (Int×aN.D×Unit):=(j5 (a,a.2.2.1.2.1,false,())).bind fun v1=>cond (v1.1.2.2.2.1 != 0) (some (v1.1.2.2.2.1,a,())) ((j5 (a,a.2.2.1.2.2.1,false,())).bind fun b=>cond (b.1.2.2.2.1 != 0) (cond (b.1.2.2.2.1 != 2) (some (b.1.2.2.2.1,a,())) (cond (bm b.1.2.1 []) (some (b.1.2.2.2.1,a,())) (k.dE a v1.1 b.1))) (k.dE a v1.1 b.1))
def Jj(k:ot)(a:aN.D)(b:aV.D)(d:aV.D):Option (Int×aN.D×Unit):=cond (bm b.2.1 []) (some (16,a,())) (cond (bm d.2.1 []) (some (16,a,())) (dup ((fo (a.1,b.2.2.1,())).bind fun v1=>cond (!List.isEmpty v1.1) (k.c4 a b d (I J v1.1 0)) (none))))
def Jk(k:ot)(a:aN.D)(b:aV.D)(d:aV.D)(e:J.D):Option (Int×aN.D×Unit):=(lB (a,b.1,())).bind fun v1=>cond (!v1.1) (some (13,a,())) ((lB (a,d.1,())).bind fun h=>cond (!h.1) (some (13,a,())) ((fo (a.1,b.1,())).bind fun g=>cond (!List.isEmpty g.1) ((qc (a.2.1,I J g.1 0,e,())).bind fun v4=>cond (!v4.1) (some (1,a,())) (cond (e.2.1==2) (cond (d.1==b.2.2.1) (some (22,a,())) ((rU (a.1,b.2.2.1,())).bind fun i=>(p3 (i.1,d.1,())).bind fun v6=>cond v6.1 (some (22,a,())) (k.ou a b d e))) (k.ou a b d e))) (none)))
def Jl(k:ot)(b:aN.D)(d:aV.D)(a:aV.D)(g:J.D):Option (Int×aN.D×Unit):=cond (a.2.2.1==d.2.2.1) (some (0,b,())) (cond (a.2.2.1 != 0) ((Bn (b,g,a,())).bind fun v1=>cond (v1.1 != 0) (some (v1.1,b,())) ((mv (b,a.1,a.2.1,true,())).bind fun h=>k.mx h.1 d a)) (cond (d.1 != a.1) ((fo (b.1,a.1,())).bind fun e=>cond (!List.isEmpty e.1) (cond ((((I J e.1 0).2.2.2.2.2.2.1).length:Int)==12) (some (28,b,())) (k.mx b d a)) (none)) (k.mx b d a)))
def Jm(k:ot)(e:aN.D)(a:aV.D)(b:aV.D):Option (Int×aN.D×Unit):=(mv (e,a.1,a.2.1,false,())).bind fun v1=>(qb (v1.1,b.1,b.2.1,a.2.2.1,())).bind fun d=>(lC (d.1,())).bind fun g=>some (g.1,d.1,())
def Q9(k:ot):ot:=⟨Jj k,Jk k,Jl k,Jm k⟩
def ij:Nat->ot:=dF Q9 ⟨fun _ _ _=>none,fun _ _ _ _=>none,fun _ _ _ _=>none,fun _ _ _=>none⟩
def Bp(x:aN.D×Unit):Option (Int×aN.D×Unit):=Bo (ij aC) x.1
abbrev Q_:Type:=Int×Int×aN.D×Unit
def Jn(a:aN.D)(d:Bool):Option (Q_):=(j5 (a,a.2.2.1.2.1,d,())).bind fun v1=>cond (v1.1.2.2.2.1 != 0) (some ((-1),v1.1.2.2.2.1,a,())) ((uJ (a.1,v1.1.2.2.1,())).bind fun b=>some (b.1,0,(b.2.1,a.2.1,a.2.2.1,()),()))
def kW(x:aN.D×Bool×Unit):Option (Q_):=Jn x.1 x.2.1
abbrev Ra:Type:=Int×Int×aN.D×Unit
def w5(a:aN.D)(b:Int):Option (Ra):=(kW (a,true,())).bind fun v1=>cond (v1.2.1 != 0) (some ((-1),v1.2.1,v1.2.2.1,())) ((ax v1.2.2.1.1.2.1.length v1.1).bind fun d=>cond ((I J v1.2.2.1.1.2.1 d).2.1==2) (some ((-1),21,v1.2.2.1,())) ((ax v1.2.2.1.1.2.1.length v1.1).bind fun e=>(na (v1.2.2.1.2.1,I J v1.2.2.1.1.2.1 e,b,())).bind fun v4=>cond (!v4.1) (some ((-1),13,v1.2.2.1,())) (some (v1.1,0,v1.2.2.1,()))))
def w6(x:aN.D×Int×Unit):Option (Ra):=w5 x.1 x.2.1
abbrev Rb:Type:=aA.D×aN.D×Unit
def Jo(e:aN.D):Option (Rb):=(w6 (e,4,())).bind fun v1=>cond (v1.2.1 != 0) ((ea (v1.2.1,())).bind fun g=>some (g.1,v1.2.2.1,())) (cond (decide (v1.2.2.1.2.2.1.2.2.2.1<0)) ((ea (22,())).bind fun h=>some (h.1,v1.2.2.1,())) (cond (decide (v1.2.2.1.2.2.1.2.2.2.2.1<0)) ((ea (22,())).bind fun v4=>some (v4.1,v1.2.2.1,())) ((ax v1.2.2.1.1.2.1.length v1.1).bind fun b=>(ax v1.2.2.1.1.2.1.length v1.1).bind fun v6=>(cZ (((I J v1.2.2.1.1.2.1 b).2.2.2.2.2.1).length) (iW v1.2.2.1.2.2.1.2.2.2.1 (((I J v1.2.2.1.1.2.1 v6).2.2.2.2.2.1).length:Int)) (((I J v1.2.2.1.1.2.1 b).2.2.2.2.2.1).length:Int)).bind fun a=>(cZ ((part ((I J v1.2.2.1.1.2.1 b).2.2.2.2.2.1) a.1 (a.2-a.1)).length) 0 (iW v1.2.2.1.2.2.1.2.2.2.2.1 (((part ((I J v1.2.2.1.1.2.1 b).2.2.2.2.2.1) a.1 (a.2-a.1)).length:Nat):Int))).bind fun d=>some ((0,part (part ((I J v1.2.2.1.1.2.1 b).2.2.2.2.2.1) a.1 (a.2-a.1)) d.1 (d.2-d.1),()),v1.2.2.1,()))))
def Bq(x:aN.D×Unit):Option (Rb):=Jo x.1
def strings_Repeat(x:(af)×Int×Unit):Option ((af)×Unit):=repF x.1 x.2.1
def Jp(a:af)(b:Int):Option ((af)×Unit):=cond (decide ((a.length:Int)>=b)) ((cZ a.length 0 b).bind fun v1=>some (part a v1.1 (v1.2-v1.1),())) ((strings_Repeat (([0]:af),aj (b-(a.length:Int)),())).bind fun d=>cond (room (a.length+d.1.length)) (some (a++d.1,())) (none))
def Br(x:(af)×Int×Unit):Option ((af)×Unit):=Jp x.1 x.2.1
structure qd where
 dE:Int->Int->aN.D->Option (Int×aN.D×Unit)
 cn:Int->Int->aN.D->Option (Int×aN.D×Unit)
 gj:Int->(af)->aN.D->Option (Int×aN.D×Unit)
def Bs(k:qd)(a:aN.D):Option (Int×aN.D×Unit):=(w6 (a,2,())).bind fun v1=>cond (v1.2.1 != 0) (some (v1.2.1,v1.2.2.1,())) (cond (v1.2.2.1.2.2.1.1==6) ((ax v1.2.2.1.1.2.1.length v1.1).bind fun b=>k.dE v1.1 (((I J v1.2.2.1.1.2.1 b).2.2.2.2.2.1).length:Int) v1.2.2.1) (k.dE v1.1 v1.2.2.1.2.2.1.2.2.2.1 v1.2.2.1))
def Jq(k:qd)(d:Int)(b:Int)(a:aN.D):Option (Int×aN.D×Unit):=cond (decide (b<0)) (some (22,a,())) (cond (a.2.2.1.1 != 7) (cond (bm a.2.2.1.2.2.2.2.2.1 []) (some (0,a,())) (k.cn d b a)) (k.cn d b a))
def Jr(k:qd)(d:Int)(g:Int)(a:aN.D):Option (Int×aN.D×Unit):=cond (decide (aj (g +(a.2.2.1.2.2.2.2.2.1.length:Int))>64)) (some (27,a,())) ((ax a.1.2.1.length d).bind fun v1=>(Br ((I J a.1.2.1 v1).2.2.2.2.2.1,g,())).bind fun b=>cond (a.2.2.1.1 != 7) (cond (room (b.1.length+a.2.2.1.2.2.2.2.2.1.length)) ((ax a.1.2.1.length d).bind fun h=>cond (decide ((((I J a.1.2.1 h).2.2.2.2.2.1).length:Int) >((b.1++a.2.2.1.2.2.2.2.2.1).length:Int))) ((ax a.1.2.1.length d).bind fun v4=>(cZ (((I J a.1.2.1 v4).2.2.2.2.2.1).length) ((b.1++a.2.2.1.2.2.2.2.2.1).length:Int) (((I J a.1.2.1 v4).2.2.2.2.2.1).length:Int)).bind fun e=>cond (room ((b.1++a.2.2.1.2.2.2.2.2.1).length +(part ((I J a.1.2.1 v4).2.2.2.2.2.1) e.1 (e.2-e.1)).length)) (k.gj d ((b.1++a.2.2.1.2.2.2.2.2.1)++(part ((I J a.1.2.1 v4).2.2.2.2.2.1) e.1 (e.2-e.1))) a) (none)) (k.gj d (b.1++a.2.2.1.2.2.2.2.2.1) a)) (none)) (k.gj d b.1 a))
def aaO(a:aN.D)(b:List J.D):Option (Int×aN.D×Unit):=(lC (((a.1.1,b,()),a.2.1,a.2.2.1,()),())).bind fun d=>some (d.1,((a.1.1,b,()),a.2.1,a.2.2.1,()),())
def Js(k:qd)(b:Int)(d:af)(a:aN.D):Option (Int×aN.D×Unit):=(ax a.1.2.1.length b).bind fun v1=>aaO a (a.1.2.1.set v1 ((I J a.1.2.1 v1).1,(I J a.1.2.1 v1).2.1,(I J a.1.2.1 v1).2.2.1,(I J a.1.2.1 v1).2.2.2.1,(I J a.1.2.1 v1).2.2.2.2.1,d,(I J a.1.2.1 v1).2.2.2.2.2.2.1,(I J a.1.2.1 v1).2.2.2.2.2.2.2.1,(I J a.1.2.1 v1).2.2.2.2.2.2.2.2.1,()))
def Rc(k:qd):qd:=⟨Jq k,Jr k,Js k⟩
def fW:Nat->qd:=dF Rc ⟨fun _ _ _=>none,fun _ _ _=>none,fun _ _ _=>none⟩
def Bt(x:aN.D×Unit):Option (Int×aN.D×Unit):=Bs (fW aC) x.1
abbrev Rd:Type:=aA.D×aN.D×Unit
def Jt(a:aN.D):Option (Rd):=(kW (a,false,())).bind fun v1=>cond (v1.2.1 != 0) ((ea (v1.2.1,())).bind fun b=>some (b.1,v1.2.2.1,())) ((ax v1.2.2.1.1.2.1.length v1.1).bind fun d=>cond ((I J v1.2.2.1.1.2.1 d).2.1 != 3) ((ea (22,())).bind fun v4=>some (v4.1,v1.2.2.1,())) ((ax v1.2.2.1.1.2.1.length v1.1).bind fun e=>some ((0,(I J v1.2.2.1.1.2.1 e).2.2.2.2.2.1,()),v1.2.2.1,())))
def Bu(x:aN.D×Unit):Option (Rd):=Jt x.1
def strings_Join(x:(List (af))×(af)×Unit):Option ((af)×Unit):=joinF x.1 x.2.1
abbrev Bv:Type:=(List Int)->Int->Int->(List (af))->Option ((af)×Unit)
def Re(k3:Bv)(a:List Int):Option ((af)×Unit):=k3 a (a.length:Int) 0 ([]:List (af))
def Bw(k3:Bv)(a:List Int)(e:Int)(b:Int)(d:List (af)):Option ((af)×Unit):=cond (decide (b<e)) ((ax a.length b).bind fun v1=>(r8 (I (U.int .i64) a v1,())).bind fun g=>cond (room (d.length+[g.1].length)) (k3 a e (aj (b+1)) (d++[g.1])) (none)) ((strings_Join (d,([32]:af),())).bind fun h=>some (h.1,()))
def sg:Nat->Bv|0,_,_,_,_=>none|m+1,a,b,d,e=>Bw (sg m) a b d e
def ov(x:(List Int)×Unit):Option ((af)×Unit):=Re (sg aC) x.1
abbrev w7:Type:=aA.D×aN.D×Unit
abbrev Bx:Type:=(List ar.D)->Int->Int->aA.D->(List (af))->aN.D->Option (w7)
def By(kX:Bx)(d:aN.D):Option (w7):=(kW (d,true,())).bind fun v1=>cond (v1.2.1 != 0) ((ea (v1.2.1,())).bind fun e=>some (e.1,v1.2.2.1,())) ((ax v1.2.2.1.1.2.1.length v1.1).bind fun g=>cond ((I J v1.2.2.1.1.2.1 g).2.1 != 2) ((ea (20,())).bind fun v4=>some (v4.1,v1.2.2.1,())) ((ax v1.2.2.1.1.2.1.length v1.1).bind fun h=>(na (v1.2.2.1.2.1,I J v1.2.2.1.1.2.1 h,4,())).bind fun v6=>cond (!v6.1) ((ea (13,())).bind fun i=>some (i.1,v1.2.2.1,())) (cond (v1.2.2.1.2.2.1.1==20) ((ax v1.2.2.1.1.2.1.length v1.1).bind fun j=>(wT (v1.2.2.1.1,(I J v1.2.2.1.1.2.1 j).1,())).bind fun a=>(ax v1.2.2.1.1.2.1.length v1.1).bind fun v10=>(ax v1.2.2.1.1.2.1.length v1.1).bind fun v11=>(ov ([(I J v1.2.2.1.1.2.1 v10).2.2.2.2.2.2.2.1,(I J v1.2.2.1.1.2.1 v11).2.2.2.2.2.2.2.2.1,a.1,a.2.1],())).bind fun k=>some ((0,k.1,()),v1.2.2.1,())) ((ax v1.2.2.1.1.2.1.length v1.1).bind fun b=>kX ((I J v1.2.2.1.1.2.1 b).2.2.2.2.2.2.1) (((I J v1.2.2.1.1.2.1 b).2.2.2.2.2.2.1).length:Int) 0 (0,[],()) ([]:List (af)) v1.2.2.1))))
def Bz(kX:Bx)(a:List ar.D)(e:Int)(b:Int)(h:aA.D)(d:List (af))(g:aN.D):Option (w7):=cond (decide (b<e)) ((ax a.length b).bind fun v1=>cond (room (d.length+[(I ar a v1).1].length)) (kX a e (aj (b+1)) h (d++[(I ar a v1).1]) g) (none)) ((strings_Join (d,([47]:af),())).bind fun i=>some ((0,i.1,()),g,()))
def ow:Nat->Bx|0,_,_,_,_,_,_=>none|m+1,a,b,d,e,g,h=>Bz (ow m) a b d e g h
def w8(x:aN.D×Unit):Option (w7):=By (ow aC) x.1
abbrev BA:Type:=ad.D->Int->(List ar.D)->Int->Int->Option (Int×Unit)
def BB(a_:BA)(b:ad.D)(a:J.D):Option (Int×Unit):=cond (a.2.1 != 2) ((uK (b,a.1,())).bind fun v1=>some (v1.1,())) (a_ b 2 a.2.2.2.2.2.2.1 (a.2.2.2.2.2.2.1.length:Int) 0)
def BC(a_:BA)(d:ad.D)(e:Int)(a:List ar.D)(g:Int)(b:Int):Option (Int×Unit):=cond (decide (b<g)) ((ax a.length b).bind fun v1=>(w4 (d,(I ar a v1).2.1,())).bind fun h=>cond h.1 (a_ d (aj (e+1)) a g (aj (b+1))) (a_ d e a g (aj (b+1)))) (some (e,()))
def qe:Nat->BA|0,_,_,_,_,_=>none|m+1,a,b,d,e,g=>BC (qe m) a b d e g
def Ju(x:ad.D×J.D×Unit):Option (Int×Unit):=BB (qe aC) x.1 x.2.1
abbrev Rf:Type:=aA.D×aN.D×Unit
def Jv(b:aN.D):Option (Rf):=(cT (b.2.2.1.2.2.2.1,0,1,())).bind fun v1=>cond (!v1.1) ((ea (22,())).bind fun d=>some (d.1,b,())) ((kW (b,b.2.2.1.2.2.2.1==0,())).bind fun a=>cond (a.2.1 != 0) ((ea (a.2.1,())).bind fun v4=>some (v4.1,a.2.2.1,())) ((ax a.2.2.1.1.2.1.length a.1).bind fun e=>(ax a.2.2.1.1.2.1.length a.1).bind fun v6=>(ax a.2.2.1.1.2.1.length a.1).bind fun g=>(ax a.2.2.1.1.2.1.length a.1).bind fun h=>(ax a.2.2.1.1.2.1.length a.1).bind fun i=>(ax a.2.2.1.1.2.1.length a.1).bind fun v10=>(Ju (a.2.2.1.1,I J a.2.2.1.1.2.1 i,())).bind fun v11=>(ov ([(I J a.2.2.1.1.2.1 e).2.1,(I J a.2.2.1.1.2.1 v6).2.2.1,(I J a.2.2.1.1.2.1 g).2.2.2.1,(I J a.2.2.1.1.2.1 h).2.2.2.2.1,v11.1,(((I J a.2.2.1.1.2.1 v10).2.2.2.2.2.1).length:Int)],())).bind fun j=>some ((0,j.1,()),a.2.2.1,())))
def w9(x:aN.D×Unit):Option (Rf):=Jv x.1
abbrev BD:Type:=Int->aN.D->Option (Int×aN.D×Unit)
def BE(cE:BD)(b:aN.D):Option (Int×aN.D×Unit):=(cT (b.2.2.1.2.2.2.1,0,2047,())).bind fun v1=>cond (!v1.1) (some (22,b,())) ((kW (b,true,())).bind fun a=>cond (a.2.1 != 0) (some (a.2.1,a.2.2.1,())) (cond (a.2.2.1.2.1.1 != 0) ((ax a.2.2.1.1.2.1.length a.1).bind fun d=>cond (a.2.2.1.2.1.1 !=(I J a.2.2.1.1.2.1 d).2.2.2.1) (some (1,a.2.2.1,())) (cE a.1 a.2.2.1)) (cE a.1 a.2.2.1)))
def Rg(a:aN.D)(b:List J.D):Option (Int×aN.D×Unit):=some (0,((a.1.1,b,()),a.2.1,a.2.2.1,()),())
def Jw(b:aN.D)(d:Int)(a:List J.D):Option (Int×aN.D×Unit):=cond (b.2.1.1 != 0) ((ax a.length d).bind fun e=>(r' (b.2.1,(I J a e).2.2.2.2.1,())).bind fun v4=>cond (!v4.1) ((ax a.length d).bind fun g=>(ax a.length d).bind fun v6=>Rg b (a.set v6 ((I J a v6).1,(I J a v6).2.1,cJ .andNot .i64 ((I J a g).2.2.1) 1024,(I J a v6).2.2.2.1,(I J a v6).2.2.2.2.1,(I J a v6).2.2.2.2.2.1,(I J a v6).2.2.2.2.2.2.1,(I J a v6).2.2.2.2.2.2.2.1,(I J a v6).2.2.2.2.2.2.2.2.1,()))) (some (0,((b.1.1,a,()),b.2.1,b.2.2.1,()),()))) (some (0,((b.1.1,a,()),b.2.1,b.2.2.1,()),()))
def Jx(cE:BD)(b:Int)(a:aN.D):Option (Int×aN.D×Unit):=(ax a.1.2.1.length b).bind fun v1=>Jw a b (a.1.2.1.set v1 ((I J a.1.2.1 v1).1,(I J a.1.2.1 v1).2.1,a.2.2.1.2.2.2.1,(I J a.1.2.1 v1).2.2.2.1,(I J a.1.2.1 v1).2.2.2.2.1,(I J a.1.2.1 v1).2.2.2.2.2.1,(I J a.1.2.1 v1).2.2.2.2.2.2.1,(I J a.1.2.1 v1).2.2.2.2.2.2.2.1,(I J a.1.2.1 v1).2.2.2.2.2.2.2.2.1,()))
def ox:Nat->BD|0,_,_=>none|m+1,a,b=>Jx (ox m) a b
def BF(x:aN.D×Unit):Option (Int×aN.D×Unit):=BE (ox aC) x.1
abbrev BG:Type:=Int->aN.D->Option (Int×aN.D×Unit)
def BH(cE:BG)(b:aN.D):Option (Int×aN.D×Unit):=(cT (b.2.2.1.2.2.2.1,0,1000,())).bind fun v1=>cond (!v1.1) (some (22,b,())) ((cT (b.2.2.1.2.2.2.2.1,0,1000,())).bind fun d=>cond (!d.1) (some (22,b,())) ((kW (b,true,())).bind fun a=>cond (a.2.1 != 0) (some (a.2.1,a.2.2.1,())) (cond (a.2.2.1.2.1.1 != 0) ((ax a.2.2.1.1.2.1.length a.1).bind fun v4=>cond (a.2.2.1.2.1.1 !=(I J a.2.2.1.1.2.1 v4).2.2.2.1) (some (1,a.2.2.1,())) ((ax a.2.2.1.1.2.1.length a.1).bind fun e=>cond (a.2.2.1.2.2.1.2.2.2.1 !=(I J a.2.2.1.1.2.1 e).2.2.2.1) (some (1,a.2.2.1,())) ((r' (a.2.2.1.2.1,a.2.2.1.2.2.1.2.2.2.2.1,())).bind fun v6=>cond (!v6.1) (some (1,a.2.2.1,())) (cE a.1 a.2.2.1)))) (cE a.1 a.2.2.1))))
def Rh(a:aN.D)(v4:List J.D):Option (Int×aN.D×Unit):=some (0,((a.1.1,v4,()),a.2.1,a.2.2.1,()),())
def Jy(e:Int)(d:aN.D)(a:List J.D):Option (Int×aN.D×Unit):=(ax a.length e).bind fun b=>Rh d (a.set b ((I J a b).1,(I J a b).2.1,(I J a b).2.2.1,(I J a b).2.2.2.1,d.2.2.1.2.2.2.2.1,(I J a b).2.2.2.2.2.1,(I J a b).2.2.2.2.2.2.1,(I J a b).2.2.2.2.2.2.2.1,(I J a b).2.2.2.2.2.2.2.2.1,()))
def Jz(cE:BG)(b:Int)(a:aN.D):Option (Int×aN.D×Unit):=(ax a.1.2.1.length b).bind fun v1=>Jy b a (a.1.2.1.set v1 ((I J a.1.2.1 v1).1,(I J a.1.2.1 v1).2.1,(I J a.1.2.1 v1).2.2.1,a.2.2.1.2.2.2.1,(I J a.1.2.1 v1).2.2.2.2.1,(I J a.1.2.1 v1).2.2.2.2.2.1,(I J a.1.2.1 v1).2.2.2.2.2.2.1,(I J a.1.2.1 v1).2.2.2.2.2.2.2.1,(I J a.1.2.1 v1).2.2.2.2.2.2.2.2.1,()))
def oy:Nat->BG|0,_,_=>none|m+1,a,b=>Jz (oy m) a b
def BI(x:aN.D×Unit):Option (Int×aN.D×Unit):=BH (oy aC) x.1
def JA(b:aN.D):Option (Int×aN.D×Unit):=(cT (b.2.2.1.2.2.2.1,0,7,())).bind fun v1=>cond (!v1.1) (some (22,b,())) ((kW (b,true,())).bind fun a=>cond (a.2.1 != 0) (some (a.2.1,a.2.2.1,())) ((ax a.2.2.1.1.2.1.length a.1).bind fun d=>(na (a.2.2.1.2.1,I J a.2.2.1.1.2.1 d,a.2.2.1.2.2.1.2.2.2.1,())).bind fun v4=>cond (!v4.1) (some (13,a.2.2.1,())) (some (0,a.2.2.1,()))))
def BJ(x:aN.D×Unit):Option (Int×aN.D×Unit):=JA x.1
def JB(a:Int×Int×aN.D×Unit)(b:List J.D):Option (Int×aN.D×Unit):=(lC (((a.2.2.1.1.1,b,()),a.2.2.1.2.1,a.2.2.1.2.2.1,()),())).bind fun d=>some (d.1,((a.2.2.1.1.1,b,()),a.2.2.1.2.1,a.2.2.1.2.2.1,()),())
def BK(b:Int×Int×aN.D×Unit)(v6:List J.D):Option (Int×aN.D×Unit):=(ax v6.length b.1).bind fun a=>JB b (v6.set a ((I J v6 a).1,(I J v6 a).2.1,(I J v6 a).2.2.1,(I J v6 a).2.2.2.1,(I J v6 a).2.2.2.2.1,(I J v6 a).2.2.2.2.2.1,(I J v6 a).2.2.2.2.2.2.1,(I J v6 a).2.2.2.2.2.2.2.1,b.2.2.1.2.2.1.2.2.2.2.1,()))
def JC(d:aN.D):Option (Int×aN.D×Unit):=(cT (d.2.2.1.2.2.2.1,0,400,())).bind fun v1=>cond (!v1.1) (some (22,d,())) ((cT (d.2.2.1.2.2.2.2.1,0,24,())).bind fun e=>cond (!e.1) (some (22,d,())) (cond (d.2.1.1 != 0) (some (1,d,())) ((kW (d,true,())).bind fun a=>cond (a.2.1 != 0) (some (a.2.1,a.2.2.1,())) ((ax a.2.2.1.1.2.1.length a.1).bind fun v4=>cond ((I J a.2.2.1.1.2.1 v4).2.1 != 2) (some (20,a.2.2.1,())) ((ax a.2.2.1.1.2.1.length a.1).bind fun b=>BK a (a.2.2.1.1.2.1.set b ((I J a.2.2.1.1.2.1 b).1,(I J a.2.2.1.1.2.1 b).2.1,(I J a.2.2.1.1.2.1 b).2.2.1,(I J a.2.2.1.1.2.1 b).2.2.2.1,(I J a.2.2.1.1.2.1 b).2.2.2.2.1,(I J a.2.2.1.1.2.1 b).2.2.2.2.2.1,(I J a.2.2.1.1.2.1 b).2.2.2.2.2.2.1,a.2.2.1.2.2.1.2.2.2.1,(I J a.2.2.1.1.2.1 b).2.2.2.2.2.2.2.2.1,())))))))
def BL(x:aN.D×Unit):Option (Int×aN.D×Unit):=JC x.1
abbrev jq:Type:=aA.D×aN.D×Unit
structure lD where
 a_:aN.D->aA.D->Option (jq)
 c7:Int->aN.D->aA.D->Option (jq)
 cE:aN.D->aA.D->Option (jq)
 fk:Int->aN.D->aA.D->Option (jq)
 gj:aN.D->aA.D->Option (jq)
 jr:Int->aN.D->aA.D->Option (jq)
 nd:Int->aN.D->aA.D->Option (jq)
def BM(k:lD)(a:aN.D):Option (jq):=cond (a.2.2.1.1==1) (cond (a.2.2.1.1==1) (k.a_ a (0,[],())) (k.c7 a.2.2.1.1 a (0,[],()))) (cond (a.2.2.1.1==3) (cond (a.2.2.1.1==3) (k.a_ a (0,[],())) (k.c7 a.2.2.1.1 a (0,[],()))) (cond (a.2.2.1.1==10) (k.a_ a (0,[],())) (k.c7 a.2.2.1.1 a (0,[],()))))
def aaP(k:lD)(a:aN.D)(d:aA.D):Option (jq):=(w3 (a,())).bind fun v1=>(ea (v1.1,())).bind fun b=>some (b.1,v1.2.1,())
def aaQ(k:lD)(a:Int)(b:aN.D)(d:aA.D):Option (jq):=cond (a==2) (cond (a==2) (k.cE b d) (k.fk a b d)) (cond (a==8) (k.cE b d) (k.fk a b d))
def aaR(k:lD)(a:aN.D)(d:aA.D):Option (jq):=(Bl (a,())).bind fun v1=>(ea (v1.1,())).bind fun b=>some (b.1,v1.2.1,())
def aaS(k:lD)(a:Int)(b:aN.D)(d:aA.D):Option (jq):=cond (a==9) ((Bm (b,())).bind fun v1=>(ea (v1.1,())).bind fun h=>some (h.1,v1.2.1,())) (cond (a==12) ((Bp (b,())).bind fun e=>(ea (e.1,())).bind fun v4=>some (v4.1,e.2.1,())) (cond (a==4) ((Bq (b,())).bind fun g=>some (g.1,g.2.1,())) (cond (a==5) (cond (a==5) (k.gj b d) (k.jr a b d)) (cond (a==6) (cond (a==6) (k.gj b d) (k.jr a b d)) (cond (a==7) (k.gj b d) (k.jr a b d))))))
def aaT(k:lD)(a:aN.D)(d:aA.D):Option (jq):=(Bt (a,())).bind fun v1=>(ea (v1.1,())).bind fun b=>some (b.1,v1.2.1,())
def aaU(k:lD)(a:Int)(b:aN.D)(d:aA.D):Option (jq):=cond (a==11) ((Bu (b,())).bind fun v1=>some (v1.1,v1.2.1,())) (cond (a==13) (cond (a==13) ((w8 (b,())).bind fun e=>some (e.1,e.2.1,())) (k.nd a b d)) (cond (a==20) ((w8 (b,())).bind fun g=>some (g.1,g.2.1,())) (k.nd a b d)))
def aaV(k:lD)(b:Int)(a:aN.D)(l:aA.D):Option (jq):=cond (b==14) ((w9 (a,())).bind fun v1=>some (v1.1,v1.2.1,())) (cond (b==15) ((BF (a,())).bind fun d=>(ea (d.1,())).bind fun e=>some (e.1,d.2.1,())) (cond (b==16) ((BI (a,())).bind fun v4=>(ea (v4.1,())).bind fun g=>some (g.1,v4.2.1,())) (cond (b==17) ((BJ (a,())).bind fun v6=>(ea (v6.1,())).bind fun h=>some (h.1,v6.2.1,())) (cond (b==18) ((p4 (a.1,())).bind fun i=>(ov ([(a.1.2.1.length:Int),i.1],())).bind fun j=>some ((0,j.1,()),a,())) ((BL (a,())).bind fun v10=>(ea (v10.1,())).bind fun v11=>some (v11.1,v10.2.1,()))))))
def Ri(k:lD):lD:=⟨aaP k,aaQ k,aaR k,aaS k,aaT k,aaU k,aaV k⟩
def JD:Nat->lD:=dF Ri ⟨fun _ _=>none,fun _ _ _=>none,fun _ _=>none,fun _ _ _=>none,fun _ _=>none,fun _ _ _=>none,fun _ _ _=>none⟩
def BN(x:aN.D×Unit):Option (jq):=BM (JD aC) x.1
abbrev Rj:Type:=ad.D×aA.D×Unit
def JE(a:ad.D)(d:aM.D)(b:aL.D):Option (Rj):=(uP (d,())).bind fun v1=>cond (!v1.1) ((oi (a,())).bind fun e=>(ea (22,())).bind fun g=>some (e.1,g.1,())) ((r6 (b,())).bind fun v4=>cond (!v4.1) ((oi (a,())).bind fun h=>(ea (22,())).bind fun v6=>some (h.1,v6.1,())) (cond (decide (b.1>20)) ((oi (a,())).bind fun i=>(ea (22,())).bind fun j=>some (i.1,j.1,())) ((oi (a,())).bind fun k=>(BN ((k.1,d,b,()),())).bind fun v10=>cond (v10.1.1 != 0) ((oi (a,())).bind fun v11=>some (v11.1,v10.1,())) (some (v10.2.1.1,v10.1,())))))
def w_(x:ad.D×aM.D×aL.D×Unit):Option (Rj):=JE x.1 x.2.1 x.2.2.1
abbrev oz:Type:=aA.D×ak.D×Unit
structure qf where
 c4:ak.D->aL.D->aA.D->aM.D->Option (oz)
 eO:ak.D->aL.D->aA.D->aM.D->Option (oz)
 jr:ak.D->aL.D->aA.D->aM.D->Option (oz)
def BO(k:qf)(a:ak.D)(g:Int)(b:aL.D):Option (oz):=(r6 (b,())).bind fun v1=>cond (!v1.1) ((ea (22,())).bind fun h=>some (h.1,a,())) ((IE (a.2.1,b.1,())).bind fun d=>cond (!d.2.1) ((ea (11,())).bind fun v4=>some (v4.1,a,())) ((IG (g,())).bind fun e=>cond (b.1==21) (cond (e.1.1 != 0) ((ea (1,())).bind fun v6=>some (v6.1,(a.1,d.1,a.2.2.1,a.2.2.2.1,()),())) (k.c4 (a.1,d.1,a.2.2.1,a.2.2.2.1,()) b (0,[],()) e.1)) (cond (b.1==22) (cond (e.1.1 != 0) ((ea (1,())).bind fun i=>some (i.1,(a.1,d.1,a.2.2.1,a.2.2.2.1,()),())) (k.c4 (a.1,d.1,a.2.2.1,a.2.2.2.1,()) b (0,[],()) e.1)) (k.c4 (a.1,d.1,a.2.2.1,a.2.2.2.1,()) b (0,[],()) e.1))))
def uT(k:qf)(b:ak.D)(a:aL.D)(d:aA.D)(e:aM.D):Option (oz):=cond (a.1==21) (cond (decide (a.2.2.2.1<0)) ((ea (22,())).bind fun v1=>some (v1.1,b,())) (k.eO b a d e)) (k.eO b a d e)
def uU(k:qf)(a:ak.D)(b:aL.D)(d:aA.D)(e:aM.D):Option (oz):=cond (b.1==21) ((IJ (a.2.2.1,b.2.2.2.1,())).bind fun v1=>some ((0,v1.1,()),a,())) (cond (b.1==22) (some ((0,[],()),(a.1,a.2.1,[],a.2.2.2.1,()),())) ((wX (b.1,())).bind fun g=>cond (!g.1) (cond ((a.2.2.1.length:Int)==20) ((ea (28,())).bind fun h=>some (h.1,a,())) (k.jr a b d e)) (k.jr a b d e)))
def JF(k:qf)(a:ak.D)(b:aL.D)(e:aA.D)(d:aM.D):Option (oz):=both ((w_ (a.1,d,b,())).bind fun v1=>dup (some (v1.2.1,(v1.1,a.2.1,a.2.2.1,a.2.2.2.1,()),()))) (dup (dup ((w_ (a.1,d,b,())).bind fun v1=>some (v1.2.1,(v1.1,a.2.1,a.2.2.1,a.2.2.2.1,()),()))))
def Rk(k:qf):qf:=⟨uT k,uU k,JF k⟩
def kr:Nat->qf:=dF Rk ⟨fun _ _ _ _=>none,fun _ _ _ _=>none,fun _ _ _ _=>none⟩
def BP(x:ak.D×Int×aL.D×Unit):Option (oz):=BO (kr aC) x.1 x.2.1 x.2.2.1
abbrev kY:Type:=aA.D×Bool×ak.D×Unit
structure oA where
 c4:Int->Int->Int->Bool->ak.D->aL.D->aA.D->aA.D->Option (kY)
 cn:Int->Int->Int->ak.D->aL.D->aA.D->aA.D->Option (kY)
 eO:Int->Int->Int->ak.D->aA.D->aA.D->Option (kY)
def BQ(k:oA)(a:ak.D)(b:Int)(d:Int)(e:aL.D)(g:Int):Option (kY):=(cT (b,1,3,())).bind fun v1=>cond (!v1.1) (some ((0,[],()),false,a,())) ((cT (d,1,1000000,())).bind fun i=>cond (!i.1) (some ((0,[],()),false,a,())) ((cT (g,1,100000,())).bind fun j=>cond (!j.1) (some ((0,[],()),false,a,())) ((Iy (a,g,())).bind fun v4=>cond v4.1 (some ((0,[],()),false,a,())) ((wW (a,b,())).bind fun h=>cond (d==h.1.2.1) (some (h.1.2.2.2.1,false,a,())) (cond (d != aj (h.1.2.1+1)) (some ((0,[],()),false,a,())) ((BP (a,b,e,())).bind fun v6=>cond (e.1==22) (k.c4 b d g (v6.1.1==0) v6.2.1 e (0,[],()) v6.1) (k.c4 b d g false v6.2.1 e (0,[],()) v6.1)))))))
def JG(k:oA)(d:Int)(e:Int)(g:Int)(j:Bool)(a:ak.D)(i:aL.D)(h:aA.D)(b:aA.D):Option (kY):=cond (decide ((a.2.2.1.length:Int)<20)) ((r6 (i,())).bind fun v1=>cond v1.1 ((wX (i.1,())).bind fun l=>cond (!l.1) (cond (!j) (k.cn d e g a i h b) (k.eO d e g a h b)) (cond (b.1 != 0) (cond (!j) (k.cn d e g a i h b) (k.eO d e g a h b)) (k.eO d e g a h b))) (k.eO d e g a h b)) (k.eO d e g a h b)
def aaW(k:oA)(b:Int)(d:Int)(e:Int)(a:ak.D)(g:aA.D)(h:aA.D)(v1:List aG.D):Option (kY):=k.eO b d e (a.1,a.2.1,v1,a.2.2.2.1,()) g h
def JH(k:oA)(a:Int)(b:Int)(d:Int)(e:ak.D)(h:aL.D)(i:aA.D)(g:aA.D):Option (kY):=cond (room (e.2.2.1.length+[(d,a,b,h.1,g.1,())].length)) (aaW k a b d e i g (e.2.2.1++[(d,a,b,h.1,g.1,())])) (none)
def aaX(b:aA.D)(a:ak.D)(d:List aK.D):Option (kY):=some (b,true,(a.1,a.2.1,a.2.2.1,d,()),())
def aaY(b:aA.D)(a:ak.D)(d:List aK.D):Option (kY):=some (b,true,(a.1,a.2.1,a.2.2.1,d,()),())
def Rl(a:ak.D)(v4:Nat×Nat)(b:aA.D)(v6:List aK.D):Option (kY):=cond (room ((part a.2.2.2.1 (0+v4.1) (v4.2-v4.1)).length+v6.length)) (aaY b a ((part a.2.2.2.1 (0+v4.1) (v4.2-v4.1))++v6)) (none)
def JI(k:oA)(e:Int)(g:Int)(h:Int)(a:ak.D)(j:aA.D)(d:aA.D):Option (kY):=(AQ (a,e,())).bind fun v1=>cond v1.2.1 ((ax a.2.2.2.1.length v1.1).bind fun i=>aaX d a (a.2.2.2.1.set (0+i) (e,g,h,d,()))) (cond (decide (v1.1=v1.1)) ((cZ a.2.2.2.1.length 0 v1.1).bind fun v4=>(cZ a.2.2.2.1.length v1.1 (a.2.2.2.1.length:Int)).bind fun b=>cond (room ([(e,g,h,d,())].length +(part a.2.2.2.1 (0+b.1) (b.2-b.1)).length)) (Rl a v4 d ([(e,g,h,d,())]++(part a.2.2.2.1 (0+b.1) (b.2-b.1)))) (none)) (none))
def Rm(k:oA):oA:=⟨JG k,JH k,JI k⟩
def oB:Nat->oA:=dF Rm ⟨fun _ _ _ _ _ _ _ _=>none,fun _ _ _ _ _ _ _=>none,fun _ _ _ _ _ _=>none⟩
def uV(x:ak.D×Int×Int×aL.D×Int×Unit):Option (kY):=BQ (oB aC) x.1 x.2.1 x.2.2.1 x.2.2.2.1 x.2.2.2.2.1
abbrev BR:Type:=(af)->Int->Int->Option (Int×Int×Unit)
def BS(k3:BR)(a:af):Option (Int×Int×Unit):=k3 a 0 0
def BT(k3:BR)(b:af)(d:Int)(a:Int):Option (Int×Int×Unit):=cond (decide (a<(b.length:Int))) (cond (decide (a<7)) ((ax b.length a).bind fun v1=>cond (decide (0<=aj (7*a))) (cond (decide (aj (((b.getD v1 0).toNat:Int))>127)) (k3 b (cJ .or .i64 d (IntKind.wrap .i64 (cJ .and .i64 (aj (((b.getD v1 0).toNat:Int))) 127*2^min (aj (7*a)).toNat 64))) (aj (a+1))) (cond (aj (((b.getD v1 0).toNat:Int))==0) (cond (decide (a>0)) (some (0,0,())) (some (cJ .or .i64 d (IntKind.wrap .i64 (cJ .and .i64 (aj (((b.getD v1 0).toNat:Int))) 127*2^min (aj (7*a)).toNat 64)),aj (a+1),()))) (some (cJ .or .i64 d (IntKind.wrap .i64 (cJ .and .i64 (aj (((b.getD v1 0).toNat:Int))) 127*2^min (aj (7*a)).toNat 64)),aj (a+1),())))) (none)) (some (0,0,()))) (some (0,0,()))
def sh:Nat->BR|0,_,_,_=>none|m+1,a,b,d=>BT (sh m) a b d
def JJ(x:(af)×Unit):Option (Int×Int×Unit):=BS (sh aC) x.1
abbrev Rn:Type:=Int×i'.D×Unit
def si(a:i'.D):Option (Rn):=(JJ (a.1,())).bind fun v1=>cond a.2.1 (some (0,(a.1,true,()),())) (cond (v1.2.1==0) (some (0,(a.1,true,()),())) ((cZ a.1.length v1.2.1 (a.1.length:Int)).bind fun b=>some (v1.1,(part a.1 b.1 (b.2-b.1),a.2.1,()),())))
def oC(x:i'.D×Unit):Option (Rn):=si x.1
abbrev Ro:Type:=(af)×i'.D×Unit
def xa(a:i'.D)(b:Int):Option (Ro):=cond a.2.1 (some ([],(a.1,true,()),())) (cond (decide (b >(a.1.length:Int))) (some ([],(a.1,true,()),())) ((cZ a.1.length 0 b).bind fun v1=>(cZ a.1.length b (a.1.length:Int)).bind fun d=>some (part a.1 v1.1 (v1.2-v1.1),(part a.1 d.1 (d.2-d.1),a.2.1,()),())))
def uW(x:i'.D×Int×Unit):Option (Ro):=xa x.1 x.2.1
abbrev Rp:Type:=(af)×i'.D×Unit
def JK(b:i'.D):Option (Rp):=(oC (b,())).bind fun v1=>(uW (v1.2.1,v1.1,())).bind fun a=>some (a.1,a.2.1,())
def sj(x:i'.D×Unit):Option (Rp):=JK x.1
def JL(a:Int):Option (Int×Unit):=cond (Int.tmod a 2==1) (some (aj (Int.tdiv (aj (0-(aj (a+1)))) 2),())) (some (aj (Int.tdiv a 2),()))
def BU(x:Int×Unit):Option (Int×Unit):=JL x.1
abbrev Rq:Type:=aL.D×Bool×Unit
def JM(h:af):Option (Rq):=(oC ((h,false,()),())).bind fun v1=>(sj (v1.2.1,())).bind fun b=>(sj (b.2.1,())).bind fun d=>(oC (d.2.1,())).bind fun v4=>(BU (v4.1,())).bind fun e=>(oC (v4.2.1,())).bind fun v6=>(BU (v6.1,())).bind fun g=>(sj (v6.2.1,())).bind fun a=>cond a.2.1.2.1 (some ((0,[],[],0,0,[],()),false,())) (cond (!(bm a.2.1.1 [])) (some ((0,[],[],0,0,[],()),false,())) ((r6 ((v1.1,b.1,d.1,e.1,g.1,a.1,()),())).bind fun i=>cond (!i.1) (some ((0,[],[],0,0,[],()),false,())) (some ((v1.1,b.1,d.1,e.1,g.1,a.1,()),true,()))))
def JN(x:(af)×Unit):Option (Rq):=JM x.1
def JO(a:aB.D):Option (Bool×Unit):=(cT (a.1,0,2,())).bind fun v1=>cond v1.1 ((cT (a.2.1,1,3,())).bind fun b=>cond b.1 ((cT (a.2.2.1,1,1000000,())).bind fun d=>cond d.1 ((r6 (a.2.2.2.1,())).bind fun v4=>some (v4.1,())) (some (false,()))) (some (false,()))) (some (false,()))
def JP(x:aB.D×Unit):Option (Bool×Unit):=JO x.1
structure sk where
 k3:(List aB.D)->Int->Int->(List aB.D)->Int->Int->Option (Bool×Unit)
 cE:(List aB.D)->Int->Int->Int->(List aB.D)->Int->Int->aB.D->Option (Bool×Unit)
def BV(k:sk)(a:List aB.D)(b:Int):Option (Bool×Unit):=k.k3 a b 0 a (a.length:Int) 0
def xb(k:sk)(d:List aB.D)(g:Int)(h:Int)(b:List aB.D)(e:Int)(a:Int):Option (Bool×Unit):=cond (decide (a<e)) ((ax b.length a).bind fun v1=>cond (decide (a>0)) ((ax d.length (aj (a-1))).bind fun i=>cond ((I aB d i).1 !=(I aB b v1).1) (k.cE d g 1 a b e a (I aB b v1)) (k.cE d g (aj (h+1)) a b e a (I aB b v1))) (k.cE d g (aj (h+1)) a b e a (I aB b v1))) (some (true,()))
def BW(k:sk)(a:List aB.D)(b:Int)(d:Int)(e:Int)(g:List aB.D)(h:Int)(i:Int)(j:aB.D):Option (Bool×Unit):=(JP (j,())).bind fun v1=>cond (!v1.1) (some (false,())) (cond (decide (e>0)) ((ax a.length (aj (e-1))).bind fun l=>cond (decide ((I aB a l).1>j.1)) (some (false,())) (cond (decide (d>b)) (some (false,())) (k.k3 a b d g h (aj (i+1))))) (cond (decide (d>b)) (some (false,())) (k.k3 a b d g h (aj (i+1)))))
def Rr(k:sk):sk:=⟨xb k,BW k⟩
def nf:Nat->sk:=dF Rr ⟨fun _ _ _ _ _ _=>none,fun _ _ _ _ _ _ _ _=>none⟩
def BX(x:(List aB.D)×Int×Unit):Option (Bool×Unit):=BV (nf aC) x.1 x.2.1
def JQ(a:List aB.D):Option (Bool×Unit):=(BX (a,2,())).bind fun v1=>some (v1.1,())
def BY(x:(List aB.D)×Unit):Option (Bool×Unit):=JQ x.1
abbrev xc:Type:=(List aB.D)×Bool×Unit
abbrev BZ:Type:=i'.D->(List aB.D)->Option (xc)
def B0(a_:BZ)(a:af):Option (xc):=cond (bm a []) (some ([],false,())) ((ax a.length 0).bind fun v1=>cond (((a.getD v1 0).toNat:Int) != 102) (some ([],false,())) ((cZ a.length 1 (a.length:Int)).bind fun b=>a_ (part a b.1 (b.2-b.1),false,()) []))
def ng(a_:BZ)(b:i'.D)(a:List aB.D):Option (xc):=cond (!(bm b.1 [])) (cond (!b.2.1) ((oC (b,())).bind fun v1=>(oC (v1.2.1,())).bind fun d=>(oC (d.2.1,())).bind fun e=>(sj (e.2.1,())).bind fun v4=>(JN (v4.1,())).bind fun g=>cond v4.2.1.2.1 (cond (room (a.length+[(v1.1,d.1,e.1,g.1,())].length)) (a_ (v4.2.1.1,true,()) (a++[(v1.1,d.1,e.1,g.1,())])) (none)) (cond (room (a.length+[(v1.1,d.1,e.1,g.1,())].length)) (a_ (v4.2.1.1,!g.2.1,()) (a++[(v1.1,d.1,e.1,g.1,())])) (none))) (cond b.2.1 (some ([],false,())) ((BY (a,())).bind fun v6=>cond (!v6.1) (some ([],false,())) (some (a,true,()))))) (cond b.2.1 (some ([],false,())) ((BY (a,())).bind fun h=>cond (!h.1) (some ([],false,())) (some (a,true,()))))
def nh:Nat->BZ|0,_,_=>none|m+1,a,b=>ng (nh m) a b
def JR(x:(af)×Unit):Option (xc):=B0 (nh aC) x.1
def JS(a:Int):Option (Int×Unit):=cond (decide (a<0)) (some (4,())) (cond (decide (a>26)) (some (30,())) (some (aj (a+4),())))
def JT(x:Int×Unit):Option (Int×Unit):=JS x.1
def JU(b:ak.D)(d:Int)(a:Int):Option (bh.D×Unit):=(wW (b,a,())).bind fun v1=>some ((d,a,v1.1.2.1,v1.1.2.2.1,v1.1.2.2.2.1,()),())
def B1(x:ak.D×Int×Int×Unit):Option (bh.D×Unit):=JU x.1 x.2.1 x.2.2.1
abbrev qg:Type:=(List bh.D)×(List ak.D)×Unit
structure qh where
 a_:Int->Int->Int->(List ak.D)->(List aB.D)->Option (qg)
 cn:Int->Int->Int->(List ak.D)->(List bh.D)->(List aB.D)->Option (qg)
def B2(k:qh)(a:List ak.D)(b:af)(d:Int):Option (qg):=(JR (b,())).bind fun v1=>cond (!v1.2.1) (some ([],a,())) (k.a_ d (a.length:Int) 0 a v1.1)
def Rs(k:qh)(a:Int)(b:Int)(d:Int)(e:List aB.D)(v4:List ak.D):Option (qg):=k.a_ a b (aj (d+1)) v4 e
def B3(k:qh)(g:Int)(h:Int)(b:Int)(a:List ak.D)(e:List aB.D):Option (qg):=cond (decide (b<h)) ((ax a.length b).bind fun v1=>(JT ((I ak a (0+v1)).2.1,())).bind fun i=>(ax a.length b).bind fun d=>Rs k g h b e (a.set (0+d) ((I ak a (0+d)).1,i.1,(I ak a (0+d)).2.2.1,(I ak a (0+d)).2.2.2.1,()))) (k.cn g (e.length:Int) 0 a ([]:List bh.D) e)
def B4(k:qh)(i:Int)(j:Int)(h:Int)(d:List ak.D)(g:List bh.D)(a:List aB.D):Option (qg):=cond (decide (h<j)) ((ax a.length h).bind fun v1=>(ax d.length ((I aB a (0+v1)).1)).bind fun b=>(uV (I ak d (0+b),(I aB a (0+v1)).2.1,(I aB a (0+v1)).2.2.1,(I aB a (0+v1)).2.2.2.1,i,())).bind fun e=>cond e.2.1 ((B1 (I ak (d.set (0+b) e.2.2.1) (0+b),(I aB a (0+v1)).1,(I aB a (0+v1)).2.1,())).bind fun v4=>cond (room (g.length+[v4.1].length)) (k.cn i j (aj (h+1)) (d.set (0+b) e.2.2.1) (g++[v4.1]) a) (none)) ((wW (I ak (d.set (0+b) e.2.2.1) (0+b),(I aB a (0+v1)).2.1,())).bind fun l=>cond (l.1.2.1 ==(I aB a (0+v1)).2.2.1) ((B1 (I ak (d.set (0+b) e.2.2.1) (0+b),(I aB a (0+v1)).1,(I aB a (0+v1)).2.1,())).bind fun v6=>cond (room (g.length+[v6.1].length)) (k.cn i j (aj (h+1)) (d.set (0+b) e.2.2.1) (g++[v6.1]) a) (none)) (k.cn i j (aj (h+1)) (d.set (0+b) e.2.2.1) g a))) (some (g,d,()))
def Rt(k:qh):qh:=⟨B3 k,B4 k⟩
def ni:Nat->qh:=dF Rt ⟨fun _ _ _ _ _=>none,fun _ _ _ _ _ _=>none⟩
def JV(x:(List ak.D)×(af)×Int×Unit):Option (qg):=B2 (ni aC) x.1 x.2.1 x.2.2.1
abbrev Ru:Type:=(List ak.D)×(List bh.D)×Unit
def JW(a:List ak.D)(d:af)(e:Int):Option (Ru):=(Iu (a,())).bind fun v1=>cond (!v1.1) (some ([],[],())) ((Ix (a,())).bind fun g=>(JV (g.1,d,e,())).bind fun b=>some (b.2.1,b.1,()))
def xd(x:(List ak.D)×(af)×Int×Unit):Option (Ru):=JW x.1 x.2.1 x.2.2.1
def JX(a:ar.D)(b:Int):Option (Int×Unit):=cond (decide (aj (b-(a.1.length:Int))<0)) (some ((-1),())) (some (aj (b-(a.1.length:Int)),()))
def JY(x:ar.D×Int×Unit):Option (Int×Unit):=JX x.1 x.2.1
abbrev B5:Type:=(List ar.D)->Int->Int->Option (Int×Unit)
def B6(a_:B5)(a:List ar.D)(b:Int):Option (Int×Unit):=cond (decide (aj (b-(a.length:Int))<0)) (some ((-1),())) (a_ a (aj (b-(a.length:Int))) 0)
def B7(a_:B5)(a:List ar.D)(d:Int)(b:Int):Option (Int×Unit):=cond (decide (b<(a.length:Int))) ((ax a.length b).bind fun v1=>(JY (I ar a v1,d,())).bind fun e=>cond (decide (e.1<0)) (some ((-1),())) (a_ a e.1 (aj (b+1)))) (some (d,()))
def sm:Nat->B5|0,_,_,_=>none|m+1,a,b,d=>B7 (sm m) a b d
def JZ(x:(List ar.D)×Int×Unit):Option (Int×Unit):=B6 (sm aC) x.1 x.2.1
def J0(a:J.D)(b:Int):Option (Int×Unit):=cond (decide (aj (b-(a.2.2.2.2.2.1.length:Int))<0)) (some ((-1),())) ((JZ (a.2.2.2.2.2.2.1,aj (b-(a.2.2.2.2.2.1.length:Int)),())).bind fun v1=>cond (decide (v1.1<0)) (some ((-1),())) (some (v1.1,())))
def J1(x:J.D×Int×Unit):Option (Int×Unit):=J0 x.1 x.2.1
abbrev B8:Type:=(List J.D)->Int->Int->Option (Int×Unit)
def B9(a_:B8)(a:List J.D)(b:Int):Option (Int×Unit):=cond (decide (aj (b-(a.length:Int))<0)) (some ((-1),())) (a_ a (aj (b-(a.length:Int))) 0)
def B_(a_:B8)(a:List J.D)(d:Int)(b:Int):Option (Int×Unit):=cond (decide (b<(a.length:Int))) ((ax a.length b).bind fun v1=>(J1 (I J a v1,d,())).bind fun e=>cond (decide (e.1<0)) (some ((-1),())) (a_ a e.1 (aj (b+1)))) (some (d,()))
def sn:Nat->B8|0,_,_,_=>none|m+1,a,b,d=>B_ (sn m) a b d
def J2(x:(List J.D)×Int×Unit):Option (Int×Unit):=B9 (sn aC) x.1 x.2.1
def J3(a:ad.D)(b:Int):Option (Int×Unit):=(J2 (a.2.1,b,())).bind fun v1=>cond (decide (v1.1<0)) (some ((-1),())) (some (v1.1,()))
def J4(x:ad.D×Int×Unit):Option (Int×Unit):=J3 x.1 x.2.1
def J5(a:List aG.D)(b:Int):Option (Int×Unit):=cond (decide (aj (b-(a.length:Int))<0)) (some ((-1),())) (some (aj (b-(a.length:Int)),()))
def J6(x:(List aG.D)×Int×Unit):Option (Int×Unit):=J5 x.1 x.2.1
def J7(a:aA.D)(b:Int):Option (Int×Unit):=cond (decide (aj (b-(a.2.1.length:Int))<0)) (some ((-1),())) (some (aj (b-(a.2.1.length:Int)),()))
def J8(x:aA.D×Int×Unit):Option (Int×Unit):=J7 x.1 x.2.1
def J9(a:aK.D)(b:Int):Option (Int×Unit):=(J8 (a.2.2.2.1,b,())).bind fun v1=>cond (decide (v1.1<0)) (some ((-1),())) (some (v1.1,()))
def J_(x:aK.D×Int×Unit):Option (Int×Unit):=J9 x.1 x.2.1
abbrev B':Type:=(List aK.D)->Int->Int->Option (Int×Unit)
def Ca(a_:B')(a:List aK.D)(b:Int):Option (Int×Unit):=cond (decide (aj (b-(a.length:Int))<0)) (some ((-1),())) (a_ a (aj (b-(a.length:Int))) 0)
def Cb(a_:B')(a:List aK.D)(d:Int)(b:Int):Option (Int×Unit):=cond (decide (b<(a.length:Int))) ((ax a.length b).bind fun v1=>(J_ (I aK a v1,d,())).bind fun e=>cond (decide (e.1<0)) (some ((-1),())) (a_ a e.1 (aj (b+1)))) (some (d,()))
def so:Nat->B'|0,_,_,_=>none|m+1,a,b,d=>Cb (so m) a b d
def J'(x:(List aK.D)×Int×Unit):Option (Int×Unit):=Ca (so aC) x.1 x.2.1
def Ka(a:ak.D)(e:Int):Option (Int×Unit):=(J4 (a.1,e,())).bind fun v1=>cond (decide (v1.1<0)) (some ((-1),())) ((J6 (a.2.2.1,v1.1,())).bind fun b=>cond (decide (b.1<0)) (some ((-1),())) ((J' (a.2.2.2.1,b.1,())).bind fun d=>cond (decide (d.1<0)) (some ((-1),())) (some (d.1,()))))
def Kb(x:ak.D×Int×Unit):Option (Int×Unit):=Ka x.1 x.2.1
abbrev Cc:Type:=(List ak.D)->Int->Int->Option (Int×Unit)
def Cd(a_:Cc)(a:List ak.D)(b:Int):Option (Int×Unit):=cond (decide (aj (b-(a.length:Int))<0)) (some ((-1),())) (a_ a (aj (b-(a.length:Int))) 0)
def Ce(a_:Cc)(a:List ak.D)(d:Int)(b:Int):Option (Int×Unit):=cond (decide (b<(a.length:Int))) ((ax a.length b).bind fun v1=>(Kb (I ak a v1,d,())).bind fun e=>cond (decide (e.1<0)) (some ((-1),())) (a_ a e.1 (aj (b+1)))) (some (d,()))
def sq:Nat->Cc|0,_,_,_=>none|m+1,a,b,d=>Ce (sq m) a b d
def Kc(x:(List ak.D)×Int×Unit):Option (Int×Unit):=Cd (sq aC) x.1 x.2.1
def Kd(a:Int)(b:Int)(d:Int):Option (Bool×Unit):=cond (decide (a>=b)) (some (decide (a<=d),())) (some (false,()))
def cH(x:Int×Int×Int×Unit):Option (Bool×Unit):=Kd x.1 x.2.1 x.2.2.1
def Ke(a:Int):Option (Bool×Unit):=cond (decide (a>=97)) (cond (decide (a<=122)) (some (true,())) (cond (decide (a>=48)) (cond (decide (a<=57)) (some (true,())) (cond (a==46) (some (true,())) (cond (a==95) (some (true,())) (some (a==45,()))))) (cond (a==46) (some (true,())) (cond (a==95) (some (true,())) (some (a==45,())))))) (cond (decide (a>=48)) (cond (decide (a<=57)) (some (true,())) (cond (a==46) (some (true,())) (cond (a==95) (some (true,())) (some (a==45,()))))) (cond (a==46) (some (true,())) (cond (a==95) (some (true,())) (some (a==45,())))))
def xe(x:Int×Unit):Option (Bool×Unit):=Ke x.1
abbrev Cf:Type:=(af)->Int->Option (Bool×Unit)
def Cg(aZ:Cf)(a:af):Option (Bool×Unit):=(cH ((a.length:Int),1,60,())).bind fun v1=>cond (!v1.1) (some (false,())) (aZ a 0)
def Ch(aZ:Cf)(a:af)(b:Int):Option (Bool×Unit):=cond (decide (b<(a.length:Int))) ((ax a.length b).bind fun v1=>cond (((a.getD v1 0).toNat:Int) != 47) ((ax a.length b).bind fun d=>(xe (((a.getD d 0).toNat:Int),())).bind fun e=>cond (!e.1) (some (false,())) (aZ a (aj (b+1)))) (aZ a (aj (b+1)))) (some (true,()))
def sr:Nat->Cf|0,_,_=>none|m+1,a,b=>Ch (sr m) a b
def xf(x:(af)×Unit):Option (Bool×Unit):=Cg (sr aC) x.1
abbrev Ci:Type:=(af)->Int->Option (Bool×Unit)
def Cj(aZ:Ci)(a:af):Option (Bool×Unit):=(cH ((a.length:Int),1,8,())).bind fun v1=>cond (!v1.1) (some (false,())) (cond (bm a ([46]:af)) (some (false,())) (cond (bm a ([46,46]:af)) (some (false,())) (aZ a 0)))
def Ck(aZ:Ci)(a:af)(b:Int):Option (Bool×Unit):=cond (decide (b<(a.length:Int))) ((ax a.length b).bind fun v1=>(xe (((a.getD v1 0).toNat:Int),())).bind fun d=>cond (!d.1) (some (false,())) (aZ a (aj (b+1)))) (some (true,()))
def qi:Nat->Ci|0,_,_=>none|m+1,a,b=>Ck (qi m) a b
def Kf(x:(af)×Unit):Option (Bool×Unit):=Cj (qi aC) x.1
abbrev Cl:Type:=Int->Int->ad.D->Option (Int×Unit)
def Cm(k2:Cl)(a:ad.D)(b:Int):Option (Int×Unit):=k2 b 0 a
def Cn(k2:Cl)(d:Int)(a:Int)(b:ad.D):Option (Int×Unit):=cond (decide (a<(b.2.1.length:Int))) ((ax b.2.1.length a).bind fun v1=>cond ((I J b.2.1 v1).1==d) (some (a,())) (k2 d (aj (a+1)) b)) (some ((-1),()))
def su:Nat->Cl|0,_,_,_=>none|m+1,a,b,d=>Cn (su m) a b d
def j7(x:ad.D×Int×Unit):Option (Int×Unit):=Cm (su aC) x.1 x.2.1
structure sv where
 aZ:Bool->ad.D->J.D->Option (Bool×Unit)
 kX:Int->ad.D->J.D->Option (Bool×Unit)
def Co(k:sv)(b:ad.D)(a:J.D):Option (Bool×Unit):=(cH (a.2.2.1,0,2047,())).bind fun v1=>cond (!v1.1) (some (false,())) ((cH (a.2.2.2.1,0,1000,())).bind fun d=>cond (!d.1) (some (false,())) ((cH (a.2.2.2.2.1,0,1000,())).bind fun e=>cond (!e.1) (some (false,())) (cond ((a.2.2.2.2.2.2.1.length:Int)==0) (cond (a.2.2.2.2.2.2.2.1==0) (k.aZ (a.2.2.2.2.2.2.2.2.1==0) b a) (k.aZ false b a)) (k.aZ false b a))))
def Kg(k:sv)(b:Bool)(d:ad.D)(a:J.D):Option (Bool×Unit):=cond (a.2.1==1) (cond b (some (decide ((a.2.2.2.2.2.1.length:Int)<=64),())) (some (false,()))) (cond (a.2.1==3) (cond b ((xf (a.2.2.2.2.2.1,())).bind fun v1=>cond v1.1 (some (a.2.2.1==511,())) (some (false,()))) (some (false,()))) (cond (a.2.1==2) (cond (!(bm a.2.2.2.2.2.1 [])) (some (false,())) (cond (decide ((a.2.2.2.2.2.2.1.length:Int)>12)) (some (false,())) ((cH (a.2.2.2.2.2.2.2.1,0,400,())).bind fun e=>cond (!e.1) (some (false,())) ((cH (a.2.2.2.2.2.2.2.2.1,0,24,())).bind fun g=>cond (!g.1) (some (false,())) (k.kX 0 d a))))) (some (false,()))))
def xg(k:sv)(b:Int)(d:ad.D)(a:J.D):Option (Bool×Unit):=cond (decide (b<(a.2.2.2.2.2.2.1.length:Int))) ((ax a.2.2.2.2.2.2.1.length b).bind fun v1=>(Kf ((I ar a.2.2.2.2.2.2.1 v1).1,())).bind fun e=>cond (!e.1) (some (false,())) (cond (decide (b>0)) ((ax a.2.2.2.2.2.2.1.length (aj (b-1))).bind fun g=>cond (!(dr ((I ar a.2.2.2.2.2.2.1 g).1) ((I ar a.2.2.2.2.2.2.1 v1).1))) (some (false,())) (cond ((I ar a.2.2.2.2.2.2.1 v1).2.1==1) (some (false,())) ((j7 (d,(I ar a.2.2.2.2.2.2.1 v1).2.1,())).bind fun v4=>cond (decide (v4.1<0)) (some (false,())) (k.kX (aj (b+1)) d a)))) (cond ((I ar a.2.2.2.2.2.2.1 v1).2.1==1) (some (false,())) ((j7 (d,(I ar a.2.2.2.2.2.2.1 v1).2.1,())).bind fun h=>cond (decide (h.1<0)) (some (false,())) (k.kX (aj (b+1)) d a))))) (some (true,()))
def Rv(k:sv):sv:=⟨Kg k,xg k⟩
def oD:Nat->sv:=dF Rv ⟨fun _ _ _=>none,fun _ _ _=>none⟩
def Cp(x:ad.D×J.D×Unit):Option (Bool×Unit):=Co (oD aC) x.1 x.2.1
structure oE where
 cE:Int->ad.D->(List Bool)->(List Bool)->Option ((List Bool)×Unit)
 cn:Int->Int->ad.D->(List Bool)->(List Bool)->Option ((List Bool)×Unit)
 nj:Int->Int->Int->ad.D->(List Bool)->(List Bool)->Option ((List Bool)×Unit)
def aaZ(k:oE)(a:ad.D)(b:List Bool):Option ((List Bool)×Unit):=k.cE 0 a (List.replicate (Int.toNat (a.2.1.length:Int)) (false:Bool)) b
def Cq(k:oE)(a:ad.D)(b:Int):Option ((List Bool)×Unit):=cond (decide (0<=(a.2.1.length:Int))&&decide ((a.2.1.length:Int)=(a.2.1.length:Int))&&room (Int.toNat (a.2.1.length:Int))) (cond (decide (0<=(a.2.1.length:Int))&&decide ((a.2.1.length:Int)=(a.2.1.length:Int))&&room (Int.toNat (a.2.1.length:Int))) ((j7 (a,b,())).bind fun v1=>cond (decide (v1.1<0)) (some (List.replicate (Int.toNat (a.2.1.length:Int)) (false:Bool),())) ((ax ((List.replicate (Int.toNat (a.2.1.length:Int)) (false:Bool)).length) v1.1).bind fun d=>aaZ k a ((List.replicate (Int.toNat (a.2.1.length:Int)) (false:Bool)).set (0+d) true))) (none)) (none)
def xh(k:oE)(a:Int)(b:ad.D)(d:List Bool)(e:List Bool):Option ((List Bool)×Unit):=cond (decide (a<(b.2.1.length:Int))) (k.cn a 0 b d e) (some (d,()))
def sw(k:oE)(e:Int)(b:Int)(d:ad.D)(g:List Bool)(a:List Bool):Option ((List Bool)×Unit):=cond (decide (b<(d.2.1.length:Int))) ((ax a.length b).bind fun v1=>cond (!(I U.bool a (0+v1))) (k.cn e (aj (b+1)) d g a) (k.nj e b 0 d g a)) (k.cE (aj (e+1)) d g a)
def xi(k:oE)(h:Int)(b:Int)(d:Int)(a:ad.D)(e:List Bool)(g:List Bool):Option ((List Bool)×Unit):=(ax a.2.1.length b).bind fun v1=>cond (decide (d<(((I J a.2.1 v1).2.2.2.2.2.2.1).length:Int))) ((ax a.2.1.length b).bind fun i=>(ax (((I J a.2.1 i).2.2.2.2.2.2.1).length) d).bind fun j=>(j7 (a,(I ar ((I J a.2.1 i).2.2.2.2.2.2.1) j).2.1,())).bind fun v4=>cond (decide (v4.1>=0)) ((ax e.length v4.1).bind fun l=>(ax g.length v4.1).bind fun v6=>k.nj h b (aj (d+1)) a (e.set (0+l) true) (g.set (0+v6) true)) (k.nj h b (aj (d+1)) a e g)) (k.cn h (aj (b+1)) a e g)
def Rw(k:oE):oE:=⟨xh k,sw k,xi k⟩
def js:Nat->oE:=dF Rw ⟨fun _ _ _ _=>none,fun _ _ _ _ _=>none,fun _ _ _ _ _ _=>none⟩
def Cr(x:ad.D×Int×Unit):Option ((List Bool)×Unit):=Cq (js aC) x.1 x.2.1
structure sx where
 k3:Int->Int->Int->ad.D->Option (Int×Unit)
 c7:Int->Int->Int->Int->ad.D->Option (Int×Unit)
def Cs(k:sx)(a:ad.D)(b:Int):Option (Int×Unit):=k.k3 b 0 0 a
def xj(k:sx)(e:Int)(a:Int)(b:Int)(d:ad.D):Option (Int×Unit):=cond (decide (b<(d.2.1.length:Int))) (k.c7 e a b 0 d) (some (a,()))
def xk(k:sx)(d:Int)(g:Int)(b:Int)(e:Int)(a:ad.D):Option (Int×Unit):=(ax a.2.1.length b).bind fun v1=>cond (decide (e<(((I J a.2.1 v1).2.2.2.2.2.2.1).length:Int))) ((ax a.2.1.length b).bind fun h=>(ax (((I J a.2.1 h).2.2.2.2.2.2.1).length) e).bind fun i=>cond ((I ar ((I J a.2.1 h).2.2.2.2.2.2.1) i).2.1==d) (k.c7 d (aj (g+1)) b (aj (e+1)) a) (k.c7 d g b (aj (e+1)) a)) (k.k3 d g (aj (b+1)) a)
def Rx(k:sx):sx:=⟨xj k,xk k⟩
def nk:Nat->sx:=dF Rx ⟨fun _ _ _ _=>none,fun _ _ _ _ _=>none⟩
def xl(x:ad.D×Int×Unit):Option (Int×Unit):=Cs (nk aC) x.1 x.2.1
abbrev Ct:Type:=Int->Int->ad.D->Option (Int×Unit)
def Cu(k3:Ct)(a:ad.D):Option (Int×Unit):=k3 0 0 a
def Cv(k3:Ct)(d:Int)(b:Int)(a:ad.D):Option (Int×Unit):=cond (decide (b<(a.2.1.length:Int))) ((ax a.2.1.length b).bind fun v1=>k3 (aj (d +(((I J a.2.1 v1).2.2.2.2.2.1).length:Int))) (aj (b+1)) a) (some (d,()))
def sy:Nat->Ct|0,_,_,_=>none|m+1,a,b,d=>Cv (sy m) a b d
def xm(x:ad.D×Unit):Option (Int×Unit):=Cu (sy aC) x.1
abbrev Cw:Type:=Int->Int->Int->ad.D->(List Bool)->Option (Int×Int×Unit)
def Cx(a_:Cw)(a:ad.D)(b:Int):Option (Int×Int×Unit):=(Cr (a,b,())).bind fun v1=>a_ 0 0 0 a v1.1
def Cy(a_:Cw)(e:Int)(g:Int)(a:Int)(d:ad.D)(b:List Bool):Option (Int×Int×Unit):=cond (decide (a<(b.length:Int))) ((ax b.length a).bind fun v1=>cond (I U.bool b (0+v1)) ((ax d.2.1.length a).bind fun h=>a_ (aj (e +(((I J d.2.1 h).2.2.2.2.2.1).length:Int))) (aj (g+1)) (aj (a+1)) d b) (a_ e g (aj (a+1)) d b)) (some (e,g,()))
def sA:Nat->Cw|0,_,_,_,_,_=>none|m+1,a,b,d,e,g=>Cy (sA m) a b d e g
def xn(x:ad.D×Int×Unit):Option (Int×Int×Unit):=Cx (sA aC) x.1 x.2.1
structure sB where
 k2:Int->ad.D->Option (Bool×Unit)
 c7:Int->ad.D->J.D->Option (Bool×Unit)
def Cz(k:sB)(a:ad.D):Option (Bool×Unit):=k.k2 0 a
def xp(k:sB)(b:Int)(a:ad.D):Option (Bool×Unit):=cond (decide (b<(a.2.1.length:Int))) ((ax a.2.1.length b).bind fun v1=>cond ((I J a.2.1 v1).2.1 != 2) (k.k2 (aj (b+1)) a) (cond ((I J a.2.1 v1).2.2.2.2.2.2.2.1==0) (cond ((I J a.2.1 v1).2.2.2.2.2.2.2.2.1==0) (k.k2 (aj (b+1)) a) (k.c7 b a (I J a.2.1 v1))) (k.c7 b a (I J a.2.1 v1)))) (some (false,()))
def Kh(k:sB)(d:Int)(b:ad.D)(a:J.D):Option (Bool×Unit):=(xn (b,a.1,())).bind fun v1=>cond (decide (a.2.2.2.2.2.2.2.1>0)) (cond (decide (v1.1>a.2.2.2.2.2.2.2.1)) (some (true,())) (cond (decide (a.2.2.2.2.2.2.2.2.1>0)) (cond (decide (v1.2.1>a.2.2.2.2.2.2.2.2.1)) (some (true,())) (k.k2 (aj (d+1)) b)) (k.k2 (aj (d+1)) b))) (cond (decide (a.2.2.2.2.2.2.2.2.1>0)) (cond (decide (v1.2.1>a.2.2.2.2.2.2.2.2.1)) (some (true,())) (k.k2 (aj (d+1)) b)) (k.k2 (aj (d+1)) b))
def Ry(k:sB):sB:=⟨xp k,Kh k⟩
def jt:Nat->sB:=dF Ry ⟨fun _ _=>none,fun _ _ _=>none⟩
def CA(x:ad.D×Unit):Option (Bool×Unit):=Cz (jt aC) x.1
structure sC where
 aZ:Int->ad.D->Option (Bool×Unit)
 cn:Int->ad.D->(List Bool)->Option (Bool×Unit)
def CB(k:sC)(a:ad.D):Option (Bool×Unit):=(cH (a.1,2,100000,())).bind fun v1=>cond (!v1.1) (some (false,())) ((cH ((a.2.1.length:Int),1,24,())).bind fun b=>cond (!b.1) (some (false,())) ((ax a.2.1.length 0).bind fun d=>cond ((I J a.2.1 d).1 != 1) (some (false,())) ((ax a.2.1.length 0).bind fun v4=>cond ((I J a.2.1 v4).2.1 != 2) (some (false,())) (k.aZ 0 a))))
def sD(k:sC)(b:Int)(a:ad.D):Option (Bool×Unit):=cond (decide (b<(a.2.1.length:Int))) ((ax a.2.1.length b).bind fun v1=>(cH ((I J a.2.1 v1).1,1,aj (a.1-1),())).bind fun d=>cond (!d.1) (some (false,())) (cond (decide (b>0)) ((ax a.2.1.length (aj (b-1))).bind fun e=>cond (decide ((I J a.2.1 e).1>=(I J a.2.1 v1).1)) (some (false,())) ((Cp (a,I J a.2.1 v1,())).bind fun v4=>cond (!v4.1) (some (false,())) (k.aZ (aj (b+1)) a))) ((Cp (a,I J a.2.1 v1,())).bind fun g=>cond (!g.1) (some (false,())) (k.aZ (aj (b+1)) a)))) ((Cr (a,1,())).bind fun v6=>k.cn 1 a v6.1)
def sE(k:sC)(b:Int)(a:ad.D)(d:List Bool):Option (Bool×Unit):=cond (decide (b<(a.2.1.length:Int))) ((ax d.length b).bind fun v1=>cond (!(I U.bool d (0+v1))) (some (false,())) ((ax a.2.1.length b).bind fun e=>cond ((I J a.2.1 e).2.1==2) ((ax a.2.1.length b).bind fun g=>(xl (a,(I J a.2.1 g).1,())).bind fun v4=>cond (v4.1 != 1) (some (false,())) (k.cn (aj (b+1)) a d)) (k.cn (aj (b+1)) a d))) ((xm (a,())).bind fun h=>cond (decide (h.1<=400)) ((CA (a,())).bind fun v6=>some (!v6.1,())) (some (false,())))
def Rz(k:sC):sC:=⟨sD k,sE k⟩
def lE:Nat->sC:=dF Rz ⟨fun _ _=>none,fun _ _ _=>none⟩
def Ki(x:ad.D×Unit):Option (Bool×Unit):=CB (lE aC) x.1
abbrev CC:Type:=(List aG.D)->Int->Option (Bool×Unit)
def CD(aZ:CC)(a:List aG.D):Option (Bool×Unit):=cond (decide ((a.length:Int)>20)) (some (false,())) (aZ a 0)
def CE(aZ:CC)(a:List aG.D)(b:Int):Option (Bool×Unit):=cond (decide (b<(a.length:Int))) ((ax a.length b).bind fun v1=>(cH ((I aG a v1).1,1,100000,())).bind fun d=>cond (!d.1) (some (false,())) (cond (decide (b>0)) ((ax a.length (aj (b-1))).bind fun e=>cond (decide ((I aG a e).1 >(I aG a v1).1)) (some (false,())) ((cH ((I aG a v1).2.1,1,3,())).bind fun v4=>cond (!v4.1) (some (false,())) ((cH ((I aG a v1).2.2.1,1,1000000,())).bind fun g=>cond (!g.1) (some (false,())) ((cH ((I aG a v1).2.2.2.1,1,22,())).bind fun v6=>cond (!v6.1) (some (false,())) ((cH ((I aG a v1).2.2.2.2.1,0,200,())).bind fun h=>cond (!h.1) (some (false,())) (aZ a (aj (b+1)))))))) ((cH ((I aG a v1).2.1,1,3,())).bind fun i=>cond (!i.1) (some (false,())) ((cH ((I aG a v1).2.2.1,1,1000000,())).bind fun j=>cond (!j.1) (some (false,())) ((cH ((I aG a v1).2.2.2.1,1,22,())).bind fun v10=>cond (!v10.1) (some (false,())) ((cH ((I aG a v1).2.2.2.2.1,0,200,())).bind fun v11=>cond (!v11.1) (some (false,())) (aZ a (aj (b+1))))))))) (some (true,()))
def sF:Nat->CC|0,_,_=>none|m+1,a,b=>CE (sF m) a b
def CF(x:(List aG.D)×Unit):Option (Bool×Unit):=CD (sF aC) x.1
def Kj(a:aA.D):Option (Bool×Unit):=(cH (a.1,0,200,())).bind fun v1=>cond v1.1 (some (decide ((a.2.1.length:Int)<=400),())) (some (false,()))
def CG(x:aA.D×Unit):Option (Bool×Unit):=Kj x.1
abbrev CH:Type:=Int->ak.D->Option (Bool×Unit)
def CI(aZ:CH)(a:ak.D):Option (Bool×Unit):=(Ki (a.1,())).bind fun v1=>cond (!v1.1) (some (false,())) ((cH (a.2.1,0,30,())).bind fun b=>cond (!b.1) (some (false,())) ((CF (a.2.2.1,())).bind fun d=>cond (!d.1) (some (false,())) (cond (decide ((a.2.2.2.1.length:Int)>3)) (some (false,())) (aZ 0 a))))
def CJ(aZ:CH)(b:Int)(a:ak.D):Option (Bool×Unit):=cond (decide (b<(a.2.2.2.1.length:Int))) ((ax a.2.2.2.1.length b).bind fun v1=>(cH ((I aK a.2.2.2.1 v1).1,1,3,())).bind fun d=>cond (!d.1) (some (false,())) (cond (decide (b>0)) ((ax a.2.2.2.1.length (aj (b-1))).bind fun e=>cond (decide ((I aK a.2.2.2.1 e).1>=(I aK a.2.2.2.1 v1).1)) (some (false,())) ((cH ((I aK a.2.2.2.1 v1).2.1,1,1000000,())).bind fun v4=>cond (!v4.1) (some (false,())) ((cH ((I aK a.2.2.2.1 v1).2.2.1,1,100000,())).bind fun g=>cond (!g.1) (some (false,())) ((CG ((I aK a.2.2.2.1 v1).2.2.2.1,())).bind fun v6=>cond (!v6.1) (some (false,())) (aZ (aj (b+1)) a))))) ((cH ((I aK a.2.2.2.1 v1).2.1,1,1000000,())).bind fun h=>cond (!h.1) (some (false,())) ((cH ((I aK a.2.2.2.1 v1).2.2.1,1,100000,())).bind fun i=>cond (!i.1) (some (false,())) ((CG ((I aK a.2.2.2.1 v1).2.2.2.1,())).bind fun j=>cond (!j.1) (some (false,())) (aZ (aj (b+1)) a)))))) (some (true,()))
def qj:Nat->CH|0,_,_=>none|m+1,a,b=>CJ (qj m) a b
def Kk(x:ak.D×Unit):Option (Bool×Unit):=CI (qj aC) x.1
abbrev CK:Type:=(List ak.D)->Int->Option (Bool×Unit)
def CL(aZ:CK)(a:List ak.D):Option (Bool×Unit):=cond ((a.length:Int) != 3) (some (false,())) (aZ a 0)
def CM(aZ:CK)(a:List ak.D)(b:Int):Option (Bool×Unit):=cond (decide (b<(a.length:Int))) ((ax a.length b).bind fun v1=>(Kk (I ak a v1,())).bind fun d=>cond (!d.1) (some (false,())) (aZ a (aj (b+1)))) (some (true,()))
def sG:Nat->CK|0,_,_=>none|m+1,a,b=>CM (sG m) a b
def Kl(x:(List ak.D)×Unit):Option (Bool×Unit):=CL (sG aC) x.1
abbrev CN:Type:=aL.D->Option (Bool×Unit)
def CO(a_:CN)(a:aL.D):Option (Bool×Unit):=(cH (a.1,1,22,())).bind fun v1=>cond (!v1.1) (some (false,())) (cond (decide ((a.2.1.length:Int)>60)) (some (false,())) (cond (decide ((a.2.2.1.length:Int)>60)) (some (false,())) (cond (decide ((a.2.2.2.2.2.1.length:Int)>64)) (some (false,())) ((cH (a.2.2.2.1,(-1000000),1000000,())).bind fun b=>cond (!b.1) (some (false,())) ((cH (a.2.2.2.2.1,(-1000000),1000000,())).bind fun d=>cond (!d.1) (some (false,())) (cond (!(bm a.2.2.1 [])) (cond (a.1 != 9) (cond (a.1 != 10) (cond (a.1 != 12) (some (false,())) (a_ a)) (a_ a)) (a_ a)) (a_ a)))))))
def Km(a_:CN)(a:aL.D):Option (Bool×Unit):=cond (bm a.2.2.2.2.2.1 []) (some (true,())) (cond (a.1==5) (some (true,())) (some (a.1==6,())))
def xq:Nat->CN|0,_=>none|m+1,a=>Km (xq m) a
def sH(x:aL.D×Unit):Option (Bool×Unit):=CO (xq aC) x.1
def Kn(a:aB.D):Option (Bool×Unit):=(cH (a.1,0,2,())).bind fun v1=>cond v1.1 ((cH (a.2.1,1,3,())).bind fun b=>cond b.1 ((cH (a.2.2.1,1,1000000,())).bind fun d=>cond d.1 ((sH (a.2.2.2.1,())).bind fun v4=>some (v4.1,())) (some (false,()))) (some (false,()))) (some (false,()))
def Ko(x:aB.D×Unit):Option (Bool×Unit):=Kn x.1
abbrev CP:Type:=(List aB.D)->Int->Int->Option (Bool×Unit)
def CQ(k2:CP)(a:List aB.D)(b:Int):Option (Bool×Unit):=k2 a b 0
def CR(k2:CP)(a:List aB.D)(d:Int)(b:Int):Option (Bool×Unit):=cond (decide (b<(a.length:Int))) ((ax a.length b).bind fun v1=>(Ko (I aB a v1,())).bind fun e=>cond (!e.1) (some (false,())) (cond (decide (b>0)) ((ax a.length (aj (b-1))).bind fun g=>(ax a.length b).bind fun v4=>cond (decide ((I aB a g).1 >(I aB a v4).1)) (some (false,())) (cond (decide (b>=d)) ((ax a.length (aj (b-d))).bind fun h=>(ax a.length b).bind fun v6=>cond ((I aB a h).1 ==(I aB a v6).1) (some (false,())) (k2 a d (aj (b+1)))) (k2 a d (aj (b+1))))) (cond (decide (b>=d)) ((ax a.length (aj (b-d))).bind fun i=>(ax a.length b).bind fun j=>cond ((I aB a i).1 ==(I aB a j).1) (some (false,())) (k2 a d (aj (b+1)))) (k2 a d (aj (b+1)))))) (some (true,()))
def nm:Nat->CP|0,_,_,_=>none|m+1,a,b,d=>CR (nm m) a b d
def CS(x:(List aB.D)×Int×Unit):Option (Bool×Unit):=CQ (nm aC) x.1 x.2.1
def Kp(a:List aB.D):Option (Bool×Unit):=(CS (a,2,())).bind fun v1=>some (v1.1,())
def Kq(x:(List aB.D)×Unit):Option (Bool×Unit):=Kp x.1
abbrev xr:Type:=Int->(List Int)->Option ((af)×Unit)
def CT(aZ:xr)(a:Int):Option ((af)×Unit):=(cH (a,0,562949953421311,())).bind fun v1=>cond (!v1.1) (some ([],())) (aZ a [])
def RA(aZ:xr)(a:Int)(v1:List Int):Option ((af)×Unit):=aZ (aj (Int.tdiv a 128)) v1
def Kr(aZ:xr)(a:Int)(b:List Int):Option ((af)×Unit):=cond (decide (a>=128)) (cond (room (b.length+[IntKind.wrap .u8 (aj (128+Int.tmod a 128))].length)) (RA aZ a (b++[IntKind.wrap .u8 (aj (128+Int.tmod a 128))])) (none)) (cond (room (b.length+[IntKind.wrap .u8 (a)].length)) (some (ek (b++[IntKind.wrap .u8 (a)]),())) (none))
def uX:Nat->xr|0,_,_=>none|m+1,a,b=>Kr (uX m) a b
def nn(x:Int×Unit):Option ((af)×Unit):=CT (uX aC) x.1
def Ks(a:af):Option ((af)×Unit):=(nn ((a.length:Int),())).bind fun v1=>cond (room (v1.1.length+a.length)) (some (v1.1++a,())) (none)
def uY(x:(af)×Unit):Option ((af)×Unit):=Ks x.1
def Kt(a:Int):Option ((af)×Unit):=cond (decide (a<0)) ((nn (aj (aj ((-2)*a)-1),())).bind fun v1=>some (v1.1,())) ((nn (aj (2*a),())).bind fun b=>some (b.1,()))
def uZ(x:Int×Unit):Option ((af)×Unit):=Kt x.1
def Ku(a:aL.D):Option ((af)×Unit):=(sH (a,())).bind fun v1=>cond (!v1.1) (some ([],())) ((nn (a.1,())).bind fun b=>(uY (a.2.1,())).bind fun d=>cond (room (b.1.length+d.1.length)) ((uY (a.2.2.1,())).bind fun v4=>cond (room ((b.1++d.1).length+v4.1.length)) ((uZ (a.2.2.2.1,())).bind fun e=>cond (room (((b.1++d.1)++v4.1).length+e.1.length)) ((uZ (a.2.2.2.2.1,())).bind fun v6=>cond (room ((((b.1++d.1)++v4.1)++e.1).length+v6.1.length)) ((uY (a.2.2.2.2.2.1,())).bind fun g=>cond (room (((((b.1++d.1)++v4.1)++e.1)++v6.1).length+g.1.length)) (some (((((b.1++d.1)++v4.1)++e.1)++v6.1)++g.1,())) (none)) (none)) (none)) (none)) (none))
def u0(x:aL.D×Unit):Option ((af)×Unit):=Ku x.1
def Kv(a:aB.D):Option ((af)×Unit):=(nn (a.1,())).bind fun v1=>(nn (a.2.1,())).bind fun b=>cond (room (v1.1.length+b.1.length)) ((nn (a.2.2.1,())).bind fun d=>cond (room ((v1.1++b.1).length+d.1.length)) ((u0 (a.2.2.2.1,())).bind fun v4=>(uY (v4.1,())).bind fun e=>cond (room (((v1.1++b.1)++d.1).length+e.1.length)) (some (((v1.1++b.1)++d.1)++e.1,())) (none)) (none)) (none)
def Kw(x:aB.D×Unit):Option ((af)×Unit):=Kv x.1
abbrev CU:Type:=(List aB.D)->(af)->Int->Option ((af)×Unit)
def CV(a_:CU)(a:List aB.D):Option ((af)×Unit):=(Kq (a,())).bind fun v1=>cond (!v1.1) (some ([],())) (a_ a ([102]:af) 0)
def u1(a_:CU)(a:List aB.D)(b:af)(d:Int):Option ((af)×Unit):=cond (decide (d<(a.length:Int))) ((ax a.length d).bind fun v1=>(Kw (I aB a v1,())).bind fun e=>cond (room (b.length+e.1.length)) (a_ a (b++e.1) (aj (d+1))) (none)) (some (b,()))
def sI:Nat->CU|0,_,_,_=>none|m+1,a,b,d=>u1 (sI m) a b d
def Kx(x:(List aB.D)×Unit):Option ((af)×Unit):=CV (sI aC) x.1
structure sJ where
 k2:(af)->Int->Option (Int×Int×Unit)
 c7:(af)->Int->Int->Int->Option (Int×Int×Unit)
def CW(k:sJ)(a:af):Option (Int×Int×Unit):=k.k2 a 1
def sK(k:sJ)(b:af)(a:Int):Option (Int×Int×Unit):=cond (decide (a<=7)) (cond (decide (a<=(b.length:Int))) (k.c7 b a 0 (aj (a-1))) (some (0,0,()))) (some (0,0,()))
def xt(k:sJ)(a:af)(b:Int)(d:Int)(e:Int):Option (Int×Int×Unit):=cond (decide (e>=0)) ((ax a.length e).bind fun v1=>k.c7 a b (aj (aj (d*128)+Int.tmod (aj (((a.getD v1 0).toNat:Int))) 128)) (aj (e-1))) ((cZ a.length 0 b).bind fun g=>(nn (d,())).bind fun h=>cond (bm h.1 (part a g.1 (g.2-g.1))) (some (d,b,())) (k.k2 a (aj (b+1))))
def RB(k:sJ):sJ:=⟨sK k,xt k⟩
def ks:Nat->sJ:=dF RB ⟨fun _ _=>none,fun _ _ _ _=>none⟩
def Ky(x:(af)×Unit):Option (Int×Int×Unit):=CW (ks aC) x.1
abbrev xu:Type:=(List Int)×Int×Unit
abbrev CX:Type:=(af)->Int->Int->Int->(List Int)->Option (xu)
def CY(k3:CX)(a:af)(b:Int)(d:Int):Option (xu):=k3 a b d 0 ([]:List Int)
def xv(k3:CX)(b:af)(d:Int)(g:Int)(h:Int)(a:List Int):Option (xu):=cond (decide (h<g)) (cond (decide (d<0)) (some (a,(-1),())) (cond (decide (d >(b.length:Int))) (some (a,(-1),())) ((cZ b.length d (b.length:Int)).bind fun v1=>(Ky (part b v1.1 (v1.2-v1.1),())).bind fun e=>cond (e.2.1==0) (some (a,(-1),())) (cond (room (a.length+[e.1].length)) (k3 b (aj (d+e.2.1)) g (aj (h+1)) (a++[e.1])) (none))))) (some (a,d,()))
def my:Nat->CX|0,_,_,_,_,_=>none|m+1,a,b,d,e,g=>xv (my m) a b d e g
def mz(x:(af)×Int×Int×Unit):Option (xu):=CY (my aC) x.1 x.2.1 x.2.2.1
abbrev RC:Type:=(af)×Int×Unit
def Kz(a:af)(b:Int):Option (RC):=(mz (a,b,1,())).bind fun v1=>cond (decide (v1.2.1<0)) (some ([],(-1),())) ((ax v1.1.length 0).bind fun d=>cond (decide (I (U.int .i64) v1.1 (0+d)>aj ((a.length:Int)-v1.2.1))) (some ([],(-1),())) ((ax v1.1.length 0).bind fun e=>(cZ a.length v1.2.1 (aj (v1.2.1+I (U.int .i64) v1.1 (0+e)))).bind fun v4=>(ax v1.1.length 0).bind fun g=>some (part a v4.1 (v4.2-v4.1),aj (v1.2.1+I (U.int .i64) v1.1 (0+g)),())))
def sL(x:(af)×Int×Unit):Option (RC):=Kz x.1 x.2.1
def aa0(a:Int):Option (Int×Unit):=cond (Int.tmod a 2==1) (some (aj (Int.tdiv (aj (0-(aj (a+1)))) 2),())) (some (aj (Int.tdiv a 2),()))
def u2(x:Int×Unit):Option (Int×Unit):=aa0 x.1
abbrev RD:Type:=aL.D×Bool×Unit
def KA(a:af):Option (RD):=(mz (a,0,1,())).bind fun v1=>(sL (a,v1.2.1,())).bind fun b=>(sL (a,b.2.1,())).bind fun d=>(mz (a,d.2.1,2,())).bind fun v4=>(sL (a,v4.2.1,())).bind fun e=>cond (decide (e.2.1<0)) (some ((0,[],[],0,0,[],()),false,())) ((ax v1.1.length 0).bind fun v6=>(ax v4.1.length 0).bind fun h=>(ax v4.1.length 1).bind fun i=>both ((u2 (I (U.int .i64) v4.1 (0+h),())).bind fun g=>dup ((u2 (I (U.int .i64) v4.1 (0+i),())).bind fun v10=>(u0 ((I (U.int .i64) v1.1 (0+v6),b.1,d.1,g.1,v10.1,e.1,()),())).bind fun v11=>cond (!(bm v11.1 a)) (some ((0,[],[],0,0,[],()),false,())) (some ((I (U.int .i64) v1.1 (0+v6),b.1,d.1,g.1,v10.1,e.1,()),true,())))) ((u2 (I (U.int .i64) v4.1 (0+h),())).bind fun g=>(u2 (I (U.int .i64) v4.1 (0+i),())).bind fun v10=>(u0 ((I (U.int .i64) v1.1 (0+v6),b.1,d.1,g.1,v10.1,e.1,()),())).bind fun v11=>cond (!(bm v11.1 a)) (some ((0,[],[],0,0,[],()),false,())) (some ((I (U.int .i64) v1.1 (0+v6),b.1,d.1,g.1,v10.1,e.1,()),true,()))))
def KB(x:(af)×Unit):Option (RD):=KA x.1
abbrev u3:Type:=(List aB.D)×Bool×Unit
abbrev xw:Type:=(af)->Int->(List aB.D)->Option (u3)
def CZ(a_:xw)(a:af):Option (u3):=cond ((a.length:Int)==0) (some ([],false,())) (cond (decide ((a.length:Int)>1600)) (some ([],false,())) (a_ a 1 []))
def aa1(a_:xw)(a:af)(b:(af)×Int×Unit)(d:List aB.D):Option (u3):=a_ a b.2.1 d
def qk(a_:xw)(a:af)(g:Int)(b:List aB.D):Option (u3):=cond (decide (g<(a.length:Int))) ((mz (a,g,3,())).bind fun v1=>(sL (a,v1.2.1,())).bind fun d=>(KB (d.1,())).bind fun e=>cond (decide (d.2.1<0)) (some ([],false,())) (cond (!e.2.1) (some ([],false,())) ((ax v1.1.length 0).bind fun v4=>(ax v1.1.length 1).bind fun h=>(ax v1.1.length 2).bind fun v6=>cond (room (b.length+[(I (U.int .i64) v1.1 (0+v4),I (U.int .i64) v1.1 (0+h),I (U.int .i64) v1.1 (0+v6),e.1,())].length)) (aa1 a_ a d (b++[(I (U.int .i64) v1.1 (0+v4),I (U.int .i64) v1.1 (0+h),I (U.int .i64) v1.1 (0+v6),e.1,())])) (none)))) ((Kx (b,())).bind fun i=>cond (!(bm i.1 a)) (some ([],false,())) (some (b,true,())))
def ql:Nat->xw|0,_,_,_=>none|m+1,a,b,d=>qk (ql m) a b d
def KC(x:(af)×Unit):Option (u3):=CZ (ql aC) x.1
abbrev C0:Type:=Int->Int->ak.D->Option (Int×Bool×Unit)
def RE(k2:C0)(a:ak.D)(b:Int):Option (Int×Bool×Unit):=k2 b 0 a
def u4(k2:C0)(d:Int)(b:Int)(a:ak.D):Option (Int×Bool×Unit):=cond (decide (b<(a.2.2.2.1.length:Int))) ((ax a.2.2.2.1.length b).bind fun v1=>cond (decide ((I aK a.2.2.2.1 v1).1>=d)) ((ax a.2.2.2.1.length b).bind fun e=>some (b,(I aK a.2.2.2.1 e).1==d,())) (k2 d (aj (b+1)) a)) (some ((a.2.2.2.1.length:Int),false,()))
def u5:Nat->C0|0,_,_,_=>none|m+1,a,b,d=>u4 (u5 m) a b d
def C1(x:ak.D×Int×Unit):Option (Int×Bool×Unit):=RE (u5 aC) x.1 x.2.1
def KD(a:ak.D)(b:Int):Option (aK.D×Unit):=(C1 (a,b,())).bind fun v1=>cond (!v1.2.1) (some ((0,0,0,(0,[],()),()),())) ((ax a.2.2.2.1.length v1.1).bind fun d=>some (I aK a.2.2.2.1 d,()))
def C2(x:ak.D×Int×Unit):Option (aK.D×Unit):=KD x.1 x.2.1
structure sM where
 k3:Int->Int->ak.D->Option (Int×Unit)
 cE:Int->Int->ak.D->Option (Int×Unit)
def RF(k:sM)(a:ak.D):Option (Int×Unit):=k.k3 0 0 a
def C3(k:sM)(d:Int)(b:Int)(a:ak.D):Option (Int×Unit):=cond (decide (b<(a.2.2.1.length:Int))) ((ax a.2.2.1.length b).bind fun v1=>cond (decide ((I aG a.2.2.1 v1).1>d)) ((ax a.2.2.1.length b).bind fun e=>k.k3 ((I aG a.2.2.1 e).1) (aj (b+1)) a) (k.k3 d (aj (b+1)) a)) (k.cE d 0 a)
def C4(k:sM)(d:Int)(b:Int)(a:ak.D):Option (Int×Unit):=cond (decide (b<(a.2.2.2.1.length:Int))) ((ax a.2.2.2.1.length b).bind fun v1=>cond (decide ((I aK a.2.2.2.1 v1).2.2.1>d)) ((ax a.2.2.2.1.length b).bind fun e=>k.cE ((I aK a.2.2.2.1 e).2.2.1) (aj (b+1)) a) (k.cE d (aj (b+1)) a)) (some (d,()))
def RG(k:sM):sM:=⟨C3 k,C4 k⟩
def lF:Nat->sM:=dF RG ⟨fun _ _ _=>none,fun _ _ _=>none⟩
def KE(x:ak.D×Unit):Option (Int×Unit):=RF (lF aC) x.1
def KF(a:Int):Option (Bool×Unit):=cond (a==4) (cond (a==4) (some (true,())) (some (false,()))) (cond (a==11) (cond (a==11) (some (true,())) (some (false,()))) (cond (a==13) (cond (a==13) (some (true,())) (some (false,()))) (cond (a==14) (cond (a==14) (some (true,())) (some (false,()))) (cond (a==17) (cond (a==17) (some (true,())) (some (false,()))) (cond (a==18) (cond (a==18) (some (true,())) (some (false,()))) (cond (a==20) (cond (a==20) (some (true,())) (some (false,()))) (cond (a==21) (some (true,())) (some (false,())))))))))
def xx(x:Int×Unit):Option (Bool×Unit):=KF x.1
def KG(a:Int):Option (aM.D×Unit):=cond (a==1) (some ((0,0,[],()),())) (cond (a==2) (some ((2,2,[5],()),())) (cond (a==3) (some ((3,2,[],()),())) (some ((1000,1000,[],()),()))))
def KH(x:Int×Unit):Option (aM.D×Unit):=KG x.1
def KI(a:Int):Option (Int×Unit):=(xx (a,())).bind fun v1=>cond v1.1 (some (1,())) ((cH (a,1,22,())).bind fun b=>cond b.1 (some (3,())) (some (0,())))
def KJ(x:Int×Unit):Option (Int×Unit):=KI x.1
def KK(a:Int)(b:Int):Option (Int×Bool×Unit):=(KJ (b,())).bind fun v1=>cond (v1.1==0) (some (a,false,())) (cond (decide (v1.1>a)) (some (a,false,())) (some (aj (a-v1.1),true,())))
def KL(x:Int×Int×Unit):Option (Int×Bool×Unit):=KK x.1 x.2.1
abbrev C5:Type:=Int->(af)->Bool->Option ((af)×Unit)
def C6(a_:C5)(a:Int):Option ((af)×Unit):=cond (a==0) (some (([48]:af),())) (a_ a ([]:af) (decide (a<0)))
def xy(a_:C5)(a:Int)(b:af)(d:Bool):Option ((af)×Unit):=cond (a != 0) (cond (decide (Int.tmod a 10<0)) (cond (room ((ek [IntKind.wrap .u8 (aj (48+aj (0-(Int.tmod a 10))))]).length+b.length)) (a_ (aj (Int.tdiv a 10)) ((ek [IntKind.wrap .u8 (aj (48+aj (0-(Int.tmod a 10))))])++b) d) (none)) (cond (room ((ek [IntKind.wrap .u8 (aj (48+Int.tmod a 10))]).length+b.length)) (a_ (aj (Int.tdiv a 10)) ((ek [IntKind.wrap .u8 (aj (48+Int.tmod a 10))])++b) d) (none))) (cond d (cond (room (([45]:af).length+b.length)) (some (([45]:af)++b,())) (none)) (some (b,())))
def mA:Nat->C5|0,_,_,_=>none|m+1,a,b,d=>xy (mA m) a b d
def eB(x:Int×Unit):Option ((af)×Unit):=C6 (mA aC) x.1
structure sN where
 a_:(List aG.D)->Int->(af)->Int->Option ((af)×Unit)
 fk:(List aG.D)->Int->(af)->Int->Option ((af)×Unit)
def C7(k:sN)(b:List aG.D)(a:Int):Option ((af)×Unit):=(CF (b,())).bind fun v1=>cond (!v1.1) (some ([],())) (cond (decide (a<0)) (some ([],())) (k.a_ b a ([]:af) a))
def C8(k:sN)(e:List aG.D)(d:Int)(a:af)(b:Int):Option ((af)×Unit):=cond (decide (b<(e.length:Int))) (cond (decide (b<aj (d+6))) (cond (decide (b>d)) (cond (room (a.length +([32]:af).length)) (k.fk e d (a++([32]:af)) b) (none)) (k.fk e d a b)) (some (a,()))) (some (a,()))
def KM(k:sN)(a:List aG.D)(i:Int)(b:af)(e:Int):Option ((af)×Unit):=(ax a.length e).bind fun v1=>(ax a.length e).bind fun j=>(ax a.length e).bind fun l=>(ax a.length e).bind fun v4=>(ax a.length e).bind fun m=>(eB ((I aG a v1).1,())).bind fun v6=>cond (room (b.length+v6.1.length)) (cond (room ((b++v6.1).length +([46]:af).length)) ((eB ((I aG a j).2.1,())).bind fun d=>cond (room (((b++v6.1)++([46]:af)).length+d.1.length)) (cond (room ((((b++v6.1)++([46]:af))++d.1).length +([46]:af).length)) ((eB ((I aG a l).2.2.1,())).bind fun g=>cond (room (((((b++v6.1)++([46]:af))++d.1)++([46]:af)).length+g.1.length)) (cond (room ((((((b++v6.1)++([46]:af))++d.1)++([46]:af))++g.1).length +([46]:af).length)) ((eB ((I aG a v4).2.2.2.1,())).bind fun h=>cond (room (((((((b++v6.1)++([46]:af))++d.1)++([46]:af))++g.1)++([46]:af)).length+h.1.length)) (cond (room ((((((((b++v6.1)++([46]:af))++d.1)++([46]:af))++g.1)++([46]:af))++h.1).length +([46]:af).length)) ((eB ((I aG a m).2.2.2.2.1,())).bind fun v10=>cond (room (((((((((b++v6.1)++([46]:af))++d.1)++([46]:af))++g.1)++([46]:af))++h.1)++([46]:af)).length+v10.1.length)) (k.a_ a i (((((((((b++v6.1)++([46]:af))++d.1)++([46]:af))++g.1)++([46]:af))++h.1)++([46]:af))++v10.1) (aj (e+1))) (none)) (none)) (none)) (none)) (none)) (none)) (none)) (none)) (none)
def RH(k:sN):sN:=⟨C8 k,KM k⟩
def np:Nat->sN:=dF RH ⟨fun _ _ _ _=>none,fun _ _ _ _=>none⟩
def KN(x:(List aG.D)×Int×Unit):Option ((af)×Unit):=C7 (np aC) x.1 x.2.1
abbrev u6:Type:=Int->ad.D->ad.D->ad.D->Option (ad.D×Unit)
def C9(k3:u6)(a:ad.D):Option (ad.D×Unit):=k3 0 a (0,[],()) (a.1,[],())
def RI(k3:u6)(a:Int)(b:ad.D)(d:ad.D)(e:ad.D)(g:List J.D):Option (ad.D×Unit):=k3 (aj (a+1)) b d (e.1,g,())
def RJ(k3:u6)(b:ad.D)(a:ad.D)(v1:Nat)(e:Int)(g:ad.D)(d:List ar.D):Option (ad.D×Unit):=cond (room (b.2.1.length+[((I J a.2.1 v1).1,(I J a.2.1 v1).2.1,(I J a.2.1 v1).2.2.1,(I J a.2.1 v1).2.2.2.1,(I J a.2.1 v1).2.2.2.2.1,(I J a.2.1 v1).2.2.2.2.2.1,d,(I J a.2.1 v1).2.2.2.2.2.2.2.1,(I J a.2.1 v1).2.2.2.2.2.2.2.2.1,())].length)) (RI k3 e a g b (b.2.1++[((I J a.2.1 v1).1,(I J a.2.1 v1).2.1,(I J a.2.1 v1).2.2.1,(I J a.2.1 v1).2.2.2.1,(I J a.2.1 v1).2.2.2.2.1,(I J a.2.1 v1).2.2.2.2.2.1,d,(I J a.2.1 v1).2.2.2.2.2.2.2.1,(I J a.2.1 v1).2.2.2.2.2.2.2.2.1,())])) (none)
def C_(k3:u6)(b:Int)(a:ad.D)(e:ad.D)(d:ad.D):Option (ad.D×Unit):=cond (decide (b<(a.2.1.length:Int))) ((ax a.2.1.length b).bind fun v1=>cond (room (([]:List ar.D).length +((I J a.2.1 v1).2.2.2.2.2.2.1).length)) (RJ k3 d a v1 b e (([]:List ar.D)++((I J a.2.1 v1).2.2.2.2.2.2.1))) (none)) (some (d,()))
def sO:Nat->u6|0,_,_,_,_=>none|m+1,a,b,d,e=>C_ (sO m) a b d e
def nq(x:ad.D×Unit):Option (ad.D×Unit):=C9 (sO aC) x.1
abbrev C':Type:=(af)->Int->Option (Bool×Unit)
def Da(aZ:C')(a:af):Option (Bool×Unit):=(cH ((a.length:Int),1,60,())).bind fun v1=>cond (!v1.1) (some (false,())) ((ax a.length 0).bind fun b=>cond (((a.getD b 0).toNat:Int) != 47) (some (false,())) (aZ a 0))
def Db(aZ:C')(a:af)(b:Int):Option (Bool×Unit):=cond (decide (b<(a.length:Int))) ((ax a.length b).bind fun v1=>cond (((a.getD v1 0).toNat:Int) != 47) ((ax a.length b).bind fun d=>(xe (((a.getD d 0).toNat:Int),())).bind fun e=>cond (!e.1) (some (false,())) (aZ a (aj (b+1)))) (aZ a (aj (b+1)))) (some (true,()))
def sP:Nat->C'|0,_,_=>none|m+1,a,b=>Db (sP m) a b
def Dc(x:(af)×Unit):Option (Bool×Unit):=Da (sP aC) x.1
abbrev Dd:Type:=Int->aM.D->Option (Bool×Unit)
def De(aZ:Dd)(a:aM.D):Option (Bool×Unit):=(cH (a.1,0,1000,())).bind fun v1=>cond (!v1.1) (some (false,())) ((cH (a.2.1,0,1000,())).bind fun b=>cond (!b.1) (some (false,())) (cond (decide ((a.2.2.1.length:Int)>4)) (some (false,())) (aZ 0 a)))
def Df(aZ:Dd)(b:Int)(a:aM.D):Option (Bool×Unit):=cond (decide (b<(a.2.2.1.length:Int))) ((ax a.2.2.1.length b).bind fun v1=>(cH (I (U.int .i64) a.2.2.1 v1,0,1000,())).bind fun d=>cond (!d.1) (some (false,())) (aZ (aj (b+1)) a)) (some (true,()))
def sQ:Nat->Dd|0,_,_=>none|m+1,a,b=>Df (sQ m) a b
def xz(x:aM.D×Unit):Option (Bool×Unit):=De (sQ aC) x.1
abbrev Dg:Type:=Int->Bool->Int->aM.D->Option (Bool×Unit)
def Dh(a_:Dg)(a:aM.D)(b:Int):Option (Bool×Unit):=(xz (a,())).bind fun v1=>cond (!v1.1) (some (false,())) (a_ b (a.2.1==b) 0 a)
def Di(a_:Dg)(d:Int)(e:Bool)(b:Int)(a:aM.D):Option (Bool×Unit):=cond (decide (b<(a.2.2.1.length:Int))) (cond e (a_ d true (aj (b+1)) a) ((ax a.2.2.1.length b).bind fun v1=>a_ d (I (U.int .i64) a.2.2.1 v1==d) (aj (b+1)) a)) (some (e,()))
def sR:Nat->Dg|0,_,_,_,_=>none|m+1,a,b,d,e=>Di (sR m) a b d e
def sS(x:aM.D×Int×Unit):Option (Bool×Unit):=Dh (sR aC) x.1 x.2.1
def KO(d:aM.D)(b:J.D)(a:Int):Option (Bool×Unit):=(xz (d,())).bind fun v1=>cond (!v1.1) (some (false,())) ((cH (a,0,7,())).bind fun e=>cond (!e.1) (some (false,())) (cond (d.1==0) (cond (cJ .and .i64 a 1==0) (some (true,())) (cond (b.2.1 != 1) (some (true,())) (some (cJ .and .i64 b.2.2.1 73 != 0,())))) ((sS (d,b.2.2.2.2.1,())).bind fun g=>cond g.1 (cond (d.1==b.2.2.2.1) (some (cJ .and .i64 (cJ .and .i64 (Int.fdiv b.2.2.1 (2^min (Int.toNat 6) 64)) 7) a==a,())) (some (cJ .and .i64 (cJ .and .i64 (Int.fdiv b.2.2.1 (2^min (Int.toNat 3) 64)) 7) a==a,()))) (cond (d.1==b.2.2.2.1) (some (cJ .and .i64 (cJ .and .i64 (Int.fdiv b.2.2.1 (2^min (Int.toNat 6) 64)) 7) a==a,())) (some (cJ .and .i64 (cJ .and .i64 b.2.2.1 7) a==a,()))))))
def ju(x:aM.D×J.D×Int×Unit):Option (Bool×Unit):=KO x.1 x.2.1 x.2.2.1
structure sU where
 k2:Int->Int->ad.D->Option (Int×Unit)
 a_:Int->Int->Int->ad.D->Option (Int×Unit)
def Dj(k:sU)(a:ad.D)(b:Int):Option (Int×Unit):=k.k2 b 0 a
def sV(k:sU)(d:Int)(a:Int)(b:ad.D):Option (Int×Unit):=cond (decide (a<(b.2.1.length:Int))) (k.a_ d a 0 b) (some (1,()))
def sW(k:sU)(d:Int)(b:Int)(e:Int)(a:ad.D):Option (Int×Unit):=(ax a.2.1.length b).bind fun v1=>cond (decide (e<(((I J a.2.1 v1).2.2.2.2.2.2.1).length:Int))) ((ax a.2.1.length b).bind fun g=>(ax (((I J a.2.1 g).2.2.2.2.2.2.1).length) e).bind fun h=>cond ((I ar ((I J a.2.1 g).2.2.2.2.2.2.1) h).2.1==d) ((ax a.2.1.length b).bind fun v4=>some ((I J a.2.1 v4).1,())) (k.a_ d b (aj (e+1)) a)) (k.k2 d (aj (b+1)) a)
def RK(k:sU):sU:=⟨sV k,sW k⟩
def jM:Nat->sU:=dF RK ⟨fun _ _ _=>none,fun _ _ _ _=>none⟩
def Dk(x:ad.D×Int×Unit):Option (Int×Unit):=Dj (jM aC) x.1 x.2.1
abbrev xA:Type:=(List (af))×Unit
abbrev Dl:Type:=(af)->Int->Int->(List (af))->Option (xA)
def Dm(aZ:Dl)(a:af):Option (xA):=aZ a 0 0 ([]:List (af))
def xB(aZ:Dl)(b:af)(g:Int)(a:Int)(d:List (af)):Option (xA):=cond (decide (a<=(b.length:Int))) (cond (a ==(b.length:Int)) (cond (decide (a>g)) ((cZ b.length g a).bind fun v1=>cond (room (d.length+[part b v1.1 (v1.2-v1.1)].length)) (aZ b (aj (a+1)) (aj (a+1)) (d++[part b v1.1 (v1.2-v1.1)])) (none)) (aZ b (aj (a+1)) (aj (a+1)) d)) ((ax b.length a).bind fun h=>cond (((b.getD h 0).toNat:Int)==47) (cond (decide (a>g)) ((cZ b.length g a).bind fun e=>cond (room (d.length+[part b e.1 (e.2-e.1)].length)) (aZ b (aj (a+1)) (aj (a+1)) (d++[part b e.1 (e.2-e.1)])) (none)) (aZ b (aj (a+1)) (aj (a+1)) d)) (aZ b g (aj (a+1)) d))) (some (d,()))
def oF:Nat->Dl|0,_,_,_,_=>none|m+1,a,b,d,e=>xB (oF m) a b d e
def xC(x:(af)×Unit):Option (xA):=Dm (oF aC) x.1
abbrev Dn:Type:=(af)->(List ar.D)->Int->Option (Int×Unit)
def Dp(k3:Dn)(a:ad.D)(b:Int)(d:af):Option (Int×Unit):=(j7 (a,b,())).bind fun v1=>(ax a.2.1.length v1.1).bind fun e=>k3 d ((I J a.2.1 e).2.2.2.2.2.2.1) 0
def Dq(k3:Dn)(d:af)(a:List ar.D)(b:Int):Option (Int×Unit):=cond (decide (b<(a.length:Int))) ((ax a.length b).bind fun v1=>cond (bm ((I ar a v1).1) d) ((ax a.length b).bind fun e=>some ((I ar a e).2.1,())) (k3 d a (aj (b+1)))) (some (0,()))
def qm:Nat->Dn|0,_,_,_=>none|m+1,a,b,d=>Dq (qm m) a b d
def KP(x:ad.D×Int×(af)×Unit):Option (Int×Unit):=Dp (qm aC) x.1 x.2.1 x.2.2.1
structure nr where
 aZ:Bool->Nat->Nat->Int->Int->ad.D->aM.D->aV.D->(List (af))->Option (aV.D×Unit)
 RL:Bool->Nat->Nat->Int->Int->(af)->Bool->Int->ad.D->aM.D->aV.D->(List (af))->J.D->Option (aV.D×Unit)
 ja:Bool->Nat->Nat->Int->Int->ad.D->aM.D->aV.D->(List (af))->J.D->Option (aV.D×Unit)
 xD:Bool->Nat->Nat->Int->Int->(af)->Bool->Int->ad.D->aM.D->aV.D->(List (af))->J.D->Option (aV.D×Unit)
 ns:Bool->Nat->Nat->Int->Int->ad.D->aM.D->aV.D->(List (af))->J.D->Option (aV.D×Unit)
def Dr(k:nr)(a:ad.D)(b:aM.D)(d:af)(e:Bool):Option (aV.D×Unit):=(xC (d,())).bind fun v1=>k.aZ e 0 v1.1.length 1 0 a b (0,[],0,0,()) v1.1
def kt(k:nr)(j:Bool)(d:Nat)(h:Nat)(g:Int)(l:Int)(b:ad.D)(i:aM.D)(m:aV.D)(e:List (af)):Option (aV.D×Unit):=cond (decide ((h:Int)>0)) ((ax h 0).bind fun v1=>(cZ h 1 (h:Int)).bind fun a=>(j7 (b,g,())).bind fun o=>(ax b.2.1.length o.1).bind fun v4=>(ju (i,I J b.2.1 v4,1,())).bind fun p=>cond (!p.1) (some ((0,[],0,13,()),())) (cond (bm (I U.str e (d+v1)) ([46]:af)) (k.aZ j (d+a.1) (a.2-a.1) g l b i m e) (cond (bm (I U.str e (d+v1)) ([46,46]:af)) ((Dk (b,g,())).bind fun v6=>k.aZ j (d+a.1) (a.2-a.1) v6.1 l b i m e) (cond (decide (((I U.str e (d+v1)).length:Int)>8)) (some ((0,[],0,36,()),())) ((KP (b,g,I U.str e (d+v1),())).bind fun n=>cond (n.1==0) (cond ((((a.2-a.1):Nat):Int)==0) (some ((g,I U.str e (d+v1),0,2,()),())) (some ((0,[],0,2,()),()))) (dup ((j7 (b,n.1,())).bind fun q=>(ax b.2.1.length q.1).bind fun r=>k.RL j (d+a.1) (a.2-a.1) g l (I U.str e (d+v1)) ((((a.2-a.1):Nat):Int)==0) n.1 b i m e (I J b.2.1 r)))))))) (some ((0,[],g,0,()),()))
def u7(k:nr)(a:Bool)(d:Nat)(e:Nat)(g:Int)(h:Int)(o:af)(n:Bool)(p:Int)(i:ad.D)(j:aM.D)(l:aV.D)(m:List (af))(b:J.D):Option (aV.D×Unit):=cond (b.2.1==3) (cond (!n) (k.ja a d e g h i j l m b) (cond a (k.ja a d e g h i j l m b) (k.xD a d e g h o n p i j l m b))) (k.xD a d e g h o n p i j l m b)
def Ds(k:nr)(d:Bool)(e:Nat)(g:Nat)(m:Int)(b:Int)(h:ad.D)(i:aM.D)(j:aV.D)(l:List (af))(a:J.D):Option (aV.D×Unit):=cond (decide (aj (b+1)>8)) (some ((0,[],0,40,()),())) ((ax a.2.2.2.2.2.1.length 0).bind fun v1=>cond (((a.2.2.2.2.2.1.getD v1 0).toNat:Int)==47) (k.ns d e g 1 (aj (b+1)) h i j l a) (k.ns d e g m (aj (b+1)) h i j l a))
def Dt(k:nr)(b:Bool)(d:Nat)(e:Nat)(g:Int)(h:Int)(i:af)(j:Bool)(a:Int)(l:ad.D)(m:aM.D)(n:aV.D)(o:List (af))(p:J.D):Option (aV.D×Unit):=cond j (some ((g,i,a,0,()),())) (cond (p.2.1 != 2) (some ((0,[],0,20,()),())) (k.aZ b d e a h l m n o))
def Du(k:nr)(e:Bool)(a:Nat)(b:Nat)(g:Int)(h:Int)(i:ad.D)(j:aM.D)(l:aV.D)(d:List (af))(m:J.D):Option (aV.D×Unit):=(xC (m.2.2.2.2.2.1,())).bind fun v1=>cond (room (v1.1.length +(part d a b).length)) (cond (decide (((v1.1++(part d a b)).length:Int)>40)) (some ((0,[],0,36,()),())) (k.aZ e 0 ((v1.1++(part d a b)).length) g h i j l (v1.1++(part d a b)))) (none)
def RM(k:nr):nr:=⟨kt k,u7 k,Ds k,Dt k,Du k⟩
def eW:Nat->nr:=dF RM ⟨fun _ _ _ _ _ _ _ _ _=>none,fun _ _ _ _ _ _ _ _ _ _ _ _ _=>none,fun _ _ _ _ _ _ _ _ _ _=>none,fun _ _ _ _ _ _ _ _ _ _ _ _ _=>none,fun _ _ _ _ _ _ _ _ _ _=>none⟩
def Dv(x:ad.D×aM.D×(af)×Bool×Unit):Option (aV.D×Unit):=Dr (eW aC) x.1 x.2.1 x.2.2.1 x.2.2.2.1
def xE(d:ad.D)(e:aM.D)(b:af):Option (aV.D×Int×Unit):=(Dc (b,())).bind fun v1=>cond (!v1.1) (some ((0,[],0,0,()),22,())) ((Dv (d,e,b,false,())).bind fun a=>cond (a.1.2.2.2.1==0) (some (a.1,17,())) (cond (a.1.2.2.2.1==2) (cond (!(bm a.1.2.1 [])) (some (a.1,0,())) (some (a.1,a.1.2.2.2.1,()))) (some (a.1,a.1.2.2.2.1,()))))
def sX(x:ad.D×aM.D×(af)×Unit):Option (aV.D×Int×Unit):=xE x.1 x.2.1 x.2.2.1
def KQ(a:ad.D)(b:Int):Option (J.D×Unit):=(j7 (a,b,())).bind fun v1=>(ax a.2.1.length v1.1).bind fun d=>some (I J a.2.1 d,())
def eX(x:ad.D×Int×Unit):Option (J.D×Unit):=KQ x.1 x.2.1
def KR(a:ad.D):Option (Int×Unit):=(xm (a,())).bind fun v1=>cond (decide (v1.1>400)) (some (28,())) ((CA (a,())).bind fun b=>cond b.1 (some (122,())) (some (0,())))
def KS(x:ad.D×Unit):Option (Int×Unit):=KR x.1
abbrev RN:Type:=ad.D×aA.D×Unit
def KT(b:ad.D)(a:ad.D):Option (RN):=(KS (a,())).bind fun v1=>cond (v1.1 != 0) (some (b,(v1.1,[],()),())) (some (a,(0,[],()),()))
def oG(x:ad.D×ad.D×Unit):Option (RN):=KT x.1 x.2.1
def xF(a:ad.D)(b:J.D):Option (ad.D×Unit):=(j7 (a,b.1,())).bind fun v1=>cond (decide (v1.1<0)) (cond (room (a.2.1.length+[b].length)) (some ((a.1,a.2.1++[b],()),())) (none)) ((ax a.2.1.length v1.1).bind fun d=>some ((a.1,a.2.1.set (0+d) b,()),()))
def mB(x:ad.D×J.D×Unit):Option (ad.D×Unit):=xF x.1 x.2.1
structure qn where
 a_:(af)->Int->Bool->Int->ad.D->ad.D->J.D->(List ar.D)->Option (ad.D×Unit)
 c4:(af)->Int->Bool->Int->ad.D->ad.D->J.D->(List ar.D)->Option (ad.D×Unit)
 kX:ad.D->ad.D->J.D->(List ar.D)->Option (ad.D×Unit)
def Dw(k:qn)(a:ad.D)(b:Int)(d:af)(e:Int):Option (ad.D×Unit):=(eX (a,b,())).bind fun v1=>k.a_ d e false 0 a (0,[],()) v1.1 ([]:List ar.D)
def mC(k:qn)(a:af)(d:Int)(j:Bool)(g:Int)(h:ad.D)(i:ad.D)(b:J.D)(e:List ar.D):Option (ad.D×Unit):=cond (decide (g<(b.2.2.2.2.2.2.1.length:Int))) (cond (!j) ((ax b.2.2.2.2.2.2.1.length g).bind fun v1=>cond (dr a ((I ar b.2.2.2.2.2.2.1 v1).1)) (cond (room (e.length+[(a,d,())].length)) (k.c4 a d true g h i b (e++[(a,d,())])) (none)) (k.c4 a d j g h i b e)) (k.c4 a d j g h i b e)) (cond (!j) (cond (room (e.length+[(a,d,())].length)) (k.kX h i b (e++[(a,d,())])) (none)) (k.kX h i b e))
def sY(k:qn)(e:af)(g:Int)(h:Bool)(b:Int)(i:ad.D)(j:ad.D)(a:J.D)(d:List ar.D):Option (ad.D×Unit):=(ax a.2.2.2.2.2.2.1.length b).bind fun v1=>cond (room (d.length+[I ar a.2.2.2.2.2.2.1 v1].length)) (k.a_ e g h (aj (b+1)) i j a (d++[I ar a.2.2.2.2.2.2.1 v1])) (none)
def KU(k:qn)(b:ad.D)(e:ad.D)(a:J.D)(d:List ar.D):Option (ad.D×Unit):=(mB (b,(a.1,a.2.1,a.2.2.1,a.2.2.2.1,a.2.2.2.2.1,a.2.2.2.2.2.1,d,a.2.2.2.2.2.2.2.1,a.2.2.2.2.2.2.2.2.1,()),())).bind fun v1=>some (v1.1,())
def RO(k:qn):qn:=⟨mC k,sY k,KU k⟩
def hP:Nat->qn:=dF RO ⟨fun _ _ _ _ _ _ _ _=>none,fun _ _ _ _ _ _ _ _=>none,fun _ _ _ _=>none⟩
def qo(x:ad.D×Int×(af)×Int×Unit):Option (ad.D×Unit):=Dw (hP aC) x.1 x.2.1 x.2.2.1 x.2.2.2.1
abbrev mD:Type:=ad.D×aA.D×Unit
structure oH where
 k3:ad.D->aM.D->aL.D->ad.D->aA.D->Option (mD)
 xG:ad.D->aL.D->ad.D->aA.D->aV.D->J.D->J.D->Option (mD)
 gj:ad.D->ad.D->aA.D->aV.D->J.D->J.D->Option (mD)
 ja:ad.D->ad.D->aA.D->aV.D->J.D->Option (mD)
def Dx(k:oH)(b:ad.D)(d:aM.D)(a:aL.D):Option (mD):=cond (a.1==10) ((xf (a.2.2.1,())).bind fun v1=>cond (!v1.1) (some (b,(22,[],()),())) (cond (a.1 != 10) ((cH (a.2.2.2.1,0,2047,())).bind fun e=>cond (!e.1) (some (b,(22,[],()),())) (k.k3 b d a (0,[],()) (0,[],()))) (k.k3 b d a (0,[],()) (0,[],())))) (cond (a.1 != 10) ((cH (a.2.2.2.1,0,2047,())).bind fun g=>cond (!g.1) (some (b,(22,[],()),())) (k.k3 b d a (0,[],()) (0,[],()))) (k.k3 b d a (0,[],()) (0,[],())))
def KV(k:oH)(a:ad.D)(b:aM.D)(d:aL.D)(g:ad.D)(h:aA.D):Option (mD):=(sX (a,b,d.2.1,())).bind fun v1=>cond (v1.2.1 != 0) (some (a,(v1.2.1,[],()),())) ((eX (a,v1.1.1,())).bind fun e=>(ju (b,e.1,3,())).bind fun i=>cond (!i.1) (some (a,(13,[],()),())) (cond (decide ((e.1.2.2.2.2.2.2.1.length:Int)>=12)) (some (a,(28,[],()),())) (cond (decide ((a.2.1.length:Int)>=24)) (some (a,(28,[],()),())) (cond (decide (a.1>=100000)) (some (a,(28,[],()),())) (cond (d.1==1) (k.xG a d g h v1.1 e.1 (a.1,2,d.2.2.2.1,b.1,b.2.1,[],[],0,0,())) (k.xG a d g h v1.1 e.1 (a.1,1,d.2.2.2.1,b.1,b.2.1,[],[],0,0,())))))))
def aa2(k:oH)(b:ad.D)(d:aL.D)(e:ad.D)(g:aA.D)(h:aV.D)(i:J.D)(a:J.D):Option (mD):=cond (d.1==10) (k.gj b e g h i (a.1,3,511,a.2.2.2.1,a.2.2.2.2.1,d.2.2.1,a.2.2.2.2.2.2.1,a.2.2.2.2.2.2.2.1,a.2.2.2.2.2.2.2.2.1,())) (k.gj b e g h i a)
def aa3(k:oH)(b:ad.D)(d:ad.D)(e:aA.D)(g:aV.D)(h:J.D)(a:J.D):Option (mD):=cond (cJ .and .i64 h.2.2.1 1024 != 0) (cond (a.2.1==2) (k.ja b d e g (a.1,a.2.1,cJ .or .i64 a.2.2.1 1024,a.2.2.2.1,h.2.2.2.2.1,a.2.2.2.2.2.1,a.2.2.2.2.2.2.1,a.2.2.2.2.2.2.2.1,a.2.2.2.2.2.2.2.2.1,())) (k.ja b d e g (a.1,a.2.1,a.2.2.1,a.2.2.2.1,h.2.2.2.2.1,a.2.2.2.2.2.1,a.2.2.2.2.2.2.1,a.2.2.2.2.2.2.2.1,a.2.2.2.2.2.2.2.2.1,()))) (k.ja b d e g a)
def KW(k:oH)(a:ad.D)(h:ad.D)(i:aA.D)(b:aV.D)(d:J.D):Option (mD):=(nq (a,())).bind fun v1=>(mB ((aj (v1.1.1+1),v1.1.2.1,()),d,())).bind fun e=>(qo (e.1,b.1,b.2.1,d.1,())).bind fun g=>(oG (a,g.1,())).bind fun v4=>some (v4.1,v4.2.1,())
def RP(k:oH):oH:=⟨KV k,aa2 k,aa3 k,KW k⟩
def jb:Nat->oH:=dF RP ⟨fun _ _ _ _ _=>none,fun _ _ _ _ _ _ _=>none,fun _ _ _ _ _ _=>none,fun _ _ _ _ _=>none⟩
def sZ(x:ad.D×aM.D×aL.D×Unit):Option (mD):=Dx (jb aC) x.1 x.2.1 x.2.2.1
def s4(b:ad.D)(d:aM.D)(a:af)(e:Bool):Option (aV.D×Unit):=(Dc (a,())).bind fun v1=>cond (!v1.1) (some ((0,[],0,22,()),())) ((Dv (b,d,a,e,())).bind fun g=>some (g.1,()))
def eI(x:ad.D×aM.D×(af)×Bool×Unit):Option (aV.D×Unit):=s4 x.1 x.2.1 x.2.2.1 x.2.2.2.1
def KX(a:aM.D)(b:J.D)(d:J.D):Option (Bool×Unit):=(xz (a,())).bind fun v1=>cond (!v1.1) (some (false,())) (cond (cJ .and .i64 b.2.2.1 512==0) (some (true,())) (cond (a.1==0) (some (true,())) (cond (a.1==b.2.2.2.1) (some (true,())) (some (a.1==d.2.2.2.1,())))))
def u9(x:aM.D×J.D×J.D×Unit):Option (Bool×Unit):=KX x.1 x.2.1 x.2.2.1
structure s5 where
 a_:(af)->Int->Int->ad.D->ad.D->J.D->(List ar.D)->Option (ad.D×Unit)
 ou:Int->Int->ad.D->ad.D->(List J.D)->Option (ad.D×Unit)
def Dy(k:s5)(a:ad.D)(b:Int)(d:af):Option (ad.D×Unit):=(eX (a,b,())).bind fun v1=>k.a_ d 0 0 a (0,[],()) v1.1 ([]:List ar.D)
def xH(k:s5)(e:af)(g:Int)(b:Int)(h:ad.D)(i:ad.D)(a:J.D)(d:List ar.D):Option (ad.D×Unit):=cond (decide (b<(a.2.2.2.2.2.2.1.length:Int))) ((ax a.2.2.2.2.2.2.1.length b).bind fun v1=>cond (bm ((I ar a.2.2.2.2.2.2.1 v1).1) e) ((ax a.2.2.2.2.2.2.1.length b).bind fun l=>k.a_ e ((I ar a.2.2.2.2.2.2.1 l).2.1) (aj (b+1)) h i a d) ((ax a.2.2.2.2.2.2.1.length b).bind fun j=>cond (room (d.length+[I ar a.2.2.2.2.2.2.1 j].length)) (k.a_ e g (aj (b+1)) h i a (d++[I ar a.2.2.2.2.2.2.1 j])) (none))) ((mB (h,(a.1,a.2.1,a.2.2.1,a.2.2.2.1,a.2.2.2.2.1,a.2.2.2.2.2.1,d,a.2.2.2.2.2.2.2.1,a.2.2.2.2.2.2.2.2.1,()),())).bind fun v4=>(xl (v4.1,g,())).bind fun m=>cond (decide (m.1>0)) (some (v4.1,())) (k.ou g 0 v4.1 i []))
def xI(k:s5)(e:Int)(b:Int)(a:ad.D)(g:ad.D)(d:List J.D):Option (ad.D×Unit):=cond (decide (b<(a.2.1.length:Int))) ((ax a.2.1.length b).bind fun v1=>cond ((I J a.2.1 (0+v1)).1 != e) ((ax a.2.1.length b).bind fun h=>cond (room (d.length+[I J a.2.1 (0+h)].length)) (k.ou e (aj (b+1)) a g (d++[I J a.2.1 (0+h)])) (none)) (k.ou e (aj (b+1)) a g d)) (some ((a.1,d,()),()))
def RQ(k:s5):s5:=⟨xH k,xI k⟩
def j8:Nat->s5:=dF RQ ⟨fun _ _ _ _ _ _ _=>none,fun _ _ _ _ _=>none⟩
def mE(x:ad.D×Int×(af)×Unit):Option (ad.D×Unit):=Dy (j8 aC) x.1 x.2.1 x.2.2.1
abbrev oI:Type:=ad.D×aA.D×Unit
structure qp where
 dE:ad.D->aM.D->aL.D->ad.D->aA.D->aV.D->J.D->Option (oI)
 fk:ad.D->aM.D->aL.D->ad.D->aA.D->aV.D->J.D->Option (oI)
 cn:ad.D->aM.D->ad.D->aA.D->aV.D->J.D->Option (oI)
def Dz(k:qp)(a:ad.D)(d:aM.D)(b:aL.D):Option (oI):=(eI (a,d,b.2.1,false,())).bind fun v1=>cond (v1.1.2.2.2.1 != 0) (some (a,(v1.1.2.2.2.1,[],()),())) ((eX (a,v1.1.2.2.1,())).bind fun e=>cond (b.1==2) (cond (bm v1.1.2.1 []) (some (a,(16,[],()),())) (k.dE a d b (0,[],()) (0,[],()) v1.1 e.1)) (k.dE a d b (0,[],()) (0,[],()) v1.1 e.1))
def KY(k:qp)(a:ad.D)(e:aM.D)(b:aL.D)(g:ad.D)(h:aA.D)(i:aV.D)(d:J.D):Option (oI):=cond (b.1==2) (cond (d.2.1 != 2) (some (a,(20,[],()),())) (k.fk a e b g h i d)) (k.fk a e b g h i d)
def KZ(k:qp)(a:ad.D)(d:aM.D)(i:aL.D)(e:ad.D)(g:aA.D)(h:aV.D)(b:J.D):Option (oI):=cond (i.1==8) (cond (b.2.1==2) (some (a,(21,[],()),())) (k.cn a d e g h b)) (k.cn a d e g h b)
def K0(k:qp)(a:ad.D)(d:aM.D)(j:ad.D)(l:aA.D)(b:aV.D)(e:J.D):Option (oI):=(eX (a,b.1,())).bind fun v1=>(ju (d,v1.1,3,())).bind fun g=>cond (!g.1) (some (a,(13,[],()),())) ((u9 (d,v1.1,e,())).bind fun h=>cond (!h.1) (some (a,(1,[],()),())) (cond (decide ((e.2.2.2.2.2.2.1.length:Int)>0)) (some (a,(39,[],()),())) ((nq (a,())).bind fun v4=>(mE (v4.1,b.1,b.2.1,())).bind fun i=>some (i.1,(0,[],()),()))))
def RR(k:qp):qp:=⟨KY k,KZ k,K0 k⟩
def oJ:Nat->qp:=dF RR ⟨fun _ _ _ _ _ _ _=>none,fun _ _ _ _ _ _ _=>none,fun _ _ _ _ _ _=>none⟩
def xJ(x:ad.D×aM.D×aL.D×Unit):Option (oI):=Dz (oJ aC) x.1 x.2.1 x.2.2.1
def K1(a:ad.D)(b:Int):Option (Bool×Unit):=(j7 (a,b,())).bind fun v1=>cond (decide (v1.1>=0)) ((ax a.2.1.length v1.1).bind fun d=>some ((I J a.2.1 d).2.1==2,())) (some (false,()))
def u_(x:ad.D×Int×Unit):Option (Bool×Unit):=K1 x.1 x.2.1
abbrev RS:Type:=ad.D×aA.D×Unit
def K2(a:ad.D)(d:aM.D)(e:aL.D):Option (RS):=(eI (a,d,e.2.1,false,())).bind fun v1=>cond (v1.1.2.2.2.1 != 0) (some (a,(v1.1.2.2.2.1,[],()),())) ((u_ (a,v1.1.2.2.1,())).bind fun h=>cond h.1 (some (a,(1,[],()),())) ((sX (a,d,e.2.2.1,())).bind fun b=>cond (b.2.1 != 0) (some (a,(b.2.1,[],()),())) ((eX (a,b.1.1,())).bind fun v4=>(ju (d,v4.1,3,())).bind fun i=>cond (!i.1) (some (a,(13,[],()),())) (cond (decide ((v4.1.2.2.2.2.2.2.1.length:Int)>=12)) (some (a,(28,[],()),())) ((nq (a,())).bind fun v6=>(qo (v6.1,b.1.1,b.1.2.1,v1.1.2.2.1,())).bind fun j=>(oG (a,j.1,())).bind fun g=>some (g.1,g.2.1,()))))))
def DA(x:ad.D×aM.D×aL.D×Unit):Option (RS):=K2 x.1 x.2.1 x.2.2.1
abbrev DB:Type:=Int->Int->Int->ad.D->Option (Bool×Unit)
def DC(k2:DB)(a:ad.D)(b:Int)(d:Int):Option (Bool×Unit):=k2 b d 0 a
def DD(k2:DB)(a:Int)(d:Int)(e:Int)(b:ad.D):Option (Bool×Unit):=cond (decide (e<=(b.2.1.length:Int))) (cond (a==d) (some (true,())) (cond (a==1) (some (false,())) ((Dk (b,a,())).bind fun v1=>k2 v1.1 d (aj (e+1)) b))) (some (false,()))
def s6:Nat->DB|0,_,_,_,_=>none|m+1,a,b,d,e=>DD (s6 m) a b d e
def xK(x:ad.D×Int×Int×Unit):Option (Bool×Unit):=DC (s6 aC) x.1 x.2.1 x.2.2.1
abbrev kZ:Type:=ad.D×aA.D×Unit
structure nt where
 dE:ad.D->aM.D->ad.D->aA.D->aV.D->aV.D->Option (kZ)
 gj:ad.D->aM.D->ad.D->aA.D->aV.D->aV.D->J.D->J.D->Option (kZ)
 ns:ad.D->ad.D->aA.D->aV.D->aV.D->J.D->ad.D->J.D->Option (kZ)
 k0:ad.D->ad.D->aA.D->aV.D->aV.D->ad.D->Option (kZ)
 K3:ad.D->ad.D->aA.D->aV.D->aV.D->J.D->ad.D->J.D->Option (kZ)
def DE(k:nt)(a:ad.D)(d:aM.D)(e:aL.D):Option (kZ):=(eI (a,d,e.2.1,false,())).bind fun v1=>cond (v1.1.2.2.2.1 != 0) (some (a,(v1.1.2.2.2.1,[],()),())) ((eI (a,d,e.2.2.1,false,())).bind fun b=>cond (b.1.2.2.2.1 != 0) (cond (b.1.2.2.2.1 != 2) (some (a,(b.1.2.2.2.1,[],()),())) (cond (bm b.1.2.1 []) (some (a,(b.1.2.2.2.1,[],()),())) (k.dE a d (0,[],()) (0,[],()) v1.1 b.1))) (k.dE a d (0,[],()) (0,[],()) v1.1 b.1))
def K4(k:nt)(a:ad.D)(d:aM.D)(i:ad.D)(j:aA.D)(b:aV.D)(e:aV.D):Option (kZ):=cond (bm b.2.1 []) (some (a,(16,[],()),())) (cond (bm e.2.1 []) (some (a,(16,[],()),())) ((eX (a,b.1,())).bind fun v1=>(eX (a,e.1,())).bind fun h=>(eX (a,b.2.2.1,())).bind fun g=>(ju (d,v1.1,3,())).bind fun v4=>cond (!v4.1) (some (a,(13,[],()),())) ((ju (d,h.1,3,())).bind fun l=>cond (!l.1) (some (a,(13,[],()),())) ((u9 (d,v1.1,g.1,())).bind fun v6=>cond (!v6.1) (some (a,(1,[],()),())) (cond (g.1.2.1==2) ((xK (a,e.1,b.2.2.1,())).bind fun m=>cond m.1 (some (a,(22,[],()),())) (k.gj a d i j b e h.1 g.1)) (k.gj a d i j b e h.1 g.1))))))
def K5(k:nt)(a:ad.D)(l:aM.D)(e:ad.D)(g:aA.D)(d:aV.D)(b:aV.D)(j:J.D)(i:J.D):Option (kZ):=(nq (a,())).bind fun v1=>cond (decide (b.2.2.1>0)) (cond (b.2.2.1==d.2.2.1) (some (a,(0,[],()),())) ((eX (a,b.2.2.1,())).bind fun h=>(u9 (l,j,h.1,())).bind fun m=>cond (!m.1) (some (a,(1,[],()),())) (cond (i.2.1==2) (cond (h.1.2.1 != 2) (some (a,(20,[],()),())) (k.ns a e g d b i v1.1 h.1)) (k.ns a e g d b i v1.1 h.1)))) (cond (d.1 != b.1) (cond (decide ((j.2.2.2.2.2.2.1.length:Int)>=12)) (some (a,(28,[],()),())) (k.k0 a e g d b v1.1)) (k.k0 a e g d b v1.1))
def K6(k:nt)(a:ad.D)(e:ad.D)(g:aA.D)(h:aV.D)(i:aV.D)(b:J.D)(j:ad.D)(d:J.D):Option (kZ):=cond (b.2.1==2) (cond (decide ((d.2.2.2.2.2.2.1.length:Int)>0)) (some (a,(39,[],()),())) (k.K3 a e g h i b j d)) (k.K3 a e g h i b j d)
def K7(k:nt)(e:ad.D)(i:ad.D)(j:aA.D)(a:aV.D)(b:aV.D)(g:ad.D):Option (kZ):=(qo (g,b.1,b.2.1,a.2.2.1,())).bind fun v1=>(mE (v1.1,a.1,a.2.1,())).bind fun h=>(oG (e,h.1,())).bind fun d=>some (d.1,d.2.1,())
def K8(k:nt)(b:ad.D)(d:ad.D)(e:aA.D)(g:aV.D)(a:aV.D)(i:J.D)(h:ad.D)(j:J.D):Option (kZ):=cond (i.2.1 != 2) (cond (j.2.1==2) (some (b,(21,[],()),())) ((mE (h,a.1,a.2.1,())).bind fun v1=>k.k0 b d e g a v1.1)) ((mE (h,a.1,a.2.1,())).bind fun l=>k.k0 b d e g a l.1)
def RT(k:nt):nt:=⟨K4 k,K5 k,K6 k,K7 k,K8 k⟩
def fX:Nat->nt:=dF RT ⟨fun _ _ _ _ _ _=>none,fun _ _ _ _ _ _ _ _=>none,fun _ _ _ _ _ _ _ _=>none,fun _ _ _ _ _ _=>none,fun _ _ _ _ _ _ _ _=>none⟩
def DF(x:ad.D×aM.D×aL.D×Unit):Option (kZ):=DE (fX aC) x.1 x.2.1 x.2.2.1
structure qq where
 k2:Int->(af)->(List Int)->Option ((af)×Unit)
 a_:Int->(af)->Int->(List Int)->Option ((af)×Unit)
def DG(k:qq)(a:af)(b:Int)(d:af):Option ((af)×Unit):=k.k2 b d (eg a)
def xL(k:qq)(b:Int)(d:af)(a:List Int):Option ((af)×Unit):=cond (decide ((a.length:Int)<aj (b +(d.length:Int)))) (cond (room (a.length+[0].length)) (k.k2 b d (a++[0])) (none)) (k.a_ b d 0 a)
def RU(k:qq)(a:Int)(b:af)(d:Int)(e:List Int):Option ((af)×Unit):=k.a_ a b (aj (d+1)) e
def xM(k:qq)(e:Int)(a:af)(b:Int)(d:List Int):Option ((af)×Unit):=cond (decide (b<(a.length:Int))) ((ax a.length b).bind fun v1=>(ax d.length (aj (e+b))).bind fun g=>RU k e a b (d.set (0+g) ((a.getD v1 0).toNat:Int))) (some (ek d,()))
def RV(k:qq):qq:=⟨xL k,xM k⟩
def lG:Nat->qq:=dF RV ⟨fun _ _ _=>none,fun _ _ _ _=>none⟩
def qs(x:(af)×Int×(af)×Unit):Option ((af)×Unit):=DG (lG aC) x.1 x.2.1 x.2.2.1
abbrev s7:Type:=ad.D×aA.D×Unit
structure s8 where
 eO:Int->ad.D->aL.D->ad.D->aA.D->J.D->Option (s7)
 gK:ad.D->ad.D->aA.D->J.D->Option (s7)
def DH(k:s8)(a:ad.D)(e:aM.D)(b:aL.D):Option (s7):=(eI (a,e,b.2.1,true,())).bind fun v1=>cond (v1.1.2.2.2.1 != 0) (some (a,(v1.1.2.2.2.1,[],()),())) ((eX (a,v1.1.2.2.1,())).bind fun d=>cond (d.1.2.1==2) (some (a,(21,[],()),())) ((ju (e,d.1,2,())).bind fun g=>cond (!g.1) (some (a,(13,[],()),())) (cond (b.1==6) (k.eO (d.1.2.2.2.2.2.1.length:Int) a b (0,[],()) (0,[],()) d.1) (k.eO b.2.2.2.1 a b (0,[],()) (0,[],()) d.1))))
def K9(k:s8)(b:Int)(d:ad.D)(e:aL.D)(h:ad.D)(i:aA.D)(a:J.D):Option (s7):=cond (decide (b<0)) (some (d,(22,[],()),())) (cond (e.1==7) (cond (decide (b>64)) (some (d,(27,[],()),())) ((qs (a.2.2.2.2.2.1,b,[],())).bind fun v1=>(cZ v1.1.length 0 b).bind fun g=>k.gK d h i (a.1,a.2.1,a.2.2.1,a.2.2.2.1,a.2.2.2.2.1,part v1.1 g.1 (g.2-g.1),a.2.2.2.2.2.2.1,a.2.2.2.2.2.2.2.1,a.2.2.2.2.2.2.2.2.1,()))) (cond (bm e.2.2.2.2.2.1 []) (some (d,(0,[],()),())) (cond (decide (b>aj (64-(e.2.2.2.2.2.1.length:Int)))) (some (d,(27,[],()),())) ((qs (a.2.2.2.2.2.1,b,e.2.2.2.2.2.1,())).bind fun j=>k.gK d h i (a.1,a.2.1,a.2.2.1,a.2.2.2.1,a.2.2.2.2.1,j.1,a.2.2.2.2.2.2.1,a.2.2.2.2.2.2.2.1,a.2.2.2.2.2.2.2.2.1,())))))
def K_(k:s8)(a:ad.D)(g:ad.D)(h:aA.D)(d:J.D):Option (s7):=(nq (a,())).bind fun v1=>(mB (v1.1,d,())).bind fun e=>(oG (a,e.1,())).bind fun b=>some (b.1,b.2.1,())
def RW(k:s8):s8:=⟨K9 k,K_ k⟩
def jv:Nat->s8:=dF RW ⟨fun _ _ _ _ _ _=>none,fun _ _ _ _=>none⟩
def u'(x:ad.D×aM.D×aL.D×Unit):Option (s7):=DH (jv aC) x.1 x.2.1 x.2.2.1
abbrev mF:Type:=ad.D×aA.D×Unit
structure oK where
 cE:Bool->ad.D->aM.D->aL.D->ad.D->aA.D->Option (mF)
 eO:ad.D->aM.D->aL.D->ad.D->aA.D->Option (mF)
 nd:ad.D->aM.D->aL.D->ad.D->aA.D->J.D->Option (mF)
 k4:ad.D->ad.D->aA.D->J.D->Option (mF)
def qt(k:oK)(b:ad.D)(d:aM.D)(a:aL.D):Option (mF):=cond (a.1==15) ((cH (a.2.2.2.1,0,2047,())).bind fun v1=>k.cE (!v1.1) b d a (0,[],()) (0,[],())) (cond (a.1==16) ((cH (a.2.2.2.1,0,1000,())).bind fun e=>cond (!e.1) (k.cE true b d a (0,[],()) (0,[],())) ((cH (a.2.2.2.2.1,0,1000,())).bind fun g=>k.cE (!g.1) b d a (0,[],()) (0,[],()))) ((cH (a.2.2.2.1,0,400,())).bind fun v4=>cond (!v4.1) (k.cE true b d a (0,[],()) (0,[],())) ((cH (a.2.2.2.2.1,0,24,())).bind fun h=>k.cE (!h.1) b d a (0,[],()) (0,[],()))))
def xN(k:oK)(h:Bool)(a:ad.D)(b:aM.D)(d:aL.D)(e:ad.D)(g:aA.D):Option (mF):=cond h (some (a,(22,[],()),())) (cond (d.1==19) (cond (b.1 != 0) (some (a,(1,[],()),())) (k.eO a b d e g)) (k.eO a b d e g))
def xO(k:oK)(b:ad.D)(e:aM.D)(d:aL.D)(g:ad.D)(h:aA.D):Option (mF):=(eI (b,e,d.2.1,true,())).bind fun v1=>cond (v1.1.2.2.2.1 != 0) (some (b,(v1.1.2.2.2.1,[],()),())) ((eX (b,v1.1.2.2.1,())).bind fun a=>cond (d.1==15) (cond (e.1 != 0) (cond (e.1 != a.1.2.2.2.1) (some (b,(1,[],()),())) (k.nd b e d g h a.1)) (k.nd b e d g h a.1)) (cond (d.1==16) (cond (e.1 != 0) (cond (e.1 != a.1.2.2.2.1) (some (b,(1,[],()),())) (cond (d.2.2.2.1 != a.1.2.2.2.1) (some (b,(1,[],()),())) ((sS (e,d.2.2.2.2.1,())).bind fun i=>cond (!i.1) (some (b,(1,[],()),())) (k.k4 b g h (a.1.1,a.1.2.1,a.1.2.2.1,d.2.2.2.1,d.2.2.2.2.1,a.1.2.2.2.2.2.1,a.1.2.2.2.2.2.2.1,a.1.2.2.2.2.2.2.2.1,a.1.2.2.2.2.2.2.2.2.1,()))))) (k.k4 b g h (a.1.1,a.1.2.1,a.1.2.2.1,d.2.2.2.1,d.2.2.2.2.1,a.1.2.2.2.2.2.1,a.1.2.2.2.2.2.2.1,a.1.2.2.2.2.2.2.2.1,a.1.2.2.2.2.2.2.2.2.1,()))) (cond (a.1.2.1 != 2) (some (b,(20,[],()),())) (k.k4 b g h (a.1.1,a.1.2.1,a.1.2.2.1,a.1.2.2.2.1,a.1.2.2.2.2.1,a.1.2.2.2.2.2.1,a.1.2.2.2.2.2.2.1,d.2.2.2.1,d.2.2.2.2.1,())))))
def K'(k:oK)(b:ad.D)(h:aM.D)(d:aL.D)(e:ad.D)(g:aA.D)(a:J.D):Option (mF):=cond (h.1 != 0) ((sS (h,a.2.2.2.2.1,())).bind fun v1=>cond (!v1.1) (k.k4 b e g (a.1,a.2.1,cJ .andNot .i64 d.2.2.2.1 1024,a.2.2.2.1,a.2.2.2.2.1,a.2.2.2.2.2.1,a.2.2.2.2.2.2.1,a.2.2.2.2.2.2.2.1,a.2.2.2.2.2.2.2.2.1,())) (k.k4 b e g (a.1,a.2.1,d.2.2.2.1,a.2.2.2.1,a.2.2.2.2.1,a.2.2.2.2.2.1,a.2.2.2.2.2.2.1,a.2.2.2.2.2.2.2.1,a.2.2.2.2.2.2.2.2.1,()))) (k.k4 b e g (a.1,a.2.1,d.2.2.2.1,a.2.2.2.1,a.2.2.2.2.1,a.2.2.2.2.2.1,a.2.2.2.2.2.2.1,a.2.2.2.2.2.2.2.1,a.2.2.2.2.2.2.2.2.1,()))
def La(k:oK)(a:ad.D)(g:ad.D)(h:aA.D)(d:J.D):Option (mF):=(nq (a,())).bind fun v1=>(mB (v1.1,d,())).bind fun e=>(oG (a,e.1,())).bind fun b=>some (b.1,b.2.1,())
def RX(k:oK):oK:=⟨xN k,xO k,K' k,La k⟩
def gL:Nat->oK:=dF RX ⟨fun _ _ _ _ _ _=>none,fun _ _ _ _ _=>none,fun _ _ _ _ _ _=>none,fun _ _ _ _=>none⟩
def qu(x:ad.D×aM.D×aL.D×Unit):Option (mF):=qt (gL aC) x.1 x.2.1 x.2.2.1
abbrev DI:Type:=Int->Int->Int->ad.D->Option (Int×Unit)
def DJ(cE:DI)(a:ad.D)(b:Int):Option (Int×Unit):=(j7 (a,b,())).bind fun v1=>cond (decide (v1.1<0)) (some (0,())) ((ax a.2.1.length v1.1).bind fun d=>cond ((I J a.2.1 d).2.1 != 2) ((xl (a,b,())).bind fun e=>some (e.1,())) (cE v1.1 2 0 a))
def DK(cE:DI)(b:Int)(e:Int)(d:Int)(a:ad.D):Option (Int×Unit):=(ax a.2.1.length b).bind fun v1=>cond (decide (d<(((I J a.2.1 v1).2.2.2.2.2.2.1).length:Int))) ((ax a.2.1.length b).bind fun g=>(ax (((I J a.2.1 g).2.2.2.2.2.2.1).length) d).bind fun h=>(u_ (a,(I ar ((I J a.2.1 g).2.2.2.2.2.2.1) h).2.1,())).bind fun v4=>cond v4.1 (cE b (aj (e+1)) (aj (d+1)) a) (cE b e (aj (d+1)) a)) (some (e,()))
def s9:Nat->DI|0,_,_,_,_=>none|m+1,a,b,d,e=>DK (s9 m) a b d e
def DL(x:ad.D×Int×Unit):Option (Int×Unit):=DJ (s9 aC) x.1 x.2.1
structure lH where
 a_:ad.D->aM.D->aL.D->aA.D->Option (aA.D×Unit)
 c7:ad.D->aM.D->aL.D->aA.D->aV.D->Option (aA.D×Unit)
 s_:Int->aL.D->aA.D->J.D->(List Int)->Option (aA.D×Unit)
 qv:(af)->Int->aA.D->J.D->Option (aA.D×Unit)
 DM:(af)->Int->aA.D->J.D->Option (aA.D×Unit)
def oL(k:lH)(b:ad.D)(d:aM.D)(a:aL.D):Option (aA.D×Unit):=cond (a.1==18) ((eB ((b.2.1.length:Int),())).bind fun v1=>cond (room (v1.1.length +([32]:af).length)) ((xm (b,())).bind fun g=>(eB (g.1,())).bind fun e=>cond (room ((v1.1++([32]:af)).length+e.1.length)) (some ((0,(v1.1++([32]:af))++e.1,()),())) (none)) (none)) (cond (a.1==14) (cond (a.2.2.2.1 != 0) (cond (a.2.2.2.1 != 1) (some ((22,[],()),())) (cond (a.1==17) ((cH (a.2.2.2.1,0,7,())).bind fun v4=>cond (!v4.1) (some ((22,[],()),())) (k.a_ b d a (0,[],()))) (k.a_ b d a (0,[],())))) (cond (a.1==17) ((cH (a.2.2.2.1,0,7,())).bind fun h=>cond (!h.1) (some ((22,[],()),())) (k.a_ b d a (0,[],()))) (k.a_ b d a (0,[],())))) (cond (a.1==17) ((cH (a.2.2.2.1,0,7,())).bind fun v6=>cond (!v6.1) (some ((22,[],()),())) (k.a_ b d a (0,[],()))) (k.a_ b d a (0,[],()))))
def Lb(k:lH)(b:ad.D)(d:aM.D)(a:aL.D)(e:aA.D):Option (aA.D×Unit):=cond (a.1 != 11) (cond (a.1 != 14) ((eI (b,d,a.2.1,true,())).bind fun v1=>k.c7 b d a e v1.1) ((eI (b,d,a.2.1,a.2.2.2.1==0,())).bind fun g=>k.c7 b d a e g.1)) ((eI (b,d,a.2.1,false,())).bind fun h=>k.c7 b d a e h.1)
def qw(k:lH)(l:ad.D)(h:aM.D)(a:aL.D)(n:aA.D)(m:aV.D):Option (aA.D×Unit):=cond (m.2.2.2.1 != 0) (some ((m.2.2.2.1,[],()),())) ((eX (l,m.2.2.1,())).bind fun v1=>cond (a.1==4) (cond (v1.1.2.1==2) (some ((21,[],()),())) ((ju (h,v1.1,4,())).bind fun q=>cond (!q.1) (some ((13,[],()),())) (cond (decide (a.2.2.2.1<0)) (some ((22,[],()),())) (cond (decide (a.2.2.2.2.1<0)) (some ((22,[],()),())) (k.s_ a.2.2.2.1 a n v1.1 []))))) (cond (a.1==11) (cond (v1.1.2.1 != 3) (some ((22,[],()),())) (some ((0,v1.1.2.2.2.2.2.1,()),()))) (cond (a.1==13) (cond (!(v1.1.2.1==2)) (some ((20,[],()),())) ((ju (h,v1.1,4,())).bind fun r=>cond (!r.1) (some ((13,[],()),())) (k.qv ([]:af) 0 n v1.1))) (cond (a.1==14) ((eB (v1.1.2.1,())).bind fun v4=>cond (room (v4.1.length +([32]:af).length)) ((eB (v1.1.2.2.1,())).bind fun b=>cond (room ((v4.1++([32]:af)).length+b.1.length)) (cond (room (((v4.1++([32]:af))++b.1).length +([32]:af).length)) ((eB (v1.1.2.2.2.1,())).bind fun v6=>cond (room ((((v4.1++([32]:af))++b.1)++([32]:af)).length+v6.1.length)) (cond (room (((((v4.1++([32]:af))++b.1)++([32]:af))++v6.1).length +([32]:af).length)) ((eB (v1.1.2.2.2.2.1,())).bind fun e=>cond (room ((((((v4.1++([32]:af))++b.1)++([32]:af))++v6.1)++([32]:af)).length+e.1.length)) (cond (room (((((((v4.1++([32]:af))++b.1)++([32]:af))++v6.1)++([32]:af))++e.1).length +([32]:af).length)) ((DL (l,v1.1.1,())).bind fun s=>(eB (s.1,())).bind fun i=>cond (room ((((((((v4.1++([32]:af))++b.1)++([32]:af))++v6.1)++([32]:af))++e.1)++([32]:af)).length+i.1.length)) (cond (room (((((((((v4.1++([32]:af))++b.1)++([32]:af))++v6.1)++([32]:af))++e.1)++([32]:af))++i.1).length +([32]:af).length)) ((eB ((v1.1.2.2.2.2.2.1.length:Int),())).bind fun v10=>cond (room ((((((((((v4.1++([32]:af))++b.1)++([32]:af))++v6.1)++([32]:af))++e.1)++([32]:af))++i.1)++([32]:af)).length+v10.1.length)) (some ((0,(((((((((v4.1++([32]:af))++b.1)++([32]:af))++v6.1)++([32]:af))++e.1)++([32]:af))++i.1)++([32]:af))++v10.1,()),())) (none)) (none)) (none)) (none)) (none)) (none)) (none)) (none)) (none)) (none)) (cond (a.1==17) ((ju (h,v1.1,a.2.2.2.1,())).bind fun v11=>cond (!v11.1) (some ((13,[],()),())) (some ((0,[],()),()))) (cond (!(v1.1.2.1==2)) (some ((20,[],()),())) ((ju (h,v1.1,4,())).bind fun u=>cond (!u.1) (some ((13,[],()),())) ((xn (l,v1.1.1,())).bind fun o=>(eB (v1.1.2.2.2.2.2.2.2.1,())).bind fun d=>cond (room (d.1.length +([32]:af).length)) ((eB (v1.1.2.2.2.2.2.2.2.2.1,())).bind fun g=>cond (room ((d.1++([32]:af)).length+g.1.length)) (cond (room (((d.1++([32]:af))++g.1).length +([32]:af).length)) ((eB (o.1,())).bind fun j=>cond (room ((((d.1++([32]:af))++g.1)++([32]:af)).length+j.1.length)) (cond (room (((((d.1++([32]:af))++g.1)++([32]:af))++j.1).length +([32]:af).length)) ((eB (o.2.1,())).bind fun p=>cond (room ((((((d.1++([32]:af))++g.1)++([32]:af))++j.1)++([32]:af)).length+p.1.length)) (some ((0,(((((d.1++([32]:af))++g.1)++([32]:af))++j.1)++([32]:af))++p.1,()),())) (none)) (none)) (none)) (none)) (none)) (none)))))))))
def aa4(k:lH)(a:Int)(b:aL.D)(d:aA.D)(e:J.D)(g:List Int):Option (aA.D×Unit):=k.s_ (aj (a+1)) b d e g
def DN(k:lH)(b:Int)(e:aL.D)(g:aA.D)(a:J.D)(d:List Int):Option (aA.D×Unit):=cond (decide (b<(a.2.2.2.2.2.1.length:Int))) (cond (decide (b<aj (e.2.2.2.1+e.2.2.2.2.1))) ((ax a.2.2.2.2.2.1.length b).bind fun v1=>cond (room (d.length+[((a.2.2.2.2.2.1.getD v1 0).toNat:Int)].length)) (aa4 k b e g a (d++[((a.2.2.2.2.2.1.getD v1 0).toNat:Int)])) (none)) (some ((0,ek d,()),()))) (some ((0,ek d,()),()))
def DO(k:lH)(a:af)(b:Int)(e:aA.D)(d:J.D):Option (aA.D×Unit):=cond (decide (b<(d.2.2.2.2.2.2.1.length:Int))) (cond (decide (b>0)) (cond (room (a.length +([47]:af).length)) (k.DM (a++([47]:af)) b e d) (none)) (k.DM a b e d)) (some ((0,a,()),()))
def Lc(k:lH)(b:af)(d:Int)(e:aA.D)(a:J.D):Option (aA.D×Unit):=(ax a.2.2.2.2.2.2.1.length d).bind fun v1=>cond (room (b.length +((I ar a.2.2.2.2.2.2.1 v1).1).length)) (k.qv (b++((I ar a.2.2.2.2.2.2.1 v1).1)) (aj (d+1)) e a) (none)
def RY(k:lH):lH:=⟨Lb k,qw k,DN k,DO k,Lc k⟩
def fh:Nat->lH:=dF RY ⟨fun _ _ _ _=>none,fun _ _ _ _ _=>none,fun _ _ _ _ _=>none,fun _ _ _ _=>none,fun _ _ _ _=>none⟩
def j9(x:ad.D×aM.D×aL.D×Unit):Option (aA.D×Unit):=oL (fh aC) x.1 x.2.1 x.2.2.1
abbrev oM:Type:=ad.D×aA.D×Unit
structure qx where
 cE:Int->ad.D->aM.D->aL.D->ad.D->aA.D->Option (oM)
 cn:Int->ad.D->aM.D->aL.D->ad.D->aA.D->Option (oM)
 jr:Int->ad.D->aM.D->aL.D->ad.D->aA.D->Option (oM)
def va(k:qx)(b:ad.D)(d:aM.D)(a:aL.D):Option (oM):=(sH (a,())).bind fun v1=>cond (!v1.1) (some (b,(22,[],()),())) (cond (decide (a.1>20)) (some (b,(22,[],()),())) (cond (a.1==1) (cond (a.1==1) ((sZ (b,d,a,())).bind fun e=>some (e.1,e.2.1,())) (k.cE a.1 b d a (0,[],()) (0,[],()))) (cond (a.1==3) (cond (a.1==3) ((sZ (b,d,a,())).bind fun g=>some (g.1,g.2.1,())) (k.cE a.1 b d a (0,[],()) (0,[],()))) (cond (a.1==10) ((sZ (b,d,a,())).bind fun v4=>some (v4.1,v4.2.1,())) (k.cE a.1 b d a (0,[],()) (0,[],()))))))
def aa5(k:qx)(a:Int)(b:ad.D)(d:aM.D)(e:aL.D)(g:ad.D)(h:aA.D):Option (oM):=cond (a==2) (cond (a==2) ((xJ (b,d,e,())).bind fun v1=>some (v1.1,v1.2.1,())) (k.cn a b d e g h)) (cond (a==8) ((xJ (b,d,e,())).bind fun i=>some (i.1,i.2.1,())) (k.cn a b d e g h))
def aa6(k:qx)(a:Int)(b:ad.D)(d:aM.D)(e:aL.D)(g:ad.D)(h:aA.D):Option (oM):=cond (a==9) ((DA (b,d,e,())).bind fun v1=>some (v1.1,v1.2.1,())) (cond (a==12) ((DF (b,d,e,())).bind fun i=>some (i.1,i.2.1,())) (cond (a==5) (cond (a==5) ((u' (b,d,e,())).bind fun j=>some (j.1,j.2.1,())) (k.jr a b d e g h)) (cond (a==6) (cond (a==6) ((u' (b,d,e,())).bind fun v4=>some (v4.1,v4.2.1,())) (k.jr a b d e g h)) (cond (a==7) ((u' (b,d,e,())).bind fun l=>some (l.1,l.2.1,())) (k.jr a b d e g h)))))
def aa7(k:qx)(e:Int)(a:ad.D)(b:aM.D)(d:aL.D)(j:ad.D)(l:aA.D):Option (oM):=cond (e==15) (cond (e==15) ((qu (a,b,d,())).bind fun v1=>some (v1.1,v1.2.1,())) ((j9 (a,b,d,())).bind fun i=>some (a,i.1,()))) (cond (e==16) (cond (e==16) ((qu (a,b,d,())).bind fun g=>some (g.1,g.2.1,())) ((j9 (a,b,d,())).bind fun v4=>some (a,v4.1,()))) (cond (e==19) ((qu (a,b,d,())).bind fun h=>some (h.1,h.2.1,())) ((j9 (a,b,d,())).bind fun v6=>some (a,v6.1,()))))
def RZ(k:qx):qx:=⟨aa5 k,aa6 k,aa7 k⟩
def DP:Nat->qx:=dF RZ ⟨fun _ _ _ _ _ _=>none,fun _ _ _ _ _ _=>none,fun _ _ _ _ _ _=>none⟩
def s'(x:ad.D×aM.D×aL.D×Unit):Option (oM):=va (DP aC) x.1 x.2.1 x.2.2.1
abbrev ta:Type:=ak.D×aA.D×Unit
structure tb where
 c4:ak.D->aL.D->ak.D->aA.D->aM.D->Option (ta)
 jr:ak.D->aL.D->ak.D->aA.D->aM.D->Option (ta)
def DQ(k:tb)(a:ak.D)(e:Int)(b:aL.D):Option (ta):=(KH (e,())).bind fun v1=>(sH (b,())).bind fun g=>cond (!g.1) (some (a,(22,[],()),())) ((KL (a.2.1,b.1,())).bind fun d=>cond (!d.2.1) (some (a,(11,[],()),())) (cond (b.1==21) (cond (v1.1.1 != 0) (some ((a.1,d.1,a.2.2.1,a.2.2.2.1,()),(1,[],()),())) (k.c4 (a.1,d.1,a.2.2.1,a.2.2.2.1,()) b ((0,[],()),0,[],[],()) (0,[],()) v1.1)) (cond (b.1==22) (cond (v1.1.1 != 0) (some ((a.1,d.1,a.2.2.1,a.2.2.2.1,()),(1,[],()),())) (k.c4 (a.1,d.1,a.2.2.1,a.2.2.2.1,()) b ((0,[],()),0,[],[],()) (0,[],()) v1.1)) (k.c4 (a.1,d.1,a.2.2.1,a.2.2.2.1,()) b ((0,[],()),0,[],[],()) (0,[],()) v1.1))))
def vd(k:tb)(a:ak.D)(b:aL.D)(d:ak.D)(e:aA.D)(g:aM.D):Option (ta):=cond (b.1==21) (cond (decide (b.2.2.2.1<0)) (some (a,(22,[],()),())) ((KN (a.2.2.1,b.2.2.2.1,())).bind fun v1=>some (a,(0,v1.1,()),()))) (cond (b.1==22) (some ((a.1,a.2.1,[],a.2.2.2.1,()),(0,[],()),())) ((xx (b.1,())).bind fun h=>cond (!h.1) (cond (decide ((a.2.2.1.length:Int)>=20)) (some (a,(28,[],()),())) (k.jr a b d e g)) (k.jr a b d e g)))
def Ld(k:tb)(a:ak.D)(b:aL.D)(e:ak.D)(g:aA.D)(d:aM.D):Option (ta):=(s' (a.1,d,b,())).bind fun v1=>some ((v1.1,a.2.1,a.2.2.1,a.2.2.2.1,()),v1.2.1,())
def R0(k:tb):tb:=⟨vd k,Ld k⟩
def nu:Nat->tb:=dF R0 ⟨fun _ _ _ _ _=>none,fun _ _ _ _ _=>none⟩
def DR(x:ak.D×Int×aL.D×Unit):Option (ta):=DQ (nu aC) x.1 x.2.1 x.2.2.1
abbrev k5:Type:=ak.D×aA.D×Bool×Unit
structure oN where
 c4:Int->Int->Int->Bool->ak.D->aL.D->ak.D->aA.D->aA.D->Option (k5)
 cn:Int->Int->Int->ak.D->aL.D->ak.D->aA.D->aA.D->Option (k5)
 eO:Int->Int->Int->ak.D->ak.D->aA.D->aA.D->Option (k5)
def DS(k:oN)(a:ak.D)(b:Int)(d:Int)(e:aL.D)(g:Int):Option (k5):=(cH (b,1,3,())).bind fun v1=>cond (!v1.1) (some (a,(0,[],()),false,())) ((cH (d,1,1000000,())).bind fun i=>cond (!i.1) (some (a,(0,[],()),false,())) ((cH (g,1,100000,())).bind fun j=>cond (!j.1) (some (a,(0,[],()),false,())) ((KE (a,())).bind fun v4=>cond (decide (g<v4.1)) (some (a,(0,[],()),false,())) ((C2 (a,b,())).bind fun h=>cond (d==h.1.2.1) (some (a,h.1.2.2.2.1,false,())) (cond (d != aj (h.1.2.1+1)) (some (a,(0,[],()),false,())) ((DR (a,b,e,())).bind fun v6=>cond (e.1==22) (k.c4 b d g (v6.2.1.1==0) v6.1 e ((0,[],()),0,[],[],()) (0,[],()) v6.2.1) (k.c4 b d g false v6.1 e ((0,[],()),0,[],[],()) (0,[],()) v6.2.1)))))))
def Le(k:oN)(d:Int)(e:Int)(g:Int)(l:Bool)(a:ak.D)(j:aL.D)(h:ak.D)(i:aA.D)(b:aA.D):Option (k5):=cond (decide ((a.2.2.1.length:Int)<20)) ((sH (j,())).bind fun v1=>cond v1.1 ((xx (j.1,())).bind fun m=>cond (!m.1) (cond (!l) (k.cn d e g a j h i b) (k.eO d e g a h i b)) (cond (b.1 != 0) (cond (!l) (k.cn d e g a j h i b) (k.eO d e g a h i b)) (k.eO d e g a h i b))) (k.eO d e g a h i b)) (k.eO d e g a h i b)
def aa8(k:oN)(b:Int)(d:Int)(e:Int)(a:ak.D)(g:ak.D)(h:aA.D)(i:aA.D)(v1:List aG.D):Option (k5):=k.eO b d e (a.1,a.2.1,v1,a.2.2.2.1,()) g h i
def Lf(k:oN)(a:Int)(b:Int)(d:Int)(e:ak.D)(h:aL.D)(i:ak.D)(j:aA.D)(g:aA.D):Option (k5):=cond (room (e.2.2.1.length+[(d,a,b,h.1,g.1,())].length)) (aa8 k a b d e i j g (e.2.2.1++[(d,a,b,h.1,g.1,())])) (none)
def aa9(a:ak.D)(b:aA.D)(d:List aK.D):Option (k5):=some ((a.1,a.2.1,a.2.2.1,d,()),b,true,())
def aa_(a:ak.D)(b:aA.D)(d:List aK.D):Option (k5):=some ((a.1,a.2.1,a.2.2.1,d,()),b,true,())
def R1(d:Int)(e:Int)(g:Int)(b:aA.D)(a:ak.D)(v1:Int×Bool×Unit)(h:List aK.D):Option (k5):=cond (room (h.length+[(d,e,g,b,())].length)) ((cZ a.2.2.2.1.length v1.1 (a.2.2.2.1.length:Int)).bind fun v6=>cond (room ((h++[(d,e,g,b,())]).length +(part a.2.2.2.1 (0+v6.1) (v6.2-v6.1)).length)) (aa_ a b ((h++[(d,e,g,b,())])++(part a.2.2.2.1 (0+v6.1) (v6.2-v6.1)))) (none)) (none)
def Lg(k:oN)(b:Int)(e:Int)(g:Int)(a:ak.D)(i:ak.D)(j:aA.D)(d:aA.D):Option (k5):=(C1 (a,b,())).bind fun v1=>cond v1.2.1 ((ax a.2.2.2.1.length v1.1).bind fun h=>aa9 a d (a.2.2.2.1.set (0+h) (b,e,g,d,()))) ((cZ a.2.2.2.1.length 0 v1.1).bind fun v4=>cond (room (([]:List aK.D).length +(part a.2.2.2.1 (0+v4.1) (v4.2-v4.1)).length)) (R1 b e g d a v1 (([]:List aK.D)++(part a.2.2.2.1 (0+v4.1) (v4.2-v4.1)))) (none))
def R2(k:oN):oN:=⟨Le k,Lf k,Lg k⟩
def oO:Nat->oN:=dF R2 ⟨fun _ _ _ _ _ _ _ _ _=>none,fun _ _ _ _ _ _ _ _=>none,fun _ _ _ _ _ _ _=>none⟩
def nv(x:ak.D×Int×Int×aL.D×Int×Unit):Option (k5):=DS (oO aC) x.1 x.2.1 x.2.2.1 x.2.2.2.1 x.2.2.2.2.1
def Lh(a:Int):Option (Int×Unit):=cond (decide (a<0)) (some (4,())) (cond (decide (a>=26)) (some (30,())) (some (aj (a+4),())))
def Li(x:Int×Unit):Option (Int×Unit):=Lh x.1
abbrev k6:Type:=(List ak.D)×(List bh.D)×Unit
structure mG where
 c7:Int->Int->(List ak.D)->(List bh.D)->(List aB.D)->Option (k6)
 c4:Int->Int->(List ak.D)->(List bh.D)->(List aB.D)->Option (k6)
 nj:Int->Int->Bool->(List ak.D)->(List bh.D)->(List aB.D)->aB.D->ak.D->Option (k6)
 p7:Int->Int->(List ak.D)->(List bh.D)->(List aB.D)->aB.D->aK.D->Option (k6)
def DT(k:mG)(a:List ak.D)(b:af)(d:Int):Option (k6):=(KC (b,())).bind fun v1=>cond (!v1.2.1) (some (a,[],())) (k.c7 d 0 a ([]:List bh.D) v1.1)
def R3(k:mG)(a:Int)(b:Int)(d:List bh.D)(e:List aB.D)(v4:List ak.D):Option (k6):=k.c7 a (aj (b+1)) v4 d e
def DU(k:mG)(e:Int)(b:Int)(a:List ak.D)(g:List bh.D)(h:List aB.D):Option (k6):=cond (decide (b<(a.length:Int))) ((ax a.length b).bind fun v1=>(Li ((I ak a (0+v1)).2.1,())).bind fun i=>(ax a.length b).bind fun d=>R3 k e b g h (a.set (0+d) ((I ak a (0+d)).1,i.1,(I ak a (0+d)).2.2.1,(I ak a (0+d)).2.2.2.1,()))) (k.c4 e 0 a g h)
def DV(k:mG)(g:Int)(h:Int)(d:List ak.D)(i:List bh.D)(a:List aB.D):Option (k6):=cond (decide (h<(a.length:Int))) ((ax a.length h).bind fun v1=>(ax d.length ((I aB a (0+v1)).1)).bind fun e=>both (both ((nv (I ak d (0+e),(I aB a (0+v1)).2.1,(I aB a (0+v1)).2.2.1,(I aB a (0+v1)).2.2.2.1,g,())).bind fun b=>dup ((ax d.length ((I aB a (0+v1)).1)).bind fun v4=>cond (Nat.beq (0+v4) (0+e)) (k.nj g h b.2.2.1 (d.set (0+e) b.1) i a (I aB a (0+v1)) b.1) (none))) (dup (dup ((nv (I ak d (0+e),(I aB a (0+v1)).2.1,(I aB a (0+v1)).2.2.1,(I aB a (0+v1)).2.2.2.1,g,())).bind fun b=>(ax d.length ((I aB a (0+v1)).1)).bind fun v4=>cond (Nat.beq (0+v4) (0+e)) (k.nj g h b.2.2.1 (d.set (0+e) b.1) i a (I aB a (0+v1)) b.1) (none))))) (dup (both (dup ((nv (I ak d (0+e),(I aB a (0+v1)).2.1,(I aB a (0+v1)).2.2.1,(I aB a (0+v1)).2.2.2.1,g,())).bind fun b=>(ax d.length ((I aB a (0+v1)).1)).bind fun v4=>cond (Nat.beq (0+v4) (0+e)) (k.nj g h b.2.2.1 (d.set (0+e) b.1) i a (I aB a (0+v1)) b.1) (none))) ((nv (I ak d (0+e),(I aB a (0+v1)).2.1,(I aB a (0+v1)).2.2.1,(I aB a (0+v1)).2.2.2.1,g,())).bind fun b=>(ax d.length ((I aB a (0+v1)).1)).bind fun v4=>cond (Nat.beq (0+v4) (0+e)) (k.nj g h b.2.2.1 (d.set (0+e) b.1) i a (I aB a (0+v1)) b.1) (none))))) (some (d,i,()))
def Lj(k:mG)(b:Int)(d:Int)(i:Bool)(e:List ak.D)(g:List bh.D)(h:List aB.D)(a:aB.D)(j:ak.D):Option (k6):=(C2 (j,a.2.1,())).bind fun v1=>cond i (k.p7 b d e g h a v1.1) (cond (v1.1.2.1==a.2.2.1) (k.p7 b d e g h a v1.1) (k.c4 b (aj (d+1)) e g h))
def R4(k:mG)(a:Int)(b:Int)(d:List ak.D)(e:List aB.D)(v1:List bh.D):Option (k6):=k.c4 a (aj (b+1)) d v1 e
def Lk(k:mG)(e:Int)(g:Int)(h:List ak.D)(d:List bh.D)(i:List aB.D)(a:aB.D)(b:aK.D):Option (k6):=cond (room (d.length+[(a.1,a.2.1,a.2.2.1,b.2.2.1,b.2.2.2.1,())].length)) (R4 k e g h i (d++[(a.1,a.2.1,a.2.2.1,b.2.2.1,b.2.2.2.1,())])) (none)
def R5(k:mG):mG:=⟨DU k,DV k,Lj k,Lk k⟩
def jw:Nat->mG:=dF R5 ⟨fun _ _ _ _ _=>none,fun _ _ _ _ _=>none,fun _ _ _ _ _ _ _ _=>none,fun _ _ _ _ _ _ _=>none⟩
def Ll(x:(List ak.D)×(af)×Int×Unit):Option (k6):=DT (jw aC) x.1 x.2.1 x.2.2.1
def Lm(a:ak.D):Option (ak.D×Unit):=(nq (a.1,())).bind fun v1=>cond (room (([]:List aG.D).length+a.2.2.1.length)) (cond (room (([]:List aK.D).length+a.2.2.2.1.length)) (some ((v1.1,a.2.1,([]:List aG.D)++a.2.2.1,([]:List aK.D)++a.2.2.2.1,()),())) (none)) (none)
def Ln(x:ak.D×Unit):Option (ak.D×Unit):=Lm x.1
abbrev xP:Type:=(List ak.D)×Unit
abbrev DW:Type:=(List ak.D)->Int->(List ak.D)->Option (xP)
def R6(k3:DW)(a:List ak.D):Option (xP):=k3 a 0 ([]:List ak.D)
def DX(k3:DW)(a:List ak.D)(b:Int)(d:List ak.D):Option (xP):=cond (decide (b<(a.length:Int))) ((ax a.length b).bind fun v1=>(Ln (I ak a v1,())).bind fun e=>cond (room (d.length+[e.1].length)) (k3 a (aj (b+1)) (d++[e.1])) (none)) (some (d,()))
def ve:Nat->DW|0,_,_,_=>none|m+1,a,b,d=>DX (ve m) a b d
def Lo(x:(List ak.D)×Unit):Option (xP):=R6 (ve aC) x.1
abbrev R7:Type:=(List ak.D)×(List bh.D)×Unit
def Lp(a:List ak.D)(d:af)(e:Int):Option (R7):=(Kl (a,())).bind fun v1=>cond (!v1.1) (some ([],[],())) ((Lo (a,())).bind fun g=>(Ll (g.1,d,e,())).bind fun b=>some (b.1,b.2.1,()))
def DY(x:(List ak.D)×(af)×Int×Unit):Option (R7):=Lp x.1 x.2.1 x.2.2.1
def Lq(a:ar.D):Option (ar.D×Unit):=some (a,())
def Lr(x:ar.D×Unit):Option (ar.D×Unit):=Lq x.1
abbrev xQ:Type:=(List ar.D)×Unit
abbrev DZ:Type:=(List ar.D)->Int->(List ar.D)->Option (xQ)
def D0(k3:DZ)(a:List ar.D):Option (xQ):=cond (decide (0<=(a.length:Int))&&decide ((a.length:Int)=(a.length:Int))&&room (Int.toNat (a.length:Int))) (k3 a 0 (List.replicate (Int.toNat (a.length:Int)) (([],0,()):ar.D))) (none)
def D1(k3:DZ)(a:List ar.D)(b:Int)(d:List ar.D):Option (xQ):=cond (decide (b<(a.length:Int))) ((ax a.length b).bind fun v1=>(Lr (I ar a v1,())).bind fun e=>(ax d.length b).bind fun g=>k3 a (aj (b+1)) (d.set (0+g) e.1)) (some (d,()))
def tc:Nat->DZ|0,_,_,_=>none|m+1,a,b,d=>D1 (tc m) a b d
def Ls(x:(List ar.D)×Unit):Option (xQ):=D0 (tc aC) x.1
def Lt(a:J.D):Option (J.D×Unit):=(Ls (a.2.2.2.2.2.2.1,())).bind fun v1=>some ((a.1,a.2.1,a.2.2.1,a.2.2.2.1,a.2.2.2.2.1,a.2.2.2.2.2.1,v1.1,a.2.2.2.2.2.2.2.1,a.2.2.2.2.2.2.2.2.1,()),())
def Lu(x:J.D×Unit):Option (J.D×Unit):=Lt x.1
abbrev xR:Type:=(List J.D)×Unit
abbrev D2:Type:=(List J.D)->Int->(List J.D)->Option (xR)
def D3(k3:D2)(a:List J.D):Option (xR):=cond (decide (0<=(a.length:Int))&&decide ((a.length:Int)=(a.length:Int))&&room (Int.toNat (a.length:Int))) (k3 a 0 (List.replicate (Int.toNat (a.length:Int)) ((0,0,0,0,0,[],[],0,0,()):J.D))) (none)
def D4(k3:D2)(a:List J.D)(b:Int)(d:List J.D):Option (xR):=cond (decide (b<(a.length:Int))) ((ax a.length b).bind fun v1=>(Lu (I J a v1,())).bind fun e=>(ax d.length b).bind fun g=>k3 a (aj (b+1)) (d.set (0+g) e.1)) (some (d,()))
def td:Nat->D2|0,_,_,_=>none|m+1,a,b,d=>D4 (td m) a b d
def Lv(x:(List J.D)×Unit):Option (xR):=D3 (td aC) x.1
def Lw(a:ad.D):Option (ad.D×Unit):=(Lv (a.2.1,())).bind fun v1=>some ((a.1,v1.1,()),())
def Lx(x:ad.D×Unit):Option (ad.D×Unit):=Lw x.1
def Ly(a:aG.D):Option (aG.D×Unit):=some (a,())
def LA(x:aG.D×Unit):Option (aG.D×Unit):=Ly x.1
abbrev xS:Type:=(List aG.D)×Unit
abbrev D5:Type:=(List aG.D)->Int->(List aG.D)->Option (xS)
def D6(k3:D5)(a:List aG.D):Option (xS):=cond (decide (0<=(a.length:Int))&&decide ((a.length:Int)=(a.length:Int))&&room (Int.toNat (a.length:Int))) (k3 a 0 (List.replicate (Int.toNat (a.length:Int)) ((0,0,0,0,0,()):aG.D))) (none)
def D7(k3:D5)(a:List aG.D)(b:Int)(d:List aG.D):Option (xS):=cond (decide (b<(a.length:Int))) ((ax a.length b).bind fun v1=>(LA (I aG a v1,())).bind fun e=>(ax d.length b).bind fun g=>k3 a (aj (b+1)) (d.set (0+g) e.1)) (some (d,()))
def te:Nat->D5|0,_,_,_=>none|m+1,a,b,d=>D7 (te m) a b d
def LB(x:(List aG.D)×Unit):Option (xS):=D6 (te aC) x.1
def LC(a:aA.D):Option (aA.D×Unit):=some (a,())
def LD(x:aA.D×Unit):Option (aA.D×Unit):=LC x.1
def LF(a:aK.D):Option (aK.D×Unit):=(LD (a.2.2.2.1,())).bind fun v1=>some ((a.1,a.2.1,a.2.2.1,v1.1,()),())
def LG(x:aK.D×Unit):Option (aK.D×Unit):=LF x.1
abbrev xT:Type:=(List aK.D)×Unit
abbrev D8:Type:=(List aK.D)->Int->(List aK.D)->Option (xT)
def D9(k3:D8)(a:List aK.D):Option (xT):=cond (decide (0<=(a.length:Int))&&decide ((a.length:Int)=(a.length:Int))&&room (Int.toNat (a.length:Int))) (k3 a 0 (List.replicate (Int.toNat (a.length:Int)) ((0,0,0,(0,[],()),()):aK.D))) (none)
def D_(k3:D8)(a:List aK.D)(b:Int)(d:List aK.D):Option (xT):=cond (decide (b<(a.length:Int))) ((ax a.length b).bind fun v1=>(LG (I aK a v1,())).bind fun e=>(ax d.length b).bind fun g=>k3 a (aj (b+1)) (d.set (0+g) e.1)) (some (d,()))
def tf:Nat->D8|0,_,_,_=>none|m+1,a,b,d=>D_ (tf m) a b d
def LH(x:(List aK.D)×Unit):Option (xT):=D9 (tf aC) x.1
end
noncomputable section
def LI(a:ak.D):Option (ak.D×Unit):=(Lx (a.1,())).bind fun v1=>(LB (a.2.2.1,())).bind fun b=>(LH (a.2.2.2.1,())).bind fun d=>some ((v1.1,a.2.1,b.1,d.1,()),())
def LJ(x:ak.D×Unit):Option (ak.D×Unit):=LI x.1
abbrev xU:Type:=(List ak.D)×Unit
abbrev D':Type:=(List ak.D)->Int->(List ak.D)->Option (xU)
def Ea(k3:D')(a:List ak.D):Option (xU):=cond (decide (0<=(a.length:Int))&&decide ((a.length:Int)=(a.length:Int))&&room (Int.toNat (a.length:Int))) (k3 a 0 (List.replicate (Int.toNat (a.length:Int)) (((0,[],()),0,[],[],()):ak.D))) (none)
def Eb(k3:D')(a:List ak.D)(b:Int)(d:List ak.D):Option (xU):=cond (decide (b<(a.length:Int))) ((ax a.length b).bind fun v1=>(LJ (I ak a v1,())).bind fun e=>(ax d.length b).bind fun g=>k3 a (aj (b+1)) (d.set (0+g) e.1)) (some (d,()))
def tg:Nat->D'|0,_,_,_=>none|m+1,a,b,d=>Eb (tg m) a b d
def vf(x:(List ak.D)×Unit):Option (xU):=Ea (tg aC) x.1
def LK(a:ar.D)(b:ar.D):Option (Bool×Unit):=cond (!(bm a.1 b.1)) (some (false,())) (cond (a.2.1 != b.2.1) (some (false,())) (some (true,())))
def LL(x:ar.D×ar.D×Unit):Option (Bool×Unit):=LK x.1 x.2.1
abbrev Ec:Type:=(List ar.D)->(List ar.D)->Int->Option (Bool×Unit)
def Ed(aZ:Ec)(a:List ar.D)(b:List ar.D):Option (Bool×Unit):=cond ((a.length:Int) !=(b.length:Int)) (some (false,())) (aZ a b 0)
def Ee(aZ:Ec)(a:List ar.D)(d:List ar.D)(b:Int):Option (Bool×Unit):=cond (decide (b<(a.length:Int))) ((ax a.length b).bind fun v1=>(ax d.length b).bind fun e=>(LL (I ar a v1,I ar d e,())).bind fun g=>cond (!g.1) (some (false,())) (aZ a d (aj (b+1)))) (some (true,()))
def th:Nat->Ec|0,_,_,_=>none|m+1,a,b,d=>Ee (th m) a b d
def LN(x:(List ar.D)×(List ar.D)×Unit):Option (Bool×Unit):=Ed (th aC) x.1 x.2.1
def LO(a:J.D)(b:J.D):Option (Bool×Unit):=cond (a.1 != b.1) (some (false,())) (cond (a.2.1 != b.2.1) (some (false,())) (cond (a.2.2.1 != b.2.2.1) (some (false,())) (cond (a.2.2.2.1 != b.2.2.2.1) (some (false,())) (cond (a.2.2.2.2.1 != b.2.2.2.2.1) (some (false,())) (cond (!(bm a.2.2.2.2.2.1 b.2.2.2.2.2.1)) (some (false,())) ((LN (a.2.2.2.2.2.2.1,b.2.2.2.2.2.2.1,())).bind fun v1=>cond (!v1.1) (some (false,())) (cond (a.2.2.2.2.2.2.2.1 != b.2.2.2.2.2.2.2.1) (some (false,())) (cond (a.2.2.2.2.2.2.2.2.1 != b.2.2.2.2.2.2.2.2.1) (some (false,())) (some (true,()))))))))))
def LP(x:J.D×J.D×Unit):Option (Bool×Unit):=LO x.1 x.2.1
abbrev Ef:Type:=(List J.D)->(List J.D)->Int->Option (Bool×Unit)
def Eg(aZ:Ef)(a:List J.D)(b:List J.D):Option (Bool×Unit):=cond ((a.length:Int) !=(b.length:Int)) (some (false,())) (aZ a b 0)
def Eh(aZ:Ef)(a:List J.D)(d:List J.D)(b:Int):Option (Bool×Unit):=cond (decide (b<(a.length:Int))) ((ax a.length b).bind fun v1=>(ax d.length b).bind fun e=>(LP (I J a v1,I J d e,())).bind fun g=>cond (!g.1) (some (false,())) (aZ a d (aj (b+1)))) (some (true,()))
def ti:Nat->Ef|0,_,_,_=>none|m+1,a,b,d=>Eh (ti m) a b d
def LQ(x:(List J.D)×(List J.D)×Unit):Option (Bool×Unit):=Eg (ti aC) x.1 x.2.1
def LR(a:ad.D)(b:ad.D):Option (Bool×Unit):=cond (a.1 != b.1) (some (false,())) ((LQ (a.2.1,b.2.1,())).bind fun v1=>cond (!v1.1) (some (false,())) (some (true,())))
def LS(x:ad.D×ad.D×Unit):Option (Bool×Unit):=LR x.1 x.2.1
def LU(a:aG.D)(b:aG.D):Option (Bool×Unit):=cond (a.1 != b.1) (some (false,())) (cond (a.2.1 != b.2.1) (some (false,())) (cond (a.2.2.1 != b.2.2.1) (some (false,())) (cond (a.2.2.2.1 != b.2.2.2.1) (some (false,())) (cond (a.2.2.2.2.1 != b.2.2.2.2.1) (some (false,())) (some (true,()))))))
def LV(x:aG.D×aG.D×Unit):Option (Bool×Unit):=LU x.1 x.2.1
abbrev Ei:Type:=(List aG.D)->(List aG.D)->Int->Option (Bool×Unit)
def Ej(aZ:Ei)(a:List aG.D)(b:List aG.D):Option (Bool×Unit):=cond ((a.length:Int) !=(b.length:Int)) (some (false,())) (aZ a b 0)
def Ek(aZ:Ei)(a:List aG.D)(d:List aG.D)(b:Int):Option (Bool×Unit):=cond (decide (b<(a.length:Int))) ((ax a.length b).bind fun v1=>(ax d.length b).bind fun e=>(LV (I aG a v1,I aG d e,())).bind fun g=>cond (!g.1) (some (false,())) (aZ a d (aj (b+1)))) (some (true,()))
def tj:Nat->Ei|0,_,_,_=>none|m+1,a,b,d=>Ek (tj m) a b d
def LW(x:(List aG.D)×(List aG.D)×Unit):Option (Bool×Unit):=Ej (tj aC) x.1 x.2.1
def LX(a:aA.D)(b:aA.D):Option (Bool×Unit):=cond (a.1 != b.1) (some (false,())) (cond (!(bm a.2.1 b.2.1)) (some (false,())) (some (true,())))
def El(x:aA.D×aA.D×Unit):Option (Bool×Unit):=LX x.1 x.2.1
def LY(a:aK.D)(b:aK.D):Option (Bool×Unit):=cond (a.1 != b.1) (some (false,())) (cond (a.2.1 != b.2.1) (some (false,())) (cond (a.2.2.1 != b.2.2.1) (some (false,())) ((El (a.2.2.2.1,b.2.2.2.1,())).bind fun v1=>cond (!v1.1) (some (false,())) (some (true,())))))
def LZ(x:aK.D×aK.D×Unit):Option (Bool×Unit):=LY x.1 x.2.1
abbrev Em:Type:=(List aK.D)->(List aK.D)->Int->Option (Bool×Unit)
def En(aZ:Em)(a:List aK.D)(b:List aK.D):Option (Bool×Unit):=cond ((a.length:Int) !=(b.length:Int)) (some (false,())) (aZ a b 0)
def Eo(aZ:Em)(a:List aK.D)(d:List aK.D)(b:Int):Option (Bool×Unit):=cond (decide (b<(a.length:Int))) ((ax a.length b).bind fun v1=>(ax d.length b).bind fun e=>(LZ (I aK a v1,I aK d e,())).bind fun g=>cond (!g.1) (some (false,())) (aZ a d (aj (b+1)))) (some (true,()))
def tk:Nat->Em|0,_,_,_=>none|m+1,a,b,d=>Eo (tk m) a b d
def L0(x:(List aK.D)×(List aK.D)×Unit):Option (Bool×Unit):=En (tk aC) x.1 x.2.1
def L1(a:ak.D)(b:ak.D):Option (Bool×Unit):=(LS (a.1,b.1,())).bind fun v1=>cond (!v1.1) (some (false,())) (cond (a.2.1 != b.2.1) (some (false,())) ((LW (a.2.2.1,b.2.2.1,())).bind fun d=>cond (!d.1) (some (false,())) ((L0 (a.2.2.2.1,b.2.2.2.1,())).bind fun e=>cond (!e.1) (some (false,())) (some (true,())))))
def L2(x:ak.D×ak.D×Unit):Option (Bool×Unit):=L1 x.1 x.2.1
abbrev Ep:Type:=(List ak.D)->(List ak.D)->Int->Option (Bool×Unit)
def Er(aZ:Ep)(a:List ak.D)(b:List ak.D):Option (Bool×Unit):=cond ((a.length:Int) !=(b.length:Int)) (some (false,())) (aZ a b 0)
def Es(aZ:Ep)(a:List ak.D)(d:List ak.D)(b:Int):Option (Bool×Unit):=cond (decide (b<(a.length:Int))) ((ax a.length b).bind fun v1=>(ax d.length b).bind fun e=>(L2 (I ak a v1,I ak d e,())).bind fun g=>cond (!g.1) (some (false,())) (aZ a d (aj (b+1)))) (some (true,()))
def tl:Nat->Ep|0,_,_,_=>none|m+1,a,b,d=>Es (tl m) a b d
def vg(x:(List ak.D)×(List ak.D)×Unit):Option (Bool×Unit):=Er (tl aC) x.1 x.2.1
def L3(a:bh.D)(b:bh.D):Option (Bool×Unit):=cond (a.1 != b.1) (some (false,())) (cond (a.2.1 != b.2.1) (some (false,())) (cond (a.2.2.1 != b.2.2.1) (some (false,())) (cond (a.2.2.2.1 != b.2.2.2.1) (some (false,())) ((El (a.2.2.2.2.1,b.2.2.2.2.1,())).bind fun v1=>cond (!v1.1) (some (false,())) (some (true,()))))))
def L4(x:bh.D×bh.D×Unit):Option (Bool×Unit):=L3 x.1 x.2.1
abbrev Et:Type:=(List bh.D)->(List bh.D)->Int->Option (Bool×Unit)
def Eu(aZ:Et)(a:List bh.D)(b:List bh.D):Option (Bool×Unit):=cond ((a.length:Int) !=(b.length:Int)) (some (false,())) (aZ a b 0)
def Ev(aZ:Et)(a:List bh.D)(d:List bh.D)(b:Int):Option (Bool×Unit):=cond (decide (b<(a.length:Int))) ((ax a.length b).bind fun v1=>(ax d.length b).bind fun e=>(L4 (I bh a v1,I bh d e,())).bind fun g=>cond (!g.1) (some (false,())) (aZ a d (aj (b+1)))) (some (true,()))
def tm:Nat->Et|0,_,_,_=>none|m+1,a,b,d=>Ev (tm m) a b d
def xV(x:(List bh.D)×(List bh.D)×Unit):Option (Bool×Unit):=Eu (tm aC) x.1 x.2.1
abbrev nw:Type:=Int×(List aG.D)×Unit
abbrev oP:Type:=Int->Int->(List aG.D)->Option (nw)
def Ew(k2:oP)(a:List aG.D)(b:Int):Option (nw):=k2 b 0 a
def R8(k2:oP)(a:Int)(b:Int)(v10:List aG.D):Option (nw):=k2 (aj (aj (aj (aj (aj (a+1)+1)+1)+1)+1)) (aj (b+1)) v10
def R9(k2:oP)(d:Int)(e:Int)(a:List aG.D):Option (nw):=(ax a.length d).bind fun b=>R8 k2 e d (a.set (0+b) ((I aG a (0+b)).1,(I aG a (0+b)).2.1,(I aG a (0+b)).2.2.1,(I aG a (0+b)).2.2.2.1,aj (aj (aj (aj (e+1)+1)+1)+1),()))
def R_(k2:oP)(b:Int)(d:Int)(v6:List aG.D):Option (nw):=(ax v6.length b).bind fun a=>R9 k2 b d (v6.set (0+a) ((I aG v6 (0+a)).1,(I aG v6 (0+a)).2.1,(I aG v6 (0+a)).2.2.1,aj (aj (aj (d+1)+1)+1),(I aG v6 (0+a)).2.2.2.2.1,()))
def R'(k2:oP)(b:Int)(d:Int)(v4:List aG.D):Option (nw):=(ax v4.length b).bind fun a=>R_ k2 b d (v4.set (0+a) ((I aG v4 (0+a)).1,(I aG v4 (0+a)).2.1,aj (aj (d+1)+1),(I aG v4 (0+a)).2.2.2.1,(I aG v4 (0+a)).2.2.2.2.1,()))
def Sa(k2:oP)(d:Int)(e:Int)(a:List aG.D):Option (nw):=(ax a.length d).bind fun b=>R' k2 d e (a.set (0+b) ((I aG a (0+b)).1,aj (e+1),(I aG a (0+b)).2.2.1,(I aG a (0+b)).2.2.2.1,(I aG a (0+b)).2.2.2.2.1,()))
def Ex(k2:oP)(b:Int)(d:Int)(a:List aG.D):Option (nw):=cond (decide (d<(a.length:Int))) ((ax a.length d).bind fun v1=>Sa k2 d b (a.set (0+v1) (b,(I aG a (0+v1)).2.1,(I aG a (0+v1)).2.2.1,(I aG a (0+v1)).2.2.2.1,(I aG a (0+v1)).2.2.2.2.1,()))) (some (b,a,()))
def oQ:Nat->oP|0,_,_,_=>none|m+1,a,b,d=>Ex (oQ m) a b d
def L5(x:(List aG.D)×Int×Unit):Option (nw):=Ew (oQ aC) x.1 x.2.1
abbrev Ey:Type:=Int->(af)->Option ((af)×Unit)
def Ez(aZ:Ey)(a:Int):Option ((af)×Unit):=cond (decide (a<=0)) (some (([109,48]:af),())) (aZ a [])
def EA(aZ:Ey)(a:Int)(b:af):Option ((af)×Unit):=cond (decide (a>0)) (cond (room ((ek [IntKind.wrap .u8 (aj (48+Int.tmod a 10))]).length+b.length)) (aZ (aj (Int.tdiv a 10)) ((ek [IntKind.wrap .u8 (aj (48+Int.tmod a 10))])++b)) (none)) (cond (room (([109]:af).length+b.length)) (some (([109]:af)++b,())) (none))
def tn:Nat->Ey|0,_,_=>none|m+1,a,b=>EA (tn m) a b
def lI(x:Int×Unit):Option ((af)×Unit):=Ez (tn aC) x.1
abbrev nx:Type:=Int×(List aK.D)×Unit
abbrev oR:Type:=Int->Int->(List aK.D)->Option (nx)
def EB(k2:oR)(a:List aK.D)(b:Int):Option (nx):=k2 b 0 a
def Sb(k2:oR)(a:Int)(b:Int)(v11:List aK.D):Option (nx):=k2 (aj (aj (aj (aj (aj (a+1)+1)+1)+1)+1)) (aj (b+1)) v11
def Sc(k2:oR)(b:Int)(d:Int)(a:List aK.D):Option (nx):=(lI (aj (aj (aj (aj (b+1)+1)+1)+1),())).bind fun e=>(ax a.length d).bind fun v10=>Sb k2 b d (a.set (0+v10) ((I aK a (0+v10)).1,(I aK a (0+v10)).2.1,(I aK a (0+v10)).2.2.1,(((I aK a (0+v10)).2.2.2.1).1,e.1,()),()))
def Sd(k2:oR)(b:Int)(d:Int)(v6:List aK.D):Option (nx):=(ax v6.length b).bind fun a=>Sc k2 d b (v6.set (0+a) ((I aK v6 (0+a)).1,(I aK v6 (0+a)).2.1,(I aK v6 (0+a)).2.2.1,(aj (aj (aj (d+1)+1)+1),((I aK v6 (0+a)).2.2.2.1).2.1,()),()))
def Se(k2:oR)(b:Int)(d:Int)(v4:List aK.D):Option (nx):=(ax v4.length b).bind fun a=>Sd k2 b d (v4.set (0+a) ((I aK v4 (0+a)).1,(I aK v4 (0+a)).2.1,aj (aj (d+1)+1),(I aK v4 (0+a)).2.2.2.1,()))
def Sf(k2:oR)(d:Int)(e:Int)(a:List aK.D):Option (nx):=(ax a.length d).bind fun b=>Se k2 d e (a.set (0+b) ((I aK a (0+b)).1,aj (e+1),(I aK a (0+b)).2.2.1,(I aK a (0+b)).2.2.2.1,()))
def EC(k2:oR)(b:Int)(d:Int)(a:List aK.D):Option (nx):=cond (decide (d<(a.length:Int))) ((ax a.length d).bind fun v1=>Sf k2 d b (a.set (0+v1) (b,(I aK a (0+v1)).2.1,(I aK a (0+v1)).2.2.1,(I aK a (0+v1)).2.2.2.1,()))) (some (b,a,()))
def oS:Nat->oR|0,_,_,_=>none|m+1,a,b,d=>EC (oS m) a b d
def L6(x:(List aK.D)×Int×Unit):Option (nx):=EB (oS aC) x.1 x.2.1
abbrev tp:Type:=Int×(List ar.D)×Unit
abbrev vh:Type:=Int->Int->(List ar.D)->Option (tp)
def ED(k2:vh)(a:List ar.D)(b:Int):Option (tp):=k2 b 0 a
def Sg(k2:vh)(a:Int)(b:Int)(d:List ar.D):Option (tp):=k2 (aj (aj (a+1)+1)) (aj (b+1)) d
def Sh(k2:vh)(b:Int)(d:Int)(a:List ar.D):Option (tp):=(ax a.length b).bind fun v4=>Sg k2 d b (a.set (0+v4) ((I ar a (0+v4)).1,aj (d+1),()))
def EE(k2:vh)(b:Int)(d:Int)(a:List ar.D):Option (tp):=cond (decide (d<(a.length:Int))) ((lI (b,())).bind fun v1=>(ax a.length d).bind fun e=>Sh k2 d b (a.set (0+e) (v1.1,(I ar a (0+e)).2.1,()))) (some (b,a,()))
def oT:Nat->vh|0,_,_,_=>none|m+1,a,b,d=>EE (oT m) a b d
def L7(x:(List ar.D)×Int×Unit):Option (tp):=ED (oT aC) x.1 x.2.1
abbrev ku:Type:=Int×(List J.D)×Unit
abbrev k7:Type:=Int->Int->(List J.D)->Option (ku)
def EF(k2:k7)(a:List J.D)(b:Int):Option (ku):=k2 b 0 a
def Si(k2:k7)(a:Int×(List ar.D)×Unit)(b:Int)(v20:List J.D):Option (ku):=k2 (aj (aj (a.1+1)+1)) (aj (b+1)) v20
def Sj(k2:k7)(d:Int)(e:Int×(List ar.D)×Unit)(a:List J.D):Option (ku):=(ax a.length d).bind fun b=>Si k2 e d (a.set (0+b) ((I J a (0+b)).1,(I J a (0+b)).2.1,(I J a (0+b)).2.2.1,(I J a (0+b)).2.2.2.1,(I J a (0+b)).2.2.2.2.1,(I J a (0+b)).2.2.2.2.2.1,(I J a (0+b)).2.2.2.2.2.2.1,(I J a (0+b)).2.2.2.2.2.2.2.1,aj (e.1+1),()))
def Sk(k2:k7)(d:Int)(e:Int×(List ar.D)×Unit)(a:List J.D):Option (ku):=(ax a.length d).bind fun b=>Sj k2 d e (a.set (0+b) ((I J a (0+b)).1,(I J a (0+b)).2.1,(I J a (0+b)).2.2.1,(I J a (0+b)).2.2.2.1,(I J a (0+b)).2.2.2.2.1,(I J a (0+b)).2.2.2.2.2.1,(I J a (0+b)).2.2.2.2.2.2.1,e.1,(I J a (0+b)).2.2.2.2.2.2.2.2.1,()))
def Sl(k2:k7)(d:Int)(g:Int)(a:List J.D):Option (ku):=(ax a.length d).bind fun b=>(L7 ((I J a (0+b)).2.2.2.2.2.2.1,aj (aj (aj (aj (aj (aj (g+1)+1)+1)+1)+1)+1),())).bind fun e=>Sk k2 d e (a.set (0+b) ((I J a (0+b)).1,(I J a (0+b)).2.1,(I J a (0+b)).2.2.1,(I J a (0+b)).2.2.2.1,(I J a (0+b)).2.2.2.2.1,(I J a (0+b)).2.2.2.2.2.1,e.2.1,(I J a (0+b)).2.2.2.2.2.2.2.1,(I J a (0+b)).2.2.2.2.2.2.2.2.1,()))
def Sm(k2:k7)(b:Int)(d:Int)(v10:List J.D):Option (ku):=(lI (aj (aj (aj (aj (aj (b+1)+1)+1)+1)+1),())).bind fun v11=>(ax v10.length d).bind fun a=>Sl k2 d b (v10.set (0+a) ((I J v10 (0+a)).1,(I J v10 (0+a)).2.1,(I J v10 (0+a)).2.2.1,(I J v10 (0+a)).2.2.2.1,(I J v10 (0+a)).2.2.2.2.1,v11.1,(I J v10 (0+a)).2.2.2.2.2.2.1,(I J v10 (0+a)).2.2.2.2.2.2.2.1,(I J v10 (0+a)).2.2.2.2.2.2.2.2.1,()))
def Sn(k2:k7)(d:Int)(e:Int)(a:List J.D):Option (ku):=(ax a.length d).bind fun b=>Sm k2 e d (a.set (0+b) ((I J a (0+b)).1,(I J a (0+b)).2.1,(I J a (0+b)).2.2.1,(I J a (0+b)).2.2.2.1,aj (aj (aj (aj (e+1)+1)+1)+1),(I J a (0+b)).2.2.2.2.2.1,(I J a (0+b)).2.2.2.2.2.2.1,(I J a (0+b)).2.2.2.2.2.2.2.1,(I J a (0+b)).2.2.2.2.2.2.2.2.1,()))
def So(k2:k7)(b:Int)(d:Int)(v6:List J.D):Option (ku):=(ax v6.length b).bind fun a=>Sn k2 b d (v6.set (0+a) ((I J v6 (0+a)).1,(I J v6 (0+a)).2.1,(I J v6 (0+a)).2.2.1,aj (aj (aj (d+1)+1)+1),(I J v6 (0+a)).2.2.2.2.1,(I J v6 (0+a)).2.2.2.2.2.1,(I J v6 (0+a)).2.2.2.2.2.2.1,(I J v6 (0+a)).2.2.2.2.2.2.2.1,(I J v6 (0+a)).2.2.2.2.2.2.2.2.1,()))
def Sp(k2:k7)(b:Int)(d:Int)(v4:List J.D):Option (ku):=(ax v4.length b).bind fun a=>So k2 b d (v4.set (0+a) ((I J v4 (0+a)).1,(I J v4 (0+a)).2.1,aj (aj (d+1)+1),(I J v4 (0+a)).2.2.2.1,(I J v4 (0+a)).2.2.2.2.1,(I J v4 (0+a)).2.2.2.2.2.1,(I J v4 (0+a)).2.2.2.2.2.2.1,(I J v4 (0+a)).2.2.2.2.2.2.2.1,(I J v4 (0+a)).2.2.2.2.2.2.2.2.1,()))
def Sq(k2:k7)(d:Int)(e:Int)(a:List J.D):Option (ku):=(ax a.length d).bind fun b=>Sp k2 d e (a.set (0+b) ((I J a (0+b)).1,aj (e+1),(I J a (0+b)).2.2.1,(I J a (0+b)).2.2.2.1,(I J a (0+b)).2.2.2.2.1,(I J a (0+b)).2.2.2.2.2.1,(I J a (0+b)).2.2.2.2.2.2.1,(I J a (0+b)).2.2.2.2.2.2.2.1,(I J a (0+b)).2.2.2.2.2.2.2.2.1,()))
def EG(k2:k7)(b:Int)(d:Int)(a:List J.D):Option (ku):=cond (decide (d<(a.length:Int))) ((ax a.length d).bind fun v1=>Sq k2 d b (a.set (0+v1) (b,(I J a (0+v1)).2.1,(I J a (0+v1)).2.2.1,(I J a (0+v1)).2.2.2.1,(I J a (0+v1)).2.2.2.2.1,(I J a (0+v1)).2.2.2.2.2.1,(I J a (0+v1)).2.2.2.2.2.2.1,(I J a (0+v1)).2.2.2.2.2.2.2.1,(I J a (0+v1)).2.2.2.2.2.2.2.2.1,()))) (some (b,a,()))
def oU:Nat->k7|0,_,_,_=>none|m+1,a,b,d=>EG (oU m) a b d
def L8(x:(List J.D)×Int×Unit):Option (ku):=EF (oU aC) x.1 x.2.1
abbrev ny:Type:=Int×(List ak.D)×Unit
abbrev oV:Type:=Int->Int->(List ak.D)->Option (ny)
def EH(k2:oV)(a:List ak.D)(b:Int):Option (ny):=k2 b 0 a
def Sr(k2:oV)(a:Int×(List aK.D)×Unit)(b:Int)(d:List ak.D):Option (ny):=k2 a.1 (aj (b+1)) d
def Ss(k2:oV)(a:Int)(d:Int×(List aG.D)×Unit)(v10:List ak.D):Option (ny):=(ax v10.length a).bind fun v11=>(L6 ((I ak v10 (0+v11)).2.2.2.1,d.1,())).bind fun b=>Sr k2 b a (v10.set (0+v11) ((I ak v10 (0+v11)).1,(I ak v10 (0+v11)).2.1,(I ak v10 (0+v11)).2.2.1,b.2.1,()))
def St(k2:oV)(d:Int)(v4:Int×(List J.D)×Unit)(a:List ak.D):Option (ny):=(ax a.length d).bind fun b=>(L5 ((I ak a (0+b)).2.2.1,aj (v4.1+1),())).bind fun e=>Ss k2 d e (a.set (0+b) ((I ak a (0+b)).1,(I ak a (0+b)).2.1,e.2.1,(I ak a (0+b)).2.2.2.1,()))
def Su(k2:oV)(b:Int)(v4:Int×(List J.D)×Unit)(a:List ak.D):Option (ny):=(ax a.length b).bind fun v6=>St k2 b v4 (a.set (0+v6) ((I ak a (0+v6)).1,v4.1,(I ak a (0+v6)).2.2.1,(I ak a (0+v6)).2.2.2.1,()))
def Sv(k2:oV)(d:Int)(e:Int)(a:List ak.D):Option (ny):=(ax a.length d).bind fun b=>(L8 (((I ak a (0+b)).1).2.1,aj (e+1),())).bind fun v4=>Su k2 d v4 (a.set (0+b) ((((I ak a (0+b)).1).1,v4.2.1,()),(I ak a (0+b)).2.1,(I ak a (0+b)).2.2.1,(I ak a (0+b)).2.2.2.1,()))
def EI(k2:oV)(b:Int)(d:Int)(a:List ak.D):Option (ny):=cond (decide (d<(a.length:Int))) ((ax a.length d).bind fun v1=>Sv k2 d b (a.set (0+v1) ((b,((I ak a (0+v1)).1).2.1,()),(I ak a (0+v1)).2.1,(I ak a (0+v1)).2.2.1,(I ak a (0+v1)).2.2.2.1,()))) (some (b,a,()))
def oW:Nat->oV|0,_,_,_=>none|m+1,a,b,d=>EI (oW m) a b d
def EJ(x:(List ak.D)×Int×Unit):Option (ny):=EH (oW aC) x.1 x.2.1
abbrev mH:Type:=Int×(List bh.D)×Unit
abbrev nz:Type:=Int->Int->(List bh.D)->Option (mH)
def EK(k2:nz)(a:List bh.D)(b:Int):Option (mH):=k2 b 0 a
def Sw(k2:nz)(a:Int)(b:Int)(d:List bh.D):Option (mH):=k2 (aj (aj (aj (aj (aj (aj (a+1)+1)+1)+1)+1)+1)) (aj (b+1)) d
def Sx(k2:nz)(b:Int)(d:Int)(v10:List bh.D):Option (mH):=(lI (aj (aj (aj (aj (aj (b+1)+1)+1)+1)+1),())).bind fun v11=>(ax v10.length d).bind fun a=>Sw k2 b d (v10.set (0+a) ((I bh v10 (0+a)).1,(I bh v10 (0+a)).2.1,(I bh v10 (0+a)).2.2.1,(I bh v10 (0+a)).2.2.2.1,(((I bh v10 (0+a)).2.2.2.2.1).1,v11.1,()),()))
def Sy(k2:nz)(d:Int)(e:Int)(a:List bh.D):Option (mH):=(ax a.length d).bind fun b=>Sx k2 e d (a.set (0+b) ((I bh a (0+b)).1,(I bh a (0+b)).2.1,(I bh a (0+b)).2.2.1,(I bh a (0+b)).2.2.2.1,(aj (aj (aj (aj (e+1)+1)+1)+1),((I bh a (0+b)).2.2.2.2.1).2.1,()),()))
def Sz(k2:nz)(b:Int)(d:Int)(v6:List bh.D):Option (mH):=(ax v6.length b).bind fun a=>Sy k2 b d (v6.set (0+a) ((I bh v6 (0+a)).1,(I bh v6 (0+a)).2.1,(I bh v6 (0+a)).2.2.1,aj (aj (aj (d+1)+1)+1),(I bh v6 (0+a)).2.2.2.2.1,()))
def SA(k2:nz)(b:Int)(d:Int)(v4:List bh.D):Option (mH):=(ax v4.length b).bind fun a=>Sz k2 b d (v4.set (0+a) ((I bh v4 (0+a)).1,(I bh v4 (0+a)).2.1,aj (aj (d+1)+1),(I bh v4 (0+a)).2.2.2.1,(I bh v4 (0+a)).2.2.2.2.1,()))
def SB(k2:nz)(d:Int)(e:Int)(a:List bh.D):Option (mH):=(ax a.length d).bind fun b=>SA k2 d e (a.set (0+b) ((I bh a (0+b)).1,aj (e+1),(I bh a (0+b)).2.2.1,(I bh a (0+b)).2.2.2.1,(I bh a (0+b)).2.2.2.2.1,()))
def EL(k2:nz)(b:Int)(d:Int)(a:List bh.D):Option (mH):=cond (decide (d<(a.length:Int))) ((ax a.length d).bind fun v1=>SB k2 d b (a.set (0+v1) (b,(I bh a (0+v1)).2.1,(I bh a (0+v1)).2.2.1,(I bh a (0+v1)).2.2.2.1,(I bh a (0+v1)).2.2.2.2.1,()))) (some (b,a,()))
def oX:Nat->nz|0,_,_,_=>none|m+1,a,b,d=>EL (oX m) a b d
def L9(x:(List bh.D)×Int×Unit):Option (mH):=EK (oX aC) x.1 x.2.1
abbrev EM:Type:=(List aG.D)->Int->Int->Option (Int×Unit)
def EN(k2:EM)(a:List aG.D)(b:Int):Option (Int×Unit):=k2 a b 0
def EO(k2:EM)(a:List aG.D)(b:Int)(d:Int):Option (Int×Unit):=cond (decide (d<(a.length:Int))) ((ax a.length d).bind fun v1=>cond ((I aG a v1).1 != b) (some ((-1),())) ((ax a.length d).bind fun e=>cond ((I aG a e).2.1 != aj (b+1)) (some ((-1),())) ((ax a.length d).bind fun g=>cond ((I aG a g).2.2.1 != aj (aj (b+1)+1)) (some ((-1),())) ((ax a.length d).bind fun v4=>cond ((I aG a v4).2.2.2.1 != aj (aj (aj (b+1)+1)+1)) (some ((-1),())) ((ax a.length d).bind fun h=>cond ((I aG a h).2.2.2.2.1 != aj (aj (aj (aj (b+1)+1)+1)+1)) (some ((-1),())) (k2 a (aj (aj (aj (aj (aj (b+1)+1)+1)+1)+1)) (aj (d+1)))))))) (some (b,()))
def oY:Nat->EM|0,_,_,_=>none|m+1,a,b,d=>EO (oY m) a b d
def L_(x:(List aG.D)×Int×Unit):Option (Int×Unit):=EN (oY aC) x.1 x.2.1
abbrev EP:Type:=(List aK.D)->Int->Int->Option (Int×Unit)
def ER(k2:EP)(a:List aK.D)(b:Int):Option (Int×Unit):=k2 a b 0
def ES(k2:EP)(a:List aK.D)(b:Int)(d:Int):Option (Int×Unit):=cond (decide (d<(a.length:Int))) ((ax a.length d).bind fun v1=>cond ((I aK a v1).1 != b) (some ((-1),())) ((ax a.length d).bind fun e=>cond ((I aK a e).2.1 != aj (b+1)) (some ((-1),())) ((ax a.length d).bind fun g=>cond ((I aK a g).2.2.1 != aj (aj (b+1)+1)) (some ((-1),())) ((ax a.length d).bind fun v4=>cond (((I aK a v4).2.2.2.1).1 != aj (aj (aj (b+1)+1)+1)) (some ((-1),())) ((ax a.length d).bind fun h=>(lI (aj (aj (aj (aj (b+1)+1)+1)+1),())).bind fun v6=>cond (!(bm (((I aK a h).2.2.2.1).2.1) v6.1)) (some ((-1),())) (k2 a (aj (aj (aj (aj (aj (b+1)+1)+1)+1)+1)) (aj (d+1)))))))) (some (b,()))
def oZ:Nat->EP|0,_,_,_=>none|m+1,a,b,d=>ES (oZ m) a b d
def L'(x:(List aK.D)×Int×Unit):Option (Int×Unit):=ER (oZ aC) x.1 x.2.1
abbrev ET:Type:=(List ar.D)->Int->Int->Option (Int×Unit)
def EU(k2:ET)(a:List ar.D)(b:Int):Option (Int×Unit):=k2 a b 0
def EV(k2:ET)(a:List ar.D)(b:Int)(d:Int):Option (Int×Unit):=cond (decide (d<(a.length:Int))) ((ax a.length d).bind fun v1=>(lI (b,())).bind fun e=>cond (!(bm ((I ar a v1).1) e.1)) (some ((-1),())) ((ax a.length d).bind fun g=>cond ((I ar a g).2.1 != aj (b+1)) (some ((-1),())) (k2 a (aj (aj (b+1)+1)) (aj (d+1))))) (some (b,()))
def o0:Nat->ET|0,_,_,_=>none|m+1,a,b,d=>EV (o0 m) a b d
def Ma(x:(List ar.D)×Int×Unit):Option (Int×Unit):=EU (o0 aC) x.1 x.2.1
abbrev EW:Type:=(List J.D)->Int->Int->Option (Int×Unit)
def EX(k2:EW)(a:List J.D)(b:Int):Option (Int×Unit):=k2 a b 0
def EY(k2:EW)(a:List J.D)(d:Int)(b:Int):Option (Int×Unit):=cond (decide (b<(a.length:Int))) ((ax a.length b).bind fun v1=>cond ((I J a v1).1 != d) (some ((-1),())) ((ax a.length b).bind fun g=>cond ((I J a g).2.1 != aj (d+1)) (some ((-1),())) ((ax a.length b).bind fun h=>cond ((I J a h).2.2.1 != aj (aj (d+1)+1)) (some ((-1),())) ((ax a.length b).bind fun v4=>cond ((I J a v4).2.2.2.1 != aj (aj (aj (d+1)+1)+1)) (some ((-1),())) ((ax a.length b).bind fun i=>cond ((I J a i).2.2.2.2.1 != aj (aj (aj (aj (d+1)+1)+1)+1)) (some ((-1),())) ((ax a.length b).bind fun v6=>(lI (aj (aj (aj (aj (aj (d+1)+1)+1)+1)+1),())).bind fun j=>cond (!(bm ((I J a v6).2.2.2.2.2.1) j.1)) (some ((-1),())) ((ax a.length b).bind fun k=>(Ma ((I J a k).2.2.2.2.2.2.1,aj (aj (aj (aj (aj (aj (d+1)+1)+1)+1)+1)+1),())).bind fun e=>cond (decide (e.1<0)) (some ((-1),())) ((ax a.length b).bind fun v10=>cond ((I J a v10).2.2.2.2.2.2.2.1 != e.1) (some ((-1),())) ((ax a.length b).bind fun v11=>cond ((I J a v11).2.2.2.2.2.2.2.2.1 != aj (e.1+1)) (some ((-1),())) (k2 a (aj (aj (e.1+1)+1)) (aj (b+1)))))))))))) (some (d,()))
def o1:Nat->EW|0,_,_,_=>none|m+1,a,b,d=>EY (o1 m) a b d
def Mb(x:(List J.D)×Int×Unit):Option (Int×Unit):=EX (o1 aC) x.1 x.2.1
abbrev EZ:Type:=(List ak.D)->Int->Int->Option (Int×Unit)
def E0(k2:EZ)(a:List ak.D)(b:Int):Option (Int×Unit):=k2 a b 0
def E1(k2:EZ)(a:List ak.D)(d:Int)(b:Int):Option (Int×Unit):=cond (decide (b<(a.length:Int))) ((ax a.length b).bind fun v1=>cond (((I ak a v1).1).1 != d) (some ((-1),())) ((ax a.length b).bind fun h=>(Mb (((I ak a h).1).2.1,aj (d+1),())).bind fun e=>cond (decide (e.1<0)) (some ((-1),())) ((ax a.length b).bind fun v4=>cond ((I ak a v4).2.1 != e.1) (some ((-1),())) ((ax a.length b).bind fun i=>(L_ ((I ak a i).2.2.1,aj (e.1+1),())).bind fun v6=>cond (decide (v6.1<0)) (some ((-1),())) ((ax a.length b).bind fun j=>(L' ((I ak a j).2.2.2.1,v6.1,())).bind fun g=>cond (decide (g.1<0)) (some ((-1),())) (k2 a g.1 (aj (b+1)))))))) (some (d,()))
def o2:Nat->EZ|0,_,_,_=>none|m+1,a,b,d=>E1 (o2 m) a b d
def E2(x:(List ak.D)×Int×Unit):Option (Int×Unit):=E0 (o2 aC) x.1 x.2.1
abbrev E3:Type:=(List bh.D)->Int->Int->Option (Int×Unit)
def E4(k2:E3)(a:List bh.D)(b:Int):Option (Int×Unit):=k2 a b 0
def E5(k2:E3)(a:List bh.D)(b:Int)(d:Int):Option (Int×Unit):=cond (decide (d<(a.length:Int))) ((ax a.length d).bind fun v1=>cond ((I bh a v1).1 != b) (some ((-1),())) ((ax a.length d).bind fun e=>cond ((I bh a e).2.1 != aj (b+1)) (some ((-1),())) ((ax a.length d).bind fun g=>cond ((I bh a g).2.2.1 != aj (aj (b+1)+1)) (some ((-1),())) ((ax a.length d).bind fun v4=>cond ((I bh a v4).2.2.2.1 != aj (aj (aj (b+1)+1)+1)) (some ((-1),())) ((ax a.length d).bind fun h=>cond (((I bh a h).2.2.2.2.1).1 != aj (aj (aj (aj (b+1)+1)+1)+1)) (some ((-1),())) ((ax a.length d).bind fun v6=>(lI (aj (aj (aj (aj (aj (b+1)+1)+1)+1)+1),())).bind fun i=>cond (!(bm (((I bh a v6).2.2.2.2.1).2.1) i.1)) (some ((-1),())) (k2 a (aj (aj (aj (aj (aj (aj (b+1)+1)+1)+1)+1)+1)) (aj (d+1))))))))) (some (b,()))
def o3:Nat->E3|0,_,_,_=>none|m+1,a,b,d=>E5 (o3 m) a b d
def E6(x:(List bh.D)×Int×Unit):Option (Int×Unit):=E4 (o3 aC) x.1 x.2.1
def Mc(d:List ak.D)(e:af)(h:Int):Option (Bool×Unit):=cond (decide ((e.length:Int)>1048576)) (some (true,())) ((Kc (d,1048576,())).bind fun v1=>cond (decide (v1.1<0)) (some (true,())) ((vf (d,())).bind fun o=>(DY (o.1,e,h,())).bind fun a=>(vf (d,())).bind fun v4=>(xd (v4.1,e,h,())).bind fun b=>(vg (b.1,a.1,())).bind fun v6=>cond (!v6.1) (some (false,())) ((xV (b.2.1,a.2.1,())).bind fun p=>cond (!p.1) (some (false,())) ((vf (d,())).bind fun q=>(vg (v4.1,q.1,())).bind fun r=>cond (!r.1) (some (false,())) ((EJ (v4.1,1,())).bind fun v10=>cond (decide (v10.1<0)) (some (false,())) ((vg (b.1,a.1,())).bind fun v11=>cond (!v11.1) (some (false,())) ((xV (b.2.1,a.2.1,())).bind fun s=>cond (!s.1) (some (false,())) ((EJ (b.1,1,())).bind fun i=>(L9 (b.2.1,i.1,())).bind fun g=>(E2 (i.2.1,1,())).bind fun j=>cond (decide (j.1<0)) (some (false,())) ((E6 (g.2.1,j.1,())).bind fun k=>cond (decide (k.1<0)) (some (false,())) (cond (k.1 != g.1) (some (false,())) ((vf (d,())).bind fun u=>(xd (u.1,e,h,())).bind fun l=>(vg (l.1,a.1,())).bind fun v=>cond (!v.1) (some (false,())) ((xV (l.2.1,a.2.1,())).bind fun v20=>cond (!v20.1) (some (false,())) ((E2 (i.2.1,1,())).bind fun m=>cond (decide (m.1<0)) (some (false,())) ((E6 (g.2.1,m.1,())).bind fun n=>cond (decide (n.1<0)) (some (false,())) (cond (n.1 != g.1) (some (false,())) (some (true,())))))))))))))))))
def SC(x:(List ak.D)×(af)×Int×Unit):Option (Bool×Unit):=Mc x.1 x.2.1 x.2.2.1
end
end Go.LM.i_
