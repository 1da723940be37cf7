/- The functions that the law reaches, as plain functions. Printed by a program. Conditions: each theorem's own hypotheses. -/
import Derived.Test.YtlkbjdmfbadhaaaGreatDoorKLmd
import Derived.Test.YtlkbjdmfbadhaaaGreatDoorKIn
set_option linter.unusedVariables false
set_option linter.unusedSimpArgs false
namespace Go.LM.kO
abbrev aj:Type:=List UInt8
noncomputable section
@[reducible] def aF:ae:=.st (.cons (.int .i64) (.cons .str .nil))
@[reducible] def aO:ae:=.st (.cons (.int .i64) (.cons (.int .i64) (.cons (.int .i64) (.cons (.int .i64) (.cons (.int .i64) .nil)))))
@[reducible] def aB:ae:=.st (.cons .str (.cons (.int .i64) .nil))
@[reducible] def J:ae:=.st (.cons (.int .i64) (.cons (.int .i64) (.cons (.int .i64) (.cons (.int .i64) (.cons (.int .i64) (.cons .str (.cons (.sl aB) (.cons (.int .i64) (.cons (.int .i64) .nil)))))))))
@[reducible] def af:ae:=.st (.cons (.int .i64) (.cons (.sl J) .nil))
@[reducible] def bt:ae:=.st (.cons (.int .i64) (.cons (.int .i64) (.cons (.int .i64) (.cons aF .nil))))
@[reducible] def aR:ae:=.st (.cons af (.cons (.int .i64) (.cons (.sl aO) (.cons (.sl bt) .nil))))
@[reducible] def aG:ae:=.st (.cons (.int .i64) (.cons .str (.cons .str (.cons (.int .i64) (.cons (.int .i64) (.cons .str .nil))))))
@[reducible] def aL:ae:=.st (.cons (.int .i64) (.cons (.int .i64) (.cons (.sl (.int .i64)) .nil)))
@[reducible] def a6:ae:=.st (.cons (.int .i64) (.cons .str (.cons (.int .i64) (.cons (.int .i64) .nil))))
@[reducible] def aP:ae:=.st (.cons af (.cons aL (.cons aG .nil)))
@[reducible] def bh:ae:=.st (.cons (.sl (.int .u8)) (.cons (.int .i64) (.cons (.int .i64) .nil)))
@[reducible] def UH:ae:=.st (.cons (.int .i64) (.cons (.int .i64) (.cons (.int .i64) (.cons aG .nil))))
@[reducible] def UI:ae:=.st (.cons (.int .i64) (.cons (.int .i64) (.cons aG (.cons (.int .i64) (.cons aF .nil)))))
@[reducible] def afD:ae:=.st (.cons .str (.cons .bool .nil))
def LO(a1:Int)(a2:Int)(a3:Int):Option (Bool×Unit):=cond (decide (a1≥a2)) (some (decide (a1≤a3),())) (some (false,()))
def dh(x:Int×Int×Int×Unit):Option (Bool×Unit):=LO x.1 x.2.1 x.2.2.1
def LP(a1:aF.D):Option (Bool×Unit):=(dh (a1.1,0,200,())).bind fun v1=>cond v1.1 (some (decide ((a1.2.1.length:Int)≤400),())) (some (false,()))
def DZ(x:aF.D×Unit):Option (Bool×Unit):=LP x.1
abbrev D0:Type:=(List aO.D)→(List aO.D)→Int→Int→Option (Bool×Unit)
def D1(k2:D0)(a1:List aO.D):Option (Bool×Unit):=k2 a1 a1 (a1.length:Int) 0
def D2(k2:D0)(U:List aO.D)(aa:List aO.D)(ad:Int)(ag:Int):Option (Bool×Unit):=cond (decide (ag<ad)) ((aM aa.length ag).bind fun v1=>(dh ((I aO aa v1).1,1,100000,())).bind fun v2=>cond (!v2.1) (some (false,())) (cond (decide (ag>0)) ((aM U.length (aH (ag-1))).bind fun v3=>cond (decide ((I aO U v3).1 >(I aO aa v1).1)) (some (false,())) ((dh ((I aO aa v1).2.1,1,3,())).bind fun v4=>cond (!v4.1) (some (false,())) ((dh ((I aO aa v1).2.2.1,1,1000000,())).bind fun v5=>cond (!v5.1) (some (false,())) ((dh ((I aO aa v1).2.2.2.1,1,22,())).bind fun v6=>cond (!v6.1) (some (false,())) ((dh ((I aO aa v1).2.2.2.2.1,0,200,())).bind fun bn=>cond (!bn.1) (some (false,())) (k2 U aa ad (aH (ag+1)))))))) ((dh ((I aO aa v1).2.1,1,3,())).bind fun cF=>cond (!cF.1) (some (false,())) ((dh ((I aO aa v1).2.2.1,1,1000000,())).bind fun v9=>cond (!v9.1) (some (false,())) ((dh ((I aO aa v1).2.2.2.1,1,22,())).bind fun v10=>cond (!v10.1) (some (false,())) ((dh ((I aO aa v1).2.2.2.2.1,0,200,())).bind fun v11=>cond (!v11.1) (some (false,())) (k2 U aa ad (aH (ag+1))))))))) (some (decide ((U.length:Int)≤20),()))
def uY:Nat→D0 | 0,_,_,_,_=>none | m+1,U,aa,ad,ag=>D2 (uY m) U aa ad ag
def D3(x:(List aO.D)×Unit):Option (Bool×Unit):=D1 (uY aN) x.1
def UJ(a1:Int):Option (Bool×Unit):=cond (decide (a1≥97)) (cond (decide (a1≤122)) (some (true,())) (cond (decide (a1≥48)) (cond (decide (a1≤57)) (some (true,())) (cond (a1==46) (some (true,())) (cond (a1==95) (some (true,())) (some (a1==45,()))))) (cond (a1==46) (some (true,())) (cond (a1==95) (some (true,())) (some (a1==45,())))))) (cond (decide (a1≥48)) (cond (decide (a1≤57)) (some (true,())) (cond (a1==46) (some (true,())) (cond (a1==95) (some (true,())) (some (a1==45,()))))) (cond (a1==46) (some (true,())) (cond (a1==95) (some (true,())) (some (a1==45,())))))
def D4(x:Int×Unit):Option (Bool×Unit):=UJ x.1
abbrev D5:Type:=(aj)→Int→Int→Option (Bool×Unit)
def D6(k2:D5)(a1:aj):Option (Bool×Unit):=k2 a1 (a1.length:Int) 0
def D7(k2:D5)(U:aj)(aa:Int)(ad:Int):Option (Bool×Unit):=cond (decide (ad<aa)) ((aM U.length ad).bind fun v1=>cond (((U.getD v1 0).toNat:Int) != 47) ((aM U.length ad).bind fun v2=>(D4 (((U.getD v2 0).toNat:Int),())).bind fun v3=>cond (!v3.1) (some (false,())) (k2 U aa (aH (ad+1)))) (k2 U aa (aH (ad+1)))) ((dh ((U.length:Int),1,60,())).bind fun v4=>some (v4.1,()))
def uZ:Nat→D5 | 0,_,_,_=>none | m+1,U,aa,ad=>D7 (uZ m) U aa ad
def x2(x:(aj)×Unit):Option (Bool×Unit):=D6 (uZ aN) x.1
abbrev Ak:Type:=(List J.D)×Unit
abbrev D8:Type:=af.D→Int→Int→Int→Option (Ak)
def D9(k2:D8)(a1:af.D)(a2:Int):Option (Ak):=k2 a1 a2 (a1.2.1.length:Int) 0
def D_(k2:D8)(U:af.D)(aa:Int)(ad:Int)(ag:Int):Option (Ak):=cond (decide (ag<ad)) ((aM U.2.1.length ag).bind fun v1=>cond ((I J U.2.1 v1).1==aa) ((aM U.2.1.length ag).bind fun v2=>some ([I J U.2.1 v2],())) (k2 U aa ad (aH (ag+1)))) (some ([],()))
def u0:Nat→D8 | 0,_,_,_,_=>none | m+1,U,aa,ad,ag=>D_ (u0 m) U aa ad ag
def fS(x:af.D×Int×Unit):Option (Ak):=D9 (u0 aN) x.1 x.2.1
abbrev D':Type:=Int→Int→Int→af.D→Option (Int×af.D×Unit)
def Ea(k2:D')(a1:af.D)(a2:Int):Option (Int×af.D×Unit):=k2 a2 (a1.2.1.length:Int) 0 a1
def Eb(k2:D')(U:Int)(aa:Int)(ad:Int)(ag:af.D):Option (Int×af.D×Unit):=cond (decide (ad<aa)) ((aM ag.2.1.length ad).bind fun v1=>cond ((I J ag.2.1 (0+v1)).1==U) ((aM ag.2.1.length ad).bind fun v2=>some ((((0+v2):Nat):Int),ag,())) (k2 U aa (aH (ad+1)) ag)) (some ((-1),ag,()))
def u1:Nat→D' | 0,_,_,_,_=>none | m+1,U,aa,ad,ag=>Eb (u1 m) U aa ad ag
def x3(x:af.D×Int×Unit):Option (Int×af.D×Unit):=Ea (u1 aN) x.1 x.2.1
abbrev Ec:Type:=(aj)→Int→Int→Option (Bool×Unit)
def Ed(k2:Ec)(a1:aj):Option (Bool×Unit):=k2 a1 (a1.length:Int) 0
def Ee(k2:Ec)(U:aj)(aa:Int)(ad:Int):Option (Bool×Unit):=cond (decide (ad<aa)) ((aM U.length ad).bind fun v1=>(D4 (((U.getD v1 0).toNat:Int),())).bind fun v2=>cond (!v2.1) (some (false,())) (k2 U aa (aH (ad+1)))) ((dh ((U.length:Int),1,8,())).bind fun v3=>cond v3.1 (cond (!(bD U ([46]:aj))) (some (!(bD U ([46,46]:aj)),())) (some (false,()))) (some (false,())))
def u2:Nat→Ec | 0,_,_,_=>none | m+1,U,aa,ad=>Ee (u2 m) U aa ad
def LQ(x:(aj)×Unit):Option (Bool×Unit):=Ed (u2 aN) x.1
abbrev Ef:Type:=af.D→(List aB.D)→Int→Int→J.D→Option (Bool×Unit)
def Eg(k2:Ef)(a1:af.D)(a2:J.D):Option (Bool×Unit):=k2 a1 a2.2.2.2.2.2.2.1 (a2.2.2.2.2.2.2.1.length:Int) 0 a2
def Eh(k2:Ef)(U:af.D)(aa:List aB.D)(ad:Int)(ag:Int)(al:J.D):Option (Bool×Unit):=cond (decide (ag<ad)) ((aM aa.length ag).bind fun v1=>(LQ ((I aB aa v1).1,())).bind fun v2=>cond (!v2.1) (some (false,())) (cond ((I aB aa v1).2.1==1) (some (false,())) ((fS (U,(I aB aa v1).2.1,())).bind fun v3=>cond (!(!List.isEmpty v3.1)) (some (false,())) (cond (decide (ag>0)) ((aM al.2.2.2.2.2.2.1.length (aH (ag-1))).bind fun v4=>cond (!(dG ((I aB al.2.2.2.2.2.2.1 v4).1) ((I aB aa v1).1))) (some (false,())) (k2 U aa ad (aH (ag+1)) al)) (k2 U aa ad (aH (ag+1)) al))))) (some (decide ((al.2.2.2.2.2.2.1.length:Int)≤12),()))
def u3:Nat→Ef | 0,_,_,_,_,_=>none | m+1,U,aa,ad,ag,al=>Eh (u3 m) U aa ad ag al
def LR(x:af.D×J.D×Unit):Option (Bool×Unit):=Eg (u3 aN) x.1 x.2.1
abbrev Ei:Type:=af.D→J.D→Option (Bool×Unit)
def Ej(bx:Ei)(a1:af.D)(a2:J.D):Option (Bool×Unit):=(dh (a2.2.2.1,0,2047,())).bind fun v1=>cond (!v1.1) (some (false,())) ((dh (a2.2.2.2.1,0,1000,())).bind fun v2=>cond (!v2.1) (some (false,())) ((dh (a2.2.2.2.2.1,0,1000,())).bind fun v3=>cond (!v3.1) (some (false,())) (cond (a2.2.1 != 2) (cond (decide ((a2.2.2.2.2.2.2.1.length:Int)>0)) (some (false,())) (cond (a2.2.2.2.2.2.2.2.1 != 0) (some (false,())) (cond (a2.2.2.2.2.2.2.2.2.1 != 0) (some (false,())) (bx a1 a2)))) (bx a1 a2))))
def LS(bx:Ei)(U:af.D)(aa:J.D):Option (Bool×Unit):=cond (aa.2.1==1) (some (decide ((aa.2.2.2.2.2.1.length:Int)≤64),())) (cond (aa.2.1==3) ((x2 (aa.2.2.2.2.2.1,())).bind fun v1=>cond v1.1 (some (aa.2.2.1==511,())) (some (false,()))) (cond (aa.2.1==2) (cond (bD aa.2.2.2.2.2.1 []) ((LR (U,aa,())).bind fun v2=>cond v2.1 ((dh (aa.2.2.2.2.2.2.2.1,0,400,())).bind fun v3=>cond v3.1 ((dh (aa.2.2.2.2.2.2.2.2.1,0,24,())).bind fun v4=>some (v4.1,())) (some (false,()))) (some (false,()))) (some (false,()))) (some (false,()))))
def Al:Nat→Ei | 0,_,_=>none | m+1,U,aa=>LS (Al m) U aa
def Ek(x:af.D×J.D×Unit):Option (Bool×Unit):=Ej (Al aN) x.1 x.2.1
abbrev El:Type:=(List Int)→Int→Int→Int→Option (Int×Unit)
def Em(k2:El)(a1:List Int)(a2:Int):Option (Int×Unit):=k2 a1 a2 (a1.length:Int) 0
def En(k2:El)(U:List Int)(aa:Int)(ad:Int)(ag:Int):Option (Int×Unit):=cond (decide (ag<ad)) ((aM U.length ag).bind fun v1=>cond (aa==I (ae.int .i64) U v1) (some (ag,())) (k2 U aa ad (aH (ag+1)))) (some ((-1),()))
def u4:Nat→El | 0,_,_,_,_=>none | m+1,U,aa,ad,ag=>En (u4 m) U aa ad ag
def LU(x:(List Int)×Int×Unit):Option (Int×Unit):=Em (u4 aN) x.1 x.2.1
def LV(a1:List Int)(a2:Int):Option (Bool×Unit):=(LU (a1,a2,())).bind fun v1=>some (decide (v1.1≥0),())
def sJ(x:(List Int)×Int×Unit):Option (Bool×Unit):=LV x.1 x.2.1
structure u5 where
 bg:af.D→Int→(List Int)→(List Int)→Option ((List Int)×Unit)
 eY:af.D→Int→(List aB.D)→Int→Int→(List Int)→(List Int)→Option ((List Int)×Unit)
def Eo(k:u5)(a1:af.D)(a2:Int):Option ((List Int)×Unit):=k.bg a1 0 ([]:List Int) [a2]
def q1(k:u5)(U:af.D)(aa:Int)(ad:List Int)(ag:List Int):Option ((List Int)×Unit):=cond (decide (aa<(ag.length:Int))) ((aM ag.length aa).bind fun v1=>(fS (U,I (ae.int .i64) ag (0+v1),())).bind fun v2=>cond (!(!List.isEmpty v2.1)) (k.bg U (aH (aa+1)) ad ag) (cond (!List.isEmpty v2.1) (k.eY U aa ((I J v2.1 0).2.2.2.2.2.2.1) (((I J v2.1 0).2.2.2.2.2.2.1).length:Int) 0 ad ag) (none))) (some (ad,()))
def Am(k:u5)(U:af.D)(aa:Int)(ad:List aB.D)(ag:Int)(al:Int)(aE:List Int)(a7:List Int):Option ((List Int)×Unit):=cond (decide (al<ag)) ((aM ad.length al).bind fun v1=>(sJ (aE,(I aB ad v1).2.1,())).bind fun v2=>cond (!v2.1) (cond (room (aE.length+[(I aB ad v1).2.1].length)) (cond (room (a7.length+[(I aB ad v1).2.1].length)) (k.eY U aa ad ag (aH (al+1)) (aE++[(I aB ad v1).2.1]) (a7++[(I aB ad v1).2.1])) (none)) (none)) (k.eY U aa ad ag (aH (al+1)) aE a7)) (k.bg U (aH (aa+1)) aE a7)
def UK(k:u5):u5:=⟨q1 k,Am k⟩
def mW:Nat→u5:=dJ UK ⟨fun _ _ _ _=>none,fun _ _ _ _ _ _ _=>none⟩
def u6(x:af.D×Int×Unit):Option ((List Int)×Unit):=Eo (mW aN) x.1 x.2.1
structure u7 where
 k3:Int→Int→(List J.D)→Int→Int→Option (Int×Unit)
 du:Int→Int→(List J.D)→Int→Int→(List aB.D)→Int→Int→Option (Int×Unit)
def Ep(k:u7)(a1:af.D)(a2:Int):Option (Int×Unit):=k.k3 a2 0 a1.2.1 (a1.2.1.length:Int) 0
def An(k:u7)(U:Int)(aa:Int)(ad:List J.D)(ag:Int)(al:Int):Option (Int×Unit):=cond (decide (al<ag)) ((aM ad.length al).bind fun v1=>k.du U aa ad ag al ((I J ad v1).2.2.2.2.2.2.1) (((I J ad v1).2.2.2.2.2.2.1).length:Int) 0) (some (aa,()))
def Ao(k:u7)(U:Int)(aa:Int)(ad:List J.D)(ag:Int)(al:Int)(aE:List aB.D)(a7:Int)(bE:Int):Option (Int×Unit):=cond (decide (bE<a7)) ((aM aE.length bE).bind fun v1=>cond ((I aB aE v1).2.1==U) (k.du U (aH (aa+1)) ad ag al aE a7 (aH (bE+1))) (k.du U aa ad ag al aE a7 (aH (bE+1)))) (k.k3 U aa ad ag (aH (al+1)))
def UL(k:u7):u7:=⟨An k,Ao k⟩
def p0:Nat→u7:=dJ UL ⟨fun _ _ _ _ _=>none,fun _ _ _ _ _ _ _ _=>none⟩
def x4(x:af.D×Int×Unit):Option (Int×Unit):=Ep (p0 aN) x.1 x.2.1
abbrev Er:Type:=Int→(List J.D)→Int→Int→Option (Int×Unit)
def Es(k3:Er)(a1:af.D):Option (Int×Unit):=k3 0 a1.2.1 (a1.2.1.length:Int) 0
def Et(k3:Er)(U:Int)(aa:List J.D)(ad:Int)(ag:Int):Option (Int×Unit):=cond (decide (ag<ad)) ((aM aa.length ag).bind fun v1=>k3 (aH (U +(((I J aa v1).2.2.2.2.2.1).length:Int))) aa ad (aH (ag+1))) (some (U,()))
def u9:Nat→Er | 0,_,_,_,_=>none | m+1,U,aa,ad,ag=>Et (u9 m) U aa ad ag
def sK(x:af.D×Unit):Option (Int×Unit):=Es (u9 aN) x.1
abbrev Eu:Type:=af.D→Int→Int→Int→(List Int)→Option (Int×Int×Unit)
def Ev(bg:Eu)(a1:af.D)(a2:Int):Option (Int×Int×Unit):=(u6 (a1,a2,())).bind fun v1=>bg a1 0 (v1.1.length:Int) 0 v1.1
def Ew(bg:Eu)(U:af.D)(aa:Int)(ad:Int)(ag:Int)(al:List Int):Option (Int×Int×Unit):=cond (decide (ag<ad)) ((aM al.length ag).bind fun v1=>(fS (U,I (ae.int .i64) al (0+v1),())).bind fun v2=>cond (!List.isEmpty v2.1) (cond (!List.isEmpty v2.1) (bg U (aH (aa +(((I J v2.1 0).2.2.2.2.2.1).length:Int))) ad (aH (ag+1)) al) (none)) (bg U aa ad (aH (ag+1)) al)) (some (aa,(al.length:Int),()))
def q2:Nat→Eu | 0,_,_,_,_,_=>none | m+1,U,aa,ad,ag,al=>Ew (q2 m) U aa ad ag al
def Ap(x:af.D×Int×Unit):Option (Int×Int×Unit):=Ev (q2 aN) x.1 x.2.1
def LW(a1:af.D)(a2:J.D):Option (Bool×Unit):=(Ap (a1,a2.1,())).bind fun v1=>cond (decide (a2.2.2.2.2.2.2.2.1>0)) (cond (decide (v1.1>a2.2.2.2.2.2.2.2.1)) (some (true,())) (cond (decide (a2.2.2.2.2.2.2.2.2.1>0)) (some (decide (v1.2.1>a2.2.2.2.2.2.2.2.2.1),())) (some (false,())))) (cond (decide (a2.2.2.2.2.2.2.2.2.1>0)) (some (decide (v1.2.1>a2.2.2.2.2.2.2.2.2.1),())) (some (false,())))
def LX(x:af.D×J.D×Unit):Option (Bool×Unit):=LW x.1 x.2.1
abbrev Ex:Type:=(List J.D)→af.D→Int→Int→Option (Int×Unit)
def Ey(k2:Ex)(a1:List J.D)(a2:af.D):Option (Int×Unit):=k2 a1 a2 (a1.length:Int) 0
def Ez(k2:Ex)(U:List J.D)(aa:af.D)(ad:Int)(ag:Int):Option (Int×Unit):=cond (decide (ag<ad)) ((aM U.length ag).bind fun v1=>(LX (aa,I J U v1,())).bind fun v2=>cond v2.1 (some (ag,())) (k2 U aa ad (aH (ag+1)))) (some ((-1),()))
def u_:Nat→Ex | 0,_,_,_,_=>none | m+1,U,aa,ad,ag=>Ez (u_ m) U aa ad ag
def LY(x:(List J.D)×af.D×Unit):Option (Int×Unit):=Ey (u_ aN) x.1 x.2.1
def LZ(a1:List J.D)(a2:af.D):Option (Bool×Unit):=(LY (a1,a2,())).bind fun v1=>some (decide (v1.1≥0),())
def Aq(x:(List J.D)×af.D×Unit):Option (Bool×Unit):=LZ x.1 x.2.1
structure u' where
 bg:(List J.D)→Int→Int→af.D→Option (Bool×Unit)
 cL:(List J.D)→Int→Int→af.D→(List Int)→Option (Bool×Unit)
def EA(k:u')(a1:af.D):Option (Bool×Unit):=(dh (a1.1,2,100000,())).bind fun v1=>cond (!v1.1) (some (false,())) ((dh ((a1.2.1.length:Int),1,24,())).bind fun v2=>cond (!v2.1) (some (false,())) ((aM a1.2.1.length 0).bind fun v3=>cond ((I J a1.2.1 v3).1 != 1) (some (false,())) ((aM a1.2.1.length 0).bind fun v4=>cond ((I J a1.2.1 v4).2.1 != 2) (some (false,())) (k.bg a1.2.1 (a1.2.1.length:Int) 0 a1))))
def va(k:u')(U:List J.D)(aa:Int)(ad:Int)(ag:af.D):Option (Bool×Unit):=cond (decide (ad<aa)) ((aM U.length ad).bind fun v1=>(dh ((I J U v1).1,1,aH (ag.1-1),())).bind fun v2=>cond (!v2.1) (some (false,())) (cond (decide (ad>0)) ((aM ag.2.1.length (aH (ad-1))).bind fun v3=>cond (decide ((I J ag.2.1 v3).1≥(I J U v1).1)) (some (false,())) ((Ek (ag,I J U v1,())).bind fun v4=>cond (!v4.1) (some (false,())) (k.bg U aa (aH (ad+1)) ag))) ((Ek (ag,I J U v1,())).bind fun v5=>cond (!v5.1) (some (false,())) (k.bg U aa (aH (ad+1)) ag)))) ((u6 (ag,1,())).bind fun v6=>(eh ag.2.1.length 1 (ag.2.1.length:Int)).bind fun bn=>k.cL (part ag.2.1 bn.1 (bn.2-bn.1)) (((part ag.2.1 bn.1 (bn.2-bn.1)).length:Nat):Int) 0 ag v6.1)
def vd(k:u')(U:List J.D)(aa:Int)(ad:Int)(ag:af.D)(al:List Int):Option (Bool×Unit):=cond (decide (ad<aa)) ((aM U.length ad).bind fun v1=>(sJ (al,(I J U v1).1,())).bind fun v2=>cond (!v2.1) (some (false,())) (cond ((I J U v1).2.1==2) ((x4 (ag,(I J U v1).1,())).bind fun v3=>cond (v3.1 != 1) (some (false,())) (k.cL U aa (aH (ad+1)) ag al)) (k.cL U aa (aH (ad+1)) ag al))) ((sK (ag,())).bind fun v4=>cond (decide (v4.1≤400)) ((Aq (ag.2.1,ag,())).bind fun v5=>some (!v5.1,())) (some (false,())))
def UM(k:u'):u':=⟨va k,vd k⟩
def nR:Nat→u':=dJ UM ⟨fun _ _ _ _=>none,fun _ _ _ _ _=>none⟩
def L0(x:af.D×Unit):Option (Bool×Unit):=EA (nR aN) x.1
abbrev EB:Type:=(List bt.D)→Int→Int→aR.D→Option (Bool×Unit)
def EC(k2:EB)(a1:aR.D):Option (Bool×Unit):=k2 a1.2.2.2.1 (a1.2.2.2.1.length:Int) 0 a1
def ED(k2:EB)(U:List bt.D)(aa:Int)(ad:Int)(ag:aR.D):Option (Bool×Unit):=cond (decide (ad<aa)) ((aM U.length ad).bind fun v1=>(dh ((I bt U v1).1,1,3,())).bind fun v2=>cond (!v2.1) (some (false,())) (cond (decide (ad>0)) ((aM ag.2.2.2.1.length (aH (ad-1))).bind fun v3=>cond (decide ((I bt ag.2.2.2.1 v3).1≥(I bt U v1).1)) (some (false,())) ((dh ((I bt U v1).2.1,1,1000000,())).bind fun v4=>cond (!v4.1) (some (false,())) ((dh ((I bt U v1).2.2.1,1,100000,())).bind fun v5=>cond (!v5.1) (some (false,())) ((DZ ((I bt U v1).2.2.2.1,())).bind fun v6=>cond (!v6.1) (some (false,())) (k2 U aa (aH (ad+1)) ag))))) ((dh ((I bt U v1).2.1,1,1000000,())).bind fun bn=>cond (!bn.1) (some (false,())) ((dh ((I bt U v1).2.2.1,1,100000,())).bind fun cF=>cond (!cF.1) (some (false,())) ((DZ ((I bt U v1).2.2.2.1,())).bind fun v9=>cond (!v9.1) (some (false,())) (k2 U aa (aH (ad+1)) ag)))))) ((dh (ag.2.1,0,30,())).bind fun v10=>cond v10.1 ((D3 (ag.2.2.1,())).bind fun v11=>cond v11.1 ((L0 (ag.1,())).bind fun v12=>some (v12.1,())) (some (false,()))) (some (false,())))
def ve:Nat→EB | 0,_,_,_,_=>none | m+1,U,aa,ad,ag=>ED (ve m) U aa ad ag
def L1(x:aR.D×Unit):Option (Bool×Unit):=EC (ve aN) x.1
abbrev x5:Type:=(List J.D)→Int→Int→af.D→af.D→Option (af.D×Unit)
def EE(k3:x5)(a1:af.D):Option (af.D×Unit):=k3 a1.2.1 (a1.2.1.length:Int) 0 (0,[],()) (a1.1,[],())
def UN(k3:x5)(U:List J.D)(aa:Int)(ad:Int)(ag:af.D)(al:af.D)(v3:List J.D):Option (af.D×Unit):=k3 U aa (aH (ad+1)) ag (al.1,v3,())
def UO(k3:x5)(al:af.D)(U:List J.D)(v1:Nat)(aa:Int)(ad:Int)(ag:af.D)(v2:List aB.D):Option (af.D×Unit):=cond (room (al.2.1.length+[((I J U v1).1,(I J U v1).2.1,(I J U v1).2.2.1,(I J U v1).2.2.2.1,(I J U v1).2.2.2.2.1,(I J U v1).2.2.2.2.2.1,v2,(I J U v1).2.2.2.2.2.2.2.1,(I J U v1).2.2.2.2.2.2.2.2.1,())].length)) (UN k3 U aa ad ag al (al.2.1++[((I J U v1).1,(I J U v1).2.1,(I J U v1).2.2.1,(I J U v1).2.2.2.1,(I J U v1).2.2.2.2.1,(I J U v1).2.2.2.2.2.1,v2,(I J U v1).2.2.2.2.2.2.2.1,(I J U v1).2.2.2.2.2.2.2.2.1,())])) (none)
def EF(k3:x5)(U:List J.D)(aa:Int)(ad:Int)(ag:af.D)(al:af.D):Option (af.D×Unit):=cond (decide (ad<aa)) ((aM U.length ad).bind fun v1=>cond (room (([]:List aB.D).length +((I J U v1).2.2.2.2.2.2.1).length)) (UO k3 al U v1 aa ad ag (([]:List aB.D)++((I J U v1).2.2.2.2.2.2.1))) (none)) (some (al,()))
def vf:Nat→x5 | 0,_,_,_,_,_=>none | m+1,U,aa,ad,ag,al=>EF (vf m) U aa ad ag al
def q3(x:af.D×Unit):Option (af.D×Unit):=EE (vf aN) x.1
def L2(a1:aR.D):Option (aR.D×Unit):=(q3 (a1.1,())).bind fun v1=>cond (room (([]:List aO.D).length+a1.2.2.1.length)) (cond (room (([]:List bt.D).length+a1.2.2.2.1.length)) (some ((v1.1,a1.2.1,([]:List aO.D)++a1.2.2.1,([]:List bt.D)++a1.2.2.2.1,()),())) (none)) (none)
def L3(x:aR.D×Unit):Option (aR.D×Unit):=L2 x.1
structure vg where
 k2:aR.D→Int→(List aO.D)→Int→Int→Option (Bool×Unit)
 df:Int→(List bt.D)→Int→Int→Option (Bool×Unit)
def UP(k:vg)(a1:aR.D)(a2:Int):Option (Bool×Unit):=k.k2 a1 a2 a1.2.2.1 (a1.2.2.1.length:Int) 0
def EG(k:vg)(U:aR.D)(aa:Int)(ad:List aO.D)(ag:Int)(al:Int):Option (Bool×Unit):=cond (decide (al<ag)) ((aM ad.length al).bind fun v1=>cond (decide (aa<(I aO ad v1).1)) (some (true,())) (k.k2 U aa ad ag (aH (al+1)))) (k.df aa U.2.2.2.1 (U.2.2.2.1.length:Int) 0)
def EH(k:vg)(U:Int)(aa:List bt.D)(ad:Int)(ag:Int):Option (Bool×Unit):=cond (decide (ag<ad)) ((aM aa.length ag).bind fun v1=>cond (decide (U<(I bt aa v1).2.2.1)) (some (true,())) (k.df U aa ad (aH (ag+1)))) (some (false,()))
def UQ(k:vg):vg:=⟨EG k,EH k⟩
def sL:Nat→vg:=dJ UQ ⟨fun _ _ _ _ _=>none,fun _ _ _ _=>none⟩
def L4(x:aR.D×Int×Unit):Option (Bool×Unit):=UP (sL aN) x.1 x.2.1
abbrev EI:Type:=aR.D→Int→Int→Option (Int×Bool×Unit)
def UR(k2:EI)(a1:aR.D)(a2:Int):Option (Int×Bool×Unit):=k2 a1 a2 0
def x6(k2:EI)(U:aR.D)(aa:Int)(ad:Int):Option (Int×Bool×Unit):=cond (decide (ad<(U.2.2.2.1.length:Int))) ((aM U.2.2.2.1.length ad).bind fun v1=>cond (decide ((I bt U.2.2.2.1 v1).1<aa)) (k2 U aa (aH (ad+1))) (cond (decide (ad<(U.2.2.2.1.length:Int))) ((aM U.2.2.2.1.length ad).bind fun v2=>some (ad,(I bt U.2.2.2.1 v2).1==aa,())) (some (ad,false,())))) (cond (decide (ad<(U.2.2.2.1.length:Int))) ((aM U.2.2.2.1.length ad).bind fun v3=>some (ad,(I bt U.2.2.2.1 v3).1==aa,())) (some (ad,false,())))
def x7:Nat→EI | 0,_,_,_=>none | m+1,U,aa,ad=>x6 (x7 m) U aa ad
def EJ(x:aR.D×Int×Unit):Option (Int×Bool×Unit):=UR (x7 aN) x.1 x.2.1
def L5(a1:aR.D)(a2:Int):Option (bt.D×Unit):=(EJ (a1,a2,())).bind fun v1=>cond v1.2.1 ((aM a1.2.2.2.1.length v1.1).bind fun v2=>some (I bt a1.2.2.2.1 v2,())) (some ((0,0,0,(0,[],()),()),()))
def L6(x:aR.D×Int×Unit):Option (bt.D×Unit):=L5 x.1 x.2.1
structure vh where
 k3:Bool→Bool→aG.D→Option (Bool×Unit)
 bx:aG.D→Option (Bool×Unit)
def EK(k:vh)(a1:aG.D):Option (Bool×Unit):=cond (a1.1==9) (cond (a1.1==5) (k.k3 true true a1) (k.k3 true (a1.1==6) a1)) (cond (a1.1==10) (cond (a1.1==5) (k.k3 true true a1) (k.k3 true (a1.1==6) a1)) (cond (a1.1==5) (k.k3 (a1.1==12) true a1) (k.k3 (a1.1==12) (a1.1==6) a1)))
def US(k:vh)(U:Bool)(aa:Bool)(ad:aG.D):Option (Bool×Unit):=cond (!U) (cond (!(bD ad.2.2.1 [])) (some (false,())) (cond (!aa) (cond (!(bD ad.2.2.2.2.2.1 [])) (some (false,())) (k.bx ad)) (k.bx ad))) (cond (!aa) (cond (!(bD ad.2.2.2.2.2.1 [])) (some (false,())) (k.bx ad)) (k.bx ad))
def UT(k:vh)(U:aG.D):Option (Bool×Unit):=(dh (U.1,1,22,())).bind fun v1=>cond v1.1 (cond (decide ((U.2.1.length:Int)≤60)) (cond (decide ((U.2.2.1.length:Int)≤60)) (cond (decide ((U.2.2.2.2.2.1.length:Int)≤64)) ((dh (U.2.2.2.1,(-1000000),1000000,())).bind fun v2=>cond v2.1 ((dh (U.2.2.2.2.1,(-1000000),1000000,())).bind fun v3=>some (v3.1,())) (some (false,()))) (some (false,()))) (some (false,()))) (some (false,()))) (some (false,()))
def L7(k:vh):vh:=⟨US k,UT k⟩
def EL:Nat→vh:=dJ L7 ⟨fun _ _ _=>none,fun _=>none⟩
def Ar(x:aG.D×Unit):Option (Bool×Unit):=EK (EL aN) x.1
def afE(a1:Int):Option (Bool×Unit):=cond (a1==4) (cond (a1==4) (some (true,())) (some (false,()))) (cond (a1==11) (cond (a1==11) (some (true,())) (some (false,()))) (cond (a1==13) (cond (a1==13) (some (true,())) (some (false,()))) (cond (a1==14) (cond (a1==14) (some (true,())) (some (false,()))) (cond (a1==17) (cond (a1==17) (some (true,())) (some (false,()))) (cond (a1==18) (cond (a1==18) (some (true,())) (some (false,()))) (cond (a1==20) (cond (a1==20) (some (true,())) (some (false,()))) (cond (a1==21) (some (true,())) (some (false,())))))))))
def As(x:Int×Unit):Option (Bool×Unit):=afE x.1
def afF(a1:Int):Option (aF.D×Unit):=some ((a1,[],()),())
def eA(x:Int×Unit):Option (aF.D×Unit):=afF x.1
def L8(a1:Int):Option (Int×Unit):=(dh (a1,1,22,())).bind fun v1=>cond (!v1.1) (some (0,())) ((As (a1,())).bind fun v2=>cond v2.1 (some (1,())) (some (3,())))
def L9(x:Int×Unit):Option (Int×Unit):=L8 x.1
def L_(a1:Int)(a2:Int):Option (Int×Bool×Unit):=(L9 (a2,())).bind fun v1=>cond (v1.1==0) (some (a1,false,())) (cond (decide (v1.1>a1)) (some (a1,false,())) (some (aH (a1-v1.1),true,())))
def L'(x:Int×Int×Unit):Option (Int×Bool×Unit):=L_ x.1 x.2.1
def Ma(a1:Int):Option (aL.D×Unit):=cond (a1==1) (some ((0,0,[],()),())) (cond (a1==2) (some ((2,2,[5],()),())) (cond (a1==3) (some ((3,2,[],()),())) (some ((1000,1000,[],()),()))))
def Mb(x:Int×Unit):Option (aL.D×Unit):=Ma x.1
structure vi where
 bg:Int→(aj)→Int→Option ((aj)×Unit)
 dq:Int→(aj)→Int→Int→Option ((aj)×Unit)
def UU(k:vi)(a1:Int):Option ((aj)×Unit):=k.bg a1 ([]:aj) a1
def Mc(k:vi)(U:Int)(aa:aj)(ad:Int):Option ((aj)×Unit):=cond (decide (Int.tmod ad 10<0)) (k.dq U aa ad (aH (0-(Int.tmod ad 10)))) (k.dq U aa ad (Int.tmod ad 10))
def Md(k:vi)(U:Int)(aa:aj)(ad:Int)(ag:Int):Option ((aj)×Unit):=cond (room ((gP [IntKind.wrap .u8 (aH (48+ag))]).length+aa.length)) ((dh (ad,(-9),9,())).bind fun v1=>cond v1.1 (cond (decide (U<0)) (cond (room (([45]:aj).length +((gP [IntKind.wrap .u8 (aH (48+ag))])++aa).length)) (some (([45]:aj)++((gP [IntKind.wrap .u8 (aH (48+ag))])++aa),())) (none)) (some ((gP [IntKind.wrap .u8 (aH (48+ag))])++aa,()))) (k.bg U ((gP [IntKind.wrap .u8 (aH (48+ag))])++aa) (aH (Int.tdiv ad 10)))) (none)
def UW(k:vi):vi:=⟨Mc k,Md k⟩
def mX:Nat→vi:=dJ UW ⟨fun _ _ _=>none,fun _ _ _ _=>none⟩
def vj(x:Int×Unit):Option ((aj)×Unit):=UU (mX aN) x.1
structure vk where
 bx:(List aO.D)→Int→(aj)→Int→Option ((aj)×Unit)
 cL:(List aO.D)→Int→(aj)→Int→Int→Int→(List Int)→Option ((aj)×Unit)
def EM(k:vk)(a1:List aO.D)(a2:Int):Option ((aj)×Unit):=(D3 (a1,())).bind fun v1=>cond (!v1.1) (some ([],())) (cond (decide (a2<0)) (some ([],())) (k.bx a1 a2 ([]:aj) a2))
def EN(k:vk)(U:List aO.D)(aa:Int)(ad:aj)(ag:Int):Option ((aj)×Unit):=cond (decide (ag<(U.length:Int))) (cond (decide (ag<aH (aa+6))) (cond (decide (ag>aa)) (cond (room (ad.length +([32]:aj).length)) ((aM U.length ag).bind fun v1=>k.cL U aa (ad++([32]:aj)) ag ([(I aO U v1).1,(I aO U v1).2.1,(I aO U v1).2.2.1,(I aO U v1).2.2.2.1,(I aO U v1).2.2.2.2.1].length:Int) 0 [(I aO U v1).1,(I aO U v1).2.1,(I aO U v1).2.2.1,(I aO U v1).2.2.2.1,(I aO U v1).2.2.2.2.1]) (none)) ((aM U.length ag).bind fun v2=>k.cL U aa ad ag ([(I aO U v2).1,(I aO U v2).2.1,(I aO U v2).2.2.1,(I aO U v2).2.2.2.1,(I aO U v2).2.2.2.2.1].length:Int) 0 [(I aO U v2).1,(I aO U v2).2.1,(I aO U v2).2.2.1,(I aO U v2).2.2.2.1,(I aO U v2).2.2.2.2.1])) (some (ad,()))) (some (ad,()))
def EO(k:vk)(U:List aO.D)(aa:Int)(ad:aj)(ag:Int)(al:Int)(aE:Int)(a7:List Int):Option ((aj)×Unit):=cond (decide (aE<al)) ((aM a7.length aE).bind fun v1=>cond (decide (aE>0)) (cond (room (ad.length +([46]:aj).length)) ((vj (I (ae.int .i64) a7 (0+v1),())).bind fun v2=>cond (room ((ad++([46]:aj)).length+v2.1.length)) (k.cL U aa ((ad++([46]:aj))++v2.1) ag al (aH (aE+1)) a7) (none)) (none)) ((vj (I (ae.int .i64) a7 (0+v1),())).bind fun v3=>cond (room (ad.length+v3.1.length)) (k.cL U aa (ad++v3.1) ag al (aH (aE+1)) a7) (none))) (k.bx U aa ad (aH (ag+1)))
def UX(k:vk):vk:=⟨EN k,EO k⟩
def nS:Nat→vk:=dJ UX ⟨fun _ _ _ _=>none,fun _ _ _ _ _ _ _=>none⟩
def Me(x:(List aO.D)×Int×Unit):Option ((aj)×Unit):=EM (nS aN) x.1 x.2.1
def Mf(a1:Int):Option (Bool×Unit):=(dh (a1,0,1000,())).bind fun v1=>some (!v1.1,())
def UY(x:Int×Unit):Option (Bool×Unit):=Mf x.1
abbrev EP:Type:=(List Int)→Int→Int→Option (Int×Unit)
def ER(k2:EP)(a1:List Int):Option (Int×Unit):=k2 a1 (a1.length:Int) 0
def ES(k2:EP)(U:List Int)(aa:Int)(ad:Int):Option (Int×Unit):=cond (decide (ad<aa)) ((aM U.length ad).bind fun v1=>(UY (I (ae.int .i64) U v1,())).bind fun v2=>cond v2.1 (some (ad,())) (k2 U aa (aH (ad+1)))) (some ((-1),()))
def vl:Nat→EP | 0,_,_,_=>none | m+1,U,aa,ad=>ES (vl m) U aa ad
def Mg(x:(List Int)×Unit):Option (Int×Unit):=ER (vl aN) x.1
def Mh(a1:List Int):Option (Bool×Unit):=(Mg (a1,())).bind fun v1=>some (decide (v1.1≥0),())
def Mi(x:(List Int)×Unit):Option (Bool×Unit):=Mh x.1
def Mj(a1:aL.D):Option (Bool×Unit):=(dh (a1.1,0,1000,())).bind fun v1=>cond (!v1.1) (some (false,())) ((dh (a1.2.1,0,1000,())).bind fun v2=>cond (!v2.1) (some (false,())) (cond (decide ((a1.2.2.1.length:Int)>4)) (some (false,())) ((Mi (a1.2.2.1,())).bind fun v3=>some (!v3.1,()))))
def x8(x:aL.D×Unit):Option (Bool×Unit):=Mj x.1
def Mk(a1:aj):Option (Bool×Unit):=(x2 (a1,())).bind fun v1=>cond v1.1 ((aM a1.length 0).bind fun v2=>some (((a1.getD v2 0).toNat:Int)==47,())) (some (false,()))
def Ml(x:(aj)×Unit):Option (Bool×Unit):=Mk x.1
def Mm(a1:aL.D)(a2:Int):Option (Bool×Unit):=(x8 (a1,())).bind fun v1=>cond v1.1 (cond (a2==a1.2.1) (some (true,())) ((sJ (a1.2.2.1,a2,())).bind fun v2=>some (v2.1,()))) (some (false,()))
def vm(x:aL.D×Int×Unit):Option (Bool×Unit):=Mm x.1 x.2.1
def Mn(a1:aL.D)(a2:J.D)(a3:Int):Option (Bool×Unit):=(x8 (a1,())).bind fun v1=>cond (!v1.1) (some (false,())) ((dh (a3,0,7,())).bind fun v2=>cond (!v2.1) (some (false,())) (cond (a1.1==0) (cond (a2.2.1 != 1) (some (true,())) (cond (cY .and .i64 a2.2.2.1 73 != 0) (some (true,())) (some (cY .and .i64 a3 1==0,())))) (cond (a1.1==a2.2.2.2.1) (some (cY .and .i64 (cY .and .i64 (Int.fdiv a2.2.2.1 (2 ^ min (Int.toNat 6) 64)) 7) a3==a3,())) ((vm (a1,a2.2.2.2.2.1,())).bind fun v3=>cond v3.1 (some (cY .and .i64 (cY .and .i64 (Int.fdiv a2.2.2.1 (2 ^ min (Int.toNat 3) 64)) 7) a3==a3,())) (some (cY .and .i64 (cY .and .i64 a2.2.2.1 7) a3==a3,()))))))
def p1(x:aL.D×J.D×Int×Unit):Option (Bool×Unit):=Mn x.1 x.2.1 x.2.2.1
abbrev ET:Type:=(aj)→(List aB.D)→Int→Int→Option (Int×Unit)
def EU(k2:ET)(a1:J.D)(a2:aj):Option (Int×Unit):=k2 a2 a1.2.2.2.2.2.2.1 (a1.2.2.2.2.2.2.1.length:Int) 0
def EV(k2:ET)(U:aj)(aa:List aB.D)(ad:Int)(ag:Int):Option (Int×Unit):=cond (decide (ag<ad)) ((aM aa.length ag).bind fun v1=>cond (bD ((I aB aa v1).1) U) (some ((I aB aa v1).2.1,())) (k2 U aa ad (aH (ag+1)))) (some (0,()))
def sM:Nat→ET | 0,_,_,_,_=>none | m+1,U,aa,ad,ag=>EV (sM m) U aa ad ag
def EW(x:J.D×(aj)×Unit):Option (Int×Unit):=EU (sM aN) x.1 x.2.1
def UZ(_:(aj)×Int×Unit):Option ((List (aj))×Unit):=none
def U0(x:(aj)×Int×Unit):Option (Int×Unit):=some (Lib.indexByte x.1 x.2.1.toNat.toUInt8,())
def afG(a1:aj)(a2:Int):Option (Int×Unit):=(U0 (a1,a2,())).bind fun v1=>some (v1.1,())
def U1(x:(aj)×Int×Unit):Option (Int×Unit):=afG x.1 x.2.1
def Mo(a1:aj)(a2:aj):Option (Int×Unit):=cond ((a2.length:Int)==0) (some (0,())) (cond (bD a2 a1) (some (0,())) (cond ((a2.length:Int)==1) ((aM a2.length 0).bind fun v1=>(U1 (a1,((a2.getD v1 0).toNat:Int),())).bind fun v2=>some (v2.1,())) (cond (decide ((a2.length:Int)≥(a1.length:Int))) (some ((-1),())) (none))))
def U2(x:(aj)×(aj)×Unit):Option (Int×Unit):=Mo x.1 x.2.1
def Mp(a1:aj)(a2:aj):Option (Int×Unit):=(U2 (a1,a2,())).bind fun v1=>some (v1.1,())
def EX(x:(aj)×(aj)×Unit):Option (Int×Unit):=Mp x.1 x.2.1
def U3(_:(aj)×Unit):Option (Int×Unit):=none
def U4(x:(aj)×Int×Unit):Option (Int×Unit):=some ((Lib.countByte x.1 x.2.1.toNat.toUInt8:Int),())
abbrev EY:Type:=(aj)→(aj)→Int→Option (Int×Unit)
def EZ(du:EY)(a1:aj)(a2:aj):Option (Int×Unit):=cond ((a2.length:Int)==0) ((U3 (a1,())).bind fun v1=>some (aH (v1.1+1),())) (cond ((a2.length:Int)==1) ((aM a2.length 0).bind fun v2=>(U4 (a1,((a2.getD v2 0).toNat:Int),())).bind fun v3=>some (v3.1,())) (du a1 a2 0))
def U5(du:EY)(U:aj)(aa:aj)(ad:Int):Option (Int×Unit):=(EX (U,aa,())).bind fun v1=>cond (v1.1 ==(-1)) (some (ad,())) ((eh U.length (aH (v1.1 +(aa.length:Int))) (U.length:Int)).bind fun v2=>du (part U v2.1 (v2.2-v2.1)) aa (aH (ad+1)))
def E0:Nat→EY | 0,_,_,_=>none | m+1,U,aa,ad=>U5 (E0 m) U aa ad
def Mq(x:(aj)×(aj)×Unit):Option (Int×Unit):=EZ (E0 aN) x.1 x.2.1
abbrev p2:Type:=(List (aj))×Unit
structure q4 where
 dq:(aj)→(aj)→Int→Int→Option (p2)
 cL:(aj)→(aj)→Int→Int→Int→(List (aj))→Option (p2)
 oT:(aj)→Int→(List (aj))→Option (p2)
def E1(k:q4)(a1:aj)(a2:aj)(a3:Int)(a4:Int):Option (p2):=cond (a4==0) (some ([],())) (cond (bD a2 []) ((UZ (a1,a4,())).bind fun v1=>some (v1.1,())) (cond (decide (a4<0)) ((Mq (a1,a2,())).bind fun v2=>k.dq a1 a2 a3 (aH (v2.1+1))) (k.dq a1 a2 a3 a4)))
def Mr(k:q4)(U:aj)(aa:aj)(ad:Int)(ag:Int):Option (p2):=cond (decide (0≤j0 ag (aH ((U.length:Int)+1)))&&decide (j0 ag (aH ((U.length:Int)+1))=j0 ag (aH ((U.length:Int)+1)))&&room (Int.toNat (j0 ag (aH ((U.length:Int)+1))))) (k.cL U aa ad (aH (j0 ag (aH ((U.length:Int)+1))-1)) 0 (List.replicate (Int.toNat (j0 ag (aH ((U.length:Int)+1)))) (([]:aj):aj))) (none)
def U6(k:q4)(U:aj)(v1:Int×Unit)(aa:aj)(ad:Int)(ag:Int)(al:Int)(v4:List (aj)):Option (p2):=(eh U.length (aH (v1.1 +(aa.length:Int))) (U.length:Int)).bind fun v5=>k.cL (part U v5.1 (v5.2-v5.1)) aa ad ag (aH (al+1)) v4
def At(k:q4)(U:aj)(aa:aj)(ad:Int)(ag:Int)(al:Int)(aE:List (aj)):Option (p2):=cond (decide (al<ag)) ((EX (U,aa,())).bind fun v1=>cond (decide (v1.1<0)) (k.oT U al aE) ((eh U.length 0 (aH (v1.1+ad))).bind fun v2=>(aM aE.length al).bind fun v3=>U6 k U v1 aa ad ag al (aE.set (0+v3) (part U v2.1 (v2.2-v2.1))))) (k.oT U al aE)
def Ms(k:q4)(U:aj)(aa:Int)(ad:List (aj)):Option (p2):=(aM ad.length aa).bind fun v1=>(eh ((ad.set (0+v1) U).length) 0 (aH (aa+1))).bind fun v2=>some (part (ad.set (0+v1) U) (0+v2.1) (v2.2-v2.1),())
def U7(k:q4):q4:=⟨Mr k,At k,Ms k⟩
def q5:Nat→q4:=dJ U7 ⟨fun _ _ _ _=>none,fun _ _ _ _ _ _=>none,fun _ _ _=>none⟩
def Mt(x:(aj)×(aj)×Int×Int×Unit):Option (p2):=E1 (q5 aN) x.1 x.2.1 x.2.2.1 x.2.2.2.1
abbrev U8:Type:=(List (aj))×Unit
def Mu(a1:aj)(a2:aj):Option (U8):=(Mt (a1,a2,0,(-1),())).bind fun v1=>some (v1.1,())
def Mv(x:(aj)×(aj)×Unit):Option (U8):=Mu x.1 x.2.1
abbrev Au:Type:=(List (aj))×Unit
abbrev E2:Type:=Int→Int→(List (aj))→(List (aj))→Option (Au)
def E3(k3:E2)(a1:aj):Option (Au):=(Mv (a1,([47]:aj),())).bind fun v1=>k3 (v1.1.length:Int) 0 ([]:List (aj)) v1.1
def E4(k3:E2)(U:Int)(aa:Int)(ad:List (aj))(ag:List (aj)):Option (Au):=cond (decide (aa<U)) ((aM ag.length aa).bind fun v1=>cond (!(bD (I ae.str ag (0+v1)) [])) (cond (room (ad.length+[I ae.str ag (0+v1)].length)) (k3 U (aH (aa+1)) (ad++[I ae.str ag (0+v1)]) ag) (none)) (k3 U (aH (aa+1)) ad ag)) (some (ad,()))
def sN:Nat→E2 | 0,_,_,_,_=>none | m+1,U,aa,ad,ag=>E4 (sN m) U aa ad ag
def sO(x:(aj)×Unit):Option (Au):=E3 (sN aN) x.1
structure vn where
 k2:Int→(List J.D)→Int→Int→Option (Int×Unit)
 bx:Int→(List J.D)→Int→Int→(List aB.D)→Int→Int→J.D→Option (Int×Unit)
def E5(k:vn)(a1:af.D)(a2:Int):Option (Int×Unit):=k.k2 a2 a1.2.1 (a1.2.1.length:Int) 0
def vo(k:vn)(U:Int)(aa:List J.D)(ad:Int)(ag:Int):Option (Int×Unit):=cond (decide (ag<ad)) ((aM aa.length ag).bind fun v1=>k.bx U aa ad ag ((I J aa v1).2.2.2.2.2.2.1) (((I J aa v1).2.2.2.2.2.2.1).length:Int) 0 (I J aa v1)) (some (1,()))
def vp(k:vn)(U:Int)(aa:List J.D)(ad:Int)(ag:Int)(al:List aB.D)(aE:Int)(a7:Int)(bE:J.D):Option (Int×Unit):=cond (decide (a7<aE)) ((aM al.length a7).bind fun v1=>cond ((I aB al v1).2.1==U) (some (bE.1,())) (k.bx U aa ad ag al aE (aH (a7+1)) bE)) (k.k2 U aa ad (aH (ag+1)))
def U9(k:vn):vn:=⟨vo k,vp k⟩
def kP:Nat→vn:=dJ U9 ⟨fun _ _ _ _=>none,fun _ _ _ _ _ _ _ _=>none⟩
def Mw(x:af.D×Int×Unit):Option (Int×Unit):=E5 (kP aN) x.1 x.2.1
abbrev sP:Type:=af.D→Bool→Nat→Nat→Int→Int→aL.D→a6.D→(List (aj))→Option (a6.D×Unit)
def E6(k3:sP)(a1:af.D)(a2:aL.D)(a3:aj)(a4:Bool):Option (a6.D×Unit):=(sO (a3,())).bind fun v1=>k3 a1 a4 0 v1.1.length 1 0 a2 (0,[],0,0,()) v1.1
def U_(k3:sP)(U:af.D)(aa:Bool)(aE:Int)(a7:aL.D)(bE:a6.D)(v10:List (aj)):Option (a6.D×Unit):=cond (decide ((v10.length:Int)>40)) (some ((0,[],0,36,()),())) (k3 U aa 0 v10.length 1 (aH (aE+1)) a7 bE v10)
def U'(k3:sP)(U:af.D)(aa:Bool)(al:Int)(aE:Int)(a7:aL.D)(bE:a6.D)(v12:List (aj)):Option (a6.D×Unit):=cond (decide ((v12.length:Int)>40)) (some ((0,[],0,36,()),())) (k3 U aa 0 v12.length al (aH (aE+1)) a7 bE v12)
def Va(k3:sP)(U:af.D)(aa:Bool)(aE:Int)(a7:aL.D)(bE:a6.D)(gh:List (aj)):Option (a6.D×Unit):=cond (decide ((gh.length:Int)>40)) (some ((0,[],0,36,()),())) (k3 U aa 0 gh.length 1 (aH (aE+1)) a7 bE gh)
def Vb(k3:sP)(U:af.D)(aa:Bool)(al:Int)(aE:Int)(a7:aL.D)(bE:a6.D)(jt:List (aj)):Option (a6.D×Unit):=cond (decide ((jt.length:Int)>40)) (some ((0,[],0,36,()),())) (k3 U aa 0 jt.length al (aH (aE+1)) a7 bE jt)
def mf(k3:sP)(U:af.D)(aa:Bool)(ad:Nat)(ag:Nat)(al:Int)(aE:Int)(a7:aL.D)(bE:a6.D)(cn:List (aj)):Option (a6.D×Unit):=cond (decide ((ag:Int)>0)) ((aM ag 0).bind fun v1=>(eh ag 1 (ag:Int)).bind fun v2=>(fS (U,al,())).bind fun v3=>cond (!List.isEmpty v3.1) ((p1 (a7,I J v3.1 0,1,())).bind fun v4=>cond (!v4.1) (some ((0,[],0,13,()),())) (cond (bD (I ae.str cn (ad+v1)) ([46]:aj)) (k3 U aa (ad+v2.1) (v2.2-v2.1) al aE a7 bE cn) (cond (bD (I ae.str cn (ad+v1)) ([46,46]:aj)) ((Mw (U,al,())).bind fun v5=>k3 U aa (ad+v2.1) (v2.2-v2.1) v5.1 aE a7 bE cn) (cond (decide (((I ae.str cn (ad+v1)).length:Int)>8)) (some ((0,[],0,36,()),())) (cond (!List.isEmpty v3.1) ((EW (I J v3.1 0,I ae.str cn (ad+v1),())).bind fun v6=>cond (v6.1==0) (cond ((((v2.2-v2.1):Nat):Int)==0) (some ((al,I ae.str cn (ad+v1),0,2,()),())) (some ((0,[],0,2,()),()))) ((fS (U,v6.1,())).bind fun bn=>cond (!List.isEmpty bn.1) (cond ((I J bn.1 0).2.1==3) (cond (!((((v2.2-v2.1):Nat):Int)==0)) (cond (aE==8) (some ((0,[],0,40,()),())) (cond (!List.isEmpty bn.1) ((aM (((I J bn.1 0).2.2.2.2.2.1).length) 0).bind fun cF=>cond (((((I J bn.1 0).2.2.2.2.2.1).getD cF 0).toNat:Int)==47) (cond (!List.isEmpty bn.1) ((sO ((I J bn.1 0).2.2.2.2.2.1,())).bind fun v9=>cond (room (v9.1.length +(part cn (ad+v2.1) (v2.2-v2.1)).length)) (U_ k3 U aa aE a7 bE (v9.1++(part cn (ad+v2.1) (v2.2-v2.1)))) (none)) (none)) (cond (!List.isEmpty bn.1) ((sO ((I J bn.1 0).2.2.2.2.2.1,())).bind fun v11=>cond (room (v11.1.length +(part cn (ad+v2.1) (v2.2-v2.1)).length)) (U' k3 U aa al aE a7 bE (v11.1++(part cn (ad+v2.1) (v2.2-v2.1)))) (none)) (none))) (none))) (cond aa (cond (aE==8) (some ((0,[],0,40,()),())) (cond (!List.isEmpty bn.1) ((aM (((I J bn.1 0).2.2.2.2.2.1).length) 0).bind fun gz=>cond (((((I J bn.1 0).2.2.2.2.2.1).getD gz 0).toNat:Int)==47) (cond (!List.isEmpty bn.1) ((sO ((I J bn.1 0).2.2.2.2.2.1,())).bind fun hY=>cond (room (hY.1.length +(part cn (ad+v2.1) (v2.2-v2.1)).length)) (Va k3 U aa aE a7 bE (hY.1++(part cn (ad+v2.1) (v2.2-v2.1)))) (none)) (none)) (cond (!List.isEmpty bn.1) ((sO ((I J bn.1 0).2.2.2.2.2.1,())).bind fun j9=>cond (room (j9.1.length +(part cn (ad+v2.1) (v2.2-v2.1)).length)) (Vb k3 U aa al aE a7 bE (j9.1++(part cn (ad+v2.1) (v2.2-v2.1)))) (none)) (none))) (none))) (cond ((((v2.2-v2.1):Nat):Int)==0) (some ((al,I ae.str cn (ad+v1),v6.1,0,()),())) (cond (!List.isEmpty bn.1) (cond ((I J bn.1 0).2.1 != 2) (some ((0,[],0,20,()),())) (k3 U aa (ad+v2.1) (v2.2-v2.1) v6.1 aE a7 bE cn)) (none))))) (cond ((((v2.2-v2.1):Nat):Int)==0) (some ((al,I ae.str cn (ad+v1),v6.1,0,()),())) (cond (!List.isEmpty bn.1) (cond ((I J bn.1 0).2.1 != 2) (some ((0,[],0,20,()),())) (k3 U aa (ad+v2.1) (v2.2-v2.1) v6.1 aE a7 bE cn)) (none)))) (none))) (none)))))) (none)) (some ((0,[],al,0,()),()))
def gA:Nat→sP | 0,_,_,_,_,_,_,_,_,_=>none | m+1,U,aa,ad,ag,al,aE,a7,bE,cn=>mf (gA m) U aa ad ag al aE a7 bE cn
def Mx(x:af.D×aL.D×(aj)×Bool×Unit):Option (a6.D×Unit):=E6 (gA aN) x.1 x.2.1 x.2.2.1 x.2.2.2.1
def q6(a1:aP.D)(a2:aj)(a3:Bool):Option (a6.D×Unit):=(Ml (a2,())).bind fun v1=>cond (!v1.1) (some ((0,[],0,22,()),())) ((Mx (a1.1,a1.2.1,a2,a3,())).bind fun v2=>some (v2.1,()))
def ly(x:aP.D×(aj)×Bool×Unit):Option (a6.D×Unit):=q6 x.1 x.2.1 x.2.2.1
def Av(a1:aP.D)(a2:aj):Option (a6.D×Int×Unit):=(ly (a1,a2,false,())).bind fun v1=>cond (v1.1.2.2.2.1==2) (cond (!(bD v1.1.2.1 [])) (some (v1.1,0,())) (cond (v1.1.2.2.2.1==0) (some (v1.1,17,())) (some (v1.1,v1.1.2.2.2.1,())))) (cond (v1.1.2.2.2.1==0) (some (v1.1,17,())) (some (v1.1,v1.1.2.2.2.1,())))
def vq(x:aP.D×(aj)×Unit):Option (a6.D×Int×Unit):=Av x.1 x.2.1
def My(a1:aP.D)(a2:Int):Option (Bool×Unit):=(fS (a1.1,a2,())).bind fun v1=>cond (!List.isEmpty v1.1) ((p1 (a1.2.1,I J v1.1 0,3,())).bind fun v2=>some (v2.1,())) (none)
def nT(x:aP.D×Int×Unit):Option (Bool×Unit):=My x.1 x.2.1
def Vc(x:(List aB.D)×Int×(List aB.D)×Unit):Option ((List aB.D)×Unit):=insF x.1 x.2.1 x.2.2.1
structure vr where
 k2:(aj)→Int→Int→Int→aP.D→Option (aP.D×Unit)
 bg:(aj)→Int→Int→Int→aP.D→Option (aP.D×Unit)
def E7(k:vr)(a1:aP.D)(a2:Int)(a3:aj)(a4:Int):Option (aP.D×Unit):=(x3 (a1.1,a2,())).bind fun v1=>k.k2 a3 a4 v1.1 0 (v1.2.1,a1.2.1,a1.2.2.1,())
def Aw(k:vr)(U:aj)(aa:Int)(ad:Int)(ag:Int)(al:aP.D):Option (aP.D×Unit):=(aM al.1.2.1.length ad).bind fun v1=>cond (decide (ag<(((I J al.1.2.1 v1).2.2.2.2.2.2.1).length:Int))) ((aM al.1.2.1.length ad).bind fun v2=>(aM (((I J al.1.2.1 v2).2.2.2.2.2.2.1).length) ag).bind fun v3=>cond (dG ((I aB ((I J al.1.2.1 v2).2.2.2.2.2.2.1) v3).1) U) (k.k2 U aa ad (aH (ag+1)) al) (k.bg U aa ad ag al)) (k.bg U aa ad ag al)
def afH(al:aP.D)(v4:List J.D):Option (aP.D×Unit):=some (((al.1.1,v4,()),al.2.1,al.2.2.1,()),())
def Mz(k:vr)(U:aj)(aa:Int)(ad:Int)(ag:Int)(al:aP.D):Option (aP.D×Unit):=(aM al.1.2.1.length ad).bind fun v1=>(aM al.1.2.1.length ad).bind fun v2=>cond (Nat.beq v2 v1) ((Vc ((I J al.1.2.1 v1).2.2.2.2.2.2.1,ag,[(U,aa,())],())).bind fun v3=>afH al (al.1.2.1.set v1 ((I J al.1.2.1 v1).1,(I J al.1.2.1 v1).2.1,(I J al.1.2.1 v1).2.2.1,(I J al.1.2.1 v1).2.2.2.1,(I J al.1.2.1 v1).2.2.2.2.1,(I J al.1.2.1 v1).2.2.2.2.2.1,v3.1,(I J al.1.2.1 v1).2.2.2.2.2.2.2.1,(I J al.1.2.1 v1).2.2.2.2.2.2.2.2.1,()))) (none)
def Vd(k:vr):vr:=⟨Aw k,Mz k⟩
def sQ:Nat→vr:=dJ Vd ⟨fun _ _ _ _ _=>none,fun _ _ _ _ _=>none⟩
def sR(x:aP.D×Int×(aj)×Int×Unit):Option (aP.D×Unit):=E7 (sQ aN) x.1 x.2.1 x.2.2.1 x.2.2.2.1
def MA(a1:aP.D):Option (Int×Unit):=(sK (a1.1,())).bind fun v1=>cond (decide (v1.1>400)) (some (28,())) ((Aq (a1.1.2.1,a1.1,())).bind fun v2=>cond v2.1 (some (122,())) (some (0,())))
def nU(x:aP.D×Unit):Option (Int×Unit):=MA x.1
structure vt where
 bg:aP.D→aG.D→Option (Int×aP.D×Unit)
 h5:aP.D→a6.D→J.D→Option (Int×aP.D×Unit)
def E8(k:vt)(a1:aP.D):Option (Int×aP.D×Unit):=cond (a1.2.2.1.1==10) ((x2 (a1.2.2.1.2.2.1,())).bind fun v1=>cond (!v1.1) (some (22,a1,())) (cond (a1.2.2.1.1 != 10) ((dh (a1.2.2.1.2.2.2.1,0,2047,())).bind fun v2=>cond (!v2.1) (some (22,a1,())) (k.bg a1 a1.2.2.1)) (k.bg a1 a1.2.2.1))) (cond (a1.2.2.1.1 != 10) ((dh (a1.2.2.1.2.2.2.1,0,2047,())).bind fun v3=>cond (!v3.1) (some (22,a1,())) (k.bg a1 a1.2.2.1)) (k.bg a1 a1.2.2.1))
def MB(k:vt)(U:aP.D)(aa:aG.D):Option (Int×aP.D×Unit):=(vq (U,aa.2.1,())).bind fun v1=>cond (v1.2.1 != 0) (some (v1.2.1,U,())) ((nT (U,v1.1.1,())).bind fun v2=>cond (!v2.1) (some (13,U,())) ((fS (U.1,v1.1.1,())).bind fun v3=>cond (!List.isEmpty v3.1) (cond ((((I J v3.1 0).2.2.2.2.2.2.1).length:Int)==12) (some (28,U,())) (cond ((U.1.2.1.length:Int)==24) (some (28,U,())) (cond (U.1.1==100000) (some (28,U,())) (cond (!List.isEmpty v3.1) (cond (cY .and .i64 ((I J v3.1 0).2.2.1) 1024 != 0) (cond (!List.isEmpty v3.1) (cond (aa.1==1) (cond (!List.isEmpty v3.1) (k.h5 U v1.1 (U.1.1,2,cY .or .i64 aa.2.2.2.1 (cY .and .i64 ((I J v3.1 0).2.2.1) 1024),U.2.1.1,(I J v3.1 0).2.2.2.2.1,[],[],0,0,())) (none)) (cond (aa.1==10) (k.h5 U v1.1 (U.1.1,3,511,U.2.1.1,(I J v3.1 0).2.2.2.2.1,aa.2.2.1,[],0,0,())) (k.h5 U v1.1 (U.1.1,1,aa.2.2.2.1,U.2.1.1,(I J v3.1 0).2.2.2.2.1,[],[],0,0,())))) (none)) (cond (aa.1==1) (cond (!List.isEmpty v3.1) (k.h5 U v1.1 (U.1.1,2,cY .or .i64 aa.2.2.2.1 (cY .and .i64 ((I J v3.1 0).2.2.1) 1024),U.2.1.1,U.2.1.2.1,[],[],0,0,())) (none)) (cond (aa.1==10) (k.h5 U v1.1 (U.1.1,3,511,U.2.1.1,U.2.1.2.1,aa.2.2.1,[],0,0,())) (k.h5 U v1.1 (U.1.1,1,aa.2.2.2.1,U.2.1.1,U.2.1.2.1,[],[],0,0,()))))) (none))))) (none)))
def MC(k:vt)(U:aP.D)(aa:a6.D)(ad:J.D):Option (Int×aP.D×Unit):=(sR (((aH (U.1.1+1),U.1.2.1,()),U.2.1,U.2.2.1,()),aa.1,aa.2.1,ad.1,())).bind fun v1=>cond (room (v1.1.1.2.1.length+[ad].length)) ((nU (((v1.1.1.1,v1.1.1.2.1++[ad],()),v1.1.2.1,v1.1.2.2.1,()),())).bind fun v2=>some (v2.1,((v1.1.1.1,v1.1.1.2.1++[ad],()),v1.1.2.1,v1.1.2.2.1,()),())) (none)
def Ve(k:vt):vt:=⟨MB k,MC k⟩
def lz:Nat→vt:=dJ Ve ⟨fun _ _=>none,fun _ _ _=>none⟩
def Ax(x:aP.D×Unit):Option (Int×aP.D×Unit):=E8 (lz aN) x.1
def MD(a1:aL.D)(a2:J.D)(a3:J.D):Option (Bool×Unit):=(x8 (a1,())).bind fun v1=>cond v1.1 (cond (cY .and .i64 a2.2.2.1 512==0) (some (true,())) (cond (a1.1==0) (some (true,())) (cond (a1.1==a2.2.2.2.1) (some (true,())) (some (a1.1==a3.2.2.2.1,()))))) (some (false,()))
def sS(x:aL.D×J.D×J.D×Unit):Option (Bool×Unit):=MD x.1 x.2.1 x.2.2.1
def afI(a1:aB.D)(a2:aj):Option (Bool×Unit):=some (bD a1.1 a2,())
def E9(x:aB.D×(aj)×Unit):Option (Bool×Unit):=afI x.1 x.2.1
abbrev E_:Type:=(List aB.D)→(aj)→Int→Int→Option (Int×Unit)
def Vf(k2:E_)(a1:List aB.D)(a2:aj):Option (Int×Unit):=k2 a1 a2 (a1.length:Int) 0
def E'(k2:E_)(U:List aB.D)(aa:aj)(ad:Int)(ag:Int):Option (Int×Unit):=cond (decide (ag<ad)) ((aM U.length ag).bind fun v1=>(E9 (I aB U v1,aa,())).bind fun v2=>cond v2.1 (some (ag,())) (k2 U aa ad (aH (ag+1)))) (some ((-1),()))
def x9:Nat→E_ | 0,_,_,_,_=>none | m+1,U,aa,ad,ag=>E' (x9 m) U aa ad ag
def ME(x:(List aB.D)×(aj)×Unit):Option (Int×Unit):=Vf (x9 aN) x.1 x.2.1
abbrev x_:Type:=(List aB.D)×Unit
abbrev Fa:Type:=(aj)→Int→Int→(List aB.D)→Option (x_)
def Fb(bx:Fa)(a1:List aB.D)(a2:aj):Option (x_):=(ME (a1,a2,())).bind fun v1=>cond (v1.1 ==(-1)) (some (a1,())) (bx a2 v1.1 (aH (v1.1+1)) a1)
def Vg(aa:Int)(v5:List aB.D):Option (x_):=(eh v5.length 0 aa).bind fun v6=>some (part v5 (0+v6.1) (v6.2-v6.1),())
def Fc(bx:Fa)(U:aj)(aa:Int)(ad:Int)(ag:List aB.D):Option (x_):=cond (decide (ad<(ag.length:Int))) ((aM ag.length ad).bind fun v1=>(E9 (I aB ag (0+v1),U,())).bind fun v2=>cond (!v2.1) ((aM ag.length aa).bind fun v3=>bx U (aH (aa+1)) (aH (ad+1)) (ag.set (0+v3) (I aB ag (0+v1)))) (bx U aa (aH (ad+1)) ag)) ((eh ag.length aa (ag.length:Int)).bind fun v4=>Vg aa (ag.take (0+v4.1)++List.replicate (v4.2-v4.1) (([],0,()):aB.D)++ag.drop ((0+v4.1) +(v4.2-v4.1))))
def x':Nat→Fa | 0,_,_,_,_=>none | m+1,U,aa,ad,ag=>Fc (x' m) U aa ad ag
def Fe(x:(List aB.D)×(aj)×Unit):Option (x_):=Fb (x' aN) x.1 x.2.1
def Vh(x:(List J.D)×Int×Unit):Option ((List J.D)×Unit):=cond (room x.1.length) (some (x.1.filter (fun y=> !(y.1==x.2.1)),())) none
def MF(a4:Bool)(v1:Int×af.D×Unit)(v3:Int×Unit)(a1:aP.D)(bn:List J.D):Option (aP.D×Unit):=cond a4 ((x4 ((v1.2.1.1,bn,()),v3.1,())).bind fun cF=>cond (cF.1==0) ((Vh (bn,v3.1,())).bind fun v9=>some (((v1.2.1.1,v9.1,()),a1.2.1,a1.2.2.1,()),())) (some (((v1.2.1.1,bn,()),a1.2.1,a1.2.2.1,()),()))) (some (((v1.2.1.1,bn,()),a1.2.1,a1.2.2.1,()),()))
def MG(a1:aP.D)(a2:Int)(a3:aj)(a4:Bool):Option (aP.D×Unit):=(x3 (a1.1,a2,())).bind fun v1=>(aM v1.2.1.2.1.length v1.1).bind fun v2=>(EW (I J v1.2.1.2.1 v2,a3,())).bind fun v3=>(aM v1.2.1.2.1.length v1.1).bind fun v4=>(aM v1.2.1.2.1.length v1.1).bind fun v5=>cond (Nat.beq v5 v4) ((Fe ((I J v1.2.1.2.1 v4).2.2.2.2.2.2.1,a3,())).bind fun v6=>MF a4 v1 v3 a1 (v1.2.1.2.1.set v4 ((I J v1.2.1.2.1 v4).1,(I J v1.2.1.2.1 v4).2.1,(I J v1.2.1.2.1 v4).2.2.1,(I J v1.2.1.2.1 v4).2.2.2.1,(I J v1.2.1.2.1 v4).2.2.2.2.1,(I J v1.2.1.2.1 v4).2.2.2.2.2.1,v6.1,(I J v1.2.1.2.1 v4).2.2.2.2.2.2.2.1,(I J v1.2.1.2.1 v4).2.2.2.2.2.2.2.2.1,()))) (none)
def oU(x:aP.D×Int×(aj)×Bool×Unit):Option (aP.D×Unit):=MG x.1 x.2.1 x.2.2.1 x.2.2.2.1
structure q7 where
 bx:aP.D→a6.D→J.D→Option (Int×aP.D×Unit)
 dq:aP.D→a6.D→J.D→Option (Int×aP.D×Unit)
 eY:aP.D→a6.D→J.D→Option (Int×aP.D×Unit)
 cL:aP.D→a6.D→J.D→Option (Int×aP.D×Unit)
def Ff(k:q7)(a1:aP.D):Option (Int×aP.D×Unit):=(ly (a1,a1.2.2.1.2.1,false,())).bind fun v1=>cond (v1.1.2.2.2.1 != 0) (some (v1.1.2.2.2.1,a1,())) (dup ((fS (a1.1,v1.1.2.2.1,())).bind fun v2=>cond (!List.isEmpty v2.1) (k.bx a1 v1.1 (I J v2.1 0)) (none)))
def MH(k:q7)(U:aP.D)(aa:a6.D)(ad:J.D):Option (Int×aP.D×Unit):=cond (U.2.2.1.1==2) (cond (bD aa.2.1 []) (some (16,U,())) (k.dq U aa ad)) (k.dq U aa ad)
def MI(k:q7)(U:aP.D)(aa:a6.D)(ad:J.D):Option (Int×aP.D×Unit):=cond (U.2.2.1.1==2) (cond (ad.2.1 != 2) (some (20,U,())) (k.eY U aa ad)) (k.eY U aa ad)
def MJ(k:q7)(U:aP.D)(aa:a6.D)(ad:J.D):Option (Int×aP.D×Unit):=cond (U.2.2.1.1==8) (cond (ad.2.1==2) (some (21,U,())) (k.cL U aa ad)) (k.cL U aa ad)
def MK(k:q7)(U:aP.D)(aa:a6.D)(ad:J.D):Option (Int×aP.D×Unit):=(nT (U,aa.1,())).bind fun v1=>cond (!v1.1) (some (13,U,())) ((fS (U.1,aa.1,())).bind fun v2=>cond (!List.isEmpty v2.1) ((sS (U.2.1,I J v2.1 0,ad,())).bind fun v3=>cond (!v3.1) (some (1,U,())) (cond (U.2.2.1.1==2) (cond (decide ((ad.2.2.2.2.2.2.1.length:Int)>0)) (some (39,U,())) ((oU (U,aa.1,aa.2.1,true,())).bind fun v4=>some (0,v4.1,()))) ((oU (U,aa.1,aa.2.1,true,())).bind fun v5=>some (0,v5.1,())))) (none))
def Vi(k:q7):q7:=⟨MH k,MI k,MJ k,MK k⟩
def oV:Nat→q7:=dJ Vi ⟨fun _ _ _=>none,fun _ _ _=>none,fun _ _ _=>none,fun _ _ _=>none⟩
def Fg(x:aP.D×Unit):Option (Int×aP.D×Unit):=Ff (oV aN) x.1
def ML(a1:af.D)(a2:Int):Option (Bool×Unit):=(fS (a1,a2,())).bind fun v1=>cond (!List.isEmpty v1.1) (cond (!List.isEmpty v1.1) (some ((I J v1.1 0).2.1==2,())) (none)) (some (false,()))
def Ay(x:af.D×Int×Unit):Option (Bool×Unit):=ML x.1 x.2.1
def MM(a1:aP.D):Option (Int×aP.D×Unit):=(ly (a1,a1.2.2.1.2.1,false,())).bind fun v1=>cond (v1.1.2.2.2.1 != 0) (some (v1.1.2.2.2.1,a1,())) ((Ay (a1.1,v1.1.2.2.1,())).bind fun v2=>cond v2.1 (some (1,a1,())) ((vq (a1,a1.2.2.1.2.2.1,())).bind fun v3=>cond (v3.2.1 != 0) (some (v3.2.1,a1,())) ((nT (a1,v3.1.1,())).bind fun v4=>cond (!v4.1) (some (13,a1,())) ((fS (a1.1,v3.1.1,())).bind fun v5=>cond (!List.isEmpty v5.1) (cond ((((I J v5.1 0).2.2.2.2.2.2.1).length:Int)==12) (some (28,a1,())) ((sR (a1,v3.1.1,v3.1.2.1,v1.1.2.2.1,())).bind fun v6=>(nU (v6.1,())).bind fun bn=>some (bn.1,v6.1,()))) (none)))))
def Fh(x:aP.D×Unit):Option (Int×aP.D×Unit):=MM x.1
def MN(a1:aP.D)(a2:J.D)(a3:a6.D):Option (Int×Unit):=dup ((fS (a1.1,a3.2.2.1,())).bind fun v1=>cond (!List.isEmpty v1.1) ((fS (a1.1,a3.1,())).bind fun v2=>cond (!List.isEmpty v2.1) ((sS (a1.2.1,I J v2.1 0,I J v1.1 0,())).bind fun v3=>cond (!v3.1) (some (1,())) (cond (a2.2.1==2) (cond ((I J v1.1 0).2.1 != 2) (some (20,())) (cond (a2.2.1==2) (cond (decide ((((I J v1.1 0).2.2.2.2.2.2.1).length:Int)>0)) (some (39,())) (cond (a2.2.1 != 2) (cond ((I J v1.1 0).2.1==2) (some (21,())) (some (0,()))) (some (0,())))) (cond (a2.2.1 != 2) (cond ((I J v1.1 0).2.1==2) (some (21,())) (some (0,()))) (some (0,()))))) (cond (a2.2.1==2) (cond (decide ((((I J v1.1 0).2.2.2.2.2.2.1).length:Int)>0)) (some (39,())) (cond (a2.2.1 != 2) (cond ((I J v1.1 0).2.1==2) (some (21,())) (some (0,()))) (some (0,())))) (cond (a2.2.1 != 2) (cond ((I J v1.1 0).2.1==2) (some (21,())) (some (0,()))) (some (0,())))))) (none)) (none))
def Fi(x:aP.D×J.D×a6.D×Unit):Option (Int×Unit):=MN x.1 x.2.1 x.2.2.1
structure q8 where
 dq:aP.D→a6.D→a6.D→Option (Int×aP.D×Unit)
 dC:aP.D→a6.D→a6.D→J.D→Option (Int×aP.D×Unit)
 mY:aP.D→a6.D→a6.D→J.D→Option (Int×aP.D×Unit)
 oW:aP.D→a6.D→a6.D→Option (Int×aP.D×Unit)
def Fj(k:q8)(a1:aP.D):Option (Int×aP.D×Unit):=(ly (a1,a1.2.2.1.2.1,false,())).bind fun v1=>cond (v1.1.2.2.2.1 != 0) (some (v1.1.2.2.2.1,a1,())) ((ly (a1,a1.2.2.1.2.2.1,false,())).bind fun v2=>cond (v2.1.2.2.2.1 != 0) (cond (v2.1.2.2.2.1 != 2) (some (v2.1.2.2.2.1,a1,())) (cond (bD v2.1.2.1 []) (some (v2.1.2.2.2.1,a1,())) (k.dq a1 v1.1 v2.1))) (k.dq a1 v1.1 v2.1))
def MO(k:q8)(U:aP.D)(aa:a6.D)(ad:a6.D):Option (Int×aP.D×Unit):=cond (bD aa.2.1 []) (some (16,U,())) (cond (bD ad.2.1 []) (some (16,U,())) (dup ((fS (U.1,aa.2.2.1,())).bind fun v1=>cond (!List.isEmpty v1.1) (k.dC U aa ad (I J v1.1 0)) (none))))
def MP(k:q8)(U:aP.D)(aa:a6.D)(ad:a6.D)(ag:J.D):Option (Int×aP.D×Unit):=(nT (U,aa.1,())).bind fun v1=>cond (!v1.1) (some (13,U,())) ((nT (U,ad.1,())).bind fun v2=>cond (!v2.1) (some (13,U,())) ((fS (U.1,aa.1,())).bind fun v3=>cond (!List.isEmpty v3.1) ((sS (U.2.1,I J v3.1 0,ag,())).bind fun v4=>cond (!v4.1) (some (1,U,())) (cond (ag.2.1==2) (cond (ad.1==aa.2.2.1) (some (22,U,())) ((u6 (U.1,aa.2.2.1,())).bind fun v5=>(sJ (v5.1,ad.1,())).bind fun v6=>cond v6.1 (some (22,U,())) (k.mY U aa ad ag))) (k.mY U aa ad ag))) (none)))
def MQ(k:q8)(U:aP.D)(aa:a6.D)(ad:a6.D)(ag:J.D):Option (Int×aP.D×Unit):=cond (ad.2.2.1==aa.2.2.1) (some (0,U,())) (cond (ad.2.2.1 != 0) ((Fi (U,ag,ad,())).bind fun v1=>cond (v1.1 != 0) (some (v1.1,U,())) ((oU (U,ad.1,ad.2.1,true,())).bind fun v2=>k.oW v2.1 aa ad)) (cond (aa.1 != ad.1) ((fS (U.1,ad.1,())).bind fun v3=>cond (!List.isEmpty v3.1) (cond ((((I J v3.1 0).2.2.2.2.2.2.1).length:Int)==12) (some (28,U,())) (k.oW U aa ad)) (none)) (k.oW U aa ad)))
def MR(k:q8)(U:aP.D)(aa:a6.D)(ad:a6.D):Option (Int×aP.D×Unit):=(oU (U,aa.1,aa.2.1,false,())).bind fun v1=>(sR (v1.1,ad.1,ad.2.1,aa.2.2.1,())).bind fun v2=>(nU (v2.1,())).bind fun v3=>some (v3.1,v2.1,())
def Vj(k:q8):q8:=⟨MO k,MP k,MQ k,MR k⟩
def ju:Nat→q8:=dJ Vj ⟨fun _ _ _=>none,fun _ _ _ _=>none,fun _ _ _ _=>none,fun _ _ _=>none⟩
def Fk(x:aP.D×Unit):Option (Int×aP.D×Unit):=Fj (ju aN) x.1
abbrev Vk:Type:=Int×Int×aP.D×Unit
def MS(a1:aP.D)(a2:Bool):Option (Vk):=(ly (a1,a1.2.2.1.2.1,a2,())).bind fun v1=>cond (v1.1.2.2.2.1 != 0) (some ((-1),v1.1.2.2.2.1,a1,())) ((x3 (a1.1,v1.1.2.2.1,())).bind fun v2=>some (v2.1,0,(v2.2.1,a1.2.1,a1.2.2.1,()),()))
def mZ(x:aP.D×Bool×Unit):Option (Vk):=MS x.1 x.2.1
abbrev Vl:Type:=Int×Int×aP.D×Unit
def Az(a1:aP.D)(a2:Int):Option (Vl):=(mZ (a1,true,())).bind fun v1=>cond (v1.2.1 != 0) (some ((-1),v1.2.1,v1.2.2.1,())) ((aM v1.2.2.1.1.2.1.length v1.1).bind fun v2=>cond ((I J v1.2.2.1.1.2.1 v2).2.1==2) (some ((-1),21,v1.2.2.1,())) ((aM v1.2.2.1.1.2.1.length v1.1).bind fun v3=>(p1 (v1.2.2.1.2.1,I J v1.2.2.1.1.2.1 v3,a2,())).bind fun v4=>cond (!v4.1) (some ((-1),13,v1.2.2.1,())) (some (v1.1,0,v1.2.2.1,()))))
def AA(x:aP.D×Int×Unit):Option (Vl):=Az x.1 x.2.1
abbrev Vm:Type:=aF.D×aP.D×Unit
def MT(a1:aP.D):Option (Vm):=(AA (a1,4,())).bind fun v1=>cond (v1.2.1 != 0) ((eA (v1.2.1,())).bind fun v2=>some (v2.1,v1.2.2.1,())) (cond (decide (v1.2.2.1.2.2.1.2.2.2.1<0)) ((eA (22,())).bind fun v3=>some (v3.1,v1.2.2.1,())) (cond (decide (v1.2.2.1.2.2.1.2.2.2.2.1<0)) ((eA (22,())).bind fun v4=>some (v4.1,v1.2.2.1,())) ((aM v1.2.2.1.1.2.1.length v1.1).bind fun v5=>(aM v1.2.2.1.1.2.1.length v1.1).bind fun v6=>(eh (((I J v1.2.2.1.1.2.1 v5).2.2.2.2.2.1).length) (j0 v1.2.2.1.2.2.1.2.2.2.1 (((I J v1.2.2.1.1.2.1 v6).2.2.2.2.2.1).length:Int)) (((I J v1.2.2.1.1.2.1 v5).2.2.2.2.2.1).length:Int)).bind fun bn=>(eh ((part ((I J v1.2.2.1.1.2.1 v5).2.2.2.2.2.1) bn.1 (bn.2-bn.1)).length) 0 (j0 v1.2.2.1.2.2.1.2.2.2.2.1 (((part ((I J v1.2.2.1.1.2.1 v5).2.2.2.2.2.1) bn.1 (bn.2-bn.1)).length:Nat):Int))).bind fun cF=>some ((0,part (part ((I J v1.2.2.1.1.2.1 v5).2.2.2.2.2.1) bn.1 (bn.2-bn.1)) cF.1 (cF.2-cF.1),()),v1.2.2.1,()))))
def Fl(x:aP.D×Unit):Option (Vm):=MT x.1
def strings_Repeat(x:(aj)×Int×Unit):Option ((aj)×Unit):=repF x.1 x.2.1
def MU(a1:aj)(a2:Int):Option ((aj)×Unit):=cond (decide ((a1.length:Int)≥a2)) ((eh a1.length 0 a2).bind fun v1=>some (part a1 v1.1 (v1.2-v1.1),())) ((strings_Repeat (([0]:aj),aH (a2-(a1.length:Int)),())).bind fun v2=>cond (room (a1.length+v2.1.length)) (some (a1++v2.1,())) (none))
def Fm(x:(aj)×Int×Unit):Option ((aj)×Unit):=MU x.1 x.2.1
structure sU where
 dq:Int→Int→aP.D→Option (Int×aP.D×Unit)
 cL:Int→Int→aP.D→Option (Int×aP.D×Unit)
 gZ:Int→(aj)→aP.D→Option (Int×aP.D×Unit)
def Fo(k:sU)(a1:aP.D):Option (Int×aP.D×Unit):=(AA (a1,2,())).bind fun v1=>cond (v1.2.1 != 0) (some (v1.2.1,v1.2.2.1,())) (cond (v1.2.2.1.2.2.1.1==6) ((aM v1.2.2.1.1.2.1.length v1.1).bind fun v2=>k.dq v1.1 (((I J v1.2.2.1.1.2.1 v2).2.2.2.2.2.1).length:Int) v1.2.2.1) (k.dq v1.1 v1.2.2.1.2.2.1.2.2.2.1 v1.2.2.1))
def MV(k:sU)(U:Int)(aa:Int)(ad:aP.D):Option (Int×aP.D×Unit):=cond (decide (aa<0)) (some (22,ad,())) (cond (ad.2.2.1.1 != 7) (cond (bD ad.2.2.1.2.2.2.2.2.1 []) (some (0,ad,())) (k.cL U aa ad)) (k.cL U aa ad))
def MW(k:sU)(U:Int)(aa:Int)(ad:aP.D):Option (Int×aP.D×Unit):=cond (decide (aH (aa +(ad.2.2.1.2.2.2.2.2.1.length:Int))>64)) (some (27,ad,())) ((aM ad.1.2.1.length U).bind fun v1=>(Fm ((I J ad.1.2.1 v1).2.2.2.2.2.1,aa,())).bind fun v2=>cond (ad.2.2.1.1 != 7) (cond (room (v2.1.length+ad.2.2.1.2.2.2.2.2.1.length)) ((aM ad.1.2.1.length U).bind fun v3=>cond (decide ((((I J ad.1.2.1 v3).2.2.2.2.2.1).length:Int) >((v2.1++ad.2.2.1.2.2.2.2.2.1).length:Int))) ((aM ad.1.2.1.length U).bind fun v4=>(eh (((I J ad.1.2.1 v4).2.2.2.2.2.1).length) ((v2.1++ad.2.2.1.2.2.2.2.2.1).length:Int) (((I J ad.1.2.1 v4).2.2.2.2.2.1).length:Int)).bind fun v5=>cond (room ((v2.1++ad.2.2.1.2.2.2.2.2.1).length +(part ((I J ad.1.2.1 v4).2.2.2.2.2.1) v5.1 (v5.2-v5.1)).length)) (k.gZ U ((v2.1++ad.2.2.1.2.2.2.2.2.1)++(part ((I J ad.1.2.1 v4).2.2.2.2.2.1) v5.1 (v5.2-v5.1))) ad) (none)) (k.gZ U (v2.1++ad.2.2.1.2.2.2.2.2.1) ad)) (none)) (k.gZ U v2.1 ad))
def afJ(ad:aP.D)(v2:List J.D):Option (Int×aP.D×Unit):=(nU (((ad.1.1,v2,()),ad.2.1,ad.2.2.1,()),())).bind fun v3=>some (v3.1,((ad.1.1,v2,()),ad.2.1,ad.2.2.1,()),())
def MX(k:sU)(U:Int)(aa:aj)(ad:aP.D):Option (Int×aP.D×Unit):=(aM ad.1.2.1.length U).bind fun v1=>afJ ad (ad.1.2.1.set v1 ((I J ad.1.2.1 v1).1,(I J ad.1.2.1 v1).2.1,(I J ad.1.2.1 v1).2.2.1,(I J ad.1.2.1 v1).2.2.2.1,(I J ad.1.2.1 v1).2.2.2.2.1,aa,(I J ad.1.2.1 v1).2.2.2.2.2.2.1,(I J ad.1.2.1 v1).2.2.2.2.2.2.2.1,(I J ad.1.2.1 v1).2.2.2.2.2.2.2.2.1,()))
def Vn(k:sU):sU:=⟨MV k,MW k,MX k⟩
def gI:Nat→sU:=dJ Vn ⟨fun _ _ _=>none,fun _ _ _=>none,fun _ _ _=>none⟩
def Fp(x:aP.D×Unit):Option (Int×aP.D×Unit):=Fo (gI aN) x.1
abbrev Vo:Type:=aF.D×aP.D×Unit
def MY(a1:aP.D):Option (Vo):=(mZ (a1,false,())).bind fun v1=>cond (v1.2.1 != 0) ((eA (v1.2.1,())).bind fun v2=>some (v2.1,v1.2.2.1,())) ((aM v1.2.2.1.1.2.1.length v1.1).bind fun v3=>cond ((I J v1.2.2.1.1.2.1 v3).2.1 != 3) ((eA (22,())).bind fun v4=>some (v4.1,v1.2.2.1,())) ((aM v1.2.2.1.1.2.1.length v1.1).bind fun v5=>some ((0,(I J v1.2.2.1.1.2.1 v5).2.2.2.2.2.1,()),v1.2.2.1,())))
def Fq(x:aP.D×Unit):Option (Vo):=MY x.1
def strings_Join(x:(List (aj))×(aj)×Unit):Option ((aj)×Unit):=joinF x.1 x.2.1
abbrev Fs:Type:=(List Int)→Int→Int→(List (aj))→Option ((aj)×Unit)
def Vp(k3:Fs)(a1:List Int):Option ((aj)×Unit):=k3 a1 (a1.length:Int) 0 ([]:List (aj))
def Ft(k3:Fs)(U:List Int)(aa:Int)(ad:Int)(ag:List (aj)):Option ((aj)×Unit):=cond (decide (ad<aa)) ((aM U.length ad).bind fun v1=>(vj (I (ae.int .i64) U v1,())).bind fun v2=>cond (room (ag.length+[v2.1].length)) (k3 U aa (aH (ad+1)) (ag++[v2.1])) (none)) ((strings_Join (ag,([32]:aj),())).bind fun v3=>some (v3.1,()))
def vu:Nat→Fs | 0,_,_,_,_=>none | m+1,U,aa,ad,ag=>Ft (vu m) U aa ad ag
def q9(x:(List Int)×Unit):Option ((aj)×Unit):=Vp (vu aN) x.1
abbrev AB:Type:=aF.D×aP.D×Unit
abbrev Fu:Type:=(List aB.D)→Int→Int→aF.D→(List (aj))→aP.D→Option (AB)
def Fv(m0:Fu)(a1:aP.D):Option (AB):=(mZ (a1,true,())).bind fun v1=>cond (v1.2.1 != 0) ((eA (v1.2.1,())).bind fun v2=>some (v2.1,v1.2.2.1,())) ((aM v1.2.2.1.1.2.1.length v1.1).bind fun v3=>cond ((I J v1.2.2.1.1.2.1 v3).2.1 != 2) ((eA (20,())).bind fun v4=>some (v4.1,v1.2.2.1,())) ((aM v1.2.2.1.1.2.1.length v1.1).bind fun v5=>(p1 (v1.2.2.1.2.1,I J v1.2.2.1.1.2.1 v5,4,())).bind fun v6=>cond (!v6.1) ((eA (13,())).bind fun bn=>some (bn.1,v1.2.2.1,())) (cond (v1.2.2.1.2.2.1.1==20) ((aM v1.2.2.1.1.2.1.length v1.1).bind fun cF=>(Ap (v1.2.2.1.1,(I J v1.2.2.1.1.2.1 cF).1,())).bind fun v9=>(aM v1.2.2.1.1.2.1.length v1.1).bind fun v10=>(aM v1.2.2.1.1.2.1.length v1.1).bind fun v11=>(q9 ([(I J v1.2.2.1.1.2.1 v10).2.2.2.2.2.2.2.1,(I J v1.2.2.1.1.2.1 v11).2.2.2.2.2.2.2.2.1,v9.1,v9.2.1],())).bind fun v12=>some ((0,v12.1,()),v1.2.2.1,())) ((aM v1.2.2.1.1.2.1.length v1.1).bind fun gz=>m0 ((I J v1.2.2.1.1.2.1 gz).2.2.2.2.2.2.1) (((I J v1.2.2.1.1.2.1 gz).2.2.2.2.2.2.1).length:Int) 0 (0,[],()) ([]:List (aj)) v1.2.2.1))))
def Fw(m0:Fu)(U:List aB.D)(aa:Int)(ad:Int)(ag:aF.D)(al:List (aj))(aE:aP.D):Option (AB):=cond (decide (ad<aa)) ((aM U.length ad).bind fun v1=>cond (room (al.length+[(I aB U v1).1].length)) (m0 U aa (aH (ad+1)) ag (al++[(I aB U v1).1]) aE) (none)) ((strings_Join (al,([47]:aj),())).bind fun v2=>some ((0,v2.1,()),aE,()))
def q_:Nat→Fu | 0,_,_,_,_,_,_=>none | m+1,U,aa,ad,ag,al,aE=>Fw (q_ m) U aa ad ag al aE
def AD(x:aP.D×Unit):Option (AB):=Fv (q_ aN) x.1
abbrev Fx:Type:=af.D→Int→(List aB.D)→Int→Int→Option (Int×Unit)
def Fy(bx:Fx)(a1:af.D)(a2:J.D):Option (Int×Unit):=cond (a2.2.1 != 2) ((x4 (a1,a2.1,())).bind fun v1=>some (v1.1,())) (bx a1 2 a2.2.2.2.2.2.2.1 (a2.2.2.2.2.2.2.1.length:Int) 0)
def Fz(bx:Fx)(U:af.D)(aa:Int)(ad:List aB.D)(ag:Int)(al:Int):Option (Int×Unit):=cond (decide (al<ag)) ((aM ad.length al).bind fun v1=>(Ay (U,(I aB ad v1).2.1,())).bind fun v2=>cond v2.1 (bx U (aH (aa+1)) ad ag (aH (al+1))) (bx U aa ad ag (aH (al+1)))) (some (aa,()))
def sV:Nat→Fx | 0,_,_,_,_,_=>none | m+1,U,aa,ad,ag,al=>Fz (sV m) U aa ad ag al
def MZ(x:af.D×J.D×Unit):Option (Int×Unit):=Fy (sV aN) x.1 x.2.1
abbrev Vq:Type:=aF.D×aP.D×Unit
def M0(a1:aP.D):Option (Vq):=(dh (a1.2.2.1.2.2.2.1,0,1,())).bind fun v1=>cond (!v1.1) ((eA (22,())).bind fun v2=>some (v2.1,a1,())) ((mZ (a1,a1.2.2.1.2.2.2.1==0,())).bind fun v3=>cond (v3.2.1 != 0) ((eA (v3.2.1,())).bind fun v4=>some (v4.1,v3.2.2.1,())) ((aM v3.2.2.1.1.2.1.length v3.1).bind fun v5=>(aM v3.2.2.1.1.2.1.length v3.1).bind fun v6=>(aM v3.2.2.1.1.2.1.length v3.1).bind fun bn=>(aM v3.2.2.1.1.2.1.length v3.1).bind fun cF=>(aM v3.2.2.1.1.2.1.length v3.1).bind fun v9=>(aM v3.2.2.1.1.2.1.length v3.1).bind fun v10=>(MZ (v3.2.2.1.1,I J v3.2.2.1.1.2.1 v9,())).bind fun v11=>(q9 ([(I J v3.2.2.1.1.2.1 v5).2.1,(I J v3.2.2.1.1.2.1 v6).2.2.1,(I J v3.2.2.1.1.2.1 bn).2.2.2.1,(I J v3.2.2.1.1.2.1 cF).2.2.2.2.1,v11.1,(((I J v3.2.2.1.1.2.1 v10).2.2.2.2.2.1).length:Int)],())).bind fun v12=>some ((0,v12.1,()),v3.2.2.1,())))
def AE(x:aP.D×Unit):Option (Vq):=M0 x.1
abbrev FA:Type:=Int→aP.D→Option (Int×aP.D×Unit)
def FB(df:FA)(a1:aP.D):Option (Int×aP.D×Unit):=(dh (a1.2.2.1.2.2.2.1,0,2047,())).bind fun v1=>cond (!v1.1) (some (22,a1,())) ((mZ (a1,true,())).bind fun v2=>cond (v2.2.1 != 0) (some (v2.2.1,v2.2.2.1,())) (cond (v2.2.2.1.2.1.1 != 0) ((aM v2.2.2.1.1.2.1.length v2.1).bind fun v3=>cond (v2.2.2.1.2.1.1 !=(I J v2.2.2.1.1.2.1 v3).2.2.2.1) (some (1,v2.2.2.1,())) (df v2.1 v2.2.2.1)) (df v2.1 v2.2.2.1)))
def Vr(aa:aP.D)(bn:List J.D):Option (Int×aP.D×Unit):=some (0,((aa.1.1,bn,()),aa.2.1,aa.2.2.1,()),())
def M1(aa:aP.D)(U:Int)(v2:List J.D):Option (Int×aP.D×Unit):=cond (aa.2.1.1 != 0) ((aM v2.length U).bind fun v3=>(vm (aa.2.1,(I J v2 v3).2.2.2.2.1,())).bind fun v4=>cond (!v4.1) ((aM v2.length U).bind fun v5=>(aM v2.length U).bind fun v6=>Vr aa (v2.set v6 ((I J v2 v6).1,(I J v2 v6).2.1,cY .andNot .i64 ((I J v2 v5).2.2.1) 1024,(I J v2 v6).2.2.2.1,(I J v2 v6).2.2.2.2.1,(I J v2 v6).2.2.2.2.2.1,(I J v2 v6).2.2.2.2.2.2.1,(I J v2 v6).2.2.2.2.2.2.2.1,(I J v2 v6).2.2.2.2.2.2.2.2.1,()))) (some (0,((aa.1.1,v2,()),aa.2.1,aa.2.2.1,()),()))) (some (0,((aa.1.1,v2,()),aa.2.1,aa.2.2.1,()),()))
def M3(df:FA)(U:Int)(aa:aP.D):Option (Int×aP.D×Unit):=(aM aa.1.2.1.length U).bind fun v1=>M1 aa U (aa.1.2.1.set v1 ((I J aa.1.2.1 v1).1,(I J aa.1.2.1 v1).2.1,aa.2.2.1.2.2.2.1,(I J aa.1.2.1 v1).2.2.2.1,(I J aa.1.2.1 v1).2.2.2.2.1,(I J aa.1.2.1 v1).2.2.2.2.2.1,(I J aa.1.2.1 v1).2.2.2.2.2.2.1,(I J aa.1.2.1 v1).2.2.2.2.2.2.2.1,(I J aa.1.2.1 v1).2.2.2.2.2.2.2.2.1,()))
def q':Nat→FA | 0,_,_=>none | m+1,U,aa=>M3 (q' m) U aa
def FC(x:aP.D×Unit):Option (Int×aP.D×Unit):=FB (q' aN) x.1
abbrev FD:Type:=Int→aP.D→Option (Int×aP.D×Unit)
def FE(df:FD)(a1:aP.D):Option (Int×aP.D×Unit):=(dh (a1.2.2.1.2.2.2.1,0,1000,())).bind fun v1=>cond (!v1.1) (some (22,a1,())) ((dh (a1.2.2.1.2.2.2.2.1,0,1000,())).bind fun v2=>cond (!v2.1) (some (22,a1,())) ((mZ (a1,true,())).bind fun v3=>cond (v3.2.1 != 0) (some (v3.2.1,v3.2.2.1,())) (cond (v3.2.2.1.2.1.1 != 0) ((aM v3.2.2.1.1.2.1.length v3.1).bind fun v4=>cond (v3.2.2.1.2.1.1 !=(I J v3.2.2.1.1.2.1 v4).2.2.2.1) (some (1,v3.2.2.1,())) ((aM v3.2.2.1.1.2.1.length v3.1).bind fun v5=>cond (v3.2.2.1.2.2.1.2.2.2.1 !=(I J v3.2.2.1.1.2.1 v5).2.2.2.1) (some (1,v3.2.2.1,())) ((vm (v3.2.2.1.2.1,v3.2.2.1.2.2.1.2.2.2.2.1,())).bind fun v6=>cond (!v6.1) (some (1,v3.2.2.1,())) (df v3.1 v3.2.2.1)))) (df v3.1 v3.2.2.1))))
def Vs(aa:aP.D)(v4:List J.D):Option (Int×aP.D×Unit):=some (0,((aa.1.1,v4,()),aa.2.1,aa.2.2.1,()),())
def M4(U:Int)(aa:aP.D)(v2:List J.D):Option (Int×aP.D×Unit):=(aM v2.length U).bind fun v3=>Vs aa (v2.set v3 ((I J v2 v3).1,(I J v2 v3).2.1,(I J v2 v3).2.2.1,(I J v2 v3).2.2.2.1,aa.2.2.1.2.2.2.2.1,(I J v2 v3).2.2.2.2.2.1,(I J v2 v3).2.2.2.2.2.2.1,(I J v2 v3).2.2.2.2.2.2.2.1,(I J v2 v3).2.2.2.2.2.2.2.2.1,()))
def M5(df:FD)(U:Int)(aa:aP.D):Option (Int×aP.D×Unit):=(aM aa.1.2.1.length U).bind fun v1=>M4 U aa (aa.1.2.1.set v1 ((I J aa.1.2.1 v1).1,(I J aa.1.2.1 v1).2.1,(I J aa.1.2.1 v1).2.2.1,aa.2.2.1.2.2.2.1,(I J aa.1.2.1 v1).2.2.2.2.1,(I J aa.1.2.1 v1).2.2.2.2.2.1,(I J aa.1.2.1 v1).2.2.2.2.2.2.1,(I J aa.1.2.1 v1).2.2.2.2.2.2.2.1,(I J aa.1.2.1 v1).2.2.2.2.2.2.2.2.1,()))
def ra:Nat→FD | 0,_,_=>none | m+1,U,aa=>M5 (ra m) U aa
def FF(x:aP.D×Unit):Option (Int×aP.D×Unit):=FE (ra aN) x.1
def M6(a1:aP.D):Option (Int×aP.D×Unit):=(dh (a1.2.2.1.2.2.2.1,0,7,())).bind fun v1=>cond (!v1.1) (some (22,a1,())) ((mZ (a1,true,())).bind fun v2=>cond (v2.2.1 != 0) (some (v2.2.1,v2.2.2.1,())) ((aM v2.2.2.1.1.2.1.length v2.1).bind fun v3=>(p1 (v2.2.2.1.2.1,I J v2.2.2.1.1.2.1 v3,v2.2.2.1.2.2.1.2.2.2.1,())).bind fun v4=>cond (!v4.1) (some (13,v2.2.2.1,())) (some (0,v2.2.2.1,()))))
def FG(x:aP.D×Unit):Option (Int×aP.D×Unit):=M6 x.1
def M7(v3:Int×Int×aP.D×Unit)(cF:List J.D):Option (Int×aP.D×Unit):=(nU (((v3.2.2.1.1.1,cF,()),v3.2.2.1.2.1,v3.2.2.1.2.2.1,()),())).bind fun v9=>some (v9.1,((v3.2.2.1.1.1,cF,()),v3.2.2.1.2.1,v3.2.2.1.2.2.1,()),())
def FH(v3:Int×Int×aP.D×Unit)(v6:List J.D):Option (Int×aP.D×Unit):=(aM v6.length v3.1).bind fun bn=>M7 v3 (v6.set bn ((I J v6 bn).1,(I J v6 bn).2.1,(I J v6 bn).2.2.1,(I J v6 bn).2.2.2.1,(I J v6 bn).2.2.2.2.1,(I J v6 bn).2.2.2.2.2.1,(I J v6 bn).2.2.2.2.2.2.1,(I J v6 bn).2.2.2.2.2.2.2.1,v3.2.2.1.2.2.1.2.2.2.2.1,()))
def M8(a1:aP.D):Option (Int×aP.D×Unit):=(dh (a1.2.2.1.2.2.2.1,0,400,())).bind fun v1=>cond (!v1.1) (some (22,a1,())) ((dh (a1.2.2.1.2.2.2.2.1,0,24,())).bind fun v2=>cond (!v2.1) (some (22,a1,())) (cond (a1.2.1.1 != 0) (some (1,a1,())) ((mZ (a1,true,())).bind fun v3=>cond (v3.2.1 != 0) (some (v3.2.1,v3.2.2.1,())) ((aM v3.2.2.1.1.2.1.length v3.1).bind fun v4=>cond ((I J v3.2.2.1.1.2.1 v4).2.1 != 2) (some (20,v3.2.2.1,())) ((aM v3.2.2.1.1.2.1.length v3.1).bind fun v5=>FH v3 (v3.2.2.1.1.2.1.set v5 ((I J v3.2.2.1.1.2.1 v5).1,(I J v3.2.2.1.1.2.1 v5).2.1,(I J v3.2.2.1.1.2.1 v5).2.2.1,(I J v3.2.2.1.1.2.1 v5).2.2.2.1,(I J v3.2.2.1.1.2.1 v5).2.2.2.2.1,(I J v3.2.2.1.1.2.1 v5).2.2.2.2.2.1,(I J v3.2.2.1.1.2.1 v5).2.2.2.2.2.2.1,v3.2.2.1.2.2.1.2.2.2.1,(I J v3.2.2.1.1.2.1 v5).2.2.2.2.2.2.2.2.1,())))))))
def FI(x:aP.D×Unit):Option (Int×aP.D×Unit):=M8 x.1
abbrev kp:Type:=aF.D×aP.D×Unit
structure nV where
 bx:aP.D→aF.D→Option (kp)
 du:Int→aP.D→aF.D→Option (kp)
 df:aP.D→aF.D→Option (kp)
 eY:Int→aP.D→aF.D→Option (kp)
 gZ:aP.D→aF.D→Option (kp)
 iP:Int→aP.D→aF.D→Option (kp)
 p3:Int→aP.D→aF.D→Option (kp)
def FJ(k:nV)(a1:aP.D):Option (kp):=cond (a1.2.2.1.1==1) (cond (a1.2.2.1.1==1) (k.bx a1 (0,[],())) (k.du a1.2.2.1.1 a1 (0,[],()))) (cond (a1.2.2.1.1==3) (cond (a1.2.2.1.1==3) (k.bx a1 (0,[],())) (k.du a1.2.2.1.1 a1 (0,[],()))) (cond (a1.2.2.1.1==10) (k.bx a1 (0,[],())) (k.du a1.2.2.1.1 a1 (0,[],()))))
def afK(k:nV)(U:aP.D)(aa:aF.D):Option (kp):=(Ax (U,())).bind fun v1=>(eA (v1.1,())).bind fun v2=>some (v2.1,v1.2.1,())
def afL(k:nV)(U:Int)(aa:aP.D)(ad:aF.D):Option (kp):=cond (U==2) (cond (U==2) (k.df aa ad) (k.eY U aa ad)) (cond (U==8) (k.df aa ad) (k.eY U aa ad))
def afM(k:nV)(U:aP.D)(aa:aF.D):Option (kp):=(Fg (U,())).bind fun v1=>(eA (v1.1,())).bind fun v2=>some (v2.1,v1.2.1,())
def afN(k:nV)(U:Int)(aa:aP.D)(ad:aF.D):Option (kp):=cond (U==9) ((Fh (aa,())).bind fun v1=>(eA (v1.1,())).bind fun v2=>some (v2.1,v1.2.1,())) (cond (U==12) ((Fk (aa,())).bind fun v3=>(eA (v3.1,())).bind fun v4=>some (v4.1,v3.2.1,())) (cond (U==4) ((Fl (aa,())).bind fun v5=>some (v5.1,v5.2.1,())) (cond (U==5) (cond (U==5) (k.gZ aa ad) (k.iP U aa ad)) (cond (U==6) (cond (U==6) (k.gZ aa ad) (k.iP U aa ad)) (cond (U==7) (k.gZ aa ad) (k.iP U aa ad))))))
def afO(k:nV)(U:aP.D)(aa:aF.D):Option (kp):=(Fp (U,())).bind fun v1=>(eA (v1.1,())).bind fun v2=>some (v2.1,v1.2.1,())
def afP(k:nV)(U:Int)(aa:aP.D)(ad:aF.D):Option (kp):=cond (U==11) ((Fq (aa,())).bind fun v1=>some (v1.1,v1.2.1,())) (cond (U==13) (cond (U==13) ((AD (aa,())).bind fun v2=>some (v2.1,v2.2.1,())) (k.p3 U aa ad)) (cond (U==20) ((AD (aa,())).bind fun v3=>some (v3.1,v3.2.1,())) (k.p3 U aa ad)))
def afQ(k:nV)(U:Int)(aa:aP.D)(ad:aF.D):Option (kp):=cond (U==14) ((AE (aa,())).bind fun v1=>some (v1.1,v1.2.1,())) (cond (U==15) ((FC (aa,())).bind fun v2=>(eA (v2.1,())).bind fun v3=>some (v3.1,v2.2.1,())) (cond (U==16) ((FF (aa,())).bind fun v4=>(eA (v4.1,())).bind fun v5=>some (v5.1,v4.2.1,())) (cond (U==17) ((FG (aa,())).bind fun v6=>(eA (v6.1,())).bind fun bn=>some (bn.1,v6.2.1,())) (cond (U==18) ((sK (aa.1,())).bind fun cF=>(q9 ([(aa.1.2.1.length:Int),cF.1],())).bind fun v9=>some ((0,v9.1,()),aa,())) ((FI (aa,())).bind fun v10=>(eA (v10.1,())).bind fun v11=>some (v11.1,v10.2.1,()))))))
def Vt(k:nV):nV:=⟨afK k,afL k,afM k,afN k,afO k,afP k,afQ k⟩
def M9:Nat→nV:=dJ Vt ⟨fun _ _=>none,fun _ _ _=>none,fun _ _=>none,fun _ _ _=>none,fun _ _=>none,fun _ _ _=>none,fun _ _ _=>none⟩
def FK(x:aP.D×Unit):Option (kp):=FJ (M9 aN) x.1
abbrev Vu:Type:=af.D×aF.D×Unit
def M_(a1:af.D)(a2:aL.D)(a3:aG.D):Option (Vu):=(x8 (a2,())).bind fun v1=>cond (!v1.1) ((q3 (a1,())).bind fun v2=>(eA (22,())).bind fun v3=>some (v2.1,v3.1,())) ((Ar (a3,())).bind fun v4=>cond (!v4.1) ((q3 (a1,())).bind fun v5=>(eA (22,())).bind fun v6=>some (v5.1,v6.1,())) (cond (decide (a3.1>20)) ((q3 (a1,())).bind fun bn=>(eA (22,())).bind fun cF=>some (bn.1,cF.1,())) ((q3 (a1,())).bind fun v9=>(FK ((v9.1,a2,a3,()),())).bind fun v10=>cond (v10.1.1 != 0) ((q3 (a1,())).bind fun v11=>some (v11.1,v10.1,())) (some (v10.2.1.1,v10.1,())))))
def AF(x:af.D×aL.D×aG.D×Unit):Option (Vu):=M_ x.1 x.2.1 x.2.2.1
abbrev rb:Type:=aF.D×aR.D×Unit
structure sW where
 dC:aR.D→aG.D→aF.D→aL.D→Option (rb)
 fl:aR.D→aG.D→aF.D→aL.D→Option (rb)
 iP:aR.D→aG.D→aF.D→aL.D→Option (rb)
def FL(k:sW)(a1:aR.D)(a2:Int)(a3:aG.D):Option (rb):=(Ar (a3,())).bind fun v1=>cond (!v1.1) ((eA (22,())).bind fun v2=>some (v2.1,a1,())) ((L' (a1.2.1,a3.1,())).bind fun v3=>cond (!v3.2.1) ((eA (11,())).bind fun v4=>some (v4.1,a1,())) ((Mb (a2,())).bind fun v5=>cond (a3.1==21) (cond (v5.1.1 != 0) ((eA (1,())).bind fun v6=>some (v6.1,(a1.1,v3.1,a1.2.2.1,a1.2.2.2.1,()),())) (k.dC (a1.1,v3.1,a1.2.2.1,a1.2.2.2.1,()) a3 (0,[],()) v5.1)) (cond (a3.1==22) (cond (v5.1.1 != 0) ((eA (1,())).bind fun bn=>some (bn.1,(a1.1,v3.1,a1.2.2.1,a1.2.2.2.1,()),())) (k.dC (a1.1,v3.1,a1.2.2.1,a1.2.2.2.1,()) a3 (0,[],()) v5.1)) (k.dC (a1.1,v3.1,a1.2.2.1,a1.2.2.2.1,()) a3 (0,[],()) v5.1))))
def ya(k:sW)(U:aR.D)(aa:aG.D)(ad:aF.D)(ag:aL.D):Option (rb):=cond (aa.1==21) (cond (decide (aa.2.2.2.1<0)) ((eA (22,())).bind fun v1=>some (v1.1,U,())) (k.fl U aa ad ag)) (k.fl U aa ad ag)
def yb(k:sW)(U:aR.D)(aa:aG.D)(ad:aF.D)(ag:aL.D):Option (rb):=cond (aa.1==21) ((Me (U.2.2.1,aa.2.2.2.1,())).bind fun v1=>some ((0,v1.1,()),U,())) (cond (aa.1==22) (some ((0,[],()),(U.1,U.2.1,[],U.2.2.2.1,()),())) ((As (aa.1,())).bind fun v2=>cond (!v2.1) (cond ((U.2.2.1.length:Int)==20) ((eA (28,())).bind fun v3=>some (v3.1,U,())) (k.iP U aa ad ag)) (k.iP U aa ad ag)))
def M'(k:sW)(U:aR.D)(aa:aG.D)(ad:aF.D)(ag:aL.D):Option (rb):=both ((AF (U.1,ag,aa,())).bind fun v1=>dup (some (v1.2.1,(v1.1,U.2.1,U.2.2.1,U.2.2.2.1,()),()))) (dup (dup ((AF (U.1,ag,aa,())).bind fun v1=>some (v1.2.1,(v1.1,U.2.1,U.2.2.1,U.2.2.2.1,()),()))))
def Vv(k:sW):sW:=⟨ya k,yb k,M' k⟩
def mg:Nat→sW:=dJ Vv ⟨fun _ _ _ _=>none,fun _ _ _ _=>none,fun _ _ _ _=>none⟩
def FM(x:aR.D×Int×aG.D×Unit):Option (rb):=FL (mg aN) x.1 x.2.1 x.2.2.1
abbrev m1:Type:=aF.D×Bool×aR.D×Unit
structure re where
 dC:Int→Int→Int→Bool→aR.D→aG.D→aF.D→aF.D→Option (m1)
 cL:Int→Int→Int→aR.D→aG.D→aF.D→aF.D→Option (m1)
 fl:Int→Int→Int→aR.D→aF.D→aF.D→Option (m1)
def FN(k:re)(a1:aR.D)(a2:Int)(a3:Int)(a4:aG.D)(a5:Int):Option (m1):=(dh (a2,1,3,())).bind fun v1=>cond (!v1.1) (some ((0,[],()),false,a1,())) ((dh (a3,1,1000000,())).bind fun v2=>cond (!v2.1) (some ((0,[],()),false,a1,())) ((dh (a5,1,100000,())).bind fun v3=>cond (!v3.1) (some ((0,[],()),false,a1,())) ((L4 (a1,a5,())).bind fun v4=>cond v4.1 (some ((0,[],()),false,a1,())) ((L6 (a1,a2,())).bind fun v5=>cond (a3==v5.1.2.1) (some (v5.1.2.2.2.1,false,a1,())) (cond (a3 != aH (v5.1.2.1+1)) (some ((0,[],()),false,a1,())) ((FM (a1,a2,a4,())).bind fun v6=>cond (a4.1==22) (k.dC a2 a3 a5 (v6.1.1==0) v6.2.1 a4 (0,[],()) v6.1) (k.dC a2 a3 a5 false v6.2.1 a4 (0,[],()) v6.1)))))))
def Na(k:re)(U:Int)(aa:Int)(ad:Int)(ag:Bool)(al:aR.D)(aE:aG.D)(a7:aF.D)(bE:aF.D):Option (m1):=cond (decide ((al.2.2.1.length:Int)<20)) ((Ar (aE,())).bind fun v1=>cond v1.1 ((As (aE.1,())).bind fun v2=>cond (!v2.1) (cond (!ag) (k.cL U aa ad al aE a7 bE) (k.fl U aa ad al a7 bE)) (cond (bE.1 != 0) (cond (!ag) (k.cL U aa ad al aE a7 bE) (k.fl U aa ad al a7 bE)) (k.fl U aa ad al a7 bE))) (k.fl U aa ad al a7 bE)) (k.fl U aa ad al a7 bE)
def afR(k:re)(U:Int)(aa:Int)(ad:Int)(ag:aR.D)(aE:aF.D)(a7:aF.D)(v1:List aO.D):Option (m1):=k.fl U aa ad (ag.1,ag.2.1,v1,ag.2.2.2.1,()) aE a7
def Nb(k:re)(U:Int)(aa:Int)(ad:Int)(ag:aR.D)(al:aG.D)(aE:aF.D)(a7:aF.D):Option (m1):=cond (room (ag.2.2.1.length+[(ad,U,aa,al.1,a7.1,())].length)) (afR k U aa ad ag aE a7 (ag.2.2.1++[(ad,U,aa,al.1,a7.1,())])) (none)
def afS(aE:aF.D)(ag:aR.D)(v3:List bt.D):Option (m1):=some (aE,true,(ag.1,ag.2.1,ag.2.2.1,v3,()),())
def afT(aE:aF.D)(ag:aR.D)(bn:List bt.D):Option (m1):=some (aE,true,(ag.1,ag.2.1,ag.2.2.1,bn,()),())
def Vw(ag:aR.D)(v4:Nat×Nat)(aE:aF.D)(v6:List bt.D):Option (m1):=cond (room ((part ag.2.2.2.1 (0+v4.1) (v4.2-v4.1)).length+v6.length)) (afT aE ag ((part ag.2.2.2.1 (0+v4.1) (v4.2-v4.1))++v6)) (none)
def Nc(k:re)(U:Int)(aa:Int)(ad:Int)(ag:aR.D)(al:aF.D)(aE:aF.D):Option (m1):=(EJ (ag,U,())).bind fun v1=>cond v1.2.1 ((aM ag.2.2.2.1.length v1.1).bind fun v2=>afS aE ag (ag.2.2.2.1.set (0+v2) (U,aa,ad,aE,()))) (cond (decide (v1.1=v1.1)) ((eh ag.2.2.2.1.length 0 v1.1).bind fun v4=>(eh ag.2.2.2.1.length v1.1 (ag.2.2.2.1.length:Int)).bind fun v5=>cond (room ([(U,aa,ad,aE,())].length +(part ag.2.2.2.1 (0+v5.1) (v5.2-v5.1)).length)) (Vw ag v4 aE ([(U,aa,ad,aE,())]++(part ag.2.2.2.1 (0+v5.1) (v5.2-v5.1)))) (none)) (none))
def Vx(k:re):re:=⟨Na k,Nb k,Nc k⟩
def rf:Nat→re:=dJ Vx ⟨fun _ _ _ _ _ _ _ _=>none,fun _ _ _ _ _ _ _=>none,fun _ _ _ _ _ _=>none⟩
def FO(x:aR.D×Int×Int×aG.D×Int×Unit):Option (m1):=FN (rf aN) x.1 x.2.1 x.2.2.1 x.2.2.2.1 x.2.2.2.2.1
abbrev Vy:Type:=aR.D×aF.D×Bool×Unit
def Nd(a1:aR.D)(a2:Int)(a3:Int)(a4:aG.D)(a5:Int):Option (Vy):=(L1 (a1,())).bind fun v1=>cond (!v1.1) (some (((0,[],()),0,[],[],()),(0,[],()),false,())) ((L3 (a1,())).bind fun v2=>(FO (v2.1,a2,a3,a4,a5,())).bind fun v3=>some (v3.2.2.1,v3.1,v3.2.1,()))
def vv(x:aR.D×Int×Int×aG.D×Int×Unit):Option (Vy):=Nd x.1 x.2.1 x.2.2.1 x.2.2.2.1 x.2.2.2.2.1
def Nf(a1:Int)(a2:Int)(a3:Int):Option (Bool×Unit):=cond (decide (a1≥a2)) (some (decide (a1≤a3),())) (some (false,()))
def c_(x:Int×Int×Int×Unit):Option (Bool×Unit):=Nf x.1 x.2.1 x.2.2.1
def Ng(a1:Int):Option (Bool×Unit):=cond (decide (a1≥97)) (cond (decide (a1≤122)) (some (true,())) (cond (decide (a1≥48)) (cond (decide (a1≤57)) (some (true,())) (cond (a1==46) (some (true,())) (cond (a1==95) (some (true,())) (some (a1==45,()))))) (cond (a1==46) (some (true,())) (cond (a1==95) (some (true,())) (some (a1==45,())))))) (cond (decide (a1≥48)) (cond (decide (a1≤57)) (some (true,())) (cond (a1==46) (some (true,())) (cond (a1==95) (some (true,())) (some (a1==45,()))))) (cond (a1==46) (some (true,())) (cond (a1==95) (some (true,())) (some (a1==45,())))))
def AG(x:Int×Unit):Option (Bool×Unit):=Ng x.1
abbrev FP:Type:=(aj)→Int→Option (Bool×Unit)
def FQ(bg:FP)(a1:aj):Option (Bool×Unit):=(c_ ((a1.length:Int),1,60,())).bind fun v1=>cond (!v1.1) (some (false,())) (bg a1 0)
def FR(bg:FP)(U:aj)(aa:Int):Option (Bool×Unit):=cond (decide (aa<(U.length:Int))) ((aM U.length aa).bind fun v1=>cond (((U.getD v1 0).toNat:Int) != 47) ((aM U.length aa).bind fun v2=>(AG (((U.getD v2 0).toNat:Int),())).bind fun v3=>cond (!v3.1) (some (false,())) (bg U (aH (aa+1)))) (bg U (aH (aa+1)))) (some (true,()))
def vw:Nat→FP | 0,_,_=>none | m+1,U,aa=>FR (vw m) U aa
def AH(x:(aj)×Unit):Option (Bool×Unit):=FQ (vw aN) x.1
abbrev FT:Type:=(aj)→Int→Option (Bool×Unit)
def FU(bg:FT)(a1:aj):Option (Bool×Unit):=(c_ ((a1.length:Int),1,8,())).bind fun v1=>cond (!v1.1) (some (false,())) (cond (bD a1 ([46]:aj)) (some (false,())) (cond (bD a1 ([46,46]:aj)) (some (false,())) (bg a1 0)))
def FV(bg:FT)(U:aj)(aa:Int):Option (Bool×Unit):=cond (decide (aa<(U.length:Int))) ((aM U.length aa).bind fun v1=>(AG (((U.getD v1 0).toNat:Int),())).bind fun v2=>cond (!v2.1) (some (false,())) (bg U (aH (aa+1)))) (some (true,()))
def sX:Nat→FT | 0,_,_=>none | m+1,U,aa=>FV (sX m) U aa
def Nh(x:(aj)×Unit):Option (Bool×Unit):=FU (sX aN) x.1
abbrev FW:Type:=Int→Int→af.D→Option (Int×Unit)
def FX(k2:FW)(a1:af.D)(a2:Int):Option (Int×Unit):=k2 a2 0 a1
def FY(k2:FW)(U:Int)(aa:Int)(ad:af.D):Option (Int×Unit):=cond (decide (aa<(ad.2.1.length:Int))) ((aM ad.2.1.length aa).bind fun v1=>cond ((I J ad.2.1 v1).1==U) (some (aa,())) (k2 U (aH (aa+1)) ad)) (some ((-1),()))
def vx:Nat→FW | 0,_,_,_=>none | m+1,U,aa,ad=>FY (vx m) U aa ad
def kQ(x:af.D×Int×Unit):Option (Int×Unit):=FX (vx aN) x.1 x.2.1
structure vy where
 bg:Bool→af.D→J.D→Option (Bool×Unit)
 m0:Int→af.D→J.D→Option (Bool×Unit)
def FZ(k:vy)(a1:af.D)(a2:J.D):Option (Bool×Unit):=(c_ (a2.2.2.1,0,2047,())).bind fun v1=>cond (!v1.1) (some (false,())) ((c_ (a2.2.2.2.1,0,1000,())).bind fun v2=>cond (!v2.1) (some (false,())) ((c_ (a2.2.2.2.2.1,0,1000,())).bind fun v3=>cond (!v3.1) (some (false,())) (cond ((a2.2.2.2.2.2.2.1.length:Int)==0) (cond (a2.2.2.2.2.2.2.2.1==0) (k.bg (a2.2.2.2.2.2.2.2.2.1==0) a1 a2) (k.bg false a1 a2)) (k.bg false a1 a2))))
def Ni(k:vy)(U:Bool)(aa:af.D)(ad:J.D):Option (Bool×Unit):=cond (ad.2.1==1) (cond U (some (decide ((ad.2.2.2.2.2.1.length:Int)≤64),())) (some (false,()))) (cond (ad.2.1==3) (cond U ((AH (ad.2.2.2.2.2.1,())).bind fun v1=>cond v1.1 (some (ad.2.2.1==511,())) (some (false,()))) (some (false,()))) (cond (ad.2.1==2) (cond (!(bD ad.2.2.2.2.2.1 [])) (some (false,())) (cond (decide ((ad.2.2.2.2.2.2.1.length:Int)>12)) (some (false,())) ((c_ (ad.2.2.2.2.2.2.2.1,0,400,())).bind fun v2=>cond (!v2.1) (some (false,())) ((c_ (ad.2.2.2.2.2.2.2.2.1,0,24,())).bind fun v3=>cond (!v3.1) (some (false,())) (k.m0 0 aa ad))))) (some (false,()))))
def AI(k:vy)(U:Int)(aa:af.D)(ad:J.D):Option (Bool×Unit):=cond (decide (U<(ad.2.2.2.2.2.2.1.length:Int))) ((aM ad.2.2.2.2.2.2.1.length U).bind fun v1=>(Nh ((I aB ad.2.2.2.2.2.2.1 v1).1,())).bind fun v2=>cond (!v2.1) (some (false,())) (cond (decide (U>0)) ((aM ad.2.2.2.2.2.2.1.length (aH (U-1))).bind fun v3=>cond (!(dG ((I aB ad.2.2.2.2.2.2.1 v3).1) ((I aB ad.2.2.2.2.2.2.1 v1).1))) (some (false,())) (cond ((I aB ad.2.2.2.2.2.2.1 v1).2.1==1) (some (false,())) ((kQ (aa,(I aB ad.2.2.2.2.2.2.1 v1).2.1,())).bind fun v4=>cond (decide (v4.1<0)) (some (false,())) (k.m0 (aH (U+1)) aa ad)))) (cond ((I aB ad.2.2.2.2.2.2.1 v1).2.1==1) (some (false,())) ((kQ (aa,(I aB ad.2.2.2.2.2.2.1 v1).2.1,())).bind fun v5=>cond (decide (v5.1<0)) (some (false,())) (k.m0 (aH (U+1)) aa ad))))) (some (true,()))
def Vz(k:vy):vy:=⟨Ni k,AI k⟩
def rh:Nat→vy:=dJ Vz ⟨fun _ _ _=>none,fun _ _ _=>none⟩
def F2(x:af.D×J.D×Unit):Option (Bool×Unit):=FZ (rh aN) x.1 x.2.1
structure ri where
 df:Int→af.D→(List Bool)→(List Bool)→Option ((List Bool)×Unit)
 cL:Int→Int→af.D→(List Bool)→(List Bool)→Option ((List Bool)×Unit)
 F3:Int→Int→Int→af.D→(List Bool)→(List Bool)→Option ((List Bool)×Unit)
def afU(k:ri)(a1:af.D)(v3:List Bool):Option ((List Bool)×Unit):=k.df 0 a1 (List.replicate (Int.toNat (a1.2.1.length:Int)) (false:Bool)) v3
def F4(k:ri)(a1:af.D)(a2:Int):Option ((List Bool)×Unit):=cond (decide (0≤(a1.2.1.length:Int))&&decide ((a1.2.1.length:Int)=(a1.2.1.length:Int))&&room (Int.toNat (a1.2.1.length:Int))) (cond (decide (0≤(a1.2.1.length:Int))&&decide ((a1.2.1.length:Int)=(a1.2.1.length:Int))&&room (Int.toNat (a1.2.1.length:Int))) ((kQ (a1,a2,())).bind fun v1=>cond (decide (v1.1<0)) (some (List.replicate (Int.toNat (a1.2.1.length:Int)) (false:Bool),())) ((aM ((List.replicate (Int.toNat (a1.2.1.length:Int)) (false:Bool)).length) v1.1).bind fun v2=>afU k a1 ((List.replicate (Int.toNat (a1.2.1.length:Int)) (false:Bool)).set (0+v2) true))) (none)) (none)
def AJ(k:ri)(U:Int)(aa:af.D)(ad:List Bool)(ag:List Bool):Option ((List Bool)×Unit):=cond (decide (U<(aa.2.1.length:Int))) (k.cL U 0 aa ad ag) (some (ad,()))
def vz(k:ri)(U:Int)(aa:Int)(ad:af.D)(ag:List Bool)(al:List Bool):Option ((List Bool)×Unit):=cond (decide (aa<(ad.2.1.length:Int))) ((aM al.length aa).bind fun v1=>cond (!(I ae.bool al (0+v1))) (k.cL U (aH (aa+1)) ad ag al) (k.F3 U aa 0 ad ag al)) (k.df (aH (U+1)) ad ag al)
def AK(k:ri)(U:Int)(aa:Int)(ad:Int)(ag:af.D)(al:List Bool)(aE:List Bool):Option ((List Bool)×Unit):=(aM ag.2.1.length aa).bind fun v1=>cond (decide (ad<(((I J ag.2.1 v1).2.2.2.2.2.2.1).length:Int))) ((aM ag.2.1.length aa).bind fun v2=>(aM (((I J ag.2.1 v2).2.2.2.2.2.2.1).length) ad).bind fun v3=>(kQ (ag,(I aB ((I J ag.2.1 v2).2.2.2.2.2.2.1) v3).2.1,())).bind fun v4=>cond (decide (v4.1≥0)) ((aM al.length v4.1).bind fun v5=>(aM aE.length v4.1).bind fun v6=>k.F3 U aa (aH (ad+1)) ag (al.set (0+v5) true) (aE.set (0+v6) true)) (k.F3 U aa (aH (ad+1)) ag al aE)) (k.cL U (aH (aa+1)) ag al aE)
def VA(k:ri):ri:=⟨AJ k,vz k,AK k⟩
def kq:Nat→ri:=dJ VA ⟨fun _ _ _ _=>none,fun _ _ _ _ _=>none,fun _ _ _ _ _ _=>none⟩
def F5(x:af.D×Int×Unit):Option ((List Bool)×Unit):=F4 (kq aN) x.1 x.2.1
structure vA where
 k3:Int→Int→Int→af.D→Option (Int×Unit)
 du:Int→Int→Int→Int→af.D→Option (Int×Unit)
def F6(k:vA)(a1:af.D)(a2:Int):Option (Int×Unit):=k.k3 a2 0 0 a1
def AL(k:vA)(U:Int)(aa:Int)(ad:Int)(ag:af.D):Option (Int×Unit):=cond (decide (ad<(ag.2.1.length:Int))) (k.du U aa ad 0 ag) (some (aa,()))
def AM(k:vA)(U:Int)(aa:Int)(ad:Int)(ag:Int)(al:af.D):Option (Int×Unit):=(aM al.2.1.length ad).bind fun v1=>cond (decide (ag<(((I J al.2.1 v1).2.2.2.2.2.2.1).length:Int))) ((aM al.2.1.length ad).bind fun v2=>(aM (((I J al.2.1 v2).2.2.2.2.2.2.1).length) ag).bind fun v3=>cond ((I aB ((I J al.2.1 v2).2.2.2.2.2.2.1) v3).2.1==U) (k.du U (aH (aa+1)) ad (aH (ag+1)) al) (k.du U aa ad (aH (ag+1)) al)) (k.k3 U aa (aH (ad+1)) al)
def VB(k:vA):vA:=⟨AL k,AM k⟩
def p4:Nat→vA:=dJ VB ⟨fun _ _ _ _=>none,fun _ _ _ _ _=>none⟩
def AN(x:af.D×Int×Unit):Option (Int×Unit):=F6 (p4 aN) x.1 x.2.1
abbrev F7:Type:=Int→Int→af.D→Option (Int×Unit)
def F8(k3:F7)(a1:af.D):Option (Int×Unit):=k3 0 0 a1
def F9(k3:F7)(U:Int)(aa:Int)(ad:af.D):Option (Int×Unit):=cond (decide (aa<(ad.2.1.length:Int))) ((aM ad.2.1.length aa).bind fun v1=>k3 (aH (U +(((I J ad.2.1 v1).2.2.2.2.2.1).length:Int))) (aH (aa+1)) ad) (some (U,()))
def vB:Nat→F7 | 0,_,_,_=>none | m+1,U,aa,ad=>F9 (vB m) U aa ad
def AO(x:af.D×Unit):Option (Int×Unit):=F8 (vB aN) x.1
abbrev F_:Type:=Int→Int→Int→af.D→(List Bool)→Option (Int×Int×Unit)
def Ga(bx:F_)(a1:af.D)(a2:Int):Option (Int×Int×Unit):=(F5 (a1,a2,())).bind fun v1=>bx 0 0 0 a1 v1.1
def Gb(bx:F_)(U:Int)(aa:Int)(ad:Int)(ag:af.D)(al:List Bool):Option (Int×Int×Unit):=cond (decide (ad<(al.length:Int))) ((aM al.length ad).bind fun v1=>cond (I ae.bool al (0+v1)) ((aM ag.2.1.length ad).bind fun v2=>bx (aH (U +(((I J ag.2.1 v2).2.2.2.2.2.1).length:Int))) (aH (aa+1)) (aH (ad+1)) ag al) (bx U aa (aH (ad+1)) ag al)) (some (U,aa,()))
def vC:Nat→F_ | 0,_,_,_,_,_=>none | m+1,U,aa,ad,ag,al=>Gb (vC m) U aa ad ag al
def AP(x:af.D×Int×Unit):Option (Int×Int×Unit):=Ga (vC aN) x.1 x.2.1
structure vD where
 k2:Int→af.D→Option (Bool×Unit)
 du:Int→af.D→J.D→Option (Bool×Unit)
def Gc(k:vD)(a1:af.D):Option (Bool×Unit):=k.k2 0 a1
def AQ(k:vD)(U:Int)(aa:af.D):Option (Bool×Unit):=cond (decide (U<(aa.2.1.length:Int))) ((aM aa.2.1.length U).bind fun v1=>cond ((I J aa.2.1 v1).2.1 != 2) (k.k2 (aH (U+1)) aa) (cond ((I J aa.2.1 v1).2.2.2.2.2.2.2.1==0) (cond ((I J aa.2.1 v1).2.2.2.2.2.2.2.2.1==0) (k.k2 (aH (U+1)) aa) (k.du U aa (I J aa.2.1 v1))) (k.du U aa (I J aa.2.1 v1)))) (some (false,()))
def Nj(k:vD)(U:Int)(aa:af.D)(ad:J.D):Option (Bool×Unit):=(AP (aa,ad.1,())).bind fun v1=>cond (decide (ad.2.2.2.2.2.2.2.1>0)) (cond (decide (v1.1>ad.2.2.2.2.2.2.2.1)) (some (true,())) (cond (decide (ad.2.2.2.2.2.2.2.2.1>0)) (cond (decide (v1.2.1>ad.2.2.2.2.2.2.2.2.1)) (some (true,())) (k.k2 (aH (U+1)) aa)) (k.k2 (aH (U+1)) aa))) (cond (decide (ad.2.2.2.2.2.2.2.2.1>0)) (cond (decide (v1.2.1>ad.2.2.2.2.2.2.2.2.1)) (some (true,())) (k.k2 (aH (U+1)) aa)) (k.k2 (aH (U+1)) aa))
def VC(k:vD):vD:=⟨AQ k,Nj k⟩
def kr:Nat→vD:=dJ VC ⟨fun _ _=>none,fun _ _ _=>none⟩
def Gd(x:af.D×Unit):Option (Bool×Unit):=Gc (kr aN) x.1
structure vE where
 bg:Int→af.D→Option (Bool×Unit)
 cL:Int→af.D→(List Bool)→Option (Bool×Unit)
def Ge(k:vE)(a1:af.D):Option (Bool×Unit):=(c_ (a1.1,2,100000,())).bind fun v1=>cond (!v1.1) (some (false,())) ((c_ ((a1.2.1.length:Int),1,24,())).bind fun v2=>cond (!v2.1) (some (false,())) ((aM a1.2.1.length 0).bind fun v3=>cond ((I J a1.2.1 v3).1 != 1) (some (false,())) ((aM a1.2.1.length 0).bind fun v4=>cond ((I J a1.2.1 v4).2.1 != 2) (some (false,())) (k.bg 0 a1))))
def vF(k:vE)(U:Int)(aa:af.D):Option (Bool×Unit):=cond (decide (U<(aa.2.1.length:Int))) ((aM aa.2.1.length U).bind fun v1=>(c_ ((I J aa.2.1 v1).1,1,aH (aa.1-1),())).bind fun v2=>cond (!v2.1) (some (false,())) (cond (decide (U>0)) ((aM aa.2.1.length (aH (U-1))).bind fun v3=>cond (decide ((I J aa.2.1 v3).1≥(I J aa.2.1 v1).1)) (some (false,())) ((F2 (aa,I J aa.2.1 v1,())).bind fun v4=>cond (!v4.1) (some (false,())) (k.bg (aH (U+1)) aa))) ((F2 (aa,I J aa.2.1 v1,())).bind fun v5=>cond (!v5.1) (some (false,())) (k.bg (aH (U+1)) aa)))) ((F5 (aa,1,())).bind fun v6=>k.cL 1 aa v6.1)
def vG(k:vE)(U:Int)(aa:af.D)(ad:List Bool):Option (Bool×Unit):=cond (decide (U<(aa.2.1.length:Int))) ((aM ad.length U).bind fun v1=>cond (!(I ae.bool ad (0+v1))) (some (false,())) ((aM aa.2.1.length U).bind fun v2=>cond ((I J aa.2.1 v2).2.1==2) ((aM aa.2.1.length U).bind fun v3=>(AN (aa,(I J aa.2.1 v3).1,())).bind fun v4=>cond (v4.1 != 1) (some (false,())) (k.cL (aH (U+1)) aa ad)) (k.cL (aH (U+1)) aa ad))) ((AO (aa,())).bind fun v5=>cond (decide (v5.1≤400)) ((Gd (aa,())).bind fun v6=>some (!v6.1,())) (some (false,())))
def VD(k:vE):vE:=⟨vF k,vG k⟩
def nW:Nat→vE:=dJ VD ⟨fun _ _=>none,fun _ _ _=>none⟩
def Nk(x:af.D×Unit):Option (Bool×Unit):=Ge (nW aN) x.1
abbrev Gf:Type:=(List aO.D)→Int→Option (Bool×Unit)
def Gg(bg:Gf)(a1:List aO.D):Option (Bool×Unit):=cond (decide ((a1.length:Int)>20)) (some (false,())) (bg a1 0)
def Gh(bg:Gf)(U:List aO.D)(aa:Int):Option (Bool×Unit):=cond (decide (aa<(U.length:Int))) ((aM U.length aa).bind fun v1=>(c_ ((I aO U v1).1,1,100000,())).bind fun v2=>cond (!v2.1) (some (false,())) (cond (decide (aa>0)) ((aM U.length (aH (aa-1))).bind fun v3=>cond (decide ((I aO U v3).1 >(I aO U v1).1)) (some (false,())) ((c_ ((I aO U v1).2.1,1,3,())).bind fun v4=>cond (!v4.1) (some (false,())) ((c_ ((I aO U v1).2.2.1,1,1000000,())).bind fun v5=>cond (!v5.1) (some (false,())) ((c_ ((I aO U v1).2.2.2.1,1,22,())).bind fun v6=>cond (!v6.1) (some (false,())) ((c_ ((I aO U v1).2.2.2.2.1,0,200,())).bind fun bn=>cond (!bn.1) (some (false,())) (bg U (aH (aa+1)))))))) ((c_ ((I aO U v1).2.1,1,3,())).bind fun cF=>cond (!cF.1) (some (false,())) ((c_ ((I aO U v1).2.2.1,1,1000000,())).bind fun v9=>cond (!v9.1) (some (false,())) ((c_ ((I aO U v1).2.2.2.1,1,22,())).bind fun v10=>cond (!v10.1) (some (false,())) ((c_ ((I aO U v1).2.2.2.2.1,0,200,())).bind fun v11=>cond (!v11.1) (some (false,())) (bg U (aH (aa+1))))))))) (some (true,()))
def vH:Nat→Gf | 0,_,_=>none | m+1,U,aa=>Gh (vH m) U aa
def Gi(x:(List aO.D)×Unit):Option (Bool×Unit):=Gg (vH aN) x.1
def Nl(a1:aF.D):Option (Bool×Unit):=(c_ (a1.1,0,200,())).bind fun v1=>cond v1.1 (some (decide ((a1.2.1.length:Int)≤400),())) (some (false,()))
def Gj(x:aF.D×Unit):Option (Bool×Unit):=Nl x.1
abbrev Gk:Type:=Int→aR.D→Option (Bool×Unit)
def Gl(bg:Gk)(a1:aR.D):Option (Bool×Unit):=(Nk (a1.1,())).bind fun v1=>cond (!v1.1) (some (false,())) ((c_ (a1.2.1,0,30,())).bind fun v2=>cond (!v2.1) (some (false,())) ((Gi (a1.2.2.1,())).bind fun v3=>cond (!v3.1) (some (false,())) (cond (decide ((a1.2.2.2.1.length:Int)>3)) (some (false,())) (bg 0 a1))))
def Gm(bg:Gk)(U:Int)(aa:aR.D):Option (Bool×Unit):=cond (decide (U<(aa.2.2.2.1.length:Int))) ((aM aa.2.2.2.1.length U).bind fun v1=>(c_ ((I bt aa.2.2.2.1 v1).1,1,3,())).bind fun v2=>cond (!v2.1) (some (false,())) (cond (decide (U>0)) ((aM aa.2.2.2.1.length (aH (U-1))).bind fun v3=>cond (decide ((I bt aa.2.2.2.1 v3).1≥(I bt aa.2.2.2.1 v1).1)) (some (false,())) ((c_ ((I bt aa.2.2.2.1 v1).2.1,1,1000000,())).bind fun v4=>cond (!v4.1) (some (false,())) ((c_ ((I bt aa.2.2.2.1 v1).2.2.1,1,100000,())).bind fun v5=>cond (!v5.1) (some (false,())) ((Gj ((I bt aa.2.2.2.1 v1).2.2.2.1,())).bind fun v6=>cond (!v6.1) (some (false,())) (bg (aH (U+1)) aa))))) ((c_ ((I bt aa.2.2.2.1 v1).2.1,1,1000000,())).bind fun bn=>cond (!bn.1) (some (false,())) ((c_ ((I bt aa.2.2.2.1 v1).2.2.1,1,100000,())).bind fun cF=>cond (!cF.1) (some (false,())) ((Gj ((I bt aa.2.2.2.1 v1).2.2.2.1,())).bind fun v9=>cond (!v9.1) (some (false,())) (bg (aH (U+1)) aa)))))) (some (true,()))
def sY:Nat→Gk | 0,_,_=>none | m+1,U,aa=>Gm (sY m) U aa
def AR(x:aR.D×Unit):Option (Bool×Unit):=Gl (sY aN) x.1
abbrev Gn:Type:=Int→Int→aR.D→Option (Int×Bool×Unit)
def VE(k2:Gn)(a1:aR.D)(a2:Int):Option (Int×Bool×Unit):=k2 a2 0 a1
def yc(k2:Gn)(U:Int)(aa:Int)(ad:aR.D):Option (Int×Bool×Unit):=cond (decide (aa<(ad.2.2.2.1.length:Int))) ((aM ad.2.2.2.1.length aa).bind fun v1=>cond (decide ((I bt ad.2.2.2.1 v1).1≥U)) ((aM ad.2.2.2.1.length aa).bind fun v2=>some (aa,(I bt ad.2.2.2.1 v2).1==U,())) (k2 U (aH (aa+1)) ad)) (some ((ad.2.2.2.1.length:Int),false,()))
def yd:Nat→Gn | 0,_,_,_=>none | m+1,U,aa,ad=>yc (yd m) U aa ad
def Gp(x:aR.D×Int×Unit):Option (Int×Bool×Unit):=VE (yd aN) x.1 x.2.1
def Nn(a1:aR.D)(a2:Int):Option (bt.D×Unit):=(Gp (a1,a2,())).bind fun v1=>cond (!v1.2.1) (some ((0,0,0,(0,[],()),()),())) ((aM a1.2.2.2.1.length v1.1).bind fun v2=>some (I bt a1.2.2.2.1 v2,()))
def AS(x:aR.D×Int×Unit):Option (bt.D×Unit):=Nn x.1 x.2.1
structure vI where
 k3:Int→Int→aR.D→Option (Int×Unit)
 df:Int→Int→aR.D→Option (Int×Unit)
def VF(k:vI)(a1:aR.D):Option (Int×Unit):=k.k3 0 0 a1
def Gq(k:vI)(U:Int)(aa:Int)(ad:aR.D):Option (Int×Unit):=cond (decide (aa<(ad.2.2.1.length:Int))) ((aM ad.2.2.1.length aa).bind fun v1=>cond (decide ((I aO ad.2.2.1 v1).1>U)) ((aM ad.2.2.1.length aa).bind fun v2=>k.k3 ((I aO ad.2.2.1 v2).1) (aH (aa+1)) ad) (k.k3 U (aH (aa+1)) ad)) (k.df U 0 ad)
def Gr(k:vI)(U:Int)(aa:Int)(ad:aR.D):Option (Int×Unit):=cond (decide (aa<(ad.2.2.2.1.length:Int))) ((aM ad.2.2.2.1.length aa).bind fun v1=>cond (decide ((I bt ad.2.2.2.1 v1).2.2.1>U)) ((aM ad.2.2.2.1.length aa).bind fun v2=>k.df ((I bt ad.2.2.2.1 v2).2.2.1) (aH (aa+1)) ad) (k.df U (aH (aa+1)) ad)) (some (U,()))
def VG(k:vI):vI:=⟨Gq k,Gr k⟩
def nX:Nat→vI:=dJ VG ⟨fun _ _ _=>none,fun _ _ _=>none⟩
def No(x:aR.D×Unit):Option (Int×Unit):=VF (nX aN) x.1
abbrev Gs:Type:=aG.D→Option (Bool×Unit)
def Gt(bx:Gs)(a1:aG.D):Option (Bool×Unit):=(c_ (a1.1,1,22,())).bind fun v1=>cond (!v1.1) (some (false,())) (cond (decide ((a1.2.1.length:Int)>60)) (some (false,())) (cond (decide ((a1.2.2.1.length:Int)>60)) (some (false,())) (cond (decide ((a1.2.2.2.2.2.1.length:Int)>64)) (some (false,())) ((c_ (a1.2.2.2.1,(-1000000),1000000,())).bind fun v2=>cond (!v2.1) (some (false,())) ((c_ (a1.2.2.2.2.1,(-1000000),1000000,())).bind fun v3=>cond (!v3.1) (some (false,())) (cond (!(bD a1.2.2.1 [])) (cond (a1.1 != 9) (cond (a1.1 != 10) (cond (a1.1 != 12) (some (false,())) (bx a1)) (bx a1)) (bx a1)) (bx a1)))))))
def Np(bx:Gs)(U:aG.D):Option (Bool×Unit):=cond (bD U.2.2.2.2.2.1 []) (some (true,())) (cond (U.1==5) (some (true,())) (some (U.1==6,())))
def AT:Nat→Gs | 0,_=>none | m+1,U=>Np (AT m) U
def AU(x:aG.D×Unit):Option (Bool×Unit):=Gt (AT aN) x.1
def Nq(a1:Int):Option (Bool×Unit):=cond (a1==4) (cond (a1==4) (some (true,())) (some (false,()))) (cond (a1==11) (cond (a1==11) (some (true,())) (some (false,()))) (cond (a1==13) (cond (a1==13) (some (true,())) (some (false,()))) (cond (a1==14) (cond (a1==14) (some (true,())) (some (false,()))) (cond (a1==17) (cond (a1==17) (some (true,())) (some (false,()))) (cond (a1==18) (cond (a1==18) (some (true,())) (some (false,()))) (cond (a1==20) (cond (a1==20) (some (true,())) (some (false,()))) (cond (a1==21) (some (true,())) (some (false,())))))))))
def AV(x:Int×Unit):Option (Bool×Unit):=Nq x.1
def Nr(a1:Int):Option (aL.D×Unit):=cond (a1==1) (some ((0,0,[],()),())) (cond (a1==2) (some ((2,2,[5],()),())) (cond (a1==3) (some ((3,2,[],()),())) (some ((1000,1000,[],()),()))))
def Ns(x:Int×Unit):Option (aL.D×Unit):=Nr x.1
def Nt(a1:Int):Option (Int×Unit):=(AV (a1,())).bind fun v1=>cond v1.1 (some (1,())) ((c_ (a1,1,22,())).bind fun v2=>cond v2.1 (some (3,())) (some (0,())))
def Nu(x:Int×Unit):Option (Int×Unit):=Nt x.1
def Nv(a1:Int)(a2:Int):Option (Int×Bool×Unit):=(Nu (a2,())).bind fun v1=>cond (v1.1==0) (some (a1,false,())) (cond (decide (v1.1>a1)) (some (a1,false,())) (some (aH (a1-v1.1),true,())))
def Nw(x:Int×Int×Unit):Option (Int×Bool×Unit):=Nv x.1 x.2.1
abbrev Gu:Type:=Int→(aj)→Bool→Option ((aj)×Unit)
def Gv(bx:Gu)(a1:Int):Option ((aj)×Unit):=cond (a1==0) (some (([48]:aj),())) (bx a1 ([]:aj) (decide (a1<0)))
def AW(bx:Gu)(U:Int)(aa:aj)(ad:Bool):Option ((aj)×Unit):=cond (U != 0) (cond (decide (Int.tmod U 10<0)) (cond (room ((gP [IntKind.wrap .u8 (aH (48+aH (0-(Int.tmod U 10))))]).length+aa.length)) (bx (aH (Int.tdiv U 10)) ((gP [IntKind.wrap .u8 (aH (48+aH (0-(Int.tmod U 10))))])++aa) ad) (none)) (cond (room ((gP [IntKind.wrap .u8 (aH (48+Int.tmod U 10))]).length+aa.length)) (bx (aH (Int.tdiv U 10)) ((gP [IntKind.wrap .u8 (aH (48+Int.tmod U 10))])++aa) ad) (none))) (cond ad (cond (room (([45]:aj).length+aa.length)) (some (([45]:aj)++aa,())) (none)) (some (aa,())))
def oX:Nat→Gu | 0,_,_,_=>none | m+1,U,aa,ad=>AW (oX m) U aa ad
def e'(x:Int×Unit):Option ((aj)×Unit):=Gv (oX aN) x.1
structure vJ where
 bx:(List aO.D)→Int→(aj)→Int→Option ((aj)×Unit)
 eY:(List aO.D)→Int→(aj)→Int→Option ((aj)×Unit)
def Gw(k:vJ)(a1:List aO.D)(a2:Int):Option ((aj)×Unit):=(Gi (a1,())).bind fun v1=>cond (!v1.1) (some ([],())) (cond (decide (a2<0)) (some ([],())) (k.bx a1 a2 ([]:aj) a2))
def Gz(k:vJ)(U:List aO.D)(aa:Int)(ad:aj)(ag:Int):Option ((aj)×Unit):=cond (decide (ag<(U.length:Int))) (cond (decide (ag<aH (aa+6))) (cond (decide (ag>aa)) (cond (room (ad.length +([32]:aj).length)) (k.eY U aa (ad++([32]:aj)) ag) (none)) (k.eY U aa ad ag)) (some (ad,()))) (some (ad,()))
def Nx(k:vJ)(U:List aO.D)(aa:Int)(ad:aj)(ag:Int):Option ((aj)×Unit):=(aM U.length ag).bind fun v1=>(aM U.length ag).bind fun v2=>(aM U.length ag).bind fun v3=>(aM U.length ag).bind fun v4=>(aM U.length ag).bind fun v5=>(e' ((I aO U v1).1,())).bind fun v6=>cond (room (ad.length+v6.1.length)) (cond (room ((ad++v6.1).length +([46]:aj).length)) ((e' ((I aO U v2).2.1,())).bind fun bn=>cond (room (((ad++v6.1)++([46]:aj)).length+bn.1.length)) (cond (room ((((ad++v6.1)++([46]:aj))++bn.1).length +([46]:aj).length)) ((e' ((I aO U v3).2.2.1,())).bind fun cF=>cond (room (((((ad++v6.1)++([46]:aj))++bn.1)++([46]:aj)).length+cF.1.length)) (cond (room ((((((ad++v6.1)++([46]:aj))++bn.1)++([46]:aj))++cF.1).length +([46]:aj).length)) ((e' ((I aO U v4).2.2.2.1,())).bind fun v9=>cond (room (((((((ad++v6.1)++([46]:aj))++bn.1)++([46]:aj))++cF.1)++([46]:aj)).length+v9.1.length)) (cond (room ((((((((ad++v6.1)++([46]:aj))++bn.1)++([46]:aj))++cF.1)++([46]:aj))++v9.1).length +([46]:aj).length)) ((e' ((I aO U v5).2.2.2.2.1,())).bind fun v10=>cond (room (((((((((ad++v6.1)++([46]:aj))++bn.1)++([46]:aj))++cF.1)++([46]:aj))++v9.1)++([46]:aj)).length+v10.1.length)) (k.bx U aa (((((((((ad++v6.1)++([46]:aj))++bn.1)++([46]:aj))++cF.1)++([46]:aj))++v9.1)++([46]:aj))++v10.1) (aH (ag+1))) (none)) (none)) (none)) (none)) (none)) (none)) (none)) (none)) (none)
def VH(k:vJ):vJ:=⟨Gz k,Nx k⟩
def p5:Nat→vJ:=dJ VH ⟨fun _ _ _ _=>none,fun _ _ _ _=>none⟩
def Ny(x:(List aO.D)×Int×Unit):Option ((aj)×Unit):=Gw (p5 aN) x.1 x.2.1
abbrev ye:Type:=Int→af.D→af.D→af.D→Option (af.D×Unit)
def AX(k3:ye)(a1:af.D):Option (af.D×Unit):=k3 0 a1 (0,[],()) (a1.1,[],())
def VI(k3:ye)(U:Int)(aa:af.D)(ad:af.D)(ag:af.D)(v3:List J.D):Option (af.D×Unit):=k3 (aH (U+1)) aa ad (ag.1,v3,())
def VJ(k3:ye)(ag:af.D)(aa:af.D)(v1:Nat)(U:Int)(ad:af.D)(v2:List aB.D):Option (af.D×Unit):=cond (room (ag.2.1.length+[((I J aa.2.1 v1).1,(I J aa.2.1 v1).2.1,(I J aa.2.1 v1).2.2.1,(I J aa.2.1 v1).2.2.2.1,(I J aa.2.1 v1).2.2.2.2.1,(I J aa.2.1 v1).2.2.2.2.2.1,v2,(I J aa.2.1 v1).2.2.2.2.2.2.2.1,(I J aa.2.1 v1).2.2.2.2.2.2.2.2.1,())].length)) (VI k3 U aa ad ag (ag.2.1++[((I J aa.2.1 v1).1,(I J aa.2.1 v1).2.1,(I J aa.2.1 v1).2.2.1,(I J aa.2.1 v1).2.2.2.1,(I J aa.2.1 v1).2.2.2.2.1,(I J aa.2.1 v1).2.2.2.2.2.1,v2,(I J aa.2.1 v1).2.2.2.2.2.2.2.1,(I J aa.2.1 v1).2.2.2.2.2.2.2.2.1,())])) (none)
def AY(k3:ye)(U:Int)(aa:af.D)(ad:af.D)(ag:af.D):Option (af.D×Unit):=cond (decide (U<(aa.2.1.length:Int))) ((aM aa.2.1.length U).bind fun v1=>cond (room (([]:List aB.D).length +((I J aa.2.1 v1).2.2.2.2.2.2.1).length)) (VJ k3 ag aa v1 U ad (([]:List aB.D)++((I J aa.2.1 v1).2.2.2.2.2.2.1))) (none)) (some (ag,()))
def p6:Nat→ye | 0,_,_,_,_=>none | m+1,U,aa,ad,ag=>AY (p6 m) U aa ad ag
def oY(x:af.D×Unit):Option (af.D×Unit):=AX (p6 aN) x.1
abbrev yf:Type:=Int→af.D→af.D→af.D→Option (af.D×Unit)
def VK(k3:yf)(a1:af.D):Option (af.D×Unit):=k3 0 a1 (0,[],()) (a1.1,[],())
def afV(k3:yf)(U:Int)(aa:af.D)(ad:af.D)(ag:af.D)(v3:List J.D):Option (af.D×Unit):=k3 (aH (U+1)) aa ad (ag.1,v3,())
def afW(k3:yf)(ag:af.D)(aa:af.D)(v1:Nat)(U:Int)(ad:af.D)(v2:List aB.D):Option (af.D×Unit):=cond (room (ag.2.1.length+[((I J aa.2.1 v1).1,(I J aa.2.1 v1).2.1,(I J aa.2.1 v1).2.2.1,(I J aa.2.1 v1).2.2.2.1,(I J aa.2.1 v1).2.2.2.2.1,(I J aa.2.1 v1).2.2.2.2.2.1,v2,(I J aa.2.1 v1).2.2.2.2.2.2.2.1,(I J aa.2.1 v1).2.2.2.2.2.2.2.2.1,())].length)) (afV k3 U aa ad ag (ag.2.1++[((I J aa.2.1 v1).1,(I J aa.2.1 v1).2.1,(I J aa.2.1 v1).2.2.1,(I J aa.2.1 v1).2.2.2.1,(I J aa.2.1 v1).2.2.2.2.1,(I J aa.2.1 v1).2.2.2.2.2.1,v2,(I J aa.2.1 v1).2.2.2.2.2.2.2.1,(I J aa.2.1 v1).2.2.2.2.2.2.2.2.1,())])) (none)
def Nz(k3:yf)(U:Int)(aa:af.D)(ad:af.D)(ag:af.D):Option (af.D×Unit):=cond (decide (U<(aa.2.1.length:Int))) ((aM aa.2.1.length U).bind fun v1=>cond (room (([]:List aB.D).length +((I J aa.2.1 v1).2.2.2.2.2.2.1).length)) (afW k3 ag aa v1 U ad (([]:List aB.D)++((I J aa.2.1 v1).2.2.2.2.2.2.1))) (none)) (some (ag,()))
def AZ:Nat→yf | 0,_,_,_,_=>none | m+1,U,aa,ad,ag=>Nz (AZ m) U aa ad ag
def A0(x:af.D×Unit):Option (af.D×Unit):=VK (AZ aN) x.1
abbrev GA:Type:=(aj)→Int→Option (Bool×Unit)
def GB(bg:GA)(a1:aj):Option (Bool×Unit):=(c_ ((a1.length:Int),1,60,())).bind fun v1=>cond (!v1.1) (some (false,())) ((aM a1.length 0).bind fun v2=>cond (((a1.getD v2 0).toNat:Int) != 47) (some (false,())) (bg a1 0))
def GC(bg:GA)(U:aj)(aa:Int):Option (Bool×Unit):=cond (decide (aa<(U.length:Int))) ((aM U.length aa).bind fun v1=>cond (((U.getD v1 0).toNat:Int) != 47) ((aM U.length aa).bind fun v2=>(AG (((U.getD v2 0).toNat:Int),())).bind fun v3=>cond (!v3.1) (some (false,())) (bg U (aH (aa+1)))) (bg U (aH (aa+1)))) (some (true,()))
def vK:Nat→GA | 0,_,_=>none | m+1,U,aa=>GC (vK m) U aa
def GD(x:(aj)×Unit):Option (Bool×Unit):=GB (vK aN) x.1
abbrev GF:Type:=Int→aL.D→Option (Bool×Unit)
def GG(bg:GF)(a1:aL.D):Option (Bool×Unit):=(c_ (a1.1,0,1000,())).bind fun v1=>cond (!v1.1) (some (false,())) ((c_ (a1.2.1,0,1000,())).bind fun v2=>cond (!v2.1) (some (false,())) (cond (decide ((a1.2.2.1.length:Int)>4)) (some (false,())) (bg 0 a1)))
def GH(bg:GF)(U:Int)(aa:aL.D):Option (Bool×Unit):=cond (decide (U<(aa.2.2.1.length:Int))) ((aM aa.2.2.1.length U).bind fun v1=>(c_ (I (ae.int .i64) aa.2.2.1 v1,0,1000,())).bind fun v2=>cond (!v2.1) (some (false,())) (bg (aH (U+1)) aa)) (some (true,()))
def vL:Nat→GF | 0,_,_=>none | m+1,U,aa=>GH (vL m) U aa
def A1(x:aL.D×Unit):Option (Bool×Unit):=GG (vL aN) x.1
abbrev GI:Type:=Int→Bool→Int→aL.D→Option (Bool×Unit)
def GJ(bx:GI)(a1:aL.D)(a2:Int):Option (Bool×Unit):=(A1 (a1,())).bind fun v1=>cond (!v1.1) (some (false,())) (bx a2 (a1.2.1==a2) 0 a1)
def GK(bx:GI)(U:Int)(aa:Bool)(ad:Int)(ag:aL.D):Option (Bool×Unit):=cond (decide (ad<(ag.2.2.1.length:Int))) (cond aa (bx U true (aH (ad+1)) ag) ((aM ag.2.2.1.length ad).bind fun v1=>bx U (I (ae.int .i64) ag.2.2.1 v1==U) (aH (ad+1)) ag)) (some (aa,()))
def vM:Nat→GI | 0,_,_,_,_=>none | m+1,U,aa,ad,ag=>GK (vM m) U aa ad ag
def vN(x:aL.D×Int×Unit):Option (Bool×Unit):=GJ (vM aN) x.1 x.2.1
def NA(a1:aL.D)(a2:J.D)(a3:Int):Option (Bool×Unit):=(A1 (a1,())).bind fun v1=>cond (!v1.1) (some (false,())) ((c_ (a3,0,7,())).bind fun v2=>cond (!v2.1) (some (false,())) (cond (a1.1==0) (cond (cY .and .i64 a3 1==0) (some (true,())) (cond (a2.2.1 != 1) (some (true,())) (some (cY .and .i64 a2.2.2.1 73 != 0,())))) ((vN (a1,a2.2.2.2.2.1,())).bind fun v3=>cond v3.1 (cond (a1.1==a2.2.2.2.1) (some (cY .and .i64 (cY .and .i64 (Int.fdiv a2.2.2.1 (2 ^ min (Int.toNat 6) 64)) 7) a3==a3,())) (some (cY .and .i64 (cY .and .i64 (Int.fdiv a2.2.2.1 (2 ^ min (Int.toNat 3) 64)) 7) a3==a3,()))) (cond (a1.1==a2.2.2.2.1) (some (cY .and .i64 (cY .and .i64 (Int.fdiv a2.2.2.1 (2 ^ min (Int.toNat 6) 64)) 7) a3==a3,())) (some (cY .and .i64 (cY .and .i64 a2.2.2.1 7) a3==a3,()))))))
def ks(x:aL.D×J.D×Int×Unit):Option (Bool×Unit):=NA x.1 x.2.1 x.2.2.1
structure vO where
 k2:Int→Int→af.D→Option (Int×Unit)
 bx:Int→Int→Int→af.D→Option (Int×Unit)
def GL(k:vO)(a1:af.D)(a2:Int):Option (Int×Unit):=k.k2 a2 0 a1
def vP(k:vO)(U:Int)(aa:Int)(ad:af.D):Option (Int×Unit):=cond (decide (aa<(ad.2.1.length:Int))) (k.bx U aa 0 ad) (some (1,()))
def vQ(k:vO)(U:Int)(aa:Int)(ad:Int)(ag:af.D):Option (Int×Unit):=(aM ag.2.1.length aa).bind fun v1=>cond (decide (ad<(((I J ag.2.1 v1).2.2.2.2.2.2.1).length:Int))) ((aM ag.2.1.length aa).bind fun v2=>(aM (((I J ag.2.1 v2).2.2.2.2.2.2.1).length) ad).bind fun v3=>cond ((I aB ((I J ag.2.1 v2).2.2.2.2.2.2.1) v3).2.1==U) ((aM ag.2.1.length aa).bind fun v4=>some ((I J ag.2.1 v4).1,())) (k.bx U aa (aH (ad+1)) ag)) (k.k2 U (aH (aa+1)) ag)
def VL(k:vO):vO:=⟨vP k,vQ k⟩
def kR:Nat→vO:=dJ VL ⟨fun _ _ _=>none,fun _ _ _ _=>none⟩
def GM(x:af.D×Int×Unit):Option (Int×Unit):=GL (kR aN) x.1 x.2.1
abbrev A2:Type:=(List (aj))×Unit
abbrev GN:Type:=(aj)→Int→Int→(List (aj))→Option (A2)
def GO(bg:GN)(a1:aj):Option (A2):=bg a1 0 0 ([]:List (aj))
def A3(bg:GN)(U:aj)(aa:Int)(ad:Int)(ag:List (aj)):Option (A2):=cond (decide (ad≤(U.length:Int))) (cond (ad ==(U.length:Int)) (cond (decide (ad>aa)) ((eh U.length aa ad).bind fun v1=>cond (room (ag.length+[part U v1.1 (v1.2-v1.1)].length)) (bg U (aH (ad+1)) (aH (ad+1)) (ag++[part U v1.1 (v1.2-v1.1)])) (none)) (bg U (aH (ad+1)) (aH (ad+1)) ag)) ((aM U.length ad).bind fun v2=>cond (((U.getD v2 0).toNat:Int)==47) (cond (decide (ad>aa)) ((eh U.length aa ad).bind fun v3=>cond (room (ag.length+[part U v3.1 (v3.2-v3.1)].length)) (bg U (aH (ad+1)) (aH (ad+1)) (ag++[part U v3.1 (v3.2-v3.1)])) (none)) (bg U (aH (ad+1)) (aH (ad+1)) ag)) (bg U aa (aH (ad+1)) ag))) (some (ag,()))
def rj:Nat→GN | 0,_,_,_,_=>none | m+1,U,aa,ad,ag=>A3 (rj m) U aa ad ag
def A4(x:(aj)×Unit):Option (A2):=GO (rj aN) x.1
abbrev GP:Type:=(aj)→(List aB.D)→Int→Option (Int×Unit)
def GQ(k3:GP)(a1:af.D)(a2:Int)(a3:aj):Option (Int×Unit):=(kQ (a1,a2,())).bind fun v1=>(aM a1.2.1.length v1.1).bind fun v2=>k3 a3 ((I J a1.2.1 v2).2.2.2.2.2.2.1) 0
def GR(k3:GP)(U:aj)(aa:List aB.D)(ad:Int):Option (Int×Unit):=cond (decide (ad<(aa.length:Int))) ((aM aa.length ad).bind fun v1=>cond (bD ((I aB aa v1).1) U) ((aM aa.length ad).bind fun v2=>some ((I aB aa v2).2.1,())) (k3 U aa (aH (ad+1)))) (some (0,()))
def sZ:Nat→GP | 0,_,_,_=>none | m+1,U,aa,ad=>GR (sZ m) U aa ad
def NB(x:af.D×Int×(aj)×Unit):Option (Int×Unit):=GQ (sZ aN) x.1 x.2.1 x.2.2.1
structure p7 where
 bg:Bool→Nat→Nat→Int→Int→af.D→aL.D→a6.D→(List (aj))→Option (a6.D×Unit)
 VM:Bool→Nat→Nat→Int→Int→(aj)→Bool→Int→af.D→aL.D→a6.D→(List (aj))→J.D→Option (a6.D×Unit)
 j_:Bool→Nat→Nat→Int→Int→af.D→aL.D→a6.D→(List (aj))→J.D→Option (a6.D×Unit)
 A5:Bool→Nat→Nat→Int→Int→(aj)→Bool→Int→af.D→aL.D→a6.D→(List (aj))→J.D→Option (a6.D×Unit)
 p8:Bool→Nat→Nat→Int→Int→af.D→aL.D→a6.D→(List (aj))→J.D→Option (a6.D×Unit)
def GS(k:p7)(a1:af.D)(a2:aL.D)(a3:aj)(a4:Bool):Option (a6.D×Unit):=(A4 (a3,())).bind fun v1=>k.bg a4 0 v1.1.length 1 0 a1 a2 (0,[],0,0,()) v1.1
def mh(k:p7)(U:Bool)(aa:Nat)(ad:Nat)(ag:Int)(al:Int)(aE:af.D)(a7:aL.D)(bE:a6.D)(cn:List (aj)):Option (a6.D×Unit):=cond (decide ((ad:Int)>0)) ((aM ad 0).bind fun v1=>(eh ad 1 (ad:Int)).bind fun v2=>(kQ (aE,ag,())).bind fun v3=>(aM aE.2.1.length v3.1).bind fun v4=>(ks (a7,I J aE.2.1 v4,1,())).bind fun v5=>cond (!v5.1) (some ((0,[],0,13,()),())) (cond (bD (I ae.str cn (aa+v1)) ([46]:aj)) (k.bg U (aa+v2.1) (v2.2-v2.1) ag al aE a7 bE cn) (cond (bD (I ae.str cn (aa+v1)) ([46,46]:aj)) ((GM (aE,ag,())).bind fun v6=>k.bg U (aa+v2.1) (v2.2-v2.1) v6.1 al aE a7 bE cn) (cond (decide (((I ae.str cn (aa+v1)).length:Int)>8)) (some ((0,[],0,36,()),())) ((NB (aE,ag,I ae.str cn (aa+v1),())).bind fun bn=>cond (bn.1==0) (cond ((((v2.2-v2.1):Nat):Int)==0) (some ((ag,I ae.str cn (aa+v1),0,2,()),())) (some ((0,[],0,2,()),()))) (dup ((kQ (aE,bn.1,())).bind fun cF=>(aM aE.2.1.length cF.1).bind fun v9=>k.VM U (aa+v2.1) (v2.2-v2.1) ag al (I ae.str cn (aa+v1)) ((((v2.2-v2.1):Nat):Int)==0) bn.1 aE a7 bE cn (I J aE.2.1 v9)))))))) (some ((0,[],ag,0,()),()))
def yg(k:p7)(U:Bool)(aa:Nat)(ad:Nat)(ag:Int)(al:Int)(aE:aj)(a7:Bool)(bE:Int)(cn:af.D)(fm:aL.D)(kS:a6.D)(kT:List (aj))(kt:J.D):Option (a6.D×Unit):=cond (kt.2.1==3) (cond (!a7) (k.j_ U aa ad ag al cn fm kS kT kt) (cond U (k.j_ U aa ad ag al cn fm kS kT kt) (k.A5 U aa ad ag al aE a7 bE cn fm kS kT kt))) (k.A5 U aa ad ag al aE a7 bE cn fm kS kT kt)
def GU(k:p7)(U:Bool)(aa:Nat)(ad:Nat)(ag:Int)(al:Int)(aE:af.D)(a7:aL.D)(bE:a6.D)(cn:List (aj))(fm:J.D):Option (a6.D×Unit):=cond (decide (aH (al+1)>8)) (some ((0,[],0,40,()),())) ((aM fm.2.2.2.2.2.1.length 0).bind fun v1=>cond (((fm.2.2.2.2.2.1.getD v1 0).toNat:Int)==47) (k.p8 U aa ad 1 (aH (al+1)) aE a7 bE cn fm) (k.p8 U aa ad ag (aH (al+1)) aE a7 bE cn fm))
def GV(k:p7)(U:Bool)(aa:Nat)(ad:Nat)(ag:Int)(al:Int)(aE:aj)(a7:Bool)(bE:Int)(cn:af.D)(fm:aL.D)(kS:a6.D)(kT:List (aj))(kt:J.D):Option (a6.D×Unit):=cond a7 (some ((ag,aE,bE,0,()),())) (cond (kt.2.1 != 2) (some ((0,[],0,20,()),())) (k.bg U aa ad bE al cn fm kS kT))
def GW(k:p7)(U:Bool)(aa:Nat)(ad:Nat)(ag:Int)(al:Int)(aE:af.D)(a7:aL.D)(bE:a6.D)(cn:List (aj))(fm:J.D):Option (a6.D×Unit):=(A4 (fm.2.2.2.2.2.1,())).bind fun v1=>cond (room (v1.1.length +(part cn aa ad).length)) (cond (decide (((v1.1++(part cn aa ad)).length:Int)>40)) (some ((0,[],0,36,()),())) (k.bg U 0 ((v1.1++(part cn aa ad)).length) ag al aE a7 bE (v1.1++(part cn aa ad)))) (none)
def VN(k:p7):p7:=⟨mh k,yg k,GU k,GV k,GW k⟩
def fx:Nat→p7:=dJ VN ⟨fun _ _ _ _ _ _ _ _ _=>none,fun _ _ _ _ _ _ _ _ _ _ _ _ _=>none,fun _ _ _ _ _ _ _ _ _ _=>none,fun _ _ _ _ _ _ _ _ _ _ _ _ _=>none,fun _ _ _ _ _ _ _ _ _ _=>none⟩
def GX(x:af.D×aL.D×(aj)×Bool×Unit):Option (a6.D×Unit):=GS (fx aN) x.1 x.2.1 x.2.2.1 x.2.2.2.1
def A6(a1:af.D)(a2:aL.D)(a3:aj):Option (a6.D×Int×Unit):=(GD (a3,())).bind fun v1=>cond (!v1.1) (some ((0,[],0,0,()),22,())) ((GX (a1,a2,a3,false,())).bind fun v2=>cond (v2.1.2.2.2.1==0) (some (v2.1,17,())) (cond (v2.1.2.2.2.1==2) (cond (!(bD v2.1.2.1 [])) (some (v2.1,0,())) (some (v2.1,v2.1.2.2.2.1,()))) (some (v2.1,v2.1.2.2.2.1,()))))
def vR(x:af.D×aL.D×(aj)×Unit):Option (a6.D×Int×Unit):=A6 x.1 x.2.1 x.2.2.1
def NC(a1:af.D)(a2:Int):Option (J.D×Unit):=(kQ (a1,a2,())).bind fun v1=>(aM a1.2.1.length v1.1).bind fun v2=>some (I J a1.2.1 v2,())
def fy(x:af.D×Int×Unit):Option (J.D×Unit):=NC x.1 x.2.1
def ND(a1:af.D):Option (Int×Unit):=(AO (a1,())).bind fun v1=>cond (decide (v1.1>400)) (some (28,())) ((Gd (a1,())).bind fun v2=>cond v2.1 (some (122,())) (some (0,())))
def NF(x:af.D×Unit):Option (Int×Unit):=ND x.1
abbrev VO:Type:=af.D×aF.D×Unit
def NG(a1:af.D)(a2:af.D):Option (VO):=(NF (a2,())).bind fun v1=>cond (v1.1 != 0) (some (a1,(v1.1,[],()),())) (some (a2,(0,[],()),()))
def rk(x:af.D×af.D×Unit):Option (VO):=NG x.1 x.2.1
def A7(a1:af.D)(a2:J.D):Option (af.D×Unit):=(kQ (a1,a2.1,())).bind fun v1=>cond (decide (v1.1<0)) (cond (room (a1.2.1.length+[a2].length)) (some ((a1.1,a1.2.1++[a2],()),())) (none)) ((aM a1.2.1.length v1.1).bind fun v2=>some ((a1.1,a1.2.1.set (0+v2) a2,()),()))
def oZ(x:af.D×J.D×Unit):Option (af.D×Unit):=A7 x.1 x.2.1
structure s4 where
 bx:(aj)→Int→Bool→Int→af.D→af.D→J.D→(List aB.D)→Option (af.D×Unit)
 dC:(aj)→Int→Bool→Int→af.D→af.D→J.D→(List aB.D)→Option (af.D×Unit)
 m0:af.D→af.D→J.D→(List aB.D)→Option (af.D×Unit)
def GY(k:s4)(a1:af.D)(a2:Int)(a3:aj)(a4:Int):Option (af.D×Unit):=(fy (a1,a2,())).bind fun v1=>k.bx a3 a4 false 0 a1 (0,[],()) v1.1 ([]:List aB.D)
def o0(k:s4)(U:aj)(aa:Int)(ad:Bool)(ag:Int)(al:af.D)(aE:af.D)(a7:J.D)(bE:List aB.D):Option (af.D×Unit):=cond (decide (ag<(a7.2.2.2.2.2.2.1.length:Int))) (cond (!ad) ((aM a7.2.2.2.2.2.2.1.length ag).bind fun v1=>cond (dG U ((I aB a7.2.2.2.2.2.2.1 v1).1)) (cond (room (bE.length+[(U,aa,())].length)) (k.dC U aa true ag al aE a7 (bE++[(U,aa,())])) (none)) (k.dC U aa ad ag al aE a7 bE)) (k.dC U aa ad ag al aE a7 bE)) (cond (!ad) (cond (room (bE.length+[(U,aa,())].length)) (k.m0 al aE a7 (bE++[(U,aa,())])) (none)) (k.m0 al aE a7 bE))
def vS(k:s4)(U:aj)(aa:Int)(ad:Bool)(ag:Int)(al:af.D)(aE:af.D)(a7:J.D)(bE:List aB.D):Option (af.D×Unit):=(aM a7.2.2.2.2.2.2.1.length ag).bind fun v1=>cond (room (bE.length+[I aB a7.2.2.2.2.2.2.1 v1].length)) (k.bx U aa ad (aH (ag+1)) al aE a7 (bE++[I aB a7.2.2.2.2.2.2.1 v1])) (none)
def NH(k:s4)(U:af.D)(aa:af.D)(ad:J.D)(ag:List aB.D):Option (af.D×Unit):=(oZ (U,(ad.1,ad.2.1,ad.2.2.1,ad.2.2.2.1,ad.2.2.2.2.1,ad.2.2.2.2.2.1,ag,ad.2.2.2.2.2.2.2.1,ad.2.2.2.2.2.2.2.2.1,()),())).bind fun v1=>some (v1.1,())
def VP(k:s4):s4:=⟨o0 k,vS k,NH k⟩
def iQ:Nat→s4:=dJ VP ⟨fun _ _ _ _ _ _ _ _=>none,fun _ _ _ _ _ _ _ _=>none,fun _ _ _ _=>none⟩
def s5(x:af.D×Int×(aj)×Int×Unit):Option (af.D×Unit):=GY (iQ aN) x.1 x.2.1 x.2.2.1 x.2.2.2.1
abbrev o1:Type:=af.D×aF.D×Unit
structure rl where
 k3:af.D→aL.D→aG.D→af.D→aF.D→Option (o1)
 A8:af.D→aG.D→af.D→aF.D→a6.D→J.D→J.D→Option (o1)
 gZ:af.D→af.D→aF.D→a6.D→J.D→J.D→Option (o1)
 j_:af.D→af.D→aF.D→a6.D→J.D→Option (o1)
def GZ(k:rl)(a1:af.D)(a2:aL.D)(a3:aG.D):Option (o1):=cond (a3.1==10) ((AH (a3.2.2.1,())).bind fun v1=>cond (!v1.1) (some (a1,(22,[],()),())) (cond (a3.1 != 10) ((c_ (a3.2.2.2.1,0,2047,())).bind fun v2=>cond (!v2.1) (some (a1,(22,[],()),())) (k.k3 a1 a2 a3 (0,[],()) (0,[],()))) (k.k3 a1 a2 a3 (0,[],()) (0,[],())))) (cond (a3.1 != 10) ((c_ (a3.2.2.2.1,0,2047,())).bind fun v3=>cond (!v3.1) (some (a1,(22,[],()),())) (k.k3 a1 a2 a3 (0,[],()) (0,[],()))) (k.k3 a1 a2 a3 (0,[],()) (0,[],())))
def NI(k:rl)(U:af.D)(aa:aL.D)(ad:aG.D)(ag:af.D)(al:aF.D):Option (o1):=(vR (U,aa,ad.2.1,())).bind fun v1=>cond (v1.2.1 != 0) (some (U,(v1.2.1,[],()),())) ((fy (U,v1.1.1,())).bind fun v2=>(ks (aa,v2.1,3,())).bind fun v3=>cond (!v3.1) (some (U,(13,[],()),())) (cond (decide ((v2.1.2.2.2.2.2.2.1.length:Int)≥12)) (some (U,(28,[],()),())) (cond (decide ((U.2.1.length:Int)≥24)) (some (U,(28,[],()),())) (cond (decide (U.1≥100000)) (some (U,(28,[],()),())) (cond (ad.1==1) (k.A8 U ad ag al v1.1 v2.1 (U.1,2,ad.2.2.2.1,aa.1,aa.2.1,[],[],0,0,())) (k.A8 U ad ag al v1.1 v2.1 (U.1,1,ad.2.2.2.1,aa.1,aa.2.1,[],[],0,0,())))))))
def afX(k:rl)(U:af.D)(aa:aG.D)(ad:af.D)(ag:aF.D)(al:a6.D)(aE:J.D)(a7:J.D):Option (o1):=cond (aa.1==10) (k.gZ U ad ag al aE (a7.1,3,511,a7.2.2.2.1,a7.2.2.2.2.1,aa.2.2.1,a7.2.2.2.2.2.2.1,a7.2.2.2.2.2.2.2.1,a7.2.2.2.2.2.2.2.2.1,())) (k.gZ U ad ag al aE a7)
def afY(k:rl)(U:af.D)(aa:af.D)(ad:aF.D)(ag:a6.D)(al:J.D)(aE:J.D):Option (o1):=cond (cY .and .i64 al.2.2.1 1024 != 0) (cond (aE.2.1==2) (k.j_ U aa ad ag (aE.1,aE.2.1,cY .or .i64 aE.2.2.1 1024,aE.2.2.2.1,al.2.2.2.2.1,aE.2.2.2.2.2.1,aE.2.2.2.2.2.2.1,aE.2.2.2.2.2.2.2.1,aE.2.2.2.2.2.2.2.2.1,())) (k.j_ U aa ad ag (aE.1,aE.2.1,aE.2.2.1,aE.2.2.2.1,al.2.2.2.2.1,aE.2.2.2.2.2.1,aE.2.2.2.2.2.2.1,aE.2.2.2.2.2.2.2.1,aE.2.2.2.2.2.2.2.2.1,()))) (k.j_ U aa ad ag aE)
def NJ(k:rl)(U:af.D)(aa:af.D)(ad:aF.D)(ag:a6.D)(al:J.D):Option (o1):=(oY (U,())).bind fun v1=>(oZ ((aH (v1.1.1+1),v1.1.2.1,()),al,())).bind fun v2=>(s5 (v2.1,ag.1,ag.2.1,al.1,())).bind fun v3=>(rk (U,v3.1,())).bind fun v4=>some (v4.1,v4.2.1,())
def VQ(k:rl):rl:=⟨NI k,afX k,afY k,NJ k⟩
def j':Nat→rl:=dJ VQ ⟨fun _ _ _ _ _=>none,fun _ _ _ _ _ _ _=>none,fun _ _ _ _ _ _=>none,fun _ _ _ _ _=>none⟩
def vT(x:af.D×aL.D×aG.D×Unit):Option (o1):=GZ (j' aN) x.1 x.2.1 x.2.2.1
def vU(a1:af.D)(a2:aL.D)(a3:aj)(a4:Bool):Option (a6.D×Unit):=(GD (a3,())).bind fun v1=>cond (!v1.1) (some ((0,[],0,22,()),())) ((GX (a1,a2,a3,a4,())).bind fun v2=>some (v2.1,()))
def fg(x:af.D×aL.D×(aj)×Bool×Unit):Option (a6.D×Unit):=vU x.1 x.2.1 x.2.2.1 x.2.2.2.1
def NK(a1:aL.D)(a2:J.D)(a3:J.D):Option (Bool×Unit):=(A1 (a1,())).bind fun v1=>cond (!v1.1) (some (false,())) (cond (cY .and .i64 a2.2.2.1 512==0) (some (true,())) (cond (a1.1==0) (some (true,())) (cond (a1.1==a2.2.2.2.1) (some (true,())) (some (a1.1==a3.2.2.2.1,())))))
def yh(x:aL.D×J.D×J.D×Unit):Option (Bool×Unit):=NK x.1 x.2.1 x.2.2.1
structure vV where
 bx:(aj)→Int→Int→af.D→af.D→J.D→(List aB.D)→Option (af.D×Unit)
 mY:Int→Int→af.D→af.D→(List J.D)→Option (af.D×Unit)
def G0(k:vV)(a1:af.D)(a2:Int)(a3:aj):Option (af.D×Unit):=(fy (a1,a2,())).bind fun v1=>k.bx a3 0 0 a1 (0,[],()) v1.1 ([]:List aB.D)
def A9(k:vV)(U:aj)(aa:Int)(ad:Int)(ag:af.D)(al:af.D)(aE:J.D)(a7:List aB.D):Option (af.D×Unit):=cond (decide (ad<(aE.2.2.2.2.2.2.1.length:Int))) ((aM aE.2.2.2.2.2.2.1.length ad).bind fun v1=>cond (bD ((I aB aE.2.2.2.2.2.2.1 v1).1) U) ((aM aE.2.2.2.2.2.2.1.length ad).bind fun v2=>k.bx U ((I aB aE.2.2.2.2.2.2.1 v2).2.1) (aH (ad+1)) ag al aE a7) ((aM aE.2.2.2.2.2.2.1.length ad).bind fun v3=>cond (room (a7.length+[I aB aE.2.2.2.2.2.2.1 v3].length)) (k.bx U aa (aH (ad+1)) ag al aE (a7++[I aB aE.2.2.2.2.2.2.1 v3])) (none))) ((oZ (ag,(aE.1,aE.2.1,aE.2.2.1,aE.2.2.2.1,aE.2.2.2.2.1,aE.2.2.2.2.2.1,a7,aE.2.2.2.2.2.2.2.1,aE.2.2.2.2.2.2.2.2.1,()),())).bind fun v4=>(AN (v4.1,aa,())).bind fun v5=>cond (decide (v5.1>0)) (some (v4.1,())) (k.mY aa 0 v4.1 al []))
def A_(k:vV)(U:Int)(aa:Int)(ad:af.D)(ag:af.D)(al:List J.D):Option (af.D×Unit):=cond (decide (aa<(ad.2.1.length:Int))) ((aM ad.2.1.length aa).bind fun v1=>cond ((I J ad.2.1 (0+v1)).1 != U) ((aM ad.2.1.length aa).bind fun v2=>cond (room (al.length+[I J ad.2.1 (0+v2)].length)) (k.mY U (aH (aa+1)) ad ag (al++[I J ad.2.1 (0+v2)])) (none)) (k.mY U (aH (aa+1)) ad ag al)) (some ((ad.1,al,()),()))
def VR(k:vV):vV:=⟨A9 k,A_ k⟩
def lA:Nat→vV:=dJ VR ⟨fun _ _ _ _ _ _ _=>none,fun _ _ _ _ _=>none⟩
def o2(x:af.D×Int×(aj)×Unit):Option (af.D×Unit):=G0 (lA aN) x.1 x.2.1 x.2.2.1
abbrev rm:Type:=af.D×aF.D×Unit
structure s6 where
 dq:af.D→aL.D→aG.D→af.D→aF.D→a6.D→J.D→Option (rm)
 eY:af.D→aL.D→aG.D→af.D→aF.D→a6.D→J.D→Option (rm)
 cL:af.D→aL.D→af.D→aF.D→a6.D→J.D→Option (rm)
def G4(k:s6)(a1:af.D)(a2:aL.D)(a3:aG.D):Option (rm):=(fg (a1,a2,a3.2.1,false,())).bind fun v1=>cond (v1.1.2.2.2.1 != 0) (some (a1,(v1.1.2.2.2.1,[],()),())) ((fy (a1,v1.1.2.2.1,())).bind fun v2=>cond (a3.1==2) (cond (bD v1.1.2.1 []) (some (a1,(16,[],()),())) (k.dq a1 a2 a3 (0,[],()) (0,[],()) v1.1 v2.1)) (k.dq a1 a2 a3 (0,[],()) (0,[],()) v1.1 v2.1))
def NL(k:s6)(U:af.D)(aa:aL.D)(ad:aG.D)(ag:af.D)(al:aF.D)(aE:a6.D)(a7:J.D):Option (rm):=cond (ad.1==2) (cond (a7.2.1 != 2) (some (U,(20,[],()),())) (k.eY U aa ad ag al aE a7)) (k.eY U aa ad ag al aE a7)
def NM(k:s6)(U:af.D)(aa:aL.D)(ad:aG.D)(ag:af.D)(al:aF.D)(aE:a6.D)(a7:J.D):Option (rm):=cond (ad.1==8) (cond (a7.2.1==2) (some (U,(21,[],()),())) (k.cL U aa ag al aE a7)) (k.cL U aa ag al aE a7)
def NN(k:s6)(U:af.D)(aa:aL.D)(ad:af.D)(ag:aF.D)(al:a6.D)(aE:J.D):Option (rm):=(fy (U,al.1,())).bind fun v1=>(ks (aa,v1.1,3,())).bind fun v2=>cond (!v2.1) (some (U,(13,[],()),())) ((yh (aa,v1.1,aE,())).bind fun v3=>cond (!v3.1) (some (U,(1,[],()),())) (cond (decide ((aE.2.2.2.2.2.2.1.length:Int)>0)) (some (U,(39,[],()),())) ((oY (U,())).bind fun v4=>(o2 (v4.1,al.1,al.2.1,())).bind fun v5=>some (v5.1,(0,[],()),()))))
def VS(k:s6):s6:=⟨NL k,NM k,NN k⟩
def rn:Nat→s6:=dJ VS ⟨fun _ _ _ _ _ _ _=>none,fun _ _ _ _ _ _ _=>none,fun _ _ _ _ _ _=>none⟩
def A'(x:af.D×aL.D×aG.D×Unit):Option (rm):=G4 (rn aN) x.1 x.2.1 x.2.2.1
def NO(a1:af.D)(a2:Int):Option (Bool×Unit):=(kQ (a1,a2,())).bind fun v1=>cond (decide (v1.1≥0)) ((aM a1.2.1.length v1.1).bind fun v2=>some ((I J a1.2.1 v2).2.1==2,())) (some (false,()))
def yi(x:af.D×Int×Unit):Option (Bool×Unit):=NO x.1 x.2.1
abbrev VT:Type:=af.D×aF.D×Unit
def NP(a1:af.D)(a2:aL.D)(a3:aG.D):Option (VT):=(fg (a1,a2,a3.2.1,false,())).bind fun v1=>cond (v1.1.2.2.2.1 != 0) (some (a1,(v1.1.2.2.2.1,[],()),())) ((yi (a1,v1.1.2.2.1,())).bind fun v2=>cond v2.1 (some (a1,(1,[],()),())) ((vR (a1,a2,a3.2.2.1,())).bind fun v3=>cond (v3.2.1 != 0) (some (a1,(v3.2.1,[],()),())) ((fy (a1,v3.1.1,())).bind fun v4=>(ks (a2,v4.1,3,())).bind fun v5=>cond (!v5.1) (some (a1,(13,[],()),())) (cond (decide ((v4.1.2.2.2.2.2.2.1.length:Int)≥12)) (some (a1,(28,[],()),())) ((oY (a1,())).bind fun v6=>(s5 (v6.1,v3.1.1,v3.1.2.1,v1.1.2.2.1,())).bind fun bn=>(rk (a1,bn.1,())).bind fun cF=>some (cF.1,cF.2.1,()))))))
def G5(x:af.D×aL.D×aG.D×Unit):Option (VT):=NP x.1 x.2.1 x.2.2.1
abbrev G6:Type:=Int→Int→Int→af.D→Option (Bool×Unit)
def G7(k2:G6)(a1:af.D)(a2:Int)(a3:Int):Option (Bool×Unit):=k2 a2 a3 0 a1
def G8(k2:G6)(U:Int)(aa:Int)(ad:Int)(ag:af.D):Option (Bool×Unit):=cond (decide (ad≤(ag.2.1.length:Int))) (cond (U==aa) (some (true,())) (cond (U==1) (some (false,())) ((GM (ag,U,())).bind fun v1=>k2 v1.1 aa (aH (ad+1)) ag))) (some (false,()))
def vW:Nat→G6 | 0,_,_,_,_=>none | m+1,U,aa,ad,ag=>G8 (vW m) U aa ad ag
def Ba(x:af.D×Int×Int×Unit):Option (Bool×Unit):=G7 (vW aN) x.1 x.2.1 x.2.2.1
abbrev m2:Type:=af.D×aF.D×Unit
structure p9 where
 dq:af.D→aL.D→af.D→aF.D→a6.D→a6.D→Option (m2)
 gZ:af.D→aL.D→af.D→aF.D→a6.D→a6.D→J.D→J.D→Option (m2)
 p8:af.D→af.D→aF.D→a6.D→a6.D→J.D→af.D→J.D→Option (m2)
 m3:af.D→af.D→aF.D→a6.D→a6.D→af.D→Option (m2)
 NQ:af.D→af.D→aF.D→a6.D→a6.D→J.D→af.D→J.D→Option (m2)
def G9(k:p9)(a1:af.D)(a2:aL.D)(a3:aG.D):Option (m2):=(fg (a1,a2,a3.2.1,false,())).bind fun v1=>cond (v1.1.2.2.2.1 != 0) (some (a1,(v1.1.2.2.2.1,[],()),())) ((fg (a1,a2,a3.2.2.1,false,())).bind fun v2=>cond (v2.1.2.2.2.1 != 0) (cond (v2.1.2.2.2.1 != 2) (some (a1,(v2.1.2.2.2.1,[],()),())) (cond (bD v2.1.2.1 []) (some (a1,(v2.1.2.2.2.1,[],()),())) (k.dq a1 a2 (0,[],()) (0,[],()) v1.1 v2.1))) (k.dq a1 a2 (0,[],()) (0,[],()) v1.1 v2.1))
def NR(k:p9)(U:af.D)(aa:aL.D)(ad:af.D)(ag:aF.D)(al:a6.D)(aE:a6.D):Option (m2):=cond (bD al.2.1 []) (some (U,(16,[],()),())) (cond (bD aE.2.1 []) (some (U,(16,[],()),())) ((fy (U,al.1,())).bind fun v1=>(fy (U,aE.1,())).bind fun v2=>(fy (U,al.2.2.1,())).bind fun v3=>(ks (aa,v1.1,3,())).bind fun v4=>cond (!v4.1) (some (U,(13,[],()),())) ((ks (aa,v2.1,3,())).bind fun v5=>cond (!v5.1) (some (U,(13,[],()),())) ((yh (aa,v1.1,v3.1,())).bind fun v6=>cond (!v6.1) (some (U,(1,[],()),())) (cond (v3.1.2.1==2) ((Ba (U,aE.1,al.2.2.1,())).bind fun bn=>cond bn.1 (some (U,(22,[],()),())) (k.gZ U aa ad ag al aE v2.1 v3.1)) (k.gZ U aa ad ag al aE v2.1 v3.1))))))
def NS(k:p9)(U:af.D)(aa:aL.D)(ad:af.D)(ag:aF.D)(al:a6.D)(aE:a6.D)(a7:J.D)(bE:J.D):Option (m2):=(oY (U,())).bind fun v1=>cond (decide (aE.2.2.1>0)) (cond (aE.2.2.1==al.2.2.1) (some (U,(0,[],()),())) ((fy (U,aE.2.2.1,())).bind fun v2=>(yh (aa,a7,v2.1,())).bind fun v3=>cond (!v3.1) (some (U,(1,[],()),())) (cond (bE.2.1==2) (cond (v2.1.2.1 != 2) (some (U,(20,[],()),())) (k.p8 U ad ag al aE bE v1.1 v2.1)) (k.p8 U ad ag al aE bE v1.1 v2.1)))) (cond (al.1 != aE.1) (cond (decide ((a7.2.2.2.2.2.2.1.length:Int)≥12)) (some (U,(28,[],()),())) (k.m3 U ad ag al aE v1.1)) (k.m3 U ad ag al aE v1.1))
def NT(k:p9)(U:af.D)(aa:af.D)(ad:aF.D)(ag:a6.D)(al:a6.D)(aE:J.D)(a7:af.D)(bE:J.D):Option (m2):=cond (aE.2.1==2) (cond (decide ((bE.2.2.2.2.2.2.1.length:Int)>0)) (some (U,(39,[],()),())) (k.NQ U aa ad ag al aE a7 bE)) (k.NQ U aa ad ag al aE a7 bE)
def NU(k:p9)(U:af.D)(aa:af.D)(ad:aF.D)(ag:a6.D)(al:a6.D)(aE:af.D):Option (m2):=(s5 (aE,al.1,al.2.1,ag.2.2.1,())).bind fun v1=>(o2 (v1.1,ag.1,ag.2.1,())).bind fun v2=>(rk (U,v2.1,())).bind fun v3=>some (v3.1,v3.2.1,())
def NV(k:p9)(U:af.D)(aa:af.D)(ad:aF.D)(ag:a6.D)(al:a6.D)(aE:J.D)(a7:af.D)(bE:J.D):Option (m2):=cond (aE.2.1 != 2) (cond (bE.2.1==2) (some (U,(21,[],()),())) ((o2 (a7,al.1,al.2.1,())).bind fun v1=>k.m3 U aa ad ag al v1.1)) ((o2 (a7,al.1,al.2.1,())).bind fun v2=>k.m3 U aa ad ag al v2.1)
def VU(k:p9):p9:=⟨NR k,NS k,NT k,NU k,NV k⟩
def gJ:Nat→p9:=dJ VU ⟨fun _ _ _ _ _ _=>none,fun _ _ _ _ _ _ _ _=>none,fun _ _ _ _ _ _ _ _=>none,fun _ _ _ _ _ _=>none,fun _ _ _ _ _ _ _ _=>none⟩
def G_(x:af.D×aL.D×aG.D×Unit):Option (m2):=G9 (gJ aN) x.1 x.2.1 x.2.2.1
structure s7 where
 k2:Int→(aj)→(List Int)→Option ((aj)×Unit)
 bx:Int→(aj)→Int→(List Int)→Option ((aj)×Unit)
def G'(k:s7)(a1:aj)(a2:Int)(a3:aj):Option ((aj)×Unit):=k.k2 a2 a3 (eI a1)
def Bb(k:s7)(U:Int)(aa:aj)(ad:List Int):Option ((aj)×Unit):=cond (decide ((ad.length:Int)<aH (U +(aa.length:Int)))) (cond (room (ad.length+[0].length)) (k.k2 U aa (ad++[0])) (none)) (k.bx U aa 0 ad)
def VV(k:s7)(U:Int)(aa:aj)(ad:Int)(v3:List Int):Option ((aj)×Unit):=k.bx U aa (aH (ad+1)) v3
def Bc(k:s7)(U:Int)(aa:aj)(ad:Int)(ag:List Int):Option ((aj)×Unit):=cond (decide (ad<(aa.length:Int))) ((aM aa.length ad).bind fun v1=>(aM ag.length (aH (U+ad))).bind fun v2=>VV k U aa ad (ag.set (0+v2) ((aa.getD v1 0).toNat:Int))) (some (gP ag,()))
def VW(k:s7):s7:=⟨Bb k,Bc k⟩
def nY:Nat→s7:=dJ VW ⟨fun _ _ _=>none,fun _ _ _ _=>none⟩
def s8(x:(aj)×Int×(aj)×Unit):Option ((aj)×Unit):=G' (nY aN) x.1 x.2.1 x.2.2.1
abbrev vX:Type:=af.D×aF.D×Unit
structure vY where
 fl:Int→af.D→aG.D→af.D→aF.D→J.D→Option (vX)
 h5:af.D→af.D→aF.D→J.D→Option (vX)
def Ha(k:vY)(a1:af.D)(a2:aL.D)(a3:aG.D):Option (vX):=(fg (a1,a2,a3.2.1,true,())).bind fun v1=>cond (v1.1.2.2.2.1 != 0) (some (a1,(v1.1.2.2.2.1,[],()),())) ((fy (a1,v1.1.2.2.1,())).bind fun v2=>cond (v2.1.2.1==2) (some (a1,(21,[],()),())) ((ks (a2,v2.1,2,())).bind fun v3=>cond (!v3.1) (some (a1,(13,[],()),())) (cond (a3.1==6) (k.fl (v2.1.2.2.2.2.2.1.length:Int) a1 a3 (0,[],()) (0,[],()) v2.1) (k.fl a3.2.2.2.1 a1 a3 (0,[],()) (0,[],()) v2.1))))
def NW(k:vY)(U:Int)(aa:af.D)(ad:aG.D)(ag:af.D)(al:aF.D)(aE:J.D):Option (vX):=cond (decide (U<0)) (some (aa,(22,[],()),())) (cond (ad.1==7) (cond (decide (U>64)) (some (aa,(27,[],()),())) ((s8 (aE.2.2.2.2.2.1,U,[],())).bind fun v1=>(eh v1.1.length 0 U).bind fun v2=>k.h5 aa ag al (aE.1,aE.2.1,aE.2.2.1,aE.2.2.2.1,aE.2.2.2.2.1,part v1.1 v2.1 (v2.2-v2.1),aE.2.2.2.2.2.2.1,aE.2.2.2.2.2.2.2.1,aE.2.2.2.2.2.2.2.2.1,()))) (cond (bD ad.2.2.2.2.2.1 []) (some (aa,(0,[],()),())) (cond (decide (U>aH (64-(ad.2.2.2.2.2.1.length:Int)))) (some (aa,(27,[],()),())) ((s8 (aE.2.2.2.2.2.1,U,ad.2.2.2.2.2.1,())).bind fun v3=>k.h5 aa ag al (aE.1,aE.2.1,aE.2.2.1,aE.2.2.2.1,aE.2.2.2.2.1,v3.1,aE.2.2.2.2.2.2.1,aE.2.2.2.2.2.2.2.1,aE.2.2.2.2.2.2.2.2.1,())))))
def NX(k:vY)(U:af.D)(aa:af.D)(ad:aF.D)(ag:J.D):Option (vX):=(oY (U,())).bind fun v1=>(oZ (v1.1,ag,())).bind fun v2=>(rk (U,v2.1,())).bind fun v3=>some (v3.1,v3.2.1,())
def VX(k:vY):vY:=⟨NW k,NX k⟩
def ku:Nat→vY:=dJ VX ⟨fun _ _ _ _ _ _=>none,fun _ _ _ _=>none⟩
def yj(x:af.D×aL.D×aG.D×Unit):Option (vX):=Ha (ku aN) x.1 x.2.1 x.2.2.1
abbrev o3:Type:=af.D×aF.D×Unit
structure rp where
 df:Bool→af.D→aL.D→aG.D→af.D→aF.D→Option (o3)
 fl:af.D→aL.D→aG.D→af.D→aF.D→Option (o3)
 p3:af.D→aL.D→aG.D→af.D→aF.D→J.D→Option (o3)
 gi:af.D→af.D→aF.D→J.D→Option (o3)
def s9(k:rp)(a1:af.D)(a2:aL.D)(a3:aG.D):Option (o3):=cond (a3.1==15) ((c_ (a3.2.2.2.1,0,2047,())).bind fun v1=>k.df (!v1.1) a1 a2 a3 (0,[],()) (0,[],())) (cond (a3.1==16) ((c_ (a3.2.2.2.1,0,1000,())).bind fun v2=>cond (!v2.1) (k.df true a1 a2 a3 (0,[],()) (0,[],())) ((c_ (a3.2.2.2.2.1,0,1000,())).bind fun v3=>k.df (!v3.1) a1 a2 a3 (0,[],()) (0,[],()))) ((c_ (a3.2.2.2.1,0,400,())).bind fun v4=>cond (!v4.1) (k.df true a1 a2 a3 (0,[],()) (0,[],())) ((c_ (a3.2.2.2.2.1,0,24,())).bind fun v5=>k.df (!v5.1) a1 a2 a3 (0,[],()) (0,[],()))))
def Bd(k:rp)(U:Bool)(aa:af.D)(ad:aL.D)(ag:aG.D)(al:af.D)(aE:aF.D):Option (o3):=cond U (some (aa,(22,[],()),())) (cond (ag.1==19) (cond (ad.1 != 0) (some (aa,(1,[],()),())) (k.fl aa ad ag al aE)) (k.fl aa ad ag al aE))
def Be(k:rp)(U:af.D)(aa:aL.D)(ad:aG.D)(ag:af.D)(al:aF.D):Option (o3):=(fg (U,aa,ad.2.1,true,())).bind fun v1=>cond (v1.1.2.2.2.1 != 0) (some (U,(v1.1.2.2.2.1,[],()),())) ((fy (U,v1.1.2.2.1,())).bind fun v2=>cond (ad.1==15) (cond (aa.1 != 0) (cond (aa.1 != v2.1.2.2.2.1) (some (U,(1,[],()),())) (k.p3 U aa ad ag al v2.1)) (k.p3 U aa ad ag al v2.1)) (cond (ad.1==16) (cond (aa.1 != 0) (cond (aa.1 != v2.1.2.2.2.1) (some (U,(1,[],()),())) (cond (ad.2.2.2.1 != v2.1.2.2.2.1) (some (U,(1,[],()),())) ((vN (aa,ad.2.2.2.2.1,())).bind fun v3=>cond (!v3.1) (some (U,(1,[],()),())) (k.gi U ag al (v2.1.1,v2.1.2.1,v2.1.2.2.1,ad.2.2.2.1,ad.2.2.2.2.1,v2.1.2.2.2.2.2.1,v2.1.2.2.2.2.2.2.1,v2.1.2.2.2.2.2.2.2.1,v2.1.2.2.2.2.2.2.2.2.1,()))))) (k.gi U ag al (v2.1.1,v2.1.2.1,v2.1.2.2.1,ad.2.2.2.1,ad.2.2.2.2.1,v2.1.2.2.2.2.2.1,v2.1.2.2.2.2.2.2.1,v2.1.2.2.2.2.2.2.2.1,v2.1.2.2.2.2.2.2.2.2.1,()))) (cond (v2.1.2.1 != 2) (some (U,(20,[],()),())) (k.gi U ag al (v2.1.1,v2.1.2.1,v2.1.2.2.1,v2.1.2.2.2.1,v2.1.2.2.2.2.1,v2.1.2.2.2.2.2.1,v2.1.2.2.2.2.2.2.1,ad.2.2.2.1,ad.2.2.2.2.1,())))))
def NY(k:rp)(U:af.D)(aa:aL.D)(ad:aG.D)(ag:af.D)(al:aF.D)(aE:J.D):Option (o3):=cond (aa.1 != 0) ((vN (aa,aE.2.2.2.2.1,())).bind fun v1=>cond (!v1.1) (k.gi U ag al (aE.1,aE.2.1,cY .andNot .i64 ad.2.2.2.1 1024,aE.2.2.2.1,aE.2.2.2.2.1,aE.2.2.2.2.2.1,aE.2.2.2.2.2.2.1,aE.2.2.2.2.2.2.2.1,aE.2.2.2.2.2.2.2.2.1,())) (k.gi U ag al (aE.1,aE.2.1,ad.2.2.2.1,aE.2.2.2.1,aE.2.2.2.2.1,aE.2.2.2.2.2.1,aE.2.2.2.2.2.2.1,aE.2.2.2.2.2.2.2.1,aE.2.2.2.2.2.2.2.2.1,()))) (k.gi U ag al (aE.1,aE.2.1,ad.2.2.2.1,aE.2.2.2.1,aE.2.2.2.2.1,aE.2.2.2.2.2.1,aE.2.2.2.2.2.2.1,aE.2.2.2.2.2.2.2.1,aE.2.2.2.2.2.2.2.2.1,()))
def NZ(k:rp)(U:af.D)(aa:af.D)(ad:aF.D)(ag:J.D):Option (o3):=(oY (U,())).bind fun v1=>(oZ (v1.1,ag,())).bind fun v2=>(rk (U,v2.1,())).bind fun v3=>some (v3.1,v3.2.1,())
def VY(k:rp):rp:=⟨Bd k,Be k,NY k,NZ k⟩
def h6:Nat→rp:=dJ VY ⟨fun _ _ _ _ _ _=>none,fun _ _ _ _ _=>none,fun _ _ _ _ _ _=>none,fun _ _ _ _=>none⟩
def s_(x:af.D×aL.D×aG.D×Unit):Option (o3):=s9 (h6 aN) x.1 x.2.1 x.2.2.1
abbrev Hb:Type:=Int→Int→Int→af.D→Option (Int×Unit)
def Hc(df:Hb)(a1:af.D)(a2:Int):Option (Int×Unit):=(kQ (a1,a2,())).bind fun v1=>cond (decide (v1.1<0)) (some (0,())) ((aM a1.2.1.length v1.1).bind fun v2=>cond ((I J a1.2.1 v2).2.1 != 2) ((AN (a1,a2,())).bind fun v3=>some (v3.1,())) (df v1.1 2 0 a1))
def Hd(df:Hb)(U:Int)(aa:Int)(ad:Int)(ag:af.D):Option (Int×Unit):=(aM ag.2.1.length U).bind fun v1=>cond (decide (ad<(((I J ag.2.1 v1).2.2.2.2.2.2.1).length:Int))) ((aM ag.2.1.length U).bind fun v2=>(aM (((I J ag.2.1 v2).2.2.2.2.2.2.1).length) ad).bind fun v3=>(yi (ag,(I aB ((I J ag.2.1 v2).2.2.2.2.2.2.1) v3).2.1,())).bind fun v4=>cond v4.1 (df U (aH (aa+1)) (aH (ad+1)) ag) (df U aa (aH (ad+1)) ag)) (some (aa,()))
def vZ:Nat→Hb | 0,_,_,_,_=>none | m+1,U,aa,ad,ag=>Hd (vZ m) U aa ad ag
def He(x:af.D×Int×Unit):Option (Int×Unit):=Hc (vZ aN) x.1 x.2.1
structure nZ where
 bx:af.D→aL.D→aG.D→aF.D→Option (aF.D×Unit)
 du:af.D→aL.D→aG.D→aF.D→a6.D→Option (aF.D×Unit)
 o4:Int→aG.D→aF.D→J.D→(List Int)→Option (aF.D×Unit)
 s':(aj)→Int→aF.D→J.D→Option (aF.D×Unit)
 Hf:(aj)→Int→aF.D→J.D→Option (aF.D×Unit)
def rq(k:nZ)(a1:af.D)(a2:aL.D)(a3:aG.D):Option (aF.D×Unit):=cond (a3.1==18) ((e' ((a1.2.1.length:Int),())).bind fun v1=>cond (room (v1.1.length +([32]:aj).length)) ((AO (a1,())).bind fun v2=>(e' (v2.1,())).bind fun v3=>cond (room ((v1.1++([32]:aj)).length+v3.1.length)) (some ((0,(v1.1++([32]:aj))++v3.1,()),())) (none)) (none)) (cond (a3.1==14) (cond (a3.2.2.2.1 != 0) (cond (a3.2.2.2.1 != 1) (some ((22,[],()),())) (cond (a3.1==17) ((c_ (a3.2.2.2.1,0,7,())).bind fun v4=>cond (!v4.1) (some ((22,[],()),())) (k.bx a1 a2 a3 (0,[],()))) (k.bx a1 a2 a3 (0,[],())))) (cond (a3.1==17) ((c_ (a3.2.2.2.1,0,7,())).bind fun v5=>cond (!v5.1) (some ((22,[],()),())) (k.bx a1 a2 a3 (0,[],()))) (k.bx a1 a2 a3 (0,[],())))) (cond (a3.1==17) ((c_ (a3.2.2.2.1,0,7,())).bind fun v6=>cond (!v6.1) (some ((22,[],()),())) (k.bx a1 a2 a3 (0,[],()))) (k.bx a1 a2 a3 (0,[],()))))
def N0(k:nZ)(U:af.D)(aa:aL.D)(ad:aG.D)(ag:aF.D):Option (aF.D×Unit):=cond (ad.1 != 11) (cond (ad.1 != 14) ((fg (U,aa,ad.2.1,true,())).bind fun v1=>k.du U aa ad ag v1.1) ((fg (U,aa,ad.2.1,ad.2.2.2.1==0,())).bind fun v2=>k.du U aa ad ag v2.1)) ((fg (U,aa,ad.2.1,false,())).bind fun v3=>k.du U aa ad ag v3.1)
def ta(k:nZ)(U:af.D)(aa:aL.D)(ad:aG.D)(ag:aF.D)(al:a6.D):Option (aF.D×Unit):=cond (al.2.2.2.1 != 0) (some ((al.2.2.2.1,[],()),())) ((fy (U,al.2.2.1,())).bind fun v1=>cond (ad.1==4) (cond (v1.1.2.1==2) (some ((21,[],()),())) ((ks (aa,v1.1,4,())).bind fun v2=>cond (!v2.1) (some ((13,[],()),())) (cond (decide (ad.2.2.2.1<0)) (some ((22,[],()),())) (cond (decide (ad.2.2.2.2.1<0)) (some ((22,[],()),())) (k.o4 ad.2.2.2.1 ad ag v1.1 []))))) (cond (ad.1==11) (cond (v1.1.2.1 != 3) (some ((22,[],()),())) (some ((0,v1.1.2.2.2.2.2.1,()),()))) (cond (ad.1==13) (cond (!(v1.1.2.1==2)) (some ((20,[],()),())) ((ks (aa,v1.1,4,())).bind fun v3=>cond (!v3.1) (some ((13,[],()),())) (k.s' ([]:aj) 0 ag v1.1))) (cond (ad.1==14) ((e' (v1.1.2.1,())).bind fun v4=>cond (room (v4.1.length +([32]:aj).length)) ((e' (v1.1.2.2.1,())).bind fun v5=>cond (room ((v4.1++([32]:aj)).length+v5.1.length)) (cond (room (((v4.1++([32]:aj))++v5.1).length +([32]:aj).length)) ((e' (v1.1.2.2.2.1,())).bind fun v6=>cond (room ((((v4.1++([32]:aj))++v5.1)++([32]:aj)).length+v6.1.length)) (cond (room (((((v4.1++([32]:aj))++v5.1)++([32]:aj))++v6.1).length +([32]:aj).length)) ((e' (v1.1.2.2.2.2.1,())).bind fun bn=>cond (room ((((((v4.1++([32]:aj))++v5.1)++([32]:aj))++v6.1)++([32]:aj)).length+bn.1.length)) (cond (room (((((((v4.1++([32]:aj))++v5.1)++([32]:aj))++v6.1)++([32]:aj))++bn.1).length +([32]:aj).length)) ((He (U,v1.1.1,())).bind fun cF=>(e' (cF.1,())).bind fun v9=>cond (room ((((((((v4.1++([32]:aj))++v5.1)++([32]:aj))++v6.1)++([32]:aj))++bn.1)++([32]:aj)).length+v9.1.length)) (cond (room (((((((((v4.1++([32]:aj))++v5.1)++([32]:aj))++v6.1)++([32]:aj))++bn.1)++([32]:aj))++v9.1).length +([32]:aj).length)) ((e' ((v1.1.2.2.2.2.2.1.length:Int),())).bind fun v10=>cond (room ((((((((((v4.1++([32]:aj))++v5.1)++([32]:aj))++v6.1)++([32]:aj))++bn.1)++([32]:aj))++v9.1)++([32]:aj)).length+v10.1.length)) (some ((0,(((((((((v4.1++([32]:aj))++v5.1)++([32]:aj))++v6.1)++([32]:aj))++bn.1)++([32]:aj))++v9.1)++([32]:aj))++v10.1,()),())) (none)) (none)) (none)) (none)) (none)) (none)) (none)) (none)) (none)) (none)) (cond (ad.1==17) ((ks (aa,v1.1,ad.2.2.2.1,())).bind fun v11=>cond (!v11.1) (some ((13,[],()),())) (some ((0,[],()),()))) (cond (!(v1.1.2.1==2)) (some ((20,[],()),())) ((ks (aa,v1.1,4,())).bind fun v12=>cond (!v12.1) (some ((13,[],()),())) ((AP (U,v1.1.1,())).bind fun gz=>(e' (v1.1.2.2.2.2.2.2.2.1,())).bind fun hY=>cond (room (hY.1.length +([32]:aj).length)) ((e' (v1.1.2.2.2.2.2.2.2.2.1,())).bind fun gh=>cond (room ((hY.1++([32]:aj)).length+gh.1.length)) (cond (room (((hY.1++([32]:aj))++gh.1).length +([32]:aj).length)) ((e' (gz.1,())).bind fun j9=>cond (room ((((hY.1++([32]:aj))++gh.1)++([32]:aj)).length+j9.1.length)) (cond (room (((((hY.1++([32]:aj))++gh.1)++([32]:aj))++j9.1).length +([32]:aj).length)) ((e' (gz.2.1,())).bind fun jt=>cond (room ((((((hY.1++([32]:aj))++gh.1)++([32]:aj))++j9.1)++([32]:aj)).length+jt.1.length)) (some ((0,(((((hY.1++([32]:aj))++gh.1)++([32]:aj))++j9.1)++([32]:aj))++jt.1,()),())) (none)) (none)) (none)) (none)) (none)) (none)))))))))
def afZ(k:nZ)(U:Int)(aa:aG.D)(ad:aF.D)(ag:J.D)(v2:List Int):Option (aF.D×Unit):=k.o4 (aH (U+1)) aa ad ag v2
def Hg(k:nZ)(U:Int)(aa:aG.D)(ad:aF.D)(ag:J.D)(al:List Int):Option (aF.D×Unit):=cond (decide (U<(ag.2.2.2.2.2.1.length:Int))) (cond (decide (U<aH (aa.2.2.2.1+aa.2.2.2.2.1))) ((aM ag.2.2.2.2.2.1.length U).bind fun v1=>cond (room (al.length+[((ag.2.2.2.2.2.1.getD v1 0).toNat:Int)].length)) (afZ k U aa ad ag (al++[((ag.2.2.2.2.2.1.getD v1 0).toNat:Int)])) (none)) (some ((0,gP al,()),()))) (some ((0,gP al,()),()))
def Hh(k:nZ)(U:aj)(aa:Int)(ad:aF.D)(ag:J.D):Option (aF.D×Unit):=cond (decide (aa<(ag.2.2.2.2.2.2.1.length:Int))) (cond (decide (aa>0)) (cond (room (U.length +([47]:aj).length)) (k.Hf (U++([47]:aj)) aa ad ag) (none)) (k.Hf U aa ad ag)) (some ((0,U,()),()))
def N1(k:nZ)(U:aj)(aa:Int)(ad:aF.D)(ag:J.D):Option (aF.D×Unit):=(aM ag.2.2.2.2.2.2.1.length aa).bind fun v1=>cond (room (U.length +((I aB ag.2.2.2.2.2.2.1 v1).1).length)) (k.s' (U++((I aB ag.2.2.2.2.2.2.1 v1).1)) (aH (aa+1)) ad ag) (none)
def VZ(k:nZ):nZ:=⟨N0 k,ta k,Hg k,Hh k,N1 k⟩
def fM:Nat→nZ:=dJ VZ ⟨fun _ _ _ _=>none,fun _ _ _ _ _=>none,fun _ _ _ _ _=>none,fun _ _ _ _=>none,fun _ _ _ _=>none⟩
def lB(x:af.D×aL.D×aG.D×Unit):Option (aF.D×Unit):=rq (fM aN) x.1 x.2.1 x.2.2.1
abbrev rr:Type:=af.D×aF.D×Unit
structure tb where
 df:Int→af.D→aL.D→aG.D→af.D→aF.D→Option (rr)
 cL:Int→af.D→aL.D→aG.D→af.D→aF.D→Option (rr)
 iP:Int→af.D→aL.D→aG.D→af.D→aF.D→Option (rr)
def tc(k:tb)(a1:af.D)(a2:aL.D)(a3:aG.D):Option (rr):=(AU (a3,())).bind fun v1=>cond (!v1.1) (some (a1,(22,[],()),())) (cond (decide (a3.1>20)) (some (a1,(22,[],()),())) (cond (a3.1==1) (cond (a3.1==1) ((vT (a1,a2,a3,())).bind fun v2=>some (v2.1,v2.2.1,())) (k.df a3.1 a1 a2 a3 (0,[],()) (0,[],()))) (cond (a3.1==3) (cond (a3.1==3) ((vT (a1,a2,a3,())).bind fun v3=>some (v3.1,v3.2.1,())) (k.df a3.1 a1 a2 a3 (0,[],()) (0,[],()))) (cond (a3.1==10) ((vT (a1,a2,a3,())).bind fun v4=>some (v4.1,v4.2.1,())) (k.df a3.1 a1 a2 a3 (0,[],()) (0,[],()))))))
def af0(k:tb)(U:Int)(aa:af.D)(ad:aL.D)(ag:aG.D)(al:af.D)(aE:aF.D):Option (rr):=cond (U==2) (cond (U==2) ((A' (aa,ad,ag,())).bind fun v1=>some (v1.1,v1.2.1,())) (k.cL U aa ad ag al aE)) (cond (U==8) ((A' (aa,ad,ag,())).bind fun v2=>some (v2.1,v2.2.1,())) (k.cL U aa ad ag al aE))
def af1(k:tb)(U:Int)(aa:af.D)(ad:aL.D)(ag:aG.D)(al:af.D)(aE:aF.D):Option (rr):=cond (U==9) ((G5 (aa,ad,ag,())).bind fun v1=>some (v1.1,v1.2.1,())) (cond (U==12) ((G_ (aa,ad,ag,())).bind fun v2=>some (v2.1,v2.2.1,())) (cond (U==5) (cond (U==5) ((yj (aa,ad,ag,())).bind fun v3=>some (v3.1,v3.2.1,())) (k.iP U aa ad ag al aE)) (cond (U==6) (cond (U==6) ((yj (aa,ad,ag,())).bind fun v4=>some (v4.1,v4.2.1,())) (k.iP U aa ad ag al aE)) (cond (U==7) ((yj (aa,ad,ag,())).bind fun v5=>some (v5.1,v5.2.1,())) (k.iP U aa ad ag al aE)))))
def af2(k:tb)(U:Int)(aa:af.D)(ad:aL.D)(ag:aG.D)(al:af.D)(aE:aF.D):Option (rr):=cond (U==15) (cond (U==15) ((s_ (aa,ad,ag,())).bind fun v1=>some (v1.1,v1.2.1,())) ((lB (aa,ad,ag,())).bind fun v2=>some (aa,v2.1,()))) (cond (U==16) (cond (U==16) ((s_ (aa,ad,ag,())).bind fun v3=>some (v3.1,v3.2.1,())) ((lB (aa,ad,ag,())).bind fun v4=>some (aa,v4.1,()))) (cond (U==19) ((s_ (aa,ad,ag,())).bind fun v5=>some (v5.1,v5.2.1,())) ((lB (aa,ad,ag,())).bind fun v6=>some (aa,v6.1,()))))
def V0(k:tb):tb:=⟨af0 k,af1 k,af2 k⟩
def Bf:Nat→tb:=dJ V0 ⟨fun _ _ _ _ _ _=>none,fun _ _ _ _ _ _=>none,fun _ _ _ _ _ _=>none⟩
def o5(x:af.D×aL.D×aG.D×Unit):Option (rr):=tc (Bf aN) x.1 x.2.1 x.2.2.1
abbrev v7:Type:=aR.D×aF.D×Unit
structure v8 where
 dC:aR.D→aG.D→aR.D→aF.D→aL.D→Option (v7)
 iP:aR.D→aG.D→aR.D→aF.D→aL.D→Option (v7)
def Hi(k:v8)(a1:aR.D)(a2:Int)(a3:aG.D):Option (v7):=(Ns (a2,())).bind fun v1=>(AU (a3,())).bind fun v2=>cond (!v2.1) (some (a1,(22,[],()),())) ((Nw (a1.2.1,a3.1,())).bind fun v3=>cond (!v3.2.1) (some (a1,(11,[],()),())) (cond (a3.1==21) (cond (v1.1.1 != 0) (some ((a1.1,v3.1,a1.2.2.1,a1.2.2.2.1,()),(1,[],()),())) (k.dC (a1.1,v3.1,a1.2.2.1,a1.2.2.2.1,()) a3 ((0,[],()),0,[],[],()) (0,[],()) v1.1)) (cond (a3.1==22) (cond (v1.1.1 != 0) (some ((a1.1,v3.1,a1.2.2.1,a1.2.2.2.1,()),(1,[],()),())) (k.dC (a1.1,v3.1,a1.2.2.1,a1.2.2.2.1,()) a3 ((0,[],()),0,[],[],()) (0,[],()) v1.1)) (k.dC (a1.1,v3.1,a1.2.2.1,a1.2.2.2.1,()) a3 ((0,[],()),0,[],[],()) (0,[],()) v1.1))))
def yk(k:v8)(U:aR.D)(aa:aG.D)(ad:aR.D)(ag:aF.D)(al:aL.D):Option (v7):=cond (aa.1==21) (cond (decide (aa.2.2.2.1<0)) (some (U,(22,[],()),())) ((Ny (U.2.2.1,aa.2.2.2.1,())).bind fun v1=>some (U,(0,v1.1,()),()))) (cond (aa.1==22) (some ((U.1,U.2.1,[],U.2.2.2.1,()),(0,[],()),())) ((AV (aa.1,())).bind fun v2=>cond (!v2.1) (cond (decide ((U.2.2.1.length:Int)≥20)) (some (U,(28,[],()),())) (k.iP U aa ad ag al)) (k.iP U aa ad ag al)))
def N2(k:v8)(U:aR.D)(aa:aG.D)(ad:aR.D)(ag:aF.D)(al:aL.D):Option (v7):=(o5 (U.1,al,aa,())).bind fun v1=>some ((v1.1,U.2.1,U.2.2.1,U.2.2.2.1,()),v1.2.1,())
def V1(k:v8):v8:=⟨yk k,N2 k⟩
def p_:Nat→v8:=dJ V1 ⟨fun _ _ _ _ _=>none,fun _ _ _ _ _=>none⟩
def Hj(x:aR.D×Int×aG.D×Unit):Option (v7):=Hi (p_ aN) x.1 x.2.1 x.2.2.1
abbrev m4:Type:=aR.D×aF.D×Bool×Unit
structure ru where
 dC:Int→Int→Int→Bool→aR.D→aG.D→aR.D→aF.D→aF.D→Option (m4)
 cL:Int→Int→Int→aR.D→aG.D→aR.D→aF.D→aF.D→Option (m4)
 fl:Int→Int→Int→aR.D→aR.D→aF.D→aF.D→Option (m4)
def Hk(k:ru)(a1:aR.D)(a2:Int)(a3:Int)(a4:aG.D)(a5:Int):Option (m4):=(c_ (a2,1,3,())).bind fun v1=>cond (!v1.1) (some (a1,(0,[],()),false,())) ((c_ (a3,1,1000000,())).bind fun v2=>cond (!v2.1) (some (a1,(0,[],()),false,())) ((c_ (a5,1,100000,())).bind fun v3=>cond (!v3.1) (some (a1,(0,[],()),false,())) ((No (a1,())).bind fun v4=>cond (decide (a5<v4.1)) (some (a1,(0,[],()),false,())) ((AS (a1,a2,())).bind fun v5=>cond (a3==v5.1.2.1) (some (a1,v5.1.2.2.2.1,false,())) (cond (a3 != aH (v5.1.2.1+1)) (some (a1,(0,[],()),false,())) ((Hj (a1,a2,a4,())).bind fun v6=>cond (a4.1==22) (k.dC a2 a3 a5 (v6.2.1.1==0) v6.1 a4 ((0,[],()),0,[],[],()) (0,[],()) v6.2.1) (k.dC a2 a3 a5 false v6.1 a4 ((0,[],()),0,[],[],()) (0,[],()) v6.2.1)))))))
def N3(k:ru)(U:Int)(aa:Int)(ad:Int)(ag:Bool)(al:aR.D)(aE:aG.D)(a7:aR.D)(bE:aF.D)(cn:aF.D):Option (m4):=cond (decide ((al.2.2.1.length:Int)<20)) ((AU (aE,())).bind fun v1=>cond v1.1 ((AV (aE.1,())).bind fun v2=>cond (!v2.1) (cond (!ag) (k.cL U aa ad al aE a7 bE cn) (k.fl U aa ad al a7 bE cn)) (cond (cn.1 != 0) (cond (!ag) (k.cL U aa ad al aE a7 bE cn) (k.fl U aa ad al a7 bE cn)) (k.fl U aa ad al a7 bE cn))) (k.fl U aa ad al a7 bE cn)) (k.fl U aa ad al a7 bE cn)
def af3(k:ru)(U:Int)(aa:Int)(ad:Int)(ag:aR.D)(aE:aR.D)(a7:aF.D)(bE:aF.D)(v1:List aO.D):Option (m4):=k.fl U aa ad (ag.1,ag.2.1,v1,ag.2.2.2.1,()) aE a7 bE
def N4(k:ru)(U:Int)(aa:Int)(ad:Int)(ag:aR.D)(al:aG.D)(aE:aR.D)(a7:aF.D)(bE:aF.D):Option (m4):=cond (room (ag.2.2.1.length+[(ad,U,aa,al.1,bE.1,())].length)) (af3 k U aa ad ag aE a7 bE (ag.2.2.1++[(ad,U,aa,al.1,bE.1,())])) (none)
def af4(ag:aR.D)(a7:aF.D)(v3:List bt.D):Option (m4):=some ((ag.1,ag.2.1,ag.2.2.1,v3,()),a7,true,())
def af5(ag:aR.D)(a7:aF.D)(bn:List bt.D):Option (m4):=some ((ag.1,ag.2.1,ag.2.2.1,bn,()),a7,true,())
def V2(U:Int)(aa:Int)(ad:Int)(a7:aF.D)(ag:aR.D)(v1:Int×Bool×Unit)(v5:List bt.D):Option (m4):=cond (room (v5.length+[(U,aa,ad,a7,())].length)) ((eh ag.2.2.2.1.length v1.1 (ag.2.2.2.1.length:Int)).bind fun v6=>cond (room ((v5++[(U,aa,ad,a7,())]).length +(part ag.2.2.2.1 (0+v6.1) (v6.2-v6.1)).length)) (af5 ag a7 ((v5++[(U,aa,ad,a7,())])++(part ag.2.2.2.1 (0+v6.1) (v6.2-v6.1)))) (none)) (none)
def N5(k:ru)(U:Int)(aa:Int)(ad:Int)(ag:aR.D)(al:aR.D)(aE:aF.D)(a7:aF.D):Option (m4):=(Gp (ag,U,())).bind fun v1=>cond v1.2.1 ((aM ag.2.2.2.1.length v1.1).bind fun v2=>af4 ag a7 (ag.2.2.2.1.set (0+v2) (U,aa,ad,a7,()))) ((eh ag.2.2.2.1.length 0 v1.1).bind fun v4=>cond (room (([]:List bt.D).length +(part ag.2.2.2.1 (0+v4.1) (v4.2-v4.1)).length)) (V2 U aa ad a7 ag v1 (([]:List bt.D)++(part ag.2.2.2.1 (0+v4.1) (v4.2-v4.1)))) (none))
def V3(k:ru):ru:=⟨N3 k,N4 k,N5 k⟩
def rv:Nat→ru:=dJ V3 ⟨fun _ _ _ _ _ _ _ _ _=>none,fun _ _ _ _ _ _ _ _=>none,fun _ _ _ _ _ _ _=>none⟩
def td(x:aR.D×Int×Int×aG.D×Int×Unit):Option (m4):=Hk (rv aN) x.1 x.2.1 x.2.2.1 x.2.2.2.1 x.2.2.2.2.1
def N6(a1:aR.D):Option (aR.D×Unit):=(oY (a1.1,())).bind fun v1=>cond (room (([]:List aO.D).length+a1.2.2.1.length)) (cond (room (([]:List bt.D).length+a1.2.2.2.1.length)) (some ((v1.1,a1.2.1,([]:List aO.D)++a1.2.2.1,([]:List bt.D)++a1.2.2.2.1,()),())) (none)) (none)
def yl(x:aR.D×Unit):Option (aR.D×Unit):=N6 x.1
abbrev V4:Type:=aR.D×aF.D×Bool×Unit
def N7(a1:aR.D)(a2:Int)(a3:Int)(a4:aG.D)(a5:Int):Option (V4):=(AR (a1,())).bind fun v1=>cond (!v1.1) (some (((0,[],()),0,[],[],()),(0,[],()),false,())) (both ((yl (a1,())).bind fun v2=>both ((td (v2.1,a2,a3,a4,a5,())).bind fun v3=>dup (some (v3.1,v3.2.1,v3.2.2.1,()))) (dup (dup ((td (v2.1,a2,a3,a4,a5,())).bind fun v3=>some (v3.1,v3.2.1,v3.2.2.1,()))))) (dup (both ((yl (a1,())).bind fun v2=>dup ((td (v2.1,a2,a3,a4,a5,())).bind fun v3=>some (v3.1,v3.2.1,v3.2.2.1,()))) ((yl (a1,())).bind fun v2=>(td (v2.1,a2,a3,a4,a5,())).bind fun v3=>some (v3.1,v3.2.1,v3.2.2.1,())))))
def Hl(x:aR.D×Int×Int×aG.D×Int×Unit):Option (V4):=N7 x.1 x.2.1 x.2.2.1 x.2.2.2.1 x.2.2.2.2.1
end
noncomputable section
def af6(a1:List Int):Option (Bool×Unit):=some (decide ((a1.length:Int)>1048576),())
def N8(x:(List Int)×Unit):Option (Bool×Unit):=af6 x.1
abbrev Hm:Type:=(List Int)→Int→Int→Option (bh.D×Unit)
def V5(k3:Hm)(a1:List Int):Option (bh.D×Unit):=k3 a1 (aH (10101 +(a1.length:Int))) 0
def ym(k3:Hm)(U:List Int)(aa:Int)(ad:Int):Option (bh.D×Unit):=cond (decide (ad<(U.length:Int))) (cond (decide (ad<4000)) ((aM U.length ad).bind fun v1=>k3 U (cY .and .i64 (aH (aH (aH (aa*131)+aH (I (ae.int .u8) U v1))+7)) 1073741823) (aH (ad+1))) (some ((U,0,aa,()),()))) (some ((U,0,aa,()),()))
def yn:Nat→Hm | 0,_,_,_=>none | m+1,U,aa,ad=>ym (yn m) U aa ad
def N9(x:(List Int)×Unit):Option (bh.D×Unit):=V5 (yn aN) x.1
abbrev V6:Type:=Int×bh.D×Unit
def N_(a1:bh.D):Option (V6):=cond (decide (a1.2.1<(a1.1.length:Int))) ((aM a1.1.length a1.2.1).bind fun v1=>some (cY .and .i64 (aH (cY .and .i64 (cY .xor .i64 (Int.fdiv (aH (aH (a1.2.2.1*6364136223846793005)+1442695040888963407)) (2 ^ min (Int.toNat 33) 64)) (Int.fdiv (aH (aH (a1.2.2.1*6364136223846793005)+1442695040888963407)) (2 ^ min (Int.toNat 45) 64))) 255+aH (I (ae.int .u8) a1.1 v1))) 255,(a1.1,aH (a1.2.1+1),aH (aH (a1.2.2.1*6364136223846793005)+1442695040888963407),()),())) (some (cY .and .i64 (cY .xor .i64 (Int.fdiv (aH (aH (a1.2.2.1*6364136223846793005)+1442695040888963407)) (2 ^ min (Int.toNat 33) 64)) (Int.fdiv (aH (aH (a1.2.2.1*6364136223846793005)+1442695040888963407)) (2 ^ min (Int.toNat 45) 64))) 255,(a1.1,a1.2.1,aH (aH (a1.2.2.1*6364136223846793005)+1442695040888963407),()),()))
def ry(x:bh.D×Unit):Option (V6):=N_ x.1
abbrev V7:Type:=Int×bh.D×Unit
def N'(a1:bh.D)(a2:Int):Option (V7):=cond (decide (a2≤0)) (some (0,a1,())) (cond (decide (a2≤256)) ((ry (a1,())).bind fun v1=>cond (a2 != 0) (some (Int.tmod v1.1 a2,v1.2.1,())) (none)) ((ry (a1,())).bind fun v2=>(ry (v2.2.1,())).bind fun v3=>(ry (v3.2.1,())).bind fun v4=>(ry (v4.2.1,())).bind fun v5=>cond (a2 != 0) (some (Int.tmod (aH (aH (aH (aH (v2.1*16777216)+aH (v3.1*65536))+aH (v4.1*256))+v5.1)) a2,v5.2.1,())) (none)))
def eB(x:bh.D×Int×Unit):Option (V7):=N' x.1 x.2.1
abbrev V8:Type:=Int×bh.D×Unit
def Oa(a1:bh.D)(a2:List Int):Option (V8):=(eB (a1,(a2.length:Int),())).bind fun v1=>(aM a2.length v1.1).bind fun v2=>some (I (ae.int .i64) a2 (0+v2),v1.2.1,())
def fz(x:bh.D×(List Int)×Unit):Option (V8):=Oa x.1 x.2.1
abbrev V9:Type:=Bool×bh.D×Unit
def af7(a1:bh.D)(a2:Int):Option (V9):=(eB (a1,a2,())).bind fun v1=>some (v1.1==0,v1.2.1,())
def lC(x:bh.D×Int×Unit):Option (V9):=af7 x.1 x.2.1
abbrev V_:Type:=(aj)×bh.D×Unit
def Ob(a1:bh.D)(a2:List (aj)):Option (V_):=(eB (a1,(a2.length:Int),())).bind fun v1=>(aM a2.length v1.1).bind fun v2=>some (I ae.str a2 (0+v2),v1.2.1,())
def rz(x:bh.D×(List (aj))×Unit):Option (V_):=Ob x.1 x.2.1
abbrev v_:Type:=(aj)×bh.D×Unit
structure v' where
 bg:Int→Int→bh.D→(List Int)→Option (v_)
 cL:Int→Int→Int→bh.D→(List Int)→Option (v_)
def Hn(k:v')(a1:bh.D)(a2:Int):Option (v_):=(eB (a1,4,())).bind fun v1=>(eB (v1.2.1,aH (a2+1),())).bind fun v2=>k.bg v1.1 v2.1 v2.2.1 ([]:List Int)
def Bg(k:v')(U:Int)(aa:Int)(ad:bh.D)(ag:List Int):Option (v_):=cond (decide (aa>0)) ((ry (ad,())).bind fun v1=>cond (U==1) (cond (U==2) (k.cL U aa (aH (97+Int.tmod (Int.tmod v1.1 2) 4)) v1.2.1 ag) (k.cL U aa (Int.tmod v1.1 2) v1.2.1 ag)) (cond (U==2) (k.cL U aa (aH (97+Int.tmod v1.1 4)) v1.2.1 ag) (k.cL U aa v1.1 v1.2.1 ag))) (some (gP ag,ad,()))
def Oc(k:v')(U:Int)(aa:Int)(ad:Int)(ag:bh.D)(al:List Int):Option (v_):=cond (room (al.length+[IntKind.wrap .u8 (ad)].length)) (k.bg U (aH (aa-1)) ag (al++[IntKind.wrap .u8 (ad)])) (none)
def V'(k:v'):v':=⟨Bg k,Oc k⟩
def te:Nat→v':=dJ V' ⟨fun _ _ _ _=>none,fun _ _ _ _ _=>none⟩
def Bh(x:bh.D×Int×Unit):Option (v_):=Hn (te aN) x.1 x.2.1
abbrev Wa:Type:=(aj)×bh.D×Unit
def Od(a1:bh.D):Option (Wa):=(rz (a1,[([97]:aj),([98]:aj),([99]:aj),([100,49]:aj),([115,117,98]:aj)],())).bind fun v1=>some (v1.1,v1.2.1,())
def yp(x:bh.D×Unit):Option (Wa):=Od x.1
abbrev rA:Type:=(aj)×bh.D×Unit
structure tf where
 k3:(aj)→Int→bh.D→Option (rA)
 mY:(aj)→bh.D→Option (rA)
 oT:(aj)→bh.D→Option (rA)
def Ho(k:tf)(a1:bh.D):Option (rA):=(eB (a1,5,())).bind fun v1=>k.k3 ([]:aj) v1.1 v1.2.1
def Bi(k:tf)(U:aj)(aa:Int)(ad:bh.D):Option (rA):=cond (decide (aa>0)) (cond (room (U.length +([47]:aj).length)) ((yp (ad,())).bind fun v1=>cond (room ((U++([47]:aj)).length+v1.1.length)) ((eB (v1.2.1,14,())).bind fun v2=>cond (v2.1==0) (cond (room (((U++([47]:aj))++v1.1).length +([47,46]:aj).length)) (k.k3 (((U++([47]:aj))++v1.1)++([47,46]:aj)) (aH (aa-1)) v2.2.1) (none)) (cond (v2.1==1) (cond (room (((U++([47]:aj))++v1.1).length +([47,46,46]:aj).length)) (k.k3 (((U++([47]:aj))++v1.1)++([47,46,46]:aj)) (aH (aa-1)) v2.2.1) (none)) (cond (v2.1==2) (cond (room (((U++([47]:aj))++v1.1).length +([47]:aj).length)) (k.k3 (((U++([47]:aj))++v1.1)++([47]:aj)) (aH (aa-1)) v2.2.1) (none)) (cond (v2.1==3) ((rz (v2.2.1,[([108,111,110,103,110,97,109,101,57]:aj),([65,66,67]:aj),([120,32,121]:aj),([46,104,105,100]:aj),([46,46,46]:aj)],())).bind fun v3=>cond (room (((U++([47]:aj))++v1.1).length+v3.1.length)) (k.k3 (((U++([47]:aj))++v1.1)++v3.1) (aH (aa-1)) v3.2.1) (none)) (k.k3 ((U++([47]:aj))++v1.1) (aH (aa-1)) v2.2.1))))) (none)) (none)) (cond (bD U []) (k.mY U ad) ((lC (ad,20,())).bind fun v4=>cond v4.1 (k.mY U v4.2.1) (k.oT U v4.2.1)))
def Oe(k:tf)(U:aj)(aa:bh.D):Option (rA):=cond (room (U.length +([47]:aj).length)) (k.oT (U++([47]:aj)) aa) (none)
def Of(k:tf)(U:aj)(aa:bh.D):Option (rA):=(lC (aa,30,())).bind fun v1=>cond v1.1 ((rz (v1.2.1,[[],([97]:aj),([47,97,47,98,47,99,47,100,47,97,47,98,47,99,47,100,47,97,47,98,47,99,47,100,47,97,47,98,47,99,47,100,47,97,47,98,47,99,47,100,47,97,47,98,47,99,47,100,47,97,47,98,47,99,47,100,47,97,47,98]:aj),([47,97,47,98,47,99,47,100,47,97,47,98,47,99,47,100,47,97,47,98,47,99,47,100,47,97,47,98,47,99,47,100,47,97,47,98,47,99,47,100,47,97,47,98,47,99,47,100,47,97,47,98,47,99,47,100,47,97,47]:aj)],())).bind fun v2=>some (v2.1,v2.2.1,())) (some (U,v1.2.1,()))
def Wb(k:tf):tf:=⟨Bi k,Oe k,Of k⟩
def o6:Nat→tf:=dJ Wb ⟨fun _ _ _=>none,fun _ _=>none,fun _ _=>none⟩
def Hp(x:bh.D×Unit):Option (rA):=Ho (o6 aN) x.1
abbrev Bj:Type:=(aj)×bh.D×Unit
abbrev Hq:Type:=(aj)→Int→Int→bh.D→af.D→Option (Bj)
def Hr(du:Hq)(a1:bh.D)(a2:af.D):Option (Bj):=(lC (a1,4,())).bind fun v1=>cond v1.1 ((Hp (v1.2.1,())).bind fun v2=>some (v2.1,v2.2.1,())) ((eB (v1.2.1,4,())).bind fun v3=>du ([]:aj) 1 v3.1 v3.2.1 a2)
def yq(du:Hq)(U:aj)(aa:Int)(ad:Int)(ag:bh.D)(al:af.D):Option (Bj):=cond (decide (ad≥0)) ((kQ (al,aa,())).bind fun v1=>cond (decide (v1.1<0)) (cond (room (U.length +([47]:aj).length)) ((yp (ag,())).bind fun v2=>cond (room ((U++([47]:aj)).length+v2.1.length)) (some ((U++([47]:aj))++v2.1,v2.2.1,())) (none)) (none)) ((aM al.2.1.length v1.1).bind fun v3=>cond ((((I J al.2.1 v3).2.2.2.2.2.2.1).length:Int)==0) (cond (room (U.length +([47]:aj).length)) ((yp (ag,())).bind fun v4=>cond (room ((U++([47]:aj)).length+v4.1.length)) (some ((U++([47]:aj))++v4.1,v4.2.1,())) (none)) (none)) ((aM al.2.1.length v1.1).bind fun v5=>(aM al.2.1.length v1.1).bind fun v6=>dup ((eB (ag,(((I J al.2.1 v6).2.2.2.2.2.2.1).length:Int),())).bind fun bn=>(aM (((I J al.2.1 v5).2.2.2.2.2.2.1).length) bn.1).bind fun cF=>cond (room (U.length +([47]:aj).length)) (cond (room ((U++([47]:aj)).length +((I aB ((I J al.2.1 v5).2.2.2.2.2.2.1) cF).1).length)) (du ((U++([47]:aj))++((I aB ((I J al.2.1 v5).2.2.2.2.2.2.1) cF).1)) ((I aB ((I J al.2.1 v5).2.2.2.2.2.2.1) cF).2.1) (aH (ad-1)) bn.2.1 al) (none)) (none))))) (some (U,ag,()))
def wa:Nat→Hq | 0,_,_,_,_,_=>none | m+1,U,aa,ad,ag,al=>yq (wa m) U aa ad ag al
def yr(x:bh.D×af.D×Unit):Option (Bj):=Hr (wa aN) x.1 x.2.1
abbrev lD:Type:=aG.D×bh.D×Unit
structure o7 where
 k2:bh.D→af.D→aG.D→aG.D→Option (lD)
 du:bh.D→aG.D→aG.D→Option (lD)
 dq:Int→bh.D→af.D→aG.D→aG.D→Option (lD)
 gi:bh.D→aG.D→aG.D→Option (lD)
 iP:bh.D→af.D→aG.D→aG.D→Option (lD)
 o4:Int→bh.D→aG.D→aG.D→Option (lD)
def Hs(k:o7)(a1:bh.D)(a2:af.D):Option (lD):=both (both ((fz (a1,[1,1,1,2,3,3,3,4,5,5,6,7,8,9,10,10,11,12,12,12,13,14,15,16,17,18,19,20],())).bind fun v1=>dup ((yr (v1.2.1,a2,())).bind fun v2=>k.k2 v2.2.1 a2 (0,[],[],0,0,[],()) (v1.1,v2.1,[],0,0,[],()))) ((fz (a1,[1,1,1,2,3,3,3,4,5,5,6,7,8,9,10,10,11,12,12,12,13,14,15,16,17,18,19,20],())).bind fun v1=>(yr (v1.2.1,a2,())).bind fun v2=>k.k2 v2.2.1 a2 (0,[],[],0,0,[],()) (v1.1,v2.1,[],0,0,[],()))) ((fz (a1,[1,1,1,2,3,3,3,4,5,5,6,7,8,9,10,10,11,12,12,12,13,14,15,16,17,18,19,20],())).bind fun v1=>(yr (v1.2.1,a2,())).bind fun v2=>k.k2 v2.2.1 a2 (0,[],[],0,0,[],()) (v1.1,v2.1,[],0,0,[],()))
def Og(k:o7)(U:bh.D)(aa:af.D)(ad:aG.D)(ag:aG.D):Option (lD):=cond (ag.1==1) (cond (ag.1==1) (k.du U ad ag) (k.dq ag.1 U aa ad ag)) (cond (ag.1==3) (cond (ag.1==3) (k.du U ad ag) (k.dq ag.1 U aa ad ag)) (cond (ag.1==15) (k.du U ad ag) (k.dq ag.1 U aa ad ag)))
def Oh(k:o7)(U:bh.D)(aa:aG.D)(ad:aG.D):Option (lD):=(fz (U,[511,511,493,448,420,1535,1023,0,320],())).bind fun v1=>k.gi v1.2.1 aa (ad.1,ad.2.1,ad.2.2.1,v1.1,ad.2.2.2.2.1,ad.2.2.2.2.2.1,())
def Oi(k:o7)(U:Int)(aa:bh.D)(ad:af.D)(ag:aG.D)(al:aG.D):Option (lD):=cond (U==4) ((eB (aa,8,())).bind fun v1=>(eB (v1.2.1,20,())).bind fun v2=>k.gi v2.2.1 ag (al.1,al.2.1,al.2.2.1,v1.1,v2.1,al.2.2.2.2.2.1,())) (cond (U==5) ((eB (aa,20,())).bind fun v3=>(Bh (v3.2.1,30,())).bind fun v4=>k.gi v4.2.1 ag (al.1,al.2.1,al.2.2.1,v3.1,al.2.2.2.2.1,v4.1,())) (cond (U==6) ((Bh (aa,30,())).bind fun v5=>k.gi v5.2.1 ag (al.1,al.2.1,al.2.2.1,al.2.2.2.1,al.2.2.2.2.1,v5.1,())) (cond (U==7) ((eB (aa,70,())).bind fun v6=>k.gi v6.2.1 ag (al.1,al.2.1,al.2.2.1,v6.1,al.2.2.2.2.1,al.2.2.2.2.2.1,())) (cond (U==9) (cond (U==9) (k.iP aa ad ag al) (k.o4 U aa ag al)) (cond (U==12) (k.iP aa ad ag al) (k.o4 U aa ag al))))))
def Oj(k:o7)(U:bh.D)(aa:aG.D)(ad:aG.D):Option (lD):=(lC (U,25,())).bind fun v1=>cond v1.1 ((eB (v1.2.1,6,())).bind fun v2=>cond (v2.1==0) ((fz (v2.2.1,[(-1),0,21,22,23],())).bind fun v3=>some ((v3.1,ad.2.1,ad.2.2.1,ad.2.2.2.1,ad.2.2.2.2.1,ad.2.2.2.2.2.1,()),v3.2.1,())) (cond (v2.1==1) ((fz (v2.2.1,[(-1),2048,65,401,1000000,1000001],())).bind fun v4=>some ((ad.1,ad.2.1,ad.2.2.1,v4.1,ad.2.2.2.2.1,ad.2.2.2.2.2.1,()),v4.2.1,())) (cond (v2.1==2) ((fz (v2.2.1,[(-1),25,1001,1000001],())).bind fun v5=>some ((ad.1,ad.2.1,ad.2.2.1,ad.2.2.2.1,v5.1,ad.2.2.2.2.2.1,()),v5.2.1,())) (cond (v2.1==3) (cond (room (ad.2.2.2.2.2.1.length +([121]:aj).length)) (some ((ad.1,ad.2.1,ad.2.2.1,ad.2.2.2.1,ad.2.2.2.2.1,ad.2.2.2.2.2.1++([121]:aj),()),v2.2.1,())) (none)) (cond (v2.1==4) ((rz (v2.2.1,[[],([47,122]:aj),([98,97,100,32,112,97,116,104]:aj),([47,47]:aj)],())).bind fun v6=>some ((ad.1,ad.2.1,v6.1,ad.2.2.2.1,ad.2.2.2.2.1,ad.2.2.2.2.2.1,()),v6.2.1,())) ((Hp (v2.2.1,())).bind fun bn=>some ((ad.1,bn.1,ad.2.2.1,ad.2.2.2.1,ad.2.2.2.2.1,ad.2.2.2.2.2.1,()),bn.2.1,()))))))) (some (ad,v1.2.1,()))
def Ok(k:o7)(U:bh.D)(aa:af.D)(ad:aG.D)(ag:aG.D):Option (lD):=(yr (U,aa,())).bind fun v1=>k.gi v1.2.1 ad (ag.1,ag.2.1,v1.1,ag.2.2.2.1,ag.2.2.2.2.1,ag.2.2.2.2.2.1,())
def Ol(k:o7)(U:Int)(aa:bh.D)(ad:aG.D)(ag:aG.D):Option (lD):=cond (U==10) ((rz (aa,[([47,97]:aj),([98]:aj),([46,46,47,99]:aj),([47,115,117,98,47,97]:aj),([46]:aj),([47]:aj),([100,49,47,98]:aj),([47,99]:aj)],())).bind fun v1=>k.gi v1.2.1 ad (ag.1,ag.2.1,v1.1,ag.2.2.2.1,ag.2.2.2.2.1,ag.2.2.2.2.2.1,())) (cond (U==14) ((eB (aa,2,())).bind fun v2=>k.gi v2.2.1 ad (ag.1,ag.2.1,ag.2.2.1,v2.1,ag.2.2.2.2.1,ag.2.2.2.2.2.1,())) (cond (U==16) ((fz (aa,[0,2,3],())).bind fun v3=>(fz (v3.2.1,[0,2,5],())).bind fun v4=>k.gi v4.2.1 ad (ag.1,ag.2.1,ag.2.2.1,v3.1,v4.1,ag.2.2.2.2.2.1,())) (cond (U==17) ((eB (aa,8,())).bind fun v5=>k.gi v5.2.1 ad (ag.1,ag.2.1,ag.2.2.1,v5.1,ag.2.2.2.2.1,ag.2.2.2.2.2.1,())) (cond (U==19) ((fz (aa,[0,0,20,60,200],())).bind fun v6=>(fz (v6.2.1,[0,0,2,5,10],())).bind fun bn=>k.gi bn.2.1 ad (ag.1,ag.2.1,ag.2.2.1,v6.1,bn.1,ag.2.2.2.2.2.1,())) (k.gi aa ad ag)))))
def Wc(k:o7):o7:=⟨Og k,Oh k,Oi k,Oj k,Ok k,Ol k⟩
def lE:Nat→o7:=dJ Wc ⟨fun _ _ _ _=>none,fun _ _ _=>none,fun _ _ _ _ _=>none,fun _ _ _=>none,fun _ _ _ _=>none,fun _ _ _ _=>none⟩
def Ht(x:bh.D×af.D×Unit):Option (lD):=Hs (lE aN) x.1 x.2.1
abbrev Wd:Type:=aG.D×bh.D×Unit
def Om(a1:bh.D)(a2:af.D):Option (Wd):=(lC (a1,12,())).bind fun v1=>cond v1.1 ((fz (v1.2.1,[21,21,22],())).bind fun v2=>(eB (v2.2.1,6,())).bind fun v3=>some ((v2.1,[],[],aH (v3.1-1),0,[],()),v3.2.1,())) ((Ht (v1.2.1,a2,())).bind fun v4=>some (v4.1,v4.2.1,()))
def rB(x:bh.D×af.D×Unit):Option (Wd):=Om x.1 x.2.1
def af8  : Option (af.D×Unit):=some ((2,[(1,2,493,0,0,[],[],0,0,())],()),())
def Hu(x:Unit):Option (af.D×Unit):=af8
def af9  : Option (af.D×Unit):=some ((2,[(1,2,493,0,0,[],[],0,0,())],()),())
def On(x:Unit):Option (af.D×Unit):=af9
def af_(v1:af.D×Unit)(v3:List J.D):Option (aR.D×Unit):=some (((v1.1.1,v3,()),30,[],[],()),())
def af'  : Option (aR.D×Unit):=(Hu ()).bind fun v1=>(aM v1.1.2.1.length 0).bind fun v2=>af_ v1 (v1.1.2.1.set (0+v2) ((I J v1.1.2.1 (0+v2)).1,(I J v1.1.2.1 (0+v2)).2.1,1023,(I J v1.1.2.1 (0+v2)).2.2.2.1,(I J v1.1.2.1 (0+v2)).2.2.2.2.1,(I J v1.1.2.1 (0+v2)).2.2.2.2.2.1,(I J v1.1.2.1 (0+v2)).2.2.2.2.2.2.1,(I J v1.1.2.1 (0+v2)).2.2.2.2.2.2.2.1,(I J v1.1.2.1 (0+v2)).2.2.2.2.2.2.2.2.1,()))
def Oo(x:Unit):Option (aR.D×Unit):=af'
def Oq(a1:Int):Option (Int×Unit):=cond (decide (a1<0)) (some (4,())) (cond (decide (a1≥26)) (some (30,())) (some (aH (a1+4),())))
def Ot(x:Int×Unit):Option (Int×Unit):=Oq x.1
abbrev wb:Type:=aR.D×bh.D×Unit
structure wc where
 k3:Int→Int→bh.D→aR.D→aR.D→Option (wb)
 dq:Int→Int→bh.D→aR.D→aR.D→Option (wb)
def Hv(k:wc)(a1:bh.D)(a2:Int):Option (wb):=(Oo ()).bind fun v1=>(eB (a1,a2,())).bind fun v2=>k.k3 a2 (aH (1+v2.1)) v2.2.1 ((0,[],()),0,[],[],()) v1.1
def Hw(k:wc)(U:Int)(aa:Int)(ad:bh.D)(ag:aR.D)(al:aR.D):Option (wb):=cond (decide (aa>1)) ((lC (ad,2,())).bind fun v1=>cond v1.1 ((Ot (al.2.1,())).bind fun v2=>k.dq U aa v1.2.1 ag (al.1,v2.1,al.2.2.1,al.2.2.2.1,())) (k.dq U aa v1.2.1 ag al)) ((yl (al,())).bind fun v3=>some (v3.1,ad,()))
def Ou(k:wc)(U:Int)(aa:Int)(ad:bh.D)(ag:aR.D)(al:aR.D):Option (wb):=(eB (ad,3,())).bind fun v1=>(AS (al,aH (1+v1.1),())).bind fun v2=>(rB (v1.2.1,al.1,())).bind fun v3=>(td (al,aH (1+v1.1),aH (v2.1.2.1+1),v3.1,aH (aH (U+2)-aa),())).bind fun v4=>k.k3 U (aH (aa-1)) v3.2.1 ag v4.1
def We(k:wc):wc:=⟨Hw k,Ou k⟩
def rC:Nat→wc:=dJ We ⟨fun _ _ _ _ _=>none,fun _ _ _ _ _=>none⟩
def Ov(x:bh.D×Int×Unit):Option (wb):=Hv (rC aN) x.1 x.2.1
abbrev Wf:Type:=aL.D×bh.D×Unit
def Ow(a1:bh.D):Option (Wf):=(eB (a1,4,())).bind fun v1=>cond (v1.1==0) (cond (v1.1==0) (some ((0,0,[],()),v1.2.1,())) (cond (v1.1==2) (some ((2,2,[5],()),v1.2.1,())) (some ((3,2,[],()),v1.2.1,())))) (cond (v1.1==1) (some ((0,0,[],()),v1.2.1,())) (cond (v1.1==2) (some ((2,2,[5],()),v1.2.1,())) (some ((3,2,[],()),v1.2.1,()))))
def Hy(x:bh.D×Unit):Option (Wf):=Ow x.1
abbrev Wg:Type:=aG.D×bh.D×Unit
def Ox(a1:bh.D):Option (Wg):=(On ()).bind fun v1=>(Ht (a1,v1.1,())).bind fun v2=>some (v2.1,v2.2.1,())
def Hz(x:bh.D×Unit):Option (Wg):=Ox x.1
abbrev yt:Type:=af.D×bh.D×Unit
abbrev Bk:Type:=Int→bh.D→af.D→af.D→Option (yt)
def Wh(bx:Bk)(v2:Int×bh.D×Unit)(a2:Int)(v1:af.D×Unit)(v4:List J.D):Option (yt):=(eB (v2.2.1,a2,())).bind fun v5=>cond (decide (v5.1>0)) ((Hy (v5.2.1,())).bind fun v6=>(Hz (v6.2.1,())).bind fun bn=>(o5 ((v1.1.1,v4,()),v6.1,bn.1,())).bind fun cF=>bx v5.1 bn.2.1 (0,[],()) cF.1) ((A0 ((v1.1.1,v4,()),())).bind fun v9=>some (v9.1,v5.2.1,()))
def HA(bx:Bk)(a1:bh.D)(a2:Int):Option (yt):=(Hu ()).bind fun v1=>(fz (a1,[511,511,493,1023,2047],())).bind fun v2=>(aM v1.1.2.1.length 0).bind fun v3=>Wh bx v2 a2 v1 (v1.1.2.1.set (0+v3) ((I J v1.1.2.1 (0+v3)).1,(I J v1.1.2.1 (0+v3)).2.1,v2.1,(I J v1.1.2.1 (0+v3)).2.2.2.1,(I J v1.1.2.1 (0+v3)).2.2.2.2.1,(I J v1.1.2.1 (0+v3)).2.2.2.2.2.1,(I J v1.1.2.1 (0+v3)).2.2.2.2.2.2.1,(I J v1.1.2.1 (0+v3)).2.2.2.2.2.2.2.1,(I J v1.1.2.1 (0+v3)).2.2.2.2.2.2.2.2.1,()))
def yu(bx:Bk)(U:Int)(aa:bh.D)(ad:af.D)(ag:af.D):Option (yt):=cond (decide (aH (U-1)>0)) ((Hy (aa,())).bind fun v1=>(Hz (v1.2.1,())).bind fun v2=>(o5 (ag,v1.1,v2.1,())).bind fun v3=>bx (aH (U-1)) v2.2.1 ad v3.1) ((A0 (ag,())).bind fun v4=>some (v4.1,aa,()))
def we:Nat→Bk | 0,_,_,_,_=>none | m+1,U,aa,ad,ag=>yu (we m) U aa ad ag
def Oy(x:bh.D×Int×Unit):Option (yt):=HA (we aN) x.1 x.2.1
abbrev qa:Type:=af.D×bh.D×Unit
def aga(v1:af.D×bh.D×Unit)(v6:Int×bh.D×Unit)(cF:List J.D):Option (qa):=some ((v1.1.1,cF,()),v6.2.1,())
def agb(v1:af.D×bh.D×Unit)(v9:Int×bh.D×Unit)(v11:List J.D):Option (qa):=some ((v1.1.1,v11,()),v9.2.1,())
def agc(v1:af.D×bh.D×Unit)(v4:Int×bh.D×Unit)(hY:List J.D):Option (qa):=some ((v1.1.1,hY,()),v4.2.1,())
def agd(v1:af.D×bh.D×Unit)(jt:Int×bh.D×Unit)(yv:List J.D):Option (qa):=some ((v1.1.1,yv,()),jt.2.1,())
def age(v1:af.D×bh.D×Unit)(v20:Int×bh.D×Unit)(v22:List J.D):Option (qa):=some ((v1.1.1,v22,()),v20.2.1,())
def agf(v1:af.D×bh.D×Unit)(qb:Int×bh.D×Unit)(agh:List J.D):Option (qa):=some ((v1.1.1,agh,()),qb.2.1,())
def agi(v1:af.D×bh.D×Unit)(v4:Int×bh.D×Unit)(agj:List J.D):Option (qa):=some ((v1.1.1,agj,()),v4.2.1,())
def agk(v1:af.D×bh.D×Unit)(HB:Int×bh.D×Unit)(agl:List J.D):Option (qa):=some ((v1.1.1,agl,()),HB.2.1,())
def Oz(a1:bh.D)(a2:Int):Option (qa):=(Oy (a1,a2,())).bind fun v1=>(lC (v1.2.1,10,())).bind fun v2=>cond (!v2.1) (some (v1.1,v2.2.1,())) ((eB (v2.2.1,(v1.1.2.1.length:Int),())).bind fun v3=>(eB (v3.2.1,9,())).bind fun v4=>cond (v4.1==0) ((fz (v4.2.1,[0,1,2,100000,100001],())).bind fun v5=>some ((v5.1,v1.1.2.1,()),v5.2.1,())) (cond (v4.1==1) ((eB (v4.2.1,5,())).bind fun v6=>(aM v1.1.2.1.length v3.1).bind fun bn=>aga v1 v6 (v1.1.2.1.set (0+bn) ((I J v1.1.2.1 (0+bn)).1,v6.1,(I J v1.1.2.1 (0+bn)).2.2.1,(I J v1.1.2.1 (0+bn)).2.2.2.1,(I J v1.1.2.1 (0+bn)).2.2.2.2.1,(I J v1.1.2.1 (0+bn)).2.2.2.2.2.1,(I J v1.1.2.1 (0+bn)).2.2.2.2.2.2.1,(I J v1.1.2.1 (0+bn)).2.2.2.2.2.2.2.1,(I J v1.1.2.1 (0+bn)).2.2.2.2.2.2.2.2.1,()))) (cond (v4.1==2) ((fz (v4.2.1,[(-1),0,511,2047,2048],())).bind fun v9=>(aM v1.1.2.1.length v3.1).bind fun v10=>agb v1 v9 (v1.1.2.1.set (0+v10) ((I J v1.1.2.1 (0+v10)).1,(I J v1.1.2.1 (0+v10)).2.1,v9.1,(I J v1.1.2.1 (0+v10)).2.2.2.1,(I J v1.1.2.1 (0+v10)).2.2.2.2.1,(I J v1.1.2.1 (0+v10)).2.2.2.2.2.1,(I J v1.1.2.1 (0+v10)).2.2.2.2.2.2.1,(I J v1.1.2.1 (0+v10)).2.2.2.2.2.2.2.1,(I J v1.1.2.1 (0+v10)).2.2.2.2.2.2.2.2.1,()))) (cond (v4.1==3) ((aM v1.1.2.1.length v3.1).bind fun v12=>cond (room (((I J v1.1.2.1 (0+v12)).2.2.2.2.2.1).length +([120]:aj).length)) ((aM v1.1.2.1.length v3.1).bind fun gz=>agc v1 v4 (v1.1.2.1.set (0+gz) ((I J v1.1.2.1 (0+gz)).1,(I J v1.1.2.1 (0+gz)).2.1,(I J v1.1.2.1 (0+gz)).2.2.1,(I J v1.1.2.1 (0+gz)).2.2.2.1,(I J v1.1.2.1 (0+gz)).2.2.2.2.1,((I J v1.1.2.1 (0+v12)).2.2.2.2.2.1)++([120]:aj),(I J v1.1.2.1 (0+gz)).2.2.2.2.2.2.1,(I J v1.1.2.1 (0+gz)).2.2.2.2.2.2.2.1,(I J v1.1.2.1 (0+gz)).2.2.2.2.2.2.2.2.1,()))) (none)) (cond (v4.1==4) ((aM v1.1.2.1.length v3.1).bind fun gh=>(rz (v4.2.1,[([122,122]:aj),([122,46]:aj),[],([90]:aj)],())).bind fun j9=>(eB (j9.2.1,6,())).bind fun jt=>(aM v1.1.2.1.length v3.1).bind fun OA=>cond (Nat.beq (0+OA) (0+gh)) (cond (room (((I J v1.1.2.1 (0+gh)).2.2.2.2.2.2.1).length+[(j9.1,jt.1,())].length)) (agd v1 jt (v1.1.2.1.set (0+gh) ((I J v1.1.2.1 (0+gh)).1,(I J v1.1.2.1 (0+gh)).2.1,(I J v1.1.2.1 (0+gh)).2.2.1,(I J v1.1.2.1 (0+gh)).2.2.2.1,(I J v1.1.2.1 (0+gh)).2.2.2.2.1,(I J v1.1.2.1 (0+gh)).2.2.2.2.2.1,((I J v1.1.2.1 (0+gh)).2.2.2.2.2.2.1)++[(j9.1,jt.1,())],(I J v1.1.2.1 (0+gh)).2.2.2.2.2.2.2.1,(I J v1.1.2.1 (0+gh)).2.2.2.2.2.2.2.2.1,()))) (none)) (none)) (cond (v4.1==5) ((fz (v4.2.1,[(-1),1,5,400,401],())).bind fun v20=>(aM v1.1.2.1.length v3.1).bind fun v21=>age v1 v20 (v1.1.2.1.set (0+v21) ((I J v1.1.2.1 (0+v21)).1,(I J v1.1.2.1 (0+v21)).2.1,(I J v1.1.2.1 (0+v21)).2.2.1,(I J v1.1.2.1 (0+v21)).2.2.2.1,(I J v1.1.2.1 (0+v21)).2.2.2.2.1,(I J v1.1.2.1 (0+v21)).2.2.2.2.2.1,(I J v1.1.2.1 (0+v21)).2.2.2.2.2.2.1,v20.1,(I J v1.1.2.1 (0+v21)).2.2.2.2.2.2.2.2.1,()))) (cond (v4.1==6) ((fz (v4.2.1,[(-1),1,24,25],())).bind fun qb=>(aM v1.1.2.1.length v3.1).bind fun v24=>agf v1 qb (v1.1.2.1.set (0+v24) ((I J v1.1.2.1 (0+v24)).1,(I J v1.1.2.1 (0+v24)).2.1,(I J v1.1.2.1 (0+v24)).2.2.1,(I J v1.1.2.1 (0+v24)).2.2.2.1,(I J v1.1.2.1 (0+v24)).2.2.2.2.1,(I J v1.1.2.1 (0+v24)).2.2.2.2.2.1,(I J v1.1.2.1 (0+v24)).2.2.2.2.2.2.1,(I J v1.1.2.1 (0+v24)).2.2.2.2.2.2.2.1,qb.1,()))) (cond (v4.1==7) (cond (room (v1.1.2.1.length +([(aH (v1.1.1-1),1,0,0,0,([]:aj),([]:List aB.D),0,0,())]).length)) (agi v1 v4 (v1.1.2.1++([(aH (v1.1.1-1),1,0,0,0,[],[],0,0,())]))) (none)) ((eB (v4.2.1,5,())).bind fun HB=>(aM v1.1.2.1.length v3.1).bind fun v28=>agk v1 HB (v1.1.2.1.set (0+v28) (HB.1,(I J v1.1.2.1 (0+v28)).2.1,(I J v1.1.2.1 (0+v28)).2.2.1,(I J v1.1.2.1 (0+v28)).2.2.2.1,(I J v1.1.2.1 (0+v28)).2.2.2.2.1,(I J v1.1.2.1 (0+v28)).2.2.2.2.2.1,(I J v1.1.2.1 (0+v28)).2.2.2.2.2.2.1,(I J v1.1.2.1 (0+v28)).2.2.2.2.2.2.2.1,(I J v1.1.2.1 (0+v28)).2.2.2.2.2.2.2.2.1,())))))))))))
def OB(x:bh.D×Int×Unit):Option (qa):=Oz x.1 x.2.1
abbrev o8:Type:=(List aO.D)×bh.D×Unit
abbrev Bl:Type:=Int→Int→bh.D→(List aO.D)→Option (o8)
def HC(bg:Bl)(a1:bh.D)(a2:Int):Option (o8):=(eB (a1,aH (a2+1),())).bind fun v1=>bg 1 v1.1 v1.2.1 ([]:List aO.D)
def Wi(bg:Bl)(U:Int)(v1:Int×bh.D×Unit)(aa:Int)(v5:Int×bh.D×Unit)(v6:List aO.D):Option (o8):=bg (aH (U+v1.1)) (aH (aa-1)) v5.2.1 v6
def agm(v10:Int×bh.D×Unit)(v12:List aO.D):Option (o8):=some (v12,v10.2.1,())
def agn(gz:Int×bh.D×Unit)(gh:List aO.D):Option (o8):=some (gh,gz.2.1,())
def ago(j9:Int×bh.D×Unit)(OA:List aO.D):Option (o8):=some (OA,j9.2.1,())
def agp(yv:Int×bh.D×Unit)(v21:List aO.D):Option (o8):=some (v21,yv.2.1,())
def agq(v22:Int×bh.D×Unit)(v24:List aO.D):Option (o8):=some (v24,v22.2.1,())
def yw(bg:Bl)(U:Int)(aa:Int)(ad:bh.D)(ag:List aO.D):Option (o8):=cond (decide (aa>0)) ((eB (ad,3,())).bind fun v1=>(eB (v1.2.1,3,())).bind fun v2=>(eB (v2.2.1,9,())).bind fun v3=>(eB (v3.2.1,20,())).bind fun v4=>(fz (v4.2.1,[0,0,2,13,28],())).bind fun v5=>cond (room (ag.length+[(aH (U+v1.1),aH (1+v2.1),aH (1+v3.1),aH (1+v4.1),v5.1,())].length)) (Wi bg U v1 aa v5 (ag++[(aH (U+v1.1),aH (1+v2.1),aH (1+v3.1),aH (1+v4.1),v5.1,())])) (none)) (cond (decide ((ag.length:Int)>0)) ((lC (ad,10,())).bind fun bn=>cond bn.1 ((eB (bn.2.1,(ag.length:Int),())).bind fun cF=>(eB (cF.2.1,5,())).bind fun v9=>cond (v9.1==0) ((fz (v9.2.1,[(-1),0,100000,100001],())).bind fun v10=>(aM ag.length cF.1).bind fun v11=>agm v10 (ag.set (0+v11) (v10.1,(I aO ag (0+v11)).2.1,(I aO ag (0+v11)).2.2.1,(I aO ag (0+v11)).2.2.2.1,(I aO ag (0+v11)).2.2.2.2.1,()))) (cond (v9.1==1) ((fz (v9.2.1,[0,4],())).bind fun gz=>(aM ag.length cF.1).bind fun hY=>agn gz (ag.set (0+hY) ((I aO ag (0+hY)).1,gz.1,(I aO ag (0+hY)).2.2.1,(I aO ag (0+hY)).2.2.2.1,(I aO ag (0+hY)).2.2.2.2.1,()))) (cond (v9.1==2) ((fz (v9.2.1,[0,1000000,1000001],())).bind fun j9=>(aM ag.length cF.1).bind fun jt=>ago j9 (ag.set (0+jt) ((I aO ag (0+jt)).1,(I aO ag (0+jt)).2.1,j9.1,(I aO ag (0+jt)).2.2.2.1,(I aO ag (0+jt)).2.2.2.2.1,()))) (cond (v9.1==3) ((fz (v9.2.1,[0,23],())).bind fun yv=>(aM ag.length cF.1).bind fun v20=>agp yv (ag.set (0+v20) ((I aO ag (0+v20)).1,(I aO ag (0+v20)).2.1,(I aO ag (0+v20)).2.2.1,yv.1,(I aO ag (0+v20)).2.2.2.2.1,()))) ((fz (v9.2.1,[(-1),200,201],())).bind fun v22=>(aM ag.length cF.1).bind fun qb=>agq v22 (ag.set (0+qb) ((I aO ag (0+qb)).1,(I aO ag (0+qb)).2.1,(I aO ag (0+qb)).2.2.1,(I aO ag (0+qb)).2.2.2.1,v22.1,()))))))) (some (ag,bn.2.1,()))) (some (ag,ad,())))
def wg:Nat→Bl | 0,_,_,_,_=>none | m+1,U,aa,ad,ag=>yw (wg m) U aa ad ag
def OC(x:bh.D×Int×Unit):Option (o8):=HC (wg aN) x.1 x.2.1
abbrev OD:Type:=aR.D×bh.D×Unit
def agr(v1:aR.D×bh.D×Unit)(v9:Int×bh.D×Unit)(v10:List bt.D):Option (OD):=some ((v1.1.1,v1.1.2.1,v1.1.2.2.1,v10,()),v9.2.1,())
def OE(a1:bh.D)(a2:Int):Option (OD):=(Ov (a1,a2,())).bind fun v1=>(lC (v1.2.1,10,())).bind fun v2=>cond (!v2.1) (some (v1.1,v2.2.1,())) ((eB (v2.2.1,4,())).bind fun v3=>cond (v3.1==0) ((OB (v3.2.1,10,())).bind fun v4=>some ((v4.1,v1.1.2.1,v1.1.2.2.1,v1.1.2.2.2.1,()),v4.2.1,())) (cond (v3.1==1) ((fz (v3.2.1,[(-1),0,30,31],())).bind fun v5=>some ((v1.1.1,v5.1,v1.1.2.2.1,v1.1.2.2.2.1,()),v5.2.1,())) (cond (v3.1==2) ((OC (v3.2.1,21,())).bind fun v6=>some ((v1.1.1,v1.1.2.1,v6.1,v1.1.2.2.2.1,()),v6.2.1,())) ((eB (v3.2.1,5,())).bind fun bn=>(eB (bn.2.1,3,())).bind fun cF=>(eB (cF.2.1,3,())).bind fun v9=>cond (room (v1.1.2.2.2.1.length +([(bn.1,cF.1,v9.1,(0,([]:aj),()),())]).length)) (agr v1 v9 (v1.1.2.2.2.1++([(bn.1,cF.1,v9.1,(0,[],()),())]))) (none)))))
def OF(x:bh.D×Int×Unit):Option (OD):=OE x.1 x.2.1
def OG(a1:List Int)(a2:Int):Option (Int×Unit):=cond (decide (aH (2+aH (Int.tdiv (a1.length:Int) 20))>a2)) (some (a2,())) (some (aH (2+aH (Int.tdiv (a1.length:Int) 20)),()))
def OH(x:(List Int)×Int×Unit):Option (Int×Unit):=OG x.1 x.2.1
abbrev Wj:Type:=aR.D×Int×Int×aG.D×Int×Unit
def OI(a1:List Int):Option (Wj):=(N9 (a1,())).bind fun v1=>(OH (a1,40,())).bind fun v2=>(OF (v1.1,v2.1,())).bind fun v3=>(fz (v3.2.1,[1,1,2,3,1,2,0,4],())).bind fun v4=>(AS (v3.1,v4.1,())).bind fun v5=>(fz (v4.2.1,[1,1,1,1,1,0,2,(-1)],())).bind fun v6=>(eB (v6.2.1,50,())).bind fun bn=>(lC (bn.2.1,12,())).bind fun cF=>cond cF.1 ((fz (cF.2.1,[0,(-1),1,100000,100001],())).bind fun v9=>(lC (v9.2.1,12,())).bind fun v10=>cond v10.1 ((fz (v10.2.1,[0,(-1),1000000,1000001],())).bind fun v11=>(rB (v11.2.1,v3.1.1,())).bind fun v12=>some (v3.1,v4.1,v11.1,v12.1,v9.1,())) ((rB (v10.2.1,v3.1.1,())).bind fun gz=>some (v3.1,v4.1,aH (v5.1.2.1+v6.1),gz.1,v9.1,()))) ((lC (cF.2.1,12,())).bind fun hY=>cond hY.1 ((fz (hY.2.1,[0,(-1),1000000,1000001],())).bind fun gh=>(rB (gh.2.1,v3.1.1,())).bind fun j9=>some (v3.1,v4.1,gh.1,j9.1,aH (100+bn.1),())) ((rB (hY.2.1,v3.1.1,())).bind fun jt=>some (v3.1,v4.1,aH (v5.1.2.1+v6.1),jt.1,aH (100+bn.1),())))
def OJ(x:(List Int)×Unit):Option (Wj):=OI x.1
structure wh where
 bg:Int→af.D→af.D→Option (Bool×Unit)
 cL:Int→Int→af.D→af.D→J.D→J.D→Option (Bool×Unit)
def HD(k:wh)(a1:af.D)(a2:af.D):Option (Bool×Unit):=cond (a1.1 != a2.1) (some (false,())) (cond ((a1.2.1.length:Int) !=(a2.2.1.length:Int)) (some (false,())) (k.bg 0 a1 a2))
def Bm(k:wh)(U:Int)(aa:af.D)(ad:af.D):Option (Bool×Unit):=cond (decide (U<(aa.2.1.length:Int))) ((aM aa.2.1.length U).bind fun v1=>(aM ad.2.1.length U).bind fun v2=>cond ((I J aa.2.1 v1).1 !=(I J ad.2.1 v2).1) (some (false,())) (cond ((I J aa.2.1 v1).2.1 !=(I J ad.2.1 v2).2.1) (some (false,())) (cond ((I J aa.2.1 v1).2.2.1 !=(I J ad.2.1 v2).2.2.1) (some (false,())) (cond ((I J aa.2.1 v1).2.2.2.1 !=(I J ad.2.1 v2).2.2.2.1) (some (false,())) (cond ((I J aa.2.1 v1).2.2.2.2.1 !=(I J ad.2.1 v2).2.2.2.2.1) (some (false,())) (cond (!(bD ((I J aa.2.1 v1).2.2.2.2.2.1) ((I J ad.2.1 v2).2.2.2.2.2.1))) (some (false,())) (cond ((I J aa.2.1 v1).2.2.2.2.2.2.2.1 !=(I J ad.2.1 v2).2.2.2.2.2.2.2.1) (some (false,())) (cond ((I J aa.2.1 v1).2.2.2.2.2.2.2.2.1 !=(I J ad.2.1 v2).2.2.2.2.2.2.2.2.1) (some (false,())) (cond ((((I J aa.2.1 v1).2.2.2.2.2.2.1).length:Int) !=(((I J ad.2.1 v2).2.2.2.2.2.2.1).length:Int)) (some (false,())) (k.cL U 0 aa ad (I J aa.2.1 v1) (I J ad.2.1 v2))))))))))) (some (true,()))
def ags(k:wh)(U:Int)(aa:Int)(ad:af.D)(ag:af.D)(al:J.D)(aE:J.D):Option (Bool×Unit):=cond (decide (aa<(al.2.2.2.2.2.2.1.length:Int))) ((aM al.2.2.2.2.2.2.1.length aa).bind fun v1=>(aM aE.2.2.2.2.2.2.1.length aa).bind fun v2=>cond (!(bD ((I aB al.2.2.2.2.2.2.1 v1).1) ((I aB aE.2.2.2.2.2.2.1 v2).1)&&(((I aB al.2.2.2.2.2.2.1 v1).2.1 ==(I aB aE.2.2.2.2.2.2.1 v2).2.1)&&true))) (some (false,())) (k.cL U (aH (aa+1)) ad ag al aE)) (k.bg (aH (U+1)) ad ag)
def Wk(k:wh):wh:=⟨Bm k,ags k⟩
def qc:Nat→wh:=dJ Wk ⟨fun _ _ _=>none,fun _ _ _ _ _ _=>none⟩
def OK(x:af.D×af.D×Unit):Option (Bool×Unit):=HD (qc aN) x.1 x.2.1
structure wi where
 bg:Int→aR.D→aR.D→Option (Bool×Unit)
 eY:Int→aR.D→aR.D→Option (Bool×Unit)
def HE(k:wi)(a1:aR.D)(a2:aR.D):Option (Bool×Unit):=(OK (a1.1,a2.1,())).bind fun v1=>cond (!v1.1) (some (false,())) (cond (a1.2.1 != a2.2.1) (some (false,())) (cond ((a1.2.2.1.length:Int) !=(a2.2.2.1.length:Int)) (some (false,())) (cond ((a1.2.2.2.1.length:Int) !=(a2.2.2.2.1.length:Int)) (some (false,())) (k.bg 0 a1 a2))))
def HF(k:wi)(U:Int)(aa:aR.D)(ad:aR.D):Option (Bool×Unit):=cond (decide (U<(aa.2.2.1.length:Int))) ((aM aa.2.2.1.length U).bind fun v1=>(aM ad.2.2.1.length U).bind fun v2=>cond (!(((I aO aa.2.2.1 v1).1 ==(I aO ad.2.2.1 v2).1)&&(((I aO aa.2.2.1 v1).2.1 ==(I aO ad.2.2.1 v2).2.1)&&(((I aO aa.2.2.1 v1).2.2.1 ==(I aO ad.2.2.1 v2).2.2.1)&&(((I aO aa.2.2.1 v1).2.2.2.1 ==(I aO ad.2.2.1 v2).2.2.2.1)&&(((I aO aa.2.2.1 v1).2.2.2.2.1 ==(I aO ad.2.2.1 v2).2.2.2.2.1)&&true)))))) (some (false,())) (k.bg (aH (U+1)) aa ad)) (k.eY 0 aa ad)
def HG(k:wi)(U:Int)(aa:aR.D)(ad:aR.D):Option (Bool×Unit):=cond (decide (U<(aa.2.2.2.1.length:Int))) ((aM aa.2.2.2.1.length U).bind fun v1=>(aM ad.2.2.2.1.length U).bind fun v2=>cond (!(((I bt aa.2.2.2.1 v1).1 ==(I bt ad.2.2.2.1 v2).1)&&(((I bt aa.2.2.2.1 v1).2.1 ==(I bt ad.2.2.2.1 v2).2.1)&&(((I bt aa.2.2.2.1 v1).2.2.1 ==(I bt ad.2.2.2.1 v2).2.2.1)&&(((((I bt aa.2.2.2.1 v1).2.2.2.1).1 ==((I bt ad.2.2.2.1 v2).2.2.2.1).1)&&(bD (((I bt aa.2.2.2.1 v1).2.2.2.1).2.1) (((I bt ad.2.2.2.1 v2).2.2.2.1).2.1)&&true))&&true))))) (some (false,())) (k.eY (aH (U+1)) aa ad)) (some (true,()))
def Wl(k:wi):wi:=⟨HF k,HG k⟩
def rD:Nat→wi:=dJ Wl ⟨fun _ _ _=>none,fun _ _ _=>none⟩
def Bn(x:aR.D×aR.D×Unit):Option (Bool×Unit):=HE (rD aN) x.1 x.2.1
abbrev HH:Type:=Int→aR.D→aR.D→Option (Bool×Unit)
def HI(oT:HH)(a1:List Int):Option (Bool×Unit):=(N8 (a1,())).bind fun v1=>cond v1.1 (some (true,())) ((OJ (a1,())).bind fun v2=>(vv (v2.1,v2.2.1,v2.2.2.1,v2.2.2.2.1,v2.2.2.2.2.1,())).bind fun v3=>(Hl (v2.1,v2.2.1,v2.2.2.1,v2.2.2.2.1,v2.2.2.2.2.1,())).bind fun v4=>cond (!(v3.2.2.1==v4.2.2.1)) (some (false,())) (cond (!v3.2.2.1) ((AR (v2.1,())).bind fun v5=>cond (!v5.1) (some (true,())) ((Bn (v3.1,v2.1,())).bind fun v6=>some (v6.1,()))) ((vv (v3.1,v2.2.1,v2.2.2.1,v2.2.2.2.1,v2.2.2.2.2.1,())).bind fun bn=>(vv (v3.1,v2.2.1,aH (v2.2.2.1-1),v2.2.2.2.1,v2.2.2.2.2.1,())).bind fun cF=>(AR (v3.1,())).bind fun v9=>cond (!v9.1) (some (false,())) (cond bn.2.2.1 (some (false,())) (cond (!((bn.2.1.1==v3.2.1.1)&&(bD bn.2.1.2.1 v3.2.1.2.1&&true))) (some (false,())) ((Bn (bn.1,v3.1,())).bind fun v10=>cond (!v10.1) (some (false,())) (cond cF.2.2.1 (some (false,())) (cond (!((cF.2.1.1==0)&&(bD cF.2.1.2.1 ([]:aj)&&true))) (some (false,())) ((Bn (cF.1,v3.1,())).bind fun v11=>cond (!v11.1) (some (false,())) (cond (v2.2.2.2.1.1==22) (cond (v3.2.1.1==0) (some ((v3.1.2.2.1.length:Int)==0,())) (oT 0 v2.1 v3.1)) (oT 0 v2.1 v3.1)))))))))))
def yx(oT:HH)(U:Int)(aa:aR.D)(ad:aR.D):Option (Bool×Unit):=cond (decide (U<(aa.2.2.1.length:Int))) ((aM ad.2.2.1.length U).bind fun v1=>(aM aa.2.2.1.length U).bind fun v2=>cond (!(((I aO ad.2.2.1 (0+v1)).1 ==(I aO aa.2.2.1 v2).1)&&(((I aO ad.2.2.1 (0+v1)).2.1 ==(I aO aa.2.2.1 v2).2.1)&&(((I aO ad.2.2.1 (0+v1)).2.2.1 ==(I aO aa.2.2.1 v2).2.2.1)&&(((I aO ad.2.2.1 (0+v1)).2.2.2.1 ==(I aO aa.2.2.1 v2).2.2.2.1)&&(((I aO ad.2.2.1 (0+v1)).2.2.2.2.1 ==(I aO aa.2.2.1 v2).2.2.2.2.1)&&true)))))) (some (false,())) (oT (aH (U+1)) aa ad)) (cond (decide ((ad.2.2.1.length:Int)≤aH ((aa.2.2.1.length:Int)+1))) (cond (decide ((ad.2.2.1.length:Int)≤20)) (some (decide (ad.2.1≤aa.2.1),())) (some (false,()))) (some (false,())))
def tg:Nat→HH | 0,_,_,_=>none | m+1,U,aa,ad=>yx (tg m) U aa ad
def Wm(x:(List Int)×Unit):Option (Bool×Unit):=HI (tg aN) x.1
end
end Go.LM.kO
