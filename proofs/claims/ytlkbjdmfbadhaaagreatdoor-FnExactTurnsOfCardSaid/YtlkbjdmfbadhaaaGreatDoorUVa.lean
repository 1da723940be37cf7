/- The functions that the law reaches, as plain functions. Printed by a program. Conditions: each theorem's own hypotheses. -/
import Derived.Test.YtlkbjdmfbadhaaaGreatDoorULmd
import Derived.Test.YtlkbjdmfbadhaaaGreatDoorUIn
set_option linter.unusedVariables false
set_option linter.unusedSimpArgs false
namespace Go.LM.j7
abbrev aj:Type:=List UInt8
noncomputable section
@[reducible] def an:ad:=.st (.cons (.int .i64) (.cons .str .nil))
@[reducible] def a6:ad:=.st (.cons (.int .i64) (.cons (.int .i64) (.cons (.int .i64) (.cons (.int .i64) (.cons (.int .i64) .nil)))))
@[reducible] def aJ:ad:=.st (.cons .str (.cons (.int .i64) .nil))
@[reducible] def J:ad:=.st (.cons (.int .i64) (.cons (.int .i64) (.cons (.int .i64) (.cons (.int .i64) (.cons (.int .i64) (.cons .str (.cons (.sl aJ) (.cons (.int .i64) (.cons (.int .i64) .nil)))))))))
@[reducible] def ah:ad:=.st (.cons (.int .i64) (.cons (.sl J) .nil))
@[reducible] def bP:ad:=.st (.cons (.int .i64) (.cons (.int .i64) (.cons (.int .i64) (.cons an .nil))))
@[reducible] def aY:ad:=.st (.cons ah (.cons (.int .i64) (.cons (.sl a6) (.cons (.sl bP) .nil))))
@[reducible] def aI:ad:=.st (.cons (.int .i64) (.cons .str (.cons .str (.cons (.int .i64) (.cons (.int .i64) (.cons .str .nil))))))
@[reducible] def aK:ad:=.st (.cons (.int .i64) (.cons (.int .i64) (.cons (.sl (.int .i64)) .nil)))
@[reducible] def a8:ad:=.st (.cons (.int .i64) (.cons .str (.cons (.int .i64) (.cons (.int .i64) .nil))))
@[reducible] def aN:ad:=.st (.cons ah (.cons aK (.cons aI .nil)))
@[reducible] def ag0:ad:=.st (.cons (.sl (.int .u8)) (.cons (.int .i64) (.cons (.int .i64) .nil)))
@[reducible] def aP:ad:=.st (.cons (.int .i64) (.cons (.int .i64) (.cons (.int .i64) (.cons aI .nil))))
@[reducible] def aZ:ad:=.st (.cons (.int .i64) (.cons (.int .i64) (.cons aI (.cons (.int .i64) (.cons an .nil)))))
@[reducible] def j8:ad:=.st (.cons .str (.cons .bool .nil))
def MD(a1:Int)(a2:Int)(a3:Int):Option (Bool×Unit):=cond (decide (a1≥a2)) (some (decide (a1≤a3),())) (some (false,()))
def dG(x:Int×Int×Int×Unit):Option (Bool×Unit):=MD x.1 x.2.1 x.2.2.1
abbrev Ez:Type:=(List a6.D)→(List a6.D)→Int→Int→Option (Bool×Unit)
def EA(k2:Ez)(a1:List a6.D):Option (Bool×Unit):=k2 a1 a1 (a1.length:Int) 0
def EB(k2:Ez)(U:List a6.D)(aa:List a6.D)(ae:Int)(ai:Int):Option (Bool×Unit):=cond (decide (ai<ae)) ((ix aa.length ai).bind fun v1=>(dG ((I a6 aa v1).1,1,100000,())).bind fun v2=>cond (!v2.1) (some (false,())) (cond (decide (ai>0)) ((ix U.length (ax (ai-1))).bind fun v3=>cond (decide ((I a6 U v3).1 >(I a6 aa v1).1)) (some (false,())) ((dG ((I a6 aa v1).2.1,1,3,())).bind fun v4=>cond (!v4.1) (some (false,())) ((dG ((I a6 aa v1).2.2.1,1,1000000,())).bind fun v5=>cond (!v5.1) (some (false,())) ((dG ((I a6 aa v1).2.2.2.1,1,22,())).bind fun v6=>cond (!v6.1) (some (false,())) ((dG ((I a6 aa v1).2.2.2.2.1,0,200,())).bind fun bA=>cond (!bA.1) (some (false,())) (k2 U aa ae (ax (ai+1)))))))) ((dG ((I a6 aa v1).2.1,1,3,())).bind fun cF=>cond (!cF.1) (some (false,())) ((dG ((I a6 aa v1).2.2.1,1,1000000,())).bind fun v9=>cond (!v9.1) (some (false,())) ((dG ((I a6 aa v1).2.2.2.1,1,22,())).bind fun v10=>cond (!v10.1) (some (false,())) ((dG ((I a6 aa v1).2.2.2.2.1,0,200,())).bind fun v11=>cond (!v11.1) (some (false,())) (k2 U aa ae (ax (ai+1))))))))) (some (decide ((U.length:Int)≤20),()))
def vm:Nat→Ez | 0,_,_,_,_=>none | m+1,U,aa,ae,ai=>EB (vm m) U aa ae ai
def ME(x:(List a6.D)×Unit):Option (Bool×Unit):=EA (vm aM) x.1
def Vz(a1:Int):Option (Bool×Unit):=cond (decide (a1≥97)) (cond (decide (a1≤122)) (some (true,())) (cond (decide (a1≥48)) (cond (decide (a1≤57)) (some (true,())) (cond (a1==46) (some (true,())) (cond (a1==95) (some (true,())) (some (a1==45,()))))) (cond (a1==46) (some (true,())) (cond (a1==95) (some (true,())) (some (a1==45,())))))) (cond (decide (a1≥48)) (cond (decide (a1≤57)) (some (true,())) (cond (a1==46) (some (true,())) (cond (a1==95) (some (true,())) (some (a1==45,()))))) (cond (a1==46) (some (true,())) (cond (a1==95) (some (true,())) (some (a1==45,())))))
def MF(x:Int×Unit):Option (Bool×Unit):=Vz x.1
abbrev EC:Type:=(aj)→Int→Int→Option (Bool×Unit)
def ED(k2:EC)(a1:aj):Option (Bool×Unit):=k2 a1 (a1.length:Int) 0
def EE(k2:EC)(U:aj)(aa:Int)(ae:Int):Option (Bool×Unit):=cond (decide (ae<aa)) ((ix U.length ae).bind fun v1=>cond (((U.getD v1 0).toNat:Int) != 47) ((ix U.length ae).bind fun v2=>(MF (((U.getD v2 0).toNat:Int),())).bind fun v3=>cond (!v3.1) (some (false,())) (k2 U aa (ax (ae+1)))) (k2 U aa (ax (ae+1)))) ((dG ((U.length:Int),1,60,())).bind fun v4=>some (v4.1,()))
def vn:Nat→EC | 0,_,_,_=>none | m+1,U,aa,ae=>EE (vn m) U aa ae
def AL(x:(aj)×Unit):Option (Bool×Unit):=ED (vn aM) x.1
abbrev AM:Type:=(List J.D)×Unit
abbrev EF:Type:=ah.D→Int→Int→Int→Option (AM)
def EG(k2:EF)(a1:ah.D)(a2:Int):Option (AM):=k2 a1 a2 (a1.2.1.length:Int) 0
def EH(k2:EF)(U:ah.D)(aa:Int)(ae:Int)(ai:Int):Option (AM):=cond (decide (ai<ae)) ((ix U.2.1.length ai).bind fun v1=>cond ((I J U.2.1 v1).1==aa) ((ix U.2.1.length ai).bind fun v2=>some ([I J U.2.1 v2],())) (k2 U aa ae (ax (ai+1)))) (some ([],()))
def vo:Nat→EF | 0,_,_,_,_=>none | m+1,U,aa,ae,ai=>EH (vo m) U aa ae ai
def gm(x:ah.D×Int×Unit):Option (AM):=EG (vo aM) x.1 x.2.1
abbrev EI:Type:=Int→Int→Int→ah.D→Option (Int×ah.D×Unit)
def EJ(k2:EI)(a1:ah.D)(a2:Int):Option (Int×ah.D×Unit):=k2 a2 (a1.2.1.length:Int) 0 a1
def EK(k2:EI)(U:Int)(aa:Int)(ae:Int)(ai:ah.D):Option (Int×ah.D×Unit):=cond (decide (ae<aa)) ((ix ai.2.1.length ae).bind fun v1=>cond ((I J ai.2.1 (0+v1)).1==U) ((ix ai.2.1.length ae).bind fun v2=>some ((((0+v2):Nat):Int),ai,())) (k2 U aa (ax (ae+1)) ai)) (some ((-1),ai,()))
def vp:Nat→EI | 0,_,_,_,_=>none | m+1,U,aa,ae,ai=>EK (vp m) U aa ae ai
def yp(x:ah.D×Int×Unit):Option (Int×ah.D×Unit):=EJ (vp aM) x.1 x.2.1
abbrev EL:Type:=(List Int)→Int→Int→Int→Option (Int×Unit)
def EM(k2:EL)(a1:List Int)(a2:Int):Option (Int×Unit):=k2 a1 a2 (a1.length:Int) 0
def EN(k2:EL)(U:List Int)(aa:Int)(ae:Int)(ai:Int):Option (Int×Unit):=cond (decide (ai<ae)) ((ix U.length ai).bind fun v1=>cond (aa==I (ad.int .i64) U v1) (some (ai,())) (k2 U aa ae (ax (ai+1)))) (some ((-1),()))
def vq:Nat→EL | 0,_,_,_,_=>none | m+1,U,aa,ae,ai=>EN (vq m) U aa ae ai
def MG(x:(List Int)×Int×Unit):Option (Int×Unit):=EM (vq aM) x.1 x.2.1
def MH(a1:List Int)(a2:Int):Option (Bool×Unit):=(MG (a1,a2,())).bind fun v1=>some (decide (v1.1≥0),())
def vr(x:(List Int)×Int×Unit):Option (Bool×Unit):=MH x.1 x.2.1
structure vt where
 bs:ah.D→Int→(List Int)→(List Int)→Option ((List Int)×Unit)
 fV:ah.D→Int→(List aJ.D)→Int→Int→(List Int)→(List Int)→Option ((List Int)×Unit)
def EO(k:vt)(a1:ah.D)(a2:Int):Option ((List Int)×Unit):=k.bs a1 0 ([]:List Int) [a2]
def rp(k:vt)(U:ah.D)(aa:Int)(ae:List Int)(ai:List Int):Option ((List Int)×Unit):=cond (decide (aa<(ai.length:Int))) ((ix ai.length aa).bind fun v1=>(gm (U,I (ad.int .i64) ai (0+v1),())).bind fun v2=>cond (!(!List.isEmpty v2.1)) (k.bs U (ax (aa+1)) ae ai) (cond (!List.isEmpty v2.1) (k.fV U aa ((I J v2.1 0).2.2.2.2.2.2.1) (((I J v2.1 0).2.2.2.2.2.2.1).length:Int) 0 ae ai) (none))) (some (ae,()))
def AN(k:vt)(U:ah.D)(aa:Int)(ae:List aJ.D)(ai:Int)(aq:Int)(az:List Int)(aU:List Int):Option ((List Int)×Unit):=cond (decide (aq<ai)) ((ix ae.length aq).bind fun v1=>(vr (az,(I aJ ae v1).2.1,())).bind fun v2=>cond (!v2.1) (cond (room (az.length+[(I aJ ae v1).2.1].length)) (cond (room (aU.length+[(I aJ ae v1).2.1].length)) (k.fV U aa ae ai (ax (aq+1)) (az++[(I aJ ae v1).2.1]) (aU++[(I aJ ae v1).2.1])) (none)) (none)) (k.fV U aa ae ai (ax (aq+1)) az aU)) (k.bs U (ax (aa+1)) az aU)
def VA(k:vt):vt:=⟨rp k,AN k⟩
def m3:Nat→vt:=ew VA ⟨fun _ _ _ _=>none,fun _ _ _ _ _ _ _=>none⟩
def yq(x:ah.D×Int×Unit):Option ((List Int)×Unit):=EO (m3 aM) x.1 x.2.1
structure vu where
 k3:Int→Int→(List J.D)→Int→Int→Option (Int×Unit)
 df:Int→Int→(List J.D)→Int→Int→(List aJ.D)→Int→Int→Option (Int×Unit)
def EP(k:vu)(a1:ah.D)(a2:Int):Option (Int×Unit):=k.k3 a2 0 a1.2.1 (a1.2.1.length:Int) 0
def AO(k:vu)(U:Int)(aa:Int)(ae:List J.D)(ai:Int)(aq:Int):Option (Int×Unit):=cond (decide (aq<ai)) ((ix ae.length aq).bind fun v1=>k.df U aa ae ai aq ((I J ae v1).2.2.2.2.2.2.1) (((I J ae v1).2.2.2.2.2.2.1).length:Int) 0) (some (aa,()))
def AP(k:vu)(U:Int)(aa:Int)(ae:List J.D)(ai:Int)(aq:Int)(az:List aJ.D)(aU:Int)(bn:Int):Option (Int×Unit):=cond (decide (bn<aU)) ((ix az.length bn).bind fun v1=>cond ((I aJ az v1).2.1==U) (k.df U (ax (aa+1)) ae ai aq az aU (ax (bn+1))) (k.df U aa ae ai aq az aU (ax (bn+1)))) (k.k3 U aa ae ai (ax (aq+1)))
def VB(k:vu):vu:=⟨AO k,AP k⟩
def qd:Nat→vu:=ew VB ⟨fun _ _ _ _ _=>none,fun _ _ _ _ _ _ _ _=>none⟩
def AQ(x:ah.D×Int×Unit):Option (Int×Unit):=EP (qd aM) x.1 x.2.1
abbrev ER:Type:=Int→(List J.D)→Int→Int→Option (Int×Unit)
def ES(k3:ER)(a1:ah.D):Option (Int×Unit):=k3 0 a1.2.1 (a1.2.1.length:Int) 0
def ET(k3:ER)(U:Int)(aa:List J.D)(ae:Int)(ai:Int):Option (Int×Unit):=cond (decide (ai<ae)) ((ix aa.length ai).bind fun v1=>k3 (ax (U +(((I J aa v1).2.2.2.2.2.1).length:Int))) aa ae (ax (ai+1))) (some (U,()))
def vv:Nat→ER | 0,_,_,_,_=>none | m+1,U,aa,ae,ai=>ET (vv m) U aa ae ai
def vw(x:ah.D×Unit):Option (Int×Unit):=ES (vv aM) x.1
abbrev EU:Type:=ah.D→Int→Int→Int→(List Int)→Option (Int×Int×Unit)
def EV(bs:EU)(a1:ah.D)(a2:Int):Option (Int×Int×Unit):=(yq (a1,a2,())).bind fun v1=>bs a1 0 (v1.1.length:Int) 0 v1.1
def EW(bs:EU)(U:ah.D)(aa:Int)(ae:Int)(ai:Int)(aq:List Int):Option (Int×Int×Unit):=cond (decide (ai<ae)) ((ix aq.length ai).bind fun v1=>(gm (U,I (ad.int .i64) aq (0+v1),())).bind fun v2=>cond (!List.isEmpty v2.1) (cond (!List.isEmpty v2.1) (bs U (ax (aa +(((I J v2.1 0).2.2.2.2.2.1).length:Int))) ae (ax (ai+1)) aq) (none)) (bs U aa ae (ax (ai+1)) aq)) (some (aa,(aq.length:Int),()))
def rq:Nat→EU | 0,_,_,_,_,_=>none | m+1,U,aa,ae,ai,aq=>EW (rq m) U aa ae ai aq
def AR(x:ah.D×Int×Unit):Option (Int×Int×Unit):=EV (rq aM) x.1 x.2.1
def MI(a1:ah.D)(a2:J.D):Option (Bool×Unit):=(AR (a1,a2.1,())).bind fun v1=>cond (decide (a2.2.2.2.2.2.2.2.1>0)) (cond (decide (v1.1>a2.2.2.2.2.2.2.2.1)) (some (true,())) (cond (decide (a2.2.2.2.2.2.2.2.2.1>0)) (some (decide (v1.2.1>a2.2.2.2.2.2.2.2.2.1),())) (some (false,())))) (cond (decide (a2.2.2.2.2.2.2.2.2.1>0)) (some (decide (v1.2.1>a2.2.2.2.2.2.2.2.2.1),())) (some (false,())))
def MJ(x:ah.D×J.D×Unit):Option (Bool×Unit):=MI x.1 x.2.1
abbrev EX:Type:=(List J.D)→ah.D→Int→Int→Option (Int×Unit)
def EY(k2:EX)(a1:List J.D)(a2:ah.D):Option (Int×Unit):=k2 a1 a2 (a1.length:Int) 0
def EZ(k2:EX)(U:List J.D)(aa:ah.D)(ae:Int)(ai:Int):Option (Int×Unit):=cond (decide (ai<ae)) ((ix U.length ai).bind fun v1=>(MJ (aa,I J U v1,())).bind fun v2=>cond v2.1 (some (ai,())) (k2 U aa ae (ax (ai+1)))) (some ((-1),()))
def vx:Nat→EX | 0,_,_,_,_=>none | m+1,U,aa,ae,ai=>EZ (vx m) U aa ae ai
def MK(x:(List J.D)×ah.D×Unit):Option (Int×Unit):=EY (vx aM) x.1 x.2.1
def ML(a1:List J.D)(a2:ah.D):Option (Bool×Unit):=(MK (a1,a2,())).bind fun v1=>some (decide (v1.1≥0),())
def E0(x:(List J.D)×ah.D×Unit):Option (Bool×Unit):=ML x.1 x.2.1
abbrev yr:Type:=(List J.D)→Int→Int→ah.D→ah.D→Option (ah.D×Unit)
def E1(k3:yr)(a1:ah.D):Option (ah.D×Unit):=k3 a1.2.1 (a1.2.1.length:Int) 0 (0,[],()) (a1.1,[],())
def VC(k3:yr)(U:List J.D)(aa:Int)(ae:Int)(ai:ah.D)(aq:ah.D)(v3:List J.D):Option (ah.D×Unit):=k3 U aa (ax (ae+1)) ai (aq.1,v3,())
def VD(k3:yr)(aq:ah.D)(U:List J.D)(v1:Nat)(aa:Int)(ae:Int)(ai:ah.D)(v2:List aJ.D):Option (ah.D×Unit):=cond (room (aq.2.1.length+[((I J U v1).1,(I J U v1).2.1,(I J U v1).2.2.1,(I J U v1).2.2.2.1,(I J U v1).2.2.2.2.1,(I J U v1).2.2.2.2.2.1,v2,(I J U v1).2.2.2.2.2.2.2.1,(I J U v1).2.2.2.2.2.2.2.2.1,())].length)) (VC k3 U aa ae ai aq (aq.2.1++[((I J U v1).1,(I J U v1).2.1,(I J U v1).2.2.1,(I J U v1).2.2.2.1,(I J U v1).2.2.2.2.1,(I J U v1).2.2.2.2.2.1,v2,(I J U v1).2.2.2.2.2.2.2.1,(I J U v1).2.2.2.2.2.2.2.2.1,())])) (none)
def E2(k3:yr)(U:List J.D)(aa:Int)(ae:Int)(ai:ah.D)(aq:ah.D):Option (ah.D×Unit):=cond (decide (ae<aa)) ((ix U.length ae).bind fun v1=>cond (room (([]:List aJ.D).length +((I J U v1).2.2.2.2.2.2.1).length)) (VD k3 aq U v1 aa ae ai (([]:List aJ.D)++((I J U v1).2.2.2.2.2.2.1))) (none)) (some (aq,()))
def vy:Nat→yr | 0,_,_,_,_,_=>none | m+1,U,aa,ae,ai,aq=>E2 (vy m) U aa ae ai aq
def tc(x:ah.D×Unit):Option (ah.D×Unit):=E1 (vy aM) x.1
structure vz where
 k2:aY.D→Int→(List a6.D)→Int→Int→Option (Bool×Unit)
 cV:Int→(List bP.D)→Int→Int→Option (Bool×Unit)
def VE(k:vz)(a1:aY.D)(a2:Int):Option (Bool×Unit):=k.k2 a1 a2 a1.2.2.1 (a1.2.2.1.length:Int) 0
def E3(k:vz)(U:aY.D)(aa:Int)(ae:List a6.D)(ai:Int)(aq:Int):Option (Bool×Unit):=cond (decide (aq<ai)) ((ix ae.length aq).bind fun v1=>cond (decide (aa<(I a6 ae v1).1)) (some (true,())) (k.k2 U aa ae ai (ax (aq+1)))) (k.cV aa U.2.2.2.1 (U.2.2.2.1.length:Int) 0)
def E4(k:vz)(U:Int)(aa:List bP.D)(ae:Int)(ai:Int):Option (Bool×Unit):=cond (decide (ai<ae)) ((ix aa.length ai).bind fun v1=>cond (decide (U<(I bP aa v1).2.2.1)) (some (true,())) (k.cV U aa ae (ax (ai+1)))) (some (false,()))
def VF(k:vz):vz:=⟨E3 k,E4 k⟩
def td:Nat→vz:=ew VF ⟨fun _ _ _ _ _=>none,fun _ _ _ _=>none⟩
def MM(x:aY.D×Int×Unit):Option (Bool×Unit):=VE (td aM) x.1 x.2.1
abbrev E5:Type:=aY.D→Int→Int→Option (Int×Bool×Unit)
def VG(k2:E5)(a1:aY.D)(a2:Int):Option (Int×Bool×Unit):=k2 a1 a2 0
def yt(k2:E5)(U:aY.D)(aa:Int)(ae:Int):Option (Int×Bool×Unit):=cond (decide (ae<(U.2.2.2.1.length:Int))) ((ix U.2.2.2.1.length ae).bind fun v1=>cond (decide ((I bP U.2.2.2.1 v1).1<aa)) (k2 U aa (ax (ae+1))) (cond (decide (ae<(U.2.2.2.1.length:Int))) ((ix U.2.2.2.1.length ae).bind fun v2=>some (ae,(I bP U.2.2.2.1 v2).1==aa,())) (some (ae,false,())))) (cond (decide (ae<(U.2.2.2.1.length:Int))) ((ix U.2.2.2.1.length ae).bind fun v3=>some (ae,(I bP U.2.2.2.1 v3).1==aa,())) (some (ae,false,())))
def yu:Nat→E5 | 0,_,_,_=>none | m+1,U,aa,ae=>yt (yu m) U aa ae
def E6(x:aY.D×Int×Unit):Option (Int×Bool×Unit):=VG (yu aM) x.1 x.2.1
def MN(a1:aY.D)(a2:Int):Option (bP.D×Unit):=(E6 (a1,a2,())).bind fun v1=>cond v1.2.1 ((ix a1.2.2.2.1.length v1.1).bind fun v2=>some (I bP a1.2.2.2.1 v2,())) (some ((0,0,0,(0,([]:aj),()),()),()))
def MO(x:aY.D×Int×Unit):Option (bP.D×Unit):=MN x.1 x.2.1
structure vA where
 k3:Bool→Bool→aI.D→Option (Bool×Unit)
 bp:aI.D→Option (Bool×Unit)
def E7(k:vA)(a1:aI.D):Option (Bool×Unit):=cond (a1.1==9) (cond (a1.1==5) (k.k3 true true a1) (k.k3 true (a1.1==6) a1)) (cond (a1.1==10) (cond (a1.1==5) (k.k3 true true a1) (k.k3 true (a1.1==6) a1)) (cond (a1.1==5) (k.k3 (a1.1==12) true a1) (k.k3 (a1.1==12) (a1.1==6) a1)))
def VH(k:vA)(U:Bool)(aa:Bool)(ae:aI.D):Option (Bool×Unit):=cond (!U) (cond (!(bw ae.2.2.1 ([]:aj))) (some (false,())) (cond (!aa) (cond (!(bw ae.2.2.2.2.2.1 ([]:aj))) (some (false,())) (k.bp ae)) (k.bp ae))) (cond (!aa) (cond (!(bw ae.2.2.2.2.2.1 ([]:aj))) (some (false,())) (k.bp ae)) (k.bp ae))
def VI(k:vA)(U:aI.D):Option (Bool×Unit):=(dG (U.1,1,22,())).bind fun v1=>cond v1.1 (cond (decide ((U.2.1.length:Int)≤60)) (cond (decide ((U.2.2.1.length:Int)≤60)) (cond (decide ((U.2.2.2.2.2.1.length:Int)≤64)) ((dG (U.2.2.2.1,(-1000000),1000000,())).bind fun v2=>cond v2.1 ((dG (U.2.2.2.2.1,(-1000000),1000000,())).bind fun v3=>some (v3.1,())) (some (false,()))) (some (false,()))) (some (false,()))) (some (false,()))) (some (false,()))
def MP(k:vA):vA:=⟨VH k,VI k⟩
def E8:Nat→vA:=ew MP ⟨fun _ _ _=>none,fun _=>none⟩
def vB(x:aI.D×Unit):Option (Bool×Unit):=E7 (E8 aM) x.1
def ag1(a1:Int):Option (Bool×Unit):=cond (a1==4) (cond (a1==4) (some (true,())) (some (false,()))) (cond (a1==11) (cond (a1==11) (some (true,())) (some (false,()))) (cond (a1==13) (cond (a1==13) (some (true,())) (some (false,()))) (cond (a1==14) (cond (a1==14) (some (true,())) (some (false,()))) (cond (a1==17) (cond (a1==17) (some (true,())) (some (false,()))) (cond (a1==18) (cond (a1==18) (some (true,())) (some (false,()))) (cond (a1==20) (cond (a1==20) (some (true,())) (some (false,()))) (cond (a1==21) (some (true,())) (some (false,())))))))))
def AS(x:Int×Unit):Option (Bool×Unit):=ag1 x.1
def ag2(a1:Int):Option (an.D×Unit):=some ((a1,([]:aj),()),())
def eE(x:Int×Unit):Option (an.D×Unit):=ag2 x.1
def MQ(a1:Int):Option (Int×Unit):=(dG (a1,1,22,())).bind fun v1=>cond (!v1.1) (some (0,())) ((AS (a1,())).bind fun v2=>cond v2.1 (some (1,())) (some (3,())))
def MR(x:Int×Unit):Option (Int×Unit):=MQ x.1
def MS(a1:Int)(a2:Int):Option (Int×Bool×Unit):=(MR (a2,())).bind fun v1=>cond (v1.1==0) (some (a1,false,())) (cond (decide (v1.1>a1)) (some (a1,false,())) (some (ax (a1-v1.1),true,())))
def MT(x:Int×Int×Unit):Option (Int×Bool×Unit):=MS x.1 x.2.1
def MU(a1:Int):Option (aK.D×Unit):=cond (a1==1) (some ((0,0,[],()),())) (cond (a1==2) (some ((2,2,[5],()),())) (cond (a1==3) (some ((3,2,[],()),())) (some ((1000,1000,[],()),()))))
def MV(x:Int×Unit):Option (aK.D×Unit):=MU x.1
structure vC where
 bs:Int→(aj)→Int→Option ((aj)×Unit)
 dW:Int→(aj)→Int→Int→Option ((aj)×Unit)
def VJ(k:vC)(a1:Int):Option ((aj)×Unit):=k.bs a1 ([]:aj) a1
def MW(k:vC)(U:Int)(aa:aj)(ae:Int):Option ((aj)×Unit):=cond (decide (Int.tmod ae 10<0)) (k.dW U aa ae (ax (0-(Int.tmod ae 10)))) (k.dW U aa ae (Int.tmod ae 10))
def MX(k:vC)(U:Int)(aa:aj)(ae:Int)(ai:Int):Option ((aj)×Unit):=cond (room ((eS [IntKind.wrap .u8 (ax (48+ai))]).length+aa.length)) ((dG (ae,(-9),9,())).bind fun v1=>cond v1.1 (cond (decide (U<0)) (cond (room (([45]:aj).length +((eS [IntKind.wrap .u8 (ax (48+ai))])++aa).length)) (some (([45]:aj)++((eS [IntKind.wrap .u8 (ax (48+ai))])++aa),())) (none)) (some ((eS [IntKind.wrap .u8 (ax (48+ai))])++aa,()))) (k.bs U ((eS [IntKind.wrap .u8 (ax (48+ai))])++aa) (ax (Int.tdiv ae 10)))) (none)
def VK(k:vC):vC:=⟨MW k,MX k⟩
def m4:Nat→vC:=ew VK ⟨fun _ _ _=>none,fun _ _ _ _=>none⟩
def vD(x:Int×Unit):Option ((aj)×Unit):=VJ (m4 aM) x.1
structure vE where
 bp:(List a6.D)→Int→(aj)→Int→Option ((aj)×Unit)
 dm:(List a6.D)→Int→(aj)→Int→Int→Int→(List Int)→Option ((aj)×Unit)
def E9(k:vE)(a1:List a6.D)(a2:Int):Option ((aj)×Unit):=(ME (a1,())).bind fun v1=>cond (!v1.1) (some (([]:aj),())) (cond (decide (a2<0)) (some (([]:aj),())) (k.bp a1 a2 ([]:aj) a2))
def E_(k:vE)(U:List a6.D)(aa:Int)(ae:aj)(ai:Int):Option ((aj)×Unit):=cond (decide (ai<(U.length:Int))) (cond (decide (ai<ax (aa+6))) (cond (decide (ai>aa)) (cond (room (ae.length +([32]:aj).length)) ((ix U.length ai).bind fun v1=>k.dm U aa (ae++([32]:aj)) ai ([(I a6 U v1).1,(I a6 U v1).2.1,(I a6 U v1).2.2.1,(I a6 U v1).2.2.2.1,(I a6 U v1).2.2.2.2.1].length:Int) 0 [(I a6 U v1).1,(I a6 U v1).2.1,(I a6 U v1).2.2.1,(I a6 U v1).2.2.2.1,(I a6 U v1).2.2.2.2.1]) (none)) ((ix U.length ai).bind fun v2=>k.dm U aa ae ai ([(I a6 U v2).1,(I a6 U v2).2.1,(I a6 U v2).2.2.1,(I a6 U v2).2.2.2.1,(I a6 U v2).2.2.2.2.1].length:Int) 0 [(I a6 U v2).1,(I a6 U v2).2.1,(I a6 U v2).2.2.1,(I a6 U v2).2.2.2.1,(I a6 U v2).2.2.2.2.1])) (some (ae,()))) (some (ae,()))
def E'(k:vE)(U:List a6.D)(aa:Int)(ae:aj)(ai:Int)(aq:Int)(az:Int)(aU:List Int):Option ((aj)×Unit):=cond (decide (az<aq)) ((ix aU.length az).bind fun v1=>cond (decide (az>0)) (cond (room (ae.length +([46]:aj).length)) ((vD (I (ad.int .i64) aU (0+v1),())).bind fun v2=>cond (room ((ae++([46]:aj)).length+v2.1.length)) (k.dm U aa ((ae++([46]:aj))++v2.1) ai aq (ax (az+1)) aU) (none)) (none)) ((vD (I (ad.int .i64) aU (0+v1),())).bind fun v3=>cond (room (ae.length+v3.1.length)) (k.dm U aa (ae++v3.1) ai aq (ax (az+1)) aU) (none))) (k.bp U aa ae (ax (ai+1)))
def VL(k:vE):vE:=⟨E_ k,E' k⟩
def n5:Nat→vE:=ew VL ⟨fun _ _ _ _=>none,fun _ _ _ _ _ _ _=>none⟩
def MY(x:(List a6.D)×Int×Unit):Option ((aj)×Unit):=E9 (n5 aM) x.1 x.2.1
def MZ(a1:Int):Option (Bool×Unit):=(dG (a1,0,1000,())).bind fun v1=>some (!v1.1,())
def VM(x:Int×Unit):Option (Bool×Unit):=MZ x.1
abbrev Fa:Type:=(List Int)→Int→Int→Option (Int×Unit)
def Fb(k2:Fa)(a1:List Int):Option (Int×Unit):=k2 a1 (a1.length:Int) 0
def Fc(k2:Fa)(U:List Int)(aa:Int)(ae:Int):Option (Int×Unit):=cond (decide (ae<aa)) ((ix U.length ae).bind fun v1=>(VM (I (ad.int .i64) U v1,())).bind fun v2=>cond v2.1 (some (ae,())) (k2 U aa (ax (ae+1)))) (some ((-1),()))
def vF:Nat→Fa | 0,_,_,_=>none | m+1,U,aa,ae=>Fc (vF m) U aa ae
def M0(x:(List Int)×Unit):Option (Int×Unit):=Fb (vF aM) x.1
def M1(a1:List Int):Option (Bool×Unit):=(M0 (a1,())).bind fun v1=>some (decide (v1.1≥0),())
def M3(x:(List Int)×Unit):Option (Bool×Unit):=M1 x.1
def M4(a1:aK.D):Option (Bool×Unit):=(dG (a1.1,0,1000,())).bind fun v1=>cond (!v1.1) (some (false,())) ((dG (a1.2.1,0,1000,())).bind fun v2=>cond (!v2.1) (some (false,())) (cond (decide ((a1.2.2.1.length:Int)>4)) (some (false,())) ((M3 (a1.2.2.1,())).bind fun v3=>some (!v3.1,()))))
def yv(x:aK.D×Unit):Option (Bool×Unit):=M4 x.1
def M5(a1:aj):Option (Bool×Unit):=(AL (a1,())).bind fun v1=>cond v1.1 ((ix a1.length 0).bind fun v2=>some (((a1.getD v2 0).toNat:Int)==47,())) (some (false,()))
def M6(x:(aj)×Unit):Option (Bool×Unit):=M5 x.1
def M7(a1:aK.D)(a2:Int):Option (Bool×Unit):=(yv (a1,())).bind fun v1=>cond v1.1 (cond (a2==a1.2.1) (some (true,())) ((vr (a1.2.2.1,a2,())).bind fun v2=>some (v2.1,()))) (some (false,()))
def vG(x:aK.D×Int×Unit):Option (Bool×Unit):=M7 x.1 x.2.1
def M8(a1:aK.D)(a2:J.D)(a3:Int):Option (Bool×Unit):=(yv (a1,())).bind fun v1=>cond (!v1.1) (some (false,())) ((dG (a3,0,7,())).bind fun v2=>cond (!v2.1) (some (false,())) (cond (a1.1==0) (cond (a2.2.1 != 1) (some (true,())) (cond (cY .and .i64 a2.2.2.1 73 != 0) (some (true,())) (some (cY .and .i64 a3 1==0,())))) (cond (a1.1==a2.2.2.2.1) (some (cY .and .i64 (cY .and .i64 (Int.fdiv a2.2.2.1 (2 ^ min (Int.toNat 6) 64)) 7) a3==a3,())) ((vG (a1,a2.2.2.2.2.1,())).bind fun v3=>cond v3.1 (some (cY .and .i64 (cY .and .i64 (Int.fdiv a2.2.2.1 (2 ^ min (Int.toNat 3) 64)) 7) a3==a3,())) (some (cY .and .i64 (cY .and .i64 a2.2.2.1 7) a3==a3,()))))))
def qe(x:aK.D×J.D×Int×Unit):Option (Bool×Unit):=M8 x.1 x.2.1 x.2.2.1
abbrev Fe:Type:=(aj)→(List aJ.D)→Int→Int→Option (Int×Unit)
def Ff(k2:Fe)(a1:J.D)(a2:aj):Option (Int×Unit):=k2 a2 a1.2.2.2.2.2.2.1 (a1.2.2.2.2.2.2.1.length:Int) 0
def Fg(k2:Fe)(U:aj)(aa:List aJ.D)(ae:Int)(ai:Int):Option (Int×Unit):=cond (decide (ai<ae)) ((ix aa.length ai).bind fun v1=>cond (bw ((I aJ aa v1).1) U) (some ((I aJ aa v1).2.1,())) (k2 U aa ae (ax (ai+1)))) (some (0,()))
def te:Nat→Fe | 0,_,_,_,_=>none | m+1,U,aa,ae,ai=>Fg (te m) U aa ae ai
def Fh(x:J.D×(aj)×Unit):Option (Int×Unit):=Ff (te aM) x.1 x.2.1
def VN(_:(aj)×Int×Unit):Option ((List (aj))×Unit):=none
def VO(x:(aj)×Int×Unit):Option (Int×Unit):=some (Lib.indexByte x.1 x.2.1.toNat.toUInt8,())
def ag3(a1:aj)(a2:Int):Option (Int×Unit):=(VO (a1,a2,())).bind fun v1=>some (v1.1,())
def VP(x:(aj)×Int×Unit):Option (Int×Unit):=ag3 x.1 x.2.1
def M9(a1:aj)(a2:aj):Option (Int×Unit):=cond ((a2.length:Int)==0) (some (0,())) (cond (bw a2 a1) (some (0,())) (cond ((a2.length:Int)==1) ((ix a2.length 0).bind fun v1=>(VP (a1,((a2.getD v1 0).toNat:Int),())).bind fun v2=>some (v2.1,())) (cond (decide ((a2.length:Int)≥(a1.length:Int))) (some ((-1),())) (none))))
def VQ(x:(aj)×(aj)×Unit):Option (Int×Unit):=M9 x.1 x.2.1
def M_(a1:aj)(a2:aj):Option (Int×Unit):=(VQ (a1,a2,())).bind fun v1=>some (v1.1,())
def Fi(x:(aj)×(aj)×Unit):Option (Int×Unit):=M_ x.1 x.2.1
def VR(_:(aj)×Unit):Option (Int×Unit):=none
def VS(x:(aj)×Int×Unit):Option (Int×Unit):=some ((Lib.countByte x.1 x.2.1.toNat.toUInt8:Int),())
abbrev Fj:Type:=(aj)→(aj)→Int→Option (Int×Unit)
def Fk(df:Fj)(a1:aj)(a2:aj):Option (Int×Unit):=cond ((a2.length:Int)==0) ((VR (a1,())).bind fun v1=>some (ax (v1.1+1),())) (cond ((a2.length:Int)==1) ((ix a2.length 0).bind fun v2=>(VS (a1,((a2.getD v2 0).toNat:Int),())).bind fun v3=>some (v3.1,())) (df a1 a2 0))
def VT(df:Fj)(U:aj)(aa:aj)(ae:Int):Option (Int×Unit):=(Fi (U,aa,())).bind fun v1=>cond (v1.1 ==(-1)) (some (ae,())) ((dh U.length (ax (v1.1 +(aa.length:Int))) (U.length:Int)).bind fun v2=>df (part U v2.1 (v2.2-v2.1)) aa (ax (ae+1)))
def Fl:Nat→Fj | 0,_,_,_=>none | m+1,U,aa,ae=>VT (Fl m) U aa ae
def M'(x:(aj)×(aj)×Unit):Option (Int×Unit):=Fk (Fl aM) x.1 x.2.1
abbrev qf:Type:=(List (aj))×Unit
structure rr where
 dW:(aj)→(aj)→Int→Int→Option (qf)
 dm:(aj)→(aj)→Int→Int→Int→(List (aj))→Option (qf)
 VU:(aj)→Int→(List (aj))→Option (qf)
def Fm(k:rr)(a1:aj)(a2:aj)(a3:Int)(a4:Int):Option (qf):=cond (a4==0) (some ([],())) (cond (bw a2 ([]:aj)) ((VN (a1,a4,())).bind fun v1=>some (v1.1,())) (cond (decide (a4<0)) ((M' (a1,a2,())).bind fun v2=>k.dW a1 a2 a3 (ax (v2.1+1))) (k.dW a1 a2 a3 a4)))
def Na(k:rr)(U:aj)(aa:aj)(ae:Int)(ai:Int):Option (qf):=cond (decide (0≤j0 ai (ax ((U.length:Int)+1)))&&decide (j0 ai (ax ((U.length:Int)+1))=j0 ai (ax ((U.length:Int)+1)))&&room (Int.toNat (j0 ai (ax ((U.length:Int)+1))))) (k.dm U aa ae (ax (j0 ai (ax ((U.length:Int)+1))-1)) 0 (List.replicate (Int.toNat (j0 ai (ax ((U.length:Int)+1)))) (([]:aj):aj))) (none)
def VV(k:rr)(U:aj)(v1:Int×Unit)(aa:aj)(ae:Int)(ai:Int)(aq:Int)(v4:List (aj)):Option (qf):=(dh U.length (ax (v1.1 +(aa.length:Int))) (U.length:Int)).bind fun v5=>k.dm (part U v5.1 (v5.2-v5.1)) aa ae ai (ax (aq+1)) v4
def AT(k:rr)(U:aj)(aa:aj)(ae:Int)(ai:Int)(aq:Int)(az:List (aj)):Option (qf):=cond (decide (aq<ai)) ((Fi (U,aa,())).bind fun v1=>cond (decide (v1.1<0)) (k.VU U aq az) ((dh U.length 0 (ax (v1.1+ae))).bind fun v2=>(ix az.length aq).bind fun v3=>VV k U v1 aa ae ai aq (az.set (0+v3) (part U v2.1 (v2.2-v2.1))))) (k.VU U aq az)
def Nb(k:rr)(U:aj)(aa:Int)(ae:List (aj)):Option (qf):=(ix ae.length aa).bind fun v1=>(dh ((ae.set (0+v1) U).length) 0 (ax (aa+1))).bind fun v2=>some (part (ae.set (0+v1) U) (0+v2.1) (v2.2-v2.1),())
def VW(k:rr):rr:=⟨Na k,AT k,Nb k⟩
def ru:Nat→rr:=ew VW ⟨fun _ _ _ _=>none,fun _ _ _ _ _ _=>none,fun _ _ _=>none⟩
def Nc(x:(aj)×(aj)×Int×Int×Unit):Option (qf):=Fm (ru aM) x.1 x.2.1 x.2.2.1 x.2.2.2.1
abbrev VX:Type:=(List (aj))×Unit
def Nd(a1:aj)(a2:aj):Option (VX):=(Nc (a1,a2,0,(-1),())).bind fun v1=>some (v1.1,())
def Nf(x:(aj)×(aj)×Unit):Option (VX):=Nd x.1 x.2.1
abbrev AU:Type:=(List (aj))×Unit
abbrev Fo:Type:=Int→Int→(List (aj))→(List (aj))→Option (AU)
def Fp(k3:Fo)(a1:aj):Option (AU):=(Nf (a1,([47]:aj),())).bind fun v1=>k3 (v1.1.length:Int) 0 ([]:List (aj)) v1.1
def Fq(k3:Fo)(U:Int)(aa:Int)(ae:List (aj))(ai:List (aj)):Option (AU):=cond (decide (aa<U)) ((ix ai.length aa).bind fun v1=>cond (!(bw (I ad.str ai (0+v1)) ([]:aj))) (cond (room (ae.length+[I ad.str ai (0+v1)].length)) (k3 U (ax (aa+1)) (ae++[I ad.str ai (0+v1)]) ai) (none)) (k3 U (ax (aa+1)) ae ai)) (some (ae,()))
def tf:Nat→Fo | 0,_,_,_,_=>none | m+1,U,aa,ae,ai=>Fq (tf m) U aa ae ai
def tg(x:(aj)×Unit):Option (AU):=Fp (tf aM) x.1
structure vH where
 k2:Int→(List J.D)→Int→Int→Option (Int×Unit)
 bp:Int→(List J.D)→Int→Int→(List aJ.D)→Int→Int→J.D→Option (Int×Unit)
def Fs(k:vH)(a1:ah.D)(a2:Int):Option (Int×Unit):=k.k2 a2 a1.2.1 (a1.2.1.length:Int) 0
def vI(k:vH)(U:Int)(aa:List J.D)(ae:Int)(ai:Int):Option (Int×Unit):=cond (decide (ai<ae)) ((ix aa.length ai).bind fun v1=>k.bp U aa ae ai ((I J aa v1).2.2.2.2.2.2.1) (((I J aa v1).2.2.2.2.2.2.1).length:Int) 0 (I J aa v1)) (some (1,()))
def vJ(k:vH)(U:Int)(aa:List J.D)(ae:Int)(ai:Int)(aq:List aJ.D)(az:Int)(aU:Int)(bn:J.D):Option (Int×Unit):=cond (decide (aU<az)) ((ix aq.length aU).bind fun v1=>cond ((I aJ aq v1).2.1==U) (some (bn.1,())) (k.bp U aa ae ai aq az (ax (aU+1)) bn)) (k.k2 U aa ae (ax (ai+1)))
def VY(k:vH):vH:=⟨vI k,vJ k⟩
def kW:Nat→vH:=ew VY ⟨fun _ _ _ _=>none,fun _ _ _ _ _ _ _ _=>none⟩
def Ng(x:ah.D×Int×Unit):Option (Int×Unit):=Fs (kW aM) x.1 x.2.1
abbrev th:Type:=ah.D→Bool→Nat→Nat→Int→Int→aK.D→a8.D→(List (aj))→Option (a8.D×Unit)
def Ft(k3:th)(a1:ah.D)(a2:aK.D)(a3:aj)(a4:Bool):Option (a8.D×Unit):=(tg (a3,())).bind fun v1=>k3 a1 a4 0 v1.1.length 1 0 a2 (0,([]:aj),0,0,()) v1.1
def VZ(k3:th)(U:ah.D)(aa:Bool)(az:Int)(aU:aK.D)(bn:a8.D)(v10:List (aj)):Option (a8.D×Unit):=cond (decide ((v10.length:Int)>40)) (some ((0,([]:aj),0,36,()),())) (k3 U aa 0 v10.length 1 (ax (az+1)) aU bn v10)
def V0(k3:th)(U:ah.D)(aa:Bool)(aq:Int)(az:Int)(aU:aK.D)(bn:a8.D)(v12:List (aj)):Option (a8.D×Unit):=cond (decide ((v12.length:Int)>40)) (some ((0,([]:aj),0,36,()),())) (k3 U aa 0 v12.length aq (ax (az+1)) aU bn v12)
def V1(k3:th)(U:ah.D)(aa:Bool)(az:Int)(aU:aK.D)(bn:a8.D)(fm:List (aj)):Option (a8.D×Unit):=cond (decide ((fm.length:Int)>40)) (some ((0,([]:aj),0,36,()),())) (k3 U aa 0 fm.length 1 (ax (az+1)) aU bn fm)
def V2(k3:th)(U:ah.D)(aa:Bool)(aq:Int)(az:Int)(aU:aK.D)(bn:a8.D)(pa:List (aj)):Option (a8.D×Unit):=cond (decide ((pa.length:Int)>40)) (some ((0,([]:aj),0,36,()),())) (k3 U aa 0 pa.length aq (ax (az+1)) aU bn pa)
def mf(k3:th)(U:ah.D)(aa:Bool)(ae:Nat)(ai:Nat)(aq:Int)(az:Int)(aU:aK.D)(bn:a8.D)(bu:List (aj)):Option (a8.D×Unit):=cond (decide ((ai:Int)>0)) ((ix ai 0).bind fun v1=>(dh ai 1 (ai:Int)).bind fun v2=>(gm (U,aq,())).bind fun v3=>cond (!List.isEmpty v3.1) ((qe (aU,I J v3.1 0,1,())).bind fun v4=>cond (!v4.1) (some ((0,([]:aj),0,13,()),())) (cond (bw (I ad.str bu (ae+v1)) ([46]:aj)) (k3 U aa (ae+v2.1) (v2.2-v2.1) aq az aU bn bu) (cond (bw (I ad.str bu (ae+v1)) ([46,46]:aj)) ((Ng (U,aq,())).bind fun v5=>k3 U aa (ae+v2.1) (v2.2-v2.1) v5.1 az aU bn bu) (cond (decide (((I ad.str bu (ae+v1)).length:Int)>8)) (some ((0,([]:aj),0,36,()),())) (cond (!List.isEmpty v3.1) ((Fh (I J v3.1 0,I ad.str bu (ae+v1),())).bind fun v6=>cond (v6.1==0) (cond ((((v2.2-v2.1):Nat):Int)==0) (some ((aq,I ad.str bu (ae+v1),0,2,()),())) (some ((0,([]:aj),0,2,()),()))) ((gm (U,v6.1,())).bind fun bA=>cond (!List.isEmpty bA.1) (cond ((I J bA.1 0).2.1==3) (cond (!((((v2.2-v2.1):Nat):Int)==0)) (cond (az==8) (some ((0,([]:aj),0,40,()),())) (cond (!List.isEmpty bA.1) ((ix (((I J bA.1 0).2.2.2.2.2.1).length) 0).bind fun cF=>cond (((((I J bA.1 0).2.2.2.2.2.1).getD cF 0).toNat:Int)==47) (cond (!List.isEmpty bA.1) ((tg ((I J bA.1 0).2.2.2.2.2.1,())).bind fun v9=>cond (room (v9.1.length +(part bu (ae+v2.1) (v2.2-v2.1)).length)) (VZ k3 U aa az aU bn (v9.1++(part bu (ae+v2.1) (v2.2-v2.1)))) (none)) (none)) (cond (!List.isEmpty bA.1) ((tg ((I J bA.1 0).2.2.2.2.2.1,())).bind fun v11=>cond (room (v11.1.length +(part bu (ae+v2.1) (v2.2-v2.1)).length)) (V0 k3 U aa aq az aU bn (v11.1++(part bu (ae+v2.1) (v2.2-v2.1)))) (none)) (none))) (none))) (cond aa (cond (az==8) (some ((0,([]:aj),0,40,()),())) (cond (!List.isEmpty bA.1) ((ix (((I J bA.1 0).2.2.2.2.2.1).length) 0).bind fun gH=>cond (((((I J bA.1 0).2.2.2.2.2.1).getD gH 0).toNat:Int)==47) (cond (!List.isEmpty bA.1) ((tg ((I J bA.1 0).2.2.2.2.2.1,())).bind fun fO=>cond (room (fO.1.length +(part bu (ae+v2.1) (v2.2-v2.1)).length)) (V1 k3 U aa az aU bn (fO.1++(part bu (ae+v2.1) (v2.2-v2.1)))) (none)) (none)) (cond (!List.isEmpty bA.1) ((tg ((I J bA.1 0).2.2.2.2.2.1,())).bind fun gX=>cond (room (gX.1.length +(part bu (ae+v2.1) (v2.2-v2.1)).length)) (V2 k3 U aa aq az aU bn (gX.1++(part bu (ae+v2.1) (v2.2-v2.1)))) (none)) (none))) (none))) (cond ((((v2.2-v2.1):Nat):Int)==0) (some ((aq,I ad.str bu (ae+v1),v6.1,0,()),())) (cond (!List.isEmpty bA.1) (cond ((I J bA.1 0).2.1 != 2) (some ((0,([]:aj),0,20,()),())) (k3 U aa (ae+v2.1) (v2.2-v2.1) v6.1 az aU bn bu)) (none))))) (cond ((((v2.2-v2.1):Nat):Int)==0) (some ((aq,I ad.str bu (ae+v1),v6.1,0,()),())) (cond (!List.isEmpty bA.1) (cond ((I J bA.1 0).2.1 != 2) (some ((0,([]:aj),0,20,()),())) (k3 U aa (ae+v2.1) (v2.2-v2.1) v6.1 az aU bn bu)) (none)))) (none))) (none)))))) (none)) (some ((0,([]:aj),aq,0,()),()))
def gz:Nat→th | 0,_,_,_,_,_,_,_,_,_=>none | m+1,U,aa,ae,ai,aq,az,aU,bn,bu=>mf (gz m) U aa ae ai aq az aU bn bu
def Nh(x:ah.D×aK.D×(aj)×Bool×Unit):Option (a8.D×Unit):=Ft (gz aM) x.1 x.2.1 x.2.2.1 x.2.2.2.1
def rv(a1:aN.D)(a2:aj)(a3:Bool):Option (a8.D×Unit):=(M6 (a2,())).bind fun v1=>cond (!v1.1) (some ((0,([]:aj),0,22,()),())) ((Nh (a1.1,a1.2.1,a2,a3,())).bind fun v2=>some (v2.1,()))
def lB(x:aN.D×(aj)×Bool×Unit):Option (a8.D×Unit):=rv x.1 x.2.1 x.2.2.1
def AV(a1:aN.D)(a2:aj):Option (a8.D×Int×Unit):=(lB (a1,a2,false,())).bind fun v1=>cond (v1.1.2.2.2.1==2) (cond (!(bw v1.1.2.1 ([]:aj))) (some (v1.1,0,())) (cond (v1.1.2.2.2.1==0) (some (v1.1,17,())) (some (v1.1,v1.1.2.2.2.1,())))) (cond (v1.1.2.2.2.1==0) (some (v1.1,17,())) (some (v1.1,v1.1.2.2.2.1,())))
def vK(x:aN.D×(aj)×Unit):Option (a8.D×Int×Unit):=AV x.1 x.2.1
def Ni(a1:aN.D)(a2:Int):Option (Bool×Unit):=(gm (a1.1,a2,())).bind fun v1=>cond (!List.isEmpty v1.1) ((qe (a1.2.1,I J v1.1 0,3,())).bind fun v2=>some (v2.1,())) (none)
def n6(x:aN.D×Int×Unit):Option (Bool×Unit):=Ni x.1 x.2.1
def V3(x:(List aJ.D)×Int×(List aJ.D)×Unit):Option ((List aJ.D)×Unit):=insF x.1 x.2.1 x.2.2.1
structure vL where
 k2:(aj)→Int→Int→Int→aN.D→Option (aN.D×Unit)
 bs:(aj)→Int→Int→Int→aN.D→Option (aN.D×Unit)
def Fu(k:vL)(a1:aN.D)(a2:Int)(a3:aj)(a4:Int):Option (aN.D×Unit):=(yp (a1.1,a2,())).bind fun v1=>k.k2 a3 a4 v1.1 0 (v1.2.1,a1.2.1,a1.2.2.1,())
def AW(k:vL)(U:aj)(aa:Int)(ae:Int)(ai:Int)(aq:aN.D):Option (aN.D×Unit):=(ix aq.1.2.1.length ae).bind fun v1=>cond (decide (ai<(((I J aq.1.2.1 v1).2.2.2.2.2.2.1).length:Int))) ((ix aq.1.2.1.length ae).bind fun v2=>(ix (((I J aq.1.2.1 v2).2.2.2.2.2.2.1).length) ai).bind fun v3=>cond (eg ((I aJ ((I J aq.1.2.1 v2).2.2.2.2.2.2.1) v3).1) U) (k.k2 U aa ae (ax (ai+1)) aq) (k.bs U aa ae ai aq)) (k.bs U aa ae ai aq)
def ag4(aq:aN.D)(v4:List J.D):Option (aN.D×Unit):=some (((aq.1.1,v4,()),aq.2.1,aq.2.2.1,()),())
def Nj(k:vL)(U:aj)(aa:Int)(ae:Int)(ai:Int)(aq:aN.D):Option (aN.D×Unit):=(ix aq.1.2.1.length ae).bind fun v1=>(ix aq.1.2.1.length ae).bind fun v2=>cond (Nat.beq v2 v1) ((V3 ((I J aq.1.2.1 v1).2.2.2.2.2.2.1,ai,[(U,aa,())],())).bind fun v3=>ag4 aq (aq.1.2.1.set v1 ((I J aq.1.2.1 v1).1,(I J aq.1.2.1 v1).2.1,(I J aq.1.2.1 v1).2.2.1,(I J aq.1.2.1 v1).2.2.2.1,(I J aq.1.2.1 v1).2.2.2.2.1,(I J aq.1.2.1 v1).2.2.2.2.2.1,v3.1,(I J aq.1.2.1 v1).2.2.2.2.2.2.2.1,(I J aq.1.2.1 v1).2.2.2.2.2.2.2.2.1,()))) (none)
def V4(k:vL):vL:=⟨AW k,Nj k⟩
def ti:Nat→vL:=ew V4 ⟨fun _ _ _ _ _=>none,fun _ _ _ _ _=>none⟩
def tj(x:aN.D×Int×(aj)×Int×Unit):Option (aN.D×Unit):=Fu (ti aM) x.1 x.2.1 x.2.2.1 x.2.2.2.1
def Nk(a1:aN.D):Option (Int×Unit):=(vw (a1.1,())).bind fun v1=>cond (decide (v1.1>400)) (some (28,())) ((E0 (a1.1.2.1,a1.1,())).bind fun v2=>cond v2.1 (some (122,())) (some (0,())))
def n7(x:aN.D×Unit):Option (Int×Unit):=Nk x.1
structure vM where
 bs:aN.D→aI.D→Option (Int×aN.D×Unit)
 h8:aN.D→a8.D→J.D→Option (Int×aN.D×Unit)
def Fv(k:vM)(a1:aN.D):Option (Int×aN.D×Unit):=cond (a1.2.2.1.1==10) ((AL (a1.2.2.1.2.2.1,())).bind fun v1=>cond (!v1.1) (some (22,a1,())) (cond (a1.2.2.1.1 != 10) ((dG (a1.2.2.1.2.2.2.1,0,2047,())).bind fun v2=>cond (!v2.1) (some (22,a1,())) (k.bs a1 a1.2.2.1)) (k.bs a1 a1.2.2.1))) (cond (a1.2.2.1.1 != 10) ((dG (a1.2.2.1.2.2.2.1,0,2047,())).bind fun v3=>cond (!v3.1) (some (22,a1,())) (k.bs a1 a1.2.2.1)) (k.bs a1 a1.2.2.1))
def Nl(k:vM)(U:aN.D)(aa:aI.D):Option (Int×aN.D×Unit):=(vK (U,aa.2.1,())).bind fun v1=>cond (v1.2.1 != 0) (some (v1.2.1,U,())) ((n6 (U,v1.1.1,())).bind fun v2=>cond (!v2.1) (some (13,U,())) ((gm (U.1,v1.1.1,())).bind fun v3=>cond (!List.isEmpty v3.1) (cond ((((I J v3.1 0).2.2.2.2.2.2.1).length:Int)==12) (some (28,U,())) (cond ((U.1.2.1.length:Int)==24) (some (28,U,())) (cond (U.1.1==100000) (some (28,U,())) (cond (!List.isEmpty v3.1) (cond (cY .and .i64 ((I J v3.1 0).2.2.1) 1024 != 0) (cond (!List.isEmpty v3.1) (cond (aa.1==1) (cond (!List.isEmpty v3.1) (k.h8 U v1.1 (U.1.1,2,cY .or .i64 aa.2.2.2.1 (cY .and .i64 ((I J v3.1 0).2.2.1) 1024),U.2.1.1,(I J v3.1 0).2.2.2.2.1,([]:aj),[],0,0,())) (none)) (cond (aa.1==10) (k.h8 U v1.1 (U.1.1,3,511,U.2.1.1,(I J v3.1 0).2.2.2.2.1,aa.2.2.1,[],0,0,())) (k.h8 U v1.1 (U.1.1,1,aa.2.2.2.1,U.2.1.1,(I J v3.1 0).2.2.2.2.1,([]:aj),[],0,0,())))) (none)) (cond (aa.1==1) (cond (!List.isEmpty v3.1) (k.h8 U v1.1 (U.1.1,2,cY .or .i64 aa.2.2.2.1 (cY .and .i64 ((I J v3.1 0).2.2.1) 1024),U.2.1.1,U.2.1.2.1,([]:aj),[],0,0,())) (none)) (cond (aa.1==10) (k.h8 U v1.1 (U.1.1,3,511,U.2.1.1,U.2.1.2.1,aa.2.2.1,[],0,0,())) (k.h8 U v1.1 (U.1.1,1,aa.2.2.2.1,U.2.1.1,U.2.1.2.1,([]:aj),[],0,0,()))))) (none))))) (none)))
def Nn(k:vM)(U:aN.D)(aa:a8.D)(ae:J.D):Option (Int×aN.D×Unit):=(tj (((ax (U.1.1+1),U.1.2.1,()),U.2.1,U.2.2.1,()),aa.1,aa.2.1,ae.1,())).bind fun v1=>cond (room (v1.1.1.2.1.length+[ae].length)) ((n7 (((v1.1.1.1,v1.1.1.2.1++[ae],()),v1.1.2.1,v1.1.2.2.1,()),())).bind fun v2=>some (v2.1,((v1.1.1.1,v1.1.1.2.1++[ae],()),v1.1.2.1,v1.1.2.2.1,()),())) (none)
def V5(k:vM):vM:=⟨Nl k,Nn k⟩
def lC:Nat→vM:=ew V5 ⟨fun _ _=>none,fun _ _ _=>none⟩
def AX(x:aN.D×Unit):Option (Int×aN.D×Unit):=Fv (lC aM) x.1
def No(a1:aK.D)(a2:J.D)(a3:J.D):Option (Bool×Unit):=(yv (a1,())).bind fun v1=>cond v1.1 (cond (cY .and .i64 a2.2.2.1 512==0) (some (true,())) (cond (a1.1==0) (some (true,())) (cond (a1.1==a2.2.2.2.1) (some (true,())) (some (a1.1==a3.2.2.2.1,()))))) (some (false,()))
def tk(x:aK.D×J.D×J.D×Unit):Option (Bool×Unit):=No x.1 x.2.1 x.2.2.1
def ag5(a1:aJ.D)(a2:aj):Option (Bool×Unit):=some (bw a1.1 a2,())
def Fw(x:aJ.D×(aj)×Unit):Option (Bool×Unit):=ag5 x.1 x.2.1
abbrev Fx:Type:=(List aJ.D)→(aj)→Int→Int→Option (Int×Unit)
def V6(k2:Fx)(a1:List aJ.D)(a2:aj):Option (Int×Unit):=k2 a1 a2 (a1.length:Int) 0
def Fy(k2:Fx)(U:List aJ.D)(aa:aj)(ae:Int)(ai:Int):Option (Int×Unit):=cond (decide (ai<ae)) ((ix U.length ai).bind fun v1=>(Fw (I aJ U v1,aa,())).bind fun v2=>cond v2.1 (some (ai,())) (k2 U aa ae (ax (ai+1)))) (some ((-1),()))
def yw:Nat→Fx | 0,_,_,_,_=>none | m+1,U,aa,ae,ai=>Fy (yw m) U aa ae ai
def Np(x:(List aJ.D)×(aj)×Unit):Option (Int×Unit):=V6 (yw aM) x.1 x.2.1
abbrev yx:Type:=(List aJ.D)×Unit
abbrev Fz:Type:=(aj)→Int→Int→(List aJ.D)→Option (yx)
def FA(bp:Fz)(a1:List aJ.D)(a2:aj):Option (yx):=(Np (a1,a2,())).bind fun v1=>cond (v1.1 ==(-1)) (some (a1,())) (bp a2 v1.1 (ax (v1.1+1)) a1)
def V7(aa:Int)(v5:List aJ.D):Option (yx):=(dh v5.length 0 aa).bind fun v6=>some (part v5 (0+v6.1) (v6.2-v6.1),())
def FB(bp:Fz)(U:aj)(aa:Int)(ae:Int)(ai:List aJ.D):Option (yx):=cond (decide (ae<(ai.length:Int))) ((ix ai.length ae).bind fun v1=>(Fw (I aJ ai (0+v1),U,())).bind fun v2=>cond (!v2.1) ((ix ai.length aa).bind fun v3=>bp U (ax (aa+1)) (ax (ae+1)) (ai.set (0+v3) (I aJ ai (0+v1)))) (bp U aa (ax (ae+1)) ai)) ((dh ai.length aa (ai.length:Int)).bind fun v4=>V7 aa (ai.take (0+v4.1)++List.replicate (v4.2-v4.1) ((([]:aj),0,()):aJ.D)++ai.drop ((0+v4.1) +(v4.2-v4.1))))
def yy:Nat→Fz | 0,_,_,_,_=>none | m+1,U,aa,ae,ai=>FB (yy m) U aa ae ai
def FC(x:(List aJ.D)×(aj)×Unit):Option (yx):=FA (yy aM) x.1 x.2.1
def V8(x:(List J.D)×Int×Unit):Option ((List J.D)×Unit):=cond (room x.1.length) (some (x.1.filter (fun y=> !(y.1==x.2.1)),())) none
def Nq(a4:Bool)(v1:Int×ah.D×Unit)(v3:Int×Unit)(a1:aN.D)(bA:List J.D):Option (aN.D×Unit):=cond a4 ((AQ ((v1.2.1.1,bA,()),v3.1,())).bind fun cF=>cond (cF.1==0) ((V8 (bA,v3.1,())).bind fun v9=>some (((v1.2.1.1,v9.1,()),a1.2.1,a1.2.2.1,()),())) (some (((v1.2.1.1,bA,()),a1.2.1,a1.2.2.1,()),()))) (some (((v1.2.1.1,bA,()),a1.2.1,a1.2.2.1,()),()))
def Nr(a1:aN.D)(a2:Int)(a3:aj)(a4:Bool):Option (aN.D×Unit):=(yp (a1.1,a2,())).bind fun v1=>(ix v1.2.1.2.1.length v1.1).bind fun v2=>(Fh (I J v1.2.1.2.1 v2,a3,())).bind fun v3=>(ix v1.2.1.2.1.length v1.1).bind fun v4=>(ix v1.2.1.2.1.length v1.1).bind fun v5=>cond (Nat.beq v5 v4) ((FC ((I J v1.2.1.2.1 v4).2.2.2.2.2.2.1,a3,())).bind fun v6=>Nq a4 v1 v3 a1 (v1.2.1.2.1.set v4 ((I J v1.2.1.2.1 v4).1,(I J v1.2.1.2.1 v4).2.1,(I J v1.2.1.2.1 v4).2.2.1,(I J v1.2.1.2.1 v4).2.2.2.1,(I J v1.2.1.2.1 v4).2.2.2.2.1,(I J v1.2.1.2.1 v4).2.2.2.2.2.1,v6.1,(I J v1.2.1.2.1 v4).2.2.2.2.2.2.2.1,(I J v1.2.1.2.1 v4).2.2.2.2.2.2.2.2.1,()))) (none)
def pb(x:aN.D×Int×(aj)×Bool×Unit):Option (aN.D×Unit):=Nr x.1 x.2.1 x.2.2.1 x.2.2.2.1
structure ry where
 bp:aN.D→a8.D→J.D→Option (Int×aN.D×Unit)
 dW:aN.D→a8.D→J.D→Option (Int×aN.D×Unit)
 fV:aN.D→a8.D→J.D→Option (Int×aN.D×Unit)
 dm:aN.D→a8.D→J.D→Option (Int×aN.D×Unit)
def FD(k:ry)(a1:aN.D):Option (Int×aN.D×Unit):=(lB (a1,a1.2.2.1.2.1,false,())).bind fun v1=>cond (v1.1.2.2.2.1 != 0) (some (v1.1.2.2.2.1,a1,())) (dup ((gm (a1.1,v1.1.2.2.1,())).bind fun v2=>cond (!List.isEmpty v2.1) (k.bp a1 v1.1 (I J v2.1 0)) (none)))
def Ns(k:ry)(U:aN.D)(aa:a8.D)(ae:J.D):Option (Int×aN.D×Unit):=cond (U.2.2.1.1==2) (cond (bw aa.2.1 ([]:aj)) (some (16,U,())) (k.dW U aa ae)) (k.dW U aa ae)
def Nt(k:ry)(U:aN.D)(aa:a8.D)(ae:J.D):Option (Int×aN.D×Unit):=cond (U.2.2.1.1==2) (cond (ae.2.1 != 2) (some (20,U,())) (k.fV U aa ae)) (k.fV U aa ae)
def Nu(k:ry)(U:aN.D)(aa:a8.D)(ae:J.D):Option (Int×aN.D×Unit):=cond (U.2.2.1.1==8) (cond (ae.2.1==2) (some (21,U,())) (k.dm U aa ae)) (k.dm U aa ae)
def Nv(k:ry)(U:aN.D)(aa:a8.D)(ae:J.D):Option (Int×aN.D×Unit):=(n6 (U,aa.1,())).bind fun v1=>cond (!v1.1) (some (13,U,())) ((gm (U.1,aa.1,())).bind fun v2=>cond (!List.isEmpty v2.1) ((tk (U.2.1,I J v2.1 0,ae,())).bind fun v3=>cond (!v3.1) (some (1,U,())) (cond (U.2.2.1.1==2) (cond (decide ((ae.2.2.2.2.2.2.1.length:Int)>0)) (some (39,U,())) ((pb (U,aa.1,aa.2.1,true,())).bind fun v4=>some (0,v4.1,()))) ((pb (U,aa.1,aa.2.1,true,())).bind fun v5=>some (0,v5.1,())))) (none))
def V9(k:ry):ry:=⟨Ns k,Nt k,Nu k,Nv k⟩
def pc:Nat→ry:=ew V9 ⟨fun _ _ _=>none,fun _ _ _=>none,fun _ _ _=>none,fun _ _ _=>none⟩
def FE(x:aN.D×Unit):Option (Int×aN.D×Unit):=FD (pc aM) x.1
def Nw(a1:ah.D)(a2:Int):Option (Bool×Unit):=(gm (a1,a2,())).bind fun v1=>cond (!List.isEmpty v1.1) (cond (!List.isEmpty v1.1) (some ((I J v1.1 0).2.1==2,())) (none)) (some (false,()))
def AY(x:ah.D×Int×Unit):Option (Bool×Unit):=Nw x.1 x.2.1
def Nx(a1:aN.D):Option (Int×aN.D×Unit):=(lB (a1,a1.2.2.1.2.1,false,())).bind fun v1=>cond (v1.1.2.2.2.1 != 0) (some (v1.1.2.2.2.1,a1,())) ((AY (a1.1,v1.1.2.2.1,())).bind fun v2=>cond v2.1 (some (1,a1,())) ((vK (a1,a1.2.2.1.2.2.1,())).bind fun v3=>cond (v3.2.1 != 0) (some (v3.2.1,a1,())) ((n6 (a1,v3.1.1,())).bind fun v4=>cond (!v4.1) (some (13,a1,())) ((gm (a1.1,v3.1.1,())).bind fun v5=>cond (!List.isEmpty v5.1) (cond ((((I J v5.1 0).2.2.2.2.2.2.1).length:Int)==12) (some (28,a1,())) ((tj (a1,v3.1.1,v3.1.2.1,v1.1.2.2.1,())).bind fun v6=>(n7 (v6.1,())).bind fun bA=>some (bA.1,v6.1,()))) (none)))))
def FF(x:aN.D×Unit):Option (Int×aN.D×Unit):=Nx x.1
def Ny(a1:aN.D)(a2:J.D)(a3:a8.D):Option (Int×Unit):=dup ((gm (a1.1,a3.2.2.1,())).bind fun v1=>cond (!List.isEmpty v1.1) ((gm (a1.1,a3.1,())).bind fun v2=>cond (!List.isEmpty v2.1) ((tk (a1.2.1,I J v2.1 0,I J v1.1 0,())).bind fun v3=>cond (!v3.1) (some (1,())) (cond (a2.2.1==2) (cond ((I J v1.1 0).2.1 != 2) (some (20,())) (cond (a2.2.1==2) (cond (decide ((((I J v1.1 0).2.2.2.2.2.2.1).length:Int)>0)) (some (39,())) (cond (a2.2.1 != 2) (cond ((I J v1.1 0).2.1==2) (some (21,())) (some (0,()))) (some (0,())))) (cond (a2.2.1 != 2) (cond ((I J v1.1 0).2.1==2) (some (21,())) (some (0,()))) (some (0,()))))) (cond (a2.2.1==2) (cond (decide ((((I J v1.1 0).2.2.2.2.2.2.1).length:Int)>0)) (some (39,())) (cond (a2.2.1 != 2) (cond ((I J v1.1 0).2.1==2) (some (21,())) (some (0,()))) (some (0,())))) (cond (a2.2.1 != 2) (cond ((I J v1.1 0).2.1==2) (some (21,())) (some (0,()))) (some (0,())))))) (none)) (none))
def FG(x:aN.D×J.D×a8.D×Unit):Option (Int×Unit):=Ny x.1 x.2.1 x.2.2.1
structure rz where
 dW:aN.D→a8.D→a8.D→Option (Int×aN.D×Unit)
 dd:aN.D→a8.D→a8.D→J.D→Option (Int×aN.D×Unit)
 rA:aN.D→a8.D→a8.D→J.D→Option (Int×aN.D×Unit)
 pd:aN.D→a8.D→a8.D→Option (Int×aN.D×Unit)
def FH(k:rz)(a1:aN.D):Option (Int×aN.D×Unit):=(lB (a1,a1.2.2.1.2.1,false,())).bind fun v1=>cond (v1.1.2.2.2.1 != 0) (some (v1.1.2.2.2.1,a1,())) ((lB (a1,a1.2.2.1.2.2.1,false,())).bind fun v2=>cond (v2.1.2.2.2.1 != 0) (cond (v2.1.2.2.2.1 != 2) (some (v2.1.2.2.2.1,a1,())) (cond (bw v2.1.2.1 ([]:aj)) (some (v2.1.2.2.2.1,a1,())) (k.dW a1 v1.1 v2.1))) (k.dW a1 v1.1 v2.1))
def Nz(k:rz)(U:aN.D)(aa:a8.D)(ae:a8.D):Option (Int×aN.D×Unit):=cond (bw aa.2.1 ([]:aj)) (some (16,U,())) (cond (bw ae.2.1 ([]:aj)) (some (16,U,())) (dup ((gm (U.1,aa.2.2.1,())).bind fun v1=>cond (!List.isEmpty v1.1) (k.dd U aa ae (I J v1.1 0)) (none))))
def NA(k:rz)(U:aN.D)(aa:a8.D)(ae:a8.D)(ai:J.D):Option (Int×aN.D×Unit):=(n6 (U,aa.1,())).bind fun v1=>cond (!v1.1) (some (13,U,())) ((n6 (U,ae.1,())).bind fun v2=>cond (!v2.1) (some (13,U,())) ((gm (U.1,aa.1,())).bind fun v3=>cond (!List.isEmpty v3.1) ((tk (U.2.1,I J v3.1 0,ai,())).bind fun v4=>cond (!v4.1) (some (1,U,())) (cond (ai.2.1==2) (cond (ae.1==aa.2.2.1) (some (22,U,())) ((yq (U.1,aa.2.2.1,())).bind fun v5=>(vr (v5.1,ae.1,())).bind fun v6=>cond v6.1 (some (22,U,())) (k.rA U aa ae ai))) (k.rA U aa ae ai))) (none)))
def NB(k:rz)(U:aN.D)(aa:a8.D)(ae:a8.D)(ai:J.D):Option (Int×aN.D×Unit):=cond (ae.2.2.1==aa.2.2.1) (some (0,U,())) (cond (ae.2.2.1 != 0) ((FG (U,ai,ae,())).bind fun v1=>cond (v1.1 != 0) (some (v1.1,U,())) ((pb (U,ae.1,ae.2.1,true,())).bind fun v2=>k.pd v2.1 aa ae)) (cond (aa.1 != ae.1) ((gm (U.1,ae.1,())).bind fun v3=>cond (!List.isEmpty v3.1) (cond ((((I J v3.1 0).2.2.2.2.2.2.1).length:Int)==12) (some (28,U,())) (k.pd U aa ae)) (none)) (k.pd U aa ae)))
def NC(k:rz)(U:aN.D)(aa:a8.D)(ae:a8.D):Option (Int×aN.D×Unit):=(pb (U,aa.1,aa.2.1,false,())).bind fun v1=>(tj (v1.1,ae.1,ae.2.1,aa.2.2.1,())).bind fun v2=>(n7 (v2.1,())).bind fun v3=>some (v3.1,v2.1,())
def V_(k:rz):rz:=⟨Nz k,NA k,NB k,NC k⟩
def jw:Nat→rz:=ew V_ ⟨fun _ _ _=>none,fun _ _ _ _=>none,fun _ _ _ _=>none,fun _ _ _=>none⟩
def FI(x:aN.D×Unit):Option (Int×aN.D×Unit):=FH (jw aM) x.1
abbrev V':Type:=Int×Int×aN.D×Unit
def ND(a1:aN.D)(a2:Bool):Option (V'):=(lB (a1,a1.2.2.1.2.1,a2,())).bind fun v1=>cond (v1.1.2.2.2.1 != 0) (some ((-1),v1.1.2.2.2.1,a1,())) ((yp (a1.1,v1.1.2.2.1,())).bind fun v2=>some (v2.1,0,(v2.2.1,a1.2.1,a1.2.2.1,()),()))
def m5(x:aN.D×Bool×Unit):Option (V'):=ND x.1 x.2.1
abbrev Wa:Type:=Int×Int×aN.D×Unit
def AZ(a1:aN.D)(a2:Int):Option (Wa):=(m5 (a1,true,())).bind fun v1=>cond (v1.2.1 != 0) (some ((-1),v1.2.1,v1.2.2.1,())) ((ix v1.2.2.1.1.2.1.length v1.1).bind fun v2=>cond ((I J v1.2.2.1.1.2.1 v2).2.1==2) (some ((-1),21,v1.2.2.1,())) ((ix v1.2.2.1.1.2.1.length v1.1).bind fun v3=>(qe (v1.2.2.1.2.1,I J v1.2.2.1.1.2.1 v3,a2,())).bind fun v4=>cond (!v4.1) (some ((-1),13,v1.2.2.1,())) (some (v1.1,0,v1.2.2.1,()))))
def A0(x:aN.D×Int×Unit):Option (Wa):=AZ x.1 x.2.1
abbrev Wb:Type:=an.D×aN.D×Unit
def NF(a1:aN.D):Option (Wb):=(A0 (a1,4,())).bind fun v1=>cond (v1.2.1 != 0) ((eE (v1.2.1,())).bind fun v2=>some (v2.1,v1.2.2.1,())) (cond (decide (v1.2.2.1.2.2.1.2.2.2.1<0)) ((eE (22,())).bind fun v3=>some (v3.1,v1.2.2.1,())) (cond (decide (v1.2.2.1.2.2.1.2.2.2.2.1<0)) ((eE (22,())).bind fun v4=>some (v4.1,v1.2.2.1,())) ((ix v1.2.2.1.1.2.1.length v1.1).bind fun v5=>(ix v1.2.2.1.1.2.1.length v1.1).bind fun v6=>(dh (((I J v1.2.2.1.1.2.1 v5).2.2.2.2.2.1).length) (j0 v1.2.2.1.2.2.1.2.2.2.1 (((I J v1.2.2.1.1.2.1 v6).2.2.2.2.2.1).length:Int)) (((I J v1.2.2.1.1.2.1 v5).2.2.2.2.2.1).length:Int)).bind fun bA=>(dh ((part ((I J v1.2.2.1.1.2.1 v5).2.2.2.2.2.1) bA.1 (bA.2-bA.1)).length) 0 (j0 v1.2.2.1.2.2.1.2.2.2.2.1 (((part ((I J v1.2.2.1.1.2.1 v5).2.2.2.2.2.1) bA.1 (bA.2-bA.1)).length:Nat):Int))).bind fun cF=>some ((0,part (part ((I J v1.2.2.1.1.2.1 v5).2.2.2.2.2.1) bA.1 (bA.2-bA.1)) cF.1 (cF.2-cF.1),()),v1.2.2.1,()))))
def FJ(x:aN.D×Unit):Option (Wb):=NF x.1
def strings_Repeat(x:(aj)×Int×Unit):Option ((aj)×Unit):=repF x.1 x.2.1
def NG(a1:aj)(a2:Int):Option ((aj)×Unit):=cond (decide ((a1.length:Int)≥a2)) ((dh a1.length 0 a2).bind fun v1=>some (part a1 v1.1 (v1.2-v1.1),())) ((strings_Repeat (([0]:aj),ax (a2-(a1.length:Int)),())).bind fun v2=>cond (room (a1.length+v2.1.length)) (some (a1++v2.1,())) (none))
def FK(x:(aj)×Int×Unit):Option ((aj)×Unit):=NG x.1 x.2.1
structure tl where
 dW:Int→Int→aN.D→Option (Int×aN.D×Unit)
 dm:Int→Int→aN.D→Option (Int×aN.D×Unit)
 gY:Int→(aj)→aN.D→Option (Int×aN.D×Unit)
def FL(k:tl)(a1:aN.D):Option (Int×aN.D×Unit):=(A0 (a1,2,())).bind fun v1=>cond (v1.2.1 != 0) (some (v1.2.1,v1.2.2.1,())) (cond (v1.2.2.1.2.2.1.1==6) ((ix v1.2.2.1.1.2.1.length v1.1).bind fun v2=>k.dW v1.1 (((I J v1.2.2.1.1.2.1 v2).2.2.2.2.2.1).length:Int) v1.2.2.1) (k.dW v1.1 v1.2.2.1.2.2.1.2.2.2.1 v1.2.2.1))
def NH(k:tl)(U:Int)(aa:Int)(ae:aN.D):Option (Int×aN.D×Unit):=cond (decide (aa<0)) (some (22,ae,())) (cond (ae.2.2.1.1 != 7) (cond (bw ae.2.2.1.2.2.2.2.2.1 ([]:aj)) (some (0,ae,())) (k.dm U aa ae)) (k.dm U aa ae))
def NI(k:tl)(U:Int)(aa:Int)(ae:aN.D):Option (Int×aN.D×Unit):=cond (decide (ax (aa +(ae.2.2.1.2.2.2.2.2.1.length:Int))>64)) (some (27,ae,())) ((ix ae.1.2.1.length U).bind fun v1=>(FK ((I J ae.1.2.1 v1).2.2.2.2.2.1,aa,())).bind fun v2=>cond (ae.2.2.1.1 != 7) (cond (room (v2.1.length+ae.2.2.1.2.2.2.2.2.1.length)) ((ix ae.1.2.1.length U).bind fun v3=>cond (decide ((((I J ae.1.2.1 v3).2.2.2.2.2.1).length:Int) >((v2.1++ae.2.2.1.2.2.2.2.2.1).length:Int))) ((ix ae.1.2.1.length U).bind fun v4=>(dh (((I J ae.1.2.1 v4).2.2.2.2.2.1).length) ((v2.1++ae.2.2.1.2.2.2.2.2.1).length:Int) (((I J ae.1.2.1 v4).2.2.2.2.2.1).length:Int)).bind fun v5=>cond (room ((v2.1++ae.2.2.1.2.2.2.2.2.1).length +(part ((I J ae.1.2.1 v4).2.2.2.2.2.1) v5.1 (v5.2-v5.1)).length)) (k.gY U ((v2.1++ae.2.2.1.2.2.2.2.2.1)++(part ((I J ae.1.2.1 v4).2.2.2.2.2.1) v5.1 (v5.2-v5.1))) ae) (none)) (k.gY U (v2.1++ae.2.2.1.2.2.2.2.2.1) ae)) (none)) (k.gY U v2.1 ae))
def ag6(ae:aN.D)(v2:List J.D):Option (Int×aN.D×Unit):=(n7 (((ae.1.1,v2,()),ae.2.1,ae.2.2.1,()),())).bind fun v3=>some (v3.1,((ae.1.1,v2,()),ae.2.1,ae.2.2.1,()),())
def NJ(k:tl)(U:Int)(aa:aj)(ae:aN.D):Option (Int×aN.D×Unit):=(ix ae.1.2.1.length U).bind fun v1=>ag6 ae (ae.1.2.1.set v1 ((I J ae.1.2.1 v1).1,(I J ae.1.2.1 v1).2.1,(I J ae.1.2.1 v1).2.2.1,(I J ae.1.2.1 v1).2.2.2.1,(I J ae.1.2.1 v1).2.2.2.2.1,aa,(I J ae.1.2.1 v1).2.2.2.2.2.2.1,(I J ae.1.2.1 v1).2.2.2.2.2.2.2.1,(I J ae.1.2.1 v1).2.2.2.2.2.2.2.2.1,()))
def Wc(k:tl):tl:=⟨NH k,NI k,NJ k⟩
def gI:Nat→tl:=ew Wc ⟨fun _ _ _=>none,fun _ _ _=>none,fun _ _ _=>none⟩
def FM(x:aN.D×Unit):Option (Int×aN.D×Unit):=FL (gI aM) x.1
abbrev Wd:Type:=an.D×aN.D×Unit
def NK(a1:aN.D):Option (Wd):=(m5 (a1,false,())).bind fun v1=>cond (v1.2.1 != 0) ((eE (v1.2.1,())).bind fun v2=>some (v2.1,v1.2.2.1,())) ((ix v1.2.2.1.1.2.1.length v1.1).bind fun v3=>cond ((I J v1.2.2.1.1.2.1 v3).2.1 != 3) ((eE (22,())).bind fun v4=>some (v4.1,v1.2.2.1,())) ((ix v1.2.2.1.1.2.1.length v1.1).bind fun v5=>some ((0,(I J v1.2.2.1.1.2.1 v5).2.2.2.2.2.1,()),v1.2.2.1,())))
def FN(x:aN.D×Unit):Option (Wd):=NK x.1
def strings_Join(x:(List (aj))×(aj)×Unit):Option ((aj)×Unit):=joinF x.1 x.2.1
abbrev FO:Type:=(List Int)→Int→Int→(List (aj))→Option ((aj)×Unit)
def We(k3:FO)(a1:List Int):Option ((aj)×Unit):=k3 a1 (a1.length:Int) 0 ([]:List (aj))
def FP(k3:FO)(U:List Int)(aa:Int)(ae:Int)(ai:List (aj)):Option ((aj)×Unit):=cond (decide (ae<aa)) ((ix U.length ae).bind fun v1=>(vD (I (ad.int .i64) U v1,())).bind fun v2=>cond (room (ai.length+[v2.1].length)) (k3 U aa (ax (ae+1)) (ai++[v2.1])) (none)) ((strings_Join (ai,([32]:aj),())).bind fun v3=>some (v3.1,()))
def vN:Nat→FO | 0,_,_,_,_=>none | m+1,U,aa,ae,ai=>FP (vN m) U aa ae ai
def rB(x:(List Int)×Unit):Option ((aj)×Unit):=We (vN aM) x.1
abbrev A1:Type:=an.D×aN.D×Unit
abbrev FQ:Type:=(List aJ.D)→Int→Int→an.D→(List (aj))→aN.D→Option (A1)
def FR(vO:FQ)(a1:aN.D):Option (A1):=(m5 (a1,true,())).bind fun v1=>cond (v1.2.1 != 0) ((eE (v1.2.1,())).bind fun v2=>some (v2.1,v1.2.2.1,())) ((ix v1.2.2.1.1.2.1.length v1.1).bind fun v3=>cond ((I J v1.2.2.1.1.2.1 v3).2.1 != 2) ((eE (20,())).bind fun v4=>some (v4.1,v1.2.2.1,())) ((ix v1.2.2.1.1.2.1.length v1.1).bind fun v5=>(qe (v1.2.2.1.2.1,I J v1.2.2.1.1.2.1 v5,4,())).bind fun v6=>cond (!v6.1) ((eE (13,())).bind fun bA=>some (bA.1,v1.2.2.1,())) (cond (v1.2.2.1.2.2.1.1==20) ((ix v1.2.2.1.1.2.1.length v1.1).bind fun cF=>(AR (v1.2.2.1.1,(I J v1.2.2.1.1.2.1 cF).1,())).bind fun v9=>(ix v1.2.2.1.1.2.1.length v1.1).bind fun v10=>(ix v1.2.2.1.1.2.1.length v1.1).bind fun v11=>(rB ([(I J v1.2.2.1.1.2.1 v10).2.2.2.2.2.2.2.1,(I J v1.2.2.1.1.2.1 v11).2.2.2.2.2.2.2.2.1,v9.1,v9.2.1],())).bind fun v12=>some ((0,v12.1,()),v1.2.2.1,())) ((ix v1.2.2.1.1.2.1.length v1.1).bind fun gH=>vO ((I J v1.2.2.1.1.2.1 gH).2.2.2.2.2.2.1) (((I J v1.2.2.1.1.2.1 gH).2.2.2.2.2.2.1).length:Int) 0 (0,([]:aj),()) ([]:List (aj)) v1.2.2.1))))
def FT(vO:FQ)(U:List aJ.D)(aa:Int)(ae:Int)(ai:an.D)(aq:List (aj))(az:aN.D):Option (A1):=cond (decide (ae<aa)) ((ix U.length ae).bind fun v1=>cond (room (aq.length+[(I aJ U v1).1].length)) (vO U aa (ax (ae+1)) ai (aq++[(I aJ U v1).1]) az) (none)) ((strings_Join (aq,([47]:aj),())).bind fun v2=>some ((0,v2.1,()),az,()))
def rC:Nat→FQ | 0,_,_,_,_,_,_=>none | m+1,U,aa,ae,ai,aq,az=>FT (rC m) U aa ae ai aq az
def A2(x:aN.D×Unit):Option (A1):=FR (rC aM) x.1
abbrev FU:Type:=ah.D→Int→(List aJ.D)→Int→Int→Option (Int×Unit)
def FV(bp:FU)(a1:ah.D)(a2:J.D):Option (Int×Unit):=cond (a2.2.1 != 2) ((AQ (a1,a2.1,())).bind fun v1=>some (v1.1,())) (bp a1 2 a2.2.2.2.2.2.2.1 (a2.2.2.2.2.2.2.1.length:Int) 0)
def FW(bp:FU)(U:ah.D)(aa:Int)(ae:List aJ.D)(ai:Int)(aq:Int):Option (Int×Unit):=cond (decide (aq<ai)) ((ix ae.length aq).bind fun v1=>(AY (U,(I aJ ae v1).2.1,())).bind fun v2=>cond v2.1 (bp U (ax (aa+1)) ae ai (ax (aq+1))) (bp U aa ae ai (ax (aq+1)))) (some (aa,()))
def tm:Nat→FU | 0,_,_,_,_,_=>none | m+1,U,aa,ae,ai,aq=>FW (tm m) U aa ae ai aq
def NL(x:ah.D×J.D×Unit):Option (Int×Unit):=FV (tm aM) x.1 x.2.1
abbrev Wf:Type:=an.D×aN.D×Unit
def NM(a1:aN.D):Option (Wf):=(dG (a1.2.2.1.2.2.2.1,0,1,())).bind fun v1=>cond (!v1.1) ((eE (22,())).bind fun v2=>some (v2.1,a1,())) ((m5 (a1,a1.2.2.1.2.2.2.1==0,())).bind fun v3=>cond (v3.2.1 != 0) ((eE (v3.2.1,())).bind fun v4=>some (v4.1,v3.2.2.1,())) ((ix v3.2.2.1.1.2.1.length v3.1).bind fun v5=>(ix v3.2.2.1.1.2.1.length v3.1).bind fun v6=>(ix v3.2.2.1.1.2.1.length v3.1).bind fun bA=>(ix v3.2.2.1.1.2.1.length v3.1).bind fun cF=>(ix v3.2.2.1.1.2.1.length v3.1).bind fun v9=>(ix v3.2.2.1.1.2.1.length v3.1).bind fun v10=>(NL (v3.2.2.1.1,I J v3.2.2.1.1.2.1 v9,())).bind fun v11=>(rB ([(I J v3.2.2.1.1.2.1 v5).2.1,(I J v3.2.2.1.1.2.1 v6).2.2.1,(I J v3.2.2.1.1.2.1 bA).2.2.2.1,(I J v3.2.2.1.1.2.1 cF).2.2.2.2.1,v11.1,(((I J v3.2.2.1.1.2.1 v10).2.2.2.2.2.1).length:Int)],())).bind fun v12=>some ((0,v12.1,()),v3.2.2.1,())))
def A3(x:aN.D×Unit):Option (Wf):=NM x.1
abbrev FX:Type:=Int→aN.D→Option (Int×aN.D×Unit)
def FY(cV:FX)(a1:aN.D):Option (Int×aN.D×Unit):=(dG (a1.2.2.1.2.2.2.1,0,2047,())).bind fun v1=>cond (!v1.1) (some (22,a1,())) ((m5 (a1,true,())).bind fun v2=>cond (v2.2.1 != 0) (some (v2.2.1,v2.2.2.1,())) (cond (v2.2.2.1.2.1.1 != 0) ((ix v2.2.2.1.1.2.1.length v2.1).bind fun v3=>cond (v2.2.2.1.2.1.1 !=(I J v2.2.2.1.1.2.1 v3).2.2.2.1) (some (1,v2.2.2.1,())) (cV v2.1 v2.2.2.1)) (cV v2.1 v2.2.2.1)))
def Wg(aa:aN.D)(bA:List J.D):Option (Int×aN.D×Unit):=some (0,((aa.1.1,bA,()),aa.2.1,aa.2.2.1,()),())
def NN(aa:aN.D)(U:Int)(v2:List J.D):Option (Int×aN.D×Unit):=cond (aa.2.1.1 != 0) ((ix v2.length U).bind fun v3=>(vG (aa.2.1,(I J v2 v3).2.2.2.2.1,())).bind fun v4=>cond (!v4.1) ((ix v2.length U).bind fun v5=>(ix v2.length U).bind fun v6=>Wg aa (v2.set v6 ((I J v2 v6).1,(I J v2 v6).2.1,cY .andNot .i64 ((I J v2 v5).2.2.1) 1024,(I J v2 v6).2.2.2.1,(I J v2 v6).2.2.2.2.1,(I J v2 v6).2.2.2.2.2.1,(I J v2 v6).2.2.2.2.2.2.1,(I J v2 v6).2.2.2.2.2.2.2.1,(I J v2 v6).2.2.2.2.2.2.2.2.1,()))) (some (0,((aa.1.1,v2,()),aa.2.1,aa.2.2.1,()),()))) (some (0,((aa.1.1,v2,()),aa.2.1,aa.2.2.1,()),()))
def NO(cV:FX)(U:Int)(aa:aN.D):Option (Int×aN.D×Unit):=(ix aa.1.2.1.length U).bind fun v1=>NN aa U (aa.1.2.1.set v1 ((I J aa.1.2.1 v1).1,(I J aa.1.2.1 v1).2.1,aa.2.2.1.2.2.2.1,(I J aa.1.2.1 v1).2.2.2.1,(I J aa.1.2.1 v1).2.2.2.2.1,(I J aa.1.2.1 v1).2.2.2.2.2.1,(I J aa.1.2.1 v1).2.2.2.2.2.2.1,(I J aa.1.2.1 v1).2.2.2.2.2.2.2.1,(I J aa.1.2.1 v1).2.2.2.2.2.2.2.2.1,()))
def rD:Nat→FX | 0,_,_=>none | m+1,U,aa=>NO (rD m) U aa
def FZ(x:aN.D×Unit):Option (Int×aN.D×Unit):=FY (rD aM) x.1
abbrev F2:Type:=Int→aN.D→Option (Int×aN.D×Unit)
def F3(cV:F2)(a1:aN.D):Option (Int×aN.D×Unit):=(dG (a1.2.2.1.2.2.2.1,0,1000,())).bind fun v1=>cond (!v1.1) (some (22,a1,())) ((dG (a1.2.2.1.2.2.2.2.1,0,1000,())).bind fun v2=>cond (!v2.1) (some (22,a1,())) ((m5 (a1,true,())).bind fun v3=>cond (v3.2.1 != 0) (some (v3.2.1,v3.2.2.1,())) (cond (v3.2.2.1.2.1.1 != 0) ((ix v3.2.2.1.1.2.1.length v3.1).bind fun v4=>cond (v3.2.2.1.2.1.1 !=(I J v3.2.2.1.1.2.1 v4).2.2.2.1) (some (1,v3.2.2.1,())) ((ix v3.2.2.1.1.2.1.length v3.1).bind fun v5=>cond (v3.2.2.1.2.2.1.2.2.2.1 !=(I J v3.2.2.1.1.2.1 v5).2.2.2.1) (some (1,v3.2.2.1,())) ((vG (v3.2.2.1.2.1,v3.2.2.1.2.2.1.2.2.2.2.1,())).bind fun v6=>cond (!v6.1) (some (1,v3.2.2.1,())) (cV v3.1 v3.2.2.1)))) (cV v3.1 v3.2.2.1))))
def Wh(aa:aN.D)(v4:List J.D):Option (Int×aN.D×Unit):=some (0,((aa.1.1,v4,()),aa.2.1,aa.2.2.1,()),())
def NP(U:Int)(aa:aN.D)(v2:List J.D):Option (Int×aN.D×Unit):=(ix v2.length U).bind fun v3=>Wh aa (v2.set v3 ((I J v2 v3).1,(I J v2 v3).2.1,(I J v2 v3).2.2.1,(I J v2 v3).2.2.2.1,aa.2.2.1.2.2.2.2.1,(I J v2 v3).2.2.2.2.2.1,(I J v2 v3).2.2.2.2.2.2.1,(I J v2 v3).2.2.2.2.2.2.2.1,(I J v2 v3).2.2.2.2.2.2.2.2.1,()))
def NQ(cV:F2)(U:Int)(aa:aN.D):Option (Int×aN.D×Unit):=(ix aa.1.2.1.length U).bind fun v1=>NP U aa (aa.1.2.1.set v1 ((I J aa.1.2.1 v1).1,(I J aa.1.2.1 v1).2.1,(I J aa.1.2.1 v1).2.2.1,aa.2.2.1.2.2.2.1,(I J aa.1.2.1 v1).2.2.2.2.1,(I J aa.1.2.1 v1).2.2.2.2.2.1,(I J aa.1.2.1 v1).2.2.2.2.2.2.1,(I J aa.1.2.1 v1).2.2.2.2.2.2.2.1,(I J aa.1.2.1 v1).2.2.2.2.2.2.2.2.1,()))
def rE:Nat→F2 | 0,_,_=>none | m+1,U,aa=>NQ (rE m) U aa
def F4(x:aN.D×Unit):Option (Int×aN.D×Unit):=F3 (rE aM) x.1
def NR(a1:aN.D):Option (Int×aN.D×Unit):=(dG (a1.2.2.1.2.2.2.1,0,7,())).bind fun v1=>cond (!v1.1) (some (22,a1,())) ((m5 (a1,true,())).bind fun v2=>cond (v2.2.1 != 0) (some (v2.2.1,v2.2.2.1,())) ((ix v2.2.2.1.1.2.1.length v2.1).bind fun v3=>(qe (v2.2.2.1.2.1,I J v2.2.2.1.1.2.1 v3,v2.2.2.1.2.2.1.2.2.2.1,())).bind fun v4=>cond (!v4.1) (some (13,v2.2.2.1,())) (some (0,v2.2.2.1,()))))
def F5(x:aN.D×Unit):Option (Int×aN.D×Unit):=NR x.1
def NS(v3:Int×Int×aN.D×Unit)(cF:List J.D):Option (Int×aN.D×Unit):=(n7 (((v3.2.2.1.1.1,cF,()),v3.2.2.1.2.1,v3.2.2.1.2.2.1,()),())).bind fun v9=>some (v9.1,((v3.2.2.1.1.1,cF,()),v3.2.2.1.2.1,v3.2.2.1.2.2.1,()),())
def F6(v3:Int×Int×aN.D×Unit)(v6:List J.D):Option (Int×aN.D×Unit):=(ix v6.length v3.1).bind fun bA=>NS v3 (v6.set bA ((I J v6 bA).1,(I J v6 bA).2.1,(I J v6 bA).2.2.1,(I J v6 bA).2.2.2.1,(I J v6 bA).2.2.2.2.1,(I J v6 bA).2.2.2.2.2.1,(I J v6 bA).2.2.2.2.2.2.1,(I J v6 bA).2.2.2.2.2.2.2.1,v3.2.2.1.2.2.1.2.2.2.2.1,()))
def NT(a1:aN.D):Option (Int×aN.D×Unit):=(dG (a1.2.2.1.2.2.2.1,0,400,())).bind fun v1=>cond (!v1.1) (some (22,a1,())) ((dG (a1.2.2.1.2.2.2.2.1,0,24,())).bind fun v2=>cond (!v2.1) (some (22,a1,())) (cond (a1.2.1.1 != 0) (some (1,a1,())) ((m5 (a1,true,())).bind fun v3=>cond (v3.2.1 != 0) (some (v3.2.1,v3.2.2.1,())) ((ix v3.2.2.1.1.2.1.length v3.1).bind fun v4=>cond ((I J v3.2.2.1.1.2.1 v4).2.1 != 2) (some (20,v3.2.2.1,())) ((ix v3.2.2.1.1.2.1.length v3.1).bind fun v5=>F6 v3 (v3.2.2.1.1.2.1.set v5 ((I J v3.2.2.1.1.2.1 v5).1,(I J v3.2.2.1.1.2.1 v5).2.1,(I J v3.2.2.1.1.2.1 v5).2.2.1,(I J v3.2.2.1.1.2.1 v5).2.2.2.1,(I J v3.2.2.1.1.2.1 v5).2.2.2.2.1,(I J v3.2.2.1.1.2.1 v5).2.2.2.2.2.1,(I J v3.2.2.1.1.2.1 v5).2.2.2.2.2.2.1,v3.2.2.1.2.2.1.2.2.2.1,(I J v3.2.2.1.1.2.1 v5).2.2.2.2.2.2.2.2.1,())))))))
def F7(x:aN.D×Unit):Option (Int×aN.D×Unit):=NT x.1
abbrev kt:Type:=an.D×aN.D×Unit
structure n8 where
 bp:aN.D→an.D→Option (kt)
 df:Int→aN.D→an.D→Option (kt)
 cV:aN.D→an.D→Option (kt)
 fV:Int→aN.D→an.D→Option (kt)
 gY:aN.D→an.D→Option (kt)
 ku:Int→aN.D→an.D→Option (kt)
 qg:Int→aN.D→an.D→Option (kt)
def F8(k:n8)(a1:aN.D):Option (kt):=cond (a1.2.2.1.1==1) (cond (a1.2.2.1.1==1) (k.bp a1 (0,([]:aj),())) (k.df a1.2.2.1.1 a1 (0,([]:aj),()))) (cond (a1.2.2.1.1==3) (cond (a1.2.2.1.1==3) (k.bp a1 (0,([]:aj),())) (k.df a1.2.2.1.1 a1 (0,([]:aj),()))) (cond (a1.2.2.1.1==10) (k.bp a1 (0,([]:aj),())) (k.df a1.2.2.1.1 a1 (0,([]:aj),()))))
def ag7(k:n8)(U:aN.D)(aa:an.D):Option (kt):=(AX (U,())).bind fun v1=>(eE (v1.1,())).bind fun v2=>some (v2.1,v1.2.1,())
def ag8(k:n8)(U:Int)(aa:aN.D)(ae:an.D):Option (kt):=cond (U==2) (cond (U==2) (k.cV aa ae) (k.fV U aa ae)) (cond (U==8) (k.cV aa ae) (k.fV U aa ae))
def ag9(k:n8)(U:aN.D)(aa:an.D):Option (kt):=(FE (U,())).bind fun v1=>(eE (v1.1,())).bind fun v2=>some (v2.1,v1.2.1,())
def ag_(k:n8)(U:Int)(aa:aN.D)(ae:an.D):Option (kt):=cond (U==9) ((FF (aa,())).bind fun v1=>(eE (v1.1,())).bind fun v2=>some (v2.1,v1.2.1,())) (cond (U==12) ((FI (aa,())).bind fun v3=>(eE (v3.1,())).bind fun v4=>some (v4.1,v3.2.1,())) (cond (U==4) ((FJ (aa,())).bind fun v5=>some (v5.1,v5.2.1,())) (cond (U==5) (cond (U==5) (k.gY aa ae) (k.ku U aa ae)) (cond (U==6) (cond (U==6) (k.gY aa ae) (k.ku U aa ae)) (cond (U==7) (k.gY aa ae) (k.ku U aa ae))))))
def ag'(k:n8)(U:aN.D)(aa:an.D):Option (kt):=(FM (U,())).bind fun v1=>(eE (v1.1,())).bind fun v2=>some (v2.1,v1.2.1,())
def aha(k:n8)(U:Int)(aa:aN.D)(ae:an.D):Option (kt):=cond (U==11) ((FN (aa,())).bind fun v1=>some (v1.1,v1.2.1,())) (cond (U==13) (cond (U==13) ((A2 (aa,())).bind fun v2=>some (v2.1,v2.2.1,())) (k.qg U aa ae)) (cond (U==20) ((A2 (aa,())).bind fun v3=>some (v3.1,v3.2.1,())) (k.qg U aa ae)))
def ahb(k:n8)(U:Int)(aa:aN.D)(ae:an.D):Option (kt):=cond (U==14) ((A3 (aa,())).bind fun v1=>some (v1.1,v1.2.1,())) (cond (U==15) ((FZ (aa,())).bind fun v2=>(eE (v2.1,())).bind fun v3=>some (v3.1,v2.2.1,())) (cond (U==16) ((F4 (aa,())).bind fun v4=>(eE (v4.1,())).bind fun v5=>some (v5.1,v4.2.1,())) (cond (U==17) ((F5 (aa,())).bind fun v6=>(eE (v6.1,())).bind fun bA=>some (bA.1,v6.2.1,())) (cond (U==18) ((vw (aa.1,())).bind fun cF=>(rB ([(aa.1.2.1.length:Int),cF.1],())).bind fun v9=>some ((0,v9.1,()),aa,())) ((F7 (aa,())).bind fun v10=>(eE (v10.1,())).bind fun v11=>some (v11.1,v10.2.1,()))))))
def Wi(k:n8):n8:=⟨ag7 k,ag8 k,ag9 k,ag_ k,ag' k,aha k,ahb k⟩
def NU:Nat→n8:=ew Wi ⟨fun _ _=>none,fun _ _ _=>none,fun _ _=>none,fun _ _ _=>none,fun _ _=>none,fun _ _ _=>none,fun _ _ _=>none⟩
def F9(x:aN.D×Unit):Option (kt):=F8 (NU aM) x.1
abbrev Wj:Type:=ah.D×an.D×Unit
def NV(a1:ah.D)(a2:aK.D)(a3:aI.D):Option (Wj):=(yv (a2,())).bind fun v1=>cond (!v1.1) ((tc (a1,())).bind fun v2=>(eE (22,())).bind fun v3=>some (v2.1,v3.1,())) ((vB (a3,())).bind fun v4=>cond (!v4.1) ((tc (a1,())).bind fun v5=>(eE (22,())).bind fun v6=>some (v5.1,v6.1,())) (cond (decide (a3.1>20)) ((tc (a1,())).bind fun bA=>(eE (22,())).bind fun cF=>some (bA.1,cF.1,())) ((tc (a1,())).bind fun v9=>(F9 ((v9.1,a2,a3,()),())).bind fun v10=>cond (v10.1.1 != 0) ((tc (a1,())).bind fun v11=>some (v11.1,v10.1,())) (some (v10.2.1.1,v10.1,())))))
def A4(x:ah.D×aK.D×aI.D×Unit):Option (Wj):=NV x.1 x.2.1 x.2.2.1
abbrev rF:Type:=an.D×aY.D×Unit
structure tp where
 dd:aY.D→aI.D→an.D→aK.D→Option (rF)
 eF:aY.D→aI.D→an.D→aK.D→Option (rF)
 ku:aY.D→aI.D→an.D→aK.D→Option (rF)
def F_(k:tp)(a1:aY.D)(a2:Int)(a3:aI.D):Option (rF):=(vB (a3,())).bind fun v1=>cond (!v1.1) ((eE (22,())).bind fun v2=>some (v2.1,a1,())) ((MT (a1.2.1,a3.1,())).bind fun v3=>cond (!v3.2.1) ((eE (11,())).bind fun v4=>some (v4.1,a1,())) ((MV (a2,())).bind fun v5=>cond (a3.1==21) (cond (v5.1.1 != 0) ((eE (1,())).bind fun v6=>some (v6.1,(a1.1,v3.1,a1.2.2.1,a1.2.2.2.1,()),())) (k.dd (a1.1,v3.1,a1.2.2.1,a1.2.2.2.1,()) a3 (0,([]:aj),()) v5.1)) (cond (a3.1==22) (cond (v5.1.1 != 0) ((eE (1,())).bind fun bA=>some (bA.1,(a1.1,v3.1,a1.2.2.1,a1.2.2.2.1,()),())) (k.dd (a1.1,v3.1,a1.2.2.1,a1.2.2.2.1,()) a3 (0,([]:aj),()) v5.1)) (k.dd (a1.1,v3.1,a1.2.2.1,a1.2.2.2.1,()) a3 (0,([]:aj),()) v5.1))))
def yz(k:tp)(U:aY.D)(aa:aI.D)(ae:an.D)(ai:aK.D):Option (rF):=cond (aa.1==21) (cond (decide (aa.2.2.2.1<0)) ((eE (22,())).bind fun v1=>some (v1.1,U,())) (k.eF U aa ae ai)) (k.eF U aa ae ai)
def yA(k:tp)(U:aY.D)(aa:aI.D)(ae:an.D)(ai:aK.D):Option (rF):=cond (aa.1==21) ((MY (U.2.2.1,aa.2.2.2.1,())).bind fun v1=>some ((0,v1.1,()),U,())) (cond (aa.1==22) (some ((0,([]:aj),()),(U.1,U.2.1,[],U.2.2.2.1,()),())) ((AS (aa.1,())).bind fun v2=>cond (!v2.1) (cond ((U.2.2.1.length:Int)==20) ((eE (28,())).bind fun v3=>some (v3.1,U,())) (k.ku U aa ae ai)) (k.ku U aa ae ai)))
def NW(k:tp)(U:aY.D)(aa:aI.D)(ae:an.D)(ai:aK.D):Option (rF):=both ((A4 (U.1,ai,aa,())).bind fun v1=>dup (some (v1.2.1,(v1.1,U.2.1,U.2.2.1,U.2.2.2.1,()),()))) (dup (dup ((A4 (U.1,ai,aa,())).bind fun v1=>some (v1.2.1,(v1.1,U.2.1,U.2.2.1,U.2.2.2.1,()),()))))
def Wk(k:tp):tp:=⟨yz k,yA k,NW k⟩
def mg:Nat→tp:=ew Wk ⟨fun _ _ _ _=>none,fun _ _ _ _=>none,fun _ _ _ _=>none⟩
def Ga(x:aY.D×Int×aI.D×Unit):Option (rF):=F_ (mg aM) x.1 x.2.1 x.2.2.1
abbrev m6:Type:=an.D×Bool×aY.D×Unit
structure rG where
 dd:Int→Int→Int→Bool→aY.D→aI.D→an.D→an.D→Option (m6)
 dm:Int→Int→Int→aY.D→aI.D→an.D→an.D→Option (m6)
 eF:Int→Int→Int→aY.D→an.D→an.D→Option (m6)
def Gb(k:rG)(a1:aY.D)(a2:Int)(a3:Int)(a4:aI.D)(a5:Int):Option (m6):=(dG (a2,1,3,())).bind fun v1=>cond (!v1.1) (some ((0,([]:aj),()),false,a1,())) ((dG (a3,1,1000000,())).bind fun v2=>cond (!v2.1) (some ((0,([]:aj),()),false,a1,())) ((dG (a5,1,100000,())).bind fun v3=>cond (!v3.1) (some ((0,([]:aj),()),false,a1,())) ((MM (a1,a5,())).bind fun v4=>cond v4.1 (some ((0,([]:aj),()),false,a1,())) ((MO (a1,a2,())).bind fun v5=>cond (a3==v5.1.2.1) (some (v5.1.2.2.2.1,false,a1,())) (cond (a3 != ax (v5.1.2.1+1)) (some ((0,([]:aj),()),false,a1,())) ((Ga (a1,a2,a4,())).bind fun v6=>cond (a4.1==22) (k.dd a2 a3 a5 (v6.1.1==0) v6.2.1 a4 (0,([]:aj),()) v6.1) (k.dd a2 a3 a5 false v6.2.1 a4 (0,([]:aj),()) v6.1)))))))
def NX(k:rG)(U:Int)(aa:Int)(ae:Int)(ai:Bool)(aq:aY.D)(az:aI.D)(aU:an.D)(bn:an.D):Option (m6):=cond (decide ((aq.2.2.1.length:Int)<20)) ((vB (az,())).bind fun v1=>cond v1.1 ((AS (az.1,())).bind fun v2=>cond (!v2.1) (cond (!ai) (k.dm U aa ae aq az aU bn) (k.eF U aa ae aq aU bn)) (cond (bn.1 != 0) (cond (!ai) (k.dm U aa ae aq az aU bn) (k.eF U aa ae aq aU bn)) (k.eF U aa ae aq aU bn))) (k.eF U aa ae aq aU bn)) (k.eF U aa ae aq aU bn)
def ahc(k:rG)(U:Int)(aa:Int)(ae:Int)(ai:aY.D)(az:an.D)(aU:an.D)(v1:List a6.D):Option (m6):=k.eF U aa ae (ai.1,ai.2.1,v1,ai.2.2.2.1,()) az aU
def NY(k:rG)(U:Int)(aa:Int)(ae:Int)(ai:aY.D)(aq:aI.D)(az:an.D)(aU:an.D):Option (m6):=cond (room (ai.2.2.1.length+[(ae,U,aa,aq.1,aU.1,())].length)) (ahc k U aa ae ai az aU (ai.2.2.1++[(ae,U,aa,aq.1,aU.1,())])) (none)
def ahd(az:an.D)(ai:aY.D)(v3:List bP.D):Option (m6):=some (az,true,(ai.1,ai.2.1,ai.2.2.1,v3,()),())
def ahe(az:an.D)(ai:aY.D)(bA:List bP.D):Option (m6):=some (az,true,(ai.1,ai.2.1,ai.2.2.1,bA,()),())
def Wl(ai:aY.D)(v4:Nat×Nat)(az:an.D)(v6:List bP.D):Option (m6):=cond (room ((part ai.2.2.2.1 (0+v4.1) (v4.2-v4.1)).length+v6.length)) (ahe az ai ((part ai.2.2.2.1 (0+v4.1) (v4.2-v4.1))++v6)) (none)
def NZ(k:rG)(U:Int)(aa:Int)(ae:Int)(ai:aY.D)(aq:an.D)(az:an.D):Option (m6):=(E6 (ai,U,())).bind fun v1=>cond v1.2.1 ((ix ai.2.2.2.1.length v1.1).bind fun v2=>ahd az ai (ai.2.2.2.1.set (0+v2) (U,aa,ae,az,()))) (cond (decide (v1.1=v1.1)) ((dh ai.2.2.2.1.length 0 v1.1).bind fun v4=>(dh ai.2.2.2.1.length v1.1 (ai.2.2.2.1.length:Int)).bind fun v5=>cond (room ([(U,aa,ae,az,())].length +(part ai.2.2.2.1 (0+v5.1) (v5.2-v5.1)).length)) (Wl ai v4 az ([(U,aa,ae,az,())]++(part ai.2.2.2.1 (0+v5.1) (v5.2-v5.1)))) (none)) (none))
def Wm(k:rG):rG:=⟨NX k,NY k,NZ k⟩
def rH:Nat→rG:=ew Wm ⟨fun _ _ _ _ _ _ _ _=>none,fun _ _ _ _ _ _ _=>none,fun _ _ _ _ _ _=>none⟩
def yB(x:aY.D×Int×Int×aI.D×Int×Unit):Option (m6):=Gb (rH aM) x.1 x.2.1 x.2.2.1 x.2.2.2.1 x.2.2.2.2.1
def N0(a1:Int)(a2:Int)(a3:Int):Option (Bool×Unit):=cond (decide (a1≥a2)) (some (decide (a1≤a3),())) (some (false,()))
def dz(x:Int×Int×Int×Unit):Option (Bool×Unit):=N0 x.1 x.2.1 x.2.2.1
def N1(a1:Int):Option (Bool×Unit):=cond (decide (a1≥97)) (cond (decide (a1≤122)) (some (true,())) (cond (decide (a1≥48)) (cond (decide (a1≤57)) (some (true,())) (cond (a1==46) (some (true,())) (cond (a1==95) (some (true,())) (some (a1==45,()))))) (cond (a1==46) (some (true,())) (cond (a1==95) (some (true,())) (some (a1==45,())))))) (cond (decide (a1≥48)) (cond (decide (a1≤57)) (some (true,())) (cond (a1==46) (some (true,())) (cond (a1==95) (some (true,())) (some (a1==45,()))))) (cond (a1==46) (some (true,())) (cond (a1==95) (some (true,())) (some (a1==45,())))))
def Gc(x:Int×Unit):Option (Bool×Unit):=N1 x.1
abbrev Gd:Type:=(aj)→Int→Option (Bool×Unit)
def Ge(bs:Gd)(a1:aj):Option (Bool×Unit):=(dz ((a1.length:Int),1,60,())).bind fun v1=>cond (!v1.1) (some (false,())) (bs a1 0)
def Gf(bs:Gd)(U:aj)(aa:Int):Option (Bool×Unit):=cond (decide (aa<(U.length:Int))) ((ix U.length aa).bind fun v1=>cond (((U.getD v1 0).toNat:Int) != 47) ((ix U.length aa).bind fun v2=>(Gc (((U.getD v2 0).toNat:Int),())).bind fun v3=>cond (!v3.1) (some (false,())) (bs U (ax (aa+1)))) (bs U (ax (aa+1)))) (some (true,()))
def vP:Nat→Gd | 0,_,_=>none | m+1,U,aa=>Gf (vP m) U aa
def Gg(x:(aj)×Unit):Option (Bool×Unit):=Ge (vP aM) x.1
abbrev Gh:Type:=Int→Int→ah.D→Option (Int×Unit)
def Gi(k2:Gh)(a1:ah.D)(a2:Int):Option (Int×Unit):=k2 a2 0 a1
def Gj(k2:Gh)(U:Int)(aa:Int)(ae:ah.D):Option (Int×Unit):=cond (decide (aa<(ae.2.1.length:Int))) ((ix ae.2.1.length aa).bind fun v1=>cond ((I J ae.2.1 v1).1==U) (some (aa,())) (k2 U (ax (aa+1)) ae)) (some ((-1),()))
def vQ:Nat→Gh | 0,_,_,_=>none | m+1,U,aa,ae=>Gj (vQ m) U aa ae
def m7(x:ah.D×Int×Unit):Option (Int×Unit):=Gi (vQ aM) x.1 x.2.1
structure rI where
 cV:Int→ah.D→(List Bool)→(List Bool)→Option ((List Bool)×Unit)
 dm:Int→Int→ah.D→(List Bool)→(List Bool)→Option ((List Bool)×Unit)
 Gk:Int→Int→Int→ah.D→(List Bool)→(List Bool)→Option ((List Bool)×Unit)
def ahf(k:rI)(a1:ah.D)(v3:List Bool):Option ((List Bool)×Unit):=k.cV 0 a1 (List.replicate (Int.toNat (a1.2.1.length:Int)) (false:Bool)) v3
def Gl(k:rI)(a1:ah.D)(a2:Int):Option ((List Bool)×Unit):=cond (decide (0≤(a1.2.1.length:Int))&&decide ((a1.2.1.length:Int)=(a1.2.1.length:Int))&&room (Int.toNat (a1.2.1.length:Int))) (cond (decide (0≤(a1.2.1.length:Int))&&decide ((a1.2.1.length:Int)=(a1.2.1.length:Int))&&room (Int.toNat (a1.2.1.length:Int))) ((m7 (a1,a2,())).bind fun v1=>cond (decide (v1.1<0)) (some (List.replicate (Int.toNat (a1.2.1.length:Int)) (false:Bool),())) ((ix ((List.replicate (Int.toNat (a1.2.1.length:Int)) (false:Bool)).length) v1.1).bind fun v2=>ahf k a1 ((List.replicate (Int.toNat (a1.2.1.length:Int)) (false:Bool)).set (0+v2) true))) (none)) (none)
def A5(k:rI)(U:Int)(aa:ah.D)(ae:List Bool)(ai:List Bool):Option ((List Bool)×Unit):=cond (decide (U<(aa.2.1.length:Int))) (k.dm U 0 aa ae ai) (some (ae,()))
def vR(k:rI)(U:Int)(aa:Int)(ae:ah.D)(ai:List Bool)(aq:List Bool):Option ((List Bool)×Unit):=cond (decide (aa<(ae.2.1.length:Int))) ((ix aq.length aa).bind fun v1=>cond (!(I ad.bool aq (0+v1))) (k.dm U (ax (aa+1)) ae ai aq) (k.Gk U aa 0 ae ai aq)) (k.cV (ax (U+1)) ae ai aq)
def A6(k:rI)(U:Int)(aa:Int)(ae:Int)(ai:ah.D)(aq:List Bool)(az:List Bool):Option ((List Bool)×Unit):=(ix ai.2.1.length aa).bind fun v1=>cond (decide (ae<(((I J ai.2.1 v1).2.2.2.2.2.2.1).length:Int))) ((ix ai.2.1.length aa).bind fun v2=>(ix (((I J ai.2.1 v2).2.2.2.2.2.2.1).length) ae).bind fun v3=>(m7 (ai,(I aJ ((I J ai.2.1 v2).2.2.2.2.2.2.1) v3).2.1,())).bind fun v4=>cond (decide (v4.1≥0)) ((ix aq.length v4.1).bind fun v5=>(ix az.length v4.1).bind fun v6=>k.Gk U aa (ax (ae+1)) ai (aq.set (0+v5) true) (az.set (0+v6) true)) (k.Gk U aa (ax (ae+1)) ai aq az)) (k.dm U (ax (aa+1)) ai aq az)
def Wn(k:rI):rI:=⟨A5 k,vR k,A6 k⟩
def kv:Nat→rI:=ew Wn ⟨fun _ _ _ _=>none,fun _ _ _ _ _=>none,fun _ _ _ _ _ _=>none⟩
def N2(x:ah.D×Int×Unit):Option ((List Bool)×Unit):=Gl (kv aM) x.1 x.2.1
structure vS where
 k3:Int→Int→Int→ah.D→Option (Int×Unit)
 df:Int→Int→Int→Int→ah.D→Option (Int×Unit)
def Gm(k:vS)(a1:ah.D)(a2:Int):Option (Int×Unit):=k.k3 a2 0 0 a1
def A7(k:vS)(U:Int)(aa:Int)(ae:Int)(ai:ah.D):Option (Int×Unit):=cond (decide (ae<(ai.2.1.length:Int))) (k.df U aa ae 0 ai) (some (aa,()))
def A8(k:vS)(U:Int)(aa:Int)(ae:Int)(ai:Int)(aq:ah.D):Option (Int×Unit):=(ix aq.2.1.length ae).bind fun v1=>cond (decide (ai<(((I J aq.2.1 v1).2.2.2.2.2.2.1).length:Int))) ((ix aq.2.1.length ae).bind fun v2=>(ix (((I J aq.2.1 v2).2.2.2.2.2.2.1).length) ai).bind fun v3=>cond ((I aJ ((I J aq.2.1 v2).2.2.2.2.2.2.1) v3).2.1==U) (k.df U (ax (aa+1)) ae (ax (ai+1)) aq) (k.df U aa ae (ax (ai+1)) aq)) (k.k3 U aa (ax (ae+1)) aq)
def Wo(k:vS):vS:=⟨A7 k,A8 k⟩
def qh:Nat→vS:=ew Wo ⟨fun _ _ _ _=>none,fun _ _ _ _ _=>none⟩
def Gn(x:ah.D×Int×Unit):Option (Int×Unit):=Gm (qh aM) x.1 x.2.1
abbrev Gp:Type:=Int→Int→ah.D→Option (Int×Unit)
def Gq(k3:Gp)(a1:ah.D):Option (Int×Unit):=k3 0 0 a1
def Gr(k3:Gp)(U:Int)(aa:Int)(ae:ah.D):Option (Int×Unit):=cond (decide (aa<(ae.2.1.length:Int))) ((ix ae.2.1.length aa).bind fun v1=>k3 (ax (U +(((I J ae.2.1 v1).2.2.2.2.2.1).length:Int))) (ax (aa+1)) ae) (some (U,()))
def vT:Nat→Gp | 0,_,_,_=>none | m+1,U,aa,ae=>Gr (vT m) U aa ae
def Gs(x:ah.D×Unit):Option (Int×Unit):=Gq (vT aM) x.1
abbrev Gt:Type:=Int→Int→Int→ah.D→(List Bool)→Option (Int×Int×Unit)
def Gu(bp:Gt)(a1:ah.D)(a2:Int):Option (Int×Int×Unit):=(N2 (a1,a2,())).bind fun v1=>bp 0 0 0 a1 v1.1
def Gv(bp:Gt)(U:Int)(aa:Int)(ae:Int)(ai:ah.D)(aq:List Bool):Option (Int×Int×Unit):=cond (decide (ae<(aq.length:Int))) ((ix aq.length ae).bind fun v1=>cond (I ad.bool aq (0+v1)) ((ix ai.2.1.length ae).bind fun v2=>bp (ax (U +(((I J ai.2.1 v2).2.2.2.2.2.1).length:Int))) (ax (aa+1)) (ax (ae+1)) ai aq) (bp U aa (ax (ae+1)) ai aq)) (some (U,aa,()))
def vU:Nat→Gt | 0,_,_,_,_,_=>none | m+1,U,aa,ae,ai,aq=>Gv (vU m) U aa ae ai aq
def A9(x:ah.D×Int×Unit):Option (Int×Int×Unit):=Gu (vU aM) x.1 x.2.1
structure vV where
 k2:Int→ah.D→Option (Bool×Unit)
 df:Int→ah.D→J.D→Option (Bool×Unit)
def Gw(k:vV)(a1:ah.D):Option (Bool×Unit):=k.k2 0 a1
def A_(k:vV)(U:Int)(aa:ah.D):Option (Bool×Unit):=cond (decide (U<(aa.2.1.length:Int))) ((ix aa.2.1.length U).bind fun v1=>cond ((I J aa.2.1 v1).2.1 != 2) (k.k2 (ax (U+1)) aa) (cond ((I J aa.2.1 v1).2.2.2.2.2.2.2.1==0) (cond ((I J aa.2.1 v1).2.2.2.2.2.2.2.2.1==0) (k.k2 (ax (U+1)) aa) (k.df U aa (I J aa.2.1 v1))) (k.df U aa (I J aa.2.1 v1)))) (some (false,()))
def N3(k:vV)(U:Int)(aa:ah.D)(ae:J.D):Option (Bool×Unit):=(A9 (aa,ae.1,())).bind fun v1=>cond (decide (ae.2.2.2.2.2.2.2.1>0)) (cond (decide (v1.1>ae.2.2.2.2.2.2.2.1)) (some (true,())) (cond (decide (ae.2.2.2.2.2.2.2.2.1>0)) (cond (decide (v1.2.1>ae.2.2.2.2.2.2.2.2.1)) (some (true,())) (k.k2 (ax (U+1)) aa)) (k.k2 (ax (U+1)) aa))) (cond (decide (ae.2.2.2.2.2.2.2.2.1>0)) (cond (decide (v1.2.1>ae.2.2.2.2.2.2.2.2.1)) (some (true,())) (k.k2 (ax (U+1)) aa)) (k.k2 (ax (U+1)) aa))
def Wp(k:vV):vV:=⟨A_ k,N3 k⟩
def kx:Nat→vV:=ew Wp ⟨fun _ _=>none,fun _ _ _=>none⟩
def N4(x:ah.D×Unit):Option (Bool×Unit):=Gw (kx aM) x.1
abbrev Gz:Type:=(List a6.D)→Int→Option (Bool×Unit)
def GA(bs:Gz)(a1:List a6.D):Option (Bool×Unit):=cond (decide ((a1.length:Int)>20)) (some (false,())) (bs a1 0)
def GB(bs:Gz)(U:List a6.D)(aa:Int):Option (Bool×Unit):=cond (decide (aa<(U.length:Int))) ((ix U.length aa).bind fun v1=>(dz ((I a6 U v1).1,1,100000,())).bind fun v2=>cond (!v2.1) (some (false,())) (cond (decide (aa>0)) ((ix U.length (ax (aa-1))).bind fun v3=>cond (decide ((I a6 U v3).1 >(I a6 U v1).1)) (some (false,())) ((dz ((I a6 U v1).2.1,1,3,())).bind fun v4=>cond (!v4.1) (some (false,())) ((dz ((I a6 U v1).2.2.1,1,1000000,())).bind fun v5=>cond (!v5.1) (some (false,())) ((dz ((I a6 U v1).2.2.2.1,1,22,())).bind fun v6=>cond (!v6.1) (some (false,())) ((dz ((I a6 U v1).2.2.2.2.1,0,200,())).bind fun bA=>cond (!bA.1) (some (false,())) (bs U (ax (aa+1)))))))) ((dz ((I a6 U v1).2.1,1,3,())).bind fun cF=>cond (!cF.1) (some (false,())) ((dz ((I a6 U v1).2.2.1,1,1000000,())).bind fun v9=>cond (!v9.1) (some (false,())) ((dz ((I a6 U v1).2.2.2.1,1,22,())).bind fun v10=>cond (!v10.1) (some (false,())) ((dz ((I a6 U v1).2.2.2.2.1,0,200,())).bind fun v11=>cond (!v11.1) (some (false,())) (bs U (ax (aa+1))))))))) (some (true,()))
def vW:Nat→Gz | 0,_,_=>none | m+1,U,aa=>GB (vW m) U aa
def N5(x:(List a6.D)×Unit):Option (Bool×Unit):=GA (vW aM) x.1
abbrev GC:Type:=Int→Int→aY.D→Option (Int×Bool×Unit)
def Wq(k2:GC)(a1:aY.D)(a2:Int):Option (Int×Bool×Unit):=k2 a2 0 a1
def yC(k2:GC)(U:Int)(aa:Int)(ae:aY.D):Option (Int×Bool×Unit):=cond (decide (aa<(ae.2.2.2.1.length:Int))) ((ix ae.2.2.2.1.length aa).bind fun v1=>cond (decide ((I bP ae.2.2.2.1 v1).1≥U)) ((ix ae.2.2.2.1.length aa).bind fun v2=>some (aa,(I bP ae.2.2.2.1 v2).1==U,())) (k2 U (ax (aa+1)) ae)) (some ((ae.2.2.2.1.length:Int),false,()))
def yD:Nat→GC | 0,_,_,_=>none | m+1,U,aa,ae=>yC (yD m) U aa ae
def GD(x:aY.D×Int×Unit):Option (Int×Bool×Unit):=Wq (yD aM) x.1 x.2.1
def N6(a1:aY.D)(a2:Int):Option (bP.D×Unit):=(GD (a1,a2,())).bind fun v1=>cond (!v1.2.1) (some ((0,0,0,(0,([]:aj),()),()),())) ((ix a1.2.2.2.1.length v1.1).bind fun v2=>some (I bP a1.2.2.2.1 v2,()))
def N7(x:aY.D×Int×Unit):Option (bP.D×Unit):=N6 x.1 x.2.1
structure vX where
 k3:Int→Int→aY.D→Option (Int×Unit)
 cV:Int→Int→aY.D→Option (Int×Unit)
def Wr(k:vX)(a1:aY.D):Option (Int×Unit):=k.k3 0 0 a1
def GF(k:vX)(U:Int)(aa:Int)(ae:aY.D):Option (Int×Unit):=cond (decide (aa<(ae.2.2.1.length:Int))) ((ix ae.2.2.1.length aa).bind fun v1=>cond (decide ((I a6 ae.2.2.1 v1).1>U)) ((ix ae.2.2.1.length aa).bind fun v2=>k.k3 ((I a6 ae.2.2.1 v2).1) (ax (aa+1)) ae) (k.k3 U (ax (aa+1)) ae)) (k.cV U 0 ae)
def GG(k:vX)(U:Int)(aa:Int)(ae:aY.D):Option (Int×Unit):=cond (decide (aa<(ae.2.2.2.1.length:Int))) ((ix ae.2.2.2.1.length aa).bind fun v1=>cond (decide ((I bP ae.2.2.2.1 v1).2.2.1>U)) ((ix ae.2.2.2.1.length aa).bind fun v2=>k.cV ((I bP ae.2.2.2.1 v2).2.2.1) (ax (aa+1)) ae) (k.cV U (ax (aa+1)) ae)) (some (U,()))
def Ws(k:vX):vX:=⟨GF k,GG k⟩
def n9:Nat→vX:=ew Ws ⟨fun _ _ _=>none,fun _ _ _=>none⟩
def N8(x:aY.D×Unit):Option (Int×Unit):=Wr (n9 aM) x.1
abbrev GH:Type:=aI.D→Option (Bool×Unit)
def GI(bp:GH)(a1:aI.D):Option (Bool×Unit):=(dz (a1.1,1,22,())).bind fun v1=>cond (!v1.1) (some (false,())) (cond (decide ((a1.2.1.length:Int)>60)) (some (false,())) (cond (decide ((a1.2.2.1.length:Int)>60)) (some (false,())) (cond (decide ((a1.2.2.2.2.2.1.length:Int)>64)) (some (false,())) ((dz (a1.2.2.2.1,(-1000000),1000000,())).bind fun v2=>cond (!v2.1) (some (false,())) ((dz (a1.2.2.2.2.1,(-1000000),1000000,())).bind fun v3=>cond (!v3.1) (some (false,())) (cond (!(bw a1.2.2.1 ([]:aj))) (cond (a1.1 != 9) (cond (a1.1 != 10) (cond (a1.1 != 12) (some (false,())) (bp a1)) (bp a1)) (bp a1)) (bp a1)))))))
def N9(bp:GH)(U:aI.D):Option (Bool×Unit):=cond (bw U.2.2.2.2.2.1 ([]:aj)) (some (true,())) (cond (U.1==5) (some (true,())) (some (U.1==6,())))
def A':Nat→GH | 0,_=>none | m+1,U=>N9 (A' m) U
def vY(x:aI.D×Unit):Option (Bool×Unit):=GI (A' aM) x.1
def N_(a1:Int):Option (Bool×Unit):=cond (a1==4) (cond (a1==4) (some (true,())) (some (false,()))) (cond (a1==11) (cond (a1==11) (some (true,())) (some (false,()))) (cond (a1==13) (cond (a1==13) (some (true,())) (some (false,()))) (cond (a1==14) (cond (a1==14) (some (true,())) (some (false,()))) (cond (a1==17) (cond (a1==17) (some (true,())) (some (false,()))) (cond (a1==18) (cond (a1==18) (some (true,())) (some (false,()))) (cond (a1==20) (cond (a1==20) (some (true,())) (some (false,()))) (cond (a1==21) (some (true,())) (some (false,())))))))))
def Ba(x:Int×Unit):Option (Bool×Unit):=N_ x.1
def N'(a1:Int):Option (aK.D×Unit):=cond (a1==1) (some ((0,0,[],()),())) (cond (a1==2) (some ((2,2,[5],()),())) (cond (a1==3) (some ((3,2,[],()),())) (some ((1000,1000,[],()),()))))
def Oa(x:Int×Unit):Option (aK.D×Unit):=N' x.1
def Ob(a1:Int):Option (Int×Unit):=(Ba (a1,())).bind fun v1=>cond v1.1 (some (1,())) ((dz (a1,1,22,())).bind fun v2=>cond v2.1 (some (3,())) (some (0,())))
def Oc(x:Int×Unit):Option (Int×Unit):=Ob x.1
def Od(a1:Int)(a2:Int):Option (Int×Bool×Unit):=(Oc (a2,())).bind fun v1=>cond (v1.1==0) (some (a1,false,())) (cond (decide (v1.1>a1)) (some (a1,false,())) (some (ax (a1-v1.1),true,())))
def Oe(x:Int×Int×Unit):Option (Int×Bool×Unit):=Od x.1 x.2.1
abbrev GJ:Type:=Int→(aj)→Bool→Option ((aj)×Unit)
def GK(bp:GJ)(a1:Int):Option ((aj)×Unit):=cond (a1==0) (some (([48]:aj),())) (bp a1 ([]:aj) (decide (a1<0)))
def Bb(bp:GJ)(U:Int)(aa:aj)(ae:Bool):Option ((aj)×Unit):=cond (U != 0) (cond (decide (Int.tmod U 10<0)) (cond (room ((eS [IntKind.wrap .u8 (ax (48+ax (0-(Int.tmod U 10))))]).length+aa.length)) (bp (ax (Int.tdiv U 10)) ((eS [IntKind.wrap .u8 (ax (48+ax (0-(Int.tmod U 10))))])++aa) ae) (none)) (cond (room ((eS [IntKind.wrap .u8 (ax (48+Int.tmod U 10))]).length+aa.length)) (bp (ax (Int.tdiv U 10)) ((eS [IntKind.wrap .u8 (ax (48+Int.tmod U 10))])++aa) ae) (none))) (cond ae (cond (room (([45]:aj).length+aa.length)) (some (([45]:aj)++aa,())) (none)) (some (aa,())))
def pe:Nat→GJ | 0,_,_,_=>none | m+1,U,aa,ae=>Bb (pe m) U aa ae
def e9(x:Int×Unit):Option ((aj)×Unit):=GK (pe aM) x.1
structure vZ where
 bp:(List a6.D)→Int→(aj)→Int→Option ((aj)×Unit)
 fV:(List a6.D)→Int→(aj)→Int→Option ((aj)×Unit)
def GL(k:vZ)(a1:List a6.D)(a2:Int):Option ((aj)×Unit):=(N5 (a1,())).bind fun v1=>cond (!v1.1) (some (([]:aj),())) (cond (decide (a2<0)) (some (([]:aj),())) (k.bp a1 a2 ([]:aj) a2))
def GM(k:vZ)(U:List a6.D)(aa:Int)(ae:aj)(ai:Int):Option ((aj)×Unit):=cond (decide (ai<(U.length:Int))) (cond (decide (ai<ax (aa+6))) (cond (decide (ai>aa)) (cond (room (ae.length +([32]:aj).length)) (k.fV U aa (ae++([32]:aj)) ai) (none)) (k.fV U aa ae ai)) (some (ae,()))) (some (ae,()))
def Of(k:vZ)(U:List a6.D)(aa:Int)(ae:aj)(ai:Int):Option ((aj)×Unit):=(ix U.length ai).bind fun v1=>(ix U.length ai).bind fun v2=>(ix U.length ai).bind fun v3=>(ix U.length ai).bind fun v4=>(ix U.length ai).bind fun v5=>(e9 ((I a6 U v1).1,())).bind fun v6=>cond (room (ae.length+v6.1.length)) (cond (room ((ae++v6.1).length +([46]:aj).length)) ((e9 ((I a6 U v2).2.1,())).bind fun bA=>cond (room (((ae++v6.1)++([46]:aj)).length+bA.1.length)) (cond (room ((((ae++v6.1)++([46]:aj))++bA.1).length +([46]:aj).length)) ((e9 ((I a6 U v3).2.2.1,())).bind fun cF=>cond (room (((((ae++v6.1)++([46]:aj))++bA.1)++([46]:aj)).length+cF.1.length)) (cond (room ((((((ae++v6.1)++([46]:aj))++bA.1)++([46]:aj))++cF.1).length +([46]:aj).length)) ((e9 ((I a6 U v4).2.2.2.1,())).bind fun v9=>cond (room (((((((ae++v6.1)++([46]:aj))++bA.1)++([46]:aj))++cF.1)++([46]:aj)).length+v9.1.length)) (cond (room ((((((((ae++v6.1)++([46]:aj))++bA.1)++([46]:aj))++cF.1)++([46]:aj))++v9.1).length +([46]:aj).length)) ((e9 ((I a6 U v5).2.2.2.2.1,())).bind fun v10=>cond (room (((((((((ae++v6.1)++([46]:aj))++bA.1)++([46]:aj))++cF.1)++([46]:aj))++v9.1)++([46]:aj)).length+v10.1.length)) (k.bp U aa (((((((((ae++v6.1)++([46]:aj))++bA.1)++([46]:aj))++cF.1)++([46]:aj))++v9.1)++([46]:aj))++v10.1) (ax (ai+1))) (none)) (none)) (none)) (none)) (none)) (none)) (none)) (none)) (none)
def Wt(k:vZ):vZ:=⟨GM k,Of k⟩
def qi:Nat→vZ:=ew Wt ⟨fun _ _ _ _=>none,fun _ _ _ _=>none⟩
def Og(x:(List a6.D)×Int×Unit):Option ((aj)×Unit):=GL (qi aM) x.1 x.2.1
abbrev yE:Type:=Int→ah.D→ah.D→ah.D→Option (ah.D×Unit)
def GN(k3:yE)(a1:ah.D):Option (ah.D×Unit):=k3 0 a1 (0,[],()) (a1.1,[],())
def Wu(k3:yE)(U:Int)(aa:ah.D)(ae:ah.D)(ai:ah.D)(v3:List J.D):Option (ah.D×Unit):=k3 (ax (U+1)) aa ae (ai.1,v3,())
def Wv(k3:yE)(ai:ah.D)(aa:ah.D)(v1:Nat)(U:Int)(ae:ah.D)(v2:List aJ.D):Option (ah.D×Unit):=cond (room (ai.2.1.length+[((I J aa.2.1 v1).1,(I J aa.2.1 v1).2.1,(I J aa.2.1 v1).2.2.1,(I J aa.2.1 v1).2.2.2.1,(I J aa.2.1 v1).2.2.2.2.1,(I J aa.2.1 v1).2.2.2.2.2.1,v2,(I J aa.2.1 v1).2.2.2.2.2.2.2.1,(I J aa.2.1 v1).2.2.2.2.2.2.2.2.1,())].length)) (Wu k3 U aa ae ai (ai.2.1++[((I J aa.2.1 v1).1,(I J aa.2.1 v1).2.1,(I J aa.2.1 v1).2.2.1,(I J aa.2.1 v1).2.2.2.1,(I J aa.2.1 v1).2.2.2.2.1,(I J aa.2.1 v1).2.2.2.2.2.1,v2,(I J aa.2.1 v1).2.2.2.2.2.2.2.1,(I J aa.2.1 v1).2.2.2.2.2.2.2.2.1,())])) (none)
def GO(k3:yE)(U:Int)(aa:ah.D)(ae:ah.D)(ai:ah.D):Option (ah.D×Unit):=cond (decide (U<(aa.2.1.length:Int))) ((ix aa.2.1.length U).bind fun v1=>cond (room (([]:List aJ.D).length +((I J aa.2.1 v1).2.2.2.2.2.2.1).length)) (Wv k3 ai aa v1 U ae (([]:List aJ.D)++((I J aa.2.1 v1).2.2.2.2.2.2.1))) (none)) (some (ai,()))
def v7:Nat→yE | 0,_,_,_,_=>none | m+1,U,aa,ae,ai=>GO (v7 m) U aa ae ai
def tq(x:ah.D×Unit):Option (ah.D×Unit):=GN (v7 aM) x.1
abbrev Bc:Type:=Int→ah.D→ah.D→ah.D→Option (ah.D×Unit)
def ahg(k3:Bc)(a1:ah.D):Option (ah.D×Unit):=k3 0 a1 (0,[],()) (a1.1,[],())
def ahh(k3:Bc)(U:Int)(aa:ah.D)(ae:ah.D)(ai:ah.D)(v3:List J.D):Option (ah.D×Unit):=k3 (ax (U+1)) aa ae (ai.1,v3,())
def ahi(k3:Bc)(ai:ah.D)(aa:ah.D)(v1:Nat)(U:Int)(ae:ah.D)(v2:List aJ.D):Option (ah.D×Unit):=cond (room (ai.2.1.length+[((I J aa.2.1 v1).1,(I J aa.2.1 v1).2.1,(I J aa.2.1 v1).2.2.1,(I J aa.2.1 v1).2.2.2.1,(I J aa.2.1 v1).2.2.2.2.1,(I J aa.2.1 v1).2.2.2.2.2.1,v2,(I J aa.2.1 v1).2.2.2.2.2.2.2.1,(I J aa.2.1 v1).2.2.2.2.2.2.2.2.1,())].length)) (ahh k3 U aa ae ai (ai.2.1++[((I J aa.2.1 v1).1,(I J aa.2.1 v1).2.1,(I J aa.2.1 v1).2.2.1,(I J aa.2.1 v1).2.2.2.1,(I J aa.2.1 v1).2.2.2.2.1,(I J aa.2.1 v1).2.2.2.2.2.1,v2,(I J aa.2.1 v1).2.2.2.2.2.2.2.1,(I J aa.2.1 v1).2.2.2.2.2.2.2.2.1,())])) (none)
def ahj(k3:Bc)(U:Int)(aa:ah.D)(ae:ah.D)(ai:ah.D):Option (ah.D×Unit):=cond (decide (U<(aa.2.1.length:Int))) ((ix aa.2.1.length U).bind fun v1=>cond (room (([]:List aJ.D).length +((I J aa.2.1 v1).2.2.2.2.2.2.1).length)) (ahi k3 ai aa v1 U ae (([]:List aJ.D)++((I J aa.2.1 v1).2.2.2.2.2.2.1))) (none)) (some (ai,()))
def Ww:Nat→Bc | 0,_,_,_,_=>none | m+1,U,aa,ae,ai=>ahj (Ww m) U aa ae ai
def atN(x:ah.D×Unit):Option (ah.D×Unit):=ahg (Ww aM) x.1
abbrev GP:Type:=(aj)→Int→Option (Bool×Unit)
def GQ(bs:GP)(a1:aj):Option (Bool×Unit):=(dz ((a1.length:Int),1,60,())).bind fun v1=>cond (!v1.1) (some (false,())) ((ix a1.length 0).bind fun v2=>cond (((a1.getD v2 0).toNat:Int) != 47) (some (false,())) (bs a1 0))
def GR(bs:GP)(U:aj)(aa:Int):Option (Bool×Unit):=cond (decide (aa<(U.length:Int))) ((ix U.length aa).bind fun v1=>cond (((U.getD v1 0).toNat:Int) != 47) ((ix U.length aa).bind fun v2=>(Gc (((U.getD v2 0).toNat:Int),())).bind fun v3=>cond (!v3.1) (some (false,())) (bs U (ax (aa+1)))) (bs U (ax (aa+1)))) (some (true,()))
def v8:Nat→GP | 0,_,_=>none | m+1,U,aa=>GR (v8 m) U aa
def GS(x:(aj)×Unit):Option (Bool×Unit):=GQ (v8 aM) x.1
abbrev GU:Type:=Int→aK.D→Option (Bool×Unit)
def GV(bs:GU)(a1:aK.D):Option (Bool×Unit):=(dz (a1.1,0,1000,())).bind fun v1=>cond (!v1.1) (some (false,())) ((dz (a1.2.1,0,1000,())).bind fun v2=>cond (!v2.1) (some (false,())) (cond (decide ((a1.2.2.1.length:Int)>4)) (some (false,())) (bs 0 a1)))
def GW(bs:GU)(U:Int)(aa:aK.D):Option (Bool×Unit):=cond (decide (U<(aa.2.2.1.length:Int))) ((ix aa.2.2.1.length U).bind fun v1=>(dz (I (ad.int .i64) aa.2.2.1 v1,0,1000,())).bind fun v2=>cond (!v2.1) (some (false,())) (bs (ax (U+1)) aa)) (some (true,()))
def v_:Nat→GU | 0,_,_=>none | m+1,U,aa=>GW (v_ m) U aa
def Bd(x:aK.D×Unit):Option (Bool×Unit):=GV (v_ aM) x.1
abbrev GX:Type:=Int→Bool→Int→aK.D→Option (Bool×Unit)
def GY(bp:GX)(a1:aK.D)(a2:Int):Option (Bool×Unit):=(Bd (a1,())).bind fun v1=>cond (!v1.1) (some (false,())) (bp a2 (a1.2.1==a2) 0 a1)
def GZ(bp:GX)(U:Int)(aa:Bool)(ae:Int)(ai:aK.D):Option (Bool×Unit):=cond (decide (ae<(ai.2.2.1.length:Int))) (cond aa (bp U true (ax (ae+1)) ai) ((ix ai.2.2.1.length ae).bind fun v1=>bp U (I (ad.int .i64) ai.2.2.1 v1==U) (ax (ae+1)) ai)) (some (aa,()))
def v':Nat→GX | 0,_,_,_,_=>none | m+1,U,aa,ae,ai=>GZ (v' m) U aa ae ai
def wa(x:aK.D×Int×Unit):Option (Bool×Unit):=GY (v' aM) x.1 x.2.1
def Oh(a1:aK.D)(a2:J.D)(a3:Int):Option (Bool×Unit):=(Bd (a1,())).bind fun v1=>cond (!v1.1) (some (false,())) ((dz (a3,0,7,())).bind fun v2=>cond (!v2.1) (some (false,())) (cond (a1.1==0) (cond (cY .and .i64 a3 1==0) (some (true,())) (cond (a2.2.1 != 1) (some (true,())) (some (cY .and .i64 a2.2.2.1 73 != 0,())))) ((wa (a1,a2.2.2.2.2.1,())).bind fun v3=>cond v3.1 (cond (a1.1==a2.2.2.2.1) (some (cY .and .i64 (cY .and .i64 (Int.fdiv a2.2.2.1 (2 ^ min (Int.toNat 6) 64)) 7) a3==a3,())) (some (cY .and .i64 (cY .and .i64 (Int.fdiv a2.2.2.1 (2 ^ min (Int.toNat 3) 64)) 7) a3==a3,()))) (cond (a1.1==a2.2.2.2.1) (some (cY .and .i64 (cY .and .i64 (Int.fdiv a2.2.2.1 (2 ^ min (Int.toNat 6) 64)) 7) a3==a3,())) (some (cY .and .i64 (cY .and .i64 a2.2.2.1 7) a3==a3,()))))))
def ky(x:aK.D×J.D×Int×Unit):Option (Bool×Unit):=Oh x.1 x.2.1 x.2.2.1
structure wb where
 k2:Int→Int→ah.D→Option (Int×Unit)
 bp:Int→Int→Int→ah.D→Option (Int×Unit)
def G0(k:wb)(a1:ah.D)(a2:Int):Option (Int×Unit):=k.k2 a2 0 a1
def wc(k:wb)(U:Int)(aa:Int)(ae:ah.D):Option (Int×Unit):=cond (decide (aa<(ae.2.1.length:Int))) (k.bp U aa 0 ae) (some (1,()))
def we(k:wb)(U:Int)(aa:Int)(ae:Int)(ai:ah.D):Option (Int×Unit):=(ix ai.2.1.length aa).bind fun v1=>cond (decide (ae<(((I J ai.2.1 v1).2.2.2.2.2.2.1).length:Int))) ((ix ai.2.1.length aa).bind fun v2=>(ix (((I J ai.2.1 v2).2.2.2.2.2.2.1).length) ae).bind fun v3=>cond ((I aJ ((I J ai.2.1 v2).2.2.2.2.2.2.1) v3).2.1==U) ((ix ai.2.1.length aa).bind fun v4=>some ((I J ai.2.1 v4).1,())) (k.bp U aa (ax (ae+1)) ai)) (k.k2 U (ax (aa+1)) ai)
def Wx(k:wb):wb:=⟨wc k,we k⟩
def kX:Nat→wb:=ew Wx ⟨fun _ _ _=>none,fun _ _ _ _=>none⟩
def G4(x:ah.D×Int×Unit):Option (Int×Unit):=G0 (kX aM) x.1 x.2.1
abbrev Be:Type:=(List (aj))×Unit
abbrev G5:Type:=(aj)→Int→Int→(List (aj))→Option (Be)
def G6(bs:G5)(a1:aj):Option (Be):=bs a1 0 0 ([]:List (aj))
def Bf(bs:G5)(U:aj)(aa:Int)(ae:Int)(ai:List (aj)):Option (Be):=cond (decide (ae≤(U.length:Int))) (cond (ae ==(U.length:Int)) (cond (decide (ae>aa)) ((dh U.length aa ae).bind fun v1=>cond (room (ai.length+[part U v1.1 (v1.2-v1.1)].length)) (bs U (ax (ae+1)) (ax (ae+1)) (ai++[part U v1.1 (v1.2-v1.1)])) (none)) (bs U (ax (ae+1)) (ax (ae+1)) ai)) ((ix U.length ae).bind fun v2=>cond (((U.getD v2 0).toNat:Int)==47) (cond (decide (ae>aa)) ((dh U.length aa ae).bind fun v3=>cond (room (ai.length+[part U v3.1 (v3.2-v3.1)].length)) (bs U (ax (ae+1)) (ax (ae+1)) (ai++[part U v3.1 (v3.2-v3.1)])) (none)) (bs U (ax (ae+1)) (ax (ae+1)) ai)) (bs U aa (ax (ae+1)) ai))) (some (ai,()))
def rJ:Nat→G5 | 0,_,_,_,_=>none | m+1,U,aa,ae,ai=>Bf (rJ m) U aa ae ai
def Bg(x:(aj)×Unit):Option (Be):=G6 (rJ aM) x.1
abbrev G7:Type:=(aj)→(List aJ.D)→Int→Option (Int×Unit)
def G8(k3:G7)(a1:ah.D)(a2:Int)(a3:aj):Option (Int×Unit):=(m7 (a1,a2,())).bind fun v1=>(ix a1.2.1.length v1.1).bind fun v2=>k3 a3 ((I J a1.2.1 v2).2.2.2.2.2.2.1) 0
def G9(k3:G7)(U:aj)(aa:List aJ.D)(ae:Int):Option (Int×Unit):=cond (decide (ae<(aa.length:Int))) ((ix aa.length ae).bind fun v1=>cond (bw ((I aJ aa v1).1) U) ((ix aa.length ae).bind fun v2=>some ((I aJ aa v2).2.1,())) (k3 U aa (ax (ae+1)))) (some (0,()))
def tr:Nat→G7 | 0,_,_,_=>none | m+1,U,aa,ae=>G9 (tr m) U aa ae
def Oi(x:ah.D×Int×(aj)×Unit):Option (Int×Unit):=G8 (tr aM) x.1 x.2.1 x.2.2.1
structure qj where
 bs:Bool→Nat→Nat→Int→Int→ah.D→aK.D→a8.D→(List (aj))→Option (a8.D×Unit)
 Wy:Bool→Nat→Nat→Int→Int→(aj)→Bool→Int→ah.D→aK.D→a8.D→(List (aj))→J.D→Option (a8.D×Unit)
 j9:Bool→Nat→Nat→Int→Int→ah.D→aK.D→a8.D→(List (aj))→J.D→Option (a8.D×Unit)
 Bh:Bool→Nat→Nat→Int→Int→(aj)→Bool→Int→ah.D→aK.D→a8.D→(List (aj))→J.D→Option (a8.D×Unit)
 qk:Bool→Nat→Nat→Int→Int→ah.D→aK.D→a8.D→(List (aj))→J.D→Option (a8.D×Unit)
def G_(k:qj)(a1:ah.D)(a2:aK.D)(a3:aj)(a4:Bool):Option (a8.D×Unit):=(Bg (a3,())).bind fun v1=>k.bs a4 0 v1.1.length 1 0 a1 a2 (0,([]:aj),0,0,()) v1.1
def mh(k:qj)(U:Bool)(aa:Nat)(ae:Nat)(ai:Int)(aq:Int)(az:ah.D)(aU:aK.D)(bn:a8.D)(bu:List (aj)):Option (a8.D×Unit):=cond (decide ((ae:Int)>0)) ((ix ae 0).bind fun v1=>(dh ae 1 (ae:Int)).bind fun v2=>(m7 (az,ai,())).bind fun v3=>(ix az.2.1.length v3.1).bind fun v4=>(ky (aU,I J az.2.1 v4,1,())).bind fun v5=>cond (!v5.1) (some ((0,([]:aj),0,13,()),())) (cond (bw (I ad.str bu (aa+v1)) ([46]:aj)) (k.bs U (aa+v2.1) (v2.2-v2.1) ai aq az aU bn bu) (cond (bw (I ad.str bu (aa+v1)) ([46,46]:aj)) ((G4 (az,ai,())).bind fun v6=>k.bs U (aa+v2.1) (v2.2-v2.1) v6.1 aq az aU bn bu) (cond (decide (((I ad.str bu (aa+v1)).length:Int)>8)) (some ((0,([]:aj),0,36,()),())) ((Oi (az,ai,I ad.str bu (aa+v1),())).bind fun bA=>cond (bA.1==0) (cond ((((v2.2-v2.1):Nat):Int)==0) (some ((ai,I ad.str bu (aa+v1),0,2,()),())) (some ((0,([]:aj),0,2,()),()))) (dup ((m7 (az,bA.1,())).bind fun cF=>(ix az.2.1.length cF.1).bind fun v9=>k.Wy U (aa+v2.1) (v2.2-v2.1) ai aq (I ad.str bu (aa+v1)) ((((v2.2-v2.1):Nat):Int)==0) bA.1 az aU bn bu (I J az.2.1 v9)))))))) (some ((0,([]:aj),ai,0,()),()))
def yF(k:qj)(U:Bool)(aa:Nat)(ae:Nat)(ai:Int)(aq:Int)(az:aj)(aU:Bool)(bn:Int)(bu:ah.D)(ez:aK.D)(e_:a8.D)(kY:List (aj))(kz:J.D):Option (a8.D×Unit):=cond (kz.2.1==3) (cond (!aU) (k.j9 U aa ae ai aq bu ez e_ kY kz) (cond U (k.j9 U aa ae ai aq bu ez e_ kY kz) (k.Bh U aa ae ai aq az aU bn bu ez e_ kY kz))) (k.Bh U aa ae ai aq az aU bn bu ez e_ kY kz)
def G'(k:qj)(U:Bool)(aa:Nat)(ae:Nat)(ai:Int)(aq:Int)(az:ah.D)(aU:aK.D)(bn:a8.D)(bu:List (aj))(ez:J.D):Option (a8.D×Unit):=cond (decide (ax (aq+1)>8)) (some ((0,([]:aj),0,40,()),())) ((ix ez.2.2.2.2.2.1.length 0).bind fun v1=>cond (((ez.2.2.2.2.2.1.getD v1 0).toNat:Int)==47) (k.qk U aa ae 1 (ax (aq+1)) az aU bn bu ez) (k.qk U aa ae ai (ax (aq+1)) az aU bn bu ez))
def Ha(k:qj)(U:Bool)(aa:Nat)(ae:Nat)(ai:Int)(aq:Int)(az:aj)(aU:Bool)(bn:Int)(bu:ah.D)(ez:aK.D)(e_:a8.D)(kY:List (aj))(kz:J.D):Option (a8.D×Unit):=cond aU (some ((ai,az,bn,0,()),())) (cond (kz.2.1 != 2) (some ((0,([]:aj),0,20,()),())) (k.bs U aa ae bn aq bu ez e_ kY))
def Hb(k:qj)(U:Bool)(aa:Nat)(ae:Nat)(ai:Int)(aq:Int)(az:ah.D)(aU:aK.D)(bn:a8.D)(bu:List (aj))(ez:J.D):Option (a8.D×Unit):=(Bg (ez.2.2.2.2.2.1,())).bind fun v1=>cond (room (v1.1.length +(part bu aa ae).length)) (cond (decide (((v1.1++(part bu aa ae)).length:Int)>40)) (some ((0,([]:aj),0,36,()),())) (k.bs U 0 ((v1.1++(part bu aa ae)).length) ai aq az aU bn (v1.1++(part bu aa ae)))) (none)
def Wz(k:qj):qj:=⟨mh k,yF k,G' k,Ha k,Hb k⟩
def fw:Nat→qj:=ew Wz ⟨fun _ _ _ _ _ _ _ _ _=>none,fun _ _ _ _ _ _ _ _ _ _ _ _ _=>none,fun _ _ _ _ _ _ _ _ _ _=>none,fun _ _ _ _ _ _ _ _ _ _ _ _ _=>none,fun _ _ _ _ _ _ _ _ _ _=>none⟩
def Hc(x:ah.D×aK.D×(aj)×Bool×Unit):Option (a8.D×Unit):=G_ (fw aM) x.1 x.2.1 x.2.2.1 x.2.2.2.1
def Bi(a1:ah.D)(a2:aK.D)(a3:aj):Option (a8.D×Int×Unit):=(GS (a3,())).bind fun v1=>cond (!v1.1) (some ((0,([]:aj),0,0,()),22,())) ((Hc (a1,a2,a3,false,())).bind fun v2=>cond (v2.1.2.2.2.1==0) (some (v2.1,17,())) (cond (v2.1.2.2.2.1==2) (cond (!(bw v2.1.2.1 ([]:aj))) (some (v2.1,0,())) (some (v2.1,v2.1.2.2.2.1,()))) (some (v2.1,v2.1.2.2.2.1,()))))
def wg(x:ah.D×aK.D×(aj)×Unit):Option (a8.D×Int×Unit):=Bi x.1 x.2.1 x.2.2.1
def Oj(a1:ah.D)(a2:Int):Option (J.D×Unit):=(m7 (a1,a2,())).bind fun v1=>(ix a1.2.1.length v1.1).bind fun v2=>some (I J a1.2.1 v2,())
def fx(x:ah.D×Int×Unit):Option (J.D×Unit):=Oj x.1 x.2.1
def Ok(a1:ah.D):Option (Int×Unit):=(Gs (a1,())).bind fun v1=>cond (decide (v1.1>400)) (some (28,())) ((N4 (a1,())).bind fun v2=>cond v2.1 (some (122,())) (some (0,())))
def Ol(x:ah.D×Unit):Option (Int×Unit):=Ok x.1
abbrev WA:Type:=ah.D×an.D×Unit
def Om(a1:ah.D)(a2:ah.D):Option (WA):=(Ol (a2,())).bind fun v1=>cond (v1.1 != 0) (some (a1,(v1.1,([]:aj),()),())) (some (a2,(0,([]:aj),()),()))
def rK(x:ah.D×ah.D×Unit):Option (WA):=Om x.1 x.2.1
def Bj(a1:ah.D)(a2:J.D):Option (ah.D×Unit):=(m7 (a1,a2.1,())).bind fun v1=>cond (decide (v1.1<0)) (cond (room (a1.2.1.length+[a2].length)) (some ((a1.1,a1.2.1++[a2],()),())) (none)) ((ix a1.2.1.length v1.1).bind fun v2=>some ((a1.1,a1.2.1.set (0+v2) a2,()),()))
def pf(x:ah.D×J.D×Unit):Option (ah.D×Unit):=Bj x.1 x.2.1
structure ts where
 bp:(aj)→Int→Bool→Int→ah.D→ah.D→J.D→(List aJ.D)→Option (ah.D×Unit)
 dd:(aj)→Int→Bool→Int→ah.D→ah.D→J.D→(List aJ.D)→Option (ah.D×Unit)
 vO:ah.D→ah.D→J.D→(List aJ.D)→Option (ah.D×Unit)
def Hd(k:ts)(a1:ah.D)(a2:Int)(a3:aj)(a4:Int):Option (ah.D×Unit):=(fx (a1,a2,())).bind fun v1=>k.bp a3 a4 false 0 a1 (0,[],()) v1.1 ([]:List aJ.D)
def pg(k:ts)(U:aj)(aa:Int)(ae:Bool)(ai:Int)(aq:ah.D)(az:ah.D)(aU:J.D)(bn:List aJ.D):Option (ah.D×Unit):=cond (decide (ai<(aU.2.2.2.2.2.2.1.length:Int))) (cond (!ae) ((ix aU.2.2.2.2.2.2.1.length ai).bind fun v1=>cond (eg U ((I aJ aU.2.2.2.2.2.2.1 v1).1)) (cond (room (bn.length+[(U,aa,())].length)) (k.dd U aa true ai aq az aU (bn++[(U,aa,())])) (none)) (k.dd U aa ae ai aq az aU bn)) (k.dd U aa ae ai aq az aU bn)) (cond (!ae) (cond (room (bn.length+[(U,aa,())].length)) (k.vO aq az aU (bn++[(U,aa,())])) (none)) (k.vO aq az aU bn))
def wh(k:ts)(U:aj)(aa:Int)(ae:Bool)(ai:Int)(aq:ah.D)(az:ah.D)(aU:J.D)(bn:List aJ.D):Option (ah.D×Unit):=(ix aU.2.2.2.2.2.2.1.length ai).bind fun v1=>cond (room (bn.length+[I aJ aU.2.2.2.2.2.2.1 v1].length)) (k.bp U aa ae (ax (ai+1)) aq az aU (bn++[I aJ aU.2.2.2.2.2.2.1 v1])) (none)
def On(k:ts)(U:ah.D)(aa:ah.D)(ae:J.D)(ai:List aJ.D):Option (ah.D×Unit):=(pf (U,(ae.1,ae.2.1,ae.2.2.1,ae.2.2.2.1,ae.2.2.2.2.1,ae.2.2.2.2.2.1,ai,ae.2.2.2.2.2.2.2.1,ae.2.2.2.2.2.2.2.2.1,()),())).bind fun v1=>some (v1.1,())
def WB(k:ts):ts:=⟨pg k,wh k,On k⟩
def iT:Nat→ts:=ew WB ⟨fun _ _ _ _ _ _ _ _=>none,fun _ _ _ _ _ _ _ _=>none,fun _ _ _ _=>none⟩
def tt(x:ah.D×Int×(aj)×Int×Unit):Option (ah.D×Unit):=Hd (iT aM) x.1 x.2.1 x.2.2.1 x.2.2.2.1
abbrev ph:Type:=ah.D×an.D×Unit
structure rL where
 k3:ah.D→aK.D→aI.D→ah.D→an.D→Option (ph)
 Bk:ah.D→aI.D→ah.D→an.D→a8.D→J.D→J.D→Option (ph)
 gY:ah.D→ah.D→an.D→a8.D→J.D→J.D→Option (ph)
 j9:ah.D→ah.D→an.D→a8.D→J.D→Option (ph)
def He(k:rL)(a1:ah.D)(a2:aK.D)(a3:aI.D):Option (ph):=cond (a3.1==10) ((Gg (a3.2.2.1,())).bind fun v1=>cond (!v1.1) (some (a1,(22,([]:aj),()),())) (cond (a3.1 != 10) ((dz (a3.2.2.2.1,0,2047,())).bind fun v2=>cond (!v2.1) (some (a1,(22,([]:aj),()),())) (k.k3 a1 a2 a3 (0,[],()) (0,([]:aj),()))) (k.k3 a1 a2 a3 (0,[],()) (0,([]:aj),())))) (cond (a3.1 != 10) ((dz (a3.2.2.2.1,0,2047,())).bind fun v3=>cond (!v3.1) (some (a1,(22,([]:aj),()),())) (k.k3 a1 a2 a3 (0,[],()) (0,([]:aj),()))) (k.k3 a1 a2 a3 (0,[],()) (0,([]:aj),())))
def Oo(k:rL)(U:ah.D)(aa:aK.D)(ae:aI.D)(ai:ah.D)(aq:an.D):Option (ph):=(wg (U,aa,ae.2.1,())).bind fun v1=>cond (v1.2.1 != 0) (some (U,(v1.2.1,([]:aj),()),())) ((fx (U,v1.1.1,())).bind fun v2=>(ky (aa,v2.1,3,())).bind fun v3=>cond (!v3.1) (some (U,(13,([]:aj),()),())) (cond (decide ((v2.1.2.2.2.2.2.2.1.length:Int)≥12)) (some (U,(28,([]:aj),()),())) (cond (decide ((U.2.1.length:Int)≥24)) (some (U,(28,([]:aj),()),())) (cond (decide (U.1≥100000)) (some (U,(28,([]:aj),()),())) (cond (ae.1==1) (k.Bk U ae ai aq v1.1 v2.1 (U.1,2,ae.2.2.2.1,aa.1,aa.2.1,([]:aj),[],0,0,())) (k.Bk U ae ai aq v1.1 v2.1 (U.1,1,ae.2.2.2.1,aa.1,aa.2.1,([]:aj),[],0,0,())))))))
def ahk(k:rL)(U:ah.D)(aa:aI.D)(ae:ah.D)(ai:an.D)(aq:a8.D)(az:J.D)(aU:J.D):Option (ph):=cond (aa.1==10) (k.gY U ae ai aq az (aU.1,3,511,aU.2.2.2.1,aU.2.2.2.2.1,aa.2.2.1,aU.2.2.2.2.2.2.1,aU.2.2.2.2.2.2.2.1,aU.2.2.2.2.2.2.2.2.1,())) (k.gY U ae ai aq az aU)
def ahl(k:rL)(U:ah.D)(aa:ah.D)(ae:an.D)(ai:a8.D)(aq:J.D)(az:J.D):Option (ph):=cond (cY .and .i64 aq.2.2.1 1024 != 0) (cond (az.2.1==2) (k.j9 U aa ae ai (az.1,az.2.1,cY .or .i64 az.2.2.1 1024,az.2.2.2.1,aq.2.2.2.2.1,az.2.2.2.2.2.1,az.2.2.2.2.2.2.1,az.2.2.2.2.2.2.2.1,az.2.2.2.2.2.2.2.2.1,())) (k.j9 U aa ae ai (az.1,az.2.1,az.2.2.1,az.2.2.2.1,aq.2.2.2.2.1,az.2.2.2.2.2.1,az.2.2.2.2.2.2.1,az.2.2.2.2.2.2.2.1,az.2.2.2.2.2.2.2.2.1,()))) (k.j9 U aa ae ai az)
def Oq(k:rL)(U:ah.D)(aa:ah.D)(ae:an.D)(ai:a8.D)(aq:J.D):Option (ph):=(tq (U,())).bind fun v1=>(pf ((ax (v1.1.1+1),v1.1.2.1,()),aq,())).bind fun v2=>(tt (v2.1,ai.1,ai.2.1,aq.1,())).bind fun v3=>(rK (U,v3.1,())).bind fun v4=>some (v4.1,v4.2.1,())
def WC(k:rL):rL:=⟨Oo k,ahk k,ahl k,Oq k⟩
def j_:Nat→rL:=ew WC ⟨fun _ _ _ _ _=>none,fun _ _ _ _ _ _ _=>none,fun _ _ _ _ _ _=>none,fun _ _ _ _ _=>none⟩
def wi(x:ah.D×aK.D×aI.D×Unit):Option (ph):=He (j_ aM) x.1 x.2.1 x.2.2.1
def wj(a1:ah.D)(a2:aK.D)(a3:aj)(a4:Bool):Option (a8.D×Unit):=(GS (a3,())).bind fun v1=>cond (!v1.1) (some ((0,([]:aj),0,22,()),())) ((Hc (a1,a2,a3,a4,())).bind fun v2=>some (v2.1,()))
def fh(x:ah.D×aK.D×(aj)×Bool×Unit):Option (a8.D×Unit):=wj x.1 x.2.1 x.2.2.1 x.2.2.2.1
def Ot(a1:aK.D)(a2:J.D)(a3:J.D):Option (Bool×Unit):=(Bd (a1,())).bind fun v1=>cond (!v1.1) (some (false,())) (cond (cY .and .i64 a2.2.2.1 512==0) (some (true,())) (cond (a1.1==0) (some (true,())) (cond (a1.1==a2.2.2.2.1) (some (true,())) (some (a1.1==a3.2.2.2.1,())))))
def yG(x:aK.D×J.D×J.D×Unit):Option (Bool×Unit):=Ot x.1 x.2.1 x.2.2.1
structure wk where
 bp:(aj)→Int→Int→ah.D→ah.D→J.D→(List aJ.D)→Option (ah.D×Unit)
 rA:Int→Int→ah.D→ah.D→(List J.D)→Option (ah.D×Unit)
def Hf(k:wk)(a1:ah.D)(a2:Int)(a3:aj):Option (ah.D×Unit):=(fx (a1,a2,())).bind fun v1=>k.bp a3 0 0 a1 (0,[],()) v1.1 ([]:List aJ.D)
def Bl(k:wk)(U:aj)(aa:Int)(ae:Int)(ai:ah.D)(aq:ah.D)(az:J.D)(aU:List aJ.D):Option (ah.D×Unit):=cond (decide (ae<(az.2.2.2.2.2.2.1.length:Int))) ((ix az.2.2.2.2.2.2.1.length ae).bind fun v1=>cond (bw ((I aJ az.2.2.2.2.2.2.1 v1).1) U) ((ix az.2.2.2.2.2.2.1.length ae).bind fun v2=>k.bp U ((I aJ az.2.2.2.2.2.2.1 v2).2.1) (ax (ae+1)) ai aq az aU) ((ix az.2.2.2.2.2.2.1.length ae).bind fun v3=>cond (room (aU.length+[I aJ az.2.2.2.2.2.2.1 v3].length)) (k.bp U aa (ax (ae+1)) ai aq az (aU++[I aJ az.2.2.2.2.2.2.1 v3])) (none))) ((pf (ai,(az.1,az.2.1,az.2.2.1,az.2.2.2.1,az.2.2.2.2.1,az.2.2.2.2.2.1,aU,az.2.2.2.2.2.2.2.1,az.2.2.2.2.2.2.2.2.1,()),())).bind fun v4=>(Gn (v4.1,aa,())).bind fun v5=>cond (decide (v5.1>0)) (some (v4.1,())) (k.rA aa 0 v4.1 aq []))
def Bm(k:wk)(U:Int)(aa:Int)(ae:ah.D)(ai:ah.D)(aq:List J.D):Option (ah.D×Unit):=cond (decide (aa<(ae.2.1.length:Int))) ((ix ae.2.1.length aa).bind fun v1=>cond ((I J ae.2.1 (0+v1)).1 != U) ((ix ae.2.1.length aa).bind fun v2=>cond (room (aq.length+[I J ae.2.1 (0+v2)].length)) (k.rA U (ax (aa+1)) ae ai (aq++[I J ae.2.1 (0+v2)])) (none)) (k.rA U (ax (aa+1)) ae ai aq)) (some ((ae.1,aq,()),()))
def WD(k:wk):wk:=⟨Bl k,Bm k⟩
def lD:Nat→wk:=ew WD ⟨fun _ _ _ _ _ _ _=>none,fun _ _ _ _ _=>none⟩
def pj(x:ah.D×Int×(aj)×Unit):Option (ah.D×Unit):=Hf (lD aM) x.1 x.2.1 x.2.2.1
abbrev rM:Type:=ah.D×an.D×Unit
structure tu where
 dW:ah.D→aK.D→aI.D→ah.D→an.D→a8.D→J.D→Option (rM)
 fV:ah.D→aK.D→aI.D→ah.D→an.D→a8.D→J.D→Option (rM)
 dm:ah.D→aK.D→ah.D→an.D→a8.D→J.D→Option (rM)
def Hg(k:tu)(a1:ah.D)(a2:aK.D)(a3:aI.D):Option (rM):=(fh (a1,a2,a3.2.1,false,())).bind fun v1=>cond (v1.1.2.2.2.1 != 0) (some (a1,(v1.1.2.2.2.1,([]:aj),()),())) ((fx (a1,v1.1.2.2.1,())).bind fun v2=>cond (a3.1==2) (cond (bw v1.1.2.1 ([]:aj)) (some (a1,(16,([]:aj),()),())) (k.dW a1 a2 a3 (0,[],()) (0,([]:aj),()) v1.1 v2.1)) (k.dW a1 a2 a3 (0,[],()) (0,([]:aj),()) v1.1 v2.1))
def Ou(k:tu)(U:ah.D)(aa:aK.D)(ae:aI.D)(ai:ah.D)(aq:an.D)(az:a8.D)(aU:J.D):Option (rM):=cond (ae.1==2) (cond (aU.2.1 != 2) (some (U,(20,([]:aj),()),())) (k.fV U aa ae ai aq az aU)) (k.fV U aa ae ai aq az aU)
def Ov(k:tu)(U:ah.D)(aa:aK.D)(ae:aI.D)(ai:ah.D)(aq:an.D)(az:a8.D)(aU:J.D):Option (rM):=cond (ae.1==8) (cond (aU.2.1==2) (some (U,(21,([]:aj),()),())) (k.dm U aa ai aq az aU)) (k.dm U aa ai aq az aU)
def Ow(k:tu)(U:ah.D)(aa:aK.D)(ae:ah.D)(ai:an.D)(aq:a8.D)(az:J.D):Option (rM):=(fx (U,aq.1,())).bind fun v1=>(ky (aa,v1.1,3,())).bind fun v2=>cond (!v2.1) (some (U,(13,([]:aj),()),())) ((yG (aa,v1.1,az,())).bind fun v3=>cond (!v3.1) (some (U,(1,([]:aj),()),())) (cond (decide ((az.2.2.2.2.2.2.1.length:Int)>0)) (some (U,(39,([]:aj),()),())) ((tq (U,())).bind fun v4=>(pj (v4.1,aq.1,aq.2.1,())).bind fun v5=>some (v5.1,(0,([]:aj),()),()))))
def WE(k:tu):tu:=⟨Ou k,Ov k,Ow k⟩
def rN:Nat→tu:=ew WE ⟨fun _ _ _ _ _ _ _=>none,fun _ _ _ _ _ _ _=>none,fun _ _ _ _ _ _=>none⟩
def Bn(x:ah.D×aK.D×aI.D×Unit):Option (rM):=Hg (rN aM) x.1 x.2.1 x.2.2.1
def Ox(a1:ah.D)(a2:Int):Option (Bool×Unit):=(m7 (a1,a2,())).bind fun v1=>cond (decide (v1.1≥0)) ((ix a1.2.1.length v1.1).bind fun v2=>some ((I J a1.2.1 v2).2.1==2,())) (some (false,()))
def yH(x:ah.D×Int×Unit):Option (Bool×Unit):=Ox x.1 x.2.1
abbrev WG:Type:=ah.D×an.D×Unit
def Oy(a1:ah.D)(a2:aK.D)(a3:aI.D):Option (WG):=(fh (a1,a2,a3.2.1,false,())).bind fun v1=>cond (v1.1.2.2.2.1 != 0) (some (a1,(v1.1.2.2.2.1,([]:aj),()),())) ((yH (a1,v1.1.2.2.1,())).bind fun v2=>cond v2.1 (some (a1,(1,([]:aj),()),())) ((wg (a1,a2,a3.2.2.1,())).bind fun v3=>cond (v3.2.1 != 0) (some (a1,(v3.2.1,([]:aj),()),())) ((fx (a1,v3.1.1,())).bind fun v4=>(ky (a2,v4.1,3,())).bind fun v5=>cond (!v5.1) (some (a1,(13,([]:aj),()),())) (cond (decide ((v4.1.2.2.2.2.2.2.1.length:Int)≥12)) (some (a1,(28,([]:aj),()),())) ((tq (a1,())).bind fun v6=>(tt (v6.1,v3.1.1,v3.1.2.1,v1.1.2.2.1,())).bind fun bA=>(rK (a1,bA.1,())).bind fun cF=>some (cF.1,cF.2.1,()))))))
def Hh(x:ah.D×aK.D×aI.D×Unit):Option (WG):=Oy x.1 x.2.1 x.2.2.1
abbrev Hi:Type:=Int→Int→Int→ah.D→Option (Bool×Unit)
def Hj(k2:Hi)(a1:ah.D)(a2:Int)(a3:Int):Option (Bool×Unit):=k2 a2 a3 0 a1
def Hk(k2:Hi)(U:Int)(aa:Int)(ae:Int)(ai:ah.D):Option (Bool×Unit):=cond (decide (ae≤(ai.2.1.length:Int))) (cond (U==aa) (some (true,())) (cond (U==1) (some (false,())) ((G4 (ai,U,())).bind fun v1=>k2 v1.1 aa (ax (ae+1)) ai))) (some (false,()))
def wm:Nat→Hi | 0,_,_,_,_=>none | m+1,U,aa,ae,ai=>Hk (wm m) U aa ae ai
def Bo(x:ah.D×Int×Int×Unit):Option (Bool×Unit):=Hj (wm aM) x.1 x.2.1 x.2.2.1
abbrev m8:Type:=ah.D×an.D×Unit
structure ql where
 dW:ah.D→aK.D→ah.D→an.D→a8.D→a8.D→Option (m8)
 gY:ah.D→aK.D→ah.D→an.D→a8.D→a8.D→J.D→J.D→Option (m8)
 qk:ah.D→ah.D→an.D→a8.D→a8.D→J.D→ah.D→J.D→Option (m8)
 m9:ah.D→ah.D→an.D→a8.D→a8.D→ah.D→Option (m8)
 Oz:ah.D→ah.D→an.D→a8.D→a8.D→J.D→ah.D→J.D→Option (m8)
def Hl(k:ql)(a1:ah.D)(a2:aK.D)(a3:aI.D):Option (m8):=(fh (a1,a2,a3.2.1,false,())).bind fun v1=>cond (v1.1.2.2.2.1 != 0) (some (a1,(v1.1.2.2.2.1,([]:aj),()),())) ((fh (a1,a2,a3.2.2.1,false,())).bind fun v2=>cond (v2.1.2.2.2.1 != 0) (cond (v2.1.2.2.2.1 != 2) (some (a1,(v2.1.2.2.2.1,([]:aj),()),())) (cond (bw v2.1.2.1 ([]:aj)) (some (a1,(v2.1.2.2.2.1,([]:aj),()),())) (k.dW a1 a2 (0,[],()) (0,([]:aj),()) v1.1 v2.1))) (k.dW a1 a2 (0,[],()) (0,([]:aj),()) v1.1 v2.1))
def OA(k:ql)(U:ah.D)(aa:aK.D)(ae:ah.D)(ai:an.D)(aq:a8.D)(az:a8.D):Option (m8):=cond (bw aq.2.1 ([]:aj)) (some (U,(16,([]:aj),()),())) (cond (bw az.2.1 ([]:aj)) (some (U,(16,([]:aj),()),())) ((fx (U,aq.1,())).bind fun v1=>(fx (U,az.1,())).bind fun v2=>(fx (U,aq.2.2.1,())).bind fun v3=>(ky (aa,v1.1,3,())).bind fun v4=>cond (!v4.1) (some (U,(13,([]:aj),()),())) ((ky (aa,v2.1,3,())).bind fun v5=>cond (!v5.1) (some (U,(13,([]:aj),()),())) ((yG (aa,v1.1,v3.1,())).bind fun v6=>cond (!v6.1) (some (U,(1,([]:aj),()),())) (cond (v3.1.2.1==2) ((Bo (U,az.1,aq.2.2.1,())).bind fun bA=>cond bA.1 (some (U,(22,([]:aj),()),())) (k.gY U aa ae ai aq az v2.1 v3.1)) (k.gY U aa ae ai aq az v2.1 v3.1))))))
def OB(k:ql)(U:ah.D)(aa:aK.D)(ae:ah.D)(ai:an.D)(aq:a8.D)(az:a8.D)(aU:J.D)(bn:J.D):Option (m8):=(tq (U,())).bind fun v1=>cond (decide (az.2.2.1>0)) (cond (az.2.2.1==aq.2.2.1) (some (U,(0,([]:aj),()),())) ((fx (U,az.2.2.1,())).bind fun v2=>(yG (aa,aU,v2.1,())).bind fun v3=>cond (!v3.1) (some (U,(1,([]:aj),()),())) (cond (bn.2.1==2) (cond (v2.1.2.1 != 2) (some (U,(20,([]:aj),()),())) (k.qk U ae ai aq az bn v1.1 v2.1)) (k.qk U ae ai aq az bn v1.1 v2.1)))) (cond (aq.1 != az.1) (cond (decide ((aU.2.2.2.2.2.2.1.length:Int)≥12)) (some (U,(28,([]:aj),()),())) (k.m9 U ae ai aq az v1.1)) (k.m9 U ae ai aq az v1.1))
def OC(k:ql)(U:ah.D)(aa:ah.D)(ae:an.D)(ai:a8.D)(aq:a8.D)(az:J.D)(aU:ah.D)(bn:J.D):Option (m8):=cond (az.2.1==2) (cond (decide ((bn.2.2.2.2.2.2.1.length:Int)>0)) (some (U,(39,([]:aj),()),())) (k.Oz U aa ae ai aq az aU bn)) (k.Oz U aa ae ai aq az aU bn)
def OD(k:ql)(U:ah.D)(aa:ah.D)(ae:an.D)(ai:a8.D)(aq:a8.D)(az:ah.D):Option (m8):=(tt (az,aq.1,aq.2.1,ai.2.2.1,())).bind fun v1=>(pj (v1.1,ai.1,ai.2.1,())).bind fun v2=>(rK (U,v2.1,())).bind fun v3=>some (v3.1,v3.2.1,())
def OE(k:ql)(U:ah.D)(aa:ah.D)(ae:an.D)(ai:a8.D)(aq:a8.D)(az:J.D)(aU:ah.D)(bn:J.D):Option (m8):=cond (az.2.1 != 2) (cond (bn.2.1==2) (some (U,(21,([]:aj),()),())) ((pj (aU,aq.1,aq.2.1,())).bind fun v1=>k.m9 U aa ae ai aq v1.1)) ((pj (aU,aq.1,aq.2.1,())).bind fun v2=>k.m9 U aa ae ai aq v2.1)
def WH(k:ql):ql:=⟨OA k,OB k,OC k,OD k,OE k⟩
def gJ:Nat→ql:=ew WH ⟨fun _ _ _ _ _ _=>none,fun _ _ _ _ _ _ _ _=>none,fun _ _ _ _ _ _ _ _=>none,fun _ _ _ _ _ _=>none,fun _ _ _ _ _ _ _ _=>none⟩
def Hm(x:ah.D×aK.D×aI.D×Unit):Option (m8):=Hl (gJ aM) x.1 x.2.1 x.2.2.1
structure tv where
 k2:Int→(aj)→(List Int)→Option ((aj)×Unit)
 bp:Int→(aj)→Int→(List Int)→Option ((aj)×Unit)
def Hn(k:tv)(a1:aj)(a2:Int)(a3:aj):Option ((aj)×Unit):=k.k2 a2 a3 (eM a1)
def Bp(k:tv)(U:Int)(aa:aj)(ae:List Int):Option ((aj)×Unit):=cond (decide ((ae.length:Int)<ax (U +(aa.length:Int)))) (cond (room (ae.length+[0].length)) (k.k2 U aa (ae++[0])) (none)) (k.bp U aa 0 ae)
def WI(k:tv)(U:Int)(aa:aj)(ae:Int)(v3:List Int):Option ((aj)×Unit):=k.bp U aa (ax (ae+1)) v3
def Bq(k:tv)(U:Int)(aa:aj)(ae:Int)(ai:List Int):Option ((aj)×Unit):=cond (decide (ae<(aa.length:Int))) ((ix aa.length ae).bind fun v1=>(ix ai.length (ax (U+ae))).bind fun v2=>WI k U aa ae (ai.set (0+v2) ((aa.getD v1 0).toNat:Int))) (some (eS ai,()))
def WJ(k:tv):tv:=⟨Bp k,Bq k⟩
def n_:Nat→tv:=ew WJ ⟨fun _ _ _=>none,fun _ _ _ _=>none⟩
def tw(x:(aj)×Int×(aj)×Unit):Option ((aj)×Unit):=Hn (n_ aM) x.1 x.2.1 x.2.2.1
abbrev wo:Type:=ah.D×an.D×Unit
structure wq where
 eF:Int→ah.D→aI.D→ah.D→an.D→J.D→Option (wo)
 h8:ah.D→ah.D→an.D→J.D→Option (wo)
def Ho(k:wq)(a1:ah.D)(a2:aK.D)(a3:aI.D):Option (wo):=(fh (a1,a2,a3.2.1,true,())).bind fun v1=>cond (v1.1.2.2.2.1 != 0) (some (a1,(v1.1.2.2.2.1,([]:aj),()),())) ((fx (a1,v1.1.2.2.1,())).bind fun v2=>cond (v2.1.2.1==2) (some (a1,(21,([]:aj),()),())) ((ky (a2,v2.1,2,())).bind fun v3=>cond (!v3.1) (some (a1,(13,([]:aj),()),())) (cond (a3.1==6) (k.eF (v2.1.2.2.2.2.2.1.length:Int) a1 a3 (0,[],()) (0,([]:aj),()) v2.1) (k.eF a3.2.2.2.1 a1 a3 (0,[],()) (0,([]:aj),()) v2.1))))
def OF(k:wq)(U:Int)(aa:ah.D)(ae:aI.D)(ai:ah.D)(aq:an.D)(az:J.D):Option (wo):=cond (decide (U<0)) (some (aa,(22,([]:aj),()),())) (cond (ae.1==7) (cond (decide (U>64)) (some (aa,(27,([]:aj),()),())) ((tw (az.2.2.2.2.2.1,U,([]:aj),())).bind fun v1=>(dh v1.1.length 0 U).bind fun v2=>k.h8 aa ai aq (az.1,az.2.1,az.2.2.1,az.2.2.2.1,az.2.2.2.2.1,part v1.1 v2.1 (v2.2-v2.1),az.2.2.2.2.2.2.1,az.2.2.2.2.2.2.2.1,az.2.2.2.2.2.2.2.2.1,()))) (cond (bw ae.2.2.2.2.2.1 ([]:aj)) (some (aa,(0,([]:aj),()),())) (cond (decide (U>ax (64-(ae.2.2.2.2.2.1.length:Int)))) (some (aa,(27,([]:aj),()),())) ((tw (az.2.2.2.2.2.1,U,ae.2.2.2.2.2.1,())).bind fun v3=>k.h8 aa ai aq (az.1,az.2.1,az.2.2.1,az.2.2.2.1,az.2.2.2.2.1,v3.1,az.2.2.2.2.2.2.1,az.2.2.2.2.2.2.2.1,az.2.2.2.2.2.2.2.2.1,())))))
def OG(k:wq)(U:ah.D)(aa:ah.D)(ae:an.D)(ai:J.D):Option (wo):=(tq (U,())).bind fun v1=>(pf (v1.1,ai,())).bind fun v2=>(rK (U,v2.1,())).bind fun v3=>some (v3.1,v3.2.1,())
def WK(k:wq):wq:=⟨OF k,OG k⟩
def kA:Nat→wq:=ew WK ⟨fun _ _ _ _ _ _=>none,fun _ _ _ _=>none⟩
def yI(x:ah.D×aK.D×aI.D×Unit):Option (wo):=Ho (kA aM) x.1 x.2.1 x.2.2.1
abbrev pk:Type:=ah.D×an.D×Unit
structure rO where
 cV:Bool→ah.D→aK.D→aI.D→ah.D→an.D→Option (pk)
 eF:ah.D→aK.D→aI.D→ah.D→an.D→Option (pk)
 qg:ah.D→aK.D→aI.D→ah.D→an.D→J.D→Option (pk)
 na:ah.D→ah.D→an.D→J.D→Option (pk)
def tx(k:rO)(a1:ah.D)(a2:aK.D)(a3:aI.D):Option (pk):=cond (a3.1==15) ((dz (a3.2.2.2.1,0,2047,())).bind fun v1=>k.cV (!v1.1) a1 a2 a3 (0,[],()) (0,([]:aj),())) (cond (a3.1==16) ((dz (a3.2.2.2.1,0,1000,())).bind fun v2=>cond (!v2.1) (k.cV true a1 a2 a3 (0,[],()) (0,([]:aj),())) ((dz (a3.2.2.2.2.1,0,1000,())).bind fun v3=>k.cV (!v3.1) a1 a2 a3 (0,[],()) (0,([]:aj),()))) ((dz (a3.2.2.2.1,0,400,())).bind fun v4=>cond (!v4.1) (k.cV true a1 a2 a3 (0,[],()) (0,([]:aj),())) ((dz (a3.2.2.2.2.1,0,24,())).bind fun v5=>k.cV (!v5.1) a1 a2 a3 (0,[],()) (0,([]:aj),()))))
def Br(k:rO)(U:Bool)(aa:ah.D)(ae:aK.D)(ai:aI.D)(aq:ah.D)(az:an.D):Option (pk):=cond U (some (aa,(22,([]:aj),()),())) (cond (ai.1==19) (cond (ae.1 != 0) (some (aa,(1,([]:aj),()),())) (k.eF aa ae ai aq az)) (k.eF aa ae ai aq az))
def Bs(k:rO)(U:ah.D)(aa:aK.D)(ae:aI.D)(ai:ah.D)(aq:an.D):Option (pk):=(fh (U,aa,ae.2.1,true,())).bind fun v1=>cond (v1.1.2.2.2.1 != 0) (some (U,(v1.1.2.2.2.1,([]:aj),()),())) ((fx (U,v1.1.2.2.1,())).bind fun v2=>cond (ae.1==15) (cond (aa.1 != 0) (cond (aa.1 != v2.1.2.2.2.1) (some (U,(1,([]:aj),()),())) (k.qg U aa ae ai aq v2.1)) (k.qg U aa ae ai aq v2.1)) (cond (ae.1==16) (cond (aa.1 != 0) (cond (aa.1 != v2.1.2.2.2.1) (some (U,(1,([]:aj),()),())) (cond (ae.2.2.2.1 != v2.1.2.2.2.1) (some (U,(1,([]:aj),()),())) ((wa (aa,ae.2.2.2.2.1,())).bind fun v3=>cond (!v3.1) (some (U,(1,([]:aj),()),())) (k.na U ai aq (v2.1.1,v2.1.2.1,v2.1.2.2.1,ae.2.2.2.1,ae.2.2.2.2.1,v2.1.2.2.2.2.2.1,v2.1.2.2.2.2.2.2.1,v2.1.2.2.2.2.2.2.2.1,v2.1.2.2.2.2.2.2.2.2.1,()))))) (k.na U ai aq (v2.1.1,v2.1.2.1,v2.1.2.2.1,ae.2.2.2.1,ae.2.2.2.2.1,v2.1.2.2.2.2.2.1,v2.1.2.2.2.2.2.2.1,v2.1.2.2.2.2.2.2.2.1,v2.1.2.2.2.2.2.2.2.2.1,()))) (cond (v2.1.2.1 != 2) (some (U,(20,([]:aj),()),())) (k.na U ai aq (v2.1.1,v2.1.2.1,v2.1.2.2.1,v2.1.2.2.2.1,v2.1.2.2.2.2.1,v2.1.2.2.2.2.2.1,v2.1.2.2.2.2.2.2.1,ae.2.2.2.1,ae.2.2.2.2.1,())))))
def OH(k:rO)(U:ah.D)(aa:aK.D)(ae:aI.D)(ai:ah.D)(aq:an.D)(az:J.D):Option (pk):=cond (aa.1 != 0) ((wa (aa,az.2.2.2.2.1,())).bind fun v1=>cond (!v1.1) (k.na U ai aq (az.1,az.2.1,cY .andNot .i64 ae.2.2.2.1 1024,az.2.2.2.1,az.2.2.2.2.1,az.2.2.2.2.2.1,az.2.2.2.2.2.2.1,az.2.2.2.2.2.2.2.1,az.2.2.2.2.2.2.2.2.1,())) (k.na U ai aq (az.1,az.2.1,ae.2.2.2.1,az.2.2.2.1,az.2.2.2.2.1,az.2.2.2.2.2.1,az.2.2.2.2.2.2.1,az.2.2.2.2.2.2.2.1,az.2.2.2.2.2.2.2.2.1,()))) (k.na U ai aq (az.1,az.2.1,ae.2.2.2.1,az.2.2.2.1,az.2.2.2.2.1,az.2.2.2.2.2.1,az.2.2.2.2.2.2.1,az.2.2.2.2.2.2.2.1,az.2.2.2.2.2.2.2.2.1,()))
def OI(k:rO)(U:ah.D)(aa:ah.D)(ae:an.D)(ai:J.D):Option (pk):=(tq (U,())).bind fun v1=>(pf (v1.1,ai,())).bind fun v2=>(rK (U,v2.1,())).bind fun v3=>some (v3.1,v3.2.1,())
def WL(k:rO):rO:=⟨Br k,Bs k,OH k,OI k⟩
def h9:Nat→rO:=ew WL ⟨fun _ _ _ _ _ _=>none,fun _ _ _ _ _=>none,fun _ _ _ _ _ _=>none,fun _ _ _ _=>none⟩
def tz(x:ah.D×aK.D×aI.D×Unit):Option (pk):=tx (h9 aM) x.1 x.2.1 x.2.2.1
abbrev Hp:Type:=Int→Int→Int→ah.D→Option (Int×Unit)
def Hq(cV:Hp)(a1:ah.D)(a2:Int):Option (Int×Unit):=(m7 (a1,a2,())).bind fun v1=>cond (decide (v1.1<0)) (some (0,())) ((ix a1.2.1.length v1.1).bind fun v2=>cond ((I J a1.2.1 v2).2.1 != 2) ((Gn (a1,a2,())).bind fun v3=>some (v3.1,())) (cV v1.1 2 0 a1))
def Hr(cV:Hp)(U:Int)(aa:Int)(ae:Int)(ai:ah.D):Option (Int×Unit):=(ix ai.2.1.length U).bind fun v1=>cond (decide (ae<(((I J ai.2.1 v1).2.2.2.2.2.2.1).length:Int))) ((ix ai.2.1.length U).bind fun v2=>(ix (((I J ai.2.1 v2).2.2.2.2.2.2.1).length) ae).bind fun v3=>(yH (ai,(I aJ ((I J ai.2.1 v2).2.2.2.2.2.2.1) v3).2.1,())).bind fun v4=>cond v4.1 (cV U (ax (aa+1)) (ax (ae+1)) ai) (cV U aa (ax (ae+1)) ai)) (some (aa,()))
def wu:Nat→Hp | 0,_,_,_,_=>none | m+1,U,aa,ae,ai=>Hr (wu m) U aa ae ai
def Hs(x:ah.D×Int×Unit):Option (Int×Unit):=Hq (wu aM) x.1 x.2.1
structure n' where
 bp:ah.D→aK.D→aI.D→an.D→Option (an.D×Unit)
 df:ah.D→aK.D→aI.D→an.D→a8.D→Option (an.D×Unit)
 wv:Int→aI.D→an.D→J.D→(List Int)→Option (an.D×Unit)
 tA:(aj)→Int→an.D→J.D→Option (an.D×Unit)
 Ht:(aj)→Int→an.D→J.D→Option (an.D×Unit)
def rP(k:n')(a1:ah.D)(a2:aK.D)(a3:aI.D):Option (an.D×Unit):=cond (a3.1==18) ((e9 ((a1.2.1.length:Int),())).bind fun v1=>cond (room (v1.1.length +([32]:aj).length)) ((Gs (a1,())).bind fun v2=>(e9 (v2.1,())).bind fun v3=>cond (room ((v1.1++([32]:aj)).length+v3.1.length)) (some ((0,(v1.1++([32]:aj))++v3.1,()),())) (none)) (none)) (cond (a3.1==14) (cond (a3.2.2.2.1 != 0) (cond (a3.2.2.2.1 != 1) (some ((22,([]:aj),()),())) (cond (a3.1==17) ((dz (a3.2.2.2.1,0,7,())).bind fun v4=>cond (!v4.1) (some ((22,([]:aj),()),())) (k.bp a1 a2 a3 (0,([]:aj),()))) (k.bp a1 a2 a3 (0,([]:aj),())))) (cond (a3.1==17) ((dz (a3.2.2.2.1,0,7,())).bind fun v5=>cond (!v5.1) (some ((22,([]:aj),()),())) (k.bp a1 a2 a3 (0,([]:aj),()))) (k.bp a1 a2 a3 (0,([]:aj),())))) (cond (a3.1==17) ((dz (a3.2.2.2.1,0,7,())).bind fun v6=>cond (!v6.1) (some ((22,([]:aj),()),())) (k.bp a1 a2 a3 (0,([]:aj),()))) (k.bp a1 a2 a3 (0,([]:aj),()))))
def OJ(k:n')(U:ah.D)(aa:aK.D)(ae:aI.D)(ai:an.D):Option (an.D×Unit):=cond (ae.1 != 11) (cond (ae.1 != 14) ((fh (U,aa,ae.2.1,true,())).bind fun v1=>k.df U aa ae ai v1.1) ((fh (U,aa,ae.2.1,ae.2.2.2.1==0,())).bind fun v2=>k.df U aa ae ai v2.1)) ((fh (U,aa,ae.2.1,false,())).bind fun v3=>k.df U aa ae ai v3.1)
def tB(k:n')(U:ah.D)(aa:aK.D)(ae:aI.D)(ai:an.D)(aq:a8.D):Option (an.D×Unit):=cond (aq.2.2.2.1 != 0) (some ((aq.2.2.2.1,([]:aj),()),())) ((fx (U,aq.2.2.1,())).bind fun v1=>cond (ae.1==4) (cond (v1.1.2.1==2) (some ((21,([]:aj),()),())) ((ky (aa,v1.1,4,())).bind fun v2=>cond (!v2.1) (some ((13,([]:aj),()),())) (cond (decide (ae.2.2.2.1<0)) (some ((22,([]:aj),()),())) (cond (decide (ae.2.2.2.2.1<0)) (some ((22,([]:aj),()),())) (k.wv ae.2.2.2.1 ae ai v1.1 []))))) (cond (ae.1==11) (cond (v1.1.2.1 != 3) (some ((22,([]:aj),()),())) (some ((0,v1.1.2.2.2.2.2.1,()),()))) (cond (ae.1==13) (cond (!(v1.1.2.1==2)) (some ((20,([]:aj),()),())) ((ky (aa,v1.1,4,())).bind fun v3=>cond (!v3.1) (some ((13,([]:aj),()),())) (k.tA ([]:aj) 0 ai v1.1))) (cond (ae.1==14) ((e9 (v1.1.2.1,())).bind fun v4=>cond (room (v4.1.length +([32]:aj).length)) ((e9 (v1.1.2.2.1,())).bind fun v5=>cond (room ((v4.1++([32]:aj)).length+v5.1.length)) (cond (room (((v4.1++([32]:aj))++v5.1).length +([32]:aj).length)) ((e9 (v1.1.2.2.2.1,())).bind fun v6=>cond (room ((((v4.1++([32]:aj))++v5.1)++([32]:aj)).length+v6.1.length)) (cond (room (((((v4.1++([32]:aj))++v5.1)++([32]:aj))++v6.1).length +([32]:aj).length)) ((e9 (v1.1.2.2.2.2.1,())).bind fun bA=>cond (room ((((((v4.1++([32]:aj))++v5.1)++([32]:aj))++v6.1)++([32]:aj)).length+bA.1.length)) (cond (room (((((((v4.1++([32]:aj))++v5.1)++([32]:aj))++v6.1)++([32]:aj))++bA.1).length +([32]:aj).length)) ((Hs (U,v1.1.1,())).bind fun cF=>(e9 (cF.1,())).bind fun v9=>cond (room ((((((((v4.1++([32]:aj))++v5.1)++([32]:aj))++v6.1)++([32]:aj))++bA.1)++([32]:aj)).length+v9.1.length)) (cond (room (((((((((v4.1++([32]:aj))++v5.1)++([32]:aj))++v6.1)++([32]:aj))++bA.1)++([32]:aj))++v9.1).length +([32]:aj).length)) ((e9 ((v1.1.2.2.2.2.2.1.length:Int),())).bind fun v10=>cond (room ((((((((((v4.1++([32]:aj))++v5.1)++([32]:aj))++v6.1)++([32]:aj))++bA.1)++([32]:aj))++v9.1)++([32]:aj)).length+v10.1.length)) (some ((0,(((((((((v4.1++([32]:aj))++v5.1)++([32]:aj))++v6.1)++([32]:aj))++bA.1)++([32]:aj))++v9.1)++([32]:aj))++v10.1,()),())) (none)) (none)) (none)) (none)) (none)) (none)) (none)) (none)) (none)) (none)) (cond (ae.1==17) ((ky (aa,v1.1,ae.2.2.2.1,())).bind fun v11=>cond (!v11.1) (some ((13,([]:aj),()),())) (some ((0,([]:aj),()),()))) (cond (!(v1.1.2.1==2)) (some ((20,([]:aj),()),())) ((ky (aa,v1.1,4,())).bind fun v12=>cond (!v12.1) (some ((13,([]:aj),()),())) ((A9 (U,v1.1.1,())).bind fun gH=>(e9 (v1.1.2.2.2.2.2.2.2.1,())).bind fun fO=>cond (room (fO.1.length +([32]:aj).length)) ((e9 (v1.1.2.2.2.2.2.2.2.2.1,())).bind fun fm=>cond (room ((fO.1++([32]:aj)).length+fm.1.length)) (cond (room (((fO.1++([32]:aj))++fm.1).length +([32]:aj).length)) ((e9 (gH.1,())).bind fun gX=>cond (room ((((fO.1++([32]:aj))++fm.1)++([32]:aj)).length+gX.1.length)) (cond (room (((((fO.1++([32]:aj))++fm.1)++([32]:aj))++gX.1).length +([32]:aj).length)) ((e9 (gH.2.1,())).bind fun pa=>cond (room ((((((fO.1++([32]:aj))++fm.1)++([32]:aj))++gX.1)++([32]:aj)).length+pa.1.length)) (some ((0,(((((fO.1++([32]:aj))++fm.1)++([32]:aj))++gX.1)++([32]:aj))++pa.1,()),())) (none)) (none)) (none)) (none)) (none)) (none)))))))))
def ahm(k:n')(U:Int)(aa:aI.D)(ae:an.D)(ai:J.D)(v2:List Int):Option (an.D×Unit):=k.wv (ax (U+1)) aa ae ai v2
def Hu(k:n')(U:Int)(aa:aI.D)(ae:an.D)(ai:J.D)(aq:List Int):Option (an.D×Unit):=cond (decide (U<(ai.2.2.2.2.2.1.length:Int))) (cond (decide (U<ax (aa.2.2.2.1+aa.2.2.2.2.1))) ((ix ai.2.2.2.2.2.1.length U).bind fun v1=>cond (room (aq.length+[((ai.2.2.2.2.2.1.getD v1 0).toNat:Int)].length)) (ahm k U aa ae ai (aq++[((ai.2.2.2.2.2.1.getD v1 0).toNat:Int)])) (none)) (some ((0,eS aq,()),()))) (some ((0,eS aq,()),()))
def Hv(k:n')(U:aj)(aa:Int)(ae:an.D)(ai:J.D):Option (an.D×Unit):=cond (decide (aa<(ai.2.2.2.2.2.2.1.length:Int))) (cond (decide (aa>0)) (cond (room (U.length +([47]:aj).length)) (k.Ht (U++([47]:aj)) aa ae ai) (none)) (k.Ht U aa ae ai)) (some ((0,U,()),()))
def OK(k:n')(U:aj)(aa:Int)(ae:an.D)(ai:J.D):Option (an.D×Unit):=(ix ai.2.2.2.2.2.2.1.length aa).bind fun v1=>cond (room (U.length +((I aJ ai.2.2.2.2.2.2.1 v1).1).length)) (k.tA (U++((I aJ ai.2.2.2.2.2.2.1 v1).1)) (ax (aa+1)) ae ai) (none)
def WM(k:n'):n':=⟨OJ k,tB k,Hu k,Hv k,OK k⟩
def fP:Nat→n':=ew WM ⟨fun _ _ _ _=>none,fun _ _ _ _ _=>none,fun _ _ _ _ _=>none,fun _ _ _ _=>none,fun _ _ _ _=>none⟩
def lE(x:ah.D×aK.D×aI.D×Unit):Option (an.D×Unit):=rP (fP aM) x.1 x.2.1 x.2.2.1
abbrev rQ:Type:=ah.D×an.D×Unit
structure tC where
 cV:Int→ah.D→aK.D→aI.D→ah.D→an.D→Option (rQ)
 dm:Int→ah.D→aK.D→aI.D→ah.D→an.D→Option (rQ)
 ku:Int→ah.D→aK.D→aI.D→ah.D→an.D→Option (rQ)
def yJ(k:tC)(a1:ah.D)(a2:aK.D)(a3:aI.D):Option (rQ):=(vY (a3,())).bind fun v1=>cond (!v1.1) (some (a1,(22,([]:aj),()),())) (cond (decide (a3.1>20)) (some (a1,(22,([]:aj),()),())) (cond (a3.1==1) (cond (a3.1==1) ((wi (a1,a2,a3,())).bind fun v2=>some (v2.1,v2.2.1,())) (k.cV a3.1 a1 a2 a3 (0,[],()) (0,([]:aj),()))) (cond (a3.1==3) (cond (a3.1==3) ((wi (a1,a2,a3,())).bind fun v3=>some (v3.1,v3.2.1,())) (k.cV a3.1 a1 a2 a3 (0,[],()) (0,([]:aj),()))) (cond (a3.1==10) ((wi (a1,a2,a3,())).bind fun v4=>some (v4.1,v4.2.1,())) (k.cV a3.1 a1 a2 a3 (0,[],()) (0,([]:aj),()))))))
def ahn(k:tC)(U:Int)(aa:ah.D)(ae:aK.D)(ai:aI.D)(aq:ah.D)(az:an.D):Option (rQ):=cond (U==2) (cond (U==2) ((Bn (aa,ae,ai,())).bind fun v1=>some (v1.1,v1.2.1,())) (k.dm U aa ae ai aq az)) (cond (U==8) ((Bn (aa,ae,ai,())).bind fun v2=>some (v2.1,v2.2.1,())) (k.dm U aa ae ai aq az))
def aho(k:tC)(U:Int)(aa:ah.D)(ae:aK.D)(ai:aI.D)(aq:ah.D)(az:an.D):Option (rQ):=cond (U==9) ((Hh (aa,ae,ai,())).bind fun v1=>some (v1.1,v1.2.1,())) (cond (U==12) ((Hm (aa,ae,ai,())).bind fun v2=>some (v2.1,v2.2.1,())) (cond (U==5) (cond (U==5) ((yI (aa,ae,ai,())).bind fun v3=>some (v3.1,v3.2.1,())) (k.ku U aa ae ai aq az)) (cond (U==6) (cond (U==6) ((yI (aa,ae,ai,())).bind fun v4=>some (v4.1,v4.2.1,())) (k.ku U aa ae ai aq az)) (cond (U==7) ((yI (aa,ae,ai,())).bind fun v5=>some (v5.1,v5.2.1,())) (k.ku U aa ae ai aq az)))))
def ahp(k:tC)(U:Int)(aa:ah.D)(ae:aK.D)(ai:aI.D)(aq:ah.D)(az:an.D):Option (rQ):=cond (U==15) (cond (U==15) ((tz (aa,ae,ai,())).bind fun v1=>some (v1.1,v1.2.1,())) ((lE (aa,ae,ai,())).bind fun v2=>some (aa,v2.1,()))) (cond (U==16) (cond (U==16) ((tz (aa,ae,ai,())).bind fun v3=>some (v3.1,v3.2.1,())) ((lE (aa,ae,ai,())).bind fun v4=>some (aa,v4.1,()))) (cond (U==19) ((tz (aa,ae,ai,())).bind fun v5=>some (v5.1,v5.2.1,())) ((lE (aa,ae,ai,())).bind fun v6=>some (aa,v6.1,()))))
def WN(k:tC):tC:=⟨ahn k,aho k,ahp k⟩
def Hw:Nat→tC:=ew WN ⟨fun _ _ _ _ _ _=>none,fun _ _ _ _ _ _=>none,fun _ _ _ _ _ _=>none⟩
def wx(x:ah.D×aK.D×aI.D×Unit):Option (rQ):=yJ (Hw aM) x.1 x.2.1 x.2.2.1
abbrev wy:Type:=aY.D×an.D×Unit
structure wz where
 dd:aY.D→aI.D→aY.D→an.D→aK.D→Option (wy)
 ku:aY.D→aI.D→aY.D→an.D→aK.D→Option (wy)
def Hy(k:wz)(a1:aY.D)(a2:Int)(a3:aI.D):Option (wy):=(Oa (a2,())).bind fun v1=>(vY (a3,())).bind fun v2=>cond (!v2.1) (some (a1,(22,([]:aj),()),())) ((Oe (a1.2.1,a3.1,())).bind fun v3=>cond (!v3.2.1) (some (a1,(11,([]:aj),()),())) (cond (a3.1==21) (cond (v1.1.1 != 0) (some ((a1.1,v3.1,a1.2.2.1,a1.2.2.2.1,()),(1,([]:aj),()),())) (k.dd (a1.1,v3.1,a1.2.2.1,a1.2.2.2.1,()) a3 ((0,[],()),0,[],[],()) (0,([]:aj),()) v1.1)) (cond (a3.1==22) (cond (v1.1.1 != 0) (some ((a1.1,v3.1,a1.2.2.1,a1.2.2.2.1,()),(1,([]:aj),()),())) (k.dd (a1.1,v3.1,a1.2.2.1,a1.2.2.2.1,()) a3 ((0,[],()),0,[],[],()) (0,([]:aj),()) v1.1)) (k.dd (a1.1,v3.1,a1.2.2.1,a1.2.2.2.1,()) a3 ((0,[],()),0,[],[],()) (0,([]:aj),()) v1.1))))
def yK(k:wz)(U:aY.D)(aa:aI.D)(ae:aY.D)(ai:an.D)(aq:aK.D):Option (wy):=cond (aa.1==21) (cond (decide (aa.2.2.2.1<0)) (some (U,(22,([]:aj),()),())) ((Og (U.2.2.1,aa.2.2.2.1,())).bind fun v1=>some (U,(0,v1.1,()),()))) (cond (aa.1==22) (some ((U.1,U.2.1,[],U.2.2.2.1,()),(0,([]:aj),()),())) ((Ba (aa.1,())).bind fun v2=>cond (!v2.1) (cond (decide ((U.2.2.1.length:Int)≥20)) (some (U,(28,([]:aj),()),())) (k.ku U aa ae ai aq)) (k.ku U aa ae ai aq)))
def OL(k:wz)(U:aY.D)(aa:aI.D)(ae:aY.D)(ai:an.D)(aq:aK.D):Option (wy):=(wx (U.1,aq,aa,())).bind fun v1=>some ((v1.1,U.2.1,U.2.2.1,U.2.2.2.1,()),v1.2.1,())
def WO(k:wz):wz:=⟨yK k,OL k⟩
def qm:Nat→wz:=ew WO ⟨fun _ _ _ _ _=>none,fun _ _ _ _ _=>none⟩
def Hz(x:aY.D×Int×aI.D×Unit):Option (wy):=Hy (qm aM) x.1 x.2.1 x.2.2.1
abbrev nc:Type:=aY.D×an.D×Bool×Unit
structure rR where
 dd:Int→Int→Int→Bool→aY.D→aI.D→aY.D→an.D→an.D→Option (nc)
 dm:Int→Int→Int→aY.D→aI.D→aY.D→an.D→an.D→Option (nc)
 eF:Int→Int→Int→aY.D→aY.D→an.D→an.D→Option (nc)
def HA(k:rR)(a1:aY.D)(a2:Int)(a3:Int)(a4:aI.D)(a5:Int):Option (nc):=(dz (a2,1,3,())).bind fun v1=>cond (!v1.1) (some (a1,(0,([]:aj),()),false,())) ((dz (a3,1,1000000,())).bind fun v2=>cond (!v2.1) (some (a1,(0,([]:aj),()),false,())) ((dz (a5,1,100000,())).bind fun v3=>cond (!v3.1) (some (a1,(0,([]:aj),()),false,())) ((N8 (a1,())).bind fun v4=>cond (decide (a5<v4.1)) (some (a1,(0,([]:aj),()),false,())) ((N7 (a1,a2,())).bind fun v5=>cond (a3==v5.1.2.1) (some (a1,v5.1.2.2.2.1,false,())) (cond (a3 != ax (v5.1.2.1+1)) (some (a1,(0,([]:aj),()),false,())) ((Hz (a1,a2,a4,())).bind fun v6=>cond (a4.1==22) (k.dd a2 a3 a5 (v6.2.1.1==0) v6.1 a4 ((0,[],()),0,[],[],()) (0,([]:aj),()) v6.2.1) (k.dd a2 a3 a5 false v6.1 a4 ((0,[],()),0,[],[],()) (0,([]:aj),()) v6.2.1)))))))
def OM(k:rR)(U:Int)(aa:Int)(ae:Int)(ai:Bool)(aq:aY.D)(az:aI.D)(aU:aY.D)(bn:an.D)(bu:an.D):Option (nc):=cond (decide ((aq.2.2.1.length:Int)<20)) ((vY (az,())).bind fun v1=>cond v1.1 ((Ba (az.1,())).bind fun v2=>cond (!v2.1) (cond (!ai) (k.dm U aa ae aq az aU bn bu) (k.eF U aa ae aq aU bn bu)) (cond (bu.1 != 0) (cond (!ai) (k.dm U aa ae aq az aU bn bu) (k.eF U aa ae aq aU bn bu)) (k.eF U aa ae aq aU bn bu))) (k.eF U aa ae aq aU bn bu)) (k.eF U aa ae aq aU bn bu)
def ahq(k:rR)(U:Int)(aa:Int)(ae:Int)(ai:aY.D)(az:aY.D)(aU:an.D)(bn:an.D)(v1:List a6.D):Option (nc):=k.eF U aa ae (ai.1,ai.2.1,v1,ai.2.2.2.1,()) az aU bn
def ON(k:rR)(U:Int)(aa:Int)(ae:Int)(ai:aY.D)(aq:aI.D)(az:aY.D)(aU:an.D)(bn:an.D):Option (nc):=cond (room (ai.2.2.1.length+[(ae,U,aa,aq.1,bn.1,())].length)) (ahq k U aa ae ai az aU bn (ai.2.2.1++[(ae,U,aa,aq.1,bn.1,())])) (none)
def ahr(ai:aY.D)(aU:an.D)(v3:List bP.D):Option (nc):=some ((ai.1,ai.2.1,ai.2.2.1,v3,()),aU,true,())
def ahs(ai:aY.D)(aU:an.D)(bA:List bP.D):Option (nc):=some ((ai.1,ai.2.1,ai.2.2.1,bA,()),aU,true,())
def WQ(U:Int)(aa:Int)(ae:Int)(aU:an.D)(ai:aY.D)(v1:Int×Bool×Unit)(v5:List bP.D):Option (nc):=cond (room (v5.length+[(U,aa,ae,aU,())].length)) ((dh ai.2.2.2.1.length v1.1 (ai.2.2.2.1.length:Int)).bind fun v6=>cond (room ((v5++[(U,aa,ae,aU,())]).length +(part ai.2.2.2.1 (0+v6.1) (v6.2-v6.1)).length)) (ahs ai aU ((v5++[(U,aa,ae,aU,())])++(part ai.2.2.2.1 (0+v6.1) (v6.2-v6.1)))) (none)) (none)
def OO(k:rR)(U:Int)(aa:Int)(ae:Int)(ai:aY.D)(aq:aY.D)(az:an.D)(aU:an.D):Option (nc):=(GD (ai,U,())).bind fun v1=>cond v1.2.1 ((ix ai.2.2.2.1.length v1.1).bind fun v2=>ahr ai aU (ai.2.2.2.1.set (0+v2) (U,aa,ae,aU,()))) ((dh ai.2.2.2.1.length 0 v1.1).bind fun v4=>cond (room (([]:List bP.D).length +(part ai.2.2.2.1 (0+v4.1) (v4.2-v4.1)).length)) (WQ U aa ae aU ai v1 (([]:List bP.D)++(part ai.2.2.2.1 (0+v4.1) (v4.2-v4.1)))) (none))
def WR(k:rR):rR:=⟨OM k,ON k,OO k⟩
def rS:Nat→rR:=ew WR ⟨fun _ _ _ _ _ _ _ _ _=>none,fun _ _ _ _ _ _ _ _=>none,fun _ _ _ _ _ _ _=>none⟩
def rT(x:aY.D×Int×Int×aI.D×Int×Unit):Option (nc):=HA (rS aM) x.1 x.2.1 x.2.2.1 x.2.2.2.1 x.2.2.2.2.1
def OP(a1:an.D)(a2:an.D):Option (Bool×Unit):=cond (a1.1 != a2.1) (some (false,())) (cond (!(bw a1.2.1 a2.2.1)) (some (false,())) (some (true,())))
def OQ(x:an.D×an.D×Unit):Option (Bool×Unit):=OP x.1 x.2.1
abbrev HB:Type:=Int→(aj)→Option ((aj)×Unit)
def HC(bs:HB)(a1:Int):Option ((aj)×Unit):=cond (decide (a1≤0)) (some (([109,48]:aj),())) (bs a1 ([]:aj))
def HD(bs:HB)(U:Int)(aa:aj):Option ((aj)×Unit):=cond (decide (U>0)) (cond (room ((eS [IntKind.wrap .u8 (ax (48+Int.tmod U 10))]).length+aa.length)) (bs (ax (Int.tdiv U 10)) ((eS [IntKind.wrap .u8 (ax (48+Int.tmod U 10))])++aa)) (none)) (cond (room (([109]:aj).length+aa.length)) (some (([109]:aj)++aa,())) (none))
def wA:Nat→HB | 0,_,_=>none | m+1,U,aa=>HD (wA m) U aa
def nd(x:Int×Unit):Option ((aj)×Unit):=HC (wA aM) x.1
end
noncomputable section
def aht  : Option (ah.D×Unit):=some ((2,[(1,2,493,0,0,([]:aj),[],0,0,())],()),())
def WS(x:Unit):Option (ah.D×Unit):=aht
def ahu  : Option (ah.D×Unit):=some ((2,[(1,2,493,0,0,([]:aj),[],0,0,())],()),())
def atO(x:Unit):Option (ah.D×Unit):=ahu
def ahv(v1:ah.D×Unit)(v3:List J.D):Option (aY.D×Unit):=some (((v1.1.1,v3,()),30,[],[],()),())
def ahw  : Option (aY.D×Unit):=(WS ()).bind fun v1=>(ix v1.1.2.1.length 0).bind fun v2=>ahv v1 (v1.1.2.1.set (0+v2) ((I J v1.1.2.1 (0+v2)).1,(I J v1.1.2.1 (0+v2)).2.1,1023,(I J v1.1.2.1 (0+v2)).2.2.2.1,(I J v1.1.2.1 (0+v2)).2.2.2.2.1,(I J v1.1.2.1 (0+v2)).2.2.2.2.2.1,(I J v1.1.2.1 (0+v2)).2.2.2.2.2.2.1,(I J v1.1.2.1 (0+v2)).2.2.2.2.2.2.2.1,(I J v1.1.2.1 (0+v2)).2.2.2.2.2.2.2.2.1,()))
def OR(x:Unit):Option (aY.D×Unit):=ahw
def OS(a1:Int):Option (Int×Unit):=cond (decide (a1<0)) (some (4,())) (cond (decide (a1≥26)) (some (30,())) (some (ax (a1+4),())))
def OT(x:Int×Unit):Option (Int×Unit):=OS x.1
def OU(a1:an.D)(a2:Int):Option (Int×Unit):=cond (decide (ax (a2-(a1.2.1.length:Int))<0)) (some ((-1),())) (some (ax (a2-(a1.2.1.length:Int)),()))
def OV(x:an.D×Int×Unit):Option (Int×Unit):=OU x.1 x.2.1
abbrev HE:Type:=(List an.D)→Int→Int→Option (Int×Unit)
def HF(bp:HE)(a1:List an.D)(a2:Int):Option (Int×Unit):=cond (decide (ax (a2-(a1.length:Int))<0)) (some ((-1),())) (bp a1 (ax (a2-(a1.length:Int))) 0)
def HG(bp:HE)(U:List an.D)(aa:Int)(ae:Int):Option (Int×Unit):=cond (decide (ae<(U.length:Int))) ((ix U.length ae).bind fun v1=>(OV (I an U v1,aa,())).bind fun v2=>cond (decide (v2.1<0)) (some ((-1),())) (bp U v2.1 (ax (ae+1)))) (some (aa,()))
def wB:Nat→HE | 0,_,_,_=>none | m+1,U,aa,ae=>HG (wB m) U aa ae
def OW(x:(List an.D)×Int×Unit):Option (Int×Unit):=HF (wB aM) x.1 x.2.1
def OX(a1:Int):Option (Bool×Unit):=cond (decide (a1≥0)) (some (decide (a1<3),())) (some (false,()))
def OY(x:Int×Unit):Option (Bool×Unit):=OX x.1
def OZ(a1:aP.D):Option (Bool×Unit):=(dz (a1.1,0,2,())).bind fun v1=>cond v1.1 ((dz (a1.2.1,1,3,())).bind fun v2=>cond v2.1 ((dz (a1.2.2.1,1,1000000,())).bind fun v3=>cond v3.1 ((vY (a1.2.2.2.1,())).bind fun v4=>some (v4.1,())) (some (false,()))) (some (false,()))) (some (false,()))
def O0(x:aP.D×Unit):Option (Bool×Unit):=OZ x.1
abbrev HH:Type:=(List aP.D)→Int→Int→Option (Bool×Unit)
def HI(k2:HH)(a1:List aP.D)(a2:Int):Option (Bool×Unit):=k2 a1 a2 0
def HJ(k2:HH)(U:List aP.D)(aa:Int)(ae:Int):Option (Bool×Unit):=cond (decide (ae<(U.length:Int))) ((ix U.length ae).bind fun v1=>(O0 (I aP U v1,())).bind fun v2=>cond (!v2.1) (some (false,())) (cond (decide (ae>0)) ((ix U.length (ax (ae-1))).bind fun v3=>(ix U.length ae).bind fun v4=>cond (decide ((I aP U v3).1 >(I aP U v4).1)) (some (false,())) (cond (decide (ae≥aa)) ((ix U.length (ax (ae-aa))).bind fun v5=>(ix U.length ae).bind fun v6=>cond ((I aP U v5).1 ==(I aP U v6).1) (some (false,())) (k2 U aa (ax (ae+1)))) (k2 U aa (ax (ae+1))))) (cond (decide (ae≥aa)) ((ix U.length (ax (ae-aa))).bind fun bA=>(ix U.length ae).bind fun cF=>cond ((I aP U bA).1 ==(I aP U cF).1) (some (false,())) (k2 U aa (ax (ae+1)))) (k2 U aa (ax (ae+1)))))) (some (true,()))
def qn:Nat→HH | 0,_,_,_=>none | m+1,U,aa,ae=>HJ (qn m) U aa ae
def HK(x:(List aP.D)×Int×Unit):Option (Bool×Unit):=HI (qn aM) x.1 x.2.1
def O1(a1:List aP.D):Option (Bool×Unit):=(HK (a1,2,())).bind fun v1=>some (v1.1,())
def O2(x:(List aP.D)×Unit):Option (Bool×Unit):=O1 x.1
abbrev Bt:Type:=Int→(List Int)→Option ((aj)×Unit)
def HL(bs:Bt)(a1:Int):Option ((aj)×Unit):=(dz (a1,0,562949953421311,())).bind fun v1=>cond (!v1.1) (some (([]:aj),())) (bs a1 [])
def WT(bs:Bt)(U:Int)(v1:List Int):Option ((aj)×Unit):=bs (ax (Int.tdiv U 128)) v1
def O3(bs:Bt)(U:Int)(aa:List Int):Option ((aj)×Unit):=cond (decide (U≥128)) (cond (room (aa.length+[IntKind.wrap .u8 (ax (128+Int.tmod U 128))].length)) (WT bs U (aa++[IntKind.wrap .u8 (ax (128+Int.tmod U 128))])) (none)) (cond (room (aa.length+[IntKind.wrap .u8 (U)].length)) (some (eS (aa++[IntKind.wrap .u8 (U)]),())) (none))
def yL:Nat→Bt | 0,_,_=>none | m+1,U,aa=>O3 (yL m) U aa
def qo(x:Int×Unit):Option ((aj)×Unit):=HL (yL aM) x.1
def O4(a1:aj):Option ((aj)×Unit):=(qo ((a1.length:Int),())).bind fun v1=>cond (room (v1.1.length+a1.length)) (some (v1.1++a1,())) (none)
def yM(x:(aj)×Unit):Option ((aj)×Unit):=O4 x.1
def O5(a1:Int):Option ((aj)×Unit):=cond (decide (a1<0)) ((qo (ax (ax ((-2)*a1)-1),())).bind fun v1=>some (v1.1,())) ((qo (ax (2*a1),())).bind fun v2=>some (v2.1,()))
def yN(x:Int×Unit):Option ((aj)×Unit):=O5 x.1
def O6(a1:aI.D):Option ((aj)×Unit):=(vY (a1,())).bind fun v1=>cond (!v1.1) (some (([]:aj),())) ((qo (a1.1,())).bind fun v2=>(yM (a1.2.1,())).bind fun v3=>cond (room (v2.1.length+v3.1.length)) ((yM (a1.2.2.1,())).bind fun v4=>cond (room ((v2.1++v3.1).length+v4.1.length)) ((yN (a1.2.2.2.1,())).bind fun v5=>cond (room (((v2.1++v3.1)++v4.1).length+v5.1.length)) ((yN (a1.2.2.2.2.1,())).bind fun v6=>cond (room ((((v2.1++v3.1)++v4.1)++v5.1).length+v6.1.length)) ((yM (a1.2.2.2.2.2.1,())).bind fun bA=>cond (room (((((v2.1++v3.1)++v4.1)++v5.1)++v6.1).length+bA.1.length)) (some (((((v2.1++v3.1)++v4.1)++v5.1)++v6.1)++bA.1,())) (none)) (none)) (none)) (none)) (none))
def yO(x:aI.D×Unit):Option ((aj)×Unit):=O6 x.1
def O7(a1:aP.D):Option ((aj)×Unit):=(qo (a1.1,())).bind fun v1=>(qo (a1.2.1,())).bind fun v2=>cond (room (v1.1.length+v2.1.length)) ((qo (a1.2.2.1,())).bind fun v3=>cond (room ((v1.1++v2.1).length+v3.1.length)) ((yO (a1.2.2.2.1,())).bind fun v4=>(yM (v4.1,())).bind fun v5=>cond (room (((v1.1++v2.1)++v3.1).length+v5.1.length)) (some (((v1.1++v2.1)++v3.1)++v5.1,())) (none)) (none)) (none)
def O8(x:aP.D×Unit):Option ((aj)×Unit):=O7 x.1
abbrev HM:Type:=(List aP.D)→(aj)→Int→Option ((aj)×Unit)
def HN(bp:HM)(a1:List aP.D):Option ((aj)×Unit):=(O2 (a1,())).bind fun v1=>cond (!v1.1) (some (([]:aj),())) (bp a1 ([102]:aj) 0)
def yP(bp:HM)(U:List aP.D)(aa:aj)(ae:Int):Option ((aj)×Unit):=cond (decide (ae<(U.length:Int))) ((ix U.length ae).bind fun v1=>(O8 (I aP U v1,())).bind fun v2=>cond (room (aa.length+v2.1.length)) (bp U (aa++v2.1) (ax (ae+1))) (none)) (some (aa,()))
def wC:Nat→HM | 0,_,_,_=>none | m+1,U,aa,ae=>yP (wC m) U aa ae
def O9(x:(List aP.D)×Unit):Option ((aj)×Unit):=HN (wC aM) x.1
structure wD where
 k2:(aj)→Int→Option (Int×Int×Unit)
 df:(aj)→Int→Int→Int→Option (Int×Int×Unit)
def HO(k:wD)(a1:aj):Option (Int×Int×Unit):=k.k2 a1 1
def wE(k:wD)(U:aj)(aa:Int):Option (Int×Int×Unit):=cond (decide (aa≤7)) (cond (decide (aa≤(U.length:Int))) (k.df U aa 0 (ax (aa-1))) (some (0,0,()))) (some (0,0,()))
def Bu(k:wD)(U:aj)(aa:Int)(ae:Int)(ai:Int):Option (Int×Int×Unit):=cond (decide (ai≥0)) ((ix U.length ai).bind fun v1=>k.df U aa (ax (ax (ae*128)+Int.tmod (ax (((U.getD v1 0).toNat:Int))) 128)) (ax (ai-1))) ((dh U.length 0 aa).bind fun v2=>(qo (ae,())).bind fun v3=>cond (bw v3.1 (part U v2.1 (v2.2-v2.1))) (some (ae,aa,())) (k.k2 U (ax (aa+1))))
def WU(k:wD):wD:=⟨wE k,Bu k⟩
def mi:Nat→wD:=ew WU ⟨fun _ _=>none,fun _ _ _ _=>none⟩
def O_(x:(aj)×Unit):Option (Int×Int×Unit):=HO (mi aM) x.1
abbrev Bv:Type:=(List Int)×Int×Unit
abbrev HP:Type:=(aj)→Int→Int→Int→(List Int)→Option (Bv)
def HQ(k3:HP)(a1:aj)(a2:Int)(a3:Int):Option (Bv):=k3 a1 a2 a3 0 ([]:List Int)
def Bw(k3:HP)(U:aj)(aa:Int)(ae:Int)(ai:Int)(aq:List Int):Option (Bv):=cond (decide (ai<ae)) (cond (decide (aa<0)) (some (aq,(-1),())) (cond (decide (aa >(U.length:Int))) (some (aq,(-1),())) ((dh U.length aa (U.length:Int)).bind fun v1=>(O_ (part U v1.1 (v1.2-v1.1),())).bind fun v2=>cond (v2.2.1==0) (some (aq,(-1),())) (cond (room (aq.length+[v2.1].length)) (k3 U (ax (aa+v2.2.1)) ae (ax (ai+1)) (aq++[v2.1])) (none))))) (some (aq,aa,()))
def pn:Nat→HP | 0,_,_,_,_,_=>none | m+1,U,aa,ae,ai,aq=>Bw (pn m) U aa ae ai aq
def pq(x:(aj)×Int×Int×Unit):Option (Bv):=HQ (pn aM) x.1 x.2.1 x.2.2.1
abbrev WV:Type:=(aj)×Int×Unit
def O'(a1:aj)(a2:Int):Option (WV):=(pq (a1,a2,1,())).bind fun v1=>cond (decide (v1.2.1<0)) (some (([]:aj),(-1),())) ((ix v1.1.length 0).bind fun v2=>cond (decide (I (ad.int .i64) v1.1 (0+v2)>ax ((a1.length:Int)-v1.2.1))) (some (([]:aj),(-1),())) ((ix v1.1.length 0).bind fun v3=>(dh a1.length v1.2.1 (ax (v1.2.1+I (ad.int .i64) v1.1 (0+v3)))).bind fun v4=>(ix v1.1.length 0).bind fun v5=>some (part a1 v4.1 (v4.2-v4.1),ax (v1.2.1+I (ad.int .i64) v1.1 (0+v5)),())))
def wF(x:(aj)×Int×Unit):Option (WV):=O' x.1 x.2.1
def ahx(a1:Int):Option (Int×Unit):=cond (Int.tmod a1 2==1) (some (ax (Int.tdiv (ax (0-(ax (a1+1)))) 2),())) (some (ax (Int.tdiv a1 2),()))
def yQ(x:Int×Unit):Option (Int×Unit):=ahx x.1
abbrev WW:Type:=aI.D×Bool×Unit
def Pb(a1:aj):Option (WW):=(pq (a1,0,1,())).bind fun v1=>(wF (a1,v1.2.1,())).bind fun v2=>(wF (a1,v2.2.1,())).bind fun v3=>(pq (a1,v3.2.1,2,())).bind fun v4=>(wF (a1,v4.2.1,())).bind fun v5=>cond (decide (v5.2.1<0)) (some ((0,([]:aj),([]:aj),0,0,([]:aj),()),false,())) ((ix v1.1.length 0).bind fun v6=>(ix v4.1.length 0).bind fun bA=>(ix v4.1.length 1).bind fun cF=>both ((yQ (I (ad.int .i64) v4.1 (0+bA),())).bind fun v9=>dup ((yQ (I (ad.int .i64) v4.1 (0+cF),())).bind fun v10=>(yO ((I (ad.int .i64) v1.1 (0+v6),v2.1,v3.1,v9.1,v10.1,v5.1,()),())).bind fun v11=>cond (!(bw v11.1 a1)) (some ((0,([]:aj),([]:aj),0,0,([]:aj),()),false,())) (some ((I (ad.int .i64) v1.1 (0+v6),v2.1,v3.1,v9.1,v10.1,v5.1,()),true,())))) ((yQ (I (ad.int .i64) v4.1 (0+bA),())).bind fun v9=>(yQ (I (ad.int .i64) v4.1 (0+cF),())).bind fun v10=>(yO ((I (ad.int .i64) v1.1 (0+v6),v2.1,v3.1,v9.1,v10.1,v5.1,()),())).bind fun v11=>cond (!(bw v11.1 a1)) (some ((0,([]:aj),([]:aj),0,0,([]:aj),()),false,())) (some ((I (ad.int .i64) v1.1 (0+v6),v2.1,v3.1,v9.1,v10.1,v5.1,()),true,()))))
def Pc(x:(aj)×Unit):Option (WW):=Pb x.1
abbrev yR:Type:=(List aP.D)×Bool×Unit
abbrev Bx:Type:=(aj)→Int→(List aP.D)→Option (yR)
def HR(bp:Bx)(a1:aj):Option (yR):=cond ((a1.length:Int)==0) (some ([],false,())) (cond (decide ((a1.length:Int)>1600)) (some ([],false,())) (bp a1 1 []))
def ahy(bp:Bx)(U:aj)(v2:(aj)×Int×Unit)(bA:List aP.D):Option (yR):=bp U v2.2.1 bA
def tD(bp:Bx)(U:aj)(aa:Int)(ae:List aP.D):Option (yR):=cond (decide (aa<(U.length:Int))) ((pq (U,aa,3,())).bind fun v1=>(wF (U,v1.2.1,())).bind fun v2=>(Pc (v2.1,())).bind fun v3=>cond (decide (v2.2.1<0)) (some ([],false,())) (cond (!v3.2.1) (some ([],false,())) ((ix v1.1.length 0).bind fun v4=>(ix v1.1.length 1).bind fun v5=>(ix v1.1.length 2).bind fun v6=>cond (room (ae.length+[(I (ad.int .i64) v1.1 (0+v4),I (ad.int .i64) v1.1 (0+v5),I (ad.int .i64) v1.1 (0+v6),v3.1,())].length)) (ahy bp U v2 (ae++[(I (ad.int .i64) v1.1 (0+v4),I (ad.int .i64) v1.1 (0+v5),I (ad.int .i64) v1.1 (0+v6),v3.1,())])) (none)))) ((O9 (ae,())).bind fun cF=>cond (!(bw cF.1 U)) (some ([],false,())) (some (ae,true,())))
def tE:Nat→Bx | 0,_,_,_=>none | m+1,U,aa,ae=>tD (tE m) U aa ae
def Pd(x:(aj)×Unit):Option (yR):=HR (tE aM) x.1
abbrev qp:Type:=aY.D×(List aZ.D)×Unit
structure qq where
 bs:(List an.D)→Int→Int→Int→aY.D→aY.D→(List aZ.D)→Option (qp)
 dd:(List an.D)→Int→Int→Int→Int→aY.D→aY.D→(List aZ.D)→(List aP.D)→Option (qp)
def HS(k:qq)(a1:List an.D)(a2:Int)(a3:Int):Option (qp):=(OR ()).bind fun v1=>k.bs a1 a2 a3 0 ((0,[],()),0,[],[],()) v1.1 ([]:List aZ.D)
def HT(k:qq)(U:List an.D)(aa:Int)(ae:Int)(ai:Int)(aq:aY.D)(az:aY.D)(aU:List aZ.D):Option (qp):=cond (decide (ai<ae)) ((ix U.length ai).bind fun v1=>(Pd ((I an U v1).2.1,())).bind fun v2=>cond (!v2.2.1) (k.bs U aa ae (ax (ai+1)) aq az aU) ((OT (az.2.1,())).bind fun v3=>k.dd U aa ae ai 0 aq (az.1,v3.1,az.2.2.1,az.2.2.2.1,()) aU v2.1)) (some (az,aU,()))
def WX(k:qq)(U:List an.D)(aa:Int)(ae:Int)(ai:Int)(aq:Int)(az:aY.D)(v5:aY.D×an.D×Bool×Unit)(bu:List aP.D)(v9:List aZ.D):Option (qp):=k.dd U aa ae ai (ax (aq+1)) az v5.1 v9 bu
def WY(k:qq)(U:List an.D)(aa:Int)(ae:Int)(ai:Int)(aq:Int)(az:aY.D)(v10:aY.D×an.D×Bool×Unit)(bu:List aP.D)(fO:List aZ.D):Option (qp):=k.dd U aa ae ai (ax (aq+1)) az v10.1 fO bu
def WZ(k:qq)(U:List an.D)(aa:Int)(ae:Int)(ai:Int)(aq:Int)(az:aY.D)(fm:aY.D×an.D×Bool×Unit)(bu:List aP.D)(tF:List aZ.D):Option (qp):=k.dd U aa ae ai (ax (aq+1)) az fm.1 tF bu
def HU(k:qq)(U:List an.D)(aa:Int)(ae:Int)(ai:Int)(aq:Int)(az:aY.D)(aU:aY.D)(bn:List aZ.D)(bu:List aP.D):Option (qp):=cond (decide (aq<(bu.length:Int))) ((ix bu.length aq).bind fun v1=>cond ((I aP bu (0+v1)).1 != aa) (k.dd U aa ae ai (ax (aq+1)) az aU bn bu) ((ix bu.length aq).bind fun v2=>(ix bu.length aq).bind fun v3=>(ix bu.length aq).bind fun v4=>both ((rT (aU,(I aP bu (0+v2)).2.1,(I aP bu (0+v3)).2.2.1,(I aP bu (0+v4)).2.2.2.1,ax (ai+1),())).bind fun v5=>dup (cond v5.2.2.1 ((ix bu.length aq).bind fun v6=>(ix bu.length aq).bind fun bA=>(ix bu.length aq).bind fun cF=>cond (room (bn.length+[((I aP bu (0+v6)).2.1,(I aP bu (0+bA)).2.2.1,(I aP bu (0+cF)).2.2.2.1,ax (ai+1),v5.2.1,())].length)) (WX k U aa ae ai aq az v5 bu (bn++[((I aP bu (0+v6)).2.1,(I aP bu (0+bA)).2.2.1,(I aP bu (0+cF)).2.2.2.1,ax (ai+1),v5.2.1,())])) (none)) (k.dd U aa ae ai (ax (aq+1)) az v5.1 bn bu))) (both (dup ((rT (aU,(I aP bu (0+v2)).2.1,(I aP bu (0+v3)).2.2.1,(I aP bu (0+v4)).2.2.2.1,ax (ai+1),())).bind fun v10=>cond v10.2.2.1 ((ix bu.length aq).bind fun v11=>(ix bu.length aq).bind fun v12=>(ix bu.length aq).bind fun gH=>cond (room (bn.length+[((I aP bu (0+v11)).2.1,(I aP bu (0+v12)).2.2.1,(I aP bu (0+gH)).2.2.2.1,ax (ai+1),v10.2.1,())].length)) (WY k U aa ae ai aq az v10 bu (bn++[((I aP bu (0+v11)).2.1,(I aP bu (0+v12)).2.2.1,(I aP bu (0+gH)).2.2.2.1,ax (ai+1),v10.2.1,())])) (none)) (k.dd U aa ae ai (ax (aq+1)) az v10.1 bn bu))) (dup ((rT (aU,(I aP bu (0+v2)).2.1,(I aP bu (0+v3)).2.2.1,(I aP bu (0+v4)).2.2.2.1,ax (ai+1),())).bind fun fm=>cond fm.2.2.1 ((ix bu.length aq).bind fun gX=>(ix bu.length aq).bind fun pa=>(ix bu.length aq).bind fun nf=>cond (room (bn.length+[((I aP bu (0+gX)).2.1,(I aP bu (0+pa)).2.2.1,(I aP bu (0+nf)).2.2.2.1,ax (ai+1),fm.2.1,())].length)) (WZ k U aa ae ai aq az fm bu (bn++[((I aP bu (0+gX)).2.1,(I aP bu (0+pa)).2.2.1,(I aP bu (0+nf)).2.2.2.1,ax (ai+1),fm.2.1,())])) (none)) (k.dd U aa ae ai (ax (aq+1)) az fm.1 bn bu)))))) (k.bs U aa ae (ax (ai+1)) az aU bn)
def W0(k:qq):qq:=⟨HT k,HU k⟩
def qs:Nat→qq:=ew W0 ⟨fun _ _ _ _ _ _ _=>none,fun _ _ _ _ _ _ _ _ _=>none⟩
def Pe(x:(List an.D)×Int×Int×Unit):Option (qp):=HS (qs aM) x.1 x.2.1 x.2.2.1
abbrev W4:Type:=(List aZ.D)×Bool×Unit
def Pf(a1:List an.D)(a2:Int):Option (W4):=cond (decide ((a1.length:Int)>400)) (some ([],false,())) ((OY (a2,())).bind fun v1=>cond (!v1.1) (some ([],false,())) ((Pe (a1,a2,(a1.length:Int),())).bind fun v2=>some (v2.2.1,true,())))
def HV(x:(List an.D)×Int×Unit):Option (W4):=Pf x.1 x.2.1
def Pg(a1:an.D):Option (an.D×Unit):=some (a1,())
def Ph(x:an.D×Unit):Option (an.D×Unit):=Pg x.1
abbrev By:Type:=(List an.D)×Unit
abbrev HW:Type:=(List an.D)→Int→(List an.D)→Option (By)
def HX(k3:HW)(a1:List an.D):Option (By):=cond (decide (0≤(a1.length:Int))&&decide ((a1.length:Int)=(a1.length:Int))&&room (Int.toNat (a1.length:Int))) (k3 a1 0 (List.replicate (Int.toNat (a1.length:Int)) ((0,([]:aj),()):an.D))) (none)
def HY(k3:HW)(U:List an.D)(aa:Int)(ae:List an.D):Option (By):=cond (decide (aa<(U.length:Int))) ((ix U.length aa).bind fun v1=>(Ph (I an U v1,())).bind fun v2=>(ix ae.length aa).bind fun v3=>k3 U (ax (aa+1)) (ae.set (0+v3) v2.1)) (some (ae,()))
def wG:Nat→HW | 0,_,_,_=>none | m+1,U,aa,ae=>HY (wG m) U aa ae
def yS(x:(List an.D)×Unit):Option (By):=HX (wG aM) x.1
def ahz  : Option (ah.D×Unit):=some ((2,[(1,2,493,0,0,([]:aj),[],0,0,())],()),())
def W5(x:Unit):Option (ah.D×Unit):=ahz
def ahA(v1:ah.D×Unit)(v3:List J.D):Option (aY.D×Unit):=some (((v1.1.1,v3,()),30,[],[],()),())
def ahB  : Option (aY.D×Unit):=(W5 ()).bind fun v1=>(ix v1.1.2.1.length 0).bind fun v2=>ahA v1 (v1.1.2.1.set (0+v2) ((I J v1.1.2.1 (0+v2)).1,(I J v1.1.2.1 (0+v2)).2.1,1023,(I J v1.1.2.1 (0+v2)).2.2.2.1,(I J v1.1.2.1 (0+v2)).2.2.2.2.1,(I J v1.1.2.1 (0+v2)).2.2.2.2.2.1,(I J v1.1.2.1 (0+v2)).2.2.2.2.2.2.1,(I J v1.1.2.1 (0+v2)).2.2.2.2.2.2.2.1,(I J v1.1.2.1 (0+v2)).2.2.2.2.2.2.2.2.1,()))
def Pj(x:Unit):Option (aY.D×Unit):=ahB
abbrev HZ:Type:=(aj)→Int→Int→Option (Int×Int×Unit)
def H0(k3:HZ)(a1:aj):Option (Int×Int×Unit):=k3 a1 0 0
def H4(k3:HZ)(U:aj)(aa:Int)(ae:Int):Option (Int×Int×Unit):=cond (decide (ae<(U.length:Int))) (cond (decide (ae<7)) ((ix U.length ae).bind fun v1=>cond (decide (0≤ax (7*ae))) (cond (decide (ax (((U.getD v1 0).toNat:Int))>127)) (k3 U (cY .or .i64 aa (IntKind.wrap .i64 (cY .and .i64 (ax (((U.getD v1 0).toNat:Int))) 127*2 ^ min (ax (7*ae)).toNat 64))) (ax (ae+1))) (cond (ax (((U.getD v1 0).toNat:Int))==0) (cond (decide (ae>0)) (some (0,0,())) (some (cY .or .i64 aa (IntKind.wrap .i64 (cY .and .i64 (ax (((U.getD v1 0).toNat:Int))) 127*2 ^ min (ax (7*ae)).toNat 64)),ax (ae+1),()))) (some (cY .or .i64 aa (IntKind.wrap .i64 (cY .and .i64 (ax (((U.getD v1 0).toNat:Int))) 127*2 ^ min (ax (7*ae)).toNat 64)),ax (ae+1),())))) (none)) (some (0,0,()))) (some (0,0,()))
def wH:Nat→HZ | 0,_,_,_=>none | m+1,U,aa,ae=>H4 (wH m) U aa ae
def Pk(x:(aj)×Unit):Option (Int×Int×Unit):=H0 (wH aM) x.1
abbrev W6:Type:=Int×j8.D×Unit
def wI(a1:j8.D):Option (W6):=(Pk (a1.1,())).bind fun v1=>cond a1.2.1 (some (0,(a1.1,true,()),())) (cond (v1.2.1==0) (some (0,(a1.1,true,()),())) ((dh a1.1.length v1.2.1 (a1.1.length:Int)).bind fun v2=>some (v1.1,(part a1.1 v2.1 (v2.2-v2.1),a1.2.1,()),())))
def rU(x:j8.D×Unit):Option (W6):=wI x.1
abbrev W7:Type:=(aj)×j8.D×Unit
def Bz(a1:j8.D)(a2:Int):Option (W7):=cond a1.2.1 (some (([]:aj),(a1.1,true,()),())) (cond (decide (a2 >(a1.1.length:Int))) (some (([]:aj),(a1.1,true,()),())) ((dh a1.1.length 0 a2).bind fun v1=>(dh a1.1.length a2 (a1.1.length:Int)).bind fun v2=>some (part a1.1 v1.1 (v1.2-v1.1),(part a1.1 v2.1 (v2.2-v2.1),a1.2.1,()),())))
def yT(x:j8.D×Int×Unit):Option (W7):=Bz x.1 x.2.1
abbrev W8:Type:=(aj)×j8.D×Unit
def Pl(a1:j8.D):Option (W8):=(rU (a1,())).bind fun v1=>(yT (v1.2.1,v1.1,())).bind fun v2=>some (v2.1,v2.2.1,())
def wJ(x:j8.D×Unit):Option (W8):=Pl x.1
def Pm(a1:Int):Option (Int×Unit):=cond (Int.tmod a1 2==1) (some (ax (Int.tdiv (ax (0-(ax (a1+1)))) 2),())) (some (ax (Int.tdiv a1 2),()))
def H5(x:Int×Unit):Option (Int×Unit):=Pm x.1
abbrev W9:Type:=aI.D×Bool×Unit
def Pn(a1:aj):Option (W9):=(rU ((a1,false,()),())).bind fun v1=>(wJ (v1.2.1,())).bind fun v2=>(wJ (v2.2.1,())).bind fun v3=>(rU (v3.2.1,())).bind fun v4=>(H5 (v4.1,())).bind fun v5=>(rU (v4.2.1,())).bind fun v6=>(H5 (v6.1,())).bind fun bA=>(wJ (v6.2.1,())).bind fun cF=>cond cF.2.1.2.1 (some ((0,([]:aj),([]:aj),0,0,([]:aj),()),false,())) (cond (!(bw cF.2.1.1 ([]:aj))) (some ((0,([]:aj),([]:aj),0,0,([]:aj),()),false,())) ((vB ((v1.1,v2.1,v3.1,v5.1,bA.1,cF.1,()),())).bind fun v9=>cond (!v9.1) (some ((0,([]:aj),([]:aj),0,0,([]:aj),()),false,())) (some ((v1.1,v2.1,v3.1,v5.1,bA.1,cF.1,()),true,()))))
def Po(x:(aj)×Unit):Option (W9):=Pn x.1
def Pp(a1:aP.D):Option (Bool×Unit):=(dG (a1.1,0,2,())).bind fun v1=>cond v1.1 ((dG (a1.2.1,1,3,())).bind fun v2=>cond v2.1 ((dG (a1.2.2.1,1,1000000,())).bind fun v3=>cond v3.1 ((vB (a1.2.2.2.1,())).bind fun v4=>some (v4.1,())) (some (false,()))) (some (false,()))) (some (false,()))
def Pq(x:aP.D×Unit):Option (Bool×Unit):=Pp x.1
structure wK where
 k3:(List aP.D)→Int→Int→(List aP.D)→Int→Int→Option (Bool×Unit)
 cV:(List aP.D)→Int→Int→Int→(List aP.D)→Int→Int→aP.D→Option (Bool×Unit)
def H6(k:wK)(a1:List aP.D)(a2:Int):Option (Bool×Unit):=k.k3 a1 a2 0 a1 (a1.length:Int) 0
def BA(k:wK)(U:List aP.D)(aa:Int)(ae:Int)(ai:List aP.D)(aq:Int)(az:Int):Option (Bool×Unit):=cond (decide (az<aq)) ((ix ai.length az).bind fun v1=>cond (decide (az>0)) ((ix U.length (ax (az-1))).bind fun v2=>cond ((I aP U v2).1 !=(I aP ai v1).1) (k.cV U aa 1 az ai aq az (I aP ai v1)) (k.cV U aa (ax (ae+1)) az ai aq az (I aP ai v1))) (k.cV U aa (ax (ae+1)) az ai aq az (I aP ai v1))) (some (true,()))
def H7(k:wK)(U:List aP.D)(aa:Int)(ae:Int)(ai:Int)(aq:List aP.D)(az:Int)(aU:Int)(bn:aP.D):Option (Bool×Unit):=(Pq (bn,())).bind fun v1=>cond (!v1.1) (some (false,())) (cond (decide (ai>0)) ((ix U.length (ax (ai-1))).bind fun v2=>cond (decide ((I aP U v2).1>bn.1)) (some (false,())) (cond (decide (ae>aa)) (some (false,())) (k.k3 U aa ae aq az (ax (aU+1))))) (cond (decide (ae>aa)) (some (false,())) (k.k3 U aa ae aq az (ax (aU+1)))))
def W_(k:wK):wK:=⟨BA k,H7 k⟩
def qt:Nat→wK:=ew W_ ⟨fun _ _ _ _ _ _=>none,fun _ _ _ _ _ _ _ _=>none⟩
def H8(x:(List aP.D)×Int×Unit):Option (Bool×Unit):=H6 (qt aM) x.1 x.2.1
def Pr(a1:List aP.D):Option (Bool×Unit):=(H8 (a1,2,())).bind fun v1=>some (v1.1,())
def H9(x:(List aP.D)×Unit):Option (Bool×Unit):=Pr x.1
abbrev BB:Type:=(List aP.D)×Bool×Unit
abbrev H_:Type:=j8.D→(List aP.D)→Option (BB)
def H'(bp:H_)(a1:aj):Option (BB):=cond (bw a1 ([]:aj)) (some ([],false,())) ((ix a1.length 0).bind fun v1=>cond (((a1.getD v1 0).toNat:Int) != 102) (some ([],false,())) ((dh a1.length 1 (a1.length:Int)).bind fun v2=>bp (part a1 v2.1 (v2.2-v2.1),false,()) []))
def qu(bp:H_)(U:j8.D)(aa:List aP.D):Option (BB):=cond (!(bw U.1 ([]:aj))) (cond (!U.2.1) ((rU (U,())).bind fun v1=>(rU (v1.2.1,())).bind fun v2=>(rU (v2.2.1,())).bind fun v3=>(wJ (v3.2.1,())).bind fun v4=>(Po (v4.1,())).bind fun v5=>cond v4.2.1.2.1 (cond (room (aa.length+[(v1.1,v2.1,v3.1,v5.1,())].length)) (bp (v4.2.1.1,true,()) (aa++[(v1.1,v2.1,v3.1,v5.1,())])) (none)) (cond (room (aa.length+[(v1.1,v2.1,v3.1,v5.1,())].length)) (bp (v4.2.1.1,!v5.2.1,()) (aa++[(v1.1,v2.1,v3.1,v5.1,())])) (none))) (cond U.2.1 (some ([],false,())) ((H9 (aa,())).bind fun v6=>cond (!v6.1) (some ([],false,())) (some (aa,true,()))))) (cond U.2.1 (some ([],false,())) ((H9 (aa,())).bind fun bA=>cond (!bA.1) (some ([],false,())) (some (aa,true,()))))
def qv:Nat→H_ | 0,_,_=>none | m+1,U,aa=>qu (qv m) U aa
def Ia(x:(aj)×Unit):Option (BB):=H' (qv aM) x.1
def Ps(a1:Int):Option (Int×Unit):=cond (decide (a1<0)) (some (4,())) (cond (decide (a1>26)) (some (30,())) (some (ax (a1+4),())))
def Pt(x:Int×Unit):Option (Int×Unit):=Ps x.1
abbrev tG:Type:=aY.D×(List aZ.D)×Bool×Unit
structure tH where
 df:Int→(List an.D)→Int→Int→aY.D→aY.D→(List aZ.D)→Option (tG)
 eF:Int→Int→(List an.D)→Int→Int→Int→Int→aY.D→aY.D→(List aZ.D)→(List aP.D)→Option (tG)
def Ib(k:tH)(a1:List an.D)(a2:Int)(a3:Int):Option (tG):=cond (decide ((a1.length:Int)>400)) (some (((0,[],()),0,[],[],()),[],false,())) ((dG (a2,0,2,())).bind fun v1=>cond (!v1.1) (some (((0,[],()),0,[],[],()),[],false,())) ((dG (a3,0,(a1.length:Int),())).bind fun v2=>cond (!v2.1) (some (((0,[],()),0,[],[],()),[],false,())) ((Pj ()).bind fun v3=>(dh a1.length 0 a3).bind fun v4=>k.df a2 (part a1 v4.1 (v4.2-v4.1)) (((part a1 v4.1 (v4.2-v4.1)).length:Nat):Int) 0 ((0,[],()),0,[],[],()) v3.1 [])))
def Ic(k:tH)(U:Int)(aa:List an.D)(ae:Int)(ai:Int)(aq:aY.D)(az:aY.D)(aU:List aZ.D):Option (tG):=cond (decide (ai<ae)) ((ix aa.length ai).bind fun v1=>(Ia ((I an aa v1).2.1,())).bind fun v2=>cond (!v2.2.1) (k.df U aa ae (ax (ai+1)) aq az aU) ((Pt (az.2.1,())).bind fun v3=>k.eF U ai aa ae ai (v2.1.length:Int) 0 aq (az.1,v3.1,az.2.2.1,az.2.2.2.1,()) aU v2.1)) (some (az,aU,true,()))
def Xa(k:tH)(U:Int)(aa:Int)(ae:List an.D)(ai:Int)(aq:Int)(az:Int)(aU:Int)(bn:aY.D)(v2:an.D×Bool×aY.D×Unit)(e_:List aP.D)(v3:List aZ.D):Option (tG):=k.eF U aa ae ai aq az (ax (aU+1)) bn v2.2.2.1 v3 e_
def Ie(k:tH)(U:Int)(aa:Int)(ae:List an.D)(ai:Int)(aq:Int)(az:Int)(aU:Int)(bn:aY.D)(bu:aY.D)(ez:List aZ.D)(e_:List aP.D):Option (tG):=cond (decide (aU<az)) ((ix e_.length aU).bind fun v1=>cond ((I aP e_ (0+v1)).1 != U) (k.eF U aa ae ai aq az (ax (aU+1)) bn bu ez e_) ((yB (bu,(I aP e_ (0+v1)).2.1,(I aP e_ (0+v1)).2.2.1,(I aP e_ (0+v1)).2.2.2.1,ax (aa+1),())).bind fun v2=>cond v2.2.1 (cond (room (ez.length+[((I aP e_ (0+v1)).2.1,(I aP e_ (0+v1)).2.2.1,(I aP e_ (0+v1)).2.2.2.1,ax (aa+1),v2.1,())].length)) (Xa k U aa ae ai aq az aU bn v2 e_ (ez++[((I aP e_ (0+v1)).2.1,(I aP e_ (0+v1)).2.2.1,(I aP e_ (0+v1)).2.2.2.1,ax (aa+1),v2.1,())])) (none)) (k.eF U aa ae ai aq az (ax (aU+1)) bn v2.2.2.1 ez e_))) (k.df U ae ai (ax (aq+1)) bn bu ez)
def Xb(k:tH):tH:=⟨Ic k,Ie k⟩
def pr:Nat→tH:=ew Xb ⟨fun _ _ _ _ _ _ _=>none,fun _ _ _ _ _ _ _ _ _ _ _=>none⟩
def Pu(x:(List an.D)×Int×Int×Unit):Option (tG):=Ib (pr aM) x.1 x.2.1 x.2.2.1
abbrev Xc:Type:=(List aZ.D)×Bool×Unit
def Pv(a1:List an.D)(a2:Int):Option (Xc):=(Pu (a1,a2,(a1.length:Int),())).bind fun v1=>some (v1.2.1,v1.2.2.1,())
def BC(x:(List an.D)×Int×Unit):Option (Xc):=Pv x.1 x.2.1
def Pw(a1:aI.D)(a2:aI.D):Option (Bool×Unit):=cond (a1.1 != a2.1) (some (false,())) (cond (!(bw a1.2.1 a2.2.1)) (some (false,())) (cond (!(bw a1.2.2.1 a2.2.2.1)) (some (false,())) (cond (a1.2.2.2.1 != a2.2.2.2.1) (some (false,())) (cond (a1.2.2.2.2.1 != a2.2.2.2.2.1) (some (false,())) (cond (!(bw a1.2.2.2.2.2.1 a2.2.2.2.2.2.1)) (some (false,())) (some (true,())))))))
def Px(x:aI.D×aI.D×Unit):Option (Bool×Unit):=Pw x.1 x.2.1
def Py(a1:aZ.D)(a2:aZ.D):Option (Bool×Unit):=cond (a1.1 != a2.1) (some (false,())) (cond (a1.2.1 != a2.2.1) (some (false,())) ((Px (a1.2.2.1,a2.2.2.1,())).bind fun v1=>cond (!v1.1) (some (false,())) (cond (a1.2.2.2.1 != a2.2.2.2.1) (some (false,())) ((OQ (a1.2.2.2.2.1,a2.2.2.2.2.1,())).bind fun v2=>cond (!v2.1) (some (false,())) (some (true,()))))))
def Pz(x:aZ.D×aZ.D×Unit):Option (Bool×Unit):=Py x.1 x.2.1
abbrev Ig:Type:=(List aZ.D)→(List aZ.D)→Int→Option (Bool×Unit)
def Ih(bs:Ig)(a1:List aZ.D)(a2:List aZ.D):Option (Bool×Unit):=cond ((a1.length:Int) !=(a2.length:Int)) (some (false,())) (bs a1 a2 0)
def Ii(bs:Ig)(U:List aZ.D)(aa:List aZ.D)(ae:Int):Option (Bool×Unit):=cond (decide (ae<(U.length:Int))) ((ix U.length ae).bind fun v1=>(ix aa.length ae).bind fun v2=>(Pz (I aZ U v1,I aZ aa v2,())).bind fun v3=>cond (!v3.1) (some (false,())) (bs U aa (ax (ae+1)))) (some (true,()))
def wL:Nat→Ig | 0,_,_,_=>none | m+1,U,aa,ae=>Ii (wL m) U aa ae
def BD(x:(List aZ.D)×(List aZ.D)×Unit):Option (Bool×Unit):=Ih (wL aM) x.1 x.2.1
def PA(a1:an.D)(a2:an.D):Option (Bool×Unit):=cond (a1.1 != a2.1) (some (false,())) (cond (!(bw a1.2.1 a2.2.1)) (some (false,())) (some (true,())))
def PB(x:an.D×an.D×Unit):Option (Bool×Unit):=PA x.1 x.2.1
abbrev Ij:Type:=(List an.D)→(List an.D)→Int→Option (Bool×Unit)
def Ik(bs:Ij)(a1:List an.D)(a2:List an.D):Option (Bool×Unit):=cond ((a1.length:Int) !=(a2.length:Int)) (some (false,())) (bs a1 a2 0)
def Il(bs:Ij)(U:List an.D)(aa:List an.D)(ae:Int):Option (Bool×Unit):=cond (decide (ae<(U.length:Int))) ((ix U.length ae).bind fun v1=>(ix aa.length ae).bind fun v2=>(PB (I an U v1,I an aa v2,())).bind fun v3=>cond (!v3.1) (some (false,())) (bs U aa (ax (ae+1)))) (some (true,()))
def wM:Nat→Ij | 0,_,_,_=>none | m+1,U,aa,ae=>Il (wM m) U aa ae
def PC(x:(List an.D)×(List an.D)×Unit):Option (Bool×Unit):=Ik (wM aM) x.1 x.2.1
abbrev wN:Type:=Int×(List an.D)×Unit
abbrev yU:Type:=Int→Int→(List an.D)→Option (wN)
def Im(k2:yU)(a1:List an.D)(a2:Int):Option (wN):=k2 a2 0 a1
def Xd(k2:yU)(U:Int)(aa:Int)(v5:List an.D):Option (wN):=k2 (ax (ax (U+1)+1)) (ax (aa+1)) v5
def Xe(k2:yU)(U:Int)(aa:Int)(v2:List an.D):Option (wN):=(nd (ax (U+1),())).bind fun v3=>(ix v2.length aa).bind fun v4=>Xd k2 U aa (v2.set (0+v4) ((I an v2 (0+v4)).1,v3.1,()))
def Io(k2:yU)(U:Int)(aa:Int)(ae:List an.D):Option (wN):=cond (decide (aa<(ae.length:Int))) ((ix ae.length aa).bind fun v1=>Xe k2 U aa (ae.set (0+v1) (U,(I an ae (0+v1)).2.1,()))) (some (U,ae,()))
def rV:Nat→yU | 0,_,_,_=>none | m+1,U,aa,ae=>Io (rV m) U aa ae
def PD(x:(List an.D)×Int×Unit):Option (wN):=Im (rV aM) x.1 x.2.1
abbrev kZ:Type:=Int×(List aZ.D)×Unit
abbrev lF:Type:=Int→Int→(List aZ.D)→Option (kZ)
def Ip(k2:lF)(a1:List aZ.D)(a2:Int):Option (kZ):=k2 a2 0 a1
def Xf(k2:lF)(U:Int)(aa:Int)(ahC:List aZ.D):Option (kZ):=k2 (ax (ax (ax (ax (ax (ax (ax (ax (ax (ax (ax (U+1)+1)+1)+1)+1)+1)+1)+1)+1)+1)+1)) (ax (aa+1)) ahC
def Xg(k2:lF)(U:Int)(aa:Int)(wO:List aZ.D):Option (kZ):=(nd (ax (ax (ax (ax (ax (ax (ax (ax (ax (ax (U+1)+1)+1)+1)+1)+1)+1)+1)+1)+1),())).bind fun v24=>(ix wO.length aa).bind fun yV=>Xf k2 U aa (wO.set (0+yV) ((I aZ wO (0+yV)).1,(I aZ wO (0+yV)).2.1,(I aZ wO (0+yV)).2.2.1,(I aZ wO (0+yV)).2.2.2.1,(((I aZ wO (0+yV)).2.2.2.2.1).1,v24.1,()),()))
def Xh(k2:lF)(aa:Int)(U:Int)(v21:List aZ.D):Option (kZ):=(ix v21.length aa).bind fun v22=>Xg k2 U aa (v21.set (0+v22) ((I aZ v21 (0+v22)).1,(I aZ v21 (0+v22)).2.1,(I aZ v21 (0+v22)).2.2.1,(I aZ v21 (0+v22)).2.2.2.1,(ax (ax (ax (ax (ax (ax (ax (ax (ax (U+1)+1)+1)+1)+1)+1)+1)+1)+1),((I aZ v21 (0+v22)).2.2.2.2.1).2.1,()),()))
def Xi(k2:lF)(aa:Int)(U:Int)(tF:List aZ.D):Option (kZ):=(ix tF.length aa).bind fun v20=>Xh k2 aa U (tF.set (0+v20) ((I aZ tF (0+v20)).1,(I aZ tF (0+v20)).2.1,(I aZ tF (0+v20)).2.2.1,ax (ax (ax (ax (ax (ax (ax (ax (U+1)+1)+1)+1)+1)+1)+1)+1),(I aZ tF (0+v20)).2.2.2.2.1,()))
def Xj(k2:lF)(U:Int)(aa:Int)(gX:List aZ.D):Option (kZ):=(nd (ax (ax (ax (ax (ax (ax (ax (U+1)+1)+1)+1)+1)+1)+1),())).bind fun pa=>(ix gX.length aa).bind fun nf=>Xi k2 aa U (gX.set (0+nf) ((I aZ gX (0+nf)).1,(I aZ gX (0+nf)).2.1,(((I aZ gX (0+nf)).2.2.1).1,((I aZ gX (0+nf)).2.2.1).2.1,((I aZ gX (0+nf)).2.2.1).2.2.1,((I aZ gX (0+nf)).2.2.1).2.2.2.1,((I aZ gX (0+nf)).2.2.1).2.2.2.2.1,pa.1,()),(I aZ gX (0+nf)).2.2.2.1,(I aZ gX (0+nf)).2.2.2.2.1,()))
def Xk(k2:lF)(aa:Int)(U:Int)(fO:List aZ.D):Option (kZ):=(ix fO.length aa).bind fun fm=>Xj k2 U aa (fO.set (0+fm) ((I aZ fO (0+fm)).1,(I aZ fO (0+fm)).2.1,(((I aZ fO (0+fm)).2.2.1).1,((I aZ fO (0+fm)).2.2.1).2.1,((I aZ fO (0+fm)).2.2.1).2.2.1,((I aZ fO (0+fm)).2.2.1).2.2.2.1,ax (ax (ax (ax (ax (ax (U+1)+1)+1)+1)+1)+1),((I aZ fO (0+fm)).2.2.1).2.2.2.2.2.1,()),(I aZ fO (0+fm)).2.2.2.1,(I aZ fO (0+fm)).2.2.2.2.1,()))
def Xl(k2:lF)(aa:Int)(U:Int)(v12:List aZ.D):Option (kZ):=(ix v12.length aa).bind fun gH=>Xk k2 aa U (v12.set (0+gH) ((I aZ v12 (0+gH)).1,(I aZ v12 (0+gH)).2.1,(((I aZ v12 (0+gH)).2.2.1).1,((I aZ v12 (0+gH)).2.2.1).2.1,((I aZ v12 (0+gH)).2.2.1).2.2.1,ax (ax (ax (ax (ax (U+1)+1)+1)+1)+1),((I aZ v12 (0+gH)).2.2.1).2.2.2.2.1,((I aZ v12 (0+gH)).2.2.1).2.2.2.2.2.1,()),(I aZ v12 (0+gH)).2.2.2.1,(I aZ v12 (0+gH)).2.2.2.2.1,()))
def Xm(k2:lF)(U:Int)(aa:Int)(v9:List aZ.D):Option (kZ):=(nd (ax (ax (ax (ax (U+1)+1)+1)+1),())).bind fun v10=>(ix v9.length aa).bind fun v11=>Xl k2 aa U (v9.set (0+v11) ((I aZ v9 (0+v11)).1,(I aZ v9 (0+v11)).2.1,(((I aZ v9 (0+v11)).2.2.1).1,((I aZ v9 (0+v11)).2.2.1).2.1,v10.1,((I aZ v9 (0+v11)).2.2.1).2.2.2.1,((I aZ v9 (0+v11)).2.2.1).2.2.2.2.1,((I aZ v9 (0+v11)).2.2.1).2.2.2.2.2.1,()),(I aZ v9 (0+v11)).2.2.2.1,(I aZ v9 (0+v11)).2.2.2.2.1,()))
def Xn(k2:lF)(U:Int)(aa:Int)(v6:List aZ.D):Option (kZ):=(nd (ax (ax (ax (U+1)+1)+1),())).bind fun bA=>(ix v6.length aa).bind fun cF=>Xm k2 U aa (v6.set (0+cF) ((I aZ v6 (0+cF)).1,(I aZ v6 (0+cF)).2.1,(((I aZ v6 (0+cF)).2.2.1).1,bA.1,((I aZ v6 (0+cF)).2.2.1).2.2.1,((I aZ v6 (0+cF)).2.2.1).2.2.2.1,((I aZ v6 (0+cF)).2.2.1).2.2.2.2.1,((I aZ v6 (0+cF)).2.2.1).2.2.2.2.2.1,()),(I aZ v6 (0+cF)).2.2.2.1,(I aZ v6 (0+cF)).2.2.2.2.1,()))
def Xo(k2:lF)(aa:Int)(U:Int)(v4:List aZ.D):Option (kZ):=(ix v4.length aa).bind fun v5=>Xn k2 U aa (v4.set (0+v5) ((I aZ v4 (0+v5)).1,(I aZ v4 (0+v5)).2.1,(ax (ax (U+1)+1),((I aZ v4 (0+v5)).2.2.1).2.1,((I aZ v4 (0+v5)).2.2.1).2.2.1,((I aZ v4 (0+v5)).2.2.1).2.2.2.1,((I aZ v4 (0+v5)).2.2.1).2.2.2.2.1,((I aZ v4 (0+v5)).2.2.1).2.2.2.2.2.1,()),(I aZ v4 (0+v5)).2.2.2.1,(I aZ v4 (0+v5)).2.2.2.2.1,()))
def Xp(k2:lF)(aa:Int)(U:Int)(v2:List aZ.D):Option (kZ):=(ix v2.length aa).bind fun v3=>Xo k2 aa U (v2.set (0+v3) ((I aZ v2 (0+v3)).1,ax (U+1),(I aZ v2 (0+v3)).2.2.1,(I aZ v2 (0+v3)).2.2.2.1,(I aZ v2 (0+v3)).2.2.2.2.1,()))
def Iq(k2:lF)(U:Int)(aa:Int)(ae:List aZ.D):Option (kZ):=cond (decide (aa<(ae.length:Int))) ((ix ae.length aa).bind fun v1=>Xp k2 aa U (ae.set (0+v1) (U,(I aZ ae (0+v1)).2.1,(I aZ ae (0+v1)).2.2.1,(I aZ ae (0+v1)).2.2.2.1,(I aZ ae (0+v1)).2.2.2.2.1,()))) (some (U,ae,()))
def rW:Nat→lF | 0,_,_,_=>none | m+1,U,aa,ae=>Iq (rW m) U aa ae
def PE(x:(List aZ.D)×Int×Unit):Option (kZ):=Ip (rW aM) x.1 x.2.1
abbrev Ir:Type:=(List aZ.D)→Int→Int→Option (Int×Unit)
def Is(k2:Ir)(a1:List aZ.D)(a2:Int):Option (Int×Unit):=k2 a1 a2 0
def It(k2:Ir)(U:List aZ.D)(aa:Int)(ae:Int):Option (Int×Unit):=cond (decide (ae<(U.length:Int))) ((ix U.length ae).bind fun v1=>cond ((I aZ U v1).1 != aa) (some ((-1),())) ((ix U.length ae).bind fun v2=>cond ((I aZ U v2).2.1 != ax (aa+1)) (some ((-1),())) ((ix U.length ae).bind fun v3=>cond (((I aZ U v3).2.2.1).1 != ax (ax (aa+1)+1)) (some ((-1),())) ((ix U.length ae).bind fun v4=>(nd (ax (ax (ax (aa+1)+1)+1),())).bind fun v5=>cond (!(bw (((I aZ U v4).2.2.1).2.1) v5.1)) (some ((-1),())) ((ix U.length ae).bind fun v6=>(nd (ax (ax (ax (ax (aa+1)+1)+1)+1),())).bind fun bA=>cond (!(bw (((I aZ U v6).2.2.1).2.2.1) bA.1)) (some ((-1),())) ((ix U.length ae).bind fun cF=>cond (((I aZ U cF).2.2.1).2.2.2.1 != ax (ax (ax (ax (ax (aa+1)+1)+1)+1)+1)) (some ((-1),())) ((ix U.length ae).bind fun v9=>cond (((I aZ U v9).2.2.1).2.2.2.2.1 != ax (ax (ax (ax (ax (ax (aa+1)+1)+1)+1)+1)+1)) (some ((-1),())) ((ix U.length ae).bind fun v10=>(nd (ax (ax (ax (ax (ax (ax (ax (aa+1)+1)+1)+1)+1)+1)+1),())).bind fun v11=>cond (!(bw (((I aZ U v10).2.2.1).2.2.2.2.2.1) v11.1)) (some ((-1),())) ((ix U.length ae).bind fun v12=>cond ((I aZ U v12).2.2.2.1 != ax (ax (ax (ax (ax (ax (ax (ax (aa+1)+1)+1)+1)+1)+1)+1)+1)) (some ((-1),())) ((ix U.length ae).bind fun gH=>cond (((I aZ U gH).2.2.2.2.1).1 != ax (ax (ax (ax (ax (ax (ax (ax (ax (aa+1)+1)+1)+1)+1)+1)+1)+1)+1)) (some ((-1),())) ((ix U.length ae).bind fun fO=>(nd (ax (ax (ax (ax (ax (ax (ax (ax (ax (ax (aa+1)+1)+1)+1)+1)+1)+1)+1)+1)+1),())).bind fun fm=>cond (!(bw (((I aZ U fO).2.2.2.2.1).2.1) fm.1)) (some ((-1),())) (k2 U (ax (ax (ax (ax (ax (ax (ax (ax (ax (ax (ax (aa+1)+1)+1)+1)+1)+1)+1)+1)+1)+1)+1)) (ax (ae+1)))))))))))))) (some (aa,()))
def rX:Nat→Ir | 0,_,_,_=>none | m+1,U,aa,ae=>It (rX m) U aa ae
def Iu(x:(List aZ.D)×Int×Unit):Option (Int×Unit):=Is (rX aM) x.1 x.2.1
def PF(a1:List an.D)(a2:Int):Option (Bool×Unit):=(OW (a1,1048576,())).bind fun v1=>cond (decide (v1.1<0)) (some (true,())) ((yS (a1,())).bind fun v2=>(HV (v2.1,a2,())).bind fun v3=>(yS (a1,())).bind fun v4=>(BC (v4.1,a2,())).bind fun v5=>(BD (v5.1,v3.1,())).bind fun v6=>cond (!v6.1) (some (false,())) (cond (!(v5.2.1==v3.2.1)) (some (false,())) ((yS (a1,())).bind fun bA=>(PC (v4.1,bA.1,())).bind fun cF=>cond (!cF.1) (some (false,())) ((PD (v4.1,1,())).bind fun v9=>cond (decide (v9.1<0)) (some (false,())) ((BD (v5.1,v3.1,())).bind fun v10=>cond (!v10.1) (some (false,())) (cond (!(v5.2.1==v3.2.1)) (some (false,())) ((PE (v5.1,1,())).bind fun v11=>(Iu (v11.2.1,1,())).bind fun v12=>cond (decide (v12.1<0)) (some (false,())) (cond (v12.1 != v11.1) (some (false,())) ((yS (a1,())).bind fun gH=>(BC (gH.1,a2,())).bind fun fO=>(BD (fO.1,v3.1,())).bind fun fm=>cond (!fm.1) (some (false,())) (cond (!(fO.2.1==v3.2.1)) (some (false,())) ((Iu (v11.2.1,1,())).bind fun gX=>cond (decide (gX.1<0)) (some (false,())) (cond (gX.1 != v11.1) (some (false,())) (some (true,()))))))))))))))
def Xq(x:(List an.D)×Int×Unit):Option (Bool×Unit):=PF x.1 x.2.1
end
end Go.LM.j7
