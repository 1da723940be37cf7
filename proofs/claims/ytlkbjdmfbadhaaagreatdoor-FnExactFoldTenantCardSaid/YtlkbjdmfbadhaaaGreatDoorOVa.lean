/- The functions that the law reaches, as plain functions. Printed by a program. Conditions: each theorem's own hypotheses. -/
import Derived.Test.YtlkbjdmfbadhaaaGreatDoorOLmd
import Derived.Test.YtlkbjdmfbadhaaaGreatDoorOIn
set_option linter.unusedVariables false
set_option linter.unusedSimpArgs false
namespace Go.LM.ks
abbrev aj:Type:=List UInt8
noncomputable section
@[reducible] def an:ad:=.st (.cons (.int .i64) (.cons .str .nil))
@[reducible] def aJ:ad:=.st (.cons (.int .i64) (.cons (.int .i64) (.cons (.int .i64) (.cons (.int .i64) (.cons (.int .i64) .nil)))))
@[reducible] def aC:ad:=.st (.cons .str (.cons (.int .i64) .nil))
@[reducible] def J:ad:=.st (.cons (.int .i64) (.cons (.int .i64) (.cons (.int .i64) (.cons (.int .i64) (.cons (.int .i64) (.cons .str (.cons (.sl aC) (.cons (.int .i64) (.cons (.int .i64) .nil)))))))))
@[reducible] def ag:ad:=.st (.cons (.int .i64) (.cons (.sl J) .nil))
@[reducible] def aZ:ad:=.st (.cons (.int .i64) (.cons (.int .i64) (.cons (.int .i64) (.cons an .nil))))
@[reducible] def aS:ad:=.st (.cons ag (.cons (.int .i64) (.cons (.sl aJ) (.cons (.sl aZ) .nil))))
@[reducible] def aL:ad:=.st (.cons (.int .i64) (.cons .str (.cons .str (.cons (.int .i64) (.cons (.int .i64) (.cons .str .nil))))))
@[reducible] def aM:ad:=.st (.cons (.int .i64) (.cons (.int .i64) (.cons (.sl (.int .i64)) .nil)))
@[reducible] def a7:ad:=.st (.cons (.int .i64) (.cons .str (.cons (.int .i64) (.cons (.int .i64) .nil))))
@[reducible] def aO:ad:=.st (.cons ag (.cons aM (.cons aL .nil)))
@[reducible] def aiX:ad:=.st (.cons (.sl (.int .u8)) (.cons (.int .i64) (.cons (.int .i64) .nil)))
@[reducible] def aQ:ad:=.st (.cons (.int .i64) (.cons (.int .i64) (.cons (.int .i64) (.cons aL .nil))))
@[reducible] def fy:ad:=.st (.cons (.int .i64) (.cons (.int .i64) (.cons aL (.cons (.int .i64) (.cons an .nil)))))
@[reducible] def kt:ad:=.st (.cons .str (.cons .bool .nil))
def NS(a1:Int)(a2:Int)(a3:Int):Option (Bool×Unit):=cond (decide (a1≥a2)) (some (decide (a1≤a3),())) (some (false,()))
def dO(x:Int×Int×Int×Unit):Option (Bool×Unit):=NS x.1 x.2.1 x.2.2.1
abbrev FA:Type:=(List aJ.D)→(List aJ.D)→Int→Int→Option (Bool×Unit)
def FB(k2:FA)(a1:List aJ.D):Option (Bool×Unit):=k2 a1 a1 (a1.length:Int) 0
def FC(k2:FA)(U:List aJ.D)(aa:List aJ.D)(ae:Int)(ai:Int):Option (Bool×Unit):=cond (decide (ai<ae)) ((ix aa.length ai).bind fun v1=>(dO ((I aJ aa v1).1,1,100000,())).bind fun v2=>cond (!v2.1) (some (false,())) (cond (decide (ai>0)) ((ix U.length (aw (ai-1))).bind fun v3=>cond (decide ((I aJ U v3).1 >(I aJ aa v1).1)) (some (false,())) ((dO ((I aJ aa v1).2.1,1,3,())).bind fun v4=>cond (!v4.1) (some (false,())) ((dO ((I aJ aa v1).2.2.1,1,1000000,())).bind fun v5=>cond (!v5.1) (some (false,())) ((dO ((I aJ aa v1).2.2.2.1,1,22,())).bind fun v6=>cond (!v6.1) (some (false,())) ((dO ((I aJ aa v1).2.2.2.2.1,0,200,())).bind fun br=>cond (!br.1) (some (false,())) (k2 U aa ae (aw (ai+1)))))))) ((dO ((I aJ aa v1).2.1,1,3,())).bind fun cj=>cond (!cj.1) (some (false,())) ((dO ((I aJ aa v1).2.2.1,1,1000000,())).bind fun v9=>cond (!v9.1) (some (false,())) ((dO ((I aJ aa v1).2.2.2.1,1,22,())).bind fun v10=>cond (!v10.1) (some (false,())) ((dO ((I aJ aa v1).2.2.2.2.1,0,200,())).bind fun v11=>cond (!v11.1) (some (false,())) (k2 U aa ae (aw (ai+1))))))))) (some (decide ((U.length:Int)≤20),()))
def we:Nat→FA|0,_,_,_,_=>none|m+1,U,aa,ae,ai=>FC (we m) U aa ae ai
def NT(x:(List aJ.D)×Unit):Option (Bool×Unit):=FB (we aK) x.1
def Xj(a1:Int):Option (Bool×Unit):=cond (decide (a1≥97)) (cond (decide (a1≤122)) (some (true,())) (cond (decide (a1≥48)) (cond (decide (a1≤57)) (some (true,())) (cond (a1==46) (some (true,())) (cond (a1==95) (some (true,())) (some (a1==45,()))))) (cond (a1==46) (some (true,())) (cond (a1==95) (some (true,())) (some (a1==45,())))))) (cond (decide (a1≥48)) (cond (decide (a1≤57)) (some (true,())) (cond (a1==46) (some (true,())) (cond (a1==95) (some (true,())) (some (a1==45,()))))) (cond (a1==46) (some (true,())) (cond (a1==95) (some (true,())) (some (a1==45,())))))
def NU(x:Int×Unit):Option (Bool×Unit):=Xj x.1
abbrev FD:Type:=(aj)→Int→Int→Option (Bool×Unit)
def FE(k2:FD)(a1:aj):Option (Bool×Unit):=k2 a1 (a1.length:Int) 0
def FF(k2:FD)(U:aj)(aa:Int)(ae:Int):Option (Bool×Unit):=cond (decide (ae<aa)) ((ix U.length ae).bind fun v1=>cond (((U.getD v1 0).toNat:Int) != 47) ((ix U.length ae).bind fun v2=>(NU (((U.getD v2 0).toNat:Int),())).bind fun v3=>cond (!v3.1) (some (false,())) (k2 U aa (aw (ae+1)))) (k2 U aa (aw (ae+1)))) ((dO ((U.length:Int),1,60,())).bind fun v4=>some (v4.1,()))
def wg:Nat→FD|0,_,_,_=>none|m+1,U,aa,ae=>FF (wg m) U aa ae
def By(x:(aj)×Unit):Option (Bool×Unit):=FE (wg aK) x.1
abbrev Bz:Type:=(List J.D)×Unit
abbrev FG:Type:=ag.D→Int→Int→Int→Option (Bz)
def FH(k2:FG)(a1:ag.D)(a2:Int):Option (Bz):=k2 a1 a2 (a1.2.1.length:Int) 0
def FI(k2:FG)(U:ag.D)(aa:Int)(ae:Int)(ai:Int):Option (Bz):=cond (decide (ai<ae)) ((ix U.2.1.length ai).bind fun v1=>cond ((I J U.2.1 v1).1==aa) ((ix U.2.1.length ai).bind fun v2=>some ([I J U.2.1 v2],())) (k2 U aa ae (aw (ai+1)))) (some ([],()))
def wh:Nat→FG|0,_,_,_,_=>none|m+1,U,aa,ae,ai=>FI (wh m) U aa ae ai
def gy(x:ag.D×Int×Unit):Option (Bz):=FH (wh aK) x.1 x.2.1
abbrev FJ:Type:=Int→Int→Int→ag.D→Option (Int×ag.D×Unit)
def FK(k2:FJ)(a1:ag.D)(a2:Int):Option (Int×ag.D×Unit):=k2 a2 (a1.2.1.length:Int) 0 a1
def FL(k2:FJ)(U:Int)(aa:Int)(ae:Int)(ai:ag.D):Option (Int×ag.D×Unit):=cond (decide (ae<aa)) ((ix ai.2.1.length ae).bind fun v1=>cond ((I J ai.2.1 (0+v1)).1==U) ((ix ai.2.1.length ae).bind fun v2=>some ((((0+v2):Nat):Int),ai,())) (k2 U aa (aw (ae+1)) ai)) (some ((-1),ai,()))
def wi:Nat→FJ|0,_,_,_,_=>none|m+1,U,aa,ae,ai=>FL (wi m) U aa ae ai
def zc(x:ag.D×Int×Unit):Option (Int×ag.D×Unit):=FK (wi aK) x.1 x.2.1
abbrev FM:Type:=(List Int)→Int→Int→Int→Option (Int×Unit)
def FN(k2:FM)(a1:List Int)(a2:Int):Option (Int×Unit):=k2 a1 a2 (a1.length:Int) 0
def FO(k2:FM)(U:List Int)(aa:Int)(ae:Int)(ai:Int):Option (Int×Unit):=cond (decide (ai<ae)) ((ix U.length ai).bind fun v1=>cond (aa==I (ad.int .i64) U v1) (some (ai,())) (k2 U aa ae (aw (ai+1)))) (some ((-1),()))
def wj:Nat→FM|0,_,_,_,_=>none|m+1,U,aa,ae,ai=>FO (wj m) U aa ae ai
def NV(x:(List Int)×Int×Unit):Option (Int×Unit):=FN (wj aK) x.1 x.2.1
def NW(a1:List Int)(a2:Int):Option (Bool×Unit):=(NV (a1,a2,())).bind fun v1=>some (decide (v1.1≥0),())
def wk(x:(List Int)×Int×Unit):Option (Bool×Unit):=NW x.1 x.2.1
structure wm where
 bn:ag.D→Int→(List Int)→(List Int)→Option ((List Int)×Unit)
 gd:ag.D→Int→(List aC.D)→Int→Int→(List Int)→(List Int)→Option ((List Int)×Unit)
def FP(k:wm)(a1:ag.D)(a2:Int):Option ((List Int)×Unit):=k.bn a1 0 ([]:List Int) [a2]
def rQ(k:wm)(U:ag.D)(aa:Int)(ae:List Int)(ai:List Int):Option ((List Int)×Unit):=cond (decide (aa<(ai.length:Int))) ((ix ai.length aa).bind fun v1=>(gy (U,I (ad.int .i64) ai (0+v1),())).bind fun v2=>cond (!(!List.isEmpty v2.1)) (k.bn U (aw (aa+1)) ae ai) (cond (!List.isEmpty v2.1) (k.gd U aa ((I J v2.1 0).2.2.2.2.2.2.1) (((I J v2.1 0).2.2.2.2.2.2.1).length:Int) 0 ae ai) (none))) (some (ae,()))
def BA(k:wm)(U:ag.D)(aa:Int)(ae:List aC.D)(ai:Int)(aq:Int)(ay:List Int)(aW:List Int):Option ((List Int)×Unit):=cond (decide (aq<ai)) ((ix ae.length aq).bind fun v1=>(wk (ay,(I aC ae v1).2.1,())).bind fun v2=>cond (!v2.1) (cond (room (ay.length+[(I aC ae v1).2.1].length)) (cond (room (aW.length+[(I aC ae v1).2.1].length)) (k.gd U aa ae ai (aw (aq+1)) (ay++[(I aC ae v1).2.1]) (aW++[(I aC ae v1).2.1])) (none)) (none)) (k.gd U aa ae ai (aw (aq+1)) ay aW)) (k.bn U (aw (aa+1)) ay aW)
def Xk(k:wm):wm:=⟨rQ k,BA k⟩
def nt:Nat→wm:=eE Xk ⟨fun _ _ _ _=>none,fun _ _ _ _ _ _ _=>none⟩
def zd(x:ag.D×Int×Unit):Option ((List Int)×Unit):=FP (nt aK) x.1 x.2.1
structure wo where
 k3:Int→Int→(List J.D)→Int→Int→Option (Int×Unit)
 dh:Int→Int→(List J.D)→Int→Int→(List aC.D)→Int→Int→Option (Int×Unit)
def FQ(k:wo)(a1:ag.D)(a2:Int):Option (Int×Unit):=k.k3 a2 0 a1.2.1 (a1.2.1.length:Int) 0
def BB(k:wo)(U:Int)(aa:Int)(ae:List J.D)(ai:Int)(aq:Int):Option (Int×Unit):=cond (decide (aq<ai)) ((ix ae.length aq).bind fun v1=>k.dh U aa ae ai aq ((I J ae v1).2.2.2.2.2.2.1) (((I J ae v1).2.2.2.2.2.2.1).length:Int) 0) (some (aa,()))
def BC(k:wo)(U:Int)(aa:Int)(ae:List J.D)(ai:Int)(aq:Int)(ay:List aC.D)(aW:Int)(bq:Int):Option (Int×Unit):=cond (decide (bq<aW)) ((ix ay.length bq).bind fun v1=>cond ((I aC ay v1).2.1==U) (k.dh U (aw (aa+1)) ae ai aq ay aW (aw (bq+1))) (k.dh U aa ae ai aq ay aW (aw (bq+1)))) (k.k3 U aa ae ai (aw (aq+1)))
def Xl(k:wo):wo:=⟨BB k,BC k⟩
def qx:Nat→wo:=eE Xl ⟨fun _ _ _ _ _=>none,fun _ _ _ _ _ _ _ _=>none⟩
def BD(x:ag.D×Int×Unit):Option (Int×Unit):=FQ (qx aK) x.1 x.2.1
abbrev FR:Type:=Int→(List J.D)→Int→Int→Option (Int×Unit)
def FT(k3:FR)(a1:ag.D):Option (Int×Unit):=k3 0 a1.2.1 (a1.2.1.length:Int) 0
def FU(k3:FR)(U:Int)(aa:List J.D)(ae:Int)(ai:Int):Option (Int×Unit):=cond (decide (ai<ae)) ((ix aa.length ai).bind fun v1=>k3 (aw (U +(((I J aa v1).2.2.2.2.2.1).length:Int))) aa ae (aw (ai+1))) (some (U,()))
def wq:Nat→FR|0,_,_,_,_=>none|m+1,U,aa,ae,ai=>FU (wq m) U aa ae ai
def wu(x:ag.D×Unit):Option (Int×Unit):=FT (wq aK) x.1
abbrev FV:Type:=ag.D→Int→Int→Int→(List Int)→Option (Int×Int×Unit)
def FW(bn:FV)(a1:ag.D)(a2:Int):Option (Int×Int×Unit):=(zd (a1,a2,())).bind fun v1=>bn a1 0 (v1.1.length:Int) 0 v1.1
def FX(bn:FV)(U:ag.D)(aa:Int)(ae:Int)(ai:Int)(aq:List Int):Option (Int×Int×Unit):=cond (decide (ai<ae)) ((ix aq.length ai).bind fun v1=>(gy (U,I (ad.int .i64) aq (0+v1),())).bind fun v2=>cond (!List.isEmpty v2.1) (cond (!List.isEmpty v2.1) (bn U (aw (aa +(((I J v2.1 0).2.2.2.2.2.1).length:Int))) ae (aw (ai+1)) aq) (none)) (bn U aa ae (aw (ai+1)) aq)) (some (aa,(aq.length:Int),()))
def rR:Nat→FV|0,_,_,_,_,_=>none|m+1,U,aa,ae,ai,aq=>FX (rR m) U aa ae ai aq
def BE(x:ag.D×Int×Unit):Option (Int×Int×Unit):=FW (rR aK) x.1 x.2.1
def NX(a1:ag.D)(a2:J.D):Option (Bool×Unit):=(BE (a1,a2.1,())).bind fun v1=>cond (decide (a2.2.2.2.2.2.2.2.1>0)) (cond (decide (v1.1>a2.2.2.2.2.2.2.2.1)) (some (true,())) (cond (decide (a2.2.2.2.2.2.2.2.2.1>0)) (some (decide (v1.2.1>a2.2.2.2.2.2.2.2.2.1),())) (some (false,())))) (cond (decide (a2.2.2.2.2.2.2.2.2.1>0)) (some (decide (v1.2.1>a2.2.2.2.2.2.2.2.2.1),())) (some (false,())))
def NY(x:ag.D×J.D×Unit):Option (Bool×Unit):=NX x.1 x.2.1
abbrev FY:Type:=(List J.D)→ag.D→Int→Int→Option (Int×Unit)
def FZ(k2:FY)(a1:List J.D)(a2:ag.D):Option (Int×Unit):=k2 a1 a2 (a1.length:Int) 0
def F2(k2:FY)(U:List J.D)(aa:ag.D)(ae:Int)(ai:Int):Option (Int×Unit):=cond (decide (ai<ae)) ((ix U.length ai).bind fun v1=>(NY (aa,I J U v1,())).bind fun v2=>cond v2.1 (some (ai,())) (k2 U aa ae (aw (ai+1)))) (some ((-1),()))
def wv:Nat→FY|0,_,_,_,_=>none|m+1,U,aa,ae,ai=>F2 (wv m) U aa ae ai
def NZ(x:(List J.D)×ag.D×Unit):Option (Int×Unit):=FZ (wv aK) x.1 x.2.1
def N0(a1:List J.D)(a2:ag.D):Option (Bool×Unit):=(NZ (a1,a2,())).bind fun v1=>some (decide (v1.1≥0),())
def F3(x:(List J.D)×ag.D×Unit):Option (Bool×Unit):=N0 x.1 x.2.1
abbrev ze:Type:=(List J.D)→Int→Int→ag.D→ag.D→Option (ag.D×Unit)
def F4(k3:ze)(a1:ag.D):Option (ag.D×Unit):=k3 a1.2.1 (a1.2.1.length:Int) 0 (0,[],()) (a1.1,[],())
def Xm(k3:ze)(U:List J.D)(aa:Int)(ae:Int)(ai:ag.D)(aq:ag.D)(v3:List J.D):Option (ag.D×Unit):=k3 U aa (aw (ae+1)) ai (aq.1,v3,())
def Xn(k3:ze)(aq:ag.D)(U:List J.D)(v1:Nat)(aa:Int)(ae:Int)(ai:ag.D)(v2:List aC.D):Option (ag.D×Unit):=cond (room (aq.2.1.length+[((I J U v1).1,(I J U v1).2.1,(I J U v1).2.2.1,(I J U v1).2.2.2.1,(I J U v1).2.2.2.2.1,(I J U v1).2.2.2.2.2.1,v2,(I J U v1).2.2.2.2.2.2.2.1,(I J U v1).2.2.2.2.2.2.2.2.1,())].length)) (Xm k3 U aa ae ai aq (aq.2.1++[((I J U v1).1,(I J U v1).2.1,(I J U v1).2.2.1,(I J U v1).2.2.2.1,(I J U v1).2.2.2.2.1,(I J U v1).2.2.2.2.2.1,v2,(I J U v1).2.2.2.2.2.2.2.1,(I J U v1).2.2.2.2.2.2.2.2.1,())])) (none)
def F5(k3:ze)(U:List J.D)(aa:Int)(ae:Int)(ai:ag.D)(aq:ag.D):Option (ag.D×Unit):=cond (decide (ae<aa)) ((ix U.length ae).bind fun v1=>cond (room (([]:List aC.D).length +((I J U v1).2.2.2.2.2.2.1).length)) (Xn k3 aq U v1 aa ae ai (([]:List aC.D)++((I J U v1).2.2.2.2.2.2.1))) (none)) (some (aq,()))
def wx:Nat→ze|0,_,_,_,_,_=>none|m+1,U,aa,ae,ai,aq=>F5 (wx m) U aa ae ai aq
def tX(x:ag.D×Unit):Option (ag.D×Unit):=F4 (wx aK) x.1
structure wy where
 k2:aS.D→Int→(List aJ.D)→Int→Int→Option (Bool×Unit)
 cW:Int→(List aZ.D)→Int→Int→Option (Bool×Unit)
def Xo(k:wy)(a1:aS.D)(a2:Int):Option (Bool×Unit):=k.k2 a1 a2 a1.2.2.1 (a1.2.2.1.length:Int) 0
def F6(k:wy)(U:aS.D)(aa:Int)(ae:List aJ.D)(ai:Int)(aq:Int):Option (Bool×Unit):=cond (decide (aq<ai)) ((ix ae.length aq).bind fun v1=>cond (decide (aa<(I aJ ae v1).1)) (some (true,())) (k.k2 U aa ae ai (aw (aq+1)))) (k.cW aa U.2.2.2.1 (U.2.2.2.1.length:Int) 0)
def F7(k:wy)(U:Int)(aa:List aZ.D)(ae:Int)(ai:Int):Option (Bool×Unit):=cond (decide (ai<ae)) ((ix aa.length ai).bind fun v1=>cond (decide (U<(I aZ aa v1).2.2.1)) (some (true,())) (k.cW U aa ae (aw (ai+1)))) (some (false,()))
def Xp(k:wy):wy:=⟨F6 k,F7 k⟩
def tY:Nat→wy:=eE Xp ⟨fun _ _ _ _ _=>none,fun _ _ _ _=>none⟩
def N1(x:aS.D×Int×Unit):Option (Bool×Unit):=Xo (tY aK) x.1 x.2.1
abbrev F8:Type:=aS.D→Int→Int→Option (Int×Bool×Unit)
def Xq(k2:F8)(a1:aS.D)(a2:Int):Option (Int×Bool×Unit):=k2 a1 a2 0
def zf(k2:F8)(U:aS.D)(aa:Int)(ae:Int):Option (Int×Bool×Unit):=cond (decide (ae<(U.2.2.2.1.length:Int))) ((ix U.2.2.2.1.length ae).bind fun v1=>cond (decide ((I aZ U.2.2.2.1 v1).1<aa)) (k2 U aa (aw (ae+1))) (cond (decide (ae<(U.2.2.2.1.length:Int))) ((ix U.2.2.2.1.length ae).bind fun v2=>some (ae,(I aZ U.2.2.2.1 v2).1==aa,())) (some (ae,false,())))) (cond (decide (ae<(U.2.2.2.1.length:Int))) ((ix U.2.2.2.1.length ae).bind fun v3=>some (ae,(I aZ U.2.2.2.1 v3).1==aa,())) (some (ae,false,())))
def zg:Nat→F8|0,_,_,_=>none|m+1,U,aa,ae=>zf (zg m) U aa ae
def F9(x:aS.D×Int×Unit):Option (Int×Bool×Unit):=Xq (zg aK) x.1 x.2.1
def N2(a1:aS.D)(a2:Int):Option (aZ.D×Unit):=(F9 (a1,a2,())).bind fun v1=>cond v1.2.1 ((ix a1.2.2.2.1.length v1.1).bind fun v2=>some (I aZ a1.2.2.2.1 v2,())) (some ((0,0,0,(0,[],()),()),()))
def N3(x:aS.D×Int×Unit):Option (aZ.D×Unit):=N2 x.1 x.2.1
structure wz where
 k3:Bool→Bool→aL.D→Option (Bool×Unit)
 bs:aL.D→Option (Bool×Unit)
def F_(k:wz)(a1:aL.D):Option (Bool×Unit):=cond (a1.1==9) (cond (a1.1==5) (k.k3 true true a1) (k.k3 true (a1.1==6) a1)) (cond (a1.1==10) (cond (a1.1==5) (k.k3 true true a1) (k.k3 true (a1.1==6) a1)) (cond (a1.1==5) (k.k3 (a1.1==12) true a1) (k.k3 (a1.1==12) (a1.1==6) a1)))
def Xr(k:wz)(U:Bool)(aa:Bool)(ae:aL.D):Option (Bool×Unit):=cond (!U) (cond (!(bx ae.2.2.1 [])) (some (false,())) (cond (!aa) (cond (!(bx ae.2.2.2.2.2.1 [])) (some (false,())) (k.bs ae)) (k.bs ae))) (cond (!aa) (cond (!(bx ae.2.2.2.2.2.1 [])) (some (false,())) (k.bs ae)) (k.bs ae))
def Xs(k:wz)(U:aL.D):Option (Bool×Unit):=(dO (U.1,1,22,())).bind fun v1=>cond v1.1 (cond (decide ((U.2.1.length:Int)≤60)) (cond (decide ((U.2.2.1.length:Int)≤60)) (cond (decide ((U.2.2.2.2.2.1.length:Int)≤64)) ((dO (U.2.2.2.1,(-1000000),1000000,())).bind fun v2=>cond v2.1 ((dO (U.2.2.2.2.1,(-1000000),1000000,())).bind fun v3=>some (v3.1,())) (some (false,()))) (some (false,()))) (some (false,()))) (some (false,()))) (some (false,()))
def N4(k:wz):wz:=⟨Xr k,Xs k⟩
def Ga:Nat→wz:=eE N4 ⟨fun _ _ _=>none,fun _=>none⟩
def wA(x:aL.D×Unit):Option (Bool×Unit):=F_ (Ga aK) x.1
def aiY(a1:Int):Option (Bool×Unit):=cond (a1==4) (cond (a1==4) (some (true,())) (some (false,()))) (cond (a1==11) (cond (a1==11) (some (true,())) (some (false,()))) (cond (a1==13) (cond (a1==13) (some (true,())) (some (false,()))) (cond (a1==14) (cond (a1==14) (some (true,())) (some (false,()))) (cond (a1==17) (cond (a1==17) (some (true,())) (some (false,()))) (cond (a1==18) (cond (a1==18) (some (true,())) (some (false,()))) (cond (a1==20) (cond (a1==20) (some (true,())) (some (false,()))) (cond (a1==21) (some (true,())) (some (false,())))))))))
def BF(x:Int×Unit):Option (Bool×Unit):=aiY x.1
def aiZ(a1:Int):Option (an.D×Unit):=some ((a1,[],()),())
def eK(x:Int×Unit):Option (an.D×Unit):=aiZ x.1
def N5(a1:Int):Option (Int×Unit):=(dO (a1,1,22,())).bind fun v1=>cond (!v1.1) (some (0,())) ((BF (a1,())).bind fun v2=>cond v2.1 (some (1,())) (some (3,())))
def N6(x:Int×Unit):Option (Int×Unit):=N5 x.1
def N7(a1:Int)(a2:Int):Option (Int×Bool×Unit):=(N6 (a2,())).bind fun v1=>cond (v1.1==0) (some (a1,false,())) (cond (decide (v1.1>a1)) (some (a1,false,())) (some (aw (a1-v1.1),true,())))
def N8(x:Int×Int×Unit):Option (Int×Bool×Unit):=N7 x.1 x.2.1
def N9(a1:Int):Option (aM.D×Unit):=cond (a1==1) (some ((0,0,[],()),())) (cond (a1==2) (some ((2,2,[5],()),())) (cond (a1==3) (some ((3,2,[],()),())) (some ((1000,1000,[],()),()))))
def N_(x:Int×Unit):Option (aM.D×Unit):=N9 x.1
structure wB where
 bn:Int→(aj)→Int→Option ((aj)×Unit)
 ee:Int→(aj)→Int→Int→Option ((aj)×Unit)
def Xt(k:wB)(a1:Int):Option ((aj)×Unit):=k.bn a1 ([]:aj) a1
def N'(k:wB)(U:Int)(aa:aj)(ae:Int):Option ((aj)×Unit):=cond (decide (Int.tmod ae 10<0)) (k.ee U aa ae (aw (0-(Int.tmod ae 10)))) (k.ee U aa ae (Int.tmod ae 10))
def Oa(k:wB)(U:Int)(aa:aj)(ae:Int)(ai:Int):Option ((aj)×Unit):=cond (room ((eZ [IntKind.wrap .u8 (aw (48+ai))]).length+aa.length)) ((dO (ae,(-9),9,())).bind fun v1=>cond v1.1 (cond (decide (U<0)) (cond (room (([45]:aj).length +((eZ [IntKind.wrap .u8 (aw (48+ai))])++aa).length)) (some (([45]:aj)++((eZ [IntKind.wrap .u8 (aw (48+ai))])++aa),())) (none)) (some ((eZ [IntKind.wrap .u8 (aw (48+ai))])++aa,()))) (k.bn U ((eZ [IntKind.wrap .u8 (aw (48+ai))])++aa) (aw (Int.tdiv ae 10)))) (none)
def Xu(k:wB):wB:=⟨N' k,Oa k⟩
def nu:Nat→wB:=eE Xu ⟨fun _ _ _=>none,fun _ _ _ _=>none⟩
def wC(x:Int×Unit):Option ((aj)×Unit):=Xt (nu aK) x.1
structure wD where
 bs:(List aJ.D)→Int→(aj)→Int→Option ((aj)×Unit)
 dt:(List aJ.D)→Int→(aj)→Int→Int→Int→(List Int)→Option ((aj)×Unit)
def Gb(k:wD)(a1:List aJ.D)(a2:Int):Option ((aj)×Unit):=(NT (a1,())).bind fun v1=>cond (!v1.1) (some ([],())) (cond (decide (a2<0)) (some ([],())) (k.bs a1 a2 ([]:aj) a2))
def Gc(k:wD)(U:List aJ.D)(aa:Int)(ae:aj)(ai:Int):Option ((aj)×Unit):=cond (decide (ai<(U.length:Int))) (cond (decide (ai<aw (aa+6))) (cond (decide (ai>aa)) (cond (room (ae.length +([32]:aj).length)) ((ix U.length ai).bind fun v1=>k.dt U aa (ae++([32]:aj)) ai ([(I aJ U v1).1,(I aJ U v1).2.1,(I aJ U v1).2.2.1,(I aJ U v1).2.2.2.1,(I aJ U v1).2.2.2.2.1].length:Int) 0 [(I aJ U v1).1,(I aJ U v1).2.1,(I aJ U v1).2.2.1,(I aJ U v1).2.2.2.1,(I aJ U v1).2.2.2.2.1]) (none)) ((ix U.length ai).bind fun v2=>k.dt U aa ae ai ([(I aJ U v2).1,(I aJ U v2).2.1,(I aJ U v2).2.2.1,(I aJ U v2).2.2.2.1,(I aJ U v2).2.2.2.2.1].length:Int) 0 [(I aJ U v2).1,(I aJ U v2).2.1,(I aJ U v2).2.2.1,(I aJ U v2).2.2.2.1,(I aJ U v2).2.2.2.2.1])) (some (ae,()))) (some (ae,()))
def Gd(k:wD)(U:List aJ.D)(aa:Int)(ae:aj)(ai:Int)(aq:Int)(ay:Int)(aW:List Int):Option ((aj)×Unit):=cond (decide (ay<aq)) ((ix aW.length ay).bind fun v1=>cond (decide (ay>0)) (cond (room (ae.length +([46]:aj).length)) ((wC (I (ad.int .i64) aW (0+v1),())).bind fun v2=>cond (room ((ae++([46]:aj)).length+v2.1.length)) (k.dt U aa ((ae++([46]:aj))++v2.1) ai aq (aw (ay+1)) aW) (none)) (none)) ((wC (I (ad.int .i64) aW (0+v1),())).bind fun v3=>cond (room (ae.length+v3.1.length)) (k.dt U aa (ae++v3.1) ai aq (aw (ay+1)) aW) (none))) (k.bs U aa ae (aw (ai+1)))
def Xv(k:wD):wD:=⟨Gc k,Gd k⟩
def oo:Nat→wD:=eE Xv ⟨fun _ _ _ _=>none,fun _ _ _ _ _ _ _=>none⟩
def Ob(x:(List aJ.D)×Int×Unit):Option ((aj)×Unit):=Gb (oo aK) x.1 x.2.1
def Oc(a1:Int):Option (Bool×Unit):=(dO (a1,0,1000,())).bind fun v1=>some (!v1.1,())
def Xw(x:Int×Unit):Option (Bool×Unit):=Oc x.1
abbrev Ge:Type:=(List Int)→Int→Int→Option (Int×Unit)
def Gf(k2:Ge)(a1:List Int):Option (Int×Unit):=k2 a1 (a1.length:Int) 0
def Gg(k2:Ge)(U:List Int)(aa:Int)(ae:Int):Option (Int×Unit):=cond (decide (ae<aa)) ((ix U.length ae).bind fun v1=>(Xw (I (ad.int .i64) U v1,())).bind fun v2=>cond v2.1 (some (ae,())) (k2 U aa (aw (ae+1)))) (some ((-1),()))
def wE:Nat→Ge|0,_,_,_=>none|m+1,U,aa,ae=>Gg (wE m) U aa ae
def Od(x:(List Int)×Unit):Option (Int×Unit):=Gf (wE aK) x.1
def Oe(a1:List Int):Option (Bool×Unit):=(Od (a1,())).bind fun v1=>some (decide (v1.1≥0),())
def Of(x:(List Int)×Unit):Option (Bool×Unit):=Oe x.1
def Og(a1:aM.D):Option (Bool×Unit):=(dO (a1.1,0,1000,())).bind fun v1=>cond (!v1.1) (some (false,())) ((dO (a1.2.1,0,1000,())).bind fun v2=>cond (!v2.1) (some (false,())) (cond (decide ((a1.2.2.1.length:Int)>4)) (some (false,())) ((Of (a1.2.2.1,())).bind fun v3=>some (!v3.1,()))))
def zh(x:aM.D×Unit):Option (Bool×Unit):=Og x.1
def Oh(a1:aj):Option (Bool×Unit):=(By (a1,())).bind fun v1=>cond v1.1 ((ix a1.length 0).bind fun v2=>some (((a1.getD v2 0).toNat:Int)==47,())) (some (false,()))
def Oi(x:(aj)×Unit):Option (Bool×Unit):=Oh x.1
def Oj(a1:aM.D)(a2:Int):Option (Bool×Unit):=(zh (a1,())).bind fun v1=>cond v1.1 (cond (a2==a1.2.1) (some (true,())) ((wk (a1.2.2.1,a2,())).bind fun v2=>some (v2.1,()))) (some (false,()))
def wF(x:aM.D×Int×Unit):Option (Bool×Unit):=Oj x.1 x.2.1
def Ok(a1:aM.D)(a2:J.D)(a3:Int):Option (Bool×Unit):=(zh (a1,())).bind fun v1=>cond (!v1.1) (some (false,())) ((dO (a3,0,7,())).bind fun v2=>cond (!v2.1) (some (false,())) (cond (a1.1==0) (cond (a2.2.1 != 1) (some (true,())) (cond (cZ .and .i64 a2.2.2.1 73 != 0) (some (true,())) (some (cZ .and .i64 a3 1==0,())))) (cond (a1.1==a2.2.2.2.1) (some (cZ .and .i64 (cZ .and .i64 (Int.fdiv a2.2.2.1 (2^min (Int.toNat 6) 64)) 7) a3==a3,())) ((wF (a1,a2.2.2.2.2.1,())).bind fun v3=>cond v3.1 (some (cZ .and .i64 (cZ .and .i64 (Int.fdiv a2.2.2.1 (2^min (Int.toNat 3) 64)) 7) a3==a3,())) (some (cZ .and .i64 (cZ .and .i64 a2.2.2.1 7) a3==a3,()))))))
def qy(x:aM.D×J.D×Int×Unit):Option (Bool×Unit):=Ok x.1 x.2.1 x.2.2.1
abbrev Gh:Type:=(aj)→(List aC.D)→Int→Int→Option (Int×Unit)
def Gi(k2:Gh)(a1:J.D)(a2:aj):Option (Int×Unit):=k2 a2 a1.2.2.2.2.2.2.1 (a1.2.2.2.2.2.2.1.length:Int) 0
def Gj(k2:Gh)(U:aj)(aa:List aC.D)(ae:Int)(ai:Int):Option (Int×Unit):=cond (decide (ai<ae)) ((ix aa.length ai).bind fun v1=>cond (bx ((I aC aa v1).1) U) (some ((I aC aa v1).2.1,())) (k2 U aa ae (aw (ai+1)))) (some (0,()))
def tZ:Nat→Gh|0,_,_,_,_=>none|m+1,U,aa,ae,ai=>Gj (tZ m) U aa ae ai
def Gk(x:J.D×(aj)×Unit):Option (Int×Unit):=Gi (tZ aK) x.1 x.2.1
def Xx(_:(aj)×Int×Unit):Option ((List (aj))×Unit):=none
def Xy(x:(aj)×Int×Unit):Option (Int×Unit):=some (Lib.indexByte x.1 x.2.1.toNat.toUInt8,())
def ai0(a1:aj)(a2:Int):Option (Int×Unit):=(Xy (a1,a2,())).bind fun v1=>some (v1.1,())
def Xz(x:(aj)×Int×Unit):Option (Int×Unit):=ai0 x.1 x.2.1
def Ol(a1:aj)(a2:aj):Option (Int×Unit):=cond ((a2.length:Int)==0) (some (0,())) (cond (bx a2 a1) (some (0,())) (cond ((a2.length:Int)==1) ((ix a2.length 0).bind fun v1=>(Xz (a1,((a2.getD v1 0).toNat:Int),())).bind fun v2=>some (v2.1,())) (cond (decide ((a2.length:Int)≥(a1.length:Int))) (some ((-1),())) (none))))
def XA(x:(aj)×(aj)×Unit):Option (Int×Unit):=Ol x.1 x.2.1
def Om(a1:aj)(a2:aj):Option (Int×Unit):=(XA (a1,a2,())).bind fun v1=>some (v1.1,())
def Gl(x:(aj)×(aj)×Unit):Option (Int×Unit):=Om x.1 x.2.1
def XB(_:(aj)×Unit):Option (Int×Unit):=none
def XC(x:(aj)×Int×Unit):Option (Int×Unit):=some ((Lib.countByte x.1 x.2.1.toNat.toUInt8:Int),())
abbrev Gm:Type:=(aj)→(aj)→Int→Option (Int×Unit)
def Gn(dh:Gm)(a1:aj)(a2:aj):Option (Int×Unit):=cond ((a2.length:Int)==0) ((XB (a1,())).bind fun v1=>some (aw (v1.1+1),())) (cond ((a2.length:Int)==1) ((ix a2.length 0).bind fun v2=>(XC (a1,((a2.getD v2 0).toNat:Int),())).bind fun v3=>some (v3.1,())) (dh a1 a2 0))
def XD(dh:Gm)(U:aj)(aa:aj)(ae:Int):Option (Int×Unit):=(Gl (U,aa,())).bind fun v1=>cond (v1.1 ==(-1)) (some (ae,())) ((dj U.length (aw (v1.1 +(aa.length:Int))) (U.length:Int)).bind fun v2=>dh (part U v2.1 (v2.2-v2.1)) aa (aw (ae+1)))
def Gp:Nat→Gm|0,_,_,_=>none|m+1,U,aa,ae=>XD (Gp m) U aa ae
def On(x:(aj)×(aj)×Unit):Option (Int×Unit):=Gn (Gp aK) x.1 x.2.1
abbrev qz:Type:=(List (aj))×Unit
structure rS where
 ee:(aj)→(aj)→Int→Int→Option (qz)
 dt:(aj)→(aj)→Int→Int→Int→(List (aj))→Option (qz)
 XE:(aj)→Int→(List (aj))→Option (qz)
def Gq(k:rS)(a1:aj)(a2:aj)(a3:Int)(a4:Int):Option (qz):=cond (a4==0) (some ([],())) (cond (bx a2 []) ((Xx (a1,a4,())).bind fun v1=>some (v1.1,())) (cond (decide (a4<0)) ((On (a1,a2,())).bind fun v2=>k.ee a1 a2 a3 (aw (v2.1+1))) (k.ee a1 a2 a3 a4)))
def Oo(k:rS)(U:aj)(aa:aj)(ae:Int)(ai:Int):Option (qz):=cond (decide (0≤kk ai (aw ((U.length:Int)+1)))&&decide (kk ai (aw ((U.length:Int)+1))=kk ai (aw ((U.length:Int)+1)))&&room (Int.toNat (kk ai (aw ((U.length:Int)+1))))) (k.dt U aa ae (aw (kk ai (aw ((U.length:Int)+1))-1)) 0 (List.replicate (Int.toNat (kk ai (aw ((U.length:Int)+1)))) (([]:aj):aj))) (none)
def XF(k:rS)(U:aj)(v1:Int×Unit)(aa:aj)(ae:Int)(ai:Int)(aq:Int)(v4:List (aj)):Option (qz):=(dj U.length (aw (v1.1 +(aa.length:Int))) (U.length:Int)).bind fun v5=>k.dt (part U v5.1 (v5.2-v5.1)) aa ae ai (aw (aq+1)) v4
def BG(k:rS)(U:aj)(aa:aj)(ae:Int)(ai:Int)(aq:Int)(ay:List (aj)):Option (qz):=cond (decide (aq<ai)) ((Gl (U,aa,())).bind fun v1=>cond (decide (v1.1<0)) (k.XE U aq ay) ((dj U.length 0 (aw (v1.1+ae))).bind fun v2=>(ix ay.length aq).bind fun v3=>XF k U v1 aa ae ai aq (ay.set (0+v3) (part U v2.1 (v2.2-v2.1))))) (k.XE U aq ay)
def Oq(k:rS)(U:aj)(aa:Int)(ae:List (aj)):Option (qz):=(ix ae.length aa).bind fun v1=>(dj ((ae.set (0+v1) U).length) 0 (aw (aa+1))).bind fun v2=>some (part (ae.set (0+v1) U) (0+v2.1) (v2.2-v2.1),())
def XG(k:rS):rS:=⟨Oo k,BG k,Oq k⟩
def rT:Nat→rS:=eE XG ⟨fun _ _ _ _=>none,fun _ _ _ _ _ _=>none,fun _ _ _=>none⟩
def Ot(x:(aj)×(aj)×Int×Int×Unit):Option (qz):=Gq (rT aK) x.1 x.2.1 x.2.2.1 x.2.2.2.1
abbrev XH:Type:=(List (aj))×Unit
def Ou(a1:aj)(a2:aj):Option (XH):=(Ot (a1,a2,0,(-1),())).bind fun v1=>some (v1.1,())
def Ov(x:(aj)×(aj)×Unit):Option (XH):=Ou x.1 x.2.1
abbrev BH:Type:=(List (aj))×Unit
abbrev Gr:Type:=Int→Int→(List (aj))→(List (aj))→Option (BH)
def Gs(k3:Gr)(a1:aj):Option (BH):=(Ov (a1,([47]:aj),())).bind fun v1=>k3 (v1.1.length:Int) 0 ([]:List (aj)) v1.1
def Gt(k3:Gr)(U:Int)(aa:Int)(ae:List (aj))(ai:List (aj)):Option (BH):=cond (decide (aa<U)) ((ix ai.length aa).bind fun v1=>cond (!(bx (I ad.str ai (0+v1)) [])) (cond (room (ae.length+[I ad.str ai (0+v1)].length)) (k3 U (aw (aa+1)) (ae++[I ad.str ai (0+v1)]) ai) (none)) (k3 U (aw (aa+1)) ae ai)) (some (ae,()))
def t_:Nat→Gr|0,_,_,_,_=>none|m+1,U,aa,ae,ai=>Gt (t_ m) U aa ae ai
def t'(x:(aj)×Unit):Option (BH):=Gs (t_ aK) x.1
structure wG where
 k2:Int→(List J.D)→Int→Int→Option (Int×Unit)
 bs:Int→(List J.D)→Int→Int→(List aC.D)→Int→Int→J.D→Option (Int×Unit)
def Gu(k:wG)(a1:ag.D)(a2:Int):Option (Int×Unit):=k.k2 a2 a1.2.1 (a1.2.1.length:Int) 0
def wH(k:wG)(U:Int)(aa:List J.D)(ae:Int)(ai:Int):Option (Int×Unit):=cond (decide (ai<ae)) ((ix aa.length ai).bind fun v1=>k.bs U aa ae ai ((I J aa v1).2.2.2.2.2.2.1) (((I J aa v1).2.2.2.2.2.2.1).length:Int) 0 (I J aa v1)) (some (1,()))
def wI(k:wG)(U:Int)(aa:List J.D)(ae:Int)(ai:Int)(aq:List aC.D)(ay:Int)(aW:Int)(bq:J.D):Option (Int×Unit):=cond (decide (aW<ay)) ((ix aq.length aW).bind fun v1=>cond ((I aC aq v1).2.1==U) (some (bq.1,())) (k.bs U aa ae ai aq ay (aw (aW+1)) bq)) (k.k2 U aa ae (aw (ai+1)))
def XI(k:wG):wG:=⟨wH k,wI k⟩
def lq:Nat→wG:=eE XI ⟨fun _ _ _ _=>none,fun _ _ _ _ _ _ _ _=>none⟩
def Ow(x:ag.D×Int×Unit):Option (Int×Unit):=Gu (lq aK) x.1 x.2.1
abbrev ua:Type:=ag.D→Bool→Nat→Nat→Int→Int→aM.D→a7.D→(List (aj))→Option (a7.D×Unit)
def Gv(k3:ua)(a1:ag.D)(a2:aM.D)(a3:aj)(a4:Bool):Option (a7.D×Unit):=(t' (a3,())).bind fun v1=>k3 a1 a4 0 v1.1.length 1 0 a2 (0,[],0,0,()) v1.1
def XJ(k3:ua)(U:ag.D)(aa:Bool)(ay:Int)(aW:aM.D)(bq:a7.D)(v10:List (aj)):Option (a7.D×Unit):=cond (decide ((v10.length:Int)>40)) (some ((0,[],0,36,()),())) (k3 U aa 0 v10.length 1 (aw (ay+1)) aW bq v10)
def XK(k3:ua)(U:ag.D)(aa:Bool)(aq:Int)(ay:Int)(aW:aM.D)(bq:a7.D)(v12:List (aj)):Option (a7.D×Unit):=cond (decide ((v12.length:Int)>40)) (some ((0,[],0,36,()),())) (k3 U aa 0 v12.length aq (aw (ay+1)) aW bq v12)
def XL(k3:ua)(U:ag.D)(aa:Bool)(ay:Int)(aW:aM.D)(bq:a7.D)(fR:List (aj)):Option (a7.D×Unit):=cond (decide ((fR.length:Int)>40)) (some ((0,[],0,36,()),())) (k3 U aa 0 fR.length 1 (aw (ay+1)) aW bq fR)
def XM(k3:ua)(U:ag.D)(aa:Bool)(aq:Int)(ay:Int)(aW:aM.D)(bq:a7.D)(j9:List (aj)):Option (a7.D×Unit):=cond (decide ((j9.length:Int)>40)) (some ((0,[],0,36,()),())) (k3 U aa 0 j9.length aq (aw (ay+1)) aW bq j9)
def mD(k3:ua)(U:ag.D)(aa:Bool)(ae:Nat)(ai:Nat)(aq:Int)(ay:Int)(aW:aM.D)(bq:a7.D)(bw:List (aj)):Option (a7.D×Unit):=cond (decide ((ai:Int)>0)) ((ix ai 0).bind fun v1=>(dj ai 1 (ai:Int)).bind fun v2=>(gy (U,aq,())).bind fun v3=>cond (!List.isEmpty v3.1) ((qy (aW,I J v3.1 0,1,())).bind fun v4=>cond (!v4.1) (some ((0,[],0,13,()),())) (cond (bx (I ad.str bw (ae+v1)) ([46]:aj)) (k3 U aa (ae+v2.1) (v2.2-v2.1) aq ay aW bq bw) (cond (bx (I ad.str bw (ae+v1)) ([46,46]:aj)) ((Ow (U,aq,())).bind fun v5=>k3 U aa (ae+v2.1) (v2.2-v2.1) v5.1 ay aW bq bw) (cond (decide (((I ad.str bw (ae+v1)).length:Int)>8)) (some ((0,[],0,36,()),())) (cond (!List.isEmpty v3.1) ((Gk (I J v3.1 0,I ad.str bw (ae+v1),())).bind fun v6=>cond (v6.1==0) (cond ((((v2.2-v2.1):Nat):Int)==0) (some ((aq,I ad.str bw (ae+v1),0,2,()),())) (some ((0,[],0,2,()),()))) ((gy (U,v6.1,())).bind fun br=>cond (!List.isEmpty br.1) (cond ((I J br.1 0).2.1==3) (cond (!((((v2.2-v2.1):Nat):Int)==0)) (cond (ay==8) (some ((0,[],0,40,()),())) (cond (!List.isEmpty br.1) ((ix (((I J br.1 0).2.2.2.2.2.1).length) 0).bind fun cj=>cond (((((I J br.1 0).2.2.2.2.2.1).getD cj 0).toNat:Int)==47) (cond (!List.isEmpty br.1) ((t' ((I J br.1 0).2.2.2.2.2.1,())).bind fun v9=>cond (room (v9.1.length +(part bw (ae+v2.1) (v2.2-v2.1)).length)) (XJ k3 U aa ay aW bq (v9.1++(part bw (ae+v2.1) (v2.2-v2.1)))) (none)) (none)) (cond (!List.isEmpty br.1) ((t' ((I J br.1 0).2.2.2.2.2.1,())).bind fun v11=>cond (room (v11.1.length +(part bw (ae+v2.1) (v2.2-v2.1)).length)) (XK k3 U aa aq ay aW bq (v11.1++(part bw (ae+v2.1) (v2.2-v2.1)))) (none)) (none))) (none))) (cond aa (cond (ay==8) (some ((0,[],0,40,()),())) (cond (!List.isEmpty br.1) ((ix (((I J br.1 0).2.2.2.2.2.1).length) 0).bind fun hy=>cond (((((I J br.1 0).2.2.2.2.2.1).getD hy 0).toNat:Int)==47) (cond (!List.isEmpty br.1) ((t' ((I J br.1 0).2.2.2.2.2.1,())).bind fun gI=>cond (room (gI.1.length +(part bw (ae+v2.1) (v2.2-v2.1)).length)) (XL k3 U aa ay aW bq (gI.1++(part bw (ae+v2.1) (v2.2-v2.1)))) (none)) (none)) (cond (!List.isEmpty br.1) ((t' ((I J br.1 0).2.2.2.2.2.1,())).bind fun hY=>cond (room (hY.1.length +(part bw (ae+v2.1) (v2.2-v2.1)).length)) (XM k3 U aa aq ay aW bq (hY.1++(part bw (ae+v2.1) (v2.2-v2.1)))) (none)) (none))) (none))) (cond ((((v2.2-v2.1):Nat):Int)==0) (some ((aq,I ad.str bw (ae+v1),v6.1,0,()),())) (cond (!List.isEmpty br.1) (cond ((I J br.1 0).2.1 != 2) (some ((0,[],0,20,()),())) (k3 U aa (ae+v2.1) (v2.2-v2.1) v6.1 ay aW bq bw)) (none))))) (cond ((((v2.2-v2.1):Nat):Int)==0) (some ((aq,I ad.str bw (ae+v1),v6.1,0,()),())) (cond (!List.isEmpty br.1) (cond ((I J br.1 0).2.1 != 2) (some ((0,[],0,20,()),())) (k3 U aa (ae+v2.1) (v2.2-v2.1) v6.1 ay aW bq bw)) (none)))) (none))) (none)))))) (none)) (some ((0,[],aq,0,()),()))
def gJ:Nat→ua|0,_,_,_,_,_,_,_,_,_=>none|m+1,U,aa,ae,ai,aq,ay,aW,bq,bw=>mD (gJ m) U aa ae ai aq ay aW bq bw
def Ox(x:ag.D×aM.D×(aj)×Bool×Unit):Option (a7.D×Unit):=Gv (gJ aK) x.1 x.2.1 x.2.2.1 x.2.2.2.1
def rU(a1:aO.D)(a2:aj)(a3:Bool):Option (a7.D×Unit):=(Oi (a2,())).bind fun v1=>cond (!v1.1) (some ((0,[],0,22,()),())) ((Ox (a1.1,a1.2.1,a2,a3,())).bind fun v2=>some (v2.1,()))
def lU(x:aO.D×(aj)×Bool×Unit):Option (a7.D×Unit):=rU x.1 x.2.1 x.2.2.1
def BI(a1:aO.D)(a2:aj):Option (a7.D×Int×Unit):=(lU (a1,a2,false,())).bind fun v1=>cond (v1.1.2.2.2.1==2) (cond (!(bx v1.1.2.1 [])) (some (v1.1,0,())) (cond (v1.1.2.2.2.1==0) (some (v1.1,17,())) (some (v1.1,v1.1.2.2.2.1,())))) (cond (v1.1.2.2.2.1==0) (some (v1.1,17,())) (some (v1.1,v1.1.2.2.2.1,())))
def wJ(x:aO.D×(aj)×Unit):Option (a7.D×Int×Unit):=BI x.1 x.2.1
def Oy(a1:aO.D)(a2:Int):Option (Bool×Unit):=(gy (a1.1,a2,())).bind fun v1=>cond (!List.isEmpty v1.1) ((qy (a1.2.1,I J v1.1 0,3,())).bind fun v2=>some (v2.1,())) (none)
def oq(x:aO.D×Int×Unit):Option (Bool×Unit):=Oy x.1 x.2.1
def XN(x:(List aC.D)×Int×(List aC.D)×Unit):Option ((List aC.D)×Unit):=insF x.1 x.2.1 x.2.2.1
structure wK where
 k2:(aj)→Int→Int→Int→aO.D→Option (aO.D×Unit)
 bn:(aj)→Int→Int→Int→aO.D→Option (aO.D×Unit)
def Gw(k:wK)(a1:aO.D)(a2:Int)(a3:aj)(a4:Int):Option (aO.D×Unit):=(zc (a1.1,a2,())).bind fun v1=>k.k2 a3 a4 v1.1 0 (v1.2.1,a1.2.1,a1.2.2.1,())
def BJ(k:wK)(U:aj)(aa:Int)(ae:Int)(ai:Int)(aq:aO.D):Option (aO.D×Unit):=(ix aq.1.2.1.length ae).bind fun v1=>cond (decide (ai<(((I J aq.1.2.1 v1).2.2.2.2.2.2.1).length:Int))) ((ix aq.1.2.1.length ae).bind fun v2=>(ix (((I J aq.1.2.1 v2).2.2.2.2.2.2.1).length) ai).bind fun v3=>cond (eo ((I aC ((I J aq.1.2.1 v2).2.2.2.2.2.2.1) v3).1) U) (k.k2 U aa ae (aw (ai+1)) aq) (k.bn U aa ae ai aq)) (k.bn U aa ae ai aq)
def ai1(aq:aO.D)(v4:List J.D):Option (aO.D×Unit):=some (((aq.1.1,v4,()),aq.2.1,aq.2.2.1,()),())
def Oz(k:wK)(U:aj)(aa:Int)(ae:Int)(ai:Int)(aq:aO.D):Option (aO.D×Unit):=(ix aq.1.2.1.length ae).bind fun v1=>(ix aq.1.2.1.length ae).bind fun v2=>cond (Nat.beq v2 v1) ((XN ((I J aq.1.2.1 v1).2.2.2.2.2.2.1,ai,[(U,aa,())],())).bind fun v3=>ai1 aq (aq.1.2.1.set v1 ((I J aq.1.2.1 v1).1,(I J aq.1.2.1 v1).2.1,(I J aq.1.2.1 v1).2.2.1,(I J aq.1.2.1 v1).2.2.2.1,(I J aq.1.2.1 v1).2.2.2.2.1,(I J aq.1.2.1 v1).2.2.2.2.2.1,v3.1,(I J aq.1.2.1 v1).2.2.2.2.2.2.2.1,(I J aq.1.2.1 v1).2.2.2.2.2.2.2.2.1,()))) (none)
def XO(k:wK):wK:=⟨BJ k,Oz k⟩
def ub:Nat→wK:=eE XO ⟨fun _ _ _ _ _=>none,fun _ _ _ _ _=>none⟩
def uc(x:aO.D×Int×(aj)×Int×Unit):Option (aO.D×Unit):=Gw (ub aK) x.1 x.2.1 x.2.2.1 x.2.2.2.1
def OA(a1:aO.D):Option (Int×Unit):=(wu (a1.1,())).bind fun v1=>cond (decide (v1.1>400)) (some (28,())) ((F3 (a1.1.2.1,a1.1,())).bind fun v2=>cond v2.1 (some (122,())) (some (0,())))
def ot(x:aO.D×Unit):Option (Int×Unit):=OA x.1
structure wL where
 bn:aO.D→aL.D→Option (Int×aO.D×Unit)
 im:aO.D→a7.D→J.D→Option (Int×aO.D×Unit)
def Gz(k:wL)(a1:aO.D):Option (Int×aO.D×Unit):=cond (a1.2.2.1.1==10) ((By (a1.2.2.1.2.2.1,())).bind fun v1=>cond (!v1.1) (some (22,a1,())) (cond (a1.2.2.1.1 != 10) ((dO (a1.2.2.1.2.2.2.1,0,2047,())).bind fun v2=>cond (!v2.1) (some (22,a1,())) (k.bn a1 a1.2.2.1)) (k.bn a1 a1.2.2.1))) (cond (a1.2.2.1.1 != 10) ((dO (a1.2.2.1.2.2.2.1,0,2047,())).bind fun v3=>cond (!v3.1) (some (22,a1,())) (k.bn a1 a1.2.2.1)) (k.bn a1 a1.2.2.1))
def OB(k:wL)(U:aO.D)(aa:aL.D):Option (Int×aO.D×Unit):=(wJ (U,aa.2.1,())).bind fun v1=>cond (v1.2.1 != 0) (some (v1.2.1,U,())) ((oq (U,v1.1.1,())).bind fun v2=>cond (!v2.1) (some (13,U,())) ((gy (U.1,v1.1.1,())).bind fun v3=>cond (!List.isEmpty v3.1) (cond ((((I J v3.1 0).2.2.2.2.2.2.1).length:Int)==12) (some (28,U,())) (cond ((U.1.2.1.length:Int)==24) (some (28,U,())) (cond (U.1.1==100000) (some (28,U,())) (cond (!List.isEmpty v3.1) (cond (cZ .and .i64 ((I J v3.1 0).2.2.1) 1024 != 0) (cond (!List.isEmpty v3.1) (cond (aa.1==1) (cond (!List.isEmpty v3.1) (k.im U v1.1 (U.1.1,2,cZ .or .i64 aa.2.2.2.1 (cZ .and .i64 ((I J v3.1 0).2.2.1) 1024),U.2.1.1,(I J v3.1 0).2.2.2.2.1,[],[],0,0,())) (none)) (cond (aa.1==10) (k.im U v1.1 (U.1.1,3,511,U.2.1.1,(I J v3.1 0).2.2.2.2.1,aa.2.2.1,[],0,0,())) (k.im U v1.1 (U.1.1,1,aa.2.2.2.1,U.2.1.1,(I J v3.1 0).2.2.2.2.1,[],[],0,0,())))) (none)) (cond (aa.1==1) (cond (!List.isEmpty v3.1) (k.im U v1.1 (U.1.1,2,cZ .or .i64 aa.2.2.2.1 (cZ .and .i64 ((I J v3.1 0).2.2.1) 1024),U.2.1.1,U.2.1.2.1,[],[],0,0,())) (none)) (cond (aa.1==10) (k.im U v1.1 (U.1.1,3,511,U.2.1.1,U.2.1.2.1,aa.2.2.1,[],0,0,())) (k.im U v1.1 (U.1.1,1,aa.2.2.2.1,U.2.1.1,U.2.1.2.1,[],[],0,0,()))))) (none))))) (none)))
def OC(k:wL)(U:aO.D)(aa:a7.D)(ae:J.D):Option (Int×aO.D×Unit):=(uc (((aw (U.1.1+1),U.1.2.1,()),U.2.1,U.2.2.1,()),aa.1,aa.2.1,ae.1,())).bind fun v1=>cond (room (v1.1.1.2.1.length+[ae].length)) ((ot (((v1.1.1.1,v1.1.1.2.1++[ae],()),v1.1.2.1,v1.1.2.2.1,()),())).bind fun v2=>some (v2.1,((v1.1.1.1,v1.1.1.2.1++[ae],()),v1.1.2.1,v1.1.2.2.1,()),())) (none)
def XP(k:wL):wL:=⟨OB k,OC k⟩
def lV:Nat→wL:=eE XP ⟨fun _ _=>none,fun _ _ _=>none⟩
def BK(x:aO.D×Unit):Option (Int×aO.D×Unit):=Gz (lV aK) x.1
def OD(a1:aM.D)(a2:J.D)(a3:J.D):Option (Bool×Unit):=(zh (a1,())).bind fun v1=>cond v1.1 (cond (cZ .and .i64 a2.2.2.1 512==0) (some (true,())) (cond (a1.1==0) (some (true,())) (cond (a1.1==a2.2.2.2.1) (some (true,())) (some (a1.1==a3.2.2.2.1,()))))) (some (false,()))
def ud(x:aM.D×J.D×J.D×Unit):Option (Bool×Unit):=OD x.1 x.2.1 x.2.2.1
def ai2(a1:aC.D)(a2:aj):Option (Bool×Unit):=some (bx a1.1 a2,())
def GA(x:aC.D×(aj)×Unit):Option (Bool×Unit):=ai2 x.1 x.2.1
abbrev GB:Type:=(List aC.D)→(aj)→Int→Int→Option (Int×Unit)
def XQ(k2:GB)(a1:List aC.D)(a2:aj):Option (Int×Unit):=k2 a1 a2 (a1.length:Int) 0
def GC(k2:GB)(U:List aC.D)(aa:aj)(ae:Int)(ai:Int):Option (Int×Unit):=cond (decide (ai<ae)) ((ix U.length ai).bind fun v1=>(GA (I aC U v1,aa,())).bind fun v2=>cond v2.1 (some (ai,())) (k2 U aa ae (aw (ai+1)))) (some ((-1),()))
def zi:Nat→GB|0,_,_,_,_=>none|m+1,U,aa,ae,ai=>GC (zi m) U aa ae ai
def OE(x:(List aC.D)×(aj)×Unit):Option (Int×Unit):=XQ (zi aK) x.1 x.2.1
abbrev zj:Type:=(List aC.D)×Unit
abbrev GD:Type:=(aj)→Int→Int→(List aC.D)→Option (zj)
def GF(bs:GD)(a1:List aC.D)(a2:aj):Option (zj):=(OE (a1,a2,())).bind fun v1=>cond (v1.1 ==(-1)) (some (a1,())) (bs a2 v1.1 (aw (v1.1+1)) a1)
def XR(aa:Int)(v5:List aC.D):Option (zj):=(dj v5.length 0 aa).bind fun v6=>some (part v5 (0+v6.1) (v6.2-v6.1),())
def GG(bs:GD)(U:aj)(aa:Int)(ae:Int)(ai:List aC.D):Option (zj):=cond (decide (ae<(ai.length:Int))) ((ix ai.length ae).bind fun v1=>(GA (I aC ai (0+v1),U,())).bind fun v2=>cond (!v2.1) ((ix ai.length aa).bind fun v3=>bs U (aw (aa+1)) (aw (ae+1)) (ai.set (0+v3) (I aC ai (0+v1)))) (bs U aa (aw (ae+1)) ai)) ((dj ai.length aa (ai.length:Int)).bind fun v4=>XR aa (ai.take (0+v4.1)++List.replicate (v4.2-v4.1) (([],0,()):aC.D)++ai.drop ((0+v4.1) +(v4.2-v4.1))))
def zk:Nat→GD|0,_,_,_,_=>none|m+1,U,aa,ae,ai=>GG (zk m) U aa ae ai
def GH(x:(List aC.D)×(aj)×Unit):Option (zj):=GF (zk aK) x.1 x.2.1
def XS(x:(List J.D)×Int×Unit):Option ((List J.D)×Unit):=cond (room x.1.length) (some (x.1.filter (fun y=> !(y.1==x.2.1)),())) none
def OF(a4:Bool)(v1:Int×ag.D×Unit)(v3:Int×Unit)(a1:aO.D)(br:List J.D):Option (aO.D×Unit):=cond a4 ((BD ((v1.2.1.1,br,()),v3.1,())).bind fun cj=>cond (cj.1==0) ((XS (br,v3.1,())).bind fun v9=>some (((v1.2.1.1,v9.1,()),a1.2.1,a1.2.2.1,()),())) (some (((v1.2.1.1,br,()),a1.2.1,a1.2.2.1,()),()))) (some (((v1.2.1.1,br,()),a1.2.1,a1.2.2.1,()),()))
def OG(a1:aO.D)(a2:Int)(a3:aj)(a4:Bool):Option (aO.D×Unit):=(zc (a1.1,a2,())).bind fun v1=>(ix v1.2.1.2.1.length v1.1).bind fun v2=>(Gk (I J v1.2.1.2.1 v2,a3,())).bind fun v3=>(ix v1.2.1.2.1.length v1.1).bind fun v4=>(ix v1.2.1.2.1.length v1.1).bind fun v5=>cond (Nat.beq v5 v4) ((GH ((I J v1.2.1.2.1 v4).2.2.2.2.2.2.1,a3,())).bind fun v6=>OF a4 v1 v3 a1 (v1.2.1.2.1.set v4 ((I J v1.2.1.2.1 v4).1,(I J v1.2.1.2.1 v4).2.1,(I J v1.2.1.2.1 v4).2.2.1,(I J v1.2.1.2.1 v4).2.2.2.1,(I J v1.2.1.2.1 v4).2.2.2.2.1,(I J v1.2.1.2.1 v4).2.2.2.2.2.1,v6.1,(I J v1.2.1.2.1 v4).2.2.2.2.2.2.2.1,(I J v1.2.1.2.1 v4).2.2.2.2.2.2.2.2.1,()))) (none)
def pz(x:aO.D×Int×(aj)×Bool×Unit):Option (aO.D×Unit):=OG x.1 x.2.1 x.2.2.1 x.2.2.2.1
structure rV where
 bs:aO.D→a7.D→J.D→Option (Int×aO.D×Unit)
 ee:aO.D→a7.D→J.D→Option (Int×aO.D×Unit)
 gd:aO.D→a7.D→J.D→Option (Int×aO.D×Unit)
 dt:aO.D→a7.D→J.D→Option (Int×aO.D×Unit)
def GI(k:rV)(a1:aO.D):Option (Int×aO.D×Unit):=(lU (a1,a1.2.2.1.2.1,false,())).bind fun v1=>cond (v1.1.2.2.2.1 != 0) (some (v1.1.2.2.2.1,a1,())) (dup ((gy (a1.1,v1.1.2.2.1,())).bind fun v2=>cond (!List.isEmpty v2.1) (k.bs a1 v1.1 (I J v2.1 0)) (none)))
def OH(k:rV)(U:aO.D)(aa:a7.D)(ae:J.D):Option (Int×aO.D×Unit):=cond (U.2.2.1.1==2) (cond (bx aa.2.1 []) (some (16,U,())) (k.ee U aa ae)) (k.ee U aa ae)
def OI(k:rV)(U:aO.D)(aa:a7.D)(ae:J.D):Option (Int×aO.D×Unit):=cond (U.2.2.1.1==2) (cond (ae.2.1 != 2) (some (20,U,())) (k.gd U aa ae)) (k.gd U aa ae)
def OJ(k:rV)(U:aO.D)(aa:a7.D)(ae:J.D):Option (Int×aO.D×Unit):=cond (U.2.2.1.1==8) (cond (ae.2.1==2) (some (21,U,())) (k.dt U aa ae)) (k.dt U aa ae)
def OK(k:rV)(U:aO.D)(aa:a7.D)(ae:J.D):Option (Int×aO.D×Unit):=(oq (U,aa.1,())).bind fun v1=>cond (!v1.1) (some (13,U,())) ((gy (U.1,aa.1,())).bind fun v2=>cond (!List.isEmpty v2.1) ((ud (U.2.1,I J v2.1 0,ae,())).bind fun v3=>cond (!v3.1) (some (1,U,())) (cond (U.2.2.1.1==2) (cond (decide ((ae.2.2.2.2.2.2.1.length:Int)>0)) (some (39,U,())) ((pz (U,aa.1,aa.2.1,true,())).bind fun v4=>some (0,v4.1,()))) ((pz (U,aa.1,aa.2.1,true,())).bind fun v5=>some (0,v5.1,())))) (none))
def XT(k:rV):rV:=⟨OH k,OI k,OJ k,OK k⟩
def pA:Nat→rV:=eE XT ⟨fun _ _ _=>none,fun _ _ _=>none,fun _ _ _=>none,fun _ _ _=>none⟩
def GJ(x:aO.D×Unit):Option (Int×aO.D×Unit):=GI (pA aK) x.1
def OL(a1:ag.D)(a2:Int):Option (Bool×Unit):=(gy (a1,a2,())).bind fun v1=>cond (!List.isEmpty v1.1) (cond (!List.isEmpty v1.1) (some ((I J v1.1 0).2.1==2,())) (none)) (some (false,()))
def BL(x:ag.D×Int×Unit):Option (Bool×Unit):=OL x.1 x.2.1
def OM(a1:aO.D):Option (Int×aO.D×Unit):=(lU (a1,a1.2.2.1.2.1,false,())).bind fun v1=>cond (v1.1.2.2.2.1 != 0) (some (v1.1.2.2.2.1,a1,())) ((BL (a1.1,v1.1.2.2.1,())).bind fun v2=>cond v2.1 (some (1,a1,())) ((wJ (a1,a1.2.2.1.2.2.1,())).bind fun v3=>cond (v3.2.1 != 0) (some (v3.2.1,a1,())) ((oq (a1,v3.1.1,())).bind fun v4=>cond (!v4.1) (some (13,a1,())) ((gy (a1.1,v3.1.1,())).bind fun v5=>cond (!List.isEmpty v5.1) (cond ((((I J v5.1 0).2.2.2.2.2.2.1).length:Int)==12) (some (28,a1,())) ((uc (a1,v3.1.1,v3.1.2.1,v1.1.2.2.1,())).bind fun v6=>(ot (v6.1,())).bind fun br=>some (br.1,v6.1,()))) (none)))))
def GK(x:aO.D×Unit):Option (Int×aO.D×Unit):=OM x.1
def ON(a1:aO.D)(a2:J.D)(a3:a7.D):Option (Int×Unit):=dup ((gy (a1.1,a3.2.2.1,())).bind fun v1=>cond (!List.isEmpty v1.1) ((gy (a1.1,a3.1,())).bind fun v2=>cond (!List.isEmpty v2.1) ((ud (a1.2.1,I J v2.1 0,I J v1.1 0,())).bind fun v3=>cond (!v3.1) (some (1,())) (cond (a2.2.1==2) (cond ((I J v1.1 0).2.1 != 2) (some (20,())) (cond (a2.2.1==2) (cond (decide ((((I J v1.1 0).2.2.2.2.2.2.1).length:Int)>0)) (some (39,())) (cond (a2.2.1 != 2) (cond ((I J v1.1 0).2.1==2) (some (21,())) (some (0,()))) (some (0,())))) (cond (a2.2.1 != 2) (cond ((I J v1.1 0).2.1==2) (some (21,())) (some (0,()))) (some (0,()))))) (cond (a2.2.1==2) (cond (decide ((((I J v1.1 0).2.2.2.2.2.2.1).length:Int)>0)) (some (39,())) (cond (a2.2.1 != 2) (cond ((I J v1.1 0).2.1==2) (some (21,())) (some (0,()))) (some (0,())))) (cond (a2.2.1 != 2) (cond ((I J v1.1 0).2.1==2) (some (21,())) (some (0,()))) (some (0,())))))) (none)) (none))
def GL(x:aO.D×J.D×a7.D×Unit):Option (Int×Unit):=ON x.1 x.2.1 x.2.2.1
structure rW where
 ee:aO.D→a7.D→a7.D→Option (Int×aO.D×Unit)
 dd:aO.D→a7.D→a7.D→J.D→Option (Int×aO.D×Unit)
 rX:aO.D→a7.D→a7.D→J.D→Option (Int×aO.D×Unit)
 pB:aO.D→a7.D→a7.D→Option (Int×aO.D×Unit)
def GM(k:rW)(a1:aO.D):Option (Int×aO.D×Unit):=(lU (a1,a1.2.2.1.2.1,false,())).bind fun v1=>cond (v1.1.2.2.2.1 != 0) (some (v1.1.2.2.2.1,a1,())) ((lU (a1,a1.2.2.1.2.2.1,false,())).bind fun v2=>cond (v2.1.2.2.2.1 != 0) (cond (v2.1.2.2.2.1 != 2) (some (v2.1.2.2.2.1,a1,())) (cond (bx v2.1.2.1 []) (some (v2.1.2.2.2.1,a1,())) (k.ee a1 v1.1 v2.1))) (k.ee a1 v1.1 v2.1))
def OO(k:rW)(U:aO.D)(aa:a7.D)(ae:a7.D):Option (Int×aO.D×Unit):=cond (bx aa.2.1 []) (some (16,U,())) (cond (bx ae.2.1 []) (some (16,U,())) (dup ((gy (U.1,aa.2.2.1,())).bind fun v1=>cond (!List.isEmpty v1.1) (k.dd U aa ae (I J v1.1 0)) (none))))
def OP(k:rW)(U:aO.D)(aa:a7.D)(ae:a7.D)(ai:J.D):Option (Int×aO.D×Unit):=(oq (U,aa.1,())).bind fun v1=>cond (!v1.1) (some (13,U,())) ((oq (U,ae.1,())).bind fun v2=>cond (!v2.1) (some (13,U,())) ((gy (U.1,aa.1,())).bind fun v3=>cond (!List.isEmpty v3.1) ((ud (U.2.1,I J v3.1 0,ai,())).bind fun v4=>cond (!v4.1) (some (1,U,())) (cond (ai.2.1==2) (cond (ae.1==aa.2.2.1) (some (22,U,())) ((zd (U.1,aa.2.2.1,())).bind fun v5=>(wk (v5.1,ae.1,())).bind fun v6=>cond v6.1 (some (22,U,())) (k.rX U aa ae ai))) (k.rX U aa ae ai))) (none)))
def OQ(k:rW)(U:aO.D)(aa:a7.D)(ae:a7.D)(ai:J.D):Option (Int×aO.D×Unit):=cond (ae.2.2.1==aa.2.2.1) (some (0,U,())) (cond (ae.2.2.1 != 0) ((GL (U,ai,ae,())).bind fun v1=>cond (v1.1 != 0) (some (v1.1,U,())) ((pz (U,ae.1,ae.2.1,true,())).bind fun v2=>k.pB v2.1 aa ae)) (cond (aa.1 != ae.1) ((gy (U.1,ae.1,())).bind fun v3=>cond (!List.isEmpty v3.1) (cond ((((I J v3.1 0).2.2.2.2.2.2.1).length:Int)==12) (some (28,U,())) (k.pB U aa ae)) (none)) (k.pB U aa ae)))
def OR(k:rW)(U:aO.D)(aa:a7.D)(ae:a7.D):Option (Int×aO.D×Unit):=(pz (U,aa.1,aa.2.1,false,())).bind fun v1=>(uc (v1.1,ae.1,ae.2.1,aa.2.2.1,())).bind fun v2=>(ot (v2.1,())).bind fun v3=>some (v3.1,v2.1,())
def XU(k:rW):rW:=⟨OO k,OP k,OQ k,OR k⟩
def jJ:Nat→rW:=eE XU ⟨fun _ _ _=>none,fun _ _ _ _=>none,fun _ _ _ _=>none,fun _ _ _=>none⟩
def GN(x:aO.D×Unit):Option (Int×aO.D×Unit):=GM (jJ aK) x.1
abbrev XV:Type:=Int×Int×aO.D×Unit
def OS(a1:aO.D)(a2:Bool):Option (XV):=(lU (a1,a1.2.2.1.2.1,a2,())).bind fun v1=>cond (v1.1.2.2.2.1 != 0) (some ((-1),v1.1.2.2.2.1,a1,())) ((zc (a1.1,v1.1.2.2.1,())).bind fun v2=>some (v2.1,0,(v2.2.1,a1.2.1,a1.2.2.1,()),()))
def nv(x:aO.D×Bool×Unit):Option (XV):=OS x.1 x.2.1
abbrev XW:Type:=Int×Int×aO.D×Unit
def BM(a1:aO.D)(a2:Int):Option (XW):=(nv (a1,true,())).bind fun v1=>cond (v1.2.1 != 0) (some ((-1),v1.2.1,v1.2.2.1,())) ((ix v1.2.2.1.1.2.1.length v1.1).bind fun v2=>cond ((I J v1.2.2.1.1.2.1 v2).2.1==2) (some ((-1),21,v1.2.2.1,())) ((ix v1.2.2.1.1.2.1.length v1.1).bind fun v3=>(qy (v1.2.2.1.2.1,I J v1.2.2.1.1.2.1 v3,a2,())).bind fun v4=>cond (!v4.1) (some ((-1),13,v1.2.2.1,())) (some (v1.1,0,v1.2.2.1,()))))
def BN(x:aO.D×Int×Unit):Option (XW):=BM x.1 x.2.1
abbrev XX:Type:=an.D×aO.D×Unit
def OT(a1:aO.D):Option (XX):=(BN (a1,4,())).bind fun v1=>cond (v1.2.1 != 0) ((eK (v1.2.1,())).bind fun v2=>some (v2.1,v1.2.2.1,())) (cond (decide (v1.2.2.1.2.2.1.2.2.2.1<0)) ((eK (22,())).bind fun v3=>some (v3.1,v1.2.2.1,())) (cond (decide (v1.2.2.1.2.2.1.2.2.2.2.1<0)) ((eK (22,())).bind fun v4=>some (v4.1,v1.2.2.1,())) ((ix v1.2.2.1.1.2.1.length v1.1).bind fun v5=>(ix v1.2.2.1.1.2.1.length v1.1).bind fun v6=>(dj (((I J v1.2.2.1.1.2.1 v5).2.2.2.2.2.1).length) (kk v1.2.2.1.2.2.1.2.2.2.1 (((I J v1.2.2.1.1.2.1 v6).2.2.2.2.2.1).length:Int)) (((I J v1.2.2.1.1.2.1 v5).2.2.2.2.2.1).length:Int)).bind fun br=>(dj ((part ((I J v1.2.2.1.1.2.1 v5).2.2.2.2.2.1) br.1 (br.2-br.1)).length) 0 (kk v1.2.2.1.2.2.1.2.2.2.2.1 (((part ((I J v1.2.2.1.1.2.1 v5).2.2.2.2.2.1) br.1 (br.2-br.1)).length:Nat):Int))).bind fun cj=>some ((0,part (part ((I J v1.2.2.1.1.2.1 v5).2.2.2.2.2.1) br.1 (br.2-br.1)) cj.1 (cj.2-cj.1),()),v1.2.2.1,()))))
def GO(x:aO.D×Unit):Option (XX):=OT x.1
def strings_Repeat(x:(aj)×Int×Unit):Option ((aj)×Unit):=repF x.1 x.2.1
def OU(a1:aj)(a2:Int):Option ((aj)×Unit):=cond (decide ((a1.length:Int)≥a2)) ((dj a1.length 0 a2).bind fun v1=>some (part a1 v1.1 (v1.2-v1.1),())) ((strings_Repeat (([0]:aj),aw (a2-(a1.length:Int)),())).bind fun v2=>cond (room (a1.length+v2.1.length)) (some (a1++v2.1,())) (none))
def GP(x:(aj)×Int×Unit):Option ((aj)×Unit):=OU x.1 x.2.1
structure ue where
 ee:Int→Int→aO.D→Option (Int×aO.D×Unit)
 dt:Int→Int→aO.D→Option (Int×aO.D×Unit)
 hB:Int→(aj)→aO.D→Option (Int×aO.D×Unit)
def GQ(k:ue)(a1:aO.D):Option (Int×aO.D×Unit):=(BN (a1,2,())).bind fun v1=>cond (v1.2.1 != 0) (some (v1.2.1,v1.2.2.1,())) (cond (v1.2.2.1.2.2.1.1==6) ((ix v1.2.2.1.1.2.1.length v1.1).bind fun v2=>k.ee v1.1 (((I J v1.2.2.1.1.2.1 v2).2.2.2.2.2.1).length:Int) v1.2.2.1) (k.ee v1.1 v1.2.2.1.2.2.1.2.2.2.1 v1.2.2.1))
def OV(k:ue)(U:Int)(aa:Int)(ae:aO.D):Option (Int×aO.D×Unit):=cond (decide (aa<0)) (some (22,ae,())) (cond (ae.2.2.1.1 != 7) (cond (bx ae.2.2.1.2.2.2.2.2.1 []) (some (0,ae,())) (k.dt U aa ae)) (k.dt U aa ae))
def OW(k:ue)(U:Int)(aa:Int)(ae:aO.D):Option (Int×aO.D×Unit):=cond (decide (aw (aa +(ae.2.2.1.2.2.2.2.2.1.length:Int))>64)) (some (27,ae,())) ((ix ae.1.2.1.length U).bind fun v1=>(GP ((I J ae.1.2.1 v1).2.2.2.2.2.1,aa,())).bind fun v2=>cond (ae.2.2.1.1 != 7) (cond (room (v2.1.length+ae.2.2.1.2.2.2.2.2.1.length)) ((ix ae.1.2.1.length U).bind fun v3=>cond (decide ((((I J ae.1.2.1 v3).2.2.2.2.2.1).length:Int) >((v2.1++ae.2.2.1.2.2.2.2.2.1).length:Int))) ((ix ae.1.2.1.length U).bind fun v4=>(dj (((I J ae.1.2.1 v4).2.2.2.2.2.1).length) ((v2.1++ae.2.2.1.2.2.2.2.2.1).length:Int) (((I J ae.1.2.1 v4).2.2.2.2.2.1).length:Int)).bind fun v5=>cond (room ((v2.1++ae.2.2.1.2.2.2.2.2.1).length +(part ((I J ae.1.2.1 v4).2.2.2.2.2.1) v5.1 (v5.2-v5.1)).length)) (k.hB U ((v2.1++ae.2.2.1.2.2.2.2.2.1)++(part ((I J ae.1.2.1 v4).2.2.2.2.2.1) v5.1 (v5.2-v5.1))) ae) (none)) (k.hB U (v2.1++ae.2.2.1.2.2.2.2.2.1) ae)) (none)) (k.hB U v2.1 ae))
def ai3(ae:aO.D)(v2:List J.D):Option (Int×aO.D×Unit):=(ot (((ae.1.1,v2,()),ae.2.1,ae.2.2.1,()),())).bind fun v3=>some (v3.1,((ae.1.1,v2,()),ae.2.1,ae.2.2.1,()),())
def OX(k:ue)(U:Int)(aa:aj)(ae:aO.D):Option (Int×aO.D×Unit):=(ix ae.1.2.1.length U).bind fun v1=>ai3 ae (ae.1.2.1.set v1 ((I J ae.1.2.1 v1).1,(I J ae.1.2.1 v1).2.1,(I J ae.1.2.1 v1).2.2.1,(I J ae.1.2.1 v1).2.2.2.1,(I J ae.1.2.1 v1).2.2.2.2.1,aa,(I J ae.1.2.1 v1).2.2.2.2.2.2.1,(I J ae.1.2.1 v1).2.2.2.2.2.2.2.1,(I J ae.1.2.1 v1).2.2.2.2.2.2.2.2.1,()))
def XY(k:ue):ue:=⟨OV k,OW k,OX k⟩
def gR:Nat→ue:=eE XY ⟨fun _ _ _=>none,fun _ _ _=>none,fun _ _ _=>none⟩
def GR(x:aO.D×Unit):Option (Int×aO.D×Unit):=GQ (gR aK) x.1
abbrev XZ:Type:=an.D×aO.D×Unit
def OY(a1:aO.D):Option (XZ):=(nv (a1,false,())).bind fun v1=>cond (v1.2.1 != 0) ((eK (v1.2.1,())).bind fun v2=>some (v2.1,v1.2.2.1,())) ((ix v1.2.2.1.1.2.1.length v1.1).bind fun v3=>cond ((I J v1.2.2.1.1.2.1 v3).2.1 != 3) ((eK (22,())).bind fun v4=>some (v4.1,v1.2.2.1,())) ((ix v1.2.2.1.1.2.1.length v1.1).bind fun v5=>some ((0,(I J v1.2.2.1.1.2.1 v5).2.2.2.2.2.1,()),v1.2.2.1,())))
def GS(x:aO.D×Unit):Option (XZ):=OY x.1
def strings_Join(x:(List (aj))×(aj)×Unit):Option ((aj)×Unit):=joinF x.1 x.2.1
abbrev GU:Type:=(List Int)→Int→Int→(List (aj))→Option ((aj)×Unit)
def X0(k3:GU)(a1:List Int):Option ((aj)×Unit):=k3 a1 (a1.length:Int) 0 ([]:List (aj))
def GV(k3:GU)(U:List Int)(aa:Int)(ae:Int)(ai:List (aj)):Option ((aj)×Unit):=cond (decide (ae<aa)) ((ix U.length ae).bind fun v1=>(wC (I (ad.int .i64) U v1,())).bind fun v2=>cond (room (ai.length+[v2.1].length)) (k3 U aa (aw (ae+1)) (ai++[v2.1])) (none)) ((strings_Join (ai,([32]:aj),())).bind fun v3=>some (v3.1,()))
def wM:Nat→GU|0,_,_,_,_=>none|m+1,U,aa,ae,ai=>GV (wM m) U aa ae ai
def rY(x:(List Int)×Unit):Option ((aj)×Unit):=X0 (wM aK) x.1
abbrev BO:Type:=an.D×aO.D×Unit
abbrev GW:Type:=(List aC.D)→Int→Int→an.D→(List (aj))→aO.D→Option (BO)
def GX(wN:GW)(a1:aO.D):Option (BO):=(nv (a1,true,())).bind fun v1=>cond (v1.2.1 != 0) ((eK (v1.2.1,())).bind fun v2=>some (v2.1,v1.2.2.1,())) ((ix v1.2.2.1.1.2.1.length v1.1).bind fun v3=>cond ((I J v1.2.2.1.1.2.1 v3).2.1 != 2) ((eK (20,())).bind fun v4=>some (v4.1,v1.2.2.1,())) ((ix v1.2.2.1.1.2.1.length v1.1).bind fun v5=>(qy (v1.2.2.1.2.1,I J v1.2.2.1.1.2.1 v5,4,())).bind fun v6=>cond (!v6.1) ((eK (13,())).bind fun br=>some (br.1,v1.2.2.1,())) (cond (v1.2.2.1.2.2.1.1==20) ((ix v1.2.2.1.1.2.1.length v1.1).bind fun cj=>(BE (v1.2.2.1.1,(I J v1.2.2.1.1.2.1 cj).1,())).bind fun v9=>(ix v1.2.2.1.1.2.1.length v1.1).bind fun v10=>(ix v1.2.2.1.1.2.1.length v1.1).bind fun v11=>(rY ([(I J v1.2.2.1.1.2.1 v10).2.2.2.2.2.2.2.1,(I J v1.2.2.1.1.2.1 v11).2.2.2.2.2.2.2.2.1,v9.1,v9.2.1],())).bind fun v12=>some ((0,v12.1,()),v1.2.2.1,())) ((ix v1.2.2.1.1.2.1.length v1.1).bind fun hy=>wN ((I J v1.2.2.1.1.2.1 hy).2.2.2.2.2.2.1) (((I J v1.2.2.1.1.2.1 hy).2.2.2.2.2.2.1).length:Int) 0 (0,[],()) ([]:List (aj)) v1.2.2.1))))
def GY(wN:GW)(U:List aC.D)(aa:Int)(ae:Int)(ai:an.D)(aq:List (aj))(ay:aO.D):Option (BO):=cond (decide (ae<aa)) ((ix U.length ae).bind fun v1=>cond (room (aq.length+[(I aC U v1).1].length)) (wN U aa (aw (ae+1)) ai (aq++[(I aC U v1).1]) ay) (none)) ((strings_Join (aq,([47]:aj),())).bind fun v2=>some ((0,v2.1,()),ay,()))
def rZ:Nat→GW|0,_,_,_,_,_,_=>none|m+1,U,aa,ae,ai,aq,ay=>GY (rZ m) U aa ae ai aq ay
def BP(x:aO.D×Unit):Option (BO):=GX (rZ aK) x.1
abbrev GZ:Type:=ag.D→Int→(List aC.D)→Int→Int→Option (Int×Unit)
def G0(bs:GZ)(a1:ag.D)(a2:J.D):Option (Int×Unit):=cond (a2.2.1 != 2) ((BD (a1,a2.1,())).bind fun v1=>some (v1.1,())) (bs a1 2 a2.2.2.2.2.2.2.1 (a2.2.2.2.2.2.2.1.length:Int) 0)
def G4(bs:GZ)(U:ag.D)(aa:Int)(ae:List aC.D)(ai:Int)(aq:Int):Option (Int×Unit):=cond (decide (aq<ai)) ((ix ae.length aq).bind fun v1=>(BL (U,(I aC ae v1).2.1,())).bind fun v2=>cond v2.1 (bs U (aw (aa+1)) ae ai (aw (aq+1))) (bs U aa ae ai (aw (aq+1)))) (some (aa,()))
def uf:Nat→GZ|0,_,_,_,_,_=>none|m+1,U,aa,ae,ai,aq=>G4 (uf m) U aa ae ai aq
def OZ(x:ag.D×J.D×Unit):Option (Int×Unit):=G0 (uf aK) x.1 x.2.1
abbrev X1:Type:=an.D×aO.D×Unit
def O0(a1:aO.D):Option (X1):=(dO (a1.2.2.1.2.2.2.1,0,1,())).bind fun v1=>cond (!v1.1) ((eK (22,())).bind fun v2=>some (v2.1,a1,())) ((nv (a1,a1.2.2.1.2.2.2.1==0,())).bind fun v3=>cond (v3.2.1 != 0) ((eK (v3.2.1,())).bind fun v4=>some (v4.1,v3.2.2.1,())) ((ix v3.2.2.1.1.2.1.length v3.1).bind fun v5=>(ix v3.2.2.1.1.2.1.length v3.1).bind fun v6=>(ix v3.2.2.1.1.2.1.length v3.1).bind fun br=>(ix v3.2.2.1.1.2.1.length v3.1).bind fun cj=>(ix v3.2.2.1.1.2.1.length v3.1).bind fun v9=>(ix v3.2.2.1.1.2.1.length v3.1).bind fun v10=>(OZ (v3.2.2.1.1,I J v3.2.2.1.1.2.1 v9,())).bind fun v11=>(rY ([(I J v3.2.2.1.1.2.1 v5).2.1,(I J v3.2.2.1.1.2.1 v6).2.2.1,(I J v3.2.2.1.1.2.1 br).2.2.2.1,(I J v3.2.2.1.1.2.1 cj).2.2.2.2.1,v11.1,(((I J v3.2.2.1.1.2.1 v10).2.2.2.2.2.1).length:Int)],())).bind fun v12=>some ((0,v12.1,()),v3.2.2.1,())))
def BQ(x:aO.D×Unit):Option (X1):=O0 x.1
abbrev G5:Type:=Int→aO.D→Option (Int×aO.D×Unit)
def G6(cW:G5)(a1:aO.D):Option (Int×aO.D×Unit):=(dO (a1.2.2.1.2.2.2.1,0,2047,())).bind fun v1=>cond (!v1.1) (some (22,a1,())) ((nv (a1,true,())).bind fun v2=>cond (v2.2.1 != 0) (some (v2.2.1,v2.2.2.1,())) (cond (v2.2.2.1.2.1.1 != 0) ((ix v2.2.2.1.1.2.1.length v2.1).bind fun v3=>cond (v2.2.2.1.2.1.1 !=(I J v2.2.2.1.1.2.1 v3).2.2.2.1) (some (1,v2.2.2.1,())) (cW v2.1 v2.2.2.1)) (cW v2.1 v2.2.2.1)))
def X2(aa:aO.D)(br:List J.D):Option (Int×aO.D×Unit):=some (0,((aa.1.1,br,()),aa.2.1,aa.2.2.1,()),())
def O1(aa:aO.D)(U:Int)(v2:List J.D):Option (Int×aO.D×Unit):=cond (aa.2.1.1 != 0) ((ix v2.length U).bind fun v3=>(wF (aa.2.1,(I J v2 v3).2.2.2.2.1,())).bind fun v4=>cond (!v4.1) ((ix v2.length U).bind fun v5=>(ix v2.length U).bind fun v6=>X2 aa (v2.set v6 ((I J v2 v6).1,(I J v2 v6).2.1,cZ .andNot .i64 ((I J v2 v5).2.2.1) 1024,(I J v2 v6).2.2.2.1,(I J v2 v6).2.2.2.2.1,(I J v2 v6).2.2.2.2.2.1,(I J v2 v6).2.2.2.2.2.2.1,(I J v2 v6).2.2.2.2.2.2.2.1,(I J v2 v6).2.2.2.2.2.2.2.2.1,()))) (some (0,((aa.1.1,v2,()),aa.2.1,aa.2.2.1,()),()))) (some (0,((aa.1.1,v2,()),aa.2.1,aa.2.2.1,()),()))
def O2(cW:G5)(U:Int)(aa:aO.D):Option (Int×aO.D×Unit):=(ix aa.1.2.1.length U).bind fun v1=>O1 aa U (aa.1.2.1.set v1 ((I J aa.1.2.1 v1).1,(I J aa.1.2.1 v1).2.1,aa.2.2.1.2.2.2.1,(I J aa.1.2.1 v1).2.2.2.1,(I J aa.1.2.1 v1).2.2.2.2.1,(I J aa.1.2.1 v1).2.2.2.2.2.1,(I J aa.1.2.1 v1).2.2.2.2.2.2.1,(I J aa.1.2.1 v1).2.2.2.2.2.2.2.1,(I J aa.1.2.1 v1).2.2.2.2.2.2.2.2.1,()))
def r0:Nat→G5|0,_,_=>none|m+1,U,aa=>O2 (r0 m) U aa
def G7(x:aO.D×Unit):Option (Int×aO.D×Unit):=G6 (r0 aK) x.1
abbrev G8:Type:=Int→aO.D→Option (Int×aO.D×Unit)
def G9(cW:G8)(a1:aO.D):Option (Int×aO.D×Unit):=(dO (a1.2.2.1.2.2.2.1,0,1000,())).bind fun v1=>cond (!v1.1) (some (22,a1,())) ((dO (a1.2.2.1.2.2.2.2.1,0,1000,())).bind fun v2=>cond (!v2.1) (some (22,a1,())) ((nv (a1,true,())).bind fun v3=>cond (v3.2.1 != 0) (some (v3.2.1,v3.2.2.1,())) (cond (v3.2.2.1.2.1.1 != 0) ((ix v3.2.2.1.1.2.1.length v3.1).bind fun v4=>cond (v3.2.2.1.2.1.1 !=(I J v3.2.2.1.1.2.1 v4).2.2.2.1) (some (1,v3.2.2.1,())) ((ix v3.2.2.1.1.2.1.length v3.1).bind fun v5=>cond (v3.2.2.1.2.2.1.2.2.2.1 !=(I J v3.2.2.1.1.2.1 v5).2.2.2.1) (some (1,v3.2.2.1,())) ((wF (v3.2.2.1.2.1,v3.2.2.1.2.2.1.2.2.2.2.1,())).bind fun v6=>cond (!v6.1) (some (1,v3.2.2.1,())) (cW v3.1 v3.2.2.1)))) (cW v3.1 v3.2.2.1))))
def X3(aa:aO.D)(v4:List J.D):Option (Int×aO.D×Unit):=some (0,((aa.1.1,v4,()),aa.2.1,aa.2.2.1,()),())
def O3(U:Int)(aa:aO.D)(v2:List J.D):Option (Int×aO.D×Unit):=(ix v2.length U).bind fun v3=>X3 aa (v2.set v3 ((I J v2 v3).1,(I J v2 v3).2.1,(I J v2 v3).2.2.1,(I J v2 v3).2.2.2.1,aa.2.2.1.2.2.2.2.1,(I J v2 v3).2.2.2.2.2.1,(I J v2 v3).2.2.2.2.2.2.1,(I J v2 v3).2.2.2.2.2.2.2.1,(I J v2 v3).2.2.2.2.2.2.2.2.1,()))
def O4(cW:G8)(U:Int)(aa:aO.D):Option (Int×aO.D×Unit):=(ix aa.1.2.1.length U).bind fun v1=>O3 U aa (aa.1.2.1.set v1 ((I J aa.1.2.1 v1).1,(I J aa.1.2.1 v1).2.1,(I J aa.1.2.1 v1).2.2.1,aa.2.2.1.2.2.2.1,(I J aa.1.2.1 v1).2.2.2.2.1,(I J aa.1.2.1 v1).2.2.2.2.2.1,(I J aa.1.2.1 v1).2.2.2.2.2.2.1,(I J aa.1.2.1 v1).2.2.2.2.2.2.2.1,(I J aa.1.2.1 v1).2.2.2.2.2.2.2.2.1,()))
def r1:Nat→G8|0,_,_=>none|m+1,U,aa=>O4 (r1 m) U aa
def G_(x:aO.D×Unit):Option (Int×aO.D×Unit):=G9 (r1 aK) x.1
def O5(a1:aO.D):Option (Int×aO.D×Unit):=(dO (a1.2.2.1.2.2.2.1,0,7,())).bind fun v1=>cond (!v1.1) (some (22,a1,())) ((nv (a1,true,())).bind fun v2=>cond (v2.2.1 != 0) (some (v2.2.1,v2.2.2.1,())) ((ix v2.2.2.1.1.2.1.length v2.1).bind fun v3=>(qy (v2.2.2.1.2.1,I J v2.2.2.1.1.2.1 v3,v2.2.2.1.2.2.1.2.2.2.1,())).bind fun v4=>cond (!v4.1) (some (13,v2.2.2.1,())) (some (0,v2.2.2.1,()))))
def G'(x:aO.D×Unit):Option (Int×aO.D×Unit):=O5 x.1
def O6(v3:Int×Int×aO.D×Unit)(cj:List J.D):Option (Int×aO.D×Unit):=(ot (((v3.2.2.1.1.1,cj,()),v3.2.2.1.2.1,v3.2.2.1.2.2.1,()),())).bind fun v9=>some (v9.1,((v3.2.2.1.1.1,cj,()),v3.2.2.1.2.1,v3.2.2.1.2.2.1,()),())
def Ha(v3:Int×Int×aO.D×Unit)(v6:List J.D):Option (Int×aO.D×Unit):=(ix v6.length v3.1).bind fun br=>O6 v3 (v6.set br ((I J v6 br).1,(I J v6 br).2.1,(I J v6 br).2.2.1,(I J v6 br).2.2.2.1,(I J v6 br).2.2.2.2.1,(I J v6 br).2.2.2.2.2.1,(I J v6 br).2.2.2.2.2.2.1,(I J v6 br).2.2.2.2.2.2.2.1,v3.2.2.1.2.2.1.2.2.2.2.1,()))
def O7(a1:aO.D):Option (Int×aO.D×Unit):=(dO (a1.2.2.1.2.2.2.1,0,400,())).bind fun v1=>cond (!v1.1) (some (22,a1,())) ((dO (a1.2.2.1.2.2.2.2.1,0,24,())).bind fun v2=>cond (!v2.1) (some (22,a1,())) (cond (a1.2.1.1 != 0) (some (1,a1,())) ((nv (a1,true,())).bind fun v3=>cond (v3.2.1 != 0) (some (v3.2.1,v3.2.2.1,())) ((ix v3.2.2.1.1.2.1.length v3.1).bind fun v4=>cond ((I J v3.2.2.1.1.2.1 v4).2.1 != 2) (some (20,v3.2.2.1,())) ((ix v3.2.2.1.1.2.1.length v3.1).bind fun v5=>Ha v3 (v3.2.2.1.1.2.1.set v5 ((I J v3.2.2.1.1.2.1 v5).1,(I J v3.2.2.1.1.2.1 v5).2.1,(I J v3.2.2.1.1.2.1 v5).2.2.1,(I J v3.2.2.1.1.2.1 v5).2.2.2.1,(I J v3.2.2.1.1.2.1 v5).2.2.2.2.1,(I J v3.2.2.1.1.2.1 v5).2.2.2.2.2.1,(I J v3.2.2.1.1.2.1 v5).2.2.2.2.2.2.1,v3.2.2.1.2.2.1.2.2.2.1,(I J v3.2.2.1.1.2.1 v5).2.2.2.2.2.2.2.2.1,())))))))
def Hb(x:aO.D×Unit):Option (Int×aO.D×Unit):=O7 x.1
abbrev kR:Type:=an.D×aO.D×Unit
structure ou where
 bs:aO.D→an.D→Option (kR)
 dh:Int→aO.D→an.D→Option (kR)
 cW:aO.D→an.D→Option (kR)
 gd:Int→aO.D→an.D→Option (kR)
 hB:aO.D→an.D→Option (kR)
 kS:Int→aO.D→an.D→Option (kR)
 qA:Int→aO.D→an.D→Option (kR)
def Hc(k:ou)(a1:aO.D):Option (kR):=cond (a1.2.2.1.1==1) (cond (a1.2.2.1.1==1) (k.bs a1 (0,[],())) (k.dh a1.2.2.1.1 a1 (0,[],()))) (cond (a1.2.2.1.1==3) (cond (a1.2.2.1.1==3) (k.bs a1 (0,[],())) (k.dh a1.2.2.1.1 a1 (0,[],()))) (cond (a1.2.2.1.1==10) (k.bs a1 (0,[],())) (k.dh a1.2.2.1.1 a1 (0,[],()))))
def ai4(k:ou)(U:aO.D)(aa:an.D):Option (kR):=(BK (U,())).bind fun v1=>(eK (v1.1,())).bind fun v2=>some (v2.1,v1.2.1,())
def ai5(k:ou)(U:Int)(aa:aO.D)(ae:an.D):Option (kR):=cond (U==2) (cond (U==2) (k.cW aa ae) (k.gd U aa ae)) (cond (U==8) (k.cW aa ae) (k.gd U aa ae))
def ai6(k:ou)(U:aO.D)(aa:an.D):Option (kR):=(GJ (U,())).bind fun v1=>(eK (v1.1,())).bind fun v2=>some (v2.1,v1.2.1,())
def ai7(k:ou)(U:Int)(aa:aO.D)(ae:an.D):Option (kR):=cond (U==9) ((GK (aa,())).bind fun v1=>(eK (v1.1,())).bind fun v2=>some (v2.1,v1.2.1,())) (cond (U==12) ((GN (aa,())).bind fun v3=>(eK (v3.1,())).bind fun v4=>some (v4.1,v3.2.1,())) (cond (U==4) ((GO (aa,())).bind fun v5=>some (v5.1,v5.2.1,())) (cond (U==5) (cond (U==5) (k.hB aa ae) (k.kS U aa ae)) (cond (U==6) (cond (U==6) (k.hB aa ae) (k.kS U aa ae)) (cond (U==7) (k.hB aa ae) (k.kS U aa ae))))))
def ai8(k:ou)(U:aO.D)(aa:an.D):Option (kR):=(GR (U,())).bind fun v1=>(eK (v1.1,())).bind fun v2=>some (v2.1,v1.2.1,())
def ai9(k:ou)(U:Int)(aa:aO.D)(ae:an.D):Option (kR):=cond (U==11) ((GS (aa,())).bind fun v1=>some (v1.1,v1.2.1,())) (cond (U==13) (cond (U==13) ((BP (aa,())).bind fun v2=>some (v2.1,v2.2.1,())) (k.qA U aa ae)) (cond (U==20) ((BP (aa,())).bind fun v3=>some (v3.1,v3.2.1,())) (k.qA U aa ae)))
def ai_(k:ou)(U:Int)(aa:aO.D)(ae:an.D):Option (kR):=cond (U==14) ((BQ (aa,())).bind fun v1=>some (v1.1,v1.2.1,())) (cond (U==15) ((G7 (aa,())).bind fun v2=>(eK (v2.1,())).bind fun v3=>some (v3.1,v2.2.1,())) (cond (U==16) ((G_ (aa,())).bind fun v4=>(eK (v4.1,())).bind fun v5=>some (v5.1,v4.2.1,())) (cond (U==17) ((G' (aa,())).bind fun v6=>(eK (v6.1,())).bind fun br=>some (br.1,v6.2.1,())) (cond (U==18) ((wu (aa.1,())).bind fun cj=>(rY ([(aa.1.2.1.length:Int),cj.1],())).bind fun v9=>some ((0,v9.1,()),aa,())) ((Hb (aa,())).bind fun v10=>(eK (v10.1,())).bind fun v11=>some (v11.1,v10.2.1,()))))))
def X4(k:ou):ou:=⟨ai4 k,ai5 k,ai6 k,ai7 k,ai8 k,ai9 k,ai_ k⟩
def O8:Nat→ou:=eE X4 ⟨fun _ _=>none,fun _ _ _=>none,fun _ _=>none,fun _ _ _=>none,fun _ _=>none,fun _ _ _=>none,fun _ _ _=>none⟩
def Hd(x:aO.D×Unit):Option (kR):=Hc (O8 aK) x.1
abbrev X5:Type:=ag.D×an.D×Unit
def O9(a1:ag.D)(a2:aM.D)(a3:aL.D):Option (X5):=(zh (a2,())).bind fun v1=>cond (!v1.1) ((tX (a1,())).bind fun v2=>(eK (22,())).bind fun v3=>some (v2.1,v3.1,())) ((wA (a3,())).bind fun v4=>cond (!v4.1) ((tX (a1,())).bind fun v5=>(eK (22,())).bind fun v6=>some (v5.1,v6.1,())) (cond (decide (a3.1>20)) ((tX (a1,())).bind fun br=>(eK (22,())).bind fun cj=>some (br.1,cj.1,())) ((tX (a1,())).bind fun v9=>(Hd ((v9.1,a2,a3,()),())).bind fun v10=>cond (v10.1.1 != 0) ((tX (a1,())).bind fun v11=>some (v11.1,v10.1,())) (some (v10.2.1.1,v10.1,())))))
def BR(x:ag.D×aM.D×aL.D×Unit):Option (X5):=O9 x.1 x.2.1 x.2.2.1
abbrev r2:Type:=an.D×aS.D×Unit
structure ug where
 dd:aS.D→aL.D→an.D→aM.D→Option (r2)
 eL:aS.D→aL.D→an.D→aM.D→Option (r2)
 kS:aS.D→aL.D→an.D→aM.D→Option (r2)
def He(k:ug)(a1:aS.D)(a2:Int)(a3:aL.D):Option (r2):=(wA (a3,())).bind fun v1=>cond (!v1.1) ((eK (22,())).bind fun v2=>some (v2.1,a1,())) ((N8 (a1.2.1,a3.1,())).bind fun v3=>cond (!v3.2.1) ((eK (11,())).bind fun v4=>some (v4.1,a1,())) ((N_ (a2,())).bind fun v5=>cond (a3.1==21) (cond (v5.1.1 != 0) ((eK (1,())).bind fun v6=>some (v6.1,(a1.1,v3.1,a1.2.2.1,a1.2.2.2.1,()),())) (k.dd (a1.1,v3.1,a1.2.2.1,a1.2.2.2.1,()) a3 (0,[],()) v5.1)) (cond (a3.1==22) (cond (v5.1.1 != 0) ((eK (1,())).bind fun br=>some (br.1,(a1.1,v3.1,a1.2.2.1,a1.2.2.2.1,()),())) (k.dd (a1.1,v3.1,a1.2.2.1,a1.2.2.2.1,()) a3 (0,[],()) v5.1)) (k.dd (a1.1,v3.1,a1.2.2.1,a1.2.2.2.1,()) a3 (0,[],()) v5.1))))
def zl(k:ug)(U:aS.D)(aa:aL.D)(ae:an.D)(ai:aM.D):Option (r2):=cond (aa.1==21) (cond (decide (aa.2.2.2.1<0)) ((eK (22,())).bind fun v1=>some (v1.1,U,())) (k.eL U aa ae ai)) (k.eL U aa ae ai)
def zm(k:ug)(U:aS.D)(aa:aL.D)(ae:an.D)(ai:aM.D):Option (r2):=cond (aa.1==21) ((Ob (U.2.2.1,aa.2.2.2.1,())).bind fun v1=>some ((0,v1.1,()),U,())) (cond (aa.1==22) (some ((0,[],()),(U.1,U.2.1,[],U.2.2.2.1,()),())) ((BF (aa.1,())).bind fun v2=>cond (!v2.1) (cond ((U.2.2.1.length:Int)==20) ((eK (28,())).bind fun v3=>some (v3.1,U,())) (k.kS U aa ae ai)) (k.kS U aa ae ai)))
def O_(k:ug)(U:aS.D)(aa:aL.D)(ae:an.D)(ai:aM.D):Option (r2):=both ((BR (U.1,ai,aa,())).bind fun v1=>dup (some (v1.2.1,(v1.1,U.2.1,U.2.2.1,U.2.2.2.1,()),()))) (dup (dup ((BR (U.1,ai,aa,())).bind fun v1=>some (v1.2.1,(v1.1,U.2.1,U.2.2.1,U.2.2.2.1,()),()))))
def X6(k:ug):ug:=⟨zl k,zm k,O_ k⟩
def mE:Nat→ug:=eE X6 ⟨fun _ _ _ _=>none,fun _ _ _ _=>none,fun _ _ _ _=>none⟩
def Hf(x:aS.D×Int×aL.D×Unit):Option (r2):=He (mE aK) x.1 x.2.1 x.2.2.1
abbrev nw:Type:=an.D×Bool×aS.D×Unit
structure r3 where
 dd:Int→Int→Int→Bool→aS.D→aL.D→an.D→an.D→Option (nw)
 dt:Int→Int→Int→aS.D→aL.D→an.D→an.D→Option (nw)
 eL:Int→Int→Int→aS.D→an.D→an.D→Option (nw)
def Hg(k:r3)(a1:aS.D)(a2:Int)(a3:Int)(a4:aL.D)(a5:Int):Option (nw):=(dO (a2,1,3,())).bind fun v1=>cond (!v1.1) (some ((0,[],()),false,a1,())) ((dO (a3,1,1000000,())).bind fun v2=>cond (!v2.1) (some ((0,[],()),false,a1,())) ((dO (a5,1,100000,())).bind fun v3=>cond (!v3.1) (some ((0,[],()),false,a1,())) ((N1 (a1,a5,())).bind fun v4=>cond v4.1 (some ((0,[],()),false,a1,())) ((N3 (a1,a2,())).bind fun v5=>cond (a3==v5.1.2.1) (some (v5.1.2.2.2.1,false,a1,())) (cond (a3 != aw (v5.1.2.1+1)) (some ((0,[],()),false,a1,())) ((Hf (a1,a2,a4,())).bind fun v6=>cond (a4.1==22) (k.dd a2 a3 a5 (v6.1.1==0) v6.2.1 a4 (0,[],()) v6.1) (k.dd a2 a3 a5 false v6.2.1 a4 (0,[],()) v6.1)))))))
def O'(k:r3)(U:Int)(aa:Int)(ae:Int)(ai:Bool)(aq:aS.D)(ay:aL.D)(aW:an.D)(bq:an.D):Option (nw):=cond (decide ((aq.2.2.1.length:Int)<20)) ((wA (ay,())).bind fun v1=>cond v1.1 ((BF (ay.1,())).bind fun v2=>cond (!v2.1) (cond (!ai) (k.dt U aa ae aq ay aW bq) (k.eL U aa ae aq aW bq)) (cond (bq.1 != 0) (cond (!ai) (k.dt U aa ae aq ay aW bq) (k.eL U aa ae aq aW bq)) (k.eL U aa ae aq aW bq))) (k.eL U aa ae aq aW bq)) (k.eL U aa ae aq aW bq)
def ai'(k:r3)(U:Int)(aa:Int)(ae:Int)(ai:aS.D)(ay:an.D)(aW:an.D)(v1:List aJ.D):Option (nw):=k.eL U aa ae (ai.1,ai.2.1,v1,ai.2.2.2.1,()) ay aW
def Pb(k:r3)(U:Int)(aa:Int)(ae:Int)(ai:aS.D)(aq:aL.D)(ay:an.D)(aW:an.D):Option (nw):=cond (room (ai.2.2.1.length+[(ae,U,aa,aq.1,aW.1,())].length)) (ai' k U aa ae ai ay aW (ai.2.2.1++[(ae,U,aa,aq.1,aW.1,())])) (none)
def aja(ay:an.D)(ai:aS.D)(v3:List aZ.D):Option (nw):=some (ay,true,(ai.1,ai.2.1,ai.2.2.1,v3,()),())
def ajb(ay:an.D)(ai:aS.D)(br:List aZ.D):Option (nw):=some (ay,true,(ai.1,ai.2.1,ai.2.2.1,br,()),())
def X7(ai:aS.D)(v4:Nat×Nat)(ay:an.D)(v6:List aZ.D):Option (nw):=cond (room ((part ai.2.2.2.1 (0+v4.1) (v4.2-v4.1)).length+v6.length)) (ajb ay ai ((part ai.2.2.2.1 (0+v4.1) (v4.2-v4.1))++v6)) (none)
def Pc(k:r3)(U:Int)(aa:Int)(ae:Int)(ai:aS.D)(aq:an.D)(ay:an.D):Option (nw):=(F9 (ai,U,())).bind fun v1=>cond v1.2.1 ((ix ai.2.2.2.1.length v1.1).bind fun v2=>aja ay ai (ai.2.2.2.1.set (0+v2) (U,aa,ae,ay,()))) (cond (decide (v1.1=v1.1)) ((dj ai.2.2.2.1.length 0 v1.1).bind fun v4=>(dj ai.2.2.2.1.length v1.1 (ai.2.2.2.1.length:Int)).bind fun v5=>cond (room ([(U,aa,ae,ay,())].length +(part ai.2.2.2.1 (0+v5.1) (v5.2-v5.1)).length)) (X7 ai v4 ay ([(U,aa,ae,ay,())]++(part ai.2.2.2.1 (0+v5.1) (v5.2-v5.1)))) (none)) (none))
def X8(k:r3):r3:=⟨O' k,Pb k,Pc k⟩
def r4:Nat→r3:=eE X8 ⟨fun _ _ _ _ _ _ _ _=>none,fun _ _ _ _ _ _ _=>none,fun _ _ _ _ _ _=>none⟩
def zn(x:aS.D×Int×Int×aL.D×Int×Unit):Option (nw):=Hg (r4 aK) x.1 x.2.1 x.2.2.1 x.2.2.2.1 x.2.2.2.2.1
def Pd(a1:Int)(a2:Int)(a3:Int):Option (Bool×Unit):=cond (decide (a1≥a2)) (some (decide (a1≤a3),())) (some (false,()))
def dF(x:Int×Int×Int×Unit):Option (Bool×Unit):=Pd x.1 x.2.1 x.2.2.1
def Pe(a1:Int):Option (Bool×Unit):=cond (decide (a1≥97)) (cond (decide (a1≤122)) (some (true,())) (cond (decide (a1≥48)) (cond (decide (a1≤57)) (some (true,())) (cond (a1==46) (some (true,())) (cond (a1==95) (some (true,())) (some (a1==45,()))))) (cond (a1==46) (some (true,())) (cond (a1==95) (some (true,())) (some (a1==45,())))))) (cond (decide (a1≥48)) (cond (decide (a1≤57)) (some (true,())) (cond (a1==46) (some (true,())) (cond (a1==95) (some (true,())) (some (a1==45,()))))) (cond (a1==46) (some (true,())) (cond (a1==95) (some (true,())) (some (a1==45,())))))
def Hh(x:Int×Unit):Option (Bool×Unit):=Pe x.1
abbrev Hi:Type:=(aj)→Int→Option (Bool×Unit)
def Hj(bn:Hi)(a1:aj):Option (Bool×Unit):=(dF ((a1.length:Int),1,60,())).bind fun v1=>cond (!v1.1) (some (false,())) (bn a1 0)
def Hk(bn:Hi)(U:aj)(aa:Int):Option (Bool×Unit):=cond (decide (aa<(U.length:Int))) ((ix U.length aa).bind fun v1=>cond (((U.getD v1 0).toNat:Int) != 47) ((ix U.length aa).bind fun v2=>(Hh (((U.getD v2 0).toNat:Int),())).bind fun v3=>cond (!v3.1) (some (false,())) (bn U (aw (aa+1)))) (bn U (aw (aa+1)))) (some (true,()))
def wO:Nat→Hi|0,_,_=>none|m+1,U,aa=>Hk (wO m) U aa
def Hl(x:(aj)×Unit):Option (Bool×Unit):=Hj (wO aK) x.1
abbrev Hm:Type:=Int→Int→ag.D→Option (Int×Unit)
def Hn(k2:Hm)(a1:ag.D)(a2:Int):Option (Int×Unit):=k2 a2 0 a1
def Ho(k2:Hm)(U:Int)(aa:Int)(ae:ag.D):Option (Int×Unit):=cond (decide (aa<(ae.2.1.length:Int))) ((ix ae.2.1.length aa).bind fun v1=>cond ((I J ae.2.1 v1).1==U) (some (aa,())) (k2 U (aw (aa+1)) ae)) (some ((-1),()))
def wP:Nat→Hm|0,_,_,_=>none|m+1,U,aa,ae=>Ho (wP m) U aa ae
def nx(x:ag.D×Int×Unit):Option (Int×Unit):=Hn (wP aK) x.1 x.2.1
structure r5 where
 cW:Int→ag.D→(List Bool)→(List Bool)→Option ((List Bool)×Unit)
 dt:Int→Int→ag.D→(List Bool)→(List Bool)→Option ((List Bool)×Unit)
 Hp:Int→Int→Int→ag.D→(List Bool)→(List Bool)→Option ((List Bool)×Unit)
def ajc(k:r5)(a1:ag.D)(v3:List Bool):Option ((List Bool)×Unit):=k.cW 0 a1 (List.replicate (Int.toNat (a1.2.1.length:Int)) (false:Bool)) v3
def Hq(k:r5)(a1:ag.D)(a2:Int):Option ((List Bool)×Unit):=cond (decide (0≤(a1.2.1.length:Int))&&decide ((a1.2.1.length:Int)=(a1.2.1.length:Int))&&room (Int.toNat (a1.2.1.length:Int))) (cond (decide (0≤(a1.2.1.length:Int))&&decide ((a1.2.1.length:Int)=(a1.2.1.length:Int))&&room (Int.toNat (a1.2.1.length:Int))) ((nx (a1,a2,())).bind fun v1=>cond (decide (v1.1<0)) (some (List.replicate (Int.toNat (a1.2.1.length:Int)) (false:Bool),())) ((ix ((List.replicate (Int.toNat (a1.2.1.length:Int)) (false:Bool)).length) v1.1).bind fun v2=>ajc k a1 ((List.replicate (Int.toNat (a1.2.1.length:Int)) (false:Bool)).set (0+v2) true))) (none)) (none)
def BS(k:r5)(U:Int)(aa:ag.D)(ae:List Bool)(ai:List Bool):Option ((List Bool)×Unit):=cond (decide (U<(aa.2.1.length:Int))) (k.dt U 0 aa ae ai) (some (ae,()))
def wQ(k:r5)(U:Int)(aa:Int)(ae:ag.D)(ai:List Bool)(aq:List Bool):Option ((List Bool)×Unit):=cond (decide (aa<(ae.2.1.length:Int))) ((ix aq.length aa).bind fun v1=>cond (!(I ad.bool aq (0+v1))) (k.dt U (aw (aa+1)) ae ai aq) (k.Hp U aa 0 ae ai aq)) (k.cW (aw (U+1)) ae ai aq)
def BT(k:r5)(U:Int)(aa:Int)(ae:Int)(ai:ag.D)(aq:List Bool)(ay:List Bool):Option ((List Bool)×Unit):=(ix ai.2.1.length aa).bind fun v1=>cond (decide (ae<(((I J ai.2.1 v1).2.2.2.2.2.2.1).length:Int))) ((ix ai.2.1.length aa).bind fun v2=>(ix (((I J ai.2.1 v2).2.2.2.2.2.2.1).length) ae).bind fun v3=>(nx (ai,(I aC ((I J ai.2.1 v2).2.2.2.2.2.2.1) v3).2.1,())).bind fun v4=>cond (decide (v4.1≥0)) ((ix aq.length v4.1).bind fun v5=>(ix ay.length v4.1).bind fun v6=>k.Hp U aa (aw (ae+1)) ai (aq.set (0+v5) true) (ay.set (0+v6) true)) (k.Hp U aa (aw (ae+1)) ai aq ay)) (k.dt U (aw (aa+1)) ai aq ay)
def X9(k:r5):r5:=⟨BS k,wQ k,BT k⟩
def kT:Nat→r5:=eE X9 ⟨fun _ _ _ _=>none,fun _ _ _ _ _=>none,fun _ _ _ _ _ _=>none⟩
def Pf(x:ag.D×Int×Unit):Option ((List Bool)×Unit):=Hq (kT aK) x.1 x.2.1
structure wR where
 k3:Int→Int→Int→ag.D→Option (Int×Unit)
 dh:Int→Int→Int→Int→ag.D→Option (Int×Unit)
def Hr(k:wR)(a1:ag.D)(a2:Int):Option (Int×Unit):=k.k3 a2 0 0 a1
def BU(k:wR)(U:Int)(aa:Int)(ae:Int)(ai:ag.D):Option (Int×Unit):=cond (decide (ae<(ai.2.1.length:Int))) (k.dh U aa ae 0 ai) (some (aa,()))
def BV(k:wR)(U:Int)(aa:Int)(ae:Int)(ai:Int)(aq:ag.D):Option (Int×Unit):=(ix aq.2.1.length ae).bind fun v1=>cond (decide (ai<(((I J aq.2.1 v1).2.2.2.2.2.2.1).length:Int))) ((ix aq.2.1.length ae).bind fun v2=>(ix (((I J aq.2.1 v2).2.2.2.2.2.2.1).length) ai).bind fun v3=>cond ((I aC ((I J aq.2.1 v2).2.2.2.2.2.2.1) v3).2.1==U) (k.dh U (aw (aa+1)) ae (aw (ai+1)) aq) (k.dh U aa ae (aw (ai+1)) aq)) (k.k3 U aa (aw (ae+1)) aq)
def X_(k:wR):wR:=⟨BU k,BV k⟩
def qB:Nat→wR:=eE X_ ⟨fun _ _ _ _=>none,fun _ _ _ _ _=>none⟩
def Hs(x:ag.D×Int×Unit):Option (Int×Unit):=Hr (qB aK) x.1 x.2.1
abbrev Ht:Type:=Int→Int→ag.D→Option (Int×Unit)
def Hu(k3:Ht)(a1:ag.D):Option (Int×Unit):=k3 0 0 a1
def Hv(k3:Ht)(U:Int)(aa:Int)(ae:ag.D):Option (Int×Unit):=cond (decide (aa<(ae.2.1.length:Int))) ((ix ae.2.1.length aa).bind fun v1=>k3 (aw (U +(((I J ae.2.1 v1).2.2.2.2.2.1).length:Int))) (aw (aa+1)) ae) (some (U,()))
def wS:Nat→Ht|0,_,_,_=>none|m+1,U,aa,ae=>Hv (wS m) U aa ae
def Hw(x:ag.D×Unit):Option (Int×Unit):=Hu (wS aK) x.1
abbrev Hy:Type:=Int→Int→Int→ag.D→(List Bool)→Option (Int×Int×Unit)
def Hz(bs:Hy)(a1:ag.D)(a2:Int):Option (Int×Int×Unit):=(Pf (a1,a2,())).bind fun v1=>bs 0 0 0 a1 v1.1
def HA(bs:Hy)(U:Int)(aa:Int)(ae:Int)(ai:ag.D)(aq:List Bool):Option (Int×Int×Unit):=cond (decide (ae<(aq.length:Int))) ((ix aq.length ae).bind fun v1=>cond (I ad.bool aq (0+v1)) ((ix ai.2.1.length ae).bind fun v2=>bs (aw (U +(((I J ai.2.1 v2).2.2.2.2.2.1).length:Int))) (aw (aa+1)) (aw (ae+1)) ai aq) (bs U aa (aw (ae+1)) ai aq)) (some (U,aa,()))
def wT:Nat→Hy|0,_,_,_,_,_=>none|m+1,U,aa,ae,ai,aq=>HA (wT m) U aa ae ai aq
def BW(x:ag.D×Int×Unit):Option (Int×Int×Unit):=Hz (wT aK) x.1 x.2.1
structure wU where
 k2:Int→ag.D→Option (Bool×Unit)
 dh:Int→ag.D→J.D→Option (Bool×Unit)
def HB(k:wU)(a1:ag.D):Option (Bool×Unit):=k.k2 0 a1
def BX(k:wU)(U:Int)(aa:ag.D):Option (Bool×Unit):=cond (decide (U<(aa.2.1.length:Int))) ((ix aa.2.1.length U).bind fun v1=>cond ((I J aa.2.1 v1).2.1 != 2) (k.k2 (aw (U+1)) aa) (cond ((I J aa.2.1 v1).2.2.2.2.2.2.2.1==0) (cond ((I J aa.2.1 v1).2.2.2.2.2.2.2.2.1==0) (k.k2 (aw (U+1)) aa) (k.dh U aa (I J aa.2.1 v1))) (k.dh U aa (I J aa.2.1 v1)))) (some (false,()))
def Pg(k:wU)(U:Int)(aa:ag.D)(ae:J.D):Option (Bool×Unit):=(BW (aa,ae.1,())).bind fun v1=>cond (decide (ae.2.2.2.2.2.2.2.1>0)) (cond (decide (v1.1>ae.2.2.2.2.2.2.2.1)) (some (true,())) (cond (decide (ae.2.2.2.2.2.2.2.2.1>0)) (cond (decide (v1.2.1>ae.2.2.2.2.2.2.2.2.1)) (some (true,())) (k.k2 (aw (U+1)) aa)) (k.k2 (aw (U+1)) aa))) (cond (decide (ae.2.2.2.2.2.2.2.2.1>0)) (cond (decide (v1.2.1>ae.2.2.2.2.2.2.2.2.1)) (some (true,())) (k.k2 (aw (U+1)) aa)) (k.k2 (aw (U+1)) aa))
def X'(k:wU):wU:=⟨BX k,Pg k⟩
def kU:Nat→wU:=eE X' ⟨fun _ _=>none,fun _ _ _=>none⟩
def Ph(x:ag.D×Unit):Option (Bool×Unit):=HB (kU aK) x.1
abbrev HC:Type:=(List aJ.D)→Int→Option (Bool×Unit)
def HD(bn:HC)(a1:List aJ.D):Option (Bool×Unit):=cond (decide ((a1.length:Int)>20)) (some (false,())) (bn a1 0)
def HE(bn:HC)(U:List aJ.D)(aa:Int):Option (Bool×Unit):=cond (decide (aa<(U.length:Int))) ((ix U.length aa).bind fun v1=>(dF ((I aJ U v1).1,1,100000,())).bind fun v2=>cond (!v2.1) (some (false,())) (cond (decide (aa>0)) ((ix U.length (aw (aa-1))).bind fun v3=>cond (decide ((I aJ U v3).1 >(I aJ U v1).1)) (some (false,())) ((dF ((I aJ U v1).2.1,1,3,())).bind fun v4=>cond (!v4.1) (some (false,())) ((dF ((I aJ U v1).2.2.1,1,1000000,())).bind fun v5=>cond (!v5.1) (some (false,())) ((dF ((I aJ U v1).2.2.2.1,1,22,())).bind fun v6=>cond (!v6.1) (some (false,())) ((dF ((I aJ U v1).2.2.2.2.1,0,200,())).bind fun br=>cond (!br.1) (some (false,())) (bn U (aw (aa+1)))))))) ((dF ((I aJ U v1).2.1,1,3,())).bind fun cj=>cond (!cj.1) (some (false,())) ((dF ((I aJ U v1).2.2.1,1,1000000,())).bind fun v9=>cond (!v9.1) (some (false,())) ((dF ((I aJ U v1).2.2.2.1,1,22,())).bind fun v10=>cond (!v10.1) (some (false,())) ((dF ((I aJ U v1).2.2.2.2.1,0,200,())).bind fun v11=>cond (!v11.1) (some (false,())) (bn U (aw (aa+1))))))))) (some (true,()))
def wV:Nat→HC|0,_,_=>none|m+1,U,aa=>HE (wV m) U aa
def Pj(x:(List aJ.D)×Unit):Option (Bool×Unit):=HD (wV aK) x.1
abbrev HF:Type:=Int→Int→aS.D→Option (Int×Bool×Unit)
def Ya(k2:HF)(a1:aS.D)(a2:Int):Option (Int×Bool×Unit):=k2 a2 0 a1
def zo(k2:HF)(U:Int)(aa:Int)(ae:aS.D):Option (Int×Bool×Unit):=cond (decide (aa<(ae.2.2.2.1.length:Int))) ((ix ae.2.2.2.1.length aa).bind fun v1=>cond (decide ((I aZ ae.2.2.2.1 v1).1≥U)) ((ix ae.2.2.2.1.length aa).bind fun v2=>some (aa,(I aZ ae.2.2.2.1 v2).1==U,())) (k2 U (aw (aa+1)) ae)) (some ((ae.2.2.2.1.length:Int),false,()))
def zp:Nat→HF|0,_,_,_=>none|m+1,U,aa,ae=>zo (zp m) U aa ae
def HG(x:aS.D×Int×Unit):Option (Int×Bool×Unit):=Ya (zp aK) x.1 x.2.1
def Pk(a1:aS.D)(a2:Int):Option (aZ.D×Unit):=(HG (a1,a2,())).bind fun v1=>cond (!v1.2.1) (some ((0,0,0,(0,[],()),()),())) ((ix a1.2.2.2.1.length v1.1).bind fun v2=>some (I aZ a1.2.2.2.1 v2,()))
def Pl(x:aS.D×Int×Unit):Option (aZ.D×Unit):=Pk x.1 x.2.1
structure wW where
 k3:Int→Int→aS.D→Option (Int×Unit)
 cW:Int→Int→aS.D→Option (Int×Unit)
def Yb(k:wW)(a1:aS.D):Option (Int×Unit):=k.k3 0 0 a1
def HH(k:wW)(U:Int)(aa:Int)(ae:aS.D):Option (Int×Unit):=cond (decide (aa<(ae.2.2.1.length:Int))) ((ix ae.2.2.1.length aa).bind fun v1=>cond (decide ((I aJ ae.2.2.1 v1).1>U)) ((ix ae.2.2.1.length aa).bind fun v2=>k.k3 ((I aJ ae.2.2.1 v2).1) (aw (aa+1)) ae) (k.k3 U (aw (aa+1)) ae)) (k.cW U 0 ae)
def HI(k:wW)(U:Int)(aa:Int)(ae:aS.D):Option (Int×Unit):=cond (decide (aa<(ae.2.2.2.1.length:Int))) ((ix ae.2.2.2.1.length aa).bind fun v1=>cond (decide ((I aZ ae.2.2.2.1 v1).2.2.1>U)) ((ix ae.2.2.2.1.length aa).bind fun v2=>k.cW ((I aZ ae.2.2.2.1 v2).2.2.1) (aw (aa+1)) ae) (k.cW U (aw (aa+1)) ae)) (some (U,()))
def Yc(k:wW):wW:=⟨HH k,HI k⟩
def ov:Nat→wW:=eE Yc ⟨fun _ _ _=>none,fun _ _ _=>none⟩
def Pm(x:aS.D×Unit):Option (Int×Unit):=Yb (ov aK) x.1
abbrev HJ:Type:=aL.D→Option (Bool×Unit)
def HK(bs:HJ)(a1:aL.D):Option (Bool×Unit):=(dF (a1.1,1,22,())).bind fun v1=>cond (!v1.1) (some (false,())) (cond (decide ((a1.2.1.length:Int)>60)) (some (false,())) (cond (decide ((a1.2.2.1.length:Int)>60)) (some (false,())) (cond (decide ((a1.2.2.2.2.2.1.length:Int)>64)) (some (false,())) ((dF (a1.2.2.2.1,(-1000000),1000000,())).bind fun v2=>cond (!v2.1) (some (false,())) ((dF (a1.2.2.2.2.1,(-1000000),1000000,())).bind fun v3=>cond (!v3.1) (some (false,())) (cond (!(bx a1.2.2.1 [])) (cond (a1.1 != 9) (cond (a1.1 != 10) (cond (a1.1 != 12) (some (false,())) (bs a1)) (bs a1)) (bs a1)) (bs a1)))))))
def Pn(bs:HJ)(U:aL.D):Option (Bool×Unit):=cond (bx U.2.2.2.2.2.1 []) (some (true,())) (cond (U.1==5) (some (true,())) (some (U.1==6,())))
def BY:Nat→HJ|0,_=>none|m+1,U=>Pn (BY m) U
def wX(x:aL.D×Unit):Option (Bool×Unit):=HK (BY aK) x.1
def Po(a1:Int):Option (Bool×Unit):=cond (a1==4) (cond (a1==4) (some (true,())) (some (false,()))) (cond (a1==11) (cond (a1==11) (some (true,())) (some (false,()))) (cond (a1==13) (cond (a1==13) (some (true,())) (some (false,()))) (cond (a1==14) (cond (a1==14) (some (true,())) (some (false,()))) (cond (a1==17) (cond (a1==17) (some (true,())) (some (false,()))) (cond (a1==18) (cond (a1==18) (some (true,())) (some (false,()))) (cond (a1==20) (cond (a1==20) (some (true,())) (some (false,()))) (cond (a1==21) (some (true,())) (some (false,())))))))))
def BZ(x:Int×Unit):Option (Bool×Unit):=Po x.1
def Pp(a1:Int):Option (aM.D×Unit):=cond (a1==1) (some ((0,0,[],()),())) (cond (a1==2) (some ((2,2,[5],()),())) (cond (a1==3) (some ((3,2,[],()),())) (some ((1000,1000,[],()),()))))
def Pq(x:Int×Unit):Option (aM.D×Unit):=Pp x.1
def Pr(a1:Int):Option (Int×Unit):=(BZ (a1,())).bind fun v1=>cond v1.1 (some (1,())) ((dF (a1,1,22,())).bind fun v2=>cond v2.1 (some (3,())) (some (0,())))
def Ps(x:Int×Unit):Option (Int×Unit):=Pr x.1
def Pt(a1:Int)(a2:Int):Option (Int×Bool×Unit):=(Ps (a2,())).bind fun v1=>cond (v1.1==0) (some (a1,false,())) (cond (decide (v1.1>a1)) (some (a1,false,())) (some (aw (a1-v1.1),true,())))
def Pu(x:Int×Int×Unit):Option (Int×Bool×Unit):=Pt x.1 x.2.1
abbrev HL:Type:=Int→(aj)→Bool→Option ((aj)×Unit)
def HM(bs:HL)(a1:Int):Option ((aj)×Unit):=cond (a1==0) (some (([48]:aj),())) (bs a1 ([]:aj) (decide (a1<0)))
def B0(bs:HL)(U:Int)(aa:aj)(ae:Bool):Option ((aj)×Unit):=cond (U != 0) (cond (decide (Int.tmod U 10<0)) (cond (room ((eZ [IntKind.wrap .u8 (aw (48+aw (0-(Int.tmod U 10))))]).length+aa.length)) (bs (aw (Int.tdiv U 10)) ((eZ [IntKind.wrap .u8 (aw (48+aw (0-(Int.tmod U 10))))])++aa) ae) (none)) (cond (room ((eZ [IntKind.wrap .u8 (aw (48+Int.tmod U 10))]).length+aa.length)) (bs (aw (Int.tdiv U 10)) ((eZ [IntKind.wrap .u8 (aw (48+Int.tmod U 10))])++aa) ae) (none))) (cond ae (cond (room (([45]:aj).length+aa.length)) (some (([45]:aj)++aa,())) (none)) (some (aa,())))
def pC:Nat→HL|0,_,_,_=>none|m+1,U,aa,ae=>B0 (pC m) U aa ae
def ff(x:Int×Unit):Option ((aj)×Unit):=HM (pC aK) x.1
structure wY where
 bs:(List aJ.D)→Int→(aj)→Int→Option ((aj)×Unit)
 gd:(List aJ.D)→Int→(aj)→Int→Option ((aj)×Unit)
def HN(k:wY)(a1:List aJ.D)(a2:Int):Option ((aj)×Unit):=(Pj (a1,())).bind fun v1=>cond (!v1.1) (some ([],())) (cond (decide (a2<0)) (some ([],())) (k.bs a1 a2 ([]:aj) a2))
def HO(k:wY)(U:List aJ.D)(aa:Int)(ae:aj)(ai:Int):Option ((aj)×Unit):=cond (decide (ai<(U.length:Int))) (cond (decide (ai<aw (aa+6))) (cond (decide (ai>aa)) (cond (room (ae.length +([32]:aj).length)) (k.gd U aa (ae++([32]:aj)) ai) (none)) (k.gd U aa ae ai)) (some (ae,()))) (some (ae,()))
def Pv(k:wY)(U:List aJ.D)(aa:Int)(ae:aj)(ai:Int):Option ((aj)×Unit):=(ix U.length ai).bind fun v1=>(ix U.length ai).bind fun v2=>(ix U.length ai).bind fun v3=>(ix U.length ai).bind fun v4=>(ix U.length ai).bind fun v5=>(ff ((I aJ U v1).1,())).bind fun v6=>cond (room (ae.length+v6.1.length)) (cond (room ((ae++v6.1).length +([46]:aj).length)) ((ff ((I aJ U v2).2.1,())).bind fun br=>cond (room (((ae++v6.1)++([46]:aj)).length+br.1.length)) (cond (room ((((ae++v6.1)++([46]:aj))++br.1).length +([46]:aj).length)) ((ff ((I aJ U v3).2.2.1,())).bind fun cj=>cond (room (((((ae++v6.1)++([46]:aj))++br.1)++([46]:aj)).length+cj.1.length)) (cond (room ((((((ae++v6.1)++([46]:aj))++br.1)++([46]:aj))++cj.1).length +([46]:aj).length)) ((ff ((I aJ U v4).2.2.2.1,())).bind fun v9=>cond (room (((((((ae++v6.1)++([46]:aj))++br.1)++([46]:aj))++cj.1)++([46]:aj)).length+v9.1.length)) (cond (room ((((((((ae++v6.1)++([46]:aj))++br.1)++([46]:aj))++cj.1)++([46]:aj))++v9.1).length +([46]:aj).length)) ((ff ((I aJ U v5).2.2.2.2.1,())).bind fun v10=>cond (room (((((((((ae++v6.1)++([46]:aj))++br.1)++([46]:aj))++cj.1)++([46]:aj))++v9.1)++([46]:aj)).length+v10.1.length)) (k.bs U aa (((((((((ae++v6.1)++([46]:aj))++br.1)++([46]:aj))++cj.1)++([46]:aj))++v9.1)++([46]:aj))++v10.1) (aw (ai+1))) (none)) (none)) (none)) (none)) (none)) (none)) (none)) (none)) (none)
def Yd(k:wY):wY:=⟨HO k,Pv k⟩
def qC:Nat→wY:=eE Yd ⟨fun _ _ _ _=>none,fun _ _ _ _=>none⟩
def Pw(x:(List aJ.D)×Int×Unit):Option ((aj)×Unit):=HN (qC aK) x.1 x.2.1
abbrev zq:Type:=Int→ag.D→ag.D→ag.D→Option (ag.D×Unit)
def HP(k3:zq)(a1:ag.D):Option (ag.D×Unit):=k3 0 a1 (0,[],()) (a1.1,[],())
def Ye(k3:zq)(U:Int)(aa:ag.D)(ae:ag.D)(ai:ag.D)(v3:List J.D):Option (ag.D×Unit):=k3 (aw (U+1)) aa ae (ai.1,v3,())
def Yf(k3:zq)(ai:ag.D)(aa:ag.D)(v1:Nat)(U:Int)(ae:ag.D)(v2:List aC.D):Option (ag.D×Unit):=cond (room (ai.2.1.length+[((I J aa.2.1 v1).1,(I J aa.2.1 v1).2.1,(I J aa.2.1 v1).2.2.1,(I J aa.2.1 v1).2.2.2.1,(I J aa.2.1 v1).2.2.2.2.1,(I J aa.2.1 v1).2.2.2.2.2.1,v2,(I J aa.2.1 v1).2.2.2.2.2.2.2.1,(I J aa.2.1 v1).2.2.2.2.2.2.2.2.1,())].length)) (Ye k3 U aa ae ai (ai.2.1++[((I J aa.2.1 v1).1,(I J aa.2.1 v1).2.1,(I J aa.2.1 v1).2.2.1,(I J aa.2.1 v1).2.2.2.1,(I J aa.2.1 v1).2.2.2.2.1,(I J aa.2.1 v1).2.2.2.2.2.1,v2,(I J aa.2.1 v1).2.2.2.2.2.2.2.1,(I J aa.2.1 v1).2.2.2.2.2.2.2.2.1,())])) (none)
def HQ(k3:zq)(U:Int)(aa:ag.D)(ae:ag.D)(ai:ag.D):Option (ag.D×Unit):=cond (decide (U<(aa.2.1.length:Int))) ((ix aa.2.1.length U).bind fun v1=>cond (room (([]:List aC.D).length +((I J aa.2.1 v1).2.2.2.2.2.2.1).length)) (Yf k3 ai aa v1 U ae (([]:List aC.D)++((I J aa.2.1 v1).2.2.2.2.2.2.1))) (none)) (some (ai,()))
def wZ:Nat→zq|0,_,_,_,_=>none|m+1,U,aa,ae,ai=>HQ (wZ m) U aa ae ai
def uh(x:ag.D×Unit):Option (ag.D×Unit):=HP (wZ aK) x.1
abbrev B1:Type:=Int→ag.D→ag.D→ag.D→Option (ag.D×Unit)
def ajd(k3:B1)(a1:ag.D):Option (ag.D×Unit):=k3 0 a1 (0,[],()) (a1.1,[],())
def aje(k3:B1)(U:Int)(aa:ag.D)(ae:ag.D)(ai:ag.D)(v3:List J.D):Option (ag.D×Unit):=k3 (aw (U+1)) aa ae (ai.1,v3,())
def ajf(k3:B1)(ai:ag.D)(aa:ag.D)(v1:Nat)(U:Int)(ae:ag.D)(v2:List aC.D):Option (ag.D×Unit):=cond (room (ai.2.1.length+[((I J aa.2.1 v1).1,(I J aa.2.1 v1).2.1,(I J aa.2.1 v1).2.2.1,(I J aa.2.1 v1).2.2.2.1,(I J aa.2.1 v1).2.2.2.2.1,(I J aa.2.1 v1).2.2.2.2.2.1,v2,(I J aa.2.1 v1).2.2.2.2.2.2.2.1,(I J aa.2.1 v1).2.2.2.2.2.2.2.2.1,())].length)) (aje k3 U aa ae ai (ai.2.1++[((I J aa.2.1 v1).1,(I J aa.2.1 v1).2.1,(I J aa.2.1 v1).2.2.1,(I J aa.2.1 v1).2.2.2.1,(I J aa.2.1 v1).2.2.2.2.1,(I J aa.2.1 v1).2.2.2.2.2.1,v2,(I J aa.2.1 v1).2.2.2.2.2.2.2.1,(I J aa.2.1 v1).2.2.2.2.2.2.2.2.1,())])) (none)
def ajg(k3:B1)(U:Int)(aa:ag.D)(ae:ag.D)(ai:ag.D):Option (ag.D×Unit):=cond (decide (U<(aa.2.1.length:Int))) ((ix aa.2.1.length U).bind fun v1=>cond (room (([]:List aC.D).length +((I J aa.2.1 v1).2.2.2.2.2.2.1).length)) (ajf k3 ai aa v1 U ae (([]:List aC.D)++((I J aa.2.1 v1).2.2.2.2.2.2.1))) (none)) (some (ai,()))
def Yg:Nat→B1|0,_,_,_,_=>none|m+1,U,aa,ae,ai=>ajg (Yg m) U aa ae ai
def au4(x:ag.D×Unit):Option (ag.D×Unit):=ajd (Yg aK) x.1
abbrev HR:Type:=(aj)→Int→Option (Bool×Unit)
def HS(bn:HR)(a1:aj):Option (Bool×Unit):=(dF ((a1.length:Int),1,60,())).bind fun v1=>cond (!v1.1) (some (false,())) ((ix a1.length 0).bind fun v2=>cond (((a1.getD v2 0).toNat:Int) != 47) (some (false,())) (bn a1 0))
def HT(bn:HR)(U:aj)(aa:Int):Option (Bool×Unit):=cond (decide (aa<(U.length:Int))) ((ix U.length aa).bind fun v1=>cond (((U.getD v1 0).toNat:Int) != 47) ((ix U.length aa).bind fun v2=>(Hh (((U.getD v2 0).toNat:Int),())).bind fun v3=>cond (!v3.1) (some (false,())) (bn U (aw (aa+1)))) (bn U (aw (aa+1)))) (some (true,()))
def w1:Nat→HR|0,_,_=>none|m+1,U,aa=>HT (w1 m) U aa
def HU(x:(aj)×Unit):Option (Bool×Unit):=HS (w1 aK) x.1
abbrev HV:Type:=Int→aM.D→Option (Bool×Unit)
def HW(bn:HV)(a1:aM.D):Option (Bool×Unit):=(dF (a1.1,0,1000,())).bind fun v1=>cond (!v1.1) (some (false,())) ((dF (a1.2.1,0,1000,())).bind fun v2=>cond (!v2.1) (some (false,())) (cond (decide ((a1.2.2.1.length:Int)>4)) (some (false,())) (bn 0 a1)))
def HX(bn:HV)(U:Int)(aa:aM.D):Option (Bool×Unit):=cond (decide (U<(aa.2.2.1.length:Int))) ((ix aa.2.2.1.length U).bind fun v1=>(dF (I (ad.int .i64) aa.2.2.1 v1,0,1000,())).bind fun v2=>cond (!v2.1) (some (false,())) (bn (aw (U+1)) aa)) (some (true,()))
def w2:Nat→HV|0,_,_=>none|m+1,U,aa=>HX (w2 m) U aa
def B2(x:aM.D×Unit):Option (Bool×Unit):=HW (w2 aK) x.1
abbrev HY:Type:=Int→Bool→Int→aM.D→Option (Bool×Unit)
def HZ(bs:HY)(a1:aM.D)(a2:Int):Option (Bool×Unit):=(B2 (a1,())).bind fun v1=>cond (!v1.1) (some (false,())) (bs a2 (a1.2.1==a2) 0 a1)
def H0(bs:HY)(U:Int)(aa:Bool)(ae:Int)(ai:aM.D):Option (Bool×Unit):=cond (decide (ae<(ai.2.2.1.length:Int))) (cond aa (bs U true (aw (ae+1)) ai) ((ix ai.2.2.1.length ae).bind fun v1=>bs U (I (ad.int .i64) ai.2.2.1 v1==U) (aw (ae+1)) ai)) (some (aa,()))
def w3:Nat→HY|0,_,_,_,_=>none|m+1,U,aa,ae,ai=>H0 (w3 m) U aa ae ai
def w4(x:aM.D×Int×Unit):Option (Bool×Unit):=HZ (w3 aK) x.1 x.2.1
def Px(a1:aM.D)(a2:J.D)(a3:Int):Option (Bool×Unit):=(B2 (a1,())).bind fun v1=>cond (!v1.1) (some (false,())) ((dF (a3,0,7,())).bind fun v2=>cond (!v2.1) (some (false,())) (cond (a1.1==0) (cond (cZ .and .i64 a3 1==0) (some (true,())) (cond (a2.2.1 != 1) (some (true,())) (some (cZ .and .i64 a2.2.2.1 73 != 0,())))) ((w4 (a1,a2.2.2.2.2.1,())).bind fun v3=>cond v3.1 (cond (a1.1==a2.2.2.2.1) (some (cZ .and .i64 (cZ .and .i64 (Int.fdiv a2.2.2.1 (2^min (Int.toNat 6) 64)) 7) a3==a3,())) (some (cZ .and .i64 (cZ .and .i64 (Int.fdiv a2.2.2.1 (2^min (Int.toNat 3) 64)) 7) a3==a3,()))) (cond (a1.1==a2.2.2.2.1) (some (cZ .and .i64 (cZ .and .i64 (Int.fdiv a2.2.2.1 (2^min (Int.toNat 6) 64)) 7) a3==a3,())) (some (cZ .and .i64 (cZ .and .i64 a2.2.2.1 7) a3==a3,()))))))
def kV(x:aM.D×J.D×Int×Unit):Option (Bool×Unit):=Px x.1 x.2.1 x.2.2.1
structure w5 where
 k2:Int→Int→ag.D→Option (Int×Unit)
 bs:Int→Int→Int→ag.D→Option (Int×Unit)
def H4(k:w5)(a1:ag.D)(a2:Int):Option (Int×Unit):=k.k2 a2 0 a1
def w6(k:w5)(U:Int)(aa:Int)(ae:ag.D):Option (Int×Unit):=cond (decide (aa<(ae.2.1.length:Int))) (k.bs U aa 0 ae) (some (1,()))
def w7(k:w5)(U:Int)(aa:Int)(ae:Int)(ai:ag.D):Option (Int×Unit):=(ix ai.2.1.length aa).bind fun v1=>cond (decide (ae<(((I J ai.2.1 v1).2.2.2.2.2.2.1).length:Int))) ((ix ai.2.1.length aa).bind fun v2=>(ix (((I J ai.2.1 v2).2.2.2.2.2.2.1).length) ae).bind fun v3=>cond ((I aC ((I J ai.2.1 v2).2.2.2.2.2.2.1) v3).2.1==U) ((ix ai.2.1.length aa).bind fun v4=>some ((I J ai.2.1 v4).1,())) (k.bs U aa (aw (ae+1)) ai)) (k.k2 U (aw (aa+1)) ai)
def Yh(k:w5):w5:=⟨w6 k,w7 k⟩
def lr:Nat→w5:=eE Yh ⟨fun _ _ _=>none,fun _ _ _ _=>none⟩
def H5(x:ag.D×Int×Unit):Option (Int×Unit):=H4 (lr aK) x.1 x.2.1
abbrev B3:Type:=(List (aj))×Unit
abbrev H6:Type:=(aj)→Int→Int→(List (aj))→Option (B3)
def H7(bn:H6)(a1:aj):Option (B3):=bn a1 0 0 ([]:List (aj))
def B4(bn:H6)(U:aj)(aa:Int)(ae:Int)(ai:List (aj)):Option (B3):=cond (decide (ae≤(U.length:Int))) (cond (ae ==(U.length:Int)) (cond (decide (ae>aa)) ((dj U.length aa ae).bind fun v1=>cond (room (ai.length+[part U v1.1 (v1.2-v1.1)].length)) (bn U (aw (ae+1)) (aw (ae+1)) (ai++[part U v1.1 (v1.2-v1.1)])) (none)) (bn U (aw (ae+1)) (aw (ae+1)) ai)) ((ix U.length ae).bind fun v2=>cond (((U.getD v2 0).toNat:Int)==47) (cond (decide (ae>aa)) ((dj U.length aa ae).bind fun v3=>cond (room (ai.length+[part U v3.1 (v3.2-v3.1)].length)) (bn U (aw (ae+1)) (aw (ae+1)) (ai++[part U v3.1 (v3.2-v3.1)])) (none)) (bn U (aw (ae+1)) (aw (ae+1)) ai)) (bn U aa (aw (ae+1)) ai))) (some (ai,()))
def r6:Nat→H6|0,_,_,_,_=>none|m+1,U,aa,ae,ai=>B4 (r6 m) U aa ae ai
def B5(x:(aj)×Unit):Option (B3):=H7 (r6 aK) x.1
abbrev H8:Type:=(aj)→(List aC.D)→Int→Option (Int×Unit)
def H9(k3:H8)(a1:ag.D)(a2:Int)(a3:aj):Option (Int×Unit):=(nx (a1,a2,())).bind fun v1=>(ix a1.2.1.length v1.1).bind fun v2=>k3 a3 ((I J a1.2.1 v2).2.2.2.2.2.2.1) 0
def H_(k3:H8)(U:aj)(aa:List aC.D)(ae:Int):Option (Int×Unit):=cond (decide (ae<(aa.length:Int))) ((ix aa.length ae).bind fun v1=>cond (bx ((I aC aa v1).1) U) ((ix aa.length ae).bind fun v2=>some ((I aC aa v2).2.1,())) (k3 U aa (aw (ae+1)))) (some (0,()))
def ui:Nat→H8|0,_,_,_=>none|m+1,U,aa,ae=>H_ (ui m) U aa ae
def Py(x:ag.D×Int×(aj)×Unit):Option (Int×Unit):=H9 (ui aK) x.1 x.2.1 x.2.2.1
structure qD where
 bn:Bool→Nat→Nat→Int→Int→ag.D→aM.D→a7.D→(List (aj))→Option (a7.D×Unit)
 Yi:Bool→Nat→Nat→Int→Int→(aj)→Bool→Int→ag.D→aM.D→a7.D→(List (aj))→J.D→Option (a7.D×Unit)
 ku:Bool→Nat→Nat→Int→Int→ag.D→aM.D→a7.D→(List (aj))→J.D→Option (a7.D×Unit)
 B6:Bool→Nat→Nat→Int→Int→(aj)→Bool→Int→ag.D→aM.D→a7.D→(List (aj))→J.D→Option (a7.D×Unit)
 qE:Bool→Nat→Nat→Int→Int→ag.D→aM.D→a7.D→(List (aj))→J.D→Option (a7.D×Unit)
def H'(k:qD)(a1:ag.D)(a2:aM.D)(a3:aj)(a4:Bool):Option (a7.D×Unit):=(B5 (a3,())).bind fun v1=>k.bn a4 0 v1.1.length 1 0 a1 a2 (0,[],0,0,()) v1.1
def mF(k:qD)(U:Bool)(aa:Nat)(ae:Nat)(ai:Int)(aq:Int)(ay:ag.D)(aW:aM.D)(bq:a7.D)(bw:List (aj)):Option (a7.D×Unit):=cond (decide ((ae:Int)>0)) ((ix ae 0).bind fun v1=>(dj ae 1 (ae:Int)).bind fun v2=>(nx (ay,ai,())).bind fun v3=>(ix ay.2.1.length v3.1).bind fun v4=>(kV (aW,I J ay.2.1 v4,1,())).bind fun v5=>cond (!v5.1) (some ((0,[],0,13,()),())) (cond (bx (I ad.str bw (aa+v1)) ([46]:aj)) (k.bn U (aa+v2.1) (v2.2-v2.1) ai aq ay aW bq bw) (cond (bx (I ad.str bw (aa+v1)) ([46,46]:aj)) ((H5 (ay,ai,())).bind fun v6=>k.bn U (aa+v2.1) (v2.2-v2.1) v6.1 aq ay aW bq bw) (cond (decide (((I ad.str bw (aa+v1)).length:Int)>8)) (some ((0,[],0,36,()),())) ((Py (ay,ai,I ad.str bw (aa+v1),())).bind fun br=>cond (br.1==0) (cond ((((v2.2-v2.1):Nat):Int)==0) (some ((ai,I ad.str bw (aa+v1),0,2,()),())) (some ((0,[],0,2,()),()))) (dup ((nx (ay,br.1,())).bind fun cj=>(ix ay.2.1.length cj.1).bind fun v9=>k.Yi U (aa+v2.1) (v2.2-v2.1) ai aq (I ad.str bw (aa+v1)) ((((v2.2-v2.1):Nat):Int)==0) br.1 ay aW bq bw (I J ay.2.1 v9)))))))) (some ((0,[],ai,0,()),()))
def zr(k:qD)(U:Bool)(aa:Nat)(ae:Nat)(ai:Int)(aq:Int)(ay:aj)(aW:Bool)(bq:Int)(bw:ag.D)(eF:aM.D)(fg:a7.D)(lu:List (aj))(kW:J.D):Option (a7.D×Unit):=cond (kW.2.1==3) (cond (!aW) (k.ku U aa ae ai aq bw eF fg lu kW) (cond U (k.ku U aa ae ai aq bw eF fg lu kW) (k.B6 U aa ae ai aq ay aW bq bw eF fg lu kW))) (k.B6 U aa ae ai aq ay aW bq bw eF fg lu kW)
def Ia(k:qD)(U:Bool)(aa:Nat)(ae:Nat)(ai:Int)(aq:Int)(ay:ag.D)(aW:aM.D)(bq:a7.D)(bw:List (aj))(eF:J.D):Option (a7.D×Unit):=cond (decide (aw (aq+1)>8)) (some ((0,[],0,40,()),())) ((ix eF.2.2.2.2.2.1.length 0).bind fun v1=>cond (((eF.2.2.2.2.2.1.getD v1 0).toNat:Int)==47) (k.qE U aa ae 1 (aw (aq+1)) ay aW bq bw eF) (k.qE U aa ae ai (aw (aq+1)) ay aW bq bw eF))
def Ib(k:qD)(U:Bool)(aa:Nat)(ae:Nat)(ai:Int)(aq:Int)(ay:aj)(aW:Bool)(bq:Int)(bw:ag.D)(eF:aM.D)(fg:a7.D)(lu:List (aj))(kW:J.D):Option (a7.D×Unit):=cond aW (some ((ai,ay,bq,0,()),())) (cond (kW.2.1 != 2) (some ((0,[],0,20,()),())) (k.bn U aa ae bq aq bw eF fg lu))
def Ic(k:qD)(U:Bool)(aa:Nat)(ae:Nat)(ai:Int)(aq:Int)(ay:ag.D)(aW:aM.D)(bq:a7.D)(bw:List (aj))(eF:J.D):Option (a7.D×Unit):=(B5 (eF.2.2.2.2.2.1,())).bind fun v1=>cond (room (v1.1.length +(part bw aa ae).length)) (cond (decide (((v1.1++(part bw aa ae)).length:Int)>40)) (some ((0,[],0,36,()),())) (k.bn U 0 ((v1.1++(part bw aa ae)).length) ai aq ay aW bq (v1.1++(part bw aa ae)))) (none)
def Yj(k:qD):qD:=⟨mF k,zr k,Ia k,Ib k,Ic k⟩
def fF:Nat→qD:=eE Yj ⟨fun _ _ _ _ _ _ _ _ _=>none,fun _ _ _ _ _ _ _ _ _ _ _ _ _=>none,fun _ _ _ _ _ _ _ _ _ _=>none,fun _ _ _ _ _ _ _ _ _ _ _ _ _=>none,fun _ _ _ _ _ _ _ _ _ _=>none⟩
def Ie(x:ag.D×aM.D×(aj)×Bool×Unit):Option (a7.D×Unit):=H' (fF aK) x.1 x.2.1 x.2.2.1 x.2.2.2.1
def B7(a1:ag.D)(a2:aM.D)(a3:aj):Option (a7.D×Int×Unit):=(HU (a3,())).bind fun v1=>cond (!v1.1) (some ((0,[],0,0,()),22,())) ((Ie (a1,a2,a3,false,())).bind fun v2=>cond (v2.1.2.2.2.1==0) (some (v2.1,17,())) (cond (v2.1.2.2.2.1==2) (cond (!(bx v2.1.2.1 [])) (some (v2.1,0,())) (some (v2.1,v2.1.2.2.2.1,()))) (some (v2.1,v2.1.2.2.2.1,()))))
def w8(x:ag.D×aM.D×(aj)×Unit):Option (a7.D×Int×Unit):=B7 x.1 x.2.1 x.2.2.1
def Pz(a1:ag.D)(a2:Int):Option (J.D×Unit):=(nx (a1,a2,())).bind fun v1=>(ix a1.2.1.length v1.1).bind fun v2=>some (I J a1.2.1 v2,())
def fG(x:ag.D×Int×Unit):Option (J.D×Unit):=Pz x.1 x.2.1
def PA(a1:ag.D):Option (Int×Unit):=(Hw (a1,())).bind fun v1=>cond (decide (v1.1>400)) (some (28,())) ((Ph (a1,())).bind fun v2=>cond v2.1 (some (122,())) (some (0,())))
def PB(x:ag.D×Unit):Option (Int×Unit):=PA x.1
abbrev Yk:Type:=ag.D×an.D×Unit
def PC(a1:ag.D)(a2:ag.D):Option (Yk):=(PB (a2,())).bind fun v1=>cond (v1.1 != 0) (some (a1,(v1.1,[],()),())) (some (a2,(0,[],()),()))
def r7(x:ag.D×ag.D×Unit):Option (Yk):=PC x.1 x.2.1
def B8(a1:ag.D)(a2:J.D):Option (ag.D×Unit):=(nx (a1,a2.1,())).bind fun v1=>cond (decide (v1.1<0)) (cond (room (a1.2.1.length+[a2].length)) (some ((a1.1,a1.2.1++[a2],()),())) (none)) ((ix a1.2.1.length v1.1).bind fun v2=>some ((a1.1,a1.2.1.set (0+v2) a2,()),()))
def pD(x:ag.D×J.D×Unit):Option (ag.D×Unit):=B8 x.1 x.2.1
structure uj where
 bs:(aj)→Int→Bool→Int→ag.D→ag.D→J.D→(List aC.D)→Option (ag.D×Unit)
 dd:(aj)→Int→Bool→Int→ag.D→ag.D→J.D→(List aC.D)→Option (ag.D×Unit)
 wN:ag.D→ag.D→J.D→(List aC.D)→Option (ag.D×Unit)
def Ig(k:uj)(a1:ag.D)(a2:Int)(a3:aj)(a4:Int):Option (ag.D×Unit):=(fG (a1,a2,())).bind fun v1=>k.bs a3 a4 false 0 a1 (0,[],()) v1.1 ([]:List aC.D)
def pE(k:uj)(U:aj)(aa:Int)(ae:Bool)(ai:Int)(aq:ag.D)(ay:ag.D)(aW:J.D)(bq:List aC.D):Option (ag.D×Unit):=cond (decide (ai<(aW.2.2.2.2.2.2.1.length:Int))) (cond (!ae) ((ix aW.2.2.2.2.2.2.1.length ai).bind fun v1=>cond (eo U ((I aC aW.2.2.2.2.2.2.1 v1).1)) (cond (room (bq.length+[(U,aa,())].length)) (k.dd U aa true ai aq ay aW (bq++[(U,aa,())])) (none)) (k.dd U aa ae ai aq ay aW bq)) (k.dd U aa ae ai aq ay aW bq)) (cond (!ae) (cond (room (bq.length+[(U,aa,())].length)) (k.wN aq ay aW (bq++[(U,aa,())])) (none)) (k.wN aq ay aW bq))
def w9(k:uj)(U:aj)(aa:Int)(ae:Bool)(ai:Int)(aq:ag.D)(ay:ag.D)(aW:J.D)(bq:List aC.D):Option (ag.D×Unit):=(ix aW.2.2.2.2.2.2.1.length ai).bind fun v1=>cond (room (bq.length+[I aC aW.2.2.2.2.2.2.1 v1].length)) (k.bs U aa ae (aw (ai+1)) aq ay aW (bq++[I aC aW.2.2.2.2.2.2.1 v1])) (none)
def PD(k:uj)(U:ag.D)(aa:ag.D)(ae:J.D)(ai:List aC.D):Option (ag.D×Unit):=(pD (U,(ae.1,ae.2.1,ae.2.2.1,ae.2.2.2.1,ae.2.2.2.2.1,ae.2.2.2.2.2.1,ai,ae.2.2.2.2.2.2.2.1,ae.2.2.2.2.2.2.2.2.1,()),())).bind fun v1=>some (v1.1,())
def Yl(k:uj):uj:=⟨pE k,w9 k,PD k⟩
def jb:Nat→uj:=eE Yl ⟨fun _ _ _ _ _ _ _ _=>none,fun _ _ _ _ _ _ _ _=>none,fun _ _ _ _=>none⟩
def uk(x:ag.D×Int×(aj)×Int×Unit):Option (ag.D×Unit):=Ig (jb aK) x.1 x.2.1 x.2.2.1 x.2.2.2.1
abbrev pF:Type:=ag.D×an.D×Unit
structure r8 where
 k3:ag.D→aM.D→aL.D→ag.D→an.D→Option (pF)
 B9:ag.D→aL.D→ag.D→an.D→a7.D→J.D→J.D→Option (pF)
 hB:ag.D→ag.D→an.D→a7.D→J.D→J.D→Option (pF)
 ku:ag.D→ag.D→an.D→a7.D→J.D→Option (pF)
def Ih(k:r8)(a1:ag.D)(a2:aM.D)(a3:aL.D):Option (pF):=cond (a3.1==10) ((Hl (a3.2.2.1,())).bind fun v1=>cond (!v1.1) (some (a1,(22,[],()),())) (cond (a3.1 != 10) ((dF (a3.2.2.2.1,0,2047,())).bind fun v2=>cond (!v2.1) (some (a1,(22,[],()),())) (k.k3 a1 a2 a3 (0,[],()) (0,[],()))) (k.k3 a1 a2 a3 (0,[],()) (0,[],())))) (cond (a3.1 != 10) ((dF (a3.2.2.2.1,0,2047,())).bind fun v3=>cond (!v3.1) (some (a1,(22,[],()),())) (k.k3 a1 a2 a3 (0,[],()) (0,[],()))) (k.k3 a1 a2 a3 (0,[],()) (0,[],())))
def PE(k:r8)(U:ag.D)(aa:aM.D)(ae:aL.D)(ai:ag.D)(aq:an.D):Option (pF):=(w8 (U,aa,ae.2.1,())).bind fun v1=>cond (v1.2.1 != 0) (some (U,(v1.2.1,[],()),())) ((fG (U,v1.1.1,())).bind fun v2=>(kV (aa,v2.1,3,())).bind fun v3=>cond (!v3.1) (some (U,(13,[],()),())) (cond (decide ((v2.1.2.2.2.2.2.2.1.length:Int)≥12)) (some (U,(28,[],()),())) (cond (decide ((U.2.1.length:Int)≥24)) (some (U,(28,[],()),())) (cond (decide (U.1≥100000)) (some (U,(28,[],()),())) (cond (ae.1==1) (k.B9 U ae ai aq v1.1 v2.1 (U.1,2,ae.2.2.2.1,aa.1,aa.2.1,[],[],0,0,())) (k.B9 U ae ai aq v1.1 v2.1 (U.1,1,ae.2.2.2.1,aa.1,aa.2.1,[],[],0,0,())))))))
def ajh(k:r8)(U:ag.D)(aa:aL.D)(ae:ag.D)(ai:an.D)(aq:a7.D)(ay:J.D)(aW:J.D):Option (pF):=cond (aa.1==10) (k.hB U ae ai aq ay (aW.1,3,511,aW.2.2.2.1,aW.2.2.2.2.1,aa.2.2.1,aW.2.2.2.2.2.2.1,aW.2.2.2.2.2.2.2.1,aW.2.2.2.2.2.2.2.2.1,())) (k.hB U ae ai aq ay aW)
def aji(k:r8)(U:ag.D)(aa:ag.D)(ae:an.D)(ai:a7.D)(aq:J.D)(ay:J.D):Option (pF):=cond (cZ .and .i64 aq.2.2.1 1024 != 0) (cond (ay.2.1==2) (k.ku U aa ae ai (ay.1,ay.2.1,cZ .or .i64 ay.2.2.1 1024,ay.2.2.2.1,aq.2.2.2.2.1,ay.2.2.2.2.2.1,ay.2.2.2.2.2.2.1,ay.2.2.2.2.2.2.2.1,ay.2.2.2.2.2.2.2.2.1,())) (k.ku U aa ae ai (ay.1,ay.2.1,ay.2.2.1,ay.2.2.2.1,aq.2.2.2.2.1,ay.2.2.2.2.2.1,ay.2.2.2.2.2.2.1,ay.2.2.2.2.2.2.2.1,ay.2.2.2.2.2.2.2.2.1,()))) (k.ku U aa ae ai ay)
def PF(k:r8)(U:ag.D)(aa:ag.D)(ae:an.D)(ai:a7.D)(aq:J.D):Option (pF):=(uh (U,())).bind fun v1=>(pD ((aw (v1.1.1+1),v1.1.2.1,()),aq,())).bind fun v2=>(uk (v2.1,ai.1,ai.2.1,aq.1,())).bind fun v3=>(r7 (U,v3.1,())).bind fun v4=>some (v4.1,v4.2.1,())
def Ym(k:r8):r8:=⟨PE k,ajh k,aji k,PF k⟩
def kv:Nat→r8:=eE Ym ⟨fun _ _ _ _ _=>none,fun _ _ _ _ _ _ _=>none,fun _ _ _ _ _ _=>none,fun _ _ _ _ _=>none⟩
def w_(x:ag.D×aM.D×aL.D×Unit):Option (pF):=Ih (kv aK) x.1 x.2.1 x.2.2.1
def xa(a1:ag.D)(a2:aM.D)(a3:aj)(a4:Bool):Option (a7.D×Unit):=(HU (a3,())).bind fun v1=>cond (!v1.1) (some ((0,[],0,22,()),())) ((Ie (a1,a2,a3,a4,())).bind fun v2=>some (v2.1,()))
def fo(x:ag.D×aM.D×(aj)×Bool×Unit):Option (a7.D×Unit):=xa x.1 x.2.1 x.2.2.1 x.2.2.2.1
def PG(a1:aM.D)(a2:J.D)(a3:J.D):Option (Bool×Unit):=(B2 (a1,())).bind fun v1=>cond (!v1.1) (some (false,())) (cond (cZ .and .i64 a2.2.2.1 512==0) (some (true,())) (cond (a1.1==0) (some (true,())) (cond (a1.1==a2.2.2.2.1) (some (true,())) (some (a1.1==a3.2.2.2.1,())))))
def zs(x:aM.D×J.D×J.D×Unit):Option (Bool×Unit):=PG x.1 x.2.1 x.2.2.1
structure xb where
 bs:(aj)→Int→Int→ag.D→ag.D→J.D→(List aC.D)→Option (ag.D×Unit)
 rX:Int→Int→ag.D→ag.D→(List J.D)→Option (ag.D×Unit)
def Ii(k:xb)(a1:ag.D)(a2:Int)(a3:aj):Option (ag.D×Unit):=(fG (a1,a2,())).bind fun v1=>k.bs a3 0 0 a1 (0,[],()) v1.1 ([]:List aC.D)
def B_(k:xb)(U:aj)(aa:Int)(ae:Int)(ai:ag.D)(aq:ag.D)(ay:J.D)(aW:List aC.D):Option (ag.D×Unit):=cond (decide (ae<(ay.2.2.2.2.2.2.1.length:Int))) ((ix ay.2.2.2.2.2.2.1.length ae).bind fun v1=>cond (bx ((I aC ay.2.2.2.2.2.2.1 v1).1) U) ((ix ay.2.2.2.2.2.2.1.length ae).bind fun v2=>k.bs U ((I aC ay.2.2.2.2.2.2.1 v2).2.1) (aw (ae+1)) ai aq ay aW) ((ix ay.2.2.2.2.2.2.1.length ae).bind fun v3=>cond (room (aW.length+[I aC ay.2.2.2.2.2.2.1 v3].length)) (k.bs U aa (aw (ae+1)) ai aq ay (aW++[I aC ay.2.2.2.2.2.2.1 v3])) (none))) ((pD (ai,(ay.1,ay.2.1,ay.2.2.1,ay.2.2.2.1,ay.2.2.2.2.1,ay.2.2.2.2.2.1,aW,ay.2.2.2.2.2.2.2.1,ay.2.2.2.2.2.2.2.2.1,()),())).bind fun v4=>(Hs (v4.1,aa,())).bind fun v5=>cond (decide (v5.1>0)) (some (v4.1,())) (k.rX aa 0 v4.1 aq []))
def B'(k:xb)(U:Int)(aa:Int)(ae:ag.D)(ai:ag.D)(aq:List J.D):Option (ag.D×Unit):=cond (decide (aa<(ae.2.1.length:Int))) ((ix ae.2.1.length aa).bind fun v1=>cond ((I J ae.2.1 (0+v1)).1 != U) ((ix ae.2.1.length aa).bind fun v2=>cond (room (aq.length+[I J ae.2.1 (0+v2)].length)) (k.rX U (aw (aa+1)) ae ai (aq++[I J ae.2.1 (0+v2)])) (none)) (k.rX U (aw (aa+1)) ae ai aq)) (some ((ae.1,aq,()),()))
def Yn(k:xb):xb:=⟨B_ k,B' k⟩
def lW:Nat→xb:=eE Yn ⟨fun _ _ _ _ _ _ _=>none,fun _ _ _ _ _=>none⟩
def pG(x:ag.D×Int×(aj)×Unit):Option (ag.D×Unit):=Ii (lW aK) x.1 x.2.1 x.2.2.1
abbrev r9:Type:=ag.D×an.D×Unit
structure um where
 ee:ag.D→aM.D→aL.D→ag.D→an.D→a7.D→J.D→Option (r9)
 gd:ag.D→aM.D→aL.D→ag.D→an.D→a7.D→J.D→Option (r9)
 dt:ag.D→aM.D→ag.D→an.D→a7.D→J.D→Option (r9)
def Ij(k:um)(a1:ag.D)(a2:aM.D)(a3:aL.D):Option (r9):=(fo (a1,a2,a3.2.1,false,())).bind fun v1=>cond (v1.1.2.2.2.1 != 0) (some (a1,(v1.1.2.2.2.1,[],()),())) ((fG (a1,v1.1.2.2.1,())).bind fun v2=>cond (a3.1==2) (cond (bx v1.1.2.1 []) (some (a1,(16,[],()),())) (k.ee a1 a2 a3 (0,[],()) (0,[],()) v1.1 v2.1)) (k.ee a1 a2 a3 (0,[],()) (0,[],()) v1.1 v2.1))
def PH(k:um)(U:ag.D)(aa:aM.D)(ae:aL.D)(ai:ag.D)(aq:an.D)(ay:a7.D)(aW:J.D):Option (r9):=cond (ae.1==2) (cond (aW.2.1 != 2) (some (U,(20,[],()),())) (k.gd U aa ae ai aq ay aW)) (k.gd U aa ae ai aq ay aW)
def PI(k:um)(U:ag.D)(aa:aM.D)(ae:aL.D)(ai:ag.D)(aq:an.D)(ay:a7.D)(aW:J.D):Option (r9):=cond (ae.1==8) (cond (aW.2.1==2) (some (U,(21,[],()),())) (k.dt U aa ai aq ay aW)) (k.dt U aa ai aq ay aW)
def PJ(k:um)(U:ag.D)(aa:aM.D)(ae:ag.D)(ai:an.D)(aq:a7.D)(ay:J.D):Option (r9):=(fG (U,aq.1,())).bind fun v1=>(kV (aa,v1.1,3,())).bind fun v2=>cond (!v2.1) (some (U,(13,[],()),())) ((zs (aa,v1.1,ay,())).bind fun v3=>cond (!v3.1) (some (U,(1,[],()),())) (cond (decide ((ay.2.2.2.2.2.2.1.length:Int)>0)) (some (U,(39,[],()),())) ((uh (U,())).bind fun v4=>(pG (v4.1,aq.1,aq.2.1,())).bind fun v5=>some (v5.1,(0,[],()),()))))
def Yo(k:um):um:=⟨PH k,PI k,PJ k⟩
def r_:Nat→um:=eE Yo ⟨fun _ _ _ _ _ _ _=>none,fun _ _ _ _ _ _ _=>none,fun _ _ _ _ _ _=>none⟩
def Ca(x:ag.D×aM.D×aL.D×Unit):Option (r9):=Ij (r_ aK) x.1 x.2.1 x.2.2.1
def PK(a1:ag.D)(a2:Int):Option (Bool×Unit):=(nx (a1,a2,())).bind fun v1=>cond (decide (v1.1≥0)) ((ix a1.2.1.length v1.1).bind fun v2=>some ((I J a1.2.1 v2).2.1==2,())) (some (false,()))
def zt(x:ag.D×Int×Unit):Option (Bool×Unit):=PK x.1 x.2.1
abbrev Yp:Type:=ag.D×an.D×Unit
def PL(a1:ag.D)(a2:aM.D)(a3:aL.D):Option (Yp):=(fo (a1,a2,a3.2.1,false,())).bind fun v1=>cond (v1.1.2.2.2.1 != 0) (some (a1,(v1.1.2.2.2.1,[],()),())) ((zt (a1,v1.1.2.2.1,())).bind fun v2=>cond v2.1 (some (a1,(1,[],()),())) ((w8 (a1,a2,a3.2.2.1,())).bind fun v3=>cond (v3.2.1 != 0) (some (a1,(v3.2.1,[],()),())) ((fG (a1,v3.1.1,())).bind fun v4=>(kV (a2,v4.1,3,())).bind fun v5=>cond (!v5.1) (some (a1,(13,[],()),())) (cond (decide ((v4.1.2.2.2.2.2.2.1.length:Int)≥12)) (some (a1,(28,[],()),())) ((uh (a1,())).bind fun v6=>(uk (v6.1,v3.1.1,v3.1.2.1,v1.1.2.2.1,())).bind fun br=>(r7 (a1,br.1,())).bind fun cj=>some (cj.1,cj.2.1,()))))))
def Ik(x:ag.D×aM.D×aL.D×Unit):Option (Yp):=PL x.1 x.2.1 x.2.2.1
abbrev Il:Type:=Int→Int→Int→ag.D→Option (Bool×Unit)
def Im(k2:Il)(a1:ag.D)(a2:Int)(a3:Int):Option (Bool×Unit):=k2 a2 a3 0 a1
def Io(k2:Il)(U:Int)(aa:Int)(ae:Int)(ai:ag.D):Option (Bool×Unit):=cond (decide (ae≤(ai.2.1.length:Int))) (cond (U==aa) (some (true,())) (cond (U==1) (some (false,())) ((H5 (ai,U,())).bind fun v1=>k2 v1.1 aa (aw (ae+1)) ai))) (some (false,()))
def xc:Nat→Il|0,_,_,_,_=>none|m+1,U,aa,ae,ai=>Io (xc m) U aa ae ai
def Cb(x:ag.D×Int×Int×Unit):Option (Bool×Unit):=Im (xc aK) x.1 x.2.1 x.2.2.1
abbrev ny:Type:=ag.D×an.D×Unit
structure qF where
 ee:ag.D→aM.D→ag.D→an.D→a7.D→a7.D→Option (ny)
 hB:ag.D→aM.D→ag.D→an.D→a7.D→a7.D→J.D→J.D→Option (ny)
 qE:ag.D→ag.D→an.D→a7.D→a7.D→J.D→ag.D→J.D→Option (ny)
 nz:ag.D→ag.D→an.D→a7.D→a7.D→ag.D→Option (ny)
 PM:ag.D→ag.D→an.D→a7.D→a7.D→J.D→ag.D→J.D→Option (ny)
def Ip(k:qF)(a1:ag.D)(a2:aM.D)(a3:aL.D):Option (ny):=(fo (a1,a2,a3.2.1,false,())).bind fun v1=>cond (v1.1.2.2.2.1 != 0) (some (a1,(v1.1.2.2.2.1,[],()),())) ((fo (a1,a2,a3.2.2.1,false,())).bind fun v2=>cond (v2.1.2.2.2.1 != 0) (cond (v2.1.2.2.2.1 != 2) (some (a1,(v2.1.2.2.2.1,[],()),())) (cond (bx v2.1.2.1 []) (some (a1,(v2.1.2.2.2.1,[],()),())) (k.ee a1 a2 (0,[],()) (0,[],()) v1.1 v2.1))) (k.ee a1 a2 (0,[],()) (0,[],()) v1.1 v2.1))
def PN(k:qF)(U:ag.D)(aa:aM.D)(ae:ag.D)(ai:an.D)(aq:a7.D)(ay:a7.D):Option (ny):=cond (bx aq.2.1 []) (some (U,(16,[],()),())) (cond (bx ay.2.1 []) (some (U,(16,[],()),())) ((fG (U,aq.1,())).bind fun v1=>(fG (U,ay.1,())).bind fun v2=>(fG (U,aq.2.2.1,())).bind fun v3=>(kV (aa,v1.1,3,())).bind fun v4=>cond (!v4.1) (some (U,(13,[],()),())) ((kV (aa,v2.1,3,())).bind fun v5=>cond (!v5.1) (some (U,(13,[],()),())) ((zs (aa,v1.1,v3.1,())).bind fun v6=>cond (!v6.1) (some (U,(1,[],()),())) (cond (v3.1.2.1==2) ((Cb (U,ay.1,aq.2.2.1,())).bind fun br=>cond br.1 (some (U,(22,[],()),())) (k.hB U aa ae ai aq ay v2.1 v3.1)) (k.hB U aa ae ai aq ay v2.1 v3.1))))))
def PO(k:qF)(U:ag.D)(aa:aM.D)(ae:ag.D)(ai:an.D)(aq:a7.D)(ay:a7.D)(aW:J.D)(bq:J.D):Option (ny):=(uh (U,())).bind fun v1=>cond (decide (ay.2.2.1>0)) (cond (ay.2.2.1==aq.2.2.1) (some (U,(0,[],()),())) ((fG (U,ay.2.2.1,())).bind fun v2=>(zs (aa,aW,v2.1,())).bind fun v3=>cond (!v3.1) (some (U,(1,[],()),())) (cond (bq.2.1==2) (cond (v2.1.2.1 != 2) (some (U,(20,[],()),())) (k.qE U ae ai aq ay bq v1.1 v2.1)) (k.qE U ae ai aq ay bq v1.1 v2.1)))) (cond (aq.1 != ay.1) (cond (decide ((aW.2.2.2.2.2.2.1.length:Int)≥12)) (some (U,(28,[],()),())) (k.nz U ae ai aq ay v1.1)) (k.nz U ae ai aq ay v1.1))
def PQ(k:qF)(U:ag.D)(aa:ag.D)(ae:an.D)(ai:a7.D)(aq:a7.D)(ay:J.D)(aW:ag.D)(bq:J.D):Option (ny):=cond (ay.2.1==2) (cond (decide ((bq.2.2.2.2.2.2.1.length:Int)>0)) (some (U,(39,[],()),())) (k.PM U aa ae ai aq ay aW bq)) (k.PM U aa ae ai aq ay aW bq)
def PR(k:qF)(U:ag.D)(aa:ag.D)(ae:an.D)(ai:a7.D)(aq:a7.D)(ay:ag.D):Option (ny):=(uk (ay,aq.1,aq.2.1,ai.2.2.1,())).bind fun v1=>(pG (v1.1,ai.1,ai.2.1,())).bind fun v2=>(r7 (U,v2.1,())).bind fun v3=>some (v3.1,v3.2.1,())
def PS(k:qF)(U:ag.D)(aa:ag.D)(ae:an.D)(ai:a7.D)(aq:a7.D)(ay:J.D)(aW:ag.D)(bq:J.D):Option (ny):=cond (ay.2.1 != 2) (cond (bq.2.1==2) (some (U,(21,[],()),())) ((pG (aW,aq.1,aq.2.1,())).bind fun v1=>k.nz U aa ae ai aq v1.1)) ((pG (aW,aq.1,aq.2.1,())).bind fun v2=>k.nz U aa ae ai aq v2.1)
def Yq(k:qF):qF:=⟨PN k,PO k,PQ k,PR k,PS k⟩
def gS:Nat→qF:=eE Yq ⟨fun _ _ _ _ _ _=>none,fun _ _ _ _ _ _ _ _=>none,fun _ _ _ _ _ _ _ _=>none,fun _ _ _ _ _ _=>none,fun _ _ _ _ _ _ _ _=>none⟩
def Iq(x:ag.D×aM.D×aL.D×Unit):Option (ny):=Ip (gS aK) x.1 x.2.1 x.2.2.1
structure uo where
 k2:Int→(aj)→(List Int)→Option ((aj)×Unit)
 bs:Int→(aj)→Int→(List Int)→Option ((aj)×Unit)
def Ir(k:uo)(a1:aj)(a2:Int)(a3:aj):Option ((aj)×Unit):=k.k2 a2 a3 (eT a1)
def Cc(k:uo)(U:Int)(aa:aj)(ae:List Int):Option ((aj)×Unit):=cond (decide ((ae.length:Int)<aw (U +(aa.length:Int)))) (cond (room (ae.length+[0].length)) (k.k2 U aa (ae++[0])) (none)) (k.bs U aa 0 ae)
def Yr(k:uo)(U:Int)(aa:aj)(ae:Int)(v3:List Int):Option ((aj)×Unit):=k.bs U aa (aw (ae+1)) v3
def Cd(k:uo)(U:Int)(aa:aj)(ae:Int)(ai:List Int):Option ((aj)×Unit):=cond (decide (ae<(aa.length:Int))) ((ix aa.length ae).bind fun v1=>(ix ai.length (aw (U+ae))).bind fun v2=>Yr k U aa ae (ai.set (0+v2) ((aa.getD v1 0).toNat:Int))) (some (eZ ai,()))
def Ys(k:uo):uo:=⟨Cc k,Cd k⟩
def ow:Nat→uo:=eE Ys ⟨fun _ _ _=>none,fun _ _ _ _=>none⟩
def uq(x:(aj)×Int×(aj)×Unit):Option ((aj)×Unit):=Ir (ow aK) x.1 x.2.1 x.2.2.1
abbrev xd:Type:=ag.D×an.D×Unit
structure xe where
 eL:Int→ag.D→aL.D→ag.D→an.D→J.D→Option (xd)
 im:ag.D→ag.D→an.D→J.D→Option (xd)
def Is(k:xe)(a1:ag.D)(a2:aM.D)(a3:aL.D):Option (xd):=(fo (a1,a2,a3.2.1,true,())).bind fun v1=>cond (v1.1.2.2.2.1 != 0) (some (a1,(v1.1.2.2.2.1,[],()),())) ((fG (a1,v1.1.2.2.1,())).bind fun v2=>cond (v2.1.2.1==2) (some (a1,(21,[],()),())) ((kV (a2,v2.1,2,())).bind fun v3=>cond (!v3.1) (some (a1,(13,[],()),())) (cond (a3.1==6) (k.eL (v2.1.2.2.2.2.2.1.length:Int) a1 a3 (0,[],()) (0,[],()) v2.1) (k.eL a3.2.2.2.1 a1 a3 (0,[],()) (0,[],()) v2.1))))
def PT(k:xe)(U:Int)(aa:ag.D)(ae:aL.D)(ai:ag.D)(aq:an.D)(ay:J.D):Option (xd):=cond (decide (U<0)) (some (aa,(22,[],()),())) (cond (ae.1==7) (cond (decide (U>64)) (some (aa,(27,[],()),())) ((uq (ay.2.2.2.2.2.1,U,[],())).bind fun v1=>(dj v1.1.length 0 U).bind fun v2=>k.im aa ai aq (ay.1,ay.2.1,ay.2.2.1,ay.2.2.2.1,ay.2.2.2.2.1,part v1.1 v2.1 (v2.2-v2.1),ay.2.2.2.2.2.2.1,ay.2.2.2.2.2.2.2.1,ay.2.2.2.2.2.2.2.2.1,()))) (cond (bx ae.2.2.2.2.2.1 []) (some (aa,(0,[],()),())) (cond (decide (U>aw (64-(ae.2.2.2.2.2.1.length:Int)))) (some (aa,(27,[],()),())) ((uq (ay.2.2.2.2.2.1,U,ae.2.2.2.2.2.1,())).bind fun v3=>k.im aa ai aq (ay.1,ay.2.1,ay.2.2.1,ay.2.2.2.1,ay.2.2.2.2.1,v3.1,ay.2.2.2.2.2.2.1,ay.2.2.2.2.2.2.2.1,ay.2.2.2.2.2.2.2.2.1,())))))
def PU(k:xe)(U:ag.D)(aa:ag.D)(ae:an.D)(ai:J.D):Option (xd):=(uh (U,())).bind fun v1=>(pD (v1.1,ai,())).bind fun v2=>(r7 (U,v2.1,())).bind fun v3=>some (v3.1,v3.2.1,())
def Yt(k:xe):xe:=⟨PT k,PU k⟩
def kX:Nat→xe:=eE Yt ⟨fun _ _ _ _ _ _=>none,fun _ _ _ _=>none⟩
def zu(x:ag.D×aM.D×aL.D×Unit):Option (xd):=Is (kX aK) x.1 x.2.1 x.2.2.1
abbrev pH:Type:=ag.D×an.D×Unit
structure r' where
 cW:Bool→ag.D→aM.D→aL.D→ag.D→an.D→Option (pH)
 eL:ag.D→aM.D→aL.D→ag.D→an.D→Option (pH)
 qA:ag.D→aM.D→aL.D→ag.D→an.D→J.D→Option (pH)
 nA:ag.D→ag.D→an.D→J.D→Option (pH)
def ur(k:r')(a1:ag.D)(a2:aM.D)(a3:aL.D):Option (pH):=cond (a3.1==15) ((dF (a3.2.2.2.1,0,2047,())).bind fun v1=>k.cW (!v1.1) a1 a2 a3 (0,[],()) (0,[],())) (cond (a3.1==16) ((dF (a3.2.2.2.1,0,1000,())).bind fun v2=>cond (!v2.1) (k.cW true a1 a2 a3 (0,[],()) (0,[],())) ((dF (a3.2.2.2.2.1,0,1000,())).bind fun v3=>k.cW (!v3.1) a1 a2 a3 (0,[],()) (0,[],()))) ((dF (a3.2.2.2.1,0,400,())).bind fun v4=>cond (!v4.1) (k.cW true a1 a2 a3 (0,[],()) (0,[],())) ((dF (a3.2.2.2.2.1,0,24,())).bind fun v5=>k.cW (!v5.1) a1 a2 a3 (0,[],()) (0,[],()))))
def Ce(k:r')(U:Bool)(aa:ag.D)(ae:aM.D)(ai:aL.D)(aq:ag.D)(ay:an.D):Option (pH):=cond U (some (aa,(22,[],()),())) (cond (ai.1==19) (cond (ae.1 != 0) (some (aa,(1,[],()),())) (k.eL aa ae ai aq ay)) (k.eL aa ae ai aq ay))
def Cf(k:r')(U:ag.D)(aa:aM.D)(ae:aL.D)(ai:ag.D)(aq:an.D):Option (pH):=(fo (U,aa,ae.2.1,true,())).bind fun v1=>cond (v1.1.2.2.2.1 != 0) (some (U,(v1.1.2.2.2.1,[],()),())) ((fG (U,v1.1.2.2.1,())).bind fun v2=>cond (ae.1==15) (cond (aa.1 != 0) (cond (aa.1 != v2.1.2.2.2.1) (some (U,(1,[],()),())) (k.qA U aa ae ai aq v2.1)) (k.qA U aa ae ai aq v2.1)) (cond (ae.1==16) (cond (aa.1 != 0) (cond (aa.1 != v2.1.2.2.2.1) (some (U,(1,[],()),())) (cond (ae.2.2.2.1 != v2.1.2.2.2.1) (some (U,(1,[],()),())) ((w4 (aa,ae.2.2.2.2.1,())).bind fun v3=>cond (!v3.1) (some (U,(1,[],()),())) (k.nA U ai aq (v2.1.1,v2.1.2.1,v2.1.2.2.1,ae.2.2.2.1,ae.2.2.2.2.1,v2.1.2.2.2.2.2.1,v2.1.2.2.2.2.2.2.1,v2.1.2.2.2.2.2.2.2.1,v2.1.2.2.2.2.2.2.2.2.1,()))))) (k.nA U ai aq (v2.1.1,v2.1.2.1,v2.1.2.2.1,ae.2.2.2.1,ae.2.2.2.2.1,v2.1.2.2.2.2.2.1,v2.1.2.2.2.2.2.2.1,v2.1.2.2.2.2.2.2.2.1,v2.1.2.2.2.2.2.2.2.2.1,()))) (cond (v2.1.2.1 != 2) (some (U,(20,[],()),())) (k.nA U ai aq (v2.1.1,v2.1.2.1,v2.1.2.2.1,v2.1.2.2.2.1,v2.1.2.2.2.2.1,v2.1.2.2.2.2.2.1,v2.1.2.2.2.2.2.2.1,ae.2.2.2.1,ae.2.2.2.2.1,())))))
def PV(k:r')(U:ag.D)(aa:aM.D)(ae:aL.D)(ai:ag.D)(aq:an.D)(ay:J.D):Option (pH):=cond (aa.1 != 0) ((w4 (aa,ay.2.2.2.2.1,())).bind fun v1=>cond (!v1.1) (k.nA U ai aq (ay.1,ay.2.1,cZ .andNot .i64 ae.2.2.2.1 1024,ay.2.2.2.1,ay.2.2.2.2.1,ay.2.2.2.2.2.1,ay.2.2.2.2.2.2.1,ay.2.2.2.2.2.2.2.1,ay.2.2.2.2.2.2.2.2.1,())) (k.nA U ai aq (ay.1,ay.2.1,ae.2.2.2.1,ay.2.2.2.1,ay.2.2.2.2.1,ay.2.2.2.2.2.1,ay.2.2.2.2.2.2.1,ay.2.2.2.2.2.2.2.1,ay.2.2.2.2.2.2.2.2.1,()))) (k.nA U ai aq (ay.1,ay.2.1,ae.2.2.2.1,ay.2.2.2.1,ay.2.2.2.2.1,ay.2.2.2.2.2.1,ay.2.2.2.2.2.2.1,ay.2.2.2.2.2.2.2.1,ay.2.2.2.2.2.2.2.2.1,()))
def PW(k:r')(U:ag.D)(aa:ag.D)(ae:an.D)(ai:J.D):Option (pH):=(uh (U,())).bind fun v1=>(pD (v1.1,ai,())).bind fun v2=>(r7 (U,v2.1,())).bind fun v3=>some (v3.1,v3.2.1,())
def Yu(k:r'):r':=⟨Ce k,Cf k,PV k,PW k⟩
def iq:Nat→r':=eE Yu ⟨fun _ _ _ _ _ _=>none,fun _ _ _ _ _=>none,fun _ _ _ _ _ _=>none,fun _ _ _ _=>none⟩
def uu(x:ag.D×aM.D×aL.D×Unit):Option (pH):=ur (iq aK) x.1 x.2.1 x.2.2.1
abbrev It:Type:=Int→Int→Int→ag.D→Option (Int×Unit)
def Iu(cW:It)(a1:ag.D)(a2:Int):Option (Int×Unit):=(nx (a1,a2,())).bind fun v1=>cond (decide (v1.1<0)) (some (0,())) ((ix a1.2.1.length v1.1).bind fun v2=>cond ((I J a1.2.1 v2).2.1 != 2) ((Hs (a1,a2,())).bind fun v3=>some (v3.1,())) (cW v1.1 2 0 a1))
def Iv(cW:It)(U:Int)(aa:Int)(ae:Int)(ai:ag.D):Option (Int×Unit):=(ix ai.2.1.length U).bind fun v1=>cond (decide (ae<(((I J ai.2.1 v1).2.2.2.2.2.2.1).length:Int))) ((ix ai.2.1.length U).bind fun v2=>(ix (((I J ai.2.1 v2).2.2.2.2.2.2.1).length) ae).bind fun v3=>(zt (ai,(I aC ((I J ai.2.1 v2).2.2.2.2.2.2.1) v3).2.1,())).bind fun v4=>cond v4.1 (cW U (aw (aa+1)) (aw (ae+1)) ai) (cW U aa (aw (ae+1)) ai)) (some (aa,()))
def xf:Nat→It|0,_,_,_,_=>none|m+1,U,aa,ae,ai=>Iv (xf m) U aa ae ai
def Iw(x:ag.D×Int×Unit):Option (Int×Unit):=Iu (xf aK) x.1 x.2.1
structure ox where
 bs:ag.D→aM.D→aL.D→an.D→Option (an.D×Unit)
 dh:ag.D→aM.D→aL.D→an.D→a7.D→Option (an.D×Unit)
 xg:Int→aL.D→an.D→J.D→(List Int)→Option (an.D×Unit)
 uv:(aj)→Int→an.D→J.D→Option (an.D×Unit)
 Ix:(aj)→Int→an.D→J.D→Option (an.D×Unit)
def sa(k:ox)(a1:ag.D)(a2:aM.D)(a3:aL.D):Option (an.D×Unit):=cond (a3.1==18) ((ff ((a1.2.1.length:Int),())).bind fun v1=>cond (room (v1.1.length +([32]:aj).length)) ((Hw (a1,())).bind fun v2=>(ff (v2.1,())).bind fun v3=>cond (room ((v1.1++([32]:aj)).length+v3.1.length)) (some ((0,(v1.1++([32]:aj))++v3.1,()),())) (none)) (none)) (cond (a3.1==14) (cond (a3.2.2.2.1 != 0) (cond (a3.2.2.2.1 != 1) (some ((22,[],()),())) (cond (a3.1==17) ((dF (a3.2.2.2.1,0,7,())).bind fun v4=>cond (!v4.1) (some ((22,[],()),())) (k.bs a1 a2 a3 (0,[],()))) (k.bs a1 a2 a3 (0,[],())))) (cond (a3.1==17) ((dF (a3.2.2.2.1,0,7,())).bind fun v5=>cond (!v5.1) (some ((22,[],()),())) (k.bs a1 a2 a3 (0,[],()))) (k.bs a1 a2 a3 (0,[],())))) (cond (a3.1==17) ((dF (a3.2.2.2.1,0,7,())).bind fun v6=>cond (!v6.1) (some ((22,[],()),())) (k.bs a1 a2 a3 (0,[],()))) (k.bs a1 a2 a3 (0,[],()))))
def PX(k:ox)(U:ag.D)(aa:aM.D)(ae:aL.D)(ai:an.D):Option (an.D×Unit):=cond (ae.1 != 11) (cond (ae.1 != 14) ((fo (U,aa,ae.2.1,true,())).bind fun v1=>k.dh U aa ae ai v1.1) ((fo (U,aa,ae.2.1,ae.2.2.2.1==0,())).bind fun v2=>k.dh U aa ae ai v2.1)) ((fo (U,aa,ae.2.1,false,())).bind fun v3=>k.dh U aa ae ai v3.1)
def uw(k:ox)(U:ag.D)(aa:aM.D)(ae:aL.D)(ai:an.D)(aq:a7.D):Option (an.D×Unit):=cond (aq.2.2.2.1 != 0) (some ((aq.2.2.2.1,[],()),())) ((fG (U,aq.2.2.1,())).bind fun v1=>cond (ae.1==4) (cond (v1.1.2.1==2) (some ((21,[],()),())) ((kV (aa,v1.1,4,())).bind fun v2=>cond (!v2.1) (some ((13,[],()),())) (cond (decide (ae.2.2.2.1<0)) (some ((22,[],()),())) (cond (decide (ae.2.2.2.2.1<0)) (some ((22,[],()),())) (k.xg ae.2.2.2.1 ae ai v1.1 []))))) (cond (ae.1==11) (cond (v1.1.2.1 != 3) (some ((22,[],()),())) (some ((0,v1.1.2.2.2.2.2.1,()),()))) (cond (ae.1==13) (cond (!(v1.1.2.1==2)) (some ((20,[],()),())) ((kV (aa,v1.1,4,())).bind fun v3=>cond (!v3.1) (some ((13,[],()),())) (k.uv ([]:aj) 0 ai v1.1))) (cond (ae.1==14) ((ff (v1.1.2.1,())).bind fun v4=>cond (room (v4.1.length +([32]:aj).length)) ((ff (v1.1.2.2.1,())).bind fun v5=>cond (room ((v4.1++([32]:aj)).length+v5.1.length)) (cond (room (((v4.1++([32]:aj))++v5.1).length +([32]:aj).length)) ((ff (v1.1.2.2.2.1,())).bind fun v6=>cond (room ((((v4.1++([32]:aj))++v5.1)++([32]:aj)).length+v6.1.length)) (cond (room (((((v4.1++([32]:aj))++v5.1)++([32]:aj))++v6.1).length +([32]:aj).length)) ((ff (v1.1.2.2.2.2.1,())).bind fun br=>cond (room ((((((v4.1++([32]:aj))++v5.1)++([32]:aj))++v6.1)++([32]:aj)).length+br.1.length)) (cond (room (((((((v4.1++([32]:aj))++v5.1)++([32]:aj))++v6.1)++([32]:aj))++br.1).length +([32]:aj).length)) ((Iw (U,v1.1.1,())).bind fun cj=>(ff (cj.1,())).bind fun v9=>cond (room ((((((((v4.1++([32]:aj))++v5.1)++([32]:aj))++v6.1)++([32]:aj))++br.1)++([32]:aj)).length+v9.1.length)) (cond (room (((((((((v4.1++([32]:aj))++v5.1)++([32]:aj))++v6.1)++([32]:aj))++br.1)++([32]:aj))++v9.1).length +([32]:aj).length)) ((ff ((v1.1.2.2.2.2.2.1.length:Int),())).bind fun v10=>cond (room ((((((((((v4.1++([32]:aj))++v5.1)++([32]:aj))++v6.1)++([32]:aj))++br.1)++([32]:aj))++v9.1)++([32]:aj)).length+v10.1.length)) (some ((0,(((((((((v4.1++([32]:aj))++v5.1)++([32]:aj))++v6.1)++([32]:aj))++br.1)++([32]:aj))++v9.1)++([32]:aj))++v10.1,()),())) (none)) (none)) (none)) (none)) (none)) (none)) (none)) (none)) (none)) (none)) (cond (ae.1==17) ((kV (aa,v1.1,ae.2.2.2.1,())).bind fun v11=>cond (!v11.1) (some ((13,[],()),())) (some ((0,[],()),()))) (cond (!(v1.1.2.1==2)) (some ((20,[],()),())) ((kV (aa,v1.1,4,())).bind fun v12=>cond (!v12.1) (some ((13,[],()),())) ((BW (U,v1.1.1,())).bind fun hy=>(ff (v1.1.2.2.2.2.2.2.2.1,())).bind fun gI=>cond (room (gI.1.length +([32]:aj).length)) ((ff (v1.1.2.2.2.2.2.2.2.2.1,())).bind fun fR=>cond (room ((gI.1++([32]:aj)).length+fR.1.length)) (cond (room (((gI.1++([32]:aj))++fR.1).length +([32]:aj).length)) ((ff (hy.1,())).bind fun hY=>cond (room ((((gI.1++([32]:aj))++fR.1)++([32]:aj)).length+hY.1.length)) (cond (room (((((gI.1++([32]:aj))++fR.1)++([32]:aj))++hY.1).length +([32]:aj).length)) ((ff (hy.2.1,())).bind fun j9=>cond (room ((((((gI.1++([32]:aj))++fR.1)++([32]:aj))++hY.1)++([32]:aj)).length+j9.1.length)) (some ((0,(((((gI.1++([32]:aj))++fR.1)++([32]:aj))++hY.1)++([32]:aj))++j9.1,()),())) (none)) (none)) (none)) (none)) (none)) (none)))))))))
def ajj(k:ox)(U:Int)(aa:aL.D)(ae:an.D)(ai:J.D)(v2:List Int):Option (an.D×Unit):=k.xg (aw (U+1)) aa ae ai v2
def Iy(k:ox)(U:Int)(aa:aL.D)(ae:an.D)(ai:J.D)(aq:List Int):Option (an.D×Unit):=cond (decide (U<(ai.2.2.2.2.2.1.length:Int))) (cond (decide (U<aw (aa.2.2.2.1+aa.2.2.2.2.1))) ((ix ai.2.2.2.2.2.1.length U).bind fun v1=>cond (room (aq.length+[((ai.2.2.2.2.2.1.getD v1 0).toNat:Int)].length)) (ajj k U aa ae ai (aq++[((ai.2.2.2.2.2.1.getD v1 0).toNat:Int)])) (none)) (some ((0,eZ aq,()),()))) (some ((0,eZ aq,()),()))
def Iz(k:ox)(U:aj)(aa:Int)(ae:an.D)(ai:J.D):Option (an.D×Unit):=cond (decide (aa<(ai.2.2.2.2.2.2.1.length:Int))) (cond (decide (aa>0)) (cond (room (U.length +([47]:aj).length)) (k.Ix (U++([47]:aj)) aa ae ai) (none)) (k.Ix U aa ae ai)) (some ((0,U,()),()))
def PY(k:ox)(U:aj)(aa:Int)(ae:an.D)(ai:J.D):Option (an.D×Unit):=(ix ai.2.2.2.2.2.2.1.length aa).bind fun v1=>cond (room (U.length +((I aC ai.2.2.2.2.2.2.1 v1).1).length)) (k.uv (U++((I aC ai.2.2.2.2.2.2.1 v1).1)) (aw (aa+1)) ae ai) (none)
def Yv(k:ox):ox:=⟨PX k,uw k,Iy k,Iz k,PY k⟩
def fY:Nat→ox:=eE Yv ⟨fun _ _ _ _=>none,fun _ _ _ _ _=>none,fun _ _ _ _ _=>none,fun _ _ _ _=>none,fun _ _ _ _=>none⟩
def lX(x:ag.D×aM.D×aL.D×Unit):Option (an.D×Unit):=sa (fY aK) x.1 x.2.1 x.2.2.1
abbrev sb:Type:=ag.D×an.D×Unit
structure ux where
 cW:Int→ag.D→aM.D→aL.D→ag.D→an.D→Option (sb)
 dt:Int→ag.D→aM.D→aL.D→ag.D→an.D→Option (sb)
 kS:Int→ag.D→aM.D→aL.D→ag.D→an.D→Option (sb)
def zv(k:ux)(a1:ag.D)(a2:aM.D)(a3:aL.D):Option (sb):=(wX (a3,())).bind fun v1=>cond (!v1.1) (some (a1,(22,[],()),())) (cond (decide (a3.1>20)) (some (a1,(22,[],()),())) (cond (a3.1==1) (cond (a3.1==1) ((w_ (a1,a2,a3,())).bind fun v2=>some (v2.1,v2.2.1,())) (k.cW a3.1 a1 a2 a3 (0,[],()) (0,[],()))) (cond (a3.1==3) (cond (a3.1==3) ((w_ (a1,a2,a3,())).bind fun v3=>some (v3.1,v3.2.1,())) (k.cW a3.1 a1 a2 a3 (0,[],()) (0,[],()))) (cond (a3.1==10) ((w_ (a1,a2,a3,())).bind fun v4=>some (v4.1,v4.2.1,())) (k.cW a3.1 a1 a2 a3 (0,[],()) (0,[],()))))))
def ajk(k:ux)(U:Int)(aa:ag.D)(ae:aM.D)(ai:aL.D)(aq:ag.D)(ay:an.D):Option (sb):=cond (U==2) (cond (U==2) ((Ca (aa,ae,ai,())).bind fun v1=>some (v1.1,v1.2.1,())) (k.dt U aa ae ai aq ay)) (cond (U==8) ((Ca (aa,ae,ai,())).bind fun v2=>some (v2.1,v2.2.1,())) (k.dt U aa ae ai aq ay))
def ajl(k:ux)(U:Int)(aa:ag.D)(ae:aM.D)(ai:aL.D)(aq:ag.D)(ay:an.D):Option (sb):=cond (U==9) ((Ik (aa,ae,ai,())).bind fun v1=>some (v1.1,v1.2.1,())) (cond (U==12) ((Iq (aa,ae,ai,())).bind fun v2=>some (v2.1,v2.2.1,())) (cond (U==5) (cond (U==5) ((zu (aa,ae,ai,())).bind fun v3=>some (v3.1,v3.2.1,())) (k.kS U aa ae ai aq ay)) (cond (U==6) (cond (U==6) ((zu (aa,ae,ai,())).bind fun v4=>some (v4.1,v4.2.1,())) (k.kS U aa ae ai aq ay)) (cond (U==7) ((zu (aa,ae,ai,())).bind fun v5=>some (v5.1,v5.2.1,())) (k.kS U aa ae ai aq ay)))))
def ajm(k:ux)(U:Int)(aa:ag.D)(ae:aM.D)(ai:aL.D)(aq:ag.D)(ay:an.D):Option (sb):=cond (U==15) (cond (U==15) ((uu (aa,ae,ai,())).bind fun v1=>some (v1.1,v1.2.1,())) ((lX (aa,ae,ai,())).bind fun v2=>some (aa,v2.1,()))) (cond (U==16) (cond (U==16) ((uu (aa,ae,ai,())).bind fun v3=>some (v3.1,v3.2.1,())) ((lX (aa,ae,ai,())).bind fun v4=>some (aa,v4.1,()))) (cond (U==19) ((uu (aa,ae,ai,())).bind fun v5=>some (v5.1,v5.2.1,())) ((lX (aa,ae,ai,())).bind fun v6=>some (aa,v6.1,()))))
def Yw(k:ux):ux:=⟨ajk k,ajl k,ajm k⟩
def IA:Nat→ux:=eE Yw ⟨fun _ _ _ _ _ _=>none,fun _ _ _ _ _ _=>none,fun _ _ _ _ _ _=>none⟩
def xh(x:ag.D×aM.D×aL.D×Unit):Option (sb):=zv (IA aK) x.1 x.2.1 x.2.2.1
abbrev xi:Type:=aS.D×an.D×Unit
structure xj where
 dd:aS.D→aL.D→aS.D→an.D→aM.D→Option (xi)
 kS:aS.D→aL.D→aS.D→an.D→aM.D→Option (xi)
def IB(k:xj)(a1:aS.D)(a2:Int)(a3:aL.D):Option (xi):=(Pq (a2,())).bind fun v1=>(wX (a3,())).bind fun v2=>cond (!v2.1) (some (a1,(22,[],()),())) ((Pu (a1.2.1,a3.1,())).bind fun v3=>cond (!v3.2.1) (some (a1,(11,[],()),())) (cond (a3.1==21) (cond (v1.1.1 != 0) (some ((a1.1,v3.1,a1.2.2.1,a1.2.2.2.1,()),(1,[],()),())) (k.dd (a1.1,v3.1,a1.2.2.1,a1.2.2.2.1,()) a3 ((0,[],()),0,[],[],()) (0,[],()) v1.1)) (cond (a3.1==22) (cond (v1.1.1 != 0) (some ((a1.1,v3.1,a1.2.2.1,a1.2.2.2.1,()),(1,[],()),())) (k.dd (a1.1,v3.1,a1.2.2.1,a1.2.2.2.1,()) a3 ((0,[],()),0,[],[],()) (0,[],()) v1.1)) (k.dd (a1.1,v3.1,a1.2.2.1,a1.2.2.2.1,()) a3 ((0,[],()),0,[],[],()) (0,[],()) v1.1))))
def zw(k:xj)(U:aS.D)(aa:aL.D)(ae:aS.D)(ai:an.D)(aq:aM.D):Option (xi):=cond (aa.1==21) (cond (decide (aa.2.2.2.1<0)) (some (U,(22,[],()),())) ((Pw (U.2.2.1,aa.2.2.2.1,())).bind fun v1=>some (U,(0,v1.1,()),()))) (cond (aa.1==22) (some ((U.1,U.2.1,[],U.2.2.2.1,()),(0,[],()),())) ((BZ (aa.1,())).bind fun v2=>cond (!v2.1) (cond (decide ((U.2.2.1.length:Int)≥20)) (some (U,(28,[],()),())) (k.kS U aa ae ai aq)) (k.kS U aa ae ai aq)))
def PZ(k:xj)(U:aS.D)(aa:aL.D)(ae:aS.D)(ai:an.D)(aq:aM.D):Option (xi):=(xh (U.1,aq,aa,())).bind fun v1=>some ((v1.1,U.2.1,U.2.2.1,U.2.2.2.1,()),v1.2.1,())
def Yx(k:xj):xj:=⟨zw k,PZ k⟩
def qG:Nat→xj:=eE Yx ⟨fun _ _ _ _ _=>none,fun _ _ _ _ _=>none⟩
def IC(x:aS.D×Int×aL.D×Unit):Option (xi):=IB (qG aK) x.1 x.2.1 x.2.2.1
abbrev nB:Type:=aS.D×an.D×Bool×Unit
structure sc where
 dd:Int→Int→Int→Bool→aS.D→aL.D→aS.D→an.D→an.D→Option (nB)
 dt:Int→Int→Int→aS.D→aL.D→aS.D→an.D→an.D→Option (nB)
 eL:Int→Int→Int→aS.D→aS.D→an.D→an.D→Option (nB)
def ID(k:sc)(a1:aS.D)(a2:Int)(a3:Int)(a4:aL.D)(a5:Int):Option (nB):=(dF (a2,1,3,())).bind fun v1=>cond (!v1.1) (some (a1,(0,[],()),false,())) ((dF (a3,1,1000000,())).bind fun v2=>cond (!v2.1) (some (a1,(0,[],()),false,())) ((dF (a5,1,100000,())).bind fun v3=>cond (!v3.1) (some (a1,(0,[],()),false,())) ((Pm (a1,())).bind fun v4=>cond (decide (a5<v4.1)) (some (a1,(0,[],()),false,())) ((Pl (a1,a2,())).bind fun v5=>cond (a3==v5.1.2.1) (some (a1,v5.1.2.2.2.1,false,())) (cond (a3 != aw (v5.1.2.1+1)) (some (a1,(0,[],()),false,())) ((IC (a1,a2,a4,())).bind fun v6=>cond (a4.1==22) (k.dd a2 a3 a5 (v6.2.1.1==0) v6.1 a4 ((0,[],()),0,[],[],()) (0,[],()) v6.2.1) (k.dd a2 a3 a5 false v6.1 a4 ((0,[],()),0,[],[],()) (0,[],()) v6.2.1)))))))
def P0(k:sc)(U:Int)(aa:Int)(ae:Int)(ai:Bool)(aq:aS.D)(ay:aL.D)(aW:aS.D)(bq:an.D)(bw:an.D):Option (nB):=cond (decide ((aq.2.2.1.length:Int)<20)) ((wX (ay,())).bind fun v1=>cond v1.1 ((BZ (ay.1,())).bind fun v2=>cond (!v2.1) (cond (!ai) (k.dt U aa ae aq ay aW bq bw) (k.eL U aa ae aq aW bq bw)) (cond (bw.1 != 0) (cond (!ai) (k.dt U aa ae aq ay aW bq bw) (k.eL U aa ae aq aW bq bw)) (k.eL U aa ae aq aW bq bw))) (k.eL U aa ae aq aW bq bw)) (k.eL U aa ae aq aW bq bw)
def ajn(k:sc)(U:Int)(aa:Int)(ae:Int)(ai:aS.D)(ay:aS.D)(aW:an.D)(bq:an.D)(v1:List aJ.D):Option (nB):=k.eL U aa ae (ai.1,ai.2.1,v1,ai.2.2.2.1,()) ay aW bq
def P1(k:sc)(U:Int)(aa:Int)(ae:Int)(ai:aS.D)(aq:aL.D)(ay:aS.D)(aW:an.D)(bq:an.D):Option (nB):=cond (room (ai.2.2.1.length+[(ae,U,aa,aq.1,bq.1,())].length)) (ajn k U aa ae ai ay aW bq (ai.2.2.1++[(ae,U,aa,aq.1,bq.1,())])) (none)
def ajo(ai:aS.D)(aW:an.D)(v3:List aZ.D):Option (nB):=some ((ai.1,ai.2.1,ai.2.2.1,v3,()),aW,true,())
def ajp(ai:aS.D)(aW:an.D)(br:List aZ.D):Option (nB):=some ((ai.1,ai.2.1,ai.2.2.1,br,()),aW,true,())
def Yy(U:Int)(aa:Int)(ae:Int)(aW:an.D)(ai:aS.D)(v1:Int×Bool×Unit)(v5:List aZ.D):Option (nB):=cond (room (v5.length+[(U,aa,ae,aW,())].length)) ((dj ai.2.2.2.1.length v1.1 (ai.2.2.2.1.length:Int)).bind fun v6=>cond (room ((v5++[(U,aa,ae,aW,())]).length +(part ai.2.2.2.1 (0+v6.1) (v6.2-v6.1)).length)) (ajp ai aW ((v5++[(U,aa,ae,aW,())])++(part ai.2.2.2.1 (0+v6.1) (v6.2-v6.1)))) (none)) (none)
def P2(k:sc)(U:Int)(aa:Int)(ae:Int)(ai:aS.D)(aq:aS.D)(ay:an.D)(aW:an.D):Option (nB):=(HG (ai,U,())).bind fun v1=>cond v1.2.1 ((ix ai.2.2.2.1.length v1.1).bind fun v2=>ajo ai aW (ai.2.2.2.1.set (0+v2) (U,aa,ae,aW,()))) ((dj ai.2.2.2.1.length 0 v1.1).bind fun v4=>cond (room (([]:List aZ.D).length +(part ai.2.2.2.1 (0+v4.1) (v4.2-v4.1)).length)) (Yy U aa ae aW ai v1 (([]:List aZ.D)++(part ai.2.2.2.1 (0+v4.1) (v4.2-v4.1)))) (none))
def Yz(k:sc):sc:=⟨P0 k,P1 k,P2 k⟩
def sd:Nat→sc:=eE Yz ⟨fun _ _ _ _ _ _ _ _ _=>none,fun _ _ _ _ _ _ _ _=>none,fun _ _ _ _ _ _ _=>none⟩
def se(x:aS.D×Int×Int×aL.D×Int×Unit):Option (nB):=ID (sd aK) x.1 x.2.1 x.2.2.1 x.2.2.2.1 x.2.2.2.2.1
def P3(a1:aC.D)(a2:aC.D):Option (Bool×Unit):=cond (!(bx a1.1 a2.1)) (some (false,())) (cond (a1.2.1 != a2.2.1) (some (false,())) (some (true,())))
def P4(x:aC.D×aC.D×Unit):Option (Bool×Unit):=P3 x.1 x.2.1
abbrev IE:Type:=(List aC.D)→(List aC.D)→Int→Option (Bool×Unit)
def IF(bn:IE)(a1:List aC.D)(a2:List aC.D):Option (Bool×Unit):=cond ((a1.length:Int) !=(a2.length:Int)) (some (false,())) (bn a1 a2 0)
def IG(bn:IE)(U:List aC.D)(aa:List aC.D)(ae:Int):Option (Bool×Unit):=cond (decide (ae<(U.length:Int))) ((ix U.length ae).bind fun v1=>(ix aa.length ae).bind fun v2=>(P4 (I aC U v1,I aC aa v2,())).bind fun v3=>cond (!v3.1) (some (false,())) (bn U aa (aw (ae+1)))) (some (true,()))
def xk:Nat→IE|0,_,_,_=>none|m+1,U,aa,ae=>IG (xk m) U aa ae
def P5(x:(List aC.D)×(List aC.D)×Unit):Option (Bool×Unit):=IF (xk aK) x.1 x.2.1
def P6(a1:J.D)(a2:J.D):Option (Bool×Unit):=cond (a1.1 != a2.1) (some (false,())) (cond (a1.2.1 != a2.2.1) (some (false,())) (cond (a1.2.2.1 != a2.2.2.1) (some (false,())) (cond (a1.2.2.2.1 != a2.2.2.2.1) (some (false,())) (cond (a1.2.2.2.2.1 != a2.2.2.2.2.1) (some (false,())) (cond (!(bx a1.2.2.2.2.2.1 a2.2.2.2.2.2.1)) (some (false,())) ((P5 (a1.2.2.2.2.2.2.1,a2.2.2.2.2.2.2.1,())).bind fun v1=>cond (!v1.1) (some (false,())) (cond (a1.2.2.2.2.2.2.2.1 != a2.2.2.2.2.2.2.2.1) (some (false,())) (cond (a1.2.2.2.2.2.2.2.2.1 != a2.2.2.2.2.2.2.2.2.1) (some (false,())) (some (true,()))))))))))
def P7(x:J.D×J.D×Unit):Option (Bool×Unit):=P6 x.1 x.2.1
abbrev IH:Type:=(List J.D)→(List J.D)→Int→Option (Bool×Unit)
def II(bn:IH)(a1:List J.D)(a2:List J.D):Option (Bool×Unit):=cond ((a1.length:Int) !=(a2.length:Int)) (some (false,())) (bn a1 a2 0)
def IJ(bn:IH)(U:List J.D)(aa:List J.D)(ae:Int):Option (Bool×Unit):=cond (decide (ae<(U.length:Int))) ((ix U.length ae).bind fun v1=>(ix aa.length ae).bind fun v2=>(P7 (I J U v1,I J aa v2,())).bind fun v3=>cond (!v3.1) (some (false,())) (bn U aa (aw (ae+1)))) (some (true,()))
def xl:Nat→IH|0,_,_,_=>none|m+1,U,aa,ae=>IJ (xl m) U aa ae
def P8(x:(List J.D)×(List J.D)×Unit):Option (Bool×Unit):=II (xl aK) x.1 x.2.1
def P9(a1:ag.D)(a2:ag.D):Option (Bool×Unit):=cond (a1.1 != a2.1) (some (false,())) ((P8 (a1.2.1,a2.2.1,())).bind fun v1=>cond (!v1.1) (some (false,())) (some (true,())))
def P_(x:ag.D×ag.D×Unit):Option (Bool×Unit):=P9 x.1 x.2.1
def P'(a1:aJ.D)(a2:aJ.D):Option (Bool×Unit):=cond (a1.1 != a2.1) (some (false,())) (cond (a1.2.1 != a2.2.1) (some (false,())) (cond (a1.2.2.1 != a2.2.2.1) (some (false,())) (cond (a1.2.2.2.1 != a2.2.2.2.1) (some (false,())) (cond (a1.2.2.2.2.1 != a2.2.2.2.2.1) (some (false,())) (some (true,()))))))
def Qa(x:aJ.D×aJ.D×Unit):Option (Bool×Unit):=P' x.1 x.2.1
abbrev IK:Type:=(List aJ.D)→(List aJ.D)→Int→Option (Bool×Unit)
def IL(bn:IK)(a1:List aJ.D)(a2:List aJ.D):Option (Bool×Unit):=cond ((a1.length:Int) !=(a2.length:Int)) (some (false,())) (bn a1 a2 0)
def IM(bn:IK)(U:List aJ.D)(aa:List aJ.D)(ae:Int):Option (Bool×Unit):=cond (decide (ae<(U.length:Int))) ((ix U.length ae).bind fun v1=>(ix aa.length ae).bind fun v2=>(Qa (I aJ U v1,I aJ aa v2,())).bind fun v3=>cond (!v3.1) (some (false,())) (bn U aa (aw (ae+1)))) (some (true,()))
def xm:Nat→IK|0,_,_,_=>none|m+1,U,aa,ae=>IM (xm m) U aa ae
def Qb(x:(List aJ.D)×(List aJ.D)×Unit):Option (Bool×Unit):=IL (xm aK) x.1 x.2.1
def Qc(a1:an.D)(a2:an.D):Option (Bool×Unit):=cond (a1.1 != a2.1) (some (false,())) (cond (!(bx a1.2.1 a2.2.1)) (some (false,())) (some (true,())))
def Qd(x:an.D×an.D×Unit):Option (Bool×Unit):=Qc x.1 x.2.1
def Qe(a1:aZ.D)(a2:aZ.D):Option (Bool×Unit):=cond (a1.1 != a2.1) (some (false,())) (cond (a1.2.1 != a2.2.1) (some (false,())) (cond (a1.2.2.1 != a2.2.2.1) (some (false,())) ((Qd (a1.2.2.2.1,a2.2.2.2.1,())).bind fun v1=>cond (!v1.1) (some (false,())) (some (true,())))))
def Qf(x:aZ.D×aZ.D×Unit):Option (Bool×Unit):=Qe x.1 x.2.1
abbrev IN:Type:=(List aZ.D)→(List aZ.D)→Int→Option (Bool×Unit)
def IP(bn:IN)(a1:List aZ.D)(a2:List aZ.D):Option (Bool×Unit):=cond ((a1.length:Int) !=(a2.length:Int)) (some (false,())) (bn a1 a2 0)
def IQ(bn:IN)(U:List aZ.D)(aa:List aZ.D)(ae:Int):Option (Bool×Unit):=cond (decide (ae<(U.length:Int))) ((ix U.length ae).bind fun v1=>(ix aa.length ae).bind fun v2=>(Qf (I aZ U v1,I aZ aa v2,())).bind fun v3=>cond (!v3.1) (some (false,())) (bn U aa (aw (ae+1)))) (some (true,()))
def xn:Nat→IN|0,_,_,_=>none|m+1,U,aa,ae=>IQ (xn m) U aa ae
def Qg(x:(List aZ.D)×(List aZ.D)×Unit):Option (Bool×Unit):=IP (xn aK) x.1 x.2.1
def Qh(a1:aS.D)(a2:aS.D):Option (Bool×Unit):=(P_ (a1.1,a2.1,())).bind fun v1=>cond (!v1.1) (some (false,())) (cond (a1.2.1 != a2.2.1) (some (false,())) ((Qb (a1.2.2.1,a2.2.2.1,())).bind fun v2=>cond (!v2.1) (some (false,())) ((Qg (a1.2.2.2.1,a2.2.2.2.1,())).bind fun v3=>cond (!v3.1) (some (false,())) (some (true,())))))
def Cg(x:aS.D×aS.D×Unit):Option (Bool×Unit):=Qh x.1 x.2.1
abbrev IS:Type:=Int→(aj)→Option ((aj)×Unit)
def IT(bn:IS)(a1:Int):Option ((aj)×Unit):=cond (decide (a1≤0)) (some (([109,48]:aj),())) (bn a1 [])
def IU(bn:IS)(U:Int)(aa:aj):Option ((aj)×Unit):=cond (decide (U>0)) (cond (room ((eZ [IntKind.wrap .u8 (aw (48+Int.tmod U 10))]).length+aa.length)) (bn (aw (Int.tdiv U 10)) ((eZ [IntKind.wrap .u8 (aw (48+Int.tmod U 10))])++aa)) (none)) (cond (room (([109]:aj).length+aa.length)) (some (([109]:aj)++aa,())) (none))
def xp:Nat→IS|0,_,_=>none|m+1,U,aa=>IU (xp m) U aa
def pI(x:Int×Unit):Option ((aj)×Unit):=IT (xp aK) x.1
abbrev xq:Type:=Int×(List aC.D)×Unit
abbrev zx:Type:=Int→Int→(List aC.D)→Option (xq)
def IV(k2:zx)(a1:List aC.D)(a2:Int):Option (xq):=k2 a2 0 a1
def YA(k2:zx)(U:Int)(aa:Int)(v5:List aC.D):Option (xq):=k2 (aw (aw (U+1)+1)) (aw (aa+1)) v5
def YB(k2:zx)(aa:Int)(U:Int)(v3:List aC.D):Option (xq):=(ix v3.length aa).bind fun v4=>YA k2 U aa (v3.set (0+v4) ((I aC v3 (0+v4)).1,aw (U+1),()))
def IW(k2:zx)(U:Int)(aa:Int)(ae:List aC.D):Option (xq):=cond (decide (aa<(ae.length:Int))) ((pI (U,())).bind fun v1=>(ix ae.length aa).bind fun v2=>YB k2 aa U (ae.set (0+v2) (v1.1,(I aC ae (0+v2)).2.1,()))) (some (U,ae,()))
def sf:Nat→zx|0,_,_,_=>none|m+1,U,aa,ae=>IW (sf m) U aa ae
def Qi(x:(List aC.D)×Int×Unit):Option (xq):=IV (sf aK) x.1 x.2.1
abbrev mG:Type:=Int×(List J.D)×Unit
abbrev nC:Type:=Int→Int→(List J.D)→Option (mG)
def IX(k2:nC)(a1:List J.D)(a2:Int):Option (mG):=k2 a2 0 a1
def YC(k2:nC)(fR:Int×(List aC.D)×Unit)(aa:Int)(v20:List J.D):Option (mG):=k2 (aw (aw (fR.1+1)+1)) (aw (aa+1)) v20
def YD(k2:nC)(aa:Int)(fR:Int×(List aC.D)×Unit)(nD:List J.D):Option (mG):=(ix nD.length aa).bind fun pJ=>YC k2 fR aa (nD.set (0+pJ) ((I J nD (0+pJ)).1,(I J nD (0+pJ)).2.1,(I J nD (0+pJ)).2.2.1,(I J nD (0+pJ)).2.2.2.1,(I J nD (0+pJ)).2.2.2.2.1,(I J nD (0+pJ)).2.2.2.2.2.1,(I J nD (0+pJ)).2.2.2.2.2.2.1,(I J nD (0+pJ)).2.2.2.2.2.2.2.1,aw (fR.1+1),()))
def YE(k2:nC)(aa:Int)(fR:Int×(List aC.D)×Unit)(hY:List J.D):Option (mG):=(ix hY.length aa).bind fun j9=>YD k2 aa fR (hY.set (0+j9) ((I J hY (0+j9)).1,(I J hY (0+j9)).2.1,(I J hY (0+j9)).2.2.1,(I J hY (0+j9)).2.2.2.1,(I J hY (0+j9)).2.2.2.2.1,(I J hY (0+j9)).2.2.2.2.2.1,(I J hY (0+j9)).2.2.2.2.2.2.1,fR.1,(I J hY (0+j9)).2.2.2.2.2.2.2.2.1,()))
def YF(k2:nC)(aa:Int)(U:Int)(hy:List J.D):Option (mG):=(ix hy.length aa).bind fun gI=>(Qi ((I J hy (0+gI)).2.2.2.2.2.2.1,aw (aw (aw (aw (aw (aw (U+1)+1)+1)+1)+1)+1),())).bind fun fR=>YE k2 aa fR (hy.set (0+gI) ((I J hy (0+gI)).1,(I J hy (0+gI)).2.1,(I J hy (0+gI)).2.2.1,(I J hy (0+gI)).2.2.2.1,(I J hy (0+gI)).2.2.2.2.1,(I J hy (0+gI)).2.2.2.2.2.1,fR.2.1,(I J hy (0+gI)).2.2.2.2.2.2.2.1,(I J hy (0+gI)).2.2.2.2.2.2.2.2.1,()))
def YG(k2:nC)(U:Int)(aa:Int)(v10:List J.D):Option (mG):=(pI (aw (aw (aw (aw (aw (U+1)+1)+1)+1)+1),())).bind fun v11=>(ix v10.length aa).bind fun v12=>YF k2 aa U (v10.set (0+v12) ((I J v10 (0+v12)).1,(I J v10 (0+v12)).2.1,(I J v10 (0+v12)).2.2.1,(I J v10 (0+v12)).2.2.2.1,(I J v10 (0+v12)).2.2.2.2.1,v11.1,(I J v10 (0+v12)).2.2.2.2.2.2.1,(I J v10 (0+v12)).2.2.2.2.2.2.2.1,(I J v10 (0+v12)).2.2.2.2.2.2.2.2.1,()))
def YH(k2:nC)(aa:Int)(U:Int)(cj:List J.D):Option (mG):=(ix cj.length aa).bind fun v9=>YG k2 U aa (cj.set (0+v9) ((I J cj (0+v9)).1,(I J cj (0+v9)).2.1,(I J cj (0+v9)).2.2.1,(I J cj (0+v9)).2.2.2.1,aw (aw (aw (aw (U+1)+1)+1)+1),(I J cj (0+v9)).2.2.2.2.2.1,(I J cj (0+v9)).2.2.2.2.2.2.1,(I J cj (0+v9)).2.2.2.2.2.2.2.1,(I J cj (0+v9)).2.2.2.2.2.2.2.2.1,()))
def YI(k2:nC)(aa:Int)(U:Int)(v6:List J.D):Option (mG):=(ix v6.length aa).bind fun br=>YH k2 aa U (v6.set (0+br) ((I J v6 (0+br)).1,(I J v6 (0+br)).2.1,(I J v6 (0+br)).2.2.1,aw (aw (aw (U+1)+1)+1),(I J v6 (0+br)).2.2.2.2.1,(I J v6 (0+br)).2.2.2.2.2.1,(I J v6 (0+br)).2.2.2.2.2.2.1,(I J v6 (0+br)).2.2.2.2.2.2.2.1,(I J v6 (0+br)).2.2.2.2.2.2.2.2.1,()))
def YJ(k2:nC)(aa:Int)(U:Int)(v4:List J.D):Option (mG):=(ix v4.length aa).bind fun v5=>YI k2 aa U (v4.set (0+v5) ((I J v4 (0+v5)).1,(I J v4 (0+v5)).2.1,aw (aw (U+1)+1),(I J v4 (0+v5)).2.2.2.1,(I J v4 (0+v5)).2.2.2.2.1,(I J v4 (0+v5)).2.2.2.2.2.1,(I J v4 (0+v5)).2.2.2.2.2.2.1,(I J v4 (0+v5)).2.2.2.2.2.2.2.1,(I J v4 (0+v5)).2.2.2.2.2.2.2.2.1,()))
def YK(k2:nC)(aa:Int)(U:Int)(v2:List J.D):Option (mG):=(ix v2.length aa).bind fun v3=>YJ k2 aa U (v2.set (0+v3) ((I J v2 (0+v3)).1,aw (U+1),(I J v2 (0+v3)).2.2.1,(I J v2 (0+v3)).2.2.2.1,(I J v2 (0+v3)).2.2.2.2.1,(I J v2 (0+v3)).2.2.2.2.2.1,(I J v2 (0+v3)).2.2.2.2.2.2.1,(I J v2 (0+v3)).2.2.2.2.2.2.2.1,(I J v2 (0+v3)).2.2.2.2.2.2.2.2.1,()))
def IY(k2:nC)(U:Int)(aa:Int)(ae:List J.D):Option (mG):=cond (decide (aa<(ae.length:Int))) ((ix ae.length aa).bind fun v1=>YK k2 aa U (ae.set (0+v1) (U,(I J ae (0+v1)).2.1,(I J ae (0+v1)).2.2.1,(I J ae (0+v1)).2.2.2.1,(I J ae (0+v1)).2.2.2.2.1,(I J ae (0+v1)).2.2.2.2.2.1,(I J ae (0+v1)).2.2.2.2.2.2.1,(I J ae (0+v1)).2.2.2.2.2.2.2.1,(I J ae (0+v1)).2.2.2.2.2.2.2.2.1,()))) (some (U,ae,()))
def sg:Nat→nC|0,_,_,_=>none|m+1,U,aa,ae=>IY (sg m) U aa ae
def Qj(x:(List J.D)×Int×Unit):Option (mG):=IX (sg aK) x.1 x.2.1
def Qk(a1:ag.D)(a2:Int):Option (Int×ag.D×Unit):=(Qj (a1.2.1,a2,())).bind fun v1=>some (v1.1,(a1.1,v1.2.1,()),())
def IZ(x:ag.D×Int×Unit):Option (Int×ag.D×Unit):=Qk x.1 x.2.1
abbrev qH:Type:=Int×(List aJ.D)×Unit
abbrev sh:Type:=Int→Int→(List aJ.D)→Option (qH)
def I0(k2:sh)(a1:List aJ.D)(a2:Int):Option (qH):=k2 a2 0 a1
def YL(k2:sh)(U:Int)(aa:Int)(v10:List aJ.D):Option (qH):=k2 (aw (aw (aw (aw (aw (U+1)+1)+1)+1)+1)) (aw (aa+1)) v10
def YM(k2:sh)(aa:Int)(U:Int)(cj:List aJ.D):Option (qH):=(ix cj.length aa).bind fun v9=>YL k2 U aa (cj.set (0+v9) ((I aJ cj (0+v9)).1,(I aJ cj (0+v9)).2.1,(I aJ cj (0+v9)).2.2.1,(I aJ cj (0+v9)).2.2.2.1,aw (aw (aw (aw (U+1)+1)+1)+1),()))
def YN(k2:sh)(aa:Int)(U:Int)(v6:List aJ.D):Option (qH):=(ix v6.length aa).bind fun br=>YM k2 aa U (v6.set (0+br) ((I aJ v6 (0+br)).1,(I aJ v6 (0+br)).2.1,(I aJ v6 (0+br)).2.2.1,aw (aw (aw (U+1)+1)+1),(I aJ v6 (0+br)).2.2.2.2.1,()))
def YO(k2:sh)(aa:Int)(U:Int)(v4:List aJ.D):Option (qH):=(ix v4.length aa).bind fun v5=>YN k2 aa U (v4.set (0+v5) ((I aJ v4 (0+v5)).1,(I aJ v4 (0+v5)).2.1,aw (aw (U+1)+1),(I aJ v4 (0+v5)).2.2.2.1,(I aJ v4 (0+v5)).2.2.2.2.1,()))
def YP(k2:sh)(aa:Int)(U:Int)(v2:List aJ.D):Option (qH):=(ix v2.length aa).bind fun v3=>YO k2 aa U (v2.set (0+v3) ((I aJ v2 (0+v3)).1,aw (U+1),(I aJ v2 (0+v3)).2.2.1,(I aJ v2 (0+v3)).2.2.2.1,(I aJ v2 (0+v3)).2.2.2.2.1,()))
def I1(k2:sh)(U:Int)(aa:Int)(ae:List aJ.D):Option (qH):=cond (decide (aa<(ae.length:Int))) ((ix ae.length aa).bind fun v1=>YP k2 aa U (ae.set (0+v1) (U,(I aJ ae (0+v1)).2.1,(I aJ ae (0+v1)).2.2.1,(I aJ ae (0+v1)).2.2.2.1,(I aJ ae (0+v1)).2.2.2.2.1,()))) (some (U,ae,()))
def si:Nat→sh|0,_,_,_=>none|m+1,U,aa,ae=>I1 (si m) U aa ae
def Ql(x:(List aJ.D)×Int×Unit):Option (qH):=I0 (si aK) x.1 x.2.1
abbrev qI:Type:=Int×(List aZ.D)×Unit
abbrev sj:Type:=Int→Int→(List aZ.D)→Option (qI)
def I2(k2:sj)(a1:List aZ.D)(a2:Int):Option (qI):=k2 a2 0 a1
def YQ(k2:sj)(U:Int)(aa:Int)(v11:List aZ.D):Option (qI):=k2 (aw (aw (aw (aw (aw (U+1)+1)+1)+1)+1)) (aw (aa+1)) v11
def YR(k2:sj)(U:Int)(aa:Int)(cj:List aZ.D):Option (qI):=(pI (aw (aw (aw (aw (U+1)+1)+1)+1),())).bind fun v9=>(ix cj.length aa).bind fun v10=>YQ k2 U aa (cj.set (0+v10) ((I aZ cj (0+v10)).1,(I aZ cj (0+v10)).2.1,(I aZ cj (0+v10)).2.2.1,(((I aZ cj (0+v10)).2.2.2.1).1,v9.1,()),()))
def YS(k2:sj)(aa:Int)(U:Int)(v6:List aZ.D):Option (qI):=(ix v6.length aa).bind fun br=>YR k2 U aa (v6.set (0+br) ((I aZ v6 (0+br)).1,(I aZ v6 (0+br)).2.1,(I aZ v6 (0+br)).2.2.1,(aw (aw (aw (U+1)+1)+1),((I aZ v6 (0+br)).2.2.2.1).2.1,()),()))
def YT(k2:sj)(aa:Int)(U:Int)(v4:List aZ.D):Option (qI):=(ix v4.length aa).bind fun v5=>YS k2 aa U (v4.set (0+v5) ((I aZ v4 (0+v5)).1,(I aZ v4 (0+v5)).2.1,aw (aw (U+1)+1),(I aZ v4 (0+v5)).2.2.2.1,()))
def YU(k2:sj)(aa:Int)(U:Int)(v2:List aZ.D):Option (qI):=(ix v2.length aa).bind fun v3=>YT k2 aa U (v2.set (0+v3) ((I aZ v2 (0+v3)).1,aw (U+1),(I aZ v2 (0+v3)).2.2.1,(I aZ v2 (0+v3)).2.2.2.1,()))
def I3(k2:sj)(U:Int)(aa:Int)(ae:List aZ.D):Option (qI):=cond (decide (aa<(ae.length:Int))) ((ix ae.length aa).bind fun v1=>YU k2 aa U (ae.set (0+v1) (U,(I aZ ae (0+v1)).2.1,(I aZ ae (0+v1)).2.2.1,(I aZ ae (0+v1)).2.2.2.1,()))) (some (U,ae,()))
def sk:Nat→sj|0,_,_,_=>none|m+1,U,aa,ae=>I3 (sk m) U aa ae
def Qm(x:(List aZ.D)×Int×Unit):Option (qI):=I2 (sk aK) x.1 x.2.1
abbrev YV:Type:=Int×aS.D×Unit
def Qn(a1:aS.D)(a2:Int):Option (YV):=(IZ (a1.1,a2,())).bind fun v1=>(Ql (a1.2.2.1,v1.1,())).bind fun v2=>(Qm (a1.2.2.2.1,v2.1,())).bind fun v3=>some (v3.1,((a1.1.1,v1.2.1.2.1,()),a1.2.1,v2.2.1,v3.2.1,()),())
def I4(x:aS.D×Int×Unit):Option (YV):=Qn x.1 x.2.1
abbrev I5:Type:=(List aC.D)→Int→Int→Option (Int×Unit)
def I6(k2:I5)(a1:List aC.D)(a2:Int):Option (Int×Unit):=k2 a1 a2 0
def I7(k2:I5)(U:List aC.D)(aa:Int)(ae:Int):Option (Int×Unit):=cond (decide (ae<(U.length:Int))) ((ix U.length ae).bind fun v1=>(pI (aa,())).bind fun v2=>cond (!(bx ((I aC U v1).1) v2.1)) (some ((-1),())) ((ix U.length ae).bind fun v3=>cond ((I aC U v3).2.1 != aw (aa+1)) (some ((-1),())) (k2 U (aw (aw (aa+1)+1)) (aw (ae+1))))) (some (aa,()))
def sm:Nat→I5|0,_,_,_=>none|m+1,U,aa,ae=>I7 (sm m) U aa ae
def Qo(x:(List aC.D)×Int×Unit):Option (Int×Unit):=I6 (sm aK) x.1 x.2.1
abbrev I8:Type:=(List J.D)→Int→Int→Option (Int×Unit)
def I9(k2:I8)(a1:List J.D)(a2:Int):Option (Int×Unit):=k2 a1 a2 0
def I_(k2:I8)(U:List J.D)(aa:Int)(ae:Int):Option (Int×Unit):=cond (decide (ae<(U.length:Int))) ((ix U.length ae).bind fun v1=>cond ((I J U v1).1 != aa) (some ((-1),())) ((ix U.length ae).bind fun v2=>cond ((I J U v2).2.1 != aw (aa+1)) (some ((-1),())) ((ix U.length ae).bind fun v3=>cond ((I J U v3).2.2.1 != aw (aw (aa+1)+1)) (some ((-1),())) ((ix U.length ae).bind fun v4=>cond ((I J U v4).2.2.2.1 != aw (aw (aw (aa+1)+1)+1)) (some ((-1),())) ((ix U.length ae).bind fun v5=>cond ((I J U v5).2.2.2.2.1 != aw (aw (aw (aw (aa+1)+1)+1)+1)) (some ((-1),())) ((ix U.length ae).bind fun v6=>(pI (aw (aw (aw (aw (aw (aa+1)+1)+1)+1)+1),())).bind fun br=>cond (!(bx ((I J U v6).2.2.2.2.2.1) br.1)) (some ((-1),())) ((ix U.length ae).bind fun cj=>(Qo ((I J U cj).2.2.2.2.2.2.1,aw (aw (aw (aw (aw (aw (aa+1)+1)+1)+1)+1)+1),())).bind fun v9=>cond (decide (v9.1<0)) (some ((-1),())) ((ix U.length ae).bind fun v10=>cond ((I J U v10).2.2.2.2.2.2.2.1 != v9.1) (some ((-1),())) ((ix U.length ae).bind fun v11=>cond ((I J U v11).2.2.2.2.2.2.2.2.1 != aw (v9.1+1)) (some ((-1),())) (k2 U (aw (aw (v9.1+1)+1)) (aw (ae+1)))))))))))) (some (aa,()))
def sn:Nat→I8|0,_,_,_=>none|m+1,U,aa,ae=>I_ (sn m) U aa ae
def Qp(x:(List J.D)×Int×Unit):Option (Int×Unit):=I9 (sn aK) x.1 x.2.1
def Qq(a1:ag.D)(a2:Int):Option (Int×Unit):=(Qp (a1.2.1,a2,())).bind fun v1=>cond (decide (v1.1<0)) (some ((-1),())) (some (v1.1,()))
def Qr(x:ag.D×Int×Unit):Option (Int×Unit):=Qq x.1 x.2.1
abbrev I':Type:=(List aJ.D)→Int→Int→Option (Int×Unit)
def Ja(k2:I')(a1:List aJ.D)(a2:Int):Option (Int×Unit):=k2 a1 a2 0
def Jb(k2:I')(U:List aJ.D)(aa:Int)(ae:Int):Option (Int×Unit):=cond (decide (ae<(U.length:Int))) ((ix U.length ae).bind fun v1=>cond ((I aJ U v1).1 != aa) (some ((-1),())) ((ix U.length ae).bind fun v2=>cond ((I aJ U v2).2.1 != aw (aa+1)) (some ((-1),())) ((ix U.length ae).bind fun v3=>cond ((I aJ U v3).2.2.1 != aw (aw (aa+1)+1)) (some ((-1),())) ((ix U.length ae).bind fun v4=>cond ((I aJ U v4).2.2.2.1 != aw (aw (aw (aa+1)+1)+1)) (some ((-1),())) ((ix U.length ae).bind fun v5=>cond ((I aJ U v5).2.2.2.2.1 != aw (aw (aw (aw (aa+1)+1)+1)+1)) (some ((-1),())) (k2 U (aw (aw (aw (aw (aw (aa+1)+1)+1)+1)+1)) (aw (ae+1)))))))) (some (aa,()))
def so:Nat→I'|0,_,_,_=>none|m+1,U,aa,ae=>Jb (so m) U aa ae
def Qs(x:(List aJ.D)×Int×Unit):Option (Int×Unit):=Ja (so aK) x.1 x.2.1
abbrev Jc:Type:=(List aZ.D)→Int→Int→Option (Int×Unit)
def Jd(k2:Jc)(a1:List aZ.D)(a2:Int):Option (Int×Unit):=k2 a1 a2 0
def Je(k2:Jc)(U:List aZ.D)(aa:Int)(ae:Int):Option (Int×Unit):=cond (decide (ae<(U.length:Int))) ((ix U.length ae).bind fun v1=>cond ((I aZ U v1).1 != aa) (some ((-1),())) ((ix U.length ae).bind fun v2=>cond ((I aZ U v2).2.1 != aw (aa+1)) (some ((-1),())) ((ix U.length ae).bind fun v3=>cond ((I aZ U v3).2.2.1 != aw (aw (aa+1)+1)) (some ((-1),())) ((ix U.length ae).bind fun v4=>cond (((I aZ U v4).2.2.2.1).1 != aw (aw (aw (aa+1)+1)+1)) (some ((-1),())) ((ix U.length ae).bind fun v5=>(pI (aw (aw (aw (aw (aa+1)+1)+1)+1),())).bind fun v6=>cond (!(bx (((I aZ U v5).2.2.2.1).2.1) v6.1)) (some ((-1),())) (k2 U (aw (aw (aw (aw (aw (aa+1)+1)+1)+1)+1)) (aw (ae+1)))))))) (some (aa,()))
def sq:Nat→Jc|0,_,_,_=>none|m+1,U,aa,ae=>Je (sq m) U aa ae
def Qt(x:(List aZ.D)×Int×Unit):Option (Int×Unit):=Jd (sq aK) x.1 x.2.1
def Qu(a1:aS.D)(a2:Int):Option (Int×Unit):=(Qr (a1.1,a2,())).bind fun v1=>cond (decide (v1.1<0)) (some ((-1),())) ((Qs (a1.2.2.1,v1.1,())).bind fun v2=>cond (decide (v2.1<0)) (some ((-1),())) ((Qt (a1.2.2.2.1,v2.1,())).bind fun v3=>cond (decide (v3.1<0)) (some ((-1),())) (some (v3.1,()))))
def Ch(x:aS.D×Int×Unit):Option (Int×Unit):=Qu x.1 x.2.1
end
noncomputable section
def ajq  : Option (ag.D×Unit):=some ((2,[(1,2,493,0,0,[],[],0,0,())],()),())
def YW(x:Unit):Option (ag.D×Unit):=ajq
def ajr  : Option (ag.D×Unit):=some ((2,[(1,2,493,0,0,[],[],0,0,())],()),())
def au5(x:Unit):Option (ag.D×Unit):=ajr
def ajs(v1:ag.D×Unit)(v3:List J.D):Option (aS.D×Unit):=some (((v1.1.1,v3,()),30,[],[],()),())
def ajt  : Option (aS.D×Unit):=(YW ()).bind fun v1=>(ix v1.1.2.1.length 0).bind fun v2=>ajs v1 (v1.1.2.1.set (0+v2) ((I J v1.1.2.1 (0+v2)).1,(I J v1.1.2.1 (0+v2)).2.1,1023,(I J v1.1.2.1 (0+v2)).2.2.2.1,(I J v1.1.2.1 (0+v2)).2.2.2.2.1,(I J v1.1.2.1 (0+v2)).2.2.2.2.2.1,(I J v1.1.2.1 (0+v2)).2.2.2.2.2.2.1,(I J v1.1.2.1 (0+v2)).2.2.2.2.2.2.2.1,(I J v1.1.2.1 (0+v2)).2.2.2.2.2.2.2.2.1,()))
def Qv(x:Unit):Option (aS.D×Unit):=ajt
def Qw(a1:Int):Option (Int×Unit):=cond (decide (a1<0)) (some (4,())) (cond (decide (a1≥26)) (some (30,())) (some (aw (a1+4),())))
def Qx(x:Int×Unit):Option (Int×Unit):=Qw x.1
def Qy(a1:an.D)(a2:Int):Option (Int×Unit):=cond (decide (aw (a2-(a1.2.1.length:Int))<0)) (some ((-1),())) (some (aw (a2-(a1.2.1.length:Int)),()))
def Qz(x:an.D×Int×Unit):Option (Int×Unit):=Qy x.1 x.2.1
abbrev Jf:Type:=(List an.D)→Int→Int→Option (Int×Unit)
def Jg(bs:Jf)(a1:List an.D)(a2:Int):Option (Int×Unit):=cond (decide (aw (a2-(a1.length:Int))<0)) (some ((-1),())) (bs a1 (aw (a2-(a1.length:Int))) 0)
def Jh(bs:Jf)(U:List an.D)(aa:Int)(ae:Int):Option (Int×Unit):=cond (decide (ae<(U.length:Int))) ((ix U.length ae).bind fun v1=>(Qz (I an U v1,aa,())).bind fun v2=>cond (decide (v2.1<0)) (some ((-1),())) (bs U v2.1 (aw (ae+1)))) (some (aa,()))
def xr:Nat→Jf|0,_,_,_=>none|m+1,U,aa,ae=>Jh (xr m) U aa ae
def QA(x:(List an.D)×Int×Unit):Option (Int×Unit):=Jg (xr aK) x.1 x.2.1
def QB(a1:Int):Option (Bool×Unit):=cond (decide (a1≥0)) (some (decide (a1<3),())) (some (false,()))
def QC(x:Int×Unit):Option (Bool×Unit):=QB x.1
def QD(a1:aQ.D):Option (Bool×Unit):=(dF (a1.1,0,2,())).bind fun v1=>cond v1.1 ((dF (a1.2.1,1,3,())).bind fun v2=>cond v2.1 ((dF (a1.2.2.1,1,1000000,())).bind fun v3=>cond v3.1 ((wX (a1.2.2.2.1,())).bind fun v4=>some (v4.1,())) (some (false,()))) (some (false,()))) (some (false,()))
def QE(x:aQ.D×Unit):Option (Bool×Unit):=QD x.1
abbrev Ji:Type:=(List aQ.D)→Int→Int→Option (Bool×Unit)
def Jj(k2:Ji)(a1:List aQ.D)(a2:Int):Option (Bool×Unit):=k2 a1 a2 0
def Jk(k2:Ji)(U:List aQ.D)(aa:Int)(ae:Int):Option (Bool×Unit):=cond (decide (ae<(U.length:Int))) ((ix U.length ae).bind fun v1=>(QE (I aQ U v1,())).bind fun v2=>cond (!v2.1) (some (false,())) (cond (decide (ae>0)) ((ix U.length (aw (ae-1))).bind fun v3=>(ix U.length ae).bind fun v4=>cond (decide ((I aQ U v3).1 >(I aQ U v4).1)) (some (false,())) (cond (decide (ae≥aa)) ((ix U.length (aw (ae-aa))).bind fun v5=>(ix U.length ae).bind fun v6=>cond ((I aQ U v5).1 ==(I aQ U v6).1) (some (false,())) (k2 U aa (aw (ae+1)))) (k2 U aa (aw (ae+1))))) (cond (decide (ae≥aa)) ((ix U.length (aw (ae-aa))).bind fun br=>(ix U.length ae).bind fun cj=>cond ((I aQ U br).1 ==(I aQ U cj).1) (some (false,())) (k2 U aa (aw (ae+1)))) (k2 U aa (aw (ae+1)))))) (some (true,()))
def qJ:Nat→Ji|0,_,_,_=>none|m+1,U,aa,ae=>Jk (qJ m) U aa ae
def Jl(x:(List aQ.D)×Int×Unit):Option (Bool×Unit):=Jj (qJ aK) x.1 x.2.1
def QF(a1:List aQ.D):Option (Bool×Unit):=(Jl (a1,2,())).bind fun v1=>some (v1.1,())
def QG(x:(List aQ.D)×Unit):Option (Bool×Unit):=QF x.1
abbrev Ci:Type:=Int→(List Int)→Option ((aj)×Unit)
def Jm(bn:Ci)(a1:Int):Option ((aj)×Unit):=(dF (a1,0,562949953421311,())).bind fun v1=>cond (!v1.1) (some ([],())) (bn a1 [])
def YX(bn:Ci)(U:Int)(v1:List Int):Option ((aj)×Unit):=bn (aw (Int.tdiv U 128)) v1
def QH(bn:Ci)(U:Int)(aa:List Int):Option ((aj)×Unit):=cond (decide (U≥128)) (cond (room (aa.length+[IntKind.wrap .u8 (aw (128+Int.tmod U 128))].length)) (YX bn U (aa++[IntKind.wrap .u8 (aw (128+Int.tmod U 128))])) (none)) (cond (room (aa.length+[IntKind.wrap .u8 (U)].length)) (some (eZ (aa++[IntKind.wrap .u8 (U)]),())) (none))
def zy:Nat→Ci|0,_,_=>none|m+1,U,aa=>QH (zy m) U aa
def qK(x:Int×Unit):Option ((aj)×Unit):=Jm (zy aK) x.1
def QI(a1:aj):Option ((aj)×Unit):=(qK ((a1.length:Int),())).bind fun v1=>cond (room (v1.1.length+a1.length)) (some (v1.1++a1,())) (none)
def zz(x:(aj)×Unit):Option ((aj)×Unit):=QI x.1
def QJ(a1:Int):Option ((aj)×Unit):=cond (decide (a1<0)) ((qK (aw (aw ((-2)*a1)-1),())).bind fun v1=>some (v1.1,())) ((qK (aw (2*a1),())).bind fun v2=>some (v2.1,()))
def zA(x:Int×Unit):Option ((aj)×Unit):=QJ x.1
def QK(a1:aL.D):Option ((aj)×Unit):=(wX (a1,())).bind fun v1=>cond (!v1.1) (some ([],())) ((qK (a1.1,())).bind fun v2=>(zz (a1.2.1,())).bind fun v3=>cond (room (v2.1.length+v3.1.length)) ((zz (a1.2.2.1,())).bind fun v4=>cond (room ((v2.1++v3.1).length+v4.1.length)) ((zA (a1.2.2.2.1,())).bind fun v5=>cond (room (((v2.1++v3.1)++v4.1).length+v5.1.length)) ((zA (a1.2.2.2.2.1,())).bind fun v6=>cond (room ((((v2.1++v3.1)++v4.1)++v5.1).length+v6.1.length)) ((zz (a1.2.2.2.2.2.1,())).bind fun br=>cond (room (((((v2.1++v3.1)++v4.1)++v5.1)++v6.1).length+br.1.length)) (some (((((v2.1++v3.1)++v4.1)++v5.1)++v6.1)++br.1,())) (none)) (none)) (none)) (none)) (none))
def zB(x:aL.D×Unit):Option ((aj)×Unit):=QK x.1
def QL(a1:aQ.D):Option ((aj)×Unit):=(qK (a1.1,())).bind fun v1=>(qK (a1.2.1,())).bind fun v2=>cond (room (v1.1.length+v2.1.length)) ((qK (a1.2.2.1,())).bind fun v3=>cond (room ((v1.1++v2.1).length+v3.1.length)) ((zB (a1.2.2.2.1,())).bind fun v4=>(zz (v4.1,())).bind fun v5=>cond (room (((v1.1++v2.1)++v3.1).length+v5.1.length)) (some (((v1.1++v2.1)++v3.1)++v5.1,())) (none)) (none)) (none)
def QM(x:aQ.D×Unit):Option ((aj)×Unit):=QL x.1
abbrev Jn:Type:=(List aQ.D)→(aj)→Int→Option ((aj)×Unit)
def Jo(bs:Jn)(a1:List aQ.D):Option ((aj)×Unit):=(QG (a1,())).bind fun v1=>cond (!v1.1) (some ([],())) (bs a1 ([102]:aj) 0)
def zC(bs:Jn)(U:List aQ.D)(aa:aj)(ae:Int):Option ((aj)×Unit):=cond (decide (ae<(U.length:Int))) ((ix U.length ae).bind fun v1=>(QM (I aQ U v1,())).bind fun v2=>cond (room (aa.length+v2.1.length)) (bs U (aa++v2.1) (aw (ae+1))) (none)) (some (aa,()))
def xt:Nat→Jn|0,_,_,_=>none|m+1,U,aa,ae=>zC (xt m) U aa ae
def QN(x:(List aQ.D)×Unit):Option ((aj)×Unit):=Jo (xt aK) x.1
structure xu where
 k2:(aj)→Int→Option (Int×Int×Unit)
 dh:(aj)→Int→Int→Int→Option (Int×Int×Unit)
def Jp(k:xu)(a1:aj):Option (Int×Int×Unit):=k.k2 a1 1
def xv(k:xu)(U:aj)(aa:Int):Option (Int×Int×Unit):=cond (decide (aa≤7)) (cond (decide (aa≤(U.length:Int))) (k.dh U aa 0 (aw (aa-1))) (some (0,0,()))) (some (0,0,()))
def Cj(k:xu)(U:aj)(aa:Int)(ae:Int)(ai:Int):Option (Int×Int×Unit):=cond (decide (ai≥0)) ((ix U.length ai).bind fun v1=>k.dh U aa (aw (aw (ae*128)+Int.tmod (aw (((U.getD v1 0).toNat:Int))) 128)) (aw (ai-1))) ((dj U.length 0 aa).bind fun v2=>(qK (ae,())).bind fun v3=>cond (bx v3.1 (part U v2.1 (v2.2-v2.1))) (some (ae,aa,())) (k.k2 U (aw (aa+1))))
def YY(k:xu):xu:=⟨xv k,Cj k⟩
def mH:Nat→xu:=eE YY ⟨fun _ _=>none,fun _ _ _ _=>none⟩
def QO(x:(aj)×Unit):Option (Int×Int×Unit):=Jp (mH aK) x.1
abbrev Ck:Type:=(List Int)×Int×Unit
abbrev Jq:Type:=(aj)→Int→Int→Int→(List Int)→Option (Ck)
def Jr(k3:Jq)(a1:aj)(a2:Int)(a3:Int):Option (Ck):=k3 a1 a2 a3 0 ([]:List Int)
def Cl(k3:Jq)(U:aj)(aa:Int)(ae:Int)(ai:Int)(aq:List Int):Option (Ck):=cond (decide (ai<ae)) (cond (decide (aa<0)) (some (aq,(-1),())) (cond (decide (aa >(U.length:Int))) (some (aq,(-1),())) ((dj U.length aa (U.length:Int)).bind fun v1=>(QO (part U v1.1 (v1.2-v1.1),())).bind fun v2=>cond (v2.2.1==0) (some (aq,(-1),())) (cond (room (aq.length+[v2.1].length)) (k3 U (aw (aa+v2.2.1)) ae (aw (ai+1)) (aq++[v2.1])) (none))))) (some (aq,aa,()))
def pK:Nat→Jq|0,_,_,_,_,_=>none|m+1,U,aa,ae,ai,aq=>Cl (pK m) U aa ae ai aq
def pL(x:(aj)×Int×Int×Unit):Option (Ck):=Jr (pK aK) x.1 x.2.1 x.2.2.1
abbrev YZ:Type:=(aj)×Int×Unit
def QP(a1:aj)(a2:Int):Option (YZ):=(pL (a1,a2,1,())).bind fun v1=>cond (decide (v1.2.1<0)) (some ([],(-1),())) ((ix v1.1.length 0).bind fun v2=>cond (decide (I (ad.int .i64) v1.1 (0+v2)>aw ((a1.length:Int)-v1.2.1))) (some ([],(-1),())) ((ix v1.1.length 0).bind fun v3=>(dj a1.length v1.2.1 (aw (v1.2.1+I (ad.int .i64) v1.1 (0+v3)))).bind fun v4=>(ix v1.1.length 0).bind fun v5=>some (part a1 v4.1 (v4.2-v4.1),aw (v1.2.1+I (ad.int .i64) v1.1 (0+v5)),())))
def xw(x:(aj)×Int×Unit):Option (YZ):=QP x.1 x.2.1
def aju(a1:Int):Option (Int×Unit):=cond (Int.tmod a1 2==1) (some (aw (Int.tdiv (aw (0-(aw (a1+1)))) 2),())) (some (aw (Int.tdiv a1 2),()))
def zD(x:Int×Unit):Option (Int×Unit):=aju x.1
abbrev Y0:Type:=aL.D×Bool×Unit
def QQ(a1:aj):Option (Y0):=(pL (a1,0,1,())).bind fun v1=>(xw (a1,v1.2.1,())).bind fun v2=>(xw (a1,v2.2.1,())).bind fun v3=>(pL (a1,v3.2.1,2,())).bind fun v4=>(xw (a1,v4.2.1,())).bind fun v5=>cond (decide (v5.2.1<0)) (some ((0,[],[],0,0,[],()),false,())) ((ix v1.1.length 0).bind fun v6=>(ix v4.1.length 0).bind fun br=>(ix v4.1.length 1).bind fun cj=>both ((zD (I (ad.int .i64) v4.1 (0+br),())).bind fun v9=>dup ((zD (I (ad.int .i64) v4.1 (0+cj),())).bind fun v10=>(zB ((I (ad.int .i64) v1.1 (0+v6),v2.1,v3.1,v9.1,v10.1,v5.1,()),())).bind fun v11=>cond (!(bx v11.1 a1)) (some ((0,[],[],0,0,[],()),false,())) (some ((I (ad.int .i64) v1.1 (0+v6),v2.1,v3.1,v9.1,v10.1,v5.1,()),true,())))) ((zD (I (ad.int .i64) v4.1 (0+br),())).bind fun v9=>(zD (I (ad.int .i64) v4.1 (0+cj),())).bind fun v10=>(zB ((I (ad.int .i64) v1.1 (0+v6),v2.1,v3.1,v9.1,v10.1,v5.1,()),())).bind fun v11=>cond (!(bx v11.1 a1)) (some ((0,[],[],0,0,[],()),false,())) (some ((I (ad.int .i64) v1.1 (0+v6),v2.1,v3.1,v9.1,v10.1,v5.1,()),true,()))))
def QR(x:(aj)×Unit):Option (Y0):=QQ x.1
abbrev zE:Type:=(List aQ.D)×Bool×Unit
abbrev Cm:Type:=(aj)→Int→(List aQ.D)→Option (zE)
def Js(bs:Cm)(a1:aj):Option (zE):=cond ((a1.length:Int)==0) (some ([],false,())) (cond (decide ((a1.length:Int)>1600)) (some ([],false,())) (bs a1 1 []))
def ajv(bs:Cm)(U:aj)(v2:(aj)×Int×Unit)(br:List aQ.D):Option (zE):=bs U v2.2.1 br
def uy(bs:Cm)(U:aj)(aa:Int)(ae:List aQ.D):Option (zE):=cond (decide (aa<(U.length:Int))) ((pL (U,aa,3,())).bind fun v1=>(xw (U,v1.2.1,())).bind fun v2=>(QR (v2.1,())).bind fun v3=>cond (decide (v2.2.1<0)) (some ([],false,())) (cond (!v3.2.1) (some ([],false,())) ((ix v1.1.length 0).bind fun v4=>(ix v1.1.length 1).bind fun v5=>(ix v1.1.length 2).bind fun v6=>cond (room (ae.length+[(I (ad.int .i64) v1.1 (0+v4),I (ad.int .i64) v1.1 (0+v5),I (ad.int .i64) v1.1 (0+v6),v3.1,())].length)) (ajv bs U v2 (ae++[(I (ad.int .i64) v1.1 (0+v4),I (ad.int .i64) v1.1 (0+v5),I (ad.int .i64) v1.1 (0+v6),v3.1,())])) (none)))) ((QN (ae,())).bind fun cj=>cond (!(bx cj.1 U)) (some ([],false,())) (some (ae,true,())))
def uz:Nat→Cm|0,_,_,_=>none|m+1,U,aa,ae=>uy (uz m) U aa ae
def QS(x:(aj)×Unit):Option (zE):=Js (uz aK) x.1
abbrev qL:Type:=aS.D×(List fy.D)×Unit
structure qM where
 bn:(List an.D)→Int→Int→Int→aS.D→aS.D→(List fy.D)→Option (qL)
 dd:(List an.D)→Int→Int→Int→Int→aS.D→aS.D→(List fy.D)→(List aQ.D)→Option (qL)
def Jt(k:qM)(a1:List an.D)(a2:Int)(a3:Int):Option (qL):=(Qv ()).bind fun v1=>k.bn a1 a2 a3 0 ((0,[],()),0,[],[],()) v1.1 ([]:List fy.D)
def Ju(k:qM)(U:List an.D)(aa:Int)(ae:Int)(ai:Int)(aq:aS.D)(ay:aS.D)(aW:List fy.D):Option (qL):=cond (decide (ai<ae)) ((ix U.length ai).bind fun v1=>(QS ((I an U v1).2.1,())).bind fun v2=>cond (!v2.2.1) (k.bn U aa ae (aw (ai+1)) aq ay aW) ((Qx (ay.2.1,())).bind fun v3=>k.dd U aa ae ai 0 aq (ay.1,v3.1,ay.2.2.1,ay.2.2.2.1,()) aW v2.1)) (some (ay,aW,()))
def Y1(k:qM)(U:List an.D)(aa:Int)(ae:Int)(ai:Int)(aq:Int)(ay:aS.D)(v5:aS.D×an.D×Bool×Unit)(bw:List aQ.D)(v9:List fy.D):Option (qL):=k.dd U aa ae ai (aw (aq+1)) ay v5.1 v9 bw
def Y2(k:qM)(U:List an.D)(aa:Int)(ae:Int)(ai:Int)(aq:Int)(ay:aS.D)(v10:aS.D×an.D×Bool×Unit)(bw:List aQ.D)(gI:List fy.D):Option (qL):=k.dd U aa ae ai (aw (aq+1)) ay v10.1 gI bw
def Y3(k:qM)(U:List an.D)(aa:Int)(ae:Int)(ai:Int)(aq:Int)(ay:aS.D)(fR:aS.D×an.D×Bool×Unit)(bw:List aQ.D)(pJ:List fy.D):Option (qL):=k.dd U aa ae ai (aw (aq+1)) ay fR.1 pJ bw
def Jv(k:qM)(U:List an.D)(aa:Int)(ae:Int)(ai:Int)(aq:Int)(ay:aS.D)(aW:aS.D)(bq:List fy.D)(bw:List aQ.D):Option (qL):=cond (decide (aq<(bw.length:Int))) ((ix bw.length aq).bind fun v1=>cond ((I aQ bw (0+v1)).1 != aa) (k.dd U aa ae ai (aw (aq+1)) ay aW bq bw) ((ix bw.length aq).bind fun v2=>(ix bw.length aq).bind fun v3=>(ix bw.length aq).bind fun v4=>both ((se (aW,(I aQ bw (0+v2)).2.1,(I aQ bw (0+v3)).2.2.1,(I aQ bw (0+v4)).2.2.2.1,aw (ai+1),())).bind fun v5=>dup (cond v5.2.2.1 ((ix bw.length aq).bind fun v6=>(ix bw.length aq).bind fun br=>(ix bw.length aq).bind fun cj=>cond (room (bq.length+[((I aQ bw (0+v6)).2.1,(I aQ bw (0+br)).2.2.1,(I aQ bw (0+cj)).2.2.2.1,aw (ai+1),v5.2.1,())].length)) (Y1 k U aa ae ai aq ay v5 bw (bq++[((I aQ bw (0+v6)).2.1,(I aQ bw (0+br)).2.2.1,(I aQ bw (0+cj)).2.2.2.1,aw (ai+1),v5.2.1,())])) (none)) (k.dd U aa ae ai (aw (aq+1)) ay v5.1 bq bw))) (both (dup ((se (aW,(I aQ bw (0+v2)).2.1,(I aQ bw (0+v3)).2.2.1,(I aQ bw (0+v4)).2.2.2.1,aw (ai+1),())).bind fun v10=>cond v10.2.2.1 ((ix bw.length aq).bind fun v11=>(ix bw.length aq).bind fun v12=>(ix bw.length aq).bind fun hy=>cond (room (bq.length+[((I aQ bw (0+v11)).2.1,(I aQ bw (0+v12)).2.2.1,(I aQ bw (0+hy)).2.2.2.1,aw (ai+1),v10.2.1,())].length)) (Y2 k U aa ae ai aq ay v10 bw (bq++[((I aQ bw (0+v11)).2.1,(I aQ bw (0+v12)).2.2.1,(I aQ bw (0+hy)).2.2.2.1,aw (ai+1),v10.2.1,())])) (none)) (k.dd U aa ae ai (aw (aq+1)) ay v10.1 bq bw))) (dup ((se (aW,(I aQ bw (0+v2)).2.1,(I aQ bw (0+v3)).2.2.1,(I aQ bw (0+v4)).2.2.2.1,aw (ai+1),())).bind fun fR=>cond fR.2.2.1 ((ix bw.length aq).bind fun hY=>(ix bw.length aq).bind fun j9=>(ix bw.length aq).bind fun nD=>cond (room (bq.length+[((I aQ bw (0+hY)).2.1,(I aQ bw (0+j9)).2.2.1,(I aQ bw (0+nD)).2.2.2.1,aw (ai+1),fR.2.1,())].length)) (Y3 k U aa ae ai aq ay fR bw (bq++[((I aQ bw (0+hY)).2.1,(I aQ bw (0+j9)).2.2.1,(I aQ bw (0+nD)).2.2.2.1,aw (ai+1),fR.2.1,())])) (none)) (k.dd U aa ae ai (aw (aq+1)) ay fR.1 bq bw)))))) (k.bn U aa ae (aw (ai+1)) ay aW bq)
def Y4(k:qM):qM:=⟨Ju k,Jv k⟩
def qN:Nat→qM:=eE Y4 ⟨fun _ _ _ _ _ _ _=>none,fun _ _ _ _ _ _ _ _ _=>none⟩
def QT(x:(List an.D)×Int×Int×Unit):Option (qL):=Jt (qN aK) x.1 x.2.1 x.2.2.1
def QU(a1:an.D):Option (an.D×Unit):=some (a1,())
def QV(x:an.D×Unit):Option (an.D×Unit):=QU x.1
abbrev Cn:Type:=(List an.D)×Unit
abbrev Jw:Type:=(List an.D)→Int→(List an.D)→Option (Cn)
def Jx(k3:Jw)(a1:List an.D):Option (Cn):=cond (decide (0≤(a1.length:Int))&&decide ((a1.length:Int)=(a1.length:Int))&&room (Int.toNat (a1.length:Int))) (k3 a1 0 (List.replicate (Int.toNat (a1.length:Int)) ((0,[],()):an.D))) (none)
def Jy(k3:Jw)(U:List an.D)(aa:Int)(ae:List an.D):Option (Cn):=cond (decide (aa<(U.length:Int))) ((ix U.length aa).bind fun v1=>(QV (I an U v1,())).bind fun v2=>(ix ae.length aa).bind fun v3=>k3 U (aw (aa+1)) (ae.set (0+v3) v2.1)) (some (ae,()))
def xx:Nat→Jw|0,_,_,_=>none|m+1,U,aa,ae=>Jy (xx m) U aa ae
def zF(x:(List an.D)×Unit):Option (Cn):=Jx (xx aK) x.1
def ajw  : Option (ag.D×Unit):=some ((2,[(1,2,493,0,0,[],[],0,0,())],()),())
def Y5(x:Unit):Option (ag.D×Unit):=ajw
def ajx(v1:ag.D×Unit)(v3:List J.D):Option (aS.D×Unit):=some (((v1.1.1,v3,()),30,[],[],()),())
def ajy  : Option (aS.D×Unit):=(Y5 ()).bind fun v1=>(ix v1.1.2.1.length 0).bind fun v2=>ajx v1 (v1.1.2.1.set (0+v2) ((I J v1.1.2.1 (0+v2)).1,(I J v1.1.2.1 (0+v2)).2.1,1023,(I J v1.1.2.1 (0+v2)).2.2.2.1,(I J v1.1.2.1 (0+v2)).2.2.2.2.1,(I J v1.1.2.1 (0+v2)).2.2.2.2.2.1,(I J v1.1.2.1 (0+v2)).2.2.2.2.2.2.1,(I J v1.1.2.1 (0+v2)).2.2.2.2.2.2.2.1,(I J v1.1.2.1 (0+v2)).2.2.2.2.2.2.2.2.1,()))
def QW(x:Unit):Option (aS.D×Unit):=ajy
abbrev Jz:Type:=(aj)→Int→Int→Option (Int×Int×Unit)
def JA(k3:Jz)(a1:aj):Option (Int×Int×Unit):=k3 a1 0 0
def JB(k3:Jz)(U:aj)(aa:Int)(ae:Int):Option (Int×Int×Unit):=cond (decide (ae<(U.length:Int))) (cond (decide (ae<7)) ((ix U.length ae).bind fun v1=>cond (decide (0≤aw (7*ae))) (cond (decide (aw (((U.getD v1 0).toNat:Int))>127)) (k3 U (cZ .or .i64 aa (IntKind.wrap .i64 (cZ .and .i64 (aw (((U.getD v1 0).toNat:Int))) 127*2^min (aw (7*ae)).toNat 64))) (aw (ae+1))) (cond (aw (((U.getD v1 0).toNat:Int))==0) (cond (decide (ae>0)) (some (0,0,())) (some (cZ .or .i64 aa (IntKind.wrap .i64 (cZ .and .i64 (aw (((U.getD v1 0).toNat:Int))) 127*2^min (aw (7*ae)).toNat 64)),aw (ae+1),()))) (some (cZ .or .i64 aa (IntKind.wrap .i64 (cZ .and .i64 (aw (((U.getD v1 0).toNat:Int))) 127*2^min (aw (7*ae)).toNat 64)),aw (ae+1),())))) (none)) (some (0,0,()))) (some (0,0,()))
def xy:Nat→Jz|0,_,_,_=>none|m+1,U,aa,ae=>JB (xy m) U aa ae
def QX(x:(aj)×Unit):Option (Int×Int×Unit):=JA (xy aK) x.1
abbrev Y6:Type:=Int×kt.D×Unit
def xz(a1:kt.D):Option (Y6):=(QX (a1.1,())).bind fun v1=>cond a1.2.1 (some (0,(a1.1,true,()),())) (cond (v1.2.1==0) (some (0,(a1.1,true,()),())) ((dj a1.1.length v1.2.1 (a1.1.length:Int)).bind fun v2=>some (v1.1,(part a1.1 v2.1 (v2.2-v2.1),a1.2.1,()),())))
def sr(x:kt.D×Unit):Option (Y6):=xz x.1
abbrev Y7:Type:=(aj)×kt.D×Unit
def Co(a1:kt.D)(a2:Int):Option (Y7):=cond a1.2.1 (some ([],(a1.1,true,()),())) (cond (decide (a2 >(a1.1.length:Int))) (some ([],(a1.1,true,()),())) ((dj a1.1.length 0 a2).bind fun v1=>(dj a1.1.length a2 (a1.1.length:Int)).bind fun v2=>some (part a1.1 v1.1 (v1.2-v1.1),(part a1.1 v2.1 (v2.2-v2.1),a1.2.1,()),())))
def zG(x:kt.D×Int×Unit):Option (Y7):=Co x.1 x.2.1
abbrev Y8:Type:=(aj)×kt.D×Unit
def QY(a1:kt.D):Option (Y8):=(sr (a1,())).bind fun v1=>(zG (v1.2.1,v1.1,())).bind fun v2=>some (v2.1,v2.2.1,())
def xA(x:kt.D×Unit):Option (Y8):=QY x.1
def QZ(a1:Int):Option (Int×Unit):=cond (Int.tmod a1 2==1) (some (aw (Int.tdiv (aw (0-(aw (a1+1)))) 2),())) (some (aw (Int.tdiv a1 2),()))
def JC(x:Int×Unit):Option (Int×Unit):=QZ x.1
abbrev Y9:Type:=aL.D×Bool×Unit
def Q0(a1:aj):Option (Y9):=(sr ((a1,false,()),())).bind fun v1=>(xA (v1.2.1,())).bind fun v2=>(xA (v2.2.1,())).bind fun v3=>(sr (v3.2.1,())).bind fun v4=>(JC (v4.1,())).bind fun v5=>(sr (v4.2.1,())).bind fun v6=>(JC (v6.1,())).bind fun br=>(xA (v6.2.1,())).bind fun cj=>cond cj.2.1.2.1 (some ((0,[],[],0,0,[],()),false,())) (cond (!(bx cj.2.1.1 [])) (some ((0,[],[],0,0,[],()),false,())) ((wA ((v1.1,v2.1,v3.1,v5.1,br.1,cj.1,()),())).bind fun v9=>cond (!v9.1) (some ((0,[],[],0,0,[],()),false,())) (some ((v1.1,v2.1,v3.1,v5.1,br.1,cj.1,()),true,()))))
def Q1(x:(aj)×Unit):Option (Y9):=Q0 x.1
def Q2(a1:aQ.D):Option (Bool×Unit):=(dO (a1.1,0,2,())).bind fun v1=>cond v1.1 ((dO (a1.2.1,1,3,())).bind fun v2=>cond v2.1 ((dO (a1.2.2.1,1,1000000,())).bind fun v3=>cond v3.1 ((wA (a1.2.2.2.1,())).bind fun v4=>some (v4.1,())) (some (false,()))) (some (false,()))) (some (false,()))
def Q3(x:aQ.D×Unit):Option (Bool×Unit):=Q2 x.1
structure xB where
 k3:(List aQ.D)→Int→Int→(List aQ.D)→Int→Int→Option (Bool×Unit)
 cW:(List aQ.D)→Int→Int→Int→(List aQ.D)→Int→Int→aQ.D→Option (Bool×Unit)
def JD(k:xB)(a1:List aQ.D)(a2:Int):Option (Bool×Unit):=k.k3 a1 a2 0 a1 (a1.length:Int) 0
def Cp(k:xB)(U:List aQ.D)(aa:Int)(ae:Int)(ai:List aQ.D)(aq:Int)(ay:Int):Option (Bool×Unit):=cond (decide (ay<aq)) ((ix ai.length ay).bind fun v1=>cond (decide (ay>0)) ((ix U.length (aw (ay-1))).bind fun v2=>cond ((I aQ U v2).1 !=(I aQ ai v1).1) (k.cW U aa 1 ay ai aq ay (I aQ ai v1)) (k.cW U aa (aw (ae+1)) ay ai aq ay (I aQ ai v1))) (k.cW U aa (aw (ae+1)) ay ai aq ay (I aQ ai v1))) (some (true,()))
def JE(k:xB)(U:List aQ.D)(aa:Int)(ae:Int)(ai:Int)(aq:List aQ.D)(ay:Int)(aW:Int)(bq:aQ.D):Option (Bool×Unit):=(Q3 (bq,())).bind fun v1=>cond (!v1.1) (some (false,())) (cond (decide (ai>0)) ((ix U.length (aw (ai-1))).bind fun v2=>cond (decide ((I aQ U v2).1>bq.1)) (some (false,())) (cond (decide (ae>aa)) (some (false,())) (k.k3 U aa ae aq ay (aw (aW+1))))) (cond (decide (ae>aa)) (some (false,())) (k.k3 U aa ae aq ay (aw (aW+1)))))
def Y_(k:xB):xB:=⟨Cp k,JE k⟩
def qO:Nat→xB:=eE Y_ ⟨fun _ _ _ _ _ _=>none,fun _ _ _ _ _ _ _ _=>none⟩
def JF(x:(List aQ.D)×Int×Unit):Option (Bool×Unit):=JD (qO aK) x.1 x.2.1
def Q4(a1:List aQ.D):Option (Bool×Unit):=(JF (a1,2,())).bind fun v1=>some (v1.1,())
def JG(x:(List aQ.D)×Unit):Option (Bool×Unit):=Q4 x.1
abbrev Cq:Type:=(List aQ.D)×Bool×Unit
abbrev JH:Type:=kt.D→(List aQ.D)→Option (Cq)
def JI(bs:JH)(a1:aj):Option (Cq):=cond (bx a1 []) (some ([],false,())) ((ix a1.length 0).bind fun v1=>cond (((a1.getD v1 0).toNat:Int) != 102) (some ([],false,())) ((dj a1.length 1 (a1.length:Int)).bind fun v2=>bs (part a1 v2.1 (v2.2-v2.1),false,()) []))
def qP(bs:JH)(U:kt.D)(aa:List aQ.D):Option (Cq):=cond (!(bx U.1 [])) (cond (!U.2.1) ((sr (U,())).bind fun v1=>(sr (v1.2.1,())).bind fun v2=>(sr (v2.2.1,())).bind fun v3=>(xA (v3.2.1,())).bind fun v4=>(Q1 (v4.1,())).bind fun v5=>cond v4.2.1.2.1 (cond (room (aa.length+[(v1.1,v2.1,v3.1,v5.1,())].length)) (bs (v4.2.1.1,true,()) (aa++[(v1.1,v2.1,v3.1,v5.1,())])) (none)) (cond (room (aa.length+[(v1.1,v2.1,v3.1,v5.1,())].length)) (bs (v4.2.1.1,!v5.2.1,()) (aa++[(v1.1,v2.1,v3.1,v5.1,())])) (none))) (cond U.2.1 (some ([],false,())) ((JG (aa,())).bind fun v6=>cond (!v6.1) (some ([],false,())) (some (aa,true,()))))) (cond U.2.1 (some ([],false,())) ((JG (aa,())).bind fun br=>cond (!br.1) (some ([],false,())) (some (aa,true,()))))
def qQ:Nat→JH|0,_,_=>none|m+1,U,aa=>qP (qQ m) U aa
def JJ(x:(aj)×Unit):Option (Cq):=JI (qQ aK) x.1
def Q5(a1:Int):Option (Int×Unit):=cond (decide (a1<0)) (some (4,())) (cond (decide (a1>26)) (some (30,())) (some (aw (a1+4),())))
def Q6(x:Int×Unit):Option (Int×Unit):=Q5 x.1
abbrev uA:Type:=aS.D×(List fy.D)×Bool×Unit
structure uB where
 dh:Int→(List an.D)→Int→Int→aS.D→aS.D→(List fy.D)→Option (uA)
 eL:Int→Int→(List an.D)→Int→Int→Int→Int→aS.D→aS.D→(List fy.D)→(List aQ.D)→Option (uA)
def JK(k:uB)(a1:List an.D)(a2:Int)(a3:Int):Option (uA):=cond (decide ((a1.length:Int)>400)) (some (((0,[],()),0,[],[],()),[],false,())) ((dO (a2,0,2,())).bind fun v1=>cond (!v1.1) (some (((0,[],()),0,[],[],()),[],false,())) ((dO (a3,0,(a1.length:Int),())).bind fun v2=>cond (!v2.1) (some (((0,[],()),0,[],[],()),[],false,())) ((QW ()).bind fun v3=>(dj a1.length 0 a3).bind fun v4=>k.dh a2 (part a1 v4.1 (v4.2-v4.1)) (((part a1 v4.1 (v4.2-v4.1)).length:Nat):Int) 0 ((0,[],()),0,[],[],()) v3.1 [])))
def JL(k:uB)(U:Int)(aa:List an.D)(ae:Int)(ai:Int)(aq:aS.D)(ay:aS.D)(aW:List fy.D):Option (uA):=cond (decide (ai<ae)) ((ix aa.length ai).bind fun v1=>(JJ ((I an aa v1).2.1,())).bind fun v2=>cond (!v2.2.1) (k.dh U aa ae (aw (ai+1)) aq ay aW) ((Q6 (ay.2.1,())).bind fun v3=>k.eL U ai aa ae ai (v2.1.length:Int) 0 aq (ay.1,v3.1,ay.2.2.1,ay.2.2.2.1,()) aW v2.1)) (some (ay,aW,true,()))
def Y'(k:uB)(U:Int)(aa:Int)(ae:List an.D)(ai:Int)(aq:Int)(ay:Int)(aW:Int)(bq:aS.D)(v2:an.D×Bool×aS.D×Unit)(fg:List aQ.D)(v3:List fy.D):Option (uA):=k.eL U aa ae ai aq ay (aw (aW+1)) bq v2.2.2.1 v3 fg
def JM(k:uB)(U:Int)(aa:Int)(ae:List an.D)(ai:Int)(aq:Int)(ay:Int)(aW:Int)(bq:aS.D)(bw:aS.D)(eF:List fy.D)(fg:List aQ.D):Option (uA):=cond (decide (aW<ay)) ((ix fg.length aW).bind fun v1=>cond ((I aQ fg (0+v1)).1 != U) (k.eL U aa ae ai aq ay (aw (aW+1)) bq bw eF fg) ((zn (bw,(I aQ fg (0+v1)).2.1,(I aQ fg (0+v1)).2.2.1,(I aQ fg (0+v1)).2.2.2.1,aw (aa+1),())).bind fun v2=>cond v2.2.1 (cond (room (eF.length+[((I aQ fg (0+v1)).2.1,(I aQ fg (0+v1)).2.2.1,(I aQ fg (0+v1)).2.2.2.1,aw (aa+1),v2.1,())].length)) (Y' k U aa ae ai aq ay aW bq v2 fg (eF++[((I aQ fg (0+v1)).2.1,(I aQ fg (0+v1)).2.2.1,(I aQ fg (0+v1)).2.2.2.1,aw (aa+1),v2.1,())])) (none)) (k.eL U aa ae ai aq ay (aw (aW+1)) bq v2.2.2.1 eF fg))) (k.dh U ae ai (aw (aq+1)) bq bw eF)
def Za(k:uB):uB:=⟨JL k,JM k⟩
def pM:Nat→uB:=eE Za ⟨fun _ _ _ _ _ _ _=>none,fun _ _ _ _ _ _ _ _ _ _ _=>none⟩
def Q7(x:(List an.D)×Int×Int×Unit):Option (uA):=JK (pM aK) x.1 x.2.1 x.2.2.1
def Q8(a1:an.D)(a2:an.D):Option (Bool×Unit):=cond (a1.1 != a2.1) (some (false,())) (cond (!(bx a1.2.1 a2.2.1)) (some (false,())) (some (true,())))
def Q9(x:an.D×an.D×Unit):Option (Bool×Unit):=Q8 x.1 x.2.1
abbrev JN:Type:=(List an.D)→(List an.D)→Int→Option (Bool×Unit)
def JO(bn:JN)(a1:List an.D)(a2:List an.D):Option (Bool×Unit):=cond ((a1.length:Int) !=(a2.length:Int)) (some (false,())) (bn a1 a2 0)
def JP(bn:JN)(U:List an.D)(aa:List an.D)(ae:Int):Option (Bool×Unit):=cond (decide (ae<(U.length:Int))) ((ix U.length ae).bind fun v1=>(ix aa.length ae).bind fun v2=>(Q9 (I an U v1,I an aa v2,())).bind fun v3=>cond (!v3.1) (some (false,())) (bn U aa (aw (ae+1)))) (some (true,()))
def xC:Nat→JN|0,_,_,_=>none|m+1,U,aa,ae=>JP (xC m) U aa ae
def Q_(x:(List an.D)×(List an.D)×Unit):Option (Bool×Unit):=JO (xC aK) x.1 x.2.1
abbrev xD:Type:=Int×(List an.D)×Unit
abbrev zH:Type:=Int→Int→(List an.D)→Option (xD)
def JQ(k2:zH)(a1:List an.D)(a2:Int):Option (xD):=k2 a2 0 a1
def Zb(k2:zH)(U:Int)(aa:Int)(v5:List an.D):Option (xD):=k2 (aw (aw (U+1)+1)) (aw (aa+1)) v5
def Zc(k2:zH)(U:Int)(aa:Int)(v2:List an.D):Option (xD):=(pI (aw (U+1),())).bind fun v3=>(ix v2.length aa).bind fun v4=>Zb k2 U aa (v2.set (0+v4) ((I an v2 (0+v4)).1,v3.1,()))
def JR(k2:zH)(U:Int)(aa:Int)(ae:List an.D):Option (xD):=cond (decide (aa<(ae.length:Int))) ((ix ae.length aa).bind fun v1=>Zc k2 U aa (ae.set (0+v1) (U,(I an ae (0+v1)).2.1,()))) (some (U,ae,()))
def su:Nat→zH|0,_,_,_=>none|m+1,U,aa,ae=>JR (su m) U aa ae
def Ra(x:(List an.D)×Int×Unit):Option (xD):=JQ (su aK) x.1 x.2.1
abbrev Zd:Type:=aS.D×Bool×Unit
def Rb(a1:List an.D)(a2:Int)(a3:Int):Option (Zd):=(Q7 (a1,a2,a3,())).bind fun v1=>some (v1.1,v1.2.2.1,())
def Cr(x:(List an.D)×Int×Int×Unit):Option (Zd):=Rb x.1 x.2.1 x.2.2.1
abbrev Ze:Type:=aS.D×Bool×Unit
def Rc(a1:List an.D)(a2:Int)(a3:Int):Option (Ze):=cond (decide ((a1.length:Int)>400)) (some (((0,[],()),0,[],[],()),false,())) ((QC (a2,())).bind fun v1=>cond (!v1.1) (some (((0,[],()),0,[],[],()),false,())) ((dF (a3,0,(a1.length:Int),())).bind fun v2=>cond (!v2.1) (some (((0,[],()),0,[],[],()),false,())) ((QT (a1,a2,a3,())).bind fun v3=>some (v3.1,true,()))))
def JS(x:(List an.D)×Int×Int×Unit):Option (Ze):=Rc x.1 x.2.1 x.2.2.1
def Rd(a1:List an.D)(a2:Int)(a3:Int):Option (Bool×Unit):=(QA (a1,1048576,())).bind fun v1=>cond (decide (v1.1<0)) (some (true,())) ((zF (a1,())).bind fun v2=>(JS (v2.1,a2,a3,())).bind fun v3=>(zF (a1,())).bind fun v4=>(Cr (v4.1,a2,a3,())).bind fun v5=>(Cg (v5.1,v3.1,())).bind fun v6=>cond (!v6.1) (some (false,())) (cond (!(v5.2.1==v3.2.1)) (some (false,())) ((zF (a1,())).bind fun br=>(Q_ (v4.1,br.1,())).bind fun cj=>cond (!cj.1) (some (false,())) ((Ra (v4.1,1,())).bind fun v9=>cond (decide (v9.1<0)) (some (false,())) ((Cg (v5.1,v3.1,())).bind fun v10=>cond (!v10.1) (some (false,())) (cond (!(v5.2.1==v3.2.1)) (some (false,())) ((I4 (v5.1,1,())).bind fun v11=>(Ch (((v5.1.1.1,v11.2.1.1.2.1,()),v5.1.2.1,v11.2.1.2.2.1,v11.2.1.2.2.2.1,()),1,())).bind fun v12=>cond (decide (v12.1<0)) (some (false,())) (cond (v12.1 != v11.1) (some (false,())) ((zF (a1,())).bind fun hy=>(Cr (hy.1,a2,a3,())).bind fun gI=>(Cg (gI.1,v3.1,())).bind fun fR=>cond (!fR.1) (some (false,())) (cond (!(gI.2.1==v3.2.1)) (some (false,())) ((Ch (((v5.1.1.1,v11.2.1.1.2.1,()),v5.1.2.1,v11.2.1.2.2.1,v11.2.1.2.2.2.1,()),1,())).bind fun hY=>cond (decide (hY.1<0)) (some (false,())) (cond (hY.1 != v11.1) (some (false,())) (some (true,()))))))))))))))
def Zf(x:(List an.D)×Int×Int×Unit):Option (Bool×Unit):=Rd x.1 x.2.1 x.2.2.1
end
end Go.LM.ks
