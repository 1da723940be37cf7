/- The functions that the law reaches, as plain functions. Printed by a program. Conditions: each theorem's own hypotheses. -/
import Derived.Test.YtklmgcjamifmaaaGreatDoorMLmd
import Derived.Test.YtklmgcjamifmaaaGreatDoorMIn
set_option linter.unusedVariables false
set_option linter.unusedSimpArgs false
namespace Go.LM.kD
noncomputable section
@[reducible] def bq:ad:=.st (.cons (.sl (.int .u8)) (.cons (.int .i64) (.cons (.int .i64) .nil)))
@[reducible] def aw:ad:=.st (.cons .str (.cons (.int .i64) .nil))
@[reducible] def I:ad:=.st (.cons (.int .i64) (.cons (.int .i64) (.cons (.int .i64) (.cons (.int .i64) (.cons (.int .i64) (.cons .str (.cons (.sl aw) (.cons (.int .i64) (.cons (.int .i64) .nil)))))))))
@[reducible] def ae:ad:=.st (.cons (.int .i64) (.cons (.sl I) .nil))
@[reducible] def aI:ad:=.st (.cons (.int .i64) (.cons .str (.cons .str (.cons (.int .i64) (.cons (.int .i64) (.cons .str .nil))))))
@[reducible] def aH:ad:=.st (.cons (.int .i64) (.cons (.int .i64) (.cons (.sl (.int .i64)) .nil)))
@[reducible] def aS:ad:=.st (.cons (.int .i64) (.cons .str (.cons (.int .i64) (.cons (.int .i64) .nil))))
@[reducible] def aL:ad:=.st (.cons (.int .i64) (.cons .str .nil))
@[reducible] def aK:ad:=.st (.cons ae (.cons aH (.cons aI .nil)))
def abp(a1:List Int):Option (Bool×Unit) :=some (decide ((a1.length:Int)>1048576),())
def JC(x:(List Int)×Unit):Option (Bool×Unit):=abp x.1
abbrev CG:Type:=(List Int)→Int→Int→Option (bq.D×Unit)
def RD(k3:CG)(a1:List Int):Option (bq.D×Unit) :=k3 a1 (aG (10101 +(a1.length:Int))) 0
def w1(k3:CG)(U:List Int)(aa:Int)(af:Int):Option (bq.D×Unit) :=cond (decide (af<(U.length:Int))) (cond (decide (af<4000)) ((aM U.length af).bind fun v1 =>k3 U (cR .and .i64 (aG (aG (aG (aa*131)+aG (J (ad.int .u8) U v1))+7)) 1073741823) (aG (af+1))) (some ((U,0,aa,()),()))) (some ((U,0,aa,()),()))
def w2:Nat→CG | 0,_,_,_=>none | m+1,U,aa,af=>w1 (w2 m) U aa af
def JD(x:(List Int)×Unit):Option (bq.D×Unit):=RD (w2 aP) x.1
abbrev RE:Type:=Int×bq.D×Unit
def JE(a1:bq.D):Option (RE) :=cond (decide (a1.2.1<(a1.1.length:Int))) ((aM a1.1.length a1.2.1).bind fun v1 =>some (cR .and .i64 (aG (cR .and .i64 (cR .xor .i64 (Int.fdiv (aG (aG (a1.2.2.1*6364136223846793005)+1442695040888963407)) (2 ^ min (Int.toNat 33) 64)) (Int.fdiv (aG (aG (a1.2.2.1*6364136223846793005)+1442695040888963407)) (2 ^ min (Int.toNat 45) 64))) 255+aG (J (ad.int .u8) a1.1 v1))) 255,(a1.1,aG (a1.2.1+1),aG (aG (a1.2.2.1*6364136223846793005)+1442695040888963407),()),())) (some (cR .and .i64 (cR .xor .i64 (Int.fdiv (aG (aG (a1.2.2.1*6364136223846793005)+1442695040888963407)) (2 ^ min (Int.toNat 33) 64)) (Int.fdiv (aG (aG (a1.2.2.1*6364136223846793005)+1442695040888963407)) (2 ^ min (Int.toNat 45) 64))) 255,(a1.1,a1.2.1,aG (aG (a1.2.2.1*6364136223846793005)+1442695040888963407),()),()))
def qz(x:bq.D×Unit):Option (RE):=JE x.1
abbrev RF:Type:=Int×bq.D×Unit
def JF(a1:bq.D)(a2:Int):Option (RF) :=cond (decide (a2≤0)) (some (0,a1,())) (cond (decide (a2≤256)) ((qz (a1,())).bind fun v1 =>cond (a2 != 0) (some (Int.tmod v1.1 a2,v1.2.1,())) (none)) ((qz (a1,())).bind fun v2 =>(qz (v2.2.1,())).bind fun v3 =>(qz (v3.2.1,())).bind fun v4 =>(qz (v4.2.1,())).bind fun v5 =>cond (a2 != 0) (some (Int.tmod (aG (aG (aG (aG (v2.1*16777216)+aG (v3.1*65536))+aG (v4.1*256))+v5.1)) a2,v5.2.1,())) (none)))
def gl(x:bq.D×Int×Unit):Option (RF):=JF x.1 x.2.1
abbrev RG:Type:=Bool×bq.D×Unit
def abq(a1:bq.D)(a2:Int):Option (RG) :=(gl (a1,a2,())).bind fun v1 =>some (v1.1==0,v1.2.1,())
def r2(x:bq.D×Int×Unit):Option (RG):=abq x.1 x.2.1
def abr  : Option (ae.D×Unit) :=some ((2,[(1,2,493,0,0,([]:List UInt8),([]:List aw.D),0,0,())],()),())
def JG(x:Unit):Option (ae.D×Unit):=abr
def abt  : Option (ae.D×Unit) :=some ((2,[(1,2,493,0,0,([]:List UInt8),([]:List aw.D),0,0,())],()),())
def JH(x:Unit):Option (ae.D×Unit):=abt
abbrev w3:Type:=Int→ae.D→ae.D→ae.D→Option (ae.D×Unit)
def y6(k3:w3)(a1:ae.D):Option (ae.D×Unit) :=k3 0 a1 (0,([]:List I.D),()) (a1.1,([]:List I.D),())
def RH(k3:w3)(U:Int)(aa:ae.D)(af:ae.D)(ai:ae.D)(v3:List I.D):Option (ae.D×Unit) :=k3 (aG (U+1)) aa af (ai.1,v3,())
def RI(k3:w3)(ai:ae.D)(aa:ae.D)(v1:Nat)(U:Int)(af:ae.D)(v2:List aw.D):Option (ae.D×Unit) :=cond (room (ai.2.1.length+[((J I aa.2.1 v1).1,(J I aa.2.1 v1).2.1,(J I aa.2.1 v1).2.2.1,(J I aa.2.1 v1).2.2.2.1,(J I aa.2.1 v1).2.2.2.2.1,(J I aa.2.1 v1).2.2.2.2.2.1,v2,(J I aa.2.1 v1).2.2.2.2.2.2.2.1,(J I aa.2.1 v1).2.2.2.2.2.2.2.2.1,())].length)) (RH k3 U aa af ai (ai.2.1++[((J I aa.2.1 v1).1,(J I aa.2.1 v1).2.1,(J I aa.2.1 v1).2.2.1,(J I aa.2.1 v1).2.2.2.1,(J I aa.2.1 v1).2.2.2.2.1,(J I aa.2.1 v1).2.2.2.2.2.1,v2,(J I aa.2.1 v1).2.2.2.2.2.2.2.1,(J I aa.2.1 v1).2.2.2.2.2.2.2.2.1,())])) (none)
def y7(k3:w3)(U:Int)(aa:ae.D)(af:ae.D)(ai:ae.D):Option (ae.D×Unit) :=cond (decide (U<(aa.2.1.length:Int))) ((aM aa.2.1.length U).bind fun v1 =>cond (room (([]:List aw.D).length +((J I aa.2.1 v1).2.2.2.2.2.2.1).length)) (RI k3 ai aa v1 U af (([]:List aw.D)++((J I aa.2.1 v1).2.2.2.2.2.2.1))) (none)) (some (ai,()))
def pH:Nat→w3 | 0,_,_,_,_=>none | m+1,U,aa,af,ai=>y7 (pH m) U aa af ai
def lZ(x:ae.D×Unit):Option (ae.D×Unit):=y6 (pH aP) x.1
abbrev w4:Type:=Int→ae.D→ae.D→ae.D→Option (ae.D×Unit)
def RJ(k3:w4)(a1:ae.D):Option (ae.D×Unit) :=k3 0 a1 (0,([]:List I.D),()) (a1.1,([]:List I.D),())
def abu(k3:w4)(U:Int)(aa:ae.D)(af:ae.D)(ai:ae.D)(v3:List I.D):Option (ae.D×Unit) :=k3 (aG (U+1)) aa af (ai.1,v3,())
def abv(k3:w4)(ai:ae.D)(aa:ae.D)(v1:Nat)(U:Int)(af:ae.D)(v2:List aw.D):Option (ae.D×Unit) :=cond (room (ai.2.1.length+[((J I aa.2.1 v1).1,(J I aa.2.1 v1).2.1,(J I aa.2.1 v1).2.2.1,(J I aa.2.1 v1).2.2.2.1,(J I aa.2.1 v1).2.2.2.2.1,(J I aa.2.1 v1).2.2.2.2.2.1,v2,(J I aa.2.1 v1).2.2.2.2.2.2.2.1,(J I aa.2.1 v1).2.2.2.2.2.2.2.2.1,())].length)) (abu k3 U aa af ai (ai.2.1++[((J I aa.2.1 v1).1,(J I aa.2.1 v1).2.1,(J I aa.2.1 v1).2.2.1,(J I aa.2.1 v1).2.2.2.1,(J I aa.2.1 v1).2.2.2.2.1,(J I aa.2.1 v1).2.2.2.2.2.1,v2,(J I aa.2.1 v1).2.2.2.2.2.2.2.1,(J I aa.2.1 v1).2.2.2.2.2.2.2.2.1,())])) (none)
def JI(k3:w4)(U:Int)(aa:ae.D)(af:ae.D)(ai:ae.D):Option (ae.D×Unit) :=cond (decide (U<(aa.2.1.length:Int))) ((aM aa.2.1.length U).bind fun v1 =>cond (room (([]:List aw.D).length +((J I aa.2.1 v1).2.2.2.2.2.2.1).length)) (abv k3 ai aa v1 U af (([]:List aw.D)++((J I aa.2.1 v1).2.2.2.2.2.2.1))) (none)) (some (ai,()))
def y8:Nat→w4 | 0,_,_,_,_=>none | m+1,U,aa,af,ai=>JI (y8 m) U aa af ai
def y9(x:ae.D×Unit):Option (ae.D×Unit):=RJ (y8 aP) x.1
def JJ(a1:Int)(a2:Int)(a3:Int):Option (Bool×Unit) :=cond (decide (a1≥a2)) (some (decide (a1≤a3),())) (some (false,()))
def eg(x:Int×Int×Int×Unit):Option (Bool×Unit):=JJ x.1 x.2.1 x.2.2.1
abbrev CH:Type:=aI.D→Option (Bool×Unit)
def CI(bt:CH)(a1:aI.D):Option (Bool×Unit) :=(eg (a1.1,1,22,())).bind fun v1 =>cond (!v1.1) (some (false,())) (cond (decide ((a1.2.1.length:Int)>60)) (some (false,())) (cond (decide ((a1.2.2.1.length:Int)>60)) (some (false,())) (cond (decide ((a1.2.2.2.2.2.1.length:Int)>64)) (some (false,())) ((eg (a1.2.2.2.1,(-1000000),1000000,())).bind fun v2 =>cond (!v2.1) (some (false,())) ((eg (a1.2.2.2.2.1,(-1000000),1000000,())).bind fun v3 =>cond (!v3.1) (some (false,())) (cond (!(bn a1.2.2.1 ([]:List UInt8))) (cond (a1.1 != 9) (cond (a1.1 != 10) (cond (a1.1 != 12) (some (false,())) (bt a1)) (bt a1)) (bt a1)) (bt a1)))))))
def JK(bt:CH)(U:aI.D):Option (Bool×Unit) :=cond (bn U.2.2.2.2.2.1 ([]:List UInt8)) (some (true,())) (cond (U.1==5) (some (true,())) (some (U.1==6,())))
def y_:Nat→CH | 0,_=>none | m+1,U=>JK (y_ m) U
def JL(x:aI.D×Unit):Option (Bool×Unit):=CI (y_ aP) x.1
def JM(a1:Int):Option (Bool×Unit) :=cond (decide (a1≥97)) (cond (decide (a1≤122)) (some (true,())) (cond (decide (a1≥48)) (cond (decide (a1≤57)) (some (true,())) (cond (a1==46) (some (true,())) (cond (a1==95) (some (true,())) (some (a1==45,()))))) (cond (a1==46) (some (true,())) (cond (a1==95) (some (true,())) (some (a1==45,())))))) (cond (decide (a1≥48)) (cond (decide (a1≤57)) (some (true,())) (cond (a1==46) (some (true,())) (cond (a1==95) (some (true,())) (some (a1==45,()))))) (cond (a1==46) (some (true,())) (cond (a1==95) (some (true,())) (some (a1==45,())))))
def y'(x:Int×Unit):Option (Bool×Unit):=JM x.1
abbrev CJ:Type:=(List UInt8)→Int→Option (Bool×Unit)
def CK(ba:CJ)(a1:List UInt8):Option (Bool×Unit) :=(eg ((a1.length:Int),1,60,())).bind fun v1 =>cond (!v1.1) (some (false,())) (ba a1 0)
def CL(ba:CJ)(U:List UInt8)(aa:Int):Option (Bool×Unit) :=cond (decide (aa<(U.length:Int))) ((aM U.length aa).bind fun v1 =>cond (((U.getD v1 0).toNat:Int) != 47) ((aM U.length aa).bind fun v2 =>(y' (((U.getD v2 0).toNat:Int),())).bind fun v3 =>cond (!v3.1) (some (false,())) (ba U (aG (aa+1)))) (ba U (aG (aa+1)))) (some (true,()))
def uf:Nat→CJ | 0,_,_=>none | m+1,U,aa=>CL (uf m) U aa
def za(x:(List UInt8)×Unit):Option (Bool×Unit):=CK (uf aP) x.1
abbrev CM:Type:=Int→aH.D→Option (Bool×Unit)
def CN(ba:CM)(a1:aH.D):Option (Bool×Unit) :=(eg (a1.1,0,1000,())).bind fun v1 =>cond (!v1.1) (some (false,())) ((eg (a1.2.1,0,1000,())).bind fun v2 =>cond (!v2.1) (some (false,())) (cond (decide ((a1.2.2.1.length:Int)>4)) (some (false,())) (ba 0 a1)))
def CO(ba:CM)(U:Int)(aa:aH.D):Option (Bool×Unit) :=cond (decide (U<(aa.2.2.1.length:Int))) ((aM aa.2.2.1.length U).bind fun v1 =>(eg (J (ad.int .i64) aa.2.2.1 v1,0,1000,())).bind fun v2 =>cond (!v2.1) (some (false,())) (ba (aG (U+1)) aa)) (some (true,()))
def ug:Nat→CM | 0,_,_=>none | m+1,U,aa=>CO (ug m) U aa
def uh(x:aH.D×Unit):Option (Bool×Unit):=CN (ug aP) x.1
abbrev CP:Type:=Int→Bool→Int→aH.D→Option (Bool×Unit)
def CQ(bt:CP)(a1:aH.D)(a2:Int):Option (Bool×Unit) :=(uh (a1,())).bind fun v1 =>cond (!v1.1) (some (false,())) (bt a2 (a1.2.1==a2) 0 a1)
def CR(bt:CP)(U:Int)(aa:Bool)(af:Int)(ai:aH.D):Option (Bool×Unit) :=cond (decide (af<(ai.2.2.1.length:Int))) (cond aa (bt U true (aG (af+1)) ai) ((aM ai.2.2.1.length af).bind fun v1 =>bt U (J (ad.int .i64) ai.2.2.1 v1==U) (aG (af+1)) ai)) (some (aa,()))
def ui:Nat→CP | 0,_,_,_,_=>none | m+1,U,aa,af,ai=>CR (ui m) U aa af ai
def uj(x:aH.D×Int×Unit):Option (Bool×Unit):=CQ (ui aP) x.1 x.2.1
def JN(a1:aH.D)(a2:I.D)(a3:Int):Option (Bool×Unit) :=(uh (a1,())).bind fun v1 =>cond (!v1.1) (some (false,())) ((eg (a3,0,7,())).bind fun v2 =>cond (!v2.1) (some (false,())) (cond (a1.1==0) (cond (cR .and .i64 a3 1==0) (some (true,())) (cond (a2.2.1 != 1) (some (true,())) (some (cR .and .i64 a2.2.2.1 73 != 0,())))) ((uj (a1,a2.2.2.2.2.1,())).bind fun v3 =>cond v3.1 (cond (a1.1==a2.2.2.2.1) (some (cR .and .i64 (cR .and .i64 (Int.fdiv a2.2.2.1 (2 ^ min (Int.toNat 6) 64)) 7) a3==a3,())) (some (cR .and .i64 (cR .and .i64 (Int.fdiv a2.2.2.1 (2 ^ min (Int.toNat 3) 64)) 7) a3==a3,()))) (cond (a1.1==a2.2.2.2.1) (some (cR .and .i64 (cR .and .i64 (Int.fdiv a2.2.2.1 (2 ^ min (Int.toNat 6) 64)) 7) a3==a3,())) (some (cR .and .i64 (cR .and .i64 a2.2.2.1 7) a3==a3,()))))))
def j_(x:aH.D×I.D×Int×Unit):Option (Bool×Unit):=JN x.1 x.2.1 x.2.2.1
abbrev CS:Type:=(List UInt8)→Int→Option (Bool×Unit)
def CT(ba:CS)(a1:List UInt8):Option (Bool×Unit) :=(eg ((a1.length:Int),1,60,())).bind fun v1 =>cond (!v1.1) (some (false,())) ((aM a1.length 0).bind fun v2 =>cond (((a1.getD v2 0).toNat:Int) != 47) (some (false,())) (ba a1 0))
def CU(ba:CS)(U:List UInt8)(aa:Int):Option (Bool×Unit) :=cond (decide (aa<(U.length:Int))) ((aM U.length aa).bind fun v1 =>cond (((U.getD v1 0).toNat:Int) != 47) ((aM U.length aa).bind fun v2 =>(y' (((U.getD v2 0).toNat:Int),())).bind fun v3 =>cond (!v3.1) (some (false,())) (ba U (aG (aa+1)))) (ba U (aG (aa+1)))) (some (true,()))
def uk:Nat→CS | 0,_,_=>none | m+1,U,aa=>CU (uk m) U aa
def CV(x:(List UInt8)×Unit):Option (Bool×Unit):=CT (uk aP) x.1
abbrev CW:Type:=Int→Int→ae.D→Option (Int×Unit)
def CX(k2:CW)(a1:ae.D)(a2:Int):Option (Int×Unit) :=k2 a2 0 a1
def CY(k2:CW)(U:Int)(aa:Int)(af:ae.D):Option (Int×Unit) :=cond (decide (aa<(af.2.1.length:Int))) ((aM af.2.1.length aa).bind fun v1 =>cond ((J I af.2.1 v1).1==U) (some (aa,())) (k2 U (aG (aa+1)) af)) (some ((-1),()))
def um:Nat→CW | 0,_,_,_=>none | m+1,U,aa,af=>CY (um m) U aa af
def jQ(x:ae.D×Int×Unit):Option (Int×Unit):=CX (um aP) x.1 x.2.1
abbrev zb:Type:=(List (List UInt8))×Unit
abbrev CZ:Type:=(List UInt8)→Int→Int→(List (List UInt8))→Option (zb)
def C0(ba:CZ)(a1:List UInt8):Option (zb) :=ba a1 0 0 ([]:List (List UInt8))
def zc(ba:CZ)(U:List UInt8)(aa:Int)(af:Int)(ai:List (List UInt8)):Option (zb) :=cond (decide (af≤(U.length:Int))) (cond (af ==(U.length:Int)) (cond (decide (af>aa)) ((d_ U.length aa af).bind fun v1 =>cond (room (ai.length+[part U v1.1 (v1.2-v1.1)].length)) (ba U (aG (af+1)) (aG (af+1)) (ai++[part U v1.1 (v1.2-v1.1)])) (none)) (ba U (aG (af+1)) (aG (af+1)) ai)) ((aM U.length af).bind fun v2 =>cond (((U.getD v2 0).toNat:Int)==47) (cond (decide (af>aa)) ((d_ U.length aa af).bind fun v3 =>cond (room (ai.length+[part U v3.1 (v3.2-v3.1)].length)) (ba U (aG (af+1)) (aG (af+1)) (ai++[part U v3.1 (v3.2-v3.1)])) (none)) (ba U (aG (af+1)) (aG (af+1)) ai)) (ba U aa (aG (af+1)) ai))) (some (ai,()))
def qA:Nat→CZ | 0,_,_,_,_=>none | m+1,U,aa,af,ai=>zc (qA m) U aa af ai
def w5(x:(List UInt8)×Unit):Option (zb):=C0 (qA aP) x.1
structure uo where
 k2:Int→Int→ae.D→Option (Int×Unit)
 bt:Int→Int→Int→ae.D→Option (Int×Unit)
def C1(k:uo)(a1:ae.D)(a2:Int):Option (Int×Unit) :=k.k2 a2 0 a1
def uq(k:uo)(U:Int)(aa:Int)(af:ae.D):Option (Int×Unit) :=cond (decide (aa<(af.2.1.length:Int))) (k.bt U aa 0 af) (some (1,()))
def ur(k:uo)(U:Int)(aa:Int)(af:Int)(ai:ae.D):Option (Int×Unit) :=(aM ai.2.1.length aa).bind fun v1 =>cond (decide (af<(((J I ai.2.1 v1).2.2.2.2.2.2.1).length:Int))) ((aM ai.2.1.length aa).bind fun v2 =>(aM (((J I ai.2.1 v2).2.2.2.2.2.2.1).length) af).bind fun v3 =>cond ((J aw ((J I ai.2.1 v2).2.2.2.2.2.2.1) v3).2.1==U) ((aM ai.2.1.length aa).bind fun v4 =>some ((J I ai.2.1 v4).1,())) (k.bt U aa (aG (af+1)) ai)) (k.k2 U (aG (aa+1)) ai)
def RK(k:uo):uo:=⟨uq k,ur k⟩
def kE:Nat→uo:=eN RK ⟨fun _ _ _=>none,fun _ _ _ _=>none⟩
def C2(x:ae.D×Int×Unit):Option (Int×Unit):=C1 (kE aP) x.1 x.2.1
abbrev C3:Type:=(List UInt8)→(List aw.D)→Int→Option (Int×Unit)
def C4(k3:C3)(a1:ae.D)(a2:Int)(a3:List UInt8):Option (Int×Unit) :=(jQ (a1,a2,())).bind fun v1 =>(aM a1.2.1.length v1.1).bind fun v2 =>k3 a3 ((J I a1.2.1 v2).2.2.2.2.2.2.1) 0
def C5(k3:C3)(U:List UInt8)(aa:List aw.D)(af:Int):Option (Int×Unit) :=cond (decide (af<(aa.length:Int))) ((aM aa.length af).bind fun v1 =>cond (bn ((J aw aa v1).1) U) ((aM aa.length af).bind fun v2 =>some ((J aw aa v2).2.1,())) (k3 U aa (aG (af+1)))) (some (0,()))
def r3:Nat→C3 | 0,_,_,_=>none | m+1,U,aa,af=>C5 (r3 m) U aa af
def JO(x:ae.D×Int×(List UInt8)×Unit):Option (Int×Unit):=C4 (r3 aP) x.1 x.2.1 x.2.2.1
structure pI where
 ba:Bool→Nat→Nat→Int→Int→ae.D→aH.D→aS.D→(List (List UInt8))→Option (aS.D×Unit)
 r4:Bool→Nat→Nat→Int→Int→(List UInt8)→Bool→Int→ae.D→aH.D→aS.D→(List (List UInt8))→I.D→Option (aS.D×Unit)
 gx:Bool→Nat→Nat→Int→Int→ae.D→aH.D→aS.D→(List (List UInt8))→I.D→Option (aS.D×Unit)
 uu:Bool→Nat→Nat→Int→Int→(List UInt8)→Bool→Int→ae.D→aH.D→aS.D→(List (List UInt8))→I.D→Option (aS.D×Unit)
 oI:Bool→Nat→Nat→Int→Int→ae.D→aH.D→aS.D→(List (List UInt8))→I.D→Option (aS.D×Unit)
def w6(k:pI)(a1:ae.D)(a2:aH.D)(a3:List UInt8)(a4:Bool):Option (aS.D×Unit) :=(w5 (a3,())).bind fun v1 =>k.ba a4 0 v1.1.length 1 0 a1 a2 (0,([]:List UInt8),0,0,()) v1.1
def ie(k:pI)(U:Bool)(aa:Nat)(af:Nat)(ai:Int)(ar:Int)(aE:ae.D)(bb:aH.D)(bN:aS.D)(cB:List (List UInt8)):Option (aS.D×Unit) :=cond (decide ((af:Int)>0)) ((aM af 0).bind fun v1 =>(d_ af 1 (af:Int)).bind fun v2 =>(jQ (aE,ai,())).bind fun v3 =>(aM aE.2.1.length v3.1).bind fun v4 =>(j_ (bb,J I aE.2.1 v4,1,())).bind fun v5 =>cond (!v5.1) (some ((0,([]:List UInt8),0,13,()),())) (cond (bn (J ad.str cB (aa+v1)) ([46]:List UInt8)) (k.ba U (aa+v2.1) (v2.2-v2.1) ai ar aE bb bN cB) (cond (bn (J ad.str cB (aa+v1)) ([46,46]:List UInt8)) ((C2 (aE,ai,())).bind fun v6 =>k.ba U (aa+v2.1) (v2.2-v2.1) v6.1 ar aE bb bN cB) (cond (decide (((J ad.str cB (aa+v1)).length:Int)>8)) (some ((0,([]:List UInt8),0,36,()),())) ((JO (aE,ai,J ad.str cB (aa+v1),())).bind fun bu =>cond (bu.1==0) (cond ((((v2.2-v2.1):Nat):Int)==0) (some ((ai,J ad.str cB (aa+v1),0,2,()),())) (some ((0,([]:List UInt8),0,2,()),()))) (dup ((jQ (aE,bu.1,())).bind fun dd =>(aM aE.2.1.length dd.1).bind fun v9 =>k.r4 U (aa+v2.1) (v2.2-v2.1) ai ar (J ad.str cB (aa+v1)) ((((v2.2-v2.1):Nat):Int)==0) bu.1 aE bb bN cB (J I aE.2.1 v9)))))))) (some ((0,([]:List UInt8),ai,0,()),()))
def r5(k:pI)(U:Bool)(aa:Nat)(af:Nat)(ai:Int)(ar:Int)(aE:List UInt8)(bb:Bool)(bN:Int)(cB:ae.D)(ff:aH.D)(kF:aS.D)(kG:List (List UInt8))(j':I.D):Option (aS.D×Unit) :=cond (j'.2.1==3) (cond (!bb) (k.gx U aa af ai ar cB ff kF kG j') (cond U (k.gx U aa af ai ar cB ff kF kG j') (k.uu U aa af ai ar aE bb bN cB ff kF kG j'))) (k.uu U aa af ai ar aE bb bN cB ff kF kG j')
def zd(k:pI)(U:Bool)(aa:Nat)(af:Nat)(ai:Int)(ar:Int)(aE:ae.D)(bb:aH.D)(bN:aS.D)(cB:List (List UInt8))(ff:I.D):Option (aS.D×Unit) :=cond (decide (aG (ar+1)>8)) (some ((0,([]:List UInt8),0,40,()),())) ((aM ff.2.2.2.2.2.1.length 0).bind fun v1 =>cond (((ff.2.2.2.2.2.1.getD v1 0).toNat:Int)==47) (k.oI U aa af 1 (aG (ar+1)) aE bb bN cB ff) (k.oI U aa af ai (aG (ar+1)) aE bb bN cB ff))
def ze(k:pI)(U:Bool)(aa:Nat)(af:Nat)(ai:Int)(ar:Int)(aE:List UInt8)(bb:Bool)(bN:Int)(cB:ae.D)(ff:aH.D)(kF:aS.D)(kG:List (List UInt8))(j':I.D):Option (aS.D×Unit) :=cond bb (some ((ai,aE,bN,0,()),())) (cond (j'.2.1 != 2) (some ((0,([]:List UInt8),0,20,()),())) (k.ba U aa af bN ar cB ff kF kG))
def zf(k:pI)(U:Bool)(aa:Nat)(af:Nat)(ai:Int)(ar:Int)(aE:ae.D)(bb:aH.D)(bN:aS.D)(cB:List (List UInt8))(ff:I.D):Option (aS.D×Unit) :=(w5 (ff.2.2.2.2.2.1,())).bind fun v1 =>cond (room (v1.1.length +(part cB aa af).length)) (cond (decide (((v1.1++(part cB aa af)).length:Int)>40)) (some ((0,([]:List UInt8),0,36,()),())) (k.ba U 0 ((v1.1++(part cB aa af)).length) ai ar aE bb bN (v1.1++(part cB aa af)))) (none)
def RL(k:pI):pI:=⟨ie k,r5 k,zd k,ze k,zf k⟩
def de:Nat→pI:=eN RL ⟨fun _ _ _ _ _ _ _ _ _=>none,fun _ _ _ _ _ _ _ _ _ _ _ _ _=>none,fun _ _ _ _ _ _ _ _ _ _=>none,fun _ _ _ _ _ _ _ _ _ _ _ _ _=>none,fun _ _ _ _ _ _ _ _ _ _=>none⟩
def C6(x:ae.D×aH.D×(List UInt8)×Bool×Unit):Option (aS.D×Unit):=w6 (de aP) x.1 x.2.1 x.2.2.1 x.2.2.2.1
def uv(a1:ae.D)(a2:aH.D)(a3:List UInt8):Option (aS.D×Int×Unit) :=(CV (a3,())).bind fun v1 =>cond (!v1.1) (some ((0,([]:List UInt8),0,0,()),22,())) ((C6 (a1,a2,a3,false,())).bind fun v2 =>cond (v2.1.2.2.2.1==0) (some (v2.1,17,())) (cond (v2.1.2.2.2.1==2) (cond (!(bn v2.1.2.1 ([]:List UInt8))) (some (v2.1,0,())) (some (v2.1,v2.1.2.2.2.1,()))) (some (v2.1,v2.1.2.2.2.1,()))))
def qB(x:ae.D×aH.D×(List UInt8)×Unit):Option (aS.D×Int×Unit):=uv x.1 x.2.1 x.2.2.1
def JP(a1:ae.D)(a2:Int):Option (I.D×Unit) :=(jQ (a1,a2,())).bind fun v1 =>(aM a1.2.1.length v1.1).bind fun v2 =>some (J I a1.2.1 v2,())
def e_(x:ae.D×Int×Unit):Option (I.D×Unit):=JP x.1 x.2.1
abbrev C7:Type:=Int→Int→ae.D→Option (Int×Unit)
def C8(k3:C7)(a1:ae.D):Option (Int×Unit) :=k3 0 0 a1
def C9(k3:C7)(U:Int)(aa:Int)(af:ae.D):Option (Int×Unit) :=cond (decide (aa<(af.2.1.length:Int))) ((aM af.2.1.length aa).bind fun v1 =>k3 (aG (U +(((J I af.2.1 v1).2.2.2.2.2.1).length:Int))) (aG (aa+1)) af) (some (U,()))
def uw:Nat→C7 | 0,_,_,_=>none | m+1,U,aa,af=>C9 (uw m) U aa af
def zg(x:ae.D×Unit):Option (Int×Unit):=C8 (uw aP) x.1
structure qC where
 eo:Int→ae.D→(List Bool)→(List Bool)→Option ((List Bool)×Unit)
 c3:Int→Int→ae.D→(List Bool)→(List Bool)→Option ((List Bool)×Unit)
 C_:Int→Int→Int→ae.D→(List Bool)→(List Bool)→Option ((List Bool)×Unit)
def abw(k:qC)(a1:ae.D)(v3:List Bool):Option ((List Bool)×Unit) :=k.eo 0 a1 (List.replicate (Int.toNat (a1.2.1.length:Int)) (false:Bool)) v3
def C'(k:qC)(a1:ae.D)(a2:Int):Option ((List Bool)×Unit) :=cond (decide (0≤(a1.2.1.length:Int))&&decide ((a1.2.1.length:Int)=(a1.2.1.length:Int))&&room (Int.toNat (a1.2.1.length:Int))) (cond (decide (0≤(a1.2.1.length:Int))&&decide ((a1.2.1.length:Int)=(a1.2.1.length:Int))&&room (Int.toNat (a1.2.1.length:Int))) ((jQ (a1,a2,())).bind fun v1 =>cond (decide (v1.1<0)) (some (List.replicate (Int.toNat (a1.2.1.length:Int)) (false:Bool),())) ((aM ((List.replicate (Int.toNat (a1.2.1.length:Int)) (false:Bool)).length) v1.1).bind fun v2 =>abw k a1 ((List.replicate (Int.toNat (a1.2.1.length:Int)) (false:Bool)).set (0+v2) true))) (none)) (none)
def zh(k:qC)(U:Int)(aa:ae.D)(af:List Bool)(ai:List Bool):Option ((List Bool)×Unit) :=cond (decide (U<(aa.2.1.length:Int))) (k.c3 U 0 aa af ai) (some (af,()))
def ux(k:qC)(U:Int)(aa:Int)(af:ae.D)(ai:List Bool)(ar:List Bool):Option ((List Bool)×Unit) :=cond (decide (aa<(af.2.1.length:Int))) ((aM ar.length aa).bind fun v1 =>cond (!(J ad.bool ar (0+v1))) (k.c3 U (aG (aa+1)) af ai ar) (k.C_ U aa 0 af ai ar)) (k.eo (aG (U+1)) af ai ar)
def zi(k:qC)(U:Int)(aa:Int)(af:Int)(ai:ae.D)(ar:List Bool)(aE:List Bool):Option ((List Bool)×Unit) :=(aM ai.2.1.length aa).bind fun v1 =>cond (decide (af<(((J I ai.2.1 v1).2.2.2.2.2.2.1).length:Int))) ((aM ai.2.1.length aa).bind fun v2 =>(aM (((J I ai.2.1 v2).2.2.2.2.2.2.1).length) af).bind fun v3 =>(jQ (ai,(J aw ((J I ai.2.1 v2).2.2.2.2.2.2.1) v3).2.1,())).bind fun v4 =>cond (decide (v4.1≥0)) ((aM ar.length v4.1).bind fun v5 =>(aM aE.length v4.1).bind fun v6 =>k.C_ U aa (aG (af+1)) ai (ar.set (0+v5) true) (aE.set (0+v6) true)) (k.C_ U aa (aG (af+1)) ai ar aE)) (k.c3 U (aG (aa+1)) ai ar aE)
def RM(k:qC):qC:=⟨zh k,ux k,zi k⟩
def ka:Nat→qC:=eN RM ⟨fun _ _ _ _=>none,fun _ _ _ _ _=>none,fun _ _ _ _ _ _=>none⟩
def Da(x:ae.D×Int×Unit):Option ((List Bool)×Unit):=C' (ka aP) x.1 x.2.1
abbrev Db:Type:=Int→Int→Int→ae.D→(List Bool)→Option (Int×Int×Unit)
def Dc(bt:Db)(a1:ae.D)(a2:Int):Option (Int×Int×Unit) :=(Da (a1,a2,())).bind fun v1 =>bt 0 0 0 a1 v1.1
def Dd(bt:Db)(U:Int)(aa:Int)(af:Int)(ai:ae.D)(ar:List Bool):Option (Int×Int×Unit) :=cond (decide (af<(ar.length:Int))) ((aM ar.length af).bind fun v1 =>cond (J ad.bool ar (0+v1)) ((aM ai.2.1.length af).bind fun v2 =>bt (aG (U +(((J I ai.2.1 v2).2.2.2.2.2.1).length:Int))) (aG (aa+1)) (aG (af+1)) ai ar) (bt U aa (aG (af+1)) ai ar)) (some (U,aa,()))
def uy:Nat→Db | 0,_,_,_,_,_=>none | m+1,U,aa,af,ai,ar=>Dd (uy m) U aa af ai ar
def zj(x:ae.D×Int×Unit):Option (Int×Int×Unit):=Dc (uy aP) x.1 x.2.1
structure uz where
 k2:Int→ae.D→Option (Bool×Unit)
 dh:Int→ae.D→I.D→Option (Bool×Unit)
def De(k:uz)(a1:ae.D):Option (Bool×Unit) :=k.k2 0 a1
def zk(k:uz)(U:Int)(aa:ae.D):Option (Bool×Unit) :=cond (decide (U<(aa.2.1.length:Int))) ((aM aa.2.1.length U).bind fun v1 =>cond ((J I aa.2.1 v1).2.1 != 2) (k.k2 (aG (U+1)) aa) (cond ((J I aa.2.1 v1).2.2.2.2.2.2.2.1==0) (cond ((J I aa.2.1 v1).2.2.2.2.2.2.2.2.1==0) (k.k2 (aG (U+1)) aa) (k.dh U aa (J I aa.2.1 v1))) (k.dh U aa (J I aa.2.1 v1)))) (some (false,()))
def JQ(k:uz)(U:Int)(aa:ae.D)(af:I.D):Option (Bool×Unit) :=(zj (aa,af.1,())).bind fun v1 =>cond (decide (af.2.2.2.2.2.2.2.1>0)) (cond (decide (v1.1>af.2.2.2.2.2.2.2.1)) (some (true,())) (cond (decide (af.2.2.2.2.2.2.2.2.1>0)) (cond (decide (v1.2.1>af.2.2.2.2.2.2.2.2.1)) (some (true,())) (k.k2 (aG (U+1)) aa)) (k.k2 (aG (U+1)) aa))) (cond (decide (af.2.2.2.2.2.2.2.2.1>0)) (cond (decide (v1.2.1>af.2.2.2.2.2.2.2.2.1)) (some (true,())) (k.k2 (aG (U+1)) aa)) (k.k2 (aG (U+1)) aa))
def RN(k:uz):uz:=⟨zk k,JQ k⟩
def kb:Nat→uz:=eN RN ⟨fun _ _=>none,fun _ _ _=>none⟩
def Df(x:ae.D×Unit):Option (Bool×Unit):=De (kb aP) x.1
def JR(a1:ae.D):Option (Int×Unit) :=(zg (a1,())).bind fun v1 =>cond (decide (v1.1>400)) (some (28,())) ((Df (a1,())).bind fun v2 =>cond v2.1 (some (122,())) (some (0,())))
def JS(x:ae.D×Unit):Option (Int×Unit):=JR x.1
abbrev RO:Type:=ae.D×aL.D×Unit
def JT(a1:ae.D)(a2:ae.D):Option (RO) :=(JS (a2,())).bind fun v1 =>cond (v1.1 != 0) (some (a1,(v1.1,([]:List UInt8),()),())) (some (a2,(0,([]:List UInt8),()),()))
def qD(x:ae.D×ae.D×Unit):Option (RO):=JT x.1 x.2.1
def zl(a1:ae.D)(a2:I.D):Option (ae.D×Unit) :=(jQ (a1,a2.1,())).bind fun v1 =>cond (decide (v1.1<0)) (cond (room (a1.2.1.length+[a2].length)) (some ((a1.1,a1.2.1++[a2],()),())) (none)) ((aM a1.2.1.length v1.1).bind fun v2 =>some ((a1.1,a1.2.1.set (0+v2) a2,()),()))
def oJ(x:ae.D×I.D×Unit):Option (ae.D×Unit):=zl x.1 x.2.1
structure r6 where
 bt:(List UInt8)→Int→Bool→Int→ae.D→ae.D→I.D→(List aw.D)→Option (ae.D×Unit)
 gj:(List UInt8)→Int→Bool→Int→ae.D→ae.D→I.D→(List aw.D)→Option (ae.D×Unit)
 mG:ae.D→ae.D→I.D→(List aw.D)→Option (ae.D×Unit)
def Dg(k:r6)(a1:ae.D)(a2:Int)(a3:List UInt8)(a4:Int):Option (ae.D×Unit) :=(e_ (a1,a2,())).bind fun v1 =>k.bt a3 a4 false 0 a1 (0,([]:List I.D),()) v1.1 ([]:List aw.D)
def oK(k:r6)(U:List UInt8)(aa:Int)(af:Bool)(ai:Int)(ar:ae.D)(aE:ae.D)(bb:I.D)(bN:List aw.D):Option (ae.D×Unit) :=cond (decide (ai<(bb.2.2.2.2.2.2.1.length:Int))) (cond (!af) ((aM bb.2.2.2.2.2.2.1.length ai).bind fun v1 =>cond (dy U ((J aw bb.2.2.2.2.2.2.1 v1).1)) (cond (room (bN.length+[(U,aa,())].length)) (k.gj U aa true ai ar aE bb (bN++[(U,aa,())])) (none)) (k.gj U aa af ai ar aE bb bN)) (k.gj U aa af ai ar aE bb bN)) (cond (!af) (cond (room (bN.length+[(U,aa,())].length)) (k.mG ar aE bb (bN++[(U,aa,())])) (none)) (k.mG ar aE bb bN))
def uA(k:r6)(U:List UInt8)(aa:Int)(af:Bool)(ai:Int)(ar:ae.D)(aE:ae.D)(bb:I.D)(bN:List aw.D):Option (ae.D×Unit) :=(aM bb.2.2.2.2.2.2.1.length ai).bind fun v1 =>cond (room (bN.length+[J aw bb.2.2.2.2.2.2.1 v1].length)) (k.bt U aa af (aG (ai+1)) ar aE bb (bN++[J aw bb.2.2.2.2.2.2.1 v1])) (none)
def JU(k:r6)(U:ae.D)(aa:ae.D)(af:I.D)(ai:List aw.D):Option (ae.D×Unit) :=(oJ (U,(af.1,af.2.1,af.2.2.1,af.2.2.2.1,af.2.2.2.2.1,af.2.2.2.2.2.1,ai,af.2.2.2.2.2.2.2.1,af.2.2.2.2.2.2.2.2.1,()),())).bind fun v1 =>some (v1.1,())
def RP(k:r6):r6:=⟨oK k,uA k,JU k⟩
def iF:Nat→r6:=eN RP ⟨fun _ _ _ _ _ _ _ _=>none,fun _ _ _ _ _ _ _ _=>none,fun _ _ _ _=>none⟩
def r7(x:ae.D×Int×(List UInt8)×Int×Unit):Option (ae.D×Unit):=Dg (iF aP) x.1 x.2.1 x.2.2.1 x.2.2.2.1
abbrev oL:Type:=ae.D×aL.D×Unit
structure qE where
 k3:ae.D→aH.D→aI.D→ae.D→aL.D→Option (oL)
 zm:ae.D→aI.D→ae.D→aL.D→aS.D→I.D→I.D→Option (oL)
 gL:ae.D→ae.D→aL.D→aS.D→I.D→I.D→Option (oL)
 gx:ae.D→ae.D→aL.D→aS.D→I.D→Option (oL)
def w7(k:qE)(a1:ae.D)(a2:aH.D)(a3:aI.D):Option (oL) :=cond (a3.1==10) ((za (a3.2.2.1,())).bind fun v1 =>cond (!v1.1) (some (a1,(22,([]:List UInt8),()),())) (cond (a3.1 != 10) ((eg (a3.2.2.2.1,0,2047,())).bind fun v2 =>cond (!v2.1) (some (a1,(22,([]:List UInt8),()),())) (k.k3 a1 a2 a3 (0,([]:List I.D),()) (0,([]:List UInt8),()))) (k.k3 a1 a2 a3 (0,([]:List I.D),()) (0,([]:List UInt8),())))) (cond (a3.1 != 10) ((eg (a3.2.2.2.1,0,2047,())).bind fun v3 =>cond (!v3.1) (some (a1,(22,([]:List UInt8),()),())) (k.k3 a1 a2 a3 (0,([]:List I.D),()) (0,([]:List UInt8),()))) (k.k3 a1 a2 a3 (0,([]:List I.D),()) (0,([]:List UInt8),())))
def zn(k:qE)(U:ae.D)(aa:aH.D)(af:aI.D)(ai:ae.D)(ar:aL.D):Option (oL) :=(qB (U,aa,af.2.1,())).bind fun v1 =>cond (v1.2.1 != 0) (some (U,(v1.2.1,([]:List UInt8),()),())) ((e_ (U,v1.1.1,())).bind fun v2 =>(j_ (aa,v2.1,3,())).bind fun v3 =>cond (!v3.1) (some (U,(13,([]:List UInt8),()),())) (cond (decide ((v2.1.2.2.2.2.2.2.1.length:Int)≥12)) (some (U,(28,([]:List UInt8),()),())) (cond (decide ((U.2.1.length:Int)≥24)) (some (U,(28,([]:List UInt8),()),())) (cond (decide (U.1≥100000)) (some (U,(28,([]:List UInt8),()),())) (cond (af.1==1) (k.zm U af ai ar v1.1 v2.1 (U.1,2,af.2.2.2.1,aa.1,aa.2.1,([]:List UInt8),([]:List aw.D),0,0,())) (k.zm U af ai ar v1.1 v2.1 (U.1,1,af.2.2.2.1,aa.1,aa.2.1,([]:List UInt8),([]:List aw.D),0,0,())))))))
def abx(k:qE)(U:ae.D)(aa:aI.D)(af:ae.D)(ai:aL.D)(ar:aS.D)(aE:I.D)(bb:I.D):Option (oL) :=cond (aa.1==10) (k.gL U af ai ar aE (bb.1,3,511,bb.2.2.2.1,bb.2.2.2.2.1,aa.2.2.1,bb.2.2.2.2.2.2.1,bb.2.2.2.2.2.2.2.1,bb.2.2.2.2.2.2.2.2.1,())) (k.gL U af ai ar aE bb)
def aby(k:qE)(U:ae.D)(aa:ae.D)(af:aL.D)(ai:aS.D)(ar:I.D)(aE:I.D):Option (oL) :=cond (cR .and .i64 ar.2.2.1 1024 != 0) (cond (aE.2.1==2) (k.gx U aa af ai (aE.1,aE.2.1,cR .or .i64 aE.2.2.1 1024,aE.2.2.2.1,ar.2.2.2.2.1,aE.2.2.2.2.2.1,aE.2.2.2.2.2.2.1,aE.2.2.2.2.2.2.2.1,aE.2.2.2.2.2.2.2.2.1,())) (k.gx U aa af ai (aE.1,aE.2.1,aE.2.2.1,aE.2.2.2.1,ar.2.2.2.2.1,aE.2.2.2.2.2.1,aE.2.2.2.2.2.2.1,aE.2.2.2.2.2.2.2.1,aE.2.2.2.2.2.2.2.2.1,()))) (k.gx U aa af ai aE)
def JV(k:qE)(U:ae.D)(aa:ae.D)(af:aL.D)(ai:aS.D)(ar:I.D):Option (oL) :=(lZ (U,())).bind fun v1 =>(oJ ((aG (v1.1.1+1),v1.1.2.1,()),ar,())).bind fun v2 =>(r7 (v2.1,ai.1,ai.2.1,ar.1,())).bind fun v3 =>(qD (U,v3.1,())).bind fun v4 =>some (v4.1,v4.2.1,())
def RQ(k:qE):qE:=⟨zn k,abx k,aby k,JV k⟩
def iG:Nat→qE:=eN RQ ⟨fun _ _ _ _ _=>none,fun _ _ _ _ _ _ _=>none,fun _ _ _ _ _ _=>none,fun _ _ _ _ _=>none⟩
def r8(x:ae.D×aH.D×aI.D×Unit):Option (oL):=w7 (iG aP) x.1 x.2.1 x.2.2.1
def mH(a1:ae.D)(a2:aH.D)(a3:List UInt8)(a4:Bool):Option (aS.D×Unit) :=(CV (a3,())).bind fun v1 =>cond (!v1.1) (some ((0,([]:List UInt8),0,22,()),())) ((C6 (a1,a2,a3,a4,())).bind fun v2 =>some (v2.1,()))
def dv(x:ae.D×aH.D×(List UInt8)×Bool×Unit):Option (aS.D×Unit):=mH x.1 x.2.1 x.2.2.1 x.2.2.2.1
def JW(a1:aH.D)(a2:I.D)(a3:I.D):Option (Bool×Unit) :=(uh (a1,())).bind fun v1 =>cond (!v1.1) (some (false,())) (cond (cR .and .i64 a2.2.2.1 512==0) (some (true,())) (cond (a1.1==0) (some (true,())) (cond (a1.1==a2.2.2.2.1) (some (true,())) (some (a1.1==a3.2.2.2.1,())))))
def w8(x:aH.D×I.D×I.D×Unit):Option (Bool×Unit):=JW x.1 x.2.1 x.2.2.1
structure uB where
 k3:Int→Int→Int→ae.D→Option (Int×Unit)
 dh:Int→Int→Int→Int→ae.D→Option (Int×Unit)
def Dh(k:uB)(a1:ae.D)(a2:Int):Option (Int×Unit) :=k.k3 a2 0 0 a1
def zo(k:uB)(U:Int)(aa:Int)(af:Int)(ai:ae.D):Option (Int×Unit) :=cond (decide (af<(ai.2.1.length:Int))) (k.dh U aa af 0 ai) (some (aa,()))
def zp(k:uB)(U:Int)(aa:Int)(af:Int)(ai:Int)(ar:ae.D):Option (Int×Unit) :=(aM ar.2.1.length af).bind fun v1 =>cond (decide (ai<(((J I ar.2.1 v1).2.2.2.2.2.2.1).length:Int))) ((aM ar.2.1.length af).bind fun v2 =>(aM (((J I ar.2.1 v2).2.2.2.2.2.2.1).length) ai).bind fun v3 =>cond ((J aw ((J I ar.2.1 v2).2.2.2.2.2.2.1) v3).2.1==U) (k.dh U (aG (aa+1)) af (aG (ai+1)) ar) (k.dh U aa af (aG (ai+1)) ar)) (k.k3 U aa (aG (af+1)) ar)
def RR(k:uB):uB:=⟨zo k,zp k⟩
def pJ:Nat→uB:=eN RR ⟨fun _ _ _ _=>none,fun _ _ _ _ _=>none⟩
def zq(x:ae.D×Int×Unit):Option (Int×Unit):=Dh (pJ aP) x.1 x.2.1
structure uC where
 bt:(List UInt8)→Int→Int→ae.D→ae.D→I.D→(List aw.D)→Option (ae.D×Unit)
 mI:Int→Int→ae.D→ae.D→(List I.D)→Option (ae.D×Unit)
def Di(k:uC)(a1:ae.D)(a2:Int)(a3:List UInt8):Option (ae.D×Unit) :=(e_ (a1,a2,())).bind fun v1 =>k.bt a3 0 0 a1 (0,([]:List I.D),()) v1.1 ([]:List aw.D)
def zr(k:uC)(U:List UInt8)(aa:Int)(af:Int)(ai:ae.D)(ar:ae.D)(aE:I.D)(bb:List aw.D):Option (ae.D×Unit) :=cond (decide (af<(aE.2.2.2.2.2.2.1.length:Int))) ((aM aE.2.2.2.2.2.2.1.length af).bind fun v1 =>cond (bn ((J aw aE.2.2.2.2.2.2.1 v1).1) U) ((aM aE.2.2.2.2.2.2.1.length af).bind fun v2 =>k.bt U ((J aw aE.2.2.2.2.2.2.1 v2).2.1) (aG (af+1)) ai ar aE bb) ((aM aE.2.2.2.2.2.2.1.length af).bind fun v3 =>cond (room (bb.length+[J aw aE.2.2.2.2.2.2.1 v3].length)) (k.bt U aa (aG (af+1)) ai ar aE (bb++[J aw aE.2.2.2.2.2.2.1 v3])) (none))) ((oJ (ai,(aE.1,aE.2.1,aE.2.2.1,aE.2.2.2.1,aE.2.2.2.2.1,aE.2.2.2.2.2.1,bb,aE.2.2.2.2.2.2.2.1,aE.2.2.2.2.2.2.2.2.1,()),())).bind fun v4 =>(zq (v4.1,aa,())).bind fun v5 =>cond (decide (v5.1>0)) (some (v4.1,())) (k.mI aa 0 v4.1 ar ([]:List I.D)))
def zs(k:uC)(U:Int)(aa:Int)(af:ae.D)(ai:ae.D)(ar:List I.D):Option (ae.D×Unit) :=cond (decide (aa<(af.2.1.length:Int))) ((aM af.2.1.length aa).bind fun v1 =>cond ((J I af.2.1 (0+v1)).1 != U) ((aM af.2.1.length aa).bind fun v2 =>cond (room (ar.length+[J I af.2.1 (0+v2)].length)) (k.mI U (aG (aa+1)) af ai (ar++[J I af.2.1 (0+v2)])) (none)) (k.mI U (aG (aa+1)) af ai ar)) (some ((af.1,ar,()),()))
def RS(k:uC):uC:=⟨zr k,zs k⟩
def k8:Nat→uC:=eN RS ⟨fun _ _ _ _ _ _ _=>none,fun _ _ _ _ _=>none⟩
def nE(x:ae.D×Int×(List UInt8)×Unit):Option (ae.D×Unit):=Di (k8 aP) x.1 x.2.1 x.2.2.1
abbrev qF:Type:=ae.D×aL.D×Unit
structure r9 where
 dj:ae.D→aH.D→aI.D→ae.D→aL.D→aS.D→I.D→Option (qF)
 gG:ae.D→aH.D→aI.D→ae.D→aL.D→aS.D→I.D→Option (qF)
 c3:ae.D→aH.D→ae.D→aL.D→aS.D→I.D→Option (qF)
def w9(k:r9)(a1:ae.D)(a2:aH.D)(a3:aI.D):Option (qF) :=(dv (a1,a2,a3.2.1,false,())).bind fun v1 =>cond (v1.1.2.2.2.1 != 0) (some (a1,(v1.1.2.2.2.1,([]:List UInt8),()),())) ((e_ (a1,v1.1.2.2.1,())).bind fun v2 =>cond (a3.1==2) (cond (bn v1.1.2.1 ([]:List UInt8)) (some (a1,(16,([]:List UInt8),()),())) (k.dj a1 a2 a3 (0,([]:List I.D),()) (0,([]:List UInt8),()) v1.1 v2.1)) (k.dj a1 a2 a3 (0,([]:List I.D),()) (0,([]:List UInt8),()) v1.1 v2.1))
def Dj(k:r9)(U:ae.D)(aa:aH.D)(af:aI.D)(ai:ae.D)(ar:aL.D)(aE:aS.D)(bb:I.D):Option (qF) :=cond (af.1==2) (cond (bb.2.1 != 2) (some (U,(20,([]:List UInt8),()),())) (k.gG U aa af ai ar aE bb)) (k.gG U aa af ai ar aE bb)
def Dk(k:r9)(U:ae.D)(aa:aH.D)(af:aI.D)(ai:ae.D)(ar:aL.D)(aE:aS.D)(bb:I.D):Option (qF) :=cond (af.1==8) (cond (bb.2.1==2) (some (U,(21,([]:List UInt8),()),())) (k.c3 U aa ai ar aE bb)) (k.c3 U aa ai ar aE bb)
def Dl(k:r9)(U:ae.D)(aa:aH.D)(af:ae.D)(ai:aL.D)(ar:aS.D)(aE:I.D):Option (qF) :=(e_ (U,ar.1,())).bind fun v1 =>(j_ (aa,v1.1,3,())).bind fun v2 =>cond (!v2.1) (some (U,(13,([]:List UInt8),()),())) ((w8 (aa,v1.1,aE,())).bind fun v3 =>cond (!v3.1) (some (U,(1,([]:List UInt8),()),())) (cond (decide ((aE.2.2.2.2.2.2.1.length:Int)>0)) (some (U,(39,([]:List UInt8),()),())) ((lZ (U,())).bind fun v4 =>(nE (v4.1,ar.1,ar.2.1,())).bind fun v5 =>some (v5.1,(0,([]:List UInt8),()),()))))
def RT(k:r9):r9:=⟨Dj k,Dk k,Dl k⟩
def k9:Nat→r9:=eN RT ⟨fun _ _ _ _ _ _ _=>none,fun _ _ _ _ _ _ _=>none,fun _ _ _ _ _ _=>none⟩
def w_(x:ae.D×aH.D×aI.D×Unit):Option (qF):=w9 (k9 aP) x.1 x.2.1 x.2.2.1
def JX(a1:ae.D)(a2:Int):Option (Bool×Unit) :=(jQ (a1,a2,())).bind fun v1 =>cond (decide (v1.1≥0)) ((aM a1.2.1.length v1.1).bind fun v2 =>some ((J I a1.2.1 v2).2.1==2,())) (some (false,()))
def xa(x:ae.D×Int×Unit):Option (Bool×Unit):=JX x.1 x.2.1
abbrev RU:Type:=ae.D×aL.D×Unit
def JY(a1:ae.D)(a2:aH.D)(a3:aI.D):Option (RU) :=(dv (a1,a2,a3.2.1,false,())).bind fun v1 =>cond (v1.1.2.2.2.1 != 0) (some (a1,(v1.1.2.2.2.1,([]:List UInt8),()),())) ((xa (a1,v1.1.2.2.1,())).bind fun v2 =>cond v2.1 (some (a1,(1,([]:List UInt8),()),())) ((qB (a1,a2,a3.2.2.1,())).bind fun v3 =>cond (v3.2.1 != 0) (some (a1,(v3.2.1,([]:List UInt8),()),())) ((e_ (a1,v3.1.1,())).bind fun v4 =>(j_ (a2,v4.1,3,())).bind fun v5 =>cond (!v5.1) (some (a1,(13,([]:List UInt8),()),())) (cond (decide ((v4.1.2.2.2.2.2.2.1.length:Int)≥12)) (some (a1,(28,([]:List UInt8),()),())) ((lZ (a1,())).bind fun v6 =>(r7 (v6.1,v3.1.1,v3.1.2.1,v1.1.2.2.1,())).bind fun bu =>(qD (a1,bu.1,())).bind fun dd =>some (dd.1,dd.2.1,()))))))
def Dm(x:ae.D×aH.D×aI.D×Unit):Option (RU):=JY x.1 x.2.1 x.2.2.1
abbrev Dn:Type:=Int→Int→Int→ae.D→Option (Bool×Unit)
def Dp(k2:Dn)(a1:ae.D)(a2:Int)(a3:Int):Option (Bool×Unit) :=k2 a2 a3 0 a1
def Dq(k2:Dn)(U:Int)(aa:Int)(af:Int)(ai:ae.D):Option (Bool×Unit) :=cond (decide (af≤(ai.2.1.length:Int))) (cond (U==aa) (some (true,())) (cond (U==1) (some (false,())) ((C2 (ai,U,())).bind fun v1 =>k2 v1.1 aa (aG (af+1)) ai))) (some (false,()))
def uD:Nat→Dn | 0,_,_,_,_=>none | m+1,U,aa,af,ai=>Dq (uD m) U aa af ai
def zt(x:ae.D×Int×Int×Unit):Option (Bool×Unit):=Dp (uD aP) x.1 x.2.1 x.2.2.1
abbrev mJ:Type:=ae.D×aL.D×Unit
structure pK where
 dj:ae.D→aH.D→ae.D→aL.D→aS.D→aS.D→Option (mJ)
 gL:ae.D→aH.D→ae.D→aL.D→aS.D→aS.D→I.D→I.D→Option (mJ)
 oI:ae.D→ae.D→aL.D→aS.D→aS.D→I.D→ae.D→I.D→Option (mJ)
 mK:ae.D→ae.D→aL.D→aS.D→aS.D→ae.D→Option (mJ)
 JZ:ae.D→ae.D→aL.D→aS.D→aS.D→I.D→ae.D→I.D→Option (mJ)
def Dr(k:pK)(a1:ae.D)(a2:aH.D)(a3:aI.D):Option (mJ) :=(dv (a1,a2,a3.2.1,false,())).bind fun v1 =>cond (v1.1.2.2.2.1 != 0) (some (a1,(v1.1.2.2.2.1,([]:List UInt8),()),())) ((dv (a1,a2,a3.2.2.1,false,())).bind fun v2 =>cond (v2.1.2.2.2.1 != 0) (cond (v2.1.2.2.2.1 != 2) (some (a1,(v2.1.2.2.2.1,([]:List UInt8),()),())) (cond (bn v2.1.2.1 ([]:List UInt8)) (some (a1,(v2.1.2.2.2.1,([]:List UInt8),()),())) (k.dj a1 a2 (0,([]:List I.D),()) (0,([]:List UInt8),()) v1.1 v2.1))) (k.dj a1 a2 (0,([]:List I.D),()) (0,([]:List UInt8),()) v1.1 v2.1))
def J0(k:pK)(U:ae.D)(aa:aH.D)(af:ae.D)(ai:aL.D)(ar:aS.D)(aE:aS.D):Option (mJ) :=cond (bn ar.2.1 ([]:List UInt8)) (some (U,(16,([]:List UInt8),()),())) (cond (bn aE.2.1 ([]:List UInt8)) (some (U,(16,([]:List UInt8),()),())) ((e_ (U,ar.1,())).bind fun v1 =>(e_ (U,aE.1,())).bind fun v2 =>(e_ (U,ar.2.2.1,())).bind fun v3 =>(j_ (aa,v1.1,3,())).bind fun v4 =>cond (!v4.1) (some (U,(13,([]:List UInt8),()),())) ((j_ (aa,v2.1,3,())).bind fun v5 =>cond (!v5.1) (some (U,(13,([]:List UInt8),()),())) ((w8 (aa,v1.1,v3.1,())).bind fun v6 =>cond (!v6.1) (some (U,(1,([]:List UInt8),()),())) (cond (v3.1.2.1==2) ((zt (U,aE.1,ar.2.2.1,())).bind fun bu =>cond bu.1 (some (U,(22,([]:List UInt8),()),())) (k.gL U aa af ai ar aE v2.1 v3.1)) (k.gL U aa af ai ar aE v2.1 v3.1))))))
def J1(k:pK)(U:ae.D)(aa:aH.D)(af:ae.D)(ai:aL.D)(ar:aS.D)(aE:aS.D)(bb:I.D)(bN:I.D):Option (mJ) :=(lZ (U,())).bind fun v1 =>cond (decide (aE.2.2.1>0)) (cond (aE.2.2.1==ar.2.2.1) (some (U,(0,([]:List UInt8),()),())) ((e_ (U,aE.2.2.1,())).bind fun v2 =>(w8 (aa,bb,v2.1,())).bind fun v3 =>cond (!v3.1) (some (U,(1,([]:List UInt8),()),())) (cond (bN.2.1==2) (cond (v2.1.2.1 != 2) (some (U,(20,([]:List UInt8),()),())) (k.oI U af ai ar aE bN v1.1 v2.1)) (k.oI U af ai ar aE bN v1.1 v2.1)))) (cond (ar.1 != aE.1) (cond (decide ((bb.2.2.2.2.2.2.1.length:Int)≥12)) (some (U,(28,([]:List UInt8),()),())) (k.mK U af ai ar aE v1.1)) (k.mK U af ai ar aE v1.1))
def J2(k:pK)(U:ae.D)(aa:ae.D)(af:aL.D)(ai:aS.D)(ar:aS.D)(aE:I.D)(bb:ae.D)(bN:I.D):Option (mJ) :=cond (aE.2.1==2) (cond (decide ((bN.2.2.2.2.2.2.1.length:Int)>0)) (some (U,(39,([]:List UInt8),()),())) (k.JZ U aa af ai ar aE bb bN)) (k.JZ U aa af ai ar aE bb bN)
def J3(k:pK)(U:ae.D)(aa:ae.D)(af:aL.D)(ai:aS.D)(ar:aS.D)(aE:ae.D):Option (mJ) :=(r7 (aE,ar.1,ar.2.1,ai.2.2.1,())).bind fun v1 =>(nE (v1.1,ai.1,ai.2.1,())).bind fun v2 =>(qD (U,v2.1,())).bind fun v3 =>some (v3.1,v3.2.1,())
def J4(k:pK)(U:ae.D)(aa:ae.D)(af:aL.D)(ai:aS.D)(ar:aS.D)(aE:I.D)(bb:ae.D)(bN:I.D):Option (mJ) :=cond (aE.2.1 != 2) (cond (bN.2.1==2) (some (U,(21,([]:List UInt8),()),())) ((nE (bb,ar.1,ar.2.1,())).bind fun v1 =>k.mK U aa af ai ar v1.1)) ((nE (bb,ar.1,ar.2.1,())).bind fun v2 =>k.mK U aa af ai ar v2.1)
def RV(k:pK):pK:=⟨J0 k,J1 k,J2 k,J3 k,J4 k⟩
def gy:Nat→pK:=eN RV ⟨fun _ _ _ _ _ _=>none,fun _ _ _ _ _ _ _ _=>none,fun _ _ _ _ _ _ _ _=>none,fun _ _ _ _ _ _=>none,fun _ _ _ _ _ _ _ _=>none⟩
def Ds(x:ae.D×aH.D×aI.D×Unit):Option (mJ):=Dr (gy aP) x.1 x.2.1 x.2.2.1
structure r_ where
 k2:Int→(List UInt8)→(List Int)→Option ((List UInt8)×Unit)
 bt:Int→(List UInt8)→Int→(List Int)→Option ((List UInt8)×Unit)
def Dt(k:r_)(a1:List UInt8)(a2:Int)(a3:List UInt8):Option ((List UInt8)×Unit) :=k.k2 a2 a3 (ez a1)
def zu(k:r_)(U:Int)(aa:List UInt8)(af:List Int):Option ((List UInt8)×Unit) :=cond (decide ((af.length:Int)<aG (U +(aa.length:Int)))) (cond (room (af.length+[0].length)) (k.k2 U aa (af++[0])) (none)) (k.bt U aa 0 af)
def RW(k:r_)(U:Int)(aa:List UInt8)(af:Int)(v3:List Int):Option ((List UInt8)×Unit) :=k.bt U aa (aG (af+1)) v3
def zv(k:r_)(U:Int)(aa:List UInt8)(af:Int)(ai:List Int):Option ((List UInt8)×Unit) :=cond (decide (af<(aa.length:Int))) ((aM aa.length af).bind fun v1 =>(aM ai.length (aG (U+af))).bind fun v2 =>RW k U aa af (ai.set (0+v2) ((aa.getD v1 0).toNat:Int))) (some (gB ai,()))
def RX(k:r_):r_:=⟨zu k,zv k⟩
def nF:Nat→r_:=eN RX ⟨fun _ _ _=>none,fun _ _ _ _=>none⟩
def r'(x:(List UInt8)×Int×(List UInt8)×Unit):Option ((List UInt8)×Unit):=Dt (nF aP) x.1 x.2.1 x.2.2.1
abbrev uE:Type:=ae.D×aL.D×Unit
structure uF where
 nG:Int→ae.D→aI.D→ae.D→aL.D→I.D→Option (uE)
 hL:ae.D→ae.D→aL.D→I.D→Option (uE)
def Du(k:uF)(a1:ae.D)(a2:aH.D)(a3:aI.D):Option (uE) :=(dv (a1,a2,a3.2.1,true,())).bind fun v1 =>cond (v1.1.2.2.2.1 != 0) (some (a1,(v1.1.2.2.2.1,([]:List UInt8),()),())) ((e_ (a1,v1.1.2.2.1,())).bind fun v2 =>cond (v2.1.2.1==2) (some (a1,(21,([]:List UInt8),()),())) ((j_ (a2,v2.1,2,())).bind fun v3 =>cond (!v3.1) (some (a1,(13,([]:List UInt8),()),())) (cond (a3.1==6) (k.nG (v2.1.2.2.2.2.2.1.length:Int) a1 a3 (0,([]:List I.D),()) (0,([]:List UInt8),()) v2.1) (k.nG a3.2.2.2.1 a1 a3 (0,([]:List I.D),()) (0,([]:List UInt8),()) v2.1))))
def J5(k:uF)(U:Int)(aa:ae.D)(af:aI.D)(ai:ae.D)(ar:aL.D)(aE:I.D):Option (uE) :=cond (decide (U<0)) (some (aa,(22,([]:List UInt8),()),())) (cond (af.1==7) (cond (decide (U>64)) (some (aa,(27,([]:List UInt8),()),())) ((r' (aE.2.2.2.2.2.1,U,([]:List UInt8),())).bind fun v1 =>(d_ v1.1.length 0 U).bind fun v2 =>k.hL aa ai ar (aE.1,aE.2.1,aE.2.2.1,aE.2.2.2.1,aE.2.2.2.2.1,part v1.1 v2.1 (v2.2-v2.1),aE.2.2.2.2.2.2.1,aE.2.2.2.2.2.2.2.1,aE.2.2.2.2.2.2.2.2.1,()))) (cond (bn af.2.2.2.2.2.1 ([]:List UInt8)) (some (aa,(0,([]:List UInt8),()),())) (cond (decide (U>aG (64-(af.2.2.2.2.2.1.length:Int)))) (some (aa,(27,([]:List UInt8),()),())) ((r' (aE.2.2.2.2.2.1,U,af.2.2.2.2.2.1,())).bind fun v3 =>k.hL aa ai ar (aE.1,aE.2.1,aE.2.2.1,aE.2.2.2.1,aE.2.2.2.2.1,v3.1,aE.2.2.2.2.2.2.1,aE.2.2.2.2.2.2.2.1,aE.2.2.2.2.2.2.2.2.1,())))))
def J6(k:uF)(U:ae.D)(aa:ae.D)(af:aL.D)(ai:I.D):Option (uE) :=(lZ (U,())).bind fun v1 =>(oJ (v1.1,ai,())).bind fun v2 =>(qD (U,v2.1,())).bind fun v3 =>some (v3.1,v3.2.1,())
def RY(k:uF):uF:=⟨J5 k,J6 k⟩
def kc:Nat→uF:=eN RY ⟨fun _ _ _ _ _ _=>none,fun _ _ _ _=>none⟩
def xb(x:ae.D×aH.D×aI.D×Unit):Option (uE):=Du (kc aP) x.1 x.2.1 x.2.2.1
abbrev oM:Type:=ae.D×aL.D×Unit
structure qG where
 eo:Bool→ae.D→aH.D→aI.D→ae.D→aL.D→Option (oM)
 nG:ae.D→aH.D→aI.D→ae.D→aL.D→Option (oM)
 pL:ae.D→aH.D→aI.D→ae.D→aL.D→I.D→Option (oM)
 fZ:ae.D→ae.D→aL.D→I.D→Option (oM)
def sa(k:qG)(a1:ae.D)(a2:aH.D)(a3:aI.D):Option (oM) :=cond (a3.1==15) ((eg (a3.2.2.2.1,0,2047,())).bind fun v1 =>k.eo (!v1.1) a1 a2 a3 (0,([]:List I.D),()) (0,([]:List UInt8),())) (cond (a3.1==16) ((eg (a3.2.2.2.1,0,1000,())).bind fun v2 =>cond (!v2.1) (k.eo true a1 a2 a3 (0,([]:List I.D),()) (0,([]:List UInt8),())) ((eg (a3.2.2.2.2.1,0,1000,())).bind fun v3 =>k.eo (!v3.1) a1 a2 a3 (0,([]:List I.D),()) (0,([]:List UInt8),()))) ((eg (a3.2.2.2.1,0,400,())).bind fun v4 =>cond (!v4.1) (k.eo true a1 a2 a3 (0,([]:List I.D),()) (0,([]:List UInt8),())) ((eg (a3.2.2.2.2.1,0,24,())).bind fun v5 =>k.eo (!v5.1) a1 a2 a3 (0,([]:List I.D),()) (0,([]:List UInt8),()))))
def zw(k:qG)(U:Bool)(aa:ae.D)(af:aH.D)(ai:aI.D)(ar:ae.D)(aE:aL.D):Option (oM) :=cond U (some (aa,(22,([]:List UInt8),()),())) (cond (ai.1==19) (cond (af.1 != 0) (some (aa,(1,([]:List UInt8),()),())) (k.nG aa af ai ar aE)) (k.nG aa af ai ar aE))
def zx(k:qG)(U:ae.D)(aa:aH.D)(af:aI.D)(ai:ae.D)(ar:aL.D):Option (oM) :=(dv (U,aa,af.2.1,true,())).bind fun v1 =>cond (v1.1.2.2.2.1 != 0) (some (U,(v1.1.2.2.2.1,([]:List UInt8),()),())) ((e_ (U,v1.1.2.2.1,())).bind fun v2 =>cond (af.1==15) (cond (aa.1 != 0) (cond (aa.1 != v2.1.2.2.2.1) (some (U,(1,([]:List UInt8),()),())) (k.pL U aa af ai ar v2.1)) (k.pL U aa af ai ar v2.1)) (cond (af.1==16) (cond (aa.1 != 0) (cond (aa.1 != v2.1.2.2.2.1) (some (U,(1,([]:List UInt8),()),())) (cond (af.2.2.2.1 != v2.1.2.2.2.1) (some (U,(1,([]:List UInt8),()),())) ((uj (aa,af.2.2.2.2.1,())).bind fun v3 =>cond (!v3.1) (some (U,(1,([]:List UInt8),()),())) (k.fZ U ai ar (v2.1.1,v2.1.2.1,v2.1.2.2.1,af.2.2.2.1,af.2.2.2.2.1,v2.1.2.2.2.2.2.1,v2.1.2.2.2.2.2.2.1,v2.1.2.2.2.2.2.2.2.1,v2.1.2.2.2.2.2.2.2.2.1,()))))) (k.fZ U ai ar (v2.1.1,v2.1.2.1,v2.1.2.2.1,af.2.2.2.1,af.2.2.2.2.1,v2.1.2.2.2.2.2.1,v2.1.2.2.2.2.2.2.1,v2.1.2.2.2.2.2.2.2.1,v2.1.2.2.2.2.2.2.2.2.1,()))) (cond (v2.1.2.1 != 2) (some (U,(20,([]:List UInt8),()),())) (k.fZ U ai ar (v2.1.1,v2.1.2.1,v2.1.2.2.1,v2.1.2.2.2.1,v2.1.2.2.2.2.1,v2.1.2.2.2.2.2.1,v2.1.2.2.2.2.2.2.1,af.2.2.2.1,af.2.2.2.2.1,())))))
def J7(k:qG)(U:ae.D)(aa:aH.D)(af:aI.D)(ai:ae.D)(ar:aL.D)(aE:I.D):Option (oM) :=cond (aa.1 != 0) ((uj (aa,aE.2.2.2.2.1,())).bind fun v1 =>cond (!v1.1) (k.fZ U ai ar (aE.1,aE.2.1,cR .andNot .i64 af.2.2.2.1 1024,aE.2.2.2.1,aE.2.2.2.2.1,aE.2.2.2.2.2.1,aE.2.2.2.2.2.2.1,aE.2.2.2.2.2.2.2.1,aE.2.2.2.2.2.2.2.2.1,())) (k.fZ U ai ar (aE.1,aE.2.1,af.2.2.2.1,aE.2.2.2.1,aE.2.2.2.2.1,aE.2.2.2.2.2.1,aE.2.2.2.2.2.2.1,aE.2.2.2.2.2.2.2.1,aE.2.2.2.2.2.2.2.2.1,()))) (k.fZ U ai ar (aE.1,aE.2.1,af.2.2.2.1,aE.2.2.2.1,aE.2.2.2.2.1,aE.2.2.2.2.2.1,aE.2.2.2.2.2.2.1,aE.2.2.2.2.2.2.2.1,aE.2.2.2.2.2.2.2.2.1,()))
def J8(k:qG)(U:ae.D)(aa:ae.D)(af:aL.D)(ai:I.D):Option (oM) :=(lZ (U,())).bind fun v1 =>(oJ (v1.1,ai,())).bind fun v2 =>(qD (U,v2.1,())).bind fun v3 =>some (v3.1,v3.2.1,())
def RZ(k:qG):qG:=⟨zw k,zx k,J7 k,J8 k⟩
def hM:Nat→qG:=eN RZ ⟨fun _ _ _ _ _ _=>none,fun _ _ _ _ _=>none,fun _ _ _ _ _ _=>none,fun _ _ _ _=>none⟩
def sb(x:ae.D×aH.D×aI.D×Unit):Option (oM):=sa (hM aP) x.1 x.2.1 x.2.2.1
abbrev Dv:Type:=Int→(List UInt8)→Bool→Option ((List UInt8)×Unit)
def R0(bt:Dv)(a1:Int):Option ((List UInt8)×Unit) :=cond (a1==0) (some (([48]:List UInt8),())) (bt a1 ([]:List UInt8) (decide (a1<0)))
def zy(bt:Dv)(U:Int)(aa:List UInt8)(af:Bool):Option ((List UInt8)×Unit) :=cond (U != 0) (cond (decide (Int.tmod U 10<0)) (cond (room ((gB [IntKind.wrap .u8 (aG (48+aG (0-(Int.tmod U 10))))]).length+aa.length)) (bt (aG (Int.tdiv U 10)) ((gB [IntKind.wrap .u8 (aG (48+aG (0-(Int.tmod U 10))))])++aa) af) (none)) (cond (room ((gB [IntKind.wrap .u8 (aG (48+Int.tmod U 10))]).length+aa.length)) (bt (aG (Int.tdiv U 10)) ((gB [IntKind.wrap .u8 (aG (48+Int.tmod U 10))])++aa) af) (none))) (cond af (cond (room (([45]:List UInt8).length+aa.length)) (some (([45]:List UInt8)++aa,())) (none)) (some (aa,())))
def pM:Nat→Dv | 0,_,_,_=>none | m+1,U,aa,af=>zy (pM m) U aa af
def hO(x:Int×Unit):Option ((List UInt8)×Unit):=R0 (pM aP) x.1
abbrev Dw:Type:=Int→Int→Int→ae.D→Option (Int×Unit)
def Dx(eo:Dw)(a1:ae.D)(a2:Int):Option (Int×Unit) :=(jQ (a1,a2,())).bind fun v1 =>cond (decide (v1.1<0)) (some (0,())) ((aM a1.2.1.length v1.1).bind fun v2 =>cond ((J I a1.2.1 v2).2.1 != 2) ((zq (a1,a2,())).bind fun v3 =>some (v3.1,())) (eo v1.1 2 0 a1))
def Dy(eo:Dw)(U:Int)(aa:Int)(af:Int)(ai:ae.D):Option (Int×Unit) :=(aM ai.2.1.length U).bind fun v1 =>cond (decide (af<(((J I ai.2.1 v1).2.2.2.2.2.2.1).length:Int))) ((aM ai.2.1.length U).bind fun v2 =>(aM (((J I ai.2.1 v2).2.2.2.2.2.2.1).length) af).bind fun v3 =>(xa (ai,(J aw ((J I ai.2.1 v2).2.2.2.2.2.2.1) v3).2.1,())).bind fun v4 =>cond v4.1 (eo U (aG (aa+1)) (aG (af+1)) ai) (eo U aa (aG (af+1)) ai)) (some (aa,()))
def uG:Nat→Dw | 0,_,_,_,_=>none | m+1,U,aa,af,ai=>Dy (uG m) U aa af ai
def Dz(x:ae.D×Int×Unit):Option (Int×Unit):=Dx (uG aP) x.1 x.2.1
structure nH where
 bt:ae.D→aH.D→aI.D→aL.D→Option (aL.D×Unit)
 dh:ae.D→aH.D→aI.D→aL.D→aS.D→Option (aL.D×Unit)
 iH:Int→aI.D→aL.D→I.D→(List Int)→Option (aL.D×Unit)
 sc:(List UInt8)→Int→aL.D→I.D→Option (aL.D×Unit)
 DA:(List UInt8)→Int→aL.D→I.D→Option (aL.D×Unit)
def qH(k:nH)(a1:ae.D)(a2:aH.D)(a3:aI.D):Option (aL.D×Unit) :=cond (a3.1==18) ((hO ((a1.2.1.length:Int),())).bind fun v1 =>cond (room (v1.1.length +([32]:List UInt8).length)) ((zg (a1,())).bind fun v2 =>(hO (v2.1,())).bind fun v3 =>cond (room ((v1.1++([32]:List UInt8)).length+v3.1.length)) (some ((0,(v1.1++([32]:List UInt8))++v3.1,()),())) (none)) (none)) (cond (a3.1==14) (cond (a3.2.2.2.1 != 0) (cond (a3.2.2.2.1 != 1) (some ((22,([]:List UInt8),()),())) (cond (a3.1==17) ((eg (a3.2.2.2.1,0,7,())).bind fun v4 =>cond (!v4.1) (some ((22,([]:List UInt8),()),())) (k.bt a1 a2 a3 (0,([]:List UInt8),()))) (k.bt a1 a2 a3 (0,([]:List UInt8),())))) (cond (a3.1==17) ((eg (a3.2.2.2.1,0,7,())).bind fun v5 =>cond (!v5.1) (some ((22,([]:List UInt8),()),())) (k.bt a1 a2 a3 (0,([]:List UInt8),()))) (k.bt a1 a2 a3 (0,([]:List UInt8),())))) (cond (a3.1==17) ((eg (a3.2.2.2.1,0,7,())).bind fun v6 =>cond (!v6.1) (some ((22,([]:List UInt8),()),())) (k.bt a1 a2 a3 (0,([]:List UInt8),()))) (k.bt a1 a2 a3 (0,([]:List UInt8),()))))
def J9(k:nH)(U:ae.D)(aa:aH.D)(af:aI.D)(ai:aL.D):Option (aL.D×Unit) :=cond (af.1 != 11) (cond (af.1 != 14) ((dv (U,aa,af.2.1,true,())).bind fun v1 =>k.dh U aa af ai v1.1) ((dv (U,aa,af.2.1,af.2.2.2.1==0,())).bind fun v2 =>k.dh U aa af ai v2.1)) ((dv (U,aa,af.2.1,false,())).bind fun v3 =>k.dh U aa af ai v3.1)
def sd(k:nH)(U:ae.D)(aa:aH.D)(af:aI.D)(ai:aL.D)(ar:aS.D):Option (aL.D×Unit) :=cond (ar.2.2.2.1 != 0) (some ((ar.2.2.2.1,([]:List UInt8),()),())) ((e_ (U,ar.2.2.1,())).bind fun v1 =>cond (af.1==4) (cond (v1.1.2.1==2) (some ((21,([]:List UInt8),()),())) ((j_ (aa,v1.1,4,())).bind fun v2 =>cond (!v2.1) (some ((13,([]:List UInt8),()),())) (cond (decide (af.2.2.2.1<0)) (some ((22,([]:List UInt8),()),())) (cond (decide (af.2.2.2.2.1<0)) (some ((22,([]:List UInt8),()),())) (k.iH af.2.2.2.1 af ai v1.1 ([]:List Int)))))) (cond (af.1==11) (cond (v1.1.2.1 != 3) (some ((22,([]:List UInt8),()),())) (some ((0,v1.1.2.2.2.2.2.1,()),()))) (cond (af.1==13) (cond (!(v1.1.2.1==2)) (some ((20,([]:List UInt8),()),())) ((j_ (aa,v1.1,4,())).bind fun v3 =>cond (!v3.1) (some ((13,([]:List UInt8),()),())) (k.sc ([]:List UInt8) 0 ai v1.1))) (cond (af.1==14) ((hO (v1.1.2.1,())).bind fun v4 =>cond (room (v4.1.length +([32]:List UInt8).length)) ((hO (v1.1.2.2.1,())).bind fun v5 =>cond (room ((v4.1++([32]:List UInt8)).length+v5.1.length)) (cond (room (((v4.1++([32]:List UInt8))++v5.1).length +([32]:List UInt8).length)) ((hO (v1.1.2.2.2.1,())).bind fun v6 =>cond (room ((((v4.1++([32]:List UInt8))++v5.1)++([32]:List UInt8)).length+v6.1.length)) (cond (room (((((v4.1++([32]:List UInt8))++v5.1)++([32]:List UInt8))++v6.1).length +([32]:List UInt8).length)) ((hO (v1.1.2.2.2.2.1,())).bind fun bu =>cond (room ((((((v4.1++([32]:List UInt8))++v5.1)++([32]:List UInt8))++v6.1)++([32]:List UInt8)).length+bu.1.length)) (cond (room (((((((v4.1++([32]:List UInt8))++v5.1)++([32]:List UInt8))++v6.1)++([32]:List UInt8))++bu.1).length +([32]:List UInt8).length)) ((Dz (U,v1.1.1,())).bind fun dd =>(hO (dd.1,())).bind fun v9 =>cond (room ((((((((v4.1++([32]:List UInt8))++v5.1)++([32]:List UInt8))++v6.1)++([32]:List UInt8))++bu.1)++([32]:List UInt8)).length+v9.1.length)) (cond (room (((((((((v4.1++([32]:List UInt8))++v5.1)++([32]:List UInt8))++v6.1)++([32]:List UInt8))++bu.1)++([32]:List UInt8))++v9.1).length +([32]:List UInt8).length)) ((hO ((v1.1.2.2.2.2.2.1.length:Int),())).bind fun v10 =>cond (room ((((((((((v4.1++([32]:List UInt8))++v5.1)++([32]:List UInt8))++v6.1)++([32]:List UInt8))++bu.1)++([32]:List UInt8))++v9.1)++([32]:List UInt8)).length+v10.1.length)) (some ((0,(((((((((v4.1++([32]:List UInt8))++v5.1)++([32]:List UInt8))++v6.1)++([32]:List UInt8))++bu.1)++([32]:List UInt8))++v9.1)++([32]:List UInt8))++v10.1,()),())) (none)) (none)) (none)) (none)) (none)) (none)) (none)) (none)) (none)) (none)) (cond (af.1==17) ((j_ (aa,v1.1,af.2.2.2.1,())).bind fun v11 =>cond (!v11.1) (some ((13,([]:List UInt8),()),())) (some ((0,([]:List UInt8),()),()))) (cond (!(v1.1.2.1==2)) (some ((20,([]:List UInt8),()),())) ((j_ (aa,v1.1,4,())).bind fun v12 =>cond (!v12.1) (some ((13,([]:List UInt8),()),())) ((zj (U,v1.1.1,())).bind fun jR =>(hO (v1.1.2.2.2.2.2.2.2.1,())).bind fun mL =>cond (room (mL.1.length +([32]:List UInt8).length)) ((hO (v1.1.2.2.2.2.2.2.2.2.1,())).bind fun hP =>cond (room ((mL.1++([32]:List UInt8)).length+hP.1.length)) (cond (room (((mL.1++([32]:List UInt8))++hP.1).length +([32]:List UInt8).length)) ((hO (jR.1,())).bind fun oN =>cond (room ((((mL.1++([32]:List UInt8))++hP.1)++([32]:List UInt8)).length+oN.1.length)) (cond (room (((((mL.1++([32]:List UInt8))++hP.1)++([32]:List UInt8))++oN.1).length +([32]:List UInt8).length)) ((hO (jR.2.1,())).bind fun nI =>cond (room ((((((mL.1++([32]:List UInt8))++hP.1)++([32]:List UInt8))++oN.1)++([32]:List UInt8)).length+nI.1.length)) (some ((0,(((((mL.1++([32]:List UInt8))++hP.1)++([32]:List UInt8))++oN.1)++([32]:List UInt8))++nI.1,()),())) (none)) (none)) (none)) (none)) (none)) (none)))))))))
def abz(k:nH)(U:Int)(aa:aI.D)(af:aL.D)(ai:I.D)(v2:List Int):Option (aL.D×Unit) :=k.iH (aG (U+1)) aa af ai v2
def DB(k:nH)(U:Int)(aa:aI.D)(af:aL.D)(ai:I.D)(ar:List Int):Option (aL.D×Unit) :=cond (decide (U<(ai.2.2.2.2.2.1.length:Int))) (cond (decide (U<aG (aa.2.2.2.1+aa.2.2.2.2.1))) ((aM ai.2.2.2.2.2.1.length U).bind fun v1 =>cond (room (ar.length+[((ai.2.2.2.2.2.1.getD v1 0).toNat:Int)].length)) (abz k U aa af ai (ar++[((ai.2.2.2.2.2.1.getD v1 0).toNat:Int)])) (none)) (some ((0,gB ar,()),()))) (some ((0,gB ar,()),()))
def DC(k:nH)(U:List UInt8)(aa:Int)(af:aL.D)(ai:I.D):Option (aL.D×Unit) :=cond (decide (aa<(ai.2.2.2.2.2.2.1.length:Int))) (cond (decide (aa>0)) (cond (room (U.length +([47]:List UInt8).length)) (k.DA (U++([47]:List UInt8)) aa af ai) (none)) (k.DA U aa af ai)) (some ((0,U,()),()))
def J_(k:nH)(U:List UInt8)(aa:Int)(af:aL.D)(ai:I.D):Option (aL.D×Unit) :=(aM ai.2.2.2.2.2.2.1.length aa).bind fun v1 =>cond (room (U.length +((J aw ai.2.2.2.2.2.2.1 v1).1).length)) (k.sc (U++((J aw ai.2.2.2.2.2.2.1 v1).1)) (aG (aa+1)) af ai) (none)
def R1(k:nH):nH:=⟨J9 k,sd k,DB k,DC k,J_ k⟩
def fz:Nat→nH:=eN R1 ⟨fun _ _ _ _=>none,fun _ _ _ _ _=>none,fun _ _ _ _ _=>none,fun _ _ _ _=>none,fun _ _ _ _=>none⟩
def k_(x:ae.D×aH.D×aI.D×Unit):Option (aL.D×Unit):=qH (fz aP) x.1 x.2.1 x.2.2.1
abbrev qI:Type:=ae.D×aL.D×Unit
structure se where
 eo:Int→ae.D→aH.D→aI.D→ae.D→aL.D→Option (qI)
 c3:Int→ae.D→aH.D→aI.D→ae.D→aL.D→Option (qI)
 oO:Int→ae.D→aH.D→aI.D→ae.D→aL.D→Option (qI)
def sf(k:se)(a1:ae.D)(a2:aH.D)(a3:aI.D):Option (qI) :=(JL (a3,())).bind fun v1 =>cond (!v1.1) (some (a1,(22,([]:List UInt8),()),())) (cond (decide (a3.1>20)) (some (a1,(22,([]:List UInt8),()),())) (cond (a3.1==1) (cond (a3.1==1) ((r8 (a1,a2,a3,())).bind fun v2 =>some (v2.1,v2.2.1,())) (k.eo a3.1 a1 a2 a3 (0,([]:List I.D),()) (0,([]:List UInt8),()))) (cond (a3.1==3) (cond (a3.1==3) ((r8 (a1,a2,a3,())).bind fun v3 =>some (v3.1,v3.2.1,())) (k.eo a3.1 a1 a2 a3 (0,([]:List I.D),()) (0,([]:List UInt8),()))) (cond (a3.1==10) ((r8 (a1,a2,a3,())).bind fun v4 =>some (v4.1,v4.2.1,())) (k.eo a3.1 a1 a2 a3 (0,([]:List I.D),()) (0,([]:List UInt8),()))))))
def abA(k:se)(U:Int)(aa:ae.D)(af:aH.D)(ai:aI.D)(ar:ae.D)(aE:aL.D):Option (qI) :=cond (U==2) (cond (U==2) ((w_ (aa,af,ai,())).bind fun v1 =>some (v1.1,v1.2.1,())) (k.c3 U aa af ai ar aE)) (cond (U==8) ((w_ (aa,af,ai,())).bind fun v2 =>some (v2.1,v2.2.1,())) (k.c3 U aa af ai ar aE))
def abB(k:se)(U:Int)(aa:ae.D)(af:aH.D)(ai:aI.D)(ar:ae.D)(aE:aL.D):Option (qI) :=cond (U==9) ((Dm (aa,af,ai,())).bind fun v1 =>some (v1.1,v1.2.1,())) (cond (U==12) ((Ds (aa,af,ai,())).bind fun v2 =>some (v2.1,v2.2.1,())) (cond (U==5) (cond (U==5) ((xb (aa,af,ai,())).bind fun v3 =>some (v3.1,v3.2.1,())) (k.oO U aa af ai ar aE)) (cond (U==6) (cond (U==6) ((xb (aa,af,ai,())).bind fun v4 =>some (v4.1,v4.2.1,())) (k.oO U aa af ai ar aE)) (cond (U==7) ((xb (aa,af,ai,())).bind fun v5 =>some (v5.1,v5.2.1,())) (k.oO U aa af ai ar aE)))))
def abC(k:se)(U:Int)(aa:ae.D)(af:aH.D)(ai:aI.D)(ar:ae.D)(aE:aL.D):Option (qI) :=cond (U==15) (cond (U==15) ((sb (aa,af,ai,())).bind fun v1 =>some (v1.1,v1.2.1,())) ((k_ (aa,af,ai,())).bind fun v2 =>some (aa,v2.1,()))) (cond (U==16) (cond (U==16) ((sb (aa,af,ai,())).bind fun v3 =>some (v3.1,v3.2.1,())) ((k_ (aa,af,ai,())).bind fun v4 =>some (aa,v4.1,()))) (cond (U==19) ((sb (aa,af,ai,())).bind fun v5 =>some (v5.1,v5.2.1,())) ((k_ (aa,af,ai,())).bind fun v6 =>some (aa,v6.1,()))))
def R2(k:se):se:=⟨abA k,abB k,abC k⟩
def zz:Nat→se:=eN R2 ⟨fun _ _ _ _ _ _=>none,fun _ _ _ _ _ _=>none,fun _ _ _ _ _ _=>none⟩
def kH(x:ae.D×aH.D×aI.D×Unit):Option (qI):=sf (zz aP) x.1 x.2.1 x.2.2.1
abbrev R3:Type:=Int×bq.D×Unit
def J'(a1:bq.D)(a2:List Int):Option (R3) :=(gl (a1,(a2.length:Int),())).bind fun v1 =>(aM a2.length v1.1).bind fun v2 =>some (J (ad.int .i64) a2 (0+v2),v1.2.1,())
def je(x:bq.D×(List Int)×Unit):Option (R3):=J' x.1 x.2.1
abbrev R4:Type:=aH.D×bq.D×Unit
def Ka(a1:bq.D):Option (R4) :=(gl (a1,4,())).bind fun v1 =>cond (v1.1==0) (cond (v1.1==0) (some ((0,0,([]:List Int),()),v1.2.1,())) (cond (v1.1==2) (some ((2,2,[5],()),v1.2.1,())) (some ((3,2,([]:List Int),()),v1.2.1,())))) (cond (v1.1==1) (some ((0,0,([]:List Int),()),v1.2.1,())) (cond (v1.1==2) (some ((2,2,[5],()),v1.2.1,())) (some ((3,2,([]:List Int),()),v1.2.1,()))))
def zA(x:bq.D×Unit):Option (R4):=Ka x.1
abbrev uH:Type:=(List UInt8)×bq.D×Unit
structure uI where
 ba:Int→Int→bq.D→(List Int)→Option (uH)
 c3:Int→Int→Int→bq.D→(List Int)→Option (uH)
def DD(k:uI)(a1:bq.D)(a2:Int):Option (uH) :=(gl (a1,4,())).bind fun v1 =>(gl (v1.2.1,aG (a2+1),())).bind fun v2 =>k.ba v1.1 v2.1 v2.2.1 ([]:List Int)
def zB(k:uI)(U:Int)(aa:Int)(af:bq.D)(ai:List Int):Option (uH) :=cond (decide (aa>0)) ((qz (af,())).bind fun v1 =>cond (U==1) (cond (U==2) (k.c3 U aa (aG (97+Int.tmod (Int.tmod v1.1 2) 4)) v1.2.1 ai) (k.c3 U aa (Int.tmod v1.1 2) v1.2.1 ai)) (cond (U==2) (k.c3 U aa (aG (97+Int.tmod v1.1 4)) v1.2.1 ai) (k.c3 U aa v1.1 v1.2.1 ai))) (some (gB ai,af,()))
def Kb(k:uI)(U:Int)(aa:Int)(af:Int)(ai:bq.D)(ar:List Int):Option (uH) :=cond (room (ar.length+[IntKind.wrap .u8 (af)].length)) (k.ba U (aG (aa-1)) ai (ar++[IntKind.wrap .u8 (af)])) (none)
def R5(k:uI):uI:=⟨zB k,Kb k⟩
def sg:Nat→uI:=eN R5 ⟨fun _ _ _ _=>none,fun _ _ _ _ _=>none⟩
def zC(x:bq.D×Int×Unit):Option (uH):=DD (sg aP) x.1 x.2.1
abbrev R6:Type:=(List UInt8)×bq.D×Unit
def Kc(a1:bq.D)(a2:List (List UInt8)):Option (R6) :=(gl (a1,(a2.length:Int),())).bind fun v1 =>(aM a2.length v1.1).bind fun v2 =>some (J ad.str a2 (0+v2),v1.2.1,())
def qJ(x:bq.D×(List (List UInt8))×Unit):Option (R6):=Kc x.1 x.2.1
abbrev R7:Type:=(List UInt8)×bq.D×Unit
def Kd(a1:bq.D):Option (R7) :=(qJ (a1,[([97]:List UInt8),([98]:List UInt8),([99]:List UInt8),([100,49]:List UInt8),([115,117,98]:List UInt8)],())).bind fun v1 =>some (v1.1,v1.2.1,())
def xc(x:bq.D×Unit):Option (R7):=Kd x.1
abbrev qK:Type:=(List UInt8)×bq.D×Unit
structure sh where
 k3:(List UInt8)→Int→bq.D→Option (qK)
 mI:(List UInt8)→bq.D→Option (qK)
 xd:(List UInt8)→bq.D→Option (qK)
def DE(k:sh)(a1:bq.D):Option (qK) :=(gl (a1,5,())).bind fun v1 =>k.k3 ([]:List UInt8) v1.1 v1.2.1
def zD(k:sh)(U:List UInt8)(aa:Int)(af:bq.D):Option (qK) :=cond (decide (aa>0)) (cond (room (U.length +([47]:List UInt8).length)) ((xc (af,())).bind fun v1 =>cond (room ((U++([47]:List UInt8)).length+v1.1.length)) ((gl (v1.2.1,14,())).bind fun v2 =>cond (v2.1==0) (cond (room (((U++([47]:List UInt8))++v1.1).length +([47,46]:List UInt8).length)) (k.k3 (((U++([47]:List UInt8))++v1.1)++([47,46]:List UInt8)) (aG (aa-1)) v2.2.1) (none)) (cond (v2.1==1) (cond (room (((U++([47]:List UInt8))++v1.1).length +([47,46,46]:List UInt8).length)) (k.k3 (((U++([47]:List UInt8))++v1.1)++([47,46,46]:List UInt8)) (aG (aa-1)) v2.2.1) (none)) (cond (v2.1==2) (cond (room (((U++([47]:List UInt8))++v1.1).length +([47]:List UInt8).length)) (k.k3 (((U++([47]:List UInt8))++v1.1)++([47]:List UInt8)) (aG (aa-1)) v2.2.1) (none)) (cond (v2.1==3) ((qJ (v2.2.1,[([108,111,110,103,110,97,109,101,57]:List UInt8),([65,66,67]:List UInt8),([120,32,121]:List UInt8),([46,104,105,100]:List UInt8),([46,46,46]:List UInt8)],())).bind fun v3 =>cond (room (((U++([47]:List UInt8))++v1.1).length+v3.1.length)) (k.k3 (((U++([47]:List UInt8))++v1.1)++v3.1) (aG (aa-1)) v3.2.1) (none)) (k.k3 ((U++([47]:List UInt8))++v1.1) (aG (aa-1)) v2.2.1))))) (none)) (none)) (cond (bn U ([]:List UInt8)) (k.mI U af) ((r2 (af,20,())).bind fun v4 =>cond v4.1 (k.mI U v4.2.1) (k.xd U v4.2.1)))
def Ke(k:sh)(U:List UInt8)(aa:bq.D):Option (qK) :=cond (room (U.length +([47]:List UInt8).length)) (k.xd (U++([47]:List UInt8)) aa) (none)
def Kf(k:sh)(U:List UInt8)(aa:bq.D):Option (qK) :=(r2 (aa,30,())).bind fun v1 =>cond v1.1 ((qJ (v1.2.1,[([]:List UInt8),([97]:List UInt8),([47,97,47,98,47,99,47,100,47,97,47,98,47,99,47,100,47,97,47,98,47,99,47,100,47,97,47,98,47,99,47,100,47,97,47,98,47,99,47,100,47,97,47,98,47,99,47,100,47,97,47,98,47,99,47,100,47,97,47,98]:List UInt8),([47,97,47,98,47,99,47,100,47,97,47,98,47,99,47,100,47,97,47,98,47,99,47,100,47,97,47,98,47,99,47,100,47,97,47,98,47,99,47,100,47,97,47,98,47,99,47,100,47,97,47,98,47,99,47,100,47,97,47]:List UInt8)],())).bind fun v2 =>some (v2.1,v2.2.1,())) (some (U,v1.2.1,()))
def R8(k:sh):sh:=⟨zD k,Ke k,Kf k⟩
def oP:Nat→sh:=eN R8 ⟨fun _ _ _=>none,fun _ _=>none,fun _ _=>none⟩
def DF(x:bq.D×Unit):Option (qK):=DE (oP aP) x.1
abbrev zE:Type:=(List UInt8)×bq.D×Unit
abbrev DG:Type:=(List UInt8)→Int→Int→bq.D→ae.D→Option (zE)
def DH(dh:DG)(a1:bq.D)(a2:ae.D):Option (zE) :=(r2 (a1,4,())).bind fun v1 =>cond v1.1 ((DF (v1.2.1,())).bind fun v2 =>some (v2.1,v2.2.1,())) ((gl (v1.2.1,4,())).bind fun v3 =>dh ([]:List UInt8) 1 v3.1 v3.2.1 a2)
def xe(dh:DG)(U:List UInt8)(aa:Int)(af:Int)(ai:bq.D)(ar:ae.D):Option (zE) :=cond (decide (af≥0)) ((jQ (ar,aa,())).bind fun v1 =>cond (decide (v1.1<0)) (cond (room (U.length +([47]:List UInt8).length)) ((xc (ai,())).bind fun v2 =>cond (room ((U++([47]:List UInt8)).length+v2.1.length)) (some ((U++([47]:List UInt8))++v2.1,v2.2.1,())) (none)) (none)) ((aM ar.2.1.length v1.1).bind fun v3 =>cond ((((J I ar.2.1 v3).2.2.2.2.2.2.1).length:Int)==0) (cond (room (U.length +([47]:List UInt8).length)) ((xc (ai,())).bind fun v4 =>cond (room ((U++([47]:List UInt8)).length+v4.1.length)) (some ((U++([47]:List UInt8))++v4.1,v4.2.1,())) (none)) (none)) ((aM ar.2.1.length v1.1).bind fun v5 =>(aM ar.2.1.length v1.1).bind fun v6 =>dup ((gl (ai,(((J I ar.2.1 v6).2.2.2.2.2.2.1).length:Int),())).bind fun bu =>(aM (((J I ar.2.1 v5).2.2.2.2.2.2.1).length) bu.1).bind fun dd =>cond (room (U.length +([47]:List UInt8).length)) (cond (room ((U++([47]:List UInt8)).length +((J aw ((J I ar.2.1 v5).2.2.2.2.2.2.1) dd).1).length)) (dh ((U++([47]:List UInt8))++((J aw ((J I ar.2.1 v5).2.2.2.2.2.2.1) dd).1)) ((J aw ((J I ar.2.1 v5).2.2.2.2.2.2.1) dd).2.1) (aG (af-1)) bu.2.1 ar) (none)) (none))))) (some (U,ai,()))
def uJ:Nat→DG | 0,_,_,_,_,_=>none | m+1,U,aa,af,ai,ar=>xe (uJ m) U aa af ai ar
def xf(x:bq.D×ae.D×Unit):Option (zE):=DH (uJ aP) x.1 x.2.1
abbrev la:Type:=aI.D×bq.D×Unit
structure oQ where
 k2:bq.D→ae.D→aI.D→aI.D→Option (la)
 dh:bq.D→aI.D→aI.D→Option (la)
 dj:Int→bq.D→ae.D→aI.D→aI.D→Option (la)
 fZ:bq.D→aI.D→aI.D→Option (la)
 oO:bq.D→ae.D→aI.D→aI.D→Option (la)
 iH:Int→bq.D→aI.D→aI.D→Option (la)
def DI(k:oQ)(a1:bq.D)(a2:ae.D):Option (la) :=both (both ((je (a1,[1,1,1,2,3,3,3,4,5,5,6,7,8,9,10,10,11,12,12,12,13,14,15,16,17,18,19,20],())).bind fun v1 =>dup ((xf (v1.2.1,a2,())).bind fun v2 =>k.k2 v2.2.1 a2 (0,([]:List UInt8),([]:List UInt8),0,0,([]:List UInt8),()) (v1.1,v2.1,([]:List UInt8),0,0,([]:List UInt8),()))) ((je (a1,[1,1,1,2,3,3,3,4,5,5,6,7,8,9,10,10,11,12,12,12,13,14,15,16,17,18,19,20],())).bind fun v1 =>(xf (v1.2.1,a2,())).bind fun v2 =>k.k2 v2.2.1 a2 (0,([]:List UInt8),([]:List UInt8),0,0,([]:List UInt8),()) (v1.1,v2.1,([]:List UInt8),0,0,([]:List UInt8),()))) ((je (a1,[1,1,1,2,3,3,3,4,5,5,6,7,8,9,10,10,11,12,12,12,13,14,15,16,17,18,19,20],())).bind fun v1 =>(xf (v1.2.1,a2,())).bind fun v2 =>k.k2 v2.2.1 a2 (0,([]:List UInt8),([]:List UInt8),0,0,([]:List UInt8),()) (v1.1,v2.1,([]:List UInt8),0,0,([]:List UInt8),()))
def Kg(k:oQ)(U:bq.D)(aa:ae.D)(af:aI.D)(ai:aI.D):Option (la) :=cond (ai.1==1) (cond (ai.1==1) (k.dh U af ai) (k.dj ai.1 U aa af ai)) (cond (ai.1==3) (cond (ai.1==3) (k.dh U af ai) (k.dj ai.1 U aa af ai)) (cond (ai.1==15) (k.dh U af ai) (k.dj ai.1 U aa af ai)))
def Kh(k:oQ)(U:bq.D)(aa:aI.D)(af:aI.D):Option (la) :=(je (U,[511,511,493,448,420,1535,1023,0,320],())).bind fun v1 =>k.fZ v1.2.1 aa (af.1,af.2.1,af.2.2.1,v1.1,af.2.2.2.2.1,af.2.2.2.2.2.1,())
def Ki(k:oQ)(U:Int)(aa:bq.D)(af:ae.D)(ai:aI.D)(ar:aI.D):Option (la) :=cond (U==4) ((gl (aa,8,())).bind fun v1 =>(gl (v1.2.1,20,())).bind fun v2 =>k.fZ v2.2.1 ai (ar.1,ar.2.1,ar.2.2.1,v1.1,v2.1,ar.2.2.2.2.2.1,())) (cond (U==5) ((gl (aa,20,())).bind fun v3 =>(zC (v3.2.1,30,())).bind fun v4 =>k.fZ v4.2.1 ai (ar.1,ar.2.1,ar.2.2.1,v3.1,ar.2.2.2.2.1,v4.1,())) (cond (U==6) ((zC (aa,30,())).bind fun v5 =>k.fZ v5.2.1 ai (ar.1,ar.2.1,ar.2.2.1,ar.2.2.2.1,ar.2.2.2.2.1,v5.1,())) (cond (U==7) ((gl (aa,70,())).bind fun v6 =>k.fZ v6.2.1 ai (ar.1,ar.2.1,ar.2.2.1,v6.1,ar.2.2.2.2.1,ar.2.2.2.2.2.1,())) (cond (U==9) (cond (U==9) (k.oO aa af ai ar) (k.iH U aa ai ar)) (cond (U==12) (k.oO aa af ai ar) (k.iH U aa ai ar))))))
def Kj(k:oQ)(U:bq.D)(aa:aI.D)(af:aI.D):Option (la) :=(r2 (U,25,())).bind fun v1 =>cond v1.1 ((gl (v1.2.1,6,())).bind fun v2 =>cond (v2.1==0) ((je (v2.2.1,[(-1),0,21,22,23],())).bind fun v3 =>some ((v3.1,af.2.1,af.2.2.1,af.2.2.2.1,af.2.2.2.2.1,af.2.2.2.2.2.1,()),v3.2.1,())) (cond (v2.1==1) ((je (v2.2.1,[(-1),2048,65,401,1000000,1000001],())).bind fun v4 =>some ((af.1,af.2.1,af.2.2.1,v4.1,af.2.2.2.2.1,af.2.2.2.2.2.1,()),v4.2.1,())) (cond (v2.1==2) ((je (v2.2.1,[(-1),25,1001,1000001],())).bind fun v5 =>some ((af.1,af.2.1,af.2.2.1,af.2.2.2.1,v5.1,af.2.2.2.2.2.1,()),v5.2.1,())) (cond (v2.1==3) (cond (room (af.2.2.2.2.2.1.length +([121]:List UInt8).length)) (some ((af.1,af.2.1,af.2.2.1,af.2.2.2.1,af.2.2.2.2.1,af.2.2.2.2.2.1++([121]:List UInt8),()),v2.2.1,())) (none)) (cond (v2.1==4) ((qJ (v2.2.1,[([]:List UInt8),([47,122]:List UInt8),([98,97,100,32,112,97,116,104]:List UInt8),([47,47]:List UInt8)],())).bind fun v6 =>some ((af.1,af.2.1,v6.1,af.2.2.2.1,af.2.2.2.2.1,af.2.2.2.2.2.1,()),v6.2.1,())) ((DF (v2.2.1,())).bind fun bu =>some ((af.1,bu.1,af.2.2.1,af.2.2.2.1,af.2.2.2.2.1,af.2.2.2.2.2.1,()),bu.2.1,()))))))) (some (af,v1.2.1,()))
def Kk(k:oQ)(U:bq.D)(aa:ae.D)(af:aI.D)(ai:aI.D):Option (la) :=(xf (U,aa,())).bind fun v1 =>k.fZ v1.2.1 af (ai.1,ai.2.1,v1.1,ai.2.2.2.1,ai.2.2.2.2.1,ai.2.2.2.2.2.1,())
def Kl(k:oQ)(U:Int)(aa:bq.D)(af:aI.D)(ai:aI.D):Option (la) :=cond (U==10) ((qJ (aa,[([47,97]:List UInt8),([98]:List UInt8),([46,46,47,99]:List UInt8),([47,115,117,98,47,97]:List UInt8),([46]:List UInt8),([47]:List UInt8),([100,49,47,98]:List UInt8),([47,99]:List UInt8)],())).bind fun v1 =>k.fZ v1.2.1 af (ai.1,ai.2.1,v1.1,ai.2.2.2.1,ai.2.2.2.2.1,ai.2.2.2.2.2.1,())) (cond (U==14) ((gl (aa,2,())).bind fun v2 =>k.fZ v2.2.1 af (ai.1,ai.2.1,ai.2.2.1,v2.1,ai.2.2.2.2.1,ai.2.2.2.2.2.1,())) (cond (U==16) ((je (aa,[0,2,3],())).bind fun v3 =>(je (v3.2.1,[0,2,5],())).bind fun v4 =>k.fZ v4.2.1 af (ai.1,ai.2.1,ai.2.2.1,v3.1,v4.1,ai.2.2.2.2.2.1,())) (cond (U==17) ((gl (aa,8,())).bind fun v5 =>k.fZ v5.2.1 af (ai.1,ai.2.1,ai.2.2.1,v5.1,ai.2.2.2.2.1,ai.2.2.2.2.2.1,())) (cond (U==19) ((je (aa,[0,0,20,60,200],())).bind fun v6 =>(je (v6.2.1,[0,0,2,5,10],())).bind fun bu =>k.fZ bu.2.1 af (ai.1,ai.2.1,ai.2.2.1,v6.1,bu.1,ai.2.2.2.2.2.1,())) (k.fZ aa af ai)))))
def R9(k:oQ):oQ:=⟨Kg k,Kh k,Ki k,Kj k,Kk k,Kl k⟩
def ld:Nat→oQ:=eN R9 ⟨fun _ _ _ _=>none,fun _ _ _=>none,fun _ _ _ _ _=>none,fun _ _ _=>none,fun _ _ _ _=>none,fun _ _ _ _=>none⟩
def DJ(x:bq.D×ae.D×Unit):Option (la):=DI (ld aP) x.1 x.2.1
abbrev R_:Type:=aI.D×bq.D×Unit
def Km(a1:bq.D):Option (R_) :=(JH ()).bind fun v1 =>(DJ (a1,v1.1,())).bind fun v2 =>some (v2.1,v2.2.1,())
def DK(x:bq.D×Unit):Option (R_):=Km x.1
abbrev xg:Type:=ae.D×bq.D×Unit
abbrev zF:Type:=Int→bq.D→ae.D→ae.D→Option (xg)
def R'(bt:zF)(v2:Int×bq.D×Unit)(a2:Int)(v1:ae.D×Unit)(v4:List I.D):Option (xg) :=(gl (v2.2.1,a2,())).bind fun v5 =>cond (decide (v5.1>0)) ((zA (v5.2.1,())).bind fun v6 =>(DK (v6.2.1,())).bind fun bu =>(kH ((v1.1.1,v4,()),v6.1,bu.1,())).bind fun dd =>bt v5.1 bu.2.1 (0,([]:List I.D),()) dd.1) ((y9 ((v1.1.1,v4,()),())).bind fun v9 =>some (v9.1,v5.2.1,()))
def DL(bt:zF)(a1:bq.D)(a2:Int):Option (xg) :=(JG ()).bind fun v1 =>(je (a1,[511,511,493,1023,2047],())).bind fun v2 =>(aM v1.1.2.1.length 0).bind fun v3 =>R' bt v2 a2 v1 (v1.1.2.1.set (0+v3) ((J I v1.1.2.1 (0+v3)).1,(J I v1.1.2.1 (0+v3)).2.1,v2.1,(J I v1.1.2.1 (0+v3)).2.2.2.1,(J I v1.1.2.1 (0+v3)).2.2.2.2.1,(J I v1.1.2.1 (0+v3)).2.2.2.2.2.1,(J I v1.1.2.1 (0+v3)).2.2.2.2.2.2.1,(J I v1.1.2.1 (0+v3)).2.2.2.2.2.2.2.1,(J I v1.1.2.1 (0+v3)).2.2.2.2.2.2.2.2.1,()))
def xh(bt:zF)(U:Int)(aa:bq.D)(af:ae.D)(ai:ae.D):Option (xg) :=cond (decide (aG (U-1)>0)) ((zA (aa,())).bind fun v1 =>(DK (v1.2.1,())).bind fun v2 =>(kH (ai,v1.1,v2.1,())).bind fun v3 =>bt (aG (U-1)) v2.2.1 af v3.1) ((y9 (ai,())).bind fun v4 =>some (v4.1,aa,()))
def uK:Nat→zF | 0,_,_,_,_=>none | m+1,U,aa,af,ai=>xh (uK m) U aa af ai
def Kn(x:bq.D×Int×Unit):Option (xg):=DL (uK aP) x.1 x.2.1
abbrev pN:Type:=ae.D×bq.D×Unit
def abD(v1:ae.D×bq.D×Unit)(v6:Int×bq.D×Unit)(dd:List I.D):Option (pN) :=some ((v1.1.1,dd,()),v6.2.1,())
def abE(v1:ae.D×bq.D×Unit)(v9:Int×bq.D×Unit)(v11:List I.D):Option (pN) :=some ((v1.1.1,v11,()),v9.2.1,())
def abF(v1:ae.D×bq.D×Unit)(v4:Int×bq.D×Unit)(mL:List I.D):Option (pN) :=some ((v1.1.1,mL,()),v4.2.1,())
def abG(v1:ae.D×bq.D×Unit)(nI:Int×bq.D×Unit)(abH:List I.D):Option (pN) :=some ((v1.1.1,abH,()),nI.2.1,())
def abI(v1:ae.D×bq.D×Unit)(v20:Int×bq.D×Unit)(v22:List I.D):Option (pN) :=some ((v1.1.1,v22,()),v20.2.1,())
def abJ(v1:ae.D×bq.D×Unit)(DM:Int×bq.D×Unit)(abK:List I.D):Option (pN) :=some ((v1.1.1,abK,()),DM.2.1,())
def abL(v1:ae.D×bq.D×Unit)(v4:Int×bq.D×Unit)(abM:List I.D):Option (pN) :=some ((v1.1.1,abM,()),v4.2.1,())
def abN(v1:ae.D×bq.D×Unit)(DN:Int×bq.D×Unit)(abO:List I.D):Option (pN) :=some ((v1.1.1,abO,()),DN.2.1,())
def Ko(a1:bq.D)(a2:Int):Option (pN) :=(Kn (a1,a2,())).bind fun v1 =>(r2 (v1.2.1,10,())).bind fun v2 =>cond (!v2.1) (some (v1.1,v2.2.1,())) ((gl (v2.2.1,(v1.1.2.1.length:Int),())).bind fun v3 =>(gl (v3.2.1,9,())).bind fun v4 =>cond (v4.1==0) ((je (v4.2.1,[0,1,2,100000,100001],())).bind fun v5 =>some ((v5.1,v1.1.2.1,()),v5.2.1,())) (cond (v4.1==1) ((gl (v4.2.1,5,())).bind fun v6 =>(aM v1.1.2.1.length v3.1).bind fun bu =>abD v1 v6 (v1.1.2.1.set (0+bu) ((J I v1.1.2.1 (0+bu)).1,v6.1,(J I v1.1.2.1 (0+bu)).2.2.1,(J I v1.1.2.1 (0+bu)).2.2.2.1,(J I v1.1.2.1 (0+bu)).2.2.2.2.1,(J I v1.1.2.1 (0+bu)).2.2.2.2.2.1,(J I v1.1.2.1 (0+bu)).2.2.2.2.2.2.1,(J I v1.1.2.1 (0+bu)).2.2.2.2.2.2.2.1,(J I v1.1.2.1 (0+bu)).2.2.2.2.2.2.2.2.1,()))) (cond (v4.1==2) ((je (v4.2.1,[(-1),0,511,2047,2048],())).bind fun v9 =>(aM v1.1.2.1.length v3.1).bind fun v10 =>abE v1 v9 (v1.1.2.1.set (0+v10) ((J I v1.1.2.1 (0+v10)).1,(J I v1.1.2.1 (0+v10)).2.1,v9.1,(J I v1.1.2.1 (0+v10)).2.2.2.1,(J I v1.1.2.1 (0+v10)).2.2.2.2.1,(J I v1.1.2.1 (0+v10)).2.2.2.2.2.1,(J I v1.1.2.1 (0+v10)).2.2.2.2.2.2.1,(J I v1.1.2.1 (0+v10)).2.2.2.2.2.2.2.1,(J I v1.1.2.1 (0+v10)).2.2.2.2.2.2.2.2.1,()))) (cond (v4.1==3) ((aM v1.1.2.1.length v3.1).bind fun v12 =>cond (room (((J I v1.1.2.1 (0+v12)).2.2.2.2.2.1).length +([120]:List UInt8).length)) ((aM v1.1.2.1.length v3.1).bind fun jR =>abF v1 v4 (v1.1.2.1.set (0+jR) ((J I v1.1.2.1 (0+jR)).1,(J I v1.1.2.1 (0+jR)).2.1,(J I v1.1.2.1 (0+jR)).2.2.1,(J I v1.1.2.1 (0+jR)).2.2.2.1,(J I v1.1.2.1 (0+jR)).2.2.2.2.1,((J I v1.1.2.1 (0+v12)).2.2.2.2.2.1)++([120]:List UInt8),(J I v1.1.2.1 (0+jR)).2.2.2.2.2.2.1,(J I v1.1.2.1 (0+jR)).2.2.2.2.2.2.2.1,(J I v1.1.2.1 (0+jR)).2.2.2.2.2.2.2.2.1,()))) (none)) (cond (v4.1==4) ((aM v1.1.2.1.length v3.1).bind fun hP =>(qJ (v4.2.1,[([122,122]:List UInt8),([122,46]:List UInt8),([]:List UInt8),([90]:List UInt8)],())).bind fun oN =>(gl (oN.2.1,6,())).bind fun nI =>(aM v1.1.2.1.length v3.1).bind fun abP =>cond (Nat.beq (0+abP) (0+hP)) (cond (room (((J I v1.1.2.1 (0+hP)).2.2.2.2.2.2.1).length+[(oN.1,nI.1,())].length)) (abG v1 nI (v1.1.2.1.set (0+hP) ((J I v1.1.2.1 (0+hP)).1,(J I v1.1.2.1 (0+hP)).2.1,(J I v1.1.2.1 (0+hP)).2.2.1,(J I v1.1.2.1 (0+hP)).2.2.2.1,(J I v1.1.2.1 (0+hP)).2.2.2.2.1,(J I v1.1.2.1 (0+hP)).2.2.2.2.2.1,((J I v1.1.2.1 (0+hP)).2.2.2.2.2.2.1)++[(oN.1,nI.1,())],(J I v1.1.2.1 (0+hP)).2.2.2.2.2.2.2.1,(J I v1.1.2.1 (0+hP)).2.2.2.2.2.2.2.2.1,()))) (none)) (none)) (cond (v4.1==5) ((je (v4.2.1,[(-1),1,5,400,401],())).bind fun v20 =>(aM v1.1.2.1.length v3.1).bind fun v21 =>abI v1 v20 (v1.1.2.1.set (0+v21) ((J I v1.1.2.1 (0+v21)).1,(J I v1.1.2.1 (0+v21)).2.1,(J I v1.1.2.1 (0+v21)).2.2.1,(J I v1.1.2.1 (0+v21)).2.2.2.1,(J I v1.1.2.1 (0+v21)).2.2.2.2.1,(J I v1.1.2.1 (0+v21)).2.2.2.2.2.1,(J I v1.1.2.1 (0+v21)).2.2.2.2.2.2.1,v20.1,(J I v1.1.2.1 (0+v21)).2.2.2.2.2.2.2.2.1,()))) (cond (v4.1==6) ((je (v4.2.1,[(-1),1,24,25],())).bind fun DM =>(aM v1.1.2.1.length v3.1).bind fun v24 =>abJ v1 DM (v1.1.2.1.set (0+v24) ((J I v1.1.2.1 (0+v24)).1,(J I v1.1.2.1 (0+v24)).2.1,(J I v1.1.2.1 (0+v24)).2.2.1,(J I v1.1.2.1 (0+v24)).2.2.2.1,(J I v1.1.2.1 (0+v24)).2.2.2.2.1,(J I v1.1.2.1 (0+v24)).2.2.2.2.2.1,(J I v1.1.2.1 (0+v24)).2.2.2.2.2.2.1,(J I v1.1.2.1 (0+v24)).2.2.2.2.2.2.2.1,DM.1,()))) (cond (v4.1==7) (cond (room (v1.1.2.1.length +([(aG (v1.1.1-1),1,0,0,0,([]:List UInt8),([]:List aw.D),0,0,())]).length)) (abL v1 v4 (v1.1.2.1++([(aG (v1.1.1-1),1,0,0,0,([]:List UInt8),([]:List aw.D),0,0,())]))) (none)) ((gl (v4.2.1,5,())).bind fun DN =>(aM v1.1.2.1.length v3.1).bind fun v28 =>abN v1 DN (v1.1.2.1.set (0+v28) (DN.1,(J I v1.1.2.1 (0+v28)).2.1,(J I v1.1.2.1 (0+v28)).2.2.1,(J I v1.1.2.1 (0+v28)).2.2.2.1,(J I v1.1.2.1 (0+v28)).2.2.2.2.1,(J I v1.1.2.1 (0+v28)).2.2.2.2.2.1,(J I v1.1.2.1 (0+v28)).2.2.2.2.2.2.1,(J I v1.1.2.1 (0+v28)).2.2.2.2.2.2.2.1,(J I v1.1.2.1 (0+v28)).2.2.2.2.2.2.2.2.1,())))))))))))
def Kp(x:bq.D×Int×Unit):Option (pN):=Ko x.1 x.2.1
def Kq(a1:List Int)(a2:Int):Option (Int×Unit) :=cond (decide (aG (2+aG (Int.tdiv (a1.length:Int) 20))>a2)) (some (a2,())) (some (aG (2+aG (Int.tdiv (a1.length:Int) 20)),()))
def Kr(x:(List Int)×Int×Unit):Option (Int×Unit):=Kq x.1 x.2.1
abbrev Sa:Type:=aH.D×bq.D×Unit
def Ks(a1:bq.D):Option (Sa) :=(zA (a1,())).bind fun v1 =>(r2 (v1.2.1,10,())).bind fun v2 =>cond v2.1 ((gl (v2.2.1,3,())).bind fun v3 =>cond (v3.1==0) ((je (v3.2.1,[(-1),1000,1001],())).bind fun v4 =>some ((v4.1,v1.1.2.1,v1.1.2.2.1,()),v4.2.1,())) (cond (v3.1==1) ((je (v3.2.1,[(-1),1000,1001],())).bind fun v5 =>some ((v1.1.1,v5.1,v1.1.2.2.1,()),v5.2.1,())) ((gl (v3.2.1,2,())).bind fun v6 =>(d_ ([1,2,3,4,5].length) 0 (aG (4+v6.1))).bind fun bu =>some ((v1.1.1,v1.1.2.1,part [1,2,3,4,5] (0+bu.1) (bu.2-bu.1),()),v6.2.1,())))) (some (v1.1,v2.2.1,()))
def Kt(x:bq.D×Unit):Option (Sa):=Ks x.1
abbrev Sb:Type:=ae.D×aH.D×aI.D×Unit
def Ku(a1:List Int):Option (Sb) :=(JD (a1,())).bind fun v1 =>(Kr (a1,50,())).bind fun v2 =>(Kp (v1.1,v2.1,())).bind fun v3 =>(Kt (v3.2.1,())).bind fun v4 =>(DJ (v4.2.1,v3.1,())).bind fun v5 =>some (v3.1,v4.1,v5.1,())
def Kv(x:(List Int)×Unit):Option (Sb):=Ku x.1
abbrev DO:Type:=(List UInt8)→Int→Option (Bool×Unit)
def DP(ba:DO)(a1:List UInt8):Option (Bool×Unit) :=(eg ((a1.length:Int),1,8,())).bind fun v1 =>cond (!v1.1) (some (false,())) (cond (bn a1 ([46]:List UInt8)) (some (false,())) (cond (bn a1 ([46,46]:List UInt8)) (some (false,())) (ba a1 0)))
def DQ(ba:DO)(U:List UInt8)(aa:Int):Option (Bool×Unit) :=cond (decide (aa<(U.length:Int))) ((aM U.length aa).bind fun v1 =>(y' (((U.getD v1 0).toNat:Int),())).bind fun v2 =>cond (!v2.1) (some (false,())) (ba U (aG (aa+1)))) (some (true,()))
def si:Nat→DO | 0,_,_=>none | m+1,U,aa=>DQ (si m) U aa
def Kw(x:(List UInt8)×Unit):Option (Bool×Unit):=DP (si aP) x.1
structure uL where
 ba:Bool→ae.D→I.D→Option (Bool×Unit)
 mG:Int→ae.D→I.D→Option (Bool×Unit)
def DR(k:uL)(a1:ae.D)(a2:I.D):Option (Bool×Unit) :=(eg (a2.2.2.1,0,2047,())).bind fun v1 =>cond (!v1.1) (some (false,())) ((eg (a2.2.2.2.1,0,1000,())).bind fun v2 =>cond (!v2.1) (some (false,())) ((eg (a2.2.2.2.2.1,0,1000,())).bind fun v3 =>cond (!v3.1) (some (false,())) (cond ((a2.2.2.2.2.2.2.1.length:Int)==0) (cond (a2.2.2.2.2.2.2.2.1==0) (k.ba (a2.2.2.2.2.2.2.2.2.1==0) a1 a2) (k.ba false a1 a2)) (k.ba false a1 a2))))
def Kx(k:uL)(U:Bool)(aa:ae.D)(af:I.D):Option (Bool×Unit) :=cond (af.2.1==1) (cond U (some (decide ((af.2.2.2.2.2.1.length:Int)≤64),())) (some (false,()))) (cond (af.2.1==3) (cond U ((za (af.2.2.2.2.2.1,())).bind fun v1 =>cond v1.1 (some (af.2.2.1==511,())) (some (false,()))) (some (false,()))) (cond (af.2.1==2) (cond (!(bn af.2.2.2.2.2.1 ([]:List UInt8))) (some (false,())) (cond (decide ((af.2.2.2.2.2.2.1.length:Int)>12)) (some (false,())) ((eg (af.2.2.2.2.2.2.2.1,0,400,())).bind fun v2 =>cond (!v2.1) (some (false,())) ((eg (af.2.2.2.2.2.2.2.2.1,0,24,())).bind fun v3 =>cond (!v3.1) (some (false,())) (k.mG 0 aa af))))) (some (false,()))))
def zG(k:uL)(U:Int)(aa:ae.D)(af:I.D):Option (Bool×Unit) :=cond (decide (U<(af.2.2.2.2.2.2.1.length:Int))) ((aM af.2.2.2.2.2.2.1.length U).bind fun v1 =>(Kw ((J aw af.2.2.2.2.2.2.1 v1).1,())).bind fun v2 =>cond (!v2.1) (some (false,())) (cond (decide (U>0)) ((aM af.2.2.2.2.2.2.1.length (aG (U-1))).bind fun v3 =>cond (!(dy ((J aw af.2.2.2.2.2.2.1 v3).1) ((J aw af.2.2.2.2.2.2.1 v1).1))) (some (false,())) (cond ((J aw af.2.2.2.2.2.2.1 v1).2.1==1) (some (false,())) ((jQ (aa,(J aw af.2.2.2.2.2.2.1 v1).2.1,())).bind fun v4 =>cond (decide (v4.1<0)) (some (false,())) (k.mG (aG (U+1)) aa af)))) (cond ((J aw af.2.2.2.2.2.2.1 v1).2.1==1) (some (false,())) ((jQ (aa,(J aw af.2.2.2.2.2.2.1 v1).2.1,())).bind fun v5 =>cond (decide (v5.1<0)) (some (false,())) (k.mG (aG (U+1)) aa af))))) (some (true,()))
def Sc(k:uL):uL:=⟨Kx k,zG k⟩
def qL:Nat→uL:=eN Sc ⟨fun _ _ _=>none,fun _ _ _=>none⟩
def DS(x:ae.D×I.D×Unit):Option (Bool×Unit):=DR (qL aP) x.1 x.2.1
structure uM where
 ba:Int→ae.D→Option (Bool×Unit)
 c3:Int→ae.D→(List Bool)→Option (Bool×Unit)
def DT(k:uM)(a1:ae.D):Option (Bool×Unit) :=(eg (a1.1,2,100000,())).bind fun v1 =>cond (!v1.1) (some (false,())) ((eg ((a1.2.1.length:Int),1,24,())).bind fun v2 =>cond (!v2.1) (some (false,())) ((aM a1.2.1.length 0).bind fun v3 =>cond ((J I a1.2.1 v3).1 != 1) (some (false,())) ((aM a1.2.1.length 0).bind fun v4 =>cond ((J I a1.2.1 v4).2.1 != 2) (some (false,())) (k.ba 0 a1))))
def uN(k:uM)(U:Int)(aa:ae.D):Option (Bool×Unit) :=cond (decide (U<(aa.2.1.length:Int))) ((aM aa.2.1.length U).bind fun v1 =>(eg ((J I aa.2.1 v1).1,1,aG (aa.1-1),())).bind fun v2 =>cond (!v2.1) (some (false,())) (cond (decide (U>0)) ((aM aa.2.1.length (aG (U-1))).bind fun v3 =>cond (decide ((J I aa.2.1 v3).1≥(J I aa.2.1 v1).1)) (some (false,())) ((DS (aa,J I aa.2.1 v1,())).bind fun v4 =>cond (!v4.1) (some (false,())) (k.ba (aG (U+1)) aa))) ((DS (aa,J I aa.2.1 v1,())).bind fun v5 =>cond (!v5.1) (some (false,())) (k.ba (aG (U+1)) aa)))) ((Da (aa,1,())).bind fun v6 =>k.c3 1 aa v6.1)
def uO(k:uM)(U:Int)(aa:ae.D)(af:List Bool):Option (Bool×Unit) :=cond (decide (U<(aa.2.1.length:Int))) ((aM af.length U).bind fun v1 =>cond (!(J ad.bool af (0+v1))) (some (false,())) ((aM aa.2.1.length U).bind fun v2 =>cond ((J I aa.2.1 v2).2.1==2) ((aM aa.2.1.length U).bind fun v3 =>(zq (aa,(J I aa.2.1 v3).1,())).bind fun v4 =>cond (v4.1 != 1) (some (false,())) (k.c3 (aG (U+1)) aa af)) (k.c3 (aG (U+1)) aa af))) ((zg (aa,())).bind fun v5 =>cond (decide (v5.1≤400)) ((Df (aa,())).bind fun v6 =>some (!v6.1,())) (some (false,())))
def Sd(k:uM):uM:=⟨uN k,uO k⟩
def nJ:Nat→uM:=eN Sd ⟨fun _ _=>none,fun _ _ _=>none⟩
def DU(x:ae.D×Unit):Option (Bool×Unit):=DT (nJ aP) x.1
def Ky(a1:Int)(a2:Int)(a3:Int):Option (Bool×Unit) :=cond (decide (a1≥a2)) (some (decide (a1≤a3),())) (some (false,()))
def eO(x:Int×Int×Int×Unit):Option (Bool×Unit):=Ky x.1 x.2.1 x.2.2.1
def Se(a1:Int):Option (Bool×Unit) :=cond (decide (a1≥97)) (cond (decide (a1≤122)) (some (true,())) (cond (decide (a1≥48)) (cond (decide (a1≤57)) (some (true,())) (cond (a1==46) (some (true,())) (cond (a1==95) (some (true,())) (some (a1==45,()))))) (cond (a1==46) (some (true,())) (cond (a1==95) (some (true,())) (some (a1==45,())))))) (cond (decide (a1≥48)) (cond (decide (a1≤57)) (some (true,())) (cond (a1==46) (some (true,())) (cond (a1==95) (some (true,())) (some (a1==45,()))))) (cond (a1==46) (some (true,())) (cond (a1==95) (some (true,())) (some (a1==45,())))))
def DV(x:Int×Unit):Option (Bool×Unit):=Se x.1
abbrev DW:Type:=(List UInt8)→Int→Int→Option (Bool×Unit)
def DX(k2:DW)(a1:List UInt8):Option (Bool×Unit) :=k2 a1 (a1.length:Int) 0
def DY(k2:DW)(U:List UInt8)(aa:Int)(af:Int):Option (Bool×Unit) :=cond (decide (af<aa)) ((aM U.length af).bind fun v1 =>cond (((U.getD v1 0).toNat:Int) != 47) ((aM U.length af).bind fun v2 =>(DV (((U.getD v2 0).toNat:Int),())).bind fun v3 =>cond (!v3.1) (some (false,())) (k2 U aa (aG (af+1)))) (k2 U aa (aG (af+1)))) ((eO ((U.length:Int),1,60,())).bind fun v4 =>some (v4.1,()))
def uP:Nat→DW | 0,_,_,_=>none | m+1,U,aa,af=>DY (uP m) U aa af
def xi(x:(List UInt8)×Unit):Option (Bool×Unit):=DX (uP aP) x.1
abbrev zH:Type:=(List I.D)×Unit
abbrev DZ:Type:=ae.D→Int→Int→Int→Option (zH)
def D0(k2:DZ)(a1:ae.D)(a2:Int):Option (zH) :=k2 a1 a2 (a1.2.1.length:Int) 0
def D1(k2:DZ)(U:ae.D)(aa:Int)(af:Int)(ai:Int):Option (zH) :=cond (decide (ai<af)) ((aM U.2.1.length ai).bind fun v1 =>cond ((J I U.2.1 v1).1==aa) ((aM U.2.1.length ai).bind fun v2 =>some ([J I U.2.1 v2],())) (k2 U aa af (aG (ai+1)))) (some ([],()))
def uQ:Nat→DZ | 0,_,_,_,_=>none | m+1,U,aa,af,ai=>D1 (uQ m) U aa af ai
def fA(x:ae.D×Int×Unit):Option (zH):=D0 (uQ aP) x.1 x.2.1
abbrev D2:Type:=Int→Int→Int→ae.D→Option (Int×ae.D×Unit)
def D3(k2:D2)(a1:ae.D)(a2:Int):Option (Int×ae.D×Unit) :=k2 a2 (a1.2.1.length:Int) 0 a1
def D4(k2:D2)(U:Int)(aa:Int)(af:Int)(ai:ae.D):Option (Int×ae.D×Unit) :=cond (decide (af<aa)) ((aM ai.2.1.length af).bind fun v1 =>cond ((J I ai.2.1 (0+v1)).1==U) ((aM ai.2.1.length af).bind fun v2 =>some ((((0+v2):Nat):Int),ai,())) (k2 U aa (aG (af+1)) ai)) (some ((-1),ai,()))
def uR:Nat→D2 | 0,_,_,_,_=>none | m+1,U,aa,af,ai=>D4 (uR m) U aa af ai
def xj(x:ae.D×Int×Unit):Option (Int×ae.D×Unit):=D3 (uR aP) x.1 x.2.1
abbrev D5:Type:=(List UInt8)→Int→Int→Option (Bool×Unit)
def D6(k2:D5)(a1:List UInt8):Option (Bool×Unit) :=k2 a1 (a1.length:Int) 0
def D7(k2:D5)(U:List UInt8)(aa:Int)(af:Int):Option (Bool×Unit) :=cond (decide (af<aa)) ((aM U.length af).bind fun v1 =>(DV (((U.getD v1 0).toNat:Int),())).bind fun v2 =>cond (!v2.1) (some (false,())) (k2 U aa (aG (af+1)))) ((eO ((U.length:Int),1,8,())).bind fun v3 =>cond v3.1 (cond (!(bn U ([46]:List UInt8))) (some (!(bn U ([46,46]:List UInt8)),())) (some (false,()))) (some (false,())))
def uS:Nat→D5 | 0,_,_,_=>none | m+1,U,aa,af=>D7 (uS m) U aa af
def Kz(x:(List UInt8)×Unit):Option (Bool×Unit):=D6 (uS aP) x.1
abbrev D8:Type:=ae.D→(List aw.D)→Int→Int→I.D→Option (Bool×Unit)
def D9(k2:D8)(a1:ae.D)(a2:I.D):Option (Bool×Unit) :=k2 a1 a2.2.2.2.2.2.2.1 (a2.2.2.2.2.2.2.1.length:Int) 0 a2
def D_(k2:D8)(U:ae.D)(aa:List aw.D)(af:Int)(ai:Int)(ar:I.D):Option (Bool×Unit) :=cond (decide (ai<af)) ((aM aa.length ai).bind fun v1 =>(Kz ((J aw aa v1).1,())).bind fun v2 =>cond (!v2.1) (some (false,())) (cond ((J aw aa v1).2.1==1) (some (false,())) ((fA (U,(J aw aa v1).2.1,())).bind fun v3 =>cond (!(!List.isEmpty v3.1)) (some (false,())) (cond (decide (ai>0)) ((aM ar.2.2.2.2.2.2.1.length (aG (ai-1))).bind fun v4 =>cond (!(dy ((J aw ar.2.2.2.2.2.2.1 v4).1) ((J aw aa v1).1))) (some (false,())) (k2 U aa af (aG (ai+1)) ar)) (k2 U aa af (aG (ai+1)) ar))))) (some (decide ((ar.2.2.2.2.2.2.1.length:Int)≤12),()))
def uT:Nat→D8 | 0,_,_,_,_,_=>none | m+1,U,aa,af,ai,ar=>D_ (uT m) U aa af ai ar
def KA(x:ae.D×I.D×Unit):Option (Bool×Unit):=D9 (uT aP) x.1 x.2.1
abbrev D':Type:=ae.D→I.D→Option (Bool×Unit)
def Ea(bt:D')(a1:ae.D)(a2:I.D):Option (Bool×Unit) :=(eO (a2.2.2.1,0,2047,())).bind fun v1 =>cond (!v1.1) (some (false,())) ((eO (a2.2.2.2.1,0,1000,())).bind fun v2 =>cond (!v2.1) (some (false,())) ((eO (a2.2.2.2.2.1,0,1000,())).bind fun v3 =>cond (!v3.1) (some (false,())) (cond (a2.2.1 != 2) (cond (decide ((a2.2.2.2.2.2.2.1.length:Int)>0)) (some (false,())) (cond (a2.2.2.2.2.2.2.2.1 != 0) (some (false,())) (cond (a2.2.2.2.2.2.2.2.2.1 != 0) (some (false,())) (bt a1 a2)))) (bt a1 a2))))
def KB(bt:D')(U:ae.D)(aa:I.D):Option (Bool×Unit) :=cond (aa.2.1==1) (some (decide ((aa.2.2.2.2.2.1.length:Int)≤64),())) (cond (aa.2.1==3) ((xi (aa.2.2.2.2.2.1,())).bind fun v1 =>cond v1.1 (some (aa.2.2.1==511,())) (some (false,()))) (cond (aa.2.1==2) (cond (bn aa.2.2.2.2.2.1 ([]:List UInt8)) ((KA (U,aa,())).bind fun v2 =>cond v2.1 ((eO (aa.2.2.2.2.2.2.2.1,0,400,())).bind fun v3 =>cond v3.1 ((eO (aa.2.2.2.2.2.2.2.2.1,0,24,())).bind fun v4 =>some (v4.1,())) (some (false,()))) (some (false,()))) (some (false,()))) (some (false,()))))
def zI:Nat→D' | 0,_,_=>none | m+1,U,aa=>KB (zI m) U aa
def Eb(x:ae.D×I.D×Unit):Option (Bool×Unit):=Ea (zI aP) x.1 x.2.1
abbrev Ec:Type:=(List Int)→Int→Int→Int→Option (Int×Unit)
def Ed(k2:Ec)(a1:List Int)(a2:Int):Option (Int×Unit) :=k2 a1 a2 (a1.length:Int) 0
def Ee(k2:Ec)(U:List Int)(aa:Int)(af:Int)(ai:Int):Option (Int×Unit) :=cond (decide (ai<af)) ((aM U.length ai).bind fun v1 =>cond (aa==J (ad.int .i64) U v1) (some (ai,())) (k2 U aa af (aG (ai+1)))) (some ((-1),()))
def uU:Nat→Ec | 0,_,_,_,_=>none | m+1,U,aa,af,ai=>Ee (uU m) U aa af ai
def KC(x:(List Int)×Int×Unit):Option (Int×Unit):=Ed (uU aP) x.1 x.2.1
def KD(a1:List Int)(a2:Int):Option (Bool×Unit) :=(KC (a1,a2,())).bind fun v1 =>some (decide (v1.1≥0),())
def sj(x:(List Int)×Int×Unit):Option (Bool×Unit):=KD x.1 x.2.1
structure uV where
 ba:ae.D→Int→(List Int)→(List Int)→Option ((List Int)×Unit)
 gG:ae.D→Int→(List aw.D)→Int→Int→(List Int)→(List Int)→Option ((List Int)×Unit)
def Ef(k:uV)(a1:ae.D)(a2:Int):Option ((List Int)×Unit) :=k.ba a1 0 ([]:List Int) [a2]
def qM(k:uV)(U:ae.D)(aa:Int)(af:List Int)(ai:List Int):Option ((List Int)×Unit) :=cond (decide (aa<(ai.length:Int))) ((aM ai.length aa).bind fun v1 =>(fA (U,J (ad.int .i64) ai (0+v1),())).bind fun v2 =>cond (!(!List.isEmpty v2.1)) (k.ba U (aG (aa+1)) af ai) (cond (!List.isEmpty v2.1) (k.gG U aa ((J I v2.1 0).2.2.2.2.2.2.1) (((J I v2.1 0).2.2.2.2.2.2.1).length:Int) 0 af ai) (none))) (some (af,()))
def zJ(k:uV)(U:ae.D)(aa:Int)(af:List aw.D)(ai:Int)(ar:Int)(aE:List Int)(bb:List Int):Option ((List Int)×Unit) :=cond (decide (ar<ai)) ((aM af.length ar).bind fun v1 =>(sj (aE,(J aw af v1).2.1,())).bind fun v2 =>cond (!v2.1) (cond (room (aE.length+[(J aw af v1).2.1].length)) (cond (room (bb.length+[(J aw af v1).2.1].length)) (k.gG U aa af ai (aG (ar+1)) (aE++[(J aw af v1).2.1]) (bb++[(J aw af v1).2.1])) (none)) (none)) (k.gG U aa af ai (aG (ar+1)) aE bb)) (k.ba U (aG (aa+1)) aE bb)
def Sf(k:uV):uV:=⟨qM k,zJ k⟩
def mM:Nat→uV:=eN Sf ⟨fun _ _ _ _=>none,fun _ _ _ _ _ _ _=>none⟩
def uW(x:ae.D×Int×Unit):Option ((List Int)×Unit):=Ef (mM aP) x.1 x.2.1
structure uX where
 k3:Int→Int→(List I.D)→Int→Int→Option (Int×Unit)
 dh:Int→Int→(List I.D)→Int→Int→(List aw.D)→Int→Int→Option (Int×Unit)
def Eg(k:uX)(a1:ae.D)(a2:Int):Option (Int×Unit) :=k.k3 a2 0 a1.2.1 (a1.2.1.length:Int) 0
def zK(k:uX)(U:Int)(aa:Int)(af:List I.D)(ai:Int)(ar:Int):Option (Int×Unit) :=cond (decide (ar<ai)) ((aM af.length ar).bind fun v1 =>k.dh U aa af ai ar ((J I af v1).2.2.2.2.2.2.1) (((J I af v1).2.2.2.2.2.2.1).length:Int) 0) (some (aa,()))
def zL(k:uX)(U:Int)(aa:Int)(af:List I.D)(ai:Int)(ar:Int)(aE:List aw.D)(bb:Int)(bN:Int):Option (Int×Unit) :=cond (decide (bN<bb)) ((aM aE.length bN).bind fun v1 =>cond ((J aw aE v1).2.1==U) (k.dh U (aG (aa+1)) af ai ar aE bb (aG (bN+1))) (k.dh U aa af ai ar aE bb (aG (bN+1)))) (k.k3 U aa af ai (aG (ar+1)))
def Sg(k:uX):uX:=⟨zK k,zL k⟩
def pO:Nat→uX:=eN Sg ⟨fun _ _ _ _ _=>none,fun _ _ _ _ _ _ _ _=>none⟩
def xk(x:ae.D×Int×Unit):Option (Int×Unit):=Eg (pO aP) x.1 x.2.1
abbrev Eh:Type:=Int→(List I.D)→Int→Int→Option (Int×Unit)
def Ei(k3:Eh)(a1:ae.D):Option (Int×Unit) :=k3 0 a1.2.1 (a1.2.1.length:Int) 0
def Ej(k3:Eh)(U:Int)(aa:List I.D)(af:Int)(ai:Int):Option (Int×Unit) :=cond (decide (ai<af)) ((aM aa.length ai).bind fun v1 =>k3 (aG (U +(((J I aa v1).2.2.2.2.2.1).length:Int))) aa af (aG (ai+1))) (some (U,()))
def uY:Nat→Eh | 0,_,_,_,_=>none | m+1,U,aa,af,ai=>Ej (uY m) U aa af ai
def sk(x:ae.D×Unit):Option (Int×Unit):=Ei (uY aP) x.1
abbrev Ek:Type:=ae.D→Int→Int→Int→(List Int)→Option (Int×Int×Unit)
def El(ba:Ek)(a1:ae.D)(a2:Int):Option (Int×Int×Unit) :=(uW (a1,a2,())).bind fun v1 =>ba a1 0 (v1.1.length:Int) 0 v1.1
def Em(ba:Ek)(U:ae.D)(aa:Int)(af:Int)(ai:Int)(ar:List Int):Option (Int×Int×Unit) :=cond (decide (ai<af)) ((aM ar.length ai).bind fun v1 =>(fA (U,J (ad.int .i64) ar (0+v1),())).bind fun v2 =>cond (!List.isEmpty v2.1) (cond (!List.isEmpty v2.1) (ba U (aG (aa +(((J I v2.1 0).2.2.2.2.2.1).length:Int))) af (aG (ai+1)) ar) (none)) (ba U aa af (aG (ai+1)) ar)) (some (aa,(ar.length:Int),()))
def qN:Nat→Ek | 0,_,_,_,_,_=>none | m+1,U,aa,af,ai,ar=>Em (qN m) U aa af ai ar
def xl(x:ae.D×Int×Unit):Option (Int×Int×Unit):=El (qN aP) x.1 x.2.1
def KE(a1:ae.D)(a2:I.D):Option (Bool×Unit) :=(xl (a1,a2.1,())).bind fun v1 =>cond (decide (a2.2.2.2.2.2.2.2.1>0)) (cond (decide (v1.1>a2.2.2.2.2.2.2.2.1)) (some (true,())) (cond (decide (a2.2.2.2.2.2.2.2.2.1>0)) (some (decide (v1.2.1>a2.2.2.2.2.2.2.2.2.1),())) (some (false,())))) (cond (decide (a2.2.2.2.2.2.2.2.2.1>0)) (some (decide (v1.2.1>a2.2.2.2.2.2.2.2.2.1),())) (some (false,())))
def KF(x:ae.D×I.D×Unit):Option (Bool×Unit):=KE x.1 x.2.1
abbrev En:Type:=(List I.D)→ae.D→Int→Int→Option (Int×Unit)
def Eo(k2:En)(a1:List I.D)(a2:ae.D):Option (Int×Unit) :=k2 a1 a2 (a1.length:Int) 0
def Ep(k2:En)(U:List I.D)(aa:ae.D)(af:Int)(ai:Int):Option (Int×Unit) :=cond (decide (ai<af)) ((aM U.length ai).bind fun v1 =>(KF (aa,J I U v1,())).bind fun v2 =>cond v2.1 (some (ai,())) (k2 U aa af (aG (ai+1)))) (some ((-1),()))
def uZ:Nat→En | 0,_,_,_,_=>none | m+1,U,aa,af,ai=>Ep (uZ m) U aa af ai
def KG(x:(List I.D)×ae.D×Unit):Option (Int×Unit):=Eo (uZ aP) x.1 x.2.1
def KH(a1:List I.D)(a2:ae.D):Option (Bool×Unit) :=(KG (a1,a2,())).bind fun v1 =>some (decide (v1.1≥0),())
def zM(x:(List I.D)×ae.D×Unit):Option (Bool×Unit):=KH x.1 x.2.1
structure u0 where
 ba:(List I.D)→Int→Int→ae.D→Option (Bool×Unit)
 c3:(List I.D)→Int→Int→ae.D→(List Int)→Option (Bool×Unit)
def Er(k:u0)(a1:ae.D):Option (Bool×Unit) :=(eO (a1.1,2,100000,())).bind fun v1 =>cond (!v1.1) (some (false,())) ((eO ((a1.2.1.length:Int),1,24,())).bind fun v2 =>cond (!v2.1) (some (false,())) ((aM a1.2.1.length 0).bind fun v3 =>cond ((J I a1.2.1 v3).1 != 1) (some (false,())) ((aM a1.2.1.length 0).bind fun v4 =>cond ((J I a1.2.1 v4).2.1 != 2) (some (false,())) (k.ba a1.2.1 (a1.2.1.length:Int) 0 a1))))
def u1(k:u0)(U:List I.D)(aa:Int)(af:Int)(ai:ae.D):Option (Bool×Unit) :=cond (decide (af<aa)) ((aM U.length af).bind fun v1 =>(eO ((J I U v1).1,1,aG (ai.1-1),())).bind fun v2 =>cond (!v2.1) (some (false,())) (cond (decide (af>0)) ((aM ai.2.1.length (aG (af-1))).bind fun v3 =>cond (decide ((J I ai.2.1 v3).1≥(J I U v1).1)) (some (false,())) ((Eb (ai,J I U v1,())).bind fun v4 =>cond (!v4.1) (some (false,())) (k.ba U aa (aG (af+1)) ai))) ((Eb (ai,J I U v1,())).bind fun v5 =>cond (!v5.1) (some (false,())) (k.ba U aa (aG (af+1)) ai)))) ((uW (ai,1,())).bind fun v6 =>(d_ ai.2.1.length 1 (ai.2.1.length:Int)).bind fun bu =>k.c3 (part ai.2.1 bu.1 (bu.2-bu.1)) (((part ai.2.1 bu.1 (bu.2-bu.1)).length:Nat):Int) 0 ai v6.1)
def u2(k:u0)(U:List I.D)(aa:Int)(af:Int)(ai:ae.D)(ar:List Int):Option (Bool×Unit) :=cond (decide (af<aa)) ((aM U.length af).bind fun v1 =>(sj (ar,(J I U v1).1,())).bind fun v2 =>cond (!v2.1) (some (false,())) (cond ((J I U v1).2.1==2) ((xk (ai,(J I U v1).1,())).bind fun v3 =>cond (v3.1 != 1) (some (false,())) (k.c3 U aa (aG (af+1)) ai ar)) (k.c3 U aa (aG (af+1)) ai ar))) ((sk (ai,())).bind fun v4 =>cond (decide (v4.1≤400)) ((zM (ai.2.1,ai,())).bind fun v5 =>some (!v5.1,())) (some (false,())))
def Sh(k:u0):u0:=⟨u1 k,u2 k⟩
def nK:Nat→u0:=eN Sh ⟨fun _ _ _ _=>none,fun _ _ _ _ _=>none⟩
def xm(x:ae.D×Unit):Option (Bool×Unit):=Er (nK aP) x.1
def abQ(a1:Int):Option (aL.D×Unit) :=some ((a1,([]:List UInt8),()),())
def e4(x:Int×Unit):Option (aL.D×Unit):=abQ x.1
def KI(a1:Int):Option (Bool×Unit) :=(eO (a1,0,1000,())).bind fun v1 =>some (!v1.1,())
def Si(x:Int×Unit):Option (Bool×Unit):=KI x.1
abbrev Es:Type:=(List Int)→Int→Int→Option (Int×Unit)
def Et(k2:Es)(a1:List Int):Option (Int×Unit) :=k2 a1 (a1.length:Int) 0
def Eu(k2:Es)(U:List Int)(aa:Int)(af:Int):Option (Int×Unit) :=cond (decide (af<aa)) ((aM U.length af).bind fun v1 =>(Si (J (ad.int .i64) U v1,())).bind fun v2 =>cond v2.1 (some (af,())) (k2 U aa (aG (af+1)))) (some ((-1),()))
def u3:Nat→Es | 0,_,_,_=>none | m+1,U,aa,af=>Eu (u3 m) U aa af
def KJ(x:(List Int)×Unit):Option (Int×Unit):=Et (u3 aP) x.1
def KK(a1:List Int):Option (Bool×Unit) :=(KJ (a1,())).bind fun v1 =>some (decide (v1.1≥0),())
def KL(x:(List Int)×Unit):Option (Bool×Unit):=KK x.1
def KM(a1:aH.D):Option (Bool×Unit) :=(eO (a1.1,0,1000,())).bind fun v1 =>cond (!v1.1) (some (false,())) ((eO (a1.2.1,0,1000,())).bind fun v2 =>cond (!v2.1) (some (false,())) (cond (decide ((a1.2.2.1.length:Int)>4)) (some (false,())) ((KL (a1.2.2.1,())).bind fun v3 =>some (!v3.1,()))))
def xn(x:aH.D×Unit):Option (Bool×Unit):=KM x.1
structure u4 where
 k3:Bool→Bool→aI.D→Option (Bool×Unit)
 bt:aI.D→Option (Bool×Unit)
def Ev(k:u4)(a1:aI.D):Option (Bool×Unit) :=cond (a1.1==9) (cond (a1.1==5) (k.k3 true true a1) (k.k3 true (a1.1==6) a1)) (cond (a1.1==10) (cond (a1.1==5) (k.k3 true true a1) (k.k3 true (a1.1==6) a1)) (cond (a1.1==5) (k.k3 (a1.1==12) true a1) (k.k3 (a1.1==12) (a1.1==6) a1)))
def Sj(k:u4)(U:Bool)(aa:Bool)(af:aI.D):Option (Bool×Unit) :=cond (!U) (cond (!(bn af.2.2.1 ([]:List UInt8))) (some (false,())) (cond (!aa) (cond (!(bn af.2.2.2.2.2.1 ([]:List UInt8))) (some (false,())) (k.bt af)) (k.bt af))) (cond (!aa) (cond (!(bn af.2.2.2.2.2.1 ([]:List UInt8))) (some (false,())) (k.bt af)) (k.bt af))
def Sk(k:u4)(U:aI.D):Option (Bool×Unit) :=(eO (U.1,1,22,())).bind fun v1 =>cond v1.1 (cond (decide ((U.2.1.length:Int)≤60)) (cond (decide ((U.2.2.1.length:Int)≤60)) (cond (decide ((U.2.2.2.2.2.1.length:Int)≤64)) ((eO (U.2.2.2.1,(-1000000),1000000,())).bind fun v2 =>cond v2.1 ((eO (U.2.2.2.2.1,(-1000000),1000000,())).bind fun v3 =>some (v3.1,())) (some (false,()))) (some (false,()))) (some (false,()))) (some (false,()))) (some (false,()))
def KN(k:u4):u4:=⟨Sj k,Sk k⟩
def Ew:Nat→u4:=eN KN ⟨fun _ _ _=>none,fun _=>none⟩
def KO(x:aI.D×Unit):Option (Bool×Unit):=Ev (Ew aP) x.1
abbrev xp:Type:=(List I.D)→Int→Int→ae.D→ae.D→Option (ae.D×Unit)
def Ex(k3:xp)(a1:ae.D):Option (ae.D×Unit) :=k3 a1.2.1 (a1.2.1.length:Int) 0 (0,([]:List I.D),()) (a1.1,([]:List I.D),())
def Sl(k3:xp)(U:List I.D)(aa:Int)(af:Int)(ai:ae.D)(ar:ae.D)(v3:List I.D):Option (ae.D×Unit) :=k3 U aa (aG (af+1)) ai (ar.1,v3,())
def Sm(k3:xp)(ar:ae.D)(U:List I.D)(v1:Nat)(aa:Int)(af:Int)(ai:ae.D)(v2:List aw.D):Option (ae.D×Unit) :=cond (room (ar.2.1.length+[((J I U v1).1,(J I U v1).2.1,(J I U v1).2.2.1,(J I U v1).2.2.2.1,(J I U v1).2.2.2.2.1,(J I U v1).2.2.2.2.2.1,v2,(J I U v1).2.2.2.2.2.2.2.1,(J I U v1).2.2.2.2.2.2.2.2.1,())].length)) (Sl k3 U aa af ai ar (ar.2.1++[((J I U v1).1,(J I U v1).2.1,(J I U v1).2.2.1,(J I U v1).2.2.2.1,(J I U v1).2.2.2.2.1,(J I U v1).2.2.2.2.2.1,v2,(J I U v1).2.2.2.2.2.2.2.1,(J I U v1).2.2.2.2.2.2.2.2.1,())])) (none)
def Ey(k3:xp)(U:List I.D)(aa:Int)(af:Int)(ai:ae.D)(ar:ae.D):Option (ae.D×Unit) :=cond (decide (af<aa)) ((aM U.length af).bind fun v1 =>cond (room (([]:List aw.D).length +((J I U v1).2.2.2.2.2.2.1).length)) (Sm k3 ar U v1 aa af ai (([]:List aw.D)++((J I U v1).2.2.2.2.2.2.1))) (none)) (some (ar,()))
def u5:Nat→xp | 0,_,_,_,_,_=>none | m+1,U,aa,af,ai,ar=>Ey (u5 m) U aa af ai ar
def sm(x:ae.D×Unit):Option (ae.D×Unit):=Ex (u5 aP) x.1
def KP(a1:List UInt8):Option (Bool×Unit) :=(xi (a1,())).bind fun v1 =>cond v1.1 ((aM a1.length 0).bind fun v2 =>some (((a1.getD v2 0).toNat:Int)==47,())) (some (false,()))
def KQ(x:(List UInt8)×Unit):Option (Bool×Unit):=KP x.1
structure u6 where
 k2:Int→(List I.D)→Int→Int→Option (Int×Unit)
 bt:Int→(List I.D)→Int→Int→(List aw.D)→Int→Int→I.D→Option (Int×Unit)
def Ez(k:u6)(a1:ae.D)(a2:Int):Option (Int×Unit) :=k.k2 a2 a1.2.1 (a1.2.1.length:Int) 0
def u7(k:u6)(U:Int)(aa:List I.D)(af:Int)(ai:Int):Option (Int×Unit) :=cond (decide (ai<af)) ((aM aa.length ai).bind fun v1 =>k.bt U aa af ai ((J I aa v1).2.2.2.2.2.2.1) (((J I aa v1).2.2.2.2.2.2.1).length:Int) 0 (J I aa v1)) (some (1,()))
def u9(k:u6)(U:Int)(aa:List I.D)(af:Int)(ai:Int)(ar:List aw.D)(aE:Int)(bb:Int)(bN:I.D):Option (Int×Unit) :=cond (decide (bb<aE)) ((aM ar.length bb).bind fun v1 =>cond ((J aw ar v1).2.1==U) (some (bN.1,())) (k.bt U aa af ai ar aE (aG (bb+1)) bN)) (k.k2 U aa af (aG (ai+1)))
def Sn(k:u6):u6:=⟨u7 k,u9 k⟩
def kI:Nat→u6:=eN Sn ⟨fun _ _ _ _=>none,fun _ _ _ _ _ _ _ _=>none⟩
def EA(x:ae.D×Int×Unit):Option (Int×Unit):=Ez (kI aP) x.1 x.2.1
def KR(a1:aH.D)(a2:Int):Option (Bool×Unit) :=(xn (a1,())).bind fun v1 =>cond v1.1 (cond (a2==a1.2.1) (some (true,())) ((sj (a1.2.2.1,a2,())).bind fun v2 =>some (v2.1,()))) (some (false,()))
def u_(x:aH.D×Int×Unit):Option (Bool×Unit):=KR x.1 x.2.1
def KS(a1:aH.D)(a2:I.D)(a3:Int):Option (Bool×Unit) :=(xn (a1,())).bind fun v1 =>cond (!v1.1) (some (false,())) ((eO (a3,0,7,())).bind fun v2 =>cond (!v2.1) (some (false,())) (cond (a1.1==0) (cond (a2.2.1 != 1) (some (true,())) (cond (cR .and .i64 a2.2.2.1 73 != 0) (some (true,())) (some (cR .and .i64 a3 1==0,())))) (cond (a1.1==a2.2.2.2.1) (some (cR .and .i64 (cR .and .i64 (Int.fdiv a2.2.2.1 (2 ^ min (Int.toNat 6) 64)) 7) a3==a3,())) ((u_ (a1,a2.2.2.2.2.1,())).bind fun v3 =>cond v3.1 (some (cR .and .i64 (cR .and .i64 (Int.fdiv a2.2.2.1 (2 ^ min (Int.toNat 3) 64)) 7) a3==a3,())) (some (cR .and .i64 (cR .and .i64 a2.2.2.1 7) a3==a3,()))))))
def pP(x:aH.D×I.D×Int×Unit):Option (Bool×Unit):=KS x.1 x.2.1 x.2.2.1
abbrev EB:Type:=(List UInt8)→(List aw.D)→Int→Int→Option (Int×Unit)
def EC(k2:EB)(a1:I.D)(a2:List UInt8):Option (Int×Unit) :=k2 a2 a1.2.2.2.2.2.2.1 (a1.2.2.2.2.2.2.1.length:Int) 0
def ED(k2:EB)(U:List UInt8)(aa:List aw.D)(af:Int)(ai:Int):Option (Int×Unit) :=cond (decide (ai<af)) ((aM aa.length ai).bind fun v1 =>cond (bn ((J aw aa v1).1) U) (some ((J aw aa v1).2.1,())) (k2 U aa af (aG (ai+1)))) (some (0,()))
def sn:Nat→EB | 0,_,_,_,_=>none | m+1,U,aa,af,ai=>ED (sn m) U aa af ai
def EE(x:I.D×(List UInt8)×Unit):Option (Int×Unit):=EC (sn aP) x.1 x.2.1
def So(_:(List UInt8)×Int×Unit):Option ((List (List UInt8))×Unit):=none
def Sp(x:(List UInt8)×Int×Unit):Option (Int×Unit):=some (Lib.indexByte x.1 x.2.1.toNat.toUInt8,())
def abR(a1:List UInt8)(a2:Int):Option (Int×Unit) :=(Sp (a1,a2,())).bind fun v1 =>some (v1.1,())
def Sq(x:(List UInt8)×Int×Unit):Option (Int×Unit):=abR x.1 x.2.1
def KT(a1:List UInt8)(a2:List UInt8):Option (Int×Unit) :=cond ((a2.length:Int)==0) (some (0,())) (cond (bn a2 a1) (some (0,())) (cond ((a2.length:Int)==1) ((aM a2.length 0).bind fun v1 =>(Sq (a1,((a2.getD v1 0).toNat:Int),())).bind fun v2 =>some (v2.1,())) (cond (decide ((a2.length:Int)≥(a1.length:Int))) (some ((-1),())) (none))))
def Sr(x:(List UInt8)×(List UInt8)×Unit):Option (Int×Unit):=KT x.1 x.2.1
def KU(a1:List UInt8)(a2:List UInt8):Option (Int×Unit) :=(Sr (a1,a2,())).bind fun v1 =>some (v1.1,())
def EF(x:(List UInt8)×(List UInt8)×Unit):Option (Int×Unit):=KU x.1 x.2.1
def Ss(_:(List UInt8)×Unit):Option (Int×Unit):=none
def St(x:(List UInt8)×Int×Unit):Option (Int×Unit):=some ((Lib.countByte x.1 x.2.1.toNat.toUInt8:Int),())
abbrev EG:Type:=(List UInt8)→(List UInt8)→Int→Option (Int×Unit)
def EH(dh:EG)(a1:List UInt8)(a2:List UInt8):Option (Int×Unit) :=cond ((a2.length:Int)==0) ((Ss (a1,())).bind fun v1 =>some (aG (v1.1+1),())) (cond ((a2.length:Int)==1) ((aM a2.length 0).bind fun v2 =>(St (a1,((a2.getD v2 0).toNat:Int),())).bind fun v3 =>some (v3.1,())) (dh a1 a2 0))
def Su(dh:EG)(U:List UInt8)(aa:List UInt8)(af:Int):Option (Int×Unit) :=(EF (U,aa,())).bind fun v1 =>cond (v1.1 ==(-1)) (some (af,())) ((d_ U.length (aG (v1.1 +(aa.length:Int))) (U.length:Int)).bind fun v2 =>dh (part U v2.1 (v2.2-v2.1)) aa (aG (af+1)))
def EI:Nat→EG | 0,_,_,_=>none | m+1,U,aa,af=>Su (EI m) U aa af
def KV(x:(List UInt8)×(List UInt8)×Unit):Option (Int×Unit):=EH (EI aP) x.1 x.2.1
abbrev pQ:Type:=(List (List UInt8))×Unit
structure qO where
 dj:(List UInt8)→(List UInt8)→Int→Int→Option (pQ)
 c3:(List UInt8)→(List UInt8)→Int→Int→Int→(List (List UInt8))→Option (pQ)
 xd:(List UInt8)→Int→(List (List UInt8))→Option (pQ)
def EJ(k:qO)(a1:List UInt8)(a2:List UInt8)(a3:Int)(a4:Int):Option (pQ) :=cond (a4==0) (some (([]:List (List UInt8)),())) (cond (bn a2 ([]:List UInt8)) ((So (a1,a4,())).bind fun v1 =>some (v1.1,())) (cond (decide (a4<0)) ((KV (a1,a2,())).bind fun v2 =>k.dj a1 a2 a3 (aG (v2.1+1))) (k.dj a1 a2 a3 a4)))
def KW(k:qO)(U:List UInt8)(aa:List UInt8)(af:Int)(ai:Int):Option (pQ) :=cond (decide (0≤jG ai (aG ((U.length:Int)+1)))&&decide (jG ai (aG ((U.length:Int)+1))=jG ai (aG ((U.length:Int)+1)))&&room (Int.toNat (jG ai (aG ((U.length:Int)+1))))) (k.c3 U aa af (aG (jG ai (aG ((U.length:Int)+1))-1)) 0 (List.replicate (Int.toNat (jG ai (aG ((U.length:Int)+1)))) (([]:List UInt8):List UInt8))) (none)
def Sv(k:qO)(U:List UInt8)(v1:Int×Unit)(aa:List UInt8)(af:Int)(ai:Int)(ar:Int)(v4:List (List UInt8)):Option (pQ) :=(d_ U.length (aG (v1.1 +(aa.length:Int))) (U.length:Int)).bind fun v5 =>k.c3 (part U v5.1 (v5.2-v5.1)) aa af ai (aG (ar+1)) v4
def zN(k:qO)(U:List UInt8)(aa:List UInt8)(af:Int)(ai:Int)(ar:Int)(aE:List (List UInt8)):Option (pQ) :=cond (decide (ar<ai)) ((EF (U,aa,())).bind fun v1 =>cond (decide (v1.1<0)) (k.xd U ar aE) ((d_ U.length 0 (aG (v1.1+af))).bind fun v2 =>(aM aE.length ar).bind fun v3 =>Sv k U v1 aa af ai ar (aE.set (0+v3) (part U v2.1 (v2.2-v2.1))))) (k.xd U ar aE)
def KX(k:qO)(U:List UInt8)(aa:Int)(af:List (List UInt8)):Option (pQ) :=(aM af.length aa).bind fun v1 =>(d_ ((af.set (0+v1) U).length) 0 (aG (aa+1))).bind fun v2 =>some (part (af.set (0+v1) U) (0+v2.1) (v2.2-v2.1),())
def Sw(k:qO):qO:=⟨KW k,zN k,KX k⟩
def qP:Nat→qO:=eN Sw ⟨fun _ _ _ _=>none,fun _ _ _ _ _ _=>none,fun _ _ _=>none⟩
def KY(x:(List UInt8)×(List UInt8)×Int×Int×Unit):Option (pQ):=EJ (qP aP) x.1 x.2.1 x.2.2.1 x.2.2.2.1
abbrev Sx:Type:=(List (List UInt8))×Unit
def KZ(a1:List UInt8)(a2:List UInt8):Option (Sx) :=(KY (a1,a2,0,(-1),())).bind fun v1 =>some (v1.1,())
def K0(x:(List UInt8)×(List UInt8)×Unit):Option (Sx):=KZ x.1 x.2.1
abbrev zO:Type:=(List (List UInt8))×Unit
abbrev EK:Type:=Int→Int→(List (List UInt8))→(List (List UInt8))→Option (zO)
def EL(k3:EK)(a1:List UInt8):Option (zO) :=(K0 (a1,([47]:List UInt8),())).bind fun v1 =>k3 (v1.1.length:Int) 0 ([]:List (List UInt8)) v1.1
def EM(k3:EK)(U:Int)(aa:Int)(af:List (List UInt8))(ai:List (List UInt8)):Option (zO) :=cond (decide (aa<U)) ((aM ai.length aa).bind fun v1 =>cond (!(bn (J ad.str ai (0+v1)) ([]:List UInt8))) (cond (room (af.length+[J ad.str ai (0+v1)].length)) (k3 U (aG (aa+1)) (af++[J ad.str ai (0+v1)]) ai) (none)) (k3 U (aG (aa+1)) af ai)) (some (af,()))
def so:Nat→EK | 0,_,_,_,_=>none | m+1,U,aa,af,ai=>EM (so m) U aa af ai
def sq(x:(List UInt8)×Unit):Option (zO):=EL (so aP) x.1
abbrev sr:Type:=ae.D→Bool→Nat→Nat→Int→Int→aH.D→aS.D→(List (List UInt8))→Option (aS.D×Unit)
def EN(k3:sr)(a1:ae.D)(a2:aH.D)(a3:List UInt8)(a4:Bool):Option (aS.D×Unit) :=(sq (a3,())).bind fun v1 =>k3 a1 a4 0 v1.1.length 1 0 a2 (0,([]:List UInt8),0,0,()) v1.1
def Sy(k3:sr)(U:ae.D)(aa:Bool)(aE:Int)(bb:aH.D)(bN:aS.D)(v10:List (List UInt8)):Option (aS.D×Unit) :=cond (decide ((v10.length:Int)>40)) (some ((0,([]:List UInt8),0,36,()),())) (k3 U aa 0 v10.length 1 (aG (aE+1)) bb bN v10)
def Sz(k3:sr)(U:ae.D)(aa:Bool)(ar:Int)(aE:Int)(bb:aH.D)(bN:aS.D)(v12:List (List UInt8)):Option (aS.D×Unit) :=cond (decide ((v12.length:Int)>40)) (some ((0,([]:List UInt8),0,36,()),())) (k3 U aa 0 v12.length ar (aG (aE+1)) bb bN v12)
def SA(k3:sr)(U:ae.D)(aa:Bool)(aE:Int)(bb:aH.D)(bN:aS.D)(hP:List (List UInt8)):Option (aS.D×Unit) :=cond (decide ((hP.length:Int)>40)) (some ((0,([]:List UInt8),0,36,()),())) (k3 U aa 0 hP.length 1 (aG (aE+1)) bb bN hP)
def SB(k3:sr)(U:ae.D)(aa:Bool)(ar:Int)(aE:Int)(bb:aH.D)(bN:aS.D)(nI:List (List UInt8)):Option (aS.D×Unit) :=cond (decide ((nI.length:Int)>40)) (some ((0,([]:List UInt8),0,36,()),())) (k3 U aa 0 nI.length ar (aG (aE+1)) bb bN nI)
def l0(k3:sr)(U:ae.D)(aa:Bool)(af:Nat)(ai:Nat)(ar:Int)(aE:Int)(bb:aH.D)(bN:aS.D)(cB:List (List UInt8)):Option (aS.D×Unit) :=cond (decide ((ai:Int)>0)) ((aM ai 0).bind fun v1 =>(d_ ai 1 (ai:Int)).bind fun v2 =>(fA (U,ar,())).bind fun v3 =>cond (!List.isEmpty v3.1) ((pP (bb,J I v3.1 0,1,())).bind fun v4 =>cond (!v4.1) (some ((0,([]:List UInt8),0,13,()),())) (cond (bn (J ad.str cB (af+v1)) ([46]:List UInt8)) (k3 U aa (af+v2.1) (v2.2-v2.1) ar aE bb bN cB) (cond (bn (J ad.str cB (af+v1)) ([46,46]:List UInt8)) ((EA (U,ar,())).bind fun v5 =>k3 U aa (af+v2.1) (v2.2-v2.1) v5.1 aE bb bN cB) (cond (decide (((J ad.str cB (af+v1)).length:Int)>8)) (some ((0,([]:List UInt8),0,36,()),())) (cond (!List.isEmpty v3.1) ((EE (J I v3.1 0,J ad.str cB (af+v1),())).bind fun v6 =>cond (v6.1==0) (cond ((((v2.2-v2.1):Nat):Int)==0) (some ((ar,J ad.str cB (af+v1),0,2,()),())) (some ((0,([]:List UInt8),0,2,()),()))) ((fA (U,v6.1,())).bind fun bu =>cond (!List.isEmpty bu.1) (cond ((J I bu.1 0).2.1==3) (cond (!((((v2.2-v2.1):Nat):Int)==0)) (cond (aE==8) (some ((0,([]:List UInt8),0,40,()),())) (cond (!List.isEmpty bu.1) ((aM (((J I bu.1 0).2.2.2.2.2.1).length) 0).bind fun dd =>cond (((((J I bu.1 0).2.2.2.2.2.1).getD dd 0).toNat:Int)==47) (cond (!List.isEmpty bu.1) ((sq ((J I bu.1 0).2.2.2.2.2.1,())).bind fun v9 =>cond (room (v9.1.length +(part cB (af+v2.1) (v2.2-v2.1)).length)) (Sy k3 U aa aE bb bN (v9.1++(part cB (af+v2.1) (v2.2-v2.1)))) (none)) (none)) (cond (!List.isEmpty bu.1) ((sq ((J I bu.1 0).2.2.2.2.2.1,())).bind fun v11 =>cond (room (v11.1.length +(part cB (af+v2.1) (v2.2-v2.1)).length)) (Sz k3 U aa ar aE bb bN (v11.1++(part cB (af+v2.1) (v2.2-v2.1)))) (none)) (none))) (none))) (cond aa (cond (aE==8) (some ((0,([]:List UInt8),0,40,()),())) (cond (!List.isEmpty bu.1) ((aM (((J I bu.1 0).2.2.2.2.2.1).length) 0).bind fun jR =>cond (((((J I bu.1 0).2.2.2.2.2.1).getD jR 0).toNat:Int)==47) (cond (!List.isEmpty bu.1) ((sq ((J I bu.1 0).2.2.2.2.2.1,())).bind fun mL =>cond (room (mL.1.length +(part cB (af+v2.1) (v2.2-v2.1)).length)) (SA k3 U aa aE bb bN (mL.1++(part cB (af+v2.1) (v2.2-v2.1)))) (none)) (none)) (cond (!List.isEmpty bu.1) ((sq ((J I bu.1 0).2.2.2.2.2.1,())).bind fun oN =>cond (room (oN.1.length +(part cB (af+v2.1) (v2.2-v2.1)).length)) (SB k3 U aa ar aE bb bN (oN.1++(part cB (af+v2.1) (v2.2-v2.1)))) (none)) (none))) (none))) (cond ((((v2.2-v2.1):Nat):Int)==0) (some ((ar,J ad.str cB (af+v1),v6.1,0,()),())) (cond (!List.isEmpty bu.1) (cond ((J I bu.1 0).2.1 != 2) (some ((0,([]:List UInt8),0,20,()),())) (k3 U aa (af+v2.1) (v2.2-v2.1) v6.1 aE bb bN cB)) (none))))) (cond ((((v2.2-v2.1):Nat):Int)==0) (some ((ar,J ad.str cB (af+v1),v6.1,0,()),())) (cond (!List.isEmpty bu.1) (cond ((J I bu.1 0).2.1 != 2) (some ((0,([]:List UInt8),0,20,()),())) (k3 U aa (af+v2.1) (v2.2-v2.1) v6.1 aE bb bN cB)) (none)))) (none))) (none)))))) (none)) (some ((0,([]:List UInt8),ar,0,()),()))
def gm:Nat→sr | 0,_,_,_,_,_,_,_,_,_=>none | m+1,U,aa,af,ai,ar,aE,bb,bN,cB=>l0 (gm m) U aa af ai ar aE bb bN cB
def K1(x:ae.D×aH.D×(List UInt8)×Bool×Unit):Option (aS.D×Unit):=EN (gm aP) x.1 x.2.1 x.2.2.1 x.2.2.2.1
def qQ(a1:aK.D)(a2:List UInt8)(a3:Bool):Option (aS.D×Unit) :=(KQ (a2,())).bind fun v1 =>cond (!v1.1) (some ((0,([]:List UInt8),0,22,()),())) ((K1 (a1.1,a1.2.1,a2,a3,())).bind fun v2 =>some (v2.1,()))
def lf(x:aK.D×(List UInt8)×Bool×Unit):Option (aS.D×Unit):=qQ x.1 x.2.1 x.2.2.1
def zP(a1:aK.D)(a2:List UInt8):Option (aS.D×Int×Unit) :=(lf (a1,a2,false,())).bind fun v1 =>cond (v1.1.2.2.2.1==2) (cond (!(bn v1.1.2.1 ([]:List UInt8))) (some (v1.1,0,())) (cond (v1.1.2.2.2.1==0) (some (v1.1,17,())) (some (v1.1,v1.1.2.2.2.1,())))) (cond (v1.1.2.2.2.1==0) (some (v1.1,17,())) (some (v1.1,v1.1.2.2.2.1,())))
def u'(x:aK.D×(List UInt8)×Unit):Option (aS.D×Int×Unit):=zP x.1 x.2.1
def K2(a1:aK.D)(a2:Int):Option (Bool×Unit) :=(fA (a1.1,a2,())).bind fun v1 =>cond (!List.isEmpty v1.1) ((pP (a1.2.1,J I v1.1 0,3,())).bind fun v2 =>some (v2.1,())) (none)
def nL(x:aK.D×Int×Unit):Option (Bool×Unit):=K2 x.1 x.2.1
def SC(x:(List aw.D)×Int×(List aw.D)×Unit):Option ((List aw.D)×Unit):=insF x.1 x.2.1 x.2.2.1
structure va where
 k2:(List UInt8)→Int→Int→Int→aK.D→Option (aK.D×Unit)
 ba:(List UInt8)→Int→Int→Int→aK.D→Option (aK.D×Unit)
def EO(k:va)(a1:aK.D)(a2:Int)(a3:List UInt8)(a4:Int):Option (aK.D×Unit) :=(xj (a1.1,a2,())).bind fun v1 =>k.k2 a3 a4 v1.1 0 (v1.2.1,a1.2.1,a1.2.2.1,())
def zQ(k:va)(U:List UInt8)(aa:Int)(af:Int)(ai:Int)(ar:aK.D):Option (aK.D×Unit) :=(aM ar.1.2.1.length af).bind fun v1 =>cond (decide (ai<(((J I ar.1.2.1 v1).2.2.2.2.2.2.1).length:Int))) ((aM ar.1.2.1.length af).bind fun v2 =>(aM (((J I ar.1.2.1 v2).2.2.2.2.2.2.1).length) ai).bind fun v3 =>cond (dy ((J aw ((J I ar.1.2.1 v2).2.2.2.2.2.2.1) v3).1) U) (k.k2 U aa af (aG (ai+1)) ar) (k.ba U aa af ai ar)) (k.ba U aa af ai ar)
def abS(ar:aK.D)(v4:List I.D):Option (aK.D×Unit) :=some (((ar.1.1,v4,()),ar.2.1,ar.2.2.1,()),())
def K3(k:va)(U:List UInt8)(aa:Int)(af:Int)(ai:Int)(ar:aK.D):Option (aK.D×Unit) :=(aM ar.1.2.1.length af).bind fun v1 =>(aM ar.1.2.1.length af).bind fun v2 =>cond (Nat.beq v2 v1) ((SC ((J I ar.1.2.1 v1).2.2.2.2.2.2.1,ai,[(U,aa,())],())).bind fun v3 =>abS ar (ar.1.2.1.set v1 ((J I ar.1.2.1 v1).1,(J I ar.1.2.1 v1).2.1,(J I ar.1.2.1 v1).2.2.1,(J I ar.1.2.1 v1).2.2.2.1,(J I ar.1.2.1 v1).2.2.2.2.1,(J I ar.1.2.1 v1).2.2.2.2.2.1,v3.1,(J I ar.1.2.1 v1).2.2.2.2.2.2.2.1,(J I ar.1.2.1 v1).2.2.2.2.2.2.2.2.1,()))) (none)
def SD(k:va):va:=⟨zQ k,K3 k⟩
def su:Nat→va:=eN SD ⟨fun _ _ _ _ _=>none,fun _ _ _ _ _=>none⟩
def sv(x:aK.D×Int×(List UInt8)×Int×Unit):Option (aK.D×Unit):=EO (su aP) x.1 x.2.1 x.2.2.1 x.2.2.2.1
def K4(a1:aK.D):Option (Int×Unit) :=(sk (a1.1,())).bind fun v1 =>cond (decide (v1.1>400)) (some (28,())) ((zM (a1.1.2.1,a1.1,())).bind fun v2 =>cond v2.1 (some (122,())) (some (0,())))
def nM(x:aK.D×Unit):Option (Int×Unit):=K4 x.1
structure vd where
 ba:aK.D→aI.D→Option (Int×aK.D×Unit)
 hL:aK.D→aS.D→I.D→Option (Int×aK.D×Unit)
def EP(k:vd)(a1:aK.D):Option (Int×aK.D×Unit) :=cond (a1.2.2.1.1==10) ((xi (a1.2.2.1.2.2.1,())).bind fun v1 =>cond (!v1.1) (some (22,a1,())) (cond (a1.2.2.1.1 != 10) ((eO (a1.2.2.1.2.2.2.1,0,2047,())).bind fun v2 =>cond (!v2.1) (some (22,a1,())) (k.ba a1 a1.2.2.1)) (k.ba a1 a1.2.2.1))) (cond (a1.2.2.1.1 != 10) ((eO (a1.2.2.1.2.2.2.1,0,2047,())).bind fun v3 =>cond (!v3.1) (some (22,a1,())) (k.ba a1 a1.2.2.1)) (k.ba a1 a1.2.2.1))
def K5(k:vd)(U:aK.D)(aa:aI.D):Option (Int×aK.D×Unit) :=(u' (U,aa.2.1,())).bind fun v1 =>cond (v1.2.1 != 0) (some (v1.2.1,U,())) ((nL (U,v1.1.1,())).bind fun v2 =>cond (!v2.1) (some (13,U,())) ((fA (U.1,v1.1.1,())).bind fun v3 =>cond (!List.isEmpty v3.1) (cond ((((J I v3.1 0).2.2.2.2.2.2.1).length:Int)==12) (some (28,U,())) (cond ((U.1.2.1.length:Int)==24) (some (28,U,())) (cond (U.1.1==100000) (some (28,U,())) (cond (!List.isEmpty v3.1) (cond (cR .and .i64 ((J I v3.1 0).2.2.1) 1024 != 0) (cond (!List.isEmpty v3.1) (cond (aa.1==1) (cond (!List.isEmpty v3.1) (k.hL U v1.1 (U.1.1,2,cR .or .i64 aa.2.2.2.1 (cR .and .i64 ((J I v3.1 0).2.2.1) 1024),U.2.1.1,(J I v3.1 0).2.2.2.2.1,([]:List UInt8),([]:List aw.D),0,0,())) (none)) (cond (aa.1==10) (k.hL U v1.1 (U.1.1,3,511,U.2.1.1,(J I v3.1 0).2.2.2.2.1,aa.2.2.1,([]:List aw.D),0,0,())) (k.hL U v1.1 (U.1.1,1,aa.2.2.2.1,U.2.1.1,(J I v3.1 0).2.2.2.2.1,([]:List UInt8),([]:List aw.D),0,0,())))) (none)) (cond (aa.1==1) (cond (!List.isEmpty v3.1) (k.hL U v1.1 (U.1.1,2,cR .or .i64 aa.2.2.2.1 (cR .and .i64 ((J I v3.1 0).2.2.1) 1024),U.2.1.1,U.2.1.2.1,([]:List UInt8),([]:List aw.D),0,0,())) (none)) (cond (aa.1==10) (k.hL U v1.1 (U.1.1,3,511,U.2.1.1,U.2.1.2.1,aa.2.2.1,([]:List aw.D),0,0,())) (k.hL U v1.1 (U.1.1,1,aa.2.2.2.1,U.2.1.1,U.2.1.2.1,([]:List UInt8),([]:List aw.D),0,0,()))))) (none))))) (none)))
def K6(k:vd)(U:aK.D)(aa:aS.D)(af:I.D):Option (Int×aK.D×Unit) :=(sv (((aG (U.1.1+1),U.1.2.1,()),U.2.1,U.2.2.1,()),aa.1,aa.2.1,af.1,())).bind fun v1 =>cond (room (v1.1.1.2.1.length+[af].length)) ((nM (((v1.1.1.1,v1.1.1.2.1++[af],()),v1.1.2.1,v1.1.2.2.1,()),())).bind fun v2 =>some (v2.1,((v1.1.1.1,v1.1.1.2.1++[af],()),v1.1.2.1,v1.1.2.2.1,()),())) (none)
def SE(k:vd):vd:=⟨K5 k,K6 k⟩
def lg:Nat→vd:=eN SE ⟨fun _ _=>none,fun _ _ _=>none⟩
def zR(x:aK.D×Unit):Option (Int×aK.D×Unit):=EP (lg aP) x.1
def K7(a1:aH.D)(a2:I.D)(a3:I.D):Option (Bool×Unit) :=(xn (a1,())).bind fun v1 =>cond v1.1 (cond (cR .and .i64 a2.2.2.1 512==0) (some (true,())) (cond (a1.1==0) (some (true,())) (cond (a1.1==a2.2.2.2.1) (some (true,())) (some (a1.1==a3.2.2.2.1,()))))) (some (false,()))
def sw(x:aH.D×I.D×I.D×Unit):Option (Bool×Unit):=K7 x.1 x.2.1 x.2.2.1
def abT(a1:aw.D)(a2:List UInt8):Option (Bool×Unit) :=some (bn a1.1 a2,())
def ER(x:aw.D×(List UInt8)×Unit):Option (Bool×Unit):=abT x.1 x.2.1
abbrev ES:Type:=(List aw.D)→(List UInt8)→Int→Int→Option (Int×Unit)
def SF(k2:ES)(a1:List aw.D)(a2:List UInt8):Option (Int×Unit) :=k2 a1 a2 (a1.length:Int) 0
def ET(k2:ES)(U:List aw.D)(aa:List UInt8)(af:Int)(ai:Int):Option (Int×Unit) :=cond (decide (ai<af)) ((aM U.length ai).bind fun v1 =>(ER (J aw U v1,aa,())).bind fun v2 =>cond v2.1 (some (ai,())) (k2 U aa af (aG (ai+1)))) (some ((-1),()))
def xq:Nat→ES | 0,_,_,_,_=>none | m+1,U,aa,af,ai=>ET (xq m) U aa af ai
def K8(x:(List aw.D)×(List UInt8)×Unit):Option (Int×Unit):=SF (xq aP) x.1 x.2.1
abbrev xr:Type:=(List aw.D)×Unit
abbrev EU:Type:=(List UInt8)→Int→Int→(List aw.D)→Option (xr)
def EV(bt:EU)(a1:List aw.D)(a2:List UInt8):Option (xr) :=(K8 (a1,a2,())).bind fun v1 =>cond (v1.1 ==(-1)) (some (a1,())) (bt a2 v1.1 (aG (v1.1+1)) a1)
def SG(aa:Int)(v5:List aw.D):Option (xr) :=(d_ v5.length 0 aa).bind fun v6 =>some (part v5 (0+v6.1) (v6.2-v6.1),())
def EW(bt:EU)(U:List UInt8)(aa:Int)(af:Int)(ai:List aw.D):Option (xr) :=cond (decide (af<(ai.length:Int))) ((aM ai.length af).bind fun v1 =>(ER (J aw ai (0+v1),U,())).bind fun v2 =>cond (!v2.1) ((aM ai.length aa).bind fun v3 =>bt U (aG (aa+1)) (aG (af+1)) (ai.set (0+v3) (J aw ai (0+v1)))) (bt U aa (aG (af+1)) ai)) ((d_ ai.length aa (ai.length:Int)).bind fun v4 =>SG aa (ai.take (0+v4.1)++List.replicate (v4.2-v4.1) ((([]:List UInt8),0,()):aw.D)++ai.drop ((0+v4.1) +(v4.2-v4.1))))
def xt:Nat→EU | 0,_,_,_,_=>none | m+1,U,aa,af,ai=>EW (xt m) U aa af ai
def EX(x:(List aw.D)×(List UInt8)×Unit):Option (xr):=EV (xt aP) x.1 x.2.1
def SH(x:(List I.D)×Int×Unit):Option ((List I.D)×Unit):=cond (room x.1.length) (some (x.1.filter (fun y => !(y.1==x.2.1)),())) none
def K9(a4:Bool)(v1:Int×ae.D×Unit)(v3:Int×Unit)(a1:aK.D)(bu:List I.D):Option (aK.D×Unit) :=cond a4 ((xk ((v1.2.1.1,bu,()),v3.1,())).bind fun dd =>cond (dd.1==0) ((SH (bu,v3.1,())).bind fun v9 =>some (((v1.2.1.1,v9.1,()),a1.2.1,a1.2.2.1,()),())) (some (((v1.2.1.1,bu,()),a1.2.1,a1.2.2.1,()),()))) (some (((v1.2.1.1,bu,()),a1.2.1,a1.2.2.1,()),()))
def K_(a1:aK.D)(a2:Int)(a3:List UInt8)(a4:Bool):Option (aK.D×Unit) :=(xj (a1.1,a2,())).bind fun v1 =>(aM v1.2.1.2.1.length v1.1).bind fun v2 =>(EE (J I v1.2.1.2.1 v2,a3,())).bind fun v3 =>(aM v1.2.1.2.1.length v1.1).bind fun v4 =>(aM v1.2.1.2.1.length v1.1).bind fun v5 =>cond (Nat.beq v5 v4) ((EX ((J I v1.2.1.2.1 v4).2.2.2.2.2.2.1,a3,())).bind fun v6 =>K9 a4 v1 v3 a1 (v1.2.1.2.1.set v4 ((J I v1.2.1.2.1 v4).1,(J I v1.2.1.2.1 v4).2.1,(J I v1.2.1.2.1 v4).2.2.1,(J I v1.2.1.2.1 v4).2.2.2.1,(J I v1.2.1.2.1 v4).2.2.2.2.1,(J I v1.2.1.2.1 v4).2.2.2.2.2.1,v6.1,(J I v1.2.1.2.1 v4).2.2.2.2.2.2.2.1,(J I v1.2.1.2.1 v4).2.2.2.2.2.2.2.2.1,()))) (none)
def oR(x:aK.D×Int×(List UInt8)×Bool×Unit):Option (aK.D×Unit):=K_ x.1 x.2.1 x.2.2.1 x.2.2.2.1
structure qR where
 bt:aK.D→aS.D→I.D→Option (Int×aK.D×Unit)
 dj:aK.D→aS.D→I.D→Option (Int×aK.D×Unit)
 gG:aK.D→aS.D→I.D→Option (Int×aK.D×Unit)
 c3:aK.D→aS.D→I.D→Option (Int×aK.D×Unit)
def EY(k:qR)(a1:aK.D):Option (Int×aK.D×Unit) :=(lf (a1,a1.2.2.1.2.1,false,())).bind fun v1 =>cond (v1.1.2.2.2.1 != 0) (some (v1.1.2.2.2.1,a1,())) (dup ((fA (a1.1,v1.1.2.2.1,())).bind fun v2 =>cond (!List.isEmpty v2.1) (k.bt a1 v1.1 (J I v2.1 0)) (none)))
def K'(k:qR)(U:aK.D)(aa:aS.D)(af:I.D):Option (Int×aK.D×Unit) :=cond (U.2.2.1.1==2) (cond (bn aa.2.1 ([]:List UInt8)) (some (16,U,())) (k.dj U aa af)) (k.dj U aa af)
def La(k:qR)(U:aK.D)(aa:aS.D)(af:I.D):Option (Int×aK.D×Unit) :=cond (U.2.2.1.1==2) (cond (af.2.1 != 2) (some (20,U,())) (k.gG U aa af)) (k.gG U aa af)
def Lb(k:qR)(U:aK.D)(aa:aS.D)(af:I.D):Option (Int×aK.D×Unit) :=cond (U.2.2.1.1==8) (cond (af.2.1==2) (some (21,U,())) (k.c3 U aa af)) (k.c3 U aa af)
def Lc(k:qR)(U:aK.D)(aa:aS.D)(af:I.D):Option (Int×aK.D×Unit) :=(nL (U,aa.1,())).bind fun v1 =>cond (!v1.1) (some (13,U,())) ((fA (U.1,aa.1,())).bind fun v2 =>cond (!List.isEmpty v2.1) ((sw (U.2.1,J I v2.1 0,af,())).bind fun v3 =>cond (!v3.1) (some (1,U,())) (cond (U.2.2.1.1==2) (cond (decide ((af.2.2.2.2.2.2.1.length:Int)>0)) (some (39,U,())) ((oR (U,aa.1,aa.2.1,true,())).bind fun v4 =>some (0,v4.1,()))) ((oR (U,aa.1,aa.2.1,true,())).bind fun v5 =>some (0,v5.1,())))) (none))
def SI(k:qR):qR:=⟨K' k,La k,Lb k,Lc k⟩
def oS:Nat→qR:=eN SI ⟨fun _ _ _=>none,fun _ _ _=>none,fun _ _ _=>none,fun _ _ _=>none⟩
def EZ(x:aK.D×Unit):Option (Int×aK.D×Unit):=EY (oS aP) x.1
def Ld(a1:ae.D)(a2:Int):Option (Bool×Unit) :=(fA (a1,a2,())).bind fun v1 =>cond (!List.isEmpty v1.1) (cond (!List.isEmpty v1.1) (some ((J I v1.1 0).2.1==2,())) (none)) (some (false,()))
def ve(x:ae.D×Int×Unit):Option (Bool×Unit):=Ld x.1 x.2.1
def Le(a1:aK.D):Option (Int×aK.D×Unit) :=(lf (a1,a1.2.2.1.2.1,false,())).bind fun v1 =>cond (v1.1.2.2.2.1 != 0) (some (v1.1.2.2.2.1,a1,())) ((ve (a1.1,v1.1.2.2.1,())).bind fun v2 =>cond v2.1 (some (1,a1,())) ((u' (a1,a1.2.2.1.2.2.1,())).bind fun v3 =>cond (v3.2.1 != 0) (some (v3.2.1,a1,())) ((nL (a1,v3.1.1,())).bind fun v4 =>cond (!v4.1) (some (13,a1,())) ((fA (a1.1,v3.1.1,())).bind fun v5 =>cond (!List.isEmpty v5.1) (cond ((((J I v5.1 0).2.2.2.2.2.2.1).length:Int)==12) (some (28,a1,())) ((sv (a1,v3.1.1,v3.1.2.1,v1.1.2.2.1,())).bind fun v6 =>(nM (v6.1,())).bind fun bu =>some (bu.1,v6.1,()))) (none)))))
def E0(x:aK.D×Unit):Option (Int×aK.D×Unit):=Le x.1
def Lf(a1:aK.D)(a2:I.D)(a3:aS.D):Option (Int×Unit) :=dup ((fA (a1.1,a3.2.2.1,())).bind fun v1 =>cond (!List.isEmpty v1.1) ((fA (a1.1,a3.1,())).bind fun v2 =>cond (!List.isEmpty v2.1) ((sw (a1.2.1,J I v2.1 0,J I v1.1 0,())).bind fun v3 =>cond (!v3.1) (some (1,())) (cond (a2.2.1==2) (cond ((J I v1.1 0).2.1 != 2) (some (20,())) (cond (a2.2.1==2) (cond (decide ((((J I v1.1 0).2.2.2.2.2.2.1).length:Int)>0)) (some (39,())) (cond (a2.2.1 != 2) (cond ((J I v1.1 0).2.1==2) (some (21,())) (some (0,()))) (some (0,())))) (cond (a2.2.1 != 2) (cond ((J I v1.1 0).2.1==2) (some (21,())) (some (0,()))) (some (0,()))))) (cond (a2.2.1==2) (cond (decide ((((J I v1.1 0).2.2.2.2.2.2.1).length:Int)>0)) (some (39,())) (cond (a2.2.1 != 2) (cond ((J I v1.1 0).2.1==2) (some (21,())) (some (0,()))) (some (0,())))) (cond (a2.2.1 != 2) (cond ((J I v1.1 0).2.1==2) (some (21,())) (some (0,()))) (some (0,())))))) (none)) (none))
def E1(x:aK.D×I.D×aS.D×Unit):Option (Int×Unit):=Lf x.1 x.2.1 x.2.2.1
structure qS where
 dj:aK.D→aS.D→aS.D→Option (Int×aK.D×Unit)
 gj:aK.D→aS.D→aS.D→I.D→Option (Int×aK.D×Unit)
 mI:aK.D→aS.D→aS.D→I.D→Option (Int×aK.D×Unit)
 oT:aK.D→aS.D→aS.D→Option (Int×aK.D×Unit)
def E2(k:qS)(a1:aK.D):Option (Int×aK.D×Unit) :=(lf (a1,a1.2.2.1.2.1,false,())).bind fun v1 =>cond (v1.1.2.2.2.1 != 0) (some (v1.1.2.2.2.1,a1,())) ((lf (a1,a1.2.2.1.2.2.1,false,())).bind fun v2 =>cond (v2.1.2.2.2.1 != 0) (cond (v2.1.2.2.2.1 != 2) (some (v2.1.2.2.2.1,a1,())) (cond (bn v2.1.2.1 ([]:List UInt8)) (some (v2.1.2.2.2.1,a1,())) (k.dj a1 v1.1 v2.1))) (k.dj a1 v1.1 v2.1))
def Lg(k:qS)(U:aK.D)(aa:aS.D)(af:aS.D):Option (Int×aK.D×Unit) :=cond (bn aa.2.1 ([]:List UInt8)) (some (16,U,())) (cond (bn af.2.1 ([]:List UInt8)) (some (16,U,())) (dup ((fA (U.1,aa.2.2.1,())).bind fun v1 =>cond (!List.isEmpty v1.1) (k.gj U aa af (J I v1.1 0)) (none))))
def Lh(k:qS)(U:aK.D)(aa:aS.D)(af:aS.D)(ai:I.D):Option (Int×aK.D×Unit) :=(nL (U,aa.1,())).bind fun v1 =>cond (!v1.1) (some (13,U,())) ((nL (U,af.1,())).bind fun v2 =>cond (!v2.1) (some (13,U,())) ((fA (U.1,aa.1,())).bind fun v3 =>cond (!List.isEmpty v3.1) ((sw (U.2.1,J I v3.1 0,ai,())).bind fun v4 =>cond (!v4.1) (some (1,U,())) (cond (ai.2.1==2) (cond (af.1==aa.2.2.1) (some (22,U,())) ((uW (U.1,aa.2.2.1,())).bind fun v5 =>(sj (v5.1,af.1,())).bind fun v6 =>cond v6.1 (some (22,U,())) (k.mI U aa af ai))) (k.mI U aa af ai))) (none)))
def Li(k:qS)(U:aK.D)(aa:aS.D)(af:aS.D)(ai:I.D):Option (Int×aK.D×Unit) :=cond (af.2.2.1==aa.2.2.1) (some (0,U,())) (cond (af.2.2.1 != 0) ((E1 (U,ai,af,())).bind fun v1 =>cond (v1.1 != 0) (some (v1.1,U,())) ((oR (U,af.1,af.2.1,true,())).bind fun v2 =>k.oT v2.1 aa af)) (cond (aa.1 != af.1) ((fA (U.1,af.1,())).bind fun v3 =>cond (!List.isEmpty v3.1) (cond ((((J I v3.1 0).2.2.2.2.2.2.1).length:Int)==12) (some (28,U,())) (k.oT U aa af)) (none)) (k.oT U aa af)))
def Lj(k:qS)(U:aK.D)(aa:aS.D)(af:aS.D):Option (Int×aK.D×Unit) :=(oR (U,aa.1,aa.2.1,false,())).bind fun v1 =>(sv (v1.1,af.1,af.2.1,aa.2.2.1,())).bind fun v2 =>(nM (v2.1,())).bind fun v3 =>some (v3.1,v2.1,())
def SJ(k:qS):qS:=⟨Lg k,Lh k,Li k,Lj k⟩
def jf:Nat→qS:=eN SJ ⟨fun _ _ _=>none,fun _ _ _ _=>none,fun _ _ _ _=>none,fun _ _ _=>none⟩
def E3(x:aK.D×Unit):Option (Int×aK.D×Unit):=E2 (jf aP) x.1
abbrev SK:Type:=Int×Int×aK.D×Unit
def Lk(a1:aK.D)(a2:Bool):Option (SK) :=(lf (a1,a1.2.2.1.2.1,a2,())).bind fun v1 =>cond (v1.1.2.2.2.1 != 0) (some ((-1),v1.1.2.2.2.1,a1,())) ((xj (a1.1,v1.1.2.2.1,())).bind fun v2 =>some (v2.1,0,(v2.2.1,a1.2.1,a1.2.2.1,()),()))
def mN(x:aK.D×Bool×Unit):Option (SK):=Lk x.1 x.2.1
abbrev SL:Type:=Int×Int×aK.D×Unit
def zS(a1:aK.D)(a2:Int):Option (SL) :=(mN (a1,true,())).bind fun v1 =>cond (v1.2.1 != 0) (some ((-1),v1.2.1,v1.2.2.1,())) ((aM v1.2.2.1.1.2.1.length v1.1).bind fun v2 =>cond ((J I v1.2.2.1.1.2.1 v2).2.1==2) (some ((-1),21,v1.2.2.1,())) ((aM v1.2.2.1.1.2.1.length v1.1).bind fun v3 =>(pP (v1.2.2.1.2.1,J I v1.2.2.1.1.2.1 v3,a2,())).bind fun v4 =>cond (!v4.1) (some ((-1),13,v1.2.2.1,())) (some (v1.1,0,v1.2.2.1,()))))
def zT(x:aK.D×Int×Unit):Option (SL):=zS x.1 x.2.1
abbrev SM:Type:=aL.D×aK.D×Unit
def Ll(a1:aK.D):Option (SM) :=(zT (a1,4,())).bind fun v1 =>cond (v1.2.1 != 0) ((e4 (v1.2.1,())).bind fun v2 =>some (v2.1,v1.2.2.1,())) (cond (decide (v1.2.2.1.2.2.1.2.2.2.1<0)) ((e4 (22,())).bind fun v3 =>some (v3.1,v1.2.2.1,())) (cond (decide (v1.2.2.1.2.2.1.2.2.2.2.1<0)) ((e4 (22,())).bind fun v4 =>some (v4.1,v1.2.2.1,())) ((aM v1.2.2.1.1.2.1.length v1.1).bind fun v5 =>(aM v1.2.2.1.1.2.1.length v1.1).bind fun v6 =>(d_ (((J I v1.2.2.1.1.2.1 v5).2.2.2.2.2.1).length) (jG v1.2.2.1.2.2.1.2.2.2.1 (((J I v1.2.2.1.1.2.1 v6).2.2.2.2.2.1).length:Int)) (((J I v1.2.2.1.1.2.1 v5).2.2.2.2.2.1).length:Int)).bind fun bu =>(d_ ((part ((J I v1.2.2.1.1.2.1 v5).2.2.2.2.2.1) bu.1 (bu.2-bu.1)).length) 0 (jG v1.2.2.1.2.2.1.2.2.2.2.1 (((part ((J I v1.2.2.1.1.2.1 v5).2.2.2.2.2.1) bu.1 (bu.2-bu.1)).length:Nat):Int))).bind fun dd =>some ((0,part (part ((J I v1.2.2.1.1.2.1 v5).2.2.2.2.2.1) bu.1 (bu.2-bu.1)) dd.1 (dd.2-dd.1),()),v1.2.2.1,()))))
def E4(x:aK.D×Unit):Option (SM):=Ll x.1
def strings_Repeat(x:(List UInt8)×Int×Unit):Option ((List UInt8)×Unit):=repF x.1 x.2.1
def Lm(a1:List UInt8)(a2:Int):Option ((List UInt8)×Unit) :=cond (decide ((a1.length:Int)≥a2)) ((d_ a1.length 0 a2).bind fun v1 =>some (part a1 v1.1 (v1.2-v1.1),())) ((strings_Repeat (([0]:List UInt8),aG (a2-(a1.length:Int)),())).bind fun v2 =>cond (room (a1.length+v2.1.length)) (some (a1++v2.1,())) (none))
def E5(x:(List UInt8)×Int×Unit):Option ((List UInt8)×Unit):=Lm x.1 x.2.1
structure sx where
 dj:Int→Int→aK.D→Option (Int×aK.D×Unit)
 c3:Int→Int→aK.D→Option (Int×aK.D×Unit)
 gL:Int→(List UInt8)→aK.D→Option (Int×aK.D×Unit)
def E6(k:sx)(a1:aK.D):Option (Int×aK.D×Unit) :=(zT (a1,2,())).bind fun v1 =>cond (v1.2.1 != 0) (some (v1.2.1,v1.2.2.1,())) (cond (v1.2.2.1.2.2.1.1==6) ((aM v1.2.2.1.1.2.1.length v1.1).bind fun v2 =>k.dj v1.1 (((J I v1.2.2.1.1.2.1 v2).2.2.2.2.2.1).length:Int) v1.2.2.1) (k.dj v1.1 v1.2.2.1.2.2.1.2.2.2.1 v1.2.2.1))
def Ln(k:sx)(U:Int)(aa:Int)(af:aK.D):Option (Int×aK.D×Unit) :=cond (decide (aa<0)) (some (22,af,())) (cond (af.2.2.1.1 != 7) (cond (bn af.2.2.1.2.2.2.2.2.1 ([]:List UInt8)) (some (0,af,())) (k.c3 U aa af)) (k.c3 U aa af))
def Lo(k:sx)(U:Int)(aa:Int)(af:aK.D):Option (Int×aK.D×Unit) :=cond (decide (aG (aa +(af.2.2.1.2.2.2.2.2.1.length:Int))>64)) (some (27,af,())) ((aM af.1.2.1.length U).bind fun v1 =>(E5 ((J I af.1.2.1 v1).2.2.2.2.2.1,aa,())).bind fun v2 =>cond (af.2.2.1.1 != 7) (cond (room (v2.1.length+af.2.2.1.2.2.2.2.2.1.length)) ((aM af.1.2.1.length U).bind fun v3 =>cond (decide ((((J I af.1.2.1 v3).2.2.2.2.2.1).length:Int) >((v2.1++af.2.2.1.2.2.2.2.2.1).length:Int))) ((aM af.1.2.1.length U).bind fun v4 =>(d_ (((J I af.1.2.1 v4).2.2.2.2.2.1).length) ((v2.1++af.2.2.1.2.2.2.2.2.1).length:Int) (((J I af.1.2.1 v4).2.2.2.2.2.1).length:Int)).bind fun v5 =>cond (room ((v2.1++af.2.2.1.2.2.2.2.2.1).length +(part ((J I af.1.2.1 v4).2.2.2.2.2.1) v5.1 (v5.2-v5.1)).length)) (k.gL U ((v2.1++af.2.2.1.2.2.2.2.2.1)++(part ((J I af.1.2.1 v4).2.2.2.2.2.1) v5.1 (v5.2-v5.1))) af) (none)) (k.gL U (v2.1++af.2.2.1.2.2.2.2.2.1) af)) (none)) (k.gL U v2.1 af))
def abU(af:aK.D)(v2:List I.D):Option (Int×aK.D×Unit) :=(nM (((af.1.1,v2,()),af.2.1,af.2.2.1,()),())).bind fun v3 =>some (v3.1,((af.1.1,v2,()),af.2.1,af.2.2.1,()),())
def Lp(k:sx)(U:Int)(aa:List UInt8)(af:aK.D):Option (Int×aK.D×Unit) :=(aM af.1.2.1.length U).bind fun v1 =>abU af (af.1.2.1.set v1 ((J I af.1.2.1 v1).1,(J I af.1.2.1 v1).2.1,(J I af.1.2.1 v1).2.2.1,(J I af.1.2.1 v1).2.2.2.1,(J I af.1.2.1 v1).2.2.2.2.1,aa,(J I af.1.2.1 v1).2.2.2.2.2.2.1,(J I af.1.2.1 v1).2.2.2.2.2.2.2.1,(J I af.1.2.1 v1).2.2.2.2.2.2.2.2.1,()))
def SN(k:sx):sx:=⟨Ln k,Lo k,Lp k⟩
def gz:Nat→sx:=eN SN ⟨fun _ _ _=>none,fun _ _ _=>none,fun _ _ _=>none⟩
def E7(x:aK.D×Unit):Option (Int×aK.D×Unit):=E6 (gz aP) x.1
abbrev SO:Type:=aL.D×aK.D×Unit
def Lq(a1:aK.D):Option (SO) :=(mN (a1,false,())).bind fun v1 =>cond (v1.2.1 != 0) ((e4 (v1.2.1,())).bind fun v2 =>some (v2.1,v1.2.2.1,())) ((aM v1.2.2.1.1.2.1.length v1.1).bind fun v3 =>cond ((J I v1.2.2.1.1.2.1 v3).2.1 != 3) ((e4 (22,())).bind fun v4 =>some (v4.1,v1.2.2.1,())) ((aM v1.2.2.1.1.2.1.length v1.1).bind fun v5 =>some ((0,(J I v1.2.2.1.1.2.1 v5).2.2.2.2.2.1,()),v1.2.2.1,())))
def E8(x:aK.D×Unit):Option (SO):=Lq x.1
def strings_Join(x:(List (List UInt8))×(List UInt8)×Unit):Option ((List UInt8)×Unit):=joinF x.1 x.2.1
structure vf where
 ba:Int→(List UInt8)→Int→Option ((List UInt8)×Unit)
 dj:Int→(List UInt8)→Int→Int→Option ((List UInt8)×Unit)
def SP(k:vf)(a1:Int):Option ((List UInt8)×Unit) :=k.ba a1 ([]:List UInt8) a1
def Lr(k:vf)(U:Int)(aa:List UInt8)(af:Int):Option ((List UInt8)×Unit) :=cond (decide (Int.tmod af 10<0)) (k.dj U aa af (aG (0-(Int.tmod af 10)))) (k.dj U aa af (Int.tmod af 10))
def Ls(k:vf)(U:Int)(aa:List UInt8)(af:Int)(ai:Int):Option ((List UInt8)×Unit) :=cond (room ((gB [IntKind.wrap .u8 (aG (48+ai))]).length+aa.length)) ((eO (af,(-9),9,())).bind fun v1 =>cond v1.1 (cond (decide (U<0)) (cond (room (([45]:List UInt8).length +((gB [IntKind.wrap .u8 (aG (48+ai))])++aa).length)) (some (([45]:List UInt8)++((gB [IntKind.wrap .u8 (aG (48+ai))])++aa),())) (none)) (some ((gB [IntKind.wrap .u8 (aG (48+ai))])++aa,()))) (k.ba U ((gB [IntKind.wrap .u8 (aG (48+ai))])++aa) (aG (Int.tdiv af 10)))) (none)
def SQ(k:vf):vf:=⟨Lr k,Ls k⟩
def mO:Nat→vf:=eN SQ ⟨fun _ _ _=>none,fun _ _ _ _=>none⟩
def zU(x:Int×Unit):Option ((List UInt8)×Unit):=SP (mO aP) x.1
abbrev E9:Type:=(List Int)→Int→Int→(List (List UInt8))→Option ((List UInt8)×Unit)
def SR(k3:E9)(a1:List Int):Option ((List UInt8)×Unit) :=k3 a1 (a1.length:Int) 0 ([]:List (List UInt8))
def E_(k3:E9)(U:List Int)(aa:Int)(af:Int)(ai:List (List UInt8)):Option ((List UInt8)×Unit) :=cond (decide (af<aa)) ((aM U.length af).bind fun v1 =>(zU (J (ad.int .i64) U v1,())).bind fun v2 =>cond (room (ai.length+[v2.1].length)) (k3 U aa (aG (af+1)) (ai++[v2.1])) (none)) ((strings_Join (ai,([32]:List UInt8),())).bind fun v3 =>some (v3.1,()))
def vg:Nat→E9 | 0,_,_,_,_=>none | m+1,U,aa,af,ai=>E_ (vg m) U aa af ai
def qT(x:(List Int)×Unit):Option ((List UInt8)×Unit):=SR (vg aP) x.1
abbrev zV:Type:=aL.D×aK.D×Unit
abbrev E':Type:=(List aw.D)→Int→Int→aL.D→(List (List UInt8))→aK.D→Option (zV)
def Fa(mG:E')(a1:aK.D):Option (zV) :=(mN (a1,true,())).bind fun v1 =>cond (v1.2.1 != 0) ((e4 (v1.2.1,())).bind fun v2 =>some (v2.1,v1.2.2.1,())) ((aM v1.2.2.1.1.2.1.length v1.1).bind fun v3 =>cond ((J I v1.2.2.1.1.2.1 v3).2.1 != 2) ((e4 (20,())).bind fun v4 =>some (v4.1,v1.2.2.1,())) ((aM v1.2.2.1.1.2.1.length v1.1).bind fun v5 =>(pP (v1.2.2.1.2.1,J I v1.2.2.1.1.2.1 v5,4,())).bind fun v6 =>cond (!v6.1) ((e4 (13,())).bind fun bu =>some (bu.1,v1.2.2.1,())) (cond (v1.2.2.1.2.2.1.1==20) ((aM v1.2.2.1.1.2.1.length v1.1).bind fun dd =>(xl (v1.2.2.1.1,(J I v1.2.2.1.1.2.1 dd).1,())).bind fun v9 =>(aM v1.2.2.1.1.2.1.length v1.1).bind fun v10 =>(aM v1.2.2.1.1.2.1.length v1.1).bind fun v11 =>(qT ([(J I v1.2.2.1.1.2.1 v10).2.2.2.2.2.2.2.1,(J I v1.2.2.1.1.2.1 v11).2.2.2.2.2.2.2.2.1,v9.1,v9.2.1],())).bind fun v12 =>some ((0,v12.1,()),v1.2.2.1,())) ((aM v1.2.2.1.1.2.1.length v1.1).bind fun jR =>mG ((J I v1.2.2.1.1.2.1 jR).2.2.2.2.2.2.1) (((J I v1.2.2.1.1.2.1 jR).2.2.2.2.2.2.1).length:Int) 0 (0,([]:List UInt8),()) ([]:List (List UInt8)) v1.2.2.1))))
def Fb(mG:E')(U:List aw.D)(aa:Int)(af:Int)(ai:aL.D)(ar:List (List UInt8))(aE:aK.D):Option (zV) :=cond (decide (af<aa)) ((aM U.length af).bind fun v1 =>cond (room (ar.length+[(J aw U v1).1].length)) (mG U aa (aG (af+1)) ai (ar++[(J aw U v1).1]) aE) (none)) ((strings_Join (ar,([47]:List UInt8),())).bind fun v2 =>some ((0,v2.1,()),aE,()))
def qU:Nat→E' | 0,_,_,_,_,_,_=>none | m+1,U,aa,af,ai,ar,aE=>Fb (qU m) U aa af ai ar aE
def zW(x:aK.D×Unit):Option (zV):=Fa (qU aP) x.1
abbrev Fc:Type:=ae.D→Int→(List aw.D)→Int→Int→Option (Int×Unit)
def Fe(bt:Fc)(a1:ae.D)(a2:I.D):Option (Int×Unit) :=cond (a2.2.1 != 2) ((xk (a1,a2.1,())).bind fun v1 =>some (v1.1,())) (bt a1 2 a2.2.2.2.2.2.2.1 (a2.2.2.2.2.2.2.1.length:Int) 0)
def Ff(bt:Fc)(U:ae.D)(aa:Int)(af:List aw.D)(ai:Int)(ar:Int):Option (Int×Unit) :=cond (decide (ar<ai)) ((aM af.length ar).bind fun v1 =>(ve (U,(J aw af v1).2.1,())).bind fun v2 =>cond v2.1 (bt U (aG (aa+1)) af ai (aG (ar+1))) (bt U aa af ai (aG (ar+1)))) (some (aa,()))
def sy:Nat→Fc | 0,_,_,_,_,_=>none | m+1,U,aa,af,ai,ar=>Ff (sy m) U aa af ai ar
def Fg(x:ae.D×I.D×Unit):Option (Int×Unit):=Fe (sy aP) x.1 x.2.1
abbrev SS:Type:=aL.D×aK.D×Unit
def Lt(a1:aK.D):Option (SS) :=(eO (a1.2.2.1.2.2.2.1,0,1,())).bind fun v1 =>cond (!v1.1) ((e4 (22,())).bind fun v2 =>some (v2.1,a1,())) ((mN (a1,a1.2.2.1.2.2.2.1==0,())).bind fun v3 =>cond (v3.2.1 != 0) ((e4 (v3.2.1,())).bind fun v4 =>some (v4.1,v3.2.2.1,())) ((aM v3.2.2.1.1.2.1.length v3.1).bind fun v5 =>(aM v3.2.2.1.1.2.1.length v3.1).bind fun v6 =>(aM v3.2.2.1.1.2.1.length v3.1).bind fun bu =>(aM v3.2.2.1.1.2.1.length v3.1).bind fun dd =>(aM v3.2.2.1.1.2.1.length v3.1).bind fun v9 =>(aM v3.2.2.1.1.2.1.length v3.1).bind fun v10 =>(Fg (v3.2.2.1.1,J I v3.2.2.1.1.2.1 v9,())).bind fun v11 =>(qT ([(J I v3.2.2.1.1.2.1 v5).2.1,(J I v3.2.2.1.1.2.1 v6).2.2.1,(J I v3.2.2.1.1.2.1 bu).2.2.2.1,(J I v3.2.2.1.1.2.1 dd).2.2.2.2.1,v11.1,(((J I v3.2.2.1.1.2.1 v10).2.2.2.2.2.1).length:Int)],())).bind fun v12 =>some ((0,v12.1,()),v3.2.2.1,())))
def zX(x:aK.D×Unit):Option (SS):=Lt x.1
abbrev Fh:Type:=Int→aK.D→Option (Int×aK.D×Unit)
def Fi(eo:Fh)(a1:aK.D):Option (Int×aK.D×Unit) :=(eO (a1.2.2.1.2.2.2.1,0,2047,())).bind fun v1 =>cond (!v1.1) (some (22,a1,())) ((mN (a1,true,())).bind fun v2 =>cond (v2.2.1 != 0) (some (v2.2.1,v2.2.2.1,())) (cond (v2.2.2.1.2.1.1 != 0) ((aM v2.2.2.1.1.2.1.length v2.1).bind fun v3 =>cond (v2.2.2.1.2.1.1 !=(J I v2.2.2.1.1.2.1 v3).2.2.2.1) (some (1,v2.2.2.1,())) (eo v2.1 v2.2.2.1)) (eo v2.1 v2.2.2.1)))
def SU(aa:aK.D)(bu:List I.D):Option (Int×aK.D×Unit) :=some (0,((aa.1.1,bu,()),aa.2.1,aa.2.2.1,()),())
def Lu(aa:aK.D)(U:Int)(v2:List I.D):Option (Int×aK.D×Unit) :=cond (aa.2.1.1 != 0) ((aM v2.length U).bind fun v3 =>(u_ (aa.2.1,(J I v2 v3).2.2.2.2.1,())).bind fun v4 =>cond (!v4.1) ((aM v2.length U).bind fun v5 =>(aM v2.length U).bind fun v6 =>SU aa (v2.set v6 ((J I v2 v6).1,(J I v2 v6).2.1,cR .andNot .i64 ((J I v2 v5).2.2.1) 1024,(J I v2 v6).2.2.2.1,(J I v2 v6).2.2.2.2.1,(J I v2 v6).2.2.2.2.2.1,(J I v2 v6).2.2.2.2.2.2.1,(J I v2 v6).2.2.2.2.2.2.2.1,(J I v2 v6).2.2.2.2.2.2.2.2.1,()))) (some (0,((aa.1.1,v2,()),aa.2.1,aa.2.2.1,()),()))) (some (0,((aa.1.1,v2,()),aa.2.1,aa.2.2.1,()),()))
def Lv(eo:Fh)(U:Int)(aa:aK.D):Option (Int×aK.D×Unit) :=(aM aa.1.2.1.length U).bind fun v1 =>Lu aa U (aa.1.2.1.set v1 ((J I aa.1.2.1 v1).1,(J I aa.1.2.1 v1).2.1,aa.2.2.1.2.2.2.1,(J I aa.1.2.1 v1).2.2.2.1,(J I aa.1.2.1 v1).2.2.2.2.1,(J I aa.1.2.1 v1).2.2.2.2.2.1,(J I aa.1.2.1 v1).2.2.2.2.2.2.1,(J I aa.1.2.1 v1).2.2.2.2.2.2.2.1,(J I aa.1.2.1 v1).2.2.2.2.2.2.2.2.1,()))
def qV:Nat→Fh | 0,_,_=>none | m+1,U,aa=>Lv (qV m) U aa
def Fj(x:aK.D×Unit):Option (Int×aK.D×Unit):=Fi (qV aP) x.1
abbrev Fk:Type:=Int→aK.D→Option (Int×aK.D×Unit)
def Fl(eo:Fk)(a1:aK.D):Option (Int×aK.D×Unit) :=(eO (a1.2.2.1.2.2.2.1,0,1000,())).bind fun v1 =>cond (!v1.1) (some (22,a1,())) ((eO (a1.2.2.1.2.2.2.2.1,0,1000,())).bind fun v2 =>cond (!v2.1) (some (22,a1,())) ((mN (a1,true,())).bind fun v3 =>cond (v3.2.1 != 0) (some (v3.2.1,v3.2.2.1,())) (cond (v3.2.2.1.2.1.1 != 0) ((aM v3.2.2.1.1.2.1.length v3.1).bind fun v4 =>cond (v3.2.2.1.2.1.1 !=(J I v3.2.2.1.1.2.1 v4).2.2.2.1) (some (1,v3.2.2.1,())) ((aM v3.2.2.1.1.2.1.length v3.1).bind fun v5 =>cond (v3.2.2.1.2.2.1.2.2.2.1 !=(J I v3.2.2.1.1.2.1 v5).2.2.2.1) (some (1,v3.2.2.1,())) ((u_ (v3.2.2.1.2.1,v3.2.2.1.2.2.1.2.2.2.2.1,())).bind fun v6 =>cond (!v6.1) (some (1,v3.2.2.1,())) (eo v3.1 v3.2.2.1)))) (eo v3.1 v3.2.2.1))))
def SV(aa:aK.D)(v4:List I.D):Option (Int×aK.D×Unit) :=some (0,((aa.1.1,v4,()),aa.2.1,aa.2.2.1,()),())
def Lw(U:Int)(aa:aK.D)(v2:List I.D):Option (Int×aK.D×Unit) :=(aM v2.length U).bind fun v3 =>SV aa (v2.set v3 ((J I v2 v3).1,(J I v2 v3).2.1,(J I v2 v3).2.2.1,(J I v2 v3).2.2.2.1,aa.2.2.1.2.2.2.2.1,(J I v2 v3).2.2.2.2.2.1,(J I v2 v3).2.2.2.2.2.2.1,(J I v2 v3).2.2.2.2.2.2.2.1,(J I v2 v3).2.2.2.2.2.2.2.2.1,()))
def Lx(eo:Fk)(U:Int)(aa:aK.D):Option (Int×aK.D×Unit) :=(aM aa.1.2.1.length U).bind fun v1 =>Lw U aa (aa.1.2.1.set v1 ((J I aa.1.2.1 v1).1,(J I aa.1.2.1 v1).2.1,(J I aa.1.2.1 v1).2.2.1,aa.2.2.1.2.2.2.1,(J I aa.1.2.1 v1).2.2.2.2.1,(J I aa.1.2.1 v1).2.2.2.2.2.1,(J I aa.1.2.1 v1).2.2.2.2.2.2.1,(J I aa.1.2.1 v1).2.2.2.2.2.2.2.1,(J I aa.1.2.1 v1).2.2.2.2.2.2.2.2.1,()))
def qW:Nat→Fk | 0,_,_=>none | m+1,U,aa=>Lx (qW m) U aa
def Fm(x:aK.D×Unit):Option (Int×aK.D×Unit):=Fl (qW aP) x.1
def Ly(a1:aK.D):Option (Int×aK.D×Unit) :=(eO (a1.2.2.1.2.2.2.1,0,7,())).bind fun v1 =>cond (!v1.1) (some (22,a1,())) ((mN (a1,true,())).bind fun v2 =>cond (v2.2.1 != 0) (some (v2.2.1,v2.2.2.1,())) ((aM v2.2.2.1.1.2.1.length v2.1).bind fun v3 =>(pP (v2.2.2.1.2.1,J I v2.2.2.1.1.2.1 v3,v2.2.2.1.2.2.1.2.2.2.1,())).bind fun v4 =>cond (!v4.1) (some (13,v2.2.2.1,())) (some (0,v2.2.2.1,()))))
def Fo(x:aK.D×Unit):Option (Int×aK.D×Unit):=Ly x.1
def LA(v3:Int×Int×aK.D×Unit)(dd:List I.D):Option (Int×aK.D×Unit) :=(nM (((v3.2.2.1.1.1,dd,()),v3.2.2.1.2.1,v3.2.2.1.2.2.1,()),())).bind fun v9 =>some (v9.1,((v3.2.2.1.1.1,dd,()),v3.2.2.1.2.1,v3.2.2.1.2.2.1,()),())
def Fp(v3:Int×Int×aK.D×Unit)(v6:List I.D):Option (Int×aK.D×Unit) :=(aM v6.length v3.1).bind fun bu =>LA v3 (v6.set bu ((J I v6 bu).1,(J I v6 bu).2.1,(J I v6 bu).2.2.1,(J I v6 bu).2.2.2.1,(J I v6 bu).2.2.2.2.1,(J I v6 bu).2.2.2.2.2.1,(J I v6 bu).2.2.2.2.2.2.1,(J I v6 bu).2.2.2.2.2.2.2.1,v3.2.2.1.2.2.1.2.2.2.2.1,()))
def LB(a1:aK.D):Option (Int×aK.D×Unit) :=(eO (a1.2.2.1.2.2.2.1,0,400,())).bind fun v1 =>cond (!v1.1) (some (22,a1,())) ((eO (a1.2.2.1.2.2.2.2.1,0,24,())).bind fun v2 =>cond (!v2.1) (some (22,a1,())) (cond (a1.2.1.1 != 0) (some (1,a1,())) ((mN (a1,true,())).bind fun v3 =>cond (v3.2.1 != 0) (some (v3.2.1,v3.2.2.1,())) ((aM v3.2.2.1.1.2.1.length v3.1).bind fun v4 =>cond ((J I v3.2.2.1.1.2.1 v4).2.1 != 2) (some (20,v3.2.2.1,())) ((aM v3.2.2.1.1.2.1.length v3.1).bind fun v5 =>Fp v3 (v3.2.2.1.1.2.1.set v5 ((J I v3.2.2.1.1.2.1 v5).1,(J I v3.2.2.1.1.2.1 v5).2.1,(J I v3.2.2.1.1.2.1 v5).2.2.1,(J I v3.2.2.1.1.2.1 v5).2.2.2.1,(J I v3.2.2.1.1.2.1 v5).2.2.2.2.1,(J I v3.2.2.1.1.2.1 v5).2.2.2.2.2.1,(J I v3.2.2.1.1.2.1 v5).2.2.2.2.2.2.1,v3.2.2.1.2.2.1.2.2.2.1,(J I v3.2.2.1.1.2.1 v5).2.2.2.2.2.2.2.2.1,())))))))
def Fq(x:aK.D×Unit):Option (Int×aK.D×Unit):=LB x.1
abbrev kd:Type:=aL.D×aK.D×Unit
structure nN where
 bt:aK.D→aL.D→Option (kd)
 dh:Int→aK.D→aL.D→Option (kd)
 eo:aK.D→aL.D→Option (kd)
 gG:Int→aK.D→aL.D→Option (kd)
 gL:aK.D→aL.D→Option (kd)
 oO:Int→aK.D→aL.D→Option (kd)
 pL:Int→aK.D→aL.D→Option (kd)
def Fs(k:nN)(a1:aK.D):Option (kd) :=cond (a1.2.2.1.1==1) (cond (a1.2.2.1.1==1) (k.bt a1 (0,([]:List UInt8),())) (k.dh a1.2.2.1.1 a1 (0,([]:List UInt8),()))) (cond (a1.2.2.1.1==3) (cond (a1.2.2.1.1==3) (k.bt a1 (0,([]:List UInt8),())) (k.dh a1.2.2.1.1 a1 (0,([]:List UInt8),()))) (cond (a1.2.2.1.1==10) (k.bt a1 (0,([]:List UInt8),())) (k.dh a1.2.2.1.1 a1 (0,([]:List UInt8),()))))
def abV(k:nN)(U:aK.D)(aa:aL.D):Option (kd) :=(zR (U,())).bind fun v1 =>(e4 (v1.1,())).bind fun v2 =>some (v2.1,v1.2.1,())
def abW(k:nN)(U:Int)(aa:aK.D)(af:aL.D):Option (kd) :=cond (U==2) (cond (U==2) (k.eo aa af) (k.gG U aa af)) (cond (U==8) (k.eo aa af) (k.gG U aa af))
def abX(k:nN)(U:aK.D)(aa:aL.D):Option (kd) :=(EZ (U,())).bind fun v1 =>(e4 (v1.1,())).bind fun v2 =>some (v2.1,v1.2.1,())
def abY(k:nN)(U:Int)(aa:aK.D)(af:aL.D):Option (kd) :=cond (U==9) ((E0 (aa,())).bind fun v1 =>(e4 (v1.1,())).bind fun v2 =>some (v2.1,v1.2.1,())) (cond (U==12) ((E3 (aa,())).bind fun v3 =>(e4 (v3.1,())).bind fun v4 =>some (v4.1,v3.2.1,())) (cond (U==4) ((E4 (aa,())).bind fun v5 =>some (v5.1,v5.2.1,())) (cond (U==5) (cond (U==5) (k.gL aa af) (k.oO U aa af)) (cond (U==6) (cond (U==6) (k.gL aa af) (k.oO U aa af)) (cond (U==7) (k.gL aa af) (k.oO U aa af))))))
def abZ(k:nN)(U:aK.D)(aa:aL.D):Option (kd) :=(E7 (U,())).bind fun v1 =>(e4 (v1.1,())).bind fun v2 =>some (v2.1,v1.2.1,())
def ab0(k:nN)(U:Int)(aa:aK.D)(af:aL.D):Option (kd) :=cond (U==11) ((E8 (aa,())).bind fun v1 =>some (v1.1,v1.2.1,())) (cond (U==13) (cond (U==13) ((zW (aa,())).bind fun v2 =>some (v2.1,v2.2.1,())) (k.pL U aa af)) (cond (U==20) ((zW (aa,())).bind fun v3 =>some (v3.1,v3.2.1,())) (k.pL U aa af)))
def ab1(k:nN)(U:Int)(aa:aK.D)(af:aL.D):Option (kd) :=cond (U==14) ((zX (aa,())).bind fun v1 =>some (v1.1,v1.2.1,())) (cond (U==15) ((Fj (aa,())).bind fun v2 =>(e4 (v2.1,())).bind fun v3 =>some (v3.1,v2.2.1,())) (cond (U==16) ((Fm (aa,())).bind fun v4 =>(e4 (v4.1,())).bind fun v5 =>some (v5.1,v4.2.1,())) (cond (U==17) ((Fo (aa,())).bind fun v6 =>(e4 (v6.1,())).bind fun bu =>some (bu.1,v6.2.1,())) (cond (U==18) ((sk (aa.1,())).bind fun dd =>(qT ([(aa.1.2.1.length:Int),dd.1],())).bind fun v9 =>some ((0,v9.1,()),aa,())) ((Fq (aa,())).bind fun v10 =>(e4 (v10.1,())).bind fun v11 =>some (v11.1,v10.2.1,()))))))
def SW(k:nN):nN:=⟨abV k,abW k,abX k,abY k,abZ k,ab0 k,ab1 k⟩
def LC:Nat→nN:=eN SW ⟨fun _ _=>none,fun _ _ _=>none,fun _ _=>none,fun _ _ _=>none,fun _ _=>none,fun _ _ _=>none,fun _ _ _=>none⟩
def Ft(x:aK.D×Unit):Option (kd):=Fs (LC aP) x.1
abbrev SX:Type:=ae.D×aL.D×Unit
def zY(a1:ae.D)(a2:aH.D)(a3:aI.D):Option (SX) :=(xn (a2,())).bind fun v1 =>cond (!v1.1) ((sm (a1,())).bind fun v2 =>(e4 (22,())).bind fun v3 =>some (v2.1,v3.1,())) ((KO (a3,())).bind fun v4 =>cond (!v4.1) ((sm (a1,())).bind fun v5 =>(e4 (22,())).bind fun v6 =>some (v5.1,v6.1,())) (cond (decide (a3.1>20)) ((sm (a1,())).bind fun bu =>(e4 (22,())).bind fun dd =>some (bu.1,dd.1,())) ((sm (a1,())).bind fun v9 =>(Ft ((v9.1,a2,a3,()),())).bind fun v10 =>cond (v10.1.1 != 0) ((sm (a1,())).bind fun v11 =>some (v11.1,v10.1,())) (some (v10.2.1.1,v10.1,())))))
def LD(x:ae.D×aH.D×aI.D×Unit):Option (SX):=zY x.1 x.2.1 x.2.2.1
abbrev SY:Type:=ae.D×aL.D×Unit
def LF(a1:ae.D)(a2:aH.D)(a3:aI.D):Option (SY) :=(xm (a1,())).bind fun v1 =>cond (!v1.1) ((e4 (22,())).bind fun v2 =>some ((0,([]:List I.D),()),v2.1,())) ((LD (a1,a2,a3,())).bind fun v3 =>some (v3.1,v3.2.1,()))
def jg(x:ae.D×aH.D×aI.D×Unit):Option (SY):=LF x.1 x.2.1 x.2.2.1
def LG(a1:ae.D)(a2:Int):Option (Int×Unit) :=(fA (a1,a2,())).bind fun v1 =>cond (!List.isEmpty v1.1) ((xm (a1,())).bind fun v2 =>cond v2.1 (cond (!List.isEmpty v1.1) ((Fg (a1,J I v1.1 0,())).bind fun v3 =>some (v3.1,())) (none)) (some (0,()))) (some (0,()))
def ab2(x:ae.D×Int×Unit):Option (Int×Unit):=LG x.1 x.2.1
structure vh where
 ba:Int→ae.D→ae.D→Option (Bool×Unit)
 c3:Int→Int→ae.D→ae.D→I.D→I.D→Option (Bool×Unit)
def Fu(k:vh)(a1:ae.D)(a2:ae.D):Option (Bool×Unit) :=cond (a1.1 != a2.1) (some (false,())) (cond ((a1.2.1.length:Int) !=(a2.2.1.length:Int)) (some (false,())) (k.ba 0 a1 a2))
def zZ(k:vh)(U:Int)(aa:ae.D)(af:ae.D):Option (Bool×Unit) :=cond (decide (U<(aa.2.1.length:Int))) ((aM aa.2.1.length U).bind fun v1 =>(aM af.2.1.length U).bind fun v2 =>cond ((J I aa.2.1 v1).1 !=(J I af.2.1 v2).1) (some (false,())) (cond ((J I aa.2.1 v1).2.1 !=(J I af.2.1 v2).2.1) (some (false,())) (cond ((J I aa.2.1 v1).2.2.1 !=(J I af.2.1 v2).2.2.1) (some (false,())) (cond ((J I aa.2.1 v1).2.2.2.1 !=(J I af.2.1 v2).2.2.2.1) (some (false,())) (cond ((J I aa.2.1 v1).2.2.2.2.1 !=(J I af.2.1 v2).2.2.2.2.1) (some (false,())) (cond (!(bn ((J I aa.2.1 v1).2.2.2.2.2.1) ((J I af.2.1 v2).2.2.2.2.2.1))) (some (false,())) (cond ((J I aa.2.1 v1).2.2.2.2.2.2.2.1 !=(J I af.2.1 v2).2.2.2.2.2.2.2.1) (some (false,())) (cond ((J I aa.2.1 v1).2.2.2.2.2.2.2.2.1 !=(J I af.2.1 v2).2.2.2.2.2.2.2.2.1) (some (false,())) (cond ((((J I aa.2.1 v1).2.2.2.2.2.2.1).length:Int) !=(((J I af.2.1 v2).2.2.2.2.2.2.1).length:Int)) (some (false,())) (k.c3 U 0 aa af (J I aa.2.1 v1) (J I af.2.1 v2))))))))))) (some (true,()))
def ab3(k:vh)(U:Int)(aa:Int)(af:ae.D)(ai:ae.D)(ar:I.D)(aE:I.D):Option (Bool×Unit) :=cond (decide (aa<(ar.2.2.2.2.2.2.1.length:Int))) ((aM ar.2.2.2.2.2.2.1.length aa).bind fun v1 =>(aM aE.2.2.2.2.2.2.1.length aa).bind fun v2 =>cond (!(bn ((J aw ar.2.2.2.2.2.2.1 v1).1) ((J aw aE.2.2.2.2.2.2.1 v2).1)&&(((J aw ar.2.2.2.2.2.2.1 v1).2.1 ==(J aw aE.2.2.2.2.2.2.1 v2).2.1)&&true))) (some (false,())) (k.c3 U (aG (aa+1)) af ai ar aE)) (k.ba (aG (U+1)) af ai)
def SZ(k:vh):vh:=⟨zZ k,ab3 k⟩
def pR:Nat→vh:=eN SZ ⟨fun _ _ _=>none,fun _ _ _ _ _ _=>none⟩
def Fv(x:ae.D×ae.D×Unit):Option (Bool×Unit):=Fu (pR aP) x.1 x.2.1
def LH(a1:ae.D)(a2:Int):Option (Int×Int×Unit) :=(xm (a1,())).bind fun v1 =>cond (!v1.1) (some (0,0,())) ((ve (a1,a2,())).bind fun v2 =>cond (!v2.1) (some (0,0,())) ((xl (a1,a2,())).bind fun v3 =>some (v3.1,v3.2.1,())))
def ab4(x:ae.D×Int×Unit):Option (Int×Int×Unit):=LH x.1 x.2.1
def LI(a1:ae.D)(a2:Int):Option (Int×Unit) :=(xm (a1,())).bind fun v1 =>cond (!v1.1) (some (0,())) ((ve (a1,a2,())).bind fun v2 =>cond (!v2.1) (some (0,())) ((EA (a1,a2,())).bind fun v3 =>some (v3.1,())))
def ab5(x:ae.D×Int×Unit):Option (Int×Unit):=LI x.1 x.2.1
abbrev S0:Type:=ae.D×aL.D×Unit
def z1(a1:ae.D)(a2:aH.D)(a3:aI.D):Option (S0) :=(DU (a1,())).bind fun v1 =>cond (!v1.1) (some ((0,([]:List I.D),()),(22,([]:List UInt8),()),())) ((uh (a2,())).bind fun v2 =>cond (!v2.1) ((lZ (a1,())).bind fun v3 =>some (v3.1,(22,([]:List UInt8),()),())) (both ((lZ (a1,())).bind fun v4 =>both ((kH (v4.1,a2,a3,())).bind fun v5 =>dup (some (v5.1,v5.2.1,()))) (dup (dup ((kH (v4.1,a2,a3,())).bind fun v5 =>some (v5.1,v5.2.1,()))))) (dup (both ((lZ (a1,())).bind fun v4 =>dup ((kH (v4.1,a2,a3,())).bind fun v5 =>some (v5.1,v5.2.1,()))) ((lZ (a1,())).bind fun v4 =>(kH (v4.1,a2,a3,())).bind fun v5 =>some (v5.1,v5.2.1,()))))))
def xu(x:ae.D×aH.D×aI.D×Unit):Option (S0):=z1 x.1 x.2.1 x.2.2.1
def ab6  : Option (aH.D×Unit) :=some ((0,0,([]:List Int),()),())
def oU(x:Unit):Option (aH.D×Unit):=ab6
def LJ(a1:List Int)(a2:Int):Option (Int×Unit) :=cond (decide (a2<(a1.length:Int))) ((aM a1.length a2).bind fun v1 =>some (aG (J (ad.int .u8) a1 v1),())) (some (Int.tmod (aG (aG (a2*37)+aG ((a1.length:Int)*11))) 256,()))
def LK(x:(List Int)×Int×Unit):Option (Int×Unit):=LJ x.1 x.2.1
structure sA where
 iH:Int→ae.D→aH.D→aI.D→ae.D→aL.D→aL.D→Option (Bool×Unit)
 r4:ae.D→aH.D→aI.D→ae.D→aL.D→aL.D→ae.D→aL.D→Option (Bool×Unit)
 gx:ae.D→aH.D→ae.D→aL.D→aL.D→ae.D→aL.D→aL.D→Option (Bool×Unit)
def Fw(k:sA)(a1:List Int):Option (Bool×Unit) :=(JC (a1,())).bind fun v1 =>cond v1.1 (some (true,())) ((Kv (a1,())).bind fun v2 =>(DU (v2.1,())).bind fun v3 =>cond (!v3.1) (some (true,())) ((uh (v2.2.1,())).bind fun v4 =>cond (!v4.1) (some (true,())) ((LK (a1,0,())).bind fun v5 =>(jg (v2.1,v2.2.1,(aG (1+aG (2*(Int.tmod v5.1 2))),v2.2.2.1.2.1,([]:List UInt8),v2.2.2.1.2.2.2.1,v2.2.2.1.2.2.2.2.1,([]:List UInt8),()),())).bind fun v6 =>(xu (v2.1,v2.2.1,(aG (1+aG (2*(Int.tmod v5.1 2))),v2.2.2.1.2.1,([]:List UInt8),v2.2.2.1.2.2.2.1,v2.2.2.1.2.2.2.2.1,([]:List UInt8),()),())).bind fun bu =>cond (!((v6.2.1.1==bu.2.1.1)&&(bn v6.2.1.2.1 bu.2.1.2.1&&true))) (some (false,())) (cond (v6.2.1.1 != 0) (some (true,())) ((jg (v6.1,v2.2.1,(aG (1+aG (2*(Int.tmod v5.1 2))),v2.2.2.1.2.1,([]:List UInt8),v2.2.2.1.2.2.2.1,v2.2.2.1.2.2.2.2.1,([]:List UInt8),()),())).bind fun dd =>both ((oU ()).bind fun v9 =>both ((jg (v6.1,v9.1,(14,v2.2.2.1.2.1,([]:List UInt8),1,0,([]:List UInt8),()),())).bind fun v10 =>dup (cond (aG (1+aG (2*(Int.tmod v5.1 2)))==1) (k.iH 2 v2.1 v2.2.1 (aG (1+aG (2*(Int.tmod v5.1 2))),v2.2.2.1.2.1,([]:List UInt8),v2.2.2.1.2.2.2.1,v2.2.2.1.2.2.2.2.1,([]:List UInt8),()) v6.1 dd.2.1 v10.2.1) (k.iH 8 v2.1 v2.2.1 (aG (1+aG (2*(Int.tmod v5.1 2))),v2.2.2.1.2.1,([]:List UInt8),v2.2.2.1.2.2.2.1,v2.2.2.1.2.2.2.2.1,([]:List UInt8),()) v6.1 dd.2.1 v10.2.1))) (dup (dup ((jg (v6.1,v9.1,(14,v2.2.2.1.2.1,([]:List UInt8),1,0,([]:List UInt8),()),())).bind fun v10 =>cond (aG (1+aG (2*(Int.tmod v5.1 2)))==1) (k.iH 2 v2.1 v2.2.1 (aG (1+aG (2*(Int.tmod v5.1 2))),v2.2.2.1.2.1,([]:List UInt8),v2.2.2.1.2.2.2.1,v2.2.2.1.2.2.2.2.1,([]:List UInt8),()) v6.1 dd.2.1 v10.2.1) (k.iH 8 v2.1 v2.2.1 (aG (1+aG (2*(Int.tmod v5.1 2))),v2.2.2.1.2.1,([]:List UInt8),v2.2.2.1.2.2.2.1,v2.2.2.1.2.2.2.2.1,([]:List UInt8),()) v6.1 dd.2.1 v10.2.1))))) (dup (both ((oU ()).bind fun v9 =>dup ((jg (v6.1,v9.1,(14,v2.2.2.1.2.1,([]:List UInt8),1,0,([]:List UInt8),()),())).bind fun v10 =>cond (aG (1+aG (2*(Int.tmod v5.1 2)))==1) (k.iH 2 v2.1 v2.2.1 (aG (1+aG (2*(Int.tmod v5.1 2))),v2.2.2.1.2.1,([]:List UInt8),v2.2.2.1.2.2.2.1,v2.2.2.1.2.2.2.2.1,([]:List UInt8),()) v6.1 dd.2.1 v10.2.1) (k.iH 8 v2.1 v2.2.1 (aG (1+aG (2*(Int.tmod v5.1 2))),v2.2.2.1.2.1,([]:List UInt8),v2.2.2.1.2.2.2.1,v2.2.2.1.2.2.2.2.1,([]:List UInt8),()) v6.1 dd.2.1 v10.2.1))) ((oU ()).bind fun v9 =>(jg (v6.1,v9.1,(14,v2.2.2.1.2.1,([]:List UInt8),1,0,([]:List UInt8),()),())).bind fun v10 =>cond (aG (1+aG (2*(Int.tmod v5.1 2)))==1) (k.iH 2 v2.1 v2.2.1 (aG (1+aG (2*(Int.tmod v5.1 2))),v2.2.2.1.2.1,([]:List UInt8),v2.2.2.1.2.2.2.1,v2.2.2.1.2.2.2.2.1,([]:List UInt8),()) v6.1 dd.2.1 v10.2.1) (k.iH 8 v2.1 v2.2.1 (aG (1+aG (2*(Int.tmod v5.1 2))),v2.2.2.1.2.1,([]:List UInt8),v2.2.2.1.2.2.2.1,v2.2.2.1.2.2.2.2.1,([]:List UInt8),()) v6.1 dd.2.1 v10.2.1)))))))))
def LL(k:sA)(U:Int)(aa:ae.D)(af:aH.D)(ai:aI.D)(ar:ae.D)(aE:aL.D)(bb:aL.D):Option (Bool×Unit) :=both ((oU ()).bind fun v1 =>both ((jg (ar,v1.1,(U,ai.2.1,([]:List UInt8),0,0,([]:List UInt8),()),())).bind fun v2 =>dup (k.r4 aa af ai ar aE bb v2.1 v2.2.1)) (dup (dup ((jg (ar,v1.1,(U,ai.2.1,([]:List UInt8),0,0,([]:List UInt8),()),())).bind fun v2 =>k.r4 aa af ai ar aE bb v2.1 v2.2.1)))) (dup (both ((oU ()).bind fun v1 =>dup ((jg (ar,v1.1,(U,ai.2.1,([]:List UInt8),0,0,([]:List UInt8),()),())).bind fun v2 =>k.r4 aa af ai ar aE bb v2.1 v2.2.1)) ((oU ()).bind fun v1 =>(jg (ar,v1.1,(U,ai.2.1,([]:List UInt8),0,0,([]:List UInt8),()),())).bind fun v2 =>k.r4 aa af ai ar aE bb v2.1 v2.2.1)))
def LN(k:sA)(U:ae.D)(aa:aH.D)(af:aI.D)(ai:ae.D)(ar:aL.D)(aE:aL.D)(bb:ae.D)(bN:aL.D):Option (Bool×Unit) :=both ((oU ()).bind fun v1 =>both ((jg (bb,v1.1,(14,af.2.1,([]:List UInt8),1,0,([]:List UInt8),()),())).bind fun v2 =>dup (k.gx U aa ai ar aE bb bN v2.2.1)) (dup (dup ((jg (bb,v1.1,(14,af.2.1,([]:List UInt8),1,0,([]:List UInt8),()),())).bind fun v2 =>k.gx U aa ai ar aE bb bN v2.2.1)))) (dup (both ((oU ()).bind fun v1 =>dup ((jg (bb,v1.1,(14,af.2.1,([]:List UInt8),1,0,([]:List UInt8),()),())).bind fun v2 =>k.gx U aa ai ar aE bb bN v2.2.1)) ((oU ()).bind fun v1 =>(jg (bb,v1.1,(14,af.2.1,([]:List UInt8),1,0,([]:List UInt8),()),())).bind fun v2 =>k.gx U aa ai ar aE bb bN v2.2.1)))
def LO(k:sA)(U:ae.D)(aa:aH.D)(af:ae.D)(ai:aL.D)(ar:aL.D)(aE:ae.D)(bb:aL.D)(bN:aL.D):Option (Bool×Unit) :=cond ((af.2.1.length:Int)==0) (some (false,())) ((aM af.2.1.length (aG ((af.2.1.length:Int)-1))).bind fun v1 =>cond (ai.1==17) (cond (ar.1==0) (cond ((J I af.2.1 (0+v1)).1==U.1) (cond ((J I af.2.1 (0+v1)).2.2.2.1==aa.1) (cond (bb.1==0) (cond (bN.1==2) ((Fv ((U.1,aE.2.1,()),U,())).bind fun v2 =>some (v2.1,())) (some (false,()))) (some (false,()))) (some (false,()))) (some (false,()))) (some (false,()))) (some (false,())))
def S1(k:sA):sA:=⟨LL k,LN k,LO k⟩
def vi:Nat→sA:=eN S1 ⟨fun _ _ _ _ _ _ _=>none,fun _ _ _ _ _ _ _ _=>none,fun _ _ _ _ _ _ _ _=>none⟩
def S2(x:(List Int)×Unit):Option (Bool×Unit):=Fw (vi aP) x.1
end
end Go.LM.kD
