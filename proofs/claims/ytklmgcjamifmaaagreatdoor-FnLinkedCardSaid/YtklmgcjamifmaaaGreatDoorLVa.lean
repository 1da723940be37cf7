/- The functions that the law reaches, as plain functions. Printed by a program. Conditions: each theorem's own hypotheses. -/
import Derived.Test.YtklmgcjamifmaaaGreatDoorLLmd
import Derived.Test.YtklmgcjamifmaaaGreatDoorLIn
set_option linter.unusedVariables false
set_option linter.unusedSimpArgs false
namespace Go.LM.kA
noncomputable section
@[reducible] def bq:ad:=.st (.cons (.sl (.int .u8)) (.cons (.int .i64) (.cons (.int .i64) .nil)))
@[reducible] def ax:ad:=.st (.cons .str (.cons (.int .i64) .nil))
@[reducible] def I:ad:=.st (.cons (.int .i64) (.cons (.int .i64) (.cons (.int .i64) (.cons (.int .i64) (.cons (.int .i64) (.cons .str (.cons (.sl ax) (.cons (.int .i64) (.cons (.int .i64) .nil)))))))))
@[reducible] def af:ad:=.st (.cons (.int .i64) (.cons (.sl I) .nil))
@[reducible] def aH:ad:=.st (.cons (.int .i64) (.cons .str (.cons .str (.cons (.int .i64) (.cons (.int .i64) (.cons .str .nil))))))
@[reducible] def aI:ad:=.st (.cons (.int .i64) (.cons (.int .i64) (.cons (.sl (.int .i64)) .nil)))
@[reducible] def aV:ad:=.st (.cons (.int .i64) (.cons .str (.cons (.int .i64) (.cons (.int .i64) .nil))))
@[reducible] def aG:ad:=.st (.cons (.int .i64) (.cons .str .nil))
@[reducible] def aL:ad:=.st (.cons af (.cons aI (.cons aH .nil)))
def abI(a1:List Int):Option (Bool×Unit) :=some (decide ((a1.length:Int)>1048576),())
def JQ(x:(List Int)×Unit):Option (Bool×Unit):=abI x.1
abbrev CN:Type:=(List Int)→Int→Int→Option (bq.D×Unit)
def RT(k3:CN)(a1:List Int):Option (bq.D×Unit) :=k3 a1 (aK (10101 +(a1.length:Int))) 0
def wZ(k3:CN)(U:List Int)(aa:Int)(ae:Int):Option (bq.D×Unit) :=cond (decide (ae<(U.length:Int))) (cond (decide (ae<4000)) ((aO U.length ae).bind fun v1 =>k3 U (cQ .and .i64 (aK (aK (aK (aa*131)+aK (J (ad.int .u8) U v1))+7)) 1073741823) (aK (ae+1))) (some ((U,0,aa,()),()))) (some ((U,0,aa,()),()))
def w1:Nat→CN | 0,_,_,_=>none | m+1,U,aa,ae=>wZ (w1 m) U aa ae
def JR(x:(List Int)×Unit):Option (bq.D×Unit):=RT (w1 aQ) x.1
abbrev RU:Type:=Int×bq.D×Unit
def JS(a1:bq.D):Option (RU) :=cond (decide (a1.2.1<(a1.1.length:Int))) ((aO a1.1.length a1.2.1).bind fun v1 =>some (cQ .and .i64 (aK (cQ .and .i64 (cQ .xor .i64 (Int.fdiv (aK (aK (a1.2.2.1*6364136223846793005)+1442695040888963407)) (2 ^ min (Int.toNat 33) 64)) (Int.fdiv (aK (aK (a1.2.2.1*6364136223846793005)+1442695040888963407)) (2 ^ min (Int.toNat 45) 64))) 255+aK (J (ad.int .u8) a1.1 v1))) 255,(a1.1,aK (a1.2.1+1),aK (aK (a1.2.2.1*6364136223846793005)+1442695040888963407),()),())) (some (cQ .and .i64 (cQ .xor .i64 (Int.fdiv (aK (aK (a1.2.2.1*6364136223846793005)+1442695040888963407)) (2 ^ min (Int.toNat 33) 64)) (Int.fdiv (aK (aK (a1.2.2.1*6364136223846793005)+1442695040888963407)) (2 ^ min (Int.toNat 45) 64))) 255,(a1.1,a1.2.1,aK (aK (a1.2.2.1*6364136223846793005)+1442695040888963407),()),()))
def qG(x:bq.D×Unit):Option (RU):=JS x.1
abbrev RV:Type:=Int×bq.D×Unit
def JT(a1:bq.D)(a2:Int):Option (RV) :=cond (decide (a2≤0)) (some (0,a1,())) (cond (decide (a2≤256)) ((qG (a1,())).bind fun v1 =>cond (a2 != 0) (some (Int.tmod v1.1 a2,v1.2.1,())) (none)) ((qG (a1,())).bind fun v2 =>(qG (v2.2.1,())).bind fun v3 =>(qG (v3.2.1,())).bind fun v4 =>(qG (v4.2.1,())).bind fun v5 =>cond (a2 != 0) (some (Int.tmod (aK (aK (aK (aK (v2.1*16777216)+aK (v3.1*65536))+aK (v4.1*256))+v5.1)) a2,v5.2.1,())) (none)))
def gm(x:bq.D×Int×Unit):Option (RV):=JT x.1 x.2.1
abbrev RW:Type:=Bool×bq.D×Unit
def abJ(a1:bq.D)(a2:Int):Option (RW) :=(gm (a1,a2,())).bind fun v1 =>some (v1.1==0,v1.2.1,())
def r6(x:bq.D×Int×Unit):Option (RW):=abJ x.1 x.2.1
def abK  : Option (af.D×Unit) :=some ((2,[(1,2,493,0,0,([]:List UInt8),([]:List ax.D),0,0,())],()),())
def y6(x:Unit):Option (af.D×Unit):=abK
def abL  : Option (af.D×Unit) :=some ((2,[(1,2,493,0,0,([]:List UInt8),([]:List ax.D),0,0,())],()),())
def JU(x:Unit):Option (af.D×Unit):=abL
abbrev w2:Type:=Int→af.D→af.D→af.D→Option (af.D×Unit)
def y7(k3:w2)(a1:af.D):Option (af.D×Unit) :=k3 0 a1 (0,([]:List I.D),()) (a1.1,([]:List I.D),())
def RX(k3:w2)(U:Int)(aa:af.D)(ae:af.D)(ai:af.D)(v3:List I.D):Option (af.D×Unit) :=k3 (aK (U+1)) aa ae (ai.1,v3,())
def RY(k3:w2)(ai:af.D)(aa:af.D)(v1:Nat)(U:Int)(ae:af.D)(v2:List ax.D):Option (af.D×Unit) :=cond (room (ai.2.1.length+[((J I aa.2.1 v1).1,(J I aa.2.1 v1).2.1,(J I aa.2.1 v1).2.2.1,(J I aa.2.1 v1).2.2.2.1,(J I aa.2.1 v1).2.2.2.2.1,(J I aa.2.1 v1).2.2.2.2.2.1,v2,(J I aa.2.1 v1).2.2.2.2.2.2.2.1,(J I aa.2.1 v1).2.2.2.2.2.2.2.2.1,())].length)) (RX k3 U aa ae ai (ai.2.1++[((J I aa.2.1 v1).1,(J I aa.2.1 v1).2.1,(J I aa.2.1 v1).2.2.1,(J I aa.2.1 v1).2.2.2.1,(J I aa.2.1 v1).2.2.2.2.1,(J I aa.2.1 v1).2.2.2.2.2.1,v2,(J I aa.2.1 v1).2.2.2.2.2.2.2.1,(J I aa.2.1 v1).2.2.2.2.2.2.2.2.1,())])) (none)
def y8(k3:w2)(U:Int)(aa:af.D)(ae:af.D)(ai:af.D):Option (af.D×Unit) :=cond (decide (U<(aa.2.1.length:Int))) ((aO aa.2.1.length U).bind fun v1 =>cond (room (([]:List ax.D).length +((J I aa.2.1 v1).2.2.2.2.2.2.1).length)) (RY k3 ai aa v1 U ae (([]:List ax.D)++((J I aa.2.1 v1).2.2.2.2.2.2.1))) (none)) (some (ai,()))
def pJ:Nat→w2 | 0,_,_,_,_=>none | m+1,U,aa,ae,ai=>y8 (pJ m) U aa ae ai
def lZ(x:af.D×Unit):Option (af.D×Unit):=y7 (pJ aQ) x.1
abbrev w3:Type:=Int→af.D→af.D→af.D→Option (af.D×Unit)
def RZ(k3:w3)(a1:af.D):Option (af.D×Unit) :=k3 0 a1 (0,([]:List I.D),()) (a1.1,([]:List I.D),())
def abM(k3:w3)(U:Int)(aa:af.D)(ae:af.D)(ai:af.D)(v3:List I.D):Option (af.D×Unit) :=k3 (aK (U+1)) aa ae (ai.1,v3,())
def abN(k3:w3)(ai:af.D)(aa:af.D)(v1:Nat)(U:Int)(ae:af.D)(v2:List ax.D):Option (af.D×Unit) :=cond (room (ai.2.1.length+[((J I aa.2.1 v1).1,(J I aa.2.1 v1).2.1,(J I aa.2.1 v1).2.2.1,(J I aa.2.1 v1).2.2.2.1,(J I aa.2.1 v1).2.2.2.2.1,(J I aa.2.1 v1).2.2.2.2.2.1,v2,(J I aa.2.1 v1).2.2.2.2.2.2.2.1,(J I aa.2.1 v1).2.2.2.2.2.2.2.2.1,())].length)) (abM k3 U aa ae ai (ai.2.1++[((J I aa.2.1 v1).1,(J I aa.2.1 v1).2.1,(J I aa.2.1 v1).2.2.1,(J I aa.2.1 v1).2.2.2.1,(J I aa.2.1 v1).2.2.2.2.1,(J I aa.2.1 v1).2.2.2.2.2.1,v2,(J I aa.2.1 v1).2.2.2.2.2.2.2.1,(J I aa.2.1 v1).2.2.2.2.2.2.2.2.1,())])) (none)
def JV(k3:w3)(U:Int)(aa:af.D)(ae:af.D)(ai:af.D):Option (af.D×Unit) :=cond (decide (U<(aa.2.1.length:Int))) ((aO aa.2.1.length U).bind fun v1 =>cond (room (([]:List ax.D).length +((J I aa.2.1 v1).2.2.2.2.2.2.1).length)) (abN k3 ai aa v1 U ae (([]:List ax.D)++((J I aa.2.1 v1).2.2.2.2.2.2.1))) (none)) (some (ai,()))
def y9:Nat→w3 | 0,_,_,_,_=>none | m+1,U,aa,ae,ai=>JV (y9 m) U aa ae ai
def y_(x:af.D×Unit):Option (af.D×Unit):=RZ (y9 aQ) x.1
def JW(a1:Int)(a2:Int)(a3:Int):Option (Bool×Unit) :=cond (decide (a1≥a2)) (some (decide (a1≤a3),())) (some (false,()))
def eg(x:Int×Int×Int×Unit):Option (Bool×Unit):=JW x.1 x.2.1 x.2.2.1
abbrev CO:Type:=aH.D→Option (Bool×Unit)
def CP(bw:CO)(a1:aH.D):Option (Bool×Unit) :=(eg (a1.1,1,22,())).bind fun v1 =>cond (!v1.1) (some (false,())) (cond (decide ((a1.2.1.length:Int)>60)) (some (false,())) (cond (decide ((a1.2.2.1.length:Int)>60)) (some (false,())) (cond (decide ((a1.2.2.2.2.2.1.length:Int)>64)) (some (false,())) ((eg (a1.2.2.2.1,(-1000000),1000000,())).bind fun v2 =>cond (!v2.1) (some (false,())) ((eg (a1.2.2.2.2.1,(-1000000),1000000,())).bind fun v3 =>cond (!v3.1) (some (false,())) (cond (!(bs a1.2.2.1 ([]:List UInt8))) (cond (a1.1 != 9) (cond (a1.1 != 10) (cond (a1.1 != 12) (some (false,())) (bw a1)) (bw a1)) (bw a1)) (bw a1)))))))
def JX(bw:CO)(U:aH.D):Option (Bool×Unit) :=cond (bs U.2.2.2.2.2.1 ([]:List UInt8)) (some (true,())) (cond (U.1==5) (some (true,())) (some (U.1==6,())))
def y':Nat→CO | 0,_=>none | m+1,U=>JX (y' m) U
def JY(x:aH.D×Unit):Option (Bool×Unit):=CP (y' aQ) x.1
def JZ(a1:Int):Option (Bool×Unit) :=cond (decide (a1≥97)) (cond (decide (a1≤122)) (some (true,())) (cond (decide (a1≥48)) (cond (decide (a1≤57)) (some (true,())) (cond (a1==46) (some (true,())) (cond (a1==95) (some (true,())) (some (a1==45,()))))) (cond (a1==46) (some (true,())) (cond (a1==95) (some (true,())) (some (a1==45,())))))) (cond (decide (a1≥48)) (cond (decide (a1≤57)) (some (true,())) (cond (a1==46) (some (true,())) (cond (a1==95) (some (true,())) (some (a1==45,()))))) (cond (a1==46) (some (true,())) (cond (a1==95) (some (true,())) (some (a1==45,())))))
def za(x:Int×Unit):Option (Bool×Unit):=JZ x.1
abbrev CQ:Type:=(List UInt8)→Int→Option (Bool×Unit)
def CR(bb:CQ)(a1:List UInt8):Option (Bool×Unit) :=(eg ((a1.length:Int),1,60,())).bind fun v1 =>cond (!v1.1) (some (false,())) (bb a1 0)
def CS(bb:CQ)(U:List UInt8)(aa:Int):Option (Bool×Unit) :=cond (decide (aa<(U.length:Int))) ((aO U.length aa).bind fun v1 =>cond (((U.getD v1 0).toNat:Int) != 47) ((aO U.length aa).bind fun v2 =>(za (((U.getD v2 0).toNat:Int),())).bind fun v3 =>cond (!v3.1) (some (false,())) (bb U (aK (aa+1)))) (bb U (aK (aa+1)))) (some (true,()))
def ue:Nat→CQ | 0,_,_=>none | m+1,U,aa=>CS (ue m) U aa
def zb(x:(List UInt8)×Unit):Option (Bool×Unit):=CR (ue aQ) x.1
abbrev CT:Type:=Int→aI.D→Option (Bool×Unit)
def CU(bb:CT)(a1:aI.D):Option (Bool×Unit) :=(eg (a1.1,0,1000,())).bind fun v1 =>cond (!v1.1) (some (false,())) ((eg (a1.2.1,0,1000,())).bind fun v2 =>cond (!v2.1) (some (false,())) (cond (decide ((a1.2.2.1.length:Int)>4)) (some (false,())) (bb 0 a1)))
def CV(bb:CT)(U:Int)(aa:aI.D):Option (Bool×Unit) :=cond (decide (U<(aa.2.2.1.length:Int))) ((aO aa.2.2.1.length U).bind fun v1 =>(eg (J (ad.int .i64) aa.2.2.1 v1,0,1000,())).bind fun v2 =>cond (!v2.1) (some (false,())) (bb (aK (U+1)) aa)) (some (true,()))
def uf:Nat→CT | 0,_,_=>none | m+1,U,aa=>CV (uf m) U aa
def w4(x:aI.D×Unit):Option (Bool×Unit):=CU (uf aQ) x.1
abbrev CW:Type:=Int→Bool→Int→aI.D→Option (Bool×Unit)
def CX(bw:CW)(a1:aI.D)(a2:Int):Option (Bool×Unit) :=(w4 (a1,())).bind fun v1 =>cond (!v1.1) (some (false,())) (bw a2 (a1.2.1==a2) 0 a1)
def CY(bw:CW)(U:Int)(aa:Bool)(ae:Int)(ai:aI.D):Option (Bool×Unit) :=cond (decide (ae<(ai.2.2.1.length:Int))) (cond aa (bw U true (aK (ae+1)) ai) ((aO ai.2.2.1.length ae).bind fun v1 =>bw U (J (ad.int .i64) ai.2.2.1 v1==U) (aK (ae+1)) ai)) (some (aa,()))
def ug:Nat→CW | 0,_,_,_,_=>none | m+1,U,aa,ae,ai=>CY (ug m) U aa ae ai
def uh(x:aI.D×Int×Unit):Option (Bool×Unit):=CX (ug aQ) x.1 x.2.1
def J0(a1:aI.D)(a2:I.D)(a3:Int):Option (Bool×Unit) :=(w4 (a1,())).bind fun v1 =>cond (!v1.1) (some (false,())) ((eg (a3,0,7,())).bind fun v2 =>cond (!v2.1) (some (false,())) (cond (a1.1==0) (cond (cQ .and .i64 a3 1==0) (some (true,())) (cond (a2.2.1 != 1) (some (true,())) (some (cQ .and .i64 a2.2.2.1 73 != 0,())))) ((uh (a1,a2.2.2.2.2.1,())).bind fun v3 =>cond v3.1 (cond (a1.1==a2.2.2.2.1) (some (cQ .and .i64 (cQ .and .i64 (Int.fdiv a2.2.2.1 (2 ^ min (Int.toNat 6) 64)) 7) a3==a3,())) (some (cQ .and .i64 (cQ .and .i64 (Int.fdiv a2.2.2.1 (2 ^ min (Int.toNat 3) 64)) 7) a3==a3,()))) (cond (a1.1==a2.2.2.2.1) (some (cQ .and .i64 (cQ .and .i64 (Int.fdiv a2.2.2.1 (2 ^ min (Int.toNat 6) 64)) 7) a3==a3,())) (some (cQ .and .i64 (cQ .and .i64 a2.2.2.1 7) a3==a3,()))))))
def jL(x:aI.D×I.D×Int×Unit):Option (Bool×Unit):=J0 x.1 x.2.1 x.2.2.1
abbrev CZ:Type:=(List UInt8)→Int→Option (Bool×Unit)
def C0(bb:CZ)(a1:List UInt8):Option (Bool×Unit) :=(eg ((a1.length:Int),1,60,())).bind fun v1 =>cond (!v1.1) (some (false,())) ((aO a1.length 0).bind fun v2 =>cond (((a1.getD v2 0).toNat:Int) != 47) (some (false,())) (bb a1 0))
def C1(bb:CZ)(U:List UInt8)(aa:Int):Option (Bool×Unit) :=cond (decide (aa<(U.length:Int))) ((aO U.length aa).bind fun v1 =>cond (((U.getD v1 0).toNat:Int) != 47) ((aO U.length aa).bind fun v2 =>(za (((U.getD v2 0).toNat:Int),())).bind fun v3 =>cond (!v3.1) (some (false,())) (bb U (aK (aa+1)))) (bb U (aK (aa+1)))) (some (true,()))
def ui:Nat→CZ | 0,_,_=>none | m+1,U,aa=>C1 (ui m) U aa
def C2(x:(List UInt8)×Unit):Option (Bool×Unit):=C0 (ui aQ) x.1
abbrev C3:Type:=Int→Int→af.D→Option (Int×Unit)
def C4(k2:C3)(a1:af.D)(a2:Int):Option (Int×Unit) :=k2 a2 0 a1
def C5(k2:C3)(U:Int)(aa:Int)(ae:af.D):Option (Int×Unit) :=cond (decide (aa<(ae.2.1.length:Int))) ((aO ae.2.1.length aa).bind fun v1 =>cond ((J I ae.2.1 v1).1==U) (some (aa,())) (k2 U (aK (aa+1)) ae)) (some ((-1),()))
def uj:Nat→C3 | 0,_,_,_=>none | m+1,U,aa,ae=>C5 (uj m) U aa ae
def jM(x:af.D×Int×Unit):Option (Int×Unit):=C4 (uj aQ) x.1 x.2.1
abbrev zc:Type:=(List (List UInt8))×Unit
abbrev C6:Type:=(List UInt8)→Int→Int→(List (List UInt8))→Option (zc)
def C7(bb:C6)(a1:List UInt8):Option (zc) :=bb a1 0 0 ([]:List (List UInt8))
def zd(bb:C6)(U:List UInt8)(aa:Int)(ae:Int)(ai:List (List UInt8)):Option (zc) :=cond (decide (ae≤(U.length:Int))) (cond (ae ==(U.length:Int)) (cond (decide (ae>aa)) ((d' U.length aa ae).bind fun v1 =>cond (room (ai.length+[part U v1.1 (v1.2-v1.1)].length)) (bb U (aK (ae+1)) (aK (ae+1)) (ai++[part U v1.1 (v1.2-v1.1)])) (none)) (bb U (aK (ae+1)) (aK (ae+1)) ai)) ((aO U.length ae).bind fun v2 =>cond (((U.getD v2 0).toNat:Int)==47) (cond (decide (ae>aa)) ((d' U.length aa ae).bind fun v3 =>cond (room (ai.length+[part U v3.1 (v3.2-v3.1)].length)) (bb U (aK (ae+1)) (aK (ae+1)) (ai++[part U v3.1 (v3.2-v3.1)])) (none)) (bb U (aK (ae+1)) (aK (ae+1)) ai)) (bb U aa (aK (ae+1)) ai))) (some (ai,()))
def qH:Nat→C6 | 0,_,_,_,_=>none | m+1,U,aa,ae,ai=>zd (qH m) U aa ae ai
def w5(x:(List UInt8)×Unit):Option (zc):=C7 (qH aQ) x.1
structure uk where
 k2:Int→Int→af.D→Option (Int×Unit)
 bw:Int→Int→Int→af.D→Option (Int×Unit)
def C8(k:uk)(a1:af.D)(a2:Int):Option (Int×Unit) :=k.k2 a2 0 a1
def um(k:uk)(U:Int)(aa:Int)(ae:af.D):Option (Int×Unit) :=cond (decide (aa<(ae.2.1.length:Int))) (k.bw U aa 0 ae) (some (1,()))
def uo(k:uk)(U:Int)(aa:Int)(ae:Int)(ai:af.D):Option (Int×Unit) :=(aO ai.2.1.length aa).bind fun v1 =>cond (decide (ae<(((J I ai.2.1 v1).2.2.2.2.2.2.1).length:Int))) ((aO ai.2.1.length aa).bind fun v2 =>(aO (((J I ai.2.1 v2).2.2.2.2.2.2.1).length) ae).bind fun v3 =>cond ((J ax ((J I ai.2.1 v2).2.2.2.2.2.2.1) v3).2.1==U) ((aO ai.2.1.length aa).bind fun v4 =>some ((J I ai.2.1 v4).1,())) (k.bw U aa (aK (ae+1)) ai)) (k.k2 U (aK (aa+1)) ai)
def R0(k:uk):uk:=⟨um k,uo k⟩
def kB:Nat→uk:=eO R0 ⟨fun _ _ _=>none,fun _ _ _ _=>none⟩
def C9(x:af.D×Int×Unit):Option (Int×Unit):=C8 (kB aQ) x.1 x.2.1
abbrev C_:Type:=(List UInt8)→(List ax.D)→Int→Option (Int×Unit)
def C'(k3:C_)(a1:af.D)(a2:Int)(a3:List UInt8):Option (Int×Unit) :=(jM (a1,a2,())).bind fun v1 =>(aO a1.2.1.length v1.1).bind fun v2 =>k3 a3 ((J I a1.2.1 v2).2.2.2.2.2.2.1) 0
def Da(k3:C_)(U:List UInt8)(aa:List ax.D)(ae:Int):Option (Int×Unit) :=cond (decide (ae<(aa.length:Int))) ((aO aa.length ae).bind fun v1 =>cond (bs ((J ax aa v1).1) U) ((aO aa.length ae).bind fun v2 =>some ((J ax aa v2).2.1,())) (k3 U aa (aK (ae+1)))) (some (0,()))
def r7:Nat→C_ | 0,_,_,_=>none | m+1,U,aa,ae=>Da (r7 m) U aa ae
def J1(x:af.D×Int×(List UInt8)×Unit):Option (Int×Unit):=C' (r7 aQ) x.1 x.2.1 x.2.2.1
structure pK where
 bb:Bool→Nat→Nat→Int→Int→af.D→aI.D→aV.D→(List (List UInt8))→Option (aV.D×Unit)
 J2:Bool→Nat→Nat→Int→Int→(List UInt8)→Bool→Int→af.D→aI.D→aV.D→(List (List UInt8))→I.D→Option (aV.D×Unit)
 iF:Bool→Nat→Nat→Int→Int→af.D→aI.D→aV.D→(List (List UInt8))→I.D→Option (aV.D×Unit)
 uq:Bool→Nat→Nat→Int→Int→(List UInt8)→Bool→Int→af.D→aI.D→aV.D→(List (List UInt8))→I.D→Option (aV.D×Unit)
 oJ:Bool→Nat→Nat→Int→Int→af.D→aI.D→aV.D→(List (List UInt8))→I.D→Option (aV.D×Unit)
def w6(k:pK)(a1:af.D)(a2:aI.D)(a3:List UInt8)(a4:Bool):Option (aV.D×Unit) :=(w5 (a3,())).bind fun v1 =>k.bb a4 0 v1.1.length 1 0 a1 a2 (0,([]:List UInt8),0,0,()) v1.1
def ib(k:pK)(U:Bool)(aa:Nat)(ae:Nat)(ai:Int)(aq:Int)(aE:af.D)(bh:aI.D)(bW:aV.D)(cB:List (List UInt8)):Option (aV.D×Unit) :=cond (decide ((ae:Int)>0)) ((aO ae 0).bind fun v1 =>(d' ae 1 (ae:Int)).bind fun v2 =>(jM (aE,ai,())).bind fun v3 =>(aO aE.2.1.length v3.1).bind fun v4 =>(jL (bh,J I aE.2.1 v4,1,())).bind fun v5 =>cond (!v5.1) (some ((0,([]:List UInt8),0,13,()),())) (cond (bs (J ad.str cB (aa+v1)) ([46]:List UInt8)) (k.bb U (aa+v2.1) (v2.2-v2.1) ai aq aE bh bW cB) (cond (bs (J ad.str cB (aa+v1)) ([46,46]:List UInt8)) ((C9 (aE,ai,())).bind fun v6 =>k.bb U (aa+v2.1) (v2.2-v2.1) v6.1 aq aE bh bW cB) (cond (decide (((J ad.str cB (aa+v1)).length:Int)>8)) (some ((0,([]:List UInt8),0,36,()),())) ((J1 (aE,ai,J ad.str cB (aa+v1),())).bind fun bt =>cond (bt.1==0) (cond ((((v2.2-v2.1):Nat):Int)==0) (some ((ai,J ad.str cB (aa+v1),0,2,()),())) (some ((0,([]:List UInt8),0,2,()),()))) (dup ((jM (aE,bt.1,())).bind fun dn =>(aO aE.2.1.length dn.1).bind fun v9 =>k.J2 U (aa+v2.1) (v2.2-v2.1) ai aq (J ad.str cB (aa+v1)) ((((v2.2-v2.1):Nat):Int)==0) bt.1 aE bh bW cB (J I aE.2.1 v9)))))))) (some ((0,([]:List UInt8),ai,0,()),()))
def r8(k:pK)(U:Bool)(aa:Nat)(ae:Nat)(ai:Int)(aq:Int)(aE:List UInt8)(bh:Bool)(bW:Int)(cB:af.D)(fb:aI.D)(kC:aV.D)(kD:List (List UInt8))(j7:I.D):Option (aV.D×Unit) :=cond (j7.2.1==3) (cond (!bh) (k.iF U aa ae ai aq cB fb kC kD j7) (cond U (k.iF U aa ae ai aq cB fb kC kD j7) (k.uq U aa ae ai aq aE bh bW cB fb kC kD j7))) (k.uq U aa ae ai aq aE bh bW cB fb kC kD j7)
def ze(k:pK)(U:Bool)(aa:Nat)(ae:Nat)(ai:Int)(aq:Int)(aE:af.D)(bh:aI.D)(bW:aV.D)(cB:List (List UInt8))(fb:I.D):Option (aV.D×Unit) :=cond (decide (aK (aq+1)>8)) (some ((0,([]:List UInt8),0,40,()),())) ((aO fb.2.2.2.2.2.1.length 0).bind fun v1 =>cond (((fb.2.2.2.2.2.1.getD v1 0).toNat:Int)==47) (k.oJ U aa ae 1 (aK (aq+1)) aE bh bW cB fb) (k.oJ U aa ae ai (aK (aq+1)) aE bh bW cB fb))
def zf(k:pK)(U:Bool)(aa:Nat)(ae:Nat)(ai:Int)(aq:Int)(aE:List UInt8)(bh:Bool)(bW:Int)(cB:af.D)(fb:aI.D)(kC:aV.D)(kD:List (List UInt8))(j7:I.D):Option (aV.D×Unit) :=cond bh (some ((ai,aE,bW,0,()),())) (cond (j7.2.1 != 2) (some ((0,([]:List UInt8),0,20,()),())) (k.bb U aa ae bW aq cB fb kC kD))
def zg(k:pK)(U:Bool)(aa:Nat)(ae:Nat)(ai:Int)(aq:Int)(aE:af.D)(bh:aI.D)(bW:aV.D)(cB:List (List UInt8))(fb:I.D):Option (aV.D×Unit) :=(w5 (fb.2.2.2.2.2.1,())).bind fun v1 =>cond (room (v1.1.length +(part cB aa ae).length)) (cond (decide (((v1.1++(part cB aa ae)).length:Int)>40)) (some ((0,([]:List UInt8),0,36,()),())) (k.bb U 0 ((v1.1++(part cB aa ae)).length) ai aq aE bh bW (v1.1++(part cB aa ae)))) (none)
def R1(k:pK):pK:=⟨ib k,r8 k,ze k,zf k,zg k⟩
def df:Nat→pK:=eO R1 ⟨fun _ _ _ _ _ _ _ _ _=>none,fun _ _ _ _ _ _ _ _ _ _ _ _ _=>none,fun _ _ _ _ _ _ _ _ _ _=>none,fun _ _ _ _ _ _ _ _ _ _ _ _ _=>none,fun _ _ _ _ _ _ _ _ _ _=>none⟩
def Db(x:af.D×aI.D×(List UInt8)×Bool×Unit):Option (aV.D×Unit):=w6 (df aQ) x.1 x.2.1 x.2.2.1 x.2.2.2.1
def ur(a1:af.D)(a2:aI.D)(a3:List UInt8):Option (aV.D×Int×Unit) :=(C2 (a3,())).bind fun v1 =>cond (!v1.1) (some ((0,([]:List UInt8),0,0,()),22,())) ((Db (a1,a2,a3,false,())).bind fun v2 =>cond (v2.1.2.2.2.1==0) (some (v2.1,17,())) (cond (v2.1.2.2.2.1==2) (cond (!(bs v2.1.2.1 ([]:List UInt8))) (some (v2.1,0,())) (some (v2.1,v2.1.2.2.2.1,()))) (some (v2.1,v2.1.2.2.2.1,()))))
def qI(x:af.D×aI.D×(List UInt8)×Unit):Option (aV.D×Int×Unit):=ur x.1 x.2.1 x.2.2.1
def J3(a1:af.D)(a2:Int):Option (I.D×Unit) :=(jM (a1,a2,())).bind fun v1 =>(aO a1.2.1.length v1.1).bind fun v2 =>some (J I a1.2.1 v2,())
def eW(x:af.D×Int×Unit):Option (I.D×Unit):=J3 x.1 x.2.1
abbrev Dc:Type:=Int→Int→af.D→Option (Int×Unit)
def Dd(k3:Dc)(a1:af.D):Option (Int×Unit) :=k3 0 0 a1
def De(k3:Dc)(U:Int)(aa:Int)(ae:af.D):Option (Int×Unit) :=cond (decide (aa<(ae.2.1.length:Int))) ((aO ae.2.1.length aa).bind fun v1 =>k3 (aK (U +(((J I ae.2.1 v1).2.2.2.2.2.1).length:Int))) (aK (aa+1)) ae) (some (U,()))
def uu:Nat→Dc | 0,_,_,_=>none | m+1,U,aa,ae=>De (uu m) U aa ae
def zh(x:af.D×Unit):Option (Int×Unit):=Dd (uu aQ) x.1
structure qJ where
 dI:Int→af.D→(List Bool)→(List Bool)→Option ((List Bool)×Unit)
 db:Int→Int→af.D→(List Bool)→(List Bool)→Option ((List Bool)×Unit)
 qK:Int→Int→Int→af.D→(List Bool)→(List Bool)→Option ((List Bool)×Unit)
def abO(k:qJ)(a1:af.D)(v3:List Bool):Option ((List Bool)×Unit) :=k.dI 0 a1 (List.replicate (Int.toNat (a1.2.1.length:Int)) (false:Bool)) v3
def Df(k:qJ)(a1:af.D)(a2:Int):Option ((List Bool)×Unit) :=cond (decide (0≤(a1.2.1.length:Int))&&decide ((a1.2.1.length:Int)=(a1.2.1.length:Int))&&room (Int.toNat (a1.2.1.length:Int))) (cond (decide (0≤(a1.2.1.length:Int))&&decide ((a1.2.1.length:Int)=(a1.2.1.length:Int))&&room (Int.toNat (a1.2.1.length:Int))) ((jM (a1,a2,())).bind fun v1 =>cond (decide (v1.1<0)) (some (List.replicate (Int.toNat (a1.2.1.length:Int)) (false:Bool),())) ((aO ((List.replicate (Int.toNat (a1.2.1.length:Int)) (false:Bool)).length) v1.1).bind fun v2 =>abO k a1 ((List.replicate (Int.toNat (a1.2.1.length:Int)) (false:Bool)).set (0+v2) true))) (none)) (none)
def zi(k:qJ)(U:Int)(aa:af.D)(ae:List Bool)(ai:List Bool):Option ((List Bool)×Unit) :=cond (decide (U<(aa.2.1.length:Int))) (k.db U 0 aa ae ai) (some (ae,()))
def uv(k:qJ)(U:Int)(aa:Int)(ae:af.D)(ai:List Bool)(aq:List Bool):Option ((List Bool)×Unit) :=cond (decide (aa<(ae.2.1.length:Int))) ((aO aq.length aa).bind fun v1 =>cond (!(J ad.bool aq (0+v1))) (k.db U (aK (aa+1)) ae ai aq) (k.qK U aa 0 ae ai aq)) (k.dI (aK (U+1)) ae ai aq)
def zj(k:qJ)(U:Int)(aa:Int)(ae:Int)(ai:af.D)(aq:List Bool)(aE:List Bool):Option ((List Bool)×Unit) :=(aO ai.2.1.length aa).bind fun v1 =>cond (decide (ae<(((J I ai.2.1 v1).2.2.2.2.2.2.1).length:Int))) ((aO ai.2.1.length aa).bind fun v2 =>(aO (((J I ai.2.1 v2).2.2.2.2.2.2.1).length) ae).bind fun v3 =>(jM (ai,(J ax ((J I ai.2.1 v2).2.2.2.2.2.2.1) v3).2.1,())).bind fun v4 =>cond (decide (v4.1≥0)) ((aO aq.length v4.1).bind fun v5 =>(aO aE.length v4.1).bind fun v6 =>k.qK U aa (aK (ae+1)) ai (aq.set (0+v5) true) (aE.set (0+v6) true)) (k.qK U aa (aK (ae+1)) ai aq aE)) (k.db U (aK (aa+1)) ai aq aE)
def R2(k:qJ):qJ:=⟨zi k,uv k,zj k⟩
def j8:Nat→qJ:=eO R2 ⟨fun _ _ _ _=>none,fun _ _ _ _ _=>none,fun _ _ _ _ _ _=>none⟩
def Dg(x:af.D×Int×Unit):Option ((List Bool)×Unit):=Df (j8 aQ) x.1 x.2.1
abbrev Dh:Type:=Int→Int→Int→af.D→(List Bool)→Option (Int×Int×Unit)
def Di(bw:Dh)(a1:af.D)(a2:Int):Option (Int×Int×Unit) :=(Dg (a1,a2,())).bind fun v1 =>bw 0 0 0 a1 v1.1
def Dj(bw:Dh)(U:Int)(aa:Int)(ae:Int)(ai:af.D)(aq:List Bool):Option (Int×Int×Unit) :=cond (decide (ae<(aq.length:Int))) ((aO aq.length ae).bind fun v1 =>cond (J ad.bool aq (0+v1)) ((aO ai.2.1.length ae).bind fun v2 =>bw (aK (U +(((J I ai.2.1 v2).2.2.2.2.2.1).length:Int))) (aK (aa+1)) (aK (ae+1)) ai aq) (bw U aa (aK (ae+1)) ai aq)) (some (U,aa,()))
def uw:Nat→Dh | 0,_,_,_,_,_=>none | m+1,U,aa,ae,ai,aq=>Dj (uw m) U aa ae ai aq
def zk(x:af.D×Int×Unit):Option (Int×Int×Unit):=Di (uw aQ) x.1 x.2.1
structure ux where
 k2:Int→af.D→Option (Bool×Unit)
 da:Int→af.D→I.D→Option (Bool×Unit)
def Dk(k:ux)(a1:af.D):Option (Bool×Unit) :=k.k2 0 a1
def zl(k:ux)(U:Int)(aa:af.D):Option (Bool×Unit) :=cond (decide (U<(aa.2.1.length:Int))) ((aO aa.2.1.length U).bind fun v1 =>cond ((J I aa.2.1 v1).2.1 != 2) (k.k2 (aK (U+1)) aa) (cond ((J I aa.2.1 v1).2.2.2.2.2.2.2.1==0) (cond ((J I aa.2.1 v1).2.2.2.2.2.2.2.2.1==0) (k.k2 (aK (U+1)) aa) (k.da U aa (J I aa.2.1 v1))) (k.da U aa (J I aa.2.1 v1)))) (some (false,()))
def J4(k:ux)(U:Int)(aa:af.D)(ae:I.D):Option (Bool×Unit) :=(zk (aa,ae.1,())).bind fun v1 =>cond (decide (ae.2.2.2.2.2.2.2.1>0)) (cond (decide (v1.1>ae.2.2.2.2.2.2.2.1)) (some (true,())) (cond (decide (ae.2.2.2.2.2.2.2.2.1>0)) (cond (decide (v1.2.1>ae.2.2.2.2.2.2.2.2.1)) (some (true,())) (k.k2 (aK (U+1)) aa)) (k.k2 (aK (U+1)) aa))) (cond (decide (ae.2.2.2.2.2.2.2.2.1>0)) (cond (decide (v1.2.1>ae.2.2.2.2.2.2.2.2.1)) (some (true,())) (k.k2 (aK (U+1)) aa)) (k.k2 (aK (U+1)) aa))
def R3(k:ux):ux:=⟨zl k,J4 k⟩
def j9:Nat→ux:=eO R3 ⟨fun _ _=>none,fun _ _ _=>none⟩
def Dl(x:af.D×Unit):Option (Bool×Unit):=Dk (j9 aQ) x.1
def J5(a1:af.D):Option (Int×Unit) :=(zh (a1,())).bind fun v1 =>cond (decide (v1.1>400)) (some (28,())) ((Dl (a1,())).bind fun v2 =>cond v2.1 (some (122,())) (some (0,())))
def J6(x:af.D×Unit):Option (Int×Unit):=J5 x.1
abbrev R4:Type:=af.D×aG.D×Unit
def J7(a1:af.D)(a2:af.D):Option (R4) :=(J6 (a2,())).bind fun v1 =>cond (v1.1 != 0) (some (a1,(v1.1,([]:List UInt8),()),())) (some (a2,(0,([]:List UInt8),()),()))
def qL(x:af.D×af.D×Unit):Option (R4):=J7 x.1 x.2.1
def zm(a1:af.D)(a2:I.D):Option (af.D×Unit) :=(jM (a1,a2.1,())).bind fun v1 =>cond (decide (v1.1<0)) (cond (room (a1.2.1.length+[a2].length)) (some ((a1.1,a1.2.1++[a2],()),())) (none)) ((aO a1.2.1.length v1.1).bind fun v2 =>some ((a1.1,a1.2.1.set (0+v2) a2,()),()))
def oK(x:af.D×I.D×Unit):Option (af.D×Unit):=zm x.1 x.2.1
structure r9 where
 bw:(List UInt8)→Int→Bool→Int→af.D→af.D→I.D→(List ax.D)→Option (af.D×Unit)
 gk:(List UInt8)→Int→Bool→Int→af.D→af.D→I.D→(List ax.D)→Option (af.D×Unit)
 mH:af.D→af.D→I.D→(List ax.D)→Option (af.D×Unit)
def Dm(k:r9)(a1:af.D)(a2:Int)(a3:List UInt8)(a4:Int):Option (af.D×Unit) :=(eW (a1,a2,())).bind fun v1 =>k.bw a3 a4 false 0 a1 (0,([]:List I.D),()) v1.1 ([]:List ax.D)
def oL(k:r9)(U:List UInt8)(aa:Int)(ae:Bool)(ai:Int)(aq:af.D)(aE:af.D)(bh:I.D)(bW:List ax.D):Option (af.D×Unit) :=cond (decide (ai<(bh.2.2.2.2.2.2.1.length:Int))) (cond (!ae) ((aO bh.2.2.2.2.2.2.1.length ai).bind fun v1 =>cond (dx U ((J ax bh.2.2.2.2.2.2.1 v1).1)) (cond (room (bW.length+[(U,aa,())].length)) (k.gk U aa true ai aq aE bh (bW++[(U,aa,())])) (none)) (k.gk U aa ae ai aq aE bh bW)) (k.gk U aa ae ai aq aE bh bW)) (cond (!ae) (cond (room (bW.length+[(U,aa,())].length)) (k.mH aq aE bh (bW++[(U,aa,())])) (none)) (k.mH aq aE bh bW))
def uy(k:r9)(U:List UInt8)(aa:Int)(ae:Bool)(ai:Int)(aq:af.D)(aE:af.D)(bh:I.D)(bW:List ax.D):Option (af.D×Unit) :=(aO bh.2.2.2.2.2.2.1.length ai).bind fun v1 =>cond (room (bW.length+[J ax bh.2.2.2.2.2.2.1 v1].length)) (k.bw U aa ae (aK (ai+1)) aq aE bh (bW++[J ax bh.2.2.2.2.2.2.1 v1])) (none)
def J8(k:r9)(U:af.D)(aa:af.D)(ae:I.D)(ai:List ax.D):Option (af.D×Unit) :=(oK (U,(ae.1,ae.2.1,ae.2.2.1,ae.2.2.2.1,ae.2.2.2.2.1,ae.2.2.2.2.2.1,ai,ae.2.2.2.2.2.2.2.1,ae.2.2.2.2.2.2.2.2.1,()),())).bind fun v1 =>some (v1.1,())
def R5(k:r9):r9:=⟨oL k,uy k,J8 k⟩
def iG:Nat→r9:=eO R5 ⟨fun _ _ _ _ _ _ _ _=>none,fun _ _ _ _ _ _ _ _=>none,fun _ _ _ _=>none⟩
def r_(x:af.D×Int×(List UInt8)×Int×Unit):Option (af.D×Unit):=Dm (iG aQ) x.1 x.2.1 x.2.2.1 x.2.2.2.1
abbrev oM:Type:=af.D×aG.D×Unit
structure qM where
 k3:af.D→aI.D→aH.D→af.D→aG.D→Option (oM)
 zn:af.D→aH.D→af.D→aG.D→aV.D→I.D→I.D→Option (oM)
 fD:af.D→af.D→aG.D→aV.D→I.D→I.D→Option (oM)
 iF:af.D→af.D→aG.D→aV.D→I.D→Option (oM)
def w7(k:qM)(a1:af.D)(a2:aI.D)(a3:aH.D):Option (oM) :=cond (a3.1==10) ((zb (a3.2.2.1,())).bind fun v1 =>cond (!v1.1) (some (a1,(22,([]:List UInt8),()),())) (cond (a3.1 != 10) ((eg (a3.2.2.2.1,0,2047,())).bind fun v2 =>cond (!v2.1) (some (a1,(22,([]:List UInt8),()),())) (k.k3 a1 a2 a3 (0,([]:List I.D),()) (0,([]:List UInt8),()))) (k.k3 a1 a2 a3 (0,([]:List I.D),()) (0,([]:List UInt8),())))) (cond (a3.1 != 10) ((eg (a3.2.2.2.1,0,2047,())).bind fun v3 =>cond (!v3.1) (some (a1,(22,([]:List UInt8),()),())) (k.k3 a1 a2 a3 (0,([]:List I.D),()) (0,([]:List UInt8),()))) (k.k3 a1 a2 a3 (0,([]:List I.D),()) (0,([]:List UInt8),())))
def zo(k:qM)(U:af.D)(aa:aI.D)(ae:aH.D)(ai:af.D)(aq:aG.D):Option (oM) :=(qI (U,aa,ae.2.1,())).bind fun v1 =>cond (v1.2.1 != 0) (some (U,(v1.2.1,([]:List UInt8),()),())) ((eW (U,v1.1.1,())).bind fun v2 =>(jL (aa,v2.1,3,())).bind fun v3 =>cond (!v3.1) (some (U,(13,([]:List UInt8),()),())) (cond (decide ((v2.1.2.2.2.2.2.2.1.length:Int)≥12)) (some (U,(28,([]:List UInt8),()),())) (cond (decide ((U.2.1.length:Int)≥24)) (some (U,(28,([]:List UInt8),()),())) (cond (decide (U.1≥100000)) (some (U,(28,([]:List UInt8),()),())) (cond (ae.1==1) (k.zn U ae ai aq v1.1 v2.1 (U.1,2,ae.2.2.2.1,aa.1,aa.2.1,([]:List UInt8),([]:List ax.D),0,0,())) (k.zn U ae ai aq v1.1 v2.1 (U.1,1,ae.2.2.2.1,aa.1,aa.2.1,([]:List UInt8),([]:List ax.D),0,0,())))))))
def abP(k:qM)(U:af.D)(aa:aH.D)(ae:af.D)(ai:aG.D)(aq:aV.D)(aE:I.D)(bh:I.D):Option (oM) :=cond (aa.1==10) (k.fD U ae ai aq aE (bh.1,3,511,bh.2.2.2.1,bh.2.2.2.2.1,aa.2.2.1,bh.2.2.2.2.2.2.1,bh.2.2.2.2.2.2.2.1,bh.2.2.2.2.2.2.2.2.1,())) (k.fD U ae ai aq aE bh)
def abQ(k:qM)(U:af.D)(aa:af.D)(ae:aG.D)(ai:aV.D)(aq:I.D)(aE:I.D):Option (oM) :=cond (cQ .and .i64 aq.2.2.1 1024 != 0) (cond (aE.2.1==2) (k.iF U aa ae ai (aE.1,aE.2.1,cQ .or .i64 aE.2.2.1 1024,aE.2.2.2.1,aq.2.2.2.2.1,aE.2.2.2.2.2.1,aE.2.2.2.2.2.2.1,aE.2.2.2.2.2.2.2.1,aE.2.2.2.2.2.2.2.2.1,())) (k.iF U aa ae ai (aE.1,aE.2.1,aE.2.2.1,aE.2.2.2.1,aq.2.2.2.2.1,aE.2.2.2.2.2.1,aE.2.2.2.2.2.2.1,aE.2.2.2.2.2.2.2.1,aE.2.2.2.2.2.2.2.2.1,()))) (k.iF U aa ae ai aE)
def J9(k:qM)(U:af.D)(aa:af.D)(ae:aG.D)(ai:aV.D)(aq:I.D):Option (oM) :=(lZ (U,())).bind fun v1 =>(oK ((aK (v1.1.1+1),v1.1.2.1,()),aq,())).bind fun v2 =>(r_ (v2.1,ai.1,ai.2.1,aq.1,())).bind fun v3 =>(qL (U,v3.1,())).bind fun v4 =>some (v4.1,v4.2.1,())
def R6(k:qM):qM:=⟨zo k,abP k,abQ k,J9 k⟩
def iH:Nat→qM:=eO R6 ⟨fun _ _ _ _ _=>none,fun _ _ _ _ _ _ _=>none,fun _ _ _ _ _ _=>none,fun _ _ _ _ _=>none⟩
def r'(x:af.D×aI.D×aH.D×Unit):Option (oM):=w7 (iH aQ) x.1 x.2.1 x.2.2.1
def oN(a1:af.D)(a2:aI.D)(a3:List UInt8)(a4:Bool):Option (aV.D×Unit) :=(C2 (a3,())).bind fun v1 =>cond (!v1.1) (some ((0,([]:List UInt8),0,22,()),())) ((Db (a1,a2,a3,a4,())).bind fun v2 =>some (v2.1,()))
def dX(x:af.D×aI.D×(List UInt8)×Bool×Unit):Option (aV.D×Unit):=oN x.1 x.2.1 x.2.2.1 x.2.2.2.1
def J_(a1:aI.D)(a2:I.D)(a3:I.D):Option (Bool×Unit) :=(w4 (a1,())).bind fun v1 =>cond (!v1.1) (some (false,())) (cond (cQ .and .i64 a2.2.2.1 512==0) (some (true,())) (cond (a1.1==0) (some (true,())) (cond (a1.1==a2.2.2.2.1) (some (true,())) (some (a1.1==a3.2.2.2.1,())))))
def w8(x:aI.D×I.D×I.D×Unit):Option (Bool×Unit):=J_ x.1 x.2.1 x.2.2.1
structure uz where
 k3:Int→Int→Int→af.D→Option (Int×Unit)
 da:Int→Int→Int→Int→af.D→Option (Int×Unit)
def Dn(k:uz)(a1:af.D)(a2:Int):Option (Int×Unit) :=k.k3 a2 0 0 a1
def zp(k:uz)(U:Int)(aa:Int)(ae:Int)(ai:af.D):Option (Int×Unit) :=cond (decide (ae<(ai.2.1.length:Int))) (k.da U aa ae 0 ai) (some (aa,()))
def zq(k:uz)(U:Int)(aa:Int)(ae:Int)(ai:Int)(aq:af.D):Option (Int×Unit) :=(aO aq.2.1.length ae).bind fun v1 =>cond (decide (ai<(((J I aq.2.1 v1).2.2.2.2.2.2.1).length:Int))) ((aO aq.2.1.length ae).bind fun v2 =>(aO (((J I aq.2.1 v2).2.2.2.2.2.2.1).length) ai).bind fun v3 =>cond ((J ax ((J I aq.2.1 v2).2.2.2.2.2.2.1) v3).2.1==U) (k.da U (aK (aa+1)) ae (aK (ai+1)) aq) (k.da U aa ae (aK (ai+1)) aq)) (k.k3 U aa (aK (ae+1)) aq)
def R7(k:uz):uz:=⟨zp k,zq k⟩
def pL:Nat→uz:=eO R7 ⟨fun _ _ _ _=>none,fun _ _ _ _ _=>none⟩
def zr(x:af.D×Int×Unit):Option (Int×Unit):=Dn (pL aQ) x.1 x.2.1
structure uA where
 bw:(List UInt8)→Int→Int→af.D→af.D→I.D→(List ax.D)→Option (af.D×Unit)
 jN:Int→Int→af.D→af.D→(List I.D)→Option (af.D×Unit)
def Dp(k:uA)(a1:af.D)(a2:Int)(a3:List UInt8):Option (af.D×Unit) :=(eW (a1,a2,())).bind fun v1 =>k.bw a3 0 0 a1 (0,([]:List I.D),()) v1.1 ([]:List ax.D)
def zs(k:uA)(U:List UInt8)(aa:Int)(ae:Int)(ai:af.D)(aq:af.D)(aE:I.D)(bh:List ax.D):Option (af.D×Unit) :=cond (decide (ae<(aE.2.2.2.2.2.2.1.length:Int))) ((aO aE.2.2.2.2.2.2.1.length ae).bind fun v1 =>cond (bs ((J ax aE.2.2.2.2.2.2.1 v1).1) U) ((aO aE.2.2.2.2.2.2.1.length ae).bind fun v2 =>k.bw U ((J ax aE.2.2.2.2.2.2.1 v2).2.1) (aK (ae+1)) ai aq aE bh) ((aO aE.2.2.2.2.2.2.1.length ae).bind fun v3 =>cond (room (bh.length+[J ax aE.2.2.2.2.2.2.1 v3].length)) (k.bw U aa (aK (ae+1)) ai aq aE (bh++[J ax aE.2.2.2.2.2.2.1 v3])) (none))) ((oK (ai,(aE.1,aE.2.1,aE.2.2.1,aE.2.2.2.1,aE.2.2.2.2.1,aE.2.2.2.2.2.1,bh,aE.2.2.2.2.2.2.2.1,aE.2.2.2.2.2.2.2.2.1,()),())).bind fun v4 =>(zr (v4.1,aa,())).bind fun v5 =>cond (decide (v5.1>0)) (some (v4.1,())) (k.jN aa 0 v4.1 aq ([]:List I.D)))
def zt(k:uA)(U:Int)(aa:Int)(ae:af.D)(ai:af.D)(aq:List I.D):Option (af.D×Unit) :=cond (decide (aa<(ae.2.1.length:Int))) ((aO ae.2.1.length aa).bind fun v1 =>cond ((J I ae.2.1 (0+v1)).1 != U) ((aO ae.2.1.length aa).bind fun v2 =>cond (room (aq.length+[J I ae.2.1 (0+v2)].length)) (k.jN U (aK (aa+1)) ae ai (aq++[J I ae.2.1 (0+v2)])) (none)) (k.jN U (aK (aa+1)) ae ai aq)) (some ((ae.1,aq,()),()))
def R8(k:uA):uA:=⟨zs k,zt k⟩
def k5:Nat→uA:=eO R8 ⟨fun _ _ _ _ _ _ _=>none,fun _ _ _ _ _=>none⟩
def nF(x:af.D×Int×(List UInt8)×Unit):Option (af.D×Unit):=Dp (k5 aQ) x.1 x.2.1 x.2.2.1
abbrev qN:Type:=af.D×aG.D×Unit
structure sa where
 c5:af.D→aI.D→aH.D→af.D→aG.D→aV.D→I.D→Option (qN)
 fB:af.D→aI.D→aH.D→af.D→aG.D→aV.D→I.D→Option (qN)
 db:af.D→aI.D→af.D→aG.D→aV.D→I.D→Option (qN)
def w9(k:sa)(a1:af.D)(a2:aI.D)(a3:aH.D):Option (qN) :=(dX (a1,a2,a3.2.1,false,())).bind fun v1 =>cond (v1.1.2.2.2.1 != 0) (some (a1,(v1.1.2.2.2.1,([]:List UInt8),()),())) ((eW (a1,v1.1.2.2.1,())).bind fun v2 =>cond (a3.1==2) (cond (bs v1.1.2.1 ([]:List UInt8)) (some (a1,(16,([]:List UInt8),()),())) (k.c5 a1 a2 a3 (0,([]:List I.D),()) (0,([]:List UInt8),()) v1.1 v2.1)) (k.c5 a1 a2 a3 (0,([]:List I.D),()) (0,([]:List UInt8),()) v1.1 v2.1))
def Dq(k:sa)(U:af.D)(aa:aI.D)(ae:aH.D)(ai:af.D)(aq:aG.D)(aE:aV.D)(bh:I.D):Option (qN) :=cond (ae.1==2) (cond (bh.2.1 != 2) (some (U,(20,([]:List UInt8),()),())) (k.fB U aa ae ai aq aE bh)) (k.fB U aa ae ai aq aE bh)
def Dr(k:sa)(U:af.D)(aa:aI.D)(ae:aH.D)(ai:af.D)(aq:aG.D)(aE:aV.D)(bh:I.D):Option (qN) :=cond (ae.1==8) (cond (bh.2.1==2) (some (U,(21,([]:List UInt8),()),())) (k.db U aa ai aq aE bh)) (k.db U aa ai aq aE bh)
def Ds(k:sa)(U:af.D)(aa:aI.D)(ae:af.D)(ai:aG.D)(aq:aV.D)(aE:I.D):Option (qN) :=(eW (U,aq.1,())).bind fun v1 =>(jL (aa,v1.1,3,())).bind fun v2 =>cond (!v2.1) (some (U,(13,([]:List UInt8),()),())) ((w8 (aa,v1.1,aE,())).bind fun v3 =>cond (!v3.1) (some (U,(1,([]:List UInt8),()),())) (cond (decide ((aE.2.2.2.2.2.2.1.length:Int)>0)) (some (U,(39,([]:List UInt8),()),())) ((lZ (U,())).bind fun v4 =>(nF (v4.1,aq.1,aq.2.1,())).bind fun v5 =>some (v5.1,(0,([]:List UInt8),()),()))))
def R9(k:sa):sa:=⟨Dq k,Dr k,Ds k⟩
def k6:Nat→sa:=eO R9 ⟨fun _ _ _ _ _ _ _=>none,fun _ _ _ _ _ _ _=>none,fun _ _ _ _ _ _=>none⟩
def w_(x:af.D×aI.D×aH.D×Unit):Option (qN):=w9 (k6 aQ) x.1 x.2.1 x.2.2.1
def J'(a1:af.D)(a2:Int):Option (Bool×Unit) :=(jM (a1,a2,())).bind fun v1 =>cond (decide (v1.1≥0)) ((aO a1.2.1.length v1.1).bind fun v2 =>some ((J I a1.2.1 v2).2.1==2,())) (some (false,()))
def xa(x:af.D×Int×Unit):Option (Bool×Unit):=J' x.1 x.2.1
abbrev R_:Type:=af.D×aG.D×Unit
def Ka(a1:af.D)(a2:aI.D)(a3:aH.D):Option (R_) :=(dX (a1,a2,a3.2.1,false,())).bind fun v1 =>cond (v1.1.2.2.2.1 != 0) (some (a1,(v1.1.2.2.2.1,([]:List UInt8),()),())) ((xa (a1,v1.1.2.2.1,())).bind fun v2 =>cond v2.1 (some (a1,(1,([]:List UInt8),()),())) ((qI (a1,a2,a3.2.2.1,())).bind fun v3 =>cond (v3.2.1 != 0) (some (a1,(v3.2.1,([]:List UInt8),()),())) ((eW (a1,v3.1.1,())).bind fun v4 =>(jL (a2,v4.1,3,())).bind fun v5 =>cond (!v5.1) (some (a1,(13,([]:List UInt8),()),())) (cond (decide ((v4.1.2.2.2.2.2.2.1.length:Int)≥12)) (some (a1,(28,([]:List UInt8),()),())) ((lZ (a1,())).bind fun v6 =>(r_ (v6.1,v3.1.1,v3.1.2.1,v1.1.2.2.1,())).bind fun bt =>(qL (a1,bt.1,())).bind fun dn =>some (dn.1,dn.2.1,()))))))
def Dt(x:af.D×aI.D×aH.D×Unit):Option (R_):=Ka x.1 x.2.1 x.2.2.1
abbrev Du:Type:=Int→Int→Int→af.D→Option (Bool×Unit)
def Dv(k2:Du)(a1:af.D)(a2:Int)(a3:Int):Option (Bool×Unit) :=k2 a2 a3 0 a1
def Dw(k2:Du)(U:Int)(aa:Int)(ae:Int)(ai:af.D):Option (Bool×Unit) :=cond (decide (ae≤(ai.2.1.length:Int))) (cond (U==aa) (some (true,())) (cond (U==1) (some (false,())) ((C9 (ai,U,())).bind fun v1 =>k2 v1.1 aa (aK (ae+1)) ai))) (some (false,()))
def uB:Nat→Du | 0,_,_,_,_=>none | m+1,U,aa,ae,ai=>Dw (uB m) U aa ae ai
def zu(x:af.D×Int×Int×Unit):Option (Bool×Unit):=Dv (uB aQ) x.1 x.2.1 x.2.2.1
abbrev mI:Type:=af.D×aG.D×Unit
structure pM where
 c5:af.D→aI.D→af.D→aG.D→aV.D→aV.D→Option (mI)
 fD:af.D→aI.D→af.D→aG.D→aV.D→aV.D→I.D→I.D→Option (mI)
 oJ:af.D→af.D→aG.D→aV.D→aV.D→I.D→af.D→I.D→Option (mI)
 mJ:af.D→af.D→aG.D→aV.D→aV.D→af.D→Option (mI)
 Kb:af.D→af.D→aG.D→aV.D→aV.D→I.D→af.D→I.D→Option (mI)
def Dx(k:pM)(a1:af.D)(a2:aI.D)(a3:aH.D):Option (mI) :=(dX (a1,a2,a3.2.1,false,())).bind fun v1 =>cond (v1.1.2.2.2.1 != 0) (some (a1,(v1.1.2.2.2.1,([]:List UInt8),()),())) ((dX (a1,a2,a3.2.2.1,false,())).bind fun v2 =>cond (v2.1.2.2.2.1 != 0) (cond (v2.1.2.2.2.1 != 2) (some (a1,(v2.1.2.2.2.1,([]:List UInt8),()),())) (cond (bs v2.1.2.1 ([]:List UInt8)) (some (a1,(v2.1.2.2.2.1,([]:List UInt8),()),())) (k.c5 a1 a2 (0,([]:List I.D),()) (0,([]:List UInt8),()) v1.1 v2.1))) (k.c5 a1 a2 (0,([]:List I.D),()) (0,([]:List UInt8),()) v1.1 v2.1))
def Kc(k:pM)(U:af.D)(aa:aI.D)(ae:af.D)(ai:aG.D)(aq:aV.D)(aE:aV.D):Option (mI) :=cond (bs aq.2.1 ([]:List UInt8)) (some (U,(16,([]:List UInt8),()),())) (cond (bs aE.2.1 ([]:List UInt8)) (some (U,(16,([]:List UInt8),()),())) ((eW (U,aq.1,())).bind fun v1 =>(eW (U,aE.1,())).bind fun v2 =>(eW (U,aq.2.2.1,())).bind fun v3 =>(jL (aa,v1.1,3,())).bind fun v4 =>cond (!v4.1) (some (U,(13,([]:List UInt8),()),())) ((jL (aa,v2.1,3,())).bind fun v5 =>cond (!v5.1) (some (U,(13,([]:List UInt8),()),())) ((w8 (aa,v1.1,v3.1,())).bind fun v6 =>cond (!v6.1) (some (U,(1,([]:List UInt8),()),())) (cond (v3.1.2.1==2) ((zu (U,aE.1,aq.2.2.1,())).bind fun bt =>cond bt.1 (some (U,(22,([]:List UInt8),()),())) (k.fD U aa ae ai aq aE v2.1 v3.1)) (k.fD U aa ae ai aq aE v2.1 v3.1))))))
def Kd(k:pM)(U:af.D)(aa:aI.D)(ae:af.D)(ai:aG.D)(aq:aV.D)(aE:aV.D)(bh:I.D)(bW:I.D):Option (mI) :=(lZ (U,())).bind fun v1 =>cond (decide (aE.2.2.1>0)) (cond (aE.2.2.1==aq.2.2.1) (some (U,(0,([]:List UInt8),()),())) ((eW (U,aE.2.2.1,())).bind fun v2 =>(w8 (aa,bh,v2.1,())).bind fun v3 =>cond (!v3.1) (some (U,(1,([]:List UInt8),()),())) (cond (bW.2.1==2) (cond (v2.1.2.1 != 2) (some (U,(20,([]:List UInt8),()),())) (k.oJ U ae ai aq aE bW v1.1 v2.1)) (k.oJ U ae ai aq aE bW v1.1 v2.1)))) (cond (aq.1 != aE.1) (cond (decide ((bh.2.2.2.2.2.2.1.length:Int)≥12)) (some (U,(28,([]:List UInt8),()),())) (k.mJ U ae ai aq aE v1.1)) (k.mJ U ae ai aq aE v1.1))
def Ke(k:pM)(U:af.D)(aa:af.D)(ae:aG.D)(ai:aV.D)(aq:aV.D)(aE:I.D)(bh:af.D)(bW:I.D):Option (mI) :=cond (aE.2.1==2) (cond (decide ((bW.2.2.2.2.2.2.1.length:Int)>0)) (some (U,(39,([]:List UInt8),()),())) (k.Kb U aa ae ai aq aE bh bW)) (k.Kb U aa ae ai aq aE bh bW)
def Kf(k:pM)(U:af.D)(aa:af.D)(ae:aG.D)(ai:aV.D)(aq:aV.D)(aE:af.D):Option (mI) :=(r_ (aE,aq.1,aq.2.1,ai.2.2.1,())).bind fun v1 =>(nF (v1.1,ai.1,ai.2.1,())).bind fun v2 =>(qL (U,v2.1,())).bind fun v3 =>some (v3.1,v3.2.1,())
def Kg(k:pM)(U:af.D)(aa:af.D)(ae:aG.D)(ai:aV.D)(aq:aV.D)(aE:I.D)(bh:af.D)(bW:I.D):Option (mI) :=cond (aE.2.1 != 2) (cond (bW.2.1==2) (some (U,(21,([]:List UInt8),()),())) ((nF (bh,aq.1,aq.2.1,())).bind fun v1 =>k.mJ U aa ae ai aq v1.1)) ((nF (bh,aq.1,aq.2.1,())).bind fun v2 =>k.mJ U aa ae ai aq v2.1)
def R'(k:pM):pM:=⟨Kc k,Kd k,Ke k,Kf k,Kg k⟩
def gB:Nat→pM:=eO R' ⟨fun _ _ _ _ _ _=>none,fun _ _ _ _ _ _ _ _=>none,fun _ _ _ _ _ _ _ _=>none,fun _ _ _ _ _ _=>none,fun _ _ _ _ _ _ _ _=>none⟩
def Dy(x:af.D×aI.D×aH.D×Unit):Option (mI):=Dx (gB aQ) x.1 x.2.1 x.2.2.1
structure sb where
 k2:Int→(List UInt8)→(List Int)→Option ((List UInt8)×Unit)
 bw:Int→(List UInt8)→Int→(List Int)→Option ((List UInt8)×Unit)
def Dz(k:sb)(a1:List UInt8)(a2:Int)(a3:List UInt8):Option ((List UInt8)×Unit) :=k.k2 a2 a3 (ez a1)
def zv(k:sb)(U:Int)(aa:List UInt8)(ae:List Int):Option ((List UInt8)×Unit) :=cond (decide ((ae.length:Int)<aK (U +(aa.length:Int)))) (cond (room (ae.length+[0].length)) (k.k2 U aa (ae++[0])) (none)) (k.bw U aa 0 ae)
def Sa(k:sb)(U:Int)(aa:List UInt8)(ae:Int)(v3:List Int):Option ((List UInt8)×Unit) :=k.bw U aa (aK (ae+1)) v3
def zw(k:sb)(U:Int)(aa:List UInt8)(ae:Int)(ai:List Int):Option ((List UInt8)×Unit) :=cond (decide (ae<(aa.length:Int))) ((aO aa.length ae).bind fun v1 =>(aO ai.length (aK (U+ae))).bind fun v2 =>Sa k U aa ae (ai.set (0+v2) ((aa.getD v1 0).toNat:Int))) (some (gF ai,()))
def Sb(k:sb):sb:=⟨zv k,zw k⟩
def nG:Nat→sb:=eO Sb ⟨fun _ _ _=>none,fun _ _ _ _=>none⟩
def sc(x:(List UInt8)×Int×(List UInt8)×Unit):Option ((List UInt8)×Unit):=Dz (nG aQ) x.1 x.2.1 x.2.2.1
abbrev uC:Type:=af.D×aG.D×Unit
structure uD where
 nH:Int→af.D→aH.D→af.D→aG.D→I.D→Option (uC)
 hL:af.D→af.D→aG.D→I.D→Option (uC)
def DA(k:uD)(a1:af.D)(a2:aI.D)(a3:aH.D):Option (uC) :=(dX (a1,a2,a3.2.1,true,())).bind fun v1 =>cond (v1.1.2.2.2.1 != 0) (some (a1,(v1.1.2.2.2.1,([]:List UInt8),()),())) ((eW (a1,v1.1.2.2.1,())).bind fun v2 =>cond (v2.1.2.1==2) (some (a1,(21,([]:List UInt8),()),())) ((jL (a2,v2.1,2,())).bind fun v3 =>cond (!v3.1) (some (a1,(13,([]:List UInt8),()),())) (cond (a3.1==6) (k.nH (v2.1.2.2.2.2.2.1.length:Int) a1 a3 (0,([]:List I.D),()) (0,([]:List UInt8),()) v2.1) (k.nH a3.2.2.2.1 a1 a3 (0,([]:List I.D),()) (0,([]:List UInt8),()) v2.1))))
def Kh(k:uD)(U:Int)(aa:af.D)(ae:aH.D)(ai:af.D)(aq:aG.D)(aE:I.D):Option (uC) :=cond (decide (U<0)) (some (aa,(22,([]:List UInt8),()),())) (cond (ae.1==7) (cond (decide (U>64)) (some (aa,(27,([]:List UInt8),()),())) ((sc (aE.2.2.2.2.2.1,U,([]:List UInt8),())).bind fun v1 =>(d' v1.1.length 0 U).bind fun v2 =>k.hL aa ai aq (aE.1,aE.2.1,aE.2.2.1,aE.2.2.2.1,aE.2.2.2.2.1,part v1.1 v2.1 (v2.2-v2.1),aE.2.2.2.2.2.2.1,aE.2.2.2.2.2.2.2.1,aE.2.2.2.2.2.2.2.2.1,()))) (cond (bs ae.2.2.2.2.2.1 ([]:List UInt8)) (some (aa,(0,([]:List UInt8),()),())) (cond (decide (U>aK (64-(ae.2.2.2.2.2.1.length:Int)))) (some (aa,(27,([]:List UInt8),()),())) ((sc (aE.2.2.2.2.2.1,U,ae.2.2.2.2.2.1,())).bind fun v3 =>k.hL aa ai aq (aE.1,aE.2.1,aE.2.2.1,aE.2.2.2.1,aE.2.2.2.2.1,v3.1,aE.2.2.2.2.2.2.1,aE.2.2.2.2.2.2.2.1,aE.2.2.2.2.2.2.2.2.1,())))))
def Ki(k:uD)(U:af.D)(aa:af.D)(ae:aG.D)(ai:I.D):Option (uC) :=(lZ (U,())).bind fun v1 =>(oK (v1.1,ai,())).bind fun v2 =>(qL (U,v2.1,())).bind fun v3 =>some (v3.1,v3.2.1,())
def Sc(k:uD):uD:=⟨Kh k,Ki k⟩
def j_:Nat→uD:=eO Sc ⟨fun _ _ _ _ _ _=>none,fun _ _ _ _=>none⟩
def xb(x:af.D×aI.D×aH.D×Unit):Option (uC):=DA (j_ aQ) x.1 x.2.1 x.2.2.1
abbrev oO:Type:=af.D×aG.D×Unit
structure qO where
 dI:Bool→af.D→aI.D→aH.D→af.D→aG.D→Option (oO)
 nH:af.D→aI.D→aH.D→af.D→aG.D→Option (oO)
 pN:af.D→aI.D→aH.D→af.D→aG.D→I.D→Option (oO)
 fZ:af.D→af.D→aG.D→I.D→Option (oO)
def sd(k:qO)(a1:af.D)(a2:aI.D)(a3:aH.D):Option (oO) :=cond (a3.1==15) ((eg (a3.2.2.2.1,0,2047,())).bind fun v1 =>k.dI (!v1.1) a1 a2 a3 (0,([]:List I.D),()) (0,([]:List UInt8),())) (cond (a3.1==16) ((eg (a3.2.2.2.1,0,1000,())).bind fun v2 =>cond (!v2.1) (k.dI true a1 a2 a3 (0,([]:List I.D),()) (0,([]:List UInt8),())) ((eg (a3.2.2.2.2.1,0,1000,())).bind fun v3 =>k.dI (!v3.1) a1 a2 a3 (0,([]:List I.D),()) (0,([]:List UInt8),()))) ((eg (a3.2.2.2.1,0,400,())).bind fun v4 =>cond (!v4.1) (k.dI true a1 a2 a3 (0,([]:List I.D),()) (0,([]:List UInt8),())) ((eg (a3.2.2.2.2.1,0,24,())).bind fun v5 =>k.dI (!v5.1) a1 a2 a3 (0,([]:List I.D),()) (0,([]:List UInt8),()))))
def zx(k:qO)(U:Bool)(aa:af.D)(ae:aI.D)(ai:aH.D)(aq:af.D)(aE:aG.D):Option (oO) :=cond U (some (aa,(22,([]:List UInt8),()),())) (cond (ai.1==19) (cond (ae.1 != 0) (some (aa,(1,([]:List UInt8),()),())) (k.nH aa ae ai aq aE)) (k.nH aa ae ai aq aE))
def zy(k:qO)(U:af.D)(aa:aI.D)(ae:aH.D)(ai:af.D)(aq:aG.D):Option (oO) :=(dX (U,aa,ae.2.1,true,())).bind fun v1 =>cond (v1.1.2.2.2.1 != 0) (some (U,(v1.1.2.2.2.1,([]:List UInt8),()),())) ((eW (U,v1.1.2.2.1,())).bind fun v2 =>cond (ae.1==15) (cond (aa.1 != 0) (cond (aa.1 != v2.1.2.2.2.1) (some (U,(1,([]:List UInt8),()),())) (k.pN U aa ae ai aq v2.1)) (k.pN U aa ae ai aq v2.1)) (cond (ae.1==16) (cond (aa.1 != 0) (cond (aa.1 != v2.1.2.2.2.1) (some (U,(1,([]:List UInt8),()),())) (cond (ae.2.2.2.1 != v2.1.2.2.2.1) (some (U,(1,([]:List UInt8),()),())) ((uh (aa,ae.2.2.2.2.1,())).bind fun v3 =>cond (!v3.1) (some (U,(1,([]:List UInt8),()),())) (k.fZ U ai aq (v2.1.1,v2.1.2.1,v2.1.2.2.1,ae.2.2.2.1,ae.2.2.2.2.1,v2.1.2.2.2.2.2.1,v2.1.2.2.2.2.2.2.1,v2.1.2.2.2.2.2.2.2.1,v2.1.2.2.2.2.2.2.2.2.1,()))))) (k.fZ U ai aq (v2.1.1,v2.1.2.1,v2.1.2.2.1,ae.2.2.2.1,ae.2.2.2.2.1,v2.1.2.2.2.2.2.1,v2.1.2.2.2.2.2.2.1,v2.1.2.2.2.2.2.2.2.1,v2.1.2.2.2.2.2.2.2.2.1,()))) (cond (v2.1.2.1 != 2) (some (U,(20,([]:List UInt8),()),())) (k.fZ U ai aq (v2.1.1,v2.1.2.1,v2.1.2.2.1,v2.1.2.2.2.1,v2.1.2.2.2.2.1,v2.1.2.2.2.2.2.1,v2.1.2.2.2.2.2.2.1,ae.2.2.2.1,ae.2.2.2.2.1,())))))
def Kj(k:qO)(U:af.D)(aa:aI.D)(ae:aH.D)(ai:af.D)(aq:aG.D)(aE:I.D):Option (oO) :=cond (aa.1 != 0) ((uh (aa,aE.2.2.2.2.1,())).bind fun v1 =>cond (!v1.1) (k.fZ U ai aq (aE.1,aE.2.1,cQ .andNot .i64 ae.2.2.2.1 1024,aE.2.2.2.1,aE.2.2.2.2.1,aE.2.2.2.2.2.1,aE.2.2.2.2.2.2.1,aE.2.2.2.2.2.2.2.1,aE.2.2.2.2.2.2.2.2.1,())) (k.fZ U ai aq (aE.1,aE.2.1,ae.2.2.2.1,aE.2.2.2.1,aE.2.2.2.2.1,aE.2.2.2.2.2.1,aE.2.2.2.2.2.2.1,aE.2.2.2.2.2.2.2.1,aE.2.2.2.2.2.2.2.2.1,()))) (k.fZ U ai aq (aE.1,aE.2.1,ae.2.2.2.1,aE.2.2.2.1,aE.2.2.2.2.1,aE.2.2.2.2.2.1,aE.2.2.2.2.2.2.1,aE.2.2.2.2.2.2.2.1,aE.2.2.2.2.2.2.2.2.1,()))
def Kk(k:qO)(U:af.D)(aa:af.D)(ae:aG.D)(ai:I.D):Option (oO) :=(lZ (U,())).bind fun v1 =>(oK (v1.1,ai,())).bind fun v2 =>(qL (U,v2.1,())).bind fun v3 =>some (v3.1,v3.2.1,())
def Sd(k:qO):qO:=⟨zx k,zy k,Kj k,Kk k⟩
def hM:Nat→qO:=eO Sd ⟨fun _ _ _ _ _ _=>none,fun _ _ _ _ _=>none,fun _ _ _ _ _ _=>none,fun _ _ _ _=>none⟩
def se(x:af.D×aI.D×aH.D×Unit):Option (oO):=sd (hM aQ) x.1 x.2.1 x.2.2.1
abbrev DB:Type:=Int→(List UInt8)→Bool→Option ((List UInt8)×Unit)
def Se(bw:DB)(a1:Int):Option ((List UInt8)×Unit) :=cond (a1==0) (some (([48]:List UInt8),())) (bw a1 ([]:List UInt8) (decide (a1<0)))
def zz(bw:DB)(U:Int)(aa:List UInt8)(ae:Bool):Option ((List UInt8)×Unit) :=cond (U != 0) (cond (decide (Int.tmod U 10<0)) (cond (room ((gF [IntKind.wrap .u8 (aK (48+aK (0-(Int.tmod U 10))))]).length+aa.length)) (bw (aK (Int.tdiv U 10)) ((gF [IntKind.wrap .u8 (aK (48+aK (0-(Int.tmod U 10))))])++aa) ae) (none)) (cond (room ((gF [IntKind.wrap .u8 (aK (48+Int.tmod U 10))]).length+aa.length)) (bw (aK (Int.tdiv U 10)) ((gF [IntKind.wrap .u8 (aK (48+Int.tmod U 10))])++aa) ae) (none))) (cond ae (cond (room (([45]:List UInt8).length+aa.length)) (some (([45]:List UInt8)++aa,())) (none)) (some (aa,())))
def pO:Nat→DB | 0,_,_,_=>none | m+1,U,aa,ae=>zz (pO m) U aa ae
def hO(x:Int×Unit):Option ((List UInt8)×Unit):=Se (pO aQ) x.1
abbrev DC:Type:=Int→Int→Int→af.D→Option (Int×Unit)
def DD(dI:DC)(a1:af.D)(a2:Int):Option (Int×Unit) :=(jM (a1,a2,())).bind fun v1 =>cond (decide (v1.1<0)) (some (0,())) ((aO a1.2.1.length v1.1).bind fun v2 =>cond ((J I a1.2.1 v2).2.1 != 2) ((zr (a1,a2,())).bind fun v3 =>some (v3.1,())) (dI v1.1 2 0 a1))
def DE(dI:DC)(U:Int)(aa:Int)(ae:Int)(ai:af.D):Option (Int×Unit) :=(aO ai.2.1.length U).bind fun v1 =>cond (decide (ae<(((J I ai.2.1 v1).2.2.2.2.2.2.1).length:Int))) ((aO ai.2.1.length U).bind fun v2 =>(aO (((J I ai.2.1 v2).2.2.2.2.2.2.1).length) ae).bind fun v3 =>(xa (ai,(J ax ((J I ai.2.1 v2).2.2.2.2.2.2.1) v3).2.1,())).bind fun v4 =>cond v4.1 (dI U (aK (aa+1)) (aK (ae+1)) ai) (dI U aa (aK (ae+1)) ai)) (some (aa,()))
def uE:Nat→DC | 0,_,_,_,_=>none | m+1,U,aa,ae,ai=>DE (uE m) U aa ae ai
def DF(x:af.D×Int×Unit):Option (Int×Unit):=DD (uE aQ) x.1 x.2.1
structure nI where
 bw:af.D→aI.D→aH.D→aG.D→Option (aG.D×Unit)
 da:af.D→aI.D→aH.D→aG.D→aV.D→Option (aG.D×Unit)
 nJ:Int→aH.D→aG.D→I.D→(List Int)→Option (aG.D×Unit)
 sf:(List UInt8)→Int→aG.D→I.D→Option (aG.D×Unit)
 DG:(List UInt8)→Int→aG.D→I.D→Option (aG.D×Unit)
def qP(k:nI)(a1:af.D)(a2:aI.D)(a3:aH.D):Option (aG.D×Unit) :=cond (a3.1==18) ((hO ((a1.2.1.length:Int),())).bind fun v1 =>cond (room (v1.1.length +([32]:List UInt8).length)) ((zh (a1,())).bind fun v2 =>(hO (v2.1,())).bind fun v3 =>cond (room ((v1.1++([32]:List UInt8)).length+v3.1.length)) (some ((0,(v1.1++([32]:List UInt8))++v3.1,()),())) (none)) (none)) (cond (a3.1==14) (cond (a3.2.2.2.1 != 0) (cond (a3.2.2.2.1 != 1) (some ((22,([]:List UInt8),()),())) (cond (a3.1==17) ((eg (a3.2.2.2.1,0,7,())).bind fun v4 =>cond (!v4.1) (some ((22,([]:List UInt8),()),())) (k.bw a1 a2 a3 (0,([]:List UInt8),()))) (k.bw a1 a2 a3 (0,([]:List UInt8),())))) (cond (a3.1==17) ((eg (a3.2.2.2.1,0,7,())).bind fun v5 =>cond (!v5.1) (some ((22,([]:List UInt8),()),())) (k.bw a1 a2 a3 (0,([]:List UInt8),()))) (k.bw a1 a2 a3 (0,([]:List UInt8),())))) (cond (a3.1==17) ((eg (a3.2.2.2.1,0,7,())).bind fun v6 =>cond (!v6.1) (some ((22,([]:List UInt8),()),())) (k.bw a1 a2 a3 (0,([]:List UInt8),()))) (k.bw a1 a2 a3 (0,([]:List UInt8),()))))
def Kl(k:nI)(U:af.D)(aa:aI.D)(ae:aH.D)(ai:aG.D):Option (aG.D×Unit) :=cond (ae.1 != 11) (cond (ae.1 != 14) ((dX (U,aa,ae.2.1,true,())).bind fun v1 =>k.da U aa ae ai v1.1) ((dX (U,aa,ae.2.1,ae.2.2.2.1==0,())).bind fun v2 =>k.da U aa ae ai v2.1)) ((dX (U,aa,ae.2.1,false,())).bind fun v3 =>k.da U aa ae ai v3.1)
def qQ(k:nI)(U:af.D)(aa:aI.D)(ae:aH.D)(ai:aG.D)(aq:aV.D):Option (aG.D×Unit) :=cond (aq.2.2.2.1 != 0) (some ((aq.2.2.2.1,([]:List UInt8),()),())) ((eW (U,aq.2.2.1,())).bind fun v1 =>cond (ae.1==4) (cond (v1.1.2.1==2) (some ((21,([]:List UInt8),()),())) ((jL (aa,v1.1,4,())).bind fun v2 =>cond (!v2.1) (some ((13,([]:List UInt8),()),())) (cond (decide (ae.2.2.2.1<0)) (some ((22,([]:List UInt8),()),())) (cond (decide (ae.2.2.2.2.1<0)) (some ((22,([]:List UInt8),()),())) (k.nJ ae.2.2.2.1 ae ai v1.1 ([]:List Int)))))) (cond (ae.1==11) (cond (v1.1.2.1 != 3) (some ((22,([]:List UInt8),()),())) (some ((0,v1.1.2.2.2.2.2.1,()),()))) (cond (ae.1==13) (cond (!(v1.1.2.1==2)) (some ((20,([]:List UInt8),()),())) ((jL (aa,v1.1,4,())).bind fun v3 =>cond (!v3.1) (some ((13,([]:List UInt8),()),())) (k.sf ([]:List UInt8) 0 ai v1.1))) (cond (ae.1==14) ((hO (v1.1.2.1,())).bind fun v4 =>cond (room (v4.1.length +([32]:List UInt8).length)) ((hO (v1.1.2.2.1,())).bind fun v5 =>cond (room ((v4.1++([32]:List UInt8)).length+v5.1.length)) (cond (room (((v4.1++([32]:List UInt8))++v5.1).length +([32]:List UInt8).length)) ((hO (v1.1.2.2.2.1,())).bind fun v6 =>cond (room ((((v4.1++([32]:List UInt8))++v5.1)++([32]:List UInt8)).length+v6.1.length)) (cond (room (((((v4.1++([32]:List UInt8))++v5.1)++([32]:List UInt8))++v6.1).length +([32]:List UInt8).length)) ((hO (v1.1.2.2.2.2.1,())).bind fun bt =>cond (room ((((((v4.1++([32]:List UInt8))++v5.1)++([32]:List UInt8))++v6.1)++([32]:List UInt8)).length+bt.1.length)) (cond (room (((((((v4.1++([32]:List UInt8))++v5.1)++([32]:List UInt8))++v6.1)++([32]:List UInt8))++bt.1).length +([32]:List UInt8).length)) ((DF (U,v1.1.1,())).bind fun dn =>(hO (dn.1,())).bind fun v9 =>cond (room ((((((((v4.1++([32]:List UInt8))++v5.1)++([32]:List UInt8))++v6.1)++([32]:List UInt8))++bt.1)++([32]:List UInt8)).length+v9.1.length)) (cond (room (((((((((v4.1++([32]:List UInt8))++v5.1)++([32]:List UInt8))++v6.1)++([32]:List UInt8))++bt.1)++([32]:List UInt8))++v9.1).length +([32]:List UInt8).length)) ((hO ((v1.1.2.2.2.2.2.1.length:Int),())).bind fun v10 =>cond (room ((((((((((v4.1++([32]:List UInt8))++v5.1)++([32]:List UInt8))++v6.1)++([32]:List UInt8))++bt.1)++([32]:List UInt8))++v9.1)++([32]:List UInt8)).length+v10.1.length)) (some ((0,(((((((((v4.1++([32]:List UInt8))++v5.1)++([32]:List UInt8))++v6.1)++([32]:List UInt8))++bt.1)++([32]:List UInt8))++v9.1)++([32]:List UInt8))++v10.1,()),())) (none)) (none)) (none)) (none)) (none)) (none)) (none)) (none)) (none)) (none)) (cond (ae.1==17) ((jL (aa,v1.1,ae.2.2.2.1,())).bind fun v11 =>cond (!v11.1) (some ((13,([]:List UInt8),()),())) (some ((0,([]:List UInt8),()),()))) (cond (!(v1.1.2.1==2)) (some ((20,([]:List UInt8),()),())) ((jL (aa,v1.1,4,())).bind fun v12 =>cond (!v12.1) (some ((13,([]:List UInt8),()),())) ((zk (U,v1.1.1,())).bind fun jO =>(hO (v1.1.2.2.2.2.2.2.2.1,())).bind fun mK =>cond (room (mK.1.length +([32]:List UInt8).length)) ((hO (v1.1.2.2.2.2.2.2.2.2.1,())).bind fun hP =>cond (room ((mK.1++([32]:List UInt8)).length+hP.1.length)) (cond (room (((mK.1++([32]:List UInt8))++hP.1).length +([32]:List UInt8).length)) ((hO (jO.1,())).bind fun oP =>cond (room ((((mK.1++([32]:List UInt8))++hP.1)++([32]:List UInt8)).length+oP.1.length)) (cond (room (((((mK.1++([32]:List UInt8))++hP.1)++([32]:List UInt8))++oP.1).length +([32]:List UInt8).length)) ((hO (jO.2.1,())).bind fun nK =>cond (room ((((((mK.1++([32]:List UInt8))++hP.1)++([32]:List UInt8))++oP.1)++([32]:List UInt8)).length+nK.1.length)) (some ((0,(((((mK.1++([32]:List UInt8))++hP.1)++([32]:List UInt8))++oP.1)++([32]:List UInt8))++nK.1,()),())) (none)) (none)) (none)) (none)) (none)) (none)))))))))
def abR(k:nI)(U:Int)(aa:aH.D)(ae:aG.D)(ai:I.D)(v2:List Int):Option (aG.D×Unit) :=k.nJ (aK (U+1)) aa ae ai v2
def DH(k:nI)(U:Int)(aa:aH.D)(ae:aG.D)(ai:I.D)(aq:List Int):Option (aG.D×Unit) :=cond (decide (U<(ai.2.2.2.2.2.1.length:Int))) (cond (decide (U<aK (aa.2.2.2.1+aa.2.2.2.2.1))) ((aO ai.2.2.2.2.2.1.length U).bind fun v1 =>cond (room (aq.length+[((ai.2.2.2.2.2.1.getD v1 0).toNat:Int)].length)) (abR k U aa ae ai (aq++[((ai.2.2.2.2.2.1.getD v1 0).toNat:Int)])) (none)) (some ((0,gF aq,()),()))) (some ((0,gF aq,()),()))
def DI(k:nI)(U:List UInt8)(aa:Int)(ae:aG.D)(ai:I.D):Option (aG.D×Unit) :=cond (decide (aa<(ai.2.2.2.2.2.2.1.length:Int))) (cond (decide (aa>0)) (cond (room (U.length +([47]:List UInt8).length)) (k.DG (U++([47]:List UInt8)) aa ae ai) (none)) (k.DG U aa ae ai)) (some ((0,U,()),()))
def Km(k:nI)(U:List UInt8)(aa:Int)(ae:aG.D)(ai:I.D):Option (aG.D×Unit) :=(aO ai.2.2.2.2.2.2.1.length aa).bind fun v1 =>cond (room (U.length +((J ax ai.2.2.2.2.2.2.1 v1).1).length)) (k.sf (U++((J ax ai.2.2.2.2.2.2.1 v1).1)) (aK (aa+1)) ae ai) (none)
def Sf(k:nI):nI:=⟨Kl k,qQ k,DH k,DI k,Km k⟩
def fs:Nat→nI:=eO Sf ⟨fun _ _ _ _=>none,fun _ _ _ _ _=>none,fun _ _ _ _ _=>none,fun _ _ _ _=>none,fun _ _ _ _=>none⟩
def kE(x:af.D×aI.D×aH.D×Unit):Option (aG.D×Unit):=qP (fs aQ) x.1 x.2.1 x.2.2.1
abbrev qR:Type:=af.D×aG.D×Unit
structure sg where
 dI:Int→af.D→aI.D→aH.D→af.D→aG.D→Option (qR)
 db:Int→af.D→aI.D→aH.D→af.D→aG.D→Option (qR)
 oQ:Int→af.D→aI.D→aH.D→af.D→aG.D→Option (qR)
def sh(k:sg)(a1:af.D)(a2:aI.D)(a3:aH.D):Option (qR) :=(JY (a3,())).bind fun v1 =>cond (!v1.1) (some (a1,(22,([]:List UInt8),()),())) (cond (decide (a3.1>20)) (some (a1,(22,([]:List UInt8),()),())) (cond (a3.1==1) (cond (a3.1==1) ((r' (a1,a2,a3,())).bind fun v2 =>some (v2.1,v2.2.1,())) (k.dI a3.1 a1 a2 a3 (0,([]:List I.D),()) (0,([]:List UInt8),()))) (cond (a3.1==3) (cond (a3.1==3) ((r' (a1,a2,a3,())).bind fun v3 =>some (v3.1,v3.2.1,())) (k.dI a3.1 a1 a2 a3 (0,([]:List I.D),()) (0,([]:List UInt8),()))) (cond (a3.1==10) ((r' (a1,a2,a3,())).bind fun v4 =>some (v4.1,v4.2.1,())) (k.dI a3.1 a1 a2 a3 (0,([]:List I.D),()) (0,([]:List UInt8),()))))))
def abS(k:sg)(U:Int)(aa:af.D)(ae:aI.D)(ai:aH.D)(aq:af.D)(aE:aG.D):Option (qR) :=cond (U==2) (cond (U==2) ((w_ (aa,ae,ai,())).bind fun v1 =>some (v1.1,v1.2.1,())) (k.db U aa ae ai aq aE)) (cond (U==8) ((w_ (aa,ae,ai,())).bind fun v2 =>some (v2.1,v2.2.1,())) (k.db U aa ae ai aq aE))
def abT(k:sg)(U:Int)(aa:af.D)(ae:aI.D)(ai:aH.D)(aq:af.D)(aE:aG.D):Option (qR) :=cond (U==9) ((Dt (aa,ae,ai,())).bind fun v1 =>some (v1.1,v1.2.1,())) (cond (U==12) ((Dy (aa,ae,ai,())).bind fun v2 =>some (v2.1,v2.2.1,())) (cond (U==5) (cond (U==5) ((xb (aa,ae,ai,())).bind fun v3 =>some (v3.1,v3.2.1,())) (k.oQ U aa ae ai aq aE)) (cond (U==6) (cond (U==6) ((xb (aa,ae,ai,())).bind fun v4 =>some (v4.1,v4.2.1,())) (k.oQ U aa ae ai aq aE)) (cond (U==7) ((xb (aa,ae,ai,())).bind fun v5 =>some (v5.1,v5.2.1,())) (k.oQ U aa ae ai aq aE)))))
def abU(k:sg)(U:Int)(aa:af.D)(ae:aI.D)(ai:aH.D)(aq:af.D)(aE:aG.D):Option (qR) :=cond (U==15) (cond (U==15) ((se (aa,ae,ai,())).bind fun v1 =>some (v1.1,v1.2.1,())) ((kE (aa,ae,ai,())).bind fun v2 =>some (aa,v2.1,()))) (cond (U==16) (cond (U==16) ((se (aa,ae,ai,())).bind fun v3 =>some (v3.1,v3.2.1,())) ((kE (aa,ae,ai,())).bind fun v4 =>some (aa,v4.1,()))) (cond (U==19) ((se (aa,ae,ai,())).bind fun v5 =>some (v5.1,v5.2.1,())) ((kE (aa,ae,ai,())).bind fun v6 =>some (aa,v6.1,()))))
def Sg(k:sg):sg:=⟨abS k,abT k,abU k⟩
def zA:Nat→sg:=eO Sg ⟨fun _ _ _ _ _ _=>none,fun _ _ _ _ _ _=>none,fun _ _ _ _ _ _=>none⟩
def k7(x:af.D×aI.D×aH.D×Unit):Option (qR):=sh (zA aQ) x.1 x.2.1 x.2.2.1
abbrev Sh:Type:=Int×bq.D×Unit
def Kn(a1:bq.D)(a2:List Int):Option (Sh) :=(gm (a1,(a2.length:Int),())).bind fun v1 =>(aO a2.length v1.1).bind fun v2 =>some (J (ad.int .i64) a2 (0+v2),v1.2.1,())
def i'(x:bq.D×(List Int)×Unit):Option (Sh):=Kn x.1 x.2.1
abbrev Si:Type:=aI.D×bq.D×Unit
def Ko(a1:bq.D):Option (Si) :=(gm (a1,4,())).bind fun v1 =>cond (v1.1==0) (cond (v1.1==0) (some ((0,0,([]:List Int),()),v1.2.1,())) (cond (v1.1==2) (some ((2,2,[5],()),v1.2.1,())) (some ((3,2,([]:List Int),()),v1.2.1,())))) (cond (v1.1==1) (some ((0,0,([]:List Int),()),v1.2.1,())) (cond (v1.1==2) (some ((2,2,[5],()),v1.2.1,())) (some ((3,2,([]:List Int),()),v1.2.1,()))))
def zB(x:bq.D×Unit):Option (Si):=Ko x.1
abbrev uF:Type:=(List UInt8)×bq.D×Unit
structure uG where
 bb:Int→Int→bq.D→(List Int)→Option (uF)
 db:Int→Int→Int→bq.D→(List Int)→Option (uF)
def DJ(k:uG)(a1:bq.D)(a2:Int):Option (uF) :=(gm (a1,4,())).bind fun v1 =>(gm (v1.2.1,aK (a2+1),())).bind fun v2 =>k.bb v1.1 v2.1 v2.2.1 ([]:List Int)
def zC(k:uG)(U:Int)(aa:Int)(ae:bq.D)(ai:List Int):Option (uF) :=cond (decide (aa>0)) ((qG (ae,())).bind fun v1 =>cond (U==1) (cond (U==2) (k.db U aa (aK (97+Int.tmod (Int.tmod v1.1 2) 4)) v1.2.1 ai) (k.db U aa (Int.tmod v1.1 2) v1.2.1 ai)) (cond (U==2) (k.db U aa (aK (97+Int.tmod v1.1 4)) v1.2.1 ai) (k.db U aa v1.1 v1.2.1 ai))) (some (gF ai,ae,()))
def Kp(k:uG)(U:Int)(aa:Int)(ae:Int)(ai:bq.D)(aq:List Int):Option (uF) :=cond (room (aq.length+[IntKind.wrap .u8 (ae)].length)) (k.bb U (aK (aa-1)) ai (aq++[IntKind.wrap .u8 (ae)])) (none)
def Sj(k:uG):uG:=⟨zC k,Kp k⟩
def si:Nat→uG:=eO Sj ⟨fun _ _ _ _=>none,fun _ _ _ _ _=>none⟩
def zD(x:bq.D×Int×Unit):Option (uF):=DJ (si aQ) x.1 x.2.1
abbrev Sk:Type:=(List UInt8)×bq.D×Unit
def Kq(a1:bq.D)(a2:List (List UInt8)):Option (Sk) :=(gm (a1,(a2.length:Int),())).bind fun v1 =>(aO a2.length v1.1).bind fun v2 =>some (J ad.str a2 (0+v2),v1.2.1,())
def qS(x:bq.D×(List (List UInt8))×Unit):Option (Sk):=Kq x.1 x.2.1
abbrev Sl:Type:=(List UInt8)×bq.D×Unit
def Kr(a1:bq.D):Option (Sl) :=(qS (a1,[([97]:List UInt8),([98]:List UInt8),([99]:List UInt8),([100,49]:List UInt8),([115,117,98]:List UInt8)],())).bind fun v1 =>some (v1.1,v1.2.1,())
def xc(x:bq.D×Unit):Option (Sl):=Kr x.1
abbrev qT:Type:=(List UInt8)×bq.D×Unit
structure sj where
 k3:(List UInt8)→Int→bq.D→Option (qT)
 jN:(List UInt8)→bq.D→Option (qT)
 oR:(List UInt8)→bq.D→Option (qT)
def DK(k:sj)(a1:bq.D):Option (qT) :=(gm (a1,5,())).bind fun v1 =>k.k3 ([]:List UInt8) v1.1 v1.2.1
def zE(k:sj)(U:List UInt8)(aa:Int)(ae:bq.D):Option (qT) :=cond (decide (aa>0)) (cond (room (U.length +([47]:List UInt8).length)) ((xc (ae,())).bind fun v1 =>cond (room ((U++([47]:List UInt8)).length+v1.1.length)) ((gm (v1.2.1,14,())).bind fun v2 =>cond (v2.1==0) (cond (room (((U++([47]:List UInt8))++v1.1).length +([47,46]:List UInt8).length)) (k.k3 (((U++([47]:List UInt8))++v1.1)++([47,46]:List UInt8)) (aK (aa-1)) v2.2.1) (none)) (cond (v2.1==1) (cond (room (((U++([47]:List UInt8))++v1.1).length +([47,46,46]:List UInt8).length)) (k.k3 (((U++([47]:List UInt8))++v1.1)++([47,46,46]:List UInt8)) (aK (aa-1)) v2.2.1) (none)) (cond (v2.1==2) (cond (room (((U++([47]:List UInt8))++v1.1).length +([47]:List UInt8).length)) (k.k3 (((U++([47]:List UInt8))++v1.1)++([47]:List UInt8)) (aK (aa-1)) v2.2.1) (none)) (cond (v2.1==3) ((qS (v2.2.1,[([108,111,110,103,110,97,109,101,57]:List UInt8),([65,66,67]:List UInt8),([120,32,121]:List UInt8),([46,104,105,100]:List UInt8),([46,46,46]:List UInt8)],())).bind fun v3 =>cond (room (((U++([47]:List UInt8))++v1.1).length+v3.1.length)) (k.k3 (((U++([47]:List UInt8))++v1.1)++v3.1) (aK (aa-1)) v3.2.1) (none)) (k.k3 ((U++([47]:List UInt8))++v1.1) (aK (aa-1)) v2.2.1))))) (none)) (none)) (cond (bs U ([]:List UInt8)) (k.jN U ae) ((r6 (ae,20,())).bind fun v4 =>cond v4.1 (k.jN U v4.2.1) (k.oR U v4.2.1)))
def Ks(k:sj)(U:List UInt8)(aa:bq.D):Option (qT) :=cond (room (U.length +([47]:List UInt8).length)) (k.oR (U++([47]:List UInt8)) aa) (none)
def Kt(k:sj)(U:List UInt8)(aa:bq.D):Option (qT) :=(r6 (aa,30,())).bind fun v1 =>cond v1.1 ((qS (v1.2.1,[([]:List UInt8),([97]:List UInt8),([47,97,47,98,47,99,47,100,47,97,47,98,47,99,47,100,47,97,47,98,47,99,47,100,47,97,47,98,47,99,47,100,47,97,47,98,47,99,47,100,47,97,47,98,47,99,47,100,47,97,47,98,47,99,47,100,47,97,47,98]:List UInt8),([47,97,47,98,47,99,47,100,47,97,47,98,47,99,47,100,47,97,47,98,47,99,47,100,47,97,47,98,47,99,47,100,47,97,47,98,47,99,47,100,47,97,47,98,47,99,47,100,47,97,47,98,47,99,47,100,47,97,47]:List UInt8)],())).bind fun v2 =>some (v2.1,v2.2.1,())) (some (U,v1.2.1,()))
def Sm(k:sj):sj:=⟨zE k,Ks k,Kt k⟩
def oS:Nat→sj:=eO Sm ⟨fun _ _ _=>none,fun _ _=>none,fun _ _=>none⟩
def DL(x:bq.D×Unit):Option (qT):=DK (oS aQ) x.1
abbrev zF:Type:=(List UInt8)×bq.D×Unit
abbrev DM:Type:=(List UInt8)→Int→Int→bq.D→af.D→Option (zF)
def DN(da:DM)(a1:bq.D)(a2:af.D):Option (zF) :=(r6 (a1,4,())).bind fun v1 =>cond v1.1 ((DL (v1.2.1,())).bind fun v2 =>some (v2.1,v2.2.1,())) ((gm (v1.2.1,4,())).bind fun v3 =>da ([]:List UInt8) 1 v3.1 v3.2.1 a2)
def xd(da:DM)(U:List UInt8)(aa:Int)(ae:Int)(ai:bq.D)(aq:af.D):Option (zF) :=cond (decide (ae≥0)) ((jM (aq,aa,())).bind fun v1 =>cond (decide (v1.1<0)) (cond (room (U.length +([47]:List UInt8).length)) ((xc (ai,())).bind fun v2 =>cond (room ((U++([47]:List UInt8)).length+v2.1.length)) (some ((U++([47]:List UInt8))++v2.1,v2.2.1,())) (none)) (none)) ((aO aq.2.1.length v1.1).bind fun v3 =>cond ((((J I aq.2.1 v3).2.2.2.2.2.2.1).length:Int)==0) (cond (room (U.length +([47]:List UInt8).length)) ((xc (ai,())).bind fun v4 =>cond (room ((U++([47]:List UInt8)).length+v4.1.length)) (some ((U++([47]:List UInt8))++v4.1,v4.2.1,())) (none)) (none)) ((aO aq.2.1.length v1.1).bind fun v5 =>(aO aq.2.1.length v1.1).bind fun v6 =>dup ((gm (ai,(((J I aq.2.1 v6).2.2.2.2.2.2.1).length:Int),())).bind fun bt =>(aO (((J I aq.2.1 v5).2.2.2.2.2.2.1).length) bt.1).bind fun dn =>cond (room (U.length +([47]:List UInt8).length)) (cond (room ((U++([47]:List UInt8)).length +((J ax ((J I aq.2.1 v5).2.2.2.2.2.2.1) dn).1).length)) (da ((U++([47]:List UInt8))++((J ax ((J I aq.2.1 v5).2.2.2.2.2.2.1) dn).1)) ((J ax ((J I aq.2.1 v5).2.2.2.2.2.2.1) dn).2.1) (aK (ae-1)) bt.2.1 aq) (none)) (none))))) (some (U,ai,()))
def uH:Nat→DM | 0,_,_,_,_,_=>none | m+1,U,aa,ae,ai,aq=>xd (uH m) U aa ae ai aq
def xe(x:bq.D×af.D×Unit):Option (zF):=DN (uH aQ) x.1 x.2.1
abbrev k8:Type:=aH.D×bq.D×Unit
structure oT where
 k2:bq.D→af.D→aH.D→aH.D→Option (k8)
 da:bq.D→aH.D→aH.D→Option (k8)
 c5:Int→bq.D→af.D→aH.D→aH.D→Option (k8)
 fZ:bq.D→aH.D→aH.D→Option (k8)
 oQ:bq.D→af.D→aH.D→aH.D→Option (k8)
 nJ:Int→bq.D→aH.D→aH.D→Option (k8)
def DO(k:oT)(a1:bq.D)(a2:af.D):Option (k8) :=both (both ((i' (a1,[1,1,1,2,3,3,3,4,5,5,6,7,8,9,10,10,11,12,12,12,13,14,15,16,17,18,19,20],())).bind fun v1 =>dup ((xe (v1.2.1,a2,())).bind fun v2 =>k.k2 v2.2.1 a2 (0,([]:List UInt8),([]:List UInt8),0,0,([]:List UInt8),()) (v1.1,v2.1,([]:List UInt8),0,0,([]:List UInt8),()))) ((i' (a1,[1,1,1,2,3,3,3,4,5,5,6,7,8,9,10,10,11,12,12,12,13,14,15,16,17,18,19,20],())).bind fun v1 =>(xe (v1.2.1,a2,())).bind fun v2 =>k.k2 v2.2.1 a2 (0,([]:List UInt8),([]:List UInt8),0,0,([]:List UInt8),()) (v1.1,v2.1,([]:List UInt8),0,0,([]:List UInt8),()))) ((i' (a1,[1,1,1,2,3,3,3,4,5,5,6,7,8,9,10,10,11,12,12,12,13,14,15,16,17,18,19,20],())).bind fun v1 =>(xe (v1.2.1,a2,())).bind fun v2 =>k.k2 v2.2.1 a2 (0,([]:List UInt8),([]:List UInt8),0,0,([]:List UInt8),()) (v1.1,v2.1,([]:List UInt8),0,0,([]:List UInt8),()))
def Ku(k:oT)(U:bq.D)(aa:af.D)(ae:aH.D)(ai:aH.D):Option (k8) :=cond (ai.1==1) (cond (ai.1==1) (k.da U ae ai) (k.c5 ai.1 U aa ae ai)) (cond (ai.1==3) (cond (ai.1==3) (k.da U ae ai) (k.c5 ai.1 U aa ae ai)) (cond (ai.1==15) (k.da U ae ai) (k.c5 ai.1 U aa ae ai)))
def Kv(k:oT)(U:bq.D)(aa:aH.D)(ae:aH.D):Option (k8) :=(i' (U,[511,511,493,448,420,1535,1023,0,320],())).bind fun v1 =>k.fZ v1.2.1 aa (ae.1,ae.2.1,ae.2.2.1,v1.1,ae.2.2.2.2.1,ae.2.2.2.2.2.1,())
def Kw(k:oT)(U:Int)(aa:bq.D)(ae:af.D)(ai:aH.D)(aq:aH.D):Option (k8) :=cond (U==4) ((gm (aa,8,())).bind fun v1 =>(gm (v1.2.1,20,())).bind fun v2 =>k.fZ v2.2.1 ai (aq.1,aq.2.1,aq.2.2.1,v1.1,v2.1,aq.2.2.2.2.2.1,())) (cond (U==5) ((gm (aa,20,())).bind fun v3 =>(zD (v3.2.1,30,())).bind fun v4 =>k.fZ v4.2.1 ai (aq.1,aq.2.1,aq.2.2.1,v3.1,aq.2.2.2.2.1,v4.1,())) (cond (U==6) ((zD (aa,30,())).bind fun v5 =>k.fZ v5.2.1 ai (aq.1,aq.2.1,aq.2.2.1,aq.2.2.2.1,aq.2.2.2.2.1,v5.1,())) (cond (U==7) ((gm (aa,70,())).bind fun v6 =>k.fZ v6.2.1 ai (aq.1,aq.2.1,aq.2.2.1,v6.1,aq.2.2.2.2.1,aq.2.2.2.2.2.1,())) (cond (U==9) (cond (U==9) (k.oQ aa ae ai aq) (k.nJ U aa ai aq)) (cond (U==12) (k.oQ aa ae ai aq) (k.nJ U aa ai aq))))))
def Kx(k:oT)(U:bq.D)(aa:aH.D)(ae:aH.D):Option (k8) :=(r6 (U,25,())).bind fun v1 =>cond v1.1 ((gm (v1.2.1,6,())).bind fun v2 =>cond (v2.1==0) ((i' (v2.2.1,[(-1),0,21,22,23],())).bind fun v3 =>some ((v3.1,ae.2.1,ae.2.2.1,ae.2.2.2.1,ae.2.2.2.2.1,ae.2.2.2.2.2.1,()),v3.2.1,())) (cond (v2.1==1) ((i' (v2.2.1,[(-1),2048,65,401,1000000,1000001],())).bind fun v4 =>some ((ae.1,ae.2.1,ae.2.2.1,v4.1,ae.2.2.2.2.1,ae.2.2.2.2.2.1,()),v4.2.1,())) (cond (v2.1==2) ((i' (v2.2.1,[(-1),25,1001,1000001],())).bind fun v5 =>some ((ae.1,ae.2.1,ae.2.2.1,ae.2.2.2.1,v5.1,ae.2.2.2.2.2.1,()),v5.2.1,())) (cond (v2.1==3) (cond (room (ae.2.2.2.2.2.1.length +([121]:List UInt8).length)) (some ((ae.1,ae.2.1,ae.2.2.1,ae.2.2.2.1,ae.2.2.2.2.1,ae.2.2.2.2.2.1++([121]:List UInt8),()),v2.2.1,())) (none)) (cond (v2.1==4) ((qS (v2.2.1,[([]:List UInt8),([47,122]:List UInt8),([98,97,100,32,112,97,116,104]:List UInt8),([47,47]:List UInt8)],())).bind fun v6 =>some ((ae.1,ae.2.1,v6.1,ae.2.2.2.1,ae.2.2.2.2.1,ae.2.2.2.2.2.1,()),v6.2.1,())) ((DL (v2.2.1,())).bind fun bt =>some ((ae.1,bt.1,ae.2.2.1,ae.2.2.2.1,ae.2.2.2.2.1,ae.2.2.2.2.2.1,()),bt.2.1,()))))))) (some (ae,v1.2.1,()))
def Ky(k:oT)(U:bq.D)(aa:af.D)(ae:aH.D)(ai:aH.D):Option (k8) :=(xe (U,aa,())).bind fun v1 =>k.fZ v1.2.1 ae (ai.1,ai.2.1,v1.1,ai.2.2.2.1,ai.2.2.2.2.1,ai.2.2.2.2.2.1,())
def Kz(k:oT)(U:Int)(aa:bq.D)(ae:aH.D)(ai:aH.D):Option (k8) :=cond (U==10) ((qS (aa,[([47,97]:List UInt8),([98]:List UInt8),([46,46,47,99]:List UInt8),([47,115,117,98,47,97]:List UInt8),([46]:List UInt8),([47]:List UInt8),([100,49,47,98]:List UInt8),([47,99]:List UInt8)],())).bind fun v1 =>k.fZ v1.2.1 ae (ai.1,ai.2.1,v1.1,ai.2.2.2.1,ai.2.2.2.2.1,ai.2.2.2.2.2.1,())) (cond (U==14) ((gm (aa,2,())).bind fun v2 =>k.fZ v2.2.1 ae (ai.1,ai.2.1,ai.2.2.1,v2.1,ai.2.2.2.2.1,ai.2.2.2.2.2.1,())) (cond (U==16) ((i' (aa,[0,2,3],())).bind fun v3 =>(i' (v3.2.1,[0,2,5],())).bind fun v4 =>k.fZ v4.2.1 ae (ai.1,ai.2.1,ai.2.2.1,v3.1,v4.1,ai.2.2.2.2.2.1,())) (cond (U==17) ((gm (aa,8,())).bind fun v5 =>k.fZ v5.2.1 ae (ai.1,ai.2.1,ai.2.2.1,v5.1,ai.2.2.2.2.1,ai.2.2.2.2.2.1,())) (cond (U==19) ((i' (aa,[0,0,20,60,200],())).bind fun v6 =>(i' (v6.2.1,[0,0,2,5,10],())).bind fun bt =>k.fZ bt.2.1 ae (ai.1,ai.2.1,ai.2.2.1,v6.1,bt.1,ai.2.2.2.2.2.1,())) (k.fZ aa ae ai)))))
def Sn(k:oT):oT:=⟨Ku k,Kv k,Kw k,Kx k,Ky k,Kz k⟩
def k9:Nat→oT:=eO Sn ⟨fun _ _ _ _=>none,fun _ _ _=>none,fun _ _ _ _ _=>none,fun _ _ _=>none,fun _ _ _ _=>none,fun _ _ _ _=>none⟩
def DP(x:bq.D×af.D×Unit):Option (k8):=DO (k9 aQ) x.1 x.2.1
abbrev So:Type:=aH.D×bq.D×Unit
def KA(a1:bq.D):Option (So) :=(JU ()).bind fun v1 =>(DP (a1,v1.1,())).bind fun v2 =>some (v2.1,v2.2.1,())
def DQ(x:bq.D×Unit):Option (So):=KA x.1
abbrev xf:Type:=af.D×bq.D×Unit
abbrev zG:Type:=Int→bq.D→af.D→af.D→Option (xf)
def Sp(bw:zG)(v2:Int×bq.D×Unit)(a2:Int)(v1:af.D×Unit)(v4:List I.D):Option (xf) :=(gm (v2.2.1,a2,())).bind fun v5 =>cond (decide (v5.1>0)) ((zB (v5.2.1,())).bind fun v6 =>(DQ (v6.2.1,())).bind fun bt =>(k7 ((v1.1.1,v4,()),v6.1,bt.1,())).bind fun dn =>bw v5.1 bt.2.1 (0,([]:List I.D),()) dn.1) ((y_ ((v1.1.1,v4,()),())).bind fun v9 =>some (v9.1,v5.2.1,()))
def DR(bw:zG)(a1:bq.D)(a2:Int):Option (xf) :=(y6 ()).bind fun v1 =>(i' (a1,[511,511,493,1023,2047],())).bind fun v2 =>(aO v1.1.2.1.length 0).bind fun v3 =>Sp bw v2 a2 v1 (v1.1.2.1.set (0+v3) ((J I v1.1.2.1 (0+v3)).1,(J I v1.1.2.1 (0+v3)).2.1,v2.1,(J I v1.1.2.1 (0+v3)).2.2.2.1,(J I v1.1.2.1 (0+v3)).2.2.2.2.1,(J I v1.1.2.1 (0+v3)).2.2.2.2.2.1,(J I v1.1.2.1 (0+v3)).2.2.2.2.2.2.1,(J I v1.1.2.1 (0+v3)).2.2.2.2.2.2.2.1,(J I v1.1.2.1 (0+v3)).2.2.2.2.2.2.2.2.1,()))
def xg(bw:zG)(U:Int)(aa:bq.D)(ae:af.D)(ai:af.D):Option (xf) :=cond (decide (aK (U-1)>0)) ((zB (aa,())).bind fun v1 =>(DQ (v1.2.1,())).bind fun v2 =>(k7 (ai,v1.1,v2.1,())).bind fun v3 =>bw (aK (U-1)) v2.2.1 ae v3.1) ((y_ (ai,())).bind fun v4 =>some (v4.1,aa,()))
def uI:Nat→zG | 0,_,_,_,_=>none | m+1,U,aa,ae,ai=>xg (uI m) U aa ae ai
def KB(x:bq.D×Int×Unit):Option (xf):=DR (uI aQ) x.1 x.2.1
abbrev pP:Type:=af.D×bq.D×Unit
def abV(v1:af.D×bq.D×Unit)(v6:Int×bq.D×Unit)(dn:List I.D):Option (pP) :=some ((v1.1.1,dn,()),v6.2.1,())
def abW(v1:af.D×bq.D×Unit)(v9:Int×bq.D×Unit)(v11:List I.D):Option (pP) :=some ((v1.1.1,v11,()),v9.2.1,())
def abX(v1:af.D×bq.D×Unit)(v4:Int×bq.D×Unit)(mK:List I.D):Option (pP) :=some ((v1.1.1,mK,()),v4.2.1,())
def abY(v1:af.D×bq.D×Unit)(nK:Int×bq.D×Unit)(abZ:List I.D):Option (pP) :=some ((v1.1.1,abZ,()),nK.2.1,())
def ab0(v1:af.D×bq.D×Unit)(v20:Int×bq.D×Unit)(v22:List I.D):Option (pP) :=some ((v1.1.1,v22,()),v20.2.1,())
def ab1(v1:af.D×bq.D×Unit)(DS:Int×bq.D×Unit)(ab2:List I.D):Option (pP) :=some ((v1.1.1,ab2,()),DS.2.1,())
def ab3(v1:af.D×bq.D×Unit)(v4:Int×bq.D×Unit)(ab4:List I.D):Option (pP) :=some ((v1.1.1,ab4,()),v4.2.1,())
def ab5(v1:af.D×bq.D×Unit)(DT:Int×bq.D×Unit)(ab6:List I.D):Option (pP) :=some ((v1.1.1,ab6,()),DT.2.1,())
def KC(a1:bq.D)(a2:Int):Option (pP) :=(KB (a1,a2,())).bind fun v1 =>(r6 (v1.2.1,10,())).bind fun v2 =>cond (!v2.1) (some (v1.1,v2.2.1,())) ((gm (v2.2.1,(v1.1.2.1.length:Int),())).bind fun v3 =>(gm (v3.2.1,9,())).bind fun v4 =>cond (v4.1==0) ((i' (v4.2.1,[0,1,2,100000,100001],())).bind fun v5 =>some ((v5.1,v1.1.2.1,()),v5.2.1,())) (cond (v4.1==1) ((gm (v4.2.1,5,())).bind fun v6 =>(aO v1.1.2.1.length v3.1).bind fun bt =>abV v1 v6 (v1.1.2.1.set (0+bt) ((J I v1.1.2.1 (0+bt)).1,v6.1,(J I v1.1.2.1 (0+bt)).2.2.1,(J I v1.1.2.1 (0+bt)).2.2.2.1,(J I v1.1.2.1 (0+bt)).2.2.2.2.1,(J I v1.1.2.1 (0+bt)).2.2.2.2.2.1,(J I v1.1.2.1 (0+bt)).2.2.2.2.2.2.1,(J I v1.1.2.1 (0+bt)).2.2.2.2.2.2.2.1,(J I v1.1.2.1 (0+bt)).2.2.2.2.2.2.2.2.1,()))) (cond (v4.1==2) ((i' (v4.2.1,[(-1),0,511,2047,2048],())).bind fun v9 =>(aO v1.1.2.1.length v3.1).bind fun v10 =>abW v1 v9 (v1.1.2.1.set (0+v10) ((J I v1.1.2.1 (0+v10)).1,(J I v1.1.2.1 (0+v10)).2.1,v9.1,(J I v1.1.2.1 (0+v10)).2.2.2.1,(J I v1.1.2.1 (0+v10)).2.2.2.2.1,(J I v1.1.2.1 (0+v10)).2.2.2.2.2.1,(J I v1.1.2.1 (0+v10)).2.2.2.2.2.2.1,(J I v1.1.2.1 (0+v10)).2.2.2.2.2.2.2.1,(J I v1.1.2.1 (0+v10)).2.2.2.2.2.2.2.2.1,()))) (cond (v4.1==3) ((aO v1.1.2.1.length v3.1).bind fun v12 =>cond (room (((J I v1.1.2.1 (0+v12)).2.2.2.2.2.1).length +([120]:List UInt8).length)) ((aO v1.1.2.1.length v3.1).bind fun jO =>abX v1 v4 (v1.1.2.1.set (0+jO) ((J I v1.1.2.1 (0+jO)).1,(J I v1.1.2.1 (0+jO)).2.1,(J I v1.1.2.1 (0+jO)).2.2.1,(J I v1.1.2.1 (0+jO)).2.2.2.1,(J I v1.1.2.1 (0+jO)).2.2.2.2.1,((J I v1.1.2.1 (0+v12)).2.2.2.2.2.1)++([120]:List UInt8),(J I v1.1.2.1 (0+jO)).2.2.2.2.2.2.1,(J I v1.1.2.1 (0+jO)).2.2.2.2.2.2.2.1,(J I v1.1.2.1 (0+jO)).2.2.2.2.2.2.2.2.1,()))) (none)) (cond (v4.1==4) ((aO v1.1.2.1.length v3.1).bind fun hP =>(qS (v4.2.1,[([122,122]:List UInt8),([122,46]:List UInt8),([]:List UInt8),([90]:List UInt8)],())).bind fun oP =>(gm (oP.2.1,6,())).bind fun nK =>(aO v1.1.2.1.length v3.1).bind fun ab7 =>cond (Nat.beq (0+ab7) (0+hP)) (cond (room (((J I v1.1.2.1 (0+hP)).2.2.2.2.2.2.1).length+[(oP.1,nK.1,())].length)) (abY v1 nK (v1.1.2.1.set (0+hP) ((J I v1.1.2.1 (0+hP)).1,(J I v1.1.2.1 (0+hP)).2.1,(J I v1.1.2.1 (0+hP)).2.2.1,(J I v1.1.2.1 (0+hP)).2.2.2.1,(J I v1.1.2.1 (0+hP)).2.2.2.2.1,(J I v1.1.2.1 (0+hP)).2.2.2.2.2.1,((J I v1.1.2.1 (0+hP)).2.2.2.2.2.2.1)++[(oP.1,nK.1,())],(J I v1.1.2.1 (0+hP)).2.2.2.2.2.2.2.1,(J I v1.1.2.1 (0+hP)).2.2.2.2.2.2.2.2.1,()))) (none)) (none)) (cond (v4.1==5) ((i' (v4.2.1,[(-1),1,5,400,401],())).bind fun v20 =>(aO v1.1.2.1.length v3.1).bind fun v21 =>ab0 v1 v20 (v1.1.2.1.set (0+v21) ((J I v1.1.2.1 (0+v21)).1,(J I v1.1.2.1 (0+v21)).2.1,(J I v1.1.2.1 (0+v21)).2.2.1,(J I v1.1.2.1 (0+v21)).2.2.2.1,(J I v1.1.2.1 (0+v21)).2.2.2.2.1,(J I v1.1.2.1 (0+v21)).2.2.2.2.2.1,(J I v1.1.2.1 (0+v21)).2.2.2.2.2.2.1,v20.1,(J I v1.1.2.1 (0+v21)).2.2.2.2.2.2.2.2.1,()))) (cond (v4.1==6) ((i' (v4.2.1,[(-1),1,24,25],())).bind fun DS =>(aO v1.1.2.1.length v3.1).bind fun v24 =>ab1 v1 DS (v1.1.2.1.set (0+v24) ((J I v1.1.2.1 (0+v24)).1,(J I v1.1.2.1 (0+v24)).2.1,(J I v1.1.2.1 (0+v24)).2.2.1,(J I v1.1.2.1 (0+v24)).2.2.2.1,(J I v1.1.2.1 (0+v24)).2.2.2.2.1,(J I v1.1.2.1 (0+v24)).2.2.2.2.2.1,(J I v1.1.2.1 (0+v24)).2.2.2.2.2.2.1,(J I v1.1.2.1 (0+v24)).2.2.2.2.2.2.2.1,DS.1,()))) (cond (v4.1==7) (cond (room (v1.1.2.1.length +([(aK (v1.1.1-1),1,0,0,0,([]:List UInt8),([]:List ax.D),0,0,())]).length)) (ab3 v1 v4 (v1.1.2.1++([(aK (v1.1.1-1),1,0,0,0,([]:List UInt8),([]:List ax.D),0,0,())]))) (none)) ((gm (v4.2.1,5,())).bind fun DT =>(aO v1.1.2.1.length v3.1).bind fun v28 =>ab5 v1 DT (v1.1.2.1.set (0+v28) (DT.1,(J I v1.1.2.1 (0+v28)).2.1,(J I v1.1.2.1 (0+v28)).2.2.1,(J I v1.1.2.1 (0+v28)).2.2.2.1,(J I v1.1.2.1 (0+v28)).2.2.2.2.1,(J I v1.1.2.1 (0+v28)).2.2.2.2.2.1,(J I v1.1.2.1 (0+v28)).2.2.2.2.2.2.1,(J I v1.1.2.1 (0+v28)).2.2.2.2.2.2.2.1,(J I v1.1.2.1 (0+v28)).2.2.2.2.2.2.2.2.1,())))))))))))
def KD(x:bq.D×Int×Unit):Option (pP):=KC x.1 x.2.1
def KE(a1:List Int)(a2:Int):Option (Int×Unit) :=cond (decide (aK (2+aK (Int.tdiv (a1.length:Int) 20))>a2)) (some (a2,())) (some (aK (2+aK (Int.tdiv (a1.length:Int) 20)),()))
def KF(x:(List Int)×Int×Unit):Option (Int×Unit):=KE x.1 x.2.1
abbrev Sq:Type:=aI.D×bq.D×Unit
def KG(a1:bq.D):Option (Sq) :=(zB (a1,())).bind fun v1 =>(r6 (v1.2.1,10,())).bind fun v2 =>cond v2.1 ((gm (v2.2.1,3,())).bind fun v3 =>cond (v3.1==0) ((i' (v3.2.1,[(-1),1000,1001],())).bind fun v4 =>some ((v4.1,v1.1.2.1,v1.1.2.2.1,()),v4.2.1,())) (cond (v3.1==1) ((i' (v3.2.1,[(-1),1000,1001],())).bind fun v5 =>some ((v1.1.1,v5.1,v1.1.2.2.1,()),v5.2.1,())) ((gm (v3.2.1,2,())).bind fun v6 =>(d' ([1,2,3,4,5].length) 0 (aK (4+v6.1))).bind fun bt =>some ((v1.1.1,v1.1.2.1,part [1,2,3,4,5] (0+bt.1) (bt.2-bt.1),()),v6.2.1,())))) (some (v1.1,v2.2.1,()))
def KH(x:bq.D×Unit):Option (Sq):=KG x.1
abbrev Sr:Type:=af.D×aI.D×aH.D×Unit
def KI(a1:List Int):Option (Sr) :=(JR (a1,())).bind fun v1 =>(KF (a1,50,())).bind fun v2 =>(KD (v1.1,v2.1,())).bind fun v3 =>(KH (v3.2.1,())).bind fun v4 =>(DP (v4.2.1,v3.1,())).bind fun v5 =>some (v3.1,v4.1,v5.1,())
def KJ(x:(List Int)×Unit):Option (Sr):=KI x.1
abbrev DU:Type:=(List UInt8)→Int→Option (Bool×Unit)
def DV(bb:DU)(a1:List UInt8):Option (Bool×Unit) :=(eg ((a1.length:Int),1,8,())).bind fun v1 =>cond (!v1.1) (some (false,())) (cond (bs a1 ([46]:List UInt8)) (some (false,())) (cond (bs a1 ([46,46]:List UInt8)) (some (false,())) (bb a1 0)))
def DW(bb:DU)(U:List UInt8)(aa:Int):Option (Bool×Unit) :=cond (decide (aa<(U.length:Int))) ((aO U.length aa).bind fun v1 =>(za (((U.getD v1 0).toNat:Int),())).bind fun v2 =>cond (!v2.1) (some (false,())) (bb U (aK (aa+1)))) (some (true,()))
def sk:Nat→DU | 0,_,_=>none | m+1,U,aa=>DW (sk m) U aa
def KK(x:(List UInt8)×Unit):Option (Bool×Unit):=DV (sk aQ) x.1
structure uJ where
 bb:Bool→af.D→I.D→Option (Bool×Unit)
 mH:Int→af.D→I.D→Option (Bool×Unit)
def DX(k:uJ)(a1:af.D)(a2:I.D):Option (Bool×Unit) :=(eg (a2.2.2.1,0,2047,())).bind fun v1 =>cond (!v1.1) (some (false,())) ((eg (a2.2.2.2.1,0,1000,())).bind fun v2 =>cond (!v2.1) (some (false,())) ((eg (a2.2.2.2.2.1,0,1000,())).bind fun v3 =>cond (!v3.1) (some (false,())) (cond ((a2.2.2.2.2.2.2.1.length:Int)==0) (cond (a2.2.2.2.2.2.2.2.1==0) (k.bb (a2.2.2.2.2.2.2.2.2.1==0) a1 a2) (k.bb false a1 a2)) (k.bb false a1 a2))))
def KL(k:uJ)(U:Bool)(aa:af.D)(ae:I.D):Option (Bool×Unit) :=cond (ae.2.1==1) (cond U (some (decide ((ae.2.2.2.2.2.1.length:Int)≤64),())) (some (false,()))) (cond (ae.2.1==3) (cond U ((zb (ae.2.2.2.2.2.1,())).bind fun v1 =>cond v1.1 (some (ae.2.2.1==511,())) (some (false,()))) (some (false,()))) (cond (ae.2.1==2) (cond (!(bs ae.2.2.2.2.2.1 ([]:List UInt8))) (some (false,())) (cond (decide ((ae.2.2.2.2.2.2.1.length:Int)>12)) (some (false,())) ((eg (ae.2.2.2.2.2.2.2.1,0,400,())).bind fun v2 =>cond (!v2.1) (some (false,())) ((eg (ae.2.2.2.2.2.2.2.2.1,0,24,())).bind fun v3 =>cond (!v3.1) (some (false,())) (k.mH 0 aa ae))))) (some (false,()))))
def zH(k:uJ)(U:Int)(aa:af.D)(ae:I.D):Option (Bool×Unit) :=cond (decide (U<(ae.2.2.2.2.2.2.1.length:Int))) ((aO ae.2.2.2.2.2.2.1.length U).bind fun v1 =>(KK ((J ax ae.2.2.2.2.2.2.1 v1).1,())).bind fun v2 =>cond (!v2.1) (some (false,())) (cond (decide (U>0)) ((aO ae.2.2.2.2.2.2.1.length (aK (U-1))).bind fun v3 =>cond (!(dx ((J ax ae.2.2.2.2.2.2.1 v3).1) ((J ax ae.2.2.2.2.2.2.1 v1).1))) (some (false,())) (cond ((J ax ae.2.2.2.2.2.2.1 v1).2.1==1) (some (false,())) ((jM (aa,(J ax ae.2.2.2.2.2.2.1 v1).2.1,())).bind fun v4 =>cond (decide (v4.1<0)) (some (false,())) (k.mH (aK (U+1)) aa ae)))) (cond ((J ax ae.2.2.2.2.2.2.1 v1).2.1==1) (some (false,())) ((jM (aa,(J ax ae.2.2.2.2.2.2.1 v1).2.1,())).bind fun v5 =>cond (decide (v5.1<0)) (some (false,())) (k.mH (aK (U+1)) aa ae))))) (some (true,()))
def Ss(k:uJ):uJ:=⟨KL k,zH k⟩
def qU:Nat→uJ:=eO Ss ⟨fun _ _ _=>none,fun _ _ _=>none⟩
def DY(x:af.D×I.D×Unit):Option (Bool×Unit):=DX (qU aQ) x.1 x.2.1
structure uK where
 bb:Int→af.D→Option (Bool×Unit)
 db:Int→af.D→(List Bool)→Option (Bool×Unit)
def DZ(k:uK)(a1:af.D):Option (Bool×Unit) :=(eg (a1.1,2,100000,())).bind fun v1 =>cond (!v1.1) (some (false,())) ((eg ((a1.2.1.length:Int),1,24,())).bind fun v2 =>cond (!v2.1) (some (false,())) ((aO a1.2.1.length 0).bind fun v3 =>cond ((J I a1.2.1 v3).1 != 1) (some (false,())) ((aO a1.2.1.length 0).bind fun v4 =>cond ((J I a1.2.1 v4).2.1 != 2) (some (false,())) (k.bb 0 a1))))
def uL(k:uK)(U:Int)(aa:af.D):Option (Bool×Unit) :=cond (decide (U<(aa.2.1.length:Int))) ((aO aa.2.1.length U).bind fun v1 =>(eg ((J I aa.2.1 v1).1,1,aK (aa.1-1),())).bind fun v2 =>cond (!v2.1) (some (false,())) (cond (decide (U>0)) ((aO aa.2.1.length (aK (U-1))).bind fun v3 =>cond (decide ((J I aa.2.1 v3).1≥(J I aa.2.1 v1).1)) (some (false,())) ((DY (aa,J I aa.2.1 v1,())).bind fun v4 =>cond (!v4.1) (some (false,())) (k.bb (aK (U+1)) aa))) ((DY (aa,J I aa.2.1 v1,())).bind fun v5 =>cond (!v5.1) (some (false,())) (k.bb (aK (U+1)) aa)))) ((Dg (aa,1,())).bind fun v6 =>k.db 1 aa v6.1)
def uM(k:uK)(U:Int)(aa:af.D)(ae:List Bool):Option (Bool×Unit) :=cond (decide (U<(aa.2.1.length:Int))) ((aO ae.length U).bind fun v1 =>cond (!(J ad.bool ae (0+v1))) (some (false,())) ((aO aa.2.1.length U).bind fun v2 =>cond ((J I aa.2.1 v2).2.1==2) ((aO aa.2.1.length U).bind fun v3 =>(zr (aa,(J I aa.2.1 v3).1,())).bind fun v4 =>cond (v4.1 != 1) (some (false,())) (k.db (aK (U+1)) aa ae)) (k.db (aK (U+1)) aa ae))) ((zh (aa,())).bind fun v5 =>cond (decide (v5.1≤400)) ((Dl (aa,())).bind fun v6 =>some (!v6.1,())) (some (false,())))
def St(k:uK):uK:=⟨uL k,uM k⟩
def nL:Nat→uK:=eO St ⟨fun _ _=>none,fun _ _ _=>none⟩
def D0(x:af.D×Unit):Option (Bool×Unit):=DZ (nL aQ) x.1
def KM(a1:Int)(a2:Int)(a3:Int):Option (Bool×Unit) :=cond (decide (a1≥a2)) (some (decide (a1≤a3),())) (some (false,()))
def eL(x:Int×Int×Int×Unit):Option (Bool×Unit):=KM x.1 x.2.1 x.2.2.1
def Su(a1:Int):Option (Bool×Unit) :=cond (decide (a1≥97)) (cond (decide (a1≤122)) (some (true,())) (cond (decide (a1≥48)) (cond (decide (a1≤57)) (some (true,())) (cond (a1==46) (some (true,())) (cond (a1==95) (some (true,())) (some (a1==45,()))))) (cond (a1==46) (some (true,())) (cond (a1==95) (some (true,())) (some (a1==45,())))))) (cond (decide (a1≥48)) (cond (decide (a1≤57)) (some (true,())) (cond (a1==46) (some (true,())) (cond (a1==95) (some (true,())) (some (a1==45,()))))) (cond (a1==46) (some (true,())) (cond (a1==95) (some (true,())) (some (a1==45,())))))
def D1(x:Int×Unit):Option (Bool×Unit):=Su x.1
abbrev D2:Type:=(List UInt8)→Int→Int→Option (Bool×Unit)
def D3(k2:D2)(a1:List UInt8):Option (Bool×Unit) :=k2 a1 (a1.length:Int) 0
def D4(k2:D2)(U:List UInt8)(aa:Int)(ae:Int):Option (Bool×Unit) :=cond (decide (ae<aa)) ((aO U.length ae).bind fun v1 =>cond (((U.getD v1 0).toNat:Int) != 47) ((aO U.length ae).bind fun v2 =>(D1 (((U.getD v2 0).toNat:Int),())).bind fun v3 =>cond (!v3.1) (some (false,())) (k2 U aa (aK (ae+1)))) (k2 U aa (aK (ae+1)))) ((eL ((U.length:Int),1,60,())).bind fun v4 =>some (v4.1,()))
def uN:Nat→D2 | 0,_,_,_=>none | m+1,U,aa,ae=>D4 (uN m) U aa ae
def xh(x:(List UInt8)×Unit):Option (Bool×Unit):=D3 (uN aQ) x.1
abbrev zI:Type:=(List I.D)×Unit
abbrev D5:Type:=af.D→Int→Int→Int→Option (zI)
def D6(k2:D5)(a1:af.D)(a2:Int):Option (zI) :=k2 a1 a2 (a1.2.1.length:Int) 0
def D7(k2:D5)(U:af.D)(aa:Int)(ae:Int)(ai:Int):Option (zI) :=cond (decide (ai<ae)) ((aO U.2.1.length ai).bind fun v1 =>cond ((J I U.2.1 v1).1==aa) ((aO U.2.1.length ai).bind fun v2 =>some ([J I U.2.1 v2],())) (k2 U aa ae (aK (ai+1)))) (some ([],()))
def uO:Nat→D5 | 0,_,_,_,_=>none | m+1,U,aa,ae,ai=>D7 (uO m) U aa ae ai
def fE(x:af.D×Int×Unit):Option (zI):=D6 (uO aQ) x.1 x.2.1
abbrev D8:Type:=Int→Int→Int→af.D→Option (Int×af.D×Unit)
def D9(k2:D8)(a1:af.D)(a2:Int):Option (Int×af.D×Unit) :=k2 a2 (a1.2.1.length:Int) 0 a1
def D_(k2:D8)(U:Int)(aa:Int)(ae:Int)(ai:af.D):Option (Int×af.D×Unit) :=cond (decide (ae<aa)) ((aO ai.2.1.length ae).bind fun v1 =>cond ((J I ai.2.1 (0+v1)).1==U) ((aO ai.2.1.length ae).bind fun v2 =>some ((((0+v2):Nat):Int),ai,())) (k2 U aa (aK (ae+1)) ai)) (some ((-1),ai,()))
def uP:Nat→D8 | 0,_,_,_,_=>none | m+1,U,aa,ae,ai=>D_ (uP m) U aa ae ai
def xi(x:af.D×Int×Unit):Option (Int×af.D×Unit):=D9 (uP aQ) x.1 x.2.1
abbrev D':Type:=(List UInt8)→Int→Int→Option (Bool×Unit)
def Ea(k2:D')(a1:List UInt8):Option (Bool×Unit) :=k2 a1 (a1.length:Int) 0
def Eb(k2:D')(U:List UInt8)(aa:Int)(ae:Int):Option (Bool×Unit) :=cond (decide (ae<aa)) ((aO U.length ae).bind fun v1 =>(D1 (((U.getD v1 0).toNat:Int),())).bind fun v2 =>cond (!v2.1) (some (false,())) (k2 U aa (aK (ae+1)))) ((eL ((U.length:Int),1,8,())).bind fun v3 =>cond v3.1 (cond (!(bs U ([46]:List UInt8))) (some (!(bs U ([46,46]:List UInt8)),())) (some (false,()))) (some (false,())))
def uQ:Nat→D' | 0,_,_,_=>none | m+1,U,aa,ae=>Eb (uQ m) U aa ae
def KN(x:(List UInt8)×Unit):Option (Bool×Unit):=Ea (uQ aQ) x.1
abbrev Ec:Type:=af.D→(List ax.D)→Int→Int→I.D→Option (Bool×Unit)
def Ed(k2:Ec)(a1:af.D)(a2:I.D):Option (Bool×Unit) :=k2 a1 a2.2.2.2.2.2.2.1 (a2.2.2.2.2.2.2.1.length:Int) 0 a2
def Ee(k2:Ec)(U:af.D)(aa:List ax.D)(ae:Int)(ai:Int)(aq:I.D):Option (Bool×Unit) :=cond (decide (ai<ae)) ((aO aa.length ai).bind fun v1 =>(KN ((J ax aa v1).1,())).bind fun v2 =>cond (!v2.1) (some (false,())) (cond ((J ax aa v1).2.1==1) (some (false,())) ((fE (U,(J ax aa v1).2.1,())).bind fun v3 =>cond (!(!List.isEmpty v3.1)) (some (false,())) (cond (decide (ai>0)) ((aO aq.2.2.2.2.2.2.1.length (aK (ai-1))).bind fun v4 =>cond (!(dx ((J ax aq.2.2.2.2.2.2.1 v4).1) ((J ax aa v1).1))) (some (false,())) (k2 U aa ae (aK (ai+1)) aq)) (k2 U aa ae (aK (ai+1)) aq))))) (some (decide ((aq.2.2.2.2.2.2.1.length:Int)≤12),()))
def uR:Nat→Ec | 0,_,_,_,_,_=>none | m+1,U,aa,ae,ai,aq=>Ee (uR m) U aa ae ai aq
def KO(x:af.D×I.D×Unit):Option (Bool×Unit):=Ed (uR aQ) x.1 x.2.1
abbrev Ef:Type:=af.D→I.D→Option (Bool×Unit)
def Eg(bw:Ef)(a1:af.D)(a2:I.D):Option (Bool×Unit) :=(eL (a2.2.2.1,0,2047,())).bind fun v1 =>cond (!v1.1) (some (false,())) ((eL (a2.2.2.2.1,0,1000,())).bind fun v2 =>cond (!v2.1) (some (false,())) ((eL (a2.2.2.2.2.1,0,1000,())).bind fun v3 =>cond (!v3.1) (some (false,())) (cond (a2.2.1 != 2) (cond (decide ((a2.2.2.2.2.2.2.1.length:Int)>0)) (some (false,())) (cond (a2.2.2.2.2.2.2.2.1 != 0) (some (false,())) (cond (a2.2.2.2.2.2.2.2.2.1 != 0) (some (false,())) (bw a1 a2)))) (bw a1 a2))))
def KP(bw:Ef)(U:af.D)(aa:I.D):Option (Bool×Unit) :=cond (aa.2.1==1) (some (decide ((aa.2.2.2.2.2.1.length:Int)≤64),())) (cond (aa.2.1==3) ((xh (aa.2.2.2.2.2.1,())).bind fun v1 =>cond v1.1 (some (aa.2.2.1==511,())) (some (false,()))) (cond (aa.2.1==2) (cond (bs aa.2.2.2.2.2.1 ([]:List UInt8)) ((KO (U,aa,())).bind fun v2 =>cond v2.1 ((eL (aa.2.2.2.2.2.2.2.1,0,400,())).bind fun v3 =>cond v3.1 ((eL (aa.2.2.2.2.2.2.2.2.1,0,24,())).bind fun v4 =>some (v4.1,())) (some (false,()))) (some (false,()))) (some (false,()))) (some (false,()))))
def zJ:Nat→Ef | 0,_,_=>none | m+1,U,aa=>KP (zJ m) U aa
def Eh(x:af.D×I.D×Unit):Option (Bool×Unit):=Eg (zJ aQ) x.1 x.2.1
abbrev Ei:Type:=(List Int)→Int→Int→Int→Option (Int×Unit)
def Ej(k2:Ei)(a1:List Int)(a2:Int):Option (Int×Unit) :=k2 a1 a2 (a1.length:Int) 0
def Ek(k2:Ei)(U:List Int)(aa:Int)(ae:Int)(ai:Int):Option (Int×Unit) :=cond (decide (ai<ae)) ((aO U.length ai).bind fun v1 =>cond (aa==J (ad.int .i64) U v1) (some (ai,())) (k2 U aa ae (aK (ai+1)))) (some ((-1),()))
def uS:Nat→Ei | 0,_,_,_,_=>none | m+1,U,aa,ae,ai=>Ek (uS m) U aa ae ai
def KQ(x:(List Int)×Int×Unit):Option (Int×Unit):=Ej (uS aQ) x.1 x.2.1
def KR(a1:List Int)(a2:Int):Option (Bool×Unit) :=(KQ (a1,a2,())).bind fun v1 =>some (decide (v1.1≥0),())
def sm(x:(List Int)×Int×Unit):Option (Bool×Unit):=KR x.1 x.2.1
structure uT where
 bb:af.D→Int→(List Int)→(List Int)→Option ((List Int)×Unit)
 fB:af.D→Int→(List ax.D)→Int→Int→(List Int)→(List Int)→Option ((List Int)×Unit)
def El(k:uT)(a1:af.D)(a2:Int):Option ((List Int)×Unit) :=k.bb a1 0 ([]:List Int) [a2]
def qV(k:uT)(U:af.D)(aa:Int)(ae:List Int)(ai:List Int):Option ((List Int)×Unit) :=cond (decide (aa<(ai.length:Int))) ((aO ai.length aa).bind fun v1 =>(fE (U,J (ad.int .i64) ai (0+v1),())).bind fun v2 =>cond (!(!List.isEmpty v2.1)) (k.bb U (aK (aa+1)) ae ai) (cond (!List.isEmpty v2.1) (k.fB U aa ((J I v2.1 0).2.2.2.2.2.2.1) (((J I v2.1 0).2.2.2.2.2.2.1).length:Int) 0 ae ai) (none))) (some (ae,()))
def zK(k:uT)(U:af.D)(aa:Int)(ae:List ax.D)(ai:Int)(aq:Int)(aE:List Int)(bh:List Int):Option ((List Int)×Unit) :=cond (decide (aq<ai)) ((aO ae.length aq).bind fun v1 =>(sm (aE,(J ax ae v1).2.1,())).bind fun v2 =>cond (!v2.1) (cond (room (aE.length+[(J ax ae v1).2.1].length)) (cond (room (bh.length+[(J ax ae v1).2.1].length)) (k.fB U aa ae ai (aK (aq+1)) (aE++[(J ax ae v1).2.1]) (bh++[(J ax ae v1).2.1])) (none)) (none)) (k.fB U aa ae ai (aK (aq+1)) aE bh)) (k.bb U (aK (aa+1)) aE bh)
def Sv(k:uT):uT:=⟨qV k,zK k⟩
def mL:Nat→uT:=eO Sv ⟨fun _ _ _ _=>none,fun _ _ _ _ _ _ _=>none⟩
def uU(x:af.D×Int×Unit):Option ((List Int)×Unit):=El (mL aQ) x.1 x.2.1
structure uV where
 k3:Int→Int→(List I.D)→Int→Int→Option (Int×Unit)
 da:Int→Int→(List I.D)→Int→Int→(List ax.D)→Int→Int→Option (Int×Unit)
def Em(k:uV)(a1:af.D)(a2:Int):Option (Int×Unit) :=k.k3 a2 0 a1.2.1 (a1.2.1.length:Int) 0
def zL(k:uV)(U:Int)(aa:Int)(ae:List I.D)(ai:Int)(aq:Int):Option (Int×Unit) :=cond (decide (aq<ai)) ((aO ae.length aq).bind fun v1 =>k.da U aa ae ai aq ((J I ae v1).2.2.2.2.2.2.1) (((J I ae v1).2.2.2.2.2.2.1).length:Int) 0) (some (aa,()))
def zM(k:uV)(U:Int)(aa:Int)(ae:List I.D)(ai:Int)(aq:Int)(aE:List ax.D)(bh:Int)(bW:Int):Option (Int×Unit) :=cond (decide (bW<bh)) ((aO aE.length bW).bind fun v1 =>cond ((J ax aE v1).2.1==U) (k.da U (aK (aa+1)) ae ai aq aE bh (aK (bW+1))) (k.da U aa ae ai aq aE bh (aK (bW+1)))) (k.k3 U aa ae ai (aK (aq+1)))
def Sw(k:uV):uV:=⟨zL k,zM k⟩
def pQ:Nat→uV:=eO Sw ⟨fun _ _ _ _ _=>none,fun _ _ _ _ _ _ _ _=>none⟩
def xj(x:af.D×Int×Unit):Option (Int×Unit):=Em (pQ aQ) x.1 x.2.1
abbrev En:Type:=Int→(List I.D)→Int→Int→Option (Int×Unit)
def Eo(k3:En)(a1:af.D):Option (Int×Unit) :=k3 0 a1.2.1 (a1.2.1.length:Int) 0
def Ep(k3:En)(U:Int)(aa:List I.D)(ae:Int)(ai:Int):Option (Int×Unit) :=cond (decide (ai<ae)) ((aO aa.length ai).bind fun v1 =>k3 (aK (U +(((J I aa v1).2.2.2.2.2.1).length:Int))) aa ae (aK (ai+1))) (some (U,()))
def uW:Nat→En | 0,_,_,_,_=>none | m+1,U,aa,ae,ai=>Ep (uW m) U aa ae ai
def sn(x:af.D×Unit):Option (Int×Unit):=Eo (uW aQ) x.1
abbrev Er:Type:=af.D→Int→Int→Int→(List Int)→Option (Int×Int×Unit)
def Es(bb:Er)(a1:af.D)(a2:Int):Option (Int×Int×Unit) :=(uU (a1,a2,())).bind fun v1 =>bb a1 0 (v1.1.length:Int) 0 v1.1
def Et(bb:Er)(U:af.D)(aa:Int)(ae:Int)(ai:Int)(aq:List Int):Option (Int×Int×Unit) :=cond (decide (ai<ae)) ((aO aq.length ai).bind fun v1 =>(fE (U,J (ad.int .i64) aq (0+v1),())).bind fun v2 =>cond (!List.isEmpty v2.1) (cond (!List.isEmpty v2.1) (bb U (aK (aa +(((J I v2.1 0).2.2.2.2.2.1).length:Int))) ae (aK (ai+1)) aq) (none)) (bb U aa ae (aK (ai+1)) aq)) (some (aa,(aq.length:Int),()))
def qW:Nat→Er | 0,_,_,_,_,_=>none | m+1,U,aa,ae,ai,aq=>Et (qW m) U aa ae ai aq
def xk(x:af.D×Int×Unit):Option (Int×Int×Unit):=Es (qW aQ) x.1 x.2.1
def KS(a1:af.D)(a2:I.D):Option (Bool×Unit) :=(xk (a1,a2.1,())).bind fun v1 =>cond (decide (a2.2.2.2.2.2.2.2.1>0)) (cond (decide (v1.1>a2.2.2.2.2.2.2.2.1)) (some (true,())) (cond (decide (a2.2.2.2.2.2.2.2.2.1>0)) (some (decide (v1.2.1>a2.2.2.2.2.2.2.2.2.1),())) (some (false,())))) (cond (decide (a2.2.2.2.2.2.2.2.2.1>0)) (some (decide (v1.2.1>a2.2.2.2.2.2.2.2.2.1),())) (some (false,())))
def KT(x:af.D×I.D×Unit):Option (Bool×Unit):=KS x.1 x.2.1
abbrev Eu:Type:=(List I.D)→af.D→Int→Int→Option (Int×Unit)
def Ev(k2:Eu)(a1:List I.D)(a2:af.D):Option (Int×Unit) :=k2 a1 a2 (a1.length:Int) 0
def Ew(k2:Eu)(U:List I.D)(aa:af.D)(ae:Int)(ai:Int):Option (Int×Unit) :=cond (decide (ai<ae)) ((aO U.length ai).bind fun v1 =>(KT (aa,J I U v1,())).bind fun v2 =>cond v2.1 (some (ai,())) (k2 U aa ae (aK (ai+1)))) (some ((-1),()))
def uX:Nat→Eu | 0,_,_,_,_=>none | m+1,U,aa,ae,ai=>Ew (uX m) U aa ae ai
def KU(x:(List I.D)×af.D×Unit):Option (Int×Unit):=Ev (uX aQ) x.1 x.2.1
def KV(a1:List I.D)(a2:af.D):Option (Bool×Unit) :=(KU (a1,a2,())).bind fun v1 =>some (decide (v1.1≥0),())
def zN(x:(List I.D)×af.D×Unit):Option (Bool×Unit):=KV x.1 x.2.1
structure uY where
 bb:(List I.D)→Int→Int→af.D→Option (Bool×Unit)
 db:(List I.D)→Int→Int→af.D→(List Int)→Option (Bool×Unit)
def Ex(k:uY)(a1:af.D):Option (Bool×Unit) :=(eL (a1.1,2,100000,())).bind fun v1 =>cond (!v1.1) (some (false,())) ((eL ((a1.2.1.length:Int),1,24,())).bind fun v2 =>cond (!v2.1) (some (false,())) ((aO a1.2.1.length 0).bind fun v3 =>cond ((J I a1.2.1 v3).1 != 1) (some (false,())) ((aO a1.2.1.length 0).bind fun v4 =>cond ((J I a1.2.1 v4).2.1 != 2) (some (false,())) (k.bb a1.2.1 (a1.2.1.length:Int) 0 a1))))
def uZ(k:uY)(U:List I.D)(aa:Int)(ae:Int)(ai:af.D):Option (Bool×Unit) :=cond (decide (ae<aa)) ((aO U.length ae).bind fun v1 =>(eL ((J I U v1).1,1,aK (ai.1-1),())).bind fun v2 =>cond (!v2.1) (some (false,())) (cond (decide (ae>0)) ((aO ai.2.1.length (aK (ae-1))).bind fun v3 =>cond (decide ((J I ai.2.1 v3).1≥(J I U v1).1)) (some (false,())) ((Eh (ai,J I U v1,())).bind fun v4 =>cond (!v4.1) (some (false,())) (k.bb U aa (aK (ae+1)) ai))) ((Eh (ai,J I U v1,())).bind fun v5 =>cond (!v5.1) (some (false,())) (k.bb U aa (aK (ae+1)) ai)))) ((uU (ai,1,())).bind fun v6 =>(d' ai.2.1.length 1 (ai.2.1.length:Int)).bind fun bt =>k.db (part ai.2.1 bt.1 (bt.2-bt.1)) (((part ai.2.1 bt.1 (bt.2-bt.1)).length:Nat):Int) 0 ai v6.1)
def u0(k:uY)(U:List I.D)(aa:Int)(ae:Int)(ai:af.D)(aq:List Int):Option (Bool×Unit) :=cond (decide (ae<aa)) ((aO U.length ae).bind fun v1 =>(sm (aq,(J I U v1).1,())).bind fun v2 =>cond (!v2.1) (some (false,())) (cond ((J I U v1).2.1==2) ((xj (ai,(J I U v1).1,())).bind fun v3 =>cond (v3.1 != 1) (some (false,())) (k.db U aa (aK (ae+1)) ai aq)) (k.db U aa (aK (ae+1)) ai aq))) ((sn (ai,())).bind fun v4 =>cond (decide (v4.1≤400)) ((zN (ai.2.1,ai,())).bind fun v5 =>some (!v5.1,())) (some (false,())))
def Sx(k:uY):uY:=⟨uZ k,u0 k⟩
def nM:Nat→uY:=eO Sx ⟨fun _ _ _ _=>none,fun _ _ _ _ _=>none⟩
def xl(x:af.D×Unit):Option (Bool×Unit):=Ex (nM aQ) x.1
def ab8(a1:Int):Option (aG.D×Unit) :=some ((a1,([]:List UInt8),()),())
def eX(x:Int×Unit):Option (aG.D×Unit):=ab8 x.1
def KW(a1:Int):Option (Bool×Unit) :=(eL (a1,0,1000,())).bind fun v1 =>some (!v1.1,())
def Sy(x:Int×Unit):Option (Bool×Unit):=KW x.1
abbrev Ey:Type:=(List Int)→Int→Int→Option (Int×Unit)
def Ez(k2:Ey)(a1:List Int):Option (Int×Unit) :=k2 a1 (a1.length:Int) 0
def EA(k2:Ey)(U:List Int)(aa:Int)(ae:Int):Option (Int×Unit) :=cond (decide (ae<aa)) ((aO U.length ae).bind fun v1 =>(Sy (J (ad.int .i64) U v1,())).bind fun v2 =>cond v2.1 (some (ae,())) (k2 U aa (aK (ae+1)))) (some ((-1),()))
def u1:Nat→Ey | 0,_,_,_=>none | m+1,U,aa,ae=>EA (u1 m) U aa ae
def KX(x:(List Int)×Unit):Option (Int×Unit):=Ez (u1 aQ) x.1
def KY(a1:List Int):Option (Bool×Unit) :=(KX (a1,())).bind fun v1 =>some (decide (v1.1≥0),())
def KZ(x:(List Int)×Unit):Option (Bool×Unit):=KY x.1
def K0(a1:aI.D):Option (Bool×Unit) :=(eL (a1.1,0,1000,())).bind fun v1 =>cond (!v1.1) (some (false,())) ((eL (a1.2.1,0,1000,())).bind fun v2 =>cond (!v2.1) (some (false,())) (cond (decide ((a1.2.2.1.length:Int)>4)) (some (false,())) ((KZ (a1.2.2.1,())).bind fun v3 =>some (!v3.1,()))))
def xm(x:aI.D×Unit):Option (Bool×Unit):=K0 x.1
structure u2 where
 k3:Bool→Bool→aH.D→Option (Bool×Unit)
 bw:aH.D→Option (Bool×Unit)
def EB(k:u2)(a1:aH.D):Option (Bool×Unit) :=cond (a1.1==9) (cond (a1.1==5) (k.k3 true true a1) (k.k3 true (a1.1==6) a1)) (cond (a1.1==10) (cond (a1.1==5) (k.k3 true true a1) (k.k3 true (a1.1==6) a1)) (cond (a1.1==5) (k.k3 (a1.1==12) true a1) (k.k3 (a1.1==12) (a1.1==6) a1)))
def Sz(k:u2)(U:Bool)(aa:Bool)(ae:aH.D):Option (Bool×Unit) :=cond (!U) (cond (!(bs ae.2.2.1 ([]:List UInt8))) (some (false,())) (cond (!aa) (cond (!(bs ae.2.2.2.2.2.1 ([]:List UInt8))) (some (false,())) (k.bw ae)) (k.bw ae))) (cond (!aa) (cond (!(bs ae.2.2.2.2.2.1 ([]:List UInt8))) (some (false,())) (k.bw ae)) (k.bw ae))
def SA(k:u2)(U:aH.D):Option (Bool×Unit) :=(eL (U.1,1,22,())).bind fun v1 =>cond v1.1 (cond (decide ((U.2.1.length:Int)≤60)) (cond (decide ((U.2.2.1.length:Int)≤60)) (cond (decide ((U.2.2.2.2.2.1.length:Int)≤64)) ((eL (U.2.2.2.1,(-1000000),1000000,())).bind fun v2 =>cond v2.1 ((eL (U.2.2.2.2.1,(-1000000),1000000,())).bind fun v3 =>some (v3.1,())) (some (false,()))) (some (false,()))) (some (false,()))) (some (false,()))) (some (false,()))
def K1(k:u2):u2:=⟨Sz k,SA k⟩
def EC:Nat→u2:=eO K1 ⟨fun _ _ _=>none,fun _=>none⟩
def K2(x:aH.D×Unit):Option (Bool×Unit):=EB (EC aQ) x.1
abbrev xn:Type:=(List I.D)→Int→Int→af.D→af.D→Option (af.D×Unit)
def ED(k3:xn)(a1:af.D):Option (af.D×Unit) :=k3 a1.2.1 (a1.2.1.length:Int) 0 (0,([]:List I.D),()) (a1.1,([]:List I.D),())
def SB(k3:xn)(U:List I.D)(aa:Int)(ae:Int)(ai:af.D)(aq:af.D)(v3:List I.D):Option (af.D×Unit) :=k3 U aa (aK (ae+1)) ai (aq.1,v3,())
def SC(k3:xn)(aq:af.D)(U:List I.D)(v1:Nat)(aa:Int)(ae:Int)(ai:af.D)(v2:List ax.D):Option (af.D×Unit) :=cond (room (aq.2.1.length+[((J I U v1).1,(J I U v1).2.1,(J I U v1).2.2.1,(J I U v1).2.2.2.1,(J I U v1).2.2.2.2.1,(J I U v1).2.2.2.2.2.1,v2,(J I U v1).2.2.2.2.2.2.2.1,(J I U v1).2.2.2.2.2.2.2.2.1,())].length)) (SB k3 U aa ae ai aq (aq.2.1++[((J I U v1).1,(J I U v1).2.1,(J I U v1).2.2.1,(J I U v1).2.2.2.1,(J I U v1).2.2.2.2.1,(J I U v1).2.2.2.2.2.1,v2,(J I U v1).2.2.2.2.2.2.2.1,(J I U v1).2.2.2.2.2.2.2.2.1,())])) (none)
def EE(k3:xn)(U:List I.D)(aa:Int)(ae:Int)(ai:af.D)(aq:af.D):Option (af.D×Unit) :=cond (decide (ae<aa)) ((aO U.length ae).bind fun v1 =>cond (room (([]:List ax.D).length +((J I U v1).2.2.2.2.2.2.1).length)) (SC k3 aq U v1 aa ae ai (([]:List ax.D)++((J I U v1).2.2.2.2.2.2.1))) (none)) (some (aq,()))
def u3:Nat→xn | 0,_,_,_,_,_=>none | m+1,U,aa,ae,ai,aq=>EE (u3 m) U aa ae ai aq
def so(x:af.D×Unit):Option (af.D×Unit):=ED (u3 aQ) x.1
def K3(a1:List UInt8):Option (Bool×Unit) :=(xh (a1,())).bind fun v1 =>cond v1.1 ((aO a1.length 0).bind fun v2 =>some (((a1.getD v2 0).toNat:Int)==47,())) (some (false,()))
def K4(x:(List UInt8)×Unit):Option (Bool×Unit):=K3 x.1
structure u4 where
 k2:Int→(List I.D)→Int→Int→Option (Int×Unit)
 bw:Int→(List I.D)→Int→Int→(List ax.D)→Int→Int→I.D→Option (Int×Unit)
def EF(k:u4)(a1:af.D)(a2:Int):Option (Int×Unit) :=k.k2 a2 a1.2.1 (a1.2.1.length:Int) 0
def u5(k:u4)(U:Int)(aa:List I.D)(ae:Int)(ai:Int):Option (Int×Unit) :=cond (decide (ai<ae)) ((aO aa.length ai).bind fun v1 =>k.bw U aa ae ai ((J I aa v1).2.2.2.2.2.2.1) (((J I aa v1).2.2.2.2.2.2.1).length:Int) 0 (J I aa v1)) (some (1,()))
def u6(k:u4)(U:Int)(aa:List I.D)(ae:Int)(ai:Int)(aq:List ax.D)(aE:Int)(bh:Int)(bW:I.D):Option (Int×Unit) :=cond (decide (bh<aE)) ((aO aq.length bh).bind fun v1 =>cond ((J ax aq v1).2.1==U) (some (bW.1,())) (k.bw U aa ae ai aq aE (aK (bh+1)) bW)) (k.k2 U aa ae (aK (ai+1)))
def SD(k:u4):u4:=⟨u5 k,u6 k⟩
def kF:Nat→u4:=eO SD ⟨fun _ _ _ _=>none,fun _ _ _ _ _ _ _ _=>none⟩
def EG(x:af.D×Int×Unit):Option (Int×Unit):=EF (kF aQ) x.1 x.2.1
def K5(a1:aI.D)(a2:Int):Option (Bool×Unit) :=(xm (a1,())).bind fun v1 =>cond v1.1 (cond (a2==a1.2.1) (some (true,())) ((sm (a1.2.2.1,a2,())).bind fun v2 =>some (v2.1,()))) (some (false,()))
def u7(x:aI.D×Int×Unit):Option (Bool×Unit):=K5 x.1 x.2.1
def K6(a1:aI.D)(a2:I.D)(a3:Int):Option (Bool×Unit) :=(xm (a1,())).bind fun v1 =>cond (!v1.1) (some (false,())) ((eL (a3,0,7,())).bind fun v2 =>cond (!v2.1) (some (false,())) (cond (a1.1==0) (cond (a2.2.1 != 1) (some (true,())) (cond (cQ .and .i64 a2.2.2.1 73 != 0) (some (true,())) (some (cQ .and .i64 a3 1==0,())))) (cond (a1.1==a2.2.2.2.1) (some (cQ .and .i64 (cQ .and .i64 (Int.fdiv a2.2.2.1 (2 ^ min (Int.toNat 6) 64)) 7) a3==a3,())) ((u7 (a1,a2.2.2.2.2.1,())).bind fun v3 =>cond v3.1 (some (cQ .and .i64 (cQ .and .i64 (Int.fdiv a2.2.2.1 (2 ^ min (Int.toNat 3) 64)) 7) a3==a3,())) (some (cQ .and .i64 (cQ .and .i64 a2.2.2.1 7) a3==a3,()))))))
def pR(x:aI.D×I.D×Int×Unit):Option (Bool×Unit):=K6 x.1 x.2.1 x.2.2.1
abbrev EH:Type:=(List UInt8)→(List ax.D)→Int→Int→Option (Int×Unit)
def EI(k2:EH)(a1:I.D)(a2:List UInt8):Option (Int×Unit) :=k2 a2 a1.2.2.2.2.2.2.1 (a1.2.2.2.2.2.2.1.length:Int) 0
def EJ(k2:EH)(U:List UInt8)(aa:List ax.D)(ae:Int)(ai:Int):Option (Int×Unit) :=cond (decide (ai<ae)) ((aO aa.length ai).bind fun v1 =>cond (bs ((J ax aa v1).1) U) (some ((J ax aa v1).2.1,())) (k2 U aa ae (aK (ai+1)))) (some (0,()))
def sq:Nat→EH | 0,_,_,_,_=>none | m+1,U,aa,ae,ai=>EJ (sq m) U aa ae ai
def EK(x:I.D×(List UInt8)×Unit):Option (Int×Unit):=EI (sq aQ) x.1 x.2.1
def SE(_:(List UInt8)×Int×Unit):Option ((List (List UInt8))×Unit):=none
def SF(x:(List UInt8)×Int×Unit):Option (Int×Unit):=some (Lib.indexByte x.1 x.2.1.toNat.toUInt8,())
def ab9(a1:List UInt8)(a2:Int):Option (Int×Unit) :=(SF (a1,a2,())).bind fun v1 =>some (v1.1,())
def SG(x:(List UInt8)×Int×Unit):Option (Int×Unit):=ab9 x.1 x.2.1
def K7(a1:List UInt8)(a2:List UInt8):Option (Int×Unit) :=cond ((a2.length:Int)==0) (some (0,())) (cond (bs a2 a1) (some (0,())) (cond ((a2.length:Int)==1) ((aO a2.length 0).bind fun v1 =>(SG (a1,((a2.getD v1 0).toNat:Int),())).bind fun v2 =>some (v2.1,())) (cond (decide ((a2.length:Int)≥(a1.length:Int))) (some ((-1),())) (none))))
def SH(x:(List UInt8)×(List UInt8)×Unit):Option (Int×Unit):=K7 x.1 x.2.1
def K8(a1:List UInt8)(a2:List UInt8):Option (Int×Unit) :=(SH (a1,a2,())).bind fun v1 =>some (v1.1,())
def EL(x:(List UInt8)×(List UInt8)×Unit):Option (Int×Unit):=K8 x.1 x.2.1
def SI(_:(List UInt8)×Unit):Option (Int×Unit):=none
def SJ(x:(List UInt8)×Int×Unit):Option (Int×Unit):=some ((Lib.countByte x.1 x.2.1.toNat.toUInt8:Int),())
abbrev EM:Type:=(List UInt8)→(List UInt8)→Int→Option (Int×Unit)
def EN(da:EM)(a1:List UInt8)(a2:List UInt8):Option (Int×Unit) :=cond ((a2.length:Int)==0) ((SI (a1,())).bind fun v1 =>some (aK (v1.1+1),())) (cond ((a2.length:Int)==1) ((aO a2.length 0).bind fun v2 =>(SJ (a1,((a2.getD v2 0).toNat:Int),())).bind fun v3 =>some (v3.1,())) (da a1 a2 0))
def SK(da:EM)(U:List UInt8)(aa:List UInt8)(ae:Int):Option (Int×Unit) :=(EL (U,aa,())).bind fun v1 =>cond (v1.1 ==(-1)) (some (ae,())) ((d' U.length (aK (v1.1 +(aa.length:Int))) (U.length:Int)).bind fun v2 =>da (part U v2.1 (v2.2-v2.1)) aa (aK (ae+1)))
def EO:Nat→EM | 0,_,_,_=>none | m+1,U,aa,ae=>SK (EO m) U aa ae
def K9(x:(List UInt8)×(List UInt8)×Unit):Option (Int×Unit):=EN (EO aQ) x.1 x.2.1
abbrev pS:Type:=(List (List UInt8))×Unit
structure qX where
 c5:(List UInt8)→(List UInt8)→Int→Int→Option (pS)
 db:(List UInt8)→(List UInt8)→Int→Int→Int→(List (List UInt8))→Option (pS)
 oR:(List UInt8)→Int→(List (List UInt8))→Option (pS)
def EP(k:qX)(a1:List UInt8)(a2:List UInt8)(a3:Int)(a4:Int):Option (pS) :=cond (a4==0) (some (([]:List (List UInt8)),())) (cond (bs a2 ([]:List UInt8)) ((SE (a1,a4,())).bind fun v1 =>some (v1.1,())) (cond (decide (a4<0)) ((K9 (a1,a2,())).bind fun v2 =>k.c5 a1 a2 a3 (aK (v2.1+1))) (k.c5 a1 a2 a3 a4)))
def K_(k:qX)(U:List UInt8)(aa:List UInt8)(ae:Int)(ai:Int):Option (pS) :=cond (decide (0≤jC ai (aK ((U.length:Int)+1)))&&decide (jC ai (aK ((U.length:Int)+1))=jC ai (aK ((U.length:Int)+1)))&&room (Int.toNat (jC ai (aK ((U.length:Int)+1))))) (k.db U aa ae (aK (jC ai (aK ((U.length:Int)+1))-1)) 0 (List.replicate (Int.toNat (jC ai (aK ((U.length:Int)+1)))) (([]:List UInt8):List UInt8))) (none)
def SL(k:qX)(U:List UInt8)(v1:Int×Unit)(aa:List UInt8)(ae:Int)(ai:Int)(aq:Int)(v4:List (List UInt8)):Option (pS) :=(d' U.length (aK (v1.1 +(aa.length:Int))) (U.length:Int)).bind fun v5 =>k.db (part U v5.1 (v5.2-v5.1)) aa ae ai (aK (aq+1)) v4
def zO(k:qX)(U:List UInt8)(aa:List UInt8)(ae:Int)(ai:Int)(aq:Int)(aE:List (List UInt8)):Option (pS) :=cond (decide (aq<ai)) ((EL (U,aa,())).bind fun v1 =>cond (decide (v1.1<0)) (k.oR U aq aE) ((d' U.length 0 (aK (v1.1+ae))).bind fun v2 =>(aO aE.length aq).bind fun v3 =>SL k U v1 aa ae ai aq (aE.set (0+v3) (part U v2.1 (v2.2-v2.1))))) (k.oR U aq aE)
def K'(k:qX)(U:List UInt8)(aa:Int)(ae:List (List UInt8)):Option (pS) :=(aO ae.length aa).bind fun v1 =>(d' ((ae.set (0+v1) U).length) 0 (aK (aa+1))).bind fun v2 =>some (part (ae.set (0+v1) U) (0+v2.1) (v2.2-v2.1),())
def SM(k:qX):qX:=⟨K_ k,zO k,K' k⟩
def qY:Nat→qX:=eO SM ⟨fun _ _ _ _=>none,fun _ _ _ _ _ _=>none,fun _ _ _=>none⟩
def La(x:(List UInt8)×(List UInt8)×Int×Int×Unit):Option (pS):=EP (qY aQ) x.1 x.2.1 x.2.2.1 x.2.2.2.1
abbrev SN:Type:=(List (List UInt8))×Unit
def Lb(a1:List UInt8)(a2:List UInt8):Option (SN) :=(La (a1,a2,0,(-1),())).bind fun v1 =>some (v1.1,())
def Lc(x:(List UInt8)×(List UInt8)×Unit):Option (SN):=Lb x.1 x.2.1
abbrev zP:Type:=(List (List UInt8))×Unit
abbrev ER:Type:=Int→Int→(List (List UInt8))→(List (List UInt8))→Option (zP)
def ES(k3:ER)(a1:List UInt8):Option (zP) :=(Lc (a1,([47]:List UInt8),())).bind fun v1 =>k3 (v1.1.length:Int) 0 ([]:List (List UInt8)) v1.1
def ET(k3:ER)(U:Int)(aa:Int)(ae:List (List UInt8))(ai:List (List UInt8)):Option (zP) :=cond (decide (aa<U)) ((aO ai.length aa).bind fun v1 =>cond (!(bs (J ad.str ai (0+v1)) ([]:List UInt8))) (cond (room (ae.length+[J ad.str ai (0+v1)].length)) (k3 U (aK (aa+1)) (ae++[J ad.str ai (0+v1)]) ai) (none)) (k3 U (aK (aa+1)) ae ai)) (some (ae,()))
def sr:Nat→ER | 0,_,_,_,_=>none | m+1,U,aa,ae,ai=>ET (sr m) U aa ae ai
def su(x:(List UInt8)×Unit):Option (zP):=ES (sr aQ) x.1
abbrev sv:Type:=af.D→Bool→Nat→Nat→Int→Int→aI.D→aV.D→(List (List UInt8))→Option (aV.D×Unit)
def EU(k3:sv)(a1:af.D)(a2:aI.D)(a3:List UInt8)(a4:Bool):Option (aV.D×Unit) :=(su (a3,())).bind fun v1 =>k3 a1 a4 0 v1.1.length 1 0 a2 (0,([]:List UInt8),0,0,()) v1.1
def SO(k3:sv)(U:af.D)(aa:Bool)(aE:Int)(bh:aI.D)(bW:aV.D)(v10:List (List UInt8)):Option (aV.D×Unit) :=cond (decide ((v10.length:Int)>40)) (some ((0,([]:List UInt8),0,36,()),())) (k3 U aa 0 v10.length 1 (aK (aE+1)) bh bW v10)
def SP(k3:sv)(U:af.D)(aa:Bool)(aq:Int)(aE:Int)(bh:aI.D)(bW:aV.D)(v12:List (List UInt8)):Option (aV.D×Unit) :=cond (decide ((v12.length:Int)>40)) (some ((0,([]:List UInt8),0,36,()),())) (k3 U aa 0 v12.length aq (aK (aE+1)) bh bW v12)
def SQ(k3:sv)(U:af.D)(aa:Bool)(aE:Int)(bh:aI.D)(bW:aV.D)(hP:List (List UInt8)):Option (aV.D×Unit) :=cond (decide ((hP.length:Int)>40)) (some ((0,([]:List UInt8),0,36,()),())) (k3 U aa 0 hP.length 1 (aK (aE+1)) bh bW hP)
def SR(k3:sv)(U:af.D)(aa:Bool)(aq:Int)(aE:Int)(bh:aI.D)(bW:aV.D)(nK:List (List UInt8)):Option (aV.D×Unit) :=cond (decide ((nK.length:Int)>40)) (some ((0,([]:List UInt8),0,36,()),())) (k3 U aa 0 nK.length aq (aK (aE+1)) bh bW nK)
def l0(k3:sv)(U:af.D)(aa:Bool)(ae:Nat)(ai:Nat)(aq:Int)(aE:Int)(bh:aI.D)(bW:aV.D)(cB:List (List UInt8)):Option (aV.D×Unit) :=cond (decide ((ai:Int)>0)) ((aO ai 0).bind fun v1 =>(d' ai 1 (ai:Int)).bind fun v2 =>(fE (U,aq,())).bind fun v3 =>cond (!List.isEmpty v3.1) ((pR (bh,J I v3.1 0,1,())).bind fun v4 =>cond (!v4.1) (some ((0,([]:List UInt8),0,13,()),())) (cond (bs (J ad.str cB (ae+v1)) ([46]:List UInt8)) (k3 U aa (ae+v2.1) (v2.2-v2.1) aq aE bh bW cB) (cond (bs (J ad.str cB (ae+v1)) ([46,46]:List UInt8)) ((EG (U,aq,())).bind fun v5 =>k3 U aa (ae+v2.1) (v2.2-v2.1) v5.1 aE bh bW cB) (cond (decide (((J ad.str cB (ae+v1)).length:Int)>8)) (some ((0,([]:List UInt8),0,36,()),())) (cond (!List.isEmpty v3.1) ((EK (J I v3.1 0,J ad.str cB (ae+v1),())).bind fun v6 =>cond (v6.1==0) (cond ((((v2.2-v2.1):Nat):Int)==0) (some ((aq,J ad.str cB (ae+v1),0,2,()),())) (some ((0,([]:List UInt8),0,2,()),()))) ((fE (U,v6.1,())).bind fun bt =>cond (!List.isEmpty bt.1) (cond ((J I bt.1 0).2.1==3) (cond (!((((v2.2-v2.1):Nat):Int)==0)) (cond (aE==8) (some ((0,([]:List UInt8),0,40,()),())) (cond (!List.isEmpty bt.1) ((aO (((J I bt.1 0).2.2.2.2.2.1).length) 0).bind fun dn =>cond (((((J I bt.1 0).2.2.2.2.2.1).getD dn 0).toNat:Int)==47) (cond (!List.isEmpty bt.1) ((su ((J I bt.1 0).2.2.2.2.2.1,())).bind fun v9 =>cond (room (v9.1.length +(part cB (ae+v2.1) (v2.2-v2.1)).length)) (SO k3 U aa aE bh bW (v9.1++(part cB (ae+v2.1) (v2.2-v2.1)))) (none)) (none)) (cond (!List.isEmpty bt.1) ((su ((J I bt.1 0).2.2.2.2.2.1,())).bind fun v11 =>cond (room (v11.1.length +(part cB (ae+v2.1) (v2.2-v2.1)).length)) (SP k3 U aa aq aE bh bW (v11.1++(part cB (ae+v2.1) (v2.2-v2.1)))) (none)) (none))) (none))) (cond aa (cond (aE==8) (some ((0,([]:List UInt8),0,40,()),())) (cond (!List.isEmpty bt.1) ((aO (((J I bt.1 0).2.2.2.2.2.1).length) 0).bind fun jO =>cond (((((J I bt.1 0).2.2.2.2.2.1).getD jO 0).toNat:Int)==47) (cond (!List.isEmpty bt.1) ((su ((J I bt.1 0).2.2.2.2.2.1,())).bind fun mK =>cond (room (mK.1.length +(part cB (ae+v2.1) (v2.2-v2.1)).length)) (SQ k3 U aa aE bh bW (mK.1++(part cB (ae+v2.1) (v2.2-v2.1)))) (none)) (none)) (cond (!List.isEmpty bt.1) ((su ((J I bt.1 0).2.2.2.2.2.1,())).bind fun oP =>cond (room (oP.1.length +(part cB (ae+v2.1) (v2.2-v2.1)).length)) (SR k3 U aa aq aE bh bW (oP.1++(part cB (ae+v2.1) (v2.2-v2.1)))) (none)) (none))) (none))) (cond ((((v2.2-v2.1):Nat):Int)==0) (some ((aq,J ad.str cB (ae+v1),v6.1,0,()),())) (cond (!List.isEmpty bt.1) (cond ((J I bt.1 0).2.1 != 2) (some ((0,([]:List UInt8),0,20,()),())) (k3 U aa (ae+v2.1) (v2.2-v2.1) v6.1 aE bh bW cB)) (none))))) (cond ((((v2.2-v2.1):Nat):Int)==0) (some ((aq,J ad.str cB (ae+v1),v6.1,0,()),())) (cond (!List.isEmpty bt.1) (cond ((J I bt.1 0).2.1 != 2) (some ((0,([]:List UInt8),0,20,()),())) (k3 U aa (ae+v2.1) (v2.2-v2.1) v6.1 aE bh bW cB)) (none)))) (none))) (none)))))) (none)) (some ((0,([]:List UInt8),aq,0,()),()))
def gn:Nat→sv | 0,_,_,_,_,_,_,_,_,_=>none | m+1,U,aa,ae,ai,aq,aE,bh,bW,cB=>l0 (gn m) U aa ae ai aq aE bh bW cB
def Ld(x:af.D×aI.D×(List UInt8)×Bool×Unit):Option (aV.D×Unit):=EU (gn aQ) x.1 x.2.1 x.2.2.1 x.2.2.2.1
def qZ(a1:aL.D)(a2:List UInt8)(a3:Bool):Option (aV.D×Unit) :=(K4 (a2,())).bind fun v1 =>cond (!v1.1) (some ((0,([]:List UInt8),0,22,()),())) ((Ld (a1.1,a1.2.1,a2,a3,())).bind fun v2 =>some (v2.1,()))
def k_(x:aL.D×(List UInt8)×Bool×Unit):Option (aV.D×Unit):=qZ x.1 x.2.1 x.2.2.1
def zQ(a1:aL.D)(a2:List UInt8):Option (aV.D×Int×Unit) :=(k_ (a1,a2,false,())).bind fun v1 =>cond (v1.1.2.2.2.1==2) (cond (!(bs v1.1.2.1 ([]:List UInt8))) (some (v1.1,0,())) (cond (v1.1.2.2.2.1==0) (some (v1.1,17,())) (some (v1.1,v1.1.2.2.2.1,())))) (cond (v1.1.2.2.2.1==0) (some (v1.1,17,())) (some (v1.1,v1.1.2.2.2.1,())))
def u9(x:aL.D×(List UInt8)×Unit):Option (aV.D×Int×Unit):=zQ x.1 x.2.1
def Le(a1:aL.D)(a2:Int):Option (Bool×Unit) :=(fE (a1.1,a2,())).bind fun v1 =>cond (!List.isEmpty v1.1) ((pR (a1.2.1,J I v1.1 0,3,())).bind fun v2 =>some (v2.1,())) (none)
def nN(x:aL.D×Int×Unit):Option (Bool×Unit):=Le x.1 x.2.1
def SS(x:(List ax.D)×Int×(List ax.D)×Unit):Option ((List ax.D)×Unit):=insF x.1 x.2.1 x.2.2.1
structure u_ where
 k2:(List UInt8)→Int→Int→Int→aL.D→Option (aL.D×Unit)
 bb:(List UInt8)→Int→Int→Int→aL.D→Option (aL.D×Unit)
def EV(k:u_)(a1:aL.D)(a2:Int)(a3:List UInt8)(a4:Int):Option (aL.D×Unit) :=(xi (a1.1,a2,())).bind fun v1 =>k.k2 a3 a4 v1.1 0 (v1.2.1,a1.2.1,a1.2.2.1,())
def zR(k:u_)(U:List UInt8)(aa:Int)(ae:Int)(ai:Int)(aq:aL.D):Option (aL.D×Unit) :=(aO aq.1.2.1.length ae).bind fun v1 =>cond (decide (ai<(((J I aq.1.2.1 v1).2.2.2.2.2.2.1).length:Int))) ((aO aq.1.2.1.length ae).bind fun v2 =>(aO (((J I aq.1.2.1 v2).2.2.2.2.2.2.1).length) ai).bind fun v3 =>cond (dx ((J ax ((J I aq.1.2.1 v2).2.2.2.2.2.2.1) v3).1) U) (k.k2 U aa ae (aK (ai+1)) aq) (k.bb U aa ae ai aq)) (k.bb U aa ae ai aq)
def ab_(aq:aL.D)(v4:List I.D):Option (aL.D×Unit) :=some (((aq.1.1,v4,()),aq.2.1,aq.2.2.1,()),())
def Lf(k:u_)(U:List UInt8)(aa:Int)(ae:Int)(ai:Int)(aq:aL.D):Option (aL.D×Unit) :=(aO aq.1.2.1.length ae).bind fun v1 =>(aO aq.1.2.1.length ae).bind fun v2 =>cond (Nat.beq v2 v1) ((SS ((J I aq.1.2.1 v1).2.2.2.2.2.2.1,ai,[(U,aa,())],())).bind fun v3 =>ab_ aq (aq.1.2.1.set v1 ((J I aq.1.2.1 v1).1,(J I aq.1.2.1 v1).2.1,(J I aq.1.2.1 v1).2.2.1,(J I aq.1.2.1 v1).2.2.2.1,(J I aq.1.2.1 v1).2.2.2.2.1,(J I aq.1.2.1 v1).2.2.2.2.2.1,v3.1,(J I aq.1.2.1 v1).2.2.2.2.2.2.2.1,(J I aq.1.2.1 v1).2.2.2.2.2.2.2.2.1,()))) (none)
def SU(k:u_):u_:=⟨zR k,Lf k⟩
def sw:Nat→u_:=eO SU ⟨fun _ _ _ _ _=>none,fun _ _ _ _ _=>none⟩
def sx(x:aL.D×Int×(List UInt8)×Int×Unit):Option (aL.D×Unit):=EV (sw aQ) x.1 x.2.1 x.2.2.1 x.2.2.2.1
def Lg(a1:aL.D):Option (Int×Unit) :=(sn (a1.1,())).bind fun v1 =>cond (decide (v1.1>400)) (some (28,())) ((zN (a1.1.2.1,a1.1,())).bind fun v2 =>cond v2.1 (some (122,())) (some (0,())))
def nO(x:aL.D×Unit):Option (Int×Unit):=Lg x.1
structure u' where
 bb:aL.D→aH.D→Option (Int×aL.D×Unit)
 hL:aL.D→aV.D→I.D→Option (Int×aL.D×Unit)
def EW(k:u')(a1:aL.D):Option (Int×aL.D×Unit) :=cond (a1.2.2.1.1==10) ((xh (a1.2.2.1.2.2.1,())).bind fun v1 =>cond (!v1.1) (some (22,a1,())) (cond (a1.2.2.1.1 != 10) ((eL (a1.2.2.1.2.2.2.1,0,2047,())).bind fun v2 =>cond (!v2.1) (some (22,a1,())) (k.bb a1 a1.2.2.1)) (k.bb a1 a1.2.2.1))) (cond (a1.2.2.1.1 != 10) ((eL (a1.2.2.1.2.2.2.1,0,2047,())).bind fun v3 =>cond (!v3.1) (some (22,a1,())) (k.bb a1 a1.2.2.1)) (k.bb a1 a1.2.2.1))
def Lh(k:u')(U:aL.D)(aa:aH.D):Option (Int×aL.D×Unit) :=(u9 (U,aa.2.1,())).bind fun v1 =>cond (v1.2.1 != 0) (some (v1.2.1,U,())) ((nN (U,v1.1.1,())).bind fun v2 =>cond (!v2.1) (some (13,U,())) ((fE (U.1,v1.1.1,())).bind fun v3 =>cond (!List.isEmpty v3.1) (cond ((((J I v3.1 0).2.2.2.2.2.2.1).length:Int)==12) (some (28,U,())) (cond ((U.1.2.1.length:Int)==24) (some (28,U,())) (cond (U.1.1==100000) (some (28,U,())) (cond (!List.isEmpty v3.1) (cond (cQ .and .i64 ((J I v3.1 0).2.2.1) 1024 != 0) (cond (!List.isEmpty v3.1) (cond (aa.1==1) (cond (!List.isEmpty v3.1) (k.hL U v1.1 (U.1.1,2,cQ .or .i64 aa.2.2.2.1 (cQ .and .i64 ((J I v3.1 0).2.2.1) 1024),U.2.1.1,(J I v3.1 0).2.2.2.2.1,([]:List UInt8),([]:List ax.D),0,0,())) (none)) (cond (aa.1==10) (k.hL U v1.1 (U.1.1,3,511,U.2.1.1,(J I v3.1 0).2.2.2.2.1,aa.2.2.1,([]:List ax.D),0,0,())) (k.hL U v1.1 (U.1.1,1,aa.2.2.2.1,U.2.1.1,(J I v3.1 0).2.2.2.2.1,([]:List UInt8),([]:List ax.D),0,0,())))) (none)) (cond (aa.1==1) (cond (!List.isEmpty v3.1) (k.hL U v1.1 (U.1.1,2,cQ .or .i64 aa.2.2.2.1 (cQ .and .i64 ((J I v3.1 0).2.2.1) 1024),U.2.1.1,U.2.1.2.1,([]:List UInt8),([]:List ax.D),0,0,())) (none)) (cond (aa.1==10) (k.hL U v1.1 (U.1.1,3,511,U.2.1.1,U.2.1.2.1,aa.2.2.1,([]:List ax.D),0,0,())) (k.hL U v1.1 (U.1.1,1,aa.2.2.2.1,U.2.1.1,U.2.1.2.1,([]:List UInt8),([]:List ax.D),0,0,()))))) (none))))) (none)))
def Li(k:u')(U:aL.D)(aa:aV.D)(ae:I.D):Option (Int×aL.D×Unit) :=(sx (((aK (U.1.1+1),U.1.2.1,()),U.2.1,U.2.2.1,()),aa.1,aa.2.1,ae.1,())).bind fun v1 =>cond (room (v1.1.1.2.1.length+[ae].length)) ((nO (((v1.1.1.1,v1.1.1.2.1++[ae],()),v1.1.2.1,v1.1.2.2.1,()),())).bind fun v2 =>some (v2.1,((v1.1.1.1,v1.1.1.2.1++[ae],()),v1.1.2.1,v1.1.2.2.1,()),())) (none)
def SV(k:u'):u':=⟨Lh k,Li k⟩
def la:Nat→u':=eO SV ⟨fun _ _=>none,fun _ _ _=>none⟩
def zS(x:aL.D×Unit):Option (Int×aL.D×Unit):=EW (la aQ) x.1
def Lj(a1:aI.D)(a2:I.D)(a3:I.D):Option (Bool×Unit) :=(xm (a1,())).bind fun v1 =>cond v1.1 (cond (cQ .and .i64 a2.2.2.1 512==0) (some (true,())) (cond (a1.1==0) (some (true,())) (cond (a1.1==a2.2.2.2.1) (some (true,())) (some (a1.1==a3.2.2.2.1,()))))) (some (false,()))
def sy(x:aI.D×I.D×I.D×Unit):Option (Bool×Unit):=Lj x.1 x.2.1 x.2.2.1
def ab'(a1:ax.D)(a2:List UInt8):Option (Bool×Unit) :=some (bs a1.1 a2,())
def EX(x:ax.D×(List UInt8)×Unit):Option (Bool×Unit):=ab' x.1 x.2.1
abbrev EY:Type:=(List ax.D)→(List UInt8)→Int→Int→Option (Int×Unit)
def SW(k2:EY)(a1:List ax.D)(a2:List UInt8):Option (Int×Unit) :=k2 a1 a2 (a1.length:Int) 0
def EZ(k2:EY)(U:List ax.D)(aa:List UInt8)(ae:Int)(ai:Int):Option (Int×Unit) :=cond (decide (ai<ae)) ((aO U.length ai).bind fun v1 =>(EX (J ax U v1,aa,())).bind fun v2 =>cond v2.1 (some (ai,())) (k2 U aa ae (aK (ai+1)))) (some ((-1),()))
def xp:Nat→EY | 0,_,_,_,_=>none | m+1,U,aa,ae,ai=>EZ (xp m) U aa ae ai
def Lk(x:(List ax.D)×(List UInt8)×Unit):Option (Int×Unit):=SW (xp aQ) x.1 x.2.1
abbrev xq:Type:=(List ax.D)×Unit
abbrev E0:Type:=(List UInt8)→Int→Int→(List ax.D)→Option (xq)
def E1(bw:E0)(a1:List ax.D)(a2:List UInt8):Option (xq) :=(Lk (a1,a2,())).bind fun v1 =>cond (v1.1 ==(-1)) (some (a1,())) (bw a2 v1.1 (aK (v1.1+1)) a1)
def SX(aa:Int)(v5:List ax.D):Option (xq) :=(d' v5.length 0 aa).bind fun v6 =>some (part v5 (0+v6.1) (v6.2-v6.1),())
def E2(bw:E0)(U:List UInt8)(aa:Int)(ae:Int)(ai:List ax.D):Option (xq) :=cond (decide (ae<(ai.length:Int))) ((aO ai.length ae).bind fun v1 =>(EX (J ax ai (0+v1),U,())).bind fun v2 =>cond (!v2.1) ((aO ai.length aa).bind fun v3 =>bw U (aK (aa+1)) (aK (ae+1)) (ai.set (0+v3) (J ax ai (0+v1)))) (bw U aa (aK (ae+1)) ai)) ((d' ai.length aa (ai.length:Int)).bind fun v4 =>SX aa (ai.take (0+v4.1)++List.replicate (v4.2-v4.1) ((([]:List UInt8),0,()):ax.D)++ai.drop ((0+v4.1) +(v4.2-v4.1))))
def xr:Nat→E0 | 0,_,_,_,_=>none | m+1,U,aa,ae,ai=>E2 (xr m) U aa ae ai
def E3(x:(List ax.D)×(List UInt8)×Unit):Option (xq):=E1 (xr aQ) x.1 x.2.1
def SY(x:(List I.D)×Int×Unit):Option ((List I.D)×Unit):=cond (room x.1.length) (some (x.1.filter (fun y => !(y.1==x.2.1)),())) none
def Ll(a4:Bool)(v1:Int×af.D×Unit)(v3:Int×Unit)(a1:aL.D)(bt:List I.D):Option (aL.D×Unit) :=cond a4 ((xj ((v1.2.1.1,bt,()),v3.1,())).bind fun dn =>cond (dn.1==0) ((SY (bt,v3.1,())).bind fun v9 =>some (((v1.2.1.1,v9.1,()),a1.2.1,a1.2.2.1,()),())) (some (((v1.2.1.1,bt,()),a1.2.1,a1.2.2.1,()),()))) (some (((v1.2.1.1,bt,()),a1.2.1,a1.2.2.1,()),()))
def Lm(a1:aL.D)(a2:Int)(a3:List UInt8)(a4:Bool):Option (aL.D×Unit) :=(xi (a1.1,a2,())).bind fun v1 =>(aO v1.2.1.2.1.length v1.1).bind fun v2 =>(EK (J I v1.2.1.2.1 v2,a3,())).bind fun v3 =>(aO v1.2.1.2.1.length v1.1).bind fun v4 =>(aO v1.2.1.2.1.length v1.1).bind fun v5 =>cond (Nat.beq v5 v4) ((E3 ((J I v1.2.1.2.1 v4).2.2.2.2.2.2.1,a3,())).bind fun v6 =>Ll a4 v1 v3 a1 (v1.2.1.2.1.set v4 ((J I v1.2.1.2.1 v4).1,(J I v1.2.1.2.1 v4).2.1,(J I v1.2.1.2.1 v4).2.2.1,(J I v1.2.1.2.1 v4).2.2.2.1,(J I v1.2.1.2.1 v4).2.2.2.2.1,(J I v1.2.1.2.1 v4).2.2.2.2.2.1,v6.1,(J I v1.2.1.2.1 v4).2.2.2.2.2.2.2.1,(J I v1.2.1.2.1 v4).2.2.2.2.2.2.2.2.1,()))) (none)
def oU(x:aL.D×Int×(List UInt8)×Bool×Unit):Option (aL.D×Unit):=Lm x.1 x.2.1 x.2.2.1 x.2.2.2.1
structure q0 where
 bw:aL.D→aV.D→I.D→Option (Int×aL.D×Unit)
 c5:aL.D→aV.D→I.D→Option (Int×aL.D×Unit)
 fB:aL.D→aV.D→I.D→Option (Int×aL.D×Unit)
 db:aL.D→aV.D→I.D→Option (Int×aL.D×Unit)
def E4(k:q0)(a1:aL.D):Option (Int×aL.D×Unit) :=(k_ (a1,a1.2.2.1.2.1,false,())).bind fun v1 =>cond (v1.1.2.2.2.1 != 0) (some (v1.1.2.2.2.1,a1,())) (dup ((fE (a1.1,v1.1.2.2.1,())).bind fun v2 =>cond (!List.isEmpty v2.1) (k.bw a1 v1.1 (J I v2.1 0)) (none)))
def Ln(k:q0)(U:aL.D)(aa:aV.D)(ae:I.D):Option (Int×aL.D×Unit) :=cond (U.2.2.1.1==2) (cond (bs aa.2.1 ([]:List UInt8)) (some (16,U,())) (k.c5 U aa ae)) (k.c5 U aa ae)
def Lo(k:q0)(U:aL.D)(aa:aV.D)(ae:I.D):Option (Int×aL.D×Unit) :=cond (U.2.2.1.1==2) (cond (ae.2.1 != 2) (some (20,U,())) (k.fB U aa ae)) (k.fB U aa ae)
def Lp(k:q0)(U:aL.D)(aa:aV.D)(ae:I.D):Option (Int×aL.D×Unit) :=cond (U.2.2.1.1==8) (cond (ae.2.1==2) (some (21,U,())) (k.db U aa ae)) (k.db U aa ae)
def Lq(k:q0)(U:aL.D)(aa:aV.D)(ae:I.D):Option (Int×aL.D×Unit) :=(nN (U,aa.1,())).bind fun v1 =>cond (!v1.1) (some (13,U,())) ((fE (U.1,aa.1,())).bind fun v2 =>cond (!List.isEmpty v2.1) ((sy (U.2.1,J I v2.1 0,ae,())).bind fun v3 =>cond (!v3.1) (some (1,U,())) (cond (U.2.2.1.1==2) (cond (decide ((ae.2.2.2.2.2.2.1.length:Int)>0)) (some (39,U,())) ((oU (U,aa.1,aa.2.1,true,())).bind fun v4 =>some (0,v4.1,()))) ((oU (U,aa.1,aa.2.1,true,())).bind fun v5 =>some (0,v5.1,())))) (none))
def SZ(k:q0):q0:=⟨Ln k,Lo k,Lp k,Lq k⟩
def oV:Nat→q0:=eO SZ ⟨fun _ _ _=>none,fun _ _ _=>none,fun _ _ _=>none,fun _ _ _=>none⟩
def E5(x:aL.D×Unit):Option (Int×aL.D×Unit):=E4 (oV aQ) x.1
def Lr(a1:af.D)(a2:Int):Option (Bool×Unit) :=(fE (a1,a2,())).bind fun v1 =>cond (!List.isEmpty v1.1) (cond (!List.isEmpty v1.1) (some ((J I v1.1 0).2.1==2,())) (none)) (some (false,()))
def va(x:af.D×Int×Unit):Option (Bool×Unit):=Lr x.1 x.2.1
def Ls(a1:aL.D):Option (Int×aL.D×Unit) :=(k_ (a1,a1.2.2.1.2.1,false,())).bind fun v1 =>cond (v1.1.2.2.2.1 != 0) (some (v1.1.2.2.2.1,a1,())) ((va (a1.1,v1.1.2.2.1,())).bind fun v2 =>cond v2.1 (some (1,a1,())) ((u9 (a1,a1.2.2.1.2.2.1,())).bind fun v3 =>cond (v3.2.1 != 0) (some (v3.2.1,a1,())) ((nN (a1,v3.1.1,())).bind fun v4 =>cond (!v4.1) (some (13,a1,())) ((fE (a1.1,v3.1.1,())).bind fun v5 =>cond (!List.isEmpty v5.1) (cond ((((J I v5.1 0).2.2.2.2.2.2.1).length:Int)==12) (some (28,a1,())) ((sx (a1,v3.1.1,v3.1.2.1,v1.1.2.2.1,())).bind fun v6 =>(nO (v6.1,())).bind fun bt =>some (bt.1,v6.1,()))) (none)))))
def E6(x:aL.D×Unit):Option (Int×aL.D×Unit):=Ls x.1
def Lt(a1:aL.D)(a2:I.D)(a3:aV.D):Option (Int×Unit) :=dup ((fE (a1.1,a3.2.2.1,())).bind fun v1 =>cond (!List.isEmpty v1.1) ((fE (a1.1,a3.1,())).bind fun v2 =>cond (!List.isEmpty v2.1) ((sy (a1.2.1,J I v2.1 0,J I v1.1 0,())).bind fun v3 =>cond (!v3.1) (some (1,())) (cond (a2.2.1==2) (cond ((J I v1.1 0).2.1 != 2) (some (20,())) (cond (a2.2.1==2) (cond (decide ((((J I v1.1 0).2.2.2.2.2.2.1).length:Int)>0)) (some (39,())) (cond (a2.2.1 != 2) (cond ((J I v1.1 0).2.1==2) (some (21,())) (some (0,()))) (some (0,())))) (cond (a2.2.1 != 2) (cond ((J I v1.1 0).2.1==2) (some (21,())) (some (0,()))) (some (0,()))))) (cond (a2.2.1==2) (cond (decide ((((J I v1.1 0).2.2.2.2.2.2.1).length:Int)>0)) (some (39,())) (cond (a2.2.1 != 2) (cond ((J I v1.1 0).2.1==2) (some (21,())) (some (0,()))) (some (0,())))) (cond (a2.2.1 != 2) (cond ((J I v1.1 0).2.1==2) (some (21,())) (some (0,()))) (some (0,())))))) (none)) (none))
def E7(x:aL.D×I.D×aV.D×Unit):Option (Int×Unit):=Lt x.1 x.2.1 x.2.2.1
structure q1 where
 c5:aL.D→aV.D→aV.D→Option (Int×aL.D×Unit)
 gk:aL.D→aV.D→aV.D→I.D→Option (Int×aL.D×Unit)
 jN:aL.D→aV.D→aV.D→I.D→Option (Int×aL.D×Unit)
 oW:aL.D→aV.D→aV.D→Option (Int×aL.D×Unit)
def E8(k:q1)(a1:aL.D):Option (Int×aL.D×Unit) :=(k_ (a1,a1.2.2.1.2.1,false,())).bind fun v1 =>cond (v1.1.2.2.2.1 != 0) (some (v1.1.2.2.2.1,a1,())) ((k_ (a1,a1.2.2.1.2.2.1,false,())).bind fun v2 =>cond (v2.1.2.2.2.1 != 0) (cond (v2.1.2.2.2.1 != 2) (some (v2.1.2.2.2.1,a1,())) (cond (bs v2.1.2.1 ([]:List UInt8)) (some (v2.1.2.2.2.1,a1,())) (k.c5 a1 v1.1 v2.1))) (k.c5 a1 v1.1 v2.1))
def Lu(k:q1)(U:aL.D)(aa:aV.D)(ae:aV.D):Option (Int×aL.D×Unit) :=cond (bs aa.2.1 ([]:List UInt8)) (some (16,U,())) (cond (bs ae.2.1 ([]:List UInt8)) (some (16,U,())) (dup ((fE (U.1,aa.2.2.1,())).bind fun v1 =>cond (!List.isEmpty v1.1) (k.gk U aa ae (J I v1.1 0)) (none))))
def Lv(k:q1)(U:aL.D)(aa:aV.D)(ae:aV.D)(ai:I.D):Option (Int×aL.D×Unit) :=(nN (U,aa.1,())).bind fun v1 =>cond (!v1.1) (some (13,U,())) ((nN (U,ae.1,())).bind fun v2 =>cond (!v2.1) (some (13,U,())) ((fE (U.1,aa.1,())).bind fun v3 =>cond (!List.isEmpty v3.1) ((sy (U.2.1,J I v3.1 0,ai,())).bind fun v4 =>cond (!v4.1) (some (1,U,())) (cond (ai.2.1==2) (cond (ae.1==aa.2.2.1) (some (22,U,())) ((uU (U.1,aa.2.2.1,())).bind fun v5 =>(sm (v5.1,ae.1,())).bind fun v6 =>cond v6.1 (some (22,U,())) (k.jN U aa ae ai))) (k.jN U aa ae ai))) (none)))
def Lw(k:q1)(U:aL.D)(aa:aV.D)(ae:aV.D)(ai:I.D):Option (Int×aL.D×Unit) :=cond (ae.2.2.1==aa.2.2.1) (some (0,U,())) (cond (ae.2.2.1 != 0) ((E7 (U,ai,ae,())).bind fun v1 =>cond (v1.1 != 0) (some (v1.1,U,())) ((oU (U,ae.1,ae.2.1,true,())).bind fun v2 =>k.oW v2.1 aa ae)) (cond (aa.1 != ae.1) ((fE (U.1,ae.1,())).bind fun v3 =>cond (!List.isEmpty v3.1) (cond ((((J I v3.1 0).2.2.2.2.2.2.1).length:Int)==12) (some (28,U,())) (k.oW U aa ae)) (none)) (k.oW U aa ae)))
def Lx(k:q1)(U:aL.D)(aa:aV.D)(ae:aV.D):Option (Int×aL.D×Unit) :=(oU (U,aa.1,aa.2.1,false,())).bind fun v1 =>(sx (v1.1,ae.1,ae.2.1,aa.2.2.1,())).bind fun v2 =>(nO (v2.1,())).bind fun v3 =>some (v3.1,v2.1,())
def S0(k:q1):q1:=⟨Lu k,Lv k,Lw k,Lx k⟩
def ja:Nat→q1:=eO S0 ⟨fun _ _ _=>none,fun _ _ _ _=>none,fun _ _ _ _=>none,fun _ _ _=>none⟩
def E9(x:aL.D×Unit):Option (Int×aL.D×Unit):=E8 (ja aQ) x.1
abbrev S1:Type:=Int×Int×aL.D×Unit
def Ly(a1:aL.D)(a2:Bool):Option (S1) :=(k_ (a1,a1.2.2.1.2.1,a2,())).bind fun v1 =>cond (v1.1.2.2.2.1 != 0) (some ((-1),v1.1.2.2.2.1,a1,())) ((xi (a1.1,v1.1.2.2.1,())).bind fun v2 =>some (v2.1,0,(v2.2.1,a1.2.1,a1.2.2.1,()),()))
def mM(x:aL.D×Bool×Unit):Option (S1):=Ly x.1 x.2.1
abbrev S2:Type:=Int×Int×aL.D×Unit
def zT(a1:aL.D)(a2:Int):Option (S2) :=(mM (a1,true,())).bind fun v1 =>cond (v1.2.1 != 0) (some ((-1),v1.2.1,v1.2.2.1,())) ((aO v1.2.2.1.1.2.1.length v1.1).bind fun v2 =>cond ((J I v1.2.2.1.1.2.1 v2).2.1==2) (some ((-1),21,v1.2.2.1,())) ((aO v1.2.2.1.1.2.1.length v1.1).bind fun v3 =>(pR (v1.2.2.1.2.1,J I v1.2.2.1.1.2.1 v3,a2,())).bind fun v4 =>cond (!v4.1) (some ((-1),13,v1.2.2.1,())) (some (v1.1,0,v1.2.2.1,()))))
def zU(x:aL.D×Int×Unit):Option (S2):=zT x.1 x.2.1
abbrev S3:Type:=aG.D×aL.D×Unit
def LA(a1:aL.D):Option (S3) :=(zU (a1,4,())).bind fun v1 =>cond (v1.2.1 != 0) ((eX (v1.2.1,())).bind fun v2 =>some (v2.1,v1.2.2.1,())) (cond (decide (v1.2.2.1.2.2.1.2.2.2.1<0)) ((eX (22,())).bind fun v3 =>some (v3.1,v1.2.2.1,())) (cond (decide (v1.2.2.1.2.2.1.2.2.2.2.1<0)) ((eX (22,())).bind fun v4 =>some (v4.1,v1.2.2.1,())) ((aO v1.2.2.1.1.2.1.length v1.1).bind fun v5 =>(aO v1.2.2.1.1.2.1.length v1.1).bind fun v6 =>(d' (((J I v1.2.2.1.1.2.1 v5).2.2.2.2.2.1).length) (jC v1.2.2.1.2.2.1.2.2.2.1 (((J I v1.2.2.1.1.2.1 v6).2.2.2.2.2.1).length:Int)) (((J I v1.2.2.1.1.2.1 v5).2.2.2.2.2.1).length:Int)).bind fun bt =>(d' ((part ((J I v1.2.2.1.1.2.1 v5).2.2.2.2.2.1) bt.1 (bt.2-bt.1)).length) 0 (jC v1.2.2.1.2.2.1.2.2.2.2.1 (((part ((J I v1.2.2.1.1.2.1 v5).2.2.2.2.2.1) bt.1 (bt.2-bt.1)).length:Nat):Int))).bind fun dn =>some ((0,part (part ((J I v1.2.2.1.1.2.1 v5).2.2.2.2.2.1) bt.1 (bt.2-bt.1)) dn.1 (dn.2-dn.1),()),v1.2.2.1,()))))
def E_(x:aL.D×Unit):Option (S3):=LA x.1
def strings_Repeat(x:(List UInt8)×Int×Unit):Option ((List UInt8)×Unit):=repF x.1 x.2.1
def LB(a1:List UInt8)(a2:Int):Option ((List UInt8)×Unit) :=cond (decide ((a1.length:Int)≥a2)) ((d' a1.length 0 a2).bind fun v1 =>some (part a1 v1.1 (v1.2-v1.1),())) ((strings_Repeat (([0]:List UInt8),aK (a2-(a1.length:Int)),())).bind fun v2 =>cond (room (a1.length+v2.1.length)) (some (a1++v2.1,())) (none))
def E'(x:(List UInt8)×Int×Unit):Option ((List UInt8)×Unit):=LB x.1 x.2.1
structure sA where
 c5:Int→Int→aL.D→Option (Int×aL.D×Unit)
 db:Int→Int→aL.D→Option (Int×aL.D×Unit)
 fD:Int→(List UInt8)→aL.D→Option (Int×aL.D×Unit)
def Fa(k:sA)(a1:aL.D):Option (Int×aL.D×Unit) :=(zU (a1,2,())).bind fun v1 =>cond (v1.2.1 != 0) (some (v1.2.1,v1.2.2.1,())) (cond (v1.2.2.1.2.2.1.1==6) ((aO v1.2.2.1.1.2.1.length v1.1).bind fun v2 =>k.c5 v1.1 (((J I v1.2.2.1.1.2.1 v2).2.2.2.2.2.1).length:Int) v1.2.2.1) (k.c5 v1.1 v1.2.2.1.2.2.1.2.2.2.1 v1.2.2.1))
def LC(k:sA)(U:Int)(aa:Int)(ae:aL.D):Option (Int×aL.D×Unit) :=cond (decide (aa<0)) (some (22,ae,())) (cond (ae.2.2.1.1 != 7) (cond (bs ae.2.2.1.2.2.2.2.2.1 ([]:List UInt8)) (some (0,ae,())) (k.db U aa ae)) (k.db U aa ae))
def LD(k:sA)(U:Int)(aa:Int)(ae:aL.D):Option (Int×aL.D×Unit) :=cond (decide (aK (aa +(ae.2.2.1.2.2.2.2.2.1.length:Int))>64)) (some (27,ae,())) ((aO ae.1.2.1.length U).bind fun v1 =>(E' ((J I ae.1.2.1 v1).2.2.2.2.2.1,aa,())).bind fun v2 =>cond (ae.2.2.1.1 != 7) (cond (room (v2.1.length+ae.2.2.1.2.2.2.2.2.1.length)) ((aO ae.1.2.1.length U).bind fun v3 =>cond (decide ((((J I ae.1.2.1 v3).2.2.2.2.2.1).length:Int) >((v2.1++ae.2.2.1.2.2.2.2.2.1).length:Int))) ((aO ae.1.2.1.length U).bind fun v4 =>(d' (((J I ae.1.2.1 v4).2.2.2.2.2.1).length) ((v2.1++ae.2.2.1.2.2.2.2.2.1).length:Int) (((J I ae.1.2.1 v4).2.2.2.2.2.1).length:Int)).bind fun v5 =>cond (room ((v2.1++ae.2.2.1.2.2.2.2.2.1).length +(part ((J I ae.1.2.1 v4).2.2.2.2.2.1) v5.1 (v5.2-v5.1)).length)) (k.fD U ((v2.1++ae.2.2.1.2.2.2.2.2.1)++(part ((J I ae.1.2.1 v4).2.2.2.2.2.1) v5.1 (v5.2-v5.1))) ae) (none)) (k.fD U (v2.1++ae.2.2.1.2.2.2.2.2.1) ae)) (none)) (k.fD U v2.1 ae))
def aca(ae:aL.D)(v2:List I.D):Option (Int×aL.D×Unit) :=(nO (((ae.1.1,v2,()),ae.2.1,ae.2.2.1,()),())).bind fun v3 =>some (v3.1,((ae.1.1,v2,()),ae.2.1,ae.2.2.1,()),())
def LF(k:sA)(U:Int)(aa:List UInt8)(ae:aL.D):Option (Int×aL.D×Unit) :=(aO ae.1.2.1.length U).bind fun v1 =>aca ae (ae.1.2.1.set v1 ((J I ae.1.2.1 v1).1,(J I ae.1.2.1 v1).2.1,(J I ae.1.2.1 v1).2.2.1,(J I ae.1.2.1 v1).2.2.2.1,(J I ae.1.2.1 v1).2.2.2.2.1,aa,(J I ae.1.2.1 v1).2.2.2.2.2.2.1,(J I ae.1.2.1 v1).2.2.2.2.2.2.2.1,(J I ae.1.2.1 v1).2.2.2.2.2.2.2.2.1,()))
def S4(k:sA):sA:=⟨LC k,LD k,LF k⟩
def gC:Nat→sA:=eO S4 ⟨fun _ _ _=>none,fun _ _ _=>none,fun _ _ _=>none⟩
def Fb(x:aL.D×Unit):Option (Int×aL.D×Unit):=Fa (gC aQ) x.1
abbrev S5:Type:=aG.D×aL.D×Unit
def LG(a1:aL.D):Option (S5) :=(mM (a1,false,())).bind fun v1 =>cond (v1.2.1 != 0) ((eX (v1.2.1,())).bind fun v2 =>some (v2.1,v1.2.2.1,())) ((aO v1.2.2.1.1.2.1.length v1.1).bind fun v3 =>cond ((J I v1.2.2.1.1.2.1 v3).2.1 != 3) ((eX (22,())).bind fun v4 =>some (v4.1,v1.2.2.1,())) ((aO v1.2.2.1.1.2.1.length v1.1).bind fun v5 =>some ((0,(J I v1.2.2.1.1.2.1 v5).2.2.2.2.2.1,()),v1.2.2.1,())))
def Fc(x:aL.D×Unit):Option (S5):=LG x.1
def strings_Join(x:(List (List UInt8))×(List UInt8)×Unit):Option ((List UInt8)×Unit):=joinF x.1 x.2.1
structure vd where
 bb:Int→(List UInt8)→Int→Option ((List UInt8)×Unit)
 c5:Int→(List UInt8)→Int→Int→Option ((List UInt8)×Unit)
def S6(k:vd)(a1:Int):Option ((List UInt8)×Unit) :=k.bb a1 ([]:List UInt8) a1
def LH(k:vd)(U:Int)(aa:List UInt8)(ae:Int):Option ((List UInt8)×Unit) :=cond (decide (Int.tmod ae 10<0)) (k.c5 U aa ae (aK (0-(Int.tmod ae 10)))) (k.c5 U aa ae (Int.tmod ae 10))
def LI(k:vd)(U:Int)(aa:List UInt8)(ae:Int)(ai:Int):Option ((List UInt8)×Unit) :=cond (room ((gF [IntKind.wrap .u8 (aK (48+ai))]).length+aa.length)) ((eL (ae,(-9),9,())).bind fun v1 =>cond v1.1 (cond (decide (U<0)) (cond (room (([45]:List UInt8).length +((gF [IntKind.wrap .u8 (aK (48+ai))])++aa).length)) (some (([45]:List UInt8)++((gF [IntKind.wrap .u8 (aK (48+ai))])++aa),())) (none)) (some ((gF [IntKind.wrap .u8 (aK (48+ai))])++aa,()))) (k.bb U ((gF [IntKind.wrap .u8 (aK (48+ai))])++aa) (aK (Int.tdiv ae 10)))) (none)
def S7(k:vd):vd:=⟨LH k,LI k⟩
def mN:Nat→vd:=eO S7 ⟨fun _ _ _=>none,fun _ _ _ _=>none⟩
def zV(x:Int×Unit):Option ((List UInt8)×Unit):=S6 (mN aQ) x.1
abbrev Fe:Type:=(List Int)→Int→Int→(List (List UInt8))→Option ((List UInt8)×Unit)
def S8(k3:Fe)(a1:List Int):Option ((List UInt8)×Unit) :=k3 a1 (a1.length:Int) 0 ([]:List (List UInt8))
def Ff(k3:Fe)(U:List Int)(aa:Int)(ae:Int)(ai:List (List UInt8)):Option ((List UInt8)×Unit) :=cond (decide (ae<aa)) ((aO U.length ae).bind fun v1 =>(zV (J (ad.int .i64) U v1,())).bind fun v2 =>cond (room (ai.length+[v2.1].length)) (k3 U aa (aK (ae+1)) (ai++[v2.1])) (none)) ((strings_Join (ai,([32]:List UInt8),())).bind fun v3 =>some (v3.1,()))
def ve:Nat→Fe | 0,_,_,_,_=>none | m+1,U,aa,ae,ai=>Ff (ve m) U aa ae ai
def q2(x:(List Int)×Unit):Option ((List UInt8)×Unit):=S8 (ve aQ) x.1
abbrev zW:Type:=aG.D×aL.D×Unit
abbrev Fg:Type:=(List ax.D)→Int→Int→aG.D→(List (List UInt8))→aL.D→Option (zW)
def Fh(mH:Fg)(a1:aL.D):Option (zW) :=(mM (a1,true,())).bind fun v1 =>cond (v1.2.1 != 0) ((eX (v1.2.1,())).bind fun v2 =>some (v2.1,v1.2.2.1,())) ((aO v1.2.2.1.1.2.1.length v1.1).bind fun v3 =>cond ((J I v1.2.2.1.1.2.1 v3).2.1 != 2) ((eX (20,())).bind fun v4 =>some (v4.1,v1.2.2.1,())) ((aO v1.2.2.1.1.2.1.length v1.1).bind fun v5 =>(pR (v1.2.2.1.2.1,J I v1.2.2.1.1.2.1 v5,4,())).bind fun v6 =>cond (!v6.1) ((eX (13,())).bind fun bt =>some (bt.1,v1.2.2.1,())) (cond (v1.2.2.1.2.2.1.1==20) ((aO v1.2.2.1.1.2.1.length v1.1).bind fun dn =>(xk (v1.2.2.1.1,(J I v1.2.2.1.1.2.1 dn).1,())).bind fun v9 =>(aO v1.2.2.1.1.2.1.length v1.1).bind fun v10 =>(aO v1.2.2.1.1.2.1.length v1.1).bind fun v11 =>(q2 ([(J I v1.2.2.1.1.2.1 v10).2.2.2.2.2.2.2.1,(J I v1.2.2.1.1.2.1 v11).2.2.2.2.2.2.2.2.1,v9.1,v9.2.1],())).bind fun v12 =>some ((0,v12.1,()),v1.2.2.1,())) ((aO v1.2.2.1.1.2.1.length v1.1).bind fun jO =>mH ((J I v1.2.2.1.1.2.1 jO).2.2.2.2.2.2.1) (((J I v1.2.2.1.1.2.1 jO).2.2.2.2.2.2.1).length:Int) 0 (0,([]:List UInt8),()) ([]:List (List UInt8)) v1.2.2.1))))
def Fi(mH:Fg)(U:List ax.D)(aa:Int)(ae:Int)(ai:aG.D)(aq:List (List UInt8))(aE:aL.D):Option (zW) :=cond (decide (ae<aa)) ((aO U.length ae).bind fun v1 =>cond (room (aq.length+[(J ax U v1).1].length)) (mH U aa (aK (ae+1)) ai (aq++[(J ax U v1).1]) aE) (none)) ((strings_Join (aq,([47]:List UInt8),())).bind fun v2 =>some ((0,v2.1,()),aE,()))
def q3:Nat→Fg | 0,_,_,_,_,_,_=>none | m+1,U,aa,ae,ai,aq,aE=>Fi (q3 m) U aa ae ai aq aE
def zX(x:aL.D×Unit):Option (zW):=Fh (q3 aQ) x.1
abbrev Fj:Type:=af.D→Int→(List ax.D)→Int→Int→Option (Int×Unit)
def Fk(bw:Fj)(a1:af.D)(a2:I.D):Option (Int×Unit) :=cond (a2.2.1 != 2) ((xj (a1,a2.1,())).bind fun v1 =>some (v1.1,())) (bw a1 2 a2.2.2.2.2.2.2.1 (a2.2.2.2.2.2.2.1.length:Int) 0)
def Fl(bw:Fj)(U:af.D)(aa:Int)(ae:List ax.D)(ai:Int)(aq:Int):Option (Int×Unit) :=cond (decide (aq<ai)) ((aO ae.length aq).bind fun v1 =>(va (U,(J ax ae v1).2.1,())).bind fun v2 =>cond v2.1 (bw U (aK (aa+1)) ae ai (aK (aq+1))) (bw U aa ae ai (aK (aq+1)))) (some (aa,()))
def sB:Nat→Fj | 0,_,_,_,_,_=>none | m+1,U,aa,ae,ai,aq=>Fl (sB m) U aa ae ai aq
def Fm(x:af.D×I.D×Unit):Option (Int×Unit):=Fk (sB aQ) x.1 x.2.1
abbrev S9:Type:=aG.D×aL.D×Unit
def LJ(a1:aL.D):Option (S9) :=(eL (a1.2.2.1.2.2.2.1,0,1,())).bind fun v1 =>cond (!v1.1) ((eX (22,())).bind fun v2 =>some (v2.1,a1,())) ((mM (a1,a1.2.2.1.2.2.2.1==0,())).bind fun v3 =>cond (v3.2.1 != 0) ((eX (v3.2.1,())).bind fun v4 =>some (v4.1,v3.2.2.1,())) ((aO v3.2.2.1.1.2.1.length v3.1).bind fun v5 =>(aO v3.2.2.1.1.2.1.length v3.1).bind fun v6 =>(aO v3.2.2.1.1.2.1.length v3.1).bind fun bt =>(aO v3.2.2.1.1.2.1.length v3.1).bind fun dn =>(aO v3.2.2.1.1.2.1.length v3.1).bind fun v9 =>(aO v3.2.2.1.1.2.1.length v3.1).bind fun v10 =>(Fm (v3.2.2.1.1,J I v3.2.2.1.1.2.1 v9,())).bind fun v11 =>(q2 ([(J I v3.2.2.1.1.2.1 v5).2.1,(J I v3.2.2.1.1.2.1 v6).2.2.1,(J I v3.2.2.1.1.2.1 bt).2.2.2.1,(J I v3.2.2.1.1.2.1 dn).2.2.2.2.1,v11.1,(((J I v3.2.2.1.1.2.1 v10).2.2.2.2.2.1).length:Int)],())).bind fun v12 =>some ((0,v12.1,()),v3.2.2.1,())))
def zY(x:aL.D×Unit):Option (S9):=LJ x.1
abbrev Fo:Type:=Int→aL.D→Option (Int×aL.D×Unit)
def Fp(dI:Fo)(a1:aL.D):Option (Int×aL.D×Unit) :=(eL (a1.2.2.1.2.2.2.1,0,2047,())).bind fun v1 =>cond (!v1.1) (some (22,a1,())) ((mM (a1,true,())).bind fun v2 =>cond (v2.2.1 != 0) (some (v2.2.1,v2.2.2.1,())) (cond (v2.2.2.1.2.1.1 != 0) ((aO v2.2.2.1.1.2.1.length v2.1).bind fun v3 =>cond (v2.2.2.1.2.1.1 !=(J I v2.2.2.1.1.2.1 v3).2.2.2.1) (some (1,v2.2.2.1,())) (dI v2.1 v2.2.2.1)) (dI v2.1 v2.2.2.1)))
def S_(aa:aL.D)(bt:List I.D):Option (Int×aL.D×Unit) :=some (0,((aa.1.1,bt,()),aa.2.1,aa.2.2.1,()),())
def LK(aa:aL.D)(U:Int)(v2:List I.D):Option (Int×aL.D×Unit) :=cond (aa.2.1.1 != 0) ((aO v2.length U).bind fun v3 =>(u7 (aa.2.1,(J I v2 v3).2.2.2.2.1,())).bind fun v4 =>cond (!v4.1) ((aO v2.length U).bind fun v5 =>(aO v2.length U).bind fun v6 =>S_ aa (v2.set v6 ((J I v2 v6).1,(J I v2 v6).2.1,cQ .andNot .i64 ((J I v2 v5).2.2.1) 1024,(J I v2 v6).2.2.2.1,(J I v2 v6).2.2.2.2.1,(J I v2 v6).2.2.2.2.2.1,(J I v2 v6).2.2.2.2.2.2.1,(J I v2 v6).2.2.2.2.2.2.2.1,(J I v2 v6).2.2.2.2.2.2.2.2.1,()))) (some (0,((aa.1.1,v2,()),aa.2.1,aa.2.2.1,()),()))) (some (0,((aa.1.1,v2,()),aa.2.1,aa.2.2.1,()),()))
def LL(dI:Fo)(U:Int)(aa:aL.D):Option (Int×aL.D×Unit) :=(aO aa.1.2.1.length U).bind fun v1 =>LK aa U (aa.1.2.1.set v1 ((J I aa.1.2.1 v1).1,(J I aa.1.2.1 v1).2.1,aa.2.2.1.2.2.2.1,(J I aa.1.2.1 v1).2.2.2.1,(J I aa.1.2.1 v1).2.2.2.2.1,(J I aa.1.2.1 v1).2.2.2.2.2.1,(J I aa.1.2.1 v1).2.2.2.2.2.2.1,(J I aa.1.2.1 v1).2.2.2.2.2.2.2.1,(J I aa.1.2.1 v1).2.2.2.2.2.2.2.2.1,()))
def q4:Nat→Fo | 0,_,_=>none | m+1,U,aa=>LL (q4 m) U aa
def Fq(x:aL.D×Unit):Option (Int×aL.D×Unit):=Fp (q4 aQ) x.1
abbrev Fs:Type:=Int→aL.D→Option (Int×aL.D×Unit)
def Ft(dI:Fs)(a1:aL.D):Option (Int×aL.D×Unit) :=(eL (a1.2.2.1.2.2.2.1,0,1000,())).bind fun v1 =>cond (!v1.1) (some (22,a1,())) ((eL (a1.2.2.1.2.2.2.2.1,0,1000,())).bind fun v2 =>cond (!v2.1) (some (22,a1,())) ((mM (a1,true,())).bind fun v3 =>cond (v3.2.1 != 0) (some (v3.2.1,v3.2.2.1,())) (cond (v3.2.2.1.2.1.1 != 0) ((aO v3.2.2.1.1.2.1.length v3.1).bind fun v4 =>cond (v3.2.2.1.2.1.1 !=(J I v3.2.2.1.1.2.1 v4).2.2.2.1) (some (1,v3.2.2.1,())) ((aO v3.2.2.1.1.2.1.length v3.1).bind fun v5 =>cond (v3.2.2.1.2.2.1.2.2.2.1 !=(J I v3.2.2.1.1.2.1 v5).2.2.2.1) (some (1,v3.2.2.1,())) ((u7 (v3.2.2.1.2.1,v3.2.2.1.2.2.1.2.2.2.2.1,())).bind fun v6 =>cond (!v6.1) (some (1,v3.2.2.1,())) (dI v3.1 v3.2.2.1)))) (dI v3.1 v3.2.2.1))))
def S'(aa:aL.D)(v4:List I.D):Option (Int×aL.D×Unit) :=some (0,((aa.1.1,v4,()),aa.2.1,aa.2.2.1,()),())
def LN(U:Int)(aa:aL.D)(v2:List I.D):Option (Int×aL.D×Unit) :=(aO v2.length U).bind fun v3 =>S' aa (v2.set v3 ((J I v2 v3).1,(J I v2 v3).2.1,(J I v2 v3).2.2.1,(J I v2 v3).2.2.2.1,aa.2.2.1.2.2.2.2.1,(J I v2 v3).2.2.2.2.2.1,(J I v2 v3).2.2.2.2.2.2.1,(J I v2 v3).2.2.2.2.2.2.2.1,(J I v2 v3).2.2.2.2.2.2.2.2.1,()))
def LO(dI:Fs)(U:Int)(aa:aL.D):Option (Int×aL.D×Unit) :=(aO aa.1.2.1.length U).bind fun v1 =>LN U aa (aa.1.2.1.set v1 ((J I aa.1.2.1 v1).1,(J I aa.1.2.1 v1).2.1,(J I aa.1.2.1 v1).2.2.1,aa.2.2.1.2.2.2.1,(J I aa.1.2.1 v1).2.2.2.2.1,(J I aa.1.2.1 v1).2.2.2.2.2.1,(J I aa.1.2.1 v1).2.2.2.2.2.2.1,(J I aa.1.2.1 v1).2.2.2.2.2.2.2.1,(J I aa.1.2.1 v1).2.2.2.2.2.2.2.2.1,()))
def q5:Nat→Fs | 0,_,_=>none | m+1,U,aa=>LO (q5 m) U aa
def Fu(x:aL.D×Unit):Option (Int×aL.D×Unit):=Ft (q5 aQ) x.1
def LP(a1:aL.D):Option (Int×aL.D×Unit) :=(eL (a1.2.2.1.2.2.2.1,0,7,())).bind fun v1 =>cond (!v1.1) (some (22,a1,())) ((mM (a1,true,())).bind fun v2 =>cond (v2.2.1 != 0) (some (v2.2.1,v2.2.2.1,())) ((aO v2.2.2.1.1.2.1.length v2.1).bind fun v3 =>(pR (v2.2.2.1.2.1,J I v2.2.2.1.1.2.1 v3,v2.2.2.1.2.2.1.2.2.2.1,())).bind fun v4 =>cond (!v4.1) (some (13,v2.2.2.1,())) (some (0,v2.2.2.1,()))))
def Fv(x:aL.D×Unit):Option (Int×aL.D×Unit):=LP x.1
def LQ(v3:Int×Int×aL.D×Unit)(dn:List I.D):Option (Int×aL.D×Unit) :=(nO (((v3.2.2.1.1.1,dn,()),v3.2.2.1.2.1,v3.2.2.1.2.2.1,()),())).bind fun v9 =>some (v9.1,((v3.2.2.1.1.1,dn,()),v3.2.2.1.2.1,v3.2.2.1.2.2.1,()),())
def Fw(v3:Int×Int×aL.D×Unit)(v6:List I.D):Option (Int×aL.D×Unit) :=(aO v6.length v3.1).bind fun bt =>LQ v3 (v6.set bt ((J I v6 bt).1,(J I v6 bt).2.1,(J I v6 bt).2.2.1,(J I v6 bt).2.2.2.1,(J I v6 bt).2.2.2.2.1,(J I v6 bt).2.2.2.2.2.1,(J I v6 bt).2.2.2.2.2.2.1,(J I v6 bt).2.2.2.2.2.2.2.1,v3.2.2.1.2.2.1.2.2.2.2.1,()))
def LR(a1:aL.D):Option (Int×aL.D×Unit) :=(eL (a1.2.2.1.2.2.2.1,0,400,())).bind fun v1 =>cond (!v1.1) (some (22,a1,())) ((eL (a1.2.2.1.2.2.2.2.1,0,24,())).bind fun v2 =>cond (!v2.1) (some (22,a1,())) (cond (a1.2.1.1 != 0) (some (1,a1,())) ((mM (a1,true,())).bind fun v3 =>cond (v3.2.1 != 0) (some (v3.2.1,v3.2.2.1,())) ((aO v3.2.2.1.1.2.1.length v3.1).bind fun v4 =>cond ((J I v3.2.2.1.1.2.1 v4).2.1 != 2) (some (20,v3.2.2.1,())) ((aO v3.2.2.1.1.2.1.length v3.1).bind fun v5 =>Fw v3 (v3.2.2.1.1.2.1.set v5 ((J I v3.2.2.1.1.2.1 v5).1,(J I v3.2.2.1.1.2.1 v5).2.1,(J I v3.2.2.1.1.2.1 v5).2.2.1,(J I v3.2.2.1.1.2.1 v5).2.2.2.1,(J I v3.2.2.1.1.2.1 v5).2.2.2.2.1,(J I v3.2.2.1.1.2.1 v5).2.2.2.2.2.1,(J I v3.2.2.1.1.2.1 v5).2.2.2.2.2.2.1,v3.2.2.1.2.2.1.2.2.2.1,(J I v3.2.2.1.1.2.1 v5).2.2.2.2.2.2.2.2.1,())))))))
def Fx(x:aL.D×Unit):Option (Int×aL.D×Unit):=LR x.1
abbrev j':Type:=aG.D×aL.D×Unit
structure nP where
 bw:aL.D→aG.D→Option (j')
 da:Int→aL.D→aG.D→Option (j')
 dI:aL.D→aG.D→Option (j')
 fB:Int→aL.D→aG.D→Option (j')
 fD:aL.D→aG.D→Option (j')
 oQ:Int→aL.D→aG.D→Option (j')
 pN:Int→aL.D→aG.D→Option (j')
def Fy(k:nP)(a1:aL.D):Option (j') :=cond (a1.2.2.1.1==1) (cond (a1.2.2.1.1==1) (k.bw a1 (0,([]:List UInt8),())) (k.da a1.2.2.1.1 a1 (0,([]:List UInt8),()))) (cond (a1.2.2.1.1==3) (cond (a1.2.2.1.1==3) (k.bw a1 (0,([]:List UInt8),())) (k.da a1.2.2.1.1 a1 (0,([]:List UInt8),()))) (cond (a1.2.2.1.1==10) (k.bw a1 (0,([]:List UInt8),())) (k.da a1.2.2.1.1 a1 (0,([]:List UInt8),()))))
def acb(k:nP)(U:aL.D)(aa:aG.D):Option (j') :=(zS (U,())).bind fun v1 =>(eX (v1.1,())).bind fun v2 =>some (v2.1,v1.2.1,())
def acd(k:nP)(U:Int)(aa:aL.D)(ae:aG.D):Option (j') :=cond (U==2) (cond (U==2) (k.dI aa ae) (k.fB U aa ae)) (cond (U==8) (k.dI aa ae) (k.fB U aa ae))
def ace(k:nP)(U:aL.D)(aa:aG.D):Option (j') :=(E5 (U,())).bind fun v1 =>(eX (v1.1,())).bind fun v2 =>some (v2.1,v1.2.1,())
def acf(k:nP)(U:Int)(aa:aL.D)(ae:aG.D):Option (j') :=cond (U==9) ((E6 (aa,())).bind fun v1 =>(eX (v1.1,())).bind fun v2 =>some (v2.1,v1.2.1,())) (cond (U==12) ((E9 (aa,())).bind fun v3 =>(eX (v3.1,())).bind fun v4 =>some (v4.1,v3.2.1,())) (cond (U==4) ((E_ (aa,())).bind fun v5 =>some (v5.1,v5.2.1,())) (cond (U==5) (cond (U==5) (k.fD aa ae) (k.oQ U aa ae)) (cond (U==6) (cond (U==6) (k.fD aa ae) (k.oQ U aa ae)) (cond (U==7) (k.fD aa ae) (k.oQ U aa ae))))))
def acg(k:nP)(U:aL.D)(aa:aG.D):Option (j') :=(Fb (U,())).bind fun v1 =>(eX (v1.1,())).bind fun v2 =>some (v2.1,v1.2.1,())
def ach(k:nP)(U:Int)(aa:aL.D)(ae:aG.D):Option (j') :=cond (U==11) ((Fc (aa,())).bind fun v1 =>some (v1.1,v1.2.1,())) (cond (U==13) (cond (U==13) ((zX (aa,())).bind fun v2 =>some (v2.1,v2.2.1,())) (k.pN U aa ae)) (cond (U==20) ((zX (aa,())).bind fun v3 =>some (v3.1,v3.2.1,())) (k.pN U aa ae)))
def aci(k:nP)(U:Int)(aa:aL.D)(ae:aG.D):Option (j') :=cond (U==14) ((zY (aa,())).bind fun v1 =>some (v1.1,v1.2.1,())) (cond (U==15) ((Fq (aa,())).bind fun v2 =>(eX (v2.1,())).bind fun v3 =>some (v3.1,v2.2.1,())) (cond (U==16) ((Fu (aa,())).bind fun v4 =>(eX (v4.1,())).bind fun v5 =>some (v5.1,v4.2.1,())) (cond (U==17) ((Fv (aa,())).bind fun v6 =>(eX (v6.1,())).bind fun bt =>some (bt.1,v6.2.1,())) (cond (U==18) ((sn (aa.1,())).bind fun dn =>(q2 ([(aa.1.2.1.length:Int),dn.1],())).bind fun v9 =>some ((0,v9.1,()),aa,())) ((Fx (aa,())).bind fun v10 =>(eX (v10.1,())).bind fun v11 =>some (v11.1,v10.2.1,()))))))
def Ta(k:nP):nP:=⟨acb k,acd k,ace k,acf k,acg k,ach k,aci k⟩
def LS:Nat→nP:=eO Ta ⟨fun _ _=>none,fun _ _ _=>none,fun _ _=>none,fun _ _ _=>none,fun _ _=>none,fun _ _ _=>none,fun _ _ _=>none⟩
def Fz(x:aL.D×Unit):Option (j'):=Fy (LS aQ) x.1
abbrev Tb:Type:=af.D×aG.D×Unit
def zZ(a1:af.D)(a2:aI.D)(a3:aH.D):Option (Tb) :=(xm (a2,())).bind fun v1 =>cond (!v1.1) ((so (a1,())).bind fun v2 =>(eX (22,())).bind fun v3 =>some (v2.1,v3.1,())) ((K2 (a3,())).bind fun v4 =>cond (!v4.1) ((so (a1,())).bind fun v5 =>(eX (22,())).bind fun v6 =>some (v5.1,v6.1,())) (cond (decide (a3.1>20)) ((so (a1,())).bind fun bt =>(eX (22,())).bind fun dn =>some (bt.1,dn.1,())) ((so (a1,())).bind fun v9 =>(Fz ((v9.1,a2,a3,()),())).bind fun v10 =>cond (v10.1.1 != 0) ((so (a1,())).bind fun v11 =>some (v11.1,v10.1,())) (some (v10.2.1.1,v10.1,())))))
def LU(x:af.D×aI.D×aH.D×Unit):Option (Tb):=zZ x.1 x.2.1 x.2.2.1
abbrev Tc:Type:=af.D×aG.D×Unit
def LV(a1:af.D)(a2:aI.D)(a3:aH.D):Option (Tc) :=(xl (a1,())).bind fun v1 =>cond (!v1.1) ((eX (22,())).bind fun v2 =>some ((0,([]:List I.D),()),v2.1,())) ((LU (a1,a2,a3,())).bind fun v3 =>some (v3.1,v3.2.1,()))
def gp(x:af.D×aI.D×aH.D×Unit):Option (Tc):=LV x.1 x.2.1 x.2.2.1
def LW(a1:af.D)(a2:Int):Option (Int×Unit) :=(fE (a1,a2,())).bind fun v1 =>cond (!List.isEmpty v1.1) ((xl (a1,())).bind fun v2 =>cond v2.1 (cond (!List.isEmpty v1.1) ((Fm (a1,J I v1.1 0,())).bind fun v3 =>some (v3.1,())) (none)) (some (0,()))) (some (0,()))
def FA(x:af.D×Int×Unit):Option (Int×Unit):=LW x.1 x.2.1
def LX(a1:af.D)(a2:Int):Option (Int×Int×Unit) :=(xl (a1,())).bind fun v1 =>cond (!v1.1) (some (0,0,())) ((va (a1,a2,())).bind fun v2 =>cond (!v2.1) (some (0,0,())) ((xk (a1,a2,())).bind fun v3 =>some (v3.1,v3.2.1,())))
def acj(x:af.D×Int×Unit):Option (Int×Int×Unit):=LX x.1 x.2.1
def LY(a1:af.D)(a2:Int):Option (Int×Unit) :=(xl (a1,())).bind fun v1 =>cond (!v1.1) (some (0,())) ((va (a1,a2,())).bind fun v2 =>cond (!v2.1) (some (0,())) ((EG (a1,a2,())).bind fun v3 =>some (v3.1,())))
def ack(x:af.D×Int×Unit):Option (Int×Unit):=LY x.1 x.2.1
abbrev Td:Type:=af.D×aG.D×Unit
def z1(a1:af.D)(a2:aI.D)(a3:aH.D):Option (Td) :=(D0 (a1,())).bind fun v1 =>cond (!v1.1) (some ((0,([]:List I.D),()),(22,([]:List UInt8),()),())) ((w4 (a2,())).bind fun v2 =>cond (!v2.1) ((lZ (a1,())).bind fun v3 =>some (v3.1,(22,([]:List UInt8),()),())) (both ((lZ (a1,())).bind fun v4 =>both ((k7 (v4.1,a2,a3,())).bind fun v5 =>dup (some (v5.1,v5.2.1,()))) (dup (dup ((k7 (v4.1,a2,a3,())).bind fun v5 =>some (v5.1,v5.2.1,()))))) (dup (both ((lZ (a1,())).bind fun v4 =>dup ((k7 (v4.1,a2,a3,())).bind fun v5 =>some (v5.1,v5.2.1,()))) ((lZ (a1,())).bind fun v4 =>(k7 (v4.1,a2,a3,())).bind fun v5 =>some (v5.1,v5.2.1,()))))))
def ka(x:af.D×aI.D×aH.D×Unit):Option (Td):=z1 x.1 x.2.1 x.2.2.1
def acm  : Option (aI.D×Unit) :=some ((0,0,([]:List Int),()),())
def hd(x:Unit):Option (aI.D×Unit):=acm
structure nQ where
 c5:af.D→(List Int)→(List I.D)→aG.D→Option (Bool×Unit)
 dI:af.D→(List Int)→(List I.D)→aG.D→af.D→aG.D→Option (Bool×Unit)
 fB:af.D→(List Int)→(List I.D)→aG.D→af.D→aG.D→aG.D→Option (Bool×Unit)
 qK:Int→af.D→af.D→aG.D→Option (Bool×Unit)
 jN:Int→af.D→af.D→aG.D→aG.D→Option (Bool×Unit)
 oR:Int→af.D→aG.D→aG.D→af.D→aG.D→Option (Bool×Unit)
 fD:Int→af.D→aG.D→aG.D→af.D→aG.D→aG.D→Option (Bool×Unit)
def FB(k:nQ)(a1:List Int):Option (Bool×Unit) :=(JQ (a1,())).bind fun v1 =>cond v1.1 (some (true,())) ((KJ (a1,())).bind fun v2 =>(D0 (v2.1,())).bind fun v3 =>cond (!v3.1) ((y6 ()).bind fun v4 =>both ((hd ()).bind fun v5 =>dup ((ka (v4.1,v5.1,(3,([47,122,122]:List UInt8),([]:List UInt8),420,0,([]:List UInt8),()),())).bind fun v6 =>k.c5 v6.1 v5.1.2.2.1 v4.1.2.1 v6.2.1)) ((hd ()).bind fun v5 =>(ka (v4.1,v5.1,(3,([47,122,122]:List UInt8),([]:List UInt8),420,0,([]:List UInt8),()),())).bind fun v6 =>k.c5 v6.1 v5.1.2.2.1 v4.1.2.1 v6.2.1)) (both ((hd ()).bind fun bt =>dup ((ka (v2.1,bt.1,(3,([47,122,122]:List UInt8),([]:List UInt8),420,0,([]:List UInt8),()),())).bind fun dn =>k.c5 dn.1 bt.1.2.2.1 v2.1.2.1 dn.2.1)) ((hd ()).bind fun bt =>(ka (v2.1,bt.1,(3,([47,122,122]:List UInt8),([]:List UInt8),420,0,([]:List UInt8),()),())).bind fun dn =>k.c5 dn.1 bt.1.2.2.1 v2.1.2.1 dn.2.1)))
def LZ(k:nQ)(U:af.D)(aa:List Int)(ae:List I.D)(ai:aG.D):Option (Bool×Unit) :=both ((hd ()).bind fun v1 =>both ((gp (U,v1.1,(9,([47,122,122]:List UInt8),([47,122,121]:List UInt8),0,0,([]:List UInt8),()),())).bind fun v2 =>dup (k.dI U aa ae ai v2.1 v2.2.1)) (dup (dup ((gp (U,v1.1,(9,([47,122,122]:List UInt8),([47,122,121]:List UInt8),0,0,([]:List UInt8),()),())).bind fun v2 =>k.dI U aa ae ai v2.1 v2.2.1)))) (dup (both ((hd ()).bind fun v1 =>dup ((gp (U,v1.1,(9,([47,122,122]:List UInt8),([47,122,121]:List UInt8),0,0,([]:List UInt8),()),())).bind fun v2 =>k.dI U aa ae ai v2.1 v2.2.1)) ((hd ()).bind fun v1 =>(gp (U,v1.1,(9,([47,122,122]:List UInt8),([47,122,121]:List UInt8),0,0,([]:List UInt8),()),())).bind fun v2 =>k.dI U aa ae ai v2.1 v2.2.1)))
def L0(k:nQ)(U:af.D)(aa:List Int)(ae:List I.D)(ai:aG.D)(aq:af.D)(aE:aG.D):Option (Bool×Unit) :=both ((hd ()).bind fun v1 =>both ((ka (U,v1.1,(9,([47,122,122]:List UInt8),([47,122,121]:List UInt8),0,0,([]:List UInt8),()),())).bind fun v2 =>dup (k.fB U aa ae ai aq aE v2.2.1)) (dup (dup ((ka (U,v1.1,(9,([47,122,122]:List UInt8),([47,122,121]:List UInt8),0,0,([]:List UInt8),()),())).bind fun v2 =>k.fB U aa ae ai aq aE v2.2.1)))) (dup (both ((hd ()).bind fun v1 =>dup ((ka (U,v1.1,(9,([47,122,122]:List UInt8),([47,122,121]:List UInt8),0,0,([]:List UInt8),()),())).bind fun v2 =>k.fB U aa ae ai aq aE v2.2.1)) ((hd ()).bind fun v1 =>(ka (U,v1.1,(9,([47,122,122]:List UInt8),([47,122,121]:List UInt8),0,0,([]:List UInt8),()),())).bind fun v2 =>k.fB U aa ae ai aq aE v2.2.1)))
def L1(k:nQ)(U:af.D)(aa:List Int)(ae:List I.D)(ai:aG.D)(aq:af.D)(aE:aG.D)(bh:aG.D):Option (Bool×Unit) :=cond (!((aE.1==bh.1)&&(bs aE.2.1 bh.2.1&&true))) (some (false,())) (cond (ai.1 != 0) (cond (aE.1 != 0) (some (true,())) (some (ai.1==17,()))) (cond (aE.1 != 0) (cond (aE.1 != 0) (some (true,())) (some (ai.1==17,()))) (both ((hd ()).bind fun v1 =>both ((gp (aq,v1.1,(6,([47,122,121]:List UInt8),([]:List UInt8),0,0,([113]:List UInt8),()),())).bind fun v2 =>dup (k.qK (aK (U.1-1)) aq v2.1 v2.2.1)) (dup (dup ((gp (aq,v1.1,(6,([47,122,121]:List UInt8),([]:List UInt8),0,0,([113]:List UInt8),()),())).bind fun v2 =>k.qK (aK (U.1-1)) aq v2.1 v2.2.1)))) (dup (both ((hd ()).bind fun v1 =>dup ((gp (aq,v1.1,(6,([47,122,121]:List UInt8),([]:List UInt8),0,0,([113]:List UInt8),()),())).bind fun v2 =>k.qK (aK (U.1-1)) aq v2.1 v2.2.1)) ((hd ()).bind fun v1 =>(gp (aq,v1.1,(6,([47,122,121]:List UInt8),([]:List UInt8),0,0,([113]:List UInt8),()),())).bind fun v2 =>k.qK (aK (U.1-1)) aq v2.1 v2.2.1))))))
def L2(k:nQ)(U:Int)(aa:af.D)(ae:af.D)(ai:aG.D):Option (Bool×Unit) :=both ((hd ()).bind fun v1 =>both ((gp (ae,v1.1,(4,([47,122,122]:List UInt8),([]:List UInt8),0,9,([]:List UInt8),()),())).bind fun v2 =>dup (k.jN U aa ae ai v2.2.1)) (dup (dup ((gp (ae,v1.1,(4,([47,122,122]:List UInt8),([]:List UInt8),0,9,([]:List UInt8),()),())).bind fun v2 =>k.jN U aa ae ai v2.2.1)))) (dup (both ((hd ()).bind fun v1 =>dup ((gp (ae,v1.1,(4,([47,122,122]:List UInt8),([]:List UInt8),0,9,([]:List UInt8),()),())).bind fun v2 =>k.jN U aa ae ai v2.2.1)) ((hd ()).bind fun v1 =>(gp (ae,v1.1,(4,([47,122,122]:List UInt8),([]:List UInt8),0,9,([]:List UInt8),()),())).bind fun v2 =>k.jN U aa ae ai v2.2.1)))
def L3(k:nQ)(U:Int)(aa:af.D)(ae:af.D)(ai:aG.D)(aq:aG.D):Option (Bool×Unit) :=both ((hd ()).bind fun v1 =>both ((gp (ae,v1.1,(8,([47,122,122]:List UInt8),([]:List UInt8),0,0,([]:List UInt8),()),())).bind fun v2 =>dup (k.oR U aa ai aq v2.1 v2.2.1)) (dup (dup ((gp (ae,v1.1,(8,([47,122,122]:List UInt8),([]:List UInt8),0,0,([]:List UInt8),()),())).bind fun v2 =>k.oR U aa ai aq v2.1 v2.2.1)))) (dup (both ((hd ()).bind fun v1 =>dup ((gp (ae,v1.1,(8,([47,122,122]:List UInt8),([]:List UInt8),0,0,([]:List UInt8),()),())).bind fun v2 =>k.oR U aa ai aq v2.1 v2.2.1)) ((hd ()).bind fun v1 =>(gp (ae,v1.1,(8,([47,122,122]:List UInt8),([]:List UInt8),0,0,([]:List UInt8),()),())).bind fun v2 =>k.oR U aa ai aq v2.1 v2.2.1)))
def L4(k:nQ)(U:Int)(aa:af.D)(ae:aG.D)(ai:aG.D)(aq:af.D)(aE:aG.D):Option (Bool×Unit) :=both ((hd ()).bind fun v1 =>both ((gp (aq,v1.1,(4,([47,122,121]:List UInt8),([]:List UInt8),0,9,([]:List UInt8),()),())).bind fun v2 =>dup (k.fD U aa ae ai aq aE v2.2.1)) (dup (dup ((gp (aq,v1.1,(4,([47,122,121]:List UInt8),([]:List UInt8),0,9,([]:List UInt8),()),())).bind fun v2 =>k.fD U aa ae ai aq aE v2.2.1)))) (dup (both ((hd ()).bind fun v1 =>dup ((gp (aq,v1.1,(4,([47,122,121]:List UInt8),([]:List UInt8),0,9,([]:List UInt8),()),())).bind fun v2 =>k.fD U aa ae ai aq aE v2.2.1)) ((hd ()).bind fun v1 =>(gp (aq,v1.1,(4,([47,122,121]:List UInt8),([]:List UInt8),0,9,([]:List UInt8),()),())).bind fun v2 =>k.fD U aa ae ai aq aE v2.2.1)))
def L5(k:nQ)(U:Int)(aa:af.D)(ae:aG.D)(ai:aG.D)(aq:af.D)(aE:aG.D)(bh:aG.D):Option (Bool×Unit) :=(FA (aa,U,())).bind fun v1 =>cond (v1.1==2) ((FA (aq,U,())).bind fun v2 =>cond (v2.1==1) (cond (aE.1==0) (cond (bs ai.2.1 bh.2.1) (cond (ae.1 != 0) (cond (bs ai.2.1 ([]:List UInt8)) (some (true,())) (cond (ae.1==0) (some (bs ai.2.1 ([113]:List UInt8),())) (some (false,())))) (cond (ae.1==0) (some (bs ai.2.1 ([113]:List UInt8),())) (some (false,())))) (some (false,()))) (some (false,()))) (some (false,()))) (some (false,()))
def Te(k:nQ):nQ:=⟨LZ k,L0 k,L1 k,L2 k,L3 k,L4 k,L5 k⟩
def oX:Nat→nQ:=eO Te ⟨fun _ _ _ _=>none,fun _ _ _ _ _ _=>none,fun _ _ _ _ _ _ _=>none,fun _ _ _ _=>none,fun _ _ _ _ _=>none,fun _ _ _ _ _ _=>none,fun _ _ _ _ _ _ _=>none⟩
def Tf(x:(List Int)×Unit):Option (Bool×Unit):=FB (oX aQ) x.1
end
end Go.LM.kA
