/- The functions that the law reaches, as plain functions. Printed by a program. Conditions: each theorem's own hypotheses. -/
import Derived.Test.YtklmgcjamifmaaaGreatDoorVLmd
import Derived.Test.YtklmgcjamifmaaaGreatDoorVIn
set_option linter.unusedVariables false
set_option linter.unusedSimpArgs false
namespace Go.LM.kb
noncomputable section
@[reducible] def bm:ad:=.st (.cons (.sl (.int .u8)) (.cons (.int .i64) (.cons (.int .i64) .nil)))
@[reducible] def aw:ad:=.st (.cons .str (.cons (.int .i64) .nil))
@[reducible] def I:ad:=.st (.cons (.int .i64) (.cons (.int .i64) (.cons (.int .i64) (.cons (.int .i64) (.cons (.int .i64) (.cons .str (.cons (.sl aw) (.cons (.int .i64) (.cons (.int .i64) .nil)))))))))
@[reducible] def af:ad:=.st (.cons (.int .i64) (.cons (.sl I) .nil))
@[reducible] def aG:ad:=.st (.cons (.int .i64) (.cons .str (.cons .str (.cons (.int .i64) (.cons (.int .i64) (.cons .str .nil))))))
@[reducible] def aJ:ad:=.st (.cons (.int .i64) (.cons (.int .i64) (.cons (.sl (.int .i64)) .nil)))
@[reducible] def aW:ad:=.st (.cons (.int .i64) (.cons .str (.cons (.int .i64) (.cons (.int .i64) .nil))))
@[reducible] def aV:ad:=.st (.cons (.int .i64) (.cons .str .nil))
@[reducible] def aI:ad:=.st (.cons af (.cons aJ (.cons aG .nil)))
def aap(a1:List Int):Option (Bool×Unit) :=some (decide ((a1.length:Int)>1048576),())
def IY(x:(List Int)×Unit):Option (Bool×Unit):=aap x.1
abbrev BS:Type:=(List Int)→Int→Int→Option (bm.D×Unit)
def QO(k3:BS)(a1:List Int):Option (bm.D×Unit) :=k3 a1 (aH (10101 +(a1.length:Int))) 0
def wb(k3:BS)(U:List Int)(aa:Int)(ae:Int):Option (bm.D×Unit) :=cond (decide (ae<(U.length:Int))) (cond (decide (ae<4000)) ((aN U.length ae).bind fun v1 =>k3 U (cN .and .i64 (aH (aH (aH (aa*131)+aH (J (ad.int .u8) U v1))+7)) 1073741823) (aH (ae+1))) (some ((U,0,aa,()),()))) (some ((U,0,aa,()),()))
def wc:Nat→BS | 0,_,_,_=>none | m+1,U,aa,ae=>wb (wc m) U aa ae
def IZ(x:(List Int)×Unit):Option (bm.D×Unit):=QO (wc aP) x.1
abbrev QP:Type:=Int×bm.D×Unit
def I0(a1:bm.D):Option (QP) :=cond (decide (a1.2.1<(a1.1.length:Int))) ((aN a1.1.length a1.2.1).bind fun v1 =>some (cN .and .i64 (aH (cN .and .i64 (cN .xor .i64 (Int.fdiv (aH (aH (a1.2.2.1*6364136223846793005)+1442695040888963407)) (2 ^ min (Int.toNat 33) 64)) (Int.fdiv (aH (aH (a1.2.2.1*6364136223846793005)+1442695040888963407)) (2 ^ min (Int.toNat 45) 64))) 255+aH (J (ad.int .u8) a1.1 v1))) 255,(a1.1,aH (a1.2.1+1),aH (aH (a1.2.2.1*6364136223846793005)+1442695040888963407),()),())) (some (cN .and .i64 (cN .xor .i64 (Int.fdiv (aH (aH (a1.2.2.1*6364136223846793005)+1442695040888963407)) (2 ^ min (Int.toNat 33) 64)) (Int.fdiv (aH (aH (a1.2.2.1*6364136223846793005)+1442695040888963407)) (2 ^ min (Int.toNat 45) 64))) 255,(a1.1,a1.2.1,aH (aH (a1.2.2.1*6364136223846793005)+1442695040888963407),()),()))
def p9(x:bm.D×Unit):Option (QP):=I0 x.1
abbrev QQ:Type:=Int×bm.D×Unit
def I1(a1:bm.D)(a2:Int):Option (QQ) :=cond (decide (a2≤0)) (some (0,a1,())) (cond (decide (a2≤256)) ((p9 (a1,())).bind fun v1 =>cond (a2 != 0) (some (Int.tmod v1.1 a2,v1.2.1,())) (none)) ((p9 (a1,())).bind fun v2 =>(p9 (v2.2.1,())).bind fun v3 =>(p9 (v3.2.1,())).bind fun v4 =>(p9 (v4.2.1,())).bind fun v5 =>cond (a2 != 0) (some (Int.tmod (aH (aH (aH (aH (v2.1*16777216)+aH (v3.1*65536))+aH (v4.1*256))+v5.1)) a2,v5.2.1,())) (none)))
def fY(x:bm.D×Int×Unit):Option (QQ):=I1 x.1 x.2.1
abbrev QR:Type:=Bool×bm.D×Unit
def aaq(a1:bm.D)(a2:Int):Option (QR) :=(fY (a1,a2,())).bind fun v1 =>some (v1.1==0,v1.2.1,())
def rB(x:bm.D×Int×Unit):Option (QR):=aaq x.1 x.2.1
def aar  : Option (af.D×Unit) :=some ((2,[(1,2,493,0,0,([]:List UInt8),([]:List aw.D),0,0,())],()),())
def I2(x:Unit):Option (af.D×Unit):=aar
def aas  : Option (af.D×Unit) :=some ((2,[(1,2,493,0,0,([]:List UInt8),([]:List aw.D),0,0,())],()),())
def I3(x:Unit):Option (af.D×Unit):=aas
abbrev we:Type:=Int→af.D→af.D→af.D→Option (af.D×Unit)
def yh(k3:we)(a1:af.D):Option (af.D×Unit) :=k3 0 a1 (0,([]:List I.D),()) (a1.1,([]:List I.D),())
def QS(k3:we)(U:Int)(aa:af.D)(ae:af.D)(ai:af.D)(v3:List I.D):Option (af.D×Unit) :=k3 (aH (U+1)) aa ae (ai.1,v3,())
def QT(k3:we)(ai:af.D)(aa:af.D)(v1:Nat)(U:Int)(ae:af.D)(v2:List aw.D):Option (af.D×Unit) :=cond (room (ai.2.1.length+[((J I aa.2.1 v1).1,(J I aa.2.1 v1).2.1,(J I aa.2.1 v1).2.2.1,(J I aa.2.1 v1).2.2.2.1,(J I aa.2.1 v1).2.2.2.2.1,(J I aa.2.1 v1).2.2.2.2.2.1,v2,(J I aa.2.1 v1).2.2.2.2.2.2.2.1,(J I aa.2.1 v1).2.2.2.2.2.2.2.2.1,())].length)) (QS k3 U aa ae ai (ai.2.1++[((J I aa.2.1 v1).1,(J I aa.2.1 v1).2.1,(J I aa.2.1 v1).2.2.1,(J I aa.2.1 v1).2.2.2.1,(J I aa.2.1 v1).2.2.2.2.1,(J I aa.2.1 v1).2.2.2.2.2.1,v2,(J I aa.2.1 v1).2.2.2.2.2.2.2.1,(J I aa.2.1 v1).2.2.2.2.2.2.2.2.1,())])) (none)
def yi(k3:we)(U:Int)(aa:af.D)(ae:af.D)(ai:af.D):Option (af.D×Unit) :=cond (decide (U<(aa.2.1.length:Int))) ((aN aa.2.1.length U).bind fun v1 =>cond (room (([]:List aw.D).length +((J I aa.2.1 v1).2.2.2.2.2.2.1).length)) (QT k3 ai aa v1 U ae (([]:List aw.D)++((J I aa.2.1 v1).2.2.2.2.2.2.1))) (none)) (some (ai,()))
def o2:Nat→we | 0,_,_,_,_=>none | m+1,U,aa,ae,ai=>yi (o2 m) U aa ae ai
def lu(x:af.D×Unit):Option (af.D×Unit):=yh (o2 aP) x.1
abbrev wg:Type:=Int→af.D→af.D→af.D→Option (af.D×Unit)
def QU(k3:wg)(a1:af.D):Option (af.D×Unit) :=k3 0 a1 (0,([]:List I.D),()) (a1.1,([]:List I.D),())
def aat(k3:wg)(U:Int)(aa:af.D)(ae:af.D)(ai:af.D)(v3:List I.D):Option (af.D×Unit) :=k3 (aH (U+1)) aa ae (ai.1,v3,())
def aau(k3:wg)(ai:af.D)(aa:af.D)(v1:Nat)(U:Int)(ae:af.D)(v2:List aw.D):Option (af.D×Unit) :=cond (room (ai.2.1.length+[((J I aa.2.1 v1).1,(J I aa.2.1 v1).2.1,(J I aa.2.1 v1).2.2.1,(J I aa.2.1 v1).2.2.2.1,(J I aa.2.1 v1).2.2.2.2.1,(J I aa.2.1 v1).2.2.2.2.2.1,v2,(J I aa.2.1 v1).2.2.2.2.2.2.2.1,(J I aa.2.1 v1).2.2.2.2.2.2.2.2.1,())].length)) (aat k3 U aa ae ai (ai.2.1++[((J I aa.2.1 v1).1,(J I aa.2.1 v1).2.1,(J I aa.2.1 v1).2.2.1,(J I aa.2.1 v1).2.2.2.1,(J I aa.2.1 v1).2.2.2.2.1,(J I aa.2.1 v1).2.2.2.2.2.1,v2,(J I aa.2.1 v1).2.2.2.2.2.2.2.1,(J I aa.2.1 v1).2.2.2.2.2.2.2.2.1,())])) (none)
def I4(k3:wg)(U:Int)(aa:af.D)(ae:af.D)(ai:af.D):Option (af.D×Unit) :=cond (decide (U<(aa.2.1.length:Int))) ((aN aa.2.1.length U).bind fun v1 =>cond (room (([]:List aw.D).length +((J I aa.2.1 v1).2.2.2.2.2.2.1).length)) (aau k3 ai aa v1 U ae (([]:List aw.D)++((J I aa.2.1 v1).2.2.2.2.2.2.1))) (none)) (some (ai,()))
def yj:Nat→wg | 0,_,_,_,_=>none | m+1,U,aa,ae,ai=>I4 (yj m) U aa ae ai
def yk(x:af.D×Unit):Option (af.D×Unit):=QU (yj aP) x.1
def I5(a1:Int)(a2:Int)(a3:Int):Option (Bool×Unit) :=cond (decide (a1≥a2)) (some (decide (a1≤a3),())) (some (false,()))
def eg(x:Int×Int×Int×Unit):Option (Bool×Unit):=I5 x.1 x.2.1 x.2.2.1
abbrev BT:Type:=aG.D→Option (Bool×Unit)
def BU(bs:BT)(a1:aG.D):Option (Bool×Unit) :=(eg (a1.1,1,22,())).bind fun v1 =>cond (!v1.1) (some (false,())) (cond (decide ((a1.2.1.length:Int)>60)) (some (false,())) (cond (decide ((a1.2.2.1.length:Int)>60)) (some (false,())) (cond (decide ((a1.2.2.2.2.2.1.length:Int)>64)) (some (false,())) ((eg (a1.2.2.2.1,(-1000000),1000000,())).bind fun v2 =>cond (!v2.1) (some (false,())) ((eg (a1.2.2.2.2.1,(-1000000),1000000,())).bind fun v3 =>cond (!v3.1) (some (false,())) (cond (!(bu a1.2.2.1 ([]:List UInt8))) (cond (a1.1 != 9) (cond (a1.1 != 10) (cond (a1.1 != 12) (some (false,())) (bs a1)) (bs a1)) (bs a1)) (bs a1)))))))
def I6(bs:BT)(U:aG.D):Option (Bool×Unit) :=cond (bu U.2.2.2.2.2.1 ([]:List UInt8)) (some (true,())) (cond (U.1==5) (some (true,())) (some (U.1==6,())))
def yl:Nat→BT | 0,_=>none | m+1,U=>I6 (yl m) U
def I7(x:aG.D×Unit):Option (Bool×Unit):=BU (yl aP) x.1
def I8(a1:Int):Option (Bool×Unit) :=cond (decide (a1≥97)) (cond (decide (a1≤122)) (some (true,())) (cond (decide (a1≥48)) (cond (decide (a1≤57)) (some (true,())) (cond (a1==46) (some (true,())) (cond (a1==95) (some (true,())) (some (a1==45,()))))) (cond (a1==46) (some (true,())) (cond (a1==95) (some (true,())) (some (a1==45,())))))) (cond (decide (a1≥48)) (cond (decide (a1≤57)) (some (true,())) (cond (a1==46) (some (true,())) (cond (a1==95) (some (true,())) (some (a1==45,()))))) (cond (a1==46) (some (true,())) (cond (a1==95) (some (true,())) (some (a1==45,())))))
def ym(x:Int×Unit):Option (Bool×Unit):=I8 x.1
abbrev BV:Type:=(List UInt8)→Int→Option (Bool×Unit)
def BW(bf:BV)(a1:List UInt8):Option (Bool×Unit) :=(eg ((a1.length:Int),1,60,())).bind fun v1 =>cond (!v1.1) (some (false,())) (bf a1 0)
def BX(bf:BV)(U:List UInt8)(aa:Int):Option (Bool×Unit) :=cond (decide (aa<(U.length:Int))) ((aN U.length aa).bind fun v1 =>cond (((U.getD v1 0).toNat:Int) != 47) ((aN U.length aa).bind fun v2 =>(ym (((U.getD v2 0).toNat:Int),())).bind fun v3 =>cond (!v3.1) (some (false,())) (bf U (aH (aa+1)))) (bf U (aH (aa+1)))) (some (true,()))
def tp:Nat→BV | 0,_,_=>none | m+1,U,aa=>BX (tp m) U aa
def yn(x:(List UInt8)×Unit):Option (Bool×Unit):=BW (tp aP) x.1
abbrev BY:Type:=Int→aJ.D→Option (Bool×Unit)
def BZ(bf:BY)(a1:aJ.D):Option (Bool×Unit) :=(eg (a1.1,0,1000,())).bind fun v1 =>cond (!v1.1) (some (false,())) ((eg (a1.2.1,0,1000,())).bind fun v2 =>cond (!v2.1) (some (false,())) (cond (decide ((a1.2.2.1.length:Int)>4)) (some (false,())) (bf 0 a1)))
def B0(bf:BY)(U:Int)(aa:aJ.D):Option (Bool×Unit) :=cond (decide (U<(aa.2.2.1.length:Int))) ((aN aa.2.2.1.length U).bind fun v1 =>(eg (J (ad.int .i64) aa.2.2.1 v1,0,1000,())).bind fun v2 =>cond (!v2.1) (some (false,())) (bf (aH (U+1)) aa)) (some (true,()))
def tq:Nat→BY | 0,_,_=>none | m+1,U,aa=>B0 (tq m) U aa
def wh(x:aJ.D×Unit):Option (Bool×Unit):=BZ (tq aP) x.1
abbrev B1:Type:=Int→Bool→Int→aJ.D→Option (Bool×Unit)
def B2(bs:B1)(a1:aJ.D)(a2:Int):Option (Bool×Unit) :=(wh (a1,())).bind fun v1 =>cond (!v1.1) (some (false,())) (bs a2 (a1.2.1==a2) 0 a1)
def B3(bs:B1)(U:Int)(aa:Bool)(ae:Int)(ai:aJ.D):Option (Bool×Unit) :=cond (decide (ae<(ai.2.2.1.length:Int))) (cond aa (bs U true (aH (ae+1)) ai) ((aN ai.2.2.1.length ae).bind fun v1 =>bs U (J (ad.int .i64) ai.2.2.1 v1==U) (aH (ae+1)) ai)) (some (aa,()))
def tr:Nat→B1 | 0,_,_,_,_=>none | m+1,U,aa,ae,ai=>B3 (tr m) U aa ae ai
def ts(x:aJ.D×Int×Unit):Option (Bool×Unit):=B2 (tr aP) x.1 x.2.1
def I9(a1:aJ.D)(a2:I.D)(a3:Int):Option (Bool×Unit) :=(wh (a1,())).bind fun v1 =>cond (!v1.1) (some (false,())) ((eg (a3,0,7,())).bind fun v2 =>cond (!v2.1) (some (false,())) (cond (a1.1==0) (cond (cN .and .i64 a3 1==0) (some (true,())) (cond (a2.2.1 != 1) (some (true,())) (some (cN .and .i64 a2.2.2.1 73 != 0,())))) ((ts (a1,a2.2.2.2.2.1,())).bind fun v3 =>cond v3.1 (cond (a1.1==a2.2.2.2.1) (some (cN .and .i64 (cN .and .i64 (Int.fdiv a2.2.2.1 (2 ^ min (Int.toNat 6) 64)) 7) a3==a3,())) (some (cN .and .i64 (cN .and .i64 (Int.fdiv a2.2.2.1 (2 ^ min (Int.toNat 3) 64)) 7) a3==a3,()))) (cond (a1.1==a2.2.2.2.1) (some (cN .and .i64 (cN .and .i64 (Int.fdiv a2.2.2.1 (2 ^ min (Int.toNat 6) 64)) 7) a3==a3,())) (some (cN .and .i64 (cN .and .i64 a2.2.2.1 7) a3==a3,()))))))
def jO(x:aJ.D×I.D×Int×Unit):Option (Bool×Unit):=I9 x.1 x.2.1 x.2.2.1
abbrev B4:Type:=(List UInt8)→Int→Option (Bool×Unit)
def B5(bf:B4)(a1:List UInt8):Option (Bool×Unit) :=(eg ((a1.length:Int),1,60,())).bind fun v1 =>cond (!v1.1) (some (false,())) ((aN a1.length 0).bind fun v2 =>cond (((a1.getD v2 0).toNat:Int) != 47) (some (false,())) (bf a1 0))
def B6(bf:B4)(U:List UInt8)(aa:Int):Option (Bool×Unit) :=cond (decide (aa<(U.length:Int))) ((aN U.length aa).bind fun v1 =>cond (((U.getD v1 0).toNat:Int) != 47) ((aN U.length aa).bind fun v2 =>(ym (((U.getD v2 0).toNat:Int),())).bind fun v3 =>cond (!v3.1) (some (false,())) (bf U (aH (aa+1)))) (bf U (aH (aa+1)))) (some (true,()))
def tt:Nat→B4 | 0,_,_=>none | m+1,U,aa=>B6 (tt m) U aa
def B7(x:(List UInt8)×Unit):Option (Bool×Unit):=B5 (tt aP) x.1
abbrev B8:Type:=Int→Int→af.D→Option (Int×Unit)
def B9(k2:B8)(a1:af.D)(a2:Int):Option (Int×Unit) :=k2 a2 0 a1
def B_(k2:B8)(U:Int)(aa:Int)(ae:af.D):Option (Int×Unit) :=cond (decide (aa<(ae.2.1.length:Int))) ((aN ae.2.1.length aa).bind fun v1 =>cond ((J I ae.2.1 v1).1==U) (some (aa,())) (k2 U (aH (aa+1)) ae)) (some ((-1),()))
def tu:Nat→B8 | 0,_,_,_=>none | m+1,U,aa,ae=>B_ (tu m) U aa ae
def kc(x:af.D×Int×Unit):Option (Int×Unit):=B9 (tu aP) x.1 x.2.1
abbrev yp:Type:=(List (List UInt8))×Unit
abbrev B':Type:=(List UInt8)→Int→Int→(List (List UInt8))→Option (yp)
def Ca(bf:B')(a1:List UInt8):Option (yp) :=bf a1 0 0 ([]:List (List UInt8))
def yq(bf:B')(U:List UInt8)(aa:Int)(ae:Int)(ai:List (List UInt8)):Option (yp) :=cond (decide (ae≤(U.length:Int))) (cond (ae ==(U.length:Int)) (cond (decide (ae>aa)) ((dZ U.length aa ae).bind fun v1 =>cond (room (ai.length+[part U v1.1 (v1.2-v1.1)].length)) (bf U (aH (ae+1)) (aH (ae+1)) (ai++[part U v1.1 (v1.2-v1.1)])) (none)) (bf U (aH (ae+1)) (aH (ae+1)) ai)) ((aN U.length ae).bind fun v2 =>cond (((U.getD v2 0).toNat:Int)==47) (cond (decide (ae>aa)) ((dZ U.length aa ae).bind fun v3 =>cond (room (ai.length+[part U v3.1 (v3.2-v3.1)].length)) (bf U (aH (ae+1)) (aH (ae+1)) (ai++[part U v3.1 (v3.2-v3.1)])) (none)) (bf U (aH (ae+1)) (aH (ae+1)) ai)) (bf U aa (aH (ae+1)) ai))) (some (ai,()))
def p_:Nat→B' | 0,_,_,_,_=>none | m+1,U,aa,ae,ai=>yq (p_ m) U aa ae ai
def yr(x:(List UInt8)×Unit):Option (yp):=Ca (p_ aP) x.1
structure tv where
 k2:Int→Int→af.D→Option (Int×Unit)
 bs:Int→Int→Int→af.D→Option (Int×Unit)
def Cb(k:tv)(a1:af.D)(a2:Int):Option (Int×Unit) :=k.k2 a2 0 a1
def tw(k:tv)(U:Int)(aa:Int)(ae:af.D):Option (Int×Unit) :=cond (decide (aa<(ae.2.1.length:Int))) (k.bs U aa 0 ae) (some (1,()))
def tx(k:tv)(U:Int)(aa:Int)(ae:Int)(ai:af.D):Option (Int×Unit) :=(aN ai.2.1.length aa).bind fun v1 =>cond (decide (ae<(((J I ai.2.1 v1).2.2.2.2.2.2.1).length:Int))) ((aN ai.2.1.length aa).bind fun v2 =>(aN (((J I ai.2.1 v2).2.2.2.2.2.2.1).length) ae).bind fun v3 =>cond ((J aw ((J I ai.2.1 v2).2.2.2.2.2.2.1) v3).2.1==U) ((aN ai.2.1.length aa).bind fun v4 =>some ((J I ai.2.1 v4).1,())) (k.bs U aa (aH (ae+1)) ai)) (k.k2 U (aH (aa+1)) ai)
def QV(k:tv):tv:=⟨tw k,tx k⟩
def kd:Nat→tv:=eF QV ⟨fun _ _ _=>none,fun _ _ _ _=>none⟩
def Cc(x:af.D×Int×Unit):Option (Int×Unit):=Cb (kd aP) x.1 x.2.1
abbrev Cd:Type:=(List UInt8)→(List aw.D)→Int→Option (Int×Unit)
def Ce(k3:Cd)(a1:af.D)(a2:Int)(a3:List UInt8):Option (Int×Unit) :=(kc (a1,a2,())).bind fun v1 =>(aN a1.2.1.length v1.1).bind fun v2 =>k3 a3 ((J I a1.2.1 v2).2.2.2.2.2.2.1) 0
def Cf(k3:Cd)(U:List UInt8)(aa:List aw.D)(ae:Int):Option (Int×Unit) :=cond (decide (ae<(aa.length:Int))) ((aN aa.length ae).bind fun v1 =>cond (bu ((J aw aa v1).1) U) ((aN aa.length ae).bind fun v2 =>some ((J aw aa v2).2.1,())) (k3 U aa (aH (ae+1)))) (some (0,()))
def rC:Nat→Cd | 0,_,_,_=>none | m+1,U,aa,ae=>Cf (rC m) U aa ae
def I_(x:af.D×Int×(List UInt8)×Unit):Option (Int×Unit):=Ce (rC aP) x.1 x.2.1 x.2.2.1
structure o3 where
 bf:Bool→Nat→Nat→Int→Int→af.D→aJ.D→aW.D→(List (List UInt8))→Option (aW.D×Unit)
 QW:Bool→Nat→Nat→Int→Int→(List UInt8)→Bool→Int→af.D→aJ.D→aW.D→(List (List UInt8))→I.D→Option (aW.D×Unit)
 jv:Bool→Nat→Nat→Int→Int→af.D→aJ.D→aW.D→(List (List UInt8))→I.D→Option (aW.D×Unit)
 yt:Bool→Nat→Nat→Int→Int→(List UInt8)→Bool→Int→af.D→aJ.D→aW.D→(List (List UInt8))→I.D→Option (aW.D×Unit)
 o4:Bool→Nat→Nat→Int→Int→af.D→aJ.D→aW.D→(List (List UInt8))→I.D→Option (aW.D×Unit)
def Cg(k:o3)(a1:af.D)(a2:aJ.D)(a3:List UInt8)(a4:Bool):Option (aW.D×Unit) :=(yr (a3,())).bind fun v1 =>k.bf a4 0 v1.1.length 1 0 a1 a2 (0,([]:List UInt8),0,0,()) v1.1
def lv(k:o3)(U:Bool)(aa:Nat)(ae:Nat)(ai:Int)(ar:Int)(aE:af.D)(bn:aJ.D)(bT:aW.D)(cA:List (List UInt8)):Option (aW.D×Unit) :=cond (decide ((ae:Int)>0)) ((aN ae 0).bind fun v1 =>(dZ ae 1 (ae:Int)).bind fun v2 =>(kc (aE,ai,())).bind fun v3 =>(aN aE.2.1.length v3.1).bind fun v4 =>(jO (bn,J I aE.2.1 v4,1,())).bind fun v5 =>cond (!v5.1) (some ((0,([]:List UInt8),0,13,()),())) (cond (bu (J ad.str cA (aa+v1)) ([46]:List UInt8)) (k.bf U (aa+v2.1) (v2.2-v2.1) ai ar aE bn bT cA) (cond (bu (J ad.str cA (aa+v1)) ([46,46]:List UInt8)) ((Cc (aE,ai,())).bind fun v6 =>k.bf U (aa+v2.1) (v2.2-v2.1) v6.1 ar aE bn bT cA) (cond (decide (((J ad.str cA (aa+v1)).length:Int)>8)) (some ((0,([]:List UInt8),0,36,()),())) ((I_ (aE,ai,J ad.str cA (aa+v1),())).bind fun bt =>cond (bt.1==0) (cond ((((v2.2-v2.1):Nat):Int)==0) (some ((ai,J ad.str cA (aa+v1),0,2,()),())) (some ((0,([]:List UInt8),0,2,()),()))) (dup ((kc (aE,bt.1,())).bind fun dw =>(aN aE.2.1.length dw.1).bind fun v9 =>k.QW U (aa+v2.1) (v2.2-v2.1) ai ar (J ad.str cA (aa+v1)) ((((v2.2-v2.1):Nat):Int)==0) bt.1 aE bn bT cA (J I aE.2.1 v9)))))))) (some ((0,([]:List UInt8),ai,0,()),()))
def wi(k:o3)(U:Bool)(aa:Nat)(ae:Nat)(ai:Int)(ar:Int)(aE:List UInt8)(bn:Bool)(bT:Int)(cA:af.D)(eY:aJ.D)(ke:aW.D)(kf:List (List UInt8))(jP:I.D):Option (aW.D×Unit) :=cond (jP.2.1==3) (cond (!bn) (k.jv U aa ae ai ar cA eY ke kf jP) (cond U (k.jv U aa ae ai ar cA eY ke kf jP) (k.yt U aa ae ai ar aE bn bT cA eY ke kf jP))) (k.yt U aa ae ai ar aE bn bT cA eY ke kf jP)
def Ch(k:o3)(U:Bool)(aa:Nat)(ae:Nat)(ai:Int)(ar:Int)(aE:af.D)(bn:aJ.D)(bT:aW.D)(cA:List (List UInt8))(eY:I.D):Option (aW.D×Unit) :=cond (decide (aH (ar+1)>8)) (some ((0,([]:List UInt8),0,40,()),())) ((aN eY.2.2.2.2.2.1.length 0).bind fun v1 =>cond (((eY.2.2.2.2.2.1.getD v1 0).toNat:Int)==47) (k.o4 U aa ae 1 (aH (ar+1)) aE bn bT cA eY) (k.o4 U aa ae ai (aH (ar+1)) aE bn bT cA eY))
def Ci(k:o3)(U:Bool)(aa:Nat)(ae:Nat)(ai:Int)(ar:Int)(aE:List UInt8)(bn:Bool)(bT:Int)(cA:af.D)(eY:aJ.D)(ke:aW.D)(kf:List (List UInt8))(jP:I.D):Option (aW.D×Unit) :=cond bn (some ((ai,aE,bT,0,()),())) (cond (jP.2.1 != 2) (some ((0,([]:List UInt8),0,20,()),())) (k.bf U aa ae bT ar cA eY ke kf))
def Cj(k:o3)(U:Bool)(aa:Nat)(ae:Nat)(ai:Int)(ar:Int)(aE:af.D)(bn:aJ.D)(bT:aW.D)(cA:List (List UInt8))(eY:I.D):Option (aW.D×Unit) :=(yr (eY.2.2.2.2.2.1,())).bind fun v1 =>cond (room (v1.1.length +(part cA aa ae).length)) (cond (decide (((v1.1++(part cA aa ae)).length:Int)>40)) (some ((0,([]:List UInt8),0,36,()),())) (k.bf U 0 ((v1.1++(part cA aa ae)).length) ai ar aE bn bT (v1.1++(part cA aa ae)))) (none)
def QX(k:o3):o3:=⟨lv k,wi k,Ch k,Ci k,Cj k⟩
def e6:Nat→o3:=eF QX ⟨fun _ _ _ _ _ _ _ _ _=>none,fun _ _ _ _ _ _ _ _ _ _ _ _ _=>none,fun _ _ _ _ _ _ _ _ _ _=>none,fun _ _ _ _ _ _ _ _ _ _ _ _ _=>none,fun _ _ _ _ _ _ _ _ _ _=>none⟩
def Ck(x:af.D×aJ.D×(List UInt8)×Bool×Unit):Option (aW.D×Unit):=Cg (e6 aP) x.1 x.2.1 x.2.2.1 x.2.2.2.1
def yu(a1:af.D)(a2:aJ.D)(a3:List UInt8):Option (aW.D×Int×Unit) :=(B7 (a3,())).bind fun v1 =>cond (!v1.1) (some ((0,([]:List UInt8),0,0,()),22,())) ((Ck (a1,a2,a3,false,())).bind fun v2 =>cond (v2.1.2.2.2.1==0) (some (v2.1,17,())) (cond (v2.1.2.2.2.1==2) (cond (!(bu v2.1.2.1 ([]:List UInt8))) (some (v2.1,0,())) (some (v2.1,v2.1.2.2.2.1,()))) (some (v2.1,v2.1.2.2.2.1,()))))
def tz(x:af.D×aJ.D×(List UInt8)×Unit):Option (aW.D×Int×Unit):=yu x.1 x.2.1 x.2.2.1
def I'(a1:af.D)(a2:Int):Option (I.D×Unit) :=(kc (a1,a2,())).bind fun v1 =>(aN a1.2.1.length v1.1).bind fun v2 =>some (J I a1.2.1 v2,())
def e7(x:af.D×Int×Unit):Option (I.D×Unit):=I' x.1 x.2.1
abbrev Cl:Type:=Int→Int→af.D→Option (Int×Unit)
def Cm(k3:Cl)(a1:af.D):Option (Int×Unit) :=k3 0 0 a1
def Cn(k3:Cl)(U:Int)(aa:Int)(ae:af.D):Option (Int×Unit) :=cond (decide (aa<(ae.2.1.length:Int))) ((aN ae.2.1.length aa).bind fun v1 =>k3 (aH (U +(((J I ae.2.1 v1).2.2.2.2.2.1).length:Int))) (aH (aa+1)) ae) (some (U,()))
def tA:Nat→Cl | 0,_,_,_=>none | m+1,U,aa,ae=>Cn (tA m) U aa ae
def yv(x:af.D×Unit):Option (Int×Unit):=Cm (tA aP) x.1
structure qa where
 ee:Int→af.D→(List Bool)→(List Bool)→Option ((List Bool)×Unit)
 cZ:Int→Int→af.D→(List Bool)→(List Bool)→Option ((List Bool)×Unit)
 Co:Int→Int→Int→af.D→(List Bool)→(List Bool)→Option ((List Bool)×Unit)
def aav(k:qa)(a1:af.D)(v3:List Bool):Option ((List Bool)×Unit) :=k.ee 0 a1 (List.replicate (Int.toNat (a1.2.1.length:Int)) (false:Bool)) v3
def Cp(k:qa)(a1:af.D)(a2:Int):Option ((List Bool)×Unit) :=cond (decide (0≤(a1.2.1.length:Int))&&decide ((a1.2.1.length:Int)=(a1.2.1.length:Int))&&room (Int.toNat (a1.2.1.length:Int))) (cond (decide (0≤(a1.2.1.length:Int))&&decide ((a1.2.1.length:Int)=(a1.2.1.length:Int))&&room (Int.toNat (a1.2.1.length:Int))) ((kc (a1,a2,())).bind fun v1 =>cond (decide (v1.1<0)) (some (List.replicate (Int.toNat (a1.2.1.length:Int)) (false:Bool),())) ((aN ((List.replicate (Int.toNat (a1.2.1.length:Int)) (false:Bool)).length) v1.1).bind fun v2 =>aav k a1 ((List.replicate (Int.toNat (a1.2.1.length:Int)) (false:Bool)).set (0+v2) true))) (none)) (none)
def yw(k:qa)(U:Int)(aa:af.D)(ae:List Bool)(ai:List Bool):Option ((List Bool)×Unit) :=cond (decide (U<(aa.2.1.length:Int))) (k.cZ U 0 aa ae ai) (some (ae,()))
def tB(k:qa)(U:Int)(aa:Int)(ae:af.D)(ai:List Bool)(ar:List Bool):Option ((List Bool)×Unit) :=cond (decide (aa<(ae.2.1.length:Int))) ((aN ar.length aa).bind fun v1 =>cond (!(J ad.bool ar (0+v1))) (k.cZ U (aH (aa+1)) ae ai ar) (k.Co U aa 0 ae ai ar)) (k.ee (aH (U+1)) ae ai ar)
def yx(k:qa)(U:Int)(aa:Int)(ae:Int)(ai:af.D)(ar:List Bool)(aE:List Bool):Option ((List Bool)×Unit) :=(aN ai.2.1.length aa).bind fun v1 =>cond (decide (ae<(((J I ai.2.1 v1).2.2.2.2.2.2.1).length:Int))) ((aN ai.2.1.length aa).bind fun v2 =>(aN (((J I ai.2.1 v2).2.2.2.2.2.2.1).length) ae).bind fun v3 =>(kc (ai,(J aw ((J I ai.2.1 v2).2.2.2.2.2.2.1) v3).2.1,())).bind fun v4 =>cond (decide (v4.1≥0)) ((aN ar.length v4.1).bind fun v5 =>(aN aE.length v4.1).bind fun v6 =>k.Co U aa (aH (ae+1)) ai (ar.set (0+v5) true) (aE.set (0+v6) true)) (k.Co U aa (aH (ae+1)) ai ar aE)) (k.cZ U (aH (aa+1)) ai ar aE)
def QY(k:qa):qa:=⟨yw k,tB k,yx k⟩
def jQ:Nat→qa:=eF QY ⟨fun _ _ _ _=>none,fun _ _ _ _ _=>none,fun _ _ _ _ _ _=>none⟩
def Cq(x:af.D×Int×Unit):Option ((List Bool)×Unit):=Cp (jQ aP) x.1 x.2.1
abbrev Cr:Type:=Int→Int→Int→af.D→(List Bool)→Option (Int×Int×Unit)
def Cs(bs:Cr)(a1:af.D)(a2:Int):Option (Int×Int×Unit) :=(Cq (a1,a2,())).bind fun v1 =>bs 0 0 0 a1 v1.1
def Ct(bs:Cr)(U:Int)(aa:Int)(ae:Int)(ai:af.D)(ar:List Bool):Option (Int×Int×Unit) :=cond (decide (ae<(ar.length:Int))) ((aN ar.length ae).bind fun v1 =>cond (J ad.bool ar (0+v1)) ((aN ai.2.1.length ae).bind fun v2 =>bs (aH (U +(((J I ai.2.1 v2).2.2.2.2.2.1).length:Int))) (aH (aa+1)) (aH (ae+1)) ai ar) (bs U aa (aH (ae+1)) ai ar)) (some (U,aa,()))
def tC:Nat→Cr | 0,_,_,_,_,_=>none | m+1,U,aa,ae,ai,ar=>Ct (tC m) U aa ae ai ar
def yy(x:af.D×Int×Unit):Option (Int×Int×Unit):=Cs (tC aP) x.1 x.2.1
structure tD where
 k2:Int→af.D→Option (Bool×Unit)
 c_:Int→af.D→I.D→Option (Bool×Unit)
def Cu(k:tD)(a1:af.D):Option (Bool×Unit) :=k.k2 0 a1
def yz(k:tD)(U:Int)(aa:af.D):Option (Bool×Unit) :=cond (decide (U<(aa.2.1.length:Int))) ((aN aa.2.1.length U).bind fun v1 =>cond ((J I aa.2.1 v1).2.1 != 2) (k.k2 (aH (U+1)) aa) (cond ((J I aa.2.1 v1).2.2.2.2.2.2.2.1==0) (cond ((J I aa.2.1 v1).2.2.2.2.2.2.2.2.1==0) (k.k2 (aH (U+1)) aa) (k.c_ U aa (J I aa.2.1 v1))) (k.c_ U aa (J I aa.2.1 v1)))) (some (false,()))
def Ja(k:tD)(U:Int)(aa:af.D)(ae:I.D):Option (Bool×Unit) :=(yy (aa,ae.1,())).bind fun v1 =>cond (decide (ae.2.2.2.2.2.2.2.1>0)) (cond (decide (v1.1>ae.2.2.2.2.2.2.2.1)) (some (true,())) (cond (decide (ae.2.2.2.2.2.2.2.2.1>0)) (cond (decide (v1.2.1>ae.2.2.2.2.2.2.2.2.1)) (some (true,())) (k.k2 (aH (U+1)) aa)) (k.k2 (aH (U+1)) aa))) (cond (decide (ae.2.2.2.2.2.2.2.2.1>0)) (cond (decide (v1.2.1>ae.2.2.2.2.2.2.2.2.1)) (some (true,())) (k.k2 (aH (U+1)) aa)) (k.k2 (aH (U+1)) aa))
def QZ(k:tD):tD:=⟨yz k,Ja k⟩
def jR:Nat→tD:=eF QZ ⟨fun _ _=>none,fun _ _ _=>none⟩
def Cv(x:af.D×Unit):Option (Bool×Unit):=Cu (jR aP) x.1
def Jb(a1:af.D):Option (Int×Unit) :=(yv (a1,())).bind fun v1 =>cond (decide (v1.1>400)) (some (28,())) ((Cv (a1,())).bind fun v2 =>cond v2.1 (some (122,())) (some (0,())))
def Jc(x:af.D×Unit):Option (Int×Unit):=Jb x.1
abbrev Q0:Type:=af.D×aV.D×Unit
def Jd(a1:af.D)(a2:af.D):Option (Q0) :=(Jc (a2,())).bind fun v1 =>cond (v1.1 != 0) (some (a1,(v1.1,([]:List UInt8),()),())) (some (a2,(0,([]:List UInt8),()),()))
def qb(x:af.D×af.D×Unit):Option (Q0):=Jd x.1 x.2.1
def yA(a1:af.D)(a2:I.D):Option (af.D×Unit) :=(kc (a1,a2.1,())).bind fun v1 =>cond (decide (v1.1<0)) (cond (room (a1.2.1.length+[a2].length)) (some ((a1.1,a1.2.1++[a2],()),())) (none)) ((aN a1.2.1.length v1.1).bind fun v2 =>some ((a1.1,a1.2.1.set (0+v2) a2,()),()))
def n4(x:af.D×I.D×Unit):Option (af.D×Unit):=yA x.1 x.2.1
structure rD where
 bs:(List UInt8)→Int→Bool→Int→af.D→af.D→I.D→(List aw.D)→Option (af.D×Unit)
 eX:(List UInt8)→Int→Bool→Int→af.D→af.D→I.D→(List aw.D)→Option (af.D×Unit)
 l8:af.D→af.D→I.D→(List aw.D)→Option (af.D×Unit)
def Cw(k:rD)(a1:af.D)(a2:Int)(a3:List UInt8)(a4:Int):Option (af.D×Unit) :=(e7 (a1,a2,())).bind fun v1 =>k.bs a3 a4 false 0 a1 (0,([]:List I.D),()) v1.1 ([]:List aw.D)
def n5(k:rD)(U:List UInt8)(aa:Int)(ae:Bool)(ai:Int)(ar:af.D)(aE:af.D)(bn:I.D)(bT:List aw.D):Option (af.D×Unit) :=cond (decide (ai<(bn.2.2.2.2.2.2.1.length:Int))) (cond (!ae) ((aN bn.2.2.2.2.2.2.1.length ai).bind fun v1 =>cond (dr U ((J aw bn.2.2.2.2.2.2.1 v1).1)) (cond (room (bT.length+[(U,aa,())].length)) (k.eX U aa true ai ar aE bn (bT++[(U,aa,())])) (none)) (k.eX U aa ae ai ar aE bn bT)) (k.eX U aa ae ai ar aE bn bT)) (cond (!ae) (cond (room (bT.length+[(U,aa,())].length)) (k.l8 ar aE bn (bT++[(U,aa,())])) (none)) (k.l8 ar aE bn bT))
def tE(k:rD)(U:List UInt8)(aa:Int)(ae:Bool)(ai:Int)(ar:af.D)(aE:af.D)(bn:I.D)(bT:List aw.D):Option (af.D×Unit) :=(aN bn.2.2.2.2.2.2.1.length ai).bind fun v1 =>cond (room (bT.length+[J aw bn.2.2.2.2.2.2.1 v1].length)) (k.bs U aa ae (aH (ai+1)) ar aE bn (bT++[J aw bn.2.2.2.2.2.2.1 v1])) (none)
def Je(k:rD)(U:af.D)(aa:af.D)(ae:I.D)(ai:List aw.D):Option (af.D×Unit) :=(n4 (U,(ae.1,ae.2.1,ae.2.2.1,ae.2.2.2.1,ae.2.2.2.2.1,ae.2.2.2.2.2.1,ai,ae.2.2.2.2.2.2.2.1,ae.2.2.2.2.2.2.2.2.1,()),())).bind fun v1 =>some (v1.1,())
def Q1(k:rD):rD:=⟨n5 k,tE k,Je k⟩
def ie:Nat→rD:=eF Q1 ⟨fun _ _ _ _ _ _ _ _=>none,fun _ _ _ _ _ _ _ _=>none,fun _ _ _ _=>none⟩
def rE(x:af.D×Int×(List UInt8)×Int×Unit):Option (af.D×Unit):=Cw (ie aP) x.1 x.2.1 x.2.2.1 x.2.2.2.1
abbrev n6:Type:=af.D×aV.D×Unit
structure qc where
 k3:af.D→aJ.D→aG.D→af.D→aV.D→Option (n6)
 yB:af.D→aG.D→af.D→aV.D→aW.D→I.D→I.D→Option (n6)
 gx:af.D→af.D→aV.D→aW.D→I.D→I.D→Option (n6)
 jv:af.D→af.D→aV.D→aW.D→I.D→Option (n6)
def Cx(k:qc)(a1:af.D)(a2:aJ.D)(a3:aG.D):Option (n6) :=cond (a3.1==10) ((yn (a3.2.2.1,())).bind fun v1 =>cond (!v1.1) (some (a1,(22,([]:List UInt8),()),())) (cond (a3.1 != 10) ((eg (a3.2.2.2.1,0,2047,())).bind fun v2 =>cond (!v2.1) (some (a1,(22,([]:List UInt8),()),())) (k.k3 a1 a2 a3 (0,([]:List I.D),()) (0,([]:List UInt8),()))) (k.k3 a1 a2 a3 (0,([]:List I.D),()) (0,([]:List UInt8),())))) (cond (a3.1 != 10) ((eg (a3.2.2.2.1,0,2047,())).bind fun v3 =>cond (!v3.1) (some (a1,(22,([]:List UInt8),()),())) (k.k3 a1 a2 a3 (0,([]:List I.D),()) (0,([]:List UInt8),()))) (k.k3 a1 a2 a3 (0,([]:List I.D),()) (0,([]:List UInt8),())))
def Jf(k:qc)(U:af.D)(aa:aJ.D)(ae:aG.D)(ai:af.D)(ar:aV.D):Option (n6) :=(tz (U,aa,ae.2.1,())).bind fun v1 =>cond (v1.2.1 != 0) (some (U,(v1.2.1,([]:List UInt8),()),())) ((e7 (U,v1.1.1,())).bind fun v2 =>(jO (aa,v2.1,3,())).bind fun v3 =>cond (!v3.1) (some (U,(13,([]:List UInt8),()),())) (cond (decide ((v2.1.2.2.2.2.2.2.1.length:Int)≥12)) (some (U,(28,([]:List UInt8),()),())) (cond (decide ((U.2.1.length:Int)≥24)) (some (U,(28,([]:List UInt8),()),())) (cond (decide (U.1≥100000)) (some (U,(28,([]:List UInt8),()),())) (cond (ae.1==1) (k.yB U ae ai ar v1.1 v2.1 (U.1,2,ae.2.2.2.1,aa.1,aa.2.1,([]:List UInt8),([]:List aw.D),0,0,())) (k.yB U ae ai ar v1.1 v2.1 (U.1,1,ae.2.2.2.1,aa.1,aa.2.1,([]:List UInt8),([]:List aw.D),0,0,())))))))
def aaw(k:qc)(U:af.D)(aa:aG.D)(ae:af.D)(ai:aV.D)(ar:aW.D)(aE:I.D)(bn:I.D):Option (n6) :=cond (aa.1==10) (k.gx U ae ai ar aE (bn.1,3,511,bn.2.2.2.1,bn.2.2.2.2.1,aa.2.2.1,bn.2.2.2.2.2.2.1,bn.2.2.2.2.2.2.2.1,bn.2.2.2.2.2.2.2.2.1,())) (k.gx U ae ai ar aE bn)
def aax(k:qc)(U:af.D)(aa:af.D)(ae:aV.D)(ai:aW.D)(ar:I.D)(aE:I.D):Option (n6) :=cond (cN .and .i64 ar.2.2.1 1024 != 0) (cond (aE.2.1==2) (k.jv U aa ae ai (aE.1,aE.2.1,cN .or .i64 aE.2.2.1 1024,aE.2.2.2.1,ar.2.2.2.2.1,aE.2.2.2.2.2.1,aE.2.2.2.2.2.2.1,aE.2.2.2.2.2.2.2.1,aE.2.2.2.2.2.2.2.2.1,())) (k.jv U aa ae ai (aE.1,aE.2.1,aE.2.2.1,aE.2.2.2.1,ar.2.2.2.2.1,aE.2.2.2.2.2.1,aE.2.2.2.2.2.2.1,aE.2.2.2.2.2.2.2.1,aE.2.2.2.2.2.2.2.2.1,()))) (k.jv U aa ae ai aE)
def Jg(k:qc)(U:af.D)(aa:af.D)(ae:aV.D)(ai:aW.D)(ar:I.D):Option (n6) :=(lu (U,())).bind fun v1 =>(n4 ((aH (v1.1.1+1),v1.1.2.1,()),ar,())).bind fun v2 =>(rE (v2.1,ai.1,ai.2.1,ar.1,())).bind fun v3 =>(qb (U,v3.1,())).bind fun v4 =>some (v4.1,v4.2.1,())
def Q2(k:qc):qc:=⟨Jf k,aaw k,aax k,Jg k⟩
def jw:Nat→qc:=eF Q2 ⟨fun _ _ _ _ _=>none,fun _ _ _ _ _ _ _=>none,fun _ _ _ _ _ _=>none,fun _ _ _ _ _=>none⟩
def tF(x:af.D×aJ.D×aG.D×Unit):Option (n6):=Cx (jw aP) x.1 x.2.1 x.2.2.1
def yC(a1:af.D)(a2:aJ.D)(a3:List UInt8)(a4:Bool):Option (aW.D×Unit) :=(B7 (a3,())).bind fun v1 =>cond (!v1.1) (some ((0,([]:List UInt8),0,22,()),())) ((Ck (a1,a2,a3,a4,())).bind fun v2 =>some (v2.1,()))
def fK(x:af.D×aJ.D×(List UInt8)×Bool×Unit):Option (aW.D×Unit):=yC x.1 x.2.1 x.2.2.1 x.2.2.2.1
def Jh(a1:aJ.D)(a2:I.D)(a3:I.D):Option (Bool×Unit) :=(wh (a1,())).bind fun v1 =>cond (!v1.1) (some (false,())) (cond (cN .and .i64 a2.2.2.1 512==0) (some (true,())) (cond (a1.1==0) (some (true,())) (cond (a1.1==a2.2.2.2.1) (some (true,())) (some (a1.1==a3.2.2.2.1,())))))
def wj(x:aJ.D×I.D×I.D×Unit):Option (Bool×Unit):=Jh x.1 x.2.1 x.2.2.1
structure tG where
 k3:Int→Int→Int→af.D→Option (Int×Unit)
 c_:Int→Int→Int→Int→af.D→Option (Int×Unit)
def Cy(k:tG)(a1:af.D)(a2:Int):Option (Int×Unit) :=k.k3 a2 0 0 a1
def yD(k:tG)(U:Int)(aa:Int)(ae:Int)(ai:af.D):Option (Int×Unit) :=cond (decide (ae<(ai.2.1.length:Int))) (k.c_ U aa ae 0 ai) (some (aa,()))
def yE(k:tG)(U:Int)(aa:Int)(ae:Int)(ai:Int)(ar:af.D):Option (Int×Unit) :=(aN ar.2.1.length ae).bind fun v1 =>cond (decide (ai<(((J I ar.2.1 v1).2.2.2.2.2.2.1).length:Int))) ((aN ar.2.1.length ae).bind fun v2 =>(aN (((J I ar.2.1 v2).2.2.2.2.2.2.1).length) ai).bind fun v3 =>cond ((J aw ((J I ar.2.1 v2).2.2.2.2.2.2.1) v3).2.1==U) (k.c_ U (aH (aa+1)) ae (aH (ai+1)) ar) (k.c_ U aa ae (aH (ai+1)) ar)) (k.k3 U aa (aH (ae+1)) ar)
def Q3(k:tG):tG:=⟨yD k,yE k⟩
def o5:Nat→tG:=eF Q3 ⟨fun _ _ _ _=>none,fun _ _ _ _ _=>none⟩
def yF(x:af.D×Int×Unit):Option (Int×Unit):=Cy (o5 aP) x.1 x.2.1
structure tH where
 bs:(List UInt8)→Int→Int→af.D→af.D→I.D→(List aw.D)→Option (af.D×Unit)
 l9:Int→Int→af.D→af.D→(List I.D)→Option (af.D×Unit)
def Cz(k:tH)(a1:af.D)(a2:Int)(a3:List UInt8):Option (af.D×Unit) :=(e7 (a1,a2,())).bind fun v1 =>k.bs a3 0 0 a1 (0,([]:List I.D),()) v1.1 ([]:List aw.D)
def yG(k:tH)(U:List UInt8)(aa:Int)(ae:Int)(ai:af.D)(ar:af.D)(aE:I.D)(bn:List aw.D):Option (af.D×Unit) :=cond (decide (ae<(aE.2.2.2.2.2.2.1.length:Int))) ((aN aE.2.2.2.2.2.2.1.length ae).bind fun v1 =>cond (bu ((J aw aE.2.2.2.2.2.2.1 v1).1) U) ((aN aE.2.2.2.2.2.2.1.length ae).bind fun v2 =>k.bs U ((J aw aE.2.2.2.2.2.2.1 v2).2.1) (aH (ae+1)) ai ar aE bn) ((aN aE.2.2.2.2.2.2.1.length ae).bind fun v3 =>cond (room (bn.length+[J aw aE.2.2.2.2.2.2.1 v3].length)) (k.bs U aa (aH (ae+1)) ai ar aE (bn++[J aw aE.2.2.2.2.2.2.1 v3])) (none))) ((n4 (ai,(aE.1,aE.2.1,aE.2.2.1,aE.2.2.2.1,aE.2.2.2.2.1,aE.2.2.2.2.2.1,bn,aE.2.2.2.2.2.2.2.1,aE.2.2.2.2.2.2.2.2.1,()),())).bind fun v4 =>(yF (v4.1,aa,())).bind fun v5 =>cond (decide (v5.1>0)) (some (v4.1,())) (k.l9 aa 0 v4.1 ar ([]:List I.D)))
def yH(k:tH)(U:Int)(aa:Int)(ae:af.D)(ai:af.D)(ar:List I.D):Option (af.D×Unit) :=cond (decide (aa<(ae.2.1.length:Int))) ((aN ae.2.1.length aa).bind fun v1 =>cond ((J I ae.2.1 (0+v1)).1 != U) ((aN ae.2.1.length aa).bind fun v2 =>cond (room (ar.length+[J I ae.2.1 (0+v2)].length)) (k.l9 U (aH (aa+1)) ae ai (ar++[J I ae.2.1 (0+v2)])) (none)) (k.l9 U (aH (aa+1)) ae ai ar)) (some ((ae.1,ar,()),()))
def Q4(k:tH):tH:=⟨yG k,yH k⟩
def kC:Nat→tH:=eF Q4 ⟨fun _ _ _ _ _ _ _=>none,fun _ _ _ _ _=>none⟩
def n7(x:af.D×Int×(List UInt8)×Unit):Option (af.D×Unit):=Cz (kC aP) x.1 x.2.1 x.2.2.1
abbrev qd:Type:=af.D×aV.D×Unit
structure rF where
 dh:af.D→aJ.D→aG.D→af.D→aV.D→aW.D→I.D→Option (qd)
 gG:af.D→aJ.D→aG.D→af.D→aV.D→aW.D→I.D→Option (qd)
 cZ:af.D→aJ.D→af.D→aV.D→aW.D→I.D→Option (qd)
def CA(k:rF)(a1:af.D)(a2:aJ.D)(a3:aG.D):Option (qd) :=(fK (a1,a2,a3.2.1,false,())).bind fun v1 =>cond (v1.1.2.2.2.1 != 0) (some (a1,(v1.1.2.2.2.1,([]:List UInt8),()),())) ((e7 (a1,v1.1.2.2.1,())).bind fun v2 =>cond (a3.1==2) (cond (bu v1.1.2.1 ([]:List UInt8)) (some (a1,(16,([]:List UInt8),()),())) (k.dh a1 a2 a3 (0,([]:List I.D),()) (0,([]:List UInt8),()) v1.1 v2.1)) (k.dh a1 a2 a3 (0,([]:List I.D),()) (0,([]:List UInt8),()) v1.1 v2.1))
def Ji(k:rF)(U:af.D)(aa:aJ.D)(ae:aG.D)(ai:af.D)(ar:aV.D)(aE:aW.D)(bn:I.D):Option (qd) :=cond (ae.1==2) (cond (bn.2.1 != 2) (some (U,(20,([]:List UInt8),()),())) (k.gG U aa ae ai ar aE bn)) (k.gG U aa ae ai ar aE bn)
def Jj(k:rF)(U:af.D)(aa:aJ.D)(ae:aG.D)(ai:af.D)(ar:aV.D)(aE:aW.D)(bn:I.D):Option (qd) :=cond (ae.1==8) (cond (bn.2.1==2) (some (U,(21,([]:List UInt8),()),())) (k.cZ U aa ai ar aE bn)) (k.cZ U aa ai ar aE bn)
def Jk(k:rF)(U:af.D)(aa:aJ.D)(ae:af.D)(ai:aV.D)(ar:aW.D)(aE:I.D):Option (qd) :=(e7 (U,ar.1,())).bind fun v1 =>(jO (aa,v1.1,3,())).bind fun v2 =>cond (!v2.1) (some (U,(13,([]:List UInt8),()),())) ((wj (aa,v1.1,aE,())).bind fun v3 =>cond (!v3.1) (some (U,(1,([]:List UInt8),()),())) (cond (decide ((aE.2.2.2.2.2.2.1.length:Int)>0)) (some (U,(39,([]:List UInt8),()),())) ((lu (U,())).bind fun v4 =>(n7 (v4.1,ar.1,ar.2.1,())).bind fun v5 =>some (v5.1,(0,([]:List UInt8),()),()))))
def Q5(k:rF):rF:=⟨Ji k,Jj k,Jk k⟩
def qe:Nat→rF:=eF Q5 ⟨fun _ _ _ _ _ _ _=>none,fun _ _ _ _ _ _ _=>none,fun _ _ _ _ _ _=>none⟩
def yI(x:af.D×aJ.D×aG.D×Unit):Option (qd):=CA (qe aP) x.1 x.2.1 x.2.2.1
def Jl(a1:af.D)(a2:Int):Option (Bool×Unit) :=(kc (a1,a2,())).bind fun v1 =>cond (decide (v1.1≥0)) ((aN a1.2.1.length v1.1).bind fun v2 =>some ((J I a1.2.1 v2).2.1==2,())) (some (false,()))
def wk(x:af.D×Int×Unit):Option (Bool×Unit):=Jl x.1 x.2.1
abbrev Q6:Type:=af.D×aV.D×Unit
def Jm(a1:af.D)(a2:aJ.D)(a3:aG.D):Option (Q6) :=(fK (a1,a2,a3.2.1,false,())).bind fun v1 =>cond (v1.1.2.2.2.1 != 0) (some (a1,(v1.1.2.2.2.1,([]:List UInt8),()),())) ((wk (a1,v1.1.2.2.1,())).bind fun v2 =>cond v2.1 (some (a1,(1,([]:List UInt8),()),())) ((tz (a1,a2,a3.2.2.1,())).bind fun v3 =>cond (v3.2.1 != 0) (some (a1,(v3.2.1,([]:List UInt8),()),())) ((e7 (a1,v3.1.1,())).bind fun v4 =>(jO (a2,v4.1,3,())).bind fun v5 =>cond (!v5.1) (some (a1,(13,([]:List UInt8),()),())) (cond (decide ((v4.1.2.2.2.2.2.2.1.length:Int)≥12)) (some (a1,(28,([]:List UInt8),()),())) ((lu (a1,())).bind fun v6 =>(rE (v6.1,v3.1.1,v3.1.2.1,v1.1.2.2.1,())).bind fun bt =>(qb (a1,bt.1,())).bind fun dw =>some (dw.1,dw.2.1,()))))))
def CB(x:af.D×aJ.D×aG.D×Unit):Option (Q6):=Jm x.1 x.2.1 x.2.2.1
abbrev CC:Type:=Int→Int→Int→af.D→Option (Bool×Unit)
def CD(k2:CC)(a1:af.D)(a2:Int)(a3:Int):Option (Bool×Unit) :=k2 a2 a3 0 a1
def CE(k2:CC)(U:Int)(aa:Int)(ae:Int)(ai:af.D):Option (Bool×Unit) :=cond (decide (ae≤(ai.2.1.length:Int))) (cond (U==aa) (some (true,())) (cond (U==1) (some (false,())) ((Cc (ai,U,())).bind fun v1 =>k2 v1.1 aa (aH (ae+1)) ai))) (some (false,()))
def tI:Nat→CC | 0,_,_,_,_=>none | m+1,U,aa,ae,ai=>CE (tI m) U aa ae ai
def yJ(x:af.D×Int×Int×Unit):Option (Bool×Unit):=CD (tI aP) x.1 x.2.1 x.2.2.1
abbrev l_:Type:=af.D×aV.D×Unit
structure o6 where
 dh:af.D→aJ.D→af.D→aV.D→aW.D→aW.D→Option (l_)
 gx:af.D→aJ.D→af.D→aV.D→aW.D→aW.D→I.D→I.D→Option (l_)
 o4:af.D→af.D→aV.D→aW.D→aW.D→I.D→af.D→I.D→Option (l_)
 ma:af.D→af.D→aV.D→aW.D→aW.D→af.D→Option (l_)
 Jn:af.D→af.D→aV.D→aW.D→aW.D→I.D→af.D→I.D→Option (l_)
def CF(k:o6)(a1:af.D)(a2:aJ.D)(a3:aG.D):Option (l_) :=(fK (a1,a2,a3.2.1,false,())).bind fun v1 =>cond (v1.1.2.2.2.1 != 0) (some (a1,(v1.1.2.2.2.1,([]:List UInt8),()),())) ((fK (a1,a2,a3.2.2.1,false,())).bind fun v2 =>cond (v2.1.2.2.2.1 != 0) (cond (v2.1.2.2.2.1 != 2) (some (a1,(v2.1.2.2.2.1,([]:List UInt8),()),())) (cond (bu v2.1.2.1 ([]:List UInt8)) (some (a1,(v2.1.2.2.2.1,([]:List UInt8),()),())) (k.dh a1 a2 (0,([]:List I.D),()) (0,([]:List UInt8),()) v1.1 v2.1))) (k.dh a1 a2 (0,([]:List I.D),()) (0,([]:List UInt8),()) v1.1 v2.1))
def Jo(k:o6)(U:af.D)(aa:aJ.D)(ae:af.D)(ai:aV.D)(ar:aW.D)(aE:aW.D):Option (l_) :=cond (bu ar.2.1 ([]:List UInt8)) (some (U,(16,([]:List UInt8),()),())) (cond (bu aE.2.1 ([]:List UInt8)) (some (U,(16,([]:List UInt8),()),())) ((e7 (U,ar.1,())).bind fun v1 =>(e7 (U,aE.1,())).bind fun v2 =>(e7 (U,ar.2.2.1,())).bind fun v3 =>(jO (aa,v1.1,3,())).bind fun v4 =>cond (!v4.1) (some (U,(13,([]:List UInt8),()),())) ((jO (aa,v2.1,3,())).bind fun v5 =>cond (!v5.1) (some (U,(13,([]:List UInt8),()),())) ((wj (aa,v1.1,v3.1,())).bind fun v6 =>cond (!v6.1) (some (U,(1,([]:List UInt8),()),())) (cond (v3.1.2.1==2) ((yJ (U,aE.1,ar.2.2.1,())).bind fun bt =>cond bt.1 (some (U,(22,([]:List UInt8),()),())) (k.gx U aa ae ai ar aE v2.1 v3.1)) (k.gx U aa ae ai ar aE v2.1 v3.1))))))
def Jp(k:o6)(U:af.D)(aa:aJ.D)(ae:af.D)(ai:aV.D)(ar:aW.D)(aE:aW.D)(bn:I.D)(bT:I.D):Option (l_) :=(lu (U,())).bind fun v1 =>cond (decide (aE.2.2.1>0)) (cond (aE.2.2.1==ar.2.2.1) (some (U,(0,([]:List UInt8),()),())) ((e7 (U,aE.2.2.1,())).bind fun v2 =>(wj (aa,bn,v2.1,())).bind fun v3 =>cond (!v3.1) (some (U,(1,([]:List UInt8),()),())) (cond (bT.2.1==2) (cond (v2.1.2.1 != 2) (some (U,(20,([]:List UInt8),()),())) (k.o4 U ae ai ar aE bT v1.1 v2.1)) (k.o4 U ae ai ar aE bT v1.1 v2.1)))) (cond (ar.1 != aE.1) (cond (decide ((bn.2.2.2.2.2.2.1.length:Int)≥12)) (some (U,(28,([]:List UInt8),()),())) (k.ma U ae ai ar aE v1.1)) (k.ma U ae ai ar aE v1.1))
def Jq(k:o6)(U:af.D)(aa:af.D)(ae:aV.D)(ai:aW.D)(ar:aW.D)(aE:I.D)(bn:af.D)(bT:I.D):Option (l_) :=cond (aE.2.1==2) (cond (decide ((bT.2.2.2.2.2.2.1.length:Int)>0)) (some (U,(39,([]:List UInt8),()),())) (k.Jn U aa ae ai ar aE bn bT)) (k.Jn U aa ae ai ar aE bn bT)
def Jr(k:o6)(U:af.D)(aa:af.D)(ae:aV.D)(ai:aW.D)(ar:aW.D)(aE:af.D):Option (l_) :=(rE (aE,ar.1,ar.2.1,ai.2.2.1,())).bind fun v1 =>(n7 (v1.1,ai.1,ai.2.1,())).bind fun v2 =>(qb (U,v2.1,())).bind fun v3 =>some (v3.1,v3.2.1,())
def Js(k:o6)(U:af.D)(aa:af.D)(ae:aV.D)(ai:aW.D)(ar:aW.D)(aE:I.D)(bn:af.D)(bT:I.D):Option (l_) :=cond (aE.2.1 != 2) (cond (bT.2.1==2) (some (U,(21,([]:List UInt8),()),())) ((n7 (bn,ar.1,ar.2.1,())).bind fun v1 =>k.ma U aa ae ai ar v1.1)) ((n7 (bn,ar.1,ar.2.1,())).bind fun v2 =>k.ma U aa ae ai ar v2.1)
def Q7(k:o6):o6:=⟨Jo k,Jp k,Jq k,Jr k,Js k⟩
def gg:Nat→o6:=eF Q7 ⟨fun _ _ _ _ _ _=>none,fun _ _ _ _ _ _ _ _=>none,fun _ _ _ _ _ _ _ _=>none,fun _ _ _ _ _ _=>none,fun _ _ _ _ _ _ _ _=>none⟩
def CG(x:af.D×aJ.D×aG.D×Unit):Option (l_):=CF (gg aP) x.1 x.2.1 x.2.2.1
structure rG where
 k2:Int→(List UInt8)→(List Int)→Option ((List UInt8)×Unit)
 bs:Int→(List UInt8)→Int→(List Int)→Option ((List UInt8)×Unit)
def CH(k:rG)(a1:List UInt8)(a2:Int)(a3:List UInt8):Option ((List UInt8)×Unit) :=k.k2 a2 a3 (en a1)
def yK(k:rG)(U:Int)(aa:List UInt8)(ae:List Int):Option ((List UInt8)×Unit) :=cond (decide ((ae.length:Int)<aH (U +(aa.length:Int)))) (cond (room (ae.length+[0].length)) (k.k2 U aa (ae++[0])) (none)) (k.bs U aa 0 ae)
def Q8(k:rG)(U:Int)(aa:List UInt8)(ae:Int)(v3:List Int):Option ((List UInt8)×Unit) :=k.bs U aa (aH (ae+1)) v3
def yL(k:rG)(U:Int)(aa:List UInt8)(ae:Int)(ai:List Int):Option ((List UInt8)×Unit) :=cond (decide (ae<(aa.length:Int))) ((aN aa.length ae).bind fun v1 =>(aN ai.length (aH (U+ae))).bind fun v2 =>Q8 k U aa ae (ai.set (0+v2) ((aa.getD v1 0).toNat:Int))) (some (gl ai,()))
def Q9(k:rG):rG:=⟨yK k,yL k⟩
def m2:Nat→rG:=eF Q9 ⟨fun _ _ _=>none,fun _ _ _ _=>none⟩
def rH(x:(List UInt8)×Int×(List UInt8)×Unit):Option ((List UInt8)×Unit):=CH (m2 aP) x.1 x.2.1 x.2.2.1
abbrev tJ:Type:=af.D×aV.D×Unit
structure tK where
 m3:Int→af.D→aG.D→af.D→aV.D→I.D→Option (tJ)
 gV:af.D→af.D→aV.D→I.D→Option (tJ)
def CI(k:tK)(a1:af.D)(a2:aJ.D)(a3:aG.D):Option (tJ) :=(fK (a1,a2,a3.2.1,true,())).bind fun v1 =>cond (v1.1.2.2.2.1 != 0) (some (a1,(v1.1.2.2.2.1,([]:List UInt8),()),())) ((e7 (a1,v1.1.2.2.1,())).bind fun v2 =>cond (v2.1.2.1==2) (some (a1,(21,([]:List UInt8),()),())) ((jO (a2,v2.1,2,())).bind fun v3 =>cond (!v3.1) (some (a1,(13,([]:List UInt8),()),())) (cond (a3.1==6) (k.m3 (v2.1.2.2.2.2.2.1.length:Int) a1 a3 (0,([]:List I.D),()) (0,([]:List UInt8),()) v2.1) (k.m3 a3.2.2.2.1 a1 a3 (0,([]:List I.D),()) (0,([]:List UInt8),()) v2.1))))
def Jt(k:tK)(U:Int)(aa:af.D)(ae:aG.D)(ai:af.D)(ar:aV.D)(aE:I.D):Option (tJ) :=cond (decide (U<0)) (some (aa,(22,([]:List UInt8),()),())) (cond (ae.1==7) (cond (decide (U>64)) (some (aa,(27,([]:List UInt8),()),())) ((rH (aE.2.2.2.2.2.1,U,([]:List UInt8),())).bind fun v1 =>(dZ v1.1.length 0 U).bind fun v2 =>k.gV aa ai ar (aE.1,aE.2.1,aE.2.2.1,aE.2.2.2.1,aE.2.2.2.2.1,part v1.1 v2.1 (v2.2-v2.1),aE.2.2.2.2.2.2.1,aE.2.2.2.2.2.2.2.1,aE.2.2.2.2.2.2.2.2.1,()))) (cond (bu ae.2.2.2.2.2.1 ([]:List UInt8)) (some (aa,(0,([]:List UInt8),()),())) (cond (decide (U>aH (64-(ae.2.2.2.2.2.1.length:Int)))) (some (aa,(27,([]:List UInt8),()),())) ((rH (aE.2.2.2.2.2.1,U,ae.2.2.2.2.2.1,())).bind fun v3 =>k.gV aa ai ar (aE.1,aE.2.1,aE.2.2.1,aE.2.2.2.1,aE.2.2.2.2.1,v3.1,aE.2.2.2.2.2.2.1,aE.2.2.2.2.2.2.2.1,aE.2.2.2.2.2.2.2.2.1,())))))
def Ju(k:tK)(U:af.D)(aa:af.D)(ae:aV.D)(ai:I.D):Option (tJ) :=(lu (U,())).bind fun v1 =>(n4 (v1.1,ai,())).bind fun v2 =>(qb (U,v2.1,())).bind fun v3 =>some (v3.1,v3.2.1,())
def Q_(k:tK):tK:=⟨Jt k,Ju k⟩
def jS:Nat→tK:=eF Q_ ⟨fun _ _ _ _ _ _=>none,fun _ _ _ _=>none⟩
def wm(x:af.D×aJ.D×aG.D×Unit):Option (tJ):=CI (jS aP) x.1 x.2.1 x.2.2.1
abbrev n8:Type:=af.D×aV.D×Unit
structure qf where
 ee:Bool→af.D→aJ.D→aG.D→af.D→aV.D→Option (n8)
 m3:af.D→aJ.D→aG.D→af.D→aV.D→Option (n8)
 o7:af.D→aJ.D→aG.D→af.D→aV.D→I.D→Option (n8)
 fL:af.D→af.D→aV.D→I.D→Option (n8)
def rI(k:qf)(a1:af.D)(a2:aJ.D)(a3:aG.D):Option (n8) :=cond (a3.1==15) ((eg (a3.2.2.2.1,0,2047,())).bind fun v1 =>k.ee (!v1.1) a1 a2 a3 (0,([]:List I.D),()) (0,([]:List UInt8),())) (cond (a3.1==16) ((eg (a3.2.2.2.1,0,1000,())).bind fun v2 =>cond (!v2.1) (k.ee true a1 a2 a3 (0,([]:List I.D),()) (0,([]:List UInt8),())) ((eg (a3.2.2.2.2.1,0,1000,())).bind fun v3 =>k.ee (!v3.1) a1 a2 a3 (0,([]:List I.D),()) (0,([]:List UInt8),()))) ((eg (a3.2.2.2.1,0,400,())).bind fun v4 =>cond (!v4.1) (k.ee true a1 a2 a3 (0,([]:List I.D),()) (0,([]:List UInt8),())) ((eg (a3.2.2.2.2.1,0,24,())).bind fun v5 =>k.ee (!v5.1) a1 a2 a3 (0,([]:List I.D),()) (0,([]:List UInt8),()))))
def yM(k:qf)(U:Bool)(aa:af.D)(ae:aJ.D)(ai:aG.D)(ar:af.D)(aE:aV.D):Option (n8) :=cond U (some (aa,(22,([]:List UInt8),()),())) (cond (ai.1==19) (cond (ae.1 != 0) (some (aa,(1,([]:List UInt8),()),())) (k.m3 aa ae ai ar aE)) (k.m3 aa ae ai ar aE))
def yN(k:qf)(U:af.D)(aa:aJ.D)(ae:aG.D)(ai:af.D)(ar:aV.D):Option (n8) :=(fK (U,aa,ae.2.1,true,())).bind fun v1 =>cond (v1.1.2.2.2.1 != 0) (some (U,(v1.1.2.2.2.1,([]:List UInt8),()),())) ((e7 (U,v1.1.2.2.1,())).bind fun v2 =>cond (ae.1==15) (cond (aa.1 != 0) (cond (aa.1 != v2.1.2.2.2.1) (some (U,(1,([]:List UInt8),()),())) (k.o7 U aa ae ai ar v2.1)) (k.o7 U aa ae ai ar v2.1)) (cond (ae.1==16) (cond (aa.1 != 0) (cond (aa.1 != v2.1.2.2.2.1) (some (U,(1,([]:List UInt8),()),())) (cond (ae.2.2.2.1 != v2.1.2.2.2.1) (some (U,(1,([]:List UInt8),()),())) ((ts (aa,ae.2.2.2.2.1,())).bind fun v3 =>cond (!v3.1) (some (U,(1,([]:List UInt8),()),())) (k.fL U ai ar (v2.1.1,v2.1.2.1,v2.1.2.2.1,ae.2.2.2.1,ae.2.2.2.2.1,v2.1.2.2.2.2.2.1,v2.1.2.2.2.2.2.2.1,v2.1.2.2.2.2.2.2.2.1,v2.1.2.2.2.2.2.2.2.2.1,()))))) (k.fL U ai ar (v2.1.1,v2.1.2.1,v2.1.2.2.1,ae.2.2.2.1,ae.2.2.2.2.1,v2.1.2.2.2.2.2.1,v2.1.2.2.2.2.2.2.1,v2.1.2.2.2.2.2.2.2.1,v2.1.2.2.2.2.2.2.2.2.1,()))) (cond (v2.1.2.1 != 2) (some (U,(20,([]:List UInt8),()),())) (k.fL U ai ar (v2.1.1,v2.1.2.1,v2.1.2.2.1,v2.1.2.2.2.1,v2.1.2.2.2.2.1,v2.1.2.2.2.2.2.1,v2.1.2.2.2.2.2.2.1,ae.2.2.2.1,ae.2.2.2.2.1,())))))
def Jv(k:qf)(U:af.D)(aa:aJ.D)(ae:aG.D)(ai:af.D)(ar:aV.D)(aE:I.D):Option (n8) :=cond (aa.1 != 0) ((ts (aa,aE.2.2.2.2.1,())).bind fun v1 =>cond (!v1.1) (k.fL U ai ar (aE.1,aE.2.1,cN .andNot .i64 ae.2.2.2.1 1024,aE.2.2.2.1,aE.2.2.2.2.1,aE.2.2.2.2.2.1,aE.2.2.2.2.2.2.1,aE.2.2.2.2.2.2.2.1,aE.2.2.2.2.2.2.2.2.1,())) (k.fL U ai ar (aE.1,aE.2.1,ae.2.2.2.1,aE.2.2.2.1,aE.2.2.2.2.1,aE.2.2.2.2.2.1,aE.2.2.2.2.2.2.1,aE.2.2.2.2.2.2.2.1,aE.2.2.2.2.2.2.2.2.1,()))) (k.fL U ai ar (aE.1,aE.2.1,ae.2.2.2.1,aE.2.2.2.1,aE.2.2.2.2.1,aE.2.2.2.2.2.1,aE.2.2.2.2.2.2.1,aE.2.2.2.2.2.2.2.1,aE.2.2.2.2.2.2.2.2.1,()))
def Jw(k:qf)(U:af.D)(aa:af.D)(ae:aV.D)(ai:I.D):Option (n8) :=(lu (U,())).bind fun v1 =>(n4 (v1.1,ai,())).bind fun v2 =>(qb (U,v2.1,())).bind fun v3 =>some (v3.1,v3.2.1,())
def Ra(k:qf):qf:=⟨yM k,yN k,Jv k,Jw k⟩
def gW:Nat→qf:=eF Ra ⟨fun _ _ _ _ _ _=>none,fun _ _ _ _ _=>none,fun _ _ _ _ _ _=>none,fun _ _ _ _=>none⟩
def rJ(x:af.D×aJ.D×aG.D×Unit):Option (n8):=rI (gW aP) x.1 x.2.1 x.2.2.1
abbrev CJ:Type:=Int→(List UInt8)→Bool→Option ((List UInt8)×Unit)
def Rb(bs:CJ)(a1:Int):Option ((List UInt8)×Unit) :=cond (a1==0) (some (([48]:List UInt8),())) (bs a1 ([]:List UInt8) (decide (a1<0)))
def yO(bs:CJ)(U:Int)(aa:List UInt8)(ae:Bool):Option ((List UInt8)×Unit) :=cond (U != 0) (cond (decide (Int.tmod U 10<0)) (cond (room ((gl [IntKind.wrap .u8 (aH (48+aH (0-(Int.tmod U 10))))]).length+aa.length)) (bs (aH (Int.tdiv U 10)) ((gl [IntKind.wrap .u8 (aH (48+aH (0-(Int.tmod U 10))))])++aa) ae) (none)) (cond (room ((gl [IntKind.wrap .u8 (aH (48+Int.tmod U 10))]).length+aa.length)) (bs (aH (Int.tdiv U 10)) ((gl [IntKind.wrap .u8 (aH (48+Int.tmod U 10))])++aa) ae) (none))) (cond ae (cond (room (([45]:List UInt8).length+aa.length)) (some (([45]:List UInt8)++aa,())) (none)) (some (aa,())))
def o8:Nat→CJ | 0,_,_,_=>none | m+1,U,aa,ae=>yO (o8 m) U aa ae
def gX(x:Int×Unit):Option ((List UInt8)×Unit):=Rb (o8 aP) x.1
abbrev CK:Type:=Int→Int→Int→af.D→Option (Int×Unit)
def CL(ee:CK)(a1:af.D)(a2:Int):Option (Int×Unit) :=(kc (a1,a2,())).bind fun v1 =>cond (decide (v1.1<0)) (some (0,())) ((aN a1.2.1.length v1.1).bind fun v2 =>cond ((J I a1.2.1 v2).2.1 != 2) ((yF (a1,a2,())).bind fun v3 =>some (v3.1,())) (ee v1.1 2 0 a1))
def CM(ee:CK)(U:Int)(aa:Int)(ae:Int)(ai:af.D):Option (Int×Unit) :=(aN ai.2.1.length U).bind fun v1 =>cond (decide (ae<(((J I ai.2.1 v1).2.2.2.2.2.2.1).length:Int))) ((aN ai.2.1.length U).bind fun v2 =>(aN (((J I ai.2.1 v2).2.2.2.2.2.2.1).length) ae).bind fun v3 =>(wk (ai,(J aw ((J I ai.2.1 v2).2.2.2.2.2.2.1) v3).2.1,())).bind fun v4 =>cond v4.1 (ee U (aH (aa+1)) (aH (ae+1)) ai) (ee U aa (aH (ae+1)) ai)) (some (aa,()))
def tL:Nat→CK | 0,_,_,_,_=>none | m+1,U,aa,ae,ai=>CM (tL m) U aa ae ai
def CN(x:af.D×Int×Unit):Option (Int×Unit):=CL (tL aP) x.1 x.2.1
structure m4 where
 bs:af.D→aJ.D→aG.D→aV.D→Option (aV.D×Unit)
 c_:af.D→aJ.D→aG.D→aV.D→aW.D→Option (aV.D×Unit)
 n9:Int→aG.D→aV.D→I.D→(List Int)→Option (aV.D×Unit)
 rK:(List UInt8)→Int→aV.D→I.D→Option (aV.D×Unit)
 CO:(List UInt8)→Int→aV.D→I.D→Option (aV.D×Unit)
def qg(k:m4)(a1:af.D)(a2:aJ.D)(a3:aG.D):Option (aV.D×Unit) :=cond (a3.1==18) ((gX ((a1.2.1.length:Int),())).bind fun v1 =>cond (room (v1.1.length +([32]:List UInt8).length)) ((yv (a1,())).bind fun v2 =>(gX (v2.1,())).bind fun v3 =>cond (room ((v1.1++([32]:List UInt8)).length+v3.1.length)) (some ((0,(v1.1++([32]:List UInt8))++v3.1,()),())) (none)) (none)) (cond (a3.1==14) (cond (a3.2.2.2.1 != 0) (cond (a3.2.2.2.1 != 1) (some ((22,([]:List UInt8),()),())) (cond (a3.1==17) ((eg (a3.2.2.2.1,0,7,())).bind fun v4 =>cond (!v4.1) (some ((22,([]:List UInt8),()),())) (k.bs a1 a2 a3 (0,([]:List UInt8),()))) (k.bs a1 a2 a3 (0,([]:List UInt8),())))) (cond (a3.1==17) ((eg (a3.2.2.2.1,0,7,())).bind fun v5 =>cond (!v5.1) (some ((22,([]:List UInt8),()),())) (k.bs a1 a2 a3 (0,([]:List UInt8),()))) (k.bs a1 a2 a3 (0,([]:List UInt8),())))) (cond (a3.1==17) ((eg (a3.2.2.2.1,0,7,())).bind fun v6 =>cond (!v6.1) (some ((22,([]:List UInt8),()),())) (k.bs a1 a2 a3 (0,([]:List UInt8),()))) (k.bs a1 a2 a3 (0,([]:List UInt8),()))))
def Jx(k:m4)(U:af.D)(aa:aJ.D)(ae:aG.D)(ai:aV.D):Option (aV.D×Unit) :=cond (ae.1 != 11) (cond (ae.1 != 14) ((fK (U,aa,ae.2.1,true,())).bind fun v1 =>k.c_ U aa ae ai v1.1) ((fK (U,aa,ae.2.1,ae.2.2.2.1==0,())).bind fun v2 =>k.c_ U aa ae ai v2.1)) ((fK (U,aa,ae.2.1,false,())).bind fun v3 =>k.c_ U aa ae ai v3.1)
def rL(k:m4)(U:af.D)(aa:aJ.D)(ae:aG.D)(ai:aV.D)(ar:aW.D):Option (aV.D×Unit) :=cond (ar.2.2.2.1 != 0) (some ((ar.2.2.2.1,([]:List UInt8),()),())) ((e7 (U,ar.2.2.1,())).bind fun v1 =>cond (ae.1==4) (cond (v1.1.2.1==2) (some ((21,([]:List UInt8),()),())) ((jO (aa,v1.1,4,())).bind fun v2 =>cond (!v2.1) (some ((13,([]:List UInt8),()),())) (cond (decide (ae.2.2.2.1<0)) (some ((22,([]:List UInt8),()),())) (cond (decide (ae.2.2.2.2.1<0)) (some ((22,([]:List UInt8),()),())) (k.n9 ae.2.2.2.1 ae ai v1.1 ([]:List Int)))))) (cond (ae.1==11) (cond (v1.1.2.1 != 3) (some ((22,([]:List UInt8),()),())) (some ((0,v1.1.2.2.2.2.2.1,()),()))) (cond (ae.1==13) (cond (!(v1.1.2.1==2)) (some ((20,([]:List UInt8),()),())) ((jO (aa,v1.1,4,())).bind fun v3 =>cond (!v3.1) (some ((13,([]:List UInt8),()),())) (k.rK ([]:List UInt8) 0 ai v1.1))) (cond (ae.1==14) ((gX (v1.1.2.1,())).bind fun v4 =>cond (room (v4.1.length +([32]:List UInt8).length)) ((gX (v1.1.2.2.1,())).bind fun v5 =>cond (room ((v4.1++([32]:List UInt8)).length+v5.1.length)) (cond (room (((v4.1++([32]:List UInt8))++v5.1).length +([32]:List UInt8).length)) ((gX (v1.1.2.2.2.1,())).bind fun v6 =>cond (room ((((v4.1++([32]:List UInt8))++v5.1)++([32]:List UInt8)).length+v6.1.length)) (cond (room (((((v4.1++([32]:List UInt8))++v5.1)++([32]:List UInt8))++v6.1).length +([32]:List UInt8).length)) ((gX (v1.1.2.2.2.2.1,())).bind fun bt =>cond (room ((((((v4.1++([32]:List UInt8))++v5.1)++([32]:List UInt8))++v6.1)++([32]:List UInt8)).length+bt.1.length)) (cond (room (((((((v4.1++([32]:List UInt8))++v5.1)++([32]:List UInt8))++v6.1)++([32]:List UInt8))++bt.1).length +([32]:List UInt8).length)) ((CN (U,v1.1.1,())).bind fun dw =>(gX (dw.1,())).bind fun v9 =>cond (room ((((((((v4.1++([32]:List UInt8))++v5.1)++([32]:List UInt8))++v6.1)++([32]:List UInt8))++bt.1)++([32]:List UInt8)).length+v9.1.length)) (cond (room (((((((((v4.1++([32]:List UInt8))++v5.1)++([32]:List UInt8))++v6.1)++([32]:List UInt8))++bt.1)++([32]:List UInt8))++v9.1).length +([32]:List UInt8).length)) ((gX ((v1.1.2.2.2.2.2.1.length:Int),())).bind fun v10 =>cond (room ((((((((((v4.1++([32]:List UInt8))++v5.1)++([32]:List UInt8))++v6.1)++([32]:List UInt8))++bt.1)++([32]:List UInt8))++v9.1)++([32]:List UInt8)).length+v10.1.length)) (some ((0,(((((((((v4.1++([32]:List UInt8))++v5.1)++([32]:List UInt8))++v6.1)++([32]:List UInt8))++bt.1)++([32]:List UInt8))++v9.1)++([32]:List UInt8))++v10.1,()),())) (none)) (none)) (none)) (none)) (none)) (none)) (none)) (none)) (none)) (none)) (cond (ae.1==17) ((jO (aa,v1.1,ae.2.2.2.1,())).bind fun v11 =>cond (!v11.1) (some ((13,([]:List UInt8),()),())) (some ((0,([]:List UInt8),()),()))) (cond (!(v1.1.2.1==2)) (some ((20,([]:List UInt8),()),())) ((jO (aa,v1.1,4,())).bind fun v12 =>cond (!v12.1) (some ((13,([]:List UInt8),()),())) ((yy (U,v1.1.1,())).bind fun jx =>(gX (v1.1.2.2.2.2.2.2.2.1,())).bind fun mb =>cond (room (mb.1.length +([32]:List UInt8).length)) ((gX (v1.1.2.2.2.2.2.2.2.2.1,())).bind fun gY =>cond (room ((mb.1++([32]:List UInt8)).length+gY.1.length)) (cond (room (((mb.1++([32]:List UInt8))++gY.1).length +([32]:List UInt8).length)) ((gX (jx.1,())).bind fun n_ =>cond (room ((((mb.1++([32]:List UInt8))++gY.1)++([32]:List UInt8)).length+n_.1.length)) (cond (room (((((mb.1++([32]:List UInt8))++gY.1)++([32]:List UInt8))++n_.1).length +([32]:List UInt8).length)) ((gX (jx.2.1,())).bind fun m5 =>cond (room ((((((mb.1++([32]:List UInt8))++gY.1)++([32]:List UInt8))++n_.1)++([32]:List UInt8)).length+m5.1.length)) (some ((0,(((((mb.1++([32]:List UInt8))++gY.1)++([32]:List UInt8))++n_.1)++([32]:List UInt8))++m5.1,()),())) (none)) (none)) (none)) (none)) (none)) (none)))))))))
def aay(k:m4)(U:Int)(aa:aG.D)(ae:aV.D)(ai:I.D)(v2:List Int):Option (aV.D×Unit) :=k.n9 (aH (U+1)) aa ae ai v2
def CP(k:m4)(U:Int)(aa:aG.D)(ae:aV.D)(ai:I.D)(ar:List Int):Option (aV.D×Unit) :=cond (decide (U<(ai.2.2.2.2.2.1.length:Int))) (cond (decide (U<aH (aa.2.2.2.1+aa.2.2.2.2.1))) ((aN ai.2.2.2.2.2.1.length U).bind fun v1 =>cond (room (ar.length+[((ai.2.2.2.2.2.1.getD v1 0).toNat:Int)].length)) (aay k U aa ae ai (ar++[((ai.2.2.2.2.2.1.getD v1 0).toNat:Int)])) (none)) (some ((0,gl ar,()),()))) (some ((0,gl ar,()),()))
def CQ(k:m4)(U:List UInt8)(aa:Int)(ae:aV.D)(ai:I.D):Option (aV.D×Unit) :=cond (decide (aa<(ai.2.2.2.2.2.2.1.length:Int))) (cond (decide (aa>0)) (cond (room (U.length +([47]:List UInt8).length)) (k.CO (U++([47]:List UInt8)) aa ae ai) (none)) (k.CO U aa ae ai)) (some ((0,U,()),()))
def Jy(k:m4)(U:List UInt8)(aa:Int)(ae:aV.D)(ai:I.D):Option (aV.D×Unit) :=(aN ai.2.2.2.2.2.2.1.length aa).bind fun v1 =>cond (room (U.length +((J aw ai.2.2.2.2.2.2.1 v1).1).length)) (k.rK (U++((J aw ai.2.2.2.2.2.2.1 v1).1)) (aH (aa+1)) ae ai) (none)
def Rc(k:m4):m4:=⟨Jx k,rL k,CP k,CQ k,Jy k⟩
def fk:Nat→m4:=eF Rc ⟨fun _ _ _ _=>none,fun _ _ _ _ _=>none,fun _ _ _ _ _=>none,fun _ _ _ _=>none,fun _ _ _ _=>none⟩
def lx(x:af.D×aJ.D×aG.D×Unit):Option (aV.D×Unit):=qg (fk aP) x.1 x.2.1 x.2.2.1
abbrev qh:Type:=af.D×aV.D×Unit
structure rM where
 ee:Int→af.D→aJ.D→aG.D→af.D→aV.D→Option (qh)
 cZ:Int→af.D→aJ.D→aG.D→af.D→aV.D→Option (qh)
 n':Int→af.D→aJ.D→aG.D→af.D→aV.D→Option (qh)
def rN(k:rM)(a1:af.D)(a2:aJ.D)(a3:aG.D):Option (qh) :=(I7 (a3,())).bind fun v1 =>cond (!v1.1) (some (a1,(22,([]:List UInt8),()),())) (cond (decide (a3.1>20)) (some (a1,(22,([]:List UInt8),()),())) (cond (a3.1==1) (cond (a3.1==1) ((tF (a1,a2,a3,())).bind fun v2 =>some (v2.1,v2.2.1,())) (k.ee a3.1 a1 a2 a3 (0,([]:List I.D),()) (0,([]:List UInt8),()))) (cond (a3.1==3) (cond (a3.1==3) ((tF (a1,a2,a3,())).bind fun v3 =>some (v3.1,v3.2.1,())) (k.ee a3.1 a1 a2 a3 (0,([]:List I.D),()) (0,([]:List UInt8),()))) (cond (a3.1==10) ((tF (a1,a2,a3,())).bind fun v4 =>some (v4.1,v4.2.1,())) (k.ee a3.1 a1 a2 a3 (0,([]:List I.D),()) (0,([]:List UInt8),()))))))
def aaz(k:rM)(U:Int)(aa:af.D)(ae:aJ.D)(ai:aG.D)(ar:af.D)(aE:aV.D):Option (qh) :=cond (U==2) (cond (U==2) ((yI (aa,ae,ai,())).bind fun v1 =>some (v1.1,v1.2.1,())) (k.cZ U aa ae ai ar aE)) (cond (U==8) ((yI (aa,ae,ai,())).bind fun v2 =>some (v2.1,v2.2.1,())) (k.cZ U aa ae ai ar aE))
def aaA(k:rM)(U:Int)(aa:af.D)(ae:aJ.D)(ai:aG.D)(ar:af.D)(aE:aV.D):Option (qh) :=cond (U==9) ((CB (aa,ae,ai,())).bind fun v1 =>some (v1.1,v1.2.1,())) (cond (U==12) ((CG (aa,ae,ai,())).bind fun v2 =>some (v2.1,v2.2.1,())) (cond (U==5) (cond (U==5) ((wm (aa,ae,ai,())).bind fun v3 =>some (v3.1,v3.2.1,())) (k.n' U aa ae ai ar aE)) (cond (U==6) (cond (U==6) ((wm (aa,ae,ai,())).bind fun v4 =>some (v4.1,v4.2.1,())) (k.n' U aa ae ai ar aE)) (cond (U==7) ((wm (aa,ae,ai,())).bind fun v5 =>some (v5.1,v5.2.1,())) (k.n' U aa ae ai ar aE)))))
def aaB(k:rM)(U:Int)(aa:af.D)(ae:aJ.D)(ai:aG.D)(ar:af.D)(aE:aV.D):Option (qh) :=cond (U==15) (cond (U==15) ((rJ (aa,ae,ai,())).bind fun v1 =>some (v1.1,v1.2.1,())) ((lx (aa,ae,ai,())).bind fun v2 =>some (aa,v2.1,()))) (cond (U==16) (cond (U==16) ((rJ (aa,ae,ai,())).bind fun v3 =>some (v3.1,v3.2.1,())) ((lx (aa,ae,ai,())).bind fun v4 =>some (aa,v4.1,()))) (cond (U==19) ((rJ (aa,ae,ai,())).bind fun v5 =>some (v5.1,v5.2.1,())) ((lx (aa,ae,ai,())).bind fun v6 =>some (aa,v6.1,()))))
def Rd(k:rM):rM:=⟨aaz k,aaA k,aaB k⟩
def yP:Nat→rM:=eF Rd ⟨fun _ _ _ _ _ _=>none,fun _ _ _ _ _ _=>none,fun _ _ _ _ _ _=>none⟩
def m6(x:af.D×aJ.D×aG.D×Unit):Option (qh):=rN (yP aP) x.1 x.2.1 x.2.2.1
abbrev Re:Type:=Int×bm.D×Unit
def Jz(a1:bm.D)(a2:List Int):Option (Re) :=(fY (a1,(a2.length:Int),())).bind fun v1 =>(aN a2.length v1.1).bind fun v2 =>some (J (ad.int .i64) a2 (0+v2),v1.2.1,())
def iG(x:bm.D×(List Int)×Unit):Option (Re):=Jz x.1 x.2.1
abbrev Rf:Type:=aJ.D×bm.D×Unit
def JA(a1:bm.D):Option (Rf) :=(fY (a1,4,())).bind fun v1 =>cond (v1.1==0) (cond (v1.1==0) (some ((0,0,([]:List Int),()),v1.2.1,())) (cond (v1.1==2) (some ((2,2,[5],()),v1.2.1,())) (some ((3,2,([]:List Int),()),v1.2.1,())))) (cond (v1.1==1) (some ((0,0,([]:List Int),()),v1.2.1,())) (cond (v1.1==2) (some ((2,2,[5],()),v1.2.1,())) (some ((3,2,([]:List Int),()),v1.2.1,()))))
def yQ(x:bm.D×Unit):Option (Rf):=JA x.1
abbrev tM:Type:=(List UInt8)×bm.D×Unit
structure tN where
 bf:Int→Int→bm.D→(List Int)→Option (tM)
 cZ:Int→Int→Int→bm.D→(List Int)→Option (tM)
def CR(k:tN)(a1:bm.D)(a2:Int):Option (tM) :=(fY (a1,4,())).bind fun v1 =>(fY (v1.2.1,aH (a2+1),())).bind fun v2 =>k.bf v1.1 v2.1 v2.2.1 ([]:List Int)
def yR(k:tN)(U:Int)(aa:Int)(ae:bm.D)(ai:List Int):Option (tM) :=cond (decide (aa>0)) ((p9 (ae,())).bind fun v1 =>cond (U==1) (cond (U==2) (k.cZ U aa (aH (97+Int.tmod (Int.tmod v1.1 2) 4)) v1.2.1 ai) (k.cZ U aa (Int.tmod v1.1 2) v1.2.1 ai)) (cond (U==2) (k.cZ U aa (aH (97+Int.tmod v1.1 4)) v1.2.1 ai) (k.cZ U aa v1.1 v1.2.1 ai))) (some (gl ai,ae,()))
def JB(k:tN)(U:Int)(aa:Int)(ae:Int)(ai:bm.D)(ar:List Int):Option (tM) :=cond (room (ar.length+[IntKind.wrap .u8 (ae)].length)) (k.bf U (aH (aa-1)) ai (ar++[IntKind.wrap .u8 (ae)])) (none)
def Rg(k:tN):tN:=⟨yR k,JB k⟩
def rO:Nat→tN:=eF Rg ⟨fun _ _ _ _=>none,fun _ _ _ _ _=>none⟩
def yS(x:bm.D×Int×Unit):Option (tM):=CR (rO aP) x.1 x.2.1
abbrev Rh:Type:=(List UInt8)×bm.D×Unit
def JC(a1:bm.D)(a2:List (List UInt8)):Option (Rh) :=(fY (a1,(a2.length:Int),())).bind fun v1 =>(aN a2.length v1.1).bind fun v2 =>some (J ad.str a2 (0+v2),v1.2.1,())
def qi(x:bm.D×(List (List UInt8))×Unit):Option (Rh):=JC x.1 x.2.1
abbrev Ri:Type:=(List UInt8)×bm.D×Unit
def JD(a1:bm.D):Option (Ri) :=(qi (a1,[([97]:List UInt8),([98]:List UInt8),([99]:List UInt8),([100,49]:List UInt8),([115,117,98]:List UInt8)],())).bind fun v1 =>some (v1.1,v1.2.1,())
def wo(x:bm.D×Unit):Option (Ri):=JD x.1
abbrev qj:Type:=(List UInt8)×bm.D×Unit
structure rP where
 k3:(List UInt8)→Int→bm.D→Option (qj)
 l9:(List UInt8)→bm.D→Option (qj)
 mc:(List UInt8)→bm.D→Option (qj)
def CS(k:rP)(a1:bm.D):Option (qj) :=(fY (a1,5,())).bind fun v1 =>k.k3 ([]:List UInt8) v1.1 v1.2.1
def yT(k:rP)(U:List UInt8)(aa:Int)(ae:bm.D):Option (qj) :=cond (decide (aa>0)) (cond (room (U.length +([47]:List UInt8).length)) ((wo (ae,())).bind fun v1 =>cond (room ((U++([47]:List UInt8)).length+v1.1.length)) ((fY (v1.2.1,14,())).bind fun v2 =>cond (v2.1==0) (cond (room (((U++([47]:List UInt8))++v1.1).length +([47,46]:List UInt8).length)) (k.k3 (((U++([47]:List UInt8))++v1.1)++([47,46]:List UInt8)) (aH (aa-1)) v2.2.1) (none)) (cond (v2.1==1) (cond (room (((U++([47]:List UInt8))++v1.1).length +([47,46,46]:List UInt8).length)) (k.k3 (((U++([47]:List UInt8))++v1.1)++([47,46,46]:List UInt8)) (aH (aa-1)) v2.2.1) (none)) (cond (v2.1==2) (cond (room (((U++([47]:List UInt8))++v1.1).length +([47]:List UInt8).length)) (k.k3 (((U++([47]:List UInt8))++v1.1)++([47]:List UInt8)) (aH (aa-1)) v2.2.1) (none)) (cond (v2.1==3) ((qi (v2.2.1,[([108,111,110,103,110,97,109,101,57]:List UInt8),([65,66,67]:List UInt8),([120,32,121]:List UInt8),([46,104,105,100]:List UInt8),([46,46,46]:List UInt8)],())).bind fun v3 =>cond (room (((U++([47]:List UInt8))++v1.1).length+v3.1.length)) (k.k3 (((U++([47]:List UInt8))++v1.1)++v3.1) (aH (aa-1)) v3.2.1) (none)) (k.k3 ((U++([47]:List UInt8))++v1.1) (aH (aa-1)) v2.2.1))))) (none)) (none)) (cond (bu U ([]:List UInt8)) (k.l9 U ae) ((rB (ae,20,())).bind fun v4 =>cond v4.1 (k.l9 U v4.2.1) (k.mc U v4.2.1)))
def JE(k:rP)(U:List UInt8)(aa:bm.D):Option (qj) :=cond (room (U.length +([47]:List UInt8).length)) (k.mc (U++([47]:List UInt8)) aa) (none)
def JF(k:rP)(U:List UInt8)(aa:bm.D):Option (qj) :=(rB (aa,30,())).bind fun v1 =>cond v1.1 ((qi (v1.2.1,[([]:List UInt8),([97]:List UInt8),([47,97,47,98,47,99,47,100,47,97,47,98,47,99,47,100,47,97,47,98,47,99,47,100,47,97,47,98,47,99,47,100,47,97,47,98,47,99,47,100,47,97,47,98,47,99,47,100,47,97,47,98,47,99,47,100,47,97,47,98]:List UInt8),([47,97,47,98,47,99,47,100,47,97,47,98,47,99,47,100,47,97,47,98,47,99,47,100,47,97,47,98,47,99,47,100,47,97,47,98,47,99,47,100,47,97,47,98,47,99,47,100,47,97,47,98,47,99,47,100,47,97,47]:List UInt8)],())).bind fun v2 =>some (v2.1,v2.2.1,())) (some (U,v1.2.1,()))
def Rj(k:rP):rP:=⟨yT k,JE k,JF k⟩
def oa:Nat→rP:=eF Rj ⟨fun _ _ _=>none,fun _ _=>none,fun _ _=>none⟩
def CT(x:bm.D×Unit):Option (qj):=CS (oa aP) x.1
abbrev yU:Type:=(List UInt8)×bm.D×Unit
abbrev CU:Type:=(List UInt8)→Int→Int→bm.D→af.D→Option (yU)
def CV(c_:CU)(a1:bm.D)(a2:af.D):Option (yU) :=(rB (a1,4,())).bind fun v1 =>cond v1.1 ((CT (v1.2.1,())).bind fun v2 =>some (v2.1,v2.2.1,())) ((fY (v1.2.1,4,())).bind fun v3 =>c_ ([]:List UInt8) 1 v3.1 v3.2.1 a2)
def wq(c_:CU)(U:List UInt8)(aa:Int)(ae:Int)(ai:bm.D)(ar:af.D):Option (yU) :=cond (decide (ae≥0)) ((kc (ar,aa,())).bind fun v1 =>cond (decide (v1.1<0)) (cond (room (U.length +([47]:List UInt8).length)) ((wo (ai,())).bind fun v2 =>cond (room ((U++([47]:List UInt8)).length+v2.1.length)) (some ((U++([47]:List UInt8))++v2.1,v2.2.1,())) (none)) (none)) ((aN ar.2.1.length v1.1).bind fun v3 =>cond ((((J I ar.2.1 v3).2.2.2.2.2.2.1).length:Int)==0) (cond (room (U.length +([47]:List UInt8).length)) ((wo (ai,())).bind fun v4 =>cond (room ((U++([47]:List UInt8)).length+v4.1.length)) (some ((U++([47]:List UInt8))++v4.1,v4.2.1,())) (none)) (none)) ((aN ar.2.1.length v1.1).bind fun v5 =>(aN ar.2.1.length v1.1).bind fun v6 =>dup ((fY (ai,(((J I ar.2.1 v6).2.2.2.2.2.2.1).length:Int),())).bind fun bt =>(aN (((J I ar.2.1 v5).2.2.2.2.2.2.1).length) bt.1).bind fun dw =>cond (room (U.length +([47]:List UInt8).length)) (cond (room ((U++([47]:List UInt8)).length +((J aw ((J I ar.2.1 v5).2.2.2.2.2.2.1) dw).1).length)) (c_ ((U++([47]:List UInt8))++((J aw ((J I ar.2.1 v5).2.2.2.2.2.2.1) dw).1)) ((J aw ((J I ar.2.1 v5).2.2.2.2.2.2.1) dw).2.1) (aH (ae-1)) bt.2.1 ar) (none)) (none))))) (some (U,ai,()))
def tO:Nat→CU | 0,_,_,_,_,_=>none | m+1,U,aa,ae,ai,ar=>wq (tO m) U aa ae ai ar
def wu(x:bm.D×af.D×Unit):Option (yU):=CV (tO aP) x.1 x.2.1
abbrev kD:Type:=aG.D×bm.D×Unit
structure ob where
 k2:bm.D→af.D→aG.D→aG.D→Option (kD)
 c_:bm.D→aG.D→aG.D→Option (kD)
 dh:Int→bm.D→af.D→aG.D→aG.D→Option (kD)
 fL:bm.D→aG.D→aG.D→Option (kD)
 n':bm.D→af.D→aG.D→aG.D→Option (kD)
 n9:Int→bm.D→aG.D→aG.D→Option (kD)
def CW(k:ob)(a1:bm.D)(a2:af.D):Option (kD) :=both (both ((iG (a1,[1,1,1,2,3,3,3,4,5,5,6,7,8,9,10,10,11,12,12,12,13,14,15,16,17,18,19,20],())).bind fun v1 =>dup ((wu (v1.2.1,a2,())).bind fun v2 =>k.k2 v2.2.1 a2 (0,([]:List UInt8),([]:List UInt8),0,0,([]:List UInt8),()) (v1.1,v2.1,([]:List UInt8),0,0,([]:List UInt8),()))) ((iG (a1,[1,1,1,2,3,3,3,4,5,5,6,7,8,9,10,10,11,12,12,12,13,14,15,16,17,18,19,20],())).bind fun v1 =>(wu (v1.2.1,a2,())).bind fun v2 =>k.k2 v2.2.1 a2 (0,([]:List UInt8),([]:List UInt8),0,0,([]:List UInt8),()) (v1.1,v2.1,([]:List UInt8),0,0,([]:List UInt8),()))) ((iG (a1,[1,1,1,2,3,3,3,4,5,5,6,7,8,9,10,10,11,12,12,12,13,14,15,16,17,18,19,20],())).bind fun v1 =>(wu (v1.2.1,a2,())).bind fun v2 =>k.k2 v2.2.1 a2 (0,([]:List UInt8),([]:List UInt8),0,0,([]:List UInt8),()) (v1.1,v2.1,([]:List UInt8),0,0,([]:List UInt8),()))
def JG(k:ob)(U:bm.D)(aa:af.D)(ae:aG.D)(ai:aG.D):Option (kD) :=cond (ai.1==1) (cond (ai.1==1) (k.c_ U ae ai) (k.dh ai.1 U aa ae ai)) (cond (ai.1==3) (cond (ai.1==3) (k.c_ U ae ai) (k.dh ai.1 U aa ae ai)) (cond (ai.1==15) (k.c_ U ae ai) (k.dh ai.1 U aa ae ai)))
def JH(k:ob)(U:bm.D)(aa:aG.D)(ae:aG.D):Option (kD) :=(iG (U,[511,511,493,448,420,1535,1023,0,320],())).bind fun v1 =>k.fL v1.2.1 aa (ae.1,ae.2.1,ae.2.2.1,v1.1,ae.2.2.2.2.1,ae.2.2.2.2.2.1,())
def JI(k:ob)(U:Int)(aa:bm.D)(ae:af.D)(ai:aG.D)(ar:aG.D):Option (kD) :=cond (U==4) ((fY (aa,8,())).bind fun v1 =>(fY (v1.2.1,20,())).bind fun v2 =>k.fL v2.2.1 ai (ar.1,ar.2.1,ar.2.2.1,v1.1,v2.1,ar.2.2.2.2.2.1,())) (cond (U==5) ((fY (aa,20,())).bind fun v3 =>(yS (v3.2.1,30,())).bind fun v4 =>k.fL v4.2.1 ai (ar.1,ar.2.1,ar.2.2.1,v3.1,ar.2.2.2.2.1,v4.1,())) (cond (U==6) ((yS (aa,30,())).bind fun v5 =>k.fL v5.2.1 ai (ar.1,ar.2.1,ar.2.2.1,ar.2.2.2.1,ar.2.2.2.2.1,v5.1,())) (cond (U==7) ((fY (aa,70,())).bind fun v6 =>k.fL v6.2.1 ai (ar.1,ar.2.1,ar.2.2.1,v6.1,ar.2.2.2.2.1,ar.2.2.2.2.2.1,())) (cond (U==9) (cond (U==9) (k.n' aa ae ai ar) (k.n9 U aa ai ar)) (cond (U==12) (k.n' aa ae ai ar) (k.n9 U aa ai ar))))))
def JJ(k:ob)(U:bm.D)(aa:aG.D)(ae:aG.D):Option (kD) :=(rB (U,25,())).bind fun v1 =>cond v1.1 ((fY (v1.2.1,6,())).bind fun v2 =>cond (v2.1==0) ((iG (v2.2.1,[(-1),0,21,22,23],())).bind fun v3 =>some ((v3.1,ae.2.1,ae.2.2.1,ae.2.2.2.1,ae.2.2.2.2.1,ae.2.2.2.2.2.1,()),v3.2.1,())) (cond (v2.1==1) ((iG (v2.2.1,[(-1),2048,65,401,1000000,1000001],())).bind fun v4 =>some ((ae.1,ae.2.1,ae.2.2.1,v4.1,ae.2.2.2.2.1,ae.2.2.2.2.2.1,()),v4.2.1,())) (cond (v2.1==2) ((iG (v2.2.1,[(-1),25,1001,1000001],())).bind fun v5 =>some ((ae.1,ae.2.1,ae.2.2.1,ae.2.2.2.1,v5.1,ae.2.2.2.2.2.1,()),v5.2.1,())) (cond (v2.1==3) (cond (room (ae.2.2.2.2.2.1.length +([121]:List UInt8).length)) (some ((ae.1,ae.2.1,ae.2.2.1,ae.2.2.2.1,ae.2.2.2.2.1,ae.2.2.2.2.2.1++([121]:List UInt8),()),v2.2.1,())) (none)) (cond (v2.1==4) ((qi (v2.2.1,[([]:List UInt8),([47,122]:List UInt8),([98,97,100,32,112,97,116,104]:List UInt8),([47,47]:List UInt8)],())).bind fun v6 =>some ((ae.1,ae.2.1,v6.1,ae.2.2.2.1,ae.2.2.2.2.1,ae.2.2.2.2.2.1,()),v6.2.1,())) ((CT (v2.2.1,())).bind fun bt =>some ((ae.1,bt.1,ae.2.2.1,ae.2.2.2.1,ae.2.2.2.2.1,ae.2.2.2.2.2.1,()),bt.2.1,()))))))) (some (ae,v1.2.1,()))
def JK(k:ob)(U:bm.D)(aa:af.D)(ae:aG.D)(ai:aG.D):Option (kD) :=(wu (U,aa,())).bind fun v1 =>k.fL v1.2.1 ae (ai.1,ai.2.1,v1.1,ai.2.2.2.1,ai.2.2.2.2.1,ai.2.2.2.2.2.1,())
def JL(k:ob)(U:Int)(aa:bm.D)(ae:aG.D)(ai:aG.D):Option (kD) :=cond (U==10) ((qi (aa,[([47,97]:List UInt8),([98]:List UInt8),([46,46,47,99]:List UInt8),([47,115,117,98,47,97]:List UInt8),([46]:List UInt8),([47]:List UInt8),([100,49,47,98]:List UInt8),([47,99]:List UInt8)],())).bind fun v1 =>k.fL v1.2.1 ae (ai.1,ai.2.1,v1.1,ai.2.2.2.1,ai.2.2.2.2.1,ai.2.2.2.2.2.1,())) (cond (U==14) ((fY (aa,2,())).bind fun v2 =>k.fL v2.2.1 ae (ai.1,ai.2.1,ai.2.2.1,v2.1,ai.2.2.2.2.1,ai.2.2.2.2.2.1,())) (cond (U==16) ((iG (aa,[0,2,3],())).bind fun v3 =>(iG (v3.2.1,[0,2,5],())).bind fun v4 =>k.fL v4.2.1 ae (ai.1,ai.2.1,ai.2.2.1,v3.1,v4.1,ai.2.2.2.2.2.1,())) (cond (U==17) ((fY (aa,8,())).bind fun v5 =>k.fL v5.2.1 ae (ai.1,ai.2.1,ai.2.2.1,v5.1,ai.2.2.2.2.1,ai.2.2.2.2.2.1,())) (cond (U==19) ((iG (aa,[0,0,20,60,200],())).bind fun v6 =>(iG (v6.2.1,[0,0,2,5,10],())).bind fun bt =>k.fL bt.2.1 ae (ai.1,ai.2.1,ai.2.2.1,v6.1,bt.1,ai.2.2.2.2.2.1,())) (k.fL aa ae ai)))))
def Rk(k:ob):ob:=⟨JG k,JH k,JI k,JJ k,JK k,JL k⟩
def kE:Nat→ob:=eF Rk ⟨fun _ _ _ _=>none,fun _ _ _=>none,fun _ _ _ _ _=>none,fun _ _ _=>none,fun _ _ _ _=>none,fun _ _ _ _=>none⟩
def CX(x:bm.D×af.D×Unit):Option (kD):=CW (kE aP) x.1 x.2.1
abbrev Rl:Type:=aG.D×bm.D×Unit
def JM(a1:bm.D):Option (Rl) :=(I3 ()).bind fun v1 =>(CX (a1,v1.1,())).bind fun v2 =>some (v2.1,v2.2.1,())
def CY(x:bm.D×Unit):Option (Rl):=JM x.1
abbrev wv:Type:=af.D×bm.D×Unit
abbrev yV:Type:=Int→bm.D→af.D→af.D→Option (wv)
def Rm(bs:yV)(v2:Int×bm.D×Unit)(a2:Int)(v1:af.D×Unit)(v4:List I.D):Option (wv) :=(fY (v2.2.1,a2,())).bind fun v5 =>cond (decide (v5.1>0)) ((yQ (v5.2.1,())).bind fun v6 =>(CY (v6.2.1,())).bind fun bt =>(m6 ((v1.1.1,v4,()),v6.1,bt.1,())).bind fun dw =>bs v5.1 bt.2.1 (0,([]:List I.D),()) dw.1) ((yk ((v1.1.1,v4,()),())).bind fun v9 =>some (v9.1,v5.2.1,()))
def CZ(bs:yV)(a1:bm.D)(a2:Int):Option (wv) :=(I2 ()).bind fun v1 =>(iG (a1,[511,511,493,1023,2047],())).bind fun v2 =>(aN v1.1.2.1.length 0).bind fun v3 =>Rm bs v2 a2 v1 (v1.1.2.1.set (0+v3) ((J I v1.1.2.1 (0+v3)).1,(J I v1.1.2.1 (0+v3)).2.1,v2.1,(J I v1.1.2.1 (0+v3)).2.2.2.1,(J I v1.1.2.1 (0+v3)).2.2.2.2.1,(J I v1.1.2.1 (0+v3)).2.2.2.2.2.1,(J I v1.1.2.1 (0+v3)).2.2.2.2.2.2.1,(J I v1.1.2.1 (0+v3)).2.2.2.2.2.2.2.1,(J I v1.1.2.1 (0+v3)).2.2.2.2.2.2.2.2.1,()))
def wx(bs:yV)(U:Int)(aa:bm.D)(ae:af.D)(ai:af.D):Option (wv) :=cond (decide (aH (U-1)>0)) ((yQ (aa,())).bind fun v1 =>(CY (v1.2.1,())).bind fun v2 =>(m6 (ai,v1.1,v2.1,())).bind fun v3 =>bs (aH (U-1)) v2.2.1 ae v3.1) ((yk (ai,())).bind fun v4 =>some (v4.1,aa,()))
def tP:Nat→yV | 0,_,_,_,_=>none | m+1,U,aa,ae,ai=>wx (tP m) U aa ae ai
def JN(x:bm.D×Int×Unit):Option (wv):=CZ (tP aP) x.1 x.2.1
abbrev o9:Type:=af.D×bm.D×Unit
def aaC(v1:af.D×bm.D×Unit)(v6:Int×bm.D×Unit)(dw:List I.D):Option (o9) :=some ((v1.1.1,dw,()),v6.2.1,())
def aaD(v1:af.D×bm.D×Unit)(v9:Int×bm.D×Unit)(v11:List I.D):Option (o9) :=some ((v1.1.1,v11,()),v9.2.1,())
def aaE(v1:af.D×bm.D×Unit)(v4:Int×bm.D×Unit)(mb:List I.D):Option (o9) :=some ((v1.1.1,mb,()),v4.2.1,())
def aaF(v1:af.D×bm.D×Unit)(m5:Int×bm.D×Unit)(aaG:List I.D):Option (o9) :=some ((v1.1.1,aaG,()),m5.2.1,())
def aaH(v1:af.D×bm.D×Unit)(v20:Int×bm.D×Unit)(v22:List I.D):Option (o9) :=some ((v1.1.1,v22,()),v20.2.1,())
def aaI(v1:af.D×bm.D×Unit)(C0:Int×bm.D×Unit)(aaJ:List I.D):Option (o9) :=some ((v1.1.1,aaJ,()),C0.2.1,())
def aaK(v1:af.D×bm.D×Unit)(v4:Int×bm.D×Unit)(aaL:List I.D):Option (o9) :=some ((v1.1.1,aaL,()),v4.2.1,())
def aaM(v1:af.D×bm.D×Unit)(C1:Int×bm.D×Unit)(aaN:List I.D):Option (o9) :=some ((v1.1.1,aaN,()),C1.2.1,())
def JO(a1:bm.D)(a2:Int):Option (o9) :=(JN (a1,a2,())).bind fun v1 =>(rB (v1.2.1,10,())).bind fun v2 =>cond (!v2.1) (some (v1.1,v2.2.1,())) ((fY (v2.2.1,(v1.1.2.1.length:Int),())).bind fun v3 =>(fY (v3.2.1,9,())).bind fun v4 =>cond (v4.1==0) ((iG (v4.2.1,[0,1,2,100000,100001],())).bind fun v5 =>some ((v5.1,v1.1.2.1,()),v5.2.1,())) (cond (v4.1==1) ((fY (v4.2.1,5,())).bind fun v6 =>(aN v1.1.2.1.length v3.1).bind fun bt =>aaC v1 v6 (v1.1.2.1.set (0+bt) ((J I v1.1.2.1 (0+bt)).1,v6.1,(J I v1.1.2.1 (0+bt)).2.2.1,(J I v1.1.2.1 (0+bt)).2.2.2.1,(J I v1.1.2.1 (0+bt)).2.2.2.2.1,(J I v1.1.2.1 (0+bt)).2.2.2.2.2.1,(J I v1.1.2.1 (0+bt)).2.2.2.2.2.2.1,(J I v1.1.2.1 (0+bt)).2.2.2.2.2.2.2.1,(J I v1.1.2.1 (0+bt)).2.2.2.2.2.2.2.2.1,()))) (cond (v4.1==2) ((iG (v4.2.1,[(-1),0,511,2047,2048],())).bind fun v9 =>(aN v1.1.2.1.length v3.1).bind fun v10 =>aaD v1 v9 (v1.1.2.1.set (0+v10) ((J I v1.1.2.1 (0+v10)).1,(J I v1.1.2.1 (0+v10)).2.1,v9.1,(J I v1.1.2.1 (0+v10)).2.2.2.1,(J I v1.1.2.1 (0+v10)).2.2.2.2.1,(J I v1.1.2.1 (0+v10)).2.2.2.2.2.1,(J I v1.1.2.1 (0+v10)).2.2.2.2.2.2.1,(J I v1.1.2.1 (0+v10)).2.2.2.2.2.2.2.1,(J I v1.1.2.1 (0+v10)).2.2.2.2.2.2.2.2.1,()))) (cond (v4.1==3) ((aN v1.1.2.1.length v3.1).bind fun v12 =>cond (room (((J I v1.1.2.1 (0+v12)).2.2.2.2.2.1).length +([120]:List UInt8).length)) ((aN v1.1.2.1.length v3.1).bind fun jx =>aaE v1 v4 (v1.1.2.1.set (0+jx) ((J I v1.1.2.1 (0+jx)).1,(J I v1.1.2.1 (0+jx)).2.1,(J I v1.1.2.1 (0+jx)).2.2.1,(J I v1.1.2.1 (0+jx)).2.2.2.1,(J I v1.1.2.1 (0+jx)).2.2.2.2.1,((J I v1.1.2.1 (0+v12)).2.2.2.2.2.1)++([120]:List UInt8),(J I v1.1.2.1 (0+jx)).2.2.2.2.2.2.1,(J I v1.1.2.1 (0+jx)).2.2.2.2.2.2.2.1,(J I v1.1.2.1 (0+jx)).2.2.2.2.2.2.2.2.1,()))) (none)) (cond (v4.1==4) ((aN v1.1.2.1.length v3.1).bind fun gY =>(qi (v4.2.1,[([122,122]:List UInt8),([122,46]:List UInt8),([]:List UInt8),([90]:List UInt8)],())).bind fun n_ =>(fY (n_.2.1,6,())).bind fun m5 =>(aN v1.1.2.1.length v3.1).bind fun aaO =>cond (Nat.beq (0+aaO) (0+gY)) (cond (room (((J I v1.1.2.1 (0+gY)).2.2.2.2.2.2.1).length+[(n_.1,m5.1,())].length)) (aaF v1 m5 (v1.1.2.1.set (0+gY) ((J I v1.1.2.1 (0+gY)).1,(J I v1.1.2.1 (0+gY)).2.1,(J I v1.1.2.1 (0+gY)).2.2.1,(J I v1.1.2.1 (0+gY)).2.2.2.1,(J I v1.1.2.1 (0+gY)).2.2.2.2.1,(J I v1.1.2.1 (0+gY)).2.2.2.2.2.1,((J I v1.1.2.1 (0+gY)).2.2.2.2.2.2.1)++[(n_.1,m5.1,())],(J I v1.1.2.1 (0+gY)).2.2.2.2.2.2.2.1,(J I v1.1.2.1 (0+gY)).2.2.2.2.2.2.2.2.1,()))) (none)) (none)) (cond (v4.1==5) ((iG (v4.2.1,[(-1),1,5,400,401],())).bind fun v20 =>(aN v1.1.2.1.length v3.1).bind fun v21 =>aaH v1 v20 (v1.1.2.1.set (0+v21) ((J I v1.1.2.1 (0+v21)).1,(J I v1.1.2.1 (0+v21)).2.1,(J I v1.1.2.1 (0+v21)).2.2.1,(J I v1.1.2.1 (0+v21)).2.2.2.1,(J I v1.1.2.1 (0+v21)).2.2.2.2.1,(J I v1.1.2.1 (0+v21)).2.2.2.2.2.1,(J I v1.1.2.1 (0+v21)).2.2.2.2.2.2.1,v20.1,(J I v1.1.2.1 (0+v21)).2.2.2.2.2.2.2.2.1,()))) (cond (v4.1==6) ((iG (v4.2.1,[(-1),1,24,25],())).bind fun C0 =>(aN v1.1.2.1.length v3.1).bind fun v24 =>aaI v1 C0 (v1.1.2.1.set (0+v24) ((J I v1.1.2.1 (0+v24)).1,(J I v1.1.2.1 (0+v24)).2.1,(J I v1.1.2.1 (0+v24)).2.2.1,(J I v1.1.2.1 (0+v24)).2.2.2.1,(J I v1.1.2.1 (0+v24)).2.2.2.2.1,(J I v1.1.2.1 (0+v24)).2.2.2.2.2.1,(J I v1.1.2.1 (0+v24)).2.2.2.2.2.2.1,(J I v1.1.2.1 (0+v24)).2.2.2.2.2.2.2.1,C0.1,()))) (cond (v4.1==7) (cond (room (v1.1.2.1.length +([(aH (v1.1.1-1),1,0,0,0,([]:List UInt8),([]:List aw.D),0,0,())]).length)) (aaK v1 v4 (v1.1.2.1++([(aH (v1.1.1-1),1,0,0,0,([]:List UInt8),([]:List aw.D),0,0,())]))) (none)) ((fY (v4.2.1,5,())).bind fun C1 =>(aN v1.1.2.1.length v3.1).bind fun v28 =>aaM v1 C1 (v1.1.2.1.set (0+v28) (C1.1,(J I v1.1.2.1 (0+v28)).2.1,(J I v1.1.2.1 (0+v28)).2.2.1,(J I v1.1.2.1 (0+v28)).2.2.2.1,(J I v1.1.2.1 (0+v28)).2.2.2.2.1,(J I v1.1.2.1 (0+v28)).2.2.2.2.2.1,(J I v1.1.2.1 (0+v28)).2.2.2.2.2.2.1,(J I v1.1.2.1 (0+v28)).2.2.2.2.2.2.2.1,(J I v1.1.2.1 (0+v28)).2.2.2.2.2.2.2.2.1,())))))))))))
def JP(x:bm.D×Int×Unit):Option (o9):=JO x.1 x.2.1
def JQ(a1:List Int)(a2:Int):Option (Int×Unit) :=cond (decide (aH (2+aH (Int.tdiv (a1.length:Int) 20))>a2)) (some (a2,())) (some (aH (2+aH (Int.tdiv (a1.length:Int) 20)),()))
def JR(x:(List Int)×Int×Unit):Option (Int×Unit):=JQ x.1 x.2.1
abbrev Rn:Type:=aJ.D×bm.D×Unit
def JS(a1:bm.D):Option (Rn) :=(yQ (a1,())).bind fun v1 =>(rB (v1.2.1,10,())).bind fun v2 =>cond v2.1 ((fY (v2.2.1,3,())).bind fun v3 =>cond (v3.1==0) ((iG (v3.2.1,[(-1),1000,1001],())).bind fun v4 =>some ((v4.1,v1.1.2.1,v1.1.2.2.1,()),v4.2.1,())) (cond (v3.1==1) ((iG (v3.2.1,[(-1),1000,1001],())).bind fun v5 =>some ((v1.1.1,v5.1,v1.1.2.2.1,()),v5.2.1,())) ((fY (v3.2.1,2,())).bind fun v6 =>(dZ ([1,2,3,4,5].length) 0 (aH (4+v6.1))).bind fun bt =>some ((v1.1.1,v1.1.2.1,part [1,2,3,4,5] (0+bt.1) (bt.2-bt.1),()),v6.2.1,())))) (some (v1.1,v2.2.1,()))
def JT(x:bm.D×Unit):Option (Rn):=JS x.1
abbrev Ro:Type:=af.D×aJ.D×aG.D×Unit
def JU(a1:List Int):Option (Ro) :=(IZ (a1,())).bind fun v1 =>(JR (a1,50,())).bind fun v2 =>(JP (v1.1,v2.1,())).bind fun v3 =>(JT (v3.2.1,())).bind fun v4 =>(CX (v4.2.1,v3.1,())).bind fun v5 =>some (v3.1,v4.1,v5.1,())
def JV(x:(List Int)×Unit):Option (Ro):=JU x.1
abbrev C2:Type:=(List UInt8)→Int→Option (Bool×Unit)
def C3(bf:C2)(a1:List UInt8):Option (Bool×Unit) :=(eg ((a1.length:Int),1,8,())).bind fun v1 =>cond (!v1.1) (some (false,())) (cond (bu a1 ([46]:List UInt8)) (some (false,())) (cond (bu a1 ([46,46]:List UInt8)) (some (false,())) (bf a1 0)))
def C4(bf:C2)(U:List UInt8)(aa:Int):Option (Bool×Unit) :=cond (decide (aa<(U.length:Int))) ((aN U.length aa).bind fun v1 =>(ym (((U.getD v1 0).toNat:Int),())).bind fun v2 =>cond (!v2.1) (some (false,())) (bf U (aH (aa+1)))) (some (true,()))
def rQ:Nat→C2 | 0,_,_=>none | m+1,U,aa=>C4 (rQ m) U aa
def JW(x:(List UInt8)×Unit):Option (Bool×Unit):=C3 (rQ aP) x.1
structure tQ where
 bf:Bool→af.D→I.D→Option (Bool×Unit)
 l8:Int→af.D→I.D→Option (Bool×Unit)
def C5(k:tQ)(a1:af.D)(a2:I.D):Option (Bool×Unit) :=(eg (a2.2.2.1,0,2047,())).bind fun v1 =>cond (!v1.1) (some (false,())) ((eg (a2.2.2.2.1,0,1000,())).bind fun v2 =>cond (!v2.1) (some (false,())) ((eg (a2.2.2.2.2.1,0,1000,())).bind fun v3 =>cond (!v3.1) (some (false,())) (cond ((a2.2.2.2.2.2.2.1.length:Int)==0) (cond (a2.2.2.2.2.2.2.2.1==0) (k.bf (a2.2.2.2.2.2.2.2.2.1==0) a1 a2) (k.bf false a1 a2)) (k.bf false a1 a2))))
def JX(k:tQ)(U:Bool)(aa:af.D)(ae:I.D):Option (Bool×Unit) :=cond (ae.2.1==1) (cond U (some (decide ((ae.2.2.2.2.2.1.length:Int)≤64),())) (some (false,()))) (cond (ae.2.1==3) (cond U ((yn (ae.2.2.2.2.2.1,())).bind fun v1 =>cond v1.1 (some (ae.2.2.1==511,())) (some (false,()))) (some (false,()))) (cond (ae.2.1==2) (cond (!(bu ae.2.2.2.2.2.1 ([]:List UInt8))) (some (false,())) (cond (decide ((ae.2.2.2.2.2.2.1.length:Int)>12)) (some (false,())) ((eg (ae.2.2.2.2.2.2.2.1,0,400,())).bind fun v2 =>cond (!v2.1) (some (false,())) ((eg (ae.2.2.2.2.2.2.2.2.1,0,24,())).bind fun v3 =>cond (!v3.1) (some (false,())) (k.l8 0 aa ae))))) (some (false,()))))
def yW(k:tQ)(U:Int)(aa:af.D)(ae:I.D):Option (Bool×Unit) :=cond (decide (U<(ae.2.2.2.2.2.2.1.length:Int))) ((aN ae.2.2.2.2.2.2.1.length U).bind fun v1 =>(JW ((J aw ae.2.2.2.2.2.2.1 v1).1,())).bind fun v2 =>cond (!v2.1) (some (false,())) (cond (decide (U>0)) ((aN ae.2.2.2.2.2.2.1.length (aH (U-1))).bind fun v3 =>cond (!(dr ((J aw ae.2.2.2.2.2.2.1 v3).1) ((J aw ae.2.2.2.2.2.2.1 v1).1))) (some (false,())) (cond ((J aw ae.2.2.2.2.2.2.1 v1).2.1==1) (some (false,())) ((kc (aa,(J aw ae.2.2.2.2.2.2.1 v1).2.1,())).bind fun v4 =>cond (decide (v4.1<0)) (some (false,())) (k.l8 (aH (U+1)) aa ae)))) (cond ((J aw ae.2.2.2.2.2.2.1 v1).2.1==1) (some (false,())) ((kc (aa,(J aw ae.2.2.2.2.2.2.1 v1).2.1,())).bind fun v5 =>cond (decide (v5.1<0)) (some (false,())) (k.l8 (aH (U+1)) aa ae))))) (some (true,()))
def Rp(k:tQ):tQ:=⟨JX k,yW k⟩
def qk:Nat→tQ:=eF Rp ⟨fun _ _ _=>none,fun _ _ _=>none⟩
def C6(x:af.D×I.D×Unit):Option (Bool×Unit):=C5 (qk aP) x.1 x.2.1
structure tT where
 bf:Int→af.D→Option (Bool×Unit)
 cZ:Int→af.D→(List Bool)→Option (Bool×Unit)
def C7(k:tT)(a1:af.D):Option (Bool×Unit) :=(eg (a1.1,2,100000,())).bind fun v1 =>cond (!v1.1) (some (false,())) ((eg ((a1.2.1.length:Int),1,24,())).bind fun v2 =>cond (!v2.1) (some (false,())) ((aN a1.2.1.length 0).bind fun v3 =>cond ((J I a1.2.1 v3).1 != 1) (some (false,())) ((aN a1.2.1.length 0).bind fun v4 =>cond ((J I a1.2.1 v4).2.1 != 2) (some (false,())) (k.bf 0 a1))))
def tU(k:tT)(U:Int)(aa:af.D):Option (Bool×Unit) :=cond (decide (U<(aa.2.1.length:Int))) ((aN aa.2.1.length U).bind fun v1 =>(eg ((J I aa.2.1 v1).1,1,aH (aa.1-1),())).bind fun v2 =>cond (!v2.1) (some (false,())) (cond (decide (U>0)) ((aN aa.2.1.length (aH (U-1))).bind fun v3 =>cond (decide ((J I aa.2.1 v3).1≥(J I aa.2.1 v1).1)) (some (false,())) ((C6 (aa,J I aa.2.1 v1,())).bind fun v4 =>cond (!v4.1) (some (false,())) (k.bf (aH (U+1)) aa))) ((C6 (aa,J I aa.2.1 v1,())).bind fun v5 =>cond (!v5.1) (some (false,())) (k.bf (aH (U+1)) aa)))) ((Cq (aa,1,())).bind fun v6 =>k.cZ 1 aa v6.1)
def tV(k:tT)(U:Int)(aa:af.D)(ae:List Bool):Option (Bool×Unit) :=cond (decide (U<(aa.2.1.length:Int))) ((aN ae.length U).bind fun v1 =>cond (!(J ad.bool ae (0+v1))) (some (false,())) ((aN aa.2.1.length U).bind fun v2 =>cond ((J I aa.2.1 v2).2.1==2) ((aN aa.2.1.length U).bind fun v3 =>(yF (aa,(J I aa.2.1 v3).1,())).bind fun v4 =>cond (v4.1 != 1) (some (false,())) (k.cZ (aH (U+1)) aa ae)) (k.cZ (aH (U+1)) aa ae))) ((yv (aa,())).bind fun v5 =>cond (decide (v5.1≤400)) ((Cv (aa,())).bind fun v6 =>some (!v6.1,())) (some (false,())))
def Rq(k:tT):tT:=⟨tU k,tV k⟩
def m7:Nat→tT:=eF Rq ⟨fun _ _=>none,fun _ _ _=>none⟩
def yX(x:af.D×Unit):Option (Bool×Unit):=C7 (m7 aP) x.1
def JY(a1:Int)(a2:Int)(a3:Int):Option (Bool×Unit) :=cond (decide (a1≥a2)) (some (decide (a1≤a3),())) (some (false,()))
def eG(x:Int×Int×Int×Unit):Option (Bool×Unit):=JY x.1 x.2.1 x.2.2.1
def Rr(a1:Int):Option (Bool×Unit) :=cond (decide (a1≥97)) (cond (decide (a1≤122)) (some (true,())) (cond (decide (a1≥48)) (cond (decide (a1≤57)) (some (true,())) (cond (a1==46) (some (true,())) (cond (a1==95) (some (true,())) (some (a1==45,()))))) (cond (a1==46) (some (true,())) (cond (a1==95) (some (true,())) (some (a1==45,())))))) (cond (decide (a1≥48)) (cond (decide (a1≤57)) (some (true,())) (cond (a1==46) (some (true,())) (cond (a1==95) (some (true,())) (some (a1==45,()))))) (cond (a1==46) (some (true,())) (cond (a1==95) (some (true,())) (some (a1==45,())))))
def C8(x:Int×Unit):Option (Bool×Unit):=Rr x.1
abbrev C9:Type:=(List UInt8)→Int→Int→Option (Bool×Unit)
def C_(k2:C9)(a1:List UInt8):Option (Bool×Unit) :=k2 a1 (a1.length:Int) 0
def C'(k2:C9)(U:List UInt8)(aa:Int)(ae:Int):Option (Bool×Unit) :=cond (decide (ae<aa)) ((aN U.length ae).bind fun v1 =>cond (((U.getD v1 0).toNat:Int) != 47) ((aN U.length ae).bind fun v2 =>(C8 (((U.getD v2 0).toNat:Int),())).bind fun v3 =>cond (!v3.1) (some (false,())) (k2 U aa (aH (ae+1)))) (k2 U aa (aH (ae+1)))) ((eG ((U.length:Int),1,60,())).bind fun v4 =>some (v4.1,()))
def tW:Nat→C9 | 0,_,_,_=>none | m+1,U,aa,ae=>C' (tW m) U aa ae
def wy(x:(List UInt8)×Unit):Option (Bool×Unit):=C_ (tW aP) x.1
abbrev yY:Type:=(List I.D)×Unit
abbrev Da:Type:=af.D→Int→Int→Int→Option (yY)
def Db(k2:Da)(a1:af.D)(a2:Int):Option (yY) :=k2 a1 a2 (a1.2.1.length:Int) 0
def Dc(k2:Da)(U:af.D)(aa:Int)(ae:Int)(ai:Int):Option (yY) :=cond (decide (ai<ae)) ((aN U.2.1.length ai).bind fun v1 =>cond ((J I U.2.1 v1).1==aa) ((aN U.2.1.length ai).bind fun v2 =>some ([J I U.2.1 v2],())) (k2 U aa ae (aH (ai+1)))) (some ([],()))
def tX:Nat→Da | 0,_,_,_,_=>none | m+1,U,aa,ae,ai=>Dc (tX m) U aa ae ai
def fl(x:af.D×Int×Unit):Option (yY):=Db (tX aP) x.1 x.2.1
abbrev Dd:Type:=Int→Int→Int→af.D→Option (Int×af.D×Unit)
def De(k2:Dd)(a1:af.D)(a2:Int):Option (Int×af.D×Unit) :=k2 a2 (a1.2.1.length:Int) 0 a1
def Df(k2:Dd)(U:Int)(aa:Int)(ae:Int)(ai:af.D):Option (Int×af.D×Unit) :=cond (decide (ae<aa)) ((aN ai.2.1.length ae).bind fun v1 =>cond ((J I ai.2.1 (0+v1)).1==U) ((aN ai.2.1.length ae).bind fun v2 =>some ((((0+v2):Nat):Int),ai,())) (k2 U aa (aH (ae+1)) ai)) (some ((-1),ai,()))
def tY:Nat→Dd | 0,_,_,_,_=>none | m+1,U,aa,ae,ai=>Df (tY m) U aa ae ai
def wz(x:af.D×Int×Unit):Option (Int×af.D×Unit):=De (tY aP) x.1 x.2.1
abbrev Dg:Type:=(List UInt8)→Int→Int→Option (Bool×Unit)
def Dh(k2:Dg)(a1:List UInt8):Option (Bool×Unit) :=k2 a1 (a1.length:Int) 0
def Di(k2:Dg)(U:List UInt8)(aa:Int)(ae:Int):Option (Bool×Unit) :=cond (decide (ae<aa)) ((aN U.length ae).bind fun v1 =>(C8 (((U.getD v1 0).toNat:Int),())).bind fun v2 =>cond (!v2.1) (some (false,())) (k2 U aa (aH (ae+1)))) ((eG ((U.length:Int),1,8,())).bind fun v3 =>cond v3.1 (cond (!(bu U ([46]:List UInt8))) (some (!(bu U ([46,46]:List UInt8)),())) (some (false,()))) (some (false,())))
def tZ:Nat→Dg | 0,_,_,_=>none | m+1,U,aa,ae=>Di (tZ m) U aa ae
def JZ(x:(List UInt8)×Unit):Option (Bool×Unit):=Dh (tZ aP) x.1
abbrev Dj:Type:=af.D→(List aw.D)→Int→Int→I.D→Option (Bool×Unit)
def Dk(k2:Dj)(a1:af.D)(a2:I.D):Option (Bool×Unit) :=k2 a1 a2.2.2.2.2.2.2.1 (a2.2.2.2.2.2.2.1.length:Int) 0 a2
def Dl(k2:Dj)(U:af.D)(aa:List aw.D)(ae:Int)(ai:Int)(ar:I.D):Option (Bool×Unit) :=cond (decide (ai<ae)) ((aN aa.length ai).bind fun v1 =>(JZ ((J aw aa v1).1,())).bind fun v2 =>cond (!v2.1) (some (false,())) (cond ((J aw aa v1).2.1==1) (some (false,())) ((fl (U,(J aw aa v1).2.1,())).bind fun v3 =>cond (!(!List.isEmpty v3.1)) (some (false,())) (cond (decide (ai>0)) ((aN ar.2.2.2.2.2.2.1.length (aH (ai-1))).bind fun v4 =>cond (!(dr ((J aw ar.2.2.2.2.2.2.1 v4).1) ((J aw aa v1).1))) (some (false,())) (k2 U aa ae (aH (ai+1)) ar)) (k2 U aa ae (aH (ai+1)) ar))))) (some (decide ((ar.2.2.2.2.2.2.1.length:Int)≤12),()))
def t_:Nat→Dj | 0,_,_,_,_,_=>none | m+1,U,aa,ae,ai,ar=>Dl (t_ m) U aa ae ai ar
def J0(x:af.D×I.D×Unit):Option (Bool×Unit):=Dk (t_ aP) x.1 x.2.1
abbrev Dm:Type:=af.D→I.D→Option (Bool×Unit)
def Dn(bs:Dm)(a1:af.D)(a2:I.D):Option (Bool×Unit) :=(eG (a2.2.2.1,0,2047,())).bind fun v1 =>cond (!v1.1) (some (false,())) ((eG (a2.2.2.2.1,0,1000,())).bind fun v2 =>cond (!v2.1) (some (false,())) ((eG (a2.2.2.2.2.1,0,1000,())).bind fun v3 =>cond (!v3.1) (some (false,())) (cond (a2.2.1 != 2) (cond (decide ((a2.2.2.2.2.2.2.1.length:Int)>0)) (some (false,())) (cond (a2.2.2.2.2.2.2.2.1 != 0) (some (false,())) (cond (a2.2.2.2.2.2.2.2.2.1 != 0) (some (false,())) (bs a1 a2)))) (bs a1 a2))))
def J1(bs:Dm)(U:af.D)(aa:I.D):Option (Bool×Unit) :=cond (aa.2.1==1) (some (decide ((aa.2.2.2.2.2.1.length:Int)≤64),())) (cond (aa.2.1==3) ((wy (aa.2.2.2.2.2.1,())).bind fun v1 =>cond v1.1 (some (aa.2.2.1==511,())) (some (false,()))) (cond (aa.2.1==2) (cond (bu aa.2.2.2.2.2.1 ([]:List UInt8)) ((J0 (U,aa,())).bind fun v2 =>cond v2.1 ((eG (aa.2.2.2.2.2.2.2.1,0,400,())).bind fun v3 =>cond v3.1 ((eG (aa.2.2.2.2.2.2.2.2.1,0,24,())).bind fun v4 =>some (v4.1,())) (some (false,()))) (some (false,()))) (some (false,()))) (some (false,()))))
def yZ:Nat→Dm | 0,_,_=>none | m+1,U,aa=>J1 (yZ m) U aa
def Dp(x:af.D×I.D×Unit):Option (Bool×Unit):=Dn (yZ aP) x.1 x.2.1
abbrev Dq:Type:=(List Int)→Int→Int→Int→Option (Int×Unit)
def Dr(k2:Dq)(a1:List Int)(a2:Int):Option (Int×Unit) :=k2 a1 a2 (a1.length:Int) 0
def Ds(k2:Dq)(U:List Int)(aa:Int)(ae:Int)(ai:Int):Option (Int×Unit) :=cond (decide (ai<ae)) ((aN U.length ai).bind fun v1 =>cond (aa==J (ad.int .i64) U v1) (some (ai,())) (k2 U aa ae (aH (ai+1)))) (some ((-1),()))
def t':Nat→Dq | 0,_,_,_,_=>none | m+1,U,aa,ae,ai=>Ds (t' m) U aa ae ai
def J2(x:(List Int)×Int×Unit):Option (Int×Unit):=Dr (t' aP) x.1 x.2.1
def J3(a1:List Int)(a2:Int):Option (Bool×Unit) :=(J2 (a1,a2,())).bind fun v1 =>some (decide (v1.1≥0),())
def rR(x:(List Int)×Int×Unit):Option (Bool×Unit):=J3 x.1 x.2.1
structure ua where
 bf:af.D→Int→(List Int)→(List Int)→Option ((List Int)×Unit)
 gG:af.D→Int→(List aw.D)→Int→Int→(List Int)→(List Int)→Option ((List Int)×Unit)
def Dt(k:ua)(a1:af.D)(a2:Int):Option ((List Int)×Unit) :=k.bf a1 0 ([]:List Int) [a2]
def ql(k:ua)(U:af.D)(aa:Int)(ae:List Int)(ai:List Int):Option ((List Int)×Unit) :=cond (decide (aa<(ai.length:Int))) ((aN ai.length aa).bind fun v1 =>(fl (U,J (ad.int .i64) ai (0+v1),())).bind fun v2 =>cond (!(!List.isEmpty v2.1)) (k.bf U (aH (aa+1)) ae ai) (cond (!List.isEmpty v2.1) (k.gG U aa ((J I v2.1 0).2.2.2.2.2.2.1) (((J I v2.1 0).2.2.2.2.2.2.1).length:Int) 0 ae ai) (none))) (some (ae,()))
def y0(k:ua)(U:af.D)(aa:Int)(ae:List aw.D)(ai:Int)(ar:Int)(aE:List Int)(bn:List Int):Option ((List Int)×Unit) :=cond (decide (ar<ai)) ((aN ae.length ar).bind fun v1 =>(rR (aE,(J aw ae v1).2.1,())).bind fun v2 =>cond (!v2.1) (cond (room (aE.length+[(J aw ae v1).2.1].length)) (cond (room (bn.length+[(J aw ae v1).2.1].length)) (k.gG U aa ae ai (aH (ar+1)) (aE++[(J aw ae v1).2.1]) (bn++[(J aw ae v1).2.1])) (none)) (none)) (k.gG U aa ae ai (aH (ar+1)) aE bn)) (k.bf U (aH (aa+1)) aE bn)
def Rs(k:ua):ua:=⟨ql k,y0 k⟩
def me:Nat→ua:=eF Rs ⟨fun _ _ _ _=>none,fun _ _ _ _ _ _ _=>none⟩
def ub(x:af.D×Int×Unit):Option ((List Int)×Unit):=Dt (me aP) x.1 x.2.1
structure uc where
 k3:Int→Int→(List I.D)→Int→Int→Option (Int×Unit)
 c_:Int→Int→(List I.D)→Int→Int→(List aw.D)→Int→Int→Option (Int×Unit)
def Du(k:uc)(a1:af.D)(a2:Int):Option (Int×Unit) :=k.k3 a2 0 a1.2.1 (a1.2.1.length:Int) 0
def y1(k:uc)(U:Int)(aa:Int)(ae:List I.D)(ai:Int)(ar:Int):Option (Int×Unit) :=cond (decide (ar<ai)) ((aN ae.length ar).bind fun v1 =>k.c_ U aa ae ai ar ((J I ae v1).2.2.2.2.2.2.1) (((J I ae v1).2.2.2.2.2.2.1).length:Int) 0) (some (aa,()))
def y2(k:uc)(U:Int)(aa:Int)(ae:List I.D)(ai:Int)(ar:Int)(aE:List aw.D)(bn:Int)(bT:Int):Option (Int×Unit) :=cond (decide (bT<bn)) ((aN aE.length bT).bind fun v1 =>cond ((J aw aE v1).2.1==U) (k.c_ U (aH (aa+1)) ae ai ar aE bn (aH (bT+1))) (k.c_ U aa ae ai ar aE bn (aH (bT+1)))) (k.k3 U aa ae ai (aH (ar+1)))
def Rt(k:uc):uc:=⟨y1 k,y2 k⟩
def o_:Nat→uc:=eF Rt ⟨fun _ _ _ _ _=>none,fun _ _ _ _ _ _ _ _=>none⟩
def wA(x:af.D×Int×Unit):Option (Int×Unit):=Du (o_ aP) x.1 x.2.1
abbrev Dv:Type:=Int→(List I.D)→Int→Int→Option (Int×Unit)
def Dw(k3:Dv)(a1:af.D):Option (Int×Unit) :=k3 0 a1.2.1 (a1.2.1.length:Int) 0
def Dx(k3:Dv)(U:Int)(aa:List I.D)(ae:Int)(ai:Int):Option (Int×Unit) :=cond (decide (ai<ae)) ((aN aa.length ai).bind fun v1 =>k3 (aH (U +(((J I aa v1).2.2.2.2.2.1).length:Int))) aa ae (aH (ai+1))) (some (U,()))
def ud:Nat→Dv | 0,_,_,_,_=>none | m+1,U,aa,ae,ai=>Dx (ud m) U aa ae ai
def rS(x:af.D×Unit):Option (Int×Unit):=Dw (ud aP) x.1
abbrev Dy:Type:=af.D→Int→Int→Int→(List Int)→Option (Int×Int×Unit)
def Dz(bf:Dy)(a1:af.D)(a2:Int):Option (Int×Int×Unit) :=(ub (a1,a2,())).bind fun v1 =>bf a1 0 (v1.1.length:Int) 0 v1.1
def DA(bf:Dy)(U:af.D)(aa:Int)(ae:Int)(ai:Int)(ar:List Int):Option (Int×Int×Unit) :=cond (decide (ai<ae)) ((aN ar.length ai).bind fun v1 =>(fl (U,J (ad.int .i64) ar (0+v1),())).bind fun v2 =>cond (!List.isEmpty v2.1) (cond (!List.isEmpty v2.1) (bf U (aH (aa +(((J I v2.1 0).2.2.2.2.2.1).length:Int))) ae (aH (ai+1)) ar) (none)) (bf U aa ae (aH (ai+1)) ar)) (some (aa,(ar.length:Int),()))
def qm:Nat→Dy | 0,_,_,_,_,_=>none | m+1,U,aa,ae,ai,ar=>DA (qm m) U aa ae ai ar
def wB(x:af.D×Int×Unit):Option (Int×Int×Unit):=Dz (qm aP) x.1 x.2.1
def J4(a1:af.D)(a2:I.D):Option (Bool×Unit) :=(wB (a1,a2.1,())).bind fun v1 =>cond (decide (a2.2.2.2.2.2.2.2.1>0)) (cond (decide (v1.1>a2.2.2.2.2.2.2.2.1)) (some (true,())) (cond (decide (a2.2.2.2.2.2.2.2.2.1>0)) (some (decide (v1.2.1>a2.2.2.2.2.2.2.2.2.1),())) (some (false,())))) (cond (decide (a2.2.2.2.2.2.2.2.2.1>0)) (some (decide (v1.2.1>a2.2.2.2.2.2.2.2.2.1),())) (some (false,())))
def J5(x:af.D×I.D×Unit):Option (Bool×Unit):=J4 x.1 x.2.1
abbrev DB:Type:=(List I.D)→af.D→Int→Int→Option (Int×Unit)
def DC(k2:DB)(a1:List I.D)(a2:af.D):Option (Int×Unit) :=k2 a1 a2 (a1.length:Int) 0
def DD(k2:DB)(U:List I.D)(aa:af.D)(ae:Int)(ai:Int):Option (Int×Unit) :=cond (decide (ai<ae)) ((aN U.length ai).bind fun v1 =>(J5 (aa,J I U v1,())).bind fun v2 =>cond v2.1 (some (ai,())) (k2 U aa ae (aH (ai+1)))) (some ((-1),()))
def ue:Nat→DB | 0,_,_,_,_=>none | m+1,U,aa,ae,ai=>DD (ue m) U aa ae ai
def J6(x:(List I.D)×af.D×Unit):Option (Int×Unit):=DC (ue aP) x.1 x.2.1
def J7(a1:List I.D)(a2:af.D):Option (Bool×Unit) :=(J6 (a1,a2,())).bind fun v1 =>some (decide (v1.1≥0),())
def y3(x:(List I.D)×af.D×Unit):Option (Bool×Unit):=J7 x.1 x.2.1
structure uf where
 bf:(List I.D)→Int→Int→af.D→Option (Bool×Unit)
 cZ:(List I.D)→Int→Int→af.D→(List Int)→Option (Bool×Unit)
def DE(k:uf)(a1:af.D):Option (Bool×Unit) :=(eG (a1.1,2,100000,())).bind fun v1 =>cond (!v1.1) (some (false,())) ((eG ((a1.2.1.length:Int),1,24,())).bind fun v2 =>cond (!v2.1) (some (false,())) ((aN a1.2.1.length 0).bind fun v3 =>cond ((J I a1.2.1 v3).1 != 1) (some (false,())) ((aN a1.2.1.length 0).bind fun v4 =>cond ((J I a1.2.1 v4).2.1 != 2) (some (false,())) (k.bf a1.2.1 (a1.2.1.length:Int) 0 a1))))
def ug(k:uf)(U:List I.D)(aa:Int)(ae:Int)(ai:af.D):Option (Bool×Unit) :=cond (decide (ae<aa)) ((aN U.length ae).bind fun v1 =>(eG ((J I U v1).1,1,aH (ai.1-1),())).bind fun v2 =>cond (!v2.1) (some (false,())) (cond (decide (ae>0)) ((aN ai.2.1.length (aH (ae-1))).bind fun v3 =>cond (decide ((J I ai.2.1 v3).1≥(J I U v1).1)) (some (false,())) ((Dp (ai,J I U v1,())).bind fun v4 =>cond (!v4.1) (some (false,())) (k.bf U aa (aH (ae+1)) ai))) ((Dp (ai,J I U v1,())).bind fun v5 =>cond (!v5.1) (some (false,())) (k.bf U aa (aH (ae+1)) ai)))) ((ub (ai,1,())).bind fun v6 =>(dZ ai.2.1.length 1 (ai.2.1.length:Int)).bind fun bt =>k.cZ (part ai.2.1 bt.1 (bt.2-bt.1)) (((part ai.2.1 bt.1 (bt.2-bt.1)).length:Nat):Int) 0 ai v6.1)
def uh(k:uf)(U:List I.D)(aa:Int)(ae:Int)(ai:af.D)(ar:List Int):Option (Bool×Unit) :=cond (decide (ae<aa)) ((aN U.length ae).bind fun v1 =>(rR (ar,(J I U v1).1,())).bind fun v2 =>cond (!v2.1) (some (false,())) (cond ((J I U v1).2.1==2) ((wA (ai,(J I U v1).1,())).bind fun v3 =>cond (v3.1 != 1) (some (false,())) (k.cZ U aa (aH (ae+1)) ai ar)) (k.cZ U aa (aH (ae+1)) ai ar))) ((rS (ai,())).bind fun v4 =>cond (decide (v4.1≤400)) ((y3 (ai.2.1,ai,())).bind fun v5 =>some (!v5.1,())) (some (false,())))
def Ru(k:uf):uf:=⟨ug k,uh k⟩
def m8:Nat→uf:=eF Ru ⟨fun _ _ _ _=>none,fun _ _ _ _ _=>none⟩
def wC(x:af.D×Unit):Option (Bool×Unit):=DE (m8 aP) x.1
def aaP(a1:Int):Option (aV.D×Unit) :=some ((a1,([]:List UInt8),()),())
def eO(x:Int×Unit):Option (aV.D×Unit):=aaP x.1
def J8(a1:Int):Option (Bool×Unit) :=(eG (a1,0,1000,())).bind fun v1 =>some (!v1.1,())
def Rv(x:Int×Unit):Option (Bool×Unit):=J8 x.1
abbrev DF:Type:=(List Int)→Int→Int→Option (Int×Unit)
def DG(k2:DF)(a1:List Int):Option (Int×Unit) :=k2 a1 (a1.length:Int) 0
def DH(k2:DF)(U:List Int)(aa:Int)(ae:Int):Option (Int×Unit) :=cond (decide (ae<aa)) ((aN U.length ae).bind fun v1 =>(Rv (J (ad.int .i64) U v1,())).bind fun v2 =>cond v2.1 (some (ae,())) (k2 U aa (aH (ae+1)))) (some ((-1),()))
def ui:Nat→DF | 0,_,_,_=>none | m+1,U,aa,ae=>DH (ui m) U aa ae
def J9(x:(List Int)×Unit):Option (Int×Unit):=DG (ui aP) x.1
def J_(a1:List Int):Option (Bool×Unit) :=(J9 (a1,())).bind fun v1 =>some (decide (v1.1≥0),())
def J'(x:(List Int)×Unit):Option (Bool×Unit):=J_ x.1
def Ka(a1:aJ.D):Option (Bool×Unit) :=(eG (a1.1,0,1000,())).bind fun v1 =>cond (!v1.1) (some (false,())) ((eG (a1.2.1,0,1000,())).bind fun v2 =>cond (!v2.1) (some (false,())) (cond (decide ((a1.2.2.1.length:Int)>4)) (some (false,())) ((J' (a1.2.2.1,())).bind fun v3 =>some (!v3.1,()))))
def wD(x:aJ.D×Unit):Option (Bool×Unit):=Ka x.1
structure uj where
 k3:Bool→Bool→aG.D→Option (Bool×Unit)
 bs:aG.D→Option (Bool×Unit)
def DI(k:uj)(a1:aG.D):Option (Bool×Unit) :=cond (a1.1==9) (cond (a1.1==5) (k.k3 true true a1) (k.k3 true (a1.1==6) a1)) (cond (a1.1==10) (cond (a1.1==5) (k.k3 true true a1) (k.k3 true (a1.1==6) a1)) (cond (a1.1==5) (k.k3 (a1.1==12) true a1) (k.k3 (a1.1==12) (a1.1==6) a1)))
def Rw(k:uj)(U:Bool)(aa:Bool)(ae:aG.D):Option (Bool×Unit) :=cond (!U) (cond (!(bu ae.2.2.1 ([]:List UInt8))) (some (false,())) (cond (!aa) (cond (!(bu ae.2.2.2.2.2.1 ([]:List UInt8))) (some (false,())) (k.bs ae)) (k.bs ae))) (cond (!aa) (cond (!(bu ae.2.2.2.2.2.1 ([]:List UInt8))) (some (false,())) (k.bs ae)) (k.bs ae))
def Rx(k:uj)(U:aG.D):Option (Bool×Unit) :=(eG (U.1,1,22,())).bind fun v1 =>cond v1.1 (cond (decide ((U.2.1.length:Int)≤60)) (cond (decide ((U.2.2.1.length:Int)≤60)) (cond (decide ((U.2.2.2.2.2.1.length:Int)≤64)) ((eG (U.2.2.2.1,(-1000000),1000000,())).bind fun v2 =>cond v2.1 ((eG (U.2.2.2.2.1,(-1000000),1000000,())).bind fun v3 =>some (v3.1,())) (some (false,()))) (some (false,()))) (some (false,()))) (some (false,()))) (some (false,()))
def Kb(k:uj):uj:=⟨Rw k,Rx k⟩
def DJ:Nat→uj:=eF Kb ⟨fun _ _ _=>none,fun _=>none⟩
def Kc(x:aG.D×Unit):Option (Bool×Unit):=DI (DJ aP) x.1
abbrev wE:Type:=(List I.D)→Int→Int→af.D→af.D→Option (af.D×Unit)
def DK(k3:wE)(a1:af.D):Option (af.D×Unit) :=k3 a1.2.1 (a1.2.1.length:Int) 0 (0,([]:List I.D),()) (a1.1,([]:List I.D),())
def Ry(k3:wE)(U:List I.D)(aa:Int)(ae:Int)(ai:af.D)(ar:af.D)(v3:List I.D):Option (af.D×Unit) :=k3 U aa (aH (ae+1)) ai (ar.1,v3,())
def Rz(k3:wE)(ar:af.D)(U:List I.D)(v1:Nat)(aa:Int)(ae:Int)(ai:af.D)(v2:List aw.D):Option (af.D×Unit) :=cond (room (ar.2.1.length+[((J I U v1).1,(J I U v1).2.1,(J I U v1).2.2.1,(J I U v1).2.2.2.1,(J I U v1).2.2.2.2.1,(J I U v1).2.2.2.2.2.1,v2,(J I U v1).2.2.2.2.2.2.2.1,(J I U v1).2.2.2.2.2.2.2.2.1,())].length)) (Ry k3 U aa ae ai ar (ar.2.1++[((J I U v1).1,(J I U v1).2.1,(J I U v1).2.2.1,(J I U v1).2.2.2.1,(J I U v1).2.2.2.2.1,(J I U v1).2.2.2.2.2.1,v2,(J I U v1).2.2.2.2.2.2.2.1,(J I U v1).2.2.2.2.2.2.2.2.1,())])) (none)
def DL(k3:wE)(U:List I.D)(aa:Int)(ae:Int)(ai:af.D)(ar:af.D):Option (af.D×Unit) :=cond (decide (ae<aa)) ((aN U.length ae).bind fun v1 =>cond (room (([]:List aw.D).length +((J I U v1).2.2.2.2.2.2.1).length)) (Rz k3 ar U v1 aa ae ai (([]:List aw.D)++((J I U v1).2.2.2.2.2.2.1))) (none)) (some (ar,()))
def uk:Nat→wE | 0,_,_,_,_,_=>none | m+1,U,aa,ae,ai,ar=>DL (uk m) U aa ae ai ar
def rT(x:af.D×Unit):Option (af.D×Unit):=DK (uk aP) x.1
def Kd(a1:List UInt8):Option (Bool×Unit) :=(wy (a1,())).bind fun v1 =>cond v1.1 ((aN a1.length 0).bind fun v2 =>some (((a1.getD v2 0).toNat:Int)==47,())) (some (false,()))
def Ke(x:(List UInt8)×Unit):Option (Bool×Unit):=Kd x.1
structure um where
 k2:Int→(List I.D)→Int→Int→Option (Int×Unit)
 bs:Int→(List I.D)→Int→Int→(List aw.D)→Int→Int→I.D→Option (Int×Unit)
def DM(k:um)(a1:af.D)(a2:Int):Option (Int×Unit) :=k.k2 a2 a1.2.1 (a1.2.1.length:Int) 0
def uo(k:um)(U:Int)(aa:List I.D)(ae:Int)(ai:Int):Option (Int×Unit) :=cond (decide (ai<ae)) ((aN aa.length ai).bind fun v1 =>k.bs U aa ae ai ((J I aa v1).2.2.2.2.2.2.1) (((J I aa v1).2.2.2.2.2.2.1).length:Int) 0 (J I aa v1)) (some (1,()))
def uq(k:um)(U:Int)(aa:List I.D)(ae:Int)(ai:Int)(ar:List aw.D)(aE:Int)(bn:Int)(bT:I.D):Option (Int×Unit) :=cond (decide (bn<aE)) ((aN ar.length bn).bind fun v1 =>cond ((J aw ar v1).2.1==U) (some (bT.1,())) (k.bs U aa ae ai ar aE (aH (bn+1)) bT)) (k.k2 U aa ae (aH (ai+1)))
def RA(k:um):um:=⟨uo k,uq k⟩
def kg:Nat→um:=eF RA ⟨fun _ _ _ _=>none,fun _ _ _ _ _ _ _ _=>none⟩
def DN(x:af.D×Int×Unit):Option (Int×Unit):=DM (kg aP) x.1 x.2.1
def Kf(a1:aJ.D)(a2:Int):Option (Bool×Unit) :=(wD (a1,())).bind fun v1 =>cond v1.1 (cond (a2==a1.2.1) (some (true,())) ((rR (a1.2.2.1,a2,())).bind fun v2 =>some (v2.1,()))) (some (false,()))
def ur(x:aJ.D×Int×Unit):Option (Bool×Unit):=Kf x.1 x.2.1
def Kg(a1:aJ.D)(a2:I.D)(a3:Int):Option (Bool×Unit) :=(wD (a1,())).bind fun v1 =>cond (!v1.1) (some (false,())) ((eG (a3,0,7,())).bind fun v2 =>cond (!v2.1) (some (false,())) (cond (a1.1==0) (cond (a2.2.1 != 1) (some (true,())) (cond (cN .and .i64 a2.2.2.1 73 != 0) (some (true,())) (some (cN .and .i64 a3 1==0,())))) (cond (a1.1==a2.2.2.2.1) (some (cN .and .i64 (cN .and .i64 (Int.fdiv a2.2.2.1 (2 ^ min (Int.toNat 6) 64)) 7) a3==a3,())) ((ur (a1,a2.2.2.2.2.1,())).bind fun v3 =>cond v3.1 (some (cN .and .i64 (cN .and .i64 (Int.fdiv a2.2.2.1 (2 ^ min (Int.toNat 3) 64)) 7) a3==a3,())) (some (cN .and .i64 (cN .and .i64 a2.2.2.1 7) a3==a3,()))))))
def pa(x:aJ.D×I.D×Int×Unit):Option (Bool×Unit):=Kg x.1 x.2.1 x.2.2.1
abbrev DO:Type:=(List UInt8)→(List aw.D)→Int→Int→Option (Int×Unit)
def DP(k2:DO)(a1:I.D)(a2:List UInt8):Option (Int×Unit) :=k2 a2 a1.2.2.2.2.2.2.1 (a1.2.2.2.2.2.2.1.length:Int) 0
def DQ(k2:DO)(U:List UInt8)(aa:List aw.D)(ae:Int)(ai:Int):Option (Int×Unit) :=cond (decide (ai<ae)) ((aN aa.length ai).bind fun v1 =>cond (bu ((J aw aa v1).1) U) (some ((J aw aa v1).2.1,())) (k2 U aa ae (aH (ai+1)))) (some (0,()))
def rU:Nat→DO | 0,_,_,_,_=>none | m+1,U,aa,ae,ai=>DQ (rU m) U aa ae ai
def DR(x:I.D×(List UInt8)×Unit):Option (Int×Unit):=DP (rU aP) x.1 x.2.1
def RB(_:(List UInt8)×Int×Unit):Option ((List (List UInt8))×Unit):=none
def RC(x:(List UInt8)×Int×Unit):Option (Int×Unit):=some (Lib.indexByte x.1 x.2.1.toNat.toUInt8,())
def aaQ(a1:List UInt8)(a2:Int):Option (Int×Unit) :=(RC (a1,a2,())).bind fun v1 =>some (v1.1,())
def RD(x:(List UInt8)×Int×Unit):Option (Int×Unit):=aaQ x.1 x.2.1
def Kh(a1:List UInt8)(a2:List UInt8):Option (Int×Unit) :=cond ((a2.length:Int)==0) (some (0,())) (cond (bu a2 a1) (some (0,())) (cond ((a2.length:Int)==1) ((aN a2.length 0).bind fun v1 =>(RD (a1,((a2.getD v1 0).toNat:Int),())).bind fun v2 =>some (v2.1,())) (cond (decide ((a2.length:Int)≥(a1.length:Int))) (some ((-1),())) (none))))
def RE(x:(List UInt8)×(List UInt8)×Unit):Option (Int×Unit):=Kh x.1 x.2.1
def Ki(a1:List UInt8)(a2:List UInt8):Option (Int×Unit) :=(RE (a1,a2,())).bind fun v1 =>some (v1.1,())
def DS(x:(List UInt8)×(List UInt8)×Unit):Option (Int×Unit):=Ki x.1 x.2.1
def RF(_:(List UInt8)×Unit):Option (Int×Unit):=none
def RG(x:(List UInt8)×Int×Unit):Option (Int×Unit):=some ((Lib.countByte x.1 x.2.1.toNat.toUInt8:Int),())
abbrev DT:Type:=(List UInt8)→(List UInt8)→Int→Option (Int×Unit)
def DU(c_:DT)(a1:List UInt8)(a2:List UInt8):Option (Int×Unit) :=cond ((a2.length:Int)==0) ((RF (a1,())).bind fun v1 =>some (aH (v1.1+1),())) (cond ((a2.length:Int)==1) ((aN a2.length 0).bind fun v2 =>(RG (a1,((a2.getD v2 0).toNat:Int),())).bind fun v3 =>some (v3.1,())) (c_ a1 a2 0))
def RH(c_:DT)(U:List UInt8)(aa:List UInt8)(ae:Int):Option (Int×Unit) :=(DS (U,aa,())).bind fun v1 =>cond (v1.1 ==(-1)) (some (ae,())) ((dZ U.length (aH (v1.1 +(aa.length:Int))) (U.length:Int)).bind fun v2 =>c_ (part U v2.1 (v2.2-v2.1)) aa (aH (ae+1)))
def DV:Nat→DT | 0,_,_,_=>none | m+1,U,aa,ae=>RH (DV m) U aa ae
def Kj(x:(List UInt8)×(List UInt8)×Unit):Option (Int×Unit):=DU (DV aP) x.1 x.2.1
abbrev pb:Type:=(List (List UInt8))×Unit
structure qn where
 dh:(List UInt8)→(List UInt8)→Int→Int→Option (pb)
 cZ:(List UInt8)→(List UInt8)→Int→Int→Int→(List (List UInt8))→Option (pb)
 mc:(List UInt8)→Int→(List (List UInt8))→Option (pb)
def DW(k:qn)(a1:List UInt8)(a2:List UInt8)(a3:Int)(a4:Int):Option (pb) :=cond (a4==0) (some (([]:List (List UInt8)),())) (cond (bu a2 ([]:List UInt8)) ((RB (a1,a4,())).bind fun v1 =>some (v1.1,())) (cond (decide (a4<0)) ((Kj (a1,a2,())).bind fun v2 =>k.dh a1 a2 a3 (aH (v2.1+1))) (k.dh a1 a2 a3 a4)))
def Kk(k:qn)(U:List UInt8)(aa:List UInt8)(ae:Int)(ai:Int):Option (pb) :=cond (decide (0≤jk ai (aH ((U.length:Int)+1)))&&decide (jk ai (aH ((U.length:Int)+1))=jk ai (aH ((U.length:Int)+1)))&&room (Int.toNat (jk ai (aH ((U.length:Int)+1))))) (k.cZ U aa ae (aH (jk ai (aH ((U.length:Int)+1))-1)) 0 (List.replicate (Int.toNat (jk ai (aH ((U.length:Int)+1)))) (([]:List UInt8):List UInt8))) (none)
def RI(k:qn)(U:List UInt8)(v1:Int×Unit)(aa:List UInt8)(ae:Int)(ai:Int)(ar:Int)(v4:List (List UInt8)):Option (pb) :=(dZ U.length (aH (v1.1 +(aa.length:Int))) (U.length:Int)).bind fun v5 =>k.cZ (part U v5.1 (v5.2-v5.1)) aa ae ai (aH (ar+1)) v4
def y4(k:qn)(U:List UInt8)(aa:List UInt8)(ae:Int)(ai:Int)(ar:Int)(aE:List (List UInt8)):Option (pb) :=cond (decide (ar<ai)) ((DS (U,aa,())).bind fun v1 =>cond (decide (v1.1<0)) (k.mc U ar aE) ((dZ U.length 0 (aH (v1.1+ae))).bind fun v2 =>(aN aE.length ar).bind fun v3 =>RI k U v1 aa ae ai ar (aE.set (0+v3) (part U v2.1 (v2.2-v2.1))))) (k.mc U ar aE)
def Kl(k:qn)(U:List UInt8)(aa:Int)(ae:List (List UInt8)):Option (pb) :=(aN ae.length aa).bind fun v1 =>(dZ ((ae.set (0+v1) U).length) 0 (aH (aa+1))).bind fun v2 =>some (part (ae.set (0+v1) U) (0+v2.1) (v2.2-v2.1),())
def RJ(k:qn):qn:=⟨Kk k,y4 k,Kl k⟩
def qo:Nat→qn:=eF RJ ⟨fun _ _ _ _=>none,fun _ _ _ _ _ _=>none,fun _ _ _=>none⟩
def Km(x:(List UInt8)×(List UInt8)×Int×Int×Unit):Option (pb):=DW (qo aP) x.1 x.2.1 x.2.2.1 x.2.2.2.1
abbrev RK:Type:=(List (List UInt8))×Unit
def Kn(a1:List UInt8)(a2:List UInt8):Option (RK) :=(Km (a1,a2,0,(-1),())).bind fun v1 =>some (v1.1,())
def Ko(x:(List UInt8)×(List UInt8)×Unit):Option (RK):=Kn x.1 x.2.1
abbrev y5:Type:=(List (List UInt8))×Unit
abbrev DX:Type:=Int→Int→(List (List UInt8))→(List (List UInt8))→Option (y5)
def DY(k3:DX)(a1:List UInt8):Option (y5) :=(Ko (a1,([47]:List UInt8),())).bind fun v1 =>k3 (v1.1.length:Int) 0 ([]:List (List UInt8)) v1.1
def DZ(k3:DX)(U:Int)(aa:Int)(ae:List (List UInt8))(ai:List (List UInt8)):Option (y5) :=cond (decide (aa<U)) ((aN ai.length aa).bind fun v1 =>cond (!(bu (J ad.str ai (0+v1)) ([]:List UInt8))) (cond (room (ae.length+[J ad.str ai (0+v1)].length)) (k3 U (aH (aa+1)) (ae++[J ad.str ai (0+v1)]) ai) (none)) (k3 U (aH (aa+1)) ae ai)) (some (ae,()))
def rV:Nat→DX | 0,_,_,_,_=>none | m+1,U,aa,ae,ai=>DZ (rV m) U aa ae ai
def rW(x:(List UInt8)×Unit):Option (y5):=DY (rV aP) x.1
abbrev rX:Type:=af.D→Bool→Nat→Nat→Int→Int→aJ.D→aW.D→(List (List UInt8))→Option (aW.D×Unit)
def D0(k3:rX)(a1:af.D)(a2:aJ.D)(a3:List UInt8)(a4:Bool):Option (aW.D×Unit) :=(rW (a3,())).bind fun v1 =>k3 a1 a4 0 v1.1.length 1 0 a2 (0,([]:List UInt8),0,0,()) v1.1
def RL(k3:rX)(U:af.D)(aa:Bool)(aE:Int)(bn:aJ.D)(bT:aW.D)(v10:List (List UInt8)):Option (aW.D×Unit) :=cond (decide ((v10.length:Int)>40)) (some ((0,([]:List UInt8),0,36,()),())) (k3 U aa 0 v10.length 1 (aH (aE+1)) bn bT v10)
def RM(k3:rX)(U:af.D)(aa:Bool)(ar:Int)(aE:Int)(bn:aJ.D)(bT:aW.D)(v12:List (List UInt8)):Option (aW.D×Unit) :=cond (decide ((v12.length:Int)>40)) (some ((0,([]:List UInt8),0,36,()),())) (k3 U aa 0 v12.length ar (aH (aE+1)) bn bT v12)
def RN(k3:rX)(U:af.D)(aa:Bool)(aE:Int)(bn:aJ.D)(bT:aW.D)(gY:List (List UInt8)):Option (aW.D×Unit) :=cond (decide ((gY.length:Int)>40)) (some ((0,([]:List UInt8),0,36,()),())) (k3 U aa 0 gY.length 1 (aH (aE+1)) bn bT gY)
def RO(k3:rX)(U:af.D)(aa:Bool)(ar:Int)(aE:Int)(bn:aJ.D)(bT:aW.D)(m5:List (List UInt8)):Option (aW.D×Unit) :=cond (decide ((m5.length:Int)>40)) (some ((0,([]:List UInt8),0,36,()),())) (k3 U aa 0 m5.length ar (aH (aE+1)) bn bT m5)
def ly(k3:rX)(U:af.D)(aa:Bool)(ae:Nat)(ai:Nat)(ar:Int)(aE:Int)(bn:aJ.D)(bT:aW.D)(cA:List (List UInt8)):Option (aW.D×Unit) :=cond (decide ((ai:Int)>0)) ((aN ai 0).bind fun v1 =>(dZ ai 1 (ai:Int)).bind fun v2 =>(fl (U,ar,())).bind fun v3 =>cond (!List.isEmpty v3.1) ((pa (bn,J I v3.1 0,1,())).bind fun v4 =>cond (!v4.1) (some ((0,([]:List UInt8),0,13,()),())) (cond (bu (J ad.str cA (ae+v1)) ([46]:List UInt8)) (k3 U aa (ae+v2.1) (v2.2-v2.1) ar aE bn bT cA) (cond (bu (J ad.str cA (ae+v1)) ([46,46]:List UInt8)) ((DN (U,ar,())).bind fun v5 =>k3 U aa (ae+v2.1) (v2.2-v2.1) v5.1 aE bn bT cA) (cond (decide (((J ad.str cA (ae+v1)).length:Int)>8)) (some ((0,([]:List UInt8),0,36,()),())) (cond (!List.isEmpty v3.1) ((DR (J I v3.1 0,J ad.str cA (ae+v1),())).bind fun v6 =>cond (v6.1==0) (cond ((((v2.2-v2.1):Nat):Int)==0) (some ((ar,J ad.str cA (ae+v1),0,2,()),())) (some ((0,([]:List UInt8),0,2,()),()))) ((fl (U,v6.1,())).bind fun bt =>cond (!List.isEmpty bt.1) (cond ((J I bt.1 0).2.1==3) (cond (!((((v2.2-v2.1):Nat):Int)==0)) (cond (aE==8) (some ((0,([]:List UInt8),0,40,()),())) (cond (!List.isEmpty bt.1) ((aN (((J I bt.1 0).2.2.2.2.2.1).length) 0).bind fun dw =>cond (((((J I bt.1 0).2.2.2.2.2.1).getD dw 0).toNat:Int)==47) (cond (!List.isEmpty bt.1) ((rW ((J I bt.1 0).2.2.2.2.2.1,())).bind fun v9 =>cond (room (v9.1.length +(part cA (ae+v2.1) (v2.2-v2.1)).length)) (RL k3 U aa aE bn bT (v9.1++(part cA (ae+v2.1) (v2.2-v2.1)))) (none)) (none)) (cond (!List.isEmpty bt.1) ((rW ((J I bt.1 0).2.2.2.2.2.1,())).bind fun v11 =>cond (room (v11.1.length +(part cA (ae+v2.1) (v2.2-v2.1)).length)) (RM k3 U aa ar aE bn bT (v11.1++(part cA (ae+v2.1) (v2.2-v2.1)))) (none)) (none))) (none))) (cond aa (cond (aE==8) (some ((0,([]:List UInt8),0,40,()),())) (cond (!List.isEmpty bt.1) ((aN (((J I bt.1 0).2.2.2.2.2.1).length) 0).bind fun jx =>cond (((((J I bt.1 0).2.2.2.2.2.1).getD jx 0).toNat:Int)==47) (cond (!List.isEmpty bt.1) ((rW ((J I bt.1 0).2.2.2.2.2.1,())).bind fun mb =>cond (room (mb.1.length +(part cA (ae+v2.1) (v2.2-v2.1)).length)) (RN k3 U aa aE bn bT (mb.1++(part cA (ae+v2.1) (v2.2-v2.1)))) (none)) (none)) (cond (!List.isEmpty bt.1) ((rW ((J I bt.1 0).2.2.2.2.2.1,())).bind fun n_ =>cond (room (n_.1.length +(part cA (ae+v2.1) (v2.2-v2.1)).length)) (RO k3 U aa ar aE bn bT (n_.1++(part cA (ae+v2.1) (v2.2-v2.1)))) (none)) (none))) (none))) (cond ((((v2.2-v2.1):Nat):Int)==0) (some ((ar,J ad.str cA (ae+v1),v6.1,0,()),())) (cond (!List.isEmpty bt.1) (cond ((J I bt.1 0).2.1 != 2) (some ((0,([]:List UInt8),0,20,()),())) (k3 U aa (ae+v2.1) (v2.2-v2.1) v6.1 aE bn bT cA)) (none))))) (cond ((((v2.2-v2.1):Nat):Int)==0) (some ((ar,J ad.str cA (ae+v1),v6.1,0,()),())) (cond (!List.isEmpty bt.1) (cond ((J I bt.1 0).2.1 != 2) (some ((0,([]:List UInt8),0,20,()),())) (k3 U aa (ae+v2.1) (v2.2-v2.1) v6.1 aE bn bT cA)) (none)))) (none))) (none)))))) (none)) (some ((0,([]:List UInt8),ar,0,()),()))
def fZ:Nat→rX | 0,_,_,_,_,_,_,_,_,_=>none | m+1,U,aa,ae,ai,ar,aE,bn,bT,cA=>ly (fZ m) U aa ae ai ar aE bn bT cA
def Kp(x:af.D×aJ.D×(List UInt8)×Bool×Unit):Option (aW.D×Unit):=D0 (fZ aP) x.1 x.2.1 x.2.2.1 x.2.2.2.1
def qp(a1:aI.D)(a2:List UInt8)(a3:Bool):Option (aW.D×Unit) :=(Ke (a2,())).bind fun v1 =>cond (!v1.1) (some ((0,([]:List UInt8),0,22,()),())) ((Kp (a1.1,a1.2.1,a2,a3,())).bind fun v2 =>some (v2.1,()))
def kF(x:aI.D×(List UInt8)×Bool×Unit):Option (aW.D×Unit):=qp x.1 x.2.1 x.2.2.1
def y6(a1:aI.D)(a2:List UInt8):Option (aW.D×Int×Unit) :=(kF (a1,a2,false,())).bind fun v1 =>cond (v1.1.2.2.2.1==2) (cond (!(bu v1.1.2.1 ([]:List UInt8))) (some (v1.1,0,())) (cond (v1.1.2.2.2.1==0) (some (v1.1,17,())) (some (v1.1,v1.1.2.2.2.1,())))) (cond (v1.1.2.2.2.1==0) (some (v1.1,17,())) (some (v1.1,v1.1.2.2.2.1,())))
def uu(x:aI.D×(List UInt8)×Unit):Option (aW.D×Int×Unit):=y6 x.1 x.2.1
def Kq(a1:aI.D)(a2:Int):Option (Bool×Unit) :=(fl (a1.1,a2,())).bind fun v1 =>cond (!List.isEmpty v1.1) ((pa (a1.2.1,J I v1.1 0,3,())).bind fun v2 =>some (v2.1,())) (none)
def m9(x:aI.D×Int×Unit):Option (Bool×Unit):=Kq x.1 x.2.1
def RP(x:(List aw.D)×Int×(List aw.D)×Unit):Option ((List aw.D)×Unit):=insF x.1 x.2.1 x.2.2.1
structure uv where
 k2:(List UInt8)→Int→Int→Int→aI.D→Option (aI.D×Unit)
 bf:(List UInt8)→Int→Int→Int→aI.D→Option (aI.D×Unit)
def D1(k:uv)(a1:aI.D)(a2:Int)(a3:List UInt8)(a4:Int):Option (aI.D×Unit) :=(wz (a1.1,a2,())).bind fun v1 =>k.k2 a3 a4 v1.1 0 (v1.2.1,a1.2.1,a1.2.2.1,())
def y7(k:uv)(U:List UInt8)(aa:Int)(ae:Int)(ai:Int)(ar:aI.D):Option (aI.D×Unit) :=(aN ar.1.2.1.length ae).bind fun v1 =>cond (decide (ai<(((J I ar.1.2.1 v1).2.2.2.2.2.2.1).length:Int))) ((aN ar.1.2.1.length ae).bind fun v2 =>(aN (((J I ar.1.2.1 v2).2.2.2.2.2.2.1).length) ai).bind fun v3 =>cond (dr ((J aw ((J I ar.1.2.1 v2).2.2.2.2.2.2.1) v3).1) U) (k.k2 U aa ae (aH (ai+1)) ar) (k.bf U aa ae ai ar)) (k.bf U aa ae ai ar)
def aaR(ar:aI.D)(v4:List I.D):Option (aI.D×Unit) :=some (((ar.1.1,v4,()),ar.2.1,ar.2.2.1,()),())
def Kr(k:uv)(U:List UInt8)(aa:Int)(ae:Int)(ai:Int)(ar:aI.D):Option (aI.D×Unit) :=(aN ar.1.2.1.length ae).bind fun v1 =>(aN ar.1.2.1.length ae).bind fun v2 =>cond (Nat.beq v2 v1) ((RP ((J I ar.1.2.1 v1).2.2.2.2.2.2.1,ai,[(U,aa,())],())).bind fun v3 =>aaR ar (ar.1.2.1.set v1 ((J I ar.1.2.1 v1).1,(J I ar.1.2.1 v1).2.1,(J I ar.1.2.1 v1).2.2.1,(J I ar.1.2.1 v1).2.2.2.1,(J I ar.1.2.1 v1).2.2.2.2.1,(J I ar.1.2.1 v1).2.2.2.2.2.1,v3.1,(J I ar.1.2.1 v1).2.2.2.2.2.2.2.1,(J I ar.1.2.1 v1).2.2.2.2.2.2.2.2.1,()))) (none)
def RQ(k:uv):uv:=⟨y7 k,Kr k⟩
def rY:Nat→uv:=eF RQ ⟨fun _ _ _ _ _=>none,fun _ _ _ _ _=>none⟩
def rZ(x:aI.D×Int×(List UInt8)×Int×Unit):Option (aI.D×Unit):=D1 (rY aP) x.1 x.2.1 x.2.2.1 x.2.2.2.1
def Ks(a1:aI.D):Option (Int×Unit) :=(rS (a1.1,())).bind fun v1 =>cond (decide (v1.1>400)) (some (28,())) ((y3 (a1.1.2.1,a1.1,())).bind fun v2 =>cond v2.1 (some (122,())) (some (0,())))
def na(x:aI.D×Unit):Option (Int×Unit):=Ks x.1
structure uw where
 bf:aI.D→aG.D→Option (Int×aI.D×Unit)
 gV:aI.D→aW.D→I.D→Option (Int×aI.D×Unit)
def D2(k:uw)(a1:aI.D):Option (Int×aI.D×Unit) :=cond (a1.2.2.1.1==10) ((wy (a1.2.2.1.2.2.1,())).bind fun v1 =>cond (!v1.1) (some (22,a1,())) (cond (a1.2.2.1.1 != 10) ((eG (a1.2.2.1.2.2.2.1,0,2047,())).bind fun v2 =>cond (!v2.1) (some (22,a1,())) (k.bf a1 a1.2.2.1)) (k.bf a1 a1.2.2.1))) (cond (a1.2.2.1.1 != 10) ((eG (a1.2.2.1.2.2.2.1,0,2047,())).bind fun v3 =>cond (!v3.1) (some (22,a1,())) (k.bf a1 a1.2.2.1)) (k.bf a1 a1.2.2.1))
def Kt(k:uw)(U:aI.D)(aa:aG.D):Option (Int×aI.D×Unit) :=(uu (U,aa.2.1,())).bind fun v1 =>cond (v1.2.1 != 0) (some (v1.2.1,U,())) ((m9 (U,v1.1.1,())).bind fun v2 =>cond (!v2.1) (some (13,U,())) ((fl (U.1,v1.1.1,())).bind fun v3 =>cond (!List.isEmpty v3.1) (cond ((((J I v3.1 0).2.2.2.2.2.2.1).length:Int)==12) (some (28,U,())) (cond ((U.1.2.1.length:Int)==24) (some (28,U,())) (cond (U.1.1==100000) (some (28,U,())) (cond (!List.isEmpty v3.1) (cond (cN .and .i64 ((J I v3.1 0).2.2.1) 1024 != 0) (cond (!List.isEmpty v3.1) (cond (aa.1==1) (cond (!List.isEmpty v3.1) (k.gV U v1.1 (U.1.1,2,cN .or .i64 aa.2.2.2.1 (cN .and .i64 ((J I v3.1 0).2.2.1) 1024),U.2.1.1,(J I v3.1 0).2.2.2.2.1,([]:List UInt8),([]:List aw.D),0,0,())) (none)) (cond (aa.1==10) (k.gV U v1.1 (U.1.1,3,511,U.2.1.1,(J I v3.1 0).2.2.2.2.1,aa.2.2.1,([]:List aw.D),0,0,())) (k.gV U v1.1 (U.1.1,1,aa.2.2.2.1,U.2.1.1,(J I v3.1 0).2.2.2.2.1,([]:List UInt8),([]:List aw.D),0,0,())))) (none)) (cond (aa.1==1) (cond (!List.isEmpty v3.1) (k.gV U v1.1 (U.1.1,2,cN .or .i64 aa.2.2.2.1 (cN .and .i64 ((J I v3.1 0).2.2.1) 1024),U.2.1.1,U.2.1.2.1,([]:List UInt8),([]:List aw.D),0,0,())) (none)) (cond (aa.1==10) (k.gV U v1.1 (U.1.1,3,511,U.2.1.1,U.2.1.2.1,aa.2.2.1,([]:List aw.D),0,0,())) (k.gV U v1.1 (U.1.1,1,aa.2.2.2.1,U.2.1.1,U.2.1.2.1,([]:List UInt8),([]:List aw.D),0,0,()))))) (none))))) (none)))
def Ku(k:uw)(U:aI.D)(aa:aW.D)(ae:I.D):Option (Int×aI.D×Unit) :=(rZ (((aH (U.1.1+1),U.1.2.1,()),U.2.1,U.2.2.1,()),aa.1,aa.2.1,ae.1,())).bind fun v1 =>cond (room (v1.1.1.2.1.length+[ae].length)) ((na (((v1.1.1.1,v1.1.1.2.1++[ae],()),v1.1.2.1,v1.1.2.2.1,()),())).bind fun v2 =>some (v2.1,((v1.1.1.1,v1.1.1.2.1++[ae],()),v1.1.2.1,v1.1.2.2.1,()),())) (none)
def RR(k:uw):uw:=⟨Kt k,Ku k⟩
def kG:Nat→uw:=eF RR ⟨fun _ _=>none,fun _ _ _=>none⟩
def y8(x:aI.D×Unit):Option (Int×aI.D×Unit):=D2 (kG aP) x.1
def Kv(a1:aJ.D)(a2:I.D)(a3:I.D):Option (Bool×Unit) :=(wD (a1,())).bind fun v1 =>cond v1.1 (cond (cN .and .i64 a2.2.2.1 512==0) (some (true,())) (cond (a1.1==0) (some (true,())) (cond (a1.1==a2.2.2.2.1) (some (true,())) (some (a1.1==a3.2.2.2.1,()))))) (some (false,()))
def r0(x:aJ.D×I.D×I.D×Unit):Option (Bool×Unit):=Kv x.1 x.2.1 x.2.2.1
def aaS(a1:aw.D)(a2:List UInt8):Option (Bool×Unit) :=some (bu a1.1 a2,())
def D3(x:aw.D×(List UInt8)×Unit):Option (Bool×Unit):=aaS x.1 x.2.1
abbrev D4:Type:=(List aw.D)→(List UInt8)→Int→Int→Option (Int×Unit)
def RS(k2:D4)(a1:List aw.D)(a2:List UInt8):Option (Int×Unit) :=k2 a1 a2 (a1.length:Int) 0
def D5(k2:D4)(U:List aw.D)(aa:List UInt8)(ae:Int)(ai:Int):Option (Int×Unit) :=cond (decide (ai<ae)) ((aN U.length ai).bind fun v1 =>(D3 (J aw U v1,aa,())).bind fun v2 =>cond v2.1 (some (ai,())) (k2 U aa ae (aH (ai+1)))) (some ((-1),()))
def wF:Nat→D4 | 0,_,_,_,_=>none | m+1,U,aa,ae,ai=>D5 (wF m) U aa ae ai
def Kw(x:(List aw.D)×(List UInt8)×Unit):Option (Int×Unit):=RS (wF aP) x.1 x.2.1
abbrev wG:Type:=(List aw.D)×Unit
abbrev D6:Type:=(List UInt8)→Int→Int→(List aw.D)→Option (wG)
def D7(bs:D6)(a1:List aw.D)(a2:List UInt8):Option (wG) :=(Kw (a1,a2,())).bind fun v1 =>cond (v1.1 ==(-1)) (some (a1,())) (bs a2 v1.1 (aH (v1.1+1)) a1)
def RT(aa:Int)(v5:List aw.D):Option (wG) :=(dZ v5.length 0 aa).bind fun v6 =>some (part v5 (0+v6.1) (v6.2-v6.1),())
def D8(bs:D6)(U:List UInt8)(aa:Int)(ae:Int)(ai:List aw.D):Option (wG) :=cond (decide (ae<(ai.length:Int))) ((aN ai.length ae).bind fun v1 =>(D3 (J aw ai (0+v1),U,())).bind fun v2 =>cond (!v2.1) ((aN ai.length aa).bind fun v3 =>bs U (aH (aa+1)) (aH (ae+1)) (ai.set (0+v3) (J aw ai (0+v1)))) (bs U aa (aH (ae+1)) ai)) ((dZ ai.length aa (ai.length:Int)).bind fun v4 =>RT aa (ai.take (0+v4.1)++List.replicate (v4.2-v4.1) ((([]:List UInt8),0,()):aw.D)++ai.drop ((0+v4.1) +(v4.2-v4.1))))
def wH:Nat→D6 | 0,_,_,_,_=>none | m+1,U,aa,ae,ai=>D8 (wH m) U aa ae ai
def D9(x:(List aw.D)×(List UInt8)×Unit):Option (wG):=D7 (wH aP) x.1 x.2.1
def RU(x:(List I.D)×Int×Unit):Option ((List I.D)×Unit):=cond (room x.1.length) (some (x.1.filter (fun y => !(y.1==x.2.1)),())) none
def Kx(a4:Bool)(v1:Int×af.D×Unit)(v3:Int×Unit)(a1:aI.D)(bt:List I.D):Option (aI.D×Unit) :=cond a4 ((wA ((v1.2.1.1,bt,()),v3.1,())).bind fun dw =>cond (dw.1==0) ((RU (bt,v3.1,())).bind fun v9 =>some (((v1.2.1.1,v9.1,()),a1.2.1,a1.2.2.1,()),())) (some (((v1.2.1.1,bt,()),a1.2.1,a1.2.2.1,()),()))) (some (((v1.2.1.1,bt,()),a1.2.1,a1.2.2.1,()),()))
def Ky(a1:aI.D)(a2:Int)(a3:List UInt8)(a4:Bool):Option (aI.D×Unit) :=(wz (a1.1,a2,())).bind fun v1 =>(aN v1.2.1.2.1.length v1.1).bind fun v2 =>(DR (J I v1.2.1.2.1 v2,a3,())).bind fun v3 =>(aN v1.2.1.2.1.length v1.1).bind fun v4 =>(aN v1.2.1.2.1.length v1.1).bind fun v5 =>cond (Nat.beq v5 v4) ((D9 ((J I v1.2.1.2.1 v4).2.2.2.2.2.2.1,a3,())).bind fun v6 =>Kx a4 v1 v3 a1 (v1.2.1.2.1.set v4 ((J I v1.2.1.2.1 v4).1,(J I v1.2.1.2.1 v4).2.1,(J I v1.2.1.2.1 v4).2.2.1,(J I v1.2.1.2.1 v4).2.2.2.1,(J I v1.2.1.2.1 v4).2.2.2.2.1,(J I v1.2.1.2.1 v4).2.2.2.2.2.1,v6.1,(J I v1.2.1.2.1 v4).2.2.2.2.2.2.2.1,(J I v1.2.1.2.1 v4).2.2.2.2.2.2.2.2.1,()))) (none)
def oc(x:aI.D×Int×(List UInt8)×Bool×Unit):Option (aI.D×Unit):=Ky x.1 x.2.1 x.2.2.1 x.2.2.2.1
structure qq where
 bs:aI.D→aW.D→I.D→Option (Int×aI.D×Unit)
 dh:aI.D→aW.D→I.D→Option (Int×aI.D×Unit)
 gG:aI.D→aW.D→I.D→Option (Int×aI.D×Unit)
 cZ:aI.D→aW.D→I.D→Option (Int×aI.D×Unit)
def D_(k:qq)(a1:aI.D):Option (Int×aI.D×Unit) :=(kF (a1,a1.2.2.1.2.1,false,())).bind fun v1 =>cond (v1.1.2.2.2.1 != 0) (some (v1.1.2.2.2.1,a1,())) (dup ((fl (a1.1,v1.1.2.2.1,())).bind fun v2 =>cond (!List.isEmpty v2.1) (k.bs a1 v1.1 (J I v2.1 0)) (none)))
def Kz(k:qq)(U:aI.D)(aa:aW.D)(ae:I.D):Option (Int×aI.D×Unit) :=cond (U.2.2.1.1==2) (cond (bu aa.2.1 ([]:List UInt8)) (some (16,U,())) (k.dh U aa ae)) (k.dh U aa ae)
def KA(k:qq)(U:aI.D)(aa:aW.D)(ae:I.D):Option (Int×aI.D×Unit) :=cond (U.2.2.1.1==2) (cond (ae.2.1 != 2) (some (20,U,())) (k.gG U aa ae)) (k.gG U aa ae)
def KB(k:qq)(U:aI.D)(aa:aW.D)(ae:I.D):Option (Int×aI.D×Unit) :=cond (U.2.2.1.1==8) (cond (ae.2.1==2) (some (21,U,())) (k.cZ U aa ae)) (k.cZ U aa ae)
def KC(k:qq)(U:aI.D)(aa:aW.D)(ae:I.D):Option (Int×aI.D×Unit) :=(m9 (U,aa.1,())).bind fun v1 =>cond (!v1.1) (some (13,U,())) ((fl (U.1,aa.1,())).bind fun v2 =>cond (!List.isEmpty v2.1) ((r0 (U.2.1,J I v2.1 0,ae,())).bind fun v3 =>cond (!v3.1) (some (1,U,())) (cond (U.2.2.1.1==2) (cond (decide ((ae.2.2.2.2.2.2.1.length:Int)>0)) (some (39,U,())) ((oc (U,aa.1,aa.2.1,true,())).bind fun v4 =>some (0,v4.1,()))) ((oc (U,aa.1,aa.2.1,true,())).bind fun v5 =>some (0,v5.1,())))) (none))
def RV(k:qq):qq:=⟨Kz k,KA k,KB k,KC k⟩
def od:Nat→qq:=eF RV ⟨fun _ _ _=>none,fun _ _ _=>none,fun _ _ _=>none,fun _ _ _=>none⟩
def D'(x:aI.D×Unit):Option (Int×aI.D×Unit):=D_ (od aP) x.1
def KD(a1:af.D)(a2:Int):Option (Bool×Unit) :=(fl (a1,a2,())).bind fun v1 =>cond (!List.isEmpty v1.1) (cond (!List.isEmpty v1.1) (some ((J I v1.1 0).2.1==2,())) (none)) (some (false,()))
def ux(x:af.D×Int×Unit):Option (Bool×Unit):=KD x.1 x.2.1
def KE(a1:aI.D):Option (Int×aI.D×Unit) :=(kF (a1,a1.2.2.1.2.1,false,())).bind fun v1 =>cond (v1.1.2.2.2.1 != 0) (some (v1.1.2.2.2.1,a1,())) ((ux (a1.1,v1.1.2.2.1,())).bind fun v2 =>cond v2.1 (some (1,a1,())) ((uu (a1,a1.2.2.1.2.2.1,())).bind fun v3 =>cond (v3.2.1 != 0) (some (v3.2.1,a1,())) ((m9 (a1,v3.1.1,())).bind fun v4 =>cond (!v4.1) (some (13,a1,())) ((fl (a1.1,v3.1.1,())).bind fun v5 =>cond (!List.isEmpty v5.1) (cond ((((J I v5.1 0).2.2.2.2.2.2.1).length:Int)==12) (some (28,a1,())) ((rZ (a1,v3.1.1,v3.1.2.1,v1.1.2.2.1,())).bind fun v6 =>(na (v6.1,())).bind fun bt =>some (bt.1,v6.1,()))) (none)))))
def Ea(x:aI.D×Unit):Option (Int×aI.D×Unit):=KE x.1
def KF(a1:aI.D)(a2:I.D)(a3:aW.D):Option (Int×Unit) :=dup ((fl (a1.1,a3.2.2.1,())).bind fun v1 =>cond (!List.isEmpty v1.1) ((fl (a1.1,a3.1,())).bind fun v2 =>cond (!List.isEmpty v2.1) ((r0 (a1.2.1,J I v2.1 0,J I v1.1 0,())).bind fun v3 =>cond (!v3.1) (some (1,())) (cond (a2.2.1==2) (cond ((J I v1.1 0).2.1 != 2) (some (20,())) (cond (a2.2.1==2) (cond (decide ((((J I v1.1 0).2.2.2.2.2.2.1).length:Int)>0)) (some (39,())) (cond (a2.2.1 != 2) (cond ((J I v1.1 0).2.1==2) (some (21,())) (some (0,()))) (some (0,())))) (cond (a2.2.1 != 2) (cond ((J I v1.1 0).2.1==2) (some (21,())) (some (0,()))) (some (0,()))))) (cond (a2.2.1==2) (cond (decide ((((J I v1.1 0).2.2.2.2.2.2.1).length:Int)>0)) (some (39,())) (cond (a2.2.1 != 2) (cond ((J I v1.1 0).2.1==2) (some (21,())) (some (0,()))) (some (0,())))) (cond (a2.2.1 != 2) (cond ((J I v1.1 0).2.1==2) (some (21,())) (some (0,()))) (some (0,())))))) (none)) (none))
def Eb(x:aI.D×I.D×aW.D×Unit):Option (Int×Unit):=KF x.1 x.2.1 x.2.2.1
structure qs where
 dh:aI.D→aW.D→aW.D→Option (Int×aI.D×Unit)
 eX:aI.D→aW.D→aW.D→I.D→Option (Int×aI.D×Unit)
 l9:aI.D→aW.D→aW.D→I.D→Option (Int×aI.D×Unit)
 oe:aI.D→aW.D→aW.D→Option (Int×aI.D×Unit)
def Ec(k:qs)(a1:aI.D):Option (Int×aI.D×Unit) :=(kF (a1,a1.2.2.1.2.1,false,())).bind fun v1 =>cond (v1.1.2.2.2.1 != 0) (some (v1.1.2.2.2.1,a1,())) ((kF (a1,a1.2.2.1.2.2.1,false,())).bind fun v2 =>cond (v2.1.2.2.2.1 != 0) (cond (v2.1.2.2.2.1 != 2) (some (v2.1.2.2.2.1,a1,())) (cond (bu v2.1.2.1 ([]:List UInt8)) (some (v2.1.2.2.2.1,a1,())) (k.dh a1 v1.1 v2.1))) (k.dh a1 v1.1 v2.1))
def KG(k:qs)(U:aI.D)(aa:aW.D)(ae:aW.D):Option (Int×aI.D×Unit) :=cond (bu aa.2.1 ([]:List UInt8)) (some (16,U,())) (cond (bu ae.2.1 ([]:List UInt8)) (some (16,U,())) (dup ((fl (U.1,aa.2.2.1,())).bind fun v1 =>cond (!List.isEmpty v1.1) (k.eX U aa ae (J I v1.1 0)) (none))))
def KH(k:qs)(U:aI.D)(aa:aW.D)(ae:aW.D)(ai:I.D):Option (Int×aI.D×Unit) :=(m9 (U,aa.1,())).bind fun v1 =>cond (!v1.1) (some (13,U,())) ((m9 (U,ae.1,())).bind fun v2 =>cond (!v2.1) (some (13,U,())) ((fl (U.1,aa.1,())).bind fun v3 =>cond (!List.isEmpty v3.1) ((r0 (U.2.1,J I v3.1 0,ai,())).bind fun v4 =>cond (!v4.1) (some (1,U,())) (cond (ai.2.1==2) (cond (ae.1==aa.2.2.1) (some (22,U,())) ((ub (U.1,aa.2.2.1,())).bind fun v5 =>(rR (v5.1,ae.1,())).bind fun v6 =>cond v6.1 (some (22,U,())) (k.l9 U aa ae ai))) (k.l9 U aa ae ai))) (none)))
def KI(k:qs)(U:aI.D)(aa:aW.D)(ae:aW.D)(ai:I.D):Option (Int×aI.D×Unit) :=cond (ae.2.2.1==aa.2.2.1) (some (0,U,())) (cond (ae.2.2.1 != 0) ((Eb (U,ai,ae,())).bind fun v1 =>cond (v1.1 != 0) (some (v1.1,U,())) ((oc (U,ae.1,ae.2.1,true,())).bind fun v2 =>k.oe v2.1 aa ae)) (cond (aa.1 != ae.1) ((fl (U.1,ae.1,())).bind fun v3 =>cond (!List.isEmpty v3.1) (cond ((((J I v3.1 0).2.2.2.2.2.2.1).length:Int)==12) (some (28,U,())) (k.oe U aa ae)) (none)) (k.oe U aa ae)))
def KJ(k:qs)(U:aI.D)(aa:aW.D)(ae:aW.D):Option (Int×aI.D×Unit) :=(oc (U,aa.1,aa.2.1,false,())).bind fun v1 =>(rZ (v1.1,ae.1,ae.2.1,aa.2.2.1,())).bind fun v2 =>(na (v2.1,())).bind fun v3 =>some (v3.1,v2.1,())
def RW(k:qs):qs:=⟨KG k,KH k,KI k,KJ k⟩
def iH:Nat→qs:=eF RW ⟨fun _ _ _=>none,fun _ _ _ _=>none,fun _ _ _ _=>none,fun _ _ _=>none⟩
def Ed(x:aI.D×Unit):Option (Int×aI.D×Unit):=Ec (iH aP) x.1
abbrev RX:Type:=Int×Int×aI.D×Unit
def KK(a1:aI.D)(a2:Bool):Option (RX) :=(kF (a1,a1.2.2.1.2.1,a2,())).bind fun v1 =>cond (v1.1.2.2.2.1 != 0) (some ((-1),v1.1.2.2.2.1,a1,())) ((wz (a1.1,v1.1.2.2.1,())).bind fun v2 =>some (v2.1,0,(v2.2.1,a1.2.1,a1.2.2.1,()),()))
def mf(x:aI.D×Bool×Unit):Option (RX):=KK x.1 x.2.1
abbrev RY:Type:=Int×Int×aI.D×Unit
def y9(a1:aI.D)(a2:Int):Option (RY) :=(mf (a1,true,())).bind fun v1 =>cond (v1.2.1 != 0) (some ((-1),v1.2.1,v1.2.2.1,())) ((aN v1.2.2.1.1.2.1.length v1.1).bind fun v2 =>cond ((J I v1.2.2.1.1.2.1 v2).2.1==2) (some ((-1),21,v1.2.2.1,())) ((aN v1.2.2.1.1.2.1.length v1.1).bind fun v3 =>(pa (v1.2.2.1.2.1,J I v1.2.2.1.1.2.1 v3,a2,())).bind fun v4 =>cond (!v4.1) (some ((-1),13,v1.2.2.1,())) (some (v1.1,0,v1.2.2.1,()))))
def y_(x:aI.D×Int×Unit):Option (RY):=y9 x.1 x.2.1
abbrev RZ:Type:=aV.D×aI.D×Unit
def KL(a1:aI.D):Option (RZ) :=(y_ (a1,4,())).bind fun v1 =>cond (v1.2.1 != 0) ((eO (v1.2.1,())).bind fun v2 =>some (v2.1,v1.2.2.1,())) (cond (decide (v1.2.2.1.2.2.1.2.2.2.1<0)) ((eO (22,())).bind fun v3 =>some (v3.1,v1.2.2.1,())) (cond (decide (v1.2.2.1.2.2.1.2.2.2.2.1<0)) ((eO (22,())).bind fun v4 =>some (v4.1,v1.2.2.1,())) ((aN v1.2.2.1.1.2.1.length v1.1).bind fun v5 =>(aN v1.2.2.1.1.2.1.length v1.1).bind fun v6 =>(dZ (((J I v1.2.2.1.1.2.1 v5).2.2.2.2.2.1).length) (jk v1.2.2.1.2.2.1.2.2.2.1 (((J I v1.2.2.1.1.2.1 v6).2.2.2.2.2.1).length:Int)) (((J I v1.2.2.1.1.2.1 v5).2.2.2.2.2.1).length:Int)).bind fun bt =>(dZ ((part ((J I v1.2.2.1.1.2.1 v5).2.2.2.2.2.1) bt.1 (bt.2-bt.1)).length) 0 (jk v1.2.2.1.2.2.1.2.2.2.2.1 (((part ((J I v1.2.2.1.1.2.1 v5).2.2.2.2.2.1) bt.1 (bt.2-bt.1)).length:Nat):Int))).bind fun dw =>some ((0,part (part ((J I v1.2.2.1.1.2.1 v5).2.2.2.2.2.1) bt.1 (bt.2-bt.1)) dw.1 (dw.2-dw.1),()),v1.2.2.1,()))))
def Ee(x:aI.D×Unit):Option (RZ):=KL x.1
def strings_Repeat(x:(List UInt8)×Int×Unit):Option ((List UInt8)×Unit):=repF x.1 x.2.1
def KM(a1:List UInt8)(a2:Int):Option ((List UInt8)×Unit) :=cond (decide ((a1.length:Int)≥a2)) ((dZ a1.length 0 a2).bind fun v1 =>some (part a1 v1.1 (v1.2-v1.1),())) ((strings_Repeat (([0]:List UInt8),aH (a2-(a1.length:Int)),())).bind fun v2 =>cond (room (a1.length+v2.1.length)) (some (a1++v2.1,())) (none))
def Ef(x:(List UInt8)×Int×Unit):Option ((List UInt8)×Unit):=KM x.1 x.2.1
structure r1 where
 dh:Int→Int→aI.D→Option (Int×aI.D×Unit)
 cZ:Int→Int→aI.D→Option (Int×aI.D×Unit)
 gx:Int→(List UInt8)→aI.D→Option (Int×aI.D×Unit)
def Eg(k:r1)(a1:aI.D):Option (Int×aI.D×Unit) :=(y_ (a1,2,())).bind fun v1 =>cond (v1.2.1 != 0) (some (v1.2.1,v1.2.2.1,())) (cond (v1.2.2.1.2.2.1.1==6) ((aN v1.2.2.1.1.2.1.length v1.1).bind fun v2 =>k.dh v1.1 (((J I v1.2.2.1.1.2.1 v2).2.2.2.2.2.1).length:Int) v1.2.2.1) (k.dh v1.1 v1.2.2.1.2.2.1.2.2.2.1 v1.2.2.1))
def KN(k:r1)(U:Int)(aa:Int)(ae:aI.D):Option (Int×aI.D×Unit) :=cond (decide (aa<0)) (some (22,ae,())) (cond (ae.2.2.1.1 != 7) (cond (bu ae.2.2.1.2.2.2.2.2.1 ([]:List UInt8)) (some (0,ae,())) (k.cZ U aa ae)) (k.cZ U aa ae))
def KO(k:r1)(U:Int)(aa:Int)(ae:aI.D):Option (Int×aI.D×Unit) :=cond (decide (aH (aa +(ae.2.2.1.2.2.2.2.2.1.length:Int))>64)) (some (27,ae,())) ((aN ae.1.2.1.length U).bind fun v1 =>(Ef ((J I ae.1.2.1 v1).2.2.2.2.2.1,aa,())).bind fun v2 =>cond (ae.2.2.1.1 != 7) (cond (room (v2.1.length+ae.2.2.1.2.2.2.2.2.1.length)) ((aN ae.1.2.1.length U).bind fun v3 =>cond (decide ((((J I ae.1.2.1 v3).2.2.2.2.2.1).length:Int) >((v2.1++ae.2.2.1.2.2.2.2.2.1).length:Int))) ((aN ae.1.2.1.length U).bind fun v4 =>(dZ (((J I ae.1.2.1 v4).2.2.2.2.2.1).length) ((v2.1++ae.2.2.1.2.2.2.2.2.1).length:Int) (((J I ae.1.2.1 v4).2.2.2.2.2.1).length:Int)).bind fun v5 =>cond (room ((v2.1++ae.2.2.1.2.2.2.2.2.1).length +(part ((J I ae.1.2.1 v4).2.2.2.2.2.1) v5.1 (v5.2-v5.1)).length)) (k.gx U ((v2.1++ae.2.2.1.2.2.2.2.2.1)++(part ((J I ae.1.2.1 v4).2.2.2.2.2.1) v5.1 (v5.2-v5.1))) ae) (none)) (k.gx U (v2.1++ae.2.2.1.2.2.2.2.2.1) ae)) (none)) (k.gx U v2.1 ae))
def aaT(ae:aI.D)(v2:List I.D):Option (Int×aI.D×Unit) :=(na (((ae.1.1,v2,()),ae.2.1,ae.2.2.1,()),())).bind fun v3 =>some (v3.1,((ae.1.1,v2,()),ae.2.1,ae.2.2.1,()),())
def KP(k:r1)(U:Int)(aa:List UInt8)(ae:aI.D):Option (Int×aI.D×Unit) :=(aN ae.1.2.1.length U).bind fun v1 =>aaT ae (ae.1.2.1.set v1 ((J I ae.1.2.1 v1).1,(J I ae.1.2.1 v1).2.1,(J I ae.1.2.1 v1).2.2.1,(J I ae.1.2.1 v1).2.2.2.1,(J I ae.1.2.1 v1).2.2.2.2.1,aa,(J I ae.1.2.1 v1).2.2.2.2.2.2.1,(J I ae.1.2.1 v1).2.2.2.2.2.2.2.1,(J I ae.1.2.1 v1).2.2.2.2.2.2.2.2.1,()))
def R0(k:r1):r1:=⟨KN k,KO k,KP k⟩
def gh:Nat→r1:=eF R0 ⟨fun _ _ _=>none,fun _ _ _=>none,fun _ _ _=>none⟩
def Eh(x:aI.D×Unit):Option (Int×aI.D×Unit):=Eg (gh aP) x.1
abbrev R1:Type:=aV.D×aI.D×Unit
def KQ(a1:aI.D):Option (R1) :=(mf (a1,false,())).bind fun v1 =>cond (v1.2.1 != 0) ((eO (v1.2.1,())).bind fun v2 =>some (v2.1,v1.2.2.1,())) ((aN v1.2.2.1.1.2.1.length v1.1).bind fun v3 =>cond ((J I v1.2.2.1.1.2.1 v3).2.1 != 3) ((eO (22,())).bind fun v4 =>some (v4.1,v1.2.2.1,())) ((aN v1.2.2.1.1.2.1.length v1.1).bind fun v5 =>some ((0,(J I v1.2.2.1.1.2.1 v5).2.2.2.2.2.1,()),v1.2.2.1,())))
def Ei(x:aI.D×Unit):Option (R1):=KQ x.1
def strings_Join(x:(List (List UInt8))×(List UInt8)×Unit):Option ((List UInt8)×Unit):=joinF x.1 x.2.1
structure uy where
 bf:Int→(List UInt8)→Int→Option ((List UInt8)×Unit)
 dh:Int→(List UInt8)→Int→Int→Option ((List UInt8)×Unit)
def R2(k:uy)(a1:Int):Option ((List UInt8)×Unit) :=k.bf a1 ([]:List UInt8) a1
def KR(k:uy)(U:Int)(aa:List UInt8)(ae:Int):Option ((List UInt8)×Unit) :=cond (decide (Int.tmod ae 10<0)) (k.dh U aa ae (aH (0-(Int.tmod ae 10)))) (k.dh U aa ae (Int.tmod ae 10))
def KS(k:uy)(U:Int)(aa:List UInt8)(ae:Int)(ai:Int):Option ((List UInt8)×Unit) :=cond (room ((gl [IntKind.wrap .u8 (aH (48+ai))]).length+aa.length)) ((eG (ae,(-9),9,())).bind fun v1 =>cond v1.1 (cond (decide (U<0)) (cond (room (([45]:List UInt8).length +((gl [IntKind.wrap .u8 (aH (48+ai))])++aa).length)) (some (([45]:List UInt8)++((gl [IntKind.wrap .u8 (aH (48+ai))])++aa),())) (none)) (some ((gl [IntKind.wrap .u8 (aH (48+ai))])++aa,()))) (k.bf U ((gl [IntKind.wrap .u8 (aH (48+ai))])++aa) (aH (Int.tdiv ae 10)))) (none)
def R3(k:uy):uy:=⟨KR k,KS k⟩
def mg:Nat→uy:=eF R3 ⟨fun _ _ _=>none,fun _ _ _ _=>none⟩
def y'(x:Int×Unit):Option ((List UInt8)×Unit):=R2 (mg aP) x.1
abbrev Ej:Type:=(List Int)→Int→Int→(List (List UInt8))→Option ((List UInt8)×Unit)
def R4(k3:Ej)(a1:List Int):Option ((List UInt8)×Unit) :=k3 a1 (a1.length:Int) 0 ([]:List (List UInt8))
def Ek(k3:Ej)(U:List Int)(aa:Int)(ae:Int)(ai:List (List UInt8)):Option ((List UInt8)×Unit) :=cond (decide (ae<aa)) ((aN U.length ae).bind fun v1 =>(y' (J (ad.int .i64) U v1,())).bind fun v2 =>cond (room (ai.length+[v2.1].length)) (k3 U aa (aH (ae+1)) (ai++[v2.1])) (none)) ((strings_Join (ai,([32]:List UInt8),())).bind fun v3 =>some (v3.1,()))
def uz:Nat→Ej | 0,_,_,_,_=>none | m+1,U,aa,ae,ai=>Ek (uz m) U aa ae ai
def qt(x:(List Int)×Unit):Option ((List UInt8)×Unit):=R4 (uz aP) x.1
abbrev za:Type:=aV.D×aI.D×Unit
abbrev El:Type:=(List aw.D)→Int→Int→aV.D→(List (List UInt8))→aI.D→Option (za)
def Em(l8:El)(a1:aI.D):Option (za) :=(mf (a1,true,())).bind fun v1 =>cond (v1.2.1 != 0) ((eO (v1.2.1,())).bind fun v2 =>some (v2.1,v1.2.2.1,())) ((aN v1.2.2.1.1.2.1.length v1.1).bind fun v3 =>cond ((J I v1.2.2.1.1.2.1 v3).2.1 != 2) ((eO (20,())).bind fun v4 =>some (v4.1,v1.2.2.1,())) ((aN v1.2.2.1.1.2.1.length v1.1).bind fun v5 =>(pa (v1.2.2.1.2.1,J I v1.2.2.1.1.2.1 v5,4,())).bind fun v6 =>cond (!v6.1) ((eO (13,())).bind fun bt =>some (bt.1,v1.2.2.1,())) (cond (v1.2.2.1.2.2.1.1==20) ((aN v1.2.2.1.1.2.1.length v1.1).bind fun dw =>(wB (v1.2.2.1.1,(J I v1.2.2.1.1.2.1 dw).1,())).bind fun v9 =>(aN v1.2.2.1.1.2.1.length v1.1).bind fun v10 =>(aN v1.2.2.1.1.2.1.length v1.1).bind fun v11 =>(qt ([(J I v1.2.2.1.1.2.1 v10).2.2.2.2.2.2.2.1,(J I v1.2.2.1.1.2.1 v11).2.2.2.2.2.2.2.2.1,v9.1,v9.2.1],())).bind fun v12 =>some ((0,v12.1,()),v1.2.2.1,())) ((aN v1.2.2.1.1.2.1.length v1.1).bind fun jx =>l8 ((J I v1.2.2.1.1.2.1 jx).2.2.2.2.2.2.1) (((J I v1.2.2.1.1.2.1 jx).2.2.2.2.2.2.1).length:Int) 0 (0,([]:List UInt8),()) ([]:List (List UInt8)) v1.2.2.1))))
def En(l8:El)(U:List aw.D)(aa:Int)(ae:Int)(ai:aV.D)(ar:List (List UInt8))(aE:aI.D):Option (za) :=cond (decide (ae<aa)) ((aN U.length ae).bind fun v1 =>cond (room (ar.length+[(J aw U v1).1].length)) (l8 U aa (aH (ae+1)) ai (ar++[(J aw U v1).1]) aE) (none)) ((strings_Join (ar,([47]:List UInt8),())).bind fun v2 =>some ((0,v2.1,()),aE,()))
def qu:Nat→El | 0,_,_,_,_,_,_=>none | m+1,U,aa,ae,ai,ar,aE=>En (qu m) U aa ae ai ar aE
def zb(x:aI.D×Unit):Option (za):=Em (qu aP) x.1
abbrev Eo:Type:=af.D→Int→(List aw.D)→Int→Int→Option (Int×Unit)
def Ep(bs:Eo)(a1:af.D)(a2:I.D):Option (Int×Unit) :=cond (a2.2.1 != 2) ((wA (a1,a2.1,())).bind fun v1 =>some (v1.1,())) (bs a1 2 a2.2.2.2.2.2.2.1 (a2.2.2.2.2.2.2.1.length:Int) 0)
def Er(bs:Eo)(U:af.D)(aa:Int)(ae:List aw.D)(ai:Int)(ar:Int):Option (Int×Unit) :=cond (decide (ar<ai)) ((aN ae.length ar).bind fun v1 =>(ux (U,(J aw ae v1).2.1,())).bind fun v2 =>cond v2.1 (bs U (aH (aa+1)) ae ai (aH (ar+1))) (bs U aa ae ai (aH (ar+1)))) (some (aa,()))
def r2:Nat→Eo | 0,_,_,_,_,_=>none | m+1,U,aa,ae,ai,ar=>Er (r2 m) U aa ae ai ar
def Es(x:af.D×I.D×Unit):Option (Int×Unit):=Ep (r2 aP) x.1 x.2.1
abbrev R5:Type:=aV.D×aI.D×Unit
def KT(a1:aI.D):Option (R5) :=(eG (a1.2.2.1.2.2.2.1,0,1,())).bind fun v1 =>cond (!v1.1) ((eO (22,())).bind fun v2 =>some (v2.1,a1,())) ((mf (a1,a1.2.2.1.2.2.2.1==0,())).bind fun v3 =>cond (v3.2.1 != 0) ((eO (v3.2.1,())).bind fun v4 =>some (v4.1,v3.2.2.1,())) ((aN v3.2.2.1.1.2.1.length v3.1).bind fun v5 =>(aN v3.2.2.1.1.2.1.length v3.1).bind fun v6 =>(aN v3.2.2.1.1.2.1.length v3.1).bind fun bt =>(aN v3.2.2.1.1.2.1.length v3.1).bind fun dw =>(aN v3.2.2.1.1.2.1.length v3.1).bind fun v9 =>(aN v3.2.2.1.1.2.1.length v3.1).bind fun v10 =>(Es (v3.2.2.1.1,J I v3.2.2.1.1.2.1 v9,())).bind fun v11 =>(qt ([(J I v3.2.2.1.1.2.1 v5).2.1,(J I v3.2.2.1.1.2.1 v6).2.2.1,(J I v3.2.2.1.1.2.1 bt).2.2.2.1,(J I v3.2.2.1.1.2.1 dw).2.2.2.2.1,v11.1,(((J I v3.2.2.1.1.2.1 v10).2.2.2.2.2.1).length:Int)],())).bind fun v12 =>some ((0,v12.1,()),v3.2.2.1,())))
def Et(x:aI.D×Unit):Option (R5):=KT x.1
abbrev Eu:Type:=Int→aI.D→Option (Int×aI.D×Unit)
def Ev(ee:Eu)(a1:aI.D):Option (Int×aI.D×Unit) :=(eG (a1.2.2.1.2.2.2.1,0,2047,())).bind fun v1 =>cond (!v1.1) (some (22,a1,())) ((mf (a1,true,())).bind fun v2 =>cond (v2.2.1 != 0) (some (v2.2.1,v2.2.2.1,())) (cond (v2.2.2.1.2.1.1 != 0) ((aN v2.2.2.1.1.2.1.length v2.1).bind fun v3 =>cond (v2.2.2.1.2.1.1 !=(J I v2.2.2.1.1.2.1 v3).2.2.2.1) (some (1,v2.2.2.1,())) (ee v2.1 v2.2.2.1)) (ee v2.1 v2.2.2.1)))
def R6(aa:aI.D)(bt:List I.D):Option (Int×aI.D×Unit) :=some (0,((aa.1.1,bt,()),aa.2.1,aa.2.2.1,()),())
def KU(aa:aI.D)(U:Int)(v2:List I.D):Option (Int×aI.D×Unit) :=cond (aa.2.1.1 != 0) ((aN v2.length U).bind fun v3 =>(ur (aa.2.1,(J I v2 v3).2.2.2.2.1,())).bind fun v4 =>cond (!v4.1) ((aN v2.length U).bind fun v5 =>(aN v2.length U).bind fun v6 =>R6 aa (v2.set v6 ((J I v2 v6).1,(J I v2 v6).2.1,cN .andNot .i64 ((J I v2 v5).2.2.1) 1024,(J I v2 v6).2.2.2.1,(J I v2 v6).2.2.2.2.1,(J I v2 v6).2.2.2.2.2.1,(J I v2 v6).2.2.2.2.2.2.1,(J I v2 v6).2.2.2.2.2.2.2.1,(J I v2 v6).2.2.2.2.2.2.2.2.1,()))) (some (0,((aa.1.1,v2,()),aa.2.1,aa.2.2.1,()),()))) (some (0,((aa.1.1,v2,()),aa.2.1,aa.2.2.1,()),()))
def KV(ee:Eu)(U:Int)(aa:aI.D):Option (Int×aI.D×Unit) :=(aN aa.1.2.1.length U).bind fun v1 =>KU aa U (aa.1.2.1.set v1 ((J I aa.1.2.1 v1).1,(J I aa.1.2.1 v1).2.1,aa.2.2.1.2.2.2.1,(J I aa.1.2.1 v1).2.2.2.1,(J I aa.1.2.1 v1).2.2.2.2.1,(J I aa.1.2.1 v1).2.2.2.2.2.1,(J I aa.1.2.1 v1).2.2.2.2.2.2.1,(J I aa.1.2.1 v1).2.2.2.2.2.2.2.1,(J I aa.1.2.1 v1).2.2.2.2.2.2.2.2.1,()))
def qv:Nat→Eu | 0,_,_=>none | m+1,U,aa=>KV (qv m) U aa
def Ew(x:aI.D×Unit):Option (Int×aI.D×Unit):=Ev (qv aP) x.1
abbrev Ex:Type:=Int→aI.D→Option (Int×aI.D×Unit)
def Ey(ee:Ex)(a1:aI.D):Option (Int×aI.D×Unit) :=(eG (a1.2.2.1.2.2.2.1,0,1000,())).bind fun v1 =>cond (!v1.1) (some (22,a1,())) ((eG (a1.2.2.1.2.2.2.2.1,0,1000,())).bind fun v2 =>cond (!v2.1) (some (22,a1,())) ((mf (a1,true,())).bind fun v3 =>cond (v3.2.1 != 0) (some (v3.2.1,v3.2.2.1,())) (cond (v3.2.2.1.2.1.1 != 0) ((aN v3.2.2.1.1.2.1.length v3.1).bind fun v4 =>cond (v3.2.2.1.2.1.1 !=(J I v3.2.2.1.1.2.1 v4).2.2.2.1) (some (1,v3.2.2.1,())) ((aN v3.2.2.1.1.2.1.length v3.1).bind fun v5 =>cond (v3.2.2.1.2.2.1.2.2.2.1 !=(J I v3.2.2.1.1.2.1 v5).2.2.2.1) (some (1,v3.2.2.1,())) ((ur (v3.2.2.1.2.1,v3.2.2.1.2.2.1.2.2.2.2.1,())).bind fun v6 =>cond (!v6.1) (some (1,v3.2.2.1,())) (ee v3.1 v3.2.2.1)))) (ee v3.1 v3.2.2.1))))
def R7(aa:aI.D)(v4:List I.D):Option (Int×aI.D×Unit) :=some (0,((aa.1.1,v4,()),aa.2.1,aa.2.2.1,()),())
def KW(U:Int)(aa:aI.D)(v2:List I.D):Option (Int×aI.D×Unit) :=(aN v2.length U).bind fun v3 =>R7 aa (v2.set v3 ((J I v2 v3).1,(J I v2 v3).2.1,(J I v2 v3).2.2.1,(J I v2 v3).2.2.2.1,aa.2.2.1.2.2.2.2.1,(J I v2 v3).2.2.2.2.2.1,(J I v2 v3).2.2.2.2.2.2.1,(J I v2 v3).2.2.2.2.2.2.2.1,(J I v2 v3).2.2.2.2.2.2.2.2.1,()))
def KX(ee:Ex)(U:Int)(aa:aI.D):Option (Int×aI.D×Unit) :=(aN aa.1.2.1.length U).bind fun v1 =>KW U aa (aa.1.2.1.set v1 ((J I aa.1.2.1 v1).1,(J I aa.1.2.1 v1).2.1,(J I aa.1.2.1 v1).2.2.1,aa.2.2.1.2.2.2.1,(J I aa.1.2.1 v1).2.2.2.2.1,(J I aa.1.2.1 v1).2.2.2.2.2.1,(J I aa.1.2.1 v1).2.2.2.2.2.2.1,(J I aa.1.2.1 v1).2.2.2.2.2.2.2.1,(J I aa.1.2.1 v1).2.2.2.2.2.2.2.2.1,()))
def qw:Nat→Ex | 0,_,_=>none | m+1,U,aa=>KX (qw m) U aa
def Ez(x:aI.D×Unit):Option (Int×aI.D×Unit):=Ey (qw aP) x.1
def KY(a1:aI.D):Option (Int×aI.D×Unit) :=(eG (a1.2.2.1.2.2.2.1,0,7,())).bind fun v1 =>cond (!v1.1) (some (22,a1,())) ((mf (a1,true,())).bind fun v2 =>cond (v2.2.1 != 0) (some (v2.2.1,v2.2.2.1,())) ((aN v2.2.2.1.1.2.1.length v2.1).bind fun v3 =>(pa (v2.2.2.1.2.1,J I v2.2.2.1.1.2.1 v3,v2.2.2.1.2.2.1.2.2.2.1,())).bind fun v4 =>cond (!v4.1) (some (13,v2.2.2.1,())) (some (0,v2.2.2.1,()))))
def EA(x:aI.D×Unit):Option (Int×aI.D×Unit):=KY x.1
def KZ(v3:Int×Int×aI.D×Unit)(dw:List I.D):Option (Int×aI.D×Unit) :=(na (((v3.2.2.1.1.1,dw,()),v3.2.2.1.2.1,v3.2.2.1.2.2.1,()),())).bind fun v9 =>some (v9.1,((v3.2.2.1.1.1,dw,()),v3.2.2.1.2.1,v3.2.2.1.2.2.1,()),())
def EB(v3:Int×Int×aI.D×Unit)(v6:List I.D):Option (Int×aI.D×Unit) :=(aN v6.length v3.1).bind fun bt =>KZ v3 (v6.set bt ((J I v6 bt).1,(J I v6 bt).2.1,(J I v6 bt).2.2.1,(J I v6 bt).2.2.2.1,(J I v6 bt).2.2.2.2.1,(J I v6 bt).2.2.2.2.2.1,(J I v6 bt).2.2.2.2.2.2.1,(J I v6 bt).2.2.2.2.2.2.2.1,v3.2.2.1.2.2.1.2.2.2.2.1,()))
def K0(a1:aI.D):Option (Int×aI.D×Unit) :=(eG (a1.2.2.1.2.2.2.1,0,400,())).bind fun v1 =>cond (!v1.1) (some (22,a1,())) ((eG (a1.2.2.1.2.2.2.2.1,0,24,())).bind fun v2 =>cond (!v2.1) (some (22,a1,())) (cond (a1.2.1.1 != 0) (some (1,a1,())) ((mf (a1,true,())).bind fun v3 =>cond (v3.2.1 != 0) (some (v3.2.1,v3.2.2.1,())) ((aN v3.2.2.1.1.2.1.length v3.1).bind fun v4 =>cond ((J I v3.2.2.1.1.2.1 v4).2.1 != 2) (some (20,v3.2.2.1,())) ((aN v3.2.2.1.1.2.1.length v3.1).bind fun v5 =>EB v3 (v3.2.2.1.1.2.1.set v5 ((J I v3.2.2.1.1.2.1 v5).1,(J I v3.2.2.1.1.2.1 v5).2.1,(J I v3.2.2.1.1.2.1 v5).2.2.1,(J I v3.2.2.1.1.2.1 v5).2.2.2.1,(J I v3.2.2.1.1.2.1 v5).2.2.2.2.1,(J I v3.2.2.1.1.2.1 v5).2.2.2.2.2.1,(J I v3.2.2.1.1.2.1 v5).2.2.2.2.2.2.1,v3.2.2.1.2.2.1.2.2.2.1,(J I v3.2.2.1.1.2.1 v5).2.2.2.2.2.2.2.2.1,())))))))
def EC(x:aI.D×Unit):Option (Int×aI.D×Unit):=K0 x.1
abbrev jT:Type:=aV.D×aI.D×Unit
structure nc where
 bs:aI.D→aV.D→Option (jT)
 c_:Int→aI.D→aV.D→Option (jT)
 ee:aI.D→aV.D→Option (jT)
 gG:Int→aI.D→aV.D→Option (jT)
 gx:aI.D→aV.D→Option (jT)
 n':Int→aI.D→aV.D→Option (jT)
 o7:Int→aI.D→aV.D→Option (jT)
def ED(k:nc)(a1:aI.D):Option (jT) :=cond (a1.2.2.1.1==1) (cond (a1.2.2.1.1==1) (k.bs a1 (0,([]:List UInt8),())) (k.c_ a1.2.2.1.1 a1 (0,([]:List UInt8),()))) (cond (a1.2.2.1.1==3) (cond (a1.2.2.1.1==3) (k.bs a1 (0,([]:List UInt8),())) (k.c_ a1.2.2.1.1 a1 (0,([]:List UInt8),()))) (cond (a1.2.2.1.1==10) (k.bs a1 (0,([]:List UInt8),())) (k.c_ a1.2.2.1.1 a1 (0,([]:List UInt8),()))))
def aaU(k:nc)(U:aI.D)(aa:aV.D):Option (jT) :=(y8 (U,())).bind fun v1 =>(eO (v1.1,())).bind fun v2 =>some (v2.1,v1.2.1,())
def aaV(k:nc)(U:Int)(aa:aI.D)(ae:aV.D):Option (jT) :=cond (U==2) (cond (U==2) (k.ee aa ae) (k.gG U aa ae)) (cond (U==8) (k.ee aa ae) (k.gG U aa ae))
def aaW(k:nc)(U:aI.D)(aa:aV.D):Option (jT) :=(D' (U,())).bind fun v1 =>(eO (v1.1,())).bind fun v2 =>some (v2.1,v1.2.1,())
def aaX(k:nc)(U:Int)(aa:aI.D)(ae:aV.D):Option (jT) :=cond (U==9) ((Ea (aa,())).bind fun v1 =>(eO (v1.1,())).bind fun v2 =>some (v2.1,v1.2.1,())) (cond (U==12) ((Ed (aa,())).bind fun v3 =>(eO (v3.1,())).bind fun v4 =>some (v4.1,v3.2.1,())) (cond (U==4) ((Ee (aa,())).bind fun v5 =>some (v5.1,v5.2.1,())) (cond (U==5) (cond (U==5) (k.gx aa ae) (k.n' U aa ae)) (cond (U==6) (cond (U==6) (k.gx aa ae) (k.n' U aa ae)) (cond (U==7) (k.gx aa ae) (k.n' U aa ae))))))
def aaY(k:nc)(U:aI.D)(aa:aV.D):Option (jT) :=(Eh (U,())).bind fun v1 =>(eO (v1.1,())).bind fun v2 =>some (v2.1,v1.2.1,())
def aaZ(k:nc)(U:Int)(aa:aI.D)(ae:aV.D):Option (jT) :=cond (U==11) ((Ei (aa,())).bind fun v1 =>some (v1.1,v1.2.1,())) (cond (U==13) (cond (U==13) ((zb (aa,())).bind fun v2 =>some (v2.1,v2.2.1,())) (k.o7 U aa ae)) (cond (U==20) ((zb (aa,())).bind fun v3 =>some (v3.1,v3.2.1,())) (k.o7 U aa ae)))
def aa0(k:nc)(U:Int)(aa:aI.D)(ae:aV.D):Option (jT) :=cond (U==14) ((Et (aa,())).bind fun v1 =>some (v1.1,v1.2.1,())) (cond (U==15) ((Ew (aa,())).bind fun v2 =>(eO (v2.1,())).bind fun v3 =>some (v3.1,v2.2.1,())) (cond (U==16) ((Ez (aa,())).bind fun v4 =>(eO (v4.1,())).bind fun v5 =>some (v5.1,v4.2.1,())) (cond (U==17) ((EA (aa,())).bind fun v6 =>(eO (v6.1,())).bind fun bt =>some (bt.1,v6.2.1,())) (cond (U==18) ((rS (aa.1,())).bind fun dw =>(qt ([(aa.1.2.1.length:Int),dw.1],())).bind fun v9 =>some ((0,v9.1,()),aa,())) ((EC (aa,())).bind fun v10 =>(eO (v10.1,())).bind fun v11 =>some (v11.1,v10.2.1,()))))))
def R8(k:nc):nc:=⟨aaU k,aaV k,aaW k,aaX k,aaY k,aaZ k,aa0 k⟩
def K1:Nat→nc:=eF R8 ⟨fun _ _=>none,fun _ _ _=>none,fun _ _=>none,fun _ _ _=>none,fun _ _=>none,fun _ _ _=>none,fun _ _ _=>none⟩
def EE(x:aI.D×Unit):Option (jT):=ED (K1 aP) x.1
abbrev R9:Type:=af.D×aV.D×Unit
def zc(a1:af.D)(a2:aJ.D)(a3:aG.D):Option (R9) :=(wD (a2,())).bind fun v1 =>cond (!v1.1) ((rT (a1,())).bind fun v2 =>(eO (22,())).bind fun v3 =>some (v2.1,v3.1,())) ((Kc (a3,())).bind fun v4 =>cond (!v4.1) ((rT (a1,())).bind fun v5 =>(eO (22,())).bind fun v6 =>some (v5.1,v6.1,())) (cond (decide (a3.1>20)) ((rT (a1,())).bind fun bt =>(eO (22,())).bind fun dw =>some (bt.1,dw.1,())) ((rT (a1,())).bind fun v9 =>(EE ((v9.1,a2,a3,()),())).bind fun v10 =>cond (v10.1.1 != 0) ((rT (a1,())).bind fun v11 =>some (v11.1,v10.1,())) (some (v10.2.1.1,v10.1,())))))
def K2(x:af.D×aJ.D×aG.D×Unit):Option (R9):=zc x.1 x.2.1 x.2.2.1
abbrev R_:Type:=af.D×aV.D×Unit
def K3(a1:af.D)(a2:aJ.D)(a3:aG.D):Option (R_) :=(wC (a1,())).bind fun v1 =>cond (!v1.1) ((eO (22,())).bind fun v2 =>some ((0,([]:List I.D),()),v2.1,())) ((K2 (a1,a2,a3,())).bind fun v3 =>some (v3.1,v3.2.1,()))
def K4(x:af.D×aJ.D×aG.D×Unit):Option (R_):=K3 x.1 x.2.1 x.2.2.1
def K5(a1:af.D)(a2:Int):Option (Int×Unit) :=(fl (a1,a2,())).bind fun v1 =>cond (!List.isEmpty v1.1) ((wC (a1,())).bind fun v2 =>cond v2.1 (cond (!List.isEmpty v1.1) ((Es (a1,J I v1.1 0,())).bind fun v3 =>some (v3.1,())) (none)) (some (0,()))) (some (0,()))
def EF(x:af.D×Int×Unit):Option (Int×Unit):=K5 x.1 x.2.1
structure uA where
 bf:Int→af.D→af.D→Option (Bool×Unit)
 cZ:Int→Int→af.D→af.D→I.D→I.D→Option (Bool×Unit)
def EG(k:uA)(a1:af.D)(a2:af.D):Option (Bool×Unit) :=cond (a1.1 != a2.1) (some (false,())) (cond ((a1.2.1.length:Int) !=(a2.2.1.length:Int)) (some (false,())) (k.bf 0 a1 a2))
def zd(k:uA)(U:Int)(aa:af.D)(ae:af.D):Option (Bool×Unit) :=cond (decide (U<(aa.2.1.length:Int))) ((aN aa.2.1.length U).bind fun v1 =>(aN ae.2.1.length U).bind fun v2 =>cond ((J I aa.2.1 v1).1 !=(J I ae.2.1 v2).1) (some (false,())) (cond ((J I aa.2.1 v1).2.1 !=(J I ae.2.1 v2).2.1) (some (false,())) (cond ((J I aa.2.1 v1).2.2.1 !=(J I ae.2.1 v2).2.2.1) (some (false,())) (cond ((J I aa.2.1 v1).2.2.2.1 !=(J I ae.2.1 v2).2.2.2.1) (some (false,())) (cond ((J I aa.2.1 v1).2.2.2.2.1 !=(J I ae.2.1 v2).2.2.2.2.1) (some (false,())) (cond (!(bu ((J I aa.2.1 v1).2.2.2.2.2.1) ((J I ae.2.1 v2).2.2.2.2.2.1))) (some (false,())) (cond ((J I aa.2.1 v1).2.2.2.2.2.2.2.1 !=(J I ae.2.1 v2).2.2.2.2.2.2.2.1) (some (false,())) (cond ((J I aa.2.1 v1).2.2.2.2.2.2.2.2.1 !=(J I ae.2.1 v2).2.2.2.2.2.2.2.2.1) (some (false,())) (cond ((((J I aa.2.1 v1).2.2.2.2.2.2.1).length:Int) !=(((J I ae.2.1 v2).2.2.2.2.2.2.1).length:Int)) (some (false,())) (k.cZ U 0 aa ae (J I aa.2.1 v1) (J I ae.2.1 v2))))))))))) (some (true,()))
def aa1(k:uA)(U:Int)(aa:Int)(ae:af.D)(ai:af.D)(ar:I.D)(aE:I.D):Option (Bool×Unit) :=cond (decide (aa<(ar.2.2.2.2.2.2.1.length:Int))) ((aN ar.2.2.2.2.2.2.1.length aa).bind fun v1 =>(aN aE.2.2.2.2.2.2.1.length aa).bind fun v2 =>cond (!(bu ((J aw ar.2.2.2.2.2.2.1 v1).1) ((J aw aE.2.2.2.2.2.2.1 v2).1)&&(((J aw ar.2.2.2.2.2.2.1 v1).2.1 ==(J aw aE.2.2.2.2.2.2.1 v2).2.1)&&true))) (some (false,())) (k.cZ U (aH (aa+1)) ae ai ar aE)) (k.bf (aH (U+1)) ae ai)
def R'(k:uA):uA:=⟨zd k,aa1 k⟩
def pc:Nat→uA:=eF R' ⟨fun _ _ _=>none,fun _ _ _ _ _ _=>none⟩
def EH(x:af.D×af.D×Unit):Option (Bool×Unit):=EG (pc aP) x.1 x.2.1
def K6(a1:af.D)(a2:Int):Option (Int×Int×Unit) :=(wC (a1,())).bind fun v1 =>cond (!v1.1) (some (0,0,())) ((ux (a1,a2,())).bind fun v2 =>cond (!v2.1) (some (0,0,())) ((wB (a1,a2,())).bind fun v3 =>some (v3.1,v3.2.1,())))
def EI(x:af.D×Int×Unit):Option (Int×Int×Unit):=K6 x.1 x.2.1
def K7(a1:af.D)(a2:Int):Option (Int×Unit) :=(wC (a1,())).bind fun v1 =>cond (!v1.1) (some (0,())) ((ux (a1,a2,())).bind fun v2 =>cond (!v2.1) (some (0,())) ((DN (a1,a2,())).bind fun v3 =>some (v3.1,())))
def uB(x:af.D×Int×Unit):Option (Int×Unit):=K7 x.1 x.2.1
def K8(a1:Int):Option (Bool×Unit) :=cond (a1==4) (cond (a1==4) (some (true,())) (some (false,()))) (cond (a1==11) (cond (a1==11) (some (true,())) (some (false,()))) (cond (a1==13) (cond (a1==13) (some (true,())) (some (false,()))) (cond (a1==14) (cond (a1==14) (some (true,())) (some (false,()))) (cond (a1==17) (cond (a1==17) (some (true,())) (some (false,()))) (cond (a1==18) (cond (a1==18) (some (true,())) (some (false,()))) (cond (a1==20) (cond (a1==20) (some (true,())) (some (false,()))) (cond (a1==21) (some (true,())) (some (false,())))))))))
def K9(x:Int×Unit):Option (Bool×Unit):=K8 x.1
structure uC where
 eX:Int→af.D→aG.D→af.D→Option (Bool×Unit)
 mc:Int→af.D→aG.D→af.D→I.D→Option (Bool×Unit)
def EJ(k:uC)(a1:List Int):Option (Bool×Unit) :=(IY (a1,())).bind fun v1 =>cond v1.1 (some (true,())) ((JV (a1,())).bind fun v2 =>(K4 (v2.1,v2.2.1,v2.2.2.1,())).bind fun v3 =>(yX (v2.1,())).bind fun v4 =>cond (!v4.1) (cond (v3.2.1.1==22) (some ((v3.1.2.1.length:Int)==0,())) (some (false,()))) ((yX (v3.1,())).bind fun v5 =>cond (!v5.1) (some (false,())) (cond (v3.2.1.1 != 0) ((EH (v3.1,v2.1,())).bind fun v6 =>cond (!v6.1) (some (false,())) (cond (!(bu v3.2.1.2.1 ([]:List UInt8))) (some (false,())) (cond (decide (v3.1.1<v2.1.1)) (some (false,())) (cond (decide (v3.1.1>aH (v2.1.1+1))) (some (false,())) (k.eX 0 v2.1 v2.2.2.1 v3.1))))) (cond (decide (v3.1.1<v2.1.1)) (some (false,())) (cond (decide (v3.1.1>aH (v2.1.1+1))) (some (false,())) (k.eX 0 v2.1 v2.2.2.1 v3.1))))))
def ze(k:uC)(U:Int)(aa:af.D)(ae:aG.D)(ai:af.D):Option (Bool×Unit) :=cond (decide (U<(ai.2.1.length:Int))) ((aN ai.2.1.length U).bind fun v1 =>cond ((J I ai.2.1 (0+v1)).2.1==2) ((EI (ai,(J I ai.2.1 (0+v1)).1,())).bind fun v2 =>cond (decide ((J I ai.2.1 (0+v1)).2.2.2.2.2.2.2.1>0)) (cond (decide (v2.1 >(J I ai.2.1 (0+v1)).2.2.2.2.2.2.2.1)) (some (false,())) (cond (decide ((J I ai.2.1 (0+v1)).2.2.2.2.2.2.2.2.1>0)) (cond (decide (v2.2.1 >(J I ai.2.1 (0+v1)).2.2.2.2.2.2.2.2.1)) (some (false,())) ((uB (ai,(J I ai.2.1 (0+v1)).1,())).bind fun v3 =>cond (v3.1==0) (some (false,())) (k.mc U aa ae ai (J I ai.2.1 (0+v1))))) ((uB (ai,(J I ai.2.1 (0+v1)).1,())).bind fun v4 =>cond (v4.1==0) (some (false,())) (k.mc U aa ae ai (J I ai.2.1 (0+v1)))))) (cond (decide ((J I ai.2.1 (0+v1)).2.2.2.2.2.2.2.2.1>0)) (cond (decide (v2.2.1 >(J I ai.2.1 (0+v1)).2.2.2.2.2.2.2.2.1)) (some (false,())) ((uB (ai,(J I ai.2.1 (0+v1)).1,())).bind fun v5 =>cond (v5.1==0) (some (false,())) (k.mc U aa ae ai (J I ai.2.1 (0+v1))))) ((uB (ai,(J I ai.2.1 (0+v1)).1,())).bind fun v6 =>cond (v6.1==0) (some (false,())) (k.mc U aa ae ai (J I ai.2.1 (0+v1)))))) (k.mc U aa ae ai (J I ai.2.1 (0+v1)))) ((K9 (ae.1,())).bind fun bt =>cond (!bt.1) (some (true,())) ((EH (ai,aa,())).bind fun dw =>some (dw.1,())))
def K_(k:uC)(U:Int)(aa:af.D)(ae:aG.D)(ai:af.D)(ar:I.D):Option (Bool×Unit) :=(EF (ai,ar.1,())).bind fun v1 =>cond (decide (v1.1<1)) (some (false,())) (k.eX (aH (U+1)) aa ae ai)
def Sa(k:uC):uC:=⟨ze k,K_ k⟩
def qx:Nat→uC:=eF Sa ⟨fun _ _ _ _=>none,fun _ _ _ _ _=>none⟩
def Sb(x:(List Int)×Unit):Option (Bool×Unit):=EJ (qx aP) x.1
abbrev Sc:Type:=af.D×aV.D×Unit
def K'(a1:af.D)(a2:aJ.D)(a3:aG.D):Option (Sc) :=(yX (a1,())).bind fun v1 =>cond (!v1.1) (some ((0,([]:List I.D),()),(22,([]:List UInt8),()),())) ((wh (a2,())).bind fun v2 =>cond (!v2.1) ((lu (a1,())).bind fun v3 =>some (v3.1,(22,([]:List UInt8),()),())) (both ((lu (a1,())).bind fun v4 =>both ((m6 (v4.1,a2,a3,())).bind fun v5 =>dup (some (v5.1,v5.2.1,()))) (dup (dup ((m6 (v4.1,a2,a3,())).bind fun v5 =>some (v5.1,v5.2.1,()))))) (dup (both ((lu (a1,())).bind fun v4 =>dup ((m6 (v4.1,a2,a3,())).bind fun v5 =>some (v5.1,v5.2.1,()))) ((lu (a1,())).bind fun v4 =>(m6 (v4.1,a2,a3,())).bind fun v5 =>some (v5.1,v5.2.1,()))))))
def aa2(x:af.D×aJ.D×aG.D×Unit):Option (Sc):=K' x.1 x.2.1 x.2.2.1
end
end Go.LM.kb
