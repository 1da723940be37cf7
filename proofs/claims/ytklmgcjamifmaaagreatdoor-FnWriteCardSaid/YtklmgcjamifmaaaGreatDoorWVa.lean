/- The functions that the law reaches, as plain functions. Printed by a program. Conditions: each theorem's own hypotheses. -/
import Derived.Test.YtklmgcjamifmaaaGreatDoorWLmd
import Derived.Test.YtklmgcjamifmaaaGreatDoorWIn
set_option linter.unusedVariables false
set_option linter.unusedSimpArgs false
namespace Go.LM.kF
noncomputable section
@[reducible] def br:ad:=.st (.cons (.sl (.int .u8)) (.cons (.int .i64) (.cons (.int .i64) .nil)))
@[reducible] def ay:ad:=.st (.cons .str (.cons (.int .i64) .nil))
@[reducible] def I:ad:=.st (.cons (.int .i64) (.cons (.int .i64) (.cons (.int .i64) (.cons (.int .i64) (.cons (.int .i64) (.cons .str (.cons (.sl ay) (.cons (.int .i64) (.cons (.int .i64) .nil)))))))))
@[reducible] def af:ad:=.st (.cons (.int .i64) (.cons (.sl I) .nil))
@[reducible] def aJ:ad:=.st (.cons (.int .i64) (.cons .str (.cons .str (.cons (.int .i64) (.cons (.int .i64) (.cons .str .nil))))))
@[reducible] def aH:ad:=.st (.cons (.int .i64) (.cons (.int .i64) (.cons (.sl (.int .i64)) .nil)))
@[reducible] def aV:ad:=.st (.cons (.int .i64) (.cons .str (.cons (.int .i64) (.cons (.int .i64) .nil))))
@[reducible] def aF:ad:=.st (.cons (.int .i64) (.cons .str .nil))
@[reducible] def aL:ad:=.st (.cons af (.cons aH (.cons aJ .nil)))
def abA(a1:List Int):Option (Bool×Unit) :=some (decide ((a1.length:Int)>1048576),())
def JD(x:(List Int)×Unit):Option (Bool×Unit):=abA x.1
abbrev CG:Type:=(List Int)→Int→Int→Option (br.D×Unit)
def RS(k3:CG)(a1:List Int):Option (br.D×Unit) :=k3 a1 (aK (10101 +(a1.length:Int))) 0
def w6(k3:CG)(U:List Int)(aa:Int)(ae:Int):Option (br.D×Unit) :=cond (decide (ae<(U.length:Int))) (cond (decide (ae<4000)) ((aO U.length ae).bind fun v1 =>k3 U (cQ .and .i64 (aK (aK (aK (aa*131)+aK (J (ad.int .u8) U v1))+7)) 1073741823) (aK (ae+1))) (some ((U,0,aa,()),()))) (some ((U,0,aa,()),()))
def w7:Nat→CG | 0,_,_,_=>none | m+1,U,aa,ae=>w6 (w7 m) U aa ae
def CH(x:(List Int)×Unit):Option (br.D×Unit):=RS (w7 aQ) x.1
abbrev RT:Type:=Int×br.D×Unit
def JE(a1:br.D):Option (RT) :=cond (decide (a1.2.1<(a1.1.length:Int))) ((aO a1.1.length a1.2.1).bind fun v1 =>some (cQ .and .i64 (aK (cQ .and .i64 (cQ .xor .i64 (Int.fdiv (aK (aK (a1.2.2.1*6364136223846793005)+1442695040888963407)) (2 ^ min (Int.toNat 33) 64)) (Int.fdiv (aK (aK (a1.2.2.1*6364136223846793005)+1442695040888963407)) (2 ^ min (Int.toNat 45) 64))) 255+aK (J (ad.int .u8) a1.1 v1))) 255,(a1.1,aK (a1.2.1+1),aK (aK (a1.2.2.1*6364136223846793005)+1442695040888963407),()),())) (some (cQ .and .i64 (cQ .xor .i64 (Int.fdiv (aK (aK (a1.2.2.1*6364136223846793005)+1442695040888963407)) (2 ^ min (Int.toNat 33) 64)) (Int.fdiv (aK (aK (a1.2.2.1*6364136223846793005)+1442695040888963407)) (2 ^ min (Int.toNat 45) 64))) 255,(a1.1,a1.2.1,aK (aK (a1.2.2.1*6364136223846793005)+1442695040888963407),()),()))
def qF(x:br.D×Unit):Option (RT):=JE x.1
abbrev RU:Type:=Int×br.D×Unit
def JF(a1:br.D)(a2:Int):Option (RU) :=cond (decide (a2≤0)) (some (0,a1,())) (cond (decide (a2≤256)) ((qF (a1,())).bind fun v1 =>cond (a2 != 0) (some (Int.tmod v1.1 a2,v1.2.1,())) (none)) ((qF (a1,())).bind fun v2 =>(qF (v2.2.1,())).bind fun v3 =>(qF (v3.2.1,())).bind fun v4 =>(qF (v4.2.1,())).bind fun v5 =>cond (a2 != 0) (some (Int.tmod (aK (aK (aK (aK (v2.1*16777216)+aK (v3.1*65536))+aK (v4.1*256))+v5.1)) a2,v5.2.1,())) (none)))
def gr(x:br.D×Int×Unit):Option (RU):=JF x.1 x.2.1
abbrev RV:Type:=Bool×br.D×Unit
def abB(a1:br.D)(a2:Int):Option (RV) :=(gr (a1,a2,())).bind fun v1 =>some (v1.1==0,v1.2.1,())
def r9(x:br.D×Int×Unit):Option (RV):=abB x.1 x.2.1
def abC  : Option (af.D×Unit) :=some ((2,[(1,2,493,0,0,([]:List UInt8),([]:List ay.D),0,0,())],()),())
def y8(x:Unit):Option (af.D×Unit):=abC
def abD  : Option (af.D×Unit) :=some ((2,[(1,2,493,0,0,([]:List UInt8),([]:List ay.D),0,0,())],()),())
def JG(x:Unit):Option (af.D×Unit):=abD
abbrev w8:Type:=Int→af.D→af.D→af.D→Option (af.D×Unit)
def y9(k3:w8)(a1:af.D):Option (af.D×Unit) :=k3 0 a1 (0,([]:List I.D),()) (a1.1,([]:List I.D),())
def RW(k3:w8)(U:Int)(aa:af.D)(ae:af.D)(ai:af.D)(v3:List I.D):Option (af.D×Unit) :=k3 (aK (U+1)) aa ae (ai.1,v3,())
def RX(k3:w8)(ai:af.D)(aa:af.D)(v1:Nat)(U:Int)(ae:af.D)(v2:List ay.D):Option (af.D×Unit) :=cond (room (ai.2.1.length+[((J I aa.2.1 v1).1,(J I aa.2.1 v1).2.1,(J I aa.2.1 v1).2.2.1,(J I aa.2.1 v1).2.2.2.1,(J I aa.2.1 v1).2.2.2.2.1,(J I aa.2.1 v1).2.2.2.2.2.1,v2,(J I aa.2.1 v1).2.2.2.2.2.2.2.1,(J I aa.2.1 v1).2.2.2.2.2.2.2.2.1,())].length)) (RW k3 U aa ae ai (ai.2.1++[((J I aa.2.1 v1).1,(J I aa.2.1 v1).2.1,(J I aa.2.1 v1).2.2.1,(J I aa.2.1 v1).2.2.2.1,(J I aa.2.1 v1).2.2.2.2.1,(J I aa.2.1 v1).2.2.2.2.2.1,v2,(J I aa.2.1 v1).2.2.2.2.2.2.2.1,(J I aa.2.1 v1).2.2.2.2.2.2.2.2.1,())])) (none)
def y_(k3:w8)(U:Int)(aa:af.D)(ae:af.D)(ai:af.D):Option (af.D×Unit) :=cond (decide (U<(aa.2.1.length:Int))) ((aO aa.2.1.length U).bind fun v1 =>cond (room (([]:List ay.D).length +((J I aa.2.1 v1).2.2.2.2.2.2.1).length)) (RX k3 ai aa v1 U ae (([]:List ay.D)++((J I aa.2.1 v1).2.2.2.2.2.2.1))) (none)) (some (ai,()))
def pM:Nat→w8 | 0,_,_,_,_=>none | m+1,U,aa,ae,ai=>y_ (pM m) U aa ae ai
def lZ(x:af.D×Unit):Option (af.D×Unit):=y9 (pM aQ) x.1
abbrev w9:Type:=Int→af.D→af.D→af.D→Option (af.D×Unit)
def RY(k3:w9)(a1:af.D):Option (af.D×Unit) :=k3 0 a1 (0,([]:List I.D),()) (a1.1,([]:List I.D),())
def abE(k3:w9)(U:Int)(aa:af.D)(ae:af.D)(ai:af.D)(v3:List I.D):Option (af.D×Unit) :=k3 (aK (U+1)) aa ae (ai.1,v3,())
def abF(k3:w9)(ai:af.D)(aa:af.D)(v1:Nat)(U:Int)(ae:af.D)(v2:List ay.D):Option (af.D×Unit) :=cond (room (ai.2.1.length+[((J I aa.2.1 v1).1,(J I aa.2.1 v1).2.1,(J I aa.2.1 v1).2.2.1,(J I aa.2.1 v1).2.2.2.1,(J I aa.2.1 v1).2.2.2.2.1,(J I aa.2.1 v1).2.2.2.2.2.1,v2,(J I aa.2.1 v1).2.2.2.2.2.2.2.1,(J I aa.2.1 v1).2.2.2.2.2.2.2.2.1,())].length)) (abE k3 U aa ae ai (ai.2.1++[((J I aa.2.1 v1).1,(J I aa.2.1 v1).2.1,(J I aa.2.1 v1).2.2.1,(J I aa.2.1 v1).2.2.2.1,(J I aa.2.1 v1).2.2.2.2.1,(J I aa.2.1 v1).2.2.2.2.2.1,v2,(J I aa.2.1 v1).2.2.2.2.2.2.2.1,(J I aa.2.1 v1).2.2.2.2.2.2.2.2.1,())])) (none)
def JH(k3:w9)(U:Int)(aa:af.D)(ae:af.D)(ai:af.D):Option (af.D×Unit) :=cond (decide (U<(aa.2.1.length:Int))) ((aO aa.2.1.length U).bind fun v1 =>cond (room (([]:List ay.D).length +((J I aa.2.1 v1).2.2.2.2.2.2.1).length)) (abF k3 ai aa v1 U ae (([]:List ay.D)++((J I aa.2.1 v1).2.2.2.2.2.2.1))) (none)) (some (ai,()))
def y':Nat→w9 | 0,_,_,_,_=>none | m+1,U,aa,ae,ai=>JH (y' m) U aa ae ai
def za(x:af.D×Unit):Option (af.D×Unit):=RY (y' aQ) x.1
def JI(a1:Int)(a2:Int)(a3:Int):Option (Bool×Unit) :=cond (decide (a1≥a2)) (some (decide (a1≤a3),())) (some (false,()))
def ep(x:Int×Int×Int×Unit):Option (Bool×Unit):=JI x.1 x.2.1 x.2.2.1
abbrev CI:Type:=aJ.D→Option (Bool×Unit)
def CJ(bx:CI)(a1:aJ.D):Option (Bool×Unit) :=(ep (a1.1,1,22,())).bind fun v1 =>cond (!v1.1) (some (false,())) (cond (decide ((a1.2.1.length:Int)>60)) (some (false,())) (cond (decide ((a1.2.2.1.length:Int)>60)) (some (false,())) (cond (decide ((a1.2.2.2.2.2.1.length:Int)>64)) (some (false,())) ((ep (a1.2.2.2.1,(-1000000),1000000,())).bind fun v2 =>cond (!v2.1) (some (false,())) ((ep (a1.2.2.2.2.1,(-1000000),1000000,())).bind fun v3 =>cond (!v3.1) (some (false,())) (cond (!(bs a1.2.2.1 ([]:List UInt8))) (cond (a1.1 != 9) (cond (a1.1 != 10) (cond (a1.1 != 12) (some (false,())) (bx a1)) (bx a1)) (bx a1)) (bx a1)))))))
def JJ(bx:CI)(U:aJ.D):Option (Bool×Unit) :=cond (bs U.2.2.2.2.2.1 ([]:List UInt8)) (some (true,())) (cond (U.1==5) (some (true,())) (some (U.1==6,())))
def zb:Nat→CI | 0,_=>none | m+1,U=>JJ (zb m) U
def JK(x:aJ.D×Unit):Option (Bool×Unit):=CJ (zb aQ) x.1
def JL(a1:Int):Option (Bool×Unit) :=cond (decide (a1≥97)) (cond (decide (a1≤122)) (some (true,())) (cond (decide (a1≥48)) (cond (decide (a1≤57)) (some (true,())) (cond (a1==46) (some (true,())) (cond (a1==95) (some (true,())) (some (a1==45,()))))) (cond (a1==46) (some (true,())) (cond (a1==95) (some (true,())) (some (a1==45,())))))) (cond (decide (a1≥48)) (cond (decide (a1≤57)) (some (true,())) (cond (a1==46) (some (true,())) (cond (a1==95) (some (true,())) (some (a1==45,()))))) (cond (a1==46) (some (true,())) (cond (a1==95) (some (true,())) (some (a1==45,())))))
def zc(x:Int×Unit):Option (Bool×Unit):=JL x.1
abbrev CK:Type:=(List UInt8)→Int→Option (Bool×Unit)
def CL(bg:CK)(a1:List UInt8):Option (Bool×Unit) :=(ep ((a1.length:Int),1,60,())).bind fun v1 =>cond (!v1.1) (some (false,())) (bg a1 0)
def CM(bg:CK)(U:List UInt8)(aa:Int):Option (Bool×Unit) :=cond (decide (aa<(U.length:Int))) ((aO U.length aa).bind fun v1 =>cond (((U.getD v1 0).toNat:Int) != 47) ((aO U.length aa).bind fun v2 =>(zc (((U.getD v2 0).toNat:Int),())).bind fun v3 =>cond (!v3.1) (some (false,())) (bg U (aK (aa+1)))) (bg U (aK (aa+1)))) (some (true,()))
def ui:Nat→CK | 0,_,_=>none | m+1,U,aa=>CM (ui m) U aa
def zd(x:(List UInt8)×Unit):Option (Bool×Unit):=CL (ui aQ) x.1
abbrev CN:Type:=Int→aH.D→Option (Bool×Unit)
def CO(bg:CN)(a1:aH.D):Option (Bool×Unit) :=(ep (a1.1,0,1000,())).bind fun v1 =>cond (!v1.1) (some (false,())) ((ep (a1.2.1,0,1000,())).bind fun v2 =>cond (!v2.1) (some (false,())) (cond (decide ((a1.2.2.1.length:Int)>4)) (some (false,())) (bg 0 a1)))
def CP(bg:CN)(U:Int)(aa:aH.D):Option (Bool×Unit) :=cond (decide (U<(aa.2.2.1.length:Int))) ((aO aa.2.2.1.length U).bind fun v1 =>(ep (J (ad.int .i64) aa.2.2.1 v1,0,1000,())).bind fun v2 =>cond (!v2.1) (some (false,())) (bg (aK (U+1)) aa)) (some (true,()))
def uj:Nat→CN | 0,_,_=>none | m+1,U,aa=>CP (uj m) U aa
def w_(x:aH.D×Unit):Option (Bool×Unit):=CO (uj aQ) x.1
abbrev CQ:Type:=Int→Bool→Int→aH.D→Option (Bool×Unit)
def CR(bx:CQ)(a1:aH.D)(a2:Int):Option (Bool×Unit) :=(w_ (a1,())).bind fun v1 =>cond (!v1.1) (some (false,())) (bx a2 (a1.2.1==a2) 0 a1)
def CS(bx:CQ)(U:Int)(aa:Bool)(ae:Int)(ai:aH.D):Option (Bool×Unit) :=cond (decide (ae<(ai.2.2.1.length:Int))) (cond aa (bx U true (aK (ae+1)) ai) ((aO ai.2.2.1.length ae).bind fun v1 =>bx U (J (ad.int .i64) ai.2.2.1 v1==U) (aK (ae+1)) ai)) (some (aa,()))
def uk:Nat→CQ | 0,_,_,_,_=>none | m+1,U,aa,ae,ai=>CS (uk m) U aa ae ai
def um(x:aH.D×Int×Unit):Option (Bool×Unit):=CR (uk aQ) x.1 x.2.1
def JM(a1:aH.D)(a2:I.D)(a3:Int):Option (Bool×Unit) :=(w_ (a1,())).bind fun v1 =>cond (!v1.1) (some (false,())) ((ep (a3,0,7,())).bind fun v2 =>cond (!v2.1) (some (false,())) (cond (a1.1==0) (cond (cQ .and .i64 a3 1==0) (some (true,())) (cond (a2.2.1 != 1) (some (true,())) (some (cQ .and .i64 a2.2.2.1 73 != 0,())))) ((um (a1,a2.2.2.2.2.1,())).bind fun v3 =>cond v3.1 (cond (a1.1==a2.2.2.2.1) (some (cQ .and .i64 (cQ .and .i64 (Int.fdiv a2.2.2.1 (2 ^ min (Int.toNat 6) 64)) 7) a3==a3,())) (some (cQ .and .i64 (cQ .and .i64 (Int.fdiv a2.2.2.1 (2 ^ min (Int.toNat 3) 64)) 7) a3==a3,()))) (cond (a1.1==a2.2.2.2.1) (some (cQ .and .i64 (cQ .and .i64 (Int.fdiv a2.2.2.1 (2 ^ min (Int.toNat 6) 64)) 7) a3==a3,())) (some (cQ .and .i64 (cQ .and .i64 a2.2.2.1 7) a3==a3,()))))))
def jj(x:aH.D×I.D×Int×Unit):Option (Bool×Unit):=JM x.1 x.2.1 x.2.2.1
abbrev CT:Type:=(List UInt8)→Int→Option (Bool×Unit)
def CU(bg:CT)(a1:List UInt8):Option (Bool×Unit) :=(ep ((a1.length:Int),1,60,())).bind fun v1 =>cond (!v1.1) (some (false,())) ((aO a1.length 0).bind fun v2 =>cond (((a1.getD v2 0).toNat:Int) != 47) (some (false,())) (bg a1 0))
def CV(bg:CT)(U:List UInt8)(aa:Int):Option (Bool×Unit) :=cond (decide (aa<(U.length:Int))) ((aO U.length aa).bind fun v1 =>cond (((U.getD v1 0).toNat:Int) != 47) ((aO U.length aa).bind fun v2 =>(zc (((U.getD v2 0).toNat:Int),())).bind fun v3 =>cond (!v3.1) (some (false,())) (bg U (aK (aa+1)))) (bg U (aK (aa+1)))) (some (true,()))
def uo:Nat→CT | 0,_,_=>none | m+1,U,aa=>CV (uo m) U aa
def CW(x:(List UInt8)×Unit):Option (Bool×Unit):=CU (uo aQ) x.1
abbrev CX:Type:=Int→Int→af.D→Option (Int×Unit)
def CY(k2:CX)(a1:af.D)(a2:Int):Option (Int×Unit) :=k2 a2 0 a1
def CZ(k2:CX)(U:Int)(aa:Int)(ae:af.D):Option (Int×Unit) :=cond (decide (aa<(ae.2.1.length:Int))) ((aO ae.2.1.length aa).bind fun v1 =>cond ((J I ae.2.1 v1).1==U) (some (aa,())) (k2 U (aK (aa+1)) ae)) (some ((-1),()))
def uq:Nat→CX | 0,_,_,_=>none | m+1,U,aa,ae=>CZ (uq m) U aa ae
def jQ(x:af.D×Int×Unit):Option (Int×Unit):=CY (uq aQ) x.1 x.2.1
abbrev ze:Type:=(List (List UInt8))×Unit
abbrev C0:Type:=(List UInt8)→Int→Int→(List (List UInt8))→Option (ze)
def C1(bg:C0)(a1:List UInt8):Option (ze) :=bg a1 0 0 ([]:List (List UInt8))
def zf(bg:C0)(U:List UInt8)(aa:Int)(ae:Int)(ai:List (List UInt8)):Option (ze) :=cond (decide (ae≤(U.length:Int))) (cond (ae ==(U.length:Int)) (cond (decide (ae>aa)) ((du U.length aa ae).bind fun v1 =>cond (room (ai.length+[part U v1.1 (v1.2-v1.1)].length)) (bg U (aK (ae+1)) (aK (ae+1)) (ai++[part U v1.1 (v1.2-v1.1)])) (none)) (bg U (aK (ae+1)) (aK (ae+1)) ai)) ((aO U.length ae).bind fun v2 =>cond (((U.getD v2 0).toNat:Int)==47) (cond (decide (ae>aa)) ((du U.length aa ae).bind fun v3 =>cond (room (ai.length+[part U v3.1 (v3.2-v3.1)].length)) (bg U (aK (ae+1)) (aK (ae+1)) (ai++[part U v3.1 (v3.2-v3.1)])) (none)) (bg U (aK (ae+1)) (aK (ae+1)) ai)) (bg U aa (aK (ae+1)) ai))) (some (ai,()))
def qG:Nat→C0 | 0,_,_,_,_=>none | m+1,U,aa,ae,ai=>zf (qG m) U aa ae ai
def xa(x:(List UInt8)×Unit):Option (ze):=C1 (qG aQ) x.1
structure ur where
 k2:Int→Int→af.D→Option (Int×Unit)
 bx:Int→Int→Int→af.D→Option (Int×Unit)
def C2(k:ur)(a1:af.D)(a2:Int):Option (Int×Unit) :=k.k2 a2 0 a1
def uu(k:ur)(U:Int)(aa:Int)(ae:af.D):Option (Int×Unit) :=cond (decide (aa<(ae.2.1.length:Int))) (k.bx U aa 0 ae) (some (1,()))
def uv(k:ur)(U:Int)(aa:Int)(ae:Int)(ai:af.D):Option (Int×Unit) :=(aO ai.2.1.length aa).bind fun v1 =>cond (decide (ae<(((J I ai.2.1 v1).2.2.2.2.2.2.1).length:Int))) ((aO ai.2.1.length aa).bind fun v2 =>(aO (((J I ai.2.1 v2).2.2.2.2.2.2.1).length) ae).bind fun v3 =>cond ((J ay ((J I ai.2.1 v2).2.2.2.2.2.2.1) v3).2.1==U) ((aO ai.2.1.length aa).bind fun v4 =>some ((J I ai.2.1 v4).1,())) (k.bx U aa (aK (ae+1)) ai)) (k.k2 U (aK (aa+1)) ai)
def RZ(k:ur):ur:=⟨uu k,uv k⟩
def kG:Nat→ur:=eR RZ ⟨fun _ _ _=>none,fun _ _ _ _=>none⟩
def C3(x:af.D×Int×Unit):Option (Int×Unit):=C2 (kG aQ) x.1 x.2.1
abbrev C4:Type:=(List UInt8)→(List ay.D)→Int→Option (Int×Unit)
def C5(k3:C4)(a1:af.D)(a2:Int)(a3:List UInt8):Option (Int×Unit) :=(jQ (a1,a2,())).bind fun v1 =>(aO a1.2.1.length v1.1).bind fun v2 =>k3 a3 ((J I a1.2.1 v2).2.2.2.2.2.2.1) 0
def C6(k3:C4)(U:List UInt8)(aa:List ay.D)(ae:Int):Option (Int×Unit) :=cond (decide (ae<(aa.length:Int))) ((aO aa.length ae).bind fun v1 =>cond (bs ((J ay aa v1).1) U) ((aO aa.length ae).bind fun v2 =>some ((J ay aa v2).2.1,())) (k3 U aa (aK (ae+1)))) (some (0,()))
def r_:Nat→C4 | 0,_,_,_=>none | m+1,U,aa,ae=>C6 (r_ m) U aa ae
def JN(x:af.D×Int×(List UInt8)×Unit):Option (Int×Unit):=C5 (r_ aQ) x.1 x.2.1 x.2.2.1
structure pN where
 bg:Bool→Nat→Nat→Int→Int→af.D→aH.D→aV.D→(List (List UInt8))→Option (aV.D×Unit)
 r':Bool→Nat→Nat→Int→Int→(List UInt8)→Bool→Int→af.D→aH.D→aV.D→(List (List UInt8))→I.D→Option (aV.D×Unit)
 gD:Bool→Nat→Nat→Int→Int→af.D→aH.D→aV.D→(List (List UInt8))→I.D→Option (aV.D×Unit)
 uw:Bool→Nat→Nat→Int→Int→(List UInt8)→Bool→Int→af.D→aH.D→aV.D→(List (List UInt8))→I.D→Option (aV.D×Unit)
 oJ:Bool→Nat→Nat→Int→Int→af.D→aH.D→aV.D→(List (List UInt8))→I.D→Option (aV.D×Unit)
def xb(k:pN)(a1:af.D)(a2:aH.D)(a3:List UInt8)(a4:Bool):Option (aV.D×Unit) :=(xa (a3,())).bind fun v1 =>k.bg a4 0 v1.1.length 1 0 a1 a2 (0,([]:List UInt8),0,0,()) v1.1
def ix(k:pN)(U:Bool)(aa:Nat)(ae:Nat)(ai:Int)(an:Int)(aB:af.D)(aZ:aH.D)(bD:aV.D)(b_:List (List UInt8)):Option (aV.D×Unit) :=cond (decide ((ae:Int)>0)) ((aO ae 0).bind fun v1 =>(du ae 1 (ae:Int)).bind fun v2 =>(jQ (aB,ai,())).bind fun v3 =>(aO aB.2.1.length v3.1).bind fun v4 =>(jj (aZ,J I aB.2.1 v4,1,())).bind fun v5 =>cond (!v5.1) (some ((0,([]:List UInt8),0,13,()),())) (cond (bs (J ad.str b_ (aa+v1)) ([46]:List UInt8)) (k.bg U (aa+v2.1) (v2.2-v2.1) ai an aB aZ bD b_) (cond (bs (J ad.str b_ (aa+v1)) ([46,46]:List UInt8)) ((C3 (aB,ai,())).bind fun v6 =>k.bg U (aa+v2.1) (v2.2-v2.1) v6.1 an aB aZ bD b_) (cond (decide (((J ad.str b_ (aa+v1)).length:Int)>8)) (some ((0,([]:List UInt8),0,36,()),())) ((JN (aB,ai,J ad.str b_ (aa+v1),())).bind fun bp =>cond (bp.1==0) (cond ((((v2.2-v2.1):Nat):Int)==0) (some ((ai,J ad.str b_ (aa+v1),0,2,()),())) (some ((0,([]:List UInt8),0,2,()),()))) (dup ((jQ (aB,bp.1,())).bind fun dC =>(aO aB.2.1.length dC.1).bind fun v9 =>k.r' U (aa+v2.1) (v2.2-v2.1) ai an (J ad.str b_ (aa+v1)) ((((v2.2-v2.1):Nat):Int)==0) bp.1 aB aZ bD b_ (J I aB.2.1 v9)))))))) (some ((0,([]:List UInt8),ai,0,()),()))
def sa(k:pN)(U:Bool)(aa:Nat)(ae:Nat)(ai:Int)(an:Int)(aB:List UInt8)(aZ:Bool)(bD:Int)(b_:af.D)(er:aH.D)(kH:aV.D)(kI:List (List UInt8))(kb:I.D):Option (aV.D×Unit) :=cond (kb.2.1==3) (cond (!aZ) (k.gD U aa ae ai an b_ er kH kI kb) (cond U (k.gD U aa ae ai an b_ er kH kI kb) (k.uw U aa ae ai an aB aZ bD b_ er kH kI kb))) (k.uw U aa ae ai an aB aZ bD b_ er kH kI kb)
def zg(k:pN)(U:Bool)(aa:Nat)(ae:Nat)(ai:Int)(an:Int)(aB:af.D)(aZ:aH.D)(bD:aV.D)(b_:List (List UInt8))(er:I.D):Option (aV.D×Unit) :=cond (decide (aK (an+1)>8)) (some ((0,([]:List UInt8),0,40,()),())) ((aO er.2.2.2.2.2.1.length 0).bind fun v1 =>cond (((er.2.2.2.2.2.1.getD v1 0).toNat:Int)==47) (k.oJ U aa ae 1 (aK (an+1)) aB aZ bD b_ er) (k.oJ U aa ae ai (aK (an+1)) aB aZ bD b_ er))
def zh(k:pN)(U:Bool)(aa:Nat)(ae:Nat)(ai:Int)(an:Int)(aB:List UInt8)(aZ:Bool)(bD:Int)(b_:af.D)(er:aH.D)(kH:aV.D)(kI:List (List UInt8))(kb:I.D):Option (aV.D×Unit) :=cond aZ (some ((ai,aB,bD,0,()),())) (cond (kb.2.1 != 2) (some ((0,([]:List UInt8),0,20,()),())) (k.bg U aa ae bD an b_ er kH kI))
def zi(k:pN)(U:Bool)(aa:Nat)(ae:Nat)(ai:Int)(an:Int)(aB:af.D)(aZ:aH.D)(bD:aV.D)(b_:List (List UInt8))(er:I.D):Option (aV.D×Unit) :=(xa (er.2.2.2.2.2.1,())).bind fun v1 =>cond (room (v1.1.length +(part b_ aa ae).length)) (cond (decide (((v1.1++(part b_ aa ae)).length:Int)>40)) (some ((0,([]:List UInt8),0,36,()),())) (k.bg U 0 ((v1.1++(part b_ aa ae)).length) ai an aB aZ bD (v1.1++(part b_ aa ae)))) (none)
def R0(k:pN):pN:=⟨ix k,sa k,zg k,zh k,zi k⟩
def dd:Nat→pN:=eR R0 ⟨fun _ _ _ _ _ _ _ _ _=>none,fun _ _ _ _ _ _ _ _ _ _ _ _ _=>none,fun _ _ _ _ _ _ _ _ _ _=>none,fun _ _ _ _ _ _ _ _ _ _ _ _ _=>none,fun _ _ _ _ _ _ _ _ _ _=>none⟩
def C7(x:af.D×aH.D×(List UInt8)×Bool×Unit):Option (aV.D×Unit):=xb (dd aQ) x.1 x.2.1 x.2.2.1 x.2.2.2.1
def zj(a1:af.D)(a2:aH.D)(a3:List UInt8):Option (aV.D×Int×Unit) :=(CW (a3,())).bind fun v1 =>cond (!v1.1) (some ((0,([]:List UInt8),0,0,()),22,())) ((C7 (a1,a2,a3,false,())).bind fun v2 =>cond (v2.1.2.2.2.1==0) (some (v2.1,17,())) (cond (v2.1.2.2.2.1==2) (cond (!(bs v2.1.2.1 ([]:List UInt8))) (some (v2.1,0,())) (some (v2.1,v2.1.2.2.2.1,()))) (some (v2.1,v2.1.2.2.2.1,()))))
def ux(x:af.D×aH.D×(List UInt8)×Unit):Option (aV.D×Int×Unit):=zj x.1 x.2.1 x.2.2.1
def JO(a1:af.D)(a2:Int):Option (I.D×Unit) :=(jQ (a1,a2,())).bind fun v1 =>(aO a1.2.1.length v1.1).bind fun v2 =>some (J I a1.2.1 v2,())
def eS(x:af.D×Int×Unit):Option (I.D×Unit):=JO x.1 x.2.1
abbrev C8:Type:=Int→Int→af.D→Option (Int×Unit)
def C9(k3:C8)(a1:af.D):Option (Int×Unit) :=k3 0 0 a1
def C_(k3:C8)(U:Int)(aa:Int)(ae:af.D):Option (Int×Unit) :=cond (decide (aa<(ae.2.1.length:Int))) ((aO ae.2.1.length aa).bind fun v1 =>k3 (aK (U +(((J I ae.2.1 v1).2.2.2.2.2.1).length:Int))) (aK (aa+1)) ae) (some (U,()))
def uy:Nat→C8 | 0,_,_,_=>none | m+1,U,aa,ae=>C_ (uy m) U aa ae
def zk(x:af.D×Unit):Option (Int×Unit):=C9 (uy aQ) x.1
structure qH where
 dL:Int→af.D→(List Bool)→(List Bool)→Option ((List Bool)×Unit)
 db:Int→Int→af.D→(List Bool)→(List Bool)→Option ((List Bool)×Unit)
 qI:Int→Int→Int→af.D→(List Bool)→(List Bool)→Option ((List Bool)×Unit)
def abG(k:qH)(a1:af.D)(v3:List Bool):Option ((List Bool)×Unit) :=k.dL 0 a1 (List.replicate (Int.toNat (a1.2.1.length:Int)) (false:Bool)) v3
def C'(k:qH)(a1:af.D)(a2:Int):Option ((List Bool)×Unit) :=cond (decide (0≤(a1.2.1.length:Int))&&decide ((a1.2.1.length:Int)=(a1.2.1.length:Int))&&room (Int.toNat (a1.2.1.length:Int))) (cond (decide (0≤(a1.2.1.length:Int))&&decide ((a1.2.1.length:Int)=(a1.2.1.length:Int))&&room (Int.toNat (a1.2.1.length:Int))) ((jQ (a1,a2,())).bind fun v1 =>cond (decide (v1.1<0)) (some (List.replicate (Int.toNat (a1.2.1.length:Int)) (false:Bool),())) ((aO ((List.replicate (Int.toNat (a1.2.1.length:Int)) (false:Bool)).length) v1.1).bind fun v2 =>abG k a1 ((List.replicate (Int.toNat (a1.2.1.length:Int)) (false:Bool)).set (0+v2) true))) (none)) (none)
def zl(k:qH)(U:Int)(aa:af.D)(ae:List Bool)(ai:List Bool):Option ((List Bool)×Unit) :=cond (decide (U<(aa.2.1.length:Int))) (k.db U 0 aa ae ai) (some (ae,()))
def uz(k:qH)(U:Int)(aa:Int)(ae:af.D)(ai:List Bool)(an:List Bool):Option ((List Bool)×Unit) :=cond (decide (aa<(ae.2.1.length:Int))) ((aO an.length aa).bind fun v1 =>cond (!(J ad.bool an (0+v1))) (k.db U (aK (aa+1)) ae ai an) (k.qI U aa 0 ae ai an)) (k.dL (aK (U+1)) ae ai an)
def zm(k:qH)(U:Int)(aa:Int)(ae:Int)(ai:af.D)(an:List Bool)(aB:List Bool):Option ((List Bool)×Unit) :=(aO ai.2.1.length aa).bind fun v1 =>cond (decide (ae<(((J I ai.2.1 v1).2.2.2.2.2.2.1).length:Int))) ((aO ai.2.1.length aa).bind fun v2 =>(aO (((J I ai.2.1 v2).2.2.2.2.2.2.1).length) ae).bind fun v3 =>(jQ (ai,(J ay ((J I ai.2.1 v2).2.2.2.2.2.2.1) v3).2.1,())).bind fun v4 =>cond (decide (v4.1≥0)) ((aO an.length v4.1).bind fun v5 =>(aO aB.length v4.1).bind fun v6 =>k.qI U aa (aK (ae+1)) ai (an.set (0+v5) true) (aB.set (0+v6) true)) (k.qI U aa (aK (ae+1)) ai an aB)) (k.db U (aK (aa+1)) ai an aB)
def R1(k:qH):qH:=⟨zl k,uz k,zm k⟩
def kc:Nat→qH:=eR R1 ⟨fun _ _ _ _=>none,fun _ _ _ _ _=>none,fun _ _ _ _ _ _=>none⟩
def Da(x:af.D×Int×Unit):Option ((List Bool)×Unit):=C' (kc aQ) x.1 x.2.1
abbrev Db:Type:=Int→Int→Int→af.D→(List Bool)→Option (Int×Int×Unit)
def Dc(bx:Db)(a1:af.D)(a2:Int):Option (Int×Int×Unit) :=(Da (a1,a2,())).bind fun v1 =>bx 0 0 0 a1 v1.1
def Dd(bx:Db)(U:Int)(aa:Int)(ae:Int)(ai:af.D)(an:List Bool):Option (Int×Int×Unit) :=cond (decide (ae<(an.length:Int))) ((aO an.length ae).bind fun v1 =>cond (J ad.bool an (0+v1)) ((aO ai.2.1.length ae).bind fun v2 =>bx (aK (U +(((J I ai.2.1 v2).2.2.2.2.2.1).length:Int))) (aK (aa+1)) (aK (ae+1)) ai an) (bx U aa (aK (ae+1)) ai an)) (some (U,aa,()))
def uA:Nat→Db | 0,_,_,_,_,_=>none | m+1,U,aa,ae,ai,an=>Dd (uA m) U aa ae ai an
def zn(x:af.D×Int×Unit):Option (Int×Int×Unit):=Dc (uA aQ) x.1 x.2.1
structure uB where
 k2:Int→af.D→Option (Bool×Unit)
 dg:Int→af.D→I.D→Option (Bool×Unit)
def De(k:uB)(a1:af.D):Option (Bool×Unit) :=k.k2 0 a1
def zo(k:uB)(U:Int)(aa:af.D):Option (Bool×Unit) :=cond (decide (U<(aa.2.1.length:Int))) ((aO aa.2.1.length U).bind fun v1 =>cond ((J I aa.2.1 v1).2.1 != 2) (k.k2 (aK (U+1)) aa) (cond ((J I aa.2.1 v1).2.2.2.2.2.2.2.1==0) (cond ((J I aa.2.1 v1).2.2.2.2.2.2.2.2.1==0) (k.k2 (aK (U+1)) aa) (k.dg U aa (J I aa.2.1 v1))) (k.dg U aa (J I aa.2.1 v1)))) (some (false,()))
def JP(k:uB)(U:Int)(aa:af.D)(ae:I.D):Option (Bool×Unit) :=(zn (aa,ae.1,())).bind fun v1 =>cond (decide (ae.2.2.2.2.2.2.2.1>0)) (cond (decide (v1.1>ae.2.2.2.2.2.2.2.1)) (some (true,())) (cond (decide (ae.2.2.2.2.2.2.2.2.1>0)) (cond (decide (v1.2.1>ae.2.2.2.2.2.2.2.2.1)) (some (true,())) (k.k2 (aK (U+1)) aa)) (k.k2 (aK (U+1)) aa))) (cond (decide (ae.2.2.2.2.2.2.2.2.1>0)) (cond (decide (v1.2.1>ae.2.2.2.2.2.2.2.2.1)) (some (true,())) (k.k2 (aK (U+1)) aa)) (k.k2 (aK (U+1)) aa))
def R2(k:uB):uB:=⟨zo k,JP k⟩
def kd:Nat→uB:=eR R2 ⟨fun _ _=>none,fun _ _ _=>none⟩
def Df(x:af.D×Unit):Option (Bool×Unit):=De (kd aQ) x.1
def JQ(a1:af.D):Option (Int×Unit) :=(zk (a1,())).bind fun v1 =>cond (decide (v1.1>400)) (some (28,())) ((Df (a1,())).bind fun v2 =>cond v2.1 (some (122,())) (some (0,())))
def JR(x:af.D×Unit):Option (Int×Unit):=JQ x.1
abbrev R3:Type:=af.D×aF.D×Unit
def JS(a1:af.D)(a2:af.D):Option (R3) :=(JR (a2,())).bind fun v1 =>cond (v1.1 != 0) (some (a1,(v1.1,([]:List UInt8),()),())) (some (a2,(0,([]:List UInt8),()),()))
def qJ(x:af.D×af.D×Unit):Option (R3):=JS x.1 x.2.1
def zp(a1:af.D)(a2:I.D):Option (af.D×Unit) :=(jQ (a1,a2.1,())).bind fun v1 =>cond (decide (v1.1<0)) (cond (room (a1.2.1.length+[a2].length)) (some ((a1.1,a1.2.1++[a2],()),())) (none)) ((aO a1.2.1.length v1.1).bind fun v2 =>some ((a1.1,a1.2.1.set (0+v2) a2,()),()))
def oK(x:af.D×I.D×Unit):Option (af.D×Unit):=zp x.1 x.2.1
structure sb where
 bx:(List UInt8)→Int→Bool→Int→af.D→af.D→I.D→(List ay.D)→Option (af.D×Unit)
 gp:(List UInt8)→Int→Bool→Int→af.D→af.D→I.D→(List ay.D)→Option (af.D×Unit)
 hW:af.D→af.D→I.D→(List ay.D)→Option (af.D×Unit)
def Dg(k:sb)(a1:af.D)(a2:Int)(a3:List UInt8)(a4:Int):Option (af.D×Unit) :=(eS (a1,a2,())).bind fun v1 =>k.bx a3 a4 false 0 a1 (0,([]:List I.D),()) v1.1 ([]:List ay.D)
def oL(k:sb)(U:List UInt8)(aa:Int)(ae:Bool)(ai:Int)(an:af.D)(aB:af.D)(aZ:I.D)(bD:List ay.D):Option (af.D×Unit) :=cond (decide (ai<(aZ.2.2.2.2.2.2.1.length:Int))) (cond (!ae) ((aO aZ.2.2.2.2.2.2.1.length ai).bind fun v1 =>cond (dz U ((J ay aZ.2.2.2.2.2.2.1 v1).1)) (cond (room (bD.length+[(U,aa,())].length)) (k.gp U aa true ai an aB aZ (bD++[(U,aa,())])) (none)) (k.gp U aa ae ai an aB aZ bD)) (k.gp U aa ae ai an aB aZ bD)) (cond (!ae) (cond (room (bD.length+[(U,aa,())].length)) (k.hW an aB aZ (bD++[(U,aa,())])) (none)) (k.hW an aB aZ bD))
def uC(k:sb)(U:List UInt8)(aa:Int)(ae:Bool)(ai:Int)(an:af.D)(aB:af.D)(aZ:I.D)(bD:List ay.D):Option (af.D×Unit) :=(aO aZ.2.2.2.2.2.2.1.length ai).bind fun v1 =>cond (room (bD.length+[J ay aZ.2.2.2.2.2.2.1 v1].length)) (k.bx U aa ae (aK (ai+1)) an aB aZ (bD++[J ay aZ.2.2.2.2.2.2.1 v1])) (none)
def JT(k:sb)(U:af.D)(aa:af.D)(ae:I.D)(ai:List ay.D):Option (af.D×Unit) :=(oK (U,(ae.1,ae.2.1,ae.2.2.1,ae.2.2.2.1,ae.2.2.2.2.1,ae.2.2.2.2.2.1,ai,ae.2.2.2.2.2.2.2.1,ae.2.2.2.2.2.2.2.2.1,()),())).bind fun v1 =>some (v1.1,())
def R4(k:sb):sb:=⟨oL k,uC k,JT k⟩
def iO:Nat→sb:=eR R4 ⟨fun _ _ _ _ _ _ _ _=>none,fun _ _ _ _ _ _ _ _=>none,fun _ _ _ _=>none⟩
def sc(x:af.D×Int×(List UInt8)×Int×Unit):Option (af.D×Unit):=Dg (iO aQ) x.1 x.2.1 x.2.2.1 x.2.2.2.1
abbrev oM:Type:=af.D×aF.D×Unit
structure qK where
 k3:af.D→aH.D→aJ.D→af.D→aF.D→Option (oM)
 pO:af.D→aJ.D→af.D→aF.D→aV.D→I.D→I.D→Option (oM)
 gR:af.D→af.D→aF.D→aV.D→I.D→I.D→Option (oM)
 gD:af.D→af.D→aF.D→aV.D→I.D→Option (oM)
def Dh(k:qK)(a1:af.D)(a2:aH.D)(a3:aJ.D):Option (oM) :=cond (a3.1==10) ((zd (a3.2.2.1,())).bind fun v1 =>cond (!v1.1) (some (a1,(22,([]:List UInt8),()),())) (cond (a3.1 != 10) ((ep (a3.2.2.2.1,0,2047,())).bind fun v2 =>cond (!v2.1) (some (a1,(22,([]:List UInt8),()),())) (k.k3 a1 a2 a3 (0,([]:List I.D),()) (0,([]:List UInt8),()))) (k.k3 a1 a2 a3 (0,([]:List I.D),()) (0,([]:List UInt8),())))) (cond (a3.1 != 10) ((ep (a3.2.2.2.1,0,2047,())).bind fun v3 =>cond (!v3.1) (some (a1,(22,([]:List UInt8),()),())) (k.k3 a1 a2 a3 (0,([]:List I.D),()) (0,([]:List UInt8),()))) (k.k3 a1 a2 a3 (0,([]:List I.D),()) (0,([]:List UInt8),())))
def JU(k:qK)(U:af.D)(aa:aH.D)(ae:aJ.D)(ai:af.D)(an:aF.D):Option (oM) :=(ux (U,aa,ae.2.1,())).bind fun v1 =>cond (v1.2.1 != 0) (some (U,(v1.2.1,([]:List UInt8),()),())) ((eS (U,v1.1.1,())).bind fun v2 =>(jj (aa,v2.1,3,())).bind fun v3 =>cond (!v3.1) (some (U,(13,([]:List UInt8),()),())) (cond (decide ((v2.1.2.2.2.2.2.2.1.length:Int)≥12)) (some (U,(28,([]:List UInt8),()),())) (cond (decide ((U.2.1.length:Int)≥24)) (some (U,(28,([]:List UInt8),()),())) (cond (decide (U.1≥100000)) (some (U,(28,([]:List UInt8),()),())) (cond (ae.1==1) (k.pO U ae ai an v1.1 v2.1 (U.1,2,ae.2.2.2.1,aa.1,aa.2.1,([]:List UInt8),([]:List ay.D),0,0,())) (k.pO U ae ai an v1.1 v2.1 (U.1,1,ae.2.2.2.1,aa.1,aa.2.1,([]:List UInt8),([]:List ay.D),0,0,())))))))
def abH(k:qK)(U:af.D)(aa:aJ.D)(ae:af.D)(ai:aF.D)(an:aV.D)(aB:I.D)(aZ:I.D):Option (oM) :=cond (aa.1==10) (k.gR U ae ai an aB (aZ.1,3,511,aZ.2.2.2.1,aZ.2.2.2.2.1,aa.2.2.1,aZ.2.2.2.2.2.2.1,aZ.2.2.2.2.2.2.2.1,aZ.2.2.2.2.2.2.2.2.1,())) (k.gR U ae ai an aB aZ)
def abI(k:qK)(U:af.D)(aa:af.D)(ae:aF.D)(ai:aV.D)(an:I.D)(aB:I.D):Option (oM) :=cond (cQ .and .i64 an.2.2.1 1024 != 0) (cond (aB.2.1==2) (k.gD U aa ae ai (aB.1,aB.2.1,cQ .or .i64 aB.2.2.1 1024,aB.2.2.2.1,an.2.2.2.2.1,aB.2.2.2.2.2.1,aB.2.2.2.2.2.2.1,aB.2.2.2.2.2.2.2.1,aB.2.2.2.2.2.2.2.2.1,())) (k.gD U aa ae ai (aB.1,aB.2.1,aB.2.2.1,aB.2.2.2.1,an.2.2.2.2.1,aB.2.2.2.2.2.1,aB.2.2.2.2.2.2.1,aB.2.2.2.2.2.2.2.1,aB.2.2.2.2.2.2.2.2.1,()))) (k.gD U aa ae ai aB)
def JV(k:qK)(U:af.D)(aa:af.D)(ae:aF.D)(ai:aV.D)(an:I.D):Option (oM) :=(lZ (U,())).bind fun v1 =>(oK ((aK (v1.1.1+1),v1.1.2.1,()),an,())).bind fun v2 =>(sc (v2.1,ai.1,ai.2.1,an.1,())).bind fun v3 =>(qJ (U,v3.1,())).bind fun v4 =>some (v4.1,v4.2.1,())
def R5(k:qK):qK:=⟨JU k,abH k,abI k,JV k⟩
def jR:Nat→qK:=eR R5 ⟨fun _ _ _ _ _=>none,fun _ _ _ _ _ _ _=>none,fun _ _ _ _ _ _=>none,fun _ _ _ _ _=>none⟩
def uD(x:af.D×aH.D×aJ.D×Unit):Option (oM):=Dh (jR aQ) x.1 x.2.1 x.2.2.1
def qL(a1:af.D)(a2:aH.D)(a3:List UInt8)(a4:Bool):Option (aV.D×Unit) :=(CW (a3,())).bind fun v1 =>cond (!v1.1) (some ((0,([]:List UInt8),0,22,()),())) ((C7 (a1,a2,a3,a4,())).bind fun v2 =>some (v2.1,()))
def dQ(x:af.D×aH.D×(List UInt8)×Bool×Unit):Option (aV.D×Unit):=qL x.1 x.2.1 x.2.2.1 x.2.2.2.1
def JW(a1:aH.D)(a2:I.D)(a3:I.D):Option (Bool×Unit) :=(w_ (a1,())).bind fun v1 =>cond (!v1.1) (some (false,())) (cond (cQ .and .i64 a2.2.2.1 512==0) (some (true,())) (cond (a1.1==0) (some (true,())) (cond (a1.1==a2.2.2.2.1) (some (true,())) (some (a1.1==a3.2.2.2.1,())))))
def xc(x:aH.D×I.D×I.D×Unit):Option (Bool×Unit):=JW x.1 x.2.1 x.2.2.1
structure uE where
 k3:Int→Int→Int→af.D→Option (Int×Unit)
 dg:Int→Int→Int→Int→af.D→Option (Int×Unit)
def Di(k:uE)(a1:af.D)(a2:Int):Option (Int×Unit) :=k.k3 a2 0 0 a1
def zq(k:uE)(U:Int)(aa:Int)(ae:Int)(ai:af.D):Option (Int×Unit) :=cond (decide (ae<(ai.2.1.length:Int))) (k.dg U aa ae 0 ai) (some (aa,()))
def zr(k:uE)(U:Int)(aa:Int)(ae:Int)(ai:Int)(an:af.D):Option (Int×Unit) :=(aO an.2.1.length ae).bind fun v1 =>cond (decide (ai<(((J I an.2.1 v1).2.2.2.2.2.2.1).length:Int))) ((aO an.2.1.length ae).bind fun v2 =>(aO (((J I an.2.1 v2).2.2.2.2.2.2.1).length) ai).bind fun v3 =>cond ((J ay ((J I an.2.1 v2).2.2.2.2.2.2.1) v3).2.1==U) (k.dg U (aK (aa+1)) ae (aK (ai+1)) an) (k.dg U aa ae (aK (ai+1)) an)) (k.k3 U aa (aK (ae+1)) an)
def R6(k:uE):uE:=⟨zq k,zr k⟩
def pP:Nat→uE:=eR R6 ⟨fun _ _ _ _=>none,fun _ _ _ _ _=>none⟩
def zs(x:af.D×Int×Unit):Option (Int×Unit):=Di (pP aQ) x.1 x.2.1
structure uF where
 bx:(List UInt8)→Int→Int→af.D→af.D→I.D→(List ay.D)→Option (af.D×Unit)
 jS:Int→Int→af.D→af.D→(List I.D)→Option (af.D×Unit)
def Dj(k:uF)(a1:af.D)(a2:Int)(a3:List UInt8):Option (af.D×Unit) :=(eS (a1,a2,())).bind fun v1 =>k.bx a3 0 0 a1 (0,([]:List I.D),()) v1.1 ([]:List ay.D)
def zt(k:uF)(U:List UInt8)(aa:Int)(ae:Int)(ai:af.D)(an:af.D)(aB:I.D)(aZ:List ay.D):Option (af.D×Unit) :=cond (decide (ae<(aB.2.2.2.2.2.2.1.length:Int))) ((aO aB.2.2.2.2.2.2.1.length ae).bind fun v1 =>cond (bs ((J ay aB.2.2.2.2.2.2.1 v1).1) U) ((aO aB.2.2.2.2.2.2.1.length ae).bind fun v2 =>k.bx U ((J ay aB.2.2.2.2.2.2.1 v2).2.1) (aK (ae+1)) ai an aB aZ) ((aO aB.2.2.2.2.2.2.1.length ae).bind fun v3 =>cond (room (aZ.length+[J ay aB.2.2.2.2.2.2.1 v3].length)) (k.bx U aa (aK (ae+1)) ai an aB (aZ++[J ay aB.2.2.2.2.2.2.1 v3])) (none))) ((oK (ai,(aB.1,aB.2.1,aB.2.2.1,aB.2.2.2.1,aB.2.2.2.2.1,aB.2.2.2.2.2.1,aZ,aB.2.2.2.2.2.2.2.1,aB.2.2.2.2.2.2.2.2.1,()),())).bind fun v4 =>(zs (v4.1,aa,())).bind fun v5 =>cond (decide (v5.1>0)) (some (v4.1,())) (k.jS aa 0 v4.1 an ([]:List I.D)))
def zu(k:uF)(U:Int)(aa:Int)(ae:af.D)(ai:af.D)(an:List I.D):Option (af.D×Unit) :=cond (decide (aa<(ae.2.1.length:Int))) ((aO ae.2.1.length aa).bind fun v1 =>cond ((J I ae.2.1 (0+v1)).1 != U) ((aO ae.2.1.length aa).bind fun v2 =>cond (room (an.length+[J I ae.2.1 (0+v2)].length)) (k.jS U (aK (aa+1)) ae ai (an++[J I ae.2.1 (0+v2)])) (none)) (k.jS U (aK (aa+1)) ae ai an)) (some ((ae.1,an,()),()))
def R7(k:uF):uF:=⟨zt k,zu k⟩
def k_:Nat→uF:=eR R7 ⟨fun _ _ _ _ _ _ _=>none,fun _ _ _ _ _=>none⟩
def oN(x:af.D×Int×(List UInt8)×Unit):Option (af.D×Unit):=Dj (k_ aQ) x.1 x.2.1 x.2.2.1
abbrev qM:Type:=af.D×aF.D×Unit
structure sd where
 da:af.D→aH.D→aJ.D→af.D→aF.D→aV.D→I.D→Option (qM)
 hg:af.D→aH.D→aJ.D→af.D→aF.D→aV.D→I.D→Option (qM)
 db:af.D→aH.D→af.D→aF.D→aV.D→I.D→Option (qM)
def Dk(k:sd)(a1:af.D)(a2:aH.D)(a3:aJ.D):Option (qM) :=(dQ (a1,a2,a3.2.1,false,())).bind fun v1 =>cond (v1.1.2.2.2.1 != 0) (some (a1,(v1.1.2.2.2.1,([]:List UInt8),()),())) ((eS (a1,v1.1.2.2.1,())).bind fun v2 =>cond (a3.1==2) (cond (bs v1.1.2.1 ([]:List UInt8)) (some (a1,(16,([]:List UInt8),()),())) (k.da a1 a2 a3 (0,([]:List I.D),()) (0,([]:List UInt8),()) v1.1 v2.1)) (k.da a1 a2 a3 (0,([]:List I.D),()) (0,([]:List UInt8),()) v1.1 v2.1))
def JX(k:sd)(U:af.D)(aa:aH.D)(ae:aJ.D)(ai:af.D)(an:aF.D)(aB:aV.D)(aZ:I.D):Option (qM) :=cond (ae.1==2) (cond (aZ.2.1 != 2) (some (U,(20,([]:List UInt8),()),())) (k.hg U aa ae ai an aB aZ)) (k.hg U aa ae ai an aB aZ)
def JY(k:sd)(U:af.D)(aa:aH.D)(ae:aJ.D)(ai:af.D)(an:aF.D)(aB:aV.D)(aZ:I.D):Option (qM) :=cond (ae.1==8) (cond (aZ.2.1==2) (some (U,(21,([]:List UInt8),()),())) (k.db U aa ai an aB aZ)) (k.db U aa ai an aB aZ)
def JZ(k:sd)(U:af.D)(aa:aH.D)(ae:af.D)(ai:aF.D)(an:aV.D)(aB:I.D):Option (qM) :=(eS (U,an.1,())).bind fun v1 =>(jj (aa,v1.1,3,())).bind fun v2 =>cond (!v2.1) (some (U,(13,([]:List UInt8),()),())) ((xc (aa,v1.1,aB,())).bind fun v3 =>cond (!v3.1) (some (U,(1,([]:List UInt8),()),())) (cond (decide ((aB.2.2.2.2.2.2.1.length:Int)>0)) (some (U,(39,([]:List UInt8),()),())) ((lZ (U,())).bind fun v4 =>(oN (v4.1,an.1,an.2.1,())).bind fun v5 =>some (v5.1,(0,([]:List UInt8),()),()))))
def R8(k:sd):sd:=⟨JX k,JY k,JZ k⟩
def qN:Nat→sd:=eR R8 ⟨fun _ _ _ _ _ _ _=>none,fun _ _ _ _ _ _ _=>none,fun _ _ _ _ _ _=>none⟩
def zv(x:af.D×aH.D×aJ.D×Unit):Option (qM):=Dk (qN aQ) x.1 x.2.1 x.2.2.1
def J0(a1:af.D)(a2:Int):Option (Bool×Unit) :=(jQ (a1,a2,())).bind fun v1 =>cond (decide (v1.1≥0)) ((aO a1.2.1.length v1.1).bind fun v2 =>some ((J I a1.2.1 v2).2.1==2,())) (some (false,()))
def xd(x:af.D×Int×Unit):Option (Bool×Unit):=J0 x.1 x.2.1
abbrev R9:Type:=af.D×aF.D×Unit
def J1(a1:af.D)(a2:aH.D)(a3:aJ.D):Option (R9) :=(dQ (a1,a2,a3.2.1,false,())).bind fun v1 =>cond (v1.1.2.2.2.1 != 0) (some (a1,(v1.1.2.2.2.1,([]:List UInt8),()),())) ((xd (a1,v1.1.2.2.1,())).bind fun v2 =>cond v2.1 (some (a1,(1,([]:List UInt8),()),())) ((ux (a1,a2,a3.2.2.1,())).bind fun v3 =>cond (v3.2.1 != 0) (some (a1,(v3.2.1,([]:List UInt8),()),())) ((eS (a1,v3.1.1,())).bind fun v4 =>(jj (a2,v4.1,3,())).bind fun v5 =>cond (!v5.1) (some (a1,(13,([]:List UInt8),()),())) (cond (decide ((v4.1.2.2.2.2.2.2.1.length:Int)≥12)) (some (a1,(28,([]:List UInt8),()),())) ((lZ (a1,())).bind fun v6 =>(sc (v6.1,v3.1.1,v3.1.2.1,v1.1.2.2.1,())).bind fun bp =>(qJ (a1,bp.1,())).bind fun dC =>some (dC.1,dC.2.1,()))))))
def Dl(x:af.D×aH.D×aJ.D×Unit):Option (R9):=J1 x.1 x.2.1 x.2.2.1
abbrev Dm:Type:=Int→Int→Int→af.D→Option (Bool×Unit)
def Dn(k2:Dm)(a1:af.D)(a2:Int)(a3:Int):Option (Bool×Unit) :=k2 a2 a3 0 a1
def Dp(k2:Dm)(U:Int)(aa:Int)(ae:Int)(ai:af.D):Option (Bool×Unit) :=cond (decide (ae≤(ai.2.1.length:Int))) (cond (U==aa) (some (true,())) (cond (U==1) (some (false,())) ((C3 (ai,U,())).bind fun v1 =>k2 v1.1 aa (aK (ae+1)) ai))) (some (false,()))
def uG:Nat→Dm | 0,_,_,_,_=>none | m+1,U,aa,ae,ai=>Dp (uG m) U aa ae ai
def zw(x:af.D×Int×Int×Unit):Option (Bool×Unit):=Dn (uG aQ) x.1 x.2.1 x.2.2.1
abbrev mN:Type:=af.D×aF.D×Unit
structure pQ where
 da:af.D→aH.D→af.D→aF.D→aV.D→aV.D→Option (mN)
 gR:af.D→aH.D→af.D→aF.D→aV.D→aV.D→I.D→I.D→Option (mN)
 oJ:af.D→af.D→aF.D→aV.D→aV.D→I.D→af.D→I.D→Option (mN)
 mO:af.D→af.D→aF.D→aV.D→aV.D→af.D→Option (mN)
 J2:af.D→af.D→aF.D→aV.D→aV.D→I.D→af.D→I.D→Option (mN)
def Dq(k:pQ)(a1:af.D)(a2:aH.D)(a3:aJ.D):Option (mN) :=(dQ (a1,a2,a3.2.1,false,())).bind fun v1 =>cond (v1.1.2.2.2.1 != 0) (some (a1,(v1.1.2.2.2.1,([]:List UInt8),()),())) ((dQ (a1,a2,a3.2.2.1,false,())).bind fun v2 =>cond (v2.1.2.2.2.1 != 0) (cond (v2.1.2.2.2.1 != 2) (some (a1,(v2.1.2.2.2.1,([]:List UInt8),()),())) (cond (bs v2.1.2.1 ([]:List UInt8)) (some (a1,(v2.1.2.2.2.1,([]:List UInt8),()),())) (k.da a1 a2 (0,([]:List I.D),()) (0,([]:List UInt8),()) v1.1 v2.1))) (k.da a1 a2 (0,([]:List I.D),()) (0,([]:List UInt8),()) v1.1 v2.1))
def J3(k:pQ)(U:af.D)(aa:aH.D)(ae:af.D)(ai:aF.D)(an:aV.D)(aB:aV.D):Option (mN) :=cond (bs an.2.1 ([]:List UInt8)) (some (U,(16,([]:List UInt8),()),())) (cond (bs aB.2.1 ([]:List UInt8)) (some (U,(16,([]:List UInt8),()),())) ((eS (U,an.1,())).bind fun v1 =>(eS (U,aB.1,())).bind fun v2 =>(eS (U,an.2.2.1,())).bind fun v3 =>(jj (aa,v1.1,3,())).bind fun v4 =>cond (!v4.1) (some (U,(13,([]:List UInt8),()),())) ((jj (aa,v2.1,3,())).bind fun v5 =>cond (!v5.1) (some (U,(13,([]:List UInt8),()),())) ((xc (aa,v1.1,v3.1,())).bind fun v6 =>cond (!v6.1) (some (U,(1,([]:List UInt8),()),())) (cond (v3.1.2.1==2) ((zw (U,aB.1,an.2.2.1,())).bind fun bp =>cond bp.1 (some (U,(22,([]:List UInt8),()),())) (k.gR U aa ae ai an aB v2.1 v3.1)) (k.gR U aa ae ai an aB v2.1 v3.1))))))
def J4(k:pQ)(U:af.D)(aa:aH.D)(ae:af.D)(ai:aF.D)(an:aV.D)(aB:aV.D)(aZ:I.D)(bD:I.D):Option (mN) :=(lZ (U,())).bind fun v1 =>cond (decide (aB.2.2.1>0)) (cond (aB.2.2.1==an.2.2.1) (some (U,(0,([]:List UInt8),()),())) ((eS (U,aB.2.2.1,())).bind fun v2 =>(xc (aa,aZ,v2.1,())).bind fun v3 =>cond (!v3.1) (some (U,(1,([]:List UInt8),()),())) (cond (bD.2.1==2) (cond (v2.1.2.1 != 2) (some (U,(20,([]:List UInt8),()),())) (k.oJ U ae ai an aB bD v1.1 v2.1)) (k.oJ U ae ai an aB bD v1.1 v2.1)))) (cond (an.1 != aB.1) (cond (decide ((aZ.2.2.2.2.2.2.1.length:Int)≥12)) (some (U,(28,([]:List UInt8),()),())) (k.mO U ae ai an aB v1.1)) (k.mO U ae ai an aB v1.1))
def J5(k:pQ)(U:af.D)(aa:af.D)(ae:aF.D)(ai:aV.D)(an:aV.D)(aB:I.D)(aZ:af.D)(bD:I.D):Option (mN) :=cond (aB.2.1==2) (cond (decide ((bD.2.2.2.2.2.2.1.length:Int)>0)) (some (U,(39,([]:List UInt8),()),())) (k.J2 U aa ae ai an aB aZ bD)) (k.J2 U aa ae ai an aB aZ bD)
def J6(k:pQ)(U:af.D)(aa:af.D)(ae:aF.D)(ai:aV.D)(an:aV.D)(aB:af.D):Option (mN) :=(sc (aB,an.1,an.2.1,ai.2.2.1,())).bind fun v1 =>(oN (v1.1,ai.1,ai.2.1,())).bind fun v2 =>(qJ (U,v2.1,())).bind fun v3 =>some (v3.1,v3.2.1,())
def J7(k:pQ)(U:af.D)(aa:af.D)(ae:aF.D)(ai:aV.D)(an:aV.D)(aB:I.D)(aZ:af.D)(bD:I.D):Option (mN) :=cond (aB.2.1 != 2) (cond (bD.2.1==2) (some (U,(21,([]:List UInt8),()),())) ((oN (aZ,an.1,an.2.1,())).bind fun v1 =>k.mO U aa ae ai an v1.1)) ((oN (aZ,an.1,an.2.1,())).bind fun v2 =>k.mO U aa ae ai an v2.1)
def R_(k:pQ):pQ:=⟨J3 k,J4 k,J5 k,J6 k,J7 k⟩
def gE:Nat→pQ:=eR R_ ⟨fun _ _ _ _ _ _=>none,fun _ _ _ _ _ _ _ _=>none,fun _ _ _ _ _ _ _ _=>none,fun _ _ _ _ _ _=>none,fun _ _ _ _ _ _ _ _=>none⟩
def Dr(x:af.D×aH.D×aJ.D×Unit):Option (mN):=Dq (gE aQ) x.1 x.2.1 x.2.2.1
structure se where
 k2:Int→(List UInt8)→(List Int)→Option ((List UInt8)×Unit)
 bx:Int→(List UInt8)→Int→(List Int)→Option ((List UInt8)×Unit)
def Ds(k:se)(a1:List UInt8)(a2:Int)(a3:List UInt8):Option ((List UInt8)×Unit) :=k.k2 a2 a3 (eA a1)
def zx(k:se)(U:Int)(aa:List UInt8)(ae:List Int):Option ((List UInt8)×Unit) :=cond (decide ((ae.length:Int)<aK (U +(aa.length:Int)))) (cond (room (ae.length+[0].length)) (k.k2 U aa (ae++[0])) (none)) (k.bx U aa 0 ae)
def R'(k:se)(U:Int)(aa:List UInt8)(ae:Int)(v3:List Int):Option ((List UInt8)×Unit) :=k.bx U aa (aK (ae+1)) v3
def zy(k:se)(U:Int)(aa:List UInt8)(ae:Int)(ai:List Int):Option ((List UInt8)×Unit) :=cond (decide (ae<(aa.length:Int))) ((aO aa.length ae).bind fun v1 =>(aO ai.length (aK (U+ae))).bind fun v2 =>R' k U aa ae (ai.set (0+v2) ((aa.getD v1 0).toNat:Int))) (some (gI ai,()))
def Sa(k:se):se:=⟨zx k,zy k⟩
def nG:Nat→se:=eR Sa ⟨fun _ _ _=>none,fun _ _ _ _=>none⟩
def qO(x:(List UInt8)×Int×(List UInt8)×Unit):Option ((List UInt8)×Unit):=Ds (nG aQ) x.1 x.2.1 x.2.2.1
abbrev uH:Type:=af.D×aF.D×Unit
structure uI where
 la:Int→af.D→aJ.D→af.D→aF.D→I.D→Option (uH)
 hK:af.D→af.D→aF.D→I.D→Option (uH)
def sf(k:uI)(a1:af.D)(a2:aH.D)(a3:aJ.D):Option (uH) :=(dQ (a1,a2,a3.2.1,true,())).bind fun v1 =>cond (v1.1.2.2.2.1 != 0) (some (a1,(v1.1.2.2.2.1,([]:List UInt8),()),())) ((eS (a1,v1.1.2.2.1,())).bind fun v2 =>cond (v2.1.2.1==2) (some (a1,(21,([]:List UInt8),()),())) ((jj (a2,v2.1,2,())).bind fun v3 =>cond (!v3.1) (some (a1,(13,([]:List UInt8),()),())) (cond (a3.1==6) (k.la (v2.1.2.2.2.2.2.1.length:Int) a1 a3 (0,([]:List I.D),()) (0,([]:List UInt8),()) v2.1) (k.la a3.2.2.2.1 a1 a3 (0,([]:List I.D),()) (0,([]:List UInt8),()) v2.1))))
def Dt(k:uI)(U:Int)(aa:af.D)(ae:aJ.D)(ai:af.D)(an:aF.D)(aB:I.D):Option (uH) :=cond (decide (U<0)) (some (aa,(22,([]:List UInt8),()),())) (cond (ae.1==7) (cond (decide (U>64)) (some (aa,(27,([]:List UInt8),()),())) ((qO (aB.2.2.2.2.2.1,U,([]:List UInt8),())).bind fun v1 =>(du v1.1.length 0 U).bind fun v2 =>k.hK aa ai an (aB.1,aB.2.1,aB.2.2.1,aB.2.2.2.1,aB.2.2.2.2.1,part v1.1 v2.1 (v2.2-v2.1),aB.2.2.2.2.2.2.1,aB.2.2.2.2.2.2.2.1,aB.2.2.2.2.2.2.2.2.1,()))) (cond (bs ae.2.2.2.2.2.1 ([]:List UInt8)) (some (aa,(0,([]:List UInt8),()),())) (cond (decide (U>aK (64-(ae.2.2.2.2.2.1.length:Int)))) (some (aa,(27,([]:List UInt8),()),())) ((qO (aB.2.2.2.2.2.1,U,ae.2.2.2.2.2.1,())).bind fun v3 =>k.hK aa ai an (aB.1,aB.2.1,aB.2.2.1,aB.2.2.2.1,aB.2.2.2.2.1,v3.1,aB.2.2.2.2.2.2.1,aB.2.2.2.2.2.2.2.1,aB.2.2.2.2.2.2.2.2.1,())))))
def Du(k:uI)(U:af.D)(aa:af.D)(ae:aF.D)(ai:I.D):Option (uH) :=(lZ (U,())).bind fun v1 =>(oK (v1.1,ai,())).bind fun v2 =>(qJ (U,v2.1,())).bind fun v3 =>some (v3.1,v3.2.1,())
def Sb(k:uI):uI:=⟨Dt k,Du k⟩
def hY:Nat→uI:=eR Sb ⟨fun _ _ _ _ _ _=>none,fun _ _ _ _=>none⟩
def qP(x:af.D×aH.D×aJ.D×Unit):Option (uH):=sf (hY aQ) x.1 x.2.1 x.2.2.1
abbrev oO:Type:=af.D×aF.D×Unit
structure qQ where
 dL:Bool→af.D→aH.D→aJ.D→af.D→aF.D→Option (oO)
 la:af.D→aH.D→aJ.D→af.D→aF.D→Option (oO)
 pR:af.D→aH.D→aJ.D→af.D→aF.D→I.D→Option (oO)
 f_:af.D→af.D→aF.D→I.D→Option (oO)
def sg(k:qQ)(a1:af.D)(a2:aH.D)(a3:aJ.D):Option (oO) :=cond (a3.1==15) ((ep (a3.2.2.2.1,0,2047,())).bind fun v1 =>k.dL (!v1.1) a1 a2 a3 (0,([]:List I.D),()) (0,([]:List UInt8),())) (cond (a3.1==16) ((ep (a3.2.2.2.1,0,1000,())).bind fun v2 =>cond (!v2.1) (k.dL true a1 a2 a3 (0,([]:List I.D),()) (0,([]:List UInt8),())) ((ep (a3.2.2.2.2.1,0,1000,())).bind fun v3 =>k.dL (!v3.1) a1 a2 a3 (0,([]:List I.D),()) (0,([]:List UInt8),()))) ((ep (a3.2.2.2.1,0,400,())).bind fun v4 =>cond (!v4.1) (k.dL true a1 a2 a3 (0,([]:List I.D),()) (0,([]:List UInt8),())) ((ep (a3.2.2.2.2.1,0,24,())).bind fun v5 =>k.dL (!v5.1) a1 a2 a3 (0,([]:List I.D),()) (0,([]:List UInt8),()))))
def zz(k:qQ)(U:Bool)(aa:af.D)(ae:aH.D)(ai:aJ.D)(an:af.D)(aB:aF.D):Option (oO) :=cond U (some (aa,(22,([]:List UInt8),()),())) (cond (ai.1==19) (cond (ae.1 != 0) (some (aa,(1,([]:List UInt8),()),())) (k.la aa ae ai an aB)) (k.la aa ae ai an aB))
def zA(k:qQ)(U:af.D)(aa:aH.D)(ae:aJ.D)(ai:af.D)(an:aF.D):Option (oO) :=(dQ (U,aa,ae.2.1,true,())).bind fun v1 =>cond (v1.1.2.2.2.1 != 0) (some (U,(v1.1.2.2.2.1,([]:List UInt8),()),())) ((eS (U,v1.1.2.2.1,())).bind fun v2 =>cond (ae.1==15) (cond (aa.1 != 0) (cond (aa.1 != v2.1.2.2.2.1) (some (U,(1,([]:List UInt8),()),())) (k.pR U aa ae ai an v2.1)) (k.pR U aa ae ai an v2.1)) (cond (ae.1==16) (cond (aa.1 != 0) (cond (aa.1 != v2.1.2.2.2.1) (some (U,(1,([]:List UInt8),()),())) (cond (ae.2.2.2.1 != v2.1.2.2.2.1) (some (U,(1,([]:List UInt8),()),())) ((um (aa,ae.2.2.2.2.1,())).bind fun v3 =>cond (!v3.1) (some (U,(1,([]:List UInt8),()),())) (k.f_ U ai an (v2.1.1,v2.1.2.1,v2.1.2.2.1,ae.2.2.2.1,ae.2.2.2.2.1,v2.1.2.2.2.2.2.1,v2.1.2.2.2.2.2.2.1,v2.1.2.2.2.2.2.2.2.1,v2.1.2.2.2.2.2.2.2.2.1,()))))) (k.f_ U ai an (v2.1.1,v2.1.2.1,v2.1.2.2.1,ae.2.2.2.1,ae.2.2.2.2.1,v2.1.2.2.2.2.2.1,v2.1.2.2.2.2.2.2.1,v2.1.2.2.2.2.2.2.2.1,v2.1.2.2.2.2.2.2.2.2.1,()))) (cond (v2.1.2.1 != 2) (some (U,(20,([]:List UInt8),()),())) (k.f_ U ai an (v2.1.1,v2.1.2.1,v2.1.2.2.1,v2.1.2.2.2.1,v2.1.2.2.2.2.1,v2.1.2.2.2.2.2.1,v2.1.2.2.2.2.2.2.1,ae.2.2.2.1,ae.2.2.2.2.1,())))))
def J8(k:qQ)(U:af.D)(aa:aH.D)(ae:aJ.D)(ai:af.D)(an:aF.D)(aB:I.D):Option (oO) :=cond (aa.1 != 0) ((um (aa,aB.2.2.2.2.1,())).bind fun v1 =>cond (!v1.1) (k.f_ U ai an (aB.1,aB.2.1,cQ .andNot .i64 ae.2.2.2.1 1024,aB.2.2.2.1,aB.2.2.2.2.1,aB.2.2.2.2.2.1,aB.2.2.2.2.2.2.1,aB.2.2.2.2.2.2.2.1,aB.2.2.2.2.2.2.2.2.1,())) (k.f_ U ai an (aB.1,aB.2.1,ae.2.2.2.1,aB.2.2.2.1,aB.2.2.2.2.1,aB.2.2.2.2.2.1,aB.2.2.2.2.2.2.1,aB.2.2.2.2.2.2.2.1,aB.2.2.2.2.2.2.2.2.1,()))) (k.f_ U ai an (aB.1,aB.2.1,ae.2.2.2.1,aB.2.2.2.1,aB.2.2.2.2.1,aB.2.2.2.2.2.1,aB.2.2.2.2.2.2.1,aB.2.2.2.2.2.2.2.1,aB.2.2.2.2.2.2.2.2.1,()))
def J9(k:qQ)(U:af.D)(aa:af.D)(ae:aF.D)(ai:I.D):Option (oO) :=(lZ (U,())).bind fun v1 =>(oK (v1.1,ai,())).bind fun v2 =>(qJ (U,v2.1,())).bind fun v3 =>some (v3.1,v3.2.1,())
def Sc(k:qQ):qQ:=⟨zz k,zA k,J8 k,J9 k⟩
def h5:Nat→qQ:=eR Sc ⟨fun _ _ _ _ _ _=>none,fun _ _ _ _ _=>none,fun _ _ _ _ _ _=>none,fun _ _ _ _=>none⟩
def sh(x:af.D×aH.D×aJ.D×Unit):Option (oO):=sg (h5 aQ) x.1 x.2.1 x.2.2.1
abbrev Dv:Type:=Int→(List UInt8)→Bool→Option ((List UInt8)×Unit)
def Sd(bx:Dv)(a1:Int):Option ((List UInt8)×Unit) :=cond (a1==0) (some (([48]:List UInt8),())) (bx a1 ([]:List UInt8) (decide (a1<0)))
def zB(bx:Dv)(U:Int)(aa:List UInt8)(ae:Bool):Option ((List UInt8)×Unit) :=cond (U != 0) (cond (decide (Int.tmod U 10<0)) (cond (room ((gI [IntKind.wrap .u8 (aK (48+aK (0-(Int.tmod U 10))))]).length+aa.length)) (bx (aK (Int.tdiv U 10)) ((gI [IntKind.wrap .u8 (aK (48+aK (0-(Int.tmod U 10))))])++aa) ae) (none)) (cond (room ((gI [IntKind.wrap .u8 (aK (48+Int.tmod U 10))]).length+aa.length)) (bx (aK (Int.tdiv U 10)) ((gI [IntKind.wrap .u8 (aK (48+Int.tmod U 10))])++aa) ae) (none))) (cond ae (cond (room (([45]:List UInt8).length+aa.length)) (some (([45]:List UInt8)++aa,())) (none)) (some (aa,())))
def pS:Nat→Dv | 0,_,_,_=>none | m+1,U,aa,ae=>zB (pS m) U aa ae
def h6(x:Int×Unit):Option ((List UInt8)×Unit):=Sd (pS aQ) x.1
abbrev Dw:Type:=Int→Int→Int→af.D→Option (Int×Unit)
def Dx(dL:Dw)(a1:af.D)(a2:Int):Option (Int×Unit) :=(jQ (a1,a2,())).bind fun v1 =>cond (decide (v1.1<0)) (some (0,())) ((aO a1.2.1.length v1.1).bind fun v2 =>cond ((J I a1.2.1 v2).2.1 != 2) ((zs (a1,a2,())).bind fun v3 =>some (v3.1,())) (dL v1.1 2 0 a1))
def Dy(dL:Dw)(U:Int)(aa:Int)(ae:Int)(ai:af.D):Option (Int×Unit) :=(aO ai.2.1.length U).bind fun v1 =>cond (decide (ae<(((J I ai.2.1 v1).2.2.2.2.2.2.1).length:Int))) ((aO ai.2.1.length U).bind fun v2 =>(aO (((J I ai.2.1 v2).2.2.2.2.2.2.1).length) ae).bind fun v3 =>(xd (ai,(J ay ((J I ai.2.1 v2).2.2.2.2.2.2.1) v3).2.1,())).bind fun v4 =>cond v4.1 (dL U (aK (aa+1)) (aK (ae+1)) ai) (dL U aa (aK (ae+1)) ai)) (some (aa,()))
def uJ:Nat→Dw | 0,_,_,_,_=>none | m+1,U,aa,ae,ai=>Dy (uJ m) U aa ae ai
def Dz(x:af.D×Int×Unit):Option (Int×Unit):=Dx (uJ aQ) x.1 x.2.1
structure nH where
 bx:af.D→aH.D→aJ.D→aF.D→Option (aF.D×Unit)
 dg:af.D→aH.D→aJ.D→aF.D→aV.D→Option (aF.D×Unit)
 nI:Int→aJ.D→aF.D→I.D→(List Int)→Option (aF.D×Unit)
 si:(List UInt8)→Int→aF.D→I.D→Option (aF.D×Unit)
 DA:(List UInt8)→Int→aF.D→I.D→Option (aF.D×Unit)
def qR(k:nH)(a1:af.D)(a2:aH.D)(a3:aJ.D):Option (aF.D×Unit) :=cond (a3.1==18) ((h6 ((a1.2.1.length:Int),())).bind fun v1 =>cond (room (v1.1.length +([32]:List UInt8).length)) ((zk (a1,())).bind fun v2 =>(h6 (v2.1,())).bind fun v3 =>cond (room ((v1.1++([32]:List UInt8)).length+v3.1.length)) (some ((0,(v1.1++([32]:List UInt8))++v3.1,()),())) (none)) (none)) (cond (a3.1==14) (cond (a3.2.2.2.1 != 0) (cond (a3.2.2.2.1 != 1) (some ((22,([]:List UInt8),()),())) (cond (a3.1==17) ((ep (a3.2.2.2.1,0,7,())).bind fun v4 =>cond (!v4.1) (some ((22,([]:List UInt8),()),())) (k.bx a1 a2 a3 (0,([]:List UInt8),()))) (k.bx a1 a2 a3 (0,([]:List UInt8),())))) (cond (a3.1==17) ((ep (a3.2.2.2.1,0,7,())).bind fun v5 =>cond (!v5.1) (some ((22,([]:List UInt8),()),())) (k.bx a1 a2 a3 (0,([]:List UInt8),()))) (k.bx a1 a2 a3 (0,([]:List UInt8),())))) (cond (a3.1==17) ((ep (a3.2.2.2.1,0,7,())).bind fun v6 =>cond (!v6.1) (some ((22,([]:List UInt8),()),())) (k.bx a1 a2 a3 (0,([]:List UInt8),()))) (k.bx a1 a2 a3 (0,([]:List UInt8),()))))
def J_(k:nH)(U:af.D)(aa:aH.D)(ae:aJ.D)(ai:aF.D):Option (aF.D×Unit) :=cond (ae.1 != 11) (cond (ae.1 != 14) ((dQ (U,aa,ae.2.1,true,())).bind fun v1 =>k.dg U aa ae ai v1.1) ((dQ (U,aa,ae.2.1,ae.2.2.2.1==0,())).bind fun v2 =>k.dg U aa ae ai v2.1)) ((dQ (U,aa,ae.2.1,false,())).bind fun v3 =>k.dg U aa ae ai v3.1)
def pT(k:nH)(U:af.D)(aa:aH.D)(ae:aJ.D)(ai:aF.D)(an:aV.D):Option (aF.D×Unit) :=cond (an.2.2.2.1 != 0) (some ((an.2.2.2.1,([]:List UInt8),()),())) ((eS (U,an.2.2.1,())).bind fun v1 =>cond (ae.1==4) (cond (v1.1.2.1==2) (some ((21,([]:List UInt8),()),())) ((jj (aa,v1.1,4,())).bind fun v2 =>cond (!v2.1) (some ((13,([]:List UInt8),()),())) (cond (decide (ae.2.2.2.1<0)) (some ((22,([]:List UInt8),()),())) (cond (decide (ae.2.2.2.2.1<0)) (some ((22,([]:List UInt8),()),())) (k.nI ae.2.2.2.1 ae ai v1.1 ([]:List Int)))))) (cond (ae.1==11) (cond (v1.1.2.1 != 3) (some ((22,([]:List UInt8),()),())) (some ((0,v1.1.2.2.2.2.2.1,()),()))) (cond (ae.1==13) (cond (!(v1.1.2.1==2)) (some ((20,([]:List UInt8),()),())) ((jj (aa,v1.1,4,())).bind fun v3 =>cond (!v3.1) (some ((13,([]:List UInt8),()),())) (k.si ([]:List UInt8) 0 ai v1.1))) (cond (ae.1==14) ((h6 (v1.1.2.1,())).bind fun v4 =>cond (room (v4.1.length +([32]:List UInt8).length)) ((h6 (v1.1.2.2.1,())).bind fun v5 =>cond (room ((v4.1++([32]:List UInt8)).length+v5.1.length)) (cond (room (((v4.1++([32]:List UInt8))++v5.1).length +([32]:List UInt8).length)) ((h6 (v1.1.2.2.2.1,())).bind fun v6 =>cond (room ((((v4.1++([32]:List UInt8))++v5.1)++([32]:List UInt8)).length+v6.1.length)) (cond (room (((((v4.1++([32]:List UInt8))++v5.1)++([32]:List UInt8))++v6.1).length +([32]:List UInt8).length)) ((h6 (v1.1.2.2.2.2.1,())).bind fun bp =>cond (room ((((((v4.1++([32]:List UInt8))++v5.1)++([32]:List UInt8))++v6.1)++([32]:List UInt8)).length+bp.1.length)) (cond (room (((((((v4.1++([32]:List UInt8))++v5.1)++([32]:List UInt8))++v6.1)++([32]:List UInt8))++bp.1).length +([32]:List UInt8).length)) ((Dz (U,v1.1.1,())).bind fun dC =>(h6 (dC.1,())).bind fun v9 =>cond (room ((((((((v4.1++([32]:List UInt8))++v5.1)++([32]:List UInt8))++v6.1)++([32]:List UInt8))++bp.1)++([32]:List UInt8)).length+v9.1.length)) (cond (room (((((((((v4.1++([32]:List UInt8))++v5.1)++([32]:List UInt8))++v6.1)++([32]:List UInt8))++bp.1)++([32]:List UInt8))++v9.1).length +([32]:List UInt8).length)) ((h6 ((v1.1.2.2.2.2.2.1.length:Int),())).bind fun v10 =>cond (room ((((((((((v4.1++([32]:List UInt8))++v5.1)++([32]:List UInt8))++v6.1)++([32]:List UInt8))++bp.1)++([32]:List UInt8))++v9.1)++([32]:List UInt8)).length+v10.1.length)) (some ((0,(((((((((v4.1++([32]:List UInt8))++v5.1)++([32]:List UInt8))++v6.1)++([32]:List UInt8))++bp.1)++([32]:List UInt8))++v9.1)++([32]:List UInt8))++v10.1,()),())) (none)) (none)) (none)) (none)) (none)) (none)) (none)) (none)) (none)) (none)) (cond (ae.1==17) ((jj (aa,v1.1,ae.2.2.2.1,())).bind fun v11 =>cond (!v11.1) (some ((13,([]:List UInt8),()),())) (some ((0,([]:List UInt8),()),()))) (cond (!(v1.1.2.1==2)) (some ((20,([]:List UInt8),()),())) ((jj (aa,v1.1,4,())).bind fun v12 =>cond (!v12.1) (some ((13,([]:List UInt8),()),())) ((zn (U,v1.1.1,())).bind fun jT =>(h6 (v1.1.2.2.2.2.2.2.2.1,())).bind fun mP =>cond (room (mP.1.length +([32]:List UInt8).length)) ((h6 (v1.1.2.2.2.2.2.2.2.2.1,())).bind fun h7 =>cond (room ((mP.1++([32]:List UInt8)).length+h7.1.length)) (cond (room (((mP.1++([32]:List UInt8))++h7.1).length +([32]:List UInt8).length)) ((h6 (jT.1,())).bind fun oP =>cond (room ((((mP.1++([32]:List UInt8))++h7.1)++([32]:List UInt8)).length+oP.1.length)) (cond (room (((((mP.1++([32]:List UInt8))++h7.1)++([32]:List UInt8))++oP.1).length +([32]:List UInt8).length)) ((h6 (jT.2.1,())).bind fun nJ =>cond (room ((((((mP.1++([32]:List UInt8))++h7.1)++([32]:List UInt8))++oP.1)++([32]:List UInt8)).length+nJ.1.length)) (some ((0,(((((mP.1++([32]:List UInt8))++h7.1)++([32]:List UInt8))++oP.1)++([32]:List UInt8))++nJ.1,()),())) (none)) (none)) (none)) (none)) (none)) (none)))))))))
def abJ(k:nH)(U:Int)(aa:aJ.D)(ae:aF.D)(ai:I.D)(v2:List Int):Option (aF.D×Unit) :=k.nI (aK (U+1)) aa ae ai v2
def DB(k:nH)(U:Int)(aa:aJ.D)(ae:aF.D)(ai:I.D)(an:List Int):Option (aF.D×Unit) :=cond (decide (U<(ai.2.2.2.2.2.1.length:Int))) (cond (decide (U<aK (aa.2.2.2.1+aa.2.2.2.2.1))) ((aO ai.2.2.2.2.2.1.length U).bind fun v1 =>cond (room (an.length+[((ai.2.2.2.2.2.1.getD v1 0).toNat:Int)].length)) (abJ k U aa ae ai (an++[((ai.2.2.2.2.2.1.getD v1 0).toNat:Int)])) (none)) (some ((0,gI an,()),()))) (some ((0,gI an,()),()))
def DC(k:nH)(U:List UInt8)(aa:Int)(ae:aF.D)(ai:I.D):Option (aF.D×Unit) :=cond (decide (aa<(ai.2.2.2.2.2.2.1.length:Int))) (cond (decide (aa>0)) (cond (room (U.length +([47]:List UInt8).length)) (k.DA (U++([47]:List UInt8)) aa ae ai) (none)) (k.DA U aa ae ai)) (some ((0,U,()),()))
def J'(k:nH)(U:List UInt8)(aa:Int)(ae:aF.D)(ai:I.D):Option (aF.D×Unit) :=(aO ai.2.2.2.2.2.2.1.length aa).bind fun v1 =>cond (room (U.length +((J ay ai.2.2.2.2.2.2.1 v1).1).length)) (k.si (U++((J ay ai.2.2.2.2.2.2.1 v1).1)) (aK (aa+1)) ae ai) (none)
def Se(k:nH):nH:=⟨J_ k,pT k,DB k,DC k,J' k⟩
def fr:Nat→nH:=eR Se ⟨fun _ _ _ _=>none,fun _ _ _ _ _=>none,fun _ _ _ _ _=>none,fun _ _ _ _=>none,fun _ _ _ _=>none⟩
def jU(x:af.D×aH.D×aJ.D×Unit):Option (aF.D×Unit):=qR (fr aQ) x.1 x.2.1 x.2.2.1
abbrev qS:Type:=af.D×aF.D×Unit
structure sj where
 dL:Int→af.D→aH.D→aJ.D→af.D→aF.D→Option (qS)
 db:Int→af.D→aH.D→aJ.D→af.D→aF.D→Option (qS)
 oQ:Int→af.D→aH.D→aJ.D→af.D→aF.D→Option (qS)
def sk(k:sj)(a1:af.D)(a2:aH.D)(a3:aJ.D):Option (qS) :=(JK (a3,())).bind fun v1 =>cond (!v1.1) (some (a1,(22,([]:List UInt8),()),())) (cond (decide (a3.1>20)) (some (a1,(22,([]:List UInt8),()),())) (cond (a3.1==1) (cond (a3.1==1) ((uD (a1,a2,a3,())).bind fun v2 =>some (v2.1,v2.2.1,())) (k.dL a3.1 a1 a2 a3 (0,([]:List I.D),()) (0,([]:List UInt8),()))) (cond (a3.1==3) (cond (a3.1==3) ((uD (a1,a2,a3,())).bind fun v3 =>some (v3.1,v3.2.1,())) (k.dL a3.1 a1 a2 a3 (0,([]:List I.D),()) (0,([]:List UInt8),()))) (cond (a3.1==10) ((uD (a1,a2,a3,())).bind fun v4 =>some (v4.1,v4.2.1,())) (k.dL a3.1 a1 a2 a3 (0,([]:List I.D),()) (0,([]:List UInt8),()))))))
def abK(k:sj)(U:Int)(aa:af.D)(ae:aH.D)(ai:aJ.D)(an:af.D)(aB:aF.D):Option (qS) :=cond (U==2) (cond (U==2) ((zv (aa,ae,ai,())).bind fun v1 =>some (v1.1,v1.2.1,())) (k.db U aa ae ai an aB)) (cond (U==8) ((zv (aa,ae,ai,())).bind fun v2 =>some (v2.1,v2.2.1,())) (k.db U aa ae ai an aB))
def abL(k:sj)(U:Int)(aa:af.D)(ae:aH.D)(ai:aJ.D)(an:af.D)(aB:aF.D):Option (qS) :=cond (U==9) ((Dl (aa,ae,ai,())).bind fun v1 =>some (v1.1,v1.2.1,())) (cond (U==12) ((Dr (aa,ae,ai,())).bind fun v2 =>some (v2.1,v2.2.1,())) (cond (U==5) (cond (U==5) ((qP (aa,ae,ai,())).bind fun v3 =>some (v3.1,v3.2.1,())) (k.oQ U aa ae ai an aB)) (cond (U==6) (cond (U==6) ((qP (aa,ae,ai,())).bind fun v4 =>some (v4.1,v4.2.1,())) (k.oQ U aa ae ai an aB)) (cond (U==7) ((qP (aa,ae,ai,())).bind fun v5 =>some (v5.1,v5.2.1,())) (k.oQ U aa ae ai an aB)))))
def abM(k:sj)(U:Int)(aa:af.D)(ae:aH.D)(ai:aJ.D)(an:af.D)(aB:aF.D):Option (qS) :=cond (U==15) (cond (U==15) ((sh (aa,ae,ai,())).bind fun v1 =>some (v1.1,v1.2.1,())) ((jU (aa,ae,ai,())).bind fun v2 =>some (aa,v2.1,()))) (cond (U==16) (cond (U==16) ((sh (aa,ae,ai,())).bind fun v3 =>some (v3.1,v3.2.1,())) ((jU (aa,ae,ai,())).bind fun v4 =>some (aa,v4.1,()))) (cond (U==19) ((sh (aa,ae,ai,())).bind fun v5 =>some (v5.1,v5.2.1,())) ((jU (aa,ae,ai,())).bind fun v6 =>some (aa,v6.1,()))))
def Sf(k:sj):sj:=⟨abK k,abL k,abM k⟩
def zC:Nat→sj:=eR Sf ⟨fun _ _ _ _ _ _=>none,fun _ _ _ _ _ _=>none,fun _ _ _ _ _ _=>none⟩
def ke(x:af.D×aH.D×aJ.D×Unit):Option (qS):=sk (zC aQ) x.1 x.2.1 x.2.2.1
abbrev Sg:Type:=Int×br.D×Unit
def Ka(a1:br.D)(a2:List Int):Option (Sg) :=(gr (a1,(a2.length:Int),())).bind fun v1 =>(aO a2.length v1.1).bind fun v2 =>some (J (ad.int .i64) a2 (0+v2),v1.2.1,())
def jk(x:br.D×(List Int)×Unit):Option (Sg):=Ka x.1 x.2.1
abbrev Sh:Type:=aH.D×br.D×Unit
def Kb(a1:br.D):Option (Sh) :=(gr (a1,4,())).bind fun v1 =>cond (v1.1==0) (cond (v1.1==0) (some ((0,0,([]:List Int),()),v1.2.1,())) (cond (v1.1==2) (some ((2,2,[5],()),v1.2.1,())) (some ((3,2,([]:List Int),()),v1.2.1,())))) (cond (v1.1==1) (some ((0,0,([]:List Int),()),v1.2.1,())) (cond (v1.1==2) (some ((2,2,[5],()),v1.2.1,())) (some ((3,2,([]:List Int),()),v1.2.1,()))))
def zD(x:br.D×Unit):Option (Sh):=Kb x.1
abbrev uK:Type:=(List UInt8)×br.D×Unit
structure uL where
 bg:Int→Int→br.D→(List Int)→Option (uK)
 db:Int→Int→Int→br.D→(List Int)→Option (uK)
def DD(k:uL)(a1:br.D)(a2:Int):Option (uK) :=(gr (a1,4,())).bind fun v1 =>(gr (v1.2.1,aK (a2+1),())).bind fun v2 =>k.bg v1.1 v2.1 v2.2.1 ([]:List Int)
def zE(k:uL)(U:Int)(aa:Int)(ae:br.D)(ai:List Int):Option (uK) :=cond (decide (aa>0)) ((qF (ae,())).bind fun v1 =>cond (U==1) (cond (U==2) (k.db U aa (aK (97+Int.tmod (Int.tmod v1.1 2) 4)) v1.2.1 ai) (k.db U aa (Int.tmod v1.1 2) v1.2.1 ai)) (cond (U==2) (k.db U aa (aK (97+Int.tmod v1.1 4)) v1.2.1 ai) (k.db U aa v1.1 v1.2.1 ai))) (some (gI ai,ae,()))
def Kc(k:uL)(U:Int)(aa:Int)(ae:Int)(ai:br.D)(an:List Int):Option (uK) :=cond (room (an.length+[IntKind.wrap .u8 (ae)].length)) (k.bg U (aK (aa-1)) ai (an++[IntKind.wrap .u8 (ae)])) (none)
def Si(k:uL):uL:=⟨zE k,Kc k⟩
def sm:Nat→uL:=eR Si ⟨fun _ _ _ _=>none,fun _ _ _ _ _=>none⟩
def uM(x:br.D×Int×Unit):Option (uK):=DD (sm aQ) x.1 x.2.1
abbrev Sj:Type:=(List UInt8)×br.D×Unit
def Kd(a1:br.D)(a2:List (List UInt8)):Option (Sj) :=(gr (a1,(a2.length:Int),())).bind fun v1 =>(aO a2.length v1.1).bind fun v2 =>some (J ad.str a2 (0+v2),v1.2.1,())
def qT(x:br.D×(List (List UInt8))×Unit):Option (Sj):=Kd x.1 x.2.1
abbrev Sk:Type:=(List UInt8)×br.D×Unit
def Ke(a1:br.D):Option (Sk) :=(qT (a1,[([97]:List UInt8),([98]:List UInt8),([99]:List UInt8),([100,49]:List UInt8),([115,117,98]:List UInt8)],())).bind fun v1 =>some (v1.1,v1.2.1,())
def xe(x:br.D×Unit):Option (Sk):=Ke x.1
abbrev qU:Type:=(List UInt8)×br.D×Unit
structure sn where
 k3:(List UInt8)→Int→br.D→Option (qU)
 jS:(List UInt8)→br.D→Option (qU)
 xf:(List UInt8)→br.D→Option (qU)
def DE(k:sn)(a1:br.D):Option (qU) :=(gr (a1,5,())).bind fun v1 =>k.k3 ([]:List UInt8) v1.1 v1.2.1
def zF(k:sn)(U:List UInt8)(aa:Int)(ae:br.D):Option (qU) :=cond (decide (aa>0)) (cond (room (U.length +([47]:List UInt8).length)) ((xe (ae,())).bind fun v1 =>cond (room ((U++([47]:List UInt8)).length+v1.1.length)) ((gr (v1.2.1,14,())).bind fun v2 =>cond (v2.1==0) (cond (room (((U++([47]:List UInt8))++v1.1).length +([47,46]:List UInt8).length)) (k.k3 (((U++([47]:List UInt8))++v1.1)++([47,46]:List UInt8)) (aK (aa-1)) v2.2.1) (none)) (cond (v2.1==1) (cond (room (((U++([47]:List UInt8))++v1.1).length +([47,46,46]:List UInt8).length)) (k.k3 (((U++([47]:List UInt8))++v1.1)++([47,46,46]:List UInt8)) (aK (aa-1)) v2.2.1) (none)) (cond (v2.1==2) (cond (room (((U++([47]:List UInt8))++v1.1).length +([47]:List UInt8).length)) (k.k3 (((U++([47]:List UInt8))++v1.1)++([47]:List UInt8)) (aK (aa-1)) v2.2.1) (none)) (cond (v2.1==3) ((qT (v2.2.1,[([108,111,110,103,110,97,109,101,57]:List UInt8),([65,66,67]:List UInt8),([120,32,121]:List UInt8),([46,104,105,100]:List UInt8),([46,46,46]:List UInt8)],())).bind fun v3 =>cond (room (((U++([47]:List UInt8))++v1.1).length+v3.1.length)) (k.k3 (((U++([47]:List UInt8))++v1.1)++v3.1) (aK (aa-1)) v3.2.1) (none)) (k.k3 ((U++([47]:List UInt8))++v1.1) (aK (aa-1)) v2.2.1))))) (none)) (none)) (cond (bs U ([]:List UInt8)) (k.jS U ae) ((r9 (ae,20,())).bind fun v4 =>cond v4.1 (k.jS U v4.2.1) (k.xf U v4.2.1)))
def Kf(k:sn)(U:List UInt8)(aa:br.D):Option (qU) :=cond (room (U.length +([47]:List UInt8).length)) (k.xf (U++([47]:List UInt8)) aa) (none)
def Kg(k:sn)(U:List UInt8)(aa:br.D):Option (qU) :=(r9 (aa,30,())).bind fun v1 =>cond v1.1 ((qT (v1.2.1,[([]:List UInt8),([97]:List UInt8),([47,97,47,98,47,99,47,100,47,97,47,98,47,99,47,100,47,97,47,98,47,99,47,100,47,97,47,98,47,99,47,100,47,97,47,98,47,99,47,100,47,97,47,98,47,99,47,100,47,97,47,98,47,99,47,100,47,97,47,98]:List UInt8),([47,97,47,98,47,99,47,100,47,97,47,98,47,99,47,100,47,97,47,98,47,99,47,100,47,97,47,98,47,99,47,100,47,97,47,98,47,99,47,100,47,97,47,98,47,99,47,100,47,97,47,98,47,99,47,100,47,97,47]:List UInt8)],())).bind fun v2 =>some (v2.1,v2.2.1,())) (some (U,v1.2.1,()))
def Sl(k:sn):sn:=⟨zF k,Kf k,Kg k⟩
def oR:Nat→sn:=eR Sl ⟨fun _ _ _=>none,fun _ _=>none,fun _ _=>none⟩
def DF(x:br.D×Unit):Option (qU):=DE (oR aQ) x.1
abbrev zG:Type:=(List UInt8)×br.D×Unit
abbrev DG:Type:=(List UInt8)→Int→Int→br.D→af.D→Option (zG)
def DH(dg:DG)(a1:br.D)(a2:af.D):Option (zG) :=(r9 (a1,4,())).bind fun v1 =>cond v1.1 ((DF (v1.2.1,())).bind fun v2 =>some (v2.1,v2.2.1,())) ((gr (v1.2.1,4,())).bind fun v3 =>dg ([]:List UInt8) 1 v3.1 v3.2.1 a2)
def xg(dg:DG)(U:List UInt8)(aa:Int)(ae:Int)(ai:br.D)(an:af.D):Option (zG) :=cond (decide (ae≥0)) ((jQ (an,aa,())).bind fun v1 =>cond (decide (v1.1<0)) (cond (room (U.length +([47]:List UInt8).length)) ((xe (ai,())).bind fun v2 =>cond (room ((U++([47]:List UInt8)).length+v2.1.length)) (some ((U++([47]:List UInt8))++v2.1,v2.2.1,())) (none)) (none)) ((aO an.2.1.length v1.1).bind fun v3 =>cond ((((J I an.2.1 v3).2.2.2.2.2.2.1).length:Int)==0) (cond (room (U.length +([47]:List UInt8).length)) ((xe (ai,())).bind fun v4 =>cond (room ((U++([47]:List UInt8)).length+v4.1.length)) (some ((U++([47]:List UInt8))++v4.1,v4.2.1,())) (none)) (none)) ((aO an.2.1.length v1.1).bind fun v5 =>(aO an.2.1.length v1.1).bind fun v6 =>dup ((gr (ai,(((J I an.2.1 v6).2.2.2.2.2.2.1).length:Int),())).bind fun bp =>(aO (((J I an.2.1 v5).2.2.2.2.2.2.1).length) bp.1).bind fun dC =>cond (room (U.length +([47]:List UInt8).length)) (cond (room ((U++([47]:List UInt8)).length +((J ay ((J I an.2.1 v5).2.2.2.2.2.2.1) dC).1).length)) (dg ((U++([47]:List UInt8))++((J ay ((J I an.2.1 v5).2.2.2.2.2.2.1) dC).1)) ((J ay ((J I an.2.1 v5).2.2.2.2.2.2.1) dC).2.1) (aK (ae-1)) bp.2.1 an) (none)) (none))))) (some (U,ai,()))
def uN:Nat→DG | 0,_,_,_,_,_=>none | m+1,U,aa,ae,ai,an=>xg (uN m) U aa ae ai an
def xh(x:br.D×af.D×Unit):Option (zG):=DH (uN aQ) x.1 x.2.1
abbrev ld:Type:=aJ.D×br.D×Unit
structure oS where
 k2:br.D→af.D→aJ.D→aJ.D→Option (ld)
 dg:br.D→aJ.D→aJ.D→Option (ld)
 da:Int→br.D→af.D→aJ.D→aJ.D→Option (ld)
 f_:br.D→aJ.D→aJ.D→Option (ld)
 oQ:br.D→af.D→aJ.D→aJ.D→Option (ld)
 nI:Int→br.D→aJ.D→aJ.D→Option (ld)
def DI(k:oS)(a1:br.D)(a2:af.D):Option (ld) :=both (both ((jk (a1,[1,1,1,2,3,3,3,4,5,5,6,7,8,9,10,10,11,12,12,12,13,14,15,16,17,18,19,20],())).bind fun v1 =>dup ((xh (v1.2.1,a2,())).bind fun v2 =>k.k2 v2.2.1 a2 (0,([]:List UInt8),([]:List UInt8),0,0,([]:List UInt8),()) (v1.1,v2.1,([]:List UInt8),0,0,([]:List UInt8),()))) ((jk (a1,[1,1,1,2,3,3,3,4,5,5,6,7,8,9,10,10,11,12,12,12,13,14,15,16,17,18,19,20],())).bind fun v1 =>(xh (v1.2.1,a2,())).bind fun v2 =>k.k2 v2.2.1 a2 (0,([]:List UInt8),([]:List UInt8),0,0,([]:List UInt8),()) (v1.1,v2.1,([]:List UInt8),0,0,([]:List UInt8),()))) ((jk (a1,[1,1,1,2,3,3,3,4,5,5,6,7,8,9,10,10,11,12,12,12,13,14,15,16,17,18,19,20],())).bind fun v1 =>(xh (v1.2.1,a2,())).bind fun v2 =>k.k2 v2.2.1 a2 (0,([]:List UInt8),([]:List UInt8),0,0,([]:List UInt8),()) (v1.1,v2.1,([]:List UInt8),0,0,([]:List UInt8),()))
def Kh(k:oS)(U:br.D)(aa:af.D)(ae:aJ.D)(ai:aJ.D):Option (ld) :=cond (ai.1==1) (cond (ai.1==1) (k.dg U ae ai) (k.da ai.1 U aa ae ai)) (cond (ai.1==3) (cond (ai.1==3) (k.dg U ae ai) (k.da ai.1 U aa ae ai)) (cond (ai.1==15) (k.dg U ae ai) (k.da ai.1 U aa ae ai)))
def Ki(k:oS)(U:br.D)(aa:aJ.D)(ae:aJ.D):Option (ld) :=(jk (U,[511,511,493,448,420,1535,1023,0,320],())).bind fun v1 =>k.f_ v1.2.1 aa (ae.1,ae.2.1,ae.2.2.1,v1.1,ae.2.2.2.2.1,ae.2.2.2.2.2.1,())
def Kj(k:oS)(U:Int)(aa:br.D)(ae:af.D)(ai:aJ.D)(an:aJ.D):Option (ld) :=cond (U==4) ((gr (aa,8,())).bind fun v1 =>(gr (v1.2.1,20,())).bind fun v2 =>k.f_ v2.2.1 ai (an.1,an.2.1,an.2.2.1,v1.1,v2.1,an.2.2.2.2.2.1,())) (cond (U==5) ((gr (aa,20,())).bind fun v3 =>(uM (v3.2.1,30,())).bind fun v4 =>k.f_ v4.2.1 ai (an.1,an.2.1,an.2.2.1,v3.1,an.2.2.2.2.1,v4.1,())) (cond (U==6) ((uM (aa,30,())).bind fun v5 =>k.f_ v5.2.1 ai (an.1,an.2.1,an.2.2.1,an.2.2.2.1,an.2.2.2.2.1,v5.1,())) (cond (U==7) ((gr (aa,70,())).bind fun v6 =>k.f_ v6.2.1 ai (an.1,an.2.1,an.2.2.1,v6.1,an.2.2.2.2.1,an.2.2.2.2.2.1,())) (cond (U==9) (cond (U==9) (k.oQ aa ae ai an) (k.nI U aa ai an)) (cond (U==12) (k.oQ aa ae ai an) (k.nI U aa ai an))))))
def Kk(k:oS)(U:br.D)(aa:aJ.D)(ae:aJ.D):Option (ld) :=(r9 (U,25,())).bind fun v1 =>cond v1.1 ((gr (v1.2.1,6,())).bind fun v2 =>cond (v2.1==0) ((jk (v2.2.1,[(-1),0,21,22,23],())).bind fun v3 =>some ((v3.1,ae.2.1,ae.2.2.1,ae.2.2.2.1,ae.2.2.2.2.1,ae.2.2.2.2.2.1,()),v3.2.1,())) (cond (v2.1==1) ((jk (v2.2.1,[(-1),2048,65,401,1000000,1000001],())).bind fun v4 =>some ((ae.1,ae.2.1,ae.2.2.1,v4.1,ae.2.2.2.2.1,ae.2.2.2.2.2.1,()),v4.2.1,())) (cond (v2.1==2) ((jk (v2.2.1,[(-1),25,1001,1000001],())).bind fun v5 =>some ((ae.1,ae.2.1,ae.2.2.1,ae.2.2.2.1,v5.1,ae.2.2.2.2.2.1,()),v5.2.1,())) (cond (v2.1==3) (cond (room (ae.2.2.2.2.2.1.length +([121]:List UInt8).length)) (some ((ae.1,ae.2.1,ae.2.2.1,ae.2.2.2.1,ae.2.2.2.2.1,ae.2.2.2.2.2.1++([121]:List UInt8),()),v2.2.1,())) (none)) (cond (v2.1==4) ((qT (v2.2.1,[([]:List UInt8),([47,122]:List UInt8),([98,97,100,32,112,97,116,104]:List UInt8),([47,47]:List UInt8)],())).bind fun v6 =>some ((ae.1,ae.2.1,v6.1,ae.2.2.2.1,ae.2.2.2.2.1,ae.2.2.2.2.2.1,()),v6.2.1,())) ((DF (v2.2.1,())).bind fun bp =>some ((ae.1,bp.1,ae.2.2.1,ae.2.2.2.1,ae.2.2.2.2.1,ae.2.2.2.2.2.1,()),bp.2.1,()))))))) (some (ae,v1.2.1,()))
def Kl(k:oS)(U:br.D)(aa:af.D)(ae:aJ.D)(ai:aJ.D):Option (ld) :=(xh (U,aa,())).bind fun v1 =>k.f_ v1.2.1 ae (ai.1,ai.2.1,v1.1,ai.2.2.2.1,ai.2.2.2.2.1,ai.2.2.2.2.2.1,())
def Km(k:oS)(U:Int)(aa:br.D)(ae:aJ.D)(ai:aJ.D):Option (ld) :=cond (U==10) ((qT (aa,[([47,97]:List UInt8),([98]:List UInt8),([46,46,47,99]:List UInt8),([47,115,117,98,47,97]:List UInt8),([46]:List UInt8),([47]:List UInt8),([100,49,47,98]:List UInt8),([47,99]:List UInt8)],())).bind fun v1 =>k.f_ v1.2.1 ae (ai.1,ai.2.1,v1.1,ai.2.2.2.1,ai.2.2.2.2.1,ai.2.2.2.2.2.1,())) (cond (U==14) ((gr (aa,2,())).bind fun v2 =>k.f_ v2.2.1 ae (ai.1,ai.2.1,ai.2.2.1,v2.1,ai.2.2.2.2.1,ai.2.2.2.2.2.1,())) (cond (U==16) ((jk (aa,[0,2,3],())).bind fun v3 =>(jk (v3.2.1,[0,2,5],())).bind fun v4 =>k.f_ v4.2.1 ae (ai.1,ai.2.1,ai.2.2.1,v3.1,v4.1,ai.2.2.2.2.2.1,())) (cond (U==17) ((gr (aa,8,())).bind fun v5 =>k.f_ v5.2.1 ae (ai.1,ai.2.1,ai.2.2.1,v5.1,ai.2.2.2.2.1,ai.2.2.2.2.2.1,())) (cond (U==19) ((jk (aa,[0,0,20,60,200],())).bind fun v6 =>(jk (v6.2.1,[0,0,2,5,10],())).bind fun bp =>k.f_ bp.2.1 ae (ai.1,ai.2.1,ai.2.2.1,v6.1,bp.1,ai.2.2.2.2.2.1,())) (k.f_ aa ae ai)))))
def Sm(k:oS):oS:=⟨Kh k,Ki k,Kj k,Kk k,Kl k,Km k⟩
def lf:Nat→oS:=eR Sm ⟨fun _ _ _ _=>none,fun _ _ _=>none,fun _ _ _ _ _=>none,fun _ _ _=>none,fun _ _ _ _=>none,fun _ _ _ _=>none⟩
def DJ(x:br.D×af.D×Unit):Option (ld):=DI (lf aQ) x.1 x.2.1
abbrev Sn:Type:=aJ.D×br.D×Unit
def Kn(a1:br.D):Option (Sn) :=(JG ()).bind fun v1 =>(DJ (a1,v1.1,())).bind fun v2 =>some (v2.1,v2.2.1,())
def DK(x:br.D×Unit):Option (Sn):=Kn x.1
abbrev xi:Type:=af.D×br.D×Unit
abbrev zH:Type:=Int→br.D→af.D→af.D→Option (xi)
def So(bx:zH)(v2:Int×br.D×Unit)(a2:Int)(v1:af.D×Unit)(v4:List I.D):Option (xi) :=(gr (v2.2.1,a2,())).bind fun v5 =>cond (decide (v5.1>0)) ((zD (v5.2.1,())).bind fun v6 =>(DK (v6.2.1,())).bind fun bp =>(ke ((v1.1.1,v4,()),v6.1,bp.1,())).bind fun dC =>bx v5.1 bp.2.1 (0,([]:List I.D),()) dC.1) ((za ((v1.1.1,v4,()),())).bind fun v9 =>some (v9.1,v5.2.1,()))
def DL(bx:zH)(a1:br.D)(a2:Int):Option (xi) :=(y8 ()).bind fun v1 =>(jk (a1,[511,511,493,1023,2047],())).bind fun v2 =>(aO v1.1.2.1.length 0).bind fun v3 =>So bx v2 a2 v1 (v1.1.2.1.set (0+v3) ((J I v1.1.2.1 (0+v3)).1,(J I v1.1.2.1 (0+v3)).2.1,v2.1,(J I v1.1.2.1 (0+v3)).2.2.2.1,(J I v1.1.2.1 (0+v3)).2.2.2.2.1,(J I v1.1.2.1 (0+v3)).2.2.2.2.2.1,(J I v1.1.2.1 (0+v3)).2.2.2.2.2.2.1,(J I v1.1.2.1 (0+v3)).2.2.2.2.2.2.2.1,(J I v1.1.2.1 (0+v3)).2.2.2.2.2.2.2.2.1,()))
def xj(bx:zH)(U:Int)(aa:br.D)(ae:af.D)(ai:af.D):Option (xi) :=cond (decide (aK (U-1)>0)) ((zD (aa,())).bind fun v1 =>(DK (v1.2.1,())).bind fun v2 =>(ke (ai,v1.1,v2.1,())).bind fun v3 =>bx (aK (U-1)) v2.2.1 ae v3.1) ((za (ai,())).bind fun v4 =>some (v4.1,aa,()))
def uO:Nat→zH | 0,_,_,_,_=>none | m+1,U,aa,ae,ai=>xj (uO m) U aa ae ai
def Ko(x:br.D×Int×Unit):Option (xi):=DL (uO aQ) x.1 x.2.1
abbrev pU:Type:=af.D×br.D×Unit
def abN(v1:af.D×br.D×Unit)(v6:Int×br.D×Unit)(dC:List I.D):Option (pU) :=some ((v1.1.1,dC,()),v6.2.1,())
def abO(v1:af.D×br.D×Unit)(v9:Int×br.D×Unit)(v11:List I.D):Option (pU) :=some ((v1.1.1,v11,()),v9.2.1,())
def abP(v1:af.D×br.D×Unit)(v4:Int×br.D×Unit)(mP:List I.D):Option (pU) :=some ((v1.1.1,mP,()),v4.2.1,())
def abQ(v1:af.D×br.D×Unit)(nJ:Int×br.D×Unit)(abR:List I.D):Option (pU) :=some ((v1.1.1,abR,()),nJ.2.1,())
def abS(v1:af.D×br.D×Unit)(v20:Int×br.D×Unit)(v22:List I.D):Option (pU) :=some ((v1.1.1,v22,()),v20.2.1,())
def abT(v1:af.D×br.D×Unit)(DM:Int×br.D×Unit)(abU:List I.D):Option (pU) :=some ((v1.1.1,abU,()),DM.2.1,())
def abV(v1:af.D×br.D×Unit)(v4:Int×br.D×Unit)(abW:List I.D):Option (pU) :=some ((v1.1.1,abW,()),v4.2.1,())
def abX(v1:af.D×br.D×Unit)(DN:Int×br.D×Unit)(abY:List I.D):Option (pU) :=some ((v1.1.1,abY,()),DN.2.1,())
def Kp(a1:br.D)(a2:Int):Option (pU) :=(Ko (a1,a2,())).bind fun v1 =>(r9 (v1.2.1,10,())).bind fun v2 =>cond (!v2.1) (some (v1.1,v2.2.1,())) ((gr (v2.2.1,(v1.1.2.1.length:Int),())).bind fun v3 =>(gr (v3.2.1,9,())).bind fun v4 =>cond (v4.1==0) ((jk (v4.2.1,[0,1,2,100000,100001],())).bind fun v5 =>some ((v5.1,v1.1.2.1,()),v5.2.1,())) (cond (v4.1==1) ((gr (v4.2.1,5,())).bind fun v6 =>(aO v1.1.2.1.length v3.1).bind fun bp =>abN v1 v6 (v1.1.2.1.set (0+bp) ((J I v1.1.2.1 (0+bp)).1,v6.1,(J I v1.1.2.1 (0+bp)).2.2.1,(J I v1.1.2.1 (0+bp)).2.2.2.1,(J I v1.1.2.1 (0+bp)).2.2.2.2.1,(J I v1.1.2.1 (0+bp)).2.2.2.2.2.1,(J I v1.1.2.1 (0+bp)).2.2.2.2.2.2.1,(J I v1.1.2.1 (0+bp)).2.2.2.2.2.2.2.1,(J I v1.1.2.1 (0+bp)).2.2.2.2.2.2.2.2.1,()))) (cond (v4.1==2) ((jk (v4.2.1,[(-1),0,511,2047,2048],())).bind fun v9 =>(aO v1.1.2.1.length v3.1).bind fun v10 =>abO v1 v9 (v1.1.2.1.set (0+v10) ((J I v1.1.2.1 (0+v10)).1,(J I v1.1.2.1 (0+v10)).2.1,v9.1,(J I v1.1.2.1 (0+v10)).2.2.2.1,(J I v1.1.2.1 (0+v10)).2.2.2.2.1,(J I v1.1.2.1 (0+v10)).2.2.2.2.2.1,(J I v1.1.2.1 (0+v10)).2.2.2.2.2.2.1,(J I v1.1.2.1 (0+v10)).2.2.2.2.2.2.2.1,(J I v1.1.2.1 (0+v10)).2.2.2.2.2.2.2.2.1,()))) (cond (v4.1==3) ((aO v1.1.2.1.length v3.1).bind fun v12 =>cond (room (((J I v1.1.2.1 (0+v12)).2.2.2.2.2.1).length +([120]:List UInt8).length)) ((aO v1.1.2.1.length v3.1).bind fun jT =>abP v1 v4 (v1.1.2.1.set (0+jT) ((J I v1.1.2.1 (0+jT)).1,(J I v1.1.2.1 (0+jT)).2.1,(J I v1.1.2.1 (0+jT)).2.2.1,(J I v1.1.2.1 (0+jT)).2.2.2.1,(J I v1.1.2.1 (0+jT)).2.2.2.2.1,((J I v1.1.2.1 (0+v12)).2.2.2.2.2.1)++([120]:List UInt8),(J I v1.1.2.1 (0+jT)).2.2.2.2.2.2.1,(J I v1.1.2.1 (0+jT)).2.2.2.2.2.2.2.1,(J I v1.1.2.1 (0+jT)).2.2.2.2.2.2.2.2.1,()))) (none)) (cond (v4.1==4) ((aO v1.1.2.1.length v3.1).bind fun h7 =>(qT (v4.2.1,[([122,122]:List UInt8),([122,46]:List UInt8),([]:List UInt8),([90]:List UInt8)],())).bind fun oP =>(gr (oP.2.1,6,())).bind fun nJ =>(aO v1.1.2.1.length v3.1).bind fun abZ =>cond (Nat.beq (0+abZ) (0+h7)) (cond (room (((J I v1.1.2.1 (0+h7)).2.2.2.2.2.2.1).length+[(oP.1,nJ.1,())].length)) (abQ v1 nJ (v1.1.2.1.set (0+h7) ((J I v1.1.2.1 (0+h7)).1,(J I v1.1.2.1 (0+h7)).2.1,(J I v1.1.2.1 (0+h7)).2.2.1,(J I v1.1.2.1 (0+h7)).2.2.2.1,(J I v1.1.2.1 (0+h7)).2.2.2.2.1,(J I v1.1.2.1 (0+h7)).2.2.2.2.2.1,((J I v1.1.2.1 (0+h7)).2.2.2.2.2.2.1)++[(oP.1,nJ.1,())],(J I v1.1.2.1 (0+h7)).2.2.2.2.2.2.2.1,(J I v1.1.2.1 (0+h7)).2.2.2.2.2.2.2.2.1,()))) (none)) (none)) (cond (v4.1==5) ((jk (v4.2.1,[(-1),1,5,400,401],())).bind fun v20 =>(aO v1.1.2.1.length v3.1).bind fun v21 =>abS v1 v20 (v1.1.2.1.set (0+v21) ((J I v1.1.2.1 (0+v21)).1,(J I v1.1.2.1 (0+v21)).2.1,(J I v1.1.2.1 (0+v21)).2.2.1,(J I v1.1.2.1 (0+v21)).2.2.2.1,(J I v1.1.2.1 (0+v21)).2.2.2.2.1,(J I v1.1.2.1 (0+v21)).2.2.2.2.2.1,(J I v1.1.2.1 (0+v21)).2.2.2.2.2.2.1,v20.1,(J I v1.1.2.1 (0+v21)).2.2.2.2.2.2.2.2.1,()))) (cond (v4.1==6) ((jk (v4.2.1,[(-1),1,24,25],())).bind fun DM =>(aO v1.1.2.1.length v3.1).bind fun v24 =>abT v1 DM (v1.1.2.1.set (0+v24) ((J I v1.1.2.1 (0+v24)).1,(J I v1.1.2.1 (0+v24)).2.1,(J I v1.1.2.1 (0+v24)).2.2.1,(J I v1.1.2.1 (0+v24)).2.2.2.1,(J I v1.1.2.1 (0+v24)).2.2.2.2.1,(J I v1.1.2.1 (0+v24)).2.2.2.2.2.1,(J I v1.1.2.1 (0+v24)).2.2.2.2.2.2.1,(J I v1.1.2.1 (0+v24)).2.2.2.2.2.2.2.1,DM.1,()))) (cond (v4.1==7) (cond (room (v1.1.2.1.length +([(aK (v1.1.1-1),1,0,0,0,([]:List UInt8),([]:List ay.D),0,0,())]).length)) (abV v1 v4 (v1.1.2.1++([(aK (v1.1.1-1),1,0,0,0,([]:List UInt8),([]:List ay.D),0,0,())]))) (none)) ((gr (v4.2.1,5,())).bind fun DN =>(aO v1.1.2.1.length v3.1).bind fun v28 =>abX v1 DN (v1.1.2.1.set (0+v28) (DN.1,(J I v1.1.2.1 (0+v28)).2.1,(J I v1.1.2.1 (0+v28)).2.2.1,(J I v1.1.2.1 (0+v28)).2.2.2.1,(J I v1.1.2.1 (0+v28)).2.2.2.2.1,(J I v1.1.2.1 (0+v28)).2.2.2.2.2.1,(J I v1.1.2.1 (0+v28)).2.2.2.2.2.2.1,(J I v1.1.2.1 (0+v28)).2.2.2.2.2.2.2.1,(J I v1.1.2.1 (0+v28)).2.2.2.2.2.2.2.2.1,())))))))))))
def Kq(x:br.D×Int×Unit):Option (pU):=Kp x.1 x.2.1
def Kr(a1:List Int)(a2:Int):Option (Int×Unit) :=cond (decide (aK (2+aK (Int.tdiv (a1.length:Int) 20))>a2)) (some (a2,())) (some (aK (2+aK (Int.tdiv (a1.length:Int) 20)),()))
def Ks(x:(List Int)×Int×Unit):Option (Int×Unit):=Kr x.1 x.2.1
abbrev Sp:Type:=aH.D×br.D×Unit
def Kt(a1:br.D):Option (Sp) :=(zD (a1,())).bind fun v1 =>(r9 (v1.2.1,10,())).bind fun v2 =>cond v2.1 ((gr (v2.2.1,3,())).bind fun v3 =>cond (v3.1==0) ((jk (v3.2.1,[(-1),1000,1001],())).bind fun v4 =>some ((v4.1,v1.1.2.1,v1.1.2.2.1,()),v4.2.1,())) (cond (v3.1==1) ((jk (v3.2.1,[(-1),1000,1001],())).bind fun v5 =>some ((v1.1.1,v5.1,v1.1.2.2.1,()),v5.2.1,())) ((gr (v3.2.1,2,())).bind fun v6 =>(du ([1,2,3,4,5].length) 0 (aK (4+v6.1))).bind fun bp =>some ((v1.1.1,v1.1.2.1,part [1,2,3,4,5] (0+bp.1) (bp.2-bp.1),()),v6.2.1,())))) (some (v1.1,v2.2.1,()))
def Ku(x:br.D×Unit):Option (Sp):=Kt x.1
abbrev Sq:Type:=af.D×aH.D×aJ.D×Unit
def Kv(a1:List Int):Option (Sq) :=(CH (a1,())).bind fun v1 =>(Ks (a1,50,())).bind fun v2 =>(Kq (v1.1,v2.1,())).bind fun v3 =>(Ku (v3.2.1,())).bind fun v4 =>(DJ (v4.2.1,v3.1,())).bind fun v5 =>some (v3.1,v4.1,v5.1,())
def Kw(x:(List Int)×Unit):Option (Sq):=Kv x.1
abbrev DO:Type:=(List UInt8)→Int→Option (Bool×Unit)
def DP(bg:DO)(a1:List UInt8):Option (Bool×Unit) :=(ep ((a1.length:Int),1,8,())).bind fun v1 =>cond (!v1.1) (some (false,())) (cond (bs a1 ([46]:List UInt8)) (some (false,())) (cond (bs a1 ([46,46]:List UInt8)) (some (false,())) (bg a1 0)))
def DQ(bg:DO)(U:List UInt8)(aa:Int):Option (Bool×Unit) :=cond (decide (aa<(U.length:Int))) ((aO U.length aa).bind fun v1 =>(zc (((U.getD v1 0).toNat:Int),())).bind fun v2 =>cond (!v2.1) (some (false,())) (bg U (aK (aa+1)))) (some (true,()))
def so:Nat→DO | 0,_,_=>none | m+1,U,aa=>DQ (so m) U aa
def Kx(x:(List UInt8)×Unit):Option (Bool×Unit):=DP (so aQ) x.1
structure uP where
 bg:Bool→af.D→I.D→Option (Bool×Unit)
 hW:Int→af.D→I.D→Option (Bool×Unit)
def DR(k:uP)(a1:af.D)(a2:I.D):Option (Bool×Unit) :=(ep (a2.2.2.1,0,2047,())).bind fun v1 =>cond (!v1.1) (some (false,())) ((ep (a2.2.2.2.1,0,1000,())).bind fun v2 =>cond (!v2.1) (some (false,())) ((ep (a2.2.2.2.2.1,0,1000,())).bind fun v3 =>cond (!v3.1) (some (false,())) (cond ((a2.2.2.2.2.2.2.1.length:Int)==0) (cond (a2.2.2.2.2.2.2.2.1==0) (k.bg (a2.2.2.2.2.2.2.2.2.1==0) a1 a2) (k.bg false a1 a2)) (k.bg false a1 a2))))
def Ky(k:uP)(U:Bool)(aa:af.D)(ae:I.D):Option (Bool×Unit) :=cond (ae.2.1==1) (cond U (some (decide ((ae.2.2.2.2.2.1.length:Int)≤64),())) (some (false,()))) (cond (ae.2.1==3) (cond U ((zd (ae.2.2.2.2.2.1,())).bind fun v1 =>cond v1.1 (some (ae.2.2.1==511,())) (some (false,()))) (some (false,()))) (cond (ae.2.1==2) (cond (!(bs ae.2.2.2.2.2.1 ([]:List UInt8))) (some (false,())) (cond (decide ((ae.2.2.2.2.2.2.1.length:Int)>12)) (some (false,())) ((ep (ae.2.2.2.2.2.2.2.1,0,400,())).bind fun v2 =>cond (!v2.1) (some (false,())) ((ep (ae.2.2.2.2.2.2.2.2.1,0,24,())).bind fun v3 =>cond (!v3.1) (some (false,())) (k.hW 0 aa ae))))) (some (false,()))))
def zI(k:uP)(U:Int)(aa:af.D)(ae:I.D):Option (Bool×Unit) :=cond (decide (U<(ae.2.2.2.2.2.2.1.length:Int))) ((aO ae.2.2.2.2.2.2.1.length U).bind fun v1 =>(Kx ((J ay ae.2.2.2.2.2.2.1 v1).1,())).bind fun v2 =>cond (!v2.1) (some (false,())) (cond (decide (U>0)) ((aO ae.2.2.2.2.2.2.1.length (aK (U-1))).bind fun v3 =>cond (!(dz ((J ay ae.2.2.2.2.2.2.1 v3).1) ((J ay ae.2.2.2.2.2.2.1 v1).1))) (some (false,())) (cond ((J ay ae.2.2.2.2.2.2.1 v1).2.1==1) (some (false,())) ((jQ (aa,(J ay ae.2.2.2.2.2.2.1 v1).2.1,())).bind fun v4 =>cond (decide (v4.1<0)) (some (false,())) (k.hW (aK (U+1)) aa ae)))) (cond ((J ay ae.2.2.2.2.2.2.1 v1).2.1==1) (some (false,())) ((jQ (aa,(J ay ae.2.2.2.2.2.2.1 v1).2.1,())).bind fun v5 =>cond (decide (v5.1<0)) (some (false,())) (k.hW (aK (U+1)) aa ae))))) (some (true,()))
def Sr(k:uP):uP:=⟨Ky k,zI k⟩
def qV:Nat→uP:=eR Sr ⟨fun _ _ _=>none,fun _ _ _=>none⟩
def DS(x:af.D×I.D×Unit):Option (Bool×Unit):=DR (qV aQ) x.1 x.2.1
structure uQ where
 bg:Int→af.D→Option (Bool×Unit)
 db:Int→af.D→(List Bool)→Option (Bool×Unit)
def DT(k:uQ)(a1:af.D):Option (Bool×Unit) :=(ep (a1.1,2,100000,())).bind fun v1 =>cond (!v1.1) (some (false,())) ((ep ((a1.2.1.length:Int),1,24,())).bind fun v2 =>cond (!v2.1) (some (false,())) ((aO a1.2.1.length 0).bind fun v3 =>cond ((J I a1.2.1 v3).1 != 1) (some (false,())) ((aO a1.2.1.length 0).bind fun v4 =>cond ((J I a1.2.1 v4).2.1 != 2) (some (false,())) (k.bg 0 a1))))
def uR(k:uQ)(U:Int)(aa:af.D):Option (Bool×Unit) :=cond (decide (U<(aa.2.1.length:Int))) ((aO aa.2.1.length U).bind fun v1 =>(ep ((J I aa.2.1 v1).1,1,aK (aa.1-1),())).bind fun v2 =>cond (!v2.1) (some (false,())) (cond (decide (U>0)) ((aO aa.2.1.length (aK (U-1))).bind fun v3 =>cond (decide ((J I aa.2.1 v3).1≥(J I aa.2.1 v1).1)) (some (false,())) ((DS (aa,J I aa.2.1 v1,())).bind fun v4 =>cond (!v4.1) (some (false,())) (k.bg (aK (U+1)) aa))) ((DS (aa,J I aa.2.1 v1,())).bind fun v5 =>cond (!v5.1) (some (false,())) (k.bg (aK (U+1)) aa)))) ((Da (aa,1,())).bind fun v6 =>k.db 1 aa v6.1)
def uS(k:uQ)(U:Int)(aa:af.D)(ae:List Bool):Option (Bool×Unit) :=cond (decide (U<(aa.2.1.length:Int))) ((aO ae.length U).bind fun v1 =>cond (!(J ad.bool ae (0+v1))) (some (false,())) ((aO aa.2.1.length U).bind fun v2 =>cond ((J I aa.2.1 v2).2.1==2) ((aO aa.2.1.length U).bind fun v3 =>(zs (aa,(J I aa.2.1 v3).1,())).bind fun v4 =>cond (v4.1 != 1) (some (false,())) (k.db (aK (U+1)) aa ae)) (k.db (aK (U+1)) aa ae))) ((zk (aa,())).bind fun v5 =>cond (decide (v5.1≤400)) ((Df (aa,())).bind fun v6 =>some (!v6.1,())) (some (false,())))
def Ss(k:uQ):uQ:=⟨uR k,uS k⟩
def nK:Nat→uQ:=eR Ss ⟨fun _ _=>none,fun _ _ _=>none⟩
def DU(x:af.D×Unit):Option (Bool×Unit):=DT (nK aQ) x.1
def Kz(a1:Int)(a2:Int)(a3:Int):Option (Bool×Unit) :=cond (decide (a1≥a2)) (some (decide (a1≤a3),())) (some (false,()))
def eL(x:Int×Int×Int×Unit):Option (Bool×Unit):=Kz x.1 x.2.1 x.2.2.1
def St(a1:Int):Option (Bool×Unit) :=cond (decide (a1≥97)) (cond (decide (a1≤122)) (some (true,())) (cond (decide (a1≥48)) (cond (decide (a1≤57)) (some (true,())) (cond (a1==46) (some (true,())) (cond (a1==95) (some (true,())) (some (a1==45,()))))) (cond (a1==46) (some (true,())) (cond (a1==95) (some (true,())) (some (a1==45,())))))) (cond (decide (a1≥48)) (cond (decide (a1≤57)) (some (true,())) (cond (a1==46) (some (true,())) (cond (a1==95) (some (true,())) (some (a1==45,()))))) (cond (a1==46) (some (true,())) (cond (a1==95) (some (true,())) (some (a1==45,())))))
def DV(x:Int×Unit):Option (Bool×Unit):=St x.1
abbrev DW:Type:=(List UInt8)→Int→Int→Option (Bool×Unit)
def DX(k2:DW)(a1:List UInt8):Option (Bool×Unit) :=k2 a1 (a1.length:Int) 0
def DY(k2:DW)(U:List UInt8)(aa:Int)(ae:Int):Option (Bool×Unit) :=cond (decide (ae<aa)) ((aO U.length ae).bind fun v1 =>cond (((U.getD v1 0).toNat:Int) != 47) ((aO U.length ae).bind fun v2 =>(DV (((U.getD v2 0).toNat:Int),())).bind fun v3 =>cond (!v3.1) (some (false,())) (k2 U aa (aK (ae+1)))) (k2 U aa (aK (ae+1)))) ((eL ((U.length:Int),1,60,())).bind fun v4 =>some (v4.1,()))
def uT:Nat→DW | 0,_,_,_=>none | m+1,U,aa,ae=>DY (uT m) U aa ae
def xk(x:(List UInt8)×Unit):Option (Bool×Unit):=DX (uT aQ) x.1
abbrev zJ:Type:=(List I.D)×Unit
abbrev DZ:Type:=af.D→Int→Int→Int→Option (zJ)
def D0(k2:DZ)(a1:af.D)(a2:Int):Option (zJ) :=k2 a1 a2 (a1.2.1.length:Int) 0
def D1(k2:DZ)(U:af.D)(aa:Int)(ae:Int)(ai:Int):Option (zJ) :=cond (decide (ai<ae)) ((aO U.2.1.length ai).bind fun v1 =>cond ((J I U.2.1 v1).1==aa) ((aO U.2.1.length ai).bind fun v2 =>some ([J I U.2.1 v2],())) (k2 U aa ae (aK (ai+1)))) (some ([],()))
def uU:Nat→DZ | 0,_,_,_,_=>none | m+1,U,aa,ae,ai=>D1 (uU m) U aa ae ai
def fC(x:af.D×Int×Unit):Option (zJ):=D0 (uU aQ) x.1 x.2.1
abbrev D2:Type:=Int→Int→Int→af.D→Option (Int×af.D×Unit)
def D3(k2:D2)(a1:af.D)(a2:Int):Option (Int×af.D×Unit) :=k2 a2 (a1.2.1.length:Int) 0 a1
def D4(k2:D2)(U:Int)(aa:Int)(ae:Int)(ai:af.D):Option (Int×af.D×Unit) :=cond (decide (ae<aa)) ((aO ai.2.1.length ae).bind fun v1 =>cond ((J I ai.2.1 (0+v1)).1==U) ((aO ai.2.1.length ae).bind fun v2 =>some ((((0+v2):Nat):Int),ai,())) (k2 U aa (aK (ae+1)) ai)) (some ((-1),ai,()))
def uV:Nat→D2 | 0,_,_,_,_=>none | m+1,U,aa,ae,ai=>D4 (uV m) U aa ae ai
def xl(x:af.D×Int×Unit):Option (Int×af.D×Unit):=D3 (uV aQ) x.1 x.2.1
abbrev D5:Type:=(List UInt8)→Int→Int→Option (Bool×Unit)
def D6(k2:D5)(a1:List UInt8):Option (Bool×Unit) :=k2 a1 (a1.length:Int) 0
def D7(k2:D5)(U:List UInt8)(aa:Int)(ae:Int):Option (Bool×Unit) :=cond (decide (ae<aa)) ((aO U.length ae).bind fun v1 =>(DV (((U.getD v1 0).toNat:Int),())).bind fun v2 =>cond (!v2.1) (some (false,())) (k2 U aa (aK (ae+1)))) ((eL ((U.length:Int),1,8,())).bind fun v3 =>cond v3.1 (cond (!(bs U ([46]:List UInt8))) (some (!(bs U ([46,46]:List UInt8)),())) (some (false,()))) (some (false,())))
def uW:Nat→D5 | 0,_,_,_=>none | m+1,U,aa,ae=>D7 (uW m) U aa ae
def KA(x:(List UInt8)×Unit):Option (Bool×Unit):=D6 (uW aQ) x.1
abbrev D8:Type:=af.D→(List ay.D)→Int→Int→I.D→Option (Bool×Unit)
def D9(k2:D8)(a1:af.D)(a2:I.D):Option (Bool×Unit) :=k2 a1 a2.2.2.2.2.2.2.1 (a2.2.2.2.2.2.2.1.length:Int) 0 a2
def D_(k2:D8)(U:af.D)(aa:List ay.D)(ae:Int)(ai:Int)(an:I.D):Option (Bool×Unit) :=cond (decide (ai<ae)) ((aO aa.length ai).bind fun v1 =>(KA ((J ay aa v1).1,())).bind fun v2 =>cond (!v2.1) (some (false,())) (cond ((J ay aa v1).2.1==1) (some (false,())) ((fC (U,(J ay aa v1).2.1,())).bind fun v3 =>cond (!(!List.isEmpty v3.1)) (some (false,())) (cond (decide (ai>0)) ((aO an.2.2.2.2.2.2.1.length (aK (ai-1))).bind fun v4 =>cond (!(dz ((J ay an.2.2.2.2.2.2.1 v4).1) ((J ay aa v1).1))) (some (false,())) (k2 U aa ae (aK (ai+1)) an)) (k2 U aa ae (aK (ai+1)) an))))) (some (decide ((an.2.2.2.2.2.2.1.length:Int)≤12),()))
def uX:Nat→D8 | 0,_,_,_,_,_=>none | m+1,U,aa,ae,ai,an=>D_ (uX m) U aa ae ai an
def KB(x:af.D×I.D×Unit):Option (Bool×Unit):=D9 (uX aQ) x.1 x.2.1
abbrev D':Type:=af.D→I.D→Option (Bool×Unit)
def Ea(bx:D')(a1:af.D)(a2:I.D):Option (Bool×Unit) :=(eL (a2.2.2.1,0,2047,())).bind fun v1 =>cond (!v1.1) (some (false,())) ((eL (a2.2.2.2.1,0,1000,())).bind fun v2 =>cond (!v2.1) (some (false,())) ((eL (a2.2.2.2.2.1,0,1000,())).bind fun v3 =>cond (!v3.1) (some (false,())) (cond (a2.2.1 != 2) (cond (decide ((a2.2.2.2.2.2.2.1.length:Int)>0)) (some (false,())) (cond (a2.2.2.2.2.2.2.2.1 != 0) (some (false,())) (cond (a2.2.2.2.2.2.2.2.2.1 != 0) (some (false,())) (bx a1 a2)))) (bx a1 a2))))
def KC(bx:D')(U:af.D)(aa:I.D):Option (Bool×Unit) :=cond (aa.2.1==1) (some (decide ((aa.2.2.2.2.2.1.length:Int)≤64),())) (cond (aa.2.1==3) ((xk (aa.2.2.2.2.2.1,())).bind fun v1 =>cond v1.1 (some (aa.2.2.1==511,())) (some (false,()))) (cond (aa.2.1==2) (cond (bs aa.2.2.2.2.2.1 ([]:List UInt8)) ((KB (U,aa,())).bind fun v2 =>cond v2.1 ((eL (aa.2.2.2.2.2.2.2.1,0,400,())).bind fun v3 =>cond v3.1 ((eL (aa.2.2.2.2.2.2.2.2.1,0,24,())).bind fun v4 =>some (v4.1,())) (some (false,()))) (some (false,()))) (some (false,()))) (some (false,()))))
def zK:Nat→D' | 0,_,_=>none | m+1,U,aa=>KC (zK m) U aa
def Eb(x:af.D×I.D×Unit):Option (Bool×Unit):=Ea (zK aQ) x.1 x.2.1
abbrev Ec:Type:=(List Int)→Int→Int→Int→Option (Int×Unit)
def Ed(k2:Ec)(a1:List Int)(a2:Int):Option (Int×Unit) :=k2 a1 a2 (a1.length:Int) 0
def Ee(k2:Ec)(U:List Int)(aa:Int)(ae:Int)(ai:Int):Option (Int×Unit) :=cond (decide (ai<ae)) ((aO U.length ai).bind fun v1 =>cond (aa==J (ad.int .i64) U v1) (some (ai,())) (k2 U aa ae (aK (ai+1)))) (some ((-1),()))
def uY:Nat→Ec | 0,_,_,_,_=>none | m+1,U,aa,ae,ai=>Ee (uY m) U aa ae ai
def KD(x:(List Int)×Int×Unit):Option (Int×Unit):=Ed (uY aQ) x.1 x.2.1
def KE(a1:List Int)(a2:Int):Option (Bool×Unit) :=(KD (a1,a2,())).bind fun v1 =>some (decide (v1.1≥0),())
def sq(x:(List Int)×Int×Unit):Option (Bool×Unit):=KE x.1 x.2.1
structure uZ where
 bg:af.D→Int→(List Int)→(List Int)→Option ((List Int)×Unit)
 hg:af.D→Int→(List ay.D)→Int→Int→(List Int)→(List Int)→Option ((List Int)×Unit)
def Ef(k:uZ)(a1:af.D)(a2:Int):Option ((List Int)×Unit) :=k.bg a1 0 ([]:List Int) [a2]
def qW(k:uZ)(U:af.D)(aa:Int)(ae:List Int)(ai:List Int):Option ((List Int)×Unit) :=cond (decide (aa<(ai.length:Int))) ((aO ai.length aa).bind fun v1 =>(fC (U,J (ad.int .i64) ai (0+v1),())).bind fun v2 =>cond (!(!List.isEmpty v2.1)) (k.bg U (aK (aa+1)) ae ai) (cond (!List.isEmpty v2.1) (k.hg U aa ((J I v2.1 0).2.2.2.2.2.2.1) (((J I v2.1 0).2.2.2.2.2.2.1).length:Int) 0 ae ai) (none))) (some (ae,()))
def zL(k:uZ)(U:af.D)(aa:Int)(ae:List ay.D)(ai:Int)(an:Int)(aB:List Int)(aZ:List Int):Option ((List Int)×Unit) :=cond (decide (an<ai)) ((aO ae.length an).bind fun v1 =>(sq (aB,(J ay ae v1).2.1,())).bind fun v2 =>cond (!v2.1) (cond (room (aB.length+[(J ay ae v1).2.1].length)) (cond (room (aZ.length+[(J ay ae v1).2.1].length)) (k.hg U aa ae ai (aK (an+1)) (aB++[(J ay ae v1).2.1]) (aZ++[(J ay ae v1).2.1])) (none)) (none)) (k.hg U aa ae ai (aK (an+1)) aB aZ)) (k.bg U (aK (aa+1)) aB aZ)
def Su(k:uZ):uZ:=⟨qW k,zL k⟩
def mQ:Nat→uZ:=eR Su ⟨fun _ _ _ _=>none,fun _ _ _ _ _ _ _=>none⟩
def u0(x:af.D×Int×Unit):Option ((List Int)×Unit):=Ef (mQ aQ) x.1 x.2.1
structure u1 where
 k3:Int→Int→(List I.D)→Int→Int→Option (Int×Unit)
 dg:Int→Int→(List I.D)→Int→Int→(List ay.D)→Int→Int→Option (Int×Unit)
def Eg(k:u1)(a1:af.D)(a2:Int):Option (Int×Unit) :=k.k3 a2 0 a1.2.1 (a1.2.1.length:Int) 0
def zM(k:u1)(U:Int)(aa:Int)(ae:List I.D)(ai:Int)(an:Int):Option (Int×Unit) :=cond (decide (an<ai)) ((aO ae.length an).bind fun v1 =>k.dg U aa ae ai an ((J I ae v1).2.2.2.2.2.2.1) (((J I ae v1).2.2.2.2.2.2.1).length:Int) 0) (some (aa,()))
def zN(k:u1)(U:Int)(aa:Int)(ae:List I.D)(ai:Int)(an:Int)(aB:List ay.D)(aZ:Int)(bD:Int):Option (Int×Unit) :=cond (decide (bD<aZ)) ((aO aB.length bD).bind fun v1 =>cond ((J ay aB v1).2.1==U) (k.dg U (aK (aa+1)) ae ai an aB aZ (aK (bD+1))) (k.dg U aa ae ai an aB aZ (aK (bD+1)))) (k.k3 U aa ae ai (aK (an+1)))
def Sv(k:u1):u1:=⟨zM k,zN k⟩
def pV:Nat→u1:=eR Sv ⟨fun _ _ _ _ _=>none,fun _ _ _ _ _ _ _ _=>none⟩
def xm(x:af.D×Int×Unit):Option (Int×Unit):=Eg (pV aQ) x.1 x.2.1
abbrev Eh:Type:=Int→(List I.D)→Int→Int→Option (Int×Unit)
def Ei(k3:Eh)(a1:af.D):Option (Int×Unit) :=k3 0 a1.2.1 (a1.2.1.length:Int) 0
def Ej(k3:Eh)(U:Int)(aa:List I.D)(ae:Int)(ai:Int):Option (Int×Unit) :=cond (decide (ai<ae)) ((aO aa.length ai).bind fun v1 =>k3 (aK (U +(((J I aa v1).2.2.2.2.2.1).length:Int))) aa ae (aK (ai+1))) (some (U,()))
def u2:Nat→Eh | 0,_,_,_,_=>none | m+1,U,aa,ae,ai=>Ej (u2 m) U aa ae ai
def sr(x:af.D×Unit):Option (Int×Unit):=Ei (u2 aQ) x.1
abbrev Ek:Type:=af.D→Int→Int→Int→(List Int)→Option (Int×Int×Unit)
def El(bg:Ek)(a1:af.D)(a2:Int):Option (Int×Int×Unit) :=(u0 (a1,a2,())).bind fun v1 =>bg a1 0 (v1.1.length:Int) 0 v1.1
def Em(bg:Ek)(U:af.D)(aa:Int)(ae:Int)(ai:Int)(an:List Int):Option (Int×Int×Unit) :=cond (decide (ai<ae)) ((aO an.length ai).bind fun v1 =>(fC (U,J (ad.int .i64) an (0+v1),())).bind fun v2 =>cond (!List.isEmpty v2.1) (cond (!List.isEmpty v2.1) (bg U (aK (aa +(((J I v2.1 0).2.2.2.2.2.1).length:Int))) ae (aK (ai+1)) an) (none)) (bg U aa ae (aK (ai+1)) an)) (some (aa,(an.length:Int),()))
def qX:Nat→Ek | 0,_,_,_,_,_=>none | m+1,U,aa,ae,ai,an=>Em (qX m) U aa ae ai an
def xn(x:af.D×Int×Unit):Option (Int×Int×Unit):=El (qX aQ) x.1 x.2.1
def KF(a1:af.D)(a2:I.D):Option (Bool×Unit) :=(xn (a1,a2.1,())).bind fun v1 =>cond (decide (a2.2.2.2.2.2.2.2.1>0)) (cond (decide (v1.1>a2.2.2.2.2.2.2.2.1)) (some (true,())) (cond (decide (a2.2.2.2.2.2.2.2.2.1>0)) (some (decide (v1.2.1>a2.2.2.2.2.2.2.2.2.1),())) (some (false,())))) (cond (decide (a2.2.2.2.2.2.2.2.2.1>0)) (some (decide (v1.2.1>a2.2.2.2.2.2.2.2.2.1),())) (some (false,())))
def KG(x:af.D×I.D×Unit):Option (Bool×Unit):=KF x.1 x.2.1
abbrev En:Type:=(List I.D)→af.D→Int→Int→Option (Int×Unit)
def Eo(k2:En)(a1:List I.D)(a2:af.D):Option (Int×Unit) :=k2 a1 a2 (a1.length:Int) 0
def Ep(k2:En)(U:List I.D)(aa:af.D)(ae:Int)(ai:Int):Option (Int×Unit) :=cond (decide (ai<ae)) ((aO U.length ai).bind fun v1 =>(KG (aa,J I U v1,())).bind fun v2 =>cond v2.1 (some (ai,())) (k2 U aa ae (aK (ai+1)))) (some ((-1),()))
def u3:Nat→En | 0,_,_,_,_=>none | m+1,U,aa,ae,ai=>Ep (u3 m) U aa ae ai
def KH(x:(List I.D)×af.D×Unit):Option (Int×Unit):=Eo (u3 aQ) x.1 x.2.1
def KI(a1:List I.D)(a2:af.D):Option (Bool×Unit) :=(KH (a1,a2,())).bind fun v1 =>some (decide (v1.1≥0),())
def zO(x:(List I.D)×af.D×Unit):Option (Bool×Unit):=KI x.1 x.2.1
structure u4 where
 bg:(List I.D)→Int→Int→af.D→Option (Bool×Unit)
 db:(List I.D)→Int→Int→af.D→(List Int)→Option (Bool×Unit)
def Er(k:u4)(a1:af.D):Option (Bool×Unit) :=(eL (a1.1,2,100000,())).bind fun v1 =>cond (!v1.1) (some (false,())) ((eL ((a1.2.1.length:Int),1,24,())).bind fun v2 =>cond (!v2.1) (some (false,())) ((aO a1.2.1.length 0).bind fun v3 =>cond ((J I a1.2.1 v3).1 != 1) (some (false,())) ((aO a1.2.1.length 0).bind fun v4 =>cond ((J I a1.2.1 v4).2.1 != 2) (some (false,())) (k.bg a1.2.1 (a1.2.1.length:Int) 0 a1))))
def u5(k:u4)(U:List I.D)(aa:Int)(ae:Int)(ai:af.D):Option (Bool×Unit) :=cond (decide (ae<aa)) ((aO U.length ae).bind fun v1 =>(eL ((J I U v1).1,1,aK (ai.1-1),())).bind fun v2 =>cond (!v2.1) (some (false,())) (cond (decide (ae>0)) ((aO ai.2.1.length (aK (ae-1))).bind fun v3 =>cond (decide ((J I ai.2.1 v3).1≥(J I U v1).1)) (some (false,())) ((Eb (ai,J I U v1,())).bind fun v4 =>cond (!v4.1) (some (false,())) (k.bg U aa (aK (ae+1)) ai))) ((Eb (ai,J I U v1,())).bind fun v5 =>cond (!v5.1) (some (false,())) (k.bg U aa (aK (ae+1)) ai)))) ((u0 (ai,1,())).bind fun v6 =>(du ai.2.1.length 1 (ai.2.1.length:Int)).bind fun bp =>k.db (part ai.2.1 bp.1 (bp.2-bp.1)) (((part ai.2.1 bp.1 (bp.2-bp.1)).length:Nat):Int) 0 ai v6.1)
def u6(k:u4)(U:List I.D)(aa:Int)(ae:Int)(ai:af.D)(an:List Int):Option (Bool×Unit) :=cond (decide (ae<aa)) ((aO U.length ae).bind fun v1 =>(sq (an,(J I U v1).1,())).bind fun v2 =>cond (!v2.1) (some (false,())) (cond ((J I U v1).2.1==2) ((xm (ai,(J I U v1).1,())).bind fun v3 =>cond (v3.1 != 1) (some (false,())) (k.db U aa (aK (ae+1)) ai an)) (k.db U aa (aK (ae+1)) ai an))) ((sr (ai,())).bind fun v4 =>cond (decide (v4.1≤400)) ((zO (ai.2.1,ai,())).bind fun v5 =>some (!v5.1,())) (some (false,())))
def Sw(k:u4):u4:=⟨u5 k,u6 k⟩
def nL:Nat→u4:=eR Sw ⟨fun _ _ _ _=>none,fun _ _ _ _ _=>none⟩
def xp(x:af.D×Unit):Option (Bool×Unit):=Er (nL aQ) x.1
def ab0(a1:Int):Option (aF.D×Unit) :=some ((a1,([]:List UInt8),()),())
def eZ(x:Int×Unit):Option (aF.D×Unit):=ab0 x.1
def KJ(a1:Int):Option (Bool×Unit) :=(eL (a1,0,1000,())).bind fun v1 =>some (!v1.1,())
def Sx(x:Int×Unit):Option (Bool×Unit):=KJ x.1
abbrev Es:Type:=(List Int)→Int→Int→Option (Int×Unit)
def Et(k2:Es)(a1:List Int):Option (Int×Unit) :=k2 a1 (a1.length:Int) 0
def Eu(k2:Es)(U:List Int)(aa:Int)(ae:Int):Option (Int×Unit) :=cond (decide (ae<aa)) ((aO U.length ae).bind fun v1 =>(Sx (J (ad.int .i64) U v1,())).bind fun v2 =>cond v2.1 (some (ae,())) (k2 U aa (aK (ae+1)))) (some ((-1),()))
def u7:Nat→Es | 0,_,_,_=>none | m+1,U,aa,ae=>Eu (u7 m) U aa ae
def KK(x:(List Int)×Unit):Option (Int×Unit):=Et (u7 aQ) x.1
def KL(a1:List Int):Option (Bool×Unit) :=(KK (a1,())).bind fun v1 =>some (decide (v1.1≥0),())
def KM(x:(List Int)×Unit):Option (Bool×Unit):=KL x.1
def KN(a1:aH.D):Option (Bool×Unit) :=(eL (a1.1,0,1000,())).bind fun v1 =>cond (!v1.1) (some (false,())) ((eL (a1.2.1,0,1000,())).bind fun v2 =>cond (!v2.1) (some (false,())) (cond (decide ((a1.2.2.1.length:Int)>4)) (some (false,())) ((KM (a1.2.2.1,())).bind fun v3 =>some (!v3.1,()))))
def xq(x:aH.D×Unit):Option (Bool×Unit):=KN x.1
structure u9 where
 k3:Bool→Bool→aJ.D→Option (Bool×Unit)
 bx:aJ.D→Option (Bool×Unit)
def Ev(k:u9)(a1:aJ.D):Option (Bool×Unit) :=cond (a1.1==9) (cond (a1.1==5) (k.k3 true true a1) (k.k3 true (a1.1==6) a1)) (cond (a1.1==10) (cond (a1.1==5) (k.k3 true true a1) (k.k3 true (a1.1==6) a1)) (cond (a1.1==5) (k.k3 (a1.1==12) true a1) (k.k3 (a1.1==12) (a1.1==6) a1)))
def Sy(k:u9)(U:Bool)(aa:Bool)(ae:aJ.D):Option (Bool×Unit) :=cond (!U) (cond (!(bs ae.2.2.1 ([]:List UInt8))) (some (false,())) (cond (!aa) (cond (!(bs ae.2.2.2.2.2.1 ([]:List UInt8))) (some (false,())) (k.bx ae)) (k.bx ae))) (cond (!aa) (cond (!(bs ae.2.2.2.2.2.1 ([]:List UInt8))) (some (false,())) (k.bx ae)) (k.bx ae))
def Sz(k:u9)(U:aJ.D):Option (Bool×Unit) :=(eL (U.1,1,22,())).bind fun v1 =>cond v1.1 (cond (decide ((U.2.1.length:Int)≤60)) (cond (decide ((U.2.2.1.length:Int)≤60)) (cond (decide ((U.2.2.2.2.2.1.length:Int)≤64)) ((eL (U.2.2.2.1,(-1000000),1000000,())).bind fun v2 =>cond v2.1 ((eL (U.2.2.2.2.1,(-1000000),1000000,())).bind fun v3 =>some (v3.1,())) (some (false,()))) (some (false,()))) (some (false,()))) (some (false,()))) (some (false,()))
def KO(k:u9):u9:=⟨Sy k,Sz k⟩
def Ew:Nat→u9:=eR KO ⟨fun _ _ _=>none,fun _=>none⟩
def KP(x:aJ.D×Unit):Option (Bool×Unit):=Ev (Ew aQ) x.1
abbrev xr:Type:=(List I.D)→Int→Int→af.D→af.D→Option (af.D×Unit)
def Ex(k3:xr)(a1:af.D):Option (af.D×Unit) :=k3 a1.2.1 (a1.2.1.length:Int) 0 (0,([]:List I.D),()) (a1.1,([]:List I.D),())
def SA(k3:xr)(U:List I.D)(aa:Int)(ae:Int)(ai:af.D)(an:af.D)(v3:List I.D):Option (af.D×Unit) :=k3 U aa (aK (ae+1)) ai (an.1,v3,())
def SB(k3:xr)(an:af.D)(U:List I.D)(v1:Nat)(aa:Int)(ae:Int)(ai:af.D)(v2:List ay.D):Option (af.D×Unit) :=cond (room (an.2.1.length+[((J I U v1).1,(J I U v1).2.1,(J I U v1).2.2.1,(J I U v1).2.2.2.1,(J I U v1).2.2.2.2.1,(J I U v1).2.2.2.2.2.1,v2,(J I U v1).2.2.2.2.2.2.2.1,(J I U v1).2.2.2.2.2.2.2.2.1,())].length)) (SA k3 U aa ae ai an (an.2.1++[((J I U v1).1,(J I U v1).2.1,(J I U v1).2.2.1,(J I U v1).2.2.2.1,(J I U v1).2.2.2.2.1,(J I U v1).2.2.2.2.2.1,v2,(J I U v1).2.2.2.2.2.2.2.1,(J I U v1).2.2.2.2.2.2.2.2.1,())])) (none)
def Ey(k3:xr)(U:List I.D)(aa:Int)(ae:Int)(ai:af.D)(an:af.D):Option (af.D×Unit) :=cond (decide (ae<aa)) ((aO U.length ae).bind fun v1 =>cond (room (([]:List ay.D).length +((J I U v1).2.2.2.2.2.2.1).length)) (SB k3 an U v1 aa ae ai (([]:List ay.D)++((J I U v1).2.2.2.2.2.2.1))) (none)) (some (an,()))
def u_:Nat→xr | 0,_,_,_,_,_=>none | m+1,U,aa,ae,ai,an=>Ey (u_ m) U aa ae ai an
def su(x:af.D×Unit):Option (af.D×Unit):=Ex (u_ aQ) x.1
def KQ(a1:List UInt8):Option (Bool×Unit) :=(xk (a1,())).bind fun v1 =>cond v1.1 ((aO a1.length 0).bind fun v2 =>some (((a1.getD v2 0).toNat:Int)==47,())) (some (false,()))
def KR(x:(List UInt8)×Unit):Option (Bool×Unit):=KQ x.1
structure u' where
 k2:Int→(List I.D)→Int→Int→Option (Int×Unit)
 bx:Int→(List I.D)→Int→Int→(List ay.D)→Int→Int→I.D→Option (Int×Unit)
def Ez(k:u')(a1:af.D)(a2:Int):Option (Int×Unit) :=k.k2 a2 a1.2.1 (a1.2.1.length:Int) 0
def va(k:u')(U:Int)(aa:List I.D)(ae:Int)(ai:Int):Option (Int×Unit) :=cond (decide (ai<ae)) ((aO aa.length ai).bind fun v1 =>k.bx U aa ae ai ((J I aa v1).2.2.2.2.2.2.1) (((J I aa v1).2.2.2.2.2.2.1).length:Int) 0 (J I aa v1)) (some (1,()))
def vd(k:u')(U:Int)(aa:List I.D)(ae:Int)(ai:Int)(an:List ay.D)(aB:Int)(aZ:Int)(bD:I.D):Option (Int×Unit) :=cond (decide (aZ<aB)) ((aO an.length aZ).bind fun v1 =>cond ((J ay an v1).2.1==U) (some (bD.1,())) (k.bx U aa ae ai an aB (aK (aZ+1)) bD)) (k.k2 U aa ae (aK (ai+1)))
def SC(k:u'):u':=⟨va k,vd k⟩
def kJ:Nat→u':=eR SC ⟨fun _ _ _ _=>none,fun _ _ _ _ _ _ _ _=>none⟩
def EA(x:af.D×Int×Unit):Option (Int×Unit):=Ez (kJ aQ) x.1 x.2.1
def KS(a1:aH.D)(a2:Int):Option (Bool×Unit) :=(xq (a1,())).bind fun v1 =>cond v1.1 (cond (a2==a1.2.1) (some (true,())) ((sq (a1.2.2.1,a2,())).bind fun v2 =>some (v2.1,()))) (some (false,()))
def ve(x:aH.D×Int×Unit):Option (Bool×Unit):=KS x.1 x.2.1
def KT(a1:aH.D)(a2:I.D)(a3:Int):Option (Bool×Unit) :=(xq (a1,())).bind fun v1 =>cond (!v1.1) (some (false,())) ((eL (a3,0,7,())).bind fun v2 =>cond (!v2.1) (some (false,())) (cond (a1.1==0) (cond (a2.2.1 != 1) (some (true,())) (cond (cQ .and .i64 a2.2.2.1 73 != 0) (some (true,())) (some (cQ .and .i64 a3 1==0,())))) (cond (a1.1==a2.2.2.2.1) (some (cQ .and .i64 (cQ .and .i64 (Int.fdiv a2.2.2.1 (2 ^ min (Int.toNat 6) 64)) 7) a3==a3,())) ((ve (a1,a2.2.2.2.2.1,())).bind fun v3 =>cond v3.1 (some (cQ .and .i64 (cQ .and .i64 (Int.fdiv a2.2.2.1 (2 ^ min (Int.toNat 3) 64)) 7) a3==a3,())) (some (cQ .and .i64 (cQ .and .i64 a2.2.2.1 7) a3==a3,()))))))
def pW(x:aH.D×I.D×Int×Unit):Option (Bool×Unit):=KT x.1 x.2.1 x.2.2.1
abbrev EB:Type:=(List UInt8)→(List ay.D)→Int→Int→Option (Int×Unit)
def EC(k2:EB)(a1:I.D)(a2:List UInt8):Option (Int×Unit) :=k2 a2 a1.2.2.2.2.2.2.1 (a1.2.2.2.2.2.2.1.length:Int) 0
def ED(k2:EB)(U:List UInt8)(aa:List ay.D)(ae:Int)(ai:Int):Option (Int×Unit) :=cond (decide (ai<ae)) ((aO aa.length ai).bind fun v1 =>cond (bs ((J ay aa v1).1) U) (some ((J ay aa v1).2.1,())) (k2 U aa ae (aK (ai+1)))) (some (0,()))
def sv:Nat→EB | 0,_,_,_,_=>none | m+1,U,aa,ae,ai=>ED (sv m) U aa ae ai
def EE(x:I.D×(List UInt8)×Unit):Option (Int×Unit):=EC (sv aQ) x.1 x.2.1
def SD(_:(List UInt8)×Int×Unit):Option ((List (List UInt8))×Unit):=none
def SE(x:(List UInt8)×Int×Unit):Option (Int×Unit):=some (Lib.indexByte x.1 x.2.1.toNat.toUInt8,())
def ab1(a1:List UInt8)(a2:Int):Option (Int×Unit) :=(SE (a1,a2,())).bind fun v1 =>some (v1.1,())
def SF(x:(List UInt8)×Int×Unit):Option (Int×Unit):=ab1 x.1 x.2.1
def KU(a1:List UInt8)(a2:List UInt8):Option (Int×Unit) :=cond ((a2.length:Int)==0) (some (0,())) (cond (bs a2 a1) (some (0,())) (cond ((a2.length:Int)==1) ((aO a2.length 0).bind fun v1 =>(SF (a1,((a2.getD v1 0).toNat:Int),())).bind fun v2 =>some (v2.1,())) (cond (decide ((a2.length:Int)≥(a1.length:Int))) (some ((-1),())) (none))))
def SG(x:(List UInt8)×(List UInt8)×Unit):Option (Int×Unit):=KU x.1 x.2.1
def KV(a1:List UInt8)(a2:List UInt8):Option (Int×Unit) :=(SG (a1,a2,())).bind fun v1 =>some (v1.1,())
def EF(x:(List UInt8)×(List UInt8)×Unit):Option (Int×Unit):=KV x.1 x.2.1
def SH(_:(List UInt8)×Unit):Option (Int×Unit):=none
def SI(x:(List UInt8)×Int×Unit):Option (Int×Unit):=some ((Lib.countByte x.1 x.2.1.toNat.toUInt8:Int),())
abbrev EG:Type:=(List UInt8)→(List UInt8)→Int→Option (Int×Unit)
def EH(dg:EG)(a1:List UInt8)(a2:List UInt8):Option (Int×Unit) :=cond ((a2.length:Int)==0) ((SH (a1,())).bind fun v1 =>some (aK (v1.1+1),())) (cond ((a2.length:Int)==1) ((aO a2.length 0).bind fun v2 =>(SI (a1,((a2.getD v2 0).toNat:Int),())).bind fun v3 =>some (v3.1,())) (dg a1 a2 0))
def SJ(dg:EG)(U:List UInt8)(aa:List UInt8)(ae:Int):Option (Int×Unit) :=(EF (U,aa,())).bind fun v1 =>cond (v1.1 ==(-1)) (some (ae,())) ((du U.length (aK (v1.1 +(aa.length:Int))) (U.length:Int)).bind fun v2 =>dg (part U v2.1 (v2.2-v2.1)) aa (aK (ae+1)))
def EI:Nat→EG | 0,_,_,_=>none | m+1,U,aa,ae=>SJ (EI m) U aa ae
def KW(x:(List UInt8)×(List UInt8)×Unit):Option (Int×Unit):=EH (EI aQ) x.1 x.2.1
abbrev pX:Type:=(List (List UInt8))×Unit
structure qY where
 da:(List UInt8)→(List UInt8)→Int→Int→Option (pX)
 db:(List UInt8)→(List UInt8)→Int→Int→Int→(List (List UInt8))→Option (pX)
 xf:(List UInt8)→Int→(List (List UInt8))→Option (pX)
def EJ(k:qY)(a1:List UInt8)(a2:List UInt8)(a3:Int)(a4:Int):Option (pX) :=cond (a4==0) (some (([]:List (List UInt8)),())) (cond (bs a2 ([]:List UInt8)) ((SD (a1,a4,())).bind fun v1 =>some (v1.1,())) (cond (decide (a4<0)) ((KW (a1,a2,())).bind fun v2 =>k.da a1 a2 a3 (aK (v2.1+1))) (k.da a1 a2 a3 a4)))
def KX(k:qY)(U:List UInt8)(aa:List UInt8)(ae:Int)(ai:Int):Option (pX) :=cond (decide (0≤jG ai (aK ((U.length:Int)+1)))&&decide (jG ai (aK ((U.length:Int)+1))=jG ai (aK ((U.length:Int)+1)))&&room (Int.toNat (jG ai (aK ((U.length:Int)+1))))) (k.db U aa ae (aK (jG ai (aK ((U.length:Int)+1))-1)) 0 (List.replicate (Int.toNat (jG ai (aK ((U.length:Int)+1)))) (([]:List UInt8):List UInt8))) (none)
def SK(k:qY)(U:List UInt8)(v1:Int×Unit)(aa:List UInt8)(ae:Int)(ai:Int)(an:Int)(v4:List (List UInt8)):Option (pX) :=(du U.length (aK (v1.1 +(aa.length:Int))) (U.length:Int)).bind fun v5 =>k.db (part U v5.1 (v5.2-v5.1)) aa ae ai (aK (an+1)) v4
def zP(k:qY)(U:List UInt8)(aa:List UInt8)(ae:Int)(ai:Int)(an:Int)(aB:List (List UInt8)):Option (pX) :=cond (decide (an<ai)) ((EF (U,aa,())).bind fun v1 =>cond (decide (v1.1<0)) (k.xf U an aB) ((du U.length 0 (aK (v1.1+ae))).bind fun v2 =>(aO aB.length an).bind fun v3 =>SK k U v1 aa ae ai an (aB.set (0+v3) (part U v2.1 (v2.2-v2.1))))) (k.xf U an aB)
def KY(k:qY)(U:List UInt8)(aa:Int)(ae:List (List UInt8)):Option (pX) :=(aO ae.length aa).bind fun v1 =>(du ((ae.set (0+v1) U).length) 0 (aK (aa+1))).bind fun v2 =>some (part (ae.set (0+v1) U) (0+v2.1) (v2.2-v2.1),())
def SL(k:qY):qY:=⟨KX k,zP k,KY k⟩
def qZ:Nat→qY:=eR SL ⟨fun _ _ _ _=>none,fun _ _ _ _ _ _=>none,fun _ _ _=>none⟩
def KZ(x:(List UInt8)×(List UInt8)×Int×Int×Unit):Option (pX):=EJ (qZ aQ) x.1 x.2.1 x.2.2.1 x.2.2.2.1
abbrev SM:Type:=(List (List UInt8))×Unit
def K0(a1:List UInt8)(a2:List UInt8):Option (SM) :=(KZ (a1,a2,0,(-1),())).bind fun v1 =>some (v1.1,())
def K1(x:(List UInt8)×(List UInt8)×Unit):Option (SM):=K0 x.1 x.2.1
abbrev zQ:Type:=(List (List UInt8))×Unit
abbrev EK:Type:=Int→Int→(List (List UInt8))→(List (List UInt8))→Option (zQ)
def EL(k3:EK)(a1:List UInt8):Option (zQ) :=(K1 (a1,([47]:List UInt8),())).bind fun v1 =>k3 (v1.1.length:Int) 0 ([]:List (List UInt8)) v1.1
def EM(k3:EK)(U:Int)(aa:Int)(ae:List (List UInt8))(ai:List (List UInt8)):Option (zQ) :=cond (decide (aa<U)) ((aO ai.length aa).bind fun v1 =>cond (!(bs (J ad.str ai (0+v1)) ([]:List UInt8))) (cond (room (ae.length+[J ad.str ai (0+v1)].length)) (k3 U (aK (aa+1)) (ae++[J ad.str ai (0+v1)]) ai) (none)) (k3 U (aK (aa+1)) ae ai)) (some (ae,()))
def sw:Nat→EK | 0,_,_,_,_=>none | m+1,U,aa,ae,ai=>EM (sw m) U aa ae ai
def sx(x:(List UInt8)×Unit):Option (zQ):=EL (sw aQ) x.1
abbrev sy:Type:=af.D→Bool→Nat→Nat→Int→Int→aH.D→aV.D→(List (List UInt8))→Option (aV.D×Unit)
def EN(k3:sy)(a1:af.D)(a2:aH.D)(a3:List UInt8)(a4:Bool):Option (aV.D×Unit) :=(sx (a3,())).bind fun v1 =>k3 a1 a4 0 v1.1.length 1 0 a2 (0,([]:List UInt8),0,0,()) v1.1
def SN(k3:sy)(U:af.D)(aa:Bool)(aB:Int)(aZ:aH.D)(bD:aV.D)(v10:List (List UInt8)):Option (aV.D×Unit) :=cond (decide ((v10.length:Int)>40)) (some ((0,([]:List UInt8),0,36,()),())) (k3 U aa 0 v10.length 1 (aK (aB+1)) aZ bD v10)
def SO(k3:sy)(U:af.D)(aa:Bool)(an:Int)(aB:Int)(aZ:aH.D)(bD:aV.D)(v12:List (List UInt8)):Option (aV.D×Unit) :=cond (decide ((v12.length:Int)>40)) (some ((0,([]:List UInt8),0,36,()),())) (k3 U aa 0 v12.length an (aK (aB+1)) aZ bD v12)
def SP(k3:sy)(U:af.D)(aa:Bool)(aB:Int)(aZ:aH.D)(bD:aV.D)(h7:List (List UInt8)):Option (aV.D×Unit) :=cond (decide ((h7.length:Int)>40)) (some ((0,([]:List UInt8),0,36,()),())) (k3 U aa 0 h7.length 1 (aK (aB+1)) aZ bD h7)
def SQ(k3:sy)(U:af.D)(aa:Bool)(an:Int)(aB:Int)(aZ:aH.D)(bD:aV.D)(nJ:List (List UInt8)):Option (aV.D×Unit) :=cond (decide ((nJ.length:Int)>40)) (some ((0,([]:List UInt8),0,36,()),())) (k3 U aa 0 nJ.length an (aK (aB+1)) aZ bD nJ)
def l0(k3:sy)(U:af.D)(aa:Bool)(ae:Nat)(ai:Nat)(an:Int)(aB:Int)(aZ:aH.D)(bD:aV.D)(b_:List (List UInt8)):Option (aV.D×Unit) :=cond (decide ((ai:Int)>0)) ((aO ai 0).bind fun v1 =>(du ai 1 (ai:Int)).bind fun v2 =>(fC (U,an,())).bind fun v3 =>cond (!List.isEmpty v3.1) ((pW (aZ,J I v3.1 0,1,())).bind fun v4 =>cond (!v4.1) (some ((0,([]:List UInt8),0,13,()),())) (cond (bs (J ad.str b_ (ae+v1)) ([46]:List UInt8)) (k3 U aa (ae+v2.1) (v2.2-v2.1) an aB aZ bD b_) (cond (bs (J ad.str b_ (ae+v1)) ([46,46]:List UInt8)) ((EA (U,an,())).bind fun v5 =>k3 U aa (ae+v2.1) (v2.2-v2.1) v5.1 aB aZ bD b_) (cond (decide (((J ad.str b_ (ae+v1)).length:Int)>8)) (some ((0,([]:List UInt8),0,36,()),())) (cond (!List.isEmpty v3.1) ((EE (J I v3.1 0,J ad.str b_ (ae+v1),())).bind fun v6 =>cond (v6.1==0) (cond ((((v2.2-v2.1):Nat):Int)==0) (some ((an,J ad.str b_ (ae+v1),0,2,()),())) (some ((0,([]:List UInt8),0,2,()),()))) ((fC (U,v6.1,())).bind fun bp =>cond (!List.isEmpty bp.1) (cond ((J I bp.1 0).2.1==3) (cond (!((((v2.2-v2.1):Nat):Int)==0)) (cond (aB==8) (some ((0,([]:List UInt8),0,40,()),())) (cond (!List.isEmpty bp.1) ((aO (((J I bp.1 0).2.2.2.2.2.1).length) 0).bind fun dC =>cond (((((J I bp.1 0).2.2.2.2.2.1).getD dC 0).toNat:Int)==47) (cond (!List.isEmpty bp.1) ((sx ((J I bp.1 0).2.2.2.2.2.1,())).bind fun v9 =>cond (room (v9.1.length +(part b_ (ae+v2.1) (v2.2-v2.1)).length)) (SN k3 U aa aB aZ bD (v9.1++(part b_ (ae+v2.1) (v2.2-v2.1)))) (none)) (none)) (cond (!List.isEmpty bp.1) ((sx ((J I bp.1 0).2.2.2.2.2.1,())).bind fun v11 =>cond (room (v11.1.length +(part b_ (ae+v2.1) (v2.2-v2.1)).length)) (SO k3 U aa an aB aZ bD (v11.1++(part b_ (ae+v2.1) (v2.2-v2.1)))) (none)) (none))) (none))) (cond aa (cond (aB==8) (some ((0,([]:List UInt8),0,40,()),())) (cond (!List.isEmpty bp.1) ((aO (((J I bp.1 0).2.2.2.2.2.1).length) 0).bind fun jT =>cond (((((J I bp.1 0).2.2.2.2.2.1).getD jT 0).toNat:Int)==47) (cond (!List.isEmpty bp.1) ((sx ((J I bp.1 0).2.2.2.2.2.1,())).bind fun mP =>cond (room (mP.1.length +(part b_ (ae+v2.1) (v2.2-v2.1)).length)) (SP k3 U aa aB aZ bD (mP.1++(part b_ (ae+v2.1) (v2.2-v2.1)))) (none)) (none)) (cond (!List.isEmpty bp.1) ((sx ((J I bp.1 0).2.2.2.2.2.1,())).bind fun oP =>cond (room (oP.1.length +(part b_ (ae+v2.1) (v2.2-v2.1)).length)) (SQ k3 U aa an aB aZ bD (oP.1++(part b_ (ae+v2.1) (v2.2-v2.1)))) (none)) (none))) (none))) (cond ((((v2.2-v2.1):Nat):Int)==0) (some ((an,J ad.str b_ (ae+v1),v6.1,0,()),())) (cond (!List.isEmpty bp.1) (cond ((J I bp.1 0).2.1 != 2) (some ((0,([]:List UInt8),0,20,()),())) (k3 U aa (ae+v2.1) (v2.2-v2.1) v6.1 aB aZ bD b_)) (none))))) (cond ((((v2.2-v2.1):Nat):Int)==0) (some ((an,J ad.str b_ (ae+v1),v6.1,0,()),())) (cond (!List.isEmpty bp.1) (cond ((J I bp.1 0).2.1 != 2) (some ((0,([]:List UInt8),0,20,()),())) (k3 U aa (ae+v2.1) (v2.2-v2.1) v6.1 aB aZ bD b_)) (none)))) (none))) (none)))))) (none)) (some ((0,([]:List UInt8),an,0,()),()))
def gu:Nat→sy | 0,_,_,_,_,_,_,_,_,_=>none | m+1,U,aa,ae,ai,an,aB,aZ,bD,b_=>l0 (gu m) U aa ae ai an aB aZ bD b_
def K2(x:af.D×aH.D×(List UInt8)×Bool×Unit):Option (aV.D×Unit):=EN (gu aQ) x.1 x.2.1 x.2.2.1 x.2.2.2.1
def q0(a1:aL.D)(a2:List UInt8)(a3:Bool):Option (aV.D×Unit) :=(KR (a2,())).bind fun v1 =>cond (!v1.1) (some ((0,([]:List UInt8),0,22,()),())) ((K2 (a1.1,a1.2.1,a2,a3,())).bind fun v2 =>some (v2.1,()))
def lg(x:aL.D×(List UInt8)×Bool×Unit):Option (aV.D×Unit):=q0 x.1 x.2.1 x.2.2.1
def zR(a1:aL.D)(a2:List UInt8):Option (aV.D×Int×Unit) :=(lg (a1,a2,false,())).bind fun v1 =>cond (v1.1.2.2.2.1==2) (cond (!(bs v1.1.2.1 ([]:List UInt8))) (some (v1.1,0,())) (cond (v1.1.2.2.2.1==0) (some (v1.1,17,())) (some (v1.1,v1.1.2.2.2.1,())))) (cond (v1.1.2.2.2.1==0) (some (v1.1,17,())) (some (v1.1,v1.1.2.2.2.1,())))
def vf(x:aL.D×(List UInt8)×Unit):Option (aV.D×Int×Unit):=zR x.1 x.2.1
def K3(a1:aL.D)(a2:Int):Option (Bool×Unit) :=(fC (a1.1,a2,())).bind fun v1 =>cond (!List.isEmpty v1.1) ((pW (a1.2.1,J I v1.1 0,3,())).bind fun v2 =>some (v2.1,())) (none)
def nM(x:aL.D×Int×Unit):Option (Bool×Unit):=K3 x.1 x.2.1
def SR(x:(List ay.D)×Int×(List ay.D)×Unit):Option ((List ay.D)×Unit):=insF x.1 x.2.1 x.2.2.1
structure vg where
 k2:(List UInt8)→Int→Int→Int→aL.D→Option (aL.D×Unit)
 bg:(List UInt8)→Int→Int→Int→aL.D→Option (aL.D×Unit)
def EO(k:vg)(a1:aL.D)(a2:Int)(a3:List UInt8)(a4:Int):Option (aL.D×Unit) :=(xl (a1.1,a2,())).bind fun v1 =>k.k2 a3 a4 v1.1 0 (v1.2.1,a1.2.1,a1.2.2.1,())
def zS(k:vg)(U:List UInt8)(aa:Int)(ae:Int)(ai:Int)(an:aL.D):Option (aL.D×Unit) :=(aO an.1.2.1.length ae).bind fun v1 =>cond (decide (ai<(((J I an.1.2.1 v1).2.2.2.2.2.2.1).length:Int))) ((aO an.1.2.1.length ae).bind fun v2 =>(aO (((J I an.1.2.1 v2).2.2.2.2.2.2.1).length) ai).bind fun v3 =>cond (dz ((J ay ((J I an.1.2.1 v2).2.2.2.2.2.2.1) v3).1) U) (k.k2 U aa ae (aK (ai+1)) an) (k.bg U aa ae ai an)) (k.bg U aa ae ai an)
def ab2(an:aL.D)(v4:List I.D):Option (aL.D×Unit) :=some (((an.1.1,v4,()),an.2.1,an.2.2.1,()),())
def K4(k:vg)(U:List UInt8)(aa:Int)(ae:Int)(ai:Int)(an:aL.D):Option (aL.D×Unit) :=(aO an.1.2.1.length ae).bind fun v1 =>(aO an.1.2.1.length ae).bind fun v2 =>cond (Nat.beq v2 v1) ((SR ((J I an.1.2.1 v1).2.2.2.2.2.2.1,ai,[(U,aa,())],())).bind fun v3 =>ab2 an (an.1.2.1.set v1 ((J I an.1.2.1 v1).1,(J I an.1.2.1 v1).2.1,(J I an.1.2.1 v1).2.2.1,(J I an.1.2.1 v1).2.2.2.1,(J I an.1.2.1 v1).2.2.2.2.1,(J I an.1.2.1 v1).2.2.2.2.2.1,v3.1,(J I an.1.2.1 v1).2.2.2.2.2.2.2.1,(J I an.1.2.1 v1).2.2.2.2.2.2.2.2.1,()))) (none)
def SS(k:vg):vg:=⟨zS k,K4 k⟩
def sA:Nat→vg:=eR SS ⟨fun _ _ _ _ _=>none,fun _ _ _ _ _=>none⟩
def sB(x:aL.D×Int×(List UInt8)×Int×Unit):Option (aL.D×Unit):=EO (sA aQ) x.1 x.2.1 x.2.2.1 x.2.2.2.1
def K5(a1:aL.D):Option (Int×Unit) :=(sr (a1.1,())).bind fun v1 =>cond (decide (v1.1>400)) (some (28,())) ((zO (a1.1.2.1,a1.1,())).bind fun v2 =>cond v2.1 (some (122,())) (some (0,())))
def nN(x:aL.D×Unit):Option (Int×Unit):=K5 x.1
structure vh where
 bg:aL.D→aJ.D→Option (Int×aL.D×Unit)
 hK:aL.D→aV.D→I.D→Option (Int×aL.D×Unit)
def EP(k:vh)(a1:aL.D):Option (Int×aL.D×Unit) :=cond (a1.2.2.1.1==10) ((xk (a1.2.2.1.2.2.1,())).bind fun v1 =>cond (!v1.1) (some (22,a1,())) (cond (a1.2.2.1.1 != 10) ((eL (a1.2.2.1.2.2.2.1,0,2047,())).bind fun v2 =>cond (!v2.1) (some (22,a1,())) (k.bg a1 a1.2.2.1)) (k.bg a1 a1.2.2.1))) (cond (a1.2.2.1.1 != 10) ((eL (a1.2.2.1.2.2.2.1,0,2047,())).bind fun v3 =>cond (!v3.1) (some (22,a1,())) (k.bg a1 a1.2.2.1)) (k.bg a1 a1.2.2.1))
def K6(k:vh)(U:aL.D)(aa:aJ.D):Option (Int×aL.D×Unit) :=(vf (U,aa.2.1,())).bind fun v1 =>cond (v1.2.1 != 0) (some (v1.2.1,U,())) ((nM (U,v1.1.1,())).bind fun v2 =>cond (!v2.1) (some (13,U,())) ((fC (U.1,v1.1.1,())).bind fun v3 =>cond (!List.isEmpty v3.1) (cond ((((J I v3.1 0).2.2.2.2.2.2.1).length:Int)==12) (some (28,U,())) (cond ((U.1.2.1.length:Int)==24) (some (28,U,())) (cond (U.1.1==100000) (some (28,U,())) (cond (!List.isEmpty v3.1) (cond (cQ .and .i64 ((J I v3.1 0).2.2.1) 1024 != 0) (cond (!List.isEmpty v3.1) (cond (aa.1==1) (cond (!List.isEmpty v3.1) (k.hK U v1.1 (U.1.1,2,cQ .or .i64 aa.2.2.2.1 (cQ .and .i64 ((J I v3.1 0).2.2.1) 1024),U.2.1.1,(J I v3.1 0).2.2.2.2.1,([]:List UInt8),([]:List ay.D),0,0,())) (none)) (cond (aa.1==10) (k.hK U v1.1 (U.1.1,3,511,U.2.1.1,(J I v3.1 0).2.2.2.2.1,aa.2.2.1,([]:List ay.D),0,0,())) (k.hK U v1.1 (U.1.1,1,aa.2.2.2.1,U.2.1.1,(J I v3.1 0).2.2.2.2.1,([]:List UInt8),([]:List ay.D),0,0,())))) (none)) (cond (aa.1==1) (cond (!List.isEmpty v3.1) (k.hK U v1.1 (U.1.1,2,cQ .or .i64 aa.2.2.2.1 (cQ .and .i64 ((J I v3.1 0).2.2.1) 1024),U.2.1.1,U.2.1.2.1,([]:List UInt8),([]:List ay.D),0,0,())) (none)) (cond (aa.1==10) (k.hK U v1.1 (U.1.1,3,511,U.2.1.1,U.2.1.2.1,aa.2.2.1,([]:List ay.D),0,0,())) (k.hK U v1.1 (U.1.1,1,aa.2.2.2.1,U.2.1.1,U.2.1.2.1,([]:List UInt8),([]:List ay.D),0,0,()))))) (none))))) (none)))
def K7(k:vh)(U:aL.D)(aa:aV.D)(ae:I.D):Option (Int×aL.D×Unit) :=(sB (((aK (U.1.1+1),U.1.2.1,()),U.2.1,U.2.2.1,()),aa.1,aa.2.1,ae.1,())).bind fun v1 =>cond (room (v1.1.1.2.1.length+[ae].length)) ((nN (((v1.1.1.1,v1.1.1.2.1++[ae],()),v1.1.2.1,v1.1.2.2.1,()),())).bind fun v2 =>some (v2.1,((v1.1.1.1,v1.1.1.2.1++[ae],()),v1.1.2.1,v1.1.2.2.1,()),())) (none)
def SU(k:vh):vh:=⟨K6 k,K7 k⟩
def lh:Nat→vh:=eR SU ⟨fun _ _=>none,fun _ _ _=>none⟩
def zT(x:aL.D×Unit):Option (Int×aL.D×Unit):=EP (lh aQ) x.1
def K8(a1:aH.D)(a2:I.D)(a3:I.D):Option (Bool×Unit) :=(xq (a1,())).bind fun v1 =>cond v1.1 (cond (cQ .and .i64 a2.2.2.1 512==0) (some (true,())) (cond (a1.1==0) (some (true,())) (cond (a1.1==a2.2.2.2.1) (some (true,())) (some (a1.1==a3.2.2.2.1,()))))) (some (false,()))
def sC(x:aH.D×I.D×I.D×Unit):Option (Bool×Unit):=K8 x.1 x.2.1 x.2.2.1
def ab3(a1:ay.D)(a2:List UInt8):Option (Bool×Unit) :=some (bs a1.1 a2,())
def ER(x:ay.D×(List UInt8)×Unit):Option (Bool×Unit):=ab3 x.1 x.2.1
abbrev ES:Type:=(List ay.D)→(List UInt8)→Int→Int→Option (Int×Unit)
def SV(k2:ES)(a1:List ay.D)(a2:List UInt8):Option (Int×Unit) :=k2 a1 a2 (a1.length:Int) 0
def ET(k2:ES)(U:List ay.D)(aa:List UInt8)(ae:Int)(ai:Int):Option (Int×Unit) :=cond (decide (ai<ae)) ((aO U.length ai).bind fun v1 =>(ER (J ay U v1,aa,())).bind fun v2 =>cond v2.1 (some (ai,())) (k2 U aa ae (aK (ai+1)))) (some ((-1),()))
def xt:Nat→ES | 0,_,_,_,_=>none | m+1,U,aa,ae,ai=>ET (xt m) U aa ae ai
def K9(x:(List ay.D)×(List UInt8)×Unit):Option (Int×Unit):=SV (xt aQ) x.1 x.2.1
abbrev xu:Type:=(List ay.D)×Unit
abbrev EU:Type:=(List UInt8)→Int→Int→(List ay.D)→Option (xu)
def EV(bx:EU)(a1:List ay.D)(a2:List UInt8):Option (xu) :=(K9 (a1,a2,())).bind fun v1 =>cond (v1.1 ==(-1)) (some (a1,())) (bx a2 v1.1 (aK (v1.1+1)) a1)
def SW(aa:Int)(v5:List ay.D):Option (xu) :=(du v5.length 0 aa).bind fun v6 =>some (part v5 (0+v6.1) (v6.2-v6.1),())
def EW(bx:EU)(U:List UInt8)(aa:Int)(ae:Int)(ai:List ay.D):Option (xu) :=cond (decide (ae<(ai.length:Int))) ((aO ai.length ae).bind fun v1 =>(ER (J ay ai (0+v1),U,())).bind fun v2 =>cond (!v2.1) ((aO ai.length aa).bind fun v3 =>bx U (aK (aa+1)) (aK (ae+1)) (ai.set (0+v3) (J ay ai (0+v1)))) (bx U aa (aK (ae+1)) ai)) ((du ai.length aa (ai.length:Int)).bind fun v4 =>SW aa (ai.take (0+v4.1)++List.replicate (v4.2-v4.1) ((([]:List UInt8),0,()):ay.D)++ai.drop ((0+v4.1) +(v4.2-v4.1))))
def xv:Nat→EU | 0,_,_,_,_=>none | m+1,U,aa,ae,ai=>EW (xv m) U aa ae ai
def EX(x:(List ay.D)×(List UInt8)×Unit):Option (xu):=EV (xv aQ) x.1 x.2.1
def SX(x:(List I.D)×Int×Unit):Option ((List I.D)×Unit):=cond (room x.1.length) (some (x.1.filter (fun y => !(y.1==x.2.1)),())) none
def K_(a4:Bool)(v1:Int×af.D×Unit)(v3:Int×Unit)(a1:aL.D)(bp:List I.D):Option (aL.D×Unit) :=cond a4 ((xm ((v1.2.1.1,bp,()),v3.1,())).bind fun dC =>cond (dC.1==0) ((SX (bp,v3.1,())).bind fun v9 =>some (((v1.2.1.1,v9.1,()),a1.2.1,a1.2.2.1,()),())) (some (((v1.2.1.1,bp,()),a1.2.1,a1.2.2.1,()),()))) (some (((v1.2.1.1,bp,()),a1.2.1,a1.2.2.1,()),()))
def K'(a1:aL.D)(a2:Int)(a3:List UInt8)(a4:Bool):Option (aL.D×Unit) :=(xl (a1.1,a2,())).bind fun v1 =>(aO v1.2.1.2.1.length v1.1).bind fun v2 =>(EE (J I v1.2.1.2.1 v2,a3,())).bind fun v3 =>(aO v1.2.1.2.1.length v1.1).bind fun v4 =>(aO v1.2.1.2.1.length v1.1).bind fun v5 =>cond (Nat.beq v5 v4) ((EX ((J I v1.2.1.2.1 v4).2.2.2.2.2.2.1,a3,())).bind fun v6 =>K_ a4 v1 v3 a1 (v1.2.1.2.1.set v4 ((J I v1.2.1.2.1 v4).1,(J I v1.2.1.2.1 v4).2.1,(J I v1.2.1.2.1 v4).2.2.1,(J I v1.2.1.2.1 v4).2.2.2.1,(J I v1.2.1.2.1 v4).2.2.2.2.1,(J I v1.2.1.2.1 v4).2.2.2.2.2.1,v6.1,(J I v1.2.1.2.1 v4).2.2.2.2.2.2.2.1,(J I v1.2.1.2.1 v4).2.2.2.2.2.2.2.2.1,()))) (none)
def oT(x:aL.D×Int×(List UInt8)×Bool×Unit):Option (aL.D×Unit):=K' x.1 x.2.1 x.2.2.1 x.2.2.2.1
structure q1 where
 bx:aL.D→aV.D→I.D→Option (Int×aL.D×Unit)
 da:aL.D→aV.D→I.D→Option (Int×aL.D×Unit)
 hg:aL.D→aV.D→I.D→Option (Int×aL.D×Unit)
 db:aL.D→aV.D→I.D→Option (Int×aL.D×Unit)
def EY(k:q1)(a1:aL.D):Option (Int×aL.D×Unit) :=(lg (a1,a1.2.2.1.2.1,false,())).bind fun v1 =>cond (v1.1.2.2.2.1 != 0) (some (v1.1.2.2.2.1,a1,())) (dup ((fC (a1.1,v1.1.2.2.1,())).bind fun v2 =>cond (!List.isEmpty v2.1) (k.bx a1 v1.1 (J I v2.1 0)) (none)))
def La(k:q1)(U:aL.D)(aa:aV.D)(ae:I.D):Option (Int×aL.D×Unit) :=cond (U.2.2.1.1==2) (cond (bs aa.2.1 ([]:List UInt8)) (some (16,U,())) (k.da U aa ae)) (k.da U aa ae)
def Lb(k:q1)(U:aL.D)(aa:aV.D)(ae:I.D):Option (Int×aL.D×Unit) :=cond (U.2.2.1.1==2) (cond (ae.2.1 != 2) (some (20,U,())) (k.hg U aa ae)) (k.hg U aa ae)
def Lc(k:q1)(U:aL.D)(aa:aV.D)(ae:I.D):Option (Int×aL.D×Unit) :=cond (U.2.2.1.1==8) (cond (ae.2.1==2) (some (21,U,())) (k.db U aa ae)) (k.db U aa ae)
def Ld(k:q1)(U:aL.D)(aa:aV.D)(ae:I.D):Option (Int×aL.D×Unit) :=(nM (U,aa.1,())).bind fun v1 =>cond (!v1.1) (some (13,U,())) ((fC (U.1,aa.1,())).bind fun v2 =>cond (!List.isEmpty v2.1) ((sC (U.2.1,J I v2.1 0,ae,())).bind fun v3 =>cond (!v3.1) (some (1,U,())) (cond (U.2.2.1.1==2) (cond (decide ((ae.2.2.2.2.2.2.1.length:Int)>0)) (some (39,U,())) ((oT (U,aa.1,aa.2.1,true,())).bind fun v4 =>some (0,v4.1,()))) ((oT (U,aa.1,aa.2.1,true,())).bind fun v5 =>some (0,v5.1,())))) (none))
def SY(k:q1):q1:=⟨La k,Lb k,Lc k,Ld k⟩
def oU:Nat→q1:=eR SY ⟨fun _ _ _=>none,fun _ _ _=>none,fun _ _ _=>none,fun _ _ _=>none⟩
def EZ(x:aL.D×Unit):Option (Int×aL.D×Unit):=EY (oU aQ) x.1
def Le(a1:af.D)(a2:Int):Option (Bool×Unit) :=(fC (a1,a2,())).bind fun v1 =>cond (!List.isEmpty v1.1) (cond (!List.isEmpty v1.1) (some ((J I v1.1 0).2.1==2,())) (none)) (some (false,()))
def vi(x:af.D×Int×Unit):Option (Bool×Unit):=Le x.1 x.2.1
def Lf(a1:aL.D):Option (Int×aL.D×Unit) :=(lg (a1,a1.2.2.1.2.1,false,())).bind fun v1 =>cond (v1.1.2.2.2.1 != 0) (some (v1.1.2.2.2.1,a1,())) ((vi (a1.1,v1.1.2.2.1,())).bind fun v2 =>cond v2.1 (some (1,a1,())) ((vf (a1,a1.2.2.1.2.2.1,())).bind fun v3 =>cond (v3.2.1 != 0) (some (v3.2.1,a1,())) ((nM (a1,v3.1.1,())).bind fun v4 =>cond (!v4.1) (some (13,a1,())) ((fC (a1.1,v3.1.1,())).bind fun v5 =>cond (!List.isEmpty v5.1) (cond ((((J I v5.1 0).2.2.2.2.2.2.1).length:Int)==12) (some (28,a1,())) ((sB (a1,v3.1.1,v3.1.2.1,v1.1.2.2.1,())).bind fun v6 =>(nN (v6.1,())).bind fun bp =>some (bp.1,v6.1,()))) (none)))))
def E0(x:aL.D×Unit):Option (Int×aL.D×Unit):=Lf x.1
def Lg(a1:aL.D)(a2:I.D)(a3:aV.D):Option (Int×Unit) :=dup ((fC (a1.1,a3.2.2.1,())).bind fun v1 =>cond (!List.isEmpty v1.1) ((fC (a1.1,a3.1,())).bind fun v2 =>cond (!List.isEmpty v2.1) ((sC (a1.2.1,J I v2.1 0,J I v1.1 0,())).bind fun v3 =>cond (!v3.1) (some (1,())) (cond (a2.2.1==2) (cond ((J I v1.1 0).2.1 != 2) (some (20,())) (cond (a2.2.1==2) (cond (decide ((((J I v1.1 0).2.2.2.2.2.2.1).length:Int)>0)) (some (39,())) (cond (a2.2.1 != 2) (cond ((J I v1.1 0).2.1==2) (some (21,())) (some (0,()))) (some (0,())))) (cond (a2.2.1 != 2) (cond ((J I v1.1 0).2.1==2) (some (21,())) (some (0,()))) (some (0,()))))) (cond (a2.2.1==2) (cond (decide ((((J I v1.1 0).2.2.2.2.2.2.1).length:Int)>0)) (some (39,())) (cond (a2.2.1 != 2) (cond ((J I v1.1 0).2.1==2) (some (21,())) (some (0,()))) (some (0,())))) (cond (a2.2.1 != 2) (cond ((J I v1.1 0).2.1==2) (some (21,())) (some (0,()))) (some (0,())))))) (none)) (none))
def E1(x:aL.D×I.D×aV.D×Unit):Option (Int×Unit):=Lg x.1 x.2.1 x.2.2.1
structure q2 where
 da:aL.D→aV.D→aV.D→Option (Int×aL.D×Unit)
 gp:aL.D→aV.D→aV.D→I.D→Option (Int×aL.D×Unit)
 jS:aL.D→aV.D→aV.D→I.D→Option (Int×aL.D×Unit)
 oV:aL.D→aV.D→aV.D→Option (Int×aL.D×Unit)
def E2(k:q2)(a1:aL.D):Option (Int×aL.D×Unit) :=(lg (a1,a1.2.2.1.2.1,false,())).bind fun v1 =>cond (v1.1.2.2.2.1 != 0) (some (v1.1.2.2.2.1,a1,())) ((lg (a1,a1.2.2.1.2.2.1,false,())).bind fun v2 =>cond (v2.1.2.2.2.1 != 0) (cond (v2.1.2.2.2.1 != 2) (some (v2.1.2.2.2.1,a1,())) (cond (bs v2.1.2.1 ([]:List UInt8)) (some (v2.1.2.2.2.1,a1,())) (k.da a1 v1.1 v2.1))) (k.da a1 v1.1 v2.1))
def Lh(k:q2)(U:aL.D)(aa:aV.D)(ae:aV.D):Option (Int×aL.D×Unit) :=cond (bs aa.2.1 ([]:List UInt8)) (some (16,U,())) (cond (bs ae.2.1 ([]:List UInt8)) (some (16,U,())) (dup ((fC (U.1,aa.2.2.1,())).bind fun v1 =>cond (!List.isEmpty v1.1) (k.gp U aa ae (J I v1.1 0)) (none))))
def Li(k:q2)(U:aL.D)(aa:aV.D)(ae:aV.D)(ai:I.D):Option (Int×aL.D×Unit) :=(nM (U,aa.1,())).bind fun v1 =>cond (!v1.1) (some (13,U,())) ((nM (U,ae.1,())).bind fun v2 =>cond (!v2.1) (some (13,U,())) ((fC (U.1,aa.1,())).bind fun v3 =>cond (!List.isEmpty v3.1) ((sC (U.2.1,J I v3.1 0,ai,())).bind fun v4 =>cond (!v4.1) (some (1,U,())) (cond (ai.2.1==2) (cond (ae.1==aa.2.2.1) (some (22,U,())) ((u0 (U.1,aa.2.2.1,())).bind fun v5 =>(sq (v5.1,ae.1,())).bind fun v6 =>cond v6.1 (some (22,U,())) (k.jS U aa ae ai))) (k.jS U aa ae ai))) (none)))
def Lj(k:q2)(U:aL.D)(aa:aV.D)(ae:aV.D)(ai:I.D):Option (Int×aL.D×Unit) :=cond (ae.2.2.1==aa.2.2.1) (some (0,U,())) (cond (ae.2.2.1 != 0) ((E1 (U,ai,ae,())).bind fun v1 =>cond (v1.1 != 0) (some (v1.1,U,())) ((oT (U,ae.1,ae.2.1,true,())).bind fun v2 =>k.oV v2.1 aa ae)) (cond (aa.1 != ae.1) ((fC (U.1,ae.1,())).bind fun v3 =>cond (!List.isEmpty v3.1) (cond ((((J I v3.1 0).2.2.2.2.2.2.1).length:Int)==12) (some (28,U,())) (k.oV U aa ae)) (none)) (k.oV U aa ae)))
def Lk(k:q2)(U:aL.D)(aa:aV.D)(ae:aV.D):Option (Int×aL.D×Unit) :=(oT (U,aa.1,aa.2.1,false,())).bind fun v1 =>(sB (v1.1,ae.1,ae.2.1,aa.2.2.1,())).bind fun v2 =>(nN (v2.1,())).bind fun v3 =>some (v3.1,v2.1,())
def SZ(k:q2):q2:=⟨Lh k,Li k,Lj k,Lk k⟩
def jl:Nat→q2:=eR SZ ⟨fun _ _ _=>none,fun _ _ _ _=>none,fun _ _ _ _=>none,fun _ _ _=>none⟩
def E3(x:aL.D×Unit):Option (Int×aL.D×Unit):=E2 (jl aQ) x.1
abbrev S0:Type:=Int×Int×aL.D×Unit
def Ll(a1:aL.D)(a2:Bool):Option (S0) :=(lg (a1,a1.2.2.1.2.1,a2,())).bind fun v1 =>cond (v1.1.2.2.2.1 != 0) (some ((-1),v1.1.2.2.2.1,a1,())) ((xl (a1.1,v1.1.2.2.1,())).bind fun v2 =>some (v2.1,0,(v2.2.1,a1.2.1,a1.2.2.1,()),()))
def mR(x:aL.D×Bool×Unit):Option (S0):=Ll x.1 x.2.1
abbrev S1:Type:=Int×Int×aL.D×Unit
def zU(a1:aL.D)(a2:Int):Option (S1) :=(mR (a1,true,())).bind fun v1 =>cond (v1.2.1 != 0) (some ((-1),v1.2.1,v1.2.2.1,())) ((aO v1.2.2.1.1.2.1.length v1.1).bind fun v2 =>cond ((J I v1.2.2.1.1.2.1 v2).2.1==2) (some ((-1),21,v1.2.2.1,())) ((aO v1.2.2.1.1.2.1.length v1.1).bind fun v3 =>(pW (v1.2.2.1.2.1,J I v1.2.2.1.1.2.1 v3,a2,())).bind fun v4 =>cond (!v4.1) (some ((-1),13,v1.2.2.1,())) (some (v1.1,0,v1.2.2.1,()))))
def zV(x:aL.D×Int×Unit):Option (S1):=zU x.1 x.2.1
abbrev S2:Type:=aF.D×aL.D×Unit
def Lm(a1:aL.D):Option (S2) :=(zV (a1,4,())).bind fun v1 =>cond (v1.2.1 != 0) ((eZ (v1.2.1,())).bind fun v2 =>some (v2.1,v1.2.2.1,())) (cond (decide (v1.2.2.1.2.2.1.2.2.2.1<0)) ((eZ (22,())).bind fun v3 =>some (v3.1,v1.2.2.1,())) (cond (decide (v1.2.2.1.2.2.1.2.2.2.2.1<0)) ((eZ (22,())).bind fun v4 =>some (v4.1,v1.2.2.1,())) ((aO v1.2.2.1.1.2.1.length v1.1).bind fun v5 =>(aO v1.2.2.1.1.2.1.length v1.1).bind fun v6 =>(du (((J I v1.2.2.1.1.2.1 v5).2.2.2.2.2.1).length) (jG v1.2.2.1.2.2.1.2.2.2.1 (((J I v1.2.2.1.1.2.1 v6).2.2.2.2.2.1).length:Int)) (((J I v1.2.2.1.1.2.1 v5).2.2.2.2.2.1).length:Int)).bind fun bp =>(du ((part ((J I v1.2.2.1.1.2.1 v5).2.2.2.2.2.1) bp.1 (bp.2-bp.1)).length) 0 (jG v1.2.2.1.2.2.1.2.2.2.2.1 (((part ((J I v1.2.2.1.1.2.1 v5).2.2.2.2.2.1) bp.1 (bp.2-bp.1)).length:Nat):Int))).bind fun dC =>some ((0,part (part ((J I v1.2.2.1.1.2.1 v5).2.2.2.2.2.1) bp.1 (bp.2-bp.1)) dC.1 (dC.2-dC.1),()),v1.2.2.1,()))))
def E4(x:aL.D×Unit):Option (S2):=Lm x.1
def strings_Repeat(x:(List UInt8)×Int×Unit):Option ((List UInt8)×Unit):=repF x.1 x.2.1
def Ln(a1:List UInt8)(a2:Int):Option ((List UInt8)×Unit) :=cond (decide ((a1.length:Int)≥a2)) ((du a1.length 0 a2).bind fun v1 =>some (part a1 v1.1 (v1.2-v1.1),())) ((strings_Repeat (([0]:List UInt8),aK (a2-(a1.length:Int)),())).bind fun v2 =>cond (room (a1.length+v2.1.length)) (some (a1++v2.1,())) (none))
def E5(x:(List UInt8)×Int×Unit):Option ((List UInt8)×Unit):=Ln x.1 x.2.1
structure sD where
 da:Int→Int→aL.D→Option (Int×aL.D×Unit)
 db:Int→Int→aL.D→Option (Int×aL.D×Unit)
 gR:Int→(List UInt8)→aL.D→Option (Int×aL.D×Unit)
def E6(k:sD)(a1:aL.D):Option (Int×aL.D×Unit) :=(zV (a1,2,())).bind fun v1 =>cond (v1.2.1 != 0) (some (v1.2.1,v1.2.2.1,())) (cond (v1.2.2.1.2.2.1.1==6) ((aO v1.2.2.1.1.2.1.length v1.1).bind fun v2 =>k.da v1.1 (((J I v1.2.2.1.1.2.1 v2).2.2.2.2.2.1).length:Int) v1.2.2.1) (k.da v1.1 v1.2.2.1.2.2.1.2.2.2.1 v1.2.2.1))
def Lo(k:sD)(U:Int)(aa:Int)(ae:aL.D):Option (Int×aL.D×Unit) :=cond (decide (aa<0)) (some (22,ae,())) (cond (ae.2.2.1.1 != 7) (cond (bs ae.2.2.1.2.2.2.2.2.1 ([]:List UInt8)) (some (0,ae,())) (k.db U aa ae)) (k.db U aa ae))
def Lp(k:sD)(U:Int)(aa:Int)(ae:aL.D):Option (Int×aL.D×Unit) :=cond (decide (aK (aa +(ae.2.2.1.2.2.2.2.2.1.length:Int))>64)) (some (27,ae,())) ((aO ae.1.2.1.length U).bind fun v1 =>(E5 ((J I ae.1.2.1 v1).2.2.2.2.2.1,aa,())).bind fun v2 =>cond (ae.2.2.1.1 != 7) (cond (room (v2.1.length+ae.2.2.1.2.2.2.2.2.1.length)) ((aO ae.1.2.1.length U).bind fun v3 =>cond (decide ((((J I ae.1.2.1 v3).2.2.2.2.2.1).length:Int) >((v2.1++ae.2.2.1.2.2.2.2.2.1).length:Int))) ((aO ae.1.2.1.length U).bind fun v4 =>(du (((J I ae.1.2.1 v4).2.2.2.2.2.1).length) ((v2.1++ae.2.2.1.2.2.2.2.2.1).length:Int) (((J I ae.1.2.1 v4).2.2.2.2.2.1).length:Int)).bind fun v5 =>cond (room ((v2.1++ae.2.2.1.2.2.2.2.2.1).length +(part ((J I ae.1.2.1 v4).2.2.2.2.2.1) v5.1 (v5.2-v5.1)).length)) (k.gR U ((v2.1++ae.2.2.1.2.2.2.2.2.1)++(part ((J I ae.1.2.1 v4).2.2.2.2.2.1) v5.1 (v5.2-v5.1))) ae) (none)) (k.gR U (v2.1++ae.2.2.1.2.2.2.2.2.1) ae)) (none)) (k.gR U v2.1 ae))
def ab4(ae:aL.D)(v2:List I.D):Option (Int×aL.D×Unit) :=(nN (((ae.1.1,v2,()),ae.2.1,ae.2.2.1,()),())).bind fun v3 =>some (v3.1,((ae.1.1,v2,()),ae.2.1,ae.2.2.1,()),())
def Lq(k:sD)(U:Int)(aa:List UInt8)(ae:aL.D):Option (Int×aL.D×Unit) :=(aO ae.1.2.1.length U).bind fun v1 =>ab4 ae (ae.1.2.1.set v1 ((J I ae.1.2.1 v1).1,(J I ae.1.2.1 v1).2.1,(J I ae.1.2.1 v1).2.2.1,(J I ae.1.2.1 v1).2.2.2.1,(J I ae.1.2.1 v1).2.2.2.2.1,aa,(J I ae.1.2.1 v1).2.2.2.2.2.2.1,(J I ae.1.2.1 v1).2.2.2.2.2.2.2.1,(J I ae.1.2.1 v1).2.2.2.2.2.2.2.2.1,()))
def S3(k:sD):sD:=⟨Lo k,Lp k,Lq k⟩
def gF:Nat→sD:=eR S3 ⟨fun _ _ _=>none,fun _ _ _=>none,fun _ _ _=>none⟩
def E7(x:aL.D×Unit):Option (Int×aL.D×Unit):=E6 (gF aQ) x.1
abbrev S4:Type:=aF.D×aL.D×Unit
def Lr(a1:aL.D):Option (S4) :=(mR (a1,false,())).bind fun v1 =>cond (v1.2.1 != 0) ((eZ (v1.2.1,())).bind fun v2 =>some (v2.1,v1.2.2.1,())) ((aO v1.2.2.1.1.2.1.length v1.1).bind fun v3 =>cond ((J I v1.2.2.1.1.2.1 v3).2.1 != 3) ((eZ (22,())).bind fun v4 =>some (v4.1,v1.2.2.1,())) ((aO v1.2.2.1.1.2.1.length v1.1).bind fun v5 =>some ((0,(J I v1.2.2.1.1.2.1 v5).2.2.2.2.2.1,()),v1.2.2.1,())))
def E8(x:aL.D×Unit):Option (S4):=Lr x.1
def strings_Join(x:(List (List UInt8))×(List UInt8)×Unit):Option ((List UInt8)×Unit):=joinF x.1 x.2.1
structure vj where
 bg:Int→(List UInt8)→Int→Option ((List UInt8)×Unit)
 da:Int→(List UInt8)→Int→Int→Option ((List UInt8)×Unit)
def S5(k:vj)(a1:Int):Option ((List UInt8)×Unit) :=k.bg a1 ([]:List UInt8) a1
def Ls(k:vj)(U:Int)(aa:List UInt8)(ae:Int):Option ((List UInt8)×Unit) :=cond (decide (Int.tmod ae 10<0)) (k.da U aa ae (aK (0-(Int.tmod ae 10)))) (k.da U aa ae (Int.tmod ae 10))
def Lt(k:vj)(U:Int)(aa:List UInt8)(ae:Int)(ai:Int):Option ((List UInt8)×Unit) :=cond (room ((gI [IntKind.wrap .u8 (aK (48+ai))]).length+aa.length)) ((eL (ae,(-9),9,())).bind fun v1 =>cond v1.1 (cond (decide (U<0)) (cond (room (([45]:List UInt8).length +((gI [IntKind.wrap .u8 (aK (48+ai))])++aa).length)) (some (([45]:List UInt8)++((gI [IntKind.wrap .u8 (aK (48+ai))])++aa),())) (none)) (some ((gI [IntKind.wrap .u8 (aK (48+ai))])++aa,()))) (k.bg U ((gI [IntKind.wrap .u8 (aK (48+ai))])++aa) (aK (Int.tdiv ae 10)))) (none)
def S6(k:vj):vj:=⟨Ls k,Lt k⟩
def mS:Nat→vj:=eR S6 ⟨fun _ _ _=>none,fun _ _ _ _=>none⟩
def zW(x:Int×Unit):Option ((List UInt8)×Unit):=S5 (mS aQ) x.1
abbrev E9:Type:=(List Int)→Int→Int→(List (List UInt8))→Option ((List UInt8)×Unit)
def S7(k3:E9)(a1:List Int):Option ((List UInt8)×Unit) :=k3 a1 (a1.length:Int) 0 ([]:List (List UInt8))
def E_(k3:E9)(U:List Int)(aa:Int)(ae:Int)(ai:List (List UInt8)):Option ((List UInt8)×Unit) :=cond (decide (ae<aa)) ((aO U.length ae).bind fun v1 =>(zW (J (ad.int .i64) U v1,())).bind fun v2 =>cond (room (ai.length+[v2.1].length)) (k3 U aa (aK (ae+1)) (ai++[v2.1])) (none)) ((strings_Join (ai,([32]:List UInt8),())).bind fun v3 =>some (v3.1,()))
def vk:Nat→E9 | 0,_,_,_,_=>none | m+1,U,aa,ae,ai=>E_ (vk m) U aa ae ai
def q3(x:(List Int)×Unit):Option ((List UInt8)×Unit):=S7 (vk aQ) x.1
abbrev zX:Type:=aF.D×aL.D×Unit
abbrev E':Type:=(List ay.D)→Int→Int→aF.D→(List (List UInt8))→aL.D→Option (zX)
def Fa(hW:E')(a1:aL.D):Option (zX) :=(mR (a1,true,())).bind fun v1 =>cond (v1.2.1 != 0) ((eZ (v1.2.1,())).bind fun v2 =>some (v2.1,v1.2.2.1,())) ((aO v1.2.2.1.1.2.1.length v1.1).bind fun v3 =>cond ((J I v1.2.2.1.1.2.1 v3).2.1 != 2) ((eZ (20,())).bind fun v4 =>some (v4.1,v1.2.2.1,())) ((aO v1.2.2.1.1.2.1.length v1.1).bind fun v5 =>(pW (v1.2.2.1.2.1,J I v1.2.2.1.1.2.1 v5,4,())).bind fun v6 =>cond (!v6.1) ((eZ (13,())).bind fun bp =>some (bp.1,v1.2.2.1,())) (cond (v1.2.2.1.2.2.1.1==20) ((aO v1.2.2.1.1.2.1.length v1.1).bind fun dC =>(xn (v1.2.2.1.1,(J I v1.2.2.1.1.2.1 dC).1,())).bind fun v9 =>(aO v1.2.2.1.1.2.1.length v1.1).bind fun v10 =>(aO v1.2.2.1.1.2.1.length v1.1).bind fun v11 =>(q3 ([(J I v1.2.2.1.1.2.1 v10).2.2.2.2.2.2.2.1,(J I v1.2.2.1.1.2.1 v11).2.2.2.2.2.2.2.2.1,v9.1,v9.2.1],())).bind fun v12 =>some ((0,v12.1,()),v1.2.2.1,())) ((aO v1.2.2.1.1.2.1.length v1.1).bind fun jT =>hW ((J I v1.2.2.1.1.2.1 jT).2.2.2.2.2.2.1) (((J I v1.2.2.1.1.2.1 jT).2.2.2.2.2.2.1).length:Int) 0 (0,([]:List UInt8),()) ([]:List (List UInt8)) v1.2.2.1))))
def Fb(hW:E')(U:List ay.D)(aa:Int)(ae:Int)(ai:aF.D)(an:List (List UInt8))(aB:aL.D):Option (zX) :=cond (decide (ae<aa)) ((aO U.length ae).bind fun v1 =>cond (room (an.length+[(J ay U v1).1].length)) (hW U aa (aK (ae+1)) ai (an++[(J ay U v1).1]) aB) (none)) ((strings_Join (an,([47]:List UInt8),())).bind fun v2 =>some ((0,v2.1,()),aB,()))
def q4:Nat→E' | 0,_,_,_,_,_,_=>none | m+1,U,aa,ae,ai,an,aB=>Fb (q4 m) U aa ae ai an aB
def zY(x:aL.D×Unit):Option (zX):=Fa (q4 aQ) x.1
abbrev Fc:Type:=af.D→Int→(List ay.D)→Int→Int→Option (Int×Unit)
def Fe(bx:Fc)(a1:af.D)(a2:I.D):Option (Int×Unit) :=cond (a2.2.1 != 2) ((xm (a1,a2.1,())).bind fun v1 =>some (v1.1,())) (bx a1 2 a2.2.2.2.2.2.2.1 (a2.2.2.2.2.2.2.1.length:Int) 0)
def Ff(bx:Fc)(U:af.D)(aa:Int)(ae:List ay.D)(ai:Int)(an:Int):Option (Int×Unit) :=cond (decide (an<ai)) ((aO ae.length an).bind fun v1 =>(vi (U,(J ay ae v1).2.1,())).bind fun v2 =>cond v2.1 (bx U (aK (aa+1)) ae ai (aK (an+1))) (bx U aa ae ai (aK (an+1)))) (some (aa,()))
def sE:Nat→Fc | 0,_,_,_,_,_=>none | m+1,U,aa,ae,ai,an=>Ff (sE m) U aa ae ai an
def Fg(x:af.D×I.D×Unit):Option (Int×Unit):=Fe (sE aQ) x.1 x.2.1
abbrev S8:Type:=aF.D×aL.D×Unit
def Lu(a1:aL.D):Option (S8) :=(eL (a1.2.2.1.2.2.2.1,0,1,())).bind fun v1 =>cond (!v1.1) ((eZ (22,())).bind fun v2 =>some (v2.1,a1,())) ((mR (a1,a1.2.2.1.2.2.2.1==0,())).bind fun v3 =>cond (v3.2.1 != 0) ((eZ (v3.2.1,())).bind fun v4 =>some (v4.1,v3.2.2.1,())) ((aO v3.2.2.1.1.2.1.length v3.1).bind fun v5 =>(aO v3.2.2.1.1.2.1.length v3.1).bind fun v6 =>(aO v3.2.2.1.1.2.1.length v3.1).bind fun bp =>(aO v3.2.2.1.1.2.1.length v3.1).bind fun dC =>(aO v3.2.2.1.1.2.1.length v3.1).bind fun v9 =>(aO v3.2.2.1.1.2.1.length v3.1).bind fun v10 =>(Fg (v3.2.2.1.1,J I v3.2.2.1.1.2.1 v9,())).bind fun v11 =>(q3 ([(J I v3.2.2.1.1.2.1 v5).2.1,(J I v3.2.2.1.1.2.1 v6).2.2.1,(J I v3.2.2.1.1.2.1 bp).2.2.2.1,(J I v3.2.2.1.1.2.1 dC).2.2.2.2.1,v11.1,(((J I v3.2.2.1.1.2.1 v10).2.2.2.2.2.1).length:Int)],())).bind fun v12 =>some ((0,v12.1,()),v3.2.2.1,())))
def zZ(x:aL.D×Unit):Option (S8):=Lu x.1
abbrev Fh:Type:=Int→aL.D→Option (Int×aL.D×Unit)
def Fi(dL:Fh)(a1:aL.D):Option (Int×aL.D×Unit) :=(eL (a1.2.2.1.2.2.2.1,0,2047,())).bind fun v1 =>cond (!v1.1) (some (22,a1,())) ((mR (a1,true,())).bind fun v2 =>cond (v2.2.1 != 0) (some (v2.2.1,v2.2.2.1,())) (cond (v2.2.2.1.2.1.1 != 0) ((aO v2.2.2.1.1.2.1.length v2.1).bind fun v3 =>cond (v2.2.2.1.2.1.1 !=(J I v2.2.2.1.1.2.1 v3).2.2.2.1) (some (1,v2.2.2.1,())) (dL v2.1 v2.2.2.1)) (dL v2.1 v2.2.2.1)))
def S9(aa:aL.D)(bp:List I.D):Option (Int×aL.D×Unit) :=some (0,((aa.1.1,bp,()),aa.2.1,aa.2.2.1,()),())
def Lv(aa:aL.D)(U:Int)(v2:List I.D):Option (Int×aL.D×Unit) :=cond (aa.2.1.1 != 0) ((aO v2.length U).bind fun v3 =>(ve (aa.2.1,(J I v2 v3).2.2.2.2.1,())).bind fun v4 =>cond (!v4.1) ((aO v2.length U).bind fun v5 =>(aO v2.length U).bind fun v6 =>S9 aa (v2.set v6 ((J I v2 v6).1,(J I v2 v6).2.1,cQ .andNot .i64 ((J I v2 v5).2.2.1) 1024,(J I v2 v6).2.2.2.1,(J I v2 v6).2.2.2.2.1,(J I v2 v6).2.2.2.2.2.1,(J I v2 v6).2.2.2.2.2.2.1,(J I v2 v6).2.2.2.2.2.2.2.1,(J I v2 v6).2.2.2.2.2.2.2.2.1,()))) (some (0,((aa.1.1,v2,()),aa.2.1,aa.2.2.1,()),()))) (some (0,((aa.1.1,v2,()),aa.2.1,aa.2.2.1,()),()))
def Lw(dL:Fh)(U:Int)(aa:aL.D):Option (Int×aL.D×Unit) :=(aO aa.1.2.1.length U).bind fun v1 =>Lv aa U (aa.1.2.1.set v1 ((J I aa.1.2.1 v1).1,(J I aa.1.2.1 v1).2.1,aa.2.2.1.2.2.2.1,(J I aa.1.2.1 v1).2.2.2.1,(J I aa.1.2.1 v1).2.2.2.2.1,(J I aa.1.2.1 v1).2.2.2.2.2.1,(J I aa.1.2.1 v1).2.2.2.2.2.2.1,(J I aa.1.2.1 v1).2.2.2.2.2.2.2.1,(J I aa.1.2.1 v1).2.2.2.2.2.2.2.2.1,()))
def q5:Nat→Fh | 0,_,_=>none | m+1,U,aa=>Lw (q5 m) U aa
def Fj(x:aL.D×Unit):Option (Int×aL.D×Unit):=Fi (q5 aQ) x.1
abbrev Fk:Type:=Int→aL.D→Option (Int×aL.D×Unit)
def Fl(dL:Fk)(a1:aL.D):Option (Int×aL.D×Unit) :=(eL (a1.2.2.1.2.2.2.1,0,1000,())).bind fun v1 =>cond (!v1.1) (some (22,a1,())) ((eL (a1.2.2.1.2.2.2.2.1,0,1000,())).bind fun v2 =>cond (!v2.1) (some (22,a1,())) ((mR (a1,true,())).bind fun v3 =>cond (v3.2.1 != 0) (some (v3.2.1,v3.2.2.1,())) (cond (v3.2.2.1.2.1.1 != 0) ((aO v3.2.2.1.1.2.1.length v3.1).bind fun v4 =>cond (v3.2.2.1.2.1.1 !=(J I v3.2.2.1.1.2.1 v4).2.2.2.1) (some (1,v3.2.2.1,())) ((aO v3.2.2.1.1.2.1.length v3.1).bind fun v5 =>cond (v3.2.2.1.2.2.1.2.2.2.1 !=(J I v3.2.2.1.1.2.1 v5).2.2.2.1) (some (1,v3.2.2.1,())) ((ve (v3.2.2.1.2.1,v3.2.2.1.2.2.1.2.2.2.2.1,())).bind fun v6 =>cond (!v6.1) (some (1,v3.2.2.1,())) (dL v3.1 v3.2.2.1)))) (dL v3.1 v3.2.2.1))))
def S_(aa:aL.D)(v4:List I.D):Option (Int×aL.D×Unit) :=some (0,((aa.1.1,v4,()),aa.2.1,aa.2.2.1,()),())
def Lx(U:Int)(aa:aL.D)(v2:List I.D):Option (Int×aL.D×Unit) :=(aO v2.length U).bind fun v3 =>S_ aa (v2.set v3 ((J I v2 v3).1,(J I v2 v3).2.1,(J I v2 v3).2.2.1,(J I v2 v3).2.2.2.1,aa.2.2.1.2.2.2.2.1,(J I v2 v3).2.2.2.2.2.1,(J I v2 v3).2.2.2.2.2.2.1,(J I v2 v3).2.2.2.2.2.2.2.1,(J I v2 v3).2.2.2.2.2.2.2.2.1,()))
def Ly(dL:Fk)(U:Int)(aa:aL.D):Option (Int×aL.D×Unit) :=(aO aa.1.2.1.length U).bind fun v1 =>Lx U aa (aa.1.2.1.set v1 ((J I aa.1.2.1 v1).1,(J I aa.1.2.1 v1).2.1,(J I aa.1.2.1 v1).2.2.1,aa.2.2.1.2.2.2.1,(J I aa.1.2.1 v1).2.2.2.2.1,(J I aa.1.2.1 v1).2.2.2.2.2.1,(J I aa.1.2.1 v1).2.2.2.2.2.2.1,(J I aa.1.2.1 v1).2.2.2.2.2.2.2.1,(J I aa.1.2.1 v1).2.2.2.2.2.2.2.2.1,()))
def q6:Nat→Fk | 0,_,_=>none | m+1,U,aa=>Ly (q6 m) U aa
def Fm(x:aL.D×Unit):Option (Int×aL.D×Unit):=Fl (q6 aQ) x.1
def LA(a1:aL.D):Option (Int×aL.D×Unit) :=(eL (a1.2.2.1.2.2.2.1,0,7,())).bind fun v1 =>cond (!v1.1) (some (22,a1,())) ((mR (a1,true,())).bind fun v2 =>cond (v2.2.1 != 0) (some (v2.2.1,v2.2.2.1,())) ((aO v2.2.2.1.1.2.1.length v2.1).bind fun v3 =>(pW (v2.2.2.1.2.1,J I v2.2.2.1.1.2.1 v3,v2.2.2.1.2.2.1.2.2.2.1,())).bind fun v4 =>cond (!v4.1) (some (13,v2.2.2.1,())) (some (0,v2.2.2.1,()))))
def Fo(x:aL.D×Unit):Option (Int×aL.D×Unit):=LA x.1
def LB(v3:Int×Int×aL.D×Unit)(dC:List I.D):Option (Int×aL.D×Unit) :=(nN (((v3.2.2.1.1.1,dC,()),v3.2.2.1.2.1,v3.2.2.1.2.2.1,()),())).bind fun v9 =>some (v9.1,((v3.2.2.1.1.1,dC,()),v3.2.2.1.2.1,v3.2.2.1.2.2.1,()),())
def Fp(v3:Int×Int×aL.D×Unit)(v6:List I.D):Option (Int×aL.D×Unit) :=(aO v6.length v3.1).bind fun bp =>LB v3 (v6.set bp ((J I v6 bp).1,(J I v6 bp).2.1,(J I v6 bp).2.2.1,(J I v6 bp).2.2.2.1,(J I v6 bp).2.2.2.2.1,(J I v6 bp).2.2.2.2.2.1,(J I v6 bp).2.2.2.2.2.2.1,(J I v6 bp).2.2.2.2.2.2.2.1,v3.2.2.1.2.2.1.2.2.2.2.1,()))
def LC(a1:aL.D):Option (Int×aL.D×Unit) :=(eL (a1.2.2.1.2.2.2.1,0,400,())).bind fun v1 =>cond (!v1.1) (some (22,a1,())) ((eL (a1.2.2.1.2.2.2.2.1,0,24,())).bind fun v2 =>cond (!v2.1) (some (22,a1,())) (cond (a1.2.1.1 != 0) (some (1,a1,())) ((mR (a1,true,())).bind fun v3 =>cond (v3.2.1 != 0) (some (v3.2.1,v3.2.2.1,())) ((aO v3.2.2.1.1.2.1.length v3.1).bind fun v4 =>cond ((J I v3.2.2.1.1.2.1 v4).2.1 != 2) (some (20,v3.2.2.1,())) ((aO v3.2.2.1.1.2.1.length v3.1).bind fun v5 =>Fp v3 (v3.2.2.1.1.2.1.set v5 ((J I v3.2.2.1.1.2.1 v5).1,(J I v3.2.2.1.1.2.1 v5).2.1,(J I v3.2.2.1.1.2.1 v5).2.2.1,(J I v3.2.2.1.1.2.1 v5).2.2.2.1,(J I v3.2.2.1.1.2.1 v5).2.2.2.2.1,(J I v3.2.2.1.1.2.1 v5).2.2.2.2.2.1,(J I v3.2.2.1.1.2.1 v5).2.2.2.2.2.2.1,v3.2.2.1.2.2.1.2.2.2.1,(J I v3.2.2.1.1.2.1 v5).2.2.2.2.2.2.2.2.1,())))))))
def Fq(x:aL.D×Unit):Option (Int×aL.D×Unit):=LC x.1
abbrev kf:Type:=aF.D×aL.D×Unit
structure nO where
 bx:aL.D→aF.D→Option (kf)
 dg:Int→aL.D→aF.D→Option (kf)
 dL:aL.D→aF.D→Option (kf)
 hg:Int→aL.D→aF.D→Option (kf)
 gR:aL.D→aF.D→Option (kf)
 oQ:Int→aL.D→aF.D→Option (kf)
 pR:Int→aL.D→aF.D→Option (kf)
def Fs(k:nO)(a1:aL.D):Option (kf) :=cond (a1.2.2.1.1==1) (cond (a1.2.2.1.1==1) (k.bx a1 (0,([]:List UInt8),())) (k.dg a1.2.2.1.1 a1 (0,([]:List UInt8),()))) (cond (a1.2.2.1.1==3) (cond (a1.2.2.1.1==3) (k.bx a1 (0,([]:List UInt8),())) (k.dg a1.2.2.1.1 a1 (0,([]:List UInt8),()))) (cond (a1.2.2.1.1==10) (k.bx a1 (0,([]:List UInt8),())) (k.dg a1.2.2.1.1 a1 (0,([]:List UInt8),()))))
def ab5(k:nO)(U:aL.D)(aa:aF.D):Option (kf) :=(zT (U,())).bind fun v1 =>(eZ (v1.1,())).bind fun v2 =>some (v2.1,v1.2.1,())
def ab6(k:nO)(U:Int)(aa:aL.D)(ae:aF.D):Option (kf) :=cond (U==2) (cond (U==2) (k.dL aa ae) (k.hg U aa ae)) (cond (U==8) (k.dL aa ae) (k.hg U aa ae))
def ab7(k:nO)(U:aL.D)(aa:aF.D):Option (kf) :=(EZ (U,())).bind fun v1 =>(eZ (v1.1,())).bind fun v2 =>some (v2.1,v1.2.1,())
def ab8(k:nO)(U:Int)(aa:aL.D)(ae:aF.D):Option (kf) :=cond (U==9) ((E0 (aa,())).bind fun v1 =>(eZ (v1.1,())).bind fun v2 =>some (v2.1,v1.2.1,())) (cond (U==12) ((E3 (aa,())).bind fun v3 =>(eZ (v3.1,())).bind fun v4 =>some (v4.1,v3.2.1,())) (cond (U==4) ((E4 (aa,())).bind fun v5 =>some (v5.1,v5.2.1,())) (cond (U==5) (cond (U==5) (k.gR aa ae) (k.oQ U aa ae)) (cond (U==6) (cond (U==6) (k.gR aa ae) (k.oQ U aa ae)) (cond (U==7) (k.gR aa ae) (k.oQ U aa ae))))))
def ab9(k:nO)(U:aL.D)(aa:aF.D):Option (kf) :=(E7 (U,())).bind fun v1 =>(eZ (v1.1,())).bind fun v2 =>some (v2.1,v1.2.1,())
def ab_(k:nO)(U:Int)(aa:aL.D)(ae:aF.D):Option (kf) :=cond (U==11) ((E8 (aa,())).bind fun v1 =>some (v1.1,v1.2.1,())) (cond (U==13) (cond (U==13) ((zY (aa,())).bind fun v2 =>some (v2.1,v2.2.1,())) (k.pR U aa ae)) (cond (U==20) ((zY (aa,())).bind fun v3 =>some (v3.1,v3.2.1,())) (k.pR U aa ae)))
def ab'(k:nO)(U:Int)(aa:aL.D)(ae:aF.D):Option (kf) :=cond (U==14) ((zZ (aa,())).bind fun v1 =>some (v1.1,v1.2.1,())) (cond (U==15) ((Fj (aa,())).bind fun v2 =>(eZ (v2.1,())).bind fun v3 =>some (v3.1,v2.2.1,())) (cond (U==16) ((Fm (aa,())).bind fun v4 =>(eZ (v4.1,())).bind fun v5 =>some (v5.1,v4.2.1,())) (cond (U==17) ((Fo (aa,())).bind fun v6 =>(eZ (v6.1,())).bind fun bp =>some (bp.1,v6.2.1,())) (cond (U==18) ((sr (aa.1,())).bind fun dC =>(q3 ([(aa.1.2.1.length:Int),dC.1],())).bind fun v9 =>some ((0,v9.1,()),aa,())) ((Fq (aa,())).bind fun v10 =>(eZ (v10.1,())).bind fun v11 =>some (v11.1,v10.2.1,()))))))
def S'(k:nO):nO:=⟨ab5 k,ab6 k,ab7 k,ab8 k,ab9 k,ab_ k,ab' k⟩
def LD:Nat→nO:=eR S' ⟨fun _ _=>none,fun _ _ _=>none,fun _ _=>none,fun _ _ _=>none,fun _ _=>none,fun _ _ _=>none,fun _ _ _=>none⟩
def Ft(x:aL.D×Unit):Option (kf):=Fs (LD aQ) x.1
abbrev Ta:Type:=af.D×aF.D×Unit
def z1(a1:af.D)(a2:aH.D)(a3:aJ.D):Option (Ta) :=(xq (a2,())).bind fun v1 =>cond (!v1.1) ((su (a1,())).bind fun v2 =>(eZ (22,())).bind fun v3 =>some (v2.1,v3.1,())) ((KP (a3,())).bind fun v4 =>cond (!v4.1) ((su (a1,())).bind fun v5 =>(eZ (22,())).bind fun v6 =>some (v5.1,v6.1,())) (cond (decide (a3.1>20)) ((su (a1,())).bind fun bp =>(eZ (22,())).bind fun dC =>some (bp.1,dC.1,())) ((su (a1,())).bind fun v9 =>(Ft ((v9.1,a2,a3,()),())).bind fun v10 =>cond (v10.1.1 != 0) ((su (a1,())).bind fun v11 =>some (v11.1,v10.1,())) (some (v10.2.1.1,v10.1,())))))
def LF(x:af.D×aH.D×aJ.D×Unit):Option (Ta):=z1 x.1 x.2.1 x.2.2.1
abbrev Tb:Type:=af.D×aF.D×Unit
def LG(a1:af.D)(a2:aH.D)(a3:aJ.D):Option (Tb) :=(xp (a1,())).bind fun v1 =>cond (!v1.1) ((eZ (22,())).bind fun v2 =>some ((0,([]:List I.D),()),v2.1,())) ((LF (a1,a2,a3,())).bind fun v3 =>some (v3.1,v3.2.1,()))
def eM(x:af.D×aH.D×aJ.D×Unit):Option (Tb):=LG x.1 x.2.1 x.2.2.1
def LH(a1:af.D)(a2:Int):Option (Int×Unit) :=(fC (a1,a2,())).bind fun v1 =>cond (!List.isEmpty v1.1) ((xp (a1,())).bind fun v2 =>cond v2.1 (cond (!List.isEmpty v1.1) ((Fg (a1,J I v1.1 0,())).bind fun v3 =>some (v3.1,())) (none)) (some (0,()))) (some (0,()))
def aca(x:af.D×Int×Unit):Option (Int×Unit):=LH x.1 x.2.1
def LI(a1:af.D)(a2:Int):Option (Int×Int×Unit) :=(xp (a1,())).bind fun v1 =>cond (!v1.1) (some (0,0,())) ((vi (a1,a2,())).bind fun v2 =>cond (!v2.1) (some (0,0,())) ((xn (a1,a2,())).bind fun v3 =>some (v3.1,v3.2.1,())))
def acb(x:af.D×Int×Unit):Option (Int×Int×Unit):=LI x.1 x.2.1
def LJ(a1:af.D)(a2:Int):Option (Int×Unit) :=(xp (a1,())).bind fun v1 =>cond (!v1.1) (some (0,())) ((vi (a1,a2,())).bind fun v2 =>cond (!v2.1) (some (0,())) ((EA (a1,a2,())).bind fun v3 =>some (v3.1,())))
def acd(x:af.D×Int×Unit):Option (Int×Unit):=LJ x.1 x.2.1
abbrev Tc:Type:=af.D×aF.D×Unit
def z6(a1:af.D)(a2:aH.D)(a3:aJ.D):Option (Tc) :=(DU (a1,())).bind fun v1 =>cond (!v1.1) (some ((0,([]:List I.D),()),(22,([]:List UInt8),()),())) ((w_ (a2,())).bind fun v2 =>cond (!v2.1) ((lZ (a1,())).bind fun v3 =>some (v3.1,(22,([]:List UInt8),()),())) (both ((lZ (a1,())).bind fun v4 =>both ((ke (v4.1,a2,a3,())).bind fun v5 =>dup (some (v5.1,v5.2.1,()))) (dup (dup ((ke (v4.1,a2,a3,())).bind fun v5 =>some (v5.1,v5.2.1,()))))) (dup (both ((lZ (a1,())).bind fun v4 =>dup ((ke (v4.1,a2,a3,())).bind fun v5 =>some (v5.1,v5.2.1,()))) ((lZ (a1,())).bind fun v4 =>(ke (v4.1,a2,a3,())).bind fun v5 =>some (v5.1,v5.2.1,()))))))
def jV(x:af.D×aH.D×aJ.D×Unit):Option (Tc):=z6 x.1 x.2.1 x.2.2.1
def ace  : Option (aH.D×Unit) :=some ((0,0,([]:List Int),()),())
def f'(x:Unit):Option (aH.D×Unit):=ace
def LK(a1:List Int)(a2:Int):Option (Int×Unit) :=cond (decide (a2<(a1.length:Int))) ((aO a1.length a2).bind fun v1 =>some (aK (J (ad.int .u8) a1 v1),())) (some (Int.tmod (aK (aK (a2*37)+aK ((a1.length:Int)*11))) 256,()))
def LL(x:(List Int)×Int×Unit):Option (Int×Unit):=LK x.1 x.2.1
def LN(a1:List Int):Option ((List UInt8)×Unit) :=(CH (a1,())).bind fun v1 =>(uM (v1.1,40,())).bind fun v2 =>some (v2.1,())
def LO(x:(List Int)×Unit):Option ((List UInt8)×Unit):=LN x.1
def LP(a1:List UInt8)(a2:List UInt8):Option (Bool×Unit) :=cond (decide ((a1.length:Int)≤(a2.length:Int))) ((du a2.length 0 (a1.length:Int)).bind fun v1 =>some (bs (part a2 v1.1 (v1.2-v1.1)) a1,())) (some (false,()))
def LQ(x:(List UInt8)×(List UInt8)×Unit):Option (Bool×Unit):=LP x.1 x.2.1
structure mT where
 da:(List Int)→af.D→(List Int)→(List I.D)→Option (Bool×Unit)
 dL:(List Int)→af.D→(List Int)→(List I.D)→aF.D→Option (Bool×Unit)
 hW:Int→(List UInt8)→af.D→(List Int)→(List I.D)→aF.D→af.D→aF.D→Option (Bool×Unit)
 pO:Int→(List UInt8)→af.D→(List Int)→(List I.D)→aF.D→af.D→aF.D→aF.D→Option (Bool×Unit)
 qI:Int→(List UInt8)→af.D→(List Int)→(List I.D)→aF.D→af.D→aF.D→aF.D→aF.D→Option (Bool×Unit)
 jS:Int→(List UInt8)→aF.D→af.D→aF.D→aF.D→aF.D→aF.D→Option (Bool×Unit)
 r':Int→(List UInt8)→aF.D→aF.D→aF.D→af.D→aF.D→Option (Bool×Unit)
 gD:Int→(List UInt8)→aF.D→aF.D→aF.D→aF.D→aF.D→Option (Bool×Unit)
def Fu(k:mT)(a1:List Int):Option (Bool×Unit) :=(JD (a1,())).bind fun v1 =>cond v1.1 (some (true,())) ((Kw (a1,())).bind fun v2 =>(DU (v2.1,())).bind fun v3 =>cond (!v3.1) ((y8 ()).bind fun v4 =>(f' ()).bind fun v5 =>(jV (v4.1,v5.1,(3,([47,122,122]:List UInt8),([]:List UInt8),420,0,([]:List UInt8),()),())).bind fun v6 =>k.da a1 v6.1 v5.1.2.2.1 v4.1.2.1) ((f' ()).bind fun bp =>(jV (v2.1,bp.1,(3,([47,122,122]:List UInt8),([]:List UInt8),420,0,([]:List UInt8),()),())).bind fun dC =>k.da a1 dC.1 bp.1.2.2.1 v2.1.2.1))
def LR(k:mT)(U:List Int)(aa:af.D)(ae:List Int)(ai:List I.D):Option (Bool×Unit) :=both ((f' ()).bind fun v1 =>both ((eM (aa,v1.1,(4,([47,122,122]:List UInt8),([]:List UInt8),0,100,([]:List UInt8),()),())).bind fun v2 =>dup (k.dL U aa ae ai v2.2.1)) (dup (dup ((eM (aa,v1.1,(4,([47,122,122]:List UInt8),([]:List UInt8),0,100,([]:List UInt8),()),())).bind fun v2 =>k.dL U aa ae ai v2.2.1)))) (dup (both ((f' ()).bind fun v1 =>dup ((eM (aa,v1.1,(4,([47,122,122]:List UInt8),([]:List UInt8),0,100,([]:List UInt8),()),())).bind fun v2 =>k.dL U aa ae ai v2.2.1)) ((f' ()).bind fun v1 =>(eM (aa,v1.1,(4,([47,122,122]:List UInt8),([]:List UInt8),0,100,([]:List UInt8),()),())).bind fun v2 =>k.dL U aa ae ai v2.2.1)))
def LS(k:mT)(U:List Int)(aa:af.D)(ae:List Int)(ai:List I.D)(an:aF.D):Option (Bool×Unit) :=(LL (U,0,())).bind fun v1 =>(LO (U,())).bind fun v2 =>cond (decide ((v2.1.length:Int)>40)) ((du v2.1.length 0 40).bind fun v3 =>both ((f' ()).bind fun v4 =>both ((eM (aa,v4.1,(5,([47,122,122]:List UInt8),([]:List UInt8),Int.tmod v1.1 30,0,part v2.1 v3.1 (v3.2-v3.1),()),())).bind fun v5 =>dup (k.hW (Int.tmod v1.1 30) (part v2.1 v3.1 (v3.2-v3.1)) aa ae ai an v5.1 v5.2.1)) (dup (dup ((eM (aa,v4.1,(5,([47,122,122]:List UInt8),([]:List UInt8),Int.tmod v1.1 30,0,part v2.1 v3.1 (v3.2-v3.1),()),())).bind fun v5 =>k.hW (Int.tmod v1.1 30) (part v2.1 v3.1 (v3.2-v3.1)) aa ae ai an v5.1 v5.2.1)))) (dup (both ((f' ()).bind fun v4 =>dup ((eM (aa,v4.1,(5,([47,122,122]:List UInt8),([]:List UInt8),Int.tmod v1.1 30,0,part v2.1 v3.1 (v3.2-v3.1),()),())).bind fun v5 =>k.hW (Int.tmod v1.1 30) (part v2.1 v3.1 (v3.2-v3.1)) aa ae ai an v5.1 v5.2.1)) ((f' ()).bind fun v4 =>(eM (aa,v4.1,(5,([47,122,122]:List UInt8),([]:List UInt8),Int.tmod v1.1 30,0,part v2.1 v3.1 (v3.2-v3.1),()),())).bind fun v5 =>k.hW (Int.tmod v1.1 30) (part v2.1 v3.1 (v3.2-v3.1)) aa ae ai an v5.1 v5.2.1)))) (both ((f' ()).bind fun v6 =>both ((eM (aa,v6.1,(5,([47,122,122]:List UInt8),([]:List UInt8),Int.tmod v1.1 30,0,v2.1,()),())).bind fun bp =>dup (k.hW (Int.tmod v1.1 30) v2.1 aa ae ai an bp.1 bp.2.1)) (dup (dup ((eM (aa,v6.1,(5,([47,122,122]:List UInt8),([]:List UInt8),Int.tmod v1.1 30,0,v2.1,()),())).bind fun bp =>k.hW (Int.tmod v1.1 30) v2.1 aa ae ai an bp.1 bp.2.1)))) (dup (both ((f' ()).bind fun v6 =>dup ((eM (aa,v6.1,(5,([47,122,122]:List UInt8),([]:List UInt8),Int.tmod v1.1 30,0,v2.1,()),())).bind fun bp =>k.hW (Int.tmod v1.1 30) v2.1 aa ae ai an bp.1 bp.2.1)) ((f' ()).bind fun v6 =>(eM (aa,v6.1,(5,([47,122,122]:List UInt8),([]:List UInt8),Int.tmod v1.1 30,0,v2.1,()),())).bind fun bp =>k.hW (Int.tmod v1.1 30) v2.1 aa ae ai an bp.1 bp.2.1))))
def LU(k:mT)(U:Int)(aa:List UInt8)(ae:af.D)(ai:List Int)(an:List I.D)(aB:aF.D)(aZ:af.D)(bD:aF.D):Option (Bool×Unit) :=both ((f' ()).bind fun v1 =>both ((eM (aZ,v1.1,(4,([47,122,122]:List UInt8),([]:List UInt8),0,100,([]:List UInt8),()),())).bind fun v2 =>dup (k.pO U aa ae ai an aB aZ bD v2.2.1)) (dup (dup ((eM (aZ,v1.1,(4,([47,122,122]:List UInt8),([]:List UInt8),0,100,([]:List UInt8),()),())).bind fun v2 =>k.pO U aa ae ai an aB aZ bD v2.2.1)))) (dup (both ((f' ()).bind fun v1 =>dup ((eM (aZ,v1.1,(4,([47,122,122]:List UInt8),([]:List UInt8),0,100,([]:List UInt8),()),())).bind fun v2 =>k.pO U aa ae ai an aB aZ bD v2.2.1)) ((f' ()).bind fun v1 =>(eM (aZ,v1.1,(4,([47,122,122]:List UInt8),([]:List UInt8),0,100,([]:List UInt8),()),())).bind fun v2 =>k.pO U aa ae ai an aB aZ bD v2.2.1)))
def LV(k:mT)(U:Int)(aa:List UInt8)(ae:af.D)(ai:List Int)(an:List I.D)(aB:aF.D)(aZ:af.D)(bD:aF.D)(b_:aF.D):Option (Bool×Unit) :=both ((f' ()).bind fun v1 =>both ((eM (aZ,v1.1,(4,([47,122,122]:List UInt8),([]:List UInt8),U,(aa.length:Int),([]:List UInt8),()),())).bind fun v2 =>dup (k.qI U aa ae ai an aB aZ bD b_ v2.2.1)) (dup (dup ((eM (aZ,v1.1,(4,([47,122,122]:List UInt8),([]:List UInt8),U,(aa.length:Int),([]:List UInt8),()),())).bind fun v2 =>k.qI U aa ae ai an aB aZ bD b_ v2.2.1)))) (dup (both ((f' ()).bind fun v1 =>dup ((eM (aZ,v1.1,(4,([47,122,122]:List UInt8),([]:List UInt8),U,(aa.length:Int),([]:List UInt8),()),())).bind fun v2 =>k.qI U aa ae ai an aB aZ bD b_ v2.2.1)) ((f' ()).bind fun v1 =>(eM (aZ,v1.1,(4,([47,122,122]:List UInt8),([]:List UInt8),U,(aa.length:Int),([]:List UInt8),()),())).bind fun v2 =>k.qI U aa ae ai an aB aZ bD b_ v2.2.1)))
def LW(k:mT)(U:Int)(aa:List UInt8)(ae:af.D)(ai:List Int)(an:List I.D)(aB:aF.D)(aZ:af.D)(bD:aF.D)(b_:aF.D)(er:aF.D):Option (Bool×Unit) :=both ((f' ()).bind fun v1 =>both ((jV (ae,v1.1,(5,([47,122,122]:List UInt8),([]:List UInt8),U,0,aa,()),())).bind fun v2 =>dup (k.jS U aa aB aZ bD b_ er v2.2.1)) (dup (dup ((jV (ae,v1.1,(5,([47,122,122]:List UInt8),([]:List UInt8),U,0,aa,()),())).bind fun v2 =>k.jS U aa aB aZ bD b_ er v2.2.1)))) (dup (both ((f' ()).bind fun v1 =>dup ((jV (ae,v1.1,(5,([47,122,122]:List UInt8),([]:List UInt8),U,0,aa,()),())).bind fun v2 =>k.jS U aa aB aZ bD b_ er v2.2.1)) ((f' ()).bind fun v1 =>(jV (ae,v1.1,(5,([47,122,122]:List UInt8),([]:List UInt8),U,0,aa,()),())).bind fun v2 =>k.jS U aa aB aZ bD b_ er v2.2.1)))
def LX(k:mT)(U:Int)(aa:List UInt8)(ae:aF.D)(ai:af.D)(an:aF.D)(aB:aF.D)(aZ:aF.D)(bD:aF.D):Option (Bool×Unit) :=cond (ae.1 != 0) (cond (ae.1==an.1) (some (an.1==bD.1,())) (some (false,()))) (cond (an.1 != bD.1) (cond (ae.1==an.1) (some (an.1==bD.1,())) (some (false,()))) (cond (an.1 != 0) (some (bs aB.2.1 ae.2.1,())) (cond (bs aa ([]:List UInt8)) (some (bs aB.2.1 ae.2.1,())) (both ((f' ()).bind fun v1 =>both ((eM (ai,v1.1,(7,([47,122,122]:List UInt8),([]:List UInt8),U,0,([]:List UInt8),()),())).bind fun v2 =>dup (k.r' U aa ae aB aZ v2.1 v2.2.1)) (dup (dup ((eM (ai,v1.1,(7,([47,122,122]:List UInt8),([]:List UInt8),U,0,([]:List UInt8),()),())).bind fun v2 =>k.r' U aa ae aB aZ v2.1 v2.2.1)))) (dup (both ((f' ()).bind fun v1 =>dup ((eM (ai,v1.1,(7,([47,122,122]:List UInt8),([]:List UInt8),U,0,([]:List UInt8),()),())).bind fun v2 =>k.r' U aa ae aB aZ v2.1 v2.2.1)) ((f' ()).bind fun v1 =>(eM (ai,v1.1,(7,([47,122,122]:List UInt8),([]:List UInt8),U,0,([]:List UInt8),()),())).bind fun v2 =>k.r' U aa ae aB aZ v2.1 v2.2.1)))))))
def LY(k:mT)(U:Int)(aa:List UInt8)(ae:aF.D)(ai:aF.D)(an:aF.D)(aB:af.D)(aZ:aF.D):Option (Bool×Unit) :=both ((f' ()).bind fun v1 =>both ((eM (aB,v1.1,(4,([47,122,122]:List UInt8),([]:List UInt8),0,100,([]:List UInt8),()),())).bind fun v2 =>dup (k.gD U aa ae ai an aZ v2.2.1)) (dup (dup ((eM (aB,v1.1,(4,([47,122,122]:List UInt8),([]:List UInt8),0,100,([]:List UInt8),()),())).bind fun v2 =>k.gD U aa ae ai an aZ v2.2.1)))) (dup (both ((f' ()).bind fun v1 =>dup ((eM (aB,v1.1,(4,([47,122,122]:List UInt8),([]:List UInt8),0,100,([]:List UInt8),()),())).bind fun v2 =>k.gD U aa ae ai an aZ v2.2.1)) ((f' ()).bind fun v1 =>(eM (aB,v1.1,(4,([47,122,122]:List UInt8),([]:List UInt8),0,100,([]:List UInt8),()),())).bind fun v2 =>k.gD U aa ae ai an aZ v2.2.1)))
def LZ(k:mT)(U:Int)(aa:List UInt8)(ae:aF.D)(ai:aF.D)(an:aF.D)(aB:aF.D)(aZ:aF.D):Option (Bool×Unit) :=cond (bs an.2.1 aa) (cond (aB.1==0) (cond ((aZ.2.1.length:Int)==U) ((LQ (aZ.2.1,ai.2.1,())).bind fun v1 =>cond v1.1 (cond (decide ((ae.2.1.length:Int)≤aK (U +(aa.length:Int)))) (some (true,())) ((du ai.2.1.length (aK (U +(aa.length:Int))) (ai.2.1.length:Int)).bind fun v2 =>(du ae.2.1.length (aK (U +(aa.length:Int))) (ae.2.1.length:Int)).bind fun v3 =>some (bs (part ai.2.1 v2.1 (v2.2-v2.1)) (part ae.2.1 v3.1 (v3.2-v3.1)),()))) (some (false,()))) (some (false,()))) (some (false,()))) (some (false,()))
def Td(k:mT):mT:=⟨LR k,LS k,LU k,LV k,LW k,LX k,LY k,LZ k⟩
def mU:Nat→mT:=eR Td ⟨fun _ _ _ _=>none,fun _ _ _ _ _=>none,fun _ _ _ _ _ _ _ _=>none,fun _ _ _ _ _ _ _ _ _=>none,fun _ _ _ _ _ _ _ _ _ _=>none,fun _ _ _ _ _ _ _ _=>none,fun _ _ _ _ _ _ _=>none,fun _ _ _ _ _ _ _=>none⟩
def Te(x:(List Int)×Unit):Option (Bool×Unit):=Fu (mU aQ) x.1
end
end Go.LM.kF
