/- The functions that the law reaches, as plain functions. Printed by a program. Conditions: each theorem's own hypotheses. -/
import Derived.Test.YtklmgcjamifmaaaGreatDoorNLmd
import Derived.Test.YtklmgcjamifmaaaGreatDoorNIn
set_option linter.unusedVariables false
set_option linter.unusedSimpArgs false
namespace Go.LM.kc
noncomputable section
@[reducible] def bp:ae:=.st (.cons (.sl (.int .u8)) (.cons (.int .i64) (.cons (.int .i64) .nil)))
@[reducible] def aw:ae:=.st (.cons .str (.cons (.int .i64) .nil))
@[reducible] def I:ae:=.st (.cons (.int .i64) (.cons (.int .i64) (.cons (.int .i64) (.cons (.int .i64) (.cons (.int .i64) (.cons .str (.cons (.sl aw) (.cons (.int .i64) (.cons (.int .i64) .nil)))))))))
@[reducible] def af:ae:=.st (.cons (.int .i64) (.cons (.sl I) .nil))
@[reducible] def aK:ae:=.st (.cons (.int .i64) (.cons .str (.cons .str (.cons (.int .i64) (.cons (.int .i64) (.cons .str .nil))))))
@[reducible] def aH:ae:=.st (.cons (.int .i64) (.cons (.int .i64) (.cons (.sl (.int .i64)) .nil)))
@[reducible] def aJ:ae:=.st (.cons (.int .i64) (.cons .str (.cons (.int .i64) (.cons (.int .i64) .nil))))
@[reducible] def aS:ae:=.st (.cons (.int .i64) (.cons .str .nil))
@[reducible] def aI:ae:=.st (.cons af (.cons aH (.cons aK .nil)))
def aaY(a1:List Int):Option (Bool×Unit) :=some (decide ((a1.length:Int)>1048576),())
def Jd(x:(List Int)×Unit):Option (Bool×Unit):=aaY x.1
abbrev B9:Type:=(List Int)→Int→Int→Option (bp.D×Unit)
def Rc(k3:B9)(a1:List Int):Option (bp.D×Unit) :=k3 a1 (aG (10101 +(a1.length:Int))) 0
def wo(k3:B9)(U:List Int)(aa:Int)(ad:Int):Option (bp.D×Unit) :=cond (decide (ad<(U.length:Int))) (cond (decide (ad<4000)) ((aN U.length ad).bind fun v1 =>k3 U (cN .and .i64 (aG (aG (aG (aa*131)+aG (J (ae.int .u8) U v1))+7)) 1073741823) (aG (ad+1))) (some ((U,0,aa,()),()))) (some ((U,0,aa,()),()))
def wq:Nat→B9 | 0,_,_,_=>none | m+1,U,aa,ad=>wo (wq m) U aa ad
def B_(x:(List Int)×Unit):Option (bp.D×Unit):=Rc (wq aR) x.1
abbrev Rd:Type:=Int×bp.D×Unit
def Je(a1:bp.D):Option (Rd) :=cond (decide (a1.2.1<(a1.1.length:Int))) ((aN a1.1.length a1.2.1).bind fun v1 =>some (cN .and .i64 (aG (cN .and .i64 (cN .xor .i64 (Int.fdiv (aG (aG (a1.2.2.1*6364136223846793005)+1442695040888963407)) (2 ^ min (Int.toNat 33) 64)) (Int.fdiv (aG (aG (a1.2.2.1*6364136223846793005)+1442695040888963407)) (2 ^ min (Int.toNat 45) 64))) 255+aG (J (ae.int .u8) a1.1 v1))) 255,(a1.1,aG (a1.2.1+1),aG (aG (a1.2.2.1*6364136223846793005)+1442695040888963407),()),())) (some (cN .and .i64 (cN .xor .i64 (Int.fdiv (aG (aG (a1.2.2.1*6364136223846793005)+1442695040888963407)) (2 ^ min (Int.toNat 33) 64)) (Int.fdiv (aG (aG (a1.2.2.1*6364136223846793005)+1442695040888963407)) (2 ^ min (Int.toNat 45) 64))) 255,(a1.1,a1.2.1,aG (aG (a1.2.2.1*6364136223846793005)+1442695040888963407),()),()))
def qi(x:bp.D×Unit):Option (Rd):=Je x.1
abbrev Re:Type:=Int×bp.D×Unit
def Jf(a1:bp.D)(a2:Int):Option (Re) :=cond (decide (a2≤0)) (some (0,a1,())) (cond (decide (a2≤256)) ((qi (a1,())).bind fun v1 =>cond (a2 != 0) (some (Int.tmod v1.1 a2,v1.2.1,())) (none)) ((qi (a1,())).bind fun v2 =>(qi (v2.2.1,())).bind fun v3 =>(qi (v3.2.1,())).bind fun v4 =>(qi (v4.2.1,())).bind fun v5 =>cond (a2 != 0) (some (Int.tmod (aG (aG (aG (aG (v2.1*16777216)+aG (v3.1*65536))+aG (v4.1*256))+v5.1)) a2,v5.2.1,())) (none)))
def fZ(x:bp.D×Int×Unit):Option (Re):=Jf x.1 x.2.1
abbrev Rf:Type:=Bool×bp.D×Unit
def aaZ(a1:bp.D)(a2:Int):Option (Rf) :=(fZ (a1,a2,())).bind fun v1 =>some (v1.1==0,v1.2.1,())
def qj(x:bp.D×Int×Unit):Option (Rf):=aaZ x.1 x.2.1
def aa0  : Option (af.D×Unit) :=some ((2,[(1,2,493,0,0,([]:List UInt8),([]:List aw.D),0,0,())],()),())
def Jg(x:Unit):Option (af.D×Unit):=aa0
def aa1  : Option (af.D×Unit) :=some ((2,[(1,2,493,0,0,([]:List UInt8),([]:List aw.D),0,0,())],()),())
def Jh(x:Unit):Option (af.D×Unit):=aa1
abbrev wu:Type:=Int→af.D→af.D→af.D→Option (af.D×Unit)
def yv(k3:wu)(a1:af.D):Option (af.D×Unit) :=k3 0 a1 (0,([]:List I.D),()) (a1.1,([]:List I.D),())
def Rg(k3:wu)(U:Int)(aa:af.D)(ad:af.D)(ai:af.D)(v3:List I.D):Option (af.D×Unit) :=k3 (aG (U+1)) aa ad (ai.1,v3,())
def Rh(k3:wu)(ai:af.D)(aa:af.D)(v1:Nat)(U:Int)(ad:af.D)(v2:List aw.D):Option (af.D×Unit) :=cond (room (ai.2.1.length+[((J I aa.2.1 v1).1,(J I aa.2.1 v1).2.1,(J I aa.2.1 v1).2.2.1,(J I aa.2.1 v1).2.2.2.1,(J I aa.2.1 v1).2.2.2.2.1,(J I aa.2.1 v1).2.2.2.2.2.1,v2,(J I aa.2.1 v1).2.2.2.2.2.2.2.1,(J I aa.2.1 v1).2.2.2.2.2.2.2.2.1,())].length)) (Rg k3 U aa ad ai (ai.2.1++[((J I aa.2.1 v1).1,(J I aa.2.1 v1).2.1,(J I aa.2.1 v1).2.2.1,(J I aa.2.1 v1).2.2.2.1,(J I aa.2.1 v1).2.2.2.2.1,(J I aa.2.1 v1).2.2.2.2.2.1,v2,(J I aa.2.1 v1).2.2.2.2.2.2.2.1,(J I aa.2.1 v1).2.2.2.2.2.2.2.2.1,())])) (none)
def yw(k3:wu)(U:Int)(aa:af.D)(ad:af.D)(ai:af.D):Option (af.D×Unit) :=cond (decide (U<(aa.2.1.length:Int))) ((aN aa.2.1.length U).bind fun v1 =>cond (room (([]:List aw.D).length +((J I aa.2.1 v1).2.2.2.2.2.2.1).length)) (Rh k3 ai aa v1 U ad (([]:List aw.D)++((J I aa.2.1 v1).2.2.2.2.2.2.1))) (none)) (some (ai,()))
def o7:Nat→wu | 0,_,_,_,_=>none | m+1,U,aa,ad,ai=>yw (o7 m) U aa ad ai
def lz(x:af.D×Unit):Option (af.D×Unit):=yv (o7 aR) x.1
abbrev wv:Type:=Int→af.D→af.D→af.D→Option (af.D×Unit)
def Ri(k3:wv)(a1:af.D):Option (af.D×Unit) :=k3 0 a1 (0,([]:List I.D),()) (a1.1,([]:List I.D),())
def aa2(k3:wv)(U:Int)(aa:af.D)(ad:af.D)(ai:af.D)(v3:List I.D):Option (af.D×Unit) :=k3 (aG (U+1)) aa ad (ai.1,v3,())
def aa3(k3:wv)(ai:af.D)(aa:af.D)(v1:Nat)(U:Int)(ad:af.D)(v2:List aw.D):Option (af.D×Unit) :=cond (room (ai.2.1.length+[((J I aa.2.1 v1).1,(J I aa.2.1 v1).2.1,(J I aa.2.1 v1).2.2.1,(J I aa.2.1 v1).2.2.2.1,(J I aa.2.1 v1).2.2.2.2.1,(J I aa.2.1 v1).2.2.2.2.2.1,v2,(J I aa.2.1 v1).2.2.2.2.2.2.2.1,(J I aa.2.1 v1).2.2.2.2.2.2.2.2.1,())].length)) (aa2 k3 U aa ad ai (ai.2.1++[((J I aa.2.1 v1).1,(J I aa.2.1 v1).2.1,(J I aa.2.1 v1).2.2.1,(J I aa.2.1 v1).2.2.2.1,(J I aa.2.1 v1).2.2.2.2.1,(J I aa.2.1 v1).2.2.2.2.2.1,v2,(J I aa.2.1 v1).2.2.2.2.2.2.2.1,(J I aa.2.1 v1).2.2.2.2.2.2.2.2.1,())])) (none)
def Ji(k3:wv)(U:Int)(aa:af.D)(ad:af.D)(ai:af.D):Option (af.D×Unit) :=cond (decide (U<(aa.2.1.length:Int))) ((aN aa.2.1.length U).bind fun v1 =>cond (room (([]:List aw.D).length +((J I aa.2.1 v1).2.2.2.2.2.2.1).length)) (aa3 k3 ai aa v1 U ad (([]:List aw.D)++((J I aa.2.1 v1).2.2.2.2.2.2.1))) (none)) (some (ai,()))
def yx:Nat→wv | 0,_,_,_,_=>none | m+1,U,aa,ad,ai=>Ji (yx m) U aa ad ai
def yy(x:af.D×Unit):Option (af.D×Unit):=Ri (yx aR) x.1
def Jj(a1:Int)(a2:Int)(a3:Int):Option (Bool×Unit) :=cond (decide (a1≥a2)) (some (decide (a1≤a3),())) (some (false,()))
def ei(x:Int×Int×Int×Unit):Option (Bool×Unit):=Jj x.1 x.2.1 x.2.2.1
abbrev B':Type:=aK.D→Option (Bool×Unit)
def Ca(bu:B')(a1:aK.D):Option (Bool×Unit) :=(ei (a1.1,1,22,())).bind fun v1 =>cond (!v1.1) (some (false,())) (cond (decide ((a1.2.1.length:Int)>60)) (some (false,())) (cond (decide ((a1.2.2.1.length:Int)>60)) (some (false,())) (cond (decide ((a1.2.2.2.2.2.1.length:Int)>64)) (some (false,())) ((ei (a1.2.2.2.1,(-1000000),1000000,())).bind fun v2 =>cond (!v2.1) (some (false,())) ((ei (a1.2.2.2.2.1,(-1000000),1000000,())).bind fun v3 =>cond (!v3.1) (some (false,())) (cond (!(br a1.2.2.1 ([]:List UInt8))) (cond (a1.1 != 9) (cond (a1.1 != 10) (cond (a1.1 != 12) (some (false,())) (bu a1)) (bu a1)) (bu a1)) (bu a1)))))))
def Jk(bu:B')(U:aK.D):Option (Bool×Unit) :=cond (br U.2.2.2.2.2.1 ([]:List UInt8)) (some (true,())) (cond (U.1==5) (some (true,())) (some (U.1==6,())))
def yz:Nat→B' | 0,_=>none | m+1,U=>Jk (yz m) U
def Jl(x:aK.D×Unit):Option (Bool×Unit):=Ca (yz aR) x.1
def Jm(a1:Int):Option (Bool×Unit) :=cond (decide (a1≥97)) (cond (decide (a1≤122)) (some (true,())) (cond (decide (a1≥48)) (cond (decide (a1≤57)) (some (true,())) (cond (a1==46) (some (true,())) (cond (a1==95) (some (true,())) (some (a1==45,()))))) (cond (a1==46) (some (true,())) (cond (a1==95) (some (true,())) (some (a1==45,())))))) (cond (decide (a1≥48)) (cond (decide (a1≤57)) (some (true,())) (cond (a1==46) (some (true,())) (cond (a1==95) (some (true,())) (some (a1==45,()))))) (cond (a1==46) (some (true,())) (cond (a1==95) (some (true,())) (some (a1==45,())))))
def yA(x:Int×Unit):Option (Bool×Unit):=Jm x.1
abbrev Cb:Type:=(List UInt8)→Int→Option (Bool×Unit)
def Cc(bh:Cb)(a1:List UInt8):Option (Bool×Unit) :=(ei ((a1.length:Int),1,60,())).bind fun v1 =>cond (!v1.1) (some (false,())) (bh a1 0)
def Cd(bh:Cb)(U:List UInt8)(aa:Int):Option (Bool×Unit) :=cond (decide (aa<(U.length:Int))) ((aN U.length aa).bind fun v1 =>cond (((U.getD v1 0).toNat:Int) != 47) ((aN U.length aa).bind fun v2 =>(yA (((U.getD v2 0).toNat:Int),())).bind fun v3 =>cond (!v3.1) (some (false,())) (bh U (aG (aa+1)))) (bh U (aG (aa+1)))) (some (true,()))
def tx:Nat→Cb | 0,_,_=>none | m+1,U,aa=>Cd (tx m) U aa
def yB(x:(List UInt8)×Unit):Option (Bool×Unit):=Cc (tx aR) x.1
abbrev Ce:Type:=Int→aH.D→Option (Bool×Unit)
def Cf(bh:Ce)(a1:aH.D):Option (Bool×Unit) :=(ei (a1.1,0,1000,())).bind fun v1 =>cond (!v1.1) (some (false,())) ((ei (a1.2.1,0,1000,())).bind fun v2 =>cond (!v2.1) (some (false,())) (cond (decide ((a1.2.2.1.length:Int)>4)) (some (false,())) (bh 0 a1)))
def Cg(bh:Ce)(U:Int)(aa:aH.D):Option (Bool×Unit) :=cond (decide (U<(aa.2.2.1.length:Int))) ((aN aa.2.2.1.length U).bind fun v1 =>(ei (J (ae.int .i64) aa.2.2.1 v1,0,1000,())).bind fun v2 =>cond (!v2.1) (some (false,())) (bh (aG (U+1)) aa)) (some (true,()))
def tz:Nat→Ce | 0,_,_=>none | m+1,U,aa=>Cg (tz m) U aa
def tA(x:aH.D×Unit):Option (Bool×Unit):=Cf (tz aR) x.1
abbrev Ch:Type:=Int→Bool→Int→aH.D→Option (Bool×Unit)
def Ci(bu:Ch)(a1:aH.D)(a2:Int):Option (Bool×Unit) :=(tA (a1,())).bind fun v1 =>cond (!v1.1) (some (false,())) (bu a2 (a1.2.1==a2) 0 a1)
def Cj(bu:Ch)(U:Int)(aa:Bool)(ad:Int)(ai:aH.D):Option (Bool×Unit) :=cond (decide (ad<(ai.2.2.1.length:Int))) (cond aa (bu U true (aG (ad+1)) ai) ((aN ai.2.2.1.length ad).bind fun v1 =>bu U (J (ae.int .i64) ai.2.2.1 v1==U) (aG (ad+1)) ai)) (some (aa,()))
def tB:Nat→Ch | 0,_,_,_,_=>none | m+1,U,aa,ad,ai=>Cj (tB m) U aa ad ai
def tC(x:aH.D×Int×Unit):Option (Bool×Unit):=Ci (tB aR) x.1 x.2.1
def Jn(a1:aH.D)(a2:I.D)(a3:Int):Option (Bool×Unit) :=(tA (a1,())).bind fun v1 =>cond (!v1.1) (some (false,())) ((ei (a3,0,7,())).bind fun v2 =>cond (!v2.1) (some (false,())) (cond (a1.1==0) (cond (cN .and .i64 a3 1==0) (some (true,())) (cond (a2.2.1 != 1) (some (true,())) (some (cN .and .i64 a2.2.2.1 73 != 0,())))) ((tC (a1,a2.2.2.2.2.1,())).bind fun v3 =>cond v3.1 (cond (a1.1==a2.2.2.2.1) (some (cN .and .i64 (cN .and .i64 (Int.fdiv a2.2.2.1 (2 ^ min (Int.toNat 6) 64)) 7) a3==a3,())) (some (cN .and .i64 (cN .and .i64 (Int.fdiv a2.2.2.1 (2 ^ min (Int.toNat 3) 64)) 7) a3==a3,()))) (cond (a1.1==a2.2.2.2.1) (some (cN .and .i64 (cN .and .i64 (Int.fdiv a2.2.2.1 (2 ^ min (Int.toNat 6) 64)) 7) a3==a3,())) (some (cN .and .i64 (cN .and .i64 a2.2.2.1 7) a3==a3,()))))))
def jP(x:aH.D×I.D×Int×Unit):Option (Bool×Unit):=Jn x.1 x.2.1 x.2.2.1
abbrev Ck:Type:=(List UInt8)→Int→Option (Bool×Unit)
def Cl(bh:Ck)(a1:List UInt8):Option (Bool×Unit) :=(ei ((a1.length:Int),1,60,())).bind fun v1 =>cond (!v1.1) (some (false,())) ((aN a1.length 0).bind fun v2 =>cond (((a1.getD v2 0).toNat:Int) != 47) (some (false,())) (bh a1 0))
def Cm(bh:Ck)(U:List UInt8)(aa:Int):Option (Bool×Unit) :=cond (decide (aa<(U.length:Int))) ((aN U.length aa).bind fun v1 =>cond (((U.getD v1 0).toNat:Int) != 47) ((aN U.length aa).bind fun v2 =>(yA (((U.getD v2 0).toNat:Int),())).bind fun v3 =>cond (!v3.1) (some (false,())) (bh U (aG (aa+1)))) (bh U (aG (aa+1)))) (some (true,()))
def tD:Nat→Ck | 0,_,_=>none | m+1,U,aa=>Cm (tD m) U aa
def yC(x:(List UInt8)×Unit):Option (Bool×Unit):=Cl (tD aR) x.1
abbrev Cn:Type:=Int→Int→af.D→Option (Int×Unit)
def Co(k2:Cn)(a1:af.D)(a2:Int):Option (Int×Unit) :=k2 a2 0 a1
def Cp(k2:Cn)(U:Int)(aa:Int)(ad:af.D):Option (Int×Unit) :=cond (decide (aa<(ad.2.1.length:Int))) ((aN ad.2.1.length aa).bind fun v1 =>cond ((J I ad.2.1 v1).1==U) (some (aa,())) (k2 U (aG (aa+1)) ad)) (some ((-1),()))
def tE:Nat→Cn | 0,_,_,_=>none | m+1,U,aa,ad=>Cp (tE m) U aa ad
def kd(x:af.D×Int×Unit):Option (Int×Unit):=Co (tE aR) x.1 x.2.1
abbrev yD:Type:=(List (List UInt8))×Unit
abbrev Cq:Type:=(List UInt8)→Int→Int→(List (List UInt8))→Option (yD)
def Cr(bh:Cq)(a1:List UInt8):Option (yD) :=bh a1 0 0 ([]:List (List UInt8))
def yE(bh:Cq)(U:List UInt8)(aa:Int)(ad:Int)(ai:List (List UInt8)):Option (yD) :=cond (decide (ad≤(U.length:Int))) (cond (ad ==(U.length:Int)) (cond (decide (ad>aa)) ((dZ U.length aa ad).bind fun v1 =>cond (room (ai.length+[part U v1.1 (v1.2-v1.1)].length)) (bh U (aG (ad+1)) (aG (ad+1)) (ai++[part U v1.1 (v1.2-v1.1)])) (none)) (bh U (aG (ad+1)) (aG (ad+1)) ai)) ((aN U.length ad).bind fun v2 =>cond (((U.getD v2 0).toNat:Int)==47) (cond (decide (ad>aa)) ((dZ U.length aa ad).bind fun v3 =>cond (room (ai.length+[part U v3.1 (v3.2-v3.1)].length)) (bh U (aG (ad+1)) (aG (ad+1)) (ai++[part U v3.1 (v3.2-v3.1)])) (none)) (bh U (aG (ad+1)) (aG (ad+1)) ai)) (bh U aa (aG (ad+1)) ai))) (some (ai,()))
def qk:Nat→Cq | 0,_,_,_,_=>none | m+1,U,aa,ad,ai=>yE (qk m) U aa ad ai
def yF(x:(List UInt8)×Unit):Option (yD):=Cr (qk aR) x.1
structure tF where
 k2:Int→Int→af.D→Option (Int×Unit)
 bu:Int→Int→Int→af.D→Option (Int×Unit)
def Cs(k:tF)(a1:af.D)(a2:Int):Option (Int×Unit) :=k.k2 a2 0 a1
def tG(k:tF)(U:Int)(aa:Int)(ad:af.D):Option (Int×Unit) :=cond (decide (aa<(ad.2.1.length:Int))) (k.bu U aa 0 ad) (some (1,()))
def tH(k:tF)(U:Int)(aa:Int)(ad:Int)(ai:af.D):Option (Int×Unit) :=(aN ai.2.1.length aa).bind fun v1 =>cond (decide (ad<(((J I ai.2.1 v1).2.2.2.2.2.2.1).length:Int))) ((aN ai.2.1.length aa).bind fun v2 =>(aN (((J I ai.2.1 v2).2.2.2.2.2.2.1).length) ad).bind fun v3 =>cond ((J aw ((J I ai.2.1 v2).2.2.2.2.2.2.1) v3).2.1==U) ((aN ai.2.1.length aa).bind fun v4 =>some ((J I ai.2.1 v4).1,())) (k.bu U aa (aG (ad+1)) ai)) (k.k2 U (aG (aa+1)) ai)
def Rj(k:tF):tF:=⟨tG k,tH k⟩
def ke:Nat→tF:=eH Rj ⟨fun _ _ _=>none,fun _ _ _ _=>none⟩
def Ct(x:af.D×Int×Unit):Option (Int×Unit):=Cs (ke aR) x.1 x.2.1
abbrev Cu:Type:=(List UInt8)→(List aw.D)→Int→Option (Int×Unit)
def Cv(k3:Cu)(a1:af.D)(a2:Int)(a3:List UInt8):Option (Int×Unit) :=(kd (a1,a2,())).bind fun v1 =>(aN a1.2.1.length v1.1).bind fun v2 =>k3 a3 ((J I a1.2.1 v2).2.2.2.2.2.2.1) 0
def Cw(k3:Cu)(U:List UInt8)(aa:List aw.D)(ad:Int):Option (Int×Unit) :=cond (decide (ad<(aa.length:Int))) ((aN aa.length ad).bind fun v1 =>cond (br ((J aw aa v1).1) U) ((aN aa.length ad).bind fun v2 =>some ((J aw aa v2).2.1,())) (k3 U aa (aG (ad+1)))) (some (0,()))
def rH:Nat→Cu | 0,_,_,_=>none | m+1,U,aa,ad=>Cw (rH m) U aa ad
def Jo(x:af.D×Int×(List UInt8)×Unit):Option (Int×Unit):=Cv (rH aR) x.1 x.2.1 x.2.2.1
structure o8 where
 bh:Bool→Nat→Nat→Int→Int→af.D→aH.D→aJ.D→(List (List UInt8))→Option (aJ.D×Unit)
 rI:Bool→Nat→Nat→Int→Int→(List UInt8)→Bool→Int→af.D→aH.D→aJ.D→(List (List UInt8))→I.D→Option (aJ.D×Unit)
 jw:Bool→Nat→Nat→Int→Int→af.D→aH.D→aJ.D→(List (List UInt8))→I.D→Option (aJ.D×Unit)
 yG:Bool→Nat→Nat→Int→Int→(List UInt8)→Bool→Int→af.D→aH.D→aJ.D→(List (List UInt8))→I.D→Option (aJ.D×Unit)
 o9:Bool→Nat→Nat→Int→Int→af.D→aH.D→aJ.D→(List (List UInt8))→I.D→Option (aJ.D×Unit)
def Cx(k:o8)(a1:af.D)(a2:aH.D)(a3:List UInt8)(a4:Bool):Option (aJ.D×Unit) :=(yF (a3,())).bind fun v1 =>k.bh a4 0 v1.1.length 1 0 a1 a2 (0,([]:List UInt8),0,0,()) v1.1
def lA(k:o8)(U:Bool)(aa:Nat)(ad:Nat)(ai:Int)(an:Int)(aB:af.D)(a_:aH.D)(bP:aJ.D)(cA:List (List UInt8)):Option (aJ.D×Unit) :=cond (decide ((ad:Int)>0)) ((aN ad 0).bind fun v1 =>(dZ ad 1 (ad:Int)).bind fun v2 =>(kd (aB,ai,())).bind fun v3 =>(aN aB.2.1.length v3.1).bind fun v4 =>(jP (a_,J I aB.2.1 v4,1,())).bind fun v5 =>cond (!v5.1) (some ((0,([]:List UInt8),0,13,()),())) (cond (br (J ae.str cA (aa+v1)) ([46]:List UInt8)) (k.bh U (aa+v2.1) (v2.2-v2.1) ai an aB a_ bP cA) (cond (br (J ae.str cA (aa+v1)) ([46,46]:List UInt8)) ((Ct (aB,ai,())).bind fun v6 =>k.bh U (aa+v2.1) (v2.2-v2.1) v6.1 an aB a_ bP cA) (cond (decide (((J ae.str cA (aa+v1)).length:Int)>8)) (some ((0,([]:List UInt8),0,36,()),())) ((Jo (aB,ai,J ae.str cA (aa+v1),())).bind fun bt =>cond (bt.1==0) (cond ((((v2.2-v2.1):Nat):Int)==0) (some ((ai,J ae.str cA (aa+v1),0,2,()),())) (some ((0,([]:List UInt8),0,2,()),()))) (dup ((kd (aB,bt.1,())).bind fun dn =>(aN aB.2.1.length dn.1).bind fun v9 =>k.rI U (aa+v2.1) (v2.2-v2.1) ai an (J ae.str cA (aa+v1)) ((((v2.2-v2.1):Nat):Int)==0) bt.1 aB a_ bP cA (J I aB.2.1 v9)))))))) (some ((0,([]:List UInt8),ai,0,()),()))
def wx(k:o8)(U:Bool)(aa:Nat)(ad:Nat)(ai:Int)(an:Int)(aB:List UInt8)(a_:Bool)(bP:Int)(cA:af.D)(eX:aH.D)(kf:aJ.D)(kg:List (List UInt8))(jQ:I.D):Option (aJ.D×Unit) :=cond (jQ.2.1==3) (cond (!a_) (k.jw U aa ad ai an cA eX kf kg jQ) (cond U (k.jw U aa ad ai an cA eX kf kg jQ) (k.yG U aa ad ai an aB a_ bP cA eX kf kg jQ))) (k.yG U aa ad ai an aB a_ bP cA eX kf kg jQ)
def Cy(k:o8)(U:Bool)(aa:Nat)(ad:Nat)(ai:Int)(an:Int)(aB:af.D)(a_:aH.D)(bP:aJ.D)(cA:List (List UInt8))(eX:I.D):Option (aJ.D×Unit) :=cond (decide (aG (an+1)>8)) (some ((0,([]:List UInt8),0,40,()),())) ((aN eX.2.2.2.2.2.1.length 0).bind fun v1 =>cond (((eX.2.2.2.2.2.1.getD v1 0).toNat:Int)==47) (k.o9 U aa ad 1 (aG (an+1)) aB a_ bP cA eX) (k.o9 U aa ad ai (aG (an+1)) aB a_ bP cA eX))
def Cz(k:o8)(U:Bool)(aa:Nat)(ad:Nat)(ai:Int)(an:Int)(aB:List UInt8)(a_:Bool)(bP:Int)(cA:af.D)(eX:aH.D)(kf:aJ.D)(kg:List (List UInt8))(jQ:I.D):Option (aJ.D×Unit) :=cond a_ (some ((ai,aB,bP,0,()),())) (cond (jQ.2.1 != 2) (some ((0,([]:List UInt8),0,20,()),())) (k.bh U aa ad bP an cA eX kf kg))
def CA(k:o8)(U:Bool)(aa:Nat)(ad:Nat)(ai:Int)(an:Int)(aB:af.D)(a_:aH.D)(bP:aJ.D)(cA:List (List UInt8))(eX:I.D):Option (aJ.D×Unit) :=(yF (eX.2.2.2.2.2.1,())).bind fun v1 =>cond (room (v1.1.length +(part cA aa ad).length)) (cond (decide (((v1.1++(part cA aa ad)).length:Int)>40)) (some ((0,([]:List UInt8),0,36,()),())) (k.bh U 0 ((v1.1++(part cA aa ad)).length) ai an aB a_ bP (v1.1++(part cA aa ad)))) (none)
def Rk(k:o8):o8:=⟨lA k,wx k,Cy k,Cz k,CA k⟩
def e5:Nat→o8:=eH Rk ⟨fun _ _ _ _ _ _ _ _ _=>none,fun _ _ _ _ _ _ _ _ _ _ _ _ _=>none,fun _ _ _ _ _ _ _ _ _ _=>none,fun _ _ _ _ _ _ _ _ _ _ _ _ _=>none,fun _ _ _ _ _ _ _ _ _ _=>none⟩
def yH(x:af.D×aH.D×(List UInt8)×Bool×Unit):Option (aJ.D×Unit):=Cx (e5 aR) x.1 x.2.1 x.2.2.1 x.2.2.2.1
def yI(a1:af.D)(a2:aH.D)(a3:List UInt8):Option (aJ.D×Int×Unit) :=(yC (a3,())).bind fun v1 =>cond (!v1.1) (some ((0,([]:List UInt8),0,0,()),22,())) ((yH (a1,a2,a3,false,())).bind fun v2 =>cond (v2.1.2.2.2.1==0) (some (v2.1,17,())) (cond (v2.1.2.2.2.1==2) (cond (!(br v2.1.2.1 ([]:List UInt8))) (some (v2.1,0,())) (some (v2.1,v2.1.2.2.2.1,()))) (some (v2.1,v2.1.2.2.2.1,()))))
def tI(x:af.D×aH.D×(List UInt8)×Unit):Option (aJ.D×Int×Unit):=yI x.1 x.2.1 x.2.2.1
def Jp(a1:af.D)(a2:Int):Option (I.D×Unit) :=(kd (a1,a2,())).bind fun v1 =>(aN a1.2.1.length v1.1).bind fun v2 =>some (J I a1.2.1 v2,())
def e6(x:af.D×Int×Unit):Option (I.D×Unit):=Jp x.1 x.2.1
abbrev CB:Type:=Int→Int→af.D→Option (Int×Unit)
def CC(k3:CB)(a1:af.D):Option (Int×Unit) :=k3 0 0 a1
def CD(k3:CB)(U:Int)(aa:Int)(ad:af.D):Option (Int×Unit) :=cond (decide (aa<(ad.2.1.length:Int))) ((aN ad.2.1.length aa).bind fun v1 =>k3 (aG (U +(((J I ad.2.1 v1).2.2.2.2.2.1).length:Int))) (aG (aa+1)) ad) (some (U,()))
def tJ:Nat→CB | 0,_,_,_=>none | m+1,U,aa,ad=>CD (tJ m) U aa ad
def yJ(x:af.D×Unit):Option (Int×Unit):=CC (tJ aR) x.1
structure ql where
 ef:Int→af.D→(List Bool)→(List Bool)→Option ((List Bool)×Unit)
 cR:Int→Int→af.D→(List Bool)→(List Bool)→Option ((List Bool)×Unit)
 rJ:Int→Int→Int→af.D→(List Bool)→(List Bool)→Option ((List Bool)×Unit)
def aa4(k:ql)(a1:af.D)(v3:List Bool):Option ((List Bool)×Unit) :=k.ef 0 a1 (List.replicate (Int.toNat (a1.2.1.length:Int)) (false:Bool)) v3
def CE(k:ql)(a1:af.D)(a2:Int):Option ((List Bool)×Unit) :=cond (decide (0≤(a1.2.1.length:Int))&&decide ((a1.2.1.length:Int)=(a1.2.1.length:Int))&&room (Int.toNat (a1.2.1.length:Int))) (cond (decide (0≤(a1.2.1.length:Int))&&decide ((a1.2.1.length:Int)=(a1.2.1.length:Int))&&room (Int.toNat (a1.2.1.length:Int))) ((kd (a1,a2,())).bind fun v1 =>cond (decide (v1.1<0)) (some (List.replicate (Int.toNat (a1.2.1.length:Int)) (false:Bool),())) ((aN ((List.replicate (Int.toNat (a1.2.1.length:Int)) (false:Bool)).length) v1.1).bind fun v2 =>aa4 k a1 ((List.replicate (Int.toNat (a1.2.1.length:Int)) (false:Bool)).set (0+v2) true))) (none)) (none)
def yK(k:ql)(U:Int)(aa:af.D)(ad:List Bool)(ai:List Bool):Option ((List Bool)×Unit) :=cond (decide (U<(aa.2.1.length:Int))) (k.cR U 0 aa ad ai) (some (ad,()))
def tK(k:ql)(U:Int)(aa:Int)(ad:af.D)(ai:List Bool)(an:List Bool):Option ((List Bool)×Unit) :=cond (decide (aa<(ad.2.1.length:Int))) ((aN an.length aa).bind fun v1 =>cond (!(J ae.bool an (0+v1))) (k.cR U (aG (aa+1)) ad ai an) (k.rJ U aa 0 ad ai an)) (k.ef (aG (U+1)) ad ai an)
def yL(k:ql)(U:Int)(aa:Int)(ad:Int)(ai:af.D)(an:List Bool)(aB:List Bool):Option ((List Bool)×Unit) :=(aN ai.2.1.length aa).bind fun v1 =>cond (decide (ad<(((J I ai.2.1 v1).2.2.2.2.2.2.1).length:Int))) ((aN ai.2.1.length aa).bind fun v2 =>(aN (((J I ai.2.1 v2).2.2.2.2.2.2.1).length) ad).bind fun v3 =>(kd (ai,(J aw ((J I ai.2.1 v2).2.2.2.2.2.2.1) v3).2.1,())).bind fun v4 =>cond (decide (v4.1≥0)) ((aN an.length v4.1).bind fun v5 =>(aN aB.length v4.1).bind fun v6 =>k.rJ U aa (aG (ad+1)) ai (an.set (0+v5) true) (aB.set (0+v6) true)) (k.rJ U aa (aG (ad+1)) ai an aB)) (k.cR U (aG (aa+1)) ai an aB)
def Rl(k:ql):ql:=⟨yK k,tK k,yL k⟩
def jR:Nat→ql:=eH Rl ⟨fun _ _ _ _=>none,fun _ _ _ _ _=>none,fun _ _ _ _ _ _=>none⟩
def CF(x:af.D×Int×Unit):Option ((List Bool)×Unit):=CE (jR aR) x.1 x.2.1
abbrev CG:Type:=Int→Int→Int→af.D→(List Bool)→Option (Int×Int×Unit)
def CH(bu:CG)(a1:af.D)(a2:Int):Option (Int×Int×Unit) :=(CF (a1,a2,())).bind fun v1 =>bu 0 0 0 a1 v1.1
def CI(bu:CG)(U:Int)(aa:Int)(ad:Int)(ai:af.D)(an:List Bool):Option (Int×Int×Unit) :=cond (decide (ad<(an.length:Int))) ((aN an.length ad).bind fun v1 =>cond (J ae.bool an (0+v1)) ((aN ai.2.1.length ad).bind fun v2 =>bu (aG (U +(((J I ai.2.1 v2).2.2.2.2.2.1).length:Int))) (aG (aa+1)) (aG (ad+1)) ai an) (bu U aa (aG (ad+1)) ai an)) (some (U,aa,()))
def tL:Nat→CG | 0,_,_,_,_,_=>none | m+1,U,aa,ad,ai,an=>CI (tL m) U aa ad ai an
def yM(x:af.D×Int×Unit):Option (Int×Int×Unit):=CH (tL aR) x.1 x.2.1
structure tM where
 k2:Int→af.D→Option (Bool×Unit)
 dd:Int→af.D→I.D→Option (Bool×Unit)
def CJ(k:tM)(a1:af.D):Option (Bool×Unit) :=k.k2 0 a1
def yN(k:tM)(U:Int)(aa:af.D):Option (Bool×Unit) :=cond (decide (U<(aa.2.1.length:Int))) ((aN aa.2.1.length U).bind fun v1 =>cond ((J I aa.2.1 v1).2.1 != 2) (k.k2 (aG (U+1)) aa) (cond ((J I aa.2.1 v1).2.2.2.2.2.2.2.1==0) (cond ((J I aa.2.1 v1).2.2.2.2.2.2.2.2.1==0) (k.k2 (aG (U+1)) aa) (k.dd U aa (J I aa.2.1 v1))) (k.dd U aa (J I aa.2.1 v1)))) (some (false,()))
def Jq(k:tM)(U:Int)(aa:af.D)(ad:I.D):Option (Bool×Unit) :=(yM (aa,ad.1,())).bind fun v1 =>cond (decide (ad.2.2.2.2.2.2.2.1>0)) (cond (decide (v1.1>ad.2.2.2.2.2.2.2.1)) (some (true,())) (cond (decide (ad.2.2.2.2.2.2.2.2.1>0)) (cond (decide (v1.2.1>ad.2.2.2.2.2.2.2.2.1)) (some (true,())) (k.k2 (aG (U+1)) aa)) (k.k2 (aG (U+1)) aa))) (cond (decide (ad.2.2.2.2.2.2.2.2.1>0)) (cond (decide (v1.2.1>ad.2.2.2.2.2.2.2.2.1)) (some (true,())) (k.k2 (aG (U+1)) aa)) (k.k2 (aG (U+1)) aa))
def Rm(k:tM):tM:=⟨yN k,Jq k⟩
def jS:Nat→tM:=eH Rm ⟨fun _ _=>none,fun _ _ _=>none⟩
def CK(x:af.D×Unit):Option (Bool×Unit):=CJ (jS aR) x.1
def Jr(a1:af.D):Option (Int×Unit) :=(yJ (a1,())).bind fun v1 =>cond (decide (v1.1>400)) (some (28,())) ((CK (a1,())).bind fun v2 =>cond v2.1 (some (122,())) (some (0,())))
def Js(x:af.D×Unit):Option (Int×Unit):=Jr x.1
abbrev Rn:Type:=af.D×aS.D×Unit
def Jt(a1:af.D)(a2:af.D):Option (Rn) :=(Js (a2,())).bind fun v1 =>cond (v1.1 != 0) (some (a1,(v1.1,([]:List UInt8),()),())) (some (a2,(0,([]:List UInt8),()),()))
def qm(x:af.D×af.D×Unit):Option (Rn):=Jt x.1 x.2.1
def yO(a1:af.D)(a2:I.D):Option (af.D×Unit) :=(kd (a1,a2.1,())).bind fun v1 =>cond (decide (v1.1<0)) (cond (room (a1.2.1.length+[a2].length)) (some ((a1.1,a1.2.1++[a2],()),())) (none)) ((aN a1.2.1.length v1.1).bind fun v2 =>some ((a1.1,a1.2.1.set (0+v2) a2,()),()))
def n9(x:af.D×I.D×Unit):Option (af.D×Unit):=yO x.1 x.2.1
structure rK where
 bu:(List UInt8)→Int→Bool→Int→af.D→af.D→I.D→(List aw.D)→Option (af.D×Unit)
 fi:(List UInt8)→Int→Bool→Int→af.D→af.D→I.D→(List aw.D)→Option (af.D×Unit)
 mb:af.D→af.D→I.D→(List aw.D)→Option (af.D×Unit)
def CL(k:rK)(a1:af.D)(a2:Int)(a3:List UInt8)(a4:Int):Option (af.D×Unit) :=(e6 (a1,a2,())).bind fun v1 =>k.bu a3 a4 false 0 a1 (0,([]:List I.D),()) v1.1 ([]:List aw.D)
def n_(k:rK)(U:List UInt8)(aa:Int)(ad:Bool)(ai:Int)(an:af.D)(aB:af.D)(a_:I.D)(bP:List aw.D):Option (af.D×Unit) :=cond (decide (ai<(a_.2.2.2.2.2.2.1.length:Int))) (cond (!ad) ((aN a_.2.2.2.2.2.2.1.length ai).bind fun v1 =>cond (du U ((J aw a_.2.2.2.2.2.2.1 v1).1)) (cond (room (bP.length+[(U,aa,())].length)) (k.fi U aa true ai an aB a_ (bP++[(U,aa,())])) (none)) (k.fi U aa ad ai an aB a_ bP)) (k.fi U aa ad ai an aB a_ bP)) (cond (!ad) (cond (room (bP.length+[(U,aa,())].length)) (k.mb an aB a_ (bP++[(U,aa,())])) (none)) (k.mb an aB a_ bP))
def tN(k:rK)(U:List UInt8)(aa:Int)(ad:Bool)(ai:Int)(an:af.D)(aB:af.D)(a_:I.D)(bP:List aw.D):Option (af.D×Unit) :=(aN a_.2.2.2.2.2.2.1.length ai).bind fun v1 =>cond (room (bP.length+[J aw a_.2.2.2.2.2.2.1 v1].length)) (k.bu U aa ad (aG (ai+1)) an aB a_ (bP++[J aw a_.2.2.2.2.2.2.1 v1])) (none)
def Ju(k:rK)(U:af.D)(aa:af.D)(ad:I.D)(ai:List aw.D):Option (af.D×Unit) :=(n9 (U,(ad.1,ad.2.1,ad.2.2.1,ad.2.2.2.1,ad.2.2.2.2.1,ad.2.2.2.2.2.1,ai,ad.2.2.2.2.2.2.2.1,ad.2.2.2.2.2.2.2.2.1,()),())).bind fun v1 =>some (v1.1,())
def Ro(k:rK):rK:=⟨n_ k,tN k,Ju k⟩
def im:Nat→rK:=eH Ro ⟨fun _ _ _ _ _ _ _ _=>none,fun _ _ _ _ _ _ _ _=>none,fun _ _ _ _=>none⟩
def rL(x:af.D×Int×(List UInt8)×Int×Unit):Option (af.D×Unit):=CL (im aR) x.1 x.2.1 x.2.2.1 x.2.2.2.1
abbrev n':Type:=af.D×aS.D×Unit
structure qn where
 k3:af.D→aH.D→aK.D→af.D→aS.D→Option (n')
 yP:af.D→aK.D→af.D→aS.D→aJ.D→I.D→I.D→Option (n')
 fc:af.D→af.D→aS.D→aJ.D→I.D→I.D→Option (n')
 jw:af.D→af.D→aS.D→aJ.D→I.D→Option (n')
def CM(k:qn)(a1:af.D)(a2:aH.D)(a3:aK.D):Option (n') :=cond (a3.1==10) ((yB (a3.2.2.1,())).bind fun v1 =>cond (!v1.1) (some (a1,(22,([]:List UInt8),()),())) (cond (a3.1 != 10) ((ei (a3.2.2.2.1,0,2047,())).bind fun v2 =>cond (!v2.1) (some (a1,(22,([]:List UInt8),()),())) (k.k3 a1 a2 a3 (0,([]:List I.D),()) (0,([]:List UInt8),()))) (k.k3 a1 a2 a3 (0,([]:List I.D),()) (0,([]:List UInt8),())))) (cond (a3.1 != 10) ((ei (a3.2.2.2.1,0,2047,())).bind fun v3 =>cond (!v3.1) (some (a1,(22,([]:List UInt8),()),())) (k.k3 a1 a2 a3 (0,([]:List I.D),()) (0,([]:List UInt8),()))) (k.k3 a1 a2 a3 (0,([]:List I.D),()) (0,([]:List UInt8),())))
def Jv(k:qn)(U:af.D)(aa:aH.D)(ad:aK.D)(ai:af.D)(an:aS.D):Option (n') :=(tI (U,aa,ad.2.1,())).bind fun v1 =>cond (v1.2.1 != 0) (some (U,(v1.2.1,([]:List UInt8),()),())) ((e6 (U,v1.1.1,())).bind fun v2 =>(jP (aa,v2.1,3,())).bind fun v3 =>cond (!v3.1) (some (U,(13,([]:List UInt8),()),())) (cond (decide ((v2.1.2.2.2.2.2.2.1.length:Int)≥12)) (some (U,(28,([]:List UInt8),()),())) (cond (decide ((U.2.1.length:Int)≥24)) (some (U,(28,([]:List UInt8),()),())) (cond (decide (U.1≥100000)) (some (U,(28,([]:List UInt8),()),())) (cond (ad.1==1) (k.yP U ad ai an v1.1 v2.1 (U.1,2,ad.2.2.2.1,aa.1,aa.2.1,([]:List UInt8),([]:List aw.D),0,0,())) (k.yP U ad ai an v1.1 v2.1 (U.1,1,ad.2.2.2.1,aa.1,aa.2.1,([]:List UInt8),([]:List aw.D),0,0,())))))))
def aa5(k:qn)(U:af.D)(aa:aK.D)(ad:af.D)(ai:aS.D)(an:aJ.D)(aB:I.D)(a_:I.D):Option (n') :=cond (aa.1==10) (k.fc U ad ai an aB (a_.1,3,511,a_.2.2.2.1,a_.2.2.2.2.1,aa.2.2.1,a_.2.2.2.2.2.2.1,a_.2.2.2.2.2.2.2.1,a_.2.2.2.2.2.2.2.2.1,())) (k.fc U ad ai an aB a_)
def aa6(k:qn)(U:af.D)(aa:af.D)(ad:aS.D)(ai:aJ.D)(an:I.D)(aB:I.D):Option (n') :=cond (cN .and .i64 an.2.2.1 1024 != 0) (cond (aB.2.1==2) (k.jw U aa ad ai (aB.1,aB.2.1,cN .or .i64 aB.2.2.1 1024,aB.2.2.2.1,an.2.2.2.2.1,aB.2.2.2.2.2.1,aB.2.2.2.2.2.2.1,aB.2.2.2.2.2.2.2.1,aB.2.2.2.2.2.2.2.2.1,())) (k.jw U aa ad ai (aB.1,aB.2.1,aB.2.2.1,aB.2.2.2.1,an.2.2.2.2.1,aB.2.2.2.2.2.1,aB.2.2.2.2.2.2.1,aB.2.2.2.2.2.2.2.1,aB.2.2.2.2.2.2.2.2.1,()))) (k.jw U aa ad ai aB)
def Jw(k:qn)(U:af.D)(aa:af.D)(ad:aS.D)(ai:aJ.D)(an:I.D):Option (n') :=(lz (U,())).bind fun v1 =>(n9 ((aG (v1.1.1+1),v1.1.2.1,()),an,())).bind fun v2 =>(rL (v2.1,ai.1,ai.2.1,an.1,())).bind fun v3 =>(qm (U,v3.1,())).bind fun v4 =>some (v4.1,v4.2.1,())
def Rp(k:qn):qn:=⟨Jv k,aa5 k,aa6 k,Jw k⟩
def jx:Nat→qn:=eH Rp ⟨fun _ _ _ _ _=>none,fun _ _ _ _ _ _ _=>none,fun _ _ _ _ _ _=>none,fun _ _ _ _ _=>none⟩
def tO(x:af.D×aH.D×aK.D×Unit):Option (n'):=CM (jx aR) x.1 x.2.1 x.2.2.1
def rM(a1:af.D)(a2:aH.D)(a3:List UInt8)(a4:Bool):Option (aJ.D×Unit) :=(yC (a3,())).bind fun v1 =>cond (!v1.1) (some ((0,([]:List UInt8),0,22,()),())) ((yH (a1,a2,a3,a4,())).bind fun v2 =>some (v2.1,()))
def fk(x:af.D×aH.D×(List UInt8)×Bool×Unit):Option (aJ.D×Unit):=rM x.1 x.2.1 x.2.2.1 x.2.2.2.1
def Jx(a1:aH.D)(a2:I.D)(a3:I.D):Option (Bool×Unit) :=(tA (a1,())).bind fun v1 =>cond (!v1.1) (some (false,())) (cond (cN .and .i64 a2.2.2.1 512==0) (some (true,())) (cond (a1.1==0) (some (true,())) (cond (a1.1==a2.2.2.2.1) (some (true,())) (some (a1.1==a3.2.2.2.1,())))))
def wy(x:aH.D×I.D×I.D×Unit):Option (Bool×Unit):=Jx x.1 x.2.1 x.2.2.1
structure tP where
 k3:Int→Int→Int→af.D→Option (Int×Unit)
 dd:Int→Int→Int→Int→af.D→Option (Int×Unit)
def CN(k:tP)(a1:af.D)(a2:Int):Option (Int×Unit) :=k.k3 a2 0 0 a1
def yQ(k:tP)(U:Int)(aa:Int)(ad:Int)(ai:af.D):Option (Int×Unit) :=cond (decide (ad<(ai.2.1.length:Int))) (k.dd U aa ad 0 ai) (some (aa,()))
def yR(k:tP)(U:Int)(aa:Int)(ad:Int)(ai:Int)(an:af.D):Option (Int×Unit) :=(aN an.2.1.length ad).bind fun v1 =>cond (decide (ai<(((J I an.2.1 v1).2.2.2.2.2.2.1).length:Int))) ((aN an.2.1.length ad).bind fun v2 =>(aN (((J I an.2.1 v2).2.2.2.2.2.2.1).length) ai).bind fun v3 =>cond ((J aw ((J I an.2.1 v2).2.2.2.2.2.2.1) v3).2.1==U) (k.dd U (aG (aa+1)) ad (aG (ai+1)) an) (k.dd U aa ad (aG (ai+1)) an)) (k.k3 U aa (aG (ad+1)) an)
def Rq(k:tP):tP:=⟨yQ k,yR k⟩
def o_:Nat→tP:=eH Rq ⟨fun _ _ _ _=>none,fun _ _ _ _ _=>none⟩
def yS(x:af.D×Int×Unit):Option (Int×Unit):=CN (o_ aR) x.1 x.2.1
structure tQ where
 bu:(List UInt8)→Int→Int→af.D→af.D→I.D→(List aw.D)→Option (af.D×Unit)
 mc:Int→Int→af.D→af.D→(List I.D)→Option (af.D×Unit)
def CO(k:tQ)(a1:af.D)(a2:Int)(a3:List UInt8):Option (af.D×Unit) :=(e6 (a1,a2,())).bind fun v1 =>k.bu a3 0 0 a1 (0,([]:List I.D),()) v1.1 ([]:List aw.D)
def yT(k:tQ)(U:List UInt8)(aa:Int)(ad:Int)(ai:af.D)(an:af.D)(aB:I.D)(a_:List aw.D):Option (af.D×Unit) :=cond (decide (ad<(aB.2.2.2.2.2.2.1.length:Int))) ((aN aB.2.2.2.2.2.2.1.length ad).bind fun v1 =>cond (br ((J aw aB.2.2.2.2.2.2.1 v1).1) U) ((aN aB.2.2.2.2.2.2.1.length ad).bind fun v2 =>k.bu U ((J aw aB.2.2.2.2.2.2.1 v2).2.1) (aG (ad+1)) ai an aB a_) ((aN aB.2.2.2.2.2.2.1.length ad).bind fun v3 =>cond (room (a_.length+[J aw aB.2.2.2.2.2.2.1 v3].length)) (k.bu U aa (aG (ad+1)) ai an aB (a_++[J aw aB.2.2.2.2.2.2.1 v3])) (none))) ((n9 (ai,(aB.1,aB.2.1,aB.2.2.1,aB.2.2.2.1,aB.2.2.2.2.1,aB.2.2.2.2.2.1,a_,aB.2.2.2.2.2.2.2.1,aB.2.2.2.2.2.2.2.2.1,()),())).bind fun v4 =>(yS (v4.1,aa,())).bind fun v5 =>cond (decide (v5.1>0)) (some (v4.1,())) (k.mc aa 0 v4.1 an ([]:List I.D)))
def yU(k:tQ)(U:Int)(aa:Int)(ad:af.D)(ai:af.D)(an:List I.D):Option (af.D×Unit) :=cond (decide (aa<(ad.2.1.length:Int))) ((aN ad.2.1.length aa).bind fun v1 =>cond ((J I ad.2.1 (0+v1)).1 != U) ((aN ad.2.1.length aa).bind fun v2 =>cond (room (an.length+[J I ad.2.1 (0+v2)].length)) (k.mc U (aG (aa+1)) ad ai (an++[J I ad.2.1 (0+v2)])) (none)) (k.mc U (aG (aa+1)) ad ai an)) (some ((ad.1,an,()),()))
def Rr(k:tQ):tQ:=⟨yT k,yU k⟩
def kE:Nat→tQ:=eH Rr ⟨fun _ _ _ _ _ _ _=>none,fun _ _ _ _ _=>none⟩
def oa(x:af.D×Int×(List UInt8)×Unit):Option (af.D×Unit):=CO (kE aR) x.1 x.2.1 x.2.2.1
abbrev qo:Type:=af.D×aS.D×Unit
structure rN where
 dj:af.D→aH.D→aK.D→af.D→aS.D→aJ.D→I.D→Option (qo)
 fX:af.D→aH.D→aK.D→af.D→aS.D→aJ.D→I.D→Option (qo)
 cR:af.D→aH.D→af.D→aS.D→aJ.D→I.D→Option (qo)
def CP(k:rN)(a1:af.D)(a2:aH.D)(a3:aK.D):Option (qo) :=(fk (a1,a2,a3.2.1,false,())).bind fun v1 =>cond (v1.1.2.2.2.1 != 0) (some (a1,(v1.1.2.2.2.1,([]:List UInt8),()),())) ((e6 (a1,v1.1.2.2.1,())).bind fun v2 =>cond (a3.1==2) (cond (br v1.1.2.1 ([]:List UInt8)) (some (a1,(16,([]:List UInt8),()),())) (k.dj a1 a2 a3 (0,([]:List I.D),()) (0,([]:List UInt8),()) v1.1 v2.1)) (k.dj a1 a2 a3 (0,([]:List I.D),()) (0,([]:List UInt8),()) v1.1 v2.1))
def Jy(k:rN)(U:af.D)(aa:aH.D)(ad:aK.D)(ai:af.D)(an:aS.D)(aB:aJ.D)(a_:I.D):Option (qo) :=cond (ad.1==2) (cond (a_.2.1 != 2) (some (U,(20,([]:List UInt8),()),())) (k.fX U aa ad ai an aB a_)) (k.fX U aa ad ai an aB a_)
def Jz(k:rN)(U:af.D)(aa:aH.D)(ad:aK.D)(ai:af.D)(an:aS.D)(aB:aJ.D)(a_:I.D):Option (qo) :=cond (ad.1==8) (cond (a_.2.1==2) (some (U,(21,([]:List UInt8),()),())) (k.cR U aa ai an aB a_)) (k.cR U aa ai an aB a_)
def JA(k:rN)(U:af.D)(aa:aH.D)(ad:af.D)(ai:aS.D)(an:aJ.D)(aB:I.D):Option (qo) :=(e6 (U,an.1,())).bind fun v1 =>(jP (aa,v1.1,3,())).bind fun v2 =>cond (!v2.1) (some (U,(13,([]:List UInt8),()),())) ((wy (aa,v1.1,aB,())).bind fun v3 =>cond (!v3.1) (some (U,(1,([]:List UInt8),()),())) (cond (decide ((aB.2.2.2.2.2.2.1.length:Int)>0)) (some (U,(39,([]:List UInt8),()),())) ((lz (U,())).bind fun v4 =>(oa (v4.1,an.1,an.2.1,())).bind fun v5 =>some (v5.1,(0,([]:List UInt8),()),()))))
def Rs(k:rN):rN:=⟨Jy k,Jz k,JA k⟩
def qp:Nat→rN:=eH Rs ⟨fun _ _ _ _ _ _ _=>none,fun _ _ _ _ _ _ _=>none,fun _ _ _ _ _ _=>none⟩
def yV(x:af.D×aH.D×aK.D×Unit):Option (qo):=CP (qp aR) x.1 x.2.1 x.2.2.1
def JB(a1:af.D)(a2:Int):Option (Bool×Unit) :=(kd (a1,a2,())).bind fun v1 =>cond (decide (v1.1≥0)) ((aN a1.2.1.length v1.1).bind fun v2 =>some ((J I a1.2.1 v2).2.1==2,())) (some (false,()))
def wz(x:af.D×Int×Unit):Option (Bool×Unit):=JB x.1 x.2.1
abbrev Rt:Type:=af.D×aS.D×Unit
def JC(a1:af.D)(a2:aH.D)(a3:aK.D):Option (Rt) :=(fk (a1,a2,a3.2.1,false,())).bind fun v1 =>cond (v1.1.2.2.2.1 != 0) (some (a1,(v1.1.2.2.2.1,([]:List UInt8),()),())) ((wz (a1,v1.1.2.2.1,())).bind fun v2 =>cond v2.1 (some (a1,(1,([]:List UInt8),()),())) ((tI (a1,a2,a3.2.2.1,())).bind fun v3 =>cond (v3.2.1 != 0) (some (a1,(v3.2.1,([]:List UInt8),()),())) ((e6 (a1,v3.1.1,())).bind fun v4 =>(jP (a2,v4.1,3,())).bind fun v5 =>cond (!v5.1) (some (a1,(13,([]:List UInt8),()),())) (cond (decide ((v4.1.2.2.2.2.2.2.1.length:Int)≥12)) (some (a1,(28,([]:List UInt8),()),())) ((lz (a1,())).bind fun v6 =>(rL (v6.1,v3.1.1,v3.1.2.1,v1.1.2.2.1,())).bind fun bt =>(qm (a1,bt.1,())).bind fun dn =>some (dn.1,dn.2.1,()))))))
def CQ(x:af.D×aH.D×aK.D×Unit):Option (Rt):=JC x.1 x.2.1 x.2.2.1
abbrev CR:Type:=Int→Int→Int→af.D→Option (Bool×Unit)
def CS(k2:CR)(a1:af.D)(a2:Int)(a3:Int):Option (Bool×Unit) :=k2 a2 a3 0 a1
def CT(k2:CR)(U:Int)(aa:Int)(ad:Int)(ai:af.D):Option (Bool×Unit) :=cond (decide (ad≤(ai.2.1.length:Int))) (cond (U==aa) (some (true,())) (cond (U==1) (some (false,())) ((Ct (ai,U,())).bind fun v1 =>k2 v1.1 aa (aG (ad+1)) ai))) (some (false,()))
def tT:Nat→CR | 0,_,_,_,_=>none | m+1,U,aa,ad,ai=>CT (tT m) U aa ad ai
def yW(x:af.D×Int×Int×Unit):Option (Bool×Unit):=CS (tT aR) x.1 x.2.1 x.2.2.1
abbrev me:Type:=af.D×aS.D×Unit
structure pa where
 dj:af.D→aH.D→af.D→aS.D→aJ.D→aJ.D→Option (me)
 fc:af.D→aH.D→af.D→aS.D→aJ.D→aJ.D→I.D→I.D→Option (me)
 o9:af.D→af.D→aS.D→aJ.D→aJ.D→I.D→af.D→I.D→Option (me)
 mf:af.D→af.D→aS.D→aJ.D→aJ.D→af.D→Option (me)
 JD:af.D→af.D→aS.D→aJ.D→aJ.D→I.D→af.D→I.D→Option (me)
def CU(k:pa)(a1:af.D)(a2:aH.D)(a3:aK.D):Option (me) :=(fk (a1,a2,a3.2.1,false,())).bind fun v1 =>cond (v1.1.2.2.2.1 != 0) (some (a1,(v1.1.2.2.2.1,([]:List UInt8),()),())) ((fk (a1,a2,a3.2.2.1,false,())).bind fun v2 =>cond (v2.1.2.2.2.1 != 0) (cond (v2.1.2.2.2.1 != 2) (some (a1,(v2.1.2.2.2.1,([]:List UInt8),()),())) (cond (br v2.1.2.1 ([]:List UInt8)) (some (a1,(v2.1.2.2.2.1,([]:List UInt8),()),())) (k.dj a1 a2 (0,([]:List I.D),()) (0,([]:List UInt8),()) v1.1 v2.1))) (k.dj a1 a2 (0,([]:List I.D),()) (0,([]:List UInt8),()) v1.1 v2.1))
def JE(k:pa)(U:af.D)(aa:aH.D)(ad:af.D)(ai:aS.D)(an:aJ.D)(aB:aJ.D):Option (me) :=cond (br an.2.1 ([]:List UInt8)) (some (U,(16,([]:List UInt8),()),())) (cond (br aB.2.1 ([]:List UInt8)) (some (U,(16,([]:List UInt8),()),())) ((e6 (U,an.1,())).bind fun v1 =>(e6 (U,aB.1,())).bind fun v2 =>(e6 (U,an.2.2.1,())).bind fun v3 =>(jP (aa,v1.1,3,())).bind fun v4 =>cond (!v4.1) (some (U,(13,([]:List UInt8),()),())) ((jP (aa,v2.1,3,())).bind fun v5 =>cond (!v5.1) (some (U,(13,([]:List UInt8),()),())) ((wy (aa,v1.1,v3.1,())).bind fun v6 =>cond (!v6.1) (some (U,(1,([]:List UInt8),()),())) (cond (v3.1.2.1==2) ((yW (U,aB.1,an.2.2.1,())).bind fun bt =>cond bt.1 (some (U,(22,([]:List UInt8),()),())) (k.fc U aa ad ai an aB v2.1 v3.1)) (k.fc U aa ad ai an aB v2.1 v3.1))))))
def JF(k:pa)(U:af.D)(aa:aH.D)(ad:af.D)(ai:aS.D)(an:aJ.D)(aB:aJ.D)(a_:I.D)(bP:I.D):Option (me) :=(lz (U,())).bind fun v1 =>cond (decide (aB.2.2.1>0)) (cond (aB.2.2.1==an.2.2.1) (some (U,(0,([]:List UInt8),()),())) ((e6 (U,aB.2.2.1,())).bind fun v2 =>(wy (aa,a_,v2.1,())).bind fun v3 =>cond (!v3.1) (some (U,(1,([]:List UInt8),()),())) (cond (bP.2.1==2) (cond (v2.1.2.1 != 2) (some (U,(20,([]:List UInt8),()),())) (k.o9 U ad ai an aB bP v1.1 v2.1)) (k.o9 U ad ai an aB bP v1.1 v2.1)))) (cond (an.1 != aB.1) (cond (decide ((a_.2.2.2.2.2.2.1.length:Int)≥12)) (some (U,(28,([]:List UInt8),()),())) (k.mf U ad ai an aB v1.1)) (k.mf U ad ai an aB v1.1))
def JG(k:pa)(U:af.D)(aa:af.D)(ad:aS.D)(ai:aJ.D)(an:aJ.D)(aB:I.D)(a_:af.D)(bP:I.D):Option (me) :=cond (aB.2.1==2) (cond (decide ((bP.2.2.2.2.2.2.1.length:Int)>0)) (some (U,(39,([]:List UInt8),()),())) (k.JD U aa ad ai an aB a_ bP)) (k.JD U aa ad ai an aB a_ bP)
def JH(k:pa)(U:af.D)(aa:af.D)(ad:aS.D)(ai:aJ.D)(an:aJ.D)(aB:af.D):Option (me) :=(rL (aB,an.1,an.2.1,ai.2.2.1,())).bind fun v1 =>(oa (v1.1,ai.1,ai.2.1,())).bind fun v2 =>(qm (U,v2.1,())).bind fun v3 =>some (v3.1,v3.2.1,())
def JI(k:pa)(U:af.D)(aa:af.D)(ad:aS.D)(ai:aJ.D)(an:aJ.D)(aB:I.D)(a_:af.D)(bP:I.D):Option (me) :=cond (aB.2.1 != 2) (cond (bP.2.1==2) (some (U,(21,([]:List UInt8),()),())) ((oa (a_,an.1,an.2.1,())).bind fun v1 =>k.mf U aa ad ai an v1.1)) ((oa (a_,an.1,an.2.1,())).bind fun v2 =>k.mf U aa ad ai an v2.1)
def Ru(k:pa):pa:=⟨JE k,JF k,JG k,JH k,JI k⟩
def gi:Nat→pa:=eH Ru ⟨fun _ _ _ _ _ _=>none,fun _ _ _ _ _ _ _ _=>none,fun _ _ _ _ _ _ _ _=>none,fun _ _ _ _ _ _=>none,fun _ _ _ _ _ _ _ _=>none⟩
def CV(x:af.D×aH.D×aK.D×Unit):Option (me):=CU (gi aR) x.1 x.2.1 x.2.2.1
structure rO where
 k2:Int→(List UInt8)→(List Int)→Option ((List UInt8)×Unit)
 bu:Int→(List UInt8)→Int→(List Int)→Option ((List UInt8)×Unit)
def CW(k:rO)(a1:List UInt8)(a2:Int)(a3:List UInt8):Option ((List UInt8)×Unit) :=k.k2 a2 a3 (eo a1)
def yX(k:rO)(U:Int)(aa:List UInt8)(ad:List Int):Option ((List UInt8)×Unit) :=cond (decide ((ad.length:Int)<aG (U +(aa.length:Int)))) (cond (room (ad.length+[0].length)) (k.k2 U aa (ad++[0])) (none)) (k.bu U aa 0 ad)
def Rv(k:rO)(U:Int)(aa:List UInt8)(ad:Int)(v3:List Int):Option ((List UInt8)×Unit) :=k.bu U aa (aG (ad+1)) v3
def yY(k:rO)(U:Int)(aa:List UInt8)(ad:Int)(ai:List Int):Option ((List UInt8)×Unit) :=cond (decide (ad<(aa.length:Int))) ((aN aa.length ad).bind fun v1 =>(aN ai.length (aG (U+ad))).bind fun v2 =>Rv k U aa ad (ai.set (0+v2) ((aa.getD v1 0).toNat:Int))) (some (gp ai,()))
def Rw(k:rO):rO:=⟨yX k,yY k⟩
def m5:Nat→rO:=eH Rw ⟨fun _ _ _=>none,fun _ _ _ _=>none⟩
def rP(x:(List UInt8)×Int×(List UInt8)×Unit):Option ((List UInt8)×Unit):=CW (m5 aR) x.1 x.2.1 x.2.2.1
abbrev tU:Type:=af.D×aS.D×Unit
structure tV where
 jT:Int→af.D→aK.D→af.D→aS.D→I.D→Option (tU)
 g_:af.D→af.D→aS.D→I.D→Option (tU)
def CX(k:tV)(a1:af.D)(a2:aH.D)(a3:aK.D):Option (tU) :=(fk (a1,a2,a3.2.1,true,())).bind fun v1 =>cond (v1.1.2.2.2.1 != 0) (some (a1,(v1.1.2.2.2.1,([]:List UInt8),()),())) ((e6 (a1,v1.1.2.2.1,())).bind fun v2 =>cond (v2.1.2.1==2) (some (a1,(21,([]:List UInt8),()),())) ((jP (a2,v2.1,2,())).bind fun v3 =>cond (!v3.1) (some (a1,(13,([]:List UInt8),()),())) (cond (a3.1==6) (k.jT (v2.1.2.2.2.2.2.1.length:Int) a1 a3 (0,([]:List I.D),()) (0,([]:List UInt8),()) v2.1) (k.jT a3.2.2.2.1 a1 a3 (0,([]:List I.D),()) (0,([]:List UInt8),()) v2.1))))
def JJ(k:tV)(U:Int)(aa:af.D)(ad:aK.D)(ai:af.D)(an:aS.D)(aB:I.D):Option (tU) :=cond (decide (U<0)) (some (aa,(22,([]:List UInt8),()),())) (cond (ad.1==7) (cond (decide (U>64)) (some (aa,(27,([]:List UInt8),()),())) ((rP (aB.2.2.2.2.2.1,U,([]:List UInt8),())).bind fun v1 =>(dZ v1.1.length 0 U).bind fun v2 =>k.g_ aa ai an (aB.1,aB.2.1,aB.2.2.1,aB.2.2.2.1,aB.2.2.2.2.1,part v1.1 v2.1 (v2.2-v2.1),aB.2.2.2.2.2.2.1,aB.2.2.2.2.2.2.2.1,aB.2.2.2.2.2.2.2.2.1,()))) (cond (br ad.2.2.2.2.2.1 ([]:List UInt8)) (some (aa,(0,([]:List UInt8),()),())) (cond (decide (U>aG (64-(ad.2.2.2.2.2.1.length:Int)))) (some (aa,(27,([]:List UInt8),()),())) ((rP (aB.2.2.2.2.2.1,U,ad.2.2.2.2.2.1,())).bind fun v3 =>k.g_ aa ai an (aB.1,aB.2.1,aB.2.2.1,aB.2.2.2.1,aB.2.2.2.2.1,v3.1,aB.2.2.2.2.2.2.1,aB.2.2.2.2.2.2.2.1,aB.2.2.2.2.2.2.2.2.1,())))))
def JK(k:tV)(U:af.D)(aa:af.D)(ad:aS.D)(ai:I.D):Option (tU) :=(lz (U,())).bind fun v1 =>(n9 (v1.1,ai,())).bind fun v2 =>(qm (U,v2.1,())).bind fun v3 =>some (v3.1,v3.2.1,())
def Rx(k:tV):tV:=⟨JJ k,JK k⟩
def jU:Nat→tV:=eH Rx ⟨fun _ _ _ _ _ _=>none,fun _ _ _ _=>none⟩
def wA(x:af.D×aH.D×aK.D×Unit):Option (tU):=CX (jU aR) x.1 x.2.1 x.2.2.1
abbrev ob:Type:=af.D×aS.D×Unit
structure qq where
 ef:Bool→af.D→aH.D→aK.D→af.D→aS.D→Option (ob)
 jT:af.D→aH.D→aK.D→af.D→aS.D→Option (ob)
 pb:af.D→aH.D→aK.D→af.D→aS.D→I.D→Option (ob)
 fL:af.D→af.D→aS.D→I.D→Option (ob)
def rQ(k:qq)(a1:af.D)(a2:aH.D)(a3:aK.D):Option (ob) :=cond (a3.1==15) ((ei (a3.2.2.2.1,0,2047,())).bind fun v1 =>k.ef (!v1.1) a1 a2 a3 (0,([]:List I.D),()) (0,([]:List UInt8),())) (cond (a3.1==16) ((ei (a3.2.2.2.1,0,1000,())).bind fun v2 =>cond (!v2.1) (k.ef true a1 a2 a3 (0,([]:List I.D),()) (0,([]:List UInt8),())) ((ei (a3.2.2.2.2.1,0,1000,())).bind fun v3 =>k.ef (!v3.1) a1 a2 a3 (0,([]:List I.D),()) (0,([]:List UInt8),()))) ((ei (a3.2.2.2.1,0,400,())).bind fun v4 =>cond (!v4.1) (k.ef true a1 a2 a3 (0,([]:List I.D),()) (0,([]:List UInt8),())) ((ei (a3.2.2.2.2.1,0,24,())).bind fun v5 =>k.ef (!v5.1) a1 a2 a3 (0,([]:List I.D),()) (0,([]:List UInt8),()))))
def yZ(k:qq)(U:Bool)(aa:af.D)(ad:aH.D)(ai:aK.D)(an:af.D)(aB:aS.D):Option (ob) :=cond U (some (aa,(22,([]:List UInt8),()),())) (cond (ai.1==19) (cond (ad.1 != 0) (some (aa,(1,([]:List UInt8),()),())) (k.jT aa ad ai an aB)) (k.jT aa ad ai an aB))
def y0(k:qq)(U:af.D)(aa:aH.D)(ad:aK.D)(ai:af.D)(an:aS.D):Option (ob) :=(fk (U,aa,ad.2.1,true,())).bind fun v1 =>cond (v1.1.2.2.2.1 != 0) (some (U,(v1.1.2.2.2.1,([]:List UInt8),()),())) ((e6 (U,v1.1.2.2.1,())).bind fun v2 =>cond (ad.1==15) (cond (aa.1 != 0) (cond (aa.1 != v2.1.2.2.2.1) (some (U,(1,([]:List UInt8),()),())) (k.pb U aa ad ai an v2.1)) (k.pb U aa ad ai an v2.1)) (cond (ad.1==16) (cond (aa.1 != 0) (cond (aa.1 != v2.1.2.2.2.1) (some (U,(1,([]:List UInt8),()),())) (cond (ad.2.2.2.1 != v2.1.2.2.2.1) (some (U,(1,([]:List UInt8),()),())) ((tC (aa,ad.2.2.2.2.1,())).bind fun v3 =>cond (!v3.1) (some (U,(1,([]:List UInt8),()),())) (k.fL U ai an (v2.1.1,v2.1.2.1,v2.1.2.2.1,ad.2.2.2.1,ad.2.2.2.2.1,v2.1.2.2.2.2.2.1,v2.1.2.2.2.2.2.2.1,v2.1.2.2.2.2.2.2.2.1,v2.1.2.2.2.2.2.2.2.2.1,()))))) (k.fL U ai an (v2.1.1,v2.1.2.1,v2.1.2.2.1,ad.2.2.2.1,ad.2.2.2.2.1,v2.1.2.2.2.2.2.1,v2.1.2.2.2.2.2.2.1,v2.1.2.2.2.2.2.2.2.1,v2.1.2.2.2.2.2.2.2.2.1,()))) (cond (v2.1.2.1 != 2) (some (U,(20,([]:List UInt8),()),())) (k.fL U ai an (v2.1.1,v2.1.2.1,v2.1.2.2.1,v2.1.2.2.2.1,v2.1.2.2.2.2.1,v2.1.2.2.2.2.2.1,v2.1.2.2.2.2.2.2.1,ad.2.2.2.1,ad.2.2.2.2.1,())))))
def JL(k:qq)(U:af.D)(aa:aH.D)(ad:aK.D)(ai:af.D)(an:aS.D)(aB:I.D):Option (ob) :=cond (aa.1 != 0) ((tC (aa,aB.2.2.2.2.1,())).bind fun v1 =>cond (!v1.1) (k.fL U ai an (aB.1,aB.2.1,cN .andNot .i64 ad.2.2.2.1 1024,aB.2.2.2.1,aB.2.2.2.2.1,aB.2.2.2.2.2.1,aB.2.2.2.2.2.2.1,aB.2.2.2.2.2.2.2.1,aB.2.2.2.2.2.2.2.2.1,())) (k.fL U ai an (aB.1,aB.2.1,ad.2.2.2.1,aB.2.2.2.1,aB.2.2.2.2.1,aB.2.2.2.2.2.1,aB.2.2.2.2.2.2.1,aB.2.2.2.2.2.2.2.1,aB.2.2.2.2.2.2.2.2.1,()))) (k.fL U ai an (aB.1,aB.2.1,ad.2.2.2.1,aB.2.2.2.1,aB.2.2.2.2.1,aB.2.2.2.2.2.1,aB.2.2.2.2.2.2.1,aB.2.2.2.2.2.2.2.1,aB.2.2.2.2.2.2.2.2.1,()))
def JM(k:qq)(U:af.D)(aa:af.D)(ad:aS.D)(ai:I.D):Option (ob) :=(lz (U,())).bind fun v1 =>(n9 (v1.1,ai,())).bind fun v2 =>(qm (U,v2.1,())).bind fun v3 =>some (v3.1,v3.2.1,())
def Ry(k:qq):qq:=⟨yZ k,y0 k,JL k,JM k⟩
def g':Nat→qq:=eH Ry ⟨fun _ _ _ _ _ _=>none,fun _ _ _ _ _=>none,fun _ _ _ _ _ _=>none,fun _ _ _ _=>none⟩
def rR(x:af.D×aH.D×aK.D×Unit):Option (ob):=rQ (g' aR) x.1 x.2.1 x.2.2.1
abbrev CY:Type:=Int→(List UInt8)→Bool→Option ((List UInt8)×Unit)
def Rz(bu:CY)(a1:Int):Option ((List UInt8)×Unit) :=cond (a1==0) (some (([48]:List UInt8),())) (bu a1 ([]:List UInt8) (decide (a1<0)))
def y1(bu:CY)(U:Int)(aa:List UInt8)(ad:Bool):Option ((List UInt8)×Unit) :=cond (U != 0) (cond (decide (Int.tmod U 10<0)) (cond (room ((gp [IntKind.wrap .u8 (aG (48+aG (0-(Int.tmod U 10))))]).length+aa.length)) (bu (aG (Int.tdiv U 10)) ((gp [IntKind.wrap .u8 (aG (48+aG (0-(Int.tmod U 10))))])++aa) ad) (none)) (cond (room ((gp [IntKind.wrap .u8 (aG (48+Int.tmod U 10))]).length+aa.length)) (bu (aG (Int.tdiv U 10)) ((gp [IntKind.wrap .u8 (aG (48+Int.tmod U 10))])++aa) ad) (none))) (cond ad (cond (room (([45]:List UInt8).length+aa.length)) (some (([45]:List UInt8)++aa,())) (none)) (some (aa,())))
def pc:Nat→CY | 0,_,_,_=>none | m+1,U,aa,ad=>y1 (pc m) U aa ad
def hd(x:Int×Unit):Option ((List UInt8)×Unit):=Rz (pc aR) x.1
abbrev CZ:Type:=Int→Int→Int→af.D→Option (Int×Unit)
def C0(ef:CZ)(a1:af.D)(a2:Int):Option (Int×Unit) :=(kd (a1,a2,())).bind fun v1 =>cond (decide (v1.1<0)) (some (0,())) ((aN a1.2.1.length v1.1).bind fun v2 =>cond ((J I a1.2.1 v2).2.1 != 2) ((yS (a1,a2,())).bind fun v3 =>some (v3.1,())) (ef v1.1 2 0 a1))
def C1(ef:CZ)(U:Int)(aa:Int)(ad:Int)(ai:af.D):Option (Int×Unit) :=(aN ai.2.1.length U).bind fun v1 =>cond (decide (ad<(((J I ai.2.1 v1).2.2.2.2.2.2.1).length:Int))) ((aN ai.2.1.length U).bind fun v2 =>(aN (((J I ai.2.1 v2).2.2.2.2.2.2.1).length) ad).bind fun v3 =>(wz (ai,(J aw ((J I ai.2.1 v2).2.2.2.2.2.2.1) v3).2.1,())).bind fun v4 =>cond v4.1 (ef U (aG (aa+1)) (aG (ad+1)) ai) (ef U aa (aG (ad+1)) ai)) (some (aa,()))
def tW:Nat→CZ | 0,_,_,_,_=>none | m+1,U,aa,ad,ai=>C1 (tW m) U aa ad ai
def C2(x:af.D×Int×Unit):Option (Int×Unit):=C0 (tW aR) x.1 x.2.1
structure m6 where
 bu:af.D→aH.D→aK.D→aS.D→Option (aS.D×Unit)
 dd:af.D→aH.D→aK.D→aS.D→aJ.D→Option (aS.D×Unit)
 oc:Int→aK.D→aS.D→I.D→(List Int)→Option (aS.D×Unit)
 rS:(List UInt8)→Int→aS.D→I.D→Option (aS.D×Unit)
 C3:(List UInt8)→Int→aS.D→I.D→Option (aS.D×Unit)
def qs(k:m6)(a1:af.D)(a2:aH.D)(a3:aK.D):Option (aS.D×Unit) :=cond (a3.1==18) ((hd ((a1.2.1.length:Int),())).bind fun v1 =>cond (room (v1.1.length +([32]:List UInt8).length)) ((yJ (a1,())).bind fun v2 =>(hd (v2.1,())).bind fun v3 =>cond (room ((v1.1++([32]:List UInt8)).length+v3.1.length)) (some ((0,(v1.1++([32]:List UInt8))++v3.1,()),())) (none)) (none)) (cond (a3.1==14) (cond (a3.2.2.2.1 != 0) (cond (a3.2.2.2.1 != 1) (some ((22,([]:List UInt8),()),())) (cond (a3.1==17) ((ei (a3.2.2.2.1,0,7,())).bind fun v4 =>cond (!v4.1) (some ((22,([]:List UInt8),()),())) (k.bu a1 a2 a3 (0,([]:List UInt8),()))) (k.bu a1 a2 a3 (0,([]:List UInt8),())))) (cond (a3.1==17) ((ei (a3.2.2.2.1,0,7,())).bind fun v5 =>cond (!v5.1) (some ((22,([]:List UInt8),()),())) (k.bu a1 a2 a3 (0,([]:List UInt8),()))) (k.bu a1 a2 a3 (0,([]:List UInt8),())))) (cond (a3.1==17) ((ei (a3.2.2.2.1,0,7,())).bind fun v6 =>cond (!v6.1) (some ((22,([]:List UInt8),()),())) (k.bu a1 a2 a3 (0,([]:List UInt8),()))) (k.bu a1 a2 a3 (0,([]:List UInt8),()))))
def JN(k:m6)(U:af.D)(aa:aH.D)(ad:aK.D)(ai:aS.D):Option (aS.D×Unit) :=cond (ad.1 != 11) (cond (ad.1 != 14) ((fk (U,aa,ad.2.1,true,())).bind fun v1 =>k.dd U aa ad ai v1.1) ((fk (U,aa,ad.2.1,ad.2.2.2.1==0,())).bind fun v2 =>k.dd U aa ad ai v2.1)) ((fk (U,aa,ad.2.1,false,())).bind fun v3 =>k.dd U aa ad ai v3.1)
def rT(k:m6)(U:af.D)(aa:aH.D)(ad:aK.D)(ai:aS.D)(an:aJ.D):Option (aS.D×Unit) :=cond (an.2.2.2.1 != 0) (some ((an.2.2.2.1,([]:List UInt8),()),())) ((e6 (U,an.2.2.1,())).bind fun v1 =>cond (ad.1==4) (cond (v1.1.2.1==2) (some ((21,([]:List UInt8),()),())) ((jP (aa,v1.1,4,())).bind fun v2 =>cond (!v2.1) (some ((13,([]:List UInt8),()),())) (cond (decide (ad.2.2.2.1<0)) (some ((22,([]:List UInt8),()),())) (cond (decide (ad.2.2.2.2.1<0)) (some ((22,([]:List UInt8),()),())) (k.oc ad.2.2.2.1 ad ai v1.1 ([]:List Int)))))) (cond (ad.1==11) (cond (v1.1.2.1 != 3) (some ((22,([]:List UInt8),()),())) (some ((0,v1.1.2.2.2.2.2.1,()),()))) (cond (ad.1==13) (cond (!(v1.1.2.1==2)) (some ((20,([]:List UInt8),()),())) ((jP (aa,v1.1,4,())).bind fun v3 =>cond (!v3.1) (some ((13,([]:List UInt8),()),())) (k.rS ([]:List UInt8) 0 ai v1.1))) (cond (ad.1==14) ((hd (v1.1.2.1,())).bind fun v4 =>cond (room (v4.1.length +([32]:List UInt8).length)) ((hd (v1.1.2.2.1,())).bind fun v5 =>cond (room ((v4.1++([32]:List UInt8)).length+v5.1.length)) (cond (room (((v4.1++([32]:List UInt8))++v5.1).length +([32]:List UInt8).length)) ((hd (v1.1.2.2.2.1,())).bind fun v6 =>cond (room ((((v4.1++([32]:List UInt8))++v5.1)++([32]:List UInt8)).length+v6.1.length)) (cond (room (((((v4.1++([32]:List UInt8))++v5.1)++([32]:List UInt8))++v6.1).length +([32]:List UInt8).length)) ((hd (v1.1.2.2.2.2.1,())).bind fun bt =>cond (room ((((((v4.1++([32]:List UInt8))++v5.1)++([32]:List UInt8))++v6.1)++([32]:List UInt8)).length+bt.1.length)) (cond (room (((((((v4.1++([32]:List UInt8))++v5.1)++([32]:List UInt8))++v6.1)++([32]:List UInt8))++bt.1).length +([32]:List UInt8).length)) ((C2 (U,v1.1.1,())).bind fun dn =>(hd (dn.1,())).bind fun v9 =>cond (room ((((((((v4.1++([32]:List UInt8))++v5.1)++([32]:List UInt8))++v6.1)++([32]:List UInt8))++bt.1)++([32]:List UInt8)).length+v9.1.length)) (cond (room (((((((((v4.1++([32]:List UInt8))++v5.1)++([32]:List UInt8))++v6.1)++([32]:List UInt8))++bt.1)++([32]:List UInt8))++v9.1).length +([32]:List UInt8).length)) ((hd ((v1.1.2.2.2.2.2.1.length:Int),())).bind fun v10 =>cond (room ((((((((((v4.1++([32]:List UInt8))++v5.1)++([32]:List UInt8))++v6.1)++([32]:List UInt8))++bt.1)++([32]:List UInt8))++v9.1)++([32]:List UInt8)).length+v10.1.length)) (some ((0,(((((((((v4.1++([32]:List UInt8))++v5.1)++([32]:List UInt8))++v6.1)++([32]:List UInt8))++bt.1)++([32]:List UInt8))++v9.1)++([32]:List UInt8))++v10.1,()),())) (none)) (none)) (none)) (none)) (none)) (none)) (none)) (none)) (none)) (none)) (cond (ad.1==17) ((jP (aa,v1.1,ad.2.2.2.1,())).bind fun v11 =>cond (!v11.1) (some ((13,([]:List UInt8),()),())) (some ((0,([]:List UInt8),()),()))) (cond (!(v1.1.2.1==2)) (some ((20,([]:List UInt8),()),())) ((jP (aa,v1.1,4,())).bind fun v12 =>cond (!v12.1) (some ((13,([]:List UInt8),()),())) ((yM (U,v1.1.1,())).bind fun jy =>(hd (v1.1.2.2.2.2.2.2.2.1,())).bind fun mg =>cond (room (mg.1.length +([32]:List UInt8).length)) ((hd (v1.1.2.2.2.2.2.2.2.2.1,())).bind fun hg =>cond (room ((mg.1++([32]:List UInt8)).length+hg.1.length)) (cond (room (((mg.1++([32]:List UInt8))++hg.1).length +([32]:List UInt8).length)) ((hd (jy.1,())).bind fun od =>cond (room ((((mg.1++([32]:List UInt8))++hg.1)++([32]:List UInt8)).length+od.1.length)) (cond (room (((((mg.1++([32]:List UInt8))++hg.1)++([32]:List UInt8))++od.1).length +([32]:List UInt8).length)) ((hd (jy.2.1,())).bind fun m7 =>cond (room ((((((mg.1++([32]:List UInt8))++hg.1)++([32]:List UInt8))++od.1)++([32]:List UInt8)).length+m7.1.length)) (some ((0,(((((mg.1++([32]:List UInt8))++hg.1)++([32]:List UInt8))++od.1)++([32]:List UInt8))++m7.1,()),())) (none)) (none)) (none)) (none)) (none)) (none)))))))))
def aa7(k:m6)(U:Int)(aa:aK.D)(ad:aS.D)(ai:I.D)(v2:List Int):Option (aS.D×Unit) :=k.oc (aG (U+1)) aa ad ai v2
def C4(k:m6)(U:Int)(aa:aK.D)(ad:aS.D)(ai:I.D)(an:List Int):Option (aS.D×Unit) :=cond (decide (U<(ai.2.2.2.2.2.1.length:Int))) (cond (decide (U<aG (aa.2.2.2.1+aa.2.2.2.2.1))) ((aN ai.2.2.2.2.2.1.length U).bind fun v1 =>cond (room (an.length+[((ai.2.2.2.2.2.1.getD v1 0).toNat:Int)].length)) (aa7 k U aa ad ai (an++[((ai.2.2.2.2.2.1.getD v1 0).toNat:Int)])) (none)) (some ((0,gp an,()),()))) (some ((0,gp an,()),()))
def C5(k:m6)(U:List UInt8)(aa:Int)(ad:aS.D)(ai:I.D):Option (aS.D×Unit) :=cond (decide (aa<(ai.2.2.2.2.2.2.1.length:Int))) (cond (decide (aa>0)) (cond (room (U.length +([47]:List UInt8).length)) (k.C3 (U++([47]:List UInt8)) aa ad ai) (none)) (k.C3 U aa ad ai)) (some ((0,U,()),()))
def JO(k:m6)(U:List UInt8)(aa:Int)(ad:aS.D)(ai:I.D):Option (aS.D×Unit) :=(aN ai.2.2.2.2.2.2.1.length aa).bind fun v1 =>cond (room (U.length +((J aw ai.2.2.2.2.2.2.1 v1).1).length)) (k.rS (U++((J aw ai.2.2.2.2.2.2.1 v1).1)) (aG (aa+1)) ad ai) (none)
def RA(k:m6):m6:=⟨JN k,rT k,C4 k,C5 k,JO k⟩
def fl:Nat→m6:=eH RA ⟨fun _ _ _ _=>none,fun _ _ _ _ _=>none,fun _ _ _ _ _=>none,fun _ _ _ _=>none,fun _ _ _ _=>none⟩
def lB(x:af.D×aH.D×aK.D×Unit):Option (aS.D×Unit):=qs (fl aR) x.1 x.2.1 x.2.2.1
abbrev qt:Type:=af.D×aS.D×Unit
structure rU where
 ef:Int→af.D→aH.D→aK.D→af.D→aS.D→Option (qt)
 cR:Int→af.D→aH.D→aK.D→af.D→aS.D→Option (qt)
 oe:Int→af.D→aH.D→aK.D→af.D→aS.D→Option (qt)
def rV(k:rU)(a1:af.D)(a2:aH.D)(a3:aK.D):Option (qt) :=(Jl (a3,())).bind fun v1 =>cond (!v1.1) (some (a1,(22,([]:List UInt8),()),())) (cond (decide (a3.1>20)) (some (a1,(22,([]:List UInt8),()),())) (cond (a3.1==1) (cond (a3.1==1) ((tO (a1,a2,a3,())).bind fun v2 =>some (v2.1,v2.2.1,())) (k.ef a3.1 a1 a2 a3 (0,([]:List I.D),()) (0,([]:List UInt8),()))) (cond (a3.1==3) (cond (a3.1==3) ((tO (a1,a2,a3,())).bind fun v3 =>some (v3.1,v3.2.1,())) (k.ef a3.1 a1 a2 a3 (0,([]:List I.D),()) (0,([]:List UInt8),()))) (cond (a3.1==10) ((tO (a1,a2,a3,())).bind fun v4 =>some (v4.1,v4.2.1,())) (k.ef a3.1 a1 a2 a3 (0,([]:List I.D),()) (0,([]:List UInt8),()))))))
def aa8(k:rU)(U:Int)(aa:af.D)(ad:aH.D)(ai:aK.D)(an:af.D)(aB:aS.D):Option (qt) :=cond (U==2) (cond (U==2) ((yV (aa,ad,ai,())).bind fun v1 =>some (v1.1,v1.2.1,())) (k.cR U aa ad ai an aB)) (cond (U==8) ((yV (aa,ad,ai,())).bind fun v2 =>some (v2.1,v2.2.1,())) (k.cR U aa ad ai an aB))
def aa9(k:rU)(U:Int)(aa:af.D)(ad:aH.D)(ai:aK.D)(an:af.D)(aB:aS.D):Option (qt) :=cond (U==9) ((CQ (aa,ad,ai,())).bind fun v1 =>some (v1.1,v1.2.1,())) (cond (U==12) ((CV (aa,ad,ai,())).bind fun v2 =>some (v2.1,v2.2.1,())) (cond (U==5) (cond (U==5) ((wA (aa,ad,ai,())).bind fun v3 =>some (v3.1,v3.2.1,())) (k.oe U aa ad ai an aB)) (cond (U==6) (cond (U==6) ((wA (aa,ad,ai,())).bind fun v4 =>some (v4.1,v4.2.1,())) (k.oe U aa ad ai an aB)) (cond (U==7) ((wA (aa,ad,ai,())).bind fun v5 =>some (v5.1,v5.2.1,())) (k.oe U aa ad ai an aB)))))
def aa_(k:rU)(U:Int)(aa:af.D)(ad:aH.D)(ai:aK.D)(an:af.D)(aB:aS.D):Option (qt) :=cond (U==15) (cond (U==15) ((rR (aa,ad,ai,())).bind fun v1 =>some (v1.1,v1.2.1,())) ((lB (aa,ad,ai,())).bind fun v2 =>some (aa,v2.1,()))) (cond (U==16) (cond (U==16) ((rR (aa,ad,ai,())).bind fun v3 =>some (v3.1,v3.2.1,())) ((lB (aa,ad,ai,())).bind fun v4 =>some (aa,v4.1,()))) (cond (U==19) ((rR (aa,ad,ai,())).bind fun v5 =>some (v5.1,v5.2.1,())) ((lB (aa,ad,ai,())).bind fun v6 =>some (aa,v6.1,()))))
def RB(k:rU):rU:=⟨aa8 k,aa9 k,aa_ k⟩
def y2:Nat→rU:=eH RB ⟨fun _ _ _ _ _ _=>none,fun _ _ _ _ _ _=>none,fun _ _ _ _ _ _=>none⟩
def m8(x:af.D×aH.D×aK.D×Unit):Option (qt):=rV (y2 aR) x.1 x.2.1 x.2.2.1
abbrev RC:Type:=Int×bp.D×Unit
def JP(a1:bp.D)(a2:List Int):Option (RC) :=(fZ (a1,(a2.length:Int),())).bind fun v1 =>(aN a2.length v1.1).bind fun v2 =>some (J (ae.int .i64) a2 (0+v2),v1.2.1,())
def iN(x:bp.D×(List Int)×Unit):Option (RC):=JP x.1 x.2.1
abbrev RD:Type:=aH.D×bp.D×Unit
def JQ(a1:bp.D):Option (RD) :=(fZ (a1,4,())).bind fun v1 =>cond (v1.1==0) (cond (v1.1==0) (some ((0,0,([]:List Int),()),v1.2.1,())) (cond (v1.1==2) (some ((2,2,[5],()),v1.2.1,())) (some ((3,2,([]:List Int),()),v1.2.1,())))) (cond (v1.1==1) (some ((0,0,([]:List Int),()),v1.2.1,())) (cond (v1.1==2) (some ((2,2,[5],()),v1.2.1,())) (some ((3,2,([]:List Int),()),v1.2.1,()))))
def y3(x:bp.D×Unit):Option (RD):=JQ x.1
abbrev tX:Type:=(List UInt8)×bp.D×Unit
structure tY where
 bh:Int→Int→bp.D→(List Int)→Option (tX)
 cR:Int→Int→Int→bp.D→(List Int)→Option (tX)
def C6(k:tY)(a1:bp.D)(a2:Int):Option (tX) :=(fZ (a1,4,())).bind fun v1 =>(fZ (v1.2.1,aG (a2+1),())).bind fun v2 =>k.bh v1.1 v2.1 v2.2.1 ([]:List Int)
def y4(k:tY)(U:Int)(aa:Int)(ad:bp.D)(ai:List Int):Option (tX) :=cond (decide (aa>0)) ((qi (ad,())).bind fun v1 =>cond (U==1) (cond (U==2) (k.cR U aa (aG (97+Int.tmod (Int.tmod v1.1 2) 4)) v1.2.1 ai) (k.cR U aa (Int.tmod v1.1 2) v1.2.1 ai)) (cond (U==2) (k.cR U aa (aG (97+Int.tmod v1.1 4)) v1.2.1 ai) (k.cR U aa v1.1 v1.2.1 ai))) (some (gp ai,ad,()))
def JR(k:tY)(U:Int)(aa:Int)(ad:Int)(ai:bp.D)(an:List Int):Option (tX) :=cond (room (an.length+[IntKind.wrap .u8 (ad)].length)) (k.bh U (aG (aa-1)) ai (an++[IntKind.wrap .u8 (ad)])) (none)
def RE(k:tY):tY:=⟨y4 k,JR k⟩
def rW:Nat→tY:=eH RE ⟨fun _ _ _ _=>none,fun _ _ _ _ _=>none⟩
def y5(x:bp.D×Int×Unit):Option (tX):=C6 (rW aR) x.1 x.2.1
abbrev RF:Type:=(List UInt8)×bp.D×Unit
def JS(a1:bp.D)(a2:List (List UInt8)):Option (RF) :=(fZ (a1,(a2.length:Int),())).bind fun v1 =>(aN a2.length v1.1).bind fun v2 =>some (J ae.str a2 (0+v2),v1.2.1,())
def qu(x:bp.D×(List (List UInt8))×Unit):Option (RF):=JS x.1 x.2.1
abbrev RG:Type:=(List UInt8)×bp.D×Unit
def JT(a1:bp.D):Option (RG) :=(qu (a1,[([97]:List UInt8),([98]:List UInt8),([99]:List UInt8),([100,49]:List UInt8),([115,117,98]:List UInt8)],())).bind fun v1 =>some (v1.1,v1.2.1,())
def wB(x:bp.D×Unit):Option (RG):=JT x.1
abbrev qv:Type:=(List UInt8)×bp.D×Unit
structure rX where
 k3:(List UInt8)→Int→bp.D→Option (qv)
 mc:(List UInt8)→bp.D→Option (qv)
 wC:(List UInt8)→bp.D→Option (qv)
def C7(k:rX)(a1:bp.D):Option (qv) :=(fZ (a1,5,())).bind fun v1 =>k.k3 ([]:List UInt8) v1.1 v1.2.1
def y6(k:rX)(U:List UInt8)(aa:Int)(ad:bp.D):Option (qv) :=cond (decide (aa>0)) (cond (room (U.length +([47]:List UInt8).length)) ((wB (ad,())).bind fun v1 =>cond (room ((U++([47]:List UInt8)).length+v1.1.length)) ((fZ (v1.2.1,14,())).bind fun v2 =>cond (v2.1==0) (cond (room (((U++([47]:List UInt8))++v1.1).length +([47,46]:List UInt8).length)) (k.k3 (((U++([47]:List UInt8))++v1.1)++([47,46]:List UInt8)) (aG (aa-1)) v2.2.1) (none)) (cond (v2.1==1) (cond (room (((U++([47]:List UInt8))++v1.1).length +([47,46,46]:List UInt8).length)) (k.k3 (((U++([47]:List UInt8))++v1.1)++([47,46,46]:List UInt8)) (aG (aa-1)) v2.2.1) (none)) (cond (v2.1==2) (cond (room (((U++([47]:List UInt8))++v1.1).length +([47]:List UInt8).length)) (k.k3 (((U++([47]:List UInt8))++v1.1)++([47]:List UInt8)) (aG (aa-1)) v2.2.1) (none)) (cond (v2.1==3) ((qu (v2.2.1,[([108,111,110,103,110,97,109,101,57]:List UInt8),([65,66,67]:List UInt8),([120,32,121]:List UInt8),([46,104,105,100]:List UInt8),([46,46,46]:List UInt8)],())).bind fun v3 =>cond (room (((U++([47]:List UInt8))++v1.1).length+v3.1.length)) (k.k3 (((U++([47]:List UInt8))++v1.1)++v3.1) (aG (aa-1)) v3.2.1) (none)) (k.k3 ((U++([47]:List UInt8))++v1.1) (aG (aa-1)) v2.2.1))))) (none)) (none)) (cond (br U ([]:List UInt8)) (k.mc U ad) ((qj (ad,20,())).bind fun v4 =>cond v4.1 (k.mc U v4.2.1) (k.wC U v4.2.1)))
def JU(k:rX)(U:List UInt8)(aa:bp.D):Option (qv) :=cond (room (U.length +([47]:List UInt8).length)) (k.wC (U++([47]:List UInt8)) aa) (none)
def JV(k:rX)(U:List UInt8)(aa:bp.D):Option (qv) :=(qj (aa,30,())).bind fun v1 =>cond v1.1 ((qu (v1.2.1,[([]:List UInt8),([97]:List UInt8),([47,97,47,98,47,99,47,100,47,97,47,98,47,99,47,100,47,97,47,98,47,99,47,100,47,97,47,98,47,99,47,100,47,97,47,98,47,99,47,100,47,97,47,98,47,99,47,100,47,97,47,98,47,99,47,100,47,97,47,98]:List UInt8),([47,97,47,98,47,99,47,100,47,97,47,98,47,99,47,100,47,97,47,98,47,99,47,100,47,97,47,98,47,99,47,100,47,97,47,98,47,99,47,100,47,97,47,98,47,99,47,100,47,97,47,98,47,99,47,100,47,97,47]:List UInt8)],())).bind fun v2 =>some (v2.1,v2.2.1,())) (some (U,v1.2.1,()))
def RH(k:rX):rX:=⟨y6 k,JU k,JV k⟩
def og:Nat→rX:=eH RH ⟨fun _ _ _=>none,fun _ _=>none,fun _ _=>none⟩
def C8(x:bp.D×Unit):Option (qv):=C7 (og aR) x.1
abbrev y7:Type:=(List UInt8)×bp.D×Unit
abbrev C9:Type:=(List UInt8)→Int→Int→bp.D→af.D→Option (y7)
def C_(dd:C9)(a1:bp.D)(a2:af.D):Option (y7) :=(qj (a1,4,())).bind fun v1 =>cond v1.1 ((C8 (v1.2.1,())).bind fun v2 =>some (v2.1,v2.2.1,())) ((fZ (v1.2.1,4,())).bind fun v3 =>dd ([]:List UInt8) 1 v3.1 v3.2.1 a2)
def wD(dd:C9)(U:List UInt8)(aa:Int)(ad:Int)(ai:bp.D)(an:af.D):Option (y7) :=cond (decide (ad≥0)) ((kd (an,aa,())).bind fun v1 =>cond (decide (v1.1<0)) (cond (room (U.length +([47]:List UInt8).length)) ((wB (ai,())).bind fun v2 =>cond (room ((U++([47]:List UInt8)).length+v2.1.length)) (some ((U++([47]:List UInt8))++v2.1,v2.2.1,())) (none)) (none)) ((aN an.2.1.length v1.1).bind fun v3 =>cond ((((J I an.2.1 v3).2.2.2.2.2.2.1).length:Int)==0) (cond (room (U.length +([47]:List UInt8).length)) ((wB (ai,())).bind fun v4 =>cond (room ((U++([47]:List UInt8)).length+v4.1.length)) (some ((U++([47]:List UInt8))++v4.1,v4.2.1,())) (none)) (none)) ((aN an.2.1.length v1.1).bind fun v5 =>(aN an.2.1.length v1.1).bind fun v6 =>dup ((fZ (ai,(((J I an.2.1 v6).2.2.2.2.2.2.1).length:Int),())).bind fun bt =>(aN (((J I an.2.1 v5).2.2.2.2.2.2.1).length) bt.1).bind fun dn =>cond (room (U.length +([47]:List UInt8).length)) (cond (room ((U++([47]:List UInt8)).length +((J aw ((J I an.2.1 v5).2.2.2.2.2.2.1) dn).1).length)) (dd ((U++([47]:List UInt8))++((J aw ((J I an.2.1 v5).2.2.2.2.2.2.1) dn).1)) ((J aw ((J I an.2.1 v5).2.2.2.2.2.2.1) dn).2.1) (aG (ad-1)) bt.2.1 an) (none)) (none))))) (some (U,ai,()))
def tZ:Nat→C9 | 0,_,_,_,_,_=>none | m+1,U,aa,ad,ai,an=>wD (tZ m) U aa ad ai an
def t_(x:bp.D×af.D×Unit):Option (y7):=C_ (tZ aR) x.1 x.2.1
abbrev kF:Type:=aK.D×bp.D×Unit
structure oh where
 k2:bp.D→af.D→aK.D→aK.D→Option (kF)
 dd:bp.D→aK.D→aK.D→Option (kF)
 dj:Int→bp.D→af.D→aK.D→aK.D→Option (kF)
 fL:bp.D→aK.D→aK.D→Option (kF)
 oe:bp.D→af.D→aK.D→aK.D→Option (kF)
 oc:Int→bp.D→aK.D→aK.D→Option (kF)
def C'(k:oh)(a1:bp.D)(a2:af.D):Option (kF) :=both (both ((iN (a1,[1,1,1,2,3,3,3,4,5,5,6,7,8,9,10,10,11,12,12,12,13,14,15,16,17,18,19,20],())).bind fun v1 =>dup ((t_ (v1.2.1,a2,())).bind fun v2 =>k.k2 v2.2.1 a2 (0,([]:List UInt8),([]:List UInt8),0,0,([]:List UInt8),()) (v1.1,v2.1,([]:List UInt8),0,0,([]:List UInt8),()))) ((iN (a1,[1,1,1,2,3,3,3,4,5,5,6,7,8,9,10,10,11,12,12,12,13,14,15,16,17,18,19,20],())).bind fun v1 =>(t_ (v1.2.1,a2,())).bind fun v2 =>k.k2 v2.2.1 a2 (0,([]:List UInt8),([]:List UInt8),0,0,([]:List UInt8),()) (v1.1,v2.1,([]:List UInt8),0,0,([]:List UInt8),()))) ((iN (a1,[1,1,1,2,3,3,3,4,5,5,6,7,8,9,10,10,11,12,12,12,13,14,15,16,17,18,19,20],())).bind fun v1 =>(t_ (v1.2.1,a2,())).bind fun v2 =>k.k2 v2.2.1 a2 (0,([]:List UInt8),([]:List UInt8),0,0,([]:List UInt8),()) (v1.1,v2.1,([]:List UInt8),0,0,([]:List UInt8),()))
def JW(k:oh)(U:bp.D)(aa:af.D)(ad:aK.D)(ai:aK.D):Option (kF) :=cond (ai.1==1) (cond (ai.1==1) (k.dd U ad ai) (k.dj ai.1 U aa ad ai)) (cond (ai.1==3) (cond (ai.1==3) (k.dd U ad ai) (k.dj ai.1 U aa ad ai)) (cond (ai.1==15) (k.dd U ad ai) (k.dj ai.1 U aa ad ai)))
def JX(k:oh)(U:bp.D)(aa:aK.D)(ad:aK.D):Option (kF) :=(iN (U,[511,511,493,448,420,1535,1023,0,320],())).bind fun v1 =>k.fL v1.2.1 aa (ad.1,ad.2.1,ad.2.2.1,v1.1,ad.2.2.2.2.1,ad.2.2.2.2.2.1,())
def JY(k:oh)(U:Int)(aa:bp.D)(ad:af.D)(ai:aK.D)(an:aK.D):Option (kF) :=cond (U==4) ((fZ (aa,8,())).bind fun v1 =>(fZ (v1.2.1,20,())).bind fun v2 =>k.fL v2.2.1 ai (an.1,an.2.1,an.2.2.1,v1.1,v2.1,an.2.2.2.2.2.1,())) (cond (U==5) ((fZ (aa,20,())).bind fun v3 =>(y5 (v3.2.1,30,())).bind fun v4 =>k.fL v4.2.1 ai (an.1,an.2.1,an.2.2.1,v3.1,an.2.2.2.2.1,v4.1,())) (cond (U==6) ((y5 (aa,30,())).bind fun v5 =>k.fL v5.2.1 ai (an.1,an.2.1,an.2.2.1,an.2.2.2.1,an.2.2.2.2.1,v5.1,())) (cond (U==7) ((fZ (aa,70,())).bind fun v6 =>k.fL v6.2.1 ai (an.1,an.2.1,an.2.2.1,v6.1,an.2.2.2.2.1,an.2.2.2.2.2.1,())) (cond (U==9) (cond (U==9) (k.oe aa ad ai an) (k.oc U aa ai an)) (cond (U==12) (k.oe aa ad ai an) (k.oc U aa ai an))))))
def JZ(k:oh)(U:bp.D)(aa:aK.D)(ad:aK.D):Option (kF) :=(qj (U,25,())).bind fun v1 =>cond v1.1 ((fZ (v1.2.1,6,())).bind fun v2 =>cond (v2.1==0) ((iN (v2.2.1,[(-1),0,21,22,23],())).bind fun v3 =>some ((v3.1,ad.2.1,ad.2.2.1,ad.2.2.2.1,ad.2.2.2.2.1,ad.2.2.2.2.2.1,()),v3.2.1,())) (cond (v2.1==1) ((iN (v2.2.1,[(-1),2048,65,401,1000000,1000001],())).bind fun v4 =>some ((ad.1,ad.2.1,ad.2.2.1,v4.1,ad.2.2.2.2.1,ad.2.2.2.2.2.1,()),v4.2.1,())) (cond (v2.1==2) ((iN (v2.2.1,[(-1),25,1001,1000001],())).bind fun v5 =>some ((ad.1,ad.2.1,ad.2.2.1,ad.2.2.2.1,v5.1,ad.2.2.2.2.2.1,()),v5.2.1,())) (cond (v2.1==3) (cond (room (ad.2.2.2.2.2.1.length +([121]:List UInt8).length)) (some ((ad.1,ad.2.1,ad.2.2.1,ad.2.2.2.1,ad.2.2.2.2.1,ad.2.2.2.2.2.1++([121]:List UInt8),()),v2.2.1,())) (none)) (cond (v2.1==4) ((qu (v2.2.1,[([]:List UInt8),([47,122]:List UInt8),([98,97,100,32,112,97,116,104]:List UInt8),([47,47]:List UInt8)],())).bind fun v6 =>some ((ad.1,ad.2.1,v6.1,ad.2.2.2.1,ad.2.2.2.2.1,ad.2.2.2.2.2.1,()),v6.2.1,())) ((C8 (v2.2.1,())).bind fun bt =>some ((ad.1,bt.1,ad.2.2.1,ad.2.2.2.1,ad.2.2.2.2.1,ad.2.2.2.2.2.1,()),bt.2.1,()))))))) (some (ad,v1.2.1,()))
def J0(k:oh)(U:bp.D)(aa:af.D)(ad:aK.D)(ai:aK.D):Option (kF) :=(t_ (U,aa,())).bind fun v1 =>k.fL v1.2.1 ad (ai.1,ai.2.1,v1.1,ai.2.2.2.1,ai.2.2.2.2.1,ai.2.2.2.2.2.1,())
def J1(k:oh)(U:Int)(aa:bp.D)(ad:aK.D)(ai:aK.D):Option (kF) :=cond (U==10) ((qu (aa,[([47,97]:List UInt8),([98]:List UInt8),([46,46,47,99]:List UInt8),([47,115,117,98,47,97]:List UInt8),([46]:List UInt8),([47]:List UInt8),([100,49,47,98]:List UInt8),([47,99]:List UInt8)],())).bind fun v1 =>k.fL v1.2.1 ad (ai.1,ai.2.1,v1.1,ai.2.2.2.1,ai.2.2.2.2.1,ai.2.2.2.2.2.1,())) (cond (U==14) ((fZ (aa,2,())).bind fun v2 =>k.fL v2.2.1 ad (ai.1,ai.2.1,ai.2.2.1,v2.1,ai.2.2.2.2.1,ai.2.2.2.2.2.1,())) (cond (U==16) ((iN (aa,[0,2,3],())).bind fun v3 =>(iN (v3.2.1,[0,2,5],())).bind fun v4 =>k.fL v4.2.1 ad (ai.1,ai.2.1,ai.2.2.1,v3.1,v4.1,ai.2.2.2.2.2.1,())) (cond (U==17) ((fZ (aa,8,())).bind fun v5 =>k.fL v5.2.1 ad (ai.1,ai.2.1,ai.2.2.1,v5.1,ai.2.2.2.2.1,ai.2.2.2.2.2.1,())) (cond (U==19) ((iN (aa,[0,0,20,60,200],())).bind fun v6 =>(iN (v6.2.1,[0,0,2,5,10],())).bind fun bt =>k.fL bt.2.1 ad (ai.1,ai.2.1,ai.2.2.1,v6.1,bt.1,ai.2.2.2.2.2.1,())) (k.fL aa ad ai)))))
def RI(k:oh):oh:=⟨JW k,JX k,JY k,JZ k,J0 k,J1 k⟩
def kG:Nat→oh:=eH RI ⟨fun _ _ _ _=>none,fun _ _ _=>none,fun _ _ _ _ _=>none,fun _ _ _=>none,fun _ _ _ _=>none,fun _ _ _ _=>none⟩
def Da(x:bp.D×af.D×Unit):Option (kF):=C' (kG aR) x.1 x.2.1
abbrev RJ:Type:=aK.D×bp.D×Unit
def J2(a1:bp.D):Option (RJ) :=(Jh ()).bind fun v1 =>(Da (a1,v1.1,())).bind fun v2 =>some (v2.1,v2.2.1,())
def Db(x:bp.D×Unit):Option (RJ):=J2 x.1
abbrev wE:Type:=af.D×bp.D×Unit
abbrev y8:Type:=Int→bp.D→af.D→af.D→Option (wE)
def RK(bu:y8)(v2:Int×bp.D×Unit)(a2:Int)(v1:af.D×Unit)(v4:List I.D):Option (wE) :=(fZ (v2.2.1,a2,())).bind fun v5 =>cond (decide (v5.1>0)) ((y3 (v5.2.1,())).bind fun v6 =>(Db (v6.2.1,())).bind fun bt =>(m8 ((v1.1.1,v4,()),v6.1,bt.1,())).bind fun dn =>bu v5.1 bt.2.1 (0,([]:List I.D),()) dn.1) ((yy ((v1.1.1,v4,()),())).bind fun v9 =>some (v9.1,v5.2.1,()))
def Dc(bu:y8)(a1:bp.D)(a2:Int):Option (wE) :=(Jg ()).bind fun v1 =>(iN (a1,[511,511,493,1023,2047],())).bind fun v2 =>(aN v1.1.2.1.length 0).bind fun v3 =>RK bu v2 a2 v1 (v1.1.2.1.set (0+v3) ((J I v1.1.2.1 (0+v3)).1,(J I v1.1.2.1 (0+v3)).2.1,v2.1,(J I v1.1.2.1 (0+v3)).2.2.2.1,(J I v1.1.2.1 (0+v3)).2.2.2.2.1,(J I v1.1.2.1 (0+v3)).2.2.2.2.2.1,(J I v1.1.2.1 (0+v3)).2.2.2.2.2.2.1,(J I v1.1.2.1 (0+v3)).2.2.2.2.2.2.2.1,(J I v1.1.2.1 (0+v3)).2.2.2.2.2.2.2.2.1,()))
def wF(bu:y8)(U:Int)(aa:bp.D)(ad:af.D)(ai:af.D):Option (wE) :=cond (decide (aG (U-1)>0)) ((y3 (aa,())).bind fun v1 =>(Db (v1.2.1,())).bind fun v2 =>(m8 (ai,v1.1,v2.1,())).bind fun v3 =>bu (aG (U-1)) v2.2.1 ad v3.1) ((yy (ai,())).bind fun v4 =>some (v4.1,aa,()))
def t':Nat→y8 | 0,_,_,_,_=>none | m+1,U,aa,ad,ai=>wF (t' m) U aa ad ai
def J3(x:bp.D×Int×Unit):Option (wE):=Dc (t' aR) x.1 x.2.1
abbrev pd:Type:=af.D×bp.D×Unit
def aa'(v1:af.D×bp.D×Unit)(v6:Int×bp.D×Unit)(dn:List I.D):Option (pd) :=some ((v1.1.1,dn,()),v6.2.1,())
def aba(v1:af.D×bp.D×Unit)(v9:Int×bp.D×Unit)(v11:List I.D):Option (pd) :=some ((v1.1.1,v11,()),v9.2.1,())
def abb(v1:af.D×bp.D×Unit)(v4:Int×bp.D×Unit)(mg:List I.D):Option (pd) :=some ((v1.1.1,mg,()),v4.2.1,())
def abc(v1:af.D×bp.D×Unit)(m7:Int×bp.D×Unit)(abd:List I.D):Option (pd) :=some ((v1.1.1,abd,()),m7.2.1,())
def abe(v1:af.D×bp.D×Unit)(v20:Int×bp.D×Unit)(v22:List I.D):Option (pd) :=some ((v1.1.1,v22,()),v20.2.1,())
def abf(v1:af.D×bp.D×Unit)(Dd:Int×bp.D×Unit)(abg:List I.D):Option (pd) :=some ((v1.1.1,abg,()),Dd.2.1,())
def abh(v1:af.D×bp.D×Unit)(v4:Int×bp.D×Unit)(abi:List I.D):Option (pd) :=some ((v1.1.1,abi,()),v4.2.1,())
def abj(v1:af.D×bp.D×Unit)(De:Int×bp.D×Unit)(abk:List I.D):Option (pd) :=some ((v1.1.1,abk,()),De.2.1,())
def J4(a1:bp.D)(a2:Int):Option (pd) :=(J3 (a1,a2,())).bind fun v1 =>(qj (v1.2.1,10,())).bind fun v2 =>cond (!v2.1) (some (v1.1,v2.2.1,())) ((fZ (v2.2.1,(v1.1.2.1.length:Int),())).bind fun v3 =>(fZ (v3.2.1,9,())).bind fun v4 =>cond (v4.1==0) ((iN (v4.2.1,[0,1,2,100000,100001],())).bind fun v5 =>some ((v5.1,v1.1.2.1,()),v5.2.1,())) (cond (v4.1==1) ((fZ (v4.2.1,5,())).bind fun v6 =>(aN v1.1.2.1.length v3.1).bind fun bt =>aa' v1 v6 (v1.1.2.1.set (0+bt) ((J I v1.1.2.1 (0+bt)).1,v6.1,(J I v1.1.2.1 (0+bt)).2.2.1,(J I v1.1.2.1 (0+bt)).2.2.2.1,(J I v1.1.2.1 (0+bt)).2.2.2.2.1,(J I v1.1.2.1 (0+bt)).2.2.2.2.2.1,(J I v1.1.2.1 (0+bt)).2.2.2.2.2.2.1,(J I v1.1.2.1 (0+bt)).2.2.2.2.2.2.2.1,(J I v1.1.2.1 (0+bt)).2.2.2.2.2.2.2.2.1,()))) (cond (v4.1==2) ((iN (v4.2.1,[(-1),0,511,2047,2048],())).bind fun v9 =>(aN v1.1.2.1.length v3.1).bind fun v10 =>aba v1 v9 (v1.1.2.1.set (0+v10) ((J I v1.1.2.1 (0+v10)).1,(J I v1.1.2.1 (0+v10)).2.1,v9.1,(J I v1.1.2.1 (0+v10)).2.2.2.1,(J I v1.1.2.1 (0+v10)).2.2.2.2.1,(J I v1.1.2.1 (0+v10)).2.2.2.2.2.1,(J I v1.1.2.1 (0+v10)).2.2.2.2.2.2.1,(J I v1.1.2.1 (0+v10)).2.2.2.2.2.2.2.1,(J I v1.1.2.1 (0+v10)).2.2.2.2.2.2.2.2.1,()))) (cond (v4.1==3) ((aN v1.1.2.1.length v3.1).bind fun v12 =>cond (room (((J I v1.1.2.1 (0+v12)).2.2.2.2.2.1).length +([120]:List UInt8).length)) ((aN v1.1.2.1.length v3.1).bind fun jy =>abb v1 v4 (v1.1.2.1.set (0+jy) ((J I v1.1.2.1 (0+jy)).1,(J I v1.1.2.1 (0+jy)).2.1,(J I v1.1.2.1 (0+jy)).2.2.1,(J I v1.1.2.1 (0+jy)).2.2.2.1,(J I v1.1.2.1 (0+jy)).2.2.2.2.1,((J I v1.1.2.1 (0+v12)).2.2.2.2.2.1)++([120]:List UInt8),(J I v1.1.2.1 (0+jy)).2.2.2.2.2.2.1,(J I v1.1.2.1 (0+jy)).2.2.2.2.2.2.2.1,(J I v1.1.2.1 (0+jy)).2.2.2.2.2.2.2.2.1,()))) (none)) (cond (v4.1==4) ((aN v1.1.2.1.length v3.1).bind fun hg =>(qu (v4.2.1,[([122,122]:List UInt8),([122,46]:List UInt8),([]:List UInt8),([90]:List UInt8)],())).bind fun od =>(fZ (od.2.1,6,())).bind fun m7 =>(aN v1.1.2.1.length v3.1).bind fun abl =>cond (Nat.beq (0+abl) (0+hg)) (cond (room (((J I v1.1.2.1 (0+hg)).2.2.2.2.2.2.1).length+[(od.1,m7.1,())].length)) (abc v1 m7 (v1.1.2.1.set (0+hg) ((J I v1.1.2.1 (0+hg)).1,(J I v1.1.2.1 (0+hg)).2.1,(J I v1.1.2.1 (0+hg)).2.2.1,(J I v1.1.2.1 (0+hg)).2.2.2.1,(J I v1.1.2.1 (0+hg)).2.2.2.2.1,(J I v1.1.2.1 (0+hg)).2.2.2.2.2.1,((J I v1.1.2.1 (0+hg)).2.2.2.2.2.2.1)++[(od.1,m7.1,())],(J I v1.1.2.1 (0+hg)).2.2.2.2.2.2.2.1,(J I v1.1.2.1 (0+hg)).2.2.2.2.2.2.2.2.1,()))) (none)) (none)) (cond (v4.1==5) ((iN (v4.2.1,[(-1),1,5,400,401],())).bind fun v20 =>(aN v1.1.2.1.length v3.1).bind fun v21 =>abe v1 v20 (v1.1.2.1.set (0+v21) ((J I v1.1.2.1 (0+v21)).1,(J I v1.1.2.1 (0+v21)).2.1,(J I v1.1.2.1 (0+v21)).2.2.1,(J I v1.1.2.1 (0+v21)).2.2.2.1,(J I v1.1.2.1 (0+v21)).2.2.2.2.1,(J I v1.1.2.1 (0+v21)).2.2.2.2.2.1,(J I v1.1.2.1 (0+v21)).2.2.2.2.2.2.1,v20.1,(J I v1.1.2.1 (0+v21)).2.2.2.2.2.2.2.2.1,()))) (cond (v4.1==6) ((iN (v4.2.1,[(-1),1,24,25],())).bind fun Dd =>(aN v1.1.2.1.length v3.1).bind fun v24 =>abf v1 Dd (v1.1.2.1.set (0+v24) ((J I v1.1.2.1 (0+v24)).1,(J I v1.1.2.1 (0+v24)).2.1,(J I v1.1.2.1 (0+v24)).2.2.1,(J I v1.1.2.1 (0+v24)).2.2.2.1,(J I v1.1.2.1 (0+v24)).2.2.2.2.1,(J I v1.1.2.1 (0+v24)).2.2.2.2.2.1,(J I v1.1.2.1 (0+v24)).2.2.2.2.2.2.1,(J I v1.1.2.1 (0+v24)).2.2.2.2.2.2.2.1,Dd.1,()))) (cond (v4.1==7) (cond (room (v1.1.2.1.length +([(aG (v1.1.1-1),1,0,0,0,([]:List UInt8),([]:List aw.D),0,0,())]).length)) (abh v1 v4 (v1.1.2.1++([(aG (v1.1.1-1),1,0,0,0,([]:List UInt8),([]:List aw.D),0,0,())]))) (none)) ((fZ (v4.2.1,5,())).bind fun De =>(aN v1.1.2.1.length v3.1).bind fun v28 =>abj v1 De (v1.1.2.1.set (0+v28) (De.1,(J I v1.1.2.1 (0+v28)).2.1,(J I v1.1.2.1 (0+v28)).2.2.1,(J I v1.1.2.1 (0+v28)).2.2.2.1,(J I v1.1.2.1 (0+v28)).2.2.2.2.1,(J I v1.1.2.1 (0+v28)).2.2.2.2.2.1,(J I v1.1.2.1 (0+v28)).2.2.2.2.2.2.1,(J I v1.1.2.1 (0+v28)).2.2.2.2.2.2.2.1,(J I v1.1.2.1 (0+v28)).2.2.2.2.2.2.2.2.1,())))))))))))
def Df(x:bp.D×Int×Unit):Option (pd):=J4 x.1 x.2.1
def J5(a1:List Int)(a2:Int):Option (Int×Unit) :=cond (decide (aG (2+aG (Int.tdiv (a1.length:Int) 20))>a2)) (some (a2,())) (some (aG (2+aG (Int.tdiv (a1.length:Int) 20)),()))
def Dg(x:(List Int)×Int×Unit):Option (Int×Unit):=J5 x.1 x.2.1
abbrev RL:Type:=aH.D×bp.D×Unit
def J6(a1:bp.D):Option (RL) :=(y3 (a1,())).bind fun v1 =>(qj (v1.2.1,10,())).bind fun v2 =>cond v2.1 ((fZ (v2.2.1,3,())).bind fun v3 =>cond (v3.1==0) ((iN (v3.2.1,[(-1),1000,1001],())).bind fun v4 =>some ((v4.1,v1.1.2.1,v1.1.2.2.1,()),v4.2.1,())) (cond (v3.1==1) ((iN (v3.2.1,[(-1),1000,1001],())).bind fun v5 =>some ((v1.1.1,v5.1,v1.1.2.2.1,()),v5.2.1,())) ((fZ (v3.2.1,2,())).bind fun v6 =>(dZ ([1,2,3,4,5].length) 0 (aG (4+v6.1))).bind fun bt =>some ((v1.1.1,v1.1.2.1,part [1,2,3,4,5] (0+bt.1) (bt.2-bt.1),()),v6.2.1,())))) (some (v1.1,v2.2.1,()))
def Dh(x:bp.D×Unit):Option (RL):=J6 x.1
abbrev RM:Type:=af.D×aH.D×aK.D×Unit
def J7(a1:List Int):Option (RM) :=(B_ (a1,())).bind fun v1 =>(Dg (a1,50,())).bind fun v2 =>(Df (v1.1,v2.1,())).bind fun v3 =>(Dh (v3.2.1,())).bind fun v4 =>(Da (v4.2.1,v3.1,())).bind fun v5 =>some (v3.1,v4.1,v5.1,())
def J8(x:(List Int)×Unit):Option (RM):=J7 x.1
abbrev Di:Type:=(List UInt8)→Int→Option (Bool×Unit)
def Dj(bh:Di)(a1:List UInt8):Option (Bool×Unit) :=(ei ((a1.length:Int),1,8,())).bind fun v1 =>cond (!v1.1) (some (false,())) (cond (br a1 ([46]:List UInt8)) (some (false,())) (cond (br a1 ([46,46]:List UInt8)) (some (false,())) (bh a1 0)))
def Dk(bh:Di)(U:List UInt8)(aa:Int):Option (Bool×Unit) :=cond (decide (aa<(U.length:Int))) ((aN U.length aa).bind fun v1 =>(yA (((U.getD v1 0).toNat:Int),())).bind fun v2 =>cond (!v2.1) (some (false,())) (bh U (aG (aa+1)))) (some (true,()))
def rY:Nat→Di | 0,_,_=>none | m+1,U,aa=>Dk (rY m) U aa
def J9(x:(List UInt8)×Unit):Option (Bool×Unit):=Dj (rY aR) x.1
structure ua where
 bh:Bool→af.D→I.D→Option (Bool×Unit)
 mb:Int→af.D→I.D→Option (Bool×Unit)
def Dl(k:ua)(a1:af.D)(a2:I.D):Option (Bool×Unit) :=(ei (a2.2.2.1,0,2047,())).bind fun v1 =>cond (!v1.1) (some (false,())) ((ei (a2.2.2.2.1,0,1000,())).bind fun v2 =>cond (!v2.1) (some (false,())) ((ei (a2.2.2.2.2.1,0,1000,())).bind fun v3 =>cond (!v3.1) (some (false,())) (cond ((a2.2.2.2.2.2.2.1.length:Int)==0) (cond (a2.2.2.2.2.2.2.2.1==0) (k.bh (a2.2.2.2.2.2.2.2.2.1==0) a1 a2) (k.bh false a1 a2)) (k.bh false a1 a2))))
def J_(k:ua)(U:Bool)(aa:af.D)(ad:I.D):Option (Bool×Unit) :=cond (ad.2.1==1) (cond U (some (decide ((ad.2.2.2.2.2.1.length:Int)≤64),())) (some (false,()))) (cond (ad.2.1==3) (cond U ((yB (ad.2.2.2.2.2.1,())).bind fun v1 =>cond v1.1 (some (ad.2.2.1==511,())) (some (false,()))) (some (false,()))) (cond (ad.2.1==2) (cond (!(br ad.2.2.2.2.2.1 ([]:List UInt8))) (some (false,())) (cond (decide ((ad.2.2.2.2.2.2.1.length:Int)>12)) (some (false,())) ((ei (ad.2.2.2.2.2.2.2.1,0,400,())).bind fun v2 =>cond (!v2.1) (some (false,())) ((ei (ad.2.2.2.2.2.2.2.2.1,0,24,())).bind fun v3 =>cond (!v3.1) (some (false,())) (k.mb 0 aa ad))))) (some (false,()))))
def y9(k:ua)(U:Int)(aa:af.D)(ad:I.D):Option (Bool×Unit) :=cond (decide (U<(ad.2.2.2.2.2.2.1.length:Int))) ((aN ad.2.2.2.2.2.2.1.length U).bind fun v1 =>(J9 ((J aw ad.2.2.2.2.2.2.1 v1).1,())).bind fun v2 =>cond (!v2.1) (some (false,())) (cond (decide (U>0)) ((aN ad.2.2.2.2.2.2.1.length (aG (U-1))).bind fun v3 =>cond (!(du ((J aw ad.2.2.2.2.2.2.1 v3).1) ((J aw ad.2.2.2.2.2.2.1 v1).1))) (some (false,())) (cond ((J aw ad.2.2.2.2.2.2.1 v1).2.1==1) (some (false,())) ((kd (aa,(J aw ad.2.2.2.2.2.2.1 v1).2.1,())).bind fun v4 =>cond (decide (v4.1<0)) (some (false,())) (k.mb (aG (U+1)) aa ad)))) (cond ((J aw ad.2.2.2.2.2.2.1 v1).2.1==1) (some (false,())) ((kd (aa,(J aw ad.2.2.2.2.2.2.1 v1).2.1,())).bind fun v5 =>cond (decide (v5.1<0)) (some (false,())) (k.mb (aG (U+1)) aa ad))))) (some (true,()))
def RN(k:ua):ua:=⟨J_ k,y9 k⟩
def qw:Nat→ua:=eH RN ⟨fun _ _ _=>none,fun _ _ _=>none⟩
def Dm(x:af.D×I.D×Unit):Option (Bool×Unit):=Dl (qw aR) x.1 x.2.1
structure ub where
 bh:Int→af.D→Option (Bool×Unit)
 cR:Int→af.D→(List Bool)→Option (Bool×Unit)
def Dn(k:ub)(a1:af.D):Option (Bool×Unit) :=(ei (a1.1,2,100000,())).bind fun v1 =>cond (!v1.1) (some (false,())) ((ei ((a1.2.1.length:Int),1,24,())).bind fun v2 =>cond (!v2.1) (some (false,())) ((aN a1.2.1.length 0).bind fun v3 =>cond ((J I a1.2.1 v3).1 != 1) (some (false,())) ((aN a1.2.1.length 0).bind fun v4 =>cond ((J I a1.2.1 v4).2.1 != 2) (some (false,())) (k.bh 0 a1))))
def uc(k:ub)(U:Int)(aa:af.D):Option (Bool×Unit) :=cond (decide (U<(aa.2.1.length:Int))) ((aN aa.2.1.length U).bind fun v1 =>(ei ((J I aa.2.1 v1).1,1,aG (aa.1-1),())).bind fun v2 =>cond (!v2.1) (some (false,())) (cond (decide (U>0)) ((aN aa.2.1.length (aG (U-1))).bind fun v3 =>cond (decide ((J I aa.2.1 v3).1≥(J I aa.2.1 v1).1)) (some (false,())) ((Dm (aa,J I aa.2.1 v1,())).bind fun v4 =>cond (!v4.1) (some (false,())) (k.bh (aG (U+1)) aa))) ((Dm (aa,J I aa.2.1 v1,())).bind fun v5 =>cond (!v5.1) (some (false,())) (k.bh (aG (U+1)) aa)))) ((CF (aa,1,())).bind fun v6 =>k.cR 1 aa v6.1)
def ud(k:ub)(U:Int)(aa:af.D)(ad:List Bool):Option (Bool×Unit) :=cond (decide (U<(aa.2.1.length:Int))) ((aN ad.length U).bind fun v1 =>cond (!(J ae.bool ad (0+v1))) (some (false,())) ((aN aa.2.1.length U).bind fun v2 =>cond ((J I aa.2.1 v2).2.1==2) ((aN aa.2.1.length U).bind fun v3 =>(yS (aa,(J I aa.2.1 v3).1,())).bind fun v4 =>cond (v4.1 != 1) (some (false,())) (k.cR (aG (U+1)) aa ad)) (k.cR (aG (U+1)) aa ad))) ((yJ (aa,())).bind fun v5 =>cond (decide (v5.1≤400)) ((CK (aa,())).bind fun v6 =>some (!v6.1,())) (some (false,())))
def RO(k:ub):ub:=⟨uc k,ud k⟩
def m9:Nat→ub:=eH RO ⟨fun _ _=>none,fun _ _ _=>none⟩
def y_(x:af.D×Unit):Option (Bool×Unit):=Dn (m9 aR) x.1
def J'(a1:Int)(a2:Int)(a3:Int):Option (Bool×Unit) :=cond (decide (a1≥a2)) (some (decide (a1≤a3),())) (some (false,()))
def eI(x:Int×Int×Int×Unit):Option (Bool×Unit):=J' x.1 x.2.1 x.2.2.1
def RP(a1:Int):Option (Bool×Unit) :=cond (decide (a1≥97)) (cond (decide (a1≤122)) (some (true,())) (cond (decide (a1≥48)) (cond (decide (a1≤57)) (some (true,())) (cond (a1==46) (some (true,())) (cond (a1==95) (some (true,())) (some (a1==45,()))))) (cond (a1==46) (some (true,())) (cond (a1==95) (some (true,())) (some (a1==45,())))))) (cond (decide (a1≥48)) (cond (decide (a1≤57)) (some (true,())) (cond (a1==46) (some (true,())) (cond (a1==95) (some (true,())) (some (a1==45,()))))) (cond (a1==46) (some (true,())) (cond (a1==95) (some (true,())) (some (a1==45,())))))
def Dp(x:Int×Unit):Option (Bool×Unit):=RP x.1
abbrev Dq:Type:=(List UInt8)→Int→Int→Option (Bool×Unit)
def Dr(k2:Dq)(a1:List UInt8):Option (Bool×Unit) :=k2 a1 (a1.length:Int) 0
def Ds(k2:Dq)(U:List UInt8)(aa:Int)(ad:Int):Option (Bool×Unit) :=cond (decide (ad<aa)) ((aN U.length ad).bind fun v1 =>cond (((U.getD v1 0).toNat:Int) != 47) ((aN U.length ad).bind fun v2 =>(Dp (((U.getD v2 0).toNat:Int),())).bind fun v3 =>cond (!v3.1) (some (false,())) (k2 U aa (aG (ad+1)))) (k2 U aa (aG (ad+1)))) ((eI ((U.length:Int),1,60,())).bind fun v4 =>some (v4.1,()))
def ue:Nat→Dq | 0,_,_,_=>none | m+1,U,aa,ad=>Ds (ue m) U aa ad
def wG(x:(List UInt8)×Unit):Option (Bool×Unit):=Dr (ue aR) x.1
abbrev y':Type:=(List I.D)×Unit
abbrev Dt:Type:=af.D→Int→Int→Int→Option (y')
def Du(k2:Dt)(a1:af.D)(a2:Int):Option (y') :=k2 a1 a2 (a1.2.1.length:Int) 0
def Dv(k2:Dt)(U:af.D)(aa:Int)(ad:Int)(ai:Int):Option (y') :=cond (decide (ai<ad)) ((aN U.2.1.length ai).bind fun v1 =>cond ((J I U.2.1 v1).1==aa) ((aN U.2.1.length ai).bind fun v2 =>some ([J I U.2.1 v2],())) (k2 U aa ad (aG (ai+1)))) (some ([],()))
def uf:Nat→Dt | 0,_,_,_,_=>none | m+1,U,aa,ad,ai=>Dv (uf m) U aa ad ai
def fm(x:af.D×Int×Unit):Option (y'):=Du (uf aR) x.1 x.2.1
abbrev Dw:Type:=Int→Int→Int→af.D→Option (Int×af.D×Unit)
def Dx(k2:Dw)(a1:af.D)(a2:Int):Option (Int×af.D×Unit) :=k2 a2 (a1.2.1.length:Int) 0 a1
def Dy(k2:Dw)(U:Int)(aa:Int)(ad:Int)(ai:af.D):Option (Int×af.D×Unit) :=cond (decide (ad<aa)) ((aN ai.2.1.length ad).bind fun v1 =>cond ((J I ai.2.1 (0+v1)).1==U) ((aN ai.2.1.length ad).bind fun v2 =>some ((((0+v2):Nat):Int),ai,())) (k2 U aa (aG (ad+1)) ai)) (some ((-1),ai,()))
def ug:Nat→Dw | 0,_,_,_,_=>none | m+1,U,aa,ad,ai=>Dy (ug m) U aa ad ai
def wH(x:af.D×Int×Unit):Option (Int×af.D×Unit):=Dx (ug aR) x.1 x.2.1
abbrev Dz:Type:=(List UInt8)→Int→Int→Option (Bool×Unit)
def DA(k2:Dz)(a1:List UInt8):Option (Bool×Unit) :=k2 a1 (a1.length:Int) 0
def DB(k2:Dz)(U:List UInt8)(aa:Int)(ad:Int):Option (Bool×Unit) :=cond (decide (ad<aa)) ((aN U.length ad).bind fun v1 =>(Dp (((U.getD v1 0).toNat:Int),())).bind fun v2 =>cond (!v2.1) (some (false,())) (k2 U aa (aG (ad+1)))) ((eI ((U.length:Int),1,8,())).bind fun v3 =>cond v3.1 (cond (!(br U ([46]:List UInt8))) (some (!(br U ([46,46]:List UInt8)),())) (some (false,()))) (some (false,())))
def uh:Nat→Dz | 0,_,_,_=>none | m+1,U,aa,ad=>DB (uh m) U aa ad
def Ka(x:(List UInt8)×Unit):Option (Bool×Unit):=DA (uh aR) x.1
abbrev DC:Type:=af.D→(List aw.D)→Int→Int→I.D→Option (Bool×Unit)
def DD(k2:DC)(a1:af.D)(a2:I.D):Option (Bool×Unit) :=k2 a1 a2.2.2.2.2.2.2.1 (a2.2.2.2.2.2.2.1.length:Int) 0 a2
def DE(k2:DC)(U:af.D)(aa:List aw.D)(ad:Int)(ai:Int)(an:I.D):Option (Bool×Unit) :=cond (decide (ai<ad)) ((aN aa.length ai).bind fun v1 =>(Ka ((J aw aa v1).1,())).bind fun v2 =>cond (!v2.1) (some (false,())) (cond ((J aw aa v1).2.1==1) (some (false,())) ((fm (U,(J aw aa v1).2.1,())).bind fun v3 =>cond (!(!List.isEmpty v3.1)) (some (false,())) (cond (decide (ai>0)) ((aN an.2.2.2.2.2.2.1.length (aG (ai-1))).bind fun v4 =>cond (!(du ((J aw an.2.2.2.2.2.2.1 v4).1) ((J aw aa v1).1))) (some (false,())) (k2 U aa ad (aG (ai+1)) an)) (k2 U aa ad (aG (ai+1)) an))))) (some (decide ((an.2.2.2.2.2.2.1.length:Int)≤12),()))
def ui:Nat→DC | 0,_,_,_,_,_=>none | m+1,U,aa,ad,ai,an=>DE (ui m) U aa ad ai an
def Kb(x:af.D×I.D×Unit):Option (Bool×Unit):=DD (ui aR) x.1 x.2.1
abbrev DF:Type:=af.D→I.D→Option (Bool×Unit)
def DG(bu:DF)(a1:af.D)(a2:I.D):Option (Bool×Unit) :=(eI (a2.2.2.1,0,2047,())).bind fun v1 =>cond (!v1.1) (some (false,())) ((eI (a2.2.2.2.1,0,1000,())).bind fun v2 =>cond (!v2.1) (some (false,())) ((eI (a2.2.2.2.2.1,0,1000,())).bind fun v3 =>cond (!v3.1) (some (false,())) (cond (a2.2.1 != 2) (cond (decide ((a2.2.2.2.2.2.2.1.length:Int)>0)) (some (false,())) (cond (a2.2.2.2.2.2.2.2.1 != 0) (some (false,())) (cond (a2.2.2.2.2.2.2.2.2.1 != 0) (some (false,())) (bu a1 a2)))) (bu a1 a2))))
def Kc(bu:DF)(U:af.D)(aa:I.D):Option (Bool×Unit) :=cond (aa.2.1==1) (some (decide ((aa.2.2.2.2.2.1.length:Int)≤64),())) (cond (aa.2.1==3) ((wG (aa.2.2.2.2.2.1,())).bind fun v1 =>cond v1.1 (some (aa.2.2.1==511,())) (some (false,()))) (cond (aa.2.1==2) (cond (br aa.2.2.2.2.2.1 ([]:List UInt8)) ((Kb (U,aa,())).bind fun v2 =>cond v2.1 ((eI (aa.2.2.2.2.2.2.2.1,0,400,())).bind fun v3 =>cond v3.1 ((eI (aa.2.2.2.2.2.2.2.2.1,0,24,())).bind fun v4 =>some (v4.1,())) (some (false,()))) (some (false,()))) (some (false,()))) (some (false,()))))
def za:Nat→DF | 0,_,_=>none | m+1,U,aa=>Kc (za m) U aa
def DH(x:af.D×I.D×Unit):Option (Bool×Unit):=DG (za aR) x.1 x.2.1
abbrev DI:Type:=(List Int)→Int→Int→Int→Option (Int×Unit)
def DJ(k2:DI)(a1:List Int)(a2:Int):Option (Int×Unit) :=k2 a1 a2 (a1.length:Int) 0
def DK(k2:DI)(U:List Int)(aa:Int)(ad:Int)(ai:Int):Option (Int×Unit) :=cond (decide (ai<ad)) ((aN U.length ai).bind fun v1 =>cond (aa==J (ae.int .i64) U v1) (some (ai,())) (k2 U aa ad (aG (ai+1)))) (some ((-1),()))
def uj:Nat→DI | 0,_,_,_,_=>none | m+1,U,aa,ad,ai=>DK (uj m) U aa ad ai
def Kd(x:(List Int)×Int×Unit):Option (Int×Unit):=DJ (uj aR) x.1 x.2.1
def Ke(a1:List Int)(a2:Int):Option (Bool×Unit) :=(Kd (a1,a2,())).bind fun v1 =>some (decide (v1.1≥0),())
def rZ(x:(List Int)×Int×Unit):Option (Bool×Unit):=Ke x.1 x.2.1
structure uk where
 bh:af.D→Int→(List Int)→(List Int)→Option ((List Int)×Unit)
 fX:af.D→Int→(List aw.D)→Int→Int→(List Int)→(List Int)→Option ((List Int)×Unit)
def DL(k:uk)(a1:af.D)(a2:Int):Option ((List Int)×Unit) :=k.bh a1 0 ([]:List Int) [a2]
def qx(k:uk)(U:af.D)(aa:Int)(ad:List Int)(ai:List Int):Option ((List Int)×Unit) :=cond (decide (aa<(ai.length:Int))) ((aN ai.length aa).bind fun v1 =>(fm (U,J (ae.int .i64) ai (0+v1),())).bind fun v2 =>cond (!(!List.isEmpty v2.1)) (k.bh U (aG (aa+1)) ad ai) (cond (!List.isEmpty v2.1) (k.fX U aa ((J I v2.1 0).2.2.2.2.2.2.1) (((J I v2.1 0).2.2.2.2.2.2.1).length:Int) 0 ad ai) (none))) (some (ad,()))
def zb(k:uk)(U:af.D)(aa:Int)(ad:List aw.D)(ai:Int)(an:Int)(aB:List Int)(a_:List Int):Option ((List Int)×Unit) :=cond (decide (an<ai)) ((aN ad.length an).bind fun v1 =>(rZ (aB,(J aw ad v1).2.1,())).bind fun v2 =>cond (!v2.1) (cond (room (aB.length+[(J aw ad v1).2.1].length)) (cond (room (a_.length+[(J aw ad v1).2.1].length)) (k.fX U aa ad ai (aG (an+1)) (aB++[(J aw ad v1).2.1]) (a_++[(J aw ad v1).2.1])) (none)) (none)) (k.fX U aa ad ai (aG (an+1)) aB a_)) (k.bh U (aG (aa+1)) aB a_)
def RQ(k:uk):uk:=⟨qx k,zb k⟩
def mh:Nat→uk:=eH RQ ⟨fun _ _ _ _=>none,fun _ _ _ _ _ _ _=>none⟩
def um(x:af.D×Int×Unit):Option ((List Int)×Unit):=DL (mh aR) x.1 x.2.1
structure uo where
 k3:Int→Int→(List I.D)→Int→Int→Option (Int×Unit)
 dd:Int→Int→(List I.D)→Int→Int→(List aw.D)→Int→Int→Option (Int×Unit)
def DM(k:uo)(a1:af.D)(a2:Int):Option (Int×Unit) :=k.k3 a2 0 a1.2.1 (a1.2.1.length:Int) 0
def zc(k:uo)(U:Int)(aa:Int)(ad:List I.D)(ai:Int)(an:Int):Option (Int×Unit) :=cond (decide (an<ai)) ((aN ad.length an).bind fun v1 =>k.dd U aa ad ai an ((J I ad v1).2.2.2.2.2.2.1) (((J I ad v1).2.2.2.2.2.2.1).length:Int) 0) (some (aa,()))
def zd(k:uo)(U:Int)(aa:Int)(ad:List I.D)(ai:Int)(an:Int)(aB:List aw.D)(a_:Int)(bP:Int):Option (Int×Unit) :=cond (decide (bP<a_)) ((aN aB.length bP).bind fun v1 =>cond ((J aw aB v1).2.1==U) (k.dd U (aG (aa+1)) ad ai an aB a_ (aG (bP+1))) (k.dd U aa ad ai an aB a_ (aG (bP+1)))) (k.k3 U aa ad ai (aG (an+1)))
def RR(k:uo):uo:=⟨zc k,zd k⟩
def pe:Nat→uo:=eH RR ⟨fun _ _ _ _ _=>none,fun _ _ _ _ _ _ _ _=>none⟩
def wI(x:af.D×Int×Unit):Option (Int×Unit):=DM (pe aR) x.1 x.2.1
abbrev DN:Type:=Int→(List I.D)→Int→Int→Option (Int×Unit)
def DO(k3:DN)(a1:af.D):Option (Int×Unit) :=k3 0 a1.2.1 (a1.2.1.length:Int) 0
def DP(k3:DN)(U:Int)(aa:List I.D)(ad:Int)(ai:Int):Option (Int×Unit) :=cond (decide (ai<ad)) ((aN aa.length ai).bind fun v1 =>k3 (aG (U +(((J I aa v1).2.2.2.2.2.1).length:Int))) aa ad (aG (ai+1))) (some (U,()))
def uq:Nat→DN | 0,_,_,_,_=>none | m+1,U,aa,ad,ai=>DP (uq m) U aa ad ai
def r0(x:af.D×Unit):Option (Int×Unit):=DO (uq aR) x.1
abbrev DQ:Type:=af.D→Int→Int→Int→(List Int)→Option (Int×Int×Unit)
def DR(bh:DQ)(a1:af.D)(a2:Int):Option (Int×Int×Unit) :=(um (a1,a2,())).bind fun v1 =>bh a1 0 (v1.1.length:Int) 0 v1.1
def DS(bh:DQ)(U:af.D)(aa:Int)(ad:Int)(ai:Int)(an:List Int):Option (Int×Int×Unit) :=cond (decide (ai<ad)) ((aN an.length ai).bind fun v1 =>(fm (U,J (ae.int .i64) an (0+v1),())).bind fun v2 =>cond (!List.isEmpty v2.1) (cond (!List.isEmpty v2.1) (bh U (aG (aa +(((J I v2.1 0).2.2.2.2.2.1).length:Int))) ad (aG (ai+1)) an) (none)) (bh U aa ad (aG (ai+1)) an)) (some (aa,(an.length:Int),()))
def qy:Nat→DQ | 0,_,_,_,_,_=>none | m+1,U,aa,ad,ai,an=>DS (qy m) U aa ad ai an
def wJ(x:af.D×Int×Unit):Option (Int×Int×Unit):=DR (qy aR) x.1 x.2.1
def Kf(a1:af.D)(a2:I.D):Option (Bool×Unit) :=(wJ (a1,a2.1,())).bind fun v1 =>cond (decide (a2.2.2.2.2.2.2.2.1>0)) (cond (decide (v1.1>a2.2.2.2.2.2.2.2.1)) (some (true,())) (cond (decide (a2.2.2.2.2.2.2.2.2.1>0)) (some (decide (v1.2.1>a2.2.2.2.2.2.2.2.2.1),())) (some (false,())))) (cond (decide (a2.2.2.2.2.2.2.2.2.1>0)) (some (decide (v1.2.1>a2.2.2.2.2.2.2.2.2.1),())) (some (false,())))
def Kg(x:af.D×I.D×Unit):Option (Bool×Unit):=Kf x.1 x.2.1
abbrev DT:Type:=(List I.D)→af.D→Int→Int→Option (Int×Unit)
def DU(k2:DT)(a1:List I.D)(a2:af.D):Option (Int×Unit) :=k2 a1 a2 (a1.length:Int) 0
def DV(k2:DT)(U:List I.D)(aa:af.D)(ad:Int)(ai:Int):Option (Int×Unit) :=cond (decide (ai<ad)) ((aN U.length ai).bind fun v1 =>(Kg (aa,J I U v1,())).bind fun v2 =>cond v2.1 (some (ai,())) (k2 U aa ad (aG (ai+1)))) (some ((-1),()))
def ur:Nat→DT | 0,_,_,_,_=>none | m+1,U,aa,ad,ai=>DV (ur m) U aa ad ai
def Kh(x:(List I.D)×af.D×Unit):Option (Int×Unit):=DU (ur aR) x.1 x.2.1
def Ki(a1:List I.D)(a2:af.D):Option (Bool×Unit) :=(Kh (a1,a2,())).bind fun v1 =>some (decide (v1.1≥0),())
def ze(x:(List I.D)×af.D×Unit):Option (Bool×Unit):=Ki x.1 x.2.1
structure uu where
 bh:(List I.D)→Int→Int→af.D→Option (Bool×Unit)
 cR:(List I.D)→Int→Int→af.D→(List Int)→Option (Bool×Unit)
def DW(k:uu)(a1:af.D):Option (Bool×Unit) :=(eI (a1.1,2,100000,())).bind fun v1 =>cond (!v1.1) (some (false,())) ((eI ((a1.2.1.length:Int),1,24,())).bind fun v2 =>cond (!v2.1) (some (false,())) ((aN a1.2.1.length 0).bind fun v3 =>cond ((J I a1.2.1 v3).1 != 1) (some (false,())) ((aN a1.2.1.length 0).bind fun v4 =>cond ((J I a1.2.1 v4).2.1 != 2) (some (false,())) (k.bh a1.2.1 (a1.2.1.length:Int) 0 a1))))
def uv(k:uu)(U:List I.D)(aa:Int)(ad:Int)(ai:af.D):Option (Bool×Unit) :=cond (decide (ad<aa)) ((aN U.length ad).bind fun v1 =>(eI ((J I U v1).1,1,aG (ai.1-1),())).bind fun v2 =>cond (!v2.1) (some (false,())) (cond (decide (ad>0)) ((aN ai.2.1.length (aG (ad-1))).bind fun v3 =>cond (decide ((J I ai.2.1 v3).1≥(J I U v1).1)) (some (false,())) ((DH (ai,J I U v1,())).bind fun v4 =>cond (!v4.1) (some (false,())) (k.bh U aa (aG (ad+1)) ai))) ((DH (ai,J I U v1,())).bind fun v5 =>cond (!v5.1) (some (false,())) (k.bh U aa (aG (ad+1)) ai)))) ((um (ai,1,())).bind fun v6 =>(dZ ai.2.1.length 1 (ai.2.1.length:Int)).bind fun bt =>k.cR (part ai.2.1 bt.1 (bt.2-bt.1)) (((part ai.2.1 bt.1 (bt.2-bt.1)).length:Nat):Int) 0 ai v6.1)
def uw(k:uu)(U:List I.D)(aa:Int)(ad:Int)(ai:af.D)(an:List Int):Option (Bool×Unit) :=cond (decide (ad<aa)) ((aN U.length ad).bind fun v1 =>(rZ (an,(J I U v1).1,())).bind fun v2 =>cond (!v2.1) (some (false,())) (cond ((J I U v1).2.1==2) ((wI (ai,(J I U v1).1,())).bind fun v3 =>cond (v3.1 != 1) (some (false,())) (k.cR U aa (aG (ad+1)) ai an)) (k.cR U aa (aG (ad+1)) ai an))) ((r0 (ai,())).bind fun v4 =>cond (decide (v4.1≤400)) ((ze (ai.2.1,ai,())).bind fun v5 =>some (!v5.1,())) (some (false,())))
def RS(k:uu):uu:=⟨uv k,uw k⟩
def na:Nat→uu:=eH RS ⟨fun _ _ _ _=>none,fun _ _ _ _ _=>none⟩
def wK(x:af.D×Unit):Option (Bool×Unit):=DW (na aR) x.1
def abm(a1:Int):Option (aS.D×Unit) :=some ((a1,([]:List UInt8),()),())
def eR(x:Int×Unit):Option (aS.D×Unit):=abm x.1
def Kj(a1:Int):Option (Bool×Unit) :=(eI (a1,0,1000,())).bind fun v1 =>some (!v1.1,())
def RT(x:Int×Unit):Option (Bool×Unit):=Kj x.1
abbrev DX:Type:=(List Int)→Int→Int→Option (Int×Unit)
def DY(k2:DX)(a1:List Int):Option (Int×Unit) :=k2 a1 (a1.length:Int) 0
def DZ(k2:DX)(U:List Int)(aa:Int)(ad:Int):Option (Int×Unit) :=cond (decide (ad<aa)) ((aN U.length ad).bind fun v1 =>(RT (J (ae.int .i64) U v1,())).bind fun v2 =>cond v2.1 (some (ad,())) (k2 U aa (aG (ad+1)))) (some ((-1),()))
def ux:Nat→DX | 0,_,_,_=>none | m+1,U,aa,ad=>DZ (ux m) U aa ad
def Kk(x:(List Int)×Unit):Option (Int×Unit):=DY (ux aR) x.1
def Kl(a1:List Int):Option (Bool×Unit) :=(Kk (a1,())).bind fun v1 =>some (decide (v1.1≥0),())
def Km(x:(List Int)×Unit):Option (Bool×Unit):=Kl x.1
def Kn(a1:aH.D):Option (Bool×Unit) :=(eI (a1.1,0,1000,())).bind fun v1 =>cond (!v1.1) (some (false,())) ((eI (a1.2.1,0,1000,())).bind fun v2 =>cond (!v2.1) (some (false,())) (cond (decide ((a1.2.2.1.length:Int)>4)) (some (false,())) ((Km (a1.2.2.1,())).bind fun v3 =>some (!v3.1,()))))
def wL(x:aH.D×Unit):Option (Bool×Unit):=Kn x.1
structure uy where
 k3:Bool→Bool→aK.D→Option (Bool×Unit)
 bu:aK.D→Option (Bool×Unit)
def D0(k:uy)(a1:aK.D):Option (Bool×Unit) :=cond (a1.1==9) (cond (a1.1==5) (k.k3 true true a1) (k.k3 true (a1.1==6) a1)) (cond (a1.1==10) (cond (a1.1==5) (k.k3 true true a1) (k.k3 true (a1.1==6) a1)) (cond (a1.1==5) (k.k3 (a1.1==12) true a1) (k.k3 (a1.1==12) (a1.1==6) a1)))
def RU(k:uy)(U:Bool)(aa:Bool)(ad:aK.D):Option (Bool×Unit) :=cond (!U) (cond (!(br ad.2.2.1 ([]:List UInt8))) (some (false,())) (cond (!aa) (cond (!(br ad.2.2.2.2.2.1 ([]:List UInt8))) (some (false,())) (k.bu ad)) (k.bu ad))) (cond (!aa) (cond (!(br ad.2.2.2.2.2.1 ([]:List UInt8))) (some (false,())) (k.bu ad)) (k.bu ad))
def RV(k:uy)(U:aK.D):Option (Bool×Unit) :=(eI (U.1,1,22,())).bind fun v1 =>cond v1.1 (cond (decide ((U.2.1.length:Int)≤60)) (cond (decide ((U.2.2.1.length:Int)≤60)) (cond (decide ((U.2.2.2.2.2.1.length:Int)≤64)) ((eI (U.2.2.2.1,(-1000000),1000000,())).bind fun v2 =>cond v2.1 ((eI (U.2.2.2.2.1,(-1000000),1000000,())).bind fun v3 =>some (v3.1,())) (some (false,()))) (some (false,()))) (some (false,()))) (some (false,()))) (some (false,()))
def Ko(k:uy):uy:=⟨RU k,RV k⟩
def D1:Nat→uy:=eH Ko ⟨fun _ _ _=>none,fun _=>none⟩
def Kp(x:aK.D×Unit):Option (Bool×Unit):=D0 (D1 aR) x.1
abbrev wM:Type:=(List I.D)→Int→Int→af.D→af.D→Option (af.D×Unit)
def D2(k3:wM)(a1:af.D):Option (af.D×Unit) :=k3 a1.2.1 (a1.2.1.length:Int) 0 (0,([]:List I.D),()) (a1.1,([]:List I.D),())
def RW(k3:wM)(U:List I.D)(aa:Int)(ad:Int)(ai:af.D)(an:af.D)(v3:List I.D):Option (af.D×Unit) :=k3 U aa (aG (ad+1)) ai (an.1,v3,())
def RX(k3:wM)(an:af.D)(U:List I.D)(v1:Nat)(aa:Int)(ad:Int)(ai:af.D)(v2:List aw.D):Option (af.D×Unit) :=cond (room (an.2.1.length+[((J I U v1).1,(J I U v1).2.1,(J I U v1).2.2.1,(J I U v1).2.2.2.1,(J I U v1).2.2.2.2.1,(J I U v1).2.2.2.2.2.1,v2,(J I U v1).2.2.2.2.2.2.2.1,(J I U v1).2.2.2.2.2.2.2.2.1,())].length)) (RW k3 U aa ad ai an (an.2.1++[((J I U v1).1,(J I U v1).2.1,(J I U v1).2.2.1,(J I U v1).2.2.2.1,(J I U v1).2.2.2.2.1,(J I U v1).2.2.2.2.2.1,v2,(J I U v1).2.2.2.2.2.2.2.1,(J I U v1).2.2.2.2.2.2.2.2.1,())])) (none)
def D3(k3:wM)(U:List I.D)(aa:Int)(ad:Int)(ai:af.D)(an:af.D):Option (af.D×Unit) :=cond (decide (ad<aa)) ((aN U.length ad).bind fun v1 =>cond (room (([]:List aw.D).length +((J I U v1).2.2.2.2.2.2.1).length)) (RX k3 an U v1 aa ad ai (([]:List aw.D)++((J I U v1).2.2.2.2.2.2.1))) (none)) (some (an,()))
def uz:Nat→wM | 0,_,_,_,_,_=>none | m+1,U,aa,ad,ai,an=>D3 (uz m) U aa ad ai an
def r1(x:af.D×Unit):Option (af.D×Unit):=D2 (uz aR) x.1
def Kq(a1:List UInt8):Option (Bool×Unit) :=(wG (a1,())).bind fun v1 =>cond v1.1 ((aN a1.length 0).bind fun v2 =>some (((a1.getD v2 0).toNat:Int)==47,())) (some (false,()))
def Kr(x:(List UInt8)×Unit):Option (Bool×Unit):=Kq x.1
structure uA where
 k2:Int→(List I.D)→Int→Int→Option (Int×Unit)
 bu:Int→(List I.D)→Int→Int→(List aw.D)→Int→Int→I.D→Option (Int×Unit)
def D4(k:uA)(a1:af.D)(a2:Int):Option (Int×Unit) :=k.k2 a2 a1.2.1 (a1.2.1.length:Int) 0
def uB(k:uA)(U:Int)(aa:List I.D)(ad:Int)(ai:Int):Option (Int×Unit) :=cond (decide (ai<ad)) ((aN aa.length ai).bind fun v1 =>k.bu U aa ad ai ((J I aa v1).2.2.2.2.2.2.1) (((J I aa v1).2.2.2.2.2.2.1).length:Int) 0 (J I aa v1)) (some (1,()))
def uC(k:uA)(U:Int)(aa:List I.D)(ad:Int)(ai:Int)(an:List aw.D)(aB:Int)(a_:Int)(bP:I.D):Option (Int×Unit) :=cond (decide (a_<aB)) ((aN an.length a_).bind fun v1 =>cond ((J aw an v1).2.1==U) (some (bP.1,())) (k.bu U aa ad ai an aB (aG (a_+1)) bP)) (k.k2 U aa ad (aG (ai+1)))
def RY(k:uA):uA:=⟨uB k,uC k⟩
def kh:Nat→uA:=eH RY ⟨fun _ _ _ _=>none,fun _ _ _ _ _ _ _ _=>none⟩
def D5(x:af.D×Int×Unit):Option (Int×Unit):=D4 (kh aR) x.1 x.2.1
def Ks(a1:aH.D)(a2:Int):Option (Bool×Unit) :=(wL (a1,())).bind fun v1 =>cond v1.1 (cond (a2==a1.2.1) (some (true,())) ((rZ (a1.2.2.1,a2,())).bind fun v2 =>some (v2.1,()))) (some (false,()))
def uD(x:aH.D×Int×Unit):Option (Bool×Unit):=Ks x.1 x.2.1
def Kt(a1:aH.D)(a2:I.D)(a3:Int):Option (Bool×Unit) :=(wL (a1,())).bind fun v1 =>cond (!v1.1) (some (false,())) ((eI (a3,0,7,())).bind fun v2 =>cond (!v2.1) (some (false,())) (cond (a1.1==0) (cond (a2.2.1 != 1) (some (true,())) (cond (cN .and .i64 a2.2.2.1 73 != 0) (some (true,())) (some (cN .and .i64 a3 1==0,())))) (cond (a1.1==a2.2.2.2.1) (some (cN .and .i64 (cN .and .i64 (Int.fdiv a2.2.2.1 (2 ^ min (Int.toNat 6) 64)) 7) a3==a3,())) ((uD (a1,a2.2.2.2.2.1,())).bind fun v3 =>cond v3.1 (some (cN .and .i64 (cN .and .i64 (Int.fdiv a2.2.2.1 (2 ^ min (Int.toNat 3) 64)) 7) a3==a3,())) (some (cN .and .i64 (cN .and .i64 a2.2.2.1 7) a3==a3,()))))))
def pf(x:aH.D×I.D×Int×Unit):Option (Bool×Unit):=Kt x.1 x.2.1 x.2.2.1
abbrev D6:Type:=(List UInt8)→(List aw.D)→Int→Int→Option (Int×Unit)
def D7(k2:D6)(a1:I.D)(a2:List UInt8):Option (Int×Unit) :=k2 a2 a1.2.2.2.2.2.2.1 (a1.2.2.2.2.2.2.1.length:Int) 0
def D8(k2:D6)(U:List UInt8)(aa:List aw.D)(ad:Int)(ai:Int):Option (Int×Unit) :=cond (decide (ai<ad)) ((aN aa.length ai).bind fun v1 =>cond (br ((J aw aa v1).1) U) (some ((J aw aa v1).2.1,())) (k2 U aa ad (aG (ai+1)))) (some (0,()))
def r2:Nat→D6 | 0,_,_,_,_=>none | m+1,U,aa,ad,ai=>D8 (r2 m) U aa ad ai
def D9(x:I.D×(List UInt8)×Unit):Option (Int×Unit):=D7 (r2 aR) x.1 x.2.1
def RZ(_:(List UInt8)×Int×Unit):Option ((List (List UInt8))×Unit):=none
def R0(x:(List UInt8)×Int×Unit):Option (Int×Unit):=some (Lib.indexByte x.1 x.2.1.toNat.toUInt8,())
def abn(a1:List UInt8)(a2:Int):Option (Int×Unit) :=(R0 (a1,a2,())).bind fun v1 =>some (v1.1,())
def R1(x:(List UInt8)×Int×Unit):Option (Int×Unit):=abn x.1 x.2.1
def Ku(a1:List UInt8)(a2:List UInt8):Option (Int×Unit) :=cond ((a2.length:Int)==0) (some (0,())) (cond (br a2 a1) (some (0,())) (cond ((a2.length:Int)==1) ((aN a2.length 0).bind fun v1 =>(R1 (a1,((a2.getD v1 0).toNat:Int),())).bind fun v2 =>some (v2.1,())) (cond (decide ((a2.length:Int)≥(a1.length:Int))) (some ((-1),())) (none))))
def R2(x:(List UInt8)×(List UInt8)×Unit):Option (Int×Unit):=Ku x.1 x.2.1
def Kv(a1:List UInt8)(a2:List UInt8):Option (Int×Unit) :=(R2 (a1,a2,())).bind fun v1 =>some (v1.1,())
def D_(x:(List UInt8)×(List UInt8)×Unit):Option (Int×Unit):=Kv x.1 x.2.1
def R3(_:(List UInt8)×Unit):Option (Int×Unit):=none
def R4(x:(List UInt8)×Int×Unit):Option (Int×Unit):=some ((Lib.countByte x.1 x.2.1.toNat.toUInt8:Int),())
abbrev D':Type:=(List UInt8)→(List UInt8)→Int→Option (Int×Unit)
def Ea(dd:D')(a1:List UInt8)(a2:List UInt8):Option (Int×Unit) :=cond ((a2.length:Int)==0) ((R3 (a1,())).bind fun v1 =>some (aG (v1.1+1),())) (cond ((a2.length:Int)==1) ((aN a2.length 0).bind fun v2 =>(R4 (a1,((a2.getD v2 0).toNat:Int),())).bind fun v3 =>some (v3.1,())) (dd a1 a2 0))
def R5(dd:D')(U:List UInt8)(aa:List UInt8)(ad:Int):Option (Int×Unit) :=(D_ (U,aa,())).bind fun v1 =>cond (v1.1 ==(-1)) (some (ad,())) ((dZ U.length (aG (v1.1 +(aa.length:Int))) (U.length:Int)).bind fun v2 =>dd (part U v2.1 (v2.2-v2.1)) aa (aG (ad+1)))
def Eb:Nat→D' | 0,_,_,_=>none | m+1,U,aa,ad=>R5 (Eb m) U aa ad
def Kw(x:(List UInt8)×(List UInt8)×Unit):Option (Int×Unit):=Ea (Eb aR) x.1 x.2.1
abbrev pg:Type:=(List (List UInt8))×Unit
structure qz where
 dj:(List UInt8)→(List UInt8)→Int→Int→Option (pg)
 cR:(List UInt8)→(List UInt8)→Int→Int→Int→(List (List UInt8))→Option (pg)
 wC:(List UInt8)→Int→(List (List UInt8))→Option (pg)
def Ec(k:qz)(a1:List UInt8)(a2:List UInt8)(a3:Int)(a4:Int):Option (pg) :=cond (a4==0) (some (([]:List (List UInt8)),())) (cond (br a2 ([]:List UInt8)) ((RZ (a1,a4,())).bind fun v1 =>some (v1.1,())) (cond (decide (a4<0)) ((Kw (a1,a2,())).bind fun v2 =>k.dj a1 a2 a3 (aG (v2.1+1))) (k.dj a1 a2 a3 a4)))
def Kx(k:qz)(U:List UInt8)(aa:List UInt8)(ad:Int)(ai:Int):Option (pg) :=cond (decide (0≤jm ai (aG ((U.length:Int)+1)))&&decide (jm ai (aG ((U.length:Int)+1))=jm ai (aG ((U.length:Int)+1)))&&room (Int.toNat (jm ai (aG ((U.length:Int)+1))))) (k.cR U aa ad (aG (jm ai (aG ((U.length:Int)+1))-1)) 0 (List.replicate (Int.toNat (jm ai (aG ((U.length:Int)+1)))) (([]:List UInt8):List UInt8))) (none)
def R6(k:qz)(U:List UInt8)(v1:Int×Unit)(aa:List UInt8)(ad:Int)(ai:Int)(an:Int)(v4:List (List UInt8)):Option (pg) :=(dZ U.length (aG (v1.1 +(aa.length:Int))) (U.length:Int)).bind fun v5 =>k.cR (part U v5.1 (v5.2-v5.1)) aa ad ai (aG (an+1)) v4
def zf(k:qz)(U:List UInt8)(aa:List UInt8)(ad:Int)(ai:Int)(an:Int)(aB:List (List UInt8)):Option (pg) :=cond (decide (an<ai)) ((D_ (U,aa,())).bind fun v1 =>cond (decide (v1.1<0)) (k.wC U an aB) ((dZ U.length 0 (aG (v1.1+ad))).bind fun v2 =>(aN aB.length an).bind fun v3 =>R6 k U v1 aa ad ai an (aB.set (0+v3) (part U v2.1 (v2.2-v2.1))))) (k.wC U an aB)
def Ky(k:qz)(U:List UInt8)(aa:Int)(ad:List (List UInt8)):Option (pg) :=(aN ad.length aa).bind fun v1 =>(dZ ((ad.set (0+v1) U).length) 0 (aG (aa+1))).bind fun v2 =>some (part (ad.set (0+v1) U) (0+v2.1) (v2.2-v2.1),())
def R7(k:qz):qz:=⟨Kx k,zf k,Ky k⟩
def qA:Nat→qz:=eH R7 ⟨fun _ _ _ _=>none,fun _ _ _ _ _ _=>none,fun _ _ _=>none⟩
def Kz(x:(List UInt8)×(List UInt8)×Int×Int×Unit):Option (pg):=Ec (qA aR) x.1 x.2.1 x.2.2.1 x.2.2.2.1
abbrev R8:Type:=(List (List UInt8))×Unit
def KA(a1:List UInt8)(a2:List UInt8):Option (R8) :=(Kz (a1,a2,0,(-1),())).bind fun v1 =>some (v1.1,())
def KB(x:(List UInt8)×(List UInt8)×Unit):Option (R8):=KA x.1 x.2.1
abbrev zg:Type:=(List (List UInt8))×Unit
abbrev Ed:Type:=Int→Int→(List (List UInt8))→(List (List UInt8))→Option (zg)
def Ee(k3:Ed)(a1:List UInt8):Option (zg) :=(KB (a1,([47]:List UInt8),())).bind fun v1 =>k3 (v1.1.length:Int) 0 ([]:List (List UInt8)) v1.1
def Ef(k3:Ed)(U:Int)(aa:Int)(ad:List (List UInt8))(ai:List (List UInt8)):Option (zg) :=cond (decide (aa<U)) ((aN ai.length aa).bind fun v1 =>cond (!(br (J ae.str ai (0+v1)) ([]:List UInt8))) (cond (room (ad.length+[J ae.str ai (0+v1)].length)) (k3 U (aG (aa+1)) (ad++[J ae.str ai (0+v1)]) ai) (none)) (k3 U (aG (aa+1)) ad ai)) (some (ad,()))
def r3:Nat→Ed | 0,_,_,_,_=>none | m+1,U,aa,ad,ai=>Ef (r3 m) U aa ad ai
def r4(x:(List UInt8)×Unit):Option (zg):=Ee (r3 aR) x.1
abbrev r5:Type:=af.D→Bool→Nat→Nat→Int→Int→aH.D→aJ.D→(List (List UInt8))→Option (aJ.D×Unit)
def Eg(k3:r5)(a1:af.D)(a2:aH.D)(a3:List UInt8)(a4:Bool):Option (aJ.D×Unit) :=(r4 (a3,())).bind fun v1 =>k3 a1 a4 0 v1.1.length 1 0 a2 (0,([]:List UInt8),0,0,()) v1.1
def R9(k3:r5)(U:af.D)(aa:Bool)(aB:Int)(a_:aH.D)(bP:aJ.D)(v10:List (List UInt8)):Option (aJ.D×Unit) :=cond (decide ((v10.length:Int)>40)) (some ((0,([]:List UInt8),0,36,()),())) (k3 U aa 0 v10.length 1 (aG (aB+1)) a_ bP v10)
def R_(k3:r5)(U:af.D)(aa:Bool)(an:Int)(aB:Int)(a_:aH.D)(bP:aJ.D)(v12:List (List UInt8)):Option (aJ.D×Unit) :=cond (decide ((v12.length:Int)>40)) (some ((0,([]:List UInt8),0,36,()),())) (k3 U aa 0 v12.length an (aG (aB+1)) a_ bP v12)
def R'(k3:r5)(U:af.D)(aa:Bool)(aB:Int)(a_:aH.D)(bP:aJ.D)(hg:List (List UInt8)):Option (aJ.D×Unit) :=cond (decide ((hg.length:Int)>40)) (some ((0,([]:List UInt8),0,36,()),())) (k3 U aa 0 hg.length 1 (aG (aB+1)) a_ bP hg)
def Sa(k3:r5)(U:af.D)(aa:Bool)(an:Int)(aB:Int)(a_:aH.D)(bP:aJ.D)(m7:List (List UInt8)):Option (aJ.D×Unit) :=cond (decide ((m7.length:Int)>40)) (some ((0,([]:List UInt8),0,36,()),())) (k3 U aa 0 m7.length an (aG (aB+1)) a_ bP m7)
def lC(k3:r5)(U:af.D)(aa:Bool)(ad:Nat)(ai:Nat)(an:Int)(aB:Int)(a_:aH.D)(bP:aJ.D)(cA:List (List UInt8)):Option (aJ.D×Unit) :=cond (decide ((ai:Int)>0)) ((aN ai 0).bind fun v1 =>(dZ ai 1 (ai:Int)).bind fun v2 =>(fm (U,an,())).bind fun v3 =>cond (!List.isEmpty v3.1) ((pf (a_,J I v3.1 0,1,())).bind fun v4 =>cond (!v4.1) (some ((0,([]:List UInt8),0,13,()),())) (cond (br (J ae.str cA (ad+v1)) ([46]:List UInt8)) (k3 U aa (ad+v2.1) (v2.2-v2.1) an aB a_ bP cA) (cond (br (J ae.str cA (ad+v1)) ([46,46]:List UInt8)) ((D5 (U,an,())).bind fun v5 =>k3 U aa (ad+v2.1) (v2.2-v2.1) v5.1 aB a_ bP cA) (cond (decide (((J ae.str cA (ad+v1)).length:Int)>8)) (some ((0,([]:List UInt8),0,36,()),())) (cond (!List.isEmpty v3.1) ((D9 (J I v3.1 0,J ae.str cA (ad+v1),())).bind fun v6 =>cond (v6.1==0) (cond ((((v2.2-v2.1):Nat):Int)==0) (some ((an,J ae.str cA (ad+v1),0,2,()),())) (some ((0,([]:List UInt8),0,2,()),()))) ((fm (U,v6.1,())).bind fun bt =>cond (!List.isEmpty bt.1) (cond ((J I bt.1 0).2.1==3) (cond (!((((v2.2-v2.1):Nat):Int)==0)) (cond (aB==8) (some ((0,([]:List UInt8),0,40,()),())) (cond (!List.isEmpty bt.1) ((aN (((J I bt.1 0).2.2.2.2.2.1).length) 0).bind fun dn =>cond (((((J I bt.1 0).2.2.2.2.2.1).getD dn 0).toNat:Int)==47) (cond (!List.isEmpty bt.1) ((r4 ((J I bt.1 0).2.2.2.2.2.1,())).bind fun v9 =>cond (room (v9.1.length +(part cA (ad+v2.1) (v2.2-v2.1)).length)) (R9 k3 U aa aB a_ bP (v9.1++(part cA (ad+v2.1) (v2.2-v2.1)))) (none)) (none)) (cond (!List.isEmpty bt.1) ((r4 ((J I bt.1 0).2.2.2.2.2.1,())).bind fun v11 =>cond (room (v11.1.length +(part cA (ad+v2.1) (v2.2-v2.1)).length)) (R_ k3 U aa an aB a_ bP (v11.1++(part cA (ad+v2.1) (v2.2-v2.1)))) (none)) (none))) (none))) (cond aa (cond (aB==8) (some ((0,([]:List UInt8),0,40,()),())) (cond (!List.isEmpty bt.1) ((aN (((J I bt.1 0).2.2.2.2.2.1).length) 0).bind fun jy =>cond (((((J I bt.1 0).2.2.2.2.2.1).getD jy 0).toNat:Int)==47) (cond (!List.isEmpty bt.1) ((r4 ((J I bt.1 0).2.2.2.2.2.1,())).bind fun mg =>cond (room (mg.1.length +(part cA (ad+v2.1) (v2.2-v2.1)).length)) (R' k3 U aa aB a_ bP (mg.1++(part cA (ad+v2.1) (v2.2-v2.1)))) (none)) (none)) (cond (!List.isEmpty bt.1) ((r4 ((J I bt.1 0).2.2.2.2.2.1,())).bind fun od =>cond (room (od.1.length +(part cA (ad+v2.1) (v2.2-v2.1)).length)) (Sa k3 U aa an aB a_ bP (od.1++(part cA (ad+v2.1) (v2.2-v2.1)))) (none)) (none))) (none))) (cond ((((v2.2-v2.1):Nat):Int)==0) (some ((an,J ae.str cA (ad+v1),v6.1,0,()),())) (cond (!List.isEmpty bt.1) (cond ((J I bt.1 0).2.1 != 2) (some ((0,([]:List UInt8),0,20,()),())) (k3 U aa (ad+v2.1) (v2.2-v2.1) v6.1 aB a_ bP cA)) (none))))) (cond ((((v2.2-v2.1):Nat):Int)==0) (some ((an,J ae.str cA (ad+v1),v6.1,0,()),())) (cond (!List.isEmpty bt.1) (cond ((J I bt.1 0).2.1 != 2) (some ((0,([]:List UInt8),0,20,()),())) (k3 U aa (ad+v2.1) (v2.2-v2.1) v6.1 aB a_ bP cA)) (none)))) (none))) (none)))))) (none)) (some ((0,([]:List UInt8),an,0,()),()))
def f_:Nat→r5 | 0,_,_,_,_,_,_,_,_,_=>none | m+1,U,aa,ad,ai,an,aB,a_,bP,cA=>lC (f_ m) U aa ad ai an aB a_ bP cA
def KC(x:af.D×aH.D×(List UInt8)×Bool×Unit):Option (aJ.D×Unit):=Eg (f_ aR) x.1 x.2.1 x.2.2.1 x.2.2.2.1
def qB(a1:aI.D)(a2:List UInt8)(a3:Bool):Option (aJ.D×Unit) :=(Kr (a2,())).bind fun v1 =>cond (!v1.1) (some ((0,([]:List UInt8),0,22,()),())) ((KC (a1.1,a1.2.1,a2,a3,())).bind fun v2 =>some (v2.1,()))
def kH(x:aI.D×(List UInt8)×Bool×Unit):Option (aJ.D×Unit):=qB x.1 x.2.1 x.2.2.1
def zh(a1:aI.D)(a2:List UInt8):Option (aJ.D×Int×Unit) :=(kH (a1,a2,false,())).bind fun v1 =>cond (v1.1.2.2.2.1==2) (cond (!(br v1.1.2.1 ([]:List UInt8))) (some (v1.1,0,())) (cond (v1.1.2.2.2.1==0) (some (v1.1,17,())) (some (v1.1,v1.1.2.2.2.1,())))) (cond (v1.1.2.2.2.1==0) (some (v1.1,17,())) (some (v1.1,v1.1.2.2.2.1,())))
def uE(x:aI.D×(List UInt8)×Unit):Option (aJ.D×Int×Unit):=zh x.1 x.2.1
def KD(a1:aI.D)(a2:Int):Option (Bool×Unit) :=(fm (a1.1,a2,())).bind fun v1 =>cond (!List.isEmpty v1.1) ((pf (a1.2.1,J I v1.1 0,3,())).bind fun v2 =>some (v2.1,())) (none)
def nc(x:aI.D×Int×Unit):Option (Bool×Unit):=KD x.1 x.2.1
def Sb(x:(List aw.D)×Int×(List aw.D)×Unit):Option ((List aw.D)×Unit):=insF x.1 x.2.1 x.2.2.1
structure uF where
 k2:(List UInt8)→Int→Int→Int→aI.D→Option (aI.D×Unit)
 bh:(List UInt8)→Int→Int→Int→aI.D→Option (aI.D×Unit)
def Eh(k:uF)(a1:aI.D)(a2:Int)(a3:List UInt8)(a4:Int):Option (aI.D×Unit) :=(wH (a1.1,a2,())).bind fun v1 =>k.k2 a3 a4 v1.1 0 (v1.2.1,a1.2.1,a1.2.2.1,())
def zi(k:uF)(U:List UInt8)(aa:Int)(ad:Int)(ai:Int)(an:aI.D):Option (aI.D×Unit) :=(aN an.1.2.1.length ad).bind fun v1 =>cond (decide (ai<(((J I an.1.2.1 v1).2.2.2.2.2.2.1).length:Int))) ((aN an.1.2.1.length ad).bind fun v2 =>(aN (((J I an.1.2.1 v2).2.2.2.2.2.2.1).length) ai).bind fun v3 =>cond (du ((J aw ((J I an.1.2.1 v2).2.2.2.2.2.2.1) v3).1) U) (k.k2 U aa ad (aG (ai+1)) an) (k.bh U aa ad ai an)) (k.bh U aa ad ai an)
def abo(an:aI.D)(v4:List I.D):Option (aI.D×Unit) :=some (((an.1.1,v4,()),an.2.1,an.2.2.1,()),())
def KE(k:uF)(U:List UInt8)(aa:Int)(ad:Int)(ai:Int)(an:aI.D):Option (aI.D×Unit) :=(aN an.1.2.1.length ad).bind fun v1 =>(aN an.1.2.1.length ad).bind fun v2 =>cond (Nat.beq v2 v1) ((Sb ((J I an.1.2.1 v1).2.2.2.2.2.2.1,ai,[(U,aa,())],())).bind fun v3 =>abo an (an.1.2.1.set v1 ((J I an.1.2.1 v1).1,(J I an.1.2.1 v1).2.1,(J I an.1.2.1 v1).2.2.1,(J I an.1.2.1 v1).2.2.2.1,(J I an.1.2.1 v1).2.2.2.2.1,(J I an.1.2.1 v1).2.2.2.2.2.1,v3.1,(J I an.1.2.1 v1).2.2.2.2.2.2.2.1,(J I an.1.2.1 v1).2.2.2.2.2.2.2.2.1,()))) (none)
def Sc(k:uF):uF:=⟨zi k,KE k⟩
def r6:Nat→uF:=eH Sc ⟨fun _ _ _ _ _=>none,fun _ _ _ _ _=>none⟩
def r7(x:aI.D×Int×(List UInt8)×Int×Unit):Option (aI.D×Unit):=Eh (r6 aR) x.1 x.2.1 x.2.2.1 x.2.2.2.1
def KF(a1:aI.D):Option (Int×Unit) :=(r0 (a1.1,())).bind fun v1 =>cond (decide (v1.1>400)) (some (28,())) ((ze (a1.1.2.1,a1.1,())).bind fun v2 =>cond v2.1 (some (122,())) (some (0,())))
def nd(x:aI.D×Unit):Option (Int×Unit):=KF x.1
structure uG where
 bh:aI.D→aK.D→Option (Int×aI.D×Unit)
 g_:aI.D→aJ.D→I.D→Option (Int×aI.D×Unit)
def Ei(k:uG)(a1:aI.D):Option (Int×aI.D×Unit) :=cond (a1.2.2.1.1==10) ((wG (a1.2.2.1.2.2.1,())).bind fun v1 =>cond (!v1.1) (some (22,a1,())) (cond (a1.2.2.1.1 != 10) ((eI (a1.2.2.1.2.2.2.1,0,2047,())).bind fun v2 =>cond (!v2.1) (some (22,a1,())) (k.bh a1 a1.2.2.1)) (k.bh a1 a1.2.2.1))) (cond (a1.2.2.1.1 != 10) ((eI (a1.2.2.1.2.2.2.1,0,2047,())).bind fun v3 =>cond (!v3.1) (some (22,a1,())) (k.bh a1 a1.2.2.1)) (k.bh a1 a1.2.2.1))
def KG(k:uG)(U:aI.D)(aa:aK.D):Option (Int×aI.D×Unit) :=(uE (U,aa.2.1,())).bind fun v1 =>cond (v1.2.1 != 0) (some (v1.2.1,U,())) ((nc (U,v1.1.1,())).bind fun v2 =>cond (!v2.1) (some (13,U,())) ((fm (U.1,v1.1.1,())).bind fun v3 =>cond (!List.isEmpty v3.1) (cond ((((J I v3.1 0).2.2.2.2.2.2.1).length:Int)==12) (some (28,U,())) (cond ((U.1.2.1.length:Int)==24) (some (28,U,())) (cond (U.1.1==100000) (some (28,U,())) (cond (!List.isEmpty v3.1) (cond (cN .and .i64 ((J I v3.1 0).2.2.1) 1024 != 0) (cond (!List.isEmpty v3.1) (cond (aa.1==1) (cond (!List.isEmpty v3.1) (k.g_ U v1.1 (U.1.1,2,cN .or .i64 aa.2.2.2.1 (cN .and .i64 ((J I v3.1 0).2.2.1) 1024),U.2.1.1,(J I v3.1 0).2.2.2.2.1,([]:List UInt8),([]:List aw.D),0,0,())) (none)) (cond (aa.1==10) (k.g_ U v1.1 (U.1.1,3,511,U.2.1.1,(J I v3.1 0).2.2.2.2.1,aa.2.2.1,([]:List aw.D),0,0,())) (k.g_ U v1.1 (U.1.1,1,aa.2.2.2.1,U.2.1.1,(J I v3.1 0).2.2.2.2.1,([]:List UInt8),([]:List aw.D),0,0,())))) (none)) (cond (aa.1==1) (cond (!List.isEmpty v3.1) (k.g_ U v1.1 (U.1.1,2,cN .or .i64 aa.2.2.2.1 (cN .and .i64 ((J I v3.1 0).2.2.1) 1024),U.2.1.1,U.2.1.2.1,([]:List UInt8),([]:List aw.D),0,0,())) (none)) (cond (aa.1==10) (k.g_ U v1.1 (U.1.1,3,511,U.2.1.1,U.2.1.2.1,aa.2.2.1,([]:List aw.D),0,0,())) (k.g_ U v1.1 (U.1.1,1,aa.2.2.2.1,U.2.1.1,U.2.1.2.1,([]:List UInt8),([]:List aw.D),0,0,()))))) (none))))) (none)))
def KH(k:uG)(U:aI.D)(aa:aJ.D)(ad:I.D):Option (Int×aI.D×Unit) :=(r7 (((aG (U.1.1+1),U.1.2.1,()),U.2.1,U.2.2.1,()),aa.1,aa.2.1,ad.1,())).bind fun v1 =>cond (room (v1.1.1.2.1.length+[ad].length)) ((nd (((v1.1.1.1,v1.1.1.2.1++[ad],()),v1.1.2.1,v1.1.2.2.1,()),())).bind fun v2 =>some (v2.1,((v1.1.1.1,v1.1.1.2.1++[ad],()),v1.1.2.1,v1.1.2.2.1,()),())) (none)
def Sd(k:uG):uG:=⟨KG k,KH k⟩
def kI:Nat→uG:=eH Sd ⟨fun _ _=>none,fun _ _ _=>none⟩
def zj(x:aI.D×Unit):Option (Int×aI.D×Unit):=Ei (kI aR) x.1
def KI(a1:aH.D)(a2:I.D)(a3:I.D):Option (Bool×Unit) :=(wL (a1,())).bind fun v1 =>cond v1.1 (cond (cN .and .i64 a2.2.2.1 512==0) (some (true,())) (cond (a1.1==0) (some (true,())) (cond (a1.1==a2.2.2.2.1) (some (true,())) (some (a1.1==a3.2.2.2.1,()))))) (some (false,()))
def r8(x:aH.D×I.D×I.D×Unit):Option (Bool×Unit):=KI x.1 x.2.1 x.2.2.1
def abp(a1:aw.D)(a2:List UInt8):Option (Bool×Unit) :=some (br a1.1 a2,())
def Ej(x:aw.D×(List UInt8)×Unit):Option (Bool×Unit):=abp x.1 x.2.1
abbrev Ek:Type:=(List aw.D)→(List UInt8)→Int→Int→Option (Int×Unit)
def Se(k2:Ek)(a1:List aw.D)(a2:List UInt8):Option (Int×Unit) :=k2 a1 a2 (a1.length:Int) 0
def El(k2:Ek)(U:List aw.D)(aa:List UInt8)(ad:Int)(ai:Int):Option (Int×Unit) :=cond (decide (ai<ad)) ((aN U.length ai).bind fun v1 =>(Ej (J aw U v1,aa,())).bind fun v2 =>cond v2.1 (some (ai,())) (k2 U aa ad (aG (ai+1)))) (some ((-1),()))
def wN:Nat→Ek | 0,_,_,_,_=>none | m+1,U,aa,ad,ai=>El (wN m) U aa ad ai
def KJ(x:(List aw.D)×(List UInt8)×Unit):Option (Int×Unit):=Se (wN aR) x.1 x.2.1
abbrev wO:Type:=(List aw.D)×Unit
abbrev Em:Type:=(List UInt8)→Int→Int→(List aw.D)→Option (wO)
def En(bu:Em)(a1:List aw.D)(a2:List UInt8):Option (wO) :=(KJ (a1,a2,())).bind fun v1 =>cond (v1.1 ==(-1)) (some (a1,())) (bu a2 v1.1 (aG (v1.1+1)) a1)
def Sf(aa:Int)(v5:List aw.D):Option (wO) :=(dZ v5.length 0 aa).bind fun v6 =>some (part v5 (0+v6.1) (v6.2-v6.1),())
def Eo(bu:Em)(U:List UInt8)(aa:Int)(ad:Int)(ai:List aw.D):Option (wO) :=cond (decide (ad<(ai.length:Int))) ((aN ai.length ad).bind fun v1 =>(Ej (J aw ai (0+v1),U,())).bind fun v2 =>cond (!v2.1) ((aN ai.length aa).bind fun v3 =>bu U (aG (aa+1)) (aG (ad+1)) (ai.set (0+v3) (J aw ai (0+v1)))) (bu U aa (aG (ad+1)) ai)) ((dZ ai.length aa (ai.length:Int)).bind fun v4 =>Sf aa (ai.take (0+v4.1)++List.replicate (v4.2-v4.1) ((([]:List UInt8),0,()):aw.D)++ai.drop ((0+v4.1) +(v4.2-v4.1))))
def wP:Nat→Em | 0,_,_,_,_=>none | m+1,U,aa,ad,ai=>Eo (wP m) U aa ad ai
def Ep(x:(List aw.D)×(List UInt8)×Unit):Option (wO):=En (wP aR) x.1 x.2.1
def Sg(x:(List I.D)×Int×Unit):Option ((List I.D)×Unit):=cond (room x.1.length) (some (x.1.filter (fun y => !(y.1==x.2.1)),())) none
def KK(a4:Bool)(v1:Int×af.D×Unit)(v3:Int×Unit)(a1:aI.D)(bt:List I.D):Option (aI.D×Unit) :=cond a4 ((wI ((v1.2.1.1,bt,()),v3.1,())).bind fun dn =>cond (dn.1==0) ((Sg (bt,v3.1,())).bind fun v9 =>some (((v1.2.1.1,v9.1,()),a1.2.1,a1.2.2.1,()),())) (some (((v1.2.1.1,bt,()),a1.2.1,a1.2.2.1,()),()))) (some (((v1.2.1.1,bt,()),a1.2.1,a1.2.2.1,()),()))
def KL(a1:aI.D)(a2:Int)(a3:List UInt8)(a4:Bool):Option (aI.D×Unit) :=(wH (a1.1,a2,())).bind fun v1 =>(aN v1.2.1.2.1.length v1.1).bind fun v2 =>(D9 (J I v1.2.1.2.1 v2,a3,())).bind fun v3 =>(aN v1.2.1.2.1.length v1.1).bind fun v4 =>(aN v1.2.1.2.1.length v1.1).bind fun v5 =>cond (Nat.beq v5 v4) ((Ep ((J I v1.2.1.2.1 v4).2.2.2.2.2.2.1,a3,())).bind fun v6 =>KK a4 v1 v3 a1 (v1.2.1.2.1.set v4 ((J I v1.2.1.2.1 v4).1,(J I v1.2.1.2.1 v4).2.1,(J I v1.2.1.2.1 v4).2.2.1,(J I v1.2.1.2.1 v4).2.2.2.1,(J I v1.2.1.2.1 v4).2.2.2.2.1,(J I v1.2.1.2.1 v4).2.2.2.2.2.1,v6.1,(J I v1.2.1.2.1 v4).2.2.2.2.2.2.2.1,(J I v1.2.1.2.1 v4).2.2.2.2.2.2.2.2.1,()))) (none)
def oi(x:aI.D×Int×(List UInt8)×Bool×Unit):Option (aI.D×Unit):=KL x.1 x.2.1 x.2.2.1 x.2.2.2.1
structure qC where
 bu:aI.D→aJ.D→I.D→Option (Int×aI.D×Unit)
 dj:aI.D→aJ.D→I.D→Option (Int×aI.D×Unit)
 fX:aI.D→aJ.D→I.D→Option (Int×aI.D×Unit)
 cR:aI.D→aJ.D→I.D→Option (Int×aI.D×Unit)
def Er(k:qC)(a1:aI.D):Option (Int×aI.D×Unit) :=(kH (a1,a1.2.2.1.2.1,false,())).bind fun v1 =>cond (v1.1.2.2.2.1 != 0) (some (v1.1.2.2.2.1,a1,())) (dup ((fm (a1.1,v1.1.2.2.1,())).bind fun v2 =>cond (!List.isEmpty v2.1) (k.bu a1 v1.1 (J I v2.1 0)) (none)))
def KM(k:qC)(U:aI.D)(aa:aJ.D)(ad:I.D):Option (Int×aI.D×Unit) :=cond (U.2.2.1.1==2) (cond (br aa.2.1 ([]:List UInt8)) (some (16,U,())) (k.dj U aa ad)) (k.dj U aa ad)
def KN(k:qC)(U:aI.D)(aa:aJ.D)(ad:I.D):Option (Int×aI.D×Unit) :=cond (U.2.2.1.1==2) (cond (ad.2.1 != 2) (some (20,U,())) (k.fX U aa ad)) (k.fX U aa ad)
def KO(k:qC)(U:aI.D)(aa:aJ.D)(ad:I.D):Option (Int×aI.D×Unit) :=cond (U.2.2.1.1==8) (cond (ad.2.1==2) (some (21,U,())) (k.cR U aa ad)) (k.cR U aa ad)
def KP(k:qC)(U:aI.D)(aa:aJ.D)(ad:I.D):Option (Int×aI.D×Unit) :=(nc (U,aa.1,())).bind fun v1 =>cond (!v1.1) (some (13,U,())) ((fm (U.1,aa.1,())).bind fun v2 =>cond (!List.isEmpty v2.1) ((r8 (U.2.1,J I v2.1 0,ad,())).bind fun v3 =>cond (!v3.1) (some (1,U,())) (cond (U.2.2.1.1==2) (cond (decide ((ad.2.2.2.2.2.2.1.length:Int)>0)) (some (39,U,())) ((oi (U,aa.1,aa.2.1,true,())).bind fun v4 =>some (0,v4.1,()))) ((oi (U,aa.1,aa.2.1,true,())).bind fun v5 =>some (0,v5.1,())))) (none))
def Sh(k:qC):qC:=⟨KM k,KN k,KO k,KP k⟩
def oj:Nat→qC:=eH Sh ⟨fun _ _ _=>none,fun _ _ _=>none,fun _ _ _=>none,fun _ _ _=>none⟩
def Es(x:aI.D×Unit):Option (Int×aI.D×Unit):=Er (oj aR) x.1
def KQ(a1:af.D)(a2:Int):Option (Bool×Unit) :=(fm (a1,a2,())).bind fun v1 =>cond (!List.isEmpty v1.1) (cond (!List.isEmpty v1.1) (some ((J I v1.1 0).2.1==2,())) (none)) (some (false,()))
def uH(x:af.D×Int×Unit):Option (Bool×Unit):=KQ x.1 x.2.1
def KR(a1:aI.D):Option (Int×aI.D×Unit) :=(kH (a1,a1.2.2.1.2.1,false,())).bind fun v1 =>cond (v1.1.2.2.2.1 != 0) (some (v1.1.2.2.2.1,a1,())) ((uH (a1.1,v1.1.2.2.1,())).bind fun v2 =>cond v2.1 (some (1,a1,())) ((uE (a1,a1.2.2.1.2.2.1,())).bind fun v3 =>cond (v3.2.1 != 0) (some (v3.2.1,a1,())) ((nc (a1,v3.1.1,())).bind fun v4 =>cond (!v4.1) (some (13,a1,())) ((fm (a1.1,v3.1.1,())).bind fun v5 =>cond (!List.isEmpty v5.1) (cond ((((J I v5.1 0).2.2.2.2.2.2.1).length:Int)==12) (some (28,a1,())) ((r7 (a1,v3.1.1,v3.1.2.1,v1.1.2.2.1,())).bind fun v6 =>(nd (v6.1,())).bind fun bt =>some (bt.1,v6.1,()))) (none)))))
def Et(x:aI.D×Unit):Option (Int×aI.D×Unit):=KR x.1
def KS(a1:aI.D)(a2:I.D)(a3:aJ.D):Option (Int×Unit) :=dup ((fm (a1.1,a3.2.2.1,())).bind fun v1 =>cond (!List.isEmpty v1.1) ((fm (a1.1,a3.1,())).bind fun v2 =>cond (!List.isEmpty v2.1) ((r8 (a1.2.1,J I v2.1 0,J I v1.1 0,())).bind fun v3 =>cond (!v3.1) (some (1,())) (cond (a2.2.1==2) (cond ((J I v1.1 0).2.1 != 2) (some (20,())) (cond (a2.2.1==2) (cond (decide ((((J I v1.1 0).2.2.2.2.2.2.1).length:Int)>0)) (some (39,())) (cond (a2.2.1 != 2) (cond ((J I v1.1 0).2.1==2) (some (21,())) (some (0,()))) (some (0,())))) (cond (a2.2.1 != 2) (cond ((J I v1.1 0).2.1==2) (some (21,())) (some (0,()))) (some (0,()))))) (cond (a2.2.1==2) (cond (decide ((((J I v1.1 0).2.2.2.2.2.2.1).length:Int)>0)) (some (39,())) (cond (a2.2.1 != 2) (cond ((J I v1.1 0).2.1==2) (some (21,())) (some (0,()))) (some (0,())))) (cond (a2.2.1 != 2) (cond ((J I v1.1 0).2.1==2) (some (21,())) (some (0,()))) (some (0,())))))) (none)) (none))
def Eu(x:aI.D×I.D×aJ.D×Unit):Option (Int×Unit):=KS x.1 x.2.1 x.2.2.1
structure qD where
 dj:aI.D→aJ.D→aJ.D→Option (Int×aI.D×Unit)
 fi:aI.D→aJ.D→aJ.D→I.D→Option (Int×aI.D×Unit)
 mc:aI.D→aJ.D→aJ.D→I.D→Option (Int×aI.D×Unit)
 hS:aI.D→aJ.D→aJ.D→Option (Int×aI.D×Unit)
def Ev(k:qD)(a1:aI.D):Option (Int×aI.D×Unit) :=(kH (a1,a1.2.2.1.2.1,false,())).bind fun v1 =>cond (v1.1.2.2.2.1 != 0) (some (v1.1.2.2.2.1,a1,())) ((kH (a1,a1.2.2.1.2.2.1,false,())).bind fun v2 =>cond (v2.1.2.2.2.1 != 0) (cond (v2.1.2.2.2.1 != 2) (some (v2.1.2.2.2.1,a1,())) (cond (br v2.1.2.1 ([]:List UInt8)) (some (v2.1.2.2.2.1,a1,())) (k.dj a1 v1.1 v2.1))) (k.dj a1 v1.1 v2.1))
def KT(k:qD)(U:aI.D)(aa:aJ.D)(ad:aJ.D):Option (Int×aI.D×Unit) :=cond (br aa.2.1 ([]:List UInt8)) (some (16,U,())) (cond (br ad.2.1 ([]:List UInt8)) (some (16,U,())) (dup ((fm (U.1,aa.2.2.1,())).bind fun v1 =>cond (!List.isEmpty v1.1) (k.fi U aa ad (J I v1.1 0)) (none))))
def KU(k:qD)(U:aI.D)(aa:aJ.D)(ad:aJ.D)(ai:I.D):Option (Int×aI.D×Unit) :=(nc (U,aa.1,())).bind fun v1 =>cond (!v1.1) (some (13,U,())) ((nc (U,ad.1,())).bind fun v2 =>cond (!v2.1) (some (13,U,())) ((fm (U.1,aa.1,())).bind fun v3 =>cond (!List.isEmpty v3.1) ((r8 (U.2.1,J I v3.1 0,ai,())).bind fun v4 =>cond (!v4.1) (some (1,U,())) (cond (ai.2.1==2) (cond (ad.1==aa.2.2.1) (some (22,U,())) ((um (U.1,aa.2.2.1,())).bind fun v5 =>(rZ (v5.1,ad.1,())).bind fun v6 =>cond v6.1 (some (22,U,())) (k.mc U aa ad ai))) (k.mc U aa ad ai))) (none)))
def KV(k:qD)(U:aI.D)(aa:aJ.D)(ad:aJ.D)(ai:I.D):Option (Int×aI.D×Unit) :=cond (ad.2.2.1==aa.2.2.1) (some (0,U,())) (cond (ad.2.2.1 != 0) ((Eu (U,ai,ad,())).bind fun v1 =>cond (v1.1 != 0) (some (v1.1,U,())) ((oi (U,ad.1,ad.2.1,true,())).bind fun v2 =>k.hS v2.1 aa ad)) (cond (aa.1 != ad.1) ((fm (U.1,ad.1,())).bind fun v3 =>cond (!List.isEmpty v3.1) (cond ((((J I v3.1 0).2.2.2.2.2.2.1).length:Int)==12) (some (28,U,())) (k.hS U aa ad)) (none)) (k.hS U aa ad)))
def KW(k:qD)(U:aI.D)(aa:aJ.D)(ad:aJ.D):Option (Int×aI.D×Unit) :=(oi (U,aa.1,aa.2.1,false,())).bind fun v1 =>(r7 (v1.1,ad.1,ad.2.1,aa.2.2.1,())).bind fun v2 =>(nd (v2.1,())).bind fun v3 =>some (v3.1,v2.1,())
def Si(k:qD):qD:=⟨KT k,KU k,KV k,KW k⟩
def iO:Nat→qD:=eH Si ⟨fun _ _ _=>none,fun _ _ _ _=>none,fun _ _ _ _=>none,fun _ _ _=>none⟩
def Ew(x:aI.D×Unit):Option (Int×aI.D×Unit):=Ev (iO aR) x.1
abbrev Sj:Type:=Int×Int×aI.D×Unit
def KX(a1:aI.D)(a2:Bool):Option (Sj) :=(kH (a1,a1.2.2.1.2.1,a2,())).bind fun v1 =>cond (v1.1.2.2.2.1 != 0) (some ((-1),v1.1.2.2.2.1,a1,())) ((wH (a1.1,v1.1.2.2.1,())).bind fun v2 =>some (v2.1,0,(v2.2.1,a1.2.1,a1.2.2.1,()),()))
def mi(x:aI.D×Bool×Unit):Option (Sj):=KX x.1 x.2.1
abbrev Sk:Type:=Int×Int×aI.D×Unit
def zk(a1:aI.D)(a2:Int):Option (Sk) :=(mi (a1,true,())).bind fun v1 =>cond (v1.2.1 != 0) (some ((-1),v1.2.1,v1.2.2.1,())) ((aN v1.2.2.1.1.2.1.length v1.1).bind fun v2 =>cond ((J I v1.2.2.1.1.2.1 v2).2.1==2) (some ((-1),21,v1.2.2.1,())) ((aN v1.2.2.1.1.2.1.length v1.1).bind fun v3 =>(pf (v1.2.2.1.2.1,J I v1.2.2.1.1.2.1 v3,a2,())).bind fun v4 =>cond (!v4.1) (some ((-1),13,v1.2.2.1,())) (some (v1.1,0,v1.2.2.1,()))))
def zl(x:aI.D×Int×Unit):Option (Sk):=zk x.1 x.2.1
abbrev Sl:Type:=aS.D×aI.D×Unit
def KY(a1:aI.D):Option (Sl) :=(zl (a1,4,())).bind fun v1 =>cond (v1.2.1 != 0) ((eR (v1.2.1,())).bind fun v2 =>some (v2.1,v1.2.2.1,())) (cond (decide (v1.2.2.1.2.2.1.2.2.2.1<0)) ((eR (22,())).bind fun v3 =>some (v3.1,v1.2.2.1,())) (cond (decide (v1.2.2.1.2.2.1.2.2.2.2.1<0)) ((eR (22,())).bind fun v4 =>some (v4.1,v1.2.2.1,())) ((aN v1.2.2.1.1.2.1.length v1.1).bind fun v5 =>(aN v1.2.2.1.1.2.1.length v1.1).bind fun v6 =>(dZ (((J I v1.2.2.1.1.2.1 v5).2.2.2.2.2.1).length) (jm v1.2.2.1.2.2.1.2.2.2.1 (((J I v1.2.2.1.1.2.1 v6).2.2.2.2.2.1).length:Int)) (((J I v1.2.2.1.1.2.1 v5).2.2.2.2.2.1).length:Int)).bind fun bt =>(dZ ((part ((J I v1.2.2.1.1.2.1 v5).2.2.2.2.2.1) bt.1 (bt.2-bt.1)).length) 0 (jm v1.2.2.1.2.2.1.2.2.2.2.1 (((part ((J I v1.2.2.1.1.2.1 v5).2.2.2.2.2.1) bt.1 (bt.2-bt.1)).length:Nat):Int))).bind fun dn =>some ((0,part (part ((J I v1.2.2.1.1.2.1 v5).2.2.2.2.2.1) bt.1 (bt.2-bt.1)) dn.1 (dn.2-dn.1),()),v1.2.2.1,()))))
def Ex(x:aI.D×Unit):Option (Sl):=KY x.1
def strings_Repeat(x:(List UInt8)×Int×Unit):Option ((List UInt8)×Unit):=repF x.1 x.2.1
def KZ(a1:List UInt8)(a2:Int):Option ((List UInt8)×Unit) :=cond (decide ((a1.length:Int)≥a2)) ((dZ a1.length 0 a2).bind fun v1 =>some (part a1 v1.1 (v1.2-v1.1),())) ((strings_Repeat (([0]:List UInt8),aG (a2-(a1.length:Int)),())).bind fun v2 =>cond (room (a1.length+v2.1.length)) (some (a1++v2.1,())) (none))
def Ey(x:(List UInt8)×Int×Unit):Option ((List UInt8)×Unit):=KZ x.1 x.2.1
structure r9 where
 dj:Int→Int→aI.D→Option (Int×aI.D×Unit)
 cR:Int→Int→aI.D→Option (Int×aI.D×Unit)
 fc:Int→(List UInt8)→aI.D→Option (Int×aI.D×Unit)
def Ez(k:r9)(a1:aI.D):Option (Int×aI.D×Unit) :=(zl (a1,2,())).bind fun v1 =>cond (v1.2.1 != 0) (some (v1.2.1,v1.2.2.1,())) (cond (v1.2.2.1.2.2.1.1==6) ((aN v1.2.2.1.1.2.1.length v1.1).bind fun v2 =>k.dj v1.1 (((J I v1.2.2.1.1.2.1 v2).2.2.2.2.2.1).length:Int) v1.2.2.1) (k.dj v1.1 v1.2.2.1.2.2.1.2.2.2.1 v1.2.2.1))
def K0(k:r9)(U:Int)(aa:Int)(ad:aI.D):Option (Int×aI.D×Unit) :=cond (decide (aa<0)) (some (22,ad,())) (cond (ad.2.2.1.1 != 7) (cond (br ad.2.2.1.2.2.2.2.2.1 ([]:List UInt8)) (some (0,ad,())) (k.cR U aa ad)) (k.cR U aa ad))
def K1(k:r9)(U:Int)(aa:Int)(ad:aI.D):Option (Int×aI.D×Unit) :=cond (decide (aG (aa +(ad.2.2.1.2.2.2.2.2.1.length:Int))>64)) (some (27,ad,())) ((aN ad.1.2.1.length U).bind fun v1 =>(Ey ((J I ad.1.2.1 v1).2.2.2.2.2.1,aa,())).bind fun v2 =>cond (ad.2.2.1.1 != 7) (cond (room (v2.1.length+ad.2.2.1.2.2.2.2.2.1.length)) ((aN ad.1.2.1.length U).bind fun v3 =>cond (decide ((((J I ad.1.2.1 v3).2.2.2.2.2.1).length:Int) >((v2.1++ad.2.2.1.2.2.2.2.2.1).length:Int))) ((aN ad.1.2.1.length U).bind fun v4 =>(dZ (((J I ad.1.2.1 v4).2.2.2.2.2.1).length) ((v2.1++ad.2.2.1.2.2.2.2.2.1).length:Int) (((J I ad.1.2.1 v4).2.2.2.2.2.1).length:Int)).bind fun v5 =>cond (room ((v2.1++ad.2.2.1.2.2.2.2.2.1).length +(part ((J I ad.1.2.1 v4).2.2.2.2.2.1) v5.1 (v5.2-v5.1)).length)) (k.fc U ((v2.1++ad.2.2.1.2.2.2.2.2.1)++(part ((J I ad.1.2.1 v4).2.2.2.2.2.1) v5.1 (v5.2-v5.1))) ad) (none)) (k.fc U (v2.1++ad.2.2.1.2.2.2.2.2.1) ad)) (none)) (k.fc U v2.1 ad))
def abq(ad:aI.D)(v2:List I.D):Option (Int×aI.D×Unit) :=(nd (((ad.1.1,v2,()),ad.2.1,ad.2.2.1,()),())).bind fun v3 =>some (v3.1,((ad.1.1,v2,()),ad.2.1,ad.2.2.1,()),())
def K2(k:r9)(U:Int)(aa:List UInt8)(ad:aI.D):Option (Int×aI.D×Unit) :=(aN ad.1.2.1.length U).bind fun v1 =>abq ad (ad.1.2.1.set v1 ((J I ad.1.2.1 v1).1,(J I ad.1.2.1 v1).2.1,(J I ad.1.2.1 v1).2.2.1,(J I ad.1.2.1 v1).2.2.2.1,(J I ad.1.2.1 v1).2.2.2.2.1,aa,(J I ad.1.2.1 v1).2.2.2.2.2.2.1,(J I ad.1.2.1 v1).2.2.2.2.2.2.2.1,(J I ad.1.2.1 v1).2.2.2.2.2.2.2.2.1,()))
def Sm(k:r9):r9:=⟨K0 k,K1 k,K2 k⟩
def gj:Nat→r9:=eH Sm ⟨fun _ _ _=>none,fun _ _ _=>none,fun _ _ _=>none⟩
def EA(x:aI.D×Unit):Option (Int×aI.D×Unit):=Ez (gj aR) x.1
abbrev Sn:Type:=aS.D×aI.D×Unit
def K3(a1:aI.D):Option (Sn) :=(mi (a1,false,())).bind fun v1 =>cond (v1.2.1 != 0) ((eR (v1.2.1,())).bind fun v2 =>some (v2.1,v1.2.2.1,())) ((aN v1.2.2.1.1.2.1.length v1.1).bind fun v3 =>cond ((J I v1.2.2.1.1.2.1 v3).2.1 != 3) ((eR (22,())).bind fun v4 =>some (v4.1,v1.2.2.1,())) ((aN v1.2.2.1.1.2.1.length v1.1).bind fun v5 =>some ((0,(J I v1.2.2.1.1.2.1 v5).2.2.2.2.2.1,()),v1.2.2.1,())))
def EB(x:aI.D×Unit):Option (Sn):=K3 x.1
def strings_Join(x:(List (List UInt8))×(List UInt8)×Unit):Option ((List UInt8)×Unit):=joinF x.1 x.2.1
structure uI where
 bh:Int→(List UInt8)→Int→Option ((List UInt8)×Unit)
 dj:Int→(List UInt8)→Int→Int→Option ((List UInt8)×Unit)
def So(k:uI)(a1:Int):Option ((List UInt8)×Unit) :=k.bh a1 ([]:List UInt8) a1
def K4(k:uI)(U:Int)(aa:List UInt8)(ad:Int):Option ((List UInt8)×Unit) :=cond (decide (Int.tmod ad 10<0)) (k.dj U aa ad (aG (0-(Int.tmod ad 10)))) (k.dj U aa ad (Int.tmod ad 10))
def K5(k:uI)(U:Int)(aa:List UInt8)(ad:Int)(ai:Int):Option ((List UInt8)×Unit) :=cond (room ((gp [IntKind.wrap .u8 (aG (48+ai))]).length+aa.length)) ((eI (ad,(-9),9,())).bind fun v1 =>cond v1.1 (cond (decide (U<0)) (cond (room (([45]:List UInt8).length +((gp [IntKind.wrap .u8 (aG (48+ai))])++aa).length)) (some (([45]:List UInt8)++((gp [IntKind.wrap .u8 (aG (48+ai))])++aa),())) (none)) (some ((gp [IntKind.wrap .u8 (aG (48+ai))])++aa,()))) (k.bh U ((gp [IntKind.wrap .u8 (aG (48+ai))])++aa) (aG (Int.tdiv ad 10)))) (none)
def Sp(k:uI):uI:=⟨K4 k,K5 k⟩
def mj:Nat→uI:=eH Sp ⟨fun _ _ _=>none,fun _ _ _ _=>none⟩
def zm(x:Int×Unit):Option ((List UInt8)×Unit):=So (mj aR) x.1
abbrev EC:Type:=(List Int)→Int→Int→(List (List UInt8))→Option ((List UInt8)×Unit)
def Sq(k3:EC)(a1:List Int):Option ((List UInt8)×Unit) :=k3 a1 (a1.length:Int) 0 ([]:List (List UInt8))
def ED(k3:EC)(U:List Int)(aa:Int)(ad:Int)(ai:List (List UInt8)):Option ((List UInt8)×Unit) :=cond (decide (ad<aa)) ((aN U.length ad).bind fun v1 =>(zm (J (ae.int .i64) U v1,())).bind fun v2 =>cond (room (ai.length+[v2.1].length)) (k3 U aa (aG (ad+1)) (ai++[v2.1])) (none)) ((strings_Join (ai,([32]:List UInt8),())).bind fun v3 =>some (v3.1,()))
def uJ:Nat→EC | 0,_,_,_,_=>none | m+1,U,aa,ad,ai=>ED (uJ m) U aa ad ai
def qE(x:(List Int)×Unit):Option ((List UInt8)×Unit):=Sq (uJ aR) x.1
abbrev zn:Type:=aS.D×aI.D×Unit
abbrev EE:Type:=(List aw.D)→Int→Int→aS.D→(List (List UInt8))→aI.D→Option (zn)
def EF(mb:EE)(a1:aI.D):Option (zn) :=(mi (a1,true,())).bind fun v1 =>cond (v1.2.1 != 0) ((eR (v1.2.1,())).bind fun v2 =>some (v2.1,v1.2.2.1,())) ((aN v1.2.2.1.1.2.1.length v1.1).bind fun v3 =>cond ((J I v1.2.2.1.1.2.1 v3).2.1 != 2) ((eR (20,())).bind fun v4 =>some (v4.1,v1.2.2.1,())) ((aN v1.2.2.1.1.2.1.length v1.1).bind fun v5 =>(pf (v1.2.2.1.2.1,J I v1.2.2.1.1.2.1 v5,4,())).bind fun v6 =>cond (!v6.1) ((eR (13,())).bind fun bt =>some (bt.1,v1.2.2.1,())) (cond (v1.2.2.1.2.2.1.1==20) ((aN v1.2.2.1.1.2.1.length v1.1).bind fun dn =>(wJ (v1.2.2.1.1,(J I v1.2.2.1.1.2.1 dn).1,())).bind fun v9 =>(aN v1.2.2.1.1.2.1.length v1.1).bind fun v10 =>(aN v1.2.2.1.1.2.1.length v1.1).bind fun v11 =>(qE ([(J I v1.2.2.1.1.2.1 v10).2.2.2.2.2.2.2.1,(J I v1.2.2.1.1.2.1 v11).2.2.2.2.2.2.2.2.1,v9.1,v9.2.1],())).bind fun v12 =>some ((0,v12.1,()),v1.2.2.1,())) ((aN v1.2.2.1.1.2.1.length v1.1).bind fun jy =>mb ((J I v1.2.2.1.1.2.1 jy).2.2.2.2.2.2.1) (((J I v1.2.2.1.1.2.1 jy).2.2.2.2.2.2.1).length:Int) 0 (0,([]:List UInt8),()) ([]:List (List UInt8)) v1.2.2.1))))
def EG(mb:EE)(U:List aw.D)(aa:Int)(ad:Int)(ai:aS.D)(an:List (List UInt8))(aB:aI.D):Option (zn) :=cond (decide (ad<aa)) ((aN U.length ad).bind fun v1 =>cond (room (an.length+[(J aw U v1).1].length)) (mb U aa (aG (ad+1)) ai (an++[(J aw U v1).1]) aB) (none)) ((strings_Join (an,([47]:List UInt8),())).bind fun v2 =>some ((0,v2.1,()),aB,()))
def qF:Nat→EE | 0,_,_,_,_,_,_=>none | m+1,U,aa,ad,ai,an,aB=>EG (qF m) U aa ad ai an aB
def zo(x:aI.D×Unit):Option (zn):=EF (qF aR) x.1
abbrev EH:Type:=af.D→Int→(List aw.D)→Int→Int→Option (Int×Unit)
def EI(bu:EH)(a1:af.D)(a2:I.D):Option (Int×Unit) :=cond (a2.2.1 != 2) ((wI (a1,a2.1,())).bind fun v1 =>some (v1.1,())) (bu a1 2 a2.2.2.2.2.2.2.1 (a2.2.2.2.2.2.2.1.length:Int) 0)
def EJ(bu:EH)(U:af.D)(aa:Int)(ad:List aw.D)(ai:Int)(an:Int):Option (Int×Unit) :=cond (decide (an<ai)) ((aN ad.length an).bind fun v1 =>(uH (U,(J aw ad v1).2.1,())).bind fun v2 =>cond v2.1 (bu U (aG (aa+1)) ad ai (aG (an+1))) (bu U aa ad ai (aG (an+1)))) (some (aa,()))
def r_:Nat→EH | 0,_,_,_,_,_=>none | m+1,U,aa,ad,ai,an=>EJ (r_ m) U aa ad ai an
def EK(x:af.D×I.D×Unit):Option (Int×Unit):=EI (r_ aR) x.1 x.2.1
abbrev Sr:Type:=aS.D×aI.D×Unit
def K6(a1:aI.D):Option (Sr) :=(eI (a1.2.2.1.2.2.2.1,0,1,())).bind fun v1 =>cond (!v1.1) ((eR (22,())).bind fun v2 =>some (v2.1,a1,())) ((mi (a1,a1.2.2.1.2.2.2.1==0,())).bind fun v3 =>cond (v3.2.1 != 0) ((eR (v3.2.1,())).bind fun v4 =>some (v4.1,v3.2.2.1,())) ((aN v3.2.2.1.1.2.1.length v3.1).bind fun v5 =>(aN v3.2.2.1.1.2.1.length v3.1).bind fun v6 =>(aN v3.2.2.1.1.2.1.length v3.1).bind fun bt =>(aN v3.2.2.1.1.2.1.length v3.1).bind fun dn =>(aN v3.2.2.1.1.2.1.length v3.1).bind fun v9 =>(aN v3.2.2.1.1.2.1.length v3.1).bind fun v10 =>(EK (v3.2.2.1.1,J I v3.2.2.1.1.2.1 v9,())).bind fun v11 =>(qE ([(J I v3.2.2.1.1.2.1 v5).2.1,(J I v3.2.2.1.1.2.1 v6).2.2.1,(J I v3.2.2.1.1.2.1 bt).2.2.2.1,(J I v3.2.2.1.1.2.1 dn).2.2.2.2.1,v11.1,(((J I v3.2.2.1.1.2.1 v10).2.2.2.2.2.1).length:Int)],())).bind fun v12 =>some ((0,v12.1,()),v3.2.2.1,())))
def EL(x:aI.D×Unit):Option (Sr):=K6 x.1
abbrev EM:Type:=Int→aI.D→Option (Int×aI.D×Unit)
def EN(ef:EM)(a1:aI.D):Option (Int×aI.D×Unit) :=(eI (a1.2.2.1.2.2.2.1,0,2047,())).bind fun v1 =>cond (!v1.1) (some (22,a1,())) ((mi (a1,true,())).bind fun v2 =>cond (v2.2.1 != 0) (some (v2.2.1,v2.2.2.1,())) (cond (v2.2.2.1.2.1.1 != 0) ((aN v2.2.2.1.1.2.1.length v2.1).bind fun v3 =>cond (v2.2.2.1.2.1.1 !=(J I v2.2.2.1.1.2.1 v3).2.2.2.1) (some (1,v2.2.2.1,())) (ef v2.1 v2.2.2.1)) (ef v2.1 v2.2.2.1)))
def Ss(aa:aI.D)(bt:List I.D):Option (Int×aI.D×Unit) :=some (0,((aa.1.1,bt,()),aa.2.1,aa.2.2.1,()),())
def K7(aa:aI.D)(U:Int)(v2:List I.D):Option (Int×aI.D×Unit) :=cond (aa.2.1.1 != 0) ((aN v2.length U).bind fun v3 =>(uD (aa.2.1,(J I v2 v3).2.2.2.2.1,())).bind fun v4 =>cond (!v4.1) ((aN v2.length U).bind fun v5 =>(aN v2.length U).bind fun v6 =>Ss aa (v2.set v6 ((J I v2 v6).1,(J I v2 v6).2.1,cN .andNot .i64 ((J I v2 v5).2.2.1) 1024,(J I v2 v6).2.2.2.1,(J I v2 v6).2.2.2.2.1,(J I v2 v6).2.2.2.2.2.1,(J I v2 v6).2.2.2.2.2.2.1,(J I v2 v6).2.2.2.2.2.2.2.1,(J I v2 v6).2.2.2.2.2.2.2.2.1,()))) (some (0,((aa.1.1,v2,()),aa.2.1,aa.2.2.1,()),()))) (some (0,((aa.1.1,v2,()),aa.2.1,aa.2.2.1,()),()))
def K8(ef:EM)(U:Int)(aa:aI.D):Option (Int×aI.D×Unit) :=(aN aa.1.2.1.length U).bind fun v1 =>K7 aa U (aa.1.2.1.set v1 ((J I aa.1.2.1 v1).1,(J I aa.1.2.1 v1).2.1,aa.2.2.1.2.2.2.1,(J I aa.1.2.1 v1).2.2.2.1,(J I aa.1.2.1 v1).2.2.2.2.1,(J I aa.1.2.1 v1).2.2.2.2.2.1,(J I aa.1.2.1 v1).2.2.2.2.2.2.1,(J I aa.1.2.1 v1).2.2.2.2.2.2.2.1,(J I aa.1.2.1 v1).2.2.2.2.2.2.2.2.1,()))
def qG:Nat→EM | 0,_,_=>none | m+1,U,aa=>K8 (qG m) U aa
def EO(x:aI.D×Unit):Option (Int×aI.D×Unit):=EN (qG aR) x.1
abbrev EP:Type:=Int→aI.D→Option (Int×aI.D×Unit)
def ER(ef:EP)(a1:aI.D):Option (Int×aI.D×Unit) :=(eI (a1.2.2.1.2.2.2.1,0,1000,())).bind fun v1 =>cond (!v1.1) (some (22,a1,())) ((eI (a1.2.2.1.2.2.2.2.1,0,1000,())).bind fun v2 =>cond (!v2.1) (some (22,a1,())) ((mi (a1,true,())).bind fun v3 =>cond (v3.2.1 != 0) (some (v3.2.1,v3.2.2.1,())) (cond (v3.2.2.1.2.1.1 != 0) ((aN v3.2.2.1.1.2.1.length v3.1).bind fun v4 =>cond (v3.2.2.1.2.1.1 !=(J I v3.2.2.1.1.2.1 v4).2.2.2.1) (some (1,v3.2.2.1,())) ((aN v3.2.2.1.1.2.1.length v3.1).bind fun v5 =>cond (v3.2.2.1.2.2.1.2.2.2.1 !=(J I v3.2.2.1.1.2.1 v5).2.2.2.1) (some (1,v3.2.2.1,())) ((uD (v3.2.2.1.2.1,v3.2.2.1.2.2.1.2.2.2.2.1,())).bind fun v6 =>cond (!v6.1) (some (1,v3.2.2.1,())) (ef v3.1 v3.2.2.1)))) (ef v3.1 v3.2.2.1))))
def St(aa:aI.D)(v4:List I.D):Option (Int×aI.D×Unit) :=some (0,((aa.1.1,v4,()),aa.2.1,aa.2.2.1,()),())
def K9(U:Int)(aa:aI.D)(v2:List I.D):Option (Int×aI.D×Unit) :=(aN v2.length U).bind fun v3 =>St aa (v2.set v3 ((J I v2 v3).1,(J I v2 v3).2.1,(J I v2 v3).2.2.1,(J I v2 v3).2.2.2.1,aa.2.2.1.2.2.2.2.1,(J I v2 v3).2.2.2.2.2.1,(J I v2 v3).2.2.2.2.2.2.1,(J I v2 v3).2.2.2.2.2.2.2.1,(J I v2 v3).2.2.2.2.2.2.2.2.1,()))
def K_(ef:EP)(U:Int)(aa:aI.D):Option (Int×aI.D×Unit) :=(aN aa.1.2.1.length U).bind fun v1 =>K9 U aa (aa.1.2.1.set v1 ((J I aa.1.2.1 v1).1,(J I aa.1.2.1 v1).2.1,(J I aa.1.2.1 v1).2.2.1,aa.2.2.1.2.2.2.1,(J I aa.1.2.1 v1).2.2.2.2.1,(J I aa.1.2.1 v1).2.2.2.2.2.1,(J I aa.1.2.1 v1).2.2.2.2.2.2.1,(J I aa.1.2.1 v1).2.2.2.2.2.2.2.1,(J I aa.1.2.1 v1).2.2.2.2.2.2.2.2.1,()))
def qH:Nat→EP | 0,_,_=>none | m+1,U,aa=>K_ (qH m) U aa
def ES(x:aI.D×Unit):Option (Int×aI.D×Unit):=ER (qH aR) x.1
def K'(a1:aI.D):Option (Int×aI.D×Unit) :=(eI (a1.2.2.1.2.2.2.1,0,7,())).bind fun v1 =>cond (!v1.1) (some (22,a1,())) ((mi (a1,true,())).bind fun v2 =>cond (v2.2.1 != 0) (some (v2.2.1,v2.2.2.1,())) ((aN v2.2.2.1.1.2.1.length v2.1).bind fun v3 =>(pf (v2.2.2.1.2.1,J I v2.2.2.1.1.2.1 v3,v2.2.2.1.2.2.1.2.2.2.1,())).bind fun v4 =>cond (!v4.1) (some (13,v2.2.2.1,())) (some (0,v2.2.2.1,()))))
def ET(x:aI.D×Unit):Option (Int×aI.D×Unit):=K' x.1
def La(v3:Int×Int×aI.D×Unit)(dn:List I.D):Option (Int×aI.D×Unit) :=(nd (((v3.2.2.1.1.1,dn,()),v3.2.2.1.2.1,v3.2.2.1.2.2.1,()),())).bind fun v9 =>some (v9.1,((v3.2.2.1.1.1,dn,()),v3.2.2.1.2.1,v3.2.2.1.2.2.1,()),())
def EU(v3:Int×Int×aI.D×Unit)(v6:List I.D):Option (Int×aI.D×Unit) :=(aN v6.length v3.1).bind fun bt =>La v3 (v6.set bt ((J I v6 bt).1,(J I v6 bt).2.1,(J I v6 bt).2.2.1,(J I v6 bt).2.2.2.1,(J I v6 bt).2.2.2.2.1,(J I v6 bt).2.2.2.2.2.1,(J I v6 bt).2.2.2.2.2.2.1,(J I v6 bt).2.2.2.2.2.2.2.1,v3.2.2.1.2.2.1.2.2.2.2.1,()))
def Lb(a1:aI.D):Option (Int×aI.D×Unit) :=(eI (a1.2.2.1.2.2.2.1,0,400,())).bind fun v1 =>cond (!v1.1) (some (22,a1,())) ((eI (a1.2.2.1.2.2.2.2.1,0,24,())).bind fun v2 =>cond (!v2.1) (some (22,a1,())) (cond (a1.2.1.1 != 0) (some (1,a1,())) ((mi (a1,true,())).bind fun v3 =>cond (v3.2.1 != 0) (some (v3.2.1,v3.2.2.1,())) ((aN v3.2.2.1.1.2.1.length v3.1).bind fun v4 =>cond ((J I v3.2.2.1.1.2.1 v4).2.1 != 2) (some (20,v3.2.2.1,())) ((aN v3.2.2.1.1.2.1.length v3.1).bind fun v5 =>EU v3 (v3.2.2.1.1.2.1.set v5 ((J I v3.2.2.1.1.2.1 v5).1,(J I v3.2.2.1.1.2.1 v5).2.1,(J I v3.2.2.1.1.2.1 v5).2.2.1,(J I v3.2.2.1.1.2.1 v5).2.2.2.1,(J I v3.2.2.1.1.2.1 v5).2.2.2.2.1,(J I v3.2.2.1.1.2.1 v5).2.2.2.2.2.1,(J I v3.2.2.1.1.2.1 v5).2.2.2.2.2.2.1,v3.2.2.1.2.2.1.2.2.2.1,(J I v3.2.2.1.1.2.1 v5).2.2.2.2.2.2.2.2.1,())))))))
def EV(x:aI.D×Unit):Option (Int×aI.D×Unit):=Lb x.1
abbrev jV:Type:=aS.D×aI.D×Unit
structure nf where
 bu:aI.D→aS.D→Option (jV)
 dd:Int→aI.D→aS.D→Option (jV)
 ef:aI.D→aS.D→Option (jV)
 fX:Int→aI.D→aS.D→Option (jV)
 fc:aI.D→aS.D→Option (jV)
 oe:Int→aI.D→aS.D→Option (jV)
 pb:Int→aI.D→aS.D→Option (jV)
def EW(k:nf)(a1:aI.D):Option (jV) :=cond (a1.2.2.1.1==1) (cond (a1.2.2.1.1==1) (k.bu a1 (0,([]:List UInt8),())) (k.dd a1.2.2.1.1 a1 (0,([]:List UInt8),()))) (cond (a1.2.2.1.1==3) (cond (a1.2.2.1.1==3) (k.bu a1 (0,([]:List UInt8),())) (k.dd a1.2.2.1.1 a1 (0,([]:List UInt8),()))) (cond (a1.2.2.1.1==10) (k.bu a1 (0,([]:List UInt8),())) (k.dd a1.2.2.1.1 a1 (0,([]:List UInt8),()))))
def abr(k:nf)(U:aI.D)(aa:aS.D):Option (jV) :=(zj (U,())).bind fun v1 =>(eR (v1.1,())).bind fun v2 =>some (v2.1,v1.2.1,())
def abt(k:nf)(U:Int)(aa:aI.D)(ad:aS.D):Option (jV) :=cond (U==2) (cond (U==2) (k.ef aa ad) (k.fX U aa ad)) (cond (U==8) (k.ef aa ad) (k.fX U aa ad))
def abu(k:nf)(U:aI.D)(aa:aS.D):Option (jV) :=(Es (U,())).bind fun v1 =>(eR (v1.1,())).bind fun v2 =>some (v2.1,v1.2.1,())
def abv(k:nf)(U:Int)(aa:aI.D)(ad:aS.D):Option (jV) :=cond (U==9) ((Et (aa,())).bind fun v1 =>(eR (v1.1,())).bind fun v2 =>some (v2.1,v1.2.1,())) (cond (U==12) ((Ew (aa,())).bind fun v3 =>(eR (v3.1,())).bind fun v4 =>some (v4.1,v3.2.1,())) (cond (U==4) ((Ex (aa,())).bind fun v5 =>some (v5.1,v5.2.1,())) (cond (U==5) (cond (U==5) (k.fc aa ad) (k.oe U aa ad)) (cond (U==6) (cond (U==6) (k.fc aa ad) (k.oe U aa ad)) (cond (U==7) (k.fc aa ad) (k.oe U aa ad))))))
def abw(k:nf)(U:aI.D)(aa:aS.D):Option (jV) :=(EA (U,())).bind fun v1 =>(eR (v1.1,())).bind fun v2 =>some (v2.1,v1.2.1,())
def abx(k:nf)(U:Int)(aa:aI.D)(ad:aS.D):Option (jV) :=cond (U==11) ((EB (aa,())).bind fun v1 =>some (v1.1,v1.2.1,())) (cond (U==13) (cond (U==13) ((zo (aa,())).bind fun v2 =>some (v2.1,v2.2.1,())) (k.pb U aa ad)) (cond (U==20) ((zo (aa,())).bind fun v3 =>some (v3.1,v3.2.1,())) (k.pb U aa ad)))
def aby(k:nf)(U:Int)(aa:aI.D)(ad:aS.D):Option (jV) :=cond (U==14) ((EL (aa,())).bind fun v1 =>some (v1.1,v1.2.1,())) (cond (U==15) ((EO (aa,())).bind fun v2 =>(eR (v2.1,())).bind fun v3 =>some (v3.1,v2.2.1,())) (cond (U==16) ((ES (aa,())).bind fun v4 =>(eR (v4.1,())).bind fun v5 =>some (v5.1,v4.2.1,())) (cond (U==17) ((ET (aa,())).bind fun v6 =>(eR (v6.1,())).bind fun bt =>some (bt.1,v6.2.1,())) (cond (U==18) ((r0 (aa.1,())).bind fun dn =>(qE ([(aa.1.2.1.length:Int),dn.1],())).bind fun v9 =>some ((0,v9.1,()),aa,())) ((EV (aa,())).bind fun v10 =>(eR (v10.1,())).bind fun v11 =>some (v11.1,v10.2.1,()))))))
def Su(k:nf):nf:=⟨abr k,abt k,abu k,abv k,abw k,abx k,aby k⟩
def Lc:Nat→nf:=eH Su ⟨fun _ _=>none,fun _ _ _=>none,fun _ _=>none,fun _ _ _=>none,fun _ _=>none,fun _ _ _=>none,fun _ _ _=>none⟩
def EX(x:aI.D×Unit):Option (jV):=EW (Lc aR) x.1
abbrev Sv:Type:=af.D×aS.D×Unit
def zp(a1:af.D)(a2:aH.D)(a3:aK.D):Option (Sv) :=(wL (a2,())).bind fun v1 =>cond (!v1.1) ((r1 (a1,())).bind fun v2 =>(eR (22,())).bind fun v3 =>some (v2.1,v3.1,())) ((Kp (a3,())).bind fun v4 =>cond (!v4.1) ((r1 (a1,())).bind fun v5 =>(eR (22,())).bind fun v6 =>some (v5.1,v6.1,())) (cond (decide (a3.1>20)) ((r1 (a1,())).bind fun bt =>(eR (22,())).bind fun dn =>some (bt.1,dn.1,())) ((r1 (a1,())).bind fun v9 =>(EX ((v9.1,a2,a3,()),())).bind fun v10 =>cond (v10.1.1 != 0) ((r1 (a1,())).bind fun v11 =>some (v11.1,v10.1,())) (some (v10.2.1.1,v10.1,())))))
def Ld(x:af.D×aH.D×aK.D×Unit):Option (Sv):=zp x.1 x.2.1 x.2.2.1
abbrev Sw:Type:=af.D×aS.D×Unit
def Le(a1:af.D)(a2:aH.D)(a3:aK.D):Option (Sw) :=(wK (a1,())).bind fun v1 =>cond (!v1.1) ((eR (22,())).bind fun v2 =>some ((0,([]:List I.D),()),v2.1,())) ((Ld (a1,a2,a3,())).bind fun v3 =>some (v3.1,v3.2.1,()))
def wQ(x:af.D×aH.D×aK.D×Unit):Option (Sw):=Le x.1 x.2.1 x.2.2.1
def Lf(a1:af.D)(a2:Int):Option (Int×Unit) :=(fm (a1,a2,())).bind fun v1 =>cond (!List.isEmpty v1.1) ((wK (a1,())).bind fun v2 =>cond v2.1 (cond (!List.isEmpty v1.1) ((EK (a1,J I v1.1 0,())).bind fun v3 =>some (v3.1,())) (none)) (some (0,()))) (some (0,()))
def abz(x:af.D×Int×Unit):Option (Int×Unit):=Lf x.1 x.2.1
structure uK where
 bh:Int→af.D→af.D→Option (Bool×Unit)
 cR:Int→Int→af.D→af.D→I.D→I.D→Option (Bool×Unit)
def EY(k:uK)(a1:af.D)(a2:af.D):Option (Bool×Unit) :=cond (a1.1 != a2.1) (some (false,())) (cond ((a1.2.1.length:Int) !=(a2.2.1.length:Int)) (some (false,())) (k.bh 0 a1 a2))
def zq(k:uK)(U:Int)(aa:af.D)(ad:af.D):Option (Bool×Unit) :=cond (decide (U<(aa.2.1.length:Int))) ((aN aa.2.1.length U).bind fun v1 =>(aN ad.2.1.length U).bind fun v2 =>cond ((J I aa.2.1 v1).1 !=(J I ad.2.1 v2).1) (some (false,())) (cond ((J I aa.2.1 v1).2.1 !=(J I ad.2.1 v2).2.1) (some (false,())) (cond ((J I aa.2.1 v1).2.2.1 !=(J I ad.2.1 v2).2.2.1) (some (false,())) (cond ((J I aa.2.1 v1).2.2.2.1 !=(J I ad.2.1 v2).2.2.2.1) (some (false,())) (cond ((J I aa.2.1 v1).2.2.2.2.1 !=(J I ad.2.1 v2).2.2.2.2.1) (some (false,())) (cond (!(br ((J I aa.2.1 v1).2.2.2.2.2.1) ((J I ad.2.1 v2).2.2.2.2.2.1))) (some (false,())) (cond ((J I aa.2.1 v1).2.2.2.2.2.2.2.1 !=(J I ad.2.1 v2).2.2.2.2.2.2.2.1) (some (false,())) (cond ((J I aa.2.1 v1).2.2.2.2.2.2.2.2.1 !=(J I ad.2.1 v2).2.2.2.2.2.2.2.2.1) (some (false,())) (cond ((((J I aa.2.1 v1).2.2.2.2.2.2.1).length:Int) !=(((J I ad.2.1 v2).2.2.2.2.2.2.1).length:Int)) (some (false,())) (k.cR U 0 aa ad (J I aa.2.1 v1) (J I ad.2.1 v2))))))))))) (some (true,()))
def abA(k:uK)(U:Int)(aa:Int)(ad:af.D)(ai:af.D)(an:I.D)(aB:I.D):Option (Bool×Unit) :=cond (decide (aa<(an.2.2.2.2.2.2.1.length:Int))) ((aN an.2.2.2.2.2.2.1.length aa).bind fun v1 =>(aN aB.2.2.2.2.2.2.1.length aa).bind fun v2 =>cond (!(br ((J aw an.2.2.2.2.2.2.1 v1).1) ((J aw aB.2.2.2.2.2.2.1 v2).1)&&(((J aw an.2.2.2.2.2.2.1 v1).2.1 ==(J aw aB.2.2.2.2.2.2.1 v2).2.1)&&true))) (some (false,())) (k.cR U (aG (aa+1)) ad ai an aB)) (k.bh (aG (U+1)) ad ai)
def Sx(k:uK):uK:=⟨zq k,abA k⟩
def ph:Nat→uK:=eH Sx ⟨fun _ _ _=>none,fun _ _ _ _ _ _=>none⟩
def Lg(x:af.D×af.D×Unit):Option (Bool×Unit):=EY (ph aR) x.1 x.2.1
def Lh(a1:af.D)(a2:Int):Option (Int×Int×Unit) :=(wK (a1,())).bind fun v1 =>cond (!v1.1) (some (0,0,())) ((uH (a1,a2,())).bind fun v2 =>cond (!v2.1) (some (0,0,())) ((wJ (a1,a2,())).bind fun v3 =>some (v3.1,v3.2.1,())))
def abB(x:af.D×Int×Unit):Option (Int×Int×Unit):=Lh x.1 x.2.1
def Li(a1:af.D)(a2:Int):Option (Int×Unit) :=(wK (a1,())).bind fun v1 =>cond (!v1.1) (some (0,())) ((uH (a1,a2,())).bind fun v2 =>cond (!v2.1) (some (0,())) ((D5 (a1,a2,())).bind fun v3 =>some (v3.1,())))
def abC(x:af.D×Int×Unit):Option (Int×Unit):=Li x.1 x.2.1
abbrev Sy:Type:=af.D×aS.D×Unit
def Lj(a1:af.D)(a2:aH.D)(a3:aK.D):Option (Sy) :=(y_ (a1,())).bind fun v1 =>cond (!v1.1) (some ((0,([]:List I.D),()),(22,([]:List UInt8),()),())) ((tA (a2,())).bind fun v2 =>cond (!v2.1) ((lz (a1,())).bind fun v3 =>some (v3.1,(22,([]:List UInt8),()),())) (both ((lz (a1,())).bind fun v4 =>both ((m8 (v4.1,a2,a3,())).bind fun v5 =>dup (some (v5.1,v5.2.1,()))) (dup (dup ((m8 (v4.1,a2,a3,())).bind fun v5 =>some (v5.1,v5.2.1,()))))) (dup (both ((lz (a1,())).bind fun v4 =>dup ((m8 (v4.1,a2,a3,())).bind fun v5 =>some (v5.1,v5.2.1,()))) ((lz (a1,())).bind fun v4 =>(m8 (v4.1,a2,a3,())).bind fun v5 =>some (v5.1,v5.2.1,()))))))
def wR(x:af.D×aH.D×aK.D×Unit):Option (Sy):=Lj x.1 x.2.1 x.2.2.1
def abD  : Option (aH.D×Unit) :=some ((0,0,([]:List Int),()),())
def ng(x:Unit):Option (aH.D×Unit):=abD
abbrev Sz:Type:=af.D×aH.D×(List UInt8)×Bool×Unit
def Lk(a1:List Int):Option (Sz) :=(B_ (a1,())).bind fun v1 =>(Dg (a1,50,())).bind fun v2 =>(Df (v1.1,v2.1,())).bind fun v3 =>(Dh (v3.2.1,())).bind fun v4 =>(t_ (v4.2.1,v3.1,())).bind fun v5 =>(qj (v5.2.1,2,())).bind fun v6 =>some (v3.1,v4.1,v5.1,v6.1,())
def EZ(x:(List Int)×Unit):Option (Sz):=Lk x.1
abbrev zr:Type:=(List Int)→Int→Int→(List Int)→Option ((List Int)×Unit)
def SA(k3:zr)(a1:List Int)(a2:Int):Option ((List Int)×Unit) :=k3 a1 a2 0 [IntKind.wrap .u8 (a2)]
def SB(k3:zr)(U:List Int)(aa:Int)(ad:Int)(v2:List Int):Option ((List Int)×Unit) :=k3 U aa (aG (ad+1)) v2
def wS(k3:zr)(U:List Int)(aa:Int)(ad:Int)(ai:List Int):Option ((List Int)×Unit) :=cond (decide (ad<(U.length:Int))) (cond (decide (ad<600)) ((aN U.length ad).bind fun v1 =>cond (room (ai.length+[IntKind.wrap .u8 (aG (aG ((aG (J (ae.int .u8) U v1))*3)+aG (aa*(aG (Int.tmod ad 7+1)))))].length)) (SB k3 U aa ad (ai++[IntKind.wrap .u8 (aG (aG ((aG (J (ae.int .u8) U v1))*3)+aG (aa*(aG (Int.tmod ad 7+1)))))])) (none)) (some (ai,()))) (some (ai,()))
def wT:Nat→zr | 0,_,_,_,_=>none | m+1,U,aa,ad,ai=>wS (wT m) U aa ad ai
def Ll(x:(List Int)×Int×Unit):Option ((List Int)×Unit):=SA (wT aR) x.1 x.2.1
def Lm(a1:af.D)(a2:aH.D)(a3:List UInt8)(a4:Bool):Option (aJ.D×Unit) :=(y_ (a1,())).bind fun v1 =>cond (!v1.1) (some ((0,([]:List UInt8),0,22,()),())) ((tA (a2,())).bind fun v2 =>cond (!v2.1) (some ((0,([]:List UInt8),0,22,()),())) ((yC (a3,())).bind fun v3 =>cond (!v3.1) (some ((0,([]:List UInt8),0,22,()),())) ((yH (a1,a2,a3,a4,())).bind fun v4 =>some (v4.1,()))))
def wU(x:af.D×aH.D×(List UInt8)×Bool×Unit):Option (aJ.D×Unit):=Lm x.1 x.2.1 x.2.2.1 x.2.2.2.1
structure ml where
 fX:(List UInt8)→(List UInt8)→af.D→aJ.D→Option (Bool×Unit)
 fi:(List UInt8)→(List UInt8)→af.D→aJ.D→aJ.D→Option (Bool×Unit)
 cR:(List UInt8)→(List UInt8)→af.D→aJ.D→aJ.D→af.D→aS.D→Option (Bool×Unit)
 jT:af.D→aJ.D→aJ.D→af.D→aS.D→aS.D→Option (Bool×Unit)
 rJ:af.D→af.D→aS.D→Option (Bool×Unit)
 fc:Bool→Int→af.D→aJ.D→aJ.D→af.D→Option (Bool×Unit)
 rI:Bool→Int→Int→af.D→aJ.D→aJ.D→af.D→Option (Bool×Unit)
 hS:Bool→Int→Int→af.D→aJ.D→aJ.D→af.D→aw.D→Option (Bool×Unit)
def E0(k:ml)(a1:List Int):Option (Bool×Unit) :=(Jd (a1,())).bind fun v1 =>cond v1.1 (some (true,())) ((J8 (a1,())).bind fun v2 =>(EZ (a1,())).bind fun v3 =>(Ll (a1,4,())).bind fun v4 =>(EZ (v4.1,())).bind fun v5 =>(y_ (v2.1,())).bind fun v6 =>cond (!v6.1) (some (true,())) (both ((ng ()).bind fun bt =>dup ((wU (v2.1,bt.1,v3.2.2.1,false,())).bind fun dn =>k.fX v3.2.2.1 v5.2.2.1 v2.1 dn.1)) ((ng ()).bind fun bt =>(wU (v2.1,bt.1,v3.2.2.1,false,())).bind fun dn =>k.fX v3.2.2.1 v5.2.2.1 v2.1 dn.1)))
def Ln(k:ml)(U:List UInt8)(aa:List UInt8)(ad:af.D)(ai:aJ.D):Option (Bool×Unit) :=both ((ng ()).bind fun v1 =>dup ((wU (ad,v1.1,aa,false,())).bind fun v2 =>k.fi U aa ad ai v2.1)) ((ng ()).bind fun v1 =>(wU (ad,v1.1,aa,false,())).bind fun v2 =>k.fi U aa ad ai v2.1)
def Lo(k:ml)(U:List UInt8)(aa:List UInt8)(ad:af.D)(ai:aJ.D)(an:aJ.D):Option (Bool×Unit) :=both ((ng ()).bind fun v1 =>both ((wQ (ad,v1.1,(12,U,aa,0,0,([]:List UInt8),()),())).bind fun v2 =>dup (k.cR U aa ad ai an v2.1 v2.2.1)) (dup (dup ((wQ (ad,v1.1,(12,U,aa,0,0,([]:List UInt8),()),())).bind fun v2 =>k.cR U aa ad ai an v2.1 v2.2.1)))) (dup (both ((ng ()).bind fun v1 =>dup ((wQ (ad,v1.1,(12,U,aa,0,0,([]:List UInt8),()),())).bind fun v2 =>k.cR U aa ad ai an v2.1 v2.2.1)) ((ng ()).bind fun v1 =>(wQ (ad,v1.1,(12,U,aa,0,0,([]:List UInt8),()),())).bind fun v2 =>k.cR U aa ad ai an v2.1 v2.2.1)))
def Lp(k:ml)(U:List UInt8)(aa:List UInt8)(ad:af.D)(ai:aJ.D)(an:aJ.D)(aB:af.D)(a_:aS.D):Option (Bool×Unit) :=both ((ng ()).bind fun v1 =>both ((wR (ad,v1.1,(12,U,aa,0,0,([]:List UInt8),()),())).bind fun v2 =>dup (k.jT ad ai an aB a_ v2.2.1)) (dup (dup ((wR (ad,v1.1,(12,U,aa,0,0,([]:List UInt8),()),())).bind fun v2 =>k.jT ad ai an aB a_ v2.2.1)))) (dup (both ((ng ()).bind fun v1 =>dup ((wR (ad,v1.1,(12,U,aa,0,0,([]:List UInt8),()),())).bind fun v2 =>k.jT ad ai an aB a_ v2.2.1)) ((ng ()).bind fun v1 =>(wR (ad,v1.1,(12,U,aa,0,0,([]:List UInt8),()),())).bind fun v2 =>k.jT ad ai an aB a_ v2.2.1)))
def Lq(k:ml)(U:af.D)(aa:aJ.D)(ad:aJ.D)(ai:af.D)(an:aS.D)(aB:aS.D):Option (Bool×Unit) :=cond (!((an.1==aB.1)&&(br an.2.1 aB.2.1&&true))) (some (false,())) (cond (an.1 != 0) (k.rJ U ai an) (cond (ad.2.2.2.1 != 2) (k.rJ U ai an) (k.fc false 0 U aa ad ai)))
def Lr(k:ml)(U:af.D)(aa:af.D)(ad:aS.D):Option (Bool×Unit) :=cond (ad.1==0) (some (true,())) ((Lg (aa,U,())).bind fun v1 =>some (v1.1,()))
def zs(k:ml)(U:Bool)(aa:Int)(ad:af.D)(ai:aJ.D)(an:aJ.D)(aB:af.D):Option (Bool×Unit) :=cond (decide (aa<(aB.2.1.length:Int))) (k.rI U aa 0 ad ai an aB) (cond U (cond ((aB.2.1.length:Int) ==(ad.2.1.length:Int)) (some (aB.1==ad.1,())) (some (false,()))) (some (false,())))
def zt(k:ml)(U:Bool)(aa:Int)(ad:Int)(ai:af.D)(an:aJ.D)(aB:aJ.D)(a_:af.D):Option (Bool×Unit) :=(aN a_.2.1.length aa).bind fun v1 =>cond (decide (ad<(((J I a_.2.1 (0+v1)).2.2.2.2.2.2.1).length:Int))) ((aN a_.2.1.length aa).bind fun v2 =>(aN (((J I a_.2.1 (0+v2)).2.2.2.2.2.2.1).length) ad).bind fun v3 =>cond U (k.hS true aa ad ai an aB a_ (J aw ((J I a_.2.1 (0+v2)).2.2.2.2.2.2.1) v3)) ((aN a_.2.1.length aa).bind fun v4 =>cond ((J I a_.2.1 (0+v4)).1==aB.1) (cond (br ((J aw ((J I a_.2.1 (0+v2)).2.2.2.2.2.2.1) v3).1) aB.2.1) (k.hS ((J aw ((J I a_.2.1 (0+v2)).2.2.2.2.2.2.1) v3).2.1==an.2.2.1) aa ad ai an aB a_ (J aw ((J I a_.2.1 (0+v2)).2.2.2.2.2.2.1) v3)) (k.hS false aa ad ai an aB a_ (J aw ((J I a_.2.1 (0+v2)).2.2.2.2.2.2.1) v3))) (k.hS false aa ad ai an aB a_ (J aw ((J I a_.2.1 (0+v2)).2.2.2.2.2.2.1) v3)))) (k.fc U (aG (aa+1)) ai an aB a_)
def Ls(k:ml)(U:Bool)(aa:Int)(ad:Int)(ai:af.D)(an:aJ.D)(aB:aJ.D)(a_:af.D)(bP:aw.D):Option (Bool×Unit) :=(aN a_.2.1.length aa).bind fun v1 =>cond ((J I a_.2.1 (0+v1)).1==an.1) (cond (br bP.1 an.2.1) (some (false,())) (k.rI U aa (aG (ad+1)) ai an aB a_)) (k.rI U aa (aG (ad+1)) ai an aB a_)
def SC(k:ml):ml:=⟨Ln k,Lo k,Lp k,Lq k,Lr k,zs k,zt k,Ls k⟩
def gA:Nat→ml:=eH SC ⟨fun _ _ _ _=>none,fun _ _ _ _ _=>none,fun _ _ _ _ _ _ _=>none,fun _ _ _ _ _ _=>none,fun _ _ _=>none,fun _ _ _ _ _ _=>none,fun _ _ _ _ _ _ _=>none,fun _ _ _ _ _ _ _ _=>none⟩
def SD(x:(List Int)×Unit):Option (Bool×Unit):=E0 (gA aR) x.1
end
end Go.LM.kc
