/- The functions that the law reaches, as plain functions. Printed by a program. Conditions: each theorem's own hypotheses. -/
import Derived.Test.YtlkbjdmfbadhaaaGreatDoorTLmd
import Derived.Test.YtlkbjdmfbadhaaaGreatDoorTIn
set_option linter.unusedVariables false
set_option linter.unusedSimpArgs false
namespace Go.LM.jH
noncomputable section
@[reducible] def aA:aa:=.st (.cons (.int .i64) (.cons .str .nil))
@[reducible] def aE:aa:=.st (.cons (.int .i64) (.cons (.int .i64) (.cons (.int .i64) (.cons (.int .i64) (.cons (.int .i64) .nil)))))
@[reducible] def au:aa:=.st (.cons .str (.cons (.int .i64) .nil))
@[reducible] def I:aa:=.st (.cons (.int .i64) (.cons (.int .i64) (.cons (.int .i64) (.cons (.int .i64) (.cons (.int .i64) (.cons .str (.cons (.sl au) (.cons (.int .i64) (.cons (.int .i64) .nil)))))))))
@[reducible] def af:aa:=.st (.cons (.int .i64) (.cons (.sl I) .nil))
@[reducible] def aO:aa:=.st (.cons (.int .i64) (.cons (.int .i64) (.cons (.int .i64) (.cons aA .nil))))
@[reducible] def aM:aa:=.st (.cons af (.cons (.int .i64) (.cons (.sl aE) (.cons (.sl aO) .nil))))
@[reducible] def aN:aa:=.st (.cons (.int .i64) (.cons .str (.cons .str (.cons (.int .i64) (.cons (.int .i64) (.cons .str .nil))))))
@[reducible] def aP:aa:=.st (.cons (.int .i64) (.cons (.int .i64) (.cons (.sl (.int .i64)) .nil)))
@[reducible] def aY:aa:=.st (.cons (.int .i64) (.cons .str (.cons (.int .i64) (.cons (.int .i64) .nil))))
@[reducible] def aQ:aa:=.st (.cons af (.cons aP (.cons aN .nil)))
@[reducible] def ae9:aa:=.st (.cons (.sl (.int .u8)) (.cons (.int .i64) (.cons (.int .i64) .nil)))
@[reducible] def Ur:aa:=.st (.cons (.int .i64) (.cons (.int .i64) (.cons (.int .i64) (.cons aN .nil))))
@[reducible] def Us:aa:=.st (.cons (.int .i64) (.cons (.int .i64) (.cons aN (.cons (.int .i64) (.cons aA .nil)))))
@[reducible] def ae_:aa:=.st (.cons .str (.cons .bool .nil))
def Ll(a1:Int)(a2:Int)(a3:Int):Option (Bool×Unit) :=cond (decide (a1≥a2)) (some (decide (a1≤a3),())) (some (false,()))
def cZ(x:Int×Int×Int×Unit):Option (Bool×Unit):=Ll x.1 x.2.1 x.2.2.1
def Lm(a1:aA.D):Option (Bool×Unit) :=(cZ (a1.1,0,200,())).bind fun v1 =>cond v1.1 (some (decide ((a1.2.1.length:Int)≤400),())) (some (false,()))
def C_(x:aA.D×Unit):Option (Bool×Unit):=Lm x.1
abbrev C':Type:=(List aE.D)→(List aE.D)→Int→Int→Option (Bool×Unit)
def Da(k2:C')(a1:List aE.D):Option (Bool×Unit) :=k2 a1 a1 (a1.length:Int) 0
def Db(k2:C')(U:List aE.D)(ad:List aE.D)(ae:Int)(ai:Int):Option (Bool×Unit) :=cond (decide (ai<ae)) ((aL ad.length ai).bind fun v1 =>(cZ ((J aE ad v1).1,1,100000,())).bind fun v2 =>cond (!v2.1) (some (false,())) (cond (decide (ai>0)) ((aL U.length (ay (ai-1))).bind fun v3 =>cond (decide ((J aE U v3).1 >(J aE ad v1).1)) (some (false,())) ((cZ ((J aE ad v1).2.1,1,3,())).bind fun v4 =>cond (!v4.1) (some (false,())) ((cZ ((J aE ad v1).2.2.1,1,1000000,())).bind fun v5 =>cond (!v5.1) (some (false,())) ((cZ ((J aE ad v1).2.2.2.1,1,22,())).bind fun v6 =>cond (!v6.1) (some (false,())) ((cZ ((J aE ad v1).2.2.2.2.1,0,200,())).bind fun bn =>cond (!bn.1) (some (false,())) (k2 U ad ae (ay (ai+1)))))))) ((cZ ((J aE ad v1).2.1,1,3,())).bind fun bM =>cond (!bM.1) (some (false,())) ((cZ ((J aE ad v1).2.2.1,1,1000000,())).bind fun v9 =>cond (!v9.1) (some (false,())) ((cZ ((J aE ad v1).2.2.2.1,1,22,())).bind fun v10 =>cond (!v10.1) (some (false,())) ((cZ ((J aE ad v1).2.2.2.2.1,0,200,())).bind fun v11 =>cond (!v11.1) (some (false,())) (k2 U ad ae (ay (ai+1))))))))) (some (decide ((U.length:Int)≤20),()))
def uy:Nat→C' | 0,_,_,_,_=>none | m+1,U,ad,ae,ai=>Db (uy m) U ad ae ai
def Dc(x:(List aE.D)×Unit):Option (Bool×Unit):=Da (uy aK) x.1
def Ut(a1:Int):Option (Bool×Unit) :=cond (decide (a1≥97)) (cond (decide (a1≤122)) (some (true,())) (cond (decide (a1≥48)) (cond (decide (a1≤57)) (some (true,())) (cond (a1==46) (some (true,())) (cond (a1==95) (some (true,())) (some (a1==45,()))))) (cond (a1==46) (some (true,())) (cond (a1==95) (some (true,())) (some (a1==45,())))))) (cond (decide (a1≥48)) (cond (decide (a1≤57)) (some (true,())) (cond (a1==46) (some (true,())) (cond (a1==95) (some (true,())) (some (a1==45,()))))) (cond (a1==46) (some (true,())) (cond (a1==95) (some (true,())) (some (a1==45,())))))
def Dd(x:Int×Unit):Option (Bool×Unit):=Ut x.1
abbrev De:Type:=(List UInt8)→Int→Int→Option (Bool×Unit)
def Df(k2:De)(a1:List UInt8):Option (Bool×Unit) :=k2 a1 (a1.length:Int) 0
def Dg(k2:De)(U:List UInt8)(ad:Int)(ae:Int):Option (Bool×Unit) :=cond (decide (ae<ad)) ((aL U.length ae).bind fun v1 =>cond (((U.getD v1 0).toNat:Int) != 47) ((aL U.length ae).bind fun v2 =>(Dd (((U.getD v2 0).toNat:Int),())).bind fun v3 =>cond (!v3.1) (some (false,())) (k2 U ad (ay (ae+1)))) (k2 U ad (ay (ae+1)))) ((cZ ((U.length:Int),1,60,())).bind fun v4 =>some (v4.1,()))
def uz:Nat→De | 0,_,_,_=>none | m+1,U,ad,ae=>Dg (uz m) U ad ae
def xG(x:(List UInt8)×Unit):Option (Bool×Unit):=Df (uz aK) x.1
abbrev zE:Type:=(List I.D)×Unit
abbrev Dh:Type:=af.D→Int→Int→Int→Option (zE)
def Di(k2:Dh)(a1:af.D)(a2:Int):Option (zE) :=k2 a1 a2 (a1.2.1.length:Int) 0
def Dj(k2:Dh)(U:af.D)(ad:Int)(ae:Int)(ai:Int):Option (zE) :=cond (decide (ai<ae)) ((aL U.2.1.length ai).bind fun v1 =>cond ((J I U.2.1 v1).1==ad) ((aL U.2.1.length ai).bind fun v2 =>some ([J I U.2.1 v2],())) (k2 U ad ae (ay (ai+1)))) (some ([],()))
def uA:Nat→Dh | 0,_,_,_,_=>none | m+1,U,ad,ae,ai=>Dj (uA m) U ad ae ai
def fF(x:af.D×Int×Unit):Option (zE):=Di (uA aK) x.1 x.2.1
abbrev Dk:Type:=Int→Int→Int→af.D→Option (Int×af.D×Unit)
def Dl(k2:Dk)(a1:af.D)(a2:Int):Option (Int×af.D×Unit) :=k2 a2 (a1.2.1.length:Int) 0 a1
def Dm(k2:Dk)(U:Int)(ad:Int)(ae:Int)(ai:af.D):Option (Int×af.D×Unit) :=cond (decide (ae<ad)) ((aL ai.2.1.length ae).bind fun v1 =>cond ((J I ai.2.1 (0+v1)).1==U) ((aL ai.2.1.length ae).bind fun v2 =>some ((((0+v2):Nat):Int),ai,())) (k2 U ad (ay (ae+1)) ai)) (some ((-1),ai,()))
def uB:Nat→Dk | 0,_,_,_,_=>none | m+1,U,ad,ae,ai=>Dm (uB m) U ad ae ai
def xH(x:af.D×Int×Unit):Option (Int×af.D×Unit):=Dl (uB aK) x.1 x.2.1
abbrev Dn:Type:=(List UInt8)→Int→Int→Option (Bool×Unit)
def Dp(k2:Dn)(a1:List UInt8):Option (Bool×Unit) :=k2 a1 (a1.length:Int) 0
def Dq(k2:Dn)(U:List UInt8)(ad:Int)(ae:Int):Option (Bool×Unit) :=cond (decide (ae<ad)) ((aL U.length ae).bind fun v1 =>(Dd (((U.getD v1 0).toNat:Int),())).bind fun v2 =>cond (!v2.1) (some (false,())) (k2 U ad (ay (ae+1)))) ((cZ ((U.length:Int),1,8,())).bind fun v3 =>cond v3.1 (cond (!(bB U ([46]:List UInt8))) (some (!(bB U ([46,46]:List UInt8)),())) (some (false,()))) (some (false,())))
def uC:Nat→Dn | 0,_,_,_=>none | m+1,U,ad,ae=>Dq (uC m) U ad ae
def Ln(x:(List UInt8)×Unit):Option (Bool×Unit):=Dp (uC aK) x.1
abbrev Dr:Type:=af.D→(List au.D)→Int→Int→I.D→Option (Bool×Unit)
def Ds(k2:Dr)(a1:af.D)(a2:I.D):Option (Bool×Unit) :=k2 a1 a2.2.2.2.2.2.2.1 (a2.2.2.2.2.2.2.1.length:Int) 0 a2
def Dt(k2:Dr)(U:af.D)(ad:List au.D)(ae:Int)(ai:Int)(ar:I.D):Option (Bool×Unit) :=cond (decide (ai<ae)) ((aL ad.length ai).bind fun v1 =>(Ln ((J au ad v1).1,())).bind fun v2 =>cond (!v2.1) (some (false,())) (cond ((J au ad v1).2.1==1) (some (false,())) ((fF (U,(J au ad v1).2.1,())).bind fun v3 =>cond (!(!List.isEmpty v3.1)) (some (false,())) (cond (decide (ai>0)) ((aL ar.2.2.2.2.2.2.1.length (ay (ai-1))).bind fun v4 =>cond (!(dv ((J au ar.2.2.2.2.2.2.1 v4).1) ((J au ad v1).1))) (some (false,())) (k2 U ad ae (ay (ai+1)) ar)) (k2 U ad ae (ay (ai+1)) ar))))) (some (decide ((ar.2.2.2.2.2.2.1.length:Int)≤12),()))
def uD:Nat→Dr | 0,_,_,_,_,_=>none | m+1,U,ad,ae,ai,ar=>Dt (uD m) U ad ae ai ar
def Lo(x:af.D×I.D×Unit):Option (Bool×Unit):=Ds (uD aK) x.1 x.2.1
abbrev Du:Type:=af.D→I.D→Option (Bool×Unit)
def Dv(bm:Du)(a1:af.D)(a2:I.D):Option (Bool×Unit) :=(cZ (a2.2.2.1,0,2047,())).bind fun v1 =>cond (!v1.1) (some (false,())) ((cZ (a2.2.2.2.1,0,1000,())).bind fun v2 =>cond (!v2.1) (some (false,())) ((cZ (a2.2.2.2.2.1,0,1000,())).bind fun v3 =>cond (!v3.1) (some (false,())) (cond (a2.2.1 != 2) (cond (decide ((a2.2.2.2.2.2.2.1.length:Int)>0)) (some (false,())) (cond (a2.2.2.2.2.2.2.2.1 != 0) (some (false,())) (cond (a2.2.2.2.2.2.2.2.2.1 != 0) (some (false,())) (bm a1 a2)))) (bm a1 a2))))
def Lp(bm:Du)(U:af.D)(ad:I.D):Option (Bool×Unit) :=cond (ad.2.1==1) (some (decide ((ad.2.2.2.2.2.1.length:Int)≤64),())) (cond (ad.2.1==3) ((xG (ad.2.2.2.2.2.1,())).bind fun v1 =>cond v1.1 (some (ad.2.2.1==511,())) (some (false,()))) (cond (ad.2.1==2) (cond (bB ad.2.2.2.2.2.1 ([]:List UInt8)) ((Lo (U,ad,())).bind fun v2 =>cond v2.1 ((cZ (ad.2.2.2.2.2.2.2.1,0,400,())).bind fun v3 =>cond v3.1 ((cZ (ad.2.2.2.2.2.2.2.2.1,0,24,())).bind fun v4 =>some (v4.1,())) (some (false,()))) (some (false,()))) (some (false,()))) (some (false,()))))
def zF:Nat→Du | 0,_,_=>none | m+1,U,ad=>Lp (zF m) U ad
def Dw(x:af.D×I.D×Unit):Option (Bool×Unit):=Dv (zF aK) x.1 x.2.1
abbrev Dx:Type:=(List Int)→Int→Int→Int→Option (Int×Unit)
def Dy(k2:Dx)(a1:List Int)(a2:Int):Option (Int×Unit) :=k2 a1 a2 (a1.length:Int) 0
def Dz(k2:Dx)(U:List Int)(ad:Int)(ae:Int)(ai:Int):Option (Int×Unit) :=cond (decide (ai<ae)) ((aL U.length ai).bind fun v1 =>cond (ad==J (aa.int .i64) U v1) (some (ai,())) (k2 U ad ae (ay (ai+1)))) (some ((-1),()))
def uE:Nat→Dx | 0,_,_,_,_=>none | m+1,U,ad,ae,ai=>Dz (uE m) U ad ae ai
def Lq(x:(List Int)×Int×Unit):Option (Int×Unit):=Dy (uE aK) x.1 x.2.1
def Lr(a1:List Int)(a2:Int):Option (Bool×Unit) :=(Lq (a1,a2,())).bind fun v1 =>some (decide (v1.1≥0),())
def r9(x:(List Int)×Int×Unit):Option (Bool×Unit):=Lr x.1 x.2.1
structure uF where
 bf:af.D→Int→(List Int)→(List Int)→Option ((List Int)×Unit)
 eb:af.D→Int→(List au.D)→Int→Int→(List Int)→(List Int)→Option ((List Int)×Unit)
def DA(k:uF)(a1:af.D)(a2:Int):Option ((List Int)×Unit) :=k.bf a1 0 ([]:List Int) [a2]
def qu(k:uF)(U:af.D)(ad:Int)(ae:List Int)(ai:List Int):Option ((List Int)×Unit) :=cond (decide (ad<(ai.length:Int))) ((aL ai.length ad).bind fun v1 =>(fF (U,J (aa.int .i64) ai (0+v1),())).bind fun v2 =>cond (!(!List.isEmpty v2.1)) (k.bf U (ay (ad+1)) ae ai) (cond (!List.isEmpty v2.1) (k.eb U ad ((J I v2.1 0).2.2.2.2.2.2.1) (((J I v2.1 0).2.2.2.2.2.2.1).length:Int) 0 ae ai) (none))) (some (ae,()))
def zG(k:uF)(U:af.D)(ad:Int)(ae:List au.D)(ai:Int)(ar:Int)(aB:List Int)(aW:List Int):Option ((List Int)×Unit) :=cond (decide (ar<ai)) ((aL ae.length ar).bind fun v1 =>(r9 (aB,(J au ae v1).2.1,())).bind fun v2 =>cond (!v2.1) (cond (room (aB.length+[(J au ae v1).2.1].length)) (cond (room (aW.length+[(J au ae v1).2.1].length)) (k.eb U ad ae ai (ay (ar+1)) (aB++[(J au ae v1).2.1]) (aW++[(J au ae v1).2.1])) (none)) (none)) (k.eb U ad ae ai (ay (ar+1)) aB aW)) (k.bf U (ay (ad+1)) aB aW)
def Uu(k:uF):uF:=⟨qu k,zG k⟩
def mf:Nat→uF:=dX Uu ⟨fun _ _ _ _=>none,fun _ _ _ _ _ _ _=>none⟩
def uG(x:af.D×Int×Unit):Option ((List Int)×Unit):=DA (mf aK) x.1 x.2.1
structure uH where
 k3:Int→Int→(List I.D)→Int→Int→Option (Int×Unit)
 dJ:Int→Int→(List I.D)→Int→Int→(List au.D)→Int→Int→Option (Int×Unit)
def DB(k:uH)(a1:af.D)(a2:Int):Option (Int×Unit) :=k.k3 a2 0 a1.2.1 (a1.2.1.length:Int) 0
def zH(k:uH)(U:Int)(ad:Int)(ae:List I.D)(ai:Int)(ar:Int):Option (Int×Unit) :=cond (decide (ar<ai)) ((aL ae.length ar).bind fun v1 =>k.dJ U ad ae ai ar ((J I ae v1).2.2.2.2.2.2.1) (((J I ae v1).2.2.2.2.2.2.1).length:Int) 0) (some (ad,()))
def zI(k:uH)(U:Int)(ad:Int)(ae:List I.D)(ai:Int)(ar:Int)(aB:List au.D)(aW:Int)(bl:Int):Option (Int×Unit) :=cond (decide (bl<aW)) ((aL aB.length bl).bind fun v1 =>cond ((J au aB v1).2.1==U) (k.dJ U (ay (ad+1)) ae ai ar aB aW (ay (bl+1))) (k.dJ U ad ae ai ar aB aW (ay (bl+1)))) (k.k3 U ad ae ai (ay (ar+1)))
def Uv(k:uH):uH:=⟨zH k,zI k⟩
def pe:Nat→uH:=dX Uv ⟨fun _ _ _ _ _=>none,fun _ _ _ _ _ _ _ _=>none⟩
def xI(x:af.D×Int×Unit):Option (Int×Unit):=DB (pe aK) x.1 x.2.1
abbrev DC:Type:=Int→(List I.D)→Int→Int→Option (Int×Unit)
def DD(k3:DC)(a1:af.D):Option (Int×Unit) :=k3 0 a1.2.1 (a1.2.1.length:Int) 0
def DE(k3:DC)(U:Int)(ad:List I.D)(ae:Int)(ai:Int):Option (Int×Unit) :=cond (decide (ai<ae)) ((aL ad.length ai).bind fun v1 =>k3 (ay (U +(((J I ad v1).2.2.2.2.2.1).length:Int))) ad ae (ay (ai+1))) (some (U,()))
def uI:Nat→DC | 0,_,_,_,_=>none | m+1,U,ad,ae,ai=>DE (uI m) U ad ae ai
def r_(x:af.D×Unit):Option (Int×Unit):=DD (uI aK) x.1
abbrev DF:Type:=af.D→Int→Int→Int→(List Int)→Option (Int×Int×Unit)
def DG(bf:DF)(a1:af.D)(a2:Int):Option (Int×Int×Unit) :=(uG (a1,a2,())).bind fun v1 =>bf a1 0 (v1.1.length:Int) 0 v1.1
def DH(bf:DF)(U:af.D)(ad:Int)(ae:Int)(ai:Int)(ar:List Int):Option (Int×Int×Unit) :=cond (decide (ai<ae)) ((aL ar.length ai).bind fun v1 =>(fF (U,J (aa.int .i64) ar (0+v1),())).bind fun v2 =>cond (!List.isEmpty v2.1) (cond (!List.isEmpty v2.1) (bf U (ay (ad +(((J I v2.1 0).2.2.2.2.2.1).length:Int))) ae (ay (ai+1)) ar) (none)) (bf U ad ae (ay (ai+1)) ar)) (some (ad,(ar.length:Int),()))
def qv:Nat→DF | 0,_,_,_,_,_=>none | m+1,U,ad,ae,ai,ar=>DH (qv m) U ad ae ai ar
def zJ(x:af.D×Int×Unit):Option (Int×Int×Unit):=DG (qv aK) x.1 x.2.1
def Ls(a1:af.D)(a2:I.D):Option (Bool×Unit) :=(zJ (a1,a2.1,())).bind fun v1 =>cond (decide (a2.2.2.2.2.2.2.2.1>0)) (cond (decide (v1.1>a2.2.2.2.2.2.2.2.1)) (some (true,())) (cond (decide (a2.2.2.2.2.2.2.2.2.1>0)) (some (decide (v1.2.1>a2.2.2.2.2.2.2.2.2.1),())) (some (false,())))) (cond (decide (a2.2.2.2.2.2.2.2.2.1>0)) (some (decide (v1.2.1>a2.2.2.2.2.2.2.2.2.1),())) (some (false,())))
def Lt(x:af.D×I.D×Unit):Option (Bool×Unit):=Ls x.1 x.2.1
abbrev DI:Type:=(List I.D)→af.D→Int→Int→Option (Int×Unit)
def DJ(k2:DI)(a1:List I.D)(a2:af.D):Option (Int×Unit) :=k2 a1 a2 (a1.length:Int) 0
def DK(k2:DI)(U:List I.D)(ad:af.D)(ae:Int)(ai:Int):Option (Int×Unit) :=cond (decide (ai<ae)) ((aL U.length ai).bind fun v1 =>(Lt (ad,J I U v1,())).bind fun v2 =>cond v2.1 (some (ai,())) (k2 U ad ae (ay (ai+1)))) (some ((-1),()))
def uJ:Nat→DI | 0,_,_,_,_=>none | m+1,U,ad,ae,ai=>DK (uJ m) U ad ae ai
def Lu(x:(List I.D)×af.D×Unit):Option (Int×Unit):=DJ (uJ aK) x.1 x.2.1
def Lv(a1:List I.D)(a2:af.D):Option (Bool×Unit) :=(Lu (a1,a2,())).bind fun v1 =>some (decide (v1.1≥0),())
def zK(x:(List I.D)×af.D×Unit):Option (Bool×Unit):=Lv x.1 x.2.1
structure uK where
 bf:(List I.D)→Int→Int→af.D→Option (Bool×Unit)
 cC:(List I.D)→Int→Int→af.D→(List Int)→Option (Bool×Unit)
def DL(k:uK)(a1:af.D):Option (Bool×Unit) :=(cZ (a1.1,2,100000,())).bind fun v1 =>cond (!v1.1) (some (false,())) ((cZ ((a1.2.1.length:Int),1,24,())).bind fun v2 =>cond (!v2.1) (some (false,())) ((aL a1.2.1.length 0).bind fun v3 =>cond ((J I a1.2.1 v3).1 != 1) (some (false,())) ((aL a1.2.1.length 0).bind fun v4 =>cond ((J I a1.2.1 v4).2.1 != 2) (some (false,())) (k.bf a1.2.1 (a1.2.1.length:Int) 0 a1))))
def uL(k:uK)(U:List I.D)(ad:Int)(ae:Int)(ai:af.D):Option (Bool×Unit) :=cond (decide (ae<ad)) ((aL U.length ae).bind fun v1 =>(cZ ((J I U v1).1,1,ay (ai.1-1),())).bind fun v2 =>cond (!v2.1) (some (false,())) (cond (decide (ae>0)) ((aL ai.2.1.length (ay (ae-1))).bind fun v3 =>cond (decide ((J I ai.2.1 v3).1≥(J I U v1).1)) (some (false,())) ((Dw (ai,J I U v1,())).bind fun v4 =>cond (!v4.1) (some (false,())) (k.bf U ad (ay (ae+1)) ai))) ((Dw (ai,J I U v1,())).bind fun v5 =>cond (!v5.1) (some (false,())) (k.bf U ad (ay (ae+1)) ai)))) ((uG (ai,1,())).bind fun v6 =>(dN ai.2.1.length 1 (ai.2.1.length:Int)).bind fun bn =>k.cC (part ai.2.1 bn.1 (bn.2-bn.1)) (((part ai.2.1 bn.1 (bn.2-bn.1)).length:Nat):Int) 0 ai v6.1)
def uM(k:uK)(U:List I.D)(ad:Int)(ae:Int)(ai:af.D)(ar:List Int):Option (Bool×Unit) :=cond (decide (ae<ad)) ((aL U.length ae).bind fun v1 =>(r9 (ar,(J I U v1).1,())).bind fun v2 =>cond (!v2.1) (some (false,())) (cond ((J I U v1).2.1==2) ((xI (ai,(J I U v1).1,())).bind fun v3 =>cond (v3.1 != 1) (some (false,())) (k.cC U ad (ay (ae+1)) ai ar)) (k.cC U ad (ay (ae+1)) ai ar))) ((r_ (ai,())).bind fun v4 =>cond (decide (v4.1≤400)) ((zK (ai.2.1,ai,())).bind fun v5 =>some (!v5.1,())) (some (false,())))
def Uw(k:uK):uK:=⟨uL k,uM k⟩
def ng:Nat→uK:=dX Uw ⟨fun _ _ _ _=>none,fun _ _ _ _ _=>none⟩
def Lw(x:af.D×Unit):Option (Bool×Unit):=DL (ng aK) x.1
abbrev DM:Type:=(List aO.D)→Int→Int→aM.D→Option (Bool×Unit)
def DN(k2:DM)(a1:aM.D):Option (Bool×Unit) :=k2 a1.2.2.2.1 (a1.2.2.2.1.length:Int) 0 a1
def DO(k2:DM)(U:List aO.D)(ad:Int)(ae:Int)(ai:aM.D):Option (Bool×Unit) :=cond (decide (ae<ad)) ((aL U.length ae).bind fun v1 =>(cZ ((J aO U v1).1,1,3,())).bind fun v2 =>cond (!v2.1) (some (false,())) (cond (decide (ae>0)) ((aL ai.2.2.2.1.length (ay (ae-1))).bind fun v3 =>cond (decide ((J aO ai.2.2.2.1 v3).1≥(J aO U v1).1)) (some (false,())) ((cZ ((J aO U v1).2.1,1,1000000,())).bind fun v4 =>cond (!v4.1) (some (false,())) ((cZ ((J aO U v1).2.2.1,1,100000,())).bind fun v5 =>cond (!v5.1) (some (false,())) ((C_ ((J aO U v1).2.2.2.1,())).bind fun v6 =>cond (!v6.1) (some (false,())) (k2 U ad (ay (ae+1)) ai))))) ((cZ ((J aO U v1).2.1,1,1000000,())).bind fun bn =>cond (!bn.1) (some (false,())) ((cZ ((J aO U v1).2.2.1,1,100000,())).bind fun bM =>cond (!bM.1) (some (false,())) ((C_ ((J aO U v1).2.2.2.1,())).bind fun v9 =>cond (!v9.1) (some (false,())) (k2 U ad (ay (ae+1)) ai)))))) ((cZ (ai.2.1,0,30,())).bind fun v10 =>cond v10.1 ((Dc (ai.2.2.1,())).bind fun v11 =>cond v11.1 ((Lw (ai.1,())).bind fun v12 =>some (v12.1,())) (some (false,()))) (some (false,())))
def uN:Nat→DM | 0,_,_,_,_=>none | m+1,U,ad,ae,ai=>DO (uN m) U ad ae ai
def Lx(x:aM.D×Unit):Option (Bool×Unit):=DN (uN aK) x.1
abbrev xJ:Type:=(List I.D)→Int→Int→af.D→af.D→Option (af.D×Unit)
def DP(k3:xJ)(a1:af.D):Option (af.D×Unit) :=k3 a1.2.1 (a1.2.1.length:Int) 0 (0,([]:List I.D),()) (a1.1,([]:List I.D),())
def Ux(k3:xJ)(U:List I.D)(ad:Int)(ae:Int)(ai:af.D)(ar:af.D)(v3:List I.D):Option (af.D×Unit) :=k3 U ad (ay (ae+1)) ai (ar.1,v3,())
def Uy(k3:xJ)(ar:af.D)(U:List I.D)(v1:Nat)(ad:Int)(ae:Int)(ai:af.D)(v2:List au.D):Option (af.D×Unit) :=cond (room (ar.2.1.length+[((J I U v1).1,(J I U v1).2.1,(J I U v1).2.2.1,(J I U v1).2.2.2.1,(J I U v1).2.2.2.2.1,(J I U v1).2.2.2.2.2.1,v2,(J I U v1).2.2.2.2.2.2.2.1,(J I U v1).2.2.2.2.2.2.2.2.1,())].length)) (Ux k3 U ad ae ai ar (ar.2.1++[((J I U v1).1,(J I U v1).2.1,(J I U v1).2.2.1,(J I U v1).2.2.2.1,(J I U v1).2.2.2.2.1,(J I U v1).2.2.2.2.2.1,v2,(J I U v1).2.2.2.2.2.2.2.1,(J I U v1).2.2.2.2.2.2.2.2.1,())])) (none)
def DQ(k3:xJ)(U:List I.D)(ad:Int)(ae:Int)(ai:af.D)(ar:af.D):Option (af.D×Unit) :=cond (decide (ae<ad)) ((aL U.length ae).bind fun v1 =>cond (room (([]:List au.D).length +((J I U v1).2.2.2.2.2.2.1).length)) (Uy k3 ar U v1 ad ae ai (([]:List au.D)++((J I U v1).2.2.2.2.2.2.1))) (none)) (some (ar,()))
def uO:Nat→xJ | 0,_,_,_,_,_=>none | m+1,U,ad,ae,ai,ar=>DQ (uO m) U ad ae ai ar
def qw(x:af.D×Unit):Option (af.D×Unit):=DP (uO aK) x.1
def Ly(a1:aM.D):Option (aM.D×Unit) :=(qw (a1.1,())).bind fun v1 =>cond (room (([]:List aE.D).length+a1.2.2.1.length)) (cond (room (([]:List aO.D).length+a1.2.2.2.1.length)) (some ((v1.1,a1.2.1,([]:List aE.D)++a1.2.2.1,([]:List aO.D)++a1.2.2.2.1,()),())) (none)) (none)
def LA(x:aM.D×Unit):Option (aM.D×Unit):=Ly x.1
structure uP where
 k2:aM.D→Int→(List aE.D)→Int→Int→Option (Bool×Unit)
 cY:Int→(List aO.D)→Int→Int→Option (Bool×Unit)
def Uz(k:uP)(a1:aM.D)(a2:Int):Option (Bool×Unit) :=k.k2 a1 a2 a1.2.2.1 (a1.2.2.1.length:Int) 0
def DR(k:uP)(U:aM.D)(ad:Int)(ae:List aE.D)(ai:Int)(ar:Int):Option (Bool×Unit) :=cond (decide (ar<ai)) ((aL ae.length ar).bind fun v1 =>cond (decide (ad<(J aE ae v1).1)) (some (true,())) (k.k2 U ad ae ai (ay (ar+1)))) (k.cY ad U.2.2.2.1 (U.2.2.2.1.length:Int) 0)
def DS(k:uP)(U:Int)(ad:List aO.D)(ae:Int)(ai:Int):Option (Bool×Unit) :=cond (decide (ai<ae)) ((aL ad.length ai).bind fun v1 =>cond (decide (U<(J aO ad v1).2.2.1)) (some (true,())) (k.cY U ad ae (ay (ai+1)))) (some (false,()))
def UA(k:uP):uP:=⟨DR k,DS k⟩
def r':Nat→uP:=dX UA ⟨fun _ _ _ _ _=>none,fun _ _ _ _=>none⟩
def LB(x:aM.D×Int×Unit):Option (Bool×Unit):=Uz (r' aK) x.1 x.2.1
abbrev DT:Type:=aM.D→Int→Int→Option (Int×Bool×Unit)
def UB(k2:DT)(a1:aM.D)(a2:Int):Option (Int×Bool×Unit) :=k2 a1 a2 0
def xK(k2:DT)(U:aM.D)(ad:Int)(ae:Int):Option (Int×Bool×Unit) :=cond (decide (ae<(U.2.2.2.1.length:Int))) ((aL U.2.2.2.1.length ae).bind fun v1 =>cond (decide ((J aO U.2.2.2.1 v1).1<ad)) (k2 U ad (ay (ae+1))) (cond (decide (ae<(U.2.2.2.1.length:Int))) ((aL U.2.2.2.1.length ae).bind fun v2 =>some (ae,(J aO U.2.2.2.1 v2).1==ad,())) (some (ae,false,())))) (cond (decide (ae<(U.2.2.2.1.length:Int))) ((aL U.2.2.2.1.length ae).bind fun v3 =>some (ae,(J aO U.2.2.2.1 v3).1==ad,())) (some (ae,false,())))
def xL:Nat→DT | 0,_,_,_=>none | m+1,U,ad,ae=>xK (xL m) U ad ae
def DU(x:aM.D×Int×Unit):Option (Int×Bool×Unit):=UB (xL aK) x.1 x.2.1
def LC(a1:aM.D)(a2:Int):Option (aO.D×Unit) :=(DU (a1,a2,())).bind fun v1 =>cond v1.2.1 ((aL a1.2.2.2.1.length v1.1).bind fun v2 =>some (J aO a1.2.2.2.1 v2,())) (some ((0,0,0,(0,([]:List UInt8),()),()),()))
def LD(x:aM.D×Int×Unit):Option (aO.D×Unit):=LC x.1 x.2.1
structure uQ where
 k3:Bool→Bool→aN.D→Option (Bool×Unit)
 bm:aN.D→Option (Bool×Unit)
def DV(k:uQ)(a1:aN.D):Option (Bool×Unit) :=cond (a1.1==9) (cond (a1.1==5) (k.k3 true true a1) (k.k3 true (a1.1==6) a1)) (cond (a1.1==10) (cond (a1.1==5) (k.k3 true true a1) (k.k3 true (a1.1==6) a1)) (cond (a1.1==5) (k.k3 (a1.1==12) true a1) (k.k3 (a1.1==12) (a1.1==6) a1)))
def UC(k:uQ)(U:Bool)(ad:Bool)(ae:aN.D):Option (Bool×Unit) :=cond (!U) (cond (!(bB ae.2.2.1 ([]:List UInt8))) (some (false,())) (cond (!ad) (cond (!(bB ae.2.2.2.2.2.1 ([]:List UInt8))) (some (false,())) (k.bm ae)) (k.bm ae))) (cond (!ad) (cond (!(bB ae.2.2.2.2.2.1 ([]:List UInt8))) (some (false,())) (k.bm ae)) (k.bm ae))
def UD(k:uQ)(U:aN.D):Option (Bool×Unit) :=(cZ (U.1,1,22,())).bind fun v1 =>cond v1.1 (cond (decide ((U.2.1.length:Int)≤60)) (cond (decide ((U.2.2.1.length:Int)≤60)) (cond (decide ((U.2.2.2.2.2.1.length:Int)≤64)) ((cZ (U.2.2.2.1,(-1000000),1000000,())).bind fun v2 =>cond v2.1 ((cZ (U.2.2.2.2.1,(-1000000),1000000,())).bind fun v3 =>some (v3.1,())) (some (false,()))) (some (false,()))) (some (false,()))) (some (false,()))) (some (false,()))
def LF(k:uQ):uQ:=⟨UC k,UD k⟩
def DW:Nat→uQ:=dX LF ⟨fun _ _ _=>none,fun _=>none⟩
def zL(x:aN.D×Unit):Option (Bool×Unit):=DV (DW aK) x.1
def ae'(a1:Int):Option (Bool×Unit) :=cond (a1==4) (cond (a1==4) (some (true,())) (some (false,()))) (cond (a1==11) (cond (a1==11) (some (true,())) (some (false,()))) (cond (a1==13) (cond (a1==13) (some (true,())) (some (false,()))) (cond (a1==14) (cond (a1==14) (some (true,())) (some (false,()))) (cond (a1==17) (cond (a1==17) (some (true,())) (some (false,()))) (cond (a1==18) (cond (a1==18) (some (true,())) (some (false,()))) (cond (a1==20) (cond (a1==20) (some (true,())) (some (false,()))) (cond (a1==21) (some (true,())) (some (false,())))))))))
def zM(x:Int×Unit):Option (Bool×Unit):=ae' x.1
def afa(a1:Int):Option (aA.D×Unit) :=some ((a1,([]:List UInt8),()),())
def ec(x:Int×Unit):Option (aA.D×Unit):=afa x.1
def LG(a1:Int):Option (Int×Unit) :=(cZ (a1,1,22,())).bind fun v1 =>cond (!v1.1) (some (0,())) ((zM (a1,())).bind fun v2 =>cond v2.1 (some (1,())) (some (3,())))
def LH(x:Int×Unit):Option (Int×Unit):=LG x.1
def LI(a1:Int)(a2:Int):Option (Int×Bool×Unit) :=(LH (a2,())).bind fun v1 =>cond (v1.1==0) (some (a1,false,())) (cond (decide (v1.1>a1)) (some (a1,false,())) (some (ay (a1-v1.1),true,())))
def LJ(x:Int×Int×Unit):Option (Int×Bool×Unit):=LI x.1 x.2.1
def LK(a1:Int):Option (aP.D×Unit) :=cond (a1==1) (some ((0,0,([]:List Int),()),())) (cond (a1==2) (some ((2,2,[5],()),())) (cond (a1==3) (some ((3,2,([]:List Int),()),())) (some ((1000,1000,([]:List Int),()),()))))
def LL(x:Int×Unit):Option (aP.D×Unit):=LK x.1
structure uR where
 bf:Int→(List UInt8)→Int→Option ((List UInt8)×Unit)
 dG:Int→(List UInt8)→Int→Int→Option ((List UInt8)×Unit)
def UE(k:uR)(a1:Int):Option ((List UInt8)×Unit) :=k.bf a1 ([]:List UInt8) a1
def LN(k:uR)(U:Int)(ad:List UInt8)(ae:Int):Option ((List UInt8)×Unit) :=cond (decide (Int.tmod ae 10<0)) (k.dG U ad ae (ay (0-(Int.tmod ae 10)))) (k.dG U ad ae (Int.tmod ae 10))
def LO(k:uR)(U:Int)(ad:List UInt8)(ae:Int)(ai:Int):Option ((List UInt8)×Unit) :=cond (room ((ga [IntKind.wrap .u8 (ay (48+ai))]).length+ad.length)) ((cZ (ae,(-9),9,())).bind fun v1 =>cond v1.1 (cond (decide (U<0)) (cond (room (([45]:List UInt8).length +((ga [IntKind.wrap .u8 (ay (48+ai))])++ad).length)) (some (([45]:List UInt8)++((ga [IntKind.wrap .u8 (ay (48+ai))])++ad),())) (none)) (some ((ga [IntKind.wrap .u8 (ay (48+ai))])++ad,()))) (k.bf U ((ga [IntKind.wrap .u8 (ay (48+ai))])++ad) (ay (Int.tdiv ae 10)))) (none)
def UF(k:uR):uR:=⟨LN k,LO k⟩
def mg:Nat→uR:=dX UF ⟨fun _ _ _=>none,fun _ _ _ _=>none⟩
def uS(x:Int×Unit):Option ((List UInt8)×Unit):=UE (mg aK) x.1
structure uT where
 bm:(List aE.D)→Int→(List UInt8)→Int→Option ((List UInt8)×Unit)
 cC:(List aE.D)→Int→(List UInt8)→Int→Int→Int→(List Int)→Option ((List UInt8)×Unit)
def DX(k:uT)(a1:List aE.D)(a2:Int):Option ((List UInt8)×Unit) :=(Dc (a1,())).bind fun v1 =>cond (!v1.1) (some (([]:List UInt8),())) (cond (decide (a2<0)) (some (([]:List UInt8),())) (k.bm a1 a2 ([]:List UInt8) a2))
def DY(k:uT)(U:List aE.D)(ad:Int)(ae:List UInt8)(ai:Int):Option ((List UInt8)×Unit) :=cond (decide (ai<(U.length:Int))) (cond (decide (ai<ay (ad+6))) (cond (decide (ai>ad)) (cond (room (ae.length +([32]:List UInt8).length)) ((aL U.length ai).bind fun v1 =>k.cC U ad (ae++([32]:List UInt8)) ai ([(J aE U v1).1,(J aE U v1).2.1,(J aE U v1).2.2.1,(J aE U v1).2.2.2.1,(J aE U v1).2.2.2.2.1].length:Int) 0 [(J aE U v1).1,(J aE U v1).2.1,(J aE U v1).2.2.1,(J aE U v1).2.2.2.1,(J aE U v1).2.2.2.2.1]) (none)) ((aL U.length ai).bind fun v2 =>k.cC U ad ae ai ([(J aE U v2).1,(J aE U v2).2.1,(J aE U v2).2.2.1,(J aE U v2).2.2.2.1,(J aE U v2).2.2.2.2.1].length:Int) 0 [(J aE U v2).1,(J aE U v2).2.1,(J aE U v2).2.2.1,(J aE U v2).2.2.2.1,(J aE U v2).2.2.2.2.1])) (some (ae,()))) (some (ae,()))
def DZ(k:uT)(U:List aE.D)(ad:Int)(ae:List UInt8)(ai:Int)(ar:Int)(aB:Int)(aW:List Int):Option ((List UInt8)×Unit) :=cond (decide (aB<ar)) ((aL aW.length aB).bind fun v1 =>cond (decide (aB>0)) (cond (room (ae.length +([46]:List UInt8).length)) ((uS (J (aa.int .i64) aW (0+v1),())).bind fun v2 =>cond (room ((ae++([46]:List UInt8)).length+v2.1.length)) (k.cC U ad ((ae++([46]:List UInt8))++v2.1) ai ar (ay (aB+1)) aW) (none)) (none)) ((uS (J (aa.int .i64) aW (0+v1),())).bind fun v3 =>cond (room (ae.length+v3.1.length)) (k.cC U ad (ae++v3.1) ai ar (ay (aB+1)) aW) (none))) (k.bm U ad ae (ay (ai+1)))
def UG(k:uT):uT:=⟨DY k,DZ k⟩
def nh:Nat→uT:=dX UG ⟨fun _ _ _ _=>none,fun _ _ _ _ _ _ _=>none⟩
def LP(x:(List aE.D)×Int×Unit):Option ((List UInt8)×Unit):=DX (nh aK) x.1 x.2.1
def LQ(a1:Int):Option (Bool×Unit) :=(cZ (a1,0,1000,())).bind fun v1 =>some (!v1.1,())
def UH(x:Int×Unit):Option (Bool×Unit):=LQ x.1
abbrev D0:Type:=(List Int)→Int→Int→Option (Int×Unit)
def D1(k2:D0)(a1:List Int):Option (Int×Unit) :=k2 a1 (a1.length:Int) 0
def D2(k2:D0)(U:List Int)(ad:Int)(ae:Int):Option (Int×Unit) :=cond (decide (ae<ad)) ((aL U.length ae).bind fun v1 =>(UH (J (aa.int .i64) U v1,())).bind fun v2 =>cond v2.1 (some (ae,())) (k2 U ad (ay (ae+1)))) (some ((-1),()))
def uU:Nat→D0 | 0,_,_,_=>none | m+1,U,ad,ae=>D2 (uU m) U ad ae
def LR(x:(List Int)×Unit):Option (Int×Unit):=D1 (uU aK) x.1
def LS(a1:List Int):Option (Bool×Unit) :=(LR (a1,())).bind fun v1 =>some (decide (v1.1≥0),())
def LU(x:(List Int)×Unit):Option (Bool×Unit):=LS x.1
def LV(a1:aP.D):Option (Bool×Unit) :=(cZ (a1.1,0,1000,())).bind fun v1 =>cond (!v1.1) (some (false,())) ((cZ (a1.2.1,0,1000,())).bind fun v2 =>cond (!v2.1) (some (false,())) (cond (decide ((a1.2.2.1.length:Int)>4)) (some (false,())) ((LU (a1.2.2.1,())).bind fun v3 =>some (!v3.1,()))))
def xM(x:aP.D×Unit):Option (Bool×Unit):=LV x.1
def LW(a1:List UInt8):Option (Bool×Unit) :=(xG (a1,())).bind fun v1 =>cond v1.1 ((aL a1.length 0).bind fun v2 =>some (((a1.getD v2 0).toNat:Int)==47,())) (some (false,()))
def LX(x:(List UInt8)×Unit):Option (Bool×Unit):=LW x.1
def LY(a1:aP.D)(a2:Int):Option (Bool×Unit) :=(xM (a1,())).bind fun v1 =>cond v1.1 (cond (a2==a1.2.1) (some (true,())) ((r9 (a1.2.2.1,a2,())).bind fun v2 =>some (v2.1,()))) (some (false,()))
def uV(x:aP.D×Int×Unit):Option (Bool×Unit):=LY x.1 x.2.1
def LZ(a1:aP.D)(a2:I.D)(a3:Int):Option (Bool×Unit) :=(xM (a1,())).bind fun v1 =>cond (!v1.1) (some (false,())) ((cZ (a3,0,7,())).bind fun v2 =>cond (!v2.1) (some (false,())) (cond (a1.1==0) (cond (a2.2.1 != 1) (some (true,())) (cond (c_ .and .i64 a2.2.2.1 73 != 0) (some (true,())) (some (c_ .and .i64 a3 1==0,())))) (cond (a1.1==a2.2.2.2.1) (some (c_ .and .i64 (c_ .and .i64 (Int.fdiv a2.2.2.1 (2 ^ min (Int.toNat 6) 64)) 7) a3==a3,())) ((uV (a1,a2.2.2.2.2.1,())).bind fun v3 =>cond v3.1 (some (c_ .and .i64 (c_ .and .i64 (Int.fdiv a2.2.2.1 (2 ^ min (Int.toNat 3) 64)) 7) a3==a3,())) (some (c_ .and .i64 (c_ .and .i64 a2.2.2.1 7) a3==a3,()))))))
def pf(x:aP.D×I.D×Int×Unit):Option (Bool×Unit):=LZ x.1 x.2.1 x.2.2.1
abbrev D3:Type:=(List UInt8)→(List au.D)→Int→Int→Option (Int×Unit)
def D4(k2:D3)(a1:I.D)(a2:List UInt8):Option (Int×Unit) :=k2 a2 a1.2.2.2.2.2.2.1 (a1.2.2.2.2.2.2.1.length:Int) 0
def D5(k2:D3)(U:List UInt8)(ad:List au.D)(ae:Int)(ai:Int):Option (Int×Unit) :=cond (decide (ai<ae)) ((aL ad.length ai).bind fun v1 =>cond (bB ((J au ad v1).1) U) (some ((J au ad v1).2.1,())) (k2 U ad ae (ay (ai+1)))) (some (0,()))
def sa:Nat→D3 | 0,_,_,_,_=>none | m+1,U,ad,ae,ai=>D5 (sa m) U ad ae ai
def D6(x:I.D×(List UInt8)×Unit):Option (Int×Unit):=D4 (sa aK) x.1 x.2.1
def UI(_:(List UInt8)×Int×Unit):Option ((List (List UInt8))×Unit):=none
def UJ(x:(List UInt8)×Int×Unit):Option (Int×Unit):=some (Lib.indexByte x.1 x.2.1.toNat.toUInt8,())
def afb(a1:List UInt8)(a2:Int):Option (Int×Unit) :=(UJ (a1,a2,())).bind fun v1 =>some (v1.1,())
def UK(x:(List UInt8)×Int×Unit):Option (Int×Unit):=afb x.1 x.2.1
def L0(a1:List UInt8)(a2:List UInt8):Option (Int×Unit) :=cond ((a2.length:Int)==0) (some (0,())) (cond (bB a2 a1) (some (0,())) (cond ((a2.length:Int)==1) ((aL a2.length 0).bind fun v1 =>(UK (a1,((a2.getD v1 0).toNat:Int),())).bind fun v2 =>some (v2.1,())) (cond (decide ((a2.length:Int)≥(a1.length:Int))) (some ((-1),())) (none))))
def UL(x:(List UInt8)×(List UInt8)×Unit):Option (Int×Unit):=L0 x.1 x.2.1
def L1(a1:List UInt8)(a2:List UInt8):Option (Int×Unit) :=(UL (a1,a2,())).bind fun v1 =>some (v1.1,())
def D7(x:(List UInt8)×(List UInt8)×Unit):Option (Int×Unit):=L1 x.1 x.2.1
def UM(_:(List UInt8)×Unit):Option (Int×Unit):=none
def UN(x:(List UInt8)×Int×Unit):Option (Int×Unit):=some ((Lib.countByte x.1 x.2.1.toNat.toUInt8:Int),())
abbrev D8:Type:=(List UInt8)→(List UInt8)→Int→Option (Int×Unit)
def D9(dJ:D8)(a1:List UInt8)(a2:List UInt8):Option (Int×Unit) :=cond ((a2.length:Int)==0) ((UM (a1,())).bind fun v1 =>some (ay (v1.1+1),())) (cond ((a2.length:Int)==1) ((aL a2.length 0).bind fun v2 =>(UN (a1,((a2.getD v2 0).toNat:Int),())).bind fun v3 =>some (v3.1,())) (dJ a1 a2 0))
def UO(dJ:D8)(U:List UInt8)(ad:List UInt8)(ae:Int):Option (Int×Unit) :=(D7 (U,ad,())).bind fun v1 =>cond (v1.1 ==(-1)) (some (ae,())) ((dN U.length (ay (v1.1 +(ad.length:Int))) (U.length:Int)).bind fun v2 =>dJ (part U v2.1 (v2.2-v2.1)) ad (ay (ae+1)))
def D_:Nat→D8 | 0,_,_,_=>none | m+1,U,ad,ae=>UO (D_ m) U ad ae
def L2(x:(List UInt8)×(List UInt8)×Unit):Option (Int×Unit):=D9 (D_ aK) x.1 x.2.1
abbrev pg:Type:=(List (List UInt8))×Unit
structure qx where
 dG:(List UInt8)→(List UInt8)→Int→Int→Option (pg)
 cC:(List UInt8)→(List UInt8)→Int→Int→Int→(List (List UInt8))→Option (pg)
 UP:(List UInt8)→Int→(List (List UInt8))→Option (pg)
def D'(k:qx)(a1:List UInt8)(a2:List UInt8)(a3:Int)(a4:Int):Option (pg) :=cond (a4==0) (some (([]:List (List UInt8)),())) (cond (bB a2 ([]:List UInt8)) ((UI (a1,a4,())).bind fun v1 =>some (v1.1,())) (cond (decide (a4<0)) ((L2 (a1,a2,())).bind fun v2 =>k.dG a1 a2 a3 (ay (v2.1+1))) (k.dG a1 a2 a3 a4)))
def L3(k:qx)(U:List UInt8)(ad:List UInt8)(ae:Int)(ai:Int):Option (pg) :=cond (decide (0≤jz ai (ay ((U.length:Int)+1)))&&decide (jz ai (ay ((U.length:Int)+1))=jz ai (ay ((U.length:Int)+1)))&&room (Int.toNat (jz ai (ay ((U.length:Int)+1))))) (k.cC U ad ae (ay (jz ai (ay ((U.length:Int)+1))-1)) 0 (List.replicate (Int.toNat (jz ai (ay ((U.length:Int)+1)))) (([]:List UInt8):List UInt8))) (none)
def UQ(k:qx)(U:List UInt8)(v1:Int×Unit)(ad:List UInt8)(ae:Int)(ai:Int)(ar:Int)(v4:List (List UInt8)):Option (pg) :=(dN U.length (ay (v1.1 +(ad.length:Int))) (U.length:Int)).bind fun v5 =>k.cC (part U v5.1 (v5.2-v5.1)) ad ae ai (ay (ar+1)) v4
def zN(k:qx)(U:List UInt8)(ad:List UInt8)(ae:Int)(ai:Int)(ar:Int)(aB:List (List UInt8)):Option (pg) :=cond (decide (ar<ai)) ((D7 (U,ad,())).bind fun v1 =>cond (decide (v1.1<0)) (k.UP U ar aB) ((dN U.length 0 (ay (v1.1+ae))).bind fun v2 =>(aL aB.length ar).bind fun v3 =>UQ k U v1 ad ae ai ar (aB.set (0+v3) (part U v2.1 (v2.2-v2.1))))) (k.UP U ar aB)
def L4(k:qx)(U:List UInt8)(ad:Int)(ae:List (List UInt8)):Option (pg) :=(aL ae.length ad).bind fun v1 =>(dN ((ae.set (0+v1) U).length) 0 (ay (ad+1))).bind fun v2 =>some (part (ae.set (0+v1) U) (0+v2.1) (v2.2-v2.1),())
def UR(k:qx):qx:=⟨L3 k,zN k,L4 k⟩
def qy:Nat→qx:=dX UR ⟨fun _ _ _ _=>none,fun _ _ _ _ _ _=>none,fun _ _ _=>none⟩
def L5(x:(List UInt8)×(List UInt8)×Int×Int×Unit):Option (pg):=D' (qy aK) x.1 x.2.1 x.2.2.1 x.2.2.2.1
abbrev US:Type:=(List (List UInt8))×Unit
def L6(a1:List UInt8)(a2:List UInt8):Option (US) :=(L5 (a1,a2,0,(-1),())).bind fun v1 =>some (v1.1,())
def L7(x:(List UInt8)×(List UInt8)×Unit):Option (US):=L6 x.1 x.2.1
abbrev zO:Type:=(List (List UInt8))×Unit
abbrev Ea:Type:=Int→Int→(List (List UInt8))→(List (List UInt8))→Option (zO)
def Eb(k3:Ea)(a1:List UInt8):Option (zO) :=(L7 (a1,([47]:List UInt8),())).bind fun v1 =>k3 (v1.1.length:Int) 0 ([]:List (List UInt8)) v1.1
def Ec(k3:Ea)(U:Int)(ad:Int)(ae:List (List UInt8))(ai:List (List UInt8)):Option (zO) :=cond (decide (ad<U)) ((aL ai.length ad).bind fun v1 =>cond (!(bB (J aa.str ai (0+v1)) ([]:List UInt8))) (cond (room (ae.length+[J aa.str ai (0+v1)].length)) (k3 U (ay (ad+1)) (ae++[J aa.str ai (0+v1)]) ai) (none)) (k3 U (ay (ad+1)) ae ai)) (some (ae,()))
def sb:Nat→Ea | 0,_,_,_,_=>none | m+1,U,ad,ae,ai=>Ec (sb m) U ad ae ai
def sc(x:(List UInt8)×Unit):Option (zO):=Eb (sb aK) x.1
structure uW where
 k2:Int→(List I.D)→Int→Int→Option (Int×Unit)
 bm:Int→(List I.D)→Int→Int→(List au.D)→Int→Int→I.D→Option (Int×Unit)
def Ed(k:uW)(a1:af.D)(a2:Int):Option (Int×Unit) :=k.k2 a2 a1.2.1 (a1.2.1.length:Int) 0
def uX(k:uW)(U:Int)(ad:List I.D)(ae:Int)(ai:Int):Option (Int×Unit) :=cond (decide (ai<ae)) ((aL ad.length ai).bind fun v1 =>k.bm U ad ae ai ((J I ad v1).2.2.2.2.2.2.1) (((J I ad v1).2.2.2.2.2.2.1).length:Int) 0 (J I ad v1)) (some (1,()))
def uY(k:uW)(U:Int)(ad:List I.D)(ae:Int)(ai:Int)(ar:List au.D)(aB:Int)(aW:Int)(bl:I.D):Option (Int×Unit) :=cond (decide (aW<aB)) ((aL ar.length aW).bind fun v1 =>cond ((J au ar v1).2.1==U) (some (bl.1,())) (k.bm U ad ae ai ar aB (ay (aW+1)) bl)) (k.k2 U ad ae (ay (ai+1)))
def UT(k:uW):uW:=⟨uX k,uY k⟩
def ks:Nat→uW:=dX UT ⟨fun _ _ _ _=>none,fun _ _ _ _ _ _ _ _=>none⟩
def L8(x:af.D×Int×Unit):Option (Int×Unit):=Ed (ks aK) x.1 x.2.1
abbrev sd:Type:=af.D→Bool→Nat→Nat→Int→Int→aP.D→aY.D→(List (List UInt8))→Option (aY.D×Unit)
def Ee(k3:sd)(a1:af.D)(a2:aP.D)(a3:List UInt8)(a4:Bool):Option (aY.D×Unit) :=(sc (a3,())).bind fun v1 =>k3 a1 a4 0 v1.1.length 1 0 a2 (0,([]:List UInt8),0,0,()) v1.1
def UU(k3:sd)(U:af.D)(ad:Bool)(aB:Int)(aW:aP.D)(bl:aY.D)(v10:List (List UInt8)):Option (aY.D×Unit) :=cond (decide ((v10.length:Int)>40)) (some ((0,([]:List UInt8),0,36,()),())) (k3 U ad 0 v10.length 1 (ay (aB+1)) aW bl v10)
def UW(k3:sd)(U:af.D)(ad:Bool)(ar:Int)(aB:Int)(aW:aP.D)(bl:aY.D)(v12:List (List UInt8)):Option (aY.D×Unit) :=cond (decide ((v12.length:Int)>40)) (some ((0,([]:List UInt8),0,36,()),())) (k3 U ad 0 v12.length ar (ay (aB+1)) aW bl v12)
def UX(k3:sd)(U:af.D)(ad:Bool)(aB:Int)(aW:aP.D)(bl:aY.D)(ik:List (List UInt8)):Option (aY.D×Unit) :=cond (decide ((ik.length:Int)>40)) (some ((0,([]:List UInt8),0,36,()),())) (k3 U ad 0 ik.length 1 (ay (aB+1)) aW bl ik)
def UY(k3:sd)(U:af.D)(ad:Bool)(ar:Int)(aB:Int)(aW:aP.D)(bl:aY.D)(kt:List (List UInt8)):Option (aY.D×Unit) :=cond (decide ((kt.length:Int)>40)) (some ((0,([]:List UInt8),0,36,()),())) (k3 U ad 0 kt.length ar (ay (aB+1)) aW bl kt)
def lC(k3:sd)(U:af.D)(ad:Bool)(ae:Nat)(ai:Nat)(ar:Int)(aB:Int)(aW:aP.D)(bl:aY.D)(bQ:List (List UInt8)):Option (aY.D×Unit) :=cond (decide ((ai:Int)>0)) ((aL ai 0).bind fun v1 =>(dN ai 1 (ai:Int)).bind fun v2 =>(fF (U,ar,())).bind fun v3 =>cond (!List.isEmpty v3.1) ((pf (aW,J I v3.1 0,1,())).bind fun v4 =>cond (!v4.1) (some ((0,([]:List UInt8),0,13,()),())) (cond (bB (J aa.str bQ (ae+v1)) ([46]:List UInt8)) (k3 U ad (ae+v2.1) (v2.2-v2.1) ar aB aW bl bQ) (cond (bB (J aa.str bQ (ae+v1)) ([46,46]:List UInt8)) ((L8 (U,ar,())).bind fun v5 =>k3 U ad (ae+v2.1) (v2.2-v2.1) v5.1 aB aW bl bQ) (cond (decide (((J aa.str bQ (ae+v1)).length:Int)>8)) (some ((0,([]:List UInt8),0,36,()),())) (cond (!List.isEmpty v3.1) ((D6 (J I v3.1 0,J aa.str bQ (ae+v1),())).bind fun v6 =>cond (v6.1==0) (cond ((((v2.2-v2.1):Nat):Int)==0) (some ((ar,J aa.str bQ (ae+v1),0,2,()),())) (some ((0,([]:List UInt8),0,2,()),()))) ((fF (U,v6.1,())).bind fun bn =>cond (!List.isEmpty bn.1) (cond ((J I bn.1 0).2.1==3) (cond (!((((v2.2-v2.1):Nat):Int)==0)) (cond (aB==8) (some ((0,([]:List UInt8),0,40,()),())) (cond (!List.isEmpty bn.1) ((aL (((J I bn.1 0).2.2.2.2.2.1).length) 0).bind fun bM =>cond (((((J I bn.1 0).2.2.2.2.2.1).getD bM 0).toNat:Int)==47) (cond (!List.isEmpty bn.1) ((sc ((J I bn.1 0).2.2.2.2.2.1,())).bind fun v9 =>cond (room (v9.1.length +(part bQ (ae+v2.1) (v2.2-v2.1)).length)) (UU k3 U ad aB aW bl (v9.1++(part bQ (ae+v2.1) (v2.2-v2.1)))) (none)) (none)) (cond (!List.isEmpty bn.1) ((sc ((J I bn.1 0).2.2.2.2.2.1,())).bind fun v11 =>cond (room (v11.1.length +(part bQ (ae+v2.1) (v2.2-v2.1)).length)) (UW k3 U ad ar aB aW bl (v11.1++(part bQ (ae+v2.1) (v2.2-v2.1)))) (none)) (none))) (none))) (cond ad (cond (aB==8) (some ((0,([]:List UInt8),0,40,()),())) (cond (!List.isEmpty bn.1) ((aL (((J I bn.1 0).2.2.2.2.2.1).length) 0).bind fun iO =>cond (((((J I bn.1 0).2.2.2.2.2.1).getD iO 0).toNat:Int)==47) (cond (!List.isEmpty bn.1) ((sc ((J I bn.1 0).2.2.2.2.2.1,())).bind fun hU =>cond (room (hU.1.length +(part bQ (ae+v2.1) (v2.2-v2.1)).length)) (UX k3 U ad aB aW bl (hU.1++(part bQ (ae+v2.1) (v2.2-v2.1)))) (none)) (none)) (cond (!List.isEmpty bn.1) ((sc ((J I bn.1 0).2.2.2.2.2.1,())).bind fun jI =>cond (room (jI.1.length +(part bQ (ae+v2.1) (v2.2-v2.1)).length)) (UY k3 U ad ar aB aW bl (jI.1++(part bQ (ae+v2.1) (v2.2-v2.1)))) (none)) (none))) (none))) (cond ((((v2.2-v2.1):Nat):Int)==0) (some ((ar,J aa.str bQ (ae+v1),v6.1,0,()),())) (cond (!List.isEmpty bn.1) (cond ((J I bn.1 0).2.1 != 2) (some ((0,([]:List UInt8),0,20,()),())) (k3 U ad (ae+v2.1) (v2.2-v2.1) v6.1 aB aW bl bQ)) (none))))) (cond ((((v2.2-v2.1):Nat):Int)==0) (some ((ar,J aa.str bQ (ae+v1),v6.1,0,()),())) (cond (!List.isEmpty bn.1) (cond ((J I bn.1 0).2.1 != 2) (some ((0,([]:List UInt8),0,20,()),())) (k3 U ad (ae+v2.1) (v2.2-v2.1) v6.1 aB aW bl bQ)) (none)))) (none))) (none)))))) (none)) (some ((0,([]:List UInt8),ar,0,()),()))
def gh:Nat→sd | 0,_,_,_,_,_,_,_,_,_=>none | m+1,U,ad,ae,ai,ar,aB,aW,bl,bQ=>lC (gh m) U ad ae ai ar aB aW bl bQ
def L9(x:af.D×aP.D×(List UInt8)×Bool×Unit):Option (aY.D×Unit):=Ee (gh aK) x.1 x.2.1 x.2.2.1 x.2.2.2.1
def qz(a1:aQ.D)(a2:List UInt8)(a3:Bool):Option (aY.D×Unit) :=(LX (a2,())).bind fun v1 =>cond (!v1.1) (some ((0,([]:List UInt8),0,22,()),())) ((L9 (a1.1,a1.2.1,a2,a3,())).bind fun v2 =>some (v2.1,()))
def kP(x:aQ.D×(List UInt8)×Bool×Unit):Option (aY.D×Unit):=qz x.1 x.2.1 x.2.2.1
def zP(a1:aQ.D)(a2:List UInt8):Option (aY.D×Int×Unit) :=(kP (a1,a2,false,())).bind fun v1 =>cond (v1.1.2.2.2.1==2) (cond (!(bB v1.1.2.1 ([]:List UInt8))) (some (v1.1,0,())) (cond (v1.1.2.2.2.1==0) (some (v1.1,17,())) (some (v1.1,v1.1.2.2.2.1,())))) (cond (v1.1.2.2.2.1==0) (some (v1.1,17,())) (some (v1.1,v1.1.2.2.2.1,())))
def uZ(x:aQ.D×(List UInt8)×Unit):Option (aY.D×Int×Unit):=zP x.1 x.2.1
def L_(a1:aQ.D)(a2:Int):Option (Bool×Unit) :=(fF (a1.1,a2,())).bind fun v1 =>cond (!List.isEmpty v1.1) ((pf (a1.2.1,J I v1.1 0,3,())).bind fun v2 =>some (v2.1,())) (none)
def ni(x:aQ.D×Int×Unit):Option (Bool×Unit):=L_ x.1 x.2.1
def UZ(x:(List au.D)×Int×(List au.D)×Unit):Option ((List au.D)×Unit):=insF x.1 x.2.1 x.2.2.1
structure u0 where
 k2:(List UInt8)→Int→Int→Int→aQ.D→Option (aQ.D×Unit)
 bf:(List UInt8)→Int→Int→Int→aQ.D→Option (aQ.D×Unit)
def Ef(k:u0)(a1:aQ.D)(a2:Int)(a3:List UInt8)(a4:Int):Option (aQ.D×Unit) :=(xH (a1.1,a2,())).bind fun v1 =>k.k2 a3 a4 v1.1 0 (v1.2.1,a1.2.1,a1.2.2.1,())
def zQ(k:u0)(U:List UInt8)(ad:Int)(ae:Int)(ai:Int)(ar:aQ.D):Option (aQ.D×Unit) :=(aL ar.1.2.1.length ae).bind fun v1 =>cond (decide (ai<(((J I ar.1.2.1 v1).2.2.2.2.2.2.1).length:Int))) ((aL ar.1.2.1.length ae).bind fun v2 =>(aL (((J I ar.1.2.1 v2).2.2.2.2.2.2.1).length) ai).bind fun v3 =>cond (dv ((J au ((J I ar.1.2.1 v2).2.2.2.2.2.2.1) v3).1) U) (k.k2 U ad ae (ay (ai+1)) ar) (k.bf U ad ae ai ar)) (k.bf U ad ae ai ar)
def afc(ar:aQ.D)(v4:List I.D):Option (aQ.D×Unit) :=some (((ar.1.1,v4,()),ar.2.1,ar.2.2.1,()),())
def L'(k:u0)(U:List UInt8)(ad:Int)(ae:Int)(ai:Int)(ar:aQ.D):Option (aQ.D×Unit) :=(aL ar.1.2.1.length ae).bind fun v1 =>(aL ar.1.2.1.length ae).bind fun v2 =>cond (Nat.beq v2 v1) ((UZ ((J I ar.1.2.1 v1).2.2.2.2.2.2.1,ai,[(U,ad,())],())).bind fun v3 =>afc ar (ar.1.2.1.set v1 ((J I ar.1.2.1 v1).1,(J I ar.1.2.1 v1).2.1,(J I ar.1.2.1 v1).2.2.1,(J I ar.1.2.1 v1).2.2.2.1,(J I ar.1.2.1 v1).2.2.2.2.1,(J I ar.1.2.1 v1).2.2.2.2.2.1,v3.1,(J I ar.1.2.1 v1).2.2.2.2.2.2.2.1,(J I ar.1.2.1 v1).2.2.2.2.2.2.2.2.1,()))) (none)
def U0(k:u0):u0:=⟨zQ k,L' k⟩
def se:Nat→u0:=dX U0 ⟨fun _ _ _ _ _=>none,fun _ _ _ _ _=>none⟩
def sf(x:aQ.D×Int×(List UInt8)×Int×Unit):Option (aQ.D×Unit):=Ef (se aK) x.1 x.2.1 x.2.2.1 x.2.2.2.1
def Ma(a1:aQ.D):Option (Int×Unit) :=(r_ (a1.1,())).bind fun v1 =>cond (decide (v1.1>400)) (some (28,())) ((zK (a1.1.2.1,a1.1,())).bind fun v2 =>cond v2.1 (some (122,())) (some (0,())))
def nj(x:aQ.D×Unit):Option (Int×Unit):=Ma x.1
structure u1 where
 bf:aQ.D→aN.D→Option (Int×aQ.D×Unit)
 hp:aQ.D→aY.D→I.D→Option (Int×aQ.D×Unit)
def Eg(k:u1)(a1:aQ.D):Option (Int×aQ.D×Unit) :=cond (a1.2.2.1.1==10) ((xG (a1.2.2.1.2.2.1,())).bind fun v1 =>cond (!v1.1) (some (22,a1,())) (cond (a1.2.2.1.1 != 10) ((cZ (a1.2.2.1.2.2.2.1,0,2047,())).bind fun v2 =>cond (!v2.1) (some (22,a1,())) (k.bf a1 a1.2.2.1)) (k.bf a1 a1.2.2.1))) (cond (a1.2.2.1.1 != 10) ((cZ (a1.2.2.1.2.2.2.1,0,2047,())).bind fun v3 =>cond (!v3.1) (some (22,a1,())) (k.bf a1 a1.2.2.1)) (k.bf a1 a1.2.2.1))
def Mb(k:u1)(U:aQ.D)(ad:aN.D):Option (Int×aQ.D×Unit) :=(uZ (U,ad.2.1,())).bind fun v1 =>cond (v1.2.1 != 0) (some (v1.2.1,U,())) ((ni (U,v1.1.1,())).bind fun v2 =>cond (!v2.1) (some (13,U,())) ((fF (U.1,v1.1.1,())).bind fun v3 =>cond (!List.isEmpty v3.1) (cond ((((J I v3.1 0).2.2.2.2.2.2.1).length:Int)==12) (some (28,U,())) (cond ((U.1.2.1.length:Int)==24) (some (28,U,())) (cond (U.1.1==100000) (some (28,U,())) (cond (!List.isEmpty v3.1) (cond (c_ .and .i64 ((J I v3.1 0).2.2.1) 1024 != 0) (cond (!List.isEmpty v3.1) (cond (ad.1==1) (cond (!List.isEmpty v3.1) (k.hp U v1.1 (U.1.1,2,c_ .or .i64 ad.2.2.2.1 (c_ .and .i64 ((J I v3.1 0).2.2.1) 1024),U.2.1.1,(J I v3.1 0).2.2.2.2.1,([]:List UInt8),([]:List au.D),0,0,())) (none)) (cond (ad.1==10) (k.hp U v1.1 (U.1.1,3,511,U.2.1.1,(J I v3.1 0).2.2.2.2.1,ad.2.2.1,([]:List au.D),0,0,())) (k.hp U v1.1 (U.1.1,1,ad.2.2.2.1,U.2.1.1,(J I v3.1 0).2.2.2.2.1,([]:List UInt8),([]:List au.D),0,0,())))) (none)) (cond (ad.1==1) (cond (!List.isEmpty v3.1) (k.hp U v1.1 (U.1.1,2,c_ .or .i64 ad.2.2.2.1 (c_ .and .i64 ((J I v3.1 0).2.2.1) 1024),U.2.1.1,U.2.1.2.1,([]:List UInt8),([]:List au.D),0,0,())) (none)) (cond (ad.1==10) (k.hp U v1.1 (U.1.1,3,511,U.2.1.1,U.2.1.2.1,ad.2.2.1,([]:List au.D),0,0,())) (k.hp U v1.1 (U.1.1,1,ad.2.2.2.1,U.2.1.1,U.2.1.2.1,([]:List UInt8),([]:List au.D),0,0,()))))) (none))))) (none)))
def Mc(k:u1)(U:aQ.D)(ad:aY.D)(ae:I.D):Option (Int×aQ.D×Unit) :=(sf (((ay (U.1.1+1),U.1.2.1,()),U.2.1,U.2.2.1,()),ad.1,ad.2.1,ae.1,())).bind fun v1 =>cond (room (v1.1.1.2.1.length+[ae].length)) ((nj (((v1.1.1.1,v1.1.1.2.1++[ae],()),v1.1.2.1,v1.1.2.2.1,()),())).bind fun v2 =>some (v2.1,((v1.1.1.1,v1.1.1.2.1++[ae],()),v1.1.2.1,v1.1.2.2.1,()),())) (none)
def U1(k:u1):u1:=⟨Mb k,Mc k⟩
def kQ:Nat→u1:=dX U1 ⟨fun _ _=>none,fun _ _ _=>none⟩
def zR(x:aQ.D×Unit):Option (Int×aQ.D×Unit):=Eg (kQ aK) x.1
def Md(a1:aP.D)(a2:I.D)(a3:I.D):Option (Bool×Unit) :=(xM (a1,())).bind fun v1 =>cond v1.1 (cond (c_ .and .i64 a2.2.2.1 512==0) (some (true,())) (cond (a1.1==0) (some (true,())) (cond (a1.1==a2.2.2.2.1) (some (true,())) (some (a1.1==a3.2.2.2.1,()))))) (some (false,()))
def sg(x:aP.D×I.D×I.D×Unit):Option (Bool×Unit):=Md x.1 x.2.1 x.2.2.1
def afd(a1:au.D)(a2:List UInt8):Option (Bool×Unit) :=some (bB a1.1 a2,())
def Eh(x:au.D×(List UInt8)×Unit):Option (Bool×Unit):=afd x.1 x.2.1
abbrev Ei:Type:=(List au.D)→(List UInt8)→Int→Int→Option (Int×Unit)
def U2(k2:Ei)(a1:List au.D)(a2:List UInt8):Option (Int×Unit) :=k2 a1 a2 (a1.length:Int) 0
def Ej(k2:Ei)(U:List au.D)(ad:List UInt8)(ae:Int)(ai:Int):Option (Int×Unit) :=cond (decide (ai<ae)) ((aL U.length ai).bind fun v1 =>(Eh (J au U v1,ad,())).bind fun v2 =>cond v2.1 (some (ai,())) (k2 U ad ae (ay (ai+1)))) (some ((-1),()))
def xN:Nat→Ei | 0,_,_,_,_=>none | m+1,U,ad,ae,ai=>Ej (xN m) U ad ae ai
def Me(x:(List au.D)×(List UInt8)×Unit):Option (Int×Unit):=U2 (xN aK) x.1 x.2.1
abbrev xO:Type:=(List au.D)×Unit
abbrev Ek:Type:=(List UInt8)→Int→Int→(List au.D)→Option (xO)
def El(bm:Ek)(a1:List au.D)(a2:List UInt8):Option (xO) :=(Me (a1,a2,())).bind fun v1 =>cond (v1.1 ==(-1)) (some (a1,())) (bm a2 v1.1 (ay (v1.1+1)) a1)
def U3(ad:Int)(v5:List au.D):Option (xO) :=(dN v5.length 0 ad).bind fun v6 =>some (part v5 (0+v6.1) (v6.2-v6.1),())
def Em(bm:Ek)(U:List UInt8)(ad:Int)(ae:Int)(ai:List au.D):Option (xO) :=cond (decide (ae<(ai.length:Int))) ((aL ai.length ae).bind fun v1 =>(Eh (J au ai (0+v1),U,())).bind fun v2 =>cond (!v2.1) ((aL ai.length ad).bind fun v3 =>bm U (ay (ad+1)) (ay (ae+1)) (ai.set (0+v3) (J au ai (0+v1)))) (bm U ad (ay (ae+1)) ai)) ((dN ai.length ad (ai.length:Int)).bind fun v4 =>U3 ad (ai.take (0+v4.1)++List.replicate (v4.2-v4.1) ((([]:List UInt8),0,()):au.D)++ai.drop ((0+v4.1) +(v4.2-v4.1))))
def xP:Nat→Ek | 0,_,_,_,_=>none | m+1,U,ad,ae,ai=>Em (xP m) U ad ae ai
def En(x:(List au.D)×(List UInt8)×Unit):Option (xO):=El (xP aK) x.1 x.2.1
def U4(x:(List I.D)×Int×Unit):Option ((List I.D)×Unit):=cond (room x.1.length) (some (x.1.filter (fun y => !(y.1==x.2.1)),())) none
def Mf(a4:Bool)(v1:Int×af.D×Unit)(v3:Int×Unit)(a1:aQ.D)(bn:List I.D):Option (aQ.D×Unit) :=cond a4 ((xI ((v1.2.1.1,bn,()),v3.1,())).bind fun bM =>cond (bM.1==0) ((U4 (bn,v3.1,())).bind fun v9 =>some (((v1.2.1.1,v9.1,()),a1.2.1,a1.2.2.1,()),())) (some (((v1.2.1.1,bn,()),a1.2.1,a1.2.2.1,()),()))) (some (((v1.2.1.1,bn,()),a1.2.1,a1.2.2.1,()),()))
def Mg(a1:aQ.D)(a2:Int)(a3:List UInt8)(a4:Bool):Option (aQ.D×Unit) :=(xH (a1.1,a2,())).bind fun v1 =>(aL v1.2.1.2.1.length v1.1).bind fun v2 =>(D6 (J I v1.2.1.2.1 v2,a3,())).bind fun v3 =>(aL v1.2.1.2.1.length v1.1).bind fun v4 =>(aL v1.2.1.2.1.length v1.1).bind fun v5 =>cond (Nat.beq v5 v4) ((En ((J I v1.2.1.2.1 v4).2.2.2.2.2.2.1,a3,())).bind fun v6 =>Mf a4 v1 v3 a1 (v1.2.1.2.1.set v4 ((J I v1.2.1.2.1 v4).1,(J I v1.2.1.2.1 v4).2.1,(J I v1.2.1.2.1 v4).2.2.1,(J I v1.2.1.2.1 v4).2.2.2.1,(J I v1.2.1.2.1 v4).2.2.2.2.1,(J I v1.2.1.2.1 v4).2.2.2.2.2.1,v6.1,(J I v1.2.1.2.1 v4).2.2.2.2.2.2.2.1,(J I v1.2.1.2.1 v4).2.2.2.2.2.2.2.2.1,()))) (none)
def oh(x:aQ.D×Int×(List UInt8)×Bool×Unit):Option (aQ.D×Unit):=Mg x.1 x.2.1 x.2.2.1 x.2.2.2.1
structure qA where
 bm:aQ.D→aY.D→I.D→Option (Int×aQ.D×Unit)
 dG:aQ.D→aY.D→I.D→Option (Int×aQ.D×Unit)
 eb:aQ.D→aY.D→I.D→Option (Int×aQ.D×Unit)
 cC:aQ.D→aY.D→I.D→Option (Int×aQ.D×Unit)
def Eo(k:qA)(a1:aQ.D):Option (Int×aQ.D×Unit) :=(kP (a1,a1.2.2.1.2.1,false,())).bind fun v1 =>cond (v1.1.2.2.2.1 != 0) (some (v1.1.2.2.2.1,a1,())) (dup ((fF (a1.1,v1.1.2.2.1,())).bind fun v2 =>cond (!List.isEmpty v2.1) (k.bm a1 v1.1 (J I v2.1 0)) (none)))
def Mh(k:qA)(U:aQ.D)(ad:aY.D)(ae:I.D):Option (Int×aQ.D×Unit) :=cond (U.2.2.1.1==2) (cond (bB ad.2.1 ([]:List UInt8)) (some (16,U,())) (k.dG U ad ae)) (k.dG U ad ae)
def Mi(k:qA)(U:aQ.D)(ad:aY.D)(ae:I.D):Option (Int×aQ.D×Unit) :=cond (U.2.2.1.1==2) (cond (ae.2.1 != 2) (some (20,U,())) (k.eb U ad ae)) (k.eb U ad ae)
def Mj(k:qA)(U:aQ.D)(ad:aY.D)(ae:I.D):Option (Int×aQ.D×Unit) :=cond (U.2.2.1.1==8) (cond (ae.2.1==2) (some (21,U,())) (k.cC U ad ae)) (k.cC U ad ae)
def Mk(k:qA)(U:aQ.D)(ad:aY.D)(ae:I.D):Option (Int×aQ.D×Unit) :=(ni (U,ad.1,())).bind fun v1 =>cond (!v1.1) (some (13,U,())) ((fF (U.1,ad.1,())).bind fun v2 =>cond (!List.isEmpty v2.1) ((sg (U.2.1,J I v2.1 0,ae,())).bind fun v3 =>cond (!v3.1) (some (1,U,())) (cond (U.2.2.1.1==2) (cond (decide ((ae.2.2.2.2.2.2.1.length:Int)>0)) (some (39,U,())) ((oh (U,ad.1,ad.2.1,true,())).bind fun v4 =>some (0,v4.1,()))) ((oh (U,ad.1,ad.2.1,true,())).bind fun v5 =>some (0,v5.1,())))) (none))
def U5(k:qA):qA:=⟨Mh k,Mi k,Mj k,Mk k⟩
def oi:Nat→qA:=dX U5 ⟨fun _ _ _=>none,fun _ _ _=>none,fun _ _ _=>none,fun _ _ _=>none⟩
def Ep(x:aQ.D×Unit):Option (Int×aQ.D×Unit):=Eo (oi aK) x.1
def Ml(a1:af.D)(a2:Int):Option (Bool×Unit) :=(fF (a1,a2,())).bind fun v1 =>cond (!List.isEmpty v1.1) (cond (!List.isEmpty v1.1) (some ((J I v1.1 0).2.1==2,())) (none)) (some (false,()))
def zS(x:af.D×Int×Unit):Option (Bool×Unit):=Ml x.1 x.2.1
def Mm(a1:aQ.D):Option (Int×aQ.D×Unit) :=(kP (a1,a1.2.2.1.2.1,false,())).bind fun v1 =>cond (v1.1.2.2.2.1 != 0) (some (v1.1.2.2.2.1,a1,())) ((zS (a1.1,v1.1.2.2.1,())).bind fun v2 =>cond v2.1 (some (1,a1,())) ((uZ (a1,a1.2.2.1.2.2.1,())).bind fun v3 =>cond (v3.2.1 != 0) (some (v3.2.1,a1,())) ((ni (a1,v3.1.1,())).bind fun v4 =>cond (!v4.1) (some (13,a1,())) ((fF (a1.1,v3.1.1,())).bind fun v5 =>cond (!List.isEmpty v5.1) (cond ((((J I v5.1 0).2.2.2.2.2.2.1).length:Int)==12) (some (28,a1,())) ((sf (a1,v3.1.1,v3.1.2.1,v1.1.2.2.1,())).bind fun v6 =>(nj (v6.1,())).bind fun bn =>some (bn.1,v6.1,()))) (none)))))
def Er(x:aQ.D×Unit):Option (Int×aQ.D×Unit):=Mm x.1
def Mn(a1:aQ.D)(a2:I.D)(a3:aY.D):Option (Int×Unit) :=dup ((fF (a1.1,a3.2.2.1,())).bind fun v1 =>cond (!List.isEmpty v1.1) ((fF (a1.1,a3.1,())).bind fun v2 =>cond (!List.isEmpty v2.1) ((sg (a1.2.1,J I v2.1 0,J I v1.1 0,())).bind fun v3 =>cond (!v3.1) (some (1,())) (cond (a2.2.1==2) (cond ((J I v1.1 0).2.1 != 2) (some (20,())) (cond (a2.2.1==2) (cond (decide ((((J I v1.1 0).2.2.2.2.2.2.1).length:Int)>0)) (some (39,())) (cond (a2.2.1 != 2) (cond ((J I v1.1 0).2.1==2) (some (21,())) (some (0,()))) (some (0,())))) (cond (a2.2.1 != 2) (cond ((J I v1.1 0).2.1==2) (some (21,())) (some (0,()))) (some (0,()))))) (cond (a2.2.1==2) (cond (decide ((((J I v1.1 0).2.2.2.2.2.2.1).length:Int)>0)) (some (39,())) (cond (a2.2.1 != 2) (cond ((J I v1.1 0).2.1==2) (some (21,())) (some (0,()))) (some (0,())))) (cond (a2.2.1 != 2) (cond ((J I v1.1 0).2.1==2) (some (21,())) (some (0,()))) (some (0,())))))) (none)) (none))
def Es(x:aQ.D×I.D×aY.D×Unit):Option (Int×Unit):=Mn x.1 x.2.1 x.2.2.1
structure qB where
 dG:aQ.D→aY.D→aY.D→Option (Int×aQ.D×Unit)
 dr:aQ.D→aY.D→aY.D→I.D→Option (Int×aQ.D×Unit)
 qC:aQ.D→aY.D→aY.D→I.D→Option (Int×aQ.D×Unit)
 oj:aQ.D→aY.D→aY.D→Option (Int×aQ.D×Unit)
def Et(k:qB)(a1:aQ.D):Option (Int×aQ.D×Unit) :=(kP (a1,a1.2.2.1.2.1,false,())).bind fun v1 =>cond (v1.1.2.2.2.1 != 0) (some (v1.1.2.2.2.1,a1,())) ((kP (a1,a1.2.2.1.2.2.1,false,())).bind fun v2 =>cond (v2.1.2.2.2.1 != 0) (cond (v2.1.2.2.2.1 != 2) (some (v2.1.2.2.2.1,a1,())) (cond (bB v2.1.2.1 ([]:List UInt8)) (some (v2.1.2.2.2.1,a1,())) (k.dG a1 v1.1 v2.1))) (k.dG a1 v1.1 v2.1))
def Mo(k:qB)(U:aQ.D)(ad:aY.D)(ae:aY.D):Option (Int×aQ.D×Unit) :=cond (bB ad.2.1 ([]:List UInt8)) (some (16,U,())) (cond (bB ae.2.1 ([]:List UInt8)) (some (16,U,())) (dup ((fF (U.1,ad.2.2.1,())).bind fun v1 =>cond (!List.isEmpty v1.1) (k.dr U ad ae (J I v1.1 0)) (none))))
def Mp(k:qB)(U:aQ.D)(ad:aY.D)(ae:aY.D)(ai:I.D):Option (Int×aQ.D×Unit) :=(ni (U,ad.1,())).bind fun v1 =>cond (!v1.1) (some (13,U,())) ((ni (U,ae.1,())).bind fun v2 =>cond (!v2.1) (some (13,U,())) ((fF (U.1,ad.1,())).bind fun v3 =>cond (!List.isEmpty v3.1) ((sg (U.2.1,J I v3.1 0,ai,())).bind fun v4 =>cond (!v4.1) (some (1,U,())) (cond (ai.2.1==2) (cond (ae.1==ad.2.2.1) (some (22,U,())) ((uG (U.1,ad.2.2.1,())).bind fun v5 =>(r9 (v5.1,ae.1,())).bind fun v6 =>cond v6.1 (some (22,U,())) (k.qC U ad ae ai))) (k.qC U ad ae ai))) (none)))
def Mq(k:qB)(U:aQ.D)(ad:aY.D)(ae:aY.D)(ai:I.D):Option (Int×aQ.D×Unit) :=cond (ae.2.2.1==ad.2.2.1) (some (0,U,())) (cond (ae.2.2.1 != 0) ((Es (U,ai,ae,())).bind fun v1 =>cond (v1.1 != 0) (some (v1.1,U,())) ((oh (U,ae.1,ae.2.1,true,())).bind fun v2 =>k.oj v2.1 ad ae)) (cond (ad.1 != ae.1) ((fF (U.1,ae.1,())).bind fun v3 =>cond (!List.isEmpty v3.1) (cond ((((J I v3.1 0).2.2.2.2.2.2.1).length:Int)==12) (some (28,U,())) (k.oj U ad ae)) (none)) (k.oj U ad ae)))
def Mr(k:qB)(U:aQ.D)(ad:aY.D)(ae:aY.D):Option (Int×aQ.D×Unit) :=(oh (U,ad.1,ad.2.1,false,())).bind fun v1 =>(sf (v1.1,ae.1,ae.2.1,ad.2.2.1,())).bind fun v2 =>(nj (v2.1,())).bind fun v3 =>some (v3.1,v2.1,())
def U6(k:qB):qB:=⟨Mo k,Mp k,Mq k,Mr k⟩
def iP:Nat→qB:=dX U6 ⟨fun _ _ _=>none,fun _ _ _ _=>none,fun _ _ _ _=>none,fun _ _ _=>none⟩
def Eu(x:aQ.D×Unit):Option (Int×aQ.D×Unit):=Et (iP aK) x.1
abbrev U7:Type:=Int×Int×aQ.D×Unit
def Ms(a1:aQ.D)(a2:Bool):Option (U7) :=(kP (a1,a1.2.2.1.2.1,a2,())).bind fun v1 =>cond (v1.1.2.2.2.1 != 0) (some ((-1),v1.1.2.2.2.1,a1,())) ((xH (a1.1,v1.1.2.2.1,())).bind fun v2 =>some (v2.1,0,(v2.2.1,a1.2.1,a1.2.2.1,()),()))
def mh(x:aQ.D×Bool×Unit):Option (U7):=Ms x.1 x.2.1
abbrev U8:Type:=Int×Int×aQ.D×Unit
def zT(a1:aQ.D)(a2:Int):Option (U8) :=(mh (a1,true,())).bind fun v1 =>cond (v1.2.1 != 0) (some ((-1),v1.2.1,v1.2.2.1,())) ((aL v1.2.2.1.1.2.1.length v1.1).bind fun v2 =>cond ((J I v1.2.2.1.1.2.1 v2).2.1==2) (some ((-1),21,v1.2.2.1,())) ((aL v1.2.2.1.1.2.1.length v1.1).bind fun v3 =>(pf (v1.2.2.1.2.1,J I v1.2.2.1.1.2.1 v3,a2,())).bind fun v4 =>cond (!v4.1) (some ((-1),13,v1.2.2.1,())) (some (v1.1,0,v1.2.2.1,()))))
def zU(x:aQ.D×Int×Unit):Option (U8):=zT x.1 x.2.1
abbrev U9:Type:=aA.D×aQ.D×Unit
def Mt(a1:aQ.D):Option (U9) :=(zU (a1,4,())).bind fun v1 =>cond (v1.2.1 != 0) ((ec (v1.2.1,())).bind fun v2 =>some (v2.1,v1.2.2.1,())) (cond (decide (v1.2.2.1.2.2.1.2.2.2.1<0)) ((ec (22,())).bind fun v3 =>some (v3.1,v1.2.2.1,())) (cond (decide (v1.2.2.1.2.2.1.2.2.2.2.1<0)) ((ec (22,())).bind fun v4 =>some (v4.1,v1.2.2.1,())) ((aL v1.2.2.1.1.2.1.length v1.1).bind fun v5 =>(aL v1.2.2.1.1.2.1.length v1.1).bind fun v6 =>(dN (((J I v1.2.2.1.1.2.1 v5).2.2.2.2.2.1).length) (jz v1.2.2.1.2.2.1.2.2.2.1 (((J I v1.2.2.1.1.2.1 v6).2.2.2.2.2.1).length:Int)) (((J I v1.2.2.1.1.2.1 v5).2.2.2.2.2.1).length:Int)).bind fun bn =>(dN ((part ((J I v1.2.2.1.1.2.1 v5).2.2.2.2.2.1) bn.1 (bn.2-bn.1)).length) 0 (jz v1.2.2.1.2.2.1.2.2.2.2.1 (((part ((J I v1.2.2.1.1.2.1 v5).2.2.2.2.2.1) bn.1 (bn.2-bn.1)).length:Nat):Int))).bind fun bM =>some ((0,part (part ((J I v1.2.2.1.1.2.1 v5).2.2.2.2.2.1) bn.1 (bn.2-bn.1)) bM.1 (bM.2-bM.1),()),v1.2.2.1,()))))
def Ev(x:aQ.D×Unit):Option (U9):=Mt x.1
def strings_Repeat(x:(List UInt8)×Int×Unit):Option ((List UInt8)×Unit):=repF x.1 x.2.1
def Mu(a1:List UInt8)(a2:Int):Option ((List UInt8)×Unit) :=cond (decide ((a1.length:Int)≥a2)) ((dN a1.length 0 a2).bind fun v1 =>some (part a1 v1.1 (v1.2-v1.1),())) ((strings_Repeat (([0]:List UInt8),ay (a2-(a1.length:Int)),())).bind fun v2 =>cond (room (a1.length+v2.1.length)) (some (a1++v2.1,())) (none))
def Ew(x:(List UInt8)×Int×Unit):Option ((List UInt8)×Unit):=Mu x.1 x.2.1
structure sh where
 dG:Int→Int→aQ.D→Option (Int×aQ.D×Unit)
 cC:Int→Int→aQ.D→Option (Int×aQ.D×Unit)
 gD:Int→(List UInt8)→aQ.D→Option (Int×aQ.D×Unit)
def Ex(k:sh)(a1:aQ.D):Option (Int×aQ.D×Unit) :=(zU (a1,2,())).bind fun v1 =>cond (v1.2.1 != 0) (some (v1.2.1,v1.2.2.1,())) (cond (v1.2.2.1.2.2.1.1==6) ((aL v1.2.2.1.1.2.1.length v1.1).bind fun v2 =>k.dG v1.1 (((J I v1.2.2.1.1.2.1 v2).2.2.2.2.2.1).length:Int) v1.2.2.1) (k.dG v1.1 v1.2.2.1.2.2.1.2.2.2.1 v1.2.2.1))
def Mv(k:sh)(U:Int)(ad:Int)(ae:aQ.D):Option (Int×aQ.D×Unit) :=cond (decide (ad<0)) (some (22,ae,())) (cond (ae.2.2.1.1 != 7) (cond (bB ae.2.2.1.2.2.2.2.2.1 ([]:List UInt8)) (some (0,ae,())) (k.cC U ad ae)) (k.cC U ad ae))
def Mw(k:sh)(U:Int)(ad:Int)(ae:aQ.D):Option (Int×aQ.D×Unit) :=cond (decide (ay (ad +(ae.2.2.1.2.2.2.2.2.1.length:Int))>64)) (some (27,ae,())) ((aL ae.1.2.1.length U).bind fun v1 =>(Ew ((J I ae.1.2.1 v1).2.2.2.2.2.1,ad,())).bind fun v2 =>cond (ae.2.2.1.1 != 7) (cond (room (v2.1.length+ae.2.2.1.2.2.2.2.2.1.length)) ((aL ae.1.2.1.length U).bind fun v3 =>cond (decide ((((J I ae.1.2.1 v3).2.2.2.2.2.1).length:Int) >((v2.1++ae.2.2.1.2.2.2.2.2.1).length:Int))) ((aL ae.1.2.1.length U).bind fun v4 =>(dN (((J I ae.1.2.1 v4).2.2.2.2.2.1).length) ((v2.1++ae.2.2.1.2.2.2.2.2.1).length:Int) (((J I ae.1.2.1 v4).2.2.2.2.2.1).length:Int)).bind fun v5 =>cond (room ((v2.1++ae.2.2.1.2.2.2.2.2.1).length +(part ((J I ae.1.2.1 v4).2.2.2.2.2.1) v5.1 (v5.2-v5.1)).length)) (k.gD U ((v2.1++ae.2.2.1.2.2.2.2.2.1)++(part ((J I ae.1.2.1 v4).2.2.2.2.2.1) v5.1 (v5.2-v5.1))) ae) (none)) (k.gD U (v2.1++ae.2.2.1.2.2.2.2.2.1) ae)) (none)) (k.gD U v2.1 ae))
def afe(ae:aQ.D)(v2:List I.D):Option (Int×aQ.D×Unit) :=(nj (((ae.1.1,v2,()),ae.2.1,ae.2.2.1,()),())).bind fun v3 =>some (v3.1,((ae.1.1,v2,()),ae.2.1,ae.2.2.1,()),())
def Mx(k:sh)(U:Int)(ad:List UInt8)(ae:aQ.D):Option (Int×aQ.D×Unit) :=(aL ae.1.2.1.length U).bind fun v1 =>afe ae (ae.1.2.1.set v1 ((J I ae.1.2.1 v1).1,(J I ae.1.2.1 v1).2.1,(J I ae.1.2.1 v1).2.2.1,(J I ae.1.2.1 v1).2.2.2.1,(J I ae.1.2.1 v1).2.2.2.2.1,ad,(J I ae.1.2.1 v1).2.2.2.2.2.2.1,(J I ae.1.2.1 v1).2.2.2.2.2.2.2.1,(J I ae.1.2.1 v1).2.2.2.2.2.2.2.2.1,()))
def U_(k:sh):sh:=⟨Mv k,Mw k,Mx k⟩
def gn:Nat→sh:=dX U_ ⟨fun _ _ _=>none,fun _ _ _=>none,fun _ _ _=>none⟩
def Ey(x:aQ.D×Unit):Option (Int×aQ.D×Unit):=Ex (gn aK) x.1
abbrev U':Type:=aA.D×aQ.D×Unit
def My(a1:aQ.D):Option (U') :=(mh (a1,false,())).bind fun v1 =>cond (v1.2.1 != 0) ((ec (v1.2.1,())).bind fun v2 =>some (v2.1,v1.2.2.1,())) ((aL v1.2.2.1.1.2.1.length v1.1).bind fun v3 =>cond ((J I v1.2.2.1.1.2.1 v3).2.1 != 3) ((ec (22,())).bind fun v4 =>some (v4.1,v1.2.2.1,())) ((aL v1.2.2.1.1.2.1.length v1.1).bind fun v5 =>some ((0,(J I v1.2.2.1.1.2.1 v5).2.2.2.2.2.1,()),v1.2.2.1,())))
def Ez(x:aQ.D×Unit):Option (U'):=My x.1
def strings_Join(x:(List (List UInt8))×(List UInt8)×Unit):Option ((List UInt8)×Unit):=joinF x.1 x.2.1
abbrev EA:Type:=(List Int)→Int→Int→(List (List UInt8))→Option ((List UInt8)×Unit)
def Va(k3:EA)(a1:List Int):Option ((List UInt8)×Unit) :=k3 a1 (a1.length:Int) 0 ([]:List (List UInt8))
def EB(k3:EA)(U:List Int)(ad:Int)(ae:Int)(ai:List (List UInt8)):Option ((List UInt8)×Unit) :=cond (decide (ae<ad)) ((aL U.length ae).bind fun v1 =>(uS (J (aa.int .i64) U v1,())).bind fun v2 =>cond (room (ai.length+[v2.1].length)) (k3 U ad (ay (ae+1)) (ai++[v2.1])) (none)) ((strings_Join (ai,([32]:List UInt8),())).bind fun v3 =>some (v3.1,()))
def u2:Nat→EA | 0,_,_,_,_=>none | m+1,U,ad,ae,ai=>EB (u2 m) U ad ae ai
def qD(x:(List Int)×Unit):Option ((List UInt8)×Unit):=Va (u2 aK) x.1
abbrev zV:Type:=aA.D×aQ.D×Unit
abbrev EC:Type:=(List au.D)→Int→Int→aA.D→(List (List UInt8))→aQ.D→Option (zV)
def ED(mi:EC)(a1:aQ.D):Option (zV) :=(mh (a1,true,())).bind fun v1 =>cond (v1.2.1 != 0) ((ec (v1.2.1,())).bind fun v2 =>some (v2.1,v1.2.2.1,())) ((aL v1.2.2.1.1.2.1.length v1.1).bind fun v3 =>cond ((J I v1.2.2.1.1.2.1 v3).2.1 != 2) ((ec (20,())).bind fun v4 =>some (v4.1,v1.2.2.1,())) ((aL v1.2.2.1.1.2.1.length v1.1).bind fun v5 =>(pf (v1.2.2.1.2.1,J I v1.2.2.1.1.2.1 v5,4,())).bind fun v6 =>cond (!v6.1) ((ec (13,())).bind fun bn =>some (bn.1,v1.2.2.1,())) (cond (v1.2.2.1.2.2.1.1==20) ((aL v1.2.2.1.1.2.1.length v1.1).bind fun bM =>(zJ (v1.2.2.1.1,(J I v1.2.2.1.1.2.1 bM).1,())).bind fun v9 =>(aL v1.2.2.1.1.2.1.length v1.1).bind fun v10 =>(aL v1.2.2.1.1.2.1.length v1.1).bind fun v11 =>(qD ([(J I v1.2.2.1.1.2.1 v10).2.2.2.2.2.2.2.1,(J I v1.2.2.1.1.2.1 v11).2.2.2.2.2.2.2.2.1,v9.1,v9.2.1],())).bind fun v12 =>some ((0,v12.1,()),v1.2.2.1,())) ((aL v1.2.2.1.1.2.1.length v1.1).bind fun iO =>mi ((J I v1.2.2.1.1.2.1 iO).2.2.2.2.2.2.1) (((J I v1.2.2.1.1.2.1 iO).2.2.2.2.2.2.1).length:Int) 0 (0,([]:List UInt8),()) ([]:List (List UInt8)) v1.2.2.1))))
def EE(mi:EC)(U:List au.D)(ad:Int)(ae:Int)(ai:aA.D)(ar:List (List UInt8))(aB:aQ.D):Option (zV) :=cond (decide (ae<ad)) ((aL U.length ae).bind fun v1 =>cond (room (ar.length+[(J au U v1).1].length)) (mi U ad (ay (ae+1)) ai (ar++[(J au U v1).1]) aB) (none)) ((strings_Join (ar,([47]:List UInt8),())).bind fun v2 =>some ((0,v2.1,()),aB,()))
def qE:Nat→EC | 0,_,_,_,_,_,_=>none | m+1,U,ad,ae,ai,ar,aB=>EE (qE m) U ad ae ai ar aB
def zW(x:aQ.D×Unit):Option (zV):=ED (qE aK) x.1
abbrev EF:Type:=af.D→Int→(List au.D)→Int→Int→Option (Int×Unit)
def EG(bm:EF)(a1:af.D)(a2:I.D):Option (Int×Unit) :=cond (a2.2.1 != 2) ((xI (a1,a2.1,())).bind fun v1 =>some (v1.1,())) (bm a1 2 a2.2.2.2.2.2.2.1 (a2.2.2.2.2.2.2.1.length:Int) 0)
def EH(bm:EF)(U:af.D)(ad:Int)(ae:List au.D)(ai:Int)(ar:Int):Option (Int×Unit) :=cond (decide (ar<ai)) ((aL ae.length ar).bind fun v1 =>(zS (U,(J au ae v1).2.1,())).bind fun v2 =>cond v2.1 (bm U (ay (ad+1)) ae ai (ay (ar+1))) (bm U ad ae ai (ay (ar+1)))) (some (ad,()))
def si:Nat→EF | 0,_,_,_,_,_=>none | m+1,U,ad,ae,ai,ar=>EH (si m) U ad ae ai ar
def Mz(x:af.D×I.D×Unit):Option (Int×Unit):=EG (si aK) x.1 x.2.1
abbrev Vb:Type:=aA.D×aQ.D×Unit
def MA(a1:aQ.D):Option (Vb) :=(cZ (a1.2.2.1.2.2.2.1,0,1,())).bind fun v1 =>cond (!v1.1) ((ec (22,())).bind fun v2 =>some (v2.1,a1,())) ((mh (a1,a1.2.2.1.2.2.2.1==0,())).bind fun v3 =>cond (v3.2.1 != 0) ((ec (v3.2.1,())).bind fun v4 =>some (v4.1,v3.2.2.1,())) ((aL v3.2.2.1.1.2.1.length v3.1).bind fun v5 =>(aL v3.2.2.1.1.2.1.length v3.1).bind fun v6 =>(aL v3.2.2.1.1.2.1.length v3.1).bind fun bn =>(aL v3.2.2.1.1.2.1.length v3.1).bind fun bM =>(aL v3.2.2.1.1.2.1.length v3.1).bind fun v9 =>(aL v3.2.2.1.1.2.1.length v3.1).bind fun v10 =>(Mz (v3.2.2.1.1,J I v3.2.2.1.1.2.1 v9,())).bind fun v11 =>(qD ([(J I v3.2.2.1.1.2.1 v5).2.1,(J I v3.2.2.1.1.2.1 v6).2.2.1,(J I v3.2.2.1.1.2.1 bn).2.2.2.1,(J I v3.2.2.1.1.2.1 bM).2.2.2.2.1,v11.1,(((J I v3.2.2.1.1.2.1 v10).2.2.2.2.2.1).length:Int)],())).bind fun v12 =>some ((0,v12.1,()),v3.2.2.1,())))
def zX(x:aQ.D×Unit):Option (Vb):=MA x.1
abbrev EI:Type:=Int→aQ.D→Option (Int×aQ.D×Unit)
def EJ(cY:EI)(a1:aQ.D):Option (Int×aQ.D×Unit) :=(cZ (a1.2.2.1.2.2.2.1,0,2047,())).bind fun v1 =>cond (!v1.1) (some (22,a1,())) ((mh (a1,true,())).bind fun v2 =>cond (v2.2.1 != 0) (some (v2.2.1,v2.2.2.1,())) (cond (v2.2.2.1.2.1.1 != 0) ((aL v2.2.2.1.1.2.1.length v2.1).bind fun v3 =>cond (v2.2.2.1.2.1.1 !=(J I v2.2.2.1.1.2.1 v3).2.2.2.1) (some (1,v2.2.2.1,())) (cY v2.1 v2.2.2.1)) (cY v2.1 v2.2.2.1)))
def Vc(ad:aQ.D)(bn:List I.D):Option (Int×aQ.D×Unit) :=some (0,((ad.1.1,bn,()),ad.2.1,ad.2.2.1,()),())
def MB(ad:aQ.D)(U:Int)(v2:List I.D):Option (Int×aQ.D×Unit) :=cond (ad.2.1.1 != 0) ((aL v2.length U).bind fun v3 =>(uV (ad.2.1,(J I v2 v3).2.2.2.2.1,())).bind fun v4 =>cond (!v4.1) ((aL v2.length U).bind fun v5 =>(aL v2.length U).bind fun v6 =>Vc ad (v2.set v6 ((J I v2 v6).1,(J I v2 v6).2.1,c_ .andNot .i64 ((J I v2 v5).2.2.1) 1024,(J I v2 v6).2.2.2.1,(J I v2 v6).2.2.2.2.1,(J I v2 v6).2.2.2.2.2.1,(J I v2 v6).2.2.2.2.2.2.1,(J I v2 v6).2.2.2.2.2.2.2.1,(J I v2 v6).2.2.2.2.2.2.2.2.1,()))) (some (0,((ad.1.1,v2,()),ad.2.1,ad.2.2.1,()),()))) (some (0,((ad.1.1,v2,()),ad.2.1,ad.2.2.1,()),()))
def MC(cY:EI)(U:Int)(ad:aQ.D):Option (Int×aQ.D×Unit) :=(aL ad.1.2.1.length U).bind fun v1 =>MB ad U (ad.1.2.1.set v1 ((J I ad.1.2.1 v1).1,(J I ad.1.2.1 v1).2.1,ad.2.2.1.2.2.2.1,(J I ad.1.2.1 v1).2.2.2.1,(J I ad.1.2.1 v1).2.2.2.2.1,(J I ad.1.2.1 v1).2.2.2.2.2.1,(J I ad.1.2.1 v1).2.2.2.2.2.2.1,(J I ad.1.2.1 v1).2.2.2.2.2.2.2.1,(J I ad.1.2.1 v1).2.2.2.2.2.2.2.2.1,()))
def qF:Nat→EI | 0,_,_=>none | m+1,U,ad=>MC (qF m) U ad
def EK(x:aQ.D×Unit):Option (Int×aQ.D×Unit):=EJ (qF aK) x.1
abbrev EL:Type:=Int→aQ.D→Option (Int×aQ.D×Unit)
def EM(cY:EL)(a1:aQ.D):Option (Int×aQ.D×Unit) :=(cZ (a1.2.2.1.2.2.2.1,0,1000,())).bind fun v1 =>cond (!v1.1) (some (22,a1,())) ((cZ (a1.2.2.1.2.2.2.2.1,0,1000,())).bind fun v2 =>cond (!v2.1) (some (22,a1,())) ((mh (a1,true,())).bind fun v3 =>cond (v3.2.1 != 0) (some (v3.2.1,v3.2.2.1,())) (cond (v3.2.2.1.2.1.1 != 0) ((aL v3.2.2.1.1.2.1.length v3.1).bind fun v4 =>cond (v3.2.2.1.2.1.1 !=(J I v3.2.2.1.1.2.1 v4).2.2.2.1) (some (1,v3.2.2.1,())) ((aL v3.2.2.1.1.2.1.length v3.1).bind fun v5 =>cond (v3.2.2.1.2.2.1.2.2.2.1 !=(J I v3.2.2.1.1.2.1 v5).2.2.2.1) (some (1,v3.2.2.1,())) ((uV (v3.2.2.1.2.1,v3.2.2.1.2.2.1.2.2.2.2.1,())).bind fun v6 =>cond (!v6.1) (some (1,v3.2.2.1,())) (cY v3.1 v3.2.2.1)))) (cY v3.1 v3.2.2.1))))
def Vd(ad:aQ.D)(v4:List I.D):Option (Int×aQ.D×Unit) :=some (0,((ad.1.1,v4,()),ad.2.1,ad.2.2.1,()),())
def MD(U:Int)(ad:aQ.D)(v2:List I.D):Option (Int×aQ.D×Unit) :=(aL v2.length U).bind fun v3 =>Vd ad (v2.set v3 ((J I v2 v3).1,(J I v2 v3).2.1,(J I v2 v3).2.2.1,(J I v2 v3).2.2.2.1,ad.2.2.1.2.2.2.2.1,(J I v2 v3).2.2.2.2.2.1,(J I v2 v3).2.2.2.2.2.2.1,(J I v2 v3).2.2.2.2.2.2.2.1,(J I v2 v3).2.2.2.2.2.2.2.2.1,()))
def ME(cY:EL)(U:Int)(ad:aQ.D):Option (Int×aQ.D×Unit) :=(aL ad.1.2.1.length U).bind fun v1 =>MD U ad (ad.1.2.1.set v1 ((J I ad.1.2.1 v1).1,(J I ad.1.2.1 v1).2.1,(J I ad.1.2.1 v1).2.2.1,ad.2.2.1.2.2.2.1,(J I ad.1.2.1 v1).2.2.2.2.1,(J I ad.1.2.1 v1).2.2.2.2.2.1,(J I ad.1.2.1 v1).2.2.2.2.2.2.1,(J I ad.1.2.1 v1).2.2.2.2.2.2.2.1,(J I ad.1.2.1 v1).2.2.2.2.2.2.2.2.1,()))
def qG:Nat→EL | 0,_,_=>none | m+1,U,ad=>ME (qG m) U ad
def EN(x:aQ.D×Unit):Option (Int×aQ.D×Unit):=EM (qG aK) x.1
def MF(a1:aQ.D):Option (Int×aQ.D×Unit) :=(cZ (a1.2.2.1.2.2.2.1,0,7,())).bind fun v1 =>cond (!v1.1) (some (22,a1,())) ((mh (a1,true,())).bind fun v2 =>cond (v2.2.1 != 0) (some (v2.2.1,v2.2.2.1,())) ((aL v2.2.2.1.1.2.1.length v2.1).bind fun v3 =>(pf (v2.2.2.1.2.1,J I v2.2.2.1.1.2.1 v3,v2.2.2.1.2.2.1.2.2.2.1,())).bind fun v4 =>cond (!v4.1) (some (13,v2.2.2.1,())) (some (0,v2.2.2.1,()))))
def EO(x:aQ.D×Unit):Option (Int×aQ.D×Unit):=MF x.1
def MG(v3:Int×Int×aQ.D×Unit)(bM:List I.D):Option (Int×aQ.D×Unit) :=(nj (((v3.2.2.1.1.1,bM,()),v3.2.2.1.2.1,v3.2.2.1.2.2.1,()),())).bind fun v9 =>some (v9.1,((v3.2.2.1.1.1,bM,()),v3.2.2.1.2.1,v3.2.2.1.2.2.1,()),())
def EP(v3:Int×Int×aQ.D×Unit)(v6:List I.D):Option (Int×aQ.D×Unit) :=(aL v6.length v3.1).bind fun bn =>MG v3 (v6.set bn ((J I v6 bn).1,(J I v6 bn).2.1,(J I v6 bn).2.2.1,(J I v6 bn).2.2.2.1,(J I v6 bn).2.2.2.2.1,(J I v6 bn).2.2.2.2.2.1,(J I v6 bn).2.2.2.2.2.2.1,(J I v6 bn).2.2.2.2.2.2.2.1,v3.2.2.1.2.2.1.2.2.2.2.1,()))
def MH(a1:aQ.D):Option (Int×aQ.D×Unit) :=(cZ (a1.2.2.1.2.2.2.1,0,400,())).bind fun v1 =>cond (!v1.1) (some (22,a1,())) ((cZ (a1.2.2.1.2.2.2.2.1,0,24,())).bind fun v2 =>cond (!v2.1) (some (22,a1,())) (cond (a1.2.1.1 != 0) (some (1,a1,())) ((mh (a1,true,())).bind fun v3 =>cond (v3.2.1 != 0) (some (v3.2.1,v3.2.2.1,())) ((aL v3.2.2.1.1.2.1.length v3.1).bind fun v4 =>cond ((J I v3.2.2.1.1.2.1 v4).2.1 != 2) (some (20,v3.2.2.1,())) ((aL v3.2.2.1.1.2.1.length v3.1).bind fun v5 =>EP v3 (v3.2.2.1.1.2.1.set v5 ((J I v3.2.2.1.1.2.1 v5).1,(J I v3.2.2.1.1.2.1 v5).2.1,(J I v3.2.2.1.1.2.1 v5).2.2.1,(J I v3.2.2.1.1.2.1 v5).2.2.2.1,(J I v3.2.2.1.1.2.1 v5).2.2.2.2.1,(J I v3.2.2.1.1.2.1 v5).2.2.2.2.2.1,(J I v3.2.2.1.1.2.1 v5).2.2.2.2.2.2.1,v3.2.2.1.2.2.1.2.2.2.1,(J I v3.2.2.1.1.2.1 v5).2.2.2.2.2.2.2.2.1,())))))))
def ER(x:aQ.D×Unit):Option (Int×aQ.D×Unit):=MH x.1
abbrev j3:Type:=aA.D×aQ.D×Unit
structure nk where
 bm:aQ.D→aA.D→Option (j3)
 dJ:Int→aQ.D→aA.D→Option (j3)
 cY:aQ.D→aA.D→Option (j3)
 eb:Int→aQ.D→aA.D→Option (j3)
 gD:aQ.D→aA.D→Option (j3)
 j4:Int→aQ.D→aA.D→Option (j3)
 ph:Int→aQ.D→aA.D→Option (j3)
def ES(k:nk)(a1:aQ.D):Option (j3) :=cond (a1.2.2.1.1==1) (cond (a1.2.2.1.1==1) (k.bm a1 (0,([]:List UInt8),())) (k.dJ a1.2.2.1.1 a1 (0,([]:List UInt8),()))) (cond (a1.2.2.1.1==3) (cond (a1.2.2.1.1==3) (k.bm a1 (0,([]:List UInt8),())) (k.dJ a1.2.2.1.1 a1 (0,([]:List UInt8),()))) (cond (a1.2.2.1.1==10) (k.bm a1 (0,([]:List UInt8),())) (k.dJ a1.2.2.1.1 a1 (0,([]:List UInt8),()))))
def aff(k:nk)(U:aQ.D)(ad:aA.D):Option (j3) :=(zR (U,())).bind fun v1 =>(ec (v1.1,())).bind fun v2 =>some (v2.1,v1.2.1,())
def afg(k:nk)(U:Int)(ad:aQ.D)(ae:aA.D):Option (j3) :=cond (U==2) (cond (U==2) (k.cY ad ae) (k.eb U ad ae)) (cond (U==8) (k.cY ad ae) (k.eb U ad ae))
def afh(k:nk)(U:aQ.D)(ad:aA.D):Option (j3) :=(Ep (U,())).bind fun v1 =>(ec (v1.1,())).bind fun v2 =>some (v2.1,v1.2.1,())
def afi(k:nk)(U:Int)(ad:aQ.D)(ae:aA.D):Option (j3) :=cond (U==9) ((Er (ad,())).bind fun v1 =>(ec (v1.1,())).bind fun v2 =>some (v2.1,v1.2.1,())) (cond (U==12) ((Eu (ad,())).bind fun v3 =>(ec (v3.1,())).bind fun v4 =>some (v4.1,v3.2.1,())) (cond (U==4) ((Ev (ad,())).bind fun v5 =>some (v5.1,v5.2.1,())) (cond (U==5) (cond (U==5) (k.gD ad ae) (k.j4 U ad ae)) (cond (U==6) (cond (U==6) (k.gD ad ae) (k.j4 U ad ae)) (cond (U==7) (k.gD ad ae) (k.j4 U ad ae))))))
def afj(k:nk)(U:aQ.D)(ad:aA.D):Option (j3) :=(Ey (U,())).bind fun v1 =>(ec (v1.1,())).bind fun v2 =>some (v2.1,v1.2.1,())
def afk(k:nk)(U:Int)(ad:aQ.D)(ae:aA.D):Option (j3) :=cond (U==11) ((Ez (ad,())).bind fun v1 =>some (v1.1,v1.2.1,())) (cond (U==13) (cond (U==13) ((zW (ad,())).bind fun v2 =>some (v2.1,v2.2.1,())) (k.ph U ad ae)) (cond (U==20) ((zW (ad,())).bind fun v3 =>some (v3.1,v3.2.1,())) (k.ph U ad ae)))
def afl(k:nk)(U:Int)(ad:aQ.D)(ae:aA.D):Option (j3) :=cond (U==14) ((zX (ad,())).bind fun v1 =>some (v1.1,v1.2.1,())) (cond (U==15) ((EK (ad,())).bind fun v2 =>(ec (v2.1,())).bind fun v3 =>some (v3.1,v2.2.1,())) (cond (U==16) ((EN (ad,())).bind fun v4 =>(ec (v4.1,())).bind fun v5 =>some (v5.1,v4.2.1,())) (cond (U==17) ((EO (ad,())).bind fun v6 =>(ec (v6.1,())).bind fun bn =>some (bn.1,v6.2.1,())) (cond (U==18) ((r_ (ad.1,())).bind fun bM =>(qD ([(ad.1.2.1.length:Int),bM.1],())).bind fun v9 =>some ((0,v9.1,()),ad,())) ((ER (ad,())).bind fun v10 =>(ec (v10.1,())).bind fun v11 =>some (v11.1,v10.2.1,()))))))
def Ve(k:nk):nk:=⟨aff k,afg k,afh k,afi k,afj k,afk k,afl k⟩
def MI:Nat→nk:=dX Ve ⟨fun _ _=>none,fun _ _ _=>none,fun _ _=>none,fun _ _ _=>none,fun _ _=>none,fun _ _ _=>none,fun _ _ _=>none⟩
def ET(x:aQ.D×Unit):Option (j3):=ES (MI aK) x.1
abbrev Vf:Type:=af.D×aA.D×Unit
def MJ(a1:af.D)(a2:aP.D)(a3:aN.D):Option (Vf) :=(xM (a2,())).bind fun v1 =>cond (!v1.1) ((qw (a1,())).bind fun v2 =>(ec (22,())).bind fun v3 =>some (v2.1,v3.1,())) ((zL (a3,())).bind fun v4 =>cond (!v4.1) ((qw (a1,())).bind fun v5 =>(ec (22,())).bind fun v6 =>some (v5.1,v6.1,())) (cond (decide (a3.1>20)) ((qw (a1,())).bind fun bn =>(ec (22,())).bind fun bM =>some (bn.1,bM.1,())) ((qw (a1,())).bind fun v9 =>(ET ((v9.1,a2,a3,()),())).bind fun v10 =>cond (v10.1.1 != 0) ((qw (a1,())).bind fun v11 =>some (v11.1,v10.1,())) (some (v10.2.1.1,v10.1,())))))
def zY(x:af.D×aP.D×aN.D×Unit):Option (Vf):=MJ x.1 x.2.1 x.2.2.1
abbrev qH:Type:=aA.D×aM.D×Unit
structure sj where
 dr:aM.D→aN.D→aA.D→aP.D→Option (qH)
 eX:aM.D→aN.D→aA.D→aP.D→Option (qH)
 j4:aM.D→aN.D→aA.D→aP.D→Option (qH)
def EU(k:sj)(a1:aM.D)(a2:Int)(a3:aN.D):Option (qH) :=(zL (a3,())).bind fun v1 =>cond (!v1.1) ((ec (22,())).bind fun v2 =>some (v2.1,a1,())) ((LJ (a1.2.1,a3.1,())).bind fun v3 =>cond (!v3.2.1) ((ec (11,())).bind fun v4 =>some (v4.1,a1,())) ((LL (a2,())).bind fun v5 =>cond (a3.1==21) (cond (v5.1.1 != 0) ((ec (1,())).bind fun v6 =>some (v6.1,(a1.1,v3.1,a1.2.2.1,a1.2.2.2.1,()),())) (k.dr (a1.1,v3.1,a1.2.2.1,a1.2.2.2.1,()) a3 (0,([]:List UInt8),()) v5.1)) (cond (a3.1==22) (cond (v5.1.1 != 0) ((ec (1,())).bind fun bn =>some (bn.1,(a1.1,v3.1,a1.2.2.1,a1.2.2.2.1,()),())) (k.dr (a1.1,v3.1,a1.2.2.1,a1.2.2.2.1,()) a3 (0,([]:List UInt8),()) v5.1)) (k.dr (a1.1,v3.1,a1.2.2.1,a1.2.2.2.1,()) a3 (0,([]:List UInt8),()) v5.1))))
def xQ(k:sj)(U:aM.D)(ad:aN.D)(ae:aA.D)(ai:aP.D):Option (qH) :=cond (ad.1==21) (cond (decide (ad.2.2.2.1<0)) ((ec (22,())).bind fun v1 =>some (v1.1,U,())) (k.eX U ad ae ai)) (k.eX U ad ae ai)
def xR(k:sj)(U:aM.D)(ad:aN.D)(ae:aA.D)(ai:aP.D):Option (qH) :=cond (ad.1==21) ((LP (U.2.2.1,ad.2.2.2.1,())).bind fun v1 =>some ((0,v1.1,()),U,())) (cond (ad.1==22) (some ((0,([]:List UInt8),()),(U.1,U.2.1,([]:List aE.D),U.2.2.2.1,()),())) ((zM (ad.1,())).bind fun v2 =>cond (!v2.1) (cond ((U.2.2.1.length:Int)==20) ((ec (28,())).bind fun v3 =>some (v3.1,U,())) (k.j4 U ad ae ai)) (k.j4 U ad ae ai)))
def MK(k:sj)(U:aM.D)(ad:aN.D)(ae:aA.D)(ai:aP.D):Option (qH) :=both ((zY (U.1,ai,ad,())).bind fun v1 =>dup (some (v1.2.1,(v1.1,U.2.1,U.2.2.1,U.2.2.2.1,()),()))) (dup (dup ((zY (U.1,ai,ad,())).bind fun v1 =>some (v1.2.1,(v1.1,U.2.1,U.2.2.1,U.2.2.2.1,()),()))))
def Vg(k:sj):sj:=⟨xQ k,xR k,MK k⟩
def lD:Nat→sj:=dX Vg ⟨fun _ _ _ _=>none,fun _ _ _ _=>none,fun _ _ _ _=>none⟩
def EV(x:aM.D×Int×aN.D×Unit):Option (qH):=EU (lD aK) x.1 x.2.1 x.2.2.1
abbrev mj:Type:=aA.D×Bool×aM.D×Unit
structure qI where
 dr:Int→Int→Int→Bool→aM.D→aN.D→aA.D→aA.D→Option (mj)
 cC:Int→Int→Int→aM.D→aN.D→aA.D→aA.D→Option (mj)
 eX:Int→Int→Int→aM.D→aA.D→aA.D→Option (mj)
def EW(k:qI)(a1:aM.D)(a2:Int)(a3:Int)(a4:aN.D)(a5:Int):Option (mj) :=(cZ (a2,1,3,())).bind fun v1 =>cond (!v1.1) (some ((0,([]:List UInt8),()),false,a1,())) ((cZ (a3,1,1000000,())).bind fun v2 =>cond (!v2.1) (some ((0,([]:List UInt8),()),false,a1,())) ((cZ (a5,1,100000,())).bind fun v3 =>cond (!v3.1) (some ((0,([]:List UInt8),()),false,a1,())) ((LB (a1,a5,())).bind fun v4 =>cond v4.1 (some ((0,([]:List UInt8),()),false,a1,())) ((LD (a1,a2,())).bind fun v5 =>cond (a3==v5.1.2.1) (some (v5.1.2.2.2.1,false,a1,())) (cond (a3 != ay (v5.1.2.1+1)) (some ((0,([]:List UInt8),()),false,a1,())) ((EV (a1,a2,a4,())).bind fun v6 =>cond (a4.1==22) (k.dr a2 a3 a5 (v6.1.1==0) v6.2.1 a4 (0,([]:List UInt8),()) v6.1) (k.dr a2 a3 a5 false v6.2.1 a4 (0,([]:List UInt8),()) v6.1)))))))
def ML(k:qI)(U:Int)(ad:Int)(ae:Int)(ai:Bool)(ar:aM.D)(aB:aN.D)(aW:aA.D)(bl:aA.D):Option (mj) :=cond (decide ((ar.2.2.1.length:Int)<20)) ((zL (aB,())).bind fun v1 =>cond v1.1 ((zM (aB.1,())).bind fun v2 =>cond (!v2.1) (cond (!ai) (k.cC U ad ae ar aB aW bl) (k.eX U ad ae ar aW bl)) (cond (bl.1 != 0) (cond (!ai) (k.cC U ad ae ar aB aW bl) (k.eX U ad ae ar aW bl)) (k.eX U ad ae ar aW bl))) (k.eX U ad ae ar aW bl)) (k.eX U ad ae ar aW bl)
def afm(k:qI)(U:Int)(ad:Int)(ae:Int)(ai:aM.D)(aB:aA.D)(aW:aA.D)(v1:List aE.D):Option (mj) :=k.eX U ad ae (ai.1,ai.2.1,v1,ai.2.2.2.1,()) aB aW
def MM(k:qI)(U:Int)(ad:Int)(ae:Int)(ai:aM.D)(ar:aN.D)(aB:aA.D)(aW:aA.D):Option (mj) :=cond (room (ai.2.2.1.length+[(ae,U,ad,ar.1,aW.1,())].length)) (afm k U ad ae ai aB aW (ai.2.2.1++[(ae,U,ad,ar.1,aW.1,())])) (none)
def afn(aB:aA.D)(ai:aM.D)(v3:List aO.D):Option (mj) :=some (aB,true,(ai.1,ai.2.1,ai.2.2.1,v3,()),())
def afo(aB:aA.D)(ai:aM.D)(bn:List aO.D):Option (mj) :=some (aB,true,(ai.1,ai.2.1,ai.2.2.1,bn,()),())
def Vh(ai:aM.D)(v4:Nat×Nat)(aB:aA.D)(v6:List aO.D):Option (mj) :=cond (room ((part ai.2.2.2.1 (0+v4.1) (v4.2-v4.1)).length+v6.length)) (afo aB ai ((part ai.2.2.2.1 (0+v4.1) (v4.2-v4.1))++v6)) (none)
def MN(k:qI)(U:Int)(ad:Int)(ae:Int)(ai:aM.D)(ar:aA.D)(aB:aA.D):Option (mj) :=(DU (ai,U,())).bind fun v1 =>cond v1.2.1 ((aL ai.2.2.2.1.length v1.1).bind fun v2 =>afn aB ai (ai.2.2.2.1.set (0+v2) (U,ad,ae,aB,()))) (cond (decide (v1.1=v1.1)) ((dN ai.2.2.2.1.length 0 v1.1).bind fun v4 =>(dN ai.2.2.2.1.length v1.1 (ai.2.2.2.1.length:Int)).bind fun v5 =>cond (room ([(U,ad,ae,aB,())].length +(part ai.2.2.2.1 (0+v5.1) (v5.2-v5.1)).length)) (Vh ai v4 aB ([(U,ad,ae,aB,())]++(part ai.2.2.2.1 (0+v5.1) (v5.2-v5.1)))) (none)) (none))
def Vi(k:qI):qI:=⟨ML k,MM k,MN k⟩
def qJ:Nat→qI:=dX Vi ⟨fun _ _ _ _ _ _ _ _=>none,fun _ _ _ _ _ _ _=>none,fun _ _ _ _ _ _=>none⟩
def EX(x:aM.D×Int×Int×aN.D×Int×Unit):Option (mj):=EW (qJ aK) x.1 x.2.1 x.2.2.1 x.2.2.2.1 x.2.2.2.2.1
abbrev Vj:Type:=aM.D×aA.D×Bool×Unit
def MO(a1:aM.D)(a2:Int)(a3:Int)(a4:aN.D)(a5:Int):Option (Vj) :=(Lx (a1,())).bind fun v1 =>cond (!v1.1) (some (((0,([]:List I.D),()),0,([]:List aE.D),([]:List aO.D),()),(0,([]:List UInt8),()),false,())) ((LA (a1,())).bind fun v2 =>(EX (v2.1,a2,a3,a4,a5,())).bind fun v3 =>some (v3.2.2.1,v3.1,v3.2.1,()))
def lE(x:aM.D×Int×Int×aN.D×Int×Unit):Option (Vj):=MO x.1 x.2.1 x.2.2.1 x.2.2.2.1 x.2.2.2.2.1
def MP(a1:Int)(a2:Int)(a3:Int):Option (Bool×Unit) :=cond (decide (a1≥a2)) (some (decide (a1≤a3),())) (some (false,()))
def cS(x:Int×Int×Int×Unit):Option (Bool×Unit):=MP x.1 x.2.1 x.2.2.1
def MQ(a1:Int):Option (Bool×Unit) :=cond (decide (a1≥97)) (cond (decide (a1≤122)) (some (true,())) (cond (decide (a1≥48)) (cond (decide (a1≤57)) (some (true,())) (cond (a1==46) (some (true,())) (cond (a1==95) (some (true,())) (some (a1==45,()))))) (cond (a1==46) (some (true,())) (cond (a1==95) (some (true,())) (some (a1==45,())))))) (cond (decide (a1≥48)) (cond (decide (a1≤57)) (some (true,())) (cond (a1==46) (some (true,())) (cond (a1==95) (some (true,())) (some (a1==45,()))))) (cond (a1==46) (some (true,())) (cond (a1==95) (some (true,())) (some (a1==45,())))))
def zZ(x:Int×Unit):Option (Bool×Unit):=MQ x.1
abbrev EY:Type:=(List UInt8)→Int→Option (Bool×Unit)
def EZ(bf:EY)(a1:List UInt8):Option (Bool×Unit) :=(cS ((a1.length:Int),1,60,())).bind fun v1 =>cond (!v1.1) (some (false,())) (bf a1 0)
def E0(bf:EY)(U:List UInt8)(ad:Int):Option (Bool×Unit) :=cond (decide (ad<(U.length:Int))) ((aL U.length ad).bind fun v1 =>cond (((U.getD v1 0).toNat:Int) != 47) ((aL U.length ad).bind fun v2 =>(zZ (((U.getD v2 0).toNat:Int),())).bind fun v3 =>cond (!v3.1) (some (false,())) (bf U (ay (ad+1)))) (bf U (ay (ad+1)))) (some (true,()))
def u3:Nat→EY | 0,_,_=>none | m+1,U,ad=>E0 (u3 m) U ad
def z1(x:(List UInt8)×Unit):Option (Bool×Unit):=EZ (u3 aK) x.1
abbrev E1:Type:=(List UInt8)→Int→Option (Bool×Unit)
def E2(bf:E1)(a1:List UInt8):Option (Bool×Unit) :=(cS ((a1.length:Int),1,8,())).bind fun v1 =>cond (!v1.1) (some (false,())) (cond (bB a1 ([46]:List UInt8)) (some (false,())) (cond (bB a1 ([46,46]:List UInt8)) (some (false,())) (bf a1 0)))
def E3(bf:E1)(U:List UInt8)(ad:Int):Option (Bool×Unit) :=cond (decide (ad<(U.length:Int))) ((aL U.length ad).bind fun v1 =>(zZ (((U.getD v1 0).toNat:Int),())).bind fun v2 =>cond (!v2.1) (some (false,())) (bf U (ay (ad+1)))) (some (true,()))
def sk:Nat→E1 | 0,_,_=>none | m+1,U,ad=>E3 (sk m) U ad
def MR(x:(List UInt8)×Unit):Option (Bool×Unit):=E2 (sk aK) x.1
abbrev E4:Type:=Int→Int→af.D→Option (Int×Unit)
def E5(k2:E4)(a1:af.D)(a2:Int):Option (Int×Unit) :=k2 a2 0 a1
def E6(k2:E4)(U:Int)(ad:Int)(ae:af.D):Option (Int×Unit) :=cond (decide (ad<(ae.2.1.length:Int))) ((aL ae.2.1.length ad).bind fun v1 =>cond ((J I ae.2.1 v1).1==U) (some (ad,())) (k2 U (ay (ad+1)) ae)) (some ((-1),()))
def u4:Nat→E4 | 0,_,_,_=>none | m+1,U,ad,ae=>E6 (u4 m) U ad ae
def kR(x:af.D×Int×Unit):Option (Int×Unit):=E5 (u4 aK) x.1 x.2.1
structure u5 where
 bf:Bool→af.D→I.D→Option (Bool×Unit)
 mi:Int→af.D→I.D→Option (Bool×Unit)
def E7(k:u5)(a1:af.D)(a2:I.D):Option (Bool×Unit) :=(cS (a2.2.2.1,0,2047,())).bind fun v1 =>cond (!v1.1) (some (false,())) ((cS (a2.2.2.2.1,0,1000,())).bind fun v2 =>cond (!v2.1) (some (false,())) ((cS (a2.2.2.2.2.1,0,1000,())).bind fun v3 =>cond (!v3.1) (some (false,())) (cond ((a2.2.2.2.2.2.2.1.length:Int)==0) (cond (a2.2.2.2.2.2.2.2.1==0) (k.bf (a2.2.2.2.2.2.2.2.2.1==0) a1 a2) (k.bf false a1 a2)) (k.bf false a1 a2))))
def MS(k:u5)(U:Bool)(ad:af.D)(ae:I.D):Option (Bool×Unit) :=cond (ae.2.1==1) (cond U (some (decide ((ae.2.2.2.2.2.1.length:Int)≤64),())) (some (false,()))) (cond (ae.2.1==3) (cond U ((z1 (ae.2.2.2.2.2.1,())).bind fun v1 =>cond v1.1 (some (ae.2.2.1==511,())) (some (false,()))) (some (false,()))) (cond (ae.2.1==2) (cond (!(bB ae.2.2.2.2.2.1 ([]:List UInt8))) (some (false,())) (cond (decide ((ae.2.2.2.2.2.2.1.length:Int)>12)) (some (false,())) ((cS (ae.2.2.2.2.2.2.2.1,0,400,())).bind fun v2 =>cond (!v2.1) (some (false,())) ((cS (ae.2.2.2.2.2.2.2.2.1,0,24,())).bind fun v3 =>cond (!v3.1) (some (false,())) (k.mi 0 ad ae))))) (some (false,()))))
def z6(k:u5)(U:Int)(ad:af.D)(ae:I.D):Option (Bool×Unit) :=cond (decide (U<(ae.2.2.2.2.2.2.1.length:Int))) ((aL ae.2.2.2.2.2.2.1.length U).bind fun v1 =>(MR ((J au ae.2.2.2.2.2.2.1 v1).1,())).bind fun v2 =>cond (!v2.1) (some (false,())) (cond (decide (U>0)) ((aL ae.2.2.2.2.2.2.1.length (ay (U-1))).bind fun v3 =>cond (!(dv ((J au ae.2.2.2.2.2.2.1 v3).1) ((J au ae.2.2.2.2.2.2.1 v1).1))) (some (false,())) (cond ((J au ae.2.2.2.2.2.2.1 v1).2.1==1) (some (false,())) ((kR (ad,(J au ae.2.2.2.2.2.2.1 v1).2.1,())).bind fun v4 =>cond (decide (v4.1<0)) (some (false,())) (k.mi (ay (U+1)) ad ae)))) (cond ((J au ae.2.2.2.2.2.2.1 v1).2.1==1) (some (false,())) ((kR (ad,(J au ae.2.2.2.2.2.2.1 v1).2.1,())).bind fun v5 =>cond (decide (v5.1<0)) (some (false,())) (k.mi (ay (U+1)) ad ae))))) (some (true,()))
def Vk(k:u5):u5:=⟨MS k,z6 k⟩
def qK:Nat→u5:=dX Vk ⟨fun _ _ _=>none,fun _ _ _=>none⟩
def E8(x:af.D×I.D×Unit):Option (Bool×Unit):=E7 (qK aK) x.1 x.2.1
structure qL where
 cY:Int→af.D→(List Bool)→(List Bool)→Option ((List Bool)×Unit)
 cC:Int→Int→af.D→(List Bool)→(List Bool)→Option ((List Bool)×Unit)
 E9:Int→Int→Int→af.D→(List Bool)→(List Bool)→Option ((List Bool)×Unit)
def afp(k:qL)(a1:af.D)(v3:List Bool):Option ((List Bool)×Unit) :=k.cY 0 a1 (List.replicate (Int.toNat (a1.2.1.length:Int)) (false:Bool)) v3
def E_(k:qL)(a1:af.D)(a2:Int):Option ((List Bool)×Unit) :=cond (decide (0≤(a1.2.1.length:Int))&&decide ((a1.2.1.length:Int)=(a1.2.1.length:Int))&&room (Int.toNat (a1.2.1.length:Int))) (cond (decide (0≤(a1.2.1.length:Int))&&decide ((a1.2.1.length:Int)=(a1.2.1.length:Int))&&room (Int.toNat (a1.2.1.length:Int))) ((kR (a1,a2,())).bind fun v1 =>cond (decide (v1.1<0)) (some (List.replicate (Int.toNat (a1.2.1.length:Int)) (false:Bool),())) ((aL ((List.replicate (Int.toNat (a1.2.1.length:Int)) (false:Bool)).length) v1.1).bind fun v2 =>afp k a1 ((List.replicate (Int.toNat (a1.2.1.length:Int)) (false:Bool)).set (0+v2) true))) (none)) (none)
def z7(k:qL)(U:Int)(ad:af.D)(ae:List Bool)(ai:List Bool):Option ((List Bool)×Unit) :=cond (decide (U<(ad.2.1.length:Int))) (k.cC U 0 ad ae ai) (some (ae,()))
def u6(k:qL)(U:Int)(ad:Int)(ae:af.D)(ai:List Bool)(ar:List Bool):Option ((List Bool)×Unit) :=cond (decide (ad<(ae.2.1.length:Int))) ((aL ar.length ad).bind fun v1 =>cond (!(J aa.bool ar (0+v1))) (k.cC U (ay (ad+1)) ae ai ar) (k.E9 U ad 0 ae ai ar)) (k.cY (ay (U+1)) ae ai ar)
def z8(k:qL)(U:Int)(ad:Int)(ae:Int)(ai:af.D)(ar:List Bool)(aB:List Bool):Option ((List Bool)×Unit) :=(aL ai.2.1.length ad).bind fun v1 =>cond (decide (ae<(((J I ai.2.1 v1).2.2.2.2.2.2.1).length:Int))) ((aL ai.2.1.length ad).bind fun v2 =>(aL (((J I ai.2.1 v2).2.2.2.2.2.2.1).length) ae).bind fun v3 =>(kR (ai,(J au ((J I ai.2.1 v2).2.2.2.2.2.2.1) v3).2.1,())).bind fun v4 =>cond (decide (v4.1≥0)) ((aL ar.length v4.1).bind fun v5 =>(aL aB.length v4.1).bind fun v6 =>k.E9 U ad (ay (ae+1)) ai (ar.set (0+v5) true) (aB.set (0+v6) true)) (k.E9 U ad (ay (ae+1)) ai ar aB)) (k.cC U (ay (ad+1)) ai ar aB)
def Vl(k:qL):qL:=⟨z7 k,u6 k,z8 k⟩
def j5:Nat→qL:=dX Vl ⟨fun _ _ _ _=>none,fun _ _ _ _ _=>none,fun _ _ _ _ _ _=>none⟩
def E'(x:af.D×Int×Unit):Option ((List Bool)×Unit):=E_ (j5 aK) x.1 x.2.1
structure u7 where
 k3:Int→Int→Int→af.D→Option (Int×Unit)
 dJ:Int→Int→Int→Int→af.D→Option (Int×Unit)
def Fa(k:u7)(a1:af.D)(a2:Int):Option (Int×Unit) :=k.k3 a2 0 0 a1
def z_(k:u7)(U:Int)(ad:Int)(ae:Int)(ai:af.D):Option (Int×Unit) :=cond (decide (ae<(ai.2.1.length:Int))) (k.dJ U ad ae 0 ai) (some (ad,()))
def z'(k:u7)(U:Int)(ad:Int)(ae:Int)(ai:Int)(ar:af.D):Option (Int×Unit) :=(aL ar.2.1.length ae).bind fun v1 =>cond (decide (ai<(((J I ar.2.1 v1).2.2.2.2.2.2.1).length:Int))) ((aL ar.2.1.length ae).bind fun v2 =>(aL (((J I ar.2.1 v2).2.2.2.2.2.2.1).length) ai).bind fun v3 =>cond ((J au ((J I ar.2.1 v2).2.2.2.2.2.2.1) v3).2.1==U) (k.dJ U (ay (ad+1)) ae (ay (ai+1)) ar) (k.dJ U ad ae (ay (ai+1)) ar)) (k.k3 U ad (ay (ae+1)) ar)
def Vm(k:u7):u7:=⟨z_ k,z' k⟩
def pj:Nat→u7:=dX Vm ⟨fun _ _ _ _=>none,fun _ _ _ _ _=>none⟩
def Aa(x:af.D×Int×Unit):Option (Int×Unit):=Fa (pj aK) x.1 x.2.1
abbrev Fb:Type:=Int→Int→af.D→Option (Int×Unit)
def Fc(k3:Fb)(a1:af.D):Option (Int×Unit) :=k3 0 0 a1
def Fe(k3:Fb)(U:Int)(ad:Int)(ae:af.D):Option (Int×Unit) :=cond (decide (ad<(ae.2.1.length:Int))) ((aL ae.2.1.length ad).bind fun v1 =>k3 (ay (U +(((J I ae.2.1 v1).2.2.2.2.2.1).length:Int))) (ay (ad+1)) ae) (some (U,()))
def u9:Nat→Fb | 0,_,_,_=>none | m+1,U,ad,ae=>Fe (u9 m) U ad ae
def Ab(x:af.D×Unit):Option (Int×Unit):=Fc (u9 aK) x.1
abbrev Ff:Type:=Int→Int→Int→af.D→(List Bool)→Option (Int×Int×Unit)
def Fg(bm:Ff)(a1:af.D)(a2:Int):Option (Int×Int×Unit) :=(E' (a1,a2,())).bind fun v1 =>bm 0 0 0 a1 v1.1
def Fh(bm:Ff)(U:Int)(ad:Int)(ae:Int)(ai:af.D)(ar:List Bool):Option (Int×Int×Unit) :=cond (decide (ae<(ar.length:Int))) ((aL ar.length ae).bind fun v1 =>cond (J aa.bool ar (0+v1)) ((aL ai.2.1.length ae).bind fun v2 =>bm (ay (U +(((J I ai.2.1 v2).2.2.2.2.2.1).length:Int))) (ay (ad+1)) (ay (ae+1)) ai ar) (bm U ad (ay (ae+1)) ai ar)) (some (U,ad,()))
def u_:Nat→Ff | 0,_,_,_,_,_=>none | m+1,U,ad,ae,ai,ar=>Fh (u_ m) U ad ae ai ar
def Ac(x:af.D×Int×Unit):Option (Int×Int×Unit):=Fg (u_ aK) x.1 x.2.1
structure u' where
 k2:Int→af.D→Option (Bool×Unit)
 dJ:Int→af.D→I.D→Option (Bool×Unit)
def Fi(k:u')(a1:af.D):Option (Bool×Unit) :=k.k2 0 a1
def Ad(k:u')(U:Int)(ad:af.D):Option (Bool×Unit) :=cond (decide (U<(ad.2.1.length:Int))) ((aL ad.2.1.length U).bind fun v1 =>cond ((J I ad.2.1 v1).2.1 != 2) (k.k2 (ay (U+1)) ad) (cond ((J I ad.2.1 v1).2.2.2.2.2.2.2.1==0) (cond ((J I ad.2.1 v1).2.2.2.2.2.2.2.2.1==0) (k.k2 (ay (U+1)) ad) (k.dJ U ad (J I ad.2.1 v1))) (k.dJ U ad (J I ad.2.1 v1)))) (some (false,()))
def MT(k:u')(U:Int)(ad:af.D)(ae:I.D):Option (Bool×Unit) :=(Ac (ad,ae.1,())).bind fun v1 =>cond (decide (ae.2.2.2.2.2.2.2.1>0)) (cond (decide (v1.1>ae.2.2.2.2.2.2.2.1)) (some (true,())) (cond (decide (ae.2.2.2.2.2.2.2.2.1>0)) (cond (decide (v1.2.1>ae.2.2.2.2.2.2.2.2.1)) (some (true,())) (k.k2 (ay (U+1)) ad)) (k.k2 (ay (U+1)) ad))) (cond (decide (ae.2.2.2.2.2.2.2.2.1>0)) (cond (decide (v1.2.1>ae.2.2.2.2.2.2.2.2.1)) (some (true,())) (k.k2 (ay (U+1)) ad)) (k.k2 (ay (U+1)) ad))
def Vn(k:u'):u':=⟨Ad k,MT k⟩
def j6:Nat→u':=dX Vn ⟨fun _ _=>none,fun _ _ _=>none⟩
def Fj(x:af.D×Unit):Option (Bool×Unit):=Fi (j6 aK) x.1
structure va where
 bf:Int→af.D→Option (Bool×Unit)
 cC:Int→af.D→(List Bool)→Option (Bool×Unit)
def Fk(k:va)(a1:af.D):Option (Bool×Unit) :=(cS (a1.1,2,100000,())).bind fun v1 =>cond (!v1.1) (some (false,())) ((cS ((a1.2.1.length:Int),1,24,())).bind fun v2 =>cond (!v2.1) (some (false,())) ((aL a1.2.1.length 0).bind fun v3 =>cond ((J I a1.2.1 v3).1 != 1) (some (false,())) ((aL a1.2.1.length 0).bind fun v4 =>cond ((J I a1.2.1 v4).2.1 != 2) (some (false,())) (k.bf 0 a1))))
def vd(k:va)(U:Int)(ad:af.D):Option (Bool×Unit) :=cond (decide (U<(ad.2.1.length:Int))) ((aL ad.2.1.length U).bind fun v1 =>(cS ((J I ad.2.1 v1).1,1,ay (ad.1-1),())).bind fun v2 =>cond (!v2.1) (some (false,())) (cond (decide (U>0)) ((aL ad.2.1.length (ay (U-1))).bind fun v3 =>cond (decide ((J I ad.2.1 v3).1≥(J I ad.2.1 v1).1)) (some (false,())) ((E8 (ad,J I ad.2.1 v1,())).bind fun v4 =>cond (!v4.1) (some (false,())) (k.bf (ay (U+1)) ad))) ((E8 (ad,J I ad.2.1 v1,())).bind fun v5 =>cond (!v5.1) (some (false,())) (k.bf (ay (U+1)) ad)))) ((E' (ad,1,())).bind fun v6 =>k.cC 1 ad v6.1)
def ve(k:va)(U:Int)(ad:af.D)(ae:List Bool):Option (Bool×Unit) :=cond (decide (U<(ad.2.1.length:Int))) ((aL ae.length U).bind fun v1 =>cond (!(J aa.bool ae (0+v1))) (some (false,())) ((aL ad.2.1.length U).bind fun v2 =>cond ((J I ad.2.1 v2).2.1==2) ((aL ad.2.1.length U).bind fun v3 =>(Aa (ad,(J I ad.2.1 v3).1,())).bind fun v4 =>cond (v4.1 != 1) (some (false,())) (k.cC (ay (U+1)) ad ae)) (k.cC (ay (U+1)) ad ae))) ((Ab (ad,())).bind fun v5 =>cond (decide (v5.1≤400)) ((Fj (ad,())).bind fun v6 =>some (!v6.1,())) (some (false,())))
def Vo(k:va):va:=⟨vd k,ve k⟩
def nm:Nat→va:=dX Vo ⟨fun _ _=>none,fun _ _ _=>none⟩
def MU(x:af.D×Unit):Option (Bool×Unit):=Fk (nm aK) x.1
abbrev Fl:Type:=(List aE.D)→Int→Option (Bool×Unit)
def Fm(bf:Fl)(a1:List aE.D):Option (Bool×Unit) :=cond (decide ((a1.length:Int)>20)) (some (false,())) (bf a1 0)
def Fo(bf:Fl)(U:List aE.D)(ad:Int):Option (Bool×Unit) :=cond (decide (ad<(U.length:Int))) ((aL U.length ad).bind fun v1 =>(cS ((J aE U v1).1,1,100000,())).bind fun v2 =>cond (!v2.1) (some (false,())) (cond (decide (ad>0)) ((aL U.length (ay (ad-1))).bind fun v3 =>cond (decide ((J aE U v3).1 >(J aE U v1).1)) (some (false,())) ((cS ((J aE U v1).2.1,1,3,())).bind fun v4 =>cond (!v4.1) (some (false,())) ((cS ((J aE U v1).2.2.1,1,1000000,())).bind fun v5 =>cond (!v5.1) (some (false,())) ((cS ((J aE U v1).2.2.2.1,1,22,())).bind fun v6 =>cond (!v6.1) (some (false,())) ((cS ((J aE U v1).2.2.2.2.1,0,200,())).bind fun bn =>cond (!bn.1) (some (false,())) (bf U (ay (ad+1)))))))) ((cS ((J aE U v1).2.1,1,3,())).bind fun bM =>cond (!bM.1) (some (false,())) ((cS ((J aE U v1).2.2.1,1,1000000,())).bind fun v9 =>cond (!v9.1) (some (false,())) ((cS ((J aE U v1).2.2.2.1,1,22,())).bind fun v10 =>cond (!v10.1) (some (false,())) ((cS ((J aE U v1).2.2.2.2.1,0,200,())).bind fun v11 =>cond (!v11.1) (some (false,())) (bf U (ay (ad+1))))))))) (some (true,()))
def vf:Nat→Fl | 0,_,_=>none | m+1,U,ad=>Fo (vf m) U ad
def Fp(x:(List aE.D)×Unit):Option (Bool×Unit):=Fm (vf aK) x.1
def MV(a1:aA.D):Option (Bool×Unit) :=(cS (a1.1,0,200,())).bind fun v1 =>cond v1.1 (some (decide ((a1.2.1.length:Int)≤400),())) (some (false,()))
def Fq(x:aA.D×Unit):Option (Bool×Unit):=MV x.1
abbrev Fs:Type:=Int→aM.D→Option (Bool×Unit)
def Ft(bf:Fs)(a1:aM.D):Option (Bool×Unit) :=(MU (a1.1,())).bind fun v1 =>cond (!v1.1) (some (false,())) ((cS (a1.2.1,0,30,())).bind fun v2 =>cond (!v2.1) (some (false,())) ((Fp (a1.2.2.1,())).bind fun v3 =>cond (!v3.1) (some (false,())) (cond (decide ((a1.2.2.2.1.length:Int)>3)) (some (false,())) (bf 0 a1))))
def Fu(bf:Fs)(U:Int)(ad:aM.D):Option (Bool×Unit) :=cond (decide (U<(ad.2.2.2.1.length:Int))) ((aL ad.2.2.2.1.length U).bind fun v1 =>(cS ((J aO ad.2.2.2.1 v1).1,1,3,())).bind fun v2 =>cond (!v2.1) (some (false,())) (cond (decide (U>0)) ((aL ad.2.2.2.1.length (ay (U-1))).bind fun v3 =>cond (decide ((J aO ad.2.2.2.1 v3).1≥(J aO ad.2.2.2.1 v1).1)) (some (false,())) ((cS ((J aO ad.2.2.2.1 v1).2.1,1,1000000,())).bind fun v4 =>cond (!v4.1) (some (false,())) ((cS ((J aO ad.2.2.2.1 v1).2.2.1,1,100000,())).bind fun v5 =>cond (!v5.1) (some (false,())) ((Fq ((J aO ad.2.2.2.1 v1).2.2.2.1,())).bind fun v6 =>cond (!v6.1) (some (false,())) (bf (ay (U+1)) ad))))) ((cS ((J aO ad.2.2.2.1 v1).2.1,1,1000000,())).bind fun bn =>cond (!bn.1) (some (false,())) ((cS ((J aO ad.2.2.2.1 v1).2.2.1,1,100000,())).bind fun bM =>cond (!bM.1) (some (false,())) ((Fq ((J aO ad.2.2.2.1 v1).2.2.2.1,())).bind fun v9 =>cond (!v9.1) (some (false,())) (bf (ay (U+1)) ad)))))) (some (true,()))
def sm:Nat→Fs | 0,_,_=>none | m+1,U,ad=>Fu (sm m) U ad
def MW(x:aM.D×Unit):Option (Bool×Unit):=Ft (sm aK) x.1
abbrev Fv:Type:=Int→Int→aM.D→Option (Int×Bool×Unit)
def Vp(k2:Fv)(a1:aM.D)(a2:Int):Option (Int×Bool×Unit) :=k2 a2 0 a1
def xS(k2:Fv)(U:Int)(ad:Int)(ae:aM.D):Option (Int×Bool×Unit) :=cond (decide (ad<(ae.2.2.2.1.length:Int))) ((aL ae.2.2.2.1.length ad).bind fun v1 =>cond (decide ((J aO ae.2.2.2.1 v1).1≥U)) ((aL ae.2.2.2.1.length ad).bind fun v2 =>some (ad,(J aO ae.2.2.2.1 v2).1==U,())) (k2 U (ay (ad+1)) ae)) (some ((ae.2.2.2.1.length:Int),false,()))
def xT:Nat→Fv | 0,_,_,_=>none | m+1,U,ad,ae=>xS (xT m) U ad ae
def Fw(x:aM.D×Int×Unit):Option (Int×Bool×Unit):=Vp (xT aK) x.1 x.2.1
def MX(a1:aM.D)(a2:Int):Option (aO.D×Unit) :=(Fw (a1,a2,())).bind fun v1 =>cond (!v1.2.1) (some ((0,0,0,(0,([]:List UInt8),()),()),())) ((aL a1.2.2.2.1.length v1.1).bind fun v2 =>some (J aO a1.2.2.2.1 v2,()))
def MY(x:aM.D×Int×Unit):Option (aO.D×Unit):=MX x.1 x.2.1
structure vg where
 k3:Int→Int→aM.D→Option (Int×Unit)
 cY:Int→Int→aM.D→Option (Int×Unit)
def Vq(k:vg)(a1:aM.D):Option (Int×Unit) :=k.k3 0 0 a1
def Fx(k:vg)(U:Int)(ad:Int)(ae:aM.D):Option (Int×Unit) :=cond (decide (ad<(ae.2.2.1.length:Int))) ((aL ae.2.2.1.length ad).bind fun v1 =>cond (decide ((J aE ae.2.2.1 v1).1>U)) ((aL ae.2.2.1.length ad).bind fun v2 =>k.k3 ((J aE ae.2.2.1 v2).1) (ay (ad+1)) ae) (k.k3 U (ay (ad+1)) ae)) (k.cY U 0 ae)
def Fy(k:vg)(U:Int)(ad:Int)(ae:aM.D):Option (Int×Unit) :=cond (decide (ad<(ae.2.2.2.1.length:Int))) ((aL ae.2.2.2.1.length ad).bind fun v1 =>cond (decide ((J aO ae.2.2.2.1 v1).2.2.1>U)) ((aL ae.2.2.2.1.length ad).bind fun v2 =>k.cY ((J aO ae.2.2.2.1 v2).2.2.1) (ay (ad+1)) ae) (k.cY U (ay (ad+1)) ae)) (some (U,()))
def Vr(k:vg):vg:=⟨Fx k,Fy k⟩
def nn:Nat→vg:=dX Vr ⟨fun _ _ _=>none,fun _ _ _=>none⟩
def MZ(x:aM.D×Unit):Option (Int×Unit):=Vq (nn aK) x.1
abbrev Fz:Type:=aN.D→Option (Bool×Unit)
def FA(bm:Fz)(a1:aN.D):Option (Bool×Unit) :=(cS (a1.1,1,22,())).bind fun v1 =>cond (!v1.1) (some (false,())) (cond (decide ((a1.2.1.length:Int)>60)) (some (false,())) (cond (decide ((a1.2.2.1.length:Int)>60)) (some (false,())) (cond (decide ((a1.2.2.2.2.2.1.length:Int)>64)) (some (false,())) ((cS (a1.2.2.2.1,(-1000000),1000000,())).bind fun v2 =>cond (!v2.1) (some (false,())) ((cS (a1.2.2.2.2.1,(-1000000),1000000,())).bind fun v3 =>cond (!v3.1) (some (false,())) (cond (!(bB a1.2.2.1 ([]:List UInt8))) (cond (a1.1 != 9) (cond (a1.1 != 10) (cond (a1.1 != 12) (some (false,())) (bm a1)) (bm a1)) (bm a1)) (bm a1)))))))
def M0(bm:Fz)(U:aN.D):Option (Bool×Unit) :=cond (bB U.2.2.2.2.2.1 ([]:List UInt8)) (some (true,())) (cond (U.1==5) (some (true,())) (some (U.1==6,())))
def Ae:Nat→Fz | 0,_=>none | m+1,U=>M0 (Ae m) U
def Af(x:aN.D×Unit):Option (Bool×Unit):=FA (Ae aK) x.1
def M1(a1:Int):Option (Bool×Unit) :=cond (a1==4) (cond (a1==4) (some (true,())) (some (false,()))) (cond (a1==11) (cond (a1==11) (some (true,())) (some (false,()))) (cond (a1==13) (cond (a1==13) (some (true,())) (some (false,()))) (cond (a1==14) (cond (a1==14) (some (true,())) (some (false,()))) (cond (a1==17) (cond (a1==17) (some (true,())) (some (false,()))) (cond (a1==18) (cond (a1==18) (some (true,())) (some (false,()))) (cond (a1==20) (cond (a1==20) (some (true,())) (some (false,()))) (cond (a1==21) (some (true,())) (some (false,())))))))))
def Ag(x:Int×Unit):Option (Bool×Unit):=M1 x.1
def M3(a1:Int):Option (aP.D×Unit) :=cond (a1==1) (some ((0,0,([]:List Int),()),())) (cond (a1==2) (some ((2,2,[5],()),())) (cond (a1==3) (some ((3,2,([]:List Int),()),())) (some ((1000,1000,([]:List Int),()),()))))
def M4(x:Int×Unit):Option (aP.D×Unit):=M3 x.1
def M5(a1:Int):Option (Int×Unit) :=(Ag (a1,())).bind fun v1 =>cond v1.1 (some (1,())) ((cS (a1,1,22,())).bind fun v2 =>cond v2.1 (some (3,())) (some (0,())))
def M6(x:Int×Unit):Option (Int×Unit):=M5 x.1
def M7(a1:Int)(a2:Int):Option (Int×Bool×Unit) :=(M6 (a2,())).bind fun v1 =>cond (v1.1==0) (some (a1,false,())) (cond (decide (v1.1>a1)) (some (a1,false,())) (some (ay (a1-v1.1),true,())))
def M8(x:Int×Int×Unit):Option (Int×Bool×Unit):=M7 x.1 x.2.1
abbrev FB:Type:=Int→(List UInt8)→Bool→Option ((List UInt8)×Unit)
def Vs(bm:FB)(a1:Int):Option ((List UInt8)×Unit) :=cond (a1==0) (some (([48]:List UInt8),())) (bm a1 ([]:List UInt8) (decide (a1<0)))
def Ah(bm:FB)(U:Int)(ad:List UInt8)(ae:Bool):Option ((List UInt8)×Unit) :=cond (U != 0) (cond (decide (Int.tmod U 10<0)) (cond (room ((ga [IntKind.wrap .u8 (ay (48+ay (0-(Int.tmod U 10))))]).length+ad.length)) (bm (ay (Int.tdiv U 10)) ((ga [IntKind.wrap .u8 (ay (48+ay (0-(Int.tmod U 10))))])++ad) ae) (none)) (cond (room ((ga [IntKind.wrap .u8 (ay (48+Int.tmod U 10))]).length+ad.length)) (bm (ay (Int.tdiv U 10)) ((ga [IntKind.wrap .u8 (ay (48+Int.tmod U 10))])++ad) ae) (none))) (cond ae (cond (room (([45]:List UInt8).length+ad.length)) (some (([45]:List UInt8)++ad,())) (none)) (some (ad,())))
def pk:Nat→FB | 0,_,_,_=>none | m+1,U,ad,ae=>Ah (pk m) U ad ae
def eY(x:Int×Unit):Option ((List UInt8)×Unit):=Vs (pk aK) x.1
structure vh where
 bm:(List aE.D)→Int→(List UInt8)→Int→Option ((List UInt8)×Unit)
 eb:(List aE.D)→Int→(List UInt8)→Int→Option ((List UInt8)×Unit)
def FC(k:vh)(a1:List aE.D)(a2:Int):Option ((List UInt8)×Unit) :=(Fp (a1,())).bind fun v1 =>cond (!v1.1) (some (([]:List UInt8),())) (cond (decide (a2<0)) (some (([]:List UInt8),())) (k.bm a1 a2 ([]:List UInt8) a2))
def FD(k:vh)(U:List aE.D)(ad:Int)(ae:List UInt8)(ai:Int):Option ((List UInt8)×Unit) :=cond (decide (ai<(U.length:Int))) (cond (decide (ai<ay (ad+6))) (cond (decide (ai>ad)) (cond (room (ae.length +([32]:List UInt8).length)) (k.eb U ad (ae++([32]:List UInt8)) ai) (none)) (k.eb U ad ae ai)) (some (ae,()))) (some (ae,()))
def M9(k:vh)(U:List aE.D)(ad:Int)(ae:List UInt8)(ai:Int):Option ((List UInt8)×Unit) :=(aL U.length ai).bind fun v1 =>(aL U.length ai).bind fun v2 =>(aL U.length ai).bind fun v3 =>(aL U.length ai).bind fun v4 =>(aL U.length ai).bind fun v5 =>(eY ((J aE U v1).1,())).bind fun v6 =>cond (room (ae.length+v6.1.length)) (cond (room ((ae++v6.1).length +([46]:List UInt8).length)) ((eY ((J aE U v2).2.1,())).bind fun bn =>cond (room (((ae++v6.1)++([46]:List UInt8)).length+bn.1.length)) (cond (room ((((ae++v6.1)++([46]:List UInt8))++bn.1).length +([46]:List UInt8).length)) ((eY ((J aE U v3).2.2.1,())).bind fun bM =>cond (room (((((ae++v6.1)++([46]:List UInt8))++bn.1)++([46]:List UInt8)).length+bM.1.length)) (cond (room ((((((ae++v6.1)++([46]:List UInt8))++bn.1)++([46]:List UInt8))++bM.1).length +([46]:List UInt8).length)) ((eY ((J aE U v4).2.2.2.1,())).bind fun v9 =>cond (room (((((((ae++v6.1)++([46]:List UInt8))++bn.1)++([46]:List UInt8))++bM.1)++([46]:List UInt8)).length+v9.1.length)) (cond (room ((((((((ae++v6.1)++([46]:List UInt8))++bn.1)++([46]:List UInt8))++bM.1)++([46]:List UInt8))++v9.1).length +([46]:List UInt8).length)) ((eY ((J aE U v5).2.2.2.2.1,())).bind fun v10 =>cond (room (((((((((ae++v6.1)++([46]:List UInt8))++bn.1)++([46]:List UInt8))++bM.1)++([46]:List UInt8))++v9.1)++([46]:List UInt8)).length+v10.1.length)) (k.bm U ad (((((((((ae++v6.1)++([46]:List UInt8))++bn.1)++([46]:List UInt8))++bM.1)++([46]:List UInt8))++v9.1)++([46]:List UInt8))++v10.1) (ay (ai+1))) (none)) (none)) (none)) (none)) (none)) (none)) (none)) (none)) (none)
def Vt(k:vh):vh:=⟨FD k,M9 k⟩
def pn:Nat→vh:=dX Vt ⟨fun _ _ _ _=>none,fun _ _ _ _=>none⟩
def M_(x:(List aE.D)×Int×Unit):Option ((List UInt8)×Unit):=FC (pn aK) x.1 x.2.1
abbrev xU:Type:=Int→af.D→af.D→af.D→Option (af.D×Unit)
def FE(k3:xU)(a1:af.D):Option (af.D×Unit) :=k3 0 a1 (0,([]:List I.D),()) (a1.1,([]:List I.D),())
def Vu(k3:xU)(U:Int)(ad:af.D)(ae:af.D)(ai:af.D)(v3:List I.D):Option (af.D×Unit) :=k3 (ay (U+1)) ad ae (ai.1,v3,())
def Vv(k3:xU)(ai:af.D)(ad:af.D)(v1:Nat)(U:Int)(ae:af.D)(v2:List au.D):Option (af.D×Unit) :=cond (room (ai.2.1.length+[((J I ad.2.1 v1).1,(J I ad.2.1 v1).2.1,(J I ad.2.1 v1).2.2.1,(J I ad.2.1 v1).2.2.2.1,(J I ad.2.1 v1).2.2.2.2.1,(J I ad.2.1 v1).2.2.2.2.2.1,v2,(J I ad.2.1 v1).2.2.2.2.2.2.2.1,(J I ad.2.1 v1).2.2.2.2.2.2.2.2.1,())].length)) (Vu k3 U ad ae ai (ai.2.1++[((J I ad.2.1 v1).1,(J I ad.2.1 v1).2.1,(J I ad.2.1 v1).2.2.1,(J I ad.2.1 v1).2.2.2.1,(J I ad.2.1 v1).2.2.2.2.1,(J I ad.2.1 v1).2.2.2.2.2.1,v2,(J I ad.2.1 v1).2.2.2.2.2.2.2.1,(J I ad.2.1 v1).2.2.2.2.2.2.2.2.1,())])) (none)
def FF(k3:xU)(U:Int)(ad:af.D)(ae:af.D)(ai:af.D):Option (af.D×Unit) :=cond (decide (U<(ad.2.1.length:Int))) ((aL ad.2.1.length U).bind fun v1 =>cond (room (([]:List au.D).length +((J I ad.2.1 v1).2.2.2.2.2.2.1).length)) (Vv k3 ai ad v1 U ae (([]:List au.D)++((J I ad.2.1 v1).2.2.2.2.2.2.1))) (none)) (some (ai,()))
def vi:Nat→xU | 0,_,_,_,_=>none | m+1,U,ad,ae,ai=>FF (vi m) U ad ae ai
def pq(x:af.D×Unit):Option (af.D×Unit):=FE (vi aK) x.1
abbrev Ai:Type:=Int→af.D→af.D→af.D→Option (af.D×Unit)
def afq(k3:Ai)(a1:af.D):Option (af.D×Unit) :=k3 0 a1 (0,([]:List I.D),()) (a1.1,([]:List I.D),())
def afr(k3:Ai)(U:Int)(ad:af.D)(ae:af.D)(ai:af.D)(v3:List I.D):Option (af.D×Unit) :=k3 (ay (U+1)) ad ae (ai.1,v3,())
def afs(k3:Ai)(ai:af.D)(ad:af.D)(v1:Nat)(U:Int)(ae:af.D)(v2:List au.D):Option (af.D×Unit) :=cond (room (ai.2.1.length+[((J I ad.2.1 v1).1,(J I ad.2.1 v1).2.1,(J I ad.2.1 v1).2.2.1,(J I ad.2.1 v1).2.2.2.1,(J I ad.2.1 v1).2.2.2.2.1,(J I ad.2.1 v1).2.2.2.2.2.1,v2,(J I ad.2.1 v1).2.2.2.2.2.2.2.1,(J I ad.2.1 v1).2.2.2.2.2.2.2.2.1,())].length)) (afr k3 U ad ae ai (ai.2.1++[((J I ad.2.1 v1).1,(J I ad.2.1 v1).2.1,(J I ad.2.1 v1).2.2.1,(J I ad.2.1 v1).2.2.2.1,(J I ad.2.1 v1).2.2.2.2.1,(J I ad.2.1 v1).2.2.2.2.2.1,v2,(J I ad.2.1 v1).2.2.2.2.2.2.2.1,(J I ad.2.1 v1).2.2.2.2.2.2.2.2.1,())])) (none)
def aft(k3:Ai)(U:Int)(ad:af.D)(ae:af.D)(ai:af.D):Option (af.D×Unit) :=cond (decide (U<(ad.2.1.length:Int))) ((aL ad.2.1.length U).bind fun v1 =>cond (room (([]:List au.D).length +((J I ad.2.1 v1).2.2.2.2.2.2.1).length)) (afs k3 ai ad v1 U ae (([]:List au.D)++((J I ad.2.1 v1).2.2.2.2.2.2.1))) (none)) (some (ai,()))
def Vw:Nat→Ai | 0,_,_,_,_=>none | m+1,U,ad,ae,ai=>aft (Vw m) U ad ae ai
def ark(x:af.D×Unit):Option (af.D×Unit):=afq (Vw aK) x.1
abbrev FG:Type:=(List UInt8)→Int→Option (Bool×Unit)
def FH(bf:FG)(a1:List UInt8):Option (Bool×Unit) :=(cS ((a1.length:Int),1,60,())).bind fun v1 =>cond (!v1.1) (some (false,())) ((aL a1.length 0).bind fun v2 =>cond (((a1.getD v2 0).toNat:Int) != 47) (some (false,())) (bf a1 0))
def FI(bf:FG)(U:List UInt8)(ad:Int):Option (Bool×Unit) :=cond (decide (ad<(U.length:Int))) ((aL U.length ad).bind fun v1 =>cond (((U.getD v1 0).toNat:Int) != 47) ((aL U.length ad).bind fun v2 =>(zZ (((U.getD v2 0).toNat:Int),())).bind fun v3 =>cond (!v3.1) (some (false,())) (bf U (ay (ad+1)))) (bf U (ay (ad+1)))) (some (true,()))
def vj:Nat→FG | 0,_,_=>none | m+1,U,ad=>FI (vj m) U ad
def FJ(x:(List UInt8)×Unit):Option (Bool×Unit):=FH (vj aK) x.1
abbrev FK:Type:=Int→aP.D→Option (Bool×Unit)
def FL(bf:FK)(a1:aP.D):Option (Bool×Unit) :=(cS (a1.1,0,1000,())).bind fun v1 =>cond (!v1.1) (some (false,())) ((cS (a1.2.1,0,1000,())).bind fun v2 =>cond (!v2.1) (some (false,())) (cond (decide ((a1.2.2.1.length:Int)>4)) (some (false,())) (bf 0 a1)))
def FM(bf:FK)(U:Int)(ad:aP.D):Option (Bool×Unit) :=cond (decide (U<(ad.2.2.1.length:Int))) ((aL ad.2.2.1.length U).bind fun v1 =>(cS (J (aa.int .i64) ad.2.2.1 v1,0,1000,())).bind fun v2 =>cond (!v2.1) (some (false,())) (bf (ay (U+1)) ad)) (some (true,()))
def vk:Nat→FK | 0,_,_=>none | m+1,U,ad=>FM (vk m) U ad
def Aj(x:aP.D×Unit):Option (Bool×Unit):=FL (vk aK) x.1
abbrev FN:Type:=Int→Bool→Int→aP.D→Option (Bool×Unit)
def FO(bm:FN)(a1:aP.D)(a2:Int):Option (Bool×Unit) :=(Aj (a1,())).bind fun v1 =>cond (!v1.1) (some (false,())) (bm a2 (a1.2.1==a2) 0 a1)
def FP(bm:FN)(U:Int)(ad:Bool)(ae:Int)(ai:aP.D):Option (Bool×Unit) :=cond (decide (ae<(ai.2.2.1.length:Int))) (cond ad (bm U true (ay (ae+1)) ai) ((aL ai.2.2.1.length ae).bind fun v1 =>bm U (J (aa.int .i64) ai.2.2.1 v1==U) (ay (ae+1)) ai)) (some (ad,()))
def vl:Nat→FN | 0,_,_,_,_=>none | m+1,U,ad,ae,ai=>FP (vl m) U ad ae ai
def vm(x:aP.D×Int×Unit):Option (Bool×Unit):=FO (vl aK) x.1 x.2.1
def M'(a1:aP.D)(a2:I.D)(a3:Int):Option (Bool×Unit) :=(Aj (a1,())).bind fun v1 =>cond (!v1.1) (some (false,())) ((cS (a3,0,7,())).bind fun v2 =>cond (!v2.1) (some (false,())) (cond (a1.1==0) (cond (c_ .and .i64 a3 1==0) (some (true,())) (cond (a2.2.1 != 1) (some (true,())) (some (c_ .and .i64 a2.2.2.1 73 != 0,())))) ((vm (a1,a2.2.2.2.2.1,())).bind fun v3 =>cond v3.1 (cond (a1.1==a2.2.2.2.1) (some (c_ .and .i64 (c_ .and .i64 (Int.fdiv a2.2.2.1 (2 ^ min (Int.toNat 6) 64)) 7) a3==a3,())) (some (c_ .and .i64 (c_ .and .i64 (Int.fdiv a2.2.2.1 (2 ^ min (Int.toNat 3) 64)) 7) a3==a3,()))) (cond (a1.1==a2.2.2.2.1) (some (c_ .and .i64 (c_ .and .i64 (Int.fdiv a2.2.2.1 (2 ^ min (Int.toNat 6) 64)) 7) a3==a3,())) (some (c_ .and .i64 (c_ .and .i64 a2.2.2.1 7) a3==a3,()))))))
def j7(x:aP.D×I.D×Int×Unit):Option (Bool×Unit):=M' x.1 x.2.1 x.2.2.1
structure vn where
 k2:Int→Int→af.D→Option (Int×Unit)
 bm:Int→Int→Int→af.D→Option (Int×Unit)
def FQ(k:vn)(a1:af.D)(a2:Int):Option (Int×Unit) :=k.k2 a2 0 a1
def vo(k:vn)(U:Int)(ad:Int)(ae:af.D):Option (Int×Unit) :=cond (decide (ad<(ae.2.1.length:Int))) (k.bm U ad 0 ae) (some (1,()))
def vp(k:vn)(U:Int)(ad:Int)(ae:Int)(ai:af.D):Option (Int×Unit) :=(aL ai.2.1.length ad).bind fun v1 =>cond (decide (ae<(((J I ai.2.1 v1).2.2.2.2.2.2.1).length:Int))) ((aL ai.2.1.length ad).bind fun v2 =>(aL (((J I ai.2.1 v2).2.2.2.2.2.2.1).length) ae).bind fun v3 =>cond ((J au ((J I ai.2.1 v2).2.2.2.2.2.2.1) v3).2.1==U) ((aL ai.2.1.length ad).bind fun v4 =>some ((J I ai.2.1 v4).1,())) (k.bm U ad (ay (ae+1)) ai)) (k.k2 U (ay (ad+1)) ai)
def Vx(k:vn):vn:=⟨vo k,vp k⟩
def ku:Nat→vn:=dX Vx ⟨fun _ _ _=>none,fun _ _ _ _=>none⟩
def FR(x:af.D×Int×Unit):Option (Int×Unit):=FQ (ku aK) x.1 x.2.1
abbrev Ak:Type:=(List (List UInt8))×Unit
abbrev FT:Type:=(List UInt8)→Int→Int→(List (List UInt8))→Option (Ak)
def FU(bf:FT)(a1:List UInt8):Option (Ak) :=bf a1 0 0 ([]:List (List UInt8))
def Al(bf:FT)(U:List UInt8)(ad:Int)(ae:Int)(ai:List (List UInt8)):Option (Ak) :=cond (decide (ae≤(U.length:Int))) (cond (ae ==(U.length:Int)) (cond (decide (ae>ad)) ((dN U.length ad ae).bind fun v1 =>cond (room (ai.length+[part U v1.1 (v1.2-v1.1)].length)) (bf U (ay (ae+1)) (ay (ae+1)) (ai++[part U v1.1 (v1.2-v1.1)])) (none)) (bf U (ay (ae+1)) (ay (ae+1)) ai)) ((aL U.length ae).bind fun v2 =>cond (((U.getD v2 0).toNat:Int)==47) (cond (decide (ae>ad)) ((dN U.length ad ae).bind fun v3 =>cond (room (ai.length+[part U v3.1 (v3.2-v3.1)].length)) (bf U (ay (ae+1)) (ay (ae+1)) (ai++[part U v3.1 (v3.2-v3.1)])) (none)) (bf U (ay (ae+1)) (ay (ae+1)) ai)) (bf U ad (ay (ae+1)) ai))) (some (ai,()))
def qM:Nat→FT | 0,_,_,_,_=>none | m+1,U,ad,ae,ai=>Al (qM m) U ad ae ai
def Am(x:(List UInt8)×Unit):Option (Ak):=FU (qM aK) x.1
abbrev FV:Type:=(List UInt8)→(List au.D)→Int→Option (Int×Unit)
def FW(k3:FV)(a1:af.D)(a2:Int)(a3:List UInt8):Option (Int×Unit) :=(kR (a1,a2,())).bind fun v1 =>(aL a1.2.1.length v1.1).bind fun v2 =>k3 a3 ((J I a1.2.1 v2).2.2.2.2.2.2.1) 0
def FX(k3:FV)(U:List UInt8)(ad:List au.D)(ae:Int):Option (Int×Unit) :=cond (decide (ae<(ad.length:Int))) ((aL ad.length ae).bind fun v1 =>cond (bB ((J au ad v1).1) U) ((aL ad.length ae).bind fun v2 =>some ((J au ad v2).2.1,())) (k3 U ad (ay (ae+1)))) (some (0,()))
def sn:Nat→FV | 0,_,_,_=>none | m+1,U,ad,ae=>FX (sn m) U ad ae
def Na(x:af.D×Int×(List UInt8)×Unit):Option (Int×Unit):=FW (sn aK) x.1 x.2.1 x.2.2.1
structure pr where
 bf:Bool→Nat→Nat→Int→Int→af.D→aP.D→aY.D→(List (List UInt8))→Option (aY.D×Unit)
 Vy:Bool→Nat→Nat→Int→Int→(List UInt8)→Bool→Int→af.D→aP.D→aY.D→(List (List UInt8))→I.D→Option (aY.D×Unit)
 jJ:Bool→Nat→Nat→Int→Int→af.D→aP.D→aY.D→(List (List UInt8))→I.D→Option (aY.D×Unit)
 An:Bool→Nat→Nat→Int→Int→(List UInt8)→Bool→Int→af.D→aP.D→aY.D→(List (List UInt8))→I.D→Option (aY.D×Unit)
 pt:Bool→Nat→Nat→Int→Int→af.D→aP.D→aY.D→(List (List UInt8))→I.D→Option (aY.D×Unit)
def FY(k:pr)(a1:af.D)(a2:aP.D)(a3:List UInt8)(a4:Bool):Option (aY.D×Unit) :=(Am (a3,())).bind fun v1 =>k.bf a4 0 v1.1.length 1 0 a1 a2 (0,([]:List UInt8),0,0,()) v1.1
def lF(k:pr)(U:Bool)(ad:Nat)(ae:Nat)(ai:Int)(ar:Int)(aB:af.D)(aW:aP.D)(bl:aY.D)(bQ:List (List UInt8)):Option (aY.D×Unit) :=cond (decide ((ae:Int)>0)) ((aL ae 0).bind fun v1 =>(dN ae 1 (ae:Int)).bind fun v2 =>(kR (aB,ai,())).bind fun v3 =>(aL aB.2.1.length v3.1).bind fun v4 =>(j7 (aW,J I aB.2.1 v4,1,())).bind fun v5 =>cond (!v5.1) (some ((0,([]:List UInt8),0,13,()),())) (cond (bB (J aa.str bQ (ad+v1)) ([46]:List UInt8)) (k.bf U (ad+v2.1) (v2.2-v2.1) ai ar aB aW bl bQ) (cond (bB (J aa.str bQ (ad+v1)) ([46,46]:List UInt8)) ((FR (aB,ai,())).bind fun v6 =>k.bf U (ad+v2.1) (v2.2-v2.1) v6.1 ar aB aW bl bQ) (cond (decide (((J aa.str bQ (ad+v1)).length:Int)>8)) (some ((0,([]:List UInt8),0,36,()),())) ((Na (aB,ai,J aa.str bQ (ad+v1),())).bind fun bn =>cond (bn.1==0) (cond ((((v2.2-v2.1):Nat):Int)==0) (some ((ai,J aa.str bQ (ad+v1),0,2,()),())) (some ((0,([]:List UInt8),0,2,()),()))) (dup ((kR (aB,bn.1,())).bind fun bM =>(aL aB.2.1.length bM.1).bind fun v9 =>k.Vy U (ad+v2.1) (v2.2-v2.1) ai ar (J aa.str bQ (ad+v1)) ((((v2.2-v2.1):Nat):Int)==0) bn.1 aB aW bl bQ (J I aB.2.1 v9)))))))) (some ((0,([]:List UInt8),ai,0,()),()))
def xV(k:pr)(U:Bool)(ad:Nat)(ae:Nat)(ai:Int)(ar:Int)(aB:List UInt8)(aW:Bool)(bl:Int)(bQ:af.D)(c8:aP.D)(eD:aY.D)(fY:List (List UInt8))(hV:I.D):Option (aY.D×Unit) :=cond (hV.2.1==3) (cond (!aW) (k.jJ U ad ae ai ar bQ c8 eD fY hV) (cond U (k.jJ U ad ae ai ar bQ c8 eD fY hV) (k.An U ad ae ai ar aB aW bl bQ c8 eD fY hV))) (k.An U ad ae ai ar aB aW bl bQ c8 eD fY hV)
def FZ(k:pr)(U:Bool)(ad:Nat)(ae:Nat)(ai:Int)(ar:Int)(aB:af.D)(aW:aP.D)(bl:aY.D)(bQ:List (List UInt8))(c8:I.D):Option (aY.D×Unit) :=cond (decide (ay (ar+1)>8)) (some ((0,([]:List UInt8),0,40,()),())) ((aL c8.2.2.2.2.2.1.length 0).bind fun v1 =>cond (((c8.2.2.2.2.2.1.getD v1 0).toNat:Int)==47) (k.pt U ad ae 1 (ay (ar+1)) aB aW bl bQ c8) (k.pt U ad ae ai (ay (ar+1)) aB aW bl bQ c8))
def F2(k:pr)(U:Bool)(ad:Nat)(ae:Nat)(ai:Int)(ar:Int)(aB:List UInt8)(aW:Bool)(bl:Int)(bQ:af.D)(c8:aP.D)(eD:aY.D)(fY:List (List UInt8))(hV:I.D):Option (aY.D×Unit) :=cond aW (some ((ai,aB,bl,0,()),())) (cond (hV.2.1 != 2) (some ((0,([]:List UInt8),0,20,()),())) (k.bf U ad ae bl ar bQ c8 eD fY))
def F3(k:pr)(U:Bool)(ad:Nat)(ae:Nat)(ai:Int)(ar:Int)(aB:af.D)(aW:aP.D)(bl:aY.D)(bQ:List (List UInt8))(c8:I.D):Option (aY.D×Unit) :=(Am (c8.2.2.2.2.2.1,())).bind fun v1 =>cond (room (v1.1.length +(part bQ ad ae).length)) (cond (decide (((v1.1++(part bQ ad ae)).length:Int)>40)) (some ((0,([]:List UInt8),0,36,()),())) (k.bf U 0 ((v1.1++(part bQ ad ae)).length) ai ar aB aW bl (v1.1++(part bQ ad ae)))) (none)
def Vz(k:pr):pr:=⟨lF k,xV k,FZ k,F2 k,F3 k⟩
def e7:Nat→pr:=dX Vz ⟨fun _ _ _ _ _ _ _ _ _=>none,fun _ _ _ _ _ _ _ _ _ _ _ _ _=>none,fun _ _ _ _ _ _ _ _ _ _=>none,fun _ _ _ _ _ _ _ _ _ _ _ _ _=>none,fun _ _ _ _ _ _ _ _ _ _=>none⟩
def F4(x:af.D×aP.D×(List UInt8)×Bool×Unit):Option (aY.D×Unit):=FY (e7 aK) x.1 x.2.1 x.2.2.1 x.2.2.2.1
def Ao(a1:af.D)(a2:aP.D)(a3:List UInt8):Option (aY.D×Int×Unit) :=(FJ (a3,())).bind fun v1 =>cond (!v1.1) (some ((0,([]:List UInt8),0,0,()),22,())) ((F4 (a1,a2,a3,false,())).bind fun v2 =>cond (v2.1.2.2.2.1==0) (some (v2.1,17,())) (cond (v2.1.2.2.2.1==2) (cond (!(bB v2.1.2.1 ([]:List UInt8))) (some (v2.1,0,())) (some (v2.1,v2.1.2.2.2.1,()))) (some (v2.1,v2.1.2.2.2.1,()))))
def vq(x:af.D×aP.D×(List UInt8)×Unit):Option (aY.D×Int×Unit):=Ao x.1 x.2.1 x.2.2.1
def Nb(a1:af.D)(a2:Int):Option (I.D×Unit) :=(kR (a1,a2,())).bind fun v1 =>(aL a1.2.1.length v1.1).bind fun v2 =>some (J I a1.2.1 v2,())
def e8(x:af.D×Int×Unit):Option (I.D×Unit):=Nb x.1 x.2.1
def Nc(a1:af.D):Option (Int×Unit) :=(Ab (a1,())).bind fun v1 =>cond (decide (v1.1>400)) (some (28,())) ((Fj (a1,())).bind fun v2 =>cond v2.1 (some (122,())) (some (0,())))
def Nd(x:af.D×Unit):Option (Int×Unit):=Nc x.1
abbrev VA:Type:=af.D×aA.D×Unit
def Nf(a1:af.D)(a2:af.D):Option (VA) :=(Nd (a2,())).bind fun v1 =>cond (v1.1 != 0) (some (a1,(v1.1,([]:List UInt8),()),())) (some (a2,(0,([]:List UInt8),()),()))
def qN(x:af.D×af.D×Unit):Option (VA):=Nf x.1 x.2.1
def Ap(a1:af.D)(a2:I.D):Option (af.D×Unit) :=(kR (a1,a2.1,())).bind fun v1 =>cond (decide (v1.1<0)) (cond (room (a1.2.1.length+[a2].length)) (some ((a1.1,a1.2.1++[a2],()),())) (none)) ((aL a1.2.1.length v1.1).bind fun v2 =>some ((a1.1,a1.2.1.set (0+v2) a2,()),()))
def om(x:af.D×I.D×Unit):Option (af.D×Unit):=Ap x.1 x.2.1
structure so where
 bm:(List UInt8)→Int→Bool→Int→af.D→af.D→I.D→(List au.D)→Option (af.D×Unit)
 dr:(List UInt8)→Int→Bool→Int→af.D→af.D→I.D→(List au.D)→Option (af.D×Unit)
 mi:af.D→af.D→I.D→(List au.D)→Option (af.D×Unit)
def F5(k:so)(a1:af.D)(a2:Int)(a3:List UInt8)(a4:Int):Option (af.D×Unit) :=(e8 (a1,a2,())).bind fun v1 =>k.bm a3 a4 false 0 a1 (0,([]:List I.D),()) v1.1 ([]:List au.D)
def oo(k:so)(U:List UInt8)(ad:Int)(ae:Bool)(ai:Int)(ar:af.D)(aB:af.D)(aW:I.D)(bl:List au.D):Option (af.D×Unit) :=cond (decide (ai<(aW.2.2.2.2.2.2.1.length:Int))) (cond (!ae) ((aL aW.2.2.2.2.2.2.1.length ai).bind fun v1 =>cond (dv U ((J au aW.2.2.2.2.2.2.1 v1).1)) (cond (room (bl.length+[(U,ad,())].length)) (k.dr U ad true ai ar aB aW (bl++[(U,ad,())])) (none)) (k.dr U ad ae ai ar aB aW bl)) (k.dr U ad ae ai ar aB aW bl)) (cond (!ae) (cond (room (bl.length+[(U,ad,())].length)) (k.mi ar aB aW (bl++[(U,ad,())])) (none)) (k.mi ar aB aW bl))
def vr(k:so)(U:List UInt8)(ad:Int)(ae:Bool)(ai:Int)(ar:af.D)(aB:af.D)(aW:I.D)(bl:List au.D):Option (af.D×Unit) :=(aL aW.2.2.2.2.2.2.1.length ai).bind fun v1 =>cond (room (bl.length+[J au aW.2.2.2.2.2.2.1 v1].length)) (k.bm U ad ae (ay (ai+1)) ar aB aW (bl++[J au aW.2.2.2.2.2.2.1 v1])) (none)
def Ng(k:so)(U:af.D)(ad:af.D)(ae:I.D)(ai:List au.D):Option (af.D×Unit) :=(om (U,(ae.1,ae.2.1,ae.2.2.1,ae.2.2.2.1,ae.2.2.2.2.1,ae.2.2.2.2.2.1,ai,ae.2.2.2.2.2.2.2.1,ae.2.2.2.2.2.2.2.2.1,()),())).bind fun v1 =>some (v1.1,())
def VB(k:so):so:=⟨oo k,vr k,Ng k⟩
def il:Nat→so:=dX VB ⟨fun _ _ _ _ _ _ _ _=>none,fun _ _ _ _ _ _ _ _=>none,fun _ _ _ _=>none⟩
def sq(x:af.D×Int×(List UInt8)×Int×Unit):Option (af.D×Unit):=F5 (il aK) x.1 x.2.1 x.2.2.1 x.2.2.2.1
abbrev oq:Type:=af.D×aA.D×Unit
structure qO where
 k3:af.D→aP.D→aN.D→af.D→aA.D→Option (oq)
 Aq:af.D→aN.D→af.D→aA.D→aY.D→I.D→I.D→Option (oq)
 gD:af.D→af.D→aA.D→aY.D→I.D→I.D→Option (oq)
 jJ:af.D→af.D→aA.D→aY.D→I.D→Option (oq)
def F6(k:qO)(a1:af.D)(a2:aP.D)(a3:aN.D):Option (oq) :=cond (a3.1==10) ((z1 (a3.2.2.1,())).bind fun v1 =>cond (!v1.1) (some (a1,(22,([]:List UInt8),()),())) (cond (a3.1 != 10) ((cS (a3.2.2.2.1,0,2047,())).bind fun v2 =>cond (!v2.1) (some (a1,(22,([]:List UInt8),()),())) (k.k3 a1 a2 a3 (0,([]:List I.D),()) (0,([]:List UInt8),()))) (k.k3 a1 a2 a3 (0,([]:List I.D),()) (0,([]:List UInt8),())))) (cond (a3.1 != 10) ((cS (a3.2.2.2.1,0,2047,())).bind fun v3 =>cond (!v3.1) (some (a1,(22,([]:List UInt8),()),())) (k.k3 a1 a2 a3 (0,([]:List I.D),()) (0,([]:List UInt8),()))) (k.k3 a1 a2 a3 (0,([]:List I.D),()) (0,([]:List UInt8),())))
def Nh(k:qO)(U:af.D)(ad:aP.D)(ae:aN.D)(ai:af.D)(ar:aA.D):Option (oq) :=(vq (U,ad,ae.2.1,())).bind fun v1 =>cond (v1.2.1 != 0) (some (U,(v1.2.1,([]:List UInt8),()),())) ((e8 (U,v1.1.1,())).bind fun v2 =>(j7 (ad,v2.1,3,())).bind fun v3 =>cond (!v3.1) (some (U,(13,([]:List UInt8),()),())) (cond (decide ((v2.1.2.2.2.2.2.2.1.length:Int)≥12)) (some (U,(28,([]:List UInt8),()),())) (cond (decide ((U.2.1.length:Int)≥24)) (some (U,(28,([]:List UInt8),()),())) (cond (decide (U.1≥100000)) (some (U,(28,([]:List UInt8),()),())) (cond (ae.1==1) (k.Aq U ae ai ar v1.1 v2.1 (U.1,2,ae.2.2.2.1,ad.1,ad.2.1,([]:List UInt8),([]:List au.D),0,0,())) (k.Aq U ae ai ar v1.1 v2.1 (U.1,1,ae.2.2.2.1,ad.1,ad.2.1,([]:List UInt8),([]:List au.D),0,0,())))))))
def afu(k:qO)(U:af.D)(ad:aN.D)(ae:af.D)(ai:aA.D)(ar:aY.D)(aB:I.D)(aW:I.D):Option (oq) :=cond (ad.1==10) (k.gD U ae ai ar aB (aW.1,3,511,aW.2.2.2.1,aW.2.2.2.2.1,ad.2.2.1,aW.2.2.2.2.2.2.1,aW.2.2.2.2.2.2.2.1,aW.2.2.2.2.2.2.2.2.1,())) (k.gD U ae ai ar aB aW)
def afv(k:qO)(U:af.D)(ad:af.D)(ae:aA.D)(ai:aY.D)(ar:I.D)(aB:I.D):Option (oq) :=cond (c_ .and .i64 ar.2.2.1 1024 != 0) (cond (aB.2.1==2) (k.jJ U ad ae ai (aB.1,aB.2.1,c_ .or .i64 aB.2.2.1 1024,aB.2.2.2.1,ar.2.2.2.2.1,aB.2.2.2.2.2.1,aB.2.2.2.2.2.2.1,aB.2.2.2.2.2.2.2.1,aB.2.2.2.2.2.2.2.2.1,())) (k.jJ U ad ae ai (aB.1,aB.2.1,aB.2.2.1,aB.2.2.2.1,ar.2.2.2.2.1,aB.2.2.2.2.2.1,aB.2.2.2.2.2.2.1,aB.2.2.2.2.2.2.2.1,aB.2.2.2.2.2.2.2.2.1,()))) (k.jJ U ad ae ai aB)
def Ni(k:qO)(U:af.D)(ad:af.D)(ae:aA.D)(ai:aY.D)(ar:I.D):Option (oq) :=(pq (U,())).bind fun v1 =>(om ((ay (v1.1.1+1),v1.1.2.1,()),ar,())).bind fun v2 =>(sq (v2.1,ai.1,ai.2.1,ar.1,())).bind fun v3 =>(qN (U,v3.1,())).bind fun v4 =>some (v4.1,v4.2.1,())
def VC(k:qO):qO:=⟨Nh k,afu k,afv k,Ni k⟩
def jK:Nat→qO:=dX VC ⟨fun _ _ _ _ _=>none,fun _ _ _ _ _ _ _=>none,fun _ _ _ _ _ _=>none,fun _ _ _ _ _=>none⟩
def vt(x:af.D×aP.D×aN.D×Unit):Option (oq):=F6 (jK aK) x.1 x.2.1 x.2.2.1
def vu(a1:af.D)(a2:aP.D)(a3:List UInt8)(a4:Bool):Option (aY.D×Unit) :=(FJ (a3,())).bind fun v1 =>cond (!v1.1) (some ((0,([]:List UInt8),0,22,()),())) ((F4 (a1,a2,a3,a4,())).bind fun v2 =>some (v2.1,()))
def eT(x:af.D×aP.D×(List UInt8)×Bool×Unit):Option (aY.D×Unit):=vu x.1 x.2.1 x.2.2.1 x.2.2.2.1
def Nj(a1:aP.D)(a2:I.D)(a3:I.D):Option (Bool×Unit) :=(Aj (a1,())).bind fun v1 =>cond (!v1.1) (some (false,())) (cond (c_ .and .i64 a2.2.2.1 512==0) (some (true,())) (cond (a1.1==0) (some (true,())) (cond (a1.1==a2.2.2.2.1) (some (true,())) (some (a1.1==a3.2.2.2.1,())))))
def xW(x:aP.D×I.D×I.D×Unit):Option (Bool×Unit):=Nj x.1 x.2.1 x.2.2.1
structure vv where
 bm:(List UInt8)→Int→Int→af.D→af.D→I.D→(List au.D)→Option (af.D×Unit)
 qC:Int→Int→af.D→af.D→(List I.D)→Option (af.D×Unit)
def F7(k:vv)(a1:af.D)(a2:Int)(a3:List UInt8):Option (af.D×Unit) :=(e8 (a1,a2,())).bind fun v1 =>k.bm a3 0 0 a1 (0,([]:List I.D),()) v1.1 ([]:List au.D)
def Ar(k:vv)(U:List UInt8)(ad:Int)(ae:Int)(ai:af.D)(ar:af.D)(aB:I.D)(aW:List au.D):Option (af.D×Unit) :=cond (decide (ae<(aB.2.2.2.2.2.2.1.length:Int))) ((aL aB.2.2.2.2.2.2.1.length ae).bind fun v1 =>cond (bB ((J au aB.2.2.2.2.2.2.1 v1).1) U) ((aL aB.2.2.2.2.2.2.1.length ae).bind fun v2 =>k.bm U ((J au aB.2.2.2.2.2.2.1 v2).2.1) (ay (ae+1)) ai ar aB aW) ((aL aB.2.2.2.2.2.2.1.length ae).bind fun v3 =>cond (room (aW.length+[J au aB.2.2.2.2.2.2.1 v3].length)) (k.bm U ad (ay (ae+1)) ai ar aB (aW++[J au aB.2.2.2.2.2.2.1 v3])) (none))) ((om (ai,(aB.1,aB.2.1,aB.2.2.1,aB.2.2.2.1,aB.2.2.2.2.1,aB.2.2.2.2.2.1,aW,aB.2.2.2.2.2.2.2.1,aB.2.2.2.2.2.2.2.2.1,()),())).bind fun v4 =>(Aa (v4.1,ad,())).bind fun v5 =>cond (decide (v5.1>0)) (some (v4.1,())) (k.qC ad 0 v4.1 ar ([]:List I.D)))
def As(k:vv)(U:Int)(ad:Int)(ae:af.D)(ai:af.D)(ar:List I.D):Option (af.D×Unit) :=cond (decide (ad<(ae.2.1.length:Int))) ((aL ae.2.1.length ad).bind fun v1 =>cond ((J I ae.2.1 (0+v1)).1 != U) ((aL ae.2.1.length ad).bind fun v2 =>cond (room (ar.length+[J I ae.2.1 (0+v2)].length)) (k.qC U (ay (ad+1)) ae ai (ar++[J I ae.2.1 (0+v2)])) (none)) (k.qC U (ay (ad+1)) ae ai ar)) (some ((ae.1,ar,()),()))
def VD(k:vv):vv:=⟨Ar k,As k⟩
def kS:Nat→vv:=dX VD ⟨fun _ _ _ _ _ _ _=>none,fun _ _ _ _ _=>none⟩
def ot(x:af.D×Int×(List UInt8)×Unit):Option (af.D×Unit):=F7 (kS aK) x.1 x.2.1 x.2.2.1
abbrev qP:Type:=af.D×aA.D×Unit
structure sr where
 dG:af.D→aP.D→aN.D→af.D→aA.D→aY.D→I.D→Option (qP)
 eb:af.D→aP.D→aN.D→af.D→aA.D→aY.D→I.D→Option (qP)
 cC:af.D→aP.D→af.D→aA.D→aY.D→I.D→Option (qP)
def F8(k:sr)(a1:af.D)(a2:aP.D)(a3:aN.D):Option (qP) :=(eT (a1,a2,a3.2.1,false,())).bind fun v1 =>cond (v1.1.2.2.2.1 != 0) (some (a1,(v1.1.2.2.2.1,([]:List UInt8),()),())) ((e8 (a1,v1.1.2.2.1,())).bind fun v2 =>cond (a3.1==2) (cond (bB v1.1.2.1 ([]:List UInt8)) (some (a1,(16,([]:List UInt8),()),())) (k.dG a1 a2 a3 (0,([]:List I.D),()) (0,([]:List UInt8),()) v1.1 v2.1)) (k.dG a1 a2 a3 (0,([]:List I.D),()) (0,([]:List UInt8),()) v1.1 v2.1))
def Nk(k:sr)(U:af.D)(ad:aP.D)(ae:aN.D)(ai:af.D)(ar:aA.D)(aB:aY.D)(aW:I.D):Option (qP) :=cond (ae.1==2) (cond (aW.2.1 != 2) (some (U,(20,([]:List UInt8),()),())) (k.eb U ad ae ai ar aB aW)) (k.eb U ad ae ai ar aB aW)
def Nl(k:sr)(U:af.D)(ad:aP.D)(ae:aN.D)(ai:af.D)(ar:aA.D)(aB:aY.D)(aW:I.D):Option (qP) :=cond (ae.1==8) (cond (aW.2.1==2) (some (U,(21,([]:List UInt8),()),())) (k.cC U ad ai ar aB aW)) (k.cC U ad ai ar aB aW)
def Nn(k:sr)(U:af.D)(ad:aP.D)(ae:af.D)(ai:aA.D)(ar:aY.D)(aB:I.D):Option (qP) :=(e8 (U,ar.1,())).bind fun v1 =>(j7 (ad,v1.1,3,())).bind fun v2 =>cond (!v2.1) (some (U,(13,([]:List UInt8),()),())) ((xW (ad,v1.1,aB,())).bind fun v3 =>cond (!v3.1) (some (U,(1,([]:List UInt8),()),())) (cond (decide ((aB.2.2.2.2.2.2.1.length:Int)>0)) (some (U,(39,([]:List UInt8),()),())) ((pq (U,())).bind fun v4 =>(ot (v4.1,ar.1,ar.2.1,())).bind fun v5 =>some (v5.1,(0,([]:List UInt8),()),()))))
def VE(k:sr):sr:=⟨Nk k,Nl k,Nn k⟩
def qQ:Nat→sr:=dX VE ⟨fun _ _ _ _ _ _ _=>none,fun _ _ _ _ _ _ _=>none,fun _ _ _ _ _ _=>none⟩
def At(x:af.D×aP.D×aN.D×Unit):Option (qP):=F8 (qQ aK) x.1 x.2.1 x.2.2.1
def No(a1:af.D)(a2:Int):Option (Bool×Unit) :=(kR (a1,a2,())).bind fun v1 =>cond (decide (v1.1≥0)) ((aL a1.2.1.length v1.1).bind fun v2 =>some ((J I a1.2.1 v2).2.1==2,())) (some (false,()))
def xX(x:af.D×Int×Unit):Option (Bool×Unit):=No x.1 x.2.1
abbrev VF:Type:=af.D×aA.D×Unit
def Np(a1:af.D)(a2:aP.D)(a3:aN.D):Option (VF) :=(eT (a1,a2,a3.2.1,false,())).bind fun v1 =>cond (v1.1.2.2.2.1 != 0) (some (a1,(v1.1.2.2.2.1,([]:List UInt8),()),())) ((xX (a1,v1.1.2.2.1,())).bind fun v2 =>cond v2.1 (some (a1,(1,([]:List UInt8),()),())) ((vq (a1,a2,a3.2.2.1,())).bind fun v3 =>cond (v3.2.1 != 0) (some (a1,(v3.2.1,([]:List UInt8),()),())) ((e8 (a1,v3.1.1,())).bind fun v4 =>(j7 (a2,v4.1,3,())).bind fun v5 =>cond (!v5.1) (some (a1,(13,([]:List UInt8),()),())) (cond (decide ((v4.1.2.2.2.2.2.2.1.length:Int)≥12)) (some (a1,(28,([]:List UInt8),()),())) ((pq (a1,())).bind fun v6 =>(sq (v6.1,v3.1.1,v3.1.2.1,v1.1.2.2.1,())).bind fun bn =>(qN (a1,bn.1,())).bind fun bM =>some (bM.1,bM.2.1,()))))))
def F9(x:af.D×aP.D×aN.D×Unit):Option (VF):=Np x.1 x.2.1 x.2.2.1
abbrev F_:Type:=Int→Int→Int→af.D→Option (Bool×Unit)
def Ga(k2:F_)(a1:af.D)(a2:Int)(a3:Int):Option (Bool×Unit) :=k2 a2 a3 0 a1
def Gb(k2:F_)(U:Int)(ad:Int)(ae:Int)(ai:af.D):Option (Bool×Unit) :=cond (decide (ae≤(ai.2.1.length:Int))) (cond (U==ad) (some (true,())) (cond (U==1) (some (false,())) ((FR (ai,U,())).bind fun v1 =>k2 v1.1 ad (ay (ae+1)) ai))) (some (false,()))
def vw:Nat→F_ | 0,_,_,_,_=>none | m+1,U,ad,ae,ai=>Gb (vw m) U ad ae ai
def Au(x:af.D×Int×Int×Unit):Option (Bool×Unit):=Ga (vw aK) x.1 x.2.1 x.2.2.1
abbrev ml:Type:=af.D×aA.D×Unit
structure pv where
 dG:af.D→aP.D→af.D→aA.D→aY.D→aY.D→Option (ml)
 gD:af.D→aP.D→af.D→aA.D→aY.D→aY.D→I.D→I.D→Option (ml)
 pt:af.D→af.D→aA.D→aY.D→aY.D→I.D→af.D→I.D→Option (ml)
 mm:af.D→af.D→aA.D→aY.D→aY.D→af.D→Option (ml)
 Nq:af.D→af.D→aA.D→aY.D→aY.D→I.D→af.D→I.D→Option (ml)
def Gc(k:pv)(a1:af.D)(a2:aP.D)(a3:aN.D):Option (ml) :=(eT (a1,a2,a3.2.1,false,())).bind fun v1 =>cond (v1.1.2.2.2.1 != 0) (some (a1,(v1.1.2.2.2.1,([]:List UInt8),()),())) ((eT (a1,a2,a3.2.2.1,false,())).bind fun v2 =>cond (v2.1.2.2.2.1 != 0) (cond (v2.1.2.2.2.1 != 2) (some (a1,(v2.1.2.2.2.1,([]:List UInt8),()),())) (cond (bB v2.1.2.1 ([]:List UInt8)) (some (a1,(v2.1.2.2.2.1,([]:List UInt8),()),())) (k.dG a1 a2 (0,([]:List I.D),()) (0,([]:List UInt8),()) v1.1 v2.1))) (k.dG a1 a2 (0,([]:List I.D),()) (0,([]:List UInt8),()) v1.1 v2.1))
def Nr(k:pv)(U:af.D)(ad:aP.D)(ae:af.D)(ai:aA.D)(ar:aY.D)(aB:aY.D):Option (ml) :=cond (bB ar.2.1 ([]:List UInt8)) (some (U,(16,([]:List UInt8),()),())) (cond (bB aB.2.1 ([]:List UInt8)) (some (U,(16,([]:List UInt8),()),())) ((e8 (U,ar.1,())).bind fun v1 =>(e8 (U,aB.1,())).bind fun v2 =>(e8 (U,ar.2.2.1,())).bind fun v3 =>(j7 (ad,v1.1,3,())).bind fun v4 =>cond (!v4.1) (some (U,(13,([]:List UInt8),()),())) ((j7 (ad,v2.1,3,())).bind fun v5 =>cond (!v5.1) (some (U,(13,([]:List UInt8),()),())) ((xW (ad,v1.1,v3.1,())).bind fun v6 =>cond (!v6.1) (some (U,(1,([]:List UInt8),()),())) (cond (v3.1.2.1==2) ((Au (U,aB.1,ar.2.2.1,())).bind fun bn =>cond bn.1 (some (U,(22,([]:List UInt8),()),())) (k.gD U ad ae ai ar aB v2.1 v3.1)) (k.gD U ad ae ai ar aB v2.1 v3.1))))))
def Ns(k:pv)(U:af.D)(ad:aP.D)(ae:af.D)(ai:aA.D)(ar:aY.D)(aB:aY.D)(aW:I.D)(bl:I.D):Option (ml) :=(pq (U,())).bind fun v1 =>cond (decide (aB.2.2.1>0)) (cond (aB.2.2.1==ar.2.2.1) (some (U,(0,([]:List UInt8),()),())) ((e8 (U,aB.2.2.1,())).bind fun v2 =>(xW (ad,aW,v2.1,())).bind fun v3 =>cond (!v3.1) (some (U,(1,([]:List UInt8),()),())) (cond (bl.2.1==2) (cond (v2.1.2.1 != 2) (some (U,(20,([]:List UInt8),()),())) (k.pt U ae ai ar aB bl v1.1 v2.1)) (k.pt U ae ai ar aB bl v1.1 v2.1)))) (cond (ar.1 != aB.1) (cond (decide ((aW.2.2.2.2.2.2.1.length:Int)≥12)) (some (U,(28,([]:List UInt8),()),())) (k.mm U ae ai ar aB v1.1)) (k.mm U ae ai ar aB v1.1))
def Nt(k:pv)(U:af.D)(ad:af.D)(ae:aA.D)(ai:aY.D)(ar:aY.D)(aB:I.D)(aW:af.D)(bl:I.D):Option (ml) :=cond (aB.2.1==2) (cond (decide ((bl.2.2.2.2.2.2.1.length:Int)>0)) (some (U,(39,([]:List UInt8),()),())) (k.Nq U ad ae ai ar aB aW bl)) (k.Nq U ad ae ai ar aB aW bl)
def Nu(k:pv)(U:af.D)(ad:af.D)(ae:aA.D)(ai:aY.D)(ar:aY.D)(aB:af.D):Option (ml) :=(sq (aB,ar.1,ar.2.1,ai.2.2.1,())).bind fun v1 =>(ot (v1.1,ai.1,ai.2.1,())).bind fun v2 =>(qN (U,v2.1,())).bind fun v3 =>some (v3.1,v3.2.1,())
def Nv(k:pv)(U:af.D)(ad:af.D)(ae:aA.D)(ai:aY.D)(ar:aY.D)(aB:I.D)(aW:af.D)(bl:I.D):Option (ml) :=cond (aB.2.1 != 2) (cond (bl.2.1==2) (some (U,(21,([]:List UInt8),()),())) ((ot (aW,ar.1,ar.2.1,())).bind fun v1 =>k.mm U ad ae ai ar v1.1)) ((ot (aW,ar.1,ar.2.1,())).bind fun v2 =>k.mm U ad ae ai ar v2.1)
def VG(k:pv):pv:=⟨Nr k,Ns k,Nt k,Nu k,Nv k⟩
def gp:Nat→pv:=dX VG ⟨fun _ _ _ _ _ _=>none,fun _ _ _ _ _ _ _ _=>none,fun _ _ _ _ _ _ _ _=>none,fun _ _ _ _ _ _=>none,fun _ _ _ _ _ _ _ _=>none⟩
def Gd(x:af.D×aP.D×aN.D×Unit):Option (ml):=Gc (gp aK) x.1 x.2.1 x.2.2.1
structure su where
 k2:Int→(List UInt8)→(List Int)→Option ((List UInt8)×Unit)
 bm:Int→(List UInt8)→Int→(List Int)→Option ((List UInt8)×Unit)
def Ge(k:su)(a1:List UInt8)(a2:Int)(a3:List UInt8):Option ((List UInt8)×Unit) :=k.k2 a2 a3 (ek a1)
def Av(k:su)(U:Int)(ad:List UInt8)(ae:List Int):Option ((List UInt8)×Unit) :=cond (decide ((ae.length:Int)<ay (U +(ad.length:Int)))) (cond (room (ae.length+[0].length)) (k.k2 U ad (ae++[0])) (none)) (k.bm U ad 0 ae)
def VH(k:su)(U:Int)(ad:List UInt8)(ae:Int)(v3:List Int):Option ((List UInt8)×Unit) :=k.bm U ad (ay (ae+1)) v3
def Aw(k:su)(U:Int)(ad:List UInt8)(ae:Int)(ai:List Int):Option ((List UInt8)×Unit) :=cond (decide (ae<(ad.length:Int))) ((aL ad.length ae).bind fun v1 =>(aL ai.length (ay (U+ae))).bind fun v2 =>VH k U ad ae (ai.set (0+v2) ((ad.getD v1 0).toNat:Int))) (some (ga ai,()))
def VI(k:su):su:=⟨Av k,Aw k⟩
def np:Nat→su:=dX VI ⟨fun _ _ _=>none,fun _ _ _ _=>none⟩
def sv(x:(List UInt8)×Int×(List UInt8)×Unit):Option ((List UInt8)×Unit):=Ge (np aK) x.1 x.2.1 x.2.2.1
abbrev vx:Type:=af.D×aA.D×Unit
structure vy where
 eX:Int→af.D→aN.D→af.D→aA.D→I.D→Option (vx)
 hp:af.D→af.D→aA.D→I.D→Option (vx)
def Gf(k:vy)(a1:af.D)(a2:aP.D)(a3:aN.D):Option (vx) :=(eT (a1,a2,a3.2.1,true,())).bind fun v1 =>cond (v1.1.2.2.2.1 != 0) (some (a1,(v1.1.2.2.2.1,([]:List UInt8),()),())) ((e8 (a1,v1.1.2.2.1,())).bind fun v2 =>cond (v2.1.2.1==2) (some (a1,(21,([]:List UInt8),()),())) ((j7 (a2,v2.1,2,())).bind fun v3 =>cond (!v3.1) (some (a1,(13,([]:List UInt8),()),())) (cond (a3.1==6) (k.eX (v2.1.2.2.2.2.2.1.length:Int) a1 a3 (0,([]:List I.D),()) (0,([]:List UInt8),()) v2.1) (k.eX a3.2.2.2.1 a1 a3 (0,([]:List I.D),()) (0,([]:List UInt8),()) v2.1))))
def Nw(k:vy)(U:Int)(ad:af.D)(ae:aN.D)(ai:af.D)(ar:aA.D)(aB:I.D):Option (vx) :=cond (decide (U<0)) (some (ad,(22,([]:List UInt8),()),())) (cond (ae.1==7) (cond (decide (U>64)) (some (ad,(27,([]:List UInt8),()),())) ((sv (aB.2.2.2.2.2.1,U,([]:List UInt8),())).bind fun v1 =>(dN v1.1.length 0 U).bind fun v2 =>k.hp ad ai ar (aB.1,aB.2.1,aB.2.2.1,aB.2.2.2.1,aB.2.2.2.2.1,part v1.1 v2.1 (v2.2-v2.1),aB.2.2.2.2.2.2.1,aB.2.2.2.2.2.2.2.1,aB.2.2.2.2.2.2.2.2.1,()))) (cond (bB ae.2.2.2.2.2.1 ([]:List UInt8)) (some (ad,(0,([]:List UInt8),()),())) (cond (decide (U>ay (64-(ae.2.2.2.2.2.1.length:Int)))) (some (ad,(27,([]:List UInt8),()),())) ((sv (aB.2.2.2.2.2.1,U,ae.2.2.2.2.2.1,())).bind fun v3 =>k.hp ad ai ar (aB.1,aB.2.1,aB.2.2.1,aB.2.2.2.1,aB.2.2.2.2.1,v3.1,aB.2.2.2.2.2.2.1,aB.2.2.2.2.2.2.2.1,aB.2.2.2.2.2.2.2.2.1,())))))
def Nx(k:vy)(U:af.D)(ad:af.D)(ae:aA.D)(ai:I.D):Option (vx) :=(pq (U,())).bind fun v1 =>(om (v1.1,ai,())).bind fun v2 =>(qN (U,v2.1,())).bind fun v3 =>some (v3.1,v3.2.1,())
def VJ(k:vy):vy:=⟨Nw k,Nx k⟩
def j8:Nat→vy:=dX VJ ⟨fun _ _ _ _ _ _=>none,fun _ _ _ _=>none⟩
def xY(x:af.D×aP.D×aN.D×Unit):Option (vx):=Gf (j8 aK) x.1 x.2.1 x.2.2.1
abbrev ou:Type:=af.D×aA.D×Unit
structure qR where
 cY:Bool→af.D→aP.D→aN.D→af.D→aA.D→Option (ou)
 eX:af.D→aP.D→aN.D→af.D→aA.D→Option (ou)
 ph:af.D→aP.D→aN.D→af.D→aA.D→I.D→Option (ou)
 mn:af.D→af.D→aA.D→I.D→Option (ou)
def sw(k:qR)(a1:af.D)(a2:aP.D)(a3:aN.D):Option (ou) :=cond (a3.1==15) ((cS (a3.2.2.2.1,0,2047,())).bind fun v1 =>k.cY (!v1.1) a1 a2 a3 (0,([]:List I.D),()) (0,([]:List UInt8),())) (cond (a3.1==16) ((cS (a3.2.2.2.1,0,1000,())).bind fun v2 =>cond (!v2.1) (k.cY true a1 a2 a3 (0,([]:List I.D),()) (0,([]:List UInt8),())) ((cS (a3.2.2.2.2.1,0,1000,())).bind fun v3 =>k.cY (!v3.1) a1 a2 a3 (0,([]:List I.D),()) (0,([]:List UInt8),()))) ((cS (a3.2.2.2.1,0,400,())).bind fun v4 =>cond (!v4.1) (k.cY true a1 a2 a3 (0,([]:List I.D),()) (0,([]:List UInt8),())) ((cS (a3.2.2.2.2.1,0,24,())).bind fun v5 =>k.cY (!v5.1) a1 a2 a3 (0,([]:List I.D),()) (0,([]:List UInt8),()))))
def Ax(k:qR)(U:Bool)(ad:af.D)(ae:aP.D)(ai:aN.D)(ar:af.D)(aB:aA.D):Option (ou) :=cond U (some (ad,(22,([]:List UInt8),()),())) (cond (ai.1==19) (cond (ae.1 != 0) (some (ad,(1,([]:List UInt8),()),())) (k.eX ad ae ai ar aB)) (k.eX ad ae ai ar aB))
def Ay(k:qR)(U:af.D)(ad:aP.D)(ae:aN.D)(ai:af.D)(ar:aA.D):Option (ou) :=(eT (U,ad,ae.2.1,true,())).bind fun v1 =>cond (v1.1.2.2.2.1 != 0) (some (U,(v1.1.2.2.2.1,([]:List UInt8),()),())) ((e8 (U,v1.1.2.2.1,())).bind fun v2 =>cond (ae.1==15) (cond (ad.1 != 0) (cond (ad.1 != v2.1.2.2.2.1) (some (U,(1,([]:List UInt8),()),())) (k.ph U ad ae ai ar v2.1)) (k.ph U ad ae ai ar v2.1)) (cond (ae.1==16) (cond (ad.1 != 0) (cond (ad.1 != v2.1.2.2.2.1) (some (U,(1,([]:List UInt8),()),())) (cond (ae.2.2.2.1 != v2.1.2.2.2.1) (some (U,(1,([]:List UInt8),()),())) ((vm (ad,ae.2.2.2.2.1,())).bind fun v3 =>cond (!v3.1) (some (U,(1,([]:List UInt8),()),())) (k.mn U ai ar (v2.1.1,v2.1.2.1,v2.1.2.2.1,ae.2.2.2.1,ae.2.2.2.2.1,v2.1.2.2.2.2.2.1,v2.1.2.2.2.2.2.2.1,v2.1.2.2.2.2.2.2.2.1,v2.1.2.2.2.2.2.2.2.2.1,()))))) (k.mn U ai ar (v2.1.1,v2.1.2.1,v2.1.2.2.1,ae.2.2.2.1,ae.2.2.2.2.1,v2.1.2.2.2.2.2.1,v2.1.2.2.2.2.2.2.1,v2.1.2.2.2.2.2.2.2.1,v2.1.2.2.2.2.2.2.2.2.1,()))) (cond (v2.1.2.1 != 2) (some (U,(20,([]:List UInt8),()),())) (k.mn U ai ar (v2.1.1,v2.1.2.1,v2.1.2.2.1,v2.1.2.2.2.1,v2.1.2.2.2.2.1,v2.1.2.2.2.2.2.1,v2.1.2.2.2.2.2.2.1,ae.2.2.2.1,ae.2.2.2.2.1,())))))
def Ny(k:qR)(U:af.D)(ad:aP.D)(ae:aN.D)(ai:af.D)(ar:aA.D)(aB:I.D):Option (ou) :=cond (ad.1 != 0) ((vm (ad,aB.2.2.2.2.1,())).bind fun v1 =>cond (!v1.1) (k.mn U ai ar (aB.1,aB.2.1,c_ .andNot .i64 ae.2.2.2.1 1024,aB.2.2.2.1,aB.2.2.2.2.1,aB.2.2.2.2.2.1,aB.2.2.2.2.2.2.1,aB.2.2.2.2.2.2.2.1,aB.2.2.2.2.2.2.2.2.1,())) (k.mn U ai ar (aB.1,aB.2.1,ae.2.2.2.1,aB.2.2.2.1,aB.2.2.2.2.1,aB.2.2.2.2.2.1,aB.2.2.2.2.2.2.1,aB.2.2.2.2.2.2.2.1,aB.2.2.2.2.2.2.2.2.1,()))) (k.mn U ai ar (aB.1,aB.2.1,ae.2.2.2.1,aB.2.2.2.1,aB.2.2.2.2.1,aB.2.2.2.2.2.1,aB.2.2.2.2.2.2.1,aB.2.2.2.2.2.2.2.1,aB.2.2.2.2.2.2.2.2.1,()))
def Nz(k:qR)(U:af.D)(ad:af.D)(ae:aA.D)(ai:I.D):Option (ou) :=(pq (U,())).bind fun v1 =>(om (v1.1,ai,())).bind fun v2 =>(qN (U,v2.1,())).bind fun v3 =>some (v3.1,v3.2.1,())
def VK(k:qR):qR:=⟨Ax k,Ay k,Ny k,Nz k⟩
def hy:Nat→qR:=dX VK ⟨fun _ _ _ _ _ _=>none,fun _ _ _ _ _=>none,fun _ _ _ _ _ _=>none,fun _ _ _ _=>none⟩
def sx(x:af.D×aP.D×aN.D×Unit):Option (ou):=sw (hy aK) x.1 x.2.1 x.2.2.1
abbrev Gg:Type:=Int→Int→Int→af.D→Option (Int×Unit)
def Gh(cY:Gg)(a1:af.D)(a2:Int):Option (Int×Unit) :=(kR (a1,a2,())).bind fun v1 =>cond (decide (v1.1<0)) (some (0,())) ((aL a1.2.1.length v1.1).bind fun v2 =>cond ((J I a1.2.1 v2).2.1 != 2) ((Aa (a1,a2,())).bind fun v3 =>some (v3.1,())) (cY v1.1 2 0 a1))
def Gi(cY:Gg)(U:Int)(ad:Int)(ae:Int)(ai:af.D):Option (Int×Unit) :=(aL ai.2.1.length U).bind fun v1 =>cond (decide (ae<(((J I ai.2.1 v1).2.2.2.2.2.2.1).length:Int))) ((aL ai.2.1.length U).bind fun v2 =>(aL (((J I ai.2.1 v2).2.2.2.2.2.2.1).length) ae).bind fun v3 =>(xX (ai,(J au ((J I ai.2.1 v2).2.2.2.2.2.2.1) v3).2.1,())).bind fun v4 =>cond v4.1 (cY U (ay (ad+1)) (ay (ae+1)) ai) (cY U ad (ay (ae+1)) ai)) (some (ad,()))
def vz:Nat→Gg | 0,_,_,_,_=>none | m+1,U,ad,ae,ai=>Gi (vz m) U ad ae ai
def Gj(x:af.D×Int×Unit):Option (Int×Unit):=Gh (vz aK) x.1 x.2.1
structure nq where
 bm:af.D→aP.D→aN.D→aA.D→Option (aA.D×Unit)
 dJ:af.D→aP.D→aN.D→aA.D→aY.D→Option (aA.D×Unit)
 vA:Int→aN.D→aA.D→I.D→(List Int)→Option (aA.D×Unit)
 sy:(List UInt8)→Int→aA.D→I.D→Option (aA.D×Unit)
 Gk:(List UInt8)→Int→aA.D→I.D→Option (aA.D×Unit)
def qS(k:nq)(a1:af.D)(a2:aP.D)(a3:aN.D):Option (aA.D×Unit) :=cond (a3.1==18) ((eY ((a1.2.1.length:Int),())).bind fun v1 =>cond (room (v1.1.length +([32]:List UInt8).length)) ((Ab (a1,())).bind fun v2 =>(eY (v2.1,())).bind fun v3 =>cond (room ((v1.1++([32]:List UInt8)).length+v3.1.length)) (some ((0,(v1.1++([32]:List UInt8))++v3.1,()),())) (none)) (none)) (cond (a3.1==14) (cond (a3.2.2.2.1 != 0) (cond (a3.2.2.2.1 != 1) (some ((22,([]:List UInt8),()),())) (cond (a3.1==17) ((cS (a3.2.2.2.1,0,7,())).bind fun v4 =>cond (!v4.1) (some ((22,([]:List UInt8),()),())) (k.bm a1 a2 a3 (0,([]:List UInt8),()))) (k.bm a1 a2 a3 (0,([]:List UInt8),())))) (cond (a3.1==17) ((cS (a3.2.2.2.1,0,7,())).bind fun v5 =>cond (!v5.1) (some ((22,([]:List UInt8),()),())) (k.bm a1 a2 a3 (0,([]:List UInt8),()))) (k.bm a1 a2 a3 (0,([]:List UInt8),())))) (cond (a3.1==17) ((cS (a3.2.2.2.1,0,7,())).bind fun v6 =>cond (!v6.1) (some ((22,([]:List UInt8),()),())) (k.bm a1 a2 a3 (0,([]:List UInt8),()))) (k.bm a1 a2 a3 (0,([]:List UInt8),()))))
def NA(k:nq)(U:af.D)(ad:aP.D)(ae:aN.D)(ai:aA.D):Option (aA.D×Unit) :=cond (ae.1 != 11) (cond (ae.1 != 14) ((eT (U,ad,ae.2.1,true,())).bind fun v1 =>k.dJ U ad ae ai v1.1) ((eT (U,ad,ae.2.1,ae.2.2.2.1==0,())).bind fun v2 =>k.dJ U ad ae ai v2.1)) ((eT (U,ad,ae.2.1,false,())).bind fun v3 =>k.dJ U ad ae ai v3.1)
def sA(k:nq)(U:af.D)(ad:aP.D)(ae:aN.D)(ai:aA.D)(ar:aY.D):Option (aA.D×Unit) :=cond (ar.2.2.2.1 != 0) (some ((ar.2.2.2.1,([]:List UInt8),()),())) ((e8 (U,ar.2.2.1,())).bind fun v1 =>cond (ae.1==4) (cond (v1.1.2.1==2) (some ((21,([]:List UInt8),()),())) ((j7 (ad,v1.1,4,())).bind fun v2 =>cond (!v2.1) (some ((13,([]:List UInt8),()),())) (cond (decide (ae.2.2.2.1<0)) (some ((22,([]:List UInt8),()),())) (cond (decide (ae.2.2.2.2.1<0)) (some ((22,([]:List UInt8),()),())) (k.vA ae.2.2.2.1 ae ai v1.1 ([]:List Int)))))) (cond (ae.1==11) (cond (v1.1.2.1 != 3) (some ((22,([]:List UInt8),()),())) (some ((0,v1.1.2.2.2.2.2.1,()),()))) (cond (ae.1==13) (cond (!(v1.1.2.1==2)) (some ((20,([]:List UInt8),()),())) ((j7 (ad,v1.1,4,())).bind fun v3 =>cond (!v3.1) (some ((13,([]:List UInt8),()),())) (k.sy ([]:List UInt8) 0 ai v1.1))) (cond (ae.1==14) ((eY (v1.1.2.1,())).bind fun v4 =>cond (room (v4.1.length +([32]:List UInt8).length)) ((eY (v1.1.2.2.1,())).bind fun v5 =>cond (room ((v4.1++([32]:List UInt8)).length+v5.1.length)) (cond (room (((v4.1++([32]:List UInt8))++v5.1).length +([32]:List UInt8).length)) ((eY (v1.1.2.2.2.1,())).bind fun v6 =>cond (room ((((v4.1++([32]:List UInt8))++v5.1)++([32]:List UInt8)).length+v6.1.length)) (cond (room (((((v4.1++([32]:List UInt8))++v5.1)++([32]:List UInt8))++v6.1).length +([32]:List UInt8).length)) ((eY (v1.1.2.2.2.2.1,())).bind fun bn =>cond (room ((((((v4.1++([32]:List UInt8))++v5.1)++([32]:List UInt8))++v6.1)++([32]:List UInt8)).length+bn.1.length)) (cond (room (((((((v4.1++([32]:List UInt8))++v5.1)++([32]:List UInt8))++v6.1)++([32]:List UInt8))++bn.1).length +([32]:List UInt8).length)) ((Gj (U,v1.1.1,())).bind fun bM =>(eY (bM.1,())).bind fun v9 =>cond (room ((((((((v4.1++([32]:List UInt8))++v5.1)++([32]:List UInt8))++v6.1)++([32]:List UInt8))++bn.1)++([32]:List UInt8)).length+v9.1.length)) (cond (room (((((((((v4.1++([32]:List UInt8))++v5.1)++([32]:List UInt8))++v6.1)++([32]:List UInt8))++bn.1)++([32]:List UInt8))++v9.1).length +([32]:List UInt8).length)) ((eY ((v1.1.2.2.2.2.2.1.length:Int),())).bind fun v10 =>cond (room ((((((((((v4.1++([32]:List UInt8))++v5.1)++([32]:List UInt8))++v6.1)++([32]:List UInt8))++bn.1)++([32]:List UInt8))++v9.1)++([32]:List UInt8)).length+v10.1.length)) (some ((0,(((((((((v4.1++([32]:List UInt8))++v5.1)++([32]:List UInt8))++v6.1)++([32]:List UInt8))++bn.1)++([32]:List UInt8))++v9.1)++([32]:List UInt8))++v10.1,()),())) (none)) (none)) (none)) (none)) (none)) (none)) (none)) (none)) (none)) (none)) (cond (ae.1==17) ((j7 (ad,v1.1,ae.2.2.2.1,())).bind fun v11 =>cond (!v11.1) (some ((13,([]:List UInt8),()),())) (some ((0,([]:List UInt8),()),()))) (cond (!(v1.1.2.1==2)) (some ((20,([]:List UInt8),()),())) ((j7 (ad,v1.1,4,())).bind fun v12 =>cond (!v12.1) (some ((13,([]:List UInt8),()),())) ((Ac (U,v1.1.1,())).bind fun iO =>(eY (v1.1.2.2.2.2.2.2.2.1,())).bind fun hU =>cond (room (hU.1.length +([32]:List UInt8).length)) ((eY (v1.1.2.2.2.2.2.2.2.2.1,())).bind fun ik =>cond (room ((hU.1++([32]:List UInt8)).length+ik.1.length)) (cond (room (((hU.1++([32]:List UInt8))++ik.1).length +([32]:List UInt8).length)) ((eY (iO.1,())).bind fun jI =>cond (room ((((hU.1++([32]:List UInt8))++ik.1)++([32]:List UInt8)).length+jI.1.length)) (cond (room (((((hU.1++([32]:List UInt8))++ik.1)++([32]:List UInt8))++jI.1).length +([32]:List UInt8).length)) ((eY (iO.2.1,())).bind fun kt =>cond (room ((((((hU.1++([32]:List UInt8))++ik.1)++([32]:List UInt8))++jI.1)++([32]:List UInt8)).length+kt.1.length)) (some ((0,(((((hU.1++([32]:List UInt8))++ik.1)++([32]:List UInt8))++jI.1)++([32]:List UInt8))++kt.1,()),())) (none)) (none)) (none)) (none)) (none)) (none)))))))))
def afw(k:nq)(U:Int)(ad:aN.D)(ae:aA.D)(ai:I.D)(v2:List Int):Option (aA.D×Unit) :=k.vA (ay (U+1)) ad ae ai v2
def Gl(k:nq)(U:Int)(ad:aN.D)(ae:aA.D)(ai:I.D)(ar:List Int):Option (aA.D×Unit) :=cond (decide (U<(ai.2.2.2.2.2.1.length:Int))) (cond (decide (U<ay (ad.2.2.2.1+ad.2.2.2.2.1))) ((aL ai.2.2.2.2.2.1.length U).bind fun v1 =>cond (room (ar.length+[((ai.2.2.2.2.2.1.getD v1 0).toNat:Int)].length)) (afw k U ad ae ai (ar++[((ai.2.2.2.2.2.1.getD v1 0).toNat:Int)])) (none)) (some ((0,ga ar,()),()))) (some ((0,ga ar,()),()))
def Gm(k:nq)(U:List UInt8)(ad:Int)(ae:aA.D)(ai:I.D):Option (aA.D×Unit) :=cond (decide (ad<(ai.2.2.2.2.2.2.1.length:Int))) (cond (decide (ad>0)) (cond (room (U.length +([47]:List UInt8).length)) (k.Gk (U++([47]:List UInt8)) ad ae ai) (none)) (k.Gk U ad ae ai)) (some ((0,U,()),()))
def NB(k:nq)(U:List UInt8)(ad:Int)(ae:aA.D)(ai:I.D):Option (aA.D×Unit) :=(aL ai.2.2.2.2.2.2.1.length ad).bind fun v1 =>cond (room (U.length +((J au ai.2.2.2.2.2.2.1 v1).1).length)) (k.sy (U++((J au ai.2.2.2.2.2.2.1 v1).1)) (ay (ad+1)) ae ai) (none)
def VL(k:nq):nq:=⟨NA k,sA k,Gl k,Gm k,NB k⟩
def fm:Nat→nq:=dX VL ⟨fun _ _ _ _=>none,fun _ _ _ _ _=>none,fun _ _ _ _ _=>none,fun _ _ _ _=>none,fun _ _ _ _=>none⟩
def kT(x:af.D×aP.D×aN.D×Unit):Option (aA.D×Unit):=qS (fm aK) x.1 x.2.1 x.2.2.1
abbrev qT:Type:=af.D×aA.D×Unit
structure sB where
 cY:Int→af.D→aP.D→aN.D→af.D→aA.D→Option (qT)
 cC:Int→af.D→aP.D→aN.D→af.D→aA.D→Option (qT)
 j4:Int→af.D→aP.D→aN.D→af.D→aA.D→Option (qT)
def xZ(k:sB)(a1:af.D)(a2:aP.D)(a3:aN.D):Option (qT) :=(Af (a3,())).bind fun v1 =>cond (!v1.1) (some (a1,(22,([]:List UInt8),()),())) (cond (decide (a3.1>20)) (some (a1,(22,([]:List UInt8),()),())) (cond (a3.1==1) (cond (a3.1==1) ((vt (a1,a2,a3,())).bind fun v2 =>some (v2.1,v2.2.1,())) (k.cY a3.1 a1 a2 a3 (0,([]:List I.D),()) (0,([]:List UInt8),()))) (cond (a3.1==3) (cond (a3.1==3) ((vt (a1,a2,a3,())).bind fun v3 =>some (v3.1,v3.2.1,())) (k.cY a3.1 a1 a2 a3 (0,([]:List I.D),()) (0,([]:List UInt8),()))) (cond (a3.1==10) ((vt (a1,a2,a3,())).bind fun v4 =>some (v4.1,v4.2.1,())) (k.cY a3.1 a1 a2 a3 (0,([]:List I.D),()) (0,([]:List UInt8),()))))))
def afx(k:sB)(U:Int)(ad:af.D)(ae:aP.D)(ai:aN.D)(ar:af.D)(aB:aA.D):Option (qT) :=cond (U==2) (cond (U==2) ((At (ad,ae,ai,())).bind fun v1 =>some (v1.1,v1.2.1,())) (k.cC U ad ae ai ar aB)) (cond (U==8) ((At (ad,ae,ai,())).bind fun v2 =>some (v2.1,v2.2.1,())) (k.cC U ad ae ai ar aB))
def afy(k:sB)(U:Int)(ad:af.D)(ae:aP.D)(ai:aN.D)(ar:af.D)(aB:aA.D):Option (qT) :=cond (U==9) ((F9 (ad,ae,ai,())).bind fun v1 =>some (v1.1,v1.2.1,())) (cond (U==12) ((Gd (ad,ae,ai,())).bind fun v2 =>some (v2.1,v2.2.1,())) (cond (U==5) (cond (U==5) ((xY (ad,ae,ai,())).bind fun v3 =>some (v3.1,v3.2.1,())) (k.j4 U ad ae ai ar aB)) (cond (U==6) (cond (U==6) ((xY (ad,ae,ai,())).bind fun v4 =>some (v4.1,v4.2.1,())) (k.j4 U ad ae ai ar aB)) (cond (U==7) ((xY (ad,ae,ai,())).bind fun v5 =>some (v5.1,v5.2.1,())) (k.j4 U ad ae ai ar aB)))))
def afz(k:sB)(U:Int)(ad:af.D)(ae:aP.D)(ai:aN.D)(ar:af.D)(aB:aA.D):Option (qT) :=cond (U==15) (cond (U==15) ((sx (ad,ae,ai,())).bind fun v1 =>some (v1.1,v1.2.1,())) ((kT (ad,ae,ai,())).bind fun v2 =>some (ad,v2.1,()))) (cond (U==16) (cond (U==16) ((sx (ad,ae,ai,())).bind fun v3 =>some (v3.1,v3.2.1,())) ((kT (ad,ae,ai,())).bind fun v4 =>some (ad,v4.1,()))) (cond (U==19) ((sx (ad,ae,ai,())).bind fun v5 =>some (v5.1,v5.2.1,())) ((kT (ad,ae,ai,())).bind fun v6 =>some (ad,v6.1,()))))
def VM(k:sB):sB:=⟨afx k,afy k,afz k⟩
def Gn:Nat→sB:=dX VM ⟨fun _ _ _ _ _ _=>none,fun _ _ _ _ _ _=>none,fun _ _ _ _ _ _=>none⟩
def vB(x:af.D×aP.D×aN.D×Unit):Option (qT):=xZ (Gn aK) x.1 x.2.1 x.2.2.1
abbrev vC:Type:=aM.D×aA.D×Unit
structure vD where
 dr:aM.D→aN.D→aM.D→aA.D→aP.D→Option (vC)
 j4:aM.D→aN.D→aM.D→aA.D→aP.D→Option (vC)
def Gp(k:vD)(a1:aM.D)(a2:Int)(a3:aN.D):Option (vC) :=(M4 (a2,())).bind fun v1 =>(Af (a3,())).bind fun v2 =>cond (!v2.1) (some (a1,(22,([]:List UInt8),()),())) ((M8 (a1.2.1,a3.1,())).bind fun v3 =>cond (!v3.2.1) (some (a1,(11,([]:List UInt8),()),())) (cond (a3.1==21) (cond (v1.1.1 != 0) (some ((a1.1,v3.1,a1.2.2.1,a1.2.2.2.1,()),(1,([]:List UInt8),()),())) (k.dr (a1.1,v3.1,a1.2.2.1,a1.2.2.2.1,()) a3 ((0,([]:List I.D),()),0,([]:List aE.D),([]:List aO.D),()) (0,([]:List UInt8),()) v1.1)) (cond (a3.1==22) (cond (v1.1.1 != 0) (some ((a1.1,v3.1,a1.2.2.1,a1.2.2.2.1,()),(1,([]:List UInt8),()),())) (k.dr (a1.1,v3.1,a1.2.2.1,a1.2.2.2.1,()) a3 ((0,([]:List I.D),()),0,([]:List aE.D),([]:List aO.D),()) (0,([]:List UInt8),()) v1.1)) (k.dr (a1.1,v3.1,a1.2.2.1,a1.2.2.2.1,()) a3 ((0,([]:List I.D),()),0,([]:List aE.D),([]:List aO.D),()) (0,([]:List UInt8),()) v1.1))))
def x0(k:vD)(U:aM.D)(ad:aN.D)(ae:aM.D)(ai:aA.D)(ar:aP.D):Option (vC) :=cond (ad.1==21) (cond (decide (ad.2.2.2.1<0)) (some (U,(22,([]:List UInt8),()),())) ((M_ (U.2.2.1,ad.2.2.2.1,())).bind fun v1 =>some (U,(0,v1.1,()),()))) (cond (ad.1==22) (some ((U.1,U.2.1,([]:List aE.D),U.2.2.2.1,()),(0,([]:List UInt8),()),())) ((Ag (ad.1,())).bind fun v2 =>cond (!v2.1) (cond (decide ((U.2.2.1.length:Int)≥20)) (some (U,(28,([]:List UInt8),()),())) (k.j4 U ad ae ai ar)) (k.j4 U ad ae ai ar)))
def NC(k:vD)(U:aM.D)(ad:aN.D)(ae:aM.D)(ai:aA.D)(ar:aP.D):Option (vC) :=(vB (U.1,ar,ad,())).bind fun v1 =>some ((v1.1,U.2.1,U.2.2.1,U.2.2.2.1,()),v1.2.1,())
def VN(k:vD):vD:=⟨x0 k,NC k⟩
def pw:Nat→vD:=dX VN ⟨fun _ _ _ _ _=>none,fun _ _ _ _ _=>none⟩
def Gq(x:aM.D×Int×aN.D×Unit):Option (vC):=Gp (pw aK) x.1 x.2.1 x.2.2.1
abbrev mo:Type:=aM.D×aA.D×Bool×Unit
structure qU where
 dr:Int→Int→Int→Bool→aM.D→aN.D→aM.D→aA.D→aA.D→Option (mo)
 cC:Int→Int→Int→aM.D→aN.D→aM.D→aA.D→aA.D→Option (mo)
 eX:Int→Int→Int→aM.D→aM.D→aA.D→aA.D→Option (mo)
def Gr(k:qU)(a1:aM.D)(a2:Int)(a3:Int)(a4:aN.D)(a5:Int):Option (mo) :=(cS (a2,1,3,())).bind fun v1 =>cond (!v1.1) (some (a1,(0,([]:List UInt8),()),false,())) ((cS (a3,1,1000000,())).bind fun v2 =>cond (!v2.1) (some (a1,(0,([]:List UInt8),()),false,())) ((cS (a5,1,100000,())).bind fun v3 =>cond (!v3.1) (some (a1,(0,([]:List UInt8),()),false,())) ((MZ (a1,())).bind fun v4 =>cond (decide (a5<v4.1)) (some (a1,(0,([]:List UInt8),()),false,())) ((MY (a1,a2,())).bind fun v5 =>cond (a3==v5.1.2.1) (some (a1,v5.1.2.2.2.1,false,())) (cond (a3 != ay (v5.1.2.1+1)) (some (a1,(0,([]:List UInt8),()),false,())) ((Gq (a1,a2,a4,())).bind fun v6 =>cond (a4.1==22) (k.dr a2 a3 a5 (v6.2.1.1==0) v6.1 a4 ((0,([]:List I.D),()),0,([]:List aE.D),([]:List aO.D),()) (0,([]:List UInt8),()) v6.2.1) (k.dr a2 a3 a5 false v6.1 a4 ((0,([]:List I.D),()),0,([]:List aE.D),([]:List aO.D),()) (0,([]:List UInt8),()) v6.2.1)))))))
def ND(k:qU)(U:Int)(ad:Int)(ae:Int)(ai:Bool)(ar:aM.D)(aB:aN.D)(aW:aM.D)(bl:aA.D)(bQ:aA.D):Option (mo) :=cond (decide ((ar.2.2.1.length:Int)<20)) ((Af (aB,())).bind fun v1 =>cond v1.1 ((Ag (aB.1,())).bind fun v2 =>cond (!v2.1) (cond (!ai) (k.cC U ad ae ar aB aW bl bQ) (k.eX U ad ae ar aW bl bQ)) (cond (bQ.1 != 0) (cond (!ai) (k.cC U ad ae ar aB aW bl bQ) (k.eX U ad ae ar aW bl bQ)) (k.eX U ad ae ar aW bl bQ))) (k.eX U ad ae ar aW bl bQ)) (k.eX U ad ae ar aW bl bQ)
def afA(k:qU)(U:Int)(ad:Int)(ae:Int)(ai:aM.D)(aB:aM.D)(aW:aA.D)(bl:aA.D)(v1:List aE.D):Option (mo) :=k.eX U ad ae (ai.1,ai.2.1,v1,ai.2.2.2.1,()) aB aW bl
def NF(k:qU)(U:Int)(ad:Int)(ae:Int)(ai:aM.D)(ar:aN.D)(aB:aM.D)(aW:aA.D)(bl:aA.D):Option (mo) :=cond (room (ai.2.2.1.length+[(ae,U,ad,ar.1,bl.1,())].length)) (afA k U ad ae ai aB aW bl (ai.2.2.1++[(ae,U,ad,ar.1,bl.1,())])) (none)
def afB(ai:aM.D)(aW:aA.D)(v3:List aO.D):Option (mo) :=some ((ai.1,ai.2.1,ai.2.2.1,v3,()),aW,true,())
def afC(ai:aM.D)(aW:aA.D)(bn:List aO.D):Option (mo) :=some ((ai.1,ai.2.1,ai.2.2.1,bn,()),aW,true,())
def VO(U:Int)(ad:Int)(ae:Int)(aW:aA.D)(ai:aM.D)(v1:Int×Bool×Unit)(v5:List aO.D):Option (mo) :=cond (room (v5.length+[(U,ad,ae,aW,())].length)) ((dN ai.2.2.2.1.length v1.1 (ai.2.2.2.1.length:Int)).bind fun v6 =>cond (room ((v5++[(U,ad,ae,aW,())]).length +(part ai.2.2.2.1 (0+v6.1) (v6.2-v6.1)).length)) (afC ai aW ((v5++[(U,ad,ae,aW,())])++(part ai.2.2.2.1 (0+v6.1) (v6.2-v6.1)))) (none)) (none)
def NG(k:qU)(U:Int)(ad:Int)(ae:Int)(ai:aM.D)(ar:aM.D)(aB:aA.D)(aW:aA.D):Option (mo) :=(Fw (ai,U,())).bind fun v1 =>cond v1.2.1 ((aL ai.2.2.2.1.length v1.1).bind fun v2 =>afB ai aW (ai.2.2.2.1.set (0+v2) (U,ad,ae,aW,()))) ((dN ai.2.2.2.1.length 0 v1.1).bind fun v4 =>cond (room (([]:List aO.D).length +(part ai.2.2.2.1 (0+v4.1) (v4.2-v4.1)).length)) (VO U ad ae aW ai v1 (([]:List aO.D)++(part ai.2.2.2.1 (0+v4.1) (v4.2-v4.1)))) (none))
def VP(k:qU):qU:=⟨ND k,NF k,NG k⟩
def qV:Nat→qU:=dX VP ⟨fun _ _ _ _ _ _ _ _ _=>none,fun _ _ _ _ _ _ _ _=>none,fun _ _ _ _ _ _ _=>none⟩
def vE(x:aM.D×Int×Int×aN.D×Int×Unit):Option (mo):=Gr (qV aK) x.1 x.2.1 x.2.2.1 x.2.2.2.1 x.2.2.2.2.1
def NH(a1:aM.D):Option (aM.D×Unit) :=(pq (a1.1,())).bind fun v1 =>cond (room (([]:List aE.D).length+a1.2.2.1.length)) (cond (room (([]:List aO.D).length+a1.2.2.2.1.length)) (some ((v1.1,a1.2.1,([]:List aE.D)++a1.2.2.1,([]:List aO.D)++a1.2.2.2.1,()),())) (none)) (none)
def Az(x:aM.D×Unit):Option (aM.D×Unit):=NH x.1
abbrev VQ:Type:=aM.D×aA.D×Bool×Unit
def NI(a1:aM.D)(a2:Int)(a3:Int)(a4:aN.D)(a5:Int):Option (VQ) :=(MW (a1,())).bind fun v1 =>cond (!v1.1) (some (((0,([]:List I.D),()),0,([]:List aE.D),([]:List aO.D),()),(0,([]:List UInt8),()),false,())) (both ((Az (a1,())).bind fun v2 =>both ((vE (v2.1,a2,a3,a4,a5,())).bind fun v3 =>dup (some (v3.1,v3.2.1,v3.2.2.1,()))) (dup (dup ((vE (v2.1,a2,a3,a4,a5,())).bind fun v3 =>some (v3.1,v3.2.1,v3.2.2.1,()))))) (dup (both ((Az (a1,())).bind fun v2 =>dup ((vE (v2.1,a2,a3,a4,a5,())).bind fun v3 =>some (v3.1,v3.2.1,v3.2.2.1,()))) ((Az (a1,())).bind fun v2 =>(vE (v2.1,a2,a3,a4,a5,())).bind fun v3 =>some (v3.1,v3.2.1,v3.2.2.1,())))))
def px(x:aM.D×Int×Int×aN.D×Int×Unit):Option (VQ):=NI x.1 x.2.1 x.2.2.1 x.2.2.2.1 x.2.2.2.2.1
def NJ(a1:au.D)(a2:Int):Option (Int×Unit) :=cond (decide (ay (a2-(a1.1.length:Int))<0)) (some ((-1),())) (some (ay (a2-(a1.1.length:Int)),()))
def NK(x:au.D×Int×Unit):Option (Int×Unit):=NJ x.1 x.2.1
abbrev Gs:Type:=(List au.D)→Int→Int→Option (Int×Unit)
def Gt(bm:Gs)(a1:List au.D)(a2:Int):Option (Int×Unit) :=cond (decide (ay (a2-(a1.length:Int))<0)) (some ((-1),())) (bm a1 (ay (a2-(a1.length:Int))) 0)
def Gu(bm:Gs)(U:List au.D)(ad:Int)(ae:Int):Option (Int×Unit) :=cond (decide (ae<(U.length:Int))) ((aL U.length ae).bind fun v1 =>(NK (J au U v1,ad,())).bind fun v2 =>cond (decide (v2.1<0)) (some ((-1),())) (bm U v2.1 (ay (ae+1)))) (some (ad,()))
def vF:Nat→Gs | 0,_,_,_=>none | m+1,U,ad,ae=>Gu (vF m) U ad ae
def NL(x:(List au.D)×Int×Unit):Option (Int×Unit):=Gt (vF aK) x.1 x.2.1
def NM(a1:I.D)(a2:Int):Option (Int×Unit) :=cond (decide (ay (a2-(a1.2.2.2.2.2.1.length:Int))<0)) (some ((-1),())) ((NL (a1.2.2.2.2.2.2.1,ay (a2-(a1.2.2.2.2.2.1.length:Int)),())).bind fun v1 =>cond (decide (v1.1<0)) (some ((-1),())) (some (v1.1,())))
def NN(x:I.D×Int×Unit):Option (Int×Unit):=NM x.1 x.2.1
abbrev Gv:Type:=(List I.D)→Int→Int→Option (Int×Unit)
def Gw(bm:Gv)(a1:List I.D)(a2:Int):Option (Int×Unit) :=cond (decide (ay (a2-(a1.length:Int))<0)) (some ((-1),())) (bm a1 (ay (a2-(a1.length:Int))) 0)
def Gz(bm:Gv)(U:List I.D)(ad:Int)(ae:Int):Option (Int×Unit) :=cond (decide (ae<(U.length:Int))) ((aL U.length ae).bind fun v1 =>(NN (J I U v1,ad,())).bind fun v2 =>cond (decide (v2.1<0)) (some ((-1),())) (bm U v2.1 (ay (ae+1)))) (some (ad,()))
def vG:Nat→Gv | 0,_,_,_=>none | m+1,U,ad,ae=>Gz (vG m) U ad ae
def NO(x:(List I.D)×Int×Unit):Option (Int×Unit):=Gw (vG aK) x.1 x.2.1
def NP(a1:af.D)(a2:Int):Option (Int×Unit) :=(NO (a1.2.1,a2,())).bind fun v1 =>cond (decide (v1.1<0)) (some ((-1),())) (some (v1.1,()))
def NQ(x:af.D×Int×Unit):Option (Int×Unit):=NP x.1 x.2.1
def NR(a1:List aE.D)(a2:Int):Option (Int×Unit) :=cond (decide (ay (a2-(a1.length:Int))<0)) (some ((-1),())) (some (ay (a2-(a1.length:Int)),()))
def NS(x:(List aE.D)×Int×Unit):Option (Int×Unit):=NR x.1 x.2.1
def NT(a1:aA.D)(a2:Int):Option (Int×Unit) :=cond (decide (ay (a2-(a1.2.1.length:Int))<0)) (some ((-1),())) (some (ay (a2-(a1.2.1.length:Int)),()))
def NU(x:aA.D×Int×Unit):Option (Int×Unit):=NT x.1 x.2.1
def NV(a1:aO.D)(a2:Int):Option (Int×Unit) :=(NU (a1.2.2.2.1,a2,())).bind fun v1 =>cond (decide (v1.1<0)) (some ((-1),())) (some (v1.1,()))
def NW(x:aO.D×Int×Unit):Option (Int×Unit):=NV x.1 x.2.1
abbrev GA:Type:=(List aO.D)→Int→Int→Option (Int×Unit)
def GB(bm:GA)(a1:List aO.D)(a2:Int):Option (Int×Unit) :=cond (decide (ay (a2-(a1.length:Int))<0)) (some ((-1),())) (bm a1 (ay (a2-(a1.length:Int))) 0)
def GC(bm:GA)(U:List aO.D)(ad:Int)(ae:Int):Option (Int×Unit) :=cond (decide (ae<(U.length:Int))) ((aL U.length ae).bind fun v1 =>(NW (J aO U v1,ad,())).bind fun v2 =>cond (decide (v2.1<0)) (some ((-1),())) (bm U v2.1 (ay (ae+1)))) (some (ad,()))
def vH:Nat→GA | 0,_,_,_=>none | m+1,U,ad,ae=>GC (vH m) U ad ae
def NX(x:(List aO.D)×Int×Unit):Option (Int×Unit):=GB (vH aK) x.1 x.2.1
def NY(a1:aM.D)(a2:Int):Option (Int×Unit) :=(NQ (a1.1,a2,())).bind fun v1 =>cond (decide (v1.1<0)) (some ((-1),())) ((NS (a1.2.2.1,v1.1,())).bind fun v2 =>cond (decide (v2.1<0)) (some ((-1),())) ((NX (a1.2.2.2.1,v2.1,())).bind fun v3 =>cond (decide (v3.1<0)) (some ((-1),())) (some (v3.1,()))))
def NZ(x:aM.D×Int×Unit):Option (Int×Unit):=NY x.1 x.2.1
def N0(a1:aN.D)(a2:Int):Option (Int×Unit) :=cond (decide (ay (a2-(a1.2.1.length:Int))<0)) (some ((-1),())) (cond (decide (ay (ay (a2-(a1.2.1.length:Int))-(a1.2.2.1.length:Int))<0)) (some ((-1),())) (cond (decide (ay (ay (ay (a2-(a1.2.1.length:Int))-(a1.2.2.1.length:Int))-(a1.2.2.2.2.2.1.length:Int))<0)) (some ((-1),())) (some (ay (ay (ay (a2-(a1.2.1.length:Int))-(a1.2.2.1.length:Int))-(a1.2.2.2.2.2.1.length:Int)),()))))
def N1(x:aN.D×Int×Unit):Option (Int×Unit):=N0 x.1 x.2.1
def N2(a1:au.D):Option (au.D×Unit) :=some (a1,())
def N3(x:au.D×Unit):Option (au.D×Unit):=N2 x.1
abbrev AA:Type:=(List au.D)×Unit
abbrev GD:Type:=(List au.D)→Int→(List au.D)→Option (AA)
def GF(k3:GD)(a1:List au.D):Option (AA) :=cond (decide (0≤(a1.length:Int))&&decide ((a1.length:Int)=(a1.length:Int))&&room (Int.toNat (a1.length:Int))) (k3 a1 0 (List.replicate (Int.toNat (a1.length:Int)) ((([]:List UInt8),0,()):au.D))) (none)
def GG(k3:GD)(U:List au.D)(ad:Int)(ae:List au.D):Option (AA) :=cond (decide (ad<(U.length:Int))) ((aL U.length ad).bind fun v1 =>(N3 (J au U v1,())).bind fun v2 =>(aL ae.length ad).bind fun v3 =>k3 U (ay (ad+1)) (ae.set (0+v3) v2.1)) (some (ae,()))
def vI:Nat→GD | 0,_,_,_=>none | m+1,U,ad,ae=>GG (vI m) U ad ae
def N4(x:(List au.D)×Unit):Option (AA):=GF (vI aK) x.1
def N5(a1:I.D):Option (I.D×Unit) :=(N4 (a1.2.2.2.2.2.2.1,())).bind fun v1 =>some ((a1.1,a1.2.1,a1.2.2.1,a1.2.2.2.1,a1.2.2.2.2.1,a1.2.2.2.2.2.1,v1.1,a1.2.2.2.2.2.2.2.1,a1.2.2.2.2.2.2.2.2.1,()),())
def N6(x:I.D×Unit):Option (I.D×Unit):=N5 x.1
abbrev AB:Type:=(List I.D)×Unit
abbrev GH:Type:=(List I.D)→Int→(List I.D)→Option (AB)
def GI(k3:GH)(a1:List I.D):Option (AB) :=cond (decide (0≤(a1.length:Int))&&decide ((a1.length:Int)=(a1.length:Int))&&room (Int.toNat (a1.length:Int))) (k3 a1 0 (List.replicate (Int.toNat (a1.length:Int)) ((0,0,0,0,0,([]:List UInt8),([]:List au.D),0,0,()):I.D))) (none)
def GJ(k3:GH)(U:List I.D)(ad:Int)(ae:List I.D):Option (AB) :=cond (decide (ad<(U.length:Int))) ((aL U.length ad).bind fun v1 =>(N6 (J I U v1,())).bind fun v2 =>(aL ae.length ad).bind fun v3 =>k3 U (ay (ad+1)) (ae.set (0+v3) v2.1)) (some (ae,()))
def vJ:Nat→GH | 0,_,_,_=>none | m+1,U,ad,ae=>GJ (vJ m) U ad ae
def N7(x:(List I.D)×Unit):Option (AB):=GI (vJ aK) x.1
def N8(a1:af.D):Option (af.D×Unit) :=(N7 (a1.2.1,())).bind fun v1 =>some ((a1.1,v1.1,()),())
def N9(x:af.D×Unit):Option (af.D×Unit):=N8 x.1
def N_(a1:aE.D):Option (aE.D×Unit) :=some (a1,())
def N'(x:aE.D×Unit):Option (aE.D×Unit):=N_ x.1
abbrev AD:Type:=(List aE.D)×Unit
abbrev GK:Type:=(List aE.D)→Int→(List aE.D)→Option (AD)
def GL(k3:GK)(a1:List aE.D):Option (AD) :=cond (decide (0≤(a1.length:Int))&&decide ((a1.length:Int)=(a1.length:Int))&&room (Int.toNat (a1.length:Int))) (k3 a1 0 (List.replicate (Int.toNat (a1.length:Int)) ((0,0,0,0,0,()):aE.D))) (none)
def GM(k3:GK)(U:List aE.D)(ad:Int)(ae:List aE.D):Option (AD) :=cond (decide (ad<(U.length:Int))) ((aL U.length ad).bind fun v1 =>(N' (J aE U v1,())).bind fun v2 =>(aL ae.length ad).bind fun v3 =>k3 U (ay (ad+1)) (ae.set (0+v3) v2.1)) (some (ae,()))
def vK:Nat→GK | 0,_,_,_=>none | m+1,U,ad,ae=>GM (vK m) U ad ae
def Oa(x:(List aE.D)×Unit):Option (AD):=GL (vK aK) x.1
def Ob(a1:aA.D):Option (aA.D×Unit) :=some (a1,())
def Oc(x:aA.D×Unit):Option (aA.D×Unit):=Ob x.1
def Od(a1:aO.D):Option (aO.D×Unit) :=(Oc (a1.2.2.2.1,())).bind fun v1 =>some ((a1.1,a1.2.1,a1.2.2.1,v1.1,()),())
def Oe(x:aO.D×Unit):Option (aO.D×Unit):=Od x.1
abbrev AE:Type:=(List aO.D)×Unit
abbrev GN:Type:=(List aO.D)→Int→(List aO.D)→Option (AE)
def GO(k3:GN)(a1:List aO.D):Option (AE) :=cond (decide (0≤(a1.length:Int))&&decide ((a1.length:Int)=(a1.length:Int))&&room (Int.toNat (a1.length:Int))) (k3 a1 0 (List.replicate (Int.toNat (a1.length:Int)) ((0,0,0,(0,([]:List UInt8),()),()):aO.D))) (none)
def GP(k3:GN)(U:List aO.D)(ad:Int)(ae:List aO.D):Option (AE) :=cond (decide (ad<(U.length:Int))) ((aL U.length ad).bind fun v1 =>(Oe (J aO U v1,())).bind fun v2 =>(aL ae.length ad).bind fun v3 =>k3 U (ay (ad+1)) (ae.set (0+v3) v2.1)) (some (ae,()))
def vL:Nat→GN | 0,_,_,_=>none | m+1,U,ad,ae=>GP (vL m) U ad ae
def Of(x:(List aO.D)×Unit):Option (AE):=GO (vL aK) x.1
def Og(a1:aM.D):Option (aM.D×Unit) :=(N9 (a1.1,())).bind fun v1 =>(Oa (a1.2.2.1,())).bind fun v2 =>(Of (a1.2.2.2.1,())).bind fun v3 =>some ((v1.1,a1.2.1,v2.1,v3.1,()),())
def py(x:aM.D×Unit):Option (aM.D×Unit):=Og x.1
def Oh(a1:aN.D):Option (aN.D×Unit) :=some (a1,())
def j9(x:aN.D×Unit):Option (aN.D×Unit):=Oh x.1
def Oi(a1:au.D)(a2:au.D):Option (Bool×Unit) :=cond (!(bB a1.1 a2.1)) (some (false,())) (cond (a1.2.1 != a2.2.1) (some (false,())) (some (true,())))
def Oj(x:au.D×au.D×Unit):Option (Bool×Unit):=Oi x.1 x.2.1
abbrev GQ:Type:=(List au.D)→(List au.D)→Int→Option (Bool×Unit)
def GR(bf:GQ)(a1:List au.D)(a2:List au.D):Option (Bool×Unit) :=cond ((a1.length:Int) !=(a2.length:Int)) (some (false,())) (bf a1 a2 0)
def GS(bf:GQ)(U:List au.D)(ad:List au.D)(ae:Int):Option (Bool×Unit) :=cond (decide (ae<(U.length:Int))) ((aL U.length ae).bind fun v1 =>(aL ad.length ae).bind fun v2 =>(Oj (J au U v1,J au ad v2,())).bind fun v3 =>cond (!v3.1) (some (false,())) (bf U ad (ay (ae+1)))) (some (true,()))
def vM:Nat→GQ | 0,_,_,_=>none | m+1,U,ad,ae=>GS (vM m) U ad ae
def Ok(x:(List au.D)×(List au.D)×Unit):Option (Bool×Unit):=GR (vM aK) x.1 x.2.1
def Ol(a1:I.D)(a2:I.D):Option (Bool×Unit) :=cond (a1.1 != a2.1) (some (false,())) (cond (a1.2.1 != a2.2.1) (some (false,())) (cond (a1.2.2.1 != a2.2.2.1) (some (false,())) (cond (a1.2.2.2.1 != a2.2.2.2.1) (some (false,())) (cond (a1.2.2.2.2.1 != a2.2.2.2.2.1) (some (false,())) (cond (!(bB a1.2.2.2.2.2.1 a2.2.2.2.2.2.1)) (some (false,())) ((Ok (a1.2.2.2.2.2.2.1,a2.2.2.2.2.2.2.1,())).bind fun v1 =>cond (!v1.1) (some (false,())) (cond (a1.2.2.2.2.2.2.2.1 != a2.2.2.2.2.2.2.2.1) (some (false,())) (cond (a1.2.2.2.2.2.2.2.2.1 != a2.2.2.2.2.2.2.2.2.1) (some (false,())) (some (true,()))))))))))
def Om(x:I.D×I.D×Unit):Option (Bool×Unit):=Ol x.1 x.2.1
abbrev GU:Type:=(List I.D)→(List I.D)→Int→Option (Bool×Unit)
def GV(bf:GU)(a1:List I.D)(a2:List I.D):Option (Bool×Unit) :=cond ((a1.length:Int) !=(a2.length:Int)) (some (false,())) (bf a1 a2 0)
def GW(bf:GU)(U:List I.D)(ad:List I.D)(ae:Int):Option (Bool×Unit) :=cond (decide (ae<(U.length:Int))) ((aL U.length ae).bind fun v1 =>(aL ad.length ae).bind fun v2 =>(Om (J I U v1,J I ad v2,())).bind fun v3 =>cond (!v3.1) (some (false,())) (bf U ad (ay (ae+1)))) (some (true,()))
def vN:Nat→GU | 0,_,_,_=>none | m+1,U,ad,ae=>GW (vN m) U ad ae
def On(x:(List I.D)×(List I.D)×Unit):Option (Bool×Unit):=GV (vN aK) x.1 x.2.1
def Oo(a1:af.D)(a2:af.D):Option (Bool×Unit) :=cond (a1.1 != a2.1) (some (false,())) ((On (a1.2.1,a2.2.1,())).bind fun v1 =>cond (!v1.1) (some (false,())) (some (true,())))
def Oq(x:af.D×af.D×Unit):Option (Bool×Unit):=Oo x.1 x.2.1
def Ot(a1:aE.D)(a2:aE.D):Option (Bool×Unit) :=cond (a1.1 != a2.1) (some (false,())) (cond (a1.2.1 != a2.2.1) (some (false,())) (cond (a1.2.2.1 != a2.2.2.1) (some (false,())) (cond (a1.2.2.2.1 != a2.2.2.2.1) (some (false,())) (cond (a1.2.2.2.2.1 != a2.2.2.2.2.1) (some (false,())) (some (true,()))))))
def Ou(x:aE.D×aE.D×Unit):Option (Bool×Unit):=Ot x.1 x.2.1
abbrev GX:Type:=(List aE.D)→(List aE.D)→Int→Option (Bool×Unit)
def GY(bf:GX)(a1:List aE.D)(a2:List aE.D):Option (Bool×Unit) :=cond ((a1.length:Int) !=(a2.length:Int)) (some (false,())) (bf a1 a2 0)
def GZ(bf:GX)(U:List aE.D)(ad:List aE.D)(ae:Int):Option (Bool×Unit) :=cond (decide (ae<(U.length:Int))) ((aL U.length ae).bind fun v1 =>(aL ad.length ae).bind fun v2 =>(Ou (J aE U v1,J aE ad v2,())).bind fun v3 =>cond (!v3.1) (some (false,())) (bf U ad (ay (ae+1)))) (some (true,()))
def vO:Nat→GX | 0,_,_,_=>none | m+1,U,ad,ae=>GZ (vO m) U ad ae
def Ov(x:(List aE.D)×(List aE.D)×Unit):Option (Bool×Unit):=GY (vO aK) x.1 x.2.1
def Ow(a1:aA.D)(a2:aA.D):Option (Bool×Unit) :=cond (a1.1 != a2.1) (some (false,())) (cond (!(bB a1.2.1 a2.2.1)) (some (false,())) (some (true,())))
def x1(x:aA.D×aA.D×Unit):Option (Bool×Unit):=Ow x.1 x.2.1
def Ox(a1:aO.D)(a2:aO.D):Option (Bool×Unit) :=cond (a1.1 != a2.1) (some (false,())) (cond (a1.2.1 != a2.2.1) (some (false,())) (cond (a1.2.2.1 != a2.2.2.1) (some (false,())) ((x1 (a1.2.2.2.1,a2.2.2.2.1,())).bind fun v1 =>cond (!v1.1) (some (false,())) (some (true,())))))
def Oy(x:aO.D×aO.D×Unit):Option (Bool×Unit):=Ox x.1 x.2.1
abbrev G0:Type:=(List aO.D)→(List aO.D)→Int→Option (Bool×Unit)
def G4(bf:G0)(a1:List aO.D)(a2:List aO.D):Option (Bool×Unit) :=cond ((a1.length:Int) !=(a2.length:Int)) (some (false,())) (bf a1 a2 0)
def G5(bf:G0)(U:List aO.D)(ad:List aO.D)(ae:Int):Option (Bool×Unit) :=cond (decide (ae<(U.length:Int))) ((aL U.length ae).bind fun v1 =>(aL ad.length ae).bind fun v2 =>(Oy (J aO U v1,J aO ad v2,())).bind fun v3 =>cond (!v3.1) (some (false,())) (bf U ad (ay (ae+1)))) (some (true,()))
def vP:Nat→G0 | 0,_,_,_=>none | m+1,U,ad,ae=>G5 (vP m) U ad ae
def Oz(x:(List aO.D)×(List aO.D)×Unit):Option (Bool×Unit):=G4 (vP aK) x.1 x.2.1
def OA(a1:aM.D)(a2:aM.D):Option (Bool×Unit) :=(Oq (a1.1,a2.1,())).bind fun v1 =>cond (!v1.1) (some (false,())) (cond (a1.2.1 != a2.2.1) (some (false,())) ((Ov (a1.2.2.1,a2.2.2.1,())).bind fun v2 =>cond (!v2.1) (some (false,())) ((Oz (a1.2.2.2.1,a2.2.2.2.1,())).bind fun v3 =>cond (!v3.1) (some (false,())) (some (true,())))))
def x2(x:aM.D×aM.D×Unit):Option (Bool×Unit):=OA x.1 x.2.1
abbrev G6:Type:=Int→(List UInt8)→Option ((List UInt8)×Unit)
def G7(bf:G6)(a1:Int):Option ((List UInt8)×Unit) :=cond (decide (a1≤0)) (some (([109,48]:List UInt8),())) (bf a1 ([]:List UInt8))
def G8(bf:G6)(U:Int)(ad:List UInt8):Option ((List UInt8)×Unit) :=cond (decide (U>0)) (cond (room ((ga [IntKind.wrap .u8 (ay (48+Int.tmod U 10))]).length+ad.length)) (bf (ay (Int.tdiv U 10)) ((ga [IntKind.wrap .u8 (ay (48+Int.tmod U 10))])++ad)) (none)) (cond (room (([109]:List UInt8).length+ad.length)) (some (([109]:List UInt8)++ad,())) (none))
def vQ:Nat→G6 | 0,_,_=>none | m+1,U,ad=>G8 (vQ m) U ad
def pz(x:Int×Unit):Option ((List UInt8)×Unit):=G7 (vQ aK) x.1
abbrev vR:Type:=Int×(List au.D)×Unit
abbrev x3:Type:=Int→Int→(List au.D)→Option (vR)
def G9(k2:x3)(a1:List au.D)(a2:Int):Option (vR) :=k2 a2 0 a1
def VR(k2:x3)(U:Int)(ad:Int)(v5:List au.D):Option (vR) :=k2 (ay (ay (U+1)+1)) (ay (ad+1)) v5
def VS(k2:x3)(ad:Int)(U:Int)(v3:List au.D):Option (vR) :=(aL v3.length ad).bind fun v4 =>VR k2 U ad (v3.set (0+v4) ((J au v3 (0+v4)).1,ay (U+1),()))
def G_(k2:x3)(U:Int)(ad:Int)(ae:List au.D):Option (vR) :=cond (decide (ad<(ae.length:Int))) ((pz (U,())).bind fun v1 =>(aL ae.length ad).bind fun v2 =>VS k2 ad U (ae.set (0+v2) (v1.1,(J au ae (0+v2)).2.1,()))) (some (U,ae,()))
def qW:Nat→x3 | 0,_,_,_=>none | m+1,U,ad,ae=>G_ (qW m) U ad ae
def OB(x:(List au.D)×Int×Unit):Option (vR):=G9 (qW aK) x.1 x.2.1
abbrev lG:Type:=Int×(List I.D)×Unit
abbrev mq:Type:=Int→Int→(List I.D)→Option (lG)
def G'(k2:mq)(a1:List I.D)(a2:Int):Option (lG) :=k2 a2 0 a1
def VT(k2:mq)(ik:Int×(List au.D)×Unit)(ad:Int)(v20:List I.D):Option (lG) :=k2 (ay (ay (ik.1+1)+1)) (ay (ad+1)) v20
def VU(k2:mq)(ad:Int)(ik:Int×(List au.D)×Unit)(pA:List I.D):Option (lG) :=(aL pA.length ad).bind fun qX =>VT k2 ik ad (pA.set (0+qX) ((J I pA (0+qX)).1,(J I pA (0+qX)).2.1,(J I pA (0+qX)).2.2.1,(J I pA (0+qX)).2.2.2.1,(J I pA (0+qX)).2.2.2.2.1,(J I pA (0+qX)).2.2.2.2.2.1,(J I pA (0+qX)).2.2.2.2.2.2.1,(J I pA (0+qX)).2.2.2.2.2.2.2.1,ay (ik.1+1),()))
def VV(k2:mq)(ad:Int)(ik:Int×(List au.D)×Unit)(jI:List I.D):Option (lG) :=(aL jI.length ad).bind fun kt =>VU k2 ad ik (jI.set (0+kt) ((J I jI (0+kt)).1,(J I jI (0+kt)).2.1,(J I jI (0+kt)).2.2.1,(J I jI (0+kt)).2.2.2.1,(J I jI (0+kt)).2.2.2.2.1,(J I jI (0+kt)).2.2.2.2.2.1,(J I jI (0+kt)).2.2.2.2.2.2.1,ik.1,(J I jI (0+kt)).2.2.2.2.2.2.2.2.1,()))
def VW(k2:mq)(ad:Int)(U:Int)(iO:List I.D):Option (lG) :=(aL iO.length ad).bind fun hU =>(OB ((J I iO (0+hU)).2.2.2.2.2.2.1,ay (ay (ay (ay (ay (ay (U+1)+1)+1)+1)+1)+1),())).bind fun ik =>VV k2 ad ik (iO.set (0+hU) ((J I iO (0+hU)).1,(J I iO (0+hU)).2.1,(J I iO (0+hU)).2.2.1,(J I iO (0+hU)).2.2.2.1,(J I iO (0+hU)).2.2.2.2.1,(J I iO (0+hU)).2.2.2.2.2.1,ik.2.1,(J I iO (0+hU)).2.2.2.2.2.2.2.1,(J I iO (0+hU)).2.2.2.2.2.2.2.2.1,()))
def VX(k2:mq)(U:Int)(ad:Int)(v10:List I.D):Option (lG) :=(pz (ay (ay (ay (ay (ay (U+1)+1)+1)+1)+1),())).bind fun v11 =>(aL v10.length ad).bind fun v12 =>VW k2 ad U (v10.set (0+v12) ((J I v10 (0+v12)).1,(J I v10 (0+v12)).2.1,(J I v10 (0+v12)).2.2.1,(J I v10 (0+v12)).2.2.2.1,(J I v10 (0+v12)).2.2.2.2.1,v11.1,(J I v10 (0+v12)).2.2.2.2.2.2.1,(J I v10 (0+v12)).2.2.2.2.2.2.2.1,(J I v10 (0+v12)).2.2.2.2.2.2.2.2.1,()))
def VY(k2:mq)(ad:Int)(U:Int)(bM:List I.D):Option (lG) :=(aL bM.length ad).bind fun v9 =>VX k2 U ad (bM.set (0+v9) ((J I bM (0+v9)).1,(J I bM (0+v9)).2.1,(J I bM (0+v9)).2.2.1,(J I bM (0+v9)).2.2.2.1,ay (ay (ay (ay (U+1)+1)+1)+1),(J I bM (0+v9)).2.2.2.2.2.1,(J I bM (0+v9)).2.2.2.2.2.2.1,(J I bM (0+v9)).2.2.2.2.2.2.2.1,(J I bM (0+v9)).2.2.2.2.2.2.2.2.1,()))
def VZ(k2:mq)(ad:Int)(U:Int)(v6:List I.D):Option (lG) :=(aL v6.length ad).bind fun bn =>VY k2 ad U (v6.set (0+bn) ((J I v6 (0+bn)).1,(J I v6 (0+bn)).2.1,(J I v6 (0+bn)).2.2.1,ay (ay (ay (U+1)+1)+1),(J I v6 (0+bn)).2.2.2.2.1,(J I v6 (0+bn)).2.2.2.2.2.1,(J I v6 (0+bn)).2.2.2.2.2.2.1,(J I v6 (0+bn)).2.2.2.2.2.2.2.1,(J I v6 (0+bn)).2.2.2.2.2.2.2.2.1,()))
def V0(k2:mq)(ad:Int)(U:Int)(v4:List I.D):Option (lG) :=(aL v4.length ad).bind fun v5 =>VZ k2 ad U (v4.set (0+v5) ((J I v4 (0+v5)).1,(J I v4 (0+v5)).2.1,ay (ay (U+1)+1),(J I v4 (0+v5)).2.2.2.1,(J I v4 (0+v5)).2.2.2.2.1,(J I v4 (0+v5)).2.2.2.2.2.1,(J I v4 (0+v5)).2.2.2.2.2.2.1,(J I v4 (0+v5)).2.2.2.2.2.2.2.1,(J I v4 (0+v5)).2.2.2.2.2.2.2.2.1,()))
def V1(k2:mq)(ad:Int)(U:Int)(v2:List I.D):Option (lG) :=(aL v2.length ad).bind fun v3 =>V0 k2 ad U (v2.set (0+v3) ((J I v2 (0+v3)).1,ay (U+1),(J I v2 (0+v3)).2.2.1,(J I v2 (0+v3)).2.2.2.1,(J I v2 (0+v3)).2.2.2.2.1,(J I v2 (0+v3)).2.2.2.2.2.1,(J I v2 (0+v3)).2.2.2.2.2.2.1,(J I v2 (0+v3)).2.2.2.2.2.2.2.1,(J I v2 (0+v3)).2.2.2.2.2.2.2.2.1,()))
def Ha(k2:mq)(U:Int)(ad:Int)(ae:List I.D):Option (lG) :=cond (decide (ad<(ae.length:Int))) ((aL ae.length ad).bind fun v1 =>V1 k2 ad U (ae.set (0+v1) (U,(J I ae (0+v1)).2.1,(J I ae (0+v1)).2.2.1,(J I ae (0+v1)).2.2.2.1,(J I ae (0+v1)).2.2.2.2.1,(J I ae (0+v1)).2.2.2.2.2.1,(J I ae (0+v1)).2.2.2.2.2.2.1,(J I ae (0+v1)).2.2.2.2.2.2.2.1,(J I ae (0+v1)).2.2.2.2.2.2.2.2.1,()))) (some (U,ae,()))
def qY:Nat→mq | 0,_,_,_=>none | m+1,U,ad,ae=>Ha (qY m) U ad ae
def OC(x:(List I.D)×Int×Unit):Option (lG):=G' (qY aK) x.1 x.2.1
def OD(a1:af.D)(a2:Int):Option (Int×af.D×Unit) :=(OC (a1.2.1,a2,())).bind fun v1 =>some (v1.1,(a1.1,v1.2.1,()),())
def Hb(x:af.D×Int×Unit):Option (Int×af.D×Unit):=OD x.1 x.2.1
abbrev pB:Type:=Int×(List aE.D)×Unit
abbrev qZ:Type:=Int→Int→(List aE.D)→Option (pB)
def Hc(k2:qZ)(a1:List aE.D)(a2:Int):Option (pB) :=k2 a2 0 a1
def V2(k2:qZ)(U:Int)(ad:Int)(v10:List aE.D):Option (pB) :=k2 (ay (ay (ay (ay (ay (U+1)+1)+1)+1)+1)) (ay (ad+1)) v10
def V3(k2:qZ)(ad:Int)(U:Int)(bM:List aE.D):Option (pB) :=(aL bM.length ad).bind fun v9 =>V2 k2 U ad (bM.set (0+v9) ((J aE bM (0+v9)).1,(J aE bM (0+v9)).2.1,(J aE bM (0+v9)).2.2.1,(J aE bM (0+v9)).2.2.2.1,ay (ay (ay (ay (U+1)+1)+1)+1),()))
def V4(k2:qZ)(ad:Int)(U:Int)(v6:List aE.D):Option (pB) :=(aL v6.length ad).bind fun bn =>V3 k2 ad U (v6.set (0+bn) ((J aE v6 (0+bn)).1,(J aE v6 (0+bn)).2.1,(J aE v6 (0+bn)).2.2.1,ay (ay (ay (U+1)+1)+1),(J aE v6 (0+bn)).2.2.2.2.1,()))
def V5(k2:qZ)(ad:Int)(U:Int)(v4:List aE.D):Option (pB) :=(aL v4.length ad).bind fun v5 =>V4 k2 ad U (v4.set (0+v5) ((J aE v4 (0+v5)).1,(J aE v4 (0+v5)).2.1,ay (ay (U+1)+1),(J aE v4 (0+v5)).2.2.2.1,(J aE v4 (0+v5)).2.2.2.2.1,()))
def V6(k2:qZ)(ad:Int)(U:Int)(v2:List aE.D):Option (pB) :=(aL v2.length ad).bind fun v3 =>V5 k2 ad U (v2.set (0+v3) ((J aE v2 (0+v3)).1,ay (U+1),(J aE v2 (0+v3)).2.2.1,(J aE v2 (0+v3)).2.2.2.1,(J aE v2 (0+v3)).2.2.2.2.1,()))
def Hd(k2:qZ)(U:Int)(ad:Int)(ae:List aE.D):Option (pB) :=cond (decide (ad<(ae.length:Int))) ((aL ae.length ad).bind fun v1 =>V6 k2 ad U (ae.set (0+v1) (U,(J aE ae (0+v1)).2.1,(J aE ae (0+v1)).2.2.1,(J aE ae (0+v1)).2.2.2.1,(J aE ae (0+v1)).2.2.2.2.1,()))) (some (U,ae,()))
def q0:Nat→qZ | 0,_,_,_=>none | m+1,U,ad,ae=>Hd (q0 m) U ad ae
def OE(x:(List aE.D)×Int×Unit):Option (pB):=Hc (q0 aK) x.1 x.2.1
abbrev pC:Type:=Int×(List aO.D)×Unit
abbrev q1:Type:=Int→Int→(List aO.D)→Option (pC)
def He(k2:q1)(a1:List aO.D)(a2:Int):Option (pC) :=k2 a2 0 a1
def V7(k2:q1)(U:Int)(ad:Int)(v11:List aO.D):Option (pC) :=k2 (ay (ay (ay (ay (ay (U+1)+1)+1)+1)+1)) (ay (ad+1)) v11
def V8(k2:q1)(U:Int)(ad:Int)(bM:List aO.D):Option (pC) :=(pz (ay (ay (ay (ay (U+1)+1)+1)+1),())).bind fun v9 =>(aL bM.length ad).bind fun v10 =>V7 k2 U ad (bM.set (0+v10) ((J aO bM (0+v10)).1,(J aO bM (0+v10)).2.1,(J aO bM (0+v10)).2.2.1,(((J aO bM (0+v10)).2.2.2.1).1,v9.1,()),()))
def V9(k2:q1)(ad:Int)(U:Int)(v6:List aO.D):Option (pC) :=(aL v6.length ad).bind fun bn =>V8 k2 U ad (v6.set (0+bn) ((J aO v6 (0+bn)).1,(J aO v6 (0+bn)).2.1,(J aO v6 (0+bn)).2.2.1,(ay (ay (ay (U+1)+1)+1),((J aO v6 (0+bn)).2.2.2.1).2.1,()),()))
def V_(k2:q1)(ad:Int)(U:Int)(v4:List aO.D):Option (pC) :=(aL v4.length ad).bind fun v5 =>V9 k2 ad U (v4.set (0+v5) ((J aO v4 (0+v5)).1,(J aO v4 (0+v5)).2.1,ay (ay (U+1)+1),(J aO v4 (0+v5)).2.2.2.1,()))
def V'(k2:q1)(ad:Int)(U:Int)(v2:List aO.D):Option (pC) :=(aL v2.length ad).bind fun v3 =>V_ k2 ad U (v2.set (0+v3) ((J aO v2 (0+v3)).1,ay (U+1),(J aO v2 (0+v3)).2.2.1,(J aO v2 (0+v3)).2.2.2.1,()))
def Hf(k2:q1)(U:Int)(ad:Int)(ae:List aO.D):Option (pC) :=cond (decide (ad<(ae.length:Int))) ((aL ae.length ad).bind fun v1 =>V' k2 ad U (ae.set (0+v1) (U,(J aO ae (0+v1)).2.1,(J aO ae (0+v1)).2.2.1,(J aO ae (0+v1)).2.2.2.1,()))) (some (U,ae,()))
def q2:Nat→q1 | 0,_,_,_=>none | m+1,U,ad,ae=>Hf (q2 m) U ad ae
def OF(x:(List aO.D)×Int×Unit):Option (pC):=He (q2 aK) x.1 x.2.1
abbrev Wa:Type:=Int×aM.D×Unit
def OG(a1:aM.D)(a2:Int):Option (Wa) :=(Hb (a1.1,a2,())).bind fun v1 =>(OE (a1.2.2.1,v1.1,())).bind fun v2 =>(OF (a1.2.2.2.1,v2.1,())).bind fun v3 =>some (v3.1,((a1.1.1,v1.2.1.2.1,()),a1.2.1,v2.2.1,v3.2.1,()),())
def AF(x:aM.D×Int×Unit):Option (Wa):=OG x.1 x.2.1
abbrev Hg:Type:=(List au.D)→Int→Int→Option (Int×Unit)
def Hh(k2:Hg)(a1:List au.D)(a2:Int):Option (Int×Unit) :=k2 a1 a2 0
def Hi(k2:Hg)(U:List au.D)(ad:Int)(ae:Int):Option (Int×Unit) :=cond (decide (ae<(U.length:Int))) ((aL U.length ae).bind fun v1 =>(pz (ad,())).bind fun v2 =>cond (!(bB ((J au U v1).1) v2.1)) (some ((-1),())) ((aL U.length ae).bind fun v3 =>cond ((J au U v3).2.1 != ay (ad+1)) (some ((-1),())) (k2 U (ay (ay (ad+1)+1)) (ay (ae+1))))) (some (ad,()))
def q3:Nat→Hg | 0,_,_,_=>none | m+1,U,ad,ae=>Hi (q3 m) U ad ae
def OH(x:(List au.D)×Int×Unit):Option (Int×Unit):=Hh (q3 aK) x.1 x.2.1
abbrev Hj:Type:=(List I.D)→Int→Int→Option (Int×Unit)
def Hk(k2:Hj)(a1:List I.D)(a2:Int):Option (Int×Unit) :=k2 a1 a2 0
def Hl(k2:Hj)(U:List I.D)(ad:Int)(ae:Int):Option (Int×Unit) :=cond (decide (ae<(U.length:Int))) ((aL U.length ae).bind fun v1 =>cond ((J I U v1).1 != ad) (some ((-1),())) ((aL U.length ae).bind fun v2 =>cond ((J I U v2).2.1 != ay (ad+1)) (some ((-1),())) ((aL U.length ae).bind fun v3 =>cond ((J I U v3).2.2.1 != ay (ay (ad+1)+1)) (some ((-1),())) ((aL U.length ae).bind fun v4 =>cond ((J I U v4).2.2.2.1 != ay (ay (ay (ad+1)+1)+1)) (some ((-1),())) ((aL U.length ae).bind fun v5 =>cond ((J I U v5).2.2.2.2.1 != ay (ay (ay (ay (ad+1)+1)+1)+1)) (some ((-1),())) ((aL U.length ae).bind fun v6 =>(pz (ay (ay (ay (ay (ay (ad+1)+1)+1)+1)+1),())).bind fun bn =>cond (!(bB ((J I U v6).2.2.2.2.2.1) bn.1)) (some ((-1),())) ((aL U.length ae).bind fun bM =>(OH ((J I U bM).2.2.2.2.2.2.1,ay (ay (ay (ay (ay (ay (ad+1)+1)+1)+1)+1)+1),())).bind fun v9 =>cond (decide (v9.1<0)) (some ((-1),())) ((aL U.length ae).bind fun v10 =>cond ((J I U v10).2.2.2.2.2.2.2.1 != v9.1) (some ((-1),())) ((aL U.length ae).bind fun v11 =>cond ((J I U v11).2.2.2.2.2.2.2.2.1 != ay (v9.1+1)) (some ((-1),())) (k2 U (ay (ay (v9.1+1)+1)) (ay (ae+1)))))))))))) (some (ad,()))
def q4:Nat→Hj | 0,_,_,_=>none | m+1,U,ad,ae=>Hl (q4 m) U ad ae
def OI(x:(List I.D)×Int×Unit):Option (Int×Unit):=Hk (q4 aK) x.1 x.2.1
def OJ(a1:af.D)(a2:Int):Option (Int×Unit) :=(OI (a1.2.1,a2,())).bind fun v1 =>cond (decide (v1.1<0)) (some ((-1),())) (some (v1.1,()))
def OK(x:af.D×Int×Unit):Option (Int×Unit):=OJ x.1 x.2.1
abbrev Hm:Type:=(List aE.D)→Int→Int→Option (Int×Unit)
def Hn(k2:Hm)(a1:List aE.D)(a2:Int):Option (Int×Unit) :=k2 a1 a2 0
def Ho(k2:Hm)(U:List aE.D)(ad:Int)(ae:Int):Option (Int×Unit) :=cond (decide (ae<(U.length:Int))) ((aL U.length ae).bind fun v1 =>cond ((J aE U v1).1 != ad) (some ((-1),())) ((aL U.length ae).bind fun v2 =>cond ((J aE U v2).2.1 != ay (ad+1)) (some ((-1),())) ((aL U.length ae).bind fun v3 =>cond ((J aE U v3).2.2.1 != ay (ay (ad+1)+1)) (some ((-1),())) ((aL U.length ae).bind fun v4 =>cond ((J aE U v4).2.2.2.1 != ay (ay (ay (ad+1)+1)+1)) (some ((-1),())) ((aL U.length ae).bind fun v5 =>cond ((J aE U v5).2.2.2.2.1 != ay (ay (ay (ay (ad+1)+1)+1)+1)) (some ((-1),())) (k2 U (ay (ay (ay (ay (ay (ad+1)+1)+1)+1)+1)) (ay (ae+1)))))))) (some (ad,()))
def q5:Nat→Hm | 0,_,_,_=>none | m+1,U,ad,ae=>Ho (q5 m) U ad ae
def OL(x:(List aE.D)×Int×Unit):Option (Int×Unit):=Hn (q5 aK) x.1 x.2.1
abbrev Hp:Type:=(List aO.D)→Int→Int→Option (Int×Unit)
def Hq(k2:Hp)(a1:List aO.D)(a2:Int):Option (Int×Unit) :=k2 a1 a2 0
def Hr(k2:Hp)(U:List aO.D)(ad:Int)(ae:Int):Option (Int×Unit) :=cond (decide (ae<(U.length:Int))) ((aL U.length ae).bind fun v1 =>cond ((J aO U v1).1 != ad) (some ((-1),())) ((aL U.length ae).bind fun v2 =>cond ((J aO U v2).2.1 != ay (ad+1)) (some ((-1),())) ((aL U.length ae).bind fun v3 =>cond ((J aO U v3).2.2.1 != ay (ay (ad+1)+1)) (some ((-1),())) ((aL U.length ae).bind fun v4 =>cond (((J aO U v4).2.2.2.1).1 != ay (ay (ay (ad+1)+1)+1)) (some ((-1),())) ((aL U.length ae).bind fun v5 =>(pz (ay (ay (ay (ay (ad+1)+1)+1)+1),())).bind fun v6 =>cond (!(bB (((J aO U v5).2.2.2.1).2.1) v6.1)) (some ((-1),())) (k2 U (ay (ay (ay (ay (ay (ad+1)+1)+1)+1)+1)) (ay (ae+1)))))))) (some (ad,()))
def q6:Nat→Hp | 0,_,_,_=>none | m+1,U,ad,ae=>Hr (q6 m) U ad ae
def OM(x:(List aO.D)×Int×Unit):Option (Int×Unit):=Hq (q6 aK) x.1 x.2.1
def ON(a1:aM.D)(a2:Int):Option (Int×Unit) :=(OK (a1.1,a2,())).bind fun v1 =>cond (decide (v1.1<0)) (some ((-1),())) ((OL (a1.2.2.1,v1.1,())).bind fun v2 =>cond (decide (v2.1<0)) (some ((-1),())) ((OM (a1.2.2.2.1,v2.1,())).bind fun v3 =>cond (decide (v3.1<0)) (some ((-1),())) (some (v3.1,()))))
def AG(x:aM.D×Int×Unit):Option (Int×Unit):=ON x.1 x.2.1
end
noncomputable section
structure sC where
 eb:Int→Int→Int→Bool→aM.D→aN.D→aM.D→(List aO.D)→(List aE.D)→(List I.D)→aA.D→Option (Bool×Unit)
 cC:Int→Int→Int→Bool→Bool→aM.D→aN.D→aM.D→(List aO.D)→(List aE.D)→(List I.D)→aA.D→aM.D→aM.D→aA.D→Option (Bool×Unit)
 pD:Bool→Int→Bool→aM.D→(List aO.D)→(List aE.D)→(List I.D)→aA.D→aM.D→aM.D→aA.D→Option (Bool×Unit)
def Hs(k:sC)(a1:aM.D)(a2:Int)(a3:Int)(a4:aN.D)(a5:Int):Option (Bool×Unit) :=(NZ (a1,1048576,())).bind fun v1 =>cond (decide (v1.1<0)) (some (true,())) ((N1 (a4,v1.1,())).bind fun v2 =>cond (decide (v2.1<0)) (some (true,())) (both ((py (a1,())).bind fun v3 =>both ((j9 (a4,())).bind fun v4 =>both ((px (v3.1,a2,a3,v4.1,a5,())).bind fun v5 =>dup (k.eb a2 a3 a5 v5.2.2.1 a1 a4 v5.1 v3.1.2.2.2.1 v3.1.2.2.1 v3.1.1.2.1 v5.2.1)) (dup (dup ((px (v3.1,a2,a3,v4.1,a5,())).bind fun v5 =>k.eb a2 a3 a5 v5.2.2.1 a1 a4 v5.1 v3.1.2.2.2.1 v3.1.2.2.1 v3.1.1.2.1 v5.2.1)))) (dup (both ((j9 (a4,())).bind fun v4 =>dup ((px (v3.1,a2,a3,v4.1,a5,())).bind fun v5 =>k.eb a2 a3 a5 v5.2.2.1 a1 a4 v5.1 v3.1.2.2.2.1 v3.1.2.2.1 v3.1.1.2.1 v5.2.1)) ((j9 (a4,())).bind fun v4 =>(px (v3.1,a2,a3,v4.1,a5,())).bind fun v5 =>k.eb a2 a3 a5 v5.2.2.1 a1 a4 v5.1 v3.1.2.2.2.1 v3.1.2.2.1 v3.1.1.2.1 v5.2.1)))) (dup (both ((py (a1,())).bind fun v3 =>both ((j9 (a4,())).bind fun v4 =>dup ((px (v3.1,a2,a3,v4.1,a5,())).bind fun v5 =>k.eb a2 a3 a5 v5.2.2.1 a1 a4 v5.1 v3.1.2.2.2.1 v3.1.2.2.1 v3.1.1.2.1 v5.2.1)) ((j9 (a4,())).bind fun v4 =>(px (v3.1,a2,a3,v4.1,a5,())).bind fun v5 =>k.eb a2 a3 a5 v5.2.2.1 a1 a4 v5.1 v3.1.2.2.2.1 v3.1.2.2.1 v3.1.1.2.1 v5.2.1)) ((py (a1,())).bind fun v3 =>(j9 (a4,())).bind fun v4 =>(px (v3.1,a2,a3,v4.1,a5,())).bind fun v5 =>k.eb a2 a3 a5 v5.2.2.1 a1 a4 v5.1 v3.1.2.2.2.1 v3.1.2.2.1 v3.1.1.2.1 v5.2.1)))))
def OO(k:sC)(U:Int)(ad:Int)(ae:Int)(ai:Bool)(ar:aM.D)(aB:aN.D)(aW:aM.D)(bl:List aO.D)(bQ:List aE.D)(c8:List I.D)(eD:aA.D):Option (Bool×Unit) :=(py (ar,())).bind fun v1 =>both ((j9 (aB,())).bind fun v2 =>both ((lE (v1.1,U,ad,v2.1,ae,())).bind fun v3 =>dup (k.cC U ad ae ai v3.2.2.1 ar aB aW bl bQ c8 eD v1.1 v3.1 v3.2.1)) (dup (dup ((lE (v1.1,U,ad,v2.1,ae,())).bind fun v3 =>k.cC U ad ae ai v3.2.2.1 ar aB aW bl bQ c8 eD v1.1 v3.1 v3.2.1)))) (dup (both ((j9 (aB,())).bind fun v2 =>dup ((lE (v1.1,U,ad,v2.1,ae,())).bind fun v3 =>k.cC U ad ae ai v3.2.2.1 ar aB aW bl bQ c8 eD v1.1 v3.1 v3.2.1)) ((j9 (aB,())).bind fun v2 =>(lE (v1.1,U,ad,v2.1,ae,())).bind fun v3 =>k.cC U ad ae ai v3.2.2.1 ar aB aW bl bQ c8 eD v1.1 v3.1 v3.2.1)))
def OP(k:sC)(U:Int)(ad:Int)(ae:Int)(ai:Bool)(ar:Bool)(aB:aM.D)(aW:aN.D)(bl:aM.D)(bQ:List aO.D)(c8:List aE.D)(eD:List I.D)(fY:aA.D)(hV:aM.D)(im:aM.D)(Ht:aA.D):Option (Bool×Unit) :=(x2 (im,bl,())).bind fun v1 =>cond (!v1.1) (some (false,())) ((x1 (Ht,fY,())).bind fun v2 =>cond (!v2.1) (some (false,())) (cond (!(ar==ai)) (some (false,())) ((py (aB,())).bind fun v3 =>(x2 (hV,v3.1,())).bind fun v4 =>cond (!v4.1) (some (false,())) ((AF (hV,1,())).bind fun v5 =>cond (decide (v5.1<0)) (some (false,())) ((x2 (im,bl,())).bind fun v6 =>cond (!v6.1) (some (false,())) ((x1 (Ht,fY,())).bind fun bn =>cond (!bn.1) (some (false,())) (cond (!(ar==ai)) (some (false,())) ((AF (im,1,())).bind fun bM =>(AG (((im.1.1,bM.2.1.1.2.1,()),im.2.1,bM.2.1.2.2.1,bM.2.1.2.2.2.1,()),1,())).bind fun v9 =>cond (decide (v9.1<0)) (some (false,())) (cond (v9.1 != bM.1) (some (false,())) (both ((py (aB,())).bind fun v10 =>both ((j9 (aW,())).bind fun v11 =>both ((lE (v10.1,U,ad,v11.1,ae,())).bind fun v12 =>dup (k.pD ai bM.1 v12.2.2.1 bl bQ c8 eD fY ((im.1.1,bM.2.1.1.2.1,()),im.2.1,bM.2.1.2.2.1,bM.2.1.2.2.2.1,()) v12.1 v12.2.1)) (dup (dup ((lE (v10.1,U,ad,v11.1,ae,())).bind fun v12 =>k.pD ai bM.1 v12.2.2.1 bl bQ c8 eD fY ((im.1.1,bM.2.1.1.2.1,()),im.2.1,bM.2.1.2.2.1,bM.2.1.2.2.2.1,()) v12.1 v12.2.1)))) (dup (both ((j9 (aW,())).bind fun v11 =>dup ((lE (v10.1,U,ad,v11.1,ae,())).bind fun v12 =>k.pD ai bM.1 v12.2.2.1 bl bQ c8 eD fY ((im.1.1,bM.2.1.1.2.1,()),im.2.1,bM.2.1.2.2.1,bM.2.1.2.2.2.1,()) v12.1 v12.2.1)) ((j9 (aW,())).bind fun v11 =>(lE (v10.1,U,ad,v11.1,ae,())).bind fun v12 =>k.pD ai bM.1 v12.2.2.1 bl bQ c8 eD fY ((im.1.1,bM.2.1.1.2.1,()),im.2.1,bM.2.1.2.2.1,bM.2.1.2.2.2.1,()) v12.1 v12.2.1)))) (dup (both ((py (aB,())).bind fun v10 =>both ((j9 (aW,())).bind fun v11 =>dup ((lE (v10.1,U,ad,v11.1,ae,())).bind fun v12 =>k.pD ai bM.1 v12.2.2.1 bl bQ c8 eD fY ((im.1.1,bM.2.1.1.2.1,()),im.2.1,bM.2.1.2.2.1,bM.2.1.2.2.2.1,()) v12.1 v12.2.1)) ((j9 (aW,())).bind fun v11 =>(lE (v10.1,U,ad,v11.1,ae,())).bind fun v12 =>k.pD ai bM.1 v12.2.2.1 bl bQ c8 eD fY ((im.1.1,bM.2.1.1.2.1,()),im.2.1,bM.2.1.2.2.1,bM.2.1.2.2.2.1,()) v12.1 v12.2.1)) ((py (aB,())).bind fun v10 =>(j9 (aW,())).bind fun v11 =>(lE (v10.1,U,ad,v11.1,ae,())).bind fun v12 =>k.pD ai bM.1 v12.2.2.1 bl bQ c8 eD fY ((im.1.1,bM.2.1.1.2.1,()),im.2.1,bM.2.1.2.2.1,bM.2.1.2.2.2.1,()) v12.1 v12.2.1)))))))))))))
def OQ(k:sC)(U:Bool)(ad:Int)(ae:Bool)(ai:aM.D)(ar:List aO.D)(aB:List aE.D)(aW:List I.D)(bl:aA.D)(bQ:aM.D)(c8:aM.D)(eD:aA.D):Option (Bool×Unit) :=(x2 (c8,ai,())).bind fun v1 =>cond (!v1.1) (some (false,())) ((x1 (eD,bl,())).bind fun v2 =>cond (!v2.1) (some (false,())) (cond (!(ae==U)) (some (false,())) ((AG (bQ,1,())).bind fun v3 =>cond (decide (v3.1<0)) (some (false,())) (cond (v3.1 != ad) (some (false,())) (some (true,()))))))
def Wb(k:sC):sC:=⟨OO k,OP k,OQ k⟩
def q7:Nat→sC:=dX Wb ⟨fun _ _ _ _ _ _ _ _ _ _ _=>none,fun _ _ _ _ _ _ _ _ _ _ _ _ _ _ _=>none,fun _ _ _ _ _ _ _ _ _ _ _=>none⟩
def Wc(x:aM.D×Int×Int×aN.D×Int×Unit):Option (Bool×Unit):=Hs (q7 aK) x.1 x.2.1 x.2.2.1 x.2.2.2.1 x.2.2.2.2.1
def afD  : Option (af.D×Unit) :=some ((2,[(1,2,493,0,0,([]:List UInt8),([]:List au.D),0,0,())],()),())
def afE(x:Unit):Option (af.D×Unit):=afD
def afF  : Option (af.D×Unit) :=some ((2,[(1,2,493,0,0,([]:List UInt8),([]:List au.D),0,0,())],()),())
def arl(x:Unit):Option (af.D×Unit):=afF
def afG(v1:af.D×Unit)(v3:List I.D):Option (aM.D×Unit) :=some (((v1.1.1,v3,()),30,([]:List aE.D),([]:List aO.D),()),())
def afH  : Option (aM.D×Unit) :=(afE ()).bind fun v1 =>(aL v1.1.2.1.length 0).bind fun v2 =>afG v1 (v1.1.2.1.set (0+v2) ((J I v1.1.2.1 (0+v2)).1,(J I v1.1.2.1 (0+v2)).2.1,1023,(J I v1.1.2.1 (0+v2)).2.2.2.1,(J I v1.1.2.1 (0+v2)).2.2.2.2.1,(J I v1.1.2.1 (0+v2)).2.2.2.2.2.1,(J I v1.1.2.1 (0+v2)).2.2.2.2.2.2.1,(J I v1.1.2.1 (0+v2)).2.2.2.2.2.2.2.1,(J I v1.1.2.1 (0+v2)).2.2.2.2.2.2.2.2.1,()))
def arn(x:Unit):Option (aM.D×Unit):=afH
end
end Go.LM.jH
