/- Each function keeps its contract. Printed by a program. Conditions: each theorem's own hypotheses. -/
import Derived.Test.YtklmgcjamifmaaaGreatDoorMVa
import Derived.Test.YtklmgcjamifmaaaGreatDoorMLmd
import Derived.Test.YtklmgcjamifmaaaGreatDoorChecked
import Derived.Test.YtklmgcjamifmaaaGreatDoorMIn
set_option linter.unusedVariables false
set_option linter.unusedSimpArgs false
namespace Go.LM.kD
noncomputable section
open Go.Proofs
abbrev vj:a':=.S (.cons .R (.cons .R (.cons .R (.cons .R (.cons .R (.cons .R (.cons (.O .R) (.cons .R (.cons .R .nil)))))))))
abbrev ab7:a':=.S (.cons .R (.cons (.O vj) .nil))
abbrev cl:a':=.S (.cons ab7 (.cons .R (.cons .R .nil)))
def tab:List (Nat×ad):=[(3,.int .i64),(4,.bool),(5,.int .u8),(9,.str),(22,.sl (.int .u8)),(24,.sl I),(26,ae),(27,.sl (.int .i64)),(29,aH),(31,aI),(37,aL),(46,.sl aw),(48,I),(57,aS),(60,aw),(83,.sl .bool),(105,bq),(109,.sl .str),(120,aK)]
def l8:List Nat:=[15,16,17,76,88,118,122,177,190]
def eqs:List Nat:=[31,37,57,60]
theorem Ha:s' Tryz.prog tab=true:=by kernel_rfl
theorem Hb:ta Tryz.prog l8=true:=by kernel_rfl
theorem Hc:tb Tryz.prog tab eqs=true:=by kernel_rfl
theorem mix:Tryz.prog.follows .mixedOrders=true:=by kernel_rfl
def bk:kq Tryz.prog:=⟨tab,l8,eqs,Ha,Hb,Hc,mix⟩
set_option maxRecDepth 100000
def S3:Entry:=⟨[aW (.sl (.int .u8))],[bm .bool],JC⟩
theorem ab8:Sound Tryz.prog 9 0 S3:=cL bk (fn:=Tryz.f9) (fns:=[]) trivial (by kernel_rfl) (by kernel_rfl) fun _=>by kernel_rfl
def S4:Entry:=⟨[aW (.sl (.int .u8))],[.new bq .R],JD⟩
def ab9:List (Nat×bY):=[(3,⟨[(0,.cell (.b1 (.int .u8) [])),(3,aO),(4,aO)],[],[.drop]⟩)]
def ab_(k:Nat→an→Option (bq.D×Unit)):CG:=fun U aa af=>k 3 (bj [(0,hY (.int .u8) U),(3,aZ aa),(4,aZ af)] [] [.aD])
theorem ab':Sound Tryz.prog 40 0 S4:=cA bk (fn:=Tryz.f40) (fns:=[]) trivial (by kernel_rfl) (by kernel_rfl) ab9 ab_ w1 w2 (fun k x=>RD k x.1) (by kernel_rfl) (fun _=>by kernel_rfl) (fun _=>rfl) (fun _ _=>by kernel_rfl) (fun _=>by kernel_rfl)
def LP:Entry:=⟨[.«mut» bq .R .R],[bm (.int .i64)],qz⟩
theorem S5:Sound Tryz.prog 105 0 LP:=cL bk (fn:=Tryz.f105) (fns:=[]) trivial (by kernel_rfl) (by kernel_rfl) fun _=>by kernel_rfl
def nO:Entry:=⟨[.«mut» bq .R .R,aW (.int .i64)],[bm (.int .i64)],gl⟩
theorem oV:Sound Tryz.prog 76 0 nO:=cL bk (fn:=Tryz.f76) (fns:=[(105,LP)]) ⟨S5,trivial⟩ (by kernel_rfl) (by kernel_rfl) fun _=>by kernel_rfl
def xv:Entry:=⟨[.«mut» bq .R .R,aW (.int .i64)],[bm .bool],r2⟩
theorem z6:Sound Tryz.prog 63 0 xv:=cL bk (fn:=Tryz.f63) (fns:=[(76,nO)]) ⟨oV,trivial⟩ (by kernel_rfl) (by kernel_rfl) fun _=>by kernel_rfl
def S6:Entry:=⟨[],[ro ae],JG⟩
theorem aca:Sound Tryz.prog 12 0 S6:=cL bk (fn:=Tryz.f12) (fns:=[]) trivial (by kernel_rfl) (by kernel_rfl) fun _=>by kernel_rfl
def S7:Entry:=⟨[],[bm ae],JH⟩
theorem acb:Sound Tryz.prog 12 0 S7:=cL bk (fn:=Tryz.f12) (fns:=[]) trivial (by kernel_rfl) (by kernel_rfl) fun _=>by kernel_rfl
def sB:Entry:=⟨[aW ae],[.val ae (.S (.cons .R (.cons (.O .R) .nil)))],lZ⟩
def acd:List (Nat×bY):=[(3,⟨[(1,.ptr 1),(2,.ptr 2),(3,.ptr 4),(4,aO)],aA 1 ae .R []++aA 2 ae ae.own []++aA 4 ae ae.own [],[.drop]⟩)]
def ace(k:Nat→an→Option (ae.D×Unit)):w3:=fun U aa af ai=>k 3 (bj [(1,ax 1),(2,ax 2),(3,ax 4),(4,aZ U)] (aC 1 ae .R [] aa++aC 2 ae ae.own [] af++aC 4 ae ae.own [] ai) [.aD])
theorem vk:Sound Tryz.prog 51 0 sB:=cA bk (fn:=Tryz.f51) (fns:=[]) trivial (by kernel_rfl) (by kernel_rfl) acd ace y7 pH (fun k x=>y6 k x.1) (by kernel_rfl) (fun _=>by kernel_rfl) (fun _=>rfl) (fun _ _=>by kernel_rfl) (fun _=>by kernel_rfl)
def S8:Entry:=⟨[aW ae],[ro ae],y9⟩
def acf:List (Nat×bY):=[(3,⟨[(1,.ptr 1),(2,.ptr 2),(3,.ptr 4),(4,aO)],aA 1 ae .R []++aA 2 ae ae.own []++aA 4 ae ae.own [],[.drop]⟩)]
def acg(k:Nat→an→Option (ae.D×Unit)):w4:=fun U aa af ai=>k 3 (bj [(1,ax 1),(2,ax 2),(3,ax 4),(4,aZ U)] (aC 1 ae .R [] aa++aC 2 ae ae.own [] af++aC 4 ae ae.own [] ai) [.aD])
theorem ach:Sound Tryz.prog 51 0 S8:=cA bk (fn:=Tryz.f51) (fns:=[]) trivial (by kernel_rfl) (by kernel_rfl) acf acg JI y8 (fun k x=>RJ k x.1) (by kernel_rfl) (fun _=>by kernel_rfl) (fun _=>rfl) (fun _ _=>by kernel_rfl) (fun _=>by kernel_rfl)
def nP:Entry:=⟨[aW (.int .i64),aW (.int .i64),aW (.int .i64)],[bm .bool],eg⟩
theorem oW:Sound Tryz.prog 45 0 nP:=cL bk (fn:=Tryz.f45) (fns:=[]) trivial (by kernel_rfl) (by kernel_rfl) fun _=>by kernel_rfl
def S9:Entry:=⟨[aW aI],[bm .bool],JL⟩
def aci:List (Nat×bY):=[(5,⟨[(1,.ptr 1)],aA 1 aI .R [],[.drop]⟩)]
def acj(k:Nat→an→Option (Bool×Unit)):CH:=fun U=>k 5 (bj [(1,ax 1)] (aC 1 aI .R [] U) [.aD])
theorem ack:Sound Tryz.prog 85 0 S9:=cA bk (fn:=Tryz.f85) (fns:=[(45,nP)]) ⟨oW,trivial⟩ (by kernel_rfl) (by kernel_rfl) aci acj JK y_ (fun k x=>CI k x.1) (by kernel_rfl) (fun _=>by kernel_rfl) (fun _=>rfl) (fun _ _=>by kernel_rfl) (fun _=>by kernel_rfl)
def Fx:Entry:=⟨[aW (.int .u8)],[bm .bool],y'⟩
theorem LQ:Sound Tryz.prog 107 0 Fx:=cL bk (fn:=Tryz.f107) (fns:=[]) trivial (by kernel_rfl) (by kernel_rfl) fun _=>by kernel_rfl
def LR:Entry:=⟨[aW .str],[bm .bool],za⟩
def acm:List (Nat×bY):=[(4,⟨[(0,aO),(3,aO)],[],[.drop]⟩)]
def acn(k:Nat→an→Option (Bool×Unit)):CJ:=fun U aa=>k 4 (bj [(0,e9 U),(3,aZ aa)] [] [.aD])
theorem S_:Sound Tryz.prog 81 0 LR:=cA bk (fn:=Tryz.f81) (fns:=[(45,nP),(107,Fx)]) ⟨oW,LQ,trivial⟩ (by kernel_rfl) (by kernel_rfl) acm acn CL uf (fun k x=>CK k x.1) (by kernel_rfl) (fun _=>by kernel_rfl) (fun _=>rfl) (fun _ _=>by kernel_rfl) (fun _=>by kernel_rfl)
def xw:Entry:=⟨[aW aH],[bm .bool],uh⟩
def aco:List (Nat×bY):=[(4,⟨[(1,.ptr 1),(3,aO)],aA 1 aH .R [],[.drop]⟩)]
def acp(k:Nat→an→Option (Bool×Unit)):CM:=fun U aa=>k 4 (bj [(1,ax 1),(3,aZ U)] (aC 1 aH .R [] aa) [.aD])
theorem z7:Sound Tryz.prog 20 0 xw:=cA bk (fn:=Tryz.f20) (fns:=[(45,nP)]) ⟨oW,trivial⟩ (by kernel_rfl) (by kernel_rfl) aco acp CO ug (fun k x=>CN k x.1) (by kernel_rfl) (fun _=>by kernel_rfl) (fun _=>rfl) (fun _ _=>by kernel_rfl) (fun _=>by kernel_rfl)
def LS:Entry:=⟨[aW aH,aW (.int .i64)],[bm .bool],uj⟩
def acq:List (Nat×bY):=[(5,⟨[(1,aO),(2,.ptr 1),(5,aO),(6,aO)],aA 1 aH .R [],[.drop,.drop]⟩)]
def acr(k:Nat→an→Option (Bool×Unit)):CP:=fun U aa af ai=>k 5 (bj [(1,aZ U),(2,ax 1),(5,jM aa),(6,aZ af)] (aC 1 aH .R [] ai) [.aD,.aD])
theorem S':Sound Tryz.prog 130 0 LS:=cA bk (fn:=Tryz.f130) (fns:=[(20,xw)]) ⟨z7,trivial⟩ (by kernel_rfl) (by kernel_rfl) acq acr CR ui (fun k x=>CQ k x.1 x.2.1) (by kernel_rfl) (fun _=>by kernel_rfl) (fun _=>rfl) (fun _ _=>by kernel_rfl) (fun _=>by kernel_rfl)
def sC:Entry:=⟨[aW aH,aW I,aW (.int .i64)],[bm .bool],j_⟩
theorem vl:Sound Tryz.prog 109 0 sC:=cL bk (fn:=Tryz.f109) (fns:=[(20,xw),(45,nP),(130,LS)]) ⟨z7,oW,S',trivial⟩ (by kernel_rfl) (by kernel_rfl) fun _=>by kernel_rfl
def LU:Entry:=⟨[aW .str],[bm .bool],CV⟩
def acs:List (Nat×bY):=[(4,⟨[(0,aO),(3,aO)],[],[.drop]⟩)]
def acu(k:Nat→an→Option (Bool×Unit)):CS:=fun U aa=>k 4 (bj [(0,e9 U),(3,aZ aa)] [] [.aD])
theorem Ta:Sound Tryz.prog 64 0 LU:=cA bk (fn:=Tryz.f64) (fns:=[(45,nP),(107,Fx)]) ⟨oW,LQ,trivial⟩ (by kernel_rfl) (by kernel_rfl) acs acu CU uk (fun k x=>CT k x.1) (by kernel_rfl) (fun _=>by kernel_rfl) (fun _=>rfl) (fun _ _=>by kernel_rfl) (fun _=>by kernel_rfl)
def pS:Entry:=⟨[aW ae,aW (.int .i64)],[bm (.int .i64)],jQ⟩
def acv:List (Nat×bY):=[(2,⟨[(1,aO),(2,.ptr 1),(5,aO)],aA 1 ae .R [],[.drop,.drop]⟩)]
def acw(k:Nat→an→Option (Int×Unit)):CW:=fun U aa af=>k 2 (bj [(1,aZ U),(2,ax 1),(5,aZ aa)] (aC 1 ae .R [] af) [.aD,.aD])
theorem qX:Sound Tryz.prog 83 0 pS:=cA bk (fn:=Tryz.f83) (fns:=[]) trivial (by kernel_rfl) (by kernel_rfl) acv acw CY um (fun k x=>CX k x.1 x.2.1) (by kernel_rfl) (fun _=>by kernel_rfl) (fun _=>rfl) (fun _ _=>by kernel_rfl) (fun _=>by kernel_rfl)
def Tb:Entry:=⟨[aW .str],[ro (.sl .str)],w5⟩
def acx:List (Nat×bY):=[(4,⟨[(0,aO),(3,.cell (.ag 1)),(4,aO),(5,aO)],[(1,.row .str .R)],[.drop]⟩)]
def acy(k:Nat→an→Option (zb)):CZ:=fun U aa af ai=>k 4 (bj [(0,e9 U),(3,.aV (.ag 1 none)),(4,aZ aa),(5,aZ af)] [(1,.row .str .R 0 ai)] [.aD])
theorem acz:Sound Tryz.prog 108 0 Tb:=cA bk (fn:=Tryz.f108) (fns:=[]) trivial (by kernel_rfl) (by kernel_rfl) acx acy zc qA (fun k x=>C0 k x.1) (by kernel_rfl) (fun _=>by kernel_rfl) (fun _=>rfl) (fun _ _=>by kernel_rfl) (fun _=>by kernel_rfl)
def LV:Entry:=⟨[aW ae,aW (.int .i64)],[bm (.int .i64)],C2⟩
def acA:List (Nat×bY):=[(2,⟨[(1,aO),(2,.ptr 1),(5,aO)],aA 1 ae .R [],[.drop,.drop]⟩),(5,⟨[(1,aO),(2,.ptr 1),(5,aO),(6,aO)],aA 1 ae .R [],[.drop,.drop]⟩)]
def acB(k:Nat→an→Option (Int×Unit)):uo:=⟨fun U aa af=>k 2 (bj [(1,aZ U),(2,ax 1),(5,aZ aa)] (aC 1 ae .R [] af) [.aD,.aD]),fun U aa af ai=>k 5 (bj [(1,aZ U),(2,ax 1),(5,aZ aa),(6,aZ af)] (aC 1 ae .R [] ai) [.aD,.aD])⟩
theorem Tc:Sound Tryz.prog 110 0 LV:=cA bk (fn:=Tryz.f110) (fns:=[]) trivial (by kernel_rfl) (by kernel_rfl) acA acB RK kE (fun k x=>C1 k x.1 x.2.1) (by kernel_rfl) (fun _=>by kernel_rfl) (fun _=>rfl) (fun _ _=>by kernel_rfl) (fun _=>by kernel_rfl)
def Td:Entry:=⟨[aW ae,aW (.int .i64),aW .str],[bm (.int .i64)],JO⟩
def acC:List (Nat×bY):=[(3,⟨[(2,aO),(7,.cell (.b1 aw [])),(8,aO)],[],[.drop,.drop,.drop]⟩)]
def acD(k:Nat→an→Option (Int×Unit)):C3:=fun U aa af=>k 3 (bj [(2,e9 U),(7,hY aw aa),(8,aZ af)] [] [.aD,.aD,.aD])
theorem acE:Sound Tryz.prog 111 0 Td:=cA bk (fn:=Tryz.f111) (fns:=[(83,pS)]) ⟨qX,trivial⟩ (by kernel_rfl) (by kernel_rfl) acC acD C5 r3 (fun k x=>C4 k x.1 x.2.1 x.2.2.1) (by kernel_rfl) (fun _=>by kernel_rfl) (fun _=>rfl) (fun _ _=>by kernel_rfl) (fun _=>by kernel_rfl)
def LW:Entry:=⟨[aW ae,aW aH,aW .str,aW .bool],[bm aS],C6⟩
def acF:List (Nat×bY):=[(4,⟨[(3,aO),(4,.ptr 1),(5,.ptr 2),(8,.ptr 3),(9,.cell (.au 4)),(10,aO),(11,aO)],aA 1 ae .R []++aA 2 aH .R []++aA 3 aS .R []++[(4,.row .str .R)],[.drop,.drop,.drop,.drop]⟩),(21,⟨[(3,aO),(4,.ptr 1),(5,.ptr 2),(8,.ptr 3),(9,.cell (.au 4)),(10,aO),(11,aO),(12,aO),(13,aO),(14,aO),(15,.ptr 5)],aA 1 ae .R []++aA 2 aH .R []++aA 3 aS .R []++[(4,.row .str .R)]++aA 5 I .R [],[.drop,.drop,.drop,.drop]⟩),(22,⟨[(3,aO),(4,.ptr 1),(5,.ptr 2),(8,.ptr 3),(9,.cell (.au 4)),(10,aO),(11,aO),(15,.ptr 5)],aA 1 ae .R []++aA 2 aH .R []++aA 3 aS .R []++[(4,.row .str .R)]++aA 5 I .R [],[.drop,.drop,.drop,.drop]⟩),(30,⟨[(3,aO),(4,.ptr 1),(5,.ptr 2),(8,.ptr 3),(9,.cell (.au 4)),(10,aO),(11,aO),(12,aO),(13,aO),(14,aO),(15,.ptr 5)],aA 1 ae .R []++aA 2 aH .R []++aA 3 aS .R []++[(4,.row .str .R)]++aA 5 I .R [],[.drop,.drop,.drop,.drop]⟩),(27,⟨[(3,aO),(4,.ptr 1),(5,.ptr 2),(8,.ptr 3),(9,.cell (.au 4)),(10,aO),(11,aO),(15,.ptr 5)],aA 1 ae .R []++aA 2 aH .R []++aA 3 aS .R []++[(4,.row .str .R)]++aA 5 I .R [],[.drop,.drop,.drop,.drop]⟩)]
def acG(k:Nat→an→Option (aS.D×Unit)):pI:=⟨fun U aa af ai ar aE bb bN cB=>k 4 (bj [(3,jM U),(4,ax 1),(5,ax 2),(8,ax 3),(9,.aV (.ag 4 (some (aa,af)))),(10,aZ ai),(11,aZ ar)] (aC 1 ae .R [] aE++aC 2 aH .R [] bb++aC 3 aS .R [] bN++[(4,.row .str .R 0 cB)]) [.aD,.aD,.aD,.aD]),fun U aa af ai ar aE bb bN cB ff kF kG j'=>k 21 (bj [(3,jM U),(4,ax 1),(5,ax 2),(8,ax 3),(9,.aV (.ag 4 (some (aa,af)))),(10,aZ ai),(11,aZ ar),(12,e9 aE),(13,jM bb),(14,aZ bN),(15,ax 5)] (aC 1 ae .R [] cB++aC 2 aH .R [] ff++aC 3 aS .R [] kF++[(4,.row .str .R 0 kG)]++aC 5 I .R [] j') [.aD,.aD,.aD,.aD]),fun U aa af ai ar aE bb bN cB ff=>k 22 (bj [(3,jM U),(4,ax 1),(5,ax 2),(8,ax 3),(9,.aV (.ag 4 (some (aa,af)))),(10,aZ ai),(11,aZ ar),(15,ax 5)] (aC 1 ae .R [] aE++aC 2 aH .R [] bb++aC 3 aS .R [] bN++[(4,.row .str .R 0 cB)]++aC 5 I .R [] ff) [.aD,.aD,.aD,.aD]),fun U aa af ai ar aE bb bN cB ff kF kG j'=>k 30 (bj [(3,jM U),(4,ax 1),(5,ax 2),(8,ax 3),(9,.aV (.ag 4 (some (aa,af)))),(10,aZ ai),(11,aZ ar),(12,e9 aE),(13,jM bb),(14,aZ bN),(15,ax 5)] (aC 1 ae .R [] cB++aC 2 aH .R [] ff++aC 3 aS .R [] kF++[(4,.row .str .R 0 kG)]++aC 5 I .R [] j') [.aD,.aD,.aD,.aD]),fun U aa af ai ar aE bb bN cB ff=>k 27 (bj [(3,jM U),(4,ax 1),(5,ax 2),(8,ax 3),(9,.aV (.ag 4 (some (aa,af)))),(10,aZ ai),(11,aZ ar),(15,ax 5)] (aC 1 ae .R [] aE++aC 2 aH .R [] bb++aC 3 aS .R [] bN++[(4,.row .str .R 0 cB)]++aC 5 I .R [] ff) [.aD,.aD,.aD,.aD])⟩
theorem Te:Sound Tryz.prog 65 0 LW:=cA bk (fn:=Tryz.f65) (fns:=[(83,pS),(108,Tb),(109,sC),(110,LV),(111,Td)]) ⟨qX,acz,vl,Tc,acE,trivial⟩ (by kernel_rfl) (by kernel_rfl) acF acG RL de (fun k x=>w6 k x.1 x.2.1 x.2.2.1 x.2.2.2.1) (by kernel_rfl) (fun _=>by kernel_rfl) (fun _=>rfl) (fun _ _=>by kernel_rfl) (fun _=>by kernel_rfl)
def LX:Entry:=⟨[aW ae,aW aH,aW .str],[bm aS,bm (.int .i64)],qB⟩
theorem Tf:Sound Tryz.prog 119 0 LX:=cL bk (fn:=Tryz.f119) (fns:=[(64,LU),(65,LW)]) ⟨Ta,Te,trivial⟩ (by kernel_rfl) (by kernel_rfl) fun _=>by kernel_rfl
def pT:Entry:=⟨[aW ae,aW (.int .i64)],[bm I],e_⟩
theorem qY:Sound Tryz.prog 120 0 pT:=cL bk (fn:=Tryz.f120) (fns:=[(83,pS)]) ⟨qX,trivial⟩ (by kernel_rfl) (by kernel_rfl) fun _=>by kernel_rfl
def Fy:Entry:=⟨[aW ae],[bm (.int .i64)],zg⟩
def acH:List (Nat×bY):=[(3,⟨[(1,.ptr 1),(3,aO),(4,aO)],aA 1 ae .R [],[.drop]⟩)]
def acI(k:Nat→an→Option (Int×Unit)):C7:=fun U aa af=>k 3 (bj [(1,ax 1),(3,aZ U),(4,aZ aa)] (aC 1 ae .R [] af) [.aD])
theorem LY:Sound Tryz.prog 49 0 Fy:=cA bk (fn:=Tryz.f49) (fns:=[]) trivial (by kernel_rfl) (by kernel_rfl) acH acI C9 uw (fun k x=>C8 k x.1) (by kernel_rfl) (fun _=>by kernel_rfl) (fun _=>rfl) (fun _ _=>by kernel_rfl) (fun _=>by kernel_rfl)
def LZ:Entry:=⟨[aW ae,aW (.int .i64)],[ro (.sl .bool)],Da⟩
def acJ:List (Nat×bY):=[(8,⟨[(2,.ptr 1),(5,.cell (.ag 2)),(6,.cell (.ag 3)),(8,aO)],aA 1 ae .R []++[(2,.row .bool .R),(3,.row .bool .R)],[.drop,.drop]⟩),(11,⟨[(2,.ptr 1),(5,.cell (.ag 2)),(6,.cell (.ag 3)),(8,aO),(9,aO)],aA 1 ae .R []++[(2,.row .bool .R),(3,.row .bool .R)],[.drop,.drop]⟩),(15,⟨[(2,.ptr 1),(5,.cell (.ag 2)),(6,.cell (.ag 3)),(8,aO),(9,aO),(10,aO)],aA 1 ae .R []++[(2,.row .bool .R),(3,.row .bool .R)],[.drop,.drop]⟩)]
def acK(k:Nat→an→Option ((List Bool)×Unit)):qC:=⟨fun U aa af ai=>k 8 (bj [(2,ax 1),(5,.aV (.ag 2 none)),(6,.aV (.ag 3 none)),(8,aZ U)] (aC 1 ae .R [] aa++[(2,.row .bool .R 0 af),(3,.row .bool .R 0 ai)]) [.aD,.aD]),fun U aa af ai ar=>k 11 (bj [(2,ax 1),(5,.aV (.ag 2 none)),(6,.aV (.ag 3 none)),(8,aZ U),(9,aZ aa)] (aC 1 ae .R [] af++[(2,.row .bool .R 0 ai),(3,.row .bool .R 0 ar)]) [.aD,.aD]),fun U aa af ai ar aE=>k 15 (bj [(2,ax 1),(5,.aV (.ag 2 none)),(6,.aV (.ag 3 none)),(8,aZ U),(9,aZ aa),(10,aZ af)] (aC 1 ae .R [] ai++[(2,.row .bool .R 0 ar),(3,.row .bool .R 0 aE)]) [.aD,.aD])⟩
theorem Tg:Sound Tryz.prog 47 0 LZ:=cA bk (fn:=Tryz.f47) (fns:=[(83,pS)]) ⟨qX,trivial⟩ (by kernel_rfl) (by kernel_rfl) acJ acK RM ka (fun k x=>C' k x.1 x.2.1) (by kernel_rfl) (fun _=>by kernel_rfl) (fun _=>rfl) (fun _ _=>by kernel_rfl) (fun _=>by kernel_rfl)
def L0:Entry:=⟨[aW ae,aW (.int .i64)],[bm (.int .i64),bm (.int .i64)],zj⟩
def acL:List (Nat×bY):=[(5,⟨[(2,.ptr 1),(6,.cell (.ag 2)),(7,aO),(8,aO),(9,aO)],aA 1 ae .R []++[(2,.row .bool .R)],[.drop,.drop]⟩)]
def acM(k:Nat→an→Option (Int×Int×Unit)):Db:=fun U aa af ai ar=>k 5 (bj [(2,ax 1),(6,.aV (.ag 2 none)),(7,aZ U),(8,aZ aa),(9,aZ af)] (aC 1 ae .R [] ai++[(2,.row .bool .R 0 ar)]) [.aD,.aD])
theorem Th:Sound Tryz.prog 84 0 L0:=cA bk (fn:=Tryz.f84) (fns:=[(47,LZ)]) ⟨Tg,trivial⟩ (by kernel_rfl) (by kernel_rfl) acL acM Dd uy (fun k x=>Dc k x.1 x.2.1) (by kernel_rfl) (fun _=>by kernel_rfl) (fun _=>rfl) (fun _ _=>by kernel_rfl) (fun _=>by kernel_rfl)
def L1:Entry:=⟨[aW ae],[bm .bool],Df⟩
def acN:List (Nat×bY):=[(2,⟨[(1,.ptr 1),(3,aO)],aA 1 ae .R [],[.drop]⟩),(6,⟨[(1,.ptr 1),(3,aO),(4,.ptr 2)],aA 1 ae .R []++aA 2 I .R [],[.drop]⟩)]
def acO(k:Nat→an→Option (Bool×Unit)):uz:=⟨fun U aa=>k 2 (bj [(1,ax 1),(3,aZ U)] (aC 1 ae .R [] aa) [.aD]),fun U aa af=>k 6 (bj [(1,ax 1),(3,aZ U),(4,ax 2)] (aC 1 ae .R [] aa++aC 2 I .R [] af) [.aD])⟩
theorem Ti:Sound Tryz.prog 50 0 L1:=cA bk (fn:=Tryz.f50) (fns:=[(84,L0)]) ⟨Th,trivial⟩ (by kernel_rfl) (by kernel_rfl) acN acO RN kb (fun k x=>De k x.1) (by kernel_rfl) (fun _=>by kernel_rfl) (fun _=>rfl) (fun _ _=>by kernel_rfl) (fun _=>by kernel_rfl)
def Tj:Entry:=⟨[aW ae],[bm (.int .i64)],JS⟩
theorem acP:Sound Tryz.prog 156 0 Tj:=cL bk (fn:=Tryz.f156) (fns:=[(49,Fy),(50,L1)]) ⟨LY,Ti,trivial⟩ (by kernel_rfl) (by kernel_rfl) fun _=>by kernel_rfl
def xx:Entry:=⟨[aW ae,.val ae (.S (.cons .R (.cons (.O .R) .nil)))],[bm ae,bm aL],qD⟩
theorem z8:Sound Tryz.prog 121 0 xx:=cL bk (fn:=Tryz.f121) (fns:=[(156,Tj)]) ⟨acP,trivial⟩ (by kernel_rfl) (by kernel_rfl) fun _=>by kernel_rfl
def xy:Entry:=⟨[.val ae (.S (.cons .R (.cons (.O .R) .nil))),CB I],[.val ae (.S (.cons .R (.cons (.O .R) .nil)))],oJ⟩
theorem z_:Sound Tryz.prog 123 0 xy:=cL bk (fn:=Tryz.f123) (fns:=[(83,pS)]) ⟨qX,trivial⟩ (by kernel_rfl) (by kernel_rfl) fun _=>by kernel_rfl
def Fz:Entry:=⟨[.val ae (.S (.cons .R (.cons (.O .R) .nil))),aW (.int .i64),aW .str,aW (.int .i64)],[.val ae (.S (.cons .R (.cons (.O .R) .nil)))],r7⟩
def acQ:List (Nat×bY):=[(5,⟨[(2,aO),(3,aO),(4,.ptr 1),(8,.ptr 3),(9,.ptr 5),(10,.cell (.ag 6)),(11,aO),(12,aO)],aA 1 ae (.S (.cons .R (.cons (.O .R) .nil))) []++aA 3 ae ae.own []++aA 5 I .R [2]++[(6,.row aw .R)],[.drop,.drop,.drop,.drop]⟩),(10,⟨[(2,aO),(3,aO),(4,.ptr 1),(8,.ptr 3),(9,.ptr 5),(10,.cell (.ag 6)),(11,aO),(12,aO)],aA 1 ae (.S (.cons .R (.cons (.O .R) .nil))) []++aA 3 ae ae.own []++aA 5 I .R [2]++[(6,.row aw .R)],[.drop,.drop,.drop,.drop]⟩),(13,⟨[(4,.ptr 1),(8,.ptr 3),(9,.ptr 5),(10,.cell (.ag 6))],aA 1 ae (.S (.cons .R (.cons (.O .R) .nil))) []++aA 3 ae ae.own []++aA 5 I .R [2]++[(6,.row aw .R)],[.drop,.drop,.drop,.drop]⟩)]
def acR(k:Nat→an→Option (ae.D×Unit)):r6:=⟨fun U aa af ai ar aE bb bN=>k 5 (bj [(2,e9 U),(3,aZ aa),(4,ax 1),(8,ax 3),(9,ax 5),(10,.aV (.ag 6 none)),(11,jM af),(12,aZ ai)] (aC 1 ae (.S (.cons .R (.cons (.O .R) .nil))) [] ar++aC 3 ae ae.own [] aE++aC 5 I .R [2] bb++[(6,.row aw .R 0 bN)]) [.aD,.aD,.aD,.aD]),fun U aa af ai ar aE bb bN=>k 10 (bj [(2,e9 U),(3,aZ aa),(4,ax 1),(8,ax 3),(9,ax 5),(10,.aV (.ag 6 none)),(11,jM af),(12,aZ ai)] (aC 1 ae (.S (.cons .R (.cons (.O .R) .nil))) [] ar++aC 3 ae ae.own [] aE++aC 5 I .R [2] bb++[(6,.row aw .R 0 bN)]) [.aD,.aD,.aD,.aD]),fun U aa af ai=>k 13 (bj [(4,ax 1),(8,ax 3),(9,ax 5),(10,.aV (.ag 6 none))] (aC 1 ae (.S (.cons .R (.cons (.O .R) .nil))) [] U++aC 3 ae ae.own [] aa++aC 5 I .R [2] af++[(6,.row aw .R 0 ai)]) [.aD,.aD,.aD,.aD])⟩
theorem L2:Sound Tryz.prog 122 0 Fz:=cA bk (fn:=Tryz.f122) (fns:=[(120,pT),(123,xy)]) ⟨qY,z_,trivial⟩ (by kernel_rfl) (by kernel_rfl) acQ acR RP iF (fun k x=>Dg k x.1 x.2.1 x.2.2.1 x.2.2.2.1) (by kernel_rfl) (fun _=>by kernel_rfl) (fun _=>rfl) (fun _ _=>by kernel_rfl) (fun _=>by kernel_rfl)
def Tk:Entry:=⟨[CB ae,aW aH,aW aI],[bm ae,bm aL],r8⟩
def acS:List (Nat×bY):=[(3,⟨[(3,.ptr 1),(4,.ptr 2),(5,.ptr 3),(6,.ptr 4),(7,.ptr 6)],aA 1 ae .R []++aA 2 aH .R []++aA 3 aI .R []++aA 4 ae ae.own []++aA 6 aL .R [],[.drop,.drop,.drop]⟩),(14,⟨[(3,.ptr 1),(5,.ptr 2),(6,.ptr 3),(7,.ptr 5),(8,.ptr 6),(10,.ptr 7),(11,.ptr 8)],aA 1 ae .R []++aA 2 aI .R []++aA 3 ae ae.own []++aA 5 aL .R []++aA 6 aS .R []++aA 7 I .R []++aA 8 I I.own [],[.drop,.drop,.drop]⟩),(18,⟨[(3,.ptr 1),(6,.ptr 2),(7,.ptr 4),(8,.ptr 5),(10,.ptr 6),(11,.ptr 7)],aA 1 ae .R []++aA 2 ae ae.own []++aA 4 aL .R []++aA 5 aS .R []++aA 6 I .R []++aA 7 I I.own [],[.drop,.drop,.drop]⟩),(22,⟨[(3,.ptr 1),(6,.ptr 2),(7,.ptr 4),(8,.ptr 5),(11,.ptr 6)],aA 1 ae .R []++aA 2 ae ae.own []++aA 4 aL .R []++aA 5 aS .R []++aA 6 I I.own [],[.drop,.drop,.drop]⟩)]
def acT(k:Nat→an→Option (oL)):qE:=⟨fun U aa af ai ar=>k 3 (bj [(3,ax 1),(4,ax 2),(5,ax 3),(6,ax 4),(7,ax 6)] (aC 1 ae .R [] U++aC 2 aH .R [] aa++aC 3 aI .R [] af++aC 4 ae ae.own [] ai++aC 6 aL .R [] ar) [.aD,.aD,.aD]),fun U aa af ai ar aE bb=>k 14 (bj [(3,ax 1),(5,ax 2),(6,ax 3),(7,ax 5),(8,ax 6),(10,ax 7),(11,ax 8)] (aC 1 ae .R [] U++aC 2 aI .R [] aa++aC 3 ae ae.own [] af++aC 5 aL .R [] ai++aC 6 aS .R [] ar++aC 7 I .R [] aE++aC 8 I I.own [] bb) [.aD,.aD,.aD]),fun U aa af ai ar aE=>k 18 (bj [(3,ax 1),(6,ax 2),(7,ax 4),(8,ax 5),(10,ax 6),(11,ax 7)] (aC 1 ae .R [] U++aC 2 ae ae.own [] aa++aC 4 aL .R [] af++aC 5 aS .R [] ai++aC 6 I .R [] ar++aC 7 I I.own [] aE) [.aD,.aD,.aD]),fun U aa af ai ar=>k 22 (bj [(3,ax 1),(6,ax 2),(7,ax 4),(8,ax 5),(11,ax 6)] (aC 1 ae .R [] U++aC 2 ae ae.own [] aa++aC 4 aL .R [] af++aC 5 aS .R [] ai++aC 6 I I.own [] ar) [.aD,.aD,.aD])⟩
theorem acU:Sound Tryz.prog 86 0 Tk:=cA bk (fn:=Tryz.f86) (fns:=[(45,nP),(51,sB),(81,LR),(109,sC),(119,LX),(120,pT),(121,xx),(122,Fz),(123,xy)]) ⟨oW,vk,S_,vl,Tf,qY,z8,L2,z_,trivial⟩ (by kernel_rfl) (by kernel_rfl) acS acT RQ iG (fun k x=>w7 k x.1 x.2.1 x.2.2.1) (by kernel_rfl) (fun _=>by kernel_rfl) (fun _=>rfl) (fun _ _=>by kernel_rfl) (fun _=>by kernel_rfl)
def vm:Entry:=⟨[aW ae,aW aH,aW .str,aW .bool],[bm aS],dv⟩
theorem xz:Sound Tryz.prog 124 0 vm:=cL bk (fn:=Tryz.f124) (fns:=[(64,LU),(65,LW)]) ⟨Ta,Te,trivial⟩ (by kernel_rfl) (by kernel_rfl) fun _=>by kernel_rfl
def L3:Entry:=⟨[aW aH,aW I,aW I],[bm .bool],w8⟩
theorem Tl:Sound Tryz.prog 125 0 L3:=cL bk (fn:=Tryz.f125) (fns:=[(20,xw)]) ⟨z7,trivial⟩ (by kernel_rfl) (by kernel_rfl) fun _=>by kernel_rfl
def FA:Entry:=⟨[aW ae,aW (.int .i64)],[bm (.int .i64)],zq⟩
def acV:List (Nat×bY):=[(3,⟨[(1,aO),(2,.ptr 1),(5,aO),(6,aO)],aA 1 ae .R [],[.drop,.drop]⟩),(6,⟨[(1,aO),(2,.ptr 1),(5,aO),(6,aO),(7,aO)],aA 1 ae .R [],[.drop,.drop]⟩)]
def acW(k:Nat→an→Option (Int×Unit)):uB:=⟨fun U aa af ai=>k 3 (bj [(1,aZ U),(2,ax 1),(5,aZ aa),(6,aZ af)] (aC 1 ae .R [] ai) [.aD,.aD]),fun U aa af ai ar=>k 6 (bj [(1,aZ U),(2,ax 1),(5,aZ aa),(6,aZ af),(7,aZ ai)] (aC 1 ae .R [] ar) [.aD,.aD])⟩
theorem L4:Sound Tryz.prog 48 0 FA:=cA bk (fn:=Tryz.f48) (fns:=[]) trivial (by kernel_rfl) (by kernel_rfl) acV acW RR pJ (fun k x=>Dh k x.1 x.2.1) (by kernel_rfl) (fun _=>by kernel_rfl) (fun _=>rfl) (fun _ _=>by kernel_rfl) (fun _=>by kernel_rfl)
def L5:Entry:=⟨[.val ae (.S (.cons .R (.cons (.O .R) .nil))),aW (.int .i64),aW .str],[.val ae (.S (.cons .R (.cons (.O .R) .nil)))],nE⟩
def acX:List (Nat×bY):=[(5,⟨[(2,aO),(3,.ptr 1),(6,.ptr 3),(7,.ptr 5),(8,aO),(9,.cell (.ag 6)),(10,aO)],aA 1 ae (.S (.cons .R (.cons (.O .R) .nil))) []++aA 3 ae ae.own []++aA 5 I .R [2]++[(6,.row aw .R)],[.drop,.drop,.drop]⟩),(16,⟨[(3,.ptr 1),(6,.ptr 3),(8,aO),(11,.cell (.ag 5)),(12,aO)],aA 1 ae (.S (.cons .R (.cons (.O .R) .nil))) []++aA 3 ae ae.own []++[(5,.row I .R)],[.drop,.drop,.drop]⟩)]
def acY(k:Nat→an→Option (ae.D×Unit)):uC:=⟨fun U aa af ai ar aE bb=>k 5 (bj [(2,e9 U),(3,ax 1),(6,ax 3),(7,ax 5),(8,aZ aa),(9,.aV (.ag 6 none)),(10,aZ af)] (aC 1 ae (.S (.cons .R (.cons (.O .R) .nil))) [] ai++aC 3 ae ae.own [] ar++aC 5 I .R [2] aE++[(6,.row aw .R 0 bb)]) [.aD,.aD,.aD]),fun U aa af ai ar=>k 16 (bj [(3,ax 1),(6,ax 3),(8,aZ U),(11,.aV (.ag 5 none)),(12,aZ aa)] (aC 1 ae (.S (.cons .R (.cons (.O .R) .nil))) [] af++aC 3 ae ae.own [] ai++[(5,.row I .R 0 ar)]) [.aD,.aD,.aD])⟩
theorem Tm:Sound Tryz.prog 126 0 L5:=cA bk (fn:=Tryz.f126) (fns:=[(48,FA),(120,pT),(123,xy)]) ⟨L4,qY,z_,trivial⟩ (by kernel_rfl) (by kernel_rfl) acX acY RS k8 (fun k x=>Di k x.1 x.2.1 x.2.2.1) (by kernel_rfl) (fun _=>by kernel_rfl) (fun _=>rfl) (fun _ _=>by kernel_rfl) (fun _=>by kernel_rfl)
def Tn:Entry:=⟨[aW ae,aW aH,aW aI],[bm ae,bm aL],w_⟩
def acZ:List (Nat×bY):=[(7,⟨[(3,.ptr 1),(4,.ptr 2),(5,.ptr 3),(6,.ptr 4),(7,.ptr 6),(8,.ptr 7),(9,.ptr 8)],aA 1 ae .R []++aA 2 aH .R []++aA 3 aI .R []++aA 4 ae ae.own []++aA 6 aL .R []++aA 7 aS .R []++aA 8 I .R [],[.drop,.drop,.drop]⟩),(9,⟨[(3,.ptr 1),(4,.ptr 2),(5,.ptr 3),(6,.ptr 4),(7,.ptr 6),(8,.ptr 7),(9,.ptr 8)],aA 1 ae .R []++aA 2 aH .R []++aA 3 aI .R []++aA 4 ae ae.own []++aA 6 aL .R []++aA 7 aS .R []++aA 8 I .R [],[.drop,.drop,.drop]⟩),(11,⟨[(3,.ptr 1),(4,.ptr 2),(6,.ptr 3),(7,.ptr 5),(8,.ptr 6),(9,.ptr 7)],aA 1 ae .R []++aA 2 aH .R []++aA 3 ae ae.own []++aA 5 aL .R []++aA 6 aS .R []++aA 7 I .R [],[.drop,.drop,.drop]⟩)]
def ac0(k:Nat→an→Option (qF)):r9:=⟨fun U aa af ai ar aE bb=>k 7 (bj [(3,ax 1),(4,ax 2),(5,ax 3),(6,ax 4),(7,ax 6),(8,ax 7),(9,ax 8)] (aC 1 ae .R [] U++aC 2 aH .R [] aa++aC 3 aI .R [] af++aC 4 ae ae.own [] ai++aC 6 aL .R [] ar++aC 7 aS .R [] aE++aC 8 I .R [] bb) [.aD,.aD,.aD]),fun U aa af ai ar aE bb=>k 9 (bj [(3,ax 1),(4,ax 2),(5,ax 3),(6,ax 4),(7,ax 6),(8,ax 7),(9,ax 8)] (aC 1 ae .R [] U++aC 2 aH .R [] aa++aC 3 aI .R [] af++aC 4 ae ae.own [] ai++aC 6 aL .R [] ar++aC 7 aS .R [] aE++aC 8 I .R [] bb) [.aD,.aD,.aD]),fun U aa af ai ar aE=>k 11 (bj [(3,ax 1),(4,ax 2),(6,ax 3),(7,ax 5),(8,ax 6),(9,ax 7)] (aC 1 ae .R [] U++aC 2 aH .R [] aa++aC 3 ae ae.own [] af++aC 5 aL .R [] ai++aC 6 aS .R [] ar++aC 7 I .R [] aE) [.aD,.aD,.aD])⟩
theorem ac1:Sound Tryz.prog 87 0 Tn:=cA bk (fn:=Tryz.f87) (fns:=[(51,sB),(109,sC),(120,pT),(124,vm),(125,L3),(126,L5)]) ⟨vk,vl,qY,xz,Tl,Tm,trivial⟩ (by kernel_rfl) (by kernel_rfl) acZ ac0 RT k9 (fun k x=>w9 k x.1 x.2.1 x.2.2.1) (by kernel_rfl) (fun _=>by kernel_rfl) (fun _=>rfl) (fun _ _=>by kernel_rfl) (fun _=>by kernel_rfl)
def L6:Entry:=⟨[aW ae,aW (.int .i64)],[bm .bool],xa⟩
theorem To:Sound Tryz.prog 127 0 L6:=cL bk (fn:=Tryz.f127) (fns:=[(83,pS)]) ⟨qX,trivial⟩ (by kernel_rfl) (by kernel_rfl) fun _=>by kernel_rfl
def Tp:Entry:=⟨[aW ae,aW aH,aW aI],[bm ae,bm aL],Dm⟩
theorem ac2:Sound Tryz.prog 88 0 Tp:=cL bk (fn:=Tryz.f88) (fns:=[(51,sB),(109,sC),(119,LX),(120,pT),(121,xx),(122,Fz),(124,vm),(127,L6)]) ⟨vk,vl,Tf,qY,z8,L2,xz,To,trivial⟩ (by kernel_rfl) (by kernel_rfl) fun _=>by kernel_rfl
def Tq:Entry:=⟨[aW ae,aW (.int .i64),aW (.int .i64)],[bm .bool],zt⟩
def ac3:List (Nat×bY):=[(2,⟨[(1,aO),(2,aO),(3,.ptr 1),(7,aO)],aA 1 ae .R [],[.drop,.drop,.drop]⟩)]
def ac4(k:Nat→an→Option (Bool×Unit)):Dn:=fun U aa af ai=>k 2 (bj [(1,aZ U),(2,aZ aa),(3,ax 1),(7,aZ af)] (aC 1 ae .R [] ai) [.aD,.aD,.aD])
theorem ac5:Sound Tryz.prog 128 0 Tq:=cA bk (fn:=Tryz.f128) (fns:=[(110,LV)]) ⟨Tc,trivial⟩ (by kernel_rfl) (by kernel_rfl) ac3 ac4 Dq uD (fun k x=>Dp k x.1 x.2.1 x.2.2.1) (by kernel_rfl) (fun _=>by kernel_rfl) (fun _=>rfl) (fun _ _=>by kernel_rfl) (fun _=>by kernel_rfl)
def Tr:Entry:=⟨[aW ae,aW aH,aW aI],[bm ae,bm aL],Ds⟩
def ac6:List (Nat×bY):=[(7,⟨[(3,.ptr 1),(4,.ptr 2),(6,.ptr 3),(7,.ptr 5),(8,.ptr 6),(9,.ptr 7)],aA 1 ae .R []++aA 2 aH .R []++aA 3 ae ae.own []++aA 5 aL .R []++aA 6 aS .R []++aA 7 aS .R [],[.drop,.drop,.drop]⟩),(18,⟨[(3,.ptr 1),(4,.ptr 2),(6,.ptr 3),(7,.ptr 5),(8,.ptr 6),(9,.ptr 7),(11,.ptr 8),(12,.ptr 9)],aA 1 ae .R []++aA 2 aH .R []++aA 3 ae ae.own []++aA 5 aL .R []++aA 6 aS .R []++aA 7 aS .R []++aA 8 I .R []++aA 9 I .R [],[.drop,.drop,.drop]⟩),(27,⟨[(3,.ptr 1),(6,.ptr 2),(7,.ptr 4),(8,.ptr 5),(9,.ptr 6),(12,.ptr 7),(13,.ptr 8),(14,.ptr 10)],aA 1 ae .R []++aA 2 ae ae.own []++aA 4 aL .R []++aA 5 aS .R []++aA 6 aS .R []++aA 7 I .R []++aA 8 ae (.S (.cons .R (.cons (.O .R) .nil))) []++aA 10 I .R [],[.drop,.drop,.drop]⟩),(34,⟨[(3,.ptr 1),(6,.ptr 2),(7,.ptr 4),(8,.ptr 5),(9,.ptr 6),(13,.ptr 7)],aA 1 ae .R []++aA 2 ae ae.own []++aA 4 aL .R []++aA 5 aS .R []++aA 6 aS .R []++aA 7 ae (.S (.cons .R (.cons (.O .R) .nil))) [],[.drop,.drop,.drop]⟩),(29,⟨[(3,.ptr 1),(6,.ptr 2),(7,.ptr 4),(8,.ptr 5),(9,.ptr 6),(12,.ptr 7),(13,.ptr 8),(14,.ptr 10)],aA 1 ae .R []++aA 2 ae ae.own []++aA 4 aL .R []++aA 5 aS .R []++aA 6 aS .R []++aA 7 I .R []++aA 8 ae (.S (.cons .R (.cons (.O .R) .nil))) []++aA 10 I .R [],[.drop,.drop,.drop]⟩)]
def ac7(k:Nat→an→Option (mJ)):pK:=⟨fun U aa af ai ar aE=>k 7 (bj [(3,ax 1),(4,ax 2),(6,ax 3),(7,ax 5),(8,ax 6),(9,ax 7)] (aC 1 ae .R [] U++aC 2 aH .R [] aa++aC 3 ae ae.own [] af++aC 5 aL .R [] ai++aC 6 aS .R [] ar++aC 7 aS .R [] aE) [.aD,.aD,.aD]),fun U aa af ai ar aE bb bN=>k 18 (bj [(3,ax 1),(4,ax 2),(6,ax 3),(7,ax 5),(8,ax 6),(9,ax 7),(11,ax 8),(12,ax 9)] (aC 1 ae .R [] U++aC 2 aH .R [] aa++aC 3 ae ae.own [] af++aC 5 aL .R [] ai++aC 6 aS .R [] ar++aC 7 aS .R [] aE++aC 8 I .R [] bb++aC 9 I .R [] bN) [.aD,.aD,.aD]),fun U aa af ai ar aE bb bN=>k 27 (bj [(3,ax 1),(6,ax 2),(7,ax 4),(8,ax 5),(9,ax 6),(12,ax 7),(13,ax 8),(14,ax 10)] (aC 1 ae .R [] U++aC 2 ae ae.own [] aa++aC 4 aL .R [] af++aC 5 aS .R [] ai++aC 6 aS .R [] ar++aC 7 I .R [] aE++aC 8 ae (.S (.cons .R (.cons (.O .R) .nil))) [] bb++aC 10 I .R [] bN) [.aD,.aD,.aD]),fun U aa af ai ar aE=>k 34 (bj [(3,ax 1),(6,ax 2),(7,ax 4),(8,ax 5),(9,ax 6),(13,ax 7)] (aC 1 ae .R [] U++aC 2 ae ae.own [] aa++aC 4 aL .R [] af++aC 5 aS .R [] ai++aC 6 aS .R [] ar++aC 7 ae (.S (.cons .R (.cons (.O .R) .nil))) [] aE) [.aD,.aD,.aD]),fun U aa af ai ar aE bb bN=>k 29 (bj [(3,ax 1),(6,ax 2),(7,ax 4),(8,ax 5),(9,ax 6),(12,ax 7),(13,ax 8),(14,ax 10)] (aC 1 ae .R [] U++aC 2 ae ae.own [] aa++aC 4 aL .R [] af++aC 5 aS .R [] ai++aC 6 aS .R [] ar++aC 7 I .R [] aE++aC 8 ae (.S (.cons .R (.cons (.O .R) .nil))) [] bb++aC 10 I .R [] bN) [.aD,.aD,.aD])⟩
theorem ac8:Sound Tryz.prog 89 0 Tr:=cA bk (fn:=Tryz.f89) (fns:=[(51,sB),(109,sC),(120,pT),(121,xx),(122,Fz),(124,vm),(125,L3),(126,L5),(128,Tq)]) ⟨vk,vl,qY,z8,L2,xz,Tl,Tm,ac5,trivial⟩ (by kernel_rfl) (by kernel_rfl) ac6 ac7 RV gy (fun k x=>Dr k x.1 x.2.1 x.2.2.1) (by kernel_rfl) (fun _=>by kernel_rfl) (fun _=>rfl) (fun _ _=>by kernel_rfl) (fun _=>by kernel_rfl)
def Ts:Entry:=⟨[aW .str,aW (.int .i64),aW .str],[bm .str],r'⟩
def ac9:List (Nat×bY):=[(2,⟨[(1,aO),(2,aO),(7,.cell (.ag 1))],[(1,.row (.int .u8) .R)],[.drop,.drop,.drop]⟩),(5,⟨[(1,aO),(2,aO),(7,.cell (.ag 1)),(8,aO)],[(1,.row (.int .u8) .R)],[.drop,.drop,.drop]⟩)]
def ac_(k:Nat→an→Option ((List UInt8)×Unit)):r_:=⟨fun U aa af=>k 2 (bj [(1,aZ U),(2,e9 aa),(7,.aV (.ag 1 none))] [(1,.row (.int .u8) .R 0 af)] [.aD,.aD,.aD]),fun U aa af ai=>k 5 (bj [(1,aZ U),(2,e9 aa),(7,.aV (.ag 1 none)),(8,aZ af)] [(1,.row (.int .u8) .R 0 ai)] [.aD,.aD,.aD])⟩
theorem ac':Sound Tryz.prog 129 0 Ts:=cA bk (fn:=Tryz.f129) (fns:=[]) trivial (by kernel_rfl) (by kernel_rfl) ac9 ac_ RX nF (fun k x=>Dt k x.1 x.2.1 x.2.2.1) (by kernel_rfl) (fun _=>by kernel_rfl) (fun _=>rfl) (fun _ _=>by kernel_rfl) (fun _=>by kernel_rfl)
def Tt:Entry:=⟨[aW ae,aW aH,aW aI],[bm ae,bm aL],xb⟩
def ada:List (Nat×bY):=[(12,⟨[(3,.ptr 1),(5,.ptr 2),(6,.ptr 3),(7,.ptr 5),(9,.ptr 6),(10,aO)],aA 1 ae .R []++aA 2 aI .R []++aA 3 ae ae.own []++aA 5 aL .R []++aA 6 I .R [],[.drop,.drop,.drop]⟩),(23,⟨[(3,.ptr 1),(6,.ptr 2),(7,.ptr 4),(9,.ptr 5)],aA 1 ae .R []++aA 2 ae ae.own []++aA 4 aL .R []++aA 5 I .R [],[.drop,.drop,.drop]⟩)]
def adb(k:Nat→an→Option (uE)):uF:=⟨fun U aa af ai ar aE=>k 12 (bj [(3,ax 1),(5,ax 2),(6,ax 3),(7,ax 5),(9,ax 6),(10,aZ U)] (aC 1 ae .R [] aa++aC 2 aI .R [] af++aC 3 ae ae.own [] ai++aC 5 aL .R [] ar++aC 6 I .R [] aE) [.aD,.aD,.aD]),fun U aa af ai=>k 23 (bj [(3,ax 1),(6,ax 2),(7,ax 4),(9,ax 5)] (aC 1 ae .R [] U++aC 2 ae ae.own [] aa++aC 4 aL .R [] af++aC 5 I .R [] ai) [.aD,.aD,.aD])⟩
theorem ade:Sound Tryz.prog 90 0 Tt:=cA bk (fn:=Tryz.f90) (fns:=[(51,sB),(109,sC),(120,pT),(121,xx),(123,xy),(124,vm),(129,Ts)]) ⟨vk,vl,qY,z8,z_,xz,ac',trivial⟩ (by kernel_rfl) (by kernel_rfl) ada adb RY kc (fun k x=>Du k x.1 x.2.1 x.2.2.1) (by kernel_rfl) (fun _=>by kernel_rfl) (fun _=>rfl) (fun _ _=>by kernel_rfl) (fun _=>by kernel_rfl)
def Tu:Entry:=⟨[aW ae,aW aH,aW aI],[bm ae,bm aL],sb⟩
def adf:List (Nat×bY):=[(8,⟨[(3,.ptr 1),(4,.ptr 2),(5,.ptr 3),(6,.ptr 4),(7,.ptr 6),(8,aO)],aA 1 ae .R []++aA 2 aH .R []++aA 3 aI .R []++aA 4 ae ae.own []++aA 6 aL .R [],[.drop,.drop,.drop]⟩),(12,⟨[(3,.ptr 1),(4,.ptr 2),(5,.ptr 3),(6,.ptr 4),(7,.ptr 6)],aA 1 ae .R []++aA 2 aH .R []++aA 3 aI .R []++aA 4 ae ae.own []++aA 6 aL .R [],[.drop,.drop,.drop]⟩),(24,⟨[(3,.ptr 1),(4,.ptr 2),(5,.ptr 3),(6,.ptr 4),(7,.ptr 6),(10,.ptr 7)],aA 1 ae .R []++aA 2 aH .R []++aA 3 aI .R []++aA 4 ae ae.own []++aA 6 aL .R []++aA 7 I .R [],[.drop,.drop,.drop]⟩),(32,⟨[(3,.ptr 1),(6,.ptr 2),(7,.ptr 4),(10,.ptr 5)],aA 1 ae .R []++aA 2 ae ae.own []++aA 4 aL .R []++aA 5 I .R [],[.drop,.drop,.drop]⟩)]
def adg(k:Nat→an→Option (oM)):qG:=⟨fun U aa af ai ar aE=>k 8 (bj [(3,ax 1),(4,ax 2),(5,ax 3),(6,ax 4),(7,ax 6),(8,jM U)] (aC 1 ae .R [] aa++aC 2 aH .R [] af++aC 3 aI .R [] ai++aC 4 ae ae.own [] ar++aC 6 aL .R [] aE) [.aD,.aD,.aD]),fun U aa af ai ar=>k 12 (bj [(3,ax 1),(4,ax 2),(5,ax 3),(6,ax 4),(7,ax 6)] (aC 1 ae .R [] U++aC 2 aH .R [] aa++aC 3 aI .R [] af++aC 4 ae ae.own [] ai++aC 6 aL .R [] ar) [.aD,.aD,.aD]),fun U aa af ai ar aE=>k 24 (bj [(3,ax 1),(4,ax 2),(5,ax 3),(6,ax 4),(7,ax 6),(10,ax 7)] (aC 1 ae .R [] U++aC 2 aH .R [] aa++aC 3 aI .R [] af++aC 4 ae ae.own [] ai++aC 6 aL .R [] ar++aC 7 I .R [] aE) [.aD,.aD,.aD]),fun U aa af ai=>k 32 (bj [(3,ax 1),(6,ax 2),(7,ax 4),(10,ax 5)] (aC 1 ae .R [] U++aC 2 ae ae.own [] aa++aC 4 aL .R [] af++aC 5 I .R [] ai) [.aD,.aD,.aD])⟩
theorem adh:Sound Tryz.prog 91 0 Tu:=cA bk (fn:=Tryz.f91) (fns:=[(45,nP),(51,sB),(120,pT),(121,xx),(123,xy),(124,vm),(130,LS)]) ⟨oW,vk,qY,z8,z_,xz,S',trivial⟩ (by kernel_rfl) (by kernel_rfl) adf adg RZ hM (fun k x=>sa k x.1 x.2.1 x.2.2.1) (by kernel_rfl) (fun _=>by kernel_rfl) (fun _=>rfl) (fun _ _=>by kernel_rfl) (fun _=>by kernel_rfl)
def Tv:Entry:=⟨[aW (.int .i64)],[bm .str],hO⟩
def adi:List (Nat×bY):=[(5,⟨[(0,aO),(3,aO),(4,aO)],[],[.drop]⟩)]
def adj(k:Nat→an→Option ((List UInt8)×Unit)):Dv:=fun U aa af=>k 5 (bj [(0,aZ U),(3,e9 aa),(4,jM af)] [] [.aD])
theorem adk:Sound Tryz.prog 131 0 Tv:=cA bk (fn:=Tryz.f131) (fns:=[]) trivial (by kernel_rfl) (by kernel_rfl) adi adj zy pM (fun k x=>R0 k x.1) (by kernel_rfl) (fun _=>by kernel_rfl) (fun _=>rfl) (fun _ _=>by kernel_rfl) (fun _=>by kernel_rfl)
def Tw:Entry:=⟨[aW ae,aW (.int .i64)],[bm (.int .i64)],Dz⟩
def adl:List (Nat×bY):=[(8,⟨[(2,.ptr 1),(5,aO),(6,aO),(7,aO)],aA 1 ae .R [],[.drop,.drop]⟩)]
def adm(k:Nat→an→Option (Int×Unit)):Dw:=fun U aa af ai=>k 8 (bj [(2,ax 1),(5,aZ U),(6,aZ aa),(7,aZ af)] (aC 1 ae .R [] ai) [.aD,.aD])
theorem adn:Sound Tryz.prog 132 0 Tw:=cA bk (fn:=Tryz.f132) (fns:=[(48,FA),(83,pS),(127,L6)]) ⟨L4,qX,To,trivial⟩ (by kernel_rfl) (by kernel_rfl) adl adm Dy uG (fun k x=>Dx k x.1 x.2.1) (by kernel_rfl) (fun _=>by kernel_rfl) (fun _=>rfl) (fun _ _=>by kernel_rfl) (fun _=>by kernel_rfl)
def Tx:Entry:=⟨[aW ae,aW aH,aW aI],[bm aL],k_⟩
def ado:List (Nat×bY):=[(5,⟨[(3,.ptr 1),(4,.ptr 2),(5,.ptr 3),(6,.ptr 4)],aA 1 ae .R []++aA 2 aH .R []++aA 3 aI .R []++aA 4 aL .R [],[.drop,.drop,.drop]⟩),(6,⟨[(3,.ptr 1),(4,.ptr 2),(5,.ptr 3),(6,.ptr 4),(7,.ptr 5)],aA 1 ae .R []++aA 2 aH .R []++aA 3 aI .R []++aA 4 aL .R []++aA 5 aS .R [],[.drop,.drop,.drop]⟩),(20,⟨[(5,.ptr 1),(6,.ptr 2),(8,.ptr 3),(10,.cell (.ag 4)),(11,aO)],aA 1 aI .R []++aA 2 aL .R []++aA 3 I .R []++[(4,.row (.int .u8) .R)],[.drop,.drop,.drop]⟩),(35,⟨[(6,.ptr 1),(8,.ptr 2),(12,aO),(13,aO)],aA 1 aL .R []++aA 2 I .R [],[.drop,.drop,.drop]⟩),(39,⟨[(6,.ptr 1),(8,.ptr 2),(12,aO),(13,aO)],aA 1 aL .R []++aA 2 I .R [],[.drop,.drop,.drop]⟩)]
def adp(k:Nat→an→Option (aL.D×Unit)):nH:=⟨fun U aa af ai=>k 5 (bj [(3,ax 1),(4,ax 2),(5,ax 3),(6,ax 4)] (aC 1 ae .R [] U++aC 2 aH .R [] aa++aC 3 aI .R [] af++aC 4 aL .R [] ai) [.aD,.aD,.aD]),fun U aa af ai ar=>k 6 (bj [(3,ax 1),(4,ax 2),(5,ax 3),(6,ax 4),(7,ax 5)] (aC 1 ae .R [] U++aC 2 aH .R [] aa++aC 3 aI .R [] af++aC 4 aL .R [] ai++aC 5 aS .R [] ar) [.aD,.aD,.aD]),fun U aa af ai ar=>k 20 (bj [(5,ax 1),(6,ax 2),(8,ax 3),(10,.aV (.ag 4 none)),(11,aZ U)] (aC 1 aI .R [] aa++aC 2 aL .R [] af++aC 3 I .R [] ai++[(4,.row (.int .u8) .R 0 ar)]) [.aD,.aD,.aD]),fun U aa af ai=>k 35 (bj [(6,ax 1),(8,ax 2),(12,e9 U),(13,aZ aa)] (aC 1 aL .R [] af++aC 2 I .R [] ai) [.aD,.aD,.aD]),fun U aa af ai=>k 39 (bj [(6,ax 1),(8,ax 2),(12,e9 U),(13,aZ aa)] (aC 1 aL .R [] af++aC 2 I .R [] ai) [.aD,.aD,.aD])⟩
theorem adq:Sound Tryz.prog 92 0 Tx:=cA bk (fn:=Tryz.f92) (fns:=[(45,nP),(49,Fy),(84,L0),(109,sC),(120,pT),(124,vm),(131,Tv),(132,Tw)]) ⟨oW,LY,Th,vl,qY,xz,adk,adn,trivial⟩ (by kernel_rfl) (by kernel_rfl) ado adp R1 fz (fun k x=>qH k x.1 x.2.1 x.2.2.1) (by kernel_rfl) (fun _=>by kernel_rfl) (fun _=>rfl) (fun _ _=>by kernel_rfl) (fun _=>by kernel_rfl)
def L7:Entry:=⟨[CB ae,CB aH,aW aI],[bm ae,bm aL],kH⟩
def adr:List (Nat×bY):=[(8,⟨[(3,.ptr 1),(4,.ptr 2),(5,.ptr 3),(6,.ptr 4),(7,.ptr 6),(19,aO)],aA 1 ae .R []++aA 2 aH .R []++aA 3 aI .R []++aA 4 ae ae.own []++aA 6 aL .R [],[.drop,.drop,.drop]⟩),(11,⟨[(3,.ptr 1),(4,.ptr 2),(5,.ptr 3),(6,.ptr 4),(7,.ptr 6),(19,aO)],aA 1 ae .R []++aA 2 aH .R []++aA 3 aI .R []++aA 4 ae ae.own []++aA 6 aL .R [],[.drop,.drop,.drop]⟩),(19,⟨[(3,.ptr 1),(4,.ptr 2),(5,.ptr 3),(6,.ptr 4),(7,.ptr 6),(19,aO)],aA 1 ae .R []++aA 2 aH .R []++aA 3 aI .R []++aA 4 ae ae.own []++aA 6 aL .R [],[.drop,.drop,.drop]⟩)]
def ads(k:Nat→an→Option (qI)):se:=⟨fun U aa af ai ar aE=>k 8 (bj [(3,ax 1),(4,ax 2),(5,ax 3),(6,ax 4),(7,ax 6),(19,aZ U)] (aC 1 ae .R [] aa++aC 2 aH .R [] af++aC 3 aI .R [] ai++aC 4 ae ae.own [] ar++aC 6 aL .R [] aE) [.aD,.aD,.aD]),fun U aa af ai ar aE=>k 11 (bj [(3,ax 1),(4,ax 2),(5,ax 3),(6,ax 4),(7,ax 6),(19,aZ U)] (aC 1 ae .R [] aa++aC 2 aH .R [] af++aC 3 aI .R [] ai++aC 4 ae ae.own [] ar++aC 6 aL .R [] aE) [.aD,.aD,.aD]),fun U aa af ai ar aE=>k 19 (bj [(3,ax 1),(4,ax 2),(5,ax 3),(6,ax 4),(7,ax 6),(19,aZ U)] (aC 1 ae .R [] aa++aC 2 aH .R [] af++aC 3 aI .R [] ai++aC 4 ae ae.own [] ar++aC 6 aL .R [] aE) [.aD,.aD,.aD])⟩
theorem Ty:Sound Tryz.prog 52 0 L7:=cA bk (fn:=Tryz.f52) (fns:=[(85,S9),(86,Tk),(87,Tn),(88,Tp),(89,Tr),(90,Tt),(91,Tu),(92,Tx)]) ⟨ack,acU,ac1,ac2,ac8,ade,adh,adq,trivial⟩ (by kernel_rfl) (by kernel_rfl) adr ads R2 zz (fun k x=>sf k x.1 x.2.1 x.2.2.1) (by kernel_rfl) (fun _=>by kernel_rfl) (fun _=>rfl) (fun _ _=>by kernel_rfl) (fun _=>by kernel_rfl)
def z':Entry:=⟨[.«mut» bq .R .R,tc (.sl (.int .i64))],[bm (.int .i64)],je⟩
theorem FB:Sound Tryz.prog 77 0 z':=cL bk (fn:=Tryz.f77) (fns:=[(76,nO)]) ⟨oV,trivial⟩ (by kernel_rfl) (by kernel_rfl) fun _=>by kernel_rfl
def L8:Entry:=⟨[.«mut» bq .R .R],[ro aH],zA⟩
theorem Tz:Sound Tryz.prog 79 0 L8:=cL bk (fn:=Tryz.f79) (fns:=[(76,nO)]) ⟨oV,trivial⟩ (by kernel_rfl) (by kernel_rfl) fun _=>by kernel_rfl
def TA:Entry:=⟨[.«mut» bq .R .R,aW (.int .i64)],[bm .str],zC⟩
def adt:List (Nat×bY):=[(4,⟨[(0,.ptr 1),(5,.cell (.ag 2)),(6,aO),(7,aO)],aA 1 bq .R []++[(2,.row (.int .u8) .R)],[.ptr 1,.drop]⟩),(11,⟨[(0,.ptr 1),(5,.cell (.ag 2)),(6,aO),(7,aO),(8,aO)],aA 1 bq .R []++[(2,.row (.int .u8) .R)],[.ptr 1,.drop]⟩)]
def adu(k:Nat→an→Option (uH)):uI:=⟨fun U aa af ai=>k 4 (bj [(0,ax 1),(5,.aV (.ag 2 none)),(6,aZ U),(7,aZ aa)] (aC 1 bq .R [] af++[(2,.row (.int .u8) .R 0 ai)]) [ax 1,.aD]),fun U aa af ai ar=>k 11 (bj [(0,ax 1),(5,.aV (.ag 2 none)),(6,aZ U),(7,aZ aa),(8,aZ af)] (aC 1 bq .R [] ai++[(2,.row (.int .u8) .R 0 ar)]) [ax 1,.aD])⟩
theorem adv:Sound Tryz.prog 58 0 TA:=cA bk (fn:=Tryz.f58) (fns:=[(76,nO),(105,LP)]) ⟨oV,S5,trivial⟩ (by kernel_rfl) (by kernel_rfl) adt adu R5 sg (fun k x=>DD k x.1 x.2.1) (by kernel_rfl) (fun _=>by kernel_rfl) (fun _=>rfl) (fun _ _=>by kernel_rfl) (fun _=>by kernel_rfl)
def Aa:Entry:=⟨[.«mut» bq .R .R,tc (.sl .str)],[bm .str],qJ⟩
theorem FC:Sound Tryz.prog 78 0 Aa:=cL bk (fn:=Tryz.f78) (fns:=[(76,nO)]) ⟨oV,trivial⟩ (by kernel_rfl) (by kernel_rfl) fun _=>by kernel_rfl
def L9:Entry:=⟨[.«mut» bq .R .R],[bm .str],xc⟩
theorem TB:Sound Tryz.prog 106 0 L9:=cL bk (fn:=Tryz.f106) (fns:=[(78,Aa)]) ⟨FC,trivial⟩ (by kernel_rfl) (by kernel_rfl) fun _=>by kernel_rfl
def L_:Entry:=⟨[.«mut» bq .R .R],[bm .str],DF⟩
def adw:List (Nat×bY):=[(3,⟨[(0,.ptr 1),(3,aO),(4,aO)],aA 1 bq .R [],[.ptr 1]⟩),(16,⟨[(0,.ptr 1),(3,aO)],aA 1 bq .R [],[.ptr 1]⟩),(17,⟨[(0,.ptr 1),(3,aO)],aA 1 bq .R [],[.ptr 1]⟩)]
def adx(k:Nat→an→Option (qK)):sh:=⟨fun U aa af=>k 3 (bj [(0,ax 1),(3,e9 U),(4,aZ aa)] (aC 1 bq .R [] af) [ax 1]),fun U aa=>k 16 (bj [(0,ax 1),(3,e9 U)] (aC 1 bq .R [] aa) [ax 1]),fun U aa=>k 17 (bj [(0,ax 1),(3,e9 U)] (aC 1 bq .R [] aa) [ax 1])⟩
theorem TC:Sound Tryz.prog 80 0 L_:=cA bk (fn:=Tryz.f80) (fns:=[(63,xv),(76,nO),(78,Aa),(106,L9)]) ⟨z6,oV,FC,TB,trivial⟩ (by kernel_rfl) (by kernel_rfl) adw adx R8 oP (fun k x=>DE k x.1) (by kernel_rfl) (fun _=>by kernel_rfl) (fun _=>rfl) (fun _ _=>by kernel_rfl) (fun _=>by kernel_rfl)
def TD:Entry:=⟨[.«mut» bq .R .R,aW ae],[bm .str],xf⟩
def ady:List (Nat×bY):=[(6,⟨[(0,.ptr 1),(3,.ptr 2),(5,aO),(6,aO),(7,aO)],aA 1 bq .R []++aA 2 ae .R [],[.ptr 1,.drop]⟩)]
def adz(k:Nat→an→Option (zE)):DG:=fun U aa af ai ar=>k 6 (bj [(0,ax 1),(3,ax 2),(5,e9 U),(6,aZ aa),(7,aZ af)] (aC 1 bq .R [] ai++aC 2 ae .R [] ar) [ax 1,.aD])
theorem adA:Sound Tryz.prog 62 0 TD:=cA bk (fn:=Tryz.f62) (fns:=[(63,xv),(76,nO),(80,L_),(83,pS),(106,L9)]) ⟨z6,oV,TC,qX,TB,trivial⟩ (by kernel_rfl) (by kernel_rfl) ady adz xe uJ (fun k x=>DH k x.1 x.2.1) (by kernel_rfl) (fun _=>by kernel_rfl) (fun _=>rfl) (fun _ _=>by kernel_rfl) (fun _=>by kernel_rfl)
def L':Entry:=⟨[.«mut» bq .R .R,aW ae],[bm aI],DJ⟩
def adB:List (Nat×bY):=[(2,⟨[(0,.ptr 1),(3,.ptr 2),(4,.ptr 3),(5,.ptr 4)],aA 1 bq .R []++aA 2 ae .R []++aA 3 aI .R []++aA 4 aI .R [],[.ptr 1,.drop]⟩),(6,⟨[(0,.ptr 1),(4,.ptr 2),(5,.ptr 3)],aA 1 bq .R []++aA 2 aI .R []++aA 3 aI .R [],[.ptr 1,.drop]⟩),(7,⟨[(0,.ptr 1),(3,.ptr 2),(4,.ptr 3),(5,.ptr 4),(14,aO)],aA 1 bq .R []++aA 2 ae .R []++aA 3 aI .R []++aA 4 aI .R [],[.ptr 1,.drop]⟩),(32,⟨[(0,.ptr 1),(4,.ptr 2),(5,.ptr 3)],aA 1 bq .R []++aA 2 aI .R []++aA 3 aI .R [],[.ptr 1,.drop]⟩),(19,⟨[(0,.ptr 1),(3,.ptr 2),(4,.ptr 3),(5,.ptr 4)],aA 1 bq .R []++aA 2 ae .R []++aA 3 aI .R []++aA 4 aI .R [],[.ptr 1,.drop]⟩),(20,⟨[(0,.ptr 1),(4,.ptr 2),(5,.ptr 3),(14,aO)],aA 1 bq .R []++aA 2 aI .R []++aA 3 aI .R [],[.ptr 1,.drop]⟩)]
def adC(k:Nat→an→Option (la)):oQ:=⟨fun U aa af ai=>k 2 (bj [(0,ax 1),(3,ax 2),(4,ax 3),(5,ax 4)] (aC 1 bq .R [] U++aC 2 ae .R [] aa++aC 3 aI .R [] af++aC 4 aI .R [] ai) [ax 1,.aD]),fun U aa af=>k 6 (bj [(0,ax 1),(4,ax 2),(5,ax 3)] (aC 1 bq .R [] U++aC 2 aI .R [] aa++aC 3 aI .R [] af) [ax 1,.aD]),fun U aa af ai ar=>k 7 (bj [(0,ax 1),(3,ax 2),(4,ax 3),(5,ax 4),(14,aZ U)] (aC 1 bq .R [] aa++aC 2 ae .R [] af++aC 3 aI .R [] ai++aC 4 aI .R [] ar) [ax 1,.aD]),fun U aa af=>k 32 (bj [(0,ax 1),(4,ax 2),(5,ax 3)] (aC 1 bq .R [] U++aC 2 aI .R [] aa++aC 3 aI .R [] af) [ax 1,.aD]),fun U aa af ai=>k 19 (bj [(0,ax 1),(3,ax 2),(4,ax 3),(5,ax 4)] (aC 1 bq .R [] U++aC 2 ae .R [] aa++aC 3 aI .R [] af++aC 4 aI .R [] ai) [ax 1,.aD]),fun U aa af ai=>k 20 (bj [(0,ax 1),(4,ax 2),(5,ax 3),(14,aZ U)] (aC 1 bq .R [] aa++aC 2 aI .R [] af++aC 3 aI .R [] ai) [ax 1,.aD])⟩
theorem TE:Sound Tryz.prog 44 0 L':=cA bk (fn:=Tryz.f44) (fns:=[(58,TA),(62,TD),(63,xv),(76,nO),(77,z'),(78,Aa),(80,L_)]) ⟨adv,adA,z6,oV,FB,FC,TC,trivial⟩ (by kernel_rfl) (by kernel_rfl) adB adC R9 ld (fun k x=>DI k x.1 x.2.1) (by kernel_rfl) (fun _=>by kernel_rfl) (fun _=>rfl) (fun _ _=>by kernel_rfl) (fun _=>by kernel_rfl)
def TF:Entry:=⟨[.«mut» bq .R .R],[bm aI],DK⟩
theorem adD:Sound Tryz.prog 118 0 TF:=cL bk (fn:=Tryz.f118) (fns:=[(44,L'),(12,S7)]) ⟨TE,acb,trivial⟩ (by kernel_rfl) (by kernel_rfl) fun _=>by kernel_rfl
def TG:Entry:=⟨[.«mut» bq .R .R,aW (.int .i64)],[ro ae],Kn⟩
def adE:List (Nat×bY):=[(5,⟨[(0,.ptr 1),(4,.ptr 2),(5,.ptr 4),(6,aO)],aA 1 bq .R []++aA 2 ae ae.own []++aA 4 ae .R [],[.ptr 1,.drop]⟩)]
def adF(k:Nat→an→Option (xg)):zF:=fun U aa af ai=>k 5 (bj [(0,ax 1),(4,ax 2),(5,ax 4),(6,aZ U)] (aC 1 bq .R [] aa++aC 2 ae ae.own [] af++aC 4 ae .R [] ai) [ax 1,.aD])
theorem adG:Sound Tryz.prog 75 0 TG:=cA bk (fn:=Tryz.f75) (fns:=[(12,S6),(52,L7),(76,nO),(77,z'),(79,L8),(118,TF),(51,S8)]) ⟨aca,Ty,oV,FB,Tz,adD,ach,trivial⟩ (by kernel_rfl) (by kernel_rfl) adE adF xh uK (fun k x=>DL k x.1 x.2.1) (by kernel_rfl) (fun _=>by kernel_rfl) (fun _=>rfl) (fun _ _=>by kernel_rfl) (fun _=>by kernel_rfl)
def TH:Entry:=⟨[.«mut» bq .R .R,aW (.int .i64)],[ro ae],Kp⟩
theorem adH:Sound Tryz.prog 41 0 TH:=cL bk (fn:=Tryz.f41) (fns:=[(63,xv),(75,TG),(76,nO),(77,z'),(78,Aa)]) ⟨z6,adG,oV,FB,FC,trivial⟩ (by kernel_rfl) (by kernel_rfl) fun _=>by kernel_rfl
def TI:Entry:=⟨[aW (.sl (.int .u8)),aW (.int .i64)],[bm (.int .i64)],Kr⟩
theorem adI:Sound Tryz.prog 42 0 TI:=cL bk (fn:=Tryz.f42) (fns:=[]) trivial (by kernel_rfl) (by kernel_rfl) fun _=>by kernel_rfl
def TJ:Entry:=⟨[.«mut» bq .R .R],[ro aH],Kt⟩
theorem adJ:Sound Tryz.prog 43 0 TJ:=cL bk (fn:=Tryz.f43) (fns:=[(63,xv),(76,nO),(77,z'),(79,L8)]) ⟨z6,oV,FB,Tz,trivial⟩ (by kernel_rfl) (by kernel_rfl) fun _=>by kernel_rfl
def TK:Entry:=⟨[aW (.sl (.int .u8))],[ro ae,ro aH,bm aI],Kv⟩
theorem adK:Sound Tryz.prog 10 0 TK:=cL bk (fn:=Tryz.f10) (fns:=[(40,S4),(41,TH),(42,TI),(43,TJ),(44,L')]) ⟨ab',adH,adI,adJ,TE,trivial⟩ (by kernel_rfl) (by kernel_rfl) fun _=>by kernel_rfl
def TL:Entry:=⟨[aW .str],[bm .bool],Kw⟩
def adL:List (Nat×bY):=[(4,⟨[(0,aO),(3,aO)],[],[.drop]⟩)]
def adM(k:Nat→an→Option (Bool×Unit)):DO:=fun U aa=>k 4 (bj [(0,e9 U),(3,aZ aa)] [] [.aD])
theorem adN:Sound Tryz.prog 82 0 TL:=cA bk (fn:=Tryz.f82) (fns:=[(45,nP),(107,Fx)]) ⟨oW,LQ,trivial⟩ (by kernel_rfl) (by kernel_rfl) adL adM DQ si (fun k x=>DP k x.1) (by kernel_rfl) (fun _=>by kernel_rfl) (fun _=>rfl) (fun _ _=>by kernel_rfl) (fun _=>by kernel_rfl)
def TM:Entry:=⟨[aW ae,aW I],[bm .bool],DS⟩
def adO:List (Nat×bY):=[(4,⟨[(2,.ptr 1),(3,.ptr 2),(5,aO)],aA 1 ae .R []++aA 2 I .R [],[.drop,.drop]⟩),(13,⟨[(2,.ptr 1),(3,.ptr 2),(6,aO)],aA 1 ae .R []++aA 2 I .R [],[.drop,.drop]⟩)]
def adP(k:Nat→an→Option (Bool×Unit)):uL:=⟨fun U aa af=>k 4 (bj [(2,ax 1),(3,ax 2),(5,jM U)] (aC 1 ae .R [] aa++aC 2 I .R [] af) [.aD,.aD]),fun U aa af=>k 13 (bj [(2,ax 1),(3,ax 2),(6,aZ U)] (aC 1 ae .R [] aa++aC 2 I .R [] af) [.aD,.aD])⟩
theorem adQ:Sound Tryz.prog 46 0 TM:=cA bk (fn:=Tryz.f46) (fns:=[(45,nP),(81,LR),(82,TL),(83,pS)]) ⟨oW,S_,adN,qX,trivial⟩ (by kernel_rfl) (by kernel_rfl) adO adP Sc qL (fun k x=>DR k x.1 x.2.1) (by kernel_rfl) (fun _=>by kernel_rfl) (fun _=>rfl) (fun _ _=>by kernel_rfl) (fun _=>by kernel_rfl)
def Ma:Entry:=⟨[aW ae],[bm .bool],DU⟩
def adR:List (Nat×bY):=[(4,⟨[(1,.ptr 1),(3,aO)],aA 1 ae .R [],[.drop]⟩),(11,⟨[(1,.ptr 1),(5,.cell (.ag 2)),(6,aO)],aA 1 ae .R []++[(2,.row .bool .R)],[.drop]⟩)]
def adS(k:Nat→an→Option (Bool×Unit)):uM:=⟨fun U aa=>k 4 (bj [(1,ax 1),(3,aZ U)] (aC 1 ae .R [] aa) [.aD]),fun U aa af=>k 11 (bj [(1,ax 1),(5,.aV (.ag 2 none)),(6,aZ U)] (aC 1 ae .R [] aa++[(2,.row .bool .R 0 af)]) [.aD])⟩
theorem TN:Sound Tryz.prog 11 0 Ma:=cA bk (fn:=Tryz.f11) (fns:=[(45,nP),(46,TM),(47,LZ),(48,FA),(49,Fy),(50,L1)]) ⟨oW,adQ,Tg,L4,LY,Ti,trivial⟩ (by kernel_rfl) (by kernel_rfl) adR adS Sd nJ (fun k x=>DT k x.1) (by kernel_rfl) (fun _=>by kernel_rfl) (fun _=>rfl) (fun _ _=>by kernel_rfl) (fun _=>by kernel_rfl)
def kJ:Entry:=⟨[aW (.int .i64),aW (.int .i64),aW (.int .i64)],[bm .bool],eO⟩
theorem lh:Sound Tryz.prog 93 0 kJ:=cL bk (fn:=Tryz.f93) (fns:=[]) trivial (by kernel_rfl) (by kernel_rfl) fun _=>by kernel_rfl
def Mb:Entry:=⟨[aW (.int .u8)],[bm .bool],DV⟩
theorem TO:Sound Tryz.prog 157 0 Mb:=cL bk (fn:=Tryz.f157) (fns:=[]) trivial (by kernel_rfl) (by kernel_rfl) fun _=>by kernel_rfl
def FD:Entry:=⟨[aW .str],[bm .bool],xi⟩
def adT:List (Nat×bY):=[(2,⟨[(0,aO),(5,aO),(6,aO)],[],[.drop]⟩)]
def adU(k:Nat→an→Option (Bool×Unit)):DW:=fun U aa af=>k 2 (bj [(0,e9 U),(5,aZ aa),(6,aZ af)] [] [.aD])
theorem Mc:Sound Tryz.prog 133 0 FD:=cA bk (fn:=Tryz.f133) (fns:=[(93,kJ),(157,Mb)]) ⟨lh,TO,trivial⟩ (by kernel_rfl) (by kernel_rfl) adT adU DY uP (fun k x=>DX k x.1) (by kernel_rfl) (fun _=>by kernel_rfl) (fun _=>rfl) (fun _ _=>by kernel_rfl) (fun _=>by kernel_rfl)
def nQ:Entry:=⟨[ga ae,aW (.int .i64)],[.pa I],fA⟩
def adV:List (Nat×bY):=[(2,⟨[(0,.dk [] (r1 ae .R [] 0)),(1,aO),(10,aO),(11,aO)],[],[.drop,.drop]⟩)]
def adW(k:Nat→an→Option (zH)):DZ:=fun U aa af ai=>k 2 (bj [(0,.dk (pG []) (aV ae .R [] U 0) 0),(1,aZ aa),(10,aZ af),(11,aZ ai)] [] [.aD,.aD])
theorem oX:Sound Tryz.prog 56 0 nQ:=cA bk (fn:=Tryz.f56) (fns:=[]) trivial (by kernel_rfl) (by kernel_rfl) adV adW D1 uQ (fun k x=>D0 k x.1 x.2.1) (by kernel_rfl) (fun _=>by kernel_rfl) (fun _=>rfl) (fun _ _=>by kernel_rfl) (fun _=>by kernel_rfl)
def FE:Entry:=⟨[abi ae,aW (.int .i64)],[.opt 0 1 I],xj⟩
def adX:List (Nat×bY):=[(2,⟨[(0,.ptr 1),(1,aO),(10,aO),(11,aO)],aA 1 ae ae.own [],[.ptr 1,.drop]⟩)]
def adY(k:Nat→an→Option (Int×ae.D×Unit)):D2:=fun U aa af ai=>k 2 (bj [(0,ax 1),(1,aZ U),(10,aZ aa),(11,aZ af)] (aC 1 ae ae.own [] ai) [ax 1,.aD])
theorem Md:Sound Tryz.prog 56 0 FE:=cA bk (fn:=Tryz.f56) (fns:=[]) trivial (by kernel_rfl) (by kernel_rfl) adX adY D4 uR (fun k x=>D3 k x.1 x.2.1) (by kernel_rfl) (fun _=>by kernel_rfl) (fun _=>rfl) (fun _ _=>by kernel_rfl) (fun _=>by kernel_rfl)
def TP:Entry:=⟨[aW .str],[bm .bool],Kz⟩
def adZ:List (Nat×bY):=[(2,⟨[(0,aO),(5,aO),(6,aO)],[],[.drop]⟩)]
def ad0(k:Nat→an→Option (Bool×Unit)):D5:=fun U aa af=>k 2 (bj [(0,e9 U),(5,aZ aa),(6,aZ af)] [] [.aD])
theorem ad1:Sound Tryz.prog 158 0 TP:=cA bk (fn:=Tryz.f158) (fns:=[(93,kJ),(157,Mb)]) ⟨lh,TO,trivial⟩ (by kernel_rfl) (by kernel_rfl) adZ ad0 D7 uS (fun k x=>D6 k x.1) (by kernel_rfl) (fun _=>by kernel_rfl) (fun _=>rfl) (fun _ _=>by kernel_rfl) (fun _=>by kernel_rfl)
def TQ:Entry:=⟨[ga ae,aW I],[bm .bool],KA⟩
def ad2:List (Nat×bY):=[(2,⟨[(0,.dk [] (r1 ae .R [] 0)),(3,.ptr 1),(8,.cell (.b1 aw [])),(9,aO),(10,aO)],aA 1 I .R [],[.drop,.drop]⟩)]
def ad3(k:Nat→an→Option (Bool×Unit)):D8:=fun U aa af ai ar=>k 2 (bj [(0,.dk (pG []) (aV ae .R [] U 0) 0),(3,ax 1),(8,hY aw aa),(9,aZ af),(10,aZ ai)] (aC 1 I .R [] ar) [.aD,.aD])
theorem ad4:Sound Tryz.prog 134 0 TQ:=cA bk (fn:=Tryz.f134) (fns:=[(56,nQ),(158,TP)]) ⟨oX,ad1,trivial⟩ (by kernel_rfl) (by kernel_rfl) ad2 ad3 D_ uT (fun k x=>D9 k x.1 x.2.1) (by kernel_rfl) (fun _=>by kernel_rfl) (fun _=>rfl) (fun _ _=>by kernel_rfl) (fun _=>by kernel_rfl)
def TS:Entry:=⟨[ga ae,aW I],[bm .bool],Eb⟩
def ad5:List (Nat×bY):=[(5,⟨[(0,.dk [] (r1 ae .R [] 0)),(3,.ptr 1)],aA 1 I .R [],[.drop,.drop]⟩)]
def ad6(k:Nat→an→Option (Bool×Unit)):D':=fun U aa=>k 5 (bj [(0,.dk (pG []) (aV ae .R [] U 0) 0),(3,ax 1)] (aC 1 I .R [] aa) [.aD,.aD])
theorem ad7:Sound Tryz.prog 94 0 TS:=cA bk (fn:=Tryz.f94) (fns:=[(93,kJ),(133,FD),(134,TQ)]) ⟨lh,Mc,ad4,trivial⟩ (by kernel_rfl) (by kernel_rfl) ad5 ad6 KB zI (fun k x=>Ea k x.1 x.2.1) (by kernel_rfl) (fun _=>by kernel_rfl) (fun _=>rfl) (fun _ _=>by kernel_rfl) (fun _=>by kernel_rfl)
def TT:Entry:=⟨[aW (.sl (.int .i64)),aW (.int .i64)],[bm (.int .i64)],KC⟩
def ad8:List (Nat×bY):=[(2,⟨[(0,.cell (.b1 (.int .i64) [])),(1,aO),(7,aO),(8,aO)],[],[.drop,.drop]⟩)]
def ad9(k:Nat→an→Option (Int×Unit)):Ec:=fun U aa af ai=>k 2 (bj [(0,hY (.int .i64) U),(1,aZ aa),(7,aZ af),(8,aZ ai)] [] [.aD,.aD])
theorem ad_:Sound Tryz.prog 135 0 TT:=cA bk (fn:=Tryz.f135) (fns:=[]) trivial (by kernel_rfl) (by kernel_rfl) ad8 ad9 Ee uU (fun k x=>Ed k x.1 x.2.1) (by kernel_rfl) (fun _=>by kernel_rfl) (fun _=>rfl) (fun _ _=>by kernel_rfl) (fun _=>by kernel_rfl)
def Ab:Entry:=⟨[aW (.sl (.int .i64)),aW (.int .i64)],[bm .bool],sj⟩
theorem FF:Sound Tryz.prog 96 0 Ab:=cL bk (fn:=Tryz.f96) (fns:=[(135,TT)]) ⟨ad_,trivial⟩ (by kernel_rfl) (by kernel_rfl) fun _=>by kernel_rfl
def FG:Entry:=⟨[ga ae,aW (.int .i64)],[ro (.sl (.int .i64))],uW⟩
def ad':List (Nat×bY):=[(4,⟨[(0,.dk [] (r1 ae .R [] 0)),(5,.cell (.ag 1)),(6,.cell (.ag 2)),(7,aO)],[(1,.row (.int .i64) .R),(2,.row (.int .i64) .R)],[.drop,.drop]⟩),(9,⟨[(0,.dk [] (r1 ae .R [] 0)),(5,.cell (.ag 1)),(6,.cell (.ag 2)),(7,aO),(31,.cell (.b1 aw [])),(32,aO),(33,aO)],[(1,.row (.int .i64) .R),(2,.row (.int .i64) .R)],[.drop,.drop]⟩)]
def aea(k:Nat→an→Option ((List Int)×Unit)):uV:=⟨fun U aa af ai=>k 4 (bj [(0,.dk (pG []) (aV ae .R [] U 0) 0),(5,.aV (.ag 1 none)),(6,.aV (.ag 2 none)),(7,aZ aa)] [(1,.row (.int .i64) .R 0 af),(2,.row (.int .i64) .R 0 ai)] [.aD,.aD]),fun U aa af ai ar aE bb=>k 9 (bj [(0,.dk (pG []) (aV ae .R [] U 0) 0),(5,.aV (.ag 1 none)),(6,.aV (.ag 2 none)),(7,aZ aa),(31,hY aw af),(32,aZ ai),(33,aZ ar)] [(1,.row (.int .i64) .R 0 aE),(2,.row (.int .i64) .R 0 bb)] [.aD,.aD])⟩
theorem Me:Sound Tryz.prog 95 0 FG:=cA bk (fn:=Tryz.f95) (fns:=[(56,nQ),(96,Ab)]) ⟨oX,FF,trivial⟩ (by kernel_rfl) (by kernel_rfl) ad' aea Sf mM (fun k x=>Ef k x.1 x.2.1) (by kernel_rfl) (fun _=>by kernel_rfl) (fun _=>rfl) (fun _ _=>by kernel_rfl) (fun _=>by kernel_rfl)
def FH:Entry:=⟨[ga ae,aW (.int .i64)],[bm (.int .i64)],xk⟩
def aeb:List (Nat×bY):=[(3,⟨[(1,aO),(5,aO),(13,.cell (.b1 I [])),(14,aO),(15,aO)],[],[.drop,.drop]⟩),(6,⟨[(1,aO),(5,aO),(13,.cell (.b1 I [])),(14,aO),(15,aO),(20,.cell (.b1 aw [])),(21,aO),(22,aO)],[],[.drop,.drop]⟩)]
def aec(k:Nat→an→Option (Int×Unit)):uX:=⟨fun U aa af ai ar=>k 3 (bj [(1,aZ U),(5,aZ aa),(13,hY I af),(14,aZ ai),(15,aZ ar)] [] [.aD,.aD]),fun U aa af ai ar aE bb bN=>k 6 (bj [(1,aZ U),(5,aZ aa),(13,hY I af),(14,aZ ai),(15,aZ ar),(20,hY aw aE),(21,aZ bb),(22,aZ bN)] [] [.aD,.aD])⟩
theorem Mf:Sound Tryz.prog 97 0 FH:=cA bk (fn:=Tryz.f97) (fns:=[]) trivial (by kernel_rfl) (by kernel_rfl) aeb aec Sg pO (fun k x=>Eg k x.1 x.2.1) (by kernel_rfl) (fun _=>by kernel_rfl) (fun _=>rfl) (fun _ _=>by kernel_rfl) (fun _=>by kernel_rfl)
def FI:Entry:=⟨[ga ae],[bm (.int .i64)],sk⟩
def aed:List (Nat×bY):=[(3,⟨[(3,aO),(9,.cell (.b1 I [])),(10,aO),(11,aO)],[],[.drop]⟩)]
def aee(k:Nat→an→Option (Int×Unit)):Eh:=fun U aa af ai=>k 3 (bj [(3,aZ U),(9,hY I aa),(10,aZ af),(11,aZ ai)] [] [.aD])
theorem Mg:Sound Tryz.prog 98 0 FI:=cA bk (fn:=Tryz.f98) (fns:=[]) trivial (by kernel_rfl) (by kernel_rfl) aed aee Ej uY (fun k x=>Ei k x.1) (by kernel_rfl) (fun _=>by kernel_rfl) (fun _=>rfl) (fun _ _=>by kernel_rfl) (fun _=>by kernel_rfl)
def Mh:Entry:=⟨[ga ae,aW (.int .i64)],[bm (.int .i64),bm (.int .i64)],xl⟩
def aef:List (Nat×bY):=[(4,⟨[(0,.dk [] (r1 ae .R [] 0)),(6,aO),(7,.cell (.ag 1)),(14,.cell (.ag 1)),(15,aO),(16,aO)],[(1,.row (.int .i64) .R)],[.drop,.drop]⟩)]
def aeg(k:Nat→an→Option (Int×Int×Unit)):Ek:=fun U aa af ai ar=>k 4 (bj [(0,.dk (pG []) (aV ae .R [] U 0) 0),(6,aZ aa),(7,.aV (.ag 1 none)),(14,.aV (.ag 1 none)),(15,aZ af),(16,aZ ai)] [(1,.row (.int .i64) .R 0 ar)] [.aD,.aD])
theorem TU:Sound Tryz.prog 60 0 Mh:=cA bk (fn:=Tryz.f60) (fns:=[(56,nQ),(95,FG)]) ⟨oX,Me,trivial⟩ (by kernel_rfl) (by kernel_rfl) aef aeg Em qN (fun k x=>El k x.1 x.2.1) (by kernel_rfl) (fun _=>by kernel_rfl) (fun _=>rfl) (fun _ _=>by kernel_rfl) (fun _=>by kernel_rfl)
def TV:Entry:=⟨[ga ae,aW I],[bm .bool],KF⟩
theorem aeh:Sound Tryz.prog 100 0 TV:=cL bk (fn:=Tryz.f100) (fns:=[(60,Mh)]) ⟨TU,trivial⟩ (by kernel_rfl) (by kernel_rfl) fun _=>by kernel_rfl
def TW:Entry:=⟨[aW (.sl I),.fn 1 0,ga ae],[bm (.int .i64)],KG⟩
def aei:List (Nat×bY):=[(2,⟨[(0,.cell (.b1 I [])),(1,.vI [[.keep,.b1 I []]] []),(7,aO),(8,aO)],[],[.drop,.drop,.drop]⟩)]
def aej(k:Nat→an→Option (Int×Unit)):En:=fun U aa af ai=>k 2 (bj [(0,hY I U),(1,.fn 100 [.dk [] [.int .i64 aa.1,.b1 I [] none aa.2.1] 0] []),(7,aZ af),(8,aZ ai)] [] [.aD,.aD,.aD])
theorem aek:Sound Tryz.prog 136 100 TW:=vJ bk 100 (fn:=Tryz.f136) (fns:=[(100,TV)]) ⟨aeh,trivial⟩ (by kernel_rfl) (by kernel_rfl) aei aej Ep uZ (fun k x=>Eo k x.1 x.2.1) (by kernel_rfl) (fun _=>by kernel_rfl) (fun _=>rfl) (fun _ _=>by kernel_rfl) (fun _=>by kernel_rfl)
def Mi:Entry:=⟨[aW (.sl I),.fn 1 0,ga ae],[bm .bool],zM⟩
theorem TX:Sound Tryz.prog 99 100 Mi:=Rv bk 100 (fn:=Tryz.f99) (fns:=[(100000136,TW)]) ⟨aek,trivial⟩ (by kernel_rfl) (by kernel_rfl) fun _=>by kernel_rfl
def TY:Entry:=⟨[aW ae],[bm .bool],xm⟩
def ael:List (Nat×bY):=[(4,⟨[(1,.ptr 1),(36,.cell (.b1 I [])),(37,aO),(38,aO)],aA 1 ae .R [],[.drop]⟩),(11,⟨[(1,.ptr 1),(5,.cell (.ag 2)),(75,.cell (.b1 I [])),(76,aO),(77,aO)],aA 1 ae .R []++[(2,.row (.int .i64) .R)],[.drop]⟩)]
def aem(k:Nat→an→Option (Bool×Unit)):u0:=⟨fun U aa af ai=>k 4 (bj [(1,ax 1),(36,hY I U),(37,aZ aa),(38,aZ af)] (aC 1 ae .R [] ai) [.aD]),fun U aa af ai ar=>k 11 (bj [(1,ax 1),(5,.aV (.ag 2 none)),(75,hY I U),(76,aZ aa),(77,aZ af)] (aC 1 ae .R [] ai++[(2,.row (.int .i64) .R 0 ar)]) [.aD])⟩
theorem aen:Sound Tryz.prog 53 0 TY:=cA bk (fn:=Tryz.f53) (fns:=[(93,kJ),(94,TS),(95,FG),(96,Ab),(97,FH),(98,FI),(100000099,Mi)]) ⟨lh,ad7,Me,FF,Mf,Mg,TX,trivial⟩ (by kernel_rfl) (by kernel_rfl) ael aem Sh nK (fun k x=>Er k x.1) (by kernel_rfl) (fun _=>by kernel_rfl) (fun _=>rfl) (fun _ _=>by kernel_rfl) (fun _=>by kernel_rfl)
def sD:Entry:=⟨[aW (.int .i64)],[bm aL],e4⟩
theorem vn:Sound Tryz.prog 54 0 sD:=cL bk (fn:=Tryz.f54) (fns:=[]) trivial (by kernel_rfl) (by kernel_rfl) fun _=>by kernel_rfl
def TZ:Entry:=⟨[aW (.int .i64)],[bm .bool],Si⟩
theorem aeo:Sound Tryz.prog 138 0 TZ:=cL bk (fn:=Tryz.f138) (fns:=[(93,kJ)]) ⟨lh,trivial⟩ (by kernel_rfl) (by kernel_rfl) fun _=>by kernel_rfl
def T0:Entry:=⟨[aW (.sl (.int .i64)),.fn 0 0],[bm (.int .i64)],KJ⟩
def aep:List (Nat×bY):=[(2,⟨[(0,.cell (.b1 (.int .i64) [])),(1,.same),(7,aO),(8,aO)],[],[.drop,.drop]⟩)]
def aeq(k:Nat→an→Option (Int×Unit)):Es:=fun U aa af=>k 2 (bj [(0,hY (.int .i64) U),(1,.fn 138 [] []),(7,aZ aa),(8,aZ af)] [] [.aD,.aD])
theorem aer:Sound Tryz.prog 159 138 T0:=vJ bk 138 (fn:=Tryz.f159) (fns:=[(138,TZ)]) ⟨aeo,trivial⟩ (by kernel_rfl) (by kernel_rfl) aep aeq Eu u3 (fun k x=>Et k x.1) (by kernel_rfl) (fun _=>by kernel_rfl) (fun _=>rfl) (fun _ _=>by kernel_rfl) (fun _=>by kernel_rfl)
def T1:Entry:=⟨[aW (.sl (.int .i64)),.fn 0 0],[bm .bool],KL⟩
theorem aes:Sound Tryz.prog 137 138 T1:=Rv bk 138 (fn:=Tryz.f137) (fns:=[(138000159,T0)]) ⟨aer,trivial⟩ (by kernel_rfl) (by kernel_rfl) fun _=>by kernel_rfl
def Ac:Entry:=⟨[aW aH],[bm .bool],xn⟩
theorem FJ:Sound Tryz.prog 101 0 Ac:=cL bk (fn:=Tryz.f101) (fns:=[(93,kJ),(138000137,T1)]) ⟨lh,aes,trivial⟩ (by kernel_rfl) (by kernel_rfl) fun _=>by kernel_rfl
def T2:Entry:=⟨[aW aI],[bm .bool],KO⟩
def aet:List (Nat×bY):=[(3,⟨[(1,.ptr 1),(3,aO),(4,aO)],aA 1 aI .R [],[.drop]⟩),(5,⟨[(1,.ptr 1)],aA 1 aI .R [],[.drop]⟩)]
def aeu(k:Nat→an→Option (Bool×Unit)):u4:=⟨fun U aa af=>k 3 (bj [(1,ax 1),(3,jM U),(4,jM aa)] (aC 1 aI .R [] af) [.aD]),fun U=>k 5 (bj [(1,ax 1)] (aC 1 aI .R [] U) [.aD])⟩
theorem aev:Sound Tryz.prog 102 0 T2:=cA bk (fn:=Tryz.f102) (fns:=[(93,kJ)]) ⟨lh,trivial⟩ (by kernel_rfl) (by kernel_rfl) aet aeu KN Ew (fun k x=>Ev k x.1) (by kernel_rfl) (fun _=>by kernel_rfl) (fun _=>rfl) (fun _ _=>by kernel_rfl) (fun _=>by kernel_rfl)
def T3:Entry:=⟨[aW ae],[ro ae],sm⟩
def aew:List (Nat×bY):=[(3,⟨[(2,.ptr 1),(3,.ptr 3),(10,.cell (.b1 I [])),(11,aO),(12,aO)],aA 1 ae ae.own []++aA 3 ae ae.own [],[.drop]⟩)]
def aex(k:Nat→an→Option (ae.D×Unit)):xp:=fun U aa af ai ar=>k 3 (bj [(2,ax 1),(3,ax 3),(10,hY I U),(11,aZ aa),(12,aZ af)] (aC 1 ae ae.own [] ai++aC 3 ae ae.own [] ar) [.aD])
theorem aey:Sound Tryz.prog 103 0 T3:=cA bk (fn:=Tryz.f103) (fns:=[]) trivial (by kernel_rfl) (by kernel_rfl) aew aex Ey u5 (fun k x=>Ex k x.1) (by kernel_rfl) (fun _=>by kernel_rfl) (fun _=>rfl) (fun _ _=>by kernel_rfl) (fun _=>by kernel_rfl)
def T4:Entry:=⟨[aW .str],[bm .bool],KQ⟩
theorem aez:Sound Tryz.prog 179 0 T4:=cL bk (fn:=Tryz.f179) (fns:=[(133,FD)]) ⟨Mc,trivial⟩ (by kernel_rfl) (by kernel_rfl) fun _=>by kernel_rfl
def T5:Entry:=⟨[ga ae,aW (.int .i64)],[bm (.int .i64)],EA⟩
def aeA:List (Nat×bY):=[(2,⟨[(1,aO),(12,.cell (.b1 I [])),(13,aO),(14,aO)],[],[.drop,.drop]⟩),(5,⟨[(1,aO),(6,.ptr 1),(12,.cell (.b1 I [])),(13,aO),(14,aO),(19,.cell (.b1 aw [])),(20,aO),(21,aO)],aA 1 I .R [],[.drop,.drop]⟩)]
def aeB(k:Nat→an→Option (Int×Unit)):u6:=⟨fun U aa af ai=>k 2 (bj [(1,aZ U),(12,hY I aa),(13,aZ af),(14,aZ ai)] [] [.aD,.aD]),fun U aa af ai ar aE bb bN=>k 5 (bj [(1,aZ U),(6,ax 1),(12,hY I aa),(13,aZ af),(14,aZ ai),(19,hY aw ar),(20,aZ aE),(21,aZ bb)] (aC 1 I .R [] bN) [.aD,.aD])⟩
theorem aeC:Sound Tryz.prog 61 0 T5:=cA bk (fn:=Tryz.f61) (fns:=[]) trivial (by kernel_rfl) (by kernel_rfl) aeA aeB Sn kI (fun k x=>Ez k x.1 x.2.1) (by kernel_rfl) (fun _=>by kernel_rfl) (fun _=>rfl) (fun _ _=>by kernel_rfl) (fun _=>by kernel_rfl)
def FK:Entry:=⟨[aW aH,aW (.int .i64)],[bm .bool],u_⟩
theorem Mj:Sound Tryz.prog 173 0 FK:=cL bk (fn:=Tryz.f173) (fns:=[(96,Ab),(101,Ac)]) ⟨FF,FJ,trivial⟩ (by kernel_rfl) (by kernel_rfl) fun _=>by kernel_rfl
def xA:Entry:=⟨[aW aH,aW I,aW (.int .i64)],[bm .bool],pP⟩
theorem Ad:Sound Tryz.prog 171 0 xA:=cL bk (fn:=Tryz.f171) (fns:=[(93,kJ),(101,Ac),(173,FK)]) ⟨lh,FJ,Mj,trivial⟩ (by kernel_rfl) (by kernel_rfl) fun _=>by kernel_rfl
def Mk:Entry:=⟨[ga I,aW .str],[bm (.int .i64)],EE⟩
def aeD:List (Nat×bY):=[(2,⟨[(1,aO),(10,.cell (.b1 aw [])),(11,aO),(12,aO)],[],[.drop,.drop]⟩)]
def aeE(k:Nat→an→Option (Int×Unit)):EB:=fun U aa af ai=>k 2 (bj [(1,e9 U),(10,hY aw aa),(11,aZ af),(12,aZ ai)] [] [.aD,.aD])
theorem T6:Sound Tryz.prog 181 0 Mk:=cA bk (fn:=Tryz.f181) (fns:=[]) trivial (by kernel_rfl) (by kernel_rfl) aeD aeE ED sn (fun k x=>EC k x.1 x.2.1) (by kernel_rfl) (fun _=>by kernel_rfl) (fun _=>rfl) (fun _ _=>by kernel_rfl) (fun _=>by kernel_rfl)
def T7:Entry:=⟨[aW .str,aW (.int .i64)],[ro (.sl .str)],So⟩
theorem aeF:hW Tryz.prog 208 0 T7:=Ry fun _=>rfl
def T8:Entry:=⟨[aW .str,aW (.int .u8)],[bm (.int .i64)],Sp⟩
theorem aeG:hW Tryz.prog 220 0 T8:=abk Tryz.func220 (by kernel_rfl) (by kernel_rfl) (by kernel_rfl) (by kernel_rfl)
def T9:Entry:=⟨[aW .str,aW (.int .u8)],[bm (.int .i64)],Sq⟩
theorem aeH:Sound Tryz.prog 216 0 T9:=cL bk (fn:=Tryz.f216) (fns:=[(220,T8)]) ⟨aeG,trivial⟩ (by kernel_rfl) (by kernel_rfl) fun _=>by kernel_rfl
def T_:Entry:=⟨[aW .str,aW .str],[bm (.int .i64)],Sr⟩
theorem aeI:Sound Tryz.prog 214 0 T_:=cL bk (fn:=Tryz.f214) (fns:=[(216,T9)]) ⟨aeH,trivial⟩ (by kernel_rfl) (by kernel_rfl) fun _=>by kernel_rfl
def Ml:Entry:=⟨[aW .str,aW .str],[bm (.int .i64)],EF⟩
theorem Ua:Sound Tryz.prog 210 0 Ml:=cL bk (fn:=Tryz.f210) (fns:=[(214,T_)]) ⟨aeI,trivial⟩ (by kernel_rfl) (by kernel_rfl) fun _=>by kernel_rfl
def Ub:Entry:=⟨[aW .str],[bm (.int .i64)],Ss⟩
theorem aeJ:hW Tryz.prog 211 0 Ub:=Ry fun _=>rfl
def Uc:Entry:=⟨[aW .str,aW (.int .u8)],[bm (.int .i64)],St⟩
theorem aeK:hW Tryz.prog 213 0 Uc:=abl Tryz.func213 (by kernel_rfl) (by kernel_rfl) (by kernel_rfl) (by kernel_rfl)
def Ud:Entry:=⟨[aW .str,aW .str],[bm (.int .i64)],KV⟩
def aeL:List (Nat×bY):=[(6,⟨[(0,aO),(1,aO),(5,aO)],[],[.drop,.drop]⟩)]
def aeM(k:Nat→an→Option (Int×Unit)):EG:=fun U aa af=>k 6 (bj [(0,e9 U),(1,e9 aa),(5,aZ af)] [] [.aD,.aD])
theorem aeN:Sound Tryz.prog 209 0 Ud:=cA bk (fn:=Tryz.f209) (fns:=[(210,Ml),(211,Ub),(213,Uc)]) ⟨Ua,aeJ,aeK,trivial⟩ (by kernel_rfl) (by kernel_rfl) aeL aeM Su EI (fun k x=>EH k x.1 x.2.1) (by kernel_rfl) (fun _=>by kernel_rfl) (fun _=>rfl) (fun _ _=>by kernel_rfl) (fun _=>by kernel_rfl)
def Ue:Entry:=⟨[aW .str,aW .str,aW (.int .i64),aW (.int .i64)],[ro (.sl .str)],KY⟩
def aeO:List (Nat×bY):=[(7,⟨[(0,aO),(1,aO),(2,aO),(3,aO)],[],[.drop,.drop,.drop,.drop]⟩),(11,⟨[(0,aO),(1,aO),(2,aO),(3,aO),(9,.cell (.ag 1)),(10,aO)],[(1,.row .str .R)],[.drop,.drop,.drop,.drop]⟩),(17,⟨[(0,aO),(9,.cell (.ag 1)),(10,aO)],[(1,.row .str .R)],[.drop,.drop,.drop,.drop]⟩)]
def aeP(k:Nat→an→Option (pQ)):qO:=⟨fun U aa af ai=>k 7 (bj [(0,e9 U),(1,e9 aa),(2,aZ af),(3,aZ ai)] [] [.aD,.aD,.aD,.aD]),fun U aa af ai ar aE=>k 11 (bj [(0,e9 U),(1,e9 aa),(2,aZ af),(3,aZ ai),(9,.aV (.ag 1 none)),(10,aZ ar)] [(1,.row .str .R 0 aE)] [.aD,.aD,.aD,.aD]),fun U aa af=>k 17 (bj [(0,e9 U),(9,.aV (.ag 1 none)),(10,aZ aa)] [(1,.row .str .R 0 af)] [.aD,.aD,.aD,.aD])⟩
theorem aeQ:Sound Tryz.prog 207 0 Ue:=cA bk (fn:=Tryz.f207) (fns:=[(208,T7),(209,Ud),(210,Ml)]) ⟨aeF,aeN,Ua,trivial⟩ (by kernel_rfl) (by kernel_rfl) aeO aeP Sw qP (fun k x=>EJ k x.1 x.2.1 x.2.2.1 x.2.2.2.1) (by kernel_rfl) (fun _=>by kernel_rfl) (fun _=>rfl) (fun _ _=>by kernel_rfl) (fun _=>by kernel_rfl)
def Uf:Entry:=⟨[aW .str,aW .str],[ro (.sl .str)],K0⟩
theorem aeR:Sound Tryz.prog 200 0 Uf:=cL bk (fn:=Tryz.f200) (fns:=[(207,Ue)]) ⟨aeQ,trivial⟩ (by kernel_rfl) (by kernel_rfl) fun _=>by kernel_rfl
def Ug:Entry:=⟨[aW .str],[ro (.sl .str)],sq⟩
def aeS:List (Nat×bY):=[(3,⟨[(3,.cell (.ag 1)),(8,.cell (.ag 2)),(9,aO),(10,aO)],[(1,.row .str .R),(2,.row .str .R)],[.drop]⟩)]
def aeT(k:Nat→an→Option (zO)):EK:=fun U aa af ai=>k 3 (bj [(3,.aV (.ag 1 none)),(8,.aV (.ag 2 none)),(9,aZ U),(10,aZ aa)] [(1,.row .str .R 0 af),(2,.row .str .R 0 ai)] [.aD])
theorem aeU:Sound Tryz.prog 192 0 Ug:=cA bk (fn:=Tryz.f192) (fns:=[(200,Uf)]) ⟨aeR,trivial⟩ (by kernel_rfl) (by kernel_rfl) aeS aeT EM so (fun k x=>EL k x.1) (by kernel_rfl) (fun _=>by kernel_rfl) (fun _=>rfl) (fun _ _=>by kernel_rfl) (fun _=>by kernel_rfl)
def Uh:Entry:=⟨[ga ae,aW aH,aW .str,aW .bool],[bm aS],K1⟩
def aeV:List (Nat×bY):=[(3,⟨[(0,.dk [] (r1 ae .R [] 0)),(3,aO),(5,.ptr 1),(8,.ptr 2),(9,.cell (.au 3)),(10,aO),(11,aO)],aA 1 aH .R []++aA 2 aS .R []++[(3,.row .str .R)],[.drop,.drop,.drop,.drop]⟩)]
def aeW(k:Nat→an→Option (aS.D×Unit)):sr:=fun U aa af ai ar aE bb bN cB=>k 3 (bj [(0,.dk (pG []) (aV ae .R [] U 0) 0),(3,jM aa),(5,ax 1),(8,ax 2),(9,.aV (.ag 3 (some (af,ai)))),(10,aZ ar),(11,aZ aE)] (aC 1 aH .R [] bb++aC 2 aS .R [] bN++[(3,.row .str .R 0 cB)]) [.aD,.aD,.aD,.aD])
theorem aeX:Sound Tryz.prog 180 0 Uh:=cA bk (fn:=Tryz.f180) (fns:=[(56,nQ),(61,T5),(171,xA),(181,Mk),(192,Ug)]) ⟨oX,aeC,Ad,T6,aeU,trivial⟩ (by kernel_rfl) (by kernel_rfl) aeV aeW l0 gm (fun k x=>EN k x.1 x.2.1 x.2.2.1 x.2.2.2.1) (by kernel_rfl) (fun _=>by kernel_rfl) (fun _=>rfl) (fun _ _=>by kernel_rfl) (fun _=>by kernel_rfl)
def xB:Entry:=⟨[ga aK,aW .str,aW .bool],[bm aS],lf⟩
theorem Ae:Sound Tryz.prog 164 0 xB:=cL bk (fn:=Tryz.f164) (fns:=[(179,T4),(180,Uh)]) ⟨aez,aeX,trivial⟩ (by kernel_rfl) (by kernel_rfl) fun _=>by kernel_rfl
def Mm:Entry:=⟨[ga aK,aW .str],[bm aS,bm (.int .i64)],u'⟩
theorem Ui:Sound Tryz.prog 160 0 Mm:=cL bk (fn:=Tryz.f160) (fns:=[(164,xB)]) ⟨Ae,trivial⟩ (by kernel_rfl) (by kernel_rfl) fun _=>by kernel_rfl
def Af:Entry:=⟨[ga aK,aW (.int .i64)],[bm .bool],nL⟩
theorem FL:Sound Tryz.prog 161 0 Af:=cL bk (fn:=Tryz.f161) (fns:=[(56,nQ),(171,xA)]) ⟨oX,Ad,trivial⟩ (by kernel_rfl) (by kernel_rfl) fun _=>by kernel_rfl
def Uj:Entry:=⟨[tc (.sl aw),aW (.int .i64),tc (.sl aw)],[ro (.sl aw)],SC⟩
theorem aeY:hW Tryz.prog 178 0 Uj:=ins_soundX
def FM:Entry:=⟨[.«mut» aK cl cl,aW (.int .i64),aW .str,aW (.int .i64)],[],sv⟩
def aeZ:List (Nat×bY):=[(2,⟨[(2,aO),(3,aO),(8,.opt 1),(9,aO)],[(1,.row I vj),(2,.var [.keep,.ag 1,.keep,.keep,.b1 (.int .i64) [],.keep,.keep,.keep,.keep,.keep,.keep])],[.ptr 2,.drop,.drop,.drop]⟩),(4,⟨[(2,aO),(3,aO),(8,.opt 1),(9,aO)],[(1,.row I vj),(2,.var [.keep,.ag 1,.keep,.keep,.b1 (.int .i64) [],.keep,.keep,.keep,.keep,.keep,.keep])],[.ptr 2,.drop,.drop,.drop]⟩)]
def ae0(k:Nat→an→Option (aK.D×Unit)):va:=⟨fun U aa af ai ar=>k 2 (bj [(2,e9 U),(3,aZ aa),(8,.opt 1 af),(9,aZ ai)] ([(1,.row I vj 0 ar.1.2.1),(2,.var 0 [.int .i64 ar.1.1,.ag 1 none,.int .i64 ar.2.1.1,.int .i64 ar.2.1.2.1,.b1 (.int .i64) [] none ar.2.1.2.2.1,.int .i64 ar.2.2.1.1,.str ar.2.2.1.2.1,.str ar.2.2.1.2.2.1,.int .i64 ar.2.2.1.2.2.2.1,.int .i64 ar.2.2.1.2.2.2.2.1,.str ar.2.2.1.2.2.2.2.2.1])]) [ax 2,.aD,.aD,.aD]),fun U aa af ai ar=>k 4 (bj [(2,e9 U),(3,aZ aa),(8,.opt 1 af),(9,aZ ai)] ([(1,.row I vj 0 ar.1.2.1),(2,.var 0 [.int .i64 ar.1.1,.ag 1 none,.int .i64 ar.2.1.1,.int .i64 ar.2.1.2.1,.b1 (.int .i64) [] none ar.2.1.2.2.1,.int .i64 ar.2.2.1.1,.str ar.2.2.1.2.1,.str ar.2.2.1.2.2.1,.int .i64 ar.2.2.1.2.2.2.1,.int .i64 ar.2.2.1.2.2.2.2.1,.str ar.2.2.1.2.2.2.2.2.1])]) [ax 2,.aD,.aD,.aD])⟩
theorem Mn:Sound Tryz.prog 162 0 FM:=cA bk (fn:=Tryz.f162) (fns:=[(178,Uj),(56,FE)]) ⟨aeY,Md,trivial⟩ (by kernel_rfl) (by kernel_rfl) aeZ ae0 SD su (fun k x=>EO k x.1 x.2.1 x.2.2.1 x.2.2.2.1) (by kernel_rfl) (fun _=>by kernel_rfl) (fun _=>rfl) (fun _ _=>by kernel_rfl) (fun _=>by kernel_rfl)
def xC:Entry:=⟨[ga aK],[bm (.int .i64)],nM⟩
theorem Ag:Sound Tryz.prog 163 0 xC:=cL bk (fn:=Tryz.f163) (fns:=[(98,FI),(100000099,Mi)]) ⟨Mg,TX,trivial⟩ (by kernel_rfl) (by kernel_rfl) fun _=>by kernel_rfl
def Uk:Entry:=⟨[.«mut» aK cl cl],[bm (.int .i64)],zR⟩
def ae1:List (Nat×bY):=[(4,⟨[(0,.ptr 1),(3,.ptr 3)],aA 1 aK cl []++aA 3 aI .R [],[.ptr 1]⟩),(23,⟨[(0,.ptr 1),(4,.ptr 3),(7,.ptr 4)],aA 1 aK cl []++aA 3 aS .R []++aA 4 I I.own [],[.ptr 1]⟩)]
def ae2(k:Nat→an→Option (Int×aK.D×Unit)):vd:=⟨fun U aa=>k 4 (bj [(0,ax 1),(3,ax 3)] (aC 1 aK cl [] U++aC 3 aI .R [] aa) [ax 1]),fun U aa af=>k 23 (bj [(0,ax 1),(4,ax 3),(7,ax 4)] (aC 1 aK cl [] U++aC 3 aS .R [] aa++aC 4 I I.own [] af) [ax 1])⟩
theorem ae3:Sound Tryz.prog 139 0 Uk:=cA bk (fn:=Tryz.f139) (fns:=[(56,nQ),(93,kJ),(133,FD),(160,Mm),(161,Af),(162,FM),(163,xC)]) ⟨oX,lh,Mc,Ui,FL,Mn,Ag,trivial⟩ (by kernel_rfl) (by kernel_rfl) ae1 ae2 SE lg (fun k x=>EP k x.1) (by kernel_rfl) (fun _=>by kernel_rfl) (fun _=>rfl) (fun _ _=>by kernel_rfl) (fun _=>by kernel_rfl)
def FN:Entry:=⟨[aW aH,aW I,aW I],[bm .bool],sw⟩
theorem Mo:Sound Tryz.prog 165 0 FN:=cL bk (fn:=Tryz.f165) (fns:=[(101,Ac)]) ⟨FJ,trivial⟩ (by kernel_rfl) (by kernel_rfl) fun _=>by kernel_rfl
def Mp:Entry:=⟨[aW aw,ga .str],[bm .bool],ER⟩
theorem Ul:Sound Tryz.prog 183 0 Mp:=cL bk (fn:=Tryz.f183) (fns:=[]) trivial (by kernel_rfl) (by kernel_rfl) fun _=>by kernel_rfl
def Um:Entry:=⟨[aW (.sl aw),.fn 0 1,ga .str],[bm (.int .i64)],K8⟩
def ae4:List (Nat×bY):=[(2,⟨[(0,.cell (.b1 aw [])),(1,.vI [] [[.keep]]),(7,aO),(8,aO)],[],[.drop,.drop,.drop]⟩)]
def ae5(k:Nat→an→Option (Int×Unit)):ES:=fun U aa af ai=>k 2 (bj [(0,hY aw U),(1,.fn 183 [] [.dk [] [.str aa] 0]),(7,aZ af),(8,aZ ai)] [] [.aD,.aD,.aD])
theorem ae6:Sound Tryz.prog 193 183 Um:=vJ bk 183 (fn:=Tryz.f193) (fns:=[(183,Mp)]) ⟨Ul,trivial⟩ (by kernel_rfl) (by kernel_rfl) ae4 ae5 ET xq (fun k x=>SF k x.1 x.2.1) (by kernel_rfl) (fun _=>by kernel_rfl) (fun _=>rfl) (fun _ _=>by kernel_rfl) (fun _=>by kernel_rfl)
def Un:Entry:=⟨[tc (.sl aw),.fn 0 1,ga .str],[ro (.sl aw)],EX⟩
def ae7:List (Nat×bY):=[(5,⟨[(0,.cell (.ag 1)),(1,.vI [] [[.keep]]),(5,aO),(6,aO)],[(1,.row aw .R)],[.drop,.drop,.drop]⟩)]
def ae8(k:Nat→an→Option (xr)):EU:=fun U aa af ai=>k 5 (bj [(0,.aV (.ag 1 none)),(1,.fn 183 [] [.dk [] [.str U] 0]),(5,aZ aa),(6,aZ af)] [(1,.row aw .R 0 ai)] [.aD,.aD,.aD])
theorem ae9:Sound Tryz.prog 182 183 Un:=vJ bk 183 (fn:=Tryz.f182) (fns:=[(183,Mp),(183000193,Um)]) ⟨Ul,ae6,trivial⟩ (by kernel_rfl) (by kernel_rfl) ae7 ae8 EW xt (fun k x=>EV k x.1 x.2.1) (by kernel_rfl) (fun _=>by kernel_rfl) (fun _=>rfl) (fun _ _=>by kernel_rfl) (fun _=>by kernel_rfl)
def Uo:Entry:=⟨[tc (.sl I),.fn 0 1,ga (.int .i64)],[ro (.sl I)],SH⟩
theorem ae_:hW Tryz.prog 184 185 Uo:=abm (T:=I) (T':=o8.eF) (p:=fun y i => !(y.1==i)) (p':=fun y i => !o8.jk y i) rfl (fun x y i h=>by rw [show x.1=y.1 from h.1];rfl) (fq:=o8.G') o8.XY.x (fun ys i h=>o8.del_eq ys i h)
def Mq:Entry:=⟨[.«mut» aK cl cl,aW (.int .i64),aW .str,aW .bool],[],oR⟩
theorem Up:Sound Tryz.prog 166 0 Mq:=cL bk (fn:=Tryz.f166) (fns:=[(97,FH),(181,Mk),(183000182,Un),(185000184,Uo),(56,FE)]) ⟨Mf,T6,ae9,ae_,Md,trivial⟩ (by kernel_rfl) (by kernel_rfl) fun _=>by kernel_rfl
def Uq:Entry:=⟨[.«mut» aK cl cl],[bm (.int .i64)],EZ⟩
def ae':List (Nat×bY):=[(5,⟨[(0,.ptr 1),(3,.ptr 3),(4,.ptr 4)],aA 1 aK cl []++aA 3 aS .R []++aA 4 I .R [2,1],[.ptr 1]⟩),(7,⟨[(0,.ptr 1),(3,.ptr 3),(4,.ptr 4)],aA 1 aK cl []++aA 3 aS .R []++aA 4 I .R [2,1],[.ptr 1]⟩),(9,⟨[(0,.ptr 1),(3,.ptr 3),(4,.ptr 4)],aA 1 aK cl []++aA 3 aS .R []++aA 4 I .R [2,1],[.ptr 1]⟩),(11,⟨[(0,.ptr 1),(3,.ptr 3),(4,.ptr 4)],aA 1 aK cl []++aA 3 aS .R []++aA 4 I .R [2,1],[.ptr 1]⟩)]
def afa(k:Nat→an→Option (Int×aK.D×Unit)):qR:=⟨fun U aa af=>k 5 (bj [(0,ax 1),(3,ax 3),(4,ax 4)] (aC 1 aK cl [] U++aC 3 aS .R [] aa++aC 4 I .R [2,1] af) [ax 1]),fun U aa af=>k 7 (bj [(0,ax 1),(3,ax 3),(4,ax 4)] (aC 1 aK cl [] U++aC 3 aS .R [] aa++aC 4 I .R [2,1] af) [ax 1]),fun U aa af=>k 9 (bj [(0,ax 1),(3,ax 3),(4,ax 4)] (aC 1 aK cl [] U++aC 3 aS .R [] aa++aC 4 I .R [2,1] af) [ax 1]),fun U aa af=>k 11 (bj [(0,ax 1),(3,ax 3),(4,ax 4)] (aC 1 aK cl [] U++aC 3 aS .R [] aa++aC 4 I .R [2,1] af) [ax 1])⟩
theorem afb:Sound Tryz.prog 140 0 Uq:=cA bk (fn:=Tryz.f140) (fns:=[(56,nQ),(161,Af),(164,xB),(165,FN),(166,Mq)]) ⟨oX,FL,Ae,Mo,Up,trivial⟩ (by kernel_rfl) (by kernel_rfl) ae' afa SI oS (fun k x=>EY k x.1) (by kernel_rfl) (fun _=>by kernel_rfl) (fun _=>rfl) (fun _ _=>by kernel_rfl) (fun _=>by kernel_rfl)
def Mr:Entry:=⟨[ga ae,aW (.int .i64)],[bm .bool],ve⟩
theorem Ur:Sound Tryz.prog 59 0 Mr:=cL bk (fn:=Tryz.f59) (fns:=[(56,nQ)]) ⟨oX,trivial⟩ (by kernel_rfl) (by kernel_rfl) fun _=>by kernel_rfl
def Us:Entry:=⟨[.«mut» aK cl cl],[bm (.int .i64)],E0⟩
theorem afc:Sound Tryz.prog 141 0 Us:=cL bk (fn:=Tryz.f141) (fns:=[(56,nQ),(59,Mr),(160,Mm),(161,Af),(162,FM),(163,xC),(164,xB)]) ⟨oX,Ur,Ui,FL,Mn,Ag,Ae,trivial⟩ (by kernel_rfl) (by kernel_rfl) fun _=>by kernel_rfl
def Ut:Entry:=⟨[ga aK,aW I,aW aS],[bm (.int .i64)],E1⟩
theorem afd:Sound Tryz.prog 167 0 Ut:=cL bk (fn:=Tryz.f167) (fns:=[(56,nQ),(165,FN)]) ⟨oX,Mo,trivial⟩ (by kernel_rfl) (by kernel_rfl) fun _=>by kernel_rfl
def Uu:Entry:=⟨[.«mut» aK cl cl],[bm (.int .i64)],E3⟩
def afe:List (Nat×bY):=[(7,⟨[(0,.ptr 1),(3,.ptr 3),(4,.ptr 4)],aA 1 aK cl []++aA 3 aS .R []++aA 4 aS .R [],[.ptr 1]⟩),(10,⟨[(0,.ptr 1),(3,.ptr 3),(4,.ptr 4),(5,.ptr 5)],aA 1 aK cl []++aA 3 aS .R []++aA 4 aS .R []++aA 5 I .R [2,1],[.ptr 1]⟩),(16,⟨[(0,.ptr 1),(3,.ptr 3),(4,.ptr 4),(5,.ptr 5)],aA 1 aK cl []++aA 3 aS .R []++aA 4 aS .R []++aA 5 I .R [2,1],[.ptr 1]⟩),(25,⟨[(0,.ptr 1),(3,.ptr 3),(4,.ptr 4)],aA 1 aK cl []++aA 3 aS .R []++aA 4 aS .R [],[.ptr 1]⟩)]
def aff(k:Nat→an→Option (Int×aK.D×Unit)):qS:=⟨fun U aa af=>k 7 (bj [(0,ax 1),(3,ax 3),(4,ax 4)] (aC 1 aK cl [] U++aC 3 aS .R [] aa++aC 4 aS .R [] af) [ax 1]),fun U aa af ai=>k 10 (bj [(0,ax 1),(3,ax 3),(4,ax 4),(5,ax 5)] (aC 1 aK cl [] U++aC 3 aS .R [] aa++aC 4 aS .R [] af++aC 5 I .R [2,1] ai) [ax 1]),fun U aa af ai=>k 16 (bj [(0,ax 1),(3,ax 3),(4,ax 4),(5,ax 5)] (aC 1 aK cl [] U++aC 3 aS .R [] aa++aC 4 aS .R [] af++aC 5 I .R [2,1] ai) [ax 1]),fun U aa af=>k 25 (bj [(0,ax 1),(3,ax 3),(4,ax 4)] (aC 1 aK cl [] U++aC 3 aS .R [] aa++aC 4 aS .R [] af) [ax 1])⟩
theorem afg:Sound Tryz.prog 142 0 Uu:=cA bk (fn:=Tryz.f142) (fns:=[(56,nQ),(95,FG),(96,Ab),(161,Af),(162,FM),(163,xC),(164,xB),(165,FN),(166,Mq),(167,Ut)]) ⟨oX,Me,FF,FL,Mn,Ag,Ae,Mo,Up,afd,trivial⟩ (by kernel_rfl) (by kernel_rfl) afe aff SJ jf (fun k x=>E2 k x.1) (by kernel_rfl) (fun _=>by kernel_rfl) (fun _=>rfl) (fun _ _=>by kernel_rfl) (fun _=>by kernel_rfl)
def qZ:Entry:=⟨[.«mut» aK cl cl,aW .bool],[.opt 0 1 I,bm (.int .i64)],mN⟩
theorem sE:Sound Tryz.prog 170 0 qZ:=cL bk (fn:=Tryz.f170) (fns:=[(164,xB),(56,FE)]) ⟨Ae,Md,trivial⟩ (by kernel_rfl) (by kernel_rfl) fun _=>by kernel_rfl
def Ms:Entry:=⟨[.«mut» aK cl cl,aW (.int .i64)],[.opt 0 1 I,bm (.int .i64)],zT⟩
theorem Uv:Sound Tryz.prog 168 0 Ms:=cL bk (fn:=Tryz.f168) (fns:=[(170,qZ),(171,xA)]) ⟨sE,Ad,trivial⟩ (by kernel_rfl) (by kernel_rfl) fun _=>by kernel_rfl
def Uw:Entry:=⟨[.«mut» aK cl cl],[bm aL],E4⟩
theorem afh:Sound Tryz.prog 143 0 Uw:=cL bk (fn:=Tryz.f143) (fns:=[(54,sD),(168,Ms)]) ⟨vn,Uv,trivial⟩ (by kernel_rfl) (by kernel_rfl) fun _=>by kernel_rfl
def Ux:Entry:=⟨[aW .str,aW (.int .i64)],[bm .str],strings_Repeat⟩
theorem afi:hW Tryz.prog 186 0 Ux:=rep_soundX
def Uy:Entry:=⟨[aW .str,aW (.int .i64)],[bm .str],E5⟩
theorem afj:Sound Tryz.prog 169 0 Uy:=cL bk (fn:=Tryz.f169) (fns:=[(186,Ux)]) ⟨afi,trivial⟩ (by kernel_rfl) (by kernel_rfl) fun _=>by kernel_rfl
def Uz:Entry:=⟨[.«mut» aK cl cl],[bm (.int .i64)],E7⟩
def afk:List (Nat×bY):=[(7,⟨[(0,.ptr 1),(3,.opt 2),(5,aO)],aA 1 aK cl [],[.ptr 1]⟩),(11,⟨[(0,.ptr 1),(3,.opt 2),(5,aO)],aA 1 aK cl [],[.ptr 1]⟩),(18,⟨[(0,.ptr 1),(3,.opt 2),(6,aO)],aA 1 aK cl [],[.ptr 1]⟩)]
def afl(k:Nat→an→Option (Int×aK.D×Unit)):sx:=⟨fun U aa af=>k 7 (bj [(0,ax 1),(3,.opt 2 U),(5,aZ aa)] (aC 1 aK cl [] af) [ax 1]),fun U aa af=>k 11 (bj [(0,ax 1),(3,.opt 2 U),(5,aZ aa)] (aC 1 aK cl [] af) [ax 1]),fun U aa af=>k 18 (bj [(0,ax 1),(3,.opt 2 U),(6,e9 aa)] (aC 1 aK cl [] af) [ax 1])⟩
theorem afm:Sound Tryz.prog 144 0 Uz:=cA bk (fn:=Tryz.f144) (fns:=[(163,xC),(168,Ms),(169,Uy)]) ⟨Ag,Uv,afj,trivial⟩ (by kernel_rfl) (by kernel_rfl) afk afl SN gz (fun k x=>E6 k x.1) (by kernel_rfl) (fun _=>by kernel_rfl) (fun _=>rfl) (fun _ _=>by kernel_rfl) (fun _=>by kernel_rfl)
def UA:Entry:=⟨[.«mut» aK cl cl],[bm aL],E8⟩
theorem afn:Sound Tryz.prog 145 0 UA:=cL bk (fn:=Tryz.f145) (fns:=[(54,sD),(170,qZ)]) ⟨vn,sE,trivial⟩ (by kernel_rfl) (by kernel_rfl) fun _=>by kernel_rfl
def Mt:Entry:=⟨[aW (.sl .str),aW .str],[bm .str],strings_Join⟩
theorem UB:hW Tryz.prog 172 0 Mt:=join_soundX
def UC:Entry:=⟨[aW (.int .i64)],[bm .str],zU⟩
def afo:List (Nat×bY):=[(4,⟨[(0,aO),(3,aO),(4,aO)],[],[.drop]⟩),(7,⟨[(0,aO),(3,aO),(4,aO),(5,aO)],[],[.drop]⟩)]
def afp(k:Nat→an→Option ((List UInt8)×Unit)):vf:=⟨fun U aa af=>k 4 (bj [(0,aZ U),(3,e9 aa),(4,aZ af)] [] [.aD]),fun U aa af ai=>k 7 (bj [(0,aZ U),(3,e9 aa),(4,aZ af),(5,aZ ai)] [] [.aD])⟩
theorem afq:Sound Tryz.prog 174 0 UC:=cA bk (fn:=Tryz.f174) (fns:=[(93,kJ)]) ⟨lh,trivial⟩ (by kernel_rfl) (by kernel_rfl) afo afp SQ mO (fun k x=>SP k x.1) (by kernel_rfl) (fun _=>by kernel_rfl) (fun _=>rfl) (fun _ _=>by kernel_rfl) (fun _=>by kernel_rfl)
def FO:Entry:=⟨[aW (.sl (.int .i64))],[bm .str],qT⟩
def afr:List (Nat×bY):=[(3,⟨[(3,.cell (.ag 1)),(7,.cell (.b1 (.int .i64) [])),(8,aO),(9,aO)],[(1,.row .str .R)],[.drop]⟩)]
def afs(k:Nat→an→Option ((List UInt8)×Unit)):E9:=fun U aa af ai=>k 3 (bj [(3,.aV (.ag 1 none)),(7,hY (.int .i64) U),(8,aZ aa),(9,aZ af)] [(1,.row .str .R 0 ai)] [.aD])
theorem Mu:Sound Tryz.prog 151 0 FO:=cA bk (fn:=Tryz.f151) (fns:=[(172,Mt),(174,UC)]) ⟨UB,afq,trivial⟩ (by kernel_rfl) (by kernel_rfl) afr afs E_ vg (fun k x=>SR k x.1) (by kernel_rfl) (fun _=>by kernel_rfl) (fun _=>rfl) (fun _ _=>by kernel_rfl) (fun _=>by kernel_rfl)
def UD:Entry:=⟨[.«mut» aK cl cl],[bm aL],zW⟩
def aft:List (Nat×bY):=[(13,⟨[(2,.ptr 1),(7,.cell (.ag 2)),(73,.cell (.b1 aw [3])),(74,aO),(75,aO)],aA 1 aL .R []++[(2,.row .str .R),(3,.row I vj),(4,.var [.keep,.ag 3,.keep,.keep,.b1 (.int .i64) [],.keep,.keep,.keep,.keep,.keep,.keep])],[.ptr 4]⟩)]
def afu(k:Nat→an→Option (zV)):E':=fun U aa af ai ar aE=>k 13 (bj [(2,ax 1),(7,.aV (.ag 2 none)),(73,.aV (.b1 aw (pG [3]) none U)),(74,aZ aa),(75,aZ af)] (aC 1 aL .R [] ai++[(2,.row .str .R 0 ar),(3,.row I vj 0 aE.1.2.1),(4,.var 0 [.int .i64 aE.1.1,.ag 3 none,.int .i64 aE.2.1.1,.int .i64 aE.2.1.2.1,.b1 (.int .i64) [] none aE.2.1.2.2.1,.int .i64 aE.2.2.1.1,.str aE.2.2.1.2.1,.str aE.2.2.1.2.2.1,.int .i64 aE.2.2.1.2.2.2.1,.int .i64 aE.2.2.1.2.2.2.2.1,.str aE.2.2.1.2.2.2.2.2.1])]) [ax 4])
theorem afv:Sound Tryz.prog 146 0 UD:=cA bk (fn:=Tryz.f146) (fns:=[(54,sD),(60,Mh),(151,FO),(170,qZ),(171,xA),(172,Mt)]) ⟨vn,TU,Mu,sE,Ad,UB,trivial⟩ (by kernel_rfl) (by kernel_rfl) aft afu Fb qU (fun k x=>Fa k x.1) (by kernel_rfl) (fun _=>by kernel_rfl) (fun _=>rfl) (fun _ _=>by kernel_rfl) (fun _=>by kernel_rfl)
def UE:Entry:=⟨[ga ae,aW I],[bm (.int .i64)],Fg⟩
def afw:List (Nat×bY):=[(5,⟨[(0,.dk [] (r1 ae .R [] 0)),(5,aO),(16,.cell (.b1 aw [])),(17,aO),(18,aO)],[],[.drop,.drop]⟩)]
def afx(k:Nat→an→Option (Int×Unit)):Fc:=fun U aa af ai ar=>k 5 (bj [(0,.dk (pG []) (aV ae .R [] U 0) 0),(5,aZ aa),(16,hY aw af),(17,aZ ai),(18,aZ ar)] [] [.aD,.aD])
theorem afy:Sound Tryz.prog 57 0 UE:=cA bk (fn:=Tryz.f57) (fns:=[(59,Mr),(97,FH)]) ⟨Ur,Mf,trivial⟩ (by kernel_rfl) (by kernel_rfl) afw afx Ff sy (fun k x=>Fe k x.1 x.2.1) (by kernel_rfl) (fun _=>by kernel_rfl) (fun _=>rfl) (fun _ _=>by kernel_rfl) (fun _=>by kernel_rfl)
def UF:Entry:=⟨[.«mut» aK cl cl],[bm aL],zX⟩
theorem afz:Sound Tryz.prog 147 0 UF:=cL bk (fn:=Tryz.f147) (fns:=[(54,sD),(57,UE),(93,kJ),(151,FO),(170,qZ)]) ⟨vn,afy,lh,Mu,sE,trivial⟩ (by kernel_rfl) (by kernel_rfl) fun _=>by kernel_rfl
def UG:Entry:=⟨[.«mut» aK cl cl],[bm (.int .i64)],Fj⟩
def afA:List (Nat×bY):=[(8,⟨[(0,.ptr 1),(3,.opt 2)],aA 1 aK cl [],[.ptr 1]⟩)]
def afB(k:Nat→an→Option (Int×aK.D×Unit)):Fh:=fun U aa=>k 8 (bj [(0,ax 1),(3,.opt 2 U)] (aC 1 aK cl [] aa) [ax 1])
theorem afC:Sound Tryz.prog 148 0 UG:=cA bk (fn:=Tryz.f148) (fns:=[(93,kJ),(170,qZ),(173,FK)]) ⟨lh,sE,Mj,trivial⟩ (by kernel_rfl) (by kernel_rfl) afA afB Lv qV (fun k x=>Fi k x.1) (by kernel_rfl) (fun _=>by kernel_rfl) (fun _=>rfl) (fun _ _=>by kernel_rfl) (fun _=>by kernel_rfl)
def UH:Entry:=⟨[.«mut» aK cl cl],[bm (.int .i64)],Fm⟩
def afD:List (Nat×bY):=[(8,⟨[(0,.ptr 1),(3,.opt 2)],aA 1 aK cl [],[.ptr 1]⟩)]
def afE(k:Nat→an→Option (Int×aK.D×Unit)):Fk:=fun U aa=>k 8 (bj [(0,ax 1),(3,.opt 2 U)] (aC 1 aK cl [] aa) [ax 1])
theorem afF:Sound Tryz.prog 149 0 UH:=cA bk (fn:=Tryz.f149) (fns:=[(93,kJ),(170,qZ),(173,FK)]) ⟨lh,sE,Mj,trivial⟩ (by kernel_rfl) (by kernel_rfl) afD afE Lx qW (fun k x=>Fl k x.1) (by kernel_rfl) (fun _=>by kernel_rfl) (fun _=>rfl) (fun _ _=>by kernel_rfl) (fun _=>by kernel_rfl)
def UI:Entry:=⟨[.«mut» aK cl cl],[bm (.int .i64)],Fo⟩
theorem afG:Sound Tryz.prog 150 0 UI:=cL bk (fn:=Tryz.f150) (fns:=[(93,kJ),(170,qZ),(171,xA)]) ⟨lh,sE,Ad,trivial⟩ (by kernel_rfl) (by kernel_rfl) fun _=>by kernel_rfl
def UJ:Entry:=⟨[.«mut» aK cl cl],[bm (.int .i64)],Fq⟩
theorem afH:Sound Tryz.prog 152 0 UJ:=cL bk (fn:=Tryz.f152) (fns:=[(93,kJ),(163,xC),(170,qZ)]) ⟨lh,Ag,sE,trivial⟩ (by kernel_rfl) (by kernel_rfl) fun _=>by kernel_rfl
def UK:Entry:=⟨[.«mut» aK cl cl],[bm aL],Ft⟩
def afI:List (Nat×bY):=[(5,⟨[(0,.ptr 1),(2,.ptr 3)],aA 1 aK cl []++aA 3 aL .R [],[.ptr 1]⟩),(6,⟨[(0,.ptr 1),(2,.ptr 3),(7,aO)],aA 1 aK cl []++aA 3 aL .R [],[.ptr 1]⟩),(8,⟨[(0,.ptr 1),(2,.ptr 3)],aA 1 aK cl []++aA 3 aL .R [],[.ptr 1]⟩),(9,⟨[(0,.ptr 1),(2,.ptr 3),(7,aO)],aA 1 aK cl []++aA 3 aL .R [],[.ptr 1]⟩),(18,⟨[(0,.ptr 1),(2,.ptr 3)],aA 1 aK cl []++aA 3 aL .R [],[.ptr 1]⟩),(19,⟨[(0,.ptr 1),(2,.ptr 3),(7,aO)],aA 1 aK cl []++aA 3 aL .R [],[.ptr 1]⟩),(24,⟨[(0,.ptr 1),(2,.ptr 3),(7,aO)],aA 1 aK cl []++aA 3 aL .R [],[.ptr 1]⟩)]
def afJ(k:Nat→an→Option (kd)):nN:=⟨fun U aa=>k 5 (bj [(0,ax 1),(2,ax 3)] (aC 1 aK cl [] U++aC 3 aL .R [] aa) [ax 1]),fun U aa af=>k 6 (bj [(0,ax 1),(2,ax 3),(7,aZ U)] (aC 1 aK cl [] aa++aC 3 aL .R [] af) [ax 1]),fun U aa=>k 8 (bj [(0,ax 1),(2,ax 3)] (aC 1 aK cl [] U++aC 3 aL .R [] aa) [ax 1]),fun U aa af=>k 9 (bj [(0,ax 1),(2,ax 3),(7,aZ U)] (aC 1 aK cl [] aa++aC 3 aL .R [] af) [ax 1]),fun U aa=>k 18 (bj [(0,ax 1),(2,ax 3)] (aC 1 aK cl [] U++aC 3 aL .R [] aa) [ax 1]),fun U aa af=>k 19 (bj [(0,ax 1),(2,ax 3),(7,aZ U)] (aC 1 aK cl [] aa++aC 3 aL .R [] af) [ax 1]),fun U aa af=>k 24 (bj [(0,ax 1),(2,ax 3),(7,aZ U)] (aC 1 aK cl [] aa++aC 3 aL .R [] af) [ax 1])⟩
theorem afK:Sound Tryz.prog 104 0 UK:=cA bk (fn:=Tryz.f104) (fns:=[(54,sD),(98,FI),(139,Uk),(140,Uq),(141,Us),(142,Uu),(143,Uw),(144,Uz),(145,UA),(146,UD),(147,UF),(148,UG),(149,UH),(150,UI),(151,FO),(152,UJ)]) ⟨vn,Mg,ae3,afb,afc,afg,afh,afm,afn,afv,afz,afC,afF,afG,Mu,afH,trivial⟩ (by kernel_rfl) (by kernel_rfl) afI afJ SW LC (fun k x=>Fs k x.1) (by kernel_rfl) (fun _=>by kernel_rfl) (fun _=>rfl) (fun _ _=>by kernel_rfl) (fun _=>by kernel_rfl)
def UL:Entry:=⟨[aW ae,aW aH,aW aI],[ro ae,bm aL],LD⟩
theorem afL:Sound Tryz.prog 55 0 UL:=cL bk (fn:=Tryz.f55) (fns:=[(54,sD),(101,Ac),(102,T2),(103,T3),(104,UK)]) ⟨vn,FJ,aev,aey,afK,trivial⟩ (by kernel_rfl) (by kernel_rfl) fun _=>by kernel_rfl
def UM:Entry:=⟨[aW ae,aW aH,aW aI],[ro ae,bm aL],jg⟩
theorem afM:Sound Tryz.prog 15 0 UM:=cL bk (fn:=Tryz.f15) (fns:=[(53,TY),(54,sD),(55,UL)]) ⟨aen,vn,afL,trivial⟩ (by kernel_rfl) (by kernel_rfl) fun _=>by kernel_rfl
def UN:Entry:=⟨[aW ae,aW ae],[bm .bool],Fv⟩
def afN:List (Nat×bY):=[(4,⟨[(2,.ptr 1),(3,.ptr 2),(5,aO)],aA 1 ae .R []++aA 2 ae .R [],[.drop,.drop]⟩),(11,⟨[(2,.ptr 1),(3,.ptr 2),(5,aO),(6,.ptr 3),(7,.ptr 4),(8,aO)],aA 1 ae .R []++aA 2 ae .R []++aA 3 I .R []++aA 4 I .R [],[.drop,.drop]⟩)]
def afO(k:Nat→an→Option (Bool×Unit)):vh:=⟨fun U aa af=>k 4 (bj [(2,ax 1),(3,ax 2),(5,aZ U)] (aC 1 ae .R [] aa++aC 2 ae .R [] af) [.aD,.aD]),fun U aa af ai ar aE=>k 11 (bj [(2,ax 1),(3,ax 2),(5,aZ U),(6,ax 3),(7,ax 4),(8,aZ aa)] (aC 1 ae .R [] af++aC 2 ae .R [] ai++aC 3 I .R [] ar++aC 4 I .R [] aE) [.aD,.aD])⟩
theorem afP:Sound Tryz.prog 21 0 UN:=cA bk (fn:=Tryz.f21) (fns:=[]) trivial (by kernel_rfl) (by kernel_rfl) afN afO SZ pR (fun k x=>Fu k x.1 x.2.1) (by kernel_rfl) (fun _=>by kernel_rfl) (fun _=>rfl) (fun _ _=>by kernel_rfl) (fun _=>by kernel_rfl)
def UO:Entry:=⟨[aW ae,aW aH,aW aI],[bm ae,bm aL],xu⟩
theorem afQ:Sound Tryz.prog 13 0 UO:=cL bk (fn:=Tryz.f13) (fns:=[(11,Ma),(20,xw),(51,sB),(52,L7)]) ⟨TN,z7,vk,Ty,trivial⟩ (by kernel_rfl) (by kernel_rfl) fun _=>by kernel_rfl
def UP:Entry:=⟨[],[ro aH],oU⟩
theorem afR:Sound Tryz.prog 14 0 UP:=cL bk (fn:=Tryz.f14) (fns:=[]) trivial (by kernel_rfl) (by kernel_rfl) fun _=>by kernel_rfl
def UQ:Entry:=⟨[aW (.sl (.int .u8)),aW (.int .i64)],[bm (.int .i64)],LK⟩
theorem afS:Sound Tryz.prog 17 0 UQ:=cL bk (fn:=Tryz.f17) (fns:=[]) trivial (by kernel_rfl) (by kernel_rfl) fun _=>by kernel_rfl
def xD:Entry:=⟨[aW (.sl (.int .u8))],[bm .bool],S2⟩
def afT:List (Nat×bY):=[(20,⟨[(3,.ptr 1),(4,.ptr 3),(5,.ptr 5),(6,.ptr 6),(11,.ptr 8),(13,.ptr 9),(14,aO)],aA 1 ae ae.own []++aA 3 aH aH.own []++aA 5 aI .R []++aA 6 ae ae.own []++aA 8 aL .R []++aA 9 aL .R [],[.drop]⟩),(21,⟨[(3,.ptr 1),(4,.ptr 3),(5,.ptr 5),(6,.ptr 6),(11,.ptr 8),(13,.ptr 9),(15,.ptr 10),(16,.ptr 12)],aA 1 ae ae.own []++aA 3 aH aH.own []++aA 5 aI .R []++aA 6 ae ae.own []++aA 8 aL .R []++aA 9 aL .R []++aA 10 ae ae.own []++aA 12 aL .R [],[.drop]⟩),(22,⟨[(3,.ptr 1),(4,.ptr 3),(6,.ptr 5),(11,.ptr 7),(13,.ptr 8),(15,.ptr 9),(16,.ptr 11),(18,.ptr 12)],aA 1 ae ae.own []++aA 3 aH aH.own []++aA 5 ae ae.own []++aA 7 aL .R []++aA 8 aL .R []++aA 9 ae ae.own []++aA 11 aL .R []++aA 12 aL .R [],[.drop]⟩)]
def afU(k:Nat→an→Option (Bool×Unit)):sA:=⟨fun U aa af ai ar aE bb=>k 20 (bj [(3,ax 1),(4,ax 3),(5,ax 5),(6,ax 6),(11,ax 8),(13,ax 9),(14,aZ U)] (aC 1 ae ae.own [] aa++aC 3 aH aH.own [] af++aC 5 aI .R [] ai++aC 6 ae ae.own [] ar++aC 8 aL .R [] aE++aC 9 aL .R [] bb) [.aD]),fun U aa af ai ar aE bb bN=>k 21 (bj [(3,ax 1),(4,ax 3),(5,ax 5),(6,ax 6),(11,ax 8),(13,ax 9),(15,ax 10),(16,ax 12)] (aC 1 ae ae.own [] U++aC 3 aH aH.own [] aa++aC 5 aI .R [] af++aC 6 ae ae.own [] ai++aC 8 aL .R [] ar++aC 9 aL .R [] aE++aC 10 ae ae.own [] bb++aC 12 aL .R [] bN) [.aD]),fun U aa af ai ar aE bb bN=>k 22 (bj [(3,ax 1),(4,ax 3),(6,ax 5),(11,ax 7),(13,ax 8),(15,ax 9),(16,ax 11),(18,ax 12)] (aC 1 ae ae.own [] U++aC 3 aH aH.own [] aa++aC 5 ae ae.own [] af++aC 7 aL .R [] ai++aC 8 aL .R [] ar++aC 9 ae ae.own [] aE++aC 11 aL .R [] bb++aC 12 aL .R [] bN) [.aD])⟩
theorem afV:Sound Tryz.prog 5 0 xD:=cA bk (fn:=Tryz.f5) (fns:=[(9,S3),(10,TK),(11,Ma),(13,UO),(14,UP),(15,UM),(17,UQ),(20,xw),(21,UN)]) ⟨ab8,adK,TN,afQ,afR,afM,afS,z7,afP,trivial⟩ (by kernel_rfl) (by kernel_rfl) afT afU S1 vi (fun k x=>Fw k x.1) (by kernel_rfl) (fun _=>by kernel_rfl) (fun _=>rfl) (fun _ _=>by kernel_rfl) (fun _=>by kernel_rfl)
end
end Go.LM.kD
