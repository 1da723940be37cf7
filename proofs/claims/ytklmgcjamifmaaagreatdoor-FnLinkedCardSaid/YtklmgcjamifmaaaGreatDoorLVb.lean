/- Each function keeps its contract. Printed by a program. Conditions: each theorem's own hypotheses. -/
import Derived.Test.YtklmgcjamifmaaaGreatDoorLVa
import Derived.Test.YtklmgcjamifmaaaGreatDoorLLmd
import Derived.Test.YtklmgcjamifmaaaGreatDoorChecked
import Derived.Test.YtklmgcjamifmaaaGreatDoorLIn
set_option linter.unusedVariables false
set_option linter.unusedSimpArgs false
namespace Go.LM.kA
noncomputable section
open Go.Proofs
abbrev mO:a':=.S (.cons .R (.cons .R (.cons .R (.cons .R (.cons .R (.cons .R (.cons (.O .R) (.cons .R (.cons .R .nil)))))))))
abbrev acn:a':=.S (.cons .R (.cons (.O mO) .nil))
abbrev cl:a':=.S (.cons acn (.cons .R (.cons .R .nil)))
def tab:List (Nat×ad):=[(3,.int .i64),(4,.bool),(5,.int .u8),(9,.str),(22,.sl (.int .u8)),(24,.sl I),(26,af),(27,.sl (.int .i64)),(29,aI),(31,aH),(37,aG),(46,.sl ax),(48,I),(57,aV),(60,ax),(83,.sl .bool),(105,bq),(109,.sl .str),(120,aL)]
def l7:List Nat:=[15,16,17,76,88,118,122,177,190]
def eqs:List Nat:=[31,37,57,60]
theorem Hn:ta Tryz.prog tab=true:=by kernel_rfl
theorem Ho:tb Tryz.prog l7=true:=by kernel_rfl
theorem Hp:tc Tryz.prog tab eqs=true:=by kernel_rfl
theorem mix:Tryz.prog.follows .mixedOrders=true:=by kernel_rfl
def bk:ko Tryz.prog:=⟨tab,l7,eqs,Hn,Ho,Hp,mix⟩
set_option maxRecDepth 100000
def Tg:Entry:=⟨[aW (.sl (.int .u8))],[bp .bool],JQ⟩
theorem aco:Sound Tryz.prog 9 0 Tg:=cL bk (fn:=Tryz.f9) (fns:=[]) trivial (by kernel_rfl) (by kernel_rfl) fun _=>by kernel_rfl
def Th:Entry:=⟨[aW (.sl (.int .u8))],[.new bq .R],JR⟩
def acp:List (Nat×b0):=[(3,⟨[(0,.cell (.b2 (.int .u8) [])),(3,aM),(4,aM)],[],[.drop]⟩)]
def acq(k:Nat→an→Option (bq.D×Unit)):CN:=fun U aa ae=>k 3 (bj [(0,hV (.int .u8) U),(3,aZ aa),(4,aZ ae)] [] [.aD])
theorem acr:Sound Tryz.prog 40 0 Th:=cE bk (fn:=Tryz.f40) (fns:=[]) trivial (by kernel_rfl) (by kernel_rfl) acp acq wZ w1 (fun k x=>RT k x.1) (by kernel_rfl) (fun _=>by kernel_rfl) (fun _=>rfl) (fun _ _=>by kernel_rfl) (fun _=>by kernel_rfl)
def L6:Entry:=⟨[.«mut» bq .R .R],[bp (.int .i64)],qG⟩
theorem Ti:Sound Tryz.prog 105 0 L6:=cL bk (fn:=Tryz.f105) (fns:=[]) trivial (by kernel_rfl) (by kernel_rfl) fun _=>by kernel_rfl
def nR:Entry:=⟨[.«mut» bq .R .R,aW (.int .i64)],[bp (.int .i64)],gm⟩
theorem oY:Sound Tryz.prog 76 0 nR:=cL bk (fn:=Tryz.f76) (fns:=[(105,L6)]) ⟨Ti,trivial⟩ (by kernel_rfl) (by kernel_rfl) fun _=>by kernel_rfl
def xt:Entry:=⟨[.«mut» bq .R .R,aW (.int .i64)],[bp .bool],r6⟩
theorem z6:Sound Tryz.prog 63 0 xt:=cL bk (fn:=Tryz.f63) (fns:=[(76,nR)]) ⟨oY,trivial⟩ (by kernel_rfl) (by kernel_rfl) fun _=>by kernel_rfl
def L7:Entry:=⟨[],[ro af],y6⟩
theorem Tj:Sound Tryz.prog 12 0 L7:=cL bk (fn:=Tryz.f12) (fns:=[]) trivial (by kernel_rfl) (by kernel_rfl) fun _=>by kernel_rfl
def Tk:Entry:=⟨[],[bp af],JU⟩
theorem acs:Sound Tryz.prog 12 0 Tk:=cL bk (fn:=Tryz.f12) (fns:=[]) trivial (by kernel_rfl) (by kernel_rfl) fun _=>by kernel_rfl
def sC:Entry:=⟨[aW af],[.val af (.S (.cons .R (.cons (.O .R) .nil)))],lZ⟩
def acu:List (Nat×b0):=[(3,⟨[(1,.ptr 1),(2,.ptr 2),(3,.ptr 4),(4,aM)],aA 1 af .R []++aA 2 af af.own []++aA 4 af af.own [],[.drop]⟩)]
def acv(k:Nat→an→Option (af.D×Unit)):w2:=fun U aa ae ai=>k 3 (bj [(1,aw 1),(2,aw 2),(3,aw 4),(4,aZ U)] (aC 1 af .R [] aa++aC 2 af af.own [] ae++aC 4 af af.own [] ai) [.aD])
theorem vf:Sound Tryz.prog 51 0 sC:=cE bk (fn:=Tryz.f51) (fns:=[]) trivial (by kernel_rfl) (by kernel_rfl) acu acv y8 pJ (fun k x=>y7 k x.1) (by kernel_rfl) (fun _=>by kernel_rfl) (fun _=>rfl) (fun _ _=>by kernel_rfl) (fun _=>by kernel_rfl)
def Tl:Entry:=⟨[aW af],[ro af],y_⟩
def acw:List (Nat×b0):=[(3,⟨[(1,.ptr 1),(2,.ptr 2),(3,.ptr 4),(4,aM)],aA 1 af .R []++aA 2 af af.own []++aA 4 af af.own [],[.drop]⟩)]
def acx(k:Nat→an→Option (af.D×Unit)):w3:=fun U aa ae ai=>k 3 (bj [(1,aw 1),(2,aw 2),(3,aw 4),(4,aZ U)] (aC 1 af .R [] aa++aC 2 af af.own [] ae++aC 4 af af.own [] ai) [.aD])
theorem acy:Sound Tryz.prog 51 0 Tl:=cE bk (fn:=Tryz.f51) (fns:=[]) trivial (by kernel_rfl) (by kernel_rfl) acw acx JV y9 (fun k x=>RZ k x.1) (by kernel_rfl) (fun _=>by kernel_rfl) (fun _=>rfl) (fun _ _=>by kernel_rfl) (fun _=>by kernel_rfl)
def nS:Entry:=⟨[aW (.int .i64),aW (.int .i64),aW (.int .i64)],[bp .bool],eg⟩
theorem oZ:Sound Tryz.prog 45 0 nS:=cL bk (fn:=Tryz.f45) (fns:=[]) trivial (by kernel_rfl) (by kernel_rfl) fun _=>by kernel_rfl
def Tm:Entry:=⟨[aW aH],[bp .bool],JY⟩
def acz:List (Nat×b0):=[(5,⟨[(1,.ptr 1)],aA 1 aH .R [],[.drop]⟩)]
def acA(k:Nat→an→Option (Bool×Unit)):CO:=fun U=>k 5 (bj [(1,aw 1)] (aC 1 aH .R [] U) [.aD])
theorem acB:Sound Tryz.prog 85 0 Tm:=cE bk (fn:=Tryz.f85) (fns:=[(45,nS)]) ⟨oZ,trivial⟩ (by kernel_rfl) (by kernel_rfl) acz acA JX y' (fun k x=>CP k x.1) (by kernel_rfl) (fun _=>by kernel_rfl) (fun _=>rfl) (fun _ _=>by kernel_rfl) (fun _=>by kernel_rfl)
def FC:Entry:=⟨[aW (.int .u8)],[bp .bool],za⟩
theorem L8:Sound Tryz.prog 107 0 FC:=cL bk (fn:=Tryz.f107) (fns:=[]) trivial (by kernel_rfl) (by kernel_rfl) fun _=>by kernel_rfl
def L9:Entry:=⟨[aW .str],[bp .bool],zb⟩
def acC:List (Nat×b0):=[(4,⟨[(0,aM),(3,aM)],[],[.drop]⟩)]
def acD(k:Nat→an→Option (Bool×Unit)):CQ:=fun U aa=>k 4 (bj [(0,e6 U),(3,aZ aa)] [] [.aD])
theorem Tn:Sound Tryz.prog 81 0 L9:=cE bk (fn:=Tryz.f81) (fns:=[(45,nS),(107,FC)]) ⟨oZ,L8,trivial⟩ (by kernel_rfl) (by kernel_rfl) acC acD CS ue (fun k x=>CR k x.1) (by kernel_rfl) (fun _=>by kernel_rfl) (fun _=>rfl) (fun _ _=>by kernel_rfl) (fun _=>by kernel_rfl)
def z7:Entry:=⟨[aW aI],[bp .bool],w4⟩
def acE:List (Nat×b0):=[(4,⟨[(1,.ptr 1),(3,aM)],aA 1 aI .R [],[.drop]⟩)]
def acF(k:Nat→an→Option (Bool×Unit)):CT:=fun U aa=>k 4 (bj [(1,aw 1),(3,aZ U)] (aC 1 aI .R [] aa) [.aD])
theorem FD:Sound Tryz.prog 20 0 z7:=cE bk (fn:=Tryz.f20) (fns:=[(45,nS)]) ⟨oZ,trivial⟩ (by kernel_rfl) (by kernel_rfl) acE acF CV uf (fun k x=>CU k x.1) (by kernel_rfl) (fun _=>by kernel_rfl) (fun _=>rfl) (fun _ _=>by kernel_rfl) (fun _=>by kernel_rfl)
def L_:Entry:=⟨[aW aI,aW (.int .i64)],[bp .bool],uh⟩
def acG:List (Nat×b0):=[(5,⟨[(1,aM),(2,.ptr 1),(5,aM),(6,aM)],aA 1 aI .R [],[.drop,.drop]⟩)]
def acH(k:Nat→an→Option (Bool×Unit)):CW:=fun U aa ae ai=>k 5 (bj [(1,aZ U),(2,aw 1),(5,jI aa),(6,aZ ae)] (aC 1 aI .R [] ai) [.aD,.aD])
theorem To:Sound Tryz.prog 130 0 L_:=cE bk (fn:=Tryz.f130) (fns:=[(20,z7)]) ⟨FD,trivial⟩ (by kernel_rfl) (by kernel_rfl) acG acH CY ug (fun k x=>CX k x.1 x.2.1) (by kernel_rfl) (fun _=>by kernel_rfl) (fun _=>rfl) (fun _ _=>by kernel_rfl) (fun _=>by kernel_rfl)
def sD:Entry:=⟨[aW aI,aW I,aW (.int .i64)],[bp .bool],jL⟩
theorem vg:Sound Tryz.prog 109 0 sD:=cL bk (fn:=Tryz.f109) (fns:=[(20,z7),(45,nS),(130,L_)]) ⟨FD,oZ,To,trivial⟩ (by kernel_rfl) (by kernel_rfl) fun _=>by kernel_rfl
def L':Entry:=⟨[aW .str],[bp .bool],C2⟩
def acI:List (Nat×b0):=[(4,⟨[(0,aM),(3,aM)],[],[.drop]⟩)]
def acJ(k:Nat→an→Option (Bool×Unit)):CZ:=fun U aa=>k 4 (bj [(0,e6 U),(3,aZ aa)] [] [.aD])
theorem Tp:Sound Tryz.prog 64 0 L':=cE bk (fn:=Tryz.f64) (fns:=[(45,nS),(107,FC)]) ⟨oZ,L8,trivial⟩ (by kernel_rfl) (by kernel_rfl) acI acJ C1 ui (fun k x=>C0 k x.1) (by kernel_rfl) (fun _=>by kernel_rfl) (fun _=>rfl) (fun _ _=>by kernel_rfl) (fun _=>by kernel_rfl)
def pT:Entry:=⟨[aW af,aW (.int .i64)],[bp (.int .i64)],jM⟩
def acK:List (Nat×b0):=[(2,⟨[(1,aM),(2,.ptr 1),(5,aM)],aA 1 af .R [],[.drop,.drop]⟩)]
def acL(k:Nat→an→Option (Int×Unit)):C3:=fun U aa ae=>k 2 (bj [(1,aZ U),(2,aw 1),(5,aZ aa)] (aC 1 af .R [] ae) [.aD,.aD])
theorem q6:Sound Tryz.prog 83 0 pT:=cE bk (fn:=Tryz.f83) (fns:=[]) trivial (by kernel_rfl) (by kernel_rfl) acK acL C5 uj (fun k x=>C4 k x.1 x.2.1) (by kernel_rfl) (fun _=>by kernel_rfl) (fun _=>rfl) (fun _ _=>by kernel_rfl) (fun _=>by kernel_rfl)
def Tq:Entry:=⟨[aW .str],[ro (.sl .str)],w5⟩
def acM:List (Nat×b0):=[(4,⟨[(0,aM),(3,.cell (.ag 1)),(4,aM),(5,aM)],[(1,.row .str .R)],[.drop]⟩)]
def acN(k:Nat→an→Option (zc)):C6:=fun U aa ae ai=>k 4 (bj [(0,e6 U),(3,.aU (.ag 1 none)),(4,aZ aa),(5,aZ ae)] [(1,.row .str .R 0 ai)] [.aD])
theorem acO:Sound Tryz.prog 108 0 Tq:=cE bk (fn:=Tryz.f108) (fns:=[]) trivial (by kernel_rfl) (by kernel_rfl) acM acN zd qH (fun k x=>C7 k x.1) (by kernel_rfl) (fun _=>by kernel_rfl) (fun _=>rfl) (fun _ _=>by kernel_rfl) (fun _=>by kernel_rfl)
def Ma:Entry:=⟨[aW af,aW (.int .i64)],[bp (.int .i64)],C9⟩
def acP:List (Nat×b0):=[(2,⟨[(1,aM),(2,.ptr 1),(5,aM)],aA 1 af .R [],[.drop,.drop]⟩),(5,⟨[(1,aM),(2,.ptr 1),(5,aM),(6,aM)],aA 1 af .R [],[.drop,.drop]⟩)]
def acQ(k:Nat→an→Option (Int×Unit)):uk:=⟨fun U aa ae=>k 2 (bj [(1,aZ U),(2,aw 1),(5,aZ aa)] (aC 1 af .R [] ae) [.aD,.aD]),fun U aa ae ai=>k 5 (bj [(1,aZ U),(2,aw 1),(5,aZ aa),(6,aZ ae)] (aC 1 af .R [] ai) [.aD,.aD])⟩
theorem Tr:Sound Tryz.prog 110 0 Ma:=cE bk (fn:=Tryz.f110) (fns:=[]) trivial (by kernel_rfl) (by kernel_rfl) acP acQ R0 kB (fun k x=>C8 k x.1 x.2.1) (by kernel_rfl) (fun _=>by kernel_rfl) (fun _=>rfl) (fun _ _=>by kernel_rfl) (fun _=>by kernel_rfl)
def Ts:Entry:=⟨[aW af,aW (.int .i64),aW .str],[bp (.int .i64)],J1⟩
def acR:List (Nat×b0):=[(3,⟨[(2,aM),(7,.cell (.b2 ax [])),(8,aM)],[],[.drop,.drop,.drop]⟩)]
def acS(k:Nat→an→Option (Int×Unit)):C_:=fun U aa ae=>k 3 (bj [(2,e6 U),(7,hV ax aa),(8,aZ ae)] [] [.aD,.aD,.aD])
theorem acT:Sound Tryz.prog 111 0 Ts:=cE bk (fn:=Tryz.f111) (fns:=[(83,pT)]) ⟨q6,trivial⟩ (by kernel_rfl) (by kernel_rfl) acR acS Da r7 (fun k x=>C' k x.1 x.2.1 x.2.2.1) (by kernel_rfl) (fun _=>by kernel_rfl) (fun _=>rfl) (fun _ _=>by kernel_rfl) (fun _=>by kernel_rfl)
def Mb:Entry:=⟨[aW af,aW aI,aW .str,aW .bool],[bp aV],Db⟩
def acU:List (Nat×b0):=[(4,⟨[(3,aM),(4,.ptr 1),(5,.ptr 2),(8,.ptr 3),(9,.cell (.au 4)),(10,aM),(11,aM)],aA 1 af .R []++aA 2 aI .R []++aA 3 aV .R []++[(4,.row .str .R)],[.drop,.drop,.drop,.drop]⟩),(21,⟨[(3,aM),(4,.ptr 1),(5,.ptr 2),(8,.ptr 3),(9,.cell (.au 4)),(10,aM),(11,aM),(12,aM),(13,aM),(14,aM),(15,.ptr 5)],aA 1 af .R []++aA 2 aI .R []++aA 3 aV .R []++[(4,.row .str .R)]++aA 5 I .R [],[.drop,.drop,.drop,.drop]⟩),(22,⟨[(3,aM),(4,.ptr 1),(5,.ptr 2),(8,.ptr 3),(9,.cell (.au 4)),(10,aM),(11,aM),(15,.ptr 5)],aA 1 af .R []++aA 2 aI .R []++aA 3 aV .R []++[(4,.row .str .R)]++aA 5 I .R [],[.drop,.drop,.drop,.drop]⟩),(30,⟨[(3,aM),(4,.ptr 1),(5,.ptr 2),(8,.ptr 3),(9,.cell (.au 4)),(10,aM),(11,aM),(12,aM),(13,aM),(14,aM),(15,.ptr 5)],aA 1 af .R []++aA 2 aI .R []++aA 3 aV .R []++[(4,.row .str .R)]++aA 5 I .R [],[.drop,.drop,.drop,.drop]⟩),(27,⟨[(3,aM),(4,.ptr 1),(5,.ptr 2),(8,.ptr 3),(9,.cell (.au 4)),(10,aM),(11,aM),(15,.ptr 5)],aA 1 af .R []++aA 2 aI .R []++aA 3 aV .R []++[(4,.row .str .R)]++aA 5 I .R [],[.drop,.drop,.drop,.drop]⟩)]
def acV(k:Nat→an→Option (aV.D×Unit)):pK:=⟨fun U aa ae ai aq aE bh bW cB=>k 4 (bj [(3,jI U),(4,aw 1),(5,aw 2),(8,aw 3),(9,.aU (.ag 4 (some (aa,ae)))),(10,aZ ai),(11,aZ aq)] (aC 1 af .R [] aE++aC 2 aI .R [] bh++aC 3 aV .R [] bW++[(4,.row .str .R 0 cB)]) [.aD,.aD,.aD,.aD]),fun U aa ae ai aq aE bh bW cB fb kC kD j7=>k 21 (bj [(3,jI U),(4,aw 1),(5,aw 2),(8,aw 3),(9,.aU (.ag 4 (some (aa,ae)))),(10,aZ ai),(11,aZ aq),(12,e6 aE),(13,jI bh),(14,aZ bW),(15,aw 5)] (aC 1 af .R [] cB++aC 2 aI .R [] fb++aC 3 aV .R [] kC++[(4,.row .str .R 0 kD)]++aC 5 I .R [] j7) [.aD,.aD,.aD,.aD]),fun U aa ae ai aq aE bh bW cB fb=>k 22 (bj [(3,jI U),(4,aw 1),(5,aw 2),(8,aw 3),(9,.aU (.ag 4 (some (aa,ae)))),(10,aZ ai),(11,aZ aq),(15,aw 5)] (aC 1 af .R [] aE++aC 2 aI .R [] bh++aC 3 aV .R [] bW++[(4,.row .str .R 0 cB)]++aC 5 I .R [] fb) [.aD,.aD,.aD,.aD]),fun U aa ae ai aq aE bh bW cB fb kC kD j7=>k 30 (bj [(3,jI U),(4,aw 1),(5,aw 2),(8,aw 3),(9,.aU (.ag 4 (some (aa,ae)))),(10,aZ ai),(11,aZ aq),(12,e6 aE),(13,jI bh),(14,aZ bW),(15,aw 5)] (aC 1 af .R [] cB++aC 2 aI .R [] fb++aC 3 aV .R [] kC++[(4,.row .str .R 0 kD)]++aC 5 I .R [] j7) [.aD,.aD,.aD,.aD]),fun U aa ae ai aq aE bh bW cB fb=>k 27 (bj [(3,jI U),(4,aw 1),(5,aw 2),(8,aw 3),(9,.aU (.ag 4 (some (aa,ae)))),(10,aZ ai),(11,aZ aq),(15,aw 5)] (aC 1 af .R [] aE++aC 2 aI .R [] bh++aC 3 aV .R [] bW++[(4,.row .str .R 0 cB)]++aC 5 I .R [] fb) [.aD,.aD,.aD,.aD])⟩
theorem Tt:Sound Tryz.prog 65 0 Mb:=cE bk (fn:=Tryz.f65) (fns:=[(83,pT),(108,Tq),(109,sD),(110,Ma),(111,Ts)]) ⟨q6,acO,vg,Tr,acT,trivial⟩ (by kernel_rfl) (by kernel_rfl) acU acV R1 df (fun k x=>w6 k x.1 x.2.1 x.2.2.1 x.2.2.2.1) (by kernel_rfl) (fun _=>by kernel_rfl) (fun _=>rfl) (fun _ _=>by kernel_rfl) (fun _=>by kernel_rfl)
def Mc:Entry:=⟨[aW af,aW aI,aW .str],[bp aV,bp (.int .i64)],qI⟩
theorem Tu:Sound Tryz.prog 119 0 Mc:=cL bk (fn:=Tryz.f119) (fns:=[(64,L'),(65,Mb)]) ⟨Tp,Tt,trivial⟩ (by kernel_rfl) (by kernel_rfl) fun _=>by kernel_rfl
def pU:Entry:=⟨[aW af,aW (.int .i64)],[bp I],eW⟩
theorem q7:Sound Tryz.prog 120 0 pU:=cL bk (fn:=Tryz.f120) (fns:=[(83,pT)]) ⟨q6,trivial⟩ (by kernel_rfl) (by kernel_rfl) fun _=>by kernel_rfl
def FE:Entry:=⟨[aW af],[bp (.int .i64)],zh⟩
def acW:List (Nat×b0):=[(3,⟨[(1,.ptr 1),(3,aM),(4,aM)],aA 1 af .R [],[.drop]⟩)]
def acX(k:Nat→an→Option (Int×Unit)):Dc:=fun U aa ae=>k 3 (bj [(1,aw 1),(3,aZ U),(4,aZ aa)] (aC 1 af .R [] ae) [.aD])
theorem Md:Sound Tryz.prog 49 0 FE:=cE bk (fn:=Tryz.f49) (fns:=[]) trivial (by kernel_rfl) (by kernel_rfl) acW acX De uu (fun k x=>Dd k x.1) (by kernel_rfl) (fun _=>by kernel_rfl) (fun _=>rfl) (fun _ _=>by kernel_rfl) (fun _=>by kernel_rfl)
def Me:Entry:=⟨[aW af,aW (.int .i64)],[ro (.sl .bool)],Dg⟩
def acY:List (Nat×b0):=[(8,⟨[(2,.ptr 1),(5,.cell (.ag 2)),(6,.cell (.ag 3)),(8,aM)],aA 1 af .R []++[(2,.row .bool .R),(3,.row .bool .R)],[.drop,.drop]⟩),(11,⟨[(2,.ptr 1),(5,.cell (.ag 2)),(6,.cell (.ag 3)),(8,aM),(9,aM)],aA 1 af .R []++[(2,.row .bool .R),(3,.row .bool .R)],[.drop,.drop]⟩),(15,⟨[(2,.ptr 1),(5,.cell (.ag 2)),(6,.cell (.ag 3)),(8,aM),(9,aM),(10,aM)],aA 1 af .R []++[(2,.row .bool .R),(3,.row .bool .R)],[.drop,.drop]⟩)]
def acZ(k:Nat→an→Option ((List Bool)×Unit)):qJ:=⟨fun U aa ae ai=>k 8 (bj [(2,aw 1),(5,.aU (.ag 2 none)),(6,.aU (.ag 3 none)),(8,aZ U)] (aC 1 af .R [] aa++[(2,.row .bool .R 0 ae),(3,.row .bool .R 0 ai)]) [.aD,.aD]),fun U aa ae ai aq=>k 11 (bj [(2,aw 1),(5,.aU (.ag 2 none)),(6,.aU (.ag 3 none)),(8,aZ U),(9,aZ aa)] (aC 1 af .R [] ae++[(2,.row .bool .R 0 ai),(3,.row .bool .R 0 aq)]) [.aD,.aD]),fun U aa ae ai aq aE=>k 15 (bj [(2,aw 1),(5,.aU (.ag 2 none)),(6,.aU (.ag 3 none)),(8,aZ U),(9,aZ aa),(10,aZ ae)] (aC 1 af .R [] ai++[(2,.row .bool .R 0 aq),(3,.row .bool .R 0 aE)]) [.aD,.aD])⟩
theorem Tv:Sound Tryz.prog 47 0 Me:=cE bk (fn:=Tryz.f47) (fns:=[(83,pT)]) ⟨q6,trivial⟩ (by kernel_rfl) (by kernel_rfl) acY acZ R2 j8 (fun k x=>Df k x.1 x.2.1) (by kernel_rfl) (fun _=>by kernel_rfl) (fun _=>rfl) (fun _ _=>by kernel_rfl) (fun _=>by kernel_rfl)
def Mf:Entry:=⟨[aW af,aW (.int .i64)],[bp (.int .i64),bp (.int .i64)],zk⟩
def ac0:List (Nat×b0):=[(5,⟨[(2,.ptr 1),(6,.cell (.ag 2)),(7,aM),(8,aM),(9,aM)],aA 1 af .R []++[(2,.row .bool .R)],[.drop,.drop]⟩)]
def ac1(k:Nat→an→Option (Int×Int×Unit)):Dh:=fun U aa ae ai aq=>k 5 (bj [(2,aw 1),(6,.aU (.ag 2 none)),(7,aZ U),(8,aZ aa),(9,aZ ae)] (aC 1 af .R [] ai++[(2,.row .bool .R 0 aq)]) [.aD,.aD])
theorem Tw:Sound Tryz.prog 84 0 Mf:=cE bk (fn:=Tryz.f84) (fns:=[(47,Me)]) ⟨Tv,trivial⟩ (by kernel_rfl) (by kernel_rfl) ac0 ac1 Dj uw (fun k x=>Di k x.1 x.2.1) (by kernel_rfl) (fun _=>by kernel_rfl) (fun _=>rfl) (fun _ _=>by kernel_rfl) (fun _=>by kernel_rfl)
def Mg:Entry:=⟨[aW af],[bp .bool],Dl⟩
def ac2:List (Nat×b0):=[(2,⟨[(1,.ptr 1),(3,aM)],aA 1 af .R [],[.drop]⟩),(6,⟨[(1,.ptr 1),(3,aM),(4,.ptr 2)],aA 1 af .R []++aA 2 I .R [],[.drop]⟩)]
def ac3(k:Nat→an→Option (Bool×Unit)):ux:=⟨fun U aa=>k 2 (bj [(1,aw 1),(3,aZ U)] (aC 1 af .R [] aa) [.aD]),fun U aa ae=>k 6 (bj [(1,aw 1),(3,aZ U),(4,aw 2)] (aC 1 af .R [] aa++aC 2 I .R [] ae) [.aD])⟩
theorem Tx:Sound Tryz.prog 50 0 Mg:=cE bk (fn:=Tryz.f50) (fns:=[(84,Mf)]) ⟨Tw,trivial⟩ (by kernel_rfl) (by kernel_rfl) ac2 ac3 R3 j9 (fun k x=>Dk k x.1) (by kernel_rfl) (fun _=>by kernel_rfl) (fun _=>rfl) (fun _ _=>by kernel_rfl) (fun _=>by kernel_rfl)
def Ty:Entry:=⟨[aW af],[bp (.int .i64)],J6⟩
theorem ac4:Sound Tryz.prog 156 0 Ty:=cL bk (fn:=Tryz.f156) (fns:=[(49,FE),(50,Mg)]) ⟨Md,Tx,trivial⟩ (by kernel_rfl) (by kernel_rfl) fun _=>by kernel_rfl
def xu:Entry:=⟨[aW af,.val af (.S (.cons .R (.cons (.O .R) .nil)))],[bp af,bp aG],qL⟩
theorem z8:Sound Tryz.prog 121 0 xu:=cL bk (fn:=Tryz.f121) (fns:=[(156,Ty)]) ⟨ac4,trivial⟩ (by kernel_rfl) (by kernel_rfl) fun _=>by kernel_rfl
def xv:Entry:=⟨[.val af (.S (.cons .R (.cons (.O .R) .nil))),CI I],[.val af (.S (.cons .R (.cons (.O .R) .nil)))],oK⟩
theorem z_:Sound Tryz.prog 123 0 xv:=cL bk (fn:=Tryz.f123) (fns:=[(83,pT)]) ⟨q6,trivial⟩ (by kernel_rfl) (by kernel_rfl) fun _=>by kernel_rfl
def FF:Entry:=⟨[.val af (.S (.cons .R (.cons (.O .R) .nil))),aW (.int .i64),aW .str,aW (.int .i64)],[.val af (.S (.cons .R (.cons (.O .R) .nil)))],r_⟩
def ac5:List (Nat×b0):=[(5,⟨[(2,aM),(3,aM),(4,.ptr 1),(8,.ptr 3),(9,.ptr 5),(10,.cell (.ag 6)),(11,aM),(12,aM)],aA 1 af (.S (.cons .R (.cons (.O .R) .nil))) []++aA 3 af af.own []++aA 5 I .R [2]++[(6,.row ax .R)],[.drop,.drop,.drop,.drop]⟩),(10,⟨[(2,aM),(3,aM),(4,.ptr 1),(8,.ptr 3),(9,.ptr 5),(10,.cell (.ag 6)),(11,aM),(12,aM)],aA 1 af (.S (.cons .R (.cons (.O .R) .nil))) []++aA 3 af af.own []++aA 5 I .R [2]++[(6,.row ax .R)],[.drop,.drop,.drop,.drop]⟩),(13,⟨[(4,.ptr 1),(8,.ptr 3),(9,.ptr 5),(10,.cell (.ag 6))],aA 1 af (.S (.cons .R (.cons (.O .R) .nil))) []++aA 3 af af.own []++aA 5 I .R [2]++[(6,.row ax .R)],[.drop,.drop,.drop,.drop]⟩)]
def ac6(k:Nat→an→Option (af.D×Unit)):r9:=⟨fun U aa ae ai aq aE bh bW=>k 5 (bj [(2,e6 U),(3,aZ aa),(4,aw 1),(8,aw 3),(9,aw 5),(10,.aU (.ag 6 none)),(11,jI ae),(12,aZ ai)] (aC 1 af (.S (.cons .R (.cons (.O .R) .nil))) [] aq++aC 3 af af.own [] aE++aC 5 I .R [2] bh++[(6,.row ax .R 0 bW)]) [.aD,.aD,.aD,.aD]),fun U aa ae ai aq aE bh bW=>k 10 (bj [(2,e6 U),(3,aZ aa),(4,aw 1),(8,aw 3),(9,aw 5),(10,.aU (.ag 6 none)),(11,jI ae),(12,aZ ai)] (aC 1 af (.S (.cons .R (.cons (.O .R) .nil))) [] aq++aC 3 af af.own [] aE++aC 5 I .R [2] bh++[(6,.row ax .R 0 bW)]) [.aD,.aD,.aD,.aD]),fun U aa ae ai=>k 13 (bj [(4,aw 1),(8,aw 3),(9,aw 5),(10,.aU (.ag 6 none))] (aC 1 af (.S (.cons .R (.cons (.O .R) .nil))) [] U++aC 3 af af.own [] aa++aC 5 I .R [2] ae++[(6,.row ax .R 0 ai)]) [.aD,.aD,.aD,.aD])⟩
theorem Mh:Sound Tryz.prog 122 0 FF:=cE bk (fn:=Tryz.f122) (fns:=[(120,pU),(123,xv)]) ⟨q7,z_,trivial⟩ (by kernel_rfl) (by kernel_rfl) ac5 ac6 R5 iG (fun k x=>Dm k x.1 x.2.1 x.2.2.1 x.2.2.2.1) (by kernel_rfl) (fun _=>by kernel_rfl) (fun _=>rfl) (fun _ _=>by kernel_rfl) (fun _=>by kernel_rfl)
def Tz:Entry:=⟨[CI af,aW aI,aW aH],[bp af,bp aG],r'⟩
def ac7:List (Nat×b0):=[(3,⟨[(3,.ptr 1),(4,.ptr 2),(5,.ptr 3),(6,.ptr 4),(7,.ptr 6)],aA 1 af .R []++aA 2 aI .R []++aA 3 aH .R []++aA 4 af af.own []++aA 6 aG .R [],[.drop,.drop,.drop]⟩),(14,⟨[(3,.ptr 1),(5,.ptr 2),(6,.ptr 3),(7,.ptr 5),(8,.ptr 6),(10,.ptr 7),(11,.ptr 8)],aA 1 af .R []++aA 2 aH .R []++aA 3 af af.own []++aA 5 aG .R []++aA 6 aV .R []++aA 7 I .R []++aA 8 I I.own [],[.drop,.drop,.drop]⟩),(18,⟨[(3,.ptr 1),(6,.ptr 2),(7,.ptr 4),(8,.ptr 5),(10,.ptr 6),(11,.ptr 7)],aA 1 af .R []++aA 2 af af.own []++aA 4 aG .R []++aA 5 aV .R []++aA 6 I .R []++aA 7 I I.own [],[.drop,.drop,.drop]⟩),(22,⟨[(3,.ptr 1),(6,.ptr 2),(7,.ptr 4),(8,.ptr 5),(11,.ptr 6)],aA 1 af .R []++aA 2 af af.own []++aA 4 aG .R []++aA 5 aV .R []++aA 6 I I.own [],[.drop,.drop,.drop]⟩)]
def ac8(k:Nat→an→Option (oM)):qM:=⟨fun U aa ae ai aq=>k 3 (bj [(3,aw 1),(4,aw 2),(5,aw 3),(6,aw 4),(7,aw 6)] (aC 1 af .R [] U++aC 2 aI .R [] aa++aC 3 aH .R [] ae++aC 4 af af.own [] ai++aC 6 aG .R [] aq) [.aD,.aD,.aD]),fun U aa ae ai aq aE bh=>k 14 (bj [(3,aw 1),(5,aw 2),(6,aw 3),(7,aw 5),(8,aw 6),(10,aw 7),(11,aw 8)] (aC 1 af .R [] U++aC 2 aH .R [] aa++aC 3 af af.own [] ae++aC 5 aG .R [] ai++aC 6 aV .R [] aq++aC 7 I .R [] aE++aC 8 I I.own [] bh) [.aD,.aD,.aD]),fun U aa ae ai aq aE=>k 18 (bj [(3,aw 1),(6,aw 2),(7,aw 4),(8,aw 5),(10,aw 6),(11,aw 7)] (aC 1 af .R [] U++aC 2 af af.own [] aa++aC 4 aG .R [] ae++aC 5 aV .R [] ai++aC 6 I .R [] aq++aC 7 I I.own [] aE) [.aD,.aD,.aD]),fun U aa ae ai aq=>k 22 (bj [(3,aw 1),(6,aw 2),(7,aw 4),(8,aw 5),(11,aw 6)] (aC 1 af .R [] U++aC 2 af af.own [] aa++aC 4 aG .R [] ae++aC 5 aV .R [] ai++aC 6 I I.own [] aq) [.aD,.aD,.aD])⟩
theorem ac9:Sound Tryz.prog 86 0 Tz:=cE bk (fn:=Tryz.f86) (fns:=[(45,nS),(51,sC),(81,L9),(109,sD),(119,Mc),(120,pU),(121,xu),(122,FF),(123,xv)]) ⟨oZ,vf,Tn,vg,Tu,q7,z8,Mh,z_,trivial⟩ (by kernel_rfl) (by kernel_rfl) ac7 ac8 R6 iH (fun k x=>w7 k x.1 x.2.1 x.2.2.1) (by kernel_rfl) (fun _=>by kernel_rfl) (fun _=>rfl) (fun _ _=>by kernel_rfl) (fun _=>by kernel_rfl)
def vh:Entry:=⟨[aW af,aW aI,aW .str,aW .bool],[bp aV],dX⟩
theorem xw:Sound Tryz.prog 124 0 vh:=cL bk (fn:=Tryz.f124) (fns:=[(64,L'),(65,Mb)]) ⟨Tp,Tt,trivial⟩ (by kernel_rfl) (by kernel_rfl) fun _=>by kernel_rfl
def Mi:Entry:=⟨[aW aI,aW I,aW I],[bp .bool],w8⟩
theorem TA:Sound Tryz.prog 125 0 Mi:=cL bk (fn:=Tryz.f125) (fns:=[(20,z7)]) ⟨FD,trivial⟩ (by kernel_rfl) (by kernel_rfl) fun _=>by kernel_rfl
def FG:Entry:=⟨[aW af,aW (.int .i64)],[bp (.int .i64)],zr⟩
def ac_:List (Nat×b0):=[(3,⟨[(1,aM),(2,.ptr 1),(5,aM),(6,aM)],aA 1 af .R [],[.drop,.drop]⟩),(6,⟨[(1,aM),(2,.ptr 1),(5,aM),(6,aM),(7,aM)],aA 1 af .R [],[.drop,.drop]⟩)]
def ac'(k:Nat→an→Option (Int×Unit)):uz:=⟨fun U aa ae ai=>k 3 (bj [(1,aZ U),(2,aw 1),(5,aZ aa),(6,aZ ae)] (aC 1 af .R [] ai) [.aD,.aD]),fun U aa ae ai aq=>k 6 (bj [(1,aZ U),(2,aw 1),(5,aZ aa),(6,aZ ae),(7,aZ ai)] (aC 1 af .R [] aq) [.aD,.aD])⟩
theorem Mj:Sound Tryz.prog 48 0 FG:=cE bk (fn:=Tryz.f48) (fns:=[]) trivial (by kernel_rfl) (by kernel_rfl) ac_ ac' R7 pL (fun k x=>Dn k x.1 x.2.1) (by kernel_rfl) (fun _=>by kernel_rfl) (fun _=>rfl) (fun _ _=>by kernel_rfl) (fun _=>by kernel_rfl)
def Mk:Entry:=⟨[.val af (.S (.cons .R (.cons (.O .R) .nil))),aW (.int .i64),aW .str],[.val af (.S (.cons .R (.cons (.O .R) .nil)))],nF⟩
def ada:List (Nat×b0):=[(5,⟨[(2,aM),(3,.ptr 1),(6,.ptr 3),(7,.ptr 5),(8,aM),(9,.cell (.ag 6)),(10,aM)],aA 1 af (.S (.cons .R (.cons (.O .R) .nil))) []++aA 3 af af.own []++aA 5 I .R [2]++[(6,.row ax .R)],[.drop,.drop,.drop]⟩),(16,⟨[(3,.ptr 1),(6,.ptr 3),(8,aM),(11,.cell (.ag 5)),(12,aM)],aA 1 af (.S (.cons .R (.cons (.O .R) .nil))) []++aA 3 af af.own []++[(5,.row I .R)],[.drop,.drop,.drop]⟩)]
def adb(k:Nat→an→Option (af.D×Unit)):uA:=⟨fun U aa ae ai aq aE bh=>k 5 (bj [(2,e6 U),(3,aw 1),(6,aw 3),(7,aw 5),(8,aZ aa),(9,.aU (.ag 6 none)),(10,aZ ae)] (aC 1 af (.S (.cons .R (.cons (.O .R) .nil))) [] ai++aC 3 af af.own [] aq++aC 5 I .R [2] aE++[(6,.row ax .R 0 bh)]) [.aD,.aD,.aD]),fun U aa ae ai aq=>k 16 (bj [(3,aw 1),(6,aw 3),(8,aZ U),(11,.aU (.ag 5 none)),(12,aZ aa)] (aC 1 af (.S (.cons .R (.cons (.O .R) .nil))) [] ae++aC 3 af af.own [] ai++[(5,.row I .R 0 aq)]) [.aD,.aD,.aD])⟩
theorem TB:Sound Tryz.prog 126 0 Mk:=cE bk (fn:=Tryz.f126) (fns:=[(48,FG),(120,pU),(123,xv)]) ⟨Mj,q7,z_,trivial⟩ (by kernel_rfl) (by kernel_rfl) ada adb R8 k5 (fun k x=>Dp k x.1 x.2.1 x.2.2.1) (by kernel_rfl) (fun _=>by kernel_rfl) (fun _=>rfl) (fun _ _=>by kernel_rfl) (fun _=>by kernel_rfl)
def TC:Entry:=⟨[aW af,aW aI,aW aH],[bp af,bp aG],w_⟩
def ade:List (Nat×b0):=[(7,⟨[(3,.ptr 1),(4,.ptr 2),(5,.ptr 3),(6,.ptr 4),(7,.ptr 6),(8,.ptr 7),(9,.ptr 8)],aA 1 af .R []++aA 2 aI .R []++aA 3 aH .R []++aA 4 af af.own []++aA 6 aG .R []++aA 7 aV .R []++aA 8 I .R [],[.drop,.drop,.drop]⟩),(9,⟨[(3,.ptr 1),(4,.ptr 2),(5,.ptr 3),(6,.ptr 4),(7,.ptr 6),(8,.ptr 7),(9,.ptr 8)],aA 1 af .R []++aA 2 aI .R []++aA 3 aH .R []++aA 4 af af.own []++aA 6 aG .R []++aA 7 aV .R []++aA 8 I .R [],[.drop,.drop,.drop]⟩),(11,⟨[(3,.ptr 1),(4,.ptr 2),(6,.ptr 3),(7,.ptr 5),(8,.ptr 6),(9,.ptr 7)],aA 1 af .R []++aA 2 aI .R []++aA 3 af af.own []++aA 5 aG .R []++aA 6 aV .R []++aA 7 I .R [],[.drop,.drop,.drop]⟩)]
def adf(k:Nat→an→Option (qN)):sa:=⟨fun U aa ae ai aq aE bh=>k 7 (bj [(3,aw 1),(4,aw 2),(5,aw 3),(6,aw 4),(7,aw 6),(8,aw 7),(9,aw 8)] (aC 1 af .R [] U++aC 2 aI .R [] aa++aC 3 aH .R [] ae++aC 4 af af.own [] ai++aC 6 aG .R [] aq++aC 7 aV .R [] aE++aC 8 I .R [] bh) [.aD,.aD,.aD]),fun U aa ae ai aq aE bh=>k 9 (bj [(3,aw 1),(4,aw 2),(5,aw 3),(6,aw 4),(7,aw 6),(8,aw 7),(9,aw 8)] (aC 1 af .R [] U++aC 2 aI .R [] aa++aC 3 aH .R [] ae++aC 4 af af.own [] ai++aC 6 aG .R [] aq++aC 7 aV .R [] aE++aC 8 I .R [] bh) [.aD,.aD,.aD]),fun U aa ae ai aq aE=>k 11 (bj [(3,aw 1),(4,aw 2),(6,aw 3),(7,aw 5),(8,aw 6),(9,aw 7)] (aC 1 af .R [] U++aC 2 aI .R [] aa++aC 3 af af.own [] ae++aC 5 aG .R [] ai++aC 6 aV .R [] aq++aC 7 I .R [] aE) [.aD,.aD,.aD])⟩
theorem adg:Sound Tryz.prog 87 0 TC:=cE bk (fn:=Tryz.f87) (fns:=[(51,sC),(109,sD),(120,pU),(124,vh),(125,Mi),(126,Mk)]) ⟨vf,vg,q7,xw,TA,TB,trivial⟩ (by kernel_rfl) (by kernel_rfl) ade adf R9 k6 (fun k x=>w9 k x.1 x.2.1 x.2.2.1) (by kernel_rfl) (fun _=>by kernel_rfl) (fun _=>rfl) (fun _ _=>by kernel_rfl) (fun _=>by kernel_rfl)
def Ml:Entry:=⟨[aW af,aW (.int .i64)],[bp .bool],xa⟩
theorem TD:Sound Tryz.prog 127 0 Ml:=cL bk (fn:=Tryz.f127) (fns:=[(83,pT)]) ⟨q6,trivial⟩ (by kernel_rfl) (by kernel_rfl) fun _=>by kernel_rfl
def TE:Entry:=⟨[aW af,aW aI,aW aH],[bp af,bp aG],Dt⟩
theorem adh:Sound Tryz.prog 88 0 TE:=cL bk (fn:=Tryz.f88) (fns:=[(51,sC),(109,sD),(119,Mc),(120,pU),(121,xu),(122,FF),(124,vh),(127,Ml)]) ⟨vf,vg,Tu,q7,z8,Mh,xw,TD,trivial⟩ (by kernel_rfl) (by kernel_rfl) fun _=>by kernel_rfl
def TF:Entry:=⟨[aW af,aW (.int .i64),aW (.int .i64)],[bp .bool],zu⟩
def adi:List (Nat×b0):=[(2,⟨[(1,aM),(2,aM),(3,.ptr 1),(7,aM)],aA 1 af .R [],[.drop,.drop,.drop]⟩)]
def adj(k:Nat→an→Option (Bool×Unit)):Du:=fun U aa ae ai=>k 2 (bj [(1,aZ U),(2,aZ aa),(3,aw 1),(7,aZ ae)] (aC 1 af .R [] ai) [.aD,.aD,.aD])
theorem adk:Sound Tryz.prog 128 0 TF:=cE bk (fn:=Tryz.f128) (fns:=[(110,Ma)]) ⟨Tr,trivial⟩ (by kernel_rfl) (by kernel_rfl) adi adj Dw uB (fun k x=>Dv k x.1 x.2.1 x.2.2.1) (by kernel_rfl) (fun _=>by kernel_rfl) (fun _=>rfl) (fun _ _=>by kernel_rfl) (fun _=>by kernel_rfl)
def TG:Entry:=⟨[aW af,aW aI,aW aH],[bp af,bp aG],Dy⟩
def adl:List (Nat×b0):=[(7,⟨[(3,.ptr 1),(4,.ptr 2),(6,.ptr 3),(7,.ptr 5),(8,.ptr 6),(9,.ptr 7)],aA 1 af .R []++aA 2 aI .R []++aA 3 af af.own []++aA 5 aG .R []++aA 6 aV .R []++aA 7 aV .R [],[.drop,.drop,.drop]⟩),(18,⟨[(3,.ptr 1),(4,.ptr 2),(6,.ptr 3),(7,.ptr 5),(8,.ptr 6),(9,.ptr 7),(11,.ptr 8),(12,.ptr 9)],aA 1 af .R []++aA 2 aI .R []++aA 3 af af.own []++aA 5 aG .R []++aA 6 aV .R []++aA 7 aV .R []++aA 8 I .R []++aA 9 I .R [],[.drop,.drop,.drop]⟩),(27,⟨[(3,.ptr 1),(6,.ptr 2),(7,.ptr 4),(8,.ptr 5),(9,.ptr 6),(12,.ptr 7),(13,.ptr 8),(14,.ptr 10)],aA 1 af .R []++aA 2 af af.own []++aA 4 aG .R []++aA 5 aV .R []++aA 6 aV .R []++aA 7 I .R []++aA 8 af (.S (.cons .R (.cons (.O .R) .nil))) []++aA 10 I .R [],[.drop,.drop,.drop]⟩),(34,⟨[(3,.ptr 1),(6,.ptr 2),(7,.ptr 4),(8,.ptr 5),(9,.ptr 6),(13,.ptr 7)],aA 1 af .R []++aA 2 af af.own []++aA 4 aG .R []++aA 5 aV .R []++aA 6 aV .R []++aA 7 af (.S (.cons .R (.cons (.O .R) .nil))) [],[.drop,.drop,.drop]⟩),(29,⟨[(3,.ptr 1),(6,.ptr 2),(7,.ptr 4),(8,.ptr 5),(9,.ptr 6),(12,.ptr 7),(13,.ptr 8),(14,.ptr 10)],aA 1 af .R []++aA 2 af af.own []++aA 4 aG .R []++aA 5 aV .R []++aA 6 aV .R []++aA 7 I .R []++aA 8 af (.S (.cons .R (.cons (.O .R) .nil))) []++aA 10 I .R [],[.drop,.drop,.drop]⟩)]
def adm(k:Nat→an→Option (mI)):pM:=⟨fun U aa ae ai aq aE=>k 7 (bj [(3,aw 1),(4,aw 2),(6,aw 3),(7,aw 5),(8,aw 6),(9,aw 7)] (aC 1 af .R [] U++aC 2 aI .R [] aa++aC 3 af af.own [] ae++aC 5 aG .R [] ai++aC 6 aV .R [] aq++aC 7 aV .R [] aE) [.aD,.aD,.aD]),fun U aa ae ai aq aE bh bW=>k 18 (bj [(3,aw 1),(4,aw 2),(6,aw 3),(7,aw 5),(8,aw 6),(9,aw 7),(11,aw 8),(12,aw 9)] (aC 1 af .R [] U++aC 2 aI .R [] aa++aC 3 af af.own [] ae++aC 5 aG .R [] ai++aC 6 aV .R [] aq++aC 7 aV .R [] aE++aC 8 I .R [] bh++aC 9 I .R [] bW) [.aD,.aD,.aD]),fun U aa ae ai aq aE bh bW=>k 27 (bj [(3,aw 1),(6,aw 2),(7,aw 4),(8,aw 5),(9,aw 6),(12,aw 7),(13,aw 8),(14,aw 10)] (aC 1 af .R [] U++aC 2 af af.own [] aa++aC 4 aG .R [] ae++aC 5 aV .R [] ai++aC 6 aV .R [] aq++aC 7 I .R [] aE++aC 8 af (.S (.cons .R (.cons (.O .R) .nil))) [] bh++aC 10 I .R [] bW) [.aD,.aD,.aD]),fun U aa ae ai aq aE=>k 34 (bj [(3,aw 1),(6,aw 2),(7,aw 4),(8,aw 5),(9,aw 6),(13,aw 7)] (aC 1 af .R [] U++aC 2 af af.own [] aa++aC 4 aG .R [] ae++aC 5 aV .R [] ai++aC 6 aV .R [] aq++aC 7 af (.S (.cons .R (.cons (.O .R) .nil))) [] aE) [.aD,.aD,.aD]),fun U aa ae ai aq aE bh bW=>k 29 (bj [(3,aw 1),(6,aw 2),(7,aw 4),(8,aw 5),(9,aw 6),(12,aw 7),(13,aw 8),(14,aw 10)] (aC 1 af .R [] U++aC 2 af af.own [] aa++aC 4 aG .R [] ae++aC 5 aV .R [] ai++aC 6 aV .R [] aq++aC 7 I .R [] aE++aC 8 af (.S (.cons .R (.cons (.O .R) .nil))) [] bh++aC 10 I .R [] bW) [.aD,.aD,.aD])⟩
theorem adn:Sound Tryz.prog 89 0 TG:=cE bk (fn:=Tryz.f89) (fns:=[(51,sC),(109,sD),(120,pU),(121,xu),(122,FF),(124,vh),(125,Mi),(126,Mk),(128,TF)]) ⟨vf,vg,q7,z8,Mh,xw,TA,TB,adk,trivial⟩ (by kernel_rfl) (by kernel_rfl) adl adm R' gB (fun k x=>Dx k x.1 x.2.1 x.2.2.1) (by kernel_rfl) (fun _=>by kernel_rfl) (fun _=>rfl) (fun _ _=>by kernel_rfl) (fun _=>by kernel_rfl)
def TH:Entry:=⟨[aW .str,aW (.int .i64),aW .str],[bp .str],sc⟩
def ado:List (Nat×b0):=[(2,⟨[(1,aM),(2,aM),(7,.cell (.ag 1))],[(1,.row (.int .u8) .R)],[.drop,.drop,.drop]⟩),(5,⟨[(1,aM),(2,aM),(7,.cell (.ag 1)),(8,aM)],[(1,.row (.int .u8) .R)],[.drop,.drop,.drop]⟩)]
def adp(k:Nat→an→Option ((List UInt8)×Unit)):sb:=⟨fun U aa ae=>k 2 (bj [(1,aZ U),(2,e6 aa),(7,.aU (.ag 1 none))] [(1,.row (.int .u8) .R 0 ae)] [.aD,.aD,.aD]),fun U aa ae ai=>k 5 (bj [(1,aZ U),(2,e6 aa),(7,.aU (.ag 1 none)),(8,aZ ae)] [(1,.row (.int .u8) .R 0 ai)] [.aD,.aD,.aD])⟩
theorem adq:Sound Tryz.prog 129 0 TH:=cE bk (fn:=Tryz.f129) (fns:=[]) trivial (by kernel_rfl) (by kernel_rfl) ado adp Sb nG (fun k x=>Dz k x.1 x.2.1 x.2.2.1) (by kernel_rfl) (fun _=>by kernel_rfl) (fun _=>rfl) (fun _ _=>by kernel_rfl) (fun _=>by kernel_rfl)
def TI:Entry:=⟨[aW af,aW aI,aW aH],[bp af,bp aG],xb⟩
def adr:List (Nat×b0):=[(12,⟨[(3,.ptr 1),(5,.ptr 2),(6,.ptr 3),(7,.ptr 5),(9,.ptr 6),(10,aM)],aA 1 af .R []++aA 2 aH .R []++aA 3 af af.own []++aA 5 aG .R []++aA 6 I .R [],[.drop,.drop,.drop]⟩),(23,⟨[(3,.ptr 1),(6,.ptr 2),(7,.ptr 4),(9,.ptr 5)],aA 1 af .R []++aA 2 af af.own []++aA 4 aG .R []++aA 5 I .R [],[.drop,.drop,.drop]⟩)]
def ads(k:Nat→an→Option (uC)):uD:=⟨fun U aa ae ai aq aE=>k 12 (bj [(3,aw 1),(5,aw 2),(6,aw 3),(7,aw 5),(9,aw 6),(10,aZ U)] (aC 1 af .R [] aa++aC 2 aH .R [] ae++aC 3 af af.own [] ai++aC 5 aG .R [] aq++aC 6 I .R [] aE) [.aD,.aD,.aD]),fun U aa ae ai=>k 23 (bj [(3,aw 1),(6,aw 2),(7,aw 4),(9,aw 5)] (aC 1 af .R [] U++aC 2 af af.own [] aa++aC 4 aG .R [] ae++aC 5 I .R [] ai) [.aD,.aD,.aD])⟩
theorem adt:Sound Tryz.prog 90 0 TI:=cE bk (fn:=Tryz.f90) (fns:=[(51,sC),(109,sD),(120,pU),(121,xu),(123,xv),(124,vh),(129,TH)]) ⟨vf,vg,q7,z8,z_,xw,adq,trivial⟩ (by kernel_rfl) (by kernel_rfl) adr ads Sc j_ (fun k x=>DA k x.1 x.2.1 x.2.2.1) (by kernel_rfl) (fun _=>by kernel_rfl) (fun _=>rfl) (fun _ _=>by kernel_rfl) (fun _=>by kernel_rfl)
def TJ:Entry:=⟨[aW af,aW aI,aW aH],[bp af,bp aG],se⟩
def adu:List (Nat×b0):=[(8,⟨[(3,.ptr 1),(4,.ptr 2),(5,.ptr 3),(6,.ptr 4),(7,.ptr 6),(8,aM)],aA 1 af .R []++aA 2 aI .R []++aA 3 aH .R []++aA 4 af af.own []++aA 6 aG .R [],[.drop,.drop,.drop]⟩),(12,⟨[(3,.ptr 1),(4,.ptr 2),(5,.ptr 3),(6,.ptr 4),(7,.ptr 6)],aA 1 af .R []++aA 2 aI .R []++aA 3 aH .R []++aA 4 af af.own []++aA 6 aG .R [],[.drop,.drop,.drop]⟩),(24,⟨[(3,.ptr 1),(4,.ptr 2),(5,.ptr 3),(6,.ptr 4),(7,.ptr 6),(10,.ptr 7)],aA 1 af .R []++aA 2 aI .R []++aA 3 aH .R []++aA 4 af af.own []++aA 6 aG .R []++aA 7 I .R [],[.drop,.drop,.drop]⟩),(32,⟨[(3,.ptr 1),(6,.ptr 2),(7,.ptr 4),(10,.ptr 5)],aA 1 af .R []++aA 2 af af.own []++aA 4 aG .R []++aA 5 I .R [],[.drop,.drop,.drop]⟩)]
def adv(k:Nat→an→Option (oO)):qO:=⟨fun U aa ae ai aq aE=>k 8 (bj [(3,aw 1),(4,aw 2),(5,aw 3),(6,aw 4),(7,aw 6),(8,jI U)] (aC 1 af .R [] aa++aC 2 aI .R [] ae++aC 3 aH .R [] ai++aC 4 af af.own [] aq++aC 6 aG .R [] aE) [.aD,.aD,.aD]),fun U aa ae ai aq=>k 12 (bj [(3,aw 1),(4,aw 2),(5,aw 3),(6,aw 4),(7,aw 6)] (aC 1 af .R [] U++aC 2 aI .R [] aa++aC 3 aH .R [] ae++aC 4 af af.own [] ai++aC 6 aG .R [] aq) [.aD,.aD,.aD]),fun U aa ae ai aq aE=>k 24 (bj [(3,aw 1),(4,aw 2),(5,aw 3),(6,aw 4),(7,aw 6),(10,aw 7)] (aC 1 af .R [] U++aC 2 aI .R [] aa++aC 3 aH .R [] ae++aC 4 af af.own [] ai++aC 6 aG .R [] aq++aC 7 I .R [] aE) [.aD,.aD,.aD]),fun U aa ae ai=>k 32 (bj [(3,aw 1),(6,aw 2),(7,aw 4),(10,aw 5)] (aC 1 af .R [] U++aC 2 af af.own [] aa++aC 4 aG .R [] ae++aC 5 I .R [] ai) [.aD,.aD,.aD])⟩
theorem adw:Sound Tryz.prog 91 0 TJ:=cE bk (fn:=Tryz.f91) (fns:=[(45,nS),(51,sC),(120,pU),(121,xu),(123,xv),(124,vh),(130,L_)]) ⟨oZ,vf,q7,z8,z_,xw,To,trivial⟩ (by kernel_rfl) (by kernel_rfl) adu adv Sd hM (fun k x=>sd k x.1 x.2.1 x.2.2.1) (by kernel_rfl) (fun _=>by kernel_rfl) (fun _=>rfl) (fun _ _=>by kernel_rfl) (fun _=>by kernel_rfl)
def TK:Entry:=⟨[aW (.int .i64)],[bp .str],hO⟩
def adx:List (Nat×b0):=[(5,⟨[(0,aM),(3,aM),(4,aM)],[],[.drop]⟩)]
def ady(k:Nat→an→Option ((List UInt8)×Unit)):DB:=fun U aa ae=>k 5 (bj [(0,aZ U),(3,e6 aa),(4,jI ae)] [] [.aD])
theorem adz:Sound Tryz.prog 131 0 TK:=cE bk (fn:=Tryz.f131) (fns:=[]) trivial (by kernel_rfl) (by kernel_rfl) adx ady zz pO (fun k x=>Se k x.1) (by kernel_rfl) (fun _=>by kernel_rfl) (fun _=>rfl) (fun _ _=>by kernel_rfl) (fun _=>by kernel_rfl)
def TL:Entry:=⟨[aW af,aW (.int .i64)],[bp (.int .i64)],DF⟩
def adA:List (Nat×b0):=[(8,⟨[(2,.ptr 1),(5,aM),(6,aM),(7,aM)],aA 1 af .R [],[.drop,.drop]⟩)]
def adB(k:Nat→an→Option (Int×Unit)):DC:=fun U aa ae ai=>k 8 (bj [(2,aw 1),(5,aZ U),(6,aZ aa),(7,aZ ae)] (aC 1 af .R [] ai) [.aD,.aD])
theorem adC:Sound Tryz.prog 132 0 TL:=cE bk (fn:=Tryz.f132) (fns:=[(48,FG),(83,pT),(127,Ml)]) ⟨Mj,q6,TD,trivial⟩ (by kernel_rfl) (by kernel_rfl) adA adB DE uE (fun k x=>DD k x.1 x.2.1) (by kernel_rfl) (fun _=>by kernel_rfl) (fun _=>rfl) (fun _ _=>by kernel_rfl) (fun _=>by kernel_rfl)
def TM:Entry:=⟨[aW af,aW aI,aW aH],[bp aG],kE⟩
def adD:List (Nat×b0):=[(5,⟨[(3,.ptr 1),(4,.ptr 2),(5,.ptr 3),(6,.ptr 4)],aA 1 af .R []++aA 2 aI .R []++aA 3 aH .R []++aA 4 aG .R [],[.drop,.drop,.drop]⟩),(6,⟨[(3,.ptr 1),(4,.ptr 2),(5,.ptr 3),(6,.ptr 4),(7,.ptr 5)],aA 1 af .R []++aA 2 aI .R []++aA 3 aH .R []++aA 4 aG .R []++aA 5 aV .R [],[.drop,.drop,.drop]⟩),(20,⟨[(5,.ptr 1),(6,.ptr 2),(8,.ptr 3),(10,.cell (.ag 4)),(11,aM)],aA 1 aH .R []++aA 2 aG .R []++aA 3 I .R []++[(4,.row (.int .u8) .R)],[.drop,.drop,.drop]⟩),(35,⟨[(6,.ptr 1),(8,.ptr 2),(12,aM),(13,aM)],aA 1 aG .R []++aA 2 I .R [],[.drop,.drop,.drop]⟩),(39,⟨[(6,.ptr 1),(8,.ptr 2),(12,aM),(13,aM)],aA 1 aG .R []++aA 2 I .R [],[.drop,.drop,.drop]⟩)]
def adE(k:Nat→an→Option (aG.D×Unit)):nI:=⟨fun U aa ae ai=>k 5 (bj [(3,aw 1),(4,aw 2),(5,aw 3),(6,aw 4)] (aC 1 af .R [] U++aC 2 aI .R [] aa++aC 3 aH .R [] ae++aC 4 aG .R [] ai) [.aD,.aD,.aD]),fun U aa ae ai aq=>k 6 (bj [(3,aw 1),(4,aw 2),(5,aw 3),(6,aw 4),(7,aw 5)] (aC 1 af .R [] U++aC 2 aI .R [] aa++aC 3 aH .R [] ae++aC 4 aG .R [] ai++aC 5 aV .R [] aq) [.aD,.aD,.aD]),fun U aa ae ai aq=>k 20 (bj [(5,aw 1),(6,aw 2),(8,aw 3),(10,.aU (.ag 4 none)),(11,aZ U)] (aC 1 aH .R [] aa++aC 2 aG .R [] ae++aC 3 I .R [] ai++[(4,.row (.int .u8) .R 0 aq)]) [.aD,.aD,.aD]),fun U aa ae ai=>k 35 (bj [(6,aw 1),(8,aw 2),(12,e6 U),(13,aZ aa)] (aC 1 aG .R [] ae++aC 2 I .R [] ai) [.aD,.aD,.aD]),fun U aa ae ai=>k 39 (bj [(6,aw 1),(8,aw 2),(12,e6 U),(13,aZ aa)] (aC 1 aG .R [] ae++aC 2 I .R [] ai) [.aD,.aD,.aD])⟩
theorem adF:Sound Tryz.prog 92 0 TM:=cE bk (fn:=Tryz.f92) (fns:=[(45,nS),(49,FE),(84,Mf),(109,sD),(120,pU),(124,vh),(131,TK),(132,TL)]) ⟨oZ,Md,Tw,vg,q7,xw,adz,adC,trivial⟩ (by kernel_rfl) (by kernel_rfl) adD adE Sf fs (fun k x=>qP k x.1 x.2.1 x.2.2.1) (by kernel_rfl) (fun _=>by kernel_rfl) (fun _=>rfl) (fun _ _=>by kernel_rfl) (fun _=>by kernel_rfl)
def Mm:Entry:=⟨[CI af,CI aI,aW aH],[bp af,bp aG],k7⟩
def adG:List (Nat×b0):=[(8,⟨[(3,.ptr 1),(4,.ptr 2),(5,.ptr 3),(6,.ptr 4),(7,.ptr 6),(19,aM)],aA 1 af .R []++aA 2 aI .R []++aA 3 aH .R []++aA 4 af af.own []++aA 6 aG .R [],[.drop,.drop,.drop]⟩),(11,⟨[(3,.ptr 1),(4,.ptr 2),(5,.ptr 3),(6,.ptr 4),(7,.ptr 6),(19,aM)],aA 1 af .R []++aA 2 aI .R []++aA 3 aH .R []++aA 4 af af.own []++aA 6 aG .R [],[.drop,.drop,.drop]⟩),(19,⟨[(3,.ptr 1),(4,.ptr 2),(5,.ptr 3),(6,.ptr 4),(7,.ptr 6),(19,aM)],aA 1 af .R []++aA 2 aI .R []++aA 3 aH .R []++aA 4 af af.own []++aA 6 aG .R [],[.drop,.drop,.drop]⟩)]
def adH(k:Nat→an→Option (qR)):sg:=⟨fun U aa ae ai aq aE=>k 8 (bj [(3,aw 1),(4,aw 2),(5,aw 3),(6,aw 4),(7,aw 6),(19,aZ U)] (aC 1 af .R [] aa++aC 2 aI .R [] ae++aC 3 aH .R [] ai++aC 4 af af.own [] aq++aC 6 aG .R [] aE) [.aD,.aD,.aD]),fun U aa ae ai aq aE=>k 11 (bj [(3,aw 1),(4,aw 2),(5,aw 3),(6,aw 4),(7,aw 6),(19,aZ U)] (aC 1 af .R [] aa++aC 2 aI .R [] ae++aC 3 aH .R [] ai++aC 4 af af.own [] aq++aC 6 aG .R [] aE) [.aD,.aD,.aD]),fun U aa ae ai aq aE=>k 19 (bj [(3,aw 1),(4,aw 2),(5,aw 3),(6,aw 4),(7,aw 6),(19,aZ U)] (aC 1 af .R [] aa++aC 2 aI .R [] ae++aC 3 aH .R [] ai++aC 4 af af.own [] aq++aC 6 aG .R [] aE) [.aD,.aD,.aD])⟩
theorem TN:Sound Tryz.prog 52 0 Mm:=cE bk (fn:=Tryz.f52) (fns:=[(85,Tm),(86,Tz),(87,TC),(88,TE),(89,TG),(90,TI),(91,TJ),(92,TM)]) ⟨acB,ac9,adg,adh,adn,adt,adw,adF,trivial⟩ (by kernel_rfl) (by kernel_rfl) adG adH Sg zA (fun k x=>sh k x.1 x.2.1 x.2.2.1) (by kernel_rfl) (fun _=>by kernel_rfl) (fun _=>rfl) (fun _ _=>by kernel_rfl) (fun _=>by kernel_rfl)
def z':Entry:=⟨[.«mut» bq .R .R,td (.sl (.int .i64))],[bp (.int .i64)],i'⟩
theorem FH:Sound Tryz.prog 77 0 z':=cL bk (fn:=Tryz.f77) (fns:=[(76,nR)]) ⟨oY,trivial⟩ (by kernel_rfl) (by kernel_rfl) fun _=>by kernel_rfl
def Mn:Entry:=⟨[.«mut» bq .R .R],[ro aI],zB⟩
theorem TO:Sound Tryz.prog 79 0 Mn:=cL bk (fn:=Tryz.f79) (fns:=[(76,nR)]) ⟨oY,trivial⟩ (by kernel_rfl) (by kernel_rfl) fun _=>by kernel_rfl
def TP:Entry:=⟨[.«mut» bq .R .R,aW (.int .i64)],[bp .str],zD⟩
def adI:List (Nat×b0):=[(4,⟨[(0,.ptr 1),(5,.cell (.ag 2)),(6,aM),(7,aM)],aA 1 bq .R []++[(2,.row (.int .u8) .R)],[.ptr 1,.drop]⟩),(11,⟨[(0,.ptr 1),(5,.cell (.ag 2)),(6,aM),(7,aM),(8,aM)],aA 1 bq .R []++[(2,.row (.int .u8) .R)],[.ptr 1,.drop]⟩)]
def adJ(k:Nat→an→Option (uF)):uG:=⟨fun U aa ae ai=>k 4 (bj [(0,aw 1),(5,.aU (.ag 2 none)),(6,aZ U),(7,aZ aa)] (aC 1 bq .R [] ae++[(2,.row (.int .u8) .R 0 ai)]) [aw 1,.aD]),fun U aa ae ai aq=>k 11 (bj [(0,aw 1),(5,.aU (.ag 2 none)),(6,aZ U),(7,aZ aa),(8,aZ ae)] (aC 1 bq .R [] ai++[(2,.row (.int .u8) .R 0 aq)]) [aw 1,.aD])⟩
theorem adK:Sound Tryz.prog 58 0 TP:=cE bk (fn:=Tryz.f58) (fns:=[(76,nR),(105,L6)]) ⟨oY,Ti,trivial⟩ (by kernel_rfl) (by kernel_rfl) adI adJ Sj si (fun k x=>DJ k x.1 x.2.1) (by kernel_rfl) (fun _=>by kernel_rfl) (fun _=>rfl) (fun _ _=>by kernel_rfl) (fun _=>by kernel_rfl)
def Aa:Entry:=⟨[.«mut» bq .R .R,td (.sl .str)],[bp .str],qS⟩
theorem FI:Sound Tryz.prog 78 0 Aa:=cL bk (fn:=Tryz.f78) (fns:=[(76,nR)]) ⟨oY,trivial⟩ (by kernel_rfl) (by kernel_rfl) fun _=>by kernel_rfl
def Mo:Entry:=⟨[.«mut» bq .R .R],[bp .str],xc⟩
theorem TQ:Sound Tryz.prog 106 0 Mo:=cL bk (fn:=Tryz.f106) (fns:=[(78,Aa)]) ⟨FI,trivial⟩ (by kernel_rfl) (by kernel_rfl) fun _=>by kernel_rfl
def Mp:Entry:=⟨[.«mut» bq .R .R],[bp .str],DL⟩
def adL:List (Nat×b0):=[(3,⟨[(0,.ptr 1),(3,aM),(4,aM)],aA 1 bq .R [],[.ptr 1]⟩),(16,⟨[(0,.ptr 1),(3,aM)],aA 1 bq .R [],[.ptr 1]⟩),(17,⟨[(0,.ptr 1),(3,aM)],aA 1 bq .R [],[.ptr 1]⟩)]
def adM(k:Nat→an→Option (qT)):sj:=⟨fun U aa ae=>k 3 (bj [(0,aw 1),(3,e6 U),(4,aZ aa)] (aC 1 bq .R [] ae) [aw 1]),fun U aa=>k 16 (bj [(0,aw 1),(3,e6 U)] (aC 1 bq .R [] aa) [aw 1]),fun U aa=>k 17 (bj [(0,aw 1),(3,e6 U)] (aC 1 bq .R [] aa) [aw 1])⟩
theorem TS:Sound Tryz.prog 80 0 Mp:=cE bk (fn:=Tryz.f80) (fns:=[(63,xt),(76,nR),(78,Aa),(106,Mo)]) ⟨z6,oY,FI,TQ,trivial⟩ (by kernel_rfl) (by kernel_rfl) adL adM Sm oS (fun k x=>DK k x.1) (by kernel_rfl) (fun _=>by kernel_rfl) (fun _=>rfl) (fun _ _=>by kernel_rfl) (fun _=>by kernel_rfl)
def TT:Entry:=⟨[.«mut» bq .R .R,aW af],[bp .str],xe⟩
def adN:List (Nat×b0):=[(6,⟨[(0,.ptr 1),(3,.ptr 2),(5,aM),(6,aM),(7,aM)],aA 1 bq .R []++aA 2 af .R [],[.ptr 1,.drop]⟩)]
def adO(k:Nat→an→Option (zF)):DM:=fun U aa ae ai aq=>k 6 (bj [(0,aw 1),(3,aw 2),(5,e6 U),(6,aZ aa),(7,aZ ae)] (aC 1 bq .R [] ai++aC 2 af .R [] aq) [aw 1,.aD])
theorem adP:Sound Tryz.prog 62 0 TT:=cE bk (fn:=Tryz.f62) (fns:=[(63,xt),(76,nR),(80,Mp),(83,pT),(106,Mo)]) ⟨z6,oY,TS,q6,TQ,trivial⟩ (by kernel_rfl) (by kernel_rfl) adN adO xd uH (fun k x=>DN k x.1 x.2.1) (by kernel_rfl) (fun _=>by kernel_rfl) (fun _=>rfl) (fun _ _=>by kernel_rfl) (fun _=>by kernel_rfl)
def Mq:Entry:=⟨[.«mut» bq .R .R,aW af],[bp aH],DP⟩
def adQ:List (Nat×b0):=[(2,⟨[(0,.ptr 1),(3,.ptr 2),(4,.ptr 3),(5,.ptr 4)],aA 1 bq .R []++aA 2 af .R []++aA 3 aH .R []++aA 4 aH .R [],[.ptr 1,.drop]⟩),(6,⟨[(0,.ptr 1),(4,.ptr 2),(5,.ptr 3)],aA 1 bq .R []++aA 2 aH .R []++aA 3 aH .R [],[.ptr 1,.drop]⟩),(7,⟨[(0,.ptr 1),(3,.ptr 2),(4,.ptr 3),(5,.ptr 4),(14,aM)],aA 1 bq .R []++aA 2 af .R []++aA 3 aH .R []++aA 4 aH .R [],[.ptr 1,.drop]⟩),(32,⟨[(0,.ptr 1),(4,.ptr 2),(5,.ptr 3)],aA 1 bq .R []++aA 2 aH .R []++aA 3 aH .R [],[.ptr 1,.drop]⟩),(19,⟨[(0,.ptr 1),(3,.ptr 2),(4,.ptr 3),(5,.ptr 4)],aA 1 bq .R []++aA 2 af .R []++aA 3 aH .R []++aA 4 aH .R [],[.ptr 1,.drop]⟩),(20,⟨[(0,.ptr 1),(4,.ptr 2),(5,.ptr 3),(14,aM)],aA 1 bq .R []++aA 2 aH .R []++aA 3 aH .R [],[.ptr 1,.drop]⟩)]
def adR(k:Nat→an→Option (k8)):oT:=⟨fun U aa ae ai=>k 2 (bj [(0,aw 1),(3,aw 2),(4,aw 3),(5,aw 4)] (aC 1 bq .R [] U++aC 2 af .R [] aa++aC 3 aH .R [] ae++aC 4 aH .R [] ai) [aw 1,.aD]),fun U aa ae=>k 6 (bj [(0,aw 1),(4,aw 2),(5,aw 3)] (aC 1 bq .R [] U++aC 2 aH .R [] aa++aC 3 aH .R [] ae) [aw 1,.aD]),fun U aa ae ai aq=>k 7 (bj [(0,aw 1),(3,aw 2),(4,aw 3),(5,aw 4),(14,aZ U)] (aC 1 bq .R [] aa++aC 2 af .R [] ae++aC 3 aH .R [] ai++aC 4 aH .R [] aq) [aw 1,.aD]),fun U aa ae=>k 32 (bj [(0,aw 1),(4,aw 2),(5,aw 3)] (aC 1 bq .R [] U++aC 2 aH .R [] aa++aC 3 aH .R [] ae) [aw 1,.aD]),fun U aa ae ai=>k 19 (bj [(0,aw 1),(3,aw 2),(4,aw 3),(5,aw 4)] (aC 1 bq .R [] U++aC 2 af .R [] aa++aC 3 aH .R [] ae++aC 4 aH .R [] ai) [aw 1,.aD]),fun U aa ae ai=>k 20 (bj [(0,aw 1),(4,aw 2),(5,aw 3),(14,aZ U)] (aC 1 bq .R [] aa++aC 2 aH .R [] ae++aC 3 aH .R [] ai) [aw 1,.aD])⟩
theorem TU:Sound Tryz.prog 44 0 Mq:=cE bk (fn:=Tryz.f44) (fns:=[(58,TP),(62,TT),(63,xt),(76,nR),(77,z'),(78,Aa),(80,Mp)]) ⟨adK,adP,z6,oY,FH,FI,TS,trivial⟩ (by kernel_rfl) (by kernel_rfl) adQ adR Sn k9 (fun k x=>DO k x.1 x.2.1) (by kernel_rfl) (fun _=>by kernel_rfl) (fun _=>rfl) (fun _ _=>by kernel_rfl) (fun _=>by kernel_rfl)
def TV:Entry:=⟨[.«mut» bq .R .R],[bp aH],DQ⟩
theorem adS:Sound Tryz.prog 118 0 TV:=cL bk (fn:=Tryz.f118) (fns:=[(44,Mq),(12,Tk)]) ⟨TU,acs,trivial⟩ (by kernel_rfl) (by kernel_rfl) fun _=>by kernel_rfl
def TW:Entry:=⟨[.«mut» bq .R .R,aW (.int .i64)],[ro af],KB⟩
def adT:List (Nat×b0):=[(5,⟨[(0,.ptr 1),(4,.ptr 2),(5,.ptr 4),(6,aM)],aA 1 bq .R []++aA 2 af af.own []++aA 4 af .R [],[.ptr 1,.drop]⟩)]
def adU(k:Nat→an→Option (xf)):zG:=fun U aa ae ai=>k 5 (bj [(0,aw 1),(4,aw 2),(5,aw 4),(6,aZ U)] (aC 1 bq .R [] aa++aC 2 af af.own [] ae++aC 4 af .R [] ai) [aw 1,.aD])
theorem adV:Sound Tryz.prog 75 0 TW:=cE bk (fn:=Tryz.f75) (fns:=[(12,L7),(52,Mm),(76,nR),(77,z'),(79,Mn),(118,TV),(51,Tl)]) ⟨Tj,TN,oY,FH,TO,adS,acy,trivial⟩ (by kernel_rfl) (by kernel_rfl) adT adU xg uI (fun k x=>DR k x.1 x.2.1) (by kernel_rfl) (fun _=>by kernel_rfl) (fun _=>rfl) (fun _ _=>by kernel_rfl) (fun _=>by kernel_rfl)
def TX:Entry:=⟨[.«mut» bq .R .R,aW (.int .i64)],[ro af],KD⟩
theorem adW:Sound Tryz.prog 41 0 TX:=cL bk (fn:=Tryz.f41) (fns:=[(63,xt),(75,TW),(76,nR),(77,z'),(78,Aa)]) ⟨z6,adV,oY,FH,FI,trivial⟩ (by kernel_rfl) (by kernel_rfl) fun _=>by kernel_rfl
def TY:Entry:=⟨[aW (.sl (.int .u8)),aW (.int .i64)],[bp (.int .i64)],KF⟩
theorem adX:Sound Tryz.prog 42 0 TY:=cL bk (fn:=Tryz.f42) (fns:=[]) trivial (by kernel_rfl) (by kernel_rfl) fun _=>by kernel_rfl
def TZ:Entry:=⟨[.«mut» bq .R .R],[ro aI],KH⟩
theorem adY:Sound Tryz.prog 43 0 TZ:=cL bk (fn:=Tryz.f43) (fns:=[(63,xt),(76,nR),(77,z'),(79,Mn)]) ⟨z6,oY,FH,TO,trivial⟩ (by kernel_rfl) (by kernel_rfl) fun _=>by kernel_rfl
def T0:Entry:=⟨[aW (.sl (.int .u8))],[ro af,ro aI,bp aH],KJ⟩
theorem adZ:Sound Tryz.prog 10 0 T0:=cL bk (fn:=Tryz.f10) (fns:=[(40,Th),(41,TX),(42,TY),(43,TZ),(44,Mq)]) ⟨acr,adW,adX,adY,TU,trivial⟩ (by kernel_rfl) (by kernel_rfl) fun _=>by kernel_rfl
def T1:Entry:=⟨[aW .str],[bp .bool],KK⟩
def ad0:List (Nat×b0):=[(4,⟨[(0,aM),(3,aM)],[],[.drop]⟩)]
def ad1(k:Nat→an→Option (Bool×Unit)):DU:=fun U aa=>k 4 (bj [(0,e6 U),(3,aZ aa)] [] [.aD])
theorem ad2:Sound Tryz.prog 82 0 T1:=cE bk (fn:=Tryz.f82) (fns:=[(45,nS),(107,FC)]) ⟨oZ,L8,trivial⟩ (by kernel_rfl) (by kernel_rfl) ad0 ad1 DW sk (fun k x=>DV k x.1) (by kernel_rfl) (fun _=>by kernel_rfl) (fun _=>rfl) (fun _ _=>by kernel_rfl) (fun _=>by kernel_rfl)
def T2:Entry:=⟨[aW af,aW I],[bp .bool],DY⟩
def ad3:List (Nat×b0):=[(4,⟨[(2,.ptr 1),(3,.ptr 2),(5,aM)],aA 1 af .R []++aA 2 I .R [],[.drop,.drop]⟩),(13,⟨[(2,.ptr 1),(3,.ptr 2),(6,aM)],aA 1 af .R []++aA 2 I .R [],[.drop,.drop]⟩)]
def ad4(k:Nat→an→Option (Bool×Unit)):uJ:=⟨fun U aa ae=>k 4 (bj [(2,aw 1),(3,aw 2),(5,jI U)] (aC 1 af .R [] aa++aC 2 I .R [] ae) [.aD,.aD]),fun U aa ae=>k 13 (bj [(2,aw 1),(3,aw 2),(6,aZ U)] (aC 1 af .R [] aa++aC 2 I .R [] ae) [.aD,.aD])⟩
theorem ad5:Sound Tryz.prog 46 0 T2:=cE bk (fn:=Tryz.f46) (fns:=[(45,nS),(81,L9),(82,T1),(83,pT)]) ⟨oZ,Tn,ad2,q6,trivial⟩ (by kernel_rfl) (by kernel_rfl) ad3 ad4 Ss qU (fun k x=>DX k x.1 x.2.1) (by kernel_rfl) (fun _=>by kernel_rfl) (fun _=>rfl) (fun _ _=>by kernel_rfl) (fun _=>by kernel_rfl)
def Mr:Entry:=⟨[aW af],[bp .bool],D0⟩
def ad6:List (Nat×b0):=[(4,⟨[(1,.ptr 1),(3,aM)],aA 1 af .R [],[.drop]⟩),(11,⟨[(1,.ptr 1),(5,.cell (.ag 2)),(6,aM)],aA 1 af .R []++[(2,.row .bool .R)],[.drop]⟩)]
def ad7(k:Nat→an→Option (Bool×Unit)):uK:=⟨fun U aa=>k 4 (bj [(1,aw 1),(3,aZ U)] (aC 1 af .R [] aa) [.aD]),fun U aa ae=>k 11 (bj [(1,aw 1),(5,.aU (.ag 2 none)),(6,aZ U)] (aC 1 af .R [] aa++[(2,.row .bool .R 0 ae)]) [.aD])⟩
theorem T3:Sound Tryz.prog 11 0 Mr:=cE bk (fn:=Tryz.f11) (fns:=[(45,nS),(46,T2),(47,Me),(48,FG),(49,FE),(50,Mg)]) ⟨oZ,ad5,Tv,Mj,Md,Tx,trivial⟩ (by kernel_rfl) (by kernel_rfl) ad6 ad7 St nL (fun k x=>DZ k x.1) (by kernel_rfl) (fun _=>by kernel_rfl) (fun _=>rfl) (fun _ _=>by kernel_rfl) (fun _=>by kernel_rfl)
def kG:Entry:=⟨[aW (.int .i64),aW (.int .i64),aW (.int .i64)],[bp .bool],eL⟩
theorem ld:Sound Tryz.prog 93 0 kG:=cL bk (fn:=Tryz.f93) (fns:=[]) trivial (by kernel_rfl) (by kernel_rfl) fun _=>by kernel_rfl
def Ms:Entry:=⟨[aW (.int .u8)],[bp .bool],D1⟩
theorem T4:Sound Tryz.prog 157 0 Ms:=cL bk (fn:=Tryz.f157) (fns:=[]) trivial (by kernel_rfl) (by kernel_rfl) fun _=>by kernel_rfl
def FJ:Entry:=⟨[aW .str],[bp .bool],xh⟩
def ad8:List (Nat×b0):=[(2,⟨[(0,aM),(5,aM),(6,aM)],[],[.drop]⟩)]
def ad9(k:Nat→an→Option (Bool×Unit)):D2:=fun U aa ae=>k 2 (bj [(0,e6 U),(5,aZ aa),(6,aZ ae)] [] [.aD])
theorem Mt:Sound Tryz.prog 133 0 FJ:=cE bk (fn:=Tryz.f133) (fns:=[(93,kG),(157,Ms)]) ⟨ld,T4,trivial⟩ (by kernel_rfl) (by kernel_rfl) ad8 ad9 D4 uN (fun k x=>D3 k x.1) (by kernel_rfl) (fun _=>by kernel_rfl) (fun _=>rfl) (fun _ _=>by kernel_rfl) (fun _=>by kernel_rfl)
def mP:Entry:=⟨[ga af,aW (.int .i64)],[.pc I],fE⟩
def ad_:List (Nat×b0):=[(2,⟨[(0,.dj [] (r5 af .R [] 0)),(1,aM),(10,aM),(11,aM)],[],[.drop,.drop]⟩)]
def ad'(k:Nat→an→Option (zI)):D5:=fun U aa ae ai=>k 2 (bj [(0,.dj (pI []) (aU af .R [] U 0) 0),(1,aZ aa),(10,aZ ae),(11,aZ ai)] [] [.aD,.aD])
theorem nT:Sound Tryz.prog 56 0 mP:=cE bk (fn:=Tryz.f56) (fns:=[]) trivial (by kernel_rfl) (by kernel_rfl) ad_ ad' D7 uO (fun k x=>D6 k x.1 x.2.1) (by kernel_rfl) (fun _=>by kernel_rfl) (fun _=>rfl) (fun _ _=>by kernel_rfl) (fun _=>by kernel_rfl)
def FK:Entry:=⟨[abB af,aW (.int .i64)],[.opt 0 1 I],xi⟩
def aea:List (Nat×b0):=[(2,⟨[(0,.ptr 1),(1,aM),(10,aM),(11,aM)],aA 1 af af.own [],[.ptr 1,.drop]⟩)]
def aeb(k:Nat→an→Option (Int×af.D×Unit)):D8:=fun U aa ae ai=>k 2 (bj [(0,aw 1),(1,aZ U),(10,aZ aa),(11,aZ ae)] (aC 1 af af.own [] ai) [aw 1,.aD])
theorem Mu:Sound Tryz.prog 56 0 FK:=cE bk (fn:=Tryz.f56) (fns:=[]) trivial (by kernel_rfl) (by kernel_rfl) aea aeb D_ uP (fun k x=>D9 k x.1 x.2.1) (by kernel_rfl) (fun _=>by kernel_rfl) (fun _=>rfl) (fun _ _=>by kernel_rfl) (fun _=>by kernel_rfl)
def T5:Entry:=⟨[aW .str],[bp .bool],KN⟩
def aec:List (Nat×b0):=[(2,⟨[(0,aM),(5,aM),(6,aM)],[],[.drop]⟩)]
def aed(k:Nat→an→Option (Bool×Unit)):D':=fun U aa ae=>k 2 (bj [(0,e6 U),(5,aZ aa),(6,aZ ae)] [] [.aD])
theorem aee:Sound Tryz.prog 158 0 T5:=cE bk (fn:=Tryz.f158) (fns:=[(93,kG),(157,Ms)]) ⟨ld,T4,trivial⟩ (by kernel_rfl) (by kernel_rfl) aec aed Eb uQ (fun k x=>Ea k x.1) (by kernel_rfl) (fun _=>by kernel_rfl) (fun _=>rfl) (fun _ _=>by kernel_rfl) (fun _=>by kernel_rfl)
def T6:Entry:=⟨[ga af,aW I],[bp .bool],KO⟩
def aef:List (Nat×b0):=[(2,⟨[(0,.dj [] (r5 af .R [] 0)),(3,.ptr 1),(8,.cell (.b2 ax [])),(9,aM),(10,aM)],aA 1 I .R [],[.drop,.drop]⟩)]
def aeg(k:Nat→an→Option (Bool×Unit)):Ec:=fun U aa ae ai aq=>k 2 (bj [(0,.dj (pI []) (aU af .R [] U 0) 0),(3,aw 1),(8,hV ax aa),(9,aZ ae),(10,aZ ai)] (aC 1 I .R [] aq) [.aD,.aD])
theorem aeh:Sound Tryz.prog 134 0 T6:=cE bk (fn:=Tryz.f134) (fns:=[(56,mP),(158,T5)]) ⟨nT,aee,trivial⟩ (by kernel_rfl) (by kernel_rfl) aef aeg Ee uR (fun k x=>Ed k x.1 x.2.1) (by kernel_rfl) (fun _=>by kernel_rfl) (fun _=>rfl) (fun _ _=>by kernel_rfl) (fun _=>by kernel_rfl)
def T7:Entry:=⟨[ga af,aW I],[bp .bool],Eh⟩
def aei:List (Nat×b0):=[(5,⟨[(0,.dj [] (r5 af .R [] 0)),(3,.ptr 1)],aA 1 I .R [],[.drop,.drop]⟩)]
def aej(k:Nat→an→Option (Bool×Unit)):Ef:=fun U aa=>k 5 (bj [(0,.dj (pI []) (aU af .R [] U 0) 0),(3,aw 1)] (aC 1 I .R [] aa) [.aD,.aD])
theorem aek:Sound Tryz.prog 94 0 T7:=cE bk (fn:=Tryz.f94) (fns:=[(93,kG),(133,FJ),(134,T6)]) ⟨ld,Mt,aeh,trivial⟩ (by kernel_rfl) (by kernel_rfl) aei aej KP zJ (fun k x=>Eg k x.1 x.2.1) (by kernel_rfl) (fun _=>by kernel_rfl) (fun _=>rfl) (fun _ _=>by kernel_rfl) (fun _=>by kernel_rfl)
def T8:Entry:=⟨[aW (.sl (.int .i64)),aW (.int .i64)],[bp (.int .i64)],KQ⟩
def ael:List (Nat×b0):=[(2,⟨[(0,.cell (.b2 (.int .i64) [])),(1,aM),(7,aM),(8,aM)],[],[.drop,.drop]⟩)]
def aem(k:Nat→an→Option (Int×Unit)):Ei:=fun U aa ae ai=>k 2 (bj [(0,hV (.int .i64) U),(1,aZ aa),(7,aZ ae),(8,aZ ai)] [] [.aD,.aD])
theorem aen:Sound Tryz.prog 135 0 T8:=cE bk (fn:=Tryz.f135) (fns:=[]) trivial (by kernel_rfl) (by kernel_rfl) ael aem Ek uS (fun k x=>Ej k x.1 x.2.1) (by kernel_rfl) (fun _=>by kernel_rfl) (fun _=>rfl) (fun _ _=>by kernel_rfl) (fun _=>by kernel_rfl)
def Ab:Entry:=⟨[aW (.sl (.int .i64)),aW (.int .i64)],[bp .bool],sm⟩
theorem FL:Sound Tryz.prog 96 0 Ab:=cL bk (fn:=Tryz.f96) (fns:=[(135,T8)]) ⟨aen,trivial⟩ (by kernel_rfl) (by kernel_rfl) fun _=>by kernel_rfl
def FM:Entry:=⟨[ga af,aW (.int .i64)],[ro (.sl (.int .i64))],uU⟩
def aeo:List (Nat×b0):=[(4,⟨[(0,.dj [] (r5 af .R [] 0)),(5,.cell (.ag 1)),(6,.cell (.ag 2)),(7,aM)],[(1,.row (.int .i64) .R),(2,.row (.int .i64) .R)],[.drop,.drop]⟩),(9,⟨[(0,.dj [] (r5 af .R [] 0)),(5,.cell (.ag 1)),(6,.cell (.ag 2)),(7,aM),(31,.cell (.b2 ax [])),(32,aM),(33,aM)],[(1,.row (.int .i64) .R),(2,.row (.int .i64) .R)],[.drop,.drop]⟩)]
def aep(k:Nat→an→Option ((List Int)×Unit)):uT:=⟨fun U aa ae ai=>k 4 (bj [(0,.dj (pI []) (aU af .R [] U 0) 0),(5,.aU (.ag 1 none)),(6,.aU (.ag 2 none)),(7,aZ aa)] [(1,.row (.int .i64) .R 0 ae),(2,.row (.int .i64) .R 0 ai)] [.aD,.aD]),fun U aa ae ai aq aE bh=>k 9 (bj [(0,.dj (pI []) (aU af .R [] U 0) 0),(5,.aU (.ag 1 none)),(6,.aU (.ag 2 none)),(7,aZ aa),(31,hV ax ae),(32,aZ ai),(33,aZ aq)] [(1,.row (.int .i64) .R 0 aE),(2,.row (.int .i64) .R 0 bh)] [.aD,.aD])⟩
theorem Mv:Sound Tryz.prog 95 0 FM:=cE bk (fn:=Tryz.f95) (fns:=[(56,mP),(96,Ab)]) ⟨nT,FL,trivial⟩ (by kernel_rfl) (by kernel_rfl) aeo aep Sv mL (fun k x=>El k x.1 x.2.1) (by kernel_rfl) (fun _=>by kernel_rfl) (fun _=>rfl) (fun _ _=>by kernel_rfl) (fun _=>by kernel_rfl)
def FN:Entry:=⟨[ga af,aW (.int .i64)],[bp (.int .i64)],xj⟩
def aeq:List (Nat×b0):=[(3,⟨[(1,aM),(5,aM),(13,.cell (.b2 I [])),(14,aM),(15,aM)],[],[.drop,.drop]⟩),(6,⟨[(1,aM),(5,aM),(13,.cell (.b2 I [])),(14,aM),(15,aM),(20,.cell (.b2 ax [])),(21,aM),(22,aM)],[],[.drop,.drop]⟩)]
def aer(k:Nat→an→Option (Int×Unit)):uV:=⟨fun U aa ae ai aq=>k 3 (bj [(1,aZ U),(5,aZ aa),(13,hV I ae),(14,aZ ai),(15,aZ aq)] [] [.aD,.aD]),fun U aa ae ai aq aE bh bW=>k 6 (bj [(1,aZ U),(5,aZ aa),(13,hV I ae),(14,aZ ai),(15,aZ aq),(20,hV ax aE),(21,aZ bh),(22,aZ bW)] [] [.aD,.aD])⟩
theorem Mw:Sound Tryz.prog 97 0 FN:=cE bk (fn:=Tryz.f97) (fns:=[]) trivial (by kernel_rfl) (by kernel_rfl) aeq aer Sw pQ (fun k x=>Em k x.1 x.2.1) (by kernel_rfl) (fun _=>by kernel_rfl) (fun _=>rfl) (fun _ _=>by kernel_rfl) (fun _=>by kernel_rfl)
def FO:Entry:=⟨[ga af],[bp (.int .i64)],sn⟩
def aes:List (Nat×b0):=[(3,⟨[(3,aM),(9,.cell (.b2 I [])),(10,aM),(11,aM)],[],[.drop]⟩)]
def aet(k:Nat→an→Option (Int×Unit)):En:=fun U aa ae ai=>k 3 (bj [(3,aZ U),(9,hV I aa),(10,aZ ae),(11,aZ ai)] [] [.aD])
theorem Mx:Sound Tryz.prog 98 0 FO:=cE bk (fn:=Tryz.f98) (fns:=[]) trivial (by kernel_rfl) (by kernel_rfl) aes aet Ep uW (fun k x=>Eo k x.1) (by kernel_rfl) (fun _=>by kernel_rfl) (fun _=>rfl) (fun _ _=>by kernel_rfl) (fun _=>by kernel_rfl)
def My:Entry:=⟨[ga af,aW (.int .i64)],[bp (.int .i64),bp (.int .i64)],xk⟩
def aeu:List (Nat×b0):=[(4,⟨[(0,.dj [] (r5 af .R [] 0)),(6,aM),(7,.cell (.ag 1)),(14,.cell (.ag 1)),(15,aM),(16,aM)],[(1,.row (.int .i64) .R)],[.drop,.drop]⟩)]
def aev(k:Nat→an→Option (Int×Int×Unit)):Er:=fun U aa ae ai aq=>k 4 (bj [(0,.dj (pI []) (aU af .R [] U 0) 0),(6,aZ aa),(7,.aU (.ag 1 none)),(14,.aU (.ag 1 none)),(15,aZ ae),(16,aZ ai)] [(1,.row (.int .i64) .R 0 aq)] [.aD,.aD])
theorem T9:Sound Tryz.prog 60 0 My:=cE bk (fn:=Tryz.f60) (fns:=[(56,mP),(95,FM)]) ⟨nT,Mv,trivial⟩ (by kernel_rfl) (by kernel_rfl) aeu aev Et qW (fun k x=>Es k x.1 x.2.1) (by kernel_rfl) (fun _=>by kernel_rfl) (fun _=>rfl) (fun _ _=>by kernel_rfl) (fun _=>by kernel_rfl)
def T_:Entry:=⟨[ga af,aW I],[bp .bool],KT⟩
theorem aew:Sound Tryz.prog 100 0 T_:=cL bk (fn:=Tryz.f100) (fns:=[(60,My)]) ⟨T9,trivial⟩ (by kernel_rfl) (by kernel_rfl) fun _=>by kernel_rfl
def Ua:Entry:=⟨[aW (.sl I),.fn 1 0,ga af],[bp (.int .i64)],KU⟩
def aex:List (Nat×b0):=[(2,⟨[(0,.cell (.b2 I [])),(1,.vG [[.keep,.b2 I []]] []),(7,aM),(8,aM)],[],[.drop,.drop,.drop]⟩)]
def aey(k:Nat→an→Option (Int×Unit)):Eu:=fun U aa ae ai=>k 2 (bj [(0,hV I U),(1,.fn 100 [.dj [] [.int .i64 aa.1,.b2 I [] none aa.2.1] 0] []),(7,aZ ae),(8,aZ ai)] [] [.aD,.aD,.aD])
theorem aez:Sound Tryz.prog 136 100 Ua:=vH bk 100 (fn:=Tryz.f136) (fns:=[(100,T_)]) ⟨aew,trivial⟩ (by kernel_rfl) (by kernel_rfl) aex aey Ew uX (fun k x=>Ev k x.1 x.2.1) (by kernel_rfl) (fun _=>by kernel_rfl) (fun _=>rfl) (fun _ _=>by kernel_rfl) (fun _=>by kernel_rfl)
def Mz:Entry:=⟨[aW (.sl I),.fn 1 0,ga af],[bp .bool],zN⟩
theorem Ub:Sound Tryz.prog 99 100 Mz:=RL bk 100 (fn:=Tryz.f99) (fns:=[(100000136,Ua)]) ⟨aez,trivial⟩ (by kernel_rfl) (by kernel_rfl) fun _=>by kernel_rfl
def MA:Entry:=⟨[aW af],[bp .bool],xl⟩
def aeA:List (Nat×b0):=[(4,⟨[(1,.ptr 1),(36,.cell (.b2 I [])),(37,aM),(38,aM)],aA 1 af .R [],[.drop]⟩),(11,⟨[(1,.ptr 1),(5,.cell (.ag 2)),(75,.cell (.b2 I [])),(76,aM),(77,aM)],aA 1 af .R []++[(2,.row (.int .i64) .R)],[.drop]⟩)]
def aeB(k:Nat→an→Option (Bool×Unit)):uY:=⟨fun U aa ae ai=>k 4 (bj [(1,aw 1),(36,hV I U),(37,aZ aa),(38,aZ ae)] (aC 1 af .R [] ai) [.aD]),fun U aa ae ai aq=>k 11 (bj [(1,aw 1),(5,.aU (.ag 2 none)),(75,hV I U),(76,aZ aa),(77,aZ ae)] (aC 1 af .R [] ai++[(2,.row (.int .i64) .R 0 aq)]) [.aD])⟩
theorem Uc:Sound Tryz.prog 53 0 MA:=cE bk (fn:=Tryz.f53) (fns:=[(93,kG),(94,T7),(95,FM),(96,Ab),(97,FN),(98,FO),(100000099,Mz)]) ⟨ld,aek,Mv,FL,Mw,Mx,Ub,trivial⟩ (by kernel_rfl) (by kernel_rfl) aeA aeB Sx nM (fun k x=>Ex k x.1) (by kernel_rfl) (fun _=>by kernel_rfl) (fun _=>rfl) (fun _ _=>by kernel_rfl) (fun _=>by kernel_rfl)
def sE:Entry:=⟨[aW (.int .i64)],[bp aG],eX⟩
theorem vi:Sound Tryz.prog 54 0 sE:=cL bk (fn:=Tryz.f54) (fns:=[]) trivial (by kernel_rfl) (by kernel_rfl) fun _=>by kernel_rfl
def Ud:Entry:=⟨[aW (.int .i64)],[bp .bool],Sy⟩
theorem aeC:Sound Tryz.prog 138 0 Ud:=cL bk (fn:=Tryz.f138) (fns:=[(93,kG)]) ⟨ld,trivial⟩ (by kernel_rfl) (by kernel_rfl) fun _=>by kernel_rfl
def Ue:Entry:=⟨[aW (.sl (.int .i64)),.fn 0 0],[bp (.int .i64)],KX⟩
def aeD:List (Nat×b0):=[(2,⟨[(0,.cell (.b2 (.int .i64) [])),(1,.same),(7,aM),(8,aM)],[],[.drop,.drop]⟩)]
def aeE(k:Nat→an→Option (Int×Unit)):Ey:=fun U aa ae=>k 2 (bj [(0,hV (.int .i64) U),(1,.fn 138 [] []),(7,aZ aa),(8,aZ ae)] [] [.aD,.aD])
theorem aeF:Sound Tryz.prog 159 138 Ue:=vH bk 138 (fn:=Tryz.f159) (fns:=[(138,Ud)]) ⟨aeC,trivial⟩ (by kernel_rfl) (by kernel_rfl) aeD aeE EA u1 (fun k x=>Ez k x.1) (by kernel_rfl) (fun _=>by kernel_rfl) (fun _=>rfl) (fun _ _=>by kernel_rfl) (fun _=>by kernel_rfl)
def Uf:Entry:=⟨[aW (.sl (.int .i64)),.fn 0 0],[bp .bool],KZ⟩
theorem aeG:Sound Tryz.prog 137 138 Uf:=RL bk 138 (fn:=Tryz.f137) (fns:=[(138000159,Ue)]) ⟨aeF,trivial⟩ (by kernel_rfl) (by kernel_rfl) fun _=>by kernel_rfl
def Ac:Entry:=⟨[aW aI],[bp .bool],xm⟩
theorem FP:Sound Tryz.prog 101 0 Ac:=cL bk (fn:=Tryz.f101) (fns:=[(93,kG),(138000137,Uf)]) ⟨ld,aeG,trivial⟩ (by kernel_rfl) (by kernel_rfl) fun _=>by kernel_rfl
def Ug:Entry:=⟨[aW aH],[bp .bool],K2⟩
def aeH:List (Nat×b0):=[(3,⟨[(1,.ptr 1),(3,aM),(4,aM)],aA 1 aH .R [],[.drop]⟩),(5,⟨[(1,.ptr 1)],aA 1 aH .R [],[.drop]⟩)]
def aeI(k:Nat→an→Option (Bool×Unit)):u2:=⟨fun U aa ae=>k 3 (bj [(1,aw 1),(3,jI U),(4,jI aa)] (aC 1 aH .R [] ae) [.aD]),fun U=>k 5 (bj [(1,aw 1)] (aC 1 aH .R [] U) [.aD])⟩
theorem aeJ:Sound Tryz.prog 102 0 Ug:=cE bk (fn:=Tryz.f102) (fns:=[(93,kG)]) ⟨ld,trivial⟩ (by kernel_rfl) (by kernel_rfl) aeH aeI K1 EC (fun k x=>EB k x.1) (by kernel_rfl) (fun _=>by kernel_rfl) (fun _=>rfl) (fun _ _=>by kernel_rfl) (fun _=>by kernel_rfl)
def Uh:Entry:=⟨[aW af],[ro af],so⟩
def aeK:List (Nat×b0):=[(3,⟨[(2,.ptr 1),(3,.ptr 3),(10,.cell (.b2 I [])),(11,aM),(12,aM)],aA 1 af af.own []++aA 3 af af.own [],[.drop]⟩)]
def aeL(k:Nat→an→Option (af.D×Unit)):xn:=fun U aa ae ai aq=>k 3 (bj [(2,aw 1),(3,aw 3),(10,hV I U),(11,aZ aa),(12,aZ ae)] (aC 1 af af.own [] ai++aC 3 af af.own [] aq) [.aD])
theorem aeM:Sound Tryz.prog 103 0 Uh:=cE bk (fn:=Tryz.f103) (fns:=[]) trivial (by kernel_rfl) (by kernel_rfl) aeK aeL EE u3 (fun k x=>ED k x.1) (by kernel_rfl) (fun _=>by kernel_rfl) (fun _=>rfl) (fun _ _=>by kernel_rfl) (fun _=>by kernel_rfl)
def Ui:Entry:=⟨[aW .str],[bp .bool],K4⟩
theorem aeN:Sound Tryz.prog 179 0 Ui:=cL bk (fn:=Tryz.f179) (fns:=[(133,FJ)]) ⟨Mt,trivial⟩ (by kernel_rfl) (by kernel_rfl) fun _=>by kernel_rfl
def Uj:Entry:=⟨[ga af,aW (.int .i64)],[bp (.int .i64)],EG⟩
def aeO:List (Nat×b0):=[(2,⟨[(1,aM),(12,.cell (.b2 I [])),(13,aM),(14,aM)],[],[.drop,.drop]⟩),(5,⟨[(1,aM),(6,.ptr 1),(12,.cell (.b2 I [])),(13,aM),(14,aM),(19,.cell (.b2 ax [])),(20,aM),(21,aM)],aA 1 I .R [],[.drop,.drop]⟩)]
def aeP(k:Nat→an→Option (Int×Unit)):u4:=⟨fun U aa ae ai=>k 2 (bj [(1,aZ U),(12,hV I aa),(13,aZ ae),(14,aZ ai)] [] [.aD,.aD]),fun U aa ae ai aq aE bh bW=>k 5 (bj [(1,aZ U),(6,aw 1),(12,hV I aa),(13,aZ ae),(14,aZ ai),(19,hV ax aq),(20,aZ aE),(21,aZ bh)] (aC 1 I .R [] bW) [.aD,.aD])⟩
theorem aeQ:Sound Tryz.prog 61 0 Uj:=cE bk (fn:=Tryz.f61) (fns:=[]) trivial (by kernel_rfl) (by kernel_rfl) aeO aeP SD kF (fun k x=>EF k x.1 x.2.1) (by kernel_rfl) (fun _=>by kernel_rfl) (fun _=>rfl) (fun _ _=>by kernel_rfl) (fun _=>by kernel_rfl)
def FQ:Entry:=⟨[aW aI,aW (.int .i64)],[bp .bool],u7⟩
theorem MB:Sound Tryz.prog 173 0 FQ:=cL bk (fn:=Tryz.f173) (fns:=[(96,Ab),(101,Ac)]) ⟨FL,FP,trivial⟩ (by kernel_rfl) (by kernel_rfl) fun _=>by kernel_rfl
def xx:Entry:=⟨[aW aI,aW I,aW (.int .i64)],[bp .bool],pR⟩
theorem Ad:Sound Tryz.prog 171 0 xx:=cL bk (fn:=Tryz.f171) (fns:=[(93,kG),(101,Ac),(173,FQ)]) ⟨ld,FP,MB,trivial⟩ (by kernel_rfl) (by kernel_rfl) fun _=>by kernel_rfl
def MC:Entry:=⟨[ga I,aW .str],[bp (.int .i64)],EK⟩
def aeR:List (Nat×b0):=[(2,⟨[(1,aM),(10,.cell (.b2 ax [])),(11,aM),(12,aM)],[],[.drop,.drop]⟩)]
def aeS(k:Nat→an→Option (Int×Unit)):EH:=fun U aa ae ai=>k 2 (bj [(1,e6 U),(10,hV ax aa),(11,aZ ae),(12,aZ ai)] [] [.aD,.aD])
theorem Uk:Sound Tryz.prog 181 0 MC:=cE bk (fn:=Tryz.f181) (fns:=[]) trivial (by kernel_rfl) (by kernel_rfl) aeR aeS EJ sq (fun k x=>EI k x.1 x.2.1) (by kernel_rfl) (fun _=>by kernel_rfl) (fun _=>rfl) (fun _ _=>by kernel_rfl) (fun _=>by kernel_rfl)
def Ul:Entry:=⟨[aW .str,aW (.int .i64)],[ro (.sl .str)],SE⟩
theorem aeT:hU Tryz.prog 208 0 Ul:=RO fun _=>rfl
def Um:Entry:=⟨[aW .str,aW (.int .u8)],[bp (.int .i64)],SF⟩
theorem aeU:hU Tryz.prog 220 0 Um:=abD Tryz.func220 (by kernel_rfl) (by kernel_rfl) (by kernel_rfl) (by kernel_rfl)
def Un:Entry:=⟨[aW .str,aW (.int .u8)],[bp (.int .i64)],SG⟩
theorem aeV:Sound Tryz.prog 216 0 Un:=cL bk (fn:=Tryz.f216) (fns:=[(220,Um)]) ⟨aeU,trivial⟩ (by kernel_rfl) (by kernel_rfl) fun _=>by kernel_rfl
def Uo:Entry:=⟨[aW .str,aW .str],[bp (.int .i64)],SH⟩
theorem aeW:Sound Tryz.prog 214 0 Uo:=cL bk (fn:=Tryz.f214) (fns:=[(216,Un)]) ⟨aeV,trivial⟩ (by kernel_rfl) (by kernel_rfl) fun _=>by kernel_rfl
def MD:Entry:=⟨[aW .str,aW .str],[bp (.int .i64)],EL⟩
theorem Up:Sound Tryz.prog 210 0 MD:=cL bk (fn:=Tryz.f210) (fns:=[(214,Uo)]) ⟨aeW,trivial⟩ (by kernel_rfl) (by kernel_rfl) fun _=>by kernel_rfl
def Uq:Entry:=⟨[aW .str],[bp (.int .i64)],SI⟩
theorem aeX:hU Tryz.prog 211 0 Uq:=RO fun _=>rfl
def Ur:Entry:=⟨[aW .str,aW (.int .u8)],[bp (.int .i64)],SJ⟩
theorem aeY:hU Tryz.prog 213 0 Ur:=abE Tryz.func213 (by kernel_rfl) (by kernel_rfl) (by kernel_rfl) (by kernel_rfl)
def Us:Entry:=⟨[aW .str,aW .str],[bp (.int .i64)],K9⟩
def aeZ:List (Nat×b0):=[(6,⟨[(0,aM),(1,aM),(5,aM)],[],[.drop,.drop]⟩)]
def ae0(k:Nat→an→Option (Int×Unit)):EM:=fun U aa ae=>k 6 (bj [(0,e6 U),(1,e6 aa),(5,aZ ae)] [] [.aD,.aD])
theorem ae1:Sound Tryz.prog 209 0 Us:=cE bk (fn:=Tryz.f209) (fns:=[(210,MD),(211,Uq),(213,Ur)]) ⟨Up,aeX,aeY,trivial⟩ (by kernel_rfl) (by kernel_rfl) aeZ ae0 SK EO (fun k x=>EN k x.1 x.2.1) (by kernel_rfl) (fun _=>by kernel_rfl) (fun _=>rfl) (fun _ _=>by kernel_rfl) (fun _=>by kernel_rfl)
def Ut:Entry:=⟨[aW .str,aW .str,aW (.int .i64),aW (.int .i64)],[ro (.sl .str)],La⟩
def ae2:List (Nat×b0):=[(7,⟨[(0,aM),(1,aM),(2,aM),(3,aM)],[],[.drop,.drop,.drop,.drop]⟩),(11,⟨[(0,aM),(1,aM),(2,aM),(3,aM),(9,.cell (.ag 1)),(10,aM)],[(1,.row .str .R)],[.drop,.drop,.drop,.drop]⟩),(17,⟨[(0,aM),(9,.cell (.ag 1)),(10,aM)],[(1,.row .str .R)],[.drop,.drop,.drop,.drop]⟩)]
def ae3(k:Nat→an→Option (pS)):qX:=⟨fun U aa ae ai=>k 7 (bj [(0,e6 U),(1,e6 aa),(2,aZ ae),(3,aZ ai)] [] [.aD,.aD,.aD,.aD]),fun U aa ae ai aq aE=>k 11 (bj [(0,e6 U),(1,e6 aa),(2,aZ ae),(3,aZ ai),(9,.aU (.ag 1 none)),(10,aZ aq)] [(1,.row .str .R 0 aE)] [.aD,.aD,.aD,.aD]),fun U aa ae=>k 17 (bj [(0,e6 U),(9,.aU (.ag 1 none)),(10,aZ aa)] [(1,.row .str .R 0 ae)] [.aD,.aD,.aD,.aD])⟩
theorem ae4:Sound Tryz.prog 207 0 Ut:=cE bk (fn:=Tryz.f207) (fns:=[(208,Ul),(209,Us),(210,MD)]) ⟨aeT,ae1,Up,trivial⟩ (by kernel_rfl) (by kernel_rfl) ae2 ae3 SM qY (fun k x=>EP k x.1 x.2.1 x.2.2.1 x.2.2.2.1) (by kernel_rfl) (fun _=>by kernel_rfl) (fun _=>rfl) (fun _ _=>by kernel_rfl) (fun _=>by kernel_rfl)
def Uu:Entry:=⟨[aW .str,aW .str],[ro (.sl .str)],Lc⟩
theorem ae5:Sound Tryz.prog 200 0 Uu:=cL bk (fn:=Tryz.f200) (fns:=[(207,Ut)]) ⟨ae4,trivial⟩ (by kernel_rfl) (by kernel_rfl) fun _=>by kernel_rfl
def Uv:Entry:=⟨[aW .str],[ro (.sl .str)],su⟩
def ae6:List (Nat×b0):=[(3,⟨[(3,.cell (.ag 1)),(8,.cell (.ag 2)),(9,aM),(10,aM)],[(1,.row .str .R),(2,.row .str .R)],[.drop]⟩)]
def ae7(k:Nat→an→Option (zP)):ER:=fun U aa ae ai=>k 3 (bj [(3,.aU (.ag 1 none)),(8,.aU (.ag 2 none)),(9,aZ U),(10,aZ aa)] [(1,.row .str .R 0 ae),(2,.row .str .R 0 ai)] [.aD])
theorem ae8:Sound Tryz.prog 192 0 Uv:=cE bk (fn:=Tryz.f192) (fns:=[(200,Uu)]) ⟨ae5,trivial⟩ (by kernel_rfl) (by kernel_rfl) ae6 ae7 ET sr (fun k x=>ES k x.1) (by kernel_rfl) (fun _=>by kernel_rfl) (fun _=>rfl) (fun _ _=>by kernel_rfl) (fun _=>by kernel_rfl)
def Uw:Entry:=⟨[ga af,aW aI,aW .str,aW .bool],[bp aV],Ld⟩
def ae9:List (Nat×b0):=[(3,⟨[(0,.dj [] (r5 af .R [] 0)),(3,aM),(5,.ptr 1),(8,.ptr 2),(9,.cell (.au 3)),(10,aM),(11,aM)],aA 1 aI .R []++aA 2 aV .R []++[(3,.row .str .R)],[.drop,.drop,.drop,.drop]⟩)]
def ae_(k:Nat→an→Option (aV.D×Unit)):sv:=fun U aa ae ai aq aE bh bW cB=>k 3 (bj [(0,.dj (pI []) (aU af .R [] U 0) 0),(3,jI aa),(5,aw 1),(8,aw 2),(9,.aU (.ag 3 (some (ae,ai)))),(10,aZ aq),(11,aZ aE)] (aC 1 aI .R [] bh++aC 2 aV .R [] bW++[(3,.row .str .R 0 cB)]) [.aD,.aD,.aD,.aD])
theorem ae':Sound Tryz.prog 180 0 Uw:=cE bk (fn:=Tryz.f180) (fns:=[(56,mP),(61,Uj),(171,xx),(181,MC),(192,Uv)]) ⟨nT,aeQ,Ad,Uk,ae8,trivial⟩ (by kernel_rfl) (by kernel_rfl) ae9 ae_ l0 gn (fun k x=>EU k x.1 x.2.1 x.2.2.1 x.2.2.2.1) (by kernel_rfl) (fun _=>by kernel_rfl) (fun _=>rfl) (fun _ _=>by kernel_rfl) (fun _=>by kernel_rfl)
def xy:Entry:=⟨[ga aL,aW .str,aW .bool],[bp aV],k_⟩
theorem Ae:Sound Tryz.prog 164 0 xy:=cL bk (fn:=Tryz.f164) (fns:=[(179,Ui),(180,Uw)]) ⟨aeN,ae',trivial⟩ (by kernel_rfl) (by kernel_rfl) fun _=>by kernel_rfl
def ME:Entry:=⟨[ga aL,aW .str],[bp aV,bp (.int .i64)],u9⟩
theorem Ux:Sound Tryz.prog 160 0 ME:=cL bk (fn:=Tryz.f160) (fns:=[(164,xy)]) ⟨Ae,trivial⟩ (by kernel_rfl) (by kernel_rfl) fun _=>by kernel_rfl
def Af:Entry:=⟨[ga aL,aW (.int .i64)],[bp .bool],nN⟩
theorem FR:Sound Tryz.prog 161 0 Af:=cL bk (fn:=Tryz.f161) (fns:=[(56,mP),(171,xx)]) ⟨nT,Ad,trivial⟩ (by kernel_rfl) (by kernel_rfl) fun _=>by kernel_rfl
def Uy:Entry:=⟨[td (.sl ax),aW (.int .i64),td (.sl ax)],[ro (.sl ax)],SS⟩
theorem afa:hU Tryz.prog 178 0 Uy:=ins_soundX
def FT:Entry:=⟨[.«mut» aL cl cl,aW (.int .i64),aW .str,aW (.int .i64)],[],sx⟩
def afb:List (Nat×b0):=[(2,⟨[(2,aM),(3,aM),(8,.opt 1),(9,aM)],[(1,.row I mO),(2,.var [.keep,.ag 1,.keep,.keep,.b2 (.int .i64) [],.keep,.keep,.keep,.keep,.keep,.keep])],[.ptr 2,.drop,.drop,.drop]⟩),(4,⟨[(2,aM),(3,aM),(8,.opt 1),(9,aM)],[(1,.row I mO),(2,.var [.keep,.ag 1,.keep,.keep,.b2 (.int .i64) [],.keep,.keep,.keep,.keep,.keep,.keep])],[.ptr 2,.drop,.drop,.drop]⟩)]
def afc(k:Nat→an→Option (aL.D×Unit)):u_:=⟨fun U aa ae ai aq=>k 2 (bj [(2,e6 U),(3,aZ aa),(8,.opt 1 ae),(9,aZ ai)] ([(1,.row I mO 0 aq.1.2.1),(2,.var 0 [.int .i64 aq.1.1,.ag 1 none,.int .i64 aq.2.1.1,.int .i64 aq.2.1.2.1,.b2 (.int .i64) [] none aq.2.1.2.2.1,.int .i64 aq.2.2.1.1,.str aq.2.2.1.2.1,.str aq.2.2.1.2.2.1,.int .i64 aq.2.2.1.2.2.2.1,.int .i64 aq.2.2.1.2.2.2.2.1,.str aq.2.2.1.2.2.2.2.2.1])]) [aw 2,.aD,.aD,.aD]),fun U aa ae ai aq=>k 4 (bj [(2,e6 U),(3,aZ aa),(8,.opt 1 ae),(9,aZ ai)] ([(1,.row I mO 0 aq.1.2.1),(2,.var 0 [.int .i64 aq.1.1,.ag 1 none,.int .i64 aq.2.1.1,.int .i64 aq.2.1.2.1,.b2 (.int .i64) [] none aq.2.1.2.2.1,.int .i64 aq.2.2.1.1,.str aq.2.2.1.2.1,.str aq.2.2.1.2.2.1,.int .i64 aq.2.2.1.2.2.2.1,.int .i64 aq.2.2.1.2.2.2.2.1,.str aq.2.2.1.2.2.2.2.2.1])]) [aw 2,.aD,.aD,.aD])⟩
theorem MF:Sound Tryz.prog 162 0 FT:=cE bk (fn:=Tryz.f162) (fns:=[(178,Uy),(56,FK)]) ⟨afa,Mu,trivial⟩ (by kernel_rfl) (by kernel_rfl) afb afc SU sw (fun k x=>EV k x.1 x.2.1 x.2.2.1 x.2.2.2.1) (by kernel_rfl) (fun _=>by kernel_rfl) (fun _=>rfl) (fun _ _=>by kernel_rfl) (fun _=>by kernel_rfl)
def xz:Entry:=⟨[ga aL],[bp (.int .i64)],nO⟩
theorem Ag:Sound Tryz.prog 163 0 xz:=cL bk (fn:=Tryz.f163) (fns:=[(98,FO),(100000099,Mz)]) ⟨Mx,Ub,trivial⟩ (by kernel_rfl) (by kernel_rfl) fun _=>by kernel_rfl
def Uz:Entry:=⟨[.«mut» aL cl cl],[bp (.int .i64)],zS⟩
def afd:List (Nat×b0):=[(4,⟨[(0,.ptr 1),(3,.ptr 3)],aA 1 aL cl []++aA 3 aH .R [],[.ptr 1]⟩),(23,⟨[(0,.ptr 1),(4,.ptr 3),(7,.ptr 4)],aA 1 aL cl []++aA 3 aV .R []++aA 4 I I.own [],[.ptr 1]⟩)]
def afe(k:Nat→an→Option (Int×aL.D×Unit)):u':=⟨fun U aa=>k 4 (bj [(0,aw 1),(3,aw 3)] (aC 1 aL cl [] U++aC 3 aH .R [] aa) [aw 1]),fun U aa ae=>k 23 (bj [(0,aw 1),(4,aw 3),(7,aw 4)] (aC 1 aL cl [] U++aC 3 aV .R [] aa++aC 4 I I.own [] ae) [aw 1])⟩
theorem aff:Sound Tryz.prog 139 0 Uz:=cE bk (fn:=Tryz.f139) (fns:=[(56,mP),(93,kG),(133,FJ),(160,ME),(161,Af),(162,FT),(163,xz)]) ⟨nT,ld,Mt,Ux,FR,MF,Ag,trivial⟩ (by kernel_rfl) (by kernel_rfl) afd afe SV la (fun k x=>EW k x.1) (by kernel_rfl) (fun _=>by kernel_rfl) (fun _=>rfl) (fun _ _=>by kernel_rfl) (fun _=>by kernel_rfl)
def FU:Entry:=⟨[aW aI,aW I,aW I],[bp .bool],sy⟩
theorem MG:Sound Tryz.prog 165 0 FU:=cL bk (fn:=Tryz.f165) (fns:=[(101,Ac)]) ⟨FP,trivial⟩ (by kernel_rfl) (by kernel_rfl) fun _=>by kernel_rfl
def MH:Entry:=⟨[aW ax,ga .str],[bp .bool],EX⟩
theorem UA:Sound Tryz.prog 183 0 MH:=cL bk (fn:=Tryz.f183) (fns:=[]) trivial (by kernel_rfl) (by kernel_rfl) fun _=>by kernel_rfl
def UB:Entry:=⟨[aW (.sl ax),.fn 0 1,ga .str],[bp (.int .i64)],Lk⟩
def afg:List (Nat×b0):=[(2,⟨[(0,.cell (.b2 ax [])),(1,.vG [] [[.keep]]),(7,aM),(8,aM)],[],[.drop,.drop,.drop]⟩)]
def afh(k:Nat→an→Option (Int×Unit)):EY:=fun U aa ae ai=>k 2 (bj [(0,hV ax U),(1,.fn 183 [] [.dj [] [.str aa] 0]),(7,aZ ae),(8,aZ ai)] [] [.aD,.aD,.aD])
theorem afi:Sound Tryz.prog 193 183 UB:=vH bk 183 (fn:=Tryz.f193) (fns:=[(183,MH)]) ⟨UA,trivial⟩ (by kernel_rfl) (by kernel_rfl) afg afh EZ xp (fun k x=>SW k x.1 x.2.1) (by kernel_rfl) (fun _=>by kernel_rfl) (fun _=>rfl) (fun _ _=>by kernel_rfl) (fun _=>by kernel_rfl)
def UC:Entry:=⟨[td (.sl ax),.fn 0 1,ga .str],[ro (.sl ax)],E3⟩
def afj:List (Nat×b0):=[(5,⟨[(0,.cell (.ag 1)),(1,.vG [] [[.keep]]),(5,aM),(6,aM)],[(1,.row ax .R)],[.drop,.drop,.drop]⟩)]
def afk(k:Nat→an→Option (xq)):E0:=fun U aa ae ai=>k 5 (bj [(0,.aU (.ag 1 none)),(1,.fn 183 [] [.dj [] [.str U] 0]),(5,aZ aa),(6,aZ ae)] [(1,.row ax .R 0 ai)] [.aD,.aD,.aD])
theorem afl:Sound Tryz.prog 182 183 UC:=vH bk 183 (fn:=Tryz.f182) (fns:=[(183,MH),(183000193,UB)]) ⟨UA,afi,trivial⟩ (by kernel_rfl) (by kernel_rfl) afj afk E2 xr (fun k x=>E1 k x.1 x.2.1) (by kernel_rfl) (fun _=>by kernel_rfl) (fun _=>rfl) (fun _ _=>by kernel_rfl) (fun _=>by kernel_rfl)
def UD:Entry:=⟨[td (.sl I),.fn 0 1,ga (.int .i64)],[ro (.sl I)],SY⟩
theorem afm:hU Tryz.prog 184 185 UD:=abF (T:=I) (T':=o_.eE) (p:=fun y i => !(y.1==i)) (p':=fun y i => !o_.jf y i) rfl (fun x y i h=>by rw [show x.1=y.1 from h.1];rfl) (fq:=o_.Hm) o_.Yf.x (fun ys i h=>o_.del_eq ys i h)
def MI:Entry:=⟨[.«mut» aL cl cl,aW (.int .i64),aW .str,aW .bool],[],oU⟩
theorem UE:Sound Tryz.prog 166 0 MI:=cL bk (fn:=Tryz.f166) (fns:=[(97,FN),(181,MC),(183000182,UC),(185000184,UD),(56,FK)]) ⟨Mw,Uk,afl,afm,Mu,trivial⟩ (by kernel_rfl) (by kernel_rfl) fun _=>by kernel_rfl
def UF:Entry:=⟨[.«mut» aL cl cl],[bp (.int .i64)],E5⟩
def afn:List (Nat×b0):=[(5,⟨[(0,.ptr 1),(3,.ptr 3),(4,.ptr 4)],aA 1 aL cl []++aA 3 aV .R []++aA 4 I .R [2,1],[.ptr 1]⟩),(7,⟨[(0,.ptr 1),(3,.ptr 3),(4,.ptr 4)],aA 1 aL cl []++aA 3 aV .R []++aA 4 I .R [2,1],[.ptr 1]⟩),(9,⟨[(0,.ptr 1),(3,.ptr 3),(4,.ptr 4)],aA 1 aL cl []++aA 3 aV .R []++aA 4 I .R [2,1],[.ptr 1]⟩),(11,⟨[(0,.ptr 1),(3,.ptr 3),(4,.ptr 4)],aA 1 aL cl []++aA 3 aV .R []++aA 4 I .R [2,1],[.ptr 1]⟩)]
def afo(k:Nat→an→Option (Int×aL.D×Unit)):q0:=⟨fun U aa ae=>k 5 (bj [(0,aw 1),(3,aw 3),(4,aw 4)] (aC 1 aL cl [] U++aC 3 aV .R [] aa++aC 4 I .R [2,1] ae) [aw 1]),fun U aa ae=>k 7 (bj [(0,aw 1),(3,aw 3),(4,aw 4)] (aC 1 aL cl [] U++aC 3 aV .R [] aa++aC 4 I .R [2,1] ae) [aw 1]),fun U aa ae=>k 9 (bj [(0,aw 1),(3,aw 3),(4,aw 4)] (aC 1 aL cl [] U++aC 3 aV .R [] aa++aC 4 I .R [2,1] ae) [aw 1]),fun U aa ae=>k 11 (bj [(0,aw 1),(3,aw 3),(4,aw 4)] (aC 1 aL cl [] U++aC 3 aV .R [] aa++aC 4 I .R [2,1] ae) [aw 1])⟩
theorem afp:Sound Tryz.prog 140 0 UF:=cE bk (fn:=Tryz.f140) (fns:=[(56,mP),(161,Af),(164,xy),(165,FU),(166,MI)]) ⟨nT,FR,Ae,MG,UE,trivial⟩ (by kernel_rfl) (by kernel_rfl) afn afo SZ oV (fun k x=>E4 k x.1) (by kernel_rfl) (fun _=>by kernel_rfl) (fun _=>rfl) (fun _ _=>by kernel_rfl) (fun _=>by kernel_rfl)
def MJ:Entry:=⟨[ga af,aW (.int .i64)],[bp .bool],va⟩
theorem UG:Sound Tryz.prog 59 0 MJ:=cL bk (fn:=Tryz.f59) (fns:=[(56,mP)]) ⟨nT,trivial⟩ (by kernel_rfl) (by kernel_rfl) fun _=>by kernel_rfl
def UH:Entry:=⟨[.«mut» aL cl cl],[bp (.int .i64)],E6⟩
theorem afq:Sound Tryz.prog 141 0 UH:=cL bk (fn:=Tryz.f141) (fns:=[(56,mP),(59,MJ),(160,ME),(161,Af),(162,FT),(163,xz),(164,xy)]) ⟨nT,UG,Ux,FR,MF,Ag,Ae,trivial⟩ (by kernel_rfl) (by kernel_rfl) fun _=>by kernel_rfl
def UI:Entry:=⟨[ga aL,aW I,aW aV],[bp (.int .i64)],E7⟩
theorem afr:Sound Tryz.prog 167 0 UI:=cL bk (fn:=Tryz.f167) (fns:=[(56,mP),(165,FU)]) ⟨nT,MG,trivial⟩ (by kernel_rfl) (by kernel_rfl) fun _=>by kernel_rfl
def UJ:Entry:=⟨[.«mut» aL cl cl],[bp (.int .i64)],E9⟩
def afs:List (Nat×b0):=[(7,⟨[(0,.ptr 1),(3,.ptr 3),(4,.ptr 4)],aA 1 aL cl []++aA 3 aV .R []++aA 4 aV .R [],[.ptr 1]⟩),(10,⟨[(0,.ptr 1),(3,.ptr 3),(4,.ptr 4),(5,.ptr 5)],aA 1 aL cl []++aA 3 aV .R []++aA 4 aV .R []++aA 5 I .R [2,1],[.ptr 1]⟩),(16,⟨[(0,.ptr 1),(3,.ptr 3),(4,.ptr 4),(5,.ptr 5)],aA 1 aL cl []++aA 3 aV .R []++aA 4 aV .R []++aA 5 I .R [2,1],[.ptr 1]⟩),(25,⟨[(0,.ptr 1),(3,.ptr 3),(4,.ptr 4)],aA 1 aL cl []++aA 3 aV .R []++aA 4 aV .R [],[.ptr 1]⟩)]
def aft(k:Nat→an→Option (Int×aL.D×Unit)):q1:=⟨fun U aa ae=>k 7 (bj [(0,aw 1),(3,aw 3),(4,aw 4)] (aC 1 aL cl [] U++aC 3 aV .R [] aa++aC 4 aV .R [] ae) [aw 1]),fun U aa ae ai=>k 10 (bj [(0,aw 1),(3,aw 3),(4,aw 4),(5,aw 5)] (aC 1 aL cl [] U++aC 3 aV .R [] aa++aC 4 aV .R [] ae++aC 5 I .R [2,1] ai) [aw 1]),fun U aa ae ai=>k 16 (bj [(0,aw 1),(3,aw 3),(4,aw 4),(5,aw 5)] (aC 1 aL cl [] U++aC 3 aV .R [] aa++aC 4 aV .R [] ae++aC 5 I .R [2,1] ai) [aw 1]),fun U aa ae=>k 25 (bj [(0,aw 1),(3,aw 3),(4,aw 4)] (aC 1 aL cl [] U++aC 3 aV .R [] aa++aC 4 aV .R [] ae) [aw 1])⟩
theorem afu:Sound Tryz.prog 142 0 UJ:=cE bk (fn:=Tryz.f142) (fns:=[(56,mP),(95,FM),(96,Ab),(161,Af),(162,FT),(163,xz),(164,xy),(165,FU),(166,MI),(167,UI)]) ⟨nT,Mv,FL,FR,MF,Ag,Ae,MG,UE,afr,trivial⟩ (by kernel_rfl) (by kernel_rfl) afs aft S0 ja (fun k x=>E8 k x.1) (by kernel_rfl) (fun _=>by kernel_rfl) (fun _=>rfl) (fun _ _=>by kernel_rfl) (fun _=>by kernel_rfl)
def q8:Entry:=⟨[.«mut» aL cl cl,aW .bool],[.opt 0 1 I,bp (.int .i64)],mM⟩
theorem sF:Sound Tryz.prog 170 0 q8:=cL bk (fn:=Tryz.f170) (fns:=[(164,xy),(56,FK)]) ⟨Ae,Mu,trivial⟩ (by kernel_rfl) (by kernel_rfl) fun _=>by kernel_rfl
def MK:Entry:=⟨[.«mut» aL cl cl,aW (.int .i64)],[.opt 0 1 I,bp (.int .i64)],zU⟩
theorem UK:Sound Tryz.prog 168 0 MK:=cL bk (fn:=Tryz.f168) (fns:=[(170,q8),(171,xx)]) ⟨sF,Ad,trivial⟩ (by kernel_rfl) (by kernel_rfl) fun _=>by kernel_rfl
def UL:Entry:=⟨[.«mut» aL cl cl],[bp aG],E_⟩
theorem afv:Sound Tryz.prog 143 0 UL:=cL bk (fn:=Tryz.f143) (fns:=[(54,sE),(168,MK)]) ⟨vi,UK,trivial⟩ (by kernel_rfl) (by kernel_rfl) fun _=>by kernel_rfl
def UM:Entry:=⟨[aW .str,aW (.int .i64)],[bp .str],strings_Repeat⟩
theorem afw:hU Tryz.prog 186 0 UM:=rep_soundX
def UN:Entry:=⟨[aW .str,aW (.int .i64)],[bp .str],E'⟩
theorem afx:Sound Tryz.prog 169 0 UN:=cL bk (fn:=Tryz.f169) (fns:=[(186,UM)]) ⟨afw,trivial⟩ (by kernel_rfl) (by kernel_rfl) fun _=>by kernel_rfl
def UO:Entry:=⟨[.«mut» aL cl cl],[bp (.int .i64)],Fb⟩
def afy:List (Nat×b0):=[(7,⟨[(0,.ptr 1),(3,.opt 2),(5,aM)],aA 1 aL cl [],[.ptr 1]⟩),(11,⟨[(0,.ptr 1),(3,.opt 2),(5,aM)],aA 1 aL cl [],[.ptr 1]⟩),(18,⟨[(0,.ptr 1),(3,.opt 2),(6,aM)],aA 1 aL cl [],[.ptr 1]⟩)]
def afz(k:Nat→an→Option (Int×aL.D×Unit)):sA:=⟨fun U aa ae=>k 7 (bj [(0,aw 1),(3,.opt 2 U),(5,aZ aa)] (aC 1 aL cl [] ae) [aw 1]),fun U aa ae=>k 11 (bj [(0,aw 1),(3,.opt 2 U),(5,aZ aa)] (aC 1 aL cl [] ae) [aw 1]),fun U aa ae=>k 18 (bj [(0,aw 1),(3,.opt 2 U),(6,e6 aa)] (aC 1 aL cl [] ae) [aw 1])⟩
theorem afA:Sound Tryz.prog 144 0 UO:=cE bk (fn:=Tryz.f144) (fns:=[(163,xz),(168,MK),(169,UN)]) ⟨Ag,UK,afx,trivial⟩ (by kernel_rfl) (by kernel_rfl) afy afz S4 gC (fun k x=>Fa k x.1) (by kernel_rfl) (fun _=>by kernel_rfl) (fun _=>rfl) (fun _ _=>by kernel_rfl) (fun _=>by kernel_rfl)
def UP:Entry:=⟨[.«mut» aL cl cl],[bp aG],Fc⟩
theorem afB:Sound Tryz.prog 145 0 UP:=cL bk (fn:=Tryz.f145) (fns:=[(54,sE),(170,q8)]) ⟨vi,sF,trivial⟩ (by kernel_rfl) (by kernel_rfl) fun _=>by kernel_rfl
def ML:Entry:=⟨[aW (.sl .str),aW .str],[bp .str],strings_Join⟩
theorem UQ:hU Tryz.prog 172 0 ML:=join_soundX
def UR:Entry:=⟨[aW (.int .i64)],[bp .str],zV⟩
def afC:List (Nat×b0):=[(4,⟨[(0,aM),(3,aM),(4,aM)],[],[.drop]⟩),(7,⟨[(0,aM),(3,aM),(4,aM),(5,aM)],[],[.drop]⟩)]
def afD(k:Nat→an→Option ((List UInt8)×Unit)):vd:=⟨fun U aa ae=>k 4 (bj [(0,aZ U),(3,e6 aa),(4,aZ ae)] [] [.aD]),fun U aa ae ai=>k 7 (bj [(0,aZ U),(3,e6 aa),(4,aZ ae),(5,aZ ai)] [] [.aD])⟩
theorem afE:Sound Tryz.prog 174 0 UR:=cE bk (fn:=Tryz.f174) (fns:=[(93,kG)]) ⟨ld,trivial⟩ (by kernel_rfl) (by kernel_rfl) afC afD S7 mN (fun k x=>S6 k x.1) (by kernel_rfl) (fun _=>by kernel_rfl) (fun _=>rfl) (fun _ _=>by kernel_rfl) (fun _=>by kernel_rfl)
def FV:Entry:=⟨[aW (.sl (.int .i64))],[bp .str],q2⟩
def afF:List (Nat×b0):=[(3,⟨[(3,.cell (.ag 1)),(7,.cell (.b2 (.int .i64) [])),(8,aM),(9,aM)],[(1,.row .str .R)],[.drop]⟩)]
def afG(k:Nat→an→Option ((List UInt8)×Unit)):Fe:=fun U aa ae ai=>k 3 (bj [(3,.aU (.ag 1 none)),(7,hV (.int .i64) U),(8,aZ aa),(9,aZ ae)] [(1,.row .str .R 0 ai)] [.aD])
theorem MM:Sound Tryz.prog 151 0 FV:=cE bk (fn:=Tryz.f151) (fns:=[(172,ML),(174,UR)]) ⟨UQ,afE,trivial⟩ (by kernel_rfl) (by kernel_rfl) afF afG Ff ve (fun k x=>S8 k x.1) (by kernel_rfl) (fun _=>by kernel_rfl) (fun _=>rfl) (fun _ _=>by kernel_rfl) (fun _=>by kernel_rfl)
def US:Entry:=⟨[.«mut» aL cl cl],[bp aG],zX⟩
def afH:List (Nat×b0):=[(13,⟨[(2,.ptr 1),(7,.cell (.ag 2)),(73,.cell (.b2 ax [3])),(74,aM),(75,aM)],aA 1 aG .R []++[(2,.row .str .R),(3,.row I mO),(4,.var [.keep,.ag 3,.keep,.keep,.b2 (.int .i64) [],.keep,.keep,.keep,.keep,.keep,.keep])],[.ptr 4]⟩)]
def afI(k:Nat→an→Option (zW)):Fg:=fun U aa ae ai aq aE=>k 13 (bj [(2,aw 1),(7,.aU (.ag 2 none)),(73,.aU (.b2 ax (pI [3]) none U)),(74,aZ aa),(75,aZ ae)] (aC 1 aG .R [] ai++[(2,.row .str .R 0 aq),(3,.row I mO 0 aE.1.2.1),(4,.var 0 [.int .i64 aE.1.1,.ag 3 none,.int .i64 aE.2.1.1,.int .i64 aE.2.1.2.1,.b2 (.int .i64) [] none aE.2.1.2.2.1,.int .i64 aE.2.2.1.1,.str aE.2.2.1.2.1,.str aE.2.2.1.2.2.1,.int .i64 aE.2.2.1.2.2.2.1,.int .i64 aE.2.2.1.2.2.2.2.1,.str aE.2.2.1.2.2.2.2.2.1])]) [aw 4])
theorem afJ:Sound Tryz.prog 146 0 US:=cE bk (fn:=Tryz.f146) (fns:=[(54,sE),(60,My),(151,FV),(170,q8),(171,xx),(172,ML)]) ⟨vi,T9,MM,sF,Ad,UQ,trivial⟩ (by kernel_rfl) (by kernel_rfl) afH afI Fi q3 (fun k x=>Fh k x.1) (by kernel_rfl) (fun _=>by kernel_rfl) (fun _=>rfl) (fun _ _=>by kernel_rfl) (fun _=>by kernel_rfl)
def MN:Entry:=⟨[ga af,aW I],[bp (.int .i64)],Fm⟩
def afK:List (Nat×b0):=[(5,⟨[(0,.dj [] (r5 af .R [] 0)),(5,aM),(16,.cell (.b2 ax [])),(17,aM),(18,aM)],[],[.drop,.drop]⟩)]
def afL(k:Nat→an→Option (Int×Unit)):Fj:=fun U aa ae ai aq=>k 5 (bj [(0,.dj (pI []) (aU af .R [] U 0) 0),(5,aZ aa),(16,hV ax ae),(17,aZ ai),(18,aZ aq)] [] [.aD,.aD])
theorem UT:Sound Tryz.prog 57 0 MN:=cE bk (fn:=Tryz.f57) (fns:=[(59,MJ),(97,FN)]) ⟨UG,Mw,trivial⟩ (by kernel_rfl) (by kernel_rfl) afK afL Fl sB (fun k x=>Fk k x.1 x.2.1) (by kernel_rfl) (fun _=>by kernel_rfl) (fun _=>rfl) (fun _ _=>by kernel_rfl) (fun _=>by kernel_rfl)
def UU:Entry:=⟨[.«mut» aL cl cl],[bp aG],zY⟩
theorem afM:Sound Tryz.prog 147 0 UU:=cL bk (fn:=Tryz.f147) (fns:=[(54,sE),(57,MN),(93,kG),(151,FV),(170,q8)]) ⟨vi,UT,ld,MM,sF,trivial⟩ (by kernel_rfl) (by kernel_rfl) fun _=>by kernel_rfl
def UW:Entry:=⟨[.«mut» aL cl cl],[bp (.int .i64)],Fq⟩
def afN:List (Nat×b0):=[(8,⟨[(0,.ptr 1),(3,.opt 2)],aA 1 aL cl [],[.ptr 1]⟩)]
def afO(k:Nat→an→Option (Int×aL.D×Unit)):Fo:=fun U aa=>k 8 (bj [(0,aw 1),(3,.opt 2 U)] (aC 1 aL cl [] aa) [aw 1])
theorem afP:Sound Tryz.prog 148 0 UW:=cE bk (fn:=Tryz.f148) (fns:=[(93,kG),(170,q8),(173,FQ)]) ⟨ld,sF,MB,trivial⟩ (by kernel_rfl) (by kernel_rfl) afN afO LL q4 (fun k x=>Fp k x.1) (by kernel_rfl) (fun _=>by kernel_rfl) (fun _=>rfl) (fun _ _=>by kernel_rfl) (fun _=>by kernel_rfl)
def UX:Entry:=⟨[.«mut» aL cl cl],[bp (.int .i64)],Fu⟩
def afQ:List (Nat×b0):=[(8,⟨[(0,.ptr 1),(3,.opt 2)],aA 1 aL cl [],[.ptr 1]⟩)]
def afR(k:Nat→an→Option (Int×aL.D×Unit)):Fs:=fun U aa=>k 8 (bj [(0,aw 1),(3,.opt 2 U)] (aC 1 aL cl [] aa) [aw 1])
theorem afS:Sound Tryz.prog 149 0 UX:=cE bk (fn:=Tryz.f149) (fns:=[(93,kG),(170,q8),(173,FQ)]) ⟨ld,sF,MB,trivial⟩ (by kernel_rfl) (by kernel_rfl) afQ afR LO q5 (fun k x=>Ft k x.1) (by kernel_rfl) (fun _=>by kernel_rfl) (fun _=>rfl) (fun _ _=>by kernel_rfl) (fun _=>by kernel_rfl)
def UY:Entry:=⟨[.«mut» aL cl cl],[bp (.int .i64)],Fv⟩
theorem afT:Sound Tryz.prog 150 0 UY:=cL bk (fn:=Tryz.f150) (fns:=[(93,kG),(170,q8),(171,xx)]) ⟨ld,sF,Ad,trivial⟩ (by kernel_rfl) (by kernel_rfl) fun _=>by kernel_rfl
def UZ:Entry:=⟨[.«mut» aL cl cl],[bp (.int .i64)],Fx⟩
theorem afU:Sound Tryz.prog 152 0 UZ:=cL bk (fn:=Tryz.f152) (fns:=[(93,kG),(163,xz),(170,q8)]) ⟨ld,Ag,sF,trivial⟩ (by kernel_rfl) (by kernel_rfl) fun _=>by kernel_rfl
def U0:Entry:=⟨[.«mut» aL cl cl],[bp aG],Fz⟩
def afV:List (Nat×b0):=[(5,⟨[(0,.ptr 1),(2,.ptr 3)],aA 1 aL cl []++aA 3 aG .R [],[.ptr 1]⟩),(6,⟨[(0,.ptr 1),(2,.ptr 3),(7,aM)],aA 1 aL cl []++aA 3 aG .R [],[.ptr 1]⟩),(8,⟨[(0,.ptr 1),(2,.ptr 3)],aA 1 aL cl []++aA 3 aG .R [],[.ptr 1]⟩),(9,⟨[(0,.ptr 1),(2,.ptr 3),(7,aM)],aA 1 aL cl []++aA 3 aG .R [],[.ptr 1]⟩),(18,⟨[(0,.ptr 1),(2,.ptr 3)],aA 1 aL cl []++aA 3 aG .R [],[.ptr 1]⟩),(19,⟨[(0,.ptr 1),(2,.ptr 3),(7,aM)],aA 1 aL cl []++aA 3 aG .R [],[.ptr 1]⟩),(24,⟨[(0,.ptr 1),(2,.ptr 3),(7,aM)],aA 1 aL cl []++aA 3 aG .R [],[.ptr 1]⟩)]
def afW(k:Nat→an→Option (j')):nP:=⟨fun U aa=>k 5 (bj [(0,aw 1),(2,aw 3)] (aC 1 aL cl [] U++aC 3 aG .R [] aa) [aw 1]),fun U aa ae=>k 6 (bj [(0,aw 1),(2,aw 3),(7,aZ U)] (aC 1 aL cl [] aa++aC 3 aG .R [] ae) [aw 1]),fun U aa=>k 8 (bj [(0,aw 1),(2,aw 3)] (aC 1 aL cl [] U++aC 3 aG .R [] aa) [aw 1]),fun U aa ae=>k 9 (bj [(0,aw 1),(2,aw 3),(7,aZ U)] (aC 1 aL cl [] aa++aC 3 aG .R [] ae) [aw 1]),fun U aa=>k 18 (bj [(0,aw 1),(2,aw 3)] (aC 1 aL cl [] U++aC 3 aG .R [] aa) [aw 1]),fun U aa ae=>k 19 (bj [(0,aw 1),(2,aw 3),(7,aZ U)] (aC 1 aL cl [] aa++aC 3 aG .R [] ae) [aw 1]),fun U aa ae=>k 24 (bj [(0,aw 1),(2,aw 3),(7,aZ U)] (aC 1 aL cl [] aa++aC 3 aG .R [] ae) [aw 1])⟩
theorem afX:Sound Tryz.prog 104 0 U0:=cE bk (fn:=Tryz.f104) (fns:=[(54,sE),(98,FO),(139,Uz),(140,UF),(141,UH),(142,UJ),(143,UL),(144,UO),(145,UP),(146,US),(147,UU),(148,UW),(149,UX),(150,UY),(151,FV),(152,UZ)]) ⟨vi,Mx,aff,afp,afq,afu,afv,afA,afB,afJ,afM,afP,afS,afT,MM,afU,trivial⟩ (by kernel_rfl) (by kernel_rfl) afV afW Ta LS (fun k x=>Fy k x.1) (by kernel_rfl) (fun _=>by kernel_rfl) (fun _=>rfl) (fun _ _=>by kernel_rfl) (fun _=>by kernel_rfl)
def U1:Entry:=⟨[aW af,aW aI,aW aH],[ro af,bp aG],LU⟩
theorem afY:Sound Tryz.prog 55 0 U1:=cL bk (fn:=Tryz.f55) (fns:=[(54,sE),(101,Ac),(102,Ug),(103,Uh),(104,U0)]) ⟨vi,FP,aeJ,aeM,afX,trivial⟩ (by kernel_rfl) (by kernel_rfl) fun _=>by kernel_rfl
def U2:Entry:=⟨[aW af,aW aI,aW aH],[ro af,bp aG],gp⟩
theorem afZ:Sound Tryz.prog 15 0 U2:=cL bk (fn:=Tryz.f15) (fns:=[(53,MA),(54,sE),(55,U1)]) ⟨Uc,vi,afY,trivial⟩ (by kernel_rfl) (by kernel_rfl) fun _=>by kernel_rfl
def U3:Entry:=⟨[aW af,aW (.int .i64)],[bp (.int .i64)],FA⟩
theorem af0:Sound Tryz.prog 16 0 U3:=cL bk (fn:=Tryz.f16) (fns:=[(53,MA),(56,mP),(57,MN)]) ⟨Uc,nT,UT,trivial⟩ (by kernel_rfl) (by kernel_rfl) fun _=>by kernel_rfl
def U4:Entry:=⟨[aW af,aW aI,aW aH],[bp af,bp aG],ka⟩
theorem af1:Sound Tryz.prog 13 0 U4:=cL bk (fn:=Tryz.f13) (fns:=[(11,Mr),(20,z7),(51,sC),(52,Mm)]) ⟨T3,FD,vf,TN,trivial⟩ (by kernel_rfl) (by kernel_rfl) fun _=>by kernel_rfl
def U5:Entry:=⟨[],[ro aI],hd⟩
theorem af2:Sound Tryz.prog 14 0 U5:=cL bk (fn:=Tryz.f14) (fns:=[]) trivial (by kernel_rfl) (by kernel_rfl) fun _=>by kernel_rfl
def xA:Entry:=⟨[aW (.sl (.int .u8))],[bp .bool],Tf⟩
def af3:List (Nat×b0):=[(7,⟨[(3,.ptr 1),(6,.ptr 4)],aA 1 af .R [2,3]++[(2,.row (.int .i64) .R),(3,.row I mO)]++aA 4 aG .R [],[.drop]⟩),(8,⟨[(3,.ptr 1),(6,.ptr 4),(7,.ptr 5),(8,.ptr 7)],aA 1 af .R [2,3]++[(2,.row (.int .i64) .R),(3,.row I mO)]++aA 4 aG .R []++aA 5 af af.own []++aA 7 aG .R [],[.drop]⟩),(9,⟨[(3,.ptr 1),(6,.ptr 4),(7,.ptr 5),(8,.ptr 7),(10,.ptr 8)],aA 1 af .R [2,3]++[(2,.row (.int .i64) .R),(3,.row I mO)]++aA 4 aG .R []++aA 5 af af.own []++aA 7 aG .R []++aA 8 aG .R [],[.drop]⟩),(15,⟨[(7,.ptr 1),(11,aM),(12,.ptr 3),(13,.ptr 5)],aA 1 af af.own []++aA 3 af af.own []++aA 5 aG .R [],[.drop]⟩),(16,⟨[(7,.ptr 1),(11,aM),(12,.ptr 3),(13,.ptr 5),(15,.ptr 6)],aA 1 af af.own []++aA 3 af af.own []++aA 5 aG .R []++aA 6 aG .R [],[.drop]⟩),(17,⟨[(7,.ptr 1),(11,aM),(13,.ptr 3),(15,.ptr 4),(16,.ptr 5),(17,.ptr 7)],aA 1 af af.own []++aA 3 aG .R []++aA 4 aG .R []++aA 5 af af.own []++aA 7 aG .R [],[.drop]⟩),(18,⟨[(7,.ptr 1),(11,aM),(13,.ptr 3),(15,.ptr 4),(16,.ptr 5),(17,.ptr 7),(19,.ptr 8)],aA 1 af af.own []++aA 3 aG .R []++aA 4 aG .R []++aA 5 af af.own []++aA 7 aG .R []++aA 8 aG .R [],[.drop]⟩)]
def af4(k:Nat→an→Option (Bool×Unit)):nQ:=⟨fun U aa ae ai=>k 7 (bj [(3,aw 1),(6,aw 4)] (aC 1 af .R [2,3] U++[(2,.row (.int .i64) .R 0 aa),(3,.row I mO 0 ae)]++aC 4 aG .R [] ai) [.aD]),fun U aa ae ai aq aE=>k 8 (bj [(3,aw 1),(6,aw 4),(7,aw 5),(8,aw 7)] (aC 1 af .R [2,3] U++[(2,.row (.int .i64) .R 0 aa),(3,.row I mO 0 ae)]++aC 4 aG .R [] ai++aC 5 af af.own [] aq++aC 7 aG .R [] aE) [.aD]),fun U aa ae ai aq aE bh=>k 9 (bj [(3,aw 1),(6,aw 4),(7,aw 5),(8,aw 7),(10,aw 8)] (aC 1 af .R [2,3] U++[(2,.row (.int .i64) .R 0 aa),(3,.row I mO 0 ae)]++aC 4 aG .R [] ai++aC 5 af af.own [] aq++aC 7 aG .R [] aE++aC 8 aG .R [] bh) [.aD]),fun U aa ae ai=>k 15 (bj [(7,aw 1),(11,aZ U),(12,aw 3),(13,aw 5)] (aC 1 af af.own [] aa++aC 3 af af.own [] ae++aC 5 aG .R [] ai) [.aD]),fun U aa ae ai aq=>k 16 (bj [(7,aw 1),(11,aZ U),(12,aw 3),(13,aw 5),(15,aw 6)] (aC 1 af af.own [] aa++aC 3 af af.own [] ae++aC 5 aG .R [] ai++aC 6 aG .R [] aq) [.aD]),fun U aa ae ai aq aE=>k 17 (bj [(7,aw 1),(11,aZ U),(13,aw 3),(15,aw 4),(16,aw 5),(17,aw 7)] (aC 1 af af.own [] aa++aC 3 aG .R [] ae++aC 4 aG .R [] ai++aC 5 af af.own [] aq++aC 7 aG .R [] aE) [.aD]),fun U aa ae ai aq aE bh=>k 18 (bj [(7,aw 1),(11,aZ U),(13,aw 3),(15,aw 4),(16,aw 5),(17,aw 7),(19,aw 8)] (aC 1 af af.own [] aa++aC 3 aG .R [] ae++aC 4 aG .R [] ai++aC 5 af af.own [] aq++aC 7 aG .R [] aE++aC 8 aG .R [] bh) [.aD])⟩
theorem af5:Sound Tryz.prog 3 0 xA:=cE bk (fn:=Tryz.f3) (fns:=[(9,Tg),(10,T0),(11,Mr),(12,L7),(13,U4),(14,U5),(15,U2),(16,U3)]) ⟨aco,adZ,T3,Tj,af1,af2,afZ,af0,trivial⟩ (by kernel_rfl) (by kernel_rfl) af3 af4 Te oX (fun k x=>FB k x.1) (by kernel_rfl) (fun _=>by kernel_rfl) (fun _=>rfl) (fun _ _=>by kernel_rfl) (fun _=>by kernel_rfl)
end
end Go.LM.kA
