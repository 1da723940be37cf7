/- Each function keeps its contract. Printed by a program. Conditions: each theorem's own hypotheses. -/
import Derived.Test.YtklmgcjamifmaaaGreatDoorNVa
import Derived.Test.YtklmgcjamifmaaaGreatDoorNLmd
import Derived.Test.YtklmgcjamifmaaaGreatDoorChecked
import Derived.Test.YtklmgcjamifmaaaGreatDoorNIn
set_option linter.unusedVariables false
set_option linter.unusedSimpArgs false
namespace Go.LM.kc
noncomputable section
open Go.Proofs
abbrev uL:ba:=.S (.cons .R (.cons .R (.cons .R (.cons .R (.cons .R (.cons .R (.cons (.O .R) (.cons .R (.cons .R .nil)))))))))
abbrev abE:ba:=.S (.cons .R (.cons (.O uL) .nil))
abbrev cj:ba:=.S (.cons abE (.cons .R (.cons .R .nil)))
def tab:List (Nat×ae):=[(3,.int .i64),(4,.bool),(5,.int .u8),(9,.str),(22,.sl (.int .u8)),(24,.sl I),(26,af),(27,.sl (.int .i64)),(29,aH),(31,aK),(37,aS),(46,.sl aw),(48,I),(57,aJ),(60,aw),(83,.sl .bool),(105,bp),(109,.sl .str),(120,aI)]
def lI:List Nat:=[15,16,17,76,88,118,122,177,190]
def eqs:List Nat:=[31,37,57,60]
theorem GG:sB Tryz.prog tab=true:=by kernel_rfl
theorem GH:sC Tryz.prog lI=true:=by kernel_rfl
theorem GI:sD Tryz.prog tab eqs=true:=by kernel_rfl
theorem mix:Tryz.prog.follows .mixedOrders=true:=by kernel_rfl
def bk:j6 Tryz.prog:=⟨tab,lI,eqs,GG,GH,GI,mix⟩
set_option maxRecDepth 100000
def SE:Entry:=⟨[aW (.sl (.int .u8))],[bm .bool],Jd⟩
theorem abF:Sound Tryz.prog 9 0 SE:=cI bk (fn:=Tryz.f9) (fns:=[]) trivial (by kernel_rfl) (by kernel_rfl) fun _=>by kernel_rfl
def Lt:Entry:=⟨[aW (.sl (.int .u8))],[.new bp .R],B_⟩
def abG:List (Nat×bV):=[(3,⟨[(0,.cell (.bW (.int .u8) [])),(3,aM),(4,aM)],[],[.drop]⟩)]
def abH(k:Nat→aq→Option (bp.D×Unit)):B9:=fun U aa ad=>k 3 (bg [(0,gT (.int .u8) U),(3,aY aa),(4,aY ad)] [] [.aD])
theorem SF:Sound Tryz.prog 40 0 Lt:=ct bk (fn:=Tryz.f40) (fns:=[]) trivial (by kernel_rfl) (by kernel_rfl) abG abH wo wq (fun k x=>Rc k x.1) (by kernel_rfl) (fun _=>by kernel_rfl) (fun _=>rfl) (fun _ _=>by kernel_rfl) (fun _=>by kernel_rfl)
def Lu:Entry:=⟨[.«mut» bp .R .R],[bm (.int .i64)],qi⟩
theorem SG:Sound Tryz.prog 105 0 Lu:=cI bk (fn:=Tryz.f105) (fns:=[]) trivial (by kernel_rfl) (by kernel_rfl) fun _=>by kernel_rfl
def nh:Entry:=⟨[.«mut» bp .R .R,aW (.int .i64)],[bm (.int .i64)],fZ⟩
theorem om:Sound Tryz.prog 76 0 nh:=cI bk (fn:=Tryz.f76) (fns:=[(105,Lu)]) ⟨SG,trivial⟩ (by kernel_rfl) (by kernel_rfl) fun _=>by kernel_rfl
def uM:Entry:=⟨[.«mut» bp .R .R,aW (.int .i64)],[bm .bool],qj⟩
theorem wV:Sound Tryz.prog 63 0 uM:=cI bk (fn:=Tryz.f63) (fns:=[(76,nh)]) ⟨om,trivial⟩ (by kernel_rfl) (by kernel_rfl) fun _=>by kernel_rfl
def SH:Entry:=⟨[],[ro af],Jg⟩
theorem abI:Sound Tryz.prog 12 0 SH:=cI bk (fn:=Tryz.f12) (fns:=[]) trivial (by kernel_rfl) (by kernel_rfl) fun _=>by kernel_rfl
def SI:Entry:=⟨[],[bm af],Jh⟩
theorem abJ:Sound Tryz.prog 12 0 SI:=cI bk (fn:=Tryz.f12) (fns:=[]) trivial (by kernel_rfl) (by kernel_rfl) fun _=>by kernel_rfl
def r':Entry:=⟨[aW af],[.val af (.S (.cons .R (.cons (.O .R) .nil)))],lz⟩
def abK:List (Nat×bV):=[(3,⟨[(1,.ptr 1),(2,.ptr 2),(3,.ptr 4),(4,aM)],az 1 af .R []++az 2 af af.own []++az 4 af af.own [],[.drop]⟩)]
def abL(k:Nat→aq→Option (af.D×Unit)):wu:=fun U aa ad ai=>k 3 (bg [(1,ax 1),(2,ax 2),(3,ax 4),(4,aY U)] (aC 1 af .R [] aa++aC 2 af af.own [] ad++aC 4 af af.own [] ai) [.aD])
theorem uN:Sound Tryz.prog 51 0 r':=ct bk (fn:=Tryz.f51) (fns:=[]) trivial (by kernel_rfl) (by kernel_rfl) abK abL yw o7 (fun k x=>yv k x.1) (by kernel_rfl) (fun _=>by kernel_rfl) (fun _=>rfl) (fun _ _=>by kernel_rfl) (fun _=>by kernel_rfl)
def SJ:Entry:=⟨[aW af],[ro af],yy⟩
def abM:List (Nat×bV):=[(3,⟨[(1,.ptr 1),(2,.ptr 2),(3,.ptr 4),(4,aM)],az 1 af .R []++az 2 af af.own []++az 4 af af.own [],[.drop]⟩)]
def abN(k:Nat→aq→Option (af.D×Unit)):wv:=fun U aa ad ai=>k 3 (bg [(1,ax 1),(2,ax 2),(3,ax 4),(4,aY U)] (aC 1 af .R [] aa++aC 2 af af.own [] ad++aC 4 af af.own [] ai) [.aD])
theorem abO:Sound Tryz.prog 51 0 SJ:=ct bk (fn:=Tryz.f51) (fns:=[]) trivial (by kernel_rfl) (by kernel_rfl) abM abN Ji yx (fun k x=>Ri k x.1) (by kernel_rfl) (fun _=>by kernel_rfl) (fun _=>rfl) (fun _ _=>by kernel_rfl) (fun _=>by kernel_rfl)
def ni:Entry:=⟨[aW (.int .i64),aW (.int .i64),aW (.int .i64)],[bm .bool],ei⟩
theorem oo:Sound Tryz.prog 45 0 ni:=cI bk (fn:=Tryz.f45) (fns:=[]) trivial (by kernel_rfl) (by kernel_rfl) fun _=>by kernel_rfl
def SK:Entry:=⟨[aW aK],[bm .bool],Jl⟩
def abP:List (Nat×bV):=[(5,⟨[(1,.ptr 1)],az 1 aK .R [],[.drop]⟩)]
def abQ(k:Nat→aq→Option (Bool×Unit)):B':=fun U=>k 5 (bg [(1,ax 1)] (aC 1 aK .R [] U) [.aD])
theorem abR:Sound Tryz.prog 85 0 SK:=ct bk (fn:=Tryz.f85) (fns:=[(45,ni)]) ⟨oo,trivial⟩ (by kernel_rfl) (by kernel_rfl) abP abQ Jk yz (fun k x=>Ca k x.1) (by kernel_rfl) (fun _=>by kernel_rfl) (fun _=>rfl) (fun _ _=>by kernel_rfl) (fun _=>by kernel_rfl)
def E1:Entry:=⟨[aW (.int .u8)],[bm .bool],yA⟩
theorem Lv:Sound Tryz.prog 107 0 E1:=cI bk (fn:=Tryz.f107) (fns:=[]) trivial (by kernel_rfl) (by kernel_rfl) fun _=>by kernel_rfl
def Lw:Entry:=⟨[aW .str],[bm .bool],yB⟩
def abS:List (Nat×bV):=[(4,⟨[(0,aM),(3,aM)],[],[.drop]⟩)]
def abT(k:Nat→aq→Option (Bool×Unit)):Cb:=fun U aa=>k 4 (bg [(0,eh U),(3,aY aa)] [] [.aD])
theorem SL:Sound Tryz.prog 81 0 Lw:=ct bk (fn:=Tryz.f81) (fns:=[(45,ni),(107,E1)]) ⟨oo,Lv,trivial⟩ (by kernel_rfl) (by kernel_rfl) abS abT Cd tx (fun k x=>Cc k x.1) (by kernel_rfl) (fun _=>by kernel_rfl) (fun _=>rfl) (fun _ _=>by kernel_rfl) (fun _=>by kernel_rfl)
def wW:Entry:=⟨[aW aH],[bm .bool],tA⟩
def abU:List (Nat×bV):=[(4,⟨[(1,.ptr 1),(3,aM)],az 1 aH .R [],[.drop]⟩)]
def abV(k:Nat→aq→Option (Bool×Unit)):Ce:=fun U aa=>k 4 (bg [(1,ax 1),(3,aY U)] (aC 1 aH .R [] aa) [.aD])
theorem zu:Sound Tryz.prog 20 0 wW:=ct bk (fn:=Tryz.f20) (fns:=[(45,ni)]) ⟨oo,trivial⟩ (by kernel_rfl) (by kernel_rfl) abU abV Cg tz (fun k x=>Cf k x.1) (by kernel_rfl) (fun _=>by kernel_rfl) (fun _=>rfl) (fun _ _=>by kernel_rfl) (fun _=>by kernel_rfl)
def Lx:Entry:=⟨[aW aH,aW (.int .i64)],[bm .bool],tC⟩
def abW:List (Nat×bV):=[(5,⟨[(1,aM),(2,.ptr 1),(5,aM),(6,aM)],az 1 aH .R [],[.drop,.drop]⟩)]
def abX(k:Nat→aq→Option (Bool×Unit)):Ch:=fun U aa ad ai=>k 5 (bg [(1,aY U),(2,ax 1),(5,ig aa),(6,aY ad)] (aC 1 aH .R [] ai) [.aD,.aD])
theorem SM:Sound Tryz.prog 130 0 Lx:=ct bk (fn:=Tryz.f130) (fns:=[(20,wW)]) ⟨zu,trivial⟩ (by kernel_rfl) (by kernel_rfl) abW abX Cj tB (fun k x=>Ci k x.1 x.2.1) (by kernel_rfl) (fun _=>by kernel_rfl) (fun _=>rfl) (fun _ _=>by kernel_rfl) (fun _=>by kernel_rfl)
def sa:Entry:=⟨[aW aH,aW I,aW (.int .i64)],[bm .bool],jP⟩
theorem uO:Sound Tryz.prog 109 0 sa:=cI bk (fn:=Tryz.f109) (fns:=[(20,wW),(45,ni),(130,Lx)]) ⟨zu,oo,SM,trivial⟩ (by kernel_rfl) (by kernel_rfl) fun _=>by kernel_rfl
def E2:Entry:=⟨[aW .str],[bm .bool],yC⟩
def abY:List (Nat×bV):=[(4,⟨[(0,aM),(3,aM)],[],[.drop]⟩)]
def abZ(k:Nat→aq→Option (Bool×Unit)):Ck:=fun U aa=>k 4 (bg [(0,eh U),(3,aY aa)] [] [.aD])
theorem Ly:Sound Tryz.prog 64 0 E2:=ct bk (fn:=Tryz.f64) (fns:=[(45,ni),(107,E1)]) ⟨oo,Lv,trivial⟩ (by kernel_rfl) (by kernel_rfl) abY abZ Cm tD (fun k x=>Cl k x.1) (by kernel_rfl) (fun _=>by kernel_rfl) (fun _=>rfl) (fun _ _=>by kernel_rfl) (fun _=>by kernel_rfl)
def pj:Entry:=⟨[aW af,aW (.int .i64)],[bm (.int .i64)],kd⟩
def ab0:List (Nat×bV):=[(2,⟨[(1,aM),(2,.ptr 1),(5,aM)],az 1 af .R [],[.drop,.drop]⟩)]
def ab1(k:Nat→aq→Option (Int×Unit)):Cn:=fun U aa ad=>k 2 (bg [(1,aY U),(2,ax 1),(5,aY aa)] (aC 1 af .R [] ad) [.aD,.aD])
theorem qI:Sound Tryz.prog 83 0 pj:=ct bk (fn:=Tryz.f83) (fns:=[]) trivial (by kernel_rfl) (by kernel_rfl) ab0 ab1 Cp tE (fun k x=>Co k x.1 x.2.1) (by kernel_rfl) (fun _=>by kernel_rfl) (fun _=>rfl) (fun _ _=>by kernel_rfl) (fun _=>by kernel_rfl)
def SN:Entry:=⟨[aW .str],[ro (.sl .str)],yF⟩
def ab2:List (Nat×bV):=[(4,⟨[(0,aM),(3,.cell (.ag 1)),(4,aM),(5,aM)],[(1,.row .str .R)],[.drop]⟩)]
def ab3(k:Nat→aq→Option (yD)):Cq:=fun U aa ad ai=>k 4 (bg [(0,eh U),(3,.aU (.ag 1 none)),(4,aY aa),(5,aY ad)] [(1,.row .str .R 0 ai)] [.aD])
theorem ab4:Sound Tryz.prog 108 0 SN:=ct bk (fn:=Tryz.f108) (fns:=[]) trivial (by kernel_rfl) (by kernel_rfl) ab2 ab3 yE qk (fun k x=>Cr k x.1) (by kernel_rfl) (fun _=>by kernel_rfl) (fun _=>rfl) (fun _ _=>by kernel_rfl) (fun _=>by kernel_rfl)
def LA:Entry:=⟨[aW af,aW (.int .i64)],[bm (.int .i64)],Ct⟩
def ab5:List (Nat×bV):=[(2,⟨[(1,aM),(2,.ptr 1),(5,aM)],az 1 af .R [],[.drop,.drop]⟩),(5,⟨[(1,aM),(2,.ptr 1),(5,aM),(6,aM)],az 1 af .R [],[.drop,.drop]⟩)]
def ab6(k:Nat→aq→Option (Int×Unit)):tF:=⟨fun U aa ad=>k 2 (bg [(1,aY U),(2,ax 1),(5,aY aa)] (aC 1 af .R [] ad) [.aD,.aD]),fun U aa ad ai=>k 5 (bg [(1,aY U),(2,ax 1),(5,aY aa),(6,aY ad)] (aC 1 af .R [] ai) [.aD,.aD])⟩
theorem SO:Sound Tryz.prog 110 0 LA:=ct bk (fn:=Tryz.f110) (fns:=[]) trivial (by kernel_rfl) (by kernel_rfl) ab5 ab6 Rj ke (fun k x=>Cs k x.1 x.2.1) (by kernel_rfl) (fun _=>by kernel_rfl) (fun _=>rfl) (fun _ _=>by kernel_rfl) (fun _=>by kernel_rfl)
def SP:Entry:=⟨[aW af,aW (.int .i64),aW .str],[bm (.int .i64)],Jo⟩
def ab7:List (Nat×bV):=[(3,⟨[(2,aM),(7,.cell (.bW aw [])),(8,aM)],[],[.drop,.drop,.drop]⟩)]
def ab8(k:Nat→aq→Option (Int×Unit)):Cu:=fun U aa ad=>k 3 (bg [(2,eh U),(7,gT aw aa),(8,aY ad)] [] [.aD,.aD,.aD])
theorem ab9:Sound Tryz.prog 111 0 SP:=ct bk (fn:=Tryz.f111) (fns:=[(83,pj)]) ⟨qI,trivial⟩ (by kernel_rfl) (by kernel_rfl) ab7 ab8 Cw rH (fun k x=>Cv k x.1 x.2.1 x.2.2.1) (by kernel_rfl) (fun _=>by kernel_rfl) (fun _=>rfl) (fun _ _=>by kernel_rfl) (fun _=>by kernel_rfl)
def E3:Entry:=⟨[aW af,aW aH,aW .str,aW .bool],[bm aJ],yH⟩
def ab_:List (Nat×bV):=[(4,⟨[(3,aM),(4,.ptr 1),(5,.ptr 2),(8,.ptr 3),(9,.cell (.au 4)),(10,aM),(11,aM)],az 1 af .R []++az 2 aH .R []++az 3 aJ .R []++[(4,.row .str .R)],[.drop,.drop,.drop,.drop]⟩),(21,⟨[(3,aM),(4,.ptr 1),(5,.ptr 2),(8,.ptr 3),(9,.cell (.au 4)),(10,aM),(11,aM),(12,aM),(13,aM),(14,aM),(15,.ptr 5)],az 1 af .R []++az 2 aH .R []++az 3 aJ .R []++[(4,.row .str .R)]++az 5 I .R [],[.drop,.drop,.drop,.drop]⟩),(22,⟨[(3,aM),(4,.ptr 1),(5,.ptr 2),(8,.ptr 3),(9,.cell (.au 4)),(10,aM),(11,aM),(15,.ptr 5)],az 1 af .R []++az 2 aH .R []++az 3 aJ .R []++[(4,.row .str .R)]++az 5 I .R [],[.drop,.drop,.drop,.drop]⟩),(30,⟨[(3,aM),(4,.ptr 1),(5,.ptr 2),(8,.ptr 3),(9,.cell (.au 4)),(10,aM),(11,aM),(12,aM),(13,aM),(14,aM),(15,.ptr 5)],az 1 af .R []++az 2 aH .R []++az 3 aJ .R []++[(4,.row .str .R)]++az 5 I .R [],[.drop,.drop,.drop,.drop]⟩),(27,⟨[(3,aM),(4,.ptr 1),(5,.ptr 2),(8,.ptr 3),(9,.cell (.au 4)),(10,aM),(11,aM),(15,.ptr 5)],az 1 af .R []++az 2 aH .R []++az 3 aJ .R []++[(4,.row .str .R)]++az 5 I .R [],[.drop,.drop,.drop,.drop]⟩)]
def ab'(k:Nat→aq→Option (aJ.D×Unit)):o8:=⟨fun U aa ad ai an aB a_ bP cA=>k 4 (bg [(3,ig U),(4,ax 1),(5,ax 2),(8,ax 3),(9,.aU (.ag 4 (some (aa,ad)))),(10,aY ai),(11,aY an)] (aC 1 af .R [] aB++aC 2 aH .R [] a_++aC 3 aJ .R [] bP++[(4,.row .str .R 0 cA)]) [.aD,.aD,.aD,.aD]),fun U aa ad ai an aB a_ bP cA eX kf kg jQ=>k 21 (bg [(3,ig U),(4,ax 1),(5,ax 2),(8,ax 3),(9,.aU (.ag 4 (some (aa,ad)))),(10,aY ai),(11,aY an),(12,eh aB),(13,ig a_),(14,aY bP),(15,ax 5)] (aC 1 af .R [] cA++aC 2 aH .R [] eX++aC 3 aJ .R [] kf++[(4,.row .str .R 0 kg)]++aC 5 I .R [] jQ) [.aD,.aD,.aD,.aD]),fun U aa ad ai an aB a_ bP cA eX=>k 22 (bg [(3,ig U),(4,ax 1),(5,ax 2),(8,ax 3),(9,.aU (.ag 4 (some (aa,ad)))),(10,aY ai),(11,aY an),(15,ax 5)] (aC 1 af .R [] aB++aC 2 aH .R [] a_++aC 3 aJ .R [] bP++[(4,.row .str .R 0 cA)]++aC 5 I .R [] eX) [.aD,.aD,.aD,.aD]),fun U aa ad ai an aB a_ bP cA eX kf kg jQ=>k 30 (bg [(3,ig U),(4,ax 1),(5,ax 2),(8,ax 3),(9,.aU (.ag 4 (some (aa,ad)))),(10,aY ai),(11,aY an),(12,eh aB),(13,ig a_),(14,aY bP),(15,ax 5)] (aC 1 af .R [] cA++aC 2 aH .R [] eX++aC 3 aJ .R [] kf++[(4,.row .str .R 0 kg)]++aC 5 I .R [] jQ) [.aD,.aD,.aD,.aD]),fun U aa ad ai an aB a_ bP cA eX=>k 27 (bg [(3,ig U),(4,ax 1),(5,ax 2),(8,ax 3),(9,.aU (.ag 4 (some (aa,ad)))),(10,aY ai),(11,aY an),(15,ax 5)] (aC 1 af .R [] aB++aC 2 aH .R [] a_++aC 3 aJ .R [] bP++[(4,.row .str .R 0 cA)]++aC 5 I .R [] eX) [.aD,.aD,.aD,.aD])⟩
theorem LB:Sound Tryz.prog 65 0 E3:=ct bk (fn:=Tryz.f65) (fns:=[(83,pj),(108,SN),(109,sa),(110,LA),(111,SP)]) ⟨qI,ab4,uO,SO,ab9,trivial⟩ (by kernel_rfl) (by kernel_rfl) ab_ ab' Rk e5 (fun k x=>Cx k x.1 x.2.1 x.2.2.1 x.2.2.2.1) (by kernel_rfl) (fun _=>by kernel_rfl) (fun _=>rfl) (fun _ _=>by kernel_rfl) (fun _=>by kernel_rfl)
def LC:Entry:=⟨[aW af,aW aH,aW .str],[bm aJ,bm (.int .i64)],tI⟩
theorem SQ:Sound Tryz.prog 119 0 LC:=cI bk (fn:=Tryz.f119) (fns:=[(64,E2),(65,E3)]) ⟨Ly,LB,trivial⟩ (by kernel_rfl) (by kernel_rfl) fun _=>by kernel_rfl
def pk:Entry:=⟨[aW af,aW (.int .i64)],[bm I],e6⟩
theorem qJ:Sound Tryz.prog 120 0 pk:=cI bk (fn:=Tryz.f120) (fns:=[(83,pj)]) ⟨qI,trivial⟩ (by kernel_rfl) (by kernel_rfl) fun _=>by kernel_rfl
def E4:Entry:=⟨[aW af],[bm (.int .i64)],yJ⟩
def aca:List (Nat×bV):=[(3,⟨[(1,.ptr 1),(3,aM),(4,aM)],az 1 af .R [],[.drop]⟩)]
def acb(k:Nat→aq→Option (Int×Unit)):CB:=fun U aa ad=>k 3 (bg [(1,ax 1),(3,aY U),(4,aY aa)] (aC 1 af .R [] ad) [.aD])
theorem LD:Sound Tryz.prog 49 0 E4:=ct bk (fn:=Tryz.f49) (fns:=[]) trivial (by kernel_rfl) (by kernel_rfl) aca acb CD tJ (fun k x=>CC k x.1) (by kernel_rfl) (fun _=>by kernel_rfl) (fun _=>rfl) (fun _ _=>by kernel_rfl) (fun _=>by kernel_rfl)
def LF:Entry:=⟨[aW af,aW (.int .i64)],[ro (.sl .bool)],CF⟩
def acd:List (Nat×bV):=[(8,⟨[(2,.ptr 1),(5,.cell (.ag 2)),(6,.cell (.ag 3)),(8,aM)],az 1 af .R []++[(2,.row .bool .R),(3,.row .bool .R)],[.drop,.drop]⟩),(11,⟨[(2,.ptr 1),(5,.cell (.ag 2)),(6,.cell (.ag 3)),(8,aM),(9,aM)],az 1 af .R []++[(2,.row .bool .R),(3,.row .bool .R)],[.drop,.drop]⟩),(15,⟨[(2,.ptr 1),(5,.cell (.ag 2)),(6,.cell (.ag 3)),(8,aM),(9,aM),(10,aM)],az 1 af .R []++[(2,.row .bool .R),(3,.row .bool .R)],[.drop,.drop]⟩)]
def ace(k:Nat→aq→Option ((List Bool)×Unit)):ql:=⟨fun U aa ad ai=>k 8 (bg [(2,ax 1),(5,.aU (.ag 2 none)),(6,.aU (.ag 3 none)),(8,aY U)] (aC 1 af .R [] aa++[(2,.row .bool .R 0 ad),(3,.row .bool .R 0 ai)]) [.aD,.aD]),fun U aa ad ai an=>k 11 (bg [(2,ax 1),(5,.aU (.ag 2 none)),(6,.aU (.ag 3 none)),(8,aY U),(9,aY aa)] (aC 1 af .R [] ad++[(2,.row .bool .R 0 ai),(3,.row .bool .R 0 an)]) [.aD,.aD]),fun U aa ad ai an aB=>k 15 (bg [(2,ax 1),(5,.aU (.ag 2 none)),(6,.aU (.ag 3 none)),(8,aY U),(9,aY aa),(10,aY ad)] (aC 1 af .R [] ai++[(2,.row .bool .R 0 an),(3,.row .bool .R 0 aB)]) [.aD,.aD])⟩
theorem SR:Sound Tryz.prog 47 0 LF:=ct bk (fn:=Tryz.f47) (fns:=[(83,pj)]) ⟨qI,trivial⟩ (by kernel_rfl) (by kernel_rfl) acd ace Rl jR (fun k x=>CE k x.1 x.2.1) (by kernel_rfl) (fun _=>by kernel_rfl) (fun _=>rfl) (fun _ _=>by kernel_rfl) (fun _=>by kernel_rfl)
def LG:Entry:=⟨[aW af,aW (.int .i64)],[bm (.int .i64),bm (.int .i64)],yM⟩
def acf:List (Nat×bV):=[(5,⟨[(2,.ptr 1),(6,.cell (.ag 2)),(7,aM),(8,aM),(9,aM)],az 1 af .R []++[(2,.row .bool .R)],[.drop,.drop]⟩)]
def acg(k:Nat→aq→Option (Int×Int×Unit)):CG:=fun U aa ad ai an=>k 5 (bg [(2,ax 1),(6,.aU (.ag 2 none)),(7,aY U),(8,aY aa),(9,aY ad)] (aC 1 af .R [] ai++[(2,.row .bool .R 0 an)]) [.aD,.aD])
theorem SS:Sound Tryz.prog 84 0 LG:=ct bk (fn:=Tryz.f84) (fns:=[(47,LF)]) ⟨SR,trivial⟩ (by kernel_rfl) (by kernel_rfl) acf acg CI tL (fun k x=>CH k x.1 x.2.1) (by kernel_rfl) (fun _=>by kernel_rfl) (fun _=>rfl) (fun _ _=>by kernel_rfl) (fun _=>by kernel_rfl)
def LH:Entry:=⟨[aW af],[bm .bool],CK⟩
def ach:List (Nat×bV):=[(2,⟨[(1,.ptr 1),(3,aM)],az 1 af .R [],[.drop]⟩),(6,⟨[(1,.ptr 1),(3,aM),(4,.ptr 2)],az 1 af .R []++az 2 I .R [],[.drop]⟩)]
def aci(k:Nat→aq→Option (Bool×Unit)):tM:=⟨fun U aa=>k 2 (bg [(1,ax 1),(3,aY U)] (aC 1 af .R [] aa) [.aD]),fun U aa ad=>k 6 (bg [(1,ax 1),(3,aY U),(4,ax 2)] (aC 1 af .R [] aa++aC 2 I .R [] ad) [.aD])⟩
theorem SU:Sound Tryz.prog 50 0 LH:=ct bk (fn:=Tryz.f50) (fns:=[(84,LG)]) ⟨SS,trivial⟩ (by kernel_rfl) (by kernel_rfl) ach aci Rm jS (fun k x=>CJ k x.1) (by kernel_rfl) (fun _=>by kernel_rfl) (fun _=>rfl) (fun _ _=>by kernel_rfl) (fun _=>by kernel_rfl)
def SV:Entry:=⟨[aW af],[bm (.int .i64)],Js⟩
theorem acj:Sound Tryz.prog 156 0 SV:=cI bk (fn:=Tryz.f156) (fns:=[(49,E4),(50,LH)]) ⟨LD,SU,trivial⟩ (by kernel_rfl) (by kernel_rfl) fun _=>by kernel_rfl
def wX:Entry:=⟨[aW af,.val af (.S (.cons .R (.cons (.O .R) .nil)))],[bm af,bm aS],qm⟩
theorem zv:Sound Tryz.prog 121 0 wX:=cI bk (fn:=Tryz.f121) (fns:=[(156,SV)]) ⟨acj,trivial⟩ (by kernel_rfl) (by kernel_rfl) fun _=>by kernel_rfl
def wY:Entry:=⟨[.val af (.S (.cons .R (.cons (.O .R) .nil))),B4 I],[.val af (.S (.cons .R (.cons (.O .R) .nil)))],n9⟩
theorem zw:Sound Tryz.prog 123 0 wY:=cI bk (fn:=Tryz.f123) (fns:=[(83,pj)]) ⟨qI,trivial⟩ (by kernel_rfl) (by kernel_rfl) fun _=>by kernel_rfl
def E5:Entry:=⟨[.val af (.S (.cons .R (.cons (.O .R) .nil))),aW (.int .i64),aW .str,aW (.int .i64)],[.val af (.S (.cons .R (.cons (.O .R) .nil)))],rL⟩
def ack:List (Nat×bV):=[(5,⟨[(2,aM),(3,aM),(4,.ptr 1),(8,.ptr 3),(9,.ptr 5),(10,.cell (.ag 6)),(11,aM),(12,aM)],az 1 af (.S (.cons .R (.cons (.O .R) .nil))) []++az 3 af af.own []++az 5 I .R [2]++[(6,.row aw .R)],[.drop,.drop,.drop,.drop]⟩),(10,⟨[(2,aM),(3,aM),(4,.ptr 1),(8,.ptr 3),(9,.ptr 5),(10,.cell (.ag 6)),(11,aM),(12,aM)],az 1 af (.S (.cons .R (.cons (.O .R) .nil))) []++az 3 af af.own []++az 5 I .R [2]++[(6,.row aw .R)],[.drop,.drop,.drop,.drop]⟩),(13,⟨[(4,.ptr 1),(8,.ptr 3),(9,.ptr 5),(10,.cell (.ag 6))],az 1 af (.S (.cons .R (.cons (.O .R) .nil))) []++az 3 af af.own []++az 5 I .R [2]++[(6,.row aw .R)],[.drop,.drop,.drop,.drop]⟩)]
def acm(k:Nat→aq→Option (af.D×Unit)):rK:=⟨fun U aa ad ai an aB a_ bP=>k 5 (bg [(2,eh U),(3,aY aa),(4,ax 1),(8,ax 3),(9,ax 5),(10,.aU (.ag 6 none)),(11,ig ad),(12,aY ai)] (aC 1 af (.S (.cons .R (.cons (.O .R) .nil))) [] an++aC 3 af af.own [] aB++aC 5 I .R [2] a_++[(6,.row aw .R 0 bP)]) [.aD,.aD,.aD,.aD]),fun U aa ad ai an aB a_ bP=>k 10 (bg [(2,eh U),(3,aY aa),(4,ax 1),(8,ax 3),(9,ax 5),(10,.aU (.ag 6 none)),(11,ig ad),(12,aY ai)] (aC 1 af (.S (.cons .R (.cons (.O .R) .nil))) [] an++aC 3 af af.own [] aB++aC 5 I .R [2] a_++[(6,.row aw .R 0 bP)]) [.aD,.aD,.aD,.aD]),fun U aa ad ai=>k 13 (bg [(4,ax 1),(8,ax 3),(9,ax 5),(10,.aU (.ag 6 none))] (aC 1 af (.S (.cons .R (.cons (.O .R) .nil))) [] U++aC 3 af af.own [] aa++aC 5 I .R [2] ad++[(6,.row aw .R 0 ai)]) [.aD,.aD,.aD,.aD])⟩
theorem LI:Sound Tryz.prog 122 0 E5:=ct bk (fn:=Tryz.f122) (fns:=[(120,pk),(123,wY)]) ⟨qJ,zw,trivial⟩ (by kernel_rfl) (by kernel_rfl) ack acm Ro im (fun k x=>CL k x.1 x.2.1 x.2.2.1 x.2.2.2.1) (by kernel_rfl) (fun _=>by kernel_rfl) (fun _=>rfl) (fun _ _=>by kernel_rfl) (fun _=>by kernel_rfl)
def SW:Entry:=⟨[B4 af,aW aH,aW aK],[bm af,bm aS],tO⟩
def acn:List (Nat×bV):=[(3,⟨[(3,.ptr 1),(4,.ptr 2),(5,.ptr 3),(6,.ptr 4),(7,.ptr 6)],az 1 af .R []++az 2 aH .R []++az 3 aK .R []++az 4 af af.own []++az 6 aS .R [],[.drop,.drop,.drop]⟩),(14,⟨[(3,.ptr 1),(5,.ptr 2),(6,.ptr 3),(7,.ptr 5),(8,.ptr 6),(10,.ptr 7),(11,.ptr 8)],az 1 af .R []++az 2 aK .R []++az 3 af af.own []++az 5 aS .R []++az 6 aJ .R []++az 7 I .R []++az 8 I I.own [],[.drop,.drop,.drop]⟩),(18,⟨[(3,.ptr 1),(6,.ptr 2),(7,.ptr 4),(8,.ptr 5),(10,.ptr 6),(11,.ptr 7)],az 1 af .R []++az 2 af af.own []++az 4 aS .R []++az 5 aJ .R []++az 6 I .R []++az 7 I I.own [],[.drop,.drop,.drop]⟩),(22,⟨[(3,.ptr 1),(6,.ptr 2),(7,.ptr 4),(8,.ptr 5),(11,.ptr 6)],az 1 af .R []++az 2 af af.own []++az 4 aS .R []++az 5 aJ .R []++az 6 I I.own [],[.drop,.drop,.drop]⟩)]
def aco(k:Nat→aq→Option (n')):qn:=⟨fun U aa ad ai an=>k 3 (bg [(3,ax 1),(4,ax 2),(5,ax 3),(6,ax 4),(7,ax 6)] (aC 1 af .R [] U++aC 2 aH .R [] aa++aC 3 aK .R [] ad++aC 4 af af.own [] ai++aC 6 aS .R [] an) [.aD,.aD,.aD]),fun U aa ad ai an aB a_=>k 14 (bg [(3,ax 1),(5,ax 2),(6,ax 3),(7,ax 5),(8,ax 6),(10,ax 7),(11,ax 8)] (aC 1 af .R [] U++aC 2 aK .R [] aa++aC 3 af af.own [] ad++aC 5 aS .R [] ai++aC 6 aJ .R [] an++aC 7 I .R [] aB++aC 8 I I.own [] a_) [.aD,.aD,.aD]),fun U aa ad ai an aB=>k 18 (bg [(3,ax 1),(6,ax 2),(7,ax 4),(8,ax 5),(10,ax 6),(11,ax 7)] (aC 1 af .R [] U++aC 2 af af.own [] aa++aC 4 aS .R [] ad++aC 5 aJ .R [] ai++aC 6 I .R [] an++aC 7 I I.own [] aB) [.aD,.aD,.aD]),fun U aa ad ai an=>k 22 (bg [(3,ax 1),(6,ax 2),(7,ax 4),(8,ax 5),(11,ax 6)] (aC 1 af .R [] U++aC 2 af af.own [] aa++aC 4 aS .R [] ad++aC 5 aJ .R [] ai++aC 6 I I.own [] an) [.aD,.aD,.aD])⟩
theorem acp:Sound Tryz.prog 86 0 SW:=ct bk (fn:=Tryz.f86) (fns:=[(45,ni),(51,r'),(81,Lw),(109,sa),(119,LC),(120,pk),(121,wX),(122,E5),(123,wY)]) ⟨oo,uN,SL,uO,SQ,qJ,zv,LI,zw,trivial⟩ (by kernel_rfl) (by kernel_rfl) acn aco Rp jx (fun k x=>CM k x.1 x.2.1 x.2.2.1) (by kernel_rfl) (fun _=>by kernel_rfl) (fun _=>rfl) (fun _ _=>by kernel_rfl) (fun _=>by kernel_rfl)
def uP:Entry:=⟨[aW af,aW aH,aW .str,aW .bool],[bm aJ],fk⟩
theorem wZ:Sound Tryz.prog 124 0 uP:=cI bk (fn:=Tryz.f124) (fns:=[(64,E2),(65,E3)]) ⟨Ly,LB,trivial⟩ (by kernel_rfl) (by kernel_rfl) fun _=>by kernel_rfl
def LJ:Entry:=⟨[aW aH,aW I,aW I],[bm .bool],wy⟩
theorem SX:Sound Tryz.prog 125 0 LJ:=cI bk (fn:=Tryz.f125) (fns:=[(20,wW)]) ⟨zu,trivial⟩ (by kernel_rfl) (by kernel_rfl) fun _=>by kernel_rfl
def E6:Entry:=⟨[aW af,aW (.int .i64)],[bm (.int .i64)],yS⟩
def acq:List (Nat×bV):=[(3,⟨[(1,aM),(2,.ptr 1),(5,aM),(6,aM)],az 1 af .R [],[.drop,.drop]⟩),(6,⟨[(1,aM),(2,.ptr 1),(5,aM),(6,aM),(7,aM)],az 1 af .R [],[.drop,.drop]⟩)]
def acr(k:Nat→aq→Option (Int×Unit)):tP:=⟨fun U aa ad ai=>k 3 (bg [(1,aY U),(2,ax 1),(5,aY aa),(6,aY ad)] (aC 1 af .R [] ai) [.aD,.aD]),fun U aa ad ai an=>k 6 (bg [(1,aY U),(2,ax 1),(5,aY aa),(6,aY ad),(7,aY ai)] (aC 1 af .R [] an) [.aD,.aD])⟩
theorem LK:Sound Tryz.prog 48 0 E6:=ct bk (fn:=Tryz.f48) (fns:=[]) trivial (by kernel_rfl) (by kernel_rfl) acq acr Rq o_ (fun k x=>CN k x.1 x.2.1) (by kernel_rfl) (fun _=>by kernel_rfl) (fun _=>rfl) (fun _ _=>by kernel_rfl) (fun _=>by kernel_rfl)
def LL:Entry:=⟨[.val af (.S (.cons .R (.cons (.O .R) .nil))),aW (.int .i64),aW .str],[.val af (.S (.cons .R (.cons (.O .R) .nil)))],oa⟩
def acs:List (Nat×bV):=[(5,⟨[(2,aM),(3,.ptr 1),(6,.ptr 3),(7,.ptr 5),(8,aM),(9,.cell (.ag 6)),(10,aM)],az 1 af (.S (.cons .R (.cons (.O .R) .nil))) []++az 3 af af.own []++az 5 I .R [2]++[(6,.row aw .R)],[.drop,.drop,.drop]⟩),(16,⟨[(3,.ptr 1),(6,.ptr 3),(8,aM),(11,.cell (.ag 5)),(12,aM)],az 1 af (.S (.cons .R (.cons (.O .R) .nil))) []++az 3 af af.own []++[(5,.row I .R)],[.drop,.drop,.drop]⟩)]
def acu(k:Nat→aq→Option (af.D×Unit)):tQ:=⟨fun U aa ad ai an aB a_=>k 5 (bg [(2,eh U),(3,ax 1),(6,ax 3),(7,ax 5),(8,aY aa),(9,.aU (.ag 6 none)),(10,aY ad)] (aC 1 af (.S (.cons .R (.cons (.O .R) .nil))) [] ai++aC 3 af af.own [] an++aC 5 I .R [2] aB++[(6,.row aw .R 0 a_)]) [.aD,.aD,.aD]),fun U aa ad ai an=>k 16 (bg [(3,ax 1),(6,ax 3),(8,aY U),(11,.aU (.ag 5 none)),(12,aY aa)] (aC 1 af (.S (.cons .R (.cons (.O .R) .nil))) [] ad++aC 3 af af.own [] ai++[(5,.row I .R 0 an)]) [.aD,.aD,.aD])⟩
theorem SY:Sound Tryz.prog 126 0 LL:=ct bk (fn:=Tryz.f126) (fns:=[(48,E6),(120,pk),(123,wY)]) ⟨LK,qJ,zw,trivial⟩ (by kernel_rfl) (by kernel_rfl) acs acu Rr kE (fun k x=>CO k x.1 x.2.1 x.2.2.1) (by kernel_rfl) (fun _=>by kernel_rfl) (fun _=>rfl) (fun _ _=>by kernel_rfl) (fun _=>by kernel_rfl)
def SZ:Entry:=⟨[aW af,aW aH,aW aK],[bm af,bm aS],yV⟩
def acv:List (Nat×bV):=[(7,⟨[(3,.ptr 1),(4,.ptr 2),(5,.ptr 3),(6,.ptr 4),(7,.ptr 6),(8,.ptr 7),(9,.ptr 8)],az 1 af .R []++az 2 aH .R []++az 3 aK .R []++az 4 af af.own []++az 6 aS .R []++az 7 aJ .R []++az 8 I .R [],[.drop,.drop,.drop]⟩),(9,⟨[(3,.ptr 1),(4,.ptr 2),(5,.ptr 3),(6,.ptr 4),(7,.ptr 6),(8,.ptr 7),(9,.ptr 8)],az 1 af .R []++az 2 aH .R []++az 3 aK .R []++az 4 af af.own []++az 6 aS .R []++az 7 aJ .R []++az 8 I .R [],[.drop,.drop,.drop]⟩),(11,⟨[(3,.ptr 1),(4,.ptr 2),(6,.ptr 3),(7,.ptr 5),(8,.ptr 6),(9,.ptr 7)],az 1 af .R []++az 2 aH .R []++az 3 af af.own []++az 5 aS .R []++az 6 aJ .R []++az 7 I .R [],[.drop,.drop,.drop]⟩)]
def acw(k:Nat→aq→Option (qo)):rN:=⟨fun U aa ad ai an aB a_=>k 7 (bg [(3,ax 1),(4,ax 2),(5,ax 3),(6,ax 4),(7,ax 6),(8,ax 7),(9,ax 8)] (aC 1 af .R [] U++aC 2 aH .R [] aa++aC 3 aK .R [] ad++aC 4 af af.own [] ai++aC 6 aS .R [] an++aC 7 aJ .R [] aB++aC 8 I .R [] a_) [.aD,.aD,.aD]),fun U aa ad ai an aB a_=>k 9 (bg [(3,ax 1),(4,ax 2),(5,ax 3),(6,ax 4),(7,ax 6),(8,ax 7),(9,ax 8)] (aC 1 af .R [] U++aC 2 aH .R [] aa++aC 3 aK .R [] ad++aC 4 af af.own [] ai++aC 6 aS .R [] an++aC 7 aJ .R [] aB++aC 8 I .R [] a_) [.aD,.aD,.aD]),fun U aa ad ai an aB=>k 11 (bg [(3,ax 1),(4,ax 2),(6,ax 3),(7,ax 5),(8,ax 6),(9,ax 7)] (aC 1 af .R [] U++aC 2 aH .R [] aa++aC 3 af af.own [] ad++aC 5 aS .R [] ai++aC 6 aJ .R [] an++aC 7 I .R [] aB) [.aD,.aD,.aD])⟩
theorem acx:Sound Tryz.prog 87 0 SZ:=ct bk (fn:=Tryz.f87) (fns:=[(51,r'),(109,sa),(120,pk),(124,uP),(125,LJ),(126,LL)]) ⟨uN,uO,qJ,wZ,SX,SY,trivial⟩ (by kernel_rfl) (by kernel_rfl) acv acw Rs qp (fun k x=>CP k x.1 x.2.1 x.2.2.1) (by kernel_rfl) (fun _=>by kernel_rfl) (fun _=>rfl) (fun _ _=>by kernel_rfl) (fun _=>by kernel_rfl)
def LN:Entry:=⟨[aW af,aW (.int .i64)],[bm .bool],wz⟩
theorem S0:Sound Tryz.prog 127 0 LN:=cI bk (fn:=Tryz.f127) (fns:=[(83,pj)]) ⟨qI,trivial⟩ (by kernel_rfl) (by kernel_rfl) fun _=>by kernel_rfl
def S1:Entry:=⟨[aW af,aW aH,aW aK],[bm af,bm aS],CQ⟩
theorem acy:Sound Tryz.prog 88 0 S1:=cI bk (fn:=Tryz.f88) (fns:=[(51,r'),(109,sa),(119,LC),(120,pk),(121,wX),(122,E5),(124,uP),(127,LN)]) ⟨uN,uO,SQ,qJ,zv,LI,wZ,S0,trivial⟩ (by kernel_rfl) (by kernel_rfl) fun _=>by kernel_rfl
def S2:Entry:=⟨[aW af,aW (.int .i64),aW (.int .i64)],[bm .bool],yW⟩
def acz:List (Nat×bV):=[(2,⟨[(1,aM),(2,aM),(3,.ptr 1),(7,aM)],az 1 af .R [],[.drop,.drop,.drop]⟩)]
def acA(k:Nat→aq→Option (Bool×Unit)):CR:=fun U aa ad ai=>k 2 (bg [(1,aY U),(2,aY aa),(3,ax 1),(7,aY ad)] (aC 1 af .R [] ai) [.aD,.aD,.aD])
theorem acB:Sound Tryz.prog 128 0 S2:=ct bk (fn:=Tryz.f128) (fns:=[(110,LA)]) ⟨SO,trivial⟩ (by kernel_rfl) (by kernel_rfl) acz acA CT tT (fun k x=>CS k x.1 x.2.1 x.2.2.1) (by kernel_rfl) (fun _=>by kernel_rfl) (fun _=>rfl) (fun _ _=>by kernel_rfl) (fun _=>by kernel_rfl)
def S3:Entry:=⟨[aW af,aW aH,aW aK],[bm af,bm aS],CV⟩
def acC:List (Nat×bV):=[(7,⟨[(3,.ptr 1),(4,.ptr 2),(6,.ptr 3),(7,.ptr 5),(8,.ptr 6),(9,.ptr 7)],az 1 af .R []++az 2 aH .R []++az 3 af af.own []++az 5 aS .R []++az 6 aJ .R []++az 7 aJ .R [],[.drop,.drop,.drop]⟩),(18,⟨[(3,.ptr 1),(4,.ptr 2),(6,.ptr 3),(7,.ptr 5),(8,.ptr 6),(9,.ptr 7),(11,.ptr 8),(12,.ptr 9)],az 1 af .R []++az 2 aH .R []++az 3 af af.own []++az 5 aS .R []++az 6 aJ .R []++az 7 aJ .R []++az 8 I .R []++az 9 I .R [],[.drop,.drop,.drop]⟩),(27,⟨[(3,.ptr 1),(6,.ptr 2),(7,.ptr 4),(8,.ptr 5),(9,.ptr 6),(12,.ptr 7),(13,.ptr 8),(14,.ptr 10)],az 1 af .R []++az 2 af af.own []++az 4 aS .R []++az 5 aJ .R []++az 6 aJ .R []++az 7 I .R []++az 8 af (.S (.cons .R (.cons (.O .R) .nil))) []++az 10 I .R [],[.drop,.drop,.drop]⟩),(34,⟨[(3,.ptr 1),(6,.ptr 2),(7,.ptr 4),(8,.ptr 5),(9,.ptr 6),(13,.ptr 7)],az 1 af .R []++az 2 af af.own []++az 4 aS .R []++az 5 aJ .R []++az 6 aJ .R []++az 7 af (.S (.cons .R (.cons (.O .R) .nil))) [],[.drop,.drop,.drop]⟩),(29,⟨[(3,.ptr 1),(6,.ptr 2),(7,.ptr 4),(8,.ptr 5),(9,.ptr 6),(12,.ptr 7),(13,.ptr 8),(14,.ptr 10)],az 1 af .R []++az 2 af af.own []++az 4 aS .R []++az 5 aJ .R []++az 6 aJ .R []++az 7 I .R []++az 8 af (.S (.cons .R (.cons (.O .R) .nil))) []++az 10 I .R [],[.drop,.drop,.drop]⟩)]
def acD(k:Nat→aq→Option (me)):pa:=⟨fun U aa ad ai an aB=>k 7 (bg [(3,ax 1),(4,ax 2),(6,ax 3),(7,ax 5),(8,ax 6),(9,ax 7)] (aC 1 af .R [] U++aC 2 aH .R [] aa++aC 3 af af.own [] ad++aC 5 aS .R [] ai++aC 6 aJ .R [] an++aC 7 aJ .R [] aB) [.aD,.aD,.aD]),fun U aa ad ai an aB a_ bP=>k 18 (bg [(3,ax 1),(4,ax 2),(6,ax 3),(7,ax 5),(8,ax 6),(9,ax 7),(11,ax 8),(12,ax 9)] (aC 1 af .R [] U++aC 2 aH .R [] aa++aC 3 af af.own [] ad++aC 5 aS .R [] ai++aC 6 aJ .R [] an++aC 7 aJ .R [] aB++aC 8 I .R [] a_++aC 9 I .R [] bP) [.aD,.aD,.aD]),fun U aa ad ai an aB a_ bP=>k 27 (bg [(3,ax 1),(6,ax 2),(7,ax 4),(8,ax 5),(9,ax 6),(12,ax 7),(13,ax 8),(14,ax 10)] (aC 1 af .R [] U++aC 2 af af.own [] aa++aC 4 aS .R [] ad++aC 5 aJ .R [] ai++aC 6 aJ .R [] an++aC 7 I .R [] aB++aC 8 af (.S (.cons .R (.cons (.O .R) .nil))) [] a_++aC 10 I .R [] bP) [.aD,.aD,.aD]),fun U aa ad ai an aB=>k 34 (bg [(3,ax 1),(6,ax 2),(7,ax 4),(8,ax 5),(9,ax 6),(13,ax 7)] (aC 1 af .R [] U++aC 2 af af.own [] aa++aC 4 aS .R [] ad++aC 5 aJ .R [] ai++aC 6 aJ .R [] an++aC 7 af (.S (.cons .R (.cons (.O .R) .nil))) [] aB) [.aD,.aD,.aD]),fun U aa ad ai an aB a_ bP=>k 29 (bg [(3,ax 1),(6,ax 2),(7,ax 4),(8,ax 5),(9,ax 6),(12,ax 7),(13,ax 8),(14,ax 10)] (aC 1 af .R [] U++aC 2 af af.own [] aa++aC 4 aS .R [] ad++aC 5 aJ .R [] ai++aC 6 aJ .R [] an++aC 7 I .R [] aB++aC 8 af (.S (.cons .R (.cons (.O .R) .nil))) [] a_++aC 10 I .R [] bP) [.aD,.aD,.aD])⟩
theorem acE:Sound Tryz.prog 89 0 S3:=ct bk (fn:=Tryz.f89) (fns:=[(51,r'),(109,sa),(120,pk),(121,wX),(122,E5),(124,uP),(125,LJ),(126,LL),(128,S2)]) ⟨uN,uO,qJ,zv,LI,wZ,SX,SY,acB,trivial⟩ (by kernel_rfl) (by kernel_rfl) acC acD Ru gi (fun k x=>CU k x.1 x.2.1 x.2.2.1) (by kernel_rfl) (fun _=>by kernel_rfl) (fun _=>rfl) (fun _ _=>by kernel_rfl) (fun _=>by kernel_rfl)
def S4:Entry:=⟨[aW .str,aW (.int .i64),aW .str],[bm .str],rP⟩
def acF:List (Nat×bV):=[(2,⟨[(1,aM),(2,aM),(7,.cell (.ag 1))],[(1,.row (.int .u8) .R)],[.drop,.drop,.drop]⟩),(5,⟨[(1,aM),(2,aM),(7,.cell (.ag 1)),(8,aM)],[(1,.row (.int .u8) .R)],[.drop,.drop,.drop]⟩)]
def acG(k:Nat→aq→Option ((List UInt8)×Unit)):rO:=⟨fun U aa ad=>k 2 (bg [(1,aY U),(2,eh aa),(7,.aU (.ag 1 none))] [(1,.row (.int .u8) .R 0 ad)] [.aD,.aD,.aD]),fun U aa ad ai=>k 5 (bg [(1,aY U),(2,eh aa),(7,.aU (.ag 1 none)),(8,aY ad)] [(1,.row (.int .u8) .R 0 ai)] [.aD,.aD,.aD])⟩
theorem acH:Sound Tryz.prog 129 0 S4:=ct bk (fn:=Tryz.f129) (fns:=[]) trivial (by kernel_rfl) (by kernel_rfl) acF acG Rw m5 (fun k x=>CW k x.1 x.2.1 x.2.2.1) (by kernel_rfl) (fun _=>by kernel_rfl) (fun _=>rfl) (fun _ _=>by kernel_rfl) (fun _=>by kernel_rfl)
def S5:Entry:=⟨[aW af,aW aH,aW aK],[bm af,bm aS],wA⟩
def acI:List (Nat×bV):=[(12,⟨[(3,.ptr 1),(5,.ptr 2),(6,.ptr 3),(7,.ptr 5),(9,.ptr 6),(10,aM)],az 1 af .R []++az 2 aK .R []++az 3 af af.own []++az 5 aS .R []++az 6 I .R [],[.drop,.drop,.drop]⟩),(23,⟨[(3,.ptr 1),(6,.ptr 2),(7,.ptr 4),(9,.ptr 5)],az 1 af .R []++az 2 af af.own []++az 4 aS .R []++az 5 I .R [],[.drop,.drop,.drop]⟩)]
def acJ(k:Nat→aq→Option (tU)):tV:=⟨fun U aa ad ai an aB=>k 12 (bg [(3,ax 1),(5,ax 2),(6,ax 3),(7,ax 5),(9,ax 6),(10,aY U)] (aC 1 af .R [] aa++aC 2 aK .R [] ad++aC 3 af af.own [] ai++aC 5 aS .R [] an++aC 6 I .R [] aB) [.aD,.aD,.aD]),fun U aa ad ai=>k 23 (bg [(3,ax 1),(6,ax 2),(7,ax 4),(9,ax 5)] (aC 1 af .R [] U++aC 2 af af.own [] aa++aC 4 aS .R [] ad++aC 5 I .R [] ai) [.aD,.aD,.aD])⟩
theorem acK:Sound Tryz.prog 90 0 S5:=ct bk (fn:=Tryz.f90) (fns:=[(51,r'),(109,sa),(120,pk),(121,wX),(123,wY),(124,uP),(129,S4)]) ⟨uN,uO,qJ,zv,zw,wZ,acH,trivial⟩ (by kernel_rfl) (by kernel_rfl) acI acJ Rx jU (fun k x=>CX k x.1 x.2.1 x.2.2.1) (by kernel_rfl) (fun _=>by kernel_rfl) (fun _=>rfl) (fun _ _=>by kernel_rfl) (fun _=>by kernel_rfl)
def S6:Entry:=⟨[aW af,aW aH,aW aK],[bm af,bm aS],rR⟩
def acL:List (Nat×bV):=[(8,⟨[(3,.ptr 1),(4,.ptr 2),(5,.ptr 3),(6,.ptr 4),(7,.ptr 6),(8,aM)],az 1 af .R []++az 2 aH .R []++az 3 aK .R []++az 4 af af.own []++az 6 aS .R [],[.drop,.drop,.drop]⟩),(12,⟨[(3,.ptr 1),(4,.ptr 2),(5,.ptr 3),(6,.ptr 4),(7,.ptr 6)],az 1 af .R []++az 2 aH .R []++az 3 aK .R []++az 4 af af.own []++az 6 aS .R [],[.drop,.drop,.drop]⟩),(24,⟨[(3,.ptr 1),(4,.ptr 2),(5,.ptr 3),(6,.ptr 4),(7,.ptr 6),(10,.ptr 7)],az 1 af .R []++az 2 aH .R []++az 3 aK .R []++az 4 af af.own []++az 6 aS .R []++az 7 I .R [],[.drop,.drop,.drop]⟩),(32,⟨[(3,.ptr 1),(6,.ptr 2),(7,.ptr 4),(10,.ptr 5)],az 1 af .R []++az 2 af af.own []++az 4 aS .R []++az 5 I .R [],[.drop,.drop,.drop]⟩)]
def acM(k:Nat→aq→Option (ob)):qq:=⟨fun U aa ad ai an aB=>k 8 (bg [(3,ax 1),(4,ax 2),(5,ax 3),(6,ax 4),(7,ax 6),(8,ig U)] (aC 1 af .R [] aa++aC 2 aH .R [] ad++aC 3 aK .R [] ai++aC 4 af af.own [] an++aC 6 aS .R [] aB) [.aD,.aD,.aD]),fun U aa ad ai an=>k 12 (bg [(3,ax 1),(4,ax 2),(5,ax 3),(6,ax 4),(7,ax 6)] (aC 1 af .R [] U++aC 2 aH .R [] aa++aC 3 aK .R [] ad++aC 4 af af.own [] ai++aC 6 aS .R [] an) [.aD,.aD,.aD]),fun U aa ad ai an aB=>k 24 (bg [(3,ax 1),(4,ax 2),(5,ax 3),(6,ax 4),(7,ax 6),(10,ax 7)] (aC 1 af .R [] U++aC 2 aH .R [] aa++aC 3 aK .R [] ad++aC 4 af af.own [] ai++aC 6 aS .R [] an++aC 7 I .R [] aB) [.aD,.aD,.aD]),fun U aa ad ai=>k 32 (bg [(3,ax 1),(6,ax 2),(7,ax 4),(10,ax 5)] (aC 1 af .R [] U++aC 2 af af.own [] aa++aC 4 aS .R [] ad++aC 5 I .R [] ai) [.aD,.aD,.aD])⟩
theorem acN:Sound Tryz.prog 91 0 S6:=ct bk (fn:=Tryz.f91) (fns:=[(45,ni),(51,r'),(120,pk),(121,wX),(123,wY),(124,uP),(130,Lx)]) ⟨oo,uN,qJ,zv,zw,wZ,SM,trivial⟩ (by kernel_rfl) (by kernel_rfl) acL acM Ry g' (fun k x=>rQ k x.1 x.2.1 x.2.2.1) (by kernel_rfl) (fun _=>by kernel_rfl) (fun _=>rfl) (fun _ _=>by kernel_rfl) (fun _=>by kernel_rfl)
def S7:Entry:=⟨[aW (.int .i64)],[bm .str],hd⟩
def acO:List (Nat×bV):=[(5,⟨[(0,aM),(3,aM),(4,aM)],[],[.drop]⟩)]
def acP(k:Nat→aq→Option ((List UInt8)×Unit)):CY:=fun U aa ad=>k 5 (bg [(0,aY U),(3,eh aa),(4,ig ad)] [] [.aD])
theorem acQ:Sound Tryz.prog 131 0 S7:=ct bk (fn:=Tryz.f131) (fns:=[]) trivial (by kernel_rfl) (by kernel_rfl) acO acP y1 pc (fun k x=>Rz k x.1) (by kernel_rfl) (fun _=>by kernel_rfl) (fun _=>rfl) (fun _ _=>by kernel_rfl) (fun _=>by kernel_rfl)
def S8:Entry:=⟨[aW af,aW (.int .i64)],[bm (.int .i64)],C2⟩
def acR:List (Nat×bV):=[(8,⟨[(2,.ptr 1),(5,aM),(6,aM),(7,aM)],az 1 af .R [],[.drop,.drop]⟩)]
def acS(k:Nat→aq→Option (Int×Unit)):CZ:=fun U aa ad ai=>k 8 (bg [(2,ax 1),(5,aY U),(6,aY aa),(7,aY ad)] (aC 1 af .R [] ai) [.aD,.aD])
theorem acT:Sound Tryz.prog 132 0 S8:=ct bk (fn:=Tryz.f132) (fns:=[(48,E6),(83,pj),(127,LN)]) ⟨LK,qI,S0,trivial⟩ (by kernel_rfl) (by kernel_rfl) acR acS C1 tW (fun k x=>C0 k x.1 x.2.1) (by kernel_rfl) (fun _=>by kernel_rfl) (fun _=>rfl) (fun _ _=>by kernel_rfl) (fun _=>by kernel_rfl)
def S9:Entry:=⟨[aW af,aW aH,aW aK],[bm aS],lB⟩
def acU:List (Nat×bV):=[(5,⟨[(3,.ptr 1),(4,.ptr 2),(5,.ptr 3),(6,.ptr 4)],az 1 af .R []++az 2 aH .R []++az 3 aK .R []++az 4 aS .R [],[.drop,.drop,.drop]⟩),(6,⟨[(3,.ptr 1),(4,.ptr 2),(5,.ptr 3),(6,.ptr 4),(7,.ptr 5)],az 1 af .R []++az 2 aH .R []++az 3 aK .R []++az 4 aS .R []++az 5 aJ .R [],[.drop,.drop,.drop]⟩),(20,⟨[(5,.ptr 1),(6,.ptr 2),(8,.ptr 3),(10,.cell (.ag 4)),(11,aM)],az 1 aK .R []++az 2 aS .R []++az 3 I .R []++[(4,.row (.int .u8) .R)],[.drop,.drop,.drop]⟩),(35,⟨[(6,.ptr 1),(8,.ptr 2),(12,aM),(13,aM)],az 1 aS .R []++az 2 I .R [],[.drop,.drop,.drop]⟩),(39,⟨[(6,.ptr 1),(8,.ptr 2),(12,aM),(13,aM)],az 1 aS .R []++az 2 I .R [],[.drop,.drop,.drop]⟩)]
def acV(k:Nat→aq→Option (aS.D×Unit)):m6:=⟨fun U aa ad ai=>k 5 (bg [(3,ax 1),(4,ax 2),(5,ax 3),(6,ax 4)] (aC 1 af .R [] U++aC 2 aH .R [] aa++aC 3 aK .R [] ad++aC 4 aS .R [] ai) [.aD,.aD,.aD]),fun U aa ad ai an=>k 6 (bg [(3,ax 1),(4,ax 2),(5,ax 3),(6,ax 4),(7,ax 5)] (aC 1 af .R [] U++aC 2 aH .R [] aa++aC 3 aK .R [] ad++aC 4 aS .R [] ai++aC 5 aJ .R [] an) [.aD,.aD,.aD]),fun U aa ad ai an=>k 20 (bg [(5,ax 1),(6,ax 2),(8,ax 3),(10,.aU (.ag 4 none)),(11,aY U)] (aC 1 aK .R [] aa++aC 2 aS .R [] ad++aC 3 I .R [] ai++[(4,.row (.int .u8) .R 0 an)]) [.aD,.aD,.aD]),fun U aa ad ai=>k 35 (bg [(6,ax 1),(8,ax 2),(12,eh U),(13,aY aa)] (aC 1 aS .R [] ad++aC 2 I .R [] ai) [.aD,.aD,.aD]),fun U aa ad ai=>k 39 (bg [(6,ax 1),(8,ax 2),(12,eh U),(13,aY aa)] (aC 1 aS .R [] ad++aC 2 I .R [] ai) [.aD,.aD,.aD])⟩
theorem acW:Sound Tryz.prog 92 0 S9:=ct bk (fn:=Tryz.f92) (fns:=[(45,ni),(49,E4),(84,LG),(109,sa),(120,pk),(124,uP),(131,S7),(132,S8)]) ⟨oo,LD,SS,uO,qJ,wZ,acQ,acT,trivial⟩ (by kernel_rfl) (by kernel_rfl) acU acV RA fl (fun k x=>qs k x.1 x.2.1 x.2.2.1) (by kernel_rfl) (fun _=>by kernel_rfl) (fun _=>rfl) (fun _ _=>by kernel_rfl) (fun _=>by kernel_rfl)
def LO:Entry:=⟨[B4 af,B4 aH,aW aK],[bm af,bm aS],m8⟩
def acX:List (Nat×bV):=[(8,⟨[(3,.ptr 1),(4,.ptr 2),(5,.ptr 3),(6,.ptr 4),(7,.ptr 6),(19,aM)],az 1 af .R []++az 2 aH .R []++az 3 aK .R []++az 4 af af.own []++az 6 aS .R [],[.drop,.drop,.drop]⟩),(11,⟨[(3,.ptr 1),(4,.ptr 2),(5,.ptr 3),(6,.ptr 4),(7,.ptr 6),(19,aM)],az 1 af .R []++az 2 aH .R []++az 3 aK .R []++az 4 af af.own []++az 6 aS .R [],[.drop,.drop,.drop]⟩),(19,⟨[(3,.ptr 1),(4,.ptr 2),(5,.ptr 3),(6,.ptr 4),(7,.ptr 6),(19,aM)],az 1 af .R []++az 2 aH .R []++az 3 aK .R []++az 4 af af.own []++az 6 aS .R [],[.drop,.drop,.drop]⟩)]
def acY(k:Nat→aq→Option (qt)):rU:=⟨fun U aa ad ai an aB=>k 8 (bg [(3,ax 1),(4,ax 2),(5,ax 3),(6,ax 4),(7,ax 6),(19,aY U)] (aC 1 af .R [] aa++aC 2 aH .R [] ad++aC 3 aK .R [] ai++aC 4 af af.own [] an++aC 6 aS .R [] aB) [.aD,.aD,.aD]),fun U aa ad ai an aB=>k 11 (bg [(3,ax 1),(4,ax 2),(5,ax 3),(6,ax 4),(7,ax 6),(19,aY U)] (aC 1 af .R [] aa++aC 2 aH .R [] ad++aC 3 aK .R [] ai++aC 4 af af.own [] an++aC 6 aS .R [] aB) [.aD,.aD,.aD]),fun U aa ad ai an aB=>k 19 (bg [(3,ax 1),(4,ax 2),(5,ax 3),(6,ax 4),(7,ax 6),(19,aY U)] (aC 1 af .R [] aa++aC 2 aH .R [] ad++aC 3 aK .R [] ai++aC 4 af af.own [] an++aC 6 aS .R [] aB) [.aD,.aD,.aD])⟩
theorem S_:Sound Tryz.prog 52 0 LO:=ct bk (fn:=Tryz.f52) (fns:=[(85,SK),(86,SW),(87,SZ),(88,S1),(89,S3),(90,S5),(91,S6),(92,S9)]) ⟨abR,acp,acx,acy,acE,acK,acN,acW,trivial⟩ (by kernel_rfl) (by kernel_rfl) acX acY RB y2 (fun k x=>rV k x.1 x.2.1 x.2.2.1) (by kernel_rfl) (fun _=>by kernel_rfl) (fun _=>rfl) (fun _ _=>by kernel_rfl) (fun _=>by kernel_rfl)
def zx:Entry:=⟨[.«mut» bp .R .R,sE (.sl (.int .i64))],[bm (.int .i64)],iN⟩
theorem E7:Sound Tryz.prog 77 0 zx:=cI bk (fn:=Tryz.f77) (fns:=[(76,nh)]) ⟨om,trivial⟩ (by kernel_rfl) (by kernel_rfl) fun _=>by kernel_rfl
def LP:Entry:=⟨[.«mut» bp .R .R],[ro aH],y3⟩
theorem S':Sound Tryz.prog 79 0 LP:=cI bk (fn:=Tryz.f79) (fns:=[(76,nh)]) ⟨om,trivial⟩ (by kernel_rfl) (by kernel_rfl) fun _=>by kernel_rfl
def Ta:Entry:=⟨[.«mut» bp .R .R,aW (.int .i64)],[bm .str],y5⟩
def acZ:List (Nat×bV):=[(4,⟨[(0,.ptr 1),(5,.cell (.ag 2)),(6,aM),(7,aM)],az 1 bp .R []++[(2,.row (.int .u8) .R)],[.ptr 1,.drop]⟩),(11,⟨[(0,.ptr 1),(5,.cell (.ag 2)),(6,aM),(7,aM),(8,aM)],az 1 bp .R []++[(2,.row (.int .u8) .R)],[.ptr 1,.drop]⟩)]
def ac0(k:Nat→aq→Option (tX)):tY:=⟨fun U aa ad ai=>k 4 (bg [(0,ax 1),(5,.aU (.ag 2 none)),(6,aY U),(7,aY aa)] (aC 1 bp .R [] ad++[(2,.row (.int .u8) .R 0 ai)]) [ax 1,.aD]),fun U aa ad ai an=>k 11 (bg [(0,ax 1),(5,.aU (.ag 2 none)),(6,aY U),(7,aY aa),(8,aY ad)] (aC 1 bp .R [] ai++[(2,.row (.int .u8) .R 0 an)]) [ax 1,.aD])⟩
theorem ac1:Sound Tryz.prog 58 0 Ta:=ct bk (fn:=Tryz.f58) (fns:=[(76,nh),(105,Lu)]) ⟨om,SG,trivial⟩ (by kernel_rfl) (by kernel_rfl) acZ ac0 RE rW (fun k x=>C6 k x.1 x.2.1) (by kernel_rfl) (fun _=>by kernel_rfl) (fun _=>rfl) (fun _ _=>by kernel_rfl) (fun _=>by kernel_rfl)
def zy:Entry:=⟨[.«mut» bp .R .R,sE (.sl .str)],[bm .str],qu⟩
theorem E8:Sound Tryz.prog 78 0 zy:=cI bk (fn:=Tryz.f78) (fns:=[(76,nh)]) ⟨om,trivial⟩ (by kernel_rfl) (by kernel_rfl) fun _=>by kernel_rfl
def LQ:Entry:=⟨[.«mut» bp .R .R],[bm .str],wB⟩
theorem Tb:Sound Tryz.prog 106 0 LQ:=cI bk (fn:=Tryz.f106) (fns:=[(78,zy)]) ⟨E8,trivial⟩ (by kernel_rfl) (by kernel_rfl) fun _=>by kernel_rfl
def LR:Entry:=⟨[.«mut» bp .R .R],[bm .str],C8⟩
def ac2:List (Nat×bV):=[(3,⟨[(0,.ptr 1),(3,aM),(4,aM)],az 1 bp .R [],[.ptr 1]⟩),(16,⟨[(0,.ptr 1),(3,aM)],az 1 bp .R [],[.ptr 1]⟩),(17,⟨[(0,.ptr 1),(3,aM)],az 1 bp .R [],[.ptr 1]⟩)]
def ac3(k:Nat→aq→Option (qv)):rX:=⟨fun U aa ad=>k 3 (bg [(0,ax 1),(3,eh U),(4,aY aa)] (aC 1 bp .R [] ad) [ax 1]),fun U aa=>k 16 (bg [(0,ax 1),(3,eh U)] (aC 1 bp .R [] aa) [ax 1]),fun U aa=>k 17 (bg [(0,ax 1),(3,eh U)] (aC 1 bp .R [] aa) [ax 1])⟩
theorem Tc:Sound Tryz.prog 80 0 LR:=ct bk (fn:=Tryz.f80) (fns:=[(63,uM),(76,nh),(78,zy),(106,LQ)]) ⟨wV,om,E8,Tb,trivial⟩ (by kernel_rfl) (by kernel_rfl) ac2 ac3 RH og (fun k x=>C7 k x.1) (by kernel_rfl) (fun _=>by kernel_rfl) (fun _=>rfl) (fun _ _=>by kernel_rfl) (fun _=>by kernel_rfl)
def LS:Entry:=⟨[.«mut» bp .R .R,aW af],[bm .str],t_⟩
def ac4:List (Nat×bV):=[(6,⟨[(0,.ptr 1),(3,.ptr 2),(5,aM),(6,aM),(7,aM)],az 1 bp .R []++az 2 af .R [],[.ptr 1,.drop]⟩)]
def ac5(k:Nat→aq→Option (y7)):C9:=fun U aa ad ai an=>k 6 (bg [(0,ax 1),(3,ax 2),(5,eh U),(6,aY aa),(7,aY ad)] (aC 1 bp .R [] ai++aC 2 af .R [] an) [ax 1,.aD])
theorem Td:Sound Tryz.prog 62 0 LS:=ct bk (fn:=Tryz.f62) (fns:=[(63,uM),(76,nh),(80,LR),(83,pj),(106,LQ)]) ⟨wV,om,Tc,qI,Tb,trivial⟩ (by kernel_rfl) (by kernel_rfl) ac4 ac5 wD tZ (fun k x=>C_ k x.1 x.2.1) (by kernel_rfl) (fun _=>by kernel_rfl) (fun _=>rfl) (fun _ _=>by kernel_rfl) (fun _=>by kernel_rfl)
def LU:Entry:=⟨[.«mut» bp .R .R,aW af],[bm aK],Da⟩
def ac6:List (Nat×bV):=[(2,⟨[(0,.ptr 1),(3,.ptr 2),(4,.ptr 3),(5,.ptr 4)],az 1 bp .R []++az 2 af .R []++az 3 aK .R []++az 4 aK .R [],[.ptr 1,.drop]⟩),(6,⟨[(0,.ptr 1),(4,.ptr 2),(5,.ptr 3)],az 1 bp .R []++az 2 aK .R []++az 3 aK .R [],[.ptr 1,.drop]⟩),(7,⟨[(0,.ptr 1),(3,.ptr 2),(4,.ptr 3),(5,.ptr 4),(14,aM)],az 1 bp .R []++az 2 af .R []++az 3 aK .R []++az 4 aK .R [],[.ptr 1,.drop]⟩),(32,⟨[(0,.ptr 1),(4,.ptr 2),(5,.ptr 3)],az 1 bp .R []++az 2 aK .R []++az 3 aK .R [],[.ptr 1,.drop]⟩),(19,⟨[(0,.ptr 1),(3,.ptr 2),(4,.ptr 3),(5,.ptr 4)],az 1 bp .R []++az 2 af .R []++az 3 aK .R []++az 4 aK .R [],[.ptr 1,.drop]⟩),(20,⟨[(0,.ptr 1),(4,.ptr 2),(5,.ptr 3),(14,aM)],az 1 bp .R []++az 2 aK .R []++az 3 aK .R [],[.ptr 1,.drop]⟩)]
def ac7(k:Nat→aq→Option (kF)):oh:=⟨fun U aa ad ai=>k 2 (bg [(0,ax 1),(3,ax 2),(4,ax 3),(5,ax 4)] (aC 1 bp .R [] U++aC 2 af .R [] aa++aC 3 aK .R [] ad++aC 4 aK .R [] ai) [ax 1,.aD]),fun U aa ad=>k 6 (bg [(0,ax 1),(4,ax 2),(5,ax 3)] (aC 1 bp .R [] U++aC 2 aK .R [] aa++aC 3 aK .R [] ad) [ax 1,.aD]),fun U aa ad ai an=>k 7 (bg [(0,ax 1),(3,ax 2),(4,ax 3),(5,ax 4),(14,aY U)] (aC 1 bp .R [] aa++aC 2 af .R [] ad++aC 3 aK .R [] ai++aC 4 aK .R [] an) [ax 1,.aD]),fun U aa ad=>k 32 (bg [(0,ax 1),(4,ax 2),(5,ax 3)] (aC 1 bp .R [] U++aC 2 aK .R [] aa++aC 3 aK .R [] ad) [ax 1,.aD]),fun U aa ad ai=>k 19 (bg [(0,ax 1),(3,ax 2),(4,ax 3),(5,ax 4)] (aC 1 bp .R [] U++aC 2 af .R [] aa++aC 3 aK .R [] ad++aC 4 aK .R [] ai) [ax 1,.aD]),fun U aa ad ai=>k 20 (bg [(0,ax 1),(4,ax 2),(5,ax 3),(14,aY U)] (aC 1 bp .R [] aa++aC 2 aK .R [] ad++aC 3 aK .R [] ai) [ax 1,.aD])⟩
theorem Te:Sound Tryz.prog 44 0 LU:=ct bk (fn:=Tryz.f44) (fns:=[(58,Ta),(62,LS),(63,uM),(76,nh),(77,zx),(78,zy),(80,LR)]) ⟨ac1,Td,wV,om,E7,E8,Tc,trivial⟩ (by kernel_rfl) (by kernel_rfl) ac6 ac7 RI kG (fun k x=>C' k x.1 x.2.1) (by kernel_rfl) (fun _=>by kernel_rfl) (fun _=>rfl) (fun _ _=>by kernel_rfl) (fun _=>by kernel_rfl)
def Tf:Entry:=⟨[.«mut» bp .R .R],[bm aK],Db⟩
theorem ac8:Sound Tryz.prog 118 0 Tf:=cI bk (fn:=Tryz.f118) (fns:=[(44,LU),(12,SI)]) ⟨Te,abJ,trivial⟩ (by kernel_rfl) (by kernel_rfl) fun _=>by kernel_rfl
def Tg:Entry:=⟨[.«mut» bp .R .R,aW (.int .i64)],[ro af],J3⟩
def ac9:List (Nat×bV):=[(5,⟨[(0,.ptr 1),(4,.ptr 2),(5,.ptr 4),(6,aM)],az 1 bp .R []++az 2 af af.own []++az 4 af .R [],[.ptr 1,.drop]⟩)]
def ac_(k:Nat→aq→Option (wE)):y8:=fun U aa ad ai=>k 5 (bg [(0,ax 1),(4,ax 2),(5,ax 4),(6,aY U)] (aC 1 bp .R [] aa++aC 2 af af.own [] ad++aC 4 af .R [] ai) [ax 1,.aD])
theorem ac':Sound Tryz.prog 75 0 Tg:=ct bk (fn:=Tryz.f75) (fns:=[(12,SH),(52,LO),(76,nh),(77,zx),(79,LP),(118,Tf),(51,SJ)]) ⟨abI,S_,om,E7,S',ac8,abO,trivial⟩ (by kernel_rfl) (by kernel_rfl) ac9 ac_ wF t' (fun k x=>Dc k x.1 x.2.1) (by kernel_rfl) (fun _=>by kernel_rfl) (fun _=>rfl) (fun _ _=>by kernel_rfl) (fun _=>by kernel_rfl)
def LV:Entry:=⟨[.«mut» bp .R .R,aW (.int .i64)],[ro af],Df⟩
theorem Th:Sound Tryz.prog 41 0 LV:=cI bk (fn:=Tryz.f41) (fns:=[(63,uM),(75,Tg),(76,nh),(77,zx),(78,zy)]) ⟨wV,ac',om,E7,E8,trivial⟩ (by kernel_rfl) (by kernel_rfl) fun _=>by kernel_rfl
def LW:Entry:=⟨[aW (.sl (.int .u8)),aW (.int .i64)],[bm (.int .i64)],Dg⟩
theorem Ti:Sound Tryz.prog 42 0 LW:=cI bk (fn:=Tryz.f42) (fns:=[]) trivial (by kernel_rfl) (by kernel_rfl) fun _=>by kernel_rfl
def LX:Entry:=⟨[.«mut» bp .R .R],[ro aH],Dh⟩
theorem Tj:Sound Tryz.prog 43 0 LX:=cI bk (fn:=Tryz.f43) (fns:=[(63,uM),(76,nh),(77,zx),(79,LP)]) ⟨wV,om,E7,S',trivial⟩ (by kernel_rfl) (by kernel_rfl) fun _=>by kernel_rfl
def Tk:Entry:=⟨[aW (.sl (.int .u8))],[ro af,ro aH,bm aK],J8⟩
theorem ada:Sound Tryz.prog 10 0 Tk:=cI bk (fn:=Tryz.f10) (fns:=[(40,Lt),(41,LV),(42,LW),(43,LX),(44,LU)]) ⟨SF,Th,Ti,Tj,Te,trivial⟩ (by kernel_rfl) (by kernel_rfl) fun _=>by kernel_rfl
def Tl:Entry:=⟨[aW .str],[bm .bool],J9⟩
def adb:List (Nat×bV):=[(4,⟨[(0,aM),(3,aM)],[],[.drop]⟩)]
def ade(k:Nat→aq→Option (Bool×Unit)):Di:=fun U aa=>k 4 (bg [(0,eh U),(3,aY aa)] [] [.aD])
theorem adf:Sound Tryz.prog 82 0 Tl:=ct bk (fn:=Tryz.f82) (fns:=[(45,ni),(107,E1)]) ⟨oo,Lv,trivial⟩ (by kernel_rfl) (by kernel_rfl) adb ade Dk rY (fun k x=>Dj k x.1) (by kernel_rfl) (fun _=>by kernel_rfl) (fun _=>rfl) (fun _ _=>by kernel_rfl) (fun _=>by kernel_rfl)
def Tm:Entry:=⟨[aW af,aW I],[bm .bool],Dm⟩
def adg:List (Nat×bV):=[(4,⟨[(2,.ptr 1),(3,.ptr 2),(5,aM)],az 1 af .R []++az 2 I .R [],[.drop,.drop]⟩),(13,⟨[(2,.ptr 1),(3,.ptr 2),(6,aM)],az 1 af .R []++az 2 I .R [],[.drop,.drop]⟩)]
def adh(k:Nat→aq→Option (Bool×Unit)):ua:=⟨fun U aa ad=>k 4 (bg [(2,ax 1),(3,ax 2),(5,ig U)] (aC 1 af .R [] aa++aC 2 I .R [] ad) [.aD,.aD]),fun U aa ad=>k 13 (bg [(2,ax 1),(3,ax 2),(6,aY U)] (aC 1 af .R [] aa++aC 2 I .R [] ad) [.aD,.aD])⟩
theorem adi:Sound Tryz.prog 46 0 Tm:=ct bk (fn:=Tryz.f46) (fns:=[(45,ni),(81,Lw),(82,Tl),(83,pj)]) ⟨oo,SL,adf,qI,trivial⟩ (by kernel_rfl) (by kernel_rfl) adg adh RN qw (fun k x=>Dl k x.1 x.2.1) (by kernel_rfl) (fun _=>by kernel_rfl) (fun _=>rfl) (fun _ _=>by kernel_rfl) (fun _=>by kernel_rfl)
def E9:Entry:=⟨[aW af],[bm .bool],y_⟩
def adj:List (Nat×bV):=[(4,⟨[(1,.ptr 1),(3,aM)],az 1 af .R [],[.drop]⟩),(11,⟨[(1,.ptr 1),(5,.cell (.ag 2)),(6,aM)],az 1 af .R []++[(2,.row .bool .R)],[.drop]⟩)]
def adk(k:Nat→aq→Option (Bool×Unit)):ub:=⟨fun U aa=>k 4 (bg [(1,ax 1),(3,aY U)] (aC 1 af .R [] aa) [.aD]),fun U aa ad=>k 11 (bg [(1,ax 1),(5,.aU (.ag 2 none)),(6,aY U)] (aC 1 af .R [] aa++[(2,.row .bool .R 0 ad)]) [.aD])⟩
theorem LY:Sound Tryz.prog 11 0 E9:=ct bk (fn:=Tryz.f11) (fns:=[(45,ni),(46,Tm),(47,LF),(48,E6),(49,E4),(50,LH)]) ⟨oo,adi,SR,LK,LD,SU,trivial⟩ (by kernel_rfl) (by kernel_rfl) adj adk RO m9 (fun k x=>Dn k x.1) (by kernel_rfl) (fun _=>by kernel_rfl) (fun _=>rfl) (fun _ _=>by kernel_rfl) (fun _=>by kernel_rfl)
def ki:Entry:=⟨[aW (.int .i64),aW (.int .i64),aW (.int .i64)],[bm .bool],eI⟩
theorem kJ:Sound Tryz.prog 93 0 ki:=cI bk (fn:=Tryz.f93) (fns:=[]) trivial (by kernel_rfl) (by kernel_rfl) fun _=>by kernel_rfl
def LZ:Entry:=⟨[aW (.int .u8)],[bm .bool],Dp⟩
theorem Tn:Sound Tryz.prog 157 0 LZ:=cI bk (fn:=Tryz.f157) (fns:=[]) trivial (by kernel_rfl) (by kernel_rfl) fun _=>by kernel_rfl
def E_:Entry:=⟨[aW .str],[bm .bool],wG⟩
def adl:List (Nat×bV):=[(2,⟨[(0,aM),(5,aM),(6,aM)],[],[.drop]⟩)]
def adm(k:Nat→aq→Option (Bool×Unit)):Dq:=fun U aa ad=>k 2 (bg [(0,eh U),(5,aY aa),(6,aY ad)] [] [.aD])
theorem L0:Sound Tryz.prog 133 0 E_:=ct bk (fn:=Tryz.f133) (fns:=[(93,ki),(157,LZ)]) ⟨kJ,Tn,trivial⟩ (by kernel_rfl) (by kernel_rfl) adl adm Ds ue (fun k x=>Dr k x.1) (by kernel_rfl) (fun _=>by kernel_rfl) (fun _=>rfl) (fun _ _=>by kernel_rfl) (fun _=>by kernel_rfl)
def nj:Entry:=⟨[fR af,aW (.int .i64)],[.oG I],fm⟩
def adn:List (Nat×bV):=[(2,⟨[(0,.dg [] (rG af .R [] 0)),(1,aM),(10,aM),(11,aM)],[],[.drop,.drop]⟩)]
def ado(k:Nat→aq→Option (y')):Dt:=fun U aa ad ai=>k 2 (bg [(0,.dg (o6 []) (aU af .R [] U 0) 0),(1,aY aa),(10,aY ad),(11,aY ai)] [] [.aD,.aD])
theorem oq:Sound Tryz.prog 56 0 nj:=ct bk (fn:=Tryz.f56) (fns:=[]) trivial (by kernel_rfl) (by kernel_rfl) adn ado Dv uf (fun k x=>Du k x.1 x.2.1) (by kernel_rfl) (fun _=>by kernel_rfl) (fun _=>rfl) (fun _ _=>by kernel_rfl) (fun _=>by kernel_rfl)
def E':Entry:=⟨[aaR af,aW (.int .i64)],[.opt 0 1 I],wH⟩
def adp:List (Nat×bV):=[(2,⟨[(0,.ptr 1),(1,aM),(10,aM),(11,aM)],az 1 af af.own [],[.ptr 1,.drop]⟩)]
def adq(k:Nat→aq→Option (Int×af.D×Unit)):Dw:=fun U aa ad ai=>k 2 (bg [(0,ax 1),(1,aY U),(10,aY aa),(11,aY ad)] (aC 1 af af.own [] ai) [ax 1,.aD])
theorem L1:Sound Tryz.prog 56 0 E':=ct bk (fn:=Tryz.f56) (fns:=[]) trivial (by kernel_rfl) (by kernel_rfl) adp adq Dy ug (fun k x=>Dx k x.1 x.2.1) (by kernel_rfl) (fun _=>by kernel_rfl) (fun _=>rfl) (fun _ _=>by kernel_rfl) (fun _=>by kernel_rfl)
def To:Entry:=⟨[aW .str],[bm .bool],Ka⟩
def adr:List (Nat×bV):=[(2,⟨[(0,aM),(5,aM),(6,aM)],[],[.drop]⟩)]
def ads(k:Nat→aq→Option (Bool×Unit)):Dz:=fun U aa ad=>k 2 (bg [(0,eh U),(5,aY aa),(6,aY ad)] [] [.aD])
theorem adt:Sound Tryz.prog 158 0 To:=ct bk (fn:=Tryz.f158) (fns:=[(93,ki),(157,LZ)]) ⟨kJ,Tn,trivial⟩ (by kernel_rfl) (by kernel_rfl) adr ads DB uh (fun k x=>DA k x.1) (by kernel_rfl) (fun _=>by kernel_rfl) (fun _=>rfl) (fun _ _=>by kernel_rfl) (fun _=>by kernel_rfl)
def Tp:Entry:=⟨[fR af,aW I],[bm .bool],Kb⟩
def adu:List (Nat×bV):=[(2,⟨[(0,.dg [] (rG af .R [] 0)),(3,.ptr 1),(8,.cell (.bW aw [])),(9,aM),(10,aM)],az 1 I .R [],[.drop,.drop]⟩)]
def adv(k:Nat→aq→Option (Bool×Unit)):DC:=fun U aa ad ai an=>k 2 (bg [(0,.dg (o6 []) (aU af .R [] U 0) 0),(3,ax 1),(8,gT aw aa),(9,aY ad),(10,aY ai)] (aC 1 I .R [] an) [.aD,.aD])
theorem adw:Sound Tryz.prog 134 0 Tp:=ct bk (fn:=Tryz.f134) (fns:=[(56,nj),(158,To)]) ⟨oq,adt,trivial⟩ (by kernel_rfl) (by kernel_rfl) adu adv DE ui (fun k x=>DD k x.1 x.2.1) (by kernel_rfl) (fun _=>by kernel_rfl) (fun _=>rfl) (fun _ _=>by kernel_rfl) (fun _=>by kernel_rfl)
def Tq:Entry:=⟨[fR af,aW I],[bm .bool],DH⟩
def adx:List (Nat×bV):=[(5,⟨[(0,.dg [] (rG af .R [] 0)),(3,.ptr 1)],az 1 I .R [],[.drop,.drop]⟩)]
def ady(k:Nat→aq→Option (Bool×Unit)):DF:=fun U aa=>k 5 (bg [(0,.dg (o6 []) (aU af .R [] U 0) 0),(3,ax 1)] (aC 1 I .R [] aa) [.aD,.aD])
theorem adz:Sound Tryz.prog 94 0 Tq:=ct bk (fn:=Tryz.f94) (fns:=[(93,ki),(133,E_),(134,Tp)]) ⟨kJ,L0,adw,trivial⟩ (by kernel_rfl) (by kernel_rfl) adx ady Kc za (fun k x=>DG k x.1 x.2.1) (by kernel_rfl) (fun _=>by kernel_rfl) (fun _=>rfl) (fun _ _=>by kernel_rfl) (fun _=>by kernel_rfl)
def Tr:Entry:=⟨[aW (.sl (.int .i64)),aW (.int .i64)],[bm (.int .i64)],Kd⟩
def adA:List (Nat×bV):=[(2,⟨[(0,.cell (.bW (.int .i64) [])),(1,aM),(7,aM),(8,aM)],[],[.drop,.drop]⟩)]
def adB(k:Nat→aq→Option (Int×Unit)):DI:=fun U aa ad ai=>k 2 (bg [(0,gT (.int .i64) U),(1,aY aa),(7,aY ad),(8,aY ai)] [] [.aD,.aD])
theorem adC:Sound Tryz.prog 135 0 Tr:=ct bk (fn:=Tryz.f135) (fns:=[]) trivial (by kernel_rfl) (by kernel_rfl) adA adB DK uj (fun k x=>DJ k x.1 x.2.1) (by kernel_rfl) (fun _=>by kernel_rfl) (fun _=>rfl) (fun _ _=>by kernel_rfl) (fun _=>by kernel_rfl)
def zz:Entry:=⟨[aW (.sl (.int .i64)),aW (.int .i64)],[bm .bool],rZ⟩
theorem Fa:Sound Tryz.prog 96 0 zz:=cI bk (fn:=Tryz.f96) (fns:=[(135,Tr)]) ⟨adC,trivial⟩ (by kernel_rfl) (by kernel_rfl) fun _=>by kernel_rfl
def Fb:Entry:=⟨[fR af,aW (.int .i64)],[ro (.sl (.int .i64))],um⟩
def adD:List (Nat×bV):=[(4,⟨[(0,.dg [] (rG af .R [] 0)),(5,.cell (.ag 1)),(6,.cell (.ag 2)),(7,aM)],[(1,.row (.int .i64) .R),(2,.row (.int .i64) .R)],[.drop,.drop]⟩),(9,⟨[(0,.dg [] (rG af .R [] 0)),(5,.cell (.ag 1)),(6,.cell (.ag 2)),(7,aM),(31,.cell (.bW aw [])),(32,aM),(33,aM)],[(1,.row (.int .i64) .R),(2,.row (.int .i64) .R)],[.drop,.drop]⟩)]
def adE(k:Nat→aq→Option ((List Int)×Unit)):uk:=⟨fun U aa ad ai=>k 4 (bg [(0,.dg (o6 []) (aU af .R [] U 0) 0),(5,.aU (.ag 1 none)),(6,.aU (.ag 2 none)),(7,aY aa)] [(1,.row (.int .i64) .R 0 ad),(2,.row (.int .i64) .R 0 ai)] [.aD,.aD]),fun U aa ad ai an aB a_=>k 9 (bg [(0,.dg (o6 []) (aU af .R [] U 0) 0),(5,.aU (.ag 1 none)),(6,.aU (.ag 2 none)),(7,aY aa),(31,gT aw ad),(32,aY ai),(33,aY an)] [(1,.row (.int .i64) .R 0 aB),(2,.row (.int .i64) .R 0 a_)] [.aD,.aD])⟩
theorem L2:Sound Tryz.prog 95 0 Fb:=ct bk (fn:=Tryz.f95) (fns:=[(56,nj),(96,zz)]) ⟨oq,Fa,trivial⟩ (by kernel_rfl) (by kernel_rfl) adD adE RQ mh (fun k x=>DL k x.1 x.2.1) (by kernel_rfl) (fun _=>by kernel_rfl) (fun _=>rfl) (fun _ _=>by kernel_rfl) (fun _=>by kernel_rfl)
def Fc:Entry:=⟨[fR af,aW (.int .i64)],[bm (.int .i64)],wI⟩
def adF:List (Nat×bV):=[(3,⟨[(1,aM),(5,aM),(13,.cell (.bW I [])),(14,aM),(15,aM)],[],[.drop,.drop]⟩),(6,⟨[(1,aM),(5,aM),(13,.cell (.bW I [])),(14,aM),(15,aM),(20,.cell (.bW aw [])),(21,aM),(22,aM)],[],[.drop,.drop]⟩)]
def adG(k:Nat→aq→Option (Int×Unit)):uo:=⟨fun U aa ad ai an=>k 3 (bg [(1,aY U),(5,aY aa),(13,gT I ad),(14,aY ai),(15,aY an)] [] [.aD,.aD]),fun U aa ad ai an aB a_ bP=>k 6 (bg [(1,aY U),(5,aY aa),(13,gT I ad),(14,aY ai),(15,aY an),(20,gT aw aB),(21,aY a_),(22,aY bP)] [] [.aD,.aD])⟩
theorem L3:Sound Tryz.prog 97 0 Fc:=ct bk (fn:=Tryz.f97) (fns:=[]) trivial (by kernel_rfl) (by kernel_rfl) adF adG RR pe (fun k x=>DM k x.1 x.2.1) (by kernel_rfl) (fun _=>by kernel_rfl) (fun _=>rfl) (fun _ _=>by kernel_rfl) (fun _=>by kernel_rfl)
def Fe:Entry:=⟨[fR af],[bm (.int .i64)],r0⟩
def adH:List (Nat×bV):=[(3,⟨[(3,aM),(9,.cell (.bW I [])),(10,aM),(11,aM)],[],[.drop]⟩)]
def adI(k:Nat→aq→Option (Int×Unit)):DN:=fun U aa ad ai=>k 3 (bg [(3,aY U),(9,gT I aa),(10,aY ad),(11,aY ai)] [] [.aD])
theorem L4:Sound Tryz.prog 98 0 Fe:=ct bk (fn:=Tryz.f98) (fns:=[]) trivial (by kernel_rfl) (by kernel_rfl) adH adI DP uq (fun k x=>DO k x.1) (by kernel_rfl) (fun _=>by kernel_rfl) (fun _=>rfl) (fun _ _=>by kernel_rfl) (fun _=>by kernel_rfl)
def L5:Entry:=⟨[fR af,aW (.int .i64)],[bm (.int .i64),bm (.int .i64)],wJ⟩
def adJ:List (Nat×bV):=[(4,⟨[(0,.dg [] (rG af .R [] 0)),(6,aM),(7,.cell (.ag 1)),(14,.cell (.ag 1)),(15,aM),(16,aM)],[(1,.row (.int .i64) .R)],[.drop,.drop]⟩)]
def adK(k:Nat→aq→Option (Int×Int×Unit)):DQ:=fun U aa ad ai an=>k 4 (bg [(0,.dg (o6 []) (aU af .R [] U 0) 0),(6,aY aa),(7,.aU (.ag 1 none)),(14,.aU (.ag 1 none)),(15,aY ad),(16,aY ai)] [(1,.row (.int .i64) .R 0 an)] [.aD,.aD])
theorem Ts:Sound Tryz.prog 60 0 L5:=ct bk (fn:=Tryz.f60) (fns:=[(56,nj),(95,Fb)]) ⟨oq,L2,trivial⟩ (by kernel_rfl) (by kernel_rfl) adJ adK DS qy (fun k x=>DR k x.1 x.2.1) (by kernel_rfl) (fun _=>by kernel_rfl) (fun _=>rfl) (fun _ _=>by kernel_rfl) (fun _=>by kernel_rfl)
def Tt:Entry:=⟨[fR af,aW I],[bm .bool],Kg⟩
theorem adL:Sound Tryz.prog 100 0 Tt:=cI bk (fn:=Tryz.f100) (fns:=[(60,L5)]) ⟨Ts,trivial⟩ (by kernel_rfl) (by kernel_rfl) fun _=>by kernel_rfl
def Tu:Entry:=⟨[aW (.sl I),.fn 1 0,fR af],[bm (.int .i64)],Kh⟩
def adM:List (Nat×bV):=[(2,⟨[(0,.cell (.bW I [])),(1,.u_ [[.keep,.bW I []]] []),(7,aM),(8,aM)],[],[.drop,.drop,.drop]⟩)]
def adN(k:Nat→aq→Option (Int×Unit)):DT:=fun U aa ad ai=>k 2 (bg [(0,gT I U),(1,.fn 100 [.dg [] [.int .i64 aa.1,.bW I [] none aa.2.1] 0] []),(7,aY ad),(8,aY ai)] [] [.aD,.aD,.aD])
theorem adO:Sound Tryz.prog 136 100 Tu:=u' bk 100 (fn:=Tryz.f136) (fns:=[(100,Tt)]) ⟨adL,trivial⟩ (by kernel_rfl) (by kernel_rfl) adM adN DV ur (fun k x=>DU k x.1 x.2.1) (by kernel_rfl) (fun _=>by kernel_rfl) (fun _=>rfl) (fun _ _=>by kernel_rfl) (fun _=>by kernel_rfl)
def L6:Entry:=⟨[aW (.sl I),.fn 1 0,fR af],[bm .bool],ze⟩
theorem Tv:Sound Tryz.prog 99 100 L6:=Q5 bk 100 (fn:=Tryz.f99) (fns:=[(100000136,Tu)]) ⟨adO,trivial⟩ (by kernel_rfl) (by kernel_rfl) fun _=>by kernel_rfl
def Tw:Entry:=⟨[aW af],[bm .bool],wK⟩
def adP:List (Nat×bV):=[(4,⟨[(1,.ptr 1),(36,.cell (.bW I [])),(37,aM),(38,aM)],az 1 af .R [],[.drop]⟩),(11,⟨[(1,.ptr 1),(5,.cell (.ag 2)),(75,.cell (.bW I [])),(76,aM),(77,aM)],az 1 af .R []++[(2,.row (.int .i64) .R)],[.drop]⟩)]
def adQ(k:Nat→aq→Option (Bool×Unit)):uu:=⟨fun U aa ad ai=>k 4 (bg [(1,ax 1),(36,gT I U),(37,aY aa),(38,aY ad)] (aC 1 af .R [] ai) [.aD]),fun U aa ad ai an=>k 11 (bg [(1,ax 1),(5,.aU (.ag 2 none)),(75,gT I U),(76,aY aa),(77,aY ad)] (aC 1 af .R [] ai++[(2,.row (.int .i64) .R 0 an)]) [.aD])⟩
theorem adR:Sound Tryz.prog 53 0 Tw:=ct bk (fn:=Tryz.f53) (fns:=[(93,ki),(94,Tq),(95,Fb),(96,zz),(97,Fc),(98,Fe),(100000099,L6)]) ⟨kJ,adz,L2,Fa,L3,L4,Tv,trivial⟩ (by kernel_rfl) (by kernel_rfl) adP adQ RS na (fun k x=>DW k x.1) (by kernel_rfl) (fun _=>by kernel_rfl) (fun _=>rfl) (fun _ _=>by kernel_rfl) (fun _=>by kernel_rfl)
def sb:Entry:=⟨[aW (.int .i64)],[bm aS],eR⟩
theorem uQ:Sound Tryz.prog 54 0 sb:=cI bk (fn:=Tryz.f54) (fns:=[]) trivial (by kernel_rfl) (by kernel_rfl) fun _=>by kernel_rfl
def Tx:Entry:=⟨[aW (.int .i64)],[bm .bool],RT⟩
theorem adS:Sound Tryz.prog 138 0 Tx:=cI bk (fn:=Tryz.f138) (fns:=[(93,ki)]) ⟨kJ,trivial⟩ (by kernel_rfl) (by kernel_rfl) fun _=>by kernel_rfl
def Ty:Entry:=⟨[aW (.sl (.int .i64)),.fn 0 0],[bm (.int .i64)],Kk⟩
def adT:List (Nat×bV):=[(2,⟨[(0,.cell (.bW (.int .i64) [])),(1,.same),(7,aM),(8,aM)],[],[.drop,.drop]⟩)]
def adU(k:Nat→aq→Option (Int×Unit)):DX:=fun U aa ad=>k 2 (bg [(0,gT (.int .i64) U),(1,.fn 138 [] []),(7,aY aa),(8,aY ad)] [] [.aD,.aD])
theorem adV:Sound Tryz.prog 159 138 Ty:=u' bk 138 (fn:=Tryz.f159) (fns:=[(138,Tx)]) ⟨adS,trivial⟩ (by kernel_rfl) (by kernel_rfl) adT adU DZ ux (fun k x=>DY k x.1) (by kernel_rfl) (fun _=>by kernel_rfl) (fun _=>rfl) (fun _ _=>by kernel_rfl) (fun _=>by kernel_rfl)
def Tz:Entry:=⟨[aW (.sl (.int .i64)),.fn 0 0],[bm .bool],Km⟩
theorem adW:Sound Tryz.prog 137 138 Tz:=Q5 bk 138 (fn:=Tryz.f137) (fns:=[(138000159,Ty)]) ⟨adV,trivial⟩ (by kernel_rfl) (by kernel_rfl) fun _=>by kernel_rfl
def zA:Entry:=⟨[aW aH],[bm .bool],wL⟩
theorem Ff:Sound Tryz.prog 101 0 zA:=cI bk (fn:=Tryz.f101) (fns:=[(93,ki),(138000137,Tz)]) ⟨kJ,adW,trivial⟩ (by kernel_rfl) (by kernel_rfl) fun _=>by kernel_rfl
def TA:Entry:=⟨[aW aK],[bm .bool],Kp⟩
def adX:List (Nat×bV):=[(3,⟨[(1,.ptr 1),(3,aM),(4,aM)],az 1 aK .R [],[.drop]⟩),(5,⟨[(1,.ptr 1)],az 1 aK .R [],[.drop]⟩)]
def adY(k:Nat→aq→Option (Bool×Unit)):uy:=⟨fun U aa ad=>k 3 (bg [(1,ax 1),(3,ig U),(4,ig aa)] (aC 1 aK .R [] ad) [.aD]),fun U=>k 5 (bg [(1,ax 1)] (aC 1 aK .R [] U) [.aD])⟩
theorem adZ:Sound Tryz.prog 102 0 TA:=ct bk (fn:=Tryz.f102) (fns:=[(93,ki)]) ⟨kJ,trivial⟩ (by kernel_rfl) (by kernel_rfl) adX adY Ko D1 (fun k x=>D0 k x.1) (by kernel_rfl) (fun _=>by kernel_rfl) (fun _=>rfl) (fun _ _=>by kernel_rfl) (fun _=>by kernel_rfl)
def TB:Entry:=⟨[aW af],[ro af],r1⟩
def ad0:List (Nat×bV):=[(3,⟨[(2,.ptr 1),(3,.ptr 3),(10,.cell (.bW I [])),(11,aM),(12,aM)],az 1 af af.own []++az 3 af af.own [],[.drop]⟩)]
def ad1(k:Nat→aq→Option (af.D×Unit)):wM:=fun U aa ad ai an=>k 3 (bg [(2,ax 1),(3,ax 3),(10,gT I U),(11,aY aa),(12,aY ad)] (aC 1 af af.own [] ai++aC 3 af af.own [] an) [.aD])
theorem ad2:Sound Tryz.prog 103 0 TB:=ct bk (fn:=Tryz.f103) (fns:=[]) trivial (by kernel_rfl) (by kernel_rfl) ad0 ad1 D3 uz (fun k x=>D2 k x.1) (by kernel_rfl) (fun _=>by kernel_rfl) (fun _=>rfl) (fun _ _=>by kernel_rfl) (fun _=>by kernel_rfl)
def TC:Entry:=⟨[aW .str],[bm .bool],Kr⟩
theorem ad3:Sound Tryz.prog 179 0 TC:=cI bk (fn:=Tryz.f179) (fns:=[(133,E_)]) ⟨L0,trivial⟩ (by kernel_rfl) (by kernel_rfl) fun _=>by kernel_rfl
def TD:Entry:=⟨[fR af,aW (.int .i64)],[bm (.int .i64)],D5⟩
def ad4:List (Nat×bV):=[(2,⟨[(1,aM),(12,.cell (.bW I [])),(13,aM),(14,aM)],[],[.drop,.drop]⟩),(5,⟨[(1,aM),(6,.ptr 1),(12,.cell (.bW I [])),(13,aM),(14,aM),(19,.cell (.bW aw [])),(20,aM),(21,aM)],az 1 I .R [],[.drop,.drop]⟩)]
def ad5(k:Nat→aq→Option (Int×Unit)):uA:=⟨fun U aa ad ai=>k 2 (bg [(1,aY U),(12,gT I aa),(13,aY ad),(14,aY ai)] [] [.aD,.aD]),fun U aa ad ai an aB a_ bP=>k 5 (bg [(1,aY U),(6,ax 1),(12,gT I aa),(13,aY ad),(14,aY ai),(19,gT aw an),(20,aY aB),(21,aY a_)] (aC 1 I .R [] bP) [.aD,.aD])⟩
theorem ad6:Sound Tryz.prog 61 0 TD:=ct bk (fn:=Tryz.f61) (fns:=[]) trivial (by kernel_rfl) (by kernel_rfl) ad4 ad5 RY kh (fun k x=>D4 k x.1 x.2.1) (by kernel_rfl) (fun _=>by kernel_rfl) (fun _=>rfl) (fun _ _=>by kernel_rfl) (fun _=>by kernel_rfl)
def Fg:Entry:=⟨[aW aH,aW (.int .i64)],[bm .bool],uD⟩
theorem L7:Sound Tryz.prog 173 0 Fg:=cI bk (fn:=Tryz.f173) (fns:=[(96,zz),(101,zA)]) ⟨Fa,Ff,trivial⟩ (by kernel_rfl) (by kernel_rfl) fun _=>by kernel_rfl
def w1:Entry:=⟨[aW aH,aW I,aW (.int .i64)],[bm .bool],pf⟩
theorem zB:Sound Tryz.prog 171 0 w1:=cI bk (fn:=Tryz.f171) (fns:=[(93,ki),(101,zA),(173,Fg)]) ⟨kJ,Ff,L7,trivial⟩ (by kernel_rfl) (by kernel_rfl) fun _=>by kernel_rfl
def L8:Entry:=⟨[fR I,aW .str],[bm (.int .i64)],D9⟩
def ad7:List (Nat×bV):=[(2,⟨[(1,aM),(10,.cell (.bW aw [])),(11,aM),(12,aM)],[],[.drop,.drop]⟩)]
def ad8(k:Nat→aq→Option (Int×Unit)):D6:=fun U aa ad ai=>k 2 (bg [(1,eh U),(10,gT aw aa),(11,aY ad),(12,aY ai)] [] [.aD,.aD])
theorem TE:Sound Tryz.prog 181 0 L8:=ct bk (fn:=Tryz.f181) (fns:=[]) trivial (by kernel_rfl) (by kernel_rfl) ad7 ad8 D8 r2 (fun k x=>D7 k x.1 x.2.1) (by kernel_rfl) (fun _=>by kernel_rfl) (fun _=>rfl) (fun _ _=>by kernel_rfl) (fun _=>by kernel_rfl)
def TF:Entry:=⟨[aW .str,aW (.int .i64)],[ro (.sl .str)],RZ⟩
theorem ad9:hD Tryz.prog 208 0 TF:=Q8 fun _=>rfl
def TG:Entry:=⟨[aW .str,aW (.int .u8)],[bm (.int .i64)],R0⟩
theorem ad_:hD Tryz.prog 220 0 TG:=aaT Tryz.func220 (by kernel_rfl) (by kernel_rfl) (by kernel_rfl) (by kernel_rfl)
def TH:Entry:=⟨[aW .str,aW (.int .u8)],[bm (.int .i64)],R1⟩
theorem ad':Sound Tryz.prog 216 0 TH:=cI bk (fn:=Tryz.f216) (fns:=[(220,TG)]) ⟨ad_,trivial⟩ (by kernel_rfl) (by kernel_rfl) fun _=>by kernel_rfl
def TI:Entry:=⟨[aW .str,aW .str],[bm (.int .i64)],R2⟩
theorem aea:Sound Tryz.prog 214 0 TI:=cI bk (fn:=Tryz.f214) (fns:=[(216,TH)]) ⟨ad',trivial⟩ (by kernel_rfl) (by kernel_rfl) fun _=>by kernel_rfl
def L9:Entry:=⟨[aW .str,aW .str],[bm (.int .i64)],D_⟩
theorem TJ:Sound Tryz.prog 210 0 L9:=cI bk (fn:=Tryz.f210) (fns:=[(214,TI)]) ⟨aea,trivial⟩ (by kernel_rfl) (by kernel_rfl) fun _=>by kernel_rfl
def TK:Entry:=⟨[aW .str],[bm (.int .i64)],R3⟩
theorem aeb:hD Tryz.prog 211 0 TK:=Q8 fun _=>rfl
def TL:Entry:=⟨[aW .str,aW (.int .u8)],[bm (.int .i64)],R4⟩
theorem aec:hD Tryz.prog 213 0 TL:=aaU Tryz.func213 (by kernel_rfl) (by kernel_rfl) (by kernel_rfl) (by kernel_rfl)
def TM:Entry:=⟨[aW .str,aW .str],[bm (.int .i64)],Kw⟩
def aed:List (Nat×bV):=[(6,⟨[(0,aM),(1,aM),(5,aM)],[],[.drop,.drop]⟩)]
def aee(k:Nat→aq→Option (Int×Unit)):D':=fun U aa ad=>k 6 (bg [(0,eh U),(1,eh aa),(5,aY ad)] [] [.aD,.aD])
theorem aef:Sound Tryz.prog 209 0 TM:=ct bk (fn:=Tryz.f209) (fns:=[(210,L9),(211,TK),(213,TL)]) ⟨TJ,aeb,aec,trivial⟩ (by kernel_rfl) (by kernel_rfl) aed aee R5 Eb (fun k x=>Ea k x.1 x.2.1) (by kernel_rfl) (fun _=>by kernel_rfl) (fun _=>rfl) (fun _ _=>by kernel_rfl) (fun _=>by kernel_rfl)
def TN:Entry:=⟨[aW .str,aW .str,aW (.int .i64),aW (.int .i64)],[ro (.sl .str)],Kz⟩
def aeg:List (Nat×bV):=[(7,⟨[(0,aM),(1,aM),(2,aM),(3,aM)],[],[.drop,.drop,.drop,.drop]⟩),(11,⟨[(0,aM),(1,aM),(2,aM),(3,aM),(9,.cell (.ag 1)),(10,aM)],[(1,.row .str .R)],[.drop,.drop,.drop,.drop]⟩),(17,⟨[(0,aM),(9,.cell (.ag 1)),(10,aM)],[(1,.row .str .R)],[.drop,.drop,.drop,.drop]⟩)]
def aeh(k:Nat→aq→Option (pg)):qz:=⟨fun U aa ad ai=>k 7 (bg [(0,eh U),(1,eh aa),(2,aY ad),(3,aY ai)] [] [.aD,.aD,.aD,.aD]),fun U aa ad ai an aB=>k 11 (bg [(0,eh U),(1,eh aa),(2,aY ad),(3,aY ai),(9,.aU (.ag 1 none)),(10,aY an)] [(1,.row .str .R 0 aB)] [.aD,.aD,.aD,.aD]),fun U aa ad=>k 17 (bg [(0,eh U),(9,.aU (.ag 1 none)),(10,aY aa)] [(1,.row .str .R 0 ad)] [.aD,.aD,.aD,.aD])⟩
theorem aei:Sound Tryz.prog 207 0 TN:=ct bk (fn:=Tryz.f207) (fns:=[(208,TF),(209,TM),(210,L9)]) ⟨ad9,aef,TJ,trivial⟩ (by kernel_rfl) (by kernel_rfl) aeg aeh R7 qA (fun k x=>Ec k x.1 x.2.1 x.2.2.1 x.2.2.2.1) (by kernel_rfl) (fun _=>by kernel_rfl) (fun _=>rfl) (fun _ _=>by kernel_rfl) (fun _=>by kernel_rfl)
def TO:Entry:=⟨[aW .str,aW .str],[ro (.sl .str)],KB⟩
theorem aej:Sound Tryz.prog 200 0 TO:=cI bk (fn:=Tryz.f200) (fns:=[(207,TN)]) ⟨aei,trivial⟩ (by kernel_rfl) (by kernel_rfl) fun _=>by kernel_rfl
def TP:Entry:=⟨[aW .str],[ro (.sl .str)],r4⟩
def aek:List (Nat×bV):=[(3,⟨[(3,.cell (.ag 1)),(8,.cell (.ag 2)),(9,aM),(10,aM)],[(1,.row .str .R),(2,.row .str .R)],[.drop]⟩)]
def ael(k:Nat→aq→Option (zg)):Ed:=fun U aa ad ai=>k 3 (bg [(3,.aU (.ag 1 none)),(8,.aU (.ag 2 none)),(9,aY U),(10,aY aa)] [(1,.row .str .R 0 ad),(2,.row .str .R 0 ai)] [.aD])
theorem aem:Sound Tryz.prog 192 0 TP:=ct bk (fn:=Tryz.f192) (fns:=[(200,TO)]) ⟨aej,trivial⟩ (by kernel_rfl) (by kernel_rfl) aek ael Ef r3 (fun k x=>Ee k x.1) (by kernel_rfl) (fun _=>by kernel_rfl) (fun _=>rfl) (fun _ _=>by kernel_rfl) (fun _=>by kernel_rfl)
def TQ:Entry:=⟨[fR af,aW aH,aW .str,aW .bool],[bm aJ],KC⟩
def aen:List (Nat×bV):=[(3,⟨[(0,.dg [] (rG af .R [] 0)),(3,aM),(5,.ptr 1),(8,.ptr 2),(9,.cell (.au 3)),(10,aM),(11,aM)],az 1 aH .R []++az 2 aJ .R []++[(3,.row .str .R)],[.drop,.drop,.drop,.drop]⟩)]
def aeo(k:Nat→aq→Option (aJ.D×Unit)):r5:=fun U aa ad ai an aB a_ bP cA=>k 3 (bg [(0,.dg (o6 []) (aU af .R [] U 0) 0),(3,ig aa),(5,ax 1),(8,ax 2),(9,.aU (.ag 3 (some (ad,ai)))),(10,aY an),(11,aY aB)] (aC 1 aH .R [] a_++aC 2 aJ .R [] bP++[(3,.row .str .R 0 cA)]) [.aD,.aD,.aD,.aD])
theorem aep:Sound Tryz.prog 180 0 TQ:=ct bk (fn:=Tryz.f180) (fns:=[(56,nj),(61,TD),(171,w1),(181,L8),(192,TP)]) ⟨oq,ad6,zB,TE,aem,trivial⟩ (by kernel_rfl) (by kernel_rfl) aen aeo lC f_ (fun k x=>Eg k x.1 x.2.1 x.2.2.1 x.2.2.2.1) (by kernel_rfl) (fun _=>by kernel_rfl) (fun _=>rfl) (fun _ _=>by kernel_rfl) (fun _=>by kernel_rfl)
def w2:Entry:=⟨[fR aI,aW .str,aW .bool],[bm aJ],kH⟩
theorem zC:Sound Tryz.prog 164 0 w2:=cI bk (fn:=Tryz.f164) (fns:=[(179,TC),(180,TQ)]) ⟨ad3,aep,trivial⟩ (by kernel_rfl) (by kernel_rfl) fun _=>by kernel_rfl
def L_:Entry:=⟨[fR aI,aW .str],[bm aJ,bm (.int .i64)],uE⟩
theorem TS:Sound Tryz.prog 160 0 L_:=cI bk (fn:=Tryz.f160) (fns:=[(164,w2)]) ⟨zC,trivial⟩ (by kernel_rfl) (by kernel_rfl) fun _=>by kernel_rfl
def zD:Entry:=⟨[fR aI,aW (.int .i64)],[bm .bool],nc⟩
theorem Fh:Sound Tryz.prog 161 0 zD:=cI bk (fn:=Tryz.f161) (fns:=[(56,nj),(171,w1)]) ⟨oq,zB,trivial⟩ (by kernel_rfl) (by kernel_rfl) fun _=>by kernel_rfl
def TT:Entry:=⟨[sE (.sl aw),aW (.int .i64),sE (.sl aw)],[ro (.sl aw)],Sb⟩
theorem aeq:hD Tryz.prog 178 0 TT:=ins_soundX
def Fi:Entry:=⟨[.«mut» aI cj cj,aW (.int .i64),aW .str,aW (.int .i64)],[],r7⟩
def aer:List (Nat×bV):=[(2,⟨[(2,aM),(3,aM),(8,.opt 1),(9,aM)],[(1,.row I uL),(2,.var [.keep,.ag 1,.keep,.keep,.bW (.int .i64) [],.keep,.keep,.keep,.keep,.keep,.keep])],[.ptr 2,.drop,.drop,.drop]⟩),(4,⟨[(2,aM),(3,aM),(8,.opt 1),(9,aM)],[(1,.row I uL),(2,.var [.keep,.ag 1,.keep,.keep,.bW (.int .i64) [],.keep,.keep,.keep,.keep,.keep,.keep])],[.ptr 2,.drop,.drop,.drop]⟩)]
def aes(k:Nat→aq→Option (aI.D×Unit)):uF:=⟨fun U aa ad ai an=>k 2 (bg [(2,eh U),(3,aY aa),(8,.opt 1 ad),(9,aY ai)] ([(1,.row I uL 0 an.1.2.1),(2,.var 0 [.int .i64 an.1.1,.ag 1 none,.int .i64 an.2.1.1,.int .i64 an.2.1.2.1,.bW (.int .i64) [] none an.2.1.2.2.1,.int .i64 an.2.2.1.1,.str an.2.2.1.2.1,.str an.2.2.1.2.2.1,.int .i64 an.2.2.1.2.2.2.1,.int .i64 an.2.2.1.2.2.2.2.1,.str an.2.2.1.2.2.2.2.2.1])]) [ax 2,.aD,.aD,.aD]),fun U aa ad ai an=>k 4 (bg [(2,eh U),(3,aY aa),(8,.opt 1 ad),(9,aY ai)] ([(1,.row I uL 0 an.1.2.1),(2,.var 0 [.int .i64 an.1.1,.ag 1 none,.int .i64 an.2.1.1,.int .i64 an.2.1.2.1,.bW (.int .i64) [] none an.2.1.2.2.1,.int .i64 an.2.2.1.1,.str an.2.2.1.2.1,.str an.2.2.1.2.2.1,.int .i64 an.2.2.1.2.2.2.1,.int .i64 an.2.2.1.2.2.2.2.1,.str an.2.2.1.2.2.2.2.2.1])]) [ax 2,.aD,.aD,.aD])⟩
theorem L':Sound Tryz.prog 162 0 Fi:=ct bk (fn:=Tryz.f162) (fns:=[(178,TT),(56,E')]) ⟨aeq,L1,trivial⟩ (by kernel_rfl) (by kernel_rfl) aer aes Sc r6 (fun k x=>Eh k x.1 x.2.1 x.2.2.1 x.2.2.2.1) (by kernel_rfl) (fun _=>by kernel_rfl) (fun _=>rfl) (fun _ _=>by kernel_rfl) (fun _=>by kernel_rfl)
def w3:Entry:=⟨[fR aI],[bm (.int .i64)],nd⟩
theorem zE:Sound Tryz.prog 163 0 w3:=cI bk (fn:=Tryz.f163) (fns:=[(98,Fe),(100000099,L6)]) ⟨L4,Tv,trivial⟩ (by kernel_rfl) (by kernel_rfl) fun _=>by kernel_rfl
def TU:Entry:=⟨[.«mut» aI cj cj],[bm (.int .i64)],zj⟩
def aet:List (Nat×bV):=[(4,⟨[(0,.ptr 1),(3,.ptr 3)],az 1 aI cj []++az 3 aK .R [],[.ptr 1]⟩),(23,⟨[(0,.ptr 1),(4,.ptr 3),(7,.ptr 4)],az 1 aI cj []++az 3 aJ .R []++az 4 I I.own [],[.ptr 1]⟩)]
def aeu(k:Nat→aq→Option (Int×aI.D×Unit)):uG:=⟨fun U aa=>k 4 (bg [(0,ax 1),(3,ax 3)] (aC 1 aI cj [] U++aC 3 aK .R [] aa) [ax 1]),fun U aa ad=>k 23 (bg [(0,ax 1),(4,ax 3),(7,ax 4)] (aC 1 aI cj [] U++aC 3 aJ .R [] aa++aC 4 I I.own [] ad) [ax 1])⟩
theorem aev:Sound Tryz.prog 139 0 TU:=ct bk (fn:=Tryz.f139) (fns:=[(56,nj),(93,ki),(133,E_),(160,L_),(161,zD),(162,Fi),(163,w3)]) ⟨oq,kJ,L0,TS,Fh,L',zE,trivial⟩ (by kernel_rfl) (by kernel_rfl) aet aeu Sd kI (fun k x=>Ei k x.1) (by kernel_rfl) (fun _=>by kernel_rfl) (fun _=>rfl) (fun _ _=>by kernel_rfl) (fun _=>by kernel_rfl)
def Fj:Entry:=⟨[aW aH,aW I,aW I],[bm .bool],r8⟩
theorem Ma:Sound Tryz.prog 165 0 Fj:=cI bk (fn:=Tryz.f165) (fns:=[(101,zA)]) ⟨Ff,trivial⟩ (by kernel_rfl) (by kernel_rfl) fun _=>by kernel_rfl
def Mb:Entry:=⟨[aW aw,fR .str],[bm .bool],Ej⟩
theorem TV:Sound Tryz.prog 183 0 Mb:=cI bk (fn:=Tryz.f183) (fns:=[]) trivial (by kernel_rfl) (by kernel_rfl) fun _=>by kernel_rfl
def TW:Entry:=⟨[aW (.sl aw),.fn 0 1,fR .str],[bm (.int .i64)],KJ⟩
def aew:List (Nat×bV):=[(2,⟨[(0,.cell (.bW aw [])),(1,.u_ [] [[.keep]]),(7,aM),(8,aM)],[],[.drop,.drop,.drop]⟩)]
def aex(k:Nat→aq→Option (Int×Unit)):Ek:=fun U aa ad ai=>k 2 (bg [(0,gT aw U),(1,.fn 183 [] [.dg [] [.str aa] 0]),(7,aY ad),(8,aY ai)] [] [.aD,.aD,.aD])
theorem aey:Sound Tryz.prog 193 183 TW:=u' bk 183 (fn:=Tryz.f193) (fns:=[(183,Mb)]) ⟨TV,trivial⟩ (by kernel_rfl) (by kernel_rfl) aew aex El wN (fun k x=>Se k x.1 x.2.1) (by kernel_rfl) (fun _=>by kernel_rfl) (fun _=>rfl) (fun _ _=>by kernel_rfl) (fun _=>by kernel_rfl)
def TX:Entry:=⟨[sE (.sl aw),.fn 0 1,fR .str],[ro (.sl aw)],Ep⟩
def aez:List (Nat×bV):=[(5,⟨[(0,.cell (.ag 1)),(1,.u_ [] [[.keep]]),(5,aM),(6,aM)],[(1,.row aw .R)],[.drop,.drop,.drop]⟩)]
def aeA(k:Nat→aq→Option (wO)):Em:=fun U aa ad ai=>k 5 (bg [(0,.aU (.ag 1 none)),(1,.fn 183 [] [.dg [] [.str U] 0]),(5,aY aa),(6,aY ad)] [(1,.row aw .R 0 ai)] [.aD,.aD,.aD])
theorem aeB:Sound Tryz.prog 182 183 TX:=u' bk 183 (fn:=Tryz.f182) (fns:=[(183,Mb),(183000193,TW)]) ⟨TV,aey,trivial⟩ (by kernel_rfl) (by kernel_rfl) aez aeA Eo wP (fun k x=>En k x.1 x.2.1) (by kernel_rfl) (fun _=>by kernel_rfl) (fun _=>rfl) (fun _ _=>by kernel_rfl) (fun _=>by kernel_rfl)
def TY:Entry:=⟨[sE (.sl I),.fn 0 1,fR (.int .i64)],[ro (.sl I)],Sg⟩
theorem aeC:hD Tryz.prog 184 185 TY:=aaV (T:=I) (T':=oD.eA) (p:=fun y i => !(y.1==i)) (p':=fun y i => !oD.gD y i) rfl (fun x y i h=>by rw [show x.1=y.1 from h.1];rfl) (fq:=oD.GF) oD.Xu.x (fun ys i h=>oD.del_eq ys i h)
def Mc:Entry:=⟨[.«mut» aI cj cj,aW (.int .i64),aW .str,aW .bool],[],oi⟩
theorem TZ:Sound Tryz.prog 166 0 Mc:=cI bk (fn:=Tryz.f166) (fns:=[(97,Fc),(181,L8),(183000182,TX),(185000184,TY),(56,E')]) ⟨L3,TE,aeB,aeC,L1,trivial⟩ (by kernel_rfl) (by kernel_rfl) fun _=>by kernel_rfl
def T0:Entry:=⟨[.«mut» aI cj cj],[bm (.int .i64)],Es⟩
def aeD:List (Nat×bV):=[(5,⟨[(0,.ptr 1),(3,.ptr 3),(4,.ptr 4)],az 1 aI cj []++az 3 aJ .R []++az 4 I .R [2,1],[.ptr 1]⟩),(7,⟨[(0,.ptr 1),(3,.ptr 3),(4,.ptr 4)],az 1 aI cj []++az 3 aJ .R []++az 4 I .R [2,1],[.ptr 1]⟩),(9,⟨[(0,.ptr 1),(3,.ptr 3),(4,.ptr 4)],az 1 aI cj []++az 3 aJ .R []++az 4 I .R [2,1],[.ptr 1]⟩),(11,⟨[(0,.ptr 1),(3,.ptr 3),(4,.ptr 4)],az 1 aI cj []++az 3 aJ .R []++az 4 I .R [2,1],[.ptr 1]⟩)]
def aeE(k:Nat→aq→Option (Int×aI.D×Unit)):qC:=⟨fun U aa ad=>k 5 (bg [(0,ax 1),(3,ax 3),(4,ax 4)] (aC 1 aI cj [] U++aC 3 aJ .R [] aa++aC 4 I .R [2,1] ad) [ax 1]),fun U aa ad=>k 7 (bg [(0,ax 1),(3,ax 3),(4,ax 4)] (aC 1 aI cj [] U++aC 3 aJ .R [] aa++aC 4 I .R [2,1] ad) [ax 1]),fun U aa ad=>k 9 (bg [(0,ax 1),(3,ax 3),(4,ax 4)] (aC 1 aI cj [] U++aC 3 aJ .R [] aa++aC 4 I .R [2,1] ad) [ax 1]),fun U aa ad=>k 11 (bg [(0,ax 1),(3,ax 3),(4,ax 4)] (aC 1 aI cj [] U++aC 3 aJ .R [] aa++aC 4 I .R [2,1] ad) [ax 1])⟩
theorem aeF:Sound Tryz.prog 140 0 T0:=ct bk (fn:=Tryz.f140) (fns:=[(56,nj),(161,zD),(164,w2),(165,Fj),(166,Mc)]) ⟨oq,Fh,zC,Ma,TZ,trivial⟩ (by kernel_rfl) (by kernel_rfl) aeD aeE Sh oj (fun k x=>Er k x.1) (by kernel_rfl) (fun _=>by kernel_rfl) (fun _=>rfl) (fun _ _=>by kernel_rfl) (fun _=>by kernel_rfl)
def Md:Entry:=⟨[fR af,aW (.int .i64)],[bm .bool],uH⟩
theorem T1:Sound Tryz.prog 59 0 Md:=cI bk (fn:=Tryz.f59) (fns:=[(56,nj)]) ⟨oq,trivial⟩ (by kernel_rfl) (by kernel_rfl) fun _=>by kernel_rfl
def T2:Entry:=⟨[.«mut» aI cj cj],[bm (.int .i64)],Et⟩
theorem aeG:Sound Tryz.prog 141 0 T2:=cI bk (fn:=Tryz.f141) (fns:=[(56,nj),(59,Md),(160,L_),(161,zD),(162,Fi),(163,w3),(164,w2)]) ⟨oq,T1,TS,Fh,L',zE,zC,trivial⟩ (by kernel_rfl) (by kernel_rfl) fun _=>by kernel_rfl
def T3:Entry:=⟨[fR aI,aW I,aW aJ],[bm (.int .i64)],Eu⟩
theorem aeH:Sound Tryz.prog 167 0 T3:=cI bk (fn:=Tryz.f167) (fns:=[(56,nj),(165,Fj)]) ⟨oq,Ma,trivial⟩ (by kernel_rfl) (by kernel_rfl) fun _=>by kernel_rfl
def T4:Entry:=⟨[.«mut» aI cj cj],[bm (.int .i64)],Ew⟩
def aeI:List (Nat×bV):=[(7,⟨[(0,.ptr 1),(3,.ptr 3),(4,.ptr 4)],az 1 aI cj []++az 3 aJ .R []++az 4 aJ .R [],[.ptr 1]⟩),(10,⟨[(0,.ptr 1),(3,.ptr 3),(4,.ptr 4),(5,.ptr 5)],az 1 aI cj []++az 3 aJ .R []++az 4 aJ .R []++az 5 I .R [2,1],[.ptr 1]⟩),(16,⟨[(0,.ptr 1),(3,.ptr 3),(4,.ptr 4),(5,.ptr 5)],az 1 aI cj []++az 3 aJ .R []++az 4 aJ .R []++az 5 I .R [2,1],[.ptr 1]⟩),(25,⟨[(0,.ptr 1),(3,.ptr 3),(4,.ptr 4)],az 1 aI cj []++az 3 aJ .R []++az 4 aJ .R [],[.ptr 1]⟩)]
def aeJ(k:Nat→aq→Option (Int×aI.D×Unit)):qD:=⟨fun U aa ad=>k 7 (bg [(0,ax 1),(3,ax 3),(4,ax 4)] (aC 1 aI cj [] U++aC 3 aJ .R [] aa++aC 4 aJ .R [] ad) [ax 1]),fun U aa ad ai=>k 10 (bg [(0,ax 1),(3,ax 3),(4,ax 4),(5,ax 5)] (aC 1 aI cj [] U++aC 3 aJ .R [] aa++aC 4 aJ .R [] ad++aC 5 I .R [2,1] ai) [ax 1]),fun U aa ad ai=>k 16 (bg [(0,ax 1),(3,ax 3),(4,ax 4),(5,ax 5)] (aC 1 aI cj [] U++aC 3 aJ .R [] aa++aC 4 aJ .R [] ad++aC 5 I .R [2,1] ai) [ax 1]),fun U aa ad=>k 25 (bg [(0,ax 1),(3,ax 3),(4,ax 4)] (aC 1 aI cj [] U++aC 3 aJ .R [] aa++aC 4 aJ .R [] ad) [ax 1])⟩
theorem aeK:Sound Tryz.prog 142 0 T4:=ct bk (fn:=Tryz.f142) (fns:=[(56,nj),(95,Fb),(96,zz),(161,zD),(162,Fi),(163,w3),(164,w2),(165,Fj),(166,Mc),(167,T3)]) ⟨oq,L2,Fa,Fh,L',zE,zC,Ma,TZ,aeH,trivial⟩ (by kernel_rfl) (by kernel_rfl) aeI aeJ Si iO (fun k x=>Ev k x.1) (by kernel_rfl) (fun _=>by kernel_rfl) (fun _=>rfl) (fun _ _=>by kernel_rfl) (fun _=>by kernel_rfl)
def qK:Entry:=⟨[.«mut» aI cj cj,aW .bool],[.opt 0 1 I,bm (.int .i64)],mi⟩
theorem sc:Sound Tryz.prog 170 0 qK:=cI bk (fn:=Tryz.f170) (fns:=[(164,w2),(56,E')]) ⟨zC,L1,trivial⟩ (by kernel_rfl) (by kernel_rfl) fun _=>by kernel_rfl
def Me:Entry:=⟨[.«mut» aI cj cj,aW (.int .i64)],[.opt 0 1 I,bm (.int .i64)],zl⟩
theorem T5:Sound Tryz.prog 168 0 Me:=cI bk (fn:=Tryz.f168) (fns:=[(170,qK),(171,w1)]) ⟨sc,zB,trivial⟩ (by kernel_rfl) (by kernel_rfl) fun _=>by kernel_rfl
def T6:Entry:=⟨[.«mut» aI cj cj],[bm aS],Ex⟩
theorem aeL:Sound Tryz.prog 143 0 T6:=cI bk (fn:=Tryz.f143) (fns:=[(54,sb),(168,Me)]) ⟨uQ,T5,trivial⟩ (by kernel_rfl) (by kernel_rfl) fun _=>by kernel_rfl
def T7:Entry:=⟨[aW .str,aW (.int .i64)],[bm .str],strings_Repeat⟩
theorem aeM:hD Tryz.prog 186 0 T7:=rep_soundX
def T8:Entry:=⟨[aW .str,aW (.int .i64)],[bm .str],Ey⟩
theorem aeN:Sound Tryz.prog 169 0 T8:=cI bk (fn:=Tryz.f169) (fns:=[(186,T7)]) ⟨aeM,trivial⟩ (by kernel_rfl) (by kernel_rfl) fun _=>by kernel_rfl
def T9:Entry:=⟨[.«mut» aI cj cj],[bm (.int .i64)],EA⟩
def aeO:List (Nat×bV):=[(7,⟨[(0,.ptr 1),(3,.opt 2),(5,aM)],az 1 aI cj [],[.ptr 1]⟩),(11,⟨[(0,.ptr 1),(3,.opt 2),(5,aM)],az 1 aI cj [],[.ptr 1]⟩),(18,⟨[(0,.ptr 1),(3,.opt 2),(6,aM)],az 1 aI cj [],[.ptr 1]⟩)]
def aeP(k:Nat→aq→Option (Int×aI.D×Unit)):r9:=⟨fun U aa ad=>k 7 (bg [(0,ax 1),(3,.opt 2 U),(5,aY aa)] (aC 1 aI cj [] ad) [ax 1]),fun U aa ad=>k 11 (bg [(0,ax 1),(3,.opt 2 U),(5,aY aa)] (aC 1 aI cj [] ad) [ax 1]),fun U aa ad=>k 18 (bg [(0,ax 1),(3,.opt 2 U),(6,eh aa)] (aC 1 aI cj [] ad) [ax 1])⟩
theorem aeQ:Sound Tryz.prog 144 0 T9:=ct bk (fn:=Tryz.f144) (fns:=[(163,w3),(168,Me),(169,T8)]) ⟨zE,T5,aeN,trivial⟩ (by kernel_rfl) (by kernel_rfl) aeO aeP Sm gj (fun k x=>Ez k x.1) (by kernel_rfl) (fun _=>by kernel_rfl) (fun _=>rfl) (fun _ _=>by kernel_rfl) (fun _=>by kernel_rfl)
def T_:Entry:=⟨[.«mut» aI cj cj],[bm aS],EB⟩
theorem aeR:Sound Tryz.prog 145 0 T_:=cI bk (fn:=Tryz.f145) (fns:=[(54,sb),(170,qK)]) ⟨uQ,sc,trivial⟩ (by kernel_rfl) (by kernel_rfl) fun _=>by kernel_rfl
def Mf:Entry:=⟨[aW (.sl .str),aW .str],[bm .str],strings_Join⟩
theorem Ua:hD Tryz.prog 172 0 Mf:=join_soundX
def Ub:Entry:=⟨[aW (.int .i64)],[bm .str],zm⟩
def aeS:List (Nat×bV):=[(4,⟨[(0,aM),(3,aM),(4,aM)],[],[.drop]⟩),(7,⟨[(0,aM),(3,aM),(4,aM),(5,aM)],[],[.drop]⟩)]
def aeT(k:Nat→aq→Option ((List UInt8)×Unit)):uI:=⟨fun U aa ad=>k 4 (bg [(0,aY U),(3,eh aa),(4,aY ad)] [] [.aD]),fun U aa ad ai=>k 7 (bg [(0,aY U),(3,eh aa),(4,aY ad),(5,aY ai)] [] [.aD])⟩
theorem aeU:Sound Tryz.prog 174 0 Ub:=ct bk (fn:=Tryz.f174) (fns:=[(93,ki)]) ⟨kJ,trivial⟩ (by kernel_rfl) (by kernel_rfl) aeS aeT Sp mj (fun k x=>So k x.1) (by kernel_rfl) (fun _=>by kernel_rfl) (fun _=>rfl) (fun _ _=>by kernel_rfl) (fun _=>by kernel_rfl)
def Fk:Entry:=⟨[aW (.sl (.int .i64))],[bm .str],qE⟩
def aeV:List (Nat×bV):=[(3,⟨[(3,.cell (.ag 1)),(7,.cell (.bW (.int .i64) [])),(8,aM),(9,aM)],[(1,.row .str .R)],[.drop]⟩)]
def aeW(k:Nat→aq→Option ((List UInt8)×Unit)):EC:=fun U aa ad ai=>k 3 (bg [(3,.aU (.ag 1 none)),(7,gT (.int .i64) U),(8,aY aa),(9,aY ad)] [(1,.row .str .R 0 ai)] [.aD])
theorem Mg:Sound Tryz.prog 151 0 Fk:=ct bk (fn:=Tryz.f151) (fns:=[(172,Mf),(174,Ub)]) ⟨Ua,aeU,trivial⟩ (by kernel_rfl) (by kernel_rfl) aeV aeW ED uJ (fun k x=>Sq k x.1) (by kernel_rfl) (fun _=>by kernel_rfl) (fun _=>rfl) (fun _ _=>by kernel_rfl) (fun _=>by kernel_rfl)
def Uc:Entry:=⟨[.«mut» aI cj cj],[bm aS],zo⟩
def aeX:List (Nat×bV):=[(13,⟨[(2,.ptr 1),(7,.cell (.ag 2)),(73,.cell (.bW aw [3])),(74,aM),(75,aM)],az 1 aS .R []++[(2,.row .str .R),(3,.row I uL),(4,.var [.keep,.ag 3,.keep,.keep,.bW (.int .i64) [],.keep,.keep,.keep,.keep,.keep,.keep])],[.ptr 4]⟩)]
def aeY(k:Nat→aq→Option (zn)):EE:=fun U aa ad ai an aB=>k 13 (bg [(2,ax 1),(7,.aU (.ag 2 none)),(73,.aU (.bW aw (o6 [3]) none U)),(74,aY aa),(75,aY ad)] (aC 1 aS .R [] ai++[(2,.row .str .R 0 an),(3,.row I uL 0 aB.1.2.1),(4,.var 0 [.int .i64 aB.1.1,.ag 3 none,.int .i64 aB.2.1.1,.int .i64 aB.2.1.2.1,.bW (.int .i64) [] none aB.2.1.2.2.1,.int .i64 aB.2.2.1.1,.str aB.2.2.1.2.1,.str aB.2.2.1.2.2.1,.int .i64 aB.2.2.1.2.2.2.1,.int .i64 aB.2.2.1.2.2.2.2.1,.str aB.2.2.1.2.2.2.2.2.1])]) [ax 4])
theorem aeZ:Sound Tryz.prog 146 0 Uc:=ct bk (fn:=Tryz.f146) (fns:=[(54,sb),(60,L5),(151,Fk),(170,qK),(171,w1),(172,Mf)]) ⟨uQ,Ts,Mg,sc,zB,Ua,trivial⟩ (by kernel_rfl) (by kernel_rfl) aeX aeY EG qF (fun k x=>EF k x.1) (by kernel_rfl) (fun _=>by kernel_rfl) (fun _=>rfl) (fun _ _=>by kernel_rfl) (fun _=>by kernel_rfl)
def Ud:Entry:=⟨[fR af,aW I],[bm (.int .i64)],EK⟩
def ae0:List (Nat×bV):=[(5,⟨[(0,.dg [] (rG af .R [] 0)),(5,aM),(16,.cell (.bW aw [])),(17,aM),(18,aM)],[],[.drop,.drop]⟩)]
def ae1(k:Nat→aq→Option (Int×Unit)):EH:=fun U aa ad ai an=>k 5 (bg [(0,.dg (o6 []) (aU af .R [] U 0) 0),(5,aY aa),(16,gT aw ad),(17,aY ai),(18,aY an)] [] [.aD,.aD])
theorem ae2:Sound Tryz.prog 57 0 Ud:=ct bk (fn:=Tryz.f57) (fns:=[(59,Md),(97,Fc)]) ⟨T1,L3,trivial⟩ (by kernel_rfl) (by kernel_rfl) ae0 ae1 EJ r_ (fun k x=>EI k x.1 x.2.1) (by kernel_rfl) (fun _=>by kernel_rfl) (fun _=>rfl) (fun _ _=>by kernel_rfl) (fun _=>by kernel_rfl)
def Ue:Entry:=⟨[.«mut» aI cj cj],[bm aS],EL⟩
theorem ae3:Sound Tryz.prog 147 0 Ue:=cI bk (fn:=Tryz.f147) (fns:=[(54,sb),(57,Ud),(93,ki),(151,Fk),(170,qK)]) ⟨uQ,ae2,kJ,Mg,sc,trivial⟩ (by kernel_rfl) (by kernel_rfl) fun _=>by kernel_rfl
def Uf:Entry:=⟨[.«mut» aI cj cj],[bm (.int .i64)],EO⟩
def ae4:List (Nat×bV):=[(8,⟨[(0,.ptr 1),(3,.opt 2)],az 1 aI cj [],[.ptr 1]⟩)]
def ae5(k:Nat→aq→Option (Int×aI.D×Unit)):EM:=fun U aa=>k 8 (bg [(0,ax 1),(3,.opt 2 U)] (aC 1 aI cj [] aa) [ax 1])
theorem ae6:Sound Tryz.prog 148 0 Uf:=ct bk (fn:=Tryz.f148) (fns:=[(93,ki),(170,qK),(173,Fg)]) ⟨kJ,sc,L7,trivial⟩ (by kernel_rfl) (by kernel_rfl) ae4 ae5 K8 qG (fun k x=>EN k x.1) (by kernel_rfl) (fun _=>by kernel_rfl) (fun _=>rfl) (fun _ _=>by kernel_rfl) (fun _=>by kernel_rfl)
def Ug:Entry:=⟨[.«mut» aI cj cj],[bm (.int .i64)],ES⟩
def ae7:List (Nat×bV):=[(8,⟨[(0,.ptr 1),(3,.opt 2)],az 1 aI cj [],[.ptr 1]⟩)]
def ae8(k:Nat→aq→Option (Int×aI.D×Unit)):EP:=fun U aa=>k 8 (bg [(0,ax 1),(3,.opt 2 U)] (aC 1 aI cj [] aa) [ax 1])
theorem ae9:Sound Tryz.prog 149 0 Ug:=ct bk (fn:=Tryz.f149) (fns:=[(93,ki),(170,qK),(173,Fg)]) ⟨kJ,sc,L7,trivial⟩ (by kernel_rfl) (by kernel_rfl) ae7 ae8 K_ qH (fun k x=>ER k x.1) (by kernel_rfl) (fun _=>by kernel_rfl) (fun _=>rfl) (fun _ _=>by kernel_rfl) (fun _=>by kernel_rfl)
def Uh:Entry:=⟨[.«mut» aI cj cj],[bm (.int .i64)],ET⟩
theorem ae_:Sound Tryz.prog 150 0 Uh:=cI bk (fn:=Tryz.f150) (fns:=[(93,ki),(170,qK),(171,w1)]) ⟨kJ,sc,zB,trivial⟩ (by kernel_rfl) (by kernel_rfl) fun _=>by kernel_rfl
def Ui:Entry:=⟨[.«mut» aI cj cj],[bm (.int .i64)],EV⟩
theorem ae':Sound Tryz.prog 152 0 Ui:=cI bk (fn:=Tryz.f152) (fns:=[(93,ki),(163,w3),(170,qK)]) ⟨kJ,zE,sc,trivial⟩ (by kernel_rfl) (by kernel_rfl) fun _=>by kernel_rfl
def Uj:Entry:=⟨[.«mut» aI cj cj],[bm aS],EX⟩
def afa:List (Nat×bV):=[(5,⟨[(0,.ptr 1),(2,.ptr 3)],az 1 aI cj []++az 3 aS .R [],[.ptr 1]⟩),(6,⟨[(0,.ptr 1),(2,.ptr 3),(7,aM)],az 1 aI cj []++az 3 aS .R [],[.ptr 1]⟩),(8,⟨[(0,.ptr 1),(2,.ptr 3)],az 1 aI cj []++az 3 aS .R [],[.ptr 1]⟩),(9,⟨[(0,.ptr 1),(2,.ptr 3),(7,aM)],az 1 aI cj []++az 3 aS .R [],[.ptr 1]⟩),(18,⟨[(0,.ptr 1),(2,.ptr 3)],az 1 aI cj []++az 3 aS .R [],[.ptr 1]⟩),(19,⟨[(0,.ptr 1),(2,.ptr 3),(7,aM)],az 1 aI cj []++az 3 aS .R [],[.ptr 1]⟩),(24,⟨[(0,.ptr 1),(2,.ptr 3),(7,aM)],az 1 aI cj []++az 3 aS .R [],[.ptr 1]⟩)]
def afb(k:Nat→aq→Option (jV)):nf:=⟨fun U aa=>k 5 (bg [(0,ax 1),(2,ax 3)] (aC 1 aI cj [] U++aC 3 aS .R [] aa) [ax 1]),fun U aa ad=>k 6 (bg [(0,ax 1),(2,ax 3),(7,aY U)] (aC 1 aI cj [] aa++aC 3 aS .R [] ad) [ax 1]),fun U aa=>k 8 (bg [(0,ax 1),(2,ax 3)] (aC 1 aI cj [] U++aC 3 aS .R [] aa) [ax 1]),fun U aa ad=>k 9 (bg [(0,ax 1),(2,ax 3),(7,aY U)] (aC 1 aI cj [] aa++aC 3 aS .R [] ad) [ax 1]),fun U aa=>k 18 (bg [(0,ax 1),(2,ax 3)] (aC 1 aI cj [] U++aC 3 aS .R [] aa) [ax 1]),fun U aa ad=>k 19 (bg [(0,ax 1),(2,ax 3),(7,aY U)] (aC 1 aI cj [] aa++aC 3 aS .R [] ad) [ax 1]),fun U aa ad=>k 24 (bg [(0,ax 1),(2,ax 3),(7,aY U)] (aC 1 aI cj [] aa++aC 3 aS .R [] ad) [ax 1])⟩
theorem afc:Sound Tryz.prog 104 0 Uj:=ct bk (fn:=Tryz.f104) (fns:=[(54,sb),(98,Fe),(139,TU),(140,T0),(141,T2),(142,T4),(143,T6),(144,T9),(145,T_),(146,Uc),(147,Ue),(148,Uf),(149,Ug),(150,Uh),(151,Fk),(152,Ui)]) ⟨uQ,L4,aev,aeF,aeG,aeK,aeL,aeQ,aeR,aeZ,ae3,ae6,ae9,ae_,Mg,ae',trivial⟩ (by kernel_rfl) (by kernel_rfl) afa afb Su Lc (fun k x=>EW k x.1) (by kernel_rfl) (fun _=>by kernel_rfl) (fun _=>rfl) (fun _ _=>by kernel_rfl) (fun _=>by kernel_rfl)
def Uk:Entry:=⟨[aW af,aW aH,aW aK],[ro af,bm aS],Ld⟩
theorem afd:Sound Tryz.prog 55 0 Uk:=cI bk (fn:=Tryz.f55) (fns:=[(54,sb),(101,zA),(102,TA),(103,TB),(104,Uj)]) ⟨uQ,Ff,adZ,ad2,afc,trivial⟩ (by kernel_rfl) (by kernel_rfl) fun _=>by kernel_rfl
def Ul:Entry:=⟨[aW af,aW aH,aW aK],[ro af,bm aS],wQ⟩
theorem afe:Sound Tryz.prog 15 0 Ul:=cI bk (fn:=Tryz.f15) (fns:=[(53,Tw),(54,sb),(55,Uk)]) ⟨adR,uQ,afd,trivial⟩ (by kernel_rfl) (by kernel_rfl) fun _=>by kernel_rfl
def Um:Entry:=⟨[aW af,aW af],[bm .bool],Lg⟩
def aff:List (Nat×bV):=[(4,⟨[(2,.ptr 1),(3,.ptr 2),(5,aM)],az 1 af .R []++az 2 af .R [],[.drop,.drop]⟩),(11,⟨[(2,.ptr 1),(3,.ptr 2),(5,aM),(6,.ptr 3),(7,.ptr 4),(8,aM)],az 1 af .R []++az 2 af .R []++az 3 I .R []++az 4 I .R [],[.drop,.drop]⟩)]
def afg(k:Nat→aq→Option (Bool×Unit)):uK:=⟨fun U aa ad=>k 4 (bg [(2,ax 1),(3,ax 2),(5,aY U)] (aC 1 af .R [] aa++aC 2 af .R [] ad) [.aD,.aD]),fun U aa ad ai an aB=>k 11 (bg [(2,ax 1),(3,ax 2),(5,aY U),(6,ax 3),(7,ax 4),(8,aY aa)] (aC 1 af .R [] ad++aC 2 af .R [] ai++aC 3 I .R [] an++aC 4 I .R [] aB) [.aD,.aD])⟩
theorem afh:Sound Tryz.prog 21 0 Um:=ct bk (fn:=Tryz.f21) (fns:=[]) trivial (by kernel_rfl) (by kernel_rfl) aff afg Sx ph (fun k x=>EY k x.1 x.2.1) (by kernel_rfl) (fun _=>by kernel_rfl) (fun _=>rfl) (fun _ _=>by kernel_rfl) (fun _=>by kernel_rfl)
def Un:Entry:=⟨[aW af,aW aH,aW aK],[bm af,bm aS],wR⟩
theorem afi:Sound Tryz.prog 13 0 Un:=cI bk (fn:=Tryz.f13) (fns:=[(11,E9),(20,wW),(51,r'),(52,LO)]) ⟨LY,zu,uN,S_,trivial⟩ (by kernel_rfl) (by kernel_rfl) fun _=>by kernel_rfl
def Uo:Entry:=⟨[],[ro aH],ng⟩
theorem afj:Sound Tryz.prog 14 0 Uo:=cI bk (fn:=Tryz.f14) (fns:=[]) trivial (by kernel_rfl) (by kernel_rfl) fun _=>by kernel_rfl
def Up:Entry:=⟨[aW (.sl (.int .u8))],[ro af,ro aH,bm .str,bm .bool],EZ⟩
theorem afk:Sound Tryz.prog 25 0 Up:=cI bk (fn:=Tryz.f25) (fns:=[(40,Lt),(41,LV),(42,LW),(43,LX),(62,LS),(63,uM)]) ⟨SF,Th,Ti,Tj,Td,wV,trivial⟩ (by kernel_rfl) (by kernel_rfl) fun _=>by kernel_rfl
def Uq:Entry:=⟨[aW (.sl (.int .u8)),aW (.int .i64)],[ro (.sl (.int .u8))],Ll⟩
def afl:List (Nat×bV):=[(3,⟨[(0,.cell (.bW (.int .u8) [])),(1,aM),(5,.cell (.ag 1)),(6,aM)],[(1,.row (.int .u8) .R)],[.drop,.drop]⟩)]
def afm(k:Nat→aq→Option ((List Int)×Unit)):zr:=fun U aa ad ai=>k 3 (bg [(0,gT (.int .u8) U),(1,aY aa),(5,.aU (.ag 1 none)),(6,aY ad)] [(1,.row (.int .u8) .R 0 ai)] [.aD,.aD])
theorem afn:Sound Tryz.prog 26 0 Uq:=ct bk (fn:=Tryz.f26) (fns:=[]) trivial (by kernel_rfl) (by kernel_rfl) afl afm wS wT (fun k x=>SA k x.1 x.2.1) (by kernel_rfl) (fun _=>by kernel_rfl) (fun _=>rfl) (fun _ _=>by kernel_rfl) (fun _=>by kernel_rfl)
def Ur:Entry:=⟨[aW af,aW aH,aW .str,aW .bool],[bm aJ],wU⟩
theorem afo:Sound Tryz.prog 27 0 Ur:=cI bk (fn:=Tryz.f27) (fns:=[(11,E9),(20,wW),(64,E2),(65,E3)]) ⟨LY,zu,Ly,LB,trivial⟩ (by kernel_rfl) (by kernel_rfl) fun _=>by kernel_rfl
def w4:Entry:=⟨[aW (.sl (.int .u8))],[bm .bool],SD⟩
def afp:List (Nat×bV):=[(9,⟨[(3,.ptr 1),(8,aM),(12,aM),(14,.ptr 3)],az 1 af af.own []++az 3 aJ .R [],[.drop]⟩),(10,⟨[(3,.ptr 1),(8,aM),(12,aM),(14,.ptr 3),(15,.ptr 4)],az 1 af af.own []++az 3 aJ .R []++az 4 aJ .R [],[.drop]⟩),(11,⟨[(3,.ptr 1),(8,aM),(12,aM),(14,.ptr 3),(15,.ptr 4),(16,.ptr 5),(17,.ptr 7)],az 1 af af.own []++az 3 aJ .R []++az 4 aJ .R []++az 5 af af.own []++az 7 aS .R [],[.drop]⟩),(12,⟨[(3,.ptr 1),(14,.ptr 3),(15,.ptr 4),(16,.ptr 5),(17,.ptr 7),(19,.ptr 8)],az 1 af af.own []++az 3 aJ .R []++az 4 aJ .R []++az 5 af af.own []++az 7 aS .R []++az 8 aS .R [],[.drop]⟩),(15,⟨[(3,.ptr 1),(16,.ptr 3),(17,.ptr 5)],az 1 af af.own []++az 3 af af.own []++az 5 aS .R [],[.drop]⟩),(18,⟨[(3,.ptr 1),(14,.ptr 3),(15,.ptr 4),(16,.ptr 5),(20,aM),(21,aM)],az 1 af af.own []++az 3 aJ .R []++az 4 aJ .R []++az 5 af af.own [],[.drop]⟩),(21,⟨[(3,.ptr 1),(14,.ptr 3),(15,.ptr 4),(16,.ptr 5),(20,aM),(21,aM),(22,aM)],az 1 af af.own []++az 3 aJ .R []++az 4 aJ .R []++az 5 af af.own [],[.drop]⟩),(25,⟨[(3,.ptr 1),(14,.ptr 3),(15,.ptr 4),(16,.ptr 5),(20,aM),(21,aM),(22,aM),(23,.ptr 7)],az 1 af af.own []++az 3 aJ .R []++az 4 aJ .R []++az 5 af af.own []++az 7 aw .R [],[.drop]⟩)]
def afq(k:Nat→aq→Option (Bool×Unit)):ml:=⟨fun U aa ad ai=>k 9 (bg [(3,ax 1),(8,eh U),(12,eh aa),(14,ax 3)] (aC 1 af af.own [] ad++aC 3 aJ .R [] ai) [.aD]),fun U aa ad ai an=>k 10 (bg [(3,ax 1),(8,eh U),(12,eh aa),(14,ax 3),(15,ax 4)] (aC 1 af af.own [] ad++aC 3 aJ .R [] ai++aC 4 aJ .R [] an) [.aD]),fun U aa ad ai an aB a_=>k 11 (bg [(3,ax 1),(8,eh U),(12,eh aa),(14,ax 3),(15,ax 4),(16,ax 5),(17,ax 7)] (aC 1 af af.own [] ad++aC 3 aJ .R [] ai++aC 4 aJ .R [] an++aC 5 af af.own [] aB++aC 7 aS .R [] a_) [.aD]),fun U aa ad ai an aB=>k 12 (bg [(3,ax 1),(14,ax 3),(15,ax 4),(16,ax 5),(17,ax 7),(19,ax 8)] (aC 1 af af.own [] U++aC 3 aJ .R [] aa++aC 4 aJ .R [] ad++aC 5 af af.own [] ai++aC 7 aS .R [] an++aC 8 aS .R [] aB) [.aD]),fun U aa ad=>k 15 (bg [(3,ax 1),(16,ax 3),(17,ax 5)] (aC 1 af af.own [] U++aC 3 af af.own [] aa++aC 5 aS .R [] ad) [.aD]),fun U aa ad ai an aB=>k 18 (bg [(3,ax 1),(14,ax 3),(15,ax 4),(16,ax 5),(20,ig U),(21,aY aa)] (aC 1 af af.own [] ad++aC 3 aJ .R [] ai++aC 4 aJ .R [] an++aC 5 af af.own [] aB) [.aD]),fun U aa ad ai an aB a_=>k 21 (bg [(3,ax 1),(14,ax 3),(15,ax 4),(16,ax 5),(20,ig U),(21,aY aa),(22,aY ad)] (aC 1 af af.own [] ai++aC 3 aJ .R [] an++aC 4 aJ .R [] aB++aC 5 af af.own [] a_) [.aD]),fun U aa ad ai an aB a_ bP=>k 25 (bg [(3,ax 1),(14,ax 3),(15,ax 4),(16,ax 5),(20,ig U),(21,aY aa),(22,aY ad),(23,ax 7)] (aC 1 af af.own [] ai++aC 3 aJ .R [] an++aC 4 aJ .R [] aB++aC 5 af af.own [] a_++aC 7 aw .R [] bP) [.aD])⟩
theorem afr:Sound Tryz.prog 7 0 w4:=ct bk (fn:=Tryz.f7) (fns:=[(9,SE),(10,Tk),(11,E9),(13,Un),(14,Uo),(15,Ul),(21,Um),(25,Up),(26,Uq),(27,Ur)]) ⟨abF,ada,LY,afi,afj,afe,afh,afk,afn,afo,trivial⟩ (by kernel_rfl) (by kernel_rfl) afp afq SC gA (fun k x=>E0 k x.1) (by kernel_rfl) (fun _=>by kernel_rfl) (fun _=>rfl) (fun _ _=>by kernel_rfl) (fun _=>by kernel_rfl)
end
end Go.LM.kc
