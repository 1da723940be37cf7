/- Each function keeps its contract. Printed by a program. Conditions: each theorem's own hypotheses. -/
import Derived.Test.YtklmgcjamifmaaaGreatDoorVVa
import Derived.Test.YtklmgcjamifmaaaGreatDoorVLmd
import Derived.Test.YtklmgcjamifmaaaGreatDoorChecked
import Derived.Test.YtklmgcjamifmaaaGreatDoorVIn
set_option linter.unusedVariables false
set_option linter.unusedSimpArgs false
namespace Go.LM.kb
noncomputable section
open Go.Proofs
abbrev uD:a':=.S (.cons .R (.cons .R (.cons .R (.cons .R (.cons .R (.cons .R (.cons (.O .R) (.cons .R (.cons .R .nil)))))))))
abbrev aa3:a':=.S (.cons .R (.cons (.O uD) .nil))
abbrev ch:a':=.S (.cons aa3 (.cons .R (.cons .R .nil)))
def tab:List (Nat×ad):=[(3,.int .i64),(4,.bool),(5,.int .u8),(9,.str),(22,.sl (.int .u8)),(24,.sl I),(26,af),(27,.sl (.int .i64)),(29,aJ),(31,aG),(37,aV),(46,.sl aw),(48,I),(57,aW),(60,aw),(83,.sl .bool),(105,bm),(109,.sl .str),(120,aI)]
def lE:List Nat:=[15,16,17,76,88,118,122,177,190]
def eqs:List Nat:=[31,37,57,60]
theorem Gm:sr Tryz.prog tab=true:=by kernel_rfl
theorem Gn:su Tryz.prog lE=true:=by kernel_rfl
theorem Gp:sv Tryz.prog tab eqs=true:=by kernel_rfl
theorem mix:Tryz.prog.follows .mixedOrders=true:=by kernel_rfl
def bk:j4 Tryz.prog:=⟨tab,lE,eqs,Gm,Gn,Gp,mix⟩
set_option maxRecDepth 100000
def Sd:Entry:=⟨[aT (.sl (.int .u8))],[bg .bool],IY⟩
theorem aa4:Sound Tryz.prog 9 0 Sd:=cF bk (fn:=Tryz.f9) (fns:=[]) trivial (by kernel_rfl) (by kernel_rfl) fun _=>by kernel_rfl
def Se:Entry:=⟨[aT (.sl (.int .u8))],[.new bm .R],IZ⟩
def aa5:List (Nat×bV):=[(3,⟨[(0,.cell (.bY (.int .u8) [])),(3,aL),(4,aL)],[],[.drop]⟩)]
def aa6(k:Nat→an→Option (bm.D×Unit)):BS:=fun U aa ae=>k 3 (bl [(0,hy (.int .u8) U),(3,aY aa),(4,aY ae)] [] [.aC])
theorem aa7:Sound Tryz.prog 40 0 Se:=cz bk (fn:=Tryz.f40) (fns:=[]) trivial (by kernel_rfl) (by kernel_rfl) aa5 aa6 wb wc (fun k x=>QO k x.1) (by kernel_rfl) (fun _=>by kernel_rfl) (fun _=>rfl) (fun _ _=>by kernel_rfl) (fun _=>by kernel_rfl)
def La:Entry:=⟨[.«mut» bm .R .R],[bg (.int .i64)],p9⟩
theorem Sf:Sound Tryz.prog 105 0 La:=cF bk (fn:=Tryz.f105) (fns:=[]) trivial (by kernel_rfl) (by kernel_rfl) fun _=>by kernel_rfl
def nd:Entry:=⟨[.«mut» bm .R .R,aT (.int .i64)],[bg (.int .i64)],fY⟩
theorem og:Sound Tryz.prog 76 0 nd:=cF bk (fn:=Tryz.f76) (fns:=[(105,La)]) ⟨Sf,trivial⟩ (by kernel_rfl) (by kernel_rfl) fun _=>by kernel_rfl
def wI:Entry:=⟨[.«mut» bm .R .R,aT (.int .i64)],[bg .bool],rB⟩
theorem zf:Sound Tryz.prog 63 0 wI:=cF bk (fn:=Tryz.f63) (fns:=[(76,nd)]) ⟨og,trivial⟩ (by kernel_rfl) (by kernel_rfl) fun _=>by kernel_rfl
def Sg:Entry:=⟨[],[ro af],I2⟩
theorem aa8:Sound Tryz.prog 12 0 Sg:=cF bk (fn:=Tryz.f12) (fns:=[]) trivial (by kernel_rfl) (by kernel_rfl) fun _=>by kernel_rfl
def Sh:Entry:=⟨[],[bg af],I3⟩
theorem aa9:Sound Tryz.prog 12 0 Sh:=cF bk (fn:=Tryz.f12) (fns:=[]) trivial (by kernel_rfl) (by kernel_rfl) fun _=>by kernel_rfl
def uE:Entry:=⟨[aT af],[.val af (.S (.cons .R (.cons (.O .R) .nil)))],lu⟩
def aa_:List (Nat×bV):=[(3,⟨[(1,.ptr 1),(2,.ptr 2),(3,.ptr 4),(4,aL)],aB 1 af .R []++aB 2 af af.own []++aB 4 af af.own [],[.drop]⟩)]
def aa'(k:Nat→an→Option (af.D×Unit)):we:=fun U aa ae ai=>k 3 (bl [(1,ay 1),(2,ay 2),(3,ay 4),(4,aY U)] (aD 1 af .R [] aa++aD 2 af af.own [] ae++aD 4 af af.own [] ai) [.aC])
theorem wJ:Sound Tryz.prog 51 0 uE:=cz bk (fn:=Tryz.f51) (fns:=[]) trivial (by kernel_rfl) (by kernel_rfl) aa_ aa' yi o2 (fun k x=>yh k x.1) (by kernel_rfl) (fun _=>by kernel_rfl) (fun _=>rfl) (fun _ _=>by kernel_rfl) (fun _=>by kernel_rfl)
def Si:Entry:=⟨[aT af],[ro af],yk⟩
def aba:List (Nat×bV):=[(3,⟨[(1,.ptr 1),(2,.ptr 2),(3,.ptr 4),(4,aL)],aB 1 af .R []++aB 2 af af.own []++aB 4 af af.own [],[.drop]⟩)]
def abb(k:Nat→an→Option (af.D×Unit)):wg:=fun U aa ae ai=>k 3 (bl [(1,ay 1),(2,ay 2),(3,ay 4),(4,aY U)] (aD 1 af .R [] aa++aD 2 af af.own [] ae++aD 4 af af.own [] ai) [.aC])
theorem abc:Sound Tryz.prog 51 0 Si:=cz bk (fn:=Tryz.f51) (fns:=[]) trivial (by kernel_rfl) (by kernel_rfl) aba abb I4 yj (fun k x=>QU k x.1) (by kernel_rfl) (fun _=>by kernel_rfl) (fun _=>rfl) (fun _ _=>by kernel_rfl) (fun _=>by kernel_rfl)
def nf:Entry:=⟨[aT (.int .i64),aT (.int .i64),aT (.int .i64)],[bg .bool],eg⟩
theorem oh:Sound Tryz.prog 45 0 nf:=cF bk (fn:=Tryz.f45) (fns:=[]) trivial (by kernel_rfl) (by kernel_rfl) fun _=>by kernel_rfl
def Sj:Entry:=⟨[aT aG],[bg .bool],I7⟩
def abd:List (Nat×bV):=[(5,⟨[(1,.ptr 1)],aB 1 aG .R [],[.drop]⟩)]
def abe(k:Nat→an→Option (Bool×Unit)):BT:=fun U=>k 5 (bl [(1,ay 1)] (aD 1 aG .R [] U) [.aC])
theorem abf:Sound Tryz.prog 85 0 Sj:=cz bk (fn:=Tryz.f85) (fns:=[(45,nf)]) ⟨oh,trivial⟩ (by kernel_rfl) (by kernel_rfl) abd abe I6 yl (fun k x=>BU k x.1) (by kernel_rfl) (fun _=>by kernel_rfl) (fun _=>rfl) (fun _ _=>by kernel_rfl) (fun _=>by kernel_rfl)
def EK:Entry:=⟨[aT (.int .u8)],[bg .bool],ym⟩
theorem Lb:Sound Tryz.prog 107 0 EK:=cF bk (fn:=Tryz.f107) (fns:=[]) trivial (by kernel_rfl) (by kernel_rfl) fun _=>by kernel_rfl
def Lc:Entry:=⟨[aT .str],[bg .bool],yn⟩
def abg:List (Nat×bV):=[(4,⟨[(0,aL),(3,aL)],[],[.drop]⟩)]
def abh(k:Nat→an→Option (Bool×Unit)):BV:=fun U aa=>k 4 (bl [(0,eT U),(3,aY aa)] [] [.aC])
theorem Sk:Sound Tryz.prog 81 0 Lc:=cz bk (fn:=Tryz.f81) (fns:=[(45,nf),(107,EK)]) ⟨oh,Lb,trivial⟩ (by kernel_rfl) (by kernel_rfl) abg abh BX tp (fun k x=>BW k x.1) (by kernel_rfl) (fun _=>by kernel_rfl) (fun _=>rfl) (fun _ _=>by kernel_rfl) (fun _=>by kernel_rfl)
def EL:Entry:=⟨[aT aJ],[bg .bool],wh⟩
def abi:List (Nat×bV):=[(4,⟨[(1,.ptr 1),(3,aL)],aB 1 aJ .R [],[.drop]⟩)]
def abj(k:Nat→an→Option (Bool×Unit)):BY:=fun U aa=>k 4 (bl [(1,ay 1),(3,aY U)] (aD 1 aJ .R [] aa) [.aC])
theorem Ld:Sound Tryz.prog 20 0 EL:=cz bk (fn:=Tryz.f20) (fns:=[(45,nf)]) ⟨oh,trivial⟩ (by kernel_rfl) (by kernel_rfl) abi abj B0 tq (fun k x=>BZ k x.1) (by kernel_rfl) (fun _=>by kernel_rfl) (fun _=>rfl) (fun _ _=>by kernel_rfl) (fun _=>by kernel_rfl)
def Le:Entry:=⟨[aT aJ,aT (.int .i64)],[bg .bool],ts⟩
def abk:List (Nat×bV):=[(5,⟨[(1,aL),(2,.ptr 1),(5,aL),(6,aL)],aB 1 aJ .R [],[.drop,.drop]⟩)]
def abl(k:Nat→an→Option (Bool×Unit)):B1:=fun U aa ae ai=>k 5 (bl [(1,aY U),(2,ay 1),(5,js aa),(6,aY ae)] (aD 1 aJ .R [] ai) [.aC,.aC])
theorem Sl:Sound Tryz.prog 130 0 Le:=cz bk (fn:=Tryz.f130) (fns:=[(20,EL)]) ⟨Ld,trivial⟩ (by kernel_rfl) (by kernel_rfl) abk abl B3 tr (fun k x=>B2 k x.1 x.2.1) (by kernel_rfl) (fun _=>by kernel_rfl) (fun _=>rfl) (fun _ _=>by kernel_rfl) (fun _=>by kernel_rfl)
def r3:Entry:=⟨[aT aJ,aT I,aT (.int .i64)],[bg .bool],jO⟩
theorem uF:Sound Tryz.prog 109 0 r3:=cF bk (fn:=Tryz.f109) (fns:=[(20,EL),(45,nf),(130,Le)]) ⟨Ld,oh,Sl,trivial⟩ (by kernel_rfl) (by kernel_rfl) fun _=>by kernel_rfl
def Lf:Entry:=⟨[aT .str],[bg .bool],B7⟩
def abm:List (Nat×bV):=[(4,⟨[(0,aL),(3,aL)],[],[.drop]⟩)]
def abn(k:Nat→an→Option (Bool×Unit)):B4:=fun U aa=>k 4 (bl [(0,eT U),(3,aY aa)] [] [.aC])
theorem Sm:Sound Tryz.prog 64 0 Lf:=cz bk (fn:=Tryz.f64) (fns:=[(45,nf),(107,EK)]) ⟨oh,Lb,trivial⟩ (by kernel_rfl) (by kernel_rfl) abm abn B6 tt (fun k x=>B5 k x.1) (by kernel_rfl) (fun _=>by kernel_rfl) (fun _=>rfl) (fun _ _=>by kernel_rfl) (fun _=>by kernel_rfl)
def pd:Entry:=⟨[aT af,aT (.int .i64)],[bg (.int .i64)],kc⟩
def abo:List (Nat×bV):=[(2,⟨[(1,aL),(2,.ptr 1),(5,aL)],aB 1 af .R [],[.drop,.drop]⟩)]
def abp(k:Nat→an→Option (Int×Unit)):B8:=fun U aa ae=>k 2 (bl [(1,aY U),(2,ay 1),(5,aY aa)] (aD 1 af .R [] ae) [.aC,.aC])
theorem qy:Sound Tryz.prog 83 0 pd:=cz bk (fn:=Tryz.f83) (fns:=[]) trivial (by kernel_rfl) (by kernel_rfl) abo abp B_ tu (fun k x=>B9 k x.1 x.2.1) (by kernel_rfl) (fun _=>by kernel_rfl) (fun _=>rfl) (fun _ _=>by kernel_rfl) (fun _=>by kernel_rfl)
def Sn:Entry:=⟨[aT .str],[ro (.sl .str)],yr⟩
def abq:List (Nat×bV):=[(4,⟨[(0,aL),(3,.cell (.ag 1)),(4,aL),(5,aL)],[(1,.row .str .R)],[.drop]⟩)]
def abr(k:Nat→an→Option (yp)):B':=fun U aa ae ai=>k 4 (bl [(0,eT U),(3,.aS (.ag 1 none)),(4,aY aa),(5,aY ae)] [(1,.row .str .R 0 ai)] [.aC])
theorem abt:Sound Tryz.prog 108 0 Sn:=cz bk (fn:=Tryz.f108) (fns:=[]) trivial (by kernel_rfl) (by kernel_rfl) abq abr yq p_ (fun k x=>Ca k x.1) (by kernel_rfl) (fun _=>by kernel_rfl) (fun _=>rfl) (fun _ _=>by kernel_rfl) (fun _=>by kernel_rfl)
def Lg:Entry:=⟨[aT af,aT (.int .i64)],[bg (.int .i64)],Cc⟩
def abu:List (Nat×bV):=[(2,⟨[(1,aL),(2,.ptr 1),(5,aL)],aB 1 af .R [],[.drop,.drop]⟩),(5,⟨[(1,aL),(2,.ptr 1),(5,aL),(6,aL)],aB 1 af .R [],[.drop,.drop]⟩)]
def abv(k:Nat→an→Option (Int×Unit)):tv:=⟨fun U aa ae=>k 2 (bl [(1,aY U),(2,ay 1),(5,aY aa)] (aD 1 af .R [] ae) [.aC,.aC]),fun U aa ae ai=>k 5 (bl [(1,aY U),(2,ay 1),(5,aY aa),(6,aY ae)] (aD 1 af .R [] ai) [.aC,.aC])⟩
theorem So:Sound Tryz.prog 110 0 Lg:=cz bk (fn:=Tryz.f110) (fns:=[]) trivial (by kernel_rfl) (by kernel_rfl) abu abv QV kd (fun k x=>Cb k x.1 x.2.1) (by kernel_rfl) (fun _=>by kernel_rfl) (fun _=>rfl) (fun _ _=>by kernel_rfl) (fun _=>by kernel_rfl)
def Sp:Entry:=⟨[aT af,aT (.int .i64),aT .str],[bg (.int .i64)],I_⟩
def abw:List (Nat×bV):=[(3,⟨[(2,aL),(7,.cell (.bY aw [])),(8,aL)],[],[.drop,.drop,.drop]⟩)]
def abx(k:Nat→an→Option (Int×Unit)):Cd:=fun U aa ae=>k 3 (bl [(2,eT U),(7,hy aw aa),(8,aY ae)] [] [.aC,.aC,.aC])
theorem aby:Sound Tryz.prog 111 0 Sp:=cz bk (fn:=Tryz.f111) (fns:=[(83,pd)]) ⟨qy,trivial⟩ (by kernel_rfl) (by kernel_rfl) abw abx Cf rC (fun k x=>Ce k x.1 x.2.1 x.2.2.1) (by kernel_rfl) (fun _=>by kernel_rfl) (fun _=>rfl) (fun _ _=>by kernel_rfl) (fun _=>by kernel_rfl)
def Lh:Entry:=⟨[aT af,aT aJ,aT .str,aT .bool],[bg aW],Ck⟩
def abz:List (Nat×bV):=[(4,⟨[(3,aL),(4,.ptr 1),(5,.ptr 2),(8,.ptr 3),(9,.cell (.au 4)),(10,aL),(11,aL)],aB 1 af .R []++aB 2 aJ .R []++aB 3 aW .R []++[(4,.row .str .R)],[.drop,.drop,.drop,.drop]⟩),(21,⟨[(3,aL),(4,.ptr 1),(5,.ptr 2),(8,.ptr 3),(9,.cell (.au 4)),(10,aL),(11,aL),(12,aL),(13,aL),(14,aL),(15,.ptr 5)],aB 1 af .R []++aB 2 aJ .R []++aB 3 aW .R []++[(4,.row .str .R)]++aB 5 I .R [],[.drop,.drop,.drop,.drop]⟩),(22,⟨[(3,aL),(4,.ptr 1),(5,.ptr 2),(8,.ptr 3),(9,.cell (.au 4)),(10,aL),(11,aL),(15,.ptr 5)],aB 1 af .R []++aB 2 aJ .R []++aB 3 aW .R []++[(4,.row .str .R)]++aB 5 I .R [],[.drop,.drop,.drop,.drop]⟩),(30,⟨[(3,aL),(4,.ptr 1),(5,.ptr 2),(8,.ptr 3),(9,.cell (.au 4)),(10,aL),(11,aL),(12,aL),(13,aL),(14,aL),(15,.ptr 5)],aB 1 af .R []++aB 2 aJ .R []++aB 3 aW .R []++[(4,.row .str .R)]++aB 5 I .R [],[.drop,.drop,.drop,.drop]⟩),(27,⟨[(3,aL),(4,.ptr 1),(5,.ptr 2),(8,.ptr 3),(9,.cell (.au 4)),(10,aL),(11,aL),(15,.ptr 5)],aB 1 af .R []++aB 2 aJ .R []++aB 3 aW .R []++[(4,.row .str .R)]++aB 5 I .R [],[.drop,.drop,.drop,.drop]⟩)]
def abA(k:Nat→an→Option (aW.D×Unit)):o3:=⟨fun U aa ae ai ar aE bn bT cA=>k 4 (bl [(3,js U),(4,ay 1),(5,ay 2),(8,ay 3),(9,.aS (.ag 4 (some (aa,ae)))),(10,aY ai),(11,aY ar)] (aD 1 af .R [] aE++aD 2 aJ .R [] bn++aD 3 aW .R [] bT++[(4,.row .str .R 0 cA)]) [.aC,.aC,.aC,.aC]),fun U aa ae ai ar aE bn bT cA eY ke kf jP=>k 21 (bl [(3,js U),(4,ay 1),(5,ay 2),(8,ay 3),(9,.aS (.ag 4 (some (aa,ae)))),(10,aY ai),(11,aY ar),(12,eT aE),(13,js bn),(14,aY bT),(15,ay 5)] (aD 1 af .R [] cA++aD 2 aJ .R [] eY++aD 3 aW .R [] ke++[(4,.row .str .R 0 kf)]++aD 5 I .R [] jP) [.aC,.aC,.aC,.aC]),fun U aa ae ai ar aE bn bT cA eY=>k 22 (bl [(3,js U),(4,ay 1),(5,ay 2),(8,ay 3),(9,.aS (.ag 4 (some (aa,ae)))),(10,aY ai),(11,aY ar),(15,ay 5)] (aD 1 af .R [] aE++aD 2 aJ .R [] bn++aD 3 aW .R [] bT++[(4,.row .str .R 0 cA)]++aD 5 I .R [] eY) [.aC,.aC,.aC,.aC]),fun U aa ae ai ar aE bn bT cA eY ke kf jP=>k 30 (bl [(3,js U),(4,ay 1),(5,ay 2),(8,ay 3),(9,.aS (.ag 4 (some (aa,ae)))),(10,aY ai),(11,aY ar),(12,eT aE),(13,js bn),(14,aY bT),(15,ay 5)] (aD 1 af .R [] cA++aD 2 aJ .R [] eY++aD 3 aW .R [] ke++[(4,.row .str .R 0 kf)]++aD 5 I .R [] jP) [.aC,.aC,.aC,.aC]),fun U aa ae ai ar aE bn bT cA eY=>k 27 (bl [(3,js U),(4,ay 1),(5,ay 2),(8,ay 3),(9,.aS (.ag 4 (some (aa,ae)))),(10,aY ai),(11,aY ar),(15,ay 5)] (aD 1 af .R [] aE++aD 2 aJ .R [] bn++aD 3 aW .R [] bT++[(4,.row .str .R 0 cA)]++aD 5 I .R [] eY) [.aC,.aC,.aC,.aC])⟩
theorem Sq:Sound Tryz.prog 65 0 Lh:=cz bk (fn:=Tryz.f65) (fns:=[(83,pd),(108,Sn),(109,r3),(110,Lg),(111,Sp)]) ⟨qy,abt,uF,So,aby,trivial⟩ (by kernel_rfl) (by kernel_rfl) abz abA QX e6 (fun k x=>Cg k x.1 x.2.1 x.2.2.1 x.2.2.2.1) (by kernel_rfl) (fun _=>by kernel_rfl) (fun _=>rfl) (fun _ _=>by kernel_rfl) (fun _=>by kernel_rfl)
def Li:Entry:=⟨[aT af,aT aJ,aT .str],[bg aW,bg (.int .i64)],tz⟩
theorem Sr:Sound Tryz.prog 119 0 Li:=cF bk (fn:=Tryz.f119) (fns:=[(64,Lf),(65,Lh)]) ⟨Sm,Sq,trivial⟩ (by kernel_rfl) (by kernel_rfl) fun _=>by kernel_rfl
def pe:Entry:=⟨[aT af,aT (.int .i64)],[bg I],e7⟩
theorem qz:Sound Tryz.prog 120 0 pe:=cF bk (fn:=Tryz.f120) (fns:=[(83,pd)]) ⟨qy,trivial⟩ (by kernel_rfl) (by kernel_rfl) fun _=>by kernel_rfl
def EM:Entry:=⟨[aT af],[bg (.int .i64)],yv⟩
def abB:List (Nat×bV):=[(3,⟨[(1,.ptr 1),(3,aL),(4,aL)],aB 1 af .R [],[.drop]⟩)]
def abC(k:Nat→an→Option (Int×Unit)):Cl:=fun U aa ae=>k 3 (bl [(1,ay 1),(3,aY U),(4,aY aa)] (aD 1 af .R [] ae) [.aC])
theorem Lj:Sound Tryz.prog 49 0 EM:=cz bk (fn:=Tryz.f49) (fns:=[]) trivial (by kernel_rfl) (by kernel_rfl) abB abC Cn tA (fun k x=>Cm k x.1) (by kernel_rfl) (fun _=>by kernel_rfl) (fun _=>rfl) (fun _ _=>by kernel_rfl) (fun _=>by kernel_rfl)
def Lk:Entry:=⟨[aT af,aT (.int .i64)],[ro (.sl .bool)],Cq⟩
def abD:List (Nat×bV):=[(8,⟨[(2,.ptr 1),(5,.cell (.ag 2)),(6,.cell (.ag 3)),(8,aL)],aB 1 af .R []++[(2,.row .bool .R),(3,.row .bool .R)],[.drop,.drop]⟩),(11,⟨[(2,.ptr 1),(5,.cell (.ag 2)),(6,.cell (.ag 3)),(8,aL),(9,aL)],aB 1 af .R []++[(2,.row .bool .R),(3,.row .bool .R)],[.drop,.drop]⟩),(15,⟨[(2,.ptr 1),(5,.cell (.ag 2)),(6,.cell (.ag 3)),(8,aL),(9,aL),(10,aL)],aB 1 af .R []++[(2,.row .bool .R),(3,.row .bool .R)],[.drop,.drop]⟩)]
def abE(k:Nat→an→Option ((List Bool)×Unit)):qa:=⟨fun U aa ae ai=>k 8 (bl [(2,ay 1),(5,.aS (.ag 2 none)),(6,.aS (.ag 3 none)),(8,aY U)] (aD 1 af .R [] aa++[(2,.row .bool .R 0 ae),(3,.row .bool .R 0 ai)]) [.aC,.aC]),fun U aa ae ai ar=>k 11 (bl [(2,ay 1),(5,.aS (.ag 2 none)),(6,.aS (.ag 3 none)),(8,aY U),(9,aY aa)] (aD 1 af .R [] ae++[(2,.row .bool .R 0 ai),(3,.row .bool .R 0 ar)]) [.aC,.aC]),fun U aa ae ai ar aE=>k 15 (bl [(2,ay 1),(5,.aS (.ag 2 none)),(6,.aS (.ag 3 none)),(8,aY U),(9,aY aa),(10,aY ae)] (aD 1 af .R [] ai++[(2,.row .bool .R 0 ar),(3,.row .bool .R 0 aE)]) [.aC,.aC])⟩
theorem Ss:Sound Tryz.prog 47 0 Lk:=cz bk (fn:=Tryz.f47) (fns:=[(83,pd)]) ⟨qy,trivial⟩ (by kernel_rfl) (by kernel_rfl) abD abE QY jQ (fun k x=>Cp k x.1 x.2.1) (by kernel_rfl) (fun _=>by kernel_rfl) (fun _=>rfl) (fun _ _=>by kernel_rfl) (fun _=>by kernel_rfl)
def Ll:Entry:=⟨[aT af,aT (.int .i64)],[bg (.int .i64),bg (.int .i64)],yy⟩
def abF:List (Nat×bV):=[(5,⟨[(2,.ptr 1),(6,.cell (.ag 2)),(7,aL),(8,aL),(9,aL)],aB 1 af .R []++[(2,.row .bool .R)],[.drop,.drop]⟩)]
def abG(k:Nat→an→Option (Int×Int×Unit)):Cr:=fun U aa ae ai ar=>k 5 (bl [(2,ay 1),(6,.aS (.ag 2 none)),(7,aY U),(8,aY aa),(9,aY ae)] (aD 1 af .R [] ai++[(2,.row .bool .R 0 ar)]) [.aC,.aC])
theorem St:Sound Tryz.prog 84 0 Ll:=cz bk (fn:=Tryz.f84) (fns:=[(47,Lk)]) ⟨Ss,trivial⟩ (by kernel_rfl) (by kernel_rfl) abF abG Ct tC (fun k x=>Cs k x.1 x.2.1) (by kernel_rfl) (fun _=>by kernel_rfl) (fun _=>rfl) (fun _ _=>by kernel_rfl) (fun _=>by kernel_rfl)
def Lm:Entry:=⟨[aT af],[bg .bool],Cv⟩
def abH:List (Nat×bV):=[(2,⟨[(1,.ptr 1),(3,aL)],aB 1 af .R [],[.drop]⟩),(6,⟨[(1,.ptr 1),(3,aL),(4,.ptr 2)],aB 1 af .R []++aB 2 I .R [],[.drop]⟩)]
def abI(k:Nat→an→Option (Bool×Unit)):tD:=⟨fun U aa=>k 2 (bl [(1,ay 1),(3,aY U)] (aD 1 af .R [] aa) [.aC]),fun U aa ae=>k 6 (bl [(1,ay 1),(3,aY U),(4,ay 2)] (aD 1 af .R [] aa++aD 2 I .R [] ae) [.aC])⟩
theorem Su:Sound Tryz.prog 50 0 Lm:=cz bk (fn:=Tryz.f50) (fns:=[(84,Ll)]) ⟨St,trivial⟩ (by kernel_rfl) (by kernel_rfl) abH abI QZ jR (fun k x=>Cu k x.1) (by kernel_rfl) (fun _=>by kernel_rfl) (fun _=>rfl) (fun _ _=>by kernel_rfl) (fun _=>by kernel_rfl)
def Sv:Entry:=⟨[aT af],[bg (.int .i64)],Jc⟩
theorem abJ:Sound Tryz.prog 156 0 Sv:=cF bk (fn:=Tryz.f156) (fns:=[(49,EM),(50,Lm)]) ⟨Lj,Su,trivial⟩ (by kernel_rfl) (by kernel_rfl) fun _=>by kernel_rfl
def wK:Entry:=⟨[aT af,.val af (.S (.cons .R (.cons (.O .R) .nil)))],[bg af,bg aV],qb⟩
theorem zg:Sound Tryz.prog 121 0 wK:=cF bk (fn:=Tryz.f121) (fns:=[(156,Sv)]) ⟨abJ,trivial⟩ (by kernel_rfl) (by kernel_rfl) fun _=>by kernel_rfl
def wL:Entry:=⟨[.val af (.S (.cons .R (.cons (.O .R) .nil))),BN I],[.val af (.S (.cons .R (.cons (.O .R) .nil)))],n4⟩
theorem zh:Sound Tryz.prog 123 0 wL:=cF bk (fn:=Tryz.f123) (fns:=[(83,pd)]) ⟨qy,trivial⟩ (by kernel_rfl) (by kernel_rfl) fun _=>by kernel_rfl
def EN:Entry:=⟨[.val af (.S (.cons .R (.cons (.O .R) .nil))),aT (.int .i64),aT .str,aT (.int .i64)],[.val af (.S (.cons .R (.cons (.O .R) .nil)))],rE⟩
def abK:List (Nat×bV):=[(5,⟨[(2,aL),(3,aL),(4,.ptr 1),(8,.ptr 3),(9,.ptr 5),(10,.cell (.ag 6)),(11,aL),(12,aL)],aB 1 af (.S (.cons .R (.cons (.O .R) .nil))) []++aB 3 af af.own []++aB 5 I .R [2]++[(6,.row aw .R)],[.drop,.drop,.drop,.drop]⟩),(10,⟨[(2,aL),(3,aL),(4,.ptr 1),(8,.ptr 3),(9,.ptr 5),(10,.cell (.ag 6)),(11,aL),(12,aL)],aB 1 af (.S (.cons .R (.cons (.O .R) .nil))) []++aB 3 af af.own []++aB 5 I .R [2]++[(6,.row aw .R)],[.drop,.drop,.drop,.drop]⟩),(13,⟨[(4,.ptr 1),(8,.ptr 3),(9,.ptr 5),(10,.cell (.ag 6))],aB 1 af (.S (.cons .R (.cons (.O .R) .nil))) []++aB 3 af af.own []++aB 5 I .R [2]++[(6,.row aw .R)],[.drop,.drop,.drop,.drop]⟩)]
def abL(k:Nat→an→Option (af.D×Unit)):rD:=⟨fun U aa ae ai ar aE bn bT=>k 5 (bl [(2,eT U),(3,aY aa),(4,ay 1),(8,ay 3),(9,ay 5),(10,.aS (.ag 6 none)),(11,js ae),(12,aY ai)] (aD 1 af (.S (.cons .R (.cons (.O .R) .nil))) [] ar++aD 3 af af.own [] aE++aD 5 I .R [2] bn++[(6,.row aw .R 0 bT)]) [.aC,.aC,.aC,.aC]),fun U aa ae ai ar aE bn bT=>k 10 (bl [(2,eT U),(3,aY aa),(4,ay 1),(8,ay 3),(9,ay 5),(10,.aS (.ag 6 none)),(11,js ae),(12,aY ai)] (aD 1 af (.S (.cons .R (.cons (.O .R) .nil))) [] ar++aD 3 af af.own [] aE++aD 5 I .R [2] bn++[(6,.row aw .R 0 bT)]) [.aC,.aC,.aC,.aC]),fun U aa ae ai=>k 13 (bl [(4,ay 1),(8,ay 3),(9,ay 5),(10,.aS (.ag 6 none))] (aD 1 af (.S (.cons .R (.cons (.O .R) .nil))) [] U++aD 3 af af.own [] aa++aD 5 I .R [2] ae++[(6,.row aw .R 0 ai)]) [.aC,.aC,.aC,.aC])⟩
theorem Ln:Sound Tryz.prog 122 0 EN:=cz bk (fn:=Tryz.f122) (fns:=[(120,pe),(123,wL)]) ⟨qz,zh,trivial⟩ (by kernel_rfl) (by kernel_rfl) abK abL Q1 ie (fun k x=>Cw k x.1 x.2.1 x.2.2.1 x.2.2.2.1) (by kernel_rfl) (fun _=>by kernel_rfl) (fun _=>rfl) (fun _ _=>by kernel_rfl) (fun _=>by kernel_rfl)
def Sw:Entry:=⟨[BN af,aT aJ,aT aG],[bg af,bg aV],tF⟩
def abM:List (Nat×bV):=[(3,⟨[(3,.ptr 1),(4,.ptr 2),(5,.ptr 3),(6,.ptr 4),(7,.ptr 6)],aB 1 af .R []++aB 2 aJ .R []++aB 3 aG .R []++aB 4 af af.own []++aB 6 aV .R [],[.drop,.drop,.drop]⟩),(14,⟨[(3,.ptr 1),(5,.ptr 2),(6,.ptr 3),(7,.ptr 5),(8,.ptr 6),(10,.ptr 7),(11,.ptr 8)],aB 1 af .R []++aB 2 aG .R []++aB 3 af af.own []++aB 5 aV .R []++aB 6 aW .R []++aB 7 I .R []++aB 8 I I.own [],[.drop,.drop,.drop]⟩),(18,⟨[(3,.ptr 1),(6,.ptr 2),(7,.ptr 4),(8,.ptr 5),(10,.ptr 6),(11,.ptr 7)],aB 1 af .R []++aB 2 af af.own []++aB 4 aV .R []++aB 5 aW .R []++aB 6 I .R []++aB 7 I I.own [],[.drop,.drop,.drop]⟩),(22,⟨[(3,.ptr 1),(6,.ptr 2),(7,.ptr 4),(8,.ptr 5),(11,.ptr 6)],aB 1 af .R []++aB 2 af af.own []++aB 4 aV .R []++aB 5 aW .R []++aB 6 I I.own [],[.drop,.drop,.drop]⟩)]
def abN(k:Nat→an→Option (n6)):qc:=⟨fun U aa ae ai ar=>k 3 (bl [(3,ay 1),(4,ay 2),(5,ay 3),(6,ay 4),(7,ay 6)] (aD 1 af .R [] U++aD 2 aJ .R [] aa++aD 3 aG .R [] ae++aD 4 af af.own [] ai++aD 6 aV .R [] ar) [.aC,.aC,.aC]),fun U aa ae ai ar aE bn=>k 14 (bl [(3,ay 1),(5,ay 2),(6,ay 3),(7,ay 5),(8,ay 6),(10,ay 7),(11,ay 8)] (aD 1 af .R [] U++aD 2 aG .R [] aa++aD 3 af af.own [] ae++aD 5 aV .R [] ai++aD 6 aW .R [] ar++aD 7 I .R [] aE++aD 8 I I.own [] bn) [.aC,.aC,.aC]),fun U aa ae ai ar aE=>k 18 (bl [(3,ay 1),(6,ay 2),(7,ay 4),(8,ay 5),(10,ay 6),(11,ay 7)] (aD 1 af .R [] U++aD 2 af af.own [] aa++aD 4 aV .R [] ae++aD 5 aW .R [] ai++aD 6 I .R [] ar++aD 7 I I.own [] aE) [.aC,.aC,.aC]),fun U aa ae ai ar=>k 22 (bl [(3,ay 1),(6,ay 2),(7,ay 4),(8,ay 5),(11,ay 6)] (aD 1 af .R [] U++aD 2 af af.own [] aa++aD 4 aV .R [] ae++aD 5 aW .R [] ai++aD 6 I I.own [] ar) [.aC,.aC,.aC])⟩
theorem abO:Sound Tryz.prog 86 0 Sw:=cz bk (fn:=Tryz.f86) (fns:=[(45,nf),(51,uE),(81,Lc),(109,r3),(119,Li),(120,pe),(121,wK),(122,EN),(123,wL)]) ⟨oh,wJ,Sk,uF,Sr,qz,zg,Ln,zh,trivial⟩ (by kernel_rfl) (by kernel_rfl) abM abN Q2 jw (fun k x=>Cx k x.1 x.2.1 x.2.2.1) (by kernel_rfl) (fun _=>by kernel_rfl) (fun _=>rfl) (fun _ _=>by kernel_rfl) (fun _=>by kernel_rfl)
def uG:Entry:=⟨[aT af,aT aJ,aT .str,aT .bool],[bg aW],fK⟩
theorem wM:Sound Tryz.prog 124 0 uG:=cF bk (fn:=Tryz.f124) (fns:=[(64,Lf),(65,Lh)]) ⟨Sm,Sq,trivial⟩ (by kernel_rfl) (by kernel_rfl) fun _=>by kernel_rfl
def Lo:Entry:=⟨[aT aJ,aT I,aT I],[bg .bool],wj⟩
theorem Sx:Sound Tryz.prog 125 0 Lo:=cF bk (fn:=Tryz.f125) (fns:=[(20,EL)]) ⟨Ld,trivial⟩ (by kernel_rfl) (by kernel_rfl) fun _=>by kernel_rfl
def EO:Entry:=⟨[aT af,aT (.int .i64)],[bg (.int .i64)],yF⟩
def abP:List (Nat×bV):=[(3,⟨[(1,aL),(2,.ptr 1),(5,aL),(6,aL)],aB 1 af .R [],[.drop,.drop]⟩),(6,⟨[(1,aL),(2,.ptr 1),(5,aL),(6,aL),(7,aL)],aB 1 af .R [],[.drop,.drop]⟩)]
def abQ(k:Nat→an→Option (Int×Unit)):tG:=⟨fun U aa ae ai=>k 3 (bl [(1,aY U),(2,ay 1),(5,aY aa),(6,aY ae)] (aD 1 af .R [] ai) [.aC,.aC]),fun U aa ae ai ar=>k 6 (bl [(1,aY U),(2,ay 1),(5,aY aa),(6,aY ae),(7,aY ai)] (aD 1 af .R [] ar) [.aC,.aC])⟩
theorem Lp:Sound Tryz.prog 48 0 EO:=cz bk (fn:=Tryz.f48) (fns:=[]) trivial (by kernel_rfl) (by kernel_rfl) abP abQ Q3 o5 (fun k x=>Cy k x.1 x.2.1) (by kernel_rfl) (fun _=>by kernel_rfl) (fun _=>rfl) (fun _ _=>by kernel_rfl) (fun _=>by kernel_rfl)
def Lq:Entry:=⟨[.val af (.S (.cons .R (.cons (.O .R) .nil))),aT (.int .i64),aT .str],[.val af (.S (.cons .R (.cons (.O .R) .nil)))],n7⟩
def abR:List (Nat×bV):=[(5,⟨[(2,aL),(3,.ptr 1),(6,.ptr 3),(7,.ptr 5),(8,aL),(9,.cell (.ag 6)),(10,aL)],aB 1 af (.S (.cons .R (.cons (.O .R) .nil))) []++aB 3 af af.own []++aB 5 I .R [2]++[(6,.row aw .R)],[.drop,.drop,.drop]⟩),(16,⟨[(3,.ptr 1),(6,.ptr 3),(8,aL),(11,.cell (.ag 5)),(12,aL)],aB 1 af (.S (.cons .R (.cons (.O .R) .nil))) []++aB 3 af af.own []++[(5,.row I .R)],[.drop,.drop,.drop]⟩)]
def abS(k:Nat→an→Option (af.D×Unit)):tH:=⟨fun U aa ae ai ar aE bn=>k 5 (bl [(2,eT U),(3,ay 1),(6,ay 3),(7,ay 5),(8,aY aa),(9,.aS (.ag 6 none)),(10,aY ae)] (aD 1 af (.S (.cons .R (.cons (.O .R) .nil))) [] ai++aD 3 af af.own [] ar++aD 5 I .R [2] aE++[(6,.row aw .R 0 bn)]) [.aC,.aC,.aC]),fun U aa ae ai ar=>k 16 (bl [(3,ay 1),(6,ay 3),(8,aY U),(11,.aS (.ag 5 none)),(12,aY aa)] (aD 1 af (.S (.cons .R (.cons (.O .R) .nil))) [] ae++aD 3 af af.own [] ai++[(5,.row I .R 0 ar)]) [.aC,.aC,.aC])⟩
theorem Sy:Sound Tryz.prog 126 0 Lq:=cz bk (fn:=Tryz.f126) (fns:=[(48,EO),(120,pe),(123,wL)]) ⟨Lp,qz,zh,trivial⟩ (by kernel_rfl) (by kernel_rfl) abR abS Q4 kC (fun k x=>Cz k x.1 x.2.1 x.2.2.1) (by kernel_rfl) (fun _=>by kernel_rfl) (fun _=>rfl) (fun _ _=>by kernel_rfl) (fun _=>by kernel_rfl)
def Sz:Entry:=⟨[aT af,aT aJ,aT aG],[bg af,bg aV],yI⟩
def abT:List (Nat×bV):=[(7,⟨[(3,.ptr 1),(4,.ptr 2),(5,.ptr 3),(6,.ptr 4),(7,.ptr 6),(8,.ptr 7),(9,.ptr 8)],aB 1 af .R []++aB 2 aJ .R []++aB 3 aG .R []++aB 4 af af.own []++aB 6 aV .R []++aB 7 aW .R []++aB 8 I .R [],[.drop,.drop,.drop]⟩),(9,⟨[(3,.ptr 1),(4,.ptr 2),(5,.ptr 3),(6,.ptr 4),(7,.ptr 6),(8,.ptr 7),(9,.ptr 8)],aB 1 af .R []++aB 2 aJ .R []++aB 3 aG .R []++aB 4 af af.own []++aB 6 aV .R []++aB 7 aW .R []++aB 8 I .R [],[.drop,.drop,.drop]⟩),(11,⟨[(3,.ptr 1),(4,.ptr 2),(6,.ptr 3),(7,.ptr 5),(8,.ptr 6),(9,.ptr 7)],aB 1 af .R []++aB 2 aJ .R []++aB 3 af af.own []++aB 5 aV .R []++aB 6 aW .R []++aB 7 I .R [],[.drop,.drop,.drop]⟩)]
def abU(k:Nat→an→Option (qd)):rF:=⟨fun U aa ae ai ar aE bn=>k 7 (bl [(3,ay 1),(4,ay 2),(5,ay 3),(6,ay 4),(7,ay 6),(8,ay 7),(9,ay 8)] (aD 1 af .R [] U++aD 2 aJ .R [] aa++aD 3 aG .R [] ae++aD 4 af af.own [] ai++aD 6 aV .R [] ar++aD 7 aW .R [] aE++aD 8 I .R [] bn) [.aC,.aC,.aC]),fun U aa ae ai ar aE bn=>k 9 (bl [(3,ay 1),(4,ay 2),(5,ay 3),(6,ay 4),(7,ay 6),(8,ay 7),(9,ay 8)] (aD 1 af .R [] U++aD 2 aJ .R [] aa++aD 3 aG .R [] ae++aD 4 af af.own [] ai++aD 6 aV .R [] ar++aD 7 aW .R [] aE++aD 8 I .R [] bn) [.aC,.aC,.aC]),fun U aa ae ai ar aE=>k 11 (bl [(3,ay 1),(4,ay 2),(6,ay 3),(7,ay 5),(8,ay 6),(9,ay 7)] (aD 1 af .R [] U++aD 2 aJ .R [] aa++aD 3 af af.own [] ae++aD 5 aV .R [] ai++aD 6 aW .R [] ar++aD 7 I .R [] aE) [.aC,.aC,.aC])⟩
theorem abV:Sound Tryz.prog 87 0 Sz:=cz bk (fn:=Tryz.f87) (fns:=[(51,uE),(109,r3),(120,pe),(124,uG),(125,Lo),(126,Lq)]) ⟨wJ,uF,qz,wM,Sx,Sy,trivial⟩ (by kernel_rfl) (by kernel_rfl) abT abU Q5 qe (fun k x=>CA k x.1 x.2.1 x.2.2.1) (by kernel_rfl) (fun _=>by kernel_rfl) (fun _=>rfl) (fun _ _=>by kernel_rfl) (fun _=>by kernel_rfl)
def Lr:Entry:=⟨[aT af,aT (.int .i64)],[bg .bool],wk⟩
theorem SA:Sound Tryz.prog 127 0 Lr:=cF bk (fn:=Tryz.f127) (fns:=[(83,pd)]) ⟨qy,trivial⟩ (by kernel_rfl) (by kernel_rfl) fun _=>by kernel_rfl
def SB:Entry:=⟨[aT af,aT aJ,aT aG],[bg af,bg aV],CB⟩
theorem abW:Sound Tryz.prog 88 0 SB:=cF bk (fn:=Tryz.f88) (fns:=[(51,uE),(109,r3),(119,Li),(120,pe),(121,wK),(122,EN),(124,uG),(127,Lr)]) ⟨wJ,uF,Sr,qz,zg,Ln,wM,SA,trivial⟩ (by kernel_rfl) (by kernel_rfl) fun _=>by kernel_rfl
def SC:Entry:=⟨[aT af,aT (.int .i64),aT (.int .i64)],[bg .bool],yJ⟩
def abX:List (Nat×bV):=[(2,⟨[(1,aL),(2,aL),(3,.ptr 1),(7,aL)],aB 1 af .R [],[.drop,.drop,.drop]⟩)]
def abY(k:Nat→an→Option (Bool×Unit)):CC:=fun U aa ae ai=>k 2 (bl [(1,aY U),(2,aY aa),(3,ay 1),(7,aY ae)] (aD 1 af .R [] ai) [.aC,.aC,.aC])
theorem abZ:Sound Tryz.prog 128 0 SC:=cz bk (fn:=Tryz.f128) (fns:=[(110,Lg)]) ⟨So,trivial⟩ (by kernel_rfl) (by kernel_rfl) abX abY CE tI (fun k x=>CD k x.1 x.2.1 x.2.2.1) (by kernel_rfl) (fun _=>by kernel_rfl) (fun _=>rfl) (fun _ _=>by kernel_rfl) (fun _=>by kernel_rfl)
def SD:Entry:=⟨[aT af,aT aJ,aT aG],[bg af,bg aV],CG⟩
def ab0:List (Nat×bV):=[(7,⟨[(3,.ptr 1),(4,.ptr 2),(6,.ptr 3),(7,.ptr 5),(8,.ptr 6),(9,.ptr 7)],aB 1 af .R []++aB 2 aJ .R []++aB 3 af af.own []++aB 5 aV .R []++aB 6 aW .R []++aB 7 aW .R [],[.drop,.drop,.drop]⟩),(18,⟨[(3,.ptr 1),(4,.ptr 2),(6,.ptr 3),(7,.ptr 5),(8,.ptr 6),(9,.ptr 7),(11,.ptr 8),(12,.ptr 9)],aB 1 af .R []++aB 2 aJ .R []++aB 3 af af.own []++aB 5 aV .R []++aB 6 aW .R []++aB 7 aW .R []++aB 8 I .R []++aB 9 I .R [],[.drop,.drop,.drop]⟩),(27,⟨[(3,.ptr 1),(6,.ptr 2),(7,.ptr 4),(8,.ptr 5),(9,.ptr 6),(12,.ptr 7),(13,.ptr 8),(14,.ptr 10)],aB 1 af .R []++aB 2 af af.own []++aB 4 aV .R []++aB 5 aW .R []++aB 6 aW .R []++aB 7 I .R []++aB 8 af (.S (.cons .R (.cons (.O .R) .nil))) []++aB 10 I .R [],[.drop,.drop,.drop]⟩),(34,⟨[(3,.ptr 1),(6,.ptr 2),(7,.ptr 4),(8,.ptr 5),(9,.ptr 6),(13,.ptr 7)],aB 1 af .R []++aB 2 af af.own []++aB 4 aV .R []++aB 5 aW .R []++aB 6 aW .R []++aB 7 af (.S (.cons .R (.cons (.O .R) .nil))) [],[.drop,.drop,.drop]⟩),(29,⟨[(3,.ptr 1),(6,.ptr 2),(7,.ptr 4),(8,.ptr 5),(9,.ptr 6),(12,.ptr 7),(13,.ptr 8),(14,.ptr 10)],aB 1 af .R []++aB 2 af af.own []++aB 4 aV .R []++aB 5 aW .R []++aB 6 aW .R []++aB 7 I .R []++aB 8 af (.S (.cons .R (.cons (.O .R) .nil))) []++aB 10 I .R [],[.drop,.drop,.drop]⟩)]
def ab1(k:Nat→an→Option (l_)):o6:=⟨fun U aa ae ai ar aE=>k 7 (bl [(3,ay 1),(4,ay 2),(6,ay 3),(7,ay 5),(8,ay 6),(9,ay 7)] (aD 1 af .R [] U++aD 2 aJ .R [] aa++aD 3 af af.own [] ae++aD 5 aV .R [] ai++aD 6 aW .R [] ar++aD 7 aW .R [] aE) [.aC,.aC,.aC]),fun U aa ae ai ar aE bn bT=>k 18 (bl [(3,ay 1),(4,ay 2),(6,ay 3),(7,ay 5),(8,ay 6),(9,ay 7),(11,ay 8),(12,ay 9)] (aD 1 af .R [] U++aD 2 aJ .R [] aa++aD 3 af af.own [] ae++aD 5 aV .R [] ai++aD 6 aW .R [] ar++aD 7 aW .R [] aE++aD 8 I .R [] bn++aD 9 I .R [] bT) [.aC,.aC,.aC]),fun U aa ae ai ar aE bn bT=>k 27 (bl [(3,ay 1),(6,ay 2),(7,ay 4),(8,ay 5),(9,ay 6),(12,ay 7),(13,ay 8),(14,ay 10)] (aD 1 af .R [] U++aD 2 af af.own [] aa++aD 4 aV .R [] ae++aD 5 aW .R [] ai++aD 6 aW .R [] ar++aD 7 I .R [] aE++aD 8 af (.S (.cons .R (.cons (.O .R) .nil))) [] bn++aD 10 I .R [] bT) [.aC,.aC,.aC]),fun U aa ae ai ar aE=>k 34 (bl [(3,ay 1),(6,ay 2),(7,ay 4),(8,ay 5),(9,ay 6),(13,ay 7)] (aD 1 af .R [] U++aD 2 af af.own [] aa++aD 4 aV .R [] ae++aD 5 aW .R [] ai++aD 6 aW .R [] ar++aD 7 af (.S (.cons .R (.cons (.O .R) .nil))) [] aE) [.aC,.aC,.aC]),fun U aa ae ai ar aE bn bT=>k 29 (bl [(3,ay 1),(6,ay 2),(7,ay 4),(8,ay 5),(9,ay 6),(12,ay 7),(13,ay 8),(14,ay 10)] (aD 1 af .R [] U++aD 2 af af.own [] aa++aD 4 aV .R [] ae++aD 5 aW .R [] ai++aD 6 aW .R [] ar++aD 7 I .R [] aE++aD 8 af (.S (.cons .R (.cons (.O .R) .nil))) [] bn++aD 10 I .R [] bT) [.aC,.aC,.aC])⟩
theorem ab2:Sound Tryz.prog 89 0 SD:=cz bk (fn:=Tryz.f89) (fns:=[(51,uE),(109,r3),(120,pe),(121,wK),(122,EN),(124,uG),(125,Lo),(126,Lq),(128,SC)]) ⟨wJ,uF,qz,zg,Ln,wM,Sx,Sy,abZ,trivial⟩ (by kernel_rfl) (by kernel_rfl) ab0 ab1 Q7 gg (fun k x=>CF k x.1 x.2.1 x.2.2.1) (by kernel_rfl) (fun _=>by kernel_rfl) (fun _=>rfl) (fun _ _=>by kernel_rfl) (fun _=>by kernel_rfl)
def SE:Entry:=⟨[aT .str,aT (.int .i64),aT .str],[bg .str],rH⟩
def ab3:List (Nat×bV):=[(2,⟨[(1,aL),(2,aL),(7,.cell (.ag 1))],[(1,.row (.int .u8) .R)],[.drop,.drop,.drop]⟩),(5,⟨[(1,aL),(2,aL),(7,.cell (.ag 1)),(8,aL)],[(1,.row (.int .u8) .R)],[.drop,.drop,.drop]⟩)]
def ab4(k:Nat→an→Option ((List UInt8)×Unit)):rG:=⟨fun U aa ae=>k 2 (bl [(1,aY U),(2,eT aa),(7,.aS (.ag 1 none))] [(1,.row (.int .u8) .R 0 ae)] [.aC,.aC,.aC]),fun U aa ae ai=>k 5 (bl [(1,aY U),(2,eT aa),(7,.aS (.ag 1 none)),(8,aY ae)] [(1,.row (.int .u8) .R 0 ai)] [.aC,.aC,.aC])⟩
theorem ab5:Sound Tryz.prog 129 0 SE:=cz bk (fn:=Tryz.f129) (fns:=[]) trivial (by kernel_rfl) (by kernel_rfl) ab3 ab4 Q9 m2 (fun k x=>CH k x.1 x.2.1 x.2.2.1) (by kernel_rfl) (fun _=>by kernel_rfl) (fun _=>rfl) (fun _ _=>by kernel_rfl) (fun _=>by kernel_rfl)
def SF:Entry:=⟨[aT af,aT aJ,aT aG],[bg af,bg aV],wm⟩
def ab6:List (Nat×bV):=[(12,⟨[(3,.ptr 1),(5,.ptr 2),(6,.ptr 3),(7,.ptr 5),(9,.ptr 6),(10,aL)],aB 1 af .R []++aB 2 aG .R []++aB 3 af af.own []++aB 5 aV .R []++aB 6 I .R [],[.drop,.drop,.drop]⟩),(23,⟨[(3,.ptr 1),(6,.ptr 2),(7,.ptr 4),(9,.ptr 5)],aB 1 af .R []++aB 2 af af.own []++aB 4 aV .R []++aB 5 I .R [],[.drop,.drop,.drop]⟩)]
def ab7(k:Nat→an→Option (tJ)):tK:=⟨fun U aa ae ai ar aE=>k 12 (bl [(3,ay 1),(5,ay 2),(6,ay 3),(7,ay 5),(9,ay 6),(10,aY U)] (aD 1 af .R [] aa++aD 2 aG .R [] ae++aD 3 af af.own [] ai++aD 5 aV .R [] ar++aD 6 I .R [] aE) [.aC,.aC,.aC]),fun U aa ae ai=>k 23 (bl [(3,ay 1),(6,ay 2),(7,ay 4),(9,ay 5)] (aD 1 af .R [] U++aD 2 af af.own [] aa++aD 4 aV .R [] ae++aD 5 I .R [] ai) [.aC,.aC,.aC])⟩
theorem ab8:Sound Tryz.prog 90 0 SF:=cz bk (fn:=Tryz.f90) (fns:=[(51,uE),(109,r3),(120,pe),(121,wK),(123,wL),(124,uG),(129,SE)]) ⟨wJ,uF,qz,zg,zh,wM,ab5,trivial⟩ (by kernel_rfl) (by kernel_rfl) ab6 ab7 Q_ jS (fun k x=>CI k x.1 x.2.1 x.2.2.1) (by kernel_rfl) (fun _=>by kernel_rfl) (fun _=>rfl) (fun _ _=>by kernel_rfl) (fun _=>by kernel_rfl)
def SG:Entry:=⟨[aT af,aT aJ,aT aG],[bg af,bg aV],rJ⟩
def ab9:List (Nat×bV):=[(8,⟨[(3,.ptr 1),(4,.ptr 2),(5,.ptr 3),(6,.ptr 4),(7,.ptr 6),(8,aL)],aB 1 af .R []++aB 2 aJ .R []++aB 3 aG .R []++aB 4 af af.own []++aB 6 aV .R [],[.drop,.drop,.drop]⟩),(12,⟨[(3,.ptr 1),(4,.ptr 2),(5,.ptr 3),(6,.ptr 4),(7,.ptr 6)],aB 1 af .R []++aB 2 aJ .R []++aB 3 aG .R []++aB 4 af af.own []++aB 6 aV .R [],[.drop,.drop,.drop]⟩),(24,⟨[(3,.ptr 1),(4,.ptr 2),(5,.ptr 3),(6,.ptr 4),(7,.ptr 6),(10,.ptr 7)],aB 1 af .R []++aB 2 aJ .R []++aB 3 aG .R []++aB 4 af af.own []++aB 6 aV .R []++aB 7 I .R [],[.drop,.drop,.drop]⟩),(32,⟨[(3,.ptr 1),(6,.ptr 2),(7,.ptr 4),(10,.ptr 5)],aB 1 af .R []++aB 2 af af.own []++aB 4 aV .R []++aB 5 I .R [],[.drop,.drop,.drop]⟩)]
def ab_(k:Nat→an→Option (n8)):qf:=⟨fun U aa ae ai ar aE=>k 8 (bl [(3,ay 1),(4,ay 2),(5,ay 3),(6,ay 4),(7,ay 6),(8,js U)] (aD 1 af .R [] aa++aD 2 aJ .R [] ae++aD 3 aG .R [] ai++aD 4 af af.own [] ar++aD 6 aV .R [] aE) [.aC,.aC,.aC]),fun U aa ae ai ar=>k 12 (bl [(3,ay 1),(4,ay 2),(5,ay 3),(6,ay 4),(7,ay 6)] (aD 1 af .R [] U++aD 2 aJ .R [] aa++aD 3 aG .R [] ae++aD 4 af af.own [] ai++aD 6 aV .R [] ar) [.aC,.aC,.aC]),fun U aa ae ai ar aE=>k 24 (bl [(3,ay 1),(4,ay 2),(5,ay 3),(6,ay 4),(7,ay 6),(10,ay 7)] (aD 1 af .R [] U++aD 2 aJ .R [] aa++aD 3 aG .R [] ae++aD 4 af af.own [] ai++aD 6 aV .R [] ar++aD 7 I .R [] aE) [.aC,.aC,.aC]),fun U aa ae ai=>k 32 (bl [(3,ay 1),(6,ay 2),(7,ay 4),(10,ay 5)] (aD 1 af .R [] U++aD 2 af af.own [] aa++aD 4 aV .R [] ae++aD 5 I .R [] ai) [.aC,.aC,.aC])⟩
theorem ab':Sound Tryz.prog 91 0 SG:=cz bk (fn:=Tryz.f91) (fns:=[(45,nf),(51,uE),(120,pe),(121,wK),(123,wL),(124,uG),(130,Le)]) ⟨oh,wJ,qz,zg,zh,wM,Sl,trivial⟩ (by kernel_rfl) (by kernel_rfl) ab9 ab_ Ra gW (fun k x=>rI k x.1 x.2.1 x.2.2.1) (by kernel_rfl) (fun _=>by kernel_rfl) (fun _=>rfl) (fun _ _=>by kernel_rfl) (fun _=>by kernel_rfl)
def SH:Entry:=⟨[aT (.int .i64)],[bg .str],gX⟩
def aca:List (Nat×bV):=[(5,⟨[(0,aL),(3,aL),(4,aL)],[],[.drop]⟩)]
def acb(k:Nat→an→Option ((List UInt8)×Unit)):CJ:=fun U aa ae=>k 5 (bl [(0,aY U),(3,eT aa),(4,js ae)] [] [.aC])
theorem acd:Sound Tryz.prog 131 0 SH:=cz bk (fn:=Tryz.f131) (fns:=[]) trivial (by kernel_rfl) (by kernel_rfl) aca acb yO o8 (fun k x=>Rb k x.1) (by kernel_rfl) (fun _=>by kernel_rfl) (fun _=>rfl) (fun _ _=>by kernel_rfl) (fun _=>by kernel_rfl)
def SI:Entry:=⟨[aT af,aT (.int .i64)],[bg (.int .i64)],CN⟩
def ace:List (Nat×bV):=[(8,⟨[(2,.ptr 1),(5,aL),(6,aL),(7,aL)],aB 1 af .R [],[.drop,.drop]⟩)]
def acf(k:Nat→an→Option (Int×Unit)):CK:=fun U aa ae ai=>k 8 (bl [(2,ay 1),(5,aY U),(6,aY aa),(7,aY ae)] (aD 1 af .R [] ai) [.aC,.aC])
theorem acg:Sound Tryz.prog 132 0 SI:=cz bk (fn:=Tryz.f132) (fns:=[(48,EO),(83,pd),(127,Lr)]) ⟨Lp,qy,SA,trivial⟩ (by kernel_rfl) (by kernel_rfl) ace acf CM tL (fun k x=>CL k x.1 x.2.1) (by kernel_rfl) (fun _=>by kernel_rfl) (fun _=>rfl) (fun _ _=>by kernel_rfl) (fun _=>by kernel_rfl)
def SJ:Entry:=⟨[aT af,aT aJ,aT aG],[bg aV],lx⟩
def ach:List (Nat×bV):=[(5,⟨[(3,.ptr 1),(4,.ptr 2),(5,.ptr 3),(6,.ptr 4)],aB 1 af .R []++aB 2 aJ .R []++aB 3 aG .R []++aB 4 aV .R [],[.drop,.drop,.drop]⟩),(6,⟨[(3,.ptr 1),(4,.ptr 2),(5,.ptr 3),(6,.ptr 4),(7,.ptr 5)],aB 1 af .R []++aB 2 aJ .R []++aB 3 aG .R []++aB 4 aV .R []++aB 5 aW .R [],[.drop,.drop,.drop]⟩),(20,⟨[(5,.ptr 1),(6,.ptr 2),(8,.ptr 3),(10,.cell (.ag 4)),(11,aL)],aB 1 aG .R []++aB 2 aV .R []++aB 3 I .R []++[(4,.row (.int .u8) .R)],[.drop,.drop,.drop]⟩),(35,⟨[(6,.ptr 1),(8,.ptr 2),(12,aL),(13,aL)],aB 1 aV .R []++aB 2 I .R [],[.drop,.drop,.drop]⟩),(39,⟨[(6,.ptr 1),(8,.ptr 2),(12,aL),(13,aL)],aB 1 aV .R []++aB 2 I .R [],[.drop,.drop,.drop]⟩)]
def aci(k:Nat→an→Option (aV.D×Unit)):m4:=⟨fun U aa ae ai=>k 5 (bl [(3,ay 1),(4,ay 2),(5,ay 3),(6,ay 4)] (aD 1 af .R [] U++aD 2 aJ .R [] aa++aD 3 aG .R [] ae++aD 4 aV .R [] ai) [.aC,.aC,.aC]),fun U aa ae ai ar=>k 6 (bl [(3,ay 1),(4,ay 2),(5,ay 3),(6,ay 4),(7,ay 5)] (aD 1 af .R [] U++aD 2 aJ .R [] aa++aD 3 aG .R [] ae++aD 4 aV .R [] ai++aD 5 aW .R [] ar) [.aC,.aC,.aC]),fun U aa ae ai ar=>k 20 (bl [(5,ay 1),(6,ay 2),(8,ay 3),(10,.aS (.ag 4 none)),(11,aY U)] (aD 1 aG .R [] aa++aD 2 aV .R [] ae++aD 3 I .R [] ai++[(4,.row (.int .u8) .R 0 ar)]) [.aC,.aC,.aC]),fun U aa ae ai=>k 35 (bl [(6,ay 1),(8,ay 2),(12,eT U),(13,aY aa)] (aD 1 aV .R [] ae++aD 2 I .R [] ai) [.aC,.aC,.aC]),fun U aa ae ai=>k 39 (bl [(6,ay 1),(8,ay 2),(12,eT U),(13,aY aa)] (aD 1 aV .R [] ae++aD 2 I .R [] ai) [.aC,.aC,.aC])⟩
theorem acj:Sound Tryz.prog 92 0 SJ:=cz bk (fn:=Tryz.f92) (fns:=[(45,nf),(49,EM),(84,Ll),(109,r3),(120,pe),(124,uG),(131,SH),(132,SI)]) ⟨oh,Lj,St,uF,qz,wM,acd,acg,trivial⟩ (by kernel_rfl) (by kernel_rfl) ach aci Rc fk (fun k x=>qg k x.1 x.2.1 x.2.2.1) (by kernel_rfl) (fun _=>by kernel_rfl) (fun _=>rfl) (fun _ _=>by kernel_rfl) (fun _=>by kernel_rfl)
def SK:Entry:=⟨[BN af,BN aJ,aT aG],[bg af,bg aV],m6⟩
def ack:List (Nat×bV):=[(8,⟨[(3,.ptr 1),(4,.ptr 2),(5,.ptr 3),(6,.ptr 4),(7,.ptr 6),(19,aL)],aB 1 af .R []++aB 2 aJ .R []++aB 3 aG .R []++aB 4 af af.own []++aB 6 aV .R [],[.drop,.drop,.drop]⟩),(11,⟨[(3,.ptr 1),(4,.ptr 2),(5,.ptr 3),(6,.ptr 4),(7,.ptr 6),(19,aL)],aB 1 af .R []++aB 2 aJ .R []++aB 3 aG .R []++aB 4 af af.own []++aB 6 aV .R [],[.drop,.drop,.drop]⟩),(19,⟨[(3,.ptr 1),(4,.ptr 2),(5,.ptr 3),(6,.ptr 4),(7,.ptr 6),(19,aL)],aB 1 af .R []++aB 2 aJ .R []++aB 3 aG .R []++aB 4 af af.own []++aB 6 aV .R [],[.drop,.drop,.drop]⟩)]
def acm(k:Nat→an→Option (qh)):rM:=⟨fun U aa ae ai ar aE=>k 8 (bl [(3,ay 1),(4,ay 2),(5,ay 3),(6,ay 4),(7,ay 6),(19,aY U)] (aD 1 af .R [] aa++aD 2 aJ .R [] ae++aD 3 aG .R [] ai++aD 4 af af.own [] ar++aD 6 aV .R [] aE) [.aC,.aC,.aC]),fun U aa ae ai ar aE=>k 11 (bl [(3,ay 1),(4,ay 2),(5,ay 3),(6,ay 4),(7,ay 6),(19,aY U)] (aD 1 af .R [] aa++aD 2 aJ .R [] ae++aD 3 aG .R [] ai++aD 4 af af.own [] ar++aD 6 aV .R [] aE) [.aC,.aC,.aC]),fun U aa ae ai ar aE=>k 19 (bl [(3,ay 1),(4,ay 2),(5,ay 3),(6,ay 4),(7,ay 6),(19,aY U)] (aD 1 af .R [] aa++aD 2 aJ .R [] ae++aD 3 aG .R [] ai++aD 4 af af.own [] ar++aD 6 aV .R [] aE) [.aC,.aC,.aC])⟩
theorem acn:Sound Tryz.prog 52 0 SK:=cz bk (fn:=Tryz.f52) (fns:=[(85,Sj),(86,Sw),(87,Sz),(88,SB),(89,SD),(90,SF),(91,SG),(92,SJ)]) ⟨abf,abO,abV,abW,ab2,ab8,ab',acj,trivial⟩ (by kernel_rfl) (by kernel_rfl) ack acm Rd yP (fun k x=>rN k x.1 x.2.1 x.2.2.1) (by kernel_rfl) (fun _=>by kernel_rfl) (fun _=>rfl) (fun _ _=>by kernel_rfl) (fun _=>by kernel_rfl)
def zi:Entry:=⟨[.«mut» bm .R .R,sw (.sl (.int .i64))],[bg (.int .i64)],iG⟩
theorem EP:Sound Tryz.prog 77 0 zi:=cF bk (fn:=Tryz.f77) (fns:=[(76,nd)]) ⟨og,trivial⟩ (by kernel_rfl) (by kernel_rfl) fun _=>by kernel_rfl
def Ls:Entry:=⟨[.«mut» bm .R .R],[ro aJ],yQ⟩
theorem SL:Sound Tryz.prog 79 0 Ls:=cF bk (fn:=Tryz.f79) (fns:=[(76,nd)]) ⟨og,trivial⟩ (by kernel_rfl) (by kernel_rfl) fun _=>by kernel_rfl
def SM:Entry:=⟨[.«mut» bm .R .R,aT (.int .i64)],[bg .str],yS⟩
def aco:List (Nat×bV):=[(4,⟨[(0,.ptr 1),(5,.cell (.ag 2)),(6,aL),(7,aL)],aB 1 bm .R []++[(2,.row (.int .u8) .R)],[.ptr 1,.drop]⟩),(11,⟨[(0,.ptr 1),(5,.cell (.ag 2)),(6,aL),(7,aL),(8,aL)],aB 1 bm .R []++[(2,.row (.int .u8) .R)],[.ptr 1,.drop]⟩)]
def acp(k:Nat→an→Option (tM)):tN:=⟨fun U aa ae ai=>k 4 (bl [(0,ay 1),(5,.aS (.ag 2 none)),(6,aY U),(7,aY aa)] (aD 1 bm .R [] ae++[(2,.row (.int .u8) .R 0 ai)]) [ay 1,.aC]),fun U aa ae ai ar=>k 11 (bl [(0,ay 1),(5,.aS (.ag 2 none)),(6,aY U),(7,aY aa),(8,aY ae)] (aD 1 bm .R [] ai++[(2,.row (.int .u8) .R 0 ar)]) [ay 1,.aC])⟩
theorem acq:Sound Tryz.prog 58 0 SM:=cz bk (fn:=Tryz.f58) (fns:=[(76,nd),(105,La)]) ⟨og,Sf,trivial⟩ (by kernel_rfl) (by kernel_rfl) aco acp Rg rO (fun k x=>CR k x.1 x.2.1) (by kernel_rfl) (fun _=>by kernel_rfl) (fun _=>rfl) (fun _ _=>by kernel_rfl) (fun _=>by kernel_rfl)
def zj:Entry:=⟨[.«mut» bm .R .R,sw (.sl .str)],[bg .str],qi⟩
theorem ER:Sound Tryz.prog 78 0 zj:=cF bk (fn:=Tryz.f78) (fns:=[(76,nd)]) ⟨og,trivial⟩ (by kernel_rfl) (by kernel_rfl) fun _=>by kernel_rfl
def Lt:Entry:=⟨[.«mut» bm .R .R],[bg .str],wo⟩
theorem SN:Sound Tryz.prog 106 0 Lt:=cF bk (fn:=Tryz.f106) (fns:=[(78,zj)]) ⟨ER,trivial⟩ (by kernel_rfl) (by kernel_rfl) fun _=>by kernel_rfl
def Lu:Entry:=⟨[.«mut» bm .R .R],[bg .str],CT⟩
def acr:List (Nat×bV):=[(3,⟨[(0,.ptr 1),(3,aL),(4,aL)],aB 1 bm .R [],[.ptr 1]⟩),(16,⟨[(0,.ptr 1),(3,aL)],aB 1 bm .R [],[.ptr 1]⟩),(17,⟨[(0,.ptr 1),(3,aL)],aB 1 bm .R [],[.ptr 1]⟩)]
def acs(k:Nat→an→Option (qj)):rP:=⟨fun U aa ae=>k 3 (bl [(0,ay 1),(3,eT U),(4,aY aa)] (aD 1 bm .R [] ae) [ay 1]),fun U aa=>k 16 (bl [(0,ay 1),(3,eT U)] (aD 1 bm .R [] aa) [ay 1]),fun U aa=>k 17 (bl [(0,ay 1),(3,eT U)] (aD 1 bm .R [] aa) [ay 1])⟩
theorem SO:Sound Tryz.prog 80 0 Lu:=cz bk (fn:=Tryz.f80) (fns:=[(63,wI),(76,nd),(78,zj),(106,Lt)]) ⟨zf,og,ER,SN,trivial⟩ (by kernel_rfl) (by kernel_rfl) acr acs Rj oa (fun k x=>CS k x.1) (by kernel_rfl) (fun _=>by kernel_rfl) (fun _=>rfl) (fun _ _=>by kernel_rfl) (fun _=>by kernel_rfl)
def SP:Entry:=⟨[.«mut» bm .R .R,aT af],[bg .str],wu⟩
def acu:List (Nat×bV):=[(6,⟨[(0,.ptr 1),(3,.ptr 2),(5,aL),(6,aL),(7,aL)],aB 1 bm .R []++aB 2 af .R [],[.ptr 1,.drop]⟩)]
def acv(k:Nat→an→Option (yU)):CU:=fun U aa ae ai ar=>k 6 (bl [(0,ay 1),(3,ay 2),(5,eT U),(6,aY aa),(7,aY ae)] (aD 1 bm .R [] ai++aD 2 af .R [] ar) [ay 1,.aC])
theorem acw:Sound Tryz.prog 62 0 SP:=cz bk (fn:=Tryz.f62) (fns:=[(63,wI),(76,nd),(80,Lu),(83,pd),(106,Lt)]) ⟨zf,og,SO,qy,SN,trivial⟩ (by kernel_rfl) (by kernel_rfl) acu acv wq tO (fun k x=>CV k x.1 x.2.1) (by kernel_rfl) (fun _=>by kernel_rfl) (fun _=>rfl) (fun _ _=>by kernel_rfl) (fun _=>by kernel_rfl)
def Lv:Entry:=⟨[.«mut» bm .R .R,aT af],[bg aG],CX⟩
def acx:List (Nat×bV):=[(2,⟨[(0,.ptr 1),(3,.ptr 2),(4,.ptr 3),(5,.ptr 4)],aB 1 bm .R []++aB 2 af .R []++aB 3 aG .R []++aB 4 aG .R [],[.ptr 1,.drop]⟩),(6,⟨[(0,.ptr 1),(4,.ptr 2),(5,.ptr 3)],aB 1 bm .R []++aB 2 aG .R []++aB 3 aG .R [],[.ptr 1,.drop]⟩),(7,⟨[(0,.ptr 1),(3,.ptr 2),(4,.ptr 3),(5,.ptr 4),(14,aL)],aB 1 bm .R []++aB 2 af .R []++aB 3 aG .R []++aB 4 aG .R [],[.ptr 1,.drop]⟩),(32,⟨[(0,.ptr 1),(4,.ptr 2),(5,.ptr 3)],aB 1 bm .R []++aB 2 aG .R []++aB 3 aG .R [],[.ptr 1,.drop]⟩),(19,⟨[(0,.ptr 1),(3,.ptr 2),(4,.ptr 3),(5,.ptr 4)],aB 1 bm .R []++aB 2 af .R []++aB 3 aG .R []++aB 4 aG .R [],[.ptr 1,.drop]⟩),(20,⟨[(0,.ptr 1),(4,.ptr 2),(5,.ptr 3),(14,aL)],aB 1 bm .R []++aB 2 aG .R []++aB 3 aG .R [],[.ptr 1,.drop]⟩)]
def acy(k:Nat→an→Option (kD)):ob:=⟨fun U aa ae ai=>k 2 (bl [(0,ay 1),(3,ay 2),(4,ay 3),(5,ay 4)] (aD 1 bm .R [] U++aD 2 af .R [] aa++aD 3 aG .R [] ae++aD 4 aG .R [] ai) [ay 1,.aC]),fun U aa ae=>k 6 (bl [(0,ay 1),(4,ay 2),(5,ay 3)] (aD 1 bm .R [] U++aD 2 aG .R [] aa++aD 3 aG .R [] ae) [ay 1,.aC]),fun U aa ae ai ar=>k 7 (bl [(0,ay 1),(3,ay 2),(4,ay 3),(5,ay 4),(14,aY U)] (aD 1 bm .R [] aa++aD 2 af .R [] ae++aD 3 aG .R [] ai++aD 4 aG .R [] ar) [ay 1,.aC]),fun U aa ae=>k 32 (bl [(0,ay 1),(4,ay 2),(5,ay 3)] (aD 1 bm .R [] U++aD 2 aG .R [] aa++aD 3 aG .R [] ae) [ay 1,.aC]),fun U aa ae ai=>k 19 (bl [(0,ay 1),(3,ay 2),(4,ay 3),(5,ay 4)] (aD 1 bm .R [] U++aD 2 af .R [] aa++aD 3 aG .R [] ae++aD 4 aG .R [] ai) [ay 1,.aC]),fun U aa ae ai=>k 20 (bl [(0,ay 1),(4,ay 2),(5,ay 3),(14,aY U)] (aD 1 bm .R [] aa++aD 2 aG .R [] ae++aD 3 aG .R [] ai) [ay 1,.aC])⟩
theorem SQ:Sound Tryz.prog 44 0 Lv:=cz bk (fn:=Tryz.f44) (fns:=[(58,SM),(62,SP),(63,wI),(76,nd),(77,zi),(78,zj),(80,Lu)]) ⟨acq,acw,zf,og,EP,ER,SO,trivial⟩ (by kernel_rfl) (by kernel_rfl) acx acy Rk kE (fun k x=>CW k x.1 x.2.1) (by kernel_rfl) (fun _=>by kernel_rfl) (fun _=>rfl) (fun _ _=>by kernel_rfl) (fun _=>by kernel_rfl)
def SR:Entry:=⟨[.«mut» bm .R .R],[bg aG],CY⟩
theorem acz:Sound Tryz.prog 118 0 SR:=cF bk (fn:=Tryz.f118) (fns:=[(44,Lv),(12,Sh)]) ⟨SQ,aa9,trivial⟩ (by kernel_rfl) (by kernel_rfl) fun _=>by kernel_rfl
def SS:Entry:=⟨[.«mut» bm .R .R,aT (.int .i64)],[ro af],JN⟩
def acA:List (Nat×bV):=[(5,⟨[(0,.ptr 1),(4,.ptr 2),(5,.ptr 4),(6,aL)],aB 1 bm .R []++aB 2 af af.own []++aB 4 af .R [],[.ptr 1,.drop]⟩)]
def acB(k:Nat→an→Option (wv)):yV:=fun U aa ae ai=>k 5 (bl [(0,ay 1),(4,ay 2),(5,ay 4),(6,aY U)] (aD 1 bm .R [] aa++aD 2 af af.own [] ae++aD 4 af .R [] ai) [ay 1,.aC])
theorem acC:Sound Tryz.prog 75 0 SS:=cz bk (fn:=Tryz.f75) (fns:=[(12,Sg),(52,SK),(76,nd),(77,zi),(79,Ls),(118,SR),(51,Si)]) ⟨aa8,acn,og,EP,SL,acz,abc,trivial⟩ (by kernel_rfl) (by kernel_rfl) acA acB wx tP (fun k x=>CZ k x.1 x.2.1) (by kernel_rfl) (fun _=>by kernel_rfl) (fun _=>rfl) (fun _ _=>by kernel_rfl) (fun _=>by kernel_rfl)
def SU:Entry:=⟨[.«mut» bm .R .R,aT (.int .i64)],[ro af],JP⟩
theorem acD:Sound Tryz.prog 41 0 SU:=cF bk (fn:=Tryz.f41) (fns:=[(63,wI),(75,SS),(76,nd),(77,zi),(78,zj)]) ⟨zf,acC,og,EP,ER,trivial⟩ (by kernel_rfl) (by kernel_rfl) fun _=>by kernel_rfl
def SV:Entry:=⟨[aT (.sl (.int .u8)),aT (.int .i64)],[bg (.int .i64)],JR⟩
theorem acE:Sound Tryz.prog 42 0 SV:=cF bk (fn:=Tryz.f42) (fns:=[]) trivial (by kernel_rfl) (by kernel_rfl) fun _=>by kernel_rfl
def SW:Entry:=⟨[.«mut» bm .R .R],[ro aJ],JT⟩
theorem acF:Sound Tryz.prog 43 0 SW:=cF bk (fn:=Tryz.f43) (fns:=[(63,wI),(76,nd),(77,zi),(79,Ls)]) ⟨zf,og,EP,SL,trivial⟩ (by kernel_rfl) (by kernel_rfl) fun _=>by kernel_rfl
def SX:Entry:=⟨[aT (.sl (.int .u8))],[ro af,ro aJ,bg aG],JV⟩
theorem acG:Sound Tryz.prog 10 0 SX:=cF bk (fn:=Tryz.f10) (fns:=[(40,Se),(41,SU),(42,SV),(43,SW),(44,Lv)]) ⟨aa7,acD,acE,acF,SQ,trivial⟩ (by kernel_rfl) (by kernel_rfl) fun _=>by kernel_rfl
def SY:Entry:=⟨[aT .str],[bg .bool],JW⟩
def acH:List (Nat×bV):=[(4,⟨[(0,aL),(3,aL)],[],[.drop]⟩)]
def acI(k:Nat→an→Option (Bool×Unit)):C2:=fun U aa=>k 4 (bl [(0,eT U),(3,aY aa)] [] [.aC])
theorem acJ:Sound Tryz.prog 82 0 SY:=cz bk (fn:=Tryz.f82) (fns:=[(45,nf),(107,EK)]) ⟨oh,Lb,trivial⟩ (by kernel_rfl) (by kernel_rfl) acH acI C4 rQ (fun k x=>C3 k x.1) (by kernel_rfl) (fun _=>by kernel_rfl) (fun _=>rfl) (fun _ _=>by kernel_rfl) (fun _=>by kernel_rfl)
def SZ:Entry:=⟨[aT af,aT I],[bg .bool],C6⟩
def acK:List (Nat×bV):=[(4,⟨[(2,.ptr 1),(3,.ptr 2),(5,aL)],aB 1 af .R []++aB 2 I .R [],[.drop,.drop]⟩),(13,⟨[(2,.ptr 1),(3,.ptr 2),(6,aL)],aB 1 af .R []++aB 2 I .R [],[.drop,.drop]⟩)]
def acL(k:Nat→an→Option (Bool×Unit)):tQ:=⟨fun U aa ae=>k 4 (bl [(2,ay 1),(3,ay 2),(5,js U)] (aD 1 af .R [] aa++aD 2 I .R [] ae) [.aC,.aC]),fun U aa ae=>k 13 (bl [(2,ay 1),(3,ay 2),(6,aY U)] (aD 1 af .R [] aa++aD 2 I .R [] ae) [.aC,.aC])⟩
theorem acM:Sound Tryz.prog 46 0 SZ:=cz bk (fn:=Tryz.f46) (fns:=[(45,nf),(81,Lc),(82,SY),(83,pd)]) ⟨oh,Sk,acJ,qy,trivial⟩ (by kernel_rfl) (by kernel_rfl) acK acL Rp qk (fun k x=>C5 k x.1 x.2.1) (by kernel_rfl) (fun _=>by kernel_rfl) (fun _=>rfl) (fun _ _=>by kernel_rfl) (fun _=>by kernel_rfl)
def S0:Entry:=⟨[aT af],[bg .bool],yX⟩
def acN:List (Nat×bV):=[(4,⟨[(1,.ptr 1),(3,aL)],aB 1 af .R [],[.drop]⟩),(11,⟨[(1,.ptr 1),(5,.cell (.ag 2)),(6,aL)],aB 1 af .R []++[(2,.row .bool .R)],[.drop]⟩)]
def acO(k:Nat→an→Option (Bool×Unit)):tT:=⟨fun U aa=>k 4 (bl [(1,ay 1),(3,aY U)] (aD 1 af .R [] aa) [.aC]),fun U aa ae=>k 11 (bl [(1,ay 1),(5,.aS (.ag 2 none)),(6,aY U)] (aD 1 af .R [] aa++[(2,.row .bool .R 0 ae)]) [.aC])⟩
theorem acP:Sound Tryz.prog 11 0 S0:=cz bk (fn:=Tryz.f11) (fns:=[(45,nf),(46,SZ),(47,Lk),(48,EO),(49,EM),(50,Lm)]) ⟨oh,acM,Ss,Lp,Lj,Su,trivial⟩ (by kernel_rfl) (by kernel_rfl) acN acO Rq m7 (fun k x=>C7 k x.1) (by kernel_rfl) (fun _=>by kernel_rfl) (fun _=>rfl) (fun _ _=>by kernel_rfl) (fun _=>by kernel_rfl)
def kh:Entry:=⟨[aT (.int .i64),aT (.int .i64),aT (.int .i64)],[bg .bool],eG⟩
theorem kH:Sound Tryz.prog 93 0 kh:=cF bk (fn:=Tryz.f93) (fns:=[]) trivial (by kernel_rfl) (by kernel_rfl) fun _=>by kernel_rfl
def Lw:Entry:=⟨[aT (.int .u8)],[bg .bool],C8⟩
theorem S1:Sound Tryz.prog 157 0 Lw:=cF bk (fn:=Tryz.f157) (fns:=[]) trivial (by kernel_rfl) (by kernel_rfl) fun _=>by kernel_rfl
def ES:Entry:=⟨[aT .str],[bg .bool],wy⟩
def acQ:List (Nat×bV):=[(2,⟨[(0,aL),(5,aL),(6,aL)],[],[.drop]⟩)]
def acR(k:Nat→an→Option (Bool×Unit)):C9:=fun U aa ae=>k 2 (bl [(0,eT U),(5,aY aa),(6,aY ae)] [] [.aC])
theorem Lx:Sound Tryz.prog 133 0 ES:=cz bk (fn:=Tryz.f133) (fns:=[(93,kh),(157,Lw)]) ⟨kH,S1,trivial⟩ (by kernel_rfl) (by kernel_rfl) acQ acR C' tW (fun k x=>C_ k x.1) (by kernel_rfl) (fun _=>by kernel_rfl) (fun _=>rfl) (fun _ _=>by kernel_rfl) (fun _=>by kernel_rfl)
def mh:Entry:=⟨[fQ af,aT (.int .i64)],[.oz I],fl⟩
def acS:List (Nat×bV):=[(2,⟨[(0,.dd [] (rA af .R [] 0)),(1,aL),(10,aL),(11,aL)],[],[.drop,.drop]⟩)]
def acT(k:Nat→an→Option (yY)):Da:=fun U aa ae ai=>k 2 (bl [(0,.dd (o1 []) (aS af .R [] U 0) 0),(1,aY aa),(10,aY ae),(11,aY ai)] [] [.aC,.aC])
theorem ng:Sound Tryz.prog 56 0 mh:=cz bk (fn:=Tryz.f56) (fns:=[]) trivial (by kernel_rfl) (by kernel_rfl) acS acT Dc tX (fun k x=>Db k x.1 x.2.1) (by kernel_rfl) (fun _=>by kernel_rfl) (fun _=>rfl) (fun _ _=>by kernel_rfl) (fun _=>by kernel_rfl)
def ET:Entry:=⟨[aai af,aT (.int .i64)],[.opt 0 1 I],wz⟩
def acU:List (Nat×bV):=[(2,⟨[(0,.ptr 1),(1,aL),(10,aL),(11,aL)],aB 1 af af.own [],[.ptr 1,.drop]⟩)]
def acV(k:Nat→an→Option (Int×af.D×Unit)):Dd:=fun U aa ae ai=>k 2 (bl [(0,ay 1),(1,aY U),(10,aY aa),(11,aY ae)] (aD 1 af af.own [] ai) [ay 1,.aC])
theorem Ly:Sound Tryz.prog 56 0 ET:=cz bk (fn:=Tryz.f56) (fns:=[]) trivial (by kernel_rfl) (by kernel_rfl) acU acV Df tY (fun k x=>De k x.1 x.2.1) (by kernel_rfl) (fun _=>by kernel_rfl) (fun _=>rfl) (fun _ _=>by kernel_rfl) (fun _=>by kernel_rfl)
def S2:Entry:=⟨[aT .str],[bg .bool],JZ⟩
def acW:List (Nat×bV):=[(2,⟨[(0,aL),(5,aL),(6,aL)],[],[.drop]⟩)]
def acX(k:Nat→an→Option (Bool×Unit)):Dg:=fun U aa ae=>k 2 (bl [(0,eT U),(5,aY aa),(6,aY ae)] [] [.aC])
theorem acY:Sound Tryz.prog 158 0 S2:=cz bk (fn:=Tryz.f158) (fns:=[(93,kh),(157,Lw)]) ⟨kH,S1,trivial⟩ (by kernel_rfl) (by kernel_rfl) acW acX Di tZ (fun k x=>Dh k x.1) (by kernel_rfl) (fun _=>by kernel_rfl) (fun _=>rfl) (fun _ _=>by kernel_rfl) (fun _=>by kernel_rfl)
def S3:Entry:=⟨[fQ af,aT I],[bg .bool],J0⟩
def acZ:List (Nat×bV):=[(2,⟨[(0,.dd [] (rA af .R [] 0)),(3,.ptr 1),(8,.cell (.bY aw [])),(9,aL),(10,aL)],aB 1 I .R [],[.drop,.drop]⟩)]
def ac0(k:Nat→an→Option (Bool×Unit)):Dj:=fun U aa ae ai ar=>k 2 (bl [(0,.dd (o1 []) (aS af .R [] U 0) 0),(3,ay 1),(8,hy aw aa),(9,aY ae),(10,aY ai)] (aD 1 I .R [] ar) [.aC,.aC])
theorem ac1:Sound Tryz.prog 134 0 S3:=cz bk (fn:=Tryz.f134) (fns:=[(56,mh),(158,S2)]) ⟨ng,acY,trivial⟩ (by kernel_rfl) (by kernel_rfl) acZ ac0 Dl t_ (fun k x=>Dk k x.1 x.2.1) (by kernel_rfl) (fun _=>by kernel_rfl) (fun _=>rfl) (fun _ _=>by kernel_rfl) (fun _=>by kernel_rfl)
def S4:Entry:=⟨[fQ af,aT I],[bg .bool],Dp⟩
def ac2:List (Nat×bV):=[(5,⟨[(0,.dd [] (rA af .R [] 0)),(3,.ptr 1)],aB 1 I .R [],[.drop,.drop]⟩)]
def ac3(k:Nat→an→Option (Bool×Unit)):Dm:=fun U aa=>k 5 (bl [(0,.dd (o1 []) (aS af .R [] U 0) 0),(3,ay 1)] (aD 1 I .R [] aa) [.aC,.aC])
theorem ac4:Sound Tryz.prog 94 0 S4:=cz bk (fn:=Tryz.f94) (fns:=[(93,kh),(133,ES),(134,S3)]) ⟨kH,Lx,ac1,trivial⟩ (by kernel_rfl) (by kernel_rfl) ac2 ac3 J1 yZ (fun k x=>Dn k x.1 x.2.1) (by kernel_rfl) (fun _=>by kernel_rfl) (fun _=>rfl) (fun _ _=>by kernel_rfl) (fun _=>by kernel_rfl)
def S5:Entry:=⟨[aT (.sl (.int .i64)),aT (.int .i64)],[bg (.int .i64)],J2⟩
def ac5:List (Nat×bV):=[(2,⟨[(0,.cell (.bY (.int .i64) [])),(1,aL),(7,aL),(8,aL)],[],[.drop,.drop]⟩)]
def ac6(k:Nat→an→Option (Int×Unit)):Dq:=fun U aa ae ai=>k 2 (bl [(0,hy (.int .i64) U),(1,aY aa),(7,aY ae),(8,aY ai)] [] [.aC,.aC])
theorem ac7:Sound Tryz.prog 135 0 S5:=cz bk (fn:=Tryz.f135) (fns:=[]) trivial (by kernel_rfl) (by kernel_rfl) ac5 ac6 Ds t' (fun k x=>Dr k x.1 x.2.1) (by kernel_rfl) (fun _=>by kernel_rfl) (fun _=>rfl) (fun _ _=>by kernel_rfl) (fun _=>by kernel_rfl)
def zk:Entry:=⟨[aT (.sl (.int .i64)),aT (.int .i64)],[bg .bool],rR⟩
theorem EU:Sound Tryz.prog 96 0 zk:=cF bk (fn:=Tryz.f96) (fns:=[(135,S5)]) ⟨ac7,trivial⟩ (by kernel_rfl) (by kernel_rfl) fun _=>by kernel_rfl
def EV:Entry:=⟨[fQ af,aT (.int .i64)],[ro (.sl (.int .i64))],ub⟩
def ac8:List (Nat×bV):=[(4,⟨[(0,.dd [] (rA af .R [] 0)),(5,.cell (.ag 1)),(6,.cell (.ag 2)),(7,aL)],[(1,.row (.int .i64) .R),(2,.row (.int .i64) .R)],[.drop,.drop]⟩),(9,⟨[(0,.dd [] (rA af .R [] 0)),(5,.cell (.ag 1)),(6,.cell (.ag 2)),(7,aL),(31,.cell (.bY aw [])),(32,aL),(33,aL)],[(1,.row (.int .i64) .R),(2,.row (.int .i64) .R)],[.drop,.drop]⟩)]
def ac9(k:Nat→an→Option ((List Int)×Unit)):ua:=⟨fun U aa ae ai=>k 4 (bl [(0,.dd (o1 []) (aS af .R [] U 0) 0),(5,.aS (.ag 1 none)),(6,.aS (.ag 2 none)),(7,aY aa)] [(1,.row (.int .i64) .R 0 ae),(2,.row (.int .i64) .R 0 ai)] [.aC,.aC]),fun U aa ae ai ar aE bn=>k 9 (bl [(0,.dd (o1 []) (aS af .R [] U 0) 0),(5,.aS (.ag 1 none)),(6,.aS (.ag 2 none)),(7,aY aa),(31,hy aw ae),(32,aY ai),(33,aY ar)] [(1,.row (.int .i64) .R 0 aE),(2,.row (.int .i64) .R 0 bn)] [.aC,.aC])⟩
theorem LA:Sound Tryz.prog 95 0 EV:=cz bk (fn:=Tryz.f95) (fns:=[(56,mh),(96,zk)]) ⟨ng,EU,trivial⟩ (by kernel_rfl) (by kernel_rfl) ac8 ac9 Rs me (fun k x=>Dt k x.1 x.2.1) (by kernel_rfl) (fun _=>by kernel_rfl) (fun _=>rfl) (fun _ _=>by kernel_rfl) (fun _=>by kernel_rfl)
def EW:Entry:=⟨[fQ af,aT (.int .i64)],[bg (.int .i64)],wA⟩
def ac_:List (Nat×bV):=[(3,⟨[(1,aL),(5,aL),(13,.cell (.bY I [])),(14,aL),(15,aL)],[],[.drop,.drop]⟩),(6,⟨[(1,aL),(5,aL),(13,.cell (.bY I [])),(14,aL),(15,aL),(20,.cell (.bY aw [])),(21,aL),(22,aL)],[],[.drop,.drop]⟩)]
def ac'(k:Nat→an→Option (Int×Unit)):uc:=⟨fun U aa ae ai ar=>k 3 (bl [(1,aY U),(5,aY aa),(13,hy I ae),(14,aY ai),(15,aY ar)] [] [.aC,.aC]),fun U aa ae ai ar aE bn bT=>k 6 (bl [(1,aY U),(5,aY aa),(13,hy I ae),(14,aY ai),(15,aY ar),(20,hy aw aE),(21,aY bn),(22,aY bT)] [] [.aC,.aC])⟩
theorem LB:Sound Tryz.prog 97 0 EW:=cz bk (fn:=Tryz.f97) (fns:=[]) trivial (by kernel_rfl) (by kernel_rfl) ac_ ac' Rt o_ (fun k x=>Du k x.1 x.2.1) (by kernel_rfl) (fun _=>by kernel_rfl) (fun _=>rfl) (fun _ _=>by kernel_rfl) (fun _=>by kernel_rfl)
def EX:Entry:=⟨[fQ af],[bg (.int .i64)],rS⟩
def ada:List (Nat×bV):=[(3,⟨[(3,aL),(9,.cell (.bY I [])),(10,aL),(11,aL)],[],[.drop]⟩)]
def adb(k:Nat→an→Option (Int×Unit)):Dv:=fun U aa ae ai=>k 3 (bl [(3,aY U),(9,hy I aa),(10,aY ae),(11,aY ai)] [] [.aC])
theorem LC:Sound Tryz.prog 98 0 EX:=cz bk (fn:=Tryz.f98) (fns:=[]) trivial (by kernel_rfl) (by kernel_rfl) ada adb Dx ud (fun k x=>Dw k x.1) (by kernel_rfl) (fun _=>by kernel_rfl) (fun _=>rfl) (fun _ _=>by kernel_rfl) (fun _=>by kernel_rfl)
def EY:Entry:=⟨[fQ af,aT (.int .i64)],[bg (.int .i64),bg (.int .i64)],wB⟩
def ade:List (Nat×bV):=[(4,⟨[(0,.dd [] (rA af .R [] 0)),(6,aL),(7,.cell (.ag 1)),(14,.cell (.ag 1)),(15,aL),(16,aL)],[(1,.row (.int .i64) .R)],[.drop,.drop]⟩)]
def adf(k:Nat→an→Option (Int×Int×Unit)):Dy:=fun U aa ae ai ar=>k 4 (bl [(0,.dd (o1 []) (aS af .R [] U 0) 0),(6,aY aa),(7,.aS (.ag 1 none)),(14,.aS (.ag 1 none)),(15,aY ae),(16,aY ai)] [(1,.row (.int .i64) .R 0 ar)] [.aC,.aC])
theorem LD:Sound Tryz.prog 60 0 EY:=cz bk (fn:=Tryz.f60) (fns:=[(56,mh),(95,EV)]) ⟨ng,LA,trivial⟩ (by kernel_rfl) (by kernel_rfl) ade adf DA qm (fun k x=>Dz k x.1 x.2.1) (by kernel_rfl) (fun _=>by kernel_rfl) (fun _=>rfl) (fun _ _=>by kernel_rfl) (fun _=>by kernel_rfl)
def S6:Entry:=⟨[fQ af,aT I],[bg .bool],J5⟩
theorem adg:Sound Tryz.prog 100 0 S6:=cF bk (fn:=Tryz.f100) (fns:=[(60,EY)]) ⟨LD,trivial⟩ (by kernel_rfl) (by kernel_rfl) fun _=>by kernel_rfl
def S7:Entry:=⟨[aT (.sl I),.fn 1 0,fQ af],[bg (.int .i64)],J6⟩
def adh:List (Nat×bV):=[(2,⟨[(0,.cell (.bY I [])),(1,.u0 [[.keep,.bY I []]] []),(7,aL),(8,aL)],[],[.drop,.drop,.drop]⟩)]
def adi(k:Nat→an→Option (Int×Unit)):DB:=fun U aa ae ai=>k 2 (bl [(0,hy I U),(1,.fn 100 [.dd [] [.int .i64 aa.1,.bY I [] none aa.2.1] 0] []),(7,aY ae),(8,aY ai)] [] [.aC,.aC,.aC])
theorem adj:Sound Tryz.prog 136 100 S7:=u1 bk 100 (fn:=Tryz.f136) (fns:=[(100,S6)]) ⟨adg,trivial⟩ (by kernel_rfl) (by kernel_rfl) adh adi DD ue (fun k x=>DC k x.1 x.2.1) (by kernel_rfl) (fun _=>by kernel_rfl) (fun _=>rfl) (fun _ _=>by kernel_rfl) (fun _=>by kernel_rfl)
def LF:Entry:=⟨[aT (.sl I),.fn 1 0,fQ af],[bg .bool],y3⟩
theorem S8:Sound Tryz.prog 99 100 LF:=QG bk 100 (fn:=Tryz.f99) (fns:=[(100000136,S7)]) ⟨adj,trivial⟩ (by kernel_rfl) (by kernel_rfl) fun _=>by kernel_rfl
def zl:Entry:=⟨[aT af],[bg .bool],wC⟩
def adk:List (Nat×bV):=[(4,⟨[(1,.ptr 1),(36,.cell (.bY I [])),(37,aL),(38,aL)],aB 1 af .R [],[.drop]⟩),(11,⟨[(1,.ptr 1),(5,.cell (.ag 2)),(75,.cell (.bY I [])),(76,aL),(77,aL)],aB 1 af .R []++[(2,.row (.int .i64) .R)],[.drop]⟩)]
def adl(k:Nat→an→Option (Bool×Unit)):uf:=⟨fun U aa ae ai=>k 4 (bl [(1,ay 1),(36,hy I U),(37,aY aa),(38,aY ae)] (aD 1 af .R [] ai) [.aC]),fun U aa ae ai ar=>k 11 (bl [(1,ay 1),(5,.aS (.ag 2 none)),(75,hy I U),(76,aY aa),(77,aY ae)] (aD 1 af .R [] ai++[(2,.row (.int .i64) .R 0 ar)]) [.aC])⟩
theorem EZ:Sound Tryz.prog 53 0 zl:=cz bk (fn:=Tryz.f53) (fns:=[(93,kh),(94,S4),(95,EV),(96,zk),(97,EW),(98,EX),(100000099,LF)]) ⟨kH,ac4,LA,EU,LB,LC,S8,trivial⟩ (by kernel_rfl) (by kernel_rfl) adk adl Ru m8 (fun k x=>DE k x.1) (by kernel_rfl) (fun _=>by kernel_rfl) (fun _=>rfl) (fun _ _=>by kernel_rfl) (fun _=>by kernel_rfl)
def r4:Entry:=⟨[aT (.int .i64)],[bg aV],eO⟩
theorem uH:Sound Tryz.prog 54 0 r4:=cF bk (fn:=Tryz.f54) (fns:=[]) trivial (by kernel_rfl) (by kernel_rfl) fun _=>by kernel_rfl
def S9:Entry:=⟨[aT (.int .i64)],[bg .bool],Rv⟩
theorem adm:Sound Tryz.prog 138 0 S9:=cF bk (fn:=Tryz.f138) (fns:=[(93,kh)]) ⟨kH,trivial⟩ (by kernel_rfl) (by kernel_rfl) fun _=>by kernel_rfl
def S_:Entry:=⟨[aT (.sl (.int .i64)),.fn 0 0],[bg (.int .i64)],J9⟩
def adn:List (Nat×bV):=[(2,⟨[(0,.cell (.bY (.int .i64) [])),(1,.same),(7,aL),(8,aL)],[],[.drop,.drop]⟩)]
def ado(k:Nat→an→Option (Int×Unit)):DF:=fun U aa ae=>k 2 (bl [(0,hy (.int .i64) U),(1,.fn 138 [] []),(7,aY aa),(8,aY ae)] [] [.aC,.aC])
theorem adp:Sound Tryz.prog 159 138 S_:=u1 bk 138 (fn:=Tryz.f159) (fns:=[(138,S9)]) ⟨adm,trivial⟩ (by kernel_rfl) (by kernel_rfl) adn ado DH ui (fun k x=>DG k x.1) (by kernel_rfl) (fun _=>by kernel_rfl) (fun _=>rfl) (fun _ _=>by kernel_rfl) (fun _=>by kernel_rfl)
def S':Entry:=⟨[aT (.sl (.int .i64)),.fn 0 0],[bg .bool],J'⟩
theorem adq:Sound Tryz.prog 137 138 S':=QG bk 138 (fn:=Tryz.f137) (fns:=[(138000159,S_)]) ⟨adp,trivial⟩ (by kernel_rfl) (by kernel_rfl) fun _=>by kernel_rfl
def zm:Entry:=⟨[aT aJ],[bg .bool],wD⟩
theorem E0:Sound Tryz.prog 101 0 zm:=cF bk (fn:=Tryz.f101) (fns:=[(93,kh),(138000137,S')]) ⟨kH,adq,trivial⟩ (by kernel_rfl) (by kernel_rfl) fun _=>by kernel_rfl
def Ta:Entry:=⟨[aT aG],[bg .bool],Kc⟩
def adr:List (Nat×bV):=[(3,⟨[(1,.ptr 1),(3,aL),(4,aL)],aB 1 aG .R [],[.drop]⟩),(5,⟨[(1,.ptr 1)],aB 1 aG .R [],[.drop]⟩)]
def ads(k:Nat→an→Option (Bool×Unit)):uj:=⟨fun U aa ae=>k 3 (bl [(1,ay 1),(3,js U),(4,js aa)] (aD 1 aG .R [] ae) [.aC]),fun U=>k 5 (bl [(1,ay 1)] (aD 1 aG .R [] U) [.aC])⟩
theorem adt:Sound Tryz.prog 102 0 Ta:=cz bk (fn:=Tryz.f102) (fns:=[(93,kh)]) ⟨kH,trivial⟩ (by kernel_rfl) (by kernel_rfl) adr ads Kb DJ (fun k x=>DI k x.1) (by kernel_rfl) (fun _=>by kernel_rfl) (fun _=>rfl) (fun _ _=>by kernel_rfl) (fun _=>by kernel_rfl)
def Tb:Entry:=⟨[aT af],[ro af],rT⟩
def adu:List (Nat×bV):=[(3,⟨[(2,.ptr 1),(3,.ptr 3),(10,.cell (.bY I [])),(11,aL),(12,aL)],aB 1 af af.own []++aB 3 af af.own [],[.drop]⟩)]
def adv(k:Nat→an→Option (af.D×Unit)):wE:=fun U aa ae ai ar=>k 3 (bl [(2,ay 1),(3,ay 3),(10,hy I U),(11,aY aa),(12,aY ae)] (aD 1 af af.own [] ai++aD 3 af af.own [] ar) [.aC])
theorem adw:Sound Tryz.prog 103 0 Tb:=cz bk (fn:=Tryz.f103) (fns:=[]) trivial (by kernel_rfl) (by kernel_rfl) adu adv DL uk (fun k x=>DK k x.1) (by kernel_rfl) (fun _=>by kernel_rfl) (fun _=>rfl) (fun _ _=>by kernel_rfl) (fun _=>by kernel_rfl)
def Tc:Entry:=⟨[aT .str],[bg .bool],Ke⟩
theorem adx:Sound Tryz.prog 179 0 Tc:=cF bk (fn:=Tryz.f179) (fns:=[(133,ES)]) ⟨Lx,trivial⟩ (by kernel_rfl) (by kernel_rfl) fun _=>by kernel_rfl
def LG:Entry:=⟨[fQ af,aT (.int .i64)],[bg (.int .i64)],DN⟩
def ady:List (Nat×bV):=[(2,⟨[(1,aL),(12,.cell (.bY I [])),(13,aL),(14,aL)],[],[.drop,.drop]⟩),(5,⟨[(1,aL),(6,.ptr 1),(12,.cell (.bY I [])),(13,aL),(14,aL),(19,.cell (.bY aw [])),(20,aL),(21,aL)],aB 1 I .R [],[.drop,.drop]⟩)]
def adz(k:Nat→an→Option (Int×Unit)):um:=⟨fun U aa ae ai=>k 2 (bl [(1,aY U),(12,hy I aa),(13,aY ae),(14,aY ai)] [] [.aC,.aC]),fun U aa ae ai ar aE bn bT=>k 5 (bl [(1,aY U),(6,ay 1),(12,hy I aa),(13,aY ae),(14,aY ai),(19,hy aw ar),(20,aY aE),(21,aY bn)] (aD 1 I .R [] bT) [.aC,.aC])⟩
theorem Td:Sound Tryz.prog 61 0 LG:=cz bk (fn:=Tryz.f61) (fns:=[]) trivial (by kernel_rfl) (by kernel_rfl) ady adz RA kg (fun k x=>DM k x.1 x.2.1) (by kernel_rfl) (fun _=>by kernel_rfl) (fun _=>rfl) (fun _ _=>by kernel_rfl) (fun _=>by kernel_rfl)
def E1:Entry:=⟨[aT aJ,aT (.int .i64)],[bg .bool],ur⟩
theorem LH:Sound Tryz.prog 173 0 E1:=cF bk (fn:=Tryz.f173) (fns:=[(96,zk),(101,zm)]) ⟨EU,E0,trivial⟩ (by kernel_rfl) (by kernel_rfl) fun _=>by kernel_rfl
def wN:Entry:=⟨[aT aJ,aT I,aT (.int .i64)],[bg .bool],pa⟩
theorem zn:Sound Tryz.prog 171 0 wN:=cF bk (fn:=Tryz.f171) (fns:=[(93,kh),(101,zm),(173,E1)]) ⟨kH,E0,LH,trivial⟩ (by kernel_rfl) (by kernel_rfl) fun _=>by kernel_rfl
def LI:Entry:=⟨[fQ I,aT .str],[bg (.int .i64)],DR⟩
def adA:List (Nat×bV):=[(2,⟨[(1,aL),(10,.cell (.bY aw [])),(11,aL),(12,aL)],[],[.drop,.drop]⟩)]
def adB(k:Nat→an→Option (Int×Unit)):DO:=fun U aa ae ai=>k 2 (bl [(1,eT U),(10,hy aw aa),(11,aY ae),(12,aY ai)] [] [.aC,.aC])
theorem Te:Sound Tryz.prog 181 0 LI:=cz bk (fn:=Tryz.f181) (fns:=[]) trivial (by kernel_rfl) (by kernel_rfl) adA adB DQ rU (fun k x=>DP k x.1 x.2.1) (by kernel_rfl) (fun _=>by kernel_rfl) (fun _=>rfl) (fun _ _=>by kernel_rfl) (fun _=>by kernel_rfl)
def Tf:Entry:=⟨[aT .str,aT (.int .i64)],[ro (.sl .str)],RB⟩
theorem adC:hp Tryz.prog 208 0 Tf:=QJ fun _=>rfl
def Tg:Entry:=⟨[aT .str,aT (.int .u8)],[bg (.int .i64)],RC⟩
theorem adD:hp Tryz.prog 220 0 Tg:=aak Tryz.func220 (by kernel_rfl) (by kernel_rfl) (by kernel_rfl) (by kernel_rfl)
def Th:Entry:=⟨[aT .str,aT (.int .u8)],[bg (.int .i64)],RD⟩
theorem adE:Sound Tryz.prog 216 0 Th:=cF bk (fn:=Tryz.f216) (fns:=[(220,Tg)]) ⟨adD,trivial⟩ (by kernel_rfl) (by kernel_rfl) fun _=>by kernel_rfl
def Ti:Entry:=⟨[aT .str,aT .str],[bg (.int .i64)],RE⟩
theorem adF:Sound Tryz.prog 214 0 Ti:=cF bk (fn:=Tryz.f214) (fns:=[(216,Th)]) ⟨adE,trivial⟩ (by kernel_rfl) (by kernel_rfl) fun _=>by kernel_rfl
def LJ:Entry:=⟨[aT .str,aT .str],[bg (.int .i64)],DS⟩
theorem Tj:Sound Tryz.prog 210 0 LJ:=cF bk (fn:=Tryz.f210) (fns:=[(214,Ti)]) ⟨adF,trivial⟩ (by kernel_rfl) (by kernel_rfl) fun _=>by kernel_rfl
def Tk:Entry:=⟨[aT .str],[bg (.int .i64)],RF⟩
theorem adG:hp Tryz.prog 211 0 Tk:=QJ fun _=>rfl
def Tl:Entry:=⟨[aT .str,aT (.int .u8)],[bg (.int .i64)],RG⟩
theorem adH:hp Tryz.prog 213 0 Tl:=aal Tryz.func213 (by kernel_rfl) (by kernel_rfl) (by kernel_rfl) (by kernel_rfl)
def Tm:Entry:=⟨[aT .str,aT .str],[bg (.int .i64)],Kj⟩
def adI:List (Nat×bV):=[(6,⟨[(0,aL),(1,aL),(5,aL)],[],[.drop,.drop]⟩)]
def adJ(k:Nat→an→Option (Int×Unit)):DT:=fun U aa ae=>k 6 (bl [(0,eT U),(1,eT aa),(5,aY ae)] [] [.aC,.aC])
theorem adK:Sound Tryz.prog 209 0 Tm:=cz bk (fn:=Tryz.f209) (fns:=[(210,LJ),(211,Tk),(213,Tl)]) ⟨Tj,adG,adH,trivial⟩ (by kernel_rfl) (by kernel_rfl) adI adJ RH DV (fun k x=>DU k x.1 x.2.1) (by kernel_rfl) (fun _=>by kernel_rfl) (fun _=>rfl) (fun _ _=>by kernel_rfl) (fun _=>by kernel_rfl)
def Tn:Entry:=⟨[aT .str,aT .str,aT (.int .i64),aT (.int .i64)],[ro (.sl .str)],Km⟩
def adL:List (Nat×bV):=[(7,⟨[(0,aL),(1,aL),(2,aL),(3,aL)],[],[.drop,.drop,.drop,.drop]⟩),(11,⟨[(0,aL),(1,aL),(2,aL),(3,aL),(9,.cell (.ag 1)),(10,aL)],[(1,.row .str .R)],[.drop,.drop,.drop,.drop]⟩),(17,⟨[(0,aL),(9,.cell (.ag 1)),(10,aL)],[(1,.row .str .R)],[.drop,.drop,.drop,.drop]⟩)]
def adM(k:Nat→an→Option (pb)):qn:=⟨fun U aa ae ai=>k 7 (bl [(0,eT U),(1,eT aa),(2,aY ae),(3,aY ai)] [] [.aC,.aC,.aC,.aC]),fun U aa ae ai ar aE=>k 11 (bl [(0,eT U),(1,eT aa),(2,aY ae),(3,aY ai),(9,.aS (.ag 1 none)),(10,aY ar)] [(1,.row .str .R 0 aE)] [.aC,.aC,.aC,.aC]),fun U aa ae=>k 17 (bl [(0,eT U),(9,.aS (.ag 1 none)),(10,aY aa)] [(1,.row .str .R 0 ae)] [.aC,.aC,.aC,.aC])⟩
theorem adN:Sound Tryz.prog 207 0 Tn:=cz bk (fn:=Tryz.f207) (fns:=[(208,Tf),(209,Tm),(210,LJ)]) ⟨adC,adK,Tj,trivial⟩ (by kernel_rfl) (by kernel_rfl) adL adM RJ qo (fun k x=>DW k x.1 x.2.1 x.2.2.1 x.2.2.2.1) (by kernel_rfl) (fun _=>by kernel_rfl) (fun _=>rfl) (fun _ _=>by kernel_rfl) (fun _=>by kernel_rfl)
def To:Entry:=⟨[aT .str,aT .str],[ro (.sl .str)],Ko⟩
theorem adO:Sound Tryz.prog 200 0 To:=cF bk (fn:=Tryz.f200) (fns:=[(207,Tn)]) ⟨adN,trivial⟩ (by kernel_rfl) (by kernel_rfl) fun _=>by kernel_rfl
def Tp:Entry:=⟨[aT .str],[ro (.sl .str)],rW⟩
def adP:List (Nat×bV):=[(3,⟨[(3,.cell (.ag 1)),(8,.cell (.ag 2)),(9,aL),(10,aL)],[(1,.row .str .R),(2,.row .str .R)],[.drop]⟩)]
def adQ(k:Nat→an→Option (y5)):DX:=fun U aa ae ai=>k 3 (bl [(3,.aS (.ag 1 none)),(8,.aS (.ag 2 none)),(9,aY U),(10,aY aa)] [(1,.row .str .R 0 ae),(2,.row .str .R 0 ai)] [.aC])
theorem adR:Sound Tryz.prog 192 0 Tp:=cz bk (fn:=Tryz.f192) (fns:=[(200,To)]) ⟨adO,trivial⟩ (by kernel_rfl) (by kernel_rfl) adP adQ DZ rV (fun k x=>DY k x.1) (by kernel_rfl) (fun _=>by kernel_rfl) (fun _=>rfl) (fun _ _=>by kernel_rfl) (fun _=>by kernel_rfl)
def Tq:Entry:=⟨[fQ af,aT aJ,aT .str,aT .bool],[bg aW],Kp⟩
def adS:List (Nat×bV):=[(3,⟨[(0,.dd [] (rA af .R [] 0)),(3,aL),(5,.ptr 1),(8,.ptr 2),(9,.cell (.au 3)),(10,aL),(11,aL)],aB 1 aJ .R []++aB 2 aW .R []++[(3,.row .str .R)],[.drop,.drop,.drop,.drop]⟩)]
def adT(k:Nat→an→Option (aW.D×Unit)):rX:=fun U aa ae ai ar aE bn bT cA=>k 3 (bl [(0,.dd (o1 []) (aS af .R [] U 0) 0),(3,js aa),(5,ay 1),(8,ay 2),(9,.aS (.ag 3 (some (ae,ai)))),(10,aY ar),(11,aY aE)] (aD 1 aJ .R [] bn++aD 2 aW .R [] bT++[(3,.row .str .R 0 cA)]) [.aC,.aC,.aC,.aC])
theorem adU:Sound Tryz.prog 180 0 Tq:=cz bk (fn:=Tryz.f180) (fns:=[(56,mh),(61,LG),(171,wN),(181,LI),(192,Tp)]) ⟨ng,Td,zn,Te,adR,trivial⟩ (by kernel_rfl) (by kernel_rfl) adS adT ly fZ (fun k x=>D0 k x.1 x.2.1 x.2.2.1 x.2.2.2.1) (by kernel_rfl) (fun _=>by kernel_rfl) (fun _=>rfl) (fun _ _=>by kernel_rfl) (fun _=>by kernel_rfl)
def wO:Entry:=⟨[fQ aI,aT .str,aT .bool],[bg aW],kF⟩
theorem zo:Sound Tryz.prog 164 0 wO:=cF bk (fn:=Tryz.f164) (fns:=[(179,Tc),(180,Tq)]) ⟨adx,adU,trivial⟩ (by kernel_rfl) (by kernel_rfl) fun _=>by kernel_rfl
def LK:Entry:=⟨[fQ aI,aT .str],[bg aW,bg (.int .i64)],uu⟩
theorem Tr:Sound Tryz.prog 160 0 LK:=cF bk (fn:=Tryz.f160) (fns:=[(164,wO)]) ⟨zo,trivial⟩ (by kernel_rfl) (by kernel_rfl) fun _=>by kernel_rfl
def zp:Entry:=⟨[fQ aI,aT (.int .i64)],[bg .bool],m9⟩
theorem E2:Sound Tryz.prog 161 0 zp:=cF bk (fn:=Tryz.f161) (fns:=[(56,mh),(171,wN)]) ⟨ng,zn,trivial⟩ (by kernel_rfl) (by kernel_rfl) fun _=>by kernel_rfl
def Ts:Entry:=⟨[sw (.sl aw),aT (.int .i64),sw (.sl aw)],[ro (.sl aw)],RP⟩
theorem adV:hp Tryz.prog 178 0 Ts:=ins_soundX
def E3:Entry:=⟨[.«mut» aI ch ch,aT (.int .i64),aT .str,aT (.int .i64)],[],rZ⟩
def adW:List (Nat×bV):=[(2,⟨[(2,aL),(3,aL),(8,.opt 1),(9,aL)],[(1,.row I uD),(2,.var [.keep,.ag 1,.keep,.keep,.bY (.int .i64) [],.keep,.keep,.keep,.keep,.keep,.keep])],[.ptr 2,.drop,.drop,.drop]⟩),(4,⟨[(2,aL),(3,aL),(8,.opt 1),(9,aL)],[(1,.row I uD),(2,.var [.keep,.ag 1,.keep,.keep,.bY (.int .i64) [],.keep,.keep,.keep,.keep,.keep,.keep])],[.ptr 2,.drop,.drop,.drop]⟩)]
def adX(k:Nat→an→Option (aI.D×Unit)):uv:=⟨fun U aa ae ai ar=>k 2 (bl [(2,eT U),(3,aY aa),(8,.opt 1 ae),(9,aY ai)] ([(1,.row I uD 0 ar.1.2.1),(2,.var 0 [.int .i64 ar.1.1,.ag 1 none,.int .i64 ar.2.1.1,.int .i64 ar.2.1.2.1,.bY (.int .i64) [] none ar.2.1.2.2.1,.int .i64 ar.2.2.1.1,.str ar.2.2.1.2.1,.str ar.2.2.1.2.2.1,.int .i64 ar.2.2.1.2.2.2.1,.int .i64 ar.2.2.1.2.2.2.2.1,.str ar.2.2.1.2.2.2.2.2.1])]) [ay 2,.aC,.aC,.aC]),fun U aa ae ai ar=>k 4 (bl [(2,eT U),(3,aY aa),(8,.opt 1 ae),(9,aY ai)] ([(1,.row I uD 0 ar.1.2.1),(2,.var 0 [.int .i64 ar.1.1,.ag 1 none,.int .i64 ar.2.1.1,.int .i64 ar.2.1.2.1,.bY (.int .i64) [] none ar.2.1.2.2.1,.int .i64 ar.2.2.1.1,.str ar.2.2.1.2.1,.str ar.2.2.1.2.2.1,.int .i64 ar.2.2.1.2.2.2.1,.int .i64 ar.2.2.1.2.2.2.2.1,.str ar.2.2.1.2.2.2.2.2.1])]) [ay 2,.aC,.aC,.aC])⟩
theorem LL:Sound Tryz.prog 162 0 E3:=cz bk (fn:=Tryz.f162) (fns:=[(178,Ts),(56,ET)]) ⟨adV,Ly,trivial⟩ (by kernel_rfl) (by kernel_rfl) adW adX RQ rY (fun k x=>D1 k x.1 x.2.1 x.2.2.1 x.2.2.2.1) (by kernel_rfl) (fun _=>by kernel_rfl) (fun _=>rfl) (fun _ _=>by kernel_rfl) (fun _=>by kernel_rfl)
def wP:Entry:=⟨[fQ aI],[bg (.int .i64)],na⟩
theorem zq:Sound Tryz.prog 163 0 wP:=cF bk (fn:=Tryz.f163) (fns:=[(98,EX),(100000099,LF)]) ⟨LC,S8,trivial⟩ (by kernel_rfl) (by kernel_rfl) fun _=>by kernel_rfl
def Tt:Entry:=⟨[.«mut» aI ch ch],[bg (.int .i64)],y8⟩
def adY:List (Nat×bV):=[(4,⟨[(0,.ptr 1),(3,.ptr 3)],aB 1 aI ch []++aB 3 aG .R [],[.ptr 1]⟩),(23,⟨[(0,.ptr 1),(4,.ptr 3),(7,.ptr 4)],aB 1 aI ch []++aB 3 aW .R []++aB 4 I I.own [],[.ptr 1]⟩)]
def adZ(k:Nat→an→Option (Int×aI.D×Unit)):uw:=⟨fun U aa=>k 4 (bl [(0,ay 1),(3,ay 3)] (aD 1 aI ch [] U++aD 3 aG .R [] aa) [ay 1]),fun U aa ae=>k 23 (bl [(0,ay 1),(4,ay 3),(7,ay 4)] (aD 1 aI ch [] U++aD 3 aW .R [] aa++aD 4 I I.own [] ae) [ay 1])⟩
theorem ad0:Sound Tryz.prog 139 0 Tt:=cz bk (fn:=Tryz.f139) (fns:=[(56,mh),(93,kh),(133,ES),(160,LK),(161,zp),(162,E3),(163,wP)]) ⟨ng,kH,Lx,Tr,E2,LL,zq,trivial⟩ (by kernel_rfl) (by kernel_rfl) adY adZ RR kG (fun k x=>D2 k x.1) (by kernel_rfl) (fun _=>by kernel_rfl) (fun _=>rfl) (fun _ _=>by kernel_rfl) (fun _=>by kernel_rfl)
def E4:Entry:=⟨[aT aJ,aT I,aT I],[bg .bool],r0⟩
theorem LN:Sound Tryz.prog 165 0 E4:=cF bk (fn:=Tryz.f165) (fns:=[(101,zm)]) ⟨E0,trivial⟩ (by kernel_rfl) (by kernel_rfl) fun _=>by kernel_rfl
def LO:Entry:=⟨[aT aw,fQ .str],[bg .bool],D3⟩
theorem Tu:Sound Tryz.prog 183 0 LO:=cF bk (fn:=Tryz.f183) (fns:=[]) trivial (by kernel_rfl) (by kernel_rfl) fun _=>by kernel_rfl
def Tv:Entry:=⟨[aT (.sl aw),.fn 0 1,fQ .str],[bg (.int .i64)],Kw⟩
def ad1:List (Nat×bV):=[(2,⟨[(0,.cell (.bY aw [])),(1,.u0 [] [[.keep]]),(7,aL),(8,aL)],[],[.drop,.drop,.drop]⟩)]
def ad2(k:Nat→an→Option (Int×Unit)):D4:=fun U aa ae ai=>k 2 (bl [(0,hy aw U),(1,.fn 183 [] [.dd [] [.str aa] 0]),(7,aY ae),(8,aY ai)] [] [.aC,.aC,.aC])
theorem ad3:Sound Tryz.prog 193 183 Tv:=u1 bk 183 (fn:=Tryz.f193) (fns:=[(183,LO)]) ⟨Tu,trivial⟩ (by kernel_rfl) (by kernel_rfl) ad1 ad2 D5 wF (fun k x=>RS k x.1 x.2.1) (by kernel_rfl) (fun _=>by kernel_rfl) (fun _=>rfl) (fun _ _=>by kernel_rfl) (fun _=>by kernel_rfl)
def Tw:Entry:=⟨[sw (.sl aw),.fn 0 1,fQ .str],[ro (.sl aw)],D9⟩
def ad4:List (Nat×bV):=[(5,⟨[(0,.cell (.ag 1)),(1,.u0 [] [[.keep]]),(5,aL),(6,aL)],[(1,.row aw .R)],[.drop,.drop,.drop]⟩)]
def ad5(k:Nat→an→Option (wG)):D6:=fun U aa ae ai=>k 5 (bl [(0,.aS (.ag 1 none)),(1,.fn 183 [] [.dd [] [.str U] 0]),(5,aY aa),(6,aY ae)] [(1,.row aw .R 0 ai)] [.aC,.aC,.aC])
theorem ad6:Sound Tryz.prog 182 183 Tw:=u1 bk 183 (fn:=Tryz.f182) (fns:=[(183,LO),(183000193,Tv)]) ⟨Tu,ad3,trivial⟩ (by kernel_rfl) (by kernel_rfl) ad4 ad5 D8 wH (fun k x=>D7 k x.1 x.2.1) (by kernel_rfl) (fun _=>by kernel_rfl) (fun _=>rfl) (fun _ _=>by kernel_rfl) (fun _=>by kernel_rfl)
def Tx:Entry:=⟨[sw (.sl I),.fn 0 1,fQ (.int .i64)],[ro (.sl I)],RU⟩
theorem ad7:hp Tryz.prog 184 185 Tx:=aam (T:=I) (T':=ow.ew) (p:=fun y i => !(y.1==i)) (p':=fun y i => !ow.iP y i) rfl (fun x y i h=>by rw [show x.1=y.1 from h.1];rfl) (fq:=ow.Gl) ow.WT.x (fun ys i h=>ow.del_eq ys i h)
def LP:Entry:=⟨[.«mut» aI ch ch,aT (.int .i64),aT .str,aT .bool],[],oc⟩
theorem Ty:Sound Tryz.prog 166 0 LP:=cF bk (fn:=Tryz.f166) (fns:=[(97,EW),(181,LI),(183000182,Tw),(185000184,Tx),(56,ET)]) ⟨LB,Te,ad6,ad7,Ly,trivial⟩ (by kernel_rfl) (by kernel_rfl) fun _=>by kernel_rfl
def Tz:Entry:=⟨[.«mut» aI ch ch],[bg (.int .i64)],D'⟩
def ad8:List (Nat×bV):=[(5,⟨[(0,.ptr 1),(3,.ptr 3),(4,.ptr 4)],aB 1 aI ch []++aB 3 aW .R []++aB 4 I .R [2,1],[.ptr 1]⟩),(7,⟨[(0,.ptr 1),(3,.ptr 3),(4,.ptr 4)],aB 1 aI ch []++aB 3 aW .R []++aB 4 I .R [2,1],[.ptr 1]⟩),(9,⟨[(0,.ptr 1),(3,.ptr 3),(4,.ptr 4)],aB 1 aI ch []++aB 3 aW .R []++aB 4 I .R [2,1],[.ptr 1]⟩),(11,⟨[(0,.ptr 1),(3,.ptr 3),(4,.ptr 4)],aB 1 aI ch []++aB 3 aW .R []++aB 4 I .R [2,1],[.ptr 1]⟩)]
def ad9(k:Nat→an→Option (Int×aI.D×Unit)):qq:=⟨fun U aa ae=>k 5 (bl [(0,ay 1),(3,ay 3),(4,ay 4)] (aD 1 aI ch [] U++aD 3 aW .R [] aa++aD 4 I .R [2,1] ae) [ay 1]),fun U aa ae=>k 7 (bl [(0,ay 1),(3,ay 3),(4,ay 4)] (aD 1 aI ch [] U++aD 3 aW .R [] aa++aD 4 I .R [2,1] ae) [ay 1]),fun U aa ae=>k 9 (bl [(0,ay 1),(3,ay 3),(4,ay 4)] (aD 1 aI ch [] U++aD 3 aW .R [] aa++aD 4 I .R [2,1] ae) [ay 1]),fun U aa ae=>k 11 (bl [(0,ay 1),(3,ay 3),(4,ay 4)] (aD 1 aI ch [] U++aD 3 aW .R [] aa++aD 4 I .R [2,1] ae) [ay 1])⟩
theorem ad_:Sound Tryz.prog 140 0 Tz:=cz bk (fn:=Tryz.f140) (fns:=[(56,mh),(161,zp),(164,wO),(165,E4),(166,LP)]) ⟨ng,E2,zo,LN,Ty,trivial⟩ (by kernel_rfl) (by kernel_rfl) ad8 ad9 RV od (fun k x=>D_ k x.1) (by kernel_rfl) (fun _=>by kernel_rfl) (fun _=>rfl) (fun _ _=>by kernel_rfl) (fun _=>by kernel_rfl)
def zr:Entry:=⟨[fQ af,aT (.int .i64)],[bg .bool],ux⟩
theorem E5:Sound Tryz.prog 59 0 zr:=cF bk (fn:=Tryz.f59) (fns:=[(56,mh)]) ⟨ng,trivial⟩ (by kernel_rfl) (by kernel_rfl) fun _=>by kernel_rfl
def TA:Entry:=⟨[.«mut» aI ch ch],[bg (.int .i64)],Ea⟩
theorem ad':Sound Tryz.prog 141 0 TA:=cF bk (fn:=Tryz.f141) (fns:=[(56,mh),(59,zr),(160,LK),(161,zp),(162,E3),(163,wP),(164,wO)]) ⟨ng,E5,Tr,E2,LL,zq,zo,trivial⟩ (by kernel_rfl) (by kernel_rfl) fun _=>by kernel_rfl
def TB:Entry:=⟨[fQ aI,aT I,aT aW],[bg (.int .i64)],Eb⟩
theorem aea:Sound Tryz.prog 167 0 TB:=cF bk (fn:=Tryz.f167) (fns:=[(56,mh),(165,E4)]) ⟨ng,LN,trivial⟩ (by kernel_rfl) (by kernel_rfl) fun _=>by kernel_rfl
def TC:Entry:=⟨[.«mut» aI ch ch],[bg (.int .i64)],Ed⟩
def aeb:List (Nat×bV):=[(7,⟨[(0,.ptr 1),(3,.ptr 3),(4,.ptr 4)],aB 1 aI ch []++aB 3 aW .R []++aB 4 aW .R [],[.ptr 1]⟩),(10,⟨[(0,.ptr 1),(3,.ptr 3),(4,.ptr 4),(5,.ptr 5)],aB 1 aI ch []++aB 3 aW .R []++aB 4 aW .R []++aB 5 I .R [2,1],[.ptr 1]⟩),(16,⟨[(0,.ptr 1),(3,.ptr 3),(4,.ptr 4),(5,.ptr 5)],aB 1 aI ch []++aB 3 aW .R []++aB 4 aW .R []++aB 5 I .R [2,1],[.ptr 1]⟩),(25,⟨[(0,.ptr 1),(3,.ptr 3),(4,.ptr 4)],aB 1 aI ch []++aB 3 aW .R []++aB 4 aW .R [],[.ptr 1]⟩)]
def aec(k:Nat→an→Option (Int×aI.D×Unit)):qs:=⟨fun U aa ae=>k 7 (bl [(0,ay 1),(3,ay 3),(4,ay 4)] (aD 1 aI ch [] U++aD 3 aW .R [] aa++aD 4 aW .R [] ae) [ay 1]),fun U aa ae ai=>k 10 (bl [(0,ay 1),(3,ay 3),(4,ay 4),(5,ay 5)] (aD 1 aI ch [] U++aD 3 aW .R [] aa++aD 4 aW .R [] ae++aD 5 I .R [2,1] ai) [ay 1]),fun U aa ae ai=>k 16 (bl [(0,ay 1),(3,ay 3),(4,ay 4),(5,ay 5)] (aD 1 aI ch [] U++aD 3 aW .R [] aa++aD 4 aW .R [] ae++aD 5 I .R [2,1] ai) [ay 1]),fun U aa ae=>k 25 (bl [(0,ay 1),(3,ay 3),(4,ay 4)] (aD 1 aI ch [] U++aD 3 aW .R [] aa++aD 4 aW .R [] ae) [ay 1])⟩
theorem aed:Sound Tryz.prog 142 0 TC:=cz bk (fn:=Tryz.f142) (fns:=[(56,mh),(95,EV),(96,zk),(161,zp),(162,E3),(163,wP),(164,wO),(165,E4),(166,LP),(167,TB)]) ⟨ng,LA,EU,E2,LL,zq,zo,LN,Ty,aea,trivial⟩ (by kernel_rfl) (by kernel_rfl) aeb aec RW iH (fun k x=>Ec k x.1) (by kernel_rfl) (fun _=>by kernel_rfl) (fun _=>rfl) (fun _ _=>by kernel_rfl) (fun _=>by kernel_rfl)
def qA:Entry:=⟨[.«mut» aI ch ch,aT .bool],[.opt 0 1 I,bg (.int .i64)],mf⟩
theorem r5:Sound Tryz.prog 170 0 qA:=cF bk (fn:=Tryz.f170) (fns:=[(164,wO),(56,ET)]) ⟨zo,Ly,trivial⟩ (by kernel_rfl) (by kernel_rfl) fun _=>by kernel_rfl
def LQ:Entry:=⟨[.«mut» aI ch ch,aT (.int .i64)],[.opt 0 1 I,bg (.int .i64)],y_⟩
theorem TD:Sound Tryz.prog 168 0 LQ:=cF bk (fn:=Tryz.f168) (fns:=[(170,qA),(171,wN)]) ⟨r5,zn,trivial⟩ (by kernel_rfl) (by kernel_rfl) fun _=>by kernel_rfl
def TE:Entry:=⟨[.«mut» aI ch ch],[bg aV],Ee⟩
theorem aee:Sound Tryz.prog 143 0 TE:=cF bk (fn:=Tryz.f143) (fns:=[(54,r4),(168,LQ)]) ⟨uH,TD,trivial⟩ (by kernel_rfl) (by kernel_rfl) fun _=>by kernel_rfl
def TF:Entry:=⟨[aT .str,aT (.int .i64)],[bg .str],strings_Repeat⟩
theorem aef:hp Tryz.prog 186 0 TF:=rep_soundX
def TG:Entry:=⟨[aT .str,aT (.int .i64)],[bg .str],Ef⟩
theorem aeg:Sound Tryz.prog 169 0 TG:=cF bk (fn:=Tryz.f169) (fns:=[(186,TF)]) ⟨aef,trivial⟩ (by kernel_rfl) (by kernel_rfl) fun _=>by kernel_rfl
def TH:Entry:=⟨[.«mut» aI ch ch],[bg (.int .i64)],Eh⟩
def aeh:List (Nat×bV):=[(7,⟨[(0,.ptr 1),(3,.opt 2),(5,aL)],aB 1 aI ch [],[.ptr 1]⟩),(11,⟨[(0,.ptr 1),(3,.opt 2),(5,aL)],aB 1 aI ch [],[.ptr 1]⟩),(18,⟨[(0,.ptr 1),(3,.opt 2),(6,aL)],aB 1 aI ch [],[.ptr 1]⟩)]
def aei(k:Nat→an→Option (Int×aI.D×Unit)):r1:=⟨fun U aa ae=>k 7 (bl [(0,ay 1),(3,.opt 2 U),(5,aY aa)] (aD 1 aI ch [] ae) [ay 1]),fun U aa ae=>k 11 (bl [(0,ay 1),(3,.opt 2 U),(5,aY aa)] (aD 1 aI ch [] ae) [ay 1]),fun U aa ae=>k 18 (bl [(0,ay 1),(3,.opt 2 U),(6,eT aa)] (aD 1 aI ch [] ae) [ay 1])⟩
theorem aej:Sound Tryz.prog 144 0 TH:=cz bk (fn:=Tryz.f144) (fns:=[(163,wP),(168,LQ),(169,TG)]) ⟨zq,TD,aeg,trivial⟩ (by kernel_rfl) (by kernel_rfl) aeh aei R0 gh (fun k x=>Eg k x.1) (by kernel_rfl) (fun _=>by kernel_rfl) (fun _=>rfl) (fun _ _=>by kernel_rfl) (fun _=>by kernel_rfl)
def TI:Entry:=⟨[.«mut» aI ch ch],[bg aV],Ei⟩
theorem aek:Sound Tryz.prog 145 0 TI:=cF bk (fn:=Tryz.f145) (fns:=[(54,r4),(170,qA)]) ⟨uH,r5,trivial⟩ (by kernel_rfl) (by kernel_rfl) fun _=>by kernel_rfl
def LR:Entry:=⟨[aT (.sl .str),aT .str],[bg .str],strings_Join⟩
theorem TJ:hp Tryz.prog 172 0 LR:=join_soundX
def TK:Entry:=⟨[aT (.int .i64)],[bg .str],y'⟩
def ael:List (Nat×bV):=[(4,⟨[(0,aL),(3,aL),(4,aL)],[],[.drop]⟩),(7,⟨[(0,aL),(3,aL),(4,aL),(5,aL)],[],[.drop]⟩)]
def aem(k:Nat→an→Option ((List UInt8)×Unit)):uy:=⟨fun U aa ae=>k 4 (bl [(0,aY U),(3,eT aa),(4,aY ae)] [] [.aC]),fun U aa ae ai=>k 7 (bl [(0,aY U),(3,eT aa),(4,aY ae),(5,aY ai)] [] [.aC])⟩
theorem aen:Sound Tryz.prog 174 0 TK:=cz bk (fn:=Tryz.f174) (fns:=[(93,kh)]) ⟨kH,trivial⟩ (by kernel_rfl) (by kernel_rfl) ael aem R3 mg (fun k x=>R2 k x.1) (by kernel_rfl) (fun _=>by kernel_rfl) (fun _=>rfl) (fun _ _=>by kernel_rfl) (fun _=>by kernel_rfl)
def E6:Entry:=⟨[aT (.sl (.int .i64))],[bg .str],qt⟩
def aeo:List (Nat×bV):=[(3,⟨[(3,.cell (.ag 1)),(7,.cell (.bY (.int .i64) [])),(8,aL),(9,aL)],[(1,.row .str .R)],[.drop]⟩)]
def aep(k:Nat→an→Option ((List UInt8)×Unit)):Ej:=fun U aa ae ai=>k 3 (bl [(3,.aS (.ag 1 none)),(7,hy (.int .i64) U),(8,aY aa),(9,aY ae)] [(1,.row .str .R 0 ai)] [.aC])
theorem LS:Sound Tryz.prog 151 0 E6:=cz bk (fn:=Tryz.f151) (fns:=[(172,LR),(174,TK)]) ⟨TJ,aen,trivial⟩ (by kernel_rfl) (by kernel_rfl) aeo aep Ek uz (fun k x=>R4 k x.1) (by kernel_rfl) (fun _=>by kernel_rfl) (fun _=>rfl) (fun _ _=>by kernel_rfl) (fun _=>by kernel_rfl)
def TL:Entry:=⟨[.«mut» aI ch ch],[bg aV],zb⟩
def aeq:List (Nat×bV):=[(13,⟨[(2,.ptr 1),(7,.cell (.ag 2)),(73,.cell (.bY aw [3])),(74,aL),(75,aL)],aB 1 aV .R []++[(2,.row .str .R),(3,.row I uD),(4,.var [.keep,.ag 3,.keep,.keep,.bY (.int .i64) [],.keep,.keep,.keep,.keep,.keep,.keep])],[.ptr 4]⟩)]
def aer(k:Nat→an→Option (za)):El:=fun U aa ae ai ar aE=>k 13 (bl [(2,ay 1),(7,.aS (.ag 2 none)),(73,.aS (.bY aw (o1 [3]) none U)),(74,aY aa),(75,aY ae)] (aD 1 aV .R [] ai++[(2,.row .str .R 0 ar),(3,.row I uD 0 aE.1.2.1),(4,.var 0 [.int .i64 aE.1.1,.ag 3 none,.int .i64 aE.2.1.1,.int .i64 aE.2.1.2.1,.bY (.int .i64) [] none aE.2.1.2.2.1,.int .i64 aE.2.2.1.1,.str aE.2.2.1.2.1,.str aE.2.2.1.2.2.1,.int .i64 aE.2.2.1.2.2.2.1,.int .i64 aE.2.2.1.2.2.2.2.1,.str aE.2.2.1.2.2.2.2.2.1])]) [ay 4])
theorem aes:Sound Tryz.prog 146 0 TL:=cz bk (fn:=Tryz.f146) (fns:=[(54,r4),(60,EY),(151,E6),(170,qA),(171,wN),(172,LR)]) ⟨uH,LD,LS,r5,zn,TJ,trivial⟩ (by kernel_rfl) (by kernel_rfl) aeq aer En qu (fun k x=>Em k x.1) (by kernel_rfl) (fun _=>by kernel_rfl) (fun _=>rfl) (fun _ _=>by kernel_rfl) (fun _=>by kernel_rfl)
def LU:Entry:=⟨[fQ af,aT I],[bg (.int .i64)],Es⟩
def aet:List (Nat×bV):=[(5,⟨[(0,.dd [] (rA af .R [] 0)),(5,aL),(16,.cell (.bY aw [])),(17,aL),(18,aL)],[],[.drop,.drop]⟩)]
def aeu(k:Nat→an→Option (Int×Unit)):Eo:=fun U aa ae ai ar=>k 5 (bl [(0,.dd (o1 []) (aS af .R [] U 0) 0),(5,aY aa),(16,hy aw ae),(17,aY ai),(18,aY ar)] [] [.aC,.aC])
theorem TM:Sound Tryz.prog 57 0 LU:=cz bk (fn:=Tryz.f57) (fns:=[(59,zr),(97,EW)]) ⟨E5,LB,trivial⟩ (by kernel_rfl) (by kernel_rfl) aet aeu Er r2 (fun k x=>Ep k x.1 x.2.1) (by kernel_rfl) (fun _=>by kernel_rfl) (fun _=>rfl) (fun _ _=>by kernel_rfl) (fun _=>by kernel_rfl)
def TN:Entry:=⟨[.«mut» aI ch ch],[bg aV],Et⟩
theorem aev:Sound Tryz.prog 147 0 TN:=cF bk (fn:=Tryz.f147) (fns:=[(54,r4),(57,LU),(93,kh),(151,E6),(170,qA)]) ⟨uH,TM,kH,LS,r5,trivial⟩ (by kernel_rfl) (by kernel_rfl) fun _=>by kernel_rfl
def TO:Entry:=⟨[.«mut» aI ch ch],[bg (.int .i64)],Ew⟩
def aew:List (Nat×bV):=[(8,⟨[(0,.ptr 1),(3,.opt 2)],aB 1 aI ch [],[.ptr 1]⟩)]
def aex(k:Nat→an→Option (Int×aI.D×Unit)):Eu:=fun U aa=>k 8 (bl [(0,ay 1),(3,.opt 2 U)] (aD 1 aI ch [] aa) [ay 1])
theorem aey:Sound Tryz.prog 148 0 TO:=cz bk (fn:=Tryz.f148) (fns:=[(93,kh),(170,qA),(173,E1)]) ⟨kH,r5,LH,trivial⟩ (by kernel_rfl) (by kernel_rfl) aew aex KV qv (fun k x=>Ev k x.1) (by kernel_rfl) (fun _=>by kernel_rfl) (fun _=>rfl) (fun _ _=>by kernel_rfl) (fun _=>by kernel_rfl)
def TP:Entry:=⟨[.«mut» aI ch ch],[bg (.int .i64)],Ez⟩
def aez:List (Nat×bV):=[(8,⟨[(0,.ptr 1),(3,.opt 2)],aB 1 aI ch [],[.ptr 1]⟩)]
def aeA(k:Nat→an→Option (Int×aI.D×Unit)):Ex:=fun U aa=>k 8 (bl [(0,ay 1),(3,.opt 2 U)] (aD 1 aI ch [] aa) [ay 1])
theorem aeB:Sound Tryz.prog 149 0 TP:=cz bk (fn:=Tryz.f149) (fns:=[(93,kh),(170,qA),(173,E1)]) ⟨kH,r5,LH,trivial⟩ (by kernel_rfl) (by kernel_rfl) aez aeA KX qw (fun k x=>Ey k x.1) (by kernel_rfl) (fun _=>by kernel_rfl) (fun _=>rfl) (fun _ _=>by kernel_rfl) (fun _=>by kernel_rfl)
def TQ:Entry:=⟨[.«mut» aI ch ch],[bg (.int .i64)],EA⟩
theorem aeC:Sound Tryz.prog 150 0 TQ:=cF bk (fn:=Tryz.f150) (fns:=[(93,kh),(170,qA),(171,wN)]) ⟨kH,r5,zn,trivial⟩ (by kernel_rfl) (by kernel_rfl) fun _=>by kernel_rfl
def TS:Entry:=⟨[.«mut» aI ch ch],[bg (.int .i64)],EC⟩
theorem aeD:Sound Tryz.prog 152 0 TS:=cF bk (fn:=Tryz.f152) (fns:=[(93,kh),(163,wP),(170,qA)]) ⟨kH,zq,r5,trivial⟩ (by kernel_rfl) (by kernel_rfl) fun _=>by kernel_rfl
def TT:Entry:=⟨[.«mut» aI ch ch],[bg aV],EE⟩
def aeE:List (Nat×bV):=[(5,⟨[(0,.ptr 1),(2,.ptr 3)],aB 1 aI ch []++aB 3 aV .R [],[.ptr 1]⟩),(6,⟨[(0,.ptr 1),(2,.ptr 3),(7,aL)],aB 1 aI ch []++aB 3 aV .R [],[.ptr 1]⟩),(8,⟨[(0,.ptr 1),(2,.ptr 3)],aB 1 aI ch []++aB 3 aV .R [],[.ptr 1]⟩),(9,⟨[(0,.ptr 1),(2,.ptr 3),(7,aL)],aB 1 aI ch []++aB 3 aV .R [],[.ptr 1]⟩),(18,⟨[(0,.ptr 1),(2,.ptr 3)],aB 1 aI ch []++aB 3 aV .R [],[.ptr 1]⟩),(19,⟨[(0,.ptr 1),(2,.ptr 3),(7,aL)],aB 1 aI ch []++aB 3 aV .R [],[.ptr 1]⟩),(24,⟨[(0,.ptr 1),(2,.ptr 3),(7,aL)],aB 1 aI ch []++aB 3 aV .R [],[.ptr 1]⟩)]
def aeF(k:Nat→an→Option (jT)):nc:=⟨fun U aa=>k 5 (bl [(0,ay 1),(2,ay 3)] (aD 1 aI ch [] U++aD 3 aV .R [] aa) [ay 1]),fun U aa ae=>k 6 (bl [(0,ay 1),(2,ay 3),(7,aY U)] (aD 1 aI ch [] aa++aD 3 aV .R [] ae) [ay 1]),fun U aa=>k 8 (bl [(0,ay 1),(2,ay 3)] (aD 1 aI ch [] U++aD 3 aV .R [] aa) [ay 1]),fun U aa ae=>k 9 (bl [(0,ay 1),(2,ay 3),(7,aY U)] (aD 1 aI ch [] aa++aD 3 aV .R [] ae) [ay 1]),fun U aa=>k 18 (bl [(0,ay 1),(2,ay 3)] (aD 1 aI ch [] U++aD 3 aV .R [] aa) [ay 1]),fun U aa ae=>k 19 (bl [(0,ay 1),(2,ay 3),(7,aY U)] (aD 1 aI ch [] aa++aD 3 aV .R [] ae) [ay 1]),fun U aa ae=>k 24 (bl [(0,ay 1),(2,ay 3),(7,aY U)] (aD 1 aI ch [] aa++aD 3 aV .R [] ae) [ay 1])⟩
theorem aeG:Sound Tryz.prog 104 0 TT:=cz bk (fn:=Tryz.f104) (fns:=[(54,r4),(98,EX),(139,Tt),(140,Tz),(141,TA),(142,TC),(143,TE),(144,TH),(145,TI),(146,TL),(147,TN),(148,TO),(149,TP),(150,TQ),(151,E6),(152,TS)]) ⟨uH,LC,ad0,ad_,ad',aed,aee,aej,aek,aes,aev,aey,aeB,aeC,LS,aeD,trivial⟩ (by kernel_rfl) (by kernel_rfl) aeE aeF R8 K1 (fun k x=>ED k x.1) (by kernel_rfl) (fun _=>by kernel_rfl) (fun _=>rfl) (fun _ _=>by kernel_rfl) (fun _=>by kernel_rfl)
def TU:Entry:=⟨[aT af,aT aJ,aT aG],[ro af,bg aV],K2⟩
theorem aeH:Sound Tryz.prog 55 0 TU:=cF bk (fn:=Tryz.f55) (fns:=[(54,r4),(101,zm),(102,Ta),(103,Tb),(104,TT)]) ⟨uH,E0,adt,adw,aeG,trivial⟩ (by kernel_rfl) (by kernel_rfl) fun _=>by kernel_rfl
def TV:Entry:=⟨[aT af,aT aJ,aT aG],[ro af,bg aV],K4⟩
theorem aeI:Sound Tryz.prog 15 0 TV:=cF bk (fn:=Tryz.f15) (fns:=[(53,zl),(54,r4),(55,TU)]) ⟨EZ,uH,aeH,trivial⟩ (by kernel_rfl) (by kernel_rfl) fun _=>by kernel_rfl
def TW:Entry:=⟨[aT af,aT (.int .i64)],[bg (.int .i64)],EF⟩
theorem aeJ:Sound Tryz.prog 16 0 TW:=cF bk (fn:=Tryz.f16) (fns:=[(53,zl),(56,mh),(57,LU)]) ⟨EZ,ng,TM,trivial⟩ (by kernel_rfl) (by kernel_rfl) fun _=>by kernel_rfl
def TX:Entry:=⟨[aT af,aT af],[bg .bool],EH⟩
def aeK:List (Nat×bV):=[(4,⟨[(2,.ptr 1),(3,.ptr 2),(5,aL)],aB 1 af .R []++aB 2 af .R [],[.drop,.drop]⟩),(11,⟨[(2,.ptr 1),(3,.ptr 2),(5,aL),(6,.ptr 3),(7,.ptr 4),(8,aL)],aB 1 af .R []++aB 2 af .R []++aB 3 I .R []++aB 4 I .R [],[.drop,.drop]⟩)]
def aeL(k:Nat→an→Option (Bool×Unit)):uA:=⟨fun U aa ae=>k 4 (bl [(2,ay 1),(3,ay 2),(5,aY U)] (aD 1 af .R [] aa++aD 2 af .R [] ae) [.aC,.aC]),fun U aa ae ai ar aE=>k 11 (bl [(2,ay 1),(3,ay 2),(5,aY U),(6,ay 3),(7,ay 4),(8,aY aa)] (aD 1 af .R [] ae++aD 2 af .R [] ai++aD 3 I .R [] ar++aD 4 I .R [] aE) [.aC,.aC])⟩
theorem aeM:Sound Tryz.prog 21 0 TX:=cz bk (fn:=Tryz.f21) (fns:=[]) trivial (by kernel_rfl) (by kernel_rfl) aeK aeL R' pc (fun k x=>EG k x.1 x.2.1) (by kernel_rfl) (fun _=>by kernel_rfl) (fun _=>rfl) (fun _ _=>by kernel_rfl) (fun _=>by kernel_rfl)
def TY:Entry:=⟨[aT af,aT (.int .i64)],[bg (.int .i64),bg (.int .i64)],EI⟩
theorem aeN:Sound Tryz.prog 22 0 TY:=cF bk (fn:=Tryz.f22) (fns:=[(53,zl),(59,zr),(60,EY)]) ⟨EZ,E5,LD,trivial⟩ (by kernel_rfl) (by kernel_rfl) fun _=>by kernel_rfl
def TZ:Entry:=⟨[aT af,aT (.int .i64)],[bg (.int .i64)],uB⟩
theorem aeO:Sound Tryz.prog 23 0 TZ:=cF bk (fn:=Tryz.f23) (fns:=[(53,zl),(59,zr),(61,LG)]) ⟨EZ,E5,Td,trivial⟩ (by kernel_rfl) (by kernel_rfl) fun _=>by kernel_rfl
def T0:Entry:=⟨[aT (.int .i64)],[bg .bool],K9⟩
theorem aeP:Sound Tryz.prog 24 0 T0:=cF bk (fn:=Tryz.f24) (fns:=[]) trivial (by kernel_rfl) (by kernel_rfl) fun _=>by kernel_rfl
def wQ:Entry:=⟨[aT (.sl (.int .u8))],[bg .bool],Sb⟩
def aeQ:List (Nat×bV):=[(10,⟨[(3,.ptr 1),(5,.ptr 3),(6,.ptr 4),(8,aL)],aB 1 af af.own []++aB 3 aG .R []++aB 4 af af.own [],[.drop]⟩),(17,⟨[(3,.ptr 1),(5,.ptr 3),(6,.ptr 4),(8,aL),(9,.ptr 6)],aB 1 af af.own []++aB 3 aG .R []++aB 4 af af.own []++aB 6 I .R [5],[.drop]⟩)]
def aeR(k:Nat→an→Option (Bool×Unit)):uC:=⟨fun U aa ae ai=>k 10 (bl [(3,ay 1),(5,ay 3),(6,ay 4),(8,aY U)] (aD 1 af af.own [] aa++aD 3 aG .R [] ae++aD 4 af af.own [] ai) [.aC]),fun U aa ae ai ar=>k 17 (bl [(3,ay 1),(5,ay 3),(6,ay 4),(8,aY U),(9,ay 6)] (aD 1 af af.own [] aa++aD 3 aG .R [] ae++aD 4 af af.own [] ai++aD 6 I .R [5] ar) [.aC])⟩
theorem aeS:Sound Tryz.prog 6 0 wQ:=cz bk (fn:=Tryz.f6) (fns:=[(9,Sd),(10,SX),(11,S0),(15,TV),(16,TW),(21,TX),(22,TY),(23,TZ),(24,T0)]) ⟨aa4,acG,acP,aeI,aeJ,aeM,aeN,aeO,aeP,trivial⟩ (by kernel_rfl) (by kernel_rfl) aeQ aeR Sa qx (fun k x=>EJ k x.1) (by kernel_rfl) (fun _=>by kernel_rfl) (fun _=>rfl) (fun _ _=>by kernel_rfl) (fun _=>by kernel_rfl)
end
end Go.LM.kb
