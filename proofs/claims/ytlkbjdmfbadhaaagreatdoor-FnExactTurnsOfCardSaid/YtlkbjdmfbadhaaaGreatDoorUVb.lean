/- Each function keeps its contract. Printed by a program. Conditions: each theorem's own hypotheses. -/
import Derived.Test.YtlkbjdmfbadhaaaGreatDoorUVa
import Derived.Test.YtlkbjdmfbadhaaaGreatDoorULmd
import Derived.Test.YtlkbjdmfbadhaaaGreatDoorChecked
import Derived.Test.YtlkbjdmfbadhaaaGreatDoorUIn
set_option linter.unusedVariables false
set_option linter.unusedSimpArgs false
namespace Go.LM.j7
noncomputable section
open Go.Proofs
abbrev wP:bg:=.S (.cons .R (.cons .R (.cons .R (.cons .R (.cons .R (.cons .R (.cons (.O .R) (.cons .R (.cons .R .nil)))))))))
abbrev ahD:bg:=.S (.cons .R (.cons (.O wP) .nil))
abbrev cz:bg:=.S (.cons ahD (.cons .R (.cons .R .nil)))
def tab:List (Nat×ad):=[(3,.int .i64),(4,.bool),(5,.int .u8),(9,.str),(22,.sl (.int .u8)),(24,.sl J),(26,ah),(27,.sl a6),(28,.sl bP),(30,aY),(32,aI),(36,an),(42,a6),(43,.sl an),(45,.sl aZ),(48,.sl an),(55,.sl J),(57,ah),(58,.sl a6),(59,.sl bP),(61,aY),(62,aI),(74,.sl (.int .i64)),(76,aZ),(84,an),(89,.sl aP),(94,aP),(111,bP),(125,an),(148,.sl aJ),(150,J),(167,ag0),(183,.sl .bool),(187,aJ),(192,an),(194,bP),(197,a6),(203,.sl .str),(224,aK),(233,j8),(236,.sl aJ),(238,J),(255,aN),(265,a8),(281,aJ)]
def my:List Nat:=[15,16,17,105,174,231,246,247,253,302,317]
def eqs:List Nat:=[32,36,42,62,76,84,94,111,125,187,192,194,197,233,265,281]
theorem Kd:uw Tryz.prog tab=true:=by kernel_rfl
theorem Ke:ux Tryz.prog my=true:=by kernel_rfl
theorem Kf:uy Tryz.prog tab eqs=true:=by kernel_rfl
theorem mix:Tryz.prog.follows .mixedOrders=true:=by kernel_rfl
def bk:lg Tryz.prog:=⟨tab,my,eqs,Kd,Ke,Kf,mix⟩
set_option maxRecDepth 100000
def j':Entry:=⟨[aL (.int .i64),aL (.int .i64),aL (.int .i64)],[a_ .bool],dG⟩
theorem kB:Sound Tryz.prog 119 0 j':=cg bk 0 (fn:=Tryz.f119) (fns:=[]) trivial (by kernel_rfl)
def Xr:Entry:=⟨[aL (.sl a6)],[a_ .bool],ME⟩
def ahE:List (Nat×bT):=[(2,⟨[(0,.cell (.bM a6 [])),(5,.cell (.bM a6 [])),(6,aG),(7,aG)],[],[.drop]⟩)]
def ahF(k:Nat→ar→Option (Bool×Unit)):Ez:=fun U aa ae ai=>k 2 (bl [(0,dS a6 U),(5,dS a6 aa),(6,aQ ae),(7,aQ ai)] [] [.aB])
theorem ahG:Sound Tryz.prog 121 0 Xr:=b8 bk 0 (fn:=Tryz.f121) (fns:=[(119,j')]) ⟨kB,trivial⟩ ahE ahF EB vm (fun k x=>EA k x.1) (by kernel_rfl) rfl
def Xs:Entry:=⟨[aL (.int .u8)],[a_ .bool],MF⟩
theorem ahH:Sound Tryz.prog 230 0 Xs:=cg bk 0 (fn:=Tryz.f230) (fns:=[]) trivial (by kernel_rfl)
def PG:Entry:=⟨[aL .str],[a_ .bool],AL⟩
def ahI:List (Nat×bT):=[(2,⟨[(0,aG),(5,aG),(6,aG)],[],[.drop]⟩)]
def ahJ(k:Nat→ar→Option (Bool×Unit)):EC:=fun U aa ae=>k 2 (bl [(0,eJ U),(5,aQ aa),(6,aQ ae)] [] [.aB])
theorem Xt:Sound Tryz.prog 203 0 PG:=b8 bk 0 (fn:=Tryz.f203) (fns:=[(119,j'),(230,Xs)]) ⟨kB,ahH,trivial⟩ ahI ahJ EE vn (fun k x=>ED k x.1) (by kernel_rfl) rfl
def pt:Entry:=⟨[gd ah,aL (.int .i64)],[.pO J],gm⟩
def ahK:List (Nat×bT):=[(2,⟨[(0,.du [] (tb ah .R [] 0)),(1,aG),(10,aG),(11,aG)],[],[.drop,.drop]⟩)]
def ahL(k:Nat→ar→Option (AM)):EF:=fun U aa ae ai=>k 2 (bl [(0,.du (qc []) (aV ah .R [] U 0) 0),(1,aQ aa),(10,aQ ae),(11,aQ ai)] [] [.aB,.aB])
theorem qw:Sound Tryz.prog 205 0 pt:=b8 bk 0 (fn:=Tryz.f205) (fns:=[]) trivial ahK ahL EH vo (fun k x=>EG k x.1 x.2.1) (by kernel_rfl) rfl
def Iv:Entry:=⟨[yk ah,aL (.int .i64)],[.opt 0 1 J],yp⟩
def ahM:List (Nat×bT):=[(2,⟨[(0,.ptr 1),(1,aG),(10,aG),(11,aG)],aF 1 ah ah.own [],[.ptr 1,.drop]⟩)]
def ahN(k:Nat→ar→Option (Int×ah.D×Unit)):EI:=fun U aa ae ai=>k 2 (bl [(0,aE 1),(1,aQ U),(10,aQ aa),(11,aQ ae)] (aH 1 ah ah.own [] ai) [aE 1,.aB])
theorem PH:Sound Tryz.prog 205 0 Iv:=b8 bk 0 (fn:=Tryz.f205) (fns:=[]) trivial ahM ahN EK vp (fun k x=>EJ k x.1 x.2.1) (by kernel_rfl) rfl
def Xu:Entry:=⟨[aL (.sl (.int .i64)),aL (.int .i64)],[a_ (.int .i64)],MG⟩
def ahO:List (Nat×bT):=[(2,⟨[(0,.cell (.bM (.int .i64) [])),(1,aG),(7,aG),(8,aG)],[],[.drop,.drop]⟩)]
def ahP(k:Nat→ar→Option (Int×Unit)):EL:=fun U aa ae ai=>k 2 (bl [(0,dS (.int .i64) U),(1,aQ aa),(7,aQ ae),(8,aQ ai)] [] [.aB,.aB])
theorem ahQ:Sound Tryz.prog 206 0 Xu:=b8 bk 0 (fn:=Tryz.f206) (fns:=[]) trivial ahO ahP EN vq (fun k x=>EM k x.1 x.2.1) (by kernel_rfl) rfl
def Iw:Entry:=⟨[aL (.sl (.int .i64)),aL (.int .i64)],[a_ .bool],vr⟩
theorem PI:Sound Tryz.prog 171 0 Iw:=cg bk 0 (fn:=Tryz.f171) (fns:=[(206,Xu)]) ⟨ahQ,trivial⟩ (by kernel_rfl)
def PJ:Entry:=⟨[gd ah,aL (.int .i64)],[ro (.sl (.int .i64))],yq⟩
def ahR:List (Nat×bT):=[(4,⟨[(0,.du [] (tb ah .R [] 0)),(5,.cell (.af 1)),(6,.cell (.af 2)),(7,aG)],[(1,.row (.int .i64) .R),(2,.row (.int .i64) .R)],[.drop,.drop]⟩),(9,⟨[(0,.du [] (tb ah .R [] 0)),(5,.cell (.af 1)),(6,.cell (.af 2)),(7,aG),(31,.cell (.bM aJ [])),(32,aG),(33,aG)],[(1,.row (.int .i64) .R),(2,.row (.int .i64) .R)],[.drop,.drop]⟩)]
def ahS(k:Nat→ar→Option ((List Int)×Unit)):vt:=⟨fun U aa ae ai=>k 4 (bl [(0,.du (qc []) (aV ah .R [] U 0) 0),(5,.aV (.af 1 none)),(6,.aV (.af 2 none)),(7,aQ aa)] [(1,.row (.int .i64) .R 0 ae),(2,.row (.int .i64) .R 0 ai)] [.aB,.aB]),fun U aa ae ai aq az aU=>k 9 (bl [(0,.du (qc []) (aV ah .R [] U 0) 0),(5,.aV (.af 1 none)),(6,.aV (.af 2 none)),(7,aQ aa),(31,dS aJ ae),(32,aQ ai),(33,aQ aq)] [(1,.row (.int .i64) .R 0 az),(2,.row (.int .i64) .R 0 aU)] [.aB,.aB])⟩
theorem Xv:Sound Tryz.prog 170 0 PJ:=b8 bk 0 (fn:=Tryz.f170) (fns:=[(171,Iw),(205,pt)]) ⟨PI,qw,trivial⟩ ahR ahS VA m3 (fun k x=>EO k x.1 x.2.1) (by kernel_rfl) rfl
def PK:Entry:=⟨[gd ah,aL (.int .i64)],[a_ (.int .i64)],AQ⟩
def ahT:List (Nat×bT):=[(3,⟨[(1,aG),(5,aG),(13,.cell (.bM J [])),(14,aG),(15,aG)],[],[.drop,.drop]⟩),(6,⟨[(1,aG),(5,aG),(13,.cell (.bM J [])),(14,aG),(15,aG),(20,.cell (.bM aJ [])),(21,aG),(22,aG)],[],[.drop,.drop]⟩)]
def ahU(k:Nat→ar→Option (Int×Unit)):vu:=⟨fun U aa ae ai aq=>k 3 (bl [(1,aQ U),(5,aQ aa),(13,dS J ae),(14,aQ ai),(15,aQ aq)] [] [.aB,.aB]),fun U aa ae ai aq az aU bn=>k 6 (bl [(1,aQ U),(5,aQ aa),(13,dS J ae),(14,aQ ai),(15,aQ aq),(20,dS aJ az),(21,aQ aU),(22,aQ bn)] [] [.aB,.aB])⟩
theorem Xw:Sound Tryz.prog 172 0 PK:=b8 bk 0 (fn:=Tryz.f172) (fns:=[]) trivial ahT ahU VB qd (fun k x=>EP k x.1 x.2.1) (by kernel_rfl) rfl
def PL:Entry:=⟨[gd ah],[a_ (.int .i64)],vw⟩
def ahV:List (Nat×bT):=[(3,⟨[(3,aG),(9,.cell (.bM J [])),(10,aG),(11,aG)],[],[.drop]⟩)]
def ahW(k:Nat→ar→Option (Int×Unit)):ER:=fun U aa ae ai=>k 3 (bl [(3,aQ U),(9,dS J aa),(10,aQ ae),(11,aQ ai)] [] [.aB])
theorem Xx:Sound Tryz.prog 173 0 PL:=b8 bk 0 (fn:=Tryz.f173) (fns:=[]) trivial ahV ahW ET vv (fun k x=>ES k x.1) (by kernel_rfl) rfl
def PM:Entry:=⟨[gd ah,aL (.int .i64)],[a_ (.int .i64),a_ (.int .i64)],AR⟩
def ahX:List (Nat×bT):=[(4,⟨[(0,.du [] (tb ah .R [] 0)),(6,aG),(7,.cell (.af 1)),(14,.cell (.af 1)),(15,aG),(16,aG)],[(1,.row (.int .i64) .R)],[.drop,.drop]⟩)]
def ahY(k:Nat→ar→Option (Int×Int×Unit)):EU:=fun U aa ae ai aq=>k 4 (bl [(0,.du (qc []) (aV ah .R [] U 0) 0),(6,aQ aa),(7,.aV (.af 1 none)),(14,.aV (.af 1 none)),(15,aQ ae),(16,aQ ai)] [(1,.row (.int .i64) .R 0 aq)] [.aB,.aB])
theorem Xy:Sound Tryz.prog 208 0 PM:=b8 bk 0 (fn:=Tryz.f208) (fns:=[(170,PJ),(205,pt)]) ⟨Xv,qw,trivial⟩ ahX ahY EW rq (fun k x=>EV k x.1 x.2.1) (by kernel_rfl) rfl
def Xz:Entry:=⟨[gd ah,aL J],[a_ .bool],MJ⟩
theorem ahZ:Sound Tryz.prog 175 0 Xz:=cg bk 0 (fn:=Tryz.f175) (fns:=[(208,PM)]) ⟨Xy,trivial⟩ (by kernel_rfl)
def XA:Entry:=⟨[aL (.sl J),.fn 1 0,gd ah],[a_ (.int .i64)],MK⟩
def ah0:List (Nat×bT):=[(2,⟨[(0,.cell (.bM J [])),(1,.xm [[.keep,.bM J []]] []),(7,aG),(8,aG)],[],[.drop,.drop,.drop]⟩)]
def ah1(k:Nat→ar→Option (Int×Unit)):EX:=fun U aa ae ai=>k 2 (bl [(0,dS J U),(1,.fn 175 [.du [] [.int .i64 aa.1,.bM J [] none aa.2.1] 0] []),(7,aQ ae),(8,aQ ai)] [] [.aB,.aB,.aB])
theorem ah2:Sound Tryz.prog 207 175 XA:=b8 bk 175 (fn:=Tryz.f207) (fns:=[(175,Xz)]) ⟨ahZ,trivial⟩ ah0 ah1 EZ vx (fun k x=>EY k x.1 x.2.1) (by kernel_rfl) rfl
def XB:Entry:=⟨[aL (.sl J),.fn 1 0,gd ah],[a_ .bool],E0⟩
theorem ah3:Sound Tryz.prog 174 175 XB:=cg bk 175 (fn:=Tryz.f174) (fns:=[(175000207,XA)]) ⟨ah2,trivial⟩ (by kernel_rfl)
def XC:Entry:=⟨[aL ah],[ro ah],tc⟩
def ah4:List (Nat×bT):=[(3,⟨[(2,.ptr 1),(3,.ptr 3),(10,.cell (.bM J [])),(11,aG),(12,aG)],aF 1 ah ah.own []++aF 3 ah ah.own [],[.drop]⟩)]
def ah5(k:Nat→ar→Option (ah.D×Unit)):yr:=fun U aa ae ai aq=>k 3 (bl [(2,aE 1),(3,aE 3),(10,dS J U),(11,aQ aa),(12,aQ ae)] (aH 1 ah ah.own [] ai++aH 3 ah ah.own [] aq) [.aB])
theorem ah6:Sound Tryz.prog 123 0 XC:=b8 bk 0 (fn:=Tryz.f123) (fns:=[]) trivial ah4 ah5 E2 vy (fun k x=>E1 k x.1) (by kernel_rfl) rfl
def XD:Entry:=⟨[gd aY,aL (.int .i64)],[a_ .bool],MM⟩
def ah7:List (Nat×bT):=[(2,⟨[(0,.du [] (tb aY .R [] 0)),(1,aG),(12,.cell (.bM a6 [])),(13,aG),(14,aG)],[],[.drop,.drop]⟩),(8,⟨[(1,aG),(26,.cell (.bM bP [])),(27,aG),(28,aG)],[],[.drop,.drop]⟩)]
def ah8(k:Nat→ar→Option (Bool×Unit)):vz:=⟨fun U aa ae ai aq=>k 2 (bl [(0,.du (qc []) (aV aY .R [] U 0) 0),(1,aQ aa),(12,dS a6 ae),(13,aQ ai),(14,aQ aq)] [] [.aB,.aB]),fun U aa ae ai=>k 8 (bl [(1,aQ U),(26,dS bP aa),(27,aQ ae),(28,aQ ai)] [] [.aB,.aB])⟩
theorem ah9:Sound Tryz.prog 124 0 XD:=b8 bk 0 (fn:=Tryz.f124) (fns:=[]) trivial ah7 ah8 VF td (fun k x=>VE k x.1 x.2.1) (by kernel_rfl) rfl
def PN:Entry:=⟨[gd aY,aL (.int .i64)],[a_ (.int .i64),a_ .bool],E6⟩
def ah_:List (Nat×bT):=[(2,⟨[(0,.du [] (tb aY .R [] 0)),(1,aG),(6,aG)],[],[.drop,.drop]⟩)]
def ah'(k:Nat→ar→Option (Int×Bool×Unit)):E5:=fun U aa ae=>k 2 (bl [(0,.du (qc []) (aV aY .R [] U 0) 0),(1,aQ aa),(6,aQ ae)] [] [.aB,.aB])
theorem XE:Sound Tryz.prog 129 0 PN:=b8 bk 0 (fn:=Tryz.f129) (fns:=[]) trivial ah_ ah' yt yu (fun k x=>VG k x.1 x.2.1) (by kernel_rfl) rfl
def XF:Entry:=⟨[gd aY,aL (.int .i64)],[a_ bP],MO⟩
theorem aia:Sound Tryz.prog 125 0 XF:=cg bk 0 (fn:=Tryz.f125) (fns:=[(129,PN)]) ⟨XE,trivial⟩ (by kernel_rfl)
def yW:Entry:=⟨[aL aI],[a_ .bool],vB⟩
def aib:List (Nat×bT):=[(3,⟨[(1,.ptr 1),(3,aG),(4,aG)],aF 1 aI .R [],[.drop]⟩),(5,⟨[(1,.ptr 1)],aF 1 aI .R [],[.drop]⟩)]
def aic(k:Nat→ar→Option (Bool×Unit)):vA:=⟨fun U aa ae=>k 3 (bl [(1,aE 1),(3,jM U),(4,jM aa)] (aH 1 aI .R [] ae) [.aB]),fun U=>k 5 (bl [(1,aE 1)] (aH 1 aI .R [] U) [.aB])⟩
theorem BE:Sound Tryz.prog 127 0 yW:=b8 bk 0 (fn:=Tryz.f127) (fns:=[(119,j')]) ⟨kB,trivial⟩ aib aic MP E8 (fun k x=>E7 k x.1) (by kernel_rfl) rfl
def Ix:Entry:=⟨[aL (.int .i64)],[a_ .bool],AS⟩
theorem PO:Sound Tryz.prog 128 0 Ix:=cg bk 0 (fn:=Tryz.f128) (fns:=[]) trivial (by kernel_rfl)
def tI:Entry:=⟨[aL (.int .i64)],[a_ an],eE⟩
theorem wQ:Sound Tryz.prog 176 0 tI:=cg bk 0 (fn:=Tryz.f176) (fns:=[]) trivial (by kernel_rfl)
def XG:Entry:=⟨[aL (.int .i64)],[a_ (.int .i64)],MR⟩
theorem aid:Sound Tryz.prog 209 0 XG:=cg bk 0 (fn:=Tryz.f209) (fns:=[(119,j'),(128,Ix)]) ⟨kB,PO,trivial⟩ (by kernel_rfl)
def XH:Entry:=⟨[aL (.int .i64),aL (.int .i64)],[a_ (.int .i64),a_ .bool],MT⟩
theorem aie:Sound Tryz.prog 177 0 XH:=cg bk 0 (fn:=Tryz.f177) (fns:=[(209,XG)]) ⟨aid,trivial⟩ (by kernel_rfl)
def XI:Entry:=⟨[aL (.int .i64)],[ro aK],MV⟩
theorem aif:Sound Tryz.prog 178 0 XI:=cg bk 0 (fn:=Tryz.f178) (fns:=[]) trivial (by kernel_rfl)
def PQ:Entry:=⟨[aL (.int .i64)],[a_ .str],vD⟩
def aih:List (Nat×bT):=[(4,⟨[(0,aG),(3,aG),(4,aG)],[],[.drop]⟩),(7,⟨[(0,aG),(3,aG),(4,aG),(5,aG)],[],[.drop]⟩)]
def aii(k:Nat→ar→Option ((aj)×Unit)):vC:=⟨fun U aa ae=>k 4 (bl [(0,aQ U),(3,eJ aa),(4,aQ ae)] [] [.aB]),fun U aa ae ai=>k 7 (bl [(0,aQ U),(3,eJ aa),(4,aQ ae),(5,aQ ai)] [] [.aB])⟩
theorem XJ:Sound Tryz.prog 210 0 PQ:=b8 bk 0 (fn:=Tryz.f210) (fns:=[(119,j')]) ⟨kB,trivial⟩ aih aii VK m4 (fun k x=>VJ k x.1) (by kernel_rfl) rfl
def XK:Entry:=⟨[aL (.sl a6),aL (.int .i64)],[a_ .str],MY⟩
def aij:List (Nat×bT):=[(5,⟨[(0,.cell (.bM a6 [])),(1,aG),(5,aG),(6,aG)],[],[.drop,.drop]⟩),(11,⟨[(0,.cell (.bM a6 [])),(1,aG),(5,aG),(6,aG),(49,.cell (.af 1)),(50,aG),(51,aG)],[(1,.row (.int .i64) .R)],[.drop,.drop]⟩)]
def aik(k:Nat→ar→Option ((aj)×Unit)):vE:=⟨fun U aa ae ai=>k 5 (bl [(0,dS a6 U),(1,aQ aa),(5,eJ ae),(6,aQ ai)] [] [.aB,.aB]),fun U aa ae ai aq az aU=>k 11 (bl [(0,dS a6 U),(1,aQ aa),(5,eJ ae),(6,aQ ai),(49,.aV (.af 1 none)),(50,aQ aq),(51,aQ az)] [(1,.row (.int .i64) .R 0 aU)] [.aB,.aB])⟩
theorem ail:Sound Tryz.prog 179 0 XK:=b8 bk 0 (fn:=Tryz.f179) (fns:=[(121,Xr),(210,PQ)]) ⟨ahG,XJ,trivial⟩ aij aik VL n5 (fun k x=>E9 k x.1 x.2.1) (by kernel_rfl) rfl
def XL:Entry:=⟨[aL (.int .i64)],[a_ .bool],VM⟩
theorem aim:Sound Tryz.prog 233 0 XL:=cg bk 0 (fn:=Tryz.f233) (fns:=[(119,j')]) ⟨kB,trivial⟩ (by kernel_rfl)
def XM:Entry:=⟨[aL (.sl (.int .i64)),.fn 0 0],[a_ (.int .i64)],M0⟩
def ain:List (Nat×bT):=[(2,⟨[(0,.cell (.bM (.int .i64) [])),(1,.same),(7,aG),(8,aG)],[],[.drop,.drop]⟩)]
def aio(k:Nat→ar→Option (Int×Unit)):Fa:=fun U aa ae=>k 2 (bl [(0,dS (.int .i64) U),(1,.fn 233 [] []),(7,aQ aa),(8,aQ ae)] [] [.aB,.aB])
theorem aip:Sound Tryz.prog 266 233 XM:=b8 bk 233 (fn:=Tryz.f266) (fns:=[(233,XL)]) ⟨aim,trivial⟩ ain aio Fc vF (fun k x=>Fb k x.1) (by kernel_rfl) rfl
def XN:Entry:=⟨[aL (.sl (.int .i64)),.fn 0 0],[a_ .bool],M3⟩
theorem aiq:Sound Tryz.prog 232 233 XN:=cg bk 233 (fn:=Tryz.f232) (fns:=[(233000266,XM)]) ⟨aip,trivial⟩ (by kernel_rfl)
def BF:Entry:=⟨[aL aK],[a_ .bool],yv⟩
theorem Iy:Sound Tryz.prog 211 0 BF:=cg bk 0 (fn:=Tryz.f211) (fns:=[(119,j'),(233000232,XN)]) ⟨kB,aiq,trivial⟩ (by kernel_rfl)
def XO:Entry:=⟨[aL .str],[a_ .bool],M6⟩
theorem air:Sound Tryz.prog 289 0 XO:=cg bk 0 (fn:=Tryz.f289) (fns:=[(203,PG)]) ⟨Xt,trivial⟩ (by kernel_rfl)
def Iz:Entry:=⟨[aL aK,aL (.int .i64)],[a_ .bool],vG⟩
theorem PR:Sound Tryz.prog 282 0 Iz:=cg bk 0 (fn:=Tryz.f282) (fns:=[(171,Iw),(211,BF)]) ⟨PI,Iy,trivial⟩ (by kernel_rfl)
def yX:Entry:=⟨[aL aK,aL J,aL (.int .i64)],[a_ .bool],qe⟩
theorem BG:Sound Tryz.prog 279 0 yX:=cg bk 0 (fn:=Tryz.f279) (fns:=[(119,j'),(211,BF),(282,Iz)]) ⟨kB,Iy,PR,trivial⟩ (by kernel_rfl)
def PS:Entry:=⟨[gd J,aL .str],[a_ (.int .i64)],Fh⟩
def ais:List (Nat×bT):=[(2,⟨[(1,aG),(10,.cell (.bM aJ [])),(11,aG),(12,aG)],[],[.drop,.drop]⟩)]
def ait(k:Nat→ar→Option (Int×Unit)):Fe:=fun U aa ae ai=>k 2 (bl [(1,eJ U),(10,dS aJ aa),(11,aQ ae),(12,aQ ai)] [] [.aB,.aB])
theorem XP:Sound Tryz.prog 291 0 PS:=b8 bk 0 (fn:=Tryz.f291) (fns:=[]) trivial ais ait Fg te (fun k x=>Ff k x.1 x.2.1) (by kernel_rfl) rfl
def XQ:Entry:=⟨[aL .str,aL (.int .i64)],[ro (.sl .str)],VN⟩
theorem aiu:ik Tryz.prog 321 0 XQ:=Vt fun _=>rfl
def XR:Entry:=⟨[aL .str,aL (.int .u8)],[a_ (.int .i64)],VO⟩
theorem aiv:ik Tryz.prog 333 0 XR:=agV Tryz.func333 (by kernel_rfl) (by kernel_rfl) (by kernel_rfl) (by kernel_rfl)
def XS:Entry:=⟨[aL .str,aL (.int .u8)],[a_ (.int .i64)],VP⟩
theorem aiw:Sound Tryz.prog 329 0 XS:=cg bk 0 (fn:=Tryz.f329) (fns:=[(333,XR)]) ⟨aiv,trivial⟩ (by kernel_rfl)
def XT:Entry:=⟨[aL .str,aL .str],[a_ (.int .i64)],VQ⟩
theorem aix:Sound Tryz.prog 327 0 XT:=cg bk 0 (fn:=Tryz.f327) (fns:=[(329,XS)]) ⟨aiw,trivial⟩ (by kernel_rfl)
def PT:Entry:=⟨[aL .str,aL .str],[a_ (.int .i64)],Fi⟩
theorem XU:Sound Tryz.prog 323 0 PT:=cg bk 0 (fn:=Tryz.f323) (fns:=[(327,XT)]) ⟨aix,trivial⟩ (by kernel_rfl)
def XV:Entry:=⟨[aL .str],[a_ (.int .i64)],VR⟩
theorem aiy:ik Tryz.prog 324 0 XV:=Vt fun _=>rfl
def XW:Entry:=⟨[aL .str,aL (.int .u8)],[a_ (.int .i64)],VS⟩
theorem aiz:ik Tryz.prog 326 0 XW:=agW Tryz.func326 (by kernel_rfl) (by kernel_rfl) (by kernel_rfl) (by kernel_rfl)
def XX:Entry:=⟨[aL .str,aL .str],[a_ (.int .i64)],M'⟩
def aiA:List (Nat×bT):=[(6,⟨[(0,aG),(1,aG),(5,aG)],[],[.drop,.drop]⟩)]
def aiB(k:Nat→ar→Option (Int×Unit)):Fj:=fun U aa ae=>k 6 (bl [(0,eJ U),(1,eJ aa),(5,aQ ae)] [] [.aB,.aB])
theorem aiC:Sound Tryz.prog 322 0 XX:=b8 bk 0 (fn:=Tryz.f322) (fns:=[(323,PT),(324,XV),(326,XW)]) ⟨XU,aiy,aiz,trivial⟩ aiA aiB VT Fl (fun k x=>Fk k x.1 x.2.1) (by kernel_rfl) rfl
def XY:Entry:=⟨[aL .str,aL .str,aL (.int .i64),aL (.int .i64)],[ro (.sl .str)],Nc⟩
def aiD:List (Nat×bT):=[(7,⟨[(0,aG),(1,aG),(2,aG),(3,aG)],[],[.drop,.drop,.drop,.drop]⟩),(11,⟨[(0,aG),(1,aG),(2,aG),(3,aG),(9,.cell (.af 1)),(10,aG)],[(1,.row .str .R)],[.drop,.drop,.drop,.drop]⟩),(17,⟨[(0,aG),(9,.cell (.af 1)),(10,aG)],[(1,.row .str .R)],[.drop,.drop,.drop,.drop]⟩)]
def aiE(k:Nat→ar→Option (qf)):rr:=⟨fun U aa ae ai=>k 7 (bl [(0,eJ U),(1,eJ aa),(2,aQ ae),(3,aQ ai)] [] [.aB,.aB,.aB,.aB]),fun U aa ae ai aq az=>k 11 (bl [(0,eJ U),(1,eJ aa),(2,aQ ae),(3,aQ ai),(9,.aV (.af 1 none)),(10,aQ aq)] [(1,.row .str .R 0 az)] [.aB,.aB,.aB,.aB]),fun U aa ae=>k 17 (bl [(0,eJ U),(9,.aV (.af 1 none)),(10,aQ aa)] [(1,.row .str .R 0 ae)] [.aB,.aB,.aB,.aB])⟩
theorem aiF:Sound Tryz.prog 320 0 XY:=b8 bk 0 (fn:=Tryz.f320) (fns:=[(321,XQ),(322,XX),(323,PT)]) ⟨aiu,aiC,XU,trivial⟩ aiD aiE VW ru (fun k x=>Fm k x.1 x.2.1 x.2.2.1 x.2.2.2.1) (by kernel_rfl) rfl
def XZ:Entry:=⟨[aL .str,aL .str],[ro (.sl .str)],Nf⟩
theorem aiG:Sound Tryz.prog 313 0 XZ:=cg bk 0 (fn:=Tryz.f313) (fns:=[(320,XY)]) ⟨aiF,trivial⟩ (by kernel_rfl)
def X0:Entry:=⟨[aL .str],[ro (.sl .str)],tg⟩
def aiH:List (Nat×bT):=[(3,⟨[(3,.cell (.af 1)),(8,.cell (.af 2)),(9,aG),(10,aG)],[(1,.row .str .R),(2,.row .str .R)],[.drop]⟩)]
def aiI(k:Nat→ar→Option (AU)):Fo:=fun U aa ae ai=>k 3 (bl [(3,.aV (.af 1 none)),(8,.aV (.af 2 none)),(9,aQ U),(10,aQ aa)] [(1,.row .str .R 0 ae),(2,.row .str .R 0 ai)] [.aB])
theorem aiJ:Sound Tryz.prog 304 0 X0:=b8 bk 0 (fn:=Tryz.f304) (fns:=[(313,XZ)]) ⟨aiG,trivial⟩ aiH aiI Fq tf (fun k x=>Fp k x.1) (by kernel_rfl) rfl
def X1:Entry:=⟨[gd ah,aL (.int .i64)],[a_ (.int .i64)],Ng⟩
def aiK:List (Nat×bT):=[(2,⟨[(1,aG),(12,.cell (.bM J [])),(13,aG),(14,aG)],[],[.drop,.drop]⟩),(5,⟨[(1,aG),(6,.ptr 1),(12,.cell (.bM J [])),(13,aG),(14,aG),(19,.cell (.bM aJ [])),(20,aG),(21,aG)],aF 1 J .R [],[.drop,.drop]⟩)]
def aiL(k:Nat→ar→Option (Int×Unit)):vH:=⟨fun U aa ae ai=>k 2 (bl [(1,aQ U),(12,dS J aa),(13,aQ ae),(14,aQ ai)] [] [.aB,.aB]),fun U aa ae ai aq az aU bn=>k 5 (bl [(1,aQ U),(6,aE 1),(12,dS J aa),(13,aQ ae),(14,aQ ai),(19,dS aJ aq),(20,aQ az),(21,aQ aU)] (aH 1 J .R [] bn) [.aB,.aB])⟩
theorem aiM:Sound Tryz.prog 305 0 X1:=b8 bk 0 (fn:=Tryz.f305) (fns:=[]) trivial aiK aiL VY kW (fun k x=>Fs k x.1 x.2.1) (by kernel_rfl) rfl
def X2:Entry:=⟨[gd ah,aL aK,aL .str,aL .bool],[a_ a8],Nh⟩
def aiN:List (Nat×bT):=[(3,⟨[(0,.du [] (tb ah .R [] 0)),(3,aG),(5,.ptr 1),(8,.ptr 2),(9,.cell (.aw 3)),(10,aG),(11,aG)],aF 1 aK .R []++aF 2 a8 .R []++[(3,.row .str .R)],[.drop,.drop,.drop,.drop]⟩)]
def aiO(k:Nat→ar→Option (a8.D×Unit)):th:=fun U aa ae ai aq az aU bn bu=>k 3 (bl [(0,.du (qc []) (aV ah .R [] U 0) 0),(3,jM aa),(5,aE 1),(8,aE 2),(9,.aV (.af 3 (some (ae,ai)))),(10,aQ aq),(11,aQ az)] (aH 1 aK .R [] aU++aH 2 a8 .R [] bn++[(3,.row .str .R 0 bu)]) [.aB,.aB,.aB,.aB])
theorem aiP:Sound Tryz.prog 290 0 X2:=b8 bk 0 (fn:=Tryz.f290) (fns:=[(205,pt),(279,yX),(291,PS),(304,X0),(305,X1)]) ⟨qw,BG,XP,aiJ,aiM,trivial⟩ aiN aiO mf gz (fun k x=>Ft k x.1 x.2.1 x.2.2.1 x.2.2.2.1) (by kernel_rfl) rfl
def yY:Entry:=⟨[gd aN,aL .str,aL .bool],[a_ a8],lB⟩
theorem BH:Sound Tryz.prog 271 0 yY:=cg bk 0 (fn:=Tryz.f271) (fns:=[(289,XO),(290,X2)]) ⟨air,aiP,trivial⟩ (by kernel_rfl)
def PU:Entry:=⟨[gd aN,aL .str],[a_ a8,a_ (.int .i64)],vK⟩
theorem X3:Sound Tryz.prog 267 0 PU:=cg bk 0 (fn:=Tryz.f267) (fns:=[(271,yY)]) ⟨BH,trivial⟩ (by kernel_rfl)
def BI:Entry:=⟨[gd aN,aL (.int .i64)],[a_ .bool],n6⟩
theorem IA:Sound Tryz.prog 268 0 BI:=cg bk 0 (fn:=Tryz.f268) (fns:=[(205,pt),(279,yX)]) ⟨qw,BG,trivial⟩ (by kernel_rfl)
def X4:Entry:=⟨[zN (.sl aJ),aL (.int .i64),zN (.sl aJ)],[ro (.sl aJ)],V3⟩
theorem aiQ:ik Tryz.prog 288 0 X4:=ins_soundX
def IB:Entry:=⟨[.«mut» aN cz cz,aL (.int .i64),aL .str,aL (.int .i64)],[],tj⟩
def aiR:List (Nat×bT):=[(2,⟨[(2,aG),(3,aG),(8,.opt 1),(9,aG)],[(1,.row J wP),(2,.var [.keep,.af 1,.keep,.keep,.bM (.int .i64) [],.keep,.keep,.keep,.keep,.keep,.keep])],[.ptr 2,.drop,.drop,.drop]⟩),(4,⟨[(2,aG),(3,aG),(8,.opt 1),(9,aG)],[(1,.row J wP),(2,.var [.keep,.af 1,.keep,.keep,.bM (.int .i64) [],.keep,.keep,.keep,.keep,.keep,.keep])],[.ptr 2,.drop,.drop,.drop]⟩)]
def aiS(k:Nat→ar→Option (aN.D×Unit)):vL:=⟨fun U aa ae ai aq=>k 2 (bl [(2,eJ U),(3,aQ aa),(8,.opt 1 ae),(9,aQ ai)] ([(1,.row J wP 0 aq.1.2.1),(2,.var 0 [.int .i64 aq.1.1,.af 1 none,.int .i64 aq.2.1.1,.int .i64 aq.2.1.2.1,.bM (.int .i64) [] none aq.2.1.2.2.1,.int .i64 aq.2.2.1.1,.str aq.2.2.1.2.1,.str aq.2.2.1.2.2.1,.int .i64 aq.2.2.1.2.2.2.1,.int .i64 aq.2.2.1.2.2.2.2.1,.str aq.2.2.1.2.2.2.2.2.1])]) [aE 2,.aB,.aB,.aB]),fun U aa ae ai aq=>k 4 (bl [(2,eJ U),(3,aQ aa),(8,.opt 1 ae),(9,aQ ai)] ([(1,.row J wP 0 aq.1.2.1),(2,.var 0 [.int .i64 aq.1.1,.af 1 none,.int .i64 aq.2.1.1,.int .i64 aq.2.1.2.1,.bM (.int .i64) [] none aq.2.1.2.2.1,.int .i64 aq.2.2.1.1,.str aq.2.2.1.2.1,.str aq.2.2.1.2.2.1,.int .i64 aq.2.2.1.2.2.2.1,.int .i64 aq.2.2.1.2.2.2.2.1,.str aq.2.2.1.2.2.2.2.2.1])]) [aE 2,.aB,.aB,.aB])⟩
theorem PV:Sound Tryz.prog 269 0 IB:=b8 bk 0 (fn:=Tryz.f269) (fns:=[(288,X4),(205,Iv)]) ⟨aiQ,PH,trivial⟩ aiR aiS V4 ti (fun k x=>Fu k x.1 x.2.1 x.2.2.1 x.2.2.2.1) (by kernel_rfl) rfl
def yZ:Entry:=⟨[gd aN],[a_ (.int .i64)],n7⟩
theorem BJ:Sound Tryz.prog 270 0 yZ:=cg bk 0 (fn:=Tryz.f270) (fns:=[(173,PL),(175000174,XB)]) ⟨Xx,ah3,trivial⟩ (by kernel_rfl)
def X5:Entry:=⟨[.«mut» aN cz cz],[a_ (.int .i64)],AX⟩
def aiT:List (Nat×bT):=[(4,⟨[(0,.ptr 1),(3,.ptr 3)],aF 1 aN cz []++aF 3 aI .R [],[.ptr 1]⟩),(23,⟨[(0,.ptr 1),(4,.ptr 3),(7,.ptr 4)],aF 1 aN cz []++aF 3 a8 .R []++aF 4 J J.own [],[.ptr 1]⟩)]
def aiU(k:Nat→ar→Option (Int×aN.D×Unit)):vM:=⟨fun U aa=>k 4 (bl [(0,aE 1),(3,aE 3)] (aH 1 aN cz [] U++aH 3 aI .R [] aa) [aE 1]),fun U aa ae=>k 23 (bl [(0,aE 1),(4,aE 3),(7,aE 4)] (aH 1 aN cz [] U++aH 3 a8 .R [] aa++aH 4 J J.own [] ae) [aE 1])⟩
theorem aiV:Sound Tryz.prog 234 0 X5:=b8 bk 0 (fn:=Tryz.f234) (fns:=[(119,j'),(203,PG),(205,pt),(267,PU),(268,BI),(269,IB),(270,yZ)]) ⟨kB,Xt,qw,X3,IA,PV,BJ,trivial⟩ aiT aiU V5 lC (fun k x=>Fv k x.1) (by kernel_rfl) rfl
def IC:Entry:=⟨[aL aK,aL J,aL J],[a_ .bool],tk⟩
theorem PW:Sound Tryz.prog 272 0 IC:=cg bk 0 (fn:=Tryz.f272) (fns:=[(211,BF)]) ⟨Iy,trivial⟩ (by kernel_rfl)
def PX:Entry:=⟨[aL aJ,gd .str],[a_ .bool],Fw⟩
theorem X6:Sound Tryz.prog 293 0 PX:=cg bk 0 (fn:=Tryz.f293) (fns:=[]) trivial (by kernel_rfl)
def X7:Entry:=⟨[aL (.sl aJ),.fn 0 1,gd .str],[a_ (.int .i64)],Np⟩
def aiW:List (Nat×bT):=[(2,⟨[(0,.cell (.bM aJ [])),(1,.xm [] [[.keep]]),(7,aG),(8,aG)],[],[.drop,.drop,.drop]⟩)]
def aiX(k:Nat→ar→Option (Int×Unit)):Fx:=fun U aa ae ai=>k 2 (bl [(0,dS aJ U),(1,.fn 293 [] [.du [] [.str aa] 0]),(7,aQ ae),(8,aQ ai)] [] [.aB,.aB,.aB])
theorem aiY:Sound Tryz.prog 306 293 X7:=b8 bk 293 (fn:=Tryz.f306) (fns:=[(293,PX)]) ⟨X6,trivial⟩ aiW aiX Fy yw (fun k x=>V6 k x.1 x.2.1) (by kernel_rfl) rfl
def X8:Entry:=⟨[zN (.sl aJ),.fn 0 1,gd .str],[ro (.sl aJ)],FC⟩
def aiZ:List (Nat×bT):=[(5,⟨[(0,.cell (.af 1)),(1,.xm [] [[.keep]]),(5,aG),(6,aG)],[(1,.row aJ .R)],[.drop,.drop,.drop]⟩)]
def ai0(k:Nat→ar→Option (yx)):Fz:=fun U aa ae ai=>k 5 (bl [(0,.aV (.af 1 none)),(1,.fn 293 [] [.du [] [.str U] 0]),(5,aQ aa),(6,aQ ae)] [(1,.row aJ .R 0 ai)] [.aB,.aB,.aB])
theorem ai1:Sound Tryz.prog 292 293 X8:=b8 bk 293 (fn:=Tryz.f292) (fns:=[(293,PX),(293000306,X7)]) ⟨X6,aiY,trivial⟩ aiZ ai0 FB yy (fun k x=>FA k x.1 x.2.1) (by kernel_rfl) rfl
def X9:Entry:=⟨[zN (.sl J),.fn 0 1,gd (.int .i64)],[ro (.sl J)],V8⟩
theorem ai2:ik Tryz.prog 294 295 X9:=agX (T:=J) (T':=pL.eQ) (p:=fun y i=> !(y.1==i)) (p':=fun y i=> !pL.jG y i) rfl (fun x y i h=>by rw [show x.1=y.1 from h.1];rfl) (fq:=pL.Kc) pL.adv.x (fun ys i h=>pL.del_eq ys i h)
def PY:Entry:=⟨[.«mut» aN cz cz,aL (.int .i64),aL .str,aL .bool],[],pb⟩
theorem X_:Sound Tryz.prog 273 0 PY:=cg bk 0 (fn:=Tryz.f273) (fns:=[(172,PK),(291,PS),(293000292,X8),(295000294,X9),(205,Iv)]) ⟨Xw,XP,ai1,ai2,PH,trivial⟩ (by kernel_rfl)
def X':Entry:=⟨[.«mut» aN cz cz],[a_ (.int .i64)],FE⟩
def ai3:List (Nat×bT):=[(5,⟨[(0,.ptr 1),(3,.ptr 3),(4,.ptr 4)],aF 1 aN cz []++aF 3 a8 .R []++aF 4 J .R [2,1],[.ptr 1]⟩),(7,⟨[(0,.ptr 1),(3,.ptr 3),(4,.ptr 4)],aF 1 aN cz []++aF 3 a8 .R []++aF 4 J .R [2,1],[.ptr 1]⟩),(9,⟨[(0,.ptr 1),(3,.ptr 3),(4,.ptr 4)],aF 1 aN cz []++aF 3 a8 .R []++aF 4 J .R [2,1],[.ptr 1]⟩),(11,⟨[(0,.ptr 1),(3,.ptr 3),(4,.ptr 4)],aF 1 aN cz []++aF 3 a8 .R []++aF 4 J .R [2,1],[.ptr 1]⟩)]
def ai4(k:Nat→ar→Option (Int×aN.D×Unit)):ry:=⟨fun U aa ae=>k 5 (bl [(0,aE 1),(3,aE 3),(4,aE 4)] (aH 1 aN cz [] U++aH 3 a8 .R [] aa++aH 4 J .R [2,1] ae) [aE 1]),fun U aa ae=>k 7 (bl [(0,aE 1),(3,aE 3),(4,aE 4)] (aH 1 aN cz [] U++aH 3 a8 .R [] aa++aH 4 J .R [2,1] ae) [aE 1]),fun U aa ae=>k 9 (bl [(0,aE 1),(3,aE 3),(4,aE 4)] (aH 1 aN cz [] U++aH 3 a8 .R [] aa++aH 4 J .R [2,1] ae) [aE 1]),fun U aa ae=>k 11 (bl [(0,aE 1),(3,aE 3),(4,aE 4)] (aH 1 aN cz [] U++aH 3 a8 .R [] aa++aH 4 J .R [2,1] ae) [aE 1])⟩
theorem ai5:Sound Tryz.prog 235 0 X':=b8 bk 0 (fn:=Tryz.f235) (fns:=[(205,pt),(268,BI),(271,yY),(272,IC),(273,PY)]) ⟨qw,IA,BH,PW,X_,trivial⟩ ai3 ai4 V9 pc (fun k x=>FD k x.1) (by kernel_rfl) rfl
def PZ:Entry:=⟨[gd ah,aL (.int .i64)],[a_ .bool],AY⟩
theorem Ya:Sound Tryz.prog 274 0 PZ:=cg bk 0 (fn:=Tryz.f274) (fns:=[(205,pt)]) ⟨qw,trivial⟩ (by kernel_rfl)
def Yb:Entry:=⟨[.«mut» aN cz cz],[a_ (.int .i64)],FF⟩
theorem ai6:Sound Tryz.prog 236 0 Yb:=cg bk 0 (fn:=Tryz.f236) (fns:=[(205,pt),(267,PU),(268,BI),(269,IB),(270,yZ),(271,yY),(274,PZ)]) ⟨qw,X3,IA,PV,BJ,BH,Ya,trivial⟩ (by kernel_rfl)
def Yc:Entry:=⟨[gd aN,aL J,aL a8],[a_ (.int .i64)],FG⟩
theorem ai7:Sound Tryz.prog 275 0 Yc:=cg bk 0 (fn:=Tryz.f275) (fns:=[(205,pt),(272,IC)]) ⟨qw,PW,trivial⟩ (by kernel_rfl)
def Yd:Entry:=⟨[.«mut» aN cz cz],[a_ (.int .i64)],FI⟩
def ai8:List (Nat×bT):=[(7,⟨[(0,.ptr 1),(3,.ptr 3),(4,.ptr 4)],aF 1 aN cz []++aF 3 a8 .R []++aF 4 a8 .R [],[.ptr 1]⟩),(10,⟨[(0,.ptr 1),(3,.ptr 3),(4,.ptr 4),(5,.ptr 5)],aF 1 aN cz []++aF 3 a8 .R []++aF 4 a8 .R []++aF 5 J .R [2,1],[.ptr 1]⟩),(16,⟨[(0,.ptr 1),(3,.ptr 3),(4,.ptr 4),(5,.ptr 5)],aF 1 aN cz []++aF 3 a8 .R []++aF 4 a8 .R []++aF 5 J .R [2,1],[.ptr 1]⟩),(25,⟨[(0,.ptr 1),(3,.ptr 3),(4,.ptr 4)],aF 1 aN cz []++aF 3 a8 .R []++aF 4 a8 .R [],[.ptr 1]⟩)]
def ai9(k:Nat→ar→Option (Int×aN.D×Unit)):rz:=⟨fun U aa ae=>k 7 (bl [(0,aE 1),(3,aE 3),(4,aE 4)] (aH 1 aN cz [] U++aH 3 a8 .R [] aa++aH 4 a8 .R [] ae) [aE 1]),fun U aa ae ai=>k 10 (bl [(0,aE 1),(3,aE 3),(4,aE 4),(5,aE 5)] (aH 1 aN cz [] U++aH 3 a8 .R [] aa++aH 4 a8 .R [] ae++aH 5 J .R [2,1] ai) [aE 1]),fun U aa ae ai=>k 16 (bl [(0,aE 1),(3,aE 3),(4,aE 4),(5,aE 5)] (aH 1 aN cz [] U++aH 3 a8 .R [] aa++aH 4 a8 .R [] ae++aH 5 J .R [2,1] ai) [aE 1]),fun U aa ae=>k 25 (bl [(0,aE 1),(3,aE 3),(4,aE 4)] (aH 1 aN cz [] U++aH 3 a8 .R [] aa++aH 4 a8 .R [] ae) [aE 1])⟩
theorem ai_:Sound Tryz.prog 237 0 Yd:=b8 bk 0 (fn:=Tryz.f237) (fns:=[(170,PJ),(171,Iw),(205,pt),(268,BI),(269,IB),(270,yZ),(271,yY),(272,IC),(273,PY),(275,Yc)]) ⟨Xv,PI,qw,IA,PV,BJ,BH,PW,X_,ai7,trivial⟩ ai8 ai9 V_ jw (fun k x=>FH k x.1) (by kernel_rfl) rfl
def rY:Entry:=⟨[.«mut» aN cz cz,aL .bool],[.opt 0 1 J,a_ (.int .i64)],m5⟩
theorem tJ:Sound Tryz.prog 278 0 rY:=cg bk 0 (fn:=Tryz.f278) (fns:=[(271,yY),(205,Iv)]) ⟨BH,PH,trivial⟩ (by kernel_rfl)
def P0:Entry:=⟨[.«mut» aN cz cz,aL (.int .i64)],[.opt 0 1 J,a_ (.int .i64)],A0⟩
theorem Ye:Sound Tryz.prog 276 0 P0:=cg bk 0 (fn:=Tryz.f276) (fns:=[(278,rY),(279,yX)]) ⟨tJ,BG,trivial⟩ (by kernel_rfl)
def Yf:Entry:=⟨[.«mut» aN cz cz],[a_ an],FJ⟩
theorem ai':Sound Tryz.prog 238 0 Yf:=cg bk 0 (fn:=Tryz.f238) (fns:=[(176,tI),(276,P0)]) ⟨wQ,Ye,trivial⟩ (by kernel_rfl)
def Yg:Entry:=⟨[aL .str,aL (.int .i64)],[a_ .str],strings_Repeat⟩
theorem aja:ik Tryz.prog 296 0 Yg:=rep_soundX
def Yh:Entry:=⟨[aL .str,aL (.int .i64)],[a_ .str],FK⟩
theorem ajb:Sound Tryz.prog 277 0 Yh:=cg bk 0 (fn:=Tryz.f277) (fns:=[(296,Yg)]) ⟨aja,trivial⟩ (by kernel_rfl)
def Yi:Entry:=⟨[.«mut» aN cz cz],[a_ (.int .i64)],FM⟩
def ajc:List (Nat×bT):=[(7,⟨[(0,.ptr 1),(3,.opt 2),(5,aG)],aF 1 aN cz [],[.ptr 1]⟩),(11,⟨[(0,.ptr 1),(3,.opt 2),(5,aG)],aF 1 aN cz [],[.ptr 1]⟩),(18,⟨[(0,.ptr 1),(3,.opt 2),(6,aG)],aF 1 aN cz [],[.ptr 1]⟩)]
def ajd(k:Nat→ar→Option (Int×aN.D×Unit)):tl:=⟨fun U aa ae=>k 7 (bl [(0,aE 1),(3,.opt 2 U),(5,aQ aa)] (aH 1 aN cz [] ae) [aE 1]),fun U aa ae=>k 11 (bl [(0,aE 1),(3,.opt 2 U),(5,aQ aa)] (aH 1 aN cz [] ae) [aE 1]),fun U aa ae=>k 18 (bl [(0,aE 1),(3,.opt 2 U),(6,eJ aa)] (aH 1 aN cz [] ae) [aE 1])⟩
theorem aje:Sound Tryz.prog 239 0 Yi:=b8 bk 0 (fn:=Tryz.f239) (fns:=[(270,yZ),(276,P0),(277,Yh)]) ⟨BJ,Ye,ajb,trivial⟩ ajc ajd Wc gI (fun k x=>FL k x.1) (by kernel_rfl) rfl
def Yj:Entry:=⟨[.«mut» aN cz cz],[a_ an],FN⟩
theorem ajf:Sound Tryz.prog 240 0 Yj:=cg bk 0 (fn:=Tryz.f240) (fns:=[(176,tI),(278,rY)]) ⟨wQ,tJ,trivial⟩ (by kernel_rfl)
def P1:Entry:=⟨[aL (.sl .str),aL .str],[a_ .str],strings_Join⟩
theorem Yk:ik Tryz.prog 280 0 P1:=join_soundX
def ID:Entry:=⟨[aL (.sl (.int .i64))],[a_ .str],rB⟩
def ajg:List (Nat×bT):=[(3,⟨[(3,.cell (.af 1)),(7,.cell (.bM (.int .i64) [])),(8,aG),(9,aG)],[(1,.row .str .R)],[.drop]⟩)]
def ajh(k:Nat→ar→Option ((aj)×Unit)):FO:=fun U aa ae ai=>k 3 (bl [(3,.aV (.af 1 none)),(7,dS (.int .i64) U),(8,aQ aa),(9,aQ ae)] [(1,.row .str .R 0 ai)] [.aB])
theorem P2:Sound Tryz.prog 246 0 ID:=b8 bk 0 (fn:=Tryz.f246) (fns:=[(210,PQ),(280,P1)]) ⟨XJ,Yk,trivial⟩ ajg ajh FP vN (fun k x=>We k x.1) (by kernel_rfl) rfl
def Yl:Entry:=⟨[.«mut» aN cz cz],[a_ an],A2⟩
def aji:List (Nat×bT):=[(13,⟨[(2,.ptr 1),(7,.cell (.af 2)),(73,.cell (.bM aJ [3])),(74,aG),(75,aG)],aF 1 an .R []++[(2,.row .str .R),(3,.row J wP),(4,.var [.keep,.af 3,.keep,.keep,.bM (.int .i64) [],.keep,.keep,.keep,.keep,.keep,.keep])],[.ptr 4]⟩)]
def ajj(k:Nat→ar→Option (A1)):FQ:=fun U aa ae ai aq az=>k 13 (bl [(2,aE 1),(7,.aV (.af 2 none)),(73,.aV (.bM aJ (qc [3]) none U)),(74,aQ aa),(75,aQ ae)] (aH 1 an .R [] ai++[(2,.row .str .R 0 aq),(3,.row J wP 0 az.1.2.1),(4,.var 0 [.int .i64 az.1.1,.af 3 none,.int .i64 az.2.1.1,.int .i64 az.2.1.2.1,.bM (.int .i64) [] none az.2.1.2.2.1,.int .i64 az.2.2.1.1,.str az.2.2.1.2.1,.str az.2.2.1.2.2.1,.int .i64 az.2.2.1.2.2.2.1,.int .i64 az.2.2.1.2.2.2.2.1,.str az.2.2.1.2.2.2.2.2.1])]) [aE 4])
theorem ajk:Sound Tryz.prog 241 0 Yl:=b8 bk 0 (fn:=Tryz.f241) (fns:=[(176,tI),(208,PM),(246,ID),(278,rY),(279,yX),(280,P1)]) ⟨wQ,Xy,P2,tJ,BG,Yk,trivial⟩ aji ajj FT rC (fun k x=>FR k x.1) (by kernel_rfl) rfl
def Ym:Entry:=⟨[gd ah,aL J],[a_ (.int .i64)],NL⟩
def ajl:List (Nat×bT):=[(5,⟨[(0,.du [] (tb ah .R [] 0)),(5,aG),(16,.cell (.bM aJ [])),(17,aG),(18,aG)],[],[.drop,.drop]⟩)]
def ajm(k:Nat→ar→Option (Int×Unit)):FU:=fun U aa ae ai aq=>k 5 (bl [(0,.du (qc []) (aV ah .R [] U 0) 0),(5,aQ aa),(16,dS aJ ae),(17,aQ ai),(18,aQ aq)] [] [.aB,.aB])
theorem ajn:Sound Tryz.prog 281 0 Ym:=b8 bk 0 (fn:=Tryz.f281) (fns:=[(172,PK),(274,PZ)]) ⟨Xw,Ya,trivial⟩ ajl ajm FW tm (fun k x=>FV k x.1 x.2.1) (by kernel_rfl) rfl
def Yn:Entry:=⟨[.«mut» aN cz cz],[a_ an],A3⟩
theorem ajo:Sound Tryz.prog 242 0 Yn:=cg bk 0 (fn:=Tryz.f242) (fns:=[(119,j'),(176,tI),(246,ID),(278,rY),(281,Ym)]) ⟨kB,wQ,P2,tJ,ajn,trivial⟩ (by kernel_rfl)
def Yo:Entry:=⟨[.«mut» aN cz cz],[a_ (.int .i64)],FZ⟩
def ajp:List (Nat×bT):=[(8,⟨[(0,.ptr 1),(3,.opt 2)],aF 1 aN cz [],[.ptr 1]⟩)]
def ajq(k:Nat→ar→Option (Int×aN.D×Unit)):FX:=fun U aa=>k 8 (bl [(0,aE 1),(3,.opt 2 U)] (aH 1 aN cz [] aa) [aE 1])
theorem ajr:Sound Tryz.prog 243 0 Yo:=b8 bk 0 (fn:=Tryz.f243) (fns:=[(119,j'),(278,rY),(282,Iz)]) ⟨kB,tJ,PR,trivial⟩ ajp ajq NO rD (fun k x=>FY k x.1) (by kernel_rfl) rfl
def Yp:Entry:=⟨[.«mut» aN cz cz],[a_ (.int .i64)],F4⟩
def ajs:List (Nat×bT):=[(8,⟨[(0,.ptr 1),(3,.opt 2)],aF 1 aN cz [],[.ptr 1]⟩)]
def ajt(k:Nat→ar→Option (Int×aN.D×Unit)):F2:=fun U aa=>k 8 (bl [(0,aE 1),(3,.opt 2 U)] (aH 1 aN cz [] aa) [aE 1])
theorem aju:Sound Tryz.prog 244 0 Yp:=b8 bk 0 (fn:=Tryz.f244) (fns:=[(119,j'),(278,rY),(282,Iz)]) ⟨kB,tJ,PR,trivial⟩ ajs ajt NQ rE (fun k x=>F3 k x.1) (by kernel_rfl) rfl
def Yq:Entry:=⟨[.«mut» aN cz cz],[a_ (.int .i64)],F5⟩
theorem ajv:Sound Tryz.prog 245 0 Yq:=cg bk 0 (fn:=Tryz.f245) (fns:=[(119,j'),(278,rY),(279,yX)]) ⟨kB,tJ,BG,trivial⟩ (by kernel_rfl)
def Yr:Entry:=⟨[.«mut» aN cz cz],[a_ (.int .i64)],F7⟩
theorem ajw:Sound Tryz.prog 247 0 Yr:=cg bk 0 (fn:=Tryz.f247) (fns:=[(119,j'),(270,yZ),(278,rY)]) ⟨kB,BJ,tJ,trivial⟩ (by kernel_rfl)
def Ys:Entry:=⟨[.«mut» aN cz cz],[a_ an],F9⟩
def ajx:List (Nat×bT):=[(5,⟨[(0,.ptr 1),(2,.ptr 3)],aF 1 aN cz []++aF 3 an .R [],[.ptr 1]⟩),(6,⟨[(0,.ptr 1),(2,.ptr 3),(7,aG)],aF 1 aN cz []++aF 3 an .R [],[.ptr 1]⟩),(8,⟨[(0,.ptr 1),(2,.ptr 3)],aF 1 aN cz []++aF 3 an .R [],[.ptr 1]⟩),(9,⟨[(0,.ptr 1),(2,.ptr 3),(7,aG)],aF 1 aN cz []++aF 3 an .R [],[.ptr 1]⟩),(18,⟨[(0,.ptr 1),(2,.ptr 3)],aF 1 aN cz []++aF 3 an .R [],[.ptr 1]⟩),(19,⟨[(0,.ptr 1),(2,.ptr 3),(7,aG)],aF 1 aN cz []++aF 3 an .R [],[.ptr 1]⟩),(24,⟨[(0,.ptr 1),(2,.ptr 3),(7,aG)],aF 1 aN cz []++aF 3 an .R [],[.ptr 1]⟩)]
def ajy(k:Nat→ar→Option (kt)):n8:=⟨fun U aa=>k 5 (bl [(0,aE 1),(2,aE 3)] (aH 1 aN cz [] U++aH 3 an .R [] aa) [aE 1]),fun U aa ae=>k 6 (bl [(0,aE 1),(2,aE 3),(7,aQ U)] (aH 1 aN cz [] aa++aH 3 an .R [] ae) [aE 1]),fun U aa=>k 8 (bl [(0,aE 1),(2,aE 3)] (aH 1 aN cz [] U++aH 3 an .R [] aa) [aE 1]),fun U aa ae=>k 9 (bl [(0,aE 1),(2,aE 3),(7,aQ U)] (aH 1 aN cz [] aa++aH 3 an .R [] ae) [aE 1]),fun U aa=>k 18 (bl [(0,aE 1),(2,aE 3)] (aH 1 aN cz [] U++aH 3 an .R [] aa) [aE 1]),fun U aa ae=>k 19 (bl [(0,aE 1),(2,aE 3),(7,aQ U)] (aH 1 aN cz [] aa++aH 3 an .R [] ae) [aE 1]),fun U aa ae=>k 24 (bl [(0,aE 1),(2,aE 3),(7,aQ U)] (aH 1 aN cz [] aa++aH 3 an .R [] ae) [aE 1])⟩
theorem ajz:Sound Tryz.prog 212 0 Ys:=b8 bk 0 (fn:=Tryz.f212) (fns:=[(173,PL),(176,tI),(234,X5),(235,X'),(236,Yb),(237,Yd),(238,Yf),(239,Yi),(240,Yj),(241,Yl),(242,Yn),(243,Yo),(244,Yp),(245,Yq),(246,ID),(247,Yr)]) ⟨Xx,wQ,aiV,ai5,ai6,ai_,ai',aje,ajf,ajk,ajo,ajr,aju,ajv,P2,ajw,trivial⟩ ajx ajy Wi NU (fun k x=>F8 k x.1) (by kernel_rfl) rfl
def Yt:Entry:=⟨[aL ah,aL aK,aL aI],[ro ah,a_ an],A4⟩
theorem ajA:Sound Tryz.prog 180 0 Yt:=cg bk 0 (fn:=Tryz.f180) (fns:=[(123,XC),(127,yW),(176,tI),(211,BF),(212,Ys)]) ⟨ah6,BE,wQ,Iy,ajz,trivial⟩ (by kernel_rfl)
def Yu:Entry:=⟨[yk aY,aL (.int .i64),aL aI],[a_ an],Ga⟩
def ajB:List (Nat×bT):=[(10,⟨[(0,.ptr 1),(5,.ptr 5),(6,.ptr 6),(9,.ptr 7)],aF 1 aY aY.own []++aF 5 aI .R []++aF 6 an .R []++aF 7 aK aK.own [],[.ptr 1,.drop,.drop]⟩),(12,⟨[(0,.ptr 1),(5,.ptr 5),(6,.ptr 6),(9,.ptr 7)],aF 1 aY aY.own []++aF 5 aI .R []++aF 6 an .R []++aF 7 aK aK.own [],[.ptr 1,.drop,.drop]⟩),(19,⟨[(0,.ptr 1),(5,.ptr 5),(6,.ptr 6),(9,.ptr 7)],aF 1 aY aY.own []++aF 5 aI .R []++aF 6 an .R []++aF 7 aK aK.own [],[.ptr 1,.drop,.drop]⟩)]
def ajC(k:Nat→ar→Option (rF)):tp:=⟨fun U aa ae ai=>k 10 (bl [(0,aE 1),(5,aE 5),(6,aE 6),(9,aE 7)] (aH 1 aY aY.own [] U++aH 5 aI .R [] aa++aH 6 an .R [] ae++aH 7 aK aK.own [] ai) [aE 1,.aB,.aB]),fun U aa ae ai=>k 12 (bl [(0,aE 1),(5,aE 5),(6,aE 6),(9,aE 7)] (aH 1 aY aY.own [] U++aH 5 aI .R [] aa++aH 6 an .R [] ae++aH 7 aK aK.own [] ai) [aE 1,.aB,.aB]),fun U aa ae ai=>k 19 (bl [(0,aE 1),(5,aE 5),(6,aE 6),(9,aE 7)] (aH 1 aY aY.own [] U++aH 5 aI .R [] aa++aH 6 an .R [] ae++aH 7 aK aK.own [] ai) [aE 1,.aB,.aB])⟩
theorem ajD:Sound Tryz.prog 126 0 Yu:=b8 bk 0 (fn:=Tryz.f126) (fns:=[(127,yW),(128,Ix),(176,tI),(177,XH),(178,XI),(179,XK),(180,Yt)]) ⟨BE,PO,wQ,aie,aif,ail,ajA,trivial⟩ ajB ajC Wk mg (fun k x=>F_ k x.1 x.2.1 x.2.2.1) (by kernel_rfl) rfl
def Yv:Entry:=⟨[yk aY,aL (.int .i64),aL (.int .i64),aL aI,aL (.int .i64)],[a_ an,a_ .bool],yB⟩
def ajE:List (Nat×bT):=[(10,⟨[(0,.ptr 1),(1,aG),(2,aG),(4,aG),(8,.ptr 5),(10,.ptr 6),(13,.ptr 7),(14,aG)],aF 1 aY aY.own []++aF 5 aI .R []++aF 6 an .R []++aF 7 an .R [],[.ptr 1,.drop,.drop,.drop,.drop]⟩),(11,⟨[(0,.ptr 1),(1,aG),(2,aG),(4,aG),(8,.ptr 5),(10,.ptr 6),(13,.ptr 7)],aF 1 aY aY.own []++aF 5 aI .R []++aF 6 an .R []++aF 7 an .R [],[.ptr 1,.drop,.drop,.drop,.drop]⟩),(12,⟨[(0,.ptr 1),(1,aG),(2,aG),(4,aG),(10,.ptr 5),(13,.ptr 6)],aF 1 aY aY.own []++aF 5 an .R []++aF 6 an .R [],[.ptr 1,.drop,.drop,.drop,.drop]⟩)]
def ajF(k:Nat→ar→Option (m6)):rG:=⟨fun U aa ae ai aq az aU bn=>k 10 (bl [(0,aE 1),(1,aQ U),(2,aQ aa),(4,aQ ae),(8,aE 5),(10,aE 6),(13,aE 7),(14,jM ai)] (aH 1 aY aY.own [] aq++aH 5 aI .R [] az++aH 6 an .R [] aU++aH 7 an .R [] bn) [aE 1,.aB,.aB,.aB,.aB]),fun U aa ae ai aq az aU=>k 11 (bl [(0,aE 1),(1,aQ U),(2,aQ aa),(4,aQ ae),(8,aE 5),(10,aE 6),(13,aE 7)] (aH 1 aY aY.own [] ai++aH 5 aI .R [] aq++aH 6 an .R [] az++aH 7 an .R [] aU) [aE 1,.aB,.aB,.aB,.aB]),fun U aa ae ai aq az=>k 12 (bl [(0,aE 1),(1,aQ U),(2,aQ aa),(4,aQ ae),(10,aE 5),(13,aE 6)] (aH 1 aY aY.own [] ai++aH 5 an .R [] aq++aH 6 an .R [] az) [aE 1,.aB,.aB,.aB,.aB])⟩
theorem ajG:Sound Tryz.prog 63 0 Yv:=b8 bk 0 (fn:=Tryz.f63) (fns:=[(119,j'),(124,XD),(125,XF),(126,Yu),(127,yW),(128,Ix),(129,PN)]) ⟨kB,ah9,aia,ajD,BE,PO,XE,trivial⟩ ajE ajF Wm rH (fun k x=>Gb k x.1 x.2.1 x.2.2.1 x.2.2.2.1 x.2.2.2.2.1) (by kernel_rfl) rfl
def mj:Entry:=⟨[aL (.int .i64),aL (.int .i64),aL (.int .i64)],[a_ .bool],dz⟩
theorem ng:Sound Tryz.prog 67 0 mj:=cg bk 0 (fn:=Tryz.f67) (fns:=[]) trivial (by kernel_rfl)
def P3:Entry:=⟨[aL (.int .u8)],[a_ .bool],Gc⟩
theorem Yw:Sound Tryz.prog 222 0 P3:=cg bk 0 (fn:=Tryz.f222) (fns:=[]) trivial (by kernel_rfl)
def Yx:Entry:=⟨[aL .str],[a_ .bool],Gg⟩
def ajH:List (Nat×bT):=[(4,⟨[(0,aG),(3,aG)],[],[.drop]⟩)]
def ajI(k:Nat→ar→Option (Bool×Unit)):Gd:=fun U aa=>k 4 (bl [(0,eJ U),(3,aQ aa)] [] [.aB])
theorem ajJ:Sound Tryz.prog 185 0 Yx:=b8 bk 0 (fn:=Tryz.f185) (fns:=[(67,mj),(222,P3)]) ⟨ng,Yw,trivial⟩ ajH ajI Gf vP (fun k x=>Ge k x.1) (by kernel_rfl) rfl
def tK:Entry:=⟨[aL ah,aL (.int .i64)],[a_ (.int .i64)],m7⟩
def ajK:List (Nat×bT):=[(2,⟨[(1,aG),(2,.ptr 1),(5,aG)],aF 1 ah .R [],[.drop,.drop]⟩)]
def ajL(k:Nat→ar→Option (Int×Unit)):Gh:=fun U aa ae=>k 2 (bl [(1,aQ U),(2,aE 1),(5,aQ aa)] (aH 1 ah .R [] ae) [.aB,.aB])
theorem wR:Sound Tryz.prog 187 0 tK:=b8 bk 0 (fn:=Tryz.f187) (fns:=[]) trivial ajK ajL Gj vQ (fun k x=>Gi k x.1 x.2.1) (by kernel_rfl) rfl
def Yy:Entry:=⟨[aL ah,aL (.int .i64)],[ro (.sl .bool)],N2⟩
def ajM:List (Nat×bT):=[(8,⟨[(2,.ptr 1),(5,.cell (.af 2)),(6,.cell (.af 3)),(8,aG)],aF 1 ah .R []++[(2,.row .bool .R),(3,.row .bool .R)],[.drop,.drop]⟩),(11,⟨[(2,.ptr 1),(5,.cell (.af 2)),(6,.cell (.af 3)),(8,aG),(9,aG)],aF 1 ah .R []++[(2,.row .bool .R),(3,.row .bool .R)],[.drop,.drop]⟩),(15,⟨[(2,.ptr 1),(5,.cell (.af 2)),(6,.cell (.af 3)),(8,aG),(9,aG),(10,aG)],aF 1 ah .R []++[(2,.row .bool .R),(3,.row .bool .R)],[.drop,.drop]⟩)]
def ajN(k:Nat→ar→Option ((List Bool)×Unit)):rI:=⟨fun U aa ae ai=>k 8 (bl [(2,aE 1),(5,.aV (.af 2 none)),(6,.aV (.af 3 none)),(8,aQ U)] (aH 1 ah .R [] aa++[(2,.row .bool .R 0 ae),(3,.row .bool .R 0 ai)]) [.aB,.aB]),fun U aa ae ai aq=>k 11 (bl [(2,aE 1),(5,.aV (.af 2 none)),(6,.aV (.af 3 none)),(8,aQ U),(9,aQ aa)] (aH 1 ah .R [] ae++[(2,.row .bool .R 0 ai),(3,.row .bool .R 0 aq)]) [.aB,.aB]),fun U aa ae ai aq az=>k 15 (bl [(2,aE 1),(5,.aV (.af 2 none)),(6,.aV (.af 3 none)),(8,aQ U),(9,aQ aa),(10,aQ ae)] (aH 1 ah .R [] ai++[(2,.row .bool .R 0 aq),(3,.row .bool .R 0 az)]) [.aB,.aB])⟩
theorem ajO:Sound Tryz.prog 136 0 Yy:=b8 bk 0 (fn:=Tryz.f136) (fns:=[(187,tK)]) ⟨wR,trivial⟩ ajM ajN Wn kv (fun k x=>Gl k x.1 x.2.1) (by kernel_rfl) rfl
def P4:Entry:=⟨[aL ah,aL (.int .i64)],[a_ (.int .i64)],Gn⟩
def ajP:List (Nat×bT):=[(3,⟨[(1,aG),(2,.ptr 1),(5,aG),(6,aG)],aF 1 ah .R [],[.drop,.drop]⟩),(6,⟨[(1,aG),(2,.ptr 1),(5,aG),(6,aG),(7,aG)],aF 1 ah .R [],[.drop,.drop]⟩)]
def ajQ(k:Nat→ar→Option (Int×Unit)):vS:=⟨fun U aa ae ai=>k 3 (bl [(1,aQ U),(2,aE 1),(5,aQ aa),(6,aQ ae)] (aH 1 ah .R [] ai) [.aB,.aB]),fun U aa ae ai aq=>k 6 (bl [(1,aQ U),(2,aE 1),(5,aQ aa),(6,aQ ae),(7,aQ ai)] (aH 1 ah .R [] aq) [.aB,.aB])⟩
theorem Yz:Sound Tryz.prog 137 0 P4:=b8 bk 0 (fn:=Tryz.f137) (fns:=[]) trivial ajP ajQ Wo qh (fun k x=>Gm k x.1 x.2.1) (by kernel_rfl) rfl
def P5:Entry:=⟨[aL ah],[a_ (.int .i64)],Gs⟩
def ajR:List (Nat×bT):=[(3,⟨[(1,.ptr 1),(3,aG),(4,aG)],aF 1 ah .R [],[.drop]⟩)]
def ajS(k:Nat→ar→Option (Int×Unit)):Gp:=fun U aa ae=>k 3 (bl [(1,aE 1),(3,aQ U),(4,aQ aa)] (aH 1 ah .R [] ae) [.aB])
theorem YA:Sound Tryz.prog 138 0 P5:=b8 bk 0 (fn:=Tryz.f138) (fns:=[]) trivial ajR ajS Gr vT (fun k x=>Gq k x.1) (by kernel_rfl) rfl
def P6:Entry:=⟨[aL ah,aL (.int .i64)],[a_ (.int .i64),a_ (.int .i64)],A9⟩
def ajT:List (Nat×bT):=[(5,⟨[(2,.ptr 1),(6,.cell (.af 2)),(7,aG),(8,aG),(9,aG)],aF 1 ah .R []++[(2,.row .bool .R)],[.drop,.drop]⟩)]
def ajU(k:Nat→ar→Option (Int×Int×Unit)):Gt:=fun U aa ae ai aq=>k 5 (bl [(2,aE 1),(6,.aV (.af 2 none)),(7,aQ U),(8,aQ aa),(9,aQ ae)] (aH 1 ah .R [] ai++[(2,.row .bool .R 0 aq)]) [.aB,.aB])
theorem YB:Sound Tryz.prog 188 0 P6:=b8 bk 0 (fn:=Tryz.f188) (fns:=[(136,Yy)]) ⟨ajO,trivial⟩ ajT ajU Gv vU (fun k x=>Gu k x.1 x.2.1) (by kernel_rfl) rfl
def YC:Entry:=⟨[aL ah],[a_ .bool],N4⟩
def ajV:List (Nat×bT):=[(2,⟨[(1,.ptr 1),(3,aG)],aF 1 ah .R [],[.drop]⟩),(6,⟨[(1,.ptr 1),(3,aG),(4,.ptr 2)],aF 1 ah .R []++aF 2 J .R [],[.drop]⟩)]
def ajW(k:Nat→ar→Option (Bool×Unit)):vV:=⟨fun U aa=>k 2 (bl [(1,aE 1),(3,aQ U)] (aH 1 ah .R [] aa) [.aB]),fun U aa ae=>k 6 (bl [(1,aE 1),(3,aQ U),(4,aE 2)] (aH 1 ah .R [] aa++aH 2 J .R [] ae) [.aB])⟩
theorem ajX:Sound Tryz.prog 139 0 YC:=b8 bk 0 (fn:=Tryz.f139) (fns:=[(188,P6)]) ⟨YB,trivial⟩ ajV ajW Wp kx (fun k x=>Gw k x.1) (by kernel_rfl) rfl
def YD:Entry:=⟨[aL (.sl a6)],[a_ .bool],N5⟩
def ajY:List (Nat×bT):=[(4,⟨[(0,.cell (.bM a6 [])),(3,aG)],[],[.drop]⟩)]
def ajZ(k:Nat→ar→Option (Bool×Unit)):Gz:=fun U aa=>k 4 (bl [(0,dS a6 U),(3,aQ aa)] [] [.aB])
theorem aj0:Sound Tryz.prog 68 0 YD:=b8 bk 0 (fn:=Tryz.f68) (fns:=[(67,mj)]) ⟨ng,trivial⟩ ajY ajZ GB vW (fun k x=>GA k x.1) (by kernel_rfl) rfl
def P7:Entry:=⟨[aL aY,aL (.int .i64)],[a_ (.int .i64),a_ .bool],GD⟩
def aj1:List (Nat×bT):=[(2,⟨[(1,aG),(2,.ptr 1),(6,aG)],aF 1 aY .R [],[.drop,.drop]⟩)]
def aj2(k:Nat→ar→Option (Int×Bool×Unit)):GC:=fun U aa ae=>k 2 (bl [(1,aQ U),(2,aE 1),(6,aQ aa)] (aH 1 aY .R [] ae) [.aB,.aB])
theorem YE:Sound Tryz.prog 116 0 P7:=b8 bk 0 (fn:=Tryz.f116) (fns:=[]) trivial aj1 aj2 yC yD (fun k x=>Wq k x.1 x.2.1) (by kernel_rfl) rfl
def YF:Entry:=⟨[aL aY,aL (.int .i64)],[a_ bP],N7⟩
theorem aj3:Sound Tryz.prog 57 0 YF:=cg bk 0 (fn:=Tryz.f57) (fns:=[(116,P7)]) ⟨YE,trivial⟩ (by kernel_rfl)
def YG:Entry:=⟨[aL aY],[a_ (.int .i64)],N8⟩
def aj4:List (Nat×bT):=[(3,⟨[(1,.ptr 1),(3,aG),(4,aG)],aF 1 aY .R [],[.drop]⟩),(8,⟨[(1,.ptr 1),(3,aG),(5,aG)],aF 1 aY .R [],[.drop]⟩)]
def aj5(k:Nat→ar→Option (Int×Unit)):vX:=⟨fun U aa ae=>k 3 (bl [(1,aE 1),(3,aQ U),(4,aQ aa)] (aH 1 aY .R [] ae) [.aB]),fun U aa ae=>k 8 (bl [(1,aE 1),(3,aQ U),(5,aQ aa)] (aH 1 aY .R [] ae) [.aB])⟩
theorem aj6:Sound Tryz.prog 130 0 YG:=b8 bk 0 (fn:=Tryz.f130) (fns:=[]) trivial aj4 aj5 Ws n9 (fun k x=>Wr k x.1) (by kernel_rfl) rfl
def y0:Entry:=⟨[aL aI],[a_ .bool],vY⟩
def aj7:List (Nat×bT):=[(5,⟨[(1,.ptr 1)],aF 1 aI .R [],[.drop]⟩)]
def aj8(k:Nat→ar→Option (Bool×Unit)):GH:=fun U=>k 5 (bl [(1,aE 1)] (aH 1 aI .R [] U) [.aB])
theorem BK:Sound Tryz.prog 132 0 y0:=b8 bk 0 (fn:=Tryz.f132) (fns:=[(67,mj)]) ⟨ng,trivial⟩ aj7 aj8 N9 A' (fun k x=>GI k x.1) (by kernel_rfl) rfl
def IE:Entry:=⟨[aL (.int .i64)],[a_ .bool],Ba⟩
theorem P8:Sound Tryz.prog 133 0 IE:=cg bk 0 (fn:=Tryz.f133) (fns:=[]) trivial (by kernel_rfl)
def YH:Entry:=⟨[aL (.int .i64)],[ro aK],Oa⟩
theorem aj9:Sound Tryz.prog 181 0 YH:=cg bk 0 (fn:=Tryz.f181) (fns:=[]) trivial (by kernel_rfl)
def YI:Entry:=⟨[aL (.int .i64)],[a_ (.int .i64)],Oc⟩
theorem aj_:Sound Tryz.prog 213 0 YI:=cg bk 0 (fn:=Tryz.f213) (fns:=[(67,mj),(133,IE)]) ⟨ng,P8,trivial⟩ (by kernel_rfl)
def YJ:Entry:=⟨[aL (.int .i64),aL (.int .i64)],[a_ (.int .i64),a_ .bool],Oe⟩
theorem aj':Sound Tryz.prog 182 0 YJ:=cg bk 0 (fn:=Tryz.f182) (fns:=[(213,YI)]) ⟨aj_,trivial⟩ (by kernel_rfl)
def P9:Entry:=⟨[aL (.int .i64)],[a_ .str],e9⟩
def aka:List (Nat×bT):=[(5,⟨[(0,aG),(3,aG),(4,aG)],[],[.drop]⟩)]
def akb(k:Nat→ar→Option ((aj)×Unit)):GJ:=fun U aa ae=>k 5 (bl [(0,aQ U),(3,eJ aa),(4,jM ae)] [] [.aB])
theorem YK:Sound Tryz.prog 214 0 P9:=b8 bk 0 (fn:=Tryz.f214) (fns:=[]) trivial aka akb Bb pe (fun k x=>GK k x.1) (by kernel_rfl) rfl
def YL:Entry:=⟨[aL (.sl a6),aL (.int .i64)],[a_ .str],Og⟩
def akc:List (Nat×bT):=[(5,⟨[(0,.cell (.bM a6 [])),(1,aG),(5,aG),(6,aG)],[],[.drop,.drop]⟩),(9,⟨[(0,.cell (.bM a6 [])),(1,aG),(5,aG),(6,aG)],[],[.drop,.drop]⟩)]
def akd(k:Nat→ar→Option ((aj)×Unit)):vZ:=⟨fun U aa ae ai=>k 5 (bl [(0,dS a6 U),(1,aQ aa),(5,eJ ae),(6,aQ ai)] [] [.aB,.aB]),fun U aa ae ai=>k 9 (bl [(0,dS a6 U),(1,aQ aa),(5,eJ ae),(6,aQ ai)] [] [.aB,.aB])⟩
theorem ake:Sound Tryz.prog 183 0 YL:=b8 bk 0 (fn:=Tryz.f183) (fns:=[(68,YD),(214,P9)]) ⟨aj0,YK,trivial⟩ akc akd Wt qi (fun k x=>GL k x.1 x.2.1) (by kernel_rfl) rfl
def wS:Entry:=⟨[aL ah],[.val ah (.S (.cons .R (.cons (.O .R) .nil)))],tq⟩
def akf:List (Nat×bT):=[(3,⟨[(1,.ptr 1),(2,.ptr 2),(3,.ptr 4),(4,aG)],aF 1 ah .R []++aF 2 ah ah.own []++aF 4 ah ah.own [],[.drop]⟩)]
def akg(k:Nat→ar→Option (ah.D×Unit)):yE:=fun U aa ae ai=>k 3 (bl [(1,aE 1),(2,aE 2),(3,aE 4),(4,aQ U)] (aH 1 ah .R [] aa++aH 2 ah ah.own [] ae++aH 4 ah ah.own [] ai) [.aB])
theorem y1:Sound Tryz.prog 134 0 wS:=b8 bk 0 (fn:=Tryz.f134) (fns:=[]) trivial akf akg GO v7 (fun k x=>GN k x.1) (by kernel_rfl) rfl
def P_:Entry:=⟨[aL .str],[a_ .bool],GS⟩
def akh:List (Nat×bT):=[(4,⟨[(0,aG),(3,aG)],[],[.drop]⟩)]
def aki(k:Nat→ar→Option (Bool×Unit)):GP:=fun U aa=>k 4 (bl [(0,eJ U),(3,aQ aa)] [] [.aB])
theorem YM:Sound Tryz.prog 283 0 P_:=b8 bk 0 (fn:=Tryz.f283) (fns:=[(67,mj),(222,P3)]) ⟨ng,Yw,trivial⟩ akh aki GR v8 (fun k x=>GQ k x.1) (by kernel_rfl) rfl
def IF:Entry:=⟨[aL aK],[a_ .bool],Bd⟩
def akj:List (Nat×bT):=[(4,⟨[(1,.ptr 1),(3,aG)],aF 1 aK .R [],[.drop]⟩)]
def akk(k:Nat→ar→Option (Bool×Unit)):GU:=fun U aa=>k 4 (bl [(1,aE 1),(3,aQ U)] (aH 1 aK .R [] aa) [.aB])
theorem P':Sound Tryz.prog 285 0 IF:=b8 bk 0 (fn:=Tryz.f285) (fns:=[(67,mj)]) ⟨ng,trivial⟩ akj akk GW v_ (fun k x=>GV k x.1) (by kernel_rfl) rfl
def Qa:Entry:=⟨[aL aK,aL (.int .i64)],[a_ .bool],wa⟩
def akl:List (Nat×bT):=[(5,⟨[(1,aG),(2,.ptr 1),(5,aG),(6,aG)],aF 1 aK .R [],[.drop,.drop]⟩)]
def akm(k:Nat→ar→Option (Bool×Unit)):GX:=fun U aa ae ai=>k 5 (bl [(1,aQ U),(2,aE 1),(5,jM aa),(6,aQ ae)] (aH 1 aK .R [] ai) [.aB,.aB])
theorem YN:Sound Tryz.prog 260 0 Qa:=b8 bk 0 (fn:=Tryz.f260) (fns:=[(285,IF)]) ⟨P',trivial⟩ akl akm GZ v' (fun k x=>GY k x.1 x.2.1) (by kernel_rfl) rfl
def tL:Entry:=⟨[aL aK,aL J,aL (.int .i64)],[a_ .bool],ky⟩
theorem wT:Sound Tryz.prog 250 0 tL:=cg bk 0 (fn:=Tryz.f250) (fns:=[(67,mj),(260,Qa),(285,IF)]) ⟨ng,YN,P',trivial⟩ (by kernel_rfl)
def Qb:Entry:=⟨[aL ah,aL (.int .i64)],[a_ (.int .i64)],G4⟩
def akn:List (Nat×bT):=[(2,⟨[(1,aG),(2,.ptr 1),(5,aG)],aF 1 ah .R [],[.drop,.drop]⟩),(5,⟨[(1,aG),(2,.ptr 1),(5,aG),(6,aG)],aF 1 ah .R [],[.drop,.drop]⟩)]
def ako(k:Nat→ar→Option (Int×Unit)):wb:=⟨fun U aa ae=>k 2 (bl [(1,aQ U),(2,aE 1),(5,aQ aa)] (aH 1 ah .R [] ae) [.aB,.aB]),fun U aa ae ai=>k 5 (bl [(1,aQ U),(2,aE 1),(5,aQ aa),(6,aQ ae)] (aH 1 ah .R [] ai) [.aB,.aB])⟩
theorem YO:Sound Tryz.prog 287 0 Qb:=b8 bk 0 (fn:=Tryz.f287) (fns:=[]) trivial akn ako Wx kX (fun k x=>G0 k x.1 x.2.1) (by kernel_rfl) rfl
def YP:Entry:=⟨[aL .str],[ro (.sl .str)],Bg⟩
def akp:List (Nat×bT):=[(4,⟨[(0,aG),(3,.cell (.af 1)),(4,aG),(5,aG)],[(1,.row .str .R)],[.drop]⟩)]
def akq(k:Nat→ar→Option (Be)):G5:=fun U aa ae ai=>k 4 (bl [(0,eJ U),(3,.aV (.af 1 none)),(4,aQ aa),(5,aQ ae)] [(1,.row .str .R 0 ai)] [.aB])
theorem akr:Sound Tryz.prog 300 0 YP:=b8 bk 0 (fn:=Tryz.f300) (fns:=[]) trivial akp akq Bf rJ (fun k x=>G6 k x.1) (by kernel_rfl) rfl
def YQ:Entry:=⟨[aL ah,aL (.int .i64),aL .str],[a_ (.int .i64)],Oi⟩
def aks:List (Nat×bT):=[(3,⟨[(2,aG),(7,.cell (.bM aJ [])),(8,aG)],[],[.drop,.drop,.drop]⟩)]
def akt(k:Nat→ar→Option (Int×Unit)):G7:=fun U aa ae=>k 3 (bl [(2,eJ U),(7,dS aJ aa),(8,aQ ae)] [] [.aB,.aB,.aB])
theorem aku:Sound Tryz.prog 301 0 YQ:=b8 bk 0 (fn:=Tryz.f301) (fns:=[(187,tK)]) ⟨wR,trivial⟩ aks akt G9 tr (fun k x=>G8 k x.1 x.2.1 x.2.2.1) (by kernel_rfl) rfl
def Qc:Entry:=⟨[aL ah,aL aK,aL .str,aL .bool],[a_ a8],Hc⟩
def akv:List (Nat×bT):=[(4,⟨[(3,aG),(4,.ptr 1),(5,.ptr 2),(8,.ptr 3),(9,.cell (.aw 4)),(10,aG),(11,aG)],aF 1 ah .R []++aF 2 aK .R []++aF 3 a8 .R []++[(4,.row .str .R)],[.drop,.drop,.drop,.drop]⟩),(21,⟨[(3,aG),(4,.ptr 1),(5,.ptr 2),(8,.ptr 3),(9,.cell (.aw 4)),(10,aG),(11,aG),(12,aG),(13,aG),(14,aG),(15,.ptr 5)],aF 1 ah .R []++aF 2 aK .R []++aF 3 a8 .R []++[(4,.row .str .R)]++aF 5 J .R [],[.drop,.drop,.drop,.drop]⟩),(22,⟨[(3,aG),(4,.ptr 1),(5,.ptr 2),(8,.ptr 3),(9,.cell (.aw 4)),(10,aG),(11,aG),(15,.ptr 5)],aF 1 ah .R []++aF 2 aK .R []++aF 3 a8 .R []++[(4,.row .str .R)]++aF 5 J .R [],[.drop,.drop,.drop,.drop]⟩),(30,⟨[(3,aG),(4,.ptr 1),(5,.ptr 2),(8,.ptr 3),(9,.cell (.aw 4)),(10,aG),(11,aG),(12,aG),(13,aG),(14,aG),(15,.ptr 5)],aF 1 ah .R []++aF 2 aK .R []++aF 3 a8 .R []++[(4,.row .str .R)]++aF 5 J .R [],[.drop,.drop,.drop,.drop]⟩),(27,⟨[(3,aG),(4,.ptr 1),(5,.ptr 2),(8,.ptr 3),(9,.cell (.aw 4)),(10,aG),(11,aG),(15,.ptr 5)],aF 1 ah .R []++aF 2 aK .R []++aF 3 a8 .R []++[(4,.row .str .R)]++aF 5 J .R [],[.drop,.drop,.drop,.drop]⟩)]
def akw(k:Nat→ar→Option (a8.D×Unit)):qj:=⟨fun U aa ae ai aq az aU bn bu=>k 4 (bl [(3,jM U),(4,aE 1),(5,aE 2),(8,aE 3),(9,.aV (.af 4 (some (aa,ae)))),(10,aQ ai),(11,aQ aq)] (aH 1 ah .R [] az++aH 2 aK .R [] aU++aH 3 a8 .R [] bn++[(4,.row .str .R 0 bu)]) [.aB,.aB,.aB,.aB]),fun U aa ae ai aq az aU bn bu ez e_ kY kz=>k 21 (bl [(3,jM U),(4,aE 1),(5,aE 2),(8,aE 3),(9,.aV (.af 4 (some (aa,ae)))),(10,aQ ai),(11,aQ aq),(12,eJ az),(13,jM aU),(14,aQ bn),(15,aE 5)] (aH 1 ah .R [] bu++aH 2 aK .R [] ez++aH 3 a8 .R [] e_++[(4,.row .str .R 0 kY)]++aH 5 J .R [] kz) [.aB,.aB,.aB,.aB]),fun U aa ae ai aq az aU bn bu ez=>k 22 (bl [(3,jM U),(4,aE 1),(5,aE 2),(8,aE 3),(9,.aV (.af 4 (some (aa,ae)))),(10,aQ ai),(11,aQ aq),(15,aE 5)] (aH 1 ah .R [] az++aH 2 aK .R [] aU++aH 3 a8 .R [] bn++[(4,.row .str .R 0 bu)]++aH 5 J .R [] ez) [.aB,.aB,.aB,.aB]),fun U aa ae ai aq az aU bn bu ez e_ kY kz=>k 30 (bl [(3,jM U),(4,aE 1),(5,aE 2),(8,aE 3),(9,.aV (.af 4 (some (aa,ae)))),(10,aQ ai),(11,aQ aq),(12,eJ az),(13,jM aU),(14,aQ bn),(15,aE 5)] (aH 1 ah .R [] bu++aH 2 aK .R [] ez++aH 3 a8 .R [] e_++[(4,.row .str .R 0 kY)]++aH 5 J .R [] kz) [.aB,.aB,.aB,.aB]),fun U aa ae ai aq az aU bn bu ez=>k 27 (bl [(3,jM U),(4,aE 1),(5,aE 2),(8,aE 3),(9,.aV (.af 4 (some (aa,ae)))),(10,aQ ai),(11,aQ aq),(15,aE 5)] (aH 1 ah .R [] az++aH 2 aK .R [] aU++aH 3 a8 .R [] bn++[(4,.row .str .R 0 bu)]++aH 5 J .R [] ez) [.aB,.aB,.aB,.aB])⟩
theorem YR:Sound Tryz.prog 284 0 Qc:=b8 bk 0 (fn:=Tryz.f284) (fns:=[(187,tK),(250,tL),(287,Qb),(300,YP),(301,YQ)]) ⟨wR,wT,YO,akr,aku,trivial⟩ akv akw Wz fw (fun k x=>G_ k x.1 x.2.1 x.2.2.1 x.2.2.2.1) (by kernel_rfl) rfl
def Qd:Entry:=⟨[aL ah,aL aK,aL .str],[a_ a8,a_ (.int .i64)],wg⟩
theorem YS:Sound Tryz.prog 248 0 Qd:=cg bk 0 (fn:=Tryz.f248) (fns:=[(283,P_),(284,Qc)]) ⟨YM,YR,trivial⟩ (by kernel_rfl)
def qx:Entry:=⟨[aL ah,aL (.int .i64)],[a_ J],fx⟩
theorem rZ:Sound Tryz.prog 249 0 qx:=cg bk 0 (fn:=Tryz.f249) (fns:=[(187,tK)]) ⟨wR,trivial⟩ (by kernel_rfl)
def YT:Entry:=⟨[aL ah],[a_ (.int .i64)],Ol⟩
theorem akx:Sound Tryz.prog 286 0 YT:=cg bk 0 (fn:=Tryz.f286) (fns:=[(138,P5),(139,YC)]) ⟨YA,ajX,trivial⟩ (by kernel_rfl)
def y2:Entry:=⟨[aL ah,.val ah (.S (.cons .R (.cons (.O .R) .nil)))],[a_ ah,a_ an],rK⟩
theorem BL:Sound Tryz.prog 251 0 y2:=cg bk 0 (fn:=Tryz.f251) (fns:=[(286,YT)]) ⟨akx,trivial⟩ (by kernel_rfl)
def y3:Entry:=⟨[.val ah (.S (.cons .R (.cons (.O .R) .nil))),Ev J],[.val ah (.S (.cons .R (.cons (.O .R) .nil)))],pf⟩
theorem BM:Sound Tryz.prog 253 0 y3:=cg bk 0 (fn:=Tryz.f253) (fns:=[(187,tK)]) ⟨wR,trivial⟩ (by kernel_rfl)
def IG:Entry:=⟨[.val ah (.S (.cons .R (.cons (.O .R) .nil))),aL (.int .i64),aL .str,aL (.int .i64)],[.val ah (.S (.cons .R (.cons (.O .R) .nil)))],tt⟩
def aky:List (Nat×bT):=[(5,⟨[(2,aG),(3,aG),(4,.ptr 1),(8,.ptr 3),(9,.ptr 5),(10,.cell (.af 6)),(11,aG),(12,aG)],aF 1 ah (.S (.cons .R (.cons (.O .R) .nil))) []++aF 3 ah ah.own []++aF 5 J .R [2]++[(6,.row aJ .R)],[.drop,.drop,.drop,.drop]⟩),(10,⟨[(2,aG),(3,aG),(4,.ptr 1),(8,.ptr 3),(9,.ptr 5),(10,.cell (.af 6)),(11,aG),(12,aG)],aF 1 ah (.S (.cons .R (.cons (.O .R) .nil))) []++aF 3 ah ah.own []++aF 5 J .R [2]++[(6,.row aJ .R)],[.drop,.drop,.drop,.drop]⟩),(13,⟨[(4,.ptr 1),(8,.ptr 3),(9,.ptr 5),(10,.cell (.af 6))],aF 1 ah (.S (.cons .R (.cons (.O .R) .nil))) []++aF 3 ah ah.own []++aF 5 J .R [2]++[(6,.row aJ .R)],[.drop,.drop,.drop,.drop]⟩)]
def akz(k:Nat→ar→Option (ah.D×Unit)):ts:=⟨fun U aa ae ai aq az aU bn=>k 5 (bl [(2,eJ U),(3,aQ aa),(4,aE 1),(8,aE 3),(9,aE 5),(10,.aV (.af 6 none)),(11,jM ae),(12,aQ ai)] (aH 1 ah (.S (.cons .R (.cons (.O .R) .nil))) [] aq++aH 3 ah ah.own [] az++aH 5 J .R [2] aU++[(6,.row aJ .R 0 bn)]) [.aB,.aB,.aB,.aB]),fun U aa ae ai aq az aU bn=>k 10 (bl [(2,eJ U),(3,aQ aa),(4,aE 1),(8,aE 3),(9,aE 5),(10,.aV (.af 6 none)),(11,jM ae),(12,aQ ai)] (aH 1 ah (.S (.cons .R (.cons (.O .R) .nil))) [] aq++aH 3 ah ah.own [] az++aH 5 J .R [2] aU++[(6,.row aJ .R 0 bn)]) [.aB,.aB,.aB,.aB]),fun U aa ae ai=>k 13 (bl [(4,aE 1),(8,aE 3),(9,aE 5),(10,.aV (.af 6 none))] (aH 1 ah (.S (.cons .R (.cons (.O .R) .nil))) [] U++aH 3 ah ah.own [] aa++aH 5 J .R [2] ae++[(6,.row aJ .R 0 ai)]) [.aB,.aB,.aB,.aB])⟩
theorem Qe:Sound Tryz.prog 252 0 IG:=b8 bk 0 (fn:=Tryz.f252) (fns:=[(249,qx),(253,y3)]) ⟨rZ,BM,trivial⟩ aky akz WB iT (fun k x=>Hd k x.1 x.2.1 x.2.2.1 x.2.2.2.1) (by kernel_rfl) rfl
def YU:Entry:=⟨[Ev ah,aL aK,aL aI],[a_ ah,a_ an],wi⟩
def akA:List (Nat×bT):=[(3,⟨[(3,.ptr 1),(4,.ptr 2),(5,.ptr 3),(6,.ptr 4),(7,.ptr 6)],aF 1 ah .R []++aF 2 aK .R []++aF 3 aI .R []++aF 4 ah ah.own []++aF 6 an .R [],[.drop,.drop,.drop]⟩),(14,⟨[(3,.ptr 1),(5,.ptr 2),(6,.ptr 3),(7,.ptr 5),(8,.ptr 6),(10,.ptr 7),(11,.ptr 8)],aF 1 ah .R []++aF 2 aI .R []++aF 3 ah ah.own []++aF 5 an .R []++aF 6 a8 .R []++aF 7 J .R []++aF 8 J J.own [],[.drop,.drop,.drop]⟩),(18,⟨[(3,.ptr 1),(6,.ptr 2),(7,.ptr 4),(8,.ptr 5),(10,.ptr 6),(11,.ptr 7)],aF 1 ah .R []++aF 2 ah ah.own []++aF 4 an .R []++aF 5 a8 .R []++aF 6 J .R []++aF 7 J J.own [],[.drop,.drop,.drop]⟩),(22,⟨[(3,.ptr 1),(6,.ptr 2),(7,.ptr 4),(8,.ptr 5),(11,.ptr 6)],aF 1 ah .R []++aF 2 ah ah.own []++aF 4 an .R []++aF 5 a8 .R []++aF 6 J J.own [],[.drop,.drop,.drop]⟩)]
def akB(k:Nat→ar→Option (ph)):rL:=⟨fun U aa ae ai aq=>k 3 (bl [(3,aE 1),(4,aE 2),(5,aE 3),(6,aE 4),(7,aE 6)] (aH 1 ah .R [] U++aH 2 aK .R [] aa++aH 3 aI .R [] ae++aH 4 ah ah.own [] ai++aH 6 an .R [] aq) [.aB,.aB,.aB]),fun U aa ae ai aq az aU=>k 14 (bl [(3,aE 1),(5,aE 2),(6,aE 3),(7,aE 5),(8,aE 6),(10,aE 7),(11,aE 8)] (aH 1 ah .R [] U++aH 2 aI .R [] aa++aH 3 ah ah.own [] ae++aH 5 an .R [] ai++aH 6 a8 .R [] aq++aH 7 J .R [] az++aH 8 J J.own [] aU) [.aB,.aB,.aB]),fun U aa ae ai aq az=>k 18 (bl [(3,aE 1),(6,aE 2),(7,aE 4),(8,aE 5),(10,aE 6),(11,aE 7)] (aH 1 ah .R [] U++aH 2 ah ah.own [] aa++aH 4 an .R [] ae++aH 5 a8 .R [] ai++aH 6 J .R [] aq++aH 7 J J.own [] az) [.aB,.aB,.aB]),fun U aa ae ai aq=>k 22 (bl [(3,aE 1),(6,aE 2),(7,aE 4),(8,aE 5),(11,aE 6)] (aH 1 ah .R [] U++aH 2 ah ah.own [] aa++aH 4 an .R [] ae++aH 5 a8 .R [] ai++aH 6 J J.own [] aq) [.aB,.aB,.aB])⟩
theorem akC:Sound Tryz.prog 215 0 YU:=b8 bk 0 (fn:=Tryz.f215) (fns:=[(67,mj),(134,wS),(185,Yx),(248,Qd),(249,qx),(250,tL),(251,y2),(252,IG),(253,y3)]) ⟨ng,y1,ajJ,YS,rZ,wT,BL,Qe,BM,trivial⟩ akA akB WC j_ (fun k x=>He k x.1 x.2.1 x.2.2.1) (by kernel_rfl) rfl
def wU:Entry:=⟨[aL ah,aL aK,aL .str,aL .bool],[a_ a8],fh⟩
theorem y4:Sound Tryz.prog 254 0 wU:=cg bk 0 (fn:=Tryz.f254) (fns:=[(283,P_),(284,Qc)]) ⟨YM,YR,trivial⟩ (by kernel_rfl)
def Qf:Entry:=⟨[aL aK,aL J,aL J],[a_ .bool],yG⟩
theorem YV:Sound Tryz.prog 255 0 Qf:=cg bk 0 (fn:=Tryz.f255) (fns:=[(285,IF)]) ⟨P',trivial⟩ (by kernel_rfl)
def Qg:Entry:=⟨[.val ah (.S (.cons .R (.cons (.O .R) .nil))),aL (.int .i64),aL .str],[.val ah (.S (.cons .R (.cons (.O .R) .nil)))],pj⟩
def akD:List (Nat×bT):=[(5,⟨[(2,aG),(3,.ptr 1),(6,.ptr 3),(7,.ptr 5),(8,aG),(9,.cell (.af 6)),(10,aG)],aF 1 ah (.S (.cons .R (.cons (.O .R) .nil))) []++aF 3 ah ah.own []++aF 5 J .R [2]++[(6,.row aJ .R)],[.drop,.drop,.drop]⟩),(16,⟨[(3,.ptr 1),(6,.ptr 3),(8,aG),(11,.cell (.af 5)),(12,aG)],aF 1 ah (.S (.cons .R (.cons (.O .R) .nil))) []++aF 3 ah ah.own []++[(5,.row J .R)],[.drop,.drop,.drop]⟩)]
def akE(k:Nat→ar→Option (ah.D×Unit)):wk:=⟨fun U aa ae ai aq az aU=>k 5 (bl [(2,eJ U),(3,aE 1),(6,aE 3),(7,aE 5),(8,aQ aa),(9,.aV (.af 6 none)),(10,aQ ae)] (aH 1 ah (.S (.cons .R (.cons (.O .R) .nil))) [] ai++aH 3 ah ah.own [] aq++aH 5 J .R [2] az++[(6,.row aJ .R 0 aU)]) [.aB,.aB,.aB]),fun U aa ae ai aq=>k 16 (bl [(3,aE 1),(6,aE 3),(8,aQ U),(11,.aV (.af 5 none)),(12,aQ aa)] (aH 1 ah (.S (.cons .R (.cons (.O .R) .nil))) [] ae++aH 3 ah ah.own [] ai++[(5,.row J .R 0 aq)]) [.aB,.aB,.aB])⟩
theorem YW:Sound Tryz.prog 256 0 Qg:=b8 bk 0 (fn:=Tryz.f256) (fns:=[(137,P4),(249,qx),(253,y3)]) ⟨Yz,rZ,BM,trivial⟩ akD akE WD lD (fun k x=>Hf k x.1 x.2.1 x.2.2.1) (by kernel_rfl) rfl
def YX:Entry:=⟨[aL ah,aL aK,aL aI],[a_ ah,a_ an],Bn⟩
def akF:List (Nat×bT):=[(7,⟨[(3,.ptr 1),(4,.ptr 2),(5,.ptr 3),(6,.ptr 4),(7,.ptr 6),(8,.ptr 7),(9,.ptr 8)],aF 1 ah .R []++aF 2 aK .R []++aF 3 aI .R []++aF 4 ah ah.own []++aF 6 an .R []++aF 7 a8 .R []++aF 8 J .R [],[.drop,.drop,.drop]⟩),(9,⟨[(3,.ptr 1),(4,.ptr 2),(5,.ptr 3),(6,.ptr 4),(7,.ptr 6),(8,.ptr 7),(9,.ptr 8)],aF 1 ah .R []++aF 2 aK .R []++aF 3 aI .R []++aF 4 ah ah.own []++aF 6 an .R []++aF 7 a8 .R []++aF 8 J .R [],[.drop,.drop,.drop]⟩),(11,⟨[(3,.ptr 1),(4,.ptr 2),(6,.ptr 3),(7,.ptr 5),(8,.ptr 6),(9,.ptr 7)],aF 1 ah .R []++aF 2 aK .R []++aF 3 ah ah.own []++aF 5 an .R []++aF 6 a8 .R []++aF 7 J .R [],[.drop,.drop,.drop]⟩)]
def akG(k:Nat→ar→Option (rM)):tu:=⟨fun U aa ae ai aq az aU=>k 7 (bl [(3,aE 1),(4,aE 2),(5,aE 3),(6,aE 4),(7,aE 6),(8,aE 7),(9,aE 8)] (aH 1 ah .R [] U++aH 2 aK .R [] aa++aH 3 aI .R [] ae++aH 4 ah ah.own [] ai++aH 6 an .R [] aq++aH 7 a8 .R [] az++aH 8 J .R [] aU) [.aB,.aB,.aB]),fun U aa ae ai aq az aU=>k 9 (bl [(3,aE 1),(4,aE 2),(5,aE 3),(6,aE 4),(7,aE 6),(8,aE 7),(9,aE 8)] (aH 1 ah .R [] U++aH 2 aK .R [] aa++aH 3 aI .R [] ae++aH 4 ah ah.own [] ai++aH 6 an .R [] aq++aH 7 a8 .R [] az++aH 8 J .R [] aU) [.aB,.aB,.aB]),fun U aa ae ai aq az=>k 11 (bl [(3,aE 1),(4,aE 2),(6,aE 3),(7,aE 5),(8,aE 6),(9,aE 7)] (aH 1 ah .R [] U++aH 2 aK .R [] aa++aH 3 ah ah.own [] ae++aH 5 an .R [] ai++aH 6 a8 .R [] aq++aH 7 J .R [] az) [.aB,.aB,.aB])⟩
theorem akH:Sound Tryz.prog 216 0 YX:=b8 bk 0 (fn:=Tryz.f216) (fns:=[(134,wS),(249,qx),(250,tL),(254,wU),(255,Qf),(256,Qg)]) ⟨y1,rZ,wT,y4,YV,YW,trivial⟩ akF akG WE rN (fun k x=>Hg k x.1 x.2.1 x.2.2.1) (by kernel_rfl) rfl
def Qh:Entry:=⟨[aL ah,aL (.int .i64)],[a_ .bool],yH⟩
theorem YY:Sound Tryz.prog 257 0 Qh:=cg bk 0 (fn:=Tryz.f257) (fns:=[(187,tK)]) ⟨wR,trivial⟩ (by kernel_rfl)
def YZ:Entry:=⟨[aL ah,aL aK,aL aI],[a_ ah,a_ an],Hh⟩
theorem akI:Sound Tryz.prog 217 0 YZ:=cg bk 0 (fn:=Tryz.f217) (fns:=[(134,wS),(248,Qd),(249,qx),(250,tL),(251,y2),(252,IG),(254,wU),(257,Qh)]) ⟨y1,YS,rZ,wT,BL,Qe,y4,YY,trivial⟩ (by kernel_rfl)
def Y0:Entry:=⟨[aL ah,aL (.int .i64),aL (.int .i64)],[a_ .bool],Bo⟩
def akJ:List (Nat×bT):=[(2,⟨[(1,aG),(2,aG),(3,.ptr 1),(7,aG)],aF 1 ah .R [],[.drop,.drop,.drop]⟩)]
def akK(k:Nat→ar→Option (Bool×Unit)):Hi:=fun U aa ae ai=>k 2 (bl [(1,aQ U),(2,aQ aa),(3,aE 1),(7,aQ ae)] (aH 1 ah .R [] ai) [.aB,.aB,.aB])
theorem akL:Sound Tryz.prog 258 0 Y0:=b8 bk 0 (fn:=Tryz.f258) (fns:=[(287,Qb)]) ⟨YO,trivial⟩ akJ akK Hk wm (fun k x=>Hj k x.1 x.2.1 x.2.2.1) (by kernel_rfl) rfl
def Y1:Entry:=⟨[aL ah,aL aK,aL aI],[a_ ah,a_ an],Hm⟩
def akM:List (Nat×bT):=[(7,⟨[(3,.ptr 1),(4,.ptr 2),(6,.ptr 3),(7,.ptr 5),(8,.ptr 6),(9,.ptr 7)],aF 1 ah .R []++aF 2 aK .R []++aF 3 ah ah.own []++aF 5 an .R []++aF 6 a8 .R []++aF 7 a8 .R [],[.drop,.drop,.drop]⟩),(18,⟨[(3,.ptr 1),(4,.ptr 2),(6,.ptr 3),(7,.ptr 5),(8,.ptr 6),(9,.ptr 7),(11,.ptr 8),(12,.ptr 9)],aF 1 ah .R []++aF 2 aK .R []++aF 3 ah ah.own []++aF 5 an .R []++aF 6 a8 .R []++aF 7 a8 .R []++aF 8 J .R []++aF 9 J .R [],[.drop,.drop,.drop]⟩),(27,⟨[(3,.ptr 1),(6,.ptr 2),(7,.ptr 4),(8,.ptr 5),(9,.ptr 6),(12,.ptr 7),(13,.ptr 8),(14,.ptr 10)],aF 1 ah .R []++aF 2 ah ah.own []++aF 4 an .R []++aF 5 a8 .R []++aF 6 a8 .R []++aF 7 J .R []++aF 8 ah (.S (.cons .R (.cons (.O .R) .nil))) []++aF 10 J .R [],[.drop,.drop,.drop]⟩),(34,⟨[(3,.ptr 1),(6,.ptr 2),(7,.ptr 4),(8,.ptr 5),(9,.ptr 6),(13,.ptr 7)],aF 1 ah .R []++aF 2 ah ah.own []++aF 4 an .R []++aF 5 a8 .R []++aF 6 a8 .R []++aF 7 ah (.S (.cons .R (.cons (.O .R) .nil))) [],[.drop,.drop,.drop]⟩),(29,⟨[(3,.ptr 1),(6,.ptr 2),(7,.ptr 4),(8,.ptr 5),(9,.ptr 6),(12,.ptr 7),(13,.ptr 8),(14,.ptr 10)],aF 1 ah .R []++aF 2 ah ah.own []++aF 4 an .R []++aF 5 a8 .R []++aF 6 a8 .R []++aF 7 J .R []++aF 8 ah (.S (.cons .R (.cons (.O .R) .nil))) []++aF 10 J .R [],[.drop,.drop,.drop]⟩)]
def akN(k:Nat→ar→Option (m8)):ql:=⟨fun U aa ae ai aq az=>k 7 (bl [(3,aE 1),(4,aE 2),(6,aE 3),(7,aE 5),(8,aE 6),(9,aE 7)] (aH 1 ah .R [] U++aH 2 aK .R [] aa++aH 3 ah ah.own [] ae++aH 5 an .R [] ai++aH 6 a8 .R [] aq++aH 7 a8 .R [] az) [.aB,.aB,.aB]),fun U aa ae ai aq az aU bn=>k 18 (bl [(3,aE 1),(4,aE 2),(6,aE 3),(7,aE 5),(8,aE 6),(9,aE 7),(11,aE 8),(12,aE 9)] (aH 1 ah .R [] U++aH 2 aK .R [] aa++aH 3 ah ah.own [] ae++aH 5 an .R [] ai++aH 6 a8 .R [] aq++aH 7 a8 .R [] az++aH 8 J .R [] aU++aH 9 J .R [] bn) [.aB,.aB,.aB]),fun U aa ae ai aq az aU bn=>k 27 (bl [(3,aE 1),(6,aE 2),(7,aE 4),(8,aE 5),(9,aE 6),(12,aE 7),(13,aE 8),(14,aE 10)] (aH 1 ah .R [] U++aH 2 ah ah.own [] aa++aH 4 an .R [] ae++aH 5 a8 .R [] ai++aH 6 a8 .R [] aq++aH 7 J .R [] az++aH 8 ah (.S (.cons .R (.cons (.O .R) .nil))) [] aU++aH 10 J .R [] bn) [.aB,.aB,.aB]),fun U aa ae ai aq az=>k 34 (bl [(3,aE 1),(6,aE 2),(7,aE 4),(8,aE 5),(9,aE 6),(13,aE 7)] (aH 1 ah .R [] U++aH 2 ah ah.own [] aa++aH 4 an .R [] ae++aH 5 a8 .R [] ai++aH 6 a8 .R [] aq++aH 7 ah (.S (.cons .R (.cons (.O .R) .nil))) [] az) [.aB,.aB,.aB]),fun U aa ae ai aq az aU bn=>k 29 (bl [(3,aE 1),(6,aE 2),(7,aE 4),(8,aE 5),(9,aE 6),(12,aE 7),(13,aE 8),(14,aE 10)] (aH 1 ah .R [] U++aH 2 ah ah.own [] aa++aH 4 an .R [] ae++aH 5 a8 .R [] ai++aH 6 a8 .R [] aq++aH 7 J .R [] az++aH 8 ah (.S (.cons .R (.cons (.O .R) .nil))) [] aU++aH 10 J .R [] bn) [.aB,.aB,.aB])⟩
theorem akO:Sound Tryz.prog 218 0 Y1:=b8 bk 0 (fn:=Tryz.f218) (fns:=[(134,wS),(249,qx),(250,tL),(251,y2),(252,IG),(254,wU),(255,Qf),(256,Qg),(258,Y0)]) ⟨y1,rZ,wT,BL,Qe,y4,YV,YW,akL,trivial⟩ akM akN WH gJ (fun k x=>Hl k x.1 x.2.1 x.2.2.1) (by kernel_rfl) rfl
def Y2:Entry:=⟨[aL .str,aL (.int .i64),aL .str],[a_ .str],tw⟩
def akP:List (Nat×bT):=[(2,⟨[(1,aG),(2,aG),(7,.cell (.af 1))],[(1,.row (.int .u8) .R)],[.drop,.drop,.drop]⟩),(5,⟨[(1,aG),(2,aG),(7,.cell (.af 1)),(8,aG)],[(1,.row (.int .u8) .R)],[.drop,.drop,.drop]⟩)]
def akQ(k:Nat→ar→Option ((aj)×Unit)):tv:=⟨fun U aa ae=>k 2 (bl [(1,aQ U),(2,eJ aa),(7,.aV (.af 1 none))] [(1,.row (.int .u8) .R 0 ae)] [.aB,.aB,.aB]),fun U aa ae ai=>k 5 (bl [(1,aQ U),(2,eJ aa),(7,.aV (.af 1 none)),(8,aQ ae)] [(1,.row (.int .u8) .R 0 ai)] [.aB,.aB,.aB])⟩
theorem akR:Sound Tryz.prog 259 0 Y2:=b8 bk 0 (fn:=Tryz.f259) (fns:=[]) trivial akP akQ WJ n_ (fun k x=>Hn k x.1 x.2.1 x.2.2.1) (by kernel_rfl) rfl
def Y3:Entry:=⟨[aL ah,aL aK,aL aI],[a_ ah,a_ an],yI⟩
def akS:List (Nat×bT):=[(12,⟨[(3,.ptr 1),(5,.ptr 2),(6,.ptr 3),(7,.ptr 5),(9,.ptr 6),(10,aG)],aF 1 ah .R []++aF 2 aI .R []++aF 3 ah ah.own []++aF 5 an .R []++aF 6 J .R [],[.drop,.drop,.drop]⟩),(23,⟨[(3,.ptr 1),(6,.ptr 2),(7,.ptr 4),(9,.ptr 5)],aF 1 ah .R []++aF 2 ah ah.own []++aF 4 an .R []++aF 5 J .R [],[.drop,.drop,.drop]⟩)]
def akT(k:Nat→ar→Option (wo)):wq:=⟨fun U aa ae ai aq az=>k 12 (bl [(3,aE 1),(5,aE 2),(6,aE 3),(7,aE 5),(9,aE 6),(10,aQ U)] (aH 1 ah .R [] aa++aH 2 aI .R [] ae++aH 3 ah ah.own [] ai++aH 5 an .R [] aq++aH 6 J .R [] az) [.aB,.aB,.aB]),fun U aa ae ai=>k 23 (bl [(3,aE 1),(6,aE 2),(7,aE 4),(9,aE 5)] (aH 1 ah .R [] U++aH 2 ah ah.own [] aa++aH 4 an .R [] ae++aH 5 J .R [] ai) [.aB,.aB,.aB])⟩
theorem akU:Sound Tryz.prog 219 0 Y3:=b8 bk 0 (fn:=Tryz.f219) (fns:=[(134,wS),(249,qx),(250,tL),(251,y2),(253,y3),(254,wU),(259,Y2)]) ⟨y1,rZ,wT,BL,BM,y4,akR,trivial⟩ akS akT WK kA (fun k x=>Ho k x.1 x.2.1 x.2.2.1) (by kernel_rfl) rfl
def Y4:Entry:=⟨[aL ah,aL aK,aL aI],[a_ ah,a_ an],tz⟩
def akV:List (Nat×bT):=[(8,⟨[(3,.ptr 1),(4,.ptr 2),(5,.ptr 3),(6,.ptr 4),(7,.ptr 6),(8,aG)],aF 1 ah .R []++aF 2 aK .R []++aF 3 aI .R []++aF 4 ah ah.own []++aF 6 an .R [],[.drop,.drop,.drop]⟩),(12,⟨[(3,.ptr 1),(4,.ptr 2),(5,.ptr 3),(6,.ptr 4),(7,.ptr 6)],aF 1 ah .R []++aF 2 aK .R []++aF 3 aI .R []++aF 4 ah ah.own []++aF 6 an .R [],[.drop,.drop,.drop]⟩),(24,⟨[(3,.ptr 1),(4,.ptr 2),(5,.ptr 3),(6,.ptr 4),(7,.ptr 6),(10,.ptr 7)],aF 1 ah .R []++aF 2 aK .R []++aF 3 aI .R []++aF 4 ah ah.own []++aF 6 an .R []++aF 7 J .R [],[.drop,.drop,.drop]⟩),(32,⟨[(3,.ptr 1),(6,.ptr 2),(7,.ptr 4),(10,.ptr 5)],aF 1 ah .R []++aF 2 ah ah.own []++aF 4 an .R []++aF 5 J .R [],[.drop,.drop,.drop]⟩)]
def akW(k:Nat→ar→Option (pk)):rO:=⟨fun U aa ae ai aq az=>k 8 (bl [(3,aE 1),(4,aE 2),(5,aE 3),(6,aE 4),(7,aE 6),(8,jM U)] (aH 1 ah .R [] aa++aH 2 aK .R [] ae++aH 3 aI .R [] ai++aH 4 ah ah.own [] aq++aH 6 an .R [] az) [.aB,.aB,.aB]),fun U aa ae ai aq=>k 12 (bl [(3,aE 1),(4,aE 2),(5,aE 3),(6,aE 4),(7,aE 6)] (aH 1 ah .R [] U++aH 2 aK .R [] aa++aH 3 aI .R [] ae++aH 4 ah ah.own [] ai++aH 6 an .R [] aq) [.aB,.aB,.aB]),fun U aa ae ai aq az=>k 24 (bl [(3,aE 1),(4,aE 2),(5,aE 3),(6,aE 4),(7,aE 6),(10,aE 7)] (aH 1 ah .R [] U++aH 2 aK .R [] aa++aH 3 aI .R [] ae++aH 4 ah ah.own [] ai++aH 6 an .R [] aq++aH 7 J .R [] az) [.aB,.aB,.aB]),fun U aa ae ai=>k 32 (bl [(3,aE 1),(6,aE 2),(7,aE 4),(10,aE 5)] (aH 1 ah .R [] U++aH 2 ah ah.own [] aa++aH 4 an .R [] ae++aH 5 J .R [] ai) [.aB,.aB,.aB])⟩
theorem akX:Sound Tryz.prog 220 0 Y4:=b8 bk 0 (fn:=Tryz.f220) (fns:=[(67,mj),(134,wS),(249,qx),(251,y2),(253,y3),(254,wU),(260,Qa)]) ⟨ng,y1,rZ,BL,BM,y4,YN,trivial⟩ akV akW WL h9 (fun k x=>tx k x.1 x.2.1 x.2.2.1) (by kernel_rfl) rfl
def Y5:Entry:=⟨[aL ah,aL (.int .i64)],[a_ (.int .i64)],Hs⟩
def akY:List (Nat×bT):=[(8,⟨[(2,.ptr 1),(5,aG),(6,aG),(7,aG)],aF 1 ah .R [],[.drop,.drop]⟩)]
def akZ(k:Nat→ar→Option (Int×Unit)):Hp:=fun U aa ae ai=>k 8 (bl [(2,aE 1),(5,aQ U),(6,aQ aa),(7,aQ ae)] (aH 1 ah .R [] ai) [.aB,.aB])
theorem ak0:Sound Tryz.prog 261 0 Y5:=b8 bk 0 (fn:=Tryz.f261) (fns:=[(137,P4),(187,tK),(257,Qh)]) ⟨Yz,wR,YY,trivial⟩ akY akZ Hr wu (fun k x=>Hq k x.1 x.2.1) (by kernel_rfl) rfl
def Y6:Entry:=⟨[aL ah,aL aK,aL aI],[a_ an],lE⟩
def ak1:List (Nat×bT):=[(5,⟨[(3,.ptr 1),(4,.ptr 2),(5,.ptr 3),(6,.ptr 4)],aF 1 ah .R []++aF 2 aK .R []++aF 3 aI .R []++aF 4 an .R [],[.drop,.drop,.drop]⟩),(6,⟨[(3,.ptr 1),(4,.ptr 2),(5,.ptr 3),(6,.ptr 4),(7,.ptr 5)],aF 1 ah .R []++aF 2 aK .R []++aF 3 aI .R []++aF 4 an .R []++aF 5 a8 .R [],[.drop,.drop,.drop]⟩),(20,⟨[(5,.ptr 1),(6,.ptr 2),(8,.ptr 3),(10,.cell (.af 4)),(11,aG)],aF 1 aI .R []++aF 2 an .R []++aF 3 J .R []++[(4,.row (.int .u8) .R)],[.drop,.drop,.drop]⟩),(35,⟨[(6,.ptr 1),(8,.ptr 2),(12,aG),(13,aG)],aF 1 an .R []++aF 2 J .R [],[.drop,.drop,.drop]⟩),(39,⟨[(6,.ptr 1),(8,.ptr 2),(12,aG),(13,aG)],aF 1 an .R []++aF 2 J .R [],[.drop,.drop,.drop]⟩)]
def ak2(k:Nat→ar→Option (an.D×Unit)):n':=⟨fun U aa ae ai=>k 5 (bl [(3,aE 1),(4,aE 2),(5,aE 3),(6,aE 4)] (aH 1 ah .R [] U++aH 2 aK .R [] aa++aH 3 aI .R [] ae++aH 4 an .R [] ai) [.aB,.aB,.aB]),fun U aa ae ai aq=>k 6 (bl [(3,aE 1),(4,aE 2),(5,aE 3),(6,aE 4),(7,aE 5)] (aH 1 ah .R [] U++aH 2 aK .R [] aa++aH 3 aI .R [] ae++aH 4 an .R [] ai++aH 5 a8 .R [] aq) [.aB,.aB,.aB]),fun U aa ae ai aq=>k 20 (bl [(5,aE 1),(6,aE 2),(8,aE 3),(10,.aV (.af 4 none)),(11,aQ U)] (aH 1 aI .R [] aa++aH 2 an .R [] ae++aH 3 J .R [] ai++[(4,.row (.int .u8) .R 0 aq)]) [.aB,.aB,.aB]),fun U aa ae ai=>k 35 (bl [(6,aE 1),(8,aE 2),(12,eJ U),(13,aQ aa)] (aH 1 an .R [] ae++aH 2 J .R [] ai) [.aB,.aB,.aB]),fun U aa ae ai=>k 39 (bl [(6,aE 1),(8,aE 2),(12,eJ U),(13,aQ aa)] (aH 1 an .R [] ae++aH 2 J .R [] ai) [.aB,.aB,.aB])⟩
theorem ak3:Sound Tryz.prog 221 0 Y6:=b8 bk 0 (fn:=Tryz.f221) (fns:=[(67,mj),(138,P5),(188,P6),(214,P9),(249,qx),(250,tL),(254,wU),(261,Y5)]) ⟨ng,YA,YB,YK,rZ,wT,y4,ak0,trivial⟩ ak1 ak2 WM fP (fun k x=>rP k x.1 x.2.1 x.2.2.1) (by kernel_rfl) rfl
def Y7:Entry:=⟨[Ev ah,Ev aK,aL aI],[a_ ah,a_ an],wx⟩
def ak4:List (Nat×bT):=[(8,⟨[(3,.ptr 1),(4,.ptr 2),(5,.ptr 3),(6,.ptr 4),(7,.ptr 6),(19,aG)],aF 1 ah .R []++aF 2 aK .R []++aF 3 aI .R []++aF 4 ah ah.own []++aF 6 an .R [],[.drop,.drop,.drop]⟩),(11,⟨[(3,.ptr 1),(4,.ptr 2),(5,.ptr 3),(6,.ptr 4),(7,.ptr 6),(19,aG)],aF 1 ah .R []++aF 2 aK .R []++aF 3 aI .R []++aF 4 ah ah.own []++aF 6 an .R [],[.drop,.drop,.drop]⟩),(19,⟨[(3,.ptr 1),(4,.ptr 2),(5,.ptr 3),(6,.ptr 4),(7,.ptr 6),(19,aG)],aF 1 ah .R []++aF 2 aK .R []++aF 3 aI .R []++aF 4 ah ah.own []++aF 6 an .R [],[.drop,.drop,.drop]⟩)]
def ak5(k:Nat→ar→Option (rQ)):tC:=⟨fun U aa ae ai aq az=>k 8 (bl [(3,aE 1),(4,aE 2),(5,aE 3),(6,aE 4),(7,aE 6),(19,aQ U)] (aH 1 ah .R [] aa++aH 2 aK .R [] ae++aH 3 aI .R [] ai++aH 4 ah ah.own [] aq++aH 6 an .R [] az) [.aB,.aB,.aB]),fun U aa ae ai aq az=>k 11 (bl [(3,aE 1),(4,aE 2),(5,aE 3),(6,aE 4),(7,aE 6),(19,aQ U)] (aH 1 ah .R [] aa++aH 2 aK .R [] ae++aH 3 aI .R [] ai++aH 4 ah ah.own [] aq++aH 6 an .R [] az) [.aB,.aB,.aB]),fun U aa ae ai aq az=>k 19 (bl [(3,aE 1),(4,aE 2),(5,aE 3),(6,aE 4),(7,aE 6),(19,aQ U)] (aH 1 ah .R [] aa++aH 2 aK .R [] ae++aH 3 aI .R [] ai++aH 4 ah ah.own [] aq++aH 6 an .R [] az) [.aB,.aB,.aB])⟩
theorem ak6:Sound Tryz.prog 184 0 Y7:=b8 bk 0 (fn:=Tryz.f184) (fns:=[(132,y0),(215,YU),(216,YX),(217,YZ),(218,Y1),(219,Y3),(220,Y4),(221,Y6)]) ⟨BK,akC,akH,akI,akO,akU,akX,ak3,trivial⟩ ak4 ak5 WN Hw (fun k x=>yJ k x.1 x.2.1 x.2.2.1) (by kernel_rfl) rfl
def Y8:Entry:=⟨[.val aY (.S (.cons .R (.cons .R (.cons (.O .R) (.cons (.O .R) .nil))))),aL (.int .i64),aL aI],[.val aY (.S (.cons .R (.cons .R (.cons (.O .R) (.cons (.O .R) .nil))))),a_ an],Hz⟩
def ak7:List (Nat×bT):=[(10,⟨[(3,.ptr 1),(5,.ptr 4),(6,.ptr 5),(7,.ptr 9),(8,.ptr 10)],aF 1 aY (.S (.cons .R (.cons .R (.cons (.O .R) (.cons (.O .R) .nil))))) []++aF 4 aI .R []++aF 5 aY aY.own []++aF 9 an .R []++aF 10 aK aK.own [],[.drop,.drop,.drop]⟩),(19,⟨[(3,.ptr 1),(5,.ptr 4),(6,.ptr 5),(7,.ptr 9),(8,.ptr 10)],aF 1 aY (.S (.cons .R (.cons .R (.cons (.O .R) (.cons (.O .R) .nil))))) []++aF 4 aI .R []++aF 5 aY aY.own []++aF 9 an .R []++aF 10 aK aK.own [],[.drop,.drop,.drop]⟩)]
def ak8(k:Nat→ar→Option (wy)):wz:=⟨fun U aa ae ai aq=>k 10 (bl [(3,aE 1),(5,aE 4),(6,aE 5),(7,aE 9),(8,aE 10)] (aH 1 aY (.S (.cons .R (.cons .R (.cons (.O .R) (.cons (.O .R) .nil))))) [] U++aH 4 aI .R [] aa++aH 5 aY aY.own [] ae++aH 9 an .R [] ai++aH 10 aK aK.own [] aq) [.aB,.aB,.aB]),fun U aa ae ai aq=>k 19 (bl [(3,aE 1),(5,aE 4),(6,aE 5),(7,aE 9),(8,aE 10)] (aH 1 aY (.S (.cons .R (.cons .R (.cons (.O .R) (.cons (.O .R) .nil))))) [] U++aH 4 aI .R [] aa++aH 5 aY aY.own [] ae++aH 9 an .R [] ai++aH 10 aK aK.own [] aq) [.aB,.aB,.aB])⟩
theorem ak9:Sound Tryz.prog 131 0 Y8:=b8 bk 0 (fn:=Tryz.f131) (fns:=[(132,y0),(133,IE),(181,YH),(182,YJ),(183,YL),(184,Y7)]) ⟨BK,P8,aj9,aj',ake,ak6,trivial⟩ ak7 ak8 WO qm (fun k x=>Hy k x.1 x.2.1 x.2.2.1) (by kernel_rfl) rfl
def Y9:Entry:=⟨[.val aY (.S (.cons .R (.cons .R (.cons (.O .R) (.cons (.O .R) .nil))))),aL (.int .i64),aL (.int .i64),aL aI,aL (.int .i64)],[.val aY (.S (.cons .R (.cons .R (.cons (.O .R) (.cons (.O .R) .nil))))),a_ an,a_ .bool],rT⟩
def ak_:List (Nat×bT):=[(10,⟨[(1,aG),(2,aG),(4,aG),(5,.ptr 1),(8,.ptr 4),(10,.ptr 5),(11,.ptr 9),(14,.ptr 10),(15,aG)],aF 1 aY (.S (.cons .R (.cons .R (.cons (.O .R) (.cons (.O .R) .nil))))) []++aF 4 aI .R []++aF 5 aY aY.own []++aF 9 an .R []++aF 10 an .R [],[.drop,.drop,.drop,.drop,.drop]⟩),(11,⟨[(1,aG),(2,aG),(4,aG),(5,.ptr 1),(8,.ptr 4),(10,.ptr 5),(11,.ptr 9),(14,.ptr 10)],aF 1 aY (.S (.cons .R (.cons .R (.cons (.O .R) (.cons (.O .R) .nil))))) []++aF 4 aI .R []++aF 5 aY aY.own []++aF 9 an .R []++aF 10 an .R [],[.drop,.drop,.drop,.drop,.drop]⟩),(12,⟨[(1,aG),(2,aG),(4,aG),(5,.ptr 1),(10,.ptr 4),(11,.ptr 8),(14,.ptr 9)],aF 1 aY (.S (.cons .R (.cons .R (.cons (.O .R) (.cons (.O .R) .nil))))) []++aF 4 aY aY.own []++aF 8 an .R []++aF 9 an .R [],[.drop,.drop,.drop,.drop,.drop]⟩)]
def ak'(k:Nat→ar→Option (nc)):rR:=⟨fun U aa ae ai aq az aU bn bu=>k 10 (bl [(1,aQ U),(2,aQ aa),(4,aQ ae),(5,aE 1),(8,aE 4),(10,aE 5),(11,aE 9),(14,aE 10),(15,jM ai)] (aH 1 aY (.S (.cons .R (.cons .R (.cons (.O .R) (.cons (.O .R) .nil))))) [] aq++aH 4 aI .R [] az++aH 5 aY aY.own [] aU++aH 9 an .R [] bn++aH 10 an .R [] bu) [.aB,.aB,.aB,.aB,.aB]),fun U aa ae ai aq az aU bn=>k 11 (bl [(1,aQ U),(2,aQ aa),(4,aQ ae),(5,aE 1),(8,aE 4),(10,aE 5),(11,aE 9),(14,aE 10)] (aH 1 aY (.S (.cons .R (.cons .R (.cons (.O .R) (.cons (.O .R) .nil))))) [] ai++aH 4 aI .R [] aq++aH 5 aY aY.own [] az++aH 9 an .R [] aU++aH 10 an .R [] bn) [.aB,.aB,.aB,.aB,.aB]),fun U aa ae ai aq az aU=>k 12 (bl [(1,aQ U),(2,aQ aa),(4,aQ ae),(5,aE 1),(10,aE 4),(11,aE 8),(14,aE 9)] (aH 1 aY (.S (.cons .R (.cons .R (.cons (.O .R) (.cons (.O .R) .nil))))) [] ai++aH 4 aY aY.own [] aq++aH 8 an .R [] az++aH 9 an .R [] aU) [.aB,.aB,.aB,.aB,.aB])⟩
theorem ala:Sound Tryz.prog 64 0 Y9:=b8 bk 0 (fn:=Tryz.f64) (fns:=[(57,YF),(67,mj),(116,P7),(130,YG),(131,Y8),(132,y0),(133,IE)]) ⟨aj3,ng,YE,aj6,ak9,BK,P8,trivial⟩ ak_ ak' WR rS (fun k x=>HA k x.1 x.2.1 x.2.2.1 x.2.2.2.1 x.2.2.2.2.1) (by kernel_rfl) rfl
def Y_:Entry:=⟨[aL an,aL an],[a_ .bool],OQ⟩
theorem alb:Sound Tryz.prog 30 0 Y_:=cg bk 0 (fn:=Tryz.f30) (fns:=[]) trivial (by kernel_rfl)
def IH:Entry:=⟨[aL (.int .i64)],[a_ .str],nd⟩
def alc:List (Nat×bT):=[(4,⟨[(0,aG),(3,aG)],[],[.drop]⟩)]
def ald(k:Nat→ar→Option ((aj)×Unit)):HB:=fun U aa=>k 4 (bl [(0,aQ U),(3,eJ aa)] [] [.aB])
theorem Qi:Sound Tryz.prog 78 0 IH:=b8 bk 0 (fn:=Tryz.f78) (fns:=[]) trivial alc ald HD wA (fun k x=>HC k x.1) (by kernel_rfl) rfl
def Y':Entry:=⟨[],[ro ah],WS⟩
theorem ale:Sound Tryz.prog 153 0 Y':=cg bk 0 (fn:=Tryz.f153) (fns:=[]) trivial (by kernel_rfl)
def Za:Entry:=⟨[],[.val aY (.S (.cons .R (.cons .R (.cons (.O .R) (.cons (.O .R) .nil)))))],OR⟩
theorem alf:Sound Tryz.prog 96 0 Za:=cg bk 0 (fn:=Tryz.f96) (fns:=[(153,Y')]) ⟨ale,trivial⟩ (by kernel_rfl)
def Zb:Entry:=⟨[aL (.int .i64)],[a_ (.int .i64)],OT⟩
theorem alg:Sound Tryz.prog 140 0 Zb:=cg bk 0 (fn:=Tryz.f140) (fns:=[]) trivial (by kernel_rfl)
def Zc:Entry:=⟨[aL an,aL (.int .i64)],[a_ (.int .i64)],OV⟩
theorem alh:Sound Tryz.prog 71 0 Zc:=cg bk 0 (fn:=Tryz.f71) (fns:=[]) trivial (by kernel_rfl)
def Zd:Entry:=⟨[aL (.sl an),aL (.int .i64)],[a_ (.int .i64)],OW⟩
def ali:List (Nat×bT):=[(5,⟨[(0,.cell (.bM an [])),(1,aG),(5,aG)],[],[.drop,.drop]⟩)]
def alj(k:Nat→ar→Option (Int×Unit)):HE:=fun U aa ae=>k 5 (bl [(0,dS an U),(1,aQ aa),(5,aQ ae)] [] [.aB,.aB])
theorem alk:Sound Tryz.prog 16 0 Zd:=b8 bk 0 (fn:=Tryz.f16) (fns:=[(71,Zc)]) ⟨alh,trivial⟩ ali alj HG wB (fun k x=>HF k x.1 x.2.1) (by kernel_rfl) rfl
def Ze:Entry:=⟨[aL (.int .i64)],[a_ .bool],OY⟩
theorem alm:Sound Tryz.prog 72 0 Ze:=cg bk 0 (fn:=Tryz.f72) (fns:=[]) trivial (by kernel_rfl)
def Zf:Entry:=⟨[aL aP],[a_ .bool],O0⟩
theorem aln:Sound Tryz.prog 199 0 Zf:=cg bk 0 (fn:=Tryz.f199) (fns:=[(67,mj),(132,y0)]) ⟨ng,BK,trivial⟩ (by kernel_rfl)
def Zg:Entry:=⟨[aL (.sl aP),aL (.int .i64)],[a_ .bool],HK⟩
def alo:List (Nat×bT):=[(2,⟨[(0,.cell (.bM aP [])),(1,aG),(5,aG)],[],[.drop,.drop]⟩)]
def alp(k:Nat→ar→Option (Bool×Unit)):HH:=fun U aa ae=>k 2 (bl [(0,dS aP U),(1,aQ aa),(5,aQ ae)] [] [.aB,.aB])
theorem alq:Sound Tryz.prog 161 0 Zg:=b8 bk 0 (fn:=Tryz.f161) (fns:=[(199,Zf)]) ⟨aln,trivial⟩ alo alp HJ qn (fun k x=>HI k x.1 x.2.1) (by kernel_rfl) rfl
def Zh:Entry:=⟨[aL (.sl aP)],[a_ .bool],O2⟩
theorem alr:Sound Tryz.prog 106 0 Zh:=cg bk 0 (fn:=Tryz.f106) (fns:=[(161,Zg)]) ⟨alq,trivial⟩ (by kernel_rfl)
def y5:Entry:=⟨[aL (.int .i64)],[a_ .str],qo⟩
def als:List (Nat×bT):=[(4,⟨[(0,aG),(3,.cell (.af 1))],[(1,.row (.int .u8) .R)],[.drop]⟩)]
def alu(k:Nat→ar→Option ((aj)×Unit)):Bt:=fun U aa=>k 4 (bl [(0,aQ U),(3,.aV (.af 1 none))] [(1,.row (.int .u8) .R 0 aa)] [.aB])
theorem BN:Sound Tryz.prog 162 0 y5:=b8 bk 0 (fn:=Tryz.f162) (fns:=[(67,mj)]) ⟨ng,trivial⟩ als alu O3 yL (fun k x=>HL k x.1) (by kernel_rfl) rfl
def Qj:Entry:=⟨[aL .str],[a_ .str],yM⟩
theorem Zi:Sound Tryz.prog 163 0 Qj:=cg bk 0 (fn:=Tryz.f163) (fns:=[(162,y5)]) ⟨BN,trivial⟩ (by kernel_rfl)
def Zj:Entry:=⟨[aL (.int .i64)],[a_ .str],yN⟩
theorem alv:Sound Tryz.prog 198 0 Zj:=cg bk 0 (fn:=Tryz.f198) (fns:=[(162,y5)]) ⟨BN,trivial⟩ (by kernel_rfl)
def Qk:Entry:=⟨[aL aI],[a_ .str],yO⟩
theorem Zk:Sound Tryz.prog 160 0 Qk:=cg bk 0 (fn:=Tryz.f160) (fns:=[(132,y0),(162,y5),(163,Qj),(198,Zj)]) ⟨BK,BN,Zi,alv,trivial⟩ (by kernel_rfl)
def Zl:Entry:=⟨[aL aP],[a_ .str],O8⟩
theorem alw:Sound Tryz.prog 107 0 Zl:=cg bk 0 (fn:=Tryz.f107) (fns:=[(160,Qk),(162,y5),(163,Qj)]) ⟨Zk,BN,Zi,trivial⟩ (by kernel_rfl)
def Zm:Entry:=⟨[aL (.sl aP)],[a_ .str],O9⟩
def alx:List (Nat×bT):=[(5,⟨[(0,.cell (.bM aP [])),(3,aG),(4,aG)],[],[.drop]⟩)]
def aly(k:Nat→ar→Option ((aj)×Unit)):HM:=fun U aa ae=>k 5 (bl [(0,dS aP U),(3,eJ aa),(4,aQ ae)] [] [.aB])
theorem alz:Sound Tryz.prog 43 0 Zm:=b8 bk 0 (fn:=Tryz.f43) (fns:=[(106,Zh),(107,Zl)]) ⟨alr,alw,trivial⟩ alx aly yP wC (fun k x=>HN k x.1) (by kernel_rfl) rfl
def Zn:Entry:=⟨[aL .str],[a_ (.int .i64),a_ (.int .i64)],O_⟩
def alA:List (Nat×bT):=[(2,⟨[(0,aG),(4,aG)],[],[.drop]⟩),(6,⟨[(0,aG),(4,aG),(5,aG),(6,aG)],[],[.drop]⟩)]
def alB(k:Nat→ar→Option (Int×Int×Unit)):wD:=⟨fun U aa=>k 2 (bl [(0,eJ U),(4,aQ aa)] [] [.aB]),fun U aa ae ai=>k 6 (bl [(0,eJ U),(4,aQ aa),(5,aQ ae),(6,aQ ai)] [] [.aB])⟩
theorem alC:Sound Tryz.prog 158 0 Zn:=b8 bk 0 (fn:=Tryz.f158) (fns:=[(162,y5)]) ⟨BN,trivial⟩ alA alB WU mi (fun k x=>HO k x.1) (by kernel_rfl) rfl
def II:Entry:=⟨[aL .str,aL (.int .i64),aL (.int .i64)],[ro (.sl (.int .i64)),a_ (.int .i64)],pq⟩
def alD:List (Nat×bT):=[(3,⟨[(0,aG),(1,aG),(2,aG),(8,.cell (.af 1)),(9,aG)],[(1,.row (.int .i64) .R)],[.drop,.drop,.drop]⟩)]
def alE(k:Nat→ar→Option (Bv)):HP:=fun U aa ae ai aq=>k 3 (bl [(0,eJ U),(1,aQ aa),(2,aQ ae),(8,.aV (.af 1 none)),(9,aQ ai)] [(1,.row (.int .i64) .R 0 aq)] [.aB,.aB,.aB])
theorem Ql:Sound Tryz.prog 103 0 II:=b8 bk 0 (fn:=Tryz.f103) (fns:=[(158,Zn)]) ⟨alC,trivial⟩ alD alE Bw pn (fun k x=>HQ k x.1 x.2.1 x.2.2.1) (by kernel_rfl) rfl
def Qm:Entry:=⟨[aL .str,aL (.int .i64)],[a_ .str,a_ (.int .i64)],wF⟩
theorem Zo:Sound Tryz.prog 104 0 Qm:=cg bk 0 (fn:=Tryz.f104) (fns:=[(103,II)]) ⟨Ql,trivial⟩ (by kernel_rfl)
def Zp:Entry:=⟨[aL (.int .i64)],[a_ (.int .i64)],yQ⟩
theorem alF:Sound Tryz.prog 159 0 Zp:=cg bk 0 (fn:=Tryz.f159) (fns:=[]) trivial (by kernel_rfl)
def Zq:Entry:=⟨[aL .str],[a_ aI,a_ .bool],Pc⟩
theorem alG:Sound Tryz.prog 105 0 Zq:=cg bk 0 (fn:=Tryz.f105) (fns:=[(103,II),(104,Qm),(159,Zp),(160,Qk)]) ⟨Ql,Zo,alF,Zk,trivial⟩ (by kernel_rfl)
def Zr:Entry:=⟨[aL .str],[ro (.sl aP),a_ .bool],Pd⟩
def alH:List (Nat×bT):=[(5,⟨[(0,aG),(4,.cell (.af 1)),(5,aG)],[(1,.row aP .R)],[.drop]⟩)]
def alI(k:Nat→ar→Option (yR)):Bx:=fun U aa ae=>k 5 (bl [(0,eJ U),(4,.aV (.af 1 none)),(5,aQ aa)] [(1,.row aP .R 0 ae)] [.aB])
theorem alJ:Sound Tryz.prog 41 0 Zr:=b8 bk 0 (fn:=Tryz.f41) (fns:=[(43,Zm),(103,II),(104,Qm),(105,Zq)]) ⟨alz,Ql,Zo,alG,trivial⟩ alH alI tD tE (fun k x=>HR k x.1) (by kernel_rfl) rfl
def Zs:Entry:=⟨[aL (.sl an),aL (.int .i64),aL (.int .i64)],[.val aY (.S (.cons .R (.cons .R (.cons (.O .R) (.cons (.O .R) .nil))))),ro (.sl aZ)],Pe⟩
def alK:List (Nat×bT):=[(4,⟨[(0,.cell (.bM an [])),(1,aG),(2,aG),(6,.ptr 1),(8,.ptr 5),(9,.cell (.af 8)),(10,aG)],aF 1 aY aY.own []++aF 5 aY (.S (.cons .R (.cons .R (.cons (.O .R) (.cons (.O .R) .nil))))) []++[(8,.row aZ .R)],[.drop,.drop,.drop]⟩),(10,⟨[(0,.cell (.bM an [])),(1,aG),(2,aG),(6,.ptr 1),(8,.ptr 5),(9,.cell (.af 8)),(10,aG),(11,.cell (.af 9)),(13,aG)],aF 1 aY aY.own []++aF 5 aY (.S (.cons .R (.cons .R (.cons (.O .R) (.cons (.O .R) .nil))))) []++[(8,.row aZ .R),(9,.row aP .R)],[.drop,.drop,.drop]⟩)]
def alL(k:Nat→ar→Option (qp)):qq:=⟨fun U aa ae ai aq az aU=>k 4 (bl [(0,dS an U),(1,aQ aa),(2,aQ ae),(6,aE 1),(8,aE 5),(9,.aV (.af 8 none)),(10,aQ ai)] (aH 1 aY aY.own [] aq++aH 5 aY (.S (.cons .R (.cons .R (.cons (.O .R) (.cons (.O .R) .nil))))) [] az++[(8,.row aZ .R 0 aU)]) [.aB,.aB,.aB]),fun U aa ae ai aq az aU bn bu=>k 10 (bl [(0,dS an U),(1,aQ aa),(2,aQ ae),(6,aE 1),(8,aE 5),(9,.aV (.af 8 none)),(10,aQ ai),(11,.aV (.af 9 none)),(13,aQ aq)] (aH 1 aY aY.own [] az++aH 5 aY (.S (.cons .R (.cons .R (.cons (.O .R) (.cons (.O .R) .nil))))) [] aU++[(8,.row aZ .R 0 bn),(9,.row aP .R 0 bu)]) [.aB,.aB,.aB])⟩
theorem alM:Sound Tryz.prog 73 0 Zs:=b8 bk 0 (fn:=Tryz.f73) (fns:=[(41,Zr),(64,Y9),(140,Zb),(96,Za)]) ⟨alJ,ala,alg,alf,trivial⟩ alK alL W0 qs (fun k x=>HS k x.1 x.2.1 x.2.2.1) (by kernel_rfl) rfl
def Zt:Entry:=⟨[aL (.sl an),aL (.int .i64)],[a_ (.sl aZ),a_ .bool],HV⟩
theorem alN:Sound Tryz.prog 17 0 Zt:=cg bk 0 (fn:=Tryz.f17) (fns:=[(72,Ze),(73,Zs)]) ⟨alm,alM,trivial⟩ (by kernel_rfl)
def Zu:Entry:=⟨[aL an],[a_ an],Ph⟩
theorem alO:Sound Tryz.prog 74 0 Zu:=cg bk 0 (fn:=Tryz.f74) (fns:=[]) trivial (by kernel_rfl)
def Zv:Entry:=⟨[aL (.sl an)],[ro (.sl an)],yS⟩
def alP:List (Nat×bT):=[(3,⟨[(0,.cell (.bM an [])),(3,.cell (.af 1)),(4,aG)],[(1,.row an .R)],[.drop]⟩)]
def alQ(k:Nat→ar→Option (By)):HW:=fun U aa ae=>k 3 (bl [(0,dS an U),(3,.aV (.af 1 none)),(4,aQ aa)] [(1,.row an .R 0 ae)] [.aB])
theorem alR:Sound Tryz.prog 18 0 Zv:=b8 bk 0 (fn:=Tryz.f18) (fns:=[(74,Zu)]) ⟨alO,trivial⟩ alP alQ HY wG (fun k x=>HX k x.1) (by kernel_rfl) rfl
def Zw:Entry:=⟨[],[ro ah],W5⟩
theorem alS:Sound Tryz.prog 95 0 Zw:=cg bk 0 (fn:=Tryz.f95) (fns:=[]) trivial (by kernel_rfl)
def Zx:Entry:=⟨[],[ro aY],Pj⟩
theorem alT:Sound Tryz.prog 35 0 Zx:=cg bk 0 (fn:=Tryz.f35) (fns:=[(95,Zw)]) ⟨alS,trivial⟩ (by kernel_rfl)
def Zy:Entry:=⟨[aL .str],[a_ (.int .i64),a_ (.int .i64)],Pk⟩
def alU:List (Nat×bT):=[(3,⟨[(0,aG),(4,aG),(5,aG)],[],[.drop]⟩)]
def alV(k:Nat→ar→Option (Int×Int×Unit)):HZ:=fun U aa ae=>k 3 (bl [(0,eJ U),(4,aQ aa),(5,aQ ae)] [] [.aB])
theorem alW:Sound Tryz.prog 223 0 Zy:=b8 bk 0 (fn:=Tryz.f223) (fns:=[]) trivial alU alV H4 wH (fun k x=>H0 k x.1) (by kernel_rfl) rfl
def IJ:Entry:=⟨[yk j8],[a_ (.int .i64)],rU⟩
theorem Qn:Sound Tryz.prog 189 0 IJ:=cg bk 0 (fn:=Tryz.f189) (fns:=[(223,Zy)]) ⟨alW,trivial⟩ (by kernel_rfl)
def Zz:Entry:=⟨[yk j8,aL (.int .i64)],[a_ .str],yT⟩
theorem alX:Sound Tryz.prog 225 0 Zz:=cg bk 0 (fn:=Tryz.f225) (fns:=[]) trivial (by kernel_rfl)
def Qo:Entry:=⟨[yk j8],[a_ .str],wJ⟩
theorem ZA:Sound Tryz.prog 191 0 Qo:=cg bk 0 (fn:=Tryz.f191) (fns:=[(189,IJ),(225,Zz)]) ⟨Qn,alX,trivial⟩ (by kernel_rfl)
def ZB:Entry:=⟨[aL (.int .i64)],[a_ (.int .i64)],H5⟩
theorem alY:Sound Tryz.prog 224 0 ZB:=cg bk 0 (fn:=Tryz.f224) (fns:=[]) trivial (by kernel_rfl)
def ZC:Entry:=⟨[aL .str],[a_ aI,a_ .bool],Po⟩
theorem alZ:Sound Tryz.prog 190 0 ZC:=cg bk 0 (fn:=Tryz.f190) (fns:=[(127,yW),(189,IJ),(191,Qo),(224,ZB)]) ⟨BE,Qn,ZA,alY,trivial⟩ (by kernel_rfl)
def ZD:Entry:=⟨[aL aP],[a_ .bool],Pq⟩
theorem al0:Sound Tryz.prog 262 0 ZD:=cg bk 0 (fn:=Tryz.f262) (fns:=[(119,j'),(127,yW)]) ⟨kB,BE,trivial⟩ (by kernel_rfl)
def ZE:Entry:=⟨[aL (.sl aP),aL (.int .i64)],[a_ .bool],H8⟩
def al1:List (Nat×bT):=[(3,⟨[(0,.cell (.bM aP [])),(1,aG),(5,aG),(8,.cell (.bM aP [])),(9,aG),(10,aG)],[],[.drop,.drop]⟩),(8,⟨[(0,.cell (.bM aP [])),(1,aG),(5,aG),(6,aG),(7,.ptr 1),(8,.cell (.bM aP [])),(9,aG),(10,aG)],aF 1 aP .R [],[.drop,.drop]⟩)]
def al2(k:Nat→ar→Option (Bool×Unit)):wK:=⟨fun U aa ae ai aq az=>k 3 (bl [(0,dS aP U),(1,aQ aa),(5,aQ ae),(8,dS aP ai),(9,aQ aq),(10,aQ az)] [] [.aB,.aB]),fun U aa ae ai aq az aU bn=>k 8 (bl [(0,dS aP U),(1,aQ aa),(5,aQ ae),(6,aQ ai),(7,aE 1),(8,dS aP aq),(9,aQ az),(10,aQ aU)] (aH 1 aP .R [] bn) [.aB,.aB])⟩
theorem al3:Sound Tryz.prog 226 0 ZE:=b8 bk 0 (fn:=Tryz.f226) (fns:=[(262,ZD)]) ⟨al0,trivial⟩ al1 al2 W_ qt (fun k x=>H6 k x.1 x.2.1) (by kernel_rfl) rfl
def ZF:Entry:=⟨[aL (.sl aP)],[a_ .bool],H9⟩
theorem al4:Sound Tryz.prog 192 0 ZF:=cg bk 0 (fn:=Tryz.f192) (fns:=[(226,ZE)]) ⟨al3,trivial⟩ (by kernel_rfl)
def ZG:Entry:=⟨[aL .str],[ro (.sl aP),a_ .bool],Ia⟩
def al5:List (Nat×bT):=[(5,⟨[(4,.ptr 1),(5,.cell (.af 2))],aF 1 j8 .R []++[(2,.row aP .R)],[.drop]⟩)]
def al6(k:Nat→ar→Option (BB)):H_:=fun U aa=>k 5 (bl [(4,aE 1),(5,.aV (.af 2 none))] (aH 1 j8 .R [] U++[(2,.row aP .R 0 aa)]) [.aB])
theorem al7:Sound Tryz.prog 141 0 ZG:=b8 bk 0 (fn:=Tryz.f141) (fns:=[(189,IJ),(190,ZC),(191,Qo),(192,ZF)]) ⟨Qn,alZ,ZA,al4,trivial⟩ al5 al6 qu qv (fun k x=>H' k x.1) (by kernel_rfl) rfl
def ZH:Entry:=⟨[aL (.int .i64)],[a_ (.int .i64)],Pt⟩
theorem al8:Sound Tryz.prog 142 0 ZH:=cg bk 0 (fn:=Tryz.f142) (fns:=[]) trivial (by kernel_rfl)
def ZI:Entry:=⟨[aL (.sl an),aL (.int .i64),aL (.int .i64)],[ro aY,ro (.sl aZ),a_ .bool],Pu⟩
def al9:List (Nat×bT):=[(6,⟨[(1,aG),(6,.ptr 1),(9,.ptr 5),(10,.cell (.af 9)),(39,.cell (.bM an [])),(40,aG),(41,aG)],aF 1 aY aY.own []++aF 5 aY aY.own []++[(9,.row aZ .R)],[.drop,.drop,.drop]⟩),(12,⟨[(1,aG),(6,.ptr 1),(9,.ptr 5),(10,.cell (.af 9)),(11,aG),(39,.cell (.bM an [])),(40,aG),(41,aG),(58,.cell (.af 10)),(59,aG),(60,aG)],aF 1 aY aY.own []++aF 5 aY aY.own []++[(9,.row aZ .R),(10,.row aP .R)],[.drop,.drop,.drop]⟩)]
def al_(k:Nat→ar→Option (tG)):tH:=⟨fun U aa ae ai aq az aU=>k 6 (bl [(1,aQ U),(6,aE 1),(9,aE 5),(10,.aV (.af 9 none)),(39,dS an aa),(40,aQ ae),(41,aQ ai)] (aH 1 aY aY.own [] aq++aH 5 aY aY.own [] az++[(9,.row aZ .R 0 aU)]) [.aB,.aB,.aB]),fun U aa ae ai aq az aU bn bu ez e_=>k 12 (bl [(1,aQ U),(6,aE 1),(9,aE 5),(10,.aV (.af 9 none)),(11,aQ aa),(39,dS an ae),(40,aQ ai),(41,aQ aq),(58,.aV (.af 10 none)),(59,aQ az),(60,aQ aU)] (aH 1 aY aY.own [] bn++aH 5 aY aY.own [] bu++[(9,.row aZ .R 0 ez),(10,.row aP .R 0 e_)]) [.aB,.aB,.aB])⟩
theorem al':Sound Tryz.prog 75 0 ZI:=b8 bk 0 (fn:=Tryz.f75) (fns:=[(35,Zx),(63,Yv),(119,j'),(141,ZG),(142,ZH)]) ⟨alT,ajG,kB,al7,al8,trivial⟩ al9 al_ Xb pr (fun k x=>Ib k x.1 x.2.1 x.2.2.1) (by kernel_rfl) rfl
def ZJ:Entry:=⟨[aL (.sl an),aL (.int .i64)],[ro (.sl aZ),a_ .bool],BC⟩
theorem ama:Sound Tryz.prog 19 0 ZJ:=cg bk 0 (fn:=Tryz.f19) (fns:=[(75,ZI)]) ⟨al',trivial⟩ (by kernel_rfl)
def ZK:Entry:=⟨[aL aI,aL aI],[a_ .bool],Px⟩
theorem amb:Sound Tryz.prog 143 0 ZK:=cg bk 0 (fn:=Tryz.f143) (fns:=[]) trivial (by kernel_rfl)
def ZL:Entry:=⟨[aL aZ,aL aZ],[a_ .bool],Pz⟩
theorem amc:Sound Tryz.prog 76 0 ZL:=cg bk 0 (fn:=Tryz.f76) (fns:=[(30,Y_),(143,ZK)]) ⟨alb,amb,trivial⟩ (by kernel_rfl)
def ZM:Entry:=⟨[aL (.sl aZ),aL (.sl aZ)],[a_ .bool],BD⟩
def amd:List (Nat×bT):=[(4,⟨[(0,.cell (.bM aZ [])),(1,.cell (.bM aZ [])),(5,aG)],[],[.drop,.drop]⟩)]
def ame(k:Nat→ar→Option (Bool×Unit)):Ig:=fun U aa ae=>k 4 (bl [(0,dS aZ U),(1,dS aZ aa),(5,aQ ae)] [] [.aB,.aB])
theorem amf:Sound Tryz.prog 20 0 ZM:=b8 bk 0 (fn:=Tryz.f20) (fns:=[(76,ZL)]) ⟨amc,trivial⟩ amd ame Ii wL (fun k x=>Ih k x.1 x.2.1) (by kernel_rfl) rfl
def ZN:Entry:=⟨[aL an,aL an],[a_ .bool],PB⟩
theorem amg:Sound Tryz.prog 77 0 ZN:=cg bk 0 (fn:=Tryz.f77) (fns:=[]) trivial (by kernel_rfl)
def ZO:Entry:=⟨[aL (.sl an),aL (.sl an)],[a_ .bool],PC⟩
def amh:List (Nat×bT):=[(4,⟨[(0,.cell (.bM an [])),(1,.cell (.bM an [])),(5,aG)],[],[.drop,.drop]⟩)]
def ami(k:Nat→ar→Option (Bool×Unit)):Ij:=fun U aa ae=>k 4 (bl [(0,dS an U),(1,dS an aa),(5,aQ ae)] [] [.aB,.aB])
theorem amj:Sound Tryz.prog 21 0 ZO:=b8 bk 0 (fn:=Tryz.f21) (fns:=[(77,ZN)]) ⟨amg,trivial⟩ amh ami Il wM (fun k x=>Ik k x.1 x.2.1) (by kernel_rfl) rfl
def ZP:Entry:=⟨[Vq (.sl an),aL (.int .i64)],[a_ (.int .i64)],PD⟩
def amk:List (Nat×bT):=[(2,⟨[(0,.cell (.af 1)),(1,aG),(5,aG)],[(1,.row an .R)],[.cell (.af 1),.drop]⟩)]
def aml(k:Nat→ar→Option (wN)):yU:=fun U aa ae=>k 2 (bl [(0,.aV (.af 1 none)),(1,aQ U),(5,aQ aa)] [(1,.row an .R 0 ae)] [.aV (.af 1 none),.aB])
theorem amm:Sound Tryz.prog 22 0 ZP:=b8 bk 0 (fn:=Tryz.f22) (fns:=[(78,IH)]) ⟨Qi,trivial⟩ amk aml Io rV (fun k x=>Im k x.1 x.2.1) (by kernel_rfl) rfl
def ZQ:Entry:=⟨[Vq (.sl aZ),aL (.int .i64)],[a_ (.int .i64)],PE⟩
def amn:List (Nat×bT):=[(2,⟨[(0,.cell (.af 1)),(1,aG),(5,aG)],[(1,.row aZ .R)],[.cell (.af 1),.drop]⟩)]
def amo(k:Nat→ar→Option (kZ)):lF:=fun U aa ae=>k 2 (bl [(0,.aV (.af 1 none)),(1,aQ U),(5,aQ aa)] [(1,.row aZ .R 0 ae)] [.aV (.af 1 none),.aB])
theorem amp:Sound Tryz.prog 23 0 ZQ:=b8 bk 0 (fn:=Tryz.f23) (fns:=[(78,IH)]) ⟨Qi,trivial⟩ amn amo Iq rW (fun k x=>Ip k x.1 x.2.1) (by kernel_rfl) rfl
def ZR:Entry:=⟨[aL (.sl aZ),aL (.int .i64)],[a_ (.int .i64)],Iu⟩
def amq:List (Nat×bT):=[(2,⟨[(0,.cell (.bM aZ [])),(1,aG),(5,aG)],[],[.drop,.drop]⟩)]
def amr(k:Nat→ar→Option (Int×Unit)):Ir:=fun U aa ae=>k 2 (bl [(0,dS aZ U),(1,aQ aa),(5,aQ ae)] [] [.aB,.aB])
theorem ams:Sound Tryz.prog 24 0 ZR:=b8 bk 0 (fn:=Tryz.f24) (fns:=[(78,IH)]) ⟨Qi,trivial⟩ amq amr It rX (fun k x=>Is k x.1 x.2.1) (by kernel_rfl) rfl
def y6:Entry:=⟨[aL (.sl an),aL (.int .i64)],[a_ .bool],Xq⟩
theorem amt:Sound Tryz.prog 4 0 y6:=cg bk 0 (fn:=Tryz.f4) (fns:=[(16,Zd),(17,Zt),(18,Zv),(19,ZJ),(20,ZM),(21,ZO),(22,ZP),(23,ZQ),(24,ZR)]) ⟨alk,alN,alR,ama,amf,amj,amm,amp,ams,trivial⟩ (by kernel_rfl)
end
end Go.LM.j7
