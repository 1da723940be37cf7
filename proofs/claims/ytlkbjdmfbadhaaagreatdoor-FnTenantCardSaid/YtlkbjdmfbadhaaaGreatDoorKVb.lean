/- Each function keeps its contract. Printed by a program. Conditions: each theorem's own hypotheses. -/
import Derived.Test.YtlkbjdmfbadhaaaGreatDoorKVa
import Derived.Test.YtlkbjdmfbadhaaaGreatDoorKLmd
import Derived.Test.YtlkbjdmfbadhaaaGreatDoorChecked
import Derived.Test.YtlkbjdmfbadhaaaGreatDoorKIn
set_option linter.unusedVariables false
set_option linter.unusedSimpArgs false
namespace Go.LM.kO
noncomputable section
open Go.Proofs
abbrev wj:bl:=.S (.cons .R (.cons .R (.cons .R (.cons .R (.cons .R (.cons .R (.cons (.O .R) (.cons .R (.cons .R .nil)))))))))
abbrev agt:bl:=.S (.cons .R (.cons (.O wj) .nil))
abbrev cC:bl:=.S (.cons agt (.cons .R (.cons .R .nil)))
def tab:List (Nat×ae):=[(3,.int .i64),(4,.bool),(5,.int .u8),(9,.str),(22,.sl (.int .u8)),(24,.sl J),(26,af),(27,.sl aO),(28,.sl bt),(30,aR),(32,aG),(36,aF),(42,aO),(43,.sl aF),(45,.sl UI),(48,.sl aF),(55,.sl J),(57,af),(58,.sl aO),(59,.sl bt),(61,aR),(62,aG),(74,.sl (.int .i64)),(76,UI),(84,aF),(89,.sl UH),(94,UH),(111,bt),(125,aF),(148,.sl aB),(150,J),(167,bh),(183,.sl .bool),(187,aB),(192,aF),(194,bt),(197,aO),(203,.sl .str),(224,aL),(233,afD),(236,.sl aB),(238,J),(255,aP),(265,a6),(281,aB)]
def mr:List Nat:=[15,16,17,105,174,231,246,247,253,302,317]
def eqs:List Nat:=[32,36,42,62,76,84,94,111,125,187,192,194,197,233,265,281]
theorem Jp:tT Tryz.prog tab=true:=by kernel_rfl
theorem Jq:tU Tryz.prog mr=true:=by kernel_rfl
theorem Jr:tV Tryz.prog tab eqs=true:=by kernel_rfl
theorem mix:Tryz.prog.follows .mixedOrders=true:=by kernel_rfl
def bk:la Tryz.prog:=⟨tab,mr,eqs,Jp,Jq,Jr,mix⟩
set_option maxRecDepth 100000
def iR:Entry:=⟨[aQ (.int .i64),aQ (.int .i64),aQ (.int .i64)],[bb .bool],dh⟩
theorem jv:Sound Tryz.prog 119 0 iR:=ct bk 0 (fn:=Tryz.f119) (fns:=[]) trivial (by kernel_rfl)
def Wn:Entry:=⟨[aQ aF],[bb .bool],DZ⟩
theorem agu:Sound Tryz.prog 120 0 Wn:=ct bk 0 (fn:=Tryz.f120) (fns:=[(119,iR)]) ⟨jv,trivial⟩ (by kernel_rfl)
def OL:Entry:=⟨[aQ (.sl aO)],[bb .bool],D3⟩
def agv:List (Nat×bQ):=[(2,⟨[(0,.cell (.bY aO [])),(5,.cell (.bY aO [])),(6,aJ),(7,aJ)],[],[.drop]⟩)]
def agw(k:Nat→aq→Option (Bool×Unit)):D0:=fun U aa ad ag=>k 2 (bf [(0,fp aO U),(5,fp aO aa),(6,aU ad),(7,aU ag)] [] [.ay])
theorem Wo:Sound Tryz.prog 121 0 OL:=b4 bk 0 (fn:=Tryz.f121) (fns:=[(119,iR)]) ⟨jv,trivial⟩ agv agw D2 uY (fun k x=>D1 k x.1) (by kernel_rfl) rfl
def OM:Entry:=⟨[aQ (.int .u8)],[bb .bool],D4⟩
theorem Wp:Sound Tryz.prog 230 0 OM:=ct bk 0 (fn:=Tryz.f230) (fns:=[]) trivial (by kernel_rfl)
def HJ:Entry:=⟨[aQ .str],[bb .bool],x2⟩
def agx:List (Nat×bQ):=[(2,⟨[(0,aJ),(5,aJ),(6,aJ)],[],[.drop]⟩)]
def agy(k:Nat→aq→Option (Bool×Unit)):D5:=fun U aa ad=>k 2 (bf [(0,eM U),(5,aU aa),(6,aU ad)] [] [.ay])
theorem ON:Sound Tryz.prog 203 0 HJ:=b4 bk 0 (fn:=Tryz.f203) (fns:=[(119,iR),(230,OM)]) ⟨jv,Wp,trivial⟩ agx agy D7 uZ (fun k x=>D6 k x.1) (by kernel_rfl) rfl
def n0:Entry:=⟨[fJ af,aQ (.int .i64)],[.pz J],fS⟩
def agz:List (Nat×bQ):=[(2,⟨[(0,.dk [] (pZ af .R [] 0)),(1,aJ),(10,aJ),(11,aJ)],[],[.drop,.drop]⟩)]
def agA(k:Nat→aq→Option (Ak)):D8:=fun U aa ad ag=>k 2 (bf [(0,.dk (nQ []) (aW af .R [] U 0) 0),(1,aU aa),(10,aU ad),(11,aU ag)] [] [.ay,.ay])
theorem o9:Sound Tryz.prog 205 0 n0:=b4 bk 0 (fn:=Tryz.f205) (fns:=[]) trivial agz agA D_ u0 (fun k x=>D9 k x.1 x.2.1) (by kernel_rfl) rfl
def HK:Entry:=⟨[LI af,aQ (.int .i64)],[.opt 0 1 J],x3⟩
def agB:List (Nat×bQ):=[(2,⟨[(0,.ptr 1),(1,aJ),(10,aJ),(11,aJ)],az 1 af af.own [],[.ptr 1,.drop]⟩)]
def agC(k:Nat→aq→Option (Int×af.D×Unit)):D':=fun U aa ad ag=>k 2 (bf [(0,ax 1),(1,aU U),(10,aU aa),(11,aU ad)] (aA 1 af af.own [] ag) [ax 1,.ay])
theorem OO:Sound Tryz.prog 205 0 HK:=b4 bk 0 (fn:=Tryz.f205) (fns:=[]) trivial agB agC Eb u1 (fun k x=>Ea k x.1 x.2.1) (by kernel_rfl) rfl
def Wq:Entry:=⟨[aQ .str],[bb .bool],LQ⟩
def agD:List (Nat×bQ):=[(2,⟨[(0,aJ),(5,aJ),(6,aJ)],[],[.drop]⟩)]
def agE(k:Nat→aq→Option (Bool×Unit)):Ec:=fun U aa ad=>k 2 (bf [(0,eM U),(5,aU aa),(6,aU ad)] [] [.ay])
theorem agF:Sound Tryz.prog 231 0 Wq:=b4 bk 0 (fn:=Tryz.f231) (fns:=[(119,iR),(230,OM)]) ⟨jv,Wp,trivial⟩ agD agE Ee u2 (fun k x=>Ed k x.1) (by kernel_rfl) rfl
def Wr:Entry:=⟨[fJ af,aQ J],[bb .bool],LR⟩
def agG:List (Nat×bQ):=[(2,⟨[(0,.dk [] (pZ af .R [] 0)),(3,.ptr 1),(8,.cell (.bY aB [])),(9,aJ),(10,aJ)],az 1 J .R [],[.drop,.drop]⟩)]
def agH(k:Nat→aq→Option (Bool×Unit)):Ef:=fun U aa ad ag al=>k 2 (bf [(0,.dk (nQ []) (aW af .R [] U 0) 0),(3,ax 1),(8,fp aB aa),(9,aU ad),(10,aU ag)] (aA 1 J .R [] al) [.ay,.ay])
theorem agI:Sound Tryz.prog 204 0 Wr:=b4 bk 0 (fn:=Tryz.f204) (fns:=[(205,n0),(231,Wq)]) ⟨o9,agF,trivial⟩ agG agH Eh u3 (fun k x=>Eg k x.1 x.2.1) (by kernel_rfl) rfl
def Ws:Entry:=⟨[fJ af,aQ J],[bb .bool],Ek⟩
def agJ:List (Nat×bQ):=[(5,⟨[(0,.dk [] (pZ af .R [] 0)),(3,.ptr 1)],az 1 J .R [],[.drop,.drop]⟩)]
def agK(k:Nat→aq→Option (Bool×Unit)):Ei:=fun U aa=>k 5 (bf [(0,.dk (nQ []) (aW af .R [] U 0) 0),(3,ax 1)] (aA 1 J .R [] aa) [.ay,.ay])
theorem agL:Sound Tryz.prog 169 0 Ws:=b4 bk 0 (fn:=Tryz.f169) (fns:=[(119,iR),(203,HJ),(204,Wr)]) ⟨jv,ON,agI,trivial⟩ agJ agK LS Al (fun k x=>Ej k x.1 x.2.1) (by kernel_rfl) rfl
def Wt:Entry:=⟨[aQ (.sl (.int .i64)),aQ (.int .i64)],[bb (.int .i64)],LU⟩
def agM:List (Nat×bQ):=[(2,⟨[(0,.cell (.bY (.int .i64) [])),(1,aJ),(7,aJ),(8,aJ)],[],[.drop,.drop]⟩)]
def agN(k:Nat→aq→Option (Int×Unit)):El:=fun U aa ad ag=>k 2 (bf [(0,fp (.int .i64) U),(1,aU aa),(7,aU ad),(8,aU ag)] [] [.ay,.ay])
theorem agO:Sound Tryz.prog 206 0 Wt:=b4 bk 0 (fn:=Tryz.f206) (fns:=[]) trivial agM agN En u4 (fun k x=>Em k x.1 x.2.1) (by kernel_rfl) rfl
def Bo:Entry:=⟨[aQ (.sl (.int .i64)),aQ (.int .i64)],[bb .bool],sJ⟩
theorem HL:Sound Tryz.prog 171 0 Bo:=ct bk 0 (fn:=Tryz.f171) (fns:=[(206,Wt)]) ⟨agO,trivial⟩ (by kernel_rfl)
def HM:Entry:=⟨[fJ af,aQ (.int .i64)],[ro (.sl (.int .i64))],u6⟩
def agP:List (Nat×bQ):=[(4,⟨[(0,.dk [] (pZ af .R [] 0)),(5,.cell (.ah 1)),(6,.cell (.ah 2)),(7,aJ)],[(1,.row (.int .i64) .R),(2,.row (.int .i64) .R)],[.drop,.drop]⟩),(9,⟨[(0,.dk [] (pZ af .R [] 0)),(5,.cell (.ah 1)),(6,.cell (.ah 2)),(7,aJ),(31,.cell (.bY aB [])),(32,aJ),(33,aJ)],[(1,.row (.int .i64) .R),(2,.row (.int .i64) .R)],[.drop,.drop]⟩)]
def agQ(k:Nat→aq→Option ((List Int)×Unit)):u5:=⟨fun U aa ad ag=>k 4 (bf [(0,.dk (nQ []) (aW af .R [] U 0) 0),(5,.aW (.ah 1 none)),(6,.aW (.ah 2 none)),(7,aU aa)] [(1,.row (.int .i64) .R 0 ad),(2,.row (.int .i64) .R 0 ag)] [.ay,.ay]),fun U aa ad ag al aE a7=>k 9 (bf [(0,.dk (nQ []) (aW af .R [] U 0) 0),(5,.aW (.ah 1 none)),(6,.aW (.ah 2 none)),(7,aU aa),(31,fp aB ad),(32,aU ag),(33,aU al)] [(1,.row (.int .i64) .R 0 aE),(2,.row (.int .i64) .R 0 a7)] [.ay,.ay])⟩
theorem OP:Sound Tryz.prog 170 0 HM:=b4 bk 0 (fn:=Tryz.f170) (fns:=[(171,Bo),(205,n0)]) ⟨HL,o9,trivial⟩ agP agQ UK mW (fun k x=>Eo k x.1 x.2.1) (by kernel_rfl) rfl
def HN:Entry:=⟨[fJ af,aQ (.int .i64)],[bb (.int .i64)],x4⟩
def agR:List (Nat×bQ):=[(3,⟨[(1,aJ),(5,aJ),(13,.cell (.bY J [])),(14,aJ),(15,aJ)],[],[.drop,.drop]⟩),(6,⟨[(1,aJ),(5,aJ),(13,.cell (.bY J [])),(14,aJ),(15,aJ),(20,.cell (.bY aB [])),(21,aJ),(22,aJ)],[],[.drop,.drop]⟩)]
def agS(k:Nat→aq→Option (Int×Unit)):u7:=⟨fun U aa ad ag al=>k 3 (bf [(1,aU U),(5,aU aa),(13,fp J ad),(14,aU ag),(15,aU al)] [] [.ay,.ay]),fun U aa ad ag al aE a7 bE=>k 6 (bf [(1,aU U),(5,aU aa),(13,fp J ad),(14,aU ag),(15,aU al),(20,fp aB aE),(21,aU a7),(22,aU bE)] [] [.ay,.ay])⟩
theorem OQ:Sound Tryz.prog 172 0 HN:=b4 bk 0 (fn:=Tryz.f172) (fns:=[]) trivial agR agS UL p0 (fun k x=>Ep k x.1 x.2.1) (by kernel_rfl) rfl
def HO:Entry:=⟨[fJ af],[bb (.int .i64)],sK⟩
def agT:List (Nat×bQ):=[(3,⟨[(3,aJ),(9,.cell (.bY J [])),(10,aJ),(11,aJ)],[],[.drop]⟩)]
def agU(k:Nat→aq→Option (Int×Unit)):Er:=fun U aa ad ag=>k 3 (bf [(3,aU U),(9,fp J aa),(10,aU ad),(11,aU ag)] [] [.ay])
theorem OR:Sound Tryz.prog 173 0 HO:=b4 bk 0 (fn:=Tryz.f173) (fns:=[]) trivial agT agU Et u9 (fun k x=>Es k x.1) (by kernel_rfl) rfl
def OS:Entry:=⟨[fJ af,aQ (.int .i64)],[bb (.int .i64),bb (.int .i64)],Ap⟩
def agV:List (Nat×bQ):=[(4,⟨[(0,.dk [] (pZ af .R [] 0)),(6,aJ),(7,.cell (.ah 1)),(14,.cell (.ah 1)),(15,aJ),(16,aJ)],[(1,.row (.int .i64) .R)],[.drop,.drop]⟩)]
def agW(k:Nat→aq→Option (Int×Int×Unit)):Eu:=fun U aa ad ag al=>k 4 (bf [(0,.dk (nQ []) (aW af .R [] U 0) 0),(6,aU aa),(7,.aW (.ah 1 none)),(14,.aW (.ah 1 none)),(15,aU ad),(16,aU ag)] [(1,.row (.int .i64) .R 0 al)] [.ay,.ay])
theorem Wu:Sound Tryz.prog 208 0 OS:=b4 bk 0 (fn:=Tryz.f208) (fns:=[(170,HM),(205,n0)]) ⟨OP,o9,trivial⟩ agV agW Ew q2 (fun k x=>Ev k x.1 x.2.1) (by kernel_rfl) rfl
def Wv:Entry:=⟨[fJ af,aQ J],[bb .bool],LX⟩
theorem agX:Sound Tryz.prog 175 0 Wv:=ct bk 0 (fn:=Tryz.f175) (fns:=[(208,OS)]) ⟨Wu,trivial⟩ (by kernel_rfl)
def Ww:Entry:=⟨[aQ (.sl J),.fn 1 0,fJ af],[bb (.int .i64)],LY⟩
def agY:List (Nat×bQ):=[(2,⟨[(0,.cell (.bY J [])),(1,.wW [[.keep,.bY J []]] []),(7,aJ),(8,aJ)],[],[.drop,.drop,.drop]⟩)]
def agZ(k:Nat→aq→Option (Int×Unit)):Ex:=fun U aa ad ag=>k 2 (bf [(0,fp J U),(1,.fn 175 [.dk [] [.int .i64 aa.1,.bY J [] none aa.2.1] 0] []),(7,aU ad),(8,aU ag)] [] [.ay,.ay,.ay])
theorem ag0:Sound Tryz.prog 207 175 Ww:=b4 bk 175 (fn:=Tryz.f207) (fns:=[(175,Wv)]) ⟨agX,trivial⟩ agY agZ Ez u_ (fun k x=>Ey k x.1 x.2.1) (by kernel_rfl) rfl
def OT:Entry:=⟨[aQ (.sl J),.fn 1 0,fJ af],[bb .bool],Aq⟩
theorem Wx:Sound Tryz.prog 174 175 OT:=ct bk 175 (fn:=Tryz.f174) (fns:=[(175000207,Ww)]) ⟨ag0,trivial⟩ (by kernel_rfl)
def Wy:Entry:=⟨[aQ af],[bb .bool],L0⟩
def ag1:List (Nat×bQ):=[(4,⟨[(1,.ptr 1),(36,.cell (.bY J [])),(37,aJ),(38,aJ)],az 1 af .R [],[.drop]⟩),(11,⟨[(1,.ptr 1),(5,.cell (.ah 2)),(75,.cell (.bY J [])),(76,aJ),(77,aJ)],az 1 af .R []++[(2,.row (.int .i64) .R)],[.drop]⟩)]
def ag2(k:Nat→aq→Option (Bool×Unit)):u':=⟨fun U aa ad ag=>k 4 (bf [(1,ax 1),(36,fp J U),(37,aU aa),(38,aU ad)] (aA 1 af .R [] ag) [.ay]),fun U aa ad ag al=>k 11 (bf [(1,ax 1),(5,.aW (.ah 2 none)),(75,fp J U),(76,aU aa),(77,aU ad)] (aA 1 af .R [] ag++[(2,.row (.int .i64) .R 0 al)]) [.ay])⟩
theorem ag3:Sound Tryz.prog 122 0 Wy:=b4 bk 0 (fn:=Tryz.f122) (fns:=[(119,iR),(169,Ws),(170,HM),(171,Bo),(172,HN),(173,HO),(175000174,OT)]) ⟨jv,agL,OP,HL,OQ,OR,Wx,trivial⟩ ag1 ag2 UM nR (fun k x=>EA k x.1) (by kernel_rfl) rfl
def Wz:Entry:=⟨[aQ aR],[bb .bool],L1⟩
def ag4:List (Nat×bQ):=[(2,⟨[(1,.ptr 1),(6,.cell (.bY bt [])),(7,aJ),(8,aJ)],az 1 aR .R [],[.drop]⟩)]
def ag5(k:Nat→aq→Option (Bool×Unit)):EB:=fun U aa ad ag=>k 2 (bf [(1,ax 1),(6,fp bt U),(7,aU aa),(8,aU ad)] (aA 1 aR .R [] ag) [.ay])
theorem ag6:Sound Tryz.prog 61 0 Wz:=b4 bk 0 (fn:=Tryz.f61) (fns:=[(119,iR),(120,Wn),(121,OL),(122,Wy)]) ⟨jv,agu,Wo,ag3,trivial⟩ ag4 ag5 ED ve (fun k x=>EC k x.1) (by kernel_rfl) rfl
def OU:Entry:=⟨[aQ af],[ro af],q3⟩
def ag7:List (Nat×bQ):=[(3,⟨[(2,.ptr 1),(3,.ptr 3),(10,.cell (.bY J [])),(11,aJ),(12,aJ)],az 1 af af.own []++az 3 af af.own [],[.drop]⟩)]
def ag8(k:Nat→aq→Option (af.D×Unit)):x5:=fun U aa ad ag al=>k 3 (bf [(2,ax 1),(3,ax 3),(10,fp J U),(11,aU aa),(12,aU ad)] (aA 1 af af.own [] ag++aA 3 af af.own [] al) [.ay])
theorem WA:Sound Tryz.prog 123 0 OU:=b4 bk 0 (fn:=Tryz.f123) (fns:=[]) trivial ag7 ag8 EF vf (fun k x=>EE k x.1) (by kernel_rfl) rfl
def WB:Entry:=⟨[aQ aR],[ro aR],L3⟩
theorem ag9:Sound Tryz.prog 62 0 WB:=ct bk 0 (fn:=Tryz.f62) (fns:=[(123,OU)]) ⟨WA,trivial⟩ (by kernel_rfl)
def WC:Entry:=⟨[fJ aR,aQ (.int .i64)],[bb .bool],L4⟩
def ag_:List (Nat×bQ):=[(2,⟨[(0,.dk [] (pZ aR .R [] 0)),(1,aJ),(12,.cell (.bY aO [])),(13,aJ),(14,aJ)],[],[.drop,.drop]⟩),(8,⟨[(1,aJ),(26,.cell (.bY bt [])),(27,aJ),(28,aJ)],[],[.drop,.drop]⟩)]
def ag'(k:Nat→aq→Option (Bool×Unit)):vg:=⟨fun U aa ad ag al=>k 2 (bf [(0,.dk (nQ []) (aW aR .R [] U 0) 0),(1,aU aa),(12,fp aO ad),(13,aU ag),(14,aU al)] [] [.ay,.ay]),fun U aa ad ag=>k 8 (bf [(1,aU U),(26,fp bt aa),(27,aU ad),(28,aU ag)] [] [.ay,.ay])⟩
theorem aha:Sound Tryz.prog 124 0 WC:=b4 bk 0 (fn:=Tryz.f124) (fns:=[]) trivial ag_ ag' UQ sL (fun k x=>UP k x.1 x.2.1) (by kernel_rfl) rfl
def OV:Entry:=⟨[fJ aR,aQ (.int .i64)],[bb (.int .i64),bb .bool],EJ⟩
def ahb:List (Nat×bQ):=[(2,⟨[(0,.dk [] (pZ aR .R [] 0)),(1,aJ),(6,aJ)],[],[.drop,.drop]⟩)]
def ahc(k:Nat→aq→Option (Int×Bool×Unit)):EI:=fun U aa ad=>k 2 (bf [(0,.dk (nQ []) (aW aR .R [] U 0) 0),(1,aU aa),(6,aU ad)] [] [.ay,.ay])
theorem WD:Sound Tryz.prog 129 0 OV:=b4 bk 0 (fn:=Tryz.f129) (fns:=[]) trivial ahb ahc x6 x7 (fun k x=>UR k x.1 x.2.1) (by kernel_rfl) rfl
def WE:Entry:=⟨[fJ aR,aQ (.int .i64)],[bb bt],L6⟩
theorem ahd:Sound Tryz.prog 125 0 WE:=ct bk 0 (fn:=Tryz.f125) (fns:=[(129,OV)]) ⟨WD,trivial⟩ (by kernel_rfl)
def HP:Entry:=⟨[aQ aG],[bb .bool],Ar⟩
def ahe:List (Nat×bQ):=[(3,⟨[(1,.ptr 1),(3,aJ),(4,aJ)],az 1 aG .R [],[.drop]⟩),(5,⟨[(1,.ptr 1)],az 1 aG .R [],[.drop]⟩)]
def ahf(k:Nat→aq→Option (Bool×Unit)):vh:=⟨fun U aa ad=>k 3 (bf [(1,ax 1),(3,jq U),(4,jq aa)] (aA 1 aG .R [] ad) [.ay]),fun U=>k 5 (bf [(1,ax 1)] (aA 1 aG .R [] U) [.ay])⟩
theorem OW:Sound Tryz.prog 127 0 HP:=b4 bk 0 (fn:=Tryz.f127) (fns:=[(119,iR)]) ⟨jv,trivial⟩ ahe ahf L7 EL (fun k x=>EK k x.1) (by kernel_rfl) rfl
def HQ:Entry:=⟨[aQ (.int .i64)],[bb .bool],As⟩
theorem OX:Sound Tryz.prog 128 0 HQ:=ct bk 0 (fn:=Tryz.f128) (fns:=[]) trivial (by kernel_rfl)
def th:Entry:=⟨[aQ (.int .i64)],[bb aF],eA⟩
theorem wk:Sound Tryz.prog 176 0 th:=ct bk 0 (fn:=Tryz.f176) (fns:=[]) trivial (by kernel_rfl)
def WG:Entry:=⟨[aQ (.int .i64)],[bb (.int .i64)],L9⟩
theorem ahg:Sound Tryz.prog 209 0 WG:=ct bk 0 (fn:=Tryz.f209) (fns:=[(119,iR),(128,HQ)]) ⟨jv,OX,trivial⟩ (by kernel_rfl)
def WH:Entry:=⟨[aQ (.int .i64),aQ (.int .i64)],[bb (.int .i64),bb .bool],L'⟩
theorem ahh:Sound Tryz.prog 177 0 WH:=ct bk 0 (fn:=Tryz.f177) (fns:=[(209,WG)]) ⟨ahg,trivial⟩ (by kernel_rfl)
def WI:Entry:=⟨[aQ (.int .i64)],[ro aL],Mb⟩
theorem ahi:Sound Tryz.prog 178 0 WI:=ct bk 0 (fn:=Tryz.f178) (fns:=[]) trivial (by kernel_rfl)
def OY:Entry:=⟨[aQ (.int .i64)],[bb .str],vj⟩
def ahj:List (Nat×bQ):=[(4,⟨[(0,aJ),(3,aJ),(4,aJ)],[],[.drop]⟩),(7,⟨[(0,aJ),(3,aJ),(4,aJ),(5,aJ)],[],[.drop]⟩)]
def ahk(k:Nat→aq→Option ((aj)×Unit)):vi:=⟨fun U aa ad=>k 4 (bf [(0,aU U),(3,eM aa),(4,aU ad)] [] [.ay]),fun U aa ad ag=>k 7 (bf [(0,aU U),(3,eM aa),(4,aU ad),(5,aU ag)] [] [.ay])⟩
theorem WJ:Sound Tryz.prog 210 0 OY:=b4 bk 0 (fn:=Tryz.f210) (fns:=[(119,iR)]) ⟨jv,trivial⟩ ahj ahk UW mX (fun k x=>UU k x.1) (by kernel_rfl) rfl
def WK:Entry:=⟨[aQ (.sl aO),aQ (.int .i64)],[bb .str],Me⟩
def ahl:List (Nat×bQ):=[(5,⟨[(0,.cell (.bY aO [])),(1,aJ),(5,aJ),(6,aJ)],[],[.drop,.drop]⟩),(11,⟨[(0,.cell (.bY aO [])),(1,aJ),(5,aJ),(6,aJ),(49,.cell (.ah 1)),(50,aJ),(51,aJ)],[(1,.row (.int .i64) .R)],[.drop,.drop]⟩)]
def ahm(k:Nat→aq→Option ((aj)×Unit)):vk:=⟨fun U aa ad ag=>k 5 (bf [(0,fp aO U),(1,aU aa),(5,eM ad),(6,aU ag)] [] [.ay,.ay]),fun U aa ad ag al aE a7=>k 11 (bf [(0,fp aO U),(1,aU aa),(5,eM ad),(6,aU ag),(49,.aW (.ah 1 none)),(50,aU al),(51,aU aE)] [(1,.row (.int .i64) .R 0 a7)] [.ay,.ay])⟩
theorem ahn:Sound Tryz.prog 179 0 WK:=b4 bk 0 (fn:=Tryz.f179) (fns:=[(121,OL),(210,OY)]) ⟨Wo,WJ,trivial⟩ ahl ahm UX nS (fun k x=>EM k x.1 x.2.1) (by kernel_rfl) rfl
def WL:Entry:=⟨[aQ (.int .i64)],[bb .bool],UY⟩
theorem aho:Sound Tryz.prog 233 0 WL:=ct bk 0 (fn:=Tryz.f233) (fns:=[(119,iR)]) ⟨jv,trivial⟩ (by kernel_rfl)
def WM:Entry:=⟨[aQ (.sl (.int .i64)),.fn 0 0],[bb (.int .i64)],Mg⟩
def ahp:List (Nat×bQ):=[(2,⟨[(0,.cell (.bY (.int .i64) [])),(1,.same),(7,aJ),(8,aJ)],[],[.drop,.drop]⟩)]
def ahq(k:Nat→aq→Option (Int×Unit)):EP:=fun U aa ad=>k 2 (bf [(0,fp (.int .i64) U),(1,.fn 233 [] []),(7,aU aa),(8,aU ad)] [] [.ay,.ay])
theorem ahr:Sound Tryz.prog 266 233 WM:=b4 bk 233 (fn:=Tryz.f266) (fns:=[(233,WL)]) ⟨aho,trivial⟩ ahp ahq ES vl (fun k x=>ER k x.1) (by kernel_rfl) rfl
def WN:Entry:=⟨[aQ (.sl (.int .i64)),.fn 0 0],[bb .bool],Mi⟩
theorem ahs:Sound Tryz.prog 232 233 WN:=ct bk 233 (fn:=Tryz.f232) (fns:=[(233000266,WM)]) ⟨ahr,trivial⟩ (by kernel_rfl)
def Bp:Entry:=⟨[aQ aL],[bb .bool],x8⟩
theorem HR:Sound Tryz.prog 211 0 Bp:=ct bk 0 (fn:=Tryz.f211) (fns:=[(119,iR),(233000232,WN)]) ⟨jv,ahs,trivial⟩ (by kernel_rfl)
def WO:Entry:=⟨[aQ .str],[bb .bool],Ml⟩
theorem aht:Sound Tryz.prog 289 0 WO:=ct bk 0 (fn:=Tryz.f289) (fns:=[(203,HJ)]) ⟨ON,trivial⟩ (by kernel_rfl)
def HS:Entry:=⟨[aQ aL,aQ (.int .i64)],[bb .bool],vm⟩
theorem OZ:Sound Tryz.prog 282 0 HS:=ct bk 0 (fn:=Tryz.f282) (fns:=[(171,Bo),(211,Bp)]) ⟨HL,HR,trivial⟩ (by kernel_rfl)
def yy:Entry:=⟨[aQ aL,aQ J,aQ (.int .i64)],[bb .bool],p1⟩
theorem Bq:Sound Tryz.prog 279 0 yy:=ct bk 0 (fn:=Tryz.f279) (fns:=[(119,iR),(211,Bp),(282,HS)]) ⟨jv,HR,OZ,trivial⟩ (by kernel_rfl)
def O0:Entry:=⟨[fJ J,aQ .str],[bb (.int .i64)],EW⟩
def ahu:List (Nat×bQ):=[(2,⟨[(1,aJ),(10,.cell (.bY aB [])),(11,aJ),(12,aJ)],[],[.drop,.drop]⟩)]
def ahv(k:Nat→aq→Option (Int×Unit)):ET:=fun U aa ad ag=>k 2 (bf [(1,eM U),(10,fp aB aa),(11,aU ad),(12,aU ag)] [] [.ay,.ay])
theorem WQ:Sound Tryz.prog 291 0 O0:=b4 bk 0 (fn:=Tryz.f291) (fns:=[]) trivial ahu ahv EV sM (fun k x=>EU k x.1 x.2.1) (by kernel_rfl) rfl
def WR:Entry:=⟨[aQ .str,aQ (.int .i64)],[ro (.sl .str)],UZ⟩
theorem ahw:ia Tryz.prog 321 0 WR:=UC fun _=>rfl
def WS:Entry:=⟨[aQ .str,aQ (.int .u8)],[bb (.int .i64)],U0⟩
theorem ahx:ia Tryz.prog 333 0 WS:=afy Tryz.func333 (by kernel_rfl) (by kernel_rfl) (by kernel_rfl) (by kernel_rfl)
def WT:Entry:=⟨[aQ .str,aQ (.int .u8)],[bb (.int .i64)],U1⟩
theorem ahy:Sound Tryz.prog 329 0 WT:=ct bk 0 (fn:=Tryz.f329) (fns:=[(333,WS)]) ⟨ahx,trivial⟩ (by kernel_rfl)
def WU:Entry:=⟨[aQ .str,aQ .str],[bb (.int .i64)],U2⟩
theorem ahz:Sound Tryz.prog 327 0 WU:=ct bk 0 (fn:=Tryz.f327) (fns:=[(329,WT)]) ⟨ahy,trivial⟩ (by kernel_rfl)
def O1:Entry:=⟨[aQ .str,aQ .str],[bb (.int .i64)],EX⟩
theorem WV:Sound Tryz.prog 323 0 O1:=ct bk 0 (fn:=Tryz.f323) (fns:=[(327,WU)]) ⟨ahz,trivial⟩ (by kernel_rfl)
def WW:Entry:=⟨[aQ .str],[bb (.int .i64)],U3⟩
theorem ahA:ia Tryz.prog 324 0 WW:=UC fun _=>rfl
def WX:Entry:=⟨[aQ .str,aQ (.int .u8)],[bb (.int .i64)],U4⟩
theorem ahB:ia Tryz.prog 326 0 WX:=afz Tryz.func326 (by kernel_rfl) (by kernel_rfl) (by kernel_rfl) (by kernel_rfl)
def WY:Entry:=⟨[aQ .str,aQ .str],[bb (.int .i64)],Mq⟩
def ahC:List (Nat×bQ):=[(6,⟨[(0,aJ),(1,aJ),(5,aJ)],[],[.drop,.drop]⟩)]
def ahD(k:Nat→aq→Option (Int×Unit)):EY:=fun U aa ad=>k 6 (bf [(0,eM U),(1,eM aa),(5,aU ad)] [] [.ay,.ay])
theorem ahE:Sound Tryz.prog 322 0 WY:=b4 bk 0 (fn:=Tryz.f322) (fns:=[(323,O1),(324,WW),(326,WX)]) ⟨WV,ahA,ahB,trivial⟩ ahC ahD U5 E0 (fun k x=>EZ k x.1 x.2.1) (by kernel_rfl) rfl
def WZ:Entry:=⟨[aQ .str,aQ .str,aQ (.int .i64),aQ (.int .i64)],[ro (.sl .str)],Mt⟩
def ahF:List (Nat×bQ):=[(7,⟨[(0,aJ),(1,aJ),(2,aJ),(3,aJ)],[],[.drop,.drop,.drop,.drop]⟩),(11,⟨[(0,aJ),(1,aJ),(2,aJ),(3,aJ),(9,.cell (.ah 1)),(10,aJ)],[(1,.row .str .R)],[.drop,.drop,.drop,.drop]⟩),(17,⟨[(0,aJ),(9,.cell (.ah 1)),(10,aJ)],[(1,.row .str .R)],[.drop,.drop,.drop,.drop]⟩)]
def ahG(k:Nat→aq→Option (p2)):q4:=⟨fun U aa ad ag=>k 7 (bf [(0,eM U),(1,eM aa),(2,aU ad),(3,aU ag)] [] [.ay,.ay,.ay,.ay]),fun U aa ad ag al aE=>k 11 (bf [(0,eM U),(1,eM aa),(2,aU ad),(3,aU ag),(9,.aW (.ah 1 none)),(10,aU al)] [(1,.row .str .R 0 aE)] [.ay,.ay,.ay,.ay]),fun U aa ad=>k 17 (bf [(0,eM U),(9,.aW (.ah 1 none)),(10,aU aa)] [(1,.row .str .R 0 ad)] [.ay,.ay,.ay,.ay])⟩
theorem ahH:Sound Tryz.prog 320 0 WZ:=b4 bk 0 (fn:=Tryz.f320) (fns:=[(321,WR),(322,WY),(323,O1)]) ⟨ahw,ahE,WV,trivial⟩ ahF ahG U7 q5 (fun k x=>E1 k x.1 x.2.1 x.2.2.1 x.2.2.2.1) (by kernel_rfl) rfl
def W0:Entry:=⟨[aQ .str,aQ .str],[ro (.sl .str)],Mv⟩
theorem ahI:Sound Tryz.prog 313 0 W0:=ct bk 0 (fn:=Tryz.f313) (fns:=[(320,WZ)]) ⟨ahH,trivial⟩ (by kernel_rfl)
def W4:Entry:=⟨[aQ .str],[ro (.sl .str)],sO⟩
def ahJ:List (Nat×bQ):=[(3,⟨[(3,.cell (.ah 1)),(8,.cell (.ah 2)),(9,aJ),(10,aJ)],[(1,.row .str .R),(2,.row .str .R)],[.drop]⟩)]
def ahK(k:Nat→aq→Option (Au)):E2:=fun U aa ad ag=>k 3 (bf [(3,.aW (.ah 1 none)),(8,.aW (.ah 2 none)),(9,aU U),(10,aU aa)] [(1,.row .str .R 0 ad),(2,.row .str .R 0 ag)] [.ay])
theorem ahL:Sound Tryz.prog 304 0 W4:=b4 bk 0 (fn:=Tryz.f304) (fns:=[(313,W0)]) ⟨ahI,trivial⟩ ahJ ahK E4 sN (fun k x=>E3 k x.1) (by kernel_rfl) rfl
def W5:Entry:=⟨[fJ af,aQ (.int .i64)],[bb (.int .i64)],Mw⟩
def ahM:List (Nat×bQ):=[(2,⟨[(1,aJ),(12,.cell (.bY J [])),(13,aJ),(14,aJ)],[],[.drop,.drop]⟩),(5,⟨[(1,aJ),(6,.ptr 1),(12,.cell (.bY J [])),(13,aJ),(14,aJ),(19,.cell (.bY aB [])),(20,aJ),(21,aJ)],az 1 J .R [],[.drop,.drop]⟩)]
def ahN(k:Nat→aq→Option (Int×Unit)):vn:=⟨fun U aa ad ag=>k 2 (bf [(1,aU U),(12,fp J aa),(13,aU ad),(14,aU ag)] [] [.ay,.ay]),fun U aa ad ag al aE a7 bE=>k 5 (bf [(1,aU U),(6,ax 1),(12,fp J aa),(13,aU ad),(14,aU ag),(19,fp aB al),(20,aU aE),(21,aU a7)] (aA 1 J .R [] bE) [.ay,.ay])⟩
theorem ahO:Sound Tryz.prog 305 0 W5:=b4 bk 0 (fn:=Tryz.f305) (fns:=[]) trivial ahM ahN U9 kP (fun k x=>E5 k x.1 x.2.1) (by kernel_rfl) rfl
def W6:Entry:=⟨[fJ af,aQ aL,aQ .str,aQ .bool],[bb a6],Mx⟩
def ahP:List (Nat×bQ):=[(3,⟨[(0,.dk [] (pZ af .R [] 0)),(3,aJ),(5,.ptr 1),(8,.ptr 2),(9,.cell (.av 3)),(10,aJ),(11,aJ)],az 1 aL .R []++az 2 a6 .R []++[(3,.row .str .R)],[.drop,.drop,.drop,.drop]⟩)]
def ahQ(k:Nat→aq→Option (a6.D×Unit)):sP:=fun U aa ad ag al aE a7 bE cn=>k 3 (bf [(0,.dk (nQ []) (aW af .R [] U 0) 0),(3,jq aa),(5,ax 1),(8,ax 2),(9,.aW (.ah 3 (some (ad,ag)))),(10,aU al),(11,aU aE)] (aA 1 aL .R [] a7++aA 2 a6 .R [] bE++[(3,.row .str .R 0 cn)]) [.ay,.ay,.ay,.ay])
theorem ahR:Sound Tryz.prog 290 0 W6:=b4 bk 0 (fn:=Tryz.f290) (fns:=[(205,n0),(279,yy),(291,O0),(304,W4),(305,W5)]) ⟨o9,Bq,WQ,ahL,ahO,trivial⟩ ahP ahQ mf gA (fun k x=>E6 k x.1 x.2.1 x.2.2.1 x.2.2.2.1) (by kernel_rfl) rfl
def yz:Entry:=⟨[fJ aP,aQ .str,aQ .bool],[bb a6],ly⟩
theorem Br:Sound Tryz.prog 271 0 yz:=ct bk 0 (fn:=Tryz.f271) (fns:=[(289,WO),(290,W6)]) ⟨aht,ahR,trivial⟩ (by kernel_rfl)
def O2:Entry:=⟨[fJ aP,aQ .str],[bb a6,bb (.int .i64)],vq⟩
theorem W7:Sound Tryz.prog 267 0 O2:=ct bk 0 (fn:=Tryz.f267) (fns:=[(271,yz)]) ⟨Br,trivial⟩ (by kernel_rfl)
def Bs:Entry:=⟨[fJ aP,aQ (.int .i64)],[bb .bool],nT⟩
theorem HT:Sound Tryz.prog 268 0 Bs:=ct bk 0 (fn:=Tryz.f268) (fns:=[(205,n0),(279,yy)]) ⟨o9,Bq,trivial⟩ (by kernel_rfl)
def W8:Entry:=⟨[tW (.sl aB),aQ (.int .i64),tW (.sl aB)],[ro (.sl aB)],Vc⟩
theorem ahS:ia Tryz.prog 288 0 W8:=ins_soundX
def HU:Entry:=⟨[.«mut» aP cC cC,aQ (.int .i64),aQ .str,aQ (.int .i64)],[],sR⟩
def ahT:List (Nat×bQ):=[(2,⟨[(2,aJ),(3,aJ),(8,.opt 1),(9,aJ)],[(1,.row J wj),(2,.var [.keep,.ah 1,.keep,.keep,.bY (.int .i64) [],.keep,.keep,.keep,.keep,.keep,.keep])],[.ptr 2,.drop,.drop,.drop]⟩),(4,⟨[(2,aJ),(3,aJ),(8,.opt 1),(9,aJ)],[(1,.row J wj),(2,.var [.keep,.ah 1,.keep,.keep,.bY (.int .i64) [],.keep,.keep,.keep,.keep,.keep,.keep])],[.ptr 2,.drop,.drop,.drop]⟩)]
def ahU(k:Nat→aq→Option (aP.D×Unit)):vr:=⟨fun U aa ad ag al=>k 2 (bf [(2,eM U),(3,aU aa),(8,.opt 1 ad),(9,aU ag)] ([(1,.row J wj 0 al.1.2.1),(2,.var 0 [.int .i64 al.1.1,.ah 1 none,.int .i64 al.2.1.1,.int .i64 al.2.1.2.1,.bY (.int .i64) [] none al.2.1.2.2.1,.int .i64 al.2.2.1.1,.str al.2.2.1.2.1,.str al.2.2.1.2.2.1,.int .i64 al.2.2.1.2.2.2.1,.int .i64 al.2.2.1.2.2.2.2.1,.str al.2.2.1.2.2.2.2.2.1])]) [ax 2,.ay,.ay,.ay]),fun U aa ad ag al=>k 4 (bf [(2,eM U),(3,aU aa),(8,.opt 1 ad),(9,aU ag)] ([(1,.row J wj 0 al.1.2.1),(2,.var 0 [.int .i64 al.1.1,.ah 1 none,.int .i64 al.2.1.1,.int .i64 al.2.1.2.1,.bY (.int .i64) [] none al.2.1.2.2.1,.int .i64 al.2.2.1.1,.str al.2.2.1.2.1,.str al.2.2.1.2.2.1,.int .i64 al.2.2.1.2.2.2.1,.int .i64 al.2.2.1.2.2.2.2.1,.str al.2.2.1.2.2.2.2.2.1])]) [ax 2,.ay,.ay,.ay])⟩
theorem O3:Sound Tryz.prog 269 0 HU:=b4 bk 0 (fn:=Tryz.f269) (fns:=[(288,W8),(205,HK)]) ⟨ahS,OO,trivial⟩ ahT ahU Vd sQ (fun k x=>E7 k x.1 x.2.1 x.2.2.1 x.2.2.2.1) (by kernel_rfl) rfl
def yA:Entry:=⟨[fJ aP],[bb (.int .i64)],nU⟩
theorem Bt:Sound Tryz.prog 270 0 yA:=ct bk 0 (fn:=Tryz.f270) (fns:=[(173,HO),(175000174,OT)]) ⟨OR,Wx,trivial⟩ (by kernel_rfl)
def W9:Entry:=⟨[.«mut» aP cC cC],[bb (.int .i64)],Ax⟩
def ahV:List (Nat×bQ):=[(4,⟨[(0,.ptr 1),(3,.ptr 3)],az 1 aP cC []++az 3 aG .R [],[.ptr 1]⟩),(23,⟨[(0,.ptr 1),(4,.ptr 3),(7,.ptr 4)],az 1 aP cC []++az 3 a6 .R []++az 4 J J.own [],[.ptr 1]⟩)]
def ahW(k:Nat→aq→Option (Int×aP.D×Unit)):vt:=⟨fun U aa=>k 4 (bf [(0,ax 1),(3,ax 3)] (aA 1 aP cC [] U++aA 3 aG .R [] aa) [ax 1]),fun U aa ad=>k 23 (bf [(0,ax 1),(4,ax 3),(7,ax 4)] (aA 1 aP cC [] U++aA 3 a6 .R [] aa++aA 4 J J.own [] ad) [ax 1])⟩
theorem ahX:Sound Tryz.prog 234 0 W9:=b4 bk 0 (fn:=Tryz.f234) (fns:=[(119,iR),(203,HJ),(205,n0),(267,O2),(268,Bs),(269,HU),(270,yA)]) ⟨jv,ON,o9,W7,HT,O3,Bt,trivial⟩ ahV ahW Ve lz (fun k x=>E8 k x.1) (by kernel_rfl) rfl
def HV:Entry:=⟨[aQ aL,aQ J,aQ J],[bb .bool],sS⟩
theorem O4:Sound Tryz.prog 272 0 HV:=ct bk 0 (fn:=Tryz.f272) (fns:=[(211,Bp)]) ⟨HR,trivial⟩ (by kernel_rfl)
def O5:Entry:=⟨[aQ aB,fJ .str],[bb .bool],E9⟩
theorem W_:Sound Tryz.prog 293 0 O5:=ct bk 0 (fn:=Tryz.f293) (fns:=[]) trivial (by kernel_rfl)
def Xa:Entry:=⟨[aQ (.sl aB),.fn 0 1,fJ .str],[bb (.int .i64)],ME⟩
def ahY:List (Nat×bQ):=[(2,⟨[(0,.cell (.bY aB [])),(1,.wW [] [[.keep]]),(7,aJ),(8,aJ)],[],[.drop,.drop,.drop]⟩)]
def ahZ(k:Nat→aq→Option (Int×Unit)):E_:=fun U aa ad ag=>k 2 (bf [(0,fp aB U),(1,.fn 293 [] [.dk [] [.str aa] 0]),(7,aU ad),(8,aU ag)] [] [.ay,.ay,.ay])
theorem ah0:Sound Tryz.prog 306 293 Xa:=b4 bk 293 (fn:=Tryz.f306) (fns:=[(293,O5)]) ⟨W_,trivial⟩ ahY ahZ E' x9 (fun k x=>Vf k x.1 x.2.1) (by kernel_rfl) rfl
def Xb:Entry:=⟨[tW (.sl aB),.fn 0 1,fJ .str],[ro (.sl aB)],Fe⟩
def ah1:List (Nat×bQ):=[(5,⟨[(0,.cell (.ah 1)),(1,.wW [] [[.keep]]),(5,aJ),(6,aJ)],[(1,.row aB .R)],[.drop,.drop,.drop]⟩)]
def ah2(k:Nat→aq→Option (x_)):Fa:=fun U aa ad ag=>k 5 (bf [(0,.aW (.ah 1 none)),(1,.fn 293 [] [.dk [] [.str U] 0]),(5,aU aa),(6,aU ad)] [(1,.row aB .R 0 ag)] [.ay,.ay,.ay])
theorem ah3:Sound Tryz.prog 292 293 Xb:=b4 bk 293 (fn:=Tryz.f292) (fns:=[(293,O5),(293000306,Xa)]) ⟨W_,ah0,trivial⟩ ah1 ah2 Fc x' (fun k x=>Fb k x.1 x.2.1) (by kernel_rfl) rfl
def Xc:Entry:=⟨[tW (.sl J),.fn 0 1,fJ (.int .i64)],[ro (.sl J)],Vh⟩
theorem ah4:ia Tryz.prog 294 295 Xc:=afA (T:=J) (T':=pw.eO) (p:=fun y i=> !(y.1==i)) (p':=fun y i=> !pw.jC y i) rfl (fun x y i h=>by rw [show x.1=y.1 from h.1];rfl) (fq:=pw.Jo) pw.ab5.x (fun ys i h=>pw.del_eq ys i h)
def O6:Entry:=⟨[.«mut» aP cC cC,aQ (.int .i64),aQ .str,aQ .bool],[],oU⟩
theorem Xd:Sound Tryz.prog 273 0 O6:=ct bk 0 (fn:=Tryz.f273) (fns:=[(172,HN),(291,O0),(293000292,Xb),(295000294,Xc),(205,HK)]) ⟨OQ,WQ,ah3,ah4,OO,trivial⟩ (by kernel_rfl)
def Xe:Entry:=⟨[.«mut» aP cC cC],[bb (.int .i64)],Fg⟩
def ah5:List (Nat×bQ):=[(5,⟨[(0,.ptr 1),(3,.ptr 3),(4,.ptr 4)],az 1 aP cC []++az 3 a6 .R []++az 4 J .R [2,1],[.ptr 1]⟩),(7,⟨[(0,.ptr 1),(3,.ptr 3),(4,.ptr 4)],az 1 aP cC []++az 3 a6 .R []++az 4 J .R [2,1],[.ptr 1]⟩),(9,⟨[(0,.ptr 1),(3,.ptr 3),(4,.ptr 4)],az 1 aP cC []++az 3 a6 .R []++az 4 J .R [2,1],[.ptr 1]⟩),(11,⟨[(0,.ptr 1),(3,.ptr 3),(4,.ptr 4)],az 1 aP cC []++az 3 a6 .R []++az 4 J .R [2,1],[.ptr 1]⟩)]
def ah6(k:Nat→aq→Option (Int×aP.D×Unit)):q7:=⟨fun U aa ad=>k 5 (bf [(0,ax 1),(3,ax 3),(4,ax 4)] (aA 1 aP cC [] U++aA 3 a6 .R [] aa++aA 4 J .R [2,1] ad) [ax 1]),fun U aa ad=>k 7 (bf [(0,ax 1),(3,ax 3),(4,ax 4)] (aA 1 aP cC [] U++aA 3 a6 .R [] aa++aA 4 J .R [2,1] ad) [ax 1]),fun U aa ad=>k 9 (bf [(0,ax 1),(3,ax 3),(4,ax 4)] (aA 1 aP cC [] U++aA 3 a6 .R [] aa++aA 4 J .R [2,1] ad) [ax 1]),fun U aa ad=>k 11 (bf [(0,ax 1),(3,ax 3),(4,ax 4)] (aA 1 aP cC [] U++aA 3 a6 .R [] aa++aA 4 J .R [2,1] ad) [ax 1])⟩
theorem ah7:Sound Tryz.prog 235 0 Xe:=b4 bk 0 (fn:=Tryz.f235) (fns:=[(205,n0),(268,Bs),(271,yz),(272,HV),(273,O6)]) ⟨o9,HT,Br,O4,Xd,trivial⟩ ah5 ah6 Vi oV (fun k x=>Ff k x.1) (by kernel_rfl) rfl
def O7:Entry:=⟨[fJ af,aQ (.int .i64)],[bb .bool],Ay⟩
theorem Xf:Sound Tryz.prog 274 0 O7:=ct bk 0 (fn:=Tryz.f274) (fns:=[(205,n0)]) ⟨o9,trivial⟩ (by kernel_rfl)
def Xg:Entry:=⟨[.«mut» aP cC cC],[bb (.int .i64)],Fh⟩
theorem ah8:Sound Tryz.prog 236 0 Xg:=ct bk 0 (fn:=Tryz.f236) (fns:=[(205,n0),(267,O2),(268,Bs),(269,HU),(270,yA),(271,yz),(274,O7)]) ⟨o9,W7,HT,O3,Bt,Br,Xf,trivial⟩ (by kernel_rfl)
def Xh:Entry:=⟨[fJ aP,aQ J,aQ a6],[bb (.int .i64)],Fi⟩
theorem ah9:Sound Tryz.prog 275 0 Xh:=ct bk 0 (fn:=Tryz.f275) (fns:=[(205,n0),(272,HV)]) ⟨o9,O4,trivial⟩ (by kernel_rfl)
def Xi:Entry:=⟨[.«mut» aP cC cC],[bb (.int .i64)],Fk⟩
def ah_:List (Nat×bQ):=[(7,⟨[(0,.ptr 1),(3,.ptr 3),(4,.ptr 4)],az 1 aP cC []++az 3 a6 .R []++az 4 a6 .R [],[.ptr 1]⟩),(10,⟨[(0,.ptr 1),(3,.ptr 3),(4,.ptr 4),(5,.ptr 5)],az 1 aP cC []++az 3 a6 .R []++az 4 a6 .R []++az 5 J .R [2,1],[.ptr 1]⟩),(16,⟨[(0,.ptr 1),(3,.ptr 3),(4,.ptr 4),(5,.ptr 5)],az 1 aP cC []++az 3 a6 .R []++az 4 a6 .R []++az 5 J .R [2,1],[.ptr 1]⟩),(25,⟨[(0,.ptr 1),(3,.ptr 3),(4,.ptr 4)],az 1 aP cC []++az 3 a6 .R []++az 4 a6 .R [],[.ptr 1]⟩)]
def ah'(k:Nat→aq→Option (Int×aP.D×Unit)):q8:=⟨fun U aa ad=>k 7 (bf [(0,ax 1),(3,ax 3),(4,ax 4)] (aA 1 aP cC [] U++aA 3 a6 .R [] aa++aA 4 a6 .R [] ad) [ax 1]),fun U aa ad ag=>k 10 (bf [(0,ax 1),(3,ax 3),(4,ax 4),(5,ax 5)] (aA 1 aP cC [] U++aA 3 a6 .R [] aa++aA 4 a6 .R [] ad++aA 5 J .R [2,1] ag) [ax 1]),fun U aa ad ag=>k 16 (bf [(0,ax 1),(3,ax 3),(4,ax 4),(5,ax 5)] (aA 1 aP cC [] U++aA 3 a6 .R [] aa++aA 4 a6 .R [] ad++aA 5 J .R [2,1] ag) [ax 1]),fun U aa ad=>k 25 (bf [(0,ax 1),(3,ax 3),(4,ax 4)] (aA 1 aP cC [] U++aA 3 a6 .R [] aa++aA 4 a6 .R [] ad) [ax 1])⟩
theorem aia:Sound Tryz.prog 237 0 Xi:=b4 bk 0 (fn:=Tryz.f237) (fns:=[(170,HM),(171,Bo),(205,n0),(268,Bs),(269,HU),(270,yA),(271,yz),(272,HV),(273,O6),(275,Xh)]) ⟨OP,HL,o9,HT,O3,Bt,Br,O4,Xd,ah9,trivial⟩ ah_ ah' Vj ju (fun k x=>Fj k x.1) (by kernel_rfl) rfl
def rE:Entry:=⟨[.«mut» aP cC cC,aQ .bool],[.opt 0 1 J,bb (.int .i64)],mZ⟩
theorem ti:Sound Tryz.prog 278 0 rE:=ct bk 0 (fn:=Tryz.f278) (fns:=[(271,yz),(205,HK)]) ⟨Br,OO,trivial⟩ (by kernel_rfl)
def O8:Entry:=⟨[.«mut» aP cC cC,aQ (.int .i64)],[.opt 0 1 J,bb (.int .i64)],AA⟩
theorem Xj:Sound Tryz.prog 276 0 O8:=ct bk 0 (fn:=Tryz.f276) (fns:=[(278,rE),(279,yy)]) ⟨ti,Bq,trivial⟩ (by kernel_rfl)
def Xk:Entry:=⟨[.«mut» aP cC cC],[bb aF],Fl⟩
theorem aib:Sound Tryz.prog 238 0 Xk:=ct bk 0 (fn:=Tryz.f238) (fns:=[(176,th),(276,O8)]) ⟨wk,Xj,trivial⟩ (by kernel_rfl)
def Xl:Entry:=⟨[aQ .str,aQ (.int .i64)],[bb .str],strings_Repeat⟩
theorem aic:ia Tryz.prog 296 0 Xl:=rep_soundX
def Xm:Entry:=⟨[aQ .str,aQ (.int .i64)],[bb .str],Fm⟩
theorem aid:Sound Tryz.prog 277 0 Xm:=ct bk 0 (fn:=Tryz.f277) (fns:=[(296,Xl)]) ⟨aic,trivial⟩ (by kernel_rfl)
def Xn:Entry:=⟨[.«mut» aP cC cC],[bb (.int .i64)],Fp⟩
def aie:List (Nat×bQ):=[(7,⟨[(0,.ptr 1),(3,.opt 2),(5,aJ)],az 1 aP cC [],[.ptr 1]⟩),(11,⟨[(0,.ptr 1),(3,.opt 2),(5,aJ)],az 1 aP cC [],[.ptr 1]⟩),(18,⟨[(0,.ptr 1),(3,.opt 2),(6,aJ)],az 1 aP cC [],[.ptr 1]⟩)]
def aif(k:Nat→aq→Option (Int×aP.D×Unit)):sU:=⟨fun U aa ad=>k 7 (bf [(0,ax 1),(3,.opt 2 U),(5,aU aa)] (aA 1 aP cC [] ad) [ax 1]),fun U aa ad=>k 11 (bf [(0,ax 1),(3,.opt 2 U),(5,aU aa)] (aA 1 aP cC [] ad) [ax 1]),fun U aa ad=>k 18 (bf [(0,ax 1),(3,.opt 2 U),(6,eM aa)] (aA 1 aP cC [] ad) [ax 1])⟩
theorem aih:Sound Tryz.prog 239 0 Xn:=b4 bk 0 (fn:=Tryz.f239) (fns:=[(270,yA),(276,O8),(277,Xm)]) ⟨Bt,Xj,aid,trivial⟩ aie aif Vn gI (fun k x=>Fo k x.1) (by kernel_rfl) rfl
def Xo:Entry:=⟨[.«mut» aP cC cC],[bb aF],Fq⟩
theorem aii:Sound Tryz.prog 240 0 Xo:=ct bk 0 (fn:=Tryz.f240) (fns:=[(176,th),(278,rE)]) ⟨wk,ti,trivial⟩ (by kernel_rfl)
def O9:Entry:=⟨[aQ (.sl .str),aQ .str],[bb .str],strings_Join⟩
theorem Xp:ia Tryz.prog 280 0 O9:=join_soundX
def HW:Entry:=⟨[aQ (.sl (.int .i64))],[bb .str],q9⟩
def aij:List (Nat×bQ):=[(3,⟨[(3,.cell (.ah 1)),(7,.cell (.bY (.int .i64) [])),(8,aJ),(9,aJ)],[(1,.row .str .R)],[.drop]⟩)]
def aik(k:Nat→aq→Option ((aj)×Unit)):Fs:=fun U aa ad ag=>k 3 (bf [(3,.aW (.ah 1 none)),(7,fp (.int .i64) U),(8,aU aa),(9,aU ad)] [(1,.row .str .R 0 ag)] [.ay])
theorem O_:Sound Tryz.prog 246 0 HW:=b4 bk 0 (fn:=Tryz.f246) (fns:=[(210,OY),(280,O9)]) ⟨WJ,Xp,trivial⟩ aij aik Ft vu (fun k x=>Vp k x.1) (by kernel_rfl) rfl
def Xq:Entry:=⟨[.«mut» aP cC cC],[bb aF],AD⟩
def ail:List (Nat×bQ):=[(13,⟨[(2,.ptr 1),(7,.cell (.ah 2)),(73,.cell (.bY aB [3])),(74,aJ),(75,aJ)],az 1 aF .R []++[(2,.row .str .R),(3,.row J wj),(4,.var [.keep,.ah 3,.keep,.keep,.bY (.int .i64) [],.keep,.keep,.keep,.keep,.keep,.keep])],[.ptr 4]⟩)]
def aim(k:Nat→aq→Option (AB)):Fu:=fun U aa ad ag al aE=>k 13 (bf [(2,ax 1),(7,.aW (.ah 2 none)),(73,.aW (.bY aB (nQ [3]) none U)),(74,aU aa),(75,aU ad)] (aA 1 aF .R [] ag++[(2,.row .str .R 0 al),(3,.row J wj 0 aE.1.2.1),(4,.var 0 [.int .i64 aE.1.1,.ah 3 none,.int .i64 aE.2.1.1,.int .i64 aE.2.1.2.1,.bY (.int .i64) [] none aE.2.1.2.2.1,.int .i64 aE.2.2.1.1,.str aE.2.2.1.2.1,.str aE.2.2.1.2.2.1,.int .i64 aE.2.2.1.2.2.2.1,.int .i64 aE.2.2.1.2.2.2.2.1,.str aE.2.2.1.2.2.2.2.2.1])]) [ax 4])
theorem ain:Sound Tryz.prog 241 0 Xq:=b4 bk 0 (fn:=Tryz.f241) (fns:=[(176,th),(208,OS),(246,HW),(278,rE),(279,yy),(280,O9)]) ⟨wk,Wu,O_,ti,Bq,Xp,trivial⟩ ail aim Fw q_ (fun k x=>Fv k x.1) (by kernel_rfl) rfl
def Xr:Entry:=⟨[fJ af,aQ J],[bb (.int .i64)],MZ⟩
def aio:List (Nat×bQ):=[(5,⟨[(0,.dk [] (pZ af .R [] 0)),(5,aJ),(16,.cell (.bY aB [])),(17,aJ),(18,aJ)],[],[.drop,.drop]⟩)]
def aip(k:Nat→aq→Option (Int×Unit)):Fx:=fun U aa ad ag al=>k 5 (bf [(0,.dk (nQ []) (aW af .R [] U 0) 0),(5,aU aa),(16,fp aB ad),(17,aU ag),(18,aU al)] [] [.ay,.ay])
theorem aiq:Sound Tryz.prog 281 0 Xr:=b4 bk 0 (fn:=Tryz.f281) (fns:=[(172,HN),(274,O7)]) ⟨OQ,Xf,trivial⟩ aio aip Fz sV (fun k x=>Fy k x.1 x.2.1) (by kernel_rfl) rfl
def Xs:Entry:=⟨[.«mut» aP cC cC],[bb aF],AE⟩
theorem air:Sound Tryz.prog 242 0 Xs:=ct bk 0 (fn:=Tryz.f242) (fns:=[(119,iR),(176,th),(246,HW),(278,rE),(281,Xr)]) ⟨jv,wk,O_,ti,aiq,trivial⟩ (by kernel_rfl)
def Xt:Entry:=⟨[.«mut» aP cC cC],[bb (.int .i64)],FC⟩
def ais:List (Nat×bQ):=[(8,⟨[(0,.ptr 1),(3,.opt 2)],az 1 aP cC [],[.ptr 1]⟩)]
def ait(k:Nat→aq→Option (Int×aP.D×Unit)):FA:=fun U aa=>k 8 (bf [(0,ax 1),(3,.opt 2 U)] (aA 1 aP cC [] aa) [ax 1])
theorem aiu:Sound Tryz.prog 243 0 Xt:=b4 bk 0 (fn:=Tryz.f243) (fns:=[(119,iR),(278,rE),(282,HS)]) ⟨jv,ti,OZ,trivial⟩ ais ait M3 q' (fun k x=>FB k x.1) (by kernel_rfl) rfl
def Xu:Entry:=⟨[.«mut» aP cC cC],[bb (.int .i64)],FF⟩
def aiv:List (Nat×bQ):=[(8,⟨[(0,.ptr 1),(3,.opt 2)],az 1 aP cC [],[.ptr 1]⟩)]
def aiw(k:Nat→aq→Option (Int×aP.D×Unit)):FD:=fun U aa=>k 8 (bf [(0,ax 1),(3,.opt 2 U)] (aA 1 aP cC [] aa) [ax 1])
theorem aix:Sound Tryz.prog 244 0 Xu:=b4 bk 0 (fn:=Tryz.f244) (fns:=[(119,iR),(278,rE),(282,HS)]) ⟨jv,ti,OZ,trivial⟩ aiv aiw M5 ra (fun k x=>FE k x.1) (by kernel_rfl) rfl
def Xv:Entry:=⟨[.«mut» aP cC cC],[bb (.int .i64)],FG⟩
theorem aiy:Sound Tryz.prog 245 0 Xv:=ct bk 0 (fn:=Tryz.f245) (fns:=[(119,iR),(278,rE),(279,yy)]) ⟨jv,ti,Bq,trivial⟩ (by kernel_rfl)
def Xw:Entry:=⟨[.«mut» aP cC cC],[bb (.int .i64)],FI⟩
theorem aiz:Sound Tryz.prog 247 0 Xw:=ct bk 0 (fn:=Tryz.f247) (fns:=[(119,iR),(270,yA),(278,rE)]) ⟨jv,Bt,ti,trivial⟩ (by kernel_rfl)
def Xx:Entry:=⟨[.«mut» aP cC cC],[bb aF],FK⟩
def aiA:List (Nat×bQ):=[(5,⟨[(0,.ptr 1),(2,.ptr 3)],az 1 aP cC []++az 3 aF .R [],[.ptr 1]⟩),(6,⟨[(0,.ptr 1),(2,.ptr 3),(7,aJ)],az 1 aP cC []++az 3 aF .R [],[.ptr 1]⟩),(8,⟨[(0,.ptr 1),(2,.ptr 3)],az 1 aP cC []++az 3 aF .R [],[.ptr 1]⟩),(9,⟨[(0,.ptr 1),(2,.ptr 3),(7,aJ)],az 1 aP cC []++az 3 aF .R [],[.ptr 1]⟩),(18,⟨[(0,.ptr 1),(2,.ptr 3)],az 1 aP cC []++az 3 aF .R [],[.ptr 1]⟩),(19,⟨[(0,.ptr 1),(2,.ptr 3),(7,aJ)],az 1 aP cC []++az 3 aF .R [],[.ptr 1]⟩),(24,⟨[(0,.ptr 1),(2,.ptr 3),(7,aJ)],az 1 aP cC []++az 3 aF .R [],[.ptr 1]⟩)]
def aiB(k:Nat→aq→Option (kp)):nV:=⟨fun U aa=>k 5 (bf [(0,ax 1),(2,ax 3)] (aA 1 aP cC [] U++aA 3 aF .R [] aa) [ax 1]),fun U aa ad=>k 6 (bf [(0,ax 1),(2,ax 3),(7,aU U)] (aA 1 aP cC [] aa++aA 3 aF .R [] ad) [ax 1]),fun U aa=>k 8 (bf [(0,ax 1),(2,ax 3)] (aA 1 aP cC [] U++aA 3 aF .R [] aa) [ax 1]),fun U aa ad=>k 9 (bf [(0,ax 1),(2,ax 3),(7,aU U)] (aA 1 aP cC [] aa++aA 3 aF .R [] ad) [ax 1]),fun U aa=>k 18 (bf [(0,ax 1),(2,ax 3)] (aA 1 aP cC [] U++aA 3 aF .R [] aa) [ax 1]),fun U aa ad=>k 19 (bf [(0,ax 1),(2,ax 3),(7,aU U)] (aA 1 aP cC [] aa++aA 3 aF .R [] ad) [ax 1]),fun U aa ad=>k 24 (bf [(0,ax 1),(2,ax 3),(7,aU U)] (aA 1 aP cC [] aa++aA 3 aF .R [] ad) [ax 1])⟩
theorem aiC:Sound Tryz.prog 212 0 Xx:=b4 bk 0 (fn:=Tryz.f212) (fns:=[(173,HO),(176,th),(234,W9),(235,Xe),(236,Xg),(237,Xi),(238,Xk),(239,Xn),(240,Xo),(241,Xq),(242,Xs),(243,Xt),(244,Xu),(245,Xv),(246,HW),(247,Xw)]) ⟨OR,wk,ahX,ah7,ah8,aia,aib,aih,aii,ain,air,aiu,aix,aiy,O_,aiz,trivial⟩ aiA aiB Vt M9 (fun k x=>FJ k x.1) (by kernel_rfl) rfl
def Xy:Entry:=⟨[aQ af,aQ aL,aQ aG],[ro af,bb aF],AF⟩
theorem aiD:Sound Tryz.prog 180 0 Xy:=ct bk 0 (fn:=Tryz.f180) (fns:=[(123,OU),(127,HP),(176,th),(211,Bp),(212,Xx)]) ⟨WA,OW,wk,HR,aiC,trivial⟩ (by kernel_rfl)
def Xz:Entry:=⟨[LI aR,aQ (.int .i64),aQ aG],[bb aF],FM⟩
def aiE:List (Nat×bQ):=[(10,⟨[(0,.ptr 1),(5,.ptr 5),(6,.ptr 6),(9,.ptr 7)],az 1 aR aR.own []++az 5 aG .R []++az 6 aF .R []++az 7 aL aL.own [],[.ptr 1,.drop,.drop]⟩),(12,⟨[(0,.ptr 1),(5,.ptr 5),(6,.ptr 6),(9,.ptr 7)],az 1 aR aR.own []++az 5 aG .R []++az 6 aF .R []++az 7 aL aL.own [],[.ptr 1,.drop,.drop]⟩),(19,⟨[(0,.ptr 1),(5,.ptr 5),(6,.ptr 6),(9,.ptr 7)],az 1 aR aR.own []++az 5 aG .R []++az 6 aF .R []++az 7 aL aL.own [],[.ptr 1,.drop,.drop]⟩)]
def aiF(k:Nat→aq→Option (rb)):sW:=⟨fun U aa ad ag=>k 10 (bf [(0,ax 1),(5,ax 5),(6,ax 6),(9,ax 7)] (aA 1 aR aR.own [] U++aA 5 aG .R [] aa++aA 6 aF .R [] ad++aA 7 aL aL.own [] ag) [ax 1,.ay,.ay]),fun U aa ad ag=>k 12 (bf [(0,ax 1),(5,ax 5),(6,ax 6),(9,ax 7)] (aA 1 aR aR.own [] U++aA 5 aG .R [] aa++aA 6 aF .R [] ad++aA 7 aL aL.own [] ag) [ax 1,.ay,.ay]),fun U aa ad ag=>k 19 (bf [(0,ax 1),(5,ax 5),(6,ax 6),(9,ax 7)] (aA 1 aR aR.own [] U++aA 5 aG .R [] aa++aA 6 aF .R [] ad++aA 7 aL aL.own [] ag) [ax 1,.ay,.ay])⟩
theorem aiG:Sound Tryz.prog 126 0 Xz:=b4 bk 0 (fn:=Tryz.f126) (fns:=[(127,HP),(128,HQ),(176,th),(177,WH),(178,WI),(179,WK),(180,Xy)]) ⟨OW,OX,wk,ahh,ahi,ahn,aiD,trivial⟩ aiE aiF Vv mg (fun k x=>FL k x.1 x.2.1 x.2.2.1) (by kernel_rfl) rfl
def XA:Entry:=⟨[LI aR,aQ (.int .i64),aQ (.int .i64),aQ aG,aQ (.int .i64)],[bb aF,bb .bool],FO⟩
def aiH:List (Nat×bQ):=[(10,⟨[(0,.ptr 1),(1,aJ),(2,aJ),(4,aJ),(8,.ptr 5),(10,.ptr 6),(13,.ptr 7),(14,aJ)],az 1 aR aR.own []++az 5 aG .R []++az 6 aF .R []++az 7 aF .R [],[.ptr 1,.drop,.drop,.drop,.drop]⟩),(11,⟨[(0,.ptr 1),(1,aJ),(2,aJ),(4,aJ),(8,.ptr 5),(10,.ptr 6),(13,.ptr 7)],az 1 aR aR.own []++az 5 aG .R []++az 6 aF .R []++az 7 aF .R [],[.ptr 1,.drop,.drop,.drop,.drop]⟩),(12,⟨[(0,.ptr 1),(1,aJ),(2,aJ),(4,aJ),(10,.ptr 5),(13,.ptr 6)],az 1 aR aR.own []++az 5 aF .R []++az 6 aF .R [],[.ptr 1,.drop,.drop,.drop,.drop]⟩)]
def aiI(k:Nat→aq→Option (m1)):re:=⟨fun U aa ad ag al aE a7 bE=>k 10 (bf [(0,ax 1),(1,aU U),(2,aU aa),(4,aU ad),(8,ax 5),(10,ax 6),(13,ax 7),(14,jq ag)] (aA 1 aR aR.own [] al++aA 5 aG .R [] aE++aA 6 aF .R [] a7++aA 7 aF .R [] bE) [ax 1,.ay,.ay,.ay,.ay]),fun U aa ad ag al aE a7=>k 11 (bf [(0,ax 1),(1,aU U),(2,aU aa),(4,aU ad),(8,ax 5),(10,ax 6),(13,ax 7)] (aA 1 aR aR.own [] ag++aA 5 aG .R [] al++aA 6 aF .R [] aE++aA 7 aF .R [] a7) [ax 1,.ay,.ay,.ay,.ay]),fun U aa ad ag al aE=>k 12 (bf [(0,ax 1),(1,aU U),(2,aU aa),(4,aU ad),(10,ax 5),(13,ax 6)] (aA 1 aR aR.own [] ag++aA 5 aF .R [] al++aA 6 aF .R [] aE) [ax 1,.ay,.ay,.ay,.ay])⟩
theorem aiJ:Sound Tryz.prog 63 0 XA:=b4 bk 0 (fn:=Tryz.f63) (fns:=[(119,iR),(124,WC),(125,WE),(126,Xz),(127,HP),(128,HQ),(129,OV)]) ⟨jv,aha,ahd,aiG,OW,OX,WD,trivial⟩ aiH aiI Vx rf (fun k x=>FN k x.1 x.2.1 x.2.2.1 x.2.2.2.1 x.2.2.2.2.1) (by kernel_rfl) rfl
def XB:Entry:=⟨[aQ aR,aQ (.int .i64),aQ (.int .i64),aQ aG,aQ (.int .i64)],[ro aR,bb aF,bb .bool],vv⟩
theorem aiK:Sound Tryz.prog 12 0 XB:=ct bk 0 (fn:=Tryz.f12) (fns:=[(61,Wz),(62,WB),(63,XA)]) ⟨ag6,ag9,aiJ,trivial⟩ (by kernel_rfl)
def kv:Entry:=⟨[aQ (.int .i64),aQ (.int .i64),aQ (.int .i64)],[bb .bool],c_⟩
theorem kU:Sound Tryz.prog 67 0 kv:=ct bk 0 (fn:=Tryz.f67) (fns:=[]) trivial (by kernel_rfl)
def HX:Entry:=⟨[aQ (.int .u8)],[bb .bool],AG⟩
theorem O':Sound Tryz.prog 222 0 HX:=ct bk 0 (fn:=Tryz.f222) (fns:=[]) trivial (by kernel_rfl)
def Pb:Entry:=⟨[aQ .str],[bb .bool],AH⟩
def aiL:List (Nat×bQ):=[(4,⟨[(0,aJ),(3,aJ)],[],[.drop]⟩)]
def aiM(k:Nat→aq→Option (Bool×Unit)):FP:=fun U aa=>k 4 (bf [(0,eM U),(3,aU aa)] [] [.ay])
theorem XC:Sound Tryz.prog 185 0 Pb:=b4 bk 0 (fn:=Tryz.f185) (fns:=[(67,kv),(222,HX)]) ⟨kU,O',trivial⟩ aiL aiM FR vw (fun k x=>FQ k x.1) (by kernel_rfl) rfl
def XD:Entry:=⟨[aQ .str],[bb .bool],Nh⟩
def aiN:List (Nat×bQ):=[(4,⟨[(0,aJ),(3,aJ)],[],[.drop]⟩)]
def aiO(k:Nat→aq→Option (Bool×Unit)):FT:=fun U aa=>k 4 (bf [(0,eM U),(3,aU aa)] [] [.ay])
theorem aiP:Sound Tryz.prog 186 0 XD:=b4 bk 0 (fn:=Tryz.f186) (fns:=[(67,kv),(222,HX)]) ⟨kU,O',trivial⟩ aiN aiO FV sX (fun k x=>FU k x.1) (by kernel_rfl) rfl
def qd:Entry:=⟨[aQ af,aQ (.int .i64)],[bb (.int .i64)],kQ⟩
def aiQ:List (Nat×bQ):=[(2,⟨[(1,aJ),(2,.ptr 1),(5,aJ)],az 1 af .R [],[.drop,.drop]⟩)]
def aiR(k:Nat→aq→Option (Int×Unit)):FW:=fun U aa ad=>k 2 (bf [(1,aU U),(2,ax 1),(5,aU aa)] (aA 1 af .R [] ad) [.ay,.ay])
theorem rF:Sound Tryz.prog 187 0 qd:=b4 bk 0 (fn:=Tryz.f187) (fns:=[]) trivial aiQ aiR FY vx (fun k x=>FX k x.1 x.2.1) (by kernel_rfl) rfl
def XE:Entry:=⟨[aQ af,aQ J],[bb .bool],F2⟩
def aiS:List (Nat×bQ):=[(4,⟨[(2,.ptr 1),(3,.ptr 2),(5,aJ)],az 1 af .R []++az 2 J .R [],[.drop,.drop]⟩),(13,⟨[(2,.ptr 1),(3,.ptr 2),(6,aJ)],az 1 af .R []++az 2 J .R [],[.drop,.drop]⟩)]
def aiT(k:Nat→aq→Option (Bool×Unit)):vy:=⟨fun U aa ad=>k 4 (bf [(2,ax 1),(3,ax 2),(5,jq U)] (aA 1 af .R [] aa++aA 2 J .R [] ad) [.ay,.ay]),fun U aa ad=>k 13 (bf [(2,ax 1),(3,ax 2),(6,aU U)] (aA 1 af .R [] aa++aA 2 J .R [] ad) [.ay,.ay])⟩
theorem aiU:Sound Tryz.prog 135 0 XE:=b4 bk 0 (fn:=Tryz.f135) (fns:=[(67,kv),(185,Pb),(186,XD),(187,qd)]) ⟨kU,XC,aiP,rF,trivial⟩ aiS aiT Vz rh (fun k x=>FZ k x.1 x.2.1) (by kernel_rfl) rfl
def Pc:Entry:=⟨[aQ af,aQ (.int .i64)],[ro (.sl .bool)],F5⟩
def aiV:List (Nat×bQ):=[(8,⟨[(2,.ptr 1),(5,.cell (.ah 2)),(6,.cell (.ah 3)),(8,aJ)],az 1 af .R []++[(2,.row .bool .R),(3,.row .bool .R)],[.drop,.drop]⟩),(11,⟨[(2,.ptr 1),(5,.cell (.ah 2)),(6,.cell (.ah 3)),(8,aJ),(9,aJ)],az 1 af .R []++[(2,.row .bool .R),(3,.row .bool .R)],[.drop,.drop]⟩),(15,⟨[(2,.ptr 1),(5,.cell (.ah 2)),(6,.cell (.ah 3)),(8,aJ),(9,aJ),(10,aJ)],az 1 af .R []++[(2,.row .bool .R),(3,.row .bool .R)],[.drop,.drop]⟩)]
def aiW(k:Nat→aq→Option ((List Bool)×Unit)):ri:=⟨fun U aa ad ag=>k 8 (bf [(2,ax 1),(5,.aW (.ah 2 none)),(6,.aW (.ah 3 none)),(8,aU U)] (aA 1 af .R [] aa++[(2,.row .bool .R 0 ad),(3,.row .bool .R 0 ag)]) [.ay,.ay]),fun U aa ad ag al=>k 11 (bf [(2,ax 1),(5,.aW (.ah 2 none)),(6,.aW (.ah 3 none)),(8,aU U),(9,aU aa)] (aA 1 af .R [] ad++[(2,.row .bool .R 0 ag),(3,.row .bool .R 0 al)]) [.ay,.ay]),fun U aa ad ag al aE=>k 15 (bf [(2,ax 1),(5,.aW (.ah 2 none)),(6,.aW (.ah 3 none)),(8,aU U),(9,aU aa),(10,aU ad)] (aA 1 af .R [] ag++[(2,.row .bool .R 0 al),(3,.row .bool .R 0 aE)]) [.ay,.ay])⟩
theorem XF:Sound Tryz.prog 136 0 Pc:=b4 bk 0 (fn:=Tryz.f136) (fns:=[(187,qd)]) ⟨rF,trivial⟩ aiV aiW VA kq (fun k x=>F4 k x.1 x.2.1) (by kernel_rfl) rfl
def HY:Entry:=⟨[aQ af,aQ (.int .i64)],[bb (.int .i64)],AN⟩
def aiX:List (Nat×bQ):=[(3,⟨[(1,aJ),(2,.ptr 1),(5,aJ),(6,aJ)],az 1 af .R [],[.drop,.drop]⟩),(6,⟨[(1,aJ),(2,.ptr 1),(5,aJ),(6,aJ),(7,aJ)],az 1 af .R [],[.drop,.drop]⟩)]
def aiY(k:Nat→aq→Option (Int×Unit)):vA:=⟨fun U aa ad ag=>k 3 (bf [(1,aU U),(2,ax 1),(5,aU aa),(6,aU ad)] (aA 1 af .R [] ag) [.ay,.ay]),fun U aa ad ag al=>k 6 (bf [(1,aU U),(2,ax 1),(5,aU aa),(6,aU ad),(7,aU ag)] (aA 1 af .R [] al) [.ay,.ay])⟩
theorem Pd:Sound Tryz.prog 137 0 HY:=b4 bk 0 (fn:=Tryz.f137) (fns:=[]) trivial aiX aiY VB p4 (fun k x=>F6 k x.1 x.2.1) (by kernel_rfl) rfl
def HZ:Entry:=⟨[aQ af],[bb (.int .i64)],AO⟩
def aiZ:List (Nat×bQ):=[(3,⟨[(1,.ptr 1),(3,aJ),(4,aJ)],az 1 af .R [],[.drop]⟩)]
def ai0(k:Nat→aq→Option (Int×Unit)):F7:=fun U aa ad=>k 3 (bf [(1,ax 1),(3,aU U),(4,aU aa)] (aA 1 af .R [] ad) [.ay])
theorem Pe:Sound Tryz.prog 138 0 HZ:=b4 bk 0 (fn:=Tryz.f138) (fns:=[]) trivial aiZ ai0 F9 vB (fun k x=>F8 k x.1) (by kernel_rfl) rfl
def Pf:Entry:=⟨[aQ af,aQ (.int .i64)],[bb (.int .i64),bb (.int .i64)],AP⟩
def ai1:List (Nat×bQ):=[(5,⟨[(2,.ptr 1),(6,.cell (.ah 2)),(7,aJ),(8,aJ),(9,aJ)],az 1 af .R []++[(2,.row .bool .R)],[.drop,.drop]⟩)]
def ai2(k:Nat→aq→Option (Int×Int×Unit)):F_:=fun U aa ad ag al=>k 5 (bf [(2,ax 1),(6,.aW (.ah 2 none)),(7,aU U),(8,aU aa),(9,aU ad)] (aA 1 af .R [] ag++[(2,.row .bool .R 0 al)]) [.ay,.ay])
theorem XG:Sound Tryz.prog 188 0 Pf:=b4 bk 0 (fn:=Tryz.f188) (fns:=[(136,Pc)]) ⟨XF,trivial⟩ ai1 ai2 Gb vC (fun k x=>Ga k x.1 x.2.1) (by kernel_rfl) rfl
def Pg:Entry:=⟨[aQ af],[bb .bool],Gd⟩
def ai3:List (Nat×bQ):=[(2,⟨[(1,.ptr 1),(3,aJ)],az 1 af .R [],[.drop]⟩),(6,⟨[(1,.ptr 1),(3,aJ),(4,.ptr 2)],az 1 af .R []++az 2 J .R [],[.drop]⟩)]
def ai4(k:Nat→aq→Option (Bool×Unit)):vD:=⟨fun U aa=>k 2 (bf [(1,ax 1),(3,aU U)] (aA 1 af .R [] aa) [.ay]),fun U aa ad=>k 6 (bf [(1,ax 1),(3,aU U),(4,ax 2)] (aA 1 af .R [] aa++aA 2 J .R [] ad) [.ay])⟩
theorem XH:Sound Tryz.prog 139 0 Pg:=b4 bk 0 (fn:=Tryz.f139) (fns:=[(188,Pf)]) ⟨XG,trivial⟩ ai3 ai4 VC kr (fun k x=>Gc k x.1) (by kernel_rfl) rfl
def XI:Entry:=⟨[aQ af],[bb .bool],Nk⟩
def ai5:List (Nat×bQ):=[(4,⟨[(1,.ptr 1),(3,aJ)],az 1 af .R [],[.drop]⟩),(11,⟨[(1,.ptr 1),(5,.cell (.ah 2)),(6,aJ)],az 1 af .R []++[(2,.row .bool .R)],[.drop]⟩)]
def ai6(k:Nat→aq→Option (Bool×Unit)):vE:=⟨fun U aa=>k 4 (bf [(1,ax 1),(3,aU U)] (aA 1 af .R [] aa) [.ay]),fun U aa ad=>k 11 (bf [(1,ax 1),(5,.aW (.ah 2 none)),(6,aU U)] (aA 1 af .R [] aa++[(2,.row .bool .R 0 ad)]) [.ay])⟩
theorem ai7:Sound Tryz.prog 66 0 XI:=b4 bk 0 (fn:=Tryz.f66) (fns:=[(67,kv),(135,XE),(136,Pc),(137,HY),(138,HZ),(139,Pg)]) ⟨kU,aiU,XF,Pd,Pe,XH,trivial⟩ ai5 ai6 VD nW (fun k x=>Ge k x.1) (by kernel_rfl) rfl
def Ph:Entry:=⟨[aQ (.sl aO)],[bb .bool],Gi⟩
def ai8:List (Nat×bQ):=[(4,⟨[(0,.cell (.bY aO [])),(3,aJ)],[],[.drop]⟩)]
def ai9(k:Nat→aq→Option (Bool×Unit)):Gf:=fun U aa=>k 4 (bf [(0,fp aO U),(3,aU aa)] [] [.ay])
theorem XJ:Sound Tryz.prog 68 0 Ph:=b4 bk 0 (fn:=Tryz.f68) (fns:=[(67,kv)]) ⟨kU,trivial⟩ ai8 ai9 Gh vH (fun k x=>Gg k x.1) (by kernel_rfl) rfl
def XK:Entry:=⟨[aQ aF],[bb .bool],Gj⟩
theorem ai_:Sound Tryz.prog 69 0 XK:=ct bk 0 (fn:=Tryz.f69) (fns:=[(67,kv)]) ⟨kU,trivial⟩ (by kernel_rfl)
def Pj:Entry:=⟨[aQ aR],[bb .bool],AR⟩
def ai':List (Nat×bQ):=[(4,⟨[(1,.ptr 1),(3,aJ)],az 1 aR .R [],[.drop]⟩)]
def aja(k:Nat→aq→Option (Bool×Unit)):Gk:=fun U aa=>k 4 (bf [(1,ax 1),(3,aU U)] (aA 1 aR .R [] aa) [.ay])
theorem XL:Sound Tryz.prog 14 0 Pj:=b4 bk 0 (fn:=Tryz.f14) (fns:=[(66,XI),(67,kv),(68,Ph),(69,XK)]) ⟨ai7,kU,XJ,ai_,trivial⟩ ai' aja Gm sY (fun k x=>Gl k x.1) (by kernel_rfl) rfl
def Pk:Entry:=⟨[aQ aR,aQ (.int .i64)],[bb (.int .i64),bb .bool],Gp⟩
def ajb:List (Nat×bQ):=[(2,⟨[(1,aJ),(2,.ptr 1),(6,aJ)],az 1 aR .R [],[.drop,.drop]⟩)]
def ajc(k:Nat→aq→Option (Int×Bool×Unit)):Gn:=fun U aa ad=>k 2 (bf [(1,aU U),(2,ax 1),(6,aU aa)] (aA 1 aR .R [] ad) [.ay,.ay])
theorem XM:Sound Tryz.prog 116 0 Pk:=b4 bk 0 (fn:=Tryz.f116) (fns:=[]) trivial ajb ajc yc yd (fun k x=>VE k x.1 x.2.1) (by kernel_rfl) rfl
def H0:Entry:=⟨[aQ aR,aQ (.int .i64)],[bb bt],AS⟩
theorem Pl:Sound Tryz.prog 57 0 H0:=ct bk 0 (fn:=Tryz.f57) (fns:=[(116,Pk)]) ⟨XM,trivial⟩ (by kernel_rfl)
def XN:Entry:=⟨[aQ aR],[bb (.int .i64)],No⟩
def ajd:List (Nat×bQ):=[(3,⟨[(1,.ptr 1),(3,aJ),(4,aJ)],az 1 aR .R [],[.drop]⟩),(8,⟨[(1,.ptr 1),(3,aJ),(5,aJ)],az 1 aR .R [],[.drop]⟩)]
def aje(k:Nat→aq→Option (Int×Unit)):vI:=⟨fun U aa ad=>k 3 (bf [(1,ax 1),(3,aU U),(4,aU aa)] (aA 1 aR .R [] ad) [.ay]),fun U aa ad=>k 8 (bf [(1,ax 1),(3,aU U),(5,aU aa)] (aA 1 aR .R [] ad) [.ay])⟩
theorem ajf:Sound Tryz.prog 130 0 XN:=b4 bk 0 (fn:=Tryz.f130) (fns:=[]) trivial ajd aje VG nX (fun k x=>VF k x.1) (by kernel_rfl) rfl
def H4:Entry:=⟨[aQ aG],[bb .bool],AU⟩
def ajg:List (Nat×bQ):=[(5,⟨[(1,.ptr 1)],az 1 aG .R [],[.drop]⟩)]
def ajh(k:Nat→aq→Option (Bool×Unit)):Gs:=fun U=>k 5 (bf [(1,ax 1)] (aA 1 aG .R [] U) [.ay])
theorem Pm:Sound Tryz.prog 132 0 H4:=b4 bk 0 (fn:=Tryz.f132) (fns:=[(67,kv)]) ⟨kU,trivial⟩ ajg ajh Np AT (fun k x=>Gt k x.1) (by kernel_rfl) rfl
def H5:Entry:=⟨[aQ (.int .i64)],[bb .bool],AV⟩
theorem Pn:Sound Tryz.prog 133 0 H5:=ct bk 0 (fn:=Tryz.f133) (fns:=[]) trivial (by kernel_rfl)
def XO:Entry:=⟨[aQ (.int .i64)],[ro aL],Ns⟩
theorem aji:Sound Tryz.prog 181 0 XO:=ct bk 0 (fn:=Tryz.f181) (fns:=[]) trivial (by kernel_rfl)
def XP:Entry:=⟨[aQ (.int .i64)],[bb (.int .i64)],Nu⟩
theorem ajj:Sound Tryz.prog 213 0 XP:=ct bk 0 (fn:=Tryz.f213) (fns:=[(67,kv),(133,H5)]) ⟨kU,Pn,trivial⟩ (by kernel_rfl)
def XQ:Entry:=⟨[aQ (.int .i64),aQ (.int .i64)],[bb (.int .i64),bb .bool],Nw⟩
theorem ajk:Sound Tryz.prog 182 0 XQ:=ct bk 0 (fn:=Tryz.f182) (fns:=[(213,XP)]) ⟨ajj,trivial⟩ (by kernel_rfl)
def Po:Entry:=⟨[aQ (.int .i64)],[bb .str],e'⟩
def ajl:List (Nat×bQ):=[(5,⟨[(0,aJ),(3,aJ),(4,aJ)],[],[.drop]⟩)]
def ajm(k:Nat→aq→Option ((aj)×Unit)):Gu:=fun U aa ad=>k 5 (bf [(0,aU U),(3,eM aa),(4,jq ad)] [] [.ay])
theorem XR:Sound Tryz.prog 214 0 Po:=b4 bk 0 (fn:=Tryz.f214) (fns:=[]) trivial ajl ajm AW oX (fun k x=>Gv k x.1) (by kernel_rfl) rfl
def XS:Entry:=⟨[aQ (.sl aO),aQ (.int .i64)],[bb .str],Ny⟩
def ajn:List (Nat×bQ):=[(5,⟨[(0,.cell (.bY aO [])),(1,aJ),(5,aJ),(6,aJ)],[],[.drop,.drop]⟩),(9,⟨[(0,.cell (.bY aO [])),(1,aJ),(5,aJ),(6,aJ)],[],[.drop,.drop]⟩)]
def ajo(k:Nat→aq→Option ((aj)×Unit)):vJ:=⟨fun U aa ad ag=>k 5 (bf [(0,fp aO U),(1,aU aa),(5,eM ad),(6,aU ag)] [] [.ay,.ay]),fun U aa ad ag=>k 9 (bf [(0,fp aO U),(1,aU aa),(5,eM ad),(6,aU ag)] [] [.ay,.ay])⟩
theorem ajp:Sound Tryz.prog 183 0 XS:=b4 bk 0 (fn:=Tryz.f183) (fns:=[(68,Ph),(214,Po)]) ⟨XJ,XR,trivial⟩ ajn ajo VH p5 (fun k x=>Gw k x.1 x.2.1) (by kernel_rfl) rfl
def tj:Entry:=⟨[aQ af],[.val af (.S (.cons .R (.cons (.O .R) .nil)))],oY⟩
def ajq:List (Nat×bQ):=[(3,⟨[(1,.ptr 1),(2,.ptr 2),(3,.ptr 4),(4,aJ)],az 1 af .R []++az 2 af af.own []++az 4 af af.own [],[.drop]⟩)]
def ajr(k:Nat→aq→Option (af.D×Unit)):ye:=fun U aa ad ag=>k 3 (bf [(1,ax 1),(2,ax 2),(3,ax 4),(4,aU U)] (aA 1 af .R [] aa++aA 2 af af.own [] ad++aA 4 af af.own [] ag) [.ay])
theorem wm:Sound Tryz.prog 134 0 tj:=b4 bk 0 (fn:=Tryz.f134) (fns:=[]) trivial ajq ajr AY p6 (fun k x=>AX k x.1) (by kernel_rfl) rfl
def XT:Entry:=⟨[aQ af],[ro af],A0⟩
def ajs:List (Nat×bQ):=[(3,⟨[(1,.ptr 1),(2,.ptr 2),(3,.ptr 4),(4,aJ)],az 1 af .R []++az 2 af af.own []++az 4 af af.own [],[.drop]⟩)]
def ajt(k:Nat→aq→Option (af.D×Unit)):yf:=fun U aa ad ag=>k 3 (bf [(1,ax 1),(2,ax 2),(3,ax 4),(4,aU U)] (aA 1 af .R [] aa++aA 2 af af.own [] ad++aA 4 af af.own [] ag) [.ay])
theorem aju:Sound Tryz.prog 134 0 XT:=b4 bk 0 (fn:=Tryz.f134) (fns:=[]) trivial ajs ajt Nz AZ (fun k x=>VK k x.1) (by kernel_rfl) rfl
def Pp:Entry:=⟨[aQ .str],[bb .bool],GD⟩
def ajv:List (Nat×bQ):=[(4,⟨[(0,aJ),(3,aJ)],[],[.drop]⟩)]
def ajw(k:Nat→aq→Option (Bool×Unit)):GA:=fun U aa=>k 4 (bf [(0,eM U),(3,aU aa)] [] [.ay])
theorem XU:Sound Tryz.prog 283 0 Pp:=b4 bk 0 (fn:=Tryz.f283) (fns:=[(67,kv),(222,HX)]) ⟨kU,O',trivial⟩ ajv ajw GC vK (fun k x=>GB k x.1) (by kernel_rfl) rfl
def H6:Entry:=⟨[aQ aL],[bb .bool],A1⟩
def ajx:List (Nat×bQ):=[(4,⟨[(1,.ptr 1),(3,aJ)],az 1 aL .R [],[.drop]⟩)]
def ajy(k:Nat→aq→Option (Bool×Unit)):GF:=fun U aa=>k 4 (bf [(1,ax 1),(3,aU U)] (aA 1 aL .R [] aa) [.ay])
theorem Pq:Sound Tryz.prog 285 0 H6:=b4 bk 0 (fn:=Tryz.f285) (fns:=[(67,kv)]) ⟨kU,trivial⟩ ajx ajy GH vL (fun k x=>GG k x.1) (by kernel_rfl) rfl
def Pr:Entry:=⟨[aQ aL,aQ (.int .i64)],[bb .bool],vN⟩
def ajz:List (Nat×bQ):=[(5,⟨[(1,aJ),(2,.ptr 1),(5,aJ),(6,aJ)],az 1 aL .R [],[.drop,.drop]⟩)]
def ajA(k:Nat→aq→Option (Bool×Unit)):GI:=fun U aa ad ag=>k 5 (bf [(1,aU U),(2,ax 1),(5,jq aa),(6,aU ad)] (aA 1 aL .R [] ag) [.ay,.ay])
theorem XV:Sound Tryz.prog 260 0 Pr:=b4 bk 0 (fn:=Tryz.f260) (fns:=[(285,H6)]) ⟨Pq,trivial⟩ ajz ajA GK vM (fun k x=>GJ k x.1 x.2.1) (by kernel_rfl) rfl
def tk:Entry:=⟨[aQ aL,aQ J,aQ (.int .i64)],[bb .bool],ks⟩
theorem wo:Sound Tryz.prog 250 0 tk:=ct bk 0 (fn:=Tryz.f250) (fns:=[(67,kv),(260,Pr),(285,H6)]) ⟨kU,XV,Pq,trivial⟩ (by kernel_rfl)
def Ps:Entry:=⟨[aQ af,aQ (.int .i64)],[bb (.int .i64)],GM⟩
def ajB:List (Nat×bQ):=[(2,⟨[(1,aJ),(2,.ptr 1),(5,aJ)],az 1 af .R [],[.drop,.drop]⟩),(5,⟨[(1,aJ),(2,.ptr 1),(5,aJ),(6,aJ)],az 1 af .R [],[.drop,.drop]⟩)]
def ajC(k:Nat→aq→Option (Int×Unit)):vO:=⟨fun U aa ad=>k 2 (bf [(1,aU U),(2,ax 1),(5,aU aa)] (aA 1 af .R [] ad) [.ay,.ay]),fun U aa ad ag=>k 5 (bf [(1,aU U),(2,ax 1),(5,aU aa),(6,aU ad)] (aA 1 af .R [] ag) [.ay,.ay])⟩
theorem XW:Sound Tryz.prog 287 0 Ps:=b4 bk 0 (fn:=Tryz.f287) (fns:=[]) trivial ajB ajC VL kR (fun k x=>GL k x.1 x.2.1) (by kernel_rfl) rfl
def XX:Entry:=⟨[aQ .str],[ro (.sl .str)],A4⟩
def ajD:List (Nat×bQ):=[(4,⟨[(0,aJ),(3,.cell (.ah 1)),(4,aJ),(5,aJ)],[(1,.row .str .R)],[.drop]⟩)]
def ajE(k:Nat→aq→Option (A2)):GN:=fun U aa ad ag=>k 4 (bf [(0,eM U),(3,.aW (.ah 1 none)),(4,aU aa),(5,aU ad)] [(1,.row .str .R 0 ag)] [.ay])
theorem ajF:Sound Tryz.prog 300 0 XX:=b4 bk 0 (fn:=Tryz.f300) (fns:=[]) trivial ajD ajE A3 rj (fun k x=>GO k x.1) (by kernel_rfl) rfl
def XY:Entry:=⟨[aQ af,aQ (.int .i64),aQ .str],[bb (.int .i64)],NB⟩
def ajG:List (Nat×bQ):=[(3,⟨[(2,aJ),(7,.cell (.bY aB [])),(8,aJ)],[],[.drop,.drop,.drop]⟩)]
def ajH(k:Nat→aq→Option (Int×Unit)):GP:=fun U aa ad=>k 3 (bf [(2,eM U),(7,fp aB aa),(8,aU ad)] [] [.ay,.ay,.ay])
theorem ajI:Sound Tryz.prog 301 0 XY:=b4 bk 0 (fn:=Tryz.f301) (fns:=[(187,qd)]) ⟨rF,trivial⟩ ajG ajH GR sZ (fun k x=>GQ k x.1 x.2.1 x.2.2.1) (by kernel_rfl) rfl
def Pt:Entry:=⟨[aQ af,aQ aL,aQ .str,aQ .bool],[bb a6],GX⟩
def ajJ:List (Nat×bQ):=[(4,⟨[(3,aJ),(4,.ptr 1),(5,.ptr 2),(8,.ptr 3),(9,.cell (.av 4)),(10,aJ),(11,aJ)],az 1 af .R []++az 2 aL .R []++az 3 a6 .R []++[(4,.row .str .R)],[.drop,.drop,.drop,.drop]⟩),(21,⟨[(3,aJ),(4,.ptr 1),(5,.ptr 2),(8,.ptr 3),(9,.cell (.av 4)),(10,aJ),(11,aJ),(12,aJ),(13,aJ),(14,aJ),(15,.ptr 5)],az 1 af .R []++az 2 aL .R []++az 3 a6 .R []++[(4,.row .str .R)]++az 5 J .R [],[.drop,.drop,.drop,.drop]⟩),(22,⟨[(3,aJ),(4,.ptr 1),(5,.ptr 2),(8,.ptr 3),(9,.cell (.av 4)),(10,aJ),(11,aJ),(15,.ptr 5)],az 1 af .R []++az 2 aL .R []++az 3 a6 .R []++[(4,.row .str .R)]++az 5 J .R [],[.drop,.drop,.drop,.drop]⟩),(30,⟨[(3,aJ),(4,.ptr 1),(5,.ptr 2),(8,.ptr 3),(9,.cell (.av 4)),(10,aJ),(11,aJ),(12,aJ),(13,aJ),(14,aJ),(15,.ptr 5)],az 1 af .R []++az 2 aL .R []++az 3 a6 .R []++[(4,.row .str .R)]++az 5 J .R [],[.drop,.drop,.drop,.drop]⟩),(27,⟨[(3,aJ),(4,.ptr 1),(5,.ptr 2),(8,.ptr 3),(9,.cell (.av 4)),(10,aJ),(11,aJ),(15,.ptr 5)],az 1 af .R []++az 2 aL .R []++az 3 a6 .R []++[(4,.row .str .R)]++az 5 J .R [],[.drop,.drop,.drop,.drop]⟩)]
def ajK(k:Nat→aq→Option (a6.D×Unit)):p7:=⟨fun U aa ad ag al aE a7 bE cn=>k 4 (bf [(3,jq U),(4,ax 1),(5,ax 2),(8,ax 3),(9,.aW (.ah 4 (some (aa,ad)))),(10,aU ag),(11,aU al)] (aA 1 af .R [] aE++aA 2 aL .R [] a7++aA 3 a6 .R [] bE++[(4,.row .str .R 0 cn)]) [.ay,.ay,.ay,.ay]),fun U aa ad ag al aE a7 bE cn fm kS kT kt=>k 21 (bf [(3,jq U),(4,ax 1),(5,ax 2),(8,ax 3),(9,.aW (.ah 4 (some (aa,ad)))),(10,aU ag),(11,aU al),(12,eM aE),(13,jq a7),(14,aU bE),(15,ax 5)] (aA 1 af .R [] cn++aA 2 aL .R [] fm++aA 3 a6 .R [] kS++[(4,.row .str .R 0 kT)]++aA 5 J .R [] kt) [.ay,.ay,.ay,.ay]),fun U aa ad ag al aE a7 bE cn fm=>k 22 (bf [(3,jq U),(4,ax 1),(5,ax 2),(8,ax 3),(9,.aW (.ah 4 (some (aa,ad)))),(10,aU ag),(11,aU al),(15,ax 5)] (aA 1 af .R [] aE++aA 2 aL .R [] a7++aA 3 a6 .R [] bE++[(4,.row .str .R 0 cn)]++aA 5 J .R [] fm) [.ay,.ay,.ay,.ay]),fun U aa ad ag al aE a7 bE cn fm kS kT kt=>k 30 (bf [(3,jq U),(4,ax 1),(5,ax 2),(8,ax 3),(9,.aW (.ah 4 (some (aa,ad)))),(10,aU ag),(11,aU al),(12,eM aE),(13,jq a7),(14,aU bE),(15,ax 5)] (aA 1 af .R [] cn++aA 2 aL .R [] fm++aA 3 a6 .R [] kS++[(4,.row .str .R 0 kT)]++aA 5 J .R [] kt) [.ay,.ay,.ay,.ay]),fun U aa ad ag al aE a7 bE cn fm=>k 27 (bf [(3,jq U),(4,ax 1),(5,ax 2),(8,ax 3),(9,.aW (.ah 4 (some (aa,ad)))),(10,aU ag),(11,aU al),(15,ax 5)] (aA 1 af .R [] aE++aA 2 aL .R [] a7++aA 3 a6 .R [] bE++[(4,.row .str .R 0 cn)]++aA 5 J .R [] fm) [.ay,.ay,.ay,.ay])⟩
theorem XZ:Sound Tryz.prog 284 0 Pt:=b4 bk 0 (fn:=Tryz.f284) (fns:=[(187,qd),(250,tk),(287,Ps),(300,XX),(301,XY)]) ⟨rF,wo,XW,ajF,ajI,trivial⟩ ajJ ajK VN fx (fun k x=>GS k x.1 x.2.1 x.2.2.1 x.2.2.2.1) (by kernel_rfl) rfl
def Pu:Entry:=⟨[aQ af,aQ aL,aQ .str],[bb a6,bb (.int .i64)],vR⟩
theorem X0:Sound Tryz.prog 248 0 Pu:=ct bk 0 (fn:=Tryz.f248) (fns:=[(283,Pp),(284,Pt)]) ⟨XU,XZ,trivial⟩ (by kernel_rfl)
def qe:Entry:=⟨[aQ af,aQ (.int .i64)],[bb J],fy⟩
theorem rG:Sound Tryz.prog 249 0 qe:=ct bk 0 (fn:=Tryz.f249) (fns:=[(187,qd)]) ⟨rF,trivial⟩ (by kernel_rfl)
def X1:Entry:=⟨[aQ af],[bb (.int .i64)],NF⟩
theorem ajL:Sound Tryz.prog 286 0 X1:=ct bk 0 (fn:=Tryz.f286) (fns:=[(138,HZ),(139,Pg)]) ⟨Pe,XH,trivial⟩ (by kernel_rfl)
def yB:Entry:=⟨[aQ af,.val af (.S (.cons .R (.cons (.O .R) .nil)))],[bb af,bb aF],rk⟩
theorem Bu:Sound Tryz.prog 251 0 yB:=ct bk 0 (fn:=Tryz.f251) (fns:=[(286,X1)]) ⟨ajL,trivial⟩ (by kernel_rfl)
def yC:Entry:=⟨[.val af (.S (.cons .R (.cons (.O .R) .nil))),Ae J],[.val af (.S (.cons .R (.cons (.O .R) .nil)))],oZ⟩
theorem Bv:Sound Tryz.prog 253 0 yC:=ct bk 0 (fn:=Tryz.f253) (fns:=[(187,qd)]) ⟨rF,trivial⟩ (by kernel_rfl)
def H7:Entry:=⟨[.val af (.S (.cons .R (.cons (.O .R) .nil))),aQ (.int .i64),aQ .str,aQ (.int .i64)],[.val af (.S (.cons .R (.cons (.O .R) .nil)))],s5⟩
def ajM:List (Nat×bQ):=[(5,⟨[(2,aJ),(3,aJ),(4,.ptr 1),(8,.ptr 3),(9,.ptr 5),(10,.cell (.ah 6)),(11,aJ),(12,aJ)],az 1 af (.S (.cons .R (.cons (.O .R) .nil))) []++az 3 af af.own []++az 5 J .R [2]++[(6,.row aB .R)],[.drop,.drop,.drop,.drop]⟩),(10,⟨[(2,aJ),(3,aJ),(4,.ptr 1),(8,.ptr 3),(9,.ptr 5),(10,.cell (.ah 6)),(11,aJ),(12,aJ)],az 1 af (.S (.cons .R (.cons (.O .R) .nil))) []++az 3 af af.own []++az 5 J .R [2]++[(6,.row aB .R)],[.drop,.drop,.drop,.drop]⟩),(13,⟨[(4,.ptr 1),(8,.ptr 3),(9,.ptr 5),(10,.cell (.ah 6))],az 1 af (.S (.cons .R (.cons (.O .R) .nil))) []++az 3 af af.own []++az 5 J .R [2]++[(6,.row aB .R)],[.drop,.drop,.drop,.drop]⟩)]
def ajN(k:Nat→aq→Option (af.D×Unit)):s4:=⟨fun U aa ad ag al aE a7 bE=>k 5 (bf [(2,eM U),(3,aU aa),(4,ax 1),(8,ax 3),(9,ax 5),(10,.aW (.ah 6 none)),(11,jq ad),(12,aU ag)] (aA 1 af (.S (.cons .R (.cons (.O .R) .nil))) [] al++aA 3 af af.own [] aE++aA 5 J .R [2] a7++[(6,.row aB .R 0 bE)]) [.ay,.ay,.ay,.ay]),fun U aa ad ag al aE a7 bE=>k 10 (bf [(2,eM U),(3,aU aa),(4,ax 1),(8,ax 3),(9,ax 5),(10,.aW (.ah 6 none)),(11,jq ad),(12,aU ag)] (aA 1 af (.S (.cons .R (.cons (.O .R) .nil))) [] al++aA 3 af af.own [] aE++aA 5 J .R [2] a7++[(6,.row aB .R 0 bE)]) [.ay,.ay,.ay,.ay]),fun U aa ad ag=>k 13 (bf [(4,ax 1),(8,ax 3),(9,ax 5),(10,.aW (.ah 6 none))] (aA 1 af (.S (.cons .R (.cons (.O .R) .nil))) [] U++aA 3 af af.own [] aa++aA 5 J .R [2] ad++[(6,.row aB .R 0 ag)]) [.ay,.ay,.ay,.ay])⟩
theorem Pv:Sound Tryz.prog 252 0 H7:=b4 bk 0 (fn:=Tryz.f252) (fns:=[(249,qe),(253,yC)]) ⟨rG,Bv,trivial⟩ ajM ajN VP iQ (fun k x=>GY k x.1 x.2.1 x.2.2.1 x.2.2.2.1) (by kernel_rfl) rfl
def X2:Entry:=⟨[Ae af,aQ aL,aQ aG],[bb af,bb aF],vT⟩
def ajO:List (Nat×bQ):=[(3,⟨[(3,.ptr 1),(4,.ptr 2),(5,.ptr 3),(6,.ptr 4),(7,.ptr 6)],az 1 af .R []++az 2 aL .R []++az 3 aG .R []++az 4 af af.own []++az 6 aF .R [],[.drop,.drop,.drop]⟩),(14,⟨[(3,.ptr 1),(5,.ptr 2),(6,.ptr 3),(7,.ptr 5),(8,.ptr 6),(10,.ptr 7),(11,.ptr 8)],az 1 af .R []++az 2 aG .R []++az 3 af af.own []++az 5 aF .R []++az 6 a6 .R []++az 7 J .R []++az 8 J J.own [],[.drop,.drop,.drop]⟩),(18,⟨[(3,.ptr 1),(6,.ptr 2),(7,.ptr 4),(8,.ptr 5),(10,.ptr 6),(11,.ptr 7)],az 1 af .R []++az 2 af af.own []++az 4 aF .R []++az 5 a6 .R []++az 6 J .R []++az 7 J J.own [],[.drop,.drop,.drop]⟩),(22,⟨[(3,.ptr 1),(6,.ptr 2),(7,.ptr 4),(8,.ptr 5),(11,.ptr 6)],az 1 af .R []++az 2 af af.own []++az 4 aF .R []++az 5 a6 .R []++az 6 J J.own [],[.drop,.drop,.drop]⟩)]
def ajP(k:Nat→aq→Option (o1)):rl:=⟨fun U aa ad ag al=>k 3 (bf [(3,ax 1),(4,ax 2),(5,ax 3),(6,ax 4),(7,ax 6)] (aA 1 af .R [] U++aA 2 aL .R [] aa++aA 3 aG .R [] ad++aA 4 af af.own [] ag++aA 6 aF .R [] al) [.ay,.ay,.ay]),fun U aa ad ag al aE a7=>k 14 (bf [(3,ax 1),(5,ax 2),(6,ax 3),(7,ax 5),(8,ax 6),(10,ax 7),(11,ax 8)] (aA 1 af .R [] U++aA 2 aG .R [] aa++aA 3 af af.own [] ad++aA 5 aF .R [] ag++aA 6 a6 .R [] al++aA 7 J .R [] aE++aA 8 J J.own [] a7) [.ay,.ay,.ay]),fun U aa ad ag al aE=>k 18 (bf [(3,ax 1),(6,ax 2),(7,ax 4),(8,ax 5),(10,ax 6),(11,ax 7)] (aA 1 af .R [] U++aA 2 af af.own [] aa++aA 4 aF .R [] ad++aA 5 a6 .R [] ag++aA 6 J .R [] al++aA 7 J J.own [] aE) [.ay,.ay,.ay]),fun U aa ad ag al=>k 22 (bf [(3,ax 1),(6,ax 2),(7,ax 4),(8,ax 5),(11,ax 6)] (aA 1 af .R [] U++aA 2 af af.own [] aa++aA 4 aF .R [] ad++aA 5 a6 .R [] ag++aA 6 J J.own [] al) [.ay,.ay,.ay])⟩
theorem ajQ:Sound Tryz.prog 215 0 X2:=b4 bk 0 (fn:=Tryz.f215) (fns:=[(67,kv),(134,tj),(185,Pb),(248,Pu),(249,qe),(250,tk),(251,yB),(252,H7),(253,yC)]) ⟨kU,wm,XC,X0,rG,wo,Bu,Pv,Bv,trivial⟩ ajO ajP VQ j' (fun k x=>GZ k x.1 x.2.1 x.2.2.1) (by kernel_rfl) rfl
def wq:Entry:=⟨[aQ af,aQ aL,aQ .str,aQ .bool],[bb a6],fg⟩
theorem yD:Sound Tryz.prog 254 0 wq:=ct bk 0 (fn:=Tryz.f254) (fns:=[(283,Pp),(284,Pt)]) ⟨XU,XZ,trivial⟩ (by kernel_rfl)
def Pw:Entry:=⟨[aQ aL,aQ J,aQ J],[bb .bool],yh⟩
theorem X3:Sound Tryz.prog 255 0 Pw:=ct bk 0 (fn:=Tryz.f255) (fns:=[(285,H6)]) ⟨Pq,trivial⟩ (by kernel_rfl)
def Px:Entry:=⟨[.val af (.S (.cons .R (.cons (.O .R) .nil))),aQ (.int .i64),aQ .str],[.val af (.S (.cons .R (.cons (.O .R) .nil)))],o2⟩
def ajR:List (Nat×bQ):=[(5,⟨[(2,aJ),(3,.ptr 1),(6,.ptr 3),(7,.ptr 5),(8,aJ),(9,.cell (.ah 6)),(10,aJ)],az 1 af (.S (.cons .R (.cons (.O .R) .nil))) []++az 3 af af.own []++az 5 J .R [2]++[(6,.row aB .R)],[.drop,.drop,.drop]⟩),(16,⟨[(3,.ptr 1),(6,.ptr 3),(8,aJ),(11,.cell (.ah 5)),(12,aJ)],az 1 af (.S (.cons .R (.cons (.O .R) .nil))) []++az 3 af af.own []++[(5,.row J .R)],[.drop,.drop,.drop]⟩)]
def ajS(k:Nat→aq→Option (af.D×Unit)):vV:=⟨fun U aa ad ag al aE a7=>k 5 (bf [(2,eM U),(3,ax 1),(6,ax 3),(7,ax 5),(8,aU aa),(9,.aW (.ah 6 none)),(10,aU ad)] (aA 1 af (.S (.cons .R (.cons (.O .R) .nil))) [] ag++aA 3 af af.own [] al++aA 5 J .R [2] aE++[(6,.row aB .R 0 a7)]) [.ay,.ay,.ay]),fun U aa ad ag al=>k 16 (bf [(3,ax 1),(6,ax 3),(8,aU U),(11,.aW (.ah 5 none)),(12,aU aa)] (aA 1 af (.S (.cons .R (.cons (.O .R) .nil))) [] ad++aA 3 af af.own [] ag++[(5,.row J .R 0 al)]) [.ay,.ay,.ay])⟩
theorem X4:Sound Tryz.prog 256 0 Px:=b4 bk 0 (fn:=Tryz.f256) (fns:=[(137,HY),(249,qe),(253,yC)]) ⟨Pd,rG,Bv,trivial⟩ ajR ajS VR lA (fun k x=>G0 k x.1 x.2.1 x.2.2.1) (by kernel_rfl) rfl
def X5:Entry:=⟨[aQ af,aQ aL,aQ aG],[bb af,bb aF],A'⟩
def ajT:List (Nat×bQ):=[(7,⟨[(3,.ptr 1),(4,.ptr 2),(5,.ptr 3),(6,.ptr 4),(7,.ptr 6),(8,.ptr 7),(9,.ptr 8)],az 1 af .R []++az 2 aL .R []++az 3 aG .R []++az 4 af af.own []++az 6 aF .R []++az 7 a6 .R []++az 8 J .R [],[.drop,.drop,.drop]⟩),(9,⟨[(3,.ptr 1),(4,.ptr 2),(5,.ptr 3),(6,.ptr 4),(7,.ptr 6),(8,.ptr 7),(9,.ptr 8)],az 1 af .R []++az 2 aL .R []++az 3 aG .R []++az 4 af af.own []++az 6 aF .R []++az 7 a6 .R []++az 8 J .R [],[.drop,.drop,.drop]⟩),(11,⟨[(3,.ptr 1),(4,.ptr 2),(6,.ptr 3),(7,.ptr 5),(8,.ptr 6),(9,.ptr 7)],az 1 af .R []++az 2 aL .R []++az 3 af af.own []++az 5 aF .R []++az 6 a6 .R []++az 7 J .R [],[.drop,.drop,.drop]⟩)]
def ajU(k:Nat→aq→Option (rm)):s6:=⟨fun U aa ad ag al aE a7=>k 7 (bf [(3,ax 1),(4,ax 2),(5,ax 3),(6,ax 4),(7,ax 6),(8,ax 7),(9,ax 8)] (aA 1 af .R [] U++aA 2 aL .R [] aa++aA 3 aG .R [] ad++aA 4 af af.own [] ag++aA 6 aF .R [] al++aA 7 a6 .R [] aE++aA 8 J .R [] a7) [.ay,.ay,.ay]),fun U aa ad ag al aE a7=>k 9 (bf [(3,ax 1),(4,ax 2),(5,ax 3),(6,ax 4),(7,ax 6),(8,ax 7),(9,ax 8)] (aA 1 af .R [] U++aA 2 aL .R [] aa++aA 3 aG .R [] ad++aA 4 af af.own [] ag++aA 6 aF .R [] al++aA 7 a6 .R [] aE++aA 8 J .R [] a7) [.ay,.ay,.ay]),fun U aa ad ag al aE=>k 11 (bf [(3,ax 1),(4,ax 2),(6,ax 3),(7,ax 5),(8,ax 6),(9,ax 7)] (aA 1 af .R [] U++aA 2 aL .R [] aa++aA 3 af af.own [] ad++aA 5 aF .R [] ag++aA 6 a6 .R [] al++aA 7 J .R [] aE) [.ay,.ay,.ay])⟩
theorem ajV:Sound Tryz.prog 216 0 X5:=b4 bk 0 (fn:=Tryz.f216) (fns:=[(134,tj),(249,qe),(250,tk),(254,wq),(255,Pw),(256,Px)]) ⟨wm,rG,wo,yD,X3,X4,trivial⟩ ajT ajU VS rn (fun k x=>G4 k x.1 x.2.1 x.2.2.1) (by kernel_rfl) rfl
def Py:Entry:=⟨[aQ af,aQ (.int .i64)],[bb .bool],yi⟩
theorem X6:Sound Tryz.prog 257 0 Py:=ct bk 0 (fn:=Tryz.f257) (fns:=[(187,qd)]) ⟨rF,trivial⟩ (by kernel_rfl)
def X7:Entry:=⟨[aQ af,aQ aL,aQ aG],[bb af,bb aF],G5⟩
theorem ajW:Sound Tryz.prog 217 0 X7:=ct bk 0 (fn:=Tryz.f217) (fns:=[(134,tj),(248,Pu),(249,qe),(250,tk),(251,yB),(252,H7),(254,wq),(257,Py)]) ⟨wm,X0,rG,wo,Bu,Pv,yD,X6,trivial⟩ (by kernel_rfl)
def X8:Entry:=⟨[aQ af,aQ (.int .i64),aQ (.int .i64)],[bb .bool],Ba⟩
def ajX:List (Nat×bQ):=[(2,⟨[(1,aJ),(2,aJ),(3,.ptr 1),(7,aJ)],az 1 af .R [],[.drop,.drop,.drop]⟩)]
def ajY(k:Nat→aq→Option (Bool×Unit)):G6:=fun U aa ad ag=>k 2 (bf [(1,aU U),(2,aU aa),(3,ax 1),(7,aU ad)] (aA 1 af .R [] ag) [.ay,.ay,.ay])
theorem ajZ:Sound Tryz.prog 258 0 X8:=b4 bk 0 (fn:=Tryz.f258) (fns:=[(287,Ps)]) ⟨XW,trivial⟩ ajX ajY G8 vW (fun k x=>G7 k x.1 x.2.1 x.2.2.1) (by kernel_rfl) rfl
def X9:Entry:=⟨[aQ af,aQ aL,aQ aG],[bb af,bb aF],G_⟩
def aj0:List (Nat×bQ):=[(7,⟨[(3,.ptr 1),(4,.ptr 2),(6,.ptr 3),(7,.ptr 5),(8,.ptr 6),(9,.ptr 7)],az 1 af .R []++az 2 aL .R []++az 3 af af.own []++az 5 aF .R []++az 6 a6 .R []++az 7 a6 .R [],[.drop,.drop,.drop]⟩),(18,⟨[(3,.ptr 1),(4,.ptr 2),(6,.ptr 3),(7,.ptr 5),(8,.ptr 6),(9,.ptr 7),(11,.ptr 8),(12,.ptr 9)],az 1 af .R []++az 2 aL .R []++az 3 af af.own []++az 5 aF .R []++az 6 a6 .R []++az 7 a6 .R []++az 8 J .R []++az 9 J .R [],[.drop,.drop,.drop]⟩),(27,⟨[(3,.ptr 1),(6,.ptr 2),(7,.ptr 4),(8,.ptr 5),(9,.ptr 6),(12,.ptr 7),(13,.ptr 8),(14,.ptr 10)],az 1 af .R []++az 2 af af.own []++az 4 aF .R []++az 5 a6 .R []++az 6 a6 .R []++az 7 J .R []++az 8 af (.S (.cons .R (.cons (.O .R) .nil))) []++az 10 J .R [],[.drop,.drop,.drop]⟩),(34,⟨[(3,.ptr 1),(6,.ptr 2),(7,.ptr 4),(8,.ptr 5),(9,.ptr 6),(13,.ptr 7)],az 1 af .R []++az 2 af af.own []++az 4 aF .R []++az 5 a6 .R []++az 6 a6 .R []++az 7 af (.S (.cons .R (.cons (.O .R) .nil))) [],[.drop,.drop,.drop]⟩),(29,⟨[(3,.ptr 1),(6,.ptr 2),(7,.ptr 4),(8,.ptr 5),(9,.ptr 6),(12,.ptr 7),(13,.ptr 8),(14,.ptr 10)],az 1 af .R []++az 2 af af.own []++az 4 aF .R []++az 5 a6 .R []++az 6 a6 .R []++az 7 J .R []++az 8 af (.S (.cons .R (.cons (.O .R) .nil))) []++az 10 J .R [],[.drop,.drop,.drop]⟩)]
def aj1(k:Nat→aq→Option (m2)):p9:=⟨fun U aa ad ag al aE=>k 7 (bf [(3,ax 1),(4,ax 2),(6,ax 3),(7,ax 5),(8,ax 6),(9,ax 7)] (aA 1 af .R [] U++aA 2 aL .R [] aa++aA 3 af af.own [] ad++aA 5 aF .R [] ag++aA 6 a6 .R [] al++aA 7 a6 .R [] aE) [.ay,.ay,.ay]),fun U aa ad ag al aE a7 bE=>k 18 (bf [(3,ax 1),(4,ax 2),(6,ax 3),(7,ax 5),(8,ax 6),(9,ax 7),(11,ax 8),(12,ax 9)] (aA 1 af .R [] U++aA 2 aL .R [] aa++aA 3 af af.own [] ad++aA 5 aF .R [] ag++aA 6 a6 .R [] al++aA 7 a6 .R [] aE++aA 8 J .R [] a7++aA 9 J .R [] bE) [.ay,.ay,.ay]),fun U aa ad ag al aE a7 bE=>k 27 (bf [(3,ax 1),(6,ax 2),(7,ax 4),(8,ax 5),(9,ax 6),(12,ax 7),(13,ax 8),(14,ax 10)] (aA 1 af .R [] U++aA 2 af af.own [] aa++aA 4 aF .R [] ad++aA 5 a6 .R [] ag++aA 6 a6 .R [] al++aA 7 J .R [] aE++aA 8 af (.S (.cons .R (.cons (.O .R) .nil))) [] a7++aA 10 J .R [] bE) [.ay,.ay,.ay]),fun U aa ad ag al aE=>k 34 (bf [(3,ax 1),(6,ax 2),(7,ax 4),(8,ax 5),(9,ax 6),(13,ax 7)] (aA 1 af .R [] U++aA 2 af af.own [] aa++aA 4 aF .R [] ad++aA 5 a6 .R [] ag++aA 6 a6 .R [] al++aA 7 af (.S (.cons .R (.cons (.O .R) .nil))) [] aE) [.ay,.ay,.ay]),fun U aa ad ag al aE a7 bE=>k 29 (bf [(3,ax 1),(6,ax 2),(7,ax 4),(8,ax 5),(9,ax 6),(12,ax 7),(13,ax 8),(14,ax 10)] (aA 1 af .R [] U++aA 2 af af.own [] aa++aA 4 aF .R [] ad++aA 5 a6 .R [] ag++aA 6 a6 .R [] al++aA 7 J .R [] aE++aA 8 af (.S (.cons .R (.cons (.O .R) .nil))) [] a7++aA 10 J .R [] bE) [.ay,.ay,.ay])⟩
theorem aj2:Sound Tryz.prog 218 0 X9:=b4 bk 0 (fn:=Tryz.f218) (fns:=[(134,tj),(249,qe),(250,tk),(251,yB),(252,H7),(254,wq),(255,Pw),(256,Px),(258,X8)]) ⟨wm,rG,wo,Bu,Pv,yD,X3,X4,ajZ,trivial⟩ aj0 aj1 VU gJ (fun k x=>G9 k x.1 x.2.1 x.2.2.1) (by kernel_rfl) rfl
def X_:Entry:=⟨[aQ .str,aQ (.int .i64),aQ .str],[bb .str],s8⟩
def aj3:List (Nat×bQ):=[(2,⟨[(1,aJ),(2,aJ),(7,.cell (.ah 1))],[(1,.row (.int .u8) .R)],[.drop,.drop,.drop]⟩),(5,⟨[(1,aJ),(2,aJ),(7,.cell (.ah 1)),(8,aJ)],[(1,.row (.int .u8) .R)],[.drop,.drop,.drop]⟩)]
def aj4(k:Nat→aq→Option ((aj)×Unit)):s7:=⟨fun U aa ad=>k 2 (bf [(1,aU U),(2,eM aa),(7,.aW (.ah 1 none))] [(1,.row (.int .u8) .R 0 ad)] [.ay,.ay,.ay]),fun U aa ad ag=>k 5 (bf [(1,aU U),(2,eM aa),(7,.aW (.ah 1 none)),(8,aU ad)] [(1,.row (.int .u8) .R 0 ag)] [.ay,.ay,.ay])⟩
theorem aj5:Sound Tryz.prog 259 0 X_:=b4 bk 0 (fn:=Tryz.f259) (fns:=[]) trivial aj3 aj4 VW nY (fun k x=>G' k x.1 x.2.1 x.2.2.1) (by kernel_rfl) rfl
def X':Entry:=⟨[aQ af,aQ aL,aQ aG],[bb af,bb aF],yj⟩
def aj6:List (Nat×bQ):=[(12,⟨[(3,.ptr 1),(5,.ptr 2),(6,.ptr 3),(7,.ptr 5),(9,.ptr 6),(10,aJ)],az 1 af .R []++az 2 aG .R []++az 3 af af.own []++az 5 aF .R []++az 6 J .R [],[.drop,.drop,.drop]⟩),(23,⟨[(3,.ptr 1),(6,.ptr 2),(7,.ptr 4),(9,.ptr 5)],az 1 af .R []++az 2 af af.own []++az 4 aF .R []++az 5 J .R [],[.drop,.drop,.drop]⟩)]
def aj7(k:Nat→aq→Option (vX)):vY:=⟨fun U aa ad ag al aE=>k 12 (bf [(3,ax 1),(5,ax 2),(6,ax 3),(7,ax 5),(9,ax 6),(10,aU U)] (aA 1 af .R [] aa++aA 2 aG .R [] ad++aA 3 af af.own [] ag++aA 5 aF .R [] al++aA 6 J .R [] aE) [.ay,.ay,.ay]),fun U aa ad ag=>k 23 (bf [(3,ax 1),(6,ax 2),(7,ax 4),(9,ax 5)] (aA 1 af .R [] U++aA 2 af af.own [] aa++aA 4 aF .R [] ad++aA 5 J .R [] ag) [.ay,.ay,.ay])⟩
theorem aj8:Sound Tryz.prog 219 0 X':=b4 bk 0 (fn:=Tryz.f219) (fns:=[(134,tj),(249,qe),(250,tk),(251,yB),(253,yC),(254,wq),(259,X_)]) ⟨wm,rG,wo,Bu,Bv,yD,aj5,trivial⟩ aj6 aj7 VX ku (fun k x=>Ha k x.1 x.2.1 x.2.2.1) (by kernel_rfl) rfl
def Ya:Entry:=⟨[aQ af,aQ aL,aQ aG],[bb af,bb aF],s_⟩
def aj9:List (Nat×bQ):=[(8,⟨[(3,.ptr 1),(4,.ptr 2),(5,.ptr 3),(6,.ptr 4),(7,.ptr 6),(8,aJ)],az 1 af .R []++az 2 aL .R []++az 3 aG .R []++az 4 af af.own []++az 6 aF .R [],[.drop,.drop,.drop]⟩),(12,⟨[(3,.ptr 1),(4,.ptr 2),(5,.ptr 3),(6,.ptr 4),(7,.ptr 6)],az 1 af .R []++az 2 aL .R []++az 3 aG .R []++az 4 af af.own []++az 6 aF .R [],[.drop,.drop,.drop]⟩),(24,⟨[(3,.ptr 1),(4,.ptr 2),(5,.ptr 3),(6,.ptr 4),(7,.ptr 6),(10,.ptr 7)],az 1 af .R []++az 2 aL .R []++az 3 aG .R []++az 4 af af.own []++az 6 aF .R []++az 7 J .R [],[.drop,.drop,.drop]⟩),(32,⟨[(3,.ptr 1),(6,.ptr 2),(7,.ptr 4),(10,.ptr 5)],az 1 af .R []++az 2 af af.own []++az 4 aF .R []++az 5 J .R [],[.drop,.drop,.drop]⟩)]
def aj_(k:Nat→aq→Option (o3)):rp:=⟨fun U aa ad ag al aE=>k 8 (bf [(3,ax 1),(4,ax 2),(5,ax 3),(6,ax 4),(7,ax 6),(8,jq U)] (aA 1 af .R [] aa++aA 2 aL .R [] ad++aA 3 aG .R [] ag++aA 4 af af.own [] al++aA 6 aF .R [] aE) [.ay,.ay,.ay]),fun U aa ad ag al=>k 12 (bf [(3,ax 1),(4,ax 2),(5,ax 3),(6,ax 4),(7,ax 6)] (aA 1 af .R [] U++aA 2 aL .R [] aa++aA 3 aG .R [] ad++aA 4 af af.own [] ag++aA 6 aF .R [] al) [.ay,.ay,.ay]),fun U aa ad ag al aE=>k 24 (bf [(3,ax 1),(4,ax 2),(5,ax 3),(6,ax 4),(7,ax 6),(10,ax 7)] (aA 1 af .R [] U++aA 2 aL .R [] aa++aA 3 aG .R [] ad++aA 4 af af.own [] ag++aA 6 aF .R [] al++aA 7 J .R [] aE) [.ay,.ay,.ay]),fun U aa ad ag=>k 32 (bf [(3,ax 1),(6,ax 2),(7,ax 4),(10,ax 5)] (aA 1 af .R [] U++aA 2 af af.own [] aa++aA 4 aF .R [] ad++aA 5 J .R [] ag) [.ay,.ay,.ay])⟩
theorem aj':Sound Tryz.prog 220 0 Ya:=b4 bk 0 (fn:=Tryz.f220) (fns:=[(67,kv),(134,tj),(249,qe),(251,yB),(253,yC),(254,wq),(260,Pr)]) ⟨kU,wm,rG,Bu,Bv,yD,XV,trivial⟩ aj9 aj_ VY h6 (fun k x=>s9 k x.1 x.2.1 x.2.2.1) (by kernel_rfl) rfl
def Yb:Entry:=⟨[aQ af,aQ (.int .i64)],[bb (.int .i64)],He⟩
def aka:List (Nat×bQ):=[(8,⟨[(2,.ptr 1),(5,aJ),(6,aJ),(7,aJ)],az 1 af .R [],[.drop,.drop]⟩)]
def akb(k:Nat→aq→Option (Int×Unit)):Hb:=fun U aa ad ag=>k 8 (bf [(2,ax 1),(5,aU U),(6,aU aa),(7,aU ad)] (aA 1 af .R [] ag) [.ay,.ay])
theorem akc:Sound Tryz.prog 261 0 Yb:=b4 bk 0 (fn:=Tryz.f261) (fns:=[(137,HY),(187,qd),(257,Py)]) ⟨Pd,rF,X6,trivial⟩ aka akb Hd vZ (fun k x=>Hc k x.1 x.2.1) (by kernel_rfl) rfl
def Yc:Entry:=⟨[aQ af,aQ aL,aQ aG],[bb aF],lB⟩
def akd:List (Nat×bQ):=[(5,⟨[(3,.ptr 1),(4,.ptr 2),(5,.ptr 3),(6,.ptr 4)],az 1 af .R []++az 2 aL .R []++az 3 aG .R []++az 4 aF .R [],[.drop,.drop,.drop]⟩),(6,⟨[(3,.ptr 1),(4,.ptr 2),(5,.ptr 3),(6,.ptr 4),(7,.ptr 5)],az 1 af .R []++az 2 aL .R []++az 3 aG .R []++az 4 aF .R []++az 5 a6 .R [],[.drop,.drop,.drop]⟩),(20,⟨[(5,.ptr 1),(6,.ptr 2),(8,.ptr 3),(10,.cell (.ah 4)),(11,aJ)],az 1 aG .R []++az 2 aF .R []++az 3 J .R []++[(4,.row (.int .u8) .R)],[.drop,.drop,.drop]⟩),(35,⟨[(6,.ptr 1),(8,.ptr 2),(12,aJ),(13,aJ)],az 1 aF .R []++az 2 J .R [],[.drop,.drop,.drop]⟩),(39,⟨[(6,.ptr 1),(8,.ptr 2),(12,aJ),(13,aJ)],az 1 aF .R []++az 2 J .R [],[.drop,.drop,.drop]⟩)]
def ake(k:Nat→aq→Option (aF.D×Unit)):nZ:=⟨fun U aa ad ag=>k 5 (bf [(3,ax 1),(4,ax 2),(5,ax 3),(6,ax 4)] (aA 1 af .R [] U++aA 2 aL .R [] aa++aA 3 aG .R [] ad++aA 4 aF .R [] ag) [.ay,.ay,.ay]),fun U aa ad ag al=>k 6 (bf [(3,ax 1),(4,ax 2),(5,ax 3),(6,ax 4),(7,ax 5)] (aA 1 af .R [] U++aA 2 aL .R [] aa++aA 3 aG .R [] ad++aA 4 aF .R [] ag++aA 5 a6 .R [] al) [.ay,.ay,.ay]),fun U aa ad ag al=>k 20 (bf [(5,ax 1),(6,ax 2),(8,ax 3),(10,.aW (.ah 4 none)),(11,aU U)] (aA 1 aG .R [] aa++aA 2 aF .R [] ad++aA 3 J .R [] ag++[(4,.row (.int .u8) .R 0 al)]) [.ay,.ay,.ay]),fun U aa ad ag=>k 35 (bf [(6,ax 1),(8,ax 2),(12,eM U),(13,aU aa)] (aA 1 aF .R [] ad++aA 2 J .R [] ag) [.ay,.ay,.ay]),fun U aa ad ag=>k 39 (bf [(6,ax 1),(8,ax 2),(12,eM U),(13,aU aa)] (aA 1 aF .R [] ad++aA 2 J .R [] ag) [.ay,.ay,.ay])⟩
theorem akf:Sound Tryz.prog 221 0 Yc:=b4 bk 0 (fn:=Tryz.f221) (fns:=[(67,kv),(138,HZ),(188,Pf),(214,Po),(249,qe),(250,tk),(254,wq),(261,Yb)]) ⟨kU,Pe,XG,XR,rG,wo,yD,akc,trivial⟩ akd ake VZ fM (fun k x=>rq k x.1 x.2.1 x.2.2.1) (by kernel_rfl) rfl
def Pz:Entry:=⟨[Ae af,Ae aL,aQ aG],[bb af,bb aF],o5⟩
def akg:List (Nat×bQ):=[(8,⟨[(3,.ptr 1),(4,.ptr 2),(5,.ptr 3),(6,.ptr 4),(7,.ptr 6),(19,aJ)],az 1 af .R []++az 2 aL .R []++az 3 aG .R []++az 4 af af.own []++az 6 aF .R [],[.drop,.drop,.drop]⟩),(11,⟨[(3,.ptr 1),(4,.ptr 2),(5,.ptr 3),(6,.ptr 4),(7,.ptr 6),(19,aJ)],az 1 af .R []++az 2 aL .R []++az 3 aG .R []++az 4 af af.own []++az 6 aF .R [],[.drop,.drop,.drop]⟩),(19,⟨[(3,.ptr 1),(4,.ptr 2),(5,.ptr 3),(6,.ptr 4),(7,.ptr 6),(19,aJ)],az 1 af .R []++az 2 aL .R []++az 3 aG .R []++az 4 af af.own []++az 6 aF .R [],[.drop,.drop,.drop]⟩)]
def akh(k:Nat→aq→Option (rr)):tb:=⟨fun U aa ad ag al aE=>k 8 (bf [(3,ax 1),(4,ax 2),(5,ax 3),(6,ax 4),(7,ax 6),(19,aU U)] (aA 1 af .R [] aa++aA 2 aL .R [] ad++aA 3 aG .R [] ag++aA 4 af af.own [] al++aA 6 aF .R [] aE) [.ay,.ay,.ay]),fun U aa ad ag al aE=>k 11 (bf [(3,ax 1),(4,ax 2),(5,ax 3),(6,ax 4),(7,ax 6),(19,aU U)] (aA 1 af .R [] aa++aA 2 aL .R [] ad++aA 3 aG .R [] ag++aA 4 af af.own [] al++aA 6 aF .R [] aE) [.ay,.ay,.ay]),fun U aa ad ag al aE=>k 19 (bf [(3,ax 1),(4,ax 2),(5,ax 3),(6,ax 4),(7,ax 6),(19,aU U)] (aA 1 af .R [] aa++aA 2 aL .R [] ad++aA 3 aG .R [] ag++aA 4 af af.own [] al++aA 6 aF .R [] aE) [.ay,.ay,.ay])⟩
theorem Yd:Sound Tryz.prog 184 0 Pz:=b4 bk 0 (fn:=Tryz.f184) (fns:=[(132,H4),(215,X2),(216,X5),(217,X7),(218,X9),(219,X'),(220,Ya),(221,Yc)]) ⟨Pm,ajQ,ajV,ajW,aj2,aj8,aj',akf,trivial⟩ akg akh V0 Bf (fun k x=>tc k x.1 x.2.1 x.2.2.1) (by kernel_rfl) rfl
def Ye:Entry:=⟨[.val aR (.S (.cons .R (.cons .R (.cons (.O .R) (.cons (.O .R) .nil))))),aQ (.int .i64),aQ aG],[.val aR (.S (.cons .R (.cons .R (.cons (.O .R) (.cons (.O .R) .nil))))),bb aF],Hj⟩
def aki:List (Nat×bQ):=[(10,⟨[(3,.ptr 1),(5,.ptr 4),(6,.ptr 5),(7,.ptr 9),(8,.ptr 10)],az 1 aR (.S (.cons .R (.cons .R (.cons (.O .R) (.cons (.O .R) .nil))))) []++az 4 aG .R []++az 5 aR aR.own []++az 9 aF .R []++az 10 aL aL.own [],[.drop,.drop,.drop]⟩),(19,⟨[(3,.ptr 1),(5,.ptr 4),(6,.ptr 5),(7,.ptr 9),(8,.ptr 10)],az 1 aR (.S (.cons .R (.cons .R (.cons (.O .R) (.cons (.O .R) .nil))))) []++az 4 aG .R []++az 5 aR aR.own []++az 9 aF .R []++az 10 aL aL.own [],[.drop,.drop,.drop]⟩)]
def akj(k:Nat→aq→Option (v7)):v8:=⟨fun U aa ad ag al=>k 10 (bf [(3,ax 1),(5,ax 4),(6,ax 5),(7,ax 9),(8,ax 10)] (aA 1 aR (.S (.cons .R (.cons .R (.cons (.O .R) (.cons (.O .R) .nil))))) [] U++aA 4 aG .R [] aa++aA 5 aR aR.own [] ad++aA 9 aF .R [] ag++aA 10 aL aL.own [] al) [.ay,.ay,.ay]),fun U aa ad ag al=>k 19 (bf [(3,ax 1),(5,ax 4),(6,ax 5),(7,ax 9),(8,ax 10)] (aA 1 aR (.S (.cons .R (.cons .R (.cons (.O .R) (.cons (.O .R) .nil))))) [] U++aA 4 aG .R [] aa++aA 5 aR aR.own [] ad++aA 9 aF .R [] ag++aA 10 aL aL.own [] al) [.ay,.ay,.ay])⟩
theorem akk:Sound Tryz.prog 131 0 Ye:=b4 bk 0 (fn:=Tryz.f131) (fns:=[(132,H4),(133,H5),(181,XO),(182,XQ),(183,XS),(184,Pz)]) ⟨Pm,Pn,aji,ajk,ajp,Yd,trivial⟩ aki akj V1 p_ (fun k x=>Hi k x.1 x.2.1 x.2.2.1) (by kernel_rfl) rfl
def PA:Entry:=⟨[.val aR (.S (.cons .R (.cons .R (.cons (.O .R) (.cons (.O .R) .nil))))),aQ (.int .i64),aQ (.int .i64),aQ aG,aQ (.int .i64)],[.val aR (.S (.cons .R (.cons .R (.cons (.O .R) (.cons (.O .R) .nil))))),bb aF,bb .bool],td⟩
def akl:List (Nat×bQ):=[(10,⟨[(1,aJ),(2,aJ),(4,aJ),(5,.ptr 1),(8,.ptr 4),(10,.ptr 5),(11,.ptr 9),(14,.ptr 10),(15,aJ)],az 1 aR (.S (.cons .R (.cons .R (.cons (.O .R) (.cons (.O .R) .nil))))) []++az 4 aG .R []++az 5 aR aR.own []++az 9 aF .R []++az 10 aF .R [],[.drop,.drop,.drop,.drop,.drop]⟩),(11,⟨[(1,aJ),(2,aJ),(4,aJ),(5,.ptr 1),(8,.ptr 4),(10,.ptr 5),(11,.ptr 9),(14,.ptr 10)],az 1 aR (.S (.cons .R (.cons .R (.cons (.O .R) (.cons (.O .R) .nil))))) []++az 4 aG .R []++az 5 aR aR.own []++az 9 aF .R []++az 10 aF .R [],[.drop,.drop,.drop,.drop,.drop]⟩),(12,⟨[(1,aJ),(2,aJ),(4,aJ),(5,.ptr 1),(10,.ptr 4),(11,.ptr 8),(14,.ptr 9)],az 1 aR (.S (.cons .R (.cons .R (.cons (.O .R) (.cons (.O .R) .nil))))) []++az 4 aR aR.own []++az 8 aF .R []++az 9 aF .R [],[.drop,.drop,.drop,.drop,.drop]⟩)]
def akm(k:Nat→aq→Option (m4)):ru:=⟨fun U aa ad ag al aE a7 bE cn=>k 10 (bf [(1,aU U),(2,aU aa),(4,aU ad),(5,ax 1),(8,ax 4),(10,ax 5),(11,ax 9),(14,ax 10),(15,jq ag)] (aA 1 aR (.S (.cons .R (.cons .R (.cons (.O .R) (.cons (.O .R) .nil))))) [] al++aA 4 aG .R [] aE++aA 5 aR aR.own [] a7++aA 9 aF .R [] bE++aA 10 aF .R [] cn) [.ay,.ay,.ay,.ay,.ay]),fun U aa ad ag al aE a7 bE=>k 11 (bf [(1,aU U),(2,aU aa),(4,aU ad),(5,ax 1),(8,ax 4),(10,ax 5),(11,ax 9),(14,ax 10)] (aA 1 aR (.S (.cons .R (.cons .R (.cons (.O .R) (.cons (.O .R) .nil))))) [] ag++aA 4 aG .R [] al++aA 5 aR aR.own [] aE++aA 9 aF .R [] a7++aA 10 aF .R [] bE) [.ay,.ay,.ay,.ay,.ay]),fun U aa ad ag al aE a7=>k 12 (bf [(1,aU U),(2,aU aa),(4,aU ad),(5,ax 1),(10,ax 4),(11,ax 8),(14,ax 9)] (aA 1 aR (.S (.cons .R (.cons .R (.cons (.O .R) (.cons (.O .R) .nil))))) [] ag++aA 4 aR aR.own [] al++aA 8 aF .R [] aE++aA 9 aF .R [] a7) [.ay,.ay,.ay,.ay,.ay])⟩
theorem Yf:Sound Tryz.prog 64 0 PA:=b4 bk 0 (fn:=Tryz.f64) (fns:=[(57,H0),(67,kv),(116,Pk),(130,XN),(131,Ye),(132,H4),(133,H5)]) ⟨Pl,kU,XM,ajf,akk,Pm,Pn,trivial⟩ akl akm V3 rv (fun k x=>Hk k x.1 x.2.1 x.2.2.1 x.2.2.2.1 x.2.2.2.2.1) (by kernel_rfl) rfl
def PB:Entry:=⟨[Ae aR],[.val aR (.S (.cons .R (.cons .R (.cons (.O .R) (.cons (.O .R) .nil)))))],yl⟩
theorem Yg:Sound Tryz.prog 65 0 PB:=ct bk 0 (fn:=Tryz.f65) (fns:=[(134,tj)]) ⟨wm,trivial⟩ (by kernel_rfl)
def Yh:Entry:=⟨[aQ aR,aQ (.int .i64),aQ (.int .i64),aQ aG,aQ (.int .i64)],[bb aR,bb aF,bb .bool],Hl⟩
theorem akn:Sound Tryz.prog 13 0 Yh:=ct bk 0 (fn:=Tryz.f13) (fns:=[(14,Pj),(64,PA),(65,PB)]) ⟨XL,Yf,Yg,trivial⟩ (by kernel_rfl)
def Yi:Entry:=⟨[aQ (.sl (.int .u8))],[bb .bool],N8⟩
theorem ako:Sound Tryz.prog 10 0 Yi:=ct bk 0 (fn:=Tryz.f10) (fns:=[]) trivial (by kernel_rfl)
def Yj:Entry:=⟨[aQ (.sl (.int .u8))],[.new bh .R],N9⟩
def akp:List (Nat×bQ):=[(3,⟨[(0,.cell (.bY (.int .u8) [])),(3,aJ),(4,aJ)],[],[.drop]⟩)]
def akq(k:Nat→aq→Option (bh.D×Unit)):Hm:=fun U aa ad=>k 3 (bf [(0,fp (.int .u8) U),(3,aU aa),(4,aU ad)] [] [.ay])
theorem akr:Sound Tryz.prog 53 0 Yj:=b4 bk 0 (fn:=Tryz.f53) (fns:=[]) trivial akp akq ym yn (fun k x=>V5 k x.1) (by kernel_rfl) rfl
def PC:Entry:=⟨[.«mut» bh .R .R],[bb (.int .i64)],ry⟩
theorem Yk:Sound Tryz.prog 117 0 PC:=ct bk 0 (fn:=Tryz.f117) (fns:=[]) trivial (by kernel_rfl)
def kV:Entry:=⟨[.«mut» bh .R .R,aQ (.int .i64)],[bb (.int .i64)],eB⟩
theorem lF:Sound Tryz.prog 58 0 kV:=ct bk 0 (fn:=Tryz.f58) (fns:=[(117,PC)]) ⟨Yk,trivial⟩ (by kernel_rfl)
def tl:Entry:=⟨[.«mut» bh .R .R,tW (.sl (.int .i64))],[bb (.int .i64)],fz⟩
theorem wu:Sound Tryz.prog 56 0 tl:=ct bk 0 (fn:=Tryz.f56) (fns:=[(58,kV)]) ⟨lF,trivial⟩ (by kernel_rfl)
def qf:Entry:=⟨[.«mut» bh .R .R,aQ (.int .i64)],[bb .bool],lC⟩
theorem rH:Sound Tryz.prog 59 0 qf:=ct bk 0 (fn:=Tryz.f59) (fns:=[(58,kV)]) ⟨lF,trivial⟩ (by kernel_rfl)
def Bw:Entry:=⟨[.«mut» bh .R .R,tW (.sl .str)],[bb .str],rz⟩
theorem H8:Sound Tryz.prog 152 0 Bw:=ct bk 0 (fn:=Tryz.f152) (fns:=[(58,kV)]) ⟨lF,trivial⟩ (by kernel_rfl)
def Yl:Entry:=⟨[.«mut» bh .R .R,aQ (.int .i64)],[bb .str],Bh⟩
def aks:List (Nat×bQ):=[(4,⟨[(0,.ptr 1),(5,.cell (.ah 2)),(6,aJ),(7,aJ)],az 1 bh .R []++[(2,.row (.int .u8) .R)],[.ptr 1,.drop]⟩),(11,⟨[(0,.ptr 1),(5,.cell (.ah 2)),(6,aJ),(7,aJ),(8,aJ)],az 1 bh .R []++[(2,.row (.int .u8) .R)],[.ptr 1,.drop]⟩)]
def akt(k:Nat→aq→Option (v_)):v':=⟨fun U aa ad ag=>k 4 (bf [(0,ax 1),(5,.aW (.ah 2 none)),(6,aU U),(7,aU aa)] (aA 1 bh .R [] ad++[(2,.row (.int .u8) .R 0 ag)]) [ax 1,.ay]),fun U aa ad ag al=>k 11 (bf [(0,ax 1),(5,.aW (.ah 2 none)),(6,aU U),(7,aU aa),(8,aU ad)] (aA 1 bh .R [] ag++[(2,.row (.int .u8) .R 0 al)]) [ax 1,.ay])⟩
theorem aku:Sound Tryz.prog 157 0 Yl:=b4 bk 0 (fn:=Tryz.f157) (fns:=[(58,kV),(117,PC)]) ⟨lF,Yk,trivial⟩ aks akt V' te (fun k x=>Hn k x.1 x.2.1) (by kernel_rfl) rfl
def PD:Entry:=⟨[.«mut» bh .R .R],[bb .str],yp⟩
theorem Ym:Sound Tryz.prog 202 0 PD:=ct bk 0 (fn:=Tryz.f202) (fns:=[(152,Bw)]) ⟨H8,trivial⟩ (by kernel_rfl)
def PE:Entry:=⟨[.«mut» bh .R .R],[bb .str],Hp⟩
def akv:List (Nat×bQ):=[(3,⟨[(0,.ptr 1),(3,aJ),(4,aJ)],az 1 bh .R [],[.ptr 1]⟩),(16,⟨[(0,.ptr 1),(3,aJ)],az 1 bh .R [],[.ptr 1]⟩),(17,⟨[(0,.ptr 1),(3,aJ)],az 1 bh .R [],[.ptr 1]⟩)]
def akw(k:Nat→aq→Option (rA)):tf:=⟨fun U aa ad=>k 3 (bf [(0,ax 1),(3,eM U),(4,aU aa)] (aA 1 bh .R [] ad) [ax 1]),fun U aa=>k 16 (bf [(0,ax 1),(3,eM U)] (aA 1 bh .R [] aa) [ax 1]),fun U aa=>k 17 (bf [(0,ax 1),(3,eM U)] (aA 1 bh .R [] aa) [ax 1])⟩
theorem Yn:Sound Tryz.prog 168 0 PE:=b4 bk 0 (fn:=Tryz.f168) (fns:=[(58,kV),(59,qf),(152,Bw),(202,PD)]) ⟨lF,rH,H8,Ym,trivial⟩ akv akw Wb o6 (fun k x=>Ho k x.1) (by kernel_rfl) rfl
def Yo:Entry:=⟨[.«mut» bh .R .R,aQ af],[bb .str],yr⟩
def akx:List (Nat×bQ):=[(6,⟨[(0,.ptr 1),(3,.ptr 2),(5,aJ),(6,aJ),(7,aJ)],az 1 bh .R []++az 2 af .R [],[.ptr 1,.drop]⟩)]
def aky(k:Nat→aq→Option (Bj)):Hq:=fun U aa ad ag al=>k 6 (bf [(0,ax 1),(3,ax 2),(5,eM U),(6,aU aa),(7,aU ad)] (aA 1 bh .R [] ag++aA 2 af .R [] al) [ax 1,.ay])
theorem akz:Sound Tryz.prog 167 0 Yo:=b4 bk 0 (fn:=Tryz.f167) (fns:=[(58,kV),(59,qf),(168,PE),(187,qd),(202,PD)]) ⟨lF,rH,Yn,rF,Ym,trivial⟩ akx aky yq wa (fun k x=>Hr k x.1 x.2.1) (by kernel_rfl) rfl
def PF:Entry:=⟨[.«mut» bh .R .R,aQ af],[bb aG],Ht⟩
def akA:List (Nat×bQ):=[(2,⟨[(0,.ptr 1),(3,.ptr 2),(4,.ptr 3),(5,.ptr 4)],az 1 bh .R []++az 2 af .R []++az 3 aG .R []++az 4 aG .R [],[.ptr 1,.drop]⟩),(6,⟨[(0,.ptr 1),(4,.ptr 2),(5,.ptr 3)],az 1 bh .R []++az 2 aG .R []++az 3 aG .R [],[.ptr 1,.drop]⟩),(7,⟨[(0,.ptr 1),(3,.ptr 2),(4,.ptr 3),(5,.ptr 4),(14,aJ)],az 1 bh .R []++az 2 af .R []++az 3 aG .R []++az 4 aG .R [],[.ptr 1,.drop]⟩),(32,⟨[(0,.ptr 1),(4,.ptr 2),(5,.ptr 3)],az 1 bh .R []++az 2 aG .R []++az 3 aG .R [],[.ptr 1,.drop]⟩),(19,⟨[(0,.ptr 1),(3,.ptr 2),(4,.ptr 3),(5,.ptr 4)],az 1 bh .R []++az 2 af .R []++az 3 aG .R []++az 4 aG .R [],[.ptr 1,.drop]⟩),(20,⟨[(0,.ptr 1),(4,.ptr 2),(5,.ptr 3),(14,aJ)],az 1 bh .R []++az 2 aG .R []++az 3 aG .R [],[.ptr 1,.drop]⟩)]
def akB(k:Nat→aq→Option (lD)):o7:=⟨fun U aa ad ag=>k 2 (bf [(0,ax 1),(3,ax 2),(4,ax 3),(5,ax 4)] (aA 1 bh .R [] U++aA 2 af .R [] aa++aA 3 aG .R [] ad++aA 4 aG .R [] ag) [ax 1,.ay]),fun U aa ad=>k 6 (bf [(0,ax 1),(4,ax 2),(5,ax 3)] (aA 1 bh .R [] U++aA 2 aG .R [] aa++aA 3 aG .R [] ad) [ax 1,.ay]),fun U aa ad ag al=>k 7 (bf [(0,ax 1),(3,ax 2),(4,ax 3),(5,ax 4),(14,aU U)] (aA 1 bh .R [] aa++aA 2 af .R [] ad++aA 3 aG .R [] ag++aA 4 aG .R [] al) [ax 1,.ay]),fun U aa ad=>k 32 (bf [(0,ax 1),(4,ax 2),(5,ax 3)] (aA 1 bh .R [] U++aA 2 aG .R [] aa++aA 3 aG .R [] ad) [ax 1,.ay]),fun U aa ad ag=>k 19 (bf [(0,ax 1),(3,ax 2),(4,ax 3),(5,ax 4)] (aA 1 bh .R [] U++aA 2 af .R [] aa++aA 3 aG .R [] ad++aA 4 aG .R [] ag) [ax 1,.ay]),fun U aa ad ag=>k 20 (bf [(0,ax 1),(4,ax 2),(5,ax 3),(14,aU U)] (aA 1 bh .R [] aa++aA 2 aG .R [] ad++aA 3 aG .R [] ag) [ax 1,.ay])⟩
theorem Yp:Sound Tryz.prog 118 0 PF:=b4 bk 0 (fn:=Tryz.f118) (fns:=[(56,tl),(58,kV),(59,qf),(152,Bw),(157,Yl),(167,Yo),(168,PE)]) ⟨wu,lF,rH,H8,aku,akz,Yn,trivial⟩ akA akB Wc lE (fun k x=>Hs k x.1 x.2.1) (by kernel_rfl) rfl
def PG:Entry:=⟨[.«mut» bh .R .R,aQ af],[bb aG],rB⟩
theorem Yq:Sound Tryz.prog 60 0 PG:=ct bk 0 (fn:=Tryz.f60) (fns:=[(56,tl),(58,kV),(59,qf),(118,PF)]) ⟨wu,lF,rH,Yp,trivial⟩ (by kernel_rfl)
def PH:Entry:=⟨[],[ro af],Hu⟩
theorem Yr:Sound Tryz.prog 153 0 PH:=ct bk 0 (fn:=Tryz.f153) (fns:=[]) trivial (by kernel_rfl)
def Ys:Entry:=⟨[],[bb af],On⟩
theorem akC:Sound Tryz.prog 153 0 Ys:=ct bk 0 (fn:=Tryz.f153) (fns:=[]) trivial (by kernel_rfl)
def Yt:Entry:=⟨[],[.val aR (.S (.cons .R (.cons .R (.cons (.O .R) (.cons (.O .R) .nil)))))],Oo⟩
theorem akD:Sound Tryz.prog 96 0 Yt:=ct bk 0 (fn:=Tryz.f96) (fns:=[(153,PH)]) ⟨Yr,trivial⟩ (by kernel_rfl)
def Yu:Entry:=⟨[aQ (.int .i64)],[bb (.int .i64)],Ot⟩
theorem akE:Sound Tryz.prog 140 0 Yu:=ct bk 0 (fn:=Tryz.f140) (fns:=[]) trivial (by kernel_rfl)
def Yv:Entry:=⟨[.«mut» bh .R .R,aQ (.int .i64)],[.val aR (.S (.cons .R (.cons .R (.cons (.O .R) (.cons (.O .R) .nil)))))],Ov⟩
def akF:List (Nat×bQ):=[(3,⟨[(0,.ptr 1),(1,aJ),(4,.ptr 2),(5,.ptr 6),(6,aJ)],az 1 bh .R []++az 2 aR aR.own []++az 6 aR (.S (.cons .R (.cons .R (.cons (.O .R) (.cons (.O .R) .nil))))) [],[.ptr 1,.drop]⟩),(7,⟨[(0,.ptr 1),(1,aJ),(4,.ptr 2),(5,.ptr 6),(6,aJ)],az 1 bh .R []++az 2 aR aR.own []++az 6 aR (.S (.cons .R (.cons .R (.cons (.O .R) (.cons (.O .R) .nil))))) [],[.ptr 1,.drop]⟩)]
def akG(k:Nat→aq→Option (wb)):wc:=⟨fun U aa ad ag al=>k 3 (bf [(0,ax 1),(1,aU U),(4,ax 2),(5,ax 6),(6,aU aa)] (aA 1 bh .R [] ad++aA 2 aR aR.own [] ag++aA 6 aR (.S (.cons .R (.cons .R (.cons (.O .R) (.cons (.O .R) .nil))))) [] al) [ax 1,.ay]),fun U aa ad ag al=>k 7 (bf [(0,ax 1),(1,aU U),(4,ax 2),(5,ax 6),(6,aU aa)] (aA 1 bh .R [] ad++aA 2 aR aR.own [] ag++aA 6 aR (.S (.cons .R (.cons .R (.cons (.O .R) (.cons (.O .R) .nil))))) [] al) [ax 1,.ay])⟩
theorem akH:Sound Tryz.prog 113 0 Yv:=b4 bk 0 (fn:=Tryz.f113) (fns:=[(57,H0),(58,kV),(59,qf),(60,PG),(64,PA),(65,PB),(140,Yu),(96,Yt)]) ⟨Pl,lF,rH,Yq,Yf,Yg,akE,akD,trivial⟩ akF akG We rC (fun k x=>Hv k x.1 x.2.1) (by kernel_rfl) rfl
def Yw:Entry:=⟨[.«mut» bh .R .R],[ro aL],Hy⟩
theorem akI:Sound Tryz.prog 200 0 Yw:=ct bk 0 (fn:=Tryz.f200) (fns:=[(58,kV)]) ⟨lF,trivial⟩ (by kernel_rfl)
def Yx:Entry:=⟨[.«mut» bh .R .R],[bb aG],Hz⟩
theorem akJ:Sound Tryz.prog 201 0 Yx:=ct bk 0 (fn:=Tryz.f201) (fns:=[(118,PF),(153,Ys)]) ⟨Yp,akC,trivial⟩ (by kernel_rfl)
def Yy:Entry:=⟨[.«mut» bh .R .R,aQ (.int .i64)],[ro af],Oy⟩
def akK:List (Nat×bQ):=[(5,⟨[(0,.ptr 1),(4,.ptr 2),(5,.ptr 4),(6,aJ)],az 1 bh .R []++az 2 af af.own []++az 4 af .R [],[.ptr 1,.drop]⟩)]
def akL(k:Nat→aq→Option (yt)):Bk:=fun U aa ad ag=>k 5 (bf [(0,ax 1),(4,ax 2),(5,ax 4),(6,aU U)] (aA 1 bh .R [] aa++aA 2 af af.own [] ad++aA 4 af .R [] ag) [ax 1,.ay])
theorem akM:Sound Tryz.prog 166 0 Yy:=b4 bk 0 (fn:=Tryz.f166) (fns:=[(56,tl),(58,kV),(153,PH),(184,Pz),(200,Yw),(201,Yx),(134,XT)]) ⟨wu,lF,Yr,Yd,akI,akJ,aju,trivial⟩ akK akL yu we (fun k x=>HA k x.1 x.2.1) (by kernel_rfl) rfl
def Yz:Entry:=⟨[.«mut» bh .R .R,aQ (.int .i64)],[ro af],OB⟩
theorem akN:Sound Tryz.prog 114 0 Yz:=ct bk 0 (fn:=Tryz.f114) (fns:=[(56,tl),(58,kV),(59,qf),(152,Bw),(166,Yy)]) ⟨wu,lF,rH,H8,akM,trivial⟩ (by kernel_rfl)
def YA:Entry:=⟨[.«mut» bh .R .R,aQ (.int .i64)],[ro (.sl aO)],OC⟩
def akO:List (Nat×bQ):=[(4,⟨[(0,.ptr 1),(5,.cell (.ah 2)),(6,aJ),(7,aJ)],az 1 bh .R []++[(2,.row aO .R)],[.ptr 1,.drop]⟩)]
def akP(k:Nat→aq→Option (o8)):Bl:=fun U aa ad ag=>k 4 (bf [(0,ax 1),(5,.aW (.ah 2 none)),(6,aU U),(7,aU aa)] (aA 1 bh .R [] ad++[(2,.row aO .R 0 ag)]) [ax 1,.ay])
theorem akQ:Sound Tryz.prog 115 0 YA:=b4 bk 0 (fn:=Tryz.f115) (fns:=[(56,tl),(58,kV),(59,qf)]) ⟨wu,lF,rH,trivial⟩ akO akP yw wg (fun k x=>HC k x.1 x.2.1) (by kernel_rfl) rfl
def YB:Entry:=⟨[.«mut» bh .R .R,aQ (.int .i64)],[.val aR (.S (.cons .R (.cons .R (.cons (.O .R) (.cons (.O .R) .nil)))))],OF⟩
theorem akR:Sound Tryz.prog 54 0 YB:=ct bk 0 (fn:=Tryz.f54) (fns:=[(56,tl),(58,kV),(59,qf),(113,Yv),(114,Yz),(115,YA)]) ⟨wu,lF,rH,akH,akN,akQ,trivial⟩ (by kernel_rfl)
def YC:Entry:=⟨[aQ (.sl (.int .u8)),aQ (.int .i64)],[bb (.int .i64)],OH⟩
theorem akS:Sound Tryz.prog 55 0 YC:=ct bk 0 (fn:=Tryz.f55) (fns:=[]) trivial (by kernel_rfl)
def YD:Entry:=⟨[aQ (.sl (.int .u8))],[bb aR,bb (.int .i64),bb (.int .i64),bb aG,bb (.int .i64)],OJ⟩
theorem akT:Sound Tryz.prog 11 0 YD:=ct bk 0 (fn:=Tryz.f11) (fns:=[(53,Yj),(54,YB),(55,YC),(56,tl),(57,H0),(58,kV),(59,qf),(60,PG)]) ⟨akr,akR,akS,wu,Pl,lF,rH,Yq,trivial⟩ (by kernel_rfl)
def YE:Entry:=⟨[aQ af,aQ af],[bb .bool],OK⟩
def akU:List (Nat×bQ):=[(4,⟨[(2,.ptr 1),(3,.ptr 2),(5,aJ)],az 1 af .R []++az 2 af .R [],[.drop,.drop]⟩),(11,⟨[(2,.ptr 1),(3,.ptr 2),(5,aJ),(6,.ptr 3),(7,.ptr 4),(8,aJ)],az 1 af .R []++az 2 af .R []++az 3 J .R []++az 4 J .R [],[.drop,.drop]⟩)]
def akV(k:Nat→aq→Option (Bool×Unit)):wh:=⟨fun U aa ad=>k 4 (bf [(2,ax 1),(3,ax 2),(5,aU U)] (aA 1 af .R [] aa++aA 2 af .R [] ad) [.ay,.ay]),fun U aa ad ag al aE=>k 11 (bf [(2,ax 1),(3,ax 2),(5,aU U),(6,ax 3),(7,ax 4),(8,aU aa)] (aA 1 af .R [] ad++aA 2 af .R [] ag++aA 3 J .R [] al++aA 4 J .R [] aE) [.ay,.ay])⟩
theorem akW:Sound Tryz.prog 70 0 YE:=b4 bk 0 (fn:=Tryz.f70) (fns:=[]) trivial akU akV Wk qc (fun k x=>HD k x.1 x.2.1) (by kernel_rfl) rfl
def YF:Entry:=⟨[aQ aR,aQ aR],[bb .bool],Bn⟩
def akX:List (Nat×bQ):=[(4,⟨[(2,.ptr 1),(3,.ptr 2),(5,aJ)],az 1 aR .R []++az 2 aR .R [],[.drop,.drop]⟩),(9,⟨[(2,.ptr 1),(3,.ptr 2),(6,aJ)],az 1 aR .R []++az 2 aR .R [],[.drop,.drop]⟩)]
def akY(k:Nat→aq→Option (Bool×Unit)):wi:=⟨fun U aa ad=>k 4 (bf [(2,ax 1),(3,ax 2),(5,aU U)] (aA 1 aR .R [] aa++aA 2 aR .R [] ad) [.ay,.ay]),fun U aa ad=>k 9 (bf [(2,ax 1),(3,ax 2),(6,aU U)] (aA 1 aR .R [] aa++aA 2 aR .R [] ad) [.ay,.ay])⟩
theorem akZ:Sound Tryz.prog 15 0 YF:=b4 bk 0 (fn:=Tryz.f15) (fns:=[(70,YE)]) ⟨akW,trivial⟩ akX akY Wl rD (fun k x=>HE k x.1 x.2.1) (by kernel_rfl) rfl
def yE:Entry:=⟨[aQ (.sl (.int .u8))],[bb .bool],Wm⟩
def ak0:List (Nat×bQ):=[(17,⟨[(3,.ptr 1),(8,.ptr 2),(20,aJ)],az 1 aR .R []++az 2 aR aR.own [],[.drop]⟩)]
def ak1(k:Nat→aq→Option (Bool×Unit)):HH:=fun U aa ad=>k 17 (bf [(3,ax 1),(8,ax 2),(20,aU U)] (aA 1 aR .R [] aa++aA 2 aR aR.own [] ad) [.ay])
theorem ak2:Sound Tryz.prog 3 0 yE:=b4 bk 0 (fn:=Tryz.f3) (fns:=[(10,Yi),(11,YD),(12,XB),(13,Yh),(14,Pj),(15,YF)]) ⟨ako,akT,aiK,akn,XL,akZ,trivial⟩ ak0 ak1 yx tg (fun k x=>HI k x.1) (by kernel_rfl) rfl
end
end Go.LM.kO
