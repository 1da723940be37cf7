/- Each function keeps its contract. Printed by a program. Conditions: each theorem's own hypotheses. -/
import Derived.Test.YtlkbjdmfbadhaaaGreatDoorOVa
import Derived.Test.YtlkbjdmfbadhaaaGreatDoorOLmd
import Derived.Test.YtlkbjdmfbadhaaaGreatDoorChecked
import Derived.Test.YtlkbjdmfbadhaaaGreatDoorOIn
set_option linter.unusedVariables false
set_option linter.unusedSimpArgs false
namespace Go.LM.ks
noncomputable section
open Go.Proofs
abbrev sv:bg:=.S (.cons .R (.cons .R (.cons .R (.cons .R (.cons .R (.cons .R (.cons (.O .R) (.cons .R (.cons .R .nil)))))))))
abbrev ajz:bg:=.S (.cons .R (.cons (.O sv) .nil))
abbrev cB:bg:=.S (.cons ajz (.cons .R (.cons .R .nil)))
def tab:List (Nat×ad):=[(3,.int .i64),(4,.bool),(5,.int .u8),(9,.str),(22,.sl (.int .u8)),(24,.sl J),(26,ag),(27,.sl aJ),(28,.sl aZ),(30,aS),(32,aL),(36,an),(42,aJ),(43,.sl an),(45,.sl fy),(48,.sl an),(55,.sl J),(57,ag),(58,.sl aJ),(59,.sl aZ),(61,aS),(62,aL),(74,.sl (.int .i64)),(76,fy),(84,an),(89,.sl aQ),(94,aQ),(111,aZ),(125,an),(148,.sl aC),(150,J),(167,aiX),(183,.sl .bool),(187,aC),(192,an),(194,aZ),(197,aJ),(203,.sl .str),(224,aM),(233,kt),(236,.sl aC),(238,J),(255,aO),(265,a7),(281,aC)]
def mV:List Nat:=[15,16,17,105,174,231,246,247,253,302,317]
def eqs:List Nat:=[32,36,42,62,76,84,94,111,125,187,192,194,197,233,265,281]
theorem Lp:vg Tryz.prog tab=true:=by kernel_rfl
theorem Lq:vh Tryz.prog mV=true:=by kernel_rfl
theorem Lr:vi Tryz.prog tab eqs=true:=by kernel_rfl
theorem mix:Tryz.prog.follows .mixedOrders=true:=by kernel_rfl
def bk:lF Tryz.prog:=⟨tab,mV,eqs,Lp,Lq,Lr,mix⟩
set_option maxRecDepth 100000
abbrev jK:bg:=.S (.cons .R (.cons .R (.cons (.O .R) (.cons (.O .R) .nil))))
abbrev h5:bg:=.S (.cons .R (.cons (.O .R) .nil))
abbrev bl:ad:=.int .i64
abbrev au6:Type:=List (Nat×ib)
abbrev a'(i:Nat)(e:Entry):Prop:=Sound Tryz.prog i 0 e
abbrev b3(α:Type):Type:=Nat→az→Option α
abbrev dY:List jI:=[.drop,.drop]
abbrev ew:List jI:=[.drop,.drop,.drop]
abbrev oy:List jI:=[.drop,.drop,.drop,.drop]
abbrev Re:List jI:=[.drop,.drop,.drop,.drop,.drop]
abbrev dZ:List a_:=[.bB,.bB]
abbrev ez:List a_:=[.bB,.bB,.bB]
abbrev oz:List a_:=[.bB,.bB,.bB,.bB]
abbrev Rf:List a_:=[.bB,.bB,.bB,.bB,.bB]
abbrev di:List c4:=[b1 bl]
abbrev dq:List c4:=[b1 .bool]
def kx:Entry:=⟨[aH bl,aH bl,aH bl],dq,dO⟩
theorem kY:a' 119 kx:=b4 bk 0 (fn:=Tryz.f119) (fns:=[]) trivial (by kernel_rfl)
def Zg:Entry:=⟨[aH (.sl aJ)],dq,NT⟩
def ajA(k:b3 (Bool×Unit)):FA:=fun U aa ae ai=>k 2 (bd [(0,dx aJ U),(5,dx aJ aa),(6,aN ae),(7,aN ai)] [] [.bB])
theorem ajB:a' 121 Zg:=b0 bk 0 (fn:=Tryz.f121) (fns:=[(119,kx)]) ⟨kY,trivial⟩ [(2,⟨[(0,.cell (.bG aJ [])),(5,.cell (.bG aJ [])),(6,aF),(7,aF)],[],[.drop]⟩)] ajA FC we (fun k x=>FB k x.1) (by kernel_rfl) rfl
def Zh:Entry:=⟨[aH (.int .u8)],dq,NU⟩
theorem ajC:a' 230 Zh:=b4 bk 0 (fn:=Tryz.f230) (fns:=[]) trivial (by kernel_rfl)
def Rg:Entry:=⟨[aH .str],dq,By⟩
def ajD(k:b3 (Bool×Unit)):FD:=fun U aa ae=>k 2 (bd [(0,eQ U),(5,aN aa),(6,aN ae)] [] [.bB])
theorem Zi:a' 203 Rg:=b0 bk 0 (fn:=Tryz.f203) (fns:=[(119,kx),(230,Zh)]) ⟨kY,ajC,trivial⟩ [(2,⟨[(0,aF),(5,aF),(6,aF)],[],[.drop]⟩)] ajD FF wg (fun k x=>FE k x.1) (by kernel_rfl) rfl
def pN:Entry:=⟨[gn ag,aH bl],[.p8 J],gy⟩
def ajE(k:b3 Bz):FG:=fun U aa ae ai=>k 2 (bd [(0,.dA (qw []) (aU ag .R [] U 0) 0),(1,aN aa),(10,aN ae),(11,aN ai)] [] dZ)
theorem qR:a' 205 pN:=b0 bk 0 (fn:=Tryz.f205) (fns:=[]) trivial [(2,⟨[(0,.dA [] (tW ag .R [] 0)),(1,aF),(10,aF),(11,aF)],[],dY⟩)] ajE FI wh (fun k x=>FH k x.1 x.2.1) (by kernel_rfl) rfl
def JT:Entry:=⟨[y_ ag,aH bl],[.opt 0 1 J],zc⟩
def ajF(k:b3 (Int×ag.D×Unit)):FJ:=fun U aa ae ai=>k 2 (bd [(0,aE 1),(1,aN U),(10,aN aa),(11,aN ae)] (aI 1 ag ag.own [] ai) [aE 1,.bB])
theorem Rh:a' 205 JT:=b0 bk 0 (fn:=Tryz.f205) (fns:=[]) trivial [(2,⟨[(0,.ptr 1),(1,aF),(10,aF),(11,aF)],aG 1 ag ag.own [],[.ptr 1,.drop]⟩)] ajF FL wi (fun k x=>FK k x.1 x.2.1) (by kernel_rfl) rfl
def Zj:Entry:=⟨[aH (.sl bl),aH bl],di,NV⟩
def ajG(k:b3 (Int×Unit)):FM:=fun U aa ae ai=>k 2 (bd [(0,dx bl U),(1,aN aa),(7,aN ae),(8,aN ai)] [] dZ)
theorem ajH:a' 206 Zj:=b0 bk 0 (fn:=Tryz.f206) (fns:=[]) trivial [(2,⟨[(0,.cell (.bG bl [])),(1,aF),(7,aF),(8,aF)],[],dY⟩)] ajG FO wj (fun k x=>FN k x.1 x.2.1) (by kernel_rfl) rfl
def JU:Entry:=⟨[aH (.sl bl),aH bl],dq,wk⟩
theorem Ri:a' 171 JU:=b4 bk 0 (fn:=Tryz.f171) (fns:=[(206,Zj)]) ⟨ajH,trivial⟩ (by kernel_rfl)
def Rj:Entry:=⟨[gn ag,aH bl],[ro (.sl bl)],zd⟩
def ajI(k:b3 ((List Int)×Unit)):wm:=⟨fun U aa ae ai=>k 4 (bd [(0,.dA (qw []) (aU ag .R [] U 0) 0),(5,.aU (.af 1 none)),(6,.aU (.af 2 none)),(7,aN aa)] [(1,.row bl .R 0 ae),(2,.row bl .R 0 ai)] dZ),fun U aa ae ai aq ay aW=>k 9 (bd [(0,.dA (qw []) (aU ag .R [] U 0) 0),(5,.aU (.af 1 none)),(6,.aU (.af 2 none)),(7,aN aa),(31,dx aC ae),(32,aN ai),(33,aN aq)] [(1,.row bl .R 0 ay),(2,.row bl .R 0 aW)] dZ)⟩
theorem Zk:a' 170 Rj:=b0 bk 0 (fn:=Tryz.f170) (fns:=[(171,JU),(205,pN)]) ⟨Ri,qR,trivial⟩ [(4,⟨[(0,.dA [] (tW ag .R [] 0)),(5,.cell (.af 1)),(6,.cell (.af 2)),(7,aF)],[(1,.row bl .R),(2,.row bl .R)],dY⟩),(9,⟨[(0,.dA [] (tW ag .R [] 0)),(5,.cell (.af 1)),(6,.cell (.af 2)),(7,aF),(31,.cell (.bG aC [])),(32,aF),(33,aF)],[(1,.row bl .R),(2,.row bl .R)],dY⟩)] ajI Xk nt (fun k x=>FP k x.1 x.2.1) (by kernel_rfl) rfl
def Rk:Entry:=⟨[gn ag,aH bl],di,BD⟩
def ajJ(k:b3 (Int×Unit)):wo:=⟨fun U aa ae ai aq=>k 3 (bd [(1,aN U),(5,aN aa),(13,dx J ae),(14,aN ai),(15,aN aq)] [] dZ),fun U aa ae ai aq ay aW bq=>k 6 (bd [(1,aN U),(5,aN aa),(13,dx J ae),(14,aN ai),(15,aN aq),(20,dx aC ay),(21,aN aW),(22,aN bq)] [] dZ)⟩
theorem Zl:a' 172 Rk:=b0 bk 0 (fn:=Tryz.f172) (fns:=[]) trivial [(3,⟨[(1,aF),(5,aF),(13,.cell (.bG J [])),(14,aF),(15,aF)],[],dY⟩),(6,⟨[(1,aF),(5,aF),(13,.cell (.bG J [])),(14,aF),(15,aF),(20,.cell (.bG aC [])),(21,aF),(22,aF)],[],dY⟩)] ajJ Xl qx (fun k x=>FQ k x.1 x.2.1) (by kernel_rfl) rfl
def Rl:Entry:=⟨[gn ag],di,wu⟩
def ajK(k:b3 (Int×Unit)):FR:=fun U aa ae ai=>k 3 (bd [(3,aN U),(9,dx J aa),(10,aN ae),(11,aN ai)] [] [.bB])
theorem Zm:a' 173 Rl:=b0 bk 0 (fn:=Tryz.f173) (fns:=[]) trivial [(3,⟨[(3,aF),(9,.cell (.bG J [])),(10,aF),(11,aF)],[],[.drop]⟩)] ajK FU wq (fun k x=>FT k x.1) (by kernel_rfl) rfl
def Rm:Entry:=⟨[gn ag,aH bl],[b1 bl,b1 bl],BE⟩
def ajL(k:b3 (Int×Int×Unit)):FV:=fun U aa ae ai aq=>k 4 (bd [(0,.dA (qw []) (aU ag .R [] U 0) 0),(6,aN aa),(7,.aU (.af 1 none)),(14,.aU (.af 1 none)),(15,aN ae),(16,aN ai)] [(1,.row bl .R 0 aq)] dZ)
theorem Zn:a' 208 Rm:=b0 bk 0 (fn:=Tryz.f208) (fns:=[(170,Rj),(205,pN)]) ⟨Zk,qR,trivial⟩ [(4,⟨[(0,.dA [] (tW ag .R [] 0)),(6,aF),(7,.cell (.af 1)),(14,.cell (.af 1)),(15,aF),(16,aF)],[(1,.row bl .R)],dY⟩)] ajL FX rR (fun k x=>FW k x.1 x.2.1) (by kernel_rfl) rfl
def Zo:Entry:=⟨[gn ag,aH J],dq,NY⟩
theorem ajM:a' 175 Zo:=b4 bk 0 (fn:=Tryz.f175) (fns:=[(208,Rm)]) ⟨Zn,trivial⟩ (by kernel_rfl)
def Zp:Entry:=⟨[aH (.sl J),.fn 1 0,gn ag],di,NZ⟩
def ajN(k:b3 (Int×Unit)):FY:=fun U aa ae ai=>k 2 (bd [(0,dx J U),(1,.fn 175 [.dA [] [.int .i64 aa.1,.bG J [] none aa.2.1] 0] []),(7,aN ae),(8,aN ai)] [] ez)
theorem ajO:Sound Tryz.prog 207 175 Zp:=b0 bk 175 (fn:=Tryz.f207) (fns:=[(175,Zo)]) ⟨ajM,trivial⟩ [(2,⟨[(0,.cell (.bG J [])),(1,.x' [[.keep,.bG J []]] []),(7,aF),(8,aF)],[],ew⟩)] ajN F2 wv (fun k x=>FZ k x.1 x.2.1) (by kernel_rfl) rfl
def Zq:Entry:=⟨[aH (.sl J),.fn 1 0,gn ag],dq,F3⟩
theorem ajP:Sound Tryz.prog 174 175 Zq:=b4 bk 175 (fn:=Tryz.f174) (fns:=[(175000207,Zp)]) ⟨ajO,trivial⟩ (by kernel_rfl)
def Zr:Entry:=⟨[aH ag],[ro ag],tX⟩
def ajQ(k:b3 (ag.D×Unit)):ze:=fun U aa ae ai aq=>k 3 (bd [(2,aE 1),(3,aE 3),(10,dx J U),(11,aN aa),(12,aN ae)] (aI 1 ag ag.own [] ai++aI 3 ag ag.own [] aq) [.bB])
theorem ajR:a' 123 Zr:=b0 bk 0 (fn:=Tryz.f123) (fns:=[]) trivial [(3,⟨[(2,.ptr 1),(3,.ptr 3),(10,.cell (.bG J [])),(11,aF),(12,aF)],aG 1 ag ag.own []++aG 3 ag ag.own [],[.drop]⟩)] ajQ F5 wx (fun k x=>F4 k x.1) (by kernel_rfl) rfl
def Zs:Entry:=⟨[gn aS,aH bl],dq,N1⟩
def ajS(k:b3 (Bool×Unit)):wy:=⟨fun U aa ae ai aq=>k 2 (bd [(0,.dA (qw []) (aU aS .R [] U 0) 0),(1,aN aa),(12,dx aJ ae),(13,aN ai),(14,aN aq)] [] dZ),fun U aa ae ai=>k 8 (bd [(1,aN U),(26,dx aZ aa),(27,aN ae),(28,aN ai)] [] dZ)⟩
theorem ajT:a' 124 Zs:=b0 bk 0 (fn:=Tryz.f124) (fns:=[]) trivial [(2,⟨[(0,.dA [] (tW aS .R [] 0)),(1,aF),(12,.cell (.bG aJ [])),(13,aF),(14,aF)],[],dY⟩),(8,⟨[(1,aF),(26,.cell (.bG aZ [])),(27,aF),(28,aF)],[],dY⟩)] ajS Xp tY (fun k x=>Xo k x.1 x.2.1) (by kernel_rfl) rfl
def Rn:Entry:=⟨[gn aS,aH bl],[b1 bl,b1 .bool],F9⟩
def ajU(k:b3 (Int×Bool×Unit)):F8:=fun U aa ae=>k 2 (bd [(0,.dA (qw []) (aU aS .R [] U 0) 0),(1,aN aa),(6,aN ae)] [] dZ)
theorem Zt:a' 129 Rn:=b0 bk 0 (fn:=Tryz.f129) (fns:=[]) trivial [(2,⟨[(0,.dA [] (tW aS .R [] 0)),(1,aF),(6,aF)],[],dY⟩)] ajU zf zg (fun k x=>Xq k x.1 x.2.1) (by kernel_rfl) rfl
def Zu:Entry:=⟨[gn aS,aH bl],[b1 aZ],N3⟩
theorem ajV:a' 125 Zu:=b4 bk 0 (fn:=Tryz.f125) (fns:=[(129,Rn)]) ⟨Zt,trivial⟩ (by kernel_rfl)
def zI:Entry:=⟨[aH aL],dq,wA⟩
def ajW(k:b3 (Bool×Unit)):wz:=⟨fun U aa ae=>k 3 (bd [(1,aE 1),(3,j6 U),(4,j6 aa)] (aI 1 aL .R [] ae) [.bB]),fun U=>k 5 (bd [(1,aE 1)] (aI 1 aL .R [] U) [.bB])⟩
theorem Cs:a' 127 zI:=b0 bk 0 (fn:=Tryz.f127) (fns:=[(119,kx)]) ⟨kY,trivial⟩ [(3,⟨[(1,.ptr 1),(3,aF),(4,aF)],aG 1 aL .R [],[.drop]⟩),(5,⟨[(1,.ptr 1)],aG 1 aL .R [],[.drop]⟩)] ajW N4 Ga (fun k x=>F_ k x.1) (by kernel_rfl) rfl
def JV:Entry:=⟨[aH bl],dq,BF⟩
theorem Ro:a' 128 JV:=b4 bk 0 (fn:=Tryz.f128) (fns:=[]) trivial (by kernel_rfl)
def uC:Entry:=⟨[aH bl],[b1 an],eK⟩
theorem xE:a' 176 uC:=b4 bk 0 (fn:=Tryz.f176) (fns:=[]) trivial (by kernel_rfl)
def Zv:Entry:=⟨[aH bl],di,N6⟩
theorem ajX:a' 209 Zv:=b4 bk 0 (fn:=Tryz.f209) (fns:=[(119,kx),(128,JV)]) ⟨kY,Ro,trivial⟩ (by kernel_rfl)
def Zw:Entry:=⟨[aH bl,aH bl],[b1 bl,b1 .bool],N8⟩
theorem ajY:a' 177 Zw:=b4 bk 0 (fn:=Tryz.f177) (fns:=[(209,Zv)]) ⟨ajX,trivial⟩ (by kernel_rfl)
def Zx:Entry:=⟨[aH bl],[ro aM],N_⟩
theorem ajZ:a' 178 Zx:=b4 bk 0 (fn:=Tryz.f178) (fns:=[]) trivial (by kernel_rfl)
def Rp:Entry:=⟨[aH bl],[b1 .str],wC⟩
def aj0(k:b3 ((aj)×Unit)):wB:=⟨fun U aa ae=>k 4 (bd [(0,aN U),(3,eQ aa),(4,aN ae)] [] [.bB]),fun U aa ae ai=>k 7 (bd [(0,aN U),(3,eQ aa),(4,aN ae),(5,aN ai)] [] [.bB])⟩
theorem Zy:a' 210 Rp:=b0 bk 0 (fn:=Tryz.f210) (fns:=[(119,kx)]) ⟨kY,trivial⟩ [(4,⟨[(0,aF),(3,aF),(4,aF)],[],[.drop]⟩),(7,⟨[(0,aF),(3,aF),(4,aF),(5,aF)],[],[.drop]⟩)] aj0 Xu nu (fun k x=>Xt k x.1) (by kernel_rfl) rfl
def Zz:Entry:=⟨[aH (.sl aJ),aH bl],[b1 .str],Ob⟩
def aj1(k:b3 ((aj)×Unit)):wD:=⟨fun U aa ae ai=>k 5 (bd [(0,dx aJ U),(1,aN aa),(5,eQ ae),(6,aN ai)] [] dZ),fun U aa ae ai aq ay aW=>k 11 (bd [(0,dx aJ U),(1,aN aa),(5,eQ ae),(6,aN ai),(49,.aU (.af 1 none)),(50,aN aq),(51,aN ay)] [(1,.row bl .R 0 aW)] dZ)⟩
theorem aj2:a' 179 Zz:=b0 bk 0 (fn:=Tryz.f179) (fns:=[(121,Zg),(210,Rp)]) ⟨ajB,Zy,trivial⟩ [(5,⟨[(0,.cell (.bG aJ [])),(1,aF),(5,aF),(6,aF)],[],dY⟩),(11,⟨[(0,.cell (.bG aJ [])),(1,aF),(5,aF),(6,aF),(49,.cell (.af 1)),(50,aF),(51,aF)],[(1,.row bl .R)],dY⟩)] aj1 Xv oo (fun k x=>Gb k x.1 x.2.1) (by kernel_rfl) rfl
def ZA:Entry:=⟨[aH bl],dq,Xw⟩
theorem aj3:a' 233 ZA:=b4 bk 0 (fn:=Tryz.f233) (fns:=[(119,kx)]) ⟨kY,trivial⟩ (by kernel_rfl)
def ZB:Entry:=⟨[aH (.sl bl),.fn 0 0],di,Od⟩
def aj4(k:b3 (Int×Unit)):Ge:=fun U aa ae=>k 2 (bd [(0,dx bl U),(1,.fn 233 [] []),(7,aN aa),(8,aN ae)] [] dZ)
theorem aj5:Sound Tryz.prog 266 233 ZB:=b0 bk 233 (fn:=Tryz.f266) (fns:=[(233,ZA)]) ⟨aj3,trivial⟩ [(2,⟨[(0,.cell (.bG bl [])),(1,.same),(7,aF),(8,aF)],[],dY⟩)] aj4 Gg wE (fun k x=>Gf k x.1) (by kernel_rfl) rfl
def ZC:Entry:=⟨[aH (.sl bl),.fn 0 0],dq,Of⟩
theorem aj6:Sound Tryz.prog 232 233 ZC:=b4 bk 233 (fn:=Tryz.f232) (fns:=[(233000266,ZB)]) ⟨aj5,trivial⟩ (by kernel_rfl)
def Ct:Entry:=⟨[aH aM],dq,zh⟩
theorem JW:a' 211 Ct:=b4 bk 0 (fn:=Tryz.f211) (fns:=[(119,kx),(233000232,ZC)]) ⟨kY,aj6,trivial⟩ (by kernel_rfl)
def ZD:Entry:=⟨[aH .str],dq,Oi⟩
theorem aj7:a' 289 ZD:=b4 bk 0 (fn:=Tryz.f289) (fns:=[(203,Rg)]) ⟨Zi,trivial⟩ (by kernel_rfl)
def JX:Entry:=⟨[aH aM,aH bl],dq,wF⟩
theorem Rq:a' 282 JX:=b4 bk 0 (fn:=Tryz.f282) (fns:=[(171,JU),(211,Ct)]) ⟨Ri,JW,trivial⟩ (by kernel_rfl)
def zJ:Entry:=⟨[aH aM,aH J,aH bl],dq,qy⟩
theorem Cu:a' 279 zJ:=b4 bk 0 (fn:=Tryz.f279) (fns:=[(119,kx),(211,Ct),(282,JX)]) ⟨kY,JW,Rq,trivial⟩ (by kernel_rfl)
def Rr:Entry:=⟨[gn J,aH .str],di,Gk⟩
def aj8(k:b3 (Int×Unit)):Gh:=fun U aa ae ai=>k 2 (bd [(1,eQ U),(10,dx aC aa),(11,aN ae),(12,aN ai)] [] dZ)
theorem ZE:a' 291 Rr:=b0 bk 0 (fn:=Tryz.f291) (fns:=[]) trivial [(2,⟨[(1,aF),(10,.cell (.bG aC [])),(11,aF),(12,aF)],[],dY⟩)] aj8 Gj tZ (fun k x=>Gi k x.1 x.2.1) (by kernel_rfl) rfl
def ZF:Entry:=⟨[aH .str,aH bl],[ro (.sl .str)],Xx⟩
theorem aj9:iD Tryz.prog 321 0 ZF:=Xd fun _=>rfl
def ZG:Entry:=⟨[aH .str,aH (.int .u8)],di,Xy⟩
theorem aj_:iD Tryz.prog 333 0 ZG:=aiS Tryz.func333 (by kernel_rfl) (by kernel_rfl) (by kernel_rfl) (by kernel_rfl)
def ZH:Entry:=⟨[aH .str,aH (.int .u8)],di,Xz⟩
theorem aj':a' 329 ZH:=b4 bk 0 (fn:=Tryz.f329) (fns:=[(333,ZG)]) ⟨aj_,trivial⟩ (by kernel_rfl)
def ZI:Entry:=⟨[aH .str,aH .str],di,XA⟩
theorem aka:a' 327 ZI:=b4 bk 0 (fn:=Tryz.f327) (fns:=[(329,ZH)]) ⟨aj',trivial⟩ (by kernel_rfl)
def Rs:Entry:=⟨[aH .str,aH .str],di,Gl⟩
theorem ZJ:a' 323 Rs:=b4 bk 0 (fn:=Tryz.f323) (fns:=[(327,ZI)]) ⟨aka,trivial⟩ (by kernel_rfl)
def ZK:Entry:=⟨[aH .str],di,XB⟩
theorem akb:iD Tryz.prog 324 0 ZK:=Xd fun _=>rfl
def ZL:Entry:=⟨[aH .str,aH (.int .u8)],di,XC⟩
theorem akc:iD Tryz.prog 326 0 ZL:=aiT Tryz.func326 (by kernel_rfl) (by kernel_rfl) (by kernel_rfl) (by kernel_rfl)
def ZM:Entry:=⟨[aH .str,aH .str],di,On⟩
def akd(k:b3 (Int×Unit)):Gm:=fun U aa ae=>k 6 (bd [(0,eQ U),(1,eQ aa),(5,aN ae)] [] dZ)
theorem ake:a' 322 ZM:=b0 bk 0 (fn:=Tryz.f322) (fns:=[(323,Rs),(324,ZK),(326,ZL)]) ⟨ZJ,akb,akc,trivial⟩ [(6,⟨[(0,aF),(1,aF),(5,aF)],[],dY⟩)] akd XD Gp (fun k x=>Gn k x.1 x.2.1) (by kernel_rfl) rfl
def ZN:Entry:=⟨[aH .str,aH .str,aH bl,aH bl],[ro (.sl .str)],Ot⟩
def akf(k:b3 qz):rS:=⟨fun U aa ae ai=>k 7 (bd [(0,eQ U),(1,eQ aa),(2,aN ae),(3,aN ai)] [] oz),fun U aa ae ai aq ay=>k 11 (bd [(0,eQ U),(1,eQ aa),(2,aN ae),(3,aN ai),(9,.aU (.af 1 none)),(10,aN aq)] [(1,.row .str .R 0 ay)] oz),fun U aa ae=>k 17 (bd [(0,eQ U),(9,.aU (.af 1 none)),(10,aN aa)] [(1,.row .str .R 0 ae)] oz)⟩
theorem akg:a' 320 ZN:=b0 bk 0 (fn:=Tryz.f320) (fns:=[(321,ZF),(322,ZM),(323,Rs)]) ⟨aj9,ake,ZJ,trivial⟩ [(7,⟨[(0,aF),(1,aF),(2,aF),(3,aF)],[],oy⟩),(11,⟨[(0,aF),(1,aF),(2,aF),(3,aF),(9,.cell (.af 1)),(10,aF)],[(1,.row .str .R)],oy⟩),(17,⟨[(0,aF),(9,.cell (.af 1)),(10,aF)],[(1,.row .str .R)],oy⟩)] akf XG rT (fun k x=>Gq k x.1 x.2.1 x.2.2.1 x.2.2.2.1) (by kernel_rfl) rfl
def ZO:Entry:=⟨[aH .str,aH .str],[ro (.sl .str)],Ov⟩
theorem akh:a' 313 ZO:=b4 bk 0 (fn:=Tryz.f313) (fns:=[(320,ZN)]) ⟨akg,trivial⟩ (by kernel_rfl)
def ZP:Entry:=⟨[aH .str],[ro (.sl .str)],t'⟩
def aki(k:b3 BH):Gr:=fun U aa ae ai=>k 3 (bd [(3,.aU (.af 1 none)),(8,.aU (.af 2 none)),(9,aN U),(10,aN aa)] [(1,.row .str .R 0 ae),(2,.row .str .R 0 ai)] [.bB])
theorem akj:a' 304 ZP:=b0 bk 0 (fn:=Tryz.f304) (fns:=[(313,ZO)]) ⟨akh,trivial⟩ [(3,⟨[(3,.cell (.af 1)),(8,.cell (.af 2)),(9,aF),(10,aF)],[(1,.row .str .R),(2,.row .str .R)],[.drop]⟩)] aki Gt t_ (fun k x=>Gs k x.1) (by kernel_rfl) rfl
def ZQ:Entry:=⟨[gn ag,aH bl],di,Ow⟩
def akk(k:b3 (Int×Unit)):wG:=⟨fun U aa ae ai=>k 2 (bd [(1,aN U),(12,dx J aa),(13,aN ae),(14,aN ai)] [] dZ),fun U aa ae ai aq ay aW bq=>k 5 (bd [(1,aN U),(6,aE 1),(12,dx J aa),(13,aN ae),(14,aN ai),(19,dx aC aq),(20,aN ay),(21,aN aW)] (aI 1 J .R [] bq) dZ)⟩
theorem akl:a' 305 ZQ:=b0 bk 0 (fn:=Tryz.f305) (fns:=[]) trivial [(2,⟨[(1,aF),(12,.cell (.bG J [])),(13,aF),(14,aF)],[],dY⟩),(5,⟨[(1,aF),(6,.ptr 1),(12,.cell (.bG J [])),(13,aF),(14,aF),(19,.cell (.bG aC [])),(20,aF),(21,aF)],aG 1 J .R [],dY⟩)] akk XI lq (fun k x=>Gu k x.1 x.2.1) (by kernel_rfl) rfl
def ZR:Entry:=⟨[gn ag,aH aM,aH .str,aH .bool],[b1 a7],Ox⟩
def akm(k:b3 (a7.D×Unit)):ua:=fun U aa ae ai aq ay aW bq bw=>k 3 (bd [(0,.dA (qw []) (aU ag .R [] U 0) 0),(3,j6 aa),(5,aE 1),(8,aE 2),(9,.aU (.af 3 (some (ae,ai)))),(10,aN aq),(11,aN ay)] (aI 1 aM .R [] aW++aI 2 a7 .R [] bq++[(3,.row .str .R 0 bw)]) oz)
theorem akn:a' 290 ZR:=b0 bk 0 (fn:=Tryz.f290) (fns:=[(205,pN),(279,zJ),(291,Rr),(304,ZP),(305,ZQ)]) ⟨qR,Cu,ZE,akj,akl,trivial⟩ [(3,⟨[(0,.dA [] (tW ag .R [] 0)),(3,aF),(5,.ptr 1),(8,.ptr 2),(9,.cell (.av 3)),(10,aF),(11,aF)],aG 1 aM .R []++aG 2 a7 .R []++[(3,.row .str .R)],oy⟩)] akm mD gJ (fun k x=>Gv k x.1 x.2.1 x.2.2.1 x.2.2.2.1) (by kernel_rfl) rfl
def zK:Entry:=⟨[gn aO,aH .str,aH .bool],[b1 a7],lU⟩
theorem Cv:a' 271 zK:=b4 bk 0 (fn:=Tryz.f271) (fns:=[(289,ZD),(290,ZR)]) ⟨aj7,akn,trivial⟩ (by kernel_rfl)
def Rt:Entry:=⟨[gn aO,aH .str],[b1 a7,b1 bl],wJ⟩
theorem ZS:a' 267 Rt:=b4 bk 0 (fn:=Tryz.f267) (fns:=[(271,zK)]) ⟨Cv,trivial⟩ (by kernel_rfl)
def Cw:Entry:=⟨[gn aO,aH bl],dq,oq⟩
theorem JY:a' 268 Cw:=b4 bk 0 (fn:=Tryz.f268) (fns:=[(205,pN),(279,zJ)]) ⟨qR,Cu,trivial⟩ (by kernel_rfl)
def ZT:Entry:=⟨[AF (.sl aC),aH bl,AF (.sl aC)],[ro (.sl aC)],XN⟩
theorem ako:iD Tryz.prog 288 0 ZT:=ins_soundX
def JZ:Entry:=⟨[.«mut» aO cB cB,aH bl,aH .str,aH bl],[],uc⟩
def akp(k:b3 (aO.D×Unit)):wK:=⟨fun U aa ae ai aq=>k 2 (bd [(2,eQ U),(3,aN aa),(8,.opt 1 ae),(9,aN ai)] ([(1,.row J sv 0 aq.1.2.1),(2,.var 0 [.int .i64 aq.1.1,.af 1 none,.int .i64 aq.2.1.1,.int .i64 aq.2.1.2.1,.bG bl [] none aq.2.1.2.2.1,.int .i64 aq.2.2.1.1,.str aq.2.2.1.2.1,.str aq.2.2.1.2.2.1,.int .i64 aq.2.2.1.2.2.2.1,.int .i64 aq.2.2.1.2.2.2.2.1,.str aq.2.2.1.2.2.2.2.2.1])]) [aE 2,.bB,.bB,.bB]),fun U aa ae ai aq=>k 4 (bd [(2,eQ U),(3,aN aa),(8,.opt 1 ae),(9,aN ai)] ([(1,.row J sv 0 aq.1.2.1),(2,.var 0 [.int .i64 aq.1.1,.af 1 none,.int .i64 aq.2.1.1,.int .i64 aq.2.1.2.1,.bG bl [] none aq.2.1.2.2.1,.int .i64 aq.2.2.1.1,.str aq.2.2.1.2.1,.str aq.2.2.1.2.2.1,.int .i64 aq.2.2.1.2.2.2.1,.int .i64 aq.2.2.1.2.2.2.2.1,.str aq.2.2.1.2.2.2.2.2.1])]) [aE 2,.bB,.bB,.bB])⟩
theorem Ru:a' 269 JZ:=b0 bk 0 (fn:=Tryz.f269) (fns:=[(288,ZT),(205,JT)]) ⟨ako,Rh,trivial⟩ [(2,⟨[(2,aF),(3,aF),(8,.opt 1),(9,aF)],[(1,.row J sv),(2,.var [.keep,.af 1,.keep,.keep,.bG bl [],.keep,.keep,.keep,.keep,.keep,.keep])],[.ptr 2,.drop,.drop,.drop]⟩),(4,⟨[(2,aF),(3,aF),(8,.opt 1),(9,aF)],[(1,.row J sv),(2,.var [.keep,.af 1,.keep,.keep,.bG bl [],.keep,.keep,.keep,.keep,.keep,.keep])],[.ptr 2,.drop,.drop,.drop]⟩)] akp XO ub (fun k x=>Gw k x.1 x.2.1 x.2.2.1 x.2.2.2.1) (by kernel_rfl) rfl
def zL:Entry:=⟨[gn aO],di,ot⟩
theorem Cx:a' 270 zL:=b4 bk 0 (fn:=Tryz.f270) (fns:=[(173,Rl),(175000174,Zq)]) ⟨Zm,ajP,trivial⟩ (by kernel_rfl)
def ZU:Entry:=⟨[.«mut» aO cB cB],di,BK⟩
def akq(k:b3 (Int×aO.D×Unit)):wL:=⟨fun U aa=>k 4 (bd [(0,aE 1),(3,aE 3)] (aI 1 aO cB [] U++aI 3 aL .R [] aa) [aE 1]),fun U aa ae=>k 23 (bd [(0,aE 1),(4,aE 3),(7,aE 4)] (aI 1 aO cB [] U++aI 3 a7 .R [] aa++aI 4 J J.own [] ae) [aE 1])⟩
theorem akr:a' 234 ZU:=b0 bk 0 (fn:=Tryz.f234) (fns:=[(119,kx),(203,Rg),(205,pN),(267,Rt),(268,Cw),(269,JZ),(270,zL)]) ⟨kY,Zi,qR,ZS,JY,Ru,Cx,trivial⟩ [(4,⟨[(0,.ptr 1),(3,.ptr 3)],aG 1 aO cB []++aG 3 aL .R [],[.ptr 1]⟩),(23,⟨[(0,.ptr 1),(4,.ptr 3),(7,.ptr 4)],aG 1 aO cB []++aG 3 a7 .R []++aG 4 J J.own [],[.ptr 1]⟩)] akq XP lV (fun k x=>Gz k x.1) (by kernel_rfl) rfl
def J0:Entry:=⟨[aH aM,aH J,aH J],dq,ud⟩
theorem Rv:a' 272 J0:=b4 bk 0 (fn:=Tryz.f272) (fns:=[(211,Ct)]) ⟨JW,trivial⟩ (by kernel_rfl)
def Rw:Entry:=⟨[aH aC,gn .str],dq,GA⟩
theorem ZV:a' 293 Rw:=b4 bk 0 (fn:=Tryz.f293) (fns:=[]) trivial (by kernel_rfl)
def ZW:Entry:=⟨[aH (.sl aC),.fn 0 1,gn .str],di,OE⟩
def aks(k:b3 (Int×Unit)):GB:=fun U aa ae ai=>k 2 (bd [(0,dx aC U),(1,.fn 293 [] [.dA [] [.str aa] 0]),(7,aN ae),(8,aN ai)] [] ez)
theorem akt:Sound Tryz.prog 306 293 ZW:=b0 bk 293 (fn:=Tryz.f306) (fns:=[(293,Rw)]) ⟨ZV,trivial⟩ [(2,⟨[(0,.cell (.bG aC [])),(1,.x' [] [[.keep]]),(7,aF),(8,aF)],[],ew⟩)] aks GC zi (fun k x=>XQ k x.1 x.2.1) (by kernel_rfl) rfl
def ZX:Entry:=⟨[AF (.sl aC),.fn 0 1,gn .str],[ro (.sl aC)],GH⟩
def aku(k:b3 zj):GD:=fun U aa ae ai=>k 5 (bd [(0,.aU (.af 1 none)),(1,.fn 293 [] [.dA [] [.str U] 0]),(5,aN aa),(6,aN ae)] [(1,.row aC .R 0 ai)] ez)
theorem akv:Sound Tryz.prog 292 293 ZX:=b0 bk 293 (fn:=Tryz.f292) (fns:=[(293,Rw),(293000306,ZW)]) ⟨ZV,akt,trivial⟩ [(5,⟨[(0,.cell (.af 1)),(1,.x' [] [[.keep]]),(5,aF),(6,aF)],[(1,.row aC .R)],ew⟩)] aku GG zk (fun k x=>GF k x.1 x.2.1) (by kernel_rfl) rfl
def ZY:Entry:=⟨[AF (.sl J),.fn 0 1,gn bl],[ro (.sl J)],XS⟩
theorem akw:iD Tryz.prog 294 295 ZY:=aiU (T:=J) (T':=p5.eX) (p:=fun y i=> !(y.1==i)) (p':=fun y i=> !p5.j0 y i) rfl (fun x y i h=>by rw[show x.1=y.1 from h.1];rfl) (fq:=p5.Lo) p5.afs.x (fun ys i h=>p5.del_eq ys i h)
def Rx:Entry:=⟨[.«mut» aO cB cB,aH bl,aH .str,aH .bool],[],pz⟩
theorem ZZ:a' 273 Rx:=b4 bk 0 (fn:=Tryz.f273) (fns:=[(172,Rk),(291,Rr),(293000292,ZX),(295000294,ZY),(205,JT)]) ⟨Zl,ZE,akv,akw,Rh,trivial⟩ (by kernel_rfl)
def Z1:Entry:=⟨[.«mut» aO cB cB],di,GJ⟩
def akx(k:b3 (Int×aO.D×Unit)):rV:=⟨fun U aa ae=>k 5 (bd [(0,aE 1),(3,aE 3),(4,aE 4)] (aI 1 aO cB [] U++aI 3 a7 .R [] aa++aI 4 J .R [2,1] ae) [aE 1]),fun U aa ae=>k 7 (bd [(0,aE 1),(3,aE 3),(4,aE 4)] (aI 1 aO cB [] U++aI 3 a7 .R [] aa++aI 4 J .R [2,1] ae) [aE 1]),fun U aa ae=>k 9 (bd [(0,aE 1),(3,aE 3),(4,aE 4)] (aI 1 aO cB [] U++aI 3 a7 .R [] aa++aI 4 J .R [2,1] ae) [aE 1]),fun U aa ae=>k 11 (bd [(0,aE 1),(3,aE 3),(4,aE 4)] (aI 1 aO cB [] U++aI 3 a7 .R [] aa++aI 4 J .R [2,1] ae) [aE 1])⟩
theorem aky:a' 235 Z1:=b0 bk 0 (fn:=Tryz.f235) (fns:=[(205,pN),(268,Cw),(271,zK),(272,J0),(273,Rx)]) ⟨qR,JY,Cv,Rv,ZZ,trivial⟩ [(5,⟨[(0,.ptr 1),(3,.ptr 3),(4,.ptr 4)],aG 1 aO cB []++aG 3 a7 .R []++aG 4 J .R [2,1],[.ptr 1]⟩),(7,⟨[(0,.ptr 1),(3,.ptr 3),(4,.ptr 4)],aG 1 aO cB []++aG 3 a7 .R []++aG 4 J .R [2,1],[.ptr 1]⟩),(9,⟨[(0,.ptr 1),(3,.ptr 3),(4,.ptr 4)],aG 1 aO cB []++aG 3 a7 .R []++aG 4 J .R [2,1],[.ptr 1]⟩),(11,⟨[(0,.ptr 1),(3,.ptr 3),(4,.ptr 4)],aG 1 aO cB []++aG 3 a7 .R []++aG 4 J .R [2,1],[.ptr 1]⟩)] akx XT pA (fun k x=>GI k x.1) (by kernel_rfl) rfl
def Ry:Entry:=⟨[gn ag,aH bl],dq,BL⟩
theorem Z2:a' 274 Ry:=b4 bk 0 (fn:=Tryz.f274) (fns:=[(205,pN)]) ⟨qR,trivial⟩ (by kernel_rfl)
def Z3:Entry:=⟨[.«mut» aO cB cB],di,GK⟩
theorem akz:a' 236 Z3:=b4 bk 0 (fn:=Tryz.f236) (fns:=[(205,pN),(267,Rt),(268,Cw),(269,JZ),(270,zL),(271,zK),(274,Ry)]) ⟨qR,ZS,JY,Ru,Cx,Cv,Z2,trivial⟩ (by kernel_rfl)
def Z4:Entry:=⟨[gn aO,aH J,aH a7],di,GL⟩
theorem akA:a' 275 Z4:=b4 bk 0 (fn:=Tryz.f275) (fns:=[(205,pN),(272,J0)]) ⟨qR,Rv,trivial⟩ (by kernel_rfl)
def Z5:Entry:=⟨[.«mut» aO cB cB],di,GN⟩
def akB(k:b3 (Int×aO.D×Unit)):rW:=⟨fun U aa ae=>k 7 (bd [(0,aE 1),(3,aE 3),(4,aE 4)] (aI 1 aO cB [] U++aI 3 a7 .R [] aa++aI 4 a7 .R [] ae) [aE 1]),fun U aa ae ai=>k 10 (bd [(0,aE 1),(3,aE 3),(4,aE 4),(5,aE 5)] (aI 1 aO cB [] U++aI 3 a7 .R [] aa++aI 4 a7 .R [] ae++aI 5 J .R [2,1] ai) [aE 1]),fun U aa ae ai=>k 16 (bd [(0,aE 1),(3,aE 3),(4,aE 4),(5,aE 5)] (aI 1 aO cB [] U++aI 3 a7 .R [] aa++aI 4 a7 .R [] ae++aI 5 J .R [2,1] ai) [aE 1]),fun U aa ae=>k 25 (bd [(0,aE 1),(3,aE 3),(4,aE 4)] (aI 1 aO cB [] U++aI 3 a7 .R [] aa++aI 4 a7 .R [] ae) [aE 1])⟩
theorem akC:a' 237 Z5:=b0 bk 0 (fn:=Tryz.f237) (fns:=[(170,Rj),(171,JU),(205,pN),(268,Cw),(269,JZ),(270,zL),(271,zK),(272,J0),(273,Rx),(275,Z4)]) ⟨Zk,Ri,qR,JY,Ru,Cx,Cv,Rv,ZZ,akA,trivial⟩ [(7,⟨[(0,.ptr 1),(3,.ptr 3),(4,.ptr 4)],aG 1 aO cB []++aG 3 a7 .R []++aG 4 a7 .R [],[.ptr 1]⟩),(10,⟨[(0,.ptr 1),(3,.ptr 3),(4,.ptr 4),(5,.ptr 5)],aG 1 aO cB []++aG 3 a7 .R []++aG 4 a7 .R []++aG 5 J .R [2,1],[.ptr 1]⟩),(16,⟨[(0,.ptr 1),(3,.ptr 3),(4,.ptr 4),(5,.ptr 5)],aG 1 aO cB []++aG 3 a7 .R []++aG 4 a7 .R []++aG 5 J .R [2,1],[.ptr 1]⟩),(25,⟨[(0,.ptr 1),(3,.ptr 3),(4,.ptr 4)],aG 1 aO cB []++aG 3 a7 .R []++aG 4 a7 .R [],[.ptr 1]⟩)] akB XU jJ (fun k x=>GM k x.1) (by kernel_rfl) rfl
def sw:Entry:=⟨[.«mut» aO cB cB,aH .bool],[.opt 0 1 J,b1 bl],nv⟩
theorem uD:a' 278 sw:=b4 bk 0 (fn:=Tryz.f278) (fns:=[(271,zK),(205,JT)]) ⟨Cv,Rh,trivial⟩ (by kernel_rfl)
def Rz:Entry:=⟨[.«mut» aO cB cB,aH bl],[.opt 0 1 J,b1 bl],BN⟩
theorem Z6:a' 276 Rz:=b4 bk 0 (fn:=Tryz.f276) (fns:=[(278,sw),(279,zJ)]) ⟨uD,Cu,trivial⟩ (by kernel_rfl)
def Z7:Entry:=⟨[.«mut» aO cB cB],[b1 an],GO⟩
theorem akD:a' 238 Z7:=b4 bk 0 (fn:=Tryz.f238) (fns:=[(176,uC),(276,Rz)]) ⟨xE,Z6,trivial⟩ (by kernel_rfl)
def Z8:Entry:=⟨[aH .str,aH bl],[b1 .str],strings_Repeat⟩
theorem akE:iD Tryz.prog 296 0 Z8:=rep_soundX
def Z9:Entry:=⟨[aH .str,aH bl],[b1 .str],GP⟩
theorem akF:a' 277 Z9:=b4 bk 0 (fn:=Tryz.f277) (fns:=[(296,Z8)]) ⟨akE,trivial⟩ (by kernel_rfl)
def Z_:Entry:=⟨[.«mut» aO cB cB],di,GR⟩
def akG(k:b3 (Int×aO.D×Unit)):ue:=⟨fun U aa ae=>k 7 (bd [(0,aE 1),(3,.opt 2 U),(5,aN aa)] (aI 1 aO cB [] ae) [aE 1]),fun U aa ae=>k 11 (bd [(0,aE 1),(3,.opt 2 U),(5,aN aa)] (aI 1 aO cB [] ae) [aE 1]),fun U aa ae=>k 18 (bd [(0,aE 1),(3,.opt 2 U),(6,eQ aa)] (aI 1 aO cB [] ae) [aE 1])⟩
theorem akH:a' 239 Z_:=b0 bk 0 (fn:=Tryz.f239) (fns:=[(270,zL),(276,Rz),(277,Z9)]) ⟨Cx,Z6,akF,trivial⟩ [(7,⟨[(0,.ptr 1),(3,.opt 2),(5,aF)],aG 1 aO cB [],[.ptr 1]⟩),(11,⟨[(0,.ptr 1),(3,.opt 2),(5,aF)],aG 1 aO cB [],[.ptr 1]⟩),(18,⟨[(0,.ptr 1),(3,.opt 2),(6,aF)],aG 1 aO cB [],[.ptr 1]⟩)] akG XY gR (fun k x=>GQ k x.1) (by kernel_rfl) rfl
def aaa:Entry:=⟨[.«mut» aO cB cB],[b1 an],GS⟩
theorem akI:a' 240 aaa:=b4 bk 0 (fn:=Tryz.f240) (fns:=[(176,uC),(278,sw)]) ⟨xE,uD,trivial⟩ (by kernel_rfl)
def RA:Entry:=⟨[aH (.sl .str),aH .str],[b1 .str],strings_Join⟩
theorem aab:iD Tryz.prog 280 0 RA:=join_soundX
def J1:Entry:=⟨[aH (.sl bl)],[b1 .str],rY⟩
def akJ(k:b3 ((aj)×Unit)):GU:=fun U aa ae ai=>k 3 (bd [(3,.aU (.af 1 none)),(7,dx bl U),(8,aN aa),(9,aN ae)] [(1,.row .str .R 0 ai)] [.bB])
theorem RB:a' 246 J1:=b0 bk 0 (fn:=Tryz.f246) (fns:=[(210,Rp),(280,RA)]) ⟨Zy,aab,trivial⟩ [(3,⟨[(3,.cell (.af 1)),(7,.cell (.bG bl [])),(8,aF),(9,aF)],[(1,.row .str .R)],[.drop]⟩)] akJ GV wM (fun k x=>X0 k x.1) (by kernel_rfl) rfl
def aac:Entry:=⟨[.«mut» aO cB cB],[b1 an],BP⟩
def akK(k:b3 BO):GW:=fun U aa ae ai aq ay=>k 13 (bd [(2,aE 1),(7,.aU (.af 2 none)),(73,.aU (.bG aC (qw [3]) none U)),(74,aN aa),(75,aN ae)] (aI 1 an .R [] ai++[(2,.row .str .R 0 aq),(3,.row J sv 0 ay.1.2.1),(4,.var 0 [.int .i64 ay.1.1,.af 3 none,.int .i64 ay.2.1.1,.int .i64 ay.2.1.2.1,.bG bl [] none ay.2.1.2.2.1,.int .i64 ay.2.2.1.1,.str ay.2.2.1.2.1,.str ay.2.2.1.2.2.1,.int .i64 ay.2.2.1.2.2.2.1,.int .i64 ay.2.2.1.2.2.2.2.1,.str ay.2.2.1.2.2.2.2.2.1])]) [aE 4])
theorem akL:a' 241 aac:=b0 bk 0 (fn:=Tryz.f241) (fns:=[(176,uC),(208,Rm),(246,J1),(278,sw),(279,zJ),(280,RA)]) ⟨xE,Zn,RB,uD,Cu,aab,trivial⟩ [(13,⟨[(2,.ptr 1),(7,.cell (.af 2)),(73,.cell (.bG aC [3])),(74,aF),(75,aF)],aG 1 an .R []++[(2,.row .str .R),(3,.row J sv),(4,.var [.keep,.af 3,.keep,.keep,.bG bl [],.keep,.keep,.keep,.keep,.keep,.keep])],[.ptr 4]⟩)] akK GY rZ (fun k x=>GX k x.1) (by kernel_rfl) rfl
def aad:Entry:=⟨[gn ag,aH J],di,OZ⟩
def akM(k:b3 (Int×Unit)):GZ:=fun U aa ae ai aq=>k 5 (bd [(0,.dA (qw []) (aU ag .R [] U 0) 0),(5,aN aa),(16,dx aC ae),(17,aN ai),(18,aN aq)] [] dZ)
theorem akN:a' 281 aad:=b0 bk 0 (fn:=Tryz.f281) (fns:=[(172,Rk),(274,Ry)]) ⟨Zl,Z2,trivial⟩ [(5,⟨[(0,.dA [] (tW ag .R [] 0)),(5,aF),(16,.cell (.bG aC [])),(17,aF),(18,aF)],[],dY⟩)] akM G4 uf (fun k x=>G0 k x.1 x.2.1) (by kernel_rfl) rfl
def aae:Entry:=⟨[.«mut» aO cB cB],[b1 an],BQ⟩
theorem akO:a' 242 aae:=b4 bk 0 (fn:=Tryz.f242) (fns:=[(119,kx),(176,uC),(246,J1),(278,sw),(281,aad)]) ⟨kY,xE,RB,uD,akN,trivial⟩ (by kernel_rfl)
def aaf:Entry:=⟨[.«mut» aO cB cB],di,G7⟩
def akP(k:b3 (Int×aO.D×Unit)):G5:=fun U aa=>k 8 (bd [(0,aE 1),(3,.opt 2 U)] (aI 1 aO cB [] aa) [aE 1])
theorem akQ:a' 243 aaf:=b0 bk 0 (fn:=Tryz.f243) (fns:=[(119,kx),(278,sw),(282,JX)]) ⟨kY,uD,Rq,trivial⟩ [(8,⟨[(0,.ptr 1),(3,.opt 2)],aG 1 aO cB [],[.ptr 1]⟩)] akP O2 r0 (fun k x=>G6 k x.1) (by kernel_rfl) rfl
def aag:Entry:=⟨[.«mut» aO cB cB],di,G_⟩
def akR(k:b3 (Int×aO.D×Unit)):G8:=fun U aa=>k 8 (bd [(0,aE 1),(3,.opt 2 U)] (aI 1 aO cB [] aa) [aE 1])
theorem akS:a' 244 aag:=b0 bk 0 (fn:=Tryz.f244) (fns:=[(119,kx),(278,sw),(282,JX)]) ⟨kY,uD,Rq,trivial⟩ [(8,⟨[(0,.ptr 1),(3,.opt 2)],aG 1 aO cB [],[.ptr 1]⟩)] akR O4 r1 (fun k x=>G9 k x.1) (by kernel_rfl) rfl
def aah:Entry:=⟨[.«mut» aO cB cB],di,G'⟩
theorem akT:a' 245 aah:=b4 bk 0 (fn:=Tryz.f245) (fns:=[(119,kx),(278,sw),(279,zJ)]) ⟨kY,uD,Cu,trivial⟩ (by kernel_rfl)
def aai:Entry:=⟨[.«mut» aO cB cB],di,Hb⟩
theorem akU:a' 247 aai:=b4 bk 0 (fn:=Tryz.f247) (fns:=[(119,kx),(270,zL),(278,sw)]) ⟨kY,Cx,uD,trivial⟩ (by kernel_rfl)
def aaj:Entry:=⟨[.«mut» aO cB cB],[b1 an],Hd⟩
def akV(k:b3 kR):ou:=⟨fun U aa=>k 5 (bd [(0,aE 1),(2,aE 3)] (aI 1 aO cB [] U++aI 3 an .R [] aa) [aE 1]),fun U aa ae=>k 6 (bd [(0,aE 1),(2,aE 3),(7,aN U)] (aI 1 aO cB [] aa++aI 3 an .R [] ae) [aE 1]),fun U aa=>k 8 (bd [(0,aE 1),(2,aE 3)] (aI 1 aO cB [] U++aI 3 an .R [] aa) [aE 1]),fun U aa ae=>k 9 (bd [(0,aE 1),(2,aE 3),(7,aN U)] (aI 1 aO cB [] aa++aI 3 an .R [] ae) [aE 1]),fun U aa=>k 18 (bd [(0,aE 1),(2,aE 3)] (aI 1 aO cB [] U++aI 3 an .R [] aa) [aE 1]),fun U aa ae=>k 19 (bd [(0,aE 1),(2,aE 3),(7,aN U)] (aI 1 aO cB [] aa++aI 3 an .R [] ae) [aE 1]),fun U aa ae=>k 24 (bd [(0,aE 1),(2,aE 3),(7,aN U)] (aI 1 aO cB [] aa++aI 3 an .R [] ae) [aE 1])⟩
theorem akW:a' 212 aaj:=b0 bk 0 (fn:=Tryz.f212) (fns:=[(173,Rl),(176,uC),(234,ZU),(235,Z1),(236,Z3),(237,Z5),(238,Z7),(239,Z_),(240,aaa),(241,aac),(242,aae),(243,aaf),(244,aag),(245,aah),(246,J1),(247,aai)]) ⟨Zm,xE,akr,aky,akz,akC,akD,akH,akI,akL,akO,akQ,akS,akT,RB,akU,trivial⟩ [(5,⟨[(0,.ptr 1),(2,.ptr 3)],aG 1 aO cB []++aG 3 an .R [],[.ptr 1]⟩),(6,⟨[(0,.ptr 1),(2,.ptr 3),(7,aF)],aG 1 aO cB []++aG 3 an .R [],[.ptr 1]⟩),(8,⟨[(0,.ptr 1),(2,.ptr 3)],aG 1 aO cB []++aG 3 an .R [],[.ptr 1]⟩),(9,⟨[(0,.ptr 1),(2,.ptr 3),(7,aF)],aG 1 aO cB []++aG 3 an .R [],[.ptr 1]⟩),(18,⟨[(0,.ptr 1),(2,.ptr 3)],aG 1 aO cB []++aG 3 an .R [],[.ptr 1]⟩),(19,⟨[(0,.ptr 1),(2,.ptr 3),(7,aF)],aG 1 aO cB []++aG 3 an .R [],[.ptr 1]⟩),(24,⟨[(0,.ptr 1),(2,.ptr 3),(7,aF)],aG 1 aO cB []++aG 3 an .R [],[.ptr 1]⟩)] akV X4 O8 (fun k x=>Hc k x.1) (by kernel_rfl) rfl
def aak:Entry:=⟨[aH ag,aH aM,aH aL],[ro ag,b1 an],BR⟩
theorem akX:a' 180 aak:=b4 bk 0 (fn:=Tryz.f180) (fns:=[(123,Zr),(127,zI),(176,uC),(211,Ct),(212,aaj)]) ⟨ajR,Cs,xE,JW,akW,trivial⟩ (by kernel_rfl)
def aal:Entry:=⟨[y_ aS,aH bl,aH aL],[b1 an],Hf⟩
def akY(k:b3 r2):ug:=⟨fun U aa ae ai=>k 10 (bd [(0,aE 1),(5,aE 5),(6,aE 6),(9,aE 7)] (aI 1 aS aS.own [] U++aI 5 aL .R [] aa++aI 6 an .R [] ae++aI 7 aM aM.own [] ai) [aE 1,.bB,.bB]),fun U aa ae ai=>k 12 (bd [(0,aE 1),(5,aE 5),(6,aE 6),(9,aE 7)] (aI 1 aS aS.own [] U++aI 5 aL .R [] aa++aI 6 an .R [] ae++aI 7 aM aM.own [] ai) [aE 1,.bB,.bB]),fun U aa ae ai=>k 19 (bd [(0,aE 1),(5,aE 5),(6,aE 6),(9,aE 7)] (aI 1 aS aS.own [] U++aI 5 aL .R [] aa++aI 6 an .R [] ae++aI 7 aM aM.own [] ai) [aE 1,.bB,.bB])⟩
theorem akZ:a' 126 aal:=b0 bk 0 (fn:=Tryz.f126) (fns:=[(127,zI),(128,JV),(176,uC),(177,Zw),(178,Zx),(179,Zz),(180,aak)]) ⟨Cs,Ro,xE,ajY,ajZ,aj2,akX,trivial⟩ [(10,⟨[(0,.ptr 1),(5,.ptr 5),(6,.ptr 6),(9,.ptr 7)],aG 1 aS aS.own []++aG 5 aL .R []++aG 6 an .R []++aG 7 aM aM.own [],[.ptr 1,.drop,.drop]⟩),(12,⟨[(0,.ptr 1),(5,.ptr 5),(6,.ptr 6),(9,.ptr 7)],aG 1 aS aS.own []++aG 5 aL .R []++aG 6 an .R []++aG 7 aM aM.own [],[.ptr 1,.drop,.drop]⟩),(19,⟨[(0,.ptr 1),(5,.ptr 5),(6,.ptr 6),(9,.ptr 7)],aG 1 aS aS.own []++aG 5 aL .R []++aG 6 an .R []++aG 7 aM aM.own [],[.ptr 1,.drop,.drop]⟩)] akY X6 mE (fun k x=>He k x.1 x.2.1 x.2.2.1) (by kernel_rfl) rfl
def aam:Entry:=⟨[y_ aS,aH bl,aH bl,aH aL,aH bl],[b1 an,b1 .bool],zn⟩
def ak0(k:b3 nw):r3:=⟨fun U aa ae ai aq ay aW bq=>k 10 (bd [(0,aE 1),(1,aN U),(2,aN aa),(4,aN ae),(8,aE 5),(10,aE 6),(13,aE 7),(14,j6 ai)] (aI 1 aS aS.own [] aq++aI 5 aL .R [] ay++aI 6 an .R [] aW++aI 7 an .R [] bq) [aE 1,.bB,.bB,.bB,.bB]),fun U aa ae ai aq ay aW=>k 11 (bd [(0,aE 1),(1,aN U),(2,aN aa),(4,aN ae),(8,aE 5),(10,aE 6),(13,aE 7)] (aI 1 aS aS.own [] ai++aI 5 aL .R [] aq++aI 6 an .R [] ay++aI 7 an .R [] aW) [aE 1,.bB,.bB,.bB,.bB]),fun U aa ae ai aq ay=>k 12 (bd [(0,aE 1),(1,aN U),(2,aN aa),(4,aN ae),(10,aE 5),(13,aE 6)] (aI 1 aS aS.own [] ai++aI 5 an .R [] aq++aI 6 an .R [] ay) [aE 1,.bB,.bB,.bB,.bB])⟩
theorem ak1:a' 63 aam:=b0 bk 0 (fn:=Tryz.f63) (fns:=[(119,kx),(124,Zs),(125,Zu),(126,aal),(127,zI),(128,JV),(129,Rn)]) ⟨kY,ajT,ajV,akZ,Cs,Ro,Zt,trivial⟩ [(10,⟨[(0,.ptr 1),(1,aF),(2,aF),(4,aF),(8,.ptr 5),(10,.ptr 6),(13,.ptr 7),(14,aF)],aG 1 aS aS.own []++aG 5 aL .R []++aG 6 an .R []++aG 7 an .R [],[.ptr 1,.drop,.drop,.drop,.drop]⟩),(11,⟨[(0,.ptr 1),(1,aF),(2,aF),(4,aF),(8,.ptr 5),(10,.ptr 6),(13,.ptr 7)],aG 1 aS aS.own []++aG 5 aL .R []++aG 6 an .R []++aG 7 an .R [],[.ptr 1,.drop,.drop,.drop,.drop]⟩),(12,⟨[(0,.ptr 1),(1,aF),(2,aF),(4,aF),(10,.ptr 5),(13,.ptr 6)],aG 1 aS aS.own []++aG 5 an .R []++aG 6 an .R [],[.ptr 1,.drop,.drop,.drop,.drop]⟩)] ak0 X8 r4 (fun k x=>Hg k x.1 x.2.1 x.2.2.1 x.2.2.2.1 x.2.2.2.2.1) (by kernel_rfl) rfl
def lY:Entry:=⟨[aH bl,aH bl,aH bl],dq,dF⟩
theorem mI:a' 67 lY:=b4 bk 0 (fn:=Tryz.f67) (fns:=[]) trivial (by kernel_rfl)
def RC:Entry:=⟨[aH (.int .u8)],dq,Hh⟩
theorem aan:a' 222 RC:=b4 bk 0 (fn:=Tryz.f222) (fns:=[]) trivial (by kernel_rfl)
def aao:Entry:=⟨[aH .str],dq,Hl⟩
def ak2(k:b3 (Bool×Unit)):Hi:=fun U aa=>k 4 (bd [(0,eQ U),(3,aN aa)] [] [.bB])
theorem ak3:a' 185 aao:=b0 bk 0 (fn:=Tryz.f185) (fns:=[(67,lY),(222,RC)]) ⟨mI,aan,trivial⟩ [(4,⟨[(0,aF),(3,aF)],[],[.drop]⟩)] ak2 Hk wO (fun k x=>Hj k x.1) (by kernel_rfl) rfl
def uE:Entry:=⟨[aH ag,aH bl],di,nx⟩
def ak4(k:b3 (Int×Unit)):Hm:=fun U aa ae=>k 2 (bd [(1,aN U),(2,aE 1),(5,aN aa)] (aI 1 ag .R [] ae) dZ)
theorem xF:a' 187 uE:=b0 bk 0 (fn:=Tryz.f187) (fns:=[]) trivial [(2,⟨[(1,aF),(2,.ptr 1),(5,aF)],aG 1 ag .R [],dY⟩)] ak4 Ho wP (fun k x=>Hn k x.1 x.2.1) (by kernel_rfl) rfl
def aap:Entry:=⟨[aH ag,aH bl],[ro (.sl .bool)],Pf⟩
def ak5(k:b3 ((List Bool)×Unit)):r5:=⟨fun U aa ae ai=>k 8 (bd [(2,aE 1),(5,.aU (.af 2 none)),(6,.aU (.af 3 none)),(8,aN U)] (aI 1 ag .R [] aa++[(2,.row .bool .R 0 ae),(3,.row .bool .R 0 ai)]) dZ),fun U aa ae ai aq=>k 11 (bd [(2,aE 1),(5,.aU (.af 2 none)),(6,.aU (.af 3 none)),(8,aN U),(9,aN aa)] (aI 1 ag .R [] ae++[(2,.row .bool .R 0 ai),(3,.row .bool .R 0 aq)]) dZ),fun U aa ae ai aq ay=>k 15 (bd [(2,aE 1),(5,.aU (.af 2 none)),(6,.aU (.af 3 none)),(8,aN U),(9,aN aa),(10,aN ae)] (aI 1 ag .R [] ai++[(2,.row .bool .R 0 aq),(3,.row .bool .R 0 ay)]) dZ)⟩
theorem ak6:a' 136 aap:=b0 bk 0 (fn:=Tryz.f136) (fns:=[(187,uE)]) ⟨xF,trivial⟩ [(8,⟨[(2,.ptr 1),(5,.cell (.af 2)),(6,.cell (.af 3)),(8,aF)],aG 1 ag .R []++[(2,.row .bool .R),(3,.row .bool .R)],dY⟩),(11,⟨[(2,.ptr 1),(5,.cell (.af 2)),(6,.cell (.af 3)),(8,aF),(9,aF)],aG 1 ag .R []++[(2,.row .bool .R),(3,.row .bool .R)],dY⟩),(15,⟨[(2,.ptr 1),(5,.cell (.af 2)),(6,.cell (.af 3)),(8,aF),(9,aF),(10,aF)],aG 1 ag .R []++[(2,.row .bool .R),(3,.row .bool .R)],dY⟩)] ak5 X9 kT (fun k x=>Hq k x.1 x.2.1) (by kernel_rfl) rfl
def RD:Entry:=⟨[aH ag,aH bl],di,Hs⟩
def ak7(k:b3 (Int×Unit)):wR:=⟨fun U aa ae ai=>k 3 (bd [(1,aN U),(2,aE 1),(5,aN aa),(6,aN ae)] (aI 1 ag .R [] ai) dZ),fun U aa ae ai aq=>k 6 (bd [(1,aN U),(2,aE 1),(5,aN aa),(6,aN ae),(7,aN ai)] (aI 1 ag .R [] aq) dZ)⟩
theorem aaq:a' 137 RD:=b0 bk 0 (fn:=Tryz.f137) (fns:=[]) trivial [(3,⟨[(1,aF),(2,.ptr 1),(5,aF),(6,aF)],aG 1 ag .R [],dY⟩),(6,⟨[(1,aF),(2,.ptr 1),(5,aF),(6,aF),(7,aF)],aG 1 ag .R [],dY⟩)] ak7 X_ qB (fun k x=>Hr k x.1 x.2.1) (by kernel_rfl) rfl
def RE:Entry:=⟨[aH ag],di,Hw⟩
def ak8(k:b3 (Int×Unit)):Ht:=fun U aa ae=>k 3 (bd [(1,aE 1),(3,aN U),(4,aN aa)] (aI 1 ag .R [] ae) [.bB])
theorem aar:a' 138 RE:=b0 bk 0 (fn:=Tryz.f138) (fns:=[]) trivial [(3,⟨[(1,.ptr 1),(3,aF),(4,aF)],aG 1 ag .R [],[.drop]⟩)] ak8 Hv wS (fun k x=>Hu k x.1) (by kernel_rfl) rfl
def RF:Entry:=⟨[aH ag,aH bl],[b1 bl,b1 bl],BW⟩
def ak9(k:b3 (Int×Int×Unit)):Hy:=fun U aa ae ai aq=>k 5 (bd [(2,aE 1),(6,.aU (.af 2 none)),(7,aN U),(8,aN aa),(9,aN ae)] (aI 1 ag .R [] ai++[(2,.row .bool .R 0 aq)]) dZ)
theorem aas:a' 188 RF:=b0 bk 0 (fn:=Tryz.f188) (fns:=[(136,aap)]) ⟨ak6,trivial⟩ [(5,⟨[(2,.ptr 1),(6,.cell (.af 2)),(7,aF),(8,aF),(9,aF)],aG 1 ag .R []++[(2,.row .bool .R)],dY⟩)] ak9 HA wT (fun k x=>Hz k x.1 x.2.1) (by kernel_rfl) rfl
def aat:Entry:=⟨[aH ag],dq,Ph⟩
def ak_(k:b3 (Bool×Unit)):wU:=⟨fun U aa=>k 2 (bd [(1,aE 1),(3,aN U)] (aI 1 ag .R [] aa) [.bB]),fun U aa ae=>k 6 (bd [(1,aE 1),(3,aN U),(4,aE 2)] (aI 1 ag .R [] aa++aI 2 J .R [] ae) [.bB])⟩
theorem ak':a' 139 aat:=b0 bk 0 (fn:=Tryz.f139) (fns:=[(188,RF)]) ⟨aas,trivial⟩ [(2,⟨[(1,.ptr 1),(3,aF)],aG 1 ag .R [],[.drop]⟩),(6,⟨[(1,.ptr 1),(3,aF),(4,.ptr 2)],aG 1 ag .R []++aG 2 J .R [],[.drop]⟩)] ak_ X' kU (fun k x=>HB k x.1) (by kernel_rfl) rfl
def aau:Entry:=⟨[aH (.sl aJ)],dq,Pj⟩
def ala(k:b3 (Bool×Unit)):HC:=fun U aa=>k 4 (bd [(0,dx aJ U),(3,aN aa)] [] [.bB])
theorem alb:a' 68 aau:=b0 bk 0 (fn:=Tryz.f68) (fns:=[(67,lY)]) ⟨mI,trivial⟩ [(4,⟨[(0,.cell (.bG aJ [])),(3,aF)],[],[.drop]⟩)] ala HE wV (fun k x=>HD k x.1) (by kernel_rfl) rfl
def RG:Entry:=⟨[aH aS,aH bl],[b1 bl,b1 .bool],HG⟩
def alc(k:b3 (Int×Bool×Unit)):HF:=fun U aa ae=>k 2 (bd [(1,aN U),(2,aE 1),(6,aN aa)] (aI 1 aS .R [] ae) dZ)
theorem aav:a' 116 RG:=b0 bk 0 (fn:=Tryz.f116) (fns:=[]) trivial [(2,⟨[(1,aF),(2,.ptr 1),(6,aF)],aG 1 aS .R [],dY⟩)] alc zo zp (fun k x=>Ya k x.1 x.2.1) (by kernel_rfl) rfl
def aaw:Entry:=⟨[aH aS,aH bl],[b1 aZ],Pl⟩
theorem ald:a' 57 aaw:=b4 bk 0 (fn:=Tryz.f57) (fns:=[(116,RG)]) ⟨aav,trivial⟩ (by kernel_rfl)
def aax:Entry:=⟨[aH aS],di,Pm⟩
def ale(k:b3 (Int×Unit)):wW:=⟨fun U aa ae=>k 3 (bd [(1,aE 1),(3,aN U),(4,aN aa)] (aI 1 aS .R [] ae) [.bB]),fun U aa ae=>k 8 (bd [(1,aE 1),(3,aN U),(5,aN aa)] (aI 1 aS .R [] ae) [.bB])⟩
theorem alf:a' 130 aax:=b0 bk 0 (fn:=Tryz.f130) (fns:=[]) trivial [(3,⟨[(1,.ptr 1),(3,aF),(4,aF)],aG 1 aS .R [],[.drop]⟩),(8,⟨[(1,.ptr 1),(3,aF),(5,aF)],aG 1 aS .R [],[.drop]⟩)] ale Yc ov (fun k x=>Yb k x.1) (by kernel_rfl) rfl
def zM:Entry:=⟨[aH aL],dq,wX⟩
def alg(k:b3 (Bool×Unit)):HJ:=fun U=>k 5 (bd [(1,aE 1)] (aI 1 aL .R [] U) [.bB])
theorem Cy:a' 132 zM:=b0 bk 0 (fn:=Tryz.f132) (fns:=[(67,lY)]) ⟨mI,trivial⟩ [(5,⟨[(1,.ptr 1)],aG 1 aL .R [],[.drop]⟩)] alg Pn BY (fun k x=>HK k x.1) (by kernel_rfl) rfl
def J2:Entry:=⟨[aH bl],dq,BZ⟩
theorem RH:a' 133 J2:=b4 bk 0 (fn:=Tryz.f133) (fns:=[]) trivial (by kernel_rfl)
def aay:Entry:=⟨[aH bl],[ro aM],Pq⟩
theorem alh:a' 181 aay:=b4 bk 0 (fn:=Tryz.f181) (fns:=[]) trivial (by kernel_rfl)
def aaz:Entry:=⟨[aH bl],di,Ps⟩
theorem ali:a' 213 aaz:=b4 bk 0 (fn:=Tryz.f213) (fns:=[(67,lY),(133,J2)]) ⟨mI,RH,trivial⟩ (by kernel_rfl)
def aaA:Entry:=⟨[aH bl,aH bl],[b1 bl,b1 .bool],Pu⟩
theorem alj:a' 182 aaA:=b4 bk 0 (fn:=Tryz.f182) (fns:=[(213,aaz)]) ⟨ali,trivial⟩ (by kernel_rfl)
def RI:Entry:=⟨[aH bl],[b1 .str],ff⟩
def alk(k:b3 ((aj)×Unit)):HL:=fun U aa ae=>k 5 (bd [(0,aN U),(3,eQ aa),(4,j6 ae)] [] [.bB])
theorem aaB:a' 214 RI:=b0 bk 0 (fn:=Tryz.f214) (fns:=[]) trivial [(5,⟨[(0,aF),(3,aF),(4,aF)],[],[.drop]⟩)] alk B0 pC (fun k x=>HM k x.1) (by kernel_rfl) rfl
def aaC:Entry:=⟨[aH (.sl aJ),aH bl],[b1 .str],Pw⟩
def alm(k:b3 ((aj)×Unit)):wY:=⟨fun U aa ae ai=>k 5 (bd [(0,dx aJ U),(1,aN aa),(5,eQ ae),(6,aN ai)] [] dZ),fun U aa ae ai=>k 9 (bd [(0,dx aJ U),(1,aN aa),(5,eQ ae),(6,aN ai)] [] dZ)⟩
theorem aln:a' 183 aaC:=b0 bk 0 (fn:=Tryz.f183) (fns:=[(68,aau),(214,RI)]) ⟨alb,aaB,trivial⟩ [(5,⟨[(0,.cell (.bG aJ [])),(1,aF),(5,aF),(6,aF)],[],dY⟩),(9,⟨[(0,.cell (.bG aJ [])),(1,aF),(5,aF),(6,aF)],[],dY⟩)] alm Yd qC (fun k x=>HN k x.1 x.2.1) (by kernel_rfl) rfl
def xG:Entry:=⟨[aH ag],[.val ag h5],uh⟩
def alo(k:b3 (ag.D×Unit)):zq:=fun U aa ae ai=>k 3 (bd [(1,aE 1),(2,aE 2),(3,aE 4),(4,aN U)] (aI 1 ag .R [] aa++aI 2 ag ag.own [] ae++aI 4 ag ag.own [] ai) [.bB])
theorem zN:a' 134 xG:=b0 bk 0 (fn:=Tryz.f134) (fns:=[]) trivial [(3,⟨[(1,.ptr 1),(2,.ptr 2),(3,.ptr 4),(4,aF)],aG 1 ag .R []++aG 2 ag ag.own []++aG 4 ag ag.own [],[.drop]⟩)] alo HQ wZ (fun k x=>HP k x.1) (by kernel_rfl) rfl
def RJ:Entry:=⟨[aH .str],dq,HU⟩
def alp(k:b3 (Bool×Unit)):HR:=fun U aa=>k 4 (bd [(0,eQ U),(3,aN aa)] [] [.bB])
theorem aaD:a' 283 RJ:=b0 bk 0 (fn:=Tryz.f283) (fns:=[(67,lY),(222,RC)]) ⟨mI,aan,trivial⟩ [(4,⟨[(0,aF),(3,aF)],[],[.drop]⟩)] alp HT w1 (fun k x=>HS k x.1) (by kernel_rfl) rfl
def J3:Entry:=⟨[aH aM],dq,B2⟩
def alq(k:b3 (Bool×Unit)):HV:=fun U aa=>k 4 (bd [(1,aE 1),(3,aN U)] (aI 1 aM .R [] aa) [.bB])
theorem RK:a' 285 J3:=b0 bk 0 (fn:=Tryz.f285) (fns:=[(67,lY)]) ⟨mI,trivial⟩ [(4,⟨[(1,.ptr 1),(3,aF)],aG 1 aM .R [],[.drop]⟩)] alq HX w2 (fun k x=>HW k x.1) (by kernel_rfl) rfl
def RL:Entry:=⟨[aH aM,aH bl],dq,w4⟩
def alr(k:b3 (Bool×Unit)):HY:=fun U aa ae ai=>k 5 (bd [(1,aN U),(2,aE 1),(5,j6 aa),(6,aN ae)] (aI 1 aM .R [] ai) dZ)
theorem aaE:a' 260 RL:=b0 bk 0 (fn:=Tryz.f260) (fns:=[(285,J3)]) ⟨RK,trivial⟩ [(5,⟨[(1,aF),(2,.ptr 1),(5,aF),(6,aF)],aG 1 aM .R [],dY⟩)] alr H0 w3 (fun k x=>HZ k x.1 x.2.1) (by kernel_rfl) rfl
def uF:Entry:=⟨[aH aM,aH J,aH bl],dq,kV⟩
theorem xH:a' 250 uF:=b4 bk 0 (fn:=Tryz.f250) (fns:=[(67,lY),(260,RL),(285,J3)]) ⟨mI,aaE,RK,trivial⟩ (by kernel_rfl)
def RM:Entry:=⟨[aH ag,aH bl],di,H5⟩
def als(k:b3 (Int×Unit)):w5:=⟨fun U aa ae=>k 2 (bd [(1,aN U),(2,aE 1),(5,aN aa)] (aI 1 ag .R [] ae) dZ),fun U aa ae ai=>k 5 (bd [(1,aN U),(2,aE 1),(5,aN aa),(6,aN ae)] (aI 1 ag .R [] ai) dZ)⟩
theorem aaF:a' 287 RM:=b0 bk 0 (fn:=Tryz.f287) (fns:=[]) trivial [(2,⟨[(1,aF),(2,.ptr 1),(5,aF)],aG 1 ag .R [],dY⟩),(5,⟨[(1,aF),(2,.ptr 1),(5,aF),(6,aF)],aG 1 ag .R [],dY⟩)] als Yh lr (fun k x=>H4 k x.1 x.2.1) (by kernel_rfl) rfl
def aaG:Entry:=⟨[aH .str],[ro (.sl .str)],B5⟩
def alu(k:b3 B3):H6:=fun U aa ae ai=>k 4 (bd [(0,eQ U),(3,.aU (.af 1 none)),(4,aN aa),(5,aN ae)] [(1,.row .str .R 0 ai)] [.bB])
theorem alv:a' 300 aaG:=b0 bk 0 (fn:=Tryz.f300) (fns:=[]) trivial [(4,⟨[(0,aF),(3,.cell (.af 1)),(4,aF),(5,aF)],[(1,.row .str .R)],[.drop]⟩)] alu B4 r6 (fun k x=>H7 k x.1) (by kernel_rfl) rfl
def aaH:Entry:=⟨[aH ag,aH bl,aH .str],di,Py⟩
def alw(k:b3 (Int×Unit)):H8:=fun U aa ae=>k 3 (bd [(2,eQ U),(7,dx aC aa),(8,aN ae)] [] ez)
theorem alx:a' 301 aaH:=b0 bk 0 (fn:=Tryz.f301) (fns:=[(187,uE)]) ⟨xF,trivial⟩ [(3,⟨[(2,aF),(7,.cell (.bG aC [])),(8,aF)],[],ew⟩)] alw H_ ui (fun k x=>H9 k x.1 x.2.1 x.2.2.1) (by kernel_rfl) rfl
def RN:Entry:=⟨[aH ag,aH aM,aH .str,aH .bool],[b1 a7],Ie⟩
def aly(k:b3 (a7.D×Unit)):qD:=⟨fun U aa ae ai aq ay aW bq bw=>k 4 (bd [(3,j6 U),(4,aE 1),(5,aE 2),(8,aE 3),(9,.aU (.af 4 (some (aa,ae)))),(10,aN ai),(11,aN aq)] (aI 1 ag .R [] ay++aI 2 aM .R [] aW++aI 3 a7 .R [] bq++[(4,.row .str .R 0 bw)]) oz),fun U aa ae ai aq ay aW bq bw eF fg lu kW=>k 21 (bd [(3,j6 U),(4,aE 1),(5,aE 2),(8,aE 3),(9,.aU (.af 4 (some (aa,ae)))),(10,aN ai),(11,aN aq),(12,eQ ay),(13,j6 aW),(14,aN bq),(15,aE 5)] (aI 1 ag .R [] bw++aI 2 aM .R [] eF++aI 3 a7 .R [] fg++[(4,.row .str .R 0 lu)]++aI 5 J .R [] kW) oz),fun U aa ae ai aq ay aW bq bw eF=>k 22 (bd [(3,j6 U),(4,aE 1),(5,aE 2),(8,aE 3),(9,.aU (.af 4 (some (aa,ae)))),(10,aN ai),(11,aN aq),(15,aE 5)] (aI 1 ag .R [] ay++aI 2 aM .R [] aW++aI 3 a7 .R [] bq++[(4,.row .str .R 0 bw)]++aI 5 J .R [] eF) oz),fun U aa ae ai aq ay aW bq bw eF fg lu kW=>k 30 (bd [(3,j6 U),(4,aE 1),(5,aE 2),(8,aE 3),(9,.aU (.af 4 (some (aa,ae)))),(10,aN ai),(11,aN aq),(12,eQ ay),(13,j6 aW),(14,aN bq),(15,aE 5)] (aI 1 ag .R [] bw++aI 2 aM .R [] eF++aI 3 a7 .R [] fg++[(4,.row .str .R 0 lu)]++aI 5 J .R [] kW) oz),fun U aa ae ai aq ay aW bq bw eF=>k 27 (bd [(3,j6 U),(4,aE 1),(5,aE 2),(8,aE 3),(9,.aU (.af 4 (some (aa,ae)))),(10,aN ai),(11,aN aq),(15,aE 5)] (aI 1 ag .R [] ay++aI 2 aM .R [] aW++aI 3 a7 .R [] bq++[(4,.row .str .R 0 bw)]++aI 5 J .R [] eF) oz)⟩
theorem aaI:a' 284 RN:=b0 bk 0 (fn:=Tryz.f284) (fns:=[(187,uE),(250,uF),(287,RM),(300,aaG),(301,aaH)]) ⟨xF,xH,aaF,alv,alx,trivial⟩ [(4,⟨[(3,aF),(4,.ptr 1),(5,.ptr 2),(8,.ptr 3),(9,.cell (.av 4)),(10,aF),(11,aF)],aG 1 ag .R []++aG 2 aM .R []++aG 3 a7 .R []++[(4,.row .str .R)],oy⟩),(21,⟨[(3,aF),(4,.ptr 1),(5,.ptr 2),(8,.ptr 3),(9,.cell (.av 4)),(10,aF),(11,aF),(12,aF),(13,aF),(14,aF),(15,.ptr 5)],aG 1 ag .R []++aG 2 aM .R []++aG 3 a7 .R []++[(4,.row .str .R)]++aG 5 J .R [],oy⟩),(22,⟨[(3,aF),(4,.ptr 1),(5,.ptr 2),(8,.ptr 3),(9,.cell (.av 4)),(10,aF),(11,aF),(15,.ptr 5)],aG 1 ag .R []++aG 2 aM .R []++aG 3 a7 .R []++[(4,.row .str .R)]++aG 5 J .R [],oy⟩),(30,⟨[(3,aF),(4,.ptr 1),(5,.ptr 2),(8,.ptr 3),(9,.cell (.av 4)),(10,aF),(11,aF),(12,aF),(13,aF),(14,aF),(15,.ptr 5)],aG 1 ag .R []++aG 2 aM .R []++aG 3 a7 .R []++[(4,.row .str .R)]++aG 5 J .R [],oy⟩),(27,⟨[(3,aF),(4,.ptr 1),(5,.ptr 2),(8,.ptr 3),(9,.cell (.av 4)),(10,aF),(11,aF),(15,.ptr 5)],aG 1 ag .R []++aG 2 aM .R []++aG 3 a7 .R []++[(4,.row .str .R)]++aG 5 J .R [],oy⟩)] aly Yj fF (fun k x=>H' k x.1 x.2.1 x.2.2.1 x.2.2.2.1) (by kernel_rfl) rfl
def RO:Entry:=⟨[aH ag,aH aM,aH .str],[b1 a7,b1 bl],w8⟩
theorem aaJ:a' 248 RO:=b4 bk 0 (fn:=Tryz.f248) (fns:=[(283,RJ),(284,RN)]) ⟨aaD,aaI,trivial⟩ (by kernel_rfl)
def qS:Entry:=⟨[aH ag,aH bl],[b1 J],fG⟩
theorem sx:a' 249 qS:=b4 bk 0 (fn:=Tryz.f249) (fns:=[(187,uE)]) ⟨xF,trivial⟩ (by kernel_rfl)
def aaK:Entry:=⟨[aH ag],di,PB⟩
theorem alz:a' 286 aaK:=b4 bk 0 (fn:=Tryz.f286) (fns:=[(138,RE),(139,aat)]) ⟨aar,ak',trivial⟩ (by kernel_rfl)
def zO:Entry:=⟨[aH ag,.val ag h5],[b1 ag,b1 an],r7⟩
theorem Cz:a' 251 zO:=b4 bk 0 (fn:=Tryz.f251) (fns:=[(286,aaK)]) ⟨alz,trivial⟩ (by kernel_rfl)
def zP:Entry:=⟨[.val ag h5,Fw J],[.val ag h5],pD⟩
theorem CA:a' 253 zP:=b4 bk 0 (fn:=Tryz.f253) (fns:=[(187,uE)]) ⟨xF,trivial⟩ (by kernel_rfl)
def J4:Entry:=⟨[.val ag h5,aH bl,aH .str,aH bl],[.val ag h5],uk⟩
def alA(k:b3 (ag.D×Unit)):uj:=⟨fun U aa ae ai aq ay aW bq=>k 5 (bd [(2,eQ U),(3,aN aa),(4,aE 1),(8,aE 3),(9,aE 5),(10,.aU (.af 6 none)),(11,j6 ae),(12,aN ai)] (aI 1 ag h5 [] aq++aI 3 ag ag.own [] ay++aI 5 J .R [2] aW++[(6,.row aC .R 0 bq)]) oz),fun U aa ae ai aq ay aW bq=>k 10 (bd [(2,eQ U),(3,aN aa),(4,aE 1),(8,aE 3),(9,aE 5),(10,.aU (.af 6 none)),(11,j6 ae),(12,aN ai)] (aI 1 ag h5 [] aq++aI 3 ag ag.own [] ay++aI 5 J .R [2] aW++[(6,.row aC .R 0 bq)]) oz),fun U aa ae ai=>k 13 (bd [(4,aE 1),(8,aE 3),(9,aE 5),(10,.aU (.af 6 none))] (aI 1 ag h5 [] U++aI 3 ag ag.own [] aa++aI 5 J .R [2] ae++[(6,.row aC .R 0 ai)]) oz)⟩
theorem RP:a' 252 J4:=b0 bk 0 (fn:=Tryz.f252) (fns:=[(249,qS),(253,zP)]) ⟨sx,CA,trivial⟩ [(5,⟨[(2,aF),(3,aF),(4,.ptr 1),(8,.ptr 3),(9,.ptr 5),(10,.cell (.af 6)),(11,aF),(12,aF)],aG 1 ag h5 []++aG 3 ag ag.own []++aG 5 J .R [2]++[(6,.row aC .R)],oy⟩),(10,⟨[(2,aF),(3,aF),(4,.ptr 1),(8,.ptr 3),(9,.ptr 5),(10,.cell (.af 6)),(11,aF),(12,aF)],aG 1 ag h5 []++aG 3 ag ag.own []++aG 5 J .R [2]++[(6,.row aC .R)],oy⟩),(13,⟨[(4,.ptr 1),(8,.ptr 3),(9,.ptr 5),(10,.cell (.af 6))],aG 1 ag h5 []++aG 3 ag ag.own []++aG 5 J .R [2]++[(6,.row aC .R)],oy⟩)] alA Yl jb (fun k x=>Ig k x.1 x.2.1 x.2.2.1 x.2.2.2.1) (by kernel_rfl) rfl
def aaL:Entry:=⟨[Fw ag,aH aM,aH aL],[b1 ag,b1 an],w_⟩
def alB(k:b3 pF):r8:=⟨fun U aa ae ai aq=>k 3 (bd [(3,aE 1),(4,aE 2),(5,aE 3),(6,aE 4),(7,aE 6)] (aI 1 ag .R [] U++aI 2 aM .R [] aa++aI 3 aL .R [] ae++aI 4 ag ag.own [] ai++aI 6 an .R [] aq) ez),fun U aa ae ai aq ay aW=>k 14 (bd [(3,aE 1),(5,aE 2),(6,aE 3),(7,aE 5),(8,aE 6),(10,aE 7),(11,aE 8)] (aI 1 ag .R [] U++aI 2 aL .R [] aa++aI 3 ag ag.own [] ae++aI 5 an .R [] ai++aI 6 a7 .R [] aq++aI 7 J .R [] ay++aI 8 J J.own [] aW) ez),fun U aa ae ai aq ay=>k 18 (bd [(3,aE 1),(6,aE 2),(7,aE 4),(8,aE 5),(10,aE 6),(11,aE 7)] (aI 1 ag .R [] U++aI 2 ag ag.own [] aa++aI 4 an .R [] ae++aI 5 a7 .R [] ai++aI 6 J .R [] aq++aI 7 J J.own [] ay) ez),fun U aa ae ai aq=>k 22 (bd [(3,aE 1),(6,aE 2),(7,aE 4),(8,aE 5),(11,aE 6)] (aI 1 ag .R [] U++aI 2 ag ag.own [] aa++aI 4 an .R [] ae++aI 5 a7 .R [] ai++aI 6 J J.own [] aq) ez)⟩
theorem alC:a' 215 aaL:=b0 bk 0 (fn:=Tryz.f215) (fns:=[(67,lY),(134,xG),(185,aao),(248,RO),(249,qS),(250,uF),(251,zO),(252,J4),(253,zP)]) ⟨mI,zN,ak3,aaJ,sx,xH,Cz,RP,CA,trivial⟩ [(3,⟨[(3,.ptr 1),(4,.ptr 2),(5,.ptr 3),(6,.ptr 4),(7,.ptr 6)],aG 1 ag .R []++aG 2 aM .R []++aG 3 aL .R []++aG 4 ag ag.own []++aG 6 an .R [],ew⟩),(14,⟨[(3,.ptr 1),(5,.ptr 2),(6,.ptr 3),(7,.ptr 5),(8,.ptr 6),(10,.ptr 7),(11,.ptr 8)],aG 1 ag .R []++aG 2 aL .R []++aG 3 ag ag.own []++aG 5 an .R []++aG 6 a7 .R []++aG 7 J .R []++aG 8 J J.own [],ew⟩),(18,⟨[(3,.ptr 1),(6,.ptr 2),(7,.ptr 4),(8,.ptr 5),(10,.ptr 6),(11,.ptr 7)],aG 1 ag .R []++aG 2 ag ag.own []++aG 4 an .R []++aG 5 a7 .R []++aG 6 J .R []++aG 7 J J.own [],ew⟩),(22,⟨[(3,.ptr 1),(6,.ptr 2),(7,.ptr 4),(8,.ptr 5),(11,.ptr 6)],aG 1 ag .R []++aG 2 ag ag.own []++aG 4 an .R []++aG 5 a7 .R []++aG 6 J J.own [],ew⟩)] alB Ym kv (fun k x=>Ih k x.1 x.2.1 x.2.2.1) (by kernel_rfl) rfl
def xI:Entry:=⟨[aH ag,aH aM,aH .str,aH .bool],[b1 a7],fo⟩
theorem zQ:a' 254 xI:=b4 bk 0 (fn:=Tryz.f254) (fns:=[(283,RJ),(284,RN)]) ⟨aaD,aaI,trivial⟩ (by kernel_rfl)
def RQ:Entry:=⟨[aH aM,aH J,aH J],dq,zs⟩
theorem aaM:a' 255 RQ:=b4 bk 0 (fn:=Tryz.f255) (fns:=[(285,J3)]) ⟨RK,trivial⟩ (by kernel_rfl)
def RR:Entry:=⟨[.val ag h5,aH bl,aH .str],[.val ag h5],pG⟩
def alD(k:b3 (ag.D×Unit)):xb:=⟨fun U aa ae ai aq ay aW=>k 5 (bd [(2,eQ U),(3,aE 1),(6,aE 3),(7,aE 5),(8,aN aa),(9,.aU (.af 6 none)),(10,aN ae)] (aI 1 ag h5 [] ai++aI 3 ag ag.own [] aq++aI 5 J .R [2] ay++[(6,.row aC .R 0 aW)]) ez),fun U aa ae ai aq=>k 16 (bd [(3,aE 1),(6,aE 3),(8,aN U),(11,.aU (.af 5 none)),(12,aN aa)] (aI 1 ag h5 [] ae++aI 3 ag ag.own [] ai++[(5,.row J .R 0 aq)]) ez)⟩
theorem aaN:a' 256 RR:=b0 bk 0 (fn:=Tryz.f256) (fns:=[(137,RD),(249,qS),(253,zP)]) ⟨aaq,sx,CA,trivial⟩ [(5,⟨[(2,aF),(3,.ptr 1),(6,.ptr 3),(7,.ptr 5),(8,aF),(9,.cell (.af 6)),(10,aF)],aG 1 ag h5 []++aG 3 ag ag.own []++aG 5 J .R [2]++[(6,.row aC .R)],ew⟩),(16,⟨[(3,.ptr 1),(6,.ptr 3),(8,aF),(11,.cell (.af 5)),(12,aF)],aG 1 ag h5 []++aG 3 ag ag.own []++[(5,.row J .R)],ew⟩)] alD Yn lW (fun k x=>Ii k x.1 x.2.1 x.2.2.1) (by kernel_rfl) rfl
def aaO:Entry:=⟨[aH ag,aH aM,aH aL],[b1 ag,b1 an],Ca⟩
def alE(k:b3 r9):um:=⟨fun U aa ae ai aq ay aW=>k 7 (bd [(3,aE 1),(4,aE 2),(5,aE 3),(6,aE 4),(7,aE 6),(8,aE 7),(9,aE 8)] (aI 1 ag .R [] U++aI 2 aM .R [] aa++aI 3 aL .R [] ae++aI 4 ag ag.own [] ai++aI 6 an .R [] aq++aI 7 a7 .R [] ay++aI 8 J .R [] aW) ez),fun U aa ae ai aq ay aW=>k 9 (bd [(3,aE 1),(4,aE 2),(5,aE 3),(6,aE 4),(7,aE 6),(8,aE 7),(9,aE 8)] (aI 1 ag .R [] U++aI 2 aM .R [] aa++aI 3 aL .R [] ae++aI 4 ag ag.own [] ai++aI 6 an .R [] aq++aI 7 a7 .R [] ay++aI 8 J .R [] aW) ez),fun U aa ae ai aq ay=>k 11 (bd [(3,aE 1),(4,aE 2),(6,aE 3),(7,aE 5),(8,aE 6),(9,aE 7)] (aI 1 ag .R [] U++aI 2 aM .R [] aa++aI 3 ag ag.own [] ae++aI 5 an .R [] ai++aI 6 a7 .R [] aq++aI 7 J .R [] ay) ez)⟩
theorem alF:a' 216 aaO:=b0 bk 0 (fn:=Tryz.f216) (fns:=[(134,xG),(249,qS),(250,uF),(254,xI),(255,RQ),(256,RR)]) ⟨zN,sx,xH,zQ,aaM,aaN,trivial⟩ [(7,⟨[(3,.ptr 1),(4,.ptr 2),(5,.ptr 3),(6,.ptr 4),(7,.ptr 6),(8,.ptr 7),(9,.ptr 8)],aG 1 ag .R []++aG 2 aM .R []++aG 3 aL .R []++aG 4 ag ag.own []++aG 6 an .R []++aG 7 a7 .R []++aG 8 J .R [],ew⟩),(9,⟨[(3,.ptr 1),(4,.ptr 2),(5,.ptr 3),(6,.ptr 4),(7,.ptr 6),(8,.ptr 7),(9,.ptr 8)],aG 1 ag .R []++aG 2 aM .R []++aG 3 aL .R []++aG 4 ag ag.own []++aG 6 an .R []++aG 7 a7 .R []++aG 8 J .R [],ew⟩),(11,⟨[(3,.ptr 1),(4,.ptr 2),(6,.ptr 3),(7,.ptr 5),(8,.ptr 6),(9,.ptr 7)],aG 1 ag .R []++aG 2 aM .R []++aG 3 ag ag.own []++aG 5 an .R []++aG 6 a7 .R []++aG 7 J .R [],ew⟩)] alE Yo r_ (fun k x=>Ij k x.1 x.2.1 x.2.2.1) (by kernel_rfl) rfl
def RS:Entry:=⟨[aH ag,aH bl],dq,zt⟩
theorem aaP:a' 257 RS:=b4 bk 0 (fn:=Tryz.f257) (fns:=[(187,uE)]) ⟨xF,trivial⟩ (by kernel_rfl)
def aaQ:Entry:=⟨[aH ag,aH aM,aH aL],[b1 ag,b1 an],Ik⟩
theorem alG:a' 217 aaQ:=b4 bk 0 (fn:=Tryz.f217) (fns:=[(134,xG),(248,RO),(249,qS),(250,uF),(251,zO),(252,J4),(254,xI),(257,RS)]) ⟨zN,aaJ,sx,xH,Cz,RP,zQ,aaP,trivial⟩ (by kernel_rfl)
def aaR:Entry:=⟨[aH ag,aH bl,aH bl],dq,Cb⟩
def alH(k:b3 (Bool×Unit)):Il:=fun U aa ae ai=>k 2 (bd [(1,aN U),(2,aN aa),(3,aE 1),(7,aN ae)] (aI 1 ag .R [] ai) ez)
theorem alI:a' 258 aaR:=b0 bk 0 (fn:=Tryz.f258) (fns:=[(287,RM)]) ⟨aaF,trivial⟩ [(2,⟨[(1,aF),(2,aF),(3,.ptr 1),(7,aF)],aG 1 ag .R [],ew⟩)] alH Io xc (fun k x=>Im k x.1 x.2.1 x.2.2.1) (by kernel_rfl) rfl
def aaS:Entry:=⟨[aH ag,aH aM,aH aL],[b1 ag,b1 an],Iq⟩
def alJ(k:b3 ny):qF:=⟨fun U aa ae ai aq ay=>k 7 (bd [(3,aE 1),(4,aE 2),(6,aE 3),(7,aE 5),(8,aE 6),(9,aE 7)] (aI 1 ag .R [] U++aI 2 aM .R [] aa++aI 3 ag ag.own [] ae++aI 5 an .R [] ai++aI 6 a7 .R [] aq++aI 7 a7 .R [] ay) ez),fun U aa ae ai aq ay aW bq=>k 18 (bd [(3,aE 1),(4,aE 2),(6,aE 3),(7,aE 5),(8,aE 6),(9,aE 7),(11,aE 8),(12,aE 9)] (aI 1 ag .R [] U++aI 2 aM .R [] aa++aI 3 ag ag.own [] ae++aI 5 an .R [] ai++aI 6 a7 .R [] aq++aI 7 a7 .R [] ay++aI 8 J .R [] aW++aI 9 J .R [] bq) ez),fun U aa ae ai aq ay aW bq=>k 27 (bd [(3,aE 1),(6,aE 2),(7,aE 4),(8,aE 5),(9,aE 6),(12,aE 7),(13,aE 8),(14,aE 10)] (aI 1 ag .R [] U++aI 2 ag ag.own [] aa++aI 4 an .R [] ae++aI 5 a7 .R [] ai++aI 6 a7 .R [] aq++aI 7 J .R [] ay++aI 8 ag h5 [] aW++aI 10 J .R [] bq) ez),fun U aa ae ai aq ay=>k 34 (bd [(3,aE 1),(6,aE 2),(7,aE 4),(8,aE 5),(9,aE 6),(13,aE 7)] (aI 1 ag .R [] U++aI 2 ag ag.own [] aa++aI 4 an .R [] ae++aI 5 a7 .R [] ai++aI 6 a7 .R [] aq++aI 7 ag h5 [] ay) ez),fun U aa ae ai aq ay aW bq=>k 29 (bd [(3,aE 1),(6,aE 2),(7,aE 4),(8,aE 5),(9,aE 6),(12,aE 7),(13,aE 8),(14,aE 10)] (aI 1 ag .R [] U++aI 2 ag ag.own [] aa++aI 4 an .R [] ae++aI 5 a7 .R [] ai++aI 6 a7 .R [] aq++aI 7 J .R [] ay++aI 8 ag h5 [] aW++aI 10 J .R [] bq) ez)⟩
theorem alK:a' 218 aaS:=b0 bk 0 (fn:=Tryz.f218) (fns:=[(134,xG),(249,qS),(250,uF),(251,zO),(252,J4),(254,xI),(255,RQ),(256,RR),(258,aaR)]) ⟨zN,sx,xH,Cz,RP,zQ,aaM,aaN,alI,trivial⟩ [(7,⟨[(3,.ptr 1),(4,.ptr 2),(6,.ptr 3),(7,.ptr 5),(8,.ptr 6),(9,.ptr 7)],aG 1 ag .R []++aG 2 aM .R []++aG 3 ag ag.own []++aG 5 an .R []++aG 6 a7 .R []++aG 7 a7 .R [],ew⟩),(18,⟨[(3,.ptr 1),(4,.ptr 2),(6,.ptr 3),(7,.ptr 5),(8,.ptr 6),(9,.ptr 7),(11,.ptr 8),(12,.ptr 9)],aG 1 ag .R []++aG 2 aM .R []++aG 3 ag ag.own []++aG 5 an .R []++aG 6 a7 .R []++aG 7 a7 .R []++aG 8 J .R []++aG 9 J .R [],ew⟩),(27,⟨[(3,.ptr 1),(6,.ptr 2),(7,.ptr 4),(8,.ptr 5),(9,.ptr 6),(12,.ptr 7),(13,.ptr 8),(14,.ptr 10)],aG 1 ag .R []++aG 2 ag ag.own []++aG 4 an .R []++aG 5 a7 .R []++aG 6 a7 .R []++aG 7 J .R []++aG 8 ag h5 []++aG 10 J .R [],ew⟩),(34,⟨[(3,.ptr 1),(6,.ptr 2),(7,.ptr 4),(8,.ptr 5),(9,.ptr 6),(13,.ptr 7)],aG 1 ag .R []++aG 2 ag ag.own []++aG 4 an .R []++aG 5 a7 .R []++aG 6 a7 .R []++aG 7 ag h5 [],ew⟩),(29,⟨[(3,.ptr 1),(6,.ptr 2),(7,.ptr 4),(8,.ptr 5),(9,.ptr 6),(12,.ptr 7),(13,.ptr 8),(14,.ptr 10)],aG 1 ag .R []++aG 2 ag ag.own []++aG 4 an .R []++aG 5 a7 .R []++aG 6 a7 .R []++aG 7 J .R []++aG 8 ag h5 []++aG 10 J .R [],ew⟩)] alJ Yq gS (fun k x=>Ip k x.1 x.2.1 x.2.2.1) (by kernel_rfl) rfl
def aaT:Entry:=⟨[aH .str,aH bl,aH .str],[b1 .str],uq⟩
def alL(k:b3 ((aj)×Unit)):uo:=⟨fun U aa ae=>k 2 (bd [(1,aN U),(2,eQ aa),(7,.aU (.af 1 none))] [(1,.row (.int .u8) .R 0 ae)] ez),fun U aa ae ai=>k 5 (bd [(1,aN U),(2,eQ aa),(7,.aU (.af 1 none)),(8,aN ae)] [(1,.row (.int .u8) .R 0 ai)] ez)⟩
theorem alM:a' 259 aaT:=b0 bk 0 (fn:=Tryz.f259) (fns:=[]) trivial [(2,⟨[(1,aF),(2,aF),(7,.cell (.af 1))],[(1,.row (.int .u8) .R)],ew⟩),(5,⟨[(1,aF),(2,aF),(7,.cell (.af 1)),(8,aF)],[(1,.row (.int .u8) .R)],ew⟩)] alL Ys ow (fun k x=>Ir k x.1 x.2.1 x.2.2.1) (by kernel_rfl) rfl
def aaU:Entry:=⟨[aH ag,aH aM,aH aL],[b1 ag,b1 an],zu⟩
def alN(k:b3 xd):xe:=⟨fun U aa ae ai aq ay=>k 12 (bd [(3,aE 1),(5,aE 2),(6,aE 3),(7,aE 5),(9,aE 6),(10,aN U)] (aI 1 ag .R [] aa++aI 2 aL .R [] ae++aI 3 ag ag.own [] ai++aI 5 an .R [] aq++aI 6 J .R [] ay) ez),fun U aa ae ai=>k 23 (bd [(3,aE 1),(6,aE 2),(7,aE 4),(9,aE 5)] (aI 1 ag .R [] U++aI 2 ag ag.own [] aa++aI 4 an .R [] ae++aI 5 J .R [] ai) ez)⟩
theorem alO:a' 219 aaU:=b0 bk 0 (fn:=Tryz.f219) (fns:=[(134,xG),(249,qS),(250,uF),(251,zO),(253,zP),(254,xI),(259,aaT)]) ⟨zN,sx,xH,Cz,CA,zQ,alM,trivial⟩ [(12,⟨[(3,.ptr 1),(5,.ptr 2),(6,.ptr 3),(7,.ptr 5),(9,.ptr 6),(10,aF)],aG 1 ag .R []++aG 2 aL .R []++aG 3 ag ag.own []++aG 5 an .R []++aG 6 J .R [],ew⟩),(23,⟨[(3,.ptr 1),(6,.ptr 2),(7,.ptr 4),(9,.ptr 5)],aG 1 ag .R []++aG 2 ag ag.own []++aG 4 an .R []++aG 5 J .R [],ew⟩)] alN Yt kX (fun k x=>Is k x.1 x.2.1 x.2.2.1) (by kernel_rfl) rfl
def aaV:Entry:=⟨[aH ag,aH aM,aH aL],[b1 ag,b1 an],uu⟩
def alP(k:b3 pH):r':=⟨fun U aa ae ai aq ay=>k 8 (bd [(3,aE 1),(4,aE 2),(5,aE 3),(6,aE 4),(7,aE 6),(8,j6 U)] (aI 1 ag .R [] aa++aI 2 aM .R [] ae++aI 3 aL .R [] ai++aI 4 ag ag.own [] aq++aI 6 an .R [] ay) ez),fun U aa ae ai aq=>k 12 (bd [(3,aE 1),(4,aE 2),(5,aE 3),(6,aE 4),(7,aE 6)] (aI 1 ag .R [] U++aI 2 aM .R [] aa++aI 3 aL .R [] ae++aI 4 ag ag.own [] ai++aI 6 an .R [] aq) ez),fun U aa ae ai aq ay=>k 24 (bd [(3,aE 1),(4,aE 2),(5,aE 3),(6,aE 4),(7,aE 6),(10,aE 7)] (aI 1 ag .R [] U++aI 2 aM .R [] aa++aI 3 aL .R [] ae++aI 4 ag ag.own [] ai++aI 6 an .R [] aq++aI 7 J .R [] ay) ez),fun U aa ae ai=>k 32 (bd [(3,aE 1),(6,aE 2),(7,aE 4),(10,aE 5)] (aI 1 ag .R [] U++aI 2 ag ag.own [] aa++aI 4 an .R [] ae++aI 5 J .R [] ai) ez)⟩
theorem alQ:a' 220 aaV:=b0 bk 0 (fn:=Tryz.f220) (fns:=[(67,lY),(134,xG),(249,qS),(251,zO),(253,zP),(254,xI),(260,RL)]) ⟨mI,zN,sx,Cz,CA,zQ,aaE,trivial⟩ [(8,⟨[(3,.ptr 1),(4,.ptr 2),(5,.ptr 3),(6,.ptr 4),(7,.ptr 6),(8,aF)],aG 1 ag .R []++aG 2 aM .R []++aG 3 aL .R []++aG 4 ag ag.own []++aG 6 an .R [],ew⟩),(12,⟨[(3,.ptr 1),(4,.ptr 2),(5,.ptr 3),(6,.ptr 4),(7,.ptr 6)],aG 1 ag .R []++aG 2 aM .R []++aG 3 aL .R []++aG 4 ag ag.own []++aG 6 an .R [],ew⟩),(24,⟨[(3,.ptr 1),(4,.ptr 2),(5,.ptr 3),(6,.ptr 4),(7,.ptr 6),(10,.ptr 7)],aG 1 ag .R []++aG 2 aM .R []++aG 3 aL .R []++aG 4 ag ag.own []++aG 6 an .R []++aG 7 J .R [],ew⟩),(32,⟨[(3,.ptr 1),(6,.ptr 2),(7,.ptr 4),(10,.ptr 5)],aG 1 ag .R []++aG 2 ag ag.own []++aG 4 an .R []++aG 5 J .R [],ew⟩)] alP Yu iq (fun k x=>ur k x.1 x.2.1 x.2.2.1) (by kernel_rfl) rfl
def aaW:Entry:=⟨[aH ag,aH bl],di,Iw⟩
def alR(k:b3 (Int×Unit)):It:=fun U aa ae ai=>k 8 (bd [(2,aE 1),(5,aN U),(6,aN aa),(7,aN ae)] (aI 1 ag .R [] ai) dZ)
theorem alS:a' 261 aaW:=b0 bk 0 (fn:=Tryz.f261) (fns:=[(137,RD),(187,uE),(257,RS)]) ⟨aaq,xF,aaP,trivial⟩ [(8,⟨[(2,.ptr 1),(5,aF),(6,aF),(7,aF)],aG 1 ag .R [],dY⟩)] alR Iv xf (fun k x=>Iu k x.1 x.2.1) (by kernel_rfl) rfl
def aaX:Entry:=⟨[aH ag,aH aM,aH aL],[b1 an],lX⟩
def alT(k:b3 (an.D×Unit)):ox:=⟨fun U aa ae ai=>k 5 (bd [(3,aE 1),(4,aE 2),(5,aE 3),(6,aE 4)] (aI 1 ag .R [] U++aI 2 aM .R [] aa++aI 3 aL .R [] ae++aI 4 an .R [] ai) ez),fun U aa ae ai aq=>k 6 (bd [(3,aE 1),(4,aE 2),(5,aE 3),(6,aE 4),(7,aE 5)] (aI 1 ag .R [] U++aI 2 aM .R [] aa++aI 3 aL .R [] ae++aI 4 an .R [] ai++aI 5 a7 .R [] aq) ez),fun U aa ae ai aq=>k 20 (bd [(5,aE 1),(6,aE 2),(8,aE 3),(10,.aU (.af 4 none)),(11,aN U)] (aI 1 aL .R [] aa++aI 2 an .R [] ae++aI 3 J .R [] ai++[(4,.row (.int .u8) .R 0 aq)]) ez),fun U aa ae ai=>k 35 (bd [(6,aE 1),(8,aE 2),(12,eQ U),(13,aN aa)] (aI 1 an .R [] ae++aI 2 J .R [] ai) ez),fun U aa ae ai=>k 39 (bd [(6,aE 1),(8,aE 2),(12,eQ U),(13,aN aa)] (aI 1 an .R [] ae++aI 2 J .R [] ai) ez)⟩
theorem alU:a' 221 aaX:=b0 bk 0 (fn:=Tryz.f221) (fns:=[(67,lY),(138,RE),(188,RF),(214,RI),(249,qS),(250,uF),(254,xI),(261,aaW)]) ⟨mI,aar,aas,aaB,sx,xH,zQ,alS,trivial⟩ [(5,⟨[(3,.ptr 1),(4,.ptr 2),(5,.ptr 3),(6,.ptr 4)],aG 1 ag .R []++aG 2 aM .R []++aG 3 aL .R []++aG 4 an .R [],ew⟩),(6,⟨[(3,.ptr 1),(4,.ptr 2),(5,.ptr 3),(6,.ptr 4),(7,.ptr 5)],aG 1 ag .R []++aG 2 aM .R []++aG 3 aL .R []++aG 4 an .R []++aG 5 a7 .R [],ew⟩),(20,⟨[(5,.ptr 1),(6,.ptr 2),(8,.ptr 3),(10,.cell (.af 4)),(11,aF)],aG 1 aL .R []++aG 2 an .R []++aG 3 J .R []++[(4,.row (.int .u8) .R)],ew⟩),(35,⟨[(6,.ptr 1),(8,.ptr 2),(12,aF),(13,aF)],aG 1 an .R []++aG 2 J .R [],ew⟩),(39,⟨[(6,.ptr 1),(8,.ptr 2),(12,aF),(13,aF)],aG 1 an .R []++aG 2 J .R [],ew⟩)] alT Yv fY (fun k x=>sa k x.1 x.2.1 x.2.2.1) (by kernel_rfl) rfl
def aaY:Entry:=⟨[Fw ag,Fw aM,aH aL],[b1 ag,b1 an],xh⟩
def alV(k:b3 sb):ux:=⟨fun U aa ae ai aq ay=>k 8 (bd [(3,aE 1),(4,aE 2),(5,aE 3),(6,aE 4),(7,aE 6),(19,aN U)] (aI 1 ag .R [] aa++aI 2 aM .R [] ae++aI 3 aL .R [] ai++aI 4 ag ag.own [] aq++aI 6 an .R [] ay) ez),fun U aa ae ai aq ay=>k 11 (bd [(3,aE 1),(4,aE 2),(5,aE 3),(6,aE 4),(7,aE 6),(19,aN U)] (aI 1 ag .R [] aa++aI 2 aM .R [] ae++aI 3 aL .R [] ai++aI 4 ag ag.own [] aq++aI 6 an .R [] ay) ez),fun U aa ae ai aq ay=>k 19 (bd [(3,aE 1),(4,aE 2),(5,aE 3),(6,aE 4),(7,aE 6),(19,aN U)] (aI 1 ag .R [] aa++aI 2 aM .R [] ae++aI 3 aL .R [] ai++aI 4 ag ag.own [] aq++aI 6 an .R [] ay) ez)⟩
theorem alW:a' 184 aaY:=b0 bk 0 (fn:=Tryz.f184) (fns:=[(132,zM),(215,aaL),(216,aaO),(217,aaQ),(218,aaS),(219,aaU),(220,aaV),(221,aaX)]) ⟨Cy,alC,alF,alG,alK,alO,alQ,alU,trivial⟩ [(8,⟨[(3,.ptr 1),(4,.ptr 2),(5,.ptr 3),(6,.ptr 4),(7,.ptr 6),(19,aF)],aG 1 ag .R []++aG 2 aM .R []++aG 3 aL .R []++aG 4 ag ag.own []++aG 6 an .R [],ew⟩),(11,⟨[(3,.ptr 1),(4,.ptr 2),(5,.ptr 3),(6,.ptr 4),(7,.ptr 6),(19,aF)],aG 1 ag .R []++aG 2 aM .R []++aG 3 aL .R []++aG 4 ag ag.own []++aG 6 an .R [],ew⟩),(19,⟨[(3,.ptr 1),(4,.ptr 2),(5,.ptr 3),(6,.ptr 4),(7,.ptr 6),(19,aF)],aG 1 ag .R []++aG 2 aM .R []++aG 3 aL .R []++aG 4 ag ag.own []++aG 6 an .R [],ew⟩)] alV Yw IA (fun k x=>zv k x.1 x.2.1 x.2.2.1) (by kernel_rfl) rfl
def aaZ:Entry:=⟨[.val aS jK,aH bl,aH aL],[.val aS jK,b1 an],IC⟩
def alX(k:b3 xi):xj:=⟨fun U aa ae ai aq=>k 10 (bd [(3,aE 1),(5,aE 4),(6,aE 5),(7,aE 9),(8,aE 10)] (aI 1 aS jK [] U++aI 4 aL .R [] aa++aI 5 aS aS.own [] ae++aI 9 an .R [] ai++aI 10 aM aM.own [] aq) ez),fun U aa ae ai aq=>k 19 (bd [(3,aE 1),(5,aE 4),(6,aE 5),(7,aE 9),(8,aE 10)] (aI 1 aS jK [] U++aI 4 aL .R [] aa++aI 5 aS aS.own [] ae++aI 9 an .R [] ai++aI 10 aM aM.own [] aq) ez)⟩
theorem alY:a' 131 aaZ:=b0 bk 0 (fn:=Tryz.f131) (fns:=[(132,zM),(133,J2),(181,aay),(182,aaA),(183,aaC),(184,aaY)]) ⟨Cy,RH,alh,alj,aln,alW,trivial⟩ [(10,⟨[(3,.ptr 1),(5,.ptr 4),(6,.ptr 5),(7,.ptr 9),(8,.ptr 10)],aG 1 aS jK []++aG 4 aL .R []++aG 5 aS aS.own []++aG 9 an .R []++aG 10 aM aM.own [],ew⟩),(19,⟨[(3,.ptr 1),(5,.ptr 4),(6,.ptr 5),(7,.ptr 9),(8,.ptr 10)],aG 1 aS jK []++aG 4 aL .R []++aG 5 aS aS.own []++aG 9 an .R []++aG 10 aM aM.own [],ew⟩)] alX Yx qG (fun k x=>IB k x.1 x.2.1 x.2.2.1) (by kernel_rfl) rfl
def aa0:Entry:=⟨[.val aS jK,aH bl,aH bl,aH aL,aH bl],[.val aS jK,b1 an,b1 .bool],se⟩
def alZ(k:b3 nB):sc:=⟨fun U aa ae ai aq ay aW bq bw=>k 10 (bd [(1,aN U),(2,aN aa),(4,aN ae),(5,aE 1),(8,aE 4),(10,aE 5),(11,aE 9),(14,aE 10),(15,j6 ai)] (aI 1 aS jK [] aq++aI 4 aL .R [] ay++aI 5 aS aS.own [] aW++aI 9 an .R [] bq++aI 10 an .R [] bw) Rf),fun U aa ae ai aq ay aW bq=>k 11 (bd [(1,aN U),(2,aN aa),(4,aN ae),(5,aE 1),(8,aE 4),(10,aE 5),(11,aE 9),(14,aE 10)] (aI 1 aS jK [] ai++aI 4 aL .R [] aq++aI 5 aS aS.own [] ay++aI 9 an .R [] aW++aI 10 an .R [] bq) Rf),fun U aa ae ai aq ay aW=>k 12 (bd [(1,aN U),(2,aN aa),(4,aN ae),(5,aE 1),(10,aE 4),(11,aE 8),(14,aE 9)] (aI 1 aS jK [] ai++aI 4 aS aS.own [] aq++aI 8 an .R [] ay++aI 9 an .R [] aW) Rf)⟩
theorem al0:a' 64 aa0:=b0 bk 0 (fn:=Tryz.f64) (fns:=[(57,aaw),(67,lY),(116,RG),(130,aax),(131,aaZ),(132,zM),(133,J2)]) ⟨ald,mI,aav,alf,alY,Cy,RH,trivial⟩ [(10,⟨[(1,aF),(2,aF),(4,aF),(5,.ptr 1),(8,.ptr 4),(10,.ptr 5),(11,.ptr 9),(14,.ptr 10),(15,aF)],aG 1 aS jK []++aG 4 aL .R []++aG 5 aS aS.own []++aG 9 an .R []++aG 10 an .R [],Re⟩),(11,⟨[(1,aF),(2,aF),(4,aF),(5,.ptr 1),(8,.ptr 4),(10,.ptr 5),(11,.ptr 9),(14,.ptr 10)],aG 1 aS jK []++aG 4 aL .R []++aG 5 aS aS.own []++aG 9 an .R []++aG 10 an .R [],Re⟩),(12,⟨[(1,aF),(2,aF),(4,aF),(5,.ptr 1),(10,.ptr 4),(11,.ptr 8),(14,.ptr 9)],aG 1 aS jK []++aG 4 aS aS.own []++aG 8 an .R []++aG 9 an .R [],Re⟩)] alZ Yz sd (fun k x=>ID k x.1 x.2.1 x.2.2.1 x.2.2.2.1 x.2.2.2.2.1) (by kernel_rfl) rfl
def aa1:Entry:=⟨[aH aC,aH aC],dq,P4⟩
theorem al1:a' 265 aa1:=b4 bk 0 (fn:=Tryz.f265) (fns:=[]) trivial (by kernel_rfl)
def aa2:Entry:=⟨[aH (.sl aC),aH (.sl aC)],dq,P5⟩
def al2(k:b3 (Bool×Unit)):IE:=fun U aa ae=>k 4 (bd [(0,dx aC U),(1,dx aC aa),(5,aN ae)] [] dZ)
theorem al3:a' 229 aa2:=b0 bk 0 (fn:=Tryz.f229) (fns:=[(265,aa1)]) ⟨al1,trivial⟩ [(4,⟨[(0,.cell (.bG aC [])),(1,.cell (.bG aC [])),(5,aF)],[],dY⟩)] al2 IG xk (fun k x=>IF k x.1 x.2.1) (by kernel_rfl) rfl
def aa3:Entry:=⟨[aH J,aH J],dq,P7⟩
theorem al4:a' 197 aa3:=b4 bk 0 (fn:=Tryz.f197) (fns:=[(229,aa2)]) ⟨al3,trivial⟩ (by kernel_rfl)
def aa4:Entry:=⟨[aH (.sl J),aH (.sl J)],dq,P8⟩
def al5(k:b3 (Bool×Unit)):IH:=fun U aa ae=>k 4 (bd [(0,dx J U),(1,dx J aa),(5,aN ae)] [] dZ)
theorem al6:a' 149 aa4:=b0 bk 0 (fn:=Tryz.f149) (fns:=[(197,aa3)]) ⟨al4,trivial⟩ [(4,⟨[(0,.cell (.bG J [])),(1,.cell (.bG J [])),(5,aF)],[],dY⟩)] al5 IJ xl (fun k x=>II k x.1 x.2.1) (by kernel_rfl) rfl
def aa5:Entry:=⟨[aH ag,aH ag],dq,P_⟩
theorem al7:a' 85 aa5:=b4 bk 0 (fn:=Tryz.f85) (fns:=[(149,aa4)]) ⟨al6,trivial⟩ (by kernel_rfl)
def aa6:Entry:=⟨[aH aJ,aH aJ],dq,Qa⟩
theorem al8:a' 150 aa6:=b4 bk 0 (fn:=Tryz.f150) (fns:=[]) trivial (by kernel_rfl)
def aa7:Entry:=⟨[aH (.sl aJ),aH (.sl aJ)],dq,Qb⟩
def al9(k:b3 (Bool×Unit)):IK:=fun U aa ae=>k 4 (bd [(0,dx aJ U),(1,dx aJ aa),(5,aN ae)] [] dZ)
theorem al_:a' 86 aa7:=b0 bk 0 (fn:=Tryz.f86) (fns:=[(150,aa6)]) ⟨al8,trivial⟩ [(4,⟨[(0,.cell (.bG aJ [])),(1,.cell (.bG aJ [])),(5,aF)],[],dY⟩)] al9 IM xm (fun k x=>IL k x.1 x.2.1) (by kernel_rfl) rfl
def aa8:Entry:=⟨[aH an,aH an],dq,Qd⟩
theorem al':a' 30 aa8:=b4 bk 0 (fn:=Tryz.f30) (fns:=[]) trivial (by kernel_rfl)
def aa9:Entry:=⟨[aH aZ,aH aZ],dq,Qf⟩
theorem ama:a' 151 aa9:=b4 bk 0 (fn:=Tryz.f151) (fns:=[(30,aa8)]) ⟨al',trivial⟩ (by kernel_rfl)
def aa_:Entry:=⟨[aH (.sl aZ),aH (.sl aZ)],dq,Qg⟩
def amb(k:b3 (Bool×Unit)):IN:=fun U aa ae=>k 4 (bd [(0,dx aZ U),(1,dx aZ aa),(5,aN ae)] [] dZ)
theorem amc:a' 87 aa_:=b0 bk 0 (fn:=Tryz.f87) (fns:=[(151,aa9)]) ⟨ama,trivial⟩ [(4,⟨[(0,.cell (.bG aZ [])),(1,.cell (.bG aZ [])),(5,aF)],[],dY⟩)] amb IQ xn (fun k x=>IP k x.1 x.2.1) (by kernel_rfl) rfl
def aa':Entry:=⟨[aH aS,aH aS],dq,Cg⟩
theorem amd:a' 29 aa':=b4 bk 0 (fn:=Tryz.f29) (fns:=[(85,aa5),(86,aa7),(87,aa_)]) ⟨al7,al_,amc,trivial⟩ (by kernel_rfl)
def uG:Entry:=⟨[aH bl],[b1 .str],pI⟩
def ame(k:b3 ((aj)×Unit)):IS:=fun U aa=>k 4 (bd [(0,aN U),(3,eQ aa)] [] [.bB])
theorem xJ:a' 78 uG:=b0 bk 0 (fn:=Tryz.f78) (fns:=[]) trivial [(4,⟨[(0,aF),(3,aF)],[],[.drop]⟩)] ame IU xp (fun k x=>IT k x.1) (by kernel_rfl) rfl
def aba:Entry:=⟨[wa (.sl aC),aH bl],di,Qi⟩
def amf(k:b3 xq):zx:=fun U aa ae=>k 2 (bd [(0,.aU (.af 1 none)),(1,aN U),(5,aN aa)] [(1,.row aC .R 0 ae)] [.aU (.af 1 none),.bB])
theorem amg:a' 164 aba:=b0 bk 0 (fn:=Tryz.f164) (fns:=[(78,uG)]) ⟨xJ,trivial⟩ [(2,⟨[(0,.cell (.af 1)),(1,aF),(5,aF)],[(1,.row aC .R)],[.cell (.af 1),.drop]⟩)] amf IW sf (fun k x=>IV k x.1 x.2.1) (by kernel_rfl) rfl
def abb:Entry:=⟨[wa (.sl J),aH bl],di,Qj⟩
def amh(k:b3 mG):nC:=fun U aa ae=>k 2 (bd [(0,.aU (.af 1 none)),(1,aN U),(5,aN aa)] [(1,.row J sv 0 ae)] [.aU (.af 1 none),.bB])
theorem ami:a' 111 abb:=b0 bk 0 (fn:=Tryz.f111) (fns:=[(78,uG),(164,aba)]) ⟨xJ,amg,trivial⟩ [(2,⟨[(0,.cell (.af 1)),(1,aF),(5,aF)],[(1,.row J sv)],[.cell (.af 1),.drop]⟩)] amh IY sg (fun k x=>IX k x.1 x.2.1) (by kernel_rfl) rfl
def abc:Entry:=⟨[wa ag,aH bl],di,IZ⟩
theorem amj:a' 88 abc:=b4 bk 0 (fn:=Tryz.f88) (fns:=[(111,abb)]) ⟨ami,trivial⟩ (by kernel_rfl)
def abd:Entry:=⟨[wa (.sl aJ),aH bl],di,Ql⟩
def amk(k:b3 qH):sh:=fun U aa ae=>k 2 (bd [(0,.aU (.af 1 none)),(1,aN U),(5,aN aa)] [(1,.row aJ .R 0 ae)] [.aU (.af 1 none),.bB])
theorem aml:a' 89 abd:=b0 bk 0 (fn:=Tryz.f89) (fns:=[]) trivial [(2,⟨[(0,.cell (.af 1)),(1,aF),(5,aF)],[(1,.row aJ .R)],[.cell (.af 1),.drop]⟩)] amk I1 si (fun k x=>I0 k x.1 x.2.1) (by kernel_rfl) rfl
def abe:Entry:=⟨[wa (.sl aZ),aH bl],di,Qm⟩
def amm(k:b3 qI):sj:=fun U aa ae=>k 2 (bd [(0,.aU (.af 1 none)),(1,aN U),(5,aN aa)] [(1,.row aZ .R 0 ae)] [.aU (.af 1 none),.bB])
theorem amn:a' 90 abe:=b0 bk 0 (fn:=Tryz.f90) (fns:=[(78,uG)]) ⟨xJ,trivial⟩ [(2,⟨[(0,.cell (.af 1)),(1,aF),(5,aF)],[(1,.row aZ .R)],[.cell (.af 1),.drop]⟩)] amm I3 sk (fun k x=>I2 k x.1 x.2.1) (by kernel_rfl) rfl
def abf:Entry:=⟨[wa aS,aH bl],di,I4⟩
theorem amo:a' 31 abf:=b4 bk 0 (fn:=Tryz.f31) (fns:=[(88,abc),(89,abd),(90,abe)]) ⟨amj,aml,amn,trivial⟩ (by kernel_rfl)
def abg:Entry:=⟨[aH (.sl aC),aH bl],di,Qo⟩
def amp(k:b3 (Int×Unit)):I5:=fun U aa ae=>k 2 (bd [(0,dx aC U),(1,aN aa),(5,aN ae)] [] dZ)
theorem amq:a' 165 abg:=b0 bk 0 (fn:=Tryz.f165) (fns:=[(78,uG)]) ⟨xJ,trivial⟩ [(2,⟨[(0,.cell (.bG aC [])),(1,aF),(5,aF)],[],dY⟩)] amp I7 sm (fun k x=>I6 k x.1 x.2.1) (by kernel_rfl) rfl
def abh:Entry:=⟨[aH (.sl J),aH bl],di,Qp⟩
def amr(k:b3 (Int×Unit)):I8:=fun U aa ae=>k 2 (bd [(0,dx J U),(1,aN aa),(5,aN ae)] [] dZ)
theorem ams:a' 112 abh:=b0 bk 0 (fn:=Tryz.f112) (fns:=[(78,uG),(165,abg)]) ⟨xJ,amq,trivial⟩ [(2,⟨[(0,.cell (.bG J [])),(1,aF),(5,aF)],[],dY⟩)] amr I_ sn (fun k x=>I9 k x.1 x.2.1) (by kernel_rfl) rfl
def abi:Entry:=⟨[aH ag,aH bl],di,Qr⟩
theorem amt:a' 91 abi:=b4 bk 0 (fn:=Tryz.f91) (fns:=[(112,abh)]) ⟨ams,trivial⟩ (by kernel_rfl)
def abj:Entry:=⟨[aH (.sl aJ),aH bl],di,Qs⟩
def amu(k:b3 (Int×Unit)):I':=fun U aa ae=>k 2 (bd [(0,dx aJ U),(1,aN aa),(5,aN ae)] [] dZ)
theorem amv:a' 92 abj:=b0 bk 0 (fn:=Tryz.f92) (fns:=[]) trivial [(2,⟨[(0,.cell (.bG aJ [])),(1,aF),(5,aF)],[],dY⟩)] amu Jb so (fun k x=>Ja k x.1 x.2.1) (by kernel_rfl) rfl
def abk:Entry:=⟨[aH (.sl aZ),aH bl],di,Qt⟩
def amw(k:b3 (Int×Unit)):Jc:=fun U aa ae=>k 2 (bd [(0,dx aZ U),(1,aN aa),(5,aN ae)] [] dZ)
theorem amx:a' 93 abk:=b0 bk 0 (fn:=Tryz.f93) (fns:=[(78,uG)]) ⟨xJ,trivial⟩ [(2,⟨[(0,.cell (.bG aZ [])),(1,aF),(5,aF)],[],dY⟩)] amw Je sq (fun k x=>Jd k x.1 x.2.1) (by kernel_rfl) rfl
def abl:Entry:=⟨[aH aS,aH bl],di,Ch⟩
theorem amy:a' 32 abl:=b4 bk 0 (fn:=Tryz.f32) (fns:=[(91,abi),(92,abj),(93,abk)]) ⟨amt,amv,amx,trivial⟩ (by kernel_rfl)
def abm:Entry:=⟨[],[ro ag],YW⟩
theorem amz:a' 153 abm:=b4 bk 0 (fn:=Tryz.f153) (fns:=[]) trivial (by kernel_rfl)
def abn:Entry:=⟨[],[.val aS jK],Qv⟩
theorem amA:a' 96 abn:=b4 bk 0 (fn:=Tryz.f96) (fns:=[(153,abm)]) ⟨amz,trivial⟩ (by kernel_rfl)
def abo:Entry:=⟨[aH bl],di,Qx⟩
theorem amB:a' 140 abo:=b4 bk 0 (fn:=Tryz.f140) (fns:=[]) trivial (by kernel_rfl)
def abp:Entry:=⟨[aH an,aH bl],di,Qz⟩
theorem amC:a' 71 abp:=b4 bk 0 (fn:=Tryz.f71) (fns:=[]) trivial (by kernel_rfl)
def abq:Entry:=⟨[aH (.sl an),aH bl],di,QA⟩
def amD(k:b3 (Int×Unit)):Jf:=fun U aa ae=>k 5 (bd [(0,dx an U),(1,aN aa),(5,aN ae)] [] dZ)
theorem amE:a' 16 abq:=b0 bk 0 (fn:=Tryz.f16) (fns:=[(71,abp)]) ⟨amC,trivial⟩ [(5,⟨[(0,.cell (.bG an [])),(1,aF),(5,aF)],[],dY⟩)] amD Jh xr (fun k x=>Jg k x.1 x.2.1) (by kernel_rfl) rfl
def abr:Entry:=⟨[aH bl],dq,QC⟩
theorem amF:a' 72 abr:=b4 bk 0 (fn:=Tryz.f72) (fns:=[]) trivial (by kernel_rfl)
def abt:Entry:=⟨[aH aQ],dq,QE⟩
theorem amG:a' 199 abt:=b4 bk 0 (fn:=Tryz.f199) (fns:=[(67,lY),(132,zM)]) ⟨mI,Cy,trivial⟩ (by kernel_rfl)
def abu:Entry:=⟨[aH (.sl aQ),aH bl],dq,Jl⟩
def amH(k:b3 (Bool×Unit)):Ji:=fun U aa ae=>k 2 (bd [(0,dx aQ U),(1,aN aa),(5,aN ae)] [] dZ)
theorem amI:a' 161 abu:=b0 bk 0 (fn:=Tryz.f161) (fns:=[(199,abt)]) ⟨amG,trivial⟩ [(2,⟨[(0,.cell (.bG aQ [])),(1,aF),(5,aF)],[],dY⟩)] amH Jk qJ (fun k x=>Jj k x.1 x.2.1) (by kernel_rfl) rfl
def abv:Entry:=⟨[aH (.sl aQ)],dq,QG⟩
theorem amJ:a' 106 abv:=b4 bk 0 (fn:=Tryz.f106) (fns:=[(161,abu)]) ⟨amI,trivial⟩ (by kernel_rfl)
def zR:Entry:=⟨[aH bl],[b1 .str],qK⟩
def amK(k:b3 ((aj)×Unit)):Ci:=fun U aa=>k 4 (bd [(0,aN U),(3,.aU (.af 1 none))] [(1,.row (.int .u8) .R 0 aa)] [.bB])
theorem CB:a' 162 zR:=b0 bk 0 (fn:=Tryz.f162) (fns:=[(67,lY)]) ⟨mI,trivial⟩ [(4,⟨[(0,aF),(3,.cell (.af 1))],[(1,.row (.int .u8) .R)],[.drop]⟩)] amK QH zy (fun k x=>Jm k x.1) (by kernel_rfl) rfl
def RT:Entry:=⟨[aH .str],[b1 .str],zz⟩
theorem abw:a' 163 RT:=b4 bk 0 (fn:=Tryz.f163) (fns:=[(162,zR)]) ⟨CB,trivial⟩ (by kernel_rfl)
def abx:Entry:=⟨[aH bl],[b1 .str],zA⟩
theorem amL:a' 198 abx:=b4 bk 0 (fn:=Tryz.f198) (fns:=[(162,zR)]) ⟨CB,trivial⟩ (by kernel_rfl)
def RU:Entry:=⟨[aH aL],[b1 .str],zB⟩
theorem aby:a' 160 RU:=b4 bk 0 (fn:=Tryz.f160) (fns:=[(132,zM),(162,zR),(163,RT),(198,abx)]) ⟨Cy,CB,abw,amL,trivial⟩ (by kernel_rfl)
def abz:Entry:=⟨[aH aQ],[b1 .str],QM⟩
theorem amM:a' 107 abz:=b4 bk 0 (fn:=Tryz.f107) (fns:=[(160,RU),(162,zR),(163,RT)]) ⟨aby,CB,abw,trivial⟩ (by kernel_rfl)
def abA:Entry:=⟨[aH (.sl aQ)],[b1 .str],QN⟩
def amN(k:b3 ((aj)×Unit)):Jn:=fun U aa ae=>k 5 (bd [(0,dx aQ U),(3,eQ aa),(4,aN ae)] [] [.bB])
theorem amO:a' 43 abA:=b0 bk 0 (fn:=Tryz.f43) (fns:=[(106,abv),(107,abz)]) ⟨amJ,amM,trivial⟩ [(5,⟨[(0,.cell (.bG aQ [])),(3,aF),(4,aF)],[],[.drop]⟩)] amN zC xt (fun k x=>Jo k x.1) (by kernel_rfl) rfl
def abB:Entry:=⟨[aH .str],[b1 bl,b1 bl],QO⟩
def amP(k:b3 (Int×Int×Unit)):xu:=⟨fun U aa=>k 2 (bd [(0,eQ U),(4,aN aa)] [] [.bB]),fun U aa ae ai=>k 6 (bd [(0,eQ U),(4,aN aa),(5,aN ae),(6,aN ai)] [] [.bB])⟩
theorem amQ:a' 158 abB:=b0 bk 0 (fn:=Tryz.f158) (fns:=[(162,zR)]) ⟨CB,trivial⟩ [(2,⟨[(0,aF),(4,aF)],[],[.drop]⟩),(6,⟨[(0,aF),(4,aF),(5,aF),(6,aF)],[],[.drop]⟩)] amP YY mH (fun k x=>Jp k x.1) (by kernel_rfl) rfl
def J5:Entry:=⟨[aH .str,aH bl,aH bl],[ro (.sl bl),b1 bl],pL⟩
def amR(k:b3 Ck):Jq:=fun U aa ae ai aq=>k 3 (bd [(0,eQ U),(1,aN aa),(2,aN ae),(8,.aU (.af 1 none)),(9,aN ai)] [(1,.row bl .R 0 aq)] ez)
theorem RV:a' 103 J5:=b0 bk 0 (fn:=Tryz.f103) (fns:=[(158,abB)]) ⟨amQ,trivial⟩ [(3,⟨[(0,aF),(1,aF),(2,aF),(8,.cell (.af 1)),(9,aF)],[(1,.row bl .R)],ew⟩)] amR Cl pK (fun k x=>Jr k x.1 x.2.1 x.2.2.1) (by kernel_rfl) rfl
def RW:Entry:=⟨[aH .str,aH bl],[b1 .str,b1 bl],xw⟩
theorem abC:a' 104 RW:=b4 bk 0 (fn:=Tryz.f104) (fns:=[(103,J5)]) ⟨RV,trivial⟩ (by kernel_rfl)
def abD:Entry:=⟨[aH bl],di,zD⟩
theorem amS:a' 159 abD:=b4 bk 0 (fn:=Tryz.f159) (fns:=[]) trivial (by kernel_rfl)
def abE:Entry:=⟨[aH .str],[b1 aL,b1 .bool],QR⟩
theorem amT:a' 105 abE:=b4 bk 0 (fn:=Tryz.f105) (fns:=[(103,J5),(104,RW),(159,abD),(160,RU)]) ⟨RV,abC,amS,aby,trivial⟩ (by kernel_rfl)
def abF:Entry:=⟨[aH .str],[ro (.sl aQ),b1 .bool],QS⟩
def amU(k:b3 zE):Cm:=fun U aa ae=>k 5 (bd [(0,eQ U),(4,.aU (.af 1 none)),(5,aN aa)] [(1,.row aQ .R 0 ae)] [.bB])
theorem amV:a' 41 abF:=b0 bk 0 (fn:=Tryz.f41) (fns:=[(43,abA),(103,J5),(104,RW),(105,abE)]) ⟨amO,RV,abC,amT,trivial⟩ [(5,⟨[(0,aF),(4,.cell (.af 1)),(5,aF)],[(1,.row aQ .R)],[.drop]⟩)] amU uy uz (fun k x=>Js k x.1) (by kernel_rfl) rfl
def abG:Entry:=⟨[aH (.sl an),aH bl,aH bl],[.val aS jK,ro (.sl fy)],QT⟩
def amW(k:b3 qL):qM:=⟨fun U aa ae ai aq ay aW=>k 4 (bd [(0,dx an U),(1,aN aa),(2,aN ae),(6,aE 1),(8,aE 5),(9,.aU (.af 8 none)),(10,aN ai)] (aI 1 aS aS.own [] aq++aI 5 aS jK [] ay++[(8,.row fy .R 0 aW)]) ez),fun U aa ae ai aq ay aW bq bw=>k 10 (bd [(0,dx an U),(1,aN aa),(2,aN ae),(6,aE 1),(8,aE 5),(9,.aU (.af 8 none)),(10,aN ai),(11,.aU (.af 9 none)),(13,aN aq)] (aI 1 aS aS.own [] ay++aI 5 aS jK [] aW++[(8,.row fy .R 0 bq),(9,.row aQ .R 0 bw)]) ez)⟩
theorem amX:a' 73 abG:=b0 bk 0 (fn:=Tryz.f73) (fns:=[(41,abF),(64,aa0),(140,abo),(96,abn)]) ⟨amV,al0,amB,amA,trivial⟩ [(4,⟨[(0,.cell (.bG an [])),(1,aF),(2,aF),(6,.ptr 1),(8,.ptr 5),(9,.cell (.af 8)),(10,aF)],aG 1 aS aS.own []++aG 5 aS jK []++[(8,.row fy .R)],ew⟩),(10,⟨[(0,.cell (.bG an [])),(1,aF),(2,aF),(6,.ptr 1),(8,.ptr 5),(9,.cell (.af 8)),(10,aF),(11,.cell (.af 9)),(13,aF)],aG 1 aS aS.own []++aG 5 aS jK []++[(8,.row fy .R),(9,.row aQ .R)],ew⟩)] amW Y4 qN (fun k x=>Jt k x.1 x.2.1 x.2.2.1) (by kernel_rfl) rfl
def abH:Entry:=⟨[aH an],[b1 an],QV⟩
theorem amY:a' 74 abH:=b4 bk 0 (fn:=Tryz.f74) (fns:=[]) trivial (by kernel_rfl)
def abI:Entry:=⟨[aH (.sl an)],[ro (.sl an)],zF⟩
def amZ(k:b3 Cn):Jw:=fun U aa ae=>k 3 (bd [(0,dx an U),(3,.aU (.af 1 none)),(4,aN aa)] [(1,.row an .R 0 ae)] [.bB])
theorem am0:a' 18 abI:=b0 bk 0 (fn:=Tryz.f18) (fns:=[(74,abH)]) ⟨amY,trivial⟩ [(3,⟨[(0,.cell (.bG an [])),(3,.cell (.af 1)),(4,aF)],[(1,.row an .R)],[.drop]⟩)] amZ Jy xx (fun k x=>Jx k x.1) (by kernel_rfl) rfl
def abJ:Entry:=⟨[],[ro ag],Y5⟩
theorem am1:a' 95 abJ:=b4 bk 0 (fn:=Tryz.f95) (fns:=[]) trivial (by kernel_rfl)
def abK:Entry:=⟨[],[ro aS],QW⟩
theorem am2:a' 35 abK:=b4 bk 0 (fn:=Tryz.f35) (fns:=[(95,abJ)]) ⟨am1,trivial⟩ (by kernel_rfl)
def abL:Entry:=⟨[aH .str],[b1 bl,b1 bl],QX⟩
def am3(k:b3 (Int×Int×Unit)):Jz:=fun U aa ae=>k 3 (bd [(0,eQ U),(4,aN aa),(5,aN ae)] [] [.bB])
theorem am4:a' 223 abL:=b0 bk 0 (fn:=Tryz.f223) (fns:=[]) trivial [(3,⟨[(0,aF),(4,aF),(5,aF)],[],[.drop]⟩)] am3 JB xy (fun k x=>JA k x.1) (by kernel_rfl) rfl
def J6:Entry:=⟨[y_ kt],di,sr⟩
theorem RX:a' 189 J6:=b4 bk 0 (fn:=Tryz.f189) (fns:=[(223,abL)]) ⟨am4,trivial⟩ (by kernel_rfl)
def abM:Entry:=⟨[y_ kt,aH bl],[b1 .str],zG⟩
theorem am5:a' 225 abM:=b4 bk 0 (fn:=Tryz.f225) (fns:=[]) trivial (by kernel_rfl)
def RY:Entry:=⟨[y_ kt],[b1 .str],xA⟩
theorem abN:a' 191 RY:=b4 bk 0 (fn:=Tryz.f191) (fns:=[(189,J6),(225,abM)]) ⟨RX,am5,trivial⟩ (by kernel_rfl)
def abO:Entry:=⟨[aH bl],di,JC⟩
theorem am6:a' 224 abO:=b4 bk 0 (fn:=Tryz.f224) (fns:=[]) trivial (by kernel_rfl)
def abP:Entry:=⟨[aH .str],[b1 aL,b1 .bool],Q1⟩
theorem am7:a' 190 abP:=b4 bk 0 (fn:=Tryz.f190) (fns:=[(127,zI),(189,J6),(191,RY),(224,abO)]) ⟨Cs,RX,abN,am6,trivial⟩ (by kernel_rfl)
def abQ:Entry:=⟨[aH aQ],dq,Q3⟩
theorem am8:a' 262 abQ:=b4 bk 0 (fn:=Tryz.f262) (fns:=[(119,kx),(127,zI)]) ⟨kY,Cs,trivial⟩ (by kernel_rfl)
def abR:Entry:=⟨[aH (.sl aQ),aH bl],dq,JF⟩
def am9(k:b3 (Bool×Unit)):xB:=⟨fun U aa ae ai aq ay=>k 3 (bd [(0,dx aQ U),(1,aN aa),(5,aN ae),(8,dx aQ ai),(9,aN aq),(10,aN ay)] [] dZ),fun U aa ae ai aq ay aW bq=>k 8 (bd [(0,dx aQ U),(1,aN aa),(5,aN ae),(6,aN ai),(7,aE 1),(8,dx aQ aq),(9,aN ay),(10,aN aW)] (aI 1 aQ .R [] bq) dZ)⟩
theorem am_:a' 226 abR:=b0 bk 0 (fn:=Tryz.f226) (fns:=[(262,abQ)]) ⟨am8,trivial⟩ [(3,⟨[(0,.cell (.bG aQ [])),(1,aF),(5,aF),(8,.cell (.bG aQ [])),(9,aF),(10,aF)],[],dY⟩),(8,⟨[(0,.cell (.bG aQ [])),(1,aF),(5,aF),(6,aF),(7,.ptr 1),(8,.cell (.bG aQ [])),(9,aF),(10,aF)],aG 1 aQ .R [],dY⟩)] am9 Y_ qO (fun k x=>JD k x.1 x.2.1) (by kernel_rfl) rfl
def abS:Entry:=⟨[aH (.sl aQ)],dq,JG⟩
theorem am':a' 192 abS:=b4 bk 0 (fn:=Tryz.f192) (fns:=[(226,abR)]) ⟨am_,trivial⟩ (by kernel_rfl)
def abT:Entry:=⟨[aH .str],[ro (.sl aQ),b1 .bool],JJ⟩
def ana(k:b3 Cq):JH:=fun U aa=>k 5 (bd [(4,aE 1),(5,.aU (.af 2 none))] (aI 1 kt .R [] U++[(2,.row aQ .R 0 aa)]) [.bB])
theorem anb:a' 141 abT:=b0 bk 0 (fn:=Tryz.f141) (fns:=[(189,J6),(190,abP),(191,RY),(192,abS)]) ⟨RX,am7,abN,am',trivial⟩ [(5,⟨[(4,.ptr 1),(5,.cell (.af 2))],aG 1 kt .R []++[(2,.row aQ .R)],[.drop]⟩)] ana qP qQ (fun k x=>JI k x.1) (by kernel_rfl) rfl
def abU:Entry:=⟨[aH bl],di,Q6⟩
theorem anc:a' 142 abU:=b4 bk 0 (fn:=Tryz.f142) (fns:=[]) trivial (by kernel_rfl)
def abV:Entry:=⟨[aH (.sl an),aH bl,aH bl],[ro aS,ro (.sl fy),b1 .bool],Q7⟩
def ane(k:b3 uA):uB:=⟨fun U aa ae ai aq ay aW=>k 6 (bd [(1,aN U),(6,aE 1),(9,aE 5),(10,.aU (.af 9 none)),(39,dx an aa),(40,aN ae),(41,aN ai)] (aI 1 aS aS.own [] aq++aI 5 aS aS.own [] ay++[(9,.row fy .R 0 aW)]) ez),fun U aa ae ai aq ay aW bq bw eF fg=>k 12 (bd [(1,aN U),(6,aE 1),(9,aE 5),(10,.aU (.af 9 none)),(11,aN aa),(39,dx an ae),(40,aN ai),(41,aN aq),(58,.aU (.af 10 none)),(59,aN ay),(60,aN aW)] (aI 1 aS aS.own [] bq++aI 5 aS aS.own [] bw++[(9,.row fy .R 0 eF),(10,.row aQ .R 0 fg)]) ez)⟩
theorem anf:a' 75 abV:=b0 bk 0 (fn:=Tryz.f75) (fns:=[(35,abK),(63,aam),(119,kx),(141,abT),(142,abU)]) ⟨am2,ak1,kY,anb,anc,trivial⟩ [(6,⟨[(1,aF),(6,.ptr 1),(9,.ptr 5),(10,.cell (.af 9)),(39,.cell (.bG an [])),(40,aF),(41,aF)],aG 1 aS aS.own []++aG 5 aS aS.own []++[(9,.row fy .R)],ew⟩),(12,⟨[(1,aF),(6,.ptr 1),(9,.ptr 5),(10,.cell (.af 9)),(11,aF),(39,.cell (.bG an [])),(40,aF),(41,aF),(58,.cell (.af 10)),(59,aF),(60,aF)],aG 1 aS aS.own []++aG 5 aS aS.own []++[(9,.row fy .R),(10,.row aQ .R)],ew⟩)] ane Za pM (fun k x=>JK k x.1 x.2.1 x.2.2.1) (by kernel_rfl) rfl
def abW:Entry:=⟨[aH an,aH an],dq,Q9⟩
theorem ang:a' 77 abW:=b4 bk 0 (fn:=Tryz.f77) (fns:=[]) trivial (by kernel_rfl)
def abX:Entry:=⟨[aH (.sl an),aH (.sl an)],dq,Q_⟩
def anh(k:b3 (Bool×Unit)):JN:=fun U aa ae=>k 4 (bd [(0,dx an U),(1,dx an aa),(5,aN ae)] [] dZ)
theorem ani:a' 21 abX:=b0 bk 0 (fn:=Tryz.f21) (fns:=[(77,abW)]) ⟨ang,trivial⟩ [(4,⟨[(0,.cell (.bG an [])),(1,.cell (.bG an [])),(5,aF)],[],dY⟩)] anh JP xC (fun k x=>JO k x.1 x.2.1) (by kernel_rfl) rfl
def abY:Entry:=⟨[wa (.sl an),aH bl],di,Ra⟩
def anj(k:b3 xD):zH:=fun U aa ae=>k 2 (bd [(0,.aU (.af 1 none)),(1,aN U),(5,aN aa)] [(1,.row an .R 0 ae)] [.aU (.af 1 none),.bB])
theorem ank:a' 22 abY:=b0 bk 0 (fn:=Tryz.f22) (fns:=[(78,uG)]) ⟨xJ,trivial⟩ [(2,⟨[(0,.cell (.af 1)),(1,aF),(5,aF)],[(1,.row an .R)],[.cell (.af 1),.drop]⟩)] anj JR su (fun k x=>JQ k x.1 x.2.1) (by kernel_rfl) rfl
def abZ:Entry:=⟨[aH (.sl an),aH bl,aH bl],[ro aS,b1 .bool],Cr⟩
theorem anl:a' 34 abZ:=b4 bk 0 (fn:=Tryz.f34) (fns:=[(75,abV)]) ⟨anf,trivial⟩ (by kernel_rfl)
def ab0:Entry:=⟨[aH (.sl an),aH bl,aH bl],[b1 aS,b1 .bool],JS⟩
theorem anm:a' 38 ab0:=b4 bk 0 (fn:=Tryz.f38) (fns:=[(67,lY),(72,abr),(73,abG)]) ⟨mI,amF,amX,trivial⟩ (by kernel_rfl)
def zS:Entry:=⟨[aH (.sl an),aH bl,aH bl],dq,Zf⟩
theorem ann:a' 7 zS:=b4 bk 0 (fn:=Tryz.f7) (fns:=[(16,abq),(18,abI),(21,abX),(22,abY),(29,aa'),(31,abf),(32,abl),(34,abZ),(38,ab0)]) ⟨amE,am0,ani,ank,amd,amo,amy,anl,anm,trivial⟩ (by kernel_rfl)
end
end Go.LM.ks
