/- Each function keeps its contract. Printed by a program. Conditions: each theorem's own hypotheses. -/
import Derived.Test.YtlkbjdmfbadhaaaGreatDoorZVa
import Derived.Test.YtlkbjdmfbadhaaaGreatDoorZLmd
import Derived.Test.YtlkbjdmfbadhaaaGreatDoorChecked
import Derived.Test.YtlkbjdmfbadhaaaGreatDoorZIn
set_option linter.unusedVariables false
set_option linter.defProp false
set_option linter.unusedSimpArgs false
namespace Go.LM.i_
noncomputable section
open Go.Proofs
abbrev mI:a8:=.S (.cons .R (.cons .R (.cons .R (.cons .R (.cons .R (.cons .R (.cons (.O .R) (.cons .R (.cons .R .nil)))))))))
abbrev SD:a8:=.S (.cons .R (.cons (.O mI) .nil))
abbrev cg:a8:=.S (.cons SD (.cons .R (.cons .R .nil)))
def tab:List (Nat×U):=[(3,.int .i64),(4,.bool),(5,.int .u8),(9,.str),(22,.sl (.int .u8)),(24,.sl J),(26,ad),(27,.sl aG),(28,.sl aK),(30,ak),(32,aL),(36,aA),(42,aG),(55,.sl J),(57,ad),(58,.sl aG),(59,.sl aK),(61,ak),(74,.sl (.int .i64)),(78,.sl ak),(80,.sl bh),(89,.sl aB),(94,aB),(97,bh),(98,.sl ak),(111,aK),(148,.sl ar),(150,J),(183,.sl .bool),(187,ar),(192,aA),(194,aK),(197,aG),(203,.sl .str),(224,aM),(233,i'),(236,.sl ar),(238,J),(255,aN),(265,aV),(281,ar)]
def kF:List Nat:=[15,16,17,105,174,231,246,247,253,302,317]
def eqs:List Nat:=[32,36,42,94,97,111,187,192,194,197,233,265,281]
def GM:q7 Tryz.prog tab=true:=by kernel_rfl
def GN:q8 Tryz.prog kF=true:=by kernel_rfl
def GO:q9 Tryz.prog tab eqs=true:=by kernel_rfl
def mix:Tryz.prog.follows .mixedOrders=true:=by kernel_rfl
def bk:jV Tryz.prog:=⟨tab,kF,eqs,GM,GN,GO,mix⟩
set_option maxRecDepth 100000
abbrev fE:a8:=.S (.cons .R (.cons .R (.cons (.O .R) (.cons (.O .R) .nil))))
abbrev gA:a8:=.S (.cons .R (.cons (.O .R) .nil))
abbrev nA:a8:=.S (.cons SD (.cons .R (.cons (.O .R) (.cons (.O .R) .nil))))
abbrev ba:U:=.int .i64
abbrev alS:Type:=List (Nat×gH)
abbrev aT(i:Nat)(e:Entry):Prop:=Sound Tryz.prog i 0 e
abbrev bB(α:Type):Type:=Nat->av->Option α
abbrev c5:List ig:=[.drop,.drop]
abbrev dS:List ig:=[.drop,.drop,.drop]
abbrev lJ:List ig:=[.drop,.drop,.drop,.drop]
abbrev Md:List ig:=[.drop,.drop,.drop,.drop,.drop]
abbrev c6:List aY:=[.bf,.bf]
abbrev dU:List aY:=[.bf,.bf,.bf]
abbrev lK:List aY:=[.bf,.bf,.bf,.bf]
abbrev Me:List aY:=[.bf,.bf,.bf,.bf,.bf]
abbrev cF:List cN:=[bT ba]
abbrev ct:List cN:=[bT .bool]
def gX:Entry:=⟨[aD ba,aD ba,aD ba],ct,cT⟩
def hQ:aT 119 gX:=bQ bk 0 (fn:=Tryz.f119) (fns:=[]) trivial (by kernel_rfl)
def SE:Entry:=⟨[aD aA],ct,zV⟩
def aa':aT 120 SE:=bQ bk 0 (fn:=Tryz.f120) (fns:=[(119,gX)]) ⟨hQ,trivial⟩ (by kernel_rfl)
def Mf:Entry:=⟨[aD (.sl aG)],ct,zZ⟩
def aba(k:bB (Bool×Unit)):zW:=fun a b d e=>k 2 (aW [(0,cq aG a),(5,cq aG b),(6,aJ d),(7,aJ e)] [] [.bf])
def SF:aT 121 Mf:=bw bk 0 (fn:=Tryz.f121) (fns:=[(119,gX)]) ⟨hQ,trivial⟩ [(2,⟨[(0,.cell (.bq aG [])),(5,.cell (.bq aG [])),(6,az),(7,az)],[],[.drop]⟩)] aba zY rM (fun k x=>zX k x.1) (by kernel_rfl) rfl
def Mg:Entry:=⟨[aD (.int .u8)],ct,z1⟩
def SG:aT 230 Mg:=bQ bk 0 (fn:=Tryz.f230) (fns:=[]) trivial (by kernel_rfl)
def E7:Entry:=⟨[aD .str],ct,uI⟩
def abb(k:bB (Bool×Unit)):z6:=fun a b d=>k 2 (aW [(0,dZ a),(5,aJ b),(6,aJ d)] [] [.bf])
def Mh:aT 203 E7:=bw bk 0 (fn:=Tryz.f203) (fns:=[(119,gX),(230,Mg)]) ⟨hQ,SG,trivial⟩ [(2,⟨[(0,az),(5,az),(6,az)],[],[.drop]⟩)] abb z8 rN (fun k x=>z7 k x.1) (by kernel_rfl) rfl
def lL:Entry:=⟨[e4 ad,aD ba],[.m1 J],fo⟩
def abc(k:bB wO):z_:=fun a b d e=>k 2 (aW [(0,.c2 (ly []) (aP ad .R [] a 0) 0),(1,aJ b),(10,aJ d),(11,aJ e)] [] c6)
def mJ:aT 205 lL:=bw bk 0 (fn:=Tryz.f205) (fns:=[]) trivial [(2,⟨[(0,.c2 [] (m8 ad .R [] 0)),(1,az),(10,az),(11,az)],[],c5⟩)] abc Aa rO (fun k x=>z' k x.1 x.2.1) (by kernel_rfl) rfl
def E8:Entry:=⟨[uH ad,aD ba],[.opt 0 1 J],uJ⟩
def abd(k:bB (Int×ad.D×Unit)):Ab:=fun a b d e=>k 2 (aW [(0,aE 1),(1,aJ a),(10,aJ b),(11,aJ d)] (aI 1 ad ad.own [] e) [aE 1,.bf])
def Mi:aT 205 E8:=bw bk 0 (fn:=Tryz.f205) (fns:=[]) trivial [(2,⟨[(0,.ptr 1),(1,az),(10,az),(11,az)],aH 1 ad ad.own [],[.ptr 1,.drop]⟩)] abd Ad rP (fun k x=>Ac k x.1 x.2.1) (by kernel_rfl) rfl
def SH:Entry:=⟨[aD .str],ct,Ii⟩
def abe(k:bB (Bool×Unit)):Ae:=fun a b d=>k 2 (aW [(0,dZ a),(5,aJ b),(6,aJ d)] [] [.bf])
def abf:aT 231 SH:=bw bk 0 (fn:=Tryz.f231) (fns:=[(119,gX),(230,Mg)]) ⟨hQ,SG,trivial⟩ [(2,⟨[(0,az),(5,az),(6,az)],[],[.drop]⟩)] abe Ag rQ (fun k x=>Af k x.1) (by kernel_rfl) rfl
def SI:Entry:=⟨[e4 ad,aD J],ct,Ij⟩
def abg(k:bB (Bool×Unit)):Ah:=fun a b d e g=>k 2 (aW [(0,.c2 (ly []) (aP ad .R [] a 0) 0),(3,aE 1),(8,cq ar b),(9,aJ d),(10,aJ e)] (aI 1 J .R [] g) c6)
def abh:aT 204 SI:=bw bk 0 (fn:=Tryz.f204) (fns:=[(205,lL),(231,SH)]) ⟨mJ,abf,trivial⟩ [(2,⟨[(0,.c2 [] (m8 ad .R [] 0)),(3,.ptr 1),(8,.cell (.bq ar [])),(9,az),(10,az)],aH 1 J .R [],c5⟩)] abg Aj rR (fun k x=>Ai k x.1 x.2.1) (by kernel_rfl) rfl
def SJ:Entry:=⟨[e4 ad,aD J],ct,Am⟩
def abi(k:bB (Bool×Unit)):Ak:=fun a b=>k 5 (aW [(0,.c2 (ly []) (aP ad .R [] a 0) 0),(3,aE 1)] (aI 1 J .R [] b) c6)
def abj:aT 169 SJ:=bw bk 0 (fn:=Tryz.f169) (fns:=[(119,gX),(203,E7),(204,SI)]) ⟨hQ,Mh,abh,trivial⟩ [(5,⟨[(0,.c2 [] (m8 ad .R [] 0)),(3,.ptr 1)],aH 1 J .R [],c5⟩)] abi Ik wP (fun k x=>Al k x.1 x.2.1) (by kernel_rfl) rfl
def SK:Entry:=⟨[aD (.sl ba),aD ba],cF,Il⟩
def abk(k:bB (Int×Unit)):An:=fun a b d e=>k 2 (aW [(0,cq ba a),(1,aJ b),(7,aJ d),(8,aJ e)] [] c6)
def abl:aT 206 SK:=bw bk 0 (fn:=Tryz.f206) (fns:=[]) trivial [(2,⟨[(0,.cell (.bq ba [])),(1,az),(7,az),(8,az)],[],c5⟩)] abk Ap rS (fun k x=>Ao k x.1 x.2.1) (by kernel_rfl) rfl
def xW:Entry:=⟨[aD (.sl ba),aD ba],ct,p3⟩
def E9:aT 171 xW:=bQ bk 0 (fn:=Tryz.f171) (fns:=[(206,SK)]) ⟨abl,trivial⟩ (by kernel_rfl)
def E_:Entry:=⟨[e4 ad,aD ba],[ro (.sl ba)],rU⟩
def abm(k:bB ((List Int)×Unit)):rT:=⟨fun a b d e=>k 4 (aW [(0,.c2 (ly []) (aP ad .R [] a 0) 0),(5,.aP (.aa 1 none)),(6,.aP (.aa 2 none)),(7,aJ b)] [(1,.row ba .R 0 d),(2,.row ba .R 0 e)] c6),fun a b d e g h i=>k 9 (aW [(0,.c2 (ly []) (aP ad .R [] a 0) 0),(5,.aP (.aa 1 none)),(6,.aP (.aa 2 none)),(7,aJ b),(31,cq ar d),(32,aJ e),(33,aJ g)] [(1,.row ba .R 0 h),(2,.row ba .R 0 i)] c6)⟩
def Mj:aT 170 E_:=bw bk 0 (fn:=Tryz.f170) (fns:=[(171,xW),(205,lL)]) ⟨E9,mJ,trivial⟩ [(4,⟨[(0,.c2 [] (m8 ad .R [] 0)),(5,.cell (.aa 1)),(6,.cell (.aa 2)),(7,az)],[(1,.row ba .R),(2,.row ba .R)],c5⟩),(9,⟨[(0,.c2 [] (m8 ad .R [] 0)),(5,.cell (.aa 1)),(6,.cell (.aa 2)),(7,az),(31,.cell (.bq ar [])),(32,az),(33,az)],[(1,.row ba .R),(2,.row ba .R)],c5⟩)] abm Qy kU (fun k x=>Aq k x.1 x.2.1) (by kernel_rfl) rfl
def E':Entry:=⟨[e4 ad,aD ba],cF,uK⟩
def abn(k:bB (Int×Unit)):rV:=⟨fun a b d e g=>k 3 (aW [(1,aJ a),(5,aJ b),(13,cq J d),(14,aJ e),(15,aJ g)] [] c6),fun a b d e g h i j=>k 6 (aW [(1,aJ a),(5,aJ b),(13,cq J d),(14,aJ e),(15,aJ g),(20,cq ar h),(21,aJ i),(22,aJ j)] [] c6)⟩
def Mk:aT 172 E':=bw bk 0 (fn:=Tryz.f172) (fns:=[]) trivial [(3,⟨[(1,az),(5,az),(13,.cell (.bq J [])),(14,az),(15,az)],[],c5⟩),(6,⟨[(1,az),(5,az),(13,.cell (.bq J [])),(14,az),(15,az),(20,.cell (.bq ar [])),(21,az),(22,az)],[],c5⟩)] abn Qz m9 (fun k x=>Ar k x.1 x.2.1) (by kernel_rfl) rfl
def Fa:Entry:=⟨[e4 ad],cF,p4⟩
def abo(k:bB (Int×Unit)):As:=fun a b d e=>k 3 (aW [(3,aJ a),(9,cq J b),(10,aJ d),(11,aJ e)] [] [.bf])
def Ml:aT 173 Fa:=bw bk 0 (fn:=Tryz.f173) (fns:=[]) trivial [(3,⟨[(3,az),(9,.cell (.bq J [])),(10,az),(11,az)],[],[.drop]⟩)] abo Au rW (fun k x=>At k x.1) (by kernel_rfl) rfl
def Mm:Entry:=⟨[e4 ad,aD ba],[bT ba,bT ba],wT⟩
def abp(k:bB (Int×Int×Unit)):Av:=fun a b d e g=>k 4 (aW [(0,.c2 (ly []) (aP ad .R [] a 0) 0),(6,aJ b),(7,.aP (.aa 1 none)),(14,.aP (.aa 1 none)),(15,aJ d),(16,aJ e)] [(1,.row ba .R 0 g)] c6)
def SL:aT 208 Mm:=bw bk 0 (fn:=Tryz.f208) (fns:=[(170,E_),(205,lL)]) ⟨Mj,mJ,trivial⟩ [(4,⟨[(0,.c2 [] (m8 ad .R [] 0)),(6,az),(7,.cell (.aa 1)),(14,.cell (.aa 1)),(15,az),(16,az)],[(1,.row ba .R)],c5⟩)] abp Ax oh (fun k x=>Aw k x.1 x.2.1) (by kernel_rfl) rfl
def SM:Entry:=⟨[e4 ad,aD J],ct,Ip⟩
def abq:aT 175 SM:=bQ bk 0 (fn:=Tryz.f175) (fns:=[(208,Mm)]) ⟨SL,trivial⟩ (by kernel_rfl)
def SN:Entry:=⟨[aD (.sl J),.fn 1 0,e4 ad],cF,Iq⟩
def abr(k:bB (Int×Unit)):Ay:=fun b a d e=>k 2 (aW [(0,cq J b),(1,.fn 175 [.c2 [] [.int .i64 a.1,.bq J [] none a.2.1] 0] []),(7,aJ d),(8,aJ e)] [] dU)
def abt:Sound Tryz.prog 207 175 SN:=bw bk 175 (fn:=Tryz.f207) (fns:=[(175,SM)]) ⟨abq,trivial⟩ [(2,⟨[(0,.cell (.bq J [])),(1,.tT [[.keep,.bq J []]] []),(7,az),(8,az)],[],dS⟩)] abr AA rX (fun k x=>Az k x.1 x.2.1) (by kernel_rfl) rfl
def Mn:Entry:=⟨[aD (.sl J),.fn 1 0,e4 ad],ct,wU⟩
def SO:Sound Tryz.prog 174 175 Mn:=bQ bk 175 (fn:=Tryz.f174) (fns:=[(175000207,SN)]) ⟨abt,trivial⟩ (by kernel_rfl)
def SP:Entry:=⟨[aD ad],ct,Is⟩
def abu(k:bB (Bool×Unit)):rY:=⟨fun a b d e=>k 4 (aW [(1,aE 1),(36,cq J a),(37,aJ b),(38,aJ d)] (aI 1 ad .R [] e) [.bf]),fun a b d e g=>k 11 (aW [(1,aE 1),(5,.aP (.aa 2 none)),(75,cq J a),(76,aJ b),(77,aJ d)] (aI 1 ad .R [] e++[(2,.row ba .R 0 g)]) [.bf])⟩
def abv:aT 122 SP:=bw bk 0 (fn:=Tryz.f122) (fns:=[(119,gX),(169,SJ),(170,E_),(171,xW),(172,E'),(173,Fa),(175000174,Mn)]) ⟨hQ,abj,Mj,E9,Mk,Ml,SO,trivial⟩ [(4,⟨[(1,.ptr 1),(36,.cell (.bq J [])),(37,az),(38,az)],aH 1 ad .R [],[.drop]⟩),(11,⟨[(1,.ptr 1),(5,.cell (.aa 2)),(75,.cell (.bq J [])),(76,az),(77,az)],aH 1 ad .R []++[(2,.row ba .R)],[.drop]⟩)] abu QA lz (fun k x=>AB k x.1) (by kernel_rfl) rfl
def SQ:Entry:=⟨[aD ak],ct,It⟩
def abw(k:bB (Bool×Unit)):AD:=fun a b d e=>k 2 (aW [(1,aE 1),(6,cq aK a),(7,aJ b),(8,aJ d)] (aI 1 ak .R [] e) [.bf])
def abx:aT 61 SQ:=bw bk 0 (fn:=Tryz.f61) (fns:=[(119,gX),(120,SE),(121,Mf),(122,SP)]) ⟨hQ,aa',SF,abv,trivial⟩ [(2,⟨[(1,.ptr 1),(6,.cell (.bq aK [])),(7,az),(8,az)],aH 1 ak .R [],[.drop]⟩)] abw AF r1 (fun k x=>AE k x.1) (by kernel_rfl) rfl
def SR:Entry:=⟨[aD (.sl ak)],ct,Iu⟩
def aby(k:bB (Bool×Unit)):AG:=fun a b d e=>k 2 (aW [(0,cq ak a),(5,cq ak b),(6,aJ d),(7,aJ e)] [] [.bf])
def abz:aT 97 SR:=bw bk 0 (fn:=Tryz.f97) (fns:=[(61,SQ)]) ⟨abx,trivial⟩ [(2,⟨[(0,.cell (.bq ak [])),(5,.cell (.bq ak [])),(6,az),(7,az)],[],[.drop]⟩)] aby AI r2 (fun k x=>AH k x.1) (by kernel_rfl) rfl
def Mo:Entry:=⟨[aD ad],[ro ad],oi⟩
def abA(k:bB (ad.D×Unit)):uL:=fun a b d e g=>k 3 (aW [(2,aE 1),(3,aE 3),(10,cq J a),(11,aJ b),(12,aJ d)] (aI 1 ad ad.own [] e++aI 3 ad ad.own [] g) [.bf])
def SS:aT 123 Mo:=bw bk 0 (fn:=Tryz.f123) (fns:=[]) trivial [(3,⟨[(2,.ptr 1),(3,.ptr 3),(10,.cell (.bq J [])),(11,az),(12,az)],aH 1 ad ad.own []++aH 3 ad ad.own [],[.drop]⟩)] abA AK r3 (fun k x=>AJ k x.1) (by kernel_rfl) rfl
def SU:Entry:=⟨[aD ak],[ro ak],Iw⟩
def abB:aT 62 SU:=bQ bk 0 (fn:=Tryz.f62) (fns:=[(123,Mo)]) ⟨SS,trivial⟩ (by kernel_rfl)
def SV:Entry:=⟨[aD (.sl ak)],[ro (.sl ak)],Ix⟩
def abC(k:bB wV):AL:=fun a b d e=>k 3 (aW [(3,.aP (.aa 1 none)),(6,cq ak a),(7,aJ b),(8,aJ d)] [(1,.row ak nA 0 e)] [.bf])
def abD:aT 98 SV:=bw bk 0 (fn:=Tryz.f98) (fns:=[(62,SU)]) ⟨abB,trivial⟩ [(3,⟨[(3,.cell (.aa 1)),(6,.cell (.bq ak [])),(7,az),(8,az)],[(1,.row ak nA)],[.drop]⟩)] abC AM uM (fun k x=>QD k x.1) (by kernel_rfl) rfl
def SW:Entry:=⟨[e4 ak,aD ba],ct,Iy⟩
def abE(k:bB (Bool×Unit)):r4:=⟨fun a b d e g=>k 2 (aW [(0,.c2 (ly []) (aP ak .R [] a 0) 0),(1,aJ b),(12,cq aG d),(13,aJ e),(14,aJ g)] [] c6),fun a b d e=>k 8 (aW [(1,aJ a),(26,cq aK b),(27,aJ d),(28,aJ e)] [] c6)⟩
def abF:aT 124 SW:=bw bk 0 (fn:=Tryz.f124) (fns:=[]) trivial [(2,⟨[(0,.c2 [] (m8 ak .R [] 0)),(1,az),(12,.cell (.bq aG [])),(13,az),(14,az)],[],c5⟩),(8,⟨[(1,az),(26,.cell (.bq aK [])),(27,az),(28,az)],[],c5⟩)] abE QF p5 (fun k x=>QE k x.1 x.2.1) (by kernel_rfl) rfl
def Mp:Entry:=⟨[e4 ak,aD ba],[bT ba,bT .bool],AQ⟩
def abG(k:bB (Int×Bool×Unit)):AP:=fun a b d=>k 2 (aW [(0,.c2 (ly []) (aP ak .R [] a 0) 0),(1,aJ b),(6,aJ d)] [] c6)
def SX:aT 129 Mp:=bw bk 0 (fn:=Tryz.f129) (fns:=[]) trivial [(2,⟨[(0,.c2 [] (m8 ak .R [] 0)),(1,az),(6,az)],[],c5⟩)] abG uN uO (fun k x=>QG k x.1 x.2.1) (by kernel_rfl) rfl
def Fb:Entry:=⟨[e4 ak,aD ba],[bT aK],wW⟩
def Mq:aT 125 Fb:=bQ bk 0 (fn:=Tryz.f125) (fns:=[(129,Mp)]) ⟨SX,trivial⟩ (by kernel_rfl)
def vi:Entry:=⟨[aD aL],ct,r6⟩
def abH(k:bB (Bool×Unit)):r5:=⟨fun a b d=>k 3 (aW [(1,aE 1),(3,hL a),(4,hL b)] (aI 1 aL .R [] d) [.bf]),fun a=>k 5 (aW [(1,aE 1)] (aI 1 aL .R [] a) [.bf])⟩
def xX:aT 127 vi:=bw bk 0 (fn:=Tryz.f127) (fns:=[(119,gX)]) ⟨hQ,trivial⟩ [(3,⟨[(1,.ptr 1),(3,az),(4,az)],aH 1 aL .R [],[.drop]⟩),(5,⟨[(1,.ptr 1)],aH 1 aL .R [],[.drop]⟩)] abH IA AS (fun k x=>AR k x.1) (by kernel_rfl) rfl
def Fc:Entry:=⟨[aD ba],ct,wX⟩
def Mr:aT 128 Fc:=bQ bk 0 (fn:=Tryz.f128) (fns:=[]) trivial (by kernel_rfl)
def qy:Entry:=⟨[aD ba],[bT aA],ea⟩
def tq:aT 176 qy:=bQ bk 0 (fn:=Tryz.f176) (fns:=[]) trivial (by kernel_rfl)
def SY:Entry:=⟨[aD ba],cF,IC⟩
def abI:aT 209 SY:=bQ bk 0 (fn:=Tryz.f209) (fns:=[(119,gX),(128,Fc)]) ⟨hQ,Mr,trivial⟩ (by kernel_rfl)
def SZ:Entry:=⟨[aD ba,aD ba],[bT ba,bT .bool],IE⟩
def abJ:aT 177 SZ:=bQ bk 0 (fn:=Tryz.f177) (fns:=[(209,SY)]) ⟨abI,trivial⟩ (by kernel_rfl)
def S0:Entry:=⟨[aD ba],[ro aM],IG⟩
def abK:aT 178 S0:=bQ bk 0 (fn:=Tryz.f178) (fns:=[]) trivial (by kernel_rfl)
def Ms:Entry:=⟨[aD ba],[bT .str],r8⟩
def abL(k:bB ((af)×Unit)):r7:=⟨fun a b d=>k 4 (aW [(0,aJ a),(3,dZ b),(4,aJ d)] [] [.bf]),fun a b d e=>k 7 (aW [(0,aJ a),(3,dZ b),(4,aJ d),(5,aJ e)] [] [.bf])⟩
def S1:aT 210 Ms:=bw bk 0 (fn:=Tryz.f210) (fns:=[(119,gX)]) ⟨hQ,trivial⟩ [(4,⟨[(0,az),(3,az),(4,az)],[],[.drop]⟩),(7,⟨[(0,az),(3,az),(4,az),(5,az)],[],[.drop]⟩)] abL QK kV (fun k x=>QJ k x.1) (by kernel_rfl) rfl
def S2:Entry:=⟨[aD (.sl aG),aD ba],[bT .str],IJ⟩
def abM(k:bB ((af)×Unit)):r9:=⟨fun a b d e=>k 5 (aW [(0,cq aG a),(1,aJ b),(5,dZ d),(6,aJ e)] [] c6),fun a b d e g h i=>k 11 (aW [(0,cq aG a),(1,aJ b),(5,dZ d),(6,aJ e),(49,.aP (.aa 1 none)),(50,aJ g),(51,aJ h)] [(1,.row ba .R 0 i)] c6)⟩
def abN:aT 179 S2:=bw bk 0 (fn:=Tryz.f179) (fns:=[(121,Mf),(210,Ms)]) ⟨SF,S1,trivial⟩ [(5,⟨[(0,.cell (.bq aG [])),(1,az),(5,az),(6,az)],[],c5⟩),(11,⟨[(0,.cell (.bq aG [])),(1,az),(5,az),(6,az),(49,.cell (.aa 1)),(50,az),(51,az)],[(1,.row ba .R)],c5⟩)] abM QL lA (fun k x=>AT k x.1 x.2.1) (by kernel_rfl) rfl
def S3:Entry:=⟨[aD ba],ct,QM⟩
def abO:aT 233 S3:=bQ bk 0 (fn:=Tryz.f233) (fns:=[(119,gX)]) ⟨hQ,trivial⟩ (by kernel_rfl)
def S4:Entry:=⟨[aD (.sl ba),.fn 0 0],cF,IL⟩
def abP(k:bB (Int×Unit)):AW:=fun a b d=>k 2 (aW [(0,cq ba a),(1,.fn 233 [] []),(7,aJ b),(8,aJ d)] [] c6)
def abQ:Sound Tryz.prog 266 233 S4:=bw bk 233 (fn:=Tryz.f266) (fns:=[(233,S3)]) ⟨abO,trivial⟩ [(2,⟨[(0,.cell (.bq ba [])),(1,.same),(7,az),(8,az)],[],c5⟩)] abP AY r_ (fun k x=>AX k x.1) (by kernel_rfl) rfl
def S5:Entry:=⟨[aD (.sl ba),.fn 0 0],ct,IN⟩
def abR:Sound Tryz.prog 232 233 S5:=bQ bk 233 (fn:=Tryz.f232) (fns:=[(233000266,S4)]) ⟨abQ,trivial⟩ (by kernel_rfl)
def xY:Entry:=⟨[aD aM],ct,uP⟩
def Fe:aT 211 xY:=bQ bk 0 (fn:=Tryz.f211) (fns:=[(119,gX),(233000232,S5)]) ⟨hQ,abR,trivial⟩ (by kernel_rfl)
def S6:Entry:=⟨[aD .str],ct,IS⟩
def abS:aT 289 S6:=bQ bk 0 (fn:=Tryz.f289) (fns:=[(203,E7)]) ⟨Mh,trivial⟩ (by kernel_rfl)
def Ff:Entry:=⟨[aD aM,aD ba],ct,r'⟩
def Mt:aT 282 Ff:=bQ bk 0 (fn:=Tryz.f282) (fns:=[(171,xW),(211,xY)]) ⟨E9,Fe,trivial⟩ (by kernel_rfl)
def vj:Entry:=⟨[aD aM,aD J,aD ba],ct,na⟩
def xZ:aT 279 vj:=bQ bk 0 (fn:=Tryz.f279) (fns:=[(119,gX),(211,xY),(282,Ff)]) ⟨hQ,Fe,Mt,trivial⟩ (by kernel_rfl)
def Mu:Entry:=⟨[e4 J,aD .str],cF,A2⟩
def abT(k:bB (Int×Unit)):AZ:=fun a b d e=>k 2 (aW [(1,dZ a),(10,cq ar b),(11,aJ d),(12,aJ e)] [] c6)
def S7:aT 291 Mu:=bw bk 0 (fn:=Tryz.f291) (fns:=[]) trivial [(2,⟨[(1,az),(10,.cell (.bq ar [])),(11,az),(12,az)],[],c5⟩)] abT A1 p6 (fun k x=>A0 k x.1 x.2.1) (by kernel_rfl) rfl
def S8:Entry:=⟨[aD .str,aD ba],[ro (.sl .str)],QN⟩
def abU:gR Tryz.prog 321 0 S8:=Qu fun _=>rfl
def S9:Entry:=⟨[aD .str,aD (.int .u8)],cF,QO⟩
def abV:gR Tryz.prog 333 0 S9:=aaG Tryz.func333 (by kernel_rfl) (by kernel_rfl) (by kernel_rfl) (by kernel_rfl)
def S_:Entry:=⟨[aD .str,aD (.int .u8)],cF,QP⟩
def abW:aT 329 S_:=bQ bk 0 (fn:=Tryz.f329) (fns:=[(333,S9)]) ⟨abV,trivial⟩ (by kernel_rfl)
def S':Entry:=⟨[aD .str,aD .str],cF,QQ⟩
def abX:aT 327 S':=bQ bk 0 (fn:=Tryz.f327) (fns:=[(329,S_)]) ⟨abW,trivial⟩ (by kernel_rfl)
def Mv:Entry:=⟨[aD .str,aD .str],cF,A3⟩
def Ta:aT 323 Mv:=bQ bk 0 (fn:=Tryz.f323) (fns:=[(327,S')]) ⟨abX,trivial⟩ (by kernel_rfl)
def Tb:Entry:=⟨[aD .str],cF,QR⟩
def abY:gR Tryz.prog 324 0 Tb:=Qu fun _=>rfl
def Tc:Entry:=⟨[aD .str,aD (.int .u8)],cF,QS⟩
def abZ:gR Tryz.prog 326 0 Tc:=aaH Tryz.func326 (by kernel_rfl) (by kernel_rfl) (by kernel_rfl) (by kernel_rfl)
def Td:Entry:=⟨[aD .str,aD .str],cF,IX⟩
def ab0(k:bB (Int×Unit)):A4:=fun a b d=>k 6 (aW [(0,dZ a),(1,dZ b),(5,aJ d)] [] c6)
def ab1:aT 322 Td:=bw bk 0 (fn:=Tryz.f322) (fns:=[(323,Mv),(324,Tb),(326,Tc)]) ⟨Ta,abY,abZ,trivial⟩ [(6,⟨[(0,az),(1,az),(5,az)],[],c5⟩)] ab0 QT A6 (fun k x=>A5 k x.1 x.2.1) (by kernel_rfl) rfl
def Te:Entry:=⟨[aD .str,aD .str,aD ba,aD ba],[ro (.sl .str)],I0⟩
def ab2(k:bB nc):oj:=⟨fun a b d e=>k 7 (aW [(0,dZ a),(1,dZ b),(2,aJ d),(3,aJ e)] [] lK),fun a b d e g h=>k 11 (aW [(0,dZ a),(1,dZ b),(2,aJ d),(3,aJ e),(9,.aP (.aa 1 none)),(10,aJ g)] [(1,.row .str .R 0 h)] lK),fun a b d=>k 17 (aW [(0,dZ a),(9,.aP (.aa 1 none)),(10,aJ b)] [(1,.row .str .R 0 d)] lK)⟩
def ab3:aT 320 Te:=bw bk 0 (fn:=Tryz.f320) (fns:=[(321,S8),(322,Td),(323,Mv)]) ⟨abU,ab1,Ta,trivial⟩ [(7,⟨[(0,az),(1,az),(2,az),(3,az)],[],lJ⟩),(11,⟨[(0,az),(1,az),(2,az),(3,az),(9,.cell (.aa 1)),(10,az)],[(1,.row .str .R)],lJ⟩),(17,⟨[(0,az),(9,.cell (.aa 1)),(10,az)],[(1,.row .str .R)],lJ⟩)] ab2 QV om (fun k x=>A7 k x.1 x.2.1 x.2.2.1 x.2.2.2.1) (by kernel_rfl) rfl
def Tf:Entry:=⟨[aD .str,aD .str],[ro (.sl .str)],I2⟩
def ab4:aT 313 Tf:=bQ bk 0 (fn:=Tryz.f313) (fns:=[(320,Te)]) ⟨ab3,trivial⟩ (by kernel_rfl)
def Tg:Entry:=⟨[aD .str],[ro (.sl .str)],p9⟩
def ab5(k:bB wZ):A8:=fun a b d e=>k 3 (aW [(3,.aP (.aa 1 none)),(8,.aP (.aa 2 none)),(9,aJ a),(10,aJ b)] [(1,.row .str .R 0 d),(2,.row .str .R 0 e)] [.bf])
def ab6:aT 304 Tg:=bw bk 0 (fn:=Tryz.f304) (fns:=[(313,Tf)]) ⟨ab4,trivial⟩ [(3,⟨[(3,.cell (.aa 1)),(8,.cell (.aa 2)),(9,az),(10,az)],[(1,.row .str .R),(2,.row .str .R)],[.drop]⟩)] ab5 A_ p8 (fun k x=>A9 k x.1) (by kernel_rfl) rfl
def Th:Entry:=⟨[e4 ad,aD ba],cF,I3⟩
def ab7(k:bB (Int×Unit)):sa:=⟨fun a b d e=>k 2 (aW [(1,aJ a),(12,cq J b),(13,aJ d),(14,aJ e)] [] c6),fun a b d e g h i j=>k 5 (aW [(1,aJ a),(6,aE 1),(12,cq J b),(13,aJ d),(14,aJ e),(19,cq ar g),(20,aJ h),(21,aJ i)] (aI 1 J .R [] j) c6)⟩
def ab8:aT 305 Th:=bw bk 0 (fn:=Tryz.f305) (fns:=[]) trivial [(2,⟨[(1,az),(12,.cell (.bq J [])),(13,az),(14,az)],[],c5⟩),(5,⟨[(1,az),(6,.ptr 1),(12,.cell (.bq J [])),(13,az),(14,az),(19,.cell (.bq ar [])),(20,az),(21,az)],aH 1 J .R [],c5⟩)] ab7 QX jL (fun k x=>A' k x.1 x.2.1) (by kernel_rfl) rfl
def Ti:Entry:=⟨[e4 ad,aD aM,aD .str,aD .bool],[bT aV],I4⟩
def ab9(k:bB (aV.D×Unit)):p_:=fun a b d e g h i j l=>k 3 (aW [(0,.c2 (ly []) (aP ad .R [] a 0) 0),(3,hL b),(5,aE 1),(8,aE 2),(9,.aP (.aa 3 (some (d,e)))),(10,aJ g),(11,aJ h)] (aI 1 aM .R [] i++aI 2 aV .R [] j++[(3,.row .str .R 0 l)]) lK)
def ab_:aT 290 Ti:=bw bk 0 (fn:=Tryz.f290) (fns:=[(205,lL),(279,vj),(291,Mu),(304,Tg),(305,Th)]) ⟨mJ,xZ,S7,ab6,ab8,trivial⟩ [(3,⟨[(0,.c2 [] (m8 ad .R [] 0)),(3,az),(5,.ptr 1),(8,.ptr 2),(9,.cell (.ai 3)),(10,az),(11,az)],aH 1 aM .R []++aH 2 aV .R []++[(3,.row .str .R)],lJ⟩)] ab9 kq fM (fun k x=>Ba k x.1 x.2.1 x.2.2.1 x.2.2.2.1) (by kernel_rfl) rfl
def vk:Entry:=⟨[e4 aN,aD .str,aD .bool],[bT aV],j5⟩
def x0:aT 271 vk:=bQ bk 0 (fn:=Tryz.f271) (fns:=[(289,S6),(290,Ti)]) ⟨abS,ab_,trivial⟩ (by kernel_rfl)
def Mw:Entry:=⟨[e4 aN,aD .str],[bT aV,bT ba],sd⟩
def Tj:aT 267 Mw:=bQ bk 0 (fn:=Tryz.f267) (fns:=[(271,vk)]) ⟨x0,trivial⟩ (by kernel_rfl)
def x1:Entry:=⟨[e4 aN,aD ba],ct,lB⟩
def Fg:aT 268 x1:=bQ bk 0 (fn:=Tryz.f268) (fns:=[(205,lL),(279,vj)]) ⟨mJ,xZ,trivial⟩ (by kernel_rfl)
def Tk:Entry:=⟨[wa (.sl ar),aD ba,wa (.sl ar)],[ro (.sl ar)],Q2⟩
def ab':gR Tryz.prog 288 0 Tk:=ins_soundX
def Fh:Entry:=⟨[.«mut» aN cg cg,aD ba,aD .str,aD ba],[],qb⟩
def aca(k:bB (aN.D×Unit)):se:=⟨fun b d e g a=>k 2 (aW [(2,dZ b),(3,aJ d),(8,.opt 1 e),(9,aJ g)] ([(1,.row J mI 0 a.1.2.1),(2,.var 0 [.int .i64 a.1.1,.aa 1 none,.int .i64 a.2.1.1,.int .i64 a.2.1.2.1,.bq ba [] none a.2.1.2.2.1,.int .i64 a.2.2.1.1,.str a.2.2.1.2.1,.str a.2.2.1.2.2.1,.int .i64 a.2.2.1.2.2.2.1,.int .i64 a.2.2.1.2.2.2.2.1,.str a.2.2.1.2.2.2.2.2.1])]) [aE 2,.bf,.bf,.bf]),fun b d e g a=>k 4 (aW [(2,dZ b),(3,aJ d),(8,.opt 1 e),(9,aJ g)] ([(1,.row J mI 0 a.1.2.1),(2,.var 0 [.int .i64 a.1.1,.aa 1 none,.int .i64 a.2.1.1,.int .i64 a.2.1.2.1,.bq ba [] none a.2.1.2.2.1,.int .i64 a.2.2.1.1,.str a.2.2.1.2.1,.str a.2.2.1.2.2.1,.int .i64 a.2.2.1.2.2.2.1,.int .i64 a.2.2.1.2.2.2.2.1,.str a.2.2.1.2.2.2.2.2.1])]) [aE 2,.bf,.bf,.bf])⟩
def Mx:aT 269 Fh:=bw bk 0 (fn:=Tryz.f269) (fns:=[(288,Tk),(205,E8)]) ⟨ab',Mi,trivial⟩ [(2,⟨[(2,az),(3,az),(8,.opt 1),(9,az)],[(1,.row J mI),(2,.var [.keep,.aa 1,.keep,.keep,.bq ba [],.keep,.keep,.keep,.keep,.keep,.keep])],[.ptr 2,.drop,.drop,.drop]⟩),(4,⟨[(2,az),(3,az),(8,.opt 1),(9,az)],[(1,.row J mI),(2,.var [.keep,.aa 1,.keep,.keep,.bq ba [],.keep,.keep,.keep,.keep,.keep,.keep])],[.ptr 2,.drop,.drop,.drop]⟩)] aca Q3 qa (fun k x=>Bb k x.1 x.2.1 x.2.2.1 x.2.2.2.1) (by kernel_rfl) rfl
def vl:Entry:=⟨[e4 aN],cF,lC⟩
def x2:aT 270 vl:=bQ bk 0 (fn:=Tryz.f270) (fns:=[(173,Fa),(175000174,Mn)]) ⟨Ml,SO,trivial⟩ (by kernel_rfl)
def Tl:Entry:=⟨[.«mut» aN cg cg],cF,w3⟩
def acb(k:bB (Int×aN.D×Unit)):sf:=⟨fun a b=>k 4 (aW [(0,aE 1),(3,aE 3)] (aI 1 aN cg [] a++aI 3 aL .R [] b) [aE 1]),fun a b d=>k 23 (aW [(0,aE 1),(4,aE 3),(7,aE 4)] (aI 1 aN cg [] a++aI 3 aV .R [] b++aI 4 J J.own [] d) [aE 1])⟩
def acd:aT 234 Tl:=bw bk 0 (fn:=Tryz.f234) (fns:=[(119,gX),(203,E7),(205,lL),(267,Mw),(268,x1),(269,Fh),(270,vl)]) ⟨hQ,Mh,mJ,Tj,Fg,Mx,x2,trivial⟩ [(4,⟨[(0,.ptr 1),(3,.ptr 3)],aH 1 aN cg []++aH 3 aL .R [],[.ptr 1]⟩),(23,⟨[(0,.ptr 1),(4,.ptr 3),(7,.ptr 4)],aH 1 aN cg []++aH 3 aV .R []++aH 4 J J.own [],[.ptr 1]⟩)] acb Q4 j6 (fun k x=>Bc k x.1) (by kernel_rfl) rfl
def Fi:Entry:=⟨[aD aM,aD J,aD J],ct,qc⟩
def My:aT 272 Fi:=bQ bk 0 (fn:=Tryz.f272) (fns:=[(211,xY)]) ⟨Fe,trivial⟩ (by kernel_rfl)
def Mz:Entry:=⟨[aD ar,e4 .str],ct,Bd⟩
def Tm:aT 293 Mz:=bQ bk 0 (fn:=Tryz.f293) (fns:=[]) trivial (by kernel_rfl)
def Tn:Entry:=⟨[aD (.sl ar),.fn 0 1,e4 .str],cF,I'⟩
def ace(k:bB (Int×Unit)):Be:=fun a b d e=>k 2 (aW [(0,cq ar a),(1,.fn 293 [] [.c2 [] [.str b] 0]),(7,aJ d),(8,aJ e)] [] dU)
def acf:Sound Tryz.prog 306 293 Tn:=bw bk 293 (fn:=Tryz.f306) (fns:=[(293,Mz)]) ⟨Tm,trivial⟩ [(2,⟨[(0,.cell (.bq ar [])),(1,.tT [] [[.keep]]),(7,az),(8,az)],[],dS⟩)] ace Bf uQ (fun k x=>Q5 k x.1 x.2.1) (by kernel_rfl) rfl
def To:Entry:=⟨[wa (.sl ar),.fn 0 1,e4 .str],[ro (.sl ar)],Bj⟩
def acg(k:bB uR):Bg:=fun a b d e=>k 5 (aW [(0,.aP (.aa 1 none)),(1,.fn 293 [] [.c2 [] [.str a] 0]),(5,aJ b),(6,aJ d)] [(1,.row ar .R 0 e)] dU)
def ach:Sound Tryz.prog 292 293 To:=bw bk 293 (fn:=Tryz.f292) (fns:=[(293,Mz),(293000306,Tn)]) ⟨Tm,acf,trivial⟩ [(5,⟨[(0,.cell (.aa 1)),(1,.tT [] [[.keep]]),(5,az),(6,az)],[(1,.row ar .R)],dS⟩)] acg Bi uS (fun k x=>Bh k x.1 x.2.1) (by kernel_rfl) rfl
def Tp:Entry:=⟨[wa (.sl J),.fn 0 1,e4 ba],[ro (.sl J)],Q7⟩
def aci:gR Tryz.prog 294 295 Tp:=aaI (T:=J) (T':=mW.eh) (p:=fun a i=> !(a.1==i)) (p':=fun a i=> !mW.iB a i) rfl (fun x a i h=>by rw[show x.1=a.1 from h.1];rfl) (fq:=mW.GL) mW.YR.x (fun b i h=>mW.del_eq b i h)
def MA:Entry:=⟨[.«mut» aN cg cg,aD ba,aD .str,aD .bool],[],mv⟩
def Tq:aT 273 MA:=bQ bk 0 (fn:=Tryz.f273) (fns:=[(172,E'),(291,Mu),(293000292,To),(295000294,Tp),(205,E8)]) ⟨Mk,S7,ach,aci,Mi,trivial⟩ (by kernel_rfl)
def Tr:Entry:=⟨[.«mut» aN cg cg],cF,Bl⟩
def acj(k:bB (Int×aN.D×Unit)):oq:=⟨fun a b d=>k 5 (aW [(0,aE 1),(3,aE 3),(4,aE 4)] (aI 1 aN cg [] a++aI 3 aV .R [] b++aI 4 J .R [2,1] d) [aE 1]),fun a b d=>k 7 (aW [(0,aE 1),(3,aE 3),(4,aE 4)] (aI 1 aN cg [] a++aI 3 aV .R [] b++aI 4 J .R [2,1] d) [aE 1]),fun a b d=>k 9 (aW [(0,aE 1),(3,aE 3),(4,aE 4)] (aI 1 aN cg [] a++aI 3 aV .R [] b++aI 4 J .R [2,1] d) [aE 1]),fun a b d=>k 11 (aW [(0,aE 1),(3,aE 3),(4,aE 4)] (aI 1 aN cg [] a++aI 3 aV .R [] b++aI 4 J .R [2,1] d) [aE 1])⟩
def ack:aT 235 Tr:=bw bk 0 (fn:=Tryz.f235) (fns:=[(205,lL),(268,x1),(271,vk),(272,Fi),(273,MA)]) ⟨mJ,Fg,x0,My,Tq,trivial⟩ [(5,⟨[(0,.ptr 1),(3,.ptr 3),(4,.ptr 4)],aH 1 aN cg []++aH 3 aV .R []++aH 4 J .R [2,1],[.ptr 1]⟩),(7,⟨[(0,.ptr 1),(3,.ptr 3),(4,.ptr 4)],aH 1 aN cg []++aH 3 aV .R []++aH 4 J .R [2,1],[.ptr 1]⟩),(9,⟨[(0,.ptr 1),(3,.ptr 3),(4,.ptr 4)],aH 1 aN cg []++aH 3 aV .R []++aH 4 J .R [2,1],[.ptr 1]⟩),(11,⟨[(0,.ptr 1),(3,.ptr 3),(4,.ptr 4)],aH 1 aN cg []++aH 3 aV .R []++aH 4 J .R [2,1],[.ptr 1]⟩)] acj Q8 mw (fun k x=>Bk k x.1) (by kernel_rfl) rfl
def MB:Entry:=⟨[e4 ad,aD ba],ct,w4⟩
def Ts:aT 274 MB:=bQ bk 0 (fn:=Tryz.f274) (fns:=[(205,lL)]) ⟨mJ,trivial⟩ (by kernel_rfl)
def Tt:Entry:=⟨[.«mut» aN cg cg],cF,Bm⟩
def acm:aT 236 Tt:=bQ bk 0 (fn:=Tryz.f236) (fns:=[(205,lL),(267,Mw),(268,x1),(269,Fh),(270,vl),(271,vk),(274,MB)]) ⟨mJ,Tj,Fg,Mx,x2,x0,Ts,trivial⟩ (by kernel_rfl)
def Tu:Entry:=⟨[e4 aN,aD J,aD aV],cF,Bn⟩
def acn:aT 275 Tu:=bQ bk 0 (fn:=Tryz.f275) (fns:=[(205,lL),(272,Fi)]) ⟨mJ,My,trivial⟩ (by kernel_rfl)
def Tv:Entry:=⟨[.«mut» aN cg cg],cF,Bp⟩
def aco(k:bB (Int×aN.D×Unit)):ot:=⟨fun a b d=>k 7 (aW [(0,aE 1),(3,aE 3),(4,aE 4)] (aI 1 aN cg [] a++aI 3 aV .R [] b++aI 4 aV .R [] d) [aE 1]),fun a b d e=>k 10 (aW [(0,aE 1),(3,aE 3),(4,aE 4),(5,aE 5)] (aI 1 aN cg [] a++aI 3 aV .R [] b++aI 4 aV .R [] d++aI 5 J .R [2,1] e) [aE 1]),fun a b d e=>k 16 (aW [(0,aE 1),(3,aE 3),(4,aE 4),(5,aE 5)] (aI 1 aN cg [] a++aI 3 aV .R [] b++aI 4 aV .R [] d++aI 5 J .R [2,1] e) [aE 1]),fun a b d=>k 25 (aW [(0,aE 1),(3,aE 3),(4,aE 4)] (aI 1 aN cg [] a++aI 3 aV .R [] b++aI 4 aV .R [] d) [aE 1])⟩
def acp:aT 237 Tv:=bw bk 0 (fn:=Tryz.f237) (fns:=[(170,E_),(171,xW),(205,lL),(268,x1),(269,Fh),(270,vl),(271,vk),(272,Fi),(273,MA),(275,Tu)]) ⟨Mj,E9,mJ,Fg,Mx,x2,x0,My,Tq,acn,trivial⟩ [(7,⟨[(0,.ptr 1),(3,.ptr 3),(4,.ptr 4)],aH 1 aN cg []++aH 3 aV .R []++aH 4 aV .R [],[.ptr 1]⟩),(10,⟨[(0,.ptr 1),(3,.ptr 3),(4,.ptr 4),(5,.ptr 5)],aH 1 aN cg []++aH 3 aV .R []++aH 4 aV .R []++aH 5 J .R [2,1],[.ptr 1]⟩),(16,⟨[(0,.ptr 1),(3,.ptr 3),(4,.ptr 4),(5,.ptr 5)],aH 1 aN cg []++aH 3 aV .R []++aH 4 aV .R []++aH 5 J .R [2,1],[.ptr 1]⟩),(25,⟨[(0,.ptr 1),(3,.ptr 3),(4,.ptr 4)],aH 1 aN cg []++aH 3 aV .R []++aH 4 aV .R [],[.ptr 1]⟩)] aco Q9 ij (fun k x=>Bo k x.1) (by kernel_rfl) rfl
def o4:Entry:=⟨[.«mut» aN cg cg,aD .bool],[.opt 0 1 J,bT ba],kW⟩
def qz:aT 278 o4:=bQ bk 0 (fn:=Tryz.f278) (fns:=[(271,vk),(205,E8)]) ⟨x0,Mi,trivial⟩ (by kernel_rfl)
def MC:Entry:=⟨[.«mut» aN cg cg,aD ba],[.opt 0 1 J,bT ba],w6⟩
def Tw:aT 276 MC:=bQ bk 0 (fn:=Tryz.f276) (fns:=[(278,o4),(279,vj)]) ⟨qz,xZ,trivial⟩ (by kernel_rfl)
def Tx:Entry:=⟨[.«mut» aN cg cg],[bT aA],Bq⟩
def acq:aT 238 Tx:=bQ bk 0 (fn:=Tryz.f238) (fns:=[(176,qy),(276,MC)]) ⟨tq,Tw,trivial⟩ (by kernel_rfl)
def Ty:Entry:=⟨[aD .str,aD ba],[bT .str],strings_Repeat⟩
def acr:gR Tryz.prog 296 0 Ty:=rep_soundX
def Tz:Entry:=⟨[aD .str,aD ba],[bT .str],Br⟩
def acs:aT 277 Tz:=bQ bk 0 (fn:=Tryz.f277) (fns:=[(296,Ty)]) ⟨acr,trivial⟩ (by kernel_rfl)
def TA:Entry:=⟨[.«mut» aN cg cg],cF,Bt⟩
def acu(k:bB (Int×aN.D×Unit)):qd:=⟨fun a b d=>k 7 (aW [(0,aE 1),(3,.opt 2 a),(5,aJ b)] (aI 1 aN cg [] d) [aE 1]),fun a b d=>k 11 (aW [(0,aE 1),(3,.opt 2 a),(5,aJ b)] (aI 1 aN cg [] d) [aE 1]),fun a b d=>k 18 (aW [(0,aE 1),(3,.opt 2 a),(6,dZ b)] (aI 1 aN cg [] d) [aE 1])⟩
def acv:aT 239 TA:=bw bk 0 (fn:=Tryz.f239) (fns:=[(270,vl),(276,MC),(277,Tz)]) ⟨x2,Tw,acs,trivial⟩ [(7,⟨[(0,.ptr 1),(3,.opt 2),(5,az)],aH 1 aN cg [],[.ptr 1]⟩),(11,⟨[(0,.ptr 1),(3,.opt 2),(5,az)],aH 1 aN cg [],[.ptr 1]⟩),(18,⟨[(0,.ptr 1),(3,.opt 2),(6,az)],aH 1 aN cg [],[.ptr 1]⟩)] acu Rc fW (fun k x=>Bs k x.1) (by kernel_rfl) rfl
def TB:Entry:=⟨[.«mut» aN cg cg],[bT aA],Bu⟩
def acw:aT 240 TB:=bQ bk 0 (fn:=Tryz.f240) (fns:=[(176,qy),(278,o4)]) ⟨tq,qz,trivial⟩ (by kernel_rfl)
def MD:Entry:=⟨[aD (.sl .str),aD .str],[bT .str],strings_Join⟩
def TC:gR Tryz.prog 280 0 MD:=join_soundX
def Fj:Entry:=⟨[aD (.sl ba)],[bT .str],ov⟩
def acx(k:bB ((af)×Unit)):Bv:=fun a b d e=>k 3 (aW [(3,.aP (.aa 1 none)),(7,cq ba a),(8,aJ b),(9,aJ d)] [(1,.row .str .R 0 e)] [.bf])
def ME:aT 246 Fj:=bw bk 0 (fn:=Tryz.f246) (fns:=[(210,Ms),(280,MD)]) ⟨S1,TC,trivial⟩ [(3,⟨[(3,.cell (.aa 1)),(7,.cell (.bq ba [])),(8,az),(9,az)],[(1,.row .str .R)],[.drop]⟩)] acx Bw sg (fun k x=>Re k x.1) (by kernel_rfl) rfl
def TD:Entry:=⟨[.«mut» aN cg cg],[bT aA],w8⟩
def acy(k:bB w7):Bx:=fun b d e g h a=>k 13 (aW [(2,aE 1),(7,.aP (.aa 2 none)),(73,.aP (.bq ar (ly [3]) none b)),(74,aJ d),(75,aJ e)] (aI 1 aA .R [] g++[(2,.row .str .R 0 h),(3,.row J mI 0 a.1.2.1),(4,.var 0 [.int .i64 a.1.1,.aa 3 none,.int .i64 a.2.1.1,.int .i64 a.2.1.2.1,.bq ba [] none a.2.1.2.2.1,.int .i64 a.2.2.1.1,.str a.2.2.1.2.1,.str a.2.2.1.2.2.1,.int .i64 a.2.2.1.2.2.2.1,.int .i64 a.2.2.1.2.2.2.2.1,.str a.2.2.1.2.2.2.2.2.1])]) [aE 4])
def acz:aT 241 TD:=bw bk 0 (fn:=Tryz.f241) (fns:=[(176,qy),(208,Mm),(246,Fj),(278,o4),(279,vj),(280,MD)]) ⟨tq,SL,ME,qz,xZ,TC,trivial⟩ [(13,⟨[(2,.ptr 1),(7,.cell (.aa 2)),(73,.cell (.bq ar [3])),(74,az),(75,az)],aH 1 aA .R []++[(2,.row .str .R),(3,.row J mI),(4,.var [.keep,.aa 3,.keep,.keep,.bq ba [],.keep,.keep,.keep,.keep,.keep,.keep])],[.ptr 4]⟩)] acy Bz ow (fun k x=>By k x.1) (by kernel_rfl) rfl
def TE:Entry:=⟨[e4 ad,aD J],cF,Ju⟩
def acA(k:bB (Int×Unit)):BA:=fun a b d e g=>k 5 (aW [(0,.c2 (ly []) (aP ad .R [] a 0) 0),(5,aJ b),(16,cq ar d),(17,aJ e),(18,aJ g)] [] c6)
def acB:aT 281 TE:=bw bk 0 (fn:=Tryz.f281) (fns:=[(172,E'),(274,MB)]) ⟨Mk,Ts,trivial⟩ [(5,⟨[(0,.c2 [] (m8 ad .R [] 0)),(5,az),(16,.cell (.bq ar [])),(17,az),(18,az)],[],c5⟩)] acA BC qe (fun k x=>BB k x.1 x.2.1) (by kernel_rfl) rfl
def TF:Entry:=⟨[.«mut» aN cg cg],[bT aA],w9⟩
def acC:aT 242 TF:=bQ bk 0 (fn:=Tryz.f242) (fns:=[(119,gX),(176,qy),(246,Fj),(278,o4),(281,TE)]) ⟨hQ,tq,ME,qz,acB,trivial⟩ (by kernel_rfl)
def TG:Entry:=⟨[.«mut» aN cg cg],cF,BF⟩
def acD(k:bB (Int×aN.D×Unit)):BD:=fun a b=>k 8 (aW [(0,aE 1),(3,.opt 2 a)] (aI 1 aN cg [] b) [aE 1])
def acE:aT 243 TG:=bw bk 0 (fn:=Tryz.f243) (fns:=[(119,gX),(278,o4),(282,Ff)]) ⟨hQ,qz,Mt,trivial⟩ [(8,⟨[(0,.ptr 1),(3,.opt 2)],aH 1 aN cg [],[.ptr 1]⟩)] acD Jx ox (fun k x=>BE k x.1) (by kernel_rfl) rfl
def TH:Entry:=⟨[.«mut» aN cg cg],cF,BI⟩
def acF(k:bB (Int×aN.D×Unit)):BG:=fun a b=>k 8 (aW [(0,aE 1),(3,.opt 2 a)] (aI 1 aN cg [] b) [aE 1])
def acG:aT 244 TH:=bw bk 0 (fn:=Tryz.f244) (fns:=[(119,gX),(278,o4),(282,Ff)]) ⟨hQ,qz,Mt,trivial⟩ [(8,⟨[(0,.ptr 1),(3,.opt 2)],aH 1 aN cg [],[.ptr 1]⟩)] acF Jz oy (fun k x=>BH k x.1) (by kernel_rfl) rfl
def TI:Entry:=⟨[.«mut» aN cg cg],cF,BJ⟩
def acH:aT 245 TI:=bQ bk 0 (fn:=Tryz.f245) (fns:=[(119,gX),(278,o4),(279,vj)]) ⟨hQ,qz,xZ,trivial⟩ (by kernel_rfl)
def TJ:Entry:=⟨[.«mut» aN cg cg],cF,BL⟩
def acI:aT 247 TJ:=bQ bk 0 (fn:=Tryz.f247) (fns:=[(119,gX),(270,vl),(278,o4)]) ⟨hQ,x2,qz,trivial⟩ (by kernel_rfl)
def TK:Entry:=⟨[.«mut» aN cg cg],[bT aA],BN⟩
def acJ(k:bB jq):lD:=⟨fun a b=>k 5 (aW [(0,aE 1),(2,aE 3)] (aI 1 aN cg [] a++aI 3 aA .R [] b) [aE 1]),fun a b d=>k 6 (aW [(0,aE 1),(2,aE 3),(7,aJ a)] (aI 1 aN cg [] b++aI 3 aA .R [] d) [aE 1]),fun a b=>k 8 (aW [(0,aE 1),(2,aE 3)] (aI 1 aN cg [] a++aI 3 aA .R [] b) [aE 1]),fun a b d=>k 9 (aW [(0,aE 1),(2,aE 3),(7,aJ a)] (aI 1 aN cg [] b++aI 3 aA .R [] d) [aE 1]),fun a b=>k 18 (aW [(0,aE 1),(2,aE 3)] (aI 1 aN cg [] a++aI 3 aA .R [] b) [aE 1]),fun a b d=>k 19 (aW [(0,aE 1),(2,aE 3),(7,aJ a)] (aI 1 aN cg [] b++aI 3 aA .R [] d) [aE 1]),fun a b d=>k 24 (aW [(0,aE 1),(2,aE 3),(7,aJ a)] (aI 1 aN cg [] b++aI 3 aA .R [] d) [aE 1])⟩
def acK:aT 212 TK:=bw bk 0 (fn:=Tryz.f212) (fns:=[(173,Fa),(176,qy),(234,Tl),(235,Tr),(236,Tt),(237,Tv),(238,Tx),(239,TA),(240,TB),(241,TD),(242,TF),(243,TG),(244,TH),(245,TI),(246,Fj),(247,TJ)]) ⟨Ml,tq,acd,ack,acm,acp,acq,acv,acw,acz,acC,acE,acG,acH,ME,acI,trivial⟩ [(5,⟨[(0,.ptr 1),(2,.ptr 3)],aH 1 aN cg []++aH 3 aA .R [],[.ptr 1]⟩),(6,⟨[(0,.ptr 1),(2,.ptr 3),(7,az)],aH 1 aN cg []++aH 3 aA .R [],[.ptr 1]⟩),(8,⟨[(0,.ptr 1),(2,.ptr 3)],aH 1 aN cg []++aH 3 aA .R [],[.ptr 1]⟩),(9,⟨[(0,.ptr 1),(2,.ptr 3),(7,az)],aH 1 aN cg []++aH 3 aA .R [],[.ptr 1]⟩),(18,⟨[(0,.ptr 1),(2,.ptr 3)],aH 1 aN cg []++aH 3 aA .R [],[.ptr 1]⟩),(19,⟨[(0,.ptr 1),(2,.ptr 3),(7,az)],aH 1 aN cg []++aH 3 aA .R [],[.ptr 1]⟩),(24,⟨[(0,.ptr 1),(2,.ptr 3),(7,az)],aH 1 aN cg []++aH 3 aA .R [],[.ptr 1]⟩)] acJ Ri JD (fun k x=>BM k x.1) (by kernel_rfl) rfl
def TL:Entry:=⟨[aD ad,aD aM,aD aL],[ro ad,bT aA],w_⟩
def acL:aT 180 TL:=bQ bk 0 (fn:=Tryz.f180) (fns:=[(123,Mo),(127,vi),(176,qy),(211,xY),(212,TK)]) ⟨SS,xX,tq,Fe,acK,trivial⟩ (by kernel_rfl)
def TM:Entry:=⟨[uH ak,aD ba,aD aL],[bT aA],BP⟩
def acM(k:bB oz):qf:=⟨fun a b d e=>k 10 (aW [(0,aE 1),(5,aE 5),(6,aE 6),(9,aE 7)] (aI 1 ak ak.own [] a++aI 5 aL .R [] b++aI 6 aA .R [] d++aI 7 aM aM.own [] e) [aE 1,.bf,.bf]),fun a b d e=>k 12 (aW [(0,aE 1),(5,aE 5),(6,aE 6),(9,aE 7)] (aI 1 ak ak.own [] a++aI 5 aL .R [] b++aI 6 aA .R [] d++aI 7 aM aM.own [] e) [aE 1,.bf,.bf]),fun a b d e=>k 19 (aW [(0,aE 1),(5,aE 5),(6,aE 6),(9,aE 7)] (aI 1 ak ak.own [] a++aI 5 aL .R [] b++aI 6 aA .R [] d++aI 7 aM aM.own [] e) [aE 1,.bf,.bf])⟩
def acN:aT 126 TM:=bw bk 0 (fn:=Tryz.f126) (fns:=[(127,vi),(128,Fc),(176,qy),(177,SZ),(178,S0),(179,S2),(180,TL)]) ⟨xX,Mr,tq,abJ,abK,abN,acL,trivial⟩ [(10,⟨[(0,.ptr 1),(5,.ptr 5),(6,.ptr 6),(9,.ptr 7)],aH 1 ak ak.own []++aH 5 aL .R []++aH 6 aA .R []++aH 7 aM aM.own [],[.ptr 1,.drop,.drop]⟩),(12,⟨[(0,.ptr 1),(5,.ptr 5),(6,.ptr 6),(9,.ptr 7)],aH 1 ak ak.own []++aH 5 aL .R []++aH 6 aA .R []++aH 7 aM aM.own [],[.ptr 1,.drop,.drop]⟩),(19,⟨[(0,.ptr 1),(5,.ptr 5),(6,.ptr 6),(9,.ptr 7)],aH 1 ak ak.own []++aH 5 aL .R []++aH 6 aA .R []++aH 7 aM aM.own [],[.ptr 1,.drop,.drop]⟩)] acM Rk kr (fun k x=>BO k x.1 x.2.1 x.2.2.1) (by kernel_rfl) rfl
def TN:Entry:=⟨[uH ak,aD ba,aD ba,aD aL,aD ba],[bT aA,bT .bool],uV⟩
def acO(k:bB kY):oA:=⟨fun a b d e g h i j=>k 10 (aW [(0,aE 1),(1,aJ a),(2,aJ b),(4,aJ d),(8,aE 5),(10,aE 6),(13,aE 7),(14,hL e)] (aI 1 ak ak.own [] g++aI 5 aL .R [] h++aI 6 aA .R [] i++aI 7 aA .R [] j) [aE 1,.bf,.bf,.bf,.bf]),fun a b d e g h i=>k 11 (aW [(0,aE 1),(1,aJ a),(2,aJ b),(4,aJ d),(8,aE 5),(10,aE 6),(13,aE 7)] (aI 1 ak ak.own [] e++aI 5 aL .R [] g++aI 6 aA .R [] h++aI 7 aA .R [] i) [aE 1,.bf,.bf,.bf,.bf]),fun a b d e g h=>k 12 (aW [(0,aE 1),(1,aJ a),(2,aJ b),(4,aJ d),(10,aE 5),(13,aE 6)] (aI 1 ak ak.own [] e++aI 5 aA .R [] g++aI 6 aA .R [] h) [aE 1,.bf,.bf,.bf,.bf])⟩
def acP:aT 63 TN:=bw bk 0 (fn:=Tryz.f63) (fns:=[(119,gX),(124,SW),(125,Fb),(126,TM),(127,vi),(128,Fc),(129,Mp)]) ⟨hQ,abF,Mq,acN,xX,Mr,SX,trivial⟩ [(10,⟨[(0,.ptr 1),(1,az),(2,az),(4,az),(8,.ptr 5),(10,.ptr 6),(13,.ptr 7),(14,az)],aH 1 ak ak.own []++aH 5 aL .R []++aH 6 aA .R []++aH 7 aA .R [],[.ptr 1,.drop,.drop,.drop,.drop]⟩),(11,⟨[(0,.ptr 1),(1,az),(2,az),(4,az),(8,.ptr 5),(10,.ptr 6),(13,.ptr 7)],aH 1 ak ak.own []++aH 5 aL .R []++aH 6 aA .R []++aH 7 aA .R [],[.ptr 1,.drop,.drop,.drop,.drop]⟩),(12,⟨[(0,.ptr 1),(1,az),(2,az),(4,az),(10,.ptr 5),(13,.ptr 6)],aH 1 ak ak.own []++aH 5 aA .R []++aH 6 aA .R [],[.ptr 1,.drop,.drop,.drop,.drop]⟩)] acO Rm oB (fun k x=>BQ k x.1 x.2.1 x.2.2.1 x.2.2.2.1 x.2.2.2.2.1) (by kernel_rfl) rfl
def TO:Entry:=⟨[aD .str],[bT ba,bT ba],JJ⟩
def acQ(k:bB (Int×Int×Unit)):BR:=fun a b d=>k 3 (aW [(0,dZ a),(4,aJ b),(5,aJ d)] [] [.bf])
def acR:aT 223 TO:=bw bk 0 (fn:=Tryz.f223) (fns:=[]) trivial [(3,⟨[(0,az),(4,az),(5,az)],[],[.drop]⟩)] acQ BT sh (fun k x=>BS k x.1) (by kernel_rfl) rfl
def Fk:Entry:=⟨[uH i'],cF,oC⟩
def MF:aT 189 Fk:=bQ bk 0 (fn:=Tryz.f189) (fns:=[(223,TO)]) ⟨acR,trivial⟩ (by kernel_rfl)
def TP:Entry:=⟨[uH i',aD ba],[bT .str],uW⟩
def acS:aT 225 TP:=bQ bk 0 (fn:=Tryz.f225) (fns:=[]) trivial (by kernel_rfl)
def MG:Entry:=⟨[uH i'],[bT .str],sj⟩
def TQ:aT 191 MG:=bQ bk 0 (fn:=Tryz.f191) (fns:=[(189,Fk),(225,TP)]) ⟨MF,acS,trivial⟩ (by kernel_rfl)
def TS:Entry:=⟨[aD ba],cF,BU⟩
def acT:aT 224 TS:=bQ bk 0 (fn:=Tryz.f224) (fns:=[]) trivial (by kernel_rfl)
def TT:Entry:=⟨[aD .str],[bT aL,bT .bool],JN⟩
def acU:aT 190 TT:=bQ bk 0 (fn:=Tryz.f190) (fns:=[(127,vi),(189,Fk),(191,MG),(224,TS)]) ⟨xX,MF,TQ,acT,trivial⟩ (by kernel_rfl)
def TU:Entry:=⟨[aD aB],ct,JP⟩
def acV:aT 262 TU:=bQ bk 0 (fn:=Tryz.f262) (fns:=[(119,gX),(127,vi)]) ⟨hQ,xX,trivial⟩ (by kernel_rfl)
def TV:Entry:=⟨[aD (.sl aB),aD ba],ct,BX⟩
def acW(k:bB (Bool×Unit)):sk:=⟨fun a b d e g h=>k 3 (aW [(0,cq aB a),(1,aJ b),(5,aJ d),(8,cq aB e),(9,aJ g),(10,aJ h)] [] c6),fun a b d e g h i j=>k 8 (aW [(0,cq aB a),(1,aJ b),(5,aJ d),(6,aJ e),(7,aE 1),(8,cq aB g),(9,aJ h),(10,aJ i)] (aI 1 aB .R [] j) c6)⟩
def acX:aT 226 TV:=bw bk 0 (fn:=Tryz.f226) (fns:=[(262,TU)]) ⟨acV,trivial⟩ [(3,⟨[(0,.cell (.bq aB [])),(1,az),(5,az),(8,.cell (.bq aB [])),(9,az),(10,az)],[],c5⟩),(8,⟨[(0,.cell (.bq aB [])),(1,az),(5,az),(6,az),(7,.ptr 1),(8,.cell (.bq aB [])),(9,az),(10,az)],aH 1 aB .R [],c5⟩)] acW Rr nf (fun k x=>BV k x.1 x.2.1) (by kernel_rfl) rfl
def TW:Entry:=⟨[aD (.sl aB)],ct,BY⟩
def acY:aT 192 TW:=bQ bk 0 (fn:=Tryz.f192) (fns:=[(226,TV)]) ⟨acX,trivial⟩ (by kernel_rfl)
def TX:Entry:=⟨[aD .str],[ro (.sl aB),bT .bool],JR⟩
def acZ(k:bB xc):BZ:=fun a b=>k 5 (aW [(4,aE 1),(5,.aP (.aa 2 none))] (aI 1 i' .R [] a++[(2,.row aB .R 0 b)]) [.bf])
def ac0:aT 141 TX:=bw bk 0 (fn:=Tryz.f141) (fns:=[(189,Fk),(190,TT),(191,MG),(192,TW)]) ⟨MF,acU,TQ,acY,trivial⟩ [(5,⟨[(4,.ptr 1),(5,.cell (.aa 2))],aH 1 i' .R []++[(2,.row aB .R)],[.drop]⟩)] acZ ng nh (fun k x=>B0 k x.1) (by kernel_rfl) rfl
def TY:Entry:=⟨[aD ba],cF,JT⟩
def ac1:aT 142 TY:=bQ bk 0 (fn:=Tryz.f142) (fns:=[]) trivial (by kernel_rfl)
def TZ:Entry:=⟨[e4 ak,aD ba,aD ba],[bT bh],B1⟩
def ac2:aT 154 TZ:=bQ bk 0 (fn:=Tryz.f154) (fns:=[(125,Fb)]) ⟨Mq,trivial⟩ (by kernel_rfl)
def T0:Entry:=⟨[rJ (.sl ak),aD .str,aD ba],[ro (.sl bh)],JV⟩
def ac3(k:bB qg):qh:=⟨fun a b d e g=>k 5 (aW [(0,.aP (.aa 1 none)),(2,aJ a),(7,.aP (.aa 2 none)),(24,aJ b),(25,aJ d)] [(1,.row ak nA 0 e),(2,.row aB .R 0 g)] [.aP (.aa 1 none),.bf,.bf]),fun a b d e g h=>k 11 (aW [(0,.aP (.aa 1 none)),(2,aJ a),(10,.aP (.aa 2 none)),(40,.aP (.aa 3 none)),(41,aJ b),(42,aJ d)] [(1,.row ak nA 0 e),(2,.row bh .R 0 g),(3,.row aB .R 0 h)] [.aP (.aa 1 none),.bf,.bf])⟩
def ac4:aT 99 T0:=bw bk 0 (fn:=Tryz.f99) (fns:=[(63,TN),(125,Fb),(141,TX),(142,TY),(154,TZ)]) ⟨acP,Mq,ac0,ac1,ac2,trivial⟩ [(5,⟨[(0,.cell (.aa 1)),(2,az),(7,.cell (.aa 2)),(24,az),(25,az)],[(1,.row ak nA),(2,.row aB .R)],[.cell (.aa 1),.drop,.drop]⟩),(11,⟨[(0,.cell (.aa 1)),(2,az),(10,.cell (.aa 2)),(40,.cell (.aa 3)),(41,az),(42,az)],[(1,.row ak nA),(2,.row bh .R),(3,.row aB .R)],[.cell (.aa 1),.drop,.drop]⟩)] ac3 Rt ni (fun k x=>B2 k x.1 x.2.1 x.2.2.1) (by kernel_rfl) rfl
def T1:Entry:=⟨[aD (.sl ak),aD .str,aD ba],[ro (.sl ak),ro (.sl bh)],xd⟩
def ac5:aT 37 T1:=bQ bk 0 (fn:=Tryz.f37) (fns:=[(97,SR),(98,SV),(99,T0)]) ⟨abz,abD,ac4,trivial⟩ (by kernel_rfl)
def T2:Entry:=⟨[aD ar,aD ba],cF,JY⟩
def ac6:aT 263 T2:=bQ bk 0 (fn:=Tryz.f263) (fns:=[]) trivial (by kernel_rfl)
def T3:Entry:=⟨[aD (.sl ar),aD ba],cF,JZ⟩
def ac7(k:bB (Int×Unit)):B5:=fun a b d=>k 5 (aW [(0,cq ar a),(1,aJ b),(5,aJ d)] [] c6)
def ac8:aT 227 T3:=bw bk 0 (fn:=Tryz.f227) (fns:=[(263,T2)]) ⟨ac6,trivial⟩ [(5,⟨[(0,.cell (.bq ar [])),(1,az),(5,az)],[],c5⟩)] ac7 B7 sm (fun k x=>B6 k x.1 x.2.1) (by kernel_rfl) rfl
def T4:Entry:=⟨[aD J,aD ba],cF,J1⟩
def ac9:aT 193 T4:=bQ bk 0 (fn:=Tryz.f193) (fns:=[(227,T3)]) ⟨ac8,trivial⟩ (by kernel_rfl)
def T5:Entry:=⟨[aD (.sl J),aD ba],cF,J2⟩
def ac_(k:bB (Int×Unit)):B8:=fun a b d=>k 5 (aW [(0,cq J a),(1,aJ b),(5,aJ d)] [] c6)
def ac':aT 144 T5:=bw bk 0 (fn:=Tryz.f144) (fns:=[(193,T4)]) ⟨ac9,trivial⟩ [(5,⟨[(0,.cell (.bq J [])),(1,az),(5,az)],[],c5⟩)] ac_ B_ sn (fun k x=>B9 k x.1 x.2.1) (by kernel_rfl) rfl
def T6:Entry:=⟨[aD ad,aD ba],cF,J4⟩
def ada:aT 79 T6:=bQ bk 0 (fn:=Tryz.f79) (fns:=[(144,T5)]) ⟨ac',trivial⟩ (by kernel_rfl)
def T7:Entry:=⟨[aD (.sl aG),aD ba],cF,J6⟩
def adb:aT 80 T7:=bQ bk 0 (fn:=Tryz.f80) (fns:=[]) trivial (by kernel_rfl)
def T8:Entry:=⟨[aD aA,aD ba],cF,J8⟩
def ade:aT 194 T8:=bQ bk 0 (fn:=Tryz.f194) (fns:=[]) trivial (by kernel_rfl)
def T9:Entry:=⟨[aD aK,aD ba],cF,J_⟩
def adf:aT 145 T9:=bQ bk 0 (fn:=Tryz.f145) (fns:=[(194,T8)]) ⟨ade,trivial⟩ (by kernel_rfl)
def T_:Entry:=⟨[aD (.sl aK),aD ba],cF,J'⟩
def adg(k:bB (Int×Unit)):B':=fun a b d=>k 5 (aW [(0,cq aK a),(1,aJ b),(5,aJ d)] [] c6)
def adh:aT 81 T_:=bw bk 0 (fn:=Tryz.f81) (fns:=[(145,T9)]) ⟨adf,trivial⟩ [(5,⟨[(0,.cell (.bq aK [])),(1,az),(5,az)],[],c5⟩)] adg Cb so (fun k x=>Ca k x.1 x.2.1) (by kernel_rfl) rfl
def Ua:Entry:=⟨[aD ak,aD ba],cF,Kb⟩
def adi:aT 25 Ua:=bQ bk 0 (fn:=Tryz.f25) (fns:=[(79,T6),(80,T7),(81,T_)]) ⟨ada,adb,adh,trivial⟩ (by kernel_rfl)
def Ub:Entry:=⟨[aD (.sl ak),aD ba],cF,Kc⟩
def adj(k:bB (Int×Unit)):Cc:=fun a b d=>k 5 (aW [(0,cq ak a),(1,aJ b),(5,aJ d)] [] c6)
def adk:aT 44 Ub:=bw bk 0 (fn:=Tryz.f44) (fns:=[(25,Ua)]) ⟨adi,trivial⟩ [(5,⟨[(0,.cell (.bq ak [])),(1,az),(5,az)],[],c5⟩)] adj Ce sq (fun k x=>Cd k x.1 x.2.1) (by kernel_rfl) rfl
def iJ:Entry:=⟨[aD ba,aD ba,aD ba],ct,cH⟩
def jc:aT 67 iJ:=bQ bk 0 (fn:=Tryz.f67) (fns:=[]) trivial (by kernel_rfl)
def Fl:Entry:=⟨[aD (.int .u8)],ct,xe⟩
def MH:aT 222 Fl:=bQ bk 0 (fn:=Tryz.f222) (fns:=[]) trivial (by kernel_rfl)
def MI:Entry:=⟨[aD .str],ct,xf⟩
def adl(k:bB (Bool×Unit)):Cf:=fun a b=>k 4 (aW [(0,dZ a),(3,aJ b)] [] [.bf])
def Uc:aT 185 MI:=bw bk 0 (fn:=Tryz.f185) (fns:=[(67,iJ),(222,Fl)]) ⟨jc,MH,trivial⟩ [(4,⟨[(0,az),(3,az)],[],[.drop]⟩)] adl Ch sr (fun k x=>Cg k x.1) (by kernel_rfl) rfl
def Ud:Entry:=⟨[aD .str],ct,Kf⟩
def adm(k:bB (Bool×Unit)):Ci:=fun a b=>k 4 (aW [(0,dZ a),(3,aJ b)] [] [.bf])
def adn:aT 186 Ud:=bw bk 0 (fn:=Tryz.f186) (fns:=[(67,iJ),(222,Fl)]) ⟨jc,MH,trivial⟩ [(4,⟨[(0,az),(3,az)],[],[.drop]⟩)] adm Ck qi (fun k x=>Cj k x.1) (by kernel_rfl) rfl
def o5:Entry:=⟨[aD ad,aD ba],cF,j7⟩
def ado(k:bB (Int×Unit)):Cl:=fun a b d=>k 2 (aW [(1,aJ a),(2,aE 1),(5,aJ b)] (aI 1 ad .R [] d) c6)
def qA:aT 187 o5:=bw bk 0 (fn:=Tryz.f187) (fns:=[]) trivial [(2,⟨[(1,az),(2,.ptr 1),(5,az)],aH 1 ad .R [],c5⟩)] ado Cn su (fun k x=>Cm k x.1 x.2.1) (by kernel_rfl) rfl
def Ue:Entry:=⟨[aD ad,aD J],ct,Cp⟩
def adp(k:bB (Bool×Unit)):sv:=⟨fun a b d=>k 4 (aW [(2,aE 1),(3,aE 2),(5,hL a)] (aI 1 ad .R [] b++aI 2 J .R [] d) c6),fun a b d=>k 13 (aW [(2,aE 1),(3,aE 2),(6,aJ a)] (aI 1 ad .R [] b++aI 2 J .R [] d) c6)⟩
def adq:aT 135 Ue:=bw bk 0 (fn:=Tryz.f135) (fns:=[(67,iJ),(185,MI),(186,Ud),(187,o5)]) ⟨jc,Uc,adn,qA,trivial⟩ [(4,⟨[(2,.ptr 1),(3,.ptr 2),(5,az)],aH 1 ad .R []++aH 2 J .R [],c5⟩),(13,⟨[(2,.ptr 1),(3,.ptr 2),(6,az)],aH 1 ad .R []++aH 2 J .R [],c5⟩)] adp Rv oD (fun k x=>Co k x.1 x.2.1) (by kernel_rfl) rfl
def MJ:Entry:=⟨[aD ad,aD ba],[ro (.sl .bool)],Cr⟩
def adr(k:bB ((List Bool)×Unit)):oE:=⟨fun a b d e=>k 8 (aW [(2,aE 1),(5,.aP (.aa 2 none)),(6,.aP (.aa 3 none)),(8,aJ a)] (aI 1 ad .R [] b++[(2,.row .bool .R 0 d),(3,.row .bool .R 0 e)]) c6),fun a b d e g=>k 11 (aW [(2,aE 1),(5,.aP (.aa 2 none)),(6,.aP (.aa 3 none)),(8,aJ a),(9,aJ b)] (aI 1 ad .R [] d++[(2,.row .bool .R 0 e),(3,.row .bool .R 0 g)]) c6),fun a b d e g h=>k 15 (aW [(2,aE 1),(5,.aP (.aa 2 none)),(6,.aP (.aa 3 none)),(8,aJ a),(9,aJ b),(10,aJ d)] (aI 1 ad .R [] e++[(2,.row .bool .R 0 g),(3,.row .bool .R 0 h)]) c6)⟩
def Uf:aT 136 MJ:=bw bk 0 (fn:=Tryz.f136) (fns:=[(187,o5)]) ⟨qA,trivial⟩ [(8,⟨[(2,.ptr 1),(5,.cell (.aa 2)),(6,.cell (.aa 3)),(8,az)],aH 1 ad .R []++[(2,.row .bool .R),(3,.row .bool .R)],c5⟩),(11,⟨[(2,.ptr 1),(5,.cell (.aa 2)),(6,.cell (.aa 3)),(8,az),(9,az)],aH 1 ad .R []++[(2,.row .bool .R),(3,.row .bool .R)],c5⟩),(15,⟨[(2,.ptr 1),(5,.cell (.aa 2)),(6,.cell (.aa 3)),(8,az),(9,az),(10,az)],aH 1 ad .R []++[(2,.row .bool .R),(3,.row .bool .R)],c5⟩)] adr Rw js (fun k x=>Cq k x.1 x.2.1) (by kernel_rfl) rfl
def Fm:Entry:=⟨[aD ad,aD ba],cF,xl⟩
def ads(k:bB (Int×Unit)):sx:=⟨fun a b d e=>k 3 (aW [(1,aJ a),(2,aE 1),(5,aJ b),(6,aJ d)] (aI 1 ad .R [] e) c6),fun a b d e g=>k 6 (aW [(1,aJ a),(2,aE 1),(5,aJ b),(6,aJ d),(7,aJ e)] (aI 1 ad .R [] g) c6)⟩
def MK:aT 137 Fm:=bw bk 0 (fn:=Tryz.f137) (fns:=[]) trivial [(3,⟨[(1,az),(2,.ptr 1),(5,az),(6,az)],aH 1 ad .R [],c5⟩),(6,⟨[(1,az),(2,.ptr 1),(5,az),(6,az),(7,az)],aH 1 ad .R [],c5⟩)] ads Rx nk (fun k x=>Cs k x.1 x.2.1) (by kernel_rfl) rfl
def Fo:Entry:=⟨[aD ad],cF,xm⟩
def adt(k:bB (Int×Unit)):Ct:=fun a b d=>k 3 (aW [(1,aE 1),(3,aJ a),(4,aJ b)] (aI 1 ad .R [] d) [.bf])
def ML:aT 138 Fo:=bw bk 0 (fn:=Tryz.f138) (fns:=[]) trivial [(3,⟨[(1,.ptr 1),(3,az),(4,az)],aH 1 ad .R [],[.drop]⟩)] adt Cv sy (fun k x=>Cu k x.1) (by kernel_rfl) rfl
def MM:Entry:=⟨[aD ad,aD ba],[bT ba,bT ba],xn⟩
def adu(k:bB (Int×Int×Unit)):Cw:=fun a b d e g=>k 5 (aW [(2,aE 1),(6,.aP (.aa 2 none)),(7,aJ a),(8,aJ b),(9,aJ d)] (aI 1 ad .R [] e++[(2,.row .bool .R 0 g)]) c6)
def Ug:aT 188 MM:=bw bk 0 (fn:=Tryz.f188) (fns:=[(136,MJ)]) ⟨Uf,trivial⟩ [(5,⟨[(2,.ptr 1),(6,.cell (.aa 2)),(7,az),(8,az),(9,az)],aH 1 ad .R []++[(2,.row .bool .R)],c5⟩)] adu Cy sA (fun k x=>Cx k x.1 x.2.1) (by kernel_rfl) rfl
def MN:Entry:=⟨[aD ad],ct,CA⟩
def adv(k:bB (Bool×Unit)):sB:=⟨fun a b=>k 2 (aW [(1,aE 1),(3,aJ a)] (aI 1 ad .R [] b) [.bf]),fun a b d=>k 6 (aW [(1,aE 1),(3,aJ a),(4,aE 2)] (aI 1 ad .R [] b++aI 2 J .R [] d) [.bf])⟩
def Uh:aT 139 MN:=bw bk 0 (fn:=Tryz.f139) (fns:=[(188,MM)]) ⟨Ug,trivial⟩ [(2,⟨[(1,.ptr 1),(3,az)],aH 1 ad .R [],[.drop]⟩),(6,⟨[(1,.ptr 1),(3,az),(4,.ptr 2)],aH 1 ad .R []++aH 2 J .R [],[.drop]⟩)] adv Ry jt (fun k x=>Cz k x.1) (by kernel_rfl) rfl
def Ui:Entry:=⟨[aD ad],ct,Ki⟩
def adw(k:bB (Bool×Unit)):sC:=⟨fun a b=>k 4 (aW [(1,aE 1),(3,aJ a)] (aI 1 ad .R [] b) [.bf]),fun a b d=>k 11 (aW [(1,aE 1),(5,.aP (.aa 2 none)),(6,aJ a)] (aI 1 ad .R [] b++[(2,.row .bool .R 0 d)]) [.bf])⟩
def adx:aT 66 Ui:=bw bk 0 (fn:=Tryz.f66) (fns:=[(67,iJ),(135,Ue),(136,MJ),(137,Fm),(138,Fo),(139,MN)]) ⟨jc,adq,Uf,MK,ML,Uh,trivial⟩ [(4,⟨[(1,.ptr 1),(3,az)],aH 1 ad .R [],[.drop]⟩),(11,⟨[(1,.ptr 1),(5,.cell (.aa 2)),(6,az)],aH 1 ad .R []++[(2,.row .bool .R)],[.drop]⟩)] adw Rz lE (fun k x=>CB k x.1) (by kernel_rfl) rfl
def MO:Entry:=⟨[aD (.sl aG)],ct,CF⟩
def ady(k:bB (Bool×Unit)):CC:=fun a b=>k 4 (aW [(0,cq aG a),(3,aJ b)] [] [.bf])
def Uj:aT 68 MO:=bw bk 0 (fn:=Tryz.f68) (fns:=[(67,iJ)]) ⟨jc,trivial⟩ [(4,⟨[(0,.cell (.bq aG [])),(3,az)],[],[.drop]⟩)] ady CE sF (fun k x=>CD k x.1) (by kernel_rfl) rfl
def Uk:Entry:=⟨[aD aA],ct,CG⟩
def adz:aT 69 Uk:=bQ bk 0 (fn:=Tryz.f69) (fns:=[(67,iJ)]) ⟨jc,trivial⟩ (by kernel_rfl)
def Ul:Entry:=⟨[aD ak],ct,Kk⟩
def adA(k:bB (Bool×Unit)):CH:=fun a b=>k 4 (aW [(1,aE 1),(3,aJ a)] (aI 1 ak .R [] b) [.bf])
def adB:aT 14 Ul:=bw bk 0 (fn:=Tryz.f14) (fns:=[(66,Ui),(67,iJ),(68,MO),(69,Uk)]) ⟨adx,jc,Uj,adz,trivial⟩ [(4,⟨[(1,.ptr 1),(3,az)],aH 1 ak .R [],[.drop]⟩)] adA CJ qj (fun k x=>CI k x.1) (by kernel_rfl) rfl
def Um:Entry:=⟨[aD (.sl ak)],ct,Kl⟩
def adC(k:bB (Bool×Unit)):CK:=fun a b=>k 4 (aW [(0,cq ak a),(3,aJ b)] [] [.bf])
def adD:aT 40 Um:=bw bk 0 (fn:=Tryz.f40) (fns:=[(14,Ul)]) ⟨adB,trivial⟩ [(4,⟨[(0,.cell (.bq ak [])),(3,az)],[],[.drop]⟩)] adC CM sG (fun k x=>CL k x.1) (by kernel_rfl) rfl
def vm:Entry:=⟨[aD aL],ct,sH⟩
def adE(k:bB (Bool×Unit)):CN:=fun a=>k 5 (aW [(1,aE 1)] (aI 1 aL .R [] a) [.bf])
def x3:aT 132 vm:=bw bk 0 (fn:=Tryz.f132) (fns:=[(67,iJ)]) ⟨jc,trivial⟩ [(5,⟨[(1,.ptr 1)],aH 1 aL .R [],[.drop]⟩)] adE Km xq (fun k x=>CO k x.1) (by kernel_rfl) rfl
def Un:Entry:=⟨[aD aB],ct,Ko⟩
def adF:aT 199 Un:=bQ bk 0 (fn:=Tryz.f199) (fns:=[(67,iJ),(132,vm)]) ⟨jc,x3,trivial⟩ (by kernel_rfl)
def Uo:Entry:=⟨[aD (.sl aB),aD ba],ct,CS⟩
def adG(k:bB (Bool×Unit)):CP:=fun a b d=>k 2 (aW [(0,cq aB a),(1,aJ b),(5,aJ d)] [] c6)
def adH:aT 161 Uo:=bw bk 0 (fn:=Tryz.f161) (fns:=[(199,Un)]) ⟨adF,trivial⟩ [(2,⟨[(0,.cell (.bq aB [])),(1,az),(5,az)],[],c5⟩)] adG CR nm (fun k x=>CQ k x.1 x.2.1) (by kernel_rfl) rfl
def Up:Entry:=⟨[aD (.sl aB)],ct,Kq⟩
def adI:aT 106 Up:=bQ bk 0 (fn:=Tryz.f106) (fns:=[(161,Uo)]) ⟨adH,trivial⟩ (by kernel_rfl)
def vn:Entry:=⟨[aD ba],[bT .str],nn⟩
def adJ(k:bB ((af)×Unit)):xr:=fun a b=>k 4 (aW [(0,aJ a),(3,.aP (.aa 1 none))] [(1,.row (.int .u8) .R 0 b)] [.bf])
def x4:aT 162 vn:=bw bk 0 (fn:=Tryz.f162) (fns:=[(67,iJ)]) ⟨jc,trivial⟩ [(4,⟨[(0,az),(3,.cell (.aa 1))],[(1,.row (.int .u8) .R)],[.drop]⟩)] adJ Kr uX (fun k x=>CT k x.1) (by kernel_rfl) rfl
def MP:Entry:=⟨[aD .str],[bT .str],uY⟩
def Uq:aT 163 MP:=bQ bk 0 (fn:=Tryz.f163) (fns:=[(162,vn)]) ⟨x4,trivial⟩ (by kernel_rfl)
def Ur:Entry:=⟨[aD ba],[bT .str],uZ⟩
def adK:aT 198 Ur:=bQ bk 0 (fn:=Tryz.f198) (fns:=[(162,vn)]) ⟨x4,trivial⟩ (by kernel_rfl)
def MQ:Entry:=⟨[aD aL],[bT .str],u0⟩
def Us:aT 160 MQ:=bQ bk 0 (fn:=Tryz.f160) (fns:=[(132,vm),(162,vn),(163,MP),(198,Ur)]) ⟨x3,x4,Uq,adK,trivial⟩ (by kernel_rfl)
def Ut:Entry:=⟨[aD aB],[bT .str],Kw⟩
def adL:aT 107 Ut:=bQ bk 0 (fn:=Tryz.f107) (fns:=[(160,MQ),(162,vn),(163,MP)]) ⟨Us,x4,Uq,trivial⟩ (by kernel_rfl)
def Uu:Entry:=⟨[aD (.sl aB)],[bT .str],Kx⟩
def adM(k:bB ((af)×Unit)):CU:=fun a b d=>k 5 (aW [(0,cq aB a),(3,dZ b),(4,aJ d)] [] [.bf])
def adN:aT 43 Uu:=bw bk 0 (fn:=Tryz.f43) (fns:=[(106,Up),(107,Ut)]) ⟨adI,adL,trivial⟩ [(5,⟨[(0,.cell (.bq aB [])),(3,az),(4,az)],[],[.drop]⟩)] adM u1 sI (fun k x=>CV k x.1) (by kernel_rfl) rfl
def Uv:Entry:=⟨[aD .str],[bT ba,bT ba],Ky⟩
def adO(k:bB (Int×Int×Unit)):sJ:=⟨fun a b=>k 2 (aW [(0,dZ a),(4,aJ b)] [] [.bf]),fun a b d e=>k 6 (aW [(0,dZ a),(4,aJ b),(5,aJ d),(6,aJ e)] [] [.bf])⟩
def adP:aT 158 Uv:=bw bk 0 (fn:=Tryz.f158) (fns:=[(162,vn)]) ⟨x4,trivial⟩ [(2,⟨[(0,az),(4,az)],[],[.drop]⟩),(6,⟨[(0,az),(4,az),(5,az),(6,az)],[],[.drop]⟩)] adO RB ks (fun k x=>CW k x.1) (by kernel_rfl) rfl
def Fp:Entry:=⟨[aD .str,aD ba,aD ba],[ro (.sl ba),bT ba],mz⟩
def adQ(k:bB xu):CX:=fun a b d e g=>k 3 (aW [(0,dZ a),(1,aJ b),(2,aJ d),(8,.aP (.aa 1 none)),(9,aJ e)] [(1,.row ba .R 0 g)] dU)
def MR:aT 103 Fp:=bw bk 0 (fn:=Tryz.f103) (fns:=[(158,Uv)]) ⟨adP,trivial⟩ [(3,⟨[(0,az),(1,az),(2,az),(8,.cell (.aa 1)),(9,az)],[(1,.row ba .R)],dS⟩)] adQ xv my (fun k x=>CY k x.1 x.2.1 x.2.2.1) (by kernel_rfl) rfl
def MS:Entry:=⟨[aD .str,aD ba],[bT .str,bT ba],sL⟩
def Uw:aT 104 MS:=bQ bk 0 (fn:=Tryz.f104) (fns:=[(103,Fp)]) ⟨MR,trivial⟩ (by kernel_rfl)
def Ux:Entry:=⟨[aD ba],cF,u2⟩
def adR:aT 159 Ux:=bQ bk 0 (fn:=Tryz.f159) (fns:=[]) trivial (by kernel_rfl)
def Uy:Entry:=⟨[aD .str],[bT aL,bT .bool],KB⟩
def adS:aT 105 Uy:=bQ bk 0 (fn:=Tryz.f105) (fns:=[(103,Fp),(104,MS),(159,Ux),(160,MQ)]) ⟨MR,Uw,adR,Us,trivial⟩ (by kernel_rfl)
def Uz:Entry:=⟨[aD .str],[ro (.sl aB),bT .bool],KC⟩
def adT(k:bB u3):xw:=fun a b d=>k 5 (aW [(0,dZ a),(4,.aP (.aa 1 none)),(5,aJ b)] [(1,.row aB .R 0 d)] [.bf])
def adU:aT 41 Uz:=bw bk 0 (fn:=Tryz.f41) (fns:=[(43,Uu),(103,Fp),(104,MS),(105,Uy)]) ⟨adN,MR,Uw,adS,trivial⟩ [(5,⟨[(0,az),(4,.cell (.aa 1)),(5,az)],[(1,.row aB .R)],[.drop]⟩)] adT qk ql (fun k x=>CZ k x.1) (by kernel_rfl) rfl
def MT:Entry:=⟨[aD ak,aD ba],[bT ba,bT .bool],C1⟩
def adV(k:bB (Int×Bool×Unit)):C0:=fun a b d=>k 2 (aW [(1,aJ a),(2,aE 1),(6,aJ b)] (aI 1 ak .R [] d) c6)
def UA:aT 116 MT:=bw bk 0 (fn:=Tryz.f116) (fns:=[]) trivial [(2,⟨[(1,az),(2,.ptr 1),(6,az)],aH 1 ak .R [],c5⟩)] adV u4 u5 (fun k x=>RE k x.1 x.2.1) (by kernel_rfl) rfl
def MU:Entry:=⟨[aD ak,aD ba],[bT aK],C2⟩
def UB:aT 57 MU:=bQ bk 0 (fn:=Tryz.f57) (fns:=[(116,MT)]) ⟨UA,trivial⟩ (by kernel_rfl)
def UC:Entry:=⟨[aD ak],cF,KE⟩
def adW(k:bB (Int×Unit)):sM:=⟨fun a b d=>k 3 (aW [(1,aE 1),(3,aJ a),(4,aJ b)] (aI 1 ak .R [] d) [.bf]),fun a b d=>k 8 (aW [(1,aE 1),(3,aJ a),(5,aJ b)] (aI 1 ak .R [] d) [.bf])⟩
def adX:aT 130 UC:=bw bk 0 (fn:=Tryz.f130) (fns:=[]) trivial [(3,⟨[(1,.ptr 1),(3,az),(4,az)],aH 1 ak .R [],[.drop]⟩),(8,⟨[(1,.ptr 1),(3,az),(5,az)],aH 1 ak .R [],[.drop]⟩)] adW RG lF (fun k x=>RF k x.1) (by kernel_rfl) rfl
def Fq:Entry:=⟨[aD ba],ct,xx⟩
def MV:aT 133 Fq:=bQ bk 0 (fn:=Tryz.f133) (fns:=[]) trivial (by kernel_rfl)
def UD:Entry:=⟨[aD ba],[ro aM],KH⟩
def adY:aT 181 UD:=bQ bk 0 (fn:=Tryz.f181) (fns:=[]) trivial (by kernel_rfl)
def UE:Entry:=⟨[aD ba],cF,KJ⟩
def adZ:aT 213 UE:=bQ bk 0 (fn:=Tryz.f213) (fns:=[(67,iJ),(133,Fq)]) ⟨jc,MV,trivial⟩ (by kernel_rfl)
def UF:Entry:=⟨[aD ba,aD ba],[bT ba,bT .bool],KL⟩
def ad0:aT 182 UF:=bQ bk 0 (fn:=Tryz.f182) (fns:=[(213,UE)]) ⟨adZ,trivial⟩ (by kernel_rfl)
def MW:Entry:=⟨[aD ba],[bT .str],eB⟩
def ad1(k:bB ((af)×Unit)):C5:=fun a b d=>k 5 (aW [(0,aJ a),(3,dZ b),(4,hL d)] [] [.bf])
def UG:aT 214 MW:=bw bk 0 (fn:=Tryz.f214) (fns:=[]) trivial [(5,⟨[(0,az),(3,az),(4,az)],[],[.drop]⟩)] ad1 xy mA (fun k x=>C6 k x.1) (by kernel_rfl) rfl
def UH:Entry:=⟨[aD (.sl aG),aD ba],[bT .str],KN⟩
def ad2(k:bB ((af)×Unit)):sN:=⟨fun a b d e=>k 5 (aW [(0,cq aG a),(1,aJ b),(5,dZ d),(6,aJ e)] [] c6),fun a b d e=>k 9 (aW [(0,cq aG a),(1,aJ b),(5,dZ d),(6,aJ e)] [] c6)⟩
def ad3:aT 183 UH:=bw bk 0 (fn:=Tryz.f183) (fns:=[(68,MO),(214,MW)]) ⟨Uj,UG,trivial⟩ [(5,⟨[(0,.cell (.bq aG [])),(1,az),(5,az),(6,az)],[],c5⟩),(9,⟨[(0,.cell (.bq aG [])),(1,az),(5,az),(6,az)],[],c5⟩)] ad2 RH np (fun k x=>C7 k x.1 x.2.1) (by kernel_rfl) rfl
def qB:Entry:=⟨[aD ad],[.val ad gA],nq⟩
def ad4(k:bB (ad.D×Unit)):u6:=fun a b d e=>k 3 (aW [(1,aE 1),(2,aE 2),(3,aE 4),(4,aJ a)] (aI 1 ad .R [] b++aI 2 ad ad.own [] d++aI 4 ad ad.own [] e) [.bf])
def tr:aT 134 qB:=bw bk 0 (fn:=Tryz.f134) (fns:=[]) trivial [(3,⟨[(1,.ptr 1),(2,.ptr 2),(3,.ptr 4),(4,az)],aH 1 ad .R []++aH 2 ad ad.own []++aH 4 ad ad.own [],[.drop]⟩)] ad4 C_ sO (fun k x=>C9 k x.1) (by kernel_rfl) rfl
def MX:Entry:=⟨[aD .str],ct,Dc⟩
def ad5(k:bB (Bool×Unit)):C':=fun a b=>k 4 (aW [(0,dZ a),(3,aJ b)] [] [.bf])
def UI:aT 283 MX:=bw bk 0 (fn:=Tryz.f283) (fns:=[(67,iJ),(222,Fl)]) ⟨jc,MH,trivial⟩ [(4,⟨[(0,az),(3,az)],[],[.drop]⟩)] ad5 Db sP (fun k x=>Da k x.1) (by kernel_rfl) rfl
def Fs:Entry:=⟨[aD aM],ct,xz⟩
def ad6(k:bB (Bool×Unit)):Dd:=fun a b=>k 4 (aW [(1,aE 1),(3,aJ a)] (aI 1 aM .R [] b) [.bf])
def MY:aT 285 Fs:=bw bk 0 (fn:=Tryz.f285) (fns:=[(67,iJ)]) ⟨jc,trivial⟩ [(4,⟨[(1,.ptr 1),(3,az)],aH 1 aM .R [],[.drop]⟩)] ad6 Df sQ (fun k x=>De k x.1) (by kernel_rfl) rfl
def MZ:Entry:=⟨[aD aM,aD ba],ct,sS⟩
def ad7(k:bB (Bool×Unit)):Dg:=fun a b d e=>k 5 (aW [(1,aJ a),(2,aE 1),(5,hL b),(6,aJ d)] (aI 1 aM .R [] e) c6)
def UJ:aT 260 MZ:=bw bk 0 (fn:=Tryz.f260) (fns:=[(285,Fs)]) ⟨MY,trivial⟩ [(5,⟨[(1,az),(2,.ptr 1),(5,az),(6,az)],aH 1 aM .R [],c5⟩)] ad7 Di sR (fun k x=>Dh k x.1 x.2.1) (by kernel_rfl) rfl
def qC:Entry:=⟨[aD aM,aD J,aD ba],ct,ju⟩
def ts:aT 250 qC:=bQ bk 0 (fn:=Tryz.f250) (fns:=[(67,iJ),(260,MZ),(285,Fs)]) ⟨jc,UJ,MY,trivial⟩ (by kernel_rfl)
def M0:Entry:=⟨[aD ad,aD ba],cF,Dk⟩
def ad8(k:bB (Int×Unit)):sU:=⟨fun a b d=>k 2 (aW [(1,aJ a),(2,aE 1),(5,aJ b)] (aI 1 ad .R [] d) c6),fun a b d e=>k 5 (aW [(1,aJ a),(2,aE 1),(5,aJ b),(6,aJ d)] (aI 1 ad .R [] e) c6)⟩
def UK:aT 287 M0:=bw bk 0 (fn:=Tryz.f287) (fns:=[]) trivial [(2,⟨[(1,az),(2,.ptr 1),(5,az)],aH 1 ad .R [],c5⟩),(5,⟨[(1,az),(2,.ptr 1),(5,az),(6,az)],aH 1 ad .R [],c5⟩)] ad8 RK jM (fun k x=>Dj k x.1 x.2.1) (by kernel_rfl) rfl
def UL:Entry:=⟨[aD .str],[ro (.sl .str)],xC⟩
def ad9(k:bB xA):Dl:=fun a b d e=>k 4 (aW [(0,dZ a),(3,.aP (.aa 1 none)),(4,aJ b),(5,aJ d)] [(1,.row .str .R 0 e)] [.bf])
def ad_:aT 300 UL:=bw bk 0 (fn:=Tryz.f300) (fns:=[]) trivial [(4,⟨[(0,az),(3,.cell (.aa 1)),(4,az),(5,az)],[(1,.row .str .R)],[.drop]⟩)] ad9 xB oF (fun k x=>Dm k x.1) (by kernel_rfl) rfl
def UM:Entry:=⟨[aD ad,aD ba,aD .str],cF,KP⟩
def ad'(k:bB (Int×Unit)):Dn:=fun a b d=>k 3 (aW [(2,dZ a),(7,cq ar b),(8,aJ d)] [] dU)
def aea:aT 301 UM:=bw bk 0 (fn:=Tryz.f301) (fns:=[(187,o5)]) ⟨qA,trivial⟩ [(3,⟨[(2,az),(7,.cell (.bq ar [])),(8,az)],[],dS⟩)] ad' Dq qm (fun k x=>Dp k x.1 x.2.1 x.2.2.1) (by kernel_rfl) rfl
def M1:Entry:=⟨[aD ad,aD aM,aD .str,aD .bool],[bT aV],Dv⟩
def aeb(k:bB (aV.D×Unit)):nr:=⟨fun a b d e g h i j l=>k 4 (aW [(3,hL a),(4,aE 1),(5,aE 2),(8,aE 3),(9,.aP (.aa 4 (some (b,d)))),(10,aJ e),(11,aJ g)] (aI 1 ad .R [] h++aI 2 aM .R [] i++aI 3 aV .R [] j++[(4,.row .str .R 0 l)]) lK),fun a b d e g h i j l m n o p=>k 21 (aW [(3,hL a),(4,aE 1),(5,aE 2),(8,aE 3),(9,.aP (.aa 4 (some (b,d)))),(10,aJ e),(11,aJ g),(12,dZ h),(13,hL i),(14,aJ j),(15,aE 5)] (aI 1 ad .R [] l++aI 2 aM .R [] m++aI 3 aV .R [] n++[(4,.row .str .R 0 o)]++aI 5 J .R [] p) lK),fun a b d e g h i j l m=>k 22 (aW [(3,hL a),(4,aE 1),(5,aE 2),(8,aE 3),(9,.aP (.aa 4 (some (b,d)))),(10,aJ e),(11,aJ g),(15,aE 5)] (aI 1 ad .R [] h++aI 2 aM .R [] i++aI 3 aV .R [] j++[(4,.row .str .R 0 l)]++aI 5 J .R [] m) lK),fun a b d e g h i j l m n o p=>k 30 (aW [(3,hL a),(4,aE 1),(5,aE 2),(8,aE 3),(9,.aP (.aa 4 (some (b,d)))),(10,aJ e),(11,aJ g),(12,dZ h),(13,hL i),(14,aJ j),(15,aE 5)] (aI 1 ad .R [] l++aI 2 aM .R [] m++aI 3 aV .R [] n++[(4,.row .str .R 0 o)]++aI 5 J .R [] p) lK),fun a b d e g h i j l m=>k 27 (aW [(3,hL a),(4,aE 1),(5,aE 2),(8,aE 3),(9,.aP (.aa 4 (some (b,d)))),(10,aJ e),(11,aJ g),(15,aE 5)] (aI 1 ad .R [] h++aI 2 aM .R [] i++aI 3 aV .R [] j++[(4,.row .str .R 0 l)]++aI 5 J .R [] m) lK)⟩
def UN:aT 284 M1:=bw bk 0 (fn:=Tryz.f284) (fns:=[(187,o5),(250,qC),(287,M0),(300,UL),(301,UM)]) ⟨qA,ts,UK,ad_,aea,trivial⟩ [(4,⟨[(3,az),(4,.ptr 1),(5,.ptr 2),(8,.ptr 3),(9,.cell (.ai 4)),(10,az),(11,az)],aH 1 ad .R []++aH 2 aM .R []++aH 3 aV .R []++[(4,.row .str .R)],lJ⟩),(21,⟨[(3,az),(4,.ptr 1),(5,.ptr 2),(8,.ptr 3),(9,.cell (.ai 4)),(10,az),(11,az),(12,az),(13,az),(14,az),(15,.ptr 5)],aH 1 ad .R []++aH 2 aM .R []++aH 3 aV .R []++[(4,.row .str .R)]++aH 5 J .R [],lJ⟩),(22,⟨[(3,az),(4,.ptr 1),(5,.ptr 2),(8,.ptr 3),(9,.cell (.ai 4)),(10,az),(11,az),(15,.ptr 5)],aH 1 ad .R []++aH 2 aM .R []++aH 3 aV .R []++[(4,.row .str .R)]++aH 5 J .R [],lJ⟩),(30,⟨[(3,az),(4,.ptr 1),(5,.ptr 2),(8,.ptr 3),(9,.cell (.ai 4)),(10,az),(11,az),(12,az),(13,az),(14,az),(15,.ptr 5)],aH 1 ad .R []++aH 2 aM .R []++aH 3 aV .R []++[(4,.row .str .R)]++aH 5 J .R [],lJ⟩),(27,⟨[(3,az),(4,.ptr 1),(5,.ptr 2),(8,.ptr 3),(9,.cell (.ai 4)),(10,az),(11,az),(15,.ptr 5)],aH 1 ad .R []++aH 2 aM .R []++aH 3 aV .R []++[(4,.row .str .R)]++aH 5 J .R [],lJ⟩)] aeb RM eW (fun k x=>Dr k x.1 x.2.1 x.2.2.1 x.2.2.2.1) (by kernel_rfl) rfl
def M3:Entry:=⟨[aD ad,aD aM,aD .str],[bT aV,bT ba],sX⟩
def UO:aT 248 M3:=bQ bk 0 (fn:=Tryz.f248) (fns:=[(283,MX),(284,M1)]) ⟨UI,UN,trivial⟩ (by kernel_rfl)
def nB:Entry:=⟨[aD ad,aD ba],[bT J],eX⟩
def o6:aT 249 nB:=bQ bk 0 (fn:=Tryz.f249) (fns:=[(187,o5)]) ⟨qA,trivial⟩ (by kernel_rfl)
def UP:Entry:=⟨[aD ad],cF,KS⟩
def aec:aT 286 UP:=bQ bk 0 (fn:=Tryz.f286) (fns:=[(138,Fo),(139,MN)]) ⟨ML,Uh,trivial⟩ (by kernel_rfl)
def vo:Entry:=⟨[aD ad,.val ad gA],[bT ad,bT aA],oG⟩
def x5:aT 251 vo:=bQ bk 0 (fn:=Tryz.f251) (fns:=[(286,UP)]) ⟨aec,trivial⟩ (by kernel_rfl)
def vp:Entry:=⟨[.val ad gA,uG J],[.val ad gA],mB⟩
def x6:aT 253 vp:=bQ bk 0 (fn:=Tryz.f253) (fns:=[(187,o5)]) ⟨qA,trivial⟩ (by kernel_rfl)
def Ft:Entry:=⟨[.val ad gA,aD ba,aD .str,aD ba],[.val ad gA],qo⟩
def aed(k:bB (ad.D×Unit)):qn:=⟨fun a b d e g h i j=>k 5 (aW [(2,dZ a),(3,aJ b),(4,aE 1),(8,aE 3),(9,aE 5),(10,.aP (.aa 6 none)),(11,hL d),(12,aJ e)] (aI 1 ad gA [] g++aI 3 ad ad.own [] h++aI 5 J .R [2] i++[(6,.row ar .R 0 j)]) lK),fun a b d e g h i j=>k 10 (aW [(2,dZ a),(3,aJ b),(4,aE 1),(8,aE 3),(9,aE 5),(10,.aP (.aa 6 none)),(11,hL d),(12,aJ e)] (aI 1 ad gA [] g++aI 3 ad ad.own [] h++aI 5 J .R [2] i++[(6,.row ar .R 0 j)]) lK),fun a b d e=>k 13 (aW [(4,aE 1),(8,aE 3),(9,aE 5),(10,.aP (.aa 6 none))] (aI 1 ad gA [] a++aI 3 ad ad.own [] b++aI 5 J .R [2] d++[(6,.row ar .R 0 e)]) lK)⟩
def M4:aT 252 Ft:=bw bk 0 (fn:=Tryz.f252) (fns:=[(249,nB),(253,vp)]) ⟨o6,x6,trivial⟩ [(5,⟨[(2,az),(3,az),(4,.ptr 1),(8,.ptr 3),(9,.ptr 5),(10,.cell (.aa 6)),(11,az),(12,az)],aH 1 ad gA []++aH 3 ad ad.own []++aH 5 J .R [2]++[(6,.row ar .R)],lJ⟩),(10,⟨[(2,az),(3,az),(4,.ptr 1),(8,.ptr 3),(9,.ptr 5),(10,.cell (.aa 6)),(11,az),(12,az)],aH 1 ad gA []++aH 3 ad ad.own []++aH 5 J .R [2]++[(6,.row ar .R)],lJ⟩),(13,⟨[(4,.ptr 1),(8,.ptr 3),(9,.ptr 5),(10,.cell (.aa 6))],aH 1 ad gA []++aH 3 ad ad.own []++aH 5 J .R [2]++[(6,.row ar .R)],lJ⟩)] aed RO hP (fun k x=>Dw k x.1 x.2.1 x.2.2.1 x.2.2.2.1) (by kernel_rfl) rfl
def UQ:Entry:=⟨[uG ad,aD aM,aD aL],[bT ad,bT aA],sZ⟩
def aee(k:bB mD):oH:=⟨fun a b d e g=>k 3 (aW [(3,aE 1),(4,aE 2),(5,aE 3),(6,aE 4),(7,aE 6)] (aI 1 ad .R [] a++aI 2 aM .R [] b++aI 3 aL .R [] d++aI 4 ad ad.own [] e++aI 6 aA .R [] g) dU),fun a b d e g h i=>k 14 (aW [(3,aE 1),(5,aE 2),(6,aE 3),(7,aE 5),(8,aE 6),(10,aE 7),(11,aE 8)] (aI 1 ad .R [] a++aI 2 aL .R [] b++aI 3 ad ad.own [] d++aI 5 aA .R [] e++aI 6 aV .R [] g++aI 7 J .R [] h++aI 8 J J.own [] i) dU),fun a b d e g h=>k 18 (aW [(3,aE 1),(6,aE 2),(7,aE 4),(8,aE 5),(10,aE 6),(11,aE 7)] (aI 1 ad .R [] a++aI 2 ad ad.own [] b++aI 4 aA .R [] d++aI 5 aV .R [] e++aI 6 J .R [] g++aI 7 J J.own [] h) dU),fun a b d e g=>k 22 (aW [(3,aE 1),(6,aE 2),(7,aE 4),(8,aE 5),(11,aE 6)] (aI 1 ad .R [] a++aI 2 ad ad.own [] b++aI 4 aA .R [] d++aI 5 aV .R [] e++aI 6 J J.own [] g) dU)⟩
def aef:aT 215 UQ:=bw bk 0 (fn:=Tryz.f215) (fns:=[(67,iJ),(134,qB),(185,MI),(248,M3),(249,nB),(250,qC),(251,vo),(252,Ft),(253,vp)]) ⟨jc,tr,Uc,UO,o6,ts,x5,M4,x6,trivial⟩ [(3,⟨[(3,.ptr 1),(4,.ptr 2),(5,.ptr 3),(6,.ptr 4),(7,.ptr 6)],aH 1 ad .R []++aH 2 aM .R []++aH 3 aL .R []++aH 4 ad ad.own []++aH 6 aA .R [],dS⟩),(14,⟨[(3,.ptr 1),(5,.ptr 2),(6,.ptr 3),(7,.ptr 5),(8,.ptr 6),(10,.ptr 7),(11,.ptr 8)],aH 1 ad .R []++aH 2 aL .R []++aH 3 ad ad.own []++aH 5 aA .R []++aH 6 aV .R []++aH 7 J .R []++aH 8 J J.own [],dS⟩),(18,⟨[(3,.ptr 1),(6,.ptr 2),(7,.ptr 4),(8,.ptr 5),(10,.ptr 6),(11,.ptr 7)],aH 1 ad .R []++aH 2 ad ad.own []++aH 4 aA .R []++aH 5 aV .R []++aH 6 J .R []++aH 7 J J.own [],dS⟩),(22,⟨[(3,.ptr 1),(6,.ptr 2),(7,.ptr 4),(8,.ptr 5),(11,.ptr 6)],aH 1 ad .R []++aH 2 ad ad.own []++aH 4 aA .R []++aH 5 aV .R []++aH 6 J J.own [],dS⟩)] aee RP jb (fun k x=>Dx k x.1 x.2.1 x.2.2.1) (by kernel_rfl) rfl
def tt:Entry:=⟨[aD ad,aD aM,aD .str,aD .bool],[bT aV],eI⟩
def vq:aT 254 tt:=bQ bk 0 (fn:=Tryz.f254) (fns:=[(283,MX),(284,M1)]) ⟨UI,UN,trivial⟩ (by kernel_rfl)
def M5:Entry:=⟨[aD aM,aD J,aD J],ct,u9⟩
def UR:aT 255 M5:=bQ bk 0 (fn:=Tryz.f255) (fns:=[(285,Fs)]) ⟨MY,trivial⟩ (by kernel_rfl)
def M6:Entry:=⟨[.val ad gA,aD ba,aD .str],[.val ad gA],mE⟩
def aeg(k:bB (ad.D×Unit)):s5:=⟨fun a b d e g h i=>k 5 (aW [(2,dZ a),(3,aE 1),(6,aE 3),(7,aE 5),(8,aJ b),(9,.aP (.aa 6 none)),(10,aJ d)] (aI 1 ad gA [] e++aI 3 ad ad.own [] g++aI 5 J .R [2] h++[(6,.row ar .R 0 i)]) dU),fun a b d e g=>k 16 (aW [(3,aE 1),(6,aE 3),(8,aJ a),(11,.aP (.aa 5 none)),(12,aJ b)] (aI 1 ad gA [] d++aI 3 ad ad.own [] e++[(5,.row J .R 0 g)]) dU)⟩
def US:aT 256 M6:=bw bk 0 (fn:=Tryz.f256) (fns:=[(137,Fm),(249,nB),(253,vp)]) ⟨MK,o6,x6,trivial⟩ [(5,⟨[(2,az),(3,.ptr 1),(6,.ptr 3),(7,.ptr 5),(8,az),(9,.cell (.aa 6)),(10,az)],aH 1 ad gA []++aH 3 ad ad.own []++aH 5 J .R [2]++[(6,.row ar .R)],dS⟩),(16,⟨[(3,.ptr 1),(6,.ptr 3),(8,az),(11,.cell (.aa 5)),(12,az)],aH 1 ad gA []++aH 3 ad ad.own []++[(5,.row J .R)],dS⟩)] aeg RQ j8 (fun k x=>Dy k x.1 x.2.1 x.2.2.1) (by kernel_rfl) rfl
def UT:Entry:=⟨[aD ad,aD aM,aD aL],[bT ad,bT aA],xJ⟩
def aeh(k:bB oI):qp:=⟨fun a b d e g h i=>k 7 (aW [(3,aE 1),(4,aE 2),(5,aE 3),(6,aE 4),(7,aE 6),(8,aE 7),(9,aE 8)] (aI 1 ad .R [] a++aI 2 aM .R [] b++aI 3 aL .R [] d++aI 4 ad ad.own [] e++aI 6 aA .R [] g++aI 7 aV .R [] h++aI 8 J .R [] i) dU),fun a b d e g h i=>k 9 (aW [(3,aE 1),(4,aE 2),(5,aE 3),(6,aE 4),(7,aE 6),(8,aE 7),(9,aE 8)] (aI 1 ad .R [] a++aI 2 aM .R [] b++aI 3 aL .R [] d++aI 4 ad ad.own [] e++aI 6 aA .R [] g++aI 7 aV .R [] h++aI 8 J .R [] i) dU),fun a b d e g h=>k 11 (aW [(3,aE 1),(4,aE 2),(6,aE 3),(7,aE 5),(8,aE 6),(9,aE 7)] (aI 1 ad .R [] a++aI 2 aM .R [] b++aI 3 ad ad.own [] d++aI 5 aA .R [] e++aI 6 aV .R [] g++aI 7 J .R [] h) dU)⟩
def aei:aT 216 UT:=bw bk 0 (fn:=Tryz.f216) (fns:=[(134,qB),(249,nB),(250,qC),(254,tt),(255,M5),(256,M6)]) ⟨tr,o6,ts,vq,UR,US,trivial⟩ [(7,⟨[(3,.ptr 1),(4,.ptr 2),(5,.ptr 3),(6,.ptr 4),(7,.ptr 6),(8,.ptr 7),(9,.ptr 8)],aH 1 ad .R []++aH 2 aM .R []++aH 3 aL .R []++aH 4 ad ad.own []++aH 6 aA .R []++aH 7 aV .R []++aH 8 J .R [],dS⟩),(9,⟨[(3,.ptr 1),(4,.ptr 2),(5,.ptr 3),(6,.ptr 4),(7,.ptr 6),(8,.ptr 7),(9,.ptr 8)],aH 1 ad .R []++aH 2 aM .R []++aH 3 aL .R []++aH 4 ad ad.own []++aH 6 aA .R []++aH 7 aV .R []++aH 8 J .R [],dS⟩),(11,⟨[(3,.ptr 1),(4,.ptr 2),(6,.ptr 3),(7,.ptr 5),(8,.ptr 6),(9,.ptr 7)],aH 1 ad .R []++aH 2 aM .R []++aH 3 ad ad.own []++aH 5 aA .R []++aH 6 aV .R []++aH 7 J .R [],dS⟩)] aeh RR oJ (fun k x=>Dz k x.1 x.2.1 x.2.2.1) (by kernel_rfl) rfl
def M7:Entry:=⟨[aD ad,aD ba],ct,u_⟩
def UU:aT 257 M7:=bQ bk 0 (fn:=Tryz.f257) (fns:=[(187,o5)]) ⟨qA,trivial⟩ (by kernel_rfl)
def UW:Entry:=⟨[aD ad,aD aM,aD aL],[bT ad,bT aA],DA⟩
def aej:aT 217 UW:=bQ bk 0 (fn:=Tryz.f217) (fns:=[(134,qB),(248,M3),(249,nB),(250,qC),(251,vo),(252,Ft),(254,tt),(257,M7)]) ⟨tr,UO,o6,ts,x5,M4,vq,UU,trivial⟩ (by kernel_rfl)
def UX:Entry:=⟨[aD ad,aD ba,aD ba],ct,xK⟩
def aek(k:bB (Bool×Unit)):DB:=fun a b d e=>k 2 (aW [(1,aJ a),(2,aJ b),(3,aE 1),(7,aJ d)] (aI 1 ad .R [] e) dU)
def ael:aT 258 UX:=bw bk 0 (fn:=Tryz.f258) (fns:=[(287,M0)]) ⟨UK,trivial⟩ [(2,⟨[(1,az),(2,az),(3,.ptr 1),(7,az)],aH 1 ad .R [],dS⟩)] aek DD s6 (fun k x=>DC k x.1 x.2.1 x.2.2.1) (by kernel_rfl) rfl
def UY:Entry:=⟨[aD ad,aD aM,aD aL],[bT ad,bT aA],DF⟩
def aem(k:bB kZ):nt:=⟨fun a b d e g h=>k 7 (aW [(3,aE 1),(4,aE 2),(6,aE 3),(7,aE 5),(8,aE 6),(9,aE 7)] (aI 1 ad .R [] a++aI 2 aM .R [] b++aI 3 ad ad.own [] d++aI 5 aA .R [] e++aI 6 aV .R [] g++aI 7 aV .R [] h) dU),fun a b d e g h i j=>k 18 (aW [(3,aE 1),(4,aE 2),(6,aE 3),(7,aE 5),(8,aE 6),(9,aE 7),(11,aE 8),(12,aE 9)] (aI 1 ad .R [] a++aI 2 aM .R [] b++aI 3 ad ad.own [] d++aI 5 aA .R [] e++aI 6 aV .R [] g++aI 7 aV .R [] h++aI 8 J .R [] i++aI 9 J .R [] j) dU),fun a b d e g h i j=>k 27 (aW [(3,aE 1),(6,aE 2),(7,aE 4),(8,aE 5),(9,aE 6),(12,aE 7),(13,aE 8),(14,aE 10)] (aI 1 ad .R [] a++aI 2 ad ad.own [] b++aI 4 aA .R [] d++aI 5 aV .R [] e++aI 6 aV .R [] g++aI 7 J .R [] h++aI 8 ad gA [] i++aI 10 J .R [] j) dU),fun a b d e g h=>k 34 (aW [(3,aE 1),(6,aE 2),(7,aE 4),(8,aE 5),(9,aE 6),(13,aE 7)] (aI 1 ad .R [] a++aI 2 ad ad.own [] b++aI 4 aA .R [] d++aI 5 aV .R [] e++aI 6 aV .R [] g++aI 7 ad gA [] h) dU),fun a b d e g h i j=>k 29 (aW [(3,aE 1),(6,aE 2),(7,aE 4),(8,aE 5),(9,aE 6),(12,aE 7),(13,aE 8),(14,aE 10)] (aI 1 ad .R [] a++aI 2 ad ad.own [] b++aI 4 aA .R [] d++aI 5 aV .R [] e++aI 6 aV .R [] g++aI 7 J .R [] h++aI 8 ad gA [] i++aI 10 J .R [] j) dU)⟩
def aen:aT 218 UY:=bw bk 0 (fn:=Tryz.f218) (fns:=[(134,qB),(249,nB),(250,qC),(251,vo),(252,Ft),(254,tt),(255,M5),(256,M6),(258,UX)]) ⟨tr,o6,ts,x5,M4,vq,UR,US,ael,trivial⟩ [(7,⟨[(3,.ptr 1),(4,.ptr 2),(6,.ptr 3),(7,.ptr 5),(8,.ptr 6),(9,.ptr 7)],aH 1 ad .R []++aH 2 aM .R []++aH 3 ad ad.own []++aH 5 aA .R []++aH 6 aV .R []++aH 7 aV .R [],dS⟩),(18,⟨[(3,.ptr 1),(4,.ptr 2),(6,.ptr 3),(7,.ptr 5),(8,.ptr 6),(9,.ptr 7),(11,.ptr 8),(12,.ptr 9)],aH 1 ad .R []++aH 2 aM .R []++aH 3 ad ad.own []++aH 5 aA .R []++aH 6 aV .R []++aH 7 aV .R []++aH 8 J .R []++aH 9 J .R [],dS⟩),(27,⟨[(3,.ptr 1),(6,.ptr 2),(7,.ptr 4),(8,.ptr 5),(9,.ptr 6),(12,.ptr 7),(13,.ptr 8),(14,.ptr 10)],aH 1 ad .R []++aH 2 ad ad.own []++aH 4 aA .R []++aH 5 aV .R []++aH 6 aV .R []++aH 7 J .R []++aH 8 ad gA []++aH 10 J .R [],dS⟩),(34,⟨[(3,.ptr 1),(6,.ptr 2),(7,.ptr 4),(8,.ptr 5),(9,.ptr 6),(13,.ptr 7)],aH 1 ad .R []++aH 2 ad ad.own []++aH 4 aA .R []++aH 5 aV .R []++aH 6 aV .R []++aH 7 ad gA [],dS⟩),(29,⟨[(3,.ptr 1),(6,.ptr 2),(7,.ptr 4),(8,.ptr 5),(9,.ptr 6),(12,.ptr 7),(13,.ptr 8),(14,.ptr 10)],aH 1 ad .R []++aH 2 ad ad.own []++aH 4 aA .R []++aH 5 aV .R []++aH 6 aV .R []++aH 7 J .R []++aH 8 ad gA []++aH 10 J .R [],dS⟩)] aem RT fX (fun k x=>DE k x.1 x.2.1 x.2.2.1) (by kernel_rfl) rfl
def UZ:Entry:=⟨[aD .str,aD ba,aD .str],[bT .str],qs⟩
def aeo(k:bB ((af)×Unit)):qq:=⟨fun a b d=>k 2 (aW [(1,aJ a),(2,dZ b),(7,.aP (.aa 1 none))] [(1,.row (.int .u8) .R 0 d)] dU),fun a b d e=>k 5 (aW [(1,aJ a),(2,dZ b),(7,.aP (.aa 1 none)),(8,aJ d)] [(1,.row (.int .u8) .R 0 e)] dU)⟩
def aep:aT 259 UZ:=bw bk 0 (fn:=Tryz.f259) (fns:=[]) trivial [(2,⟨[(1,az),(2,az),(7,.cell (.aa 1))],[(1,.row (.int .u8) .R)],dS⟩),(5,⟨[(1,az),(2,az),(7,.cell (.aa 1)),(8,az)],[(1,.row (.int .u8) .R)],dS⟩)] aeo RV lG (fun k x=>DG k x.1 x.2.1 x.2.2.1) (by kernel_rfl) rfl
def U0:Entry:=⟨[aD ad,aD aM,aD aL],[bT ad,bT aA],u'⟩
def aeq(k:bB s7):s8:=⟨fun a b d e g h=>k 12 (aW [(3,aE 1),(5,aE 2),(6,aE 3),(7,aE 5),(9,aE 6),(10,aJ a)] (aI 1 ad .R [] b++aI 2 aL .R [] d++aI 3 ad ad.own [] e++aI 5 aA .R [] g++aI 6 J .R [] h) dU),fun a b d e=>k 23 (aW [(3,aE 1),(6,aE 2),(7,aE 4),(9,aE 5)] (aI 1 ad .R [] a++aI 2 ad ad.own [] b++aI 4 aA .R [] d++aI 5 J .R [] e) dU)⟩
def aer:aT 219 U0:=bw bk 0 (fn:=Tryz.f219) (fns:=[(134,qB),(249,nB),(250,qC),(251,vo),(253,vp),(254,tt),(259,UZ)]) ⟨tr,o6,ts,x5,x6,vq,aep,trivial⟩ [(12,⟨[(3,.ptr 1),(5,.ptr 2),(6,.ptr 3),(7,.ptr 5),(9,.ptr 6),(10,az)],aH 1 ad .R []++aH 2 aL .R []++aH 3 ad ad.own []++aH 5 aA .R []++aH 6 J .R [],dS⟩),(23,⟨[(3,.ptr 1),(6,.ptr 2),(7,.ptr 4),(9,.ptr 5)],aH 1 ad .R []++aH 2 ad ad.own []++aH 4 aA .R []++aH 5 J .R [],dS⟩)] aeq RW jv (fun k x=>DH k x.1 x.2.1 x.2.2.1) (by kernel_rfl) rfl
def U1:Entry:=⟨[aD ad,aD aM,aD aL],[bT ad,bT aA],qu⟩
def aes(k:bB mF):oK:=⟨fun a b d e g h=>k 8 (aW [(3,aE 1),(4,aE 2),(5,aE 3),(6,aE 4),(7,aE 6),(8,hL a)] (aI 1 ad .R [] b++aI 2 aM .R [] d++aI 3 aL .R [] e++aI 4 ad ad.own [] g++aI 6 aA .R [] h) dU),fun a b d e g=>k 12 (aW [(3,aE 1),(4,aE 2),(5,aE 3),(6,aE 4),(7,aE 6)] (aI 1 ad .R [] a++aI 2 aM .R [] b++aI 3 aL .R [] d++aI 4 ad ad.own [] e++aI 6 aA .R [] g) dU),fun a b d e g h=>k 24 (aW [(3,aE 1),(4,aE 2),(5,aE 3),(6,aE 4),(7,aE 6),(10,aE 7)] (aI 1 ad .R [] a++aI 2 aM .R [] b++aI 3 aL .R [] d++aI 4 ad ad.own [] e++aI 6 aA .R [] g++aI 7 J .R [] h) dU),fun a b d e=>k 32 (aW [(3,aE 1),(6,aE 2),(7,aE 4),(10,aE 5)] (aI 1 ad .R [] a++aI 2 ad ad.own [] b++aI 4 aA .R [] d++aI 5 J .R [] e) dU)⟩
def aet:aT 220 U1:=bw bk 0 (fn:=Tryz.f220) (fns:=[(67,iJ),(134,qB),(249,nB),(251,vo),(253,vp),(254,tt),(260,MZ)]) ⟨jc,tr,o6,x5,x6,vq,UJ,trivial⟩ [(8,⟨[(3,.ptr 1),(4,.ptr 2),(5,.ptr 3),(6,.ptr 4),(7,.ptr 6),(8,az)],aH 1 ad .R []++aH 2 aM .R []++aH 3 aL .R []++aH 4 ad ad.own []++aH 6 aA .R [],dS⟩),(12,⟨[(3,.ptr 1),(4,.ptr 2),(5,.ptr 3),(6,.ptr 4),(7,.ptr 6)],aH 1 ad .R []++aH 2 aM .R []++aH 3 aL .R []++aH 4 ad ad.own []++aH 6 aA .R [],dS⟩),(24,⟨[(3,.ptr 1),(4,.ptr 2),(5,.ptr 3),(6,.ptr 4),(7,.ptr 6),(10,.ptr 7)],aH 1 ad .R []++aH 2 aM .R []++aH 3 aL .R []++aH 4 ad ad.own []++aH 6 aA .R []++aH 7 J .R [],dS⟩),(32,⟨[(3,.ptr 1),(6,.ptr 2),(7,.ptr 4),(10,.ptr 5)],aH 1 ad .R []++aH 2 ad ad.own []++aH 4 aA .R []++aH 5 J .R [],dS⟩)] aes RX gL (fun k x=>qt k x.1 x.2.1 x.2.2.1) (by kernel_rfl) rfl
def U2:Entry:=⟨[aD ad,aD ba],cF,DL⟩
def aeu(k:bB (Int×Unit)):DI:=fun a b d e=>k 8 (aW [(2,aE 1),(5,aJ a),(6,aJ b),(7,aJ d)] (aI 1 ad .R [] e) c6)
def aev:aT 261 U2:=bw bk 0 (fn:=Tryz.f261) (fns:=[(137,Fm),(187,o5),(257,M7)]) ⟨MK,qA,UU,trivial⟩ [(8,⟨[(2,.ptr 1),(5,az),(6,az),(7,az)],aH 1 ad .R [],c5⟩)] aeu DK s9 (fun k x=>DJ k x.1 x.2.1) (by kernel_rfl) rfl
def U3:Entry:=⟨[aD ad,aD aM,aD aL],[bT aA],j9⟩
def aew(k:bB (aA.D×Unit)):lH:=⟨fun a b d e=>k 5 (aW [(3,aE 1),(4,aE 2),(5,aE 3),(6,aE 4)] (aI 1 ad .R [] a++aI 2 aM .R [] b++aI 3 aL .R [] d++aI 4 aA .R [] e) dU),fun a b d e g=>k 6 (aW [(3,aE 1),(4,aE 2),(5,aE 3),(6,aE 4),(7,aE 5)] (aI 1 ad .R [] a++aI 2 aM .R [] b++aI 3 aL .R [] d++aI 4 aA .R [] e++aI 5 aV .R [] g) dU),fun a b d e g=>k 20 (aW [(5,aE 1),(6,aE 2),(8,aE 3),(10,.aP (.aa 4 none)),(11,aJ a)] (aI 1 aL .R [] b++aI 2 aA .R [] d++aI 3 J .R [] e++[(4,.row (.int .u8) .R 0 g)]) dU),fun a b d e=>k 35 (aW [(6,aE 1),(8,aE 2),(12,dZ a),(13,aJ b)] (aI 1 aA .R [] d++aI 2 J .R [] e) dU),fun a b d e=>k 39 (aW [(6,aE 1),(8,aE 2),(12,dZ a),(13,aJ b)] (aI 1 aA .R [] d++aI 2 J .R [] e) dU)⟩
def aex:aT 221 U3:=bw bk 0 (fn:=Tryz.f221) (fns:=[(67,iJ),(138,Fo),(188,MM),(214,MW),(249,nB),(250,qC),(254,tt),(261,U2)]) ⟨jc,ML,Ug,UG,o6,ts,vq,aev,trivial⟩ [(5,⟨[(3,.ptr 1),(4,.ptr 2),(5,.ptr 3),(6,.ptr 4)],aH 1 ad .R []++aH 2 aM .R []++aH 3 aL .R []++aH 4 aA .R [],dS⟩),(6,⟨[(3,.ptr 1),(4,.ptr 2),(5,.ptr 3),(6,.ptr 4),(7,.ptr 5)],aH 1 ad .R []++aH 2 aM .R []++aH 3 aL .R []++aH 4 aA .R []++aH 5 aV .R [],dS⟩),(20,⟨[(5,.ptr 1),(6,.ptr 2),(8,.ptr 3),(10,.cell (.aa 4)),(11,az)],aH 1 aL .R []++aH 2 aA .R []++aH 3 J .R []++[(4,.row (.int .u8) .R)],dS⟩),(35,⟨[(6,.ptr 1),(8,.ptr 2),(12,az),(13,az)],aH 1 aA .R []++aH 2 J .R [],dS⟩),(39,⟨[(6,.ptr 1),(8,.ptr 2),(12,az),(13,az)],aH 1 aA .R []++aH 2 J .R [],dS⟩)] aew RY fh (fun k x=>oL k x.1 x.2.1 x.2.2.1) (by kernel_rfl) rfl
def U4:Entry:=⟨[uG ad,uG aM,aD aL],[bT ad,bT aA],s'⟩
def aey(k:bB oM):qx:=⟨fun a b d e g h=>k 8 (aW [(3,aE 1),(4,aE 2),(5,aE 3),(6,aE 4),(7,aE 6),(19,aJ a)] (aI 1 ad .R [] b++aI 2 aM .R [] d++aI 3 aL .R [] e++aI 4 ad ad.own [] g++aI 6 aA .R [] h) dU),fun a b d e g h=>k 11 (aW [(3,aE 1),(4,aE 2),(5,aE 3),(6,aE 4),(7,aE 6),(19,aJ a)] (aI 1 ad .R [] b++aI 2 aM .R [] d++aI 3 aL .R [] e++aI 4 ad ad.own [] g++aI 6 aA .R [] h) dU),fun a b d e g h=>k 19 (aW [(3,aE 1),(4,aE 2),(5,aE 3),(6,aE 4),(7,aE 6),(19,aJ a)] (aI 1 ad .R [] b++aI 2 aM .R [] d++aI 3 aL .R [] e++aI 4 ad ad.own [] g++aI 6 aA .R [] h) dU)⟩
def aez:aT 184 U4:=bw bk 0 (fn:=Tryz.f184) (fns:=[(132,vm),(215,UQ),(216,UT),(217,UW),(218,UY),(219,U0),(220,U1),(221,U3)]) ⟨x3,aef,aei,aej,aen,aer,aet,aex,trivial⟩ [(8,⟨[(3,.ptr 1),(4,.ptr 2),(5,.ptr 3),(6,.ptr 4),(7,.ptr 6),(19,az)],aH 1 ad .R []++aH 2 aM .R []++aH 3 aL .R []++aH 4 ad ad.own []++aH 6 aA .R [],dS⟩),(11,⟨[(3,.ptr 1),(4,.ptr 2),(5,.ptr 3),(6,.ptr 4),(7,.ptr 6),(19,az)],aH 1 ad .R []++aH 2 aM .R []++aH 3 aL .R []++aH 4 ad ad.own []++aH 6 aA .R [],dS⟩),(19,⟨[(3,.ptr 1),(4,.ptr 2),(5,.ptr 3),(6,.ptr 4),(7,.ptr 6),(19,az)],aH 1 ad .R []++aH 2 aM .R []++aH 3 aL .R []++aH 4 ad ad.own []++aH 6 aA .R [],dS⟩)] aey RZ DP (fun k x=>va k x.1 x.2.1 x.2.2.1) (by kernel_rfl) rfl
def U5:Entry:=⟨[.val ak fE,aD ba,aD aL],[.val ak fE,bT aA],DR⟩
def aeA(k:bB ta):tb:=⟨fun a b d e g=>k 10 (aW [(3,aE 1),(5,aE 4),(6,aE 5),(7,aE 9),(8,aE 10)] (aI 1 ak fE [] a++aI 4 aL .R [] b++aI 5 ak ak.own [] d++aI 9 aA .R [] e++aI 10 aM aM.own [] g) dU),fun a b d e g=>k 19 (aW [(3,aE 1),(5,aE 4),(6,aE 5),(7,aE 9),(8,aE 10)] (aI 1 ak fE [] a++aI 4 aL .R [] b++aI 5 ak ak.own [] d++aI 9 aA .R [] e++aI 10 aM aM.own [] g) dU)⟩
def aeB:aT 131 U5:=bw bk 0 (fn:=Tryz.f131) (fns:=[(132,vm),(133,Fq),(181,UD),(182,UF),(183,UH),(184,U4)]) ⟨x3,MV,adY,ad0,ad3,aez,trivial⟩ [(10,⟨[(3,.ptr 1),(5,.ptr 4),(6,.ptr 5),(7,.ptr 9),(8,.ptr 10)],aH 1 ak fE []++aH 4 aL .R []++aH 5 ak ak.own []++aH 9 aA .R []++aH 10 aM aM.own [],dS⟩),(19,⟨[(3,.ptr 1),(5,.ptr 4),(6,.ptr 5),(7,.ptr 9),(8,.ptr 10)],aH 1 ak fE []++aH 4 aL .R []++aH 5 ak ak.own []++aH 9 aA .R []++aH 10 aM aM.own [],dS⟩)] aeA R0 nu (fun k x=>DQ k x.1 x.2.1 x.2.2.1) (by kernel_rfl) rfl
def U6:Entry:=⟨[.val ak fE,aD ba,aD ba,aD aL,aD ba],[.val ak fE,bT aA,bT .bool],nv⟩
def aeC(k:bB k5):oN:=⟨fun a b d e g h i j l=>k 10 (aW [(1,aJ a),(2,aJ b),(4,aJ d),(5,aE 1),(8,aE 4),(10,aE 5),(11,aE 9),(14,aE 10),(15,hL e)] (aI 1 ak fE [] g++aI 4 aL .R [] h++aI 5 ak ak.own [] i++aI 9 aA .R [] j++aI 10 aA .R [] l) Me),fun a b d e g h i j=>k 11 (aW [(1,aJ a),(2,aJ b),(4,aJ d),(5,aE 1),(8,aE 4),(10,aE 5),(11,aE 9),(14,aE 10)] (aI 1 ak fE [] e++aI 4 aL .R [] g++aI 5 ak ak.own [] h++aI 9 aA .R [] i++aI 10 aA .R [] j) Me),fun a b d e g h i=>k 12 (aW [(1,aJ a),(2,aJ b),(4,aJ d),(5,aE 1),(10,aE 4),(11,aE 8),(14,aE 9)] (aI 1 ak fE [] e++aI 4 ak ak.own [] g++aI 8 aA .R [] h++aI 9 aA .R [] i) Me)⟩
def aeD:aT 64 U6:=bw bk 0 (fn:=Tryz.f64) (fns:=[(57,MU),(67,iJ),(116,MT),(130,UC),(131,U5),(132,vm),(133,Fq)]) ⟨UB,jc,UA,adX,aeB,x3,MV,trivial⟩ [(10,⟨[(1,az),(2,az),(4,az),(5,.ptr 1),(8,.ptr 4),(10,.ptr 5),(11,.ptr 9),(14,.ptr 10),(15,az)],aH 1 ak fE []++aH 4 aL .R []++aH 5 ak ak.own []++aH 9 aA .R []++aH 10 aA .R [],Md⟩),(11,⟨[(1,az),(2,az),(4,az),(5,.ptr 1),(8,.ptr 4),(10,.ptr 5),(11,.ptr 9),(14,.ptr 10)],aH 1 ak fE []++aH 4 aL .R []++aH 5 ak ak.own []++aH 9 aA .R []++aH 10 aA .R [],Md⟩),(12,⟨[(1,az),(2,az),(4,az),(5,.ptr 1),(10,.ptr 4),(11,.ptr 8),(14,.ptr 9)],aH 1 ak fE []++aH 4 ak ak.own []++aH 8 aA .R []++aH 9 aA .R [],Md⟩)] aeC R2 oO (fun k x=>DS k x.1 x.2.1 x.2.2.1 x.2.2.2.1 x.2.2.2.2.1) (by kernel_rfl) rfl
def U7:Entry:=⟨[aD ba],cF,Li⟩
def aeE:aT 140 U7:=bQ bk 0 (fn:=Tryz.f140) (fns:=[]) trivial (by kernel_rfl)
def U8:Entry:=⟨[.val (.sl ak) (.O fE),aD .str,aD ba],[.val (.sl ak) (.O fE),ro (.sl bh)],Ll⟩
def aeF(k:bB k6):mG:=⟨fun a b d e g=>k 6 (aW [(0,.aP (.aa 1 none)),(2,aJ a),(8,.aP (.aa 2 none)),(9,.aP (.aa 3 none)),(11,aJ b)] [(1,.row ak fE 0 d),(2,.row bh .R 0 e),(3,.row aB .R 0 g)] dU),fun a b d e g=>k 10 (aW [(0,.aP (.aa 1 none)),(2,aJ a),(8,.aP (.aa 2 none)),(9,.aP (.aa 3 none)),(12,aJ b)] [(1,.row ak fE 0 d),(2,.row bh .R 0 e),(3,.row aB .R 0 g)] dU),fun a b d e g h i j=>k 15 (aW [(0,.aP (.aa 1 none)),(2,aJ a),(8,.aP (.aa 2 none)),(9,.aP (.aa 3 none)),(12,aJ b),(13,aE 4),(14,aE 5),(16,hL d)] ([(1,.row ak fE 0 e),(2,.row bh .R 0 g),(3,.row aB .R 0 h)]++aI 4 aB .R [] i++aI 5 ak .R [1] j) dU),fun a b d e g h i=>k 17 (aW [(0,.aP (.aa 1 none)),(2,aJ a),(8,.aP (.aa 2 none)),(9,.aP (.aa 3 none)),(12,aJ b),(13,aE 4),(17,aE 5)] ([(1,.row ak fE 0 d),(2,.row bh .R 0 e),(3,.row aB .R 0 g)]++aI 4 aB .R [] h++aI 5 aK .R [] i) dU)⟩
def aeG:aT 108 U8:=bw bk 0 (fn:=Tryz.f108) (fns:=[(41,Uz),(57,MU),(64,U6),(140,U7)]) ⟨adU,UB,aeD,aeE,trivial⟩ [(6,⟨[(0,.cell (.aa 1)),(2,az),(8,.cell (.aa 2)),(9,.cell (.aa 3)),(11,az)],[(1,.row ak fE),(2,.row bh .R),(3,.row aB .R)],dS⟩),(10,⟨[(0,.cell (.aa 1)),(2,az),(8,.cell (.aa 2)),(9,.cell (.aa 3)),(12,az)],[(1,.row ak fE),(2,.row bh .R),(3,.row aB .R)],dS⟩),(15,⟨[(0,.cell (.aa 1)),(2,az),(8,.cell (.aa 2)),(9,.cell (.aa 3)),(12,az),(13,.ptr 4),(14,.ptr 5),(16,az)],[(1,.row ak fE),(2,.row bh .R),(3,.row aB .R)]++aH 4 aB .R []++aH 5 ak .R [1],dS⟩),(17,⟨[(0,.cell (.aa 1)),(2,az),(8,.cell (.aa 2)),(9,.cell (.aa 3)),(12,az),(13,.ptr 4),(17,.ptr 5)],[(1,.row ak fE),(2,.row bh .R),(3,.row aB .R)]++aH 4 aB .R []++aH 5 aK .R [],dS⟩)] aeF R5 jw (fun k x=>DT k x.1 x.2.1 x.2.2.1) (by kernel_rfl) rfl
def U9:Entry:=⟨[uG ak],[.val ak fE],Ln⟩
def aeH:aT 65 U9:=bQ bk 0 (fn:=Tryz.f65) (fns:=[(134,qB)]) ⟨tr,trivial⟩ (by kernel_rfl)
def U_:Entry:=⟨[uG (.sl ak)],[.val (.sl ak) (.O fE)],Lo⟩
def aeI(k:bB xP):DW:=fun a b d=>k 3 (aW [(0,cq ak a),(3,.aP (.aa 1 none)),(4,aJ b)] [(1,.row ak fE 0 d)] [.bf])
def aeJ:aT 109 U_:=bw bk 0 (fn:=Tryz.f109) (fns:=[(65,U9)]) ⟨aeH,trivial⟩ [(3,⟨[(0,.cell (.bq ak [])),(3,.cell (.aa 1)),(4,az)],[(1,.row ak fE)],[.drop]⟩)] aeI DX ve (fun k x=>R6 k x.1) (by kernel_rfl) rfl
def U':Entry:=⟨[aD (.sl ak),aD .str,aD ba],[bT (.sl ak),ro (.sl bh)],DY⟩
def aeK:aT 45 U':=bQ bk 0 (fn:=Tryz.f45) (fns:=[(40,Um),(108,U8),(109,U_)]) ⟨adD,aeG,aeJ,trivial⟩ (by kernel_rfl)
def Va:Entry:=⟨[aD ar],[bT ar],Lr⟩
def aeL:aT 264 Va:=bQ bk 0 (fn:=Tryz.f264) (fns:=[]) trivial (by kernel_rfl)
def Vb:Entry:=⟨[aD (.sl ar)],[ro (.sl ar)],Ls⟩
def aeM(k:bB xQ):DZ:=fun a b d=>k 3 (aW [(0,cq ar a),(3,.aP (.aa 1 none)),(4,aJ b)] [(1,.row ar .R 0 d)] [.bf])
def aeN:aT 228 Vb:=bw bk 0 (fn:=Tryz.f228) (fns:=[(264,Va)]) ⟨aeL,trivial⟩ [(3,⟨[(0,.cell (.bq ar [])),(3,.cell (.aa 1)),(4,az)],[(1,.row ar .R)],[.drop]⟩)] aeM D1 tc (fun k x=>D0 k x.1) (by kernel_rfl) rfl
def Vc:Entry:=⟨[aD J],[ro J],Lu⟩
def aeO:aT 195 Vc:=bQ bk 0 (fn:=Tryz.f195) (fns:=[(228,Vb)]) ⟨aeN,trivial⟩ (by kernel_rfl)
def Vd:Entry:=⟨[aD (.sl J)],[ro (.sl J)],Lv⟩
def aeP(k:bB xR):D2:=fun a b d=>k 3 (aW [(0,cq J a),(3,.aP (.aa 1 none)),(4,aJ b)] [(1,.row J mI 0 d)] [.bf])
def aeQ:aT 146 Vd:=bw bk 0 (fn:=Tryz.f146) (fns:=[(195,Vc)]) ⟨aeO,trivial⟩ [(3,⟨[(0,.cell (.bq J [])),(3,.cell (.aa 1)),(4,az)],[(1,.row J mI)],[.drop]⟩)] aeP D4 td (fun k x=>D3 k x.1) (by kernel_rfl) rfl
def Ve:Entry:=⟨[aD ad],[ro ad],Lx⟩
def aeR:aT 82 Ve:=bQ bk 0 (fn:=Tryz.f82) (fns:=[(146,Vd)]) ⟨aeQ,trivial⟩ (by kernel_rfl)
def Vf:Entry:=⟨[aD aG],[bT aG],LA⟩
def aeS:aT 147 Vf:=bQ bk 0 (fn:=Tryz.f147) (fns:=[]) trivial (by kernel_rfl)
def Vg:Entry:=⟨[aD (.sl aG)],[ro (.sl aG)],LB⟩
def aeT(k:bB xS):D5:=fun a b d=>k 3 (aW [(0,cq aG a),(3,.aP (.aa 1 none)),(4,aJ b)] [(1,.row aG .R 0 d)] [.bf])
def aeU:aT 83 Vg:=bw bk 0 (fn:=Tryz.f83) (fns:=[(147,Vf)]) ⟨aeS,trivial⟩ [(3,⟨[(0,.cell (.bq aG [])),(3,.cell (.aa 1)),(4,az)],[(1,.row aG .R)],[.drop]⟩)] aeT D7 te (fun k x=>D6 k x.1) (by kernel_rfl) rfl
def Vh:Entry:=⟨[aD aA],[bT aA],LD⟩
def aeV:aT 196 Vh:=bQ bk 0 (fn:=Tryz.f196) (fns:=[]) trivial (by kernel_rfl)
def Vi:Entry:=⟨[aD aK],[bT aK],LG⟩
def aeW:aT 148 Vi:=bQ bk 0 (fn:=Tryz.f148) (fns:=[(196,Vh)]) ⟨aeV,trivial⟩ (by kernel_rfl)
def Vj:Entry:=⟨[aD (.sl aK)],[ro (.sl aK)],LH⟩
def aeX(k:bB xT):D8:=fun a b d=>k 3 (aW [(0,cq aK a),(3,.aP (.aa 1 none)),(4,aJ b)] [(1,.row aK .R 0 d)] [.bf])
def aeY:aT 84 Vj:=bw bk 0 (fn:=Tryz.f84) (fns:=[(148,Vi)]) ⟨aeW,trivial⟩ [(3,⟨[(0,.cell (.bq aK [])),(3,.cell (.aa 1)),(4,az)],[(1,.row aK .R)],[.drop]⟩)] aeX D_ tf (fun k x=>D9 k x.1) (by kernel_rfl) rfl
def Vk:Entry:=⟨[aD ak],[ro ak],LJ⟩
def aeZ:aT 27 Vk:=bQ bk 0 (fn:=Tryz.f27) (fns:=[(82,Ve),(83,Vg),(84,Vj)]) ⟨aeR,aeU,aeY,trivial⟩ (by kernel_rfl)
def Vl:Entry:=⟨[aD (.sl ak)],[ro (.sl ak)],vf⟩
def ae0(k:bB xU):D':=fun a b d=>k 3 (aW [(0,cq ak a),(3,.aP (.aa 1 none)),(4,aJ b)] [(1,.row ak nA 0 d)] [.bf])
def ae1:aT 46 Vl:=bw bk 0 (fn:=Tryz.f46) (fns:=[(27,Vk)]) ⟨aeZ,trivial⟩ [(3,⟨[(0,.cell (.bq ak [])),(3,.cell (.aa 1)),(4,az)],[(1,.row ak nA)],[.drop]⟩)] ae0 Eb tg (fun k x=>Ea k x.1) (by kernel_rfl) rfl
def Vm:Entry:=⟨[aD ar,aD ar],ct,LL⟩
def ae2:aT 265 Vm:=bQ bk 0 (fn:=Tryz.f265) (fns:=[]) trivial (by kernel_rfl)
def Vn:Entry:=⟨[aD (.sl ar),aD (.sl ar)],ct,LN⟩
def ae3(k:bB (Bool×Unit)):Ec:=fun a b d=>k 4 (aW [(0,cq ar a),(1,cq ar b),(5,aJ d)] [] c6)
def ae4:aT 229 Vn:=bw bk 0 (fn:=Tryz.f229) (fns:=[(265,Vm)]) ⟨ae2,trivial⟩ [(4,⟨[(0,.cell (.bq ar [])),(1,.cell (.bq ar [])),(5,az)],[],c5⟩)] ae3 Ee th (fun k x=>Ed k x.1 x.2.1) (by kernel_rfl) rfl
def Vo:Entry:=⟨[aD J,aD J],ct,LP⟩
def ae5:aT 197 Vo:=bQ bk 0 (fn:=Tryz.f197) (fns:=[(229,Vn)]) ⟨ae4,trivial⟩ (by kernel_rfl)
def Vp:Entry:=⟨[aD (.sl J),aD (.sl J)],ct,LQ⟩
def ae6(k:bB (Bool×Unit)):Ef:=fun a b d=>k 4 (aW [(0,cq J a),(1,cq J b),(5,aJ d)] [] c6)
def ae7:aT 149 Vp:=bw bk 0 (fn:=Tryz.f149) (fns:=[(197,Vo)]) ⟨ae5,trivial⟩ [(4,⟨[(0,.cell (.bq J [])),(1,.cell (.bq J [])),(5,az)],[],c5⟩)] ae6 Eh ti (fun k x=>Eg k x.1 x.2.1) (by kernel_rfl) rfl
def Vq:Entry:=⟨[aD ad,aD ad],ct,LS⟩
def ae8:aT 85 Vq:=bQ bk 0 (fn:=Tryz.f85) (fns:=[(149,Vp)]) ⟨ae7,trivial⟩ (by kernel_rfl)
def Vr:Entry:=⟨[aD aG,aD aG],ct,LV⟩
def ae9:aT 150 Vr:=bQ bk 0 (fn:=Tryz.f150) (fns:=[]) trivial (by kernel_rfl)
def Vs:Entry:=⟨[aD (.sl aG),aD (.sl aG)],ct,LW⟩
def ae_(k:bB (Bool×Unit)):Ei:=fun a b d=>k 4 (aW [(0,cq aG a),(1,cq aG b),(5,aJ d)] [] c6)
def ae':aT 86 Vs:=bw bk 0 (fn:=Tryz.f86) (fns:=[(150,Vr)]) ⟨ae9,trivial⟩ [(4,⟨[(0,.cell (.bq aG [])),(1,.cell (.bq aG [])),(5,az)],[],c5⟩)] ae_ Ek tj (fun k x=>Ej k x.1 x.2.1) (by kernel_rfl) rfl
def M8:Entry:=⟨[aD aA,aD aA],ct,El⟩
def Vt:aT 30 M8:=bQ bk 0 (fn:=Tryz.f30) (fns:=[]) trivial (by kernel_rfl)
def Vu:Entry:=⟨[aD aK,aD aK],ct,LZ⟩
def afa:aT 151 Vu:=bQ bk 0 (fn:=Tryz.f151) (fns:=[(30,M8)]) ⟨Vt,trivial⟩ (by kernel_rfl)
def Vv:Entry:=⟨[aD (.sl aK),aD (.sl aK)],ct,L0⟩
def afb(k:bB (Bool×Unit)):Em:=fun a b d=>k 4 (aW [(0,cq aK a),(1,cq aK b),(5,aJ d)] [] c6)
def afc:aT 87 Vv:=bw bk 0 (fn:=Tryz.f87) (fns:=[(151,Vu)]) ⟨afa,trivial⟩ [(4,⟨[(0,.cell (.bq aK [])),(1,.cell (.bq aK [])),(5,az)],[],c5⟩)] afb Eo tk (fun k x=>En k x.1 x.2.1) (by kernel_rfl) rfl
def Vw:Entry:=⟨[aD ak,aD ak],ct,L2⟩
def afd:aT 29 Vw:=bQ bk 0 (fn:=Tryz.f29) (fns:=[(85,Vq),(86,Vs),(87,Vv)]) ⟨ae8,ae',afc,trivial⟩ (by kernel_rfl)
def Vx:Entry:=⟨[aD (.sl ak),aD (.sl ak)],ct,vg⟩
def afe(k:bB (Bool×Unit)):Ep:=fun a b d=>k 4 (aW [(0,cq ak a),(1,cq ak b),(5,aJ d)] [] c6)
def aff:aT 47 Vx:=bw bk 0 (fn:=Tryz.f47) (fns:=[(29,Vw)]) ⟨afd,trivial⟩ [(4,⟨[(0,.cell (.bq ak [])),(1,.cell (.bq ak [])),(5,az)],[],c5⟩)] afe Es tl (fun k x=>Er k x.1 x.2.1) (by kernel_rfl) rfl
def Vy:Entry:=⟨[aD bh,aD bh],ct,L4⟩
def afg:aT 110 Vy:=bQ bk 0 (fn:=Tryz.f110) (fns:=[(30,M8)]) ⟨Vt,trivial⟩ (by kernel_rfl)
def Vz:Entry:=⟨[aD (.sl bh),aD (.sl bh)],ct,xV⟩
def afh(k:bB (Bool×Unit)):Et:=fun a b d=>k 4 (aW [(0,cq bh a),(1,cq bh b),(5,aJ d)] [] c6)
def afi:aT 48 Vz:=bw bk 0 (fn:=Tryz.f48) (fns:=[(110,Vy)]) ⟨afg,trivial⟩ [(4,⟨[(0,.cell (.bq bh [])),(1,.cell (.bq bh [])),(5,az)],[],c5⟩)] afh Ev tm (fun k x=>Eu k x.1 x.2.1) (by kernel_rfl) rfl
def VA:Entry:=⟨[rJ (.sl aG),aD ba],cF,L5⟩
def afj(k:bB nw):oP:=fun a b d=>k 2 (aW [(0,.aP (.aa 1 none)),(1,aJ a),(5,aJ b)] [(1,.row aG .R 0 d)] [.aP (.aa 1 none),.bf])
def afk:aT 89 VA:=bw bk 0 (fn:=Tryz.f89) (fns:=[]) trivial [(2,⟨[(0,.cell (.aa 1)),(1,az),(5,az)],[(1,.row aG .R)],[.cell (.aa 1),.drop]⟩)] afj Ex oQ (fun k x=>Ew k x.1 x.2.1) (by kernel_rfl) rfl
def o7:Entry:=⟨[aD ba],[bT .str],lI⟩
def afl(k:bB ((af)×Unit)):Ey:=fun a b=>k 4 (aW [(0,aJ a),(3,dZ b)] [] [.bf])
def qD:aT 78 o7:=bw bk 0 (fn:=Tryz.f78) (fns:=[]) trivial [(4,⟨[(0,az),(3,az)],[],[.drop]⟩)] afl EA tn (fun k x=>Ez k x.1) (by kernel_rfl) rfl
def VB:Entry:=⟨[rJ (.sl aK),aD ba],cF,L6⟩
def afm(k:bB nx):oR:=fun a b d=>k 2 (aW [(0,.aP (.aa 1 none)),(1,aJ a),(5,aJ b)] [(1,.row aK .R 0 d)] [.aP (.aa 1 none),.bf])
def afn:aT 90 VB:=bw bk 0 (fn:=Tryz.f90) (fns:=[(78,o7)]) ⟨qD,trivial⟩ [(2,⟨[(0,.cell (.aa 1)),(1,az),(5,az)],[(1,.row aK .R)],[.cell (.aa 1),.drop]⟩)] afm EC oS (fun k x=>EB k x.1 x.2.1) (by kernel_rfl) rfl
def VC:Entry:=⟨[rJ (.sl ar),aD ba],cF,L7⟩
def afo(k:bB tp):vh:=fun a b d=>k 2 (aW [(0,.aP (.aa 1 none)),(1,aJ a),(5,aJ b)] [(1,.row ar .R 0 d)] [.aP (.aa 1 none),.bf])
def afp:aT 164 VC:=bw bk 0 (fn:=Tryz.f164) (fns:=[(78,o7)]) ⟨qD,trivial⟩ [(2,⟨[(0,.cell (.aa 1)),(1,az),(5,az)],[(1,.row ar .R)],[.cell (.aa 1),.drop]⟩)] afo EE oT (fun k x=>ED k x.1 x.2.1) (by kernel_rfl) rfl
def VD:Entry:=⟨[rJ (.sl J),aD ba],cF,L8⟩
def afq(k:bB ku):k7:=fun a b d=>k 2 (aW [(0,.aP (.aa 1 none)),(1,aJ a),(5,aJ b)] [(1,.row J mI 0 d)] [.aP (.aa 1 none),.bf])
def afr:aT 111 VD:=bw bk 0 (fn:=Tryz.f111) (fns:=[(78,o7),(164,VC)]) ⟨qD,afp,trivial⟩ [(2,⟨[(0,.cell (.aa 1)),(1,az),(5,az)],[(1,.row J mI)],[.cell (.aa 1),.drop]⟩)] afq EG oU (fun k x=>EF k x.1 x.2.1) (by kernel_rfl) rfl
def VE:Entry:=⟨[rJ (.sl ak),aD ba],cF,EJ⟩
def afs(k:bB ny):oV:=fun a b d=>k 2 (aW [(0,.aP (.aa 1 none)),(1,aJ a),(5,aJ b)] [(1,.row ak nA 0 d)] [.aP (.aa 1 none),.bf])
def aft:aT 49 VE:=bw bk 0 (fn:=Tryz.f49) (fns:=[(89,VA),(90,VB),(111,VD)]) ⟨afk,afn,afr,trivial⟩ [(2,⟨[(0,.cell (.aa 1)),(1,az),(5,az)],[(1,.row ak nA)],[.cell (.aa 1),.drop]⟩)] afs EI oW (fun k x=>EH k x.1 x.2.1) (by kernel_rfl) rfl
def VF:Entry:=⟨[rJ (.sl bh),aD ba],cF,L9⟩
def afu(k:bB mH):nz:=fun a b d=>k 2 (aW [(0,.aP (.aa 1 none)),(1,aJ a),(5,aJ b)] [(1,.row bh .R 0 d)] [.aP (.aa 1 none),.bf])
def afv:aT 50 VF:=bw bk 0 (fn:=Tryz.f50) (fns:=[(78,o7)]) ⟨qD,trivial⟩ [(2,⟨[(0,.cell (.aa 1)),(1,az),(5,az)],[(1,.row bh .R)],[.cell (.aa 1),.drop]⟩)] afu EL oX (fun k x=>EK k x.1 x.2.1) (by kernel_rfl) rfl
def VG:Entry:=⟨[aD (.sl aG),aD ba],cF,L_⟩
def afw(k:bB (Int×Unit)):EM:=fun a b d=>k 2 (aW [(0,cq aG a),(1,aJ b),(5,aJ d)] [] c6)
def afx:aT 92 VG:=bw bk 0 (fn:=Tryz.f92) (fns:=[]) trivial [(2,⟨[(0,.cell (.bq aG [])),(1,az),(5,az)],[],c5⟩)] afw EO oY (fun k x=>EN k x.1 x.2.1) (by kernel_rfl) rfl
def VH:Entry:=⟨[aD (.sl aK),aD ba],cF,L'⟩
def afy(k:bB (Int×Unit)):EP:=fun a b d=>k 2 (aW [(0,cq aK a),(1,aJ b),(5,aJ d)] [] c6)
def afz:aT 93 VH:=bw bk 0 (fn:=Tryz.f93) (fns:=[(78,o7)]) ⟨qD,trivial⟩ [(2,⟨[(0,.cell (.bq aK [])),(1,az),(5,az)],[],c5⟩)] afy ES oZ (fun k x=>ER k x.1 x.2.1) (by kernel_rfl) rfl
def VI:Entry:=⟨[aD (.sl ar),aD ba],cF,Ma⟩
def afA(k:bB (Int×Unit)):ET:=fun a b d=>k 2 (aW [(0,cq ar a),(1,aJ b),(5,aJ d)] [] c6)
def afB:aT 165 VI:=bw bk 0 (fn:=Tryz.f165) (fns:=[(78,o7)]) ⟨qD,trivial⟩ [(2,⟨[(0,.cell (.bq ar [])),(1,az),(5,az)],[],c5⟩)] afA EV o0 (fun k x=>EU k x.1 x.2.1) (by kernel_rfl) rfl
def VJ:Entry:=⟨[aD (.sl J),aD ba],cF,Mb⟩
def afC(k:bB (Int×Unit)):EW:=fun a b d=>k 2 (aW [(0,cq J a),(1,aJ b),(5,aJ d)] [] c6)
def afD:aT 112 VJ:=bw bk 0 (fn:=Tryz.f112) (fns:=[(78,o7),(165,VI)]) ⟨qD,afB,trivial⟩ [(2,⟨[(0,.cell (.bq J [])),(1,az),(5,az)],[],c5⟩)] afC EY o1 (fun k x=>EX k x.1 x.2.1) (by kernel_rfl) rfl
def VK:Entry:=⟨[aD (.sl ak),aD ba],cF,E2⟩
def afE(k:bB (Int×Unit)):EZ:=fun a b d=>k 2 (aW [(0,cq ak a),(1,aJ b),(5,aJ d)] [] c6)
def afF:aT 51 VK:=bw bk 0 (fn:=Tryz.f51) (fns:=[(92,VG),(93,VH),(112,VJ)]) ⟨afx,afz,afD,trivial⟩ [(2,⟨[(0,.cell (.bq ak [])),(1,az),(5,az)],[],c5⟩)] afE E1 o2 (fun k x=>E0 k x.1 x.2.1) (by kernel_rfl) rfl
def VL:Entry:=⟨[aD (.sl bh),aD ba],cF,E6⟩
def afG(k:bB (Int×Unit)):E3:=fun a b d=>k 2 (aW [(0,cq bh a),(1,aJ b),(5,aJ d)] [] c6)
def afH:aT 52 VL:=bw bk 0 (fn:=Tryz.f52) (fns:=[(78,o7)]) ⟨qD,trivial⟩ [(2,⟨[(0,.cell (.bq bh [])),(1,az),(5,az)],[],c5⟩)] afG E5 o3 (fun k x=>E4 k x.1 x.2.1) (by kernel_rfl) rfl
def vr:Entry:=⟨[aD (.sl ak),aD .str,aD ba],ct,SC⟩
def afI:aT 9 vr:=bQ bk 0 (fn:=Tryz.f9) (fns:=[(37,T1),(44,Ub),(45,U'),(46,Vl),(47,Vx),(48,Vz),(49,VE),(50,VF),(51,VK),(52,VL)]) ⟨ac5,adk,aeK,ae1,aff,afi,aft,afv,afF,afH,trivial⟩ (by kernel_rfl)
end
end Go.LM.i_
