/- Each function keeps its contract. Printed by a program. Conditions: each theorem's own hypotheses. -/
import Derived.Test.YtlkbjdmfbadhaaaGreatDoorTVa
import Derived.Test.YtlkbjdmfbadhaaaGreatDoorTLmd
import Derived.Test.YtlkbjdmfbadhaaaGreatDoorChecked
import Derived.Test.YtlkbjdmfbadhaaaGreatDoorTIn
set_option linter.unusedVariables false
set_option linter.unusedSimpArgs false
namespace Go.LM.jH
noncomputable section
open Go.Proofs
abbrev j_:bg:=.S (.cons .R (.cons .R (.cons .R (.cons .R (.cons .R (.cons .R (.cons (.O .R) (.cons .R (.cons .R .nil)))))))))
abbrev afI:bg:=.S (.cons .R (.cons (.O j_) .nil))
abbrev ch:bg:=.S (.cons afI (.cons .R (.cons .R .nil)))
def tab:List (Nat×aa):=[(3,.int .i64),(4,.bool),(5,.int .u8),(9,.str),(22,.sl (.int .u8)),(24,.sl I),(26,af),(27,.sl aE),(28,.sl aO),(30,aM),(32,aN),(36,aA),(42,aE),(43,.sl aA),(45,.sl Us),(48,.sl aA),(55,.sl I),(57,af),(58,.sl aE),(59,.sl aO),(61,aM),(62,aN),(74,.sl (.int .i64)),(76,Us),(84,aA),(89,.sl Ur),(94,Ur),(111,aO),(125,aA),(148,.sl au),(150,I),(167,ae9),(183,.sl .bool),(187,au),(192,aA),(194,aO),(197,aE),(203,.sl .str),(224,aP),(233,ae_),(236,.sl au),(238,I),(255,aQ),(265,aY),(281,au)]
def lQ:List Nat:=[15,16,17,105,174,231,246,247,253,302,317]
def eqs:List Nat:=[32,36,42,62,76,84,94,111,125,187,192,194,197,233,265,281]
theorem I0:ts Tryz.prog tab=true:=by kernel_rfl
theorem I1:tt Tryz.prog lQ=true:=by kernel_rfl
theorem I2:tu Tryz.prog tab eqs=true:=by kernel_rfl
theorem mix:Tryz.prog.follows .mixedOrders=true:=by kernel_rfl
def bk:kl Tryz.prog:=⟨tab,lQ,eqs,I0,I1,I2,mix⟩
set_option maxRecDepth 100000
def iq:Entry:=⟨[aI (.int .i64),aI (.int .i64),aI (.int .i64)],[aZ .bool],cZ⟩
theorem iQ:Sound Tryz.prog 119 0 iq:=b5 bk (fn:=Tryz.f119) (fns:=[]) trivial (by kernel_rfl) (by kernel_rfl) fun _=>by kernel_rfl
def Wd:Entry:=⟨[aI aA],[aZ .bool],C_⟩
theorem afJ:Sound Tryz.prog 120 0 Wd:=b5 bk (fn:=Tryz.f120) (fns:=[(119,iq)]) ⟨iQ,trivial⟩ (by kernel_rfl) (by kernel_rfl) fun _=>by kernel_rfl
def OR:Entry:=⟨[aI (.sl aE)],[aZ .bool],Dc⟩
def afK:List (Nat×bz):=[(2,⟨[(0,.cell (.bA aE [])),(5,.cell (.bA aE [])),(6,aJ),(7,aJ)],[],[.drop]⟩)]
def afL(k:Nat→al→Option (Bool×Unit)):C':=fun U ad ae ai=>k 2 (bd [(0,dg aE U),(5,dg aE ad),(6,aR ae),(7,aR ai)] [] [.aw])
theorem We:Sound Tryz.prog 121 0 OR:=bW bk (fn:=Tryz.f121) (fns:=[(119,iq)]) ⟨iQ,trivial⟩ (by kernel_rfl) (by kernel_rfl) afK afL Db uy (fun k x=>Da k x.1) (by kernel_rfl) (fun _=>by kernel_rfl) (fun _=>rfl) (fun _ _=>by kernel_rfl) (fun _=>by kernel_rfl)
def OS:Entry:=⟨[aI (.int .u8)],[aZ .bool],Dd⟩
theorem Wf:Sound Tryz.prog 230 0 OS:=b5 bk (fn:=Tryz.f230) (fns:=[]) trivial (by kernel_rfl) (by kernel_rfl) fun _=>by kernel_rfl
def Hu:Entry:=⟨[aI .str],[aZ .bool],xG⟩
def afM:List (Nat×bz):=[(2,⟨[(0,aJ),(5,aJ),(6,aJ)],[],[.drop]⟩)]
def afN(k:Nat→al→Option (Bool×Unit)):De:=fun U ad ae=>k 2 (bd [(0,eP U),(5,aR ad),(6,aR ae)] [] [.aw])
theorem OT:Sound Tryz.prog 203 0 Hu:=bW bk (fn:=Tryz.f203) (fns:=[(119,iq),(230,OS)]) ⟨iQ,Wf,trivial⟩ (by kernel_rfl) (by kernel_rfl) afM afN Dg uz (fun k x=>Df k x.1) (by kernel_rfl) (fun _=>by kernel_rfl) (fun _=>rfl) (fun _ _=>by kernel_rfl) (fun _=>by kernel_rfl)
def nr:Entry:=⟨[fh af,aI (.int .i64)],[.oM I],fF⟩
def afO:List (Nat×bz):=[(2,⟨[(0,.c3 [] (pd af .R [] 0)),(1,aJ),(10,aJ),(11,aJ)],[],[.drop,.drop]⟩)]
def afP(k:Nat→al→Option (zE)):Dh:=fun U ad ae ai=>k 2 (bd [(0,.c3 (nf []) (aU af .R [] U 0) 0),(1,aR ad),(10,aR ae),(11,aR ai)] [] [.aw,.aw])
theorem ov:Sound Tryz.prog 205 0 nr:=bW bk (fn:=Tryz.f205) (fns:=[]) trivial (by kernel_rfl) (by kernel_rfl) afO afP Dj uA (fun k x=>Di k x.1 x.2.1) (by kernel_rfl) (fun _=>by kernel_rfl) (fun _=>rfl) (fun _ _=>by kernel_rfl) (fun _=>by kernel_rfl)
def Hv:Entry:=⟨[Lg af,aI (.int .i64)],[.opt 0 1 I],xH⟩
def afQ:List (Nat×bz):=[(2,⟨[(0,.ptr 1),(1,aJ),(10,aJ),(11,aJ)],aF 1 af af.own [],[.ptr 1,.drop]⟩)]
def afR(k:Nat→al→Option (Int×af.D×Unit)):Dk:=fun U ad ae ai=>k 2 (bd [(0,aC 1),(1,aR U),(10,aR ad),(11,aR ae)] (aH 1 af af.own [] ai) [aC 1,.aw])
theorem OU:Sound Tryz.prog 205 0 Hv:=bW bk (fn:=Tryz.f205) (fns:=[]) trivial (by kernel_rfl) (by kernel_rfl) afQ afR Dm uB (fun k x=>Dl k x.1 x.2.1) (by kernel_rfl) (fun _=>by kernel_rfl) (fun _=>rfl) (fun _ _=>by kernel_rfl) (fun _=>by kernel_rfl)
def Wg:Entry:=⟨[aI .str],[aZ .bool],Ln⟩
def afS:List (Nat×bz):=[(2,⟨[(0,aJ),(5,aJ),(6,aJ)],[],[.drop]⟩)]
def afT(k:Nat→al→Option (Bool×Unit)):Dn:=fun U ad ae=>k 2 (bd [(0,eP U),(5,aR ad),(6,aR ae)] [] [.aw])
theorem afU:Sound Tryz.prog 231 0 Wg:=bW bk (fn:=Tryz.f231) (fns:=[(119,iq),(230,OS)]) ⟨iQ,Wf,trivial⟩ (by kernel_rfl) (by kernel_rfl) afS afT Dq uC (fun k x=>Dp k x.1) (by kernel_rfl) (fun _=>by kernel_rfl) (fun _=>rfl) (fun _ _=>by kernel_rfl) (fun _=>by kernel_rfl)
def Wh:Entry:=⟨[fh af,aI I],[aZ .bool],Lo⟩
def afV:List (Nat×bz):=[(2,⟨[(0,.c3 [] (pd af .R [] 0)),(3,.ptr 1),(8,.cell (.bA au [])),(9,aJ),(10,aJ)],aF 1 I .R [],[.drop,.drop]⟩)]
def afW(k:Nat→al→Option (Bool×Unit)):Dr:=fun U ad ae ai ar=>k 2 (bd [(0,.c3 (nf []) (aU af .R [] U 0) 0),(3,aC 1),(8,dg au ad),(9,aR ae),(10,aR ai)] (aH 1 I .R [] ar) [.aw,.aw])
theorem afX:Sound Tryz.prog 204 0 Wh:=bW bk (fn:=Tryz.f204) (fns:=[(205,nr),(231,Wg)]) ⟨ov,afU,trivial⟩ (by kernel_rfl) (by kernel_rfl) afV afW Dt uD (fun k x=>Ds k x.1 x.2.1) (by kernel_rfl) (fun _=>by kernel_rfl) (fun _=>rfl) (fun _ _=>by kernel_rfl) (fun _=>by kernel_rfl)
def Wi:Entry:=⟨[fh af,aI I],[aZ .bool],Dw⟩
def afY:List (Nat×bz):=[(5,⟨[(0,.c3 [] (pd af .R [] 0)),(3,.ptr 1)],aF 1 I .R [],[.drop,.drop]⟩)]
def afZ(k:Nat→al→Option (Bool×Unit)):Du:=fun U ad=>k 5 (bd [(0,.c3 (nf []) (aU af .R [] U 0) 0),(3,aC 1)] (aH 1 I .R [] ad) [.aw,.aw])
theorem af0:Sound Tryz.prog 169 0 Wi:=bW bk (fn:=Tryz.f169) (fns:=[(119,iq),(203,Hu),(204,Wh)]) ⟨iQ,OT,afX,trivial⟩ (by kernel_rfl) (by kernel_rfl) afY afZ Lp zF (fun k x=>Dv k x.1 x.2.1) (by kernel_rfl) (fun _=>by kernel_rfl) (fun _=>rfl) (fun _ _=>by kernel_rfl) (fun _=>by kernel_rfl)
def Wj:Entry:=⟨[aI (.sl (.int .i64)),aI (.int .i64)],[aZ (.int .i64)],Lq⟩
def af1:List (Nat×bz):=[(2,⟨[(0,.cell (.bA (.int .i64) [])),(1,aJ),(7,aJ),(8,aJ)],[],[.drop,.drop]⟩)]
def af2(k:Nat→al→Option (Int×Unit)):Dx:=fun U ad ae ai=>k 2 (bd [(0,dg (.int .i64) U),(1,aR ad),(7,aR ae),(8,aR ai)] [] [.aw,.aw])
theorem af3:Sound Tryz.prog 206 0 Wj:=bW bk (fn:=Tryz.f206) (fns:=[]) trivial (by kernel_rfl) (by kernel_rfl) af1 af2 Dz uE (fun k x=>Dy k x.1 x.2.1) (by kernel_rfl) (fun _=>by kernel_rfl) (fun _=>rfl) (fun _ _=>by kernel_rfl) (fun _=>by kernel_rfl)
def AH:Entry:=⟨[aI (.sl (.int .i64)),aI (.int .i64)],[aZ .bool],r9⟩
theorem Hw:Sound Tryz.prog 171 0 AH:=b5 bk (fn:=Tryz.f171) (fns:=[(206,Wj)]) ⟨af3,trivial⟩ (by kernel_rfl) (by kernel_rfl) fun _=>by kernel_rfl
def Hy:Entry:=⟨[fh af,aI (.int .i64)],[ro (.sl (.int .i64))],uG⟩
def af4:List (Nat×bz):=[(4,⟨[(0,.c3 [] (pd af .R [] 0)),(5,.cell (.ah 1)),(6,.cell (.ah 2)),(7,aJ)],[(1,.row (.int .i64) .R),(2,.row (.int .i64) .R)],[.drop,.drop]⟩),(9,⟨[(0,.c3 [] (pd af .R [] 0)),(5,.cell (.ah 1)),(6,.cell (.ah 2)),(7,aJ),(31,.cell (.bA au [])),(32,aJ),(33,aJ)],[(1,.row (.int .i64) .R),(2,.row (.int .i64) .R)],[.drop,.drop]⟩)]
def af5(k:Nat→al→Option ((List Int)×Unit)):uF:=⟨fun U ad ae ai=>k 4 (bd [(0,.c3 (nf []) (aU af .R [] U 0) 0),(5,.aU (.ah 1 none)),(6,.aU (.ah 2 none)),(7,aR ad)] [(1,.row (.int .i64) .R 0 ae),(2,.row (.int .i64) .R 0 ai)] [.aw,.aw]),fun U ad ae ai ar aB aW=>k 9 (bd [(0,.c3 (nf []) (aU af .R [] U 0) 0),(5,.aU (.ah 1 none)),(6,.aU (.ah 2 none)),(7,aR ad),(31,dg au ae),(32,aR ai),(33,aR ar)] [(1,.row (.int .i64) .R 0 aB),(2,.row (.int .i64) .R 0 aW)] [.aw,.aw])⟩
theorem OV:Sound Tryz.prog 170 0 Hy:=bW bk (fn:=Tryz.f170) (fns:=[(171,AH),(205,nr)]) ⟨Hw,ov,trivial⟩ (by kernel_rfl) (by kernel_rfl) af4 af5 Uu mf (fun k x=>DA k x.1 x.2.1) (by kernel_rfl) (fun _=>by kernel_rfl) (fun _=>rfl) (fun _ _=>by kernel_rfl) (fun _=>by kernel_rfl)
def Hz:Entry:=⟨[fh af,aI (.int .i64)],[aZ (.int .i64)],xI⟩
def af6:List (Nat×bz):=[(3,⟨[(1,aJ),(5,aJ),(13,.cell (.bA I [])),(14,aJ),(15,aJ)],[],[.drop,.drop]⟩),(6,⟨[(1,aJ),(5,aJ),(13,.cell (.bA I [])),(14,aJ),(15,aJ),(20,.cell (.bA au [])),(21,aJ),(22,aJ)],[],[.drop,.drop]⟩)]
def af7(k:Nat→al→Option (Int×Unit)):uH:=⟨fun U ad ae ai ar=>k 3 (bd [(1,aR U),(5,aR ad),(13,dg I ae),(14,aR ai),(15,aR ar)] [] [.aw,.aw]),fun U ad ae ai ar aB aW bl=>k 6 (bd [(1,aR U),(5,aR ad),(13,dg I ae),(14,aR ai),(15,aR ar),(20,dg au aB),(21,aR aW),(22,aR bl)] [] [.aw,.aw])⟩
theorem OW:Sound Tryz.prog 172 0 Hz:=bW bk (fn:=Tryz.f172) (fns:=[]) trivial (by kernel_rfl) (by kernel_rfl) af6 af7 Uv pe (fun k x=>DB k x.1 x.2.1) (by kernel_rfl) (fun _=>by kernel_rfl) (fun _=>rfl) (fun _ _=>by kernel_rfl) (fun _=>by kernel_rfl)
def HA:Entry:=⟨[fh af],[aZ (.int .i64)],r_⟩
def af8:List (Nat×bz):=[(3,⟨[(3,aJ),(9,.cell (.bA I [])),(10,aJ),(11,aJ)],[],[.drop]⟩)]
def af9(k:Nat→al→Option (Int×Unit)):DC:=fun U ad ae ai=>k 3 (bd [(3,aR U),(9,dg I ad),(10,aR ae),(11,aR ai)] [] [.aw])
theorem OX:Sound Tryz.prog 173 0 HA:=bW bk (fn:=Tryz.f173) (fns:=[]) trivial (by kernel_rfl) (by kernel_rfl) af8 af9 DE uI (fun k x=>DD k x.1) (by kernel_rfl) (fun _=>by kernel_rfl) (fun _=>rfl) (fun _ _=>by kernel_rfl) (fun _=>by kernel_rfl)
def OY:Entry:=⟨[fh af,aI (.int .i64)],[aZ (.int .i64),aZ (.int .i64)],zJ⟩
def af_:List (Nat×bz):=[(4,⟨[(0,.c3 [] (pd af .R [] 0)),(6,aJ),(7,.cell (.ah 1)),(14,.cell (.ah 1)),(15,aJ),(16,aJ)],[(1,.row (.int .i64) .R)],[.drop,.drop]⟩)]
def af'(k:Nat→al→Option (Int×Int×Unit)):DF:=fun U ad ae ai ar=>k 4 (bd [(0,.c3 (nf []) (aU af .R [] U 0) 0),(6,aR ad),(7,.aU (.ah 1 none)),(14,.aU (.ah 1 none)),(15,aR ae),(16,aR ai)] [(1,.row (.int .i64) .R 0 ar)] [.aw,.aw])
theorem Wk:Sound Tryz.prog 208 0 OY:=bW bk (fn:=Tryz.f208) (fns:=[(170,Hy),(205,nr)]) ⟨OV,ov,trivial⟩ (by kernel_rfl) (by kernel_rfl) af_ af' DH qv (fun k x=>DG k x.1 x.2.1) (by kernel_rfl) (fun _=>by kernel_rfl) (fun _=>rfl) (fun _ _=>by kernel_rfl) (fun _=>by kernel_rfl)
def Wl:Entry:=⟨[fh af,aI I],[aZ .bool],Lt⟩
theorem aga:Sound Tryz.prog 175 0 Wl:=b5 bk (fn:=Tryz.f175) (fns:=[(208,OY)]) ⟨Wk,trivial⟩ (by kernel_rfl) (by kernel_rfl) fun _=>by kernel_rfl
def Wm:Entry:=⟨[aI (.sl I),.fn 1 0,fh af],[aZ (.int .i64)],Lu⟩
def agb:List (Nat×bz):=[(2,⟨[(0,.cell (.bA I [])),(1,.wz [[.keep,.bA I []]] []),(7,aJ),(8,aJ)],[],[.drop,.drop,.drop]⟩)]
def agc(k:Nat→al→Option (Int×Unit)):DI:=fun U ad ae ai=>k 2 (bd [(0,dg I U),(1,.fn 175 [.c3 [] [.int .i64 ad.1,.bA I [] none ad.2.1] 0] []),(7,aR ae),(8,aR ai)] [] [.aw,.aw,.aw])
theorem agd:Sound Tryz.prog 207 175 Wm:=wA bk 175 (fn:=Tryz.f207) (fns:=[(175,Wl)]) ⟨aga,trivial⟩ (by kernel_rfl) (by kernel_rfl) agb agc DK uJ (fun k x=>DJ k x.1 x.2.1) (by kernel_rfl) (fun _=>by kernel_rfl) (fun _=>rfl) (fun _ _=>by kernel_rfl) (fun _=>by kernel_rfl)
def OZ:Entry:=⟨[aI (.sl I),.fn 1 0,fh af],[aZ .bool],zK⟩
theorem Wn:Sound Tryz.prog 174 175 OZ:=Uj bk 175 (fn:=Tryz.f174) (fns:=[(175000207,Wm)]) ⟨agd,trivial⟩ (by kernel_rfl) (by kernel_rfl) fun _=>by kernel_rfl
def Wo:Entry:=⟨[aI af],[aZ .bool],Lw⟩
def age:List (Nat×bz):=[(4,⟨[(1,.ptr 1),(36,.cell (.bA I [])),(37,aJ),(38,aJ)],aF 1 af .R [],[.drop]⟩),(11,⟨[(1,.ptr 1),(5,.cell (.ah 2)),(75,.cell (.bA I [])),(76,aJ),(77,aJ)],aF 1 af .R []++[(2,.row (.int .i64) .R)],[.drop]⟩)]
def agf(k:Nat→al→Option (Bool×Unit)):uK:=⟨fun U ad ae ai=>k 4 (bd [(1,aC 1),(36,dg I U),(37,aR ad),(38,aR ae)] (aH 1 af .R [] ai) [.aw]),fun U ad ae ai ar=>k 11 (bd [(1,aC 1),(5,.aU (.ah 2 none)),(75,dg I U),(76,aR ad),(77,aR ae)] (aH 1 af .R [] ai++[(2,.row (.int .i64) .R 0 ar)]) [.aw])⟩
theorem agh:Sound Tryz.prog 122 0 Wo:=bW bk (fn:=Tryz.f122) (fns:=[(119,iq),(169,Wi),(170,Hy),(171,AH),(172,Hz),(173,HA),(175000174,OZ)]) ⟨iQ,af0,OV,Hw,OW,OX,Wn,trivial⟩ (by kernel_rfl) (by kernel_rfl) age agf Uw ng (fun k x=>DL k x.1) (by kernel_rfl) (fun _=>by kernel_rfl) (fun _=>rfl) (fun _ _=>by kernel_rfl) (fun _=>by kernel_rfl)
def Wp:Entry:=⟨[aI aM],[aZ .bool],Lx⟩
def agi:List (Nat×bz):=[(2,⟨[(1,.ptr 1),(6,.cell (.bA aO [])),(7,aJ),(8,aJ)],aF 1 aM .R [],[.drop]⟩)]
def agj(k:Nat→al→Option (Bool×Unit)):DM:=fun U ad ae ai=>k 2 (bd [(1,aC 1),(6,dg aO U),(7,aR ad),(8,aR ae)] (aH 1 aM .R [] ai) [.aw])
theorem agk:Sound Tryz.prog 61 0 Wp:=bW bk (fn:=Tryz.f61) (fns:=[(119,iq),(120,Wd),(121,OR),(122,Wo)]) ⟨iQ,afJ,We,agh,trivial⟩ (by kernel_rfl) (by kernel_rfl) agi agj DO uN (fun k x=>DN k x.1) (by kernel_rfl) (fun _=>by kernel_rfl) (fun _=>rfl) (fun _ _=>by kernel_rfl) (fun _=>by kernel_rfl)
def O0:Entry:=⟨[aI af],[ro af],qw⟩
def agl:List (Nat×bz):=[(3,⟨[(2,.ptr 1),(3,.ptr 3),(10,.cell (.bA I [])),(11,aJ),(12,aJ)],aF 1 af af.own []++aF 3 af af.own [],[.drop]⟩)]
def agm(k:Nat→al→Option (af.D×Unit)):xJ:=fun U ad ae ai ar=>k 3 (bd [(2,aC 1),(3,aC 3),(10,dg I U),(11,aR ad),(12,aR ae)] (aH 1 af af.own [] ai++aH 3 af af.own [] ar) [.aw])
theorem Wq:Sound Tryz.prog 123 0 O0:=bW bk (fn:=Tryz.f123) (fns:=[]) trivial (by kernel_rfl) (by kernel_rfl) agl agm DQ uO (fun k x=>DP k x.1) (by kernel_rfl) (fun _=>by kernel_rfl) (fun _=>rfl) (fun _ _=>by kernel_rfl) (fun _=>by kernel_rfl)
def Wr:Entry:=⟨[aI aM],[ro aM],LA⟩
theorem agn:Sound Tryz.prog 62 0 Wr:=b5 bk (fn:=Tryz.f62) (fns:=[(123,O0)]) ⟨Wq,trivial⟩ (by kernel_rfl) (by kernel_rfl) fun _=>by kernel_rfl
def Ws:Entry:=⟨[fh aM,aI (.int .i64)],[aZ .bool],LB⟩
def ago:List (Nat×bz):=[(2,⟨[(0,.c3 [] (pd aM .R [] 0)),(1,aJ),(12,.cell (.bA aE [])),(13,aJ),(14,aJ)],[],[.drop,.drop]⟩),(8,⟨[(1,aJ),(26,.cell (.bA aO [])),(27,aJ),(28,aJ)],[],[.drop,.drop]⟩)]
def agp(k:Nat→al→Option (Bool×Unit)):uP:=⟨fun U ad ae ai ar=>k 2 (bd [(0,.c3 (nf []) (aU aM .R [] U 0) 0),(1,aR ad),(12,dg aE ae),(13,aR ai),(14,aR ar)] [] [.aw,.aw]),fun U ad ae ai=>k 8 (bd [(1,aR U),(26,dg aO ad),(27,aR ae),(28,aR ai)] [] [.aw,.aw])⟩
theorem agq:Sound Tryz.prog 124 0 Ws:=bW bk (fn:=Tryz.f124) (fns:=[]) trivial (by kernel_rfl) (by kernel_rfl) ago agp UA r' (fun k x=>Uz k x.1 x.2.1) (by kernel_rfl) (fun _=>by kernel_rfl) (fun _=>rfl) (fun _ _=>by kernel_rfl) (fun _=>by kernel_rfl)
def O1:Entry:=⟨[fh aM,aI (.int .i64)],[aZ (.int .i64),aZ .bool],DU⟩
def agr:List (Nat×bz):=[(2,⟨[(0,.c3 [] (pd aM .R [] 0)),(1,aJ),(6,aJ)],[],[.drop,.drop]⟩)]
def ags(k:Nat→al→Option (Int×Bool×Unit)):DT:=fun U ad ae=>k 2 (bd [(0,.c3 (nf []) (aU aM .R [] U 0) 0),(1,aR ad),(6,aR ae)] [] [.aw,.aw])
theorem Wt:Sound Tryz.prog 129 0 O1:=bW bk (fn:=Tryz.f129) (fns:=[]) trivial (by kernel_rfl) (by kernel_rfl) agr ags xK xL (fun k x=>UB k x.1 x.2.1) (by kernel_rfl) (fun _=>by kernel_rfl) (fun _=>rfl) (fun _ _=>by kernel_rfl) (fun _=>by kernel_rfl)
def Wu:Entry:=⟨[fh aM,aI (.int .i64)],[aZ aO],LD⟩
theorem agt:Sound Tryz.prog 125 0 Wu:=b5 bk (fn:=Tryz.f125) (fns:=[(129,O1)]) ⟨Wt,trivial⟩ (by kernel_rfl) (by kernel_rfl) fun _=>by kernel_rfl
def HB:Entry:=⟨[aI aN],[aZ .bool],zL⟩
def agu:List (Nat×bz):=[(3,⟨[(1,.ptr 1),(3,aJ),(4,aJ)],aF 1 aN .R [],[.drop]⟩),(5,⟨[(1,.ptr 1)],aF 1 aN .R [],[.drop]⟩)]
def agv(k:Nat→al→Option (Bool×Unit)):uQ:=⟨fun U ad ae=>k 3 (bd [(1,aC 1),(3,gB U),(4,gB ad)] (aH 1 aN .R [] ae) [.aw]),fun U=>k 5 (bd [(1,aC 1)] (aH 1 aN .R [] U) [.aw])⟩
theorem O2:Sound Tryz.prog 127 0 HB:=bW bk (fn:=Tryz.f127) (fns:=[(119,iq)]) ⟨iQ,trivial⟩ (by kernel_rfl) (by kernel_rfl) agu agv LF DW (fun k x=>DV k x.1) (by kernel_rfl) (fun _=>by kernel_rfl) (fun _=>rfl) (fun _ _=>by kernel_rfl) (fun _=>by kernel_rfl)
def HC:Entry:=⟨[aI (.int .i64)],[aZ .bool],zM⟩
theorem O3:Sound Tryz.prog 128 0 HC:=b5 bk (fn:=Tryz.f128) (fns:=[]) trivial (by kernel_rfl) (by kernel_rfl) fun _=>by kernel_rfl
def sD:Entry:=⟨[aI (.int .i64)],[aZ aA],ec⟩
theorem vS:Sound Tryz.prog 176 0 sD:=b5 bk (fn:=Tryz.f176) (fns:=[]) trivial (by kernel_rfl) (by kernel_rfl) fun _=>by kernel_rfl
def Wv:Entry:=⟨[aI (.int .i64)],[aZ (.int .i64)],LH⟩
theorem agw:Sound Tryz.prog 209 0 Wv:=b5 bk (fn:=Tryz.f209) (fns:=[(119,iq),(128,HC)]) ⟨iQ,O3,trivial⟩ (by kernel_rfl) (by kernel_rfl) fun _=>by kernel_rfl
def Ww:Entry:=⟨[aI (.int .i64),aI (.int .i64)],[aZ (.int .i64),aZ .bool],LJ⟩
theorem agx:Sound Tryz.prog 177 0 Ww:=b5 bk (fn:=Tryz.f177) (fns:=[(209,Wv)]) ⟨agw,trivial⟩ (by kernel_rfl) (by kernel_rfl) fun _=>by kernel_rfl
def Wx:Entry:=⟨[aI (.int .i64)],[ro aP],LL⟩
theorem agy:Sound Tryz.prog 178 0 Wx:=b5 bk (fn:=Tryz.f178) (fns:=[]) trivial (by kernel_rfl) (by kernel_rfl) fun _=>by kernel_rfl
def O4:Entry:=⟨[aI (.int .i64)],[aZ .str],uS⟩
def agz:List (Nat×bz):=[(4,⟨[(0,aJ),(3,aJ),(4,aJ)],[],[.drop]⟩),(7,⟨[(0,aJ),(3,aJ),(4,aJ),(5,aJ)],[],[.drop]⟩)]
def agA(k:Nat→al→Option ((List UInt8)×Unit)):uR:=⟨fun U ad ae=>k 4 (bd [(0,aR U),(3,eP ad),(4,aR ae)] [] [.aw]),fun U ad ae ai=>k 7 (bd [(0,aR U),(3,eP ad),(4,aR ae),(5,aR ai)] [] [.aw])⟩
theorem Wy:Sound Tryz.prog 210 0 O4:=bW bk (fn:=Tryz.f210) (fns:=[(119,iq)]) ⟨iQ,trivial⟩ (by kernel_rfl) (by kernel_rfl) agz agA UF mg (fun k x=>UE k x.1) (by kernel_rfl) (fun _=>by kernel_rfl) (fun _=>rfl) (fun _ _=>by kernel_rfl) (fun _=>by kernel_rfl)
def Wz:Entry:=⟨[aI (.sl aE),aI (.int .i64)],[aZ .str],LP⟩
def agB:List (Nat×bz):=[(5,⟨[(0,.cell (.bA aE [])),(1,aJ),(5,aJ),(6,aJ)],[],[.drop,.drop]⟩),(11,⟨[(0,.cell (.bA aE [])),(1,aJ),(5,aJ),(6,aJ),(49,.cell (.ah 1)),(50,aJ),(51,aJ)],[(1,.row (.int .i64) .R)],[.drop,.drop]⟩)]
def agC(k:Nat→al→Option ((List UInt8)×Unit)):uT:=⟨fun U ad ae ai=>k 5 (bd [(0,dg aE U),(1,aR ad),(5,eP ae),(6,aR ai)] [] [.aw,.aw]),fun U ad ae ai ar aB aW=>k 11 (bd [(0,dg aE U),(1,aR ad),(5,eP ae),(6,aR ai),(49,.aU (.ah 1 none)),(50,aR ar),(51,aR aB)] [(1,.row (.int .i64) .R 0 aW)] [.aw,.aw])⟩
theorem agD:Sound Tryz.prog 179 0 Wz:=bW bk (fn:=Tryz.f179) (fns:=[(121,OR),(210,O4)]) ⟨We,Wy,trivial⟩ (by kernel_rfl) (by kernel_rfl) agB agC UG nh (fun k x=>DX k x.1 x.2.1) (by kernel_rfl) (fun _=>by kernel_rfl) (fun _=>rfl) (fun _ _=>by kernel_rfl) (fun _=>by kernel_rfl)
def WA:Entry:=⟨[aI (.int .i64)],[aZ .bool],UH⟩
theorem agE:Sound Tryz.prog 233 0 WA:=b5 bk (fn:=Tryz.f233) (fns:=[(119,iq)]) ⟨iQ,trivial⟩ (by kernel_rfl) (by kernel_rfl) fun _=>by kernel_rfl
def WB:Entry:=⟨[aI (.sl (.int .i64)),.fn 0 0],[aZ (.int .i64)],LR⟩
def agF:List (Nat×bz):=[(2,⟨[(0,.cell (.bA (.int .i64) [])),(1,.same),(7,aJ),(8,aJ)],[],[.drop,.drop]⟩)]
def agG(k:Nat→al→Option (Int×Unit)):D0:=fun U ad ae=>k 2 (bd [(0,dg (.int .i64) U),(1,.fn 233 [] []),(7,aR ad),(8,aR ae)] [] [.aw,.aw])
theorem agH:Sound Tryz.prog 266 233 WB:=wA bk 233 (fn:=Tryz.f266) (fns:=[(233,WA)]) ⟨agE,trivial⟩ (by kernel_rfl) (by kernel_rfl) agF agG D2 uU (fun k x=>D1 k x.1) (by kernel_rfl) (fun _=>by kernel_rfl) (fun _=>rfl) (fun _ _=>by kernel_rfl) (fun _=>by kernel_rfl)
def WC:Entry:=⟨[aI (.sl (.int .i64)),.fn 0 0],[aZ .bool],LU⟩
theorem agI:Sound Tryz.prog 232 233 WC:=Uj bk 233 (fn:=Tryz.f232) (fns:=[(233000266,WB)]) ⟨agH,trivial⟩ (by kernel_rfl) (by kernel_rfl) fun _=>by kernel_rfl
def AI:Entry:=⟨[aI aP],[aZ .bool],xM⟩
theorem HD:Sound Tryz.prog 211 0 AI:=b5 bk (fn:=Tryz.f211) (fns:=[(119,iq),(233000232,WC)]) ⟨iQ,agI,trivial⟩ (by kernel_rfl) (by kernel_rfl) fun _=>by kernel_rfl
def WD:Entry:=⟨[aI .str],[aZ .bool],LX⟩
theorem agJ:Sound Tryz.prog 289 0 WD:=b5 bk (fn:=Tryz.f289) (fns:=[(203,Hu)]) ⟨OT,trivial⟩ (by kernel_rfl) (by kernel_rfl) fun _=>by kernel_rfl
def HE:Entry:=⟨[aI aP,aI (.int .i64)],[aZ .bool],uV⟩
theorem O5:Sound Tryz.prog 282 0 HE:=b5 bk (fn:=Tryz.f282) (fns:=[(171,AH),(211,AI)]) ⟨Hw,HD,trivial⟩ (by kernel_rfl) (by kernel_rfl) fun _=>by kernel_rfl
def x4:Entry:=⟨[aI aP,aI I,aI (.int .i64)],[aZ .bool],pf⟩
theorem AJ:Sound Tryz.prog 279 0 x4:=b5 bk (fn:=Tryz.f279) (fns:=[(119,iq),(211,AI),(282,HE)]) ⟨iQ,HD,O5,trivial⟩ (by kernel_rfl) (by kernel_rfl) fun _=>by kernel_rfl
def O6:Entry:=⟨[fh I,aI .str],[aZ (.int .i64)],D6⟩
def agK:List (Nat×bz):=[(2,⟨[(1,aJ),(10,.cell (.bA au [])),(11,aJ),(12,aJ)],[],[.drop,.drop]⟩)]
def agL(k:Nat→al→Option (Int×Unit)):D3:=fun U ad ae ai=>k 2 (bd [(1,eP U),(10,dg au ad),(11,aR ae),(12,aR ai)] [] [.aw,.aw])
theorem WE:Sound Tryz.prog 291 0 O6:=bW bk (fn:=Tryz.f291) (fns:=[]) trivial (by kernel_rfl) (by kernel_rfl) agK agL D5 sa (fun k x=>D4 k x.1 x.2.1) (by kernel_rfl) (fun _=>by kernel_rfl) (fun _=>rfl) (fun _ _=>by kernel_rfl) (fun _=>by kernel_rfl)
def WG:Entry:=⟨[aI .str,aI (.int .i64)],[ro (.sl .str)],UI⟩
theorem agM:hK Tryz.prog 321 0 WG:=Um fun _=>rfl
def WH:Entry:=⟨[aI .str,aI (.int .u8)],[aZ (.int .i64)],UJ⟩
theorem agN:hK Tryz.prog 333 0 WH:=ae4 Tryz.func333 (by kernel_rfl) (by kernel_rfl) (by kernel_rfl) (by kernel_rfl)
def WI:Entry:=⟨[aI .str,aI (.int .u8)],[aZ (.int .i64)],UK⟩
theorem agO:Sound Tryz.prog 329 0 WI:=b5 bk (fn:=Tryz.f329) (fns:=[(333,WH)]) ⟨agN,trivial⟩ (by kernel_rfl) (by kernel_rfl) fun _=>by kernel_rfl
def WJ:Entry:=⟨[aI .str,aI .str],[aZ (.int .i64)],UL⟩
theorem agP:Sound Tryz.prog 327 0 WJ:=b5 bk (fn:=Tryz.f327) (fns:=[(329,WI)]) ⟨agO,trivial⟩ (by kernel_rfl) (by kernel_rfl) fun _=>by kernel_rfl
def O7:Entry:=⟨[aI .str,aI .str],[aZ (.int .i64)],D7⟩
theorem WK:Sound Tryz.prog 323 0 O7:=b5 bk (fn:=Tryz.f323) (fns:=[(327,WJ)]) ⟨agP,trivial⟩ (by kernel_rfl) (by kernel_rfl) fun _=>by kernel_rfl
def WL:Entry:=⟨[aI .str],[aZ (.int .i64)],UM⟩
theorem agQ:hK Tryz.prog 324 0 WL:=Um fun _=>rfl
def WM:Entry:=⟨[aI .str,aI (.int .u8)],[aZ (.int .i64)],UN⟩
theorem agR:hK Tryz.prog 326 0 WM:=ae5 Tryz.func326 (by kernel_rfl) (by kernel_rfl) (by kernel_rfl) (by kernel_rfl)
def WN:Entry:=⟨[aI .str,aI .str],[aZ (.int .i64)],L2⟩
def agS:List (Nat×bz):=[(6,⟨[(0,aJ),(1,aJ),(5,aJ)],[],[.drop,.drop]⟩)]
def agT(k:Nat→al→Option (Int×Unit)):D8:=fun U ad ae=>k 6 (bd [(0,eP U),(1,eP ad),(5,aR ae)] [] [.aw,.aw])
theorem agU:Sound Tryz.prog 322 0 WN:=bW bk (fn:=Tryz.f322) (fns:=[(323,O7),(324,WL),(326,WM)]) ⟨WK,agQ,agR,trivial⟩ (by kernel_rfl) (by kernel_rfl) agS agT UO D_ (fun k x=>D9 k x.1 x.2.1) (by kernel_rfl) (fun _=>by kernel_rfl) (fun _=>rfl) (fun _ _=>by kernel_rfl) (fun _=>by kernel_rfl)
def WO:Entry:=⟨[aI .str,aI .str,aI (.int .i64),aI (.int .i64)],[ro (.sl .str)],L5⟩
def agV:List (Nat×bz):=[(7,⟨[(0,aJ),(1,aJ),(2,aJ),(3,aJ)],[],[.drop,.drop,.drop,.drop]⟩),(11,⟨[(0,aJ),(1,aJ),(2,aJ),(3,aJ),(9,.cell (.ah 1)),(10,aJ)],[(1,.row .str .R)],[.drop,.drop,.drop,.drop]⟩),(17,⟨[(0,aJ),(9,.cell (.ah 1)),(10,aJ)],[(1,.row .str .R)],[.drop,.drop,.drop,.drop]⟩)]
def agW(k:Nat→al→Option (pg)):qx:=⟨fun U ad ae ai=>k 7 (bd [(0,eP U),(1,eP ad),(2,aR ae),(3,aR ai)] [] [.aw,.aw,.aw,.aw]),fun U ad ae ai ar aB=>k 11 (bd [(0,eP U),(1,eP ad),(2,aR ae),(3,aR ai),(9,.aU (.ah 1 none)),(10,aR ar)] [(1,.row .str .R 0 aB)] [.aw,.aw,.aw,.aw]),fun U ad ae=>k 17 (bd [(0,eP U),(9,.aU (.ah 1 none)),(10,aR ad)] [(1,.row .str .R 0 ae)] [.aw,.aw,.aw,.aw])⟩
theorem agX:Sound Tryz.prog 320 0 WO:=bW bk (fn:=Tryz.f320) (fns:=[(321,WG),(322,WN),(323,O7)]) ⟨agM,agU,WK,trivial⟩ (by kernel_rfl) (by kernel_rfl) agV agW UR qy (fun k x=>D' k x.1 x.2.1 x.2.2.1 x.2.2.2.1) (by kernel_rfl) (fun _=>by kernel_rfl) (fun _=>rfl) (fun _ _=>by kernel_rfl) (fun _=>by kernel_rfl)
def WQ:Entry:=⟨[aI .str,aI .str],[ro (.sl .str)],L7⟩
theorem agY:Sound Tryz.prog 313 0 WQ:=b5 bk (fn:=Tryz.f313) (fns:=[(320,WO)]) ⟨agX,trivial⟩ (by kernel_rfl) (by kernel_rfl) fun _=>by kernel_rfl
def WR:Entry:=⟨[aI .str],[ro (.sl .str)],sc⟩
def agZ:List (Nat×bz):=[(3,⟨[(3,.cell (.ah 1)),(8,.cell (.ah 2)),(9,aJ),(10,aJ)],[(1,.row .str .R),(2,.row .str .R)],[.drop]⟩)]
def ag0(k:Nat→al→Option (zO)):Ea:=fun U ad ae ai=>k 3 (bd [(3,.aU (.ah 1 none)),(8,.aU (.ah 2 none)),(9,aR U),(10,aR ad)] [(1,.row .str .R 0 ae),(2,.row .str .R 0 ai)] [.aw])
theorem ag1:Sound Tryz.prog 304 0 WR:=bW bk (fn:=Tryz.f304) (fns:=[(313,WQ)]) ⟨agY,trivial⟩ (by kernel_rfl) (by kernel_rfl) agZ ag0 Ec sb (fun k x=>Eb k x.1) (by kernel_rfl) (fun _=>by kernel_rfl) (fun _=>rfl) (fun _ _=>by kernel_rfl) (fun _=>by kernel_rfl)
def WS:Entry:=⟨[fh af,aI (.int .i64)],[aZ (.int .i64)],L8⟩
def ag2:List (Nat×bz):=[(2,⟨[(1,aJ),(12,.cell (.bA I [])),(13,aJ),(14,aJ)],[],[.drop,.drop]⟩),(5,⟨[(1,aJ),(6,.ptr 1),(12,.cell (.bA I [])),(13,aJ),(14,aJ),(19,.cell (.bA au [])),(20,aJ),(21,aJ)],aF 1 I .R [],[.drop,.drop]⟩)]
def ag3(k:Nat→al→Option (Int×Unit)):uW:=⟨fun U ad ae ai=>k 2 (bd [(1,aR U),(12,dg I ad),(13,aR ae),(14,aR ai)] [] [.aw,.aw]),fun U ad ae ai ar aB aW bl=>k 5 (bd [(1,aR U),(6,aC 1),(12,dg I ad),(13,aR ae),(14,aR ai),(19,dg au ar),(20,aR aB),(21,aR aW)] (aH 1 I .R [] bl) [.aw,.aw])⟩
theorem ag4:Sound Tryz.prog 305 0 WS:=bW bk (fn:=Tryz.f305) (fns:=[]) trivial (by kernel_rfl) (by kernel_rfl) ag2 ag3 UT ks (fun k x=>Ed k x.1 x.2.1) (by kernel_rfl) (fun _=>by kernel_rfl) (fun _=>rfl) (fun _ _=>by kernel_rfl) (fun _=>by kernel_rfl)
def WT:Entry:=⟨[fh af,aI aP,aI .str,aI .bool],[aZ aY],L9⟩
def ag5:List (Nat×bz):=[(3,⟨[(0,.c3 [] (pd af .R [] 0)),(3,aJ),(5,.ptr 1),(8,.ptr 2),(9,.cell (.av 3)),(10,aJ),(11,aJ)],aF 1 aP .R []++aF 2 aY .R []++[(3,.row .str .R)],[.drop,.drop,.drop,.drop]⟩)]
def ag6(k:Nat→al→Option (aY.D×Unit)):sd:=fun U ad ae ai ar aB aW bl bQ=>k 3 (bd [(0,.c3 (nf []) (aU af .R [] U 0) 0),(3,gB ad),(5,aC 1),(8,aC 2),(9,.aU (.ah 3 (some (ae,ai)))),(10,aR ar),(11,aR aB)] (aH 1 aP .R [] aW++aH 2 aY .R [] bl++[(3,.row .str .R 0 bQ)]) [.aw,.aw,.aw,.aw])
theorem ag7:Sound Tryz.prog 290 0 WT:=bW bk (fn:=Tryz.f290) (fns:=[(205,nr),(279,x4),(291,O6),(304,WR),(305,WS)]) ⟨ov,AJ,WE,ag1,ag4,trivial⟩ (by kernel_rfl) (by kernel_rfl) ag5 ag6 lC gh (fun k x=>Ee k x.1 x.2.1 x.2.2.1 x.2.2.2.1) (by kernel_rfl) (fun _=>by kernel_rfl) (fun _=>rfl) (fun _ _=>by kernel_rfl) (fun _=>by kernel_rfl)
def x5:Entry:=⟨[fh aQ,aI .str,aI .bool],[aZ aY],kP⟩
theorem AK:Sound Tryz.prog 271 0 x5:=b5 bk (fn:=Tryz.f271) (fns:=[(289,WD),(290,WT)]) ⟨agJ,ag7,trivial⟩ (by kernel_rfl) (by kernel_rfl) fun _=>by kernel_rfl
def O8:Entry:=⟨[fh aQ,aI .str],[aZ aY,aZ (.int .i64)],uZ⟩
theorem WU:Sound Tryz.prog 267 0 O8:=b5 bk (fn:=Tryz.f267) (fns:=[(271,x5)]) ⟨AK,trivial⟩ (by kernel_rfl) (by kernel_rfl) fun _=>by kernel_rfl
def AL:Entry:=⟨[fh aQ,aI (.int .i64)],[aZ .bool],ni⟩
theorem HF:Sound Tryz.prog 268 0 AL:=b5 bk (fn:=Tryz.f268) (fns:=[(205,nr),(279,x4)]) ⟨ov,AJ,trivial⟩ (by kernel_rfl) (by kernel_rfl) fun _=>by kernel_rfl
def WV:Entry:=⟨[yJ (.sl au),aI (.int .i64),yJ (.sl au)],[ro (.sl au)],UZ⟩
theorem ag8:hK Tryz.prog 288 0 WV:=ins_soundX
def HG:Entry:=⟨[.«mut» aQ ch ch,aI (.int .i64),aI .str,aI (.int .i64)],[],sf⟩
def ag9:List (Nat×bz):=[(2,⟨[(2,aJ),(3,aJ),(8,.opt 1),(9,aJ)],[(1,.row I j_),(2,.var [.keep,.ah 1,.keep,.keep,.bA (.int .i64) [],.keep,.keep,.keep,.keep,.keep,.keep])],[.ptr 2,.drop,.drop,.drop]⟩),(4,⟨[(2,aJ),(3,aJ),(8,.opt 1),(9,aJ)],[(1,.row I j_),(2,.var [.keep,.ah 1,.keep,.keep,.bA (.int .i64) [],.keep,.keep,.keep,.keep,.keep,.keep])],[.ptr 2,.drop,.drop,.drop]⟩)]
def ag_(k:Nat→al→Option (aQ.D×Unit)):u0:=⟨fun U ad ae ai ar=>k 2 (bd [(2,eP U),(3,aR ad),(8,.opt 1 ae),(9,aR ai)] ([(1,.row I j_ 0 ar.1.2.1),(2,.var 0 [.int .i64 ar.1.1,.ah 1 none,.int .i64 ar.2.1.1,.int .i64 ar.2.1.2.1,.bA (.int .i64) [] none ar.2.1.2.2.1,.int .i64 ar.2.2.1.1,.str ar.2.2.1.2.1,.str ar.2.2.1.2.2.1,.int .i64 ar.2.2.1.2.2.2.1,.int .i64 ar.2.2.1.2.2.2.2.1,.str ar.2.2.1.2.2.2.2.2.1])]) [aC 2,.aw,.aw,.aw]),fun U ad ae ai ar=>k 4 (bd [(2,eP U),(3,aR ad),(8,.opt 1 ae),(9,aR ai)] ([(1,.row I j_ 0 ar.1.2.1),(2,.var 0 [.int .i64 ar.1.1,.ah 1 none,.int .i64 ar.2.1.1,.int .i64 ar.2.1.2.1,.bA (.int .i64) [] none ar.2.1.2.2.1,.int .i64 ar.2.2.1.1,.str ar.2.2.1.2.1,.str ar.2.2.1.2.2.1,.int .i64 ar.2.2.1.2.2.2.1,.int .i64 ar.2.2.1.2.2.2.2.1,.str ar.2.2.1.2.2.2.2.2.1])]) [aC 2,.aw,.aw,.aw])⟩
theorem O9:Sound Tryz.prog 269 0 HG:=bW bk (fn:=Tryz.f269) (fns:=[(288,WV),(205,Hv)]) ⟨ag8,OU,trivial⟩ (by kernel_rfl) (by kernel_rfl) ag9 ag_ U0 se (fun k x=>Ef k x.1 x.2.1 x.2.2.1 x.2.2.2.1) (by kernel_rfl) (fun _=>by kernel_rfl) (fun _=>rfl) (fun _ _=>by kernel_rfl) (fun _=>by kernel_rfl)
def x6:Entry:=⟨[fh aQ],[aZ (.int .i64)],nj⟩
theorem AM:Sound Tryz.prog 270 0 x6:=b5 bk (fn:=Tryz.f270) (fns:=[(173,HA),(175000174,OZ)]) ⟨OX,Wn,trivial⟩ (by kernel_rfl) (by kernel_rfl) fun _=>by kernel_rfl
def WW:Entry:=⟨[.«mut» aQ ch ch],[aZ (.int .i64)],zR⟩
def ag':List (Nat×bz):=[(4,⟨[(0,.ptr 1),(3,.ptr 3)],aF 1 aQ ch []++aF 3 aN .R [],[.ptr 1]⟩),(23,⟨[(0,.ptr 1),(4,.ptr 3),(7,.ptr 4)],aF 1 aQ ch []++aF 3 aY .R []++aF 4 I I.own [],[.ptr 1]⟩)]
def aha(k:Nat→al→Option (Int×aQ.D×Unit)):u1:=⟨fun U ad=>k 4 (bd [(0,aC 1),(3,aC 3)] (aH 1 aQ ch [] U++aH 3 aN .R [] ad) [aC 1]),fun U ad ae=>k 23 (bd [(0,aC 1),(4,aC 3),(7,aC 4)] (aH 1 aQ ch [] U++aH 3 aY .R [] ad++aH 4 I I.own [] ae) [aC 1])⟩
theorem ahb:Sound Tryz.prog 234 0 WW:=bW bk (fn:=Tryz.f234) (fns:=[(119,iq),(203,Hu),(205,nr),(267,O8),(268,AL),(269,HG),(270,x6)]) ⟨iQ,OT,ov,WU,HF,O9,AM,trivial⟩ (by kernel_rfl) (by kernel_rfl) ag' aha U1 kQ (fun k x=>Eg k x.1) (by kernel_rfl) (fun _=>by kernel_rfl) (fun _=>rfl) (fun _ _=>by kernel_rfl) (fun _=>by kernel_rfl)
def HH:Entry:=⟨[aI aP,aI I,aI I],[aZ .bool],sg⟩
theorem O_:Sound Tryz.prog 272 0 HH:=b5 bk (fn:=Tryz.f272) (fns:=[(211,AI)]) ⟨HD,trivial⟩ (by kernel_rfl) (by kernel_rfl) fun _=>by kernel_rfl
def O':Entry:=⟨[aI au,fh .str],[aZ .bool],Eh⟩
theorem WX:Sound Tryz.prog 293 0 O':=b5 bk (fn:=Tryz.f293) (fns:=[]) trivial (by kernel_rfl) (by kernel_rfl) fun _=>by kernel_rfl
def WY:Entry:=⟨[aI (.sl au),.fn 0 1,fh .str],[aZ (.int .i64)],Me⟩
def ahc:List (Nat×bz):=[(2,⟨[(0,.cell (.bA au [])),(1,.wz [] [[.keep]]),(7,aJ),(8,aJ)],[],[.drop,.drop,.drop]⟩)]
def ahd(k:Nat→al→Option (Int×Unit)):Ei:=fun U ad ae ai=>k 2 (bd [(0,dg au U),(1,.fn 293 [] [.c3 [] [.str ad] 0]),(7,aR ae),(8,aR ai)] [] [.aw,.aw,.aw])
theorem ahe:Sound Tryz.prog 306 293 WY:=wA bk 293 (fn:=Tryz.f306) (fns:=[(293,O')]) ⟨WX,trivial⟩ (by kernel_rfl) (by kernel_rfl) ahc ahd Ej xN (fun k x=>U2 k x.1 x.2.1) (by kernel_rfl) (fun _=>by kernel_rfl) (fun _=>rfl) (fun _ _=>by kernel_rfl) (fun _=>by kernel_rfl)
def WZ:Entry:=⟨[yJ (.sl au),.fn 0 1,fh .str],[ro (.sl au)],En⟩
def ahf:List (Nat×bz):=[(5,⟨[(0,.cell (.ah 1)),(1,.wz [] [[.keep]]),(5,aJ),(6,aJ)],[(1,.row au .R)],[.drop,.drop,.drop]⟩)]
def ahg(k:Nat→al→Option (xO)):Ek:=fun U ad ae ai=>k 5 (bd [(0,.aU (.ah 1 none)),(1,.fn 293 [] [.c3 [] [.str U] 0]),(5,aR ad),(6,aR ae)] [(1,.row au .R 0 ai)] [.aw,.aw,.aw])
theorem ahh:Sound Tryz.prog 292 293 WZ:=wA bk 293 (fn:=Tryz.f292) (fns:=[(293,O'),(293000306,WY)]) ⟨WX,ahe,trivial⟩ (by kernel_rfl) (by kernel_rfl) ahf ahg Em xP (fun k x=>El k x.1 x.2.1) (by kernel_rfl) (fun _=>by kernel_rfl) (fun _=>rfl) (fun _ _=>by kernel_rfl) (fun _=>by kernel_rfl)
def W0:Entry:=⟨[yJ (.sl I),.fn 0 1,fh (.int .i64)],[ro (.sl I)],U4⟩
theorem ahi:hK Tryz.prog 294 295 W0:=ae6 (T:=I) (T':=oJ.et) (p:=fun y i => !(y.1==i)) (p':=fun y i => !oJ.jR y i) rfl (fun x y i h=>by rw [show x.1=y.1 from h.1];rfl) (fq:=oJ.IZ) oJ.abE.x (fun ys i h=>oJ.del_eq ys i h)
def Pb:Entry:=⟨[.«mut» aQ ch ch,aI (.int .i64),aI .str,aI .bool],[],oh⟩
theorem W4:Sound Tryz.prog 273 0 Pb:=b5 bk (fn:=Tryz.f273) (fns:=[(172,Hz),(291,O6),(293000292,WZ),(295000294,W0),(205,Hv)]) ⟨OW,WE,ahh,ahi,OU,trivial⟩ (by kernel_rfl) (by kernel_rfl) fun _=>by kernel_rfl
def W5:Entry:=⟨[.«mut» aQ ch ch],[aZ (.int .i64)],Ep⟩
def ahj:List (Nat×bz):=[(5,⟨[(0,.ptr 1),(3,.ptr 3),(4,.ptr 4)],aF 1 aQ ch []++aF 3 aY .R []++aF 4 I .R [2,1],[.ptr 1]⟩),(7,⟨[(0,.ptr 1),(3,.ptr 3),(4,.ptr 4)],aF 1 aQ ch []++aF 3 aY .R []++aF 4 I .R [2,1],[.ptr 1]⟩),(9,⟨[(0,.ptr 1),(3,.ptr 3),(4,.ptr 4)],aF 1 aQ ch []++aF 3 aY .R []++aF 4 I .R [2,1],[.ptr 1]⟩),(11,⟨[(0,.ptr 1),(3,.ptr 3),(4,.ptr 4)],aF 1 aQ ch []++aF 3 aY .R []++aF 4 I .R [2,1],[.ptr 1]⟩)]
def ahk(k:Nat→al→Option (Int×aQ.D×Unit)):qA:=⟨fun U ad ae=>k 5 (bd [(0,aC 1),(3,aC 3),(4,aC 4)] (aH 1 aQ ch [] U++aH 3 aY .R [] ad++aH 4 I .R [2,1] ae) [aC 1]),fun U ad ae=>k 7 (bd [(0,aC 1),(3,aC 3),(4,aC 4)] (aH 1 aQ ch [] U++aH 3 aY .R [] ad++aH 4 I .R [2,1] ae) [aC 1]),fun U ad ae=>k 9 (bd [(0,aC 1),(3,aC 3),(4,aC 4)] (aH 1 aQ ch [] U++aH 3 aY .R [] ad++aH 4 I .R [2,1] ae) [aC 1]),fun U ad ae=>k 11 (bd [(0,aC 1),(3,aC 3),(4,aC 4)] (aH 1 aQ ch [] U++aH 3 aY .R [] ad++aH 4 I .R [2,1] ae) [aC 1])⟩
theorem ahl:Sound Tryz.prog 235 0 W5:=bW bk (fn:=Tryz.f235) (fns:=[(205,nr),(268,AL),(271,x5),(272,HH),(273,Pb)]) ⟨ov,HF,AK,O_,W4,trivial⟩ (by kernel_rfl) (by kernel_rfl) ahj ahk U5 oi (fun k x=>Eo k x.1) (by kernel_rfl) (fun _=>by kernel_rfl) (fun _=>rfl) (fun _ _=>by kernel_rfl) (fun _=>by kernel_rfl)
def Pc:Entry:=⟨[fh af,aI (.int .i64)],[aZ .bool],zS⟩
theorem W6:Sound Tryz.prog 274 0 Pc:=b5 bk (fn:=Tryz.f274) (fns:=[(205,nr)]) ⟨ov,trivial⟩ (by kernel_rfl) (by kernel_rfl) fun _=>by kernel_rfl
def W7:Entry:=⟨[.«mut» aQ ch ch],[aZ (.int .i64)],Er⟩
theorem ahm:Sound Tryz.prog 236 0 W7:=b5 bk (fn:=Tryz.f236) (fns:=[(205,nr),(267,O8),(268,AL),(269,HG),(270,x6),(271,x5),(274,Pc)]) ⟨ov,WU,HF,O9,AM,AK,W6,trivial⟩ (by kernel_rfl) (by kernel_rfl) fun _=>by kernel_rfl
def W8:Entry:=⟨[fh aQ,aI I,aI aY],[aZ (.int .i64)],Es⟩
theorem ahn:Sound Tryz.prog 275 0 W8:=b5 bk (fn:=Tryz.f275) (fns:=[(205,nr),(272,HH)]) ⟨ov,O_,trivial⟩ (by kernel_rfl) (by kernel_rfl) fun _=>by kernel_rfl
def W9:Entry:=⟨[.«mut» aQ ch ch],[aZ (.int .i64)],Eu⟩
def aho:List (Nat×bz):=[(7,⟨[(0,.ptr 1),(3,.ptr 3),(4,.ptr 4)],aF 1 aQ ch []++aF 3 aY .R []++aF 4 aY .R [],[.ptr 1]⟩),(10,⟨[(0,.ptr 1),(3,.ptr 3),(4,.ptr 4),(5,.ptr 5)],aF 1 aQ ch []++aF 3 aY .R []++aF 4 aY .R []++aF 5 I .R [2,1],[.ptr 1]⟩),(16,⟨[(0,.ptr 1),(3,.ptr 3),(4,.ptr 4),(5,.ptr 5)],aF 1 aQ ch []++aF 3 aY .R []++aF 4 aY .R []++aF 5 I .R [2,1],[.ptr 1]⟩),(25,⟨[(0,.ptr 1),(3,.ptr 3),(4,.ptr 4)],aF 1 aQ ch []++aF 3 aY .R []++aF 4 aY .R [],[.ptr 1]⟩)]
def ahp(k:Nat→al→Option (Int×aQ.D×Unit)):qB:=⟨fun U ad ae=>k 7 (bd [(0,aC 1),(3,aC 3),(4,aC 4)] (aH 1 aQ ch [] U++aH 3 aY .R [] ad++aH 4 aY .R [] ae) [aC 1]),fun U ad ae ai=>k 10 (bd [(0,aC 1),(3,aC 3),(4,aC 4),(5,aC 5)] (aH 1 aQ ch [] U++aH 3 aY .R [] ad++aH 4 aY .R [] ae++aH 5 I .R [2,1] ai) [aC 1]),fun U ad ae ai=>k 16 (bd [(0,aC 1),(3,aC 3),(4,aC 4),(5,aC 5)] (aH 1 aQ ch [] U++aH 3 aY .R [] ad++aH 4 aY .R [] ae++aH 5 I .R [2,1] ai) [aC 1]),fun U ad ae=>k 25 (bd [(0,aC 1),(3,aC 3),(4,aC 4)] (aH 1 aQ ch [] U++aH 3 aY .R [] ad++aH 4 aY .R [] ae) [aC 1])⟩
theorem ahq:Sound Tryz.prog 237 0 W9:=bW bk (fn:=Tryz.f237) (fns:=[(170,Hy),(171,AH),(205,nr),(268,AL),(269,HG),(270,x6),(271,x5),(272,HH),(273,Pb),(275,W8)]) ⟨OV,Hw,ov,HF,O9,AM,AK,O_,W4,ahn,trivial⟩ (by kernel_rfl) (by kernel_rfl) aho ahp U6 iP (fun k x=>Et k x.1) (by kernel_rfl) (fun _=>by kernel_rfl) (fun _=>rfl) (fun _ _=>by kernel_rfl) (fun _=>by kernel_rfl)
def q8:Entry:=⟨[.«mut» aQ ch ch,aI .bool],[.opt 0 1 I,aZ (.int .i64)],mh⟩
theorem sE:Sound Tryz.prog 278 0 q8:=b5 bk (fn:=Tryz.f278) (fns:=[(271,x5),(205,Hv)]) ⟨AK,OU,trivial⟩ (by kernel_rfl) (by kernel_rfl) fun _=>by kernel_rfl
def Pd:Entry:=⟨[.«mut» aQ ch ch,aI (.int .i64)],[.opt 0 1 I,aZ (.int .i64)],zU⟩
theorem W_:Sound Tryz.prog 276 0 Pd:=b5 bk (fn:=Tryz.f276) (fns:=[(278,q8),(279,x4)]) ⟨sE,AJ,trivial⟩ (by kernel_rfl) (by kernel_rfl) fun _=>by kernel_rfl
def Xa:Entry:=⟨[.«mut» aQ ch ch],[aZ aA],Ev⟩
theorem ahr:Sound Tryz.prog 238 0 Xa:=b5 bk (fn:=Tryz.f238) (fns:=[(176,sD),(276,Pd)]) ⟨vS,W_,trivial⟩ (by kernel_rfl) (by kernel_rfl) fun _=>by kernel_rfl
def Xb:Entry:=⟨[aI .str,aI (.int .i64)],[aZ .str],strings_Repeat⟩
theorem ahs:hK Tryz.prog 296 0 Xb:=rep_soundX
def Xc:Entry:=⟨[aI .str,aI (.int .i64)],[aZ .str],Ew⟩
theorem aht:Sound Tryz.prog 277 0 Xc:=b5 bk (fn:=Tryz.f277) (fns:=[(296,Xb)]) ⟨ahs,trivial⟩ (by kernel_rfl) (by kernel_rfl) fun _=>by kernel_rfl
def Xd:Entry:=⟨[.«mut» aQ ch ch],[aZ (.int .i64)],Ey⟩
def ahu:List (Nat×bz):=[(7,⟨[(0,.ptr 1),(3,.opt 2),(5,aJ)],aF 1 aQ ch [],[.ptr 1]⟩),(11,⟨[(0,.ptr 1),(3,.opt 2),(5,aJ)],aF 1 aQ ch [],[.ptr 1]⟩),(18,⟨[(0,.ptr 1),(3,.opt 2),(6,aJ)],aF 1 aQ ch [],[.ptr 1]⟩)]
def ahv(k:Nat→al→Option (Int×aQ.D×Unit)):sh:=⟨fun U ad ae=>k 7 (bd [(0,aC 1),(3,.opt 2 U),(5,aR ad)] (aH 1 aQ ch [] ae) [aC 1]),fun U ad ae=>k 11 (bd [(0,aC 1),(3,.opt 2 U),(5,aR ad)] (aH 1 aQ ch [] ae) [aC 1]),fun U ad ae=>k 18 (bd [(0,aC 1),(3,.opt 2 U),(6,eP ad)] (aH 1 aQ ch [] ae) [aC 1])⟩
theorem ahw:Sound Tryz.prog 239 0 Xd:=bW bk (fn:=Tryz.f239) (fns:=[(270,x6),(276,Pd),(277,Xc)]) ⟨AM,W_,aht,trivial⟩ (by kernel_rfl) (by kernel_rfl) ahu ahv U_ gn (fun k x=>Ex k x.1) (by kernel_rfl) (fun _=>by kernel_rfl) (fun _=>rfl) (fun _ _=>by kernel_rfl) (fun _=>by kernel_rfl)
def Xe:Entry:=⟨[.«mut» aQ ch ch],[aZ aA],Ez⟩
theorem ahx:Sound Tryz.prog 240 0 Xe:=b5 bk (fn:=Tryz.f240) (fns:=[(176,sD),(278,q8)]) ⟨vS,sE,trivial⟩ (by kernel_rfl) (by kernel_rfl) fun _=>by kernel_rfl
def Pe:Entry:=⟨[aI (.sl .str),aI .str],[aZ .str],strings_Join⟩
theorem Xf:hK Tryz.prog 280 0 Pe:=join_soundX
def HI:Entry:=⟨[aI (.sl (.int .i64))],[aZ .str],qD⟩
def ahy:List (Nat×bz):=[(3,⟨[(3,.cell (.ah 1)),(7,.cell (.bA (.int .i64) [])),(8,aJ),(9,aJ)],[(1,.row .str .R)],[.drop]⟩)]
def ahz(k:Nat→al→Option ((List UInt8)×Unit)):EA:=fun U ad ae ai=>k 3 (bd [(3,.aU (.ah 1 none)),(7,dg (.int .i64) U),(8,aR ad),(9,aR ae)] [(1,.row .str .R 0 ai)] [.aw])
theorem Pf:Sound Tryz.prog 246 0 HI:=bW bk (fn:=Tryz.f246) (fns:=[(210,O4),(280,Pe)]) ⟨Wy,Xf,trivial⟩ (by kernel_rfl) (by kernel_rfl) ahy ahz EB u2 (fun k x=>Va k x.1) (by kernel_rfl) (fun _=>by kernel_rfl) (fun _=>rfl) (fun _ _=>by kernel_rfl) (fun _=>by kernel_rfl)
def Xg:Entry:=⟨[.«mut» aQ ch ch],[aZ aA],zW⟩
def ahA:List (Nat×bz):=[(13,⟨[(2,.ptr 1),(7,.cell (.ah 2)),(73,.cell (.bA au [3])),(74,aJ),(75,aJ)],aF 1 aA .R []++[(2,.row .str .R),(3,.row I j_),(4,.var [.keep,.ah 3,.keep,.keep,.bA (.int .i64) [],.keep,.keep,.keep,.keep,.keep,.keep])],[.ptr 4]⟩)]
def ahB(k:Nat→al→Option (zV)):EC:=fun U ad ae ai ar aB=>k 13 (bd [(2,aC 1),(7,.aU (.ah 2 none)),(73,.aU (.bA au (nf [3]) none U)),(74,aR ad),(75,aR ae)] (aH 1 aA .R [] ai++[(2,.row .str .R 0 ar),(3,.row I j_ 0 aB.1.2.1),(4,.var 0 [.int .i64 aB.1.1,.ah 3 none,.int .i64 aB.2.1.1,.int .i64 aB.2.1.2.1,.bA (.int .i64) [] none aB.2.1.2.2.1,.int .i64 aB.2.2.1.1,.str aB.2.2.1.2.1,.str aB.2.2.1.2.2.1,.int .i64 aB.2.2.1.2.2.2.1,.int .i64 aB.2.2.1.2.2.2.2.1,.str aB.2.2.1.2.2.2.2.2.1])]) [aC 4])
theorem ahC:Sound Tryz.prog 241 0 Xg:=bW bk (fn:=Tryz.f241) (fns:=[(176,sD),(208,OY),(246,HI),(278,q8),(279,x4),(280,Pe)]) ⟨vS,Wk,Pf,sE,AJ,Xf,trivial⟩ (by kernel_rfl) (by kernel_rfl) ahA ahB EE qE (fun k x=>ED k x.1) (by kernel_rfl) (fun _=>by kernel_rfl) (fun _=>rfl) (fun _ _=>by kernel_rfl) (fun _=>by kernel_rfl)
def Xh:Entry:=⟨[fh af,aI I],[aZ (.int .i64)],Mz⟩
def ahD:List (Nat×bz):=[(5,⟨[(0,.c3 [] (pd af .R [] 0)),(5,aJ),(16,.cell (.bA au [])),(17,aJ),(18,aJ)],[],[.drop,.drop]⟩)]
def ahE(k:Nat→al→Option (Int×Unit)):EF:=fun U ad ae ai ar=>k 5 (bd [(0,.c3 (nf []) (aU af .R [] U 0) 0),(5,aR ad),(16,dg au ae),(17,aR ai),(18,aR ar)] [] [.aw,.aw])
theorem ahF:Sound Tryz.prog 281 0 Xh:=bW bk (fn:=Tryz.f281) (fns:=[(172,Hz),(274,Pc)]) ⟨OW,W6,trivial⟩ (by kernel_rfl) (by kernel_rfl) ahD ahE EH si (fun k x=>EG k x.1 x.2.1) (by kernel_rfl) (fun _=>by kernel_rfl) (fun _=>rfl) (fun _ _=>by kernel_rfl) (fun _=>by kernel_rfl)
def Xi:Entry:=⟨[.«mut» aQ ch ch],[aZ aA],zX⟩
theorem ahG:Sound Tryz.prog 242 0 Xi:=b5 bk (fn:=Tryz.f242) (fns:=[(119,iq),(176,sD),(246,HI),(278,q8),(281,Xh)]) ⟨iQ,vS,Pf,sE,ahF,trivial⟩ (by kernel_rfl) (by kernel_rfl) fun _=>by kernel_rfl
def Xj:Entry:=⟨[.«mut» aQ ch ch],[aZ (.int .i64)],EK⟩
def ahH:List (Nat×bz):=[(8,⟨[(0,.ptr 1),(3,.opt 2)],aF 1 aQ ch [],[.ptr 1]⟩)]
def ahI(k:Nat→al→Option (Int×aQ.D×Unit)):EI:=fun U ad=>k 8 (bd [(0,aC 1),(3,.opt 2 U)] (aH 1 aQ ch [] ad) [aC 1])
theorem ahJ:Sound Tryz.prog 243 0 Xj:=bW bk (fn:=Tryz.f243) (fns:=[(119,iq),(278,q8),(282,HE)]) ⟨iQ,sE,O5,trivial⟩ (by kernel_rfl) (by kernel_rfl) ahH ahI MC qF (fun k x=>EJ k x.1) (by kernel_rfl) (fun _=>by kernel_rfl) (fun _=>rfl) (fun _ _=>by kernel_rfl) (fun _=>by kernel_rfl)
def Xk:Entry:=⟨[.«mut» aQ ch ch],[aZ (.int .i64)],EN⟩
def ahK:List (Nat×bz):=[(8,⟨[(0,.ptr 1),(3,.opt 2)],aF 1 aQ ch [],[.ptr 1]⟩)]
def ahL(k:Nat→al→Option (Int×aQ.D×Unit)):EL:=fun U ad=>k 8 (bd [(0,aC 1),(3,.opt 2 U)] (aH 1 aQ ch [] ad) [aC 1])
theorem ahM:Sound Tryz.prog 244 0 Xk:=bW bk (fn:=Tryz.f244) (fns:=[(119,iq),(278,q8),(282,HE)]) ⟨iQ,sE,O5,trivial⟩ (by kernel_rfl) (by kernel_rfl) ahK ahL ME qG (fun k x=>EM k x.1) (by kernel_rfl) (fun _=>by kernel_rfl) (fun _=>rfl) (fun _ _=>by kernel_rfl) (fun _=>by kernel_rfl)
def Xl:Entry:=⟨[.«mut» aQ ch ch],[aZ (.int .i64)],EO⟩
theorem ahN:Sound Tryz.prog 245 0 Xl:=b5 bk (fn:=Tryz.f245) (fns:=[(119,iq),(278,q8),(279,x4)]) ⟨iQ,sE,AJ,trivial⟩ (by kernel_rfl) (by kernel_rfl) fun _=>by kernel_rfl
def Xm:Entry:=⟨[.«mut» aQ ch ch],[aZ (.int .i64)],ER⟩
theorem ahO:Sound Tryz.prog 247 0 Xm:=b5 bk (fn:=Tryz.f247) (fns:=[(119,iq),(270,x6),(278,q8)]) ⟨iQ,AM,sE,trivial⟩ (by kernel_rfl) (by kernel_rfl) fun _=>by kernel_rfl
def Xn:Entry:=⟨[.«mut» aQ ch ch],[aZ aA],ET⟩
def ahP:List (Nat×bz):=[(5,⟨[(0,.ptr 1),(2,.ptr 3)],aF 1 aQ ch []++aF 3 aA .R [],[.ptr 1]⟩),(6,⟨[(0,.ptr 1),(2,.ptr 3),(7,aJ)],aF 1 aQ ch []++aF 3 aA .R [],[.ptr 1]⟩),(8,⟨[(0,.ptr 1),(2,.ptr 3)],aF 1 aQ ch []++aF 3 aA .R [],[.ptr 1]⟩),(9,⟨[(0,.ptr 1),(2,.ptr 3),(7,aJ)],aF 1 aQ ch []++aF 3 aA .R [],[.ptr 1]⟩),(18,⟨[(0,.ptr 1),(2,.ptr 3)],aF 1 aQ ch []++aF 3 aA .R [],[.ptr 1]⟩),(19,⟨[(0,.ptr 1),(2,.ptr 3),(7,aJ)],aF 1 aQ ch []++aF 3 aA .R [],[.ptr 1]⟩),(24,⟨[(0,.ptr 1),(2,.ptr 3),(7,aJ)],aF 1 aQ ch []++aF 3 aA .R [],[.ptr 1]⟩)]
def ahQ(k:Nat→al→Option (j3)):nk:=⟨fun U ad=>k 5 (bd [(0,aC 1),(2,aC 3)] (aH 1 aQ ch [] U++aH 3 aA .R [] ad) [aC 1]),fun U ad ae=>k 6 (bd [(0,aC 1),(2,aC 3),(7,aR U)] (aH 1 aQ ch [] ad++aH 3 aA .R [] ae) [aC 1]),fun U ad=>k 8 (bd [(0,aC 1),(2,aC 3)] (aH 1 aQ ch [] U++aH 3 aA .R [] ad) [aC 1]),fun U ad ae=>k 9 (bd [(0,aC 1),(2,aC 3),(7,aR U)] (aH 1 aQ ch [] ad++aH 3 aA .R [] ae) [aC 1]),fun U ad=>k 18 (bd [(0,aC 1),(2,aC 3)] (aH 1 aQ ch [] U++aH 3 aA .R [] ad) [aC 1]),fun U ad ae=>k 19 (bd [(0,aC 1),(2,aC 3),(7,aR U)] (aH 1 aQ ch [] ad++aH 3 aA .R [] ae) [aC 1]),fun U ad ae=>k 24 (bd [(0,aC 1),(2,aC 3),(7,aR U)] (aH 1 aQ ch [] ad++aH 3 aA .R [] ae) [aC 1])⟩
theorem ahR:Sound Tryz.prog 212 0 Xn:=bW bk (fn:=Tryz.f212) (fns:=[(173,HA),(176,sD),(234,WW),(235,W5),(236,W7),(237,W9),(238,Xa),(239,Xd),(240,Xe),(241,Xg),(242,Xi),(243,Xj),(244,Xk),(245,Xl),(246,HI),(247,Xm)]) ⟨OX,vS,ahb,ahl,ahm,ahq,ahr,ahw,ahx,ahC,ahG,ahJ,ahM,ahN,Pf,ahO,trivial⟩ (by kernel_rfl) (by kernel_rfl) ahP ahQ Ve MI (fun k x=>ES k x.1) (by kernel_rfl) (fun _=>by kernel_rfl) (fun _=>rfl) (fun _ _=>by kernel_rfl) (fun _=>by kernel_rfl)
def Xo:Entry:=⟨[aI af,aI aP,aI aN],[ro af,aZ aA],zY⟩
theorem ahS:Sound Tryz.prog 180 0 Xo:=b5 bk (fn:=Tryz.f180) (fns:=[(123,O0),(127,HB),(176,sD),(211,AI),(212,Xn)]) ⟨Wq,O2,vS,HD,ahR,trivial⟩ (by kernel_rfl) (by kernel_rfl) fun _=>by kernel_rfl
def Xp:Entry:=⟨[Lg aM,aI (.int .i64),aI aN],[aZ aA],EV⟩
def ahT:List (Nat×bz):=[(10,⟨[(0,.ptr 1),(5,.ptr 5),(6,.ptr 6),(9,.ptr 7)],aF 1 aM aM.own []++aF 5 aN .R []++aF 6 aA .R []++aF 7 aP aP.own [],[.ptr 1,.drop,.drop]⟩),(12,⟨[(0,.ptr 1),(5,.ptr 5),(6,.ptr 6),(9,.ptr 7)],aF 1 aM aM.own []++aF 5 aN .R []++aF 6 aA .R []++aF 7 aP aP.own [],[.ptr 1,.drop,.drop]⟩),(19,⟨[(0,.ptr 1),(5,.ptr 5),(6,.ptr 6),(9,.ptr 7)],aF 1 aM aM.own []++aF 5 aN .R []++aF 6 aA .R []++aF 7 aP aP.own [],[.ptr 1,.drop,.drop]⟩)]
def ahU(k:Nat→al→Option (qH)):sj:=⟨fun U ad ae ai=>k 10 (bd [(0,aC 1),(5,aC 5),(6,aC 6),(9,aC 7)] (aH 1 aM aM.own [] U++aH 5 aN .R [] ad++aH 6 aA .R [] ae++aH 7 aP aP.own [] ai) [aC 1,.aw,.aw]),fun U ad ae ai=>k 12 (bd [(0,aC 1),(5,aC 5),(6,aC 6),(9,aC 7)] (aH 1 aM aM.own [] U++aH 5 aN .R [] ad++aH 6 aA .R [] ae++aH 7 aP aP.own [] ai) [aC 1,.aw,.aw]),fun U ad ae ai=>k 19 (bd [(0,aC 1),(5,aC 5),(6,aC 6),(9,aC 7)] (aH 1 aM aM.own [] U++aH 5 aN .R [] ad++aH 6 aA .R [] ae++aH 7 aP aP.own [] ai) [aC 1,.aw,.aw])⟩
theorem ahV:Sound Tryz.prog 126 0 Xp:=bW bk (fn:=Tryz.f126) (fns:=[(127,HB),(128,HC),(176,sD),(177,Ww),(178,Wx),(179,Wz),(180,Xo)]) ⟨O2,O3,vS,agx,agy,agD,ahS,trivial⟩ (by kernel_rfl) (by kernel_rfl) ahT ahU Vg lD (fun k x=>EU k x.1 x.2.1 x.2.2.1) (by kernel_rfl) (fun _=>by kernel_rfl) (fun _=>rfl) (fun _ _=>by kernel_rfl) (fun _=>by kernel_rfl)
def Xq:Entry:=⟨[Lg aM,aI (.int .i64),aI (.int .i64),aI aN,aI (.int .i64)],[aZ aA,aZ .bool],EX⟩
def ahW:List (Nat×bz):=[(10,⟨[(0,.ptr 1),(1,aJ),(2,aJ),(4,aJ),(8,.ptr 5),(10,.ptr 6),(13,.ptr 7),(14,aJ)],aF 1 aM aM.own []++aF 5 aN .R []++aF 6 aA .R []++aF 7 aA .R [],[.ptr 1,.drop,.drop,.drop,.drop]⟩),(11,⟨[(0,.ptr 1),(1,aJ),(2,aJ),(4,aJ),(8,.ptr 5),(10,.ptr 6),(13,.ptr 7)],aF 1 aM aM.own []++aF 5 aN .R []++aF 6 aA .R []++aF 7 aA .R [],[.ptr 1,.drop,.drop,.drop,.drop]⟩),(12,⟨[(0,.ptr 1),(1,aJ),(2,aJ),(4,aJ),(10,.ptr 5),(13,.ptr 6)],aF 1 aM aM.own []++aF 5 aA .R []++aF 6 aA .R [],[.ptr 1,.drop,.drop,.drop,.drop]⟩)]
def ahX(k:Nat→al→Option (mj)):qI:=⟨fun U ad ae ai ar aB aW bl=>k 10 (bd [(0,aC 1),(1,aR U),(2,aR ad),(4,aR ae),(8,aC 5),(10,aC 6),(13,aC 7),(14,gB ai)] (aH 1 aM aM.own [] ar++aH 5 aN .R [] aB++aH 6 aA .R [] aW++aH 7 aA .R [] bl) [aC 1,.aw,.aw,.aw,.aw]),fun U ad ae ai ar aB aW=>k 11 (bd [(0,aC 1),(1,aR U),(2,aR ad),(4,aR ae),(8,aC 5),(10,aC 6),(13,aC 7)] (aH 1 aM aM.own [] ai++aH 5 aN .R [] ar++aH 6 aA .R [] aB++aH 7 aA .R [] aW) [aC 1,.aw,.aw,.aw,.aw]),fun U ad ae ai ar aB=>k 12 (bd [(0,aC 1),(1,aR U),(2,aR ad),(4,aR ae),(10,aC 5),(13,aC 6)] (aH 1 aM aM.own [] ai++aH 5 aA .R [] ar++aH 6 aA .R [] aB) [aC 1,.aw,.aw,.aw,.aw])⟩
theorem ahY:Sound Tryz.prog 63 0 Xq:=bW bk (fn:=Tryz.f63) (fns:=[(119,iq),(124,Ws),(125,Wu),(126,Xp),(127,HB),(128,HC),(129,O1)]) ⟨iQ,agq,agt,ahV,O2,O3,Wt,trivial⟩ (by kernel_rfl) (by kernel_rfl) ahW ahX Vi qJ (fun k x=>EW k x.1 x.2.1 x.2.2.1 x.2.2.2.1 x.2.2.2.2.1) (by kernel_rfl) (fun _=>by kernel_rfl) (fun _=>rfl) (fun _ _=>by kernel_rfl) (fun _=>by kernel_rfl)
def Xr:Entry:=⟨[aI aM,aI (.int .i64),aI (.int .i64),aI aN,aI (.int .i64)],[ro aM,aZ aA,aZ .bool],lE⟩
theorem ahZ:Sound Tryz.prog 12 0 Xr:=b5 bk (fn:=Tryz.f12) (fns:=[(61,Wp),(62,Wr),(63,Xq)]) ⟨agk,agn,ahY,trivial⟩ (by kernel_rfl) (by kernel_rfl) fun _=>by kernel_rfl
def j':Entry:=⟨[aI (.int .i64),aI (.int .i64),aI (.int .i64)],[aZ .bool],cS⟩
theorem kv:Sound Tryz.prog 67 0 j':=b5 bk (fn:=Tryz.f67) (fns:=[]) trivial (by kernel_rfl) (by kernel_rfl) fun _=>by kernel_rfl
def HJ:Entry:=⟨[aI (.int .u8)],[aZ .bool],zZ⟩
theorem Pg:Sound Tryz.prog 222 0 HJ:=b5 bk (fn:=Tryz.f222) (fns:=[]) trivial (by kernel_rfl) (by kernel_rfl) fun _=>by kernel_rfl
def Ph:Entry:=⟨[aI .str],[aZ .bool],z1⟩
def ah0:List (Nat×bz):=[(4,⟨[(0,aJ),(3,aJ)],[],[.drop]⟩)]
def ah1(k:Nat→al→Option (Bool×Unit)):EY:=fun U ad=>k 4 (bd [(0,eP U),(3,aR ad)] [] [.aw])
theorem Xs:Sound Tryz.prog 185 0 Ph:=bW bk (fn:=Tryz.f185) (fns:=[(67,j'),(222,HJ)]) ⟨kv,Pg,trivial⟩ (by kernel_rfl) (by kernel_rfl) ah0 ah1 E0 u3 (fun k x=>EZ k x.1) (by kernel_rfl) (fun _=>by kernel_rfl) (fun _=>rfl) (fun _ _=>by kernel_rfl) (fun _=>by kernel_rfl)
def Xt:Entry:=⟨[aI .str],[aZ .bool],MR⟩
def ah2:List (Nat×bz):=[(4,⟨[(0,aJ),(3,aJ)],[],[.drop]⟩)]
def ah3(k:Nat→al→Option (Bool×Unit)):E1:=fun U ad=>k 4 (bd [(0,eP U),(3,aR ad)] [] [.aw])
theorem ah4:Sound Tryz.prog 186 0 Xt:=bW bk (fn:=Tryz.f186) (fns:=[(67,j'),(222,HJ)]) ⟨kv,Pg,trivial⟩ (by kernel_rfl) (by kernel_rfl) ah2 ah3 E3 sk (fun k x=>E2 k x.1) (by kernel_rfl) (fun _=>by kernel_rfl) (fun _=>rfl) (fun _ _=>by kernel_rfl) (fun _=>by kernel_rfl)
def q9:Entry:=⟨[aI af,aI (.int .i64)],[aZ (.int .i64)],kR⟩
def ah5:List (Nat×bz):=[(2,⟨[(1,aJ),(2,.ptr 1),(5,aJ)],aF 1 af .R [],[.drop,.drop]⟩)]
def ah6(k:Nat→al→Option (Int×Unit)):E4:=fun U ad ae=>k 2 (bd [(1,aR U),(2,aC 1),(5,aR ad)] (aH 1 af .R [] ae) [.aw,.aw])
theorem sF:Sound Tryz.prog 187 0 q9:=bW bk (fn:=Tryz.f187) (fns:=[]) trivial (by kernel_rfl) (by kernel_rfl) ah5 ah6 E6 u4 (fun k x=>E5 k x.1 x.2.1) (by kernel_rfl) (fun _=>by kernel_rfl) (fun _=>rfl) (fun _ _=>by kernel_rfl) (fun _=>by kernel_rfl)
def Xu:Entry:=⟨[aI af,aI I],[aZ .bool],E8⟩
def ah7:List (Nat×bz):=[(4,⟨[(2,.ptr 1),(3,.ptr 2),(5,aJ)],aF 1 af .R []++aF 2 I .R [],[.drop,.drop]⟩),(13,⟨[(2,.ptr 1),(3,.ptr 2),(6,aJ)],aF 1 af .R []++aF 2 I .R [],[.drop,.drop]⟩)]
def ah8(k:Nat→al→Option (Bool×Unit)):u5:=⟨fun U ad ae=>k 4 (bd [(2,aC 1),(3,aC 2),(5,gB U)] (aH 1 af .R [] ad++aH 2 I .R [] ae) [.aw,.aw]),fun U ad ae=>k 13 (bd [(2,aC 1),(3,aC 2),(6,aR U)] (aH 1 af .R [] ad++aH 2 I .R [] ae) [.aw,.aw])⟩
theorem ah9:Sound Tryz.prog 135 0 Xu:=bW bk (fn:=Tryz.f135) (fns:=[(67,j'),(185,Ph),(186,Xt),(187,q9)]) ⟨kv,Xs,ah4,sF,trivial⟩ (by kernel_rfl) (by kernel_rfl) ah7 ah8 Vk qK (fun k x=>E7 k x.1 x.2.1) (by kernel_rfl) (fun _=>by kernel_rfl) (fun _=>rfl) (fun _ _=>by kernel_rfl) (fun _=>by kernel_rfl)
def Pj:Entry:=⟨[aI af,aI (.int .i64)],[ro (.sl .bool)],E'⟩
def ah_:List (Nat×bz):=[(8,⟨[(2,.ptr 1),(5,.cell (.ah 2)),(6,.cell (.ah 3)),(8,aJ)],aF 1 af .R []++[(2,.row .bool .R),(3,.row .bool .R)],[.drop,.drop]⟩),(11,⟨[(2,.ptr 1),(5,.cell (.ah 2)),(6,.cell (.ah 3)),(8,aJ),(9,aJ)],aF 1 af .R []++[(2,.row .bool .R),(3,.row .bool .R)],[.drop,.drop]⟩),(15,⟨[(2,.ptr 1),(5,.cell (.ah 2)),(6,.cell (.ah 3)),(8,aJ),(9,aJ),(10,aJ)],aF 1 af .R []++[(2,.row .bool .R),(3,.row .bool .R)],[.drop,.drop]⟩)]
def ah'(k:Nat→al→Option ((List Bool)×Unit)):qL:=⟨fun U ad ae ai=>k 8 (bd [(2,aC 1),(5,.aU (.ah 2 none)),(6,.aU (.ah 3 none)),(8,aR U)] (aH 1 af .R [] ad++[(2,.row .bool .R 0 ae),(3,.row .bool .R 0 ai)]) [.aw,.aw]),fun U ad ae ai ar=>k 11 (bd [(2,aC 1),(5,.aU (.ah 2 none)),(6,.aU (.ah 3 none)),(8,aR U),(9,aR ad)] (aH 1 af .R [] ae++[(2,.row .bool .R 0 ai),(3,.row .bool .R 0 ar)]) [.aw,.aw]),fun U ad ae ai ar aB=>k 15 (bd [(2,aC 1),(5,.aU (.ah 2 none)),(6,.aU (.ah 3 none)),(8,aR U),(9,aR ad),(10,aR ae)] (aH 1 af .R [] ai++[(2,.row .bool .R 0 ar),(3,.row .bool .R 0 aB)]) [.aw,.aw])⟩
theorem Xv:Sound Tryz.prog 136 0 Pj:=bW bk (fn:=Tryz.f136) (fns:=[(187,q9)]) ⟨sF,trivial⟩ (by kernel_rfl) (by kernel_rfl) ah_ ah' Vl j5 (fun k x=>E_ k x.1 x.2.1) (by kernel_rfl) (fun _=>by kernel_rfl) (fun _=>rfl) (fun _ _=>by kernel_rfl) (fun _=>by kernel_rfl)
def HK:Entry:=⟨[aI af,aI (.int .i64)],[aZ (.int .i64)],Aa⟩
def aia:List (Nat×bz):=[(3,⟨[(1,aJ),(2,.ptr 1),(5,aJ),(6,aJ)],aF 1 af .R [],[.drop,.drop]⟩),(6,⟨[(1,aJ),(2,.ptr 1),(5,aJ),(6,aJ),(7,aJ)],aF 1 af .R [],[.drop,.drop]⟩)]
def aib(k:Nat→al→Option (Int×Unit)):u7:=⟨fun U ad ae ai=>k 3 (bd [(1,aR U),(2,aC 1),(5,aR ad),(6,aR ae)] (aH 1 af .R [] ai) [.aw,.aw]),fun U ad ae ai ar=>k 6 (bd [(1,aR U),(2,aC 1),(5,aR ad),(6,aR ae),(7,aR ai)] (aH 1 af .R [] ar) [.aw,.aw])⟩
theorem Pk:Sound Tryz.prog 137 0 HK:=bW bk (fn:=Tryz.f137) (fns:=[]) trivial (by kernel_rfl) (by kernel_rfl) aia aib Vm pj (fun k x=>Fa k x.1 x.2.1) (by kernel_rfl) (fun _=>by kernel_rfl) (fun _=>rfl) (fun _ _=>by kernel_rfl) (fun _=>by kernel_rfl)
def HL:Entry:=⟨[aI af],[aZ (.int .i64)],Ab⟩
def aic:List (Nat×bz):=[(3,⟨[(1,.ptr 1),(3,aJ),(4,aJ)],aF 1 af .R [],[.drop]⟩)]
def aid(k:Nat→al→Option (Int×Unit)):Fb:=fun U ad ae=>k 3 (bd [(1,aC 1),(3,aR U),(4,aR ad)] (aH 1 af .R [] ae) [.aw])
theorem Pl:Sound Tryz.prog 138 0 HL:=bW bk (fn:=Tryz.f138) (fns:=[]) trivial (by kernel_rfl) (by kernel_rfl) aic aid Fe u9 (fun k x=>Fc k x.1) (by kernel_rfl) (fun _=>by kernel_rfl) (fun _=>rfl) (fun _ _=>by kernel_rfl) (fun _=>by kernel_rfl)
def Pm:Entry:=⟨[aI af,aI (.int .i64)],[aZ (.int .i64),aZ (.int .i64)],Ac⟩
def aie:List (Nat×bz):=[(5,⟨[(2,.ptr 1),(6,.cell (.ah 2)),(7,aJ),(8,aJ),(9,aJ)],aF 1 af .R []++[(2,.row .bool .R)],[.drop,.drop]⟩)]
def aif(k:Nat→al→Option (Int×Int×Unit)):Ff:=fun U ad ae ai ar=>k 5 (bd [(2,aC 1),(6,.aU (.ah 2 none)),(7,aR U),(8,aR ad),(9,aR ae)] (aH 1 af .R [] ai++[(2,.row .bool .R 0 ar)]) [.aw,.aw])
theorem Xw:Sound Tryz.prog 188 0 Pm:=bW bk (fn:=Tryz.f188) (fns:=[(136,Pj)]) ⟨Xv,trivial⟩ (by kernel_rfl) (by kernel_rfl) aie aif Fh u_ (fun k x=>Fg k x.1 x.2.1) (by kernel_rfl) (fun _=>by kernel_rfl) (fun _=>rfl) (fun _ _=>by kernel_rfl) (fun _=>by kernel_rfl)
def Pn:Entry:=⟨[aI af],[aZ .bool],Fj⟩
def aih:List (Nat×bz):=[(2,⟨[(1,.ptr 1),(3,aJ)],aF 1 af .R [],[.drop]⟩),(6,⟨[(1,.ptr 1),(3,aJ),(4,.ptr 2)],aF 1 af .R []++aF 2 I .R [],[.drop]⟩)]
def aii(k:Nat→al→Option (Bool×Unit)):u':=⟨fun U ad=>k 2 (bd [(1,aC 1),(3,aR U)] (aH 1 af .R [] ad) [.aw]),fun U ad ae=>k 6 (bd [(1,aC 1),(3,aR U),(4,aC 2)] (aH 1 af .R [] ad++aH 2 I .R [] ae) [.aw])⟩
theorem Xx:Sound Tryz.prog 139 0 Pn:=bW bk (fn:=Tryz.f139) (fns:=[(188,Pm)]) ⟨Xw,trivial⟩ (by kernel_rfl) (by kernel_rfl) aih aii Vn j6 (fun k x=>Fi k x.1) (by kernel_rfl) (fun _=>by kernel_rfl) (fun _=>rfl) (fun _ _=>by kernel_rfl) (fun _=>by kernel_rfl)
def Xy:Entry:=⟨[aI af],[aZ .bool],MU⟩
def aij:List (Nat×bz):=[(4,⟨[(1,.ptr 1),(3,aJ)],aF 1 af .R [],[.drop]⟩),(11,⟨[(1,.ptr 1),(5,.cell (.ah 2)),(6,aJ)],aF 1 af .R []++[(2,.row .bool .R)],[.drop]⟩)]
def aik(k:Nat→al→Option (Bool×Unit)):va:=⟨fun U ad=>k 4 (bd [(1,aC 1),(3,aR U)] (aH 1 af .R [] ad) [.aw]),fun U ad ae=>k 11 (bd [(1,aC 1),(5,.aU (.ah 2 none)),(6,aR U)] (aH 1 af .R [] ad++[(2,.row .bool .R 0 ae)]) [.aw])⟩
theorem ail:Sound Tryz.prog 66 0 Xy:=bW bk (fn:=Tryz.f66) (fns:=[(67,j'),(135,Xu),(136,Pj),(137,HK),(138,HL),(139,Pn)]) ⟨kv,ah9,Xv,Pk,Pl,Xx,trivial⟩ (by kernel_rfl) (by kernel_rfl) aij aik Vo nm (fun k x=>Fk k x.1) (by kernel_rfl) (fun _=>by kernel_rfl) (fun _=>rfl) (fun _ _=>by kernel_rfl) (fun _=>by kernel_rfl)
def Po:Entry:=⟨[aI (.sl aE)],[aZ .bool],Fp⟩
def aim:List (Nat×bz):=[(4,⟨[(0,.cell (.bA aE [])),(3,aJ)],[],[.drop]⟩)]
def ain(k:Nat→al→Option (Bool×Unit)):Fl:=fun U ad=>k 4 (bd [(0,dg aE U),(3,aR ad)] [] [.aw])
theorem Xz:Sound Tryz.prog 68 0 Po:=bW bk (fn:=Tryz.f68) (fns:=[(67,j')]) ⟨kv,trivial⟩ (by kernel_rfl) (by kernel_rfl) aim ain Fo vf (fun k x=>Fm k x.1) (by kernel_rfl) (fun _=>by kernel_rfl) (fun _=>rfl) (fun _ _=>by kernel_rfl) (fun _=>by kernel_rfl)
def XA:Entry:=⟨[aI aA],[aZ .bool],Fq⟩
theorem aio:Sound Tryz.prog 69 0 XA:=b5 bk (fn:=Tryz.f69) (fns:=[(67,j')]) ⟨kv,trivial⟩ (by kernel_rfl) (by kernel_rfl) fun _=>by kernel_rfl
def XB:Entry:=⟨[aI aM],[aZ .bool],MW⟩
def aip:List (Nat×bz):=[(4,⟨[(1,.ptr 1),(3,aJ)],aF 1 aM .R [],[.drop]⟩)]
def aiq(k:Nat→al→Option (Bool×Unit)):Fs:=fun U ad=>k 4 (bd [(1,aC 1),(3,aR U)] (aH 1 aM .R [] ad) [.aw])
theorem air:Sound Tryz.prog 14 0 XB:=bW bk (fn:=Tryz.f14) (fns:=[(66,Xy),(67,j'),(68,Po),(69,XA)]) ⟨ail,kv,Xz,aio,trivial⟩ (by kernel_rfl) (by kernel_rfl) aip aiq Fu sm (fun k x=>Ft k x.1) (by kernel_rfl) (fun _=>by kernel_rfl) (fun _=>rfl) (fun _ _=>by kernel_rfl) (fun _=>by kernel_rfl)
def Pp:Entry:=⟨[aI aM,aI (.int .i64)],[aZ (.int .i64),aZ .bool],Fw⟩
def ais:List (Nat×bz):=[(2,⟨[(1,aJ),(2,.ptr 1),(6,aJ)],aF 1 aM .R [],[.drop,.drop]⟩)]
def ait(k:Nat→al→Option (Int×Bool×Unit)):Fv:=fun U ad ae=>k 2 (bd [(1,aR U),(2,aC 1),(6,aR ad)] (aH 1 aM .R [] ae) [.aw,.aw])
theorem XC:Sound Tryz.prog 116 0 Pp:=bW bk (fn:=Tryz.f116) (fns:=[]) trivial (by kernel_rfl) (by kernel_rfl) ais ait xS xT (fun k x=>Vp k x.1 x.2.1) (by kernel_rfl) (fun _=>by kernel_rfl) (fun _=>rfl) (fun _ _=>by kernel_rfl) (fun _=>by kernel_rfl)
def XD:Entry:=⟨[aI aM,aI (.int .i64)],[aZ aO],MY⟩
theorem aiu:Sound Tryz.prog 57 0 XD:=b5 bk (fn:=Tryz.f57) (fns:=[(116,Pp)]) ⟨XC,trivial⟩ (by kernel_rfl) (by kernel_rfl) fun _=>by kernel_rfl
def XE:Entry:=⟨[aI aM],[aZ (.int .i64)],MZ⟩
def aiv:List (Nat×bz):=[(3,⟨[(1,.ptr 1),(3,aJ),(4,aJ)],aF 1 aM .R [],[.drop]⟩),(8,⟨[(1,.ptr 1),(3,aJ),(5,aJ)],aF 1 aM .R [],[.drop]⟩)]
def aiw(k:Nat→al→Option (Int×Unit)):vg:=⟨fun U ad ae=>k 3 (bd [(1,aC 1),(3,aR U),(4,aR ad)] (aH 1 aM .R [] ae) [.aw]),fun U ad ae=>k 8 (bd [(1,aC 1),(3,aR U),(5,aR ad)] (aH 1 aM .R [] ae) [.aw])⟩
theorem aix:Sound Tryz.prog 130 0 XE:=bW bk (fn:=Tryz.f130) (fns:=[]) trivial (by kernel_rfl) (by kernel_rfl) aiv aiw Vr nn (fun k x=>Vq k x.1) (by kernel_rfl) (fun _=>by kernel_rfl) (fun _=>rfl) (fun _ _=>by kernel_rfl) (fun _=>by kernel_rfl)
def HM:Entry:=⟨[aI aN],[aZ .bool],Af⟩
def aiy:List (Nat×bz):=[(5,⟨[(1,.ptr 1)],aF 1 aN .R [],[.drop]⟩)]
def aiz(k:Nat→al→Option (Bool×Unit)):Fz:=fun U=>k 5 (bd [(1,aC 1)] (aH 1 aN .R [] U) [.aw])
theorem Pq:Sound Tryz.prog 132 0 HM:=bW bk (fn:=Tryz.f132) (fns:=[(67,j')]) ⟨kv,trivial⟩ (by kernel_rfl) (by kernel_rfl) aiy aiz M0 Ae (fun k x=>FA k x.1) (by kernel_rfl) (fun _=>by kernel_rfl) (fun _=>rfl) (fun _ _=>by kernel_rfl) (fun _=>by kernel_rfl)
def HN:Entry:=⟨[aI (.int .i64)],[aZ .bool],Ag⟩
theorem Pr:Sound Tryz.prog 133 0 HN:=b5 bk (fn:=Tryz.f133) (fns:=[]) trivial (by kernel_rfl) (by kernel_rfl) fun _=>by kernel_rfl
def XF:Entry:=⟨[aI (.int .i64)],[ro aP],M4⟩
theorem aiA:Sound Tryz.prog 181 0 XF:=b5 bk (fn:=Tryz.f181) (fns:=[]) trivial (by kernel_rfl) (by kernel_rfl) fun _=>by kernel_rfl
def XG:Entry:=⟨[aI (.int .i64)],[aZ (.int .i64)],M6⟩
theorem aiB:Sound Tryz.prog 213 0 XG:=b5 bk (fn:=Tryz.f213) (fns:=[(67,j'),(133,HN)]) ⟨kv,Pr,trivial⟩ (by kernel_rfl) (by kernel_rfl) fun _=>by kernel_rfl
def XH:Entry:=⟨[aI (.int .i64),aI (.int .i64)],[aZ (.int .i64),aZ .bool],M8⟩
theorem aiC:Sound Tryz.prog 182 0 XH:=b5 bk (fn:=Tryz.f182) (fns:=[(213,XG)]) ⟨aiB,trivial⟩ (by kernel_rfl) (by kernel_rfl) fun _=>by kernel_rfl
def Ps:Entry:=⟨[aI (.int .i64)],[aZ .str],eY⟩
def aiD:List (Nat×bz):=[(5,⟨[(0,aJ),(3,aJ),(4,aJ)],[],[.drop]⟩)]
def aiE(k:Nat→al→Option ((List UInt8)×Unit)):FB:=fun U ad ae=>k 5 (bd [(0,aR U),(3,eP ad),(4,gB ae)] [] [.aw])
theorem XI:Sound Tryz.prog 214 0 Ps:=bW bk (fn:=Tryz.f214) (fns:=[]) trivial (by kernel_rfl) (by kernel_rfl) aiD aiE Ah pk (fun k x=>Vs k x.1) (by kernel_rfl) (fun _=>by kernel_rfl) (fun _=>rfl) (fun _ _=>by kernel_rfl) (fun _=>by kernel_rfl)
def XJ:Entry:=⟨[aI (.sl aE),aI (.int .i64)],[aZ .str],M_⟩
def aiF:List (Nat×bz):=[(5,⟨[(0,.cell (.bA aE [])),(1,aJ),(5,aJ),(6,aJ)],[],[.drop,.drop]⟩),(9,⟨[(0,.cell (.bA aE [])),(1,aJ),(5,aJ),(6,aJ)],[],[.drop,.drop]⟩)]
def aiG(k:Nat→al→Option ((List UInt8)×Unit)):vh:=⟨fun U ad ae ai=>k 5 (bd [(0,dg aE U),(1,aR ad),(5,eP ae),(6,aR ai)] [] [.aw,.aw]),fun U ad ae ai=>k 9 (bd [(0,dg aE U),(1,aR ad),(5,eP ae),(6,aR ai)] [] [.aw,.aw])⟩
theorem aiH:Sound Tryz.prog 183 0 XJ:=bW bk (fn:=Tryz.f183) (fns:=[(68,Po),(214,Ps)]) ⟨Xz,XI,trivial⟩ (by kernel_rfl) (by kernel_rfl) aiF aiG Vt pn (fun k x=>FC k x.1 x.2.1) (by kernel_rfl) (fun _=>by kernel_rfl) (fun _=>rfl) (fun _ _=>by kernel_rfl) (fun _=>by kernel_rfl)
def sG:Entry:=⟨[aI af],[.val af (.S (.cons .R (.cons (.O .R) .nil)))],pq⟩
def aiI:List (Nat×bz):=[(3,⟨[(1,.ptr 1),(2,.ptr 2),(3,.ptr 4),(4,aJ)],aF 1 af .R []++aF 2 af af.own []++aF 4 af af.own [],[.drop]⟩)]
def aiJ(k:Nat→al→Option (af.D×Unit)):xU:=fun U ad ae ai=>k 3 (bd [(1,aC 1),(2,aC 2),(3,aC 4),(4,aR U)] (aH 1 af .R [] ad++aH 2 af af.own [] ae++aH 4 af af.own [] ai) [.aw])
theorem vT:Sound Tryz.prog 134 0 sG:=bW bk (fn:=Tryz.f134) (fns:=[]) trivial (by kernel_rfl) (by kernel_rfl) aiI aiJ FF vi (fun k x=>FE k x.1) (by kernel_rfl) (fun _=>by kernel_rfl) (fun _=>rfl) (fun _ _=>by kernel_rfl) (fun _=>by kernel_rfl)
def Pt:Entry:=⟨[aI .str],[aZ .bool],FJ⟩
def aiK:List (Nat×bz):=[(4,⟨[(0,aJ),(3,aJ)],[],[.drop]⟩)]
def aiL(k:Nat→al→Option (Bool×Unit)):FG:=fun U ad=>k 4 (bd [(0,eP U),(3,aR ad)] [] [.aw])
theorem XK:Sound Tryz.prog 283 0 Pt:=bW bk (fn:=Tryz.f283) (fns:=[(67,j'),(222,HJ)]) ⟨kv,Pg,trivial⟩ (by kernel_rfl) (by kernel_rfl) aiK aiL FI vj (fun k x=>FH k x.1) (by kernel_rfl) (fun _=>by kernel_rfl) (fun _=>rfl) (fun _ _=>by kernel_rfl) (fun _=>by kernel_rfl)
def HO:Entry:=⟨[aI aP],[aZ .bool],Aj⟩
def aiM:List (Nat×bz):=[(4,⟨[(1,.ptr 1),(3,aJ)],aF 1 aP .R [],[.drop]⟩)]
def aiN(k:Nat→al→Option (Bool×Unit)):FK:=fun U ad=>k 4 (bd [(1,aC 1),(3,aR U)] (aH 1 aP .R [] ad) [.aw])
theorem Pu:Sound Tryz.prog 285 0 HO:=bW bk (fn:=Tryz.f285) (fns:=[(67,j')]) ⟨kv,trivial⟩ (by kernel_rfl) (by kernel_rfl) aiM aiN FM vk (fun k x=>FL k x.1) (by kernel_rfl) (fun _=>by kernel_rfl) (fun _=>rfl) (fun _ _=>by kernel_rfl) (fun _=>by kernel_rfl)
def Pv:Entry:=⟨[aI aP,aI (.int .i64)],[aZ .bool],vm⟩
def aiO:List (Nat×bz):=[(5,⟨[(1,aJ),(2,.ptr 1),(5,aJ),(6,aJ)],aF 1 aP .R [],[.drop,.drop]⟩)]
def aiP(k:Nat→al→Option (Bool×Unit)):FN:=fun U ad ae ai=>k 5 (bd [(1,aR U),(2,aC 1),(5,gB ad),(6,aR ae)] (aH 1 aP .R [] ai) [.aw,.aw])
theorem XL:Sound Tryz.prog 260 0 Pv:=bW bk (fn:=Tryz.f260) (fns:=[(285,HO)]) ⟨Pu,trivial⟩ (by kernel_rfl) (by kernel_rfl) aiO aiP FP vl (fun k x=>FO k x.1 x.2.1) (by kernel_rfl) (fun _=>by kernel_rfl) (fun _=>rfl) (fun _ _=>by kernel_rfl) (fun _=>by kernel_rfl)
def sH:Entry:=⟨[aI aP,aI I,aI (.int .i64)],[aZ .bool],j7⟩
theorem vU:Sound Tryz.prog 250 0 sH:=b5 bk (fn:=Tryz.f250) (fns:=[(67,j'),(260,Pv),(285,HO)]) ⟨kv,XL,Pu,trivial⟩ (by kernel_rfl) (by kernel_rfl) fun _=>by kernel_rfl
def Pw:Entry:=⟨[aI af,aI (.int .i64)],[aZ (.int .i64)],FR⟩
def aiQ:List (Nat×bz):=[(2,⟨[(1,aJ),(2,.ptr 1),(5,aJ)],aF 1 af .R [],[.drop,.drop]⟩),(5,⟨[(1,aJ),(2,.ptr 1),(5,aJ),(6,aJ)],aF 1 af .R [],[.drop,.drop]⟩)]
def aiR(k:Nat→al→Option (Int×Unit)):vn:=⟨fun U ad ae=>k 2 (bd [(1,aR U),(2,aC 1),(5,aR ad)] (aH 1 af .R [] ae) [.aw,.aw]),fun U ad ae ai=>k 5 (bd [(1,aR U),(2,aC 1),(5,aR ad),(6,aR ae)] (aH 1 af .R [] ai) [.aw,.aw])⟩
theorem XM:Sound Tryz.prog 287 0 Pw:=bW bk (fn:=Tryz.f287) (fns:=[]) trivial (by kernel_rfl) (by kernel_rfl) aiQ aiR Vx ku (fun k x=>FQ k x.1 x.2.1) (by kernel_rfl) (fun _=>by kernel_rfl) (fun _=>rfl) (fun _ _=>by kernel_rfl) (fun _=>by kernel_rfl)
def XN:Entry:=⟨[aI .str],[ro (.sl .str)],Am⟩
def aiS:List (Nat×bz):=[(4,⟨[(0,aJ),(3,.cell (.ah 1)),(4,aJ),(5,aJ)],[(1,.row .str .R)],[.drop]⟩)]
def aiT(k:Nat→al→Option (Ak)):FT:=fun U ad ae ai=>k 4 (bd [(0,eP U),(3,.aU (.ah 1 none)),(4,aR ad),(5,aR ae)] [(1,.row .str .R 0 ai)] [.aw])
theorem aiU:Sound Tryz.prog 300 0 XN:=bW bk (fn:=Tryz.f300) (fns:=[]) trivial (by kernel_rfl) (by kernel_rfl) aiS aiT Al qM (fun k x=>FU k x.1) (by kernel_rfl) (fun _=>by kernel_rfl) (fun _=>rfl) (fun _ _=>by kernel_rfl) (fun _=>by kernel_rfl)
def XO:Entry:=⟨[aI af,aI (.int .i64),aI .str],[aZ (.int .i64)],Na⟩
def aiV:List (Nat×bz):=[(3,⟨[(2,aJ),(7,.cell (.bA au [])),(8,aJ)],[],[.drop,.drop,.drop]⟩)]
def aiW(k:Nat→al→Option (Int×Unit)):FV:=fun U ad ae=>k 3 (bd [(2,eP U),(7,dg au ad),(8,aR ae)] [] [.aw,.aw,.aw])
theorem aiX:Sound Tryz.prog 301 0 XO:=bW bk (fn:=Tryz.f301) (fns:=[(187,q9)]) ⟨sF,trivial⟩ (by kernel_rfl) (by kernel_rfl) aiV aiW FX sn (fun k x=>FW k x.1 x.2.1 x.2.2.1) (by kernel_rfl) (fun _=>by kernel_rfl) (fun _=>rfl) (fun _ _=>by kernel_rfl) (fun _=>by kernel_rfl)
def Px:Entry:=⟨[aI af,aI aP,aI .str,aI .bool],[aZ aY],F4⟩
def aiY:List (Nat×bz):=[(4,⟨[(3,aJ),(4,.ptr 1),(5,.ptr 2),(8,.ptr 3),(9,.cell (.av 4)),(10,aJ),(11,aJ)],aF 1 af .R []++aF 2 aP .R []++aF 3 aY .R []++[(4,.row .str .R)],[.drop,.drop,.drop,.drop]⟩),(21,⟨[(3,aJ),(4,.ptr 1),(5,.ptr 2),(8,.ptr 3),(9,.cell (.av 4)),(10,aJ),(11,aJ),(12,aJ),(13,aJ),(14,aJ),(15,.ptr 5)],aF 1 af .R []++aF 2 aP .R []++aF 3 aY .R []++[(4,.row .str .R)]++aF 5 I .R [],[.drop,.drop,.drop,.drop]⟩),(22,⟨[(3,aJ),(4,.ptr 1),(5,.ptr 2),(8,.ptr 3),(9,.cell (.av 4)),(10,aJ),(11,aJ),(15,.ptr 5)],aF 1 af .R []++aF 2 aP .R []++aF 3 aY .R []++[(4,.row .str .R)]++aF 5 I .R [],[.drop,.drop,.drop,.drop]⟩),(30,⟨[(3,aJ),(4,.ptr 1),(5,.ptr 2),(8,.ptr 3),(9,.cell (.av 4)),(10,aJ),(11,aJ),(12,aJ),(13,aJ),(14,aJ),(15,.ptr 5)],aF 1 af .R []++aF 2 aP .R []++aF 3 aY .R []++[(4,.row .str .R)]++aF 5 I .R [],[.drop,.drop,.drop,.drop]⟩),(27,⟨[(3,aJ),(4,.ptr 1),(5,.ptr 2),(8,.ptr 3),(9,.cell (.av 4)),(10,aJ),(11,aJ),(15,.ptr 5)],aF 1 af .R []++aF 2 aP .R []++aF 3 aY .R []++[(4,.row .str .R)]++aF 5 I .R [],[.drop,.drop,.drop,.drop]⟩)]
def aiZ(k:Nat→al→Option (aY.D×Unit)):pr:=⟨fun U ad ae ai ar aB aW bl bQ=>k 4 (bd [(3,gB U),(4,aC 1),(5,aC 2),(8,aC 3),(9,.aU (.ah 4 (some (ad,ae)))),(10,aR ai),(11,aR ar)] (aH 1 af .R [] aB++aH 2 aP .R [] aW++aH 3 aY .R [] bl++[(4,.row .str .R 0 bQ)]) [.aw,.aw,.aw,.aw]),fun U ad ae ai ar aB aW bl bQ c8 eD fY hV=>k 21 (bd [(3,gB U),(4,aC 1),(5,aC 2),(8,aC 3),(9,.aU (.ah 4 (some (ad,ae)))),(10,aR ai),(11,aR ar),(12,eP aB),(13,gB aW),(14,aR bl),(15,aC 5)] (aH 1 af .R [] bQ++aH 2 aP .R [] c8++aH 3 aY .R [] eD++[(4,.row .str .R 0 fY)]++aH 5 I .R [] hV) [.aw,.aw,.aw,.aw]),fun U ad ae ai ar aB aW bl bQ c8=>k 22 (bd [(3,gB U),(4,aC 1),(5,aC 2),(8,aC 3),(9,.aU (.ah 4 (some (ad,ae)))),(10,aR ai),(11,aR ar),(15,aC 5)] (aH 1 af .R [] aB++aH 2 aP .R [] aW++aH 3 aY .R [] bl++[(4,.row .str .R 0 bQ)]++aH 5 I .R [] c8) [.aw,.aw,.aw,.aw]),fun U ad ae ai ar aB aW bl bQ c8 eD fY hV=>k 30 (bd [(3,gB U),(4,aC 1),(5,aC 2),(8,aC 3),(9,.aU (.ah 4 (some (ad,ae)))),(10,aR ai),(11,aR ar),(12,eP aB),(13,gB aW),(14,aR bl),(15,aC 5)] (aH 1 af .R [] bQ++aH 2 aP .R [] c8++aH 3 aY .R [] eD++[(4,.row .str .R 0 fY)]++aH 5 I .R [] hV) [.aw,.aw,.aw,.aw]),fun U ad ae ai ar aB aW bl bQ c8=>k 27 (bd [(3,gB U),(4,aC 1),(5,aC 2),(8,aC 3),(9,.aU (.ah 4 (some (ad,ae)))),(10,aR ai),(11,aR ar),(15,aC 5)] (aH 1 af .R [] aB++aH 2 aP .R [] aW++aH 3 aY .R [] bl++[(4,.row .str .R 0 bQ)]++aH 5 I .R [] c8) [.aw,.aw,.aw,.aw])⟩
theorem XP:Sound Tryz.prog 284 0 Px:=bW bk (fn:=Tryz.f284) (fns:=[(187,q9),(250,sH),(287,Pw),(300,XN),(301,XO)]) ⟨sF,vU,XM,aiU,aiX,trivial⟩ (by kernel_rfl) (by kernel_rfl) aiY aiZ Vz e7 (fun k x=>FY k x.1 x.2.1 x.2.2.1 x.2.2.2.1) (by kernel_rfl) (fun _=>by kernel_rfl) (fun _=>rfl) (fun _ _=>by kernel_rfl) (fun _=>by kernel_rfl)
def Py:Entry:=⟨[aI af,aI aP,aI .str],[aZ aY,aZ (.int .i64)],vq⟩
theorem XQ:Sound Tryz.prog 248 0 Py:=b5 bk (fn:=Tryz.f248) (fns:=[(283,Pt),(284,Px)]) ⟨XK,XP,trivial⟩ (by kernel_rfl) (by kernel_rfl) fun _=>by kernel_rfl
def pE:Entry:=⟨[aI af,aI (.int .i64)],[aZ I],e8⟩
theorem q_:Sound Tryz.prog 249 0 pE:=b5 bk (fn:=Tryz.f249) (fns:=[(187,q9)]) ⟨sF,trivial⟩ (by kernel_rfl) (by kernel_rfl) fun _=>by kernel_rfl
def XR:Entry:=⟨[aI af],[aZ (.int .i64)],Nd⟩
theorem ai0:Sound Tryz.prog 286 0 XR:=b5 bk (fn:=Tryz.f286) (fns:=[(138,HL),(139,Pn)]) ⟨Pl,Xx,trivial⟩ (by kernel_rfl) (by kernel_rfl) fun _=>by kernel_rfl
def x7:Entry:=⟨[aI af,.val af (.S (.cons .R (.cons (.O .R) .nil)))],[aZ af,aZ aA],qN⟩
theorem AN:Sound Tryz.prog 251 0 x7:=b5 bk (fn:=Tryz.f251) (fns:=[(286,XR)]) ⟨ai0,trivial⟩ (by kernel_rfl) (by kernel_rfl) fun _=>by kernel_rfl
def x8:Entry:=⟨[.val af (.S (.cons .R (.cons (.O .R) .nil))),zy I],[.val af (.S (.cons .R (.cons (.O .R) .nil)))],om⟩
theorem AO:Sound Tryz.prog 253 0 x8:=b5 bk (fn:=Tryz.f253) (fns:=[(187,q9)]) ⟨sF,trivial⟩ (by kernel_rfl) (by kernel_rfl) fun _=>by kernel_rfl
def HP:Entry:=⟨[.val af (.S (.cons .R (.cons (.O .R) .nil))),aI (.int .i64),aI .str,aI (.int .i64)],[.val af (.S (.cons .R (.cons (.O .R) .nil)))],sq⟩
def ai1:List (Nat×bz):=[(5,⟨[(2,aJ),(3,aJ),(4,.ptr 1),(8,.ptr 3),(9,.ptr 5),(10,.cell (.ah 6)),(11,aJ),(12,aJ)],aF 1 af (.S (.cons .R (.cons (.O .R) .nil))) []++aF 3 af af.own []++aF 5 I .R [2]++[(6,.row au .R)],[.drop,.drop,.drop,.drop]⟩),(10,⟨[(2,aJ),(3,aJ),(4,.ptr 1),(8,.ptr 3),(9,.ptr 5),(10,.cell (.ah 6)),(11,aJ),(12,aJ)],aF 1 af (.S (.cons .R (.cons (.O .R) .nil))) []++aF 3 af af.own []++aF 5 I .R [2]++[(6,.row au .R)],[.drop,.drop,.drop,.drop]⟩),(13,⟨[(4,.ptr 1),(8,.ptr 3),(9,.ptr 5),(10,.cell (.ah 6))],aF 1 af (.S (.cons .R (.cons (.O .R) .nil))) []++aF 3 af af.own []++aF 5 I .R [2]++[(6,.row au .R)],[.drop,.drop,.drop,.drop]⟩)]
def ai2(k:Nat→al→Option (af.D×Unit)):so:=⟨fun U ad ae ai ar aB aW bl=>k 5 (bd [(2,eP U),(3,aR ad),(4,aC 1),(8,aC 3),(9,aC 5),(10,.aU (.ah 6 none)),(11,gB ae),(12,aR ai)] (aH 1 af (.S (.cons .R (.cons (.O .R) .nil))) [] ar++aH 3 af af.own [] aB++aH 5 I .R [2] aW++[(6,.row au .R 0 bl)]) [.aw,.aw,.aw,.aw]),fun U ad ae ai ar aB aW bl=>k 10 (bd [(2,eP U),(3,aR ad),(4,aC 1),(8,aC 3),(9,aC 5),(10,.aU (.ah 6 none)),(11,gB ae),(12,aR ai)] (aH 1 af (.S (.cons .R (.cons (.O .R) .nil))) [] ar++aH 3 af af.own [] aB++aH 5 I .R [2] aW++[(6,.row au .R 0 bl)]) [.aw,.aw,.aw,.aw]),fun U ad ae ai=>k 13 (bd [(4,aC 1),(8,aC 3),(9,aC 5),(10,.aU (.ah 6 none))] (aH 1 af (.S (.cons .R (.cons (.O .R) .nil))) [] U++aH 3 af af.own [] ad++aH 5 I .R [2] ae++[(6,.row au .R 0 ai)]) [.aw,.aw,.aw,.aw])⟩
theorem Pz:Sound Tryz.prog 252 0 HP:=bW bk (fn:=Tryz.f252) (fns:=[(249,pE),(253,x8)]) ⟨q_,AO,trivial⟩ (by kernel_rfl) (by kernel_rfl) ai1 ai2 VB il (fun k x=>F5 k x.1 x.2.1 x.2.2.1 x.2.2.2.1) (by kernel_rfl) (fun _=>by kernel_rfl) (fun _=>rfl) (fun _ _=>by kernel_rfl) (fun _=>by kernel_rfl)
def XS:Entry:=⟨[zy af,aI aP,aI aN],[aZ af,aZ aA],vt⟩
def ai3:List (Nat×bz):=[(3,⟨[(3,.ptr 1),(4,.ptr 2),(5,.ptr 3),(6,.ptr 4),(7,.ptr 6)],aF 1 af .R []++aF 2 aP .R []++aF 3 aN .R []++aF 4 af af.own []++aF 6 aA .R [],[.drop,.drop,.drop]⟩),(14,⟨[(3,.ptr 1),(5,.ptr 2),(6,.ptr 3),(7,.ptr 5),(8,.ptr 6),(10,.ptr 7),(11,.ptr 8)],aF 1 af .R []++aF 2 aN .R []++aF 3 af af.own []++aF 5 aA .R []++aF 6 aY .R []++aF 7 I .R []++aF 8 I I.own [],[.drop,.drop,.drop]⟩),(18,⟨[(3,.ptr 1),(6,.ptr 2),(7,.ptr 4),(8,.ptr 5),(10,.ptr 6),(11,.ptr 7)],aF 1 af .R []++aF 2 af af.own []++aF 4 aA .R []++aF 5 aY .R []++aF 6 I .R []++aF 7 I I.own [],[.drop,.drop,.drop]⟩),(22,⟨[(3,.ptr 1),(6,.ptr 2),(7,.ptr 4),(8,.ptr 5),(11,.ptr 6)],aF 1 af .R []++aF 2 af af.own []++aF 4 aA .R []++aF 5 aY .R []++aF 6 I I.own [],[.drop,.drop,.drop]⟩)]
def ai4(k:Nat→al→Option (oq)):qO:=⟨fun U ad ae ai ar=>k 3 (bd [(3,aC 1),(4,aC 2),(5,aC 3),(6,aC 4),(7,aC 6)] (aH 1 af .R [] U++aH 2 aP .R [] ad++aH 3 aN .R [] ae++aH 4 af af.own [] ai++aH 6 aA .R [] ar) [.aw,.aw,.aw]),fun U ad ae ai ar aB aW=>k 14 (bd [(3,aC 1),(5,aC 2),(6,aC 3),(7,aC 5),(8,aC 6),(10,aC 7),(11,aC 8)] (aH 1 af .R [] U++aH 2 aN .R [] ad++aH 3 af af.own [] ae++aH 5 aA .R [] ai++aH 6 aY .R [] ar++aH 7 I .R [] aB++aH 8 I I.own [] aW) [.aw,.aw,.aw]),fun U ad ae ai ar aB=>k 18 (bd [(3,aC 1),(6,aC 2),(7,aC 4),(8,aC 5),(10,aC 6),(11,aC 7)] (aH 1 af .R [] U++aH 2 af af.own [] ad++aH 4 aA .R [] ae++aH 5 aY .R [] ai++aH 6 I .R [] ar++aH 7 I I.own [] aB) [.aw,.aw,.aw]),fun U ad ae ai ar=>k 22 (bd [(3,aC 1),(6,aC 2),(7,aC 4),(8,aC 5),(11,aC 6)] (aH 1 af .R [] U++aH 2 af af.own [] ad++aH 4 aA .R [] ae++aH 5 aY .R [] ai++aH 6 I I.own [] ar) [.aw,.aw,.aw])⟩
theorem ai5:Sound Tryz.prog 215 0 XS:=bW bk (fn:=Tryz.f215) (fns:=[(67,j'),(134,sG),(185,Ph),(248,Py),(249,pE),(250,sH),(251,x7),(252,HP),(253,x8)]) ⟨kv,vT,Xs,XQ,q_,vU,AN,Pz,AO,trivial⟩ (by kernel_rfl) (by kernel_rfl) ai3 ai4 VC jK (fun k x=>F6 k x.1 x.2.1 x.2.2.1) (by kernel_rfl) (fun _=>by kernel_rfl) (fun _=>rfl) (fun _ _=>by kernel_rfl) (fun _=>by kernel_rfl)
def vV:Entry:=⟨[aI af,aI aP,aI .str,aI .bool],[aZ aY],eT⟩
theorem x9:Sound Tryz.prog 254 0 vV:=b5 bk (fn:=Tryz.f254) (fns:=[(283,Pt),(284,Px)]) ⟨XK,XP,trivial⟩ (by kernel_rfl) (by kernel_rfl) fun _=>by kernel_rfl
def PA:Entry:=⟨[aI aP,aI I,aI I],[aZ .bool],xW⟩
theorem XT:Sound Tryz.prog 255 0 PA:=b5 bk (fn:=Tryz.f255) (fns:=[(285,HO)]) ⟨Pu,trivial⟩ (by kernel_rfl) (by kernel_rfl) fun _=>by kernel_rfl
def PB:Entry:=⟨[.val af (.S (.cons .R (.cons (.O .R) .nil))),aI (.int .i64),aI .str],[.val af (.S (.cons .R (.cons (.O .R) .nil)))],ot⟩
def ai6:List (Nat×bz):=[(5,⟨[(2,aJ),(3,.ptr 1),(6,.ptr 3),(7,.ptr 5),(8,aJ),(9,.cell (.ah 6)),(10,aJ)],aF 1 af (.S (.cons .R (.cons (.O .R) .nil))) []++aF 3 af af.own []++aF 5 I .R [2]++[(6,.row au .R)],[.drop,.drop,.drop]⟩),(16,⟨[(3,.ptr 1),(6,.ptr 3),(8,aJ),(11,.cell (.ah 5)),(12,aJ)],aF 1 af (.S (.cons .R (.cons (.O .R) .nil))) []++aF 3 af af.own []++[(5,.row I .R)],[.drop,.drop,.drop]⟩)]
def ai7(k:Nat→al→Option (af.D×Unit)):vv:=⟨fun U ad ae ai ar aB aW=>k 5 (bd [(2,eP U),(3,aC 1),(6,aC 3),(7,aC 5),(8,aR ad),(9,.aU (.ah 6 none)),(10,aR ae)] (aH 1 af (.S (.cons .R (.cons (.O .R) .nil))) [] ai++aH 3 af af.own [] ar++aH 5 I .R [2] aB++[(6,.row au .R 0 aW)]) [.aw,.aw,.aw]),fun U ad ae ai ar=>k 16 (bd [(3,aC 1),(6,aC 3),(8,aR U),(11,.aU (.ah 5 none)),(12,aR ad)] (aH 1 af (.S (.cons .R (.cons (.O .R) .nil))) [] ae++aH 3 af af.own [] ai++[(5,.row I .R 0 ar)]) [.aw,.aw,.aw])⟩
theorem XU:Sound Tryz.prog 256 0 PB:=bW bk (fn:=Tryz.f256) (fns:=[(137,HK),(249,pE),(253,x8)]) ⟨Pk,q_,AO,trivial⟩ (by kernel_rfl) (by kernel_rfl) ai6 ai7 VD kS (fun k x=>F7 k x.1 x.2.1 x.2.2.1) (by kernel_rfl) (fun _=>by kernel_rfl) (fun _=>rfl) (fun _ _=>by kernel_rfl) (fun _=>by kernel_rfl)
def XV:Entry:=⟨[aI af,aI aP,aI aN],[aZ af,aZ aA],At⟩
def ai8:List (Nat×bz):=[(7,⟨[(3,.ptr 1),(4,.ptr 2),(5,.ptr 3),(6,.ptr 4),(7,.ptr 6),(8,.ptr 7),(9,.ptr 8)],aF 1 af .R []++aF 2 aP .R []++aF 3 aN .R []++aF 4 af af.own []++aF 6 aA .R []++aF 7 aY .R []++aF 8 I .R [],[.drop,.drop,.drop]⟩),(9,⟨[(3,.ptr 1),(4,.ptr 2),(5,.ptr 3),(6,.ptr 4),(7,.ptr 6),(8,.ptr 7),(9,.ptr 8)],aF 1 af .R []++aF 2 aP .R []++aF 3 aN .R []++aF 4 af af.own []++aF 6 aA .R []++aF 7 aY .R []++aF 8 I .R [],[.drop,.drop,.drop]⟩),(11,⟨[(3,.ptr 1),(4,.ptr 2),(6,.ptr 3),(7,.ptr 5),(8,.ptr 6),(9,.ptr 7)],aF 1 af .R []++aF 2 aP .R []++aF 3 af af.own []++aF 5 aA .R []++aF 6 aY .R []++aF 7 I .R [],[.drop,.drop,.drop]⟩)]
def ai9(k:Nat→al→Option (qP)):sr:=⟨fun U ad ae ai ar aB aW=>k 7 (bd [(3,aC 1),(4,aC 2),(5,aC 3),(6,aC 4),(7,aC 6),(8,aC 7),(9,aC 8)] (aH 1 af .R [] U++aH 2 aP .R [] ad++aH 3 aN .R [] ae++aH 4 af af.own [] ai++aH 6 aA .R [] ar++aH 7 aY .R [] aB++aH 8 I .R [] aW) [.aw,.aw,.aw]),fun U ad ae ai ar aB aW=>k 9 (bd [(3,aC 1),(4,aC 2),(5,aC 3),(6,aC 4),(7,aC 6),(8,aC 7),(9,aC 8)] (aH 1 af .R [] U++aH 2 aP .R [] ad++aH 3 aN .R [] ae++aH 4 af af.own [] ai++aH 6 aA .R [] ar++aH 7 aY .R [] aB++aH 8 I .R [] aW) [.aw,.aw,.aw]),fun U ad ae ai ar aB=>k 11 (bd [(3,aC 1),(4,aC 2),(6,aC 3),(7,aC 5),(8,aC 6),(9,aC 7)] (aH 1 af .R [] U++aH 2 aP .R [] ad++aH 3 af af.own [] ae++aH 5 aA .R [] ai++aH 6 aY .R [] ar++aH 7 I .R [] aB) [.aw,.aw,.aw])⟩
theorem ai_:Sound Tryz.prog 216 0 XV:=bW bk (fn:=Tryz.f216) (fns:=[(134,sG),(249,pE),(250,sH),(254,vV),(255,PA),(256,PB)]) ⟨vT,q_,vU,x9,XT,XU,trivial⟩ (by kernel_rfl) (by kernel_rfl) ai8 ai9 VE qQ (fun k x=>F8 k x.1 x.2.1 x.2.2.1) (by kernel_rfl) (fun _=>by kernel_rfl) (fun _=>rfl) (fun _ _=>by kernel_rfl) (fun _=>by kernel_rfl)
def PC:Entry:=⟨[aI af,aI (.int .i64)],[aZ .bool],xX⟩
theorem XW:Sound Tryz.prog 257 0 PC:=b5 bk (fn:=Tryz.f257) (fns:=[(187,q9)]) ⟨sF,trivial⟩ (by kernel_rfl) (by kernel_rfl) fun _=>by kernel_rfl
def XX:Entry:=⟨[aI af,aI aP,aI aN],[aZ af,aZ aA],F9⟩
theorem ai':Sound Tryz.prog 217 0 XX:=b5 bk (fn:=Tryz.f217) (fns:=[(134,sG),(248,Py),(249,pE),(250,sH),(251,x7),(252,HP),(254,vV),(257,PC)]) ⟨vT,XQ,q_,vU,AN,Pz,x9,XW,trivial⟩ (by kernel_rfl) (by kernel_rfl) fun _=>by kernel_rfl
def XY:Entry:=⟨[aI af,aI (.int .i64),aI (.int .i64)],[aZ .bool],Au⟩
def aja:List (Nat×bz):=[(2,⟨[(1,aJ),(2,aJ),(3,.ptr 1),(7,aJ)],aF 1 af .R [],[.drop,.drop,.drop]⟩)]
def ajb(k:Nat→al→Option (Bool×Unit)):F_:=fun U ad ae ai=>k 2 (bd [(1,aR U),(2,aR ad),(3,aC 1),(7,aR ae)] (aH 1 af .R [] ai) [.aw,.aw,.aw])
theorem ajc:Sound Tryz.prog 258 0 XY:=bW bk (fn:=Tryz.f258) (fns:=[(287,Pw)]) ⟨XM,trivial⟩ (by kernel_rfl) (by kernel_rfl) aja ajb Gb vw (fun k x=>Ga k x.1 x.2.1 x.2.2.1) (by kernel_rfl) (fun _=>by kernel_rfl) (fun _=>rfl) (fun _ _=>by kernel_rfl) (fun _=>by kernel_rfl)
def XZ:Entry:=⟨[aI af,aI aP,aI aN],[aZ af,aZ aA],Gd⟩
def ajd:List (Nat×bz):=[(7,⟨[(3,.ptr 1),(4,.ptr 2),(6,.ptr 3),(7,.ptr 5),(8,.ptr 6),(9,.ptr 7)],aF 1 af .R []++aF 2 aP .R []++aF 3 af af.own []++aF 5 aA .R []++aF 6 aY .R []++aF 7 aY .R [],[.drop,.drop,.drop]⟩),(18,⟨[(3,.ptr 1),(4,.ptr 2),(6,.ptr 3),(7,.ptr 5),(8,.ptr 6),(9,.ptr 7),(11,.ptr 8),(12,.ptr 9)],aF 1 af .R []++aF 2 aP .R []++aF 3 af af.own []++aF 5 aA .R []++aF 6 aY .R []++aF 7 aY .R []++aF 8 I .R []++aF 9 I .R [],[.drop,.drop,.drop]⟩),(27,⟨[(3,.ptr 1),(6,.ptr 2),(7,.ptr 4),(8,.ptr 5),(9,.ptr 6),(12,.ptr 7),(13,.ptr 8),(14,.ptr 10)],aF 1 af .R []++aF 2 af af.own []++aF 4 aA .R []++aF 5 aY .R []++aF 6 aY .R []++aF 7 I .R []++aF 8 af (.S (.cons .R (.cons (.O .R) .nil))) []++aF 10 I .R [],[.drop,.drop,.drop]⟩),(34,⟨[(3,.ptr 1),(6,.ptr 2),(7,.ptr 4),(8,.ptr 5),(9,.ptr 6),(13,.ptr 7)],aF 1 af .R []++aF 2 af af.own []++aF 4 aA .R []++aF 5 aY .R []++aF 6 aY .R []++aF 7 af (.S (.cons .R (.cons (.O .R) .nil))) [],[.drop,.drop,.drop]⟩),(29,⟨[(3,.ptr 1),(6,.ptr 2),(7,.ptr 4),(8,.ptr 5),(9,.ptr 6),(12,.ptr 7),(13,.ptr 8),(14,.ptr 10)],aF 1 af .R []++aF 2 af af.own []++aF 4 aA .R []++aF 5 aY .R []++aF 6 aY .R []++aF 7 I .R []++aF 8 af (.S (.cons .R (.cons (.O .R) .nil))) []++aF 10 I .R [],[.drop,.drop,.drop]⟩)]
def aje(k:Nat→al→Option (ml)):pv:=⟨fun U ad ae ai ar aB=>k 7 (bd [(3,aC 1),(4,aC 2),(6,aC 3),(7,aC 5),(8,aC 6),(9,aC 7)] (aH 1 af .R [] U++aH 2 aP .R [] ad++aH 3 af af.own [] ae++aH 5 aA .R [] ai++aH 6 aY .R [] ar++aH 7 aY .R [] aB) [.aw,.aw,.aw]),fun U ad ae ai ar aB aW bl=>k 18 (bd [(3,aC 1),(4,aC 2),(6,aC 3),(7,aC 5),(8,aC 6),(9,aC 7),(11,aC 8),(12,aC 9)] (aH 1 af .R [] U++aH 2 aP .R [] ad++aH 3 af af.own [] ae++aH 5 aA .R [] ai++aH 6 aY .R [] ar++aH 7 aY .R [] aB++aH 8 I .R [] aW++aH 9 I .R [] bl) [.aw,.aw,.aw]),fun U ad ae ai ar aB aW bl=>k 27 (bd [(3,aC 1),(6,aC 2),(7,aC 4),(8,aC 5),(9,aC 6),(12,aC 7),(13,aC 8),(14,aC 10)] (aH 1 af .R [] U++aH 2 af af.own [] ad++aH 4 aA .R [] ae++aH 5 aY .R [] ai++aH 6 aY .R [] ar++aH 7 I .R [] aB++aH 8 af (.S (.cons .R (.cons (.O .R) .nil))) [] aW++aH 10 I .R [] bl) [.aw,.aw,.aw]),fun U ad ae ai ar aB=>k 34 (bd [(3,aC 1),(6,aC 2),(7,aC 4),(8,aC 5),(9,aC 6),(13,aC 7)] (aH 1 af .R [] U++aH 2 af af.own [] ad++aH 4 aA .R [] ae++aH 5 aY .R [] ai++aH 6 aY .R [] ar++aH 7 af (.S (.cons .R (.cons (.O .R) .nil))) [] aB) [.aw,.aw,.aw]),fun U ad ae ai ar aB aW bl=>k 29 (bd [(3,aC 1),(6,aC 2),(7,aC 4),(8,aC 5),(9,aC 6),(12,aC 7),(13,aC 8),(14,aC 10)] (aH 1 af .R [] U++aH 2 af af.own [] ad++aH 4 aA .R [] ae++aH 5 aY .R [] ai++aH 6 aY .R [] ar++aH 7 I .R [] aB++aH 8 af (.S (.cons .R (.cons (.O .R) .nil))) [] aW++aH 10 I .R [] bl) [.aw,.aw,.aw])⟩
theorem ajf:Sound Tryz.prog 218 0 XZ:=bW bk (fn:=Tryz.f218) (fns:=[(134,sG),(249,pE),(250,sH),(251,x7),(252,HP),(254,vV),(255,PA),(256,PB),(258,XY)]) ⟨vT,q_,vU,AN,Pz,x9,XT,XU,ajc,trivial⟩ (by kernel_rfl) (by kernel_rfl) ajd aje VG gp (fun k x=>Gc k x.1 x.2.1 x.2.2.1) (by kernel_rfl) (fun _=>by kernel_rfl) (fun _=>rfl) (fun _ _=>by kernel_rfl) (fun _=>by kernel_rfl)
def X0:Entry:=⟨[aI .str,aI (.int .i64),aI .str],[aZ .str],sv⟩
def ajg:List (Nat×bz):=[(2,⟨[(1,aJ),(2,aJ),(7,.cell (.ah 1))],[(1,.row (.int .u8) .R)],[.drop,.drop,.drop]⟩),(5,⟨[(1,aJ),(2,aJ),(7,.cell (.ah 1)),(8,aJ)],[(1,.row (.int .u8) .R)],[.drop,.drop,.drop]⟩)]
def ajh(k:Nat→al→Option ((List UInt8)×Unit)):su:=⟨fun U ad ae=>k 2 (bd [(1,aR U),(2,eP ad),(7,.aU (.ah 1 none))] [(1,.row (.int .u8) .R 0 ae)] [.aw,.aw,.aw]),fun U ad ae ai=>k 5 (bd [(1,aR U),(2,eP ad),(7,.aU (.ah 1 none)),(8,aR ae)] [(1,.row (.int .u8) .R 0 ai)] [.aw,.aw,.aw])⟩
theorem aji:Sound Tryz.prog 259 0 X0:=bW bk (fn:=Tryz.f259) (fns:=[]) trivial (by kernel_rfl) (by kernel_rfl) ajg ajh VI np (fun k x=>Ge k x.1 x.2.1 x.2.2.1) (by kernel_rfl) (fun _=>by kernel_rfl) (fun _=>rfl) (fun _ _=>by kernel_rfl) (fun _=>by kernel_rfl)
def X1:Entry:=⟨[aI af,aI aP,aI aN],[aZ af,aZ aA],xY⟩
def ajj:List (Nat×bz):=[(12,⟨[(3,.ptr 1),(5,.ptr 2),(6,.ptr 3),(7,.ptr 5),(9,.ptr 6),(10,aJ)],aF 1 af .R []++aF 2 aN .R []++aF 3 af af.own []++aF 5 aA .R []++aF 6 I .R [],[.drop,.drop,.drop]⟩),(23,⟨[(3,.ptr 1),(6,.ptr 2),(7,.ptr 4),(9,.ptr 5)],aF 1 af .R []++aF 2 af af.own []++aF 4 aA .R []++aF 5 I .R [],[.drop,.drop,.drop]⟩)]
def ajk(k:Nat→al→Option (vx)):vy:=⟨fun U ad ae ai ar aB=>k 12 (bd [(3,aC 1),(5,aC 2),(6,aC 3),(7,aC 5),(9,aC 6),(10,aR U)] (aH 1 af .R [] ad++aH 2 aN .R [] ae++aH 3 af af.own [] ai++aH 5 aA .R [] ar++aH 6 I .R [] aB) [.aw,.aw,.aw]),fun U ad ae ai=>k 23 (bd [(3,aC 1),(6,aC 2),(7,aC 4),(9,aC 5)] (aH 1 af .R [] U++aH 2 af af.own [] ad++aH 4 aA .R [] ae++aH 5 I .R [] ai) [.aw,.aw,.aw])⟩
theorem ajl:Sound Tryz.prog 219 0 X1:=bW bk (fn:=Tryz.f219) (fns:=[(134,sG),(249,pE),(250,sH),(251,x7),(253,x8),(254,vV),(259,X0)]) ⟨vT,q_,vU,AN,AO,x9,aji,trivial⟩ (by kernel_rfl) (by kernel_rfl) ajj ajk VJ j8 (fun k x=>Gf k x.1 x.2.1 x.2.2.1) (by kernel_rfl) (fun _=>by kernel_rfl) (fun _=>rfl) (fun _ _=>by kernel_rfl) (fun _=>by kernel_rfl)
def X2:Entry:=⟨[aI af,aI aP,aI aN],[aZ af,aZ aA],sx⟩
def ajm:List (Nat×bz):=[(8,⟨[(3,.ptr 1),(4,.ptr 2),(5,.ptr 3),(6,.ptr 4),(7,.ptr 6),(8,aJ)],aF 1 af .R []++aF 2 aP .R []++aF 3 aN .R []++aF 4 af af.own []++aF 6 aA .R [],[.drop,.drop,.drop]⟩),(12,⟨[(3,.ptr 1),(4,.ptr 2),(5,.ptr 3),(6,.ptr 4),(7,.ptr 6)],aF 1 af .R []++aF 2 aP .R []++aF 3 aN .R []++aF 4 af af.own []++aF 6 aA .R [],[.drop,.drop,.drop]⟩),(24,⟨[(3,.ptr 1),(4,.ptr 2),(5,.ptr 3),(6,.ptr 4),(7,.ptr 6),(10,.ptr 7)],aF 1 af .R []++aF 2 aP .R []++aF 3 aN .R []++aF 4 af af.own []++aF 6 aA .R []++aF 7 I .R [],[.drop,.drop,.drop]⟩),(32,⟨[(3,.ptr 1),(6,.ptr 2),(7,.ptr 4),(10,.ptr 5)],aF 1 af .R []++aF 2 af af.own []++aF 4 aA .R []++aF 5 I .R [],[.drop,.drop,.drop]⟩)]
def ajn(k:Nat→al→Option (ou)):qR:=⟨fun U ad ae ai ar aB=>k 8 (bd [(3,aC 1),(4,aC 2),(5,aC 3),(6,aC 4),(7,aC 6),(8,gB U)] (aH 1 af .R [] ad++aH 2 aP .R [] ae++aH 3 aN .R [] ai++aH 4 af af.own [] ar++aH 6 aA .R [] aB) [.aw,.aw,.aw]),fun U ad ae ai ar=>k 12 (bd [(3,aC 1),(4,aC 2),(5,aC 3),(6,aC 4),(7,aC 6)] (aH 1 af .R [] U++aH 2 aP .R [] ad++aH 3 aN .R [] ae++aH 4 af af.own [] ai++aH 6 aA .R [] ar) [.aw,.aw,.aw]),fun U ad ae ai ar aB=>k 24 (bd [(3,aC 1),(4,aC 2),(5,aC 3),(6,aC 4),(7,aC 6),(10,aC 7)] (aH 1 af .R [] U++aH 2 aP .R [] ad++aH 3 aN .R [] ae++aH 4 af af.own [] ai++aH 6 aA .R [] ar++aH 7 I .R [] aB) [.aw,.aw,.aw]),fun U ad ae ai=>k 32 (bd [(3,aC 1),(6,aC 2),(7,aC 4),(10,aC 5)] (aH 1 af .R [] U++aH 2 af af.own [] ad++aH 4 aA .R [] ae++aH 5 I .R [] ai) [.aw,.aw,.aw])⟩
theorem ajo:Sound Tryz.prog 220 0 X2:=bW bk (fn:=Tryz.f220) (fns:=[(67,j'),(134,sG),(249,pE),(251,x7),(253,x8),(254,vV),(260,Pv)]) ⟨kv,vT,q_,AN,AO,x9,XL,trivial⟩ (by kernel_rfl) (by kernel_rfl) ajm ajn VK hy (fun k x=>sw k x.1 x.2.1 x.2.2.1) (by kernel_rfl) (fun _=>by kernel_rfl) (fun _=>rfl) (fun _ _=>by kernel_rfl) (fun _=>by kernel_rfl)
def X3:Entry:=⟨[aI af,aI (.int .i64)],[aZ (.int .i64)],Gj⟩
def ajp:List (Nat×bz):=[(8,⟨[(2,.ptr 1),(5,aJ),(6,aJ),(7,aJ)],aF 1 af .R [],[.drop,.drop]⟩)]
def ajq(k:Nat→al→Option (Int×Unit)):Gg:=fun U ad ae ai=>k 8 (bd [(2,aC 1),(5,aR U),(6,aR ad),(7,aR ae)] (aH 1 af .R [] ai) [.aw,.aw])
theorem ajr:Sound Tryz.prog 261 0 X3:=bW bk (fn:=Tryz.f261) (fns:=[(137,HK),(187,q9),(257,PC)]) ⟨Pk,sF,XW,trivial⟩ (by kernel_rfl) (by kernel_rfl) ajp ajq Gi vz (fun k x=>Gh k x.1 x.2.1) (by kernel_rfl) (fun _=>by kernel_rfl) (fun _=>rfl) (fun _ _=>by kernel_rfl) (fun _=>by kernel_rfl)
def X4:Entry:=⟨[aI af,aI aP,aI aN],[aZ aA],kT⟩
def ajs:List (Nat×bz):=[(5,⟨[(3,.ptr 1),(4,.ptr 2),(5,.ptr 3),(6,.ptr 4)],aF 1 af .R []++aF 2 aP .R []++aF 3 aN .R []++aF 4 aA .R [],[.drop,.drop,.drop]⟩),(6,⟨[(3,.ptr 1),(4,.ptr 2),(5,.ptr 3),(6,.ptr 4),(7,.ptr 5)],aF 1 af .R []++aF 2 aP .R []++aF 3 aN .R []++aF 4 aA .R []++aF 5 aY .R [],[.drop,.drop,.drop]⟩),(20,⟨[(5,.ptr 1),(6,.ptr 2),(8,.ptr 3),(10,.cell (.ah 4)),(11,aJ)],aF 1 aN .R []++aF 2 aA .R []++aF 3 I .R []++[(4,.row (.int .u8) .R)],[.drop,.drop,.drop]⟩),(35,⟨[(6,.ptr 1),(8,.ptr 2),(12,aJ),(13,aJ)],aF 1 aA .R []++aF 2 I .R [],[.drop,.drop,.drop]⟩),(39,⟨[(6,.ptr 1),(8,.ptr 2),(12,aJ),(13,aJ)],aF 1 aA .R []++aF 2 I .R [],[.drop,.drop,.drop]⟩)]
def ajt(k:Nat→al→Option (aA.D×Unit)):nq:=⟨fun U ad ae ai=>k 5 (bd [(3,aC 1),(4,aC 2),(5,aC 3),(6,aC 4)] (aH 1 af .R [] U++aH 2 aP .R [] ad++aH 3 aN .R [] ae++aH 4 aA .R [] ai) [.aw,.aw,.aw]),fun U ad ae ai ar=>k 6 (bd [(3,aC 1),(4,aC 2),(5,aC 3),(6,aC 4),(7,aC 5)] (aH 1 af .R [] U++aH 2 aP .R [] ad++aH 3 aN .R [] ae++aH 4 aA .R [] ai++aH 5 aY .R [] ar) [.aw,.aw,.aw]),fun U ad ae ai ar=>k 20 (bd [(5,aC 1),(6,aC 2),(8,aC 3),(10,.aU (.ah 4 none)),(11,aR U)] (aH 1 aN .R [] ad++aH 2 aA .R [] ae++aH 3 I .R [] ai++[(4,.row (.int .u8) .R 0 ar)]) [.aw,.aw,.aw]),fun U ad ae ai=>k 35 (bd [(6,aC 1),(8,aC 2),(12,eP U),(13,aR ad)] (aH 1 aA .R [] ae++aH 2 I .R [] ai) [.aw,.aw,.aw]),fun U ad ae ai=>k 39 (bd [(6,aC 1),(8,aC 2),(12,eP U),(13,aR ad)] (aH 1 aA .R [] ae++aH 2 I .R [] ai) [.aw,.aw,.aw])⟩
theorem aju:Sound Tryz.prog 221 0 X4:=bW bk (fn:=Tryz.f221) (fns:=[(67,j'),(138,HL),(188,Pm),(214,Ps),(249,pE),(250,sH),(254,vV),(261,X3)]) ⟨kv,Pl,Xw,XI,q_,vU,x9,ajr,trivial⟩ (by kernel_rfl) (by kernel_rfl) ajs ajt VL fm (fun k x=>qS k x.1 x.2.1 x.2.2.1) (by kernel_rfl) (fun _=>by kernel_rfl) (fun _=>rfl) (fun _ _=>by kernel_rfl) (fun _=>by kernel_rfl)
def X5:Entry:=⟨[zy af,zy aP,aI aN],[aZ af,aZ aA],vB⟩
def ajv:List (Nat×bz):=[(8,⟨[(3,.ptr 1),(4,.ptr 2),(5,.ptr 3),(6,.ptr 4),(7,.ptr 6),(19,aJ)],aF 1 af .R []++aF 2 aP .R []++aF 3 aN .R []++aF 4 af af.own []++aF 6 aA .R [],[.drop,.drop,.drop]⟩),(11,⟨[(3,.ptr 1),(4,.ptr 2),(5,.ptr 3),(6,.ptr 4),(7,.ptr 6),(19,aJ)],aF 1 af .R []++aF 2 aP .R []++aF 3 aN .R []++aF 4 af af.own []++aF 6 aA .R [],[.drop,.drop,.drop]⟩),(19,⟨[(3,.ptr 1),(4,.ptr 2),(5,.ptr 3),(6,.ptr 4),(7,.ptr 6),(19,aJ)],aF 1 af .R []++aF 2 aP .R []++aF 3 aN .R []++aF 4 af af.own []++aF 6 aA .R [],[.drop,.drop,.drop]⟩)]
def ajw(k:Nat→al→Option (qT)):sB:=⟨fun U ad ae ai ar aB=>k 8 (bd [(3,aC 1),(4,aC 2),(5,aC 3),(6,aC 4),(7,aC 6),(19,aR U)] (aH 1 af .R [] ad++aH 2 aP .R [] ae++aH 3 aN .R [] ai++aH 4 af af.own [] ar++aH 6 aA .R [] aB) [.aw,.aw,.aw]),fun U ad ae ai ar aB=>k 11 (bd [(3,aC 1),(4,aC 2),(5,aC 3),(6,aC 4),(7,aC 6),(19,aR U)] (aH 1 af .R [] ad++aH 2 aP .R [] ae++aH 3 aN .R [] ai++aH 4 af af.own [] ar++aH 6 aA .R [] aB) [.aw,.aw,.aw]),fun U ad ae ai ar aB=>k 19 (bd [(3,aC 1),(4,aC 2),(5,aC 3),(6,aC 4),(7,aC 6),(19,aR U)] (aH 1 af .R [] ad++aH 2 aP .R [] ae++aH 3 aN .R [] ai++aH 4 af af.own [] ar++aH 6 aA .R [] aB) [.aw,.aw,.aw])⟩
theorem ajx:Sound Tryz.prog 184 0 X5:=bW bk (fn:=Tryz.f184) (fns:=[(132,HM),(215,XS),(216,XV),(217,XX),(218,XZ),(219,X1),(220,X2),(221,X4)]) ⟨Pq,ai5,ai_,ai',ajf,ajl,ajo,aju,trivial⟩ (by kernel_rfl) (by kernel_rfl) ajv ajw VM Gn (fun k x=>xZ k x.1 x.2.1 x.2.2.1) (by kernel_rfl) (fun _=>by kernel_rfl) (fun _=>rfl) (fun _ _=>by kernel_rfl) (fun _=>by kernel_rfl)
def X6:Entry:=⟨[.val aM (.S (.cons .R (.cons .R (.cons (.O .R) (.cons (.O .R) .nil))))),aI (.int .i64),aI aN],[.val aM (.S (.cons .R (.cons .R (.cons (.O .R) (.cons (.O .R) .nil))))),aZ aA],Gq⟩
def ajy:List (Nat×bz):=[(10,⟨[(3,.ptr 1),(5,.ptr 4),(6,.ptr 5),(7,.ptr 9),(8,.ptr 10)],aF 1 aM (.S (.cons .R (.cons .R (.cons (.O .R) (.cons (.O .R) .nil))))) []++aF 4 aN .R []++aF 5 aM aM.own []++aF 9 aA .R []++aF 10 aP aP.own [],[.drop,.drop,.drop]⟩),(19,⟨[(3,.ptr 1),(5,.ptr 4),(6,.ptr 5),(7,.ptr 9),(8,.ptr 10)],aF 1 aM (.S (.cons .R (.cons .R (.cons (.O .R) (.cons (.O .R) .nil))))) []++aF 4 aN .R []++aF 5 aM aM.own []++aF 9 aA .R []++aF 10 aP aP.own [],[.drop,.drop,.drop]⟩)]
def ajz(k:Nat→al→Option (vC)):vD:=⟨fun U ad ae ai ar=>k 10 (bd [(3,aC 1),(5,aC 4),(6,aC 5),(7,aC 9),(8,aC 10)] (aH 1 aM (.S (.cons .R (.cons .R (.cons (.O .R) (.cons (.O .R) .nil))))) [] U++aH 4 aN .R [] ad++aH 5 aM aM.own [] ae++aH 9 aA .R [] ai++aH 10 aP aP.own [] ar) [.aw,.aw,.aw]),fun U ad ae ai ar=>k 19 (bd [(3,aC 1),(5,aC 4),(6,aC 5),(7,aC 9),(8,aC 10)] (aH 1 aM (.S (.cons .R (.cons .R (.cons (.O .R) (.cons (.O .R) .nil))))) [] U++aH 4 aN .R [] ad++aH 5 aM aM.own [] ae++aH 9 aA .R [] ai++aH 10 aP aP.own [] ar) [.aw,.aw,.aw])⟩
theorem ajA:Sound Tryz.prog 131 0 X6:=bW bk (fn:=Tryz.f131) (fns:=[(132,HM),(133,HN),(181,XF),(182,XH),(183,XJ),(184,X5)]) ⟨Pq,Pr,aiA,aiC,aiH,ajx,trivial⟩ (by kernel_rfl) (by kernel_rfl) ajy ajz VN pw (fun k x=>Gp k x.1 x.2.1 x.2.2.1) (by kernel_rfl) (fun _=>by kernel_rfl) (fun _=>rfl) (fun _ _=>by kernel_rfl) (fun _=>by kernel_rfl)
def X7:Entry:=⟨[.val aM (.S (.cons .R (.cons .R (.cons (.O .R) (.cons (.O .R) .nil))))),aI (.int .i64),aI (.int .i64),aI aN,aI (.int .i64)],[.val aM (.S (.cons .R (.cons .R (.cons (.O .R) (.cons (.O .R) .nil))))),aZ aA,aZ .bool],vE⟩
def ajB:List (Nat×bz):=[(10,⟨[(1,aJ),(2,aJ),(4,aJ),(5,.ptr 1),(8,.ptr 4),(10,.ptr 5),(11,.ptr 9),(14,.ptr 10),(15,aJ)],aF 1 aM (.S (.cons .R (.cons .R (.cons (.O .R) (.cons (.O .R) .nil))))) []++aF 4 aN .R []++aF 5 aM aM.own []++aF 9 aA .R []++aF 10 aA .R [],[.drop,.drop,.drop,.drop,.drop]⟩),(11,⟨[(1,aJ),(2,aJ),(4,aJ),(5,.ptr 1),(8,.ptr 4),(10,.ptr 5),(11,.ptr 9),(14,.ptr 10)],aF 1 aM (.S (.cons .R (.cons .R (.cons (.O .R) (.cons (.O .R) .nil))))) []++aF 4 aN .R []++aF 5 aM aM.own []++aF 9 aA .R []++aF 10 aA .R [],[.drop,.drop,.drop,.drop,.drop]⟩),(12,⟨[(1,aJ),(2,aJ),(4,aJ),(5,.ptr 1),(10,.ptr 4),(11,.ptr 8),(14,.ptr 9)],aF 1 aM (.S (.cons .R (.cons .R (.cons (.O .R) (.cons (.O .R) .nil))))) []++aF 4 aM aM.own []++aF 8 aA .R []++aF 9 aA .R [],[.drop,.drop,.drop,.drop,.drop]⟩)]
def ajC(k:Nat→al→Option (mo)):qU:=⟨fun U ad ae ai ar aB aW bl bQ=>k 10 (bd [(1,aR U),(2,aR ad),(4,aR ae),(5,aC 1),(8,aC 4),(10,aC 5),(11,aC 9),(14,aC 10),(15,gB ai)] (aH 1 aM (.S (.cons .R (.cons .R (.cons (.O .R) (.cons (.O .R) .nil))))) [] ar++aH 4 aN .R [] aB++aH 5 aM aM.own [] aW++aH 9 aA .R [] bl++aH 10 aA .R [] bQ) [.aw,.aw,.aw,.aw,.aw]),fun U ad ae ai ar aB aW bl=>k 11 (bd [(1,aR U),(2,aR ad),(4,aR ae),(5,aC 1),(8,aC 4),(10,aC 5),(11,aC 9),(14,aC 10)] (aH 1 aM (.S (.cons .R (.cons .R (.cons (.O .R) (.cons (.O .R) .nil))))) [] ai++aH 4 aN .R [] ar++aH 5 aM aM.own [] aB++aH 9 aA .R [] aW++aH 10 aA .R [] bl) [.aw,.aw,.aw,.aw,.aw]),fun U ad ae ai ar aB aW=>k 12 (bd [(1,aR U),(2,aR ad),(4,aR ae),(5,aC 1),(10,aC 4),(11,aC 8),(14,aC 9)] (aH 1 aM (.S (.cons .R (.cons .R (.cons (.O .R) (.cons (.O .R) .nil))))) [] ai++aH 4 aM aM.own [] ar++aH 8 aA .R [] aB++aH 9 aA .R [] aW) [.aw,.aw,.aw,.aw,.aw])⟩
theorem ajD:Sound Tryz.prog 64 0 X7:=bW bk (fn:=Tryz.f64) (fns:=[(57,XD),(67,j'),(116,Pp),(130,XE),(131,X6),(132,HM),(133,HN)]) ⟨aiu,kv,XC,aix,ajA,Pq,Pr,trivial⟩ (by kernel_rfl) (by kernel_rfl) ajB ajC VP qV (fun k x=>Gr k x.1 x.2.1 x.2.2.1 x.2.2.2.1 x.2.2.2.2.1) (by kernel_rfl) (fun _=>by kernel_rfl) (fun _=>rfl) (fun _ _=>by kernel_rfl) (fun _=>by kernel_rfl)
def X8:Entry:=⟨[zy aM],[.val aM (.S (.cons .R (.cons .R (.cons (.O .R) (.cons (.O .R) .nil)))))],Az⟩
theorem ajE:Sound Tryz.prog 65 0 X8:=b5 bk (fn:=Tryz.f65) (fns:=[(134,sG)]) ⟨vT,trivial⟩ (by kernel_rfl) (by kernel_rfl) fun _=>by kernel_rfl
def X9:Entry:=⟨[aI aM,aI (.int .i64),aI (.int .i64),aI aN,aI (.int .i64)],[aZ aM,aZ aA,aZ .bool],px⟩
theorem ajF:Sound Tryz.prog 13 0 X9:=b5 bk (fn:=Tryz.f13) (fns:=[(14,XB),(64,X7),(65,X8)]) ⟨air,ajD,ajE,trivial⟩ (by kernel_rfl) (by kernel_rfl) fun _=>by kernel_rfl
def X_:Entry:=⟨[aI au,aI (.int .i64)],[aZ (.int .i64)],NK⟩
theorem ajG:Sound Tryz.prog 263 0 X_:=b5 bk (fn:=Tryz.f263) (fns:=[]) trivial (by kernel_rfl) (by kernel_rfl) fun _=>by kernel_rfl
def X':Entry:=⟨[aI (.sl au),aI (.int .i64)],[aZ (.int .i64)],NL⟩
def ajH:List (Nat×bz):=[(5,⟨[(0,.cell (.bA au [])),(1,aJ),(5,aJ)],[],[.drop,.drop]⟩)]
def ajI(k:Nat→al→Option (Int×Unit)):Gs:=fun U ad ae=>k 5 (bd [(0,dg au U),(1,aR ad),(5,aR ae)] [] [.aw,.aw])
theorem ajJ:Sound Tryz.prog 227 0 X':=bW bk (fn:=Tryz.f227) (fns:=[(263,X_)]) ⟨ajG,trivial⟩ (by kernel_rfl) (by kernel_rfl) ajH ajI Gu vF (fun k x=>Gt k x.1 x.2.1) (by kernel_rfl) (fun _=>by kernel_rfl) (fun _=>rfl) (fun _ _=>by kernel_rfl) (fun _=>by kernel_rfl)
def Ya:Entry:=⟨[aI I,aI (.int .i64)],[aZ (.int .i64)],NN⟩
theorem ajK:Sound Tryz.prog 193 0 Ya:=b5 bk (fn:=Tryz.f193) (fns:=[(227,X')]) ⟨ajJ,trivial⟩ (by kernel_rfl) (by kernel_rfl) fun _=>by kernel_rfl
def Yb:Entry:=⟨[aI (.sl I),aI (.int .i64)],[aZ (.int .i64)],NO⟩
def ajL:List (Nat×bz):=[(5,⟨[(0,.cell (.bA I [])),(1,aJ),(5,aJ)],[],[.drop,.drop]⟩)]
def ajM(k:Nat→al→Option (Int×Unit)):Gv:=fun U ad ae=>k 5 (bd [(0,dg I U),(1,aR ad),(5,aR ae)] [] [.aw,.aw])
theorem ajN:Sound Tryz.prog 144 0 Yb:=bW bk (fn:=Tryz.f144) (fns:=[(193,Ya)]) ⟨ajK,trivial⟩ (by kernel_rfl) (by kernel_rfl) ajL ajM Gz vG (fun k x=>Gw k x.1 x.2.1) (by kernel_rfl) (fun _=>by kernel_rfl) (fun _=>rfl) (fun _ _=>by kernel_rfl) (fun _=>by kernel_rfl)
def Yc:Entry:=⟨[aI af,aI (.int .i64)],[aZ (.int .i64)],NQ⟩
theorem ajO:Sound Tryz.prog 79 0 Yc:=b5 bk (fn:=Tryz.f79) (fns:=[(144,Yb)]) ⟨ajN,trivial⟩ (by kernel_rfl) (by kernel_rfl) fun _=>by kernel_rfl
def Yd:Entry:=⟨[aI (.sl aE),aI (.int .i64)],[aZ (.int .i64)],NS⟩
theorem ajP:Sound Tryz.prog 80 0 Yd:=b5 bk (fn:=Tryz.f80) (fns:=[]) trivial (by kernel_rfl) (by kernel_rfl) fun _=>by kernel_rfl
def Ye:Entry:=⟨[aI aA,aI (.int .i64)],[aZ (.int .i64)],NU⟩
theorem ajQ:Sound Tryz.prog 194 0 Ye:=b5 bk (fn:=Tryz.f194) (fns:=[]) trivial (by kernel_rfl) (by kernel_rfl) fun _=>by kernel_rfl
def Yf:Entry:=⟨[aI aO,aI (.int .i64)],[aZ (.int .i64)],NW⟩
theorem ajR:Sound Tryz.prog 145 0 Yf:=b5 bk (fn:=Tryz.f145) (fns:=[(194,Ye)]) ⟨ajQ,trivial⟩ (by kernel_rfl) (by kernel_rfl) fun _=>by kernel_rfl
def Yg:Entry:=⟨[aI (.sl aO),aI (.int .i64)],[aZ (.int .i64)],NX⟩
def ajS:List (Nat×bz):=[(5,⟨[(0,.cell (.bA aO [])),(1,aJ),(5,aJ)],[],[.drop,.drop]⟩)]
def ajT(k:Nat→al→Option (Int×Unit)):GA:=fun U ad ae=>k 5 (bd [(0,dg aO U),(1,aR ad),(5,aR ae)] [] [.aw,.aw])
theorem ajU:Sound Tryz.prog 81 0 Yg:=bW bk (fn:=Tryz.f81) (fns:=[(145,Yf)]) ⟨ajR,trivial⟩ (by kernel_rfl) (by kernel_rfl) ajS ajT GC vH (fun k x=>GB k x.1 x.2.1) (by kernel_rfl) (fun _=>by kernel_rfl) (fun _=>rfl) (fun _ _=>by kernel_rfl) (fun _=>by kernel_rfl)
def Yh:Entry:=⟨[aI aM,aI (.int .i64)],[aZ (.int .i64)],NZ⟩
theorem ajV:Sound Tryz.prog 25 0 Yh:=b5 bk (fn:=Tryz.f25) (fns:=[(79,Yc),(80,Yd),(81,Yg)]) ⟨ajO,ajP,ajU,trivial⟩ (by kernel_rfl) (by kernel_rfl) fun _=>by kernel_rfl
def Yi:Entry:=⟨[aI aN,aI (.int .i64)],[aZ (.int .i64)],N1⟩
theorem ajW:Sound Tryz.prog 26 0 Yi:=b5 bk (fn:=Tryz.f26) (fns:=[]) trivial (by kernel_rfl) (by kernel_rfl) fun _=>by kernel_rfl
def Yj:Entry:=⟨[aI au],[aZ au],N3⟩
theorem ajX:Sound Tryz.prog 264 0 Yj:=b5 bk (fn:=Tryz.f264) (fns:=[]) trivial (by kernel_rfl) (by kernel_rfl) fun _=>by kernel_rfl
def Yk:Entry:=⟨[aI (.sl au)],[ro (.sl au)],N4⟩
def ajY:List (Nat×bz):=[(3,⟨[(0,.cell (.bA au [])),(3,.cell (.ah 1)),(4,aJ)],[(1,.row au .R)],[.drop]⟩)]
def ajZ(k:Nat→al→Option (AA)):GD:=fun U ad ae=>k 3 (bd [(0,dg au U),(3,.aU (.ah 1 none)),(4,aR ad)] [(1,.row au .R 0 ae)] [.aw])
theorem aj0:Sound Tryz.prog 228 0 Yk:=bW bk (fn:=Tryz.f228) (fns:=[(264,Yj)]) ⟨ajX,trivial⟩ (by kernel_rfl) (by kernel_rfl) ajY ajZ GG vI (fun k x=>GF k x.1) (by kernel_rfl) (fun _=>by kernel_rfl) (fun _=>rfl) (fun _ _=>by kernel_rfl) (fun _=>by kernel_rfl)
def Yl:Entry:=⟨[aI I],[ro I],N6⟩
theorem aj1:Sound Tryz.prog 195 0 Yl:=b5 bk (fn:=Tryz.f195) (fns:=[(228,Yk)]) ⟨aj0,trivial⟩ (by kernel_rfl) (by kernel_rfl) fun _=>by kernel_rfl
def Ym:Entry:=⟨[aI (.sl I)],[ro (.sl I)],N7⟩
def aj2:List (Nat×bz):=[(3,⟨[(0,.cell (.bA I [])),(3,.cell (.ah 1)),(4,aJ)],[(1,.row I j_)],[.drop]⟩)]
def aj3(k:Nat→al→Option (AB)):GH:=fun U ad ae=>k 3 (bd [(0,dg I U),(3,.aU (.ah 1 none)),(4,aR ad)] [(1,.row I j_ 0 ae)] [.aw])
theorem aj4:Sound Tryz.prog 146 0 Ym:=bW bk (fn:=Tryz.f146) (fns:=[(195,Yl)]) ⟨aj1,trivial⟩ (by kernel_rfl) (by kernel_rfl) aj2 aj3 GJ vJ (fun k x=>GI k x.1) (by kernel_rfl) (fun _=>by kernel_rfl) (fun _=>rfl) (fun _ _=>by kernel_rfl) (fun _=>by kernel_rfl)
def Yn:Entry:=⟨[aI af],[ro af],N9⟩
theorem aj5:Sound Tryz.prog 82 0 Yn:=b5 bk (fn:=Tryz.f82) (fns:=[(146,Ym)]) ⟨aj4,trivial⟩ (by kernel_rfl) (by kernel_rfl) fun _=>by kernel_rfl
def Yo:Entry:=⟨[aI aE],[aZ aE],N'⟩
theorem aj6:Sound Tryz.prog 147 0 Yo:=b5 bk (fn:=Tryz.f147) (fns:=[]) trivial (by kernel_rfl) (by kernel_rfl) fun _=>by kernel_rfl
def Yp:Entry:=⟨[aI (.sl aE)],[ro (.sl aE)],Oa⟩
def aj7:List (Nat×bz):=[(3,⟨[(0,.cell (.bA aE [])),(3,.cell (.ah 1)),(4,aJ)],[(1,.row aE .R)],[.drop]⟩)]
def aj8(k:Nat→al→Option (AD)):GK:=fun U ad ae=>k 3 (bd [(0,dg aE U),(3,.aU (.ah 1 none)),(4,aR ad)] [(1,.row aE .R 0 ae)] [.aw])
theorem aj9:Sound Tryz.prog 83 0 Yp:=bW bk (fn:=Tryz.f83) (fns:=[(147,Yo)]) ⟨aj6,trivial⟩ (by kernel_rfl) (by kernel_rfl) aj7 aj8 GM vK (fun k x=>GL k x.1) (by kernel_rfl) (fun _=>by kernel_rfl) (fun _=>rfl) (fun _ _=>by kernel_rfl) (fun _=>by kernel_rfl)
def Yq:Entry:=⟨[aI aA],[aZ aA],Oc⟩
theorem aj_:Sound Tryz.prog 196 0 Yq:=b5 bk (fn:=Tryz.f196) (fns:=[]) trivial (by kernel_rfl) (by kernel_rfl) fun _=>by kernel_rfl
def Yr:Entry:=⟨[aI aO],[aZ aO],Oe⟩
theorem aj':Sound Tryz.prog 148 0 Yr:=b5 bk (fn:=Tryz.f148) (fns:=[(196,Yq)]) ⟨aj_,trivial⟩ (by kernel_rfl) (by kernel_rfl) fun _=>by kernel_rfl
def Ys:Entry:=⟨[aI (.sl aO)],[ro (.sl aO)],Of⟩
def aka:List (Nat×bz):=[(3,⟨[(0,.cell (.bA aO [])),(3,.cell (.ah 1)),(4,aJ)],[(1,.row aO .R)],[.drop]⟩)]
def akb(k:Nat→al→Option (AE)):GN:=fun U ad ae=>k 3 (bd [(0,dg aO U),(3,.aU (.ah 1 none)),(4,aR ad)] [(1,.row aO .R 0 ae)] [.aw])
theorem akc:Sound Tryz.prog 84 0 Ys:=bW bk (fn:=Tryz.f84) (fns:=[(148,Yr)]) ⟨aj',trivial⟩ (by kernel_rfl) (by kernel_rfl) aka akb GP vL (fun k x=>GO k x.1) (by kernel_rfl) (fun _=>by kernel_rfl) (fun _=>rfl) (fun _ _=>by kernel_rfl) (fun _=>by kernel_rfl)
def Yt:Entry:=⟨[aI aM],[ro aM],py⟩
theorem akd:Sound Tryz.prog 27 0 Yt:=b5 bk (fn:=Tryz.f27) (fns:=[(82,Yn),(83,Yp),(84,Ys)]) ⟨aj5,aj9,akc,trivial⟩ (by kernel_rfl) (by kernel_rfl) fun _=>by kernel_rfl
def Yu:Entry:=⟨[aI aN],[aZ aN],j9⟩
theorem ake:Sound Tryz.prog 28 0 Yu:=b5 bk (fn:=Tryz.f28) (fns:=[]) trivial (by kernel_rfl) (by kernel_rfl) fun _=>by kernel_rfl
def Yv:Entry:=⟨[aI au,aI au],[aZ .bool],Oj⟩
theorem akf:Sound Tryz.prog 265 0 Yv:=b5 bk (fn:=Tryz.f265) (fns:=[]) trivial (by kernel_rfl) (by kernel_rfl) fun _=>by kernel_rfl
def Yw:Entry:=⟨[aI (.sl au),aI (.sl au)],[aZ .bool],Ok⟩
def akg:List (Nat×bz):=[(4,⟨[(0,.cell (.bA au [])),(1,.cell (.bA au [])),(5,aJ)],[],[.drop,.drop]⟩)]
def akh(k:Nat→al→Option (Bool×Unit)):GQ:=fun U ad ae=>k 4 (bd [(0,dg au U),(1,dg au ad),(5,aR ae)] [] [.aw,.aw])
theorem aki:Sound Tryz.prog 229 0 Yw:=bW bk (fn:=Tryz.f229) (fns:=[(265,Yv)]) ⟨akf,trivial⟩ (by kernel_rfl) (by kernel_rfl) akg akh GS vM (fun k x=>GR k x.1 x.2.1) (by kernel_rfl) (fun _=>by kernel_rfl) (fun _=>rfl) (fun _ _=>by kernel_rfl) (fun _=>by kernel_rfl)
def Yx:Entry:=⟨[aI I,aI I],[aZ .bool],Om⟩
theorem akj:Sound Tryz.prog 197 0 Yx:=b5 bk (fn:=Tryz.f197) (fns:=[(229,Yw)]) ⟨aki,trivial⟩ (by kernel_rfl) (by kernel_rfl) fun _=>by kernel_rfl
def Yy:Entry:=⟨[aI (.sl I),aI (.sl I)],[aZ .bool],On⟩
def akk:List (Nat×bz):=[(4,⟨[(0,.cell (.bA I [])),(1,.cell (.bA I [])),(5,aJ)],[],[.drop,.drop]⟩)]
def akl(k:Nat→al→Option (Bool×Unit)):GU:=fun U ad ae=>k 4 (bd [(0,dg I U),(1,dg I ad),(5,aR ae)] [] [.aw,.aw])
theorem akm:Sound Tryz.prog 149 0 Yy:=bW bk (fn:=Tryz.f149) (fns:=[(197,Yx)]) ⟨akj,trivial⟩ (by kernel_rfl) (by kernel_rfl) akk akl GW vN (fun k x=>GV k x.1 x.2.1) (by kernel_rfl) (fun _=>by kernel_rfl) (fun _=>rfl) (fun _ _=>by kernel_rfl) (fun _=>by kernel_rfl)
def Yz:Entry:=⟨[aI af,aI af],[aZ .bool],Oq⟩
theorem akn:Sound Tryz.prog 85 0 Yz:=b5 bk (fn:=Tryz.f85) (fns:=[(149,Yy)]) ⟨akm,trivial⟩ (by kernel_rfl) (by kernel_rfl) fun _=>by kernel_rfl
def YA:Entry:=⟨[aI aE,aI aE],[aZ .bool],Ou⟩
theorem ako:Sound Tryz.prog 150 0 YA:=b5 bk (fn:=Tryz.f150) (fns:=[]) trivial (by kernel_rfl) (by kernel_rfl) fun _=>by kernel_rfl
def YB:Entry:=⟨[aI (.sl aE),aI (.sl aE)],[aZ .bool],Ov⟩
def akp:List (Nat×bz):=[(4,⟨[(0,.cell (.bA aE [])),(1,.cell (.bA aE [])),(5,aJ)],[],[.drop,.drop]⟩)]
def akq(k:Nat→al→Option (Bool×Unit)):GX:=fun U ad ae=>k 4 (bd [(0,dg aE U),(1,dg aE ad),(5,aR ae)] [] [.aw,.aw])
theorem akr:Sound Tryz.prog 86 0 YB:=bW bk (fn:=Tryz.f86) (fns:=[(150,YA)]) ⟨ako,trivial⟩ (by kernel_rfl) (by kernel_rfl) akp akq GZ vO (fun k x=>GY k x.1 x.2.1) (by kernel_rfl) (fun _=>by kernel_rfl) (fun _=>rfl) (fun _ _=>by kernel_rfl) (fun _=>by kernel_rfl)
def PD:Entry:=⟨[aI aA,aI aA],[aZ .bool],x1⟩
theorem YC:Sound Tryz.prog 30 0 PD:=b5 bk (fn:=Tryz.f30) (fns:=[]) trivial (by kernel_rfl) (by kernel_rfl) fun _=>by kernel_rfl
def YD:Entry:=⟨[aI aO,aI aO],[aZ .bool],Oy⟩
theorem aks:Sound Tryz.prog 151 0 YD:=b5 bk (fn:=Tryz.f151) (fns:=[(30,PD)]) ⟨YC,trivial⟩ (by kernel_rfl) (by kernel_rfl) fun _=>by kernel_rfl
def YE:Entry:=⟨[aI (.sl aO),aI (.sl aO)],[aZ .bool],Oz⟩
def akt:List (Nat×bz):=[(4,⟨[(0,.cell (.bA aO [])),(1,.cell (.bA aO [])),(5,aJ)],[],[.drop,.drop]⟩)]
def aku(k:Nat→al→Option (Bool×Unit)):G0:=fun U ad ae=>k 4 (bd [(0,dg aO U),(1,dg aO ad),(5,aR ae)] [] [.aw,.aw])
theorem akv:Sound Tryz.prog 87 0 YE:=bW bk (fn:=Tryz.f87) (fns:=[(151,YD)]) ⟨aks,trivial⟩ (by kernel_rfl) (by kernel_rfl) akt aku G5 vP (fun k x=>G4 k x.1 x.2.1) (by kernel_rfl) (fun _=>by kernel_rfl) (fun _=>rfl) (fun _ _=>by kernel_rfl) (fun _=>by kernel_rfl)
def YF:Entry:=⟨[aI aM,aI aM],[aZ .bool],x2⟩
theorem akw:Sound Tryz.prog 29 0 YF:=b5 bk (fn:=Tryz.f29) (fns:=[(85,Yz),(86,YB),(87,YE)]) ⟨akn,akr,akv,trivial⟩ (by kernel_rfl) (by kernel_rfl) fun _=>by kernel_rfl
def vW:Entry:=⟨[aI (.int .i64)],[aZ .str],pz⟩
def akx:List (Nat×bz):=[(4,⟨[(0,aJ),(3,aJ)],[],[.drop]⟩)]
def aky(k:Nat→al→Option ((List UInt8)×Unit)):G6:=fun U ad=>k 4 (bd [(0,aR U),(3,eP ad)] [] [.aw])
theorem x_:Sound Tryz.prog 78 0 vW:=bW bk (fn:=Tryz.f78) (fns:=[]) trivial (by kernel_rfl) (by kernel_rfl) akx aky G8 vQ (fun k x=>G7 k x.1) (by kernel_rfl) (fun _=>by kernel_rfl) (fun _=>rfl) (fun _ _=>by kernel_rfl) (fun _=>by kernel_rfl)
def YG:Entry:=⟨[xC (.sl au),aI (.int .i64)],[aZ (.int .i64)],OB⟩
def akz:List (Nat×bz):=[(2,⟨[(0,.cell (.ah 1)),(1,aJ),(5,aJ)],[(1,.row au .R)],[.cell (.ah 1),.drop]⟩)]
def akA(k:Nat→al→Option (vR)):x3:=fun U ad ae=>k 2 (bd [(0,.aU (.ah 1 none)),(1,aR U),(5,aR ad)] [(1,.row au .R 0 ae)] [.aU (.ah 1 none),.aw])
theorem akB:Sound Tryz.prog 164 0 YG:=bW bk (fn:=Tryz.f164) (fns:=[(78,vW)]) ⟨x_,trivial⟩ (by kernel_rfl) (by kernel_rfl) akz akA G_ qW (fun k x=>G9 k x.1 x.2.1) (by kernel_rfl) (fun _=>by kernel_rfl) (fun _=>rfl) (fun _ _=>by kernel_rfl) (fun _=>by kernel_rfl)
def YH:Entry:=⟨[xC (.sl I),aI (.int .i64)],[aZ (.int .i64)],OC⟩
def akC:List (Nat×bz):=[(2,⟨[(0,.cell (.ah 1)),(1,aJ),(5,aJ)],[(1,.row I j_)],[.cell (.ah 1),.drop]⟩)]
def akD(k:Nat→al→Option (lG)):mq:=fun U ad ae=>k 2 (bd [(0,.aU (.ah 1 none)),(1,aR U),(5,aR ad)] [(1,.row I j_ 0 ae)] [.aU (.ah 1 none),.aw])
theorem akE:Sound Tryz.prog 111 0 YH:=bW bk (fn:=Tryz.f111) (fns:=[(78,vW),(164,YG)]) ⟨x_,akB,trivial⟩ (by kernel_rfl) (by kernel_rfl) akC akD Ha qY (fun k x=>G' k x.1 x.2.1) (by kernel_rfl) (fun _=>by kernel_rfl) (fun _=>rfl) (fun _ _=>by kernel_rfl) (fun _=>by kernel_rfl)
def YI:Entry:=⟨[xC af,aI (.int .i64)],[aZ (.int .i64)],Hb⟩
theorem akF:Sound Tryz.prog 88 0 YI:=b5 bk (fn:=Tryz.f88) (fns:=[(111,YH)]) ⟨akE,trivial⟩ (by kernel_rfl) (by kernel_rfl) fun _=>by kernel_rfl
def YJ:Entry:=⟨[xC (.sl aE),aI (.int .i64)],[aZ (.int .i64)],OE⟩
def akG:List (Nat×bz):=[(2,⟨[(0,.cell (.ah 1)),(1,aJ),(5,aJ)],[(1,.row aE .R)],[.cell (.ah 1),.drop]⟩)]
def akH(k:Nat→al→Option (pB)):qZ:=fun U ad ae=>k 2 (bd [(0,.aU (.ah 1 none)),(1,aR U),(5,aR ad)] [(1,.row aE .R 0 ae)] [.aU (.ah 1 none),.aw])
theorem akI:Sound Tryz.prog 89 0 YJ:=bW bk (fn:=Tryz.f89) (fns:=[]) trivial (by kernel_rfl) (by kernel_rfl) akG akH Hd q0 (fun k x=>Hc k x.1 x.2.1) (by kernel_rfl) (fun _=>by kernel_rfl) (fun _=>rfl) (fun _ _=>by kernel_rfl) (fun _=>by kernel_rfl)
def YK:Entry:=⟨[xC (.sl aO),aI (.int .i64)],[aZ (.int .i64)],OF⟩
def akJ:List (Nat×bz):=[(2,⟨[(0,.cell (.ah 1)),(1,aJ),(5,aJ)],[(1,.row aO .R)],[.cell (.ah 1),.drop]⟩)]
def akK(k:Nat→al→Option (pC)):q1:=fun U ad ae=>k 2 (bd [(0,.aU (.ah 1 none)),(1,aR U),(5,aR ad)] [(1,.row aO .R 0 ae)] [.aU (.ah 1 none),.aw])
theorem akL:Sound Tryz.prog 90 0 YK:=bW bk (fn:=Tryz.f90) (fns:=[(78,vW)]) ⟨x_,trivial⟩ (by kernel_rfl) (by kernel_rfl) akJ akK Hf q2 (fun k x=>He k x.1 x.2.1) (by kernel_rfl) (fun _=>by kernel_rfl) (fun _=>rfl) (fun _ _=>by kernel_rfl) (fun _=>by kernel_rfl)
def YL:Entry:=⟨[xC aM,aI (.int .i64)],[aZ (.int .i64)],AF⟩
theorem akM:Sound Tryz.prog 31 0 YL:=b5 bk (fn:=Tryz.f31) (fns:=[(88,YI),(89,YJ),(90,YK)]) ⟨akF,akI,akL,trivial⟩ (by kernel_rfl) (by kernel_rfl) fun _=>by kernel_rfl
def YM:Entry:=⟨[aI (.sl au),aI (.int .i64)],[aZ (.int .i64)],OH⟩
def akN:List (Nat×bz):=[(2,⟨[(0,.cell (.bA au [])),(1,aJ),(5,aJ)],[],[.drop,.drop]⟩)]
def akO(k:Nat→al→Option (Int×Unit)):Hg:=fun U ad ae=>k 2 (bd [(0,dg au U),(1,aR ad),(5,aR ae)] [] [.aw,.aw])
theorem akP:Sound Tryz.prog 165 0 YM:=bW bk (fn:=Tryz.f165) (fns:=[(78,vW)]) ⟨x_,trivial⟩ (by kernel_rfl) (by kernel_rfl) akN akO Hi q3 (fun k x=>Hh k x.1 x.2.1) (by kernel_rfl) (fun _=>by kernel_rfl) (fun _=>rfl) (fun _ _=>by kernel_rfl) (fun _=>by kernel_rfl)
def YN:Entry:=⟨[aI (.sl I),aI (.int .i64)],[aZ (.int .i64)],OI⟩
def akQ:List (Nat×bz):=[(2,⟨[(0,.cell (.bA I [])),(1,aJ),(5,aJ)],[],[.drop,.drop]⟩)]
def akR(k:Nat→al→Option (Int×Unit)):Hj:=fun U ad ae=>k 2 (bd [(0,dg I U),(1,aR ad),(5,aR ae)] [] [.aw,.aw])
theorem akS:Sound Tryz.prog 112 0 YN:=bW bk (fn:=Tryz.f112) (fns:=[(78,vW),(165,YM)]) ⟨x_,akP,trivial⟩ (by kernel_rfl) (by kernel_rfl) akQ akR Hl q4 (fun k x=>Hk k x.1 x.2.1) (by kernel_rfl) (fun _=>by kernel_rfl) (fun _=>rfl) (fun _ _=>by kernel_rfl) (fun _=>by kernel_rfl)
def YO:Entry:=⟨[aI af,aI (.int .i64)],[aZ (.int .i64)],OK⟩
theorem akT:Sound Tryz.prog 91 0 YO:=b5 bk (fn:=Tryz.f91) (fns:=[(112,YN)]) ⟨akS,trivial⟩ (by kernel_rfl) (by kernel_rfl) fun _=>by kernel_rfl
def YP:Entry:=⟨[aI (.sl aE),aI (.int .i64)],[aZ (.int .i64)],OL⟩
def akU:List (Nat×bz):=[(2,⟨[(0,.cell (.bA aE [])),(1,aJ),(5,aJ)],[],[.drop,.drop]⟩)]
def akV(k:Nat→al→Option (Int×Unit)):Hm:=fun U ad ae=>k 2 (bd [(0,dg aE U),(1,aR ad),(5,aR ae)] [] [.aw,.aw])
theorem akW:Sound Tryz.prog 92 0 YP:=bW bk (fn:=Tryz.f92) (fns:=[]) trivial (by kernel_rfl) (by kernel_rfl) akU akV Ho q5 (fun k x=>Hn k x.1 x.2.1) (by kernel_rfl) (fun _=>by kernel_rfl) (fun _=>rfl) (fun _ _=>by kernel_rfl) (fun _=>by kernel_rfl)
def YQ:Entry:=⟨[aI (.sl aO),aI (.int .i64)],[aZ (.int .i64)],OM⟩
def akX:List (Nat×bz):=[(2,⟨[(0,.cell (.bA aO [])),(1,aJ),(5,aJ)],[],[.drop,.drop]⟩)]
def akY(k:Nat→al→Option (Int×Unit)):Hp:=fun U ad ae=>k 2 (bd [(0,dg aO U),(1,aR ad),(5,aR ae)] [] [.aw,.aw])
theorem akZ:Sound Tryz.prog 93 0 YQ:=bW bk (fn:=Tryz.f93) (fns:=[(78,vW)]) ⟨x_,trivial⟩ (by kernel_rfl) (by kernel_rfl) akX akY Hr q6 (fun k x=>Hq k x.1 x.2.1) (by kernel_rfl) (fun _=>by kernel_rfl) (fun _=>rfl) (fun _ _=>by kernel_rfl) (fun _=>by kernel_rfl)
def YR:Entry:=⟨[aI aM,aI (.int .i64)],[aZ (.int .i64)],AG⟩
theorem ak0:Sound Tryz.prog 32 0 YR:=b5 bk (fn:=Tryz.f32) (fns:=[(91,YO),(92,YP),(93,YQ)]) ⟨akT,akW,akZ,trivial⟩ (by kernel_rfl) (by kernel_rfl) fun _=>by kernel_rfl
def x':Entry:=⟨[aI aM,aI (.int .i64),aI (.int .i64),aI aN,aI (.int .i64)],[aZ .bool],Wc⟩
def ak1:List (Nat×bz):=[(9,⟨[(1,aJ),(2,aJ),(4,aJ),(5,.ptr 1),(8,.ptr 2),(12,.ptr 3),(13,.ptr 7),(14,aJ)],aF 1 aM .R []++aF 2 aN .R []++aF 3 aM .R [4,5,6]++[(4,.row aO .R),(5,.row aE .R),(6,.row I j_)]++aF 7 aA .R [],[.drop,.drop,.drop,.drop,.drop]⟩),(11,⟨[(1,aJ),(2,aJ),(4,aJ),(5,.ptr 1),(8,.ptr 2),(12,.ptr 3),(13,.ptr 7),(14,aJ),(15,.ptr 8),(16,.ptr 12),(17,.ptr 16),(18,aJ)],aF 1 aM .R []++aF 2 aN .R []++aF 3 aM .R [4,5,6]++[(4,.row aO .R),(5,.row aE .R),(6,.row I j_)]++aF 7 aA .R []++aF 8 aM aM.own []++aF 12 aM aM.own []++aF 16 aA .R [],[.drop,.drop,.drop,.drop,.drop]⟩),(28,⟨[(12,.ptr 1),(13,.ptr 5),(14,aJ),(16,.ptr 6),(20,aJ),(22,.ptr 10),(23,.ptr 14),(24,aJ)],aF 1 aM .R [2,3,4]++[(2,.row aO .R),(3,.row aE .R),(4,.row I j_)]++aF 5 aA .R []++aF 6 aM aM.own []++aF 10 aM aM.own []++aF 14 aA .R [],[.drop,.drop,.drop,.drop,.drop]⟩)]
def ak2(k:Nat→al→Option (Bool×Unit)):sC:=⟨fun U ad ae ai ar aB aW bl bQ c8 eD=>k 9 (bd [(1,aR U),(2,aR ad),(4,aR ae),(5,aC 1),(8,aC 2),(12,aC 3),(13,aC 7),(14,gB ai)] (aH 1 aM .R [] ar++aH 2 aN .R [] aB++aH 3 aM .R [4,5,6] aW++[(4,.row aO .R 0 bl),(5,.row aE .R 0 bQ),(6,.row I j_ 0 c8)]++aH 7 aA .R [] eD) [.aw,.aw,.aw,.aw,.aw]),fun U ad ae ai ar aB aW bl bQ c8 eD fY hV im Ht=>k 11 (bd [(1,aR U),(2,aR ad),(4,aR ae),(5,aC 1),(8,aC 2),(12,aC 3),(13,aC 7),(14,gB ai),(15,aC 8),(16,aC 12),(17,aC 16),(18,gB ar)] (aH 1 aM .R [] aB++aH 2 aN .R [] aW++aH 3 aM .R [4,5,6] bl++[(4,.row aO .R 0 bQ),(5,.row aE .R 0 c8),(6,.row I j_ 0 eD)]++aH 7 aA .R [] fY++aH 8 aM aM.own [] hV++aH 12 aM aM.own [] im++aH 16 aA .R [] Ht) [.aw,.aw,.aw,.aw,.aw]),fun U ad ae ai ar aB aW bl bQ c8 eD=>k 28 (bd [(12,aC 1),(13,aC 5),(14,gB U),(16,aC 6),(20,aR ad),(22,aC 10),(23,aC 14),(24,gB ae)] (aH 1 aM .R [2,3,4] ai++[(2,.row aO .R 0 ar),(3,.row aE .R 0 aB),(4,.row I j_ 0 aW)]++aH 5 aA .R [] bl++aH 6 aM aM.own [] bQ++aH 10 aM aM.own [] c8++aH 14 aA .R [] eD) [.aw,.aw,.aw,.aw,.aw])⟩
theorem ak3:Sound Tryz.prog 5 0 x':=bW bk (fn:=Tryz.f5) (fns:=[(12,Xr),(13,X9),(25,Yh),(26,Yi),(27,Yt),(28,Yu),(29,YF),(30,PD),(31,YL),(32,YR)]) ⟨ahZ,ajF,ajV,ajW,akd,ake,akw,YC,akM,ak0,trivial⟩ (by kernel_rfl) (by kernel_rfl) ak1 ak2 Wb q7 (fun k x=>Hs k x.1 x.2.1 x.2.2.1 x.2.2.2.1 x.2.2.2.2.1) (by kernel_rfl) (fun _=>by kernel_rfl) (fun _=>rfl) (fun _ _=>by kernel_rfl) (fun _=>by kernel_rfl)
end
end Go.LM.jH
