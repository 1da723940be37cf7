/- Each function keeps its contract. Printed by a program. Conditions: each theorem's own hypotheses. -/
import Derived.Test.YtklmgcjamifmaaaGreatDoorWVa
import Derived.Test.YtklmgcjamifmaaaGreatDoorWLmd
import Derived.Test.YtklmgcjamifmaaaGreatDoorChecked
import Derived.Test.YtklmgcjamifmaaaGreatDoorWIn
set_option linter.unusedVariables false
set_option linter.unusedSimpArgs false
namespace Go.LM.kF
noncomputable section
open Go.Proofs
abbrev kg:ba:=.S (.cons .R (.cons .R (.cons .R (.cons .R (.cons .R (.cons .R (.cons (.O .R) (.cons .R (.cons .R .nil)))))))))
abbrev acf:ba:=.S (.cons .R (.cons (.O kg) .nil))
abbrev cm:ba:=.S (.cons acf (.cons .R (.cons .R .nil)))
def tab:List (Nat×ad):=[(3,.int .i64),(4,.bool),(5,.int .u8),(9,.str),(22,.sl (.int .u8)),(24,.sl I),(26,af),(27,.sl (.int .i64)),(29,aH),(31,aJ),(37,aF),(46,.sl ay),(48,I),(57,aV),(60,ay),(83,.sl .bool),(105,br),(109,.sl .str),(120,aL)]
def mb:List Nat:=[15,16,17,76,88,118,122,177,190]
def eqs:List Nat:=[31,37,57,60]
theorem Ha:te Tryz.prog tab=true:=by kernel_rfl
theorem Hb:tf Tryz.prog mb=true:=by kernel_rfl
theorem Hc:tg Tryz.prog tab eqs=true:=by kernel_rfl
theorem mix:Tryz.prog.follows .mixedOrders=true:=by kernel_rfl
def bk:ku Tryz.prog:=⟨tab,mb,eqs,Ha,Hb,Hc,mix⟩
set_option maxRecDepth 100000
def Tf:Entry:=⟨[aW (.sl (.int .u8))],[bq .bool],JD⟩
theorem acg:Sound Tryz.prog 9 0 Tf:=cI bk (fn:=Tryz.f9) (fns:=[]) trivial (by kernel_rfl) (by kernel_rfl) fun _=>by kernel_rfl
def L0:Entry:=⟨[aW (.sl (.int .u8))],[.new br .R],CH⟩
def ach:List (Nat×b0):=[(3,⟨[(0,.cell (.b1 (.int .u8) [])),(3,aM),(4,aM)],[],[.drop]⟩)]
def aci(k:Nat→aq→Option (br.D×Unit)):CG:=fun U aa ae=>k 3 (bm [(0,gX (.int .u8) U),(3,aY aa),(4,aY ae)] [] [.aD])
theorem Tg:Sound Tryz.prog 40 0 L0:=cE bk (fn:=Tryz.f40) (fns:=[]) trivial (by kernel_rfl) (by kernel_rfl) ach aci w6 w7 (fun k x=>RS k x.1) (by kernel_rfl) (fun _=>by kernel_rfl) (fun _=>rfl) (fun _ _=>by kernel_rfl) (fun _=>by kernel_rfl)
def L1:Entry:=⟨[.«mut» br .R .R],[bq (.int .i64)],qF⟩
theorem Th:Sound Tryz.prog 105 0 L1:=cI bk (fn:=Tryz.f105) (fns:=[]) trivial (by kernel_rfl) (by kernel_rfl) fun _=>by kernel_rfl
def nP:Entry:=⟨[.«mut» br .R .R,aW (.int .i64)],[bq (.int .i64)],gr⟩
theorem oW:Sound Tryz.prog 76 0 nP:=cI bk (fn:=Tryz.f76) (fns:=[(105,L1)]) ⟨Th,trivial⟩ (by kernel_rfl) (by kernel_rfl) fun _=>by kernel_rfl
def xw:Entry:=⟨[.«mut» br .R .R,aW (.int .i64)],[bq .bool],r9⟩
theorem z7:Sound Tryz.prog 63 0 xw:=cI bk (fn:=Tryz.f63) (fns:=[(76,nP)]) ⟨oW,trivial⟩ (by kernel_rfl) (by kernel_rfl) fun _=>by kernel_rfl
def L2:Entry:=⟨[],[ro af],y8⟩
theorem Ti:Sound Tryz.prog 12 0 L2:=cI bk (fn:=Tryz.f12) (fns:=[]) trivial (by kernel_rfl) (by kernel_rfl) fun _=>by kernel_rfl
def Tj:Entry:=⟨[],[bq af],JG⟩
theorem acj:Sound Tryz.prog 12 0 Tj:=cI bk (fn:=Tryz.f12) (fns:=[]) trivial (by kernel_rfl) (by kernel_rfl) fun _=>by kernel_rfl
def sF:Entry:=⟨[aW af],[.val af (.S (.cons .R (.cons (.O .R) .nil)))],lZ⟩
def ack:List (Nat×b0):=[(3,⟨[(1,.ptr 1),(2,.ptr 2),(3,.ptr 4),(4,aM)],az 1 af .R []++az 2 af af.own []++az 4 af af.own [],[.drop]⟩)]
def acm(k:Nat→aq→Option (af.D×Unit)):w8:=fun U aa ae ai=>k 3 (bm [(1,aw 1),(2,aw 2),(3,aw 4),(4,aY U)] (aC 1 af .R [] aa++aC 2 af af.own [] ae++aC 4 af af.own [] ai) [.aD])
theorem vl:Sound Tryz.prog 51 0 sF:=cE bk (fn:=Tryz.f51) (fns:=[]) trivial (by kernel_rfl) (by kernel_rfl) ack acm y_ pM (fun k x=>y9 k x.1) (by kernel_rfl) (fun _=>by kernel_rfl) (fun _=>rfl) (fun _ _=>by kernel_rfl) (fun _=>by kernel_rfl)
def Tk:Entry:=⟨[aW af],[ro af],za⟩
def acn:List (Nat×b0):=[(3,⟨[(1,.ptr 1),(2,.ptr 2),(3,.ptr 4),(4,aM)],az 1 af .R []++az 2 af af.own []++az 4 af af.own [],[.drop]⟩)]
def aco(k:Nat→aq→Option (af.D×Unit)):w9:=fun U aa ae ai=>k 3 (bm [(1,aw 1),(2,aw 2),(3,aw 4),(4,aY U)] (aC 1 af .R [] aa++aC 2 af af.own [] ae++aC 4 af af.own [] ai) [.aD])
theorem acp:Sound Tryz.prog 51 0 Tk:=cE bk (fn:=Tryz.f51) (fns:=[]) trivial (by kernel_rfl) (by kernel_rfl) acn aco JH y' (fun k x=>RY k x.1) (by kernel_rfl) (fun _=>by kernel_rfl) (fun _=>rfl) (fun _ _=>by kernel_rfl) (fun _=>by kernel_rfl)
def nQ:Entry:=⟨[aW (.int .i64),aW (.int .i64),aW (.int .i64)],[bq .bool],ep⟩
theorem oX:Sound Tryz.prog 45 0 nQ:=cI bk (fn:=Tryz.f45) (fns:=[]) trivial (by kernel_rfl) (by kernel_rfl) fun _=>by kernel_rfl
def Tl:Entry:=⟨[aW aJ],[bq .bool],JK⟩
def acq:List (Nat×b0):=[(5,⟨[(1,.ptr 1)],az 1 aJ .R [],[.drop]⟩)]
def acr(k:Nat→aq→Option (Bool×Unit)):CI:=fun U=>k 5 (bm [(1,aw 1)] (aC 1 aJ .R [] U) [.aD])
theorem acs:Sound Tryz.prog 85 0 Tl:=cE bk (fn:=Tryz.f85) (fns:=[(45,nQ)]) ⟨oX,trivial⟩ (by kernel_rfl) (by kernel_rfl) acq acr JJ zb (fun k x=>CJ k x.1) (by kernel_rfl) (fun _=>by kernel_rfl) (fun _=>rfl) (fun _ _=>by kernel_rfl) (fun _=>by kernel_rfl)
def Fv:Entry:=⟨[aW (.int .u8)],[bq .bool],zc⟩
theorem L3:Sound Tryz.prog 107 0 Fv:=cI bk (fn:=Tryz.f107) (fns:=[]) trivial (by kernel_rfl) (by kernel_rfl) fun _=>by kernel_rfl
def L4:Entry:=⟨[aW .str],[bq .bool],zd⟩
def acu:List (Nat×b0):=[(4,⟨[(0,aM),(3,aM)],[],[.drop]⟩)]
def acv(k:Nat→aq→Option (Bool×Unit)):CK:=fun U aa=>k 4 (bm [(0,eo U),(3,aY aa)] [] [.aD])
theorem Tm:Sound Tryz.prog 81 0 L4:=cE bk (fn:=Tryz.f81) (fns:=[(45,nQ),(107,Fv)]) ⟨oX,L3,trivial⟩ (by kernel_rfl) (by kernel_rfl) acu acv CM ui (fun k x=>CL k x.1) (by kernel_rfl) (fun _=>by kernel_rfl) (fun _=>rfl) (fun _ _=>by kernel_rfl) (fun _=>by kernel_rfl)
def z8:Entry:=⟨[aW aH],[bq .bool],w_⟩
def acw:List (Nat×b0):=[(4,⟨[(1,.ptr 1),(3,aM)],az 1 aH .R [],[.drop]⟩)]
def acx(k:Nat→aq→Option (Bool×Unit)):CN:=fun U aa=>k 4 (bm [(1,aw 1),(3,aY U)] (aC 1 aH .R [] aa) [.aD])
theorem Fw:Sound Tryz.prog 20 0 z8:=cE bk (fn:=Tryz.f20) (fns:=[(45,nQ)]) ⟨oX,trivial⟩ (by kernel_rfl) (by kernel_rfl) acw acx CP uj (fun k x=>CO k x.1) (by kernel_rfl) (fun _=>by kernel_rfl) (fun _=>rfl) (fun _ _=>by kernel_rfl) (fun _=>by kernel_rfl)
def L5:Entry:=⟨[aW aH,aW (.int .i64)],[bq .bool],um⟩
def acy:List (Nat×b0):=[(5,⟨[(1,aM),(2,.ptr 1),(5,aM),(6,aM)],az 1 aH .R [],[.drop,.drop]⟩)]
def acz(k:Nat→aq→Option (Bool×Unit)):CQ:=fun U aa ae ai=>k 5 (bm [(1,aY U),(2,aw 1),(5,jO aa),(6,aY ae)] (aC 1 aH .R [] ai) [.aD,.aD])
theorem Tn:Sound Tryz.prog 130 0 L5:=cE bk (fn:=Tryz.f130) (fns:=[(20,z8)]) ⟨Fw,trivial⟩ (by kernel_rfl) (by kernel_rfl) acy acz CS uk (fun k x=>CR k x.1 x.2.1) (by kernel_rfl) (fun _=>by kernel_rfl) (fun _=>rfl) (fun _ _=>by kernel_rfl) (fun _=>by kernel_rfl)
def sG:Entry:=⟨[aW aH,aW I,aW (.int .i64)],[bq .bool],jj⟩
theorem vm:Sound Tryz.prog 109 0 sG:=cI bk (fn:=Tryz.f109) (fns:=[(20,z8),(45,nQ),(130,L5)]) ⟨Fw,oX,Tn,trivial⟩ (by kernel_rfl) (by kernel_rfl) fun _=>by kernel_rfl
def L6:Entry:=⟨[aW .str],[bq .bool],CW⟩
def acA:List (Nat×b0):=[(4,⟨[(0,aM),(3,aM)],[],[.drop]⟩)]
def acB(k:Nat→aq→Option (Bool×Unit)):CT:=fun U aa=>k 4 (bm [(0,eo U),(3,aY aa)] [] [.aD])
theorem To:Sound Tryz.prog 64 0 L6:=cE bk (fn:=Tryz.f64) (fns:=[(45,nQ),(107,Fv)]) ⟨oX,L3,trivial⟩ (by kernel_rfl) (by kernel_rfl) acA acB CV uo (fun k x=>CU k x.1) (by kernel_rfl) (fun _=>by kernel_rfl) (fun _=>rfl) (fun _ _=>by kernel_rfl) (fun _=>by kernel_rfl)
def pY:Entry:=⟨[aW af,aW (.int .i64)],[bq (.int .i64)],jQ⟩
def acC:List (Nat×b0):=[(2,⟨[(1,aM),(2,.ptr 1),(5,aM)],az 1 af .R [],[.drop,.drop]⟩)]
def acD(k:Nat→aq→Option (Int×Unit)):CX:=fun U aa ae=>k 2 (bm [(1,aY U),(2,aw 1),(5,aY aa)] (aC 1 af .R [] ae) [.aD,.aD])
theorem q7:Sound Tryz.prog 83 0 pY:=cE bk (fn:=Tryz.f83) (fns:=[]) trivial (by kernel_rfl) (by kernel_rfl) acC acD CZ uq (fun k x=>CY k x.1 x.2.1) (by kernel_rfl) (fun _=>by kernel_rfl) (fun _=>rfl) (fun _ _=>by kernel_rfl) (fun _=>by kernel_rfl)
def Tp:Entry:=⟨[aW .str],[ro (.sl .str)],xa⟩
def acE:List (Nat×b0):=[(4,⟨[(0,aM),(3,.cell (.ag 1)),(4,aM),(5,aM)],[(1,.row .str .R)],[.drop]⟩)]
def acF(k:Nat→aq→Option (ze)):C0:=fun U aa ae ai=>k 4 (bm [(0,eo U),(3,.aT (.ag 1 none)),(4,aY aa),(5,aY ae)] [(1,.row .str .R 0 ai)] [.aD])
theorem acG:Sound Tryz.prog 108 0 Tp:=cE bk (fn:=Tryz.f108) (fns:=[]) trivial (by kernel_rfl) (by kernel_rfl) acE acF zf qG (fun k x=>C1 k x.1) (by kernel_rfl) (fun _=>by kernel_rfl) (fun _=>rfl) (fun _ _=>by kernel_rfl) (fun _=>by kernel_rfl)
def L7:Entry:=⟨[aW af,aW (.int .i64)],[bq (.int .i64)],C3⟩
def acH:List (Nat×b0):=[(2,⟨[(1,aM),(2,.ptr 1),(5,aM)],az 1 af .R [],[.drop,.drop]⟩),(5,⟨[(1,aM),(2,.ptr 1),(5,aM),(6,aM)],az 1 af .R [],[.drop,.drop]⟩)]
def acI(k:Nat→aq→Option (Int×Unit)):ur:=⟨fun U aa ae=>k 2 (bm [(1,aY U),(2,aw 1),(5,aY aa)] (aC 1 af .R [] ae) [.aD,.aD]),fun U aa ae ai=>k 5 (bm [(1,aY U),(2,aw 1),(5,aY aa),(6,aY ae)] (aC 1 af .R [] ai) [.aD,.aD])⟩
theorem Tq:Sound Tryz.prog 110 0 L7:=cE bk (fn:=Tryz.f110) (fns:=[]) trivial (by kernel_rfl) (by kernel_rfl) acH acI RZ kG (fun k x=>C2 k x.1 x.2.1) (by kernel_rfl) (fun _=>by kernel_rfl) (fun _=>rfl) (fun _ _=>by kernel_rfl) (fun _=>by kernel_rfl)
def Tr:Entry:=⟨[aW af,aW (.int .i64),aW .str],[bq (.int .i64)],JN⟩
def acJ:List (Nat×b0):=[(3,⟨[(2,aM),(7,.cell (.b1 ay [])),(8,aM)],[],[.drop,.drop,.drop]⟩)]
def acK(k:Nat→aq→Option (Int×Unit)):C4:=fun U aa ae=>k 3 (bm [(2,eo U),(7,gX ay aa),(8,aY ae)] [] [.aD,.aD,.aD])
theorem acL:Sound Tryz.prog 111 0 Tr:=cE bk (fn:=Tryz.f111) (fns:=[(83,pY)]) ⟨q7,trivial⟩ (by kernel_rfl) (by kernel_rfl) acJ acK C6 r_ (fun k x=>C5 k x.1 x.2.1 x.2.2.1) (by kernel_rfl) (fun _=>by kernel_rfl) (fun _=>rfl) (fun _ _=>by kernel_rfl) (fun _=>by kernel_rfl)
def L8:Entry:=⟨[aW af,aW aH,aW .str,aW .bool],[bq aV],C7⟩
def acM:List (Nat×b0):=[(4,⟨[(3,aM),(4,.ptr 1),(5,.ptr 2),(8,.ptr 3),(9,.cell (.au 4)),(10,aM),(11,aM)],az 1 af .R []++az 2 aH .R []++az 3 aV .R []++[(4,.row .str .R)],[.drop,.drop,.drop,.drop]⟩),(21,⟨[(3,aM),(4,.ptr 1),(5,.ptr 2),(8,.ptr 3),(9,.cell (.au 4)),(10,aM),(11,aM),(12,aM),(13,aM),(14,aM),(15,.ptr 5)],az 1 af .R []++az 2 aH .R []++az 3 aV .R []++[(4,.row .str .R)]++az 5 I .R [],[.drop,.drop,.drop,.drop]⟩),(22,⟨[(3,aM),(4,.ptr 1),(5,.ptr 2),(8,.ptr 3),(9,.cell (.au 4)),(10,aM),(11,aM),(15,.ptr 5)],az 1 af .R []++az 2 aH .R []++az 3 aV .R []++[(4,.row .str .R)]++az 5 I .R [],[.drop,.drop,.drop,.drop]⟩),(30,⟨[(3,aM),(4,.ptr 1),(5,.ptr 2),(8,.ptr 3),(9,.cell (.au 4)),(10,aM),(11,aM),(12,aM),(13,aM),(14,aM),(15,.ptr 5)],az 1 af .R []++az 2 aH .R []++az 3 aV .R []++[(4,.row .str .R)]++az 5 I .R [],[.drop,.drop,.drop,.drop]⟩),(27,⟨[(3,aM),(4,.ptr 1),(5,.ptr 2),(8,.ptr 3),(9,.cell (.au 4)),(10,aM),(11,aM),(15,.ptr 5)],az 1 af .R []++az 2 aH .R []++az 3 aV .R []++[(4,.row .str .R)]++az 5 I .R [],[.drop,.drop,.drop,.drop]⟩)]
def acN(k:Nat→aq→Option (aV.D×Unit)):pN:=⟨fun U aa ae ai an aB aZ bD b_=>k 4 (bm [(3,jO U),(4,aw 1),(5,aw 2),(8,aw 3),(9,.aT (.ag 4 (some (aa,ae)))),(10,aY ai),(11,aY an)] (aC 1 af .R [] aB++aC 2 aH .R [] aZ++aC 3 aV .R [] bD++[(4,.row .str .R 0 b_)]) [.aD,.aD,.aD,.aD]),fun U aa ae ai an aB aZ bD b_ er kH kI kb=>k 21 (bm [(3,jO U),(4,aw 1),(5,aw 2),(8,aw 3),(9,.aT (.ag 4 (some (aa,ae)))),(10,aY ai),(11,aY an),(12,eo aB),(13,jO aZ),(14,aY bD),(15,aw 5)] (aC 1 af .R [] b_++aC 2 aH .R [] er++aC 3 aV .R [] kH++[(4,.row .str .R 0 kI)]++aC 5 I .R [] kb) [.aD,.aD,.aD,.aD]),fun U aa ae ai an aB aZ bD b_ er=>k 22 (bm [(3,jO U),(4,aw 1),(5,aw 2),(8,aw 3),(9,.aT (.ag 4 (some (aa,ae)))),(10,aY ai),(11,aY an),(15,aw 5)] (aC 1 af .R [] aB++aC 2 aH .R [] aZ++aC 3 aV .R [] bD++[(4,.row .str .R 0 b_)]++aC 5 I .R [] er) [.aD,.aD,.aD,.aD]),fun U aa ae ai an aB aZ bD b_ er kH kI kb=>k 30 (bm [(3,jO U),(4,aw 1),(5,aw 2),(8,aw 3),(9,.aT (.ag 4 (some (aa,ae)))),(10,aY ai),(11,aY an),(12,eo aB),(13,jO aZ),(14,aY bD),(15,aw 5)] (aC 1 af .R [] b_++aC 2 aH .R [] er++aC 3 aV .R [] kH++[(4,.row .str .R 0 kI)]++aC 5 I .R [] kb) [.aD,.aD,.aD,.aD]),fun U aa ae ai an aB aZ bD b_ er=>k 27 (bm [(3,jO U),(4,aw 1),(5,aw 2),(8,aw 3),(9,.aT (.ag 4 (some (aa,ae)))),(10,aY ai),(11,aY an),(15,aw 5)] (aC 1 af .R [] aB++aC 2 aH .R [] aZ++aC 3 aV .R [] bD++[(4,.row .str .R 0 b_)]++aC 5 I .R [] er) [.aD,.aD,.aD,.aD])⟩
theorem Ts:Sound Tryz.prog 65 0 L8:=cE bk (fn:=Tryz.f65) (fns:=[(83,pY),(108,Tp),(109,sG),(110,L7),(111,Tr)]) ⟨q7,acG,vm,Tq,acL,trivial⟩ (by kernel_rfl) (by kernel_rfl) acM acN R0 dd (fun k x=>xb k x.1 x.2.1 x.2.2.1 x.2.2.2.1) (by kernel_rfl) (fun _=>by kernel_rfl) (fun _=>rfl) (fun _ _=>by kernel_rfl) (fun _=>by kernel_rfl)
def L9:Entry:=⟨[aW af,aW aH,aW .str],[bq aV,bq (.int .i64)],ux⟩
theorem Tt:Sound Tryz.prog 119 0 L9:=cI bk (fn:=Tryz.f119) (fns:=[(64,L6),(65,L8)]) ⟨To,Ts,trivial⟩ (by kernel_rfl) (by kernel_rfl) fun _=>by kernel_rfl
def pZ:Entry:=⟨[aW af,aW (.int .i64)],[bq I],eS⟩
theorem q8:Sound Tryz.prog 120 0 pZ:=cI bk (fn:=Tryz.f120) (fns:=[(83,pY)]) ⟨q7,trivial⟩ (by kernel_rfl) (by kernel_rfl) fun _=>by kernel_rfl
def Fx:Entry:=⟨[aW af],[bq (.int .i64)],zk⟩
def acO:List (Nat×b0):=[(3,⟨[(1,.ptr 1),(3,aM),(4,aM)],az 1 af .R [],[.drop]⟩)]
def acP(k:Nat→aq→Option (Int×Unit)):C8:=fun U aa ae=>k 3 (bm [(1,aw 1),(3,aY U),(4,aY aa)] (aC 1 af .R [] ae) [.aD])
theorem L_:Sound Tryz.prog 49 0 Fx:=cE bk (fn:=Tryz.f49) (fns:=[]) trivial (by kernel_rfl) (by kernel_rfl) acO acP C_ uy (fun k x=>C9 k x.1) (by kernel_rfl) (fun _=>by kernel_rfl) (fun _=>rfl) (fun _ _=>by kernel_rfl) (fun _=>by kernel_rfl)
def L':Entry:=⟨[aW af,aW (.int .i64)],[ro (.sl .bool)],Da⟩
def acQ:List (Nat×b0):=[(8,⟨[(2,.ptr 1),(5,.cell (.ag 2)),(6,.cell (.ag 3)),(8,aM)],az 1 af .R []++[(2,.row .bool .R),(3,.row .bool .R)],[.drop,.drop]⟩),(11,⟨[(2,.ptr 1),(5,.cell (.ag 2)),(6,.cell (.ag 3)),(8,aM),(9,aM)],az 1 af .R []++[(2,.row .bool .R),(3,.row .bool .R)],[.drop,.drop]⟩),(15,⟨[(2,.ptr 1),(5,.cell (.ag 2)),(6,.cell (.ag 3)),(8,aM),(9,aM),(10,aM)],az 1 af .R []++[(2,.row .bool .R),(3,.row .bool .R)],[.drop,.drop]⟩)]
def acR(k:Nat→aq→Option ((List Bool)×Unit)):qH:=⟨fun U aa ae ai=>k 8 (bm [(2,aw 1),(5,.aT (.ag 2 none)),(6,.aT (.ag 3 none)),(8,aY U)] (aC 1 af .R [] aa++[(2,.row .bool .R 0 ae),(3,.row .bool .R 0 ai)]) [.aD,.aD]),fun U aa ae ai an=>k 11 (bm [(2,aw 1),(5,.aT (.ag 2 none)),(6,.aT (.ag 3 none)),(8,aY U),(9,aY aa)] (aC 1 af .R [] ae++[(2,.row .bool .R 0 ai),(3,.row .bool .R 0 an)]) [.aD,.aD]),fun U aa ae ai an aB=>k 15 (bm [(2,aw 1),(5,.aT (.ag 2 none)),(6,.aT (.ag 3 none)),(8,aY U),(9,aY aa),(10,aY ae)] (aC 1 af .R [] ai++[(2,.row .bool .R 0 an),(3,.row .bool .R 0 aB)]) [.aD,.aD])⟩
theorem Tu:Sound Tryz.prog 47 0 L':=cE bk (fn:=Tryz.f47) (fns:=[(83,pY)]) ⟨q7,trivial⟩ (by kernel_rfl) (by kernel_rfl) acQ acR R1 kc (fun k x=>C' k x.1 x.2.1) (by kernel_rfl) (fun _=>by kernel_rfl) (fun _=>rfl) (fun _ _=>by kernel_rfl) (fun _=>by kernel_rfl)
def Ma:Entry:=⟨[aW af,aW (.int .i64)],[bq (.int .i64),bq (.int .i64)],zn⟩
def acS:List (Nat×b0):=[(5,⟨[(2,.ptr 1),(6,.cell (.ag 2)),(7,aM),(8,aM),(9,aM)],az 1 af .R []++[(2,.row .bool .R)],[.drop,.drop]⟩)]
def acT(k:Nat→aq→Option (Int×Int×Unit)):Db:=fun U aa ae ai an=>k 5 (bm [(2,aw 1),(6,.aT (.ag 2 none)),(7,aY U),(8,aY aa),(9,aY ae)] (aC 1 af .R [] ai++[(2,.row .bool .R 0 an)]) [.aD,.aD])
theorem Tv:Sound Tryz.prog 84 0 Ma:=cE bk (fn:=Tryz.f84) (fns:=[(47,L')]) ⟨Tu,trivial⟩ (by kernel_rfl) (by kernel_rfl) acS acT Dd uA (fun k x=>Dc k x.1 x.2.1) (by kernel_rfl) (fun _=>by kernel_rfl) (fun _=>rfl) (fun _ _=>by kernel_rfl) (fun _=>by kernel_rfl)
def Mb:Entry:=⟨[aW af],[bq .bool],Df⟩
def acU:List (Nat×b0):=[(2,⟨[(1,.ptr 1),(3,aM)],az 1 af .R [],[.drop]⟩),(6,⟨[(1,.ptr 1),(3,aM),(4,.ptr 2)],az 1 af .R []++az 2 I .R [],[.drop]⟩)]
def acV(k:Nat→aq→Option (Bool×Unit)):uB:=⟨fun U aa=>k 2 (bm [(1,aw 1),(3,aY U)] (aC 1 af .R [] aa) [.aD]),fun U aa ae=>k 6 (bm [(1,aw 1),(3,aY U),(4,aw 2)] (aC 1 af .R [] aa++aC 2 I .R [] ae) [.aD])⟩
theorem Tw:Sound Tryz.prog 50 0 Mb:=cE bk (fn:=Tryz.f50) (fns:=[(84,Ma)]) ⟨Tv,trivial⟩ (by kernel_rfl) (by kernel_rfl) acU acV R2 kd (fun k x=>De k x.1) (by kernel_rfl) (fun _=>by kernel_rfl) (fun _=>rfl) (fun _ _=>by kernel_rfl) (fun _=>by kernel_rfl)
def Tx:Entry:=⟨[aW af],[bq (.int .i64)],JR⟩
theorem acW:Sound Tryz.prog 156 0 Tx:=cI bk (fn:=Tryz.f156) (fns:=[(49,Fx),(50,Mb)]) ⟨L_,Tw,trivial⟩ (by kernel_rfl) (by kernel_rfl) fun _=>by kernel_rfl
def xx:Entry:=⟨[aW af,.val af (.S (.cons .R (.cons (.O .R) .nil)))],[bq af,bq aF],qJ⟩
theorem z_:Sound Tryz.prog 121 0 xx:=cI bk (fn:=Tryz.f121) (fns:=[(156,Tx)]) ⟨acW,trivial⟩ (by kernel_rfl) (by kernel_rfl) fun _=>by kernel_rfl
def xy:Entry:=⟨[.val af (.S (.cons .R (.cons (.O .R) .nil))),CB I],[.val af (.S (.cons .R (.cons (.O .R) .nil)))],oK⟩
theorem z':Sound Tryz.prog 123 0 xy:=cI bk (fn:=Tryz.f123) (fns:=[(83,pY)]) ⟨q7,trivial⟩ (by kernel_rfl) (by kernel_rfl) fun _=>by kernel_rfl
def Fy:Entry:=⟨[.val af (.S (.cons .R (.cons (.O .R) .nil))),aW (.int .i64),aW .str,aW (.int .i64)],[.val af (.S (.cons .R (.cons (.O .R) .nil)))],sc⟩
def acX:List (Nat×b0):=[(5,⟨[(2,aM),(3,aM),(4,.ptr 1),(8,.ptr 3),(9,.ptr 5),(10,.cell (.ag 6)),(11,aM),(12,aM)],az 1 af (.S (.cons .R (.cons (.O .R) .nil))) []++az 3 af af.own []++az 5 I .R [2]++[(6,.row ay .R)],[.drop,.drop,.drop,.drop]⟩),(10,⟨[(2,aM),(3,aM),(4,.ptr 1),(8,.ptr 3),(9,.ptr 5),(10,.cell (.ag 6)),(11,aM),(12,aM)],az 1 af (.S (.cons .R (.cons (.O .R) .nil))) []++az 3 af af.own []++az 5 I .R [2]++[(6,.row ay .R)],[.drop,.drop,.drop,.drop]⟩),(13,⟨[(4,.ptr 1),(8,.ptr 3),(9,.ptr 5),(10,.cell (.ag 6))],az 1 af (.S (.cons .R (.cons (.O .R) .nil))) []++az 3 af af.own []++az 5 I .R [2]++[(6,.row ay .R)],[.drop,.drop,.drop,.drop]⟩)]
def acY(k:Nat→aq→Option (af.D×Unit)):sb:=⟨fun U aa ae ai an aB aZ bD=>k 5 (bm [(2,eo U),(3,aY aa),(4,aw 1),(8,aw 3),(9,aw 5),(10,.aT (.ag 6 none)),(11,jO ae),(12,aY ai)] (aC 1 af (.S (.cons .R (.cons (.O .R) .nil))) [] an++aC 3 af af.own [] aB++aC 5 I .R [2] aZ++[(6,.row ay .R 0 bD)]) [.aD,.aD,.aD,.aD]),fun U aa ae ai an aB aZ bD=>k 10 (bm [(2,eo U),(3,aY aa),(4,aw 1),(8,aw 3),(9,aw 5),(10,.aT (.ag 6 none)),(11,jO ae),(12,aY ai)] (aC 1 af (.S (.cons .R (.cons (.O .R) .nil))) [] an++aC 3 af af.own [] aB++aC 5 I .R [2] aZ++[(6,.row ay .R 0 bD)]) [.aD,.aD,.aD,.aD]),fun U aa ae ai=>k 13 (bm [(4,aw 1),(8,aw 3),(9,aw 5),(10,.aT (.ag 6 none))] (aC 1 af (.S (.cons .R (.cons (.O .R) .nil))) [] U++aC 3 af af.own [] aa++aC 5 I .R [2] ae++[(6,.row ay .R 0 ai)]) [.aD,.aD,.aD,.aD])⟩
theorem Mc:Sound Tryz.prog 122 0 Fy:=cE bk (fn:=Tryz.f122) (fns:=[(120,pZ),(123,xy)]) ⟨q8,z',trivial⟩ (by kernel_rfl) (by kernel_rfl) acX acY R4 iO (fun k x=>Dg k x.1 x.2.1 x.2.2.1 x.2.2.2.1) (by kernel_rfl) (fun _=>by kernel_rfl) (fun _=>rfl) (fun _ _=>by kernel_rfl) (fun _=>by kernel_rfl)
def Ty:Entry:=⟨[CB af,aW aH,aW aJ],[bq af,bq aF],uD⟩
def acZ:List (Nat×b0):=[(3,⟨[(3,.ptr 1),(4,.ptr 2),(5,.ptr 3),(6,.ptr 4),(7,.ptr 6)],az 1 af .R []++az 2 aH .R []++az 3 aJ .R []++az 4 af af.own []++az 6 aF .R [],[.drop,.drop,.drop]⟩),(14,⟨[(3,.ptr 1),(5,.ptr 2),(6,.ptr 3),(7,.ptr 5),(8,.ptr 6),(10,.ptr 7),(11,.ptr 8)],az 1 af .R []++az 2 aJ .R []++az 3 af af.own []++az 5 aF .R []++az 6 aV .R []++az 7 I .R []++az 8 I I.own [],[.drop,.drop,.drop]⟩),(18,⟨[(3,.ptr 1),(6,.ptr 2),(7,.ptr 4),(8,.ptr 5),(10,.ptr 6),(11,.ptr 7)],az 1 af .R []++az 2 af af.own []++az 4 aF .R []++az 5 aV .R []++az 6 I .R []++az 7 I I.own [],[.drop,.drop,.drop]⟩),(22,⟨[(3,.ptr 1),(6,.ptr 2),(7,.ptr 4),(8,.ptr 5),(11,.ptr 6)],az 1 af .R []++az 2 af af.own []++az 4 aF .R []++az 5 aV .R []++az 6 I I.own [],[.drop,.drop,.drop]⟩)]
def ac0(k:Nat→aq→Option (oM)):qK:=⟨fun U aa ae ai an=>k 3 (bm [(3,aw 1),(4,aw 2),(5,aw 3),(6,aw 4),(7,aw 6)] (aC 1 af .R [] U++aC 2 aH .R [] aa++aC 3 aJ .R [] ae++aC 4 af af.own [] ai++aC 6 aF .R [] an) [.aD,.aD,.aD]),fun U aa ae ai an aB aZ=>k 14 (bm [(3,aw 1),(5,aw 2),(6,aw 3),(7,aw 5),(8,aw 6),(10,aw 7),(11,aw 8)] (aC 1 af .R [] U++aC 2 aJ .R [] aa++aC 3 af af.own [] ae++aC 5 aF .R [] ai++aC 6 aV .R [] an++aC 7 I .R [] aB++aC 8 I I.own [] aZ) [.aD,.aD,.aD]),fun U aa ae ai an aB=>k 18 (bm [(3,aw 1),(6,aw 2),(7,aw 4),(8,aw 5),(10,aw 6),(11,aw 7)] (aC 1 af .R [] U++aC 2 af af.own [] aa++aC 4 aF .R [] ae++aC 5 aV .R [] ai++aC 6 I .R [] an++aC 7 I I.own [] aB) [.aD,.aD,.aD]),fun U aa ae ai an=>k 22 (bm [(3,aw 1),(6,aw 2),(7,aw 4),(8,aw 5),(11,aw 6)] (aC 1 af .R [] U++aC 2 af af.own [] aa++aC 4 aF .R [] ae++aC 5 aV .R [] ai++aC 6 I I.own [] an) [.aD,.aD,.aD])⟩
theorem ac1:Sound Tryz.prog 86 0 Ty:=cE bk (fn:=Tryz.f86) (fns:=[(45,nQ),(51,sF),(81,L4),(109,sG),(119,L9),(120,pZ),(121,xx),(122,Fy),(123,xy)]) ⟨oX,vl,Tm,vm,Tt,q8,z_,Mc,z',trivial⟩ (by kernel_rfl) (by kernel_rfl) acZ ac0 R5 jR (fun k x=>Dh k x.1 x.2.1 x.2.2.1) (by kernel_rfl) (fun _=>by kernel_rfl) (fun _=>rfl) (fun _ _=>by kernel_rfl) (fun _=>by kernel_rfl)
def vn:Entry:=⟨[aW af,aW aH,aW .str,aW .bool],[bq aV],dQ⟩
theorem xz:Sound Tryz.prog 124 0 vn:=cI bk (fn:=Tryz.f124) (fns:=[(64,L6),(65,L8)]) ⟨To,Ts,trivial⟩ (by kernel_rfl) (by kernel_rfl) fun _=>by kernel_rfl
def Md:Entry:=⟨[aW aH,aW I,aW I],[bq .bool],xc⟩
theorem Tz:Sound Tryz.prog 125 0 Md:=cI bk (fn:=Tryz.f125) (fns:=[(20,z8)]) ⟨Fw,trivial⟩ (by kernel_rfl) (by kernel_rfl) fun _=>by kernel_rfl
def Fz:Entry:=⟨[aW af,aW (.int .i64)],[bq (.int .i64)],zs⟩
def ac2:List (Nat×b0):=[(3,⟨[(1,aM),(2,.ptr 1),(5,aM),(6,aM)],az 1 af .R [],[.drop,.drop]⟩),(6,⟨[(1,aM),(2,.ptr 1),(5,aM),(6,aM),(7,aM)],az 1 af .R [],[.drop,.drop]⟩)]
def ac3(k:Nat→aq→Option (Int×Unit)):uE:=⟨fun U aa ae ai=>k 3 (bm [(1,aY U),(2,aw 1),(5,aY aa),(6,aY ae)] (aC 1 af .R [] ai) [.aD,.aD]),fun U aa ae ai an=>k 6 (bm [(1,aY U),(2,aw 1),(5,aY aa),(6,aY ae),(7,aY ai)] (aC 1 af .R [] an) [.aD,.aD])⟩
theorem Me:Sound Tryz.prog 48 0 Fz:=cE bk (fn:=Tryz.f48) (fns:=[]) trivial (by kernel_rfl) (by kernel_rfl) ac2 ac3 R6 pP (fun k x=>Di k x.1 x.2.1) (by kernel_rfl) (fun _=>by kernel_rfl) (fun _=>rfl) (fun _ _=>by kernel_rfl) (fun _=>by kernel_rfl)
def Mf:Entry:=⟨[.val af (.S (.cons .R (.cons (.O .R) .nil))),aW (.int .i64),aW .str],[.val af (.S (.cons .R (.cons (.O .R) .nil)))],oN⟩
def ac4:List (Nat×b0):=[(5,⟨[(2,aM),(3,.ptr 1),(6,.ptr 3),(7,.ptr 5),(8,aM),(9,.cell (.ag 6)),(10,aM)],az 1 af (.S (.cons .R (.cons (.O .R) .nil))) []++az 3 af af.own []++az 5 I .R [2]++[(6,.row ay .R)],[.drop,.drop,.drop]⟩),(16,⟨[(3,.ptr 1),(6,.ptr 3),(8,aM),(11,.cell (.ag 5)),(12,aM)],az 1 af (.S (.cons .R (.cons (.O .R) .nil))) []++az 3 af af.own []++[(5,.row I .R)],[.drop,.drop,.drop]⟩)]
def ac5(k:Nat→aq→Option (af.D×Unit)):uF:=⟨fun U aa ae ai an aB aZ=>k 5 (bm [(2,eo U),(3,aw 1),(6,aw 3),(7,aw 5),(8,aY aa),(9,.aT (.ag 6 none)),(10,aY ae)] (aC 1 af (.S (.cons .R (.cons (.O .R) .nil))) [] ai++aC 3 af af.own [] an++aC 5 I .R [2] aB++[(6,.row ay .R 0 aZ)]) [.aD,.aD,.aD]),fun U aa ae ai an=>k 16 (bm [(3,aw 1),(6,aw 3),(8,aY U),(11,.aT (.ag 5 none)),(12,aY aa)] (aC 1 af (.S (.cons .R (.cons (.O .R) .nil))) [] ae++aC 3 af af.own [] ai++[(5,.row I .R 0 an)]) [.aD,.aD,.aD])⟩
theorem TA:Sound Tryz.prog 126 0 Mf:=cE bk (fn:=Tryz.f126) (fns:=[(48,Fz),(120,pZ),(123,xy)]) ⟨Me,q8,z',trivial⟩ (by kernel_rfl) (by kernel_rfl) ac4 ac5 R7 k_ (fun k x=>Dj k x.1 x.2.1 x.2.2.1) (by kernel_rfl) (fun _=>by kernel_rfl) (fun _=>rfl) (fun _ _=>by kernel_rfl) (fun _=>by kernel_rfl)
def TB:Entry:=⟨[aW af,aW aH,aW aJ],[bq af,bq aF],zv⟩
def ac6:List (Nat×b0):=[(7,⟨[(3,.ptr 1),(4,.ptr 2),(5,.ptr 3),(6,.ptr 4),(7,.ptr 6),(8,.ptr 7),(9,.ptr 8)],az 1 af .R []++az 2 aH .R []++az 3 aJ .R []++az 4 af af.own []++az 6 aF .R []++az 7 aV .R []++az 8 I .R [],[.drop,.drop,.drop]⟩),(9,⟨[(3,.ptr 1),(4,.ptr 2),(5,.ptr 3),(6,.ptr 4),(7,.ptr 6),(8,.ptr 7),(9,.ptr 8)],az 1 af .R []++az 2 aH .R []++az 3 aJ .R []++az 4 af af.own []++az 6 aF .R []++az 7 aV .R []++az 8 I .R [],[.drop,.drop,.drop]⟩),(11,⟨[(3,.ptr 1),(4,.ptr 2),(6,.ptr 3),(7,.ptr 5),(8,.ptr 6),(9,.ptr 7)],az 1 af .R []++az 2 aH .R []++az 3 af af.own []++az 5 aF .R []++az 6 aV .R []++az 7 I .R [],[.drop,.drop,.drop]⟩)]
def ac7(k:Nat→aq→Option (qM)):sd:=⟨fun U aa ae ai an aB aZ=>k 7 (bm [(3,aw 1),(4,aw 2),(5,aw 3),(6,aw 4),(7,aw 6),(8,aw 7),(9,aw 8)] (aC 1 af .R [] U++aC 2 aH .R [] aa++aC 3 aJ .R [] ae++aC 4 af af.own [] ai++aC 6 aF .R [] an++aC 7 aV .R [] aB++aC 8 I .R [] aZ) [.aD,.aD,.aD]),fun U aa ae ai an aB aZ=>k 9 (bm [(3,aw 1),(4,aw 2),(5,aw 3),(6,aw 4),(7,aw 6),(8,aw 7),(9,aw 8)] (aC 1 af .R [] U++aC 2 aH .R [] aa++aC 3 aJ .R [] ae++aC 4 af af.own [] ai++aC 6 aF .R [] an++aC 7 aV .R [] aB++aC 8 I .R [] aZ) [.aD,.aD,.aD]),fun U aa ae ai an aB=>k 11 (bm [(3,aw 1),(4,aw 2),(6,aw 3),(7,aw 5),(8,aw 6),(9,aw 7)] (aC 1 af .R [] U++aC 2 aH .R [] aa++aC 3 af af.own [] ae++aC 5 aF .R [] ai++aC 6 aV .R [] an++aC 7 I .R [] aB) [.aD,.aD,.aD])⟩
theorem ac8:Sound Tryz.prog 87 0 TB:=cE bk (fn:=Tryz.f87) (fns:=[(51,sF),(109,sG),(120,pZ),(124,vn),(125,Md),(126,Mf)]) ⟨vl,vm,q8,xz,Tz,TA,trivial⟩ (by kernel_rfl) (by kernel_rfl) ac6 ac7 R8 qN (fun k x=>Dk k x.1 x.2.1 x.2.2.1) (by kernel_rfl) (fun _=>by kernel_rfl) (fun _=>rfl) (fun _ _=>by kernel_rfl) (fun _=>by kernel_rfl)
def Mg:Entry:=⟨[aW af,aW (.int .i64)],[bq .bool],xd⟩
theorem TC:Sound Tryz.prog 127 0 Mg:=cI bk (fn:=Tryz.f127) (fns:=[(83,pY)]) ⟨q7,trivial⟩ (by kernel_rfl) (by kernel_rfl) fun _=>by kernel_rfl
def TD:Entry:=⟨[aW af,aW aH,aW aJ],[bq af,bq aF],Dl⟩
theorem ac9:Sound Tryz.prog 88 0 TD:=cI bk (fn:=Tryz.f88) (fns:=[(51,sF),(109,sG),(119,L9),(120,pZ),(121,xx),(122,Fy),(124,vn),(127,Mg)]) ⟨vl,vm,Tt,q8,z_,Mc,xz,TC,trivial⟩ (by kernel_rfl) (by kernel_rfl) fun _=>by kernel_rfl
def TE:Entry:=⟨[aW af,aW (.int .i64),aW (.int .i64)],[bq .bool],zw⟩
def ac_:List (Nat×b0):=[(2,⟨[(1,aM),(2,aM),(3,.ptr 1),(7,aM)],az 1 af .R [],[.drop,.drop,.drop]⟩)]
def ac'(k:Nat→aq→Option (Bool×Unit)):Dm:=fun U aa ae ai=>k 2 (bm [(1,aY U),(2,aY aa),(3,aw 1),(7,aY ae)] (aC 1 af .R [] ai) [.aD,.aD,.aD])
theorem ada:Sound Tryz.prog 128 0 TE:=cE bk (fn:=Tryz.f128) (fns:=[(110,L7)]) ⟨Tq,trivial⟩ (by kernel_rfl) (by kernel_rfl) ac_ ac' Dp uG (fun k x=>Dn k x.1 x.2.1 x.2.2.1) (by kernel_rfl) (fun _=>by kernel_rfl) (fun _=>rfl) (fun _ _=>by kernel_rfl) (fun _=>by kernel_rfl)
def TF:Entry:=⟨[aW af,aW aH,aW aJ],[bq af,bq aF],Dr⟩
def adb:List (Nat×b0):=[(7,⟨[(3,.ptr 1),(4,.ptr 2),(6,.ptr 3),(7,.ptr 5),(8,.ptr 6),(9,.ptr 7)],az 1 af .R []++az 2 aH .R []++az 3 af af.own []++az 5 aF .R []++az 6 aV .R []++az 7 aV .R [],[.drop,.drop,.drop]⟩),(18,⟨[(3,.ptr 1),(4,.ptr 2),(6,.ptr 3),(7,.ptr 5),(8,.ptr 6),(9,.ptr 7),(11,.ptr 8),(12,.ptr 9)],az 1 af .R []++az 2 aH .R []++az 3 af af.own []++az 5 aF .R []++az 6 aV .R []++az 7 aV .R []++az 8 I .R []++az 9 I .R [],[.drop,.drop,.drop]⟩),(27,⟨[(3,.ptr 1),(6,.ptr 2),(7,.ptr 4),(8,.ptr 5),(9,.ptr 6),(12,.ptr 7),(13,.ptr 8),(14,.ptr 10)],az 1 af .R []++az 2 af af.own []++az 4 aF .R []++az 5 aV .R []++az 6 aV .R []++az 7 I .R []++az 8 af (.S (.cons .R (.cons (.O .R) .nil))) []++az 10 I .R [],[.drop,.drop,.drop]⟩),(34,⟨[(3,.ptr 1),(6,.ptr 2),(7,.ptr 4),(8,.ptr 5),(9,.ptr 6),(13,.ptr 7)],az 1 af .R []++az 2 af af.own []++az 4 aF .R []++az 5 aV .R []++az 6 aV .R []++az 7 af (.S (.cons .R (.cons (.O .R) .nil))) [],[.drop,.drop,.drop]⟩),(29,⟨[(3,.ptr 1),(6,.ptr 2),(7,.ptr 4),(8,.ptr 5),(9,.ptr 6),(12,.ptr 7),(13,.ptr 8),(14,.ptr 10)],az 1 af .R []++az 2 af af.own []++az 4 aF .R []++az 5 aV .R []++az 6 aV .R []++az 7 I .R []++az 8 af (.S (.cons .R (.cons (.O .R) .nil))) []++az 10 I .R [],[.drop,.drop,.drop]⟩)]
def ade(k:Nat→aq→Option (mN)):pQ:=⟨fun U aa ae ai an aB=>k 7 (bm [(3,aw 1),(4,aw 2),(6,aw 3),(7,aw 5),(8,aw 6),(9,aw 7)] (aC 1 af .R [] U++aC 2 aH .R [] aa++aC 3 af af.own [] ae++aC 5 aF .R [] ai++aC 6 aV .R [] an++aC 7 aV .R [] aB) [.aD,.aD,.aD]),fun U aa ae ai an aB aZ bD=>k 18 (bm [(3,aw 1),(4,aw 2),(6,aw 3),(7,aw 5),(8,aw 6),(9,aw 7),(11,aw 8),(12,aw 9)] (aC 1 af .R [] U++aC 2 aH .R [] aa++aC 3 af af.own [] ae++aC 5 aF .R [] ai++aC 6 aV .R [] an++aC 7 aV .R [] aB++aC 8 I .R [] aZ++aC 9 I .R [] bD) [.aD,.aD,.aD]),fun U aa ae ai an aB aZ bD=>k 27 (bm [(3,aw 1),(6,aw 2),(7,aw 4),(8,aw 5),(9,aw 6),(12,aw 7),(13,aw 8),(14,aw 10)] (aC 1 af .R [] U++aC 2 af af.own [] aa++aC 4 aF .R [] ae++aC 5 aV .R [] ai++aC 6 aV .R [] an++aC 7 I .R [] aB++aC 8 af (.S (.cons .R (.cons (.O .R) .nil))) [] aZ++aC 10 I .R [] bD) [.aD,.aD,.aD]),fun U aa ae ai an aB=>k 34 (bm [(3,aw 1),(6,aw 2),(7,aw 4),(8,aw 5),(9,aw 6),(13,aw 7)] (aC 1 af .R [] U++aC 2 af af.own [] aa++aC 4 aF .R [] ae++aC 5 aV .R [] ai++aC 6 aV .R [] an++aC 7 af (.S (.cons .R (.cons (.O .R) .nil))) [] aB) [.aD,.aD,.aD]),fun U aa ae ai an aB aZ bD=>k 29 (bm [(3,aw 1),(6,aw 2),(7,aw 4),(8,aw 5),(9,aw 6),(12,aw 7),(13,aw 8),(14,aw 10)] (aC 1 af .R [] U++aC 2 af af.own [] aa++aC 4 aF .R [] ae++aC 5 aV .R [] ai++aC 6 aV .R [] an++aC 7 I .R [] aB++aC 8 af (.S (.cons .R (.cons (.O .R) .nil))) [] aZ++aC 10 I .R [] bD) [.aD,.aD,.aD])⟩
theorem adf:Sound Tryz.prog 89 0 TF:=cE bk (fn:=Tryz.f89) (fns:=[(51,sF),(109,sG),(120,pZ),(121,xx),(122,Fy),(124,vn),(125,Md),(126,Mf),(128,TE)]) ⟨vl,vm,q8,z_,Mc,xz,Tz,TA,ada,trivial⟩ (by kernel_rfl) (by kernel_rfl) adb ade R_ gE (fun k x=>Dq k x.1 x.2.1 x.2.2.1) (by kernel_rfl) (fun _=>by kernel_rfl) (fun _=>rfl) (fun _ _=>by kernel_rfl) (fun _=>by kernel_rfl)
def TG:Entry:=⟨[aW .str,aW (.int .i64),aW .str],[bq .str],qO⟩
def adg:List (Nat×b0):=[(2,⟨[(1,aM),(2,aM),(7,.cell (.ag 1))],[(1,.row (.int .u8) .R)],[.drop,.drop,.drop]⟩),(5,⟨[(1,aM),(2,aM),(7,.cell (.ag 1)),(8,aM)],[(1,.row (.int .u8) .R)],[.drop,.drop,.drop]⟩)]
def adh(k:Nat→aq→Option ((List UInt8)×Unit)):se:=⟨fun U aa ae=>k 2 (bm [(1,aY U),(2,eo aa),(7,.aT (.ag 1 none))] [(1,.row (.int .u8) .R 0 ae)] [.aD,.aD,.aD]),fun U aa ae ai=>k 5 (bm [(1,aY U),(2,eo aa),(7,.aT (.ag 1 none)),(8,aY ae)] [(1,.row (.int .u8) .R 0 ai)] [.aD,.aD,.aD])⟩
theorem adi:Sound Tryz.prog 129 0 TG:=cE bk (fn:=Tryz.f129) (fns:=[]) trivial (by kernel_rfl) (by kernel_rfl) adg adh Sa nG (fun k x=>Ds k x.1 x.2.1 x.2.2.1) (by kernel_rfl) (fun _=>by kernel_rfl) (fun _=>rfl) (fun _ _=>by kernel_rfl) (fun _=>by kernel_rfl)
def TH:Entry:=⟨[aW af,aW aH,aW aJ],[bq af,bq aF],qP⟩
def adj:List (Nat×b0):=[(12,⟨[(3,.ptr 1),(5,.ptr 2),(6,.ptr 3),(7,.ptr 5),(9,.ptr 6),(10,aM)],az 1 af .R []++az 2 aJ .R []++az 3 af af.own []++az 5 aF .R []++az 6 I .R [],[.drop,.drop,.drop]⟩),(23,⟨[(3,.ptr 1),(6,.ptr 2),(7,.ptr 4),(9,.ptr 5)],az 1 af .R []++az 2 af af.own []++az 4 aF .R []++az 5 I .R [],[.drop,.drop,.drop]⟩)]
def adk(k:Nat→aq→Option (uH)):uI:=⟨fun U aa ae ai an aB=>k 12 (bm [(3,aw 1),(5,aw 2),(6,aw 3),(7,aw 5),(9,aw 6),(10,aY U)] (aC 1 af .R [] aa++aC 2 aJ .R [] ae++aC 3 af af.own [] ai++aC 5 aF .R [] an++aC 6 I .R [] aB) [.aD,.aD,.aD]),fun U aa ae ai=>k 23 (bm [(3,aw 1),(6,aw 2),(7,aw 4),(9,aw 5)] (aC 1 af .R [] U++aC 2 af af.own [] aa++aC 4 aF .R [] ae++aC 5 I .R [] ai) [.aD,.aD,.aD])⟩
theorem adl:Sound Tryz.prog 90 0 TH:=cE bk (fn:=Tryz.f90) (fns:=[(51,sF),(109,sG),(120,pZ),(121,xx),(123,xy),(124,vn),(129,TG)]) ⟨vl,vm,q8,z_,z',xz,adi,trivial⟩ (by kernel_rfl) (by kernel_rfl) adj adk Sb hY (fun k x=>sf k x.1 x.2.1 x.2.2.1) (by kernel_rfl) (fun _=>by kernel_rfl) (fun _=>rfl) (fun _ _=>by kernel_rfl) (fun _=>by kernel_rfl)
def TI:Entry:=⟨[aW af,aW aH,aW aJ],[bq af,bq aF],sh⟩
def adm:List (Nat×b0):=[(8,⟨[(3,.ptr 1),(4,.ptr 2),(5,.ptr 3),(6,.ptr 4),(7,.ptr 6),(8,aM)],az 1 af .R []++az 2 aH .R []++az 3 aJ .R []++az 4 af af.own []++az 6 aF .R [],[.drop,.drop,.drop]⟩),(12,⟨[(3,.ptr 1),(4,.ptr 2),(5,.ptr 3),(6,.ptr 4),(7,.ptr 6)],az 1 af .R []++az 2 aH .R []++az 3 aJ .R []++az 4 af af.own []++az 6 aF .R [],[.drop,.drop,.drop]⟩),(24,⟨[(3,.ptr 1),(4,.ptr 2),(5,.ptr 3),(6,.ptr 4),(7,.ptr 6),(10,.ptr 7)],az 1 af .R []++az 2 aH .R []++az 3 aJ .R []++az 4 af af.own []++az 6 aF .R []++az 7 I .R [],[.drop,.drop,.drop]⟩),(32,⟨[(3,.ptr 1),(6,.ptr 2),(7,.ptr 4),(10,.ptr 5)],az 1 af .R []++az 2 af af.own []++az 4 aF .R []++az 5 I .R [],[.drop,.drop,.drop]⟩)]
def adn(k:Nat→aq→Option (oO)):qQ:=⟨fun U aa ae ai an aB=>k 8 (bm [(3,aw 1),(4,aw 2),(5,aw 3),(6,aw 4),(7,aw 6),(8,jO U)] (aC 1 af .R [] aa++aC 2 aH .R [] ae++aC 3 aJ .R [] ai++aC 4 af af.own [] an++aC 6 aF .R [] aB) [.aD,.aD,.aD]),fun U aa ae ai an=>k 12 (bm [(3,aw 1),(4,aw 2),(5,aw 3),(6,aw 4),(7,aw 6)] (aC 1 af .R [] U++aC 2 aH .R [] aa++aC 3 aJ .R [] ae++aC 4 af af.own [] ai++aC 6 aF .R [] an) [.aD,.aD,.aD]),fun U aa ae ai an aB=>k 24 (bm [(3,aw 1),(4,aw 2),(5,aw 3),(6,aw 4),(7,aw 6),(10,aw 7)] (aC 1 af .R [] U++aC 2 aH .R [] aa++aC 3 aJ .R [] ae++aC 4 af af.own [] ai++aC 6 aF .R [] an++aC 7 I .R [] aB) [.aD,.aD,.aD]),fun U aa ae ai=>k 32 (bm [(3,aw 1),(6,aw 2),(7,aw 4),(10,aw 5)] (aC 1 af .R [] U++aC 2 af af.own [] aa++aC 4 aF .R [] ae++aC 5 I .R [] ai) [.aD,.aD,.aD])⟩
theorem ado:Sound Tryz.prog 91 0 TI:=cE bk (fn:=Tryz.f91) (fns:=[(45,nQ),(51,sF),(120,pZ),(121,xx),(123,xy),(124,vn),(130,L5)]) ⟨oX,vl,q8,z_,z',xz,Tn,trivial⟩ (by kernel_rfl) (by kernel_rfl) adm adn Sc h5 (fun k x=>sg k x.1 x.2.1 x.2.2.1) (by kernel_rfl) (fun _=>by kernel_rfl) (fun _=>rfl) (fun _ _=>by kernel_rfl) (fun _=>by kernel_rfl)
def TJ:Entry:=⟨[aW (.int .i64)],[bq .str],h6⟩
def adp:List (Nat×b0):=[(5,⟨[(0,aM),(3,aM),(4,aM)],[],[.drop]⟩)]
def adq(k:Nat→aq→Option ((List UInt8)×Unit)):Dv:=fun U aa ae=>k 5 (bm [(0,aY U),(3,eo aa),(4,jO ae)] [] [.aD])
theorem adr:Sound Tryz.prog 131 0 TJ:=cE bk (fn:=Tryz.f131) (fns:=[]) trivial (by kernel_rfl) (by kernel_rfl) adp adq zB pS (fun k x=>Sd k x.1) (by kernel_rfl) (fun _=>by kernel_rfl) (fun _=>rfl) (fun _ _=>by kernel_rfl) (fun _=>by kernel_rfl)
def TK:Entry:=⟨[aW af,aW (.int .i64)],[bq (.int .i64)],Dz⟩
def ads:List (Nat×b0):=[(8,⟨[(2,.ptr 1),(5,aM),(6,aM),(7,aM)],az 1 af .R [],[.drop,.drop]⟩)]
def adt(k:Nat→aq→Option (Int×Unit)):Dw:=fun U aa ae ai=>k 8 (bm [(2,aw 1),(5,aY U),(6,aY aa),(7,aY ae)] (aC 1 af .R [] ai) [.aD,.aD])
theorem adu:Sound Tryz.prog 132 0 TK:=cE bk (fn:=Tryz.f132) (fns:=[(48,Fz),(83,pY),(127,Mg)]) ⟨Me,q7,TC,trivial⟩ (by kernel_rfl) (by kernel_rfl) ads adt Dy uJ (fun k x=>Dx k x.1 x.2.1) (by kernel_rfl) (fun _=>by kernel_rfl) (fun _=>rfl) (fun _ _=>by kernel_rfl) (fun _=>by kernel_rfl)
def TL:Entry:=⟨[aW af,aW aH,aW aJ],[bq aF],jU⟩
def adv:List (Nat×b0):=[(5,⟨[(3,.ptr 1),(4,.ptr 2),(5,.ptr 3),(6,.ptr 4)],az 1 af .R []++az 2 aH .R []++az 3 aJ .R []++az 4 aF .R [],[.drop,.drop,.drop]⟩),(6,⟨[(3,.ptr 1),(4,.ptr 2),(5,.ptr 3),(6,.ptr 4),(7,.ptr 5)],az 1 af .R []++az 2 aH .R []++az 3 aJ .R []++az 4 aF .R []++az 5 aV .R [],[.drop,.drop,.drop]⟩),(20,⟨[(5,.ptr 1),(6,.ptr 2),(8,.ptr 3),(10,.cell (.ag 4)),(11,aM)],az 1 aJ .R []++az 2 aF .R []++az 3 I .R []++[(4,.row (.int .u8) .R)],[.drop,.drop,.drop]⟩),(35,⟨[(6,.ptr 1),(8,.ptr 2),(12,aM),(13,aM)],az 1 aF .R []++az 2 I .R [],[.drop,.drop,.drop]⟩),(39,⟨[(6,.ptr 1),(8,.ptr 2),(12,aM),(13,aM)],az 1 aF .R []++az 2 I .R [],[.drop,.drop,.drop]⟩)]
def adw(k:Nat→aq→Option (aF.D×Unit)):nH:=⟨fun U aa ae ai=>k 5 (bm [(3,aw 1),(4,aw 2),(5,aw 3),(6,aw 4)] (aC 1 af .R [] U++aC 2 aH .R [] aa++aC 3 aJ .R [] ae++aC 4 aF .R [] ai) [.aD,.aD,.aD]),fun U aa ae ai an=>k 6 (bm [(3,aw 1),(4,aw 2),(5,aw 3),(6,aw 4),(7,aw 5)] (aC 1 af .R [] U++aC 2 aH .R [] aa++aC 3 aJ .R [] ae++aC 4 aF .R [] ai++aC 5 aV .R [] an) [.aD,.aD,.aD]),fun U aa ae ai an=>k 20 (bm [(5,aw 1),(6,aw 2),(8,aw 3),(10,.aT (.ag 4 none)),(11,aY U)] (aC 1 aJ .R [] aa++aC 2 aF .R [] ae++aC 3 I .R [] ai++[(4,.row (.int .u8) .R 0 an)]) [.aD,.aD,.aD]),fun U aa ae ai=>k 35 (bm [(6,aw 1),(8,aw 2),(12,eo U),(13,aY aa)] (aC 1 aF .R [] ae++aC 2 I .R [] ai) [.aD,.aD,.aD]),fun U aa ae ai=>k 39 (bm [(6,aw 1),(8,aw 2),(12,eo U),(13,aY aa)] (aC 1 aF .R [] ae++aC 2 I .R [] ai) [.aD,.aD,.aD])⟩
theorem adx:Sound Tryz.prog 92 0 TL:=cE bk (fn:=Tryz.f92) (fns:=[(45,nQ),(49,Fx),(84,Ma),(109,sG),(120,pZ),(124,vn),(131,TJ),(132,TK)]) ⟨oX,L_,Tv,vm,q8,xz,adr,adu,trivial⟩ (by kernel_rfl) (by kernel_rfl) adv adw Se fr (fun k x=>qR k x.1 x.2.1 x.2.2.1) (by kernel_rfl) (fun _=>by kernel_rfl) (fun _=>rfl) (fun _ _=>by kernel_rfl) (fun _=>by kernel_rfl)
def Mh:Entry:=⟨[CB af,CB aH,aW aJ],[bq af,bq aF],ke⟩
def ady:List (Nat×b0):=[(8,⟨[(3,.ptr 1),(4,.ptr 2),(5,.ptr 3),(6,.ptr 4),(7,.ptr 6),(19,aM)],az 1 af .R []++az 2 aH .R []++az 3 aJ .R []++az 4 af af.own []++az 6 aF .R [],[.drop,.drop,.drop]⟩),(11,⟨[(3,.ptr 1),(4,.ptr 2),(5,.ptr 3),(6,.ptr 4),(7,.ptr 6),(19,aM)],az 1 af .R []++az 2 aH .R []++az 3 aJ .R []++az 4 af af.own []++az 6 aF .R [],[.drop,.drop,.drop]⟩),(19,⟨[(3,.ptr 1),(4,.ptr 2),(5,.ptr 3),(6,.ptr 4),(7,.ptr 6),(19,aM)],az 1 af .R []++az 2 aH .R []++az 3 aJ .R []++az 4 af af.own []++az 6 aF .R [],[.drop,.drop,.drop]⟩)]
def adz(k:Nat→aq→Option (qS)):sj:=⟨fun U aa ae ai an aB=>k 8 (bm [(3,aw 1),(4,aw 2),(5,aw 3),(6,aw 4),(7,aw 6),(19,aY U)] (aC 1 af .R [] aa++aC 2 aH .R [] ae++aC 3 aJ .R [] ai++aC 4 af af.own [] an++aC 6 aF .R [] aB) [.aD,.aD,.aD]),fun U aa ae ai an aB=>k 11 (bm [(3,aw 1),(4,aw 2),(5,aw 3),(6,aw 4),(7,aw 6),(19,aY U)] (aC 1 af .R [] aa++aC 2 aH .R [] ae++aC 3 aJ .R [] ai++aC 4 af af.own [] an++aC 6 aF .R [] aB) [.aD,.aD,.aD]),fun U aa ae ai an aB=>k 19 (bm [(3,aw 1),(4,aw 2),(5,aw 3),(6,aw 4),(7,aw 6),(19,aY U)] (aC 1 af .R [] aa++aC 2 aH .R [] ae++aC 3 aJ .R [] ai++aC 4 af af.own [] an++aC 6 aF .R [] aB) [.aD,.aD,.aD])⟩
theorem TM:Sound Tryz.prog 52 0 Mh:=cE bk (fn:=Tryz.f52) (fns:=[(85,Tl),(86,Ty),(87,TB),(88,TD),(89,TF),(90,TH),(91,TI),(92,TL)]) ⟨acs,ac1,ac8,ac9,adf,adl,ado,adx,trivial⟩ (by kernel_rfl) (by kernel_rfl) ady adz Sf zC (fun k x=>sk k x.1 x.2.1 x.2.2.1) (by kernel_rfl) (fun _=>by kernel_rfl) (fun _=>rfl) (fun _ _=>by kernel_rfl) (fun _=>by kernel_rfl)
def Aa:Entry:=⟨[.«mut» br .R .R,th (.sl (.int .i64))],[bq (.int .i64)],jk⟩
theorem FA:Sound Tryz.prog 77 0 Aa:=cI bk (fn:=Tryz.f77) (fns:=[(76,nP)]) ⟨oW,trivial⟩ (by kernel_rfl) (by kernel_rfl) fun _=>by kernel_rfl
def Mi:Entry:=⟨[.«mut» br .R .R],[ro aH],zD⟩
theorem TN:Sound Tryz.prog 79 0 Mi:=cI bk (fn:=Tryz.f79) (fns:=[(76,nP)]) ⟨oW,trivial⟩ (by kernel_rfl) (by kernel_rfl) fun _=>by kernel_rfl
def Mj:Entry:=⟨[.«mut» br .R .R,aW (.int .i64)],[bq .str],uM⟩
def adA:List (Nat×b0):=[(4,⟨[(0,.ptr 1),(5,.cell (.ag 2)),(6,aM),(7,aM)],az 1 br .R []++[(2,.row (.int .u8) .R)],[.ptr 1,.drop]⟩),(11,⟨[(0,.ptr 1),(5,.cell (.ag 2)),(6,aM),(7,aM),(8,aM)],az 1 br .R []++[(2,.row (.int .u8) .R)],[.ptr 1,.drop]⟩)]
def adB(k:Nat→aq→Option (uK)):uL:=⟨fun U aa ae ai=>k 4 (bm [(0,aw 1),(5,.aT (.ag 2 none)),(6,aY U),(7,aY aa)] (aC 1 br .R [] ae++[(2,.row (.int .u8) .R 0 ai)]) [aw 1,.aD]),fun U aa ae ai an=>k 11 (bm [(0,aw 1),(5,.aT (.ag 2 none)),(6,aY U),(7,aY aa),(8,aY ae)] (aC 1 br .R [] ai++[(2,.row (.int .u8) .R 0 an)]) [aw 1,.aD])⟩
theorem TO:Sound Tryz.prog 58 0 Mj:=cE bk (fn:=Tryz.f58) (fns:=[(76,nP),(105,L1)]) ⟨oW,Th,trivial⟩ (by kernel_rfl) (by kernel_rfl) adA adB Si sm (fun k x=>DD k x.1 x.2.1) (by kernel_rfl) (fun _=>by kernel_rfl) (fun _=>rfl) (fun _ _=>by kernel_rfl) (fun _=>by kernel_rfl)
def Ab:Entry:=⟨[.«mut» br .R .R,th (.sl .str)],[bq .str],qT⟩
theorem FB:Sound Tryz.prog 78 0 Ab:=cI bk (fn:=Tryz.f78) (fns:=[(76,nP)]) ⟨oW,trivial⟩ (by kernel_rfl) (by kernel_rfl) fun _=>by kernel_rfl
def Mk:Entry:=⟨[.«mut» br .R .R],[bq .str],xe⟩
theorem TP:Sound Tryz.prog 106 0 Mk:=cI bk (fn:=Tryz.f106) (fns:=[(78,Ab)]) ⟨FB,trivial⟩ (by kernel_rfl) (by kernel_rfl) fun _=>by kernel_rfl
def Ml:Entry:=⟨[.«mut» br .R .R],[bq .str],DF⟩
def adC:List (Nat×b0):=[(3,⟨[(0,.ptr 1),(3,aM),(4,aM)],az 1 br .R [],[.ptr 1]⟩),(16,⟨[(0,.ptr 1),(3,aM)],az 1 br .R [],[.ptr 1]⟩),(17,⟨[(0,.ptr 1),(3,aM)],az 1 br .R [],[.ptr 1]⟩)]
def adD(k:Nat→aq→Option (qU)):sn:=⟨fun U aa ae=>k 3 (bm [(0,aw 1),(3,eo U),(4,aY aa)] (aC 1 br .R [] ae) [aw 1]),fun U aa=>k 16 (bm [(0,aw 1),(3,eo U)] (aC 1 br .R [] aa) [aw 1]),fun U aa=>k 17 (bm [(0,aw 1),(3,eo U)] (aC 1 br .R [] aa) [aw 1])⟩
theorem TQ:Sound Tryz.prog 80 0 Ml:=cE bk (fn:=Tryz.f80) (fns:=[(63,xw),(76,nP),(78,Ab),(106,Mk)]) ⟨z7,oW,FB,TP,trivial⟩ (by kernel_rfl) (by kernel_rfl) adC adD Sl oR (fun k x=>DE k x.1) (by kernel_rfl) (fun _=>by kernel_rfl) (fun _=>rfl) (fun _ _=>by kernel_rfl) (fun _=>by kernel_rfl)
def TS:Entry:=⟨[.«mut» br .R .R,aW af],[bq .str],xh⟩
def adE:List (Nat×b0):=[(6,⟨[(0,.ptr 1),(3,.ptr 2),(5,aM),(6,aM),(7,aM)],az 1 br .R []++az 2 af .R [],[.ptr 1,.drop]⟩)]
def adF(k:Nat→aq→Option (zG)):DG:=fun U aa ae ai an=>k 6 (bm [(0,aw 1),(3,aw 2),(5,eo U),(6,aY aa),(7,aY ae)] (aC 1 br .R [] ai++aC 2 af .R [] an) [aw 1,.aD])
theorem adG:Sound Tryz.prog 62 0 TS:=cE bk (fn:=Tryz.f62) (fns:=[(63,xw),(76,nP),(80,Ml),(83,pY),(106,Mk)]) ⟨z7,oW,TQ,q7,TP,trivial⟩ (by kernel_rfl) (by kernel_rfl) adE adF xg uN (fun k x=>DH k x.1 x.2.1) (by kernel_rfl) (fun _=>by kernel_rfl) (fun _=>rfl) (fun _ _=>by kernel_rfl) (fun _=>by kernel_rfl)
def Mm:Entry:=⟨[.«mut» br .R .R,aW af],[bq aJ],DJ⟩
def adH:List (Nat×b0):=[(2,⟨[(0,.ptr 1),(3,.ptr 2),(4,.ptr 3),(5,.ptr 4)],az 1 br .R []++az 2 af .R []++az 3 aJ .R []++az 4 aJ .R [],[.ptr 1,.drop]⟩),(6,⟨[(0,.ptr 1),(4,.ptr 2),(5,.ptr 3)],az 1 br .R []++az 2 aJ .R []++az 3 aJ .R [],[.ptr 1,.drop]⟩),(7,⟨[(0,.ptr 1),(3,.ptr 2),(4,.ptr 3),(5,.ptr 4),(14,aM)],az 1 br .R []++az 2 af .R []++az 3 aJ .R []++az 4 aJ .R [],[.ptr 1,.drop]⟩),(32,⟨[(0,.ptr 1),(4,.ptr 2),(5,.ptr 3)],az 1 br .R []++az 2 aJ .R []++az 3 aJ .R [],[.ptr 1,.drop]⟩),(19,⟨[(0,.ptr 1),(3,.ptr 2),(4,.ptr 3),(5,.ptr 4)],az 1 br .R []++az 2 af .R []++az 3 aJ .R []++az 4 aJ .R [],[.ptr 1,.drop]⟩),(20,⟨[(0,.ptr 1),(4,.ptr 2),(5,.ptr 3),(14,aM)],az 1 br .R []++az 2 aJ .R []++az 3 aJ .R [],[.ptr 1,.drop]⟩)]
def adI(k:Nat→aq→Option (ld)):oS:=⟨fun U aa ae ai=>k 2 (bm [(0,aw 1),(3,aw 2),(4,aw 3),(5,aw 4)] (aC 1 br .R [] U++aC 2 af .R [] aa++aC 3 aJ .R [] ae++aC 4 aJ .R [] ai) [aw 1,.aD]),fun U aa ae=>k 6 (bm [(0,aw 1),(4,aw 2),(5,aw 3)] (aC 1 br .R [] U++aC 2 aJ .R [] aa++aC 3 aJ .R [] ae) [aw 1,.aD]),fun U aa ae ai an=>k 7 (bm [(0,aw 1),(3,aw 2),(4,aw 3),(5,aw 4),(14,aY U)] (aC 1 br .R [] aa++aC 2 af .R [] ae++aC 3 aJ .R [] ai++aC 4 aJ .R [] an) [aw 1,.aD]),fun U aa ae=>k 32 (bm [(0,aw 1),(4,aw 2),(5,aw 3)] (aC 1 br .R [] U++aC 2 aJ .R [] aa++aC 3 aJ .R [] ae) [aw 1,.aD]),fun U aa ae ai=>k 19 (bm [(0,aw 1),(3,aw 2),(4,aw 3),(5,aw 4)] (aC 1 br .R [] U++aC 2 af .R [] aa++aC 3 aJ .R [] ae++aC 4 aJ .R [] ai) [aw 1,.aD]),fun U aa ae ai=>k 20 (bm [(0,aw 1),(4,aw 2),(5,aw 3),(14,aY U)] (aC 1 br .R [] aa++aC 2 aJ .R [] ae++aC 3 aJ .R [] ai) [aw 1,.aD])⟩
theorem TT:Sound Tryz.prog 44 0 Mm:=cE bk (fn:=Tryz.f44) (fns:=[(58,Mj),(62,TS),(63,xw),(76,nP),(77,Aa),(78,Ab),(80,Ml)]) ⟨TO,adG,z7,oW,FA,FB,TQ,trivial⟩ (by kernel_rfl) (by kernel_rfl) adH adI Sm lf (fun k x=>DI k x.1 x.2.1) (by kernel_rfl) (fun _=>by kernel_rfl) (fun _=>rfl) (fun _ _=>by kernel_rfl) (fun _=>by kernel_rfl)
def TU:Entry:=⟨[.«mut» br .R .R],[bq aJ],DK⟩
theorem adJ:Sound Tryz.prog 118 0 TU:=cI bk (fn:=Tryz.f118) (fns:=[(44,Mm),(12,Tj)]) ⟨TT,acj,trivial⟩ (by kernel_rfl) (by kernel_rfl) fun _=>by kernel_rfl
def TV:Entry:=⟨[.«mut» br .R .R,aW (.int .i64)],[ro af],Ko⟩
def adK:List (Nat×b0):=[(5,⟨[(0,.ptr 1),(4,.ptr 2),(5,.ptr 4),(6,aM)],az 1 br .R []++az 2 af af.own []++az 4 af .R [],[.ptr 1,.drop]⟩)]
def adL(k:Nat→aq→Option (xi)):zH:=fun U aa ae ai=>k 5 (bm [(0,aw 1),(4,aw 2),(5,aw 4),(6,aY U)] (aC 1 br .R [] aa++aC 2 af af.own [] ae++aC 4 af .R [] ai) [aw 1,.aD])
theorem adM:Sound Tryz.prog 75 0 TV:=cE bk (fn:=Tryz.f75) (fns:=[(12,L2),(52,Mh),(76,nP),(77,Aa),(79,Mi),(118,TU),(51,Tk)]) ⟨Ti,TM,oW,FA,TN,adJ,acp,trivial⟩ (by kernel_rfl) (by kernel_rfl) adK adL xj uO (fun k x=>DL k x.1 x.2.1) (by kernel_rfl) (fun _=>by kernel_rfl) (fun _=>rfl) (fun _ _=>by kernel_rfl) (fun _=>by kernel_rfl)
def TW:Entry:=⟨[.«mut» br .R .R,aW (.int .i64)],[ro af],Kq⟩
theorem adN:Sound Tryz.prog 41 0 TW:=cI bk (fn:=Tryz.f41) (fns:=[(63,xw),(75,TV),(76,nP),(77,Aa),(78,Ab)]) ⟨z7,adM,oW,FA,FB,trivial⟩ (by kernel_rfl) (by kernel_rfl) fun _=>by kernel_rfl
def TX:Entry:=⟨[aW (.sl (.int .u8)),aW (.int .i64)],[bq (.int .i64)],Ks⟩
theorem adO:Sound Tryz.prog 42 0 TX:=cI bk (fn:=Tryz.f42) (fns:=[]) trivial (by kernel_rfl) (by kernel_rfl) fun _=>by kernel_rfl
def TY:Entry:=⟨[.«mut» br .R .R],[ro aH],Ku⟩
theorem adP:Sound Tryz.prog 43 0 TY:=cI bk (fn:=Tryz.f43) (fns:=[(63,xw),(76,nP),(77,Aa),(79,Mi)]) ⟨z7,oW,FA,TN,trivial⟩ (by kernel_rfl) (by kernel_rfl) fun _=>by kernel_rfl
def TZ:Entry:=⟨[aW (.sl (.int .u8))],[ro af,ro aH,bq aJ],Kw⟩
theorem adQ:Sound Tryz.prog 10 0 TZ:=cI bk (fn:=Tryz.f10) (fns:=[(40,L0),(41,TW),(42,TX),(43,TY),(44,Mm)]) ⟨Tg,adN,adO,adP,TT,trivial⟩ (by kernel_rfl) (by kernel_rfl) fun _=>by kernel_rfl
def T0:Entry:=⟨[aW .str],[bq .bool],Kx⟩
def adR:List (Nat×b0):=[(4,⟨[(0,aM),(3,aM)],[],[.drop]⟩)]
def adS(k:Nat→aq→Option (Bool×Unit)):DO:=fun U aa=>k 4 (bm [(0,eo U),(3,aY aa)] [] [.aD])
theorem adT:Sound Tryz.prog 82 0 T0:=cE bk (fn:=Tryz.f82) (fns:=[(45,nQ),(107,Fv)]) ⟨oX,L3,trivial⟩ (by kernel_rfl) (by kernel_rfl) adR adS DQ so (fun k x=>DP k x.1) (by kernel_rfl) (fun _=>by kernel_rfl) (fun _=>rfl) (fun _ _=>by kernel_rfl) (fun _=>by kernel_rfl)
def T1:Entry:=⟨[aW af,aW I],[bq .bool],DS⟩
def adU:List (Nat×b0):=[(4,⟨[(2,.ptr 1),(3,.ptr 2),(5,aM)],az 1 af .R []++az 2 I .R [],[.drop,.drop]⟩),(13,⟨[(2,.ptr 1),(3,.ptr 2),(6,aM)],az 1 af .R []++az 2 I .R [],[.drop,.drop]⟩)]
def adV(k:Nat→aq→Option (Bool×Unit)):uP:=⟨fun U aa ae=>k 4 (bm [(2,aw 1),(3,aw 2),(5,jO U)] (aC 1 af .R [] aa++aC 2 I .R [] ae) [.aD,.aD]),fun U aa ae=>k 13 (bm [(2,aw 1),(3,aw 2),(6,aY U)] (aC 1 af .R [] aa++aC 2 I .R [] ae) [.aD,.aD])⟩
theorem adW:Sound Tryz.prog 46 0 T1:=cE bk (fn:=Tryz.f46) (fns:=[(45,nQ),(81,L4),(82,T0),(83,pY)]) ⟨oX,Tm,adT,q7,trivial⟩ (by kernel_rfl) (by kernel_rfl) adU adV Sr qV (fun k x=>DR k x.1 x.2.1) (by kernel_rfl) (fun _=>by kernel_rfl) (fun _=>rfl) (fun _ _=>by kernel_rfl) (fun _=>by kernel_rfl)
def Mn:Entry:=⟨[aW af],[bq .bool],DU⟩
def adX:List (Nat×b0):=[(4,⟨[(1,.ptr 1),(3,aM)],az 1 af .R [],[.drop]⟩),(11,⟨[(1,.ptr 1),(5,.cell (.ag 2)),(6,aM)],az 1 af .R []++[(2,.row .bool .R)],[.drop]⟩)]
def adY(k:Nat→aq→Option (Bool×Unit)):uQ:=⟨fun U aa=>k 4 (bm [(1,aw 1),(3,aY U)] (aC 1 af .R [] aa) [.aD]),fun U aa ae=>k 11 (bm [(1,aw 1),(5,.aT (.ag 2 none)),(6,aY U)] (aC 1 af .R [] aa++[(2,.row .bool .R 0 ae)]) [.aD])⟩
theorem T2:Sound Tryz.prog 11 0 Mn:=cE bk (fn:=Tryz.f11) (fns:=[(45,nQ),(46,T1),(47,L'),(48,Fz),(49,Fx),(50,Mb)]) ⟨oX,adW,Tu,Me,L_,Tw,trivial⟩ (by kernel_rfl) (by kernel_rfl) adX adY Ss nK (fun k x=>DT k x.1) (by kernel_rfl) (fun _=>by kernel_rfl) (fun _=>rfl) (fun _ _=>by kernel_rfl) (fun _=>by kernel_rfl)
def kK:Entry:=⟨[aW (.int .i64),aW (.int .i64),aW (.int .i64)],[bq .bool],eL⟩
theorem lj:Sound Tryz.prog 93 0 kK:=cI bk (fn:=Tryz.f93) (fns:=[]) trivial (by kernel_rfl) (by kernel_rfl) fun _=>by kernel_rfl
def Mo:Entry:=⟨[aW (.int .u8)],[bq .bool],DV⟩
theorem T3:Sound Tryz.prog 157 0 Mo:=cI bk (fn:=Tryz.f157) (fns:=[]) trivial (by kernel_rfl) (by kernel_rfl) fun _=>by kernel_rfl
def FC:Entry:=⟨[aW .str],[bq .bool],xk⟩
def adZ:List (Nat×b0):=[(2,⟨[(0,aM),(5,aM),(6,aM)],[],[.drop]⟩)]
def ad0(k:Nat→aq→Option (Bool×Unit)):DW:=fun U aa ae=>k 2 (bm [(0,eo U),(5,aY aa),(6,aY ae)] [] [.aD])
theorem Mp:Sound Tryz.prog 133 0 FC:=cE bk (fn:=Tryz.f133) (fns:=[(93,kK),(157,Mo)]) ⟨lj,T3,trivial⟩ (by kernel_rfl) (by kernel_rfl) adZ ad0 DY uT (fun k x=>DX k x.1) (by kernel_rfl) (fun _=>by kernel_rfl) (fun _=>rfl) (fun _ _=>by kernel_rfl) (fun _=>by kernel_rfl)
def nR:Entry:=⟨[gg af,aW (.int .i64)],[.pd I],fC⟩
def ad1:List (Nat×b0):=[(2,⟨[(0,.di [] (r8 af .R [] 0)),(1,aM),(10,aM),(11,aM)],[],[.drop,.drop]⟩)]
def ad2(k:Nat→aq→Option (zJ)):DZ:=fun U aa ae ai=>k 2 (bm [(0,.di (pL []) (aT af .R [] U 0) 0),(1,aY aa),(10,aY ae),(11,aY ai)] [] [.aD,.aD])
theorem oY:Sound Tryz.prog 56 0 nR:=cE bk (fn:=Tryz.f56) (fns:=[]) trivial (by kernel_rfl) (by kernel_rfl) ad1 ad2 D1 uU (fun k x=>D0 k x.1 x.2.1) (by kernel_rfl) (fun _=>by kernel_rfl) (fun _=>rfl) (fun _ _=>by kernel_rfl) (fun _=>by kernel_rfl)
def FD:Entry:=⟨[abt af,aW (.int .i64)],[.opt 0 1 I],xl⟩
def ad3:List (Nat×b0):=[(2,⟨[(0,.ptr 1),(1,aM),(10,aM),(11,aM)],az 1 af af.own [],[.ptr 1,.drop]⟩)]
def ad4(k:Nat→aq→Option (Int×af.D×Unit)):D2:=fun U aa ae ai=>k 2 (bm [(0,aw 1),(1,aY U),(10,aY aa),(11,aY ae)] (aC 1 af af.own [] ai) [aw 1,.aD])
theorem Mq:Sound Tryz.prog 56 0 FD:=cE bk (fn:=Tryz.f56) (fns:=[]) trivial (by kernel_rfl) (by kernel_rfl) ad3 ad4 D4 uV (fun k x=>D3 k x.1 x.2.1) (by kernel_rfl) (fun _=>by kernel_rfl) (fun _=>rfl) (fun _ _=>by kernel_rfl) (fun _=>by kernel_rfl)
def T4:Entry:=⟨[aW .str],[bq .bool],KA⟩
def ad5:List (Nat×b0):=[(2,⟨[(0,aM),(5,aM),(6,aM)],[],[.drop]⟩)]
def ad6(k:Nat→aq→Option (Bool×Unit)):D5:=fun U aa ae=>k 2 (bm [(0,eo U),(5,aY aa),(6,aY ae)] [] [.aD])
theorem ad7:Sound Tryz.prog 158 0 T4:=cE bk (fn:=Tryz.f158) (fns:=[(93,kK),(157,Mo)]) ⟨lj,T3,trivial⟩ (by kernel_rfl) (by kernel_rfl) ad5 ad6 D7 uW (fun k x=>D6 k x.1) (by kernel_rfl) (fun _=>by kernel_rfl) (fun _=>rfl) (fun _ _=>by kernel_rfl) (fun _=>by kernel_rfl)
def T5:Entry:=⟨[gg af,aW I],[bq .bool],KB⟩
def ad8:List (Nat×b0):=[(2,⟨[(0,.di [] (r8 af .R [] 0)),(3,.ptr 1),(8,.cell (.b1 ay [])),(9,aM),(10,aM)],az 1 I .R [],[.drop,.drop]⟩)]
def ad9(k:Nat→aq→Option (Bool×Unit)):D8:=fun U aa ae ai an=>k 2 (bm [(0,.di (pL []) (aT af .R [] U 0) 0),(3,aw 1),(8,gX ay aa),(9,aY ae),(10,aY ai)] (aC 1 I .R [] an) [.aD,.aD])
theorem ad_:Sound Tryz.prog 134 0 T5:=cE bk (fn:=Tryz.f134) (fns:=[(56,nR),(158,T4)]) ⟨oY,ad7,trivial⟩ (by kernel_rfl) (by kernel_rfl) ad8 ad9 D_ uX (fun k x=>D9 k x.1 x.2.1) (by kernel_rfl) (fun _=>by kernel_rfl) (fun _=>rfl) (fun _ _=>by kernel_rfl) (fun _=>by kernel_rfl)
def T6:Entry:=⟨[gg af,aW I],[bq .bool],Eb⟩
def ad':List (Nat×b0):=[(5,⟨[(0,.di [] (r8 af .R [] 0)),(3,.ptr 1)],az 1 I .R [],[.drop,.drop]⟩)]
def aea(k:Nat→aq→Option (Bool×Unit)):D':=fun U aa=>k 5 (bm [(0,.di (pL []) (aT af .R [] U 0) 0),(3,aw 1)] (aC 1 I .R [] aa) [.aD,.aD])
theorem aeb:Sound Tryz.prog 94 0 T6:=cE bk (fn:=Tryz.f94) (fns:=[(93,kK),(133,FC),(134,T5)]) ⟨lj,Mp,ad_,trivial⟩ (by kernel_rfl) (by kernel_rfl) ad' aea KC zK (fun k x=>Ea k x.1 x.2.1) (by kernel_rfl) (fun _=>by kernel_rfl) (fun _=>rfl) (fun _ _=>by kernel_rfl) (fun _=>by kernel_rfl)
def T7:Entry:=⟨[aW (.sl (.int .i64)),aW (.int .i64)],[bq (.int .i64)],KD⟩
def aec:List (Nat×b0):=[(2,⟨[(0,.cell (.b1 (.int .i64) [])),(1,aM),(7,aM),(8,aM)],[],[.drop,.drop]⟩)]
def aed(k:Nat→aq→Option (Int×Unit)):Ec:=fun U aa ae ai=>k 2 (bm [(0,gX (.int .i64) U),(1,aY aa),(7,aY ae),(8,aY ai)] [] [.aD,.aD])
theorem aee:Sound Tryz.prog 135 0 T7:=cE bk (fn:=Tryz.f135) (fns:=[]) trivial (by kernel_rfl) (by kernel_rfl) aec aed Ee uY (fun k x=>Ed k x.1 x.2.1) (by kernel_rfl) (fun _=>by kernel_rfl) (fun _=>rfl) (fun _ _=>by kernel_rfl) (fun _=>by kernel_rfl)
def Ac:Entry:=⟨[aW (.sl (.int .i64)),aW (.int .i64)],[bq .bool],sq⟩
theorem FE:Sound Tryz.prog 96 0 Ac:=cI bk (fn:=Tryz.f96) (fns:=[(135,T7)]) ⟨aee,trivial⟩ (by kernel_rfl) (by kernel_rfl) fun _=>by kernel_rfl
def FF:Entry:=⟨[gg af,aW (.int .i64)],[ro (.sl (.int .i64))],u0⟩
def aef:List (Nat×b0):=[(4,⟨[(0,.di [] (r8 af .R [] 0)),(5,.cell (.ag 1)),(6,.cell (.ag 2)),(7,aM)],[(1,.row (.int .i64) .R),(2,.row (.int .i64) .R)],[.drop,.drop]⟩),(9,⟨[(0,.di [] (r8 af .R [] 0)),(5,.cell (.ag 1)),(6,.cell (.ag 2)),(7,aM),(31,.cell (.b1 ay [])),(32,aM),(33,aM)],[(1,.row (.int .i64) .R),(2,.row (.int .i64) .R)],[.drop,.drop]⟩)]
def aeg(k:Nat→aq→Option ((List Int)×Unit)):uZ:=⟨fun U aa ae ai=>k 4 (bm [(0,.di (pL []) (aT af .R [] U 0) 0),(5,.aT (.ag 1 none)),(6,.aT (.ag 2 none)),(7,aY aa)] [(1,.row (.int .i64) .R 0 ae),(2,.row (.int .i64) .R 0 ai)] [.aD,.aD]),fun U aa ae ai an aB aZ=>k 9 (bm [(0,.di (pL []) (aT af .R [] U 0) 0),(5,.aT (.ag 1 none)),(6,.aT (.ag 2 none)),(7,aY aa),(31,gX ay ae),(32,aY ai),(33,aY an)] [(1,.row (.int .i64) .R 0 aB),(2,.row (.int .i64) .R 0 aZ)] [.aD,.aD])⟩
theorem Mr:Sound Tryz.prog 95 0 FF:=cE bk (fn:=Tryz.f95) (fns:=[(56,nR),(96,Ac)]) ⟨oY,FE,trivial⟩ (by kernel_rfl) (by kernel_rfl) aef aeg Su mQ (fun k x=>Ef k x.1 x.2.1) (by kernel_rfl) (fun _=>by kernel_rfl) (fun _=>rfl) (fun _ _=>by kernel_rfl) (fun _=>by kernel_rfl)
def FG:Entry:=⟨[gg af,aW (.int .i64)],[bq (.int .i64)],xm⟩
def aeh:List (Nat×b0):=[(3,⟨[(1,aM),(5,aM),(13,.cell (.b1 I [])),(14,aM),(15,aM)],[],[.drop,.drop]⟩),(6,⟨[(1,aM),(5,aM),(13,.cell (.b1 I [])),(14,aM),(15,aM),(20,.cell (.b1 ay [])),(21,aM),(22,aM)],[],[.drop,.drop]⟩)]
def aei(k:Nat→aq→Option (Int×Unit)):u1:=⟨fun U aa ae ai an=>k 3 (bm [(1,aY U),(5,aY aa),(13,gX I ae),(14,aY ai),(15,aY an)] [] [.aD,.aD]),fun U aa ae ai an aB aZ bD=>k 6 (bm [(1,aY U),(5,aY aa),(13,gX I ae),(14,aY ai),(15,aY an),(20,gX ay aB),(21,aY aZ),(22,aY bD)] [] [.aD,.aD])⟩
theorem Ms:Sound Tryz.prog 97 0 FG:=cE bk (fn:=Tryz.f97) (fns:=[]) trivial (by kernel_rfl) (by kernel_rfl) aeh aei Sv pV (fun k x=>Eg k x.1 x.2.1) (by kernel_rfl) (fun _=>by kernel_rfl) (fun _=>rfl) (fun _ _=>by kernel_rfl) (fun _=>by kernel_rfl)
def FH:Entry:=⟨[gg af],[bq (.int .i64)],sr⟩
def aej:List (Nat×b0):=[(3,⟨[(3,aM),(9,.cell (.b1 I [])),(10,aM),(11,aM)],[],[.drop]⟩)]
def aek(k:Nat→aq→Option (Int×Unit)):Eh:=fun U aa ae ai=>k 3 (bm [(3,aY U),(9,gX I aa),(10,aY ae),(11,aY ai)] [] [.aD])
theorem Mt:Sound Tryz.prog 98 0 FH:=cE bk (fn:=Tryz.f98) (fns:=[]) trivial (by kernel_rfl) (by kernel_rfl) aej aek Ej u2 (fun k x=>Ei k x.1) (by kernel_rfl) (fun _=>by kernel_rfl) (fun _=>rfl) (fun _ _=>by kernel_rfl) (fun _=>by kernel_rfl)
def Mu:Entry:=⟨[gg af,aW (.int .i64)],[bq (.int .i64),bq (.int .i64)],xn⟩
def ael:List (Nat×b0):=[(4,⟨[(0,.di [] (r8 af .R [] 0)),(6,aM),(7,.cell (.ag 1)),(14,.cell (.ag 1)),(15,aM),(16,aM)],[(1,.row (.int .i64) .R)],[.drop,.drop]⟩)]
def aem(k:Nat→aq→Option (Int×Int×Unit)):Ek:=fun U aa ae ai an=>k 4 (bm [(0,.di (pL []) (aT af .R [] U 0) 0),(6,aY aa),(7,.aT (.ag 1 none)),(14,.aT (.ag 1 none)),(15,aY ae),(16,aY ai)] [(1,.row (.int .i64) .R 0 an)] [.aD,.aD])
theorem T8:Sound Tryz.prog 60 0 Mu:=cE bk (fn:=Tryz.f60) (fns:=[(56,nR),(95,FF)]) ⟨oY,Mr,trivial⟩ (by kernel_rfl) (by kernel_rfl) ael aem Em qX (fun k x=>El k x.1 x.2.1) (by kernel_rfl) (fun _=>by kernel_rfl) (fun _=>rfl) (fun _ _=>by kernel_rfl) (fun _=>by kernel_rfl)
def T9:Entry:=⟨[gg af,aW I],[bq .bool],KG⟩
theorem aen:Sound Tryz.prog 100 0 T9:=cI bk (fn:=Tryz.f100) (fns:=[(60,Mu)]) ⟨T8,trivial⟩ (by kernel_rfl) (by kernel_rfl) fun _=>by kernel_rfl
def T_:Entry:=⟨[aW (.sl I),.fn 1 0,gg af],[bq (.int .i64)],KH⟩
def aeo:List (Nat×b0):=[(2,⟨[(0,.cell (.b1 I [])),(1,.vN [[.keep,.b1 I []]] []),(7,aM),(8,aM)],[],[.drop,.drop,.drop]⟩)]
def aep(k:Nat→aq→Option (Int×Unit)):En:=fun U aa ae ai=>k 2 (bm [(0,gX I U),(1,.fn 100 [.di [] [.int .i64 aa.1,.b1 I [] none aa.2.1] 0] []),(7,aY ae),(8,aY ai)] [] [.aD,.aD,.aD])
theorem aeq:Sound Tryz.prog 136 100 T_:=vO bk 100 (fn:=Tryz.f136) (fns:=[(100,T9)]) ⟨aen,trivial⟩ (by kernel_rfl) (by kernel_rfl) aeo aep Ep u3 (fun k x=>Eo k x.1 x.2.1) (by kernel_rfl) (fun _=>by kernel_rfl) (fun _=>rfl) (fun _ _=>by kernel_rfl) (fun _=>by kernel_rfl)
def Mv:Entry:=⟨[aW (.sl I),.fn 1 0,gg af],[bq .bool],zO⟩
theorem Ua:Sound Tryz.prog 99 100 Mv:=RK bk 100 (fn:=Tryz.f99) (fns:=[(100000136,T_)]) ⟨aeq,trivial⟩ (by kernel_rfl) (by kernel_rfl) fun _=>by kernel_rfl
def Ub:Entry:=⟨[aW af],[bq .bool],xp⟩
def aer:List (Nat×b0):=[(4,⟨[(1,.ptr 1),(36,.cell (.b1 I [])),(37,aM),(38,aM)],az 1 af .R [],[.drop]⟩),(11,⟨[(1,.ptr 1),(5,.cell (.ag 2)),(75,.cell (.b1 I [])),(76,aM),(77,aM)],az 1 af .R []++[(2,.row (.int .i64) .R)],[.drop]⟩)]
def aes(k:Nat→aq→Option (Bool×Unit)):u4:=⟨fun U aa ae ai=>k 4 (bm [(1,aw 1),(36,gX I U),(37,aY aa),(38,aY ae)] (aC 1 af .R [] ai) [.aD]),fun U aa ae ai an=>k 11 (bm [(1,aw 1),(5,.aT (.ag 2 none)),(75,gX I U),(76,aY aa),(77,aY ae)] (aC 1 af .R [] ai++[(2,.row (.int .i64) .R 0 an)]) [.aD])⟩
theorem aet:Sound Tryz.prog 53 0 Ub:=cE bk (fn:=Tryz.f53) (fns:=[(93,kK),(94,T6),(95,FF),(96,Ac),(97,FG),(98,FH),(100000099,Mv)]) ⟨lj,aeb,Mr,FE,Ms,Mt,Ua,trivial⟩ (by kernel_rfl) (by kernel_rfl) aer aes Sw nL (fun k x=>Er k x.1) (by kernel_rfl) (fun _=>by kernel_rfl) (fun _=>rfl) (fun _ _=>by kernel_rfl) (fun _=>by kernel_rfl)
def sH:Entry:=⟨[aW (.int .i64)],[bq aF],eZ⟩
theorem vo:Sound Tryz.prog 54 0 sH:=cI bk (fn:=Tryz.f54) (fns:=[]) trivial (by kernel_rfl) (by kernel_rfl) fun _=>by kernel_rfl
def Uc:Entry:=⟨[aW (.int .i64)],[bq .bool],Sx⟩
theorem aeu:Sound Tryz.prog 138 0 Uc:=cI bk (fn:=Tryz.f138) (fns:=[(93,kK)]) ⟨lj,trivial⟩ (by kernel_rfl) (by kernel_rfl) fun _=>by kernel_rfl
def Ud:Entry:=⟨[aW (.sl (.int .i64)),.fn 0 0],[bq (.int .i64)],KK⟩
def aev:List (Nat×b0):=[(2,⟨[(0,.cell (.b1 (.int .i64) [])),(1,.same),(7,aM),(8,aM)],[],[.drop,.drop]⟩)]
def aew(k:Nat→aq→Option (Int×Unit)):Es:=fun U aa ae=>k 2 (bm [(0,gX (.int .i64) U),(1,.fn 138 [] []),(7,aY aa),(8,aY ae)] [] [.aD,.aD])
theorem aex:Sound Tryz.prog 159 138 Ud:=vO bk 138 (fn:=Tryz.f159) (fns:=[(138,Uc)]) ⟨aeu,trivial⟩ (by kernel_rfl) (by kernel_rfl) aev aew Eu u7 (fun k x=>Et k x.1) (by kernel_rfl) (fun _=>by kernel_rfl) (fun _=>rfl) (fun _ _=>by kernel_rfl) (fun _=>by kernel_rfl)
def Ue:Entry:=⟨[aW (.sl (.int .i64)),.fn 0 0],[bq .bool],KM⟩
theorem aey:Sound Tryz.prog 137 138 Ue:=RK bk 138 (fn:=Tryz.f137) (fns:=[(138000159,Ud)]) ⟨aex,trivial⟩ (by kernel_rfl) (by kernel_rfl) fun _=>by kernel_rfl
def Ad:Entry:=⟨[aW aH],[bq .bool],xq⟩
theorem FI:Sound Tryz.prog 101 0 Ad:=cI bk (fn:=Tryz.f101) (fns:=[(93,kK),(138000137,Ue)]) ⟨lj,aey,trivial⟩ (by kernel_rfl) (by kernel_rfl) fun _=>by kernel_rfl
def Uf:Entry:=⟨[aW aJ],[bq .bool],KP⟩
def aez:List (Nat×b0):=[(3,⟨[(1,.ptr 1),(3,aM),(4,aM)],az 1 aJ .R [],[.drop]⟩),(5,⟨[(1,.ptr 1)],az 1 aJ .R [],[.drop]⟩)]
def aeA(k:Nat→aq→Option (Bool×Unit)):u9:=⟨fun U aa ae=>k 3 (bm [(1,aw 1),(3,jO U),(4,jO aa)] (aC 1 aJ .R [] ae) [.aD]),fun U=>k 5 (bm [(1,aw 1)] (aC 1 aJ .R [] U) [.aD])⟩
theorem aeB:Sound Tryz.prog 102 0 Uf:=cE bk (fn:=Tryz.f102) (fns:=[(93,kK)]) ⟨lj,trivial⟩ (by kernel_rfl) (by kernel_rfl) aez aeA KO Ew (fun k x=>Ev k x.1) (by kernel_rfl) (fun _=>by kernel_rfl) (fun _=>rfl) (fun _ _=>by kernel_rfl) (fun _=>by kernel_rfl)
def Ug:Entry:=⟨[aW af],[ro af],su⟩
def aeC:List (Nat×b0):=[(3,⟨[(2,.ptr 1),(3,.ptr 3),(10,.cell (.b1 I [])),(11,aM),(12,aM)],az 1 af af.own []++az 3 af af.own [],[.drop]⟩)]
def aeD(k:Nat→aq→Option (af.D×Unit)):xr:=fun U aa ae ai an=>k 3 (bm [(2,aw 1),(3,aw 3),(10,gX I U),(11,aY aa),(12,aY ae)] (aC 1 af af.own [] ai++aC 3 af af.own [] an) [.aD])
theorem aeE:Sound Tryz.prog 103 0 Ug:=cE bk (fn:=Tryz.f103) (fns:=[]) trivial (by kernel_rfl) (by kernel_rfl) aeC aeD Ey u_ (fun k x=>Ex k x.1) (by kernel_rfl) (fun _=>by kernel_rfl) (fun _=>rfl) (fun _ _=>by kernel_rfl) (fun _=>by kernel_rfl)
def Uh:Entry:=⟨[aW .str],[bq .bool],KR⟩
theorem aeF:Sound Tryz.prog 179 0 Uh:=cI bk (fn:=Tryz.f179) (fns:=[(133,FC)]) ⟨Mp,trivial⟩ (by kernel_rfl) (by kernel_rfl) fun _=>by kernel_rfl
def Ui:Entry:=⟨[gg af,aW (.int .i64)],[bq (.int .i64)],EA⟩
def aeG:List (Nat×b0):=[(2,⟨[(1,aM),(12,.cell (.b1 I [])),(13,aM),(14,aM)],[],[.drop,.drop]⟩),(5,⟨[(1,aM),(6,.ptr 1),(12,.cell (.b1 I [])),(13,aM),(14,aM),(19,.cell (.b1 ay [])),(20,aM),(21,aM)],az 1 I .R [],[.drop,.drop]⟩)]
def aeH(k:Nat→aq→Option (Int×Unit)):u':=⟨fun U aa ae ai=>k 2 (bm [(1,aY U),(12,gX I aa),(13,aY ae),(14,aY ai)] [] [.aD,.aD]),fun U aa ae ai an aB aZ bD=>k 5 (bm [(1,aY U),(6,aw 1),(12,gX I aa),(13,aY ae),(14,aY ai),(19,gX ay an),(20,aY aB),(21,aY aZ)] (aC 1 I .R [] bD) [.aD,.aD])⟩
theorem aeI:Sound Tryz.prog 61 0 Ui:=cE bk (fn:=Tryz.f61) (fns:=[]) trivial (by kernel_rfl) (by kernel_rfl) aeG aeH SC kJ (fun k x=>Ez k x.1 x.2.1) (by kernel_rfl) (fun _=>by kernel_rfl) (fun _=>rfl) (fun _ _=>by kernel_rfl) (fun _=>by kernel_rfl)
def FJ:Entry:=⟨[aW aH,aW (.int .i64)],[bq .bool],ve⟩
theorem Mw:Sound Tryz.prog 173 0 FJ:=cI bk (fn:=Tryz.f173) (fns:=[(96,Ac),(101,Ad)]) ⟨FE,FI,trivial⟩ (by kernel_rfl) (by kernel_rfl) fun _=>by kernel_rfl
def xA:Entry:=⟨[aW aH,aW I,aW (.int .i64)],[bq .bool],pW⟩
theorem Ae:Sound Tryz.prog 171 0 xA:=cI bk (fn:=Tryz.f171) (fns:=[(93,kK),(101,Ad),(173,FJ)]) ⟨lj,FI,Mw,trivial⟩ (by kernel_rfl) (by kernel_rfl) fun _=>by kernel_rfl
def Mx:Entry:=⟨[gg I,aW .str],[bq (.int .i64)],EE⟩
def aeJ:List (Nat×b0):=[(2,⟨[(1,aM),(10,.cell (.b1 ay [])),(11,aM),(12,aM)],[],[.drop,.drop]⟩)]
def aeK(k:Nat→aq→Option (Int×Unit)):EB:=fun U aa ae ai=>k 2 (bm [(1,eo U),(10,gX ay aa),(11,aY ae),(12,aY ai)] [] [.aD,.aD])
theorem Uj:Sound Tryz.prog 181 0 Mx:=cE bk (fn:=Tryz.f181) (fns:=[]) trivial (by kernel_rfl) (by kernel_rfl) aeJ aeK ED sv (fun k x=>EC k x.1 x.2.1) (by kernel_rfl) (fun _=>by kernel_rfl) (fun _=>rfl) (fun _ _=>by kernel_rfl) (fun _=>by kernel_rfl)
def Uk:Entry:=⟨[aW .str,aW (.int .i64)],[ro (.sl .str)],SD⟩
theorem aeL:ij Tryz.prog 208 0 Uk:=RN fun _=>rfl
def Ul:Entry:=⟨[aW .str,aW (.int .u8)],[bq (.int .i64)],SE⟩
theorem aeM:ij Tryz.prog 220 0 Ul:=abv Tryz.func220 (by kernel_rfl) (by kernel_rfl) (by kernel_rfl) (by kernel_rfl)
def Um:Entry:=⟨[aW .str,aW (.int .u8)],[bq (.int .i64)],SF⟩
theorem aeN:Sound Tryz.prog 216 0 Um:=cI bk (fn:=Tryz.f216) (fns:=[(220,Ul)]) ⟨aeM,trivial⟩ (by kernel_rfl) (by kernel_rfl) fun _=>by kernel_rfl
def Un:Entry:=⟨[aW .str,aW .str],[bq (.int .i64)],SG⟩
theorem aeO:Sound Tryz.prog 214 0 Un:=cI bk (fn:=Tryz.f214) (fns:=[(216,Um)]) ⟨aeN,trivial⟩ (by kernel_rfl) (by kernel_rfl) fun _=>by kernel_rfl
def My:Entry:=⟨[aW .str,aW .str],[bq (.int .i64)],EF⟩
theorem Uo:Sound Tryz.prog 210 0 My:=cI bk (fn:=Tryz.f210) (fns:=[(214,Un)]) ⟨aeO,trivial⟩ (by kernel_rfl) (by kernel_rfl) fun _=>by kernel_rfl
def Up:Entry:=⟨[aW .str],[bq (.int .i64)],SH⟩
theorem aeP:ij Tryz.prog 211 0 Up:=RN fun _=>rfl
def Uq:Entry:=⟨[aW .str,aW (.int .u8)],[bq (.int .i64)],SI⟩
theorem aeQ:ij Tryz.prog 213 0 Uq:=abw Tryz.func213 (by kernel_rfl) (by kernel_rfl) (by kernel_rfl) (by kernel_rfl)
def Ur:Entry:=⟨[aW .str,aW .str],[bq (.int .i64)],KW⟩
def aeR:List (Nat×b0):=[(6,⟨[(0,aM),(1,aM),(5,aM)],[],[.drop,.drop]⟩)]
def aeS(k:Nat→aq→Option (Int×Unit)):EG:=fun U aa ae=>k 6 (bm [(0,eo U),(1,eo aa),(5,aY ae)] [] [.aD,.aD])
theorem aeT:Sound Tryz.prog 209 0 Ur:=cE bk (fn:=Tryz.f209) (fns:=[(210,My),(211,Up),(213,Uq)]) ⟨Uo,aeP,aeQ,trivial⟩ (by kernel_rfl) (by kernel_rfl) aeR aeS SJ EI (fun k x=>EH k x.1 x.2.1) (by kernel_rfl) (fun _=>by kernel_rfl) (fun _=>rfl) (fun _ _=>by kernel_rfl) (fun _=>by kernel_rfl)
def Us:Entry:=⟨[aW .str,aW .str,aW (.int .i64),aW (.int .i64)],[ro (.sl .str)],KZ⟩
def aeU:List (Nat×b0):=[(7,⟨[(0,aM),(1,aM),(2,aM),(3,aM)],[],[.drop,.drop,.drop,.drop]⟩),(11,⟨[(0,aM),(1,aM),(2,aM),(3,aM),(9,.cell (.ag 1)),(10,aM)],[(1,.row .str .R)],[.drop,.drop,.drop,.drop]⟩),(17,⟨[(0,aM),(9,.cell (.ag 1)),(10,aM)],[(1,.row .str .R)],[.drop,.drop,.drop,.drop]⟩)]
def aeV(k:Nat→aq→Option (pX)):qY:=⟨fun U aa ae ai=>k 7 (bm [(0,eo U),(1,eo aa),(2,aY ae),(3,aY ai)] [] [.aD,.aD,.aD,.aD]),fun U aa ae ai an aB=>k 11 (bm [(0,eo U),(1,eo aa),(2,aY ae),(3,aY ai),(9,.aT (.ag 1 none)),(10,aY an)] [(1,.row .str .R 0 aB)] [.aD,.aD,.aD,.aD]),fun U aa ae=>k 17 (bm [(0,eo U),(9,.aT (.ag 1 none)),(10,aY aa)] [(1,.row .str .R 0 ae)] [.aD,.aD,.aD,.aD])⟩
theorem aeW:Sound Tryz.prog 207 0 Us:=cE bk (fn:=Tryz.f207) (fns:=[(208,Uk),(209,Ur),(210,My)]) ⟨aeL,aeT,Uo,trivial⟩ (by kernel_rfl) (by kernel_rfl) aeU aeV SL qZ (fun k x=>EJ k x.1 x.2.1 x.2.2.1 x.2.2.2.1) (by kernel_rfl) (fun _=>by kernel_rfl) (fun _=>rfl) (fun _ _=>by kernel_rfl) (fun _=>by kernel_rfl)
def Ut:Entry:=⟨[aW .str,aW .str],[ro (.sl .str)],K1⟩
theorem aeX:Sound Tryz.prog 200 0 Ut:=cI bk (fn:=Tryz.f200) (fns:=[(207,Us)]) ⟨aeW,trivial⟩ (by kernel_rfl) (by kernel_rfl) fun _=>by kernel_rfl
def Uu:Entry:=⟨[aW .str],[ro (.sl .str)],sx⟩
def aeY:List (Nat×b0):=[(3,⟨[(3,.cell (.ag 1)),(8,.cell (.ag 2)),(9,aM),(10,aM)],[(1,.row .str .R),(2,.row .str .R)],[.drop]⟩)]
def aeZ(k:Nat→aq→Option (zQ)):EK:=fun U aa ae ai=>k 3 (bm [(3,.aT (.ag 1 none)),(8,.aT (.ag 2 none)),(9,aY U),(10,aY aa)] [(1,.row .str .R 0 ae),(2,.row .str .R 0 ai)] [.aD])
theorem ae0:Sound Tryz.prog 192 0 Uu:=cE bk (fn:=Tryz.f192) (fns:=[(200,Ut)]) ⟨aeX,trivial⟩ (by kernel_rfl) (by kernel_rfl) aeY aeZ EM sw (fun k x=>EL k x.1) (by kernel_rfl) (fun _=>by kernel_rfl) (fun _=>rfl) (fun _ _=>by kernel_rfl) (fun _=>by kernel_rfl)
def Uv:Entry:=⟨[gg af,aW aH,aW .str,aW .bool],[bq aV],K2⟩
def ae1:List (Nat×b0):=[(3,⟨[(0,.di [] (r8 af .R [] 0)),(3,aM),(5,.ptr 1),(8,.ptr 2),(9,.cell (.au 3)),(10,aM),(11,aM)],az 1 aH .R []++az 2 aV .R []++[(3,.row .str .R)],[.drop,.drop,.drop,.drop]⟩)]
def ae2(k:Nat→aq→Option (aV.D×Unit)):sy:=fun U aa ae ai an aB aZ bD b_=>k 3 (bm [(0,.di (pL []) (aT af .R [] U 0) 0),(3,jO aa),(5,aw 1),(8,aw 2),(9,.aT (.ag 3 (some (ae,ai)))),(10,aY an),(11,aY aB)] (aC 1 aH .R [] aZ++aC 2 aV .R [] bD++[(3,.row .str .R 0 b_)]) [.aD,.aD,.aD,.aD])
theorem ae3:Sound Tryz.prog 180 0 Uv:=cE bk (fn:=Tryz.f180) (fns:=[(56,nR),(61,Ui),(171,xA),(181,Mx),(192,Uu)]) ⟨oY,aeI,Ae,Uj,ae0,trivial⟩ (by kernel_rfl) (by kernel_rfl) ae1 ae2 l0 gu (fun k x=>EN k x.1 x.2.1 x.2.2.1 x.2.2.2.1) (by kernel_rfl) (fun _=>by kernel_rfl) (fun _=>rfl) (fun _ _=>by kernel_rfl) (fun _=>by kernel_rfl)
def xB:Entry:=⟨[gg aL,aW .str,aW .bool],[bq aV],lg⟩
theorem Af:Sound Tryz.prog 164 0 xB:=cI bk (fn:=Tryz.f164) (fns:=[(179,Uh),(180,Uv)]) ⟨aeF,ae3,trivial⟩ (by kernel_rfl) (by kernel_rfl) fun _=>by kernel_rfl
def Mz:Entry:=⟨[gg aL,aW .str],[bq aV,bq (.int .i64)],vf⟩
theorem Uw:Sound Tryz.prog 160 0 Mz:=cI bk (fn:=Tryz.f160) (fns:=[(164,xB)]) ⟨Af,trivial⟩ (by kernel_rfl) (by kernel_rfl) fun _=>by kernel_rfl
def Ag:Entry:=⟨[gg aL,aW (.int .i64)],[bq .bool],nM⟩
theorem FK:Sound Tryz.prog 161 0 Ag:=cI bk (fn:=Tryz.f161) (fns:=[(56,nR),(171,xA)]) ⟨oY,Ae,trivial⟩ (by kernel_rfl) (by kernel_rfl) fun _=>by kernel_rfl
def Ux:Entry:=⟨[th (.sl ay),aW (.int .i64),th (.sl ay)],[ro (.sl ay)],SR⟩
theorem ae4:ij Tryz.prog 178 0 Ux:=ins_soundX
def FL:Entry:=⟨[.«mut» aL cm cm,aW (.int .i64),aW .str,aW (.int .i64)],[],sB⟩
def ae5:List (Nat×b0):=[(2,⟨[(2,aM),(3,aM),(8,.opt 1),(9,aM)],[(1,.row I kg),(2,.var [.keep,.ag 1,.keep,.keep,.b1 (.int .i64) [],.keep,.keep,.keep,.keep,.keep,.keep])],[.ptr 2,.drop,.drop,.drop]⟩),(4,⟨[(2,aM),(3,aM),(8,.opt 1),(9,aM)],[(1,.row I kg),(2,.var [.keep,.ag 1,.keep,.keep,.b1 (.int .i64) [],.keep,.keep,.keep,.keep,.keep,.keep])],[.ptr 2,.drop,.drop,.drop]⟩)]
def ae6(k:Nat→aq→Option (aL.D×Unit)):vg:=⟨fun U aa ae ai an=>k 2 (bm [(2,eo U),(3,aY aa),(8,.opt 1 ae),(9,aY ai)] ([(1,.row I kg 0 an.1.2.1),(2,.var 0 [.int .i64 an.1.1,.ag 1 none,.int .i64 an.2.1.1,.int .i64 an.2.1.2.1,.b1 (.int .i64) [] none an.2.1.2.2.1,.int .i64 an.2.2.1.1,.str an.2.2.1.2.1,.str an.2.2.1.2.2.1,.int .i64 an.2.2.1.2.2.2.1,.int .i64 an.2.2.1.2.2.2.2.1,.str an.2.2.1.2.2.2.2.2.1])]) [aw 2,.aD,.aD,.aD]),fun U aa ae ai an=>k 4 (bm [(2,eo U),(3,aY aa),(8,.opt 1 ae),(9,aY ai)] ([(1,.row I kg 0 an.1.2.1),(2,.var 0 [.int .i64 an.1.1,.ag 1 none,.int .i64 an.2.1.1,.int .i64 an.2.1.2.1,.b1 (.int .i64) [] none an.2.1.2.2.1,.int .i64 an.2.2.1.1,.str an.2.2.1.2.1,.str an.2.2.1.2.2.1,.int .i64 an.2.2.1.2.2.2.1,.int .i64 an.2.2.1.2.2.2.2.1,.str an.2.2.1.2.2.2.2.2.1])]) [aw 2,.aD,.aD,.aD])⟩
theorem MA:Sound Tryz.prog 162 0 FL:=cE bk (fn:=Tryz.f162) (fns:=[(178,Ux),(56,FD)]) ⟨ae4,Mq,trivial⟩ (by kernel_rfl) (by kernel_rfl) ae5 ae6 SS sA (fun k x=>EO k x.1 x.2.1 x.2.2.1 x.2.2.2.1) (by kernel_rfl) (fun _=>by kernel_rfl) (fun _=>rfl) (fun _ _=>by kernel_rfl) (fun _=>by kernel_rfl)
def xC:Entry:=⟨[gg aL],[bq (.int .i64)],nN⟩
theorem Ah:Sound Tryz.prog 163 0 xC:=cI bk (fn:=Tryz.f163) (fns:=[(98,FH),(100000099,Mv)]) ⟨Mt,Ua,trivial⟩ (by kernel_rfl) (by kernel_rfl) fun _=>by kernel_rfl
def Uy:Entry:=⟨[.«mut» aL cm cm],[bq (.int .i64)],zT⟩
def ae7:List (Nat×b0):=[(4,⟨[(0,.ptr 1),(3,.ptr 3)],az 1 aL cm []++az 3 aJ .R [],[.ptr 1]⟩),(23,⟨[(0,.ptr 1),(4,.ptr 3),(7,.ptr 4)],az 1 aL cm []++az 3 aV .R []++az 4 I I.own [],[.ptr 1]⟩)]
def ae8(k:Nat→aq→Option (Int×aL.D×Unit)):vh:=⟨fun U aa=>k 4 (bm [(0,aw 1),(3,aw 3)] (aC 1 aL cm [] U++aC 3 aJ .R [] aa) [aw 1]),fun U aa ae=>k 23 (bm [(0,aw 1),(4,aw 3),(7,aw 4)] (aC 1 aL cm [] U++aC 3 aV .R [] aa++aC 4 I I.own [] ae) [aw 1])⟩
theorem ae9:Sound Tryz.prog 139 0 Uy:=cE bk (fn:=Tryz.f139) (fns:=[(56,nR),(93,kK),(133,FC),(160,Mz),(161,Ag),(162,FL),(163,xC)]) ⟨oY,lj,Mp,Uw,FK,MA,Ah,trivial⟩ (by kernel_rfl) (by kernel_rfl) ae7 ae8 SU lh (fun k x=>EP k x.1) (by kernel_rfl) (fun _=>by kernel_rfl) (fun _=>rfl) (fun _ _=>by kernel_rfl) (fun _=>by kernel_rfl)
def FM:Entry:=⟨[aW aH,aW I,aW I],[bq .bool],sC⟩
theorem MB:Sound Tryz.prog 165 0 FM:=cI bk (fn:=Tryz.f165) (fns:=[(101,Ad)]) ⟨FI,trivial⟩ (by kernel_rfl) (by kernel_rfl) fun _=>by kernel_rfl
def MC:Entry:=⟨[aW ay,gg .str],[bq .bool],ER⟩
theorem Uz:Sound Tryz.prog 183 0 MC:=cI bk (fn:=Tryz.f183) (fns:=[]) trivial (by kernel_rfl) (by kernel_rfl) fun _=>by kernel_rfl
def UA:Entry:=⟨[aW (.sl ay),.fn 0 1,gg .str],[bq (.int .i64)],K9⟩
def ae_:List (Nat×b0):=[(2,⟨[(0,.cell (.b1 ay [])),(1,.vN [] [[.keep]]),(7,aM),(8,aM)],[],[.drop,.drop,.drop]⟩)]
def ae'(k:Nat→aq→Option (Int×Unit)):ES:=fun U aa ae ai=>k 2 (bm [(0,gX ay U),(1,.fn 183 [] [.di [] [.str aa] 0]),(7,aY ae),(8,aY ai)] [] [.aD,.aD,.aD])
theorem afa:Sound Tryz.prog 193 183 UA:=vO bk 183 (fn:=Tryz.f193) (fns:=[(183,MC)]) ⟨Uz,trivial⟩ (by kernel_rfl) (by kernel_rfl) ae_ ae' ET xt (fun k x=>SV k x.1 x.2.1) (by kernel_rfl) (fun _=>by kernel_rfl) (fun _=>rfl) (fun _ _=>by kernel_rfl) (fun _=>by kernel_rfl)
def UB:Entry:=⟨[th (.sl ay),.fn 0 1,gg .str],[ro (.sl ay)],EX⟩
def afb:List (Nat×b0):=[(5,⟨[(0,.cell (.ag 1)),(1,.vN [] [[.keep]]),(5,aM),(6,aM)],[(1,.row ay .R)],[.drop,.drop,.drop]⟩)]
def afc(k:Nat→aq→Option (xu)):EU:=fun U aa ae ai=>k 5 (bm [(0,.aT (.ag 1 none)),(1,.fn 183 [] [.di [] [.str U] 0]),(5,aY aa),(6,aY ae)] [(1,.row ay .R 0 ai)] [.aD,.aD,.aD])
theorem afd:Sound Tryz.prog 182 183 UB:=vO bk 183 (fn:=Tryz.f182) (fns:=[(183,MC),(183000193,UA)]) ⟨Uz,afa,trivial⟩ (by kernel_rfl) (by kernel_rfl) afb afc EW xv (fun k x=>EV k x.1 x.2.1) (by kernel_rfl) (fun _=>by kernel_rfl) (fun _=>rfl) (fun _ _=>by kernel_rfl) (fun _=>by kernel_rfl)
def UC:Entry:=⟨[th (.sl I),.fn 0 1,gg (.int .i64)],[ro (.sl I)],SX⟩
theorem afe:ij Tryz.prog 184 185 UC:=abx (T:=I) (T':=pa.eF) (p:=fun y i => !(y.1==i)) (p':=fun y i => !pa.js y i) rfl (fun x y i h=>by rw [show x.1=y.1 from h.1];rfl) (fq:=pa.G') pa.X8.x (fun ys i h=>pa.del_eq ys i h)
def MD:Entry:=⟨[.«mut» aL cm cm,aW (.int .i64),aW .str,aW .bool],[],oT⟩
theorem UD:Sound Tryz.prog 166 0 MD:=cI bk (fn:=Tryz.f166) (fns:=[(97,FG),(181,Mx),(183000182,UB),(185000184,UC),(56,FD)]) ⟨Ms,Uj,afd,afe,Mq,trivial⟩ (by kernel_rfl) (by kernel_rfl) fun _=>by kernel_rfl
def UE:Entry:=⟨[.«mut» aL cm cm],[bq (.int .i64)],EZ⟩
def aff:List (Nat×b0):=[(5,⟨[(0,.ptr 1),(3,.ptr 3),(4,.ptr 4)],az 1 aL cm []++az 3 aV .R []++az 4 I .R [2,1],[.ptr 1]⟩),(7,⟨[(0,.ptr 1),(3,.ptr 3),(4,.ptr 4)],az 1 aL cm []++az 3 aV .R []++az 4 I .R [2,1],[.ptr 1]⟩),(9,⟨[(0,.ptr 1),(3,.ptr 3),(4,.ptr 4)],az 1 aL cm []++az 3 aV .R []++az 4 I .R [2,1],[.ptr 1]⟩),(11,⟨[(0,.ptr 1),(3,.ptr 3),(4,.ptr 4)],az 1 aL cm []++az 3 aV .R []++az 4 I .R [2,1],[.ptr 1]⟩)]
def afg(k:Nat→aq→Option (Int×aL.D×Unit)):q1:=⟨fun U aa ae=>k 5 (bm [(0,aw 1),(3,aw 3),(4,aw 4)] (aC 1 aL cm [] U++aC 3 aV .R [] aa++aC 4 I .R [2,1] ae) [aw 1]),fun U aa ae=>k 7 (bm [(0,aw 1),(3,aw 3),(4,aw 4)] (aC 1 aL cm [] U++aC 3 aV .R [] aa++aC 4 I .R [2,1] ae) [aw 1]),fun U aa ae=>k 9 (bm [(0,aw 1),(3,aw 3),(4,aw 4)] (aC 1 aL cm [] U++aC 3 aV .R [] aa++aC 4 I .R [2,1] ae) [aw 1]),fun U aa ae=>k 11 (bm [(0,aw 1),(3,aw 3),(4,aw 4)] (aC 1 aL cm [] U++aC 3 aV .R [] aa++aC 4 I .R [2,1] ae) [aw 1])⟩
theorem afh:Sound Tryz.prog 140 0 UE:=cE bk (fn:=Tryz.f140) (fns:=[(56,nR),(161,Ag),(164,xB),(165,FM),(166,MD)]) ⟨oY,FK,Af,MB,UD,trivial⟩ (by kernel_rfl) (by kernel_rfl) aff afg SY oU (fun k x=>EY k x.1) (by kernel_rfl) (fun _=>by kernel_rfl) (fun _=>rfl) (fun _ _=>by kernel_rfl) (fun _=>by kernel_rfl)
def ME:Entry:=⟨[gg af,aW (.int .i64)],[bq .bool],vi⟩
theorem UF:Sound Tryz.prog 59 0 ME:=cI bk (fn:=Tryz.f59) (fns:=[(56,nR)]) ⟨oY,trivial⟩ (by kernel_rfl) (by kernel_rfl) fun _=>by kernel_rfl
def UG:Entry:=⟨[.«mut» aL cm cm],[bq (.int .i64)],E0⟩
theorem afi:Sound Tryz.prog 141 0 UG:=cI bk (fn:=Tryz.f141) (fns:=[(56,nR),(59,ME),(160,Mz),(161,Ag),(162,FL),(163,xC),(164,xB)]) ⟨oY,UF,Uw,FK,MA,Ah,Af,trivial⟩ (by kernel_rfl) (by kernel_rfl) fun _=>by kernel_rfl
def UH:Entry:=⟨[gg aL,aW I,aW aV],[bq (.int .i64)],E1⟩
theorem afj:Sound Tryz.prog 167 0 UH:=cI bk (fn:=Tryz.f167) (fns:=[(56,nR),(165,FM)]) ⟨oY,MB,trivial⟩ (by kernel_rfl) (by kernel_rfl) fun _=>by kernel_rfl
def UI:Entry:=⟨[.«mut» aL cm cm],[bq (.int .i64)],E3⟩
def afk:List (Nat×b0):=[(7,⟨[(0,.ptr 1),(3,.ptr 3),(4,.ptr 4)],az 1 aL cm []++az 3 aV .R []++az 4 aV .R [],[.ptr 1]⟩),(10,⟨[(0,.ptr 1),(3,.ptr 3),(4,.ptr 4),(5,.ptr 5)],az 1 aL cm []++az 3 aV .R []++az 4 aV .R []++az 5 I .R [2,1],[.ptr 1]⟩),(16,⟨[(0,.ptr 1),(3,.ptr 3),(4,.ptr 4),(5,.ptr 5)],az 1 aL cm []++az 3 aV .R []++az 4 aV .R []++az 5 I .R [2,1],[.ptr 1]⟩),(25,⟨[(0,.ptr 1),(3,.ptr 3),(4,.ptr 4)],az 1 aL cm []++az 3 aV .R []++az 4 aV .R [],[.ptr 1]⟩)]
def afl(k:Nat→aq→Option (Int×aL.D×Unit)):q2:=⟨fun U aa ae=>k 7 (bm [(0,aw 1),(3,aw 3),(4,aw 4)] (aC 1 aL cm [] U++aC 3 aV .R [] aa++aC 4 aV .R [] ae) [aw 1]),fun U aa ae ai=>k 10 (bm [(0,aw 1),(3,aw 3),(4,aw 4),(5,aw 5)] (aC 1 aL cm [] U++aC 3 aV .R [] aa++aC 4 aV .R [] ae++aC 5 I .R [2,1] ai) [aw 1]),fun U aa ae ai=>k 16 (bm [(0,aw 1),(3,aw 3),(4,aw 4),(5,aw 5)] (aC 1 aL cm [] U++aC 3 aV .R [] aa++aC 4 aV .R [] ae++aC 5 I .R [2,1] ai) [aw 1]),fun U aa ae=>k 25 (bm [(0,aw 1),(3,aw 3),(4,aw 4)] (aC 1 aL cm [] U++aC 3 aV .R [] aa++aC 4 aV .R [] ae) [aw 1])⟩
theorem afm:Sound Tryz.prog 142 0 UI:=cE bk (fn:=Tryz.f142) (fns:=[(56,nR),(95,FF),(96,Ac),(161,Ag),(162,FL),(163,xC),(164,xB),(165,FM),(166,MD),(167,UH)]) ⟨oY,Mr,FE,FK,MA,Ah,Af,MB,UD,afj,trivial⟩ (by kernel_rfl) (by kernel_rfl) afk afl SZ jl (fun k x=>E2 k x.1) (by kernel_rfl) (fun _=>by kernel_rfl) (fun _=>rfl) (fun _ _=>by kernel_rfl) (fun _=>by kernel_rfl)
def q9:Entry:=⟨[.«mut» aL cm cm,aW .bool],[.opt 0 1 I,bq (.int .i64)],mR⟩
theorem sI:Sound Tryz.prog 170 0 q9:=cI bk (fn:=Tryz.f170) (fns:=[(164,xB),(56,FD)]) ⟨Af,Mq,trivial⟩ (by kernel_rfl) (by kernel_rfl) fun _=>by kernel_rfl
def MF:Entry:=⟨[.«mut» aL cm cm,aW (.int .i64)],[.opt 0 1 I,bq (.int .i64)],zV⟩
theorem UJ:Sound Tryz.prog 168 0 MF:=cI bk (fn:=Tryz.f168) (fns:=[(170,q9),(171,xA)]) ⟨sI,Ae,trivial⟩ (by kernel_rfl) (by kernel_rfl) fun _=>by kernel_rfl
def UK:Entry:=⟨[.«mut» aL cm cm],[bq aF],E4⟩
theorem afn:Sound Tryz.prog 143 0 UK:=cI bk (fn:=Tryz.f143) (fns:=[(54,sH),(168,MF)]) ⟨vo,UJ,trivial⟩ (by kernel_rfl) (by kernel_rfl) fun _=>by kernel_rfl
def UL:Entry:=⟨[aW .str,aW (.int .i64)],[bq .str],strings_Repeat⟩
theorem afo:ij Tryz.prog 186 0 UL:=rep_soundX
def UM:Entry:=⟨[aW .str,aW (.int .i64)],[bq .str],E5⟩
theorem afp:Sound Tryz.prog 169 0 UM:=cI bk (fn:=Tryz.f169) (fns:=[(186,UL)]) ⟨afo,trivial⟩ (by kernel_rfl) (by kernel_rfl) fun _=>by kernel_rfl
def UN:Entry:=⟨[.«mut» aL cm cm],[bq (.int .i64)],E7⟩
def afq:List (Nat×b0):=[(7,⟨[(0,.ptr 1),(3,.opt 2),(5,aM)],az 1 aL cm [],[.ptr 1]⟩),(11,⟨[(0,.ptr 1),(3,.opt 2),(5,aM)],az 1 aL cm [],[.ptr 1]⟩),(18,⟨[(0,.ptr 1),(3,.opt 2),(6,aM)],az 1 aL cm [],[.ptr 1]⟩)]
def afr(k:Nat→aq→Option (Int×aL.D×Unit)):sD:=⟨fun U aa ae=>k 7 (bm [(0,aw 1),(3,.opt 2 U),(5,aY aa)] (aC 1 aL cm [] ae) [aw 1]),fun U aa ae=>k 11 (bm [(0,aw 1),(3,.opt 2 U),(5,aY aa)] (aC 1 aL cm [] ae) [aw 1]),fun U aa ae=>k 18 (bm [(0,aw 1),(3,.opt 2 U),(6,eo aa)] (aC 1 aL cm [] ae) [aw 1])⟩
theorem afs:Sound Tryz.prog 144 0 UN:=cE bk (fn:=Tryz.f144) (fns:=[(163,xC),(168,MF),(169,UM)]) ⟨Ah,UJ,afp,trivial⟩ (by kernel_rfl) (by kernel_rfl) afq afr S3 gF (fun k x=>E6 k x.1) (by kernel_rfl) (fun _=>by kernel_rfl) (fun _=>rfl) (fun _ _=>by kernel_rfl) (fun _=>by kernel_rfl)
def UO:Entry:=⟨[.«mut» aL cm cm],[bq aF],E8⟩
theorem aft:Sound Tryz.prog 145 0 UO:=cI bk (fn:=Tryz.f145) (fns:=[(54,sH),(170,q9)]) ⟨vo,sI,trivial⟩ (by kernel_rfl) (by kernel_rfl) fun _=>by kernel_rfl
def MG:Entry:=⟨[aW (.sl .str),aW .str],[bq .str],strings_Join⟩
theorem UP:ij Tryz.prog 172 0 MG:=join_soundX
def UQ:Entry:=⟨[aW (.int .i64)],[bq .str],zW⟩
def afu:List (Nat×b0):=[(4,⟨[(0,aM),(3,aM),(4,aM)],[],[.drop]⟩),(7,⟨[(0,aM),(3,aM),(4,aM),(5,aM)],[],[.drop]⟩)]
def afv(k:Nat→aq→Option ((List UInt8)×Unit)):vj:=⟨fun U aa ae=>k 4 (bm [(0,aY U),(3,eo aa),(4,aY ae)] [] [.aD]),fun U aa ae ai=>k 7 (bm [(0,aY U),(3,eo aa),(4,aY ae),(5,aY ai)] [] [.aD])⟩
theorem afw:Sound Tryz.prog 174 0 UQ:=cE bk (fn:=Tryz.f174) (fns:=[(93,kK)]) ⟨lj,trivial⟩ (by kernel_rfl) (by kernel_rfl) afu afv S6 mS (fun k x=>S5 k x.1) (by kernel_rfl) (fun _=>by kernel_rfl) (fun _=>rfl) (fun _ _=>by kernel_rfl) (fun _=>by kernel_rfl)
def FN:Entry:=⟨[aW (.sl (.int .i64))],[bq .str],q3⟩
def afx:List (Nat×b0):=[(3,⟨[(3,.cell (.ag 1)),(7,.cell (.b1 (.int .i64) [])),(8,aM),(9,aM)],[(1,.row .str .R)],[.drop]⟩)]
def afy(k:Nat→aq→Option ((List UInt8)×Unit)):E9:=fun U aa ae ai=>k 3 (bm [(3,.aT (.ag 1 none)),(7,gX (.int .i64) U),(8,aY aa),(9,aY ae)] [(1,.row .str .R 0 ai)] [.aD])
theorem MH:Sound Tryz.prog 151 0 FN:=cE bk (fn:=Tryz.f151) (fns:=[(172,MG),(174,UQ)]) ⟨UP,afw,trivial⟩ (by kernel_rfl) (by kernel_rfl) afx afy E_ vk (fun k x=>S7 k x.1) (by kernel_rfl) (fun _=>by kernel_rfl) (fun _=>rfl) (fun _ _=>by kernel_rfl) (fun _=>by kernel_rfl)
def UR:Entry:=⟨[.«mut» aL cm cm],[bq aF],zY⟩
def afz:List (Nat×b0):=[(13,⟨[(2,.ptr 1),(7,.cell (.ag 2)),(73,.cell (.b1 ay [3])),(74,aM),(75,aM)],az 1 aF .R []++[(2,.row .str .R),(3,.row I kg),(4,.var [.keep,.ag 3,.keep,.keep,.b1 (.int .i64) [],.keep,.keep,.keep,.keep,.keep,.keep])],[.ptr 4]⟩)]
def afA(k:Nat→aq→Option (zX)):E':=fun U aa ae ai an aB=>k 13 (bm [(2,aw 1),(7,.aT (.ag 2 none)),(73,.aT (.b1 ay (pL [3]) none U)),(74,aY aa),(75,aY ae)] (aC 1 aF .R [] ai++[(2,.row .str .R 0 an),(3,.row I kg 0 aB.1.2.1),(4,.var 0 [.int .i64 aB.1.1,.ag 3 none,.int .i64 aB.2.1.1,.int .i64 aB.2.1.2.1,.b1 (.int .i64) [] none aB.2.1.2.2.1,.int .i64 aB.2.2.1.1,.str aB.2.2.1.2.1,.str aB.2.2.1.2.2.1,.int .i64 aB.2.2.1.2.2.2.1,.int .i64 aB.2.2.1.2.2.2.2.1,.str aB.2.2.1.2.2.2.2.2.1])]) [aw 4])
theorem afB:Sound Tryz.prog 146 0 UR:=cE bk (fn:=Tryz.f146) (fns:=[(54,sH),(60,Mu),(151,FN),(170,q9),(171,xA),(172,MG)]) ⟨vo,T8,MH,sI,Ae,UP,trivial⟩ (by kernel_rfl) (by kernel_rfl) afz afA Fb q4 (fun k x=>Fa k x.1) (by kernel_rfl) (fun _=>by kernel_rfl) (fun _=>rfl) (fun _ _=>by kernel_rfl) (fun _=>by kernel_rfl)
def US:Entry:=⟨[gg af,aW I],[bq (.int .i64)],Fg⟩
def afC:List (Nat×b0):=[(5,⟨[(0,.di [] (r8 af .R [] 0)),(5,aM),(16,.cell (.b1 ay [])),(17,aM),(18,aM)],[],[.drop,.drop]⟩)]
def afD(k:Nat→aq→Option (Int×Unit)):Fc:=fun U aa ae ai an=>k 5 (bm [(0,.di (pL []) (aT af .R [] U 0) 0),(5,aY aa),(16,gX ay ae),(17,aY ai),(18,aY an)] [] [.aD,.aD])
theorem afE:Sound Tryz.prog 57 0 US:=cE bk (fn:=Tryz.f57) (fns:=[(59,ME),(97,FG)]) ⟨UF,Ms,trivial⟩ (by kernel_rfl) (by kernel_rfl) afC afD Ff sE (fun k x=>Fe k x.1 x.2.1) (by kernel_rfl) (fun _=>by kernel_rfl) (fun _=>rfl) (fun _ _=>by kernel_rfl) (fun _=>by kernel_rfl)
def UT:Entry:=⟨[.«mut» aL cm cm],[bq aF],zZ⟩
theorem afF:Sound Tryz.prog 147 0 UT:=cI bk (fn:=Tryz.f147) (fns:=[(54,sH),(57,US),(93,kK),(151,FN),(170,q9)]) ⟨vo,afE,lj,MH,sI,trivial⟩ (by kernel_rfl) (by kernel_rfl) fun _=>by kernel_rfl
def UU:Entry:=⟨[.«mut» aL cm cm],[bq (.int .i64)],Fj⟩
def afG:List (Nat×b0):=[(8,⟨[(0,.ptr 1),(3,.opt 2)],az 1 aL cm [],[.ptr 1]⟩)]
def afH(k:Nat→aq→Option (Int×aL.D×Unit)):Fh:=fun U aa=>k 8 (bm [(0,aw 1),(3,.opt 2 U)] (aC 1 aL cm [] aa) [aw 1])
theorem afI:Sound Tryz.prog 148 0 UU:=cE bk (fn:=Tryz.f148) (fns:=[(93,kK),(170,q9),(173,FJ)]) ⟨lj,sI,Mw,trivial⟩ (by kernel_rfl) (by kernel_rfl) afG afH Lw q5 (fun k x=>Fi k x.1) (by kernel_rfl) (fun _=>by kernel_rfl) (fun _=>rfl) (fun _ _=>by kernel_rfl) (fun _=>by kernel_rfl)
def UW:Entry:=⟨[.«mut» aL cm cm],[bq (.int .i64)],Fm⟩
def afJ:List (Nat×b0):=[(8,⟨[(0,.ptr 1),(3,.opt 2)],az 1 aL cm [],[.ptr 1]⟩)]
def afK(k:Nat→aq→Option (Int×aL.D×Unit)):Fk:=fun U aa=>k 8 (bm [(0,aw 1),(3,.opt 2 U)] (aC 1 aL cm [] aa) [aw 1])
theorem afL:Sound Tryz.prog 149 0 UW:=cE bk (fn:=Tryz.f149) (fns:=[(93,kK),(170,q9),(173,FJ)]) ⟨lj,sI,Mw,trivial⟩ (by kernel_rfl) (by kernel_rfl) afJ afK Ly q6 (fun k x=>Fl k x.1) (by kernel_rfl) (fun _=>by kernel_rfl) (fun _=>rfl) (fun _ _=>by kernel_rfl) (fun _=>by kernel_rfl)
def UX:Entry:=⟨[.«mut» aL cm cm],[bq (.int .i64)],Fo⟩
theorem afM:Sound Tryz.prog 150 0 UX:=cI bk (fn:=Tryz.f150) (fns:=[(93,kK),(170,q9),(171,xA)]) ⟨lj,sI,Ae,trivial⟩ (by kernel_rfl) (by kernel_rfl) fun _=>by kernel_rfl
def UY:Entry:=⟨[.«mut» aL cm cm],[bq (.int .i64)],Fq⟩
theorem afN:Sound Tryz.prog 152 0 UY:=cI bk (fn:=Tryz.f152) (fns:=[(93,kK),(163,xC),(170,q9)]) ⟨lj,Ah,sI,trivial⟩ (by kernel_rfl) (by kernel_rfl) fun _=>by kernel_rfl
def UZ:Entry:=⟨[.«mut» aL cm cm],[bq aF],Ft⟩
def afO:List (Nat×b0):=[(5,⟨[(0,.ptr 1),(2,.ptr 3)],az 1 aL cm []++az 3 aF .R [],[.ptr 1]⟩),(6,⟨[(0,.ptr 1),(2,.ptr 3),(7,aM)],az 1 aL cm []++az 3 aF .R [],[.ptr 1]⟩),(8,⟨[(0,.ptr 1),(2,.ptr 3)],az 1 aL cm []++az 3 aF .R [],[.ptr 1]⟩),(9,⟨[(0,.ptr 1),(2,.ptr 3),(7,aM)],az 1 aL cm []++az 3 aF .R [],[.ptr 1]⟩),(18,⟨[(0,.ptr 1),(2,.ptr 3)],az 1 aL cm []++az 3 aF .R [],[.ptr 1]⟩),(19,⟨[(0,.ptr 1),(2,.ptr 3),(7,aM)],az 1 aL cm []++az 3 aF .R [],[.ptr 1]⟩),(24,⟨[(0,.ptr 1),(2,.ptr 3),(7,aM)],az 1 aL cm []++az 3 aF .R [],[.ptr 1]⟩)]
def afP(k:Nat→aq→Option (kf)):nO:=⟨fun U aa=>k 5 (bm [(0,aw 1),(2,aw 3)] (aC 1 aL cm [] U++aC 3 aF .R [] aa) [aw 1]),fun U aa ae=>k 6 (bm [(0,aw 1),(2,aw 3),(7,aY U)] (aC 1 aL cm [] aa++aC 3 aF .R [] ae) [aw 1]),fun U aa=>k 8 (bm [(0,aw 1),(2,aw 3)] (aC 1 aL cm [] U++aC 3 aF .R [] aa) [aw 1]),fun U aa ae=>k 9 (bm [(0,aw 1),(2,aw 3),(7,aY U)] (aC 1 aL cm [] aa++aC 3 aF .R [] ae) [aw 1]),fun U aa=>k 18 (bm [(0,aw 1),(2,aw 3)] (aC 1 aL cm [] U++aC 3 aF .R [] aa) [aw 1]),fun U aa ae=>k 19 (bm [(0,aw 1),(2,aw 3),(7,aY U)] (aC 1 aL cm [] aa++aC 3 aF .R [] ae) [aw 1]),fun U aa ae=>k 24 (bm [(0,aw 1),(2,aw 3),(7,aY U)] (aC 1 aL cm [] aa++aC 3 aF .R [] ae) [aw 1])⟩
theorem afQ:Sound Tryz.prog 104 0 UZ:=cE bk (fn:=Tryz.f104) (fns:=[(54,sH),(98,FH),(139,Uy),(140,UE),(141,UG),(142,UI),(143,UK),(144,UN),(145,UO),(146,UR),(147,UT),(148,UU),(149,UW),(150,UX),(151,FN),(152,UY)]) ⟨vo,Mt,ae9,afh,afi,afm,afn,afs,aft,afB,afF,afI,afL,afM,MH,afN,trivial⟩ (by kernel_rfl) (by kernel_rfl) afO afP S' LD (fun k x=>Fs k x.1) (by kernel_rfl) (fun _=>by kernel_rfl) (fun _=>rfl) (fun _ _=>by kernel_rfl) (fun _=>by kernel_rfl)
def U0:Entry:=⟨[aW af,aW aH,aW aJ],[ro af,bq aF],LF⟩
theorem afR:Sound Tryz.prog 55 0 U0:=cI bk (fn:=Tryz.f55) (fns:=[(54,sH),(101,Ad),(102,Uf),(103,Ug),(104,UZ)]) ⟨vo,FI,aeB,aeE,afQ,trivial⟩ (by kernel_rfl) (by kernel_rfl) fun _=>by kernel_rfl
def U1:Entry:=⟨[aW af,aW aH,aW aJ],[ro af,bq aF],eM⟩
theorem afS:Sound Tryz.prog 15 0 U1:=cI bk (fn:=Tryz.f15) (fns:=[(53,Ub),(54,sH),(55,U0)]) ⟨aet,vo,afR,trivial⟩ (by kernel_rfl) (by kernel_rfl) fun _=>by kernel_rfl
def U2:Entry:=⟨[aW af,aW aH,aW aJ],[bq af,bq aF],jV⟩
theorem afT:Sound Tryz.prog 13 0 U2:=cI bk (fn:=Tryz.f13) (fns:=[(11,Mn),(20,z8),(51,sF),(52,Mh)]) ⟨T2,Fw,vl,TM,trivial⟩ (by kernel_rfl) (by kernel_rfl) fun _=>by kernel_rfl
def U3:Entry:=⟨[],[ro aH],f'⟩
theorem afU:Sound Tryz.prog 14 0 U3:=cI bk (fn:=Tryz.f14) (fns:=[]) trivial (by kernel_rfl) (by kernel_rfl) fun _=>by kernel_rfl
def U4:Entry:=⟨[aW (.sl (.int .u8)),aW (.int .i64)],[bq (.int .i64)],LL⟩
theorem afV:Sound Tryz.prog 17 0 U4:=cI bk (fn:=Tryz.f17) (fns:=[]) trivial (by kernel_rfl) (by kernel_rfl) fun _=>by kernel_rfl
def U5:Entry:=⟨[aW (.sl (.int .u8))],[bq .str],LO⟩
theorem afW:Sound Tryz.prog 18 0 U5:=cI bk (fn:=Tryz.f18) (fns:=[(40,L0),(58,Mj)]) ⟨Tg,TO,trivial⟩ (by kernel_rfl) (by kernel_rfl) fun _=>by kernel_rfl
def U6:Entry:=⟨[aW .str,aW .str],[bq .bool],LQ⟩
theorem afX:Sound Tryz.prog 19 0 U6:=cI bk (fn:=Tryz.f19) (fns:=[]) trivial (by kernel_rfl) (by kernel_rfl) fun _=>by kernel_rfl
def xD:Entry:=⟨[aW (.sl (.int .u8))],[bq .bool],Te⟩
def afY:List (Nat×b0):=[(7,⟨[(0,.cell (.b1 (.int .u8) [])),(3,.ptr 1)],az 1 af .R [2,3]++[(2,.row (.int .i64) .R),(3,.row I kg)],[.drop]⟩),(8,⟨[(0,.cell (.b1 (.int .u8) [])),(3,.ptr 1),(7,.ptr 4)],az 1 af .R [2,3]++[(2,.row (.int .i64) .R),(3,.row I kg)]++az 4 aF .R [],[.drop]⟩),(13,⟨[(3,.ptr 1),(7,.ptr 4),(8,aM),(9,aM),(10,.ptr 5),(11,.ptr 7)],az 1 af .R [2,3]++[(2,.row (.int .i64) .R),(3,.row I kg)]++az 4 aF .R []++az 5 af af.own []++az 7 aF .R [],[.drop]⟩),(14,⟨[(3,.ptr 1),(7,.ptr 4),(8,aM),(9,aM),(10,.ptr 5),(11,.ptr 7),(13,.ptr 8)],az 1 af .R [2,3]++[(2,.row (.int .i64) .R),(3,.row I kg)]++az 4 aF .R []++az 5 af af.own []++az 7 aF .R []++az 8 aF .R [],[.drop]⟩),(15,⟨[(3,.ptr 1),(7,.ptr 4),(8,aM),(9,aM),(10,.ptr 5),(11,.ptr 7),(13,.ptr 8),(15,.ptr 9)],az 1 af .R [2,3]++[(2,.row (.int .i64) .R),(3,.row I kg)]++az 4 aF .R []++az 5 af af.own []++az 7 aF .R []++az 8 aF .R []++az 9 aF .R [],[.drop]⟩),(16,⟨[(7,.ptr 1),(8,aM),(9,aM),(10,.ptr 2),(11,.ptr 4),(13,.ptr 5),(15,.ptr 6),(17,.ptr 7)],az 1 aF .R []++az 2 af af.own []++az 4 aF .R []++az 5 aF .R []++az 6 aF .R []++az 7 aF .R [],[.drop]⟩),(21,⟨[(7,.ptr 1),(8,aM),(9,aM),(13,.ptr 2),(15,.ptr 3),(18,.ptr 4),(19,.ptr 6)],az 1 aF .R []++az 2 aF .R []++az 3 aF .R []++az 4 af af.own []++az 6 aF .R [],[.drop]⟩),(22,⟨[(7,.ptr 1),(8,aM),(9,aM),(13,.ptr 2),(15,.ptr 3),(19,.ptr 4),(21,.ptr 5)],az 1 aF .R []++az 2 aF .R []++az 3 aF .R []++az 4 aF .R []++az 5 aF .R [],[.drop]⟩)]
def afZ(k:Nat→aq→Option (Bool×Unit)):mT:=⟨fun U aa ae ai=>k 7 (bm [(0,gX (.int .u8) U),(3,aw 1)] (aC 1 af .R [2,3] aa++[(2,.row (.int .i64) .R 0 ae),(3,.row I kg 0 ai)]) [.aD]),fun U aa ae ai an=>k 8 (bm [(0,gX (.int .u8) U),(3,aw 1),(7,aw 4)] (aC 1 af .R [2,3] aa++[(2,.row (.int .i64) .R 0 ae),(3,.row I kg 0 ai)]++aC 4 aF .R [] an) [.aD]),fun U aa ae ai an aB aZ bD=>k 13 (bm [(3,aw 1),(7,aw 4),(8,aY U),(9,eo aa),(10,aw 5),(11,aw 7)] (aC 1 af .R [2,3] ae++[(2,.row (.int .i64) .R 0 ai),(3,.row I kg 0 an)]++aC 4 aF .R [] aB++aC 5 af af.own [] aZ++aC 7 aF .R [] bD) [.aD]),fun U aa ae ai an aB aZ bD b_=>k 14 (bm [(3,aw 1),(7,aw 4),(8,aY U),(9,eo aa),(10,aw 5),(11,aw 7),(13,aw 8)] (aC 1 af .R [2,3] ae++[(2,.row (.int .i64) .R 0 ai),(3,.row I kg 0 an)]++aC 4 aF .R [] aB++aC 5 af af.own [] aZ++aC 7 aF .R [] bD++aC 8 aF .R [] b_) [.aD]),fun U aa ae ai an aB aZ bD b_ er=>k 15 (bm [(3,aw 1),(7,aw 4),(8,aY U),(9,eo aa),(10,aw 5),(11,aw 7),(13,aw 8),(15,aw 9)] (aC 1 af .R [2,3] ae++[(2,.row (.int .i64) .R 0 ai),(3,.row I kg 0 an)]++aC 4 aF .R [] aB++aC 5 af af.own [] aZ++aC 7 aF .R [] bD++aC 8 aF .R [] b_++aC 9 aF .R [] er) [.aD]),fun U aa ae ai an aB aZ bD=>k 16 (bm [(7,aw 1),(8,aY U),(9,eo aa),(10,aw 2),(11,aw 4),(13,aw 5),(15,aw 6),(17,aw 7)] (aC 1 aF .R [] ae++aC 2 af af.own [] ai++aC 4 aF .R [] an++aC 5 aF .R [] aB++aC 6 aF .R [] aZ++aC 7 aF .R [] bD) [.aD]),fun U aa ae ai an aB aZ=>k 21 (bm [(7,aw 1),(8,aY U),(9,eo aa),(13,aw 2),(15,aw 3),(18,aw 4),(19,aw 6)] (aC 1 aF .R [] ae++aC 2 aF .R [] ai++aC 3 aF .R [] an++aC 4 af af.own [] aB++aC 6 aF .R [] aZ) [.aD]),fun U aa ae ai an aB aZ=>k 22 (bm [(7,aw 1),(8,aY U),(9,eo aa),(13,aw 2),(15,aw 3),(19,aw 4),(21,aw 5)] (aC 1 aF .R [] ae++aC 2 aF .R [] ai++aC 3 aF .R [] an++aC 4 aF .R [] aB++aC 5 aF .R [] aZ) [.aD])⟩
theorem af0:Sound Tryz.prog 4 0 xD:=cE bk (fn:=Tryz.f4) (fns:=[(9,Tf),(10,TZ),(11,Mn),(12,L2),(13,U2),(14,U3),(15,U1),(17,U4),(18,U5),(19,U6)]) ⟨acg,adQ,T2,Ti,afT,afU,afS,afV,afW,afX,trivial⟩ (by kernel_rfl) (by kernel_rfl) afY afZ Td mU (fun k x=>Fu k x.1) (by kernel_rfl) (fun _=>by kernel_rfl) (fun _=>rfl) (fun _ _=>by kernel_rfl) (fun _=>by kernel_rfl)
end
end Go.LM.kF
