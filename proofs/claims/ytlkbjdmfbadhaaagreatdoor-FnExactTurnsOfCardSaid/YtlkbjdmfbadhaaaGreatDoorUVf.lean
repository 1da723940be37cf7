/- The statement 'FnExactTurnsOf' (its tied card) holds for every input: the program's TurnsOf returns what the reference's returns, and shares no memory. Conditions: each theorem's own hypotheses. -/
import Derived.Test.YtlkbjdmfbadhaaaGreatDoorRows
import Derived.Test.YtlkbjdmfbadhaaaGreatDoorTie
import Derived.Test.YtlkbjdmfbadhaaaGreatDoorCards
import Derived.Lay
import Derived.LaidOnce
import Derived.SevenTiedAt
import Derived.Test.YtlkbjdmfbadhaaaGreatDoorULmd
import Derived.Test.YtlkbjdmfbadhaaaGreatDoorUVb
import Derived.Test.YtlkbjdmfbadhaaaGreatDoorUVt
set_option linter.unusedVariables false
set_option linter.unusedSimpArgs false
namespace Go.Proofs.YtlkbjdmfbadhaaaGreatDoor
open Go.ChangeShapes Go.WideShapes Go.ChangeAt Go.RowKit
open Go.LM Go.LM.j7
theorem ap9:ownKnob Tryz.prog.godebug=none:=by kernel_rfl
theorem ap_:laidOutB Tryz.prog=true:=by kernel_rfl
def RR:List (Nat×ad):=[(43,.sl an),(3,.int .i64)]
theorem ap':vi Tryz.prog RR=true:=by kernel_rfl
theorem aqa:Tryz.f4.params.toList=RR.map (·.1):=by kernel_rfl
theorem aqb:∀x:(bD.ins y6.ps).D,rm y6.ps x→∃y,y6.f x=some y∧Mt y6.rs (bD.ef y6.ps) y:=by intro x hx;exact⟨(true,()),aqc x.1 x.2.1 hx.1,rfl⟩
set_option maxRecDepth 100000
theorem aqd(w:World):laidMetH Tryz.prog Rows.fnExactTurnsOfRow.laid w=laidMet Tryz.prog Rows.fnExactTurnsOfRow.laid w:=MakeChecks.laidMetH_plain _ _ _ (by kernel_rfl)
theorem aqe(os:Os):(World.holding Tryz.prog os ⟨#[],#[],[]⟩).layFits Tryz.prog Rows.fnExactTurnsOfRow.laid []=true:=by kernel_rfl
theorem aqf(os:Os):(World.holding Tryz.prog os ⟨#[],#[],[]⟩).layIfaces Tryz.prog Rows.fnExactTurnsOfRow.laid (World.laidAll Tryz.prog os Rows.fnExactTurnsOfRow.laid)=true:=by kernel_rfl
theorem aqg(os:Os):(World.laidAll Tryz.prog os Rows.fnExactTurnsOfRow.laid).variablesZipB Tryz.prog=true:=by kernel_rfl
theorem aqh(os:Os):((World.laidAll Tryz.prog os Rows.fnExactTurnsOfRow.laid).heap.toList.drop Tryz.prog.globals.size).take ((begin Tryz.prog (fun _ _=>0) default).world.heap.size-Tryz.prog.globals.size)=(begin Tryz.prog (fun _ _=>0) default).world.heap.toList.drop Tryz.prog.globals.size:=by kernel_rfl
theorem aqi(os:Os)(started:os.Started)(H:Type)(enc:TypeId×Value→H) :
  ReturnsInHanded {} Tryz.checked os 4 .any (fun w args=>(Rows.fnExactTurnsOfSpec.pre enc Tryz.prog Tryz.f4 [] false w args∧laidMetH Tryz.prog Rows.fnExactTurnsOfRow.laid w)∧sizedMet enc Tryz.prog Tryz.f4 (OpenSpec.ofChange Rows.fnExactTurnsOfSpec) false w args)
   (Rows.fnExactTurnsOfSpec.post enc Tryz.prog Tryz.f4 false true false false):=by
 refine returnsInHanded_of_change_and (C:=Tryz.checked) (X:=fun w _=>laidMetH Tryz.prog Rows.fnExactTurnsOfRow.laid w) (fun _ _ _ hh h=>h.of_heap hh) ap9 started (by kernel_rfl) Tryz.func4
  (ChangeSpec.witness_shaped (enc:=enc) (C:=Tryz.checked) (os:=os) (X:=fun w _=>laidMetH Tryz.prog Rows.fnExactTurnsOfRow.laid w) false (World.laidAll Tryz.prog os Rows.fnExactTurnsOfRow.laid) #[.slice none 0 0,.int .i64 0] 30 (World.laidAll_os _ _ _)
   (World.shaped_of_ZipB (aqg os) (aqh os)) (by kernel_rfl) (by kernel_rfl) (by kernel_rfl)
   (by rw [aqd];exact laidMet_laidAll _ (aqe os) (aqf os))) ?_
 intro W base args ds gs before aqj ab8 _ _ vj _;have u0:∀(j:Nat) t v,Tryz.f4.params[j]?=some t→args[j]?=some v→Value.okWide Tryz.prog W .any base t v:=aqj
 have aqk:=ab8;obtain ⟨p,q,LN,aql,rfl,hfz,iA⟩:=ab8;have hA:DataW.TrodAll enc Tryz.prog W 0 (fun _=>true) true Tryz.f4.params.toList args.toList ds p:=LN;obtain ⟨rfl,rfl⟩:=trodVars_none aql;refine(agP (prs:=RR) amt rfl aqa ap' ap_ aqb u0 hA).mono fun e W' ⟨he,BY,hst⟩=>?_
 subst he;have p1:=hA;rw [Tryz.params4] at p1;obtain ⟨v0,Di,d0,at1,j1,D3,TD,rfl,at2,h0,DG⟩:=trodAll_cons p1;obtain ⟨v1,vs1,d1,at3,er,c0,T2,rfl,sX,h1,bE⟩:=trodAll_cons DG;obtain ⟨DW,rfl,at4⟩:=trodAll_nil bE;exact⟨_,rfl,_,_,_,[],_,[],aqk,trodAll_mk1 (shut_bool Tryz.underlying4 _),hst,rfl,BY.frame _,fun h=>by cases h⟩
theorem fK{a b:Bool}(h:a=true)(k:b=true):(a&&b)=true:=by rw [h,k];rfl
theorem aqm:(Rows.fnExactTurnsOfRow.wf (OpenSpec.ofChange Rows.fnExactTurnsOfSpec))=true:=by kernel_rfl
theorem aqn:(laidOutB Tryz.prog)=true:=by kernel_rfl
theorem aqo:(mapsRowed Tryz.prog)=true:=by kernel_rfl
theorem aqp:(Tryz.f4.params.all (Tryz.prog.readableRec ·))=true:=by kernel_rfl
theorem aqq:(namedTie Tryz.prog Rows.fnExactTurnsOfRow.named Rows.fnExactTurnsOfSpec.vars)=true:=by kernel_rfl
theorem aqr:((Rows.fnExactTurnsOfRow.stops==[]))=true:=by kernel_rfl
theorem aqs:((Tryz.prog.stops==[]))=true:=by kernel_rfl
theorem aqt:((Rows.fnExactTurnsOfRow.knobs==[]))=true:=by kernel_rfl
theorem aqu:((Tryz.prog.stopKnobs==[]))=true:=by kernel_rfl
theorem aqv:((Rows.fnExactTurnsOfRow.inPlace==Tryz.prog.inPlace 4))=true:=by kernel_rfl
theorem aqw:((Rows.fnExactTurnsOfRow.unfollowed==Tryz.prog.unfollowed 4))=true:=by kernel_rfl
theorem aqx:((Rows.fnExactTurnsOfRow.recurses==Tryz.prog.recurses 4))=true:=by kernel_rfl
theorem aqy:((Rows.fnExactTurnsOfRow.named==Tryz.prog.varsNamed 4))=true:=by kernel_rfl
theorem aqz:((Rows.fnExactTurnsOfRow.maps ==(Tryz.f4.params.toList++Rows.fnExactTurnsOfSpec.plain.varTypes Tryz.prog).any (Tryz.prog.mapsRec ·)))=true:=by kernel_rfl
theorem aqA:((Rows.fnExactTurnsOfRow.ifaces ==(Tryz.f4.params.toList++Rows.fnExactTurnsOfSpec.plain.varTypes Tryz.prog).any (Tryz.prog.ifacesRec ·)))=true:=by kernel_rfl
theorem aqB:((Rows.fnExactTurnsOfRow.mapsOut==Tryz.prog.mapsAmong Tryz.f4.resultTypes.toList))=true:=by kernel_rfl
theorem aqC:((Rows.fnExactTurnsOfRow.loops ==(Tryz.f4.params.toList++Rows.fnExactTurnsOfSpec.plain.varTypes Tryz.prog).any (Tryz.prog.loopsFrom ·)))=true:=by kernel_rfl
theorem aqD:((Rows.fnExactTurnsOfRow.wideKeys ==(Tryz.f4.params.toList++Rows.fnExactTurnsOfSpec.plain.varTypes Tryz.prog++Tryz.f4.resultTypes.toList).any (Tryz.prog.wideKeysFrom ·)))=true:=by kernel_rfl
theorem aqE:(Rows.fnExactTurnsOfSpec.vars.all (Tryz.prog.varReadable ·))=true:=by kernel_rfl
theorem aqF:(Tryz.f4.resultTypes.all (fun t=>Tryz.prog.readableRec t&&decide (t<Tryz.prog.types.size)))=true:=by kernel_rfl
theorem aqG:((Rows.fnExactTurnsOfRow.ifacesOut==Tryz.f4.resultTypes.toList.any (Tryz.prog.ifacesRec ·)))=true:=by kernel_rfl
theorem aqH:((Rows.fnExactTurnsOfRow.loopsOut==Tryz.f4.resultTypes.toList.any (Tryz.prog.loopsFrom ·)))=true:=by kernel_rfl
theorem aqI:((Rows.fnExactTurnsOfRow.plainKeys==Tryz.prog.plainKeys))=true:=by kernel_rfl
theorem aqJ:(Rows.fnExactTurnsOfRow.shortTexts.isNone)=true:=by kernel_rfl
theorem aqK:(Tryz.prog.stopsHeard)=true:=by kernel_rfl
theorem aqL:(Tryz.prog.mayEnter)=true:=by kernel_rfl
theorem aqM:((Rows.fnExactTurnsOfRow.lifted==Tryz.prog.liftsFinal))=true:=by kernel_rfl
theorem aqN:((Tryz.prog.make==some Rows.fnExactTurnsOfRow.make))=true:=by kernel_rfl
theorem aqO:((Rows.fnExactTurnsOfRow.kinds ==(if Rows.fnExactTurnsOfRow.domain.isEmpty then [] else Tryz.f4.params.toList.map fun t=>match Tryz.prog.underlying t with | some (.int k)=>some k | _=>none)))=true:=by kernel_rfl
theorem aqP:((Rows.fnExactTurnsOfRow.pinned==Rows.fnExactTurnsOfRow.pinnedBy))=true:=by kernel_rfl
theorem aqQ:((Rows.fnExactTurnsOfRow.veiled ==(Tryz.f4.params.toList++Rows.fnExactTurnsOfSpec.plain.varTypes Tryz.prog++Tryz.f4.resultTypes.toList).any (Tryz.prog.veiledRec ·)))=true:=by kernel_rfl
theorem aqR:(Rows.fnExactTurnsOfRow.veiledFits Tryz.prog Tryz.f4.params.toList (Tryz.f4.params.toList++Rows.fnExactTurnsOfSpec.plain.varTypes Tryz.prog++Tryz.f4.resultTypes.toList))=true:=by kernel_rfl
theorem aqS:joinedFacts Tryz.prog 4 Tryz.f4 Rows.fnExactTurnsOfSpec Rows.fnExactTurnsOfRow=true:=by unfold joinedFacts;exact fK (fK (fK (fK (fK (fK (fK (fK (fK (fK (fK (fK (fK (fK (fK (fK (fK (fK (fK (fK (fK (fK (fK (fK (fK (fK (fK (fK (fK (fK (fK (aqm) aqn) aqo) aqp) aqq) aqr) aqs) aqt) aqu) aqv) aqw) aqx) aqy) aqz) aqA) aqB) aqC) aqD) aqE) aqF) aqG) aqH) aqI) aqJ) aqK) aqL) aqM) aqN) aqO) aqP) aqQ) aqR
theorem ab9:Tryz.checked.prog.funcNamed Rows.fnExactTurnsOfRow.func=some 4:=by kernel_rfl
theorem aqT:Func.isInstance Tryz.prog Tryz.f4 Rows.fnExactTurnsOfRow.origin Rows.fnExactTurnsOfRow.targs:=of_decide_eq_true (by kernel_rfl)
theorem aqU:Func.isWrapper Tryz.prog Tryz.f4 Rows.fnExactTurnsOfRow.wrapper Rows.fnExactTurnsOfRow.mainSum:=by unfold Func.isWrapper;first | (rw [if_pos (by decide +kernel)];kernel_rfl) | (rw [if_neg (by decide +kernel)];exact⟨rfl,rfl⟩)
theorem aqV:Rows.FnExactTurnsOfSaid:=
 OpenClaim.holds_of_wide 4 Tryz.f4 rfl rfl rfl rfl rfl rfl rfl ⟨rfl,rfl,rfl,rfl,rfl⟩ rfl rfl rfl rfl rfl ab9 Tryz.func4 aqS
  aqT aqU
  (fun os started H enc _=>aqi os started H enc)
theorem aqW:([43,3].all fun u=> !Tryz.prog.wantsStandIn u)=true:=by kernel_rfl
theorem aqX{P:Program}(h:P.funcs.any Func.goes=false)(c:OpenClaim)(hs:c.start=.entering):false=c.goesBy P:=by
 have key:∀g:Nat,((P.funcs[g]?).any Func.goes)=false:=by
  intro g
  cases aC:P.funcs[g]? with
  | none=>rfl
  | some fn=>rw [Array.any_eq_false'] at h;exact Bool.eq_false_iff.2 (h fn (Array.mem_of_getElem? aC))
 unfold OpenClaim.goesBy Program.goesAt Program.goesFrom;rw [hs]
 cases P.funcNamed c.func with
 | none=>rfl
 | some f=>
  have e:((P.closure f).any fun g=>(P.funcs[g]?).any Func.goes)=false:=by rw [List.any_eq_false];intro g _;rw [key g];simp
  show false=(((P.closure f).any fun g=>(P.funcs[g]?).any Func.goes)||(P.unfollowed f&&P.funcs.any Func.goes)||false);rw [e,h,Bool.and_false];rfl
theorem aqY:Tryz.pinned.checked.prog.funcs.any Func.goes=false:=by kernel_rfl
theorem aqZ:false=Tryz.pinned.checked.prog.looks []:=by kernel_rfl
theorem aq0:Tryz.pinned.checked.prog.mainIs=some (true, "b7f5cdb075d9496648b75f7ac51c923225f76e4c099563146fe66af0c8358e70".toList):=by kernel_rfl
theorem FnExactTurnsOf_proved:Rows.FnExactTurnsOfCardSaid:=
 Claim7.holds_tied_plain_at .later [] [.data,.pinned] true (true, "b7f5cdb075d9496648b75f7ac51c923225f76e4c099563146fe66af0c8358e70") false
  aqV (fun _ h=>by cases h) (by kernel_rfl) (fun _ h=>by cases h) fnExactTurnsOf_row_tie rfl ⟨rfl,rfl⟩ aq0 rfl
  (fun f fn hf An=>by
   obtain rfl:f=4:=Option.some.inj (ab9.symm.trans hf) |>.symm
   obtain rfl:fn=Tryz.f4:=(Option.some.inj (Tryz.func4.symm.trans An)).symm
   exact⟨aqZ,fun j t ht=>by
    rw [Tryz.params4] at ht;have hm:t∈[43,3]:=by simpa using Array.mem_of_getElem? ht
    exact(show Tryz.prog.wantsStandIn t=false by simpa using List.all_eq_true.1 aqW t hm)⟩)
  (aqX aqY _ rfl)
#print axioms FnExactTurnsOf_proved
end Go.Proofs.YtlkbjdmfbadhaaaGreatDoor
