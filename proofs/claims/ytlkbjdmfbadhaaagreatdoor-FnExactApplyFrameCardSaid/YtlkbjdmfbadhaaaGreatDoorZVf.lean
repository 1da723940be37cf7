/- The statement 'FnExactApplyFrame' (its tied card) holds for every input: the program's ApplyFrame returns what the reference's returns, and shares no memory. Conditions: each theorem's own hypotheses. -/
import Derived.Test.YtlkbjdmfbadhaaaGreatDoorRows
import Derived.Test.YtlkbjdmfbadhaaaGreatDoorTie
import Derived.Test.YtlkbjdmfbadhaaaGreatDoorCards
import Derived.Lay
import Derived.LaidOnce
import Derived.SevenTiedAt
import Derived.Test.YtlkbjdmfbadhaaaGreatDoorZLmd
import Derived.Test.YtlkbjdmfbadhaaaGreatDoorZVb
import Derived.Test.YtlkbjdmfbadhaaaGreatDoorZVt
set_option linter.unusedVariables false
set_option linter.unusedSimpArgs false
namespace Go.Proofs.YtlkbjdmfbadhaaaGreatDoor
open Go.ChangeShapes Go.WideShapes Go.ChangeAt Go.RowKit
open Go.LM Go.LM.i_
theorem aij:ownKnob Tryz.prog.godebug=none:=by kernel_rfl
theorem aik:laidOutB Tryz.prog=true:=by kernel_rfl
def N_:List (Nat×U):=[(98,.sl ak),(9,.str),(3,.int .i64)]
theorem ail:rH Tryz.prog N_=true:=by kernel_rfl
theorem aim:Tryz.f9.params.toList=N_.map (·.1):=by kernel_rfl
theorem ain:∀x:(bt.ins vr.ps).D,od vr.ps x->∃y,vr.f x=some y/\Ia vr.rs (bt.dP vr.ps) y:=by intro x hx;exact⟨(true,()),aio x.1 x.2.1 x.2.2.1 hx.1,rfl⟩
set_option maxRecDepth 100000
theorem aip(w:World):laidMetH Tryz.prog Rows.fnExactApplyFrameRow.laid w=laidMet Tryz.prog Rows.fnExactApplyFrameRow.laid w:=MakeChecks.laidMetH_plain _ _ _ (by kernel_rfl)
theorem aiq(os:Os):(World.holding Tryz.prog os ⟨#[],#[],[]⟩).layFits Tryz.prog Rows.fnExactApplyFrameRow.laid []=true:=by kernel_rfl
theorem air(os:Os):(World.holding Tryz.prog os ⟨#[],#[],[]⟩).layIfaces Tryz.prog Rows.fnExactApplyFrameRow.laid (World.laidAll Tryz.prog os Rows.fnExactApplyFrameRow.laid)=true:=by kernel_rfl
theorem ais(os:Os):(World.laidAll Tryz.prog os Rows.fnExactApplyFrameRow.laid).variablesZipB Tryz.prog=true:=by kernel_rfl
theorem ait(os:Os):((World.laidAll Tryz.prog os Rows.fnExactApplyFrameRow.laid).heap.toList.drop Tryz.prog.globals.size).take ((begin Tryz.prog (fun _ _=>0) default).world.heap.size-Tryz.prog.globals.size)=(begin Tryz.prog (fun _ _=>0) default).world.heap.toList.drop Tryz.prog.globals.size:=by kernel_rfl
theorem aiu(os:Os)(started:os.Started)(H:Type)(enc:TypeId×Value->H):
  ReturnsInHanded {} Tryz.checked os 9 .any (fun w args=>(Rows.fnExactApplyFrameSpec.pre enc Tryz.prog Tryz.f9 [] false w args/\laidMetH Tryz.prog Rows.fnExactApplyFrameRow.laid w)/\sizedMet enc Tryz.prog Tryz.f9 (OpenSpec.ofChange Rows.fnExactApplyFrameSpec) false w args)
   (Rows.fnExactApplyFrameSpec.post enc Tryz.prog Tryz.f9 false true false false):=by
 refine returnsInHanded_of_change_and (C:=Tryz.checked) (X:=fun w _=>laidMetH Tryz.prog Rows.fnExactApplyFrameRow.laid w) (fun _ _ _ hh h=>h.of_heap hh) aij started (by kernel_rfl) Tryz.func9
  (ChangeSpec.witness_shaped (enc:=enc) (C:=Tryz.checked) (os:=os) (X:=fun w _=>laidMetH Tryz.prog Rows.fnExactApplyFrameRow.laid w) false (World.laidAll Tryz.prog os Rows.fnExactApplyFrameRow.laid) #[.slice none 0 0,.string ⟨#[]⟩,.int .i64 0] 30 (World.laidAll_os _ _ _)
   (World.shaped_of_ZipB (ais os) (ait os)) (by kernel_rfl) (by kernel_rfl) (by kernel_rfl)
   (by rw[aip];exact laidMet_laidAll _ (aiq os) (air os))) ?_
 intro W base args ds gs before aiv XF _ _ alT _;have aiw:∀(j:Nat) t v,Tryz.f9.params[j]?=some t->args[j]?=some v->Value.okWide Tryz.prog W .any base t v:=aiv
 have aix:=XF;obtain⟨p,q,aiy,aiz,rfl,hfz,alU⟩:=XF;have hA:DataW.TrodAll enc Tryz.prog W 0 (fun _=>true) true Tryz.f9.params.toList args.toList ds p:=aiy;obtain⟨rfl,rfl⟩:=trodVars_none aiz;refine(aaC (prs:=N_) afI rfl aim ail aik ain aiw hA).mono fun e W' ⟨he,ya,hst⟩=>?_
 subst he;have XG:=hA;rw[Tryz.params9]at XG;obtain⟨v0,alV,d0,alW,alX,alY,alZ,rfl,al0,h0,aiA⟩:=trodAll_cons XG;obtain⟨v1,vs1,d1,al1,al2,al3,al4,rfl,al5,h1,aiB⟩:=trodAll_cons aiA;obtain⟨v2,vs2,d2,al6,al7,al8,hv2,rfl,al9,h2,aiC⟩:=trodAll_cons aiB;obtain⟨al_,rfl,al'⟩:=trodAll_nil aiC;exact⟨_,rfl,_,_,_,[],_,[],aix,trodAll_mk1 (shut_bool Tryz.underlying4 _),hst,rfl,ya.frame _,fun h=>by cases h⟩
theorem e'{a b:Bool}(h:a=true)(k:b=true):(a&&b)=true:=by rw[h,k];rfl
theorem aiD:(Rows.fnExactApplyFrameRow.wf (OpenSpec.ofChange Rows.fnExactApplyFrameSpec))=true:=by kernel_rfl
theorem aiE:(laidOutB Tryz.prog)=true:=by kernel_rfl
theorem aiF:(mapsRowed Tryz.prog)=true:=by kernel_rfl
theorem aiG:(Tryz.f9.params.all (Tryz.prog.readableRec ·))=true:=by kernel_rfl
theorem aiH:(namedTie Tryz.prog Rows.fnExactApplyFrameRow.named Rows.fnExactApplyFrameSpec.vars)=true:=by kernel_rfl
theorem aiI:((Rows.fnExactApplyFrameRow.stops==[]))=true:=by kernel_rfl
theorem aiJ:((Tryz.prog.stops==[]))=true:=by kernel_rfl
theorem aiK:((Rows.fnExactApplyFrameRow.knobs==[]))=true:=by kernel_rfl
theorem aiL:((Tryz.prog.stopKnobs==[]))=true:=by kernel_rfl
theorem aiM:((Rows.fnExactApplyFrameRow.inPlace==Tryz.prog.inPlace 9))=true:=by kernel_rfl
theorem aiN:((Rows.fnExactApplyFrameRow.unfollowed==Tryz.prog.unfollowed 9))=true:=by kernel_rfl
theorem aiO:((Rows.fnExactApplyFrameRow.recurses==Tryz.prog.recurses 9))=true:=by kernel_rfl
theorem aiP:((Rows.fnExactApplyFrameRow.named==Tryz.prog.varsNamed 9))=true:=by kernel_rfl
theorem aiQ:((Rows.fnExactApplyFrameRow.maps ==(Tryz.f9.params.toList++Rows.fnExactApplyFrameSpec.plain.varTypes Tryz.prog).any (Tryz.prog.mapsRec ·)))=true:=by kernel_rfl
theorem aiR:((Rows.fnExactApplyFrameRow.ifaces ==(Tryz.f9.params.toList++Rows.fnExactApplyFrameSpec.plain.varTypes Tryz.prog).any (Tryz.prog.ifacesRec ·)))=true:=by kernel_rfl
theorem aiS:((Rows.fnExactApplyFrameRow.mapsOut==Tryz.prog.mapsAmong Tryz.f9.resultTypes.toList))=true:=by kernel_rfl
theorem aiT:((Rows.fnExactApplyFrameRow.loops ==(Tryz.f9.params.toList++Rows.fnExactApplyFrameSpec.plain.varTypes Tryz.prog).any (Tryz.prog.loopsFrom ·)))=true:=by kernel_rfl
theorem aiU:((Rows.fnExactApplyFrameRow.wideKeys ==(Tryz.f9.params.toList++Rows.fnExactApplyFrameSpec.plain.varTypes Tryz.prog++Tryz.f9.resultTypes.toList).any (Tryz.prog.wideKeysFrom ·)))=true:=by kernel_rfl
theorem aiV:(Rows.fnExactApplyFrameSpec.vars.all (Tryz.prog.varReadable ·))=true:=by kernel_rfl
theorem aiW:(Tryz.f9.resultTypes.all (fun t=>Tryz.prog.readableRec t&&decide (t<Tryz.prog.types.size)))=true:=by kernel_rfl
theorem aiX:((Rows.fnExactApplyFrameRow.ifacesOut==Tryz.f9.resultTypes.toList.any (Tryz.prog.ifacesRec ·)))=true:=by kernel_rfl
theorem aiY:((Rows.fnExactApplyFrameRow.loopsOut==Tryz.f9.resultTypes.toList.any (Tryz.prog.loopsFrom ·)))=true:=by kernel_rfl
theorem aiZ:((Rows.fnExactApplyFrameRow.plainKeys==Tryz.prog.plainKeys))=true:=by kernel_rfl
theorem ai0:(Rows.fnExactApplyFrameRow.shortTexts.isNone)=true:=by kernel_rfl
theorem ai1:(Tryz.prog.stopsHeard)=true:=by kernel_rfl
theorem ai2:(Tryz.prog.mayEnter)=true:=by kernel_rfl
theorem ai3:((Rows.fnExactApplyFrameRow.lifted==Tryz.prog.liftsFinal))=true:=by kernel_rfl
theorem ai4:((Tryz.prog.make==some Rows.fnExactApplyFrameRow.make))=true:=by kernel_rfl
theorem ai5:((Rows.fnExactApplyFrameRow.kinds ==(if Rows.fnExactApplyFrameRow.domain.isEmpty then [] else Tryz.f9.params.toList.map fun t=>match Tryz.prog.underlying t with|some (.int k)=>some k|_=>none)))=true:=by kernel_rfl
theorem ai6:((Rows.fnExactApplyFrameRow.pinned==Rows.fnExactApplyFrameRow.pinnedBy))=true:=by kernel_rfl
theorem ai7:((Rows.fnExactApplyFrameRow.veiled ==(Tryz.f9.params.toList++Rows.fnExactApplyFrameSpec.plain.varTypes Tryz.prog++Tryz.f9.resultTypes.toList).any (Tryz.prog.veiledRec ·)))=true:=by kernel_rfl
theorem ai8:(Rows.fnExactApplyFrameRow.veiledFits Tryz.prog Tryz.f9.params.toList (Tryz.f9.params.toList++Rows.fnExactApplyFrameSpec.plain.varTypes Tryz.prog++Tryz.f9.resultTypes.toList))=true:=by kernel_rfl
theorem ai9:joinedFacts Tryz.prog 9 Tryz.f9 Rows.fnExactApplyFrameSpec Rows.fnExactApplyFrameRow=true:=by unfold joinedFacts;exact e' (e' (e' (e' (e' (e' (e' (e' (e' (e' (e' (e' (e' (e' (e' (e' (e' (e' (e' (e' (e' (e' (e' (e' (e' (e' (e' (e' (e' (e' (e' (aiD) aiE) aiF) aiG) aiH) aiI) aiJ) aiK) aiL) aiM) aiN) aiO) aiP) aiQ) aiR) aiS) aiT) aiU) aiV) aiW) aiX) aiY) aiZ) ai0) ai1) ai2) ai3) ai4) ai5) ai6) ai7) ai8
theorem XH:Tryz.checked.prog.funcNamed Rows.fnExactApplyFrameRow.func=some 9:=by kernel_rfl
theorem ai_:Func.isInstance Tryz.prog Tryz.f9 Rows.fnExactApplyFrameRow.origin Rows.fnExactApplyFrameRow.targs:=of_decide_eq_true (by kernel_rfl)
theorem ai':Func.isWrapper Tryz.prog Tryz.f9 Rows.fnExactApplyFrameRow.wrapper Rows.fnExactApplyFrameRow.mainSum:=by unfold Func.isWrapper;first|(rw[if_pos (by decide +kernel)];kernel_rfl)|(rw[if_neg (by decide +kernel)];exact⟨rfl,rfl⟩)
theorem aja:Rows.FnExactApplyFrameSaid:=
 OpenClaim.holds_of_wide 9 Tryz.f9 rfl rfl rfl rfl rfl rfl rfl ⟨rfl,rfl,rfl,rfl,rfl⟩ rfl rfl rfl rfl rfl XH Tryz.func9 ai9
  ai_ ai'
  (fun os started H enc _=>aiu os started H enc)
theorem ajb:([98,9,3].all fun u=> !Tryz.prog.wantsStandIn u)=true:=by kernel_rfl
theorem ajc{P:Program}(h:P.funcs.any Func.goes=false)(c:OpenClaim)(hs:c.start=.entering):false=c.goesBy P:=by
 have key:∀g:Nat,((P.funcs[g]?).any Func.goes)=false:=by
  intro g
  cases ajd:P.funcs[g]? with
  |none=>rfl
  |some fn=>rw[Array.any_eq_false']at h;exact Bool.eq_false_iff.2 (h fn (Array.mem_of_getElem? ajd))
 unfold OpenClaim.goesBy Program.goesAt Program.goesFrom;rw[hs]
 cases P.funcNamed c.func with
 |none=>rfl
 |some f=>
  have e:((P.closure f).any fun g=>(P.funcs[g]?).any Func.goes)=false:=by rw[List.any_eq_false];intro g _;rw[key g];simp
  show false=(((P.closure f).any fun g=>(P.funcs[g]?).any Func.goes)||(P.unfollowed f&&P.funcs.any Func.goes)||false);rw[e,h,Bool.and_false];rfl
theorem aje:Tryz.pinned.checked.prog.funcs.any Func.goes=false:=by kernel_rfl
theorem ajf:false=Tryz.pinned.checked.prog.looks []:=by kernel_rfl
theorem ajg:Tryz.pinned.checked.prog.mainIs=some (true, "b7f5cdb075d9496648b75f7ac51c923225f76e4c099563146fe66af0c8358e70".toList):=by kernel_rfl
theorem FnExactApplyFrame_proved:Rows.FnExactApplyFrameCardSaid:=
 Claim7.holds_tied_plain_at .later [] [.data,.pinned] true (true, "b7f5cdb075d9496648b75f7ac51c923225f76e4c099563146fe66af0c8358e70") false
  aja (fun _ h=>by cases h) (by kernel_rfl) (fun _ h=>by cases h) fnExactApplyFrame_row_tie rfl ⟨rfl,rfl⟩ ajg rfl
  (fun f fn hf ajh=>by
   obtain rfl:f=9:=aS (XH.symm.trans hf) |>.symm
   obtain rfl:fn=Tryz.f9:=(aS (Tryz.func9.symm.trans ajh)).symm
   exact⟨ajf,fun j t ht=>by
    rw[Tryz.params9]at ht;have hm:t∈[98,9,3]:=by simpa using Array.mem_of_getElem? ht
    exact(show Tryz.prog.wantsStandIn t=false by simpa using List.all_eq_true.1 ajb t hm)⟩)
  (ajc aje _ rfl)
#print axioms FnExactApplyFrame_proved
end Go.Proofs.YtlkbjdmfbadhaaaGreatDoor
