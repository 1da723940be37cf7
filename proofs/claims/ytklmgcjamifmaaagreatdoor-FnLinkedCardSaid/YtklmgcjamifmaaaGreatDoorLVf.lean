/- The statement 'FnLinked' (its tied card) holds for every input: one more name for a file is one more link to it. Conditions: each theorem's own hypotheses. -/
import Derived.Test.YtklmgcjamifmaaaGreatDoorRows
import Derived.Test.YtklmgcjamifmaaaGreatDoorTie
import Derived.Test.YtklmgcjamifmaaaGreatDoorCards
import Derived.Lay
import Derived.LaidOnce
import Derived.SevenTiedAt
import Derived.Test.YtklmgcjamifmaaaGreatDoorLLmd
import Derived.Test.YtklmgcjamifmaaaGreatDoorLVb
import Derived.Test.YtklmgcjamifmaaaGreatDoorLVt
set_option linter.unusedVariables false
set_option linter.unusedSimpArgs false
namespace Go.Proofs.YtklmgcjamifmaaaGreatDoor
open Go.ChangeShapes Go.WideShapes Go.ChangeAt Go.RowKit
open Go.LM Go.LM.kA
theorem ajr:ownKnob Tryz.prog.godebug=none:=by kernel_rfl
theorem ajs:laidOutB Tryz.prog=true:=by kernel_rfl
def Ow:List (Nat×ad):=[(22,.sl (.int .u8))]
theorem ajt:ub Tryz.prog Ow=true:=by kernel_rfl
theorem aju:Tryz.f3.params.toList=Ow.map (·.1):=by kernel_rfl
theorem ajv:∀x:(bB.ins xA.ps).D,qF xA.ps x→∃y,xA.f x=some y∧JG xA.rs (bB.d_ xA.ps) y:=by
 intro x hx
 exact⟨(true,()),ajw x.1,rfl⟩
set_option maxRecDepth 100000
theorem ajx(w:World):laidMetH Tryz.prog Rows.fnLinkedRow.laid w=laidMet Tryz.prog Rows.fnLinkedRow.laid w:=MakeChecks.laidMetH_plain _ _ _ (by kernel_rfl)
theorem ajy(os:Os):(World.holding Tryz.prog os ⟨#[],#[],[]⟩).layFits Tryz.prog Rows.fnLinkedRow.laid []=true:=by kernel_rfl
theorem ajz(os:Os):(World.holding Tryz.prog os ⟨#[],#[],[]⟩).layIfaces Tryz.prog Rows.fnLinkedRow.laid (World.laidAll Tryz.prog os Rows.fnLinkedRow.laid)=true:=by kernel_rfl
theorem ajA(os:Os):(World.laidAll Tryz.prog os Rows.fnLinkedRow.laid).variablesZipB Tryz.prog=true:=by kernel_rfl
theorem ajB(os:Os):((World.laidAll Tryz.prog os Rows.fnLinkedRow.laid).heap.toList.drop Tryz.prog.globals.size).take ((begin Tryz.prog (fun _ _=>0) default).world.heap.size-Tryz.prog.globals.size)=(begin Tryz.prog (fun _ _=>0) default).world.heap.toList.drop Tryz.prog.globals.size:=by kernel_rfl
theorem ajC(os:Os)(started:os.Started)(H:Type)(enc:TypeId×Value→H) :
  ReturnsInHanded {} Tryz.checked os 3 .any (fun w args=>(Rows.fnLinkedSpec.pre enc Tryz.prog Tryz.f3 [] false w args∧laidMetH Tryz.prog Rows.fnLinkedRow.laid w)∧sizedMet enc Tryz.prog Tryz.f3 (OpenSpec.ofChange Rows.fnLinkedSpec) false w args)
   (Rows.fnLinkedSpec.post enc Tryz.prog Tryz.f3 false true false false):=by
 refine returnsInHanded_of_change_and (C:=Tryz.checked) (X:=fun w _=>laidMetH Tryz.prog Rows.fnLinkedRow.laid w) (fun _ _ _ hh h=>h.of_heap hh) ajr started (by kernel_rfl) Tryz.func3
  (ChangeSpec.witness_shaped (enc:=enc) (C:=Tryz.checked) (os:=os) (X:=fun w _=>laidMetH Tryz.prog Rows.fnLinkedRow.laid w) false (World.laidAll Tryz.prog os Rows.fnLinkedRow.laid) #[.slice none 0 0] 30 (World.laidAll_os _ _ _)
   (World.shaped_of_ZipB (ajA os) (ajB os)) (by kernel_rfl) (by kernel_rfl) (by kernel_rfl)
   (by rw [ajx];exact laidMet_laidAll _ (ajy os) (ajz os))) ?_
 intro W base args ds gs before ajD x4 _ _ wV _
 have tK:∀(j:Nat) t v,Tryz.f3.params[j]?=some t→args[j]?=some v→Value.okWide Tryz.prog W .any base t v:=ajD
 have ajE:=x4
 obtain ⟨p,q,I3,ajF,rfl,hfz,gZ⟩:=x4
 have hA:DataW.TrodAll enc Tryz.prog W 0 (fun _=>true) true Tryz.f3.params.toList args.toList ds p:=I3
 obtain ⟨rfl,rfl⟩:=trodVars_none ajF
 refine(abx (prs:=Ow) af5 rfl aju ajt ajs ajv tK hA).mono fun e W' ⟨he,Am,hst⟩=>?_
 subst he
 have px:=hA
 rw [Tryz.params3] at px
 obtain ⟨v0,Bv,d0,alR,jD,Cf,yv,rfl,alS,h0,BT⟩:=trodAll_cons px
 obtain ⟨B9,rfl,alT⟩:=trodAll_nil BT
 exact⟨_,rfl,_,_,_,[],_,[],ajE,trodAll_mk1 (shut_bool Tryz.underlying4 _),hst,rfl,Am.frame _,fun h=>by cases h⟩
theorem fz{a b:Bool}(h:a=true)(k:b=true):(a&&b)=true:=by rw [h,k];rfl
theorem ajG:(Rows.fnLinkedRow.wf (OpenSpec.ofChange Rows.fnLinkedSpec))=true:=by kernel_rfl
theorem ajH:(laidOutB Tryz.prog)=true:=by kernel_rfl
theorem ajI:(mapsRowed Tryz.prog)=true:=by kernel_rfl
theorem ajJ:(Tryz.f3.params.all (Tryz.prog.readableRec ·))=true:=by kernel_rfl
theorem ajK:(namedTie Tryz.prog Rows.fnLinkedRow.named Rows.fnLinkedSpec.vars)=true:=by kernel_rfl
theorem ajL:((Rows.fnLinkedRow.stops==[]))=true:=by kernel_rfl
theorem ajM:((Tryz.prog.stops==[]))=true:=by kernel_rfl
theorem ajN:((Rows.fnLinkedRow.knobs==[]))=true:=by kernel_rfl
theorem ajO:((Tryz.prog.stopKnobs==[]))=true:=by kernel_rfl
theorem ajP:((Rows.fnLinkedRow.inPlace==Tryz.prog.inPlace 3))=true:=by kernel_rfl
theorem ajQ:((Rows.fnLinkedRow.unfollowed==Tryz.prog.unfollowed 3))=true:=by kernel_rfl
theorem ajR:((Rows.fnLinkedRow.recurses==Tryz.prog.recurses 3))=true:=by kernel_rfl
theorem ajS:((Rows.fnLinkedRow.named==Tryz.prog.varsNamed 3))=true:=by kernel_rfl
theorem ajT:((Rows.fnLinkedRow.maps ==(Tryz.f3.params.toList++Rows.fnLinkedSpec.plain.varTypes Tryz.prog).any (Tryz.prog.mapsRec ·)))=true:=by kernel_rfl
theorem ajU:((Rows.fnLinkedRow.ifaces ==(Tryz.f3.params.toList++Rows.fnLinkedSpec.plain.varTypes Tryz.prog).any (Tryz.prog.ifacesRec ·)))=true:=by kernel_rfl
theorem ajV:((Rows.fnLinkedRow.mapsOut==Tryz.prog.mapsAmong Tryz.f3.resultTypes.toList))=true:=by kernel_rfl
theorem ajW:((Rows.fnLinkedRow.loops ==(Tryz.f3.params.toList++Rows.fnLinkedSpec.plain.varTypes Tryz.prog).any (Tryz.prog.loopsFrom ·)))=true:=by kernel_rfl
theorem ajX:((Rows.fnLinkedRow.wideKeys ==(Tryz.f3.params.toList++Rows.fnLinkedSpec.plain.varTypes Tryz.prog++Tryz.f3.resultTypes.toList).any (Tryz.prog.wideKeysFrom ·)))=true:=by kernel_rfl
theorem ajY:(Rows.fnLinkedSpec.vars.all (Tryz.prog.varReadable ·))=true:=by kernel_rfl
theorem ajZ:(Tryz.f3.resultTypes.all (fun t=>Tryz.prog.readableRec t&&decide (t<Tryz.prog.types.size)))=true:=by kernel_rfl
theorem aj0:((Rows.fnLinkedRow.ifacesOut==Tryz.f3.resultTypes.toList.any (Tryz.prog.ifacesRec ·)))=true:=by kernel_rfl
theorem aj1:((Rows.fnLinkedRow.loopsOut==Tryz.f3.resultTypes.toList.any (Tryz.prog.loopsFrom ·)))=true:=by kernel_rfl
theorem aj2:((Rows.fnLinkedRow.plainKeys==Tryz.prog.plainKeys))=true:=by kernel_rfl
theorem aj3:(Rows.fnLinkedRow.shortTexts.isNone)=true:=by kernel_rfl
theorem aj4:(Tryz.prog.stopsHeard)=true:=by kernel_rfl
theorem aj5:(Tryz.prog.mayEnter)=true:=by kernel_rfl
theorem aj6:((Rows.fnLinkedRow.lifted==Tryz.prog.liftsFinal))=true:=by kernel_rfl
theorem aj7:((Tryz.prog.make==some Rows.fnLinkedRow.make))=true:=by kernel_rfl
theorem aj8:((Rows.fnLinkedRow.kinds ==(if Rows.fnLinkedRow.domain.isEmpty then [] else Tryz.f3.params.toList.map fun t=>match Tryz.prog.underlying t with | some (.int k)=>some k | _=>none)))=true:=by kernel_rfl
theorem aj9:((Rows.fnLinkedRow.pinned==Rows.fnLinkedRow.pinnedBy))=true:=by kernel_rfl
theorem aj_:((Rows.fnLinkedRow.veiled ==(Tryz.f3.params.toList++Rows.fnLinkedSpec.plain.varTypes Tryz.prog++Tryz.f3.resultTypes.toList).any (Tryz.prog.veiledRec ·)))=true:=by kernel_rfl
theorem aj':(Rows.fnLinkedRow.veiledFits Tryz.prog Tryz.f3.params.toList (Tryz.f3.params.toList++Rows.fnLinkedSpec.plain.varTypes Tryz.prog++Tryz.f3.resultTypes.toList))=true:=by kernel_rfl
theorem aka:joinedFacts Tryz.prog 3 Tryz.f3 Rows.fnLinkedSpec Rows.fnLinkedRow=true:=by
 unfold joinedFacts
 exact fz (fz (fz (fz (fz (fz (fz (fz (fz (fz (fz (fz (fz (fz (fz (fz (fz (fz (fz (fz (fz (fz (fz (fz (fz (fz (fz (fz (fz (fz (fz (ajG) ajH) ajI) ajJ) ajK) ajL) ajM) ajN) ajO) ajP) ajQ) ajR) ajS) ajT) ajU) ajV) ajW) ajX) ajY) ajZ) aj0) aj1) aj2) aj3) aj4) aj5) aj6) aj7) aj8) aj9) aj_) aj'
theorem Xx:Tryz.checked.prog.funcNamed Rows.fnLinkedRow.func=some 3:=by kernel_rfl
theorem akb:Func.isInstance Tryz.prog Tryz.f3 Rows.fnLinkedRow.origin Rows.fnLinkedRow.targs:=of_decide_eq_true (by kernel_rfl)
theorem akc:Func.isWrapper Tryz.prog Tryz.f3 Rows.fnLinkedRow.wrapper Rows.fnLinkedRow.mainSum:=by
 unfold Func.isWrapper;first | (rw [if_pos (by decide +kernel)];kernel_rfl) | (rw [if_neg (by decide +kernel)];exact⟨rfl,rfl⟩)
theorem akd:Rows.FnLinkedSaid :=
 OpenClaim.holds_of_wide 3 Tryz.f3 rfl rfl rfl rfl rfl rfl rfl ⟨rfl,rfl,rfl,rfl,rfl⟩ rfl rfl rfl rfl rfl Xx Tryz.func3 aka
  akb akc
  (fun os started H enc _=>ajC os started H enc)
theorem ake:([22].all fun u => !Tryz.prog.wantsStandIn u)=true:=by kernel_rfl
theorem FnLinked_proved:Rows.FnLinkedCardSaid :=
 Claim7.holds_tied_plain_at .later [] [.data,.pinned] true (true, "e283d4f1a529082bb63b6f9c821d6241c37443941bf17f221b30a164ad188d6b") false
  akd (fun _ h=>by cases h) (by kernel_rfl) (fun _ h=>by cases h) fnLinked_row_tie rfl ⟨rfl,rfl⟩ (by kernel_rfl) rfl
  (fun f fn hf yL=>by
   obtain rfl:f=3:=aS (Xx.symm.trans hf) |>.symm
   obtain rfl:fn=Tryz.f3:=(aS (Tryz.func3.symm.trans yL)).symm
   exact⟨by kernel_rfl,fun j t ht=>by
    rw [Tryz.params3] at ht
    have hm:t∈[22]:=by simpa using Array.mem_of_getElem? ht
    exact(show Tryz.prog.wantsStandIn t=false by simpa using List.all_eq_true.1 ake t hm)⟩)
  (by kernel_rfl)
#print axioms FnLinked_proved
end Go.Proofs.YtklmgcjamifmaaaGreatDoor
