/- The statement 'FnMade' (its tied card) holds for every input: what is made is there, a second one is refused, taken away it is not there. Conditions: each theorem's own hypotheses. -/
import Derived.Test.YtklmgcjamifmaaaGreatDoorRows
import Derived.Test.YtklmgcjamifmaaaGreatDoorTie
import Derived.Test.YtklmgcjamifmaaaGreatDoorCards
import Derived.Lay
import Derived.LaidOnce
import Derived.SevenTiedAt
import Derived.Test.YtklmgcjamifmaaaGreatDoorMLmd
import Derived.Test.YtklmgcjamifmaaaGreatDoorMVb
import Derived.Test.YtklmgcjamifmaaaGreatDoorMVt
set_option linter.unusedVariables false
set_option linter.unusedSimpArgs false
namespace Go.Proofs.YtklmgcjamifmaaaGreatDoor
open Go.ChangeShapes Go.WideShapes Go.ChangeAt Go.RowKit
open Go.LM Go.LM.kD
theorem aji:ownKnob Tryz.prog.godebug=none:=by kernel_rfl
theorem ajj:laidOutB Tryz.prog=true:=by kernel_rfl
def N':List (Nat×ad):=[(22,.sl (.int .u8))]
theorem ajk:ub Tryz.prog N'=true:=by kernel_rfl
theorem ajl:Tryz.f5.params.toList=N'.map (·.1):=by kernel_rfl
theorem ajm:∀x:(bC.ins xD.ps).D,qy xD.ps x→∃y,xD.f x=some y∧Js xD.rs (bC.dZ xD.ps) y:=by
 intro x hx
 exact⟨(true,()),ajn x.1,rfl⟩
set_option maxRecDepth 100000
theorem ajo(w:World):laidMetH Tryz.prog Rows.fnMadeRow.laid w=laidMet Tryz.prog Rows.fnMadeRow.laid w:=MakeChecks.laidMetH_plain _ _ _ (by kernel_rfl)
theorem ajp(os:Os):(World.holding Tryz.prog os ⟨#[],#[],[]⟩).layFits Tryz.prog Rows.fnMadeRow.laid []=true:=by kernel_rfl
theorem ajq(os:Os):(World.holding Tryz.prog os ⟨#[],#[],[]⟩).layIfaces Tryz.prog Rows.fnMadeRow.laid (World.laidAll Tryz.prog os Rows.fnMadeRow.laid)=true:=by kernel_rfl
theorem ajr(os:Os):(World.laidAll Tryz.prog os Rows.fnMadeRow.laid).variablesZipB Tryz.prog=true:=by kernel_rfl
theorem ajs(os:Os):((World.laidAll Tryz.prog os Rows.fnMadeRow.laid).heap.toList.drop Tryz.prog.globals.size).take ((begin Tryz.prog (fun _ _=>0) default).world.heap.size-Tryz.prog.globals.size)=(begin Tryz.prog (fun _ _=>0) default).world.heap.toList.drop Tryz.prog.globals.size:=by kernel_rfl
theorem ajt(os:Os)(started:os.Started)(H:Type)(enc:TypeId×Value→H) :
  ReturnsInHanded {} Tryz.checked os 5 .any (fun w args=>(Rows.fnMadeSpec.pre enc Tryz.prog Tryz.f5 [] false w args∧laidMetH Tryz.prog Rows.fnMadeRow.laid w)∧sizedMet enc Tryz.prog Tryz.f5 (OpenSpec.ofChange Rows.fnMadeSpec) false w args)
   (Rows.fnMadeSpec.post enc Tryz.prog Tryz.f5 false true false false):=by
 refine returnsInHanded_of_change_and (C:=Tryz.checked) (X:=fun w _=>laidMetH Tryz.prog Rows.fnMadeRow.laid w) (fun _ _ _ hh h=>h.of_heap hh) aji started (by kernel_rfl) Tryz.func5
  (ChangeSpec.witness_shaped (enc:=enc) (C:=Tryz.checked) (os:=os) (X:=fun w _=>laidMetH Tryz.prog Rows.fnMadeRow.laid w) false (World.laidAll Tryz.prog os Rows.fnMadeRow.laid) #[.slice none 0 0] 30 (World.laidAll_os _ _ _)
   (World.shaped_of_ZipB (ajr os) (ajs os)) (by kernel_rfl) (by kernel_rfl) (by kernel_rfl)
   (by rw [ajo];exact laidMet_laidAll _ (ajp os) (ajq os))) ?_
 intro W base args ds gs before aju Xm _ _ CA _
 have tJ:∀(j:Nat) t v,Tryz.f5.params[j]?=some t→args[j]?=some v→Value.okWide Tryz.prog W .any base t v:=aju
 have ajv:=Xm
 obtain ⟨p,q,IN,ajw,rfl,hfz,gZ⟩:=Xm
 have hA:DataW.TrodAll enc Tryz.prog W 0 (fun _=>true) true Tryz.f5.params.toList args.toList ds p:=IN
 obtain ⟨rfl,rfl⟩:=trodVars_none ajw
 refine(abe (prs:=N') afV rfl ajl ajk ajj ajm tJ hA).mono fun e W' ⟨he,Am,hst⟩=>?_
 subst he
 have pv:=hA
 rw [Tryz.params5] at pv
 obtain ⟨v0,Bn,d0,alI,jH,B9,PG,rfl,alJ,h0,BM⟩:=trodAll_cons pv
 obtain ⟨B2,rfl,alK⟩:=trodAll_nil BM
 exact⟨_,rfl,_,_,_,[],_,[],ajv,trodAll_mk1 (shut_bool Tryz.underlying4 _),hst,rfl,Am.frame _,fun h=>by cases h⟩
theorem fw{a b:Bool}(h:a=true)(k:b=true):(a&&b)=true:=by rw [h,k];rfl
theorem ajx:(Rows.fnMadeRow.wf (OpenSpec.ofChange Rows.fnMadeSpec))=true:=by kernel_rfl
theorem ajy:(laidOutB Tryz.prog)=true:=by kernel_rfl
theorem ajz:(mapsRowed Tryz.prog)=true:=by kernel_rfl
theorem ajA:(Tryz.f5.params.all (Tryz.prog.readableRec ·))=true:=by kernel_rfl
theorem ajB:(namedTie Tryz.prog Rows.fnMadeRow.named Rows.fnMadeSpec.vars)=true:=by kernel_rfl
theorem ajC:((Rows.fnMadeRow.stops==[]))=true:=by kernel_rfl
theorem ajD:((Tryz.prog.stops==[]))=true:=by kernel_rfl
theorem ajE:((Rows.fnMadeRow.knobs==[]))=true:=by kernel_rfl
theorem ajF:((Tryz.prog.stopKnobs==[]))=true:=by kernel_rfl
theorem ajG:((Rows.fnMadeRow.inPlace==Tryz.prog.inPlace 5))=true:=by kernel_rfl
theorem ajH:((Rows.fnMadeRow.unfollowed==Tryz.prog.unfollowed 5))=true:=by kernel_rfl
theorem ajI:((Rows.fnMadeRow.recurses==Tryz.prog.recurses 5))=true:=by kernel_rfl
theorem ajJ:((Rows.fnMadeRow.named==Tryz.prog.varsNamed 5))=true:=by kernel_rfl
theorem ajK:((Rows.fnMadeRow.maps ==(Tryz.f5.params.toList++Rows.fnMadeSpec.plain.varTypes Tryz.prog).any (Tryz.prog.mapsRec ·)))=true:=by kernel_rfl
theorem ajL:((Rows.fnMadeRow.ifaces ==(Tryz.f5.params.toList++Rows.fnMadeSpec.plain.varTypes Tryz.prog).any (Tryz.prog.ifacesRec ·)))=true:=by kernel_rfl
theorem ajM:((Rows.fnMadeRow.mapsOut==Tryz.prog.mapsAmong Tryz.f5.resultTypes.toList))=true:=by kernel_rfl
theorem ajN:((Rows.fnMadeRow.loops ==(Tryz.f5.params.toList++Rows.fnMadeSpec.plain.varTypes Tryz.prog).any (Tryz.prog.loopsFrom ·)))=true:=by kernel_rfl
theorem ajO:((Rows.fnMadeRow.wideKeys ==(Tryz.f5.params.toList++Rows.fnMadeSpec.plain.varTypes Tryz.prog++Tryz.f5.resultTypes.toList).any (Tryz.prog.wideKeysFrom ·)))=true:=by kernel_rfl
theorem ajP:(Rows.fnMadeSpec.vars.all (Tryz.prog.varReadable ·))=true:=by kernel_rfl
theorem ajQ:(Tryz.f5.resultTypes.all (fun t=>Tryz.prog.readableRec t&&decide (t<Tryz.prog.types.size)))=true:=by kernel_rfl
theorem ajR:((Rows.fnMadeRow.ifacesOut==Tryz.f5.resultTypes.toList.any (Tryz.prog.ifacesRec ·)))=true:=by kernel_rfl
theorem ajS:((Rows.fnMadeRow.loopsOut==Tryz.f5.resultTypes.toList.any (Tryz.prog.loopsFrom ·)))=true:=by kernel_rfl
theorem ajT:((Rows.fnMadeRow.plainKeys==Tryz.prog.plainKeys))=true:=by kernel_rfl
theorem ajU:(Rows.fnMadeRow.shortTexts.isNone)=true:=by kernel_rfl
theorem ajV:(Tryz.prog.stopsHeard)=true:=by kernel_rfl
theorem ajW:(Tryz.prog.mayEnter)=true:=by kernel_rfl
theorem ajX:((Rows.fnMadeRow.lifted==Tryz.prog.liftsFinal))=true:=by kernel_rfl
theorem ajY:((Tryz.prog.make==some Rows.fnMadeRow.make))=true:=by kernel_rfl
theorem ajZ:((Rows.fnMadeRow.kinds ==(if Rows.fnMadeRow.domain.isEmpty then [] else Tryz.f5.params.toList.map fun t=>match Tryz.prog.underlying t with | some (.int k)=>some k | _=>none)))=true:=by kernel_rfl
theorem aj0:((Rows.fnMadeRow.pinned==Rows.fnMadeRow.pinnedBy))=true:=by kernel_rfl
theorem aj1:((Rows.fnMadeRow.veiled ==(Tryz.f5.params.toList++Rows.fnMadeSpec.plain.varTypes Tryz.prog++Tryz.f5.resultTypes.toList).any (Tryz.prog.veiledRec ·)))=true:=by kernel_rfl
theorem aj2:(Rows.fnMadeRow.veiledFits Tryz.prog Tryz.f5.params.toList (Tryz.f5.params.toList++Rows.fnMadeSpec.plain.varTypes Tryz.prog++Tryz.f5.resultTypes.toList))=true:=by kernel_rfl
theorem aj3:joinedFacts Tryz.prog 5 Tryz.f5 Rows.fnMadeSpec Rows.fnMadeRow=true:=by
 unfold joinedFacts
 exact fw (fw (fw (fw (fw (fw (fw (fw (fw (fw (fw (fw (fw (fw (fw (fw (fw (fw (fw (fw (fw (fw (fw (fw (fw (fw (fw (fw (fw (fw (fw (ajx) ajy) ajz) ajA) ajB) ajC) ajD) ajE) ajF) ajG) ajH) ajI) ajJ) ajK) ajL) ajM) ajN) ajO) ajP) ajQ) ajR) ajS) ajT) ajU) ajV) ajW) ajX) ajY) ajZ) aj0) aj1) aj2
theorem Xn:Tryz.checked.prog.funcNamed Rows.fnMadeRow.func=some 5:=by kernel_rfl
theorem aj4:Func.isInstance Tryz.prog Tryz.f5 Rows.fnMadeRow.origin Rows.fnMadeRow.targs:=of_decide_eq_true (by kernel_rfl)
theorem aj5:Func.isWrapper Tryz.prog Tryz.f5 Rows.fnMadeRow.wrapper Rows.fnMadeRow.mainSum:=by
 unfold Func.isWrapper;first | (rw [if_pos (by decide +kernel)];kernel_rfl) | (rw [if_neg (by decide +kernel)];exact⟨rfl,rfl⟩)
theorem aj6:Rows.FnMadeSaid :=
 OpenClaim.holds_of_wide 5 Tryz.f5 rfl rfl rfl rfl rfl rfl rfl ⟨rfl,rfl,rfl,rfl,rfl⟩ rfl rfl rfl rfl rfl Xn Tryz.func5 aj3
  aj4 aj5
  (fun os started H enc _=>ajt os started H enc)
theorem aj7:([22].all fun u => !Tryz.prog.wantsStandIn u)=true:=by kernel_rfl
theorem FnMade_proved:Rows.FnMadeCardSaid :=
 Claim7.holds_tied_plain_at .later [] [.data,.pinned] true (true, "e283d4f1a529082bb63b6f9c821d6241c37443941bf17f221b30a164ad188d6b") false
  aj6 (fun _ h=>by cases h) (by kernel_rfl) (fun _ h=>by cases h) fnMade_row_tie rfl ⟨rfl,rfl⟩ (by kernel_rfl) rfl
  (fun f fn hf yL=>by
   obtain rfl:f=5:=aT (Xn.symm.trans hf) |>.symm
   obtain rfl:fn=Tryz.f5:=(aT (Tryz.func5.symm.trans yL)).symm
   exact⟨by kernel_rfl,fun j t ht=>by
    rw [Tryz.params5] at ht
    have hm:t∈[22]:=by simpa using Array.mem_of_getElem? ht
    exact(show Tryz.prog.wantsStandIn t=false by simpa using List.all_eq_true.1 aj7 t hm)⟩)
  (by kernel_rfl)
#print axioms FnMade_proved
end Go.Proofs.YtklmgcjamifmaaaGreatDoor
