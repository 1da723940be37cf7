/- The statement 'FnWrite' (its tied card) holds for every input: what is written to a file that there is is read from it. Conditions: each theorem's own hypotheses. -/
import Derived.Test.YtklmgcjamifmaaaGreatDoorRows
import Derived.Test.YtklmgcjamifmaaaGreatDoorTie
import Derived.Test.YtklmgcjamifmaaaGreatDoorCards
import Derived.Lay
import Derived.LaidOnce
import Derived.SevenTiedAt
import Derived.Test.YtklmgcjamifmaaaGreatDoorWLmd
import Derived.Test.YtklmgcjamifmaaaGreatDoorWVb
import Derived.Test.YtklmgcjamifmaaaGreatDoorWVt
set_option linter.unusedVariables false
set_option linter.unusedSimpArgs false
namespace Go.Proofs.YtklmgcjamifmaaaGreatDoor
open Go.ChangeShapes Go.WideShapes Go.ChangeAt Go.RowKit
open Go.LM Go.LM.kF
theorem ajr:ownKnob Tryz.prog.godebug=none:=by kernel_rfl
theorem ajs:laidOutB Tryz.prog=true:=by kernel_rfl
def Ou:List (Nat×ad):=[(22,.sl (.int .u8))]
theorem ajt:uf Tryz.prog Ou=true:=by kernel_rfl
theorem aju:Tryz.f4.params.toList=Ou.map (·.1):=by kernel_rfl
theorem ajv:∀x:(bA.ins xD.ps).D,qE xD.ps x→∃y,xD.f x=some y∧Jt xD.rs (bA.d' xD.ps) y:=by
 intro x hx
 exact⟨(true,()),ajw x.1 hx.1,rfl⟩
set_option maxRecDepth 100000
theorem ajx(w:World):laidMetH Tryz.prog Rows.fnWriteRow.laid w=laidMet Tryz.prog Rows.fnWriteRow.laid w:=MakeChecks.laidMetH_plain _ _ _ (by kernel_rfl)
theorem ajy(os:Os):(World.holding Tryz.prog os ⟨#[],#[],[]⟩).layFits Tryz.prog Rows.fnWriteRow.laid []=true:=by kernel_rfl
theorem ajz(os:Os):(World.holding Tryz.prog os ⟨#[],#[],[]⟩).layIfaces Tryz.prog Rows.fnWriteRow.laid (World.laidAll Tryz.prog os Rows.fnWriteRow.laid)=true:=by kernel_rfl
theorem ajA(os:Os):(World.laidAll Tryz.prog os Rows.fnWriteRow.laid).variablesZipB Tryz.prog=true:=by kernel_rfl
theorem ajB(os:Os):((World.laidAll Tryz.prog os Rows.fnWriteRow.laid).heap.toList.drop Tryz.prog.globals.size).take ((begin Tryz.prog (fun _ _=>0) default).world.heap.size-Tryz.prog.globals.size)=(begin Tryz.prog (fun _ _=>0) default).world.heap.toList.drop Tryz.prog.globals.size:=by kernel_rfl
theorem ajC(os:Os)(started:os.Started)(H:Type)(enc:TypeId×Value→H) :
  ReturnsInHanded {} Tryz.checked os 4 .any (fun w args=>(Rows.fnWriteSpec.pre enc Tryz.prog Tryz.f4 [] false w args∧laidMetH Tryz.prog Rows.fnWriteRow.laid w)∧sizedMet enc Tryz.prog Tryz.f4 (OpenSpec.ofChange Rows.fnWriteSpec) false w args)
   (Rows.fnWriteSpec.post enc Tryz.prog Tryz.f4 false true false false):=by
 refine returnsInHanded_of_change_and (C:=Tryz.checked) (X:=fun w _=>laidMetH Tryz.prog Rows.fnWriteRow.laid w) (fun _ _ _ hh h=>h.of_heap hh) ajr started (by kernel_rfl) Tryz.func4
  (ChangeSpec.witness_shaped (enc:=enc) (C:=Tryz.checked) (os:=os) (X:=fun w _=>laidMetH Tryz.prog Rows.fnWriteRow.laid w) false (World.laidAll Tryz.prog os Rows.fnWriteRow.laid) #[.slice none 0 0] 30 (World.laidAll_os _ _ _)
   (World.shaped_of_ZipB (ajA os) (ajB os)) (by kernel_rfl) (by kernel_rfl) (by kernel_rfl)
   (by rw [ajx];exact laidMet_laidAll _ (ajy os) (ajz os))) ?_
 intro W base args ds gs before ajD rp _ _ CA _
 have tO:∀(j:Nat) t v,Tryz.f4.params[j]?=some t→args[j]?=some v→Value.okWide Tryz.prog W .any base t v:=ajD
 have ajE:=rp
 obtain ⟨p,q,IP,ajF,rfl,hfz,hH⟩:=rp
 have hA:DataW.TrodAll enc Tryz.prog W 0 (fun _=>true) true Tryz.f4.params.toList args.toList ds p:=IP
 obtain ⟨rfl,rfl⟩:=trodVars_none ajF
 refine(abo (prs:=Ou) af0 rfl aju ajt ajs ajv tO hA).mono fun e W' ⟨he,An,hst⟩=>?_
 subst he
 have pA:=hA
 rw [Tryz.params4] at pA
 obtain ⟨v0,Bo,d0,alI,jH,B9,PX,rfl,alJ,h0,BM⟩:=trodAll_cons pA
 obtain ⟨B2,rfl,alK⟩:=trodAll_nil BM
 exact⟨_,rfl,_,_,_,[],_,[],ajE,trodAll_mk1 (shut_bool Tryz.underlying4 _),hst,rfl,An.frame _,fun h=>by cases h⟩
theorem fz{a b:Bool}(h:a=true)(k:b=true):(a&&b)=true:=by rw [h,k];rfl
theorem ajG:(Rows.fnWriteRow.wf (OpenSpec.ofChange Rows.fnWriteSpec))=true:=by kernel_rfl
theorem ajH:(laidOutB Tryz.prog)=true:=by kernel_rfl
theorem ajI:(mapsRowed Tryz.prog)=true:=by kernel_rfl
theorem ajJ:(Tryz.f4.params.all (Tryz.prog.readableRec ·))=true:=by kernel_rfl
theorem ajK:(namedTie Tryz.prog Rows.fnWriteRow.named Rows.fnWriteSpec.vars)=true:=by kernel_rfl
theorem ajL:((Rows.fnWriteRow.stops==[]))=true:=by kernel_rfl
theorem ajM:((Tryz.prog.stops==[]))=true:=by kernel_rfl
theorem ajN:((Rows.fnWriteRow.knobs==[]))=true:=by kernel_rfl
theorem ajO:((Tryz.prog.stopKnobs==[]))=true:=by kernel_rfl
theorem ajP:((Rows.fnWriteRow.inPlace==Tryz.prog.inPlace 4))=true:=by kernel_rfl
theorem ajQ:((Rows.fnWriteRow.unfollowed==Tryz.prog.unfollowed 4))=true:=by kernel_rfl
theorem ajR:((Rows.fnWriteRow.recurses==Tryz.prog.recurses 4))=true:=by kernel_rfl
theorem ajS:((Rows.fnWriteRow.named==Tryz.prog.varsNamed 4))=true:=by kernel_rfl
theorem ajT:((Rows.fnWriteRow.maps ==(Tryz.f4.params.toList++Rows.fnWriteSpec.plain.varTypes Tryz.prog).any (Tryz.prog.mapsRec ·)))=true:=by kernel_rfl
theorem ajU:((Rows.fnWriteRow.ifaces ==(Tryz.f4.params.toList++Rows.fnWriteSpec.plain.varTypes Tryz.prog).any (Tryz.prog.ifacesRec ·)))=true:=by kernel_rfl
theorem ajV:((Rows.fnWriteRow.mapsOut==Tryz.prog.mapsAmong Tryz.f4.resultTypes.toList))=true:=by kernel_rfl
theorem ajW:((Rows.fnWriteRow.loops ==(Tryz.f4.params.toList++Rows.fnWriteSpec.plain.varTypes Tryz.prog).any (Tryz.prog.loopsFrom ·)))=true:=by kernel_rfl
theorem ajX:((Rows.fnWriteRow.wideKeys ==(Tryz.f4.params.toList++Rows.fnWriteSpec.plain.varTypes Tryz.prog++Tryz.f4.resultTypes.toList).any (Tryz.prog.wideKeysFrom ·)))=true:=by kernel_rfl
theorem ajY:(Rows.fnWriteSpec.vars.all (Tryz.prog.varReadable ·))=true:=by kernel_rfl
theorem ajZ:(Tryz.f4.resultTypes.all (fun t=>Tryz.prog.readableRec t&&decide (t<Tryz.prog.types.size)))=true:=by kernel_rfl
theorem aj0:((Rows.fnWriteRow.ifacesOut==Tryz.f4.resultTypes.toList.any (Tryz.prog.ifacesRec ·)))=true:=by kernel_rfl
theorem aj1:((Rows.fnWriteRow.loopsOut==Tryz.f4.resultTypes.toList.any (Tryz.prog.loopsFrom ·)))=true:=by kernel_rfl
theorem aj2:((Rows.fnWriteRow.plainKeys==Tryz.prog.plainKeys))=true:=by kernel_rfl
theorem aj3:(Rows.fnWriteRow.shortTexts.isNone)=true:=by kernel_rfl
theorem aj4:(Tryz.prog.stopsHeard)=true:=by kernel_rfl
theorem aj5:(Tryz.prog.mayEnter)=true:=by kernel_rfl
theorem aj6:((Rows.fnWriteRow.lifted==Tryz.prog.liftsFinal))=true:=by kernel_rfl
theorem aj7:((Tryz.prog.make==some Rows.fnWriteRow.make))=true:=by kernel_rfl
theorem aj8:((Rows.fnWriteRow.kinds ==(if Rows.fnWriteRow.domain.isEmpty then [] else Tryz.f4.params.toList.map fun t=>match Tryz.prog.underlying t with | some (.int k)=>some k | _=>none)))=true:=by kernel_rfl
theorem aj9:((Rows.fnWriteRow.pinned==Rows.fnWriteRow.pinnedBy))=true:=by kernel_rfl
theorem aj_:((Rows.fnWriteRow.veiled ==(Tryz.f4.params.toList++Rows.fnWriteSpec.plain.varTypes Tryz.prog++Tryz.f4.resultTypes.toList).any (Tryz.prog.veiledRec ·)))=true:=by kernel_rfl
theorem aj':(Rows.fnWriteRow.veiledFits Tryz.prog Tryz.f4.params.toList (Tryz.f4.params.toList++Rows.fnWriteSpec.plain.varTypes Tryz.prog++Tryz.f4.resultTypes.toList))=true:=by kernel_rfl
theorem aka:joinedFacts Tryz.prog 4 Tryz.f4 Rows.fnWriteSpec Rows.fnWriteRow=true:=by
 unfold joinedFacts
 exact fz (fz (fz (fz (fz (fz (fz (fz (fz (fz (fz (fz (fz (fz (fz (fz (fz (fz (fz (fz (fz (fz (fz (fz (fz (fz (fz (fz (fz (fz (fz (ajG) ajH) ajI) ajJ) ajK) ajL) ajM) ajN) ajO) ajP) ajQ) ajR) ajS) ajT) ajU) ajV) ajW) ajX) ajY) ajZ) aj0) aj1) aj2) aj3) aj4) aj5) aj6) aj7) aj8) aj9) aj_) aj'
theorem Xp:Tryz.checked.prog.funcNamed Rows.fnWriteRow.func=some 4:=by kernel_rfl
theorem akb:Func.isInstance Tryz.prog Tryz.f4 Rows.fnWriteRow.origin Rows.fnWriteRow.targs:=of_decide_eq_true (by kernel_rfl)
theorem akc:Func.isWrapper Tryz.prog Tryz.f4 Rows.fnWriteRow.wrapper Rows.fnWriteRow.mainSum:=by
 unfold Func.isWrapper;first | (rw [if_pos (by decide +kernel)];kernel_rfl) | (rw [if_neg (by decide +kernel)];exact⟨rfl,rfl⟩)
theorem akd:Rows.FnWriteSaid :=
 OpenClaim.holds_of_wide 4 Tryz.f4 rfl rfl rfl rfl rfl rfl rfl ⟨rfl,rfl,rfl,rfl,rfl⟩ rfl rfl rfl rfl rfl Xp Tryz.func4 aka
  akb akc
  (fun os started H enc _=>ajC os started H enc)
theorem ake:([22].all fun u => !Tryz.prog.wantsStandIn u)=true:=by kernel_rfl
theorem FnWrite_proved:Rows.FnWriteCardSaid :=
 Claim7.holds_tied_plain_at .later [] [.data,.pinned] true (true, "e283d4f1a529082bb63b6f9c821d6241c37443941bf17f221b30a164ad188d6b") false
  akd (fun _ h=>by cases h) (by kernel_rfl) (fun _ h=>by cases h) fnWrite_row_tie rfl ⟨rfl,rfl⟩ (by kernel_rfl) rfl
  (fun f fn hf yN=>by
   obtain rfl:f=4:=aU (Xp.symm.trans hf) |>.symm
   obtain rfl:fn=Tryz.f4:=(aU (Tryz.func4.symm.trans yN)).symm
   exact⟨by kernel_rfl,fun j t ht=>by
    rw [Tryz.params4] at ht
    have hm:t∈[22]:=by simpa using Array.mem_of_getElem? ht
    exact(show Tryz.prog.wantsStandIn t=false by simpa using List.all_eq_true.1 ake t hm)⟩)
  (by kernel_rfl)
#print axioms FnWrite_proved
end Go.Proofs.YtklmgcjamifmaaaGreatDoor
