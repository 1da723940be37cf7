/- The statement 'FnRename' (its tied card) holds for every input: a name that is moved leads there to what it led to, and is gone where it was. Conditions: each theorem's own hypotheses. -/
import Derived.Test.YtklmgcjamifmaaaGreatDoorRows
import Derived.Test.YtklmgcjamifmaaaGreatDoorTie
import Derived.Test.YtklmgcjamifmaaaGreatDoorCards
import Derived.Lay
import Derived.LaidOnce
import Derived.SevenTiedAt
import Derived.Test.YtklmgcjamifmaaaGreatDoorNLmd
import Derived.Test.YtklmgcjamifmaaaGreatDoorNVb
import Derived.Test.YtklmgcjamifmaaaGreatDoorNVt
set_option linter.unusedVariables false
set_option linter.unusedSimpArgs false
namespace Go.Proofs.YtklmgcjamifmaaaGreatDoor
open Go.ChangeShapes Go.WideShapes Go.ChangeAt Go.RowKit
open Go.LM Go.LM.kc
theorem ai5:ownKnob Tryz.prog.godebug=none:=by kernel_rfl
theorem ai6:laidOutB Tryz.prog=true:=by kernel_rfl
def NT:List (Nat×ae):=[(22,.sl (.int .u8))]
theorem ai7:tt Tryz.prog NT=true:=by kernel_rfl
theorem ai8:Tryz.f7.params.toList=NT.map (·.1):=by kernel_rfl
theorem ai9:∀x:(bx.ins w4.ps).D,qh w4.ps x→∃y,w4.f x=some y∧I5 w4.rs (bx.dU w4.ps) y:=by
 intro x hx
 exact⟨(true,()),ai_ x.1,rfl⟩
set_option maxRecDepth 100000
theorem ai'(w:World):laidMetH Tryz.prog Rows.fnRenameRow.laid w=laidMet Tryz.prog Rows.fnRenameRow.laid w:=MakeChecks.laidMetH_plain _ _ _ (by kernel_rfl)
theorem aja(os:Os):(World.holding Tryz.prog os ⟨#[],#[],[]⟩).layFits Tryz.prog Rows.fnRenameRow.laid []=true:=by kernel_rfl
theorem ajb(os:Os):(World.holding Tryz.prog os ⟨#[],#[],[]⟩).layIfaces Tryz.prog Rows.fnRenameRow.laid (World.laidAll Tryz.prog os Rows.fnRenameRow.laid)=true:=by kernel_rfl
theorem ajc(os:Os):(World.laidAll Tryz.prog os Rows.fnRenameRow.laid).variablesZipB Tryz.prog=true:=by kernel_rfl
theorem ajd(os:Os):((World.laidAll Tryz.prog os Rows.fnRenameRow.laid).heap.toList.drop Tryz.prog.globals.size).take ((begin Tryz.prog (fun _ _=>0) default).world.heap.size-Tryz.prog.globals.size)=(begin Tryz.prog (fun _ _=>0) default).world.heap.toList.drop Tryz.prog.globals.size:=by kernel_rfl
theorem aje(os:Os)(started:os.Started)(H:Type)(enc:TypeId×Value→H) :
  ReturnsInHanded {} Tryz.checked os 7 .any (fun w args=>(Rows.fnRenameSpec.pre enc Tryz.prog Tryz.f7 [] false w args∧laidMetH Tryz.prog Rows.fnRenameRow.laid w)∧sizedMet enc Tryz.prog Tryz.f7 (OpenSpec.ofChange Rows.fnRenameSpec) false w args)
   (Rows.fnRenameSpec.post enc Tryz.prog Tryz.f7 false true false false):=by
 refine returnsInHanded_of_change_and (C:=Tryz.checked) (X:=fun w _=>laidMetH Tryz.prog Rows.fnRenameRow.laid w) (fun _ _ _ hh h=>h.of_heap hh) ai5 started (by kernel_rfl) Tryz.func7
  (ChangeSpec.witness_shaped (enc:=enc) (C:=Tryz.checked) (os:=os) (X:=fun w _=>laidMetH Tryz.prog Rows.fnRenameRow.laid w) false (World.laidAll Tryz.prog os Rows.fnRenameRow.laid) #[.slice none 0 0] 30 (World.laidAll_os _ _ _)
   (World.shaped_of_ZipB (ajc os) (ajd os)) (by kernel_rfl) (by kernel_rfl) (by kernel_rfl)
   (by rw [ai'];exact laidMet_laidAll _ (aja os) (ajb os))) ?_
 intro W base args ds gs before ajf WV _ _ wi _
 have tb:∀(j:Nat) t v,Tryz.f7.params[j]?=some t→args[j]?=some v→Value.okWide Tryz.prog W .any base t v:=ajf
 have ajg:=WV
 obtain ⟨p,q,Io,ajh,rfl,hfz,hR⟩:=WV
 have hA:DataW.TrodAll enc Tryz.prog W 0 (fun _=>true) true Tryz.f7.params.toList args.toList ds p:=Io
 obtain ⟨rfl,rfl⟩:=trodVars_none ajh
 refine(aaN (prs:=NT) afr rfl ai8 ai7 ai6 ai9 tb hA).mono fun e W' ⟨he,zM,hst⟩=>?_
 subst he
 have oU:=hA
 rw [Tryz.params7] at oU
 obtain ⟨v0,AS,d0,ak0,jn,BB,Pf,rfl,ak1,h0,Be⟩:=trodAll_cons oU
 obtain ⟨Bu,rfl,ak2⟩:=trodAll_nil Be
 exact⟨_,rfl,_,_,_,[],_,[],ajg,trodAll_mk1 (shut_bool Tryz.underlying4 _),hst,rfl,zM.frame _,fun h=>by cases h⟩
theorem fg{a b:Bool}(h:a=true)(k:b=true):(a&&b)=true:=by rw [h,k];rfl
theorem aji:(Rows.fnRenameRow.wf (OpenSpec.ofChange Rows.fnRenameSpec))=true:=by kernel_rfl
theorem ajj:(laidOutB Tryz.prog)=true:=by kernel_rfl
theorem ajk:(mapsRowed Tryz.prog)=true:=by kernel_rfl
theorem ajl:(Tryz.f7.params.all (Tryz.prog.readableRec ·))=true:=by kernel_rfl
theorem ajm:(namedTie Tryz.prog Rows.fnRenameRow.named Rows.fnRenameSpec.vars)=true:=by kernel_rfl
theorem ajn:((Rows.fnRenameRow.stops==[]))=true:=by kernel_rfl
theorem ajo:((Tryz.prog.stops==[]))=true:=by kernel_rfl
theorem ajp:((Rows.fnRenameRow.knobs==[]))=true:=by kernel_rfl
theorem ajq:((Tryz.prog.stopKnobs==[]))=true:=by kernel_rfl
theorem ajr:((Rows.fnRenameRow.inPlace==Tryz.prog.inPlace 7))=true:=by kernel_rfl
theorem ajs:((Rows.fnRenameRow.unfollowed==Tryz.prog.unfollowed 7))=true:=by kernel_rfl
theorem ajt:((Rows.fnRenameRow.recurses==Tryz.prog.recurses 7))=true:=by kernel_rfl
theorem aju:((Rows.fnRenameRow.named==Tryz.prog.varsNamed 7))=true:=by kernel_rfl
theorem ajv:((Rows.fnRenameRow.maps ==(Tryz.f7.params.toList++Rows.fnRenameSpec.plain.varTypes Tryz.prog).any (Tryz.prog.mapsRec ·)))=true:=by kernel_rfl
theorem ajw:((Rows.fnRenameRow.ifaces ==(Tryz.f7.params.toList++Rows.fnRenameSpec.plain.varTypes Tryz.prog).any (Tryz.prog.ifacesRec ·)))=true:=by kernel_rfl
theorem ajx:((Rows.fnRenameRow.mapsOut==Tryz.prog.mapsAmong Tryz.f7.resultTypes.toList))=true:=by kernel_rfl
theorem ajy:((Rows.fnRenameRow.loops ==(Tryz.f7.params.toList++Rows.fnRenameSpec.plain.varTypes Tryz.prog).any (Tryz.prog.loopsFrom ·)))=true:=by kernel_rfl
theorem ajz:((Rows.fnRenameRow.wideKeys ==(Tryz.f7.params.toList++Rows.fnRenameSpec.plain.varTypes Tryz.prog++Tryz.f7.resultTypes.toList).any (Tryz.prog.wideKeysFrom ·)))=true:=by kernel_rfl
theorem ajA:(Rows.fnRenameSpec.vars.all (Tryz.prog.varReadable ·))=true:=by kernel_rfl
theorem ajB:(Tryz.f7.resultTypes.all (fun t=>Tryz.prog.readableRec t&&decide (t<Tryz.prog.types.size)))=true:=by kernel_rfl
theorem ajC:((Rows.fnRenameRow.ifacesOut==Tryz.f7.resultTypes.toList.any (Tryz.prog.ifacesRec ·)))=true:=by kernel_rfl
theorem ajD:((Rows.fnRenameRow.loopsOut==Tryz.f7.resultTypes.toList.any (Tryz.prog.loopsFrom ·)))=true:=by kernel_rfl
theorem ajE:((Rows.fnRenameRow.plainKeys==Tryz.prog.plainKeys))=true:=by kernel_rfl
theorem ajF:(Rows.fnRenameRow.shortTexts.isNone)=true:=by kernel_rfl
theorem ajG:(Tryz.prog.stopsHeard)=true:=by kernel_rfl
theorem ajH:(Tryz.prog.mayEnter)=true:=by kernel_rfl
theorem ajI:((Rows.fnRenameRow.lifted==Tryz.prog.liftsFinal))=true:=by kernel_rfl
theorem ajJ:((Tryz.prog.make==some Rows.fnRenameRow.make))=true:=by kernel_rfl
theorem ajK:((Rows.fnRenameRow.kinds ==(if Rows.fnRenameRow.domain.isEmpty then [] else Tryz.f7.params.toList.map fun t=>match Tryz.prog.underlying t with | some (.int k)=>some k | _=>none)))=true:=by kernel_rfl
theorem ajL:((Rows.fnRenameRow.pinned==Rows.fnRenameRow.pinnedBy))=true:=by kernel_rfl
theorem ajM:((Rows.fnRenameRow.veiled ==(Tryz.f7.params.toList++Rows.fnRenameSpec.plain.varTypes Tryz.prog++Tryz.f7.resultTypes.toList).any (Tryz.prog.veiledRec ·)))=true:=by kernel_rfl
theorem ajN:(Rows.fnRenameRow.veiledFits Tryz.prog Tryz.f7.params.toList (Tryz.f7.params.toList++Rows.fnRenameSpec.plain.varTypes Tryz.prog++Tryz.f7.resultTypes.toList))=true:=by kernel_rfl
theorem ajO:joinedFacts Tryz.prog 7 Tryz.f7 Rows.fnRenameSpec Rows.fnRenameRow=true:=by
 unfold joinedFacts
 exact fg (fg (fg (fg (fg (fg (fg (fg (fg (fg (fg (fg (fg (fg (fg (fg (fg (fg (fg (fg (fg (fg (fg (fg (fg (fg (fg (fg (fg (fg (fg (aji) ajj) ajk) ajl) ajm) ajn) ajo) ajp) ajq) ajr) ajs) ajt) aju) ajv) ajw) ajx) ajy) ajz) ajA) ajB) ajC) ajD) ajE) ajF) ajG) ajH) ajI) ajJ) ajK) ajL) ajM) ajN
theorem WW:Tryz.checked.prog.funcNamed Rows.fnRenameRow.func=some 7:=by kernel_rfl
theorem ajP:Func.isInstance Tryz.prog Tryz.f7 Rows.fnRenameRow.origin Rows.fnRenameRow.targs:=of_decide_eq_true (by kernel_rfl)
theorem ajQ:Func.isWrapper Tryz.prog Tryz.f7 Rows.fnRenameRow.wrapper Rows.fnRenameRow.mainSum:=by
 unfold Func.isWrapper;first | (rw [if_pos (by decide +kernel)];kernel_rfl) | (rw [if_neg (by decide +kernel)];exact⟨rfl,rfl⟩)
theorem ajR:Rows.FnRenameSaid :=
 OpenClaim.holds_of_wide 7 Tryz.f7 rfl rfl rfl rfl rfl rfl rfl ⟨rfl,rfl,rfl,rfl,rfl⟩ rfl rfl rfl rfl rfl WW Tryz.func7 ajO
  ajP ajQ
  (fun os started H enc _=>aje os started H enc)
theorem ajS:([22].all fun u => !Tryz.prog.wantsStandIn u)=true:=by kernel_rfl
theorem FnRename_proved:Rows.FnRenameCardSaid :=
 Claim7.holds_tied_plain_at .later [] [.data,.pinned] true (true, "e283d4f1a529082bb63b6f9c821d6241c37443941bf17f221b30a164ad188d6b") false
  ajR (fun _ h=>by cases h) (by kernel_rfl) (fun _ h=>by cases h) fnRename_row_tie rfl ⟨rfl,rfl⟩ (by kernel_rfl) rfl
  (fun f fn hf x_=>by
   obtain rfl:f=7:=aV (WW.symm.trans hf) |>.symm
   obtain rfl:fn=Tryz.f7:=(aV (Tryz.func7.symm.trans x_)).symm
   exact⟨by kernel_rfl,fun j t ht=>by
    rw [Tryz.params7] at ht
    have hm:t∈[22]:=by simpa using Array.mem_of_getElem? ht
    exact(show Tryz.prog.wantsStandIn t=false by simpa using List.all_eq_true.1 ajS t hm)⟩)
  (by kernel_rfl)
#print axioms FnRename_proved
end Go.Proofs.YtklmgcjamifmaaaGreatDoor
