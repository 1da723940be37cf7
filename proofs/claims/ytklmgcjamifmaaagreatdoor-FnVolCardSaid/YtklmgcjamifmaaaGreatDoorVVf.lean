/- The statement 'FnVol' (its tied card) holds for every input: whatever is called, a right volume stays right; what is refused changes nothing. Conditions: each theorem's own hypotheses. -/
import Derived.Test.YtklmgcjamifmaaaGreatDoorRows
import Derived.Test.YtklmgcjamifmaaaGreatDoorTie
import Derived.Test.YtklmgcjamifmaaaGreatDoorCards
import Derived.Lay
import Derived.LaidOnce
import Derived.SevenTiedAt
import Derived.Test.YtklmgcjamifmaaaGreatDoorVLmd
import Derived.Test.YtklmgcjamifmaaaGreatDoorVVb
import Derived.Test.YtklmgcjamifmaaaGreatDoorVVt
set_option linter.unusedVariables false
set_option linter.unusedSimpArgs false
namespace Go.Proofs.YtklmgcjamifmaaaGreatDoor
open Go.ChangeShapes Go.WideShapes Go.ChangeAt Go.RowKit
open Go.LM Go.LM.kb
theorem aix:ownKnob Tryz.prog.godebug=none:=by kernel_rfl
theorem aiy:laidOutB Tryz.prog=true:=by kernel_rfl
def Nu:List (Nat×ad):=[(22,.sl (.int .u8))]
theorem aiz:tl Tryz.prog Nu=true:=by kernel_rfl
theorem aiA:Tryz.f6.params.toList=Nu.map (·.1):=by kernel_rfl
theorem aiB:∀x:(bw.ins wQ.ps).D,p8 wQ.ps x→∃y,wQ.f x=some y∧IL wQ.rs (bw.dU wQ.ps) y:=by
 intro x hx
 exact⟨(true,()),aiC x.1,rfl⟩
set_option maxRecDepth 100000
theorem aiD(w:World):laidMetH Tryz.prog Rows.fnVolRow.laid w=laidMet Tryz.prog Rows.fnVolRow.laid w:=MakeChecks.laidMetH_plain _ _ _ (by kernel_rfl)
theorem aiE(os:Os):(World.holding Tryz.prog os ⟨#[],#[],[]⟩).layFits Tryz.prog Rows.fnVolRow.laid []=true:=by kernel_rfl
theorem aiF(os:Os):(World.holding Tryz.prog os ⟨#[],#[],[]⟩).layIfaces Tryz.prog Rows.fnVolRow.laid (World.laidAll Tryz.prog os Rows.fnVolRow.laid)=true:=by kernel_rfl
theorem aiG(os:Os):(World.laidAll Tryz.prog os Rows.fnVolRow.laid).variablesZipB Tryz.prog=true:=by kernel_rfl
theorem aiH(os:Os):((World.laidAll Tryz.prog os Rows.fnVolRow.laid).heap.toList.drop Tryz.prog.globals.size).take ((begin Tryz.prog (fun _ _=>0) default).world.heap.size-Tryz.prog.globals.size)=(begin Tryz.prog (fun _ _=>0) default).world.heap.toList.drop Tryz.prog.globals.size:=by kernel_rfl
theorem aiI(os:Os)(started:os.Started)(H:Type)(enc:TypeId×Value→H) :
  ReturnsInHanded {} Tryz.checked os 6 .any (fun w args=>(Rows.fnVolSpec.pre enc Tryz.prog Tryz.f6 [] false w args∧laidMetH Tryz.prog Rows.fnVolRow.laid w)∧sizedMet enc Tryz.prog Tryz.f6 (OpenSpec.ofChange Rows.fnVolSpec) false w args)
   (Rows.fnVolSpec.post enc Tryz.prog Tryz.f6 false true false false):=by
 refine returnsInHanded_of_change_and (C:=Tryz.checked) (X:=fun w _=>laidMetH Tryz.prog Rows.fnVolRow.laid w) (fun _ _ _ hh h=>h.of_heap hh) aix started (by kernel_rfl) Tryz.func6
  (ChangeSpec.witness_shaped (enc:=enc) (C:=Tryz.checked) (os:=os) (X:=fun w _=>laidMetH Tryz.prog Rows.fnVolRow.laid w) false (World.laidAll Tryz.prog os Rows.fnVolRow.laid) #[.slice none 0 0] 30 (World.laidAll_os _ _ _)
   (World.shaped_of_ZipB (aiG os) (aiH os)) (by kernel_rfl) (by kernel_rfl) (by kernel_rfl)
   (by rw [aiD];exact laidMet_laidAll _ (aiE os) (aiF os))) ?_
 intro W base args ds gs before aiJ Wq _ _ BM _
 have s6:∀(j:Nat) t v,Tryz.f6.params[j]?=some t→args[j]?=some v→Value.okWide Tryz.prog W .any base t v:=aiJ
 have aiK:=Wq
 obtain ⟨p,q,H5,aiL,rfl,hfz,hO⟩:=Wq
 have hA:DataW.TrodAll enc Tryz.prog W 0 (fun _=>true) true Tryz.f6.params.toList args.toList ds p:=H5
 obtain ⟨rfl,rfl⟩:=trodVars_none aiL
 refine(aae (prs:=Nu) aeS rfl aiA aiz aiy aiB s6 hA).mono fun e W' ⟨he,zz,hst⟩=>?_
 subst he
 have oO:=hA
 rw [Tryz.params6] at oO
 obtain ⟨v0,AA,d0,ako,jl,Bk,OQ,rfl,Wr,h0,AZ⟩:=trodAll_cons oO
 obtain ⟨Bd,rfl,akp⟩:=trodAll_nil AZ
 exact⟨_,rfl,_,_,_,[],_,[],aiK,trodAll_mk1 (shut_bool Tryz.underlying4 _),hst,rfl,zz.frame _,fun h=>by cases h⟩
theorem fh{a b:Bool}(h:a=true)(k:b=true):(a&&b)=true:=by rw [h,k];rfl
theorem aiM:(Rows.fnVolRow.wf (OpenSpec.ofChange Rows.fnVolSpec))=true:=by kernel_rfl
theorem aiN:(laidOutB Tryz.prog)=true:=by kernel_rfl
theorem aiO:(mapsRowed Tryz.prog)=true:=by kernel_rfl
theorem aiP:(Tryz.f6.params.all (Tryz.prog.readableRec ·))=true:=by kernel_rfl
theorem aiQ:(namedTie Tryz.prog Rows.fnVolRow.named Rows.fnVolSpec.vars)=true:=by kernel_rfl
theorem aiR:((Rows.fnVolRow.stops==[]))=true:=by kernel_rfl
theorem aiS:((Tryz.prog.stops==[]))=true:=by kernel_rfl
theorem aiT:((Rows.fnVolRow.knobs==[]))=true:=by kernel_rfl
theorem aiU:((Tryz.prog.stopKnobs==[]))=true:=by kernel_rfl
theorem aiV:((Rows.fnVolRow.inPlace==Tryz.prog.inPlace 6))=true:=by kernel_rfl
theorem aiW:((Rows.fnVolRow.unfollowed==Tryz.prog.unfollowed 6))=true:=by kernel_rfl
theorem aiX:((Rows.fnVolRow.recurses==Tryz.prog.recurses 6))=true:=by kernel_rfl
theorem aiY:((Rows.fnVolRow.named==Tryz.prog.varsNamed 6))=true:=by kernel_rfl
theorem aiZ:((Rows.fnVolRow.maps ==(Tryz.f6.params.toList++Rows.fnVolSpec.plain.varTypes Tryz.prog).any (Tryz.prog.mapsRec ·)))=true:=by kernel_rfl
theorem ai0:((Rows.fnVolRow.ifaces ==(Tryz.f6.params.toList++Rows.fnVolSpec.plain.varTypes Tryz.prog).any (Tryz.prog.ifacesRec ·)))=true:=by kernel_rfl
theorem ai1:((Rows.fnVolRow.mapsOut==Tryz.prog.mapsAmong Tryz.f6.resultTypes.toList))=true:=by kernel_rfl
theorem ai2:((Rows.fnVolRow.loops ==(Tryz.f6.params.toList++Rows.fnVolSpec.plain.varTypes Tryz.prog).any (Tryz.prog.loopsFrom ·)))=true:=by kernel_rfl
theorem ai3:((Rows.fnVolRow.wideKeys ==(Tryz.f6.params.toList++Rows.fnVolSpec.plain.varTypes Tryz.prog++Tryz.f6.resultTypes.toList).any (Tryz.prog.wideKeysFrom ·)))=true:=by kernel_rfl
theorem ai4:(Rows.fnVolSpec.vars.all (Tryz.prog.varReadable ·))=true:=by kernel_rfl
theorem ai5:(Tryz.f6.resultTypes.all (fun t=>Tryz.prog.readableRec t&&decide (t<Tryz.prog.types.size)))=true:=by kernel_rfl
theorem ai6:((Rows.fnVolRow.ifacesOut==Tryz.f6.resultTypes.toList.any (Tryz.prog.ifacesRec ·)))=true:=by kernel_rfl
theorem ai7:((Rows.fnVolRow.loopsOut==Tryz.f6.resultTypes.toList.any (Tryz.prog.loopsFrom ·)))=true:=by kernel_rfl
theorem ai8:((Rows.fnVolRow.plainKeys==Tryz.prog.plainKeys))=true:=by kernel_rfl
theorem ai9:(Rows.fnVolRow.shortTexts.isNone)=true:=by kernel_rfl
theorem ai_:(Tryz.prog.stopsHeard)=true:=by kernel_rfl
theorem ai':(Tryz.prog.mayEnter)=true:=by kernel_rfl
theorem aja:((Rows.fnVolRow.lifted==Tryz.prog.liftsFinal))=true:=by kernel_rfl
theorem ajb:((Tryz.prog.make==some Rows.fnVolRow.make))=true:=by kernel_rfl
theorem ajc:((Rows.fnVolRow.kinds ==(if Rows.fnVolRow.domain.isEmpty then [] else Tryz.f6.params.toList.map fun t=>match Tryz.prog.underlying t with | some (.int k)=>some k | _=>none)))=true:=by kernel_rfl
theorem ajd:((Rows.fnVolRow.pinned==Rows.fnVolRow.pinnedBy))=true:=by kernel_rfl
theorem aje:((Rows.fnVolRow.veiled ==(Tryz.f6.params.toList++Rows.fnVolSpec.plain.varTypes Tryz.prog++Tryz.f6.resultTypes.toList).any (Tryz.prog.veiledRec ·)))=true:=by kernel_rfl
theorem ajf:(Rows.fnVolRow.veiledFits Tryz.prog Tryz.f6.params.toList (Tryz.f6.params.toList++Rows.fnVolSpec.plain.varTypes Tryz.prog++Tryz.f6.resultTypes.toList))=true:=by kernel_rfl
theorem ajg:joinedFacts Tryz.prog 6 Tryz.f6 Rows.fnVolSpec Rows.fnVolRow=true:=by
 unfold joinedFacts
 exact fh (fh (fh (fh (fh (fh (fh (fh (fh (fh (fh (fh (fh (fh (fh (fh (fh (fh (fh (fh (fh (fh (fh (fh (fh (fh (fh (fh (fh (fh (fh (aiM) aiN) aiO) aiP) aiQ) aiR) aiS) aiT) aiU) aiV) aiW) aiX) aiY) aiZ) ai0) ai1) ai2) ai3) ai4) ai5) ai6) ai7) ai8) ai9) ai_) ai') aja) ajb) ajc) ajd) aje) ajf
theorem Ws:Tryz.checked.prog.funcNamed Rows.fnVolRow.func=some 6:=by kernel_rfl
theorem ajh:Func.isInstance Tryz.prog Tryz.f6 Rows.fnVolRow.origin Rows.fnVolRow.targs:=of_decide_eq_true (by kernel_rfl)
theorem aji:Func.isWrapper Tryz.prog Tryz.f6 Rows.fnVolRow.wrapper Rows.fnVolRow.mainSum:=by
 unfold Func.isWrapper;first | (rw [if_pos (by decide +kernel)];kernel_rfl) | (rw [if_neg (by decide +kernel)];exact⟨rfl,rfl⟩)
theorem ajj:Rows.FnVolSaid :=
 OpenClaim.holds_of_wide 6 Tryz.f6 rfl rfl rfl rfl rfl rfl rfl ⟨rfl,rfl,rfl,rfl,rfl⟩ rfl rfl rfl rfl rfl Ws Tryz.func6 ajg
  ajh aji
  (fun os started H enc _=>aiI os started H enc)
theorem ajk:([22].all fun u => !Tryz.prog.wantsStandIn u)=true:=by kernel_rfl
theorem FnVol_proved:Rows.FnVolCardSaid :=
 Claim7.holds_tied_plain_at .later [] [.data,.pinned] true (true, "e283d4f1a529082bb63b6f9c821d6241c37443941bf17f221b30a164ad188d6b") false
  ajj (fun _ h=>by cases h) (by kernel_rfl) (fun _ h=>by cases h) fnVol_row_tie rfl ⟨rfl,rfl⟩ (by kernel_rfl) rfl
  (fun f fn hf xY=>by
   obtain rfl:f=6:=Option.some.inj (Ws.symm.trans hf) |>.symm
   obtain rfl:fn=Tryz.f6:=(Option.some.inj (Tryz.func6.symm.trans xY)).symm
   exact⟨by kernel_rfl,fun j t ht=>by
    rw [Tryz.params6] at ht
    have hm:t∈[22]:=by simpa using Array.mem_of_getElem? ht
    exact(show Tryz.prog.wantsStandIn t=false by simpa using List.all_eq_true.1 ajk t hm)⟩)
  (by kernel_rfl)
#print axioms FnVol_proved
end Go.Proofs.YtklmgcjamifmaaaGreatDoor
