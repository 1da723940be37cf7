/- The statement 'FnTenant' (its tied card) holds for every input: whatever a client calls, a right tenant stays right. Conditions: each theorem's own hypotheses. -/
import Derived.Test.YtlkbjdmfbadhaaaGreatDoorRows
import Derived.Test.YtlkbjdmfbadhaaaGreatDoorTie
import Derived.Test.YtlkbjdmfbadhaaaGreatDoorCards
import Derived.Lay
import Derived.LaidOnce
import Derived.SevenTiedAt
import Derived.Test.YtlkbjdmfbadhaaaGreatDoorKLmd
import Derived.Test.YtlkbjdmfbadhaaaGreatDoorKVb
import Derived.Test.YtlkbjdmfbadhaaaGreatDoorKVt
set_option linter.unusedVariables false
set_option linter.unusedSimpArgs false
namespace Go.Proofs.YtlkbjdmfbadhaaaGreatDoor
open Go.ChangeShapes Go.WideShapes Go.ChangeAt Go.RowKit
open Go.LM Go.LM.kO
theorem aoI:ownKnob Tryz.prog.godebug=none:=by kernel_rfl
theorem aoJ:laidOutB Tryz.prog=true:=by kernel_rfl
def Ra:List (Nat×ae):=[(22,.sl (.int .u8))]
theorem aoK:uV Tryz.prog Ra=true:=by kernel_rfl
theorem aoL:Tryz.f3.params.toList=Ra.map (·.1):=by kernel_rfl
theorem aoM:∀x:(bF.ins yE.ps).D,qZ yE.ps x→∃y,yE.f x=some y∧LB yE.rs (bF.eg yE.ps) y:=by intro x hx;exact⟨(true,()),aoN x.1,rfl⟩
set_option maxRecDepth 100000
theorem aoO(w:World):laidMetH Tryz.prog Rows.fnTenantRow.laid w=laidMet Tryz.prog Rows.fnTenantRow.laid w:=MakeChecks.laidMetH_plain _ _ _ (by kernel_rfl)
theorem aoP(os:Os):(World.holding Tryz.prog os ⟨#[],#[],[]⟩).layFits Tryz.prog Rows.fnTenantRow.laid []=true:=by kernel_rfl
theorem aoQ(os:Os):(World.holding Tryz.prog os ⟨#[],#[],[]⟩).layIfaces Tryz.prog Rows.fnTenantRow.laid (World.laidAll Tryz.prog os Rows.fnTenantRow.laid)=true:=by kernel_rfl
theorem aoR(os:Os):(World.laidAll Tryz.prog os Rows.fnTenantRow.laid).variablesZipB Tryz.prog=true:=by kernel_rfl
theorem aoS(os:Os):((World.laidAll Tryz.prog os Rows.fnTenantRow.laid).heap.toList.drop Tryz.prog.globals.size).take ((begin Tryz.prog (fun _ _=>0) default).world.heap.size-Tryz.prog.globals.size)=(begin Tryz.prog (fun _ _=>0) default).world.heap.toList.drop Tryz.prog.globals.size:=by kernel_rfl
theorem aoT(os:Os)(started:os.Started)(H:Type)(enc:TypeId×Value→H) :
  ReturnsInHanded {} Tryz.checked os 3 .any (fun w args=>(Rows.fnTenantSpec.pre enc Tryz.prog Tryz.f3 [] false w args∧laidMetH Tryz.prog Rows.fnTenantRow.laid w)∧sizedMet enc Tryz.prog Tryz.f3 (OpenSpec.ofChange Rows.fnTenantSpec) false w args)
   (Rows.fnTenantSpec.post enc Tryz.prog Tryz.f3 false true false false):=by
 refine returnsInHanded_of_change_and (C:=Tryz.checked) (X:=fun w _=>laidMetH Tryz.prog Rows.fnTenantRow.laid w) (fun _ _ _ hh h=>h.of_heap hh) aoI started (by kernel_rfl) Tryz.func3
  (ChangeSpec.witness_shaped (enc:=enc) (C:=Tryz.checked) (os:=os) (X:=fun w _=>laidMetH Tryz.prog Rows.fnTenantRow.laid w) false (World.laidAll Tryz.prog os Rows.fnTenantRow.laid) #[.slice none 0 0] 30 (World.laidAll_os _ _ _)
   (World.shaped_of_ZipB (aoR os) (aoS os)) (by kernel_rfl) (by kernel_rfl) (by kernel_rfl)
   (by rw [aoO];exact laidMet_laidAll _ (aoP os) (aoQ os))) ?_
 intro W base args ds gs before aoU aa6 _ _ xY _;have uD:∀(j:Nat) t v,Tryz.f3.params[j]?=some t→args[j]?=some v→Value.okWide Tryz.prog W .any base t v:=aoU
 have aoV:=aa6;obtain ⟨p,q,KV,aoW,rfl,hfz,iq⟩:=aa6;have hA:DataW.TrodAll enc Tryz.prog W 0 (fun _=>true) true Tryz.f3.params.toList args.toList ds p:=KV;obtain ⟨rfl,rfl⟩:=trodVars_none aoW;refine(afq (prs:=Ra) ak2 rfl aoL aoK aoJ aoM uD hA).mono fun e W' ⟨he,BF,hst⟩=>?_
 subst he;have pP:=hA;rw [Tryz.params3] at pP;obtain ⟨v0,CJ,d0,arF,j1,Ds,SP,rfl,arG,h0,C6⟩:=trodAll_cons pP;obtain ⟨Dk,rfl,arH⟩:=trodAll_nil C6;exact⟨_,rfl,_,_,_,[],_,[],aoV,trodAll_mk1 (shut_bool Tryz.underlying4 _),hst,rfl,BF.frame _,fun h=>by cases h⟩
theorem fI{a b:Bool}(h:a=true)(k:b=true):(a&&b)=true:=by rw [h,k];rfl
theorem aoX:(Rows.fnTenantRow.wf (OpenSpec.ofChange Rows.fnTenantSpec))=true:=by kernel_rfl
theorem aoY:(laidOutB Tryz.prog)=true:=by kernel_rfl
theorem aoZ:(mapsRowed Tryz.prog)=true:=by kernel_rfl
theorem ao0:(Tryz.f3.params.all (Tryz.prog.readableRec ·))=true:=by kernel_rfl
theorem ao1:(namedTie Tryz.prog Rows.fnTenantRow.named Rows.fnTenantSpec.vars)=true:=by kernel_rfl
theorem ao2:((Rows.fnTenantRow.stops==[]))=true:=by kernel_rfl
theorem ao3:((Tryz.prog.stops==[]))=true:=by kernel_rfl
theorem ao4:((Rows.fnTenantRow.knobs==[]))=true:=by kernel_rfl
theorem ao5:((Tryz.prog.stopKnobs==[]))=true:=by kernel_rfl
theorem ao6:((Rows.fnTenantRow.inPlace==Tryz.prog.inPlace 3))=true:=by kernel_rfl
theorem ao7:((Rows.fnTenantRow.unfollowed==Tryz.prog.unfollowed 3))=true:=by kernel_rfl
theorem ao8:((Rows.fnTenantRow.recurses==Tryz.prog.recurses 3))=true:=by kernel_rfl
theorem ao9:((Rows.fnTenantRow.named==Tryz.prog.varsNamed 3))=true:=by kernel_rfl
theorem ao_:((Rows.fnTenantRow.maps ==(Tryz.f3.params.toList++Rows.fnTenantSpec.plain.varTypes Tryz.prog).any (Tryz.prog.mapsRec ·)))=true:=by kernel_rfl
theorem ao':((Rows.fnTenantRow.ifaces ==(Tryz.f3.params.toList++Rows.fnTenantSpec.plain.varTypes Tryz.prog).any (Tryz.prog.ifacesRec ·)))=true:=by kernel_rfl
theorem apa:((Rows.fnTenantRow.mapsOut==Tryz.prog.mapsAmong Tryz.f3.resultTypes.toList))=true:=by kernel_rfl
theorem apb:((Rows.fnTenantRow.loops ==(Tryz.f3.params.toList++Rows.fnTenantSpec.plain.varTypes Tryz.prog).any (Tryz.prog.loopsFrom ·)))=true:=by kernel_rfl
theorem apc:((Rows.fnTenantRow.wideKeys ==(Tryz.f3.params.toList++Rows.fnTenantSpec.plain.varTypes Tryz.prog++Tryz.f3.resultTypes.toList).any (Tryz.prog.wideKeysFrom ·)))=true:=by kernel_rfl
theorem apd:(Rows.fnTenantSpec.vars.all (Tryz.prog.varReadable ·))=true:=by kernel_rfl
theorem ape:(Tryz.f3.resultTypes.all (fun t=>Tryz.prog.readableRec t&&decide (t<Tryz.prog.types.size)))=true:=by kernel_rfl
theorem apf:((Rows.fnTenantRow.ifacesOut==Tryz.f3.resultTypes.toList.any (Tryz.prog.ifacesRec ·)))=true:=by kernel_rfl
theorem apg:((Rows.fnTenantRow.loopsOut==Tryz.f3.resultTypes.toList.any (Tryz.prog.loopsFrom ·)))=true:=by kernel_rfl
theorem aph:((Rows.fnTenantRow.plainKeys==Tryz.prog.plainKeys))=true:=by kernel_rfl
theorem api:(Rows.fnTenantRow.shortTexts.isNone)=true:=by kernel_rfl
theorem apj:(Tryz.prog.stopsHeard)=true:=by kernel_rfl
theorem apk:(Tryz.prog.mayEnter)=true:=by kernel_rfl
theorem apl:((Rows.fnTenantRow.lifted==Tryz.prog.liftsFinal))=true:=by kernel_rfl
theorem apm:((Tryz.prog.make==some Rows.fnTenantRow.make))=true:=by kernel_rfl
theorem apn:((Rows.fnTenantRow.kinds ==(if Rows.fnTenantRow.domain.isEmpty then [] else Tryz.f3.params.toList.map fun t=>match Tryz.prog.underlying t with | some (.int k)=>some k | _=>none)))=true:=by kernel_rfl
theorem apo:((Rows.fnTenantRow.pinned==Rows.fnTenantRow.pinnedBy))=true:=by kernel_rfl
theorem apq:((Rows.fnTenantRow.veiled ==(Tryz.f3.params.toList++Rows.fnTenantSpec.plain.varTypes Tryz.prog++Tryz.f3.resultTypes.toList).any (Tryz.prog.veiledRec ·)))=true:=by kernel_rfl
theorem apr:(Rows.fnTenantRow.veiledFits Tryz.prog Tryz.f3.params.toList (Tryz.f3.params.toList++Rows.fnTenantSpec.plain.varTypes Tryz.prog++Tryz.f3.resultTypes.toList))=true:=by kernel_rfl
theorem aps:joinedFacts Tryz.prog 3 Tryz.f3 Rows.fnTenantSpec Rows.fnTenantRow=true:=by unfold joinedFacts;exact fI (fI (fI (fI (fI (fI (fI (fI (fI (fI (fI (fI (fI (fI (fI (fI (fI (fI (fI (fI (fI (fI (fI (fI (fI (fI (fI (fI (fI (fI (fI (aoX) aoY) aoZ) ao0) ao1) ao2) ao3) ao4) ao5) ao6) ao7) ao8) ao9) ao_) ao') apa) apb) apc) apd) ape) apf) apg) aph) api) apj) apk) apl) apm) apn) apo) apq) apr
theorem aa7:Tryz.checked.prog.funcNamed Rows.fnTenantRow.func=some 3:=by kernel_rfl
theorem apt:Func.isInstance Tryz.prog Tryz.f3 Rows.fnTenantRow.origin Rows.fnTenantRow.targs:=of_decide_eq_true (by kernel_rfl)
theorem apu:Func.isWrapper Tryz.prog Tryz.f3 Rows.fnTenantRow.wrapper Rows.fnTenantRow.mainSum:=by unfold Func.isWrapper;first | (rw [if_pos (by decide +kernel)];kernel_rfl) | (rw [if_neg (by decide +kernel)];exact⟨rfl,rfl⟩)
theorem apv:Rows.FnTenantSaid:=
 OpenClaim.holds_of_wide 3 Tryz.f3 rfl rfl rfl rfl rfl rfl rfl ⟨rfl,rfl,rfl,rfl,rfl⟩ rfl rfl rfl rfl rfl aa7 Tryz.func3 aps
  apt apu
  (fun os started H enc _=>aoT os started H enc)
theorem apw:([22].all fun u=> !Tryz.prog.wantsStandIn u)=true:=by kernel_rfl
theorem apx{P:Program}(h:P.funcs.any Func.goes=false)(c:OpenClaim)(hs:c.start=.entering):false=c.goesBy P:=by
 have key:∀g:Nat,((P.funcs[g]?).any Func.goes)=false:=by
  intro g
  cases aI:P.funcs[g]? with
  | none=>rfl
  | some fn=>rw [Array.any_eq_false'] at h;exact Bool.eq_false_iff.2 (h fn (Array.mem_of_getElem? aI))
 unfold OpenClaim.goesBy Program.goesAt Program.goesFrom;rw [hs]
 cases P.funcNamed c.func with
 | none=>rfl
 | some f=>
  have e:((P.closure f).any fun g=>(P.funcs[g]?).any Func.goes)=false:=by rw [List.any_eq_false];intro g _;rw [key g];simp
  show false=(((P.closure f).any fun g=>(P.funcs[g]?).any Func.goes)||(P.unfollowed f&&P.funcs.any Func.goes)||false);rw [e,h,Bool.and_false];rfl
theorem apy:Tryz.pinned.checked.prog.funcs.any Func.goes=false:=by kernel_rfl
theorem apz:false=Tryz.pinned.checked.prog.looks []:=by kernel_rfl
theorem apA:Tryz.pinned.checked.prog.mainIs=some (true, "b7f5cdb075d9496648b75f7ac51c923225f76e4c099563146fe66af0c8358e70".toList):=by kernel_rfl
theorem FnTenant_proved:Rows.FnTenantCardSaid:=
 Claim7.holds_tied_plain_at .later [] [.data,.pinned] true (true, "b7f5cdb075d9496648b75f7ac51c923225f76e4c099563146fe66af0c8358e70") false
  apv (fun _ h=>by cases h) (by kernel_rfl) (fun _ h=>by cases h) fnTenant_row_tie rfl ⟨rfl,rfl⟩ apA rfl
  (fun f fn hf zT=>by
   obtain rfl:f=3:=Option.some.inj (aa7.symm.trans hf) |>.symm
   obtain rfl:fn=Tryz.f3:=(Option.some.inj (Tryz.func3.symm.trans zT)).symm
   exact⟨apz,fun j t ht=>by
    rw [Tryz.params3] at ht;have hm:t∈[22]:=by simpa using Array.mem_of_getElem? ht
    exact(show Tryz.prog.wantsStandIn t=false by simpa using List.all_eq_true.1 apw t hm)⟩)
  (apx apy _ rfl)
#print axioms FnTenant_proved
end Go.Proofs.YtlkbjdmfbadhaaaGreatDoor
