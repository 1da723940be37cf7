/- The statement 'FnExactFoldTenant' (its tied card) holds for every input: the program's FoldTenant returns what the reference's returns, and shares no memory. Conditions: each theorem's own hypotheses. -/
import Derived.Test.YtlkbjdmfbadhaaaGreatDoorRows
import Derived.Test.YtlkbjdmfbadhaaaGreatDoorTie
import Derived.Test.YtlkbjdmfbadhaaaGreatDoorCards
import Derived.Lay
import Derived.LaidOnce
import Derived.SevenTiedAt
import Derived.Test.YtlkbjdmfbadhaaaGreatDoorOLmd
import Derived.Test.YtlkbjdmfbadhaaaGreatDoorOVb
import Derived.Test.YtlkbjdmfbadhaaaGreatDoorOVt
set_option linter.unusedVariables false
set_option linter.unusedSimpArgs false
namespace Go.Proofs.YtlkbjdmfbadhaaaGreatDoor
open Go.ChangeShapes Go.WideShapes Go.ChangeAt Go.RowKit
open Go.LM Go.LM.ks
theorem aq1:ownKnob Tryz.prog.godebug=none:=by kernel_rfl
theorem aq2:laidOutB Tryz.prog=true:=by kernel_rfl
def Tq:List (Nat×ad):=[(43,.sl an),(3,.int .i64),(3,.int .i64)]
theorem aq3:v_ Tryz.prog Tq=true:=by kernel_rfl
theorem aq4:Tryz.f7.params.toList=Tq.map (·.1):=by kernel_rfl
theorem aq5:∀x:(bE.ins zS.ps).D,rO zS.ps x→∃y,zS.f x=some y∧NI zS.rs (bE.en zS.ps) y:=by intro x hx;exact⟨(true,()),aq6 x.1 x.2.1 x.2.2.1 hx.1,rfl⟩
set_option maxRecDepth 100000
theorem aq7(w:World):laidMetH Tryz.prog Rows.fnExactFoldTenantRow.laid w=laidMet Tryz.prog Rows.fnExactFoldTenantRow.laid w:=MakeChecks.laidMetH_plain _ _ _ (by kernel_rfl)
theorem aq8(os:Os):(World.holding Tryz.prog os ⟨#[],#[],[]⟩).layFits Tryz.prog Rows.fnExactFoldTenantRow.laid []=true:=by kernel_rfl
theorem aq9(os:Os):(World.holding Tryz.prog os ⟨#[],#[],[]⟩).layIfaces Tryz.prog Rows.fnExactFoldTenantRow.laid (World.laidAll Tryz.prog os Rows.fnExactFoldTenantRow.laid)=true:=by kernel_rfl
theorem aq_(os:Os):(World.laidAll Tryz.prog os Rows.fnExactFoldTenantRow.laid).variablesZipB Tryz.prog=true:=by kernel_rfl
theorem aq'(os:Os):((World.laidAll Tryz.prog os Rows.fnExactFoldTenantRow.laid).heap.toList.drop Tryz.prog.globals.size).take ((begin Tryz.prog (fun _ _=>0) default).world.heap.size-Tryz.prog.globals.size)=(begin Tryz.prog (fun _ _=>0) default).world.heap.toList.drop Tryz.prog.globals.size:=by kernel_rfl
theorem ara(os:Os)(started:os.Started)(H:Type)(enc:TypeId×Value→H):
  ReturnsInHanded {} Tryz.checked os 7 .any (fun w args=>(Rows.fnExactFoldTenantSpec.pre enc Tryz.prog Tryz.f7 [] false w args∧laidMetH Tryz.prog Rows.fnExactFoldTenantRow.laid w)∧sizedMet enc Tryz.prog Tryz.f7 (OpenSpec.ofChange Rows.fnExactFoldTenantSpec) false w args)
   (Rows.fnExactFoldTenantSpec.post enc Tryz.prog Tryz.f7 false true false false):=by
 refine returnsInHanded_of_change_and (C:=Tryz.checked) (X:=fun w _=>laidMetH Tryz.prog Rows.fnExactFoldTenantRow.laid w) (fun _ _ _ hh h=>h.of_heap hh) aq1 started (by kernel_rfl) Tryz.func7
  (ChangeSpec.witness_shaped (enc:=enc) (C:=Tryz.checked) (os:=os) (X:=fun w _=>laidMetH Tryz.prog Rows.fnExactFoldTenantRow.laid w) false (World.laidAll Tryz.prog os Rows.fnExactFoldTenantRow.laid) #[.slice none 0 0,.int .i64 0,.int .i64 0] 30 (World.laidAll_os _ _ _)
   (World.shaped_of_ZipB (aq_ os) (aq' os)) (by kernel_rfl) (by kernel_rfl) (by kernel_rfl)
   (by rw[aq7];exact laidMet_laidAll _ (aq8 os) (aq9 os))) ?_
 intro W base args ds gs before arb aeh _ _ v' _;have vL:∀(j:Nat) t v,Tryz.f7.params[j]?=some t→args[j]?=some v→Value.okWide Tryz.prog W .any base t v:=arb
 have arc:=aeh;obtain⟨p,q,M0,ard,rfl,hfz,iM⟩:=aeh;have hA:DataW.TrodAll enc Tryz.prog W 0 (fun _=>true) true Tryz.f7.params.toList args.toList ds p:=M0;obtain⟨rfl,rfl⟩:=trodVars_none ard;refine(aiM (prs:=Tq) ann rfl aq4 aq3 aq2 aq5 vL hA).mono fun e W' ⟨he,CM,hst⟩=>?_
 subst he;have qk:=hA;rw[Tryz.params7]at qk;obtain⟨v0,Eg,d0,avg,kl,E2,Vn,rfl,avh,h0,EE⟩:=trodAll_cons qk;obtain⟨v1,vs1,d1,avi,eD,c2,VL,rfl,tI,h1,bF⟩:=trodAll_cons EE;obtain⟨v2,vs2,d2,avj,fb,eb,hv2,rfl,nm,h2,cq⟩:=trodAll_cons bF;obtain⟨EV,rfl,avk⟩:=trodAll_nil cq;exact⟨_,rfl,_,_,_,[],_,[],arc,trodAll_mk1 (shut_bool Tryz.underlying4 _),hst,rfl,CM.frame _,fun h=>by cases h⟩
theorem fU{a b:Bool}(h:a=true)(k:b=true):(a&&b)=true:=by rw[h,k];rfl
theorem are:(Rows.fnExactFoldTenantRow.wf (OpenSpec.ofChange Rows.fnExactFoldTenantSpec))=true:=by kernel_rfl
theorem arf:(laidOutB Tryz.prog)=true:=by kernel_rfl
theorem arh:(mapsRowed Tryz.prog)=true:=by kernel_rfl
theorem ari:(Tryz.f7.params.all (Tryz.prog.readableRec ·))=true:=by kernel_rfl
theorem arj:(namedTie Tryz.prog Rows.fnExactFoldTenantRow.named Rows.fnExactFoldTenantSpec.vars)=true:=by kernel_rfl
theorem ark:((Rows.fnExactFoldTenantRow.stops==[]))=true:=by kernel_rfl
theorem arl:((Tryz.prog.stops==[]))=true:=by kernel_rfl
theorem arn:((Rows.fnExactFoldTenantRow.knobs==[]))=true:=by kernel_rfl
theorem aro:((Tryz.prog.stopKnobs==[]))=true:=by kernel_rfl
theorem arp:((Rows.fnExactFoldTenantRow.inPlace==Tryz.prog.inPlace 7))=true:=by kernel_rfl
theorem arq:((Rows.fnExactFoldTenantRow.unfollowed==Tryz.prog.unfollowed 7))=true:=by kernel_rfl
theorem ars:((Rows.fnExactFoldTenantRow.recurses==Tryz.prog.recurses 7))=true:=by kernel_rfl
theorem art:((Rows.fnExactFoldTenantRow.named==Tryz.prog.varsNamed 7))=true:=by kernel_rfl
theorem aru:((Rows.fnExactFoldTenantRow.maps ==(Tryz.f7.params.toList++Rows.fnExactFoldTenantSpec.plain.varTypes Tryz.prog).any (Tryz.prog.mapsRec ·)))=true:=by kernel_rfl
theorem arv:((Rows.fnExactFoldTenantRow.ifaces ==(Tryz.f7.params.toList++Rows.fnExactFoldTenantSpec.plain.varTypes Tryz.prog).any (Tryz.prog.ifacesRec ·)))=true:=by kernel_rfl
theorem arw:((Rows.fnExactFoldTenantRow.mapsOut==Tryz.prog.mapsAmong Tryz.f7.resultTypes.toList))=true:=by kernel_rfl
theorem arx:((Rows.fnExactFoldTenantRow.loops ==(Tryz.f7.params.toList++Rows.fnExactFoldTenantSpec.plain.varTypes Tryz.prog).any (Tryz.prog.loopsFrom ·)))=true:=by kernel_rfl
theorem ary:((Rows.fnExactFoldTenantRow.wideKeys ==(Tryz.f7.params.toList++Rows.fnExactFoldTenantSpec.plain.varTypes Tryz.prog++Tryz.f7.resultTypes.toList).any (Tryz.prog.wideKeysFrom ·)))=true:=by kernel_rfl
theorem arz:(Rows.fnExactFoldTenantSpec.vars.all (Tryz.prog.varReadable ·))=true:=by kernel_rfl
theorem arA:(Tryz.f7.resultTypes.all (fun t=>Tryz.prog.readableRec t&&decide (t<Tryz.prog.types.size)))=true:=by kernel_rfl
theorem arB:((Rows.fnExactFoldTenantRow.ifacesOut==Tryz.f7.resultTypes.toList.any (Tryz.prog.ifacesRec ·)))=true:=by kernel_rfl
theorem arC:((Rows.fnExactFoldTenantRow.loopsOut==Tryz.f7.resultTypes.toList.any (Tryz.prog.loopsFrom ·)))=true:=by kernel_rfl
theorem arD:((Rows.fnExactFoldTenantRow.plainKeys==Tryz.prog.plainKeys))=true:=by kernel_rfl
theorem arE:(Rows.fnExactFoldTenantRow.shortTexts.isNone)=true:=by kernel_rfl
theorem arF:(Tryz.prog.stopsHeard)=true:=by kernel_rfl
theorem arG:(Tryz.prog.mayEnter)=true:=by kernel_rfl
theorem arH:((Rows.fnExactFoldTenantRow.lifted==Tryz.prog.liftsFinal))=true:=by kernel_rfl
theorem arI:((Tryz.prog.make==some Rows.fnExactFoldTenantRow.make))=true:=by kernel_rfl
theorem arJ:((Rows.fnExactFoldTenantRow.kinds ==(if Rows.fnExactFoldTenantRow.domain.isEmpty then [] else Tryz.f7.params.toList.map fun t=>match Tryz.prog.underlying t with|some (.int k)=>some k|_=>none)))=true:=by kernel_rfl
theorem arK:((Rows.fnExactFoldTenantRow.pinned==Rows.fnExactFoldTenantRow.pinnedBy))=true:=by kernel_rfl
theorem arL:((Rows.fnExactFoldTenantRow.veiled ==(Tryz.f7.params.toList++Rows.fnExactFoldTenantSpec.plain.varTypes Tryz.prog++Tryz.f7.resultTypes.toList).any (Tryz.prog.veiledRec ·)))=true:=by kernel_rfl
theorem arM:(Rows.fnExactFoldTenantRow.veiledFits Tryz.prog Tryz.f7.params.toList (Tryz.f7.params.toList++Rows.fnExactFoldTenantSpec.plain.varTypes Tryz.prog++Tryz.f7.resultTypes.toList))=true:=by kernel_rfl
theorem arN:joinedFacts Tryz.prog 7 Tryz.f7 Rows.fnExactFoldTenantSpec Rows.fnExactFoldTenantRow=true:=by unfold joinedFacts;exact fU (fU (fU (fU (fU (fU (fU (fU (fU (fU (fU (fU (fU (fU (fU (fU (fU (fU (fU (fU (fU (fU (fU (fU (fU (fU (fU (fU (fU (fU (fU (are) arf) arh) ari) arj) ark) arl) arn) aro) arp) arq) ars) art) aru) arv) arw) arx) ary) arz) arA) arB) arC) arD) arE) arF) arG) arH) arI) arJ) arK) arL) arM
theorem aei:Tryz.checked.prog.funcNamed Rows.fnExactFoldTenantRow.func=some 7:=by kernel_rfl
theorem arO:Func.isInstance Tryz.prog Tryz.f7 Rows.fnExactFoldTenantRow.origin Rows.fnExactFoldTenantRow.targs:=of_decide_eq_true (by kernel_rfl)
theorem arP:Func.isWrapper Tryz.prog Tryz.f7 Rows.fnExactFoldTenantRow.wrapper Rows.fnExactFoldTenantRow.mainSum:=by unfold Func.isWrapper;first|(rw[if_pos (by decide +kernel)];kernel_rfl)|(rw[if_neg (by decide +kernel)];exact⟨rfl,rfl⟩)
theorem arQ:Rows.FnExactFoldTenantSaid:=
 OpenClaim.holds_of_wide 7 Tryz.f7 rfl rfl rfl rfl rfl rfl rfl ⟨rfl,rfl,rfl,rfl,rfl⟩ rfl rfl rfl rfl rfl aei Tryz.func7 arN
  arO arP
  (fun os started H enc _=>ara os started H enc)
theorem arR:([43,3,3].all fun u=> !Tryz.prog.wantsStandIn u)=true:=by kernel_rfl
theorem arS{P:Program}(h:P.funcs.any Func.goes=false)(c:OpenClaim)(hs:c.start=.entering):false=c.goesBy P:=by
 have key:∀g:Nat,((P.funcs[g]?).any Func.goes)=false:=by
  intro g
  cases aB:P.funcs[g]? with
  |none=>rfl
  |some fn=>rw[Array.any_eq_false']at h;exact Bool.eq_false_iff.2 (h fn (Array.mem_of_getElem? aB))
 unfold OpenClaim.goesBy Program.goesAt Program.goesFrom;rw[hs]
 cases P.funcNamed c.func with
 |none=>rfl
 |some f=>
  have e:((P.closure f).any fun g=>(P.funcs[g]?).any Func.goes)=false:=by rw[List.any_eq_false];intro g _;rw[key g];simp
  show false=(((P.closure f).any fun g=>(P.funcs[g]?).any Func.goes)||(P.unfollowed f&&P.funcs.any Func.goes)||false);rw[e,h,Bool.and_false];rfl
theorem arT:Tryz.pinned.checked.prog.funcs.any Func.goes=false:=by kernel_rfl
theorem arU:false=Tryz.pinned.checked.prog.looks []:=by kernel_rfl
theorem arV:Tryz.pinned.checked.prog.mainIs=some (true, "b7f5cdb075d9496648b75f7ac51c923225f76e4c099563146fe66af0c8358e70".toList):=by kernel_rfl
theorem FnExactFoldTenant_proved:Rows.FnExactFoldTenantCardSaid:=
 Claim7.holds_tied_plain_at .later [] [.data,.pinned] true (true, "b7f5cdb075d9496648b75f7ac51c923225f76e4c099563146fe66af0c8358e70") false
  arQ (fun _ h=>by cases h) (by kernel_rfl) (fun _ h=>by cases h) fnExactFoldTenant_row_tie rfl ⟨rfl,rfl⟩ arV rfl
  (fun f fn hf A'=>by
   obtain rfl:f=7:=Option.some.inj (aei.symm.trans hf) |>.symm
   obtain rfl:fn=Tryz.f7:=(Option.some.inj (Tryz.func7.symm.trans A')).symm
   exact⟨arU,fun j t ht=>by
    rw[Tryz.params7]at ht;have hm:t∈[43,3,3]:=by simpa using Array.mem_of_getElem? ht
    exact(show Tryz.prog.wantsStandIn t=false by simpa using List.all_eq_true.1 arR t hm)⟩)
  (arS arT _ rfl)
#print axioms FnExactFoldTenant_proved
end Go.Proofs.YtlkbjdmfbadhaaaGreatDoor
