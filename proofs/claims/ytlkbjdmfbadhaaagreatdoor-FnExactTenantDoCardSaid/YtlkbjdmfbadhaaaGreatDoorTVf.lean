/- The statement 'FnExactTenantDo' (its tied card) holds for every input: the program's TenantDo returns what the reference's returns, and shares no memory. Conditions: each theorem's own hypotheses. -/
import Derived.Test.YtlkbjdmfbadhaaaGreatDoorRows
import Derived.Test.YtlkbjdmfbadhaaaGreatDoorTie
import Derived.Test.YtlkbjdmfbadhaaaGreatDoorCards
import Derived.Lay
import Derived.LaidOnce
import Derived.SevenTiedAt
import Derived.Test.YtlkbjdmfbadhaaaGreatDoorTLmd
import Derived.Test.YtlkbjdmfbadhaaaGreatDoorTVb
import Derived.Test.YtlkbjdmfbadhaaaGreatDoorTVt
set_option linter.unusedVariables false
set_option linter.unusedSimpArgs false
namespace Go.Proofs.YtlkbjdmfbadhaaaGreatDoor
open Go.ChangeShapes Go.WideShapes Go.ChangeAt Go.RowKit
open Go.LM Go.LM.jH
theorem aog:ownKnob Tryz.prog.godebug=none:=by kernel_rfl
theorem aoh:laidOutB Tryz.prog=true:=by kernel_rfl
def QW:List (Nat×aa):=[(61,aM),(3,.int .i64),(3,.int .i64),(62,aN),(3,.int .i64)]
theorem aoi:uv Tryz.prog QW=true:=by kernel_rfl
theorem aoj:Tryz.f5.params.toList=QW.map (·.1):=by kernel_rfl
theorem aok:∀x:(bt.ins x'.ps).D,qt x'.ps x→∃y,x'.f x=some y∧La x'.rs (bt.dM x'.ps) y:=by
 intro x hx
 exact⟨(true,()),aol x.1 x.2.1 x.2.2.1 x.2.2.2.1 x.2.2.2.2.1 hx.1 hx.2.2.2.1,rfl⟩
set_option maxRecDepth 100000
theorem aom(w:World):laidMetH Tryz.prog Rows.fnExactTenantDoRow.laid w=laidMet Tryz.prog Rows.fnExactTenantDoRow.laid w:=MakeChecks.laidMetH_plain _ _ _ (by kernel_rfl)
theorem aon(os:Os):(World.holding Tryz.prog os ⟨#[],#[],[]⟩).layFits Tryz.prog Rows.fnExactTenantDoRow.laid []=true:=by kernel_rfl
theorem aoo(os:Os):(World.holding Tryz.prog os ⟨#[],#[],[]⟩).layIfaces Tryz.prog Rows.fnExactTenantDoRow.laid (World.laidAll Tryz.prog os Rows.fnExactTenantDoRow.laid)=true:=by kernel_rfl
theorem aop(os:Os):(World.laidAll Tryz.prog os Rows.fnExactTenantDoRow.laid).variablesZipB Tryz.prog=true:=by kernel_rfl
theorem aoq(os:Os):((World.laidAll Tryz.prog os Rows.fnExactTenantDoRow.laid).heap.toList.drop Tryz.prog.globals.size).take ((begin Tryz.prog (fun _ _=>0) default).world.heap.size-Tryz.prog.globals.size)=(begin Tryz.prog (fun _ _=>0) default).world.heap.toList.drop Tryz.prog.globals.size:=by kernel_rfl
theorem aor(os:Os)(started:os.Started)(H:Type)(enc:TypeId×Value→H) :
  ReturnsInHanded {} Tryz.checked os 5 .any (fun w args=>(Rows.fnExactTenantDoSpec.pre enc Tryz.prog Tryz.f5 [] false w args∧laidMetH Tryz.prog Rows.fnExactTenantDoRow.laid w)∧sizedMet enc Tryz.prog Tryz.f5 (OpenSpec.ofChange Rows.fnExactTenantDoSpec) false w args)
   (Rows.fnExactTenantDoSpec.post enc Tryz.prog Tryz.f5 false true false false):=by
 refine returnsInHanded_of_change_and (C:=Tryz.checked) (X:=fun w _=>laidMetH Tryz.prog Rows.fnExactTenantDoRow.laid w) (fun _ _ _ hh h=>h.of_heap hh) aog started (by kernel_rfl) Tryz.func5
  (ChangeSpec.witness_shaped (enc:=enc) (C:=Tryz.checked) (os:=os) (X:=fun w _=>laidMetH Tryz.prog Rows.fnExactTenantDoRow.laid w) false (World.laidAll Tryz.prog os Rows.fnExactTenantDoRow.laid) #[.agg #[.int .i64 0,.slice none 0 0,.int .i64 0,.slice none 0 0,.slice none 0 0],.int .i64 0,.int .i64 0,.agg #[.int .i64 0,.string ⟨#[]⟩,.string ⟨#[]⟩,.int .i64 0,.int .i64 0,.string ⟨#[]⟩],.int .i64 0] 30 (World.laidAll_os _ _ _)
   (World.shaped_of_ZipB (aop os) (aoq os)) (by kernel_rfl) (by kernel_rfl) (by kernel_rfl)
   (by rw [aom];exact laidMet_laidAll _ (aon os) (aoo os))) ?_
 intro W base args ds gs before aos aa1 _ _ C5 _
 have ua:∀(j:Nat) t v,Tryz.f5.params[j]?=some t→args[j]?=some v→Value.okWide Tryz.prog W .any base t v:=aos
 have aot:=aa1
 obtain ⟨p,q,Kx,aou,rfl,hfz,hT⟩:=aa1
 have hA:DataW.TrodAll enc Tryz.prog W 0 (fun _=>true) true Tryz.f5.params.toList args.toList ds p:=Kx
 obtain ⟨rfl,rfl⟩:=trodVars_none aou
 refine(ae0 (prs:=QW) ak3 rfl aoj aoi aoh aok ua hA).mono fun e W' ⟨he,AU,hst⟩=>?_
 subst he
 have o1:=hA
 rw [Tryz.params5] at o1
 obtain ⟨v0,BQ,d0,arA,jA,Cz,Su,rfl,arB,h0,Cc⟩:=trodAll_cons o1
 obtain ⟨v1,vs1,d1,arC,dQ,cP,SS,rfl,rW,h1,bw⟩:=trodAll_cons Cc
 obtain ⟨v2,vs2,d2,arD,e5,dU,hv2,rfl,jF,h2,b9⟩:=trodAll_cons bw
 obtain ⟨v3,vs3,d3,arE,fA,gJ,arF,rfl,o_,h3,gd⟩:=trodAll_cons b9
 obtain ⟨v4,arG,d4,arH,jf,hP,arI,rfl,arJ,h4,aov⟩:=trodAll_cons gd
 obtain ⟨Cs,rfl,arK⟩:=trodAll_nil aov
 exact⟨_,rfl,_,_,_,[],_,[],aot,trodAll_mk1 (shut_bool Tryz.underlying4 _),hst,rfl,AU.frame _,fun h=>by cases h⟩
theorem fg{a b:Bool}(h:a=true)(k:b=true):(a&&b)=true:=by rw [h,k];rfl
theorem aow:(Rows.fnExactTenantDoRow.wf (OpenSpec.ofChange Rows.fnExactTenantDoSpec))=true:=by kernel_rfl
theorem aox:(laidOutB Tryz.prog)=true:=by kernel_rfl
theorem aoy:(mapsRowed Tryz.prog)=true:=by kernel_rfl
theorem aoz:(Tryz.f5.params.all (Tryz.prog.readableRec ·))=true:=by kernel_rfl
theorem aoA:(namedTie Tryz.prog Rows.fnExactTenantDoRow.named Rows.fnExactTenantDoSpec.vars)=true:=by kernel_rfl
theorem aoB:((Rows.fnExactTenantDoRow.stops==[]))=true:=by kernel_rfl
theorem aoC:((Tryz.prog.stops==[]))=true:=by kernel_rfl
theorem aoD:((Rows.fnExactTenantDoRow.knobs==[]))=true:=by kernel_rfl
theorem aoE:((Tryz.prog.stopKnobs==[]))=true:=by kernel_rfl
theorem aoF:((Rows.fnExactTenantDoRow.inPlace==Tryz.prog.inPlace 5))=true:=by kernel_rfl
theorem aoG:((Rows.fnExactTenantDoRow.unfollowed==Tryz.prog.unfollowed 5))=true:=by kernel_rfl
theorem aoH:((Rows.fnExactTenantDoRow.recurses==Tryz.prog.recurses 5))=true:=by kernel_rfl
theorem aoI:((Rows.fnExactTenantDoRow.named==Tryz.prog.varsNamed 5))=true:=by kernel_rfl
theorem aoJ:((Rows.fnExactTenantDoRow.maps ==(Tryz.f5.params.toList++Rows.fnExactTenantDoSpec.plain.varTypes Tryz.prog).any (Tryz.prog.mapsRec ·)))=true:=by kernel_rfl
theorem aoK:((Rows.fnExactTenantDoRow.ifaces ==(Tryz.f5.params.toList++Rows.fnExactTenantDoSpec.plain.varTypes Tryz.prog).any (Tryz.prog.ifacesRec ·)))=true:=by kernel_rfl
theorem aoL:((Rows.fnExactTenantDoRow.mapsOut==Tryz.prog.mapsAmong Tryz.f5.resultTypes.toList))=true:=by kernel_rfl
theorem aoM:((Rows.fnExactTenantDoRow.loops ==(Tryz.f5.params.toList++Rows.fnExactTenantDoSpec.plain.varTypes Tryz.prog).any (Tryz.prog.loopsFrom ·)))=true:=by kernel_rfl
theorem aoN:((Rows.fnExactTenantDoRow.wideKeys ==(Tryz.f5.params.toList++Rows.fnExactTenantDoSpec.plain.varTypes Tryz.prog++Tryz.f5.resultTypes.toList).any (Tryz.prog.wideKeysFrom ·)))=true:=by kernel_rfl
theorem aoO:(Rows.fnExactTenantDoSpec.vars.all (Tryz.prog.varReadable ·))=true:=by kernel_rfl
theorem aoP:(Tryz.f5.resultTypes.all (fun t=>Tryz.prog.readableRec t&&decide (t<Tryz.prog.types.size)))=true:=by kernel_rfl
theorem aoQ:((Rows.fnExactTenantDoRow.ifacesOut==Tryz.f5.resultTypes.toList.any (Tryz.prog.ifacesRec ·)))=true:=by kernel_rfl
theorem aoR:((Rows.fnExactTenantDoRow.loopsOut==Tryz.f5.resultTypes.toList.any (Tryz.prog.loopsFrom ·)))=true:=by kernel_rfl
theorem aoS:((Rows.fnExactTenantDoRow.plainKeys==Tryz.prog.plainKeys))=true:=by kernel_rfl
theorem aoT:(Rows.fnExactTenantDoRow.shortTexts.isNone)=true:=by kernel_rfl
theorem aoU:(Tryz.prog.stopsHeard)=true:=by kernel_rfl
theorem aoV:(Tryz.prog.mayEnter)=true:=by kernel_rfl
theorem aoW:((Rows.fnExactTenantDoRow.lifted==Tryz.prog.liftsFinal))=true:=by kernel_rfl
theorem aoX:((Tryz.prog.make==some Rows.fnExactTenantDoRow.make))=true:=by kernel_rfl
theorem aoY:((Rows.fnExactTenantDoRow.kinds ==(if Rows.fnExactTenantDoRow.domain.isEmpty then [] else Tryz.f5.params.toList.map fun t=>match Tryz.prog.underlying t with | some (.int k)=>some k | _=>none)))=true:=by kernel_rfl
theorem aoZ:((Rows.fnExactTenantDoRow.pinned==Rows.fnExactTenantDoRow.pinnedBy))=true:=by kernel_rfl
theorem ao0:((Rows.fnExactTenantDoRow.veiled ==(Tryz.f5.params.toList++Rows.fnExactTenantDoSpec.plain.varTypes Tryz.prog++Tryz.f5.resultTypes.toList).any (Tryz.prog.veiledRec ·)))=true:=by kernel_rfl
theorem ao1:(Rows.fnExactTenantDoRow.veiledFits Tryz.prog Tryz.f5.params.toList (Tryz.f5.params.toList++Rows.fnExactTenantDoSpec.plain.varTypes Tryz.prog++Tryz.f5.resultTypes.toList))=true:=by kernel_rfl
theorem ao2:joinedFacts Tryz.prog 5 Tryz.f5 Rows.fnExactTenantDoSpec Rows.fnExactTenantDoRow=true:=by
 unfold joinedFacts
 exact fg (fg (fg (fg (fg (fg (fg (fg (fg (fg (fg (fg (fg (fg (fg (fg (fg (fg (fg (fg (fg (fg (fg (fg (fg (fg (fg (fg (fg (fg (fg (aow) aox) aoy) aoz) aoA) aoB) aoC) aoD) aoE) aoF) aoG) aoH) aoI) aoJ) aoK) aoL) aoM) aoN) aoO) aoP) aoQ) aoR) aoS) aoT) aoU) aoV) aoW) aoX) aoY) aoZ) ao0) ao1
theorem aa2:Tryz.checked.prog.funcNamed Rows.fnExactTenantDoRow.func=some 5:=by kernel_rfl
theorem ao3:Func.isInstance Tryz.prog Tryz.f5 Rows.fnExactTenantDoRow.origin Rows.fnExactTenantDoRow.targs:=of_decide_eq_true (by kernel_rfl)
theorem ao4:Func.isWrapper Tryz.prog Tryz.f5 Rows.fnExactTenantDoRow.wrapper Rows.fnExactTenantDoRow.mainSum:=by
 unfold Func.isWrapper;first | (rw [if_pos (by decide +kernel)];kernel_rfl) | (rw [if_neg (by decide +kernel)];exact⟨rfl,rfl⟩)
theorem ao5:Rows.FnExactTenantDoSaid :=
 OpenClaim.holds_of_wide 5 Tryz.f5 rfl rfl rfl rfl rfl rfl rfl ⟨rfl,rfl,rfl,rfl,rfl⟩ rfl rfl rfl rfl rfl aa2 Tryz.func5 ao2
  ao3 ao4
  (fun os started H enc _=>aor os started H enc)
theorem ao6:([61,3,3,62,3].all fun u => !Tryz.prog.wantsStandIn u)=true:=by kernel_rfl
theorem ao7{P:Program}(h:P.funcs.any Func.goes=false)(c:OpenClaim)(hs:c.start=.entering):false=c.goesBy P:=by
 have key:∀g:Nat,((P.funcs[g]?).any Func.goes)=false:=by
  intro g
  cases aD:P.funcs[g]? with
  | none=>rfl
  | some fn =>
   rw [Array.any_eq_false'] at h
   exact Bool.eq_false_iff.2 (h fn (Array.mem_of_getElem? aD))
 unfold OpenClaim.goesBy Program.goesAt Program.goesFrom
 rw [hs]
 cases P.funcNamed c.func with
 | none=>rfl
 | some f =>
  have e:((P.closure f).any fun g=>(P.funcs[g]?).any Func.goes)=false:=by
   rw [List.any_eq_false];intro g _;rw [key g];simp
  show false=(((P.closure f).any fun g=>(P.funcs[g]?).any Func.goes)||(P.unfollowed f&&P.funcs.any Func.goes)||false)
  rw [e,h,Bool.and_false];rfl
theorem ao8:Tryz.pinned.checked.prog.funcs.any Func.goes=false:=by kernel_rfl
theorem ao9:false=Tryz.pinned.checked.prog.looks []:=by kernel_rfl
theorem ao_:Tryz.pinned.checked.prog.mainIs=some (true, "b7f5cdb075d9496648b75f7ac51c923225f76e4c099563146fe66af0c8358e70".toList):=by kernel_rfl
theorem FnExactTenantDo_proved:Rows.FnExactTenantDoCardSaid :=
 Claim7.holds_tied_plain_at .later [] [.data,.pinned] true (true, "b7f5cdb075d9496648b75f7ac51c923225f76e4c099563146fe66af0c8358e70") false
  ao5 (fun _ h=>by cases h) (by kernel_rfl) (fun _ h=>by cases h) fnExactTenantDo_row_tie rfl ⟨rfl,rfl⟩ ao_ rfl
  (fun f fn hf zg=>by
   obtain rfl:f=5:=Option.some.inj (aa2.symm.trans hf) |>.symm
   obtain rfl:fn=Tryz.f5:=(Option.some.inj (Tryz.func5.symm.trans zg)).symm
   exact⟨ao9,fun j t ht=>by
    rw [Tryz.params5] at ht
    have hm:t∈[61,3,3,62,3]:=by simpa using Array.mem_of_getElem? ht
    exact(show Tryz.prog.wantsStandIn t=false by simpa using List.all_eq_true.1 ao6 t hm)⟩)
  (ao7 ao8 _ rfl)
#print axioms FnExactTenantDo_proved
end Go.Proofs.YtlkbjdmfbadhaaaGreatDoor
