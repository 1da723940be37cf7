/- The statement 'FnExactVolDo' (its tied card) holds for every input: the program's VolDo returns what the reference's returns, and shares no memory. Conditions: each theorem's own hypotheses. -/
import Derived.Test.YtklmgcjamifmaaaGreatDoorRows
import Derived.Test.YtklmgcjamifmaaaGreatDoorTie
import Derived.Test.YtklmgcjamifmaaaGreatDoorCards
import Derived.Lay
import Derived.LaidOnce
import Derived.SevenTiedAt
import Derived.Test.YtklmgcjamifmaaaGreatDoorELmd
import Derived.Test.YtklmgcjamifmaaaGreatDoorEVb
import Derived.Test.YtklmgcjamifmaaaGreatDoorEVe
set_option linter.unusedVariables false
set_option linter.unusedSimpArgs false
namespace Go.Proofs.YtklmgcjamifmaaaGreatDoor
open Go.ChangeShapes Go.WideShapes Go.ChangeAt Go.RowKit
open Go.LM Go.LM.Vg
theorem fnExactVolDo_own:ownKnob Tryz.prog.godebug=none:=by kernel_rfl
theorem fnExactVolDo_laid:laidOutB Tryz.prog=true:=by kernel_rfl
def fnExactVolDo_as:List (Nat×Ty):=[(63,tVol),(64,tCred),(65,tCall)]
theorem fnExactVolDo_asOk:asOk Tryz.prog fnExactVolDo_as=true:=by kernel_rfl
theorem fnExactVolDo_params:Tryz.f8.params.toList=fnExactVolDo_as.map (·.1):=by kernel_rfl
theorem fnExactVolDo_law:∀x:(PSpec.ins e_laws_FnExactVolDo.ps).D,WfE e_laws_FnExactVolDo.ps x→∃y,e_laws_FnExactVolDo.f x=some y∧IsTrue e_laws_FnExactVolDo.rs (PSpec.muts e_laws_FnExactVolDo.ps) y:=by
 intro x hx
 exact⟨(true,()),VolDo_law x.1 x.2.1 x.2.2.1 hx.1 hx.2.1 hx.2.2.1,rfl⟩
set_option maxRecDepth 100000
theorem fnExactVolDo_plain(w:World):laidMetH Tryz.prog Rows.fnExactVolDoRow.laid w=laidMet Tryz.prog Rows.fnExactVolDoRow.laid w:=MakeChecks.laidMetH_plain _ _ _ (by kernel_rfl)
theorem fnExactVolDo_fits(os:Os):(World.holding Tryz.prog os ⟨#[],#[],[]⟩).layFits Tryz.prog Rows.fnExactVolDoRow.laid []=true:=by kernel_rfl
theorem fnExactVolDo_ifaces(os:Os):(World.holding Tryz.prog os ⟨#[],#[],[]⟩).layIfaces Tryz.prog Rows.fnExactVolDoRow.laid (World.laidAll Tryz.prog os Rows.fnExactVolDoRow.laid)=true:=by kernel_rfl
theorem fnExactVolDo_zip(os:Os):(World.laidAll Tryz.prog os Rows.fnExactVolDoRow.laid).variablesZipB Tryz.prog=true:=by kernel_rfl
theorem fnExactVolDo_start(os:Os):((World.laidAll Tryz.prog os Rows.fnExactVolDoRow.laid).heap.toList.drop Tryz.prog.globals.size).take ((begin Tryz.prog (fun _ _=>0) default).world.heap.size-Tryz.prog.globals.size)=(begin Tryz.prog (fun _ _=>0) default).world.heap.toList.drop Tryz.prog.globals.size:=by kernel_rfl
theorem fnExactVolDo_lifted(os:Os)(started:os.Started)(H:Type)(enc:TypeId×Value→H) :
  ReturnsInHanded {} Tryz.checked os 8 .any (fun w args=>(Rows.fnExactVolDoSpec.pre enc Tryz.prog Tryz.f8 [] false w args∧laidMetH Tryz.prog Rows.fnExactVolDoRow.laid w)∧sizedMet enc Tryz.prog Tryz.f8 (OpenSpec.ofChange Rows.fnExactVolDoSpec) false w args)
   (Rows.fnExactVolDoSpec.post enc Tryz.prog Tryz.f8 false true false false):=by
 refine returnsInHanded_of_change_and (C:=Tryz.checked) (X:=fun w _=>laidMetH Tryz.prog Rows.fnExactVolDoRow.laid w) (fun _ _ _ hh h=>h.of_heap hh) fnExactVolDo_own started (by kernel_rfl) Tryz.func8
  (ChangeSpec.witness_shaped (enc:=enc) (C:=Tryz.checked) (os:=os) (X:=fun w _=>laidMetH Tryz.prog Rows.fnExactVolDoRow.laid w) false (World.laidAll Tryz.prog os Rows.fnExactVolDoRow.laid) #[.agg #[.int .i64 0,.slice none 0 0],.agg #[.int .i64 0,.int .i64 0,.slice none 0 0],.agg #[.int .i64 0,.string ⟨#[]⟩,.string ⟨#[]⟩,.int .i64 0,.int .i64 0,.string ⟨#[]⟩]] 30 (World.laidAll_os _ _ _)
   (World.shaped_of_ZipB (fnExactVolDo_zip os) (fnExactVolDo_start os)) (by kernel_rfl) (by kernel_rfl) (by kernel_rfl)
   (by rw [fnExactVolDo_plain];exact laidMet_laidAll _ (fnExactVolDo_fits os) (fnExactVolDo_ifaces os))) ?_
 intro W base args ds gs before hval0 hW _ _ hL _
 have hval:∀(j:Nat) t v,Tryz.f8.params[j]?=some t→args[j]?=some v→Value.okWide Tryz.prog W .any base t v:=hval0
 have hW':=hW
 obtain ⟨p,q,hA0,hV,rfl,hfz,hnd⟩:=hW
 have hA:DataW.TrodAll enc Tryz.prog W 0 (fun _=>true) true Tryz.f8.params.toList args.toList ds p:=hA0
 obtain ⟨rfl,rfl⟩:=trodVars_none hV
 refine(law_main (prs:=fnExactVolDo_as) s_laws_FnExactVolDo rfl fnExactVolDo_params fnExactVolDo_asOk fnExactVolDo_laid fnExactVolDo_law hval hA).mono fun e W' ⟨he,bel,hst⟩=>?_
 subst he
 have hA':=hA
 rw [Tryz.params8] at hA'
 obtain ⟨v0,vs0,d0,ds0,p0,q0,hv0,rfl,hp0,h0,r0⟩:=trodAll_cons hA'
 obtain ⟨v1,vs1,d1,ds1,p1,q1,hv1,rfl,hp1,h1,r1⟩:=trodAll_cons r0
 obtain ⟨v2,vs2,d2,ds2,p2,q2,hv2,rfl,hp2,h2,r2⟩:=trodAll_cons r1
 obtain ⟨hn1,rfl,hn3⟩:=trodAll_nil r2
 exact⟨_,rfl,_,_,_,[],_,[],hW',trodAll_mk1 (shut_bool Tryz.underlying4 _),hst,rfl,bel.frame _,fun h=>by cases h⟩
theorem fnExactVolDo_band{a b:Bool}(h:a=true)(k:b=true):(a&&b)=true:=by rw [h,k];rfl
theorem fnExactVolDo_g0:(Rows.fnExactVolDoRow.wf (OpenSpec.ofChange Rows.fnExactVolDoSpec))=true:=by kernel_rfl
theorem fnExactVolDo_g1:(laidOutB Tryz.prog)=true:=by kernel_rfl
theorem fnExactVolDo_g2:(mapsRowed Tryz.prog)=true:=by kernel_rfl
theorem fnExactVolDo_g3:(Tryz.f8.params.all (Tryz.prog.readableRec ·))=true:=by kernel_rfl
theorem fnExactVolDo_g4:(namedTie Tryz.prog Rows.fnExactVolDoRow.named Rows.fnExactVolDoSpec.vars)=true:=by kernel_rfl
theorem fnExactVolDo_g5:((Rows.fnExactVolDoRow.stops==[]))=true:=by kernel_rfl
theorem fnExactVolDo_g6:((Tryz.prog.stops==[]))=true:=by kernel_rfl
theorem fnExactVolDo_g7:((Rows.fnExactVolDoRow.knobs==[]))=true:=by kernel_rfl
theorem fnExactVolDo_g8:((Tryz.prog.stopKnobs==[]))=true:=by kernel_rfl
theorem fnExactVolDo_g9:((Rows.fnExactVolDoRow.inPlace==Tryz.prog.inPlace 8))=true:=by kernel_rfl
theorem fnExactVolDo_g10:((Rows.fnExactVolDoRow.unfollowed==Tryz.prog.unfollowed 8))=true:=by kernel_rfl
theorem fnExactVolDo_g11:((Rows.fnExactVolDoRow.recurses==Tryz.prog.recurses 8))=true:=by kernel_rfl
theorem fnExactVolDo_g12:((Rows.fnExactVolDoRow.named==Tryz.prog.varsNamed 8))=true:=by kernel_rfl
theorem fnExactVolDo_g13:((Rows.fnExactVolDoRow.maps ==(Tryz.f8.params.toList++Rows.fnExactVolDoSpec.plain.varTypes Tryz.prog).any (Tryz.prog.mapsRec ·)))=true:=by kernel_rfl
theorem fnExactVolDo_g14:((Rows.fnExactVolDoRow.ifaces ==(Tryz.f8.params.toList++Rows.fnExactVolDoSpec.plain.varTypes Tryz.prog).any (Tryz.prog.ifacesRec ·)))=true:=by kernel_rfl
theorem fnExactVolDo_g15:((Rows.fnExactVolDoRow.mapsOut==Tryz.prog.mapsAmong Tryz.f8.resultTypes.toList))=true:=by kernel_rfl
theorem fnExactVolDo_g16:((Rows.fnExactVolDoRow.loops ==(Tryz.f8.params.toList++Rows.fnExactVolDoSpec.plain.varTypes Tryz.prog).any (Tryz.prog.loopsFrom ·)))=true:=by kernel_rfl
theorem fnExactVolDo_g17:((Rows.fnExactVolDoRow.wideKeys ==(Tryz.f8.params.toList++Rows.fnExactVolDoSpec.plain.varTypes Tryz.prog++Tryz.f8.resultTypes.toList).any (Tryz.prog.wideKeysFrom ·)))=true:=by kernel_rfl
theorem fnExactVolDo_g18:(Rows.fnExactVolDoSpec.vars.all (Tryz.prog.varReadable ·))=true:=by kernel_rfl
theorem fnExactVolDo_g19:(Tryz.f8.resultTypes.all (fun t=>Tryz.prog.readableRec t&&decide (t<Tryz.prog.types.size)))=true:=by kernel_rfl
theorem fnExactVolDo_g20:((Rows.fnExactVolDoRow.ifacesOut==Tryz.f8.resultTypes.toList.any (Tryz.prog.ifacesRec ·)))=true:=by kernel_rfl
theorem fnExactVolDo_g21:((Rows.fnExactVolDoRow.loopsOut==Tryz.f8.resultTypes.toList.any (Tryz.prog.loopsFrom ·)))=true:=by kernel_rfl
theorem fnExactVolDo_g22:((Rows.fnExactVolDoRow.plainKeys==Tryz.prog.plainKeys))=true:=by kernel_rfl
theorem fnExactVolDo_g23:(Rows.fnExactVolDoRow.shortTexts.isNone)=true:=by kernel_rfl
theorem fnExactVolDo_g24:(Tryz.prog.stopsHeard)=true:=by kernel_rfl
theorem fnExactVolDo_g25:(Tryz.prog.mayEnter)=true:=by kernel_rfl
theorem fnExactVolDo_g26:((Rows.fnExactVolDoRow.lifted==Tryz.prog.liftsFinal))=true:=by kernel_rfl
theorem fnExactVolDo_g27:((Tryz.prog.make==some Rows.fnExactVolDoRow.make))=true:=by kernel_rfl
theorem fnExactVolDo_g28:((Rows.fnExactVolDoRow.kinds ==(if Rows.fnExactVolDoRow.domain.isEmpty then [] else Tryz.f8.params.toList.map fun t=>match Tryz.prog.underlying t with | some (.int k)=>some k | _=>none)))=true:=by kernel_rfl
theorem fnExactVolDo_g29:((Rows.fnExactVolDoRow.pinned==Rows.fnExactVolDoRow.pinnedBy))=true:=by kernel_rfl
theorem fnExactVolDo_g30:((Rows.fnExactVolDoRow.veiled ==(Tryz.f8.params.toList++Rows.fnExactVolDoSpec.plain.varTypes Tryz.prog++Tryz.f8.resultTypes.toList).any (Tryz.prog.veiledRec ·)))=true:=by kernel_rfl
theorem fnExactVolDo_g31:(Rows.fnExactVolDoRow.veiledFits Tryz.prog Tryz.f8.params.toList (Tryz.f8.params.toList++Rows.fnExactVolDoSpec.plain.varTypes Tryz.prog++Tryz.f8.resultTypes.toList))=true:=by kernel_rfl
theorem fnExactVolDo_joined:joinedFacts Tryz.prog 8 Tryz.f8 Rows.fnExactVolDoSpec Rows.fnExactVolDoRow=true:=by
 unfold joinedFacts
 exact fnExactVolDo_band (fnExactVolDo_band (fnExactVolDo_band (fnExactVolDo_band (fnExactVolDo_band (fnExactVolDo_band (fnExactVolDo_band (fnExactVolDo_band (fnExactVolDo_band (fnExactVolDo_band (fnExactVolDo_band (fnExactVolDo_band (fnExactVolDo_band (fnExactVolDo_band (fnExactVolDo_band (fnExactVolDo_band (fnExactVolDo_band (fnExactVolDo_band (fnExactVolDo_band (fnExactVolDo_band (fnExactVolDo_band (fnExactVolDo_band (fnExactVolDo_band (fnExactVolDo_band (fnExactVolDo_band (fnExactVolDo_band (fnExactVolDo_band (fnExactVolDo_band (fnExactVolDo_band (fnExactVolDo_band (fnExactVolDo_band (fnExactVolDo_g0) fnExactVolDo_g1) fnExactVolDo_g2) fnExactVolDo_g3) fnExactVolDo_g4) fnExactVolDo_g5) fnExactVolDo_g6) fnExactVolDo_g7) fnExactVolDo_g8) fnExactVolDo_g9) fnExactVolDo_g10) fnExactVolDo_g11) fnExactVolDo_g12) fnExactVolDo_g13) fnExactVolDo_g14) fnExactVolDo_g15) fnExactVolDo_g16) fnExactVolDo_g17) fnExactVolDo_g18) fnExactVolDo_g19) fnExactVolDo_g20) fnExactVolDo_g21) fnExactVolDo_g22) fnExactVolDo_g23) fnExactVolDo_g24) fnExactVolDo_g25) fnExactVolDo_g26) fnExactVolDo_g27) fnExactVolDo_g28) fnExactVolDo_g29) fnExactVolDo_g30) fnExactVolDo_g31
theorem fnExactVolDo_named:Tryz.checked.prog.funcNamed Rows.fnExactVolDoRow.func=some 8:=by kernel_rfl
theorem fnExactVolDo_inst:Func.isInstance Tryz.prog Tryz.f8 Rows.fnExactVolDoRow.origin Rows.fnExactVolDoRow.targs:=of_decide_eq_true (by kernel_rfl)
theorem fnExactVolDo_wrap:Func.isWrapper Tryz.prog Tryz.f8 Rows.fnExactVolDoRow.wrapper Rows.fnExactVolDoRow.mainSum:=by
 unfold Func.isWrapper;first | (rw [if_pos (by decide +kernel)];kernel_rfl) | (rw [if_neg (by decide +kernel)];exact⟨rfl,rfl⟩)
theorem fnExactVolDo_over:Rows.FnExactVolDoSaid :=
 OpenClaim.holds_of_wide 8 Tryz.f8 rfl rfl rfl rfl rfl rfl rfl ⟨rfl,rfl,rfl,rfl,rfl⟩ rfl rfl rfl rfl rfl fnExactVolDo_named Tryz.func8 fnExactVolDo_joined
  fnExactVolDo_inst fnExactVolDo_wrap
  (fun os started H enc _=>fnExactVolDo_lifted os started H enc)
theorem fnExactVolDo_wants:([63,64,65].all fun u => !Tryz.prog.wantsStandIn u)=true:=by kernel_rfl
theorem FnExactVolDo_proved:Rows.FnExactVolDoCardSaid :=
 Claim7.holds_tied_plain_at .later [] [.data,.pinned] true (true, "e283d4f1a529082bb63b6f9c821d6241c37443941bf17f221b30a164ad188d6b") false
  fnExactVolDo_over (fun _ h=>by cases h) (by kernel_rfl) (fun _ h=>by cases h) fnExactVolDo_row_tie rfl ⟨rfl,rfl⟩ (by kernel_rfl) rfl
  (fun f fn hf hfn=>by
   obtain rfl:f=8:=Option.some.inj (fnExactVolDo_named.symm.trans hf) |>.symm
   obtain rfl:fn=Tryz.f8:=(Option.some.inj (Tryz.func8.symm.trans hfn)).symm
   exact⟨by kernel_rfl,fun j t ht=>by
    rw [Tryz.params8] at ht
    have hm:t∈[63,64,65]:=by simpa using Array.mem_of_getElem? ht
    exact(show Tryz.prog.wantsStandIn t=false by simpa using List.all_eq_true.1 fnExactVolDo_wants t hm)⟩)
  (by kernel_rfl)
#print axioms FnExactVolDo_proved
end Go.Proofs.YtklmgcjamifmaaaGreatDoor
