/- The statement 'FnExactNewWorld' holds for every input: the program's NewWorld returns what the reference's returns, and shares no memory. Conditions: none. -/
import Derived.Test.YtabinjbhgdjfnaaGreatRows
import Derived.Test.YtabinjbhgdjfnaaGreatNLmd
import Derived.Test.YtabinjbhgdjfnaaGreatNNwB
import Derived.Test.YtabinjbhgdjfnaaGreatNNeB
namespace Go.Proofs.YtabinjbhgdjfnaaGreat
open Go.ChangeShapes Go.WideShapes Go.ChangeAt Go.RowKit
open Go.LM Go.LM.Nw
set_option linter.unusedVariables false

theorem fnExactNewWorld_own : ownKnob Tryz.prog.godebug = none := by kernel_rfl
theorem fnExactNewWorld_laid : laidOutB Tryz.prog = true := by kernel_rfl
def fnExactNewWorld_as : List (Nat × Ty) := [(49, tSetup)]
theorem fnExactNewWorld_asOk : asOk Tryz.prog fnExactNewWorld_as = true := by kernel_rfl
theorem fnExactNewWorld_params : Tryz.f5.params.toList = fnExactNewWorld_as.map (·.1) := by kernel_rfl

theorem fnExactNewWorld_law : ∀ x : (PSpec.ins e_laws_FnExactNewWorld.ps).D, WfE e_laws_FnExactNewWorld.ps x → ∃ y, e_laws_FnExactNewWorld.f x = some y ∧ IsTrue e_laws_FnExactNewWorld.rs (PSpec.muts e_laws_FnExactNewWorld.ps) y := by
  intro x hx
  exact ⟨(true, ()), Go.LM.Ne.law x.1, rfl⟩

set_option maxRecDepth 100000 in
theorem fnExactNewWorld_lifted (os : Os) (started : os.Started) (H : Type) (enc : TypeId × Value → H) :
    ReturnsInHanded {} Tryz.checked os 5 .any (Rows.fnExactNewWorldSpec.pre6 enc Tryz.prog Tryz.f5 Rows.fnExactNewWorldRow.domain false) (Rows.fnExactNewWorldSpec.post enc Tryz.prog Tryz.f5 false true false false) := by
  refine returnsInHanded_of_change (C := Tryz.checked) fnExactNewWorld_own started (by kernel_rfl) Tryz.func5
    (ChangeSpec.witness6 (enc := enc) (C := Tryz.checked) false ⟨#[], #[.agg #[.int .i64 0, .int .i64 0]], []⟩ 30 (by kernel_rfl) (by kernel_rfl) (by kernel_rfl) (by kernel_rfl)) ?_
  intro W base args ds gs before hval0 hW hcnd _
  have hval : ∀ (j : Nat) t v, Tryz.f5.params[j]? = some t → args[j]? = some v → Value.okWide Tryz.prog W .any base t v := hval0
  have hW' := hW
  obtain ⟨p, q, hA0, hV, rfl, hfz, hnd⟩ := hW
  have hA : DataW.TrodAll enc Tryz.prog W 0 (fun _ => true) true Tryz.f5.params.toList args.toList ds p := hA0
  obtain ⟨rfl, rfl⟩ := trodVars_none hV
  refine (law_main (prs := fnExactNewWorld_as) s_laws_FnExactNewWorld rfl fnExactNewWorld_params fnExactNewWorld_asOk fnExactNewWorld_laid fnExactNewWorld_law hval hA).mono fun e W' ⟨he, bel, hst⟩ => ?_
  subst he
  have hA' := hA
  rw [Tryz.params5] at hA'
  obtain ⟨v0, vs0, d0, ds0, p0, q0, hv0, rfl, hp0, h0, r0⟩ := trodAll_cons hA'
  obtain ⟨hn1, rfl, hn3⟩ := trodAll_nil r0
  exact ⟨_, rfl, _, _, _, [], _, [], hW', trodAll_mk1 (shut_bool Tryz.underlying4 _), hst, rfl, bel.frame _, fun h => by cases h⟩

set_option maxRecDepth 100000
theorem fnExactNewWorld_band {a b : Bool} (h : a = true) (k : b = true) : (a && b) = true := by rw [h, k]; rfl
theorem fnExactNewWorld_g0 : (Rows.fnExactNewWorldRow.wf (OpenSpec.ofChange Rows.fnExactNewWorldSpec)) = true := by kernel_rfl
theorem fnExactNewWorld_g1 : (laidOutB Tryz.prog) = true := by kernel_rfl
theorem fnExactNewWorld_g2 : (mapsRowed Tryz.prog) = true := by kernel_rfl
theorem fnExactNewWorld_g3 : (Tryz.f5.params.all (Tryz.prog.readableRec ·)) = true := by kernel_rfl
theorem fnExactNewWorld_g4 : (namedTie Tryz.prog Rows.fnExactNewWorldRow.named Rows.fnExactNewWorldSpec.vars) = true := by kernel_rfl
theorem fnExactNewWorld_g5 : ((Rows.fnExactNewWorldRow.stops == [])) = true := by kernel_rfl
theorem fnExactNewWorld_g6 : ((Tryz.prog.stops == [])) = true := by kernel_rfl
theorem fnExactNewWorld_g7 : ((Rows.fnExactNewWorldRow.knobs == [])) = true := by kernel_rfl
theorem fnExactNewWorld_g8 : ((Tryz.prog.stopKnobs == [])) = true := by kernel_rfl
theorem fnExactNewWorld_g9 : ((Rows.fnExactNewWorldRow.inPlace == Tryz.prog.inPlace 5)) = true := by kernel_rfl
theorem fnExactNewWorld_g10 : ((Rows.fnExactNewWorldRow.unfollowed == Tryz.prog.unfollowed 5)) = true := by kernel_rfl
theorem fnExactNewWorld_g11 : ((Rows.fnExactNewWorldRow.recurses == Tryz.prog.recurses 5)) = true := by kernel_rfl
theorem fnExactNewWorld_g12 : ((Rows.fnExactNewWorldRow.named == Tryz.prog.varsNamed 5)) = true := by kernel_rfl
theorem fnExactNewWorld_g13 : ((Rows.fnExactNewWorldRow.maps == (Tryz.f5.params.toList ++ Rows.fnExactNewWorldSpec.plain.varTypes Tryz.prog).any (Tryz.prog.mapsRec ·))) = true := by kernel_rfl
theorem fnExactNewWorld_g14 : ((Rows.fnExactNewWorldRow.ifaces == (Tryz.f5.params.toList ++ Rows.fnExactNewWorldSpec.plain.varTypes Tryz.prog).any (Tryz.prog.ifacesRec ·))) = true := by kernel_rfl
theorem fnExactNewWorld_g15 : ((Rows.fnExactNewWorldRow.mapsOut == Tryz.prog.mapsAmong Tryz.f5.resultTypes.toList)) = true := by kernel_rfl
theorem fnExactNewWorld_g16 : ((Rows.fnExactNewWorldRow.loops == (Tryz.f5.params.toList ++ Rows.fnExactNewWorldSpec.plain.varTypes Tryz.prog).any (Tryz.prog.loopsFrom ·))) = true := by kernel_rfl
theorem fnExactNewWorld_g17 : ((Rows.fnExactNewWorldRow.wideKeys == (Tryz.f5.params.toList ++ Rows.fnExactNewWorldSpec.plain.varTypes Tryz.prog ++ Tryz.f5.resultTypes.toList).any (Tryz.prog.wideKeysFrom ·))) = true := by kernel_rfl
theorem fnExactNewWorld_g18 : (Rows.fnExactNewWorldSpec.vars.all (Tryz.prog.varReadable ·)) = true := by kernel_rfl
theorem fnExactNewWorld_g19 : (Tryz.f5.resultTypes.all (fun t => Tryz.prog.readableRec t && decide (t < Tryz.prog.types.size))) = true := by kernel_rfl
theorem fnExactNewWorld_g20 : ((Rows.fnExactNewWorldRow.ifacesOut == Tryz.f5.resultTypes.toList.any (Tryz.prog.ifacesRec ·))) = true := by kernel_rfl
theorem fnExactNewWorld_g21 : ((Rows.fnExactNewWorldRow.loopsOut == Tryz.f5.resultTypes.toList.any (Tryz.prog.loopsFrom ·))) = true := by kernel_rfl
theorem fnExactNewWorld_g22 : ((Rows.fnExactNewWorldRow.plainKeys == Tryz.prog.plainKeys)) = true := by kernel_rfl
theorem fnExactNewWorld_g23 : (Rows.fnExactNewWorldRow.shortTexts.isNone) = true := by kernel_rfl
theorem fnExactNewWorld_g24 : (Tryz.prog.stopsHeard) = true := by kernel_rfl
theorem fnExactNewWorld_g25 : (Tryz.prog.mayEnter) = true := by kernel_rfl
theorem fnExactNewWorld_g26 : ((Rows.fnExactNewWorldRow.lifted == Tryz.prog.liftsFinal)) = true := by kernel_rfl
theorem fnExactNewWorld_g27 : ((Tryz.prog.make == some Rows.fnExactNewWorldRow.make)) = true := by kernel_rfl
theorem fnExactNewWorld_g28 : ((Rows.fnExactNewWorldRow.kinds == (if Rows.fnExactNewWorldRow.domain.isEmpty then [] else Tryz.f5.params.toList.map fun t => match Tryz.prog.underlying t with | some (.int k) => some k | _ => none))) = true := by kernel_rfl
theorem fnExactNewWorld_g29 : ((Rows.fnExactNewWorldRow.pinned == Rows.fnExactNewWorldRow.pinnedBy)) = true := by kernel_rfl
theorem fnExactNewWorld_g30 : ((Rows.fnExactNewWorldRow.veiled == (Tryz.f5.params.toList ++ Rows.fnExactNewWorldSpec.plain.varTypes Tryz.prog ++ Tryz.f5.resultTypes.toList).any (Tryz.prog.veiledRec ·))) = true := by kernel_rfl
theorem fnExactNewWorld_g31 : (Rows.fnExactNewWorldRow.veiledFits Tryz.prog Tryz.f5.params.toList (Tryz.f5.params.toList ++ Rows.fnExactNewWorldSpec.plain.varTypes Tryz.prog ++ Tryz.f5.resultTypes.toList)) = true := by kernel_rfl
theorem fnExactNewWorld_joined : joinedFacts Tryz.prog 5 Tryz.f5 Rows.fnExactNewWorldSpec Rows.fnExactNewWorldRow = true := by
  unfold joinedFacts
  exact fnExactNewWorld_band (fnExactNewWorld_band (fnExactNewWorld_band (fnExactNewWorld_band (fnExactNewWorld_band (fnExactNewWorld_band (fnExactNewWorld_band (fnExactNewWorld_band (fnExactNewWorld_band (fnExactNewWorld_band (fnExactNewWorld_band (fnExactNewWorld_band (fnExactNewWorld_band (fnExactNewWorld_band (fnExactNewWorld_band (fnExactNewWorld_band (fnExactNewWorld_band (fnExactNewWorld_band (fnExactNewWorld_band (fnExactNewWorld_band (fnExactNewWorld_band (fnExactNewWorld_band (fnExactNewWorld_band (fnExactNewWorld_band (fnExactNewWorld_band (fnExactNewWorld_band (fnExactNewWorld_band (fnExactNewWorld_band (fnExactNewWorld_band (fnExactNewWorld_band (fnExactNewWorld_band (fnExactNewWorld_g0) fnExactNewWorld_g1) fnExactNewWorld_g2) fnExactNewWorld_g3) fnExactNewWorld_g4) fnExactNewWorld_g5) fnExactNewWorld_g6) fnExactNewWorld_g7) fnExactNewWorld_g8) fnExactNewWorld_g9) fnExactNewWorld_g10) fnExactNewWorld_g11) fnExactNewWorld_g12) fnExactNewWorld_g13) fnExactNewWorld_g14) fnExactNewWorld_g15) fnExactNewWorld_g16) fnExactNewWorld_g17) fnExactNewWorld_g18) fnExactNewWorld_g19) fnExactNewWorld_g20) fnExactNewWorld_g21) fnExactNewWorld_g22) fnExactNewWorld_g23) fnExactNewWorld_g24) fnExactNewWorld_g25) fnExactNewWorld_g26) fnExactNewWorld_g27) fnExactNewWorld_g28) fnExactNewWorld_g29) fnExactNewWorld_g30) fnExactNewWorld_g31
theorem fnExactNewWorld_named : Tryz.checked.prog.funcNamed Rows.fnExactNewWorldRow.func = some 5 := by kernel_rfl
theorem fnExactNewWorld_inst : Func.isInstance Tryz.prog Tryz.f5 Rows.fnExactNewWorldRow.origin Rows.fnExactNewWorldRow.targs := of_decide_eq_true (by kernel_rfl)
theorem fnExactNewWorld_wrap : Func.isWrapper Tryz.prog Tryz.f5 Rows.fnExactNewWorldRow.wrapper Rows.fnExactNewWorldRow.mainSum := by
  unfold Func.isWrapper; first | (rw [if_pos (by decide +kernel)]; kernel_rfl) | (rw [if_neg (by decide +kernel)]; exact ⟨rfl, rfl⟩)
theorem fnExactNewWorld_over : Rows.fnExactNewWorldRow.holds Tryz.pinned (OpenSpec.ofChange Rows.fnExactNewWorldSpec) :=
  OpenClaim.holds_of_wide 5 Tryz.f5 rfl rfl rfl rfl rfl rfl rfl ⟨rfl, rfl, rfl, rfl, rfl⟩ rfl rfl rfl rfl rfl fnExactNewWorld_named Tryz.func5 fnExactNewWorld_joined
    fnExactNewWorld_inst fnExactNewWorld_wrap
    (fun os started H enc _ => fnExactNewWorld_lifted os started H enc)

theorem FnExactNewWorld_proved : Rows.FnExactNewWorldSaid := fnExactNewWorld_over
#print axioms FnExactNewWorld_proved

end Go.Proofs.YtabinjbhgdjfnaaGreat
