/- The statement 'FnExactHear' holds for every input: the program's Hear returns what the reference's returns, and shares no memory. Conditions: none. -/
import Derived.Test.YtocainfijnkglaaGreatRows
import Derived.Test.YtocainfijnkglaaGreatPgB
import Derived.Test.YtocainfijnkglaaGreatCoR
namespace Go.Proofs.YtocainfijnkglaaGreat
open Go.ChangeShapes Go.WideShapes Go.ChangeAt Go.RowKit
open Go.LM Go.LM.Pg
set_option linter.unusedVariables false

theorem fnExactHear_own : ownKnob Tryz.prog.godebug = none := by kernel_rfl
theorem fnExactHear_laid : laidOutB Tryz.prog = true := by kernel_rfl
def fnExactHear_as : List (Nat × Ty) := [(42, tCore), (44, tMsg)]
theorem fnExactHear_asOk : asOk Tryz.prog fnExactHear_as = true := by kernel_rfl
theorem fnExactHear_params : Tryz.f4.params.toList = fnExactHear_as.map (·.1) := by kernel_rfl

theorem fnExactHear_law : ∀ x : (PSpec.ins e_laws_FnExactHear.ps).D, WfE e_laws_FnExactHear.ps x → ∃ y, e_laws_FnExactHear.f x = some y ∧ IsTrue e_laws_FnExactHear.rs (PSpec.muts e_laws_FnExactHear.ps) y := by
  intro x hx
  exact ⟨(true, ()), Hear_law (Core.of x.1) (Msg.of x.2.1) hx.1 hx.2.1, rfl⟩

set_option maxRecDepth 100000 in
theorem fnExactHear_lifted (os : Os) (started : os.Started) (H : Type) (enc : TypeId × Value → H) :
    ReturnsInHanded {} Tryz.checked os 4 .any (Rows.fnExactHearSpec.pre6 enc Tryz.prog Tryz.f4 Rows.fnExactHearRow.domain false) (Rows.fnExactHearSpec.post enc Tryz.prog Tryz.f4 false true false false) := by
  refine returnsInHanded_of_change (C := Tryz.checked) fnExactHear_own started (by kernel_rfl) Tryz.func4
    (ChangeSpec.witness6 (enc := enc) (C := Tryz.checked) false ⟨#[], #[.agg #[.int .i64 0, .int .i64 0, .int .i64 0, .int .i64 0, .int .i64 0, .int .i64 0, .int .i64 0, .int .i64 0, .slice none 0 0, .int .i64 0, .slice none 0 0, .slice none 0 0, .slice none 0 0], .agg #[.int .i64 0, .int .i64 0, .int .i64 0, .int .i64 0, .int .i64 0, .int .i64 0, .int .i64 0, .bool false, .slice none 0 0, .string ⟨#[]⟩]], []⟩ 30 (by kernel_rfl) (by kernel_rfl) (by kernel_rfl) (by kernel_rfl)) ?_
  intro W base args ds gs before hval0 hW hcnd _
  have hval : ∀ (j : Nat) t v, Tryz.f4.params[j]? = some t → args[j]? = some v → Value.okWide Tryz.prog W .any base t v := hval0
  have hW' := hW
  obtain ⟨p, q, hA0, hV, rfl, hfz, hnd⟩ := hW
  have hA : DataW.TrodAll enc Tryz.prog W 0 (fun _ => true) true Tryz.f4.params.toList args.toList ds p := hA0
  obtain ⟨rfl, rfl⟩ := trodVars_none hV
  refine (law_main (prs := fnExactHear_as) s_laws_FnExactHear rfl fnExactHear_params fnExactHear_asOk fnExactHear_laid fnExactHear_law hval hA).mono fun e W' ⟨he, bel, hst⟩ => ?_
  subst he
  have hA' := hA
  rw [Tryz.params4] at hA'
  obtain ⟨v0, vs0, d0, ds0, p0, q0, hv0, rfl, hp0, h0, r0⟩ := trodAll_cons hA'
  obtain ⟨v1, vs1, d1, ds1, p1, q1, hv1, rfl, hp1, h1, r1⟩ := trodAll_cons r0
  obtain ⟨hn1, rfl, hn3⟩ := trodAll_nil r1
  exact ⟨_, rfl, _, _, _, [], _, [], hW', trodAll_mk1 (shut_bool Tryz.underlying4 _), hst, rfl, bel.frame _, fun h => by cases h⟩

theorem fnExactHear_over : Rows.fnExactHearRow.holds Tryz.pinned (OpenSpec.ofChange Rows.fnExactHearSpec) :=
  OpenClaim.holds_of_wide 4 Tryz.f4 rfl rfl rfl rfl rfl rfl rfl ⟨rfl, rfl, rfl, rfl, rfl⟩ rfl rfl rfl rfl rfl (by kernel_rfl) Tryz.func4 (by kernel_rfl)
    (of_decide_eq_true (by kernel_rfl)) (by unfold Func.isWrapper; first | (rw [if_pos (by decide +kernel)]; kernel_rfl) | (rw [if_neg (by decide +kernel)]; exact ⟨rfl, rfl⟩))
    (fun os started H enc _ => fnExactHear_lifted os started H enc)

theorem FnExactHear_proved : Rows.FnExactHearSaid := fnExactHear_over
#print axioms FnExactHear_proved

end Go.Proofs.YtocainfijnkglaaGreat
