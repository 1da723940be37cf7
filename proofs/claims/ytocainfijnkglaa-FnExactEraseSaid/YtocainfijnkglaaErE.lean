/- The statement 'FnExactErase' holds for every input: the program's Erase gives what the reference's gives, and shares no memory. Conditions: none. -/
import Derived.Test.YtocainfijnkglaaRows
import Derived.Test.YtocainfijnkglaaErB
import Derived.Test.YtocainfijnkglaaErD
namespace Go.Proofs.Ytocainfijnkglaa
open Go.ChangeShapes Go.WideShapes Go.ChangeAt Go.RowKit
open Go.LM Go.LM.Er
set_option linter.unusedVariables false

theorem er_own : ownKnob Try.prog.godebug = none := by kernel_rfl
theorem er_laid : laidOutB Try.prog = true := by kernel_rfl
def er_as : List (Nat × Ty) := [(22, .sl tAct), (3, .int .i64)]
theorem er_asOk : asOk Try.prog er_as = true := by kernel_rfl
theorem er_params : Try.f3.params.toList = er_as.map (·.1) := by kernel_rfl

theorem er_law : ∀ x : (PSpec.ins e3.ps).D, WfE e3.ps x → ∃ y, e3.f x = some y ∧ IsTrue e3.rs (PSpec.muts e3.ps) y := by
  intro x hx
  exact ⟨(true, ()), c3_true x.1 x.2.1 hx.1, rfl⟩

set_option maxRecDepth 100000 in
theorem er_lifted (os : Os) (started : os.Started) (H : Type) (enc : TypeId × Value → H) :
    ReturnsInHanded {} Try.checked os 3 .any (Rows.fnExactEraseSpec.pre6 enc Try.prog Try.f3 Rows.fnExactEraseRow.domain false) (Rows.fnExactEraseSpec.post enc Try.prog Try.f3 false true false false) := by
  refine returnsInHanded_of_change (C := Try.checked) er_own started (by kernel_rfl) Try.func3
    (ChangeSpec.witness6 (enc := enc) (C := Try.checked) false ⟨#[], #[.slice none 0 0, .int .i64 0], []⟩ 8 (by kernel_rfl) (by kernel_rfl) (by kernel_rfl) (by kernel_rfl)) ?_
  intro W base args ds gs before hval0 hW hcnd _
  have hval : ∀ (j : Nat) t v, Try.f3.params[j]? = some t → args[j]? = some v → Value.okWide Try.prog W .any base t v := hval0
  have hW' := hW
  obtain ⟨p, q, hA0, hV, rfl, hfz, hnd⟩ := hW
  have hA : DataW.TrodAll enc Try.prog W 0 (fun _ => true) true Try.f3.params.toList args.toList ds p := hA0
  obtain ⟨rfl, rfl⟩ := trodVars_none hV
  refine (law_main (prs := er_as) s3 rfl er_params er_asOk er_laid er_law hval hA).mono fun e W' ⟨he, bel, hst⟩ => ?_
  subst he
  have hA' := hA
  rw [Try.params3] at hA'
  obtain ⟨v0, vs0, d0, ds0, p0, q0, hargs, rfl, hp, h0, r0⟩ := trodAll_cons hA'
  obtain ⟨v1, vs1, d1, ds1, p1, q1, hv1, rfl, hq, h1, r1⟩ := trodAll_cons r0
  obtain ⟨hn1, rfl, hn3⟩ := trodAll_nil r1
  exact ⟨_, rfl, _, _, _, [], _, [], hW', trodAll_mk1 (shut_bool Try.underlying4 _), hst, rfl, bel.frame _, fun h => by cases h⟩

theorem er_over : Rows.fnExactEraseRow.holds Try.pinned (OpenSpec.ofChange Rows.fnExactEraseSpec) :=
  OpenClaim.holds_of_wide 3 Try.f3 rfl rfl rfl rfl rfl rfl rfl ⟨rfl, rfl, rfl, rfl, rfl⟩ rfl rfl rfl rfl rfl (by kernel_rfl) Try.func3 (by kernel_rfl)
    (of_decide_eq_true (by kernel_rfl)) (by unfold Func.isWrapper; first | (rw [if_pos (by decide +kernel)]; kernel_rfl) | (rw [if_neg (by decide +kernel)]; exact ⟨rfl, rfl⟩))
    (fun os started H enc _ => er_lifted os started H enc)

theorem FnExactErase_proved : Rows.FnExactEraseSaid := er_over
#print axioms FnExactErase_proved

end Go.Proofs.Ytocainfijnkglaa
