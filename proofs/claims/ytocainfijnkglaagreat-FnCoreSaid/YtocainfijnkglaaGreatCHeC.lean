/- The statement 'FnCore' holds for every input: whatever a server hears, it stays right. Conditions: none. -/
import Derived.Test.YtocainfijnkglaaGreatRows
import Derived.Test.YtocainfijnkglaaGreatCPgB
import Derived.Test.YtocainfijnkglaaGreatCCoX
namespace Go.Proofs.YtocainfijnkglaaGreat
open Go.ChangeShapes Go.WideShapes Go.ChangeAt Go.RowKit
open Go.LM Go.LM.Pg
set_option linter.unusedVariables false

theorem fnCore_own : ownKnob Tryz.prog.godebug = none := by kernel_rfl
theorem fnCore_laid : laidOutB Tryz.prog = true := by kernel_rfl
def fnCore_as : List (Nat × Ty) := [(22, .sl (.int .u8))]
theorem fnCore_asOk : asOk Tryz.prog fnCore_as = true := by kernel_rfl
theorem fnCore_params : Tryz.f3.params.toList = fnCore_as.map (·.1) := by kernel_rfl

theorem fnCore_law : ∀ x : (PSpec.ins e_laws_FnCore.ps).D, WfE e_laws_FnCore.ps x → ∃ y, e_laws_FnCore.f x = some y ∧ IsTrue e_laws_FnCore.rs (PSpec.muts e_laws_FnCore.ps) y := by
  intro x hx
  exact ⟨(true, ()), Core_law x.1, rfl⟩

set_option maxRecDepth 100000 in
theorem fnCore_lifted (os : Os) (started : os.Started) (H : Type) (enc : TypeId × Value → H) :
    ReturnsInHanded {} Tryz.checked os 3 .any (Rows.fnCoreSpec.pre6 enc Tryz.prog Tryz.f3 Rows.fnCoreRow.domain false) (Rows.fnCoreSpec.post enc Tryz.prog Tryz.f3 false true false false) := by
  refine returnsInHanded_of_change (C := Tryz.checked) fnCore_own started (by kernel_rfl) Tryz.func3
    (ChangeSpec.witness6 (enc := enc) (C := Tryz.checked) false ⟨#[], #[.slice none 0 0], []⟩ 30 (by kernel_rfl) (by kernel_rfl) (by kernel_rfl) (by kernel_rfl)) ?_
  intro W base args ds gs before hval0 hW hcnd _
  have hval : ∀ (j : Nat) t v, Tryz.f3.params[j]? = some t → args[j]? = some v → Value.okWide Tryz.prog W .any base t v := hval0
  have hW' := hW
  obtain ⟨p, q, hA0, hV, rfl, hfz, hnd⟩ := hW
  have hA : DataW.TrodAll enc Tryz.prog W 0 (fun _ => true) true Tryz.f3.params.toList args.toList ds p := hA0
  obtain ⟨rfl, rfl⟩ := trodVars_none hV
  refine (law_main (prs := fnCore_as) s_laws_FnCore rfl fnCore_params fnCore_asOk fnCore_laid fnCore_law hval hA).mono fun e W' ⟨he, bel, hst⟩ => ?_
  subst he
  have hA' := hA
  rw [Tryz.params3] at hA'
  obtain ⟨v0, vs0, d0, ds0, p0, q0, hv0, rfl, hp0, h0, r0⟩ := trodAll_cons hA'
  obtain ⟨hn1, rfl, hn3⟩ := trodAll_nil r0
  exact ⟨_, rfl, _, _, _, [], _, [], hW', trodAll_mk1 (shut_bool Tryz.underlying4 _), hst, rfl, bel.frame _, fun h => by cases h⟩

theorem fnCore_over : Rows.fnCoreRow.holds Tryz.pinned (OpenSpec.ofChange Rows.fnCoreSpec) :=
  OpenClaim.holds_of_wide 3 Tryz.f3 rfl rfl rfl rfl rfl rfl rfl ⟨rfl, rfl, rfl, rfl, rfl⟩ rfl rfl rfl rfl rfl (by kernel_rfl) Tryz.func3 (by kernel_rfl)
    (of_decide_eq_true (by kernel_rfl)) (by unfold Func.isWrapper; first | (rw [if_pos (by decide +kernel)]; kernel_rfl) | (rw [if_neg (by decide +kernel)]; exact ⟨rfl, rfl⟩))
    (fun os started H enc _ => fnCore_lifted os started H enc)

theorem FnCore_proved : Rows.FnCoreSaid := fnCore_over
#print axioms FnCore_proved

end Go.Proofs.YtocainfijnkglaaGreat
