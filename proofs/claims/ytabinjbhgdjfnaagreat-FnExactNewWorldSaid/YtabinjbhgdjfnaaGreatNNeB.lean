/- The law of FnExactNewWorld, as a plain function, is true: closed cases by evaluation. Conditions: none. -/
import Derived.Test.YtabinjbhgdjfnaaGreatNNeA
import Derived.KernelRfl
set_option linter.unusedVariables false
namespace Go.LM.Ne
open Go.LM Go.LM.Nw
noncomputable def ok (x : Option (Bool × Unit)) : Bool := match x with | some (true, _) => true | _ => false
theorem ok_eq {x : Option (Bool × Unit)} (h : ok x = true) : x = some (true, ()) := by
  unfold ok at h
  split at h
  · rfl
  · cases h
def W0 : tWorld.D := (([], [], [], [], false, ()), [], [], [], ())
theorem rest (s : tSetup.D) (h1 : Ne.spec_NewWorld (s, ()) = some (W0, false, ())) (h2 : Ne.impl_NewWorld (s, ()) = some (W0, false, ())) : ok (Ne.laws_FnExactNewWorld (s, ())) = true := by
  show ok (Ne.laws_FnExactNewWorld_s s) = true
  unfold Ne.laws_FnExactNewWorld_s
  rw [show laws_toSetup (s, ()) = some (s, ()) from rfl]
  simp only [Option.bind_some]
  rw [h1]
  simp only [Option.bind_some]
  rw [h2]
  kernel_rfl
theorem in_no {p lo hi : Int} (h : ¬ (lo ≤ p ∧ p ≤ hi)) : spec_l1In (p, lo, hi, ()) = some (false, ()) ∧ impl_within (p, lo, hi, ()) = some (false, ()) := by
  have : cond (decide (p ≥ lo)) (some (decide (p ≤ hi), ())) (some (false, ())) = some (false, ()) := by
    by_cases h1 : p ≥ lo
    · have h2 : ¬ p ≤ hi := fun h2 => h ⟨h1, h2⟩
      rw [decide_eq_true h1, decide_eq_false h2]; rfl
    · rw [decide_eq_false h1]; rfl
  exact ⟨this, this⟩
noncomputable def crew (x : Option (tCrew.D × Bool × Unit)) : tCrew.D := match x with | some r => r.1 | none => ([], [], [], [], false, ())
theorem peers_no (p c : Int) (h : ¬ (1 ≤ p ∧ p ≤ 5)) : Ne.spec_NewWorld ((p, c, ()), ()) = some (W0, false, ()) ∧ Ne.impl_NewWorld ((p, c, ()), ()) = some (W0, false, ()) := by
  obtain ⟨h1, h2⟩ := in_no h
  constructor
  · show Ne.spec_NewWorld_s _ _ = _
    unfold Ne.spec_NewWorld_s
    rw [show Ne.spec_NewCrew (p, ()) = some (([], [], [], [], false, ()), false, ()) by
      show Ne.spec_NewCrew_s _ _ = _
      unfold Ne.spec_NewCrew_s
      rw [h1]; rfl]
    rfl
  · show Ne.impl_NewWorld_s _ _ = _
    unfold Ne.impl_NewWorld_s
    rw [show Ne.impl_NewCrew (p, ()) = some (([], [], [], [], false, ()), false, ()) by
      show Ne.impl_NewCrew_s _ _ = _
      unfold Ne.impl_NewCrew_s
      rw [h2]; rfl]
    rfl
theorem clients_no (p c : Int) (h : ¬ (0 ≤ c ∧ c ≤ 2)) (r1 r2 : tCrew.D × Bool × Unit) (hr1 : Ne.spec_NewCrew (p, ()) = some r1) (hr2 : Ne.impl_NewCrew (p, ()) = some r2) : Ne.spec_NewWorld ((p, c, ()), ()) = some (W0, false, ()) ∧ Ne.impl_NewWorld ((p, c, ()), ()) = some (W0, false, ()) := by
  obtain ⟨h1, h2⟩ := in_no h
  constructor
  · show Ne.spec_NewWorld_s _ _ = _
    unfold Ne.spec_NewWorld_s
    rw [hr1]
    simp only [Option.bind_some]
    rw [h1]
    obtain ⟨a, b, _⟩ := r1
    cases b <;> rfl
  · show Ne.impl_NewWorld_s _ _ = _
    unfold Ne.impl_NewWorld_s
    rw [hr2]
    simp only [Option.bind_some]
    rw [h2]
    obtain ⟨a, b, _⟩ := r2
    cases b <;> rfl
noncomputable def some? {α : Type} (x : Option α) : Bool := match x with | some _ => true | none => false
theorem some_ex {α : Type} {x : Option α} (h : some? x = true) : ∃ r, x = some r := by
  cases x with
  | none => cases h
  | some r => exact ⟨r, rfl⟩
theorem p1 (p : Int) : p = (1 : Int) ∨ p = 2 ∨ p = 3 ∨ p = 4 ∨ p = 5 → (∃ r, Ne.spec_NewCrew (p, ()) = some r) ∧ ∃ r, Ne.impl_NewCrew (p, ()) = some r := by
  rintro (rfl | rfl | rfl | rfl | rfl) <;> exact ⟨some_ex (by kernel_rfl), some_ex (by kernel_rfl)⟩
theorem p2 (p c : Int) : p = (1 : Int) ∨ p = 2 ∨ p = 3 ∨ p = 4 ∨ p = 5 → c = (0 : Int) ∨ c = 1 ∨ c = 2 → ok (Ne.laws_FnExactNewWorld ((p, c, ()), ())) = true := by
  rintro (rfl | rfl | rfl | rfl | rfl) (rfl | rfl | rfl) <;> kernel_rfl
theorem five (p : Int) (h : 1 ≤ p ∧ p ≤ 5) : p = (1 : Int) ∨ p = 2 ∨ p = 3 ∨ p = 4 ∨ p = 5 := by omega
theorem three (c : Int) (h : 0 ≤ c ∧ c ≤ 2) : c = (0 : Int) ∨ c = 1 ∨ c = 2 := by omega
theorem law1 (p c : Int) : ok (Ne.laws_FnExactNewWorld ((p, c, ()), ())) = true := by
  by_cases hp : 1 ≤ p ∧ p ≤ 5
  · have hp' := five p hp
    by_cases hc : 0 ≤ c ∧ c ≤ 2
    · exact p2 p c hp' (three c hc)
    · obtain ⟨⟨r1, h1⟩, ⟨r2, h2⟩⟩ := p1 p hp'
      obtain ⟨k1, k2⟩ := clients_no p c hc r1 r2 h1 h2
      exact rest _ k1 k2
  · obtain ⟨k1, k2⟩ := peers_no p c hp
    exact rest _ k1 k2
theorem law (s : tSetup.D) : Nw.laws_FnExactNewWorld (s, ()) = some (true, ()) := by
  rw [q_laws_FnExactNewWorld]
  exact ok_eq (law1 s.1 s.2.1)
end Go.LM.Ne
