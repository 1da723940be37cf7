/- When a kept state and a core are right: the program and the reference say the same. Conditions: each theorem's own hypotheses. -/
import Derived.Test.YtocainfijnkglaaGreatCLpA
import Derived.Test.YtocainfijnkglaaGreatCPgS
set_option linter.unusedSimpArgs false
set_option linter.unusedVariables false
namespace Go.LM.Pg

theorem l1In_eq (x a b : Int) : spec_l1In (x, a, b, ()) = some (inR x a b, ()) := by
  show spec_l1In_s x a b = _
  unfold spec_l1In_s inR
  by_cases h : a ≤ x <;> simp [h]
theorem within_eq (x a b : Int) : impl_within (x, a, b, ()) = some (inR x a b, ()) := by
  show impl_within_s x a b = _
  unfold impl_within_s inR
  by_cases h : a ≤ x <;> simp [h]
def place (i t : Int) : Bool := (i == 0 && t == 0) || (inR i 1 100000 && inR t 1 100000)
theorem l3Place_eq (i t : Int) : spec_l3Place (i, t, ()) = some (place i t, ()) := by
  show spec_l3Place_s i t = _
  unfold spec_l3Place_s place
  simp only [l1In_eq, Option.bind_some, cond_some]
  congr 2
  simp only [inR]
  grind
theorem isPlace_eq (i t : Int) : impl_isPlace (i, t, ()) = some (place i t, ()) := by
  show impl_isPlace_s i t = _
  unfold impl_isPlace_s place
  simp only [within_eq, Option.bind_some, cond_some]
  congr 2
  simp only [inR]
  grind

/-! ### entries -/
abbrev Ent : Type := tEntry.D
abbrev et (e : Ent) : Int := e.1
/-- terms that do not fall, from one to another, and data that are not too long -/
def runOk : List Ent → Int → Int → Bool
  | [], _, _ => true
  | e :: l, lo, hi => decide (lo ≤ et e) && decide (et e ≤ hi) && decide ((e.2.1.length : Int) ≤ 1600) && runOk l (et e) hi
def Snap.ok (s : Snap) (t : Int) : Bool := (s.index == 0 && s.term == 0 && eqS s.data []) || (inR s.index 1 100000 && inR s.term 1 t && decide ((s.data.length : Int) ≤ 20000))
def Kept.ok (k : Kept) : Bool := inR k.term 0 100000 && inR k.vote (-1) 4 && decide ((k.entries.length : Int) ≤ 60) && k.snap.ok k.term && runOk k.entries (mxI 1 k.snap.term) k.term && decide (k.snap.index + (k.entries.length : Int) ≤ 100000)

theorem spec_kept_loop (k : Kept) (hl : k.entries.length ≤ 60) (last : Int) : spec_KeptOk_L5 BIG last 0 k.d = some (runOk k.entries (mxI 1 last) k.term, ()) := by
  refine lpB (t := tEntry) k.entries (by omega) (fun m i a => spec_KeptOk_L5 m a i k.d) (fun l a => some (runOk l (mxI 1 a) k.term, ())) ?_ ?_ last
  · intro m a
    simp only [spec_KeptOk_L5, spec_KeptOk_b5, Kept.p3]
    rw [lt_f (Nat.le_refl _)]; rfl
  · intro m i a hi ih hw
    simp only [spec_KeptOk_L5, spec_KeptOk_b5, Kept.p3, Kept.p0, hw]
    rw [lt_t hi, ix_nat hi]
    simp only [cond_true, Option.bind_some, ih, cond_some, runOk, mx_le]
    have := @mx_one (gd tEntry k.entries i).1
    grind

theorem impl_kept_loop (k : Kept) (hl : k.entries.length ≤ 60) (last : Int) : impl_KeptOk_L7 BIG last k.entries (k.entries.length : Int) 0 k.d = some (runOk k.entries last k.term && decide (w64 (k.snap.index + (k.entries.length : Int)) ≤ 100000), ()) := by
  refine lpB (t := tEntry) k.entries (by omega) (fun m i a => impl_KeptOk_L7 m a k.entries (k.entries.length : Int) i k.d) (fun l a => some (runOk l a k.term && decide (w64 (k.snap.index + (k.entries.length : Int)) ≤ 100000), ())) ?_ ?_ last
  · intro m a
    simp only [impl_KeptOk_L7, impl_KeptOk_b7, Kept.p3, Kept.p2, Snap.p0]
    rw [lt_f (Nat.le_refl _)]; simp only [runOk, cond_false, Bool.true_and]
  · intro m i a hi ih hw
    simp only [impl_KeptOk_L7, impl_KeptOk_b7, Kept.p3, Kept.p0, hw]
    rw [lt_t hi, ix_nat hi]
    simp only [cond_true, Option.bind_some, within_eq, ih, cond_some, runOk, inR]
    grind

theorem w64_add {a : Int} {n : Nat} (h : -1000000000000 ≤ a) (h' : a ≤ 1000000000000) (hn : (n : Int) ≤ 1000000000000) : w64 (a + (n : Int)) = a + n := w64_in (by omega) (by omega)
theorem w64_sm {a : Int} (h : -4000000000000000000 ≤ a) (h' : a ≤ 4000000000000000000) : w64 a = a := w64_in (by omega) (by omega)

theorem spec_KeptOk_eq (k : Kept) : spec_KeptOk (k.d, ()) = some (k.ok, ()) := by
  show spec_KeptOk_s (spec_KeptOk_L5 BIG) k.d = _
  unfold spec_KeptOk_s
  simp only [l1In_eq, l3Place_eq, Option.bind_some, Kept.p0, Kept.p1, Kept.p2, Kept.p3, Snap.p0, Snap.p1, Snap.p2]
  by_cases hl : (k.entries.length : Int) > 60
  · simp only [hl, decide_true, cond_true, cond_some]
    simp only [Kept.ok, Snap.ok, place, inR]
    grind
  · rw [spec_kept_loop k (by omega)]
    simp only [cond_some]
    have := @w64_add k.snap.index k.entries.length
    simp only [Kept.ok, Snap.ok, place, inR, eqS_nil]
    congr 2
    generalize runOk k.entries (mxI 1 k.snap.term) k.term = R
    generalize w64 (k.snap.index + (k.entries.length : Int)) = W at *
    generalize k.entries.length = n at *
    generalize k.snap.data.length = d at *
    grind (splits := 40)

theorem impl_KeptOk_eq (k : Kept) : impl_KeptOk (k.d, ()) = some (k.ok, ()) := by
  show impl_KeptOk_s (impl_KeptOk_L7 BIG) k.d = _
  unfold impl_KeptOk_s
  simp only [within_eq, Option.bind_some, Kept.p0, Kept.p1, Kept.p2, Kept.p3, Snap.p0, Snap.p1, Snap.p2]
  by_cases hl : (k.entries.length : Int) > 60
  · simp only [hl, decide_true, cond_true, cond_some]
    simp only [Kept.ok, Snap.ok, inR]
    grind
  · rw [impl_kept_loop k (by omega)]
    simp only [cond_some]
    have := @w64_add k.snap.index k.entries.length
    simp only [Kept.ok, Snap.ok, place, inR, eqS_nil]
    congr 2
    generalize runOk k.entries (mxI 1 k.snap.term) k.term = R
    generalize w64 (k.snap.index + (k.entries.length : Int)) = W at *
    generalize k.entries.length = n at *
    generalize k.snap.data.length = d at *
    grind (splits := 40)

end Go.LM.Pg
