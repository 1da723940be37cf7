/- The law 'FnExactErase' as a plain function says true for all data. Conditions: each theorem's own hypotheses. -/
import Derived.Test.YtocainfijnkglaaErA
import Derived.Test.YtocainfijnkglaaLmd
set_option linter.unusedSimpArgs false
set_option linter.unusedVariables false
namespace Go.LM.Er

def MX : Int := 9223372036854775807

theorem c12_eq (a b c : Int) : c12 (a, b, c, ()) = some (decide (a ≥ b) && decide (a ≤ c), ()) := by
  show f12s a b c = _
  unfold f12s
  by_cases h : a ≥ b <;> simp [h]
theorem c14_eq (a b c : Int) : c14 (a, b, c, ()) = some (decide (a ≥ b) && decide (a ≤ c), ()) := c12_eq a b c

/-! ### sizes -/
theorem c17_any (x : tCall.D) (n : Int) (h0 : 0 ≤ n) (hn : n ≤ 1048576) (h1 : x.2.1.length ≤ maxLen) (h2 : x.2.2.1.length ≤ maxLen) (h3 : x.2.2.2.2.2.1.length ≤ maxLen) :
    ∃ r : Int, c17 (x, n, ()) = some (r, ()) ∧ r ≤ n ∧ -1 ≤ r := by
  show ∃ r, f17s x n = some (r, ()) ∧ _
  unfold f17s
  simp only [maxLen] at h1 h2 h3
  rw [w64_in (x := n - _) (by omega) (by omega)]
  by_cases g1 : n - (x.2.1.length : Int) < 0
  · exact ⟨-1, by simp [g1], by omega, by omega⟩
  rw [w64_in (x := n - _ - _) (by omega) (by omega)]
  by_cases g2 : n - (x.2.1.length : Int) - (x.2.2.1.length : Int) < 0
  · exact ⟨-1, by simp [g1, g2], by omega, by omega⟩
  rw [w64_in (x := n - _ - _ - _) (by omega) (by omega)]
  by_cases g3 : n - (x.2.1.length : Int) - (x.2.2.1.length : Int) - (x.2.2.2.2.2.1.length : Int) < 0
  · exact ⟨-1, by simp [g1, g2, g3], by omega, by omega⟩
  · exact ⟨_, by (simp only [g1, g2, g3, decide_false, cond_false]; rfl), by omega, by omega⟩

theorem c11_any (x : tAct.D) (n : Int) (h0 : 0 ≤ n) (hn : n ≤ 1048576) (hw : Ty.wfD tAct x) : ∃ r : Int, c11 (x, n, ()) = some (r, ()) ∧ r ≤ n := by
  show ∃ r, f11s x n = some (r, ()) ∧ _
  unfold f11s
  simp only [Ty.wfD, Tys.wfD] at hw
  obtain ⟨_, _, _, _, _, _, ⟨_, w1, w2, _, _, w3, _⟩, w4, _⟩ := hw
  obtain ⟨r, h1, h2, h3⟩ := c17_any x.2.2.2.2.2.2.1 n h0 hn w1 w2 w3
  rw [h1]
  simp only [Option.bind_some, maxLen] at *
  by_cases g1 : r < 0
  · exact ⟨-1, by simp [g1], by omega⟩
  rw [w64_in (x := r - _) (by omega) (by omega)]
  by_cases g2 : r - (x.2.2.2.2.2.2.2.1.length : Int) < 0
  · exact ⟨-1, by simp [g1, g2], by omega⟩
  · exact ⟨_, by (simp only [g1, g2, decide_false, cond_false]; rfl), by omega⟩

theorem L4_any (l : List tAct.D) (hw : ∀ y, y ∈ l → Ty.wfD tAct y) (hl : l.length ≤ 1048576) : ∀ (k i m : Nat) (n : Int), i + k = l.length → k < m → 0 ≤ n → n ≤ 1048576 → ∃ r : Int, f4L5 m l n (i : Int) = some (r, ()) := by
  intro k
  induction k with
  | zero =>
    intro i m n hi hm h0 hn
    cases m with
    | zero => omega
    | succ m =>
      simp only [f4L5, f4b5]
      rw [show decide ((i : Int) < (l.length : Int)) = false by simp; omega]
      exact ⟨_, rfl⟩
  | succ k ih =>
    intro i m n hi hm h0 hn
    cases m with
    | zero => omega
    | succ m =>
      simp only [f4L5, f4b5]
      have hlt : i < l.length := by omega
      rw [show decide ((i : Int) < (l.length : Int)) = true by simp; omega, ix_nat hlt]
      simp only [cond_true, Option.bind_some]
      obtain ⟨r, h1, h2⟩ := c11_any (gd tAct l i) n h0 hn (hw _ (by rw [gd_eq_get hlt]; exact List.getElem_mem hlt))
      rw [h1]
      simp only [Option.bind_some]
      by_cases g1 : r < 0
      · exact ⟨-1, by simp [g1]⟩
      · simp only [g1, decide_false, cond_false]
        rw [w64_in (x := (i : Int) + 1) (by omega) (by omega)]
        exact ih (i + 1) m r (by omega) (by omega) (by omega) (by omega)

theorem BIG_eq : BIG = 18446744073709551616 := by unfold BIG; rfl

theorem c4_any (l : List tAct.D) (hw : ∀ y, y ∈ l → Ty.wfD tAct y) (hl : l.length ≤ maxLen) : ∃ r : Int, c4 (l, 1048576, ()) = some (r, ()) ∧ (0 ≤ r → l.length ≤ 1048576) := by
  show ∃ r, f4s (f4L5 BIG) l 1048576 = some (r, ()) ∧ _
  unfold f4s
  simp only [maxLen] at hl
  rw [w64_in (x := 1048576 - _) (by omega) (by omega)]
  by_cases g1 : (1048576 : Int) - (l.length : Int) < 0
  · exact ⟨-1, by simp [g1], by omega⟩
  · simp only [g1, decide_false, cond_false]
    obtain ⟨r, h⟩ := L4_any l hw (by omega) l.length 0 BIG (1048576 - l.length) (by omega) (by rw [BIG_eq]; omega) (by omega) (by omega)
    exact ⟨r, h, by omega⟩

/-! ### copies -/
theorem c18_eq (x : tCall.D) : c18 (x, ()) = some (x, ()) := rfl
theorem c13_eq (x : tAct.D) : c13 (x, ()) = some (x, ()) := rfl

theorem L6_eq (l : List tAct.D) (hl : l.length ≤ 1048576) : ∀ (k i m : Nat) (x : List tAct.D), i + k = l.length → k < m → x.length = l.length → x.take i = l.take i → f6L3 m l (i : Int) x = some (l, ()) := by
  intro k
  induction k with
  | zero =>
    intro i m x hi hm hx ht
    cases m with
    | zero => omega
    | succ m =>
      simp only [f6L3, f6b3]
      rw [show decide ((i : Int) < (l.length : Int)) = false by simp; omega]
      rw [List.take_of_length_le (by omega), List.take_of_length_le (by omega)] at ht
      rw [ht]; rfl
  | succ k ih =>
    intro i m x hi hm hx ht
    cases m with
    | zero => omega
    | succ m =>
      simp only [f6L3, f6b3]
      have hlt : i < l.length := by omega
      rw [show decide ((i : Int) < (l.length : Int)) = true by simp; omega, ix_nat hlt, ix_nat (hx ▸ hlt)]
      simp only [cond_true, Option.bind_some, c13_eq, Nat.zero_add]
      rw [w64_in (x := (i : Int) + 1) (by omega) (by omega)]
      refine ih (i + 1) m _ (by omega) (by omega) (by simpa using hx) ?_
      rw [gd_eq_get hlt, List.take_succ_eq_append_getElem hlt, ← ht, List.take_succ_eq_append_getElem (by simpa using hx ▸ hlt), List.take_set_of_le (by omega)]
      simp

theorem c6_eq (l : List tAct.D) (hl : l.length ≤ 1048576) : c6 (l, ()) = some (l, ()) := by
  show f6s (f6L3 BIG) l = _
  unfold f6s
  have h1 : (Int.toNat (l.length : Int)) = l.length := by simp
  rw [h1, room_of (by omega)]
  rw [show (decide (0 ≤ (l.length : Int)) && decide ((l.length : Int) = (l.length : Int)) && true) = true by simp]
  simp only [cond_true]
  exact L6_eq l hl l.length 0 BIG _ (by omega) (by rw [BIG_eq]; omega) (by simp) (by simp)

/-! ### Erase -/
def keeps (t : Int) (a : tAct.D) : Bool := !(decide (a.1 ≥ 11) && decide (a.1 ≤ 16)) || a.2.1 != t

theorem L5_eq (l : List tAct.D) (t : Int) (hl : l.length ≤ 1048576) : ∀ (k i m : Nat) (x : List tAct.D), i + k = l.length → k < m → x.length ≤ i → f5L3 m l t (i : Int) x = some (x ++ (l.drop i).filter (keeps t), ()) := by
  intro k
  induction k with
  | zero =>
    intro i m x hi hm hx
    cases m with
    | zero => omega
    | succ m =>
      simp only [f5L3, f5b3]
      rw [show decide ((i : Int) < (l.length : Int)) = false by simp; omega]
      rw [List.drop_of_length_le (by omega)]
      simp
  | succ k ih =>
    intro i m x hi hm hx
    cases m with
    | zero => omega
    | succ m =>
      simp only [f5L3, f5b3]
      have hlt : i < l.length := by omega
      rw [show decide ((i : Int) < (l.length : Int)) = true by simp; omega, ix_nat hlt]
      simp only [cond_true, Option.bind_some, c12_eq, gd_eq_get hlt]
      rw [w64_in (x := (i : Int) + 1) (by omega) (by omega), room_of (by simp; omega), List.drop_eq_getElem_cons hlt]
      have ih1 := ih (i + 1) m x (by omega) (by omega) (by omega)
      have ih2 := ih (i + 1) m (x ++ [l[i]]) (by omega) (by omega) (by simp; omega)
      simp only [Int.natCast_add, Int.cast_ofNat_Int] at ih1 ih2
      cases h1 : (!(decide (l[i].1 ≥ 11) && decide (l[i].1 ≤ 16)))
      · cases h2 : (l[i].2.1 != t)
        · simp only [cond_false]
          rw [List.filter_cons_of_neg (by simp [keeps, h1, h2])]
          exact ih1
        · simp only [cond_false, cond_true]
          rw [List.filter_cons_of_pos (by simp [keeps, h1, h2])]
          rw [ih2]; simp
      · simp only [cond_true]
        rw [List.filter_cons_of_pos (by simp [keeps, h1])]
        rw [ih2]; simp

theorem c5_eq (l : List tAct.D) (t : Int) (hl : l.length ≤ 1048576) : c5 (l, t, ()) = some (l.filter (keeps t), ()) := by
  show f5s (f5L3 BIG) l t = _
  unfold f5s
  have := L5_eq l t hl l.length 0 BIG [] (by omega) (by rw [BIG_eq]; omega) (by simp)
  simpa using this

theorem L7_eq (l : List tAct.D) (t : Int) (hl : l.length ≤ 1048576) : ∀ (k i m : Nat) (x : List tAct.D), i + k = l.length → k < m → x.length ≤ i → f7L3 m t l (l.length : Int) (i : Int) x = some (x ++ (l.drop i).filter (keeps t), ()) := by
  intro k
  induction k with
  | zero =>
    intro i m x hi hm hx
    cases m with
    | zero => omega
    | succ m =>
      simp only [f7L3, f7b3]
      rw [show decide ((i : Int) < (l.length : Int)) = false by simp; omega]
      rw [List.drop_of_length_le (by omega)]
      simp
  | succ k ih =>
    intro i m x hi hm hx
    cases m with
    | zero => omega
    | succ m =>
      simp only [f7L3, f7b3]
      have hlt : i < l.length := by omega
      rw [show decide ((i : Int) < (l.length : Int)) = true by simp; omega, ix_nat hlt]
      simp only [cond_true, Option.bind_some, c14_eq, gd_eq_get hlt]
      rw [w64_in (x := (i : Int) + 1) (by omega) (by omega), room_of (by simp; omega), List.drop_eq_getElem_cons hlt]
      have ih1 := ih (i + 1) m x (by omega) (by omega) (by omega)
      have ih2 := ih (i + 1) m (x ++ [l[i]]) (by omega) (by omega) (by simp; omega)
      simp only [Int.natCast_add, Int.cast_ofNat_Int] at ih1 ih2
      cases h1 : (!(decide (l[i].1 ≥ 11) && decide (l[i].1 ≤ 16)))
      · cases h2 : (l[i].2.1 != t)
        · simp only [cond_false]
          rw [List.filter_cons_of_neg (by simp [keeps, h1, h2])]
          exact ih1
        · simp only [cond_false, cond_true]
          rw [List.filter_cons_of_pos (by simp [keeps, h1, h2])]
          rw [ih2]; simp
      · simp only [cond_true]
        rw [List.filter_cons_of_pos (by simp [keeps, h1])]
        rw [ih2]; simp

theorem c7_eq (l : List tAct.D) (t : Int) (hl : l.length ≤ 1048576) : c7 (l, t, ()) = some (l.filter (keeps t), ()) := by
  show f7s (f7L3 BIG) l t = _
  unfold f7s
  have := L7_eq l t hl l.length 0 BIG [] (by omega) (by rw [BIG_eq]; omega) (by simp)
  simpa using this

/-! ### equality -/
theorem c19_refl (x : tCall.D) : c19 (x, x, ()) = some (true, ()) := by
  show f19s x x = _
  simp [f19s, eqS_refl]
theorem c15_refl (x : tAct.D) : c15 (x, x, ()) = some (true, ()) := by
  show f15s x x = _
  unfold f15s
  rw [c19_refl]
  simp [eqS_refl]

theorem L8_refl (l : List tAct.D) (hl : l.length ≤ 1048576) : ∀ (k i m : Nat), i + k = l.length → k < m → f8L4 m l l (i : Int) = some (true, ()) := by
  intro k
  induction k with
  | zero =>
    intro i m hi hm
    cases m with
    | zero => omega
    | succ m =>
      simp only [f8L4, f8b4]
      rw [show decide ((i : Int) < (l.length : Int)) = false by simp; omega]
      rfl
  | succ k ih =>
    intro i m hi hm
    cases m with
    | zero => omega
    | succ m =>
      simp only [f8L4, f8b4]
      have hlt : i < l.length := by omega
      rw [show decide ((i : Int) < (l.length : Int)) = true by simp; omega, ix_nat hlt]
      simp only [cond_true, Option.bind_some]
      rw [c15_refl]
      simp only [Option.bind_some, Bool.not_true, cond_false]
      rw [w64_in (x := (i : Int) + 1) (by omega) (by omega)]
      exact ih (i + 1) m (by omega) (by omega)

theorem c8_refl (l : List tAct.D) (hl : l.length ≤ 1048576) : c8 (l, l, ()) = some (true, ()) := by
  show f8s (f8L4 BIG) l l = _
  unfold f8s
  simp only [bne_self_eq_false, cond_false]
  exact L8_refl l hl l.length 0 BIG (by omega) (by rw [BIG_eq]; omega)

end Go.LM.Er
