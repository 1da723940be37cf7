/- Marks of the law 'FnExactErase', as plain functions. Conditions: each theorem's own hypotheses. -/
import Derived.Test.YtocainfijnkglaaErC
set_option linter.unusedSimpArgs false
set_option linter.unusedVariables false
namespace Go.LM.Er

/-! ### marks -/
theorem L16_any : ∀ (d m : Nat) (x : Int) (acc : List UInt8), 0 ≤ x → x < 10 ^ d → d ≤ 19 → acc.length + d ≤ 100 → d < m → ∃ s, f16L4 m x acc = some (s, ()) := by
  intro d
  induction d with
  | zero =>
    intro m x acc h0 hx hd ha hm
    cases m with
    | zero => omega
    | succ m =>
      simp only [f16L4, f16b4]
      have : x = 0 := by simp at hx; omega
      subst this
      rw [show decide ((0 : Int) > 0) = false by simp]
      simp only [cond_false]
      rw [room_of (by simp; omega)]
      exact ⟨_, rfl⟩
  | succ d ih =>
    intro m x acc h0 hx hd ha hm
    cases m with
    | zero => omega
    | succ m =>
      simp only [f16L4, f16b4]
      by_cases hp : x > 0
      · rw [show decide (x > 0) = true by simp [hp], room_of (by simp [bytesStr]; omega)]
        simp only [cond_true]
        have hb : (10 : Int) ^ d ≤ 10 ^ 18 := by
          have h1 : (10 : Nat) ^ d ≤ 10 ^ 18 := Nat.pow_le_pow_right (by omega) (by omega)
          have h2 : ((10 ^ d : Nat) : Int) ≤ ((10 ^ 18 : Nat) : Int) := Int.ofNat_le.2 h1
          simpa using h2
        rw [Int.pow_succ] at hx
        have ht : Int.tdiv x 10 = x / 10 := by rw [Int.tdiv_eq_ediv_of_nonneg h0]
        rw [ht, w64_in (by omega) (by omega)]
        exact ih m _ _ (by omega) (by omega) (by omega) (by simp [bytesStr]; omega) (by omega)
      · rw [show decide (x > 0) = false by simp [hp]]
        simp only [cond_false]
        rw [room_of (by simp; omega)]
        exact ⟨_, rfl⟩

theorem c16_any (k : Int) (h : k < 1000000000) : ∃ s, c16 (k, ()) = some (s, ()) := by
  show ∃ s, f16s (f16L4 BIG) k = _
  unfold f16s
  by_cases hk : k ≤ 0
  · exact ⟨_, by simp [hk]; rfl⟩
  · rw [show decide (k ≤ 0) = false by simp [hk]]
    exact L16_any 9 BIG k [] (by omega) (by simpa using h) (by omega) (by simp) (by rw [BIG_eq]; omega)

/-- the text of a mark -/
noncomputable def mt (k : Int) : List UInt8 := match c16 (k, ()) with
  | some r => r.1
  | none => []
theorem c16_mt (k : Int) (h : k < 1000000000) : c16 (k, ()) = some (mt k, ()) := by
  obtain ⟨s, hs⟩ := c16_any k h
  unfold mt
  rw [hs]

/-- a marked element -/
noncomputable def mk (k : Int) : tAct.D := (k, k + 1, k + 2, k + 3, k + 4, k + 5, (k + 6, mt (k + 7), mt (k + 8), k + 9, k + 10, mt (k + 11), ()), mt (k + 12), ())

theorem plus_one (x : Int) (n : Int) (h : 0 ≤ x) (h' : x ≤ 1000000000) (hn : 0 ≤ n) (hn' : n ≤ 100) : w64 (x + n + 1) = x + (n + 1) := by
  rw [w64_in (by omega) (by omega)]; omega

set_option maxHeartbeats 4000000 in
theorem b9_step (K : Int → Int → List tAct.D → Option (Int × List tAct.D × Unit)) (k : Int) (i : Nat) (x : List tAct.D) (hk : 0 ≤ k) (hk' : k < 900000000) (hi : i < x.length) (hx : x.length ≤ 1048576) :
    f9b2 K k (i : Int) x = K (k + 13) ((i : Int) + 1) (x.set i (mk k)) := by
  have e1 : w64 (k + 1) = k + 1 := w64_in (by omega) (by omega)
  have e2 : w64 (k + 1 + 1) = k + 2 := plus_one k 1 (by omega) (by omega) (by omega) (by omega)
  have e3 : w64 (k + 2 + 1) = k + 3 := plus_one k 2 (by omega) (by omega) (by omega) (by omega)
  have e4 : w64 (k + 3 + 1) = k + 4 := plus_one k 3 (by omega) (by omega) (by omega) (by omega)
  have e5 : w64 (k + 4 + 1) = k + 5 := plus_one k 4 (by omega) (by omega) (by omega) (by omega)
  have e6 : w64 (k + 5 + 1) = k + 6 := plus_one k 5 (by omega) (by omega) (by omega) (by omega)
  have e7 : w64 (k + 6 + 1) = k + 7 := plus_one k 6 (by omega) (by omega) (by omega) (by omega)
  have e8 : w64 (k + 7 + 1) = k + 8 := plus_one k 7 (by omega) (by omega) (by omega) (by omega)
  have e9 : w64 (k + 8 + 1) = k + 9 := plus_one k 8 (by omega) (by omega) (by omega) (by omega)
  have e10 : w64 (k + 9 + 1) = k + 10 := plus_one k 9 (by omega) (by omega) (by omega) (by omega)
  have e11 : w64 (k + 10 + 1) = k + 11 := plus_one k 10 (by omega) (by omega) (by omega) (by omega)
  have e12 : w64 (k + 11 + 1) = k + 12 := plus_one k 11 (by omega) (by omega) (by omega) (by omega)
  have e13 : w64 (k + 12 + 1) = k + 13 := plus_one k 12 (by omega) (by omega) (by omega) (by omega)
  have ei : w64 ((i : Int) + 1) = (i : Int) + 1 := w64_in (by omega) (by omega)
  have hg : ∀ y : tAct.D, gd tAct (x.set i y) i = y := fun y => gd_set_same hi
  have hix : ix x.length (i : Int) = some i := ix_nat hi
  have c7 := c16_mt (k + 7) (by omega)
  have c8 := c16_mt (k + 8) (by omega)
  have c11 := c16_mt (k + 11) (by omega)
  have c12 := c16_mt (k + 12) (by omega)
  unfold f9b2
  rw [show decide ((i : Int) < (x.length : Int)) = true by simp; omega]
  simp only [cond_true, hix, Option.bind_some, Nat.zero_add]
  unfold f9b2_v2
  simp only [List.length_set, hix, Option.bind_some, Nat.zero_add, hg, List.set_set, e1, e2, e3, e4, e5, e6, e7, e8, e9, e10, e11, e12, e13, ei]
  unfold f9b2_v4
  simp only [List.length_set, hix, Option.bind_some, Nat.zero_add, hg, List.set_set, e1, e2, e3, e4, e5, e6, e7, e8, e9, e10, e11, e12, e13, ei]
  unfold f9b2_v6
  simp only [List.length_set, hix, Option.bind_some, Nat.zero_add, hg, List.set_set, e1, e2, e3, e4, e5, e6, e7, e8, e9, e10, e11, e12, e13, ei]
  unfold f9b2_v8
  simp only [List.length_set, hix, Option.bind_some, Nat.zero_add, hg, List.set_set, e1, e2, e3, e4, e5, e6, e7, e8, e9, e10, e11, e12, e13, ei]
  unfold f9b2_v10
  simp only [List.length_set, hix, Option.bind_some, Nat.zero_add, hg, List.set_set, e1, e2, e3, e4, e5, e6, e7, e8, e9, e10, e11, e12, e13, ei]
  unfold f9b2_v12
  simp only [List.length_set, hix, Option.bind_some, Nat.zero_add, hg, List.set_set, e1, e2, e3, e4, e5, e6, e7, e8, e9, e10, e11, e12, e13, ei]
  unfold f9b2_v14
  simp only [e1, e2, e3, e4, e5, e6, e7, e8, e9, e10, e11, e12, e13]
  first | rw [c7] | rw [c8] | rw [c11] | rw [c12]
  simp only [List.length_set, hix, Option.bind_some, Nat.zero_add, hg, List.set_set, e1, e2, e3, e4, e5, e6, e7, e8, e9, e10, e11, e12, e13, ei]
  unfold f9b2_v17
  simp only [e1, e2, e3, e4, e5, e6, e7, e8, e9, e10, e11, e12, e13]
  first | rw [c7] | rw [c8] | rw [c11] | rw [c12]
  simp only [List.length_set, hix, Option.bind_some, Nat.zero_add, hg, List.set_set, e1, e2, e3, e4, e5, e6, e7, e8, e9, e10, e11, e12, e13, ei]
  unfold f9b2_v20
  simp only [List.length_set, hix, Option.bind_some, Nat.zero_add, hg, List.set_set, e1, e2, e3, e4, e5, e6, e7, e8, e9, e10, e11, e12, e13, ei]
  unfold f9b2_v22
  simp only [List.length_set, hix, Option.bind_some, Nat.zero_add, hg, List.set_set, e1, e2, e3, e4, e5, e6, e7, e8, e9, e10, e11, e12, e13, ei]
  unfold f9b2_v24
  simp only [e1, e2, e3, e4, e5, e6, e7, e8, e9, e10, e11, e12, e13]
  first | rw [c7] | rw [c8] | rw [c11] | rw [c12]
  simp only [List.length_set, hix, Option.bind_some, Nat.zero_add, hg, List.set_set, e1, e2, e3, e4, e5, e6, e7, e8, e9, e10, e11, e12, e13, ei]
  unfold f9b2_v27
  simp only [e1, e2, e3, e4, e5, e6, e7, e8, e9, e10, e11, e12, e13]
  first | rw [c7] | rw [c8] | rw [c11] | rw [c12]
  simp only [List.length_set, hix, Option.bind_some, Nat.zero_add, hg, List.set_set, e1, e2, e3, e4, e5, e6, e7, e8, e9, e10, e11, e12, e13, ei]
  unfold f9b2_v30
  simp only [List.length_set, hix, Option.bind_some, Nat.zero_add, hg, List.set_set, e1, e2, e3, e4, e5, e6, e7, e8, e9, e10, e11, e12, e13, ei]
  rfl

set_option maxHeartbeats 4000000 in
theorem b10_step (K : List tAct.D → Int → Int → Option (Int × Unit)) (k : Int) (i : Nat) (x : List tAct.D) (hk : 0 ≤ k) (hk' : k < 900000000) (hi : i < x.length) (hx : x.length ≤ 1048576) (hm : gd tAct x i = mk k) :
    f10b2 K x k (i : Int) = K x (k + 13) ((i : Int) + 1) := by
  have e1 : w64 (k + 1) = k + 1 := w64_in (by omega) (by omega)
  have e2 : w64 (k + 1 + 1) = k + 2 := plus_one k 1 (by omega) (by omega) (by omega) (by omega)
  have e3 : w64 (k + 2 + 1) = k + 3 := plus_one k 2 (by omega) (by omega) (by omega) (by omega)
  have e4 : w64 (k + 3 + 1) = k + 4 := plus_one k 3 (by omega) (by omega) (by omega) (by omega)
  have e5 : w64 (k + 4 + 1) = k + 5 := plus_one k 4 (by omega) (by omega) (by omega) (by omega)
  have e6 : w64 (k + 5 + 1) = k + 6 := plus_one k 5 (by omega) (by omega) (by omega) (by omega)
  have e7 : w64 (k + 6 + 1) = k + 7 := plus_one k 6 (by omega) (by omega) (by omega) (by omega)
  have e8 : w64 (k + 7 + 1) = k + 8 := plus_one k 7 (by omega) (by omega) (by omega) (by omega)
  have e9 : w64 (k + 8 + 1) = k + 9 := plus_one k 8 (by omega) (by omega) (by omega) (by omega)
  have e10 : w64 (k + 9 + 1) = k + 10 := plus_one k 9 (by omega) (by omega) (by omega) (by omega)
  have e11 : w64 (k + 10 + 1) = k + 11 := plus_one k 10 (by omega) (by omega) (by omega) (by omega)
  have e12 : w64 (k + 11 + 1) = k + 12 := plus_one k 11 (by omega) (by omega) (by omega) (by omega)
  have e13 : w64 (k + 12 + 1) = k + 13 := plus_one k 12 (by omega) (by omega) (by omega) (by omega)
  have ei : w64 ((i : Int) + 1) = (i : Int) + 1 := w64_in (by omega) (by omega)
  have hix : ix x.length (i : Int) = some i := ix_nat hi
  unfold f10b2
  rw [show decide ((i : Int) < (x.length : Int)) = true by simp; omega]
  simp only [cond_true, hix, Option.bind_some, hm, e1, e2, e3, e4, e5, e6, e7, e8, e9, e10, e11, e12, e13, ei, mk, bne_self_eq_false, cond_false]
  rw [c16_mt (k + 7) (by omega)]
  simp only [Option.bind_some, eqS_refl, Bool.not_true, cond_false, bne_self_eq_false]
  rw [c16_mt (k + 8) (by omega)]
  simp only [Option.bind_some, eqS_refl, Bool.not_true, cond_false, bne_self_eq_false]
  rw [c16_mt (k + 11) (by omega)]
  simp only [Option.bind_some, eqS_refl, Bool.not_true, cond_false, bne_self_eq_false]
  rw [c16_mt (k + 12) (by omega)]
  simp only [Option.bind_some, eqS_refl, Bool.not_true, cond_false, bne_self_eq_false]

/-- all elements from i on are marked, from k on -/
def marked (x : List tAct.D) (i n : Nat) (k : Int) : Prop := ∀ j, i ≤ j → j < n → gd tAct x j = mk (k + 13 * ((j : Int) - i))

theorem L9_mark (n : Nat) (hn : n ≤ 1048576) : ∀ (r i m : Nat) (k : Int) (x : List tAct.D), i + r = n → r < m → x.length = n → 0 ≤ k → k + 13 * r < 900000000 →
    ∃ x', f9L2 m k (i : Int) x = some (k + 13 * r, x', ()) ∧ x'.length = n ∧ marked x' i n k ∧ ∀ j, j < i → gd tAct x' j = gd tAct x j := by
  intro r
  induction r with
  | zero =>
    intro i m k x hi hm hx hk hk'
    cases m with
    | zero => omega
    | succ m =>
      simp only [f9L2, f9b2]
      rw [show decide ((i : Int) < (x.length : Int)) = false by simp; omega]
      exact ⟨x, by simp, hx, fun j h1 h2 => by omega, fun _ _ => rfl⟩
  | succ r ih =>
    intro i m k x hi hm hx hk hk'
    cases m with
    | zero => omega
    | succ m =>
      simp only [f9L2]
      have hlt : i < x.length := by omega
      rw [b9_step _ k i x hk (by omega) hlt (by omega)]
      obtain ⟨x', h1, h2, h3, h4⟩ := ih (i + 1) m (k + 13) (x.set i (mk k)) (by omega) (by omega) (by simpa using hx) (by omega) (by omega)
      simp only [Int.natCast_add, Int.cast_ofNat_Int] at h1
      refine ⟨x', ?_, h2, ?_, ?_⟩
      · rw [h1]; congr 2; omega
      · intro j hj hj'
        by_cases he : j = i
        · subst he
          rw [h4 j (by omega), gd_set_same hlt]
          congr 1; omega
        · rw [h3 j (by omega) hj']
          congr 1; omega
      · intro j hj
        rw [h4 j (by omega), gd_eq_get (by simp; omega), gd_eq_get (by omega), List.getElem_set_ne (by omega)]

theorem c9_mark (l : List tAct.D) (hl : l.length ≤ 1048576) : ∃ l', c9 (l, 1, ()) = some (1 + 13 * (l.length : Int), l', ()) ∧ l'.length = l.length ∧ marked l' 0 l.length 1 := by
  obtain ⟨x', h1, h2, h3, _⟩ := L9_mark l.length hl l.length 0 BIG 1 l (by omega) (by rw [BIG_eq]; omega) rfl (by omega) (by omega)
  exact ⟨x', h1, h2, h3⟩

theorem L10_held (n : Nat) (hn : n ≤ 1048576) (x : List tAct.D) (hx : x.length = n) : ∀ (r i m : Nat) (k : Int), i + r = n → r < m → 0 ≤ k → k + 13 * r < 900000000 → marked x i n k → f10L2 m x k (i : Int) = some (k + 13 * r, ()) := by
  intro r
  induction r with
  | zero =>
    intro i m k hi hm hk hk' hmk
    cases m with
    | zero => omega
    | succ m =>
      simp only [f10L2, f10b2]
      rw [show decide ((i : Int) < (x.length : Int)) = false by simp; omega]
      simp
  | succ r ih =>
    intro i m k hi hm hk hk' hmk
    cases m with
    | zero => omega
    | succ m =>
      simp only [f10L2]
      have h0 := hmk i (Nat.le_refl _) (by omega)
      rw [show k + 13 * ((i : Int) - i) = k by omega] at h0
      rw [b10_step _ k i x hk (by omega) (by omega) (by omega) h0]
      have := ih (i + 1) m (k + 13) (by omega) (by omega) (by omega) (by omega) (fun j h1 h2 => by rw [hmk j (by omega) h2]; congr 1; omega)
      simp only [Int.natCast_add, Int.cast_ofNat_Int] at this
      rw [this]; congr 2; omega

theorem c10_held (l : List tAct.D) (n : Nat) (h : l.length = n) (hl : n ≤ 1048576) (hm : marked l 0 n 1) : c10 (l, 1, ()) = some (1 + 13 * (n : Int), ()) :=
  L10_held n hl l h n 0 BIG 1 (by omega) (by rw [BIG_eq]; omega) (by omega) (by omega) hm

/-! ### the law -/
theorem c3_true (l : List tAct.D) (t : Int) (hw : Ty.wfD (.sl tAct) l) : c3 (l, t, ()) = some (true, ()) := by
  show f3s l t = _
  unfold f3s
  simp only [Ty.wfD] at hw
  obtain ⟨r, h4, h4'⟩ := c4_any l (by simpa only [Ty.wfD] using hw.2) hw.1
  rw [h4]
  simp only [Option.bind_some]
  by_cases hr : r < 0
  · simp [hr]
  have hl := h4' (by omega)
  have hf : (l.filter (keeps t)).length ≤ 1048576 := Nat.le_trans (List.length_filter_le _ _) hl
  rw [show decide (r < 0) = false by simp [hr]]
  simp only [cond_false]
  obtain ⟨g, h9, g1, g2⟩ := c9_mark _ hf
  obtain ⟨x', h9', _, _⟩ := c9_mark _ hl
  have e1 : ¬ (1 + 13 * ((l.length : Nat) : Int) < 0) := by omega
  have e2 : ¬ (1 + 13 * (((l.filter (keeps t)).length : Nat) : Int) < 0) := by omega
  rw [c6_eq l hl]; simp only [Option.bind_some]
  rw [c5_eq l t hl]; simp only [Option.bind_some]
  rw [c7_eq l t hl]; simp only [Option.bind_some]
  rw [c8_refl _ hf]; simp only [Option.bind_some, Bool.not_true, cond_false]
  rw [c8_refl _ hl]; simp only [Option.bind_some, Bool.not_true, cond_false]
  rw [h9']; simp only [Option.bind_some, e1, decide_false, cond_false]
  rw [h9]; simp only [Option.bind_some]
  rw [c10_held g _ g1 hf g2]; simp only [Option.bind_some, e2, decide_false, cond_false, bne_self_eq_false]

end Go.LM.Er
