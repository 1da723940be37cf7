/- Entries are taken alike. Conditions: each theorem's own hypotheses. -/
import Derived.Test.YtocainfijnkglaaGreatCCoI
set_option linter.unusedSimpArgs false
set_option linter.unusedVariables false
namespace Go.LM.Pg

theorem part_part {α : Type} (l : List α) {lo n : Nat} (h : lo + n ≤ l.length) : (part l lo n).length = n := by
  unfold part; rw [List.length_take, List.length_drop]; omega

section
variable (c : Core) (m : Msg)

/-- agreed on up to a commit, but not beyond what is there -/
def Core.agree (c : Core) (commit i : Int) : Core := { c with commit := max c.commit (min commit i) }
/-- entries put at the end, as far as there is room -/
def Core.adds (c : Core) (commit p : Int) (l : List Ent) : Core × List Msg :=
  let y := { c with log := (c.log ++ l).take 60 }
  (y.agree commit y.last, (y.agree commit y.last).told p true y.last)
theorem takes_nil (commit p i : Int) : c.takes commit p i [] = (c.agree commit i, (c.agree commit i).told p true i) := rfl
theorem takes_cons (commit p i : Int) (e : Ent) (l : List Ent) : c.takes commit p i (e :: l) =
    if i + 1 ≤ c.last ∧ c.tm (i + 1) = et e then c.takes commit p (i + 1) l
    else if i + 1 ≤ c.commit then (c, []) else Core.adds { c with log := c.log.take (i - c.base).toNat } commit p (e :: l) := rfl

theorem sAgree (h : c.Sz) (e : Int) : (cond (decide (m.commit < e))
      (cond (decide (m.commit > c.commit))
        ((spec_l13Told (Core.d { c with commit := m.commit }, m.src, true, e, ())).bind fun v4 => some (Core.d { c with commit := m.commit }, v4.1, ()))
        ((spec_l13Told (c.d, m.src, true, e, ())).bind fun v5 => some (c.d, v5.1, ())))
      (cond (decide (e > c.commit))
        ((spec_l13Told (Core.d { c with commit := e }, m.src, true, e, ())).bind fun v6 => some (Core.d { c with commit := e }, v6.1, ()))
        ((spec_l13Told (c.d, m.src, true, e, ())).bind fun v7 => some (c.d, v7.1, ())))) = some ((c.agree m.commit e).d, ((c.agree m.commit e).told m.src true e).map Msg.d, ()) := by
  unfold Core.agree
  by_cases h1 : m.commit < e
  · rw [dec_t h1]
    by_cases h2 : m.commit > c.commit
    · rw [dec_t h2, show max c.commit (min m.commit e) = m.commit by omega]; rfl
    · rw [dec_f h2, show max c.commit (min m.commit e) = c.commit by omega]; rfl
  · rw [dec_f h1]
    by_cases h2 : e > c.commit
    · rw [dec_t h2, show max c.commit (min m.commit e) = e by omega]; rfl
    · rw [dec_f h2, show max c.commit (min m.commit e) = c.commit by omega]; rfl

theorem sAdds (l : List Ent) (hl : l.length ≤ 1000) (a : Int) (ha : 0 ≤ a ∧ a ≤ 1000000) (z : tCore.D) : ∀ (r k q : Nat) (c : Core), c.Sz → c.log.length ≤ 60 → c.commit ≤ c.last → k + r = l.length → a + (k : Int) = c.last → 3 * r + 3 ≤ q →
    (spec_l13App_L q).k24 l a c.last (k : Int) c.d m.d z = some ((c.adds m.commit m.src (l.drop k)).1.d, (c.adds m.commit m.src (l.drop k)).2.map Msg.d, ()) := by
  intro r
  induction r with
  | zero =>
    intro k q c h h6 hc hk hak hq
    obtain ⟨q, rfl, _⟩ := fuel (show 2 < q by omega)
    show spec_l13App_b24 (spec_l13App_L q) _ _ _ _ _ _ _ = _
    unfold spec_l13App_b24
    simp -index only [Core.mk_d, Core.p0, Core.p1, Core.p2, Core.p3, Core.p4, Core.p5, Core.p6, Core.p7, Core.p8, Core.p9, Core.p10, Core.p11, Core.p12, Msg.mk_d, Msg.p0, Msg.p1, Msg.p2, Msg.p3, Msg.p4, Msg.p5, Msg.p6, Msg.p7, Msg.p8, Msg.p9]
    rw [dec_f (by omega), List.drop_of_length_le (by omega)]
    simp only [cond_false]
    have e : c.adds m.commit m.src [] = (c.agree m.commit c.last, (c.agree m.commit c.last).told m.src true c.last) := by
      unfold Core.adds
      rw [List.append_nil, List.take_of_length_le h6]
    rw [e]
    exact sAgree c m h c.last
  | succ r ih =>
    intro k q c h h6 hc hk hak hq
    obtain ⟨q, rfl⟩ : ∃ p, q = p + 3 := ⟨q - 3, by omega⟩
    have := h.b0; have := h.b1; have := h.len
    have hlast : c.last = c.base + (c.log.length : Int) := rfl
    have hlt : k < l.length := by omega
    show spec_l13App_b24 (spec_l13App_L (q + 2)) _ _ _ _ _ _ _ = _
    unfold spec_l13App_b24
    rw [dec_t (by omega), sLast c h, ix_nat hlt, w64_sm (a := a + 1) (by omega) (by omega), w64_sm (a := a + 1 + (k : Int)) (by omega) (by omega)]
    simp only [cond_true, Option.bind_some]
    rw [dec_f (by omega)]
    simp only [cond_false]
    show spec_l13App_b29 (spec_l13App_L (q + 1)) l a c.last (k : Int) (a + 1 + (k : Int)) c.d m.d z = _
    unfold spec_l13App_b29
    simp -index only [Core.mk_d, Core.p0, Core.p1, Core.p2, Core.p3, Core.p4, Core.p5, Core.p6, Core.p7, Core.p8, Core.p9, Core.p10, Core.p11, Core.p12]
    rw [dec_f (by omega), sLast c h]
    simp only [cond_false, Option.bind_some]
    rw [dec_f (by omega)]
    simp only [cond_false]
    show spec_l13App_b33 (spec_l13App_L q) l a c.last (k : Int) (a + 1 + (k : Int)) _ 0 c.log.length c.log m.d z = _
    unfold spec_l13App_b33
    simp -index only [Core.mk_d, Core.p0, Core.p1, Core.p2, Core.p3, Core.p4, Core.p5, Core.p6, Core.p7, Core.p8, Core.p9, Core.p10, Core.p11, Core.p12, Msg.mk_d, Msg.p0, Msg.p1, Msg.p2, Msg.p3, Msg.p4, Msg.p5, Msg.p6, Msg.p7, Msg.p8, Msg.p9, part_all]
    rw [drop_cons (t := tEntry) hlt]
    by_cases hr : (c.log.length : Int) < 60
    · rw [dec_t hr, ix_nat hlt]
      simp only [cond_true, Option.bind_some]
      rw [room_t (by simp; omega), w64_sm (a := (k : Int) + 1) (by omega) (by omega)]
      simp only [cond_true]
      let x : Core := { c with log := c.log ++ [gd tEntry l k] }
      have hx : x.last = a + 1 + (k : Int) := by
        show c.base + ((c.log ++ [gd tEntry l k]).length : Int) = _
        rw [List.length_append, List.length_singleton]; omega
      have := ih (k + 1) q x ⟨h.b0, h.b1, by show (c.log ++ _).length ≤ 1000; simp; omega⟩ (by show (c.log ++ _).length ≤ 60; simp; omega) (by rw [hx]; show c.commit ≤ _; omega) (by omega) (by rw [hx]; omega) (by omega)
      rw [hx] at this
      simp only [Int.natCast_add, Int.cast_ofNat_Int] at this
      refine Eq.trans this ?_
      have e : x.adds m.commit m.src (l.drop (k + 1)) = c.adds m.commit m.src (gd tEntry l k :: l.drop (k + 1)) := by
        unfold Core.adds
        simp only [x, List.append_assoc, List.singleton_append]
      rw [e]
    · rw [dec_f hr]
      simp only [cond_false]
      have e : c.adds m.commit m.src (gd tEntry l k :: l.drop (k + 1)) = (c.agree m.commit c.last, (c.agree m.commit c.last).told m.src true c.last) := by
        unfold Core.adds
        rw [List.take_append_of_le_length (by omega), List.take_of_length_le h6]
      rw [e]
      exact sAgree c m h c.last

theorem sTakes (h : c.Sz) (h6 : c.log.length ≤ 60) (hc : c.commit ≤ c.last) (hb : c.base ≤ c.commit) (l : List Ent) (hl : l.length ≤ 1000) (a : Int) (ha : c.base ≤ a) (z : tCore.D) : ∀ (r k q : Nat), k + r = l.length → a + (k : Int) ≤ c.last → 6 * r + 6 ≤ q →
    (spec_l13App_L q).k24 l a (a + (k : Int)) (k : Int) c.d m.d z = some ((c.takes m.commit m.src (a + (k : Int)) (l.drop k)).1.d, (c.takes m.commit m.src (a + (k : Int)) (l.drop k)).2.map Msg.d, ()) := by
  have := h.b0; have := h.b1; have := h.len
  have hlast : c.last = c.base + (c.log.length : Int) := rfl
  intro r
  induction r with
  | zero =>
    intro k q hk hak hq
    obtain ⟨q, rfl, _⟩ := fuel (show 2 < q by omega)
    show spec_l13App_b24 (spec_l13App_L q) _ _ _ _ _ _ _ = _
    unfold spec_l13App_b24
    simp -index only [Core.mk_d, Core.p0, Core.p1, Core.p2, Core.p3, Core.p4, Core.p5, Core.p6, Core.p7, Core.p8, Core.p9, Core.p10, Core.p11, Core.p12, Msg.mk_d, Msg.p0, Msg.p1, Msg.p2, Msg.p3, Msg.p4, Msg.p5, Msg.p6, Msg.p7, Msg.p8, Msg.p9]
    rw [dec_f (by omega), List.drop_of_length_le (by omega), takes_nil]
    exact sAgree c m h _
  | succ r ih =>
    intro k q hk hak hq
    obtain ⟨q, rfl⟩ : ∃ p, q = p + 3 := ⟨q - 3, by omega⟩
    have hlt : k < l.length := by omega
    have h29 : ¬ (a + (k : Int) + 1 ≤ c.last ∧ c.tm (a + (k : Int) + 1) = (gd tEntry l k).1) → (spec_l13App_L (q + 2)).k29 l a (a + (k : Int)) (k : Int) (a + 1 + (k : Int)) c.d m.d z = some ((c.takes m.commit m.src (a + (k : Int)) (l.drop k)).1.d, (c.takes m.commit m.src (a + (k : Int)) (l.drop k)).2.map Msg.d, ()) := by
      intro hno
      rw [drop_cons (t := tEntry) hlt, takes_cons, if_neg hno]
      show spec_l13App_b29 (spec_l13App_L (q + 1)) l a (a + (k : Int)) (k : Int) (a + 1 + (k : Int)) c.d m.d z = _
      unfold spec_l13App_b29
      simp -index only [Core.mk_d, Core.p0, Core.p1, Core.p2, Core.p3, Core.p4, Core.p5, Core.p6, Core.p7, Core.p8, Core.p9, Core.p10, Core.p11, Core.p12]
      by_cases hcm : a + (k : Int) + 1 ≤ c.commit
      · rw [dec_t (by omega), if_pos hcm]; rfl
      rw [dec_f (by omega), if_neg hcm, sLast c h]
      simp only [cond_false, Option.bind_some]
      -- the log up to there
      let y : Core := { c with log := c.log.take (a + (k : Int) - c.base).toNat }
      have hyl : y.log.length = (a + (k : Int) - c.base).toNat := by show (c.log.take _).length = _; rw [List.length_take]; omega
      have hylast : y.last = a + (k : Int) := by
        show c.base + (y.log.length : Int) = _
        rw [hyl]; omega
      have h33 : ∀ lo n, part c.log lo n = y.log → n = y.log.length → (spec_l13App_L (q + 1)).k33 l a (a + (k : Int)) (k : Int) (a + 1 + (k : Int)) (Core.d { c with log := [] }) lo n c.log m.d z = some ((y.adds m.commit m.src (gd tEntry l k :: l.drop (k + 1))).1.d, (y.adds m.commit m.src (gd tEntry l k :: l.drop (k + 1))).2.map Msg.d, ()) := by
        intro lo n hp hn
        show spec_l13App_b33 (spec_l13App_L q) l a (a + (k : Int)) (k : Int) (a + 1 + (k : Int)) _ lo n c.log m.d z = _
        unfold spec_l13App_b33
        simp -index only [Core.mk_d, Core.p0, Core.p1, Core.p2, Core.p3, Core.p4, Core.p5, Core.p6, Core.p7, Core.p8, Core.p9, Core.p10, Core.p11, Core.p12, Msg.mk_d, Msg.p0, Msg.p1, Msg.p2, Msg.p3, Msg.p4, Msg.p5, Msg.p6, Msg.p7, Msg.p8, Msg.p9, hp]
        by_cases hr : (n : Int) < 60
        · rw [dec_t hr, ix_nat hlt]
          simp only [cond_true, Option.bind_some]
          rw [room_t (by simp; omega), w64_sm (a := (k : Int) + 1) (by omega) (by omega)]
          simp only [cond_true]
          let x : Core := { c with log := y.log ++ [gd tEntry l k] }
          have hx : x.last = a + 1 + (k : Int) := by
            show c.base + ((y.log ++ [gd tEntry l k]).length : Int) = _
            rw [List.length_append, List.length_singleton, hyl]; omega
          have := sAdds m l hl a ⟨by omega, by omega⟩ z r (k + 1) q x ⟨h.b0, h.b1, by show (y.log ++ _).length ≤ 1000; simp; omega⟩ (by show (y.log ++ _).length ≤ 60; simp; omega) (by rw [hx]; show c.commit ≤ _; omega) (by omega) (by rw [hx]; omega) (by omega)
          rw [hx] at this
          simp only [Int.natCast_add, Int.cast_ofNat_Int] at this
          refine Eq.trans this ?_
          have e : x.adds m.commit m.src (l.drop (k + 1)) = y.adds m.commit m.src (gd tEntry l k :: l.drop (k + 1)) := by
            unfold Core.adds
            simp only [x, y, List.append_assoc, List.singleton_append]
          rw [e]
        · rw [dec_f hr]
          simp only [cond_false]
          have h60 : y.log.length ≤ 60 := by rw [hyl]; omega
          have e : y.adds m.commit m.src (gd tEntry l k :: l.drop (k + 1)) = (y.agree m.commit y.last, (y.agree m.commit y.last).told m.src true y.last) := by
            unfold Core.adds
            rw [List.take_append_of_le_length (by omega), List.take_of_length_le h60]
          rw [e, hylast]
          exact sAgree y m ⟨h.b0, h.b1, by omega⟩ _
      by_cases hle : a + 1 + (k : Int) ≤ c.last
      · rw [dec_t hle, w64_sm (a := a + 1 + (k : Int) - c.base) (by omega) (by omega), w64_sm (a := a + 1 + (k : Int) - c.base - 1) (by omega) (by omega), rng_int (by omega) (by omega) (by omega)]
        simp only [cond_true, Option.bind_some]
        rw [h33 _ _ (by simp only [Int.toNat_zero, Nat.zero_add, Nat.sub_zero, part_take, y]; congr 1; omega) (by rw [hyl]; omega)]
      · rw [dec_f hle]
        simp only [cond_false]
        rw [h33 0 c.log.length (by rw [part_all]; show c.log = c.log.take _; rw [List.take_of_length_le (by omega)]) (by rw [hyl]; omega)]
    show spec_l13App_b24 (spec_l13App_L (q + 2)) _ _ _ _ _ _ _ = _
    unfold spec_l13App_b24
    rw [dec_t (by omega), sLast c h, ix_nat hlt, w64_sm (a := a + 1) (by omega) (by omega), w64_sm (a := a + 1 + (k : Int)) (by omega) (by omega)]
    simp only [cond_true, Option.bind_some]
    by_cases hle : a + 1 + (k : Int) ≤ c.last
    · rw [dec_t hle, sTerm c h _ ⟨by omega, hle⟩]
      simp only [cond_true, Option.bind_some]
      rw [show a + 1 + (k : Int) = a + (k : Int) + 1 by omega] at *
      by_cases ht : c.tm (a + (k : Int) + 1) = (gd tEntry l k).1
      · rw [beq_t ht, w64_sm (a := (k : Int) + 1) (by omega) (by omega), drop_cons (t := tEntry) hlt, takes_cons, if_pos ⟨hle, ht⟩]
        have := ih (k + 1) (q + 2) (by omega) (by omega) (by omega)
        simp only [Int.natCast_add, Int.cast_ofNat_Int, ← Int.add_assoc] at this
        exact this
      · rw [beq_f ht]
        exact h29 fun h => ht h.2
    · rw [dec_f hle]
      exact h29 fun h => hle (by omega)
end
end Go.LM.Pg
