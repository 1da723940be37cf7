/- Entries are heard alike. Conditions: each theorem's own hypotheses. -/
import Derived.Test.YtocainfijnkglaaGreatCCoJ
set_option linter.unusedSimpArgs false
set_option linter.unusedVariables false
namespace Go.LM.Pg

section
variable (c : Core) (m : Msg)

theorem iAddsGo (h : c.Sz) (l : List Ent) (hl : l.length ≤ 1000) : ∀ (r k q lo n : Nat) (row : List Ent), k + r = l.length → r < q → lo + n ≤ row.length → n ≤ 60 →
    (impl_Core_takes_L q).k12 l (l.length : Int) (k : Int) (Core.d { c with log := [] }) lo n row m.d = some ((Core.adds { c with log := part row lo n } m.commit m.src (l.drop k)).2.map Msg.d, (Core.adds { c with log := part row lo n } m.commit m.src (l.drop k)).1.d, ()) := by
  intro r
  induction r with
  | zero =>
    intro k q lo n row hk hq hlo hn
    obtain ⟨q, rfl, _⟩ := fuel hq
    have hpl := part_part row hlo
    show impl_Core_takes_b12 (impl_Core_takes_L q) _ _ _ _ _ _ _ _ = _
    unfold impl_Core_takes_b12
    simp -index only [Core.mk_d, Core.p0, Core.p1, Core.p2, Core.p3, Core.p4, Core.p5, Core.p6, Core.p7, Core.p8, Core.p9, Core.p10, Core.p11, Core.p12, Msg.mk_d, Msg.p0, Msg.p1, Msg.p2, Msg.p3, Msg.p4, Msg.p5, Msg.p6, Msg.p7, Msg.p8, Msg.p9]
    rw [dec_f (by omega), List.drop_of_length_le (by omega), iLast _ (by exact ⟨h.b0, h.b1, by show (part row lo n).length ≤ 1000; omega⟩)]
    simp only [cond_false, Option.bind_some, mx_eq, mn_eq]
    let y : Core := { c with log := part row lo n }
    have e : y.adds m.commit m.src [] = (y.agree m.commit y.last, (y.agree m.commit y.last).told m.src true y.last) := by
      unfold Core.adds
      rw [List.append_nil, List.take_of_length_le (by show (part row lo n).length ≤ 60; omega)]
    exact (show _ = some ((y.adds m.commit m.src []).2.map Msg.d, (y.adds m.commit m.src []).1.d, ()) by rw [e]; rfl)
  | succ r ih =>
    intro k q lo n row hk hq hlo hn
    obtain ⟨q, rfl, _⟩ := fuel hq
    have hpl := part_part row hlo
    have hlt : k < l.length := by omega
    show impl_Core_takes_b12 (impl_Core_takes_L q) _ _ _ _ _ _ _ _ = _
    unfold impl_Core_takes_b12
    simp -index only [Core.mk_d, Core.p0, Core.p1, Core.p2, Core.p3, Core.p4, Core.p5, Core.p6, Core.p7, Core.p8, Core.p9, Core.p10, Core.p11, Core.p12, Msg.mk_d, Msg.p0, Msg.p1, Msg.p2, Msg.p3, Msg.p4, Msg.p5, Msg.p6, Msg.p7, Msg.p8, Msg.p9]
    rw [dec_t (by omega), ix_nat hlt, drop_cons (t := tEntry) hlt, w64_sm (a := (k : Int) + 1) (by omega) (by omega)]
    simp only [cond_true, Option.bind_some]
    by_cases hr : (n : Int) < 60
    · rw [dec_t hr, room_t (by simp; omega)]
      simp only [cond_true]
      have := ih (k + 1) q 0 (part row lo n ++ [gd tEntry l k]).length (part row lo n ++ [gd tEntry l k]) (by omega) (by omega) (by omega) (by simp; omega)
      simp only [Int.natCast_add, Int.cast_ofNat_Int] at this
      refine Eq.trans this ?_
      rw [part_all]
      unfold Core.adds
      simp only [List.append_assoc, List.singleton_append]
    · rw [dec_f hr]
      simp only [cond_false]
      have := ih (k + 1) q lo n row (by omega) (by omega) hlo hn
      simp only [Int.natCast_add, Int.cast_ofNat_Int] at this
      refine Eq.trans this ?_
      unfold Core.adds
      simp only
      rw [List.take_append_of_le_length (by omega), List.take_append_of_le_length (by omega)]

theorem iTakesGo (h : c.Sz) (h6 : c.log.length ≤ 60) (hc : c.commit ≤ c.last) (hb : c.base ≤ c.commit) (l : List Ent) (hl : l.length ≤ 1000) (a : Int) (ha : c.base ≤ a) : ∀ (r k q : Nat), k + r = l.length → a + (k : Int) ≤ c.last → r + 1010 ≤ q →
    (impl_Core_takes_L q).k3 a l (a + (k : Int)) l (l.length : Int) (k : Int) c.d m.d = some ((c.takes m.commit m.src (a + (k : Int)) (l.drop k)).2.map Msg.d, (c.takes m.commit m.src (a + (k : Int)) (l.drop k)).1.d, ()) := by
  have := h.b0; have := h.b1; have := h.len
  have hlast : c.last = c.base + (c.log.length : Int) := rfl
  intro r
  induction r with
  | zero =>
    intro k q hk hak hq
    obtain ⟨q, rfl, _⟩ := fuel (show 2 < q by omega)
    show impl_Core_takes_b3 (impl_Core_takes_L q) _ _ _ _ _ _ _ _ = _
    unfold impl_Core_takes_b3
    simp -index only [Core.mk_d, Core.p0, Core.p1, Core.p2, Core.p3, Core.p4, Core.p5, Core.p6, Core.p7, Core.p8, Core.p9, Core.p10, Core.p11, Core.p12, Msg.mk_d, Msg.p0, Msg.p1, Msg.p2, Msg.p3, Msg.p4, Msg.p5, Msg.p6, Msg.p7, Msg.p8, Msg.p9]
    rw [dec_f (by omega), List.drop_of_length_le (by omega), takes_nil]
    simp only [cond_false, mx_eq, mn_eq]
    rfl
  | succ r ih =>
    intro k q hk hak hq
    obtain ⟨q, rfl⟩ : ∃ p, q = p + 2 := ⟨q - 2, by omega⟩
    have hlt : k < l.length := by omega
    have h8 : ¬ (a + (k : Int) + 1 ≤ c.last ∧ c.tm (a + (k : Int) + 1) = (gd tEntry l k).1) → (impl_Core_takes_L (q + 1)).k8 l (k : Int) (a + (k : Int) + 1) c.d m.d = some ((c.takes m.commit m.src (a + (k : Int)) (l.drop k)).2.map Msg.d, (c.takes m.commit m.src (a + (k : Int)) (l.drop k)).1.d, ()) := by
      intro hno
      rw [drop_cons (t := tEntry) hlt, takes_cons, if_neg hno]
      show impl_Core_takes_b8 (impl_Core_takes_L q) l (k : Int) (a + (k : Int) + 1) c.d m.d = _
      unfold impl_Core_takes_b8
      simp -index only [Core.mk_d, Core.p0, Core.p1, Core.p2, Core.p3, Core.p4, Core.p5, Core.p6, Core.p7, Core.p8, Core.p9, Core.p10, Core.p11, Core.p12]
      by_cases hcm : a + (k : Int) + 1 ≤ c.commit
      · rw [dec_t hcm, if_pos hcm]; rfl
      rw [dec_f hcm, if_neg hcm, w64_sm (a := a + (k : Int) + 1 - 1) (by omega) (by omega), w64_sm (a := a + (k : Int) + 1 - 1 - c.base) (by omega) (by omega), rng_int (by omega) (by omega) (by omega), rng_int (by omega) (by omega) (by omega)]
      simp only [cond_false, decide_true, cond_true, Option.bind_some, Nat.zero_add, Int.toNat_natCast, Int.toNat_zero, Nat.sub_zero, part_drop]
      have := iAddsGo c m h (l.drop k) (by simp; omega) (l.drop k).length 0 q 0 (a + (k : Int) + 1 - 1 - c.base).toNat c.log (by omega) (by simp; omega) (by omega) (by omega)
      refine Eq.trans this ?_
      rw [part_take, List.drop_zero, drop_cons (t := tEntry) hlt, show (a + (k : Int) + 1 - 1 - c.base).toNat = (a + (k : Int) - c.base).toNat by omega]
    show impl_Core_takes_b3 (impl_Core_takes_L (q + 1)) _ _ _ _ _ _ _ _ = _
    unfold impl_Core_takes_b3
    rw [dec_t (by omega), iLast c h, ix_nat hlt, w64_sm (a := a + (k : Int)) (by omega) (by omega), w64_sm (a := a + (k : Int) + 1) (by omega) (by omega)]
    simp only [cond_true, Option.bind_some]
    by_cases hle : a + (k : Int) + 1 ≤ c.last
    · rw [dec_t hle, iTerm c h _ ⟨by omega, hle⟩]
      simp only [cond_true, Option.bind_some]
      by_cases ht : c.tm (a + (k : Int) + 1) = (gd tEntry l k).1
      · rw [beq_t ht, w64_sm (a := (k : Int) + 1) (by omega) (by omega), drop_cons (t := tEntry) hlt, takes_cons, if_pos ⟨hle, ht⟩]
        have := ih (k + 1) (q + 1) (by omega) (by omega) (by omega)
        simp only [Int.natCast_add, Int.cast_ofNat_Int, ← Int.add_assoc] at this
        exact this
      · rw [beq_f ht]
        exact h8 fun h => ht h.2
    · rw [dec_f hle]
      exact h8 fun h => hle h.1
theorem iTakes (h : c.Sz) (h6 : c.log.length ≤ 60) (hc : c.commit ≤ c.last) (hb : c.base ≤ c.commit) (l : List Ent) (hl : l.length ≤ 1000) (a : Int) (ha : c.base ≤ a) (ha' : a ≤ c.last) : impl_Core_takes (c.d, m.d, a, l, ()) = some ((c.takes m.commit m.src a l).2.map Msg.d, (c.takes m.commit m.src a l).1.d, ()) := by
  show (impl_Core_takes_L BIG).k3 a l a l (l.length : Int) 0 c.d m.d = _
  have := iTakesGo c m h h6 hc hb l hl a ha l.length 0 BIG (by omega) (by omega) (by rw [BIG_eq]; omega)
  simpa using this

/-! ### going back -/
theorem sBack (h : c.Sz) (t : Int) (z : tCore.D) : ∀ (k q : Nat), c.base + (k : Int) ≤ c.last → k < q → (spec_l13App_L q).k19 (c.base + (k : Int)) t c.d m.d z = some (c.d, (c.told m.src false (c.back t k)).map Msg.d, ()) := by
  have := h.b0; have := h.b1; have := h.len
  have hlast : c.last = c.base + (c.log.length : Int) := rfl
  intro k
  induction k with
  | zero =>
    intro q hk hq
    obtain ⟨q, rfl, _⟩ := fuel hq
    show spec_l13App_b19 (spec_l13App_L q) _ _ _ _ _ = _
    unfold spec_l13App_b19
    simp -index only [Core.mk_d, Core.p0, Core.p1, Core.p2, Core.p3, Core.p4, Core.p5, Core.p6, Core.p7, Core.p8, Core.p9, Core.p10, Core.p11, Core.p12]
    rw [dec_f (by omega)]
    simp only [cond_false, Core.back]
    rw [show c.base + ((0 : Nat) : Int) = c.base by omega]
    rfl
  | succ k ih =>
    intro q hk hq
    obtain ⟨q, rfl, _⟩ := fuel hq
    show spec_l13App_b19 (spec_l13App_L q) _ _ _ _ _ = _
    unfold spec_l13App_b19
    simp -index only [Core.mk_d, Core.p0, Core.p1, Core.p2, Core.p3, Core.p4, Core.p5, Core.p6, Core.p7, Core.p8, Core.p9, Core.p10, Core.p11, Core.p12]
    rw [dec_t (by omega), sTerm c h _ ⟨by omega, hk⟩, w64_sm (by omega) (by omega), show c.base + ((k + 1 : Nat) : Int) - 1 = c.base + (k : Int) by omega, ih q (by omega) (by omega)]
    simp only [cond_true, Option.bind_some, Core.back]
    by_cases ht : c.tm (c.base + ((k + 1 : Nat) : Int)) = t
    · rw [beq_t ht, if_pos ht]; rfl
    · rw [beq_f ht, if_neg ht]; rfl
/-- from one above -/
theorem iBack (h : c.Sz) (i : Int) (hi : c.base ≤ i ∧ i ≤ c.last) : ∀ (k q : Nat), c.base + ((k + 1 : Nat) : Int) ≤ c.last → k < q → (impl_Core_app_L q).k16 i (c.base + ((k + 1 : Nat) : Int)) c.d m.d = some ((c.told m.src false (c.back (c.tm i) k)).map Msg.d, c.d, ()) := by
  have := h.b0; have := h.b1; have := h.len
  have hlast : c.last = c.base + (c.log.length : Int) := rfl
  intro k
  induction k with
  | zero =>
    intro q hk hq
    obtain ⟨q, rfl, _⟩ := fuel hq
    show impl_Core_app_b16 (impl_Core_app_L q) _ _ _ _ = _
    unfold impl_Core_app_b16
    simp -index only [Core.mk_d, Core.p0, Core.p1, Core.p2, Core.p3, Core.p4, Core.p5, Core.p6, Core.p7, Core.p8, Core.p9, Core.p10, Core.p11, Core.p12]
    rw [w64_sm (by omega) (by omega), dec_f (by omega), show c.base + ((0 + 1 : Nat) : Int) - 1 = c.base by omega]
    rfl
  | succ k ih =>
    intro q hk hq
    obtain ⟨q, rfl, _⟩ := fuel hq
    show impl_Core_app_b16 (impl_Core_app_L q) _ _ _ _ = _
    unfold impl_Core_app_b16
    simp -index only [Core.mk_d, Core.p0, Core.p1, Core.p2, Core.p3, Core.p4, Core.p5, Core.p6, Core.p7, Core.p8, Core.p9, Core.p10, Core.p11, Core.p12]
    rw [w64_sm (by omega) (by omega), show c.base + ((k + 1 + 1 : Nat) : Int) - 1 = c.base + ((k + 1 : Nat) : Int) by omega, dec_t (by omega), iTerm c h _ ⟨by omega, by omega⟩, iTerm c h i hi, ih q (by omega) (by omega)]
    simp only [cond_true, Option.bind_some, Core.back]
    by_cases ht : c.tm (c.base + ((k + 1 : Nat) : Int)) = c.tm i
    · rw [beq_t ht, if_pos ht]; rfl
    · rw [beq_f ht, if_neg ht]; rfl

/-- entries, heard by one that is below -/
def Core.appIn (c : Core) (m : Msg) : Core × List Msg :=
  let l := if m.index < c.base then m.entries.drop (c.base - m.index).toNat else m.entries
  let i := if m.index < c.base then c.base else m.index
  if i = c.base ∧ 0 < l.length ∧ et (l.headD (0, [], ())) < c.baseTerm then (c, [])
  else if c.last < i then (c, c.told m.src false c.last)
  else if c.base < i ∧ c.tm i ≠ m.indexTerm then (c, c.told m.src false (c.back (c.tm i) (i - c.base).toNat))
  else c.takes m.commit m.src i l
theorem hApp_eq : c.hApp m = if c.role = 3 then (c, []) else Core.appIn { c.down c.term with lead := m.src } m := rfl
/-- the same, of the entries from a number on -/
def Core.appAt (c : Core) (m : Msg) (l : List Ent) (i : Int) : Core × List Msg :=
  if i = c.base ∧ 0 < l.length ∧ et (l.headD (0, [], ())) < c.baseTerm then (c, [])
  else if c.last < i then (c, c.told m.src false c.last)
  else if c.base < i ∧ c.tm i ≠ m.indexTerm then (c, c.told m.src false (c.back (c.tm i) (i - c.base).toNat))
  else c.takes m.commit m.src i l
theorem head_gd {l : List Ent} (h : 0 < l.length) : gd tEntry l 0 = l.headD (0, [], ()) := by
  cases l with
  | nil => simp at h
  | cons e l => rfl

theorem sAppAt (h : c.Sz) (h6 : c.log.length ≤ 60) (hc : c.commit ≤ c.last) (hb : c.base ≤ c.commit) (l : List Ent) (hl : l.length ≤ 1000) (i : Int) (hi : c.base ≤ i) (hi' : i ≤ 1000000) (z : tCore.D) (q : Nat) (hq : 1000000 ≤ q) : (spec_l13App_L q).k13 l i c.d m.d z = some ((c.appAt m l i).1.d, (c.appAt m l i).2.map Msg.d, ()) := by
  obtain ⟨q, rfl⟩ : ∃ p, q = p + 2 := ⟨q - 2, by omega⟩
  have := h.b0; have := h.b1; have := h.len
  have hlast : c.last = c.base + (c.log.length : Int) := rfl
  have h15 : ¬ (i = c.base ∧ 0 < l.length ∧ et (l.headD (0, [], ())) < c.baseTerm) → (spec_l13App_L (q + 1)).k15 l i c.d m.d z = some ((c.appAt m l i).1.d, (c.appAt m l i).2.map Msg.d, ()) := by
    intro hno
    show spec_l13App_b15 (spec_l13App_L q) l i c.d m.d z = _
    unfold spec_l13App_b15 Core.appAt
    rw [if_neg hno, sLast c h]
    simp -index only [Core.mk_d, Core.p0, Core.p1, Core.p2, Core.p3, Core.p4, Core.p5, Core.p6, Core.p7, Core.p8, Core.p9, Core.p10, Core.p11, Core.p12, Msg.mk_d, Msg.p0, Msg.p1, Msg.p2, Msg.p3, Msg.p4, Msg.p5, Msg.p6, Msg.p7, Msg.p8, Msg.p9, Option.bind_some]
    by_cases h1 : c.last < i
    · rw [dec_t (show i > c.last from h1), if_pos h1]; rfl
    rw [dec_f (show ¬ i > c.last from h1), if_neg h1]
    have ht := sTakes c m h h6 hc hb l hl i hi z l.length 0 q (by omega) (by omega) (by omega)
    simp only [Int.ofNat_zero, Int.natCast_zero, Int.cast_ofNat_Int, Int.add_zero, List.drop_zero] at ht
    by_cases h2 : c.base < i
    · rw [dec_t (show i > c.base from h2), sTerm c h i ⟨hi, by omega⟩]
      simp only [cond_true, cond_false, Option.bind_some]
      by_cases h3 : c.tm i = m.indexTerm
      · rw [bne_f h3, if_neg (fun h => h.2 h3)]; exact ht
      · rw [bne_t h3, if_pos ⟨h2, h3⟩]
        have := sBack c m h (c.tm i) z (i - c.base).toNat q (by omega) (by omega)
        rw [show c.base + (((i - c.base).toNat : Nat) : Int) = i by omega] at this
        exact this
    · rw [dec_f (show ¬ i > c.base from h2), if_neg (fun h => h2 h.1)]; exact ht
  show spec_l13App_b13 (spec_l13App_L (q + 1)) l i c.d m.d z = _
  unfold spec_l13App_b13
  simp -index only [Core.mk_d, Core.p0, Core.p1, Core.p2, Core.p3, Core.p4, Core.p5, Core.p6, Core.p7, Core.p8, Core.p9, Core.p10, Core.p11, Core.p12, Msg.mk_d, Msg.p0, Msg.p1, Msg.p2, Msg.p3, Msg.p4, Msg.p5, Msg.p6, Msg.p7, Msg.p8, Msg.p9]
  by_cases h1 : i = c.base
  · rw [beq_t h1]
    by_cases h2 : 0 < l.length
    · rw [dec_t (show (l.length : Int) > 0 by omega), show ix l.length 0 = some 0 from ix_nat h2]
      simp only [cond_true, Option.bind_some, head_gd h2]
      by_cases h3 : et (l.headD (0, [], ())) < c.baseTerm
      · rw [dec_t h3]
        unfold Core.appAt
        rw [if_pos ⟨h1, h2, h3⟩]; rfl
      · rw [dec_f h3]; exact h15 fun h => h3 h.2.2
    · rw [dec_f (show ¬ (l.length : Int) > 0 by omega)]; exact h15 fun h => h2 h.2.1
  · rw [beq_f h1]; exact h15 fun h => h1 h.1

theorem iAppAt (h : c.Sz) (h6 : c.log.length ≤ 60) (hc : c.commit ≤ c.last) (hb : c.base ≤ c.commit) (l : List Ent) (hl : l.length ≤ 1000) (i : Int) (hi : c.base ≤ i) (hi' : i ≤ 1000000) (q : Nat) (hq : 1000000 ≤ q) : (impl_Core_app_L q).k10 l i c.d m.d = some ((c.appAt m l i).2.map Msg.d, (c.appAt m l i).1.d, ()) := by
  obtain ⟨q, rfl⟩ : ∃ p, q = p + 2 := ⟨q - 2, by omega⟩
  have := h.b0; have := h.b1; have := h.len
  have hlast : c.last = c.base + (c.log.length : Int) := rfl
  have h12 : ¬ (i = c.base ∧ 0 < l.length ∧ et (l.headD (0, [], ())) < c.baseTerm) → (impl_Core_app_L (q + 1)).k12 l i c.d m.d = some ((c.appAt m l i).2.map Msg.d, (c.appAt m l i).1.d, ()) := by
    intro hno
    show impl_Core_app_b12 (impl_Core_app_L q) l i c.d m.d = _
    unfold impl_Core_app_b12 Core.appAt
    rw [if_neg hno, iLast c h]
    simp -index only [Core.mk_d, Core.p0, Core.p1, Core.p2, Core.p3, Core.p4, Core.p5, Core.p6, Core.p7, Core.p8, Core.p9, Core.p10, Core.p11, Core.p12, Msg.mk_d, Msg.p0, Msg.p1, Msg.p2, Msg.p3, Msg.p4, Msg.p5, Msg.p6, Msg.p7, Msg.p8, Msg.p9, Option.bind_some]
    by_cases h1 : c.last < i
    · rw [dec_t (show i > c.last from h1), if_pos h1]; rfl
    rw [dec_f (show ¬ i > c.last from h1), if_neg h1]
    have ht := iTakes c m h h6 hc hb l hl i hi (by omega)
    by_cases h2 : c.base < i
    · rw [dec_t (show i > c.base from h2), iTerm c h i ⟨hi, by omega⟩, ht]
      simp only [cond_true, cond_false, Option.bind_some]
      by_cases h3 : c.tm i = m.indexTerm
      · rw [bne_f h3, if_neg (fun h => h.2 h3)]; rfl
      · rw [bne_t h3, if_pos ⟨h2, h3⟩]
        obtain ⟨k, hk⟩ : ∃ k : Nat, i = c.base + ((k + 1 : Nat) : Int) := ⟨(i - c.base - 1).toNat, by omega⟩
        have := iBack c m h i ⟨hi, by omega⟩ k q (by omega) (by omega)
        rw [← hk] at this
        rw [show (i - c.base).toNat = k + 1 by omega]
        simp only [Core.back]
        rw [← hk, if_pos rfl]
        exact this
    · rw [dec_f (show ¬ i > c.base from h2), if_neg (fun h => h2 h.1), ht]; rfl
  show impl_Core_app_b10 (impl_Core_app_L (q + 1)) l i c.d m.d = _
  unfold impl_Core_app_b10
  simp -index only [Core.mk_d, Core.p0, Core.p1, Core.p2, Core.p3, Core.p4, Core.p5, Core.p6, Core.p7, Core.p8, Core.p9, Core.p10, Core.p11, Core.p12, Msg.mk_d, Msg.p0, Msg.p1, Msg.p2, Msg.p3, Msg.p4, Msg.p5, Msg.p6, Msg.p7, Msg.p8, Msg.p9]
  by_cases h1 : i = c.base
  · rw [beq_t h1]
    by_cases h2 : 0 < l.length
    · rw [dec_t (show (l.length : Int) > 0 by omega), show ix l.length 0 = some 0 from ix_nat h2]
      simp only [cond_true, Option.bind_some, head_gd h2]
      by_cases h3 : et (l.headD (0, [], ())) < c.baseTerm
      · rw [dec_t h3]
        unfold Core.appAt
        rw [if_pos ⟨h1, h2, h3⟩]; rfl
      · rw [dec_f h3]; exact h12 fun h => h3 h.2.2
    · rw [dec_f (show ¬ (l.length : Int) > 0 by omega)]; exact h12 fun h => h2 h.2.1
  · rw [beq_f h1]; exact h12 fun h => h1 h.1

theorem appIn_at (i : Int) (l : List Ent) (hl : l = if m.index < c.base then m.entries.drop (c.base - m.index).toNat else m.entries) (hi : i = if m.index < c.base then c.base else m.index) : c.appIn m = c.appAt m l i := by
  subst hl hi; rfl

theorem sApp (h : c.Sz) (h6 : c.log.length ≤ 60) (hc : c.commit ≤ c.last) (hb : c.base ≤ c.commit) (hl : m.entries.length ≤ 1000) (hi : 0 ≤ m.index ∧ m.index ≤ 1000000) : spec_l13App (c.d, m.d, ()) = some ((c.hApp m).1.d, (c.hApp m).2.map Msg.d, ()) := by
  obtain ⟨q, hq, hq'⟩ := big_pred 1
  show spec_l13App_s (spec_l13App_L BIG) c.d m.d = _
  unfold spec_l13App_s
  rw [hApp_eq]
  simp -index only [Core.p2, Core.p4]
  by_cases hr : c.role = 3
  · rw [beq_t hr, if_pos hr]; rfl
  rw [beq_f hr, if_neg hr, sDown]
  have hy : (c.down c.term).Sz := ⟨h.b0, h.b1, h.len⟩
  have hy6 : (c.down c.term).log.length ≤ 60 := h6
  have hyc : (c.down c.term).commit ≤ (c.down c.term).last := hc
  have hyb : (c.down c.term).base ≤ (c.down c.term).commit := hb
  generalize c.down c.term = y at hy hy6 hyc hyb
  have := hy.b0; have := hy.b1; have := hy.len
  have hx : Core.Sz { y with lead := m.src } := ⟨hy.b0, hy.b1, hy.len⟩
  simp only [cond_false, Option.bind_some]
  simp only [Core.mk_d, Core.p0, Core.p1, Core.p2, Core.p3, Core.p4, Core.p5, Core.p6, Core.p7, Core.p8, Core.p9, Core.p10, Core.p11, Core.p12, Msg.p1, Msg.p4, Msg.p8]
  have k13 : ∀ l i z, l.length ≤ 1000 → y.base ≤ i → i ≤ 1000000 → ∀ q, 1000000 ≤ q → (spec_l13App_L q).k13 l i (Core.d { y with lead := m.src }) m.d z = some ((Core.appAt { y with lead := m.src } m l i).1.d, (Core.appAt { y with lead := m.src } m l i).2.map Msg.d, ()) := fun l i z hl hi hi' q hq => sAppAt { y with lead := m.src } m hx hy6 hyc hyb l hl i hi hi' z q hq
  by_cases h1 : m.index < y.base
  · rw [dec_t h1, w64_sm (a := y.base - m.index) (by omega) (by omega)]
    have k11 : ∀ k z, 0 ≤ k → k ≤ (m.entries.length : Int) → m.entries.drop k.toNat = m.entries.drop (y.base - m.index).toNat → (spec_l13App_L BIG).k11 m.entries k (Core.d { y with lead := m.src }) m.d z = some ((Core.appIn { y with lead := m.src } m).1.d, (Core.appIn { y with lead := m.src } m).2.map Msg.d, ()) := by
      intro k z h0 h2 he
      rw [hq]
      show spec_l13App_b11 (spec_l13App_L q) m.entries k (Core.d { y with lead := m.src }) m.d z = _
      unfold spec_l13App_b11
      rw [rng_int h0 h2 (Int.le_refl _)]
      simp -index only [Core.mk_d, Core.p0, Core.p1, Core.p2, Core.p3, Core.p4, Core.p5, Core.p6, Core.p7, Core.p8, Core.p9, Core.p10, Core.p11, Core.p12, Option.bind_some, part_fr, he]
      rw [k13 _ _ _ (by rw [List.length_drop]; omega) (Int.le_refl _) (by omega) q (by omega)]
      rw [appIn_at { y with lead := m.src } m y.base (m.entries.drop (y.base - m.index).toNat) (by show _ = if m.index < y.base then m.entries.drop (y.base - m.index).toNat else _; rw [if_pos h1]) (by show _ = if m.index < y.base then y.base else _; rw [if_pos h1])]
    by_cases h2 : y.base - m.index > (m.entries.length : Int)
    · rw [dec_t h2]
      exact k11 _ _ (by omega) (Int.le_refl _) (by rw [List.drop_of_length_le (by omega), List.drop_of_length_le (by omega)])
    · rw [dec_f h2]
      exact k11 _ _ (by omega) (by omega) rfl
  · rw [dec_f h1]
    simp only [cond_false]
    refine Eq.trans (k13 _ _ _ hl (by omega) (by omega) BIG (by omega)) ?_
    rw [appIn_at { y with lead := m.src } m m.index m.entries (by show _ = if m.index < y.base then m.entries.drop (y.base - m.index).toNat else _; rw [if_neg h1]) (by show _ = if m.index < y.base then y.base else _; rw [if_neg h1])]

theorem iApp (h : c.Sz) (h6 : c.log.length ≤ 60) (hc : c.commit ≤ c.last) (hb : c.base ≤ c.commit) (hl : m.entries.length ≤ 1000) (hi : 0 ≤ m.index ∧ m.index ≤ 1000000) : impl_Core_app (c.d, m.d, ()) = some ((c.hApp m).2.map Msg.d, (c.hApp m).1.d, ()) := by
  obtain ⟨q, hq, hq'⟩ := big_pred 1
  show impl_Core_app_s (impl_Core_app_L BIG) c.d m.d = _
  unfold impl_Core_app_s
  rw [hApp_eq]
  simp -index only [Core.p2, Core.p4]
  by_cases hr : c.role = 3
  · rw [beq_t hr, if_pos hr]; rfl
  rw [beq_f hr, if_neg hr, iDown]
  have hy : (c.down c.term).Sz := ⟨h.b0, h.b1, h.len⟩
  have hy6 : (c.down c.term).log.length ≤ 60 := h6
  have hyc : (c.down c.term).commit ≤ (c.down c.term).last := hc
  have hyb : (c.down c.term).base ≤ (c.down c.term).commit := hb
  generalize c.down c.term = y at hy hy6 hyc hyb
  have := hy.b0; have := hy.b1; have := hy.len
  have hx : Core.Sz { y with lead := m.src } := ⟨hy.b0, hy.b1, hy.len⟩
  simp only [cond_false, Option.bind_some]
  simp only [Core.mk_d, Core.p0, Core.p1, Core.p2, Core.p3, Core.p4, Core.p5, Core.p6, Core.p7, Core.p8, Core.p9, Core.p10, Core.p11, Core.p12, Msg.p1, Msg.p4, Msg.p8]
  have k10 : ∀ l i, l.length ≤ 1000 → y.base ≤ i → i ≤ 1000000 → (impl_Core_app_L BIG).k10 l i (Core.d { y with lead := m.src }) m.d = some ((Core.appAt { y with lead := m.src } m l i).2.map Msg.d, (Core.appAt { y with lead := m.src } m l i).1.d, ()) := fun l i hl hi hi' => iAppAt { y with lead := m.src } m hx hy6 hyc hyb l hl i hi hi' BIG (by omega)
  by_cases h1 : m.index < y.base
  · rw [dec_t h1, w64_sm (a := y.base - m.index) (by omega) (by omega), mn_eq, rng_int (by omega) (by omega) (Int.le_refl _)]
    simp only [cond_true, Option.bind_some, part_fr]
    refine Eq.trans (k10 _ _ (by rw [List.length_drop]; omega) (Int.le_refl _) (by omega)) ?_
    rw [appIn_at { y with lead := m.src } m y.base (m.entries.drop (min (m.entries.length : Int) (y.base - m.index)).toNat) (by
      show _ = if m.index < y.base then m.entries.drop (y.base - m.index).toNat else _
      rw [if_pos h1]
      by_cases h2 : y.base - m.index ≤ (m.entries.length : Int)
      · congr 1; omega
      · rw [List.drop_of_length_le (by omega), List.drop_of_length_le (by omega)]) (by show _ = if m.index < y.base then y.base else _; rw [if_pos h1])]
  · rw [dec_f h1]
    simp only [cond_false]
    refine Eq.trans (k10 _ _ hl (by omega) (by omega)) ?_
    rw [appIn_at { y with lead := m.src } m m.index m.entries (by show _ = if m.index < y.base then m.entries.drop (y.base - m.index).toNat else _; rw [if_neg h1]) (by show _ = if m.index < y.base then y.base else _; rw [if_neg h1])]
end
end Go.LM.Pg
