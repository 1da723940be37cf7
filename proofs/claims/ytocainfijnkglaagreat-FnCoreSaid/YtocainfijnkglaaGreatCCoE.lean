/- The plain functions of a core are what the program's and the reference's functions compute: snapshots, counting, what a leader sends. Conditions: each theorem's own hypotheses. -/
import Derived.Test.YtocainfijnkglaaGreatCCoD
set_option linter.unusedSimpArgs false
set_option linter.unusedVariables false
namespace Go.LM.Pg

theorem rng_int {n : Nat} {lo hi : Int} (h : 0 ≤ lo) (h' : lo ≤ hi) (h'' : hi ≤ n) : rng n lo hi = some (lo.toNat, hi.toNat) := by
  unfold rng; rw [if_pos ⟨h, h', h''⟩]
theorem part_fr {α : Type} (l : List α) (n : Nat) : part l n (((l.length : Nat) : Int).toNat - n) = l.drop n := by rw [Int.toNat_natCast, part_drop]
theorem part_from {α : Type} (l : List α) (n : Nat) : part l (0 + n) (((l.length : Nat) : Int).toNat - n) = l.drop n := by rw [Nat.zero_add, Int.toNat_natCast, part_drop]

section
variable (c : Core) (m : Msg)

theorem down_sz (t : Int) (h : c.Sz) : (c.down t).Sz := ⟨h.b0, h.b1, h.len⟩

/-- a snapshot, heard by one that is below -/
def Core.snapIn (y : Core) (m : Msg) : Core × List Msg :=
    if m.index ≤ y.commit then ({ y with lead := m.src }, y.told m.src true y.commit)
    else
      let x := { y with lead := m.src, log := if m.index ≤ y.last ∧ y.tm m.index = m.indexTerm then y.log.drop (m.index - y.base).toNat else [], base := m.index, baseTerm := m.indexTerm, commit := m.index }
      (x, x.told m.src true m.index)
theorem snapIn_eq : c.hSnap m = if c.role = 3 then (c, []) else (c.down c.term).snapIn m := rfl

theorem sSnap (h : c.Sz) (hc : c.base ≤ c.commit) : spec_l13Snap (c.d, m.d, ()) = some ((c.hSnap m).1.d, (c.hSnap m).2.map Msg.d, ()) := by
  show spec_l13Snap_s c.d m.d = _
  unfold spec_l13Snap_s
  rw [snapIn_eq]
  simp only [Core.p2, Core.p4]
  by_cases h3 : c.role = 3
  · rw [beq_t h3, if_pos h3]; rfl
  rw [beq_f h3, if_neg h3, sDown]
  simp only [cond_false, Option.bind_some]
  have hy : (c.down c.term).Sz := ⟨h.b0, h.b1, h.len⟩
  have hc : (c.down c.term).base ≤ (c.down c.term).commit := hc
  generalize c.down c.term = y at hy hc
  have := hy.b0; have := hy.b1; have := hy.len
  have hx : Core.Sz { y with lead := m.src } := ⟨hy.b0, hy.b1, hy.len⟩
  have hlast : y.last = y.base + (y.log.length : Int) := rfl
  unfold Core.snapIn
  simp -index only [Core.mk_d, Core.p0, Core.p1, Core.p2, Core.p3, Core.p4, Core.p5, Core.p6, Core.p7, Core.p8, Core.p9, Core.p10, Core.p11, Core.p12, Msg.p1, Msg.p4, Msg.p5]
  by_cases hi : m.index ≤ y.commit
  · rw [dec_t hi, if_pos hi]; rfl
  rw [dec_f hi, if_neg hi, sLast _ hx]
  simp only [cond_false, Option.bind_some]
  rw [show Core.last { y with lead := m.src } = y.last from rfl]
  by_cases hl : m.index ≤ y.last
  · rw [dec_t hl, sTerm _ hx _ ⟨by show y.base ≤ _; omega, hl⟩]
    simp only [cond_true, Option.bind_some]
    rw [show Core.tm { y with lead := m.src } m.index = y.tm m.index from rfl]
    by_cases ht : y.tm m.index = m.indexTerm
    · rw [beq_t ht, w64_sm (a := m.index - y.base) (by omega) (by omega), rng_int (n := y.log.length) (lo := m.index - y.base) (by omega) (by omega) (Int.le_refl _)]
      simp only [cond_true, Option.bind_some, part_from, hl, ht, and_self, if_true]
      rfl
    · rw [beq_f ht]
      simp only [hl, ht, and_false, if_false]
      rfl
  · rw [dec_f hl]
    simp only [hl, false_and, if_false]
    rfl
theorem iSnap (h : c.Sz) (hc : c.base ≤ c.commit) : impl_Core_snap (c.d, m.d, ()) = some ((c.hSnap m).2.map Msg.d, (c.hSnap m).1.d, ()) := by
  show impl_Core_snap_s c.d m.d = _
  unfold impl_Core_snap_s
  rw [snapIn_eq]
  simp only [Core.p2, Core.p4]
  by_cases h3 : c.role = 3
  · rw [beq_t h3, if_pos h3]; rfl
  rw [beq_f h3, if_neg h3, iDown]
  simp only [cond_false, Option.bind_some]
  have hy : (c.down c.term).Sz := ⟨h.b0, h.b1, h.len⟩
  have hc : (c.down c.term).base ≤ (c.down c.term).commit := hc
  generalize c.down c.term = y at hy hc
  have := hy.b0; have := hy.b1; have := hy.len
  have hx : Core.Sz { y with lead := m.src } := ⟨hy.b0, hy.b1, hy.len⟩
  have hlast : y.last = y.base + (y.log.length : Int) := rfl
  unfold Core.snapIn impl_Core_snap_s_v6
  simp -index only [Core.mk_d, Core.p0, Core.p1, Core.p2, Core.p3, Core.p4, Core.p5, Core.p6, Core.p7, Core.p8, Core.p9, Core.p10, Core.p11, Core.p12, Msg.p1, Msg.p4, Msg.p5]
  by_cases hi : m.index ≤ y.commit
  · rw [dec_t hi, if_pos hi]; rfl
  rw [dec_f hi, if_neg hi, iLast _ hx]
  simp only [cond_false, Option.bind_some]
  rw [show Core.last { y with lead := m.src } = y.last from rfl]
  by_cases hl : m.index ≤ y.last
  · rw [dec_t hl, iTerm _ hx _ ⟨by show y.base ≤ _; omega, hl⟩]
    simp only [cond_true, Option.bind_some]
    rw [show Core.tm { y with lead := m.src } m.index = y.tm m.index from rfl]
    by_cases ht : y.tm m.index = m.indexTerm
    · rw [beq_t ht, w64_sm (a := m.index - y.base) (by omega) (by omega), rng_int (n := y.log.length) (lo := m.index - y.base) (by omega) (by omega) (Int.le_refl _)]
      simp only [cond_true, Option.bind_some, part_fr, hl, ht, and_self, if_true, List.length_nil, Nat.zero_add, List.nil_append]
      rw [room_t (by rw [List.length_drop]; omega)]
      rfl
    · rw [beq_f ht]
      simp only [hl, ht, and_false, if_false]
      rfl
  · rw [dec_f hl]
    simp only [hl, false_and, if_false]
    rfl

/-! ### counting -/
theorem cnt_cons (x : Int) (l : List Int) (i : Int) : cnt (x :: l) i = cnt l i + (if i ≤ x then 1 else 0) := by
  unfold cnt
  by_cases h : i ≤ x <;> simp [h]

theorem sCnt (hm : (c.mch.length : Int) = c.peers) (hp : c.peers ≤ 1000) (x : Int) (z : tCore.D) (q : Nat) : ∀ (r k n : Nat), k + r = c.mch.length → n ≤ k →
    (spec_l13Count_L (q + (r + 1))).k6 x (n : Int) (k : Int) c.d z = (spec_l13TermAt (c.d, x, ())).bind fun v2 => cond (v2.1 == c.term) (cond (decide (2 * ((n + cnt (c.mch.drop k) x : Nat) : Int) > c.peers)) (some (Core.d { c with commit := x }, ())) ((spec_l13Count_L q).k2 (w64 (x - 1)) c.d z)) ((spec_l13Count_L q).k2 (w64 (x - 1)) c.d z) := by
  intro r
  induction r with
  | zero =>
    intro k n hk hn
    show spec_l13Count_b6 (spec_l13Count_L q) _ _ _ _ _ = _
    unfold spec_l13Count_b6
    simp -index only [Core.mk_d, Core.p0, Core.p1, Core.p2, Core.p3, Core.p4, Core.p5, Core.p6, Core.p7, Core.p8, Core.p9, Core.p10, Core.p11, Core.p12]
    rw [dec_f (by omega), List.drop_of_length_le (by omega), w64_sm (a := 2 * (n : Int)) (by omega) (by omega)]
    rfl
  | succ r ih =>
    intro k n hk hn
    have hi : k < c.mch.length := by omega
    show spec_l13Count_b6 (spec_l13Count_L (q + (r + 1))) _ _ _ _ _ = _
    unfold spec_l13Count_b6
    simp -index only [Core.mk_d, Core.p0, Core.p1, Core.p2, Core.p3, Core.p4, Core.p5, Core.p6, Core.p7, Core.p8, Core.p9, Core.p10, Core.p11, Core.p12]
    have h1 := ih (k + 1) (n + 1) (by omega) (by omega)
    have h2 := ih (k + 1) n (by omega) (by omega)
    simp only [Int.natCast_add, Int.cast_ofNat_Int] at h1 h2
    rw [dec_t (by omega), ix_nat hi, w64_sm (a := (n : Int) + 1) (by omega) (by omega), w64_sm (a := (k : Int) + 1) (by omega) (by omega), h1, h2, drop_cons (t := .int .i64) hi, cnt_cons]
    simp only [cond_true, Option.bind_some, Nat.zero_add]
    by_cases hx : x ≤ gd (.int .i64) c.mch k
    · rw [dec_t (show gd (.int .i64) c.mch k ≥ x from hx), if_pos hx]
      simp only [cond_true, Int.natCast_add, Int.cast_ofNat_Int, show (n : Int) + 1 + (cnt (c.mch.drop (k + 1)) x : Int) = (n : Int) + ((cnt (c.mch.drop (k + 1)) x : Int) + 1) by omega]
    · rw [dec_f (show ¬ gd (.int .i64) c.mch k ≥ x from hx), if_neg hx]
      simp only [cond_false, Nat.add_zero, Int.natCast_add, Int.cast_ofNat_Int]
theorem iCnt (hp : c.mch.length ≤ 1000) (x : Int) (q : Nat) : ∀ (r k n : Nat), k + r = c.mch.length → n ≤ k →
    (impl_Core_counts_L (q + (r + 1))).k5 x (n : Int) (c.mch.length : Int) (k : Int) c.d = (impl_Core_term (c.d, x, ())).bind fun v2 => cond (v2.1 == c.term) (cond (decide (2 * ((n + cnt (c.mch.drop k) x : Nat) : Int) > c.peers)) (some (Core.d { c with commit := x }, ())) ((impl_Core_counts_L q).k1 (w64 (x - 1)) c.d)) ((impl_Core_counts_L q).k1 (w64 (x - 1)) c.d) := by
  intro r
  induction r with
  | zero =>
    intro k n hk hn
    show impl_Core_counts_b5 (impl_Core_counts_L q) _ _ _ _ _ = _
    unfold impl_Core_counts_b5
    simp -index only [Core.mk_d, Core.p0, Core.p1, Core.p2, Core.p3, Core.p4, Core.p5, Core.p6, Core.p7, Core.p8, Core.p9, Core.p10, Core.p11, Core.p12]
    rw [dec_f (by omega), List.drop_of_length_le (by omega), show impl_Core_isMost (c.d, (n : Int), ()) = some (decide (w64 (2 * (n : Int)) > c.peers), ()) from rfl, w64_sm (a := 2 * (n : Int)) (by omega) (by omega)]
    rfl
  | succ r ih =>
    intro k n hk hn
    have hi : k < c.mch.length := by omega
    show impl_Core_counts_b5 (impl_Core_counts_L (q + (r + 1))) _ _ _ _ _ = _
    unfold impl_Core_counts_b5
    simp -index only [Core.mk_d, Core.p0, Core.p1, Core.p2, Core.p3, Core.p4, Core.p5, Core.p6, Core.p7, Core.p8, Core.p9, Core.p10, Core.p11, Core.p12]
    have h1 := ih (k + 1) (n + 1) (by omega) (by omega)
    have h2 := ih (k + 1) n (by omega) (by omega)
    simp only [Int.natCast_add, Int.cast_ofNat_Int] at h1 h2
    rw [dec_t (by omega), ix_nat hi, w64_sm (a := (n : Int) + 1) (by omega) (by omega), w64_sm (a := (k : Int) + 1) (by omega) (by omega), h1, h2, drop_cons (t := .int .i64) hi, cnt_cons]
    simp only [cond_true, Option.bind_some, Nat.zero_add]
    by_cases hx : x ≤ gd (.int .i64) c.mch k
    · rw [dec_t (show gd (.int .i64) c.mch k ≥ x from hx), if_pos hx]
      simp only [cond_true, Int.natCast_add, Int.cast_ofNat_Int, show (n : Int) + 1 + (cnt (c.mch.drop (k + 1)) x : Int) = (n : Int) + ((cnt (c.mch.drop (k + 1)) x : Int) + 1) by omega]
    · rw [dec_f (show ¬ gd (.int .i64) c.mch k ≥ x from hx), if_neg hx]
      simp only [cond_false, Nat.add_zero, Int.natCast_add, Int.cast_ofNat_Int]

theorem sCountGo (h : c.Sz) (hc : c.base ≤ c.commit) (hc' : c.commit ≤ 1000000) (hm : (c.mch.length : Int) = c.peers) (hp : c.peers ≤ 1000) (z : tCore.D) : ∀ (k q : Nat), c.commit + (k : Int) ≤ c.last → 1010 * (k + 1) ≤ q → (spec_l13Count_L q).k2 (c.commit + (k : Int)) c.d z = some (Core.d { c with commit := c.counted k }, ()) := by
  intro k
  have := h.b0
  induction k with
  | zero =>
    intro q hk hq
    obtain ⟨q, rfl, _⟩ := fuel (show 1 < q by omega)
    show spec_l13Count_b2 (spec_l13Count_L q) _ _ _ = _
    unfold spec_l13Count_b2
    simp -index only [Core.mk_d, Core.p0, Core.p1, Core.p2, Core.p3, Core.p4, Core.p5, Core.p6, Core.p7, Core.p8, Core.p9, Core.p10, Core.p11, Core.p12]
    rw [dec_f (by omega)]; rfl
  | succ k ih =>
    intro q hk hq
    obtain ⟨p, rfl⟩ : ∃ p, q = p + (c.mch.length + 1) + 1 := ⟨q - (c.mch.length + 1) - 1, by omega⟩
    show spec_l13Count_b2 (spec_l13Count_L (p + (c.mch.length + 1))) _ _ _ = _
    unfold spec_l13Count_b2
    simp -index only [Core.mk_d, Core.p0, Core.p1, Core.p2, Core.p3, Core.p4, Core.p5, Core.p6, Core.p7, Core.p8, Core.p9, Core.p10, Core.p11, Core.p12]
    have h6 := sCnt c hm hp (c.commit + ((k + 1 : Nat) : Int)) z p c.mch.length 0 0 (by omega) (by omega)
    simp only [Int.ofNat_zero, Int.natCast_zero, Int.cast_ofNat_Int] at h6
    have e : w64 (c.commit + ((k + 1 : Nat) : Int) - 1) = c.commit + (k : Int) := by rw [w64_sm (by unfold Core.last at hk; have := h.b1; have := h.len; omega) (by unfold Core.last at hk; have := h.b1; have := h.len; omega)]; omega
    rw [dec_t (by omega), h6, sTerm c h _ ⟨by omega, hk⟩, e, ih p (by omega) (by omega)]
    simp only [cond_true, Option.bind_some, Core.counted, Nat.zero_add, List.drop_zero]
    by_cases ht : c.tm (c.commit + ((k + 1 : Nat) : Int)) = c.term
    · rw [beq_t ht]
      by_cases hn : c.peers < 2 * (cnt c.mch (c.commit + ((k + 1 : Nat) : Int)) : Int)
      · rw [dec_t hn, if_pos ⟨ht, hn⟩]; rfl
      · rw [dec_f hn, if_neg (fun h => hn h.2)]; rfl
    · rw [beq_f ht, if_neg (fun h => ht h.1)]; rfl
theorem iCountGo (h : c.Sz) (hc : c.base ≤ c.commit) (hc' : c.commit ≤ 1000000) (hp : c.mch.length ≤ 1000) : ∀ (k q : Nat), c.commit + (k : Int) ≤ c.last → 1010 * (k + 1) ≤ q → (impl_Core_counts_L q).k1 (c.commit + (k : Int)) c.d = some (Core.d { c with commit := c.counted k }, ()) := by
  intro k
  have := h.b0
  induction k with
  | zero =>
    intro q hk hq
    obtain ⟨q, rfl, _⟩ := fuel (show 1 < q by omega)
    show impl_Core_counts_b1 (impl_Core_counts_L q) _ _ = _
    unfold impl_Core_counts_b1
    simp -index only [Core.mk_d, Core.p0, Core.p1, Core.p2, Core.p3, Core.p4, Core.p5, Core.p6, Core.p7, Core.p8, Core.p9, Core.p10, Core.p11, Core.p12]
    rw [dec_f (by omega)]; rfl
  | succ k ih =>
    intro q hk hq
    obtain ⟨p, rfl⟩ : ∃ p, q = p + (c.mch.length + 1) + 1 := ⟨q - (c.mch.length + 1) - 1, by omega⟩
    show impl_Core_counts_b1 (impl_Core_counts_L (p + (c.mch.length + 1))) _ _ = _
    unfold impl_Core_counts_b1
    simp -index only [Core.mk_d, Core.p0, Core.p1, Core.p2, Core.p3, Core.p4, Core.p5, Core.p6, Core.p7, Core.p8, Core.p9, Core.p10, Core.p11, Core.p12]
    have h6 := iCnt c hp (c.commit + ((k + 1 : Nat) : Int)) p c.mch.length 0 0 (by omega) (by omega)
    simp only [Int.ofNat_zero, Int.natCast_zero, Int.cast_ofNat_Int] at h6
    have e : w64 (c.commit + ((k + 1 : Nat) : Int) - 1) = c.commit + (k : Int) := by rw [w64_sm (by unfold Core.last at hk; have := h.b1; have := h.len; omega) (by unfold Core.last at hk; have := h.b1; have := h.len; omega)]; omega
    rw [dec_t (by omega), h6, iTerm c h _ ⟨by omega, hk⟩, e, ih p (by omega) (by omega)]
    simp only [cond_true, Option.bind_some, Core.counted, Nat.zero_add, List.drop_zero]
    by_cases ht : c.tm (c.commit + ((k + 1 : Nat) : Int)) = c.term
    · rw [beq_t ht]
      by_cases hn : c.peers < 2 * (cnt c.mch (c.commit + ((k + 1 : Nat) : Int)) : Int)
      · rw [dec_t hn, if_pos ⟨ht, hn⟩]; rfl
      · rw [dec_f hn, if_neg (fun h => hn h.2)]; rfl
    · rw [beq_f ht, if_neg (fun h => ht h.1)]; rfl

theorem sCount (h : c.Sz) (hc : c.base ≤ c.commit ∧ c.commit ≤ c.last) (hm : (c.mch.length : Int) = c.peers) (hp : c.peers ≤ 1000) : spec_l13Count (c.d, ()) = some (c.count.d, ()) := by
  have := h.b0; have := h.b1; have := h.len
  have hl : c.last = c.base + (c.log.length : Int) := rfl
  show spec_l13Count_s (spec_l13Count_L BIG) c.d = _
  unfold spec_l13Count_s
  rw [sLast c h]
  simp only [Option.bind_some]
  have := sCountGo c h hc.1 (by omega) hm hp Core.zero.d (c.last - c.commit).toNat BIG (by omega) (by rw [BIG_eq]; omega)
  rw [show c.commit + (((c.last - c.commit).toNat : Nat) : Int) = c.last by omega] at this
  exact this
theorem iCount (h : c.Sz) (hc : c.base ≤ c.commit ∧ c.commit ≤ c.last) (hp : c.mch.length ≤ 1000) : impl_Core_counts (c.d, ()) = some (c.count.d, ()) := by
  have := h.b0; have := h.b1; have := h.len
  have hl : c.last = c.base + (c.log.length : Int) := rfl
  show impl_Core_counts_s (impl_Core_counts_L BIG) c.d = _
  unfold impl_Core_counts_s
  rw [iLast c h]
  simp only [Option.bind_some]
  have := iCountGo c h hc.1 (by omega) hp (c.last - c.commit).toNat BIG (by omega) (by rw [BIG_eq]; omega)
  rw [show c.commit + (((c.last - c.commit).toNat : Nat) : Int) = c.last by omega] at this
  exact this
end
end Go.LM.Pg
