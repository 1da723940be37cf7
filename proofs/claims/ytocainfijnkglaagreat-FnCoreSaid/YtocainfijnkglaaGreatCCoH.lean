/- Votes are counted alike: a vote put into a rising list and sorted is the list of all that are in it. Conditions: each theorem's own hypotheses. -/
import Derived.Test.YtocainfijnkglaaGreatCCoG
set_option linter.unusedSimpArgs false
set_option linter.unusedVariables false
namespace Go.LM.Pg

theorem less_eq (a b : Int) : cmp_Less_int (a, b, ()) = some (decide (a < b), ()) := by
  show cmp_Less_int_s a b = _
  unfold cmp_Less_int_s
  rw [show cmp_isNaN_int (a, ()) = some (a != a, ()) from rfl]
  simp
abbrev InsL := slices_insertionSortOrdered_int_L
theorem ins_go (m n i : Nat) (l : List Int) (h : i < n) : (InsL (m + 1)).k1 0 (n : Int) (i : Int) l = (InsL m).k4 0 (n : Int) (i : Int) (i : Int) l := by
  show slices_insertionSortOrdered_int_b1 (InsL m) _ _ _ _ = _
  unfold slices_insertionSortOrdered_int_b1
  rw [dec_t (by omega)]; rfl
theorem ins_end (m n : Nat) (l : List Int) : (InsL (m + 1)).k1 0 (n : Int) (n : Int) l = some (l, ()) := by
  show slices_insertionSortOrdered_int_b1 (InsL m) _ _ _ _ = _
  unfold slices_insertionSortOrdered_int_b1
  rw [dec_f (by omega)]; rfl
theorem ins_k4 (m : Nat) : (InsL (m + 1)).k4 = slices_insertionSortOrdered_int_b4 (InsL m) := rfl
theorem ins_zero (m n i : Nat) (l : List Int) (hi : i ≤ 1000) : (InsL (m + 1)).k4 0 (n : Int) (i : Int) 0 l = (InsL m).k1 0 (n : Int) ((i + 1 : Nat) : Int) l := by
  rw [ins_k4]
  unfold slices_insertionSortOrdered_int_b4
  rw [dec_f (by omega), w64_sm (a := (i : Int) + 1) (by omega) (by omega)]; rfl
theorem ins_step (m n i j : Nat) (l : List Int) (hi : i ≤ 1000) (hj : j + 1 < l.length) (hl : l.length ≤ 1000) : (InsL (m + 1)).k4 0 (n : Int) (i : Int) ((j + 1 : Nat) : Int) l =
    if l.getD (j + 1) 0 < l.getD j 0 then (InsL m).k4 0 (n : Int) (i : Int) (j : Int) ((l.set (j + 1) (l.getD j 0)).set j (l.getD (j + 1) 0)) else (InsL m).k1 0 (n : Int) ((i + 1 : Nat) : Int) l := by
  show slices_insertionSortOrdered_int_b4 (InsL m) _ _ _ _ _ = _
  unfold slices_insertionSortOrdered_int_b4 slices_insertionSortOrdered_int_b4_v7 slices_insertionSortOrdered_int_b4_v9
  have e : w64 (((j + 1 : Nat) : Int) - 1) = (j : Int) := by rw [w64_sm (by omega) (by omega)]; omega
  rw [dec_t (by omega), ix_nat hj, e, ix_nat (show j < l.length by omega), w64_sm (a := (i : Int) + 1) (by omega) (by omega)]
  simp only [cond_true, Option.bind_some, Nat.zero_add, gd_int, less_eq, List.length_set]
  rw [ix_nat (show j < l.length by omega)]
  simp only [Option.bind_some]
  by_cases h : l.getD (j + 1) 0 < l.getD j 0
  · rw [dec_t h, if_pos h]; rfl
  · rw [dec_f h, if_neg h]; rfl

theorem bits_23 (n : Int) (h : n = 2 ∨ n = 3) : bits_Len (IntKind.wrap .u64 n, ()) = some (2, ()) := by
  obtain ⟨q, hq, _⟩ := big_pred 5
  rcases h with rfl | rfl
  · show ((bits_Len64_s (bits_Len64_L BIG) 2).bind _) = _
    rw [hq]; kernel_rfl
  · show ((bits_Len64_s (bits_Len64_L BIG) 3).bind _) = _
    rw [hq]; kernel_rfl
theorem sort_ins (l : List Int) (h : l.length = 2 ∨ l.length = 3) (r : List Int) (hr : ∃ q, 4611686018427387904 < q ∧ (InsL q).k1 0 (l.length : Int) ((1 : Nat) : Int) l = some (r, ()) ∧ q = BIG) : slices_Sort_int_int (l, ()) = some (r, ()) := by
  obtain ⟨q, _, hr, hq⟩ := hr
  show slices_Sort_int_int_s l = _
  unfold slices_Sort_int_int_s
  rw [bits_23 _ (by omega)]
  simp only [Option.bind_some]
  have hi : slices_insertionSortOrdered_int (l, 0, (l.length : Int), ()) = some (r, ()) := by
    show (InsL BIG).k1 0 (l.length : Int) (w64 (0 + 1)) l = _
    rw [← hq]; exact hr
  have hp : slices_pdqsortOrdered_int (l, 0, (l.length : Int), 2, ()) = some (r, ()) := by
    obtain ⟨p, hp, _⟩ := big_pred 1
    show (slices_pdqsortOrdered_int_L BIG).k2 0 (l.length : Int) 2 true true l = _
    rw [hp]
    show slices_pdqsortOrdered_int_b2 (slices_pdqsortOrdered_int_L p) 0 (l.length : Int) 2 true true l = _
    unfold slices_pdqsortOrdered_int_b2
    rw [w64_sm (by omega) (by omega), dec_t (by omega), hi]; rfl
  rw [hp]; rfl

theorem sort2 (a s : Int) : slices_Sort_int_int ([a, s], ()) = some (if s < a then [s, a] else [a, s], ()) := by
  obtain ⟨q, hq, h⟩ := big_pred 6
  refine sort_ins _ (.inl rfl) _ ⟨q + 6, by omega, ?_, hq.symm⟩
  rw [ins_go (q + 5) [a, s].length 1 _ (by simp), ins_step (q + 4) _ 1 0 _ (by omega) (by simp) (by simp)]
  show (if s < a then (InsL (q + 4)).k4 0 (([a, s].length : Nat) : Int) ((1 : Nat) : Int) ((0 : Nat) : Int) [s, a] else _) = _
  split
  · exact (ins_zero (q + 3) _ 1 _ (by omega)).trans (ins_end (q + 2) 2 _)
  · exact ins_end (q + 3) 2 _
theorem sort3 (a b s : Int) (hab : a < b) : slices_Sort_int_int ([a, b, s], ()) = some (if s < a then [s, a, b] else if s < b then [a, s, b] else [a, b, s], ()) := by
  obtain ⟨q, hq, h⟩ := big_pred 10
  refine sort_ins _ (.inr rfl) _ ⟨q + 10, by omega, ?_, hq.symm⟩
  rw [ins_go (q + 9) [a, b, s].length 1 _ (by simp), ins_step (q + 8) _ 1 0 _ (by omega) (by simp) (by simp)]
  show (if b < a then _ else (InsL (q + 8)).k1 0 (([a, b, s].length : Nat) : Int) ((2 : Nat) : Int) [a, b, s]) = _
  rw [if_neg (by omega), ins_go (q + 7) [a, b, s].length 2 _ (by simp), ins_step (q + 6) _ 2 1 _ (by omega) (by simp) (by simp)]
  show (if s < b then (InsL (q + 6)).k4 0 (([a, b, s].length : Nat) : Int) ((2 : Nat) : Int) ((1 : Nat) : Int) [a, s, b] else (InsL (q + 6)).k1 0 ((3 : Nat) : Int) ((3 : Nat) : Int) _) = _
  by_cases h1 : s < b
  · rw [if_pos h1, ins_step (q + 5) _ 2 0 _ (by omega) (by simp) (by simp)]
    show (if s < a then (InsL (q + 5)).k4 0 (([a, b, s].length : Nat) : Int) ((2 : Nat) : Int) ((0 : Nat) : Int) [s, a, b] else (InsL (q + 5)).k1 0 ((3 : Nat) : Int) ((3 : Nat) : Int) _) = _
    by_cases h2 : s < a
    · rw [if_pos h2, if_pos h2]
      exact (ins_zero (q + 4) _ 2 _ (by omega)).trans (ins_end (q + 3) 3 _)
    · rw [if_neg h2, if_neg h2, if_pos h1]
      exact ins_end (q + 4) 3 _
  · rw [if_neg h1, if_neg (by omega), if_neg h1]
    exact ins_end (q + 5) 3 _

/-! ### lists that rise are told by what is in them -/
theorem rising_ext : ∀ {a b : List Int}, a.Pairwise (· < ·) → b.Pairwise (· < ·) → (∀ x, x ∈ a ↔ x ∈ b) → a = b
  | [], [], _, _, _ => rfl
  | [], y :: b, _, _, h => by have := (h y).2 List.mem_cons_self; cases this
  | x :: a, [], _, _, h => by have := (h x).1 List.mem_cons_self; cases this
  | x :: a, y :: b, ha, hb, h => by
    rw [List.pairwise_cons] at ha hb
    have hxy : x = y := by
      rcases List.mem_cons.1 ((h x).1 List.mem_cons_self) with h1 | h1
      · exact h1
      · rcases List.mem_cons.1 ((h y).2 List.mem_cons_self) with h2 | h2
        · exact h2.symm
        · have := ha.1 y h2; have := hb.1 x h1; omega
    subst hxy
    rw [rising_ext ha.2 hb.2 fun z => ?_]
    have := h z
    simp only [List.mem_cons] at this
    constructor
    · intro hz
      rcases this.1 (.inr hz) with h1 | h1
      · have := ha.1 z hz; omega
      · exact h1
    · intro hz
      rcases this.2 (.inr hz) with h1 | h1
      · have := hb.1 z hz; omega
      · exact h1
theorem rises_pw : ∀ {l : List Int} {lo hi : Int}, rises l lo hi = true → l.Pairwise (· < ·) ∧ ∀ x, x ∈ l → lo ≤ x ∧ x ≤ hi
  | [], _, _, _ => ⟨List.Pairwise.nil, fun x h => by cases h⟩
  | y :: l, lo, hi, h => by
    simp only [rises, Bool.and_eq_true, decide_eq_true_eq] at h
    obtain ⟨h1, h2⟩ := rises_pw h.2
    refine ⟨List.pairwise_cons.2 ⟨fun x hx => ?_, h1⟩, fun x hx => ?_⟩
    · have := h2 x hx; omega
    · rcases List.mem_cons.1 hx with rfl | hx
      · omega
      · have := h2 x hx; omega
theorem pw_rises : ∀ {l : List Int} {lo hi : Int}, l.Pairwise (· < ·) → (∀ x, x ∈ l → lo ≤ x ∧ x ≤ hi) → rises l lo hi = true
  | [], _, _, _, _ => rfl
  | y :: l, lo, hi, h, hb => by
    rw [List.pairwise_cons] at h
    simp only [rises, Bool.and_eq_true, decide_eq_true_eq]
    have := hb y List.mem_cons_self
    exact ⟨⟨this.1, this.2⟩, pw_rises h.2 fun x hx => ⟨by have := h.1 x hx; omega, (hb x (List.mem_cons_of_mem _ hx)).2⟩⟩
theorem range_pw (n : Nat) : ((List.range n).map Int.ofNat).Pairwise (· < ·) := by
  rw [List.pairwise_map]
  refine List.Pairwise.imp ?_ List.pairwise_lt_range
  intro a b h
  simp only [Int.ofNat_eq_natCast]
  omega
theorem mem_rangeI {n : Nat} {x : Int} : x ∈ (List.range n).map Int.ofNat ↔ 0 ≤ x ∧ x < (n : Int) := by
  simp only [List.mem_map, List.mem_range]
  constructor
  · rintro ⟨k, h1, rfl⟩; simp; omega
  · rintro ⟨h1, h2⟩; exact ⟨x.toNat, by omega, by simp; omega⟩
theorem voters_pw (c : Core) (p : Int) : (c.voters p).Pairwise (· < ·) := (range_pw _).filter _
theorem mem_voters (c : Core) (p x : Int) : x ∈ c.voters p ↔ (0 ≤ x ∧ x < c.peers) ∧ (x = p ∨ x ∈ c.yes) := by
  unfold Core.voters
  simp only [List.mem_filter, mem_rangeI, Bool.or_eq_true, beq_iff_eq, List.contains_iff_mem]
  constructor
  · rintro ⟨⟨h1, h2⟩, h3⟩; exact ⟨⟨h1, by omega⟩, h3⟩
  · rintro ⟨⟨h1, h2⟩, h3⟩; exact ⟨⟨h1, by omega⟩, h3⟩

theorem voters_in (c : Core) (p : Int) (hr : rises c.yes 0 (c.peers - 1) = true) (h : p ∈ c.yes) : c.voters p = c.yes := by
  obtain ⟨h1, h2⟩ := rises_pw hr
  refine rising_ext (voters_pw c p) h1 fun x => ?_
  rw [mem_voters]
  constructor
  · rintro ⟨_, rfl | h3⟩
    · exact h
    · exact h3
  · intro hx; have := h2 x hx; exact ⟨by omega, .inr hx⟩
theorem voters_len (c : Core) (p : Int) : (c.voters p).length ≤ c.peers.toNat := by
  unfold Core.voters
  exact Nat.le_trans (List.length_filter_le _ _) (by simp)
theorem voters_sort (c : Core) (p : Int) (hp : 0 ≤ p ∧ p < c.peers) (hr : rises c.yes 0 (c.peers - 1) = true) (hn : c.yes.length = 1 ∨ c.yes.length = 2) (h : ¬ p ∈ c.yes) : slices_Sort_int_int (c.yes ++ [p], ()) = some (c.voters p, ()) := by
  obtain ⟨h1, h2⟩ := rises_pw hr
  have key : ∀ r : List Int, r.Pairwise (· < ·) → (∀ x, x ∈ r ↔ x = p ∨ x ∈ c.yes) → r = c.voters p := fun r hr hm => rising_ext hr (voters_pw c p) fun x => by
    rw [mem_voters, hm]
    constructor
    · rintro (rfl | hx)
      · exact ⟨hp, .inl rfl⟩
      · have := h2 x hx; exact ⟨by omega, .inr hx⟩
    · exact fun h => h.2
  generalize hy : c.yes = y at *
  match y, hn with
  | [a], _ =>
    have : p ≠ a := fun e => h (by simp [e])
    show slices_Sort_int_int ([a, p], ()) = _
    refine (sort2 a p).trans (congrArg (fun v => some (v, ())) (key _ ?_ ?_))
    · split <;> simp <;> omega
    · intro x; split <;> simp <;> omega
  | [a, b], _ =>
    have h3 : p ≠ a := fun e => h (by simp [e])
    have h4 : p ≠ b := fun e => h (by simp [e])
    have h5 : a < b := by have := (List.pairwise_cons.1 h1).1 b (by simp); exact this
    show slices_Sort_int_int ([a, b, p], ()) = _
    refine (sort3 a b p h5).trans (congrArg (fun v => some (v, ())) (key _ ?_ ?_))
    · split
      · simp; omega
      · split <;> simp <;> omega
    · intro x; split
      · simp
      · split <;> simp <;> omega

section
variable (c : Core) (m : Msg)
theorem vo_sz {c : Core} (h : c.Sz) (l : List Int) : Core.Sz { c with yes := l } := ⟨h.b0, h.b1, h.len⟩

theorem sVoted (h : c.Sz) (hc : c.base ≤ c.commit ∧ c.commit ≤ c.last) (hp : c.peers ≤ 1000) (hi : 0 ≤ c.id ∧ c.id < c.peers) (hy : c.yes.length ≤ 1000) : spec_l13Voted (c.d, m.d, ()) = some ((c.hVoted m).1.d, (c.hVoted m).2.map Msg.d, ()) := by
  have go : ∀ (r k q : Nat) (acc : List Int), (k : Int) + r = c.peers → acc.length ≤ k → r < q → acc ++ ((List.range' k r).map Int.ofNat).filter (fun q => (q == m.src) || c.yes.contains q) = c.voters m.src → ∀ z, spec_l13Voted_L5 q (k : Int) c.d m.d z acc = cond (decide (2 * ((c.voters m.src).length : Int) > c.peers)) (some ((Core.leads { c with yes := c.voters m.src }).1.d, (Core.leads { c with yes := c.voters m.src }).2.map Msg.d, ())) (some (Core.d { c with yes := c.voters m.src }, [], ())) := by
    intro r
    induction r with
    | zero =>
      intro k q acc hk ha hq he z
      obtain ⟨q, rfl, _⟩ := fuel hq
      simp only [List.range'_zero, List.map_nil, List.filter_nil, List.append_nil] at he
      subst he
      simp only [spec_l13Voted_L5, spec_l13Voted_b5]
      simp -index only [Core.mk_d, Core.p0, Core.p1, Core.p2, Core.p3, Core.p4, Core.p5, Core.p6, Core.p7, Core.p8, Core.p9, Core.p10, Core.p11, Core.p12, Msg.p1]
      rw [dec_f (by omega), w64_sm (a := 2 * ((c.voters m.src).length : Int)) (by omega) (by omega), sLead { c with yes := c.voters m.src } (vo_sz h _) hc hp hi]
      rfl
    | succ r ih =>
      intro k q acc hk ha hq he z
      obtain ⟨q, rfl, _⟩ := fuel hq
      rw [List.range'_succ, List.map_cons, List.filter_cons] at he
      simp only [spec_l13Voted_L5, spec_l13Voted_b5]
      simp -index only [Core.mk_d, Core.p0, Core.p1, Core.p2, Core.p3, Core.p4, Core.p5, Core.p6, Core.p7, Core.p8, Core.p9, Core.p10, Core.p11, Core.p12, Msg.p1]
      rw [dec_t (by omega), l13In_eq _ (by omega), room_t (by simp; omega), w64_sm (a := (k : Int) + 1) (by omega) (by omega)]
      simp only [cond_true, Option.bind_some]
      simp only [Int.ofNat_eq_natCast] at he
      cases h1 : ((k : Int) == m.src)
      · cases h2 : c.yes.contains (k : Int)
        · rw [h1, h2] at he
          have := ih (k + 1) q acc (by omega) (by omega) (by omega) (by simpa using he) z
          simp only [Int.natCast_add, Int.cast_ofNat_Int] at this
          exact this
        · rw [h1, h2] at he
          have := ih (k + 1) q (acc ++ [(k : Int)]) (by omega) (by simp; omega) (by omega) (by simpa using he) z
          simp only [Int.natCast_add, Int.cast_ofNat_Int] at this
          exact this
      · rw [h1] at he
        have := ih (k + 1) q (acc ++ [(k : Int)]) (by omega) (by simp; omega) (by omega) (by simpa using he) z
        simp only [Int.natCast_add, Int.cast_ofNat_Int] at this
        exact this
  show spec_l13Voted_s (spec_l13Voted_L5 BIG) c.d m.d = _
  unfold spec_l13Voted_s Core.hVoted
  simp -index only [Core.mk_d, Core.p0, Core.p1, Core.p2, Core.p3, Core.p4, Core.p5, Core.p6, Core.p7, Core.p8, Core.p9, Core.p10, Core.p11, Core.p12, Msg.p7]
  by_cases hr : c.role = 2
  case neg => rw [bne_t hr, if_pos (.inl hr)]; rfl
  rw [bne_f hr]
  cases hm : m.yes
  · rw [if_pos (.inr rfl)]; rfl
  rw [if_neg (by rintro (h | h); exact h hr; cases h)]
  have := go c.peers.toNat 0 BIG [] (by omega) (by simp) (by rw [BIG_eq]; omega) (by unfold Core.voters; rw [List.range_eq_range']; simp) Core.zero.d
  refine Eq.trans this ?_
  by_cases hl : c.peers < 2 * ((c.voters m.src).length : Int)
  · rw [dec_t hl]; simp only [hl, if_true, cond_true]
  · rw [dec_f hl]; simp only [hl, if_false, cond_false, List.map_nil]

theorem iVoted (h : c.Sz) (hc : c.base ≤ c.commit ∧ c.commit ≤ c.last) (hp : c.peers ≤ 5) (hi : 0 ≤ c.id ∧ c.id < c.peers) (hs : 0 ≤ m.src ∧ m.src < c.peers) (hr : c.role = 2 → c.seekOk = true) : impl_Core_voted (c.d, m.d, ()) = some ((c.hVoted m).2.map Msg.d, (c.hVoted m).1.d, ()) := by
  obtain ⟨q, hq, _⟩ := big_pred 1
  show impl_Core_voted_s (impl_Core_voted_L6 BIG) c.d m.d = _
  have hk : ∀ y : List Int, y.length ≤ 1000 → impl_Core_voted_L6 BIG (Core.d { c with yes := y }) = cond (decide (2 * (y.length : Int) > c.peers)) (some ((Core.leads { c with yes := y }).2.map Msg.d, (Core.leads { c with yes := y }).1.d, ())) (some ([], Core.d { c with yes := y }, ())) := fun y hy => by
    rw [hq]
    simp only [impl_Core_voted_L6, impl_Core_voted_b6]
    simp -index only [Core.p10]
    rw [iLead { c with yes := y } (vo_sz h _) hc (by show c.peers ≤ 1000; omega) hi, show impl_Core_isMost (Core.d { c with yes := y }, (y.length : Int), ()) = some (decide (w64 (2 * (y.length : Int)) > c.peers), ()) from rfl, w64_sm (by omega) (by omega)]
    rfl
  unfold impl_Core_voted_s Core.hVoted
  simp -index only [Core.mk_d, Core.p0, Core.p1, Core.p2, Core.p3, Core.p4, Core.p5, Core.p6, Core.p7, Core.p8, Core.p9, Core.p10, Core.p11, Core.p12, Msg.p7, Msg.p1]
  by_cases hr' : c.role = 2
  case neg => rw [bne_t hr', if_pos (.inl hr')]; rfl
  rw [bne_f hr']
  cases hm : m.yes
  · rw [if_pos (.inr rfl)]; rfl
  rw [if_neg (by rintro (h | h); exact h hr'; cases h)]
  have ok := hr hr'
  unfold Core.seekOk at ok
  simp only [Bool.and_eq_true, decide_eq_true_eq] at ok
  obtain ⟨⟨⟨⟨⟨⟨⟨g1, g2⟩, g3⟩, g4⟩, g5⟩, g6⟩, g7⟩, g8⟩ := ok
  have hmem : c.id ∈ c.yes := by simpa using g5
  have hlen := List.length_pos_of_mem hmem
  rw [Contains_eq _ (by omega)]
  simp only [Option.bind_some, cond_false, Bool.not_true]
  have fin : ∀ y, y = c.voters m.src → impl_Core_voted_L6 BIG (Core.d { c with yes := y }) = some ((if c.peers < 2 * ((c.voters m.src).length : Int) then (Core.leads { c with yes := c.voters m.src }) else ({ c with yes := c.voters m.src }, [])).2.map Msg.d, (if c.peers < 2 * ((c.voters m.src).length : Int) then (Core.leads { c with yes := c.voters m.src }) else ({ c with yes := c.voters m.src }, [])).1.d, ()) := fun y hy => by
    subst hy
    have := voters_len c m.src
    rw [hk _ (by omega)]
    by_cases hl : c.peers < 2 * ((c.voters m.src).length : Int)
    · rw [dec_t hl]; simp only [hl, if_true, cond_true]
    · rw [dec_f hl]; simp only [hl, if_false, cond_false, List.map_nil]
  cases hin : c.yes.contains m.src
  · have hnm : ¬ m.src ∈ c.yes := by simpa using hin
    rw [room_t (by simp; omega), voters_sort c m.src hs g4 (by omega) hnm]
    simp only [Bool.not_false, cond_true, Option.bind_some]
    exact fin _ rfl
  · have hm : m.src ∈ c.yes := by simpa using hin
    simp only [Bool.not_true, cond_false]
    exact fin c.yes (voters_in c m.src g4 hm).symm
end
end Go.LM.Pg
