/- The plain functions of a core are what the program's and the reference's functions compute: copies, terms, votes, snapshots. Conditions: each theorem's own hypotheses. -/
import Derived.Test.YtocainfijnkglaaGreatCCoM
set_option linter.unusedSimpArgs false
set_option linter.unusedVariables false
namespace Go.LM.Pg

structure Core.Ok (c : Core) : Prop where
  peers : 1 ≤ c.peers ∧ c.peers ≤ 5
  id : 0 ≤ c.id ∧ c.id < c.peers
  base : (c.base = 0 ∧ c.baseTerm = 0) ∨ (1 ≤ c.base ∧ c.base ≤ 100000 ∧ 1 ≤ c.baseTerm ∧ c.baseTerm ≤ c.term)
  term : 0 ≤ c.term ∧ c.term ≤ 100000
  vote : -1 ≤ c.vote ∧ c.vote < c.peers
  len : c.log.length ≤ 60
  run : runOk c.log (mxI 1 c.baseTerm) c.term = true
  top : c.base + (c.log.length : Int) ≤ 100000
  commit : c.base ≤ c.commit ∧ c.commit ≤ c.last
  role : c.roleOk = true

theorem Core.ok_iff (c : Core) : c.ok = true ↔ c.Ok := by
  unfold Core.ok Kept.ok Core.kept Snap.ok
  simp only [Bool.and_eq_true, Bool.or_eq_true, inR_iff, decide_eq_true_eq, beq_iff_eq, bne_iff_ne]
  constructor
  · rintro ⟨⟨⟨⟨⟨⟨h1, h2⟩, h3⟩, ⟨⟨⟨⟨⟨h4, h5⟩, h6⟩, h7⟩, h8⟩, h9⟩⟩, h10⟩, h11⟩, h12⟩
    have hb : (c.base = 0 ∧ c.baseTerm = 0) ∨ (1 ≤ c.base ∧ c.base ≤ 100000 ∧ 1 ≤ c.baseTerm ∧ c.baseTerm ≤ c.term) := by
      by_cases h0 : c.base = 0
      · simp only [h0, ne_eq, not_true_eq_false, false_or] at h3; exact .inl ⟨h0, h3⟩
      · simp only [if_pos h0] at h7; omega
    refine ⟨h1, by omega, hb, h4, by omega, by omega, ?_, ?_, h11, h12⟩
    · by_cases h0 : c.base = 0
      · simp only [h0, ne_eq, not_true_eq_false, if_false] at h8
        rcases hb with ⟨_, hb⟩ | hb
        · rw [hb]; exact h8
        · omega
      · simp only [if_pos h0] at h8; exact h8
    · by_cases h0 : c.base = 0
      · simp only [h0, ne_eq, not_true_eq_false, if_false] at h9; omega
      · simp only [if_pos h0] at h9; exact h9
  · rintro ⟨h1, h2, h3, h4, h5, h6, h7, h8, h9, h10⟩
    refine ⟨⟨⟨⟨⟨⟨h1, by omega⟩, ?_⟩, ⟨⟨⟨⟨⟨h4, by omega⟩, by omega⟩, ?_⟩, ?_⟩, ?_⟩⟩, by omega⟩, h9⟩, h10⟩
    · rcases h3 with h3 | h3
      · exact .inr h3.2
      · exact .inl (by omega)
    · rcases h3 with h3 | h3
      · left; simp [h3.1, eqS]
      · right; rw [if_pos (by omega : c.base ≠ 0)]; simp only [List.length_nil]; omega
    · rcases h3 with h3 | h3
      · rw [h3.2] at h7; simp only [h3.1, ne_eq, not_true_eq_false, if_false]; exact h7
      · rw [if_pos (by omega : c.base ≠ 0)]; exact h7
    · rcases h3 with h3 | h3
      · simp only [h3.1, ne_eq, not_true_eq_false, if_false]; omega
      · rw [if_pos (by omega : c.base ≠ 0)]; exact h8

/-- what is needed for its numbers to be reckoned with -/
structure Core.Sz (c : Core) : Prop where
  b0 : 0 ≤ c.base
  b1 : c.base ≤ 100000
  len : c.log.length ≤ 1000
theorem Core.Ok.sz {c : Core} (h : c.Ok) : c.Sz := ⟨by have := h.base; omega, by have := h.base; omega, by have := h.len; omega⟩

section
variable (c : Core) (m : Msg)

theorem sLast (h : c.Sz) : spec_l13Last (c.d, ()) = some (c.last, ()) := spec_Last_eq c (inR_iff.2 ⟨h.b0, by have := h.b1; omega⟩) (by have := h.len; omega)
theorem iLast (h : c.Sz) : impl_Core_last (c.d, ()) = some (c.last, ()) := impl_Last_eq c (inR_iff.2 ⟨h.b0, by have := h.b1; omega⟩) (by have := h.len; omega)
theorem gd_ent {l : List Ent} {i : Nat} : gd tEntry l i = (l[i]?).getD (0, [], ()) := by
  unfold gd; rw [List.getD_eq_getElem?_getD]; rfl
theorem sTerm (h : c.Sz) (i : Int) (hi : c.base ≤ i ∧ i ≤ c.last) : spec_l13TermAt (c.d, i, ()) = some (c.tm i, ()) := by
  have := h.b0; have := h.b1; have := h.len
  unfold Core.last at hi
  show spec_l13TermAt_s c.d i = _
  unfold spec_l13TermAt_s Core.tm
  simp only [Core.p6, Core.p7, Core.p8]
  by_cases hb : i = c.base
  · simp [hb]
  · rw [beq_f hb, if_neg hb, w64_sm (a := i - c.base) (by omega) (by omega), w64_sm (by omega) (by omega), ix_int (by omega) (by omega)]
    simp only [cond_false, Option.bind_some, gd_ent]
theorem iTerm (h : c.Sz) (i : Int) (hi : c.base ≤ i ∧ i ≤ c.last) : impl_Core_term (c.d, i, ()) = some (c.tm i, ()) := sTerm c h i hi

theorem copyInts_eq (l : List Int) (h : l.length ≤ 68719476736) : impl_copyInts (l, ()) = some (l, ()) := by
  show impl_copyInts_s l = _
  unfold impl_copyInts_s
  simp only [List.length_nil, Nat.zero_add, room_t h, cond_true, List.nil_append]
theorem copyCore_eq (h1 : c.log.length ≤ 1048576) (h2 : c.yes.length ≤ 1048576) (h3 : c.next.length ≤ 1048576) (h4 : c.mch.length ≤ 1048576) : impl_copyCore (c.d, ()) = some (c.d, ()) := by
  show impl_copyCore_s c.d = _
  unfold impl_copyCore_s impl_copyCore_s_v1
  simp only [Core.p8, Core.p10, Core.p11, Core.p12, List.length_nil, Nat.zero_add, room_t (show c.log.length ≤ 68719476736 by omega), cond_true, List.nil_append, copyInts_eq _ (show c.yes.length ≤ 68719476736 by omega), copyInts_eq _ (show c.next.length ≤ 68719476736 by omega), copyInts_eq _ (show c.mch.length ≤ 68719476736 by omega), Option.bind_some]
  rfl
theorem l13Copy_eq (h1 : c.log.length ≤ 1048576) (h2 : c.yes.length ≤ 1048576) (h3 : c.next.length ≤ 1048576) (h4 : c.mch.length ≤ 1048576) : spec_l13Copy (c.d, ()) = some (c.d, ()) := by
  show spec_l13Copy_s c.d = _
  unfold spec_l13Copy_s spec_l13Copy_s_v1 spec_l13Copy_s_v2 spec_l13Copy_s_v3 spec_l13Copy_s_v4
  simp only [Core.p8, Core.p10, Core.p11, Core.p12, List.length_nil, Nat.zero_add, room_t (show c.log.length ≤ 68719476736 by omega), cond_true, List.nil_append, room_t (show c.yes.length ≤ 68719476736 by omega), room_t (show c.next.length ≤ 68719476736 by omega), room_t (show c.mch.length ≤ 68719476736 by omega)]
  rfl

theorem sDown (t : Int) : spec_l13Down (c.d, t, ()) = some ((c.down t).d, ()) := by
  show spec_l13Down_s c.d t = _
  unfold spec_l13Down_s Core.down
  simp only [Core.p0, Core.p1, Core.p2, Core.p3, Core.p6, Core.p7, Core.p8, Core.p9]
  by_cases h : t = c.term
  · rw [bne_f h, if_pos h]; rfl
  · rw [bne_t h, if_neg h]; rfl
theorem iDown (t : Int) : impl_Core_steps (c.d, t, ()) = some ((c.down t).d, ()) := sDown c t
theorem sTold (p : Int) (y : Bool) (i : Int) : spec_l13Told (c.d, p, y, i, ()) = some ((c.told p y i).map Msg.d, ()) := rfl
theorem iTold (y : Bool) (i : Int) : impl_Core_answer (c.d, m.d, y, i, ()) = some ((c.told m.src y i).map Msg.d, ()) := rfl

theorem last_in (h : c.Sz) : c.base ≤ c.last ∧ c.last ≤ c.last := ⟨by unfold Core.last; omega, by omega⟩

theorem sVote (h : c.Sz) : spec_l13Vote (c.d, m.d, ()) = some ((c.hVote m).1.d, (c.hVote m).2.map Msg.d, ()) := by
  obtain ⟨q, hq, _⟩ := big_pred 2
  show spec_l13Vote_s (spec_l13Vote_L BIG) c.d m.d = _
  unfold spec_l13Vote_s
  have e6 : ∀ k b (x : Core) z, spec_l13Vote_b6 k b x.d m.d z = some (x.d, [(2, x.id, m.src, x.term, 0, 0, 0, b, [], [], ())], ()) := fun k b x z => by
    unfold spec_l13Vote_b6
    rw [dup_eq]; rfl
  have hk : ∀ b z, b = c.grants m → (spec_l13Vote_L BIG).k4 b c.d m.d z = some ((c.hVote m).1.d, (c.hVote m).2.map Msg.d, ()) := by
    intro b z hb
    subst hb
    rw [hq]
    show spec_l13Vote_b4 (spec_l13Vote_L (q + 1)) _ _ _ _ = _
    unfold spec_l13Vote_b4
    unfold Core.hVote
    cases hg : c.grants m
    · exact e6 (spec_l13Vote_L q) false c z
    · exact e6 (spec_l13Vote_L q) true { c with vote := m.src } z
  rw [sLast c h]
  simp only [Option.bind_some]
  rw [sTerm c h _ (last_in c h)]
  simp only [Option.bind_some, Core.p3, Core.p4, Msg.p1, Msg.p4, Msg.p5]
  have hg : c.grants m = ((c.role == 1) && ((c.vote == -1) || (c.vote == m.src)) && (decide (c.tm c.last < m.indexTerm) || ((m.indexTerm == c.tm c.last) && decide (c.last ≤ m.index)))) := rfl
  cases h1 : (c.role == 1)
  · simp only [cond_false]; exact hk _ _ (by rw [hg, h1]; rfl)
  cases h2 : (c.vote == -1) <;> cases h3 : (c.vote == m.src) <;> cases h4 : decide (c.tm c.last < m.indexTerm) <;> cases h5 : (m.indexTerm == c.tm c.last) <;> simp only [cond_false, cond_true, gt_iff_lt, h4, ge_iff_le] <;> exact hk _ _ (by rw [hg, h1, h2, h3, h4, h5]; simp)

theorem iVote (h : c.Sz) : impl_Core_vote (c.d, m.d, ()) = some ((c.hVote m).2.map Msg.d, (c.hVote m).1.d, ()) := by
  obtain ⟨q, hq, _⟩ := big_pred 1
  show impl_Core_vote_s (impl_Core_vote_L4 BIG) c.d m.d = _
  unfold impl_Core_vote_s
  have hk : ∀ b, b = c.grants m → impl_Core_vote_L4 BIG b c.d m.d = some ((c.hVote m).2.map Msg.d, (c.hVote m).1.d, ()) := by
    intro b hb
    subst hb
    rw [hq]
    show impl_Core_vote_b4 (impl_Core_vote_L4 q) _ _ _ = _
    unfold impl_Core_vote_b4
    unfold Core.hVote
    cases hg : c.grants m <;> rfl
  rw [iLast c h]
  simp only [Option.bind_some]
  rw [iTerm c h _ (last_in c h)]
  simp only [Option.bind_some, Core.p3, Core.p4, Msg.p1, Msg.p4, Msg.p5]
  have hg : c.grants m = ((c.role == 1) && ((c.vote == -1) || (c.vote == m.src)) && (decide (c.tm c.last < m.indexTerm) || ((m.indexTerm == c.tm c.last) && decide (c.last ≤ m.index)))) := rfl
  cases h1 : (c.role == 1)
  · simp only [cond_false]; exact hk _ (by rw [hg, h1]; rfl)
  cases h2 : (c.vote == -1) <;> cases h3 : (c.vote == m.src) <;> cases h4 : decide (c.tm c.last < m.indexTerm) <;> cases h5 : (m.indexTerm == c.tm c.last) <;> simp only [cond_false, cond_true, gt_iff_lt, h4, ge_iff_le] <;> exact hk _ (by rw [hg, h1, h2, h3, h4, h5]; simp)
end
end Go.LM.Pg
