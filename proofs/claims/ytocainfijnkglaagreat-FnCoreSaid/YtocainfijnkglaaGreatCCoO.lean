/- A right core stays right: votes told, leading, answers; and what it says is right. Conditions: each theorem's own hypotheses. -/
import Derived.Test.YtocainfijnkglaaGreatCCoN
set_option linter.unusedSimpArgs false
set_option linter.unusedVariables false
namespace Go.LM.Pg

section
variable {c : Core} {m : Msg}

/-- what is known of one that leads -/
structure Core.Ldr (c : Core) : Prop where
  role : c.role = 3
  term : 1 ≤ c.term
  vote : c.vote = c.id
  lead : c.lead = c.id
  yes : c.yes.length = 0
  nx : (c.next.length : Int) = c.peers
  mc : (c.mch.length : Int) = c.peers
  own : c.mch.getD c.id.toNat 0 = c.last
  pairs : ∀ p : Int, 0 ≤ p → p < c.peers → 0 ≤ c.mch.getD p.toNat 0 ∧ c.mch.getD p.toNat 0 < c.next.getD p.toNat 0 ∧ c.next.getD p.toNat 0 ≤ c.last + 1
theorem ldr_iff (hp : 0 ≤ c.peers) (hr : c.role = 3) : c.roleOk = true ↔ c.Ldr := by
  unfold Core.roleOk
  rw [hr]
  show c.leadOk = true ↔ _
  unfold Core.leadOk
  simp only [Bool.and_eq_true, decide_eq_true_eq, beq_iff_eq]
  constructor
  · rintro ⟨⟨⟨⟨⟨⟨⟨g1, g2⟩, g3⟩, g4⟩, g5⟩, g6⟩, g7⟩, g8⟩
    exact ⟨hr, g1, g2, g3, g4, g5, g6, g7, fun p h0 h1 => pairs_get g8 (by omega) p.toNat (by omega)⟩
  · rintro ⟨_, g1, g2, g3, g4, g5, g6, g7, g8⟩
    refine ⟨⟨⟨⟨⟨⟨⟨g1, g2⟩, g3⟩, g4⟩, g5⟩, g6⟩, g7⟩, pairs_of (by omega) fun i hi => ?_⟩
    have := g8 (i : Int) (by omega) (by omega)
    simpa using this
theorem Core.Ok.ldr (h : c.Ok) (hr : c.role = 3) : c.Ldr := (ldr_iff (by have := h.peers; omega) hr).1 h.role
/-- a right core of other numbers alone -/
theorem lead_mk (h : c.Ok) {x : Core} (e1 : x.id = c.id) (e2 : x.peers = c.peers) (e3 : x.term = c.term) (e4 : x.vote = c.vote) (e5 : x.base = c.base) (e6 : x.baseTerm = c.baseTerm) (e7 : x.log = c.log) (hc : x.base ≤ x.commit ∧ x.commit ≤ x.last) (hr : x.roleOk = true) : x.Ok :=
  ⟨by rw [e2]; exact h.peers, by rw [e1, e2]; exact h.id, by rw [e5, e6, e3]; exact h.base, by rw [e3]; exact h.term, by rw [e4, e2]; exact h.vote, by rw [e7]; exact h.len, by rw [e7, e6, e3]; exact h.run, by rw [e5, e7]; exact h.top, hc, hr⟩
theorem count_ok (h : c.Ok) : c.count.Ok := by
  have h1 := count_in c h.commit.2
  have h2 := h.commit
  refine lead_mk h rfl rfl rfl rfl rfl rfl rfl ⟨Int.le_trans h2.1 h1.1, h1.2⟩ ?_
  exact h.role

/-! ### coming to lead -/
theorem leading_put_ok (h : c.Ok) (ht : 1 ≤ c.term) (hv : c.vote = c.id) : (c.leading.put []).Ok := by
  have hp := h.peers; have hi := h.id; have hc := h.commit; have hb := h.b0
  have hl : c.last = c.base + (c.log.length : Int) := rfl
  have hrun := runOk_iff.1 h.run
  -- the log, with one more
  have hg : ∃ L : List Ent, (c.leading.grow []).log = L ∧ L.length ≤ 60 ∧ runOk L (mxI 1 c.baseTerm) c.term = true ∧ c.base + (L.length : Int) ≤ 100000 ∧ c.log.length ≤ L.length := by
    unfold Core.grow
    split
    · rename_i hr
      unfold Core.hasRoom at hr
      simp only [Bool.and_eq_true, decide_eq_true_eq] at hr
      have hr1 : (c.log.length : Int) < 60 := hr.1
      have hr2 : c.last < 100000 := hr.2
      refine ⟨_, rfl, by show (c.log ++ [(c.term, [], ())]).length ≤ 60; simp; omega, ?_, by show c.base + ((c.log ++ [(c.term, [], ())]).length : Int) ≤ 100000; simp; omega, by show c.log.length ≤ (c.log ++ [(c.term, [], ())]).length; simp⟩
      show runOk (c.log ++ [(c.term, [], ())]) (mxI 1 c.baseTerm) c.term = true
      refine runOk_iff.2 ⟨fun e he => ?_, List.pairwise_append.2 ⟨hrun.2, List.pairwise_singleton _ _, fun a ha b hb => ?_⟩⟩
      · rcases List.mem_append.1 he with h1 | h1
        · exact hrun.1 e h1
        · simp at h1; subst h1
          have := h.bt
          rw [mx_eq]
          refine ⟨?_, ?_, by simp⟩
          · show max 1 c.baseTerm ≤ c.term; omega
          · show c.term ≤ c.term; omega
      · simp at hb; subst hb; exact (hrun.1 a ha).2.1
    · exact ⟨_, rfl, h.len, h.run, h.top, Nat.le_refl _⟩
  obtain ⟨L, e, g1, g2, g3, g4⟩ := hg
  obtain ⟨f1, f2, f3, f4, f5, f6, f7⟩ := grow_rest c.leading []
  have frole : (c.leading.grow []).role = 3 := by unfold Core.grow; split <;> rfl
  have flead : (c.leading.grow []).lead = c.id := by unfold Core.grow; split <;> rfl
  have fvote : (c.leading.grow []).vote = c.vote := by unfold Core.grow; split <;> rfl
  have fbt : (c.leading.grow []).baseTerm = c.baseTerm := by unfold Core.grow; split <;> rfl
  have fyes : (c.leading.grow []).yes = [] := by unfold Core.grow; split <;> rfl
  generalize hx : c.leading.grow [] = x at *
  have hxl : x.last = c.base + (L.length : Int) := by unfold Core.last; rw [f4, e]; rfl
  have pos : 0 ≤ x.last := by omega
  have hmch : ∀ p : Int, 0 ≤ p → p < c.peers → x.own.mch.getD p.toNat 0 = if p = c.id then x.last else 0 := by
    intro p h0 h1
    show (x.mch.set x.id.toNat x.last).getD p.toNat 0 = _
    rw [f1, f6]
    show ((List.replicate c.peers.toNat (0 : Int)).set c.id.toNat x.last).getD p.toNat 0 = _
    rw [getD_set _ _ _ _ (by rw [List.length_replicate]; omega)]
    by_cases hpi : p = c.id
    · subst hpi; simp
    · rw [if_neg (by omega), if_neg hpi, List.getD_eq_getElem?_getD, List.getElem?_replicate, if_pos (by omega)]; rfl
  have hnext : ∀ p : Int, 0 ≤ p → p < c.peers → x.own.next.getD p.toNat 0 = if p = c.id then x.last + 1 else c.last + 1 := by
    intro p h0 h1
    show (x.next.set x.id.toNat (x.last + 1)).getD p.toNat 0 = _
    rw [f1, f5]
    show ((List.replicate c.peers.toNat (c.last + 1)).set c.id.toNat (x.last + 1)).getD p.toNat 0 = _
    rw [getD_set _ _ _ _ (by rw [List.length_replicate]; omega)]
    by_cases hpi : p = c.id
    · subst hpi; simp
    · rw [if_neg (by omega), if_neg hpi, List.getD_eq_getElem?_getD, List.getElem?_replicate, if_pos (by omega)]; rfl
  have hok : x.own.Ok := by
    refine ⟨by show 1 ≤ x.peers ∧ x.peers ≤ 5; rw [f2]; exact hp, by show 0 ≤ x.id ∧ x.id < x.peers; rw [f1, f2]; exact hi, ?_, by show 0 ≤ x.term ∧ x.term ≤ 100000; rw [f7]; exact h.term, ?_, by show x.log.length ≤ 60; rw [e]; exact g1, ?_, ?_, ⟨?_, ?_⟩, ?_⟩
    · show (x.base = 0 ∧ x.baseTerm = 0) ∨ (1 ≤ x.base ∧ x.base ≤ 100000 ∧ 1 ≤ x.baseTerm ∧ x.baseTerm ≤ x.term)
      rw [f4, fbt, f7]; exact h.base
    · show -1 ≤ x.vote ∧ x.vote < x.peers
      rw [fvote, f2]; exact h.vote
    · show runOk x.log (mxI 1 x.baseTerm) x.term = true
      rw [e, fbt, f7]; exact g2
    · show x.base + (x.log.length : Int) ≤ 100000
      rw [f4, e]; exact g3
    · show x.base ≤ x.commit
      rw [f4, f3]; exact hc.1
    · show x.commit ≤ x.last
      rw [f3, hxl]; show c.commit ≤ _; omega
    · refine (ldr_iff (c := x.own) (by show 0 ≤ x.peers; rw [f2]; show 0 ≤ c.peers; omega) frole).2 ⟨frole, by show 1 ≤ x.term; rw [f7]; exact ht, by show x.vote = x.id; rw [fvote, f1]; exact hv, by show x.lead = x.id; rw [flead, f1]; rfl, by show x.yes.length = 0; rw [fyes]; rfl, ?_, ?_, ?_, ?_⟩
      · show ((x.next.set x.id.toNat (x.last + 1)).length : Int) = x.peers
        rw [List.length_set, f5, f2]; show ((List.replicate c.peers.toNat (c.last + 1)).length : Int) = c.peers; rw [List.length_replicate]; omega
      · show ((x.mch.set x.id.toNat x.last).length : Int) = x.peers
        rw [List.length_set, f6, f2]; show ((List.replicate c.peers.toNat (0 : Int)).length : Int) = c.peers; rw [List.length_replicate]; omega
      · have := hmch c.id hi.1 hi.2
        rw [if_pos rfl] at this
        show x.own.mch.getD x.id.toNat 0 = x.last
        rw [f1]; exact this
      · intro p h0 h1
        have h1' : p < c.peers := by have h1 : p < x.peers := h1; rw [f2] at h1; exact h1
        rw [hmch p h0 h1', hnext p h0 h1']
        show _ ∧ _ ∧ _ ≤ x.last + 1
        by_cases hpi : p = c.id
        · rw [if_pos hpi, if_pos hpi]; omega
        · rw [if_neg hpi, if_neg hpi]; omega
  show (c.leading.grow []).own.count.Ok
  rw [hx]
  exact count_ok hok
theorem leads_ok (h : c.Ok) (ht : 1 ≤ c.term) (hv : c.vote = c.id) : c.leads.1.Ok := leading_put_ok h ht hv

theorem voted_ok (h : c.Ok) (hs : 0 ≤ m.src ∧ m.src < c.peers) : (c.hVoted m).1.Ok := by
  unfold Core.hVoted
  split
  · exact h
  rename_i hr
  have hr2 : c.role = 2 := Decidable.byContradiction fun h => hr (.inl h)
  have hok := h.role
  unfold Core.roleOk at hok
  rw [hr2] at hok
  have hok : c.seekOk = true := hok
  unfold Core.seekOk at hok
  simp only [Bool.and_eq_true, decide_eq_true_eq, beq_iff_eq] at hok
  obtain ⟨⟨⟨⟨⟨⟨⟨g1, g2⟩, g3⟩, g4⟩, g5⟩, g6⟩, g7⟩, g8⟩ := hok
  dsimp only
  -- with other votes it leads as it would without
  split
  · have hl : ({ c with yes := c.voters m.src } : Core).leading = c.leading := rfl
    show (({ c with yes := c.voters m.src } : Core).leading.put []).Ok
    rw [hl]
    exact leading_put_ok h g1 g2
  · rename_i hlt
    refine lead_mk h rfl rfl rfl rfl rfl rfl rfl h.commit ?_
    show cond (c.role == 1) _ (cond (c.role == 2) _ _) = true
    rw [hr2]
    show Core.seekOk { c with yes := c.voters m.src } = true
    unfold Core.seekOk
    simp only [Bool.and_eq_true, decide_eq_true_eq, beq_iff_eq]
    refine ⟨⟨⟨⟨⟨⟨⟨g1, g2⟩, g3⟩, pw_rises (voters_pw _ _) fun x hx => ?_⟩, ?_⟩, by show 2 * ((c.voters m.src).length : Int) ≤ c.peers; omega⟩, g7⟩, g8⟩
    · have := (mem_voters c m.src x).1 hx; omega
    · have hmem : c.id ∈ c.yes := by simpa using g5
      simp only [List.contains_iff_mem]
      exact (mem_voters c m.src c.id).2 ⟨h.id, .inr hmem⟩

theorem apped_ok (h : c.Ok) (hs : 0 ≤ m.src ∧ m.src < c.peers) (hn : m.src ≠ c.id) : (c.hApped m).1.Ok := by
  unfold Core.hApped
  split
  · exact h
  rename_i hr
  have hr3 : c.role = 3 := Decidable.byContradiction fun h => hr h
  have hld := h.ldr hr3
  have hpp := hld.pairs m.src hs.1 hs.2
  have hi := h.id; have hp := h.peers
  have hnx := hld.nx; have hmc := hld.mc
  dsimp only
  split
  · -- it says yes
    split
    · exact h
    rename_i hy hlt
    refine count_ok (lead_mk h rfl rfl rfl rfl rfl rfl rfl h.commit ?_)
    refine (ldr_iff (c := { c with mch := c.mch.set m.src.toNat (min m.index c.last), next := c.next.set m.src.toNat (min m.index c.last + 1) }) (by show 0 ≤ c.peers; omega) hr3).2 ⟨hr3, hld.term, hld.vote, hld.lead, hld.yes, by show ((c.next.set _ _).length : Int) = _; rw [List.length_set]; exact hnx, by show ((c.mch.set _ _).length : Int) = _; rw [List.length_set]; exact hmc, ?_, ?_⟩
    · show (c.mch.set m.src.toNat _).getD c.id.toNat 0 = c.last
      rw [getD_set _ _ _ _ (by omega), if_neg (by omega)]; exact hld.own
    · intro p h0 h1
      show 0 ≤ (c.mch.set m.src.toNat _).getD p.toNat 0 ∧ (c.mch.set m.src.toNat _).getD p.toNat 0 < (c.next.set m.src.toNat _).getD p.toNat 0 ∧ (c.next.set m.src.toNat _).getD p.toNat 0 ≤ c.last + 1
      have h1 : p < c.peers := h1
      rw [getD_set _ _ _ _ (by omega), getD_set _ _ _ _ (by omega)]
      have := hld.pairs p h0 h1
      split <;> omega
  · split
    · exact h
    rename_i hy hlt
    refine lead_mk h rfl rfl rfl rfl rfl rfl rfl h.commit ?_
    refine (ldr_iff (c := { c with next := c.next.set m.src.toNat (max (min (c.next.getD m.src.toNat 0 - 1) (m.index + 1)) (c.mch.getD m.src.toNat 0 + 1)) }) (by show 0 ≤ c.peers; omega) hr3).2 ⟨hr3, hld.term, hld.vote, hld.lead, hld.yes, by show ((c.next.set _ _).length : Int) = _; rw [List.length_set]; exact hnx, hmc, hld.own, ?_⟩
    intro p h0 h1
    show 0 ≤ c.mch.getD p.toNat 0 ∧ c.mch.getD p.toNat 0 < (c.next.set m.src.toNat _).getD p.toNat 0 ∧ (c.next.set m.src.toNat _).getD p.toNat 0 ≤ c.last + 1
    have h1 : p < c.peers := h1
    rw [getD_set _ _ _ _ (by omega)]
    have := hld.pairs p h0 h1
    split
    · rename_i he
      have : p = m.src := by omega
      subst this
      omega
    · omega
end
end Go.LM.Pg
