/- A right core stays right: terms, votes, snapshots, entries. Conditions: each theorem's own hypotheses. -/
import Derived.Test.YtocainfijnkglaaGreatCCoL
set_option linter.unusedSimpArgs false
set_option linter.unusedVariables false
namespace Go.LM.Pg

theorem runOk_iff : ∀ {l : List Ent} {lo hi : Int}, runOk l lo hi = true ↔ (∀ e, e ∈ l → lo ≤ et e ∧ et e ≤ hi ∧ e.2.1.length ≤ 1600) ∧ l.Pairwise (fun a b => et a ≤ et b)
  | [], lo, hi => by simp [runOk]
  | e :: l, lo, hi => by
    simp only [runOk, Bool.and_eq_true, decide_eq_true_eq, runOk_iff (l := l), List.pairwise_cons, List.mem_cons]
    constructor
    · rintro ⟨⟨⟨h1, h2⟩, h3⟩, h4, h5⟩
      refine ⟨?_, fun a ha => (h4 a ha).1, h5⟩
      rintro a (rfl | ha)
      · exact ⟨h1, h2, by omega⟩
      · have := h4 a ha; exact ⟨by omega, this.2⟩
    · rintro ⟨h1, h2, h3⟩
      have h0 := h1 e (.inl rfl)
      exact ⟨⟨⟨h0.1, h0.2.1⟩, by omega⟩, fun a ha => ⟨h2 a ha, (h1 a (.inr ha)).2⟩, h3⟩

section
variable {c : Core} {m : Msg}

/-- a number behind base has an entry -/
theorem tm_mem (i : Int) (h1 : c.base < i) (h2 : i ≤ c.last) : ∃ e, e ∈ c.log ∧ c.tm i = et e ∧ c.log[(i - c.base - 1).toNat]? = some e := by
  have hl : c.last = c.base + (c.log.length : Int) := rfl
  have hlt : (i - c.base - 1).toNat < c.log.length := by omega
  refine ⟨c.log[(i - c.base - 1).toNat], List.getElem_mem hlt, ?_, by rw [List.getElem?_eq_getElem hlt]⟩
  unfold Core.tm
  rw [if_neg (by omega), List.getElem?_eq_getElem hlt]; rfl
theorem tm_base : c.tm c.base = c.baseTerm := by unfold Core.tm; rw [if_pos rfl]
theorem Core.Ok.b0 (h : c.Ok) : 0 ≤ c.base := h.sz.b0
theorem Core.Ok.bt (h : c.Ok) : 0 ≤ c.baseTerm ∧ c.baseTerm ≤ c.term := by have := h.base; have := h.term; omega
theorem tm_le (h : c.Ok) (i : Int) (h1 : c.base ≤ i) (h2 : i ≤ c.last) : 0 ≤ c.tm i ∧ c.tm i ≤ c.term := by
  by_cases hb : c.base = i
  · subst hb; rw [tm_base]; exact h.bt
  · obtain ⟨e, he, ht, _⟩ := tm_mem (c := c) i (by omega) h2
    have := (runOk_iff.1 h.run).1 e he
    rw [mx_eq] at this
    rw [ht]; omega
theorem tm_pos (h : c.Ok) (i : Int) (h0 : 1 ≤ i) (h1 : c.base ≤ i) (h2 : i ≤ c.last) : 1 ≤ c.tm i := by
  by_cases hb : c.base = i
  · have := h.base; subst hb; rw [tm_base]; omega
  · obtain ⟨e, he, ht, _⟩ := tm_mem (c := c) i (by omega) h2
    have := (runOk_iff.1 h.run).1 e he
    rw [mx_eq] at this
    rw [ht]; omega
/-- what stands behind a number has no lesser term -/
theorem tm_drop (h : c.Ok) (i : Int) (h1 : c.base ≤ i) (h2 : i ≤ c.last) (e : Ent) (he : e ∈ c.log.drop (i - c.base).toNat) : c.tm i ≤ et e := by
  have hr := runOk_iff.1 h.run
  by_cases hb : c.base = i
  · subst hb; rw [tm_base]
    have := hr.1 e (List.mem_of_mem_drop he)
    rw [mx_eq] at this; omega
  · obtain ⟨f, hf, ht, hg⟩ := tm_mem (c := c) i (by omega) h2
    rw [ht]
    have hl : c.last = c.base + (c.log.length : Int) := rfl
    have hlt : (i - c.base - 1).toNat < c.log.length := by omega
    have hd : c.log.drop (i - c.base - 1).toNat = f :: c.log.drop (i - c.base).toNat := by
      rw [List.drop_eq_getElem_cons hlt]
      rw [List.getElem?_eq_getElem hlt] at hg
      rw [Option.some.inj hg, show (i - c.base - 1).toNat + 1 = (i - c.base).toNat by omega]
    have hp : (c.log.drop (i - c.base - 1).toNat).Pairwise (fun a b => et a ≤ et b) := hr.2.sublist (List.drop_sublist _ _)
    rw [hd, List.pairwise_cons] at hp
    exact hp.1 e he

theorem down_ok (h : c.Ok) (t : Int) (h1 : c.term ≤ t) (h2 : t ≤ 100000) : (c.down t).Ok := by
  have hb := h.base; have ht := h.term; have hv := h.vote; have hi := h.id; have hp := h.peers
  refine ⟨h.peers, h.id, ?_, ⟨by show 0 ≤ t; omega, h2⟩, ?_, h.len, ?_, h.top, h.commit, ?_⟩
  · show (c.base = 0 ∧ c.baseTerm = 0) ∨ (1 ≤ c.base ∧ c.base ≤ 100000 ∧ 1 ≤ c.baseTerm ∧ c.baseTerm ≤ t); omega
  · show -1 ≤ (if t = c.term then c.vote else -1) ∧ (if t = c.term then c.vote else -1) < c.peers
    split <;> omega
  · have hr := runOk_iff.1 h.run
    exact runOk_iff.2 ⟨fun e he => by have := hr.1 e he; exact ⟨this.1, by show et e ≤ t; omega, this.2.2⟩, hr.2⟩
  · show (c.down t).followOk = true
    unfold Core.followOk
    simp only [Bool.and_eq_true, beq_iff_eq, bne_iff_ne, inR_iff]
    refine ⟨⟨⟨⟨⟨by show (-1 : Int) ≤ -1; omega, by show (-1 : Int) ≤ c.peers - 1; omega⟩, by show (-1 : Int) ≠ c.id; omega⟩, rfl⟩, rfl⟩, rfl⟩
/-- one that is below, of another lead -/
theorem follow_ok (h : c.Ok) (hr : c.role = 1) (p : Int) (hp : 0 ≤ p ∧ p < c.peers) (hn : p ≠ c.id) : ({ c with lead := p } : Core).Ok := by
  have hok := h.role
  unfold Core.roleOk at hok
  rw [hr] at hok
  have hok : c.followOk = true := hok
  unfold Core.followOk at hok
  simp only [Bool.and_eq_true, beq_iff_eq, bne_iff_ne, inR_iff] at hok
  refine ⟨h.peers, h.id, h.base, h.term, h.vote, h.len, h.run, h.top, h.commit, ?_⟩
  show cond (c.role == 1) _ _ = true
  rw [hr]
  show Core.followOk { c with lead := p } = true
  unfold Core.followOk
  simp only [Bool.and_eq_true, beq_iff_eq, bne_iff_ne, inR_iff]
  exact ⟨⟨⟨⟨⟨by omega, by omega⟩, hn⟩, hok.1.1.2⟩, hok.1.2⟩, hok.2⟩
theorem vote_ok (h : c.Ok) (hm : m.In) (hs : m.src < c.peers) : (c.hVote m).1.Ok := by
  unfold Core.hVote
  dsimp only
  split
  · rename_i hg
    unfold Core.grants at hg
    simp only [Bool.and_eq_true, beq_iff_eq] at hg
    have hok := h.role
    have := hm.src
    refine ⟨h.peers, h.id, h.base, h.term, ⟨by show -1 ≤ m.src; omega, hs⟩, h.len, h.run, h.top, h.commit, ?_⟩
    unfold Core.roleOk at hok ⊢
    rw [show ({ c with vote := m.src } : Core).role = c.role from rfl, hg.1.1] at *
    exact hok
  · exact h

/-! ### snapshots -/
theorem snapIn_ok (h : c.Ok) (hr : c.role = 1) (hm : m.In) (hs : m.src < c.peers) (hn : m.src ≠ c.id) (ht : m.term = c.term) (hi : 1 ≤ m.index) (hit : 1 ≤ m.indexTerm ∧ m.indexTerm ≤ m.term) : (c.snapIn m).1.Ok := by
  unfold Core.snapIn
  split
  · exact follow_ok h hr _ ⟨hm.src.1, hs⟩ hn
  · rename_i hc
    have hf := follow_ok h hr _ ⟨hm.src.1, hs⟩ hn
    have hix := hm.index
    have hcm := h.commit
    have hl : c.last = c.base + (c.log.length : Int) := rfl
    have hlen := h.len
    have htop := h.top
    refine ⟨h.peers, h.id, .inr ⟨by show 1 ≤ m.index; omega, by show m.index ≤ 100000; omega, by show 1 ≤ m.indexTerm; omega, by show m.indexTerm ≤ c.term; omega⟩, h.term, h.vote, ?_, ?_, ?_, ?_, ?_⟩
    · show (if m.index ≤ c.last ∧ c.tm m.index = m.indexTerm then c.log.drop (m.index - c.base).toNat else []).length ≤ 60
      split
      · rw [List.length_drop]; omega
      · simp
    · show runOk (if m.index ≤ c.last ∧ c.tm m.index = m.indexTerm then c.log.drop (m.index - c.base).toNat else []) (mxI 1 m.indexTerm) c.term = true
      split
      · rename_i hx
        have hrun := runOk_iff.1 h.run
        refine runOk_iff.2 ⟨fun e he => ?_, hrun.2.sublist (List.drop_sublist _ _)⟩
        have h1 := hrun.1 e (List.mem_of_mem_drop he)
        have h2 := tm_drop h m.index (by omega) hx.1 e he
        rw [mx_eq] at h1 ⊢
        rw [hx.2] at h2
        exact ⟨by omega, h1.2⟩
      · rfl
    · show m.index + ((if m.index ≤ c.last ∧ c.tm m.index = m.indexTerm then c.log.drop (m.index - c.base).toNat else []).length : Int) ≤ 100000
      split
      · rw [List.length_drop]; omega
      · simp; omega
    · exact ⟨Int.le_refl _, by show m.index ≤ m.index + _; omega⟩
    · have hok := hf.role
      unfold Core.roleOk at hok ⊢
      rw [show ({ c with lead := m.src } : Core).role = 1 from hr] at hok
      show cond (c.role == 1) _ _ = true
      rw [hr]
      exact hok
theorem snap_ok (h : c.Ok) (hm : m.In) (hs : m.src < c.peers) (hn : m.src ≠ c.id) (ht : m.term = c.term) (hi : 1 ≤ m.index) (hit : 1 ≤ m.indexTerm ∧ m.indexTerm ≤ m.term) : (c.hSnap m).1.Ok := by
  rw [snapIn_eq]
  split
  · exact h
  · exact snapIn_ok (down_ok h c.term (Int.le_refl _) h.term.2) rfl hm hs hn ht hi hit

/-! ### entries -/
theorem agree_ok (h : c.Ok) (hr : c.role = 1) (k i : Int) (hi : i ≤ c.last) : (c.agree k i).Ok := by
  have := h.commit
  have hok := h.role
  refine ⟨h.peers, h.id, h.base, h.term, h.vote, h.len, h.run, h.top, ⟨by show c.base ≤ max c.commit (min k i); omega, by show max c.commit (min k i) ≤ c.last; omega⟩, ?_⟩
  unfold Core.roleOk at hok ⊢
  rw [show (c.agree k i).role = c.role from rfl, hr] at *
  exact hok
theorem takes_ok (h : c.Ok) (hr : c.role = 1) (k p : Int) : ∀ (l : List Ent) (i : Int), c.base ≤ i → i ≤ c.last → (∀ e, e ∈ l → c.tm i ≤ et e ∧ 1 ≤ et e ∧ et e ≤ c.term ∧ e.2.1.length ≤ 1600) → l.Pairwise (fun a b => et a ≤ et b) → i + (l.length : Int) ≤ 100000 → (c.takes k p i l).1.Ok
  | [], i, h1, h2, _, _, _ => by rw [takes_nil]; exact agree_ok h hr k i h2
  | e :: l, i, h1, h2, h3, h4, h5 => by
    rw [takes_cons]
    have h5' : i + 1 + (l.length : Int) ≤ 100000 := by rw [List.length_cons] at h5; omega
    split
    · rename_i hx
      refine takes_ok h hr k p l (i + 1) (by omega) hx.1 (fun a ha => ?_) (List.pairwise_cons.1 h4).2 h5'
      have := h3 a (List.mem_cons_of_mem _ ha)
      rw [hx.2]
      exact ⟨(List.pairwise_cons.1 h4).1 a ha, this.2⟩
    · split
      · exact h
      · rename_i hc
        have hl : c.last = c.base + (c.log.length : Int) := rfl
        have hlen := h.len
        have hcm := h.commit
        have hrun := runOk_iff.1 h.run
        have htk : (c.log.take (i - c.base).toNat).length = (i - c.base).toNat := by rw [List.length_take]; omega
        let y : Core := { c with log := (c.log.take (i - c.base).toNat ++ e :: l).take 60 }
        have hyl : y.log.length = min 60 ((i - c.base).toNat + (l.length + 1)) := by
          show ((c.log.take (i - c.base).toNat ++ e :: l).take 60).length = _
          rw [List.length_take, List.length_append, htk, List.length_cons]
        have hylast : y.last = c.base + (y.log.length : Int) := rfl
        have hy : y.Ok := by
          refine ⟨h.peers, h.id, h.base, h.term, h.vote, by omega, ?_, ?_, ⟨hcm.1, ?_⟩, ?_⟩
          · refine runOk_iff.2 ⟨fun a ha => ?_, ?_⟩
            · rcases List.mem_append.1 (List.mem_of_mem_take ha) with h6 | h6
              · exact hrun.1 a (List.mem_of_mem_take h6)
              · have h7 := h3 a h6
                have hge := tm_le h i h1 h2
                have h8 : c.baseTerm ≤ c.tm i := by
                  by_cases hb : c.base = i
                  · rw [← hb, tm_base]; omega
                  · obtain ⟨f, hf, hft, _⟩ := tm_mem (c := c) i (by omega) h2
                    have := (hrun.1 f hf).1
                    rw [mx_eq] at this
                    rw [hft]; omega
                refine ⟨?_, h7.2.2.1, h7.2.2.2⟩
                rw [mx_eq]
                show max 1 c.baseTerm ≤ et a
                omega
            · refine List.Pairwise.sublist (List.take_sublist _ _) (List.pairwise_append.2 ⟨hrun.2.sublist (List.take_sublist _ _), h4, fun a ha b hb => ?_⟩)
              refine Int.le_trans ?_ (h3 b hb).1
              -- what stands ahead has no greater term
              by_cases hb : c.base = i
              · rw [show (i - c.base).toNat = 0 by omega] at ha; simp at ha
              · obtain ⟨f, hf, hft, hg⟩ := tm_mem (c := c) i (by omega) h2
                have hlt : (i - c.base - 1).toNat < c.log.length := by omega
                have hsp : c.log.take (i - c.base).toNat = c.log.take (i - c.base - 1).toNat ++ [f] := by
                  rw [show (i - c.base).toNat = (i - c.base - 1).toNat + 1 by omega, List.take_add_one, hg]; rfl
                rw [hft]
                have hp : (c.log.take (i - c.base).toNat).Pairwise (fun a b => et a ≤ et b) := hrun.2.sublist (List.take_sublist _ _)
                rw [hsp] at ha hp
                rcases List.mem_append.1 ha with h9 | h9
                · exact (List.pairwise_append.1 hp).2.2 a h9 f (by simp)
                · simp at h9; rw [h9]; exact Int.le_refl _
          · show c.base + (y.log.length : Int) ≤ 100000
            rw [List.length_cons] at h5
            omega
          · show c.commit ≤ y.last
            omega
          · have hok := h.role
            unfold Core.roleOk at hok ⊢
            rw [show y.role = c.role from rfl, hr] at *
            exact hok
        exact agree_ok hy hr k y.last (Int.le_refl _)
theorem appIn_ok (h : c.Ok) (hr : c.role = 1) (hm : m.In) (hs : m.src < c.peers) (hn : m.src ≠ c.id) (ht : m.term = c.term) (hrun : runOk m.entries (mxI 1 m.indexTerm) m.term = true) (htop : m.index + (m.entries.length : Int) ≤ 100000) :
    (Core.appIn { c with lead := m.src } m).1.Ok := by
  have hf := follow_ok h hr _ ⟨hm.src.1, hs⟩ hn
  have hfr : ({ c with lead := m.src } : Core).role = 1 := hr
  have hft : m.term = ({ c with lead := m.src } : Core).term := ht
  generalize ({ c with lead := m.src } : Core) = x at hf hfr hft
  have hr2 := runOk_iff.1 hrun
  have hfb := hf.sz
  have htopx := hf.top
  have key : ∀ (l : List Ent) (i : Int), x.base ≤ i → (∀ e, e ∈ l → e ∈ m.entries) → l.Pairwise (fun a b => et a ≤ et b) → i + (l.length : Int) ≤ 100000 ∨ l = [] → (i = x.base ∨ i = m.index) → (x.appAt m l i).1.Ok := by
    intro l i h1 h2 h3 h4 h5
    unfold Core.appAt
    split
    · exact hf
    split
    · exact hf
    split
    · exact hf
    rename_i g1 g2 g3
    have hi2 : i ≤ x.last := by omega
    by_cases hl : l = []
    · subst hl
      exact takes_ok hf hfr _ _ [] i h1 hi2 (fun e he => by cases he) List.Pairwise.nil (by
        have hxl : x.last = x.base + (x.log.length : Int) := rfl
        simp; omega)
    refine takes_ok hf hfr _ _ l i h1 hi2 (fun e he => ?_) h3 (by rcases h4 with h4 | h4; exact h4; exact absurd h4 hl)
    have h6 := hr2.1 e (h2 e he)
    rw [mx_eq] at h6
    refine ⟨?_, by omega, by omega, h6.2.2⟩
    by_cases hb : i = x.base
    · rw [hb, tm_base]
      cases l with
      | nil => exact absurd rfl hl
      | cons a l =>
        have h7 : x.baseTerm ≤ et a := by
          refine Int.not_lt.1 fun h8 => g1 ⟨hb, by simp, h8⟩
        rcases List.mem_cons.1 he with rfl | he
        · exact h7
        · exact Int.le_trans h7 ((List.pairwise_cons.1 h3).1 e he)
    · have h7 : x.tm i = m.indexTerm := Decidable.byContradiction fun h8 => g3 ⟨by omega, h8⟩
      rw [h7]; omega
  by_cases hlt : m.index < x.base
  · rw [appIn_at x m x.base (m.entries.drop (x.base - m.index).toNat) (by rw [if_pos hlt]) (by rw [if_pos hlt])]
    refine key _ _ (Int.le_refl _) (fun e he => List.mem_of_mem_drop he) (hr2.2.sublist (List.drop_sublist _ _)) ?_ (.inl rfl)
    by_cases hd : (x.base - m.index).toNat ≤ m.entries.length
    · left; rw [List.length_drop]; omega
    · right; rw [List.drop_of_length_le (by omega)]
  · rw [appIn_at x m m.index m.entries (by rw [if_neg hlt]) (by rw [if_neg hlt])]
    exact key _ _ (by omega) (fun e he => he) hr2.2 (.inl htop) (.inr rfl)
theorem app_ok (h : c.Ok) (hm : m.In) (hs : m.src < c.peers) (hn : m.src ≠ c.id) (ht : m.term = c.term) (hrun : runOk m.entries (mxI 1 m.indexTerm) m.term = true) (htop : m.index + (m.entries.length : Int) ≤ 100000) : (c.hApp m).1.Ok := by
  rw [hApp_eq]
  split
  · exact h
  · exact appIn_ok (c := c.down c.term) (down_ok h c.term (Int.le_refl _) h.term.2) rfl hm hs hn ht hrun htop
end
end Go.LM.Pg
