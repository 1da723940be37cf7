/- What a core hears: the program and the reference say the same. Conditions: each theorem's own hypotheses. -/
import Derived.Test.YtocainfijnkglaaGreatCCoK
set_option linter.unusedSimpArgs false
set_option linter.unusedVariables false
namespace Go.LM.Pg

theorem place_in {i t : Int} (h : place i t = true) : 0 ≤ i ∧ i ≤ 100000 ∧ 0 ≤ t ∧ t ≤ 100000 := by
  unfold place at h
  simp only [Bool.or_eq_true, Bool.and_eq_true, beq_iff_eq, inR_iff] at h
  omega

structure Msg.In (m : Msg) : Prop where
  src : 0 ≤ m.src ∧ m.src ≤ 4
  to : 0 ≤ m.to ∧ m.to ≤ 4
  ne : m.src ≠ m.to
  term : 1 ≤ m.term ∧ m.term ≤ 100000
  kind : 1 ≤ m.kind ∧ m.kind ≤ 5
  index : 0 ≤ m.index ∧ m.index ≤ 100000
  len : m.entries.length ≤ 4
theorem msg_in {m : Msg} (h : m.ok = true) : m.In := by
  unfold Msg.ok at h
  simp only [Bool.and_eq_true, inR_iff, bne_iff_ne] at h
  obtain ⟨⟨⟨⟨h1, h2⟩, h3⟩, h4⟩, h5⟩ := h
  have key : (1 ≤ m.kind ∧ m.kind ≤ 5) ∧ (0 ≤ m.index ∧ m.index ≤ 100000) ∧ m.entries.length ≤ 4 := by
    unfold Msg.kindOk at h5
    by_cases k1 : m.kind = 1
    · rw [beq_t k1] at h5
      simp only [cond_true, Bool.and_eq_true, decide_eq_true_eq, beq_iff_eq] at h5
      have := place_in h5.1.1.1.1.1
      omega
    by_cases k2 : m.kind = 2
    · rw [beq_f k1, beq_t k2] at h5
      simp only [cond_true, cond_false, Bool.and_eq_true, decide_eq_true_eq, beq_iff_eq] at h5
      omega
    by_cases k3 : m.kind = 3
    · rw [beq_f k1, beq_f k2, beq_t k3] at h5
      simp only [cond_true, cond_false, Bool.and_eq_true, decide_eq_true_eq, Msg.runs] at h5
      have := place_in h5.1.1.1.1.1
      have := h5.1.1.2.1.1
      omega
    by_cases k4 : m.kind = 4
    · rw [beq_f k1, beq_f k2, beq_f k3, beq_t k4] at h5
      simp only [cond_true, cond_false, Bool.and_eq_true, decide_eq_true_eq, beq_iff_eq, inR_iff] at h5
      omega
    by_cases k5 : m.kind = 5
    · rw [beq_f k1, beq_f k2, beq_f k3, beq_f k4, beq_t k5] at h5
      simp only [cond_true, cond_false, Bool.and_eq_true, decide_eq_true_eq, beq_iff_eq, inR_iff] at h5
      omega
    rw [beq_f k1, beq_f k2, beq_f k3, beq_f k4, beq_f k5] at h5
    cases h5
  exact ⟨h1, h2, h3, h4, key.1, key.2.1, key.2.2⟩

/-- what is needed of a core that hears -/
structure Core.Rdy (c : Core) : Prop where
  sz : c.Sz
  len : c.log.length ≤ 60
  cm : c.base ≤ c.commit ∧ c.commit ≤ c.last
  peers : 1 ≤ c.peers ∧ c.peers ≤ 5
  id : 0 ≤ c.id ∧ c.id < c.peers
  yes : c.yes.length ≤ 1000
  seek : c.role = 2 → c.seekOk = true
  ld : c.role = 3 → c.Ld
theorem rises_len : ∀ {l : List Int} {lo hi : Int}, rises l lo hi = true → lo ≤ hi + 1 → (l.length : Int) ≤ hi - lo + 1
  | [], lo, hi, _, _ => by simp only [List.length_nil]; omega
  | x :: l, lo, hi, h, _ => by
    simp only [rises, Bool.and_eq_true, decide_eq_true_eq] at h
    have := rises_len h.2 (by omega)
    simp only [List.length_cons]; omega
theorem Core.Ok.rdy {c : Core} (h : c.Ok) : c.Rdy := by
  have hok := h.role
  have hp := h.peers
  have seek : c.role = 2 → c.seekOk = true := fun hr => by unfold Core.roleOk at hok; rw [hr] at hok; exact hok
  refine ⟨h.sz, h.len, h.commit, hp, h.id, ?_, seek, fun hr => h.lead hr⟩
  unfold Core.roleOk at hok
  by_cases h1 : c.role = 1
  · rw [beq_t h1] at hok
    simp only [cond_true, Core.followOk, Bool.and_eq_true, beq_iff_eq] at hok
    omega
  rw [beq_f h1] at hok
  by_cases h2 : c.role = 2
  · rw [beq_t h2] at hok
    simp only [cond_true, cond_false, Core.seekOk, Bool.and_eq_true, decide_eq_true_eq] at hok
    have := hok.1.1.2
    omega
  rw [beq_f h2] at hok
  by_cases h3 : c.role = 3
  · rw [beq_t h3] at hok
    simp only [cond_true, cond_false, Core.leadOk, Bool.and_eq_true, decide_eq_true_eq, beq_iff_eq] at hok
    omega
  rw [beq_f h3] at hok
  cases hok
theorem Core.Rdy.down {c : Core} (h : c.Rdy) (t : Int) : (c.down t).Rdy :=
  ⟨⟨h.sz.b0, h.sz.b1, h.sz.len⟩, h.len, h.cm, h.peers, h.id, by show ([] : List Int).length ≤ 1000; simp, fun hr => by have hr : (1 : Int) = 2 := hr; omega, fun hr => by have hr : (1 : Int) = 3 := hr; omega⟩

section
variable (c : Core) (m : Msg)

/-- the reference, by kinds -/
theorem sHearAt (h : c.Rdy) (hm : m.In) (hs : m.src < c.peers) : (cond (m.kind == 1) ((spec_l13Vote (c.d, m.d, ())).bind fun v5 => some (v5.1, v5.2.1, ()))
    (cond (m.kind == 2) ((spec_l13Voted (c.d, m.d, ())).bind fun v6 => some (v6.1, v6.2.1, ()))
    (cond (m.kind == 3) ((spec_l13App (c.d, m.d, ())).bind fun v7 => some (v7.1, v7.2.1, ()))
    (cond (m.kind == 4) ((spec_l13Apped (c.d, m.d, ())).bind fun v8 => some (v8.1, v8.2.1, ()))
      ((spec_l13Snap (c.d, m.d, ())).bind fun v9 => some (v9.1, v9.2.1, ())))))) = some ((c.hearAt m).1.d, (c.hearAt m).2.map Msg.d, ()) := by
  have hp := h.peers; have hi := hm.index; have hl := hm.len
  rw [sVote c m h.sz, sVoted c m h.sz h.cm (by omega) h.id h.yes, sApp c m h.sz h.len h.cm.2 h.cm.1 (by omega) (by omega), sApped c m h.ld ⟨hm.src.1, hs⟩ (by omega), sSnap c m h.sz h.cm.1]
  unfold Core.hearAt
  by_cases k1 : m.kind = 1
  · rw [beq_t k1, if_pos k1]; rfl
  rw [beq_f k1, if_neg k1]
  by_cases k2 : m.kind = 2
  · rw [beq_t k2, if_pos k2]; rfl
  rw [beq_f k2, if_neg k2]
  by_cases k3 : m.kind = 3
  · rw [beq_t k3, if_pos k3]; rfl
  rw [beq_f k3, if_neg k3]
  by_cases k4 : m.kind = 4
  · rw [beq_t k4, if_pos k4]; rfl
  rw [beq_f k4, if_neg k4]; rfl
theorem iHearAt (h : c.Rdy) (hm : m.In) (hs : m.src < c.peers) : (cond (m.kind == 1) ((impl_Core_vote (c.d, m.d, ())).bind fun v5 => some (v5.1, v5.2.1, ()))
    (cond (m.kind == 2) ((impl_Core_voted (c.d, m.d, ())).bind fun v6 => some (v6.1, v6.2.1, ()))
    (cond (m.kind == 3) ((impl_Core_app (c.d, m.d, ())).bind fun v7 => some (v7.1, v7.2.1, ()))
    (cond (m.kind == 4) ((impl_Core_apped (c.d, m.d, ())).bind fun v8 => some (v8.1, v8.2.1, ()))
      ((impl_Core_snap (c.d, m.d, ())).bind fun v9 => some (v9.1, v9.2.1, ())))))) = some ((c.hearAt m).2.map Msg.d, (c.hearAt m).1.d, ()) := by
  have hp := h.peers; have hi := hm.index; have hl := hm.len
  rw [iVote c m h.sz, iVoted c m h.sz h.cm (by omega) h.id ⟨hm.src.1, hs⟩ h.seek, iApp c m h.sz h.len h.cm.2 h.cm.1 (by omega) (by omega), iApped c m h.ld ⟨hm.src.1, hs⟩ (by omega), iSnap c m h.sz h.cm.1]
  unfold Core.hearAt
  by_cases k1 : m.kind = 1
  · rw [beq_t k1, if_pos k1]; rfl
  rw [beq_f k1, if_neg k1]
  by_cases k2 : m.kind = 2
  · rw [beq_t k2, if_pos k2]; rfl
  rw [beq_f k2, if_neg k2]
  by_cases k3 : m.kind = 3
  · rw [beq_t k3, if_pos k3]; rfl
  rw [beq_f k3, if_neg k3]
  by_cases k4 : m.kind = 4
  · rw [beq_t k4, if_pos k4]; rfl
  rw [beq_f k4, if_neg k4]; rfl

/-- lists that are not too long to be gone through -/
structure Core.Fits (c : Core) : Prop where
  log : c.log.length ≤ 1048576
  yes : c.yes.length ≤ 1048576
  next : c.next.length ≤ 1048576
  mch : c.mch.length ≤ 1048576

theorem sHear (hf : c.Fits) (hm : m.entries.length ≤ 1048576) : spec_Hear (c.d, m.d, ()) = some ((c.Hear m).1.d, (c.Hear m).2.map Msg.d, ()) := by
  obtain ⟨q, hq, _⟩ := big_pred 1
  have k12 : ∀ (x : Core) z, (spec_Hear_L BIG).k12 x.d m.d z = some (x.d, [Msg.d ⟨4, x.id, m.src, x.term, 0, 0, 0, false, [], []⟩], ()) := fun x z => by
    rw [hq]
    show spec_Hear_b12 (spec_Hear_L q) x.d m.d z = _
    unfold spec_Hear_b12
    rw [dup_eq]; rfl
  have k16 : ∀ (x : Core) z, x.Rdy → m.In → m.src < x.peers → (spec_Hear_L BIG).k16 x.d m.d z = some ((x.hearAt m).1.d, (x.hearAt m).2.map Msg.d, ()) := fun x z h1 h2 h3 => by
    rw [hq]
    exact sHearAt x m h1 h2 h3
  show spec_Hear_s (spec_Hear_L BIG) c.d m.d = _
  unfold spec_Hear_s Core.Hear
  rw [spec_CoreOk_eq c hf.log hf.yes]
  simp only [Option.bind_some]
  by_cases hok : c.ok = true
  case neg => rw [if_neg hok, Bool.eq_false_iff.2 hok]; rfl
  rw [if_pos hok, hok, l13Copy_eq c hf.log hf.yes hf.next hf.mch]
  simp only [Option.bind_some, Bool.not_true, cond_false]
  rw [spec_MsgOk_eq m hm]
  simp only [Core.mk_d, Core.p0, Core.p1, Core.p2, Core.p3, Core.p4, Core.p5, Core.p6, Core.p7, Core.p8, Core.p9, Core.p10, Core.p11, Core.p12, Msg.mk_d, Msg.p0, Msg.p1, Msg.p2, Msg.p3, Msg.p4, Msg.p5, Msg.p6, Msg.p7, Msg.p8, Msg.p9, Option.bind_some, dup_eq]
  have ok := (c.ok_iff).1 hok
  unfold Core.hear
  by_cases hmo : m.ok = true
  case neg => rw [Bool.eq_false_iff.2 hmo, if_pos (.inl rfl)]; rfl
  have mi := msg_in hmo
  rw [hmo]
  by_cases ht : m.to = c.id
  case neg => rw [bne_t ht, if_pos (.inr (.inl ht))]; rfl
  rw [bne_f ht]
  by_cases hs : c.peers ≤ m.src
  · rw [dec_t (show m.src ≥ c.peers from hs), if_pos (.inr (.inr hs))]; rfl
  rw [dec_f (show ¬ m.src ≥ c.peers from hs), if_neg (by rintro (h | h | h); cases h; exact h ht; exact hs h), dec_f (show ¬ m.kind > 5 by have := mi.kind; omega)]
  simp only [Bool.not_true, cond_false]
  by_cases h1 : m.term < c.term
  · rw [dec_t h1, if_pos h1]
    by_cases k1 : m.kind = 1
    · rw [beq_t k1]; simp only [k1, if_true]; rfl
    by_cases k3 : m.kind = 3
    · rw [beq_f k1, beq_t k3]; simp only [k1, k3, if_false, true_or, if_true]; exact (k12 c _).trans rfl
    by_cases k5 : m.kind = 5
    · rw [beq_f k1, beq_f k3, beq_t k5]; simp only [k1, k3, k5, if_false, or_true, if_true]; exact (k12 c _).trans rfl
    · rw [beq_f k1, beq_f k3, beq_f k5]; simp only [k1, k3, k5, if_false, or_self]; rfl
  rw [dec_f h1, if_neg h1]
  by_cases h2 : c.term < m.term
  · rw [dec_t (show m.term > c.term from h2), if_pos h2, sDown]
    exact k16 (c.down m.term) _ (ok.rdy.down _) mi (by show m.src < c.peers; omega)
  · rw [dec_f (show ¬ m.term > c.term from h2), if_neg h2]
    exact k16 c _ ok.rdy mi (by omega)

theorem iHear (hf : c.Fits) (hm : m.entries.length ≤ 1048576) : impl_Hear (c.d, m.d, ()) = some ((c.Hear m).1.d, (c.Hear m).2.map Msg.d, ()) := by
  show impl_Hear_s c.d m.d = _
  unfold impl_Hear_s Core.Hear
  rw [impl_CoreOk_eq c hf.log hf.yes hf.next hf.mch]
  simp only [Option.bind_some]
  by_cases hok : c.ok = true
  case neg => rw [if_neg hok, Bool.eq_false_iff.2 hok]; rfl
  rw [if_pos hok, hok, copyCore_eq c hf.log hf.yes hf.next hf.mch]
  simp only [Option.bind_some, Bool.not_true, cond_false]
  have ok := (c.ok_iff).1 hok
  have key : impl_Core_hear (c.d, m.d, ()) = some ((c.hear m).2.map Msg.d, (c.hear m).1.d, ()) := by
    obtain ⟨q, hq, _⟩ := big_pred 1
    have k13 : ∀ (x : Core), x.Rdy → m.In → m.src < x.peers → impl_Core_hear_L13 BIG x.d m.d = some ((x.hearAt m).2.map Msg.d, (x.hearAt m).1.d, ()) := fun x h1 h2 h3 => by
      rw [hq]
      exact iHearAt x m h1 h2 h3
    show impl_Core_hear_s (impl_Core_hear_L13 BIG) c.d m.d = _
    unfold impl_Core_hear_s
    rw [impl_MsgOk_eq m hm]
    simp only [Core.mk_d, Core.p0, Core.p1, Core.p2, Core.p3, Core.p4, Core.p5, Core.p6, Core.p7, Core.p8, Core.p9, Core.p10, Core.p11, Core.p12, Msg.mk_d, Msg.p0, Msg.p1, Msg.p2, Msg.p3, Msg.p4, Msg.p5, Msg.p6, Msg.p7, Msg.p8, Msg.p9, Option.bind_some]
    unfold Core.hear
    by_cases hmo : m.ok = true
    case neg => rw [Bool.eq_false_iff.2 hmo, if_pos (.inl rfl)]; rfl
    have mi := msg_in hmo
    rw [hmo]
    by_cases ht : m.to = c.id
    case neg => rw [bne_t ht, if_pos (.inr (.inl ht))]; rfl
    rw [bne_f ht]
    by_cases hs : c.peers ≤ m.src
    · rw [dec_t (show m.src ≥ c.peers from hs), if_pos (.inr (.inr hs))]; rfl
    rw [dec_f (show ¬ m.src ≥ c.peers from hs), if_neg (by rintro (h | h | h); cases h; exact h ht; exact hs h)]
    simp only [Bool.not_true, cond_false]
    by_cases h1 : m.term < c.term
    · rw [dec_t h1, if_pos h1]
      by_cases k1 : m.kind = 1
      · rw [beq_t k1]; simp only [k1, if_true]; rfl
      by_cases k3 : m.kind = 3
      · rw [beq_f k1, beq_t k3]; simp only [k1, k3, if_false, true_or, if_true]; rfl
      by_cases k5 : m.kind = 5
      · rw [beq_f k1, beq_f k3, beq_t k5]; simp only [k1, k3, k5, if_false, or_true, if_true]; rfl
      · rw [beq_f k1, beq_f k3, beq_f k5]; simp only [k1, k3, k5, if_false, or_self]; rfl
    rw [dec_f h1, if_neg h1]
    by_cases h2 : c.term < m.term
    · rw [dec_t (show m.term > c.term from h2), if_pos h2, iDown]
      exact k13 (c.down m.term) (ok.rdy.down _) mi (by show m.src < c.peers; omega)
    · rw [dec_f (show ¬ m.term > c.term from h2), if_neg h2]
      exact k13 c ok.rdy mi (by omega)
  rw [key]; rfl
end
end Go.LM.Pg
