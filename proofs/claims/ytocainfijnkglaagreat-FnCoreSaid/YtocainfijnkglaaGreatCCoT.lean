/- Standing for election, proposing and compacting: as plain functions, what the program and the reference compute, and that a right core stays right. Conditions: each theorem's own hypotheses. -/
import Derived.Test.YtocainfijnkglaaGreatCCoQ
set_option linter.unusedSimpArgs false
set_option linter.unusedVariables false
namespace Go.LM.Pg

namespace Core
def cand (c : Core) : Core := { c with term := c.term + 1, vote := c.id, role := 2, lead := -1, yes := [c.id] }
def ask (c : Core) (p : Int) : Msg := ⟨1, c.id, p, c.term, c.last, c.tm c.last, 0, false, [], []⟩
def elect (c : Core) : Core × List Msg :=
  if c.role = 3 ∨ 100000 ≤ c.term then (c, [])
  else if c.peers < 2 then c.cand.leads
  else (c.cand, (others c.peers.toNat c.id).map c.cand.ask)
def compact (c : Core) (i : Int) : Core := if i ≤ c.base ∨ c.commit < i then c else { c with base := i, baseTerm := c.tm i, log := c.log.drop (i - c.base).toNat }
def takesIn (c : Core) (s : List UInt8) : Bool := (c.role == 3) && decide ((s.length : Int) ≤ 1600) && c.hasRoom
def propose (c : Core) (s : List UInt8) : Core × List Msg × Int := if c.takesIn s = true then (c.put s, (c.put s).toAll, (c.put s).last) else (c, [], 0)
end Core

section
variable {c : Core}

/-! ### a right core stays right -/
theorem cand_leads : c.cand.leads = ({ c.down (c.term + 1) with vote := c.id } : Core).leads := rfl
theorem voter_ok (h : c.Ok) (hr : c.role = 1) : ({ c with vote := c.id } : Core).Ok := by
  have hok := h.role
  have hi := h.id
  refine ⟨h.peers, h.id, h.base, h.term, ⟨by show -1 ≤ c.id; omega, hi.2⟩, h.len, h.run, h.top, h.commit, ?_⟩
  unfold Core.roleOk at hok ⊢
  rw [show ({ c with vote := c.id } : Core).role = c.role from rfl, hr] at *
  exact hok
theorem bare_of (h : c.Ok) (hr : c.role ≠ 3) : c.next.length = 0 ∧ c.mch.length = 0 := by
  have hok := h.role
  unfold Core.roleOk at hok
  by_cases h1 : c.role = 1
  · rw [h1] at hok
    have hok : c.followOk = true := hok
    unfold Core.followOk at hok
    simp only [Bool.and_eq_true, beq_iff_eq, bne_iff_ne, inR_iff] at hok
    exact ⟨hok.1.2, hok.2⟩
  by_cases h2 : c.role = 2
  · rw [h2] at hok
    have hok : c.seekOk = true := hok
    unfold Core.seekOk at hok
    simp only [Bool.and_eq_true, decide_eq_true_eq, beq_iff_eq] at hok
    exact ⟨hok.1.2, hok.2⟩
  rw [beq_f h1, beq_f h2, beq_f hr] at hok
  cases hok
theorem cand_ok (h : c.Ok) (hr : c.role ≠ 3) (ht : c.term < 100000) (hp : 2 ≤ c.peers) : c.cand.Ok := by
  have hb := h.base; have hte := h.term; have hi := h.id
  obtain ⟨b1, b2⟩ := bare_of h hr
  have hd := down_ok h (c.term + 1) (by omega) (by omega)
  refine ⟨h.peers, h.id, hd.base, hd.term, ⟨by show -1 ≤ c.id; omega, hi.2⟩, h.len, hd.run, h.top, h.commit, ?_⟩
  show c.cand.seekOk = true
  unfold Core.seekOk
  simp only [Bool.and_eq_true, decide_eq_true_eq, beq_iff_eq]
  refine ⟨⟨⟨⟨⟨⟨⟨by show 1 ≤ c.term + 1; omega, rfl⟩, rfl⟩, ?_⟩, ?_⟩, ?_⟩, b1⟩, b2⟩
  · show rises [c.id] 0 (c.peers - 1) = true
    simp only [rises, Bool.and_eq_true, decide_eq_true_eq, and_true]
    exact ⟨hi.1, by omega⟩
  · show [c.id].contains c.id = true
    simp
  · show 2 * (([c.id].length : Nat) : Int) ≤ c.peers
    simp; omega
theorem to_term (c : Core) (p : Int) : (c.to p).term = c.term := by
  unfold Core.to; dsimp only; split <;> rfl
/-- what is known of one that stands -/
structure Core.Stood (c : Core) (r : Core × List Msg) : Prop where
  ok : r.1.Ok
  lo : c.term ≤ r.1.term
  hi : r.1.term ≤ c.term + 1
  says : ∀ x, x ∈ r.2 → x.term = r.1.term
  len : r.2.length ≤ 5
theorem elect_stood (h : c.Ok) : c.Stood c.elect := by
  have hte := h.term; have hp := h.peers
  unfold Core.elect
  by_cases h1 : c.role = 3 ∨ 100000 ≤ c.term
  · rw [if_pos h1]
    exact ⟨h, Int.le_refl _, by show c.term ≤ c.term + 1; omega, fun x hx => by simp at hx, by simp⟩
  rw [if_neg h1]
  have hd := down_ok h (c.term + 1) (by omega) (by omega)
  by_cases h2 : c.peers < 2
  · rw [if_pos h2, cand_leads]
    have hv := voter_ok hd rfl
    have hl := leads_ok hv (by show 1 ≤ c.term + 1; omega) rfl
    have ha := leads_after hv
    have hm : (Core.leads { c.down (c.term + 1) with vote := c.id }).1.term = c.term + 1 := ha.term
    refine ⟨hl, by rw [hm]; omega, by rw [hm]; omega, fun x hx => ?_, ?_⟩
    · have hx : x ∈ (Core.leads { c.down (c.term + 1) with vote := c.id }).1.toAll := hx
      unfold Core.toAll at hx
      obtain ⟨p, _, rfl⟩ := List.mem_map.1 hx
      exact to_term _ _
    · have : (Core.leads { c.down (c.term + 1) with vote := c.id }).1.peers = c.peers := ha.peers
      show (Core.toAll _).length ≤ 5
      unfold Core.toAll
      rw [List.length_map]
      refine Nat.le_trans (others_len _ _) ?_
      show (Core.leads { c.down (c.term + 1) with vote := c.id }).1.peers.toNat ≤ 5
      rw [this]; omega
  · rw [if_neg h2]
    refine ⟨cand_ok h (fun e => h1 (.inl e)) (by omega) (by omega), by show c.term ≤ c.term + 1; omega, Int.le_refl _, fun x hx => ?_, ?_⟩
    · obtain ⟨p, _, rfl⟩ := List.mem_map.1 hx; rfl
    · rw [List.length_map]; exact Nat.le_trans (others_len _ _) (by omega)
theorem compact_ok (h : c.Ok) (i : Int) : (c.compact i).Ok := by
  unfold Core.compact
  split
  · exact h
  rename_i hi
  have hi : c.base < i ∧ i ≤ c.commit := by omega
  have hcm := h.commit; have hb0 := h.b0; have hlen := h.len; have htop := h.top; have hte := h.term
  have hl : c.last = c.base + (c.log.length : Int) := rfl
  have t1 := tm_pos h i (by omega) (by omega) (by omega)
  have t2 := tm_le h i (by omega) (by omega)
  have hlast : ({ c with base := i, baseTerm := c.tm i, log := c.log.drop (i - c.base).toNat } : Core).last = c.last := by
    show i + ((c.log.drop (i - c.base).toNat).length : Int) = _
    rw [List.length_drop]; omega
  refine ⟨h.peers, h.id, .inr ⟨by show 1 ≤ i; omega, by show i ≤ 100000; omega, t1, t2.2⟩, h.term, h.vote, ?_, ?_, ?_, ⟨hi.2, by rw [hlast]; exact hcm.2⟩, ?_⟩
  · show (c.log.drop (i - c.base).toNat).length ≤ 60
    rw [List.length_drop]; omega
  · have hrun := runOk_iff.1 h.run
    refine runOk_iff.2 ⟨fun e he => ?_, hrun.2.sublist (List.drop_sublist _ _)⟩
    have h1 := hrun.1 e (List.mem_of_mem_drop he)
    have h2 := tm_drop h i (by omega) (by omega) e he
    refine ⟨?_, h1.2⟩
    show mxI 1 (c.tm i) ≤ et e
    rw [mx_eq] at h1 ⊢
    omega
  · show i + ((c.log.drop (i - c.base).toNat).length : Int) ≤ 100000
    rw [List.length_drop]; omega
  · have hok := h.role
    unfold Core.roleOk Core.leadOk at hok ⊢
    rw [hlast]
    exact hok
theorem put_ok (h : c.Ok) (hr : c.role = 3) (hm : c.hasRoom = true) (s : List UInt8) (hs : s.length ≤ 1600) : (c.put s).Ok := by
  have l := h.ldr hr
  have hcm := h.commit; have hb0 := h.b0; have hlen := h.len; have htop := h.top; have hte := h.term; have hi := h.id; have hpe := h.peers
  have hl : c.last = c.base + (c.log.length : Int) := rfl
  unfold Core.hasRoom at hm
  simp only [Bool.and_eq_true, decide_eq_true_eq] at hm
  have hg : c.grow s = { c with log := c.log ++ [(c.term, s, ())] } := by
    unfold Core.grow Core.hasRoom
    rw [if_pos (by simp only [Bool.and_eq_true, decide_eq_true_eq]; exact hm)]
  have hrun := runOk_iff.1 h.run
  have hR : runOk (c.log ++ [(c.term, s, ())]) (mxI 1 c.baseTerm) c.term = true := by
    refine runOk_iff.2 ⟨fun e he => ?_, List.pairwise_append.2 ⟨hrun.2, List.pairwise_singleton _ _, fun a ha b hb => ?_⟩⟩
    · rcases List.mem_append.1 he with h1 | h1
      · exact hrun.1 e h1
      · simp at h1; subst h1
        have := h.bt; have := l.term
        rw [mx_eq]
        refine ⟨?_, ?_, hs⟩
        · show max 1 c.baseTerm ≤ c.term; omega
        · show c.term ≤ c.term; omega
    · simp at hb; subst hb; exact (hrun.1 a ha).2.1
  have hL : (c.log ++ [(c.term, s, ())]).length = c.log.length + 1 := by simp
  unfold Core.put
  rw [hg]
  generalize c.log ++ [(c.term, s, ())] = L at *
  refine count_ok ?_
  have hlast : ({ c with log := L } : Core).last = c.last + 1 := by show c.base + (L.length : Int) = _; omega
  have hlast' : ({ c with log := L } : Core).own.last = c.last + 1 := hlast
  refine ⟨h.peers, h.id, h.base, h.term, h.vote, by show L.length ≤ 60; omega, hR, by show c.base + (L.length : Int) ≤ 100000; omega, ⟨hcm.1, by show c.commit ≤ ({ c with log := L } : Core).own.last; rw [hlast']; omega⟩, ?_⟩
  have hmc := l.mc; have hnx := l.nx
  refine (ldr_iff (c := ({ c with log := L } : Core).own) (by show 0 ≤ c.peers; omega) hr).2 ⟨hr, l.term, l.vote, l.lead, l.yes, ?_, ?_, ?_, fun p h0 h1 => ?_⟩
  · show ((c.next.set c.id.toNat _).length : Int) = c.peers
    rw [List.length_set]; exact l.nx
  · show ((c.mch.set c.id.toNat _).length : Int) = c.peers
    rw [List.length_set]; exact l.mc
  · show (c.mch.set c.id.toNat ({ c with log := L } : Core).last).getD c.id.toNat 0 = ({ c with log := L } : Core).own.last
    rw [getD_set _ _ _ _ (by omega), if_pos rfl]; rfl
  · have h1 : p < c.peers := h1
    have hpp := l.pairs p h0 h1
    show 0 ≤ (c.mch.set c.id.toNat ({ c with log := L } : Core).last).getD p.toNat 0 ∧ (c.mch.set c.id.toNat ({ c with log := L } : Core).last).getD p.toNat 0 < (c.next.set c.id.toNat (({ c with log := L } : Core).last + 1)).getD p.toNat 0 ∧ (c.next.set c.id.toNat (({ c with log := L } : Core).last + 1)).getD p.toNat 0 ≤ ({ c with log := L } : Core).own.last + 1
    rw [hlast', hlast, getD_set _ _ _ _ (by omega), getD_set _ _ _ _ (by omega)]
    split <;> omega
theorem propose_ok (h : c.Ok) (s : List UInt8) : (c.propose s).1.Ok := by
  unfold Core.propose
  split
  · rename_i ht
    unfold Core.takesIn at ht
    simp only [Bool.and_eq_true, decide_eq_true_eq, beq_iff_eq] at ht
    exact put_ok h ht.1.1 ht.2 s (by omega)
  · exact h
end

/-! ### what the program and the reference compute -/
section
variable (c : Core)
theorem askGo (x : Core) (h : x.Sz) (z : tCore.D) : ∀ (r k q : Nat) (acc : List tMsg.D), (k : Int) + r = x.peers → x.peers ≤ 1000 → acc.length ≤ k → r < q → spec_Elect_L16 q (k : Int) x.d z acc = some (x.d, acc ++ (((List.range' k r).map Int.ofNat).filter (fun p => p != x.id)).map fun p => (x.ask p).d, ()) := by
  intro r
  induction r with
  | zero =>
    intro k p acc hk hp ha hq
    obtain ⟨p, rfl, _⟩ := fuel hq
    simp only [spec_Elect_L16, spec_Elect_b16]
    simp -index only [Core.mk_d, Core.p0, Core.p1, Core.p2, Core.p3, Core.p4, Core.p5, Core.p6, Core.p7, Core.p8, Core.p9, Core.p10, Core.p11, Core.p12]
    rw [dec_f (by omega)]
    simp
  | succ r ih =>
    intro k p acc hk hp ha hq
    obtain ⟨p, rfl, _⟩ := fuel hq
    simp only [spec_Elect_L16, spec_Elect_b16, spec_Elect_b16_v4]
    simp -index only [Core.mk_d, Core.p0, Core.p1, Core.p2, Core.p3, Core.p4, Core.p5, Core.p6, Core.p7, Core.p8, Core.p9, Core.p10, Core.p11, Core.p12]
    have h1 := ih (k + 1) p (acc ++ [(x.ask (k : Int)).d]) (by omega) hp (by simp; omega) (by omega)
    have h2 := ih (k + 1) p acc (by omega) hp (by omega) (by omega)
    simp only [Int.natCast_add, Int.cast_ofNat_Int] at h1 h2
    rw [dec_t (by omega), sLast x h]
    simp only [Option.bind_some]
    rw [sTerm x h _ (last_in x h)]
    simp only [Option.bind_some]
    rw [w64_sm (a := (k : Int) + 1) (by omega) (by omega), h2, List.range'_succ]
    rw [room_t (by simp; omega)]
    simp only [cond_true, List.map_cons, List.filter_cons, Int.ofNat_eq_natCast]
    by_cases he : (k : Int) = x.id
    · rw [bne_f he]; rfl
    · rw [bne_t he]
      simp only [cond_true, if_true]
      refine Eq.trans h1 ?_
      simp only [List.append_assoc, List.singleton_append, List.map_cons]
theorem sElect (h : c.Ok) : spec_Elect (c.d, ()) = some (c.elect.1.d, c.elect.2.map Msg.d, ()) := by
  have hl := h.lists
  have hlen := h.len; have hp := h.peers; have hi := h.id; have hte := h.term
  show spec_Elect_s (spec_Elect_L16 BIG) c.d = _
  unfold spec_Elect_s Core.elect
  rw [spec_CoreOk_eq c (by omega) (by omega), (c.ok_iff).2 h]
  simp only [Option.bind_some, Bool.not_true, cond_false]
  rw [l13Copy_eq c (by omega) (by omega) (by omega) (by omega)]
  simp only [Option.bind_some]
  simp only [Core.mk_d, Core.p0, Core.p1, Core.p2, Core.p3, Core.p4, Core.p5, Core.p6, Core.p7, Core.p8, Core.p9, Core.p10, Core.p11, Core.p12]
  by_cases h1 : c.role = 3
  · rw [beq_t h1, if_pos (.inl h1)]; rfl
  rw [beq_f h1]
  by_cases h2 : 100000 ≤ c.term
  · rw [dec_t (show c.term ≥ 100000 from h2), if_pos (.inr h2)]; rfl
  rw [dec_f (show ¬ c.term ≥ 100000 from h2), if_neg (by rintro (h | h); exact h1 h; exact h2 h), w64_sm (a := c.term + 1) (by omega) (by omega)]
  have hs : c.cand.Sz := ⟨h.sz.b0, h.sz.b1, h.sz.len⟩
  by_cases h3 : c.peers < 2
  · rw [dec_t (by show w64 (2 * 1) > c.peers; rw [w64_sm (by omega) (by omega)]; omega), if_pos h3]
    have := sLead c.cand hs h.commit (by show c.peers ≤ 1000; omega) hi
    simp only [cond_true, cond_false]
    refine Eq.trans (congrArg (fun o => Option.bind o _) this) ?_
    rfl
  · rw [dec_f (by show ¬ w64 (2 * 1) > c.peers; rw [w64_sm (by omega) (by omega)]; omega), if_neg h3]
    have := askGo c.cand hs Core.zero.d c.peers.toNat 0 BIG [] (by show (0 : Int) + _ = c.peers; omega) (by show c.peers ≤ 1000; omega) (by simp) (by rw [BIG_eq]; omega)
    refine Eq.trans this ?_
    unfold others
    rw [List.range_eq_range']
    simp [List.map_map]
    rfl
end
end Go.LM.Pg
