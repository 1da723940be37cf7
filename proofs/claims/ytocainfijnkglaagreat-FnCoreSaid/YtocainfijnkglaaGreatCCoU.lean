/- Standing for election in the program, proposing and compacting in the reference. Conditions: each theorem's own hypotheses. -/
import Derived.Test.YtocainfijnkglaaGreatCCoT
set_option linter.unusedSimpArgs false
set_option linter.unusedVariables false
namespace Go.LM.Pg

section
variable (c : Core)
theorem iAskGo (x : Core) (h : x.Sz) (l : List Int) (hl : l.length ≤ 1000) : ∀ (r k q : Nat) (acc : List tMsg.D), k + r = l.length → r < q → acc.length ≤ k → impl_Core_elect_L12 q (l.length : Int) (k : Int) x.d acc l = some (acc ++ (l.drop k).map fun p => (x.ask p).d, x.d, ()) := by
  intro r
  induction r with
  | zero =>
    intro k q acc hk hq ha
    obtain ⟨q, rfl, _⟩ := fuel hq
    simp only [impl_Core_elect_L12, impl_Core_elect_b12]
    rw [dec_f (by omega), List.drop_of_length_le (by omega)]
    simp
  | succ r ih =>
    intro k q acc hk hq ha
    obtain ⟨q, rfl, _⟩ := fuel hq
    have hlt : k < l.length := by omega
    simp only [impl_Core_elect_L12, impl_Core_elect_b12, impl_Core_elect_b12_v5]
    simp -index only [Core.mk_d, Core.p0, Core.p1, Core.p2, Core.p3, Core.p4, Core.p5, Core.p6, Core.p7, Core.p8, Core.p9, Core.p10, Core.p11, Core.p12]
    rw [dec_t (by omega), ix_nat hlt, drop_cons (t := .int .i64) hlt]
    simp only [cond_true, Option.bind_some, Nat.zero_add]
    rw [iLast x h]
    simp only [Option.bind_some]
    rw [iTerm x h _ (last_in x h)]
    simp only [Option.bind_some]
    have h1 := ih (k + 1) q (acc ++ [(x.ask (gd (.int .i64) l k)).d]) (by omega) (by omega) (by simp; omega)
    simp only [Int.natCast_add, Int.cast_ofNat_Int] at h1
    rw [room_t (by simp; omega), w64_sm (a := (k : Int) + 1) (by omega) (by omega)]
    simp only [cond_true]
    refine Eq.trans h1 ?_
    simp only [List.map_cons, List.append_assoc, List.singleton_append]
theorem iElect (h : c.Ok) : impl_Elect (c.d, ()) = some (c.elect.1.d, c.elect.2.map Msg.d, ()) := by
  have hl := h.lists
  have hlen := h.len; have hp := h.peers; have hi := h.id; have hte := h.term
  have he : impl_Core_elect (c.d, ()) = some (c.elect.2.map Msg.d, c.elect.1.d, ()) := by
    show impl_Core_elect_s (impl_Core_elect_L12 BIG) c.d = _
    unfold impl_Core_elect_s Core.elect
    simp only [Core.mk_d, Core.p0, Core.p1, Core.p2, Core.p3, Core.p4, Core.p5, Core.p6, Core.p7, Core.p8, Core.p9, Core.p10, Core.p11, Core.p12]
    by_cases h1 : c.role = 3
    · rw [beq_t h1, if_pos (.inl h1)]; rfl
    rw [beq_f h1]
    by_cases h2 : 100000 ≤ c.term
    · rw [beq_t (show c.term = 100000 by omega), if_pos (.inr h2)]; rfl
    rw [beq_f (show ¬ c.term = 100000 by omega), if_neg (by rintro (h | h); exact h1 h; exact h2 h), w64_sm (a := c.term + 1) (by omega) (by omega)]
    have hs : c.cand.Sz := ⟨h.sz.b0, h.sz.b1, h.sz.len⟩
    have hm : impl_Core_isMost (c.cand.d, 1, ()) = some (decide (2 * (1 : Int) > c.peers), ()) := by
      show some (decide (w64 (2 * 1) > c.peers), ()) = _
      rw [w64_sm (by omega) (by omega)]
    simp only [cond_false]
    refine Eq.trans (congrArg (fun o => Option.bind o _) hm) ?_
    simp only [Option.bind_some]
    by_cases h3 : c.peers < 2
    · rw [dec_t (by omega), if_pos h3]
      have := iLead c.cand hs h.commit (by show c.peers ≤ 1000; omega) hi
      simp only [cond_true]
      refine Eq.trans (congrArg (fun o => Option.bind o _) this) ?_
      rfl
    · rw [dec_f (by omega), if_neg h3]
      have ho := others_eq c.cand (by show 0 ≤ c.peers ∧ c.peers ≤ 1000; omega)
      simp only [cond_false]
      refine Eq.trans (congrArg (fun o => Option.bind o _) ho) ?_
      simp only [Option.bind_some]
      have hlen := others_len c.cand.peers.toNat c.cand.id
      have hpe : c.cand.peers = c.peers := rfl
      have := iAskGo c.cand hs (others c.cand.peers.toNat c.cand.id) (by omega) _ 0 BIG [] (Nat.zero_add _) (by rw [BIG_eq]; omega) (by simp)
      refine Eq.trans this ?_
      simp [List.map_map]
      constructor <;> rfl
  show impl_Elect_s c.d = _
  unfold impl_Elect_s
  rw [impl_CoreOk_eq c (by omega) (by omega) (by omega) (by omega), (c.ok_iff).2 h]
  simp only [Option.bind_some, Bool.not_true, cond_false]
  rw [copyCore_eq c (by omega) (by omega) (by omega) (by omega)]
  simp only [Option.bind_some]
  rw [he]
  rfl
theorem sCompact (h : c.Ok) (i : Int) : ∃ b, spec_Compact (c.d, i, ()) = some ((c.compact i).d, b, ()) := by
  have hl := h.lists
  have hlen := h.len; have hcm := h.commit; have hb := h.base; have htop := h.top
  have hla : c.last = c.base + (c.log.length : Int) := rfl
  refine ⟨decide (c.base < i) && decide (i ≤ c.commit), ?_⟩
  show spec_Compact_s c.d i = _
  unfold spec_Compact_s Core.compact
  rw [spec_CoreOk_eq c (by omega) (by omega), (c.ok_iff).2 h]
  simp only [Option.bind_some, Bool.not_true, cond_false]
  rw [l13Copy_eq c (by omega) (by omega) (by omega) (by omega)]
  simp only [Option.bind_some]
  simp only [Core.mk_d, Core.p0, Core.p1, Core.p2, Core.p3, Core.p4, Core.p5, Core.p6, Core.p7, Core.p8, Core.p9, Core.p10, Core.p11, Core.p12]
  by_cases h1 : i ≤ c.base
  · rw [dec_t h1, if_pos (.inl h1), dec_f (by omega : ¬ c.base < i)]; rfl
  rw [dec_f h1]
  by_cases h2 : c.commit < i
  · rw [dec_t (show i > c.commit from h2), if_pos (.inr h2), dec_f (by omega : ¬ i ≤ c.commit), Bool.and_false]; rfl
  rw [dec_f (show ¬ i > c.commit from h2), if_neg (by rintro (h | h); exact h1 h; exact h2 h), dec_t (by omega : c.base < i), dec_t (by omega : i ≤ c.commit), sTerm c h.sz i (by omega)]
  simp only [cond_false, Option.bind_some]
  rw [w64_sm (a := i - c.base) (by omega) (by omega), rng_int (by omega) (by omega) (Int.le_refl _)]
  simp only [Option.bind_some]
  rw [part_from]
  rfl
theorem sPropose (h : c.Ok) (s : List UInt8) : spec_Propose (c.d, s, ()) = some ((c.propose s).1.d, (c.propose s).2.1.map Msg.d, (c.propose s).2.2, ()) := by
  have hl := h.lists
  have hlen := h.len; have hcm := h.commit; have hb := h.base; have htop := h.top; have hp := h.peers
  show spec_Propose_s c.d s = _
  unfold spec_Propose_s Core.propose Core.takesIn Core.hasRoom
  rw [spec_CoreOk_eq c (by omega) (by omega), (c.ok_iff).2 h]
  simp only [Option.bind_some, Bool.not_true, cond_false]
  rw [l13Copy_eq c (by omega) (by omega) (by omega) (by omega)]
  simp only [Option.bind_some]
  simp only [Core.mk_d, Core.p0, Core.p1, Core.p2, Core.p3, Core.p4, Core.p5, Core.p6, Core.p7, Core.p8, Core.p9, Core.p10, Core.p11, Core.p12]
  by_cases h1 : c.role = 3
  case neg => rw [bne_t h1, beq_f h1]; rfl
  rw [bne_f h1, beq_t h1]
  by_cases h2 : (s.length : Int) ≤ 1600
  case neg => rw [dec_t (by omega), dec_f h2]; rfl
  rw [dec_f (by omega), dec_t h2]
  by_cases h3 : (c.log.length : Int) < 60
  case neg => rw [dec_t (by omega), dec_f h3]; rfl
  rw [dec_f (by omega), dec_t h3, sLast c h.sz]
  simp only [cond_false, Option.bind_some]
  by_cases h4 : c.last < 100000
  case neg => rw [dec_t (by omega), dec_f h4]; rfl
  rw [dec_f (by omega), dec_t h4]
  have l := h.ldr h1
  have hpt : c.Pt := ⟨h.sz, h.commit, by omega, h.id, l.nx, l.mc⟩
  have hok := put_ok h h1 (by unfold Core.hasRoom; rw [dec_t h3, dec_t h4]; rfl) s (by omega)
  have hpp : (c.put s).peers = c.peers := by
    show (c.grow s).peers = c.peers
    exact (grow_rest c s).2.1
  rw [sPut c hpt s]
  simp only [cond_false, Option.bind_some]
  rw [sToAll (c.put s) hok.sz (by omega) fun p h0 h1 => put_next c hpt (fun p h0 h1 => by have := l.pairs p h0 h1; omega) s p h0 (by omega), sLast _ hok.sz]
  rfl
end
end Go.LM.Pg
