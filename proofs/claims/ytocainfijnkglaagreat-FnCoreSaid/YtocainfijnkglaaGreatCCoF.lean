/- The plain functions of a core are what the program's and the reference's functions compute: what a leader sends, and how one comes to lead. Conditions: each theorem's own hypotheses. -/
import Derived.Test.YtocainfijnkglaaGreatCCoE
set_option linter.unusedSimpArgs false
set_option linter.unusedVariables false
namespace Go.LM.Pg

section
variable (c : Core) (m : Msg)

/-- the place to which a server is sent from is one of the log, or behind it -/
def Core.NextOk (c : Core) (p : Int) : Prop := 0 ≤ p ∧ p < (c.next.length : Int) ∧ -1000000 ≤ c.next.getD p.toNat 0 ∧ c.next.getD p.toNat 0 ≤ c.last + 1

theorem ix_p {l : List Int} {p : Int} (h : 0 ≤ p ∧ p < (l.length : Int)) : ix l.length p = some p.toNat := ix_int h.1 h.2

theorem sToGo (h : c.Sz) (z : tMsg.D) (n : Int) (hn : c.base < n ∧ n ≤ c.last + 1) : ∀ (r q : Nat) (i : Int) (x : Msg), n ≤ i → i + (r : Int) = n + 4 → r < q → x.entries.length + r ≤ 1000 → spec_l13To_L6 q n i c.d z x.d = some (Msg.d { x with entries := x.entries ++ (c.log.drop (i - 1 - c.base).toNat).take r }, ()) := by
  have := h.b0; have := h.b1; have := h.len
  have hl : c.last = c.base + (c.log.length : Int) := rfl
  intro r
  induction r with
  | zero =>
    intro q i x h1 h2 hq hx
    obtain ⟨q, rfl, _⟩ := fuel hq
    simp only [spec_l13To_L6]
    unfold spec_l13To_b6
    rw [sLast c h, w64_sm (a := n + 4) (by omega) (by omega)]
    simp only [Option.bind_some]
    rw [dec_f (show ¬ i < n + 4 by omega)]
    simp only [cond_false, Bool.cond_self, List.take_zero, List.append_nil]
  | succ r ih =>
    intro q i x h1 h2 hq hx
    obtain ⟨q, rfl, _⟩ := fuel hq
    simp only [spec_l13To_L6]
    unfold spec_l13To_b6 spec_l13To_b6_v3
    rw [sLast c h, w64_sm (a := n + 4) (by omega) (by omega)]
    simp only [Option.bind_some]
    rw [dec_t (show i < n + 4 by omega)]
    by_cases hi : i ≤ c.last
    · rw [dec_t hi]
      simp -index only [Core.mk_d, Core.p0, Core.p1, Core.p2, Core.p3, Core.p4, Core.p5, Core.p6, Core.p7, Core.p8, Core.p9, Core.p10, Core.p11, Core.p12, Msg.mk_d, Msg.p0, Msg.p1, Msg.p2, Msg.p3, Msg.p4, Msg.p5, Msg.p6, Msg.p7, Msg.p8, Msg.p9]
      rw [w64_sm (a := i - c.base) (by omega) (by omega), w64_sm (a := i - c.base - 1) (by omega) (by omega), ix_int (n := c.log.length) (i := i - c.base - 1) (by omega) (by omega), w64_sm (a := i + 1) (by omega) (by omega)]
      simp only [cond_true, Option.bind_some]
      rw [room_t (by simp; omega), ih q (i + 1) _ (by omega) (by omega) (by omega) (by simp; omega)]
      have hlt : (i - c.base - 1).toNat < c.log.length := by omega
      rw [show (i - 1 - c.base).toNat = (i - c.base - 1).toNat by omega, drop_cons (t := tEntry) hlt, show (i + 1 - 1 - c.base).toNat = (i - c.base - 1).toNat + 1 by omega]
      simp only [cond_true, List.take_succ_cons, List.append_assoc, List.singleton_append]
    · rw [dec_f hi]
      simp only [cond_false]
      rw [List.drop_of_length_le (by omega)]
      simp only [List.take_nil, List.append_nil]
theorem sTo (h : c.Sz) (p : Int) (hp : c.NextOk p) : spec_l13To (c.d, p, ()) = some ((c.to p).d, ()) := by
  have := h.b0; have := h.b1; have := h.len
  have hl : c.last = c.base + (c.log.length : Int) := rfl
  obtain ⟨h1, h2, h3, h4⟩ := hp
  show spec_l13To_s (spec_l13To_L6 BIG) c.d p = _
  unfold spec_l13To_s Core.to
  simp -index only [Core.mk_d, Core.p0, Core.p1, Core.p2, Core.p3, Core.p4, Core.p5, Core.p6, Core.p7, Core.p8, Core.p9, Core.p10, Core.p11, Core.p12, dup_eq]
  rw [ix_p ⟨h1, h2⟩]
  simp only [Option.bind_some, gd_int]
  generalize c.next.getD p.toNat 0 = n at h3 h4
  by_cases hn : n ≤ c.base
  · rw [dec_t hn, if_pos hn]; rfl
  · rw [dec_f hn, if_neg hn, w64_sm (a := n - 1) (by omega) (by omega), sTerm c h _ ⟨by omega, by omega⟩]
    simp only [cond_false, Option.bind_some]
    exact (sToGo c h _ n ⟨by omega, h4⟩ 4 BIG n ⟨3, c.id, p, c.term, n - 1, c.tm (n - 1), c.commit, false, [], []⟩ (by omega) (by omega) (by rw [BIG_eq]; omega) (by simp)).trans rfl
theorem iTo (h : c.Sz) (p : Int) (hp : c.NextOk p) : impl_Core_sends (c.d, p, ()) = some ((c.to p).d, ()) := by
  have := h.b0; have := h.b1; have := h.len
  have hl : c.last = c.base + (c.log.length : Int) := rfl
  obtain ⟨h1, h2, h3, h4⟩ := hp
  show impl_Core_sends_s c.d p = _
  unfold impl_Core_sends_s Core.to impl_Core_sends_s_v5
  simp -index only [Core.mk_d, Core.p0, Core.p1, Core.p2, Core.p3, Core.p4, Core.p5, Core.p6, Core.p7, Core.p8, Core.p9, Core.p10, Core.p11, Core.p12]
  rw [ix_p ⟨h1, h2⟩]
  simp only [Option.bind_some, gd_int]
  generalize c.next.getD p.toNat 0 = n at h3 h4
  by_cases hn : n ≤ c.base
  · rw [dec_t hn, if_pos hn]; rfl
  · rw [dec_f hn, if_neg hn, w64_sm (a := n - 1) (by omega) (by omega), iTerm c h _ ⟨by omega, by omega⟩, w64_sm (a := n - 1 - c.base) (by omega) (by omega), rng_int (n := c.log.length) (lo := n - 1 - c.base) (by omega) (by omega) (Int.le_refl _)]
    simp only [cond_false, Option.bind_some, part_fr]
    generalize hX : c.log.drop (n - 1 - c.base).toNat = X
    have hXl : X.length ≤ 1000 := by rw [← hX, List.length_drop]; omega
    rw [rng_int (n := X.length) (lo := 0) (by omega) (by rw [mn_eq]; omega) (by rw [mn_eq]; omega)]
    simp only [Option.bind_some, List.length_nil, Nat.zero_add, List.nil_append]
    have e : part X (0 : Int).toNat ((mnI 4 (X.length : Int)).toNat - (0 : Int).toNat) = X.take 4 := by
      unfold part
      rw [mn_eq]
      simp only [Int.toNat_zero, List.drop_zero, Nat.sub_zero]
      by_cases h4 : X.length ≤ 4
      · rw [List.take_of_length_le (by omega), List.take_of_length_le (by omega)]
      · congr 1; omega
    rw [e, room_t (by rw [List.length_take]; omega)]
    rfl

/-! ### all others -/
theorem othersGo (q : Nat) : ∀ (r k p : Nat) (acc : List Int), (k : Int) + r = c.peers → c.peers ≤ 1000 → acc.length ≤ k → r < p → impl_Core_others_L3 p c.d c.peers (k : Int) acc = some (acc ++ ((List.range' k r).map Int.ofNat).filter (fun p => p != c.id), ()) := by
  intro r
  induction r with
  | zero =>
    intro k p acc hk hp ha hq
    obtain ⟨p, rfl, _⟩ := fuel hq
    simp only [impl_Core_others_L3, impl_Core_others_b3]
    rw [dec_f (by omega)]
    simp
  | succ r ih =>
    intro k p acc hk hp ha hq
    obtain ⟨p, rfl, _⟩ := fuel hq
    simp only [impl_Core_others_L3, impl_Core_others_b3]
    simp -index only [Core.mk_d, Core.p0, Core.p1, Core.p2, Core.p3, Core.p4, Core.p5, Core.p6, Core.p7, Core.p8, Core.p9, Core.p10, Core.p11, Core.p12]
    have h1 := ih (k + 1) p (acc ++ [(k : Int)]) (by omega) hp (by simp; omega) (by omega)
    have h2 := ih (k + 1) p acc (by omega) hp (by omega) (by omega)
    simp only [Int.natCast_add, Int.cast_ofNat_Int] at h1 h2
    rw [dec_t (by omega), room_t (by simp; omega), w64_sm (a := (k : Int) + 1) (by omega) (by omega), h1, h2, List.range'_succ]
    simp only [cond_true, List.map_cons, List.filter_cons, Int.ofNat_eq_natCast]
    by_cases he : (k : Int) = c.id
    · rw [bne_f he]; rfl
    · rw [bne_t he]
      simp only [cond_true, if_true, List.append_assoc, List.singleton_append]
theorem others_eq (hp : 0 ≤ c.peers ∧ c.peers ≤ 1000) : impl_Core_others (c.d, ()) = some (others c.peers.toNat c.id, ()) := by
  show impl_Core_others_L3 BIG c.d c.peers 0 [] = _
  have := othersGo c 0 c.peers.toNat 0 BIG [] (by omega) hp.2 (by simp) (by rw [BIG_eq]; omega)
  unfold others
  rw [List.range_eq_range']
  simpa using this
theorem mem_others {n : Nat} {id p : Int} : p ∈ others n id ↔ 0 ≤ p ∧ p < (n : Int) ∧ p ≠ id := by
  unfold others
  simp only [List.mem_filter, List.mem_map, List.mem_range, bne_iff_ne]
  constructor
  · rintro ⟨⟨k, h1, rfl⟩, h2⟩; exact ⟨Int.natCast_nonneg _, by simpa using h1, h2⟩
  · rintro ⟨h1, h2, h3⟩; exact ⟨⟨p.toNat, by omega, by simp; omega⟩, h3⟩
theorem others_len (n : Nat) (id : Int) : (others n id).length ≤ n := by
  unfold others
  exact Nat.le_trans (List.length_filter_le _ _) (by simp)

theorem sendsGo (h : c.Sz) (l : List Int) (hl : l.length ≤ 1000) (hn : ∀ p, p ∈ l → c.NextOk p) : ∀ (r k q : Nat) (acc : List tMsg.D), k + r = l.length → r < q → acc.length ≤ k → impl_Core_sendsAll_L3 q c.d (l.length : Int) (k : Int) acc l = some (acc ++ (l.drop k).map fun p => (c.to p).d, ()) := by
  intro r
  induction r with
  | zero =>
    intro k q acc hk hq ha
    obtain ⟨q, rfl, _⟩ := fuel hq
    simp only [impl_Core_sendsAll_L3, impl_Core_sendsAll_b3]
    rw [dec_f (by omega), List.drop_of_length_le (by omega)]
    simp
  | succ r ih =>
    intro k q acc hk hq ha
    obtain ⟨q, rfl, _⟩ := fuel hq
    have hlt : k < l.length := by omega
    simp only [impl_Core_sendsAll_L3, impl_Core_sendsAll_b3]
    rw [dec_t (by omega), ix_nat hlt, drop_cons (t := .int .i64) hlt]
    simp only [cond_true, Option.bind_some, Nat.zero_add]
    rw [iTo c h _ (hn _ (by rw [gd_eq_get hlt]; exact List.getElem_mem hlt))]
    simp only [Option.bind_some]
    have h1 := ih (k + 1) q (acc ++ [(c.to (gd (.int .i64) l k)).d]) (by omega) (by omega) (by simp; omega)
    simp only [Int.natCast_add, Int.cast_ofNat_Int] at h1
    rw [room_t (by simp; omega), w64_sm (a := (k : Int) + 1) (by omega) (by omega), h1]
    simp only [cond_true, List.map_cons, List.append_assoc, List.singleton_append]
theorem iToAll (h : c.Sz) (hp : 0 ≤ c.peers ∧ c.peers ≤ 1000) (hn : ∀ p, 0 ≤ p → p < c.peers → c.NextOk p) : impl_Core_sendsAll (c.d, ()) = some (c.toAll.map Msg.d, ()) := by
  show impl_Core_sendsAll_s (impl_Core_sendsAll_L3 BIG) c.d = _
  unfold impl_Core_sendsAll_s
  rw [others_eq c hp]
  simp only [Option.bind_some]
  have hlen := others_len c.peers.toNat c.id
  have := sendsGo c h (others c.peers.toNat c.id) (by omega) (fun p hp' => by have := mem_others.1 hp'; exact hn p this.1 (by omega)) (others c.peers.toNat c.id).length 0 BIG [] (by omega) (by rw [BIG_eq]; omega) (by simp)
  refine (Eq.trans ?_ this).trans ?_
  · rfl
  · simp [Core.toAll, List.map_map]
theorem toAllGo (h : c.Sz) (hn : ∀ p, 0 ≤ p → p < c.peers → c.NextOk p) : ∀ (r k q : Nat) (acc : List tMsg.D), (k : Int) + r = c.peers → c.peers ≤ 1000 → acc.length ≤ k → r < q → spec_l13ToAll_L3 q (k : Int) c.d acc = some (acc ++ (((List.range' k r).map Int.ofNat).filter (fun p => p != c.id)).map fun p => (c.to p).d, ()) := by
  intro r
  induction r with
  | zero =>
    intro k p acc hk hp ha hq
    obtain ⟨p, rfl, _⟩ := fuel hq
    simp only [spec_l13ToAll_L3, spec_l13ToAll_b3]
    simp -index only [Core.mk_d, Core.p0, Core.p1, Core.p2, Core.p3, Core.p4, Core.p5, Core.p6, Core.p7, Core.p8, Core.p9, Core.p10, Core.p11, Core.p12]
    rw [dec_f (by omega)]
    simp
  | succ r ih =>
    intro k p acc hk hp ha hq
    obtain ⟨p, rfl, _⟩ := fuel hq
    simp only [spec_l13ToAll_L3, spec_l13ToAll_b3]
    simp -index only [Core.mk_d, Core.p0, Core.p1, Core.p2, Core.p3, Core.p4, Core.p5, Core.p6, Core.p7, Core.p8, Core.p9, Core.p10, Core.p11, Core.p12]
    have h1 := ih (k + 1) p (acc ++ [(c.to (k : Int)).d]) (by omega) hp (by simp; omega) (by omega)
    have h2 := ih (k + 1) p acc (by omega) hp (by omega) (by omega)
    simp only [Int.natCast_add, Int.cast_ofNat_Int] at h1 h2
    rw [dec_t (by omega), sTo c h _ (hn _ (by omega) (by omega)), w64_sm (a := (k : Int) + 1) (by omega) (by omega), h2, List.range'_succ]
    simp only [Option.bind_some]
    rw [room_t (by simp; omega), h1]
    simp only [cond_true, List.map_cons, List.filter_cons, Int.ofNat_eq_natCast]
    by_cases he : (k : Int) = c.id
    · rw [bne_f he]; rfl
    · rw [bne_t he]
      simp only [cond_true, if_true, List.append_assoc, List.singleton_append, List.map_cons]
theorem sToAll (h : c.Sz) (hp : 0 ≤ c.peers ∧ c.peers ≤ 1000) (hn : ∀ p, 0 ≤ p → p < c.peers → c.NextOk p) : spec_l13ToAll (c.d, ()) = some (c.toAll.map Msg.d, ()) := by
  show spec_l13ToAll_L3 BIG 0 c.d [] = _
  have := toAllGo c h hn c.peers.toNat 0 BIG [] (by omega) hp.2 (by simp) (by rw [BIG_eq]; omega)
  refine Eq.trans this ?_
  unfold Core.toAll others
  rw [List.range_eq_range']
  simp [List.map_map]
end
end Go.LM.Pg
