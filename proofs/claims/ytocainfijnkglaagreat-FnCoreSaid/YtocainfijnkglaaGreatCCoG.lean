/- The plain functions of a core are what the program's and the reference's functions compute: how one comes to lead. Conditions: each theorem's own hypotheses. -/
import Derived.Test.YtocainfijnkglaaGreatCCoF
set_option linter.unusedSimpArgs false
set_option linter.unusedVariables false
namespace Go.LM.Pg

section
variable (c : Core) (m : Msg)

theorem iOwn (h : c.Sz) (hi : 0 ≤ c.id) (h1 : c.id < (c.next.length : Int)) (h2 : c.id < (c.mch.length : Int)) : impl_Core_own (c.d, ()) = some (c.own.d, ()) := by
  have := h.b0; have := h.b1; have := h.len
  have hl : c.last = c.base + (c.log.length : Int) := rfl
  show impl_Core_own_s c.d = _
  unfold impl_Core_own_s impl_Core_own_s_v3 impl_Core_own_s_v6
  rw [iLast c h]
  simp -index only [Core.mk_d, Core.p0, Core.p1, Core.p2, Core.p3, Core.p4, Core.p5, Core.p6, Core.p7, Core.p8, Core.p9, Core.p10, Core.p11, Core.p12, Option.bind_some]
  rw [ix_p ⟨hi, h2⟩]
  simp only [Option.bind_some]
  rw [iLast _ (by exact ⟨h.b0, h.b1, h.len⟩), ix_p ⟨hi, h1⟩]
  simp only [Option.bind_some]
  rw [show Core.last ⟨c.id, c.peers, c.term, c.vote, c.role, c.lead, c.base, c.baseTerm, c.log, c.commit, c.yes, c.next, c.mch.set (0 + c.id.toNat) c.last⟩ = c.last from rfl, w64_sm (a := c.last + 1) (by omega) (by omega)]
  simp only [Nat.zero_add]
  rfl
theorem iRoom (h : c.Sz) : impl_Core_hasRoom (c.d, ()) = some (c.hasRoom, ()) := by
  show impl_Core_hasRoom_s c.d = _
  unfold impl_Core_hasRoom_s Core.hasRoom
  rw [iLast c h]
  simp -index only [Core.mk_d, Core.p0, Core.p1, Core.p2, Core.p3, Core.p4, Core.p5, Core.p6, Core.p7, Core.p8, Core.p9, Core.p10, Core.p11, Core.p12, Option.bind_some, cond_some, cond_false_r]
theorem grow_sz (h : c.Sz) (s : List UInt8) : (c.grow s).Sz := by
  unfold Core.grow
  split
  · rename_i hr
    unfold Core.hasRoom at hr
    simp only [Bool.and_eq_true, decide_eq_true_eq] at hr
    exact ⟨h.b0, h.b1, by simp; omega⟩
  · exact h
theorem grow_last (s : List UInt8) : c.last ≤ (c.grow s).last ∧ (c.grow s).last ≤ c.last + 1 := by
  unfold Core.grow
  split
  · unfold Core.last; simp only [List.length_append, List.length_cons, List.length_nil]; omega
  · omega
theorem grow_rest (s : List UInt8) : (c.grow s).id = c.id ∧ (c.grow s).peers = c.peers ∧ (c.grow s).commit = c.commit ∧ (c.grow s).base = c.base ∧ (c.grow s).next = c.next ∧ (c.grow s).mch = c.mch ∧ (c.grow s).term = c.term := by
  unfold Core.grow
  split <;> simp

/-- what a leader must be for an entry to be put into its log -/
structure Core.Pt (c : Core) : Prop where
  sz : c.Sz
  cm : c.base ≤ c.commit ∧ c.commit ≤ c.last
  pe : c.peers ≤ 1000
  id : 0 ≤ c.id ∧ c.id < c.peers
  nx : (c.next.length : Int) = c.peers
  mc : (c.mch.length : Int) = c.peers

theorem Core.Pt.grow {c : Core} (h : c.Pt) (s : List UInt8) : (c.grow s).Pt := by
  obtain ⟨e1, e2, e3, e4, e5, e6, e7⟩ := grow_rest c s
  have := grow_last c s
  have := h.cm
  exact ⟨grow_sz c h.sz s, by omega, by have := h.pe; omega, by have := h.id; omega, by rw [e5, e2]; exact h.nx, by rw [e6, e2]; exact h.mc⟩
theorem Core.Pt.own {c : Core} (h : c.Pt) : c.own.Pt := ⟨⟨h.sz.b0, h.sz.b1, h.sz.len⟩, h.cm, h.pe, h.id, by show ((c.next.set _ _).length : Int) = c.peers; rw [List.length_set]; exact h.nx, by show ((c.mch.set _ _).length : Int) = c.peers; rw [List.length_set]; exact h.mc⟩
theorem counted_in (h : c.commit ≤ c.last) : ∀ k : Nat, c.commit + (k : Int) ≤ c.last → c.commit ≤ c.counted k ∧ c.counted k ≤ c.last
  | 0, _ => by simp only [Core.counted]; omega
  | k + 1, hk => by
    have := counted_in h k (by omega)
    simp only [Core.counted]
    split <;> omega
theorem count_in (h : c.commit ≤ c.last) : c.commit ≤ c.count.commit ∧ c.count.commit ≤ c.last := counted_in c h _ (by omega)
theorem Core.Pt.count {c : Core} (h : c.Pt) : c.count.Pt := ⟨⟨h.sz.b0, h.sz.b1, h.sz.len⟩, by have h1 := count_in c h.cm.2; have h2 := h.cm; exact ⟨Int.le_trans h2.1 h1.1, h1.2⟩, h.pe, h.id, h.nx, h.mc⟩

theorem sPut (h : c.Pt) (s : List UInt8) : spec_l13Put (c.d, s, ()) = some ((c.put s).d, ()) := by
  obtain ⟨q, hq, _⟩ := big_pred 1
  have hk : ∀ (x : Core) z, x.Pt → spec_l13Put_L3 BIG x.d z = some (x.own.count.d, ()) := by
    intro x z hx
    have := hx.sz.b0; have := hx.sz.b1; have := hx.sz.len; have := hx.id; have := hx.nx; have := hx.mc
    have hl : x.last = x.base + (x.log.length : Int) := rfl
    rw [hq]
    simp only [spec_l13Put_L3]
    unfold spec_l13Put_b3 spec_l13Put_b3_v3 spec_l13Put_b3_v6
    rw [sLast x hx.sz]
    simp -index only [Core.mk_d, Core.p0, Core.p1, Core.p2, Core.p3, Core.p4, Core.p5, Core.p6, Core.p7, Core.p8, Core.p9, Core.p10, Core.p11, Core.p12, Option.bind_some]
    rw [ix_p ⟨by omega, by omega⟩]
    simp only [Option.bind_some]
    rw [sLast _ (by exact ⟨hx.sz.b0, hx.sz.b1, hx.sz.len⟩), ix_p ⟨by omega, by omega⟩]
    simp only [Option.bind_some]
    rw [show Core.last ⟨x.id, x.peers, x.term, x.vote, x.role, x.lead, x.base, x.baseTerm, x.log, x.commit, x.yes, x.next, x.mch.set (0 + x.id.toNat) x.last⟩ = x.last from rfl, w64_sm (a := x.last + 1) (by omega) (by omega)]
    simp only [Nat.zero_add]
    exact (congrArg (fun v => v.bind fun v7 => some (v7.1, ())) (sCount x.own hx.own.sz hx.own.cm hx.own.mc hx.own.pe)).trans rfl
  show spec_l13Put_s (spec_l13Put_L3 BIG) c.d s = _
  unfold spec_l13Put_s spec_l13Put_s_v2 Core.put
  rw [sLast c h.sz]
  simp -index only [Core.mk_d, Core.p0, Core.p1, Core.p2, Core.p3, Core.p4, Core.p5, Core.p6, Core.p7, Core.p8, Core.p9, Core.p10, Core.p11, Core.p12, Option.bind_some]
  have := h.sz.len
  rw [room_t (by simp; omega)]
  have hg : c.hasRoom = (decide ((c.log.length : Int) < 60) && decide (c.last < 100000)) := rfl
  by_cases h1 : (c.log.length : Int) < 60
  · rw [dec_t h1]
    by_cases h2 : c.last < 100000
    · rw [dec_t h2]
      have e : c.grow s = { c with log := c.log ++ [(c.term, s, ())] } := by unfold Core.grow; rw [hg, dec_t h1, dec_t h2]; rfl
      have := h.grow s
      rw [e] at this ⊢
      exact hk _ _ this
    · rw [dec_f h2]
      have e : c.grow s = c := by unfold Core.grow; rw [hg, dec_f h2, Bool.and_false]; rfl
      rw [e]
      exact hk _ _ h
  · rw [dec_f h1]
    have e : c.grow s = c := by unfold Core.grow; rw [hg, dec_f h1, Bool.false_and]; rfl
    rw [e]
    exact hk _ _ h

/-- each server is sent to from a place of the log -/
theorem put_next (h : c.Pt) (hn : ∀ p : Int, 0 ≤ p → p < c.peers → -1000000 ≤ c.next.getD p.toNat 0 ∧ c.next.getD p.toNat 0 ≤ c.last + 1) (s : List UInt8) (p : Int) (h0 : 0 ≤ p) (h1 : p < c.peers) : (c.put s).NextOk p := by
  have hg := h.grow s
  obtain ⟨e1, e2, e3, e4, e5, e6, e7⟩ := grow_rest c s
  have hl := grow_last c s
  have hpn : (c.put s).next = (c.next.set c.id.toNat ((c.grow s).last + 1)) := by
    show ((c.grow s).next.set (c.grow s).id.toNat ((c.grow s).last + 1)) = _
    rw [e1, e5]
  have hpl : (c.put s).last = (c.grow s).last := rfl
  have hx := h.nx
  refine ⟨h0, by rw [hpn, List.length_set]; omega, ?_⟩
  rw [hpn, hpl, List.getD_eq_getElem?_getD, List.getElem?_set]
  have := hn p h0 h1
  have := h.id
  have := hg.sz.b0
  have hll : (c.grow s).last = (c.grow s).base + ((c.grow s).log.length : Int) := rfl
  split
  · rw [if_pos (by omega)]; simp only [Option.getD_some]; omega
  · rw [← List.getD_eq_getElem?_getD]; omega

theorem replicate_snoc {α : Type} (n : Nat) (x : α) : List.replicate n x ++ [x] = List.replicate (n + 1) x := by
  rw [List.replicate_succ']

theorem leading_pt (h : c.Sz) (hc : c.base ≤ c.commit ∧ c.commit ≤ c.last) (hp : c.peers ≤ 1000) (hi : 0 ≤ c.id ∧ c.id < c.peers) : c.leading.Pt :=
  ⟨⟨h.b0, h.b1, h.len⟩, hc, hp, hi, by show ((List.replicate c.peers.toNat _).length : Int) = c.peers; rw [List.length_replicate]; omega, by show ((List.replicate c.peers.toNat _).length : Int) = c.peers; rw [List.length_replicate]; omega⟩
theorem leading_next (h : c.Sz) (p : Int) (h0 : 0 ≤ p) (h1 : p < c.peers) : -1000000 ≤ c.leading.next.getD p.toNat 0 ∧ c.leading.next.getD p.toNat 0 ≤ c.leading.last + 1 := by
  have := h.b0
  have hl : c.leading.last = c.base + (c.log.length : Int) := rfl
  have e : c.leading.next.getD p.toNat 0 = c.last + 1 := by
    show (List.replicate c.peers.toNat (c.last + 1)).getD p.toNat 0 = _
    rw [List.getD_eq_getElem?_getD, List.getElem?_replicate, if_pos (by omega)]; rfl
  have hl' : c.last = c.base + (c.log.length : Int) := rfl
  rw [e, hl]; omega

theorem sLead (h : c.Sz) (hc : c.base ≤ c.commit ∧ c.commit ≤ c.last) (hp : c.peers ≤ 1000) (hi : 0 ≤ c.id ∧ c.id < c.peers) : spec_l13Lead (c.d, ()) = some (c.leads.1.d, c.leads.2.map Msg.d, ()) := by
  have := h.b0; have := h.b1; have := h.len
  have hl : c.last = c.base + (c.log.length : Int) := rfl
  have go : ∀ (r k q : Nat) z, (k : Int) + r = c.peers → r < q → spec_l13Lead_L7 q (k : Int) (Core.d { c with role := 3, lead := c.id, yes := [], next := List.replicate k (c.last + 1), mch := List.replicate k 0 }) z = some (c.leads.1.d, c.leads.2.map Msg.d, ()) := by
    intro r
    induction r with
    | zero =>
      intro k q z hk hq
      obtain ⟨q, rfl, _⟩ := fuel hq
      simp only [spec_l13Lead_L7]
      unfold spec_l13Lead_b7
      simp -index only [Core.mk_d, Core.p0, Core.p1, Core.p2, Core.p3, Core.p4, Core.p5, Core.p6, Core.p7, Core.p8, Core.p9, Core.p10, Core.p11, Core.p12]
      rw [dec_f (by omega)]
      have e : ({ c with role := 3, lead := c.id, yes := [], next := List.replicate k (c.last + 1), mch := List.replicate k 0 } : Core) = c.leading := by unfold Core.leading; rw [show c.peers.toNat = k by omega]
      have hpt := leading_pt c h hc hp hi
      rw [e, sPut _ hpt]
      simp only [cond_false, Option.bind_some]
      rw [sToAll (c.leading.put []) ((hpt.grow []).own.count).sz ⟨by show 0 ≤ (c.leading.grow []).peers; rw [(grow_rest c.leading []).2.1]; show 0 ≤ c.peers; omega, (hpt.grow []).pe⟩ (fun p h0 h1 => put_next _ hpt (leading_next c h) _ p h0 (by have e : (c.leading.put []).peers = c.leading.peers := (grow_rest c.leading []).2.1; rw [e] at h1; exact h1))]
      rfl
    | succ r ih =>
      intro k q z hk hq
      obtain ⟨q, rfl, _⟩ := fuel hq
      simp only [spec_l13Lead_L7]
      unfold spec_l13Lead_b7 spec_l13Lead_b7_v2
      simp -index only [Core.mk_d, Core.p0, Core.p1, Core.p2, Core.p3, Core.p4, Core.p5, Core.p6, Core.p7, Core.p8, Core.p9, Core.p10, Core.p11, Core.p12]
      have h1 := ih (k + 1) q z (by omega) (by omega)
      simp only [Int.natCast_add, Int.cast_ofNat_Int, ← replicate_snoc k] at h1
      rw [dec_t (by omega), sLast _ (by exact ⟨h.b0, h.b1, h.len⟩)]
      simp only [cond_true, Option.bind_some]
      rw [show Core.last ⟨c.id, c.peers, c.term, c.vote, 3, c.id, c.base, c.baseTerm, c.log, c.commit, [], List.replicate k (c.last + 1), List.replicate k 0⟩ = c.last from rfl, w64_sm (a := c.last + 1) (by omega) (by omega), w64_sm (a := (k : Int) + 1) (by omega) (by omega), room_t (by simp; omega), room_t (by simp; omega), h1]
      rfl
  show spec_l13Lead_s (spec_l13Lead_L7 BIG) c.d = _
  unfold spec_l13Lead_s
  exact go c.peers.toNat 0 BIG _ (by omega) (by rw [BIG_eq]; omega)

theorem iLead (h : c.Sz) (hc : c.base ≤ c.commit ∧ c.commit ≤ c.last) (hp : c.peers ≤ 1000) (hi : 0 ≤ c.id ∧ c.id < c.peers) : impl_Core_leads (c.d, ()) = some (c.leads.2.map Msg.d, c.leads.1.d, ()) := by
  have := h.b0; have := h.b1; have := h.len
  have hl : c.last = c.base + (c.log.length : Int) := rfl
  have go : ∀ (r k q : Nat) (l : List Int), k + r = c.peers.toNat → l.length = r → r < q → impl_Core_leads_L7 q c.peers (k : Int) (Core.d { c with role := 3, lead := c.id, yes := [], next := List.replicate k (c.last + 1) ++ l, mch := List.replicate c.peers.toNat 0 }) = some (c.leads.2.map Msg.d, c.leads.1.d, ()) := by
    intro r
    induction r with
    | zero =>
      intro k q l hk hll hq
      obtain ⟨q, rfl, _⟩ := fuel hq
      obtain rfl : l = [] := List.eq_nil_of_length_eq_zero hll
      simp only [impl_Core_leads_L7]
      unfold impl_Core_leads_b7 impl_Core_leads_b7_v5
      rw [dec_f (by omega), List.append_nil]
      have e : ({ c with role := 3, lead := c.id, yes := [], next := List.replicate k (c.last + 1), mch := List.replicate c.peers.toNat 0 } : Core) = c.leading := by unfold Core.leading; rw [show c.peers.toNat = k by omega]
      have hpt := leading_pt c h hc hp hi
      rw [e, iRoom _ hpt.sz]
      simp -index only [Core.mk_d, Core.p0, Core.p1, Core.p2, Core.p3, Core.p4, Core.p5, Core.p6, Core.p7, Core.p8, Core.p9, Core.p10, Core.p11, Core.p12, cond_false, Option.bind_some]
      have hgp := hpt.grow []
      have e2 : (c.leading.put []).peers = c.leading.peers := (grow_rest c.leading []).2.1
      have fin : ((impl_Core_own ((c.leading.grow []).d, ())).bind fun v6 => (impl_Core_counts (v6.1, ())).bind fun v7 => (impl_Core_sendsAll (v7.1, ())).bind fun v8 => some (v8.1, v7.1, ())) = some (c.leads.2.map Msg.d, c.leads.1.d, ()) := by
        rw [iOwn _ hgp.sz hgp.id.1 (by rw [hgp.nx]; exact hgp.id.2) (by rw [hgp.mc]; exact hgp.id.2)]
        simp only [Option.bind_some]
        rw [iCount _ hgp.own.sz hgp.own.cm (by have := hgp.own.mc; have := hgp.own.pe; omega)]
        simp only [Option.bind_some]
        rw [iToAll (c.leading.grow []).own.count hgp.own.count.sz ⟨by show 0 ≤ (c.leading.put []).peers; rw [e2]; show 0 ≤ c.peers; omega, hgp.pe⟩ (fun p h0 h1 => put_next _ hpt (leading_next c h) _ p h0 (by have h1' : p < (c.leading.put []).peers := h1; rw [e2] at h1'; exact h1'))]
        rfl
      cases hr : c.leading.hasRoom
      · simp only [cond_false]
        have e3 : c.leading.grow [] = c.leading := by unfold Core.grow; rw [hr]; rfl
        rw [e3] at fin
        exact fin
      · have hlen : c.leading.log.length ≤ 1000 := hpt.sz.len
        rw [room_t (by simp; omega)]
        simp only [cond_true]
        have e3 : c.leading.grow [] = { c.leading with log := c.leading.log ++ [(c.leading.term, [], ())] } := by unfold Core.grow; rw [hr]; rfl
        rw [e3] at fin
        exact fin
    | succ r ih =>
      intro k q l hk hll hq
      obtain ⟨q, rfl, _⟩ := fuel hq
      cases l with
      | nil => simp at hll
      | cons y l =>
        simp only [impl_Core_leads_L7]
        unfold impl_Core_leads_b7 impl_Core_leads_b7_v3
        simp -index only [Core.mk_d, Core.p0, Core.p1, Core.p2, Core.p3, Core.p4, Core.p5, Core.p6, Core.p7, Core.p8, Core.p9, Core.p10, Core.p11, Core.p12]
        have h1 := ih (k + 1) q l (by omega) (by simpa using hll) (by omega)
        simp only [Int.natCast_add, Int.cast_ofNat_Int, ← replicate_snoc k] at h1
        rw [dec_t (by omega), iLast _ (by exact ⟨h.b0, h.b1, h.len⟩)]
        simp only [cond_true, Option.bind_some]
        rw [show Core.last ⟨c.id, c.peers, c.term, c.vote, 3, c.id, c.base, c.baseTerm, c.log, c.commit, [], List.replicate k (c.last + 1) ++ y :: l, List.replicate c.peers.toNat 0⟩ = c.last from rfl, w64_sm (a := c.last + 1) (by omega) (by omega), w64_sm (a := (k : Int) + 1) (by omega) (by omega), ix_nat (by simp)]
        simp only [Option.bind_some, Nat.zero_add]
        have e : (List.replicate k (c.last + 1) ++ y :: l).set k (c.last + 1) = List.replicate k (c.last + 1) ++ [c.last + 1] ++ l := by
          rw [List.set_append_right _ _ (by simp)]
          simp
        rw [e]
        exact h1
  show impl_Core_leads_s (impl_Core_leads_L7 BIG) c.d = _
  unfold impl_Core_leads_s
  simp -index only [Core.mk_d, Core.p0, Core.p1, Core.p2, Core.p3, Core.p4, Core.p5, Core.p6, Core.p7, Core.p8, Core.p9, Core.p10, Core.p11, Core.p12]
  rw [dec_t (show 0 ≤ c.peers by omega), room_t (show c.peers.toNat ≤ 68719476736 by omega), show (((List.replicate c.peers.toNat (0 : Int)).length : Nat) : Int) = c.peers by rw [List.length_replicate]; omega]
  simp only [decide_true, Bool.and_self, cond_true]
  exact go c.peers.toNat 0 BIG (List.replicate c.peers.toNat 0) (by omega) (by simp) (by rw [BIG_eq]; omega)
end
end Go.LM.Pg
