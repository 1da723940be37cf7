/- Answers to entries are heard alike. Conditions: each theorem's own hypotheses. -/
import Derived.Test.YtocainfijnkglaaGreatCCoH
set_option linter.unusedSimpArgs false
set_option linter.unusedVariables false
namespace Go.LM.Pg

section
variable (c : Core) (m : Msg)

/-- what is known of a leader -/
structure Core.Ld (c : Core) : Prop where
  pt : c.Pt
  pairs : ∀ p : Int, 0 ≤ p → p < c.peers → 0 ≤ c.mch.getD p.toNat 0 ∧ c.mch.getD p.toNat 0 < c.next.getD p.toNat 0 ∧ c.next.getD p.toNat 0 ≤ c.last + 1

theorem pairs_get : ∀ {a b : List Int} {top : Int}, pairsOk a b top = true → a.length = b.length → ∀ i, i < a.length → 0 ≤ a.getD i 0 ∧ a.getD i 0 < b.getD i 0 ∧ b.getD i 0 ≤ top
  | [], _, _, _, _, i, hi => by simp at hi
  | x :: a, [], _, _, hl, _, _ => by simp at hl
  | x :: a, y :: b, top, h, hl, i, hi => by
    simp only [pairsOk, Bool.and_eq_true, decide_eq_true_eq] at h
    cases i with
    | zero => simp only [List.getD_cons_zero]; omega
    | succ i =>
      simp only [List.getD_cons_succ]
      exact pairs_get h.2 (by simpa using hl) i (by simpa using hi)
theorem pairs_of : ∀ {a b : List Int} {top : Int}, a.length = b.length → (∀ i, i < a.length → 0 ≤ a.getD i 0 ∧ a.getD i 0 < b.getD i 0 ∧ b.getD i 0 ≤ top) → pairsOk a b top = true
  | [], _, _, _, _ => by simp [pairsOk]
  | x :: a, [], _, hl, _ => by simp at hl
  | x :: a, y :: b, top, hl, h => by
    simp only [pairsOk, Bool.and_eq_true, decide_eq_true_eq]
    have h0 := h 0 (by simp)
    simp only [List.getD_cons_zero] at h0
    refine ⟨by omega, pairs_of (by simpa using hl) fun i hi => ?_⟩
    have := h (i + 1) (by simpa using hi)
    simpa only [List.getD_cons_succ] using this

theorem Core.Ok.lead {c : Core} (h : c.Ok) (hr : c.role = 3) : c.Ld := by
  have hok := h.role
  unfold Core.roleOk at hok
  rw [hr] at hok
  have hok : c.leadOk = true := hok
  unfold Core.leadOk at hok
  simp only [Bool.and_eq_true, decide_eq_true_eq, beq_iff_eq] at hok
  obtain ⟨⟨⟨⟨⟨⟨⟨g1, g2⟩, g3⟩, g4⟩, g5⟩, g6⟩, g7⟩, g8⟩ := hok
  have hp := h.peers
  refine ⟨⟨h.sz, h.commit, by omega, h.id, g5, g6⟩, fun p h0 h1 => ?_⟩
  exact pairs_get g8 (by omega) p.toNat (by omega)

theorem getD_set (l : List Int) (i j : Nat) (x : Int) (hi : i < l.length) : (l.set i x).getD j 0 = if i = j then x else l.getD j 0 := by
  rw [List.getD_eq_getElem?_getD, List.getElem?_set]
  split
  · rename_i h; subst h; simp [hi]
  · rw [List.getD_eq_getElem?_getD]

theorem sApped (h : c.role = 3 → c.Ld) (hs : 0 ≤ m.src ∧ m.src < c.peers) (hx : 0 ≤ m.index ∧ m.index ≤ 1000000) : spec_l13Apped (c.d, m.d, ()) = some ((c.hApped m).1.d, (c.hApped m).2.map Msg.d, ()) := by
  obtain ⟨q, hq, _⟩ := big_pred 3
  show spec_l13Apped_s (spec_l13Apped_L BIG) c.d m.d = _
  unfold spec_l13Apped_s Core.hApped
  simp -index only [Core.mk_d, Core.p0, Core.p1, Core.p2, Core.p3, Core.p4, Core.p5, Core.p6, Core.p7, Core.p8, Core.p9, Core.p10, Core.p11, Core.p12, Msg.mk_d, Msg.p0, Msg.p1, Msg.p2, Msg.p3, Msg.p4, Msg.p5, Msg.p6, Msg.p7, Msg.p8, Msg.p9]
  by_cases hr : c.role = 3
  case neg => rw [bne_t hr, if_pos hr]; rfl
  rw [bne_f hr, if_neg (fun h => h hr)]
  obtain ⟨pt, pairs⟩ := h hr
  have hpp := pairs m.src hs.1 hs.2
  have := pt.sz.b0; have := pt.sz.b1; have := pt.sz.len; have := pt.nx; have := pt.mc
  have hl : c.last = c.base + (c.log.length : Int) := rfl
  have k8 : ∀ i z, i = min m.index c.last → (spec_l13Apped_L BIG).k8 m.src i c.d z = some ((if i ≤ c.mch.getD m.src.toNat 0 then (c, []) else
        (Core.count { c with mch := c.mch.set m.src.toNat i, next := c.next.set m.src.toNat (i + 1) }, if (c.next.set m.src.toNat (i + 1)).getD m.src.toNat 0 ≤ c.last then [(Core.count { c with mch := c.mch.set m.src.toNat i, next := c.next.set m.src.toNat (i + 1) }).to m.src] else [])).1.d, (if i ≤ c.mch.getD m.src.toNat 0 then (c, []) else
        (Core.count { c with mch := c.mch.set m.src.toNat i, next := c.next.set m.src.toNat (i + 1) }, if (c.next.set m.src.toNat (i + 1)).getD m.src.toNat 0 ≤ c.last then [(Core.count { c with mch := c.mch.set m.src.toNat i, next := c.next.set m.src.toNat (i + 1) }).to m.src] else [])).2.map Msg.d, ()) := by
    intro i z hi
    rw [hq]
    show spec_l13Apped_b8 (spec_l13Apped_L (q + 2)) m.src i c.d z = _
    unfold spec_l13Apped_b8 spec_l13Apped_b8_v3 spec_l13Apped_b8_v5
    simp -index only [Core.mk_d, Core.p0, Core.p1, Core.p2, Core.p3, Core.p4, Core.p5, Core.p6, Core.p7, Core.p8, Core.p9, Core.p10, Core.p11, Core.p12]
    rw [ix_p ⟨hs.1, by omega⟩]
    simp only [Option.bind_some, Nat.zero_add, gd_int]
    by_cases h1 : i ≤ c.mch.getD m.src.toNat 0
    · rw [dec_t h1, if_pos h1]; rfl
    rw [dec_f h1, if_neg h1, ix_p ⟨hs.1, by omega⟩, w64_sm (a := i + 1) (by omega) (by omega)]
    simp only [Option.bind_some, cond_false]
    let x : Core := { c with mch := c.mch.set m.src.toNat i, next := c.next.set m.src.toNat (i + 1) }
    have hx : x.Pt := ⟨⟨pt.sz.b0, pt.sz.b1, pt.sz.len⟩, pt.cm, pt.pe, pt.id, by show ((c.next.set _ _).length : Int) = _; rw [List.length_set]; exact pt.nx, by show ((c.mch.set _ _).length : Int) = _; rw [List.length_set]; exact pt.mc⟩
    have hc := hx.count
    have hxn : ((x.count.next.length : Nat) : Int) = c.peers := hc.nx
    have e1 := sCount x hx.sz hx.cm hx.mc hx.pe
    simp only [x] at e1
    rw [e1]
    simp -index only [Option.bind_some, Core.p11]
    have e2 := sLast x.count hc.sz
    simp only [x] at e2
    rw [ix_p ⟨hs.1, by have := hxn; simp only [x] at this; omega⟩, e2]
    simp only [Option.bind_some, dup_eq]
    have e3 : x.count.NextOk m.src := ⟨hs.1, by omega, by
      show -1000000 ≤ (c.next.set m.src.toNat (i + 1)).getD m.src.toNat 0
      rw [getD_set _ _ _ _ (by omega), if_pos rfl]; omega, by
      show (c.next.set m.src.toNat (i + 1)).getD m.src.toNat 0 ≤ c.last + 1
      rw [getD_set _ _ _ _ (by omega), if_pos rfl]; omega⟩
    have e4 := sTo x.count hc.sz m.src e3
    simp only [x] at e4
    rw [e4]
    show cond (decide ((c.next.set m.src.toNat (i + 1)).getD m.src.toNat 0 ≤ c.last)) _ _ = _
    by_cases h2 : (c.next.set m.src.toNat (i + 1)).getD m.src.toNat 0 ≤ c.last
    · rw [dec_t h2]; simp only [h2, if_true]; rfl
    · rw [dec_f h2]; simp only [h2, if_false]; rfl
  cases hy : m.yes
  case true =>
    simp only [cond_true, if_true]
    rw [sLast c pt.sz]
    simp only [Option.bind_some]
    by_cases h1 : m.index > c.last
    · rw [dec_t h1]
      refine Eq.trans (k8 _ _ (show c.last = min m.index c.last by omega)) ?_
      rw [show min m.index c.last = c.last by omega]; rfl
    · rw [dec_f h1]
      refine Eq.trans (k8 _ _ (show m.index = min m.index c.last by omega)) ?_
      rw [show min m.index c.last = m.index by omega]; rfl
  case false =>
    rw [ix_p ⟨hs.1, by omega⟩]
    simp only [cond_false, Option.bind_some, Nat.zero_add, gd_int, Bool.false_eq_true, if_false]
    rw [w64_sm (a := m.index + 1) (by omega) (by omega), w64_sm (a := c.next.getD m.src.toNat 0 - 1) (by omega) (by omega)]
    have k21 : ∀ n z, n = max (min (c.next.getD m.src.toNat 0 - 1) (m.index + 1)) (c.mch.getD m.src.toNat 0 + 1) → (spec_l13Apped_L (q + 2)).k21 m.src n c.d z = some ((if c.next.getD m.src.toNat 0 ≤ n then (c, []) else ({ c with next := c.next.set m.src.toNat n }, [Core.to { c with next := c.next.set m.src.toNat n } m.src])).1.d, (if c.next.getD m.src.toNat 0 ≤ n then (c, []) else ({ c with next := c.next.set m.src.toNat n }, [Core.to { c with next := c.next.set m.src.toNat n } m.src])).2.map Msg.d, ()) := by
      intro n z hn
      show spec_l13Apped_b21 (spec_l13Apped_L (q + 1)) m.src n c.d z = _
      unfold spec_l13Apped_b21 spec_l13Apped_b21_v3
      simp -index only [Core.mk_d, Core.p0, Core.p1, Core.p2, Core.p3, Core.p4, Core.p5, Core.p6, Core.p7, Core.p8, Core.p9, Core.p10, Core.p11, Core.p12]
      rw [ix_p ⟨hs.1, by omega⟩]
      simp only [Option.bind_some, Nat.zero_add, gd_int]
      by_cases h1 : c.next.getD m.src.toNat 0 ≤ n
      · rw [dec_t (show n ≥ c.next.getD m.src.toNat 0 from h1), if_pos h1]; rfl
      rw [dec_f (show ¬ n ≥ c.next.getD m.src.toNat 0 from h1), if_neg h1]
      simp only [cond_false, dup_eq]
      rw [sTo { c with next := c.next.set m.src.toNat n } ⟨pt.sz.b0, pt.sz.b1, pt.sz.len⟩ m.src ⟨hs.1, by show m.src < ((c.next.set _ _).length : Int); rw [List.length_set]; omega, by
        show -1000000 ≤ (c.next.set m.src.toNat n).getD m.src.toNat 0
        rw [getD_set _ _ _ _ (by omega), if_pos rfl]; omega, by
        show (c.next.set m.src.toNat n).getD m.src.toNat 0 ≤ c.last + 1
        rw [getD_set _ _ _ _ (by omega), if_pos rfl]; omega⟩]
      rfl
    have k19 : ∀ n z, n = min (c.next.getD m.src.toNat 0 - 1) (m.index + 1) → (spec_l13Apped_L BIG).k19 m.src n c.d z = (spec_l13Apped_L (q + 2)).k21 m.src (max n (c.mch.getD m.src.toNat 0 + 1)) c.d z := by
      intro n z hn
      rw [hq]
      show spec_l13Apped_b19 (spec_l13Apped_L (q + 2)) m.src n c.d z = _
      unfold spec_l13Apped_b19
      simp -index only [Core.mk_d, Core.p0, Core.p1, Core.p2, Core.p3, Core.p4, Core.p5, Core.p6, Core.p7, Core.p8, Core.p9, Core.p10, Core.p11, Core.p12]
      rw [ix_p ⟨hs.1, by omega⟩]
      simp only [Option.bind_some, Nat.zero_add, gd_int]
      rw [w64_sm (by omega) (by omega)]
      by_cases h1 : n < c.mch.getD m.src.toNat 0 + 1
      · rw [dec_t h1, show max n (c.mch.getD m.src.toNat 0 + 1) = c.mch.getD m.src.toNat 0 + 1 by omega]; rfl
      · rw [dec_f h1, show max n (c.mch.getD m.src.toNat 0 + 1) = n by omega]; rfl
    by_cases h1 : m.index + 1 < c.next.getD m.src.toNat 0 - 1
    · rw [dec_t h1]
      simp only [cond_true]
      rw [k19 _ _ (by omega), k21 _ _ (by omega), show max (m.index + 1) (c.mch.getD m.src.toNat 0 + 1) = max (min (c.next.getD m.src.toNat 0 - 1) (m.index + 1)) (c.mch.getD m.src.toNat 0 + 1) by omega]
    · rw [dec_f h1]
      simp only [cond_false]
      rw [k19 _ _ (by omega), k21 _ _ (by omega), show max (c.next.getD m.src.toNat 0 - 1) (c.mch.getD m.src.toNat 0 + 1) = max (min (c.next.getD m.src.toNat 0 - 1) (m.index + 1)) (c.mch.getD m.src.toNat 0 + 1) by omega]

theorem iApped (h : c.role = 3 → c.Ld) (hs : 0 ≤ m.src ∧ m.src < c.peers) (hx : 0 ≤ m.index ∧ m.index ≤ 1000000) : impl_Core_apped (c.d, m.d, ()) = some ((c.hApped m).2.map Msg.d, (c.hApped m).1.d, ()) := by
  show impl_Core_apped_s c.d m.d = _
  unfold impl_Core_apped_s impl_Core_apped_s_v4 impl_Core_apped_s_v6 impl_Core_apped_s_v15 Core.hApped
  simp -index only [Core.mk_d, Core.p0, Core.p1, Core.p2, Core.p3, Core.p4, Core.p5, Core.p6, Core.p7, Core.p8, Core.p9, Core.p10, Core.p11, Core.p12, Msg.mk_d, Msg.p0, Msg.p1, Msg.p2, Msg.p3, Msg.p4, Msg.p5, Msg.p6, Msg.p7, Msg.p8, Msg.p9]
  by_cases hr : c.role = 3
  case neg => rw [bne_t hr, if_pos hr]; rfl
  rw [bne_f hr, if_neg (fun h => h hr)]
  obtain ⟨pt, pairs⟩ := h hr
  have hpp := pairs m.src hs.1 hs.2
  have := pt.sz.b0; have := pt.sz.b1; have := pt.sz.len; have := pt.nx; have := pt.mc
  have hl : c.last = c.base + (c.log.length : Int) := rfl
  rw [iLast c pt.sz, ix_p ⟨hs.1, by omega⟩, ix_p ⟨hs.1, by omega⟩]
  simp only [cond_false, Option.bind_some, Nat.zero_add, gd_int, mn_eq, mx_eq]
  cases hy : m.yes
  case true =>
    simp only [cond_true, if_true]
    generalize hi : min m.index c.last = i
    by_cases h1 : i ≤ c.mch.getD m.src.toNat 0
    · rw [dec_t h1, if_pos h1]; rfl
    rw [dec_f h1, if_neg h1, w64_sm (a := i + 1) (by omega) (by omega)]
    simp only [Option.bind_some, cond_false]
    let x : Core := { c with mch := c.mch.set m.src.toNat i, next := c.next.set m.src.toNat (i + 1) }
    have hx : x.Pt := ⟨⟨pt.sz.b0, pt.sz.b1, pt.sz.len⟩, pt.cm, pt.pe, pt.id, by show ((c.next.set _ _).length : Int) = _; rw [List.length_set]; exact pt.nx, by show ((c.mch.set _ _).length : Int) = _; rw [List.length_set]; exact pt.mc⟩
    have hc := hx.count
    have hxn : ((x.count.next.length : Nat) : Int) = c.peers := hc.nx
    have e1 := iCount x hx.sz hx.cm (by have := hx.mc; have := hx.pe; omega)
    simp only [x] at e1
    rw [e1]
    simp -index only [Option.bind_some, Core.p11]
    have e2 := iLast x.count hc.sz
    simp only [x] at e2
    rw [ix_p ⟨hs.1, by have := hxn; simp only [x] at this; omega⟩, e2]
    simp only [Option.bind_some, dup_eq]
    have e3 : x.count.NextOk m.src := ⟨hs.1, by omega, by
      show -1000000 ≤ (c.next.set m.src.toNat (i + 1)).getD m.src.toNat 0
      rw [getD_set _ _ _ _ (by omega), if_pos rfl]; omega, by
      show (c.next.set m.src.toNat (i + 1)).getD m.src.toNat 0 ≤ c.last + 1
      rw [getD_set _ _ _ _ (by omega), if_pos rfl]; omega⟩
    have e4 := iTo x.count hc.sz m.src e3
    simp only [x] at e4
    rw [e4]
    show cond (decide ((c.next.set m.src.toNat (i + 1)).getD m.src.toNat 0 ≤ c.last)) _ _ = some (List.map Msg.d (if (c.next.set m.src.toNat (i + 1)).getD m.src.toNat 0 ≤ c.last then _ else _), _, ())
    by_cases h2 : (c.next.set m.src.toNat (i + 1)).getD m.src.toNat 0 ≤ c.last
    · rw [dec_t h2, if_pos h2]; rfl
    · rw [dec_f h2, if_neg h2]; rfl
  case false =>
    simp only [cond_false, Bool.false_eq_true, if_false]
    rw [w64_sm (a := m.index + 1) (by omega) (by omega), w64_sm (a := c.next.getD m.src.toNat 0 - 1) (by omega) (by omega), w64_sm (a := c.mch.getD m.src.toNat 0 + 1) (by omega) (by omega)]
    generalize hn : max (min (c.next.getD m.src.toNat 0 - 1) (m.index + 1)) (c.mch.getD m.src.toNat 0 + 1) = n
    by_cases h1 : c.next.getD m.src.toNat 0 ≤ n
    · rw [dec_t (show n ≥ c.next.getD m.src.toNat 0 from h1), if_pos h1]; rfl
    rw [dec_f (show ¬ n ≥ c.next.getD m.src.toNat 0 from h1), if_neg h1]
    simp only [cond_false]
    rw [iTo { c with next := c.next.set m.src.toNat n } ⟨pt.sz.b0, pt.sz.b1, pt.sz.len⟩ m.src ⟨hs.1, by show m.src < ((c.next.set _ _).length : Int); rw [List.length_set]; omega, by
      show -1000000 ≤ (c.next.set m.src.toNat n).getD m.src.toNat 0
      rw [getD_set _ _ _ _ (by omega), if_pos rfl]; omega, by
      show (c.next.set m.src.toNat n).getD m.src.toNat 0 ≤ c.last + 1
      rw [getD_set _ _ _ _ (by omega), if_pos rfl]; omega⟩]
    rfl
end
end Go.LM.Pg
