/- Drawn cores: those that are played with stay right; those that are spoilt are not too long. Conditions: each theorem's own hypotheses. -/
import Derived.Test.YtocainfijnkglaaGreatCCoV
set_option linter.unusedSimpArgs false
set_option linter.unusedVariables false
namespace Go.LM.Pg

def CoreR (y : tCore.D) : Prop := (Core.of y).Ok
def CoreF (y : tCore.D) : Prop := (Core.of y).Fits
theorem Core.Ok.fits {c : Core} (h : c.Ok) : c.Fits := by
  have := h.lists; have := h.len
  exact ⟨by omega, by omega, by omega, by omega⟩
theorem Hear_ok {c : Core} (h : c.Ok) (m : Msg) : (c.Hear m).1.Ok := by
  unfold Core.Hear
  rw [if_pos ((c.ok_iff).2 h)]
  exact (hear_heard h).ok
theorem play12 (z : tCore.D) {C : Cur} (hC : CurOk C) : ∀ (r q i : Nat) (x : Core), i + r = 3 → r < q → x.Ok → Draws ((spec_l13Play_L q).k12 (i : Int) x.d z C) CoreR := by
  intro r
  induction r with
  | zero =>
    intro q i x h1 hq hx
    obtain ⟨q, rfl, _⟩ := fuel hq
    show Draws (spec_l13Play_b12 (spec_l13Play_L q) _ x.d z C) _
    unfold spec_l13Play_b12
    rw [dec_f (by omega)]
    exact Draws.ret hC hx
  | succ r ih =>
    intro q i x h1 hq hx
    obtain ⟨q, rfl, _⟩ := fuel hq
    show Draws (spec_l13Play_b12 (spec_l13Play_L q) _ x.d z C) _
    unfold spec_l13Play_b12
    rw [dec_t (by omega)]
    simp only [Core.mk_d, Core.p0, Core.p1, Core.p2, Core.p3, Core.p4, Core.p5, Core.p6, Core.p7, Core.p8, Core.p9, Core.p10, Core.p11, Core.p12, cond_true]
    rw [show spec_Hear (x.d, (2, (i : Int), x.id, x.term, 0, 0, 0, true, ([] : List tEntry.D), ([] : List UInt8), ()), ()) = _ from sHear x ⟨2, (i : Int), x.id, x.term, 0, 0, 0, true, [], []⟩ hx.fits (by simp)]
    simp only [Option.bind_some]
    rw [w64_sm (a := (i : Int) + 1) (by omega) (by omega)]
    have := ih q (i + 1) _ (by omega) (by omega) (Hear_ok hx ⟨2, (i : Int), x.id, x.term, 0, 0, 0, true, [], []⟩)
    simp only [Int.natCast_add, Int.cast_ofNat_Int] at this
    exact this
theorem play_draws {C : Cur} (hC : CurOk C) (x : Core) (h : x.Ok) : Draws (spec_l13Play (C, x.d, ())) CoreR := by
  show Draws (spec_l13Play_s (spec_l13Play_L BIG) C x.d) _
  unfold spec_l13Play_s
  obtain ⟨q, hq, hq'⟩ := big_pred 1
  have hE : ∀ C, CurOk C → Draws ((spec_Elect (x.d, ())).bind fun v2 => some (v2.1, C, ())) CoreR := fun C hC => by
    rw [sElect x h]
    exact Draws.ret hC (elect_stood h).ok
  have h6 : ∀ (v : Int) (C : Cur) z, CurOk C → Draws ((spec_l13Play_L BIG).k6 v C x.d z) CoreR := fun v C z hC => by
    rw [hq]
    show Draws (spec_l13Play_b6 (spec_l13Play_L q) v C x.d z) _
    unfold spec_l13Play_b6
    refine Draws.cond ((text_draws hC 5 (by omega)).bind fun s C hC hs => ?_) (Draws.cond ((below_draws hC _).bind fun a C hC ha => ?_) (Draws.cond ?_ ?_))
    · rw [sPropose x h s]
      exact Draws.ret hC (propose_ok h s)
    · obtain ⟨b, hb⟩ := sCompact x h (w64 (x.base + a))
      refine Eq.mpr (congrArg (fun o => Draws (Option.bind o _) CoreR) hb) ?_
      exact Draws.ret hC (compact_ok h _)
    · exact play12 z hC 3 q 0 x (by omega) (by omega) h
    · obtain ⟨y, C, h1, hC, h2⟩ := to_msg_draws hC x h
      rw [h1]
      obtain ⟨m, rfl⟩ := Msg.ex y
      have h2 : m.entries.length ≤ 6 := h2.1
      have hs := sHear x m h.fits (by omega)
      show Draws ((spec_Hear (x.d, m.d, ())).bind fun v6 => some (v6.1, C, ())) CoreR
      rw [hs]
      exact Draws.ret hC (Hear_ok h m)
  refine (below_draws hC _).bind fun v C hC _ => Draws.cond (Draws.cond (hE C hC) (h6 _ C _ hC)) (Draws.cond (hE C hC) (h6 _ C _ hC))
theorem core9 (z : tCore.D) : ∀ (r q : Nat) (x : Core) (C : Cur), CurOk C → r < q → r ≤ 1000 → x.Ok → Draws ((spec_l13Core_L q).k9 (r : Int) C z x.d) CoreR := by
  intro r
  induction r with
  | zero =>
    intro q x C hC hq hr hx
    obtain ⟨q, rfl, _⟩ := fuel hq
    show Draws (spec_l13Core_b9 (spec_l13Core_L q) ((0 : Nat) : Int) C z x.d) CoreR
    unfold spec_l13Core_b9
    rw [dec_f (by omega)]
    exact Draws.ret hC hx
  | succ r ih =>
    intro q x C hC hq hr hx
    obtain ⟨q, rfl, _⟩ := fuel hq
    show Draws (spec_l13Core_b9 (spec_l13Core_L q) ((r + 1 : Nat) : Int) C z x.d) CoreR
    unfold spec_l13Core_b9
    rw [dec_t (by omega), cond_true]
    refine (play_draws hC x hx).bind fun y C hC hy => ?_
    dsimp only
    rw [w64_sm (by omega) (by omega), show ((r + 1 : Nat) : Int) - 1 = (r : Int) by omega]
    exact ih q (Core.of y) C hC (by omega) (by omega) hy
theorem core_draws {C : Cur} (hC : CurOk C) (n : Int) (hn : n ≤ 1000) : Draws (spec_l13Core (C, n, ())) CoreR := by
  show Draws (spec_l13Core_s (spec_l13Core_L BIG) C n) _
  unfold spec_l13Core_s
  obtain ⟨q, hq, hq'⟩ := big_pred 2
  have h9 : ∀ (C : Cur) (x : Core) (z : tCore.D), CurOk C → x.Ok → Draws ((spec_l1Below (C, n, ())).bind fun v3 => (spec_l13Core_L q).k9 v3.1 v3.2.1 z x.d) CoreR := fun C x z hC hx => by
    refine (below_draws hC _).bind fun a C hC ha => ?_
    have a0 := ha.lo
    have a1 : a < 1000 := by
      by_cases h0 : 0 < n
      · have := ha.hi h0; omega
      · have := ha.no (by omega); omega
    have := core9 z a.toNat q x C hC (by omega) (by omega) hx
    rw [Int.toNat_of_nonneg a0] at this
    exact this
  have h6 : ∀ (C : Cur) (b : Bool) (x : Core) (z : tCore.D), CurOk C → (b = true → x.Ok) → Draws ((spec_l13Core_L (q + 1)).k6 n b C z x.d) CoreR := fun C b x z hC hx => by
    show Draws (spec_l13Core_b6 (spec_l13Core_L q) n b C z x.d) _
    unfold spec_l13Core_b6
    cases b
    · have hb : Core.bornOk 0 3 ⟨0, -1, ⟨0, 0, []⟩, []⟩ = true := by rfl
      have := coreOf_eq 0 3 ⟨0, -1, ⟨0, 0, []⟩, []⟩ (by simp)
      rw [hb, if_pos rfl] at this
      simp only [Bool.not_false, cond_true]
      refine Eq.mpr (congrArg (fun o => Draws (Option.bind o _) CoreR) this) ?_
      exact h9 C _ z hC (born_ok hb)
    · exact h9 C x z hC (hx rfl)
  have h5 : ∀ (C : Cur) (p : Int) (z : tCore.D) (k : Kept), CurOk C → k.entries.length ≤ 100 → Draws ((spec_l13Core_L BIG).k5 n p C z k.d) CoreR := fun C p z k hC hk => by
    rw [hq]
    show Draws (spec_l13Core_b5 (spec_l13Core_L (q + 1)) n p C z k.d) _
    unfold spec_l13Core_b5
    simp only [dup_eq, both_same]
    refine (below_draws hC _).bind fun a C hC _ => ?_
    dsimp only
    rw [coreOf_eq a p k (by omega)]
    simp only [Option.bind_some]
    refine h6 C _ _ z hC fun hb => ?_
    rw [if_pos hb]
    exact born_ok hb
  refine (kept_draws hC).bind fun y C hC hy => (pick_draws hC _ (by simp)).bind fun p C hC _ => Draws.cond ?_ ?_
  · exact h5 C p _ ⟨(Kept.of y).term, -1, (Kept.of y).snap, (Kept.of y).entries⟩ hC hy
  · exact h5 C p _ (Kept.of y) hC hy
theorem any_draws {C : Cur} (hC : CurOk C) (n : Int) (hn : n ≤ 1000) : Draws (spec_l13Any (C, n, ())) CoreF := by
  show Draws (spec_l13Any_s C n) _
  unfold spec_l13Any_s
  refine (core_draws hC n hn).bind fun y C hC hy => ?_
  obtain ⟨x, rfl⟩ := Core.ex y
  have hy : x.Ok := hy
  have hl := hy.lists; have hlen := hy.len
  have f : x.Fits := hy.fits
  refine (once_draws hC _).bind fun b C hC _ => Draws.cond (Draws.ret hC f) ?_
  dsimp only
  rw [l13Copy_eq x f.log f.yes f.next f.mch]
  simp only [Option.bind_some]
  refine (below_draws hC _).bind fun v C hC _ => ?_
  refine Draws.cond ((pick_draws hC _ (by simp)).bind fun a C hC _ => Draws.ret hC ⟨f.log, f.yes, f.next, f.mch⟩) ?_
  refine Draws.cond ((pick_draws hC _ (by simp)).bind fun a C hC _ => Draws.ret hC ⟨f.log, f.yes, f.next, f.mch⟩) ?_
  refine Draws.cond ((below_draws hC _).bind fun a C hC _ => Draws.ret hC ⟨f.log, f.yes, f.next, f.mch⟩) ?_
  refine Draws.cond ((below_draws hC _).bind fun a C hC _ => Draws.ret hC ⟨f.log, f.yes, f.next, f.mch⟩) ?_
  refine Draws.cond ((below_draws hC _).bind fun a C hC _ => ?_) ?_
  · simp only [Core.mk_d, Core.p0, Core.p1, Core.p2, Core.p3, Core.p4, Core.p5, Core.p6, Core.p7, Core.p8, Core.p9, Core.p10, Core.p11, Core.p12]
    rw [room_t (by simp; omega)]
    exact Draws.ret hC ⟨f.log, by show (x.yes ++ [a]).length ≤ 1048576; simp; omega, f.next, f.mch⟩
  refine Draws.cond ((below_draws hC _).bind fun a C hC _ => Draws.ret hC ⟨f.log, f.yes, f.next, f.mch⟩) ?_
  refine Draws.cond ?_ ?_
  · by_cases h0 : (x.next.length : Int) > 0
    · simp -index only [Core.p11]
      rw [dec_t h0, cond_true]
      refine (below_draws hC _).bind fun a C hC ha => (below_draws hC _).bind fun b C hC hb => ?_
      dsimp only
      rw [ix_int ha.lo (ha.hi h0)]
      exact Draws.ret hC ⟨f.log, f.yes, by show (x.next.set _ _).length ≤ 1048576; rw [List.length_set]; exact f.next, f.mch⟩
    · simp -index only [Core.p11]
      rw [dec_f h0, cond_false]
      exact Draws.ret hC f
  refine Draws.cond ?_ ?_
  · by_cases h0 : (x.mch.length : Int) > 0
    · simp -index only [Core.p12]
      rw [dec_t h0, cond_true]
      refine (below_draws hC _).bind fun a C hC ha => (below_draws hC _).bind fun b C hC hb => ?_
      dsimp only
      rw [ix_int ha.lo (ha.hi h0)]
      exact Draws.ret hC ⟨f.log, f.yes, f.next, by show (x.mch.set _ _).length ≤ 1048576; rw [List.length_set]; exact f.mch⟩
    · simp -index only [Core.p12]
      rw [dec_f h0, cond_false]
      exact Draws.ret hC f
  exact (below_draws hC _).bind fun a C hC _ => Draws.ret hC ⟨f.log, f.yes, f.next, f.mch⟩

/-! ### a cursor over a code, and what a server hears -/
theorem new_go (code : List Int) (hl : code.length ≤ 1048576) : ∀ (r q i : Nat) (h : Int), 4000 ≤ i + r → i ≤ 4000 → r < q → ∃ h', spec_l1New_L3 q code h (i : Int) = some ((code, 0, h', ()), ()) := by
  intro r
  induction r with
  | zero =>
    intro q i h h1 h2 hq
    obtain ⟨q, rfl, _⟩ := fuel hq
    refine ⟨h, ?_⟩
    show spec_l1New_b3 (spec_l1New_L3 q) code h i = _
    unfold spec_l1New_b3
    rw [dec_f (by omega : ¬ (i : Int) < 4000)]
    cases decide ((i : Int) < (code.length : Int)) <;> rfl
  | succ r ih =>
    intro q i h h1 h2 hq
    obtain ⟨q, rfl, _⟩ := fuel hq
    by_cases g1 : i < code.length
    case neg =>
      refine ⟨h, ?_⟩
      show spec_l1New_b3 (spec_l1New_L3 q) code h i = _
      unfold spec_l1New_b3
      rw [dec_f (by omega : ¬ (i : Int) < (code.length : Int))]; rfl
    by_cases g2 : i < 4000
    case neg =>
      refine ⟨h, ?_⟩
      show spec_l1New_b3 (spec_l1New_L3 q) code h i = _
      unfold spec_l1New_b3
      rw [dec_t (by omega : (i : Int) < (code.length : Int)), dec_f (by omega : ¬ (i : Int) < 4000)]; rfl
    obtain ⟨h', e⟩ := ih q (i + 1) (bitsI .and .i64 (w64 (w64 (w64 (h * 131) + w64 (gd (Ty.int .u8) code i)) + 7)) 1073741823) (by omega) (by omega) (by omega)
    refine ⟨h', ?_⟩
    show spec_l1New_b3 (spec_l1New_L3 q) code h i = _
    unfold spec_l1New_b3
    rw [dec_t (by omega : (i : Int) < (code.length : Int)), dec_t (by omega : (i : Int) < 4000), ix_nat g1, w64_sm (a := (i : Int) + 1) (by omega) (by omega)]
    simp only [Int.natCast_add, Int.cast_ofNat_Int] at e
    exact e
theorem new_eq (code : List Int) (hl : code.length ≤ 1048576) : ∃ C : Cur, spec_l1New (code, ()) = some (C, ()) ∧ CurOk C := by
  obtain ⟨h, e⟩ := new_go code hl 4000 BIG 0 (w64 (10101 + (code.length : Int))) (by omega) (by omega) (by rw [BIG_eq]; omega)
  exact ⟨(code, 0, h, ()), e, Int.le_refl _, by show (0 : Int) ≤ (code.length : Int); omega, hl⟩
theorem size_eq (code : List Int) (n : Int) : ∃ k, spec_l1Size (code, n, ()) = some (k, ()) ∧ k ≤ n := by
  show ∃ k, spec_l1Size_s code n = some (k, ()) ∧ k ≤ n
  unfold spec_l1Size_s
  by_cases h : w64 (2 + w64 (Int.tdiv (code.length : Int) 20)) > n
  · rw [dec_t h]; exact ⟨n, rfl, Int.le_refl _⟩
  · rw [dec_f h]; exact ⟨_, rfl, by omega⟩
theorem drawHear_eq (code : List Int) (hl : code.length ≤ 1048576) : ∃ (c : Core) (m : Msg), spec_DrawHear (code, ()) = some (c.d, m.d, ()) ∧ c.Fits ∧ m.entries.length ≤ 7 := by
  obtain ⟨C, e1, hC⟩ := new_eq code hl
  obtain ⟨k, e2, hk⟩ := size_eq code 20
  obtain ⟨y, C, e3, hC, hy⟩ := any_draws hC k (by omega)
  obtain ⟨c, rfl⟩ := Core.ex y
  have f : c.Fits := hy
  obtain ⟨b, C, e4, hC, _⟩ := once_draws hC 8
  obtain ⟨z, C1, e5, hC1, hz⟩ := any_msg_draws hC
  obtain ⟨m, rfl⟩ := Msg.ex z
  show ∃ (c : Core) (m : Msg), spec_DrawHear_s code = some (c.d, m.d, ()) ∧ c.Fits ∧ m.entries.length ≤ 7
  unfold spec_DrawHear_s
  rw [e1]
  simp only [Option.bind_some]
  rw [e2]
  simp only [Option.bind_some]
  rw [e3]
  simp only [Option.bind_some]
  rw [e4]
  simp only [Option.bind_some]
  cases b
  · rw [spec_CoreOk_eq c f.log f.yes]
    simp only [Option.bind_some, cond_false]
    cases hok : c.ok
    · simp only [Bool.not_false, cond_true]
      rw [e5]
      exact ⟨c, m, rfl, f, hz.1⟩
    · obtain ⟨z, C2, e6, hC2, hz⟩ := to_msg_draws hC c ((c.ok_iff).1 hok)
      simp only [Bool.not_true, cond_false]
      rw [e6]
      exact ⟨c, Msg.of z, rfl, f, Nat.le_trans hz.1 (by omega)⟩
  · simp only [cond_true]
    rw [e5]
    exact ⟨c, m, rfl, f, hz.1⟩

end Go.LM.Pg
