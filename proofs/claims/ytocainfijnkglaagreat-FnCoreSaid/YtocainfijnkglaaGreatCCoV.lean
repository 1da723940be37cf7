/- Drawn kept states, messages and cores: what is known of them. Conditions: each theorem's own hypotheses. -/
import Derived.Test.YtocainfijnkglaaGreatCCoS
import Derived.Test.YtocainfijnkglaaGreatCCoU
set_option linter.unusedSimpArgs false
set_option linter.unusedVariables false
namespace Go.LM.Pg

/-! ### a kept state -/
def KeptSm (y : tKept.D) : Prop := (Kept.of y).entries.length ≤ 100
theorem kept9 (x2 : tKept.D) {C : Cur} (hC : CurOk C) : ∀ (r q : Nat) (x1 : Int) (k : Kept), x1 ≤ (k.entries.length : Int) + r → k.entries.length + r ≤ 100 → r < q → Draws ((spec_l3Kept_L q).k9 x1 x2 k.d C) KeptSm := by
  intro r
  induction r with
  | zero =>
    intro q x1 k h1 h2 hq
    obtain ⟨q, rfl, _⟩ := fuel hq
    show Draws (spec_l3Kept_b9 (spec_l3Kept_L q) x1 x2 k.d C) _
    unfold spec_l3Kept_b9
    simp only [Kept.mk_d, Kept.p0, Kept.p1, Kept.p2, Kept.p3]
    rw [dec_f (by omega)]
    exact Draws.ret hC (by show k.entries.length ≤ 100; omega)
  | succ r ih =>
    intro q x1 k h1 h2 hq
    obtain ⟨q, rfl, _⟩ := fuel hq
    show Draws (spec_l3Kept_b9 (spec_l3Kept_L q) x1 x2 k.d C) _
    unfold spec_l3Kept_b9
    simp only [Kept.mk_d, Kept.p0, Kept.p1, Kept.p2, Kept.p3]
    by_cases h : (k.entries.length : Int) < x1
    · rw [dec_t h, room_t (by simp; omega)]
      exact ih q x1 ⟨k.term, k.vote, k.snap, k.entries ++ [(k.term, [], ())]⟩ (by show x1 ≤ ((k.entries ++ [(k.term, ([] : List UInt8), ())]).length : Int) + r; simp; omega) (by show (k.entries ++ [(k.term, ([] : List UInt8), ())]).length + r ≤ 100; simp; omega) (by omega)
    · rw [dec_f h]
      exact Draws.ret hC (by show k.entries.length ≤ 100; omega)
theorem kept7 (x2 : tKept.D) {C : Cur} (hC : CurOk C) (q : Nat) (hq : 200 < q) (k : Kept) (hk : k.entries.length ≤ 20) : Draws ((spec_l3Kept_L q).k7 C x2 k.d) KeptSm := by
  obtain ⟨q, rfl, _⟩ := fuel hq
  show Draws (spec_l3Kept_b7 (spec_l3Kept_L q) C x2 k.d) _
  unfold spec_l3Kept_b7
  have hret : ∀ C, CurOk C → Draws (some (k.d, C, ())) KeptSm := fun C hC => Draws.ret hC (by show k.entries.length ≤ 100; omega)
  refine Draws.cond ((once_draws hC _).bind fun b C hC _ => Draws.cond ((below_draws hC _).bind fun v C hC hv => ?_) (hret C hC)) (hret C hC)
  have h1 := hv.lo; have h2 := hv.hi (by omega)
  dsimp only
  rw [w64_sm (a := 60 + v) (by omega) (by omega)]
  exact kept9 x2 hC 70 q _ k (by omega) (by omega) (by omega)
theorem kept4 (x2 : tKept.D) {C : Cur} (hC : CurOk C) (q : Nat) (hq : 201 < q) (k : Kept) : Draws ((spec_l3Kept_L q).k4 C x2 k.d) KeptSm := by
  obtain ⟨q, rfl, _⟩ := fuel hq
  show Draws (spec_l3Kept_b4 (spec_l3Kept_L q) C x2 k.d) _
  unfold spec_l3Kept_b4
  refine (ents_draws hC 6 (by omega) _ _).bind fun l C hC hl => ?_
  have hl : l.length ≤ 6 := hl
  refine Draws.cond ((once_draws hC _).bind fun b C hC _ => Draws.cond ((below_draws hC _).bind fun v C hC hv => ?_) ?_) ?_
  · exact kept7 x2 hC q (by omega) ⟨_, _, ⟨_, _, _⟩, l⟩ (by show l.length ≤ 20; omega)
  · exact kept7 x2 hC q (by omega) ⟨_, _, k.snap, l⟩ (by show l.length ≤ 20; omega)
  · exact kept7 x2 hC q (by omega) ⟨_, _, k.snap, l⟩ (by show l.length ≤ 20; omega)
theorem kept_draws {C : Cur} (hC : CurOk C) : Draws (spec_l3Kept (C, ())) KeptSm := by
  show Draws (spec_l3Kept_s (spec_l3Kept_L BIG) C) _
  unfold spec_l3Kept_s
  have hB : 201 < BIG := by rw [BIG_eq]; omega
  refine (below_draws hC _).bind fun t C hC _ => (below_draws hC _).bind fun v C hC _ => ?_
  refine Draws.cond ((once_draws hC _).bind fun b C hC _ => Draws.cond ?_ (kept4 _ hC BIG hB ⟨t, _, ⟨_, _, _⟩, _⟩)) (kept4 _ hC BIG hB ⟨t, _, ⟨_, _, _⟩, _⟩)
  refine (below_draws hC _).bind fun a C hC _ => (below_draws hC _).bind fun b C hC _ => (text_draws hC 12 (by omega)).bind fun s C hC _ => ?_
  exact kept4 _ hC BIG hB ⟨t, _, ⟨_, _, _⟩, _⟩

/-! ### a core of it -/
def Core.born (id peers : Int) (k : Kept) : Core := ⟨id, peers, k.term, k.vote, 1, -1, k.snap.index, k.snap.term, k.entries, k.snap.index, [], [], []⟩
def Core.bornOk (id peers : Int) (k : Kept) : Bool := k.ok && (Core.born id peers k).ok
theorem coreOf_eq (id peers : Int) (k : Kept) (hk : k.entries.length ≤ 1048576) : spec_CoreOf (id, peers, k.d, ()) = some ((if Core.bornOk id peers k = true then Core.born id peers k else Core.zero).d, Core.bornOk id peers k, ()) := by
  obtain ⟨q, hq, _⟩ := big_pred 1
  have hgo : ∀ z, spec_CoreOf_L2 BIG k.d z (Core.born id peers k).d = some ((if Core.bornOk id peers k = true then Core.born id peers k else Core.zero).d, Core.bornOk id peers k, ()) := fun z => by
    rw [hq]
    show spec_CoreOf_b2 (spec_CoreOf_L2 q) k.d z (Core.born id peers k).d = _
    unfold spec_CoreOf_b2 Core.bornOk
    rw [spec_KeptOk_eq, spec_CoreOk_eq (Core.born id peers k) hk (by show ([] : List Int).length ≤ 1048576; simp)]
    cases k.ok <;> cases (Core.born id peers k).ok <;> rfl
  show spec_CoreOf_s (spec_CoreOf_L2 BIG) id peers k.d = _
  unfold spec_CoreOf_s
  simp only [Kept.mk_d, Kept.p0, Kept.p1, Kept.p2, Kept.p3, Snap.mk_d, Snap.p0, Snap.p1, Snap.p2, dup_eq, both_same]
  rw [room_t (by simp; omega)]
  simp only [List.nil_append]
  exact hgo _
theorem born_ok {id peers : Int} {k : Kept} (h : Core.bornOk id peers k = true) : (Core.born id peers k).Ok := by
  unfold Core.bornOk at h
  simp only [Bool.and_eq_true] at h
  exact ((Core.born id peers k).ok_iff).1 h.2

/-! ### a message -/
def MsgSm (n : Nat) (y : tMsg.D) : Prop := (Msg.of y).entries.length ≤ n ∧ (Msg.of y).data.length ≤ n
theorem msg8 (x1 x2 x3 : Int) {C : Cur} (hC : CurOk C) (q : Nat) (hq : 2 < q) (z : tMsg.D) (m : Msg) (hm : m.entries.length ≤ 6 ∧ m.data.length ≤ 6) : Draws ((spec_l12Msg_L q).k8 x1 x2 x3 C z m.d) (MsgSm 6) := by
  obtain ⟨q, rfl, _⟩ := fuel hq
  show Draws (spec_l12Msg_b8 (spec_l12Msg_L q) x1 x2 x3 C z m.d) _
  unfold spec_l12Msg_b8
  refine Draws.cond (Draws.ret hC hm) (Draws.cond ((once_draws hC _).bind fun b C hC _ => Draws.ret hC hm) (Draws.cond ((below_draws hC _).bind fun v C hC _ => (ents_draws hC 4 (by omega) _ _).bind fun l C hC hl => Draws.ret hC ⟨Nat.le_trans hl (by omega), hm.2⟩)
    (Draws.cond ((once_draws hC _).bind fun b C hC _ => Draws.ret hC hm) ((below_draws hC _).bind fun v C hC _ => (text_draws hC 6 (by omega)).bind fun s C hC hs => Draws.ret hC ⟨hm.1, hs⟩))))
theorem msg4 (x1 : Int) {C : Cur} (hC : CurOk C) (q : Nat) (hq : 3 < q) (z : tMsg.D) (m : Msg) (hm : m.entries.length ≤ 6 ∧ m.data.length ≤ 6) : Draws ((spec_l12Msg_L q).k4 x1 C z m.d) (MsgSm 6) := by
  obtain ⟨q, rfl, _⟩ := fuel hq
  show Draws (spec_l12Msg_b4 (spec_l12Msg_L q) x1 C z m.d) _
  unfold spec_l12Msg_b4
  refine (below_draws hC _).bind fun v C hC _ => Draws.cond ((below_draws hC _).bind fun w C hC _ => ?_) ?_
  · exact msg8 _ _ _ hC q (by omega) z m hm
  · exact msg8 _ _ _ hC q (by omega) z m hm
theorem msg_draws {C : Cur} (hC : CurOk C) (p t l : Int) : Draws (spec_l12Msg (C, p, t, l, ())) (MsgSm 6) := by
  show Draws (spec_l12Msg_s (spec_l12Msg_L BIG) C p t l) _
  unfold spec_l12Msg_s
  have hB : 3 < BIG := by rw [BIG_eq]; omega
  refine (below_draws hC _).bind fun a C hC _ => (below_draws hC _).bind fun b C hC _ => (below_draws hC _).bind fun c C hC _ => (below_draws hC _).bind fun d C hC _ => Draws.cond ?_ ?_
  · exact msg4 _ hC BIG hB _ ⟨_, _, _, _, _, _, _, _, [], []⟩ ⟨by simp, by simp⟩
  · exact msg4 _ hC BIG hB _ ⟨_, _, _, _, _, _, _, _, [], []⟩ ⟨by simp, by simp⟩
theorem any_msg_draws {C : Cur} (hC : CurOk C) : Draws (spec_l12Any (C, ())) (MsgSm 7) := by
  show Draws (spec_l12Any_s C) _
  unfold spec_l12Any_s
  refine (msg_draws hC _ _ _).bind fun y C hC hy => ?_
  have hy7 : MsgSm 7 y := ⟨Nat.le_trans hy.1 (by omega), Nat.le_trans hy.2 (by omega)⟩
  refine (once_draws hC _).bind fun b C hC _ => Draws.cond ((below_draws hC _).bind fun v C hC _ => ?_) (Draws.ret hC hy7)
  refine Draws.cond ((below_draws hC _).bind fun a C hC _ => Draws.ret hC hy7) ?_
  refine Draws.cond ((pick_draws hC _ (by simp)).bind fun a C hC _ => Draws.ret hC hy7) ?_
  refine Draws.cond ((pick_draws hC _ (by simp)).bind fun a C hC _ => Draws.ret hC hy7) ?_
  refine Draws.cond ((pick_draws hC _ (by simp)).bind fun a C hC _ => Draws.ret hC hy7) ?_
  refine Draws.cond ((pick_draws hC _ (by simp)).bind fun a C hC _ => Draws.ret hC hy7) ?_
  refine Draws.cond (Draws.ret hC hy7) ?_
  obtain ⟨m, rfl⟩ := Msg.ex y
  have h1 : m.entries.length ≤ 6 := hy.1
  have h2 : m.data.length ≤ 6 := hy.2
  refine Draws.cond ((below_draws hC _).bind fun a C hC _ => ?_) ?_
  · unfold spec_l12Any_s_v10
    simp only [Msg.mk_d, Msg.p0, Msg.p1, Msg.p2, Msg.p3, Msg.p4, Msg.p5, Msg.p6, Msg.p7, Msg.p8, Msg.p9]
    rw [room_t (by simp; omega)]
    exact Draws.ret hC ⟨by show (m.entries ++ _).length ≤ 7; simp; omega, by show m.data.length ≤ 7; omega⟩
  · simp only [Msg.mk_d, Msg.p0, Msg.p1, Msg.p2, Msg.p3, Msg.p4, Msg.p5, Msg.p6, Msg.p7, Msg.p8, Msg.p9]
    rw [room_t (by simp; omega)]
    exact Draws.ret hC ⟨by show m.entries.length ≤ 7; omega, by show (m.data ++ _).length ≤ 7; simp; omega⟩

/-- a draw that gives back something lent to it -/
def Lends {α β : Type} (o : Option (α × tL1Cur.D × β × Unit)) (y : β) (Q : α → Prop) : Prop := ∃ x C, o = some (x, C, y, ()) ∧ CurOk C ∧ Q x
theorem Lends.ret {α β : Type} {x : α} {y : β} {C : Cur} {Q : α → Prop} (h : CurOk C) (hq : Q x) : Lends (some (x, C, y, ())) y Q := ⟨x, C, rfl, h, hq⟩
theorem Draws.lends {α β γ : Type} {o : Option (α × tL1Cur.D × Unit)} {f : α × tL1Cur.D × Unit → Option (β × tL1Cur.D × γ × Unit)} {y : γ} {Q : α → Prop} {R : β → Prop} (h : Draws o Q)
    (hf : ∀ x C, CurOk C → Q x → Lends (f (x, C, ())) y R) : Lends (o.bind f) y R := by
  obtain ⟨x, C, rfl, hc, hq⟩ := h
  exact hf x C hc hq
theorem Lends.cond {α β : Type} {b : Bool} {o p : Option (α × tL1Cur.D × β × Unit)} {y : β} {Q : α → Prop} (h : Lends o y Q) (h' : Lends p y Q) : Lends (cond b o p) y Q := by
  cases b
  · exact h'
  · exact h
theorem to_msg_draws {C : Cur} (hC : CurOk C) (x : Core) (h : x.Ok) : Lends (spec_l13Msg (C, x.d, ())) x.d (MsgSm 6) := by
  have hlen := h.len; have hb := h.base; have htop := h.top
  have hl : x.last = x.base + (x.log.length : Int) := rfl
  show Lends (spec_l13Msg_s C x.d) _ _
  unfold spec_l13Msg_s
  simp only [dup_eq, both_same]
  rw [sLast x h.sz]
  simp only [Option.bind_some]
  refine (msg_draws hC _ _ _).lends fun y C hC hy => ?_
  refine Lends.cond ((once_draws hC _).lends fun b C hC _ => Lends.cond ?_ (Lends.ret hC hy)) (Lends.ret hC hy)
  refine (below_draws hC _).lends fun v C hC hv => ?_
  simp -index only [Core.mk_d, Core.p0, Core.p1, Core.p2, Core.p3, Core.p4, Core.p5, Core.p6, Core.p7, Core.p8, Core.p9, Core.p10, Core.p11, Core.p12] at hv ⊢
  rw [w64_sm (a := (x.log.length : Int) + 1) (by omega) (by omega)] at hv
  have v1 := hv.lo; have v2 := hv.hi (by omega)
  rw [w64_sm (a := x.base + v) (by omega) (by omega), sTerm x h.sz _ (by omega)]
  simp only [Option.bind_some]
  refine Lends.cond ((ents_draws hC 4 (by omega) _ _).lends fun l C hC hl => ?_) ((ents_draws hC 4 (by omega) _ _).lends fun l C hC hl => ?_)
  · exact Lends.ret hC ⟨Nat.le_trans hl (by omega), hy.2⟩
  · exact Lends.ret hC ⟨Nat.le_trans hl (by omega), hy.2⟩

end Go.LM.Pg
