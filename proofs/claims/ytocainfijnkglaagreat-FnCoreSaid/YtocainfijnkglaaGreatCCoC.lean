/- When a message is right: the program and the reference say the same. Conditions: each theorem's own hypotheses. -/
import Derived.Test.YtocainfijnkglaaGreatCCoB
set_option linter.unusedSimpArgs false
set_option linter.unusedVariables false
namespace Go.LM.Pg

def entEq : List Ent → List Ent → Bool
  | [], [] => true
  | a :: as, b :: bs => (a.1 == b.1) && (eqS a.2.1 b.2.1) && entEq as bs
  | _, _ => false
theorem entEq_iff : ∀ {a b : List Ent}, entEq a b = true ↔ a = b
  | [], [] => by simp [entEq]
  | [], _ :: _ => by simp [entEq]
  | _ :: _, [] => by simp [entEq]
  | a :: as, b :: bs => by
    simp only [entEq, Bool.and_eq_true, beq_iff_eq, eqS_dec, decide_eq_true_eq, entEq_iff (a := as) (b := bs), List.cons.injEq]
    obtain ⟨a1, a2, ⟨⟩⟩ := a
    obtain ⟨b1, b2, ⟨⟩⟩ := b
    simp
theorem entEq_len : ∀ {a b : List Ent}, a.length ≠ b.length → entEq a b = false
  | [], [], h => by simp at h
  | [], _ :: _, _ => rfl
  | _ :: _, [], _ => rfl
  | a :: as, b :: bs, h => by
    simp only [entEq]
    rw [entEq_len (a := as) (b := bs) (by simpa using h)]
    simp
theorem beq_no (b : Bool) : (b == false) = !b := by cases b <;> rfl
theorem entEq_refl (a : List Ent) : entEq a a = true := entEq_iff.2 rfl
theorem entEq_nil (a : List Ent) : entEq a [] = (a.length == 0) := by cases a <;> rfl

theorem spec_same_ent (a b : List Ent) (ha : a.length ≤ 1048576) : spec_l12SameEntries (a, b, ()) = some (entEq a b, ()) := by
  show spec_l12SameEntries_s (spec_l12SameEntries_L4 BIG) a b = _
  unfold spec_l12SameEntries_s
  by_cases hl : (a.length : Int) = b.length
  case neg => rw [bne_t hl, entEq_len (by omega)]; rfl
  rw [bne_f hl]
  simp only [cond_false]
  refine lpIB a.length (by omega) (fun m i => spec_l12SameEntries_L4 m a b i) (fun i => some (entEq (a.drop i) (b.drop i), ())) (fun _ => True) ?_ ?_ trivial
  · intro m _
    simp only [spec_l12SameEntries_L4, spec_l12SameEntries_b4]
    rw [lt_f (Nat.le_refl _), List.drop_of_length_le (Nat.le_refl _), List.drop_of_length_le (by omega)]; rfl
  · intro m i hi _ hw ih
    simp only [spec_l12SameEntries_L4, spec_l12SameEntries_b4, hw]
    rw [lt_t hi, ix_nat hi, ix_nat (by omega), drop_cons (t := tEntry) hi, drop_cons (t := tEntry) (l := b) (by omega)]
    simp only [cond_true, Option.bind_some, ih trivial, cond_some, entEq]
    congr 2
    grind
theorem impl_same_ent (a b : List Ent) (ha : a.length ≤ 1048576) : slices_Equal_impl_Entry_impl_Entry (a, b, ()) = some (entEq a b, ()) := by
  show slices_Equal_impl_Entry_impl_Entry_s (slices_Equal_impl_Entry_impl_Entry_L4 BIG) a b = _
  unfold slices_Equal_impl_Entry_impl_Entry_s
  by_cases hl : (a.length : Int) = b.length
  case neg => rw [bne_t hl, entEq_len (by omega)]; rfl
  rw [bne_f hl]
  simp only [cond_false]
  refine lpIB a.length (by omega) (fun m i => slices_Equal_impl_Entry_impl_Entry_L4 m a b (a.length : Int) i) (fun i => some (entEq (a.drop i) (b.drop i), ())) (fun _ => True) ?_ ?_ trivial
  · intro m _
    simp only [slices_Equal_impl_Entry_impl_Entry_L4, slices_Equal_impl_Entry_impl_Entry_b4]
    rw [lt_f (Nat.le_refl _), List.drop_of_length_le (Nat.le_refl _), List.drop_of_length_le (by omega)]; rfl
  · intro m i hi _ hw ih
    simp only [slices_Equal_impl_Entry_impl_Entry_L4, slices_Equal_impl_Entry_impl_Entry_b4, hw]
    rw [lt_t hi, ix_nat hi, ix_nat (by omega), drop_cons (t := tEntry) hi, drop_cons (t := tEntry) (l := b) (by omega)]
    simp only [cond_true, Option.bind_some, ih trivial, cond_some, entEq]
    congr 2
    grind

namespace Msg
def same (a b : Msg) : Bool := (a.kind == b.kind) && (a.src == b.src) && (a.to == b.to) && (a.term == b.term) && (a.index == b.index) && (a.indexTerm == b.indexTerm) && (a.commit == b.commit) && (a.yes == b.yes) && entEq a.entries b.entries && eqS a.data b.data
def runs (m : Msg) : Bool := decide ((m.entries.length : Int) ≤ 4) && runOk m.entries (mxI 1 m.indexTerm) m.term && decide (m.index + (m.entries.length : Int) ≤ 100000)
def kindOk (m : Msg) : Bool :=
  cond (m.kind == 1) (place m.index m.indexTerm && decide (m.indexTerm ≤ m.term) && (m.commit == 0) && !m.yes && (m.entries.length == 0) && decide (m.data.length = 0))
  (cond (m.kind == 2) ((m.index == 0) && (m.indexTerm == 0) && (m.commit == 0) && (m.entries.length == 0) && decide (m.data.length = 0))
  (cond (m.kind == 3) (place m.index m.indexTerm && decide (m.indexTerm ≤ m.term) && inR m.commit 0 100000 && m.runs && !m.yes && decide (m.data.length = 0))
  (cond (m.kind == 4) (inR m.index 0 100000 && (m.indexTerm == 0) && (m.commit == 0) && (m.entries.length == 0) && decide (m.data.length = 0))
  (cond (m.kind == 5) (inR m.index 1 100000 && inR m.indexTerm 1 m.term && decide ((m.data.length : Int) ≤ 20000) && (m.commit == 0) && !m.yes && (m.entries.length == 0)) false))))
def ok (m : Msg) : Bool := inR m.src 0 4 && inR m.to 0 4 && (m.src != m.to) && inR m.term 1 100000 && m.kindOk
end Msg

section
variable (m : Msg)
theorem spec_Same_eq (z : Msg) (h : m.entries.length ≤ 1048576) : spec_l12Same (m.d, z.d, ()) = some (m.same z, ()) := by
  show spec_l12Same_s m.d z.d = _
  unfold spec_l12Same_s Msg.same
  simp only [Msg.p0, Msg.p1, Msg.p2, Msg.p3, Msg.p4, Msg.p5, Msg.p6, Msg.p7, Msg.p8, Msg.p9]
  rw [spec_same_ent _ _ h]
  simp only [Option.bind_some, cond_some]
  congr 2
  grind (splits := 40)
theorem impl_Same_eq (z : Msg) (h : m.entries.length ≤ 1048576) : impl_sameMsg (m.d, z.d, ()) = some (m.same z, ()) := by
  show impl_sameMsg_s m.d z.d = _
  unfold impl_sameMsg_s Msg.same
  simp only [Msg.p0, Msg.p1, Msg.p2, Msg.p3, Msg.p4, Msg.p5, Msg.p6, Msg.p7, Msg.p8, Msg.p9]
  rw [impl_same_ent _ _ h]
  simp only [Option.bind_some, cond_some]
  congr 2
  grind (splits := 40)
theorem Run_eq (l : List Ent) (lo hi : Int) (h : l.length ≤ 1048576) : spec_l12Run (l, lo, hi, ()) = some (runOk l (mxI 1 lo) hi, ()) := by
  show spec_l12Run_s (spec_l12Run_L4 BIG) l lo hi = _
  unfold spec_l12Run_s
  have key : ∀ lo, spec_l12Run_L4 BIG l lo hi 0 = some (runOk l lo hi, ()) := by
    intro lo
    refine lpB (t := tEntry) l (by omega) (fun m i a => spec_l12Run_L4 m l a hi i) (fun l a => some (runOk l a hi, ())) ?_ ?_ lo
    · intro m a
      simp only [spec_l12Run_L4, spec_l12Run_b4]
      rw [lt_f (Nat.le_refl _)]; rfl
    · intro m i a hi' ih hw
      simp only [spec_l12Run_L4, spec_l12Run_b4, hw]
      rw [lt_t hi', ix_nat hi']
      simp only [cond_true, Option.bind_some, l1In_eq, ih, cond_some, runOk, inR]
      grind
  rw [key, key]
  simp only [cond_some]
  have : mxI 1 lo = if lo < 1 then 1 else lo := by unfold mxI; grind
  rw [this]
  by_cases h : lo < 1 <;> simp [h]
theorem batch_eq (h : m.entries.length ≤ 1048576) (hx : inR m.index (-1000000) 1000000 = true) : impl_Msg_batchOk (m.d, ()) = some (m.runs, ()) := by
  have hxx := inR_iff.1 hx
  show impl_Msg_batchOk_L3 BIG m.d (mxI 1 m.indexTerm) m.entries (m.entries.length : Int) 0 = _
  refine (lpB (t := tEntry) m.entries (by omega) (fun q i a => impl_Msg_batchOk_L3 q m.d a m.entries (m.entries.length : Int) i) (fun l a => some (runOk l a m.term && (decide ((m.entries.length : Int) ≤ 4) && decide (m.index + (m.entries.length : Int) ≤ 100000)), ())) ?_ ?_ _).trans ?_
  · intro q a
    simp only [impl_Msg_batchOk_L3, impl_Msg_batchOk_b3, Msg.p4, Msg.p8]
    rw [lt_f (Nat.le_refl _), w64_add (by omega) (by omega) (by omega)]
    simp only [cond_false, cond_some, runOk, Bool.true_and]
    congr 2
    grind
  · intro q i a hi' ih hw
    simp only [impl_Msg_batchOk_L3, impl_Msg_batchOk_b3, Msg.p3, hw]
    rw [lt_t hi', ix_nat hi']
    simp only [cond_true, Option.bind_some, within_eq, ih, cond_some, runOk, inR]
    grind
  · congr 2
    unfold Msg.runs
    grind

/-- the bare message of these senders and term -/
def Msg.bare (m : Msg) : Msg := ⟨m.kind, m.src, m.to, m.term, 0, 0, 0, false, [], []⟩

theorem impl_kind_eq (k : impl_MsgOk_K3) (b : Bool) (h : m.entries.length ≤ 1048576) : impl_MsgOk_b3 k b m.d m.bare.d = some (b && m.kindOk, ()) := by
  unfold impl_MsgOk_b3
  cases b with
  | false => simp only [cond_false, cond_some, Bool.false_and, Bool.cond_self]
  | true =>
    simp only [Msg.p0, Msg.p1, Msg.p2, Msg.p3, Msg.p4, Msg.p5, Msg.p6, Msg.p7, Msg.p8, Msg.p9, within_eq, isPlace_eq, Option.bind_some, Msg.bare, Bool.true_and, cond_true]
    by_cases hx : inR m.index (-1000000) 1000000 = true
    · rw [batch_eq m h hx]
      simp -index only [Msg.mk_d, impl_Same_eq m _ h, Option.bind_some, cond_some, Msg.same, entEq_refl, entEq_nil, eqS_nil, beq_self_eq_true, Bool.true_and, Bool.and_true, eqS_refl, beq_no]
      congr 2
      unfold Msg.kindOk
      by_cases k1 : m.kind = 1
      · simp only [k1, beq_self_eq_true, cond_true]; grind
      by_cases k2 : m.kind = 2
      · simp only [k2, beq_self_eq_true, cond_true, cond_false, beq_f k1]; grind
      by_cases k3 : m.kind = 3
      · simp only [k3, beq_self_eq_true, cond_true, cond_false, beq_f k1, beq_f k2]; grind
      by_cases k4 : m.kind = 4
      · simp only [k4, beq_self_eq_true, cond_true, cond_false, beq_f k1, beq_f k2, beq_f k3]; grind
      by_cases k5 : m.kind = 5
      · simp only [k5, beq_self_eq_true, cond_true, cond_false, beq_f k1, beq_f k2, beq_f k3, beq_f k4]; grind
      simp only [beq_f k1, beq_f k2, beq_f k3, beq_f k4, beq_f k5, cond_false]
    · have hp : place m.index m.indexTerm = false := by
        have : ¬ (-1000000 ≤ m.index ∧ m.index ≤ 1000000) := fun h => hx (inR_iff.2 h)
        unfold place inR
        grind
      simp -index only [hp, cond_false, Msg.mk_d, impl_Same_eq m _ h, Option.bind_some, cond_some, Msg.same, entEq_refl, entEq_nil, eqS_nil, beq_self_eq_true, Bool.true_and, Bool.and_true, eqS_refl, beq_no]
      congr 2
      unfold Msg.kindOk
      rw [hp]
      grind (splits := 40)

theorem impl_MsgOk_eq (h : m.entries.length ≤ 1048576) : impl_MsgOk (m.d, ()) = some (m.ok, ()) := by
  obtain ⟨q, hq, hq'⟩ := big_pred 1
  show impl_MsgOk_s (impl_MsgOk_L3 BIG) m.d = _
  unfold impl_MsgOk_s
  have hk : ∀ b, impl_MsgOk_L3 BIG b m.d (m.kind, m.src, m.to, m.term, 0, 0, 0, false, [], [], ()) = some (b && m.kindOk, ()) := fun b => by
    rw [hq]; exact impl_kind_eq m _ b h
  simp only [Msg.p0, Msg.p1, Msg.p2, Msg.p3, within_eq, Option.bind_some, hk, cond_some, Msg.ok]
  congr 2
  grind (splits := 40)

theorem spec_kind_eq (k : spec_MsgOk_K) (a b : Bool) (h : m.entries.length ≤ 1048576) (z : Msg) (hz : a = true → z = m.bare) : spec_MsgOk_b6 k a b m.d z.d = some (a && b && m.kindOk, ()) := by
  unfold spec_MsgOk_b6
  cases a with
  | false => simp only [cond_false, cond_some, Bool.false_and, Bool.cond_self]
  | true =>
    rw [hz rfl]
    cases b with
    | false => simp only [cond_false, cond_true, cond_some, Bool.false_and, Bool.and_false, Bool.cond_self]
    | true =>
      simp only [Msg.p0, Msg.p1, Msg.p2, Msg.p3, Msg.p4, Msg.p5, Msg.p6, Msg.p7, Msg.p8, Msg.p9, l1In_eq, l3Place_eq, Option.bind_some, Msg.bare, Bool.true_and, cond_true, Run_eq _ _ _ h]
      have hw : place m.index m.indexTerm = true → w64 (m.index + (m.entries.length : Int)) = m.index + (m.entries.length : Int) := by
        unfold place
        simp only [Bool.or_eq_true, Bool.and_eq_true, inR_iff, beq_iff_eq]
        intro hp
        exact w64_add (by omega) (by omega) (by omega)
      simp -index only [Msg.mk_d, spec_Same_eq m _ h, Option.bind_some, cond_some, Msg.same, entEq_refl, entEq_nil, eqS_nil, beq_self_eq_true, Bool.true_and, Bool.and_true, eqS_refl, beq_no]
      congr 2
      unfold Msg.kindOk Msg.runs
      by_cases k1 : m.kind = 1
      · simp only [k1, beq_self_eq_true, cond_true]; grind
      by_cases k2 : m.kind = 2
      · simp only [k2, beq_self_eq_true, cond_true, cond_false, beq_f k1]; grind
      by_cases k3 : m.kind = 3
      · simp only [k3, beq_self_eq_true, cond_true, cond_false, beq_f k1, beq_f k2]; grind
      by_cases k4 : m.kind = 4
      · simp only [k4, beq_self_eq_true, cond_true, cond_false, beq_f k1, beq_f k2, beq_f k3]; grind
      by_cases k5 : m.kind = 5
      · simp only [k5, beq_self_eq_true, cond_true, cond_false, beq_f k1, beq_f k2, beq_f k3, beq_f k4]; grind
      simp only [beq_f k1, beq_f k2, beq_f k3, beq_f k4, beq_f k5, cond_false]

theorem spec_MsgOk_eq (h : m.entries.length ≤ 1048576) : spec_MsgOk (m.d, ()) = some (m.ok, ()) := by
  obtain ⟨q, hq, hq'⟩ := big_pred 2
  show spec_MsgOk_s (spec_MsgOk_L BIG) m.d = _
  unfold spec_MsgOk_s
  have h3 : ∀ b, (spec_MsgOk_L BIG).k3 b m.d (m.kind, m.src, m.to, 0, 0, 0, 0, false, [], [], ()) = some (b && inR m.term 1 100000 && m.kindOk, ()) := fun b => by
    rw [hq]
    show spec_MsgOk_b3 (spec_MsgOk_L (q + 1)) _ _ _ = _
    unfold spec_MsgOk_b3
    simp only [Msg.p3, l1In_eq, Option.bind_some]
    cases b with
    | false => exact spec_kind_eq m (spec_MsgOk_L q) false _ h ⟨m.kind, m.src, m.to, 0, 0, 0, 0, false, [], []⟩ (fun h => by cases h)
    | true => exact spec_kind_eq m (spec_MsgOk_L q) true _ h m.bare (fun _ => rfl)
  have hs : ∀ x, spec_l12Server (x, ()) = some (inR x 0 4, ()) := fun x => by
    show spec_l12Server_s x = _
    unfold spec_l12Server_s
    rw [l1In_eq]; rfl
  simp only [Msg.p0, Msg.p1, Msg.p2, hs, Option.bind_some, h3, cond_some, Msg.ok]
  congr 2
  grind (splits := 40)
end
end Go.LM.Pg
