/- When a core is right: the program and the reference say the same. Conditions: each theorem's own hypotheses. -/
import Derived.Test.YtocainfijnkglaaGreatCCoA
set_option linter.unusedSimpArgs false
set_option linter.unusedVariables false
namespace Go.LM.Pg

namespace Core
def last (c : Core) : Int := c.base + (c.log.length : Int)
/-- the term at a number from base to the last one -/
def tm (c : Core) (i : Int) : Int := if i = c.base then c.baseTerm else ((c.log[(i - c.base - 1).toNat]?).getD (0, [], ())).1
def kept (c : Core) (data : List UInt8) : Kept := ⟨c.term, c.vote, if c.base ≠ 0 then ⟨c.base, c.baseTerm, data⟩ else ⟨0, 0, []⟩, c.log⟩
end Core
/-- numbers that rise, from one to another -/
def rises : List Int → Int → Int → Bool
  | [], _, _ => true
  | x :: l, lo, hi => decide (lo ≤ x) && decide (x ≤ hi) && rises l (x + 1) hi
def pairsOk : List Int → List Int → Int → Bool
  | [], _, _ => true
  | _, [], _ => true
  | m :: ms, n :: ns, top => decide (0 ≤ m) && decide (m < n) && decide (n ≤ top) && pairsOk ms ns top
namespace Core
def followOk (c : Core) : Bool := inR c.lead (-1) (c.peers - 1) && (c.lead != c.id) && (c.yes.length == 0) && (c.next.length == 0) && (c.mch.length == 0)
def seekOk (c : Core) : Bool := decide (1 ≤ c.term) && (c.vote == c.id) && (c.lead == -1) && rises c.yes 0 (c.peers - 1) && c.yes.contains c.id && decide (2 * (c.yes.length : Int) ≤ c.peers) && (c.next.length == 0) && (c.mch.length == 0)
def leadOk (c : Core) : Bool := decide (1 ≤ c.term) && (c.vote == c.id) && (c.lead == c.id) && (c.yes.length == 0) && ((c.next.length : Int) == c.peers) && ((c.mch.length : Int) == c.peers) && (c.mch.getD c.id.toNat 0 == c.last) && pairsOk c.mch c.next (c.last + 1)
def roleOk (c : Core) : Bool := cond (c.role == 1) c.followOk (cond (c.role == 2) c.seekOk (cond (c.role == 3) c.leadOk false))
def ok (c : Core) : Bool := inR c.peers 1 5 && inR c.id 0 (c.peers - 1) && (c.base != 0 || c.baseTerm == 0) && (c.kept []).ok && decide (c.vote < c.peers) && inR c.commit c.base c.last && c.roleOk
end Core

section
variable (c : Core)

theorem spec_Kept_eq (s : List UInt8) (h : c.log.length ≤ 68719476736) : spec_l13Kept (c.d, s, ()) = some ((c.kept s).d, ()) := by
  show spec_l13Kept_s c.d s = _
  unfold spec_l13Kept_s spec_l13Kept_s_v1 spec_l13Kept_s_v2
  simp only [Core.p2, Core.p3, Core.p6, Core.p7, Core.p8, dup_eq, both_same, List.length_nil, Nat.zero_add, room_t h, cond_true, List.nil_append, cond_some]
  congr 2
  unfold Core.kept Kept.d
  by_cases hb : c.base = 0
  · simp [hb, Snap.d]
  · simp [bne_t hb, hb, Snap.d]
theorem impl_Kept_eq (s : List UInt8) (h : c.log.length ≤ 68719476736) : impl_Core_kept (c.d, s, ()) = some ((c.kept s).d, ()) := by
  show impl_Core_kept_s c.d s = _
  unfold impl_Core_kept_s impl_Core_kept_s_v1
  simp only [Core.p2, Core.p3, Core.p6, Core.p7, Core.p8, dup_eq, List.length_nil, Nat.zero_add, room_t h, cond_true, List.nil_append, cond_some]
  congr 2
  unfold Core.kept Kept.d
  by_cases hb : c.base = 0
  · simp [hb, Snap.d]
  · simp [bne_t hb, hb, Snap.d]

theorem spec_Last_eq (h : inR c.base 0 1000000 = true) (hl : c.log.length ≤ 1048576) : spec_l13Last (c.d, ()) = some (c.last, ()) := by
  have := inR_iff.1 h
  show some (w64 (c.base + (c.log.length : Int)), ()) = _
  rw [w64_add (by omega) (by omega) (by omega)]; rfl
theorem impl_Last_eq (h : inR c.base 0 1000000 = true) (hl : c.log.length ≤ 1048576) : impl_Core_last (c.d, ()) = some (c.last, ()) := by
  have := inR_iff.1 h
  show some (w64 (c.base + (c.log.length : Int)), ()) = _
  rw [w64_add (by omega) (by omega) (by omega)]; rfl

theorem l13In_eq (l : List Int) (hl : l.length ≤ 4611686018427387904) (x : Int) : spec_l13In (l, x, ()) = some (l.contains x, ()) := by
  show spec_l13In_L2 BIG l x 0 = _
  refine lpB (t := .int .i64) l hl (fun m i (_ : Unit) => spec_l13In_L2 m l x i) (fun l _ => some (l.contains x, ())) ?_ ?_ ()
  · intro m _
    simp only [spec_l13In_L2, spec_l13In_b2]
    rw [lt_f (Nat.le_refl _)]; rfl
  · intro m i _ hi ih hw
    simp only [spec_l13In_L2, spec_l13In_b2, hw]
    rw [lt_t hi, ix_nat hi]
    simp only [cond_true, Option.bind_some, List.contains_cons]
    generalize gd (Ty.int .i64) l i = y
    rw [show (x == y) = (y == x) from Bool.eq_iff_iff.2 (by simp only [beq_iff_eq]; exact eq_comm)]
    cases (y == x)
    · exact ih ()
    · rfl

theorem Index_eq (l : List Int) (hl : l.length ≤ 4611686018427387904) (x : Int) : ∃ r, slices_Index_int_int (l, x, ()) = some (r, ()) ∧ decide (r ≥ 0) = l.contains x := by
  have h := lpB (t := .int .i64) l hl (fun m i (_ : Unit) => ((slices_Index_int_int_L2 m l x (l.length : Int) i).bind fun v1 => some (decide (v1.1 ≥ 0), ()))) (fun l _ => some (l.contains x, ())) ?_ ?_ ()
  · have h' : (slices_Index_int_int_L2 BIG l x (l.length : Int) 0).bind (fun v1 => some (decide (v1.1 ≥ 0), ())) = some (l.contains x, ()) := h
    obtain ⟨⟨r, ⟨⟩⟩, h1, h2⟩ := Option.bind_eq_some_iff.1 h'
    refine ⟨r, h1, ?_⟩
    simpa using h2
  · intro m _
    simp only [slices_Index_int_int_L2, slices_Index_int_int_b2]
    rw [lt_f (Nat.le_refl _)]; rfl
  · intro m i _ hi ih hw
    simp only [slices_Index_int_int_L2, slices_Index_int_int_b2, hw] at ih ⊢
    rw [lt_t hi, ix_nat hi]
    simp only [cond_true, Option.bind_some, List.contains_cons]
    generalize gd (Ty.int .i64) l i = y
    by_cases hxy : x = y
    · simp [hxy]
    · simp only [beq_eq_false_iff_ne.2 hxy, cond_false, ih ()]
      simp
theorem Contains_eq (l : List Int) (hl : l.length ≤ 4611686018427387904) (x : Int) : slices_Contains_int_int (l, x, ()) = some (l.contains x, ()) := by
  obtain ⟨r, h1, h2⟩ := Index_eq l hl x
  show slices_Contains_int_int_s l x = _
  unfold slices_Contains_int_int_s
  rw [h1]
  simp only [Option.bind_some, h2]

/-- where the next one of a rising list may be -/
def from0 (l : List Int) (i : Nat) : Int := if i = 0 then 0 else gd (.int .i64) l (i - 1) + 1
theorem from0_succ (l : List Int) (i : Nat) : from0 l (i + 1) = gd (.int .i64) l i + 1 := by simp [from0]

theorem spec_seek_eq (h : inR c.peers 1 5 = true) (hl : c.yes.length ≤ 1048576) (q : Nat) (hq : 1048576 < q) : (spec_CoreOk_L q).k8 0 c.d = some (c.seekOk, ()) := by
  have hp := inR_iff.1 h
  have hw : w64 (c.peers - 1) = c.peers - 1 := w64_sm (by omega) (by omega)
  have := lpIB c.yes.length (by omega) (fun m i => (spec_CoreOk_L m).k8 i c.d) (fun i => some (rises (c.yes.drop i) (from0 c.yes i) (c.peers - 1) && (decide (1 ≤ c.term) && (c.vote == c.id) && (c.lead == -1) && c.yes.contains c.id && decide (2 * (c.yes.length : Int) ≤ c.peers) && (c.next.length == 0) && (c.mch.length == 0)), ())) (fun i => 0 ≤ from0 c.yes i) ?_ ?_ (by simp [from0]) q (by omega)
  · refine this.trans ?_
    simp only [List.drop_zero, from0, Core.seekOk]
    congr 2
    grind
  · intro m _
    show spec_CoreOk_b8 (spec_CoreOk_L m) _ _ = _
    unfold spec_CoreOk_b8
    simp only [Core.p0, Core.p1, Core.p2, Core.p3, Core.p5, Core.p10, Core.p11, Core.p12]
    rw [lt_f (Nat.le_refl _), l13In_eq _ (by omega), List.drop_of_length_le (Nat.le_refl _), w64_sm (a := 2 * (c.yes.length : Int)) (by omega) (by omega)]
    simp only [cond_false, Option.bind_some, cond_some, rises]
    congr 2
    grind
  · intro m i hi hv hw' ih
    show spec_CoreOk_b8 (spec_CoreOk_L m) _ _ = _
    unfold spec_CoreOk_b8
    simp only [Core.p0, Core.p1, Core.p2, Core.p3, Core.p5, Core.p10, Core.p11, Core.p12, hw']
    rw [lt_t hi, ix_nat hi, drop_cons (t := .int .i64) hi]
    simp only [cond_true, Option.bind_some, l1In_eq, hw, rises]
    rw [from0_succ] at ih
    by_cases hx : inR (gd (.int .i64) c.yes i) 0 (c.peers - 1) = true
    · have hx' := inR_iff.1 hx
      rw [hx]
      simp only [Bool.not_true, cond_false]
      rw [ih (by omega)]
      by_cases h0 : i = 0
      · subst h0
        simp [from0, hx'.1, hx'.2]
      · rw [show ((i : Int) - 1) = ((i - 1 : Nat) : Int) by omega, w64_sm (a := ((i - 1 : Nat) : Int)) (by omega) (by omega), ix_nat (by omega)]
        simp only [Option.bind_some, from0, h0, if_false]
        rw [dec_t (show (i : Int) > 0 by omega)]
        simp only [cond_true, cond_some]
        congr 2
        generalize gd (.int .i64) c.yes i = y at *
        generalize gd (.int .i64) c.yes (i - 1) = z at *
        grind
    · rw [Bool.eq_false_iff.2 hx]
      simp only [Bool.not_false, cond_true]
      congr 2
      have : ¬ (0 ≤ gd (.int .i64) c.yes i ∧ gd (.int .i64) c.yes i ≤ c.peers - 1) := fun h => hx (inR_iff.2 h)
      grind

theorem impl_seek_eq (h : inR c.peers 1 5 = true) (hl : c.yes.length ≤ 1048576) (hn : c.next.length ≤ 1048576) (hm : c.mch.length ≤ 1048576) : impl_Core_seekOk (c.d, ()) = some (c.seekOk, ()) := by
  have hp := inR_iff.1 h
  have hw : w64 (c.peers - 1) = c.peers - 1 := w64_sm (by omega) (by omega)
  have := lpIB c.yes.length (by omega) (fun m i => impl_Core_seekOk_L2 m c.d c.yes (c.yes.length : Int) i) (fun i => some (rises (c.yes.drop i) (from0 c.yes i) (c.peers - 1) && (decide (1 ≤ c.term) && (c.vote == c.id) && (c.lead == -1) && c.yes.contains c.id && decide (2 * (c.yes.length : Int) ≤ c.peers) && (c.next.length == 0) && (c.mch.length == 0)), ())) (fun i => 0 ≤ from0 c.yes i) ?_ ?_ (by simp [from0])
  · show impl_Core_seekOk_L2 BIG c.d c.yes (c.yes.length : Int) 0 = _
    refine this.trans ?_
    simp only [List.drop_zero, from0, Core.seekOk]
    congr 2
    grind
  · intro m _
    simp only [impl_Core_seekOk_L2]
    unfold impl_Core_seekOk_b2
    simp only [Core.p0, Core.p1, Core.p2, Core.p3, Core.p5, Core.p10, Core.p11, Core.p12]
    rw [lt_f (Nat.le_refl _), Contains_eq _ (by omega), List.drop_of_length_le (Nat.le_refl _), w64_sm (a := (c.next.length : Int) + (c.mch.length : Int)) (by omega) (by omega)]
    rw [show impl_Core_isMost (c.d, (c.yes.length : Int), ()) = some (decide (w64 (2 * (c.yes.length : Int)) > c.peers), ()) from rfl, w64_sm (a := 2 * (c.yes.length : Int)) (by omega) (by omega)]
    simp only [cond_false, Option.bind_some, cond_some, rises]
    congr 2
    grind
  · intro m i hi hv hw' ih
    simp only [impl_Core_seekOk_L2]
    unfold impl_Core_seekOk_b2
    simp only [Core.p0, Core.p1, Core.p2, Core.p3, Core.p5, Core.p10, Core.p11, Core.p12, hw']
    rw [lt_t hi, ix_nat hi, drop_cons (t := .int .i64) hi]
    simp only [cond_true, Option.bind_some, within_eq, hw, rises]
    rw [from0_succ] at ih
    by_cases hx : inR (gd (.int .i64) c.yes i) 0 (c.peers - 1) = true
    · have hx' := inR_iff.1 hx
      rw [hx]
      simp only [Bool.not_true, cond_false]
      rw [ih (by omega)]
      by_cases h0 : i = 0
      · subst h0
        simp [from0, hx'.1, hx'.2]
      · rw [show ((i : Int) - 1) = ((i - 1 : Nat) : Int) by omega, w64_sm (a := ((i - 1 : Nat) : Int)) (by omega) (by omega), ix_nat (by omega)]
        simp only [Option.bind_some, from0, h0, if_false]
        rw [dec_t (show (i : Int) > 0 by omega)]
        simp only [cond_true, cond_some]
        congr 2
        generalize gd (.int .i64) c.yes i = y at *
        generalize gd (.int .i64) c.yes (i - 1) = z at *
        grind
    · rw [Bool.eq_false_iff.2 hx]
      simp only [Bool.not_false, cond_true]
      congr 2
      have : ¬ (0 ≤ gd (.int .i64) c.yes i ∧ gd (.int .i64) c.yes i ≤ c.peers - 1) := fun h => hx (inR_iff.2 h)
      grind

theorem pairs_cons {a b : List Int} {i : Nat} (top : Int) (h : i < a.length) (h' : i < b.length) : pairsOk (a.drop i) (b.drop i) top = (decide (0 ≤ gd (.int .i64) a i) && decide (gd (.int .i64) a i < gd (.int .i64) b i) && decide (gd (.int .i64) b i ≤ top) && pairsOk (a.drop (i + 1)) (b.drop (i + 1)) top) := by
  rw [drop_cons (t := .int .i64) h, drop_cons (t := .int .i64) h']; rfl
theorem gd_int {l : List Int} {i : Nat} : gd (.int .i64) l i = l.getD i 0 := id rfl

theorem spec_lead_loop (hb : inR c.base 0 1000000 = true) (hl : c.log.length ≤ 1048576) (hn : (c.next.length : Int) = c.peers) (hm : (c.mch.length : Int) = c.peers) (hp : c.peers ≤ 5) (q : Nat) (hq : 1048576 < q) : (spec_CoreOk_L q).k17 0 c.d = some (pairsOk c.mch c.next (c.last + 1), ()) := by
  have hlast : w64 (c.last + 1) = c.last + 1 := by have := inR_iff.1 hb; exact w64_sm (by unfold Core.last; omega) (by unfold Core.last; omega)
  refine lpIB c.mch.length (by omega) (fun m i => (spec_CoreOk_L m).k17 i c.d) (fun i => some (pairsOk (c.mch.drop i) (c.next.drop i) (c.last + 1), ())) (fun _ => True) ?_ ?_ trivial q (by omega)
  · intro m _
    show spec_CoreOk_b17 (spec_CoreOk_L m) _ _ = _
    unfold spec_CoreOk_b17
    simp only [Core.p1]
    rw [dec_f (by omega), List.drop_of_length_le (Nat.le_refl _)]; rfl
  · intro m i hi _ hw ih
    show spec_CoreOk_b17 (spec_CoreOk_L m) _ _ = _
    unfold spec_CoreOk_b17
    simp only [Core.p1, Core.p11, Core.p12, hw]
    rw [dec_t (by omega), ix_nat hi, ix_nat (by omega), spec_Last_eq c hb hl, pairs_cons _ hi (by omega)]
    simp only [cond_true, Option.bind_some, hlast, ih trivial, cond_some]
    congr 2
    grind

theorem impl_lead_loop (hb : inR c.base 0 1000000 = true) (hl : c.log.length ≤ 1048576) (hn : (c.next.length : Int) = c.peers) (hm : (c.mch.length : Int) = c.peers) (hp : c.peers ≤ 5) (hi : inR c.id 0 (c.peers - 1) = true) : impl_Core_leadOk_L4 BIG c.d c.mch (c.mch.length : Int) 0 = some (pairsOk c.mch c.next (c.last + 1) && (c.mch.getD c.id.toNat 0 == c.last), ()) := by
  have hlast : w64 (c.last + 1) = c.last + 1 := by have := inR_iff.1 hb; exact w64_sm (by unfold Core.last; omega) (by unfold Core.last; omega)
  have hid := inR_iff.1 hi
  refine lpIB c.mch.length (by omega) (fun m i => impl_Core_leadOk_L4 m c.d c.mch (c.mch.length : Int) i) (fun i => some (pairsOk (c.mch.drop i) (c.next.drop i) (c.last + 1) && (c.mch.getD c.id.toNat 0 == c.last), ())) (fun _ => True) ?_ ?_ trivial
  · intro m _
    simp only [impl_Core_leadOk_L4]
    unfold impl_Core_leadOk_b4
    simp only [Core.p0, Core.p12]
    have hix : ix c.mch.length c.id = some c.id.toNat := by
      rw [show ix c.mch.length c.id = ix c.mch.length ((c.id.toNat : Nat) : Int) by congr 1; omega]
      exact ix_nat (by omega)
    rw [lt_f (Nat.le_refl _), List.drop_of_length_le (Nat.le_refl _), hix, impl_Last_eq c hb (by omega)]
    simp only [cond_false, Option.bind_some, pairsOk, Bool.true_and]
    rfl
  · intro m i hi _ hw ih
    simp only [impl_Core_leadOk_L4]
    unfold impl_Core_leadOk_b4
    simp only [Core.p1, Core.p11, Core.p12, hw]
    rw [lt_t hi, ix_nat hi, ix_nat (by omega), impl_Last_eq c hb hl, pairs_cons _ hi (by omega)]
    simp only [cond_true, Option.bind_some, hlast, ih trivial, cond_some]
    congr 2
    grind

/-- the base of a core whose kept state is right -/
theorem base_of (h : (c.kept []).ok = true) : inR c.base 0 1000000 = true ∧ c.log.length ≤ 60 := by
  unfold Kept.ok Core.kept Snap.ok at h
  simp only [Bool.and_eq_true, Bool.or_eq_true, inR_iff, decide_eq_true_eq, beq_iff_eq] at h
  obtain ⟨⟨⟨⟨⟨h1, h2⟩, h3⟩, h4⟩, h5⟩, h6⟩ := h
  rw [inR_iff]
  split at h4 <;> simp only at h4 <;> omega

theorem ix_int {n : Nat} {i : Int} (h : 0 ≤ i) (h' : i < n) : ix n i = some i.toNat := by
  rw [show ix n i = ix n ((i.toNat : Nat) : Int) by congr 1; omega]
  exact ix_nat (by omega)

theorem spec_role_eq (hb : inR c.base 0 1000000 = true) (hl : c.log.length ≤ 60) (hp : inR c.peers 1 5 = true) (hi : inR c.id 0 (c.peers - 1) = true) (hy : c.yes.length ≤ 1048576) (q : Nat) (hq : 1048580 < q) : (spec_CoreOk_L q).k3 c.d = some (c.roleOk, ()) := by
  have hpp := inR_iff.1 hp
  have hid := inR_iff.1 hi
  have hw : w64 (c.peers - 1) = c.peers - 1 := w64_sm (by omega) (by omega)
  obtain ⟨m, rfl, hm⟩ := fuel (show 1048580 < q from hq)
  show spec_CoreOk_b3 (spec_CoreOk_L m) _ = _
  unfold spec_CoreOk_b3
  simp only [Core.p0, Core.p1, Core.p2, Core.p3, Core.p4, Core.p5, Core.p10, Core.p11, Core.p12, l1In_eq, hw, Option.bind_some]
  rw [spec_seek_eq c hp hy m (by omega)]
  unfold Core.roleOk
  by_cases h1 : c.role = 1
  · simp only [h1, beq_self_eq_true, cond_true, cond_some]
    congr 2
    unfold Core.followOk
    grind
  rw [beq_f h1]
  by_cases h2 : c.role = 2
  · simp only [h2, beq_self_eq_true, cond_true, cond_false]
  rw [beq_f h2]
  by_cases h3 : c.role = 3
  · simp only [h3, beq_self_eq_true, cond_true, cond_false]
    unfold Core.leadOk
    by_cases g5 : (c.next.length : Int) = c.peers
    case neg =>
      rw [bne_t g5, beq_f g5]
      simp only [cond_true, cond_some]
      congr 2
      grind
    by_cases g6 : (c.mch.length : Int) = c.peers
    case neg =>
      rw [bne_t g6, beq_f g6]
      simp only [cond_true, cond_some]
      congr 2
      grind
    rw [spec_lead_loop c hb (by omega) g5 g6 (by omega) m (by omega), ix_int (by omega) (by omega), spec_Last_eq c hb (by omega)]
    simp only [Option.bind_some, cond_some, gd_int]
    congr 2
    grind
  · rw [beq_f h3]; rfl

theorem spec_CoreOk_eq (hl : c.log.length ≤ 1048576) (hy : c.yes.length ≤ 1048576) : spec_CoreOk (c.d, ()) = some (c.ok, ()) := by
  show spec_CoreOk_s (spec_CoreOk_L BIG) c.d = _
  unfold spec_CoreOk_s
  simp -index only [Core.p0, Core.p1, Core.p3, Core.p6, Core.p7, Core.p9, l1In_eq, spec_Kept_eq c [] (by omega), spec_KeptOk_eq, Option.bind_some]
  unfold Core.ok
  by_cases hp : inR c.peers 1 5 = true
  case neg => simp only [Bool.eq_false_iff.2 hp]; rfl
  have hpp := inR_iff.1 hp
  rw [w64_sm (a := c.peers - 1) (by omega) (by omega)]
  by_cases hi : inR c.id 0 (c.peers - 1) = true
  case neg => simp only [Bool.eq_false_iff.2 hi]; simp
  by_cases hk : (c.kept []).ok = true
  case neg => simp only [Bool.eq_false_iff.2 hk]; simp
  obtain ⟨hb, hl⟩ := base_of c hk
  rw [spec_Last_eq c hb (by omega), spec_role_eq c hb hl hp hi hy BIG (big_gt (by omega))]
  simp only [hp, hi, hk, Option.bind_some, cond_some, Bool.not_true, cond_false, cond_true]
  congr 2
  grind

theorem impl_CoreOk_eq (hl : c.log.length ≤ 1048576) (hy : c.yes.length ≤ 1048576) (hn : c.next.length ≤ 1048576) (hm : c.mch.length ≤ 1048576) : impl_CoreOk (c.d, ()) = some (c.ok, ()) := by
  obtain ⟨q, hq, hq'⟩ := big_pred 1
  show impl_CoreOk_s (impl_CoreOk_L3 BIG) c.d = _
  unfold impl_CoreOk_s
  simp -index only [Core.p0, Core.p1, Core.p3, Core.p6, Core.p7, Core.p9, within_eq, impl_Kept_eq c [] (by omega), impl_KeptOk_eq, Option.bind_some]
  unfold Core.ok
  by_cases hp : inR c.peers 1 5 = true
  case neg => simp only [Bool.eq_false_iff.2 hp]; rfl
  have hpp := inR_iff.1 hp
  rw [w64_sm (a := c.peers - 1) (by omega) (by omega)]
  by_cases hi : inR c.id 0 (c.peers - 1) = true
  case neg => simp only [Bool.eq_false_iff.2 hi]; simp
  have hid := inR_iff.1 hi
  by_cases hk : (c.kept []).ok = true
  case neg => simp only [Bool.eq_false_iff.2 hk]; simp
  obtain ⟨hb, hl⟩ := base_of c hk
  have hbb := inR_iff.1 hb
  have hr : impl_CoreOk_L3 BIG c.d = some (c.roleOk, ()) := by
    rw [hq]
    show impl_CoreOk_b3 (impl_CoreOk_L3 q) _ = _
    unfold impl_CoreOk_b3
    simp only [Core.p0, Core.p1, Core.p4, Core.p5, Core.p10, Core.p11, Core.p12, within_eq, Option.bind_some, impl_seek_eq c hp hy hn hm]
    rw [w64_sm (a := c.peers - 1) (by omega) (by omega), w64_sm (a := (c.yes.length : Int) + (c.next.length : Int)) (by omega) (by omega), w64_sm (a := (c.yes.length : Int) + (c.next.length : Int) + _) (by omega) (by omega)]
    unfold Core.roleOk
    by_cases h1 : c.role = 1
    · simp only [h1, beq_self_eq_true, cond_true, cond_some]
      congr 2
      unfold Core.followOk
      grind
    rw [beq_f h1]
    by_cases h2 : c.role = 2
    · simp only [h2, beq_self_eq_true, cond_true, cond_false]
    rw [beq_f h2]
    by_cases h3 : c.role = 3
    · simp only [h3, beq_self_eq_true, cond_true, cond_false]
      have : impl_Core_leadOk (c.d, ()) = some (c.leadOk, ()) := by
        show impl_Core_leadOk_s (impl_Core_leadOk_L4 BIG) c.d = _
        unfold impl_Core_leadOk_s Core.leadOk
        simp only [Core.p0, Core.p1, Core.p2, Core.p3, Core.p5, Core.p10, Core.p11, Core.p12]
        by_cases g5 : (c.next.length : Int) = c.peers
        case neg =>
          rw [bne_t g5, beq_f g5]
          simp only [cond_true, cond_some]
          congr 2
          grind
        by_cases g6 : (c.mch.length : Int) = c.peers
        case neg =>
          rw [bne_t g6, beq_f g6]
          simp only [cond_true, cond_some]
          congr 2
          grind
        rw [impl_lead_loop c hb (by omega) g5 g6 (by omega) hi]
        simp only [cond_some]
        congr 2
        grind
      rw [this]; rfl
    · rw [beq_f h3]; rfl
  rw [impl_Last_eq c hb (by omega), hr]
  simp only [hp, hi, hk, Option.bind_some, cond_some, Bool.not_true, cond_false, cond_true]
  congr 2
  grind
end
end Go.LM.Pg
