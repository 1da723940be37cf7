/- Loops over lists as recursion, and small laws of flags. Conditions: each theorem's own hypotheses. -/
import Derived.Test.YtocainfijnkglaaGreatCPfA
import Derived.Test.YtocainfijnkglaaGreatCLmd
set_option linter.unusedSimpArgs false
set_option linter.unusedVariables false
namespace Go.LM

theorem big_gt {n : Nat} (h : n ≤ 4611686018427387904) : n < BIG := by rw [BIG_eq]; omega

/-- a loop over a list's places, with something carried along, is what a recursion over the list says -/
theorem lp {t : Ty} {α β : Type} (l : List t.D) (hl : l.length ≤ 4611686018427387904) (L : Nat → Int → α → β) (F : List t.D → α → β)
    (h0 : ∀ m a, L (m + 1) (l.length : Int) a = F [] a)
    (hs : ∀ m (i : Nat) a, i < l.length → (∀ a, L m ((i : Int) + 1) a = F (l.drop (i + 1)) a) → w64 ((i : Int) + 1) = (i : Int) + 1 → L (m + 1) (i : Int) a = F (gd t l i :: l.drop (i + 1)) a) :
    ∀ (r i m : Nat) (a : α), i + r = l.length → r < m → L m (i : Int) a = F (l.drop i) a := by
  intro r
  induction r with
  | zero =>
    intro i m a hi hm
    obtain ⟨m, rfl, _⟩ := fuel hm
    have : i = l.length := by omega
    subst this
    rw [h0, List.drop_of_length_le (by omega)]
  | succ r ih =>
    intro i m a hi hm
    obtain ⟨m, rfl, hq⟩ := fuel hm
    have hlt : i < l.length := by omega
    rw [drop_cons hlt]
    refine hs m i a hlt (fun a => ?_) (w64_in (by omega) (by omega))
    have := ih (i + 1) m a (by omega) (by omega)
    simpa only [Int.natCast_add, Int.cast_ofNat_Int] using this

theorem lpB {t : Ty} {α β : Type} (l : List t.D) (hl : l.length ≤ 4611686018427387904) (L : Nat → Int → α → β) (F : List t.D → α → β)
    (h0 : ∀ m a, L (m + 1) (l.length : Int) a = F [] a)
    (hs : ∀ m (i : Nat) a, i < l.length → (∀ a, L m ((i : Int) + 1) a = F (l.drop (i + 1)) a) → w64 ((i : Int) + 1) = (i : Int) + 1 → L (m + 1) (i : Int) a = F (gd t l i :: l.drop (i + 1)) a) (a : α) (q : Nat := BIG) (hq : l.length < q := by exact big_gt (by omega)) :
    L q 0 a = F l a := by
  have := lp l hl L F h0 hs l.length 0 q a (by omega) hq
  simpa using this

/-- the same with the place itself, and something that holds on the way -/
theorem lpI {β : Type} (n : Nat) (hn : n ≤ 4611686018427387904) (L : Nat → Int → β) (G : Nat → β) (Inv : Nat → Prop)
    (h0 : ∀ m, Inv n → L (m + 1) (n : Int) = G n)
    (hs : ∀ m (i : Nat), i < n → Inv i → w64 ((i : Int) + 1) = (i : Int) + 1 → (Inv (i + 1) → L m ((i : Int) + 1) = G (i + 1)) → L (m + 1) (i : Int) = G i) :
    ∀ (r i m : Nat), i + r = n → r < m → Inv i → L m (i : Int) = G i := by
  intro r
  induction r with
  | zero =>
    intro i m hi hm hv
    obtain ⟨m, rfl, _⟩ := fuel hm
    have : i = n := by omega
    subst this
    exact h0 m hv
  | succ r ih =>
    intro i m hi hm hv
    obtain ⟨m, rfl, hq⟩ := fuel hm
    refine hs m i (by omega) hv (w64_in (by omega) (by omega)) fun hv' => ?_
    have := ih (i + 1) m (by omega) (by omega) hv'
    simpa only [Int.natCast_add, Int.cast_ofNat_Int] using this
theorem lpIB {β : Type} (n : Nat) (hn : n ≤ 4611686018427387904) (L : Nat → Int → β) (G : Nat → β) (Inv : Nat → Prop)
    (h0 : ∀ m, Inv n → L (m + 1) (n : Int) = G n)
    (hs : ∀ m (i : Nat), i < n → Inv i → w64 ((i : Int) + 1) = (i : Int) + 1 → (Inv (i + 1) → L m ((i : Int) + 1) = G (i + 1)) → L (m + 1) (i : Int) = G i) (hi : Inv 0) (q : Nat := BIG) (hq : n < q := by exact big_gt (by omega)) :
    L q 0 = G 0 := lpI n hn L G Inv h0 hs n 0 q (by omega) hq hi
theorem big_pred (k : Nat) (h : k ≤ 1000 := by omega) : ∃ q, BIG = q + k ∧ 4611686018427387904 < q := ⟨BIG - k, by rw [BIG_eq]; omega, by rw [BIG_eq]; omega⟩

theorem cond_some {α : Type} (a : Bool) (x y : α) : cond a (some (x, ())) (some (y, ())) = some (cond a x y, ()) := by cases a <;> rfl
def inR (x lo hi : Int) : Bool := decide (lo ≤ x) && decide (x ≤ hi)
theorem inR_iff {x lo hi : Int} : inR x lo hi = true ↔ lo ≤ x ∧ x ≤ hi := by simp [inR]
theorem cond_false_r (a b : Bool) : cond a b false = (a && b) := by cases a <;> rfl
theorem cond_not_false (a b : Bool) : cond (!a) false b = (a && b) := by cases a <;> rfl
theorem cond_t {α : Type} {b : Bool} {x y : α} (h : b = true) : cond b x y = x := by rw [h]; rfl
theorem cond_f {α : Type} {b : Bool} {x y : α} (h : b = false) : cond b x y = y := by rw [h]; rfl
theorem mx_le {a b x : Int} : mxI a b ≤ x ↔ a ≤ x ∧ b ≤ x := by unfold mxI; split <;> omega
theorem mx_one {x : Int} (h : 1 ≤ x) : mxI 1 x = x := by unfold mxI; split <;> omega
theorem mx_eq (a b : Int) : mxI a b = max a b := by unfold mxI; omega
theorem mn_eq (a b : Int) : mnI a b = min a b := by unfold mnI; omega
theorem eqS_nil {s : List UInt8} : eqS s [] = decide (s.length = 0) := by cases s <;> simp [eqS]
theorem eqS_dec (s t : List UInt8) : eqS s t = decide (s = t) := rfl
theorem bne_t {x y : Int} (h : x ≠ y) : (x != y) = true := by simp [h]
theorem bne_f {x y : Int} (h : x = y) : (x != y) = false := by simp [h]
theorem beq_t {x y : Int} (h : x = y) : (x == y) = true := by simp [h]
theorem beq_f {x y : Int} (h : x ≠ y) : (x == y) = false := by simp [h]
theorem room_t {n : Nat} (h : n ≤ 68719476736) : room n = true := room_of h
theorem iterK_succ {K : Type} (s : K → K) (z : K) (m : Nat) : iterK s z (m + 1) = s (iterK s z m) := rfl
theorem big_succ : ∃ m, BIG = m + 1 := ⟨BIG - 1, by rw [BIG_eq]⟩
theorem part_all {α : Type} (l : List α) : part l 0 l.length = l := by simp [part]
theorem part_drop {α : Type} (l : List α) (n : Nat) : part l n (l.length - n) = l.drop n := by
  unfold part; rw [List.take_of_length_le (by simp)]
theorem part_take {α : Type} (l : List α) (n : Nat) : part l 0 n = l.take n := by simp [part]

end Go.LM
