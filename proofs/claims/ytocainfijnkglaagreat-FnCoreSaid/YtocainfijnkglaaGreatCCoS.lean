/- What is drawn from a cursor: bytes, numbers below a bound, texts, entries. Conditions: each theorem's own hypotheses. -/
import Derived.Test.YtocainfijnkglaaGreatCCoQ
set_option linter.unusedSimpArgs false
set_option linter.unusedVariables false
namespace Go.LM.Pg

abbrev Cur : Type := tL1Cur.D
/-- a cursor that stands within its bytes -/
def CurOk (C : Cur) : Prop := 0 ≤ C.2.1 ∧ C.2.1 ≤ (C.1.length : Int) ∧ C.1.length ≤ 1048576
/-- something is drawn, and it is so -/
def Draws {α : Type} (o : Option (α × tL1Cur.D × Unit)) (Q : α → Prop) : Prop := ∃ x C, o = some (x, C, ()) ∧ CurOk C ∧ Q x
theorem Draws.ret {α : Type} {x : α} {C : Cur} {Q : α → Prop} (h : CurOk C) (hq : Q x) : Draws (some (x, C, ())) Q := ⟨x, C, rfl, h, hq⟩
theorem Draws.bind {α β : Type} {o : Option (α × tL1Cur.D × Unit)} {f : α × tL1Cur.D × Unit → Option (β × tL1Cur.D × Unit)} {Q : α → Prop} {R : β → Prop} (h : Draws o Q)
    (hf : ∀ x C, CurOk C → Q x → Draws (f (x, C, ())) R) : Draws (o.bind f) R := by
  obtain ⟨x, C, rfl, hc, hq⟩ := h
  exact hf x C hc hq
theorem Draws.mono {α : Type} {o : Option (α × tL1Cur.D × Unit)} {Q R : α → Prop} (h : Draws o Q) (hr : ∀ x, Q x → R x) : Draws o R := by
  obtain ⟨x, C, h1, h2, h3⟩ := h
  exact ⟨x, C, h1, h2, hr x h3⟩
theorem Draws.cond {α : Type} {b : Bool} {o p : Option (α × tL1Cur.D × Unit)} {Q : α → Prop} (h : Draws o Q) (h' : Draws p Q) : Draws (cond b o p) Q := by
  cases b
  · exact h'
  · exact h

theorem and_255 (x : Int) : 0 ≤ bitsI .and .i64 x 255 ∧ bitsI .and .i64 x 255 ≤ 255 := by
  have h : (BitVec.ofInt 64 x &&& BitVec.ofInt 64 255).toNat ≤ 255 := by
    rw [BitVec.toNat_and]
    exact Nat.le_trans Nat.and_le_right (by decide)
  have h' : ((BitVec.ofInt 64 x &&& BitVec.ofInt 64 255).toNat : Int) ≤ 255 := by omega
  have : bitsI .and .i64 x 255 = ((BitVec.ofInt 64 x &&& BitVec.ofInt 64 255).toNat : Int) := w64_in (Int.le_trans (by decide) (Int.natCast_nonneg _)) (Int.le_trans h' (by decide))
  omega

theorem byte_at (b : List Int) (i hh : Int) (u : Unit) (h1 : 0 ≤ i) (h2 : i ≤ (b.length : Int)) (h3 : b.length ≤ 1048576) : Draws (spec_l1Byte (((b, i, hh, u) : Cur), ())) (fun x => 0 ≤ x ∧ x ≤ 255) := by
  show Draws (spec_l1Byte_s ((b, i, hh, u) : Cur)) _
  unfold spec_l1Byte_s
  dsimp only
  by_cases hi : i < (b.length : Int)
  · rw [dec_t hi, ix_int h1 hi]
    refine Draws.ret ⟨?_, ?_, h3⟩ (and_255 _)
    · show 0 ≤ w64 (i + 1); rw [w64_sm (a := i + 1) (by omega) (by omega)]; omega
    · show w64 (i + 1) ≤ (b.length : Int); rw [w64_sm (a := i + 1) (by omega) (by omega)]; omega
  · rw [dec_f hi]
    exact Draws.ret ⟨h1, h2, h3⟩ (and_255 _)
theorem byte_draws {C : Cur} (h : CurOk C) : Draws (spec_l1Byte (C, ())) (fun x => 0 ≤ x ∧ x ≤ 255) :=
  byte_at C.1 C.2.1 C.2.2.1 C.2.2.2 h.1 h.2.1 h.2.2

/-- a number below a bound; 0 where there is none -/
structure Below (n x : Int) : Prop where
  lo : 0 ≤ x
  hi : 0 < n → x < n
  no : n ≤ 0 → x = 0
theorem tmod_below {x n : Int} (hx : 0 ≤ x) (hn : 0 < n) : Below n (Int.tmod x n) :=
  ⟨Int.tmod_nonneg _ hx, fun _ => Int.tmod_lt_of_pos _ hn, fun h => by omega⟩
theorem below_draws {C : Cur} (h : CurOk C) (n : Int) : Draws (spec_l1Below (C, n, ())) (Below n) := by
  show Draws (spec_l1Below_s C n) _
  unfold spec_l1Below_s
  by_cases h0 : n ≤ 0
  · rw [dec_t h0]; exact Draws.ret h ⟨Int.le_refl _, fun h => by omega, fun _ => rfl⟩
  rw [dec_f h0]
  by_cases h1 : n ≤ 256
  · rw [dec_t h1]
    refine (byte_draws h).bind fun x C hC hx => ?_
    dsimp only
    rw [bne_t (by omega : n ≠ 0)]
    exact Draws.ret hC (tmod_below hx.1 (by omega))
  · rw [dec_f h1]
    refine (byte_draws h).bind fun x C hC hx => (byte_draws hC).bind fun y C hC hy => (byte_draws hC).bind fun z C hC hz => (byte_draws hC).bind fun w C hC hw => ?_
    dsimp only
    rw [bne_t (by omega : n ≠ 0)]
    refine Draws.ret hC (tmod_below ?_ (by omega))
    rw [w64_sm (a := x * 16777216) (by omega) (by omega), w64_sm (a := y * 65536) (by omega) (by omega), w64_sm (a := z * 256) (by omega) (by omega), w64_sm (a := x * 16777216 + y * 65536) (by omega) (by omega), w64_sm (a := x * 16777216 + y * 65536 + z * 256) (by omega) (by omega), w64_sm (a := x * 16777216 + y * 65536 + z * 256 + w) (by omega) (by omega)]
    omega
theorem once_draws {C : Cur} (h : CurOk C) (n : Int) : Draws (spec_l1Once (C, n, ())) (fun _ => True) :=
  (below_draws h n).bind fun x C hC _ => Draws.ret hC trivial
theorem pick_draws {C : Cur} (h : CurOk C) (l : List Int) (hl : 0 < l.length) : Draws (spec_l1PickInt (C, l, ())) (fun x => x ∈ l) := by
  show Draws (spec_l1PickInt_s C l) _
  unfold spec_l1PickInt_s
  refine (below_draws h _).bind fun x C hC hx => ?_
  dsimp only
  have := hx.hi (by omega)
  rw [ix_int hx.lo this]
  refine Draws.ret hC ?_
  rw [Nat.zero_add]
  exact gd_mem (t := .int .i64) (by have := hx.lo; omega)

theorem text_go (x1 : Int) : ∀ (r q : Nat) (x4 : List Int) (C : Cur), CurOk C → x4.length + r ≤ 1000 → 2 * r < q → Draws ((spec_l1Text_L q).k4 x1 (r : Int) C x4) (fun s => s.length ≤ x4.length + r) := by
  intro r
  induction r with
  | zero =>
    intro q x4 C hC hl hq
    obtain ⟨q, rfl, _⟩ := fuel hq
    show Draws (spec_l1Text_b4 (spec_l1Text_L q) x1 ((0 : Nat) : Int) C x4) (fun s => s.length ≤ x4.length + 0)
    unfold spec_l1Text_b4
    rw [dec_f (by omega)]
    exact Draws.ret hC (by simp [bytesStr])
  | succ r ih =>
    intro q x4 C hC hl hq
    obtain ⟨q, rfl, hq⟩ := fuel hq
    show Draws (spec_l1Text_b4 (spec_l1Text_L q) x1 _ C x4) _
    unfold spec_l1Text_b4
    rw [dec_t (by omega)]
    refine (byte_draws hC).bind fun y C hC _ => ?_
    have hk : ∀ y, Draws ((spec_l1Text_L q).k11 x1 ((r + 1 : Nat) : Int) y C x4) (fun s => s.length ≤ x4.length + (r + 1)) := fun y => by
      obtain ⟨q, rfl, hq⟩ := fuel (show 2 * r + 1 < q by omega)
      show Draws (spec_l1Text_b11 (spec_l1Text_L q) x1 _ y C x4) _
      unfold spec_l1Text_b11
      rw [room_t (by simp; omega), w64_sm (by omega) (by omega), show ((r + 1 : Nat) : Int) - 1 = (r : Int) by omega]
      exact (ih q _ C hC (by simp; omega) (by omega)).mono fun s hs => by simp at hs; omega
    exact Draws.cond (Draws.cond (hk _) (hk _)) (Draws.cond (hk _) (hk _))
theorem text_draws {C : Cur} (h : CurOk C) (n : Nat) (hn : n ≤ 900) : Draws (spec_l1Text (C, (n : Int), ())) (fun s => s.length ≤ n) := by
  show Draws (spec_l1Text_s (spec_l1Text_L BIG) C n) _
  unfold spec_l1Text_s
  refine (below_draws h _).bind fun x C hC hx => (below_draws hC _).bind fun y C hC hy => ?_
  dsimp only
  rw [w64_sm (a := (n : Int) + 1) (by omega) (by omega)] at hy
  have h1 := hy.lo; have h2 := hy.hi (by omega)
  have := text_go x y.toNat BIG [] C hC (by simp; omega) (by rw [BIG_eq]; omega)
  rw [Int.toNat_of_nonneg h1] at this
  exact this.mono fun s hs => by simp at hs; omega

/-- entries of a draw: not many, and with short data -/
def Few (n : Nat) (l : List Ent) : Prop := l.length ≤ n
theorem ents_go (x2 : Int) : ∀ (r q : Nat) (x1 : Int) (x5 : List tEntry.D) (C : Cur), CurOk C → x5.length + r ≤ 1000 → 2 * r < q → Draws ((spec_l3Entries_L q).k3 x1 x2 (r : Int) C x5) (Few (x5.length + r)) := by
  intro r
  induction r with
  | zero =>
    intro q x1 x5 C hC hl hq
    obtain ⟨q, rfl, _⟩ := fuel hq
    show Draws (spec_l3Entries_b3 (spec_l3Entries_L q) x1 x2 ((0 : Nat) : Int) C x5) (Few (x5.length + 0))
    unfold spec_l3Entries_b3
    rw [dec_f (by omega)]
    exact Draws.ret hC (by simp [Few])
  | succ r ih =>
    intro q x1 x5 C hC hl hq
    obtain ⟨q, rfl, hq⟩ := fuel hq
    show Draws (spec_l3Entries_b3 (spec_l3Entries_L q) x1 x2 _ C x5) _
    unfold spec_l3Entries_b3
    rw [dec_t (by omega), cond_true]
    have hk : ∀ x1 C, CurOk C → Draws ((spec_l3Entries_L q).k7 x1 x2 ((r + 1 : Nat) : Int) C x5) (Few (x5.length + (r + 1))) := fun x1 C hC => by
      obtain ⟨q, rfl, hq⟩ := fuel (show 2 * r + 1 < q by omega)
      show Draws (spec_l3Entries_b7 (spec_l3Entries_L q) x1 x2 _ C x5) _
      unfold spec_l3Entries_b7
      refine Draws.cond (Draws.ret hC (by unfold Few; omega)) ?_
      refine (text_draws hC 8 (by omega)).bind fun s C hC hs => ?_
      dsimp only
      rw [room_t (by simp; omega), w64_sm (by omega) (by omega), show ((r + 1 : Nat) : Int) - 1 = (r : Int) by omega]
      exact (ih q _ _ C hC (by simp; omega) (by omega)).mono fun s hs => by unfold Few at *; simp at hs; omega
    refine Draws.cond (hk _ C hC) (Draws.cond ((once_draws hC 3).bind fun b C hC _ => ?_) (hk _ C hC))
    dsimp only
    cases b
    · exact hk _ C hC
    · exact hk _ C hC
theorem ents_draws {C : Cur} (h : CurOk C) (n : Nat) (hn : n ≤ 900) (a b : Int) : Draws (spec_l3Entries (C, (n : Int), a, b, ())) (Few n) := by
  show Draws (spec_l3Entries_s (spec_l3Entries_L BIG) C n a b) _
  unfold spec_l3Entries_s
  refine (below_draws h _).bind fun y C hC hy => ?_
  dsimp only
  rw [w64_sm (a := (n : Int) + 1) (by omega) (by omega)] at hy
  have h1 := hy.lo; have h2 := hy.hi (by omega)
  have := ents_go b y.toNat BIG a [] C hC (by simp; omega) (by rw [BIG_eq]; omega)
  rw [Int.toNat_of_nonneg h1] at this
  exact this.mono fun s hs => by unfold Few at *; simp at hs; omega

end Go.LM.Pg
