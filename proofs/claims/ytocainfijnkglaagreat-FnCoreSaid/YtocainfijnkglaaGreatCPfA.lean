/- Plain laws of sizes, copies, marks and of loops over lists. Conditions: each theorem's own hypotheses. -/
import Derived.Test.YtocainfijnkglaaGreatCLmd
set_option linter.unusedSimpArgs false
set_option linter.unusedVariables false
namespace Go.LM

theorem BIG_eq : BIG = 18446744073709551616 := by unfold BIG; rfl
theorem lt_t {i n : Nat} (h : i < n) : decide ((i : Int) < (n : Int)) = true := by simp; omega
theorem lt_f {i n : Nat} (h : n ≤ i) : decide ((i : Int) < (n : Int)) = false := by simp; omega
theorem dec_f {p : Prop} [Decidable p] (h : ¬ p) : decide p = false := by simp [h]
theorem dec_t {p : Prop} [Decidable p] (h : p) : decide p = true := by simp [h]
theorem fuel {k m : Nat} (h : k < m) : ∃ q, m = q + 1 ∧ k ≤ q := ⟨m - 1, by omega, by omega⟩

/-! ### how much there is in a datum -/
mutual
def Ty.cost : (t : Ty) → t.D → Nat
  | .int _, _ => 0
  | .bool, _ => 0
  | .str, x => List.length x
  | .sl t, xs => List.length xs + (xs.map fun y => t.cost y).sum
  | .st ts, x => ts.cost x
def Tys.cost : (ts : Tys) → ts.D → Nat
  | .nil, _ => 0
  | .cons t ts, x => t.cost x.1 + ts.cost x.2
end
mutual
def Ty.wt : (t : Ty) → t.D → Nat
  | .int _, _ => 1
  | .bool, _ => 1
  | .str, _ => 1
  | .sl t, xs => (xs.map fun y => t.wt y).sum
  | .st ts, x => ts.wt x
def Tys.wt : (ts : Tys) → ts.D → Nat
  | .nil, _ => 0
  | .cons t ts, x => t.wt x.1 + ts.wt x.2
end

theorem sum_mem {α : Type} {f : α → Nat} {y : α} : ∀ {l : List α}, y ∈ l → f y ≤ (l.map f).sum
  | x :: l, h => by
    rcases List.mem_cons.1 h with rfl | h
    · simp
    · have := sum_mem (f := f) h; simp; omega

theorem cost_len {t : Ty} (l : List t.D) : l.length ≤ Ty.cost (.sl t) l := by simp only [Ty.cost]; omega
theorem gd_mem {t : Ty} {l : List t.D} {i : Nat} (h : i < l.length) : gd t l i ∈ l := by rw [gd_eq_get h]; exact List.getElem_mem h
theorem cost_get {t : Ty} {l : List t.D} {i : Nat} (h : i < l.length) : l.length + t.cost (gd t l i) ≤ Ty.cost (.sl t) l := by
  simp only [Ty.cost]
  have := sum_mem (f := fun y => t.cost y) (gd_mem h)
  omega
theorem drop_cons {t : Ty} {l : List t.D} {i : Nat} (h : i < l.length) : l.drop i = gd t l i :: l.drop (i + 1) := by
  rw [gd_eq_get h]; exact List.drop_eq_getElem_cons h

/-! ### sizes -/
def szR (c : Nat) (n : Int) : Int := if (c : Int) ≤ n then n - c else -1
theorem szR_ok {c : Nat} {n : Int} (h : (c : Int) ≤ n) : szR c n = n - c := if_pos h
theorem szR_no {c : Nat} {n : Int} (h : ¬ (c : Int) ≤ n) : szR c n = -1 := if_neg h

/-- a loop that counts what there is in each element -/
theorem sz_loop {t : Ty} (l : List t.D) (L : Nat → Int → Int → Option (Int × Unit)) (hl : l.length ≤ 1048576)
    (h0 : ∀ m n, L (m + 1) n (l.length : Int) = some (n, ()))
    (hs : ∀ m n (i : Nat), i < l.length → 0 ≤ n → n ≤ 1048576 → L (m + 1) n (i : Int) = cond (decide (szR (t.cost (gd t l i)) n < 0)) (some (-1, ())) (L m (szR (t.cost (gd t l i)) n) ((i : Int) + 1))) :
    ∀ (r i m : Nat) (n : Int), i + r = l.length → r < m → 0 ≤ n → n ≤ 1048576 → L m n (i : Int) = some (szR ((l.drop i).map fun y => t.cost y).sum n, ()) := by
  intro r
  induction r with
  | zero =>
    intro i m n hi hm h1 h2
    obtain ⟨m, rfl, _⟩ := fuel hm
    have : i = l.length := by omega
    subst this
    rw [h0, List.drop_of_length_le (by omega)]
    rw [szR_ok (by simpa using h1)]
    simp
  | succ r ih =>
    intro i m n hi hm h1 h2
    obtain ⟨m, rfl, hq⟩ := fuel hm
    have hlt : i < l.length := by omega
    rw [hs m n i hlt h1 h2, drop_cons hlt]
    simp only [List.map_cons, List.sum_cons]
    by_cases hc : ((t.cost (gd t l i) : Nat) : Int) ≤ n
    · rw [szR_ok hc, dec_f (by omega)]
      have := ih (i + 1) m (n - (t.cost (gd t l i) : Nat)) (by omega) (by omega) (by omega) (by omega)
      simp only [Int.natCast_add, Int.cast_ofNat_Int] at this
      simp only [cond_false]
      rw [this]
      unfold szR
      by_cases hd : ((((l.drop (i + 1)).map fun y => t.cost y).sum : Nat) : Int) ≤ n - (t.cost (gd t l i) : Nat)
      · rw [if_pos hd, if_pos (by omega)]; congr 1; congr 1; omega
      · rw [if_neg hd, if_neg (by omega)]
    · rw [szR_no hc, szR_no (by omega)]
      rfl

/-! ### copies -/
theorem copy_loop {t : Ty} (l : List t.D) (L : Nat → Int → List t.D → Option (List t.D × Unit))
    (h0 : ∀ m x, L (m + 1) (l.length : Int) x = some (x, ()))
    (hs : ∀ m (i : Nat) x, i < l.length → x.length = l.length → L (m + 1) (i : Int) x = L m ((i : Int) + 1) (x.set i (gd t l i))) :
    ∀ (r i m : Nat) (x : List t.D), i + r = l.length → r < m → x.length = l.length → x.take i = l.take i → L m (i : Int) x = some (l, ()) := by
  intro r
  induction r with
  | zero =>
    intro i m x hi hm hx ht
    obtain ⟨m, rfl, _⟩ := fuel hm
    have : i = l.length := by omega
    subst this
    rw [h0]
    rw [List.take_of_length_le (by omega), List.take_of_length_le (by omega)] at ht
    rw [ht]
  | succ r ih =>
    intro i m x hi hm hx ht
    obtain ⟨m, rfl, hq⟩ := fuel hm
    have hlt : i < l.length := by omega
    rw [hs m i x hlt hx]
    have := ih (i + 1) m (x.set i (gd t l i)) (by omega) (by omega) (by simpa using hx) (by
      rw [gd_eq_get hlt, List.take_succ_eq_append_getElem hlt, ← ht, List.take_succ_eq_append_getElem (by simpa using hx ▸ hlt), List.take_set_of_le (by omega)]
      simp)
    simpa only [Int.natCast_add, Int.cast_ofNat_Int] using this

/-! ### equality -/
theorem eq_loop (n : Nat) (L : Nat → Int → Option (Bool × Unit))
    (h0 : ∀ m, L (m + 1) (n : Int) = some (true, ()))
    (hs : ∀ m (i : Nat), i < n → L (m + 1) (i : Int) = L m ((i : Int) + 1)) :
    ∀ (r i m : Nat), i + r = n → r < m → L m (i : Int) = some (true, ()) := by
  intro r
  induction r with
  | zero =>
    intro i m hi hm
    obtain ⟨m, rfl, _⟩ := fuel hm
    have : i = n := by omega
    subst this
    exact h0 m
  | succ r ih =>
    intro i m hi hm
    obtain ⟨m, rfl, hq⟩ := fuel hm
    rw [hs m i (by omega)]
    have := ih (i + 1) m (by omega) (by omega)
    simpa only [Int.natCast_add, Int.cast_ofNat_Int] using this

/-! ### marks: 'mt' is the text of a mark -/
def MkL {α : Type} (M : α → Int → Int → Prop) : List α → Int → Int → Prop
  | [], k, k' => k' = k
  | y :: ys, k, k' => ∃ j, M y k j ∧ MkL M ys j k'
mutual
/-- it is marked, from a number on up to another -/
def Ty.Mk (mt : Int → List UInt8) : (t : Ty) → t.D → Int → Int → Prop
  | .int _, y, k, k' => y = k ∧ k' = k + 1
  | .bool, y, k, k' => y = (Int.tmod k 3 == 0) ∧ k' = k + 1
  | .str, y, k, k' => y = mt k ∧ k' = k + 1
  | .sl t, y, k, k' => List.length y ≤ 1099511627776 ∧ MkL (fun y k k' => t.Mk mt y k k') y k k'
  | .st ts, y, k, k' => ts.Mk mt y k k'
def Tys.Mk (mt : Int → List UInt8) : (ts : Tys) → ts.D → Int → Int → Prop
  | .nil, _, k, k' => k' = k
  | .cons t ts, y, k, k' => ∃ j, t.Mk mt y.1 k j ∧ ts.Mk mt y.2 j k'
end

theorem MkL_mono {α : Type} {M : α → Int → Int → Prop} (hM : ∀ y k k', M y k k' → k ≤ k') : ∀ {l : List α} {k k' : Int}, MkL M l k k' → k ≤ k'
  | [], k, k', h => by simp only [MkL] at h; omega
  | y :: ys, k, k', h => by
    obtain ⟨j, h1, h2⟩ := h
    have := hM y k j h1
    have := MkL_mono hM h2
    omega
mutual
theorem Ty.Mk_mono {mt : Int → List UInt8} : ∀ (t : Ty) {y : t.D} {k k' : Int}, t.Mk mt y k k' → k ≤ k'
  | .int _, y, k, k', h => by simp only [Ty.Mk] at h; omega
  | .bool, y, k, k', h => by simp only [Ty.Mk] at h; omega
  | .str, y, k, k', h => by simp only [Ty.Mk] at h; omega
  | .sl t, y, k, k', h => by simp only [Ty.Mk] at h; exact MkL_mono (fun _ _ _ h => Ty.Mk_mono t h) h.2
  | .st ts, y, k, k', h => by simp only [Ty.Mk] at h; exact Tys.Mk_mono ts h
theorem Tys.Mk_mono {mt : Int → List UInt8} : ∀ (ts : Tys) {y : ts.D} {k k' : Int}, ts.Mk mt y k k' → k ≤ k'
  | .nil, y, k, k', h => by simp only [Tys.Mk] at h; omega
  | .cons t ts, y, k, k', h => by
    simp only [Tys.Mk] at h
    obtain ⟨j, h1, h2⟩ := h
    have := Ty.Mk_mono t h1
    have := Tys.Mk_mono ts h2
    omega
end


theorem mark_loop {mt : Int → List UInt8} {t : Ty} (n : Nat) (hn : n ≤ 1099511627776) (L : Nat → Int → Int → List t.D → Option (Int × List t.D × Unit))
    (h0 : ∀ m (k : Int) x, x.length = n → L (m + 1) k (n : Int) x = some (k, x, ()))
    (hs : ∀ m (k : Int) (i : Nat) x, i < n → x.length = n → 0 ≤ k → k + (t.wt (gd t x i) : Nat) ≤ 1000000000000000 → t.cost (gd t x i) ≤ 1099511627776 → ∃ j y, L (m + 1) k (i : Int) x = L m j ((i : Int) + 1) (x.set i y) ∧ t.Mk mt y k j ∧ j ≤ k + (t.wt (gd t x i) : Nat)) :
    ∀ (r i m : Nat) (k : Int) (x : List t.D), i + r = n → r < m → x.length = n → 0 ≤ k → k + (((x.drop i).map fun y => t.wt y).sum : Nat) ≤ 1000000000000000 → (∀ z, z ∈ x.drop i → t.cost z ≤ 1099511627776) →
      ∃ k' x', L m k (i : Int) x = some (k', x', ()) ∧ x'.length = n ∧ x'.take i = x.take i ∧ MkL (fun y k k' => t.Mk mt y k k') (x'.drop i) k k' ∧ k' ≤ k + (((x.drop i).map fun y => t.wt y).sum : Nat) := by
  intro r
  induction r with
  | zero =>
    intro i m k x hi hm hx hk hb hz
    obtain ⟨m, rfl, _⟩ := fuel hm
    have : i = n := by omega
    subst this
    refine ⟨k, x, h0 m k x hx, hx, rfl, ?_, by omega⟩
    rw [List.drop_of_length_le (by omega)]
    rfl
  | succ r ih =>
    intro i m k x hi hm hx hk hb hz
    obtain ⟨m, rfl, hq⟩ := fuel hm
    have hlt : i < x.length := by omega
    rw [drop_cons hlt] at hb hz ⊢
    simp only [List.map_cons, List.sum_cons] at hb ⊢
    obtain ⟨j, y, h1, h2, h4⟩ := hs m k i x (by omega) hx hk (by omega) (hz _ List.mem_cons_self)
    have h3 := Ty.Mk_mono t h2
    have hdrop : (x.set i y).drop (i + 1) = x.drop (i + 1) := by rw [List.drop_set_of_lt (by omega)]
    obtain ⟨k', x', g1, g2, g3, g4, g5⟩ := ih (i + 1) m j (x.set i y) (by omega) (by omega) (by simpa using hx) (by omega) (by rw [hdrop]; omega) (by rw [hdrop]; exact fun z h => hz z (List.mem_cons_of_mem _ h))
    rw [hdrop] at g5
    simp only [Int.natCast_add, Int.cast_ofNat_Int] at g1
    refine ⟨k', x', h1.trans g1, g2, ?_, ?_, by omega⟩
    · have := congrArg (List.take i) g3
      rw [List.take_take, List.take_take, Nat.min_eq_left (by omega), List.take_set_of_le (by omega)] at this
      exact this
    · have hlt' : i < x'.length := by omega
      have he : gd t x' i = y := by
        have h5 : x'[i]? = (x.set i y)[i]? := by
          have := congrArg (fun l => l[i]?) g3
          simpa [List.getElem?_take] using this
        rw [List.getElem?_set_self (by omega), List.getElem?_eq_getElem hlt'] at h5
        rw [gd_eq_get hlt']
        exact Option.some.inj h5
      rw [drop_cons hlt', he]
      exact ⟨j, h2, g4⟩

theorem held_loop {mt : Int → List UInt8} {t : Ty} (x : List t.D) (L : Nat → Int → Int → Option (Int × Unit))
    (h0 : ∀ m k, L (m + 1) k (x.length : Int) = some (k, ()))
    (hs : ∀ m k j (i : Nat), i < x.length → 0 ≤ k → j ≤ 1000000000000000 → t.Mk mt (gd t x i) k j → L (m + 1) k (i : Int) = L m j ((i : Int) + 1)) :
    ∀ (r i m : Nat) (k k' : Int), i + r = x.length → r < m → 0 ≤ k → k' ≤ 1000000000000000 → MkL (fun y k k' => t.Mk mt y k k') (x.drop i) k k' → L m k (i : Int) = some (k', ()) := by
  intro r
  induction r with
  | zero =>
    intro i m k k' hi hm hk hb hM
    obtain ⟨m, rfl, _⟩ := fuel hm
    have : i = x.length := by omega
    subst this
    rw [List.drop_of_length_le (by omega)] at hM
    simp only [MkL] at hM
    rw [h0, hM]
  | succ r ih =>
    intro i m k k' hi hm hk hb hM
    obtain ⟨m, rfl, hq⟩ := fuel hm
    have hlt : i < x.length := by omega
    rw [drop_cons hlt] at hM
    obtain ⟨j, h1, h2⟩ := hM
    have h3 := Ty.Mk_mono t h1
    have h4 := MkL_mono (fun _ _ _ h => Ty.Mk_mono t h) h2
    rw [hs m k j i hlt hk (by omega) h1]
    have := ih (i + 1) m j k' (by omega) (by omega) (by omega) hb h2
    simpa only [Int.natCast_add, Int.cast_ofNat_Int] using this

/-! ### a struct's parts -/
theorem wf_hd {t : Ty} {ts : Tys} {x : (Ty.st (.cons t ts)).D} (h : Ty.wfD (.st (.cons t ts)) x) : t.wfD x.1 := by simp only [Ty.wfD, Tys.wfD] at h; exact h.1
theorem wf_tl {t : Ty} {ts : Tys} {x : (Ty.st (.cons t ts)).D} (h : Ty.wfD (.st (.cons t ts)) x) : Ty.wfD (.st ts) x.2 := by simp only [Ty.wfD, Tys.wfD] at h ⊢; exact h.2
theorem wf_sl {t : Ty} {x : List t.D} (h : Ty.wfD (.sl t) x) : x.length ≤ 9223372036854775807 ∧ ∀ y, y ∈ x → t.wfD y := by simp only [Ty.wfD, maxLen] at h; exact ⟨by omega, h.2⟩
theorem wf_str {x : List UInt8} (h : Ty.wfD .str x) : x.length ≤ 9223372036854775807 := by simp only [Ty.wfD, maxLen] at h; omega
theorem cost_sl {t : Ty} {x : List t.D} : Ty.cost (.sl t) x = x.length + (x.map fun y => t.cost y).sum := by simp only [Ty.cost]
theorem cost_st {ts : Tys} {x : ts.D} : Ty.cost (.st ts) x = ts.cost x := by simp only [Ty.cost]
theorem cost_cons {t : Ty} {ts : Tys} {x : (Tys.cons t ts).D} : Tys.cost (.cons t ts) x = t.cost x.1 + ts.cost x.2 := by simp only [Tys.cost]
theorem cost_nil {x : Tys.nil.D} : Tys.cost .nil x = 0 := by simp only [Tys.cost]
theorem cost_int {k : IntKind} {x : Int} : Ty.cost (.int k) x = 0 := by simp only [Ty.cost]
theorem cost_bool {x : Bool} : Ty.cost .bool x = 0 := by simp only [Ty.cost]
theorem cost_str {x : List UInt8} : Ty.cost .str x = x.length := by simp only [Ty.cost]
theorem wt_st {ts : Tys} {x : ts.D} : Ty.wt (.st ts) x = ts.wt x := by simp only [Ty.wt]
theorem wt_cons {t : Ty} {ts : Tys} {x : (Tys.cons t ts).D} : Tys.wt (.cons t ts) x = t.wt x.1 + ts.wt x.2 := by simp only [Tys.wt]
theorem wt_nil {x : Tys.nil.D} : Tys.wt .nil x = 0 := by simp only [Tys.wt]
theorem wt_int {k : IntKind} {x : Int} : Ty.wt (.int k) x = 1 := by simp only [Ty.wt]
theorem wt_bool {x : Bool} : Ty.wt .bool x = 1 := by simp only [Ty.wt]
theorem wt_str {x : List UInt8} : Ty.wt .str x = 1 := by simp only [Ty.wt]
theorem wt_sl {t : Ty} {x : List t.D} : Ty.wt (.sl t) x = (x.map fun y => t.wt y).sum := by simp only [Ty.wt]
section
variable {mt : Int → List UInt8} {k k' : Int}
theorem mk_st {ts : Tys} {x : ts.D} : Ty.Mk mt (.st ts) x k k' = ts.Mk mt x k k' := by simp only [Ty.Mk]
theorem mk_cons {t : Ty} {ts : Tys} {x : (Tys.cons t ts).D} : Tys.Mk mt (.cons t ts) x k k' = ∃ j, t.Mk mt x.1 k j ∧ ts.Mk mt x.2 j k' := by simp only [Tys.Mk]
theorem mk_nil {x : Tys.nil.D} : Tys.Mk mt .nil x k k' = (k' = k) := by simp only [Tys.Mk]
theorem mk_int {i : IntKind} {x : Int} : Ty.Mk mt (.int i) x k k' = (x = k ∧ k' = k + 1) := by simp only [Ty.Mk]
theorem mk_bool {x : Bool} : Ty.Mk mt .bool x k k' = (x = (Int.tmod k 3 == 0) ∧ k' = k + 1) := by simp only [Ty.Mk]
theorem mk_str {x : List UInt8} : Ty.Mk mt .str x k k' = (x = mt k ∧ k' = k + 1) := by simp only [Ty.Mk]
theorem mk_sl {t : Ty} {x : List t.D} : Ty.Mk mt (.sl t) x k k' = (x.length ≤ 1099511627776 ∧ MkL (fun y k k' => t.Mk mt y k k') x k k') := by simp only [Ty.Mk]
end
mutual
def Ty.lv : Ty → Nat
  | .sl t => t.lv
  | .st ts => ts.lv
  | _ => 1
def Tys.lv : Tys → Nat
  | .nil => 0
  | .cons t ts => t.lv + ts.lv
end
theorem sum_le {α : Type} {f g : α → Nat} (M : Nat) : ∀ (l : List α), (∀ y, y ∈ l → f y ≤ M * (1 + g y)) → (l.map f).sum ≤ M * (l.length + (l.map g).sum)
  | [], _ => by simp
  | y :: l, h => by
    have h1 := h y List.mem_cons_self
    have h2 := sum_le M l fun z hz => h z (List.mem_cons_of_mem _ hz)
    simp only [List.map_cons, List.sum_cons, List.length_cons]
    have : M * (l.length + 1 + (g y + (l.map g).sum)) = M * (1 + g y) + M * (l.length + (l.map g).sum) := by rw [← Nat.mul_add]; congr 1; omega
    omega
mutual
theorem Ty.wt_le : ∀ (t : Ty) (x : t.D), t.wt x ≤ t.lv * (1 + t.cost x)
  | .int _, x => by simp only [Ty.wt, Ty.lv]; omega
  | .bool, x => by simp only [Ty.wt, Ty.lv]; omega
  | .str, x => by simp only [Ty.wt, Ty.lv]; omega
  | .sl t, x => by
    simp only [Ty.wt, Ty.lv, Ty.cost]
    have := sum_le (f := fun y => t.wt y) (g := fun y => t.cost y) t.lv x fun y _ => Ty.wt_le t y
    rw [Nat.mul_add]
    omega
  | .st ts, x => by simp only [Ty.wt, Ty.lv, Ty.cost]; exact Tys.wt_le ts x
theorem Tys.wt_le : ∀ (ts : Tys) (x : ts.D), ts.wt x ≤ ts.lv * (1 + ts.cost x)
  | .nil, x => by simp only [Tys.wt]; omega
  | .cons t ts, x => by
    simp only [Tys.wt, Tys.lv, Tys.cost]
    have h1 := Ty.wt_le t x.1
    have h2 := Tys.wt_le ts x.2
    have h3 : t.lv * (1 + t.cost x.1) ≤ t.lv * (1 + (t.cost x.1 + ts.cost x.2)) := Nat.mul_le_mul_left _ (by omega)
    have h4 : ts.lv * (1 + ts.cost x.2) ≤ ts.lv * (1 + (t.cost x.1 + ts.cost x.2)) := Nat.mul_le_mul_left _ (by omega)
    rw [Nat.add_mul]
    omega
end
theorem cost_flat {t : Ty} (h : ∀ y, t.cost y = 0) (x : List t.D) : Ty.cost (.sl t) x = x.length := by
  simp only [Ty.cost]
  induction x with
  | nil => rfl
  | cons y x ih => simp only [List.map_cons, List.sum_cons, List.length_cons, h y]; omega
theorem to_room {n : Nat} (h : n ≤ 1048576) : (decide (0 ≤ (n : Int)) && decide ((n : Int) = (n : Int)) && room (Int.toNat (n : Int))) = true := by
  rw [show Int.toNat (n : Int) = n by simp, room_of (by omega)]
  simp

end Go.LM
