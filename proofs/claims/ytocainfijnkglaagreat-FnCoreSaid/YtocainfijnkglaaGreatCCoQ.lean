/- What a core hears, in all: it stays right, nothing goes back, what it says is right and not too long. Conditions: each theorem's own hypotheses. -/
import Derived.Test.YtocainfijnkglaaGreatCCoP
set_option linter.unusedSimpArgs false
set_option linter.unusedVariables false
namespace Go.LM.Pg

section
variable {c : Core} {m : Msg}

/-- all that is known of what a right core hears -/
structure Core.Heard (c : Core) (r : Core × List Msg) : Prop where
  ok : r.1.Ok
  by' : ∀ x, x ∈ r.2 → x.By c.id r.1.term
  len : r.2.length ≤ 5
  id : r.1.id = c.id
  term : c.term ≤ r.1.term
  commit : c.commit ≤ r.1.commit
  base : c.base ≤ r.1.base
  log : ∀ i : Int, r.1.base < i → i ≤ c.commit → r.1.log[(i - r.1.base - 1).toNat]? = c.log[(i - c.base - 1).toNat]?
  vote : r.1.term = c.term → 0 ≤ c.vote → r.1.vote = c.vote

theorem heard_same (h : c.Ok) (l : List Msg) (hl : ∀ x, x ∈ l → x.By c.id c.term) (hn : l.length ≤ 5) : c.Heard (c, l) :=
  ⟨h, hl, hn, rfl, Int.le_refl _, Int.le_refl _, Int.le_refl _, fun _ _ _ => rfl, fun _ _ => rfl⟩
theorem hear_heard (h : c.Ok) : c.Heard (c.hear m) := by
  unfold Core.hear
  by_cases hb : m.ok = false ∨ m.to ≠ c.id ∨ c.peers ≤ m.src
  · rw [if_pos hb]
    exact heard_same h [] (fun x hx => by simp at hx) (by simp)
  rw [if_neg hb]
  have hm : m.ok = true := by
    cases hm : m.ok
    · exact absurd (.inl hm) hb
    · rfl
  have hto : m.to = c.id := Decidable.byContradiction fun e => hb (.inr (.inl e))
  have hs : m.src < c.peers := by
    refine Int.not_le.1 fun e => hb (.inr (.inr e))
  have mi := msg_in hm
  have hn : m.src ≠ c.id := fun e => mi.ne (by rw [hto]; exact e)
  have hid := h.id; have hpe := h.peers; have hte := h.term; have hmt := mi.term
  by_cases h1 : m.term < c.term
  · rw [if_pos h1]
    refine heard_same h _ ?_ ?_
    · intro x hx
      split at hx
      · simp only [List.mem_singleton] at hx; subst hx
        exact voted_by _ _ _ _ (by omega) mi.src (fun e => hn e.symm) (by omega)
      · split at hx
        · simp only [List.mem_singleton] at hx; subst hx
          exact apped_by _ _ _ _ _ (by omega) mi.src (fun e => hn e.symm) (by omega) (by omega)
        · simp at hx
    · split
      · simp
      · split <;> simp
  rw [if_neg h1]
  by_cases h2 : c.term < m.term
  · rw [if_pos h2]
    have hd := down_ok h m.term (by omega) hmt.2
    have st := hearAt_step (c := c.down m.term) (m := m) hd hm hs hto rfl
    exact ⟨st.ok, fun x hx => by rw [st.after.term]; exact st.by' x hx, st.len, st.after.id, by rw [st.after.term]; show c.term ≤ m.term; omega, st.after.commit, st.after.base, st.after.log, fun e => by rw [st.after.term] at e; have e : m.term = c.term := e; omega⟩
  · rw [if_neg h2]
    have st := hearAt_step h hm hs hto (by omega)
    exact ⟨st.ok, fun x hx => by rw [st.after.term]; exact st.by' x hx, st.len, st.after.id, by rw [st.after.term]; omega, st.after.commit, st.after.base, st.after.log, fun _ => st.after.vote⟩

/-! ### how much there is in a core, and in a message -/
theorem cost_ents {l : List Ent} (h : ∀ e, e ∈ l → e.2.1.length ≤ 1600) : Ty.cost (.sl tEntry) l ≤ l.length * 1601 := by
  rw [cost_sl]
  have h1 : ∀ l : List Ent, (∀ e, e ∈ l → e.2.1.length ≤ 1600) → (l.map fun y => Ty.cost tEntry y).sum ≤ l.length * 1600 := by
    intro l
    induction l with
    | nil => intro _; simp
    | cons e l ih =>
      intro h
      have h2 := ih fun x hx => h x (List.mem_cons_of_mem _ hx)
      have h3 := h e List.mem_cons_self
      have h4 : Ty.cost tEntry e = e.2.1.length := by simp only [cost_st, cost_cons, cost_nil, cost_int, cost_str]; omega
      simp only [List.map_cons, List.sum_cons, List.length_cons, h4]
      omega
  have := h1 l h
  omega
theorem cost_ints (l : List Int) : Ty.cost (.sl (.int .i64)) l = l.length := cost_flat (t := .int .i64) (by intro y; simp [cost_int]) l
theorem core_cost (c : Core) : Ty.cost tCore c.d = Ty.cost (.sl tEntry) c.log + (c.yes.length + (c.next.length + c.mch.length)) := by
  simp only [cost_st, cost_cons, cost_nil, cost_int, Nat.zero_add, Nat.add_zero]
  have e1 := cost_ints c.yes
  have e2 := cost_ints c.next
  have e3 := cost_ints c.mch
  show Ty.cost (.sl tEntry) c.log + (Ty.cost (.sl (.int .i64)) c.yes + (Ty.cost (.sl (.int .i64)) c.next + Ty.cost (.sl (.int .i64)) c.mch)) = _
  rw [e1, e2, e3]
theorem msg_cost (m : Msg) : Ty.cost tMsg m.d = Ty.cost (.sl tEntry) m.entries + m.data.length := by
  simp only [cost_st, cost_cons, cost_nil, cost_int, cost_bool, cost_str, Nat.zero_add, Nat.add_zero]
  rfl
theorem Core.Ok.lists (h : c.Ok) : c.yes.length ≤ 5 ∧ c.next.length ≤ 5 ∧ c.mch.length ≤ 5 := by
  have hok := h.role; have hp := h.peers
  unfold Core.roleOk at hok
  by_cases h1 : c.role = 1
  · rw [beq_t h1] at hok
    simp only [cond_true, Core.followOk, Bool.and_eq_true, beq_iff_eq] at hok
    omega
  rw [beq_f h1] at hok
  by_cases h2 : c.role = 2
  · rw [beq_t h2] at hok
    simp only [cond_true, cond_false, Core.seekOk, Bool.and_eq_true, decide_eq_true_eq, beq_iff_eq] at hok
    omega
  rw [beq_f h2] at hok
  by_cases h3 : c.role = 3
  · rw [beq_t h3] at hok
    simp only [cond_true, cond_false, Core.leadOk, Bool.and_eq_true, decide_eq_true_eq, beq_iff_eq] at hok
    omega
  rw [beq_f h3] at hok
  cases hok
theorem ok_cost (h : c.Ok) : Ty.cost tCore c.d ≤ 200000 := by
  have h1 := cost_ents (l := c.log) fun e he => (runOk_iff.1 h.run).1 e he |>.2.2
  have h2 := h.len; have h3 := h.lists
  rw [core_cost]
  omega
theorem ok_msg_cost (h : m.ok = true) : Ty.cost tMsg m.d ≤ 40000 := by
  have mi := msg_in h
  rw [msg_cost]
  have hk := h
  unfold Msg.ok at hk
  simp only [Bool.and_eq_true] at hk
  have hk := hk.2
  unfold Msg.kindOk at hk
  have e0 : m.entries.length = 0 → Ty.cost (.sl tEntry) m.entries = 0 := fun e => by
    rw [List.eq_nil_of_length_eq_zero e]; simp [Ty.cost]
  by_cases k1 : m.kind = 1
  · rw [beq_t k1] at hk
    simp only [cond_true, Bool.and_eq_true, decide_eq_true_eq, beq_iff_eq] at hk
    rw [e0 hk.1.2]; omega
  by_cases k2 : m.kind = 2
  · rw [beq_f k1, beq_t k2] at hk
    simp only [cond_true, cond_false, Bool.and_eq_true, decide_eq_true_eq, beq_iff_eq] at hk
    rw [e0 hk.1.2]; omega
  by_cases k3 : m.kind = 3
  · rw [beq_f k1, beq_f k2, beq_t k3] at hk
    simp only [cond_true, cond_false, Bool.and_eq_true, decide_eq_true_eq, Msg.runs] at hk
    have := cost_ents (l := m.entries) fun e he => (runOk_iff.1 hk.1.1.2.1.2).1 e he |>.2.2
    have := mi.len
    omega
  by_cases k4 : m.kind = 4
  · rw [beq_f k1, beq_f k2, beq_f k3, beq_t k4] at hk
    simp only [cond_true, cond_false, Bool.and_eq_true, decide_eq_true_eq, beq_iff_eq, inR_iff] at hk
    rw [e0 hk.1.2]; omega
  by_cases k5 : m.kind = 5
  · rw [beq_f k1, beq_f k2, beq_f k3, beq_f k4, beq_t k5] at hk
    simp only [cond_true, cond_false, Bool.and_eq_true, decide_eq_true_eq, beq_iff_eq, inR_iff] at hk
    rw [e0 hk.2]; omega
  have := mi.kind; omega
theorem msgs_cost (l : List Msg) (h : ∀ x, x ∈ l → x.ok = true) (hn : l.length ≤ 5) : Ty.cost (.sl tMsg) (l.map Msg.d) ≤ 300000 := by
  rw [cost_sl]
  have h1 : ∀ l : List Msg, (∀ x, x ∈ l → x.ok = true) → ((l.map Msg.d).map fun y => Ty.cost tMsg y).sum ≤ l.length * 40000 := by
    intro l
    induction l with
    | nil => intro _; simp
    | cons x l ih =>
      intro h
      have h2 := ih fun y hy => h y (List.mem_cons_of_mem _ hy)
      have h3 := ok_msg_cost (h x List.mem_cons_self)
      simp only [List.map_cons, List.sum_cons, List.length_cons]
      omega
  have := h1 l h
  rw [List.length_map]
  omega
/-- what is heard is not too long -/
theorem Hear_cost (c : Core) (m : Msg) : Ty.cost tCore (c.Hear m).1.d ≤ 200000 ∧ Ty.cost (.sl tMsg) ((c.Hear m).2.map Msg.d) ≤ 300000 := by
  unfold Core.Hear
  by_cases hok : c.ok = true
  · rw [if_pos hok]
    have hh := hear_heard (m := m) ((c.ok_iff).1 hok)
    exact ⟨ok_cost hh.ok, msgs_cost _ (fun x hx => (hh.by' x hx).ok) hh.len⟩
  · rw [if_neg hok]
    constructor
    · show Ty.cost tCore Core.zero.d ≤ 200000
      rw [core_cost]
      simp [Core.zero, Ty.cost]
    · simp [Ty.cost]
end
end Go.LM.Pg
