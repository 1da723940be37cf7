/- What a right core says is right, and what it agreed on stays. Conditions: each theorem's own hypotheses. -/
import Derived.Test.YtocainfijnkglaaGreatCCoO
set_option linter.unusedSimpArgs false
set_option linter.unusedVariables false
namespace Go.LM.Pg

/-- said by a server, of a term -/
structure Msg.By (x : Msg) (id term : Int) : Prop where
  ok : x.ok = true
  src : x.src = id
  term : x.term = term
theorem place_mk {i t : Int} (h : (i = 0 ∧ t = 0) ∨ (1 ≤ i ∧ i ≤ 100000 ∧ 1 ≤ t ∧ t ≤ 100000)) : place i t = true := by
  unfold place
  simp only [Bool.or_eq_true, Bool.and_eq_true, beq_iff_eq, inR_iff]
  omega

section
variable {c : Core} {m : Msg}

theorem voted_by (id p t : Int) (y : Bool) (h1 : 0 ≤ id ∧ id ≤ 4) (h2 : 0 ≤ p ∧ p ≤ 4) (h3 : id ≠ p) (h4 : 1 ≤ t ∧ t ≤ 100000) : (Msg.mk 2 id p t 0 0 0 y [] []).By id t := by
  refine ⟨?_, rfl, rfl⟩
  unfold Msg.ok
  simp only [Bool.and_eq_true, inR_iff, bne_iff_ne]
  exact ⟨⟨⟨⟨h1, h2⟩, h3⟩, h4⟩, rfl⟩
theorem apped_by (id p t i : Int) (y : Bool) (h1 : 0 ≤ id ∧ id ≤ 4) (h2 : 0 ≤ p ∧ p ≤ 4) (h3 : id ≠ p) (h4 : 1 ≤ t ∧ t ≤ 100000) (h5 : 0 ≤ i ∧ i ≤ 100000) : (Msg.mk 4 id p t i 0 0 y [] []).By id t := by
  refine ⟨?_, rfl, rfl⟩
  unfold Msg.ok
  simp only [Bool.and_eq_true, inR_iff, bne_iff_ne]
  refine ⟨⟨⟨⟨h1, h2⟩, h3⟩, h4⟩, ?_⟩
  show (inR i 0 100000 && true && true && true && true) = true
  rw [inR_iff.2 h5]; rfl
theorem told_by (h : c.Ok) (ht : 1 ≤ c.term) (p : Int) (y : Bool) (i : Int) (hp : 0 ≤ p ∧ p ≤ 4) (hn : p ≠ c.id) (hi : 0 ≤ i ∧ i ≤ 100000) : ∀ x, x ∈ c.told p y i → x.By c.id c.term := by
  intro x hx
  unfold Core.told at hx
  simp only [List.mem_singleton] at hx
  subst hx
  have := h.id; have := h.peers; have := h.term
  exact apped_by _ _ _ _ _ (by omega) hp (fun e => hn e.symm) (by omega) hi
theorem last_top (h : c.Ok) : 0 ≤ c.last ∧ c.last ≤ 100000 := by
  have := h.top; have := h.b0
  have hl : c.last = c.base + (c.log.length : Int) := rfl
  omega
theorem to_by (h : c.Ok) (hr : c.role = 3) (p : Int) (h0 : 0 ≤ p) (h1 : p < c.peers) (hn : p ≠ c.id) : (c.to p).By c.id c.term := by
  have hld := h.ldr hr
  have hpp := hld.pairs p h0 h1
  have hi := h.id; have hpe := h.peers; have ht := h.term; have hb := h.base; have hc := h.commit; have htop := last_top h
  have hl : c.last = c.base + (c.log.length : Int) := rfl
  unfold Core.to
  dsimp only
  generalize c.next.getD p.toNat 0 = n at hpp
  split
  · refine ⟨?_, rfl, rfl⟩
    unfold Msg.ok
    simp only [Bool.and_eq_true, inR_iff, bne_iff_ne]
    refine ⟨⟨⟨⟨by omega, by omega⟩, fun e => hn e.symm⟩, by have := hld.term; omega⟩, ?_⟩
    show (inR c.base 1 100000 && inR c.baseTerm 1 c.term && true && true && true && true) = true
    rw [inR_iff.2 (by omega), inR_iff.2 (by omega)]; rfl
  · rename_i hnb
    have hp : c.base ≤ n - 1 ∧ n - 1 ≤ c.last := by omega
    have htm := tm_le h (n - 1) hp.1 hp.2
    have hdl : (c.log.drop (n - 1 - c.base).toNat).length = c.log.length - (n - 1 - c.base).toNat := List.length_drop
    refine ⟨?_, rfl, rfl⟩
    unfold Msg.ok
    simp only [Bool.and_eq_true, inR_iff, bne_iff_ne]
    refine ⟨⟨⟨⟨by omega, by omega⟩, fun e => hn e.symm⟩, by have := hld.term; omega⟩, ?_⟩
    show (place (n - 1) (c.tm (n - 1)) && decide (c.tm (n - 1) ≤ c.term) && inR c.commit 0 100000 && (decide ((((c.log.drop (n - 1 - c.base).toNat).take 4).length : Int) ≤ 4) && runOk ((c.log.drop (n - 1 - c.base).toNat).take 4) (mxI 1 (c.tm (n - 1))) c.term && decide (n - 1 + (((c.log.drop (n - 1 - c.base).toNat).take 4).length : Int) ≤ 100000)) && true && true) = true
    have e1 : place (n - 1) (c.tm (n - 1)) = true := by
      refine place_mk ?_
      by_cases hz : n - 1 = 0
      · left; refine ⟨hz, ?_⟩
        have : c.base = 0 := by omega
        have : n - 1 = c.base := by omega
        rw [this, tm_base]; omega
      · right
        have := tm_pos h (n - 1) (by omega) hp.1 hp.2
        omega
    have e2 : runOk ((c.log.drop (n - 1 - c.base).toNat).take 4) (mxI 1 (c.tm (n - 1))) c.term = true := by
      have hrun := runOk_iff.1 h.run
      refine runOk_iff.2 ⟨fun e he => ?_, hrun.2.sublist ((List.take_sublist _ _).trans (List.drop_sublist _ _))⟩
      have he := List.mem_of_mem_take he
      have h2 := tm_drop h (n - 1) hp.1 hp.2 e he
      have h3 := hrun.1 e (List.mem_of_mem_drop he)
      rw [mx_eq] at h3 ⊢
      exact ⟨by omega, h3.2⟩
    rw [e1, e2, dec_t htm.2, inR_iff.2 (by omega : 0 ≤ c.commit ∧ c.commit ≤ 100000), dec_t (by rw [List.length_take]; omega), dec_t (by rw [List.length_take, hdl]; omega)]
    rfl
theorem toAll_by (h : c.Ok) (hr : c.role = 3) : (∀ x, x ∈ c.toAll → x.By c.id c.term) ∧ c.toAll.length ≤ 5 := by
  have hp := h.peers
  constructor
  · intro x hx
    unfold Core.toAll at hx
    obtain ⟨p, hp', rfl⟩ := List.mem_map.1 hx
    have := mem_others.1 hp'
    exact to_by h hr p this.1 (by omega) this.2.2
  · unfold Core.toAll
    rw [List.length_map]
    have := others_len c.peers.toNat c.id
    omega

/-- what stays of a core behind another one -/
structure Core.After (c x : Core) : Prop where
  id : x.id = c.id
  peers : x.peers = c.peers
  commit : c.commit ≤ x.commit
  base : c.base ≤ x.base
  log : ∀ i : Int, x.base < i → i ≤ c.commit → x.log[(i - x.base - 1).toNat]? = c.log[(i - c.base - 1).toNat]?
  term : x.term = c.term
  vote : 0 ≤ c.vote → x.vote = c.vote
theorem Core.After.rfl' : c.After c := ⟨rfl, rfl, Int.le_refl _, Int.le_refl _, fun _ _ _ => rfl, rfl, fun _ => rfl⟩
theorem Core.After.trans {c x y : Core} (h : c.After x) (h' : x.After y) : c.After y :=
  ⟨h'.id.trans h.id, h'.peers.trans h.peers, Int.le_trans h.commit h'.commit, Int.le_trans h.base h'.base, fun i h1 h2 => (h'.log i h1 (Int.le_trans h2 h.commit)).trans (h.log i (by have := h'.base; omega) h2), h'.term.trans h.term, fun hv => (h'.vote (by rw [h.vote hv]; exact hv)).trans (h.vote hv)⟩
/-- the same log -/
theorem after_same {x : Core} (e1 : x.id = c.id) (e2 : x.peers = c.peers) (e3 : c.commit ≤ x.commit) (e4 : x.base = c.base) (e5 : x.log = c.log) (e6 : x.term = c.term) (e7 : 0 ≤ c.vote → x.vote = c.vote) : c.After x :=
  ⟨e1, e2, e3, by rw [e4]; exact Int.le_refl _, fun i h1 h2 => by rw [e4, e5], e6, e7⟩
theorem agree_after (k i : Int) : c.After (c.agree k i) := after_same rfl rfl (by show c.commit ≤ max c.commit _; omega) rfl rfl rfl fun _ => rfl
theorem count_after (h : c.commit ≤ c.last) : c.After c.count := after_same rfl rfl (count_in c h).1 rfl rfl rfl fun _ => rfl
theorem takes_after (h : c.Ok) (k p : Int) : ∀ (l : List Ent) (i : Int), c.base ≤ i → i ≤ c.last → c.After (c.takes k p i l).1
  | [], i, h1, h2 => agree_after k i
  | e :: l, i, h1, h2 => by
    rw [takes_cons]
    split
    · rename_i hx; exact takes_after h k p l (i + 1) (by omega) hx.1
    split
    · exact Core.After.rfl'
    · rename_i h3
      have hl : c.last = c.base + (c.log.length : Int) := rfl
      have hlen := h.len
      refine Core.After.trans (x := { c with log := (c.log.take (i - c.base).toNat ++ e :: l).take 60 }) ⟨rfl, rfl, Int.le_refl _, Int.le_refl _, fun j h4 h5 => ?_, rfl, fun _ => rfl⟩ (agree_after _ _)
      have h4 : c.base < j := h4
      show ((c.log.take (i - c.base).toNat ++ e :: l).take 60)[(j - c.base - 1).toNat]? = _
      rw [List.getElem?_take, if_pos (by omega), List.getElem?_append_left (by rw [List.length_take]; omega), List.getElem?_take, if_pos (by omega)]
theorem grow_after (s : List UInt8) (h : c.commit ≤ c.last) (hb : c.base ≤ c.commit) : c.After (c.grow s) := by
  unfold Core.grow
  split
  · refine ⟨rfl, rfl, Int.le_refl _, Int.le_refl _, fun i h1 h2 => ?_, rfl, fun _ => rfl⟩
    have h1 : c.base < i := h1
    have hl : c.last = c.base + (c.log.length : Int) := rfl
    show (c.log ++ _)[(i - c.base - 1).toNat]? = _
    rw [List.getElem?_append_left (by omega)]
  · exact Core.After.rfl'
theorem leads_after (h : c.Ok) : c.After c.leads.1 := by
  have hc := h.commit
  have h1 : c.After c.leading := after_same rfl rfl (Int.le_refl _) rfl rfl rfl fun _ => rfl
  have h2 : c.leading.After (c.leading.grow []) := grow_after [] hc.2 hc.1
  have h3 : (c.leading.grow []).After (c.leading.grow []).own := after_same rfl rfl (Int.le_refl _) rfl rfl rfl fun _ => rfl
  have h4 : (c.leading.grow []).own.After (c.leading.grow []).own.count := count_after (by
    show (c.leading.grow []).commit ≤ (c.leading.grow []).last
    have := (grow_last c.leading []).1
    rw [(grow_rest c.leading []).2.2.1]
    exact Int.le_trans hc.2 this)
  exact ((h1.trans h2).trans h3).trans h4

/-! ### what is heard in its own term -/
theorem back_in (h : c.Ok) (t : Int) : ∀ k : Nat, c.base ≤ c.back t k ∧ c.back t k ≤ c.base + (k : Int)
  | 0 => by simp only [Core.back]; omega
  | k + 1 => by
    have := back_in h t k
    simp only [Core.back]
    split <;> omega
/-- what is said behind entries that are taken -/
theorem takes_by (h : c.Ok) (hr : c.role = 1) (ht : 1 ≤ c.term) (k p : Int) (hp : 0 ≤ p ∧ p ≤ 4) (hn : p ≠ c.id) : ∀ (l : List Ent) (i : Int), c.base ≤ i → i ≤ c.last → (i + (l.length : Int) ≤ 100000 ∨ l = []) → (∀ x, x ∈ (c.takes k p i l).2 → x.By c.id c.term) ∧ (c.takes k p i l).2.length ≤ 5
  | [], i, h1, h2, _ => by
    rw [takes_nil]
    have := last_top h; have := h.b0
    exact ⟨told_by (c := c.agree k i) (agree_ok h hr k i h2) ht p true i hp hn (by omega), by show 1 ≤ 5; omega⟩
  | e :: l, i, h1, h2, h3 => by
    rw [takes_cons]
    have h3' : i + 1 + (l.length : Int) ≤ 100000 := by
      rcases h3 with h3 | h3
      · rw [List.length_cons] at h3; omega
      · cases h3
    split
    · rename_i hx; exact takes_by h hr ht k p hp hn l (i + 1) (by omega) hx.1 (.inl h3')
    split
    · exact ⟨fun x hx => by simp at hx, by simp⟩
    · have hl : c.last = c.base + (c.log.length : Int) := rfl
      have hlen := h.len; have := h.b0; have hi := h.id; have hpe := h.peers; have hte := h.term
      have hy : 0 ≤ Core.last { c with log := (c.log.take (i - c.base).toNat ++ e :: l).take 60 } ∧ Core.last { c with log := (c.log.take (i - c.base).toNat ++ e :: l).take 60 } ≤ 100000 := by
        show 0 ≤ c.base + (((c.log.take (i - c.base).toNat ++ e :: l).take 60).length : Int) ∧ c.base + (((c.log.take (i - c.base).toNat ++ e :: l).take 60).length : Int) ≤ 100000
        rw [List.length_take, List.length_append, List.length_take, List.length_cons]
        omega
      refine ⟨fun x hx => ?_, by show 1 ≤ 5; omega⟩
      simp only [Core.adds, Core.told, List.mem_singleton] at hx
      subst hx
      exact apped_by _ _ _ _ _ (by show 0 ≤ c.id ∧ c.id ≤ 4; omega) hp (fun e => hn e.symm) (by show 1 ≤ c.term ∧ c.term ≤ 100000; omega) hy

/-- all that is to be known of what one says and becomes -/
structure Core.Step (c : Core) (r : Core × List Msg) : Prop where
  ok : r.1.Ok
  after : c.After r.1
  by' : ∀ x, x ∈ r.2 → x.By c.id c.term
  len : r.2.length ≤ 5

theorem down_after (t : Int) (ht : t = c.term) : c.After (c.down t) := by
  subst ht
  exact after_same rfl rfl (Int.le_refl _) rfl rfl rfl fun _ => by show (if c.term = c.term then c.vote else -1) = c.vote; rw [if_pos rfl]
theorem lead_after (p : Int) : c.After { c with lead := p } := after_same rfl rfl (Int.le_refl _) rfl rfl rfl fun _ => rfl

theorem hearAt_step (h : c.Ok) (hm : m.ok = true) (hs : m.src < c.peers) (hto : m.to = c.id) (ht : m.term = c.term) : c.Step (c.hearAt m) := by
  have mi := msg_in hm
  have hn : m.src ≠ c.id := fun e => mi.ne (by rw [hto]; exact e)
  have hid := h.id; have hpe := h.peers; have hte := h.term; have hcm := h.commit; have hb0 := h.b0; have hlt := last_top h
  have hsrc : 0 ≤ m.src ∧ m.src ≤ 4 := mi.src
  have ht1 : 1 ≤ c.term := by have := mi.term; omega
  have hkind := hm
  unfold Msg.ok at hkind
  simp only [Bool.and_eq_true] at hkind
  have hkind := hkind.2
  unfold Msg.kindOk at hkind
  unfold Core.hearAt
  by_cases k1 : m.kind = 1
  · rw [if_pos k1]
    refine ⟨vote_ok h mi hs, ?_, ?_, by unfold Core.hVote; simp⟩
    · unfold Core.hVote
      dsimp only
      split
      · rename_i hg
        unfold Core.grants at hg
        simp only [Bool.and_eq_true, Bool.or_eq_true, beq_iff_eq] at hg
        exact after_same rfl rfl (Int.le_refl _) rfl rfl rfl fun hv => by show m.src = c.vote; rcases hg.1.2 with e | e <;> omega
      · exact Core.After.rfl'
    · intro x hx
      unfold Core.hVote at hx
      simp only [List.mem_singleton] at hx
      subst hx
      exact voted_by _ _ _ _ (by omega) hsrc (fun e => hn e.symm) (by omega)
  rw [if_neg k1]
  by_cases k2 : m.kind = 2
  · rw [if_pos k2]
    refine ⟨voted_ok h ⟨hsrc.1, hs⟩, ?_, ?_, ?_⟩
    all_goals unfold Core.hVoted
    · split
      · exact Core.After.rfl'
      dsimp only
      have h0 : c.After { c with yes := c.voters m.src } := after_same rfl rfl (Int.le_refl _) rfl rfl rfl fun _ => rfl
      split
      · exact leads_after h
      · exact h0
    all_goals
      by_cases hr : c.role ≠ 2 ∨ m.yes = false
      · rw [if_pos hr]; simp
      rw [if_neg hr]
      dsimp only
      by_cases hl : c.peers < 2 * ((c.voters m.src).length : Int)
      case neg => rw [if_neg hl]; simp
      rw [if_pos hl]
      have hr2 : c.role = 2 := Decidable.byContradiction fun h => hr (.inl h)
      have hok := h.role
      unfold Core.roleOk at hok
      rw [hr2] at hok
      have hok : c.seekOk = true := hok
      unfold Core.seekOk at hok
      simp only [Bool.and_eq_true, decide_eq_true_eq, beq_iff_eq] at hok
      have hlo := leads_ok h hok.1.1.1.1.1.1.1 hok.1.1.1.1.1.1.2
      have hlr : c.leads.1.role = 3 := by
        show (c.leading.put []).role = 3
        show (c.leading.grow []).role = 3
        unfold Core.grow; split <;> rfl
      have hla := leads_after h
      have hall := toAll_by hlo hlr
      rw [hla.id, hla.term] at hall
      first | exact hall.1 | exact hall.2
  rw [if_neg k2]
  by_cases k3 : m.kind = 3
  · rw [if_pos k3]
    rw [beq_f k1, beq_f k2, beq_t k3] at hkind
    simp only [cond_true, cond_false, Bool.and_eq_true, decide_eq_true_eq, Msg.runs] at hkind
    have hrun := hkind.1.1.2.1.2
    have htop := hkind.1.1.2.2
    refine ⟨app_ok h mi hs hn ht hrun htop, ?_, ?_, ?_⟩
    all_goals rw [hApp_eq]
    all_goals
      by_cases hr : c.role = 3
      · rw [if_pos hr]; first | exact Core.After.rfl' | simp
      rw [if_neg hr]
      have hx := follow_ok (down_ok h c.term (Int.le_refl _) hte.2) rfl m.src ⟨hsrc.1, hs⟩ hn
      have hxa : c.After { c.down c.term with lead := m.src } := (down_after c.term rfl).trans (lead_after _)
      have hxr : ({ c.down c.term with lead := m.src } : Core).role = 1 := rfl
      have hxi : ({ c.down c.term with lead := m.src } : Core).id = c.id := rfl
      have hxt : ({ c.down c.term with lead := m.src } : Core).term = c.term := rfl
      have key : ∀ x : Core, x.Ok → c.After x → x.role = 1 → x.id = c.id → x.term = c.term → c.After (x.appIn m).1 ∧ (∀ y, y ∈ (x.appIn m).2 → y.By c.id c.term) ∧ (x.appIn m).2.length ≤ 5 := by
        intro x hx hxa hxr hxi hxt
        have hxl := last_top hx
        have hxb := hx.b0
        have told : ∀ (y : Bool) (i : Int), 0 ≤ i ∧ i ≤ 100000 → (∀ z, z ∈ x.told m.src y i → z.By c.id c.term) ∧ (x.told m.src y i).length ≤ 5 := fun y i hi => by
          rw [← hxi, ← hxt]
          exact ⟨told_by hx (by omega) m.src y i hsrc (by rw [hxi]; exact hn) hi, by show 1 ≤ 5; omega⟩
        have at' : ∀ (l : List Ent) (i : Int), x.base ≤ i → (i + (l.length : Int) ≤ 100000 ∨ l = []) → c.After (x.appAt m l i).1 ∧ (∀ y, y ∈ (x.appAt m l i).2 → y.By c.id c.term) ∧ (x.appAt m l i).2.length ≤ 5 := by
          intro l i hi hli
          unfold Core.appAt
          split
          · exact ⟨hxa, fun y hy => by simp at hy, by simp⟩
          split
          · exact ⟨hxa, told false _ hxl⟩
          rename_i g2
          split
          · have := back_in hx (x.tm i) (i - x.base).toNat
            exact ⟨hxa, told false _ (by omega)⟩
          · have h1 := takes_by hx hxr (by omega) m.commit m.src hsrc (by rw [hxi]; exact hn) l i hi (by omega) hli
            rw [hxi, hxt] at h1
            exact ⟨hxa.trans (takes_after hx _ _ l i hi (by omega)), h1⟩
        by_cases hlt : m.index < x.base
        · rw [appIn_at x m x.base (m.entries.drop (x.base - m.index).toNat) (by rw [if_pos hlt]) (by rw [if_pos hlt])]
          refine at' _ _ (Int.le_refl _) ?_
          by_cases hd : (x.base - m.index).toNat ≤ m.entries.length
          · left; rw [List.length_drop]; omega
          · right; rw [List.drop_of_length_le (by omega)]
        · rw [appIn_at x m m.index m.entries (by rw [if_neg hlt]) (by rw [if_neg hlt])]
          exact at' _ _ (by omega) (.inl htop)
      have := key _ hx hxa hxr hxi hxt
      first | exact this.1 | exact this.2.1 | exact this.2.2
  rw [if_neg k3]
  by_cases k4 : m.kind = 4
  · rw [if_pos k4]
    refine ⟨apped_ok h ⟨hsrc.1, hs⟩ hn, ?_, ?_, ?_⟩
    · unfold Core.hApped
      split
      · exact Core.After.rfl'
      dsimp only
      split
      · split
        · exact Core.After.rfl'
        · exact Core.After.trans (x := { c with mch := c.mch.set m.src.toNat (min m.index c.last), next := c.next.set m.src.toNat (min m.index c.last + 1) }) (after_same rfl rfl (Int.le_refl _) rfl rfl rfl fun _ => rfl) (count_after hcm.2)
      · split
        · exact Core.After.rfl'
        · exact after_same rfl rfl (Int.le_refl _) rfl rfl rfl fun _ => rfl
    all_goals
      have hao := apped_ok (m := m) h ⟨hsrc.1, hs⟩ hn
      unfold Core.hApped at hao ⊢
      by_cases hr : c.role ≠ 3
      · rw [if_pos hr]; simp
      rw [if_neg hr] at hao ⊢
      have hr3 : c.role = 3 := Decidable.byContradiction hr
      dsimp only at hao ⊢
      by_cases hy : m.yes = true
      · rw [if_pos hy] at hao ⊢
        by_cases hi : min m.index c.last ≤ c.mch.getD m.src.toNat 0
        · rw [if_pos hi]; simp
        rw [if_neg hi] at hao ⊢
        split
        · first
          | intro x hx; simp only [List.mem_singleton] at hx; subst hx; exact to_by hao hr3 m.src hsrc.1 hs hn
          | simp
        · simp
      · rw [if_neg hy] at hao ⊢
        by_cases hi : c.next.getD m.src.toNat 0 ≤ max (min (c.next.getD m.src.toNat 0 - 1) (m.index + 1)) (c.mch.getD m.src.toNat 0 + 1)
        · rw [if_pos hi]; simp
        rw [if_neg hi] at hao ⊢
        first
        | intro x hx; simp only [List.mem_singleton] at hx; subst hx; exact to_by hao hr3 m.src hsrc.1 hs hn
        | simp
  rw [if_neg k4]
  by_cases k5 : m.kind = 5
  case neg => have := mi.kind; omega
  rw [beq_f k1, beq_f k2, beq_f k3, beq_f k4, beq_t k5] at hkind
  simp only [cond_true, cond_false, Bool.and_eq_true, decide_eq_true_eq, beq_iff_eq, inR_iff] at hkind
  refine ⟨snap_ok h mi hs hn ht (by omega) (by omega), ?_, ?_, ?_⟩
  all_goals rw [snapIn_eq]
  all_goals
    by_cases hr : c.role = 3
    · rw [if_pos hr]; first | exact Core.After.rfl' | simp
    rw [if_neg hr]
    unfold Core.snapIn
    have hxa : c.After { c.down c.term with lead := m.src } := (down_after c.term rfl).trans (lead_after _)
    have hxo := down_ok h c.term (Int.le_refl _) hte.2
    by_cases hi : m.index ≤ (c.down c.term).commit
  · rw [if_pos hi]; exact hxa
  · rw [if_neg hi]
    have hi : ¬ m.index ≤ c.commit := hi
    exact ⟨rfl, rfl, by show c.commit ≤ m.index; omega, by show c.base ≤ m.index; omega, fun i h1 h2 => by have h1 : m.index < i := h1; omega, rfl, fun _ => by show (if c.term = c.term then c.vote else -1) = c.vote; rw [if_pos rfl]⟩
  · rw [if_pos hi]
    exact told_by hxo ht1 m.src true _ hsrc hn (by show 0 ≤ c.commit ∧ c.commit ≤ 100000; omega)
  · rw [if_neg hi]
    intro x hx
    simp only [Core.told, List.mem_singleton] at hx
    subst hx
    exact apped_by _ _ _ _ _ (by show 0 ≤ c.id ∧ c.id ≤ 4; omega) hsrc (fun e => hn e.symm) (by show 1 ≤ c.term ∧ c.term ≤ 100000; omega) mi.index
  · rw [if_pos hi]; show 1 ≤ 5; omega
  · rw [if_neg hi]; show 1 ≤ 5; omega
end
end Go.LM.Pg
