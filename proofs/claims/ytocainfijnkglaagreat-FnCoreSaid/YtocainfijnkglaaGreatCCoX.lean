/- The law of a server that hears and stands, as a plain function: it says true of every code. Conditions: none. -/
import Derived.Test.YtocainfijnkglaaGreatCCoW
set_option linter.unusedSimpArgs false
set_option linter.unusedVariables false
namespace Go.LM.Pg

theorem gd_map {l : List Msg} {i : Nat} (h : i < l.length) : gd tMsg (l.map Msg.d) i = (l[i]).d := by
  rw [gd_eq_get (by simpa using h)]; simp

theorem law15 (c x : Core) (l : List Msg) (hx : x.Ok) (hl : l.length ≤ 5) (hb : ∀ y, y ∈ l → y.By c.id x.term) : ∀ (r i q : Nat), i + r = l.length → r < q → (laws_FnCore_L q).k15 (i : Int) c.d x.d (l.map Msg.d) = some (true, ()) := by
  intro r
  induction r with
  | zero =>
    intro i q h1 hq
    obtain ⟨q, rfl, _⟩ := fuel hq
    show laws_FnCore_b15 (laws_FnCore_L q) (i : Int) c.d x.d (l.map Msg.d) = _
    unfold laws_FnCore_b15
    have hs := elect_stood hx
    have ho := hs.ok
    have hlen := ho.len; have hli := ho.lists; have hte := hx.term
    rw [dec_f (by rw [List.length_map]; omega), cond_false, iElect x hx]
    simp only [Option.bind_some]
    rw [spec_CoreOk_eq _ (by omega) (by omega), (Core.ok_iff _).2 ho]
    simp only [Core.mk_d, Core.p0, Core.p1, Core.p2, Core.p3, Core.p4, Core.p5, Core.p6, Core.p7, Core.p8, Core.p9, Core.p10, Core.p11, Core.p12, Option.bind_some, cond_true]
    rw [dec_t (show x.elect.1.term ≥ x.term from hs.lo), w64_sm (a := x.term + 1) (by omega) (by omega), dec_t hs.hi]
    simp only [cond_true]
    have hsay := hs.says
    generalize x.elect.2 = L at *
    cases L with
    | nil => rfl
    | cons y L =>
      have := hsay y (by simp)
      rw [beq_f (by simp only [List.map_cons, List.length_cons]; omega), cond_false, ix_int (Int.le_refl 0) (by simp only [List.map_cons, List.length_cons]; omega)]
      simp only [Option.bind_some]
      show some (y.term == x.elect.1.term, ()) = some (true, ())
      rw [this]; simp
  | succ r ih =>
    intro i q h1 hq
    obtain ⟨q, rfl, _⟩ := fuel hq
    show laws_FnCore_b15 (laws_FnCore_L q) (i : Int) c.d x.d (l.map Msg.d) = _
    unfold laws_FnCore_b15
    have hi : i < l.length := by omega
    have hy := hb l[i] (List.getElem_mem hi)
    have hent : (l[i]).entries.length ≤ 1048576 := by
      have := ok_msg_cost hy.ok
      rw [msg_cost] at this
      have := cost_len (t := tEntry) (l[i]).entries
      omega
    rw [List.length_map, dec_t (by omega), ix_nat hi]
    simp only [Option.bind_some, Nat.zero_add, cond_true]
    rw [gd_map hi, spec_MsgOk_eq _ hent, hy.ok]
    simp only [Core.mk_d, Core.p0, Core.p1, Core.p2, Core.p3, Core.p4, Core.p5, Core.p6, Core.p7, Core.p8, Core.p9, Core.p10, Core.p11, Core.p12, Msg.mk_d, Msg.p0, Msg.p1, Msg.p2, Msg.p3, Msg.p4, Msg.p5, Msg.p6, Msg.p7, Msg.p8, Msg.p9, Option.bind_some, Bool.not_true, cond_false]
    rw [bne_f hy.src, bne_f hy.term, w64_sm (a := (i : Int) + 1) (by omega) (by omega)]
    have := ih (i + 1) q (by omega) (by omega)
    simp only [Int.natCast_add, Int.cast_ofNat_Int] at this
    exact this
theorem law10 (c x : Core) (l : List Msg) (hc : c.Ok) (hx : x.Ok) (hl : l.length ≤ 5) (hb : ∀ y, y ∈ l → y.By c.id x.term) (hcm : c.commit ≤ x.commit)
    (hlog : ∀ i : Int, x.base < i → i ≤ c.commit → x.log[(i - x.base - 1).toNat]? = c.log[(i - c.base - 1).toNat]?) :
    ∀ (r q : Nat) (i : Int), c.commit ≤ i + r → x.base ≤ i → i ≤ 200000 → r + 10 < q → (laws_FnCore_L q).k10 i c.d x.d (l.map Msg.d) = some (true, ()) := by
  have cl : c.last = c.base + (c.log.length : Int) := rfl
  have xl : x.last = x.base + (x.log.length : Int) := rfl
  have h1 := hc.commit; have h2 := hx.commit; have h3 := hc.b0; have h4 := hx.b0; have h5 := hc.top; have h6 := hx.top
  intro r
  induction r with
  | zero =>
    intro q i h1 h2 h3 hq
    obtain ⟨q, rfl, _⟩ := fuel hq
    show laws_FnCore_b10 (laws_FnCore_L q) i c.d x.d (l.map Msg.d) = _
    unfold laws_FnCore_b10
    simp only [Core.mk_d, Core.p0, Core.p1, Core.p2, Core.p3, Core.p4, Core.p5, Core.p6, Core.p7, Core.p8, Core.p9, Core.p10, Core.p11, Core.p12]
    rw [dec_f (by omega), cond_false]
    exact law15 c x l hx hl hb l.length 0 q (by omega) (by omega)
  | succ r ih =>
    intro q i g1 g2 g3 hq
    obtain ⟨q, rfl, _⟩ := fuel hq
    show laws_FnCore_b10 (laws_FnCore_L q) i c.d x.d (l.map Msg.d) = _
    unfold laws_FnCore_b10
    simp only [Core.mk_d, Core.p0, Core.p1, Core.p2, Core.p3, Core.p4, Core.p5, Core.p6, Core.p7, Core.p8, Core.p9, Core.p10, Core.p11, Core.p12]
    by_cases k1 : i < c.commit
    case neg =>
      rw [dec_f k1, cond_false]
      exact law15 c x l hx hl hb l.length 0 q (by omega) (by omega)
    have hn := ih q (i + 1) (by omega) (by omega) (by omega) (by omega)
    rw [dec_t k1, cond_true, w64_sm (a := i + 1) (by omega) (by omega), hn]
    by_cases k2 : i ≥ c.base
    case neg => rw [dec_f k2]; rfl
    rw [dec_t k2, cond_true, w64_sm (a := i - x.base) (by omega) (by omega), w64_sm (a := i - c.base) (by omega) (by omega), ix_int (by omega) (by omega), ix_int (by omega) (by omega)]
    simp only [Option.bind_some, Nat.zero_add]
    have he := hlog (i + 1) (by omega) (by omega)
    rw [show i + 1 - x.base - 1 = i - x.base by omega, show i + 1 - c.base - 1 = i - c.base by omega] at he
    have hg : gd tEntry x.log (i - x.base).toNat = gd tEntry c.log (i - c.base).toNat := by rw [gd_ent, gd_ent, he]
    rw [hg, eqS_refl]
    simp
theorem Core_law (code : List Int) : laws_FnCore (code, ()) = some (true, ()) := by
  show laws_FnCore_s (laws_FnCore_L BIG) code = _
  unfold laws_FnCore_s
  rw [show laws_big (code, ()) = some (decide ((code.length : Int) > 1048576), ()) from rfl]
  simp only [Option.bind_some]
  by_cases hb : (code.length : Int) > 1048576
  · rw [dec_t hb]; rfl
  rw [dec_f hb, cond_false]
  obtain ⟨c, m, e, f, hm⟩ := drawHear_eq code (by omega)
  rw [e]
  simp only [Option.bind_some]
  rw [iHear c m f (by omega)]
  simp only [Option.bind_some]
  rw [spec_CoreOk_eq c f.log f.yes]
  simp only [Option.bind_some]
  unfold Core.Hear
  cases hok : c.ok
  · rfl
  have h := (c.ok_iff).1 hok
  have hd := hear_heard (m := m) h
  simp only [if_true]
  generalize c.hear m = R at *
  obtain ⟨x, l⟩ := R
  have hx : x.Ok := hd.ok
  have hlen := hx.len; have hli := hx.lists; have hxb := hx.b0; have hxt := hx.top
  simp only [Core.mk_d, Core.p0, Core.p1, Core.p2, Core.p3, Core.p4, Core.p5, Core.p6, Core.p7, Core.p8, Core.p9, Core.p10, Core.p11, Core.p12, Bool.not_true, cond_false]
  rw [spec_CoreOk_eq x (by omega) (by omega), (x.ok_iff).2 hx]
  simp only [Option.bind_some, Bool.not_true, cond_false]
  have h1 : c.term ≤ x.term := hd.term
  have h2 : c.commit ≤ x.commit := hd.commit
  have h3 : x.term = c.term → 0 ≤ c.vote → x.vote = c.vote := hd.vote
  have hc := h.commit; have hct := h.top
  have cl : c.last = c.base + (c.log.length : Int) := rfl
  have hclen := h.len
  have hgo := law10 c x l h hx hd.len hd.by' h2 hd.log 200000 BIG x.base (by omega) (Int.le_refl _) (by omega) (by rw [BIG_eq]; omega)
  rw [dec_f (show ¬ x.term < c.term by omega), dec_f (show ¬ x.commit < c.commit by omega), hgo]
  simp only [cond_false]
  by_cases ht : x.term = c.term
  · rw [beq_t ht]
    by_cases hv : c.vote ≥ 0
    · rw [dec_t hv, bne_f (h3 ht hv)]; rfl
    · rw [dec_f hv]; rfl
  · rw [beq_f ht]; rfl
end Go.LM.Pg
