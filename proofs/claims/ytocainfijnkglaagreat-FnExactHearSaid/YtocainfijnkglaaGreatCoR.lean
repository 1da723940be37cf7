/- The law of FnExactHear, as a plain function, is true. Conditions: each theorem's own hypotheses. -/
import Derived.Test.YtocainfijnkglaaGreatCoQ
import Derived.Test.YtocainfijnkglaaGreatPgP
set_option linter.unusedSimpArgs false
set_option linter.unusedVariables false
namespace Go.LM.Pg

theorem wt_small {t : Ty} (x : t.D) (h : t.cost x ≤ 2097152) (hl : t.lv ≤ 1000) : t.wt x ≤ 10000000000 := by
  have h1 := Ty.wt_le t x
  have h2 : t.lv * (1 + t.cost x) ≤ 1000 * 2097153 := Nat.mul_le_mul hl (by omega)
  omega

theorem Hear_law (c : Core) (m : Msg) (hc : Ty.wfD tCore c.d) (hm : Ty.wfD tMsg m.d) : laws_FnExactHear (c.d, m.d, ()) = some (true, ()) := by
  obtain ⟨q, hq, _⟩ := big_pred 2
  show laws_FnExactHear_s (laws_FnExactHear_L BIG) c.d m.d = _
  unfold laws_FnExactHear_s
  rw [sz_Core c.d 1048576 (by omega) (by omega) hc]
  simp only [Option.bind_some]
  by_cases g1 : ((Ty.cost tCore c.d : Nat) : Int) ≤ 1048576
  case neg => rw [szR_no g1]; rfl
  rw [szR_ok g1, dec_f (by omega)]
  simp only [cond_false]
  rw [sz_Msg m.d _ (by omega) (by omega) hm]
  simp only [Option.bind_some]
  by_cases g2 : ((Ty.cost tMsg m.d : Nat) : Int) ≤ 1048576 - ((Ty.cost tCore c.d : Nat) : Int)
  case neg => rw [szR_no g2]; rfl
  rw [szR_ok g2, dec_f (by omega)]
  simp only [cond_false]
  have c1 : Ty.cost tCore c.d ≤ 1048576 := by omega
  have c2 : Ty.cost tMsg m.d ≤ 1048576 := by omega
  have e1 := core_cost c
  have e2 := msg_cost m
  have l1 := cost_len (t := tEntry) c.log
  have l2 := cost_len (t := tEntry) m.entries
  have hf : c.Fits := ⟨by omega, by omega, by omega, by omega⟩
  have hs := sHear c m hf (by omega)
  have hi := iHear c m hf (by omega)
  obtain ⟨r1, r2⟩ := Hear_cost c m
  generalize c.Hear m = r at hs hi r1 r2
  -- marks
  have w1 := wt_small c.d (by omega) (by decide)
  have w2 := wt_small m.d (by omega) (by decide)
  have w3 := wt_small r.1.d (by omega) (by decide)
  have w4 := wt_small (t := .sl tMsg) (r.2.map Msg.d) (by omega) (by decide)
  obtain ⟨k1, y1, m1, v1, b1⟩ := mark_Core c.d 1 (by omega) (by omega) (by omega)
  have p1 := mkv_Core_mono v1
  obtain ⟨k2, y2, m2, v2, b2⟩ := mark_Msg m.d k1 (by omega) (by omega) (by omega)
  have p2 := mkv_Msg_mono v2
  obtain ⟨k3, y3, m3, v3, b3⟩ := mark_Core r.1.d 1 (by omega) (by omega) (by omega)
  have p3 := mkv_Core_mono v3
  obtain ⟨k4, y4, m4, v4, b4⟩ := mark_MsgS (r.2.map Msg.d) k3 (by omega) (by omega) (by omega)
  have p4 := Ty.Mk_mono _ v4
  have hh := held_Core (r.1.id, r.1.peers, r.1.term, r.1.vote, r.1.role, r.1.lead, r.1.base, r.1.baseTerm, y3.2.2.2.2.2.2.2.2.1, r.1.commit, y3.2.2.2.2.2.2.2.2.2.2.1, y3.2.2.2.2.2.2.2.2.2.2.2.1, y3.2.2.2.2.2.2.2.2.2.2.2.2.1, ()) 1 k3 (by omega) (by omega) v3
  have hg := held_MsgS y4 k3 k4 (by omega) (by omega) v4
  have q1 := eq_Core r.1.d (by omega)
  have q2 := eq_MsgS (r.2.map Msg.d) (by omega)
  have q3 := eq_Core c.d (by omega)
  have q4 := eq_Msg m.d (by omega)
  have k36 : (laws_FnExactHear_L (q + 1)).k36 k4 r.1.d (r.2.map Msg.d) (r.1.id, r.1.peers, r.1.term, r.1.vote, r.1.role, r.1.lead, r.1.base, r.1.baseTerm, y3.2.2.2.2.2.2.2.2.1, r.1.commit, y3.2.2.2.2.2.2.2.2.2.2.1, y3.2.2.2.2.2.2.2.2.2.2.2.1, y3.2.2.2.2.2.2.2.2.2.2.2.2.1, ()) y4 r.1.d (r.2.map Msg.d) = some (true, ()) := by
    show laws_FnExactHear_b36 (laws_FnExactHear_L q) _ _ _ _ _ _ _ = _
    unfold laws_FnExactHear_b36
    rw [q1]; simp only [Option.bind_some, Bool.not_true, cond_false]
    rw [q2]; simp only [Option.bind_some, Bool.not_true, cond_false]
    rw [hh]; simp only [Option.bind_some]
    rw [dec_f (by omega)]; simp only [cond_false]
    rw [hg]; simp only [Option.bind_some]
    rw [dec_f (by omega)]; simp only [cond_false, bne_self_eq_false]
  have k9 : (laws_FnExactHear_L BIG).k9 c.d m.d r.1.d (r.2.map Msg.d) = some (true, ()) := by
    rw [hq]
    show laws_FnExactHear_b9 (laws_FnExactHear_L (q + 1)) _ _ _ _ = _
    unfold laws_FnExactHear_b9
    rw [to_Core c.d c1]; simp only [Option.bind_some]
    rw [to_Msg m.d c2]; simp only [Option.bind_some]
    rw [hi]; simp only [Option.bind_some]
    rw [q1]; simp only [Option.bind_some, Bool.not_true, cond_false]
    rw [q2]; simp only [Option.bind_some, Bool.not_true, cond_false]
    rw [q3]; simp only [Option.bind_some, Bool.not_true, cond_false]
    rw [q4]; simp only [Option.bind_some, Bool.not_true, cond_false]
    rw [m1]; simp only [Option.bind_some]
    rw [m2]; simp only [Option.bind_some]
    rw [dec_f (by omega)]; simp only [cond_false]
    rw [m3]; simp only [Option.bind_some]
    rw [m4]; simp only [Option.bind_some]
    have hh' : laws_heldCore ((r.1.d.1, r.1.d.2.1, r.1.d.2.2.1, r.1.d.2.2.2.1, r.1.d.2.2.2.2.1, r.1.d.2.2.2.2.2.1, r.1.d.2.2.2.2.2.2.1, r.1.d.2.2.2.2.2.2.2.1, y3.2.2.2.2.2.2.2.2.1, r.1.d.2.2.2.2.2.2.2.2.2.1, y3.2.2.2.2.2.2.2.2.2.2.1, y3.2.2.2.2.2.2.2.2.2.2.2.1, y3.2.2.2.2.2.2.2.2.2.2.2.2.1, ()), 1, ()) = some (k3, ()) := hh
    rw [hh']; simp only [Option.bind_some]
    rw [dec_f (by omega)]; simp only [cond_false]
    rw [hg]; simp only [Option.bind_some]
    rw [dec_f (by omega)]; simp only [cond_false, bne_self_eq_false, dup_eq, both_same]
    exact k36
  rw [to_Core c.d c1]; simp only [Option.bind_some]
  rw [to_Msg m.d c2]; simp only [Option.bind_some]
  rw [hs]; simp only [Option.bind_some, dup_eq, both_same]
  exact k9
end Go.LM.Pg
