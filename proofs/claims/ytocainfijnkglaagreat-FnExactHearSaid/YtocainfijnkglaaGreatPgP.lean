/- The verifier's own functions (sizes, copies, equality, marks) as plain laws. Printed by a program. Conditions: each theorem's own hypotheses. -/
import Derived.Test.YtocainfijnkglaaGreatPfA
import Derived.Test.YtocainfijnkglaaGreatPgA
set_option linter.unusedSimpArgs false
set_option linter.unusedVariables false
namespace Go.LM.Pg

/-! ### the text of a mark -/
theorem markText_any : ∀ (d m : Nat) (x : Int) (acc : List UInt8), 0 ≤ x → x < 10 ^ d → d ≤ 18 → acc.length + d ≤ 100 → d < m → ∃ s, laws_markText_L4 m x acc = some (s, ()) := by
  intro d
  induction d with
  | zero =>
    intro m x acc h0 hx hd ha hm
    cases m with
    | zero => omega
    | succ m =>
      simp only [laws_markText_L4, laws_markText_b4]
      have : x = 0 := by simp at hx; omega
      subst this
      rw [show decide ((0 : Int) > 0) = false by simp]
      simp only [cond_false]
      rw [room_of (by simp; omega)]
      exact ⟨_, rfl⟩
  | succ d ih =>
    intro m x acc h0 hx hd ha hm
    cases m with
    | zero => omega
    | succ m =>
      simp only [laws_markText_L4, laws_markText_b4]
      by_cases hp : x > 0
      · rw [show decide (x > 0) = true by simp [hp], room_of (by simp [bytesStr]; omega)]
        simp only [cond_true]
        have hb : (10 : Int) ^ d ≤ 10 ^ 17 := by
          have h1 : (10 : Nat) ^ d ≤ 10 ^ 17 := Nat.pow_le_pow_right (by omega) (by omega)
          have h2 : ((10 ^ d : Nat) : Int) ≤ ((10 ^ 17 : Nat) : Int) := Int.ofNat_le.2 h1
          simpa using h2
        rw [Int.pow_succ] at hx
        have ht : Int.tdiv x 10 = x / 10 := by rw [Int.tdiv_eq_ediv_of_nonneg h0]
        rw [ht, w64_in (by omega) (by omega)]
        exact ih m _ _ (by omega) (by omega) (by omega) (by simp [bytesStr]; omega) (by omega)
      · rw [show decide (x > 0) = false by simp [hp]]
        simp only [cond_false]
        rw [room_of (by simp; omega)]
        exact ⟨_, rfl⟩
theorem markText_some (k : Int) (h : k ≤ 1000000000000000) : ∃ s, laws_markText (k, ()) = some (s, ()) := by
  show ∃ s, laws_markText_s (laws_markText_L4 BIG) k = _
  unfold laws_markText_s
  by_cases hk : k ≤ 0
  · exact ⟨_, by simp [hk]; rfl⟩
  · rw [show decide (k ≤ 0) = false by simp [hk]]
    exact markText_any 16 BIG k [] (by omega) (by have e : (10 : Int) ^ 16 = 10000000000000000 := rfl; omega) (by omega) (by simp) (by rw [BIG_eq]; omega)
noncomputable def mt (k : Int) : List UInt8 := match laws_markText (k, ()) with
  | some r => r.1
  | none => []
theorem laws_markText_mt (k : Int) (h : k ≤ 1000000000000000) : laws_markText (k, ()) = some (mt k, ()) := by
  obtain ⟨s, hs⟩ := markText_some k h
  unfold mt
  rw [hs]

theorem sz_Entry (x : tEntry.D) (n : Int) (h0 : 0 ≤ n) (hn : n ≤ 1048576) (hw : Ty.wfD tEntry x) : laws_szEntry (x, n, ()) = some (szR (Ty.cost tEntry x) n, ()) := by
  show laws_szEntry_s  x n = _
  unfold laws_szEntry_s
  have e : Ty.cost tEntry x = x.2.1.length := by simp only [cost_st, cost_cons, cost_nil, cost_int, cost_bool, cost_str, Nat.zero_add, Nat.add_zero]
  rw [e]; clear e
  have wl0 := wf_str (wf_hd (wf_tl hw))
  generalize x.2.1.length = C0 at wl0 ⊢
  rw [w64_in (x := n - _) (by omega) (by omega)]
  by_cases g0 : ((C0 : Nat) : Int) ≤ n
  case neg => rw [dec_t (by omega), szR_no (by omega)]; rfl
  rw [dec_f (by omega)]; simp only [cond_false]
  rw [szR_ok (by omega)]
  first | done | exact congrArg (fun v : Int => some (v, ())) (by omega)

theorem sz_EntryS (x : (Ty.sl tEntry).D) (n : Int) (h0 : 0 ≤ n) (hn : n ≤ 1048576) (hw : Ty.wfD (Ty.sl tEntry) x) : laws_szEntryS (x, n, ()) = some (szR (Ty.cost (Ty.sl tEntry) x) n, ()) := by
  show laws_szEntryS_s (laws_szEntryS_L5 BIG) x n = _
  unfold laws_szEntryS_s
  have wl := (wf_sl hw).1
  have we := (wf_sl hw).2
  rw [w64_in (x := n - _) (by omega) (by omega)]
  by_cases g : (x.length : Int) ≤ n
  case neg => rw [dec_t (by omega), szR_no (by have := cost_len x; omega)]; rfl
  rw [dec_f (by omega)]; simp only [cond_false]
  have hl := sz_loop x (fun m n i => laws_szEntryS_L5 m x n i) (by omega) (fun m n => by
      simp only [laws_szEntryS_L5, laws_szEntryS_b5]; rw [lt_f (Nat.le_refl _)]; rfl) (fun m n i hi h1 h2 => by
      simp only [laws_szEntryS_L5, laws_szEntryS_b5]
      rw [lt_t hi, ix_nat hi]; simp only [cond_true, Option.bind_some]
      rw [sz_Entry _ n h1 h2 (we _ (gd_mem hi))]; simp only [Option.bind_some]
      rw [w64_in (x := (i : Int) + 1) (by omega) (by omega)]) x.length 0 BIG (n - x.length) (by omega) (by rw [BIG_eq]; omega) (by omega) (by omega)
  simp only [Int.ofNat_zero, Int.natCast_zero, List.drop_zero] at hl
  refine hl.trans ?_
  congr 2
  rw [cost_sl]
  generalize (x.map fun y => Ty.cost tEntry y).sum = C
  unfold szR
  split <;> split <;> omega

theorem sz_IntS (x : (Ty.sl (.int .i64)).D) (n : Int) (h0 : 0 ≤ n) (hn : n ≤ 1048576) (hw : Ty.wfD (Ty.sl (.int .i64)) x) : laws_szIntS (x, n, ()) = some (szR (Ty.cost (Ty.sl (.int .i64)) x) n, ()) := by
  show laws_szIntS_s  x n = _
  unfold laws_szIntS_s
  have wl := (wf_sl hw).1
  have we := (wf_sl hw).2
  rw [w64_in (x := n - _) (by omega) (by omega)]
  by_cases g : (x.length : Int) ≤ n
  case neg => rw [dec_t (by omega), szR_no (by have := cost_len x; omega)]; rfl
  rw [dec_f (by omega)]; simp only [cond_false]
  rw [cost_flat (t := (Ty.int .i64)) (by intro y; simp [cost_st, cost_cons, cost_nil, cost_int, cost_bool, cost_str]) x, szR_ok g]

theorem sz_Core (x : tCore.D) (n : Int) (h0 : 0 ≤ n) (hn : n ≤ 1048576) (hw : Ty.wfD tCore x) : laws_szCore (x, n, ()) = some (szR (Ty.cost tCore x) n, ()) := by
  show laws_szCore_s  x n = _
  unfold laws_szCore_s
  have e : Ty.cost tCore x = Ty.cost (Ty.sl tEntry) x.2.2.2.2.2.2.2.2.1 + (Ty.cost (Ty.sl (.int .i64)) x.2.2.2.2.2.2.2.2.2.2.1 + (Ty.cost (Ty.sl (.int .i64)) x.2.2.2.2.2.2.2.2.2.2.2.1 + (Ty.cost (Ty.sl (.int .i64)) x.2.2.2.2.2.2.2.2.2.2.2.2.1))) := by simp only [cost_st, cost_cons, cost_nil, cost_int, cost_bool, cost_str, Nat.zero_add, Nat.add_zero]
  rw [e]; clear e
  rw [sz_EntryS _ (n) (by omega) (by omega) (wf_hd (wf_tl (wf_tl (wf_tl (wf_tl (wf_tl (wf_tl (wf_tl (wf_tl hw)))))))))]; simp only [Option.bind_some]
  generalize Ty.cost (Ty.sl tEntry) x.2.2.2.2.2.2.2.2.1 = C0
  by_cases g0 : ((C0 : Nat) : Int) ≤ n
  case neg => rw [szR_no g0, szR_no (by omega)]; rfl
  rw [szR_ok g0, dec_f (by omega)]; simp only [cond_false]
  rw [sz_IntS _ (n - (C0 : Nat)) (by omega) (by omega) (wf_hd (wf_tl (wf_tl (wf_tl (wf_tl (wf_tl (wf_tl (wf_tl (wf_tl (wf_tl (wf_tl hw)))))))))))]; simp only [Option.bind_some]
  generalize Ty.cost (Ty.sl (.int .i64)) x.2.2.2.2.2.2.2.2.2.2.1 = C1
  by_cases g1 : ((C1 : Nat) : Int) ≤ n - (C0 : Nat)
  case neg => rw [szR_no g1, szR_no (by omega)]; rfl
  rw [szR_ok g1, dec_f (by omega)]; simp only [cond_false]
  rw [sz_IntS _ (n - (C0 : Nat) - (C1 : Nat)) (by omega) (by omega) (wf_hd (wf_tl (wf_tl (wf_tl (wf_tl (wf_tl (wf_tl (wf_tl (wf_tl (wf_tl (wf_tl (wf_tl hw))))))))))))]; simp only [Option.bind_some]
  generalize Ty.cost (Ty.sl (.int .i64)) x.2.2.2.2.2.2.2.2.2.2.2.1 = C2
  by_cases g2 : ((C2 : Nat) : Int) ≤ n - (C0 : Nat) - (C1 : Nat)
  case neg => rw [szR_no g2, szR_no (by omega)]; rfl
  rw [szR_ok g2, dec_f (by omega)]; simp only [cond_false]
  rw [sz_IntS _ (n - (C0 : Nat) - (C1 : Nat) - (C2 : Nat)) (by omega) (by omega) (wf_hd (wf_tl (wf_tl (wf_tl (wf_tl (wf_tl (wf_tl (wf_tl (wf_tl (wf_tl (wf_tl (wf_tl (wf_tl hw)))))))))))))]; simp only [Option.bind_some]
  generalize Ty.cost (Ty.sl (.int .i64)) x.2.2.2.2.2.2.2.2.2.2.2.2.1 = C3
  by_cases g3 : ((C3 : Nat) : Int) ≤ n - (C0 : Nat) - (C1 : Nat) - (C2 : Nat)
  case neg => rw [szR_no g3, szR_no (by omega)]; rfl
  rw [szR_ok g3, dec_f (by omega)]; simp only [cond_false]
  rw [szR_ok (by omega)]
  first | done | exact congrArg (fun v : Int => some (v, ())) (by omega)

theorem sz_Msg (x : tMsg.D) (n : Int) (h0 : 0 ≤ n) (hn : n ≤ 1048576) (hw : Ty.wfD tMsg x) : laws_szMsg (x, n, ()) = some (szR (Ty.cost tMsg x) n, ()) := by
  show laws_szMsg_s  x n = _
  unfold laws_szMsg_s
  have e : Ty.cost tMsg x = Ty.cost (Ty.sl tEntry) x.2.2.2.2.2.2.2.2.1 + (x.2.2.2.2.2.2.2.2.2.1.length) := by simp only [cost_st, cost_cons, cost_nil, cost_int, cost_bool, cost_str, Nat.zero_add, Nat.add_zero]
  rw [e]; clear e
  rw [sz_EntryS _ (n) (by omega) (by omega) (wf_hd (wf_tl (wf_tl (wf_tl (wf_tl (wf_tl (wf_tl (wf_tl (wf_tl hw)))))))))]; simp only [Option.bind_some]
  generalize Ty.cost (Ty.sl tEntry) x.2.2.2.2.2.2.2.2.1 = C0
  by_cases g0 : ((C0 : Nat) : Int) ≤ n
  case neg => rw [szR_no g0, szR_no (by omega)]; rfl
  rw [szR_ok g0, dec_f (by omega)]; simp only [cond_false]
  have wl1 := wf_str (wf_hd (wf_tl (wf_tl (wf_tl (wf_tl (wf_tl (wf_tl (wf_tl (wf_tl (wf_tl hw))))))))))
  generalize x.2.2.2.2.2.2.2.2.2.1.length = C1 at wl1 ⊢
  rw [w64_in (x := n - (C0 : Nat) - _) (by omega) (by omega)]
  by_cases g1 : ((C1 : Nat) : Int) ≤ n - (C0 : Nat)
  case neg => rw [dec_t (by omega), szR_no (by omega)]; rfl
  rw [dec_f (by omega)]; simp only [cond_false]
  rw [szR_ok (by omega)]
  first | done | exact congrArg (fun v : Int => some (v, ())) (by omega)

theorem to_Entry (x : tEntry.D) (hc : Ty.cost tEntry x ≤ 1048576) : laws_toEntry (x, ()) = some (x, ()) := by
  show laws_toEntry_s  x = _
  unfold laws_toEntry_s
  rfl

theorem to_EntryS (x : (Ty.sl tEntry).D) (hc : Ty.cost (Ty.sl tEntry) x ≤ 1048576) : laws_toEntryS (x, ()) = some (x, ()) := by
  show laws_toEntryS_s (laws_toEntryS_L3 BIG) x = _
  unfold laws_toEntryS_s
  have hl := cost_len x
  rw [to_room (by omega)]; simp only [cond_true]
  refine copy_loop x (fun m i y => laws_toEntryS_L3 m x i y) (fun m y => by
      simp only [laws_toEntryS_L3, laws_toEntryS_b3]; rw [lt_f (Nat.le_refl _)]; rfl) (fun m i y hi hy => by
      simp only [laws_toEntryS_L3, laws_toEntryS_b3]
      rw [lt_t hi, ix_nat hi]; simp only [cond_true, Option.bind_some]
      rw [to_Entry _ (by have := cost_get (t := tEntry) hi; omega)]; simp only [Option.bind_some]
      rw [ix_nat (by omega), w64_in (x := (i : Int) + 1) (by omega) (by omega)]; simp only [Option.bind_some, Nat.zero_add]) x.length 0 BIG _ (by omega) (by rw [BIG_eq]; omega) (by simp) (by simp)

theorem to_IntS (x : (Ty.sl (.int .i64)).D) (hc : Ty.cost (Ty.sl (.int .i64)) x ≤ 1048576) : laws_toIntS (x, ()) = some (x, ()) := by
  show laws_toIntS_s (laws_toIntS_L3 BIG) x = _
  unfold laws_toIntS_s
  have hl := cost_len x
  rw [to_room (by omega)]; simp only [cond_true]
  refine copy_loop x (fun m i y => laws_toIntS_L3 m x i y) (fun m y => by
      simp only [laws_toIntS_L3, laws_toIntS_b3]; rw [lt_f (Nat.le_refl _)]; rfl) (fun m i y hi hy => by
      simp only [laws_toIntS_L3, laws_toIntS_b3]
      rw [lt_t hi, ix_nat hi]; simp only [cond_true, Option.bind_some]
      rw [ix_nat (by omega), w64_in (x := (i : Int) + 1) (by omega) (by omega)]; simp only [Option.bind_some, Nat.zero_add]) x.length 0 BIG _ (by omega) (by rw [BIG_eq]; omega) (by simp) (by simp)

theorem to_Core (x : tCore.D) (hc : Ty.cost tCore x ≤ 1048576) : laws_toCore (x, ()) = some (x, ()) := by
  show laws_toCore_s  x = _
  unfold laws_toCore_s
  simp only [cost_st, cost_cons, cost_nil, cost_int, cost_bool, cost_str, Nat.zero_add, Nat.add_zero] at hc
  generalize e0 : Ty.cost (Ty.sl tEntry) x.2.2.2.2.2.2.2.2.1 = C0 at hc
  generalize e1 : Ty.cost (Ty.sl (.int .i64)) x.2.2.2.2.2.2.2.2.2.2.1 = C1 at hc
  generalize e2 : Ty.cost (Ty.sl (.int .i64)) x.2.2.2.2.2.2.2.2.2.2.2.1 = C2 at hc
  generalize e3 : Ty.cost (Ty.sl (.int .i64)) x.2.2.2.2.2.2.2.2.2.2.2.2.1 = C3 at hc
  rw [to_EntryS _ (by rw [e0]; omega)]; simp only [Option.bind_some]
  rw [to_IntS _ (by rw [e1]; omega)]; simp only [Option.bind_some]
  rw [to_IntS _ (by rw [e2]; omega)]; simp only [Option.bind_some]
  rw [to_IntS _ (by rw [e3]; omega)]; simp only [Option.bind_some]

theorem to_Msg (x : tMsg.D) (hc : Ty.cost tMsg x ≤ 1048576) : laws_toMsg (x, ()) = some (x, ()) := by
  show laws_toMsg_s  x = _
  unfold laws_toMsg_s
  simp only [cost_st, cost_cons, cost_nil, cost_int, cost_bool, cost_str, Nat.zero_add, Nat.add_zero] at hc
  generalize e0 : Ty.cost (Ty.sl tEntry) x.2.2.2.2.2.2.2.2.1 = C0 at hc
  rw [to_EntryS _ (by rw [e0]; omega)]; simp only [Option.bind_some]

theorem eq_Entry (x : tEntry.D) (hc : Ty.cost tEntry x ≤ 1099511627776) : laws_eqEntry (x, x, ()) = some (true, ()) := by
  show laws_eqEntry_s  x x = _
  unfold laws_eqEntry_s
  simp only [bne_self_eq_false, cond_false, eqS_refl, Bool.not_true, beq_self_eq_true, Bool.and_self]

theorem eq_EntryS (x : (Ty.sl tEntry).D) (hc : Ty.cost (Ty.sl tEntry) x ≤ 1099511627776) : laws_eqEntryS (x, x, ()) = some (true, ()) := by
  show laws_eqEntryS_s (laws_eqEntryS_L4 BIG) x x = _
  unfold laws_eqEntryS_s
  have hl := cost_len x
  simp only [bne_self_eq_false, cond_false]
  refine eq_loop x.length (fun m i => laws_eqEntryS_L4 m x x i) (fun m => by
      simp only [laws_eqEntryS_L4, laws_eqEntryS_b4]; rw [lt_f (Nat.le_refl _)]; rfl) (fun m i hi => by
      simp only [laws_eqEntryS_L4, laws_eqEntryS_b4]
      rw [lt_t hi, ix_nat hi]; simp only [cond_true, Option.bind_some]
      rw [eq_Entry _ (by have := cost_get (t := tEntry) hi; omega)]
      simp only [Option.bind_some, bne_self_eq_false, eqS_refl, Bool.not_true, cond_false, beq_self_eq_true]
      rw [w64_in (x := (i : Int) + 1) (by omega) (by omega)]) x.length 0 BIG (by omega) (by rw [BIG_eq]; omega)

theorem eq_IntS (x : (Ty.sl (.int .i64)).D) (hc : Ty.cost (Ty.sl (.int .i64)) x ≤ 1099511627776) : laws_eqIntS (x, x, ()) = some (true, ()) := by
  show laws_eqIntS_s (laws_eqIntS_L4 BIG) x x = _
  unfold laws_eqIntS_s
  have hl := cost_len x
  simp only [bne_self_eq_false, cond_false]
  refine eq_loop x.length (fun m i => laws_eqIntS_L4 m x x i) (fun m => by
      simp only [laws_eqIntS_L4, laws_eqIntS_b4]; rw [lt_f (Nat.le_refl _)]; rfl) (fun m i hi => by
      simp only [laws_eqIntS_L4, laws_eqIntS_b4]
      rw [lt_t hi, ix_nat hi]; simp only [cond_true, Option.bind_some]
      simp only [Option.bind_some, bne_self_eq_false, eqS_refl, Bool.not_true, cond_false, beq_self_eq_true]
      rw [w64_in (x := (i : Int) + 1) (by omega) (by omega)]) x.length 0 BIG (by omega) (by rw [BIG_eq]; omega)

theorem eq_Core (x : tCore.D) (hc : Ty.cost tCore x ≤ 1099511627776) : laws_eqCore (x, x, ()) = some (true, ()) := by
  show laws_eqCore_s  x x = _
  unfold laws_eqCore_s
  simp only [cost_st, cost_cons, cost_nil, cost_int, cost_bool, cost_str, Nat.zero_add, Nat.add_zero] at hc
  generalize e0 : Ty.cost (Ty.sl tEntry) x.2.2.2.2.2.2.2.2.1 = C0 at hc
  generalize e1 : Ty.cost (Ty.sl (.int .i64)) x.2.2.2.2.2.2.2.2.2.2.1 = C1 at hc
  generalize e2 : Ty.cost (Ty.sl (.int .i64)) x.2.2.2.2.2.2.2.2.2.2.2.1 = C2 at hc
  generalize e3 : Ty.cost (Ty.sl (.int .i64)) x.2.2.2.2.2.2.2.2.2.2.2.2.1 = C3 at hc
  simp only [bne_self_eq_false, cond_false, eqS_refl, Bool.not_true, beq_self_eq_true, Bool.and_self]
  rw [eq_EntryS x.2.2.2.2.2.2.2.2.1 (by rw [e0]; omega)]; simp only [Option.bind_some, bne_self_eq_false, cond_false, eqS_refl, Bool.not_true, beq_self_eq_true, Bool.and_self]
  rw [eq_IntS x.2.2.2.2.2.2.2.2.2.2.1 (by rw [e1]; omega)]; simp only [Option.bind_some, bne_self_eq_false, cond_false, eqS_refl, Bool.not_true, beq_self_eq_true, Bool.and_self]
  rw [eq_IntS x.2.2.2.2.2.2.2.2.2.2.2.1 (by rw [e2]; omega)]; simp only [Option.bind_some, bne_self_eq_false, cond_false, eqS_refl, Bool.not_true, beq_self_eq_true, Bool.and_self]
  rw [eq_IntS x.2.2.2.2.2.2.2.2.2.2.2.2.1 (by rw [e3]; omega)]; simp only [Option.bind_some, bne_self_eq_false, cond_false, eqS_refl, Bool.not_true, beq_self_eq_true, Bool.and_self]

theorem eq_Msg (x : tMsg.D) (hc : Ty.cost tMsg x ≤ 1099511627776) : laws_eqMsg (x, x, ()) = some (true, ()) := by
  show laws_eqMsg_s  x x = _
  unfold laws_eqMsg_s
  simp only [cost_st, cost_cons, cost_nil, cost_int, cost_bool, cost_str, Nat.zero_add, Nat.add_zero] at hc
  generalize e0 : Ty.cost (Ty.sl tEntry) x.2.2.2.2.2.2.2.2.1 = C0 at hc
  simp only [bne_self_eq_false, cond_false, eqS_refl, Bool.not_true, beq_self_eq_true, Bool.and_self]
  rw [eq_EntryS x.2.2.2.2.2.2.2.2.1 (by rw [e0]; omega)]; simp only [Option.bind_some, bne_self_eq_false, cond_false, eqS_refl, Bool.not_true, beq_self_eq_true, Bool.and_self]

theorem eq_MsgS (x : (Ty.sl tMsg).D) (hc : Ty.cost (Ty.sl tMsg) x ≤ 1099511627776) : laws_eqMsgS (x, x, ()) = some (true, ()) := by
  show laws_eqMsgS_s (laws_eqMsgS_L4 BIG) x x = _
  unfold laws_eqMsgS_s
  have hl := cost_len x
  simp only [bne_self_eq_false, cond_false]
  refine eq_loop x.length (fun m i => laws_eqMsgS_L4 m x x i) (fun m => by
      simp only [laws_eqMsgS_L4, laws_eqMsgS_b4]; rw [lt_f (Nat.le_refl _)]; rfl) (fun m i hi => by
      simp only [laws_eqMsgS_L4, laws_eqMsgS_b4]
      rw [lt_t hi, ix_nat hi]; simp only [cond_true, Option.bind_some]
      rw [eq_Msg _ (by have := cost_get (t := tMsg) hi; omega)]
      simp only [Option.bind_some, bne_self_eq_false, eqS_refl, Bool.not_true, cond_false, beq_self_eq_true]
      rw [w64_in (x := (i : Int) + 1) (by omega) (by omega)]) x.length 0 BIG (by omega) (by rw [BIG_eq]; omega)

set_option maxHeartbeats 4000000 in
theorem mark_EntryS_step (m : Nat) (k : Int) (i : Nat) (x : (Ty.sl tEntry).D) (hi : i < x.length) (hl : x.length ≤ 1099511627776) (hk : 0 ≤ k) (hb : k + (Ty.wt tEntry (gd tEntry x i) : Nat) ≤ 1000000000000000) (hc : Ty.cost tEntry (gd tEntry x i) ≤ 1099511627776) :
    ∃ j y, laws_markEntryS_L2 (m + 1) k (i : Int) x = laws_markEntryS_L2 m j ((i : Int) + 1) (x.set i y) ∧ Ty.Mk mt tEntry y k j ∧ j ≤ k + (Ty.wt tEntry (gd tEntry x i) : Nat) := by
  simp only [wt_st, wt_cons, wt_nil, wt_int, wt_bool, wt_str, mk_st, mk_cons, mk_nil, mk_int, mk_bool, mk_str, Nat.add_zero] at hb ⊢
  simp only [cost_st, cost_cons, cost_nil, cost_int, cost_bool, cost_str, Nat.zero_add, Nat.add_zero] at hc
  generalize (gd tEntry x i).2.1.length = D4 at hc
  refine ⟨k + 2, (k, mt (k + 1), ()), ?_, ⟨k + 1, ⟨rfl, by omega⟩, ⟨k + 2, ⟨rfl, by omega⟩, rfl⟩⟩, by omega⟩
  have hg : ∀ z : tEntry.D, gd tEntry (x.set i z) i = z := fun z => gd_set_same hi
  simp only [laws_markEntryS_L2]
  unfold laws_markEntryS_b2
  simp (disch := first | omega | (simp only [List.length_set]; omega)) only [lt_t, ix_nat, cond_true, Option.bind_some, Nat.zero_add, List.length_set, hg, List.set_set, w64_in, Int.add_assoc, Int.reduceAdd, laws_markText_mt]
  unfold laws_markEntryS_b2_v2
  simp (disch := first | omega | (simp only [List.length_set]; omega)) only [lt_t, ix_nat, cond_true, Option.bind_some, Nat.zero_add, List.length_set, hg, List.set_set, w64_in, Int.add_assoc, Int.reduceAdd, laws_markText_mt]
  unfold laws_markEntryS_b2_v5
  simp (disch := first | omega | (simp only [List.length_set]; omega)) only [lt_t, ix_nat, cond_true, Option.bind_some, Nat.zero_add, List.length_set, hg, List.set_set, w64_in, Int.add_assoc, Int.reduceAdd, laws_markText_mt]

theorem mark_EntryS (x : (Ty.sl tEntry).D) (k : Int) (hk : 0 ≤ k) (hb : k + (Ty.wt (Ty.sl tEntry) x : Nat) ≤ 1000000000000000) (hc : Ty.cost (Ty.sl tEntry) x ≤ 1099511627776) :
    ∃ k' y, laws_markEntryS (x, k, ()) = some (k', y, ()) ∧ Ty.Mk mt (Ty.sl tEntry) y k k' ∧ k' ≤ k + (Ty.wt (Ty.sl tEntry) x : Nat) := by
  have hl : x.length ≤ 1099511627776 := by have := cost_len x; omega
  rw [wt_sl] at hb ⊢
  obtain ⟨k', y, h1, h2, _, h4, h5⟩ := mark_loop (mt := mt) (t := tEntry) x.length hl (fun m k i x => laws_markEntryS_L2 m k i x) (fun m k y hy => by
      simp only [laws_markEntryS_L2, laws_markEntryS_b2]; rw [lt_f (by omega)]; rfl) (fun m k i y hi hy hk hb hc => mark_EntryS_step m k i y (by omega) (by omega) hk hb hc) x.length 0 BIG k x (by omega) (by rw [BIG_eq]; omega) rfl hk (by simpa using hb) (fun z hz => by
      rw [List.drop_zero] at hz
      have h1 := sum_mem (f := fun y => Ty.cost tEntry y) hz
      rw [cost_sl] at hc
      omega)
  refine ⟨k', y, ?_, ?_, by simpa using h5⟩
  · show laws_markEntryS_s (laws_markEntryS_L2 BIG) x k = _
    unfold laws_markEntryS_s
    simpa using h1
  · rw [mk_sl]; exact ⟨by omega, by simpa using h4⟩

set_option maxHeartbeats 4000000 in
theorem mark_IntS_step (m : Nat) (k : Int) (i : Nat) (x : (Ty.sl (.int .i64)).D) (hi : i < x.length) (hl : x.length ≤ 1099511627776) (hk : 0 ≤ k) (hb : k + (Ty.wt (Ty.int .i64) (gd (Ty.int .i64) x i) : Nat) ≤ 1000000000000000) (hc : Ty.cost (Ty.int .i64) (gd (Ty.int .i64) x i) ≤ 1099511627776) :
    ∃ j y, laws_markIntS_L2 (m + 1) k (i : Int) x = laws_markIntS_L2 m j ((i : Int) + 1) (x.set i y) ∧ Ty.Mk mt (Ty.int .i64) y k j ∧ j ≤ k + (Ty.wt (Ty.int .i64) (gd (Ty.int .i64) x i) : Nat) := by
  simp only [wt_st, wt_cons, wt_nil, wt_int, wt_bool, wt_str, mk_st, mk_cons, mk_nil, mk_int, mk_bool, mk_str, Nat.add_zero] at hb ⊢
  simp only [cost_st, cost_cons, cost_nil, cost_int, cost_bool, cost_str, Nat.zero_add, Nat.add_zero] at hc
  refine ⟨k + 1, k, ?_, ⟨rfl, by omega⟩, by omega⟩
  have hg : ∀ z : (Ty.int .i64).D, gd (Ty.int .i64) (x.set i z) i = z := fun z => gd_set_same hi
  simp only [laws_markIntS_L2]
  unfold laws_markIntS_b2
  simp (disch := first | omega | (simp only [List.length_set]; omega)) only [lt_t, ix_nat, cond_true, Option.bind_some, Nat.zero_add, List.length_set, hg, List.set_set, w64_in, Int.add_assoc, Int.reduceAdd, laws_markText_mt]

theorem mark_IntS (x : (Ty.sl (.int .i64)).D) (k : Int) (hk : 0 ≤ k) (hb : k + (Ty.wt (Ty.sl (.int .i64)) x : Nat) ≤ 1000000000000000) (hc : Ty.cost (Ty.sl (.int .i64)) x ≤ 1099511627776) :
    ∃ k' y, laws_markIntS (x, k, ()) = some (k', y, ()) ∧ Ty.Mk mt (Ty.sl (.int .i64)) y k k' ∧ k' ≤ k + (Ty.wt (Ty.sl (.int .i64)) x : Nat) := by
  have hl : x.length ≤ 1099511627776 := by have := cost_len x; omega
  rw [wt_sl] at hb ⊢
  obtain ⟨k', y, h1, h2, _, h4, h5⟩ := mark_loop (mt := mt) (t := (Ty.int .i64)) x.length hl (fun m k i x => laws_markIntS_L2 m k i x) (fun m k y hy => by
      simp only [laws_markIntS_L2, laws_markIntS_b2]; rw [lt_f (by omega)]; rfl) (fun m k i y hi hy hk hb hc => mark_IntS_step m k i y (by omega) (by omega) hk hb hc) x.length 0 BIG k x (by omega) (by rw [BIG_eq]; omega) rfl hk (by simpa using hb) (fun z hz => by
      rw [List.drop_zero] at hz
      have h1 := sum_mem (f := fun y => Ty.cost (Ty.int .i64) y) hz
      rw [cost_sl] at hc
      omega)
  refine ⟨k', y, ?_, ?_, by simpa using h5⟩
  · show laws_markIntS_s (laws_markIntS_L2 BIG) x k = _
    unfold laws_markIntS_s
    simpa using h1
  · rw [mk_sl]; exact ⟨by omega, by simpa using h4⟩

def mkv_Core (y : tCore.D) (k k' : Int) : Prop := ∃ j0, Ty.Mk mt (Ty.sl tEntry) y.2.2.2.2.2.2.2.2.1 k j0 ∧ ∃ j1, Ty.Mk mt (Ty.sl (.int .i64)) y.2.2.2.2.2.2.2.2.2.2.1 j0 j1 ∧ ∃ j2, Ty.Mk mt (Ty.sl (.int .i64)) y.2.2.2.2.2.2.2.2.2.2.2.1 j1 j2 ∧ Ty.Mk mt (Ty.sl (.int .i64)) y.2.2.2.2.2.2.2.2.2.2.2.2.1 j2 k'
theorem mark_Core (x : tCore.D) (k : Int) (hk : 0 ≤ k) (hb : k + (Ty.wt tCore x : Nat) ≤ 1000000000000000) (hc : Ty.cost tCore x ≤ 1099511627776) :
    ∃ k' y, laws_markCore (x, k, ()) = some (k', y, ()) ∧ mkv_Core y k k' ∧ k' ≤ k + (Ty.wt tCore x : Nat) := by
  simp only [wt_st, wt_cons, wt_nil, wt_int, wt_bool, wt_str, Nat.add_zero] at hb ⊢
  simp only [cost_st, cost_cons, cost_nil, cost_int, cost_bool, cost_str, Nat.zero_add, Nat.add_zero] at hc
  generalize ew0 : Ty.wt (Ty.sl tEntry) x.2.2.2.2.2.2.2.2.1 = W0 at hb ⊢
  generalize ec0 : Ty.cost (Ty.sl tEntry) x.2.2.2.2.2.2.2.2.1 = C0 at hc
  generalize ew1 : Ty.wt (Ty.sl (.int .i64)) x.2.2.2.2.2.2.2.2.2.2.1 = W1 at hb ⊢
  generalize ec1 : Ty.cost (Ty.sl (.int .i64)) x.2.2.2.2.2.2.2.2.2.2.1 = C1 at hc
  generalize ew2 : Ty.wt (Ty.sl (.int .i64)) x.2.2.2.2.2.2.2.2.2.2.2.1 = W2 at hb ⊢
  generalize ec2 : Ty.cost (Ty.sl (.int .i64)) x.2.2.2.2.2.2.2.2.2.2.2.1 = C2 at hc
  generalize ew3 : Ty.wt (Ty.sl (.int .i64)) x.2.2.2.2.2.2.2.2.2.2.2.2.1 = W3 at hb ⊢
  generalize ec3 : Ty.cost (Ty.sl (.int .i64)) x.2.2.2.2.2.2.2.2.2.2.2.2.1 = C3 at hc
  obtain ⟨k0, y0, h0, m0, l0⟩ := mark_EntryS x.2.2.2.2.2.2.2.2.1 k (by omega) (by rw [ew0]; omega) (by rw [ec0]; omega)
  have mm0 := Ty.Mk_mono _ m0
  rw [ew0] at l0
  obtain ⟨k1, y1, h1, m1, l1⟩ := mark_IntS x.2.2.2.2.2.2.2.2.2.2.1 k0 (by omega) (by rw [ew1]; omega) (by rw [ec1]; omega)
  have mm1 := Ty.Mk_mono _ m1
  rw [ew1] at l1
  obtain ⟨k2, y2, h2, m2, l2⟩ := mark_IntS x.2.2.2.2.2.2.2.2.2.2.2.1 k1 (by omega) (by rw [ew2]; omega) (by rw [ec2]; omega)
  have mm2 := Ty.Mk_mono _ m2
  rw [ew2] at l2
  obtain ⟨k3, y3, h3, m3, l3⟩ := mark_IntS x.2.2.2.2.2.2.2.2.2.2.2.2.1 k2 (by omega) (by rw [ew3]; omega) (by rw [ec3]; omega)
  have mm3 := Ty.Mk_mono _ m3
  rw [ew3] at l3
  have e : laws_markCore (x, k, ()) = some (k3, (x.1, x.2.1, x.2.2.1, x.2.2.2.1, x.2.2.2.2.1, x.2.2.2.2.2.1, x.2.2.2.2.2.2.1, x.2.2.2.2.2.2.2.1, y0, x.2.2.2.2.2.2.2.2.2.1, y1, y2, y3, ()), ()) := by
    show laws_markCore_s x k = _
    unfold laws_markCore_s
    simp only [h0, h1, h2, h3, Option.bind_some]
  refine ⟨_, _, e, ⟨_, m0, _, m1, _, m2, m3⟩, by omega⟩
theorem mkv_Core_mono {y : tCore.D} {k k' : Int} (h : mkv_Core y k k') : k ≤ k' := by
  unfold mkv_Core at h
  obtain ⟨j0, h0, j1, h1, j2, h2, h3⟩ := h
  have := Ty.Mk_mono _ h0
  have := Ty.Mk_mono _ h1
  have := Ty.Mk_mono _ h2
  have := Ty.Mk_mono _ h3
  omega

def mkv_Msg (y : tMsg.D) (k k' : Int) : Prop := Ty.Mk mt (Ty.sl tEntry) y.2.2.2.2.2.2.2.2.1 k k'
theorem mark_Msg (x : tMsg.D) (k : Int) (hk : 0 ≤ k) (hb : k + (Ty.wt tMsg x : Nat) ≤ 1000000000000000) (hc : Ty.cost tMsg x ≤ 1099511627776) :
    ∃ k' y, laws_markMsg (x, k, ()) = some (k', y, ()) ∧ mkv_Msg y k k' ∧ k' ≤ k + (Ty.wt tMsg x : Nat) := by
  simp only [wt_st, wt_cons, wt_nil, wt_int, wt_bool, wt_str, Nat.add_zero] at hb ⊢
  simp only [cost_st, cost_cons, cost_nil, cost_int, cost_bool, cost_str, Nat.zero_add, Nat.add_zero] at hc
  generalize ew0 : Ty.wt (Ty.sl tEntry) x.2.2.2.2.2.2.2.2.1 = W0 at hb ⊢
  generalize ec0 : Ty.cost (Ty.sl tEntry) x.2.2.2.2.2.2.2.2.1 = C0 at hc
  generalize x.2.2.2.2.2.2.2.2.2.1.length = D0 at hc
  obtain ⟨k0, y0, h0, m0, l0⟩ := mark_EntryS x.2.2.2.2.2.2.2.2.1 k (by omega) (by rw [ew0]; omega) (by rw [ec0]; omega)
  have mm0 := Ty.Mk_mono _ m0
  rw [ew0] at l0
  have e : laws_markMsg (x, k, ()) = some (k0, (x.1, x.2.1, x.2.2.1, x.2.2.2.1, x.2.2.2.2.1, x.2.2.2.2.2.1, x.2.2.2.2.2.2.1, x.2.2.2.2.2.2.2.1, y0, x.2.2.2.2.2.2.2.2.2.1, ()), ()) := by
    show laws_markMsg_s x k = _
    unfold laws_markMsg_s
    simp only [h0, Option.bind_some]
  refine ⟨_, _, e, m0, by omega⟩
theorem mkv_Msg_mono {y : tMsg.D} {k k' : Int} (h : mkv_Msg y k k') : k ≤ k' := by
  unfold mkv_Msg at h
  have h0 := h
  have := Ty.Mk_mono _ h0
  omega

set_option maxHeartbeats 4000000 in
theorem mark_MsgS_step (m : Nat) (k : Int) (i : Nat) (x : (Ty.sl tMsg).D) (hi : i < x.length) (hl : x.length ≤ 1099511627776) (hk : 0 ≤ k) (hb : k + (Ty.wt tMsg (gd tMsg x i) : Nat) ≤ 1000000000000000) (hc : Ty.cost tMsg (gd tMsg x i) ≤ 1099511627776) :
    ∃ j y, laws_markMsgS_L2 (m + 1) k (i : Int) x = laws_markMsgS_L2 m j ((i : Int) + 1) (x.set i y) ∧ Ty.Mk mt tMsg y k j ∧ j ≤ k + (Ty.wt tMsg (gd tMsg x i) : Nat) := by
  simp only [wt_st, wt_cons, wt_nil, wt_int, wt_bool, wt_str, mk_st, mk_cons, mk_nil, mk_int, mk_bool, mk_str, Nat.add_zero] at hb ⊢
  simp only [cost_st, cost_cons, cost_nil, cost_int, cost_bool, cost_str, Nat.zero_add, Nat.add_zero] at hc
  generalize ew1 : Ty.wt (Ty.sl tEntry) (gd tMsg x i).2.2.2.2.2.2.2.2.1 = W1 at hb ⊢
  generalize ec1 : Ty.cost (Ty.sl tEntry) (gd tMsg x i).2.2.2.2.2.2.2.2.1 = C1 at hc
  generalize (gd tMsg x i).2.2.2.2.2.2.2.2.2.1.length = D20 at hc
  obtain ⟨k1, y1, h1, m1, l1⟩ := mark_EntryS (gd tMsg x i).2.2.2.2.2.2.2.2.1 (k + 8) (by omega) (by rw [ew1]; omega) (by rw [ec1]; omega)
  rw [ew1] at l1
  have mm1 := Ty.Mk_mono _ m1
  refine ⟨k1 + 1, (k, k + 1, k + 2, k + 3, k + 4, k + 5, k + 6, (Int.tmod (k + 7) 3 == 0), y1, mt (k1), ()), ?_, ⟨k + 1, ⟨rfl, by omega⟩, ⟨k + 2, ⟨rfl, by omega⟩, ⟨k + 3, ⟨rfl, by omega⟩, ⟨k + 4, ⟨rfl, by omega⟩, ⟨k + 5, ⟨rfl, by omega⟩, ⟨k + 6, ⟨rfl, by omega⟩, ⟨k + 7, ⟨rfl, by omega⟩, ⟨k + 8, ⟨rfl, by omega⟩, ⟨k1, m1, ⟨k1 + 1, ⟨rfl, by omega⟩, rfl⟩⟩⟩⟩⟩⟩⟩⟩⟩⟩, by omega⟩
  have hg : ∀ z : tMsg.D, gd tMsg (x.set i z) i = z := fun z => gd_set_same hi
  simp only [laws_markMsgS_L2]
  unfold laws_markMsgS_b2
  simp (disch := first | omega | (simp only [List.length_set]; omega)) only [lt_t, ix_nat, cond_true, Option.bind_some, Nat.zero_add, List.length_set, hg, List.set_set, w64_in, Int.add_assoc, Int.reduceAdd, laws_markText_mt, h1]
  unfold laws_markMsgS_b2_v2
  simp (disch := first | omega | (simp only [List.length_set]; omega)) only [lt_t, ix_nat, cond_true, Option.bind_some, Nat.zero_add, List.length_set, hg, List.set_set, w64_in, Int.add_assoc, Int.reduceAdd, laws_markText_mt, h1]
  unfold laws_markMsgS_b2_v4
  simp (disch := first | omega | (simp only [List.length_set]; omega)) only [lt_t, ix_nat, cond_true, Option.bind_some, Nat.zero_add, List.length_set, hg, List.set_set, w64_in, Int.add_assoc, Int.reduceAdd, laws_markText_mt, h1]
  unfold laws_markMsgS_b2_v6
  simp (disch := first | omega | (simp only [List.length_set]; omega)) only [lt_t, ix_nat, cond_true, Option.bind_some, Nat.zero_add, List.length_set, hg, List.set_set, w64_in, Int.add_assoc, Int.reduceAdd, laws_markText_mt, h1]
  unfold laws_markMsgS_b2_v8
  simp (disch := first | omega | (simp only [List.length_set]; omega)) only [lt_t, ix_nat, cond_true, Option.bind_some, Nat.zero_add, List.length_set, hg, List.set_set, w64_in, Int.add_assoc, Int.reduceAdd, laws_markText_mt, h1]
  unfold laws_markMsgS_b2_v10
  simp (disch := first | omega | (simp only [List.length_set]; omega)) only [lt_t, ix_nat, cond_true, Option.bind_some, Nat.zero_add, List.length_set, hg, List.set_set, w64_in, Int.add_assoc, Int.reduceAdd, laws_markText_mt, h1]
  unfold laws_markMsgS_b2_v12
  simp (disch := first | omega | (simp only [List.length_set]; omega)) only [lt_t, ix_nat, cond_true, Option.bind_some, Nat.zero_add, List.length_set, hg, List.set_set, w64_in, Int.add_assoc, Int.reduceAdd, laws_markText_mt, h1]
  unfold laws_markMsgS_b2_v14
  simp (disch := first | omega | (simp only [List.length_set]; omega)) only [lt_t, ix_nat, cond_true, Option.bind_some, Nat.zero_add, List.length_set, hg, List.set_set, w64_in, Int.add_assoc, Int.reduceAdd, laws_markText_mt, h1]
  unfold laws_markMsgS_b2_v16
  simp (disch := first | omega | (simp only [List.length_set]; omega)) only [lt_t, ix_nat, cond_true, Option.bind_some, Nat.zero_add, List.length_set, hg, List.set_set, w64_in, Int.add_assoc, Int.reduceAdd, laws_markText_mt, h1]
  unfold laws_markMsgS_b2_v19
  simp (disch := first | omega | (simp only [List.length_set]; omega)) only [lt_t, ix_nat, cond_true, Option.bind_some, Nat.zero_add, List.length_set, hg, List.set_set, w64_in, Int.add_assoc, Int.reduceAdd, laws_markText_mt, h1]
  unfold laws_markMsgS_b2_v22
  simp (disch := first | omega | (simp only [List.length_set]; omega)) only [lt_t, ix_nat, cond_true, Option.bind_some, Nat.zero_add, List.length_set, hg, List.set_set, w64_in, Int.add_assoc, Int.reduceAdd, laws_markText_mt, h1]

theorem mark_MsgS (x : (Ty.sl tMsg).D) (k : Int) (hk : 0 ≤ k) (hb : k + (Ty.wt (Ty.sl tMsg) x : Nat) ≤ 1000000000000000) (hc : Ty.cost (Ty.sl tMsg) x ≤ 1099511627776) :
    ∃ k' y, laws_markMsgS (x, k, ()) = some (k', y, ()) ∧ Ty.Mk mt (Ty.sl tMsg) y k k' ∧ k' ≤ k + (Ty.wt (Ty.sl tMsg) x : Nat) := by
  have hl : x.length ≤ 1099511627776 := by have := cost_len x; omega
  rw [wt_sl] at hb ⊢
  obtain ⟨k', y, h1, h2, _, h4, h5⟩ := mark_loop (mt := mt) (t := tMsg) x.length hl (fun m k i x => laws_markMsgS_L2 m k i x) (fun m k y hy => by
      simp only [laws_markMsgS_L2, laws_markMsgS_b2]; rw [lt_f (by omega)]; rfl) (fun m k i y hi hy hk hb hc => mark_MsgS_step m k i y (by omega) (by omega) hk hb hc) x.length 0 BIG k x (by omega) (by rw [BIG_eq]; omega) rfl hk (by simpa using hb) (fun z hz => by
      rw [List.drop_zero] at hz
      have h1 := sum_mem (f := fun y => Ty.cost tMsg y) hz
      rw [cost_sl] at hc
      omega)
  refine ⟨k', y, ?_, ?_, by simpa using h5⟩
  · show laws_markMsgS_s (laws_markMsgS_L2 BIG) x k = _
    unfold laws_markMsgS_s
    simpa using h1
  · rw [mk_sl]; exact ⟨by omega, by simpa using h4⟩

set_option maxHeartbeats 4000000 in
theorem held_EntryS_step (m : Nat) (k j : Int) (i : Nat) (x : (Ty.sl tEntry).D) (hi : i < x.length) (hl : x.length ≤ 1099511627776) (hk : 0 ≤ k) (hj : j ≤ 1000000000000000) (hm : Ty.Mk mt tEntry (gd tEntry x i) k j) :
    laws_heldEntryS_L2 (m + 1) x k (i : Int) = laws_heldEntryS_L2 m x j ((i : Int) + 1) := by
  have hkj := Ty.Mk_mono _ hm
  simp only [mk_st, mk_cons, mk_nil, mk_int, mk_bool, mk_str] at hm
  obtain ⟨_, ⟨e1, rfl⟩, _, ⟨e2, rfl⟩, rfl⟩ := hm
  simp only [Int.add_assoc, Int.reduceAdd] at *
  simp only [laws_heldEntryS_L2]
  unfold laws_heldEntryS_b2
  simp (disch := omega) only [lt_t, ix_nat, cond_true, cond_false, Option.bind_some, Nat.zero_add, w64_in, Int.add_assoc, Int.reduceAdd, laws_markText_mt, bne_self_eq_false, eqS_refl, Bool.not_true, beq_self_eq_true, dec_f, e1, e2]

theorem held_EntryS (x : (Ty.sl tEntry).D) (k k' : Int) (hk : 0 ≤ k) (hk' : k' ≤ 1000000000000000) (hm : Ty.Mk mt (Ty.sl tEntry) x k k') : laws_heldEntryS (x, k, ()) = some (k', ()) := by
  rw [mk_sl] at hm
  obtain ⟨hl, hm⟩ := hm
  have h1 := held_loop (mt := mt) (t := tEntry) x (fun m k i => laws_heldEntryS_L2 m x k i) (fun m k => by
      simp only [laws_heldEntryS_L2, laws_heldEntryS_b2]; rw [lt_f (Nat.le_refl _)]; rfl) (fun m k j i hi hk hj hm => held_EntryS_step m k j i x hi hl hk hj hm) x.length 0 BIG k k' (by omega) (by rw [BIG_eq]; omega) hk hk' (by simpa using hm)
  show laws_heldEntryS_s (laws_heldEntryS_L2 BIG) x k = _
  unfold laws_heldEntryS_s
  simpa using h1

set_option maxHeartbeats 4000000 in
theorem held_IntS_step (m : Nat) (k j : Int) (i : Nat) (x : (Ty.sl (.int .i64)).D) (hi : i < x.length) (hl : x.length ≤ 1099511627776) (hk : 0 ≤ k) (hj : j ≤ 1000000000000000) (hm : Ty.Mk mt (Ty.int .i64) (gd (Ty.int .i64) x i) k j) :
    laws_heldIntS_L2 (m + 1) x k (i : Int) = laws_heldIntS_L2 m x j ((i : Int) + 1) := by
  have hkj := Ty.Mk_mono _ hm
  simp only [mk_st, mk_cons, mk_nil, mk_int, mk_bool, mk_str] at hm
  obtain ⟨e1, rfl⟩ := hm
  simp only [laws_heldIntS_L2]
  unfold laws_heldIntS_b2
  simp (disch := omega) only [lt_t, ix_nat, cond_true, cond_false, Option.bind_some, Nat.zero_add, w64_in, Int.add_assoc, Int.reduceAdd, laws_markText_mt, bne_self_eq_false, eqS_refl, Bool.not_true, beq_self_eq_true, dec_f, e1]

theorem held_IntS (x : (Ty.sl (.int .i64)).D) (k k' : Int) (hk : 0 ≤ k) (hk' : k' ≤ 1000000000000000) (hm : Ty.Mk mt (Ty.sl (.int .i64)) x k k') : laws_heldIntS (x, k, ()) = some (k', ()) := by
  rw [mk_sl] at hm
  obtain ⟨hl, hm⟩ := hm
  have h1 := held_loop (mt := mt) (t := (Ty.int .i64)) x (fun m k i => laws_heldIntS_L2 m x k i) (fun m k => by
      simp only [laws_heldIntS_L2, laws_heldIntS_b2]; rw [lt_f (Nat.le_refl _)]; rfl) (fun m k j i hi hk hj hm => held_IntS_step m k j i x hi hl hk hj hm) x.length 0 BIG k k' (by omega) (by rw [BIG_eq]; omega) hk hk' (by simpa using hm)
  show laws_heldIntS_s (laws_heldIntS_L2 BIG) x k = _
  unfold laws_heldIntS_s
  simpa using h1

theorem held_Core (x : tCore.D) (k k' : Int) (hk : 0 ≤ k) (hk' : k' ≤ 1000000000000000) (hm : mkv_Core x k k') : laws_heldCore (x, k, ()) = some (k', ()) := by
  unfold mkv_Core at hm
  obtain ⟨j0, h0, j1, h1, j2, h2, h3⟩ := hm
  have g0 := Ty.Mk_mono _ h0
  have g1 := Ty.Mk_mono _ h1
  have g2 := Ty.Mk_mono _ h2
  have g3 := Ty.Mk_mono _ h3
  show laws_heldCore_s x k = _
  unfold laws_heldCore_s
  rw [held_EntryS _ _ _ (by omega) (by omega) h0]; simp only [Option.bind_some]; rw [dec_f (by omega)]; simp only [cond_false]
  rw [held_IntS _ _ _ (by omega) (by omega) h1]; simp only [Option.bind_some]; rw [dec_f (by omega)]; simp only [cond_false]
  rw [held_IntS _ _ _ (by omega) (by omega) h2]; simp only [Option.bind_some]; rw [dec_f (by omega)]; simp only [cond_false]
  rw [held_IntS _ _ _ (by omega) (by omega) h3]; simp only [Option.bind_some]; rw [dec_f (by omega)]; simp only [cond_false]

set_option maxHeartbeats 4000000 in
theorem held_MsgS_step (m : Nat) (k j : Int) (i : Nat) (x : (Ty.sl tMsg).D) (hi : i < x.length) (hl : x.length ≤ 1099511627776) (hk : 0 ≤ k) (hj : j ≤ 1000000000000000) (hm : Ty.Mk mt tMsg (gd tMsg x i) k j) :
    laws_heldMsgS_L2 (m + 1) x k (i : Int) = laws_heldMsgS_L2 m x j ((i : Int) + 1) := by
  have hkj := Ty.Mk_mono _ hm
  simp only [mk_st, mk_cons, mk_nil, mk_int, mk_bool, mk_str] at hm
  obtain ⟨_, ⟨e1, rfl⟩, _, ⟨e2, rfl⟩, _, ⟨e3, rfl⟩, _, ⟨e4, rfl⟩, _, ⟨e5, rfl⟩, _, ⟨e6, rfl⟩, _, ⟨e7, rfl⟩, _, ⟨e8, rfl⟩, _, m1, _, ⟨e9, rfl⟩, rfl⟩ := hm
  have mm1 := Ty.Mk_mono _ m1
  have h1 := held_EntryS _ _ _ (by omega) (by omega) m1
  simp only [Int.add_assoc, Int.reduceAdd] at *
  simp only [laws_heldMsgS_L2]
  unfold laws_heldMsgS_b2
  simp (disch := omega) only [lt_t, ix_nat, cond_true, cond_false, Option.bind_some, Nat.zero_add, w64_in, Int.add_assoc, Int.reduceAdd, laws_markText_mt, bne_self_eq_false, eqS_refl, Bool.not_true, beq_self_eq_true, dec_f, e1, e2, e3, e4, e5, e6, e7, e8, e9, h1]

theorem held_MsgS (x : (Ty.sl tMsg).D) (k k' : Int) (hk : 0 ≤ k) (hk' : k' ≤ 1000000000000000) (hm : Ty.Mk mt (Ty.sl tMsg) x k k') : laws_heldMsgS (x, k, ()) = some (k', ()) := by
  rw [mk_sl] at hm
  obtain ⟨hl, hm⟩ := hm
  have h1 := held_loop (mt := mt) (t := tMsg) x (fun m k i => laws_heldMsgS_L2 m x k i) (fun m k => by
      simp only [laws_heldMsgS_L2, laws_heldMsgS_b2]; rw [lt_f (Nat.le_refl _)]; rfl) (fun m k j i hi hk hj hm => held_MsgS_step m k j i x hi hl hk hj hm) x.length 0 BIG k k' (by omega) (by rw [BIG_eq]; omega) hk hk' (by simpa using hm)
  show laws_heldMsgS_s (laws_heldMsgS_L2 BIG) x k = _
  unfold laws_heldMsgS_s
  simpa using h1

end Go.LM.Pg
