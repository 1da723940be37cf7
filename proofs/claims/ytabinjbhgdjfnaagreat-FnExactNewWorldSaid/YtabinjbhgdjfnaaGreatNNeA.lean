/- Printed functions as they are evaluated. Conditions: none. -/
import Derived.Test.YtabinjbhgdjfnaaGreatNNwA
import Derived.Test.YtabinjbhgdjfnaaGreatNLmd
set_option linter.unusedVariables false
set_option linter.unusedSimpArgs false
namespace Go.LM.Ne
open Go.LM Go.LM.Nw
noncomputable section
@[reducible] def dup {α : Type} (a : Option α) : Option α := a
@[reducible] def both {α : Type} (a b : Option α) : Option α := a
/-! spec.l3Fold -/
def spec_l3Fold_s (k3 : spec_l3Fold_K3) (a1 : tStore.D) (a2 : Int) : Option (spec_l3Fold_R) :=
  (spec_l3Copy (a1.1, ())).bind fun v1 =>
  k3 a2 0 a1 (0, 0, (0, 0, ([] : List UInt8), ()), ([] : List tEntry.D), ()) v1.1
theorem q_spec_l3Fold_s : @Nw.spec_l3Fold_s = @Ne.spec_l3Fold_s := by
  unfold Nw.spec_l3Fold_s Ne.spec_l3Fold_s
  first | rfl | (simp only [Option.bind_some, LM.dup_eq, LM.both_same, Ne.dup, Ne.both]; done) | (simp only [Option.bind_some, LM.dup_eq, LM.both_same, Ne.dup, Ne.both]; rfl) | (simp only [Option.bind_some, LM.dup_eq, LM.both_same, Ne.dup, Ne.both]; funext a1 a2; exact LM.both_same _)
def spec_l3Fold_b3 (k3 : spec_l3Fold_K3) (x1 : Int) (x2 : Int) (x3 : tStore.D) (x4 : tKept.D) (x5 : tKept.D) : Option (spec_l3Fold_R) :=
  cond (decide (x2 < x1))
    (cond (decide (x2 < (x3.2.1.length : Int)))
      ((ix x3.2.1.length x2).bind fun v1 =>
      dup
        ((spec_l3Step (x5, gd tRec x3.2.1 v1, ())).bind fun v2 =>
        cond (!v2.2.1)
          (none)
          (k3 x1 (w64 (x2 + 1)) x3 x4 v2.1)))
      (some (x5, true, ())))
    (some (x5, true, ()))
theorem q_spec_l3Fold_b3 : @Nw.spec_l3Fold_b3 = @Ne.spec_l3Fold_b3 := by
  unfold Nw.spec_l3Fold_b3 Ne.spec_l3Fold_b3
  first | rfl | (simp only [Option.bind_some, LM.dup_eq, LM.both_same, Ne.dup, Ne.both]; done) | (simp only [Option.bind_some, LM.dup_eq, LM.both_same, Ne.dup, Ne.both]; rfl) | (simp only [Option.bind_some, LM.dup_eq, LM.both_same, Ne.dup, Ne.both]; funext a1 a2; exact LM.both_same _)
def spec_l3Fold_L3 : Nat → spec_l3Fold_K3
  | 0, _, _, _, _, _ => none
  | m + 1, x1, x2, x3, x4, x5 => spec_l3Fold_b3 (spec_l3Fold_L3 m) x1 x2 x3 x4 x5
theorem q_spec_l3Fold_L3 : ∀ m, @Nw.spec_l3Fold_L3 m = @Ne.spec_l3Fold_L3 m
  | 0 => rfl
  | m + 1 => by
    funext x0 x1 x2 x3 x4
    show _ = _
    simp only [Nw.spec_l3Fold_L3, Ne.spec_l3Fold_L3, q_spec_l3Fold_L3 m, q_spec_l3Fold_b3]
def spec_l3Fold (x : tStore.D × Int × Unit) : Option (spec_l3Fold_R) := spec_l3Fold_s (spec_l3Fold_L3 BIG) x.1 x.2.1
theorem q_spec_l3Fold : @Nw.spec_l3Fold = @Ne.spec_l3Fold := by
  unfold Nw.spec_l3Fold Ne.spec_l3Fold
  first | rfl | (simp only [Option.bind_some, LM.dup_eq, LM.both_same, Ne.dup, Ne.both, q_spec_l3Fold_s, q_spec_l3Fold_L3]; done) | (simp only [Option.bind_some, LM.dup_eq, LM.both_same, Ne.dup, Ne.both, q_spec_l3Fold_s, q_spec_l3Fold_L3]; rfl) | (simp only [Option.bind_some, LM.dup_eq, LM.both_same, Ne.dup, Ne.both, q_spec_l3Fold_s, q_spec_l3Fold_L3]; funext a1 a2; exact LM.both_same _)
/-! spec.StoreOk -/
def spec_StoreOk_s (a1 : tStore.D) : Option (Bool × Unit) :=
  (spec_KeptOk (a1.1, ())).bind fun v1 =>
  cond (!v1.1)
    (some (false, ()))
    (cond (decide ((a1.2.1.length : Int) > 80))
      (some (false, ()))
      ((spec_l3Fold (a1, (a1.2.1.length : Int), ())).bind fun v2 =>
      some (v2.2.1, ())))
theorem q_spec_StoreOk_s : @Nw.spec_StoreOk_s = @Ne.spec_StoreOk_s := by
  unfold Nw.spec_StoreOk_s Ne.spec_StoreOk_s
  first | rfl | (simp only [Option.bind_some, LM.dup_eq, LM.both_same, Ne.dup, Ne.both, q_spec_l3Fold]; done) | (simp only [Option.bind_some, LM.dup_eq, LM.both_same, Ne.dup, Ne.both, q_spec_l3Fold]; rfl) | (simp only [Option.bind_some, LM.dup_eq, LM.both_same, Ne.dup, Ne.both, q_spec_l3Fold]; funext a1 a2; exact LM.both_same _)
def spec_StoreOk (x : tStore.D × Unit) : Option (Bool × Unit) := spec_StoreOk_s x.1
theorem q_spec_StoreOk : @Nw.spec_StoreOk = @Ne.spec_StoreOk := by
  unfold Nw.spec_StoreOk Ne.spec_StoreOk
  first | rfl | (simp only [Option.bind_some, LM.dup_eq, LM.both_same, Ne.dup, Ne.both, q_spec_StoreOk_s]; done) | (simp only [Option.bind_some, LM.dup_eq, LM.both_same, Ne.dup, Ne.both, q_spec_StoreOk_s]; rfl) | (simp only [Option.bind_some, LM.dup_eq, LM.both_same, Ne.dup, Ne.both, q_spec_StoreOk_s]; funext a1 a2; exact LM.both_same _)
/-! spec.l13Kept -/
def spec_l13Kept_s_v1 (a1 : tCore.D) (a2 : List UInt8) (v1 : List tEntry.D) : Option (tKept.D × Unit) :=
  cond (a1.2.2.2.2.2.2.1 != 0)
    (some ((a1.2.2.1, a1.2.2.2.1, (a1.2.2.2.2.2.2.1, a1.2.2.2.2.2.2.2.1, a2, ()), v1, ()), ()))
    (some ((a1.2.2.1, a1.2.2.2.1, (0, 0, ([] : List UInt8), ()), v1, ()), ()))
theorem q_spec_l13Kept_s_v1 : @Nw.spec_l13Kept_s_v1 = @Ne.spec_l13Kept_s_v1 := by
  unfold Nw.spec_l13Kept_s_v1 Ne.spec_l13Kept_s_v1
  first | rfl | (simp only [Option.bind_some, LM.dup_eq, LM.both_same, Ne.dup, Ne.both]; done) | (simp only [Option.bind_some, LM.dup_eq, LM.both_same, Ne.dup, Ne.both]; rfl) | (simp only [Option.bind_some, LM.dup_eq, LM.both_same, Ne.dup, Ne.both]; funext a1 a2; exact LM.both_same _)
def spec_l13Kept_s_v2 (a1 : tCore.D) (a2 : List UInt8) (v2 : List tEntry.D) : Option (tKept.D × Unit) :=
  cond (a1.2.2.2.2.2.2.1 != 0)
    (some ((a1.2.2.1, a1.2.2.2.1, (a1.2.2.2.2.2.2.1, a1.2.2.2.2.2.2.2.1, a2, ()), v2, ()), ()))
    (some ((a1.2.2.1, a1.2.2.2.1, (0, 0, ([] : List UInt8), ()), v2, ()), ()))
theorem q_spec_l13Kept_s_v2 : @Nw.spec_l13Kept_s_v2 = @Ne.spec_l13Kept_s_v2 := by
  unfold Nw.spec_l13Kept_s_v2 Ne.spec_l13Kept_s_v2
  first | rfl | (simp only [Option.bind_some, LM.dup_eq, LM.both_same, Ne.dup, Ne.both]; done) | (simp only [Option.bind_some, LM.dup_eq, LM.both_same, Ne.dup, Ne.both]; rfl) | (simp only [Option.bind_some, LM.dup_eq, LM.both_same, Ne.dup, Ne.both]; funext a1 a2; exact LM.both_same _)
def spec_l13Kept_s (a1 : tCore.D) (a2 : List UInt8) : Option (tKept.D × Unit) :=
  both
    (dup
      (cond (room (([] : List tEntry.D).length + a1.2.2.2.2.2.2.2.2.1.length))
        (spec_l13Kept_s_v1 a1 a2 (([] : List tEntry.D) ++ a1.2.2.2.2.2.2.2.2.1))
        (none)))
    (cond (room (([] : List tEntry.D).length + a1.2.2.2.2.2.2.2.2.1.length))
      (spec_l13Kept_s_v2 a1 a2 (([] : List tEntry.D) ++ a1.2.2.2.2.2.2.2.2.1))
      (none))
theorem q_spec_l13Kept_s : @Nw.spec_l13Kept_s = @Ne.spec_l13Kept_s := by
  unfold Nw.spec_l13Kept_s Ne.spec_l13Kept_s
  first | rfl | (simp only [Option.bind_some, LM.dup_eq, LM.both_same, Ne.dup, Ne.both, q_spec_l13Kept_s_v1, q_spec_l13Kept_s_v2]; done) | (simp only [Option.bind_some, LM.dup_eq, LM.both_same, Ne.dup, Ne.both, q_spec_l13Kept_s_v1, q_spec_l13Kept_s_v2]; rfl) | (simp only [Option.bind_some, LM.dup_eq, LM.both_same, Ne.dup, Ne.both, q_spec_l13Kept_s_v1, q_spec_l13Kept_s_v2]; funext a1 a2; exact LM.both_same _)
def spec_l13Kept (x : tCore.D × (List UInt8) × Unit) : Option (tKept.D × Unit) := spec_l13Kept_s x.1 x.2.1
theorem q_spec_l13Kept : @Nw.spec_l13Kept = @Ne.spec_l13Kept := by
  unfold Nw.spec_l13Kept Ne.spec_l13Kept
  first | rfl | (simp only [Option.bind_some, LM.dup_eq, LM.both_same, Ne.dup, Ne.both, q_spec_l13Kept_s]; done) | (simp only [Option.bind_some, LM.dup_eq, LM.both_same, Ne.dup, Ne.both, q_spec_l13Kept_s]; rfl) | (simp only [Option.bind_some, LM.dup_eq, LM.both_same, Ne.dup, Ne.both, q_spec_l13Kept_s]; funext a1 a2; exact LM.both_same _)
/-! spec.CoreOk -/
def spec_CoreOk_s (k : spec_CoreOk_K) (a1 : tCore.D) : Option (Bool × Unit) :=
  (spec_l1In (a1.2.1, 1, 5, ())).bind fun v1 =>
  cond (!v1.1)
    (some (false, ()))
    ((spec_l1In (a1.1, 0, w64 (a1.2.1 - 1), ())).bind fun v2 =>
    cond (!v2.1)
      (some (false, ()))
      (cond (a1.2.2.2.2.2.2.1 == 0)
        (cond (a1.2.2.2.2.2.2.2.1 != 0)
          (some (false, ()))
          ((spec_l13Kept (a1, ([] : List UInt8), ())).bind fun v3 =>
          (spec_KeptOk (v3.1, ())).bind fun v4 =>
          cond (!v4.1)
            (some (false, ()))
            (cond (decide (a1.2.2.2.1 ≥ a1.2.1))
              (some (false, ()))
              ((spec_l13Last (a1, ())).bind fun v5 =>
              (spec_l1In (a1.2.2.2.2.2.2.2.2.2.1, a1.2.2.2.2.2.2.1, v5.1, ())).bind fun v6 =>
              cond (!v6.1)
                (some (false, ()))
                (k.k3 a1)))))
        ((spec_l13Kept (a1, ([] : List UInt8), ())).bind fun v7 =>
        (spec_KeptOk (v7.1, ())).bind fun v8 =>
        cond (!v8.1)
          (some (false, ()))
          (cond (decide (a1.2.2.2.1 ≥ a1.2.1))
            (some (false, ()))
            ((spec_l13Last (a1, ())).bind fun v9 =>
            (spec_l1In (a1.2.2.2.2.2.2.2.2.2.1, a1.2.2.2.2.2.2.1, v9.1, ())).bind fun v10 =>
            cond (!v10.1)
              (some (false, ()))
              (k.k3 a1))))))
theorem q_spec_CoreOk_s : @Nw.spec_CoreOk_s = @Ne.spec_CoreOk_s := by
  unfold Nw.spec_CoreOk_s Ne.spec_CoreOk_s
  first | rfl | (simp only [Option.bind_some, LM.dup_eq, LM.both_same, Ne.dup, Ne.both, q_spec_l13Kept]; done) | (simp only [Option.bind_some, LM.dup_eq, LM.both_same, Ne.dup, Ne.both, q_spec_l13Kept]; rfl) | (simp only [Option.bind_some, LM.dup_eq, LM.both_same, Ne.dup, Ne.both, q_spec_l13Kept]; funext a1 a2; exact LM.both_same _)
def spec_CoreOk_b3 (k : spec_CoreOk_K) (x1 : tCore.D) : Option (Bool × Unit) :=
  cond (x1.2.2.2.2.1 == 1)
    ((spec_l1In (x1.2.2.2.2.2.1, (-1), w64 (x1.2.1 - 1), ())).bind fun v1 =>
    cond v1.1
      (cond (x1.2.2.2.2.2.1 != x1.1)
        (cond ((x1.2.2.2.2.2.2.2.2.2.2.1.length : Int) == 0)
          (cond ((x1.2.2.2.2.2.2.2.2.2.2.2.1.length : Int) == 0)
            (some ((x1.2.2.2.2.2.2.2.2.2.2.2.2.1.length : Int) == 0, ()))
            (some (false, ())))
          (some (false, ())))
        (some (false, ())))
      (some (false, ())))
    (cond (x1.2.2.2.2.1 == 2)
      (k.k8 0 x1)
      (cond (x1.2.2.2.2.1 == 3)
        (cond (decide (x1.2.2.1 < 1))
          (some (false, ()))
          (cond (x1.2.2.2.1 != x1.1)
            (some (false, ()))
            (cond (x1.2.2.2.2.2.1 != x1.1)
              (some (false, ()))
              (cond (decide ((x1.2.2.2.2.2.2.2.2.2.2.1.length : Int) > 0))
                (some (false, ()))
                (cond ((x1.2.2.2.2.2.2.2.2.2.2.2.1.length : Int) != x1.2.1)
                  (some (false, ()))
                  (cond ((x1.2.2.2.2.2.2.2.2.2.2.2.2.1.length : Int) != x1.2.1)
                    (some (false, ()))
                    ((ix x1.2.2.2.2.2.2.2.2.2.2.2.2.1.length x1.1).bind fun v2 =>
                    (spec_l13Last (x1, ())).bind fun v3 =>
                    cond (gd (Ty.int .i64) x1.2.2.2.2.2.2.2.2.2.2.2.2.1 v2 != v3.1)
                      (some (false, ()))
                      (k.k17 0 x1))))))))
        (some (false, ()))))
theorem q_spec_CoreOk_b3 : @Nw.spec_CoreOk_b3 = @Ne.spec_CoreOk_b3 := by
  unfold Nw.spec_CoreOk_b3 Ne.spec_CoreOk_b3
  first | rfl | (simp only [Option.bind_some, LM.dup_eq, LM.both_same, Ne.dup, Ne.both]; done) | (simp only [Option.bind_some, LM.dup_eq, LM.both_same, Ne.dup, Ne.both]; rfl) | (simp only [Option.bind_some, LM.dup_eq, LM.both_same, Ne.dup, Ne.both]; funext a1 a2; exact LM.both_same _)
def spec_CoreOk_b8 (k : spec_CoreOk_K) (x1 : Int) (x2 : tCore.D) : Option (Bool × Unit) :=
  cond (decide (x1 < (x2.2.2.2.2.2.2.2.2.2.2.1.length : Int)))
    ((ix x2.2.2.2.2.2.2.2.2.2.2.1.length x1).bind fun v1 =>
    (spec_l1In (gd (Ty.int .i64) x2.2.2.2.2.2.2.2.2.2.2.1 v1, 0, w64 (x2.2.1 - 1), ())).bind fun v2 =>
    cond (!v2.1)
      (some (false, ()))
      (cond (decide (x1 > 0))
        ((ix x2.2.2.2.2.2.2.2.2.2.2.1.length (w64 (x1 - 1))).bind fun v3 =>
        (ix x2.2.2.2.2.2.2.2.2.2.2.1.length x1).bind fun v4 =>
        cond (decide (gd (Ty.int .i64) x2.2.2.2.2.2.2.2.2.2.2.1 v3 ≥ gd (Ty.int .i64) x2.2.2.2.2.2.2.2.2.2.2.1 v4))
          (some (false, ()))
          (k.k8 (w64 (x1 + 1)) x2))
        (k.k8 (w64 (x1 + 1)) x2)))
    (cond (decide (x2.2.2.1 ≥ 1))
      (cond (x2.2.2.2.1 == x2.1)
        (cond (x2.2.2.2.2.2.1 == (-1))
          ((spec_l13In (x2.2.2.2.2.2.2.2.2.2.2.1, x2.1, ())).bind fun v5 =>
          cond v5.1
            (cond (decide (w64 (2 * (x2.2.2.2.2.2.2.2.2.2.2.1.length : Int)) ≤ x2.2.1))
              (cond ((x2.2.2.2.2.2.2.2.2.2.2.2.1.length : Int) == 0)
                (some ((x2.2.2.2.2.2.2.2.2.2.2.2.2.1.length : Int) == 0, ()))
                (some (false, ())))
              (some (false, ())))
            (some (false, ())))
          (some (false, ())))
        (some (false, ())))
      (some (false, ())))
theorem q_spec_CoreOk_b8 : @Nw.spec_CoreOk_b8 = @Ne.spec_CoreOk_b8 := by
  unfold Nw.spec_CoreOk_b8 Ne.spec_CoreOk_b8
  first | rfl | (simp only [Option.bind_some, LM.dup_eq, LM.both_same, Ne.dup, Ne.both]; done) | (simp only [Option.bind_some, LM.dup_eq, LM.both_same, Ne.dup, Ne.both]; rfl) | (simp only [Option.bind_some, LM.dup_eq, LM.both_same, Ne.dup, Ne.both]; funext a1 a2; exact LM.both_same _)
def spec_CoreOk_b17 (k : spec_CoreOk_K) (x1 : Int) (x2 : tCore.D) : Option (Bool × Unit) :=
  cond (decide (x1 < x2.2.1))
    ((ix x2.2.2.2.2.2.2.2.2.2.2.2.2.1.length x1).bind fun v1 =>
    cond (decide (gd (Ty.int .i64) x2.2.2.2.2.2.2.2.2.2.2.2.2.1 v1 < 0))
      (some (false, ()))
      ((ix x2.2.2.2.2.2.2.2.2.2.2.2.1.length x1).bind fun v2 =>
      (ix x2.2.2.2.2.2.2.2.2.2.2.2.2.1.length x1).bind fun v3 =>
      cond (decide (gd (Ty.int .i64) x2.2.2.2.2.2.2.2.2.2.2.2.1 v2 ≤ gd (Ty.int .i64) x2.2.2.2.2.2.2.2.2.2.2.2.2.1 v3))
        (some (false, ()))
        ((ix x2.2.2.2.2.2.2.2.2.2.2.2.1.length x1).bind fun v4 =>
        (spec_l13Last (x2, ())).bind fun v5 =>
        cond (decide (gd (Ty.int .i64) x2.2.2.2.2.2.2.2.2.2.2.2.1 v4 > w64 (v5.1 + 1)))
          (some (false, ()))
          (k.k17 (w64 (x1 + 1)) x2))))
    (some (true, ()))
theorem q_spec_CoreOk_b17 : @Nw.spec_CoreOk_b17 = @Ne.spec_CoreOk_b17 := by
  unfold Nw.spec_CoreOk_b17 Ne.spec_CoreOk_b17
  first | rfl | (simp only [Option.bind_some, LM.dup_eq, LM.both_same, Ne.dup, Ne.both]; done) | (simp only [Option.bind_some, LM.dup_eq, LM.both_same, Ne.dup, Ne.both]; rfl) | (simp only [Option.bind_some, LM.dup_eq, LM.both_same, Ne.dup, Ne.both]; funext a1 a2; exact LM.both_same _)
def spec_CoreOk_N (k : spec_CoreOk_K) : spec_CoreOk_K := ⟨spec_CoreOk_b3 k, spec_CoreOk_b8 k, spec_CoreOk_b17 k⟩
theorem q_spec_CoreOk_N : @Nw.spec_CoreOk_N = @Ne.spec_CoreOk_N := by
  unfold Nw.spec_CoreOk_N Ne.spec_CoreOk_N
  first | rfl | (simp only [Option.bind_some, LM.dup_eq, LM.both_same, Ne.dup, Ne.both, q_spec_CoreOk_b3, q_spec_CoreOk_b8, q_spec_CoreOk_b17]; done) | (simp only [Option.bind_some, LM.dup_eq, LM.both_same, Ne.dup, Ne.both, q_spec_CoreOk_b3, q_spec_CoreOk_b8, q_spec_CoreOk_b17]; rfl) | (simp only [Option.bind_some, LM.dup_eq, LM.both_same, Ne.dup, Ne.both, q_spec_CoreOk_b3, q_spec_CoreOk_b8, q_spec_CoreOk_b17]; funext a1 a2; exact LM.both_same _)
def spec_CoreOk_L : Nat → spec_CoreOk_K := iterK spec_CoreOk_N ⟨fun _ => none, fun _ _ => none, fun _ _ => none⟩
theorem q_spec_CoreOk_L : @Nw.spec_CoreOk_L = @Ne.spec_CoreOk_L := by
  unfold Nw.spec_CoreOk_L Ne.spec_CoreOk_L
  first | rfl | (simp only [Option.bind_some, LM.dup_eq, LM.both_same, Ne.dup, Ne.both, q_spec_CoreOk_N]; done) | (simp only [Option.bind_some, LM.dup_eq, LM.both_same, Ne.dup, Ne.both, q_spec_CoreOk_N]; rfl) | (simp only [Option.bind_some, LM.dup_eq, LM.both_same, Ne.dup, Ne.both, q_spec_CoreOk_N]; funext a1 a2; exact LM.both_same _)
def spec_CoreOk (x : tCore.D × Unit) : Option (Bool × Unit) := spec_CoreOk_s (spec_CoreOk_L BIG) x.1
theorem q_spec_CoreOk : @Nw.spec_CoreOk = @Ne.spec_CoreOk := by
  unfold Nw.spec_CoreOk Ne.spec_CoreOk
  first | rfl | (simp only [Option.bind_some, LM.dup_eq, LM.both_same, Ne.dup, Ne.both, q_spec_CoreOk_s, q_spec_CoreOk_L]; done) | (simp only [Option.bind_some, LM.dup_eq, LM.both_same, Ne.dup, Ne.both, q_spec_CoreOk_s, q_spec_CoreOk_L]; rfl) | (simp only [Option.bind_some, LM.dup_eq, LM.both_same, Ne.dup, Ne.both, q_spec_CoreOk_s, q_spec_CoreOk_L]; funext a1 a2; exact LM.both_same _)
/-! spec.NodeOk -/
def spec_NodeOk_s (k : spec_NodeOk_K) (a1 : tNode.D) : Option (Bool × Unit) :=
  (spec_l1In (a1.2.1, 1, 5, ())).bind fun v1 =>
  cond (!v1.1)
    (some (false, ()))
    ((spec_l1In (a1.1, 0, w64 (a1.2.1 - 1), ())).bind fun v2 =>
    cond (!v2.1)
      (some (false, ()))
      ((spec_StoreOk (a1.2.2.2.2.2.2.1, ())).bind fun v3 =>
      cond (!v3.1)
        (some (false, ()))
        (cond (decide ((a1.2.2.2.2.2.2.1.2.1.length : Int) > 0))
          (some (false, ()))
          ((spec_l1In (a1.2.2.2.2.2.2.2.2.1, (-1), 100, ())).bind fun v4 =>
          cond (!v4.1)
            (some (false, ()))
            ((spec_l1In (a1.2.2.2.2.2.2.2.2.2.1, 0, 80, ())).bind fun v5 =>
            cond (!v5.1)
              (some (false, ()))
              (cond (a1.2.2.2.2.2.2.2.2.1 == (-1))
                (cond (a1.2.2.2.2.2.2.2.2.2.1 != 0)
                  (some (false, ()))
                  (k.k3 a1))
                (k.k3 a1)))))))
theorem q_spec_NodeOk_s : @Nw.spec_NodeOk_s = @Ne.spec_NodeOk_s := by
  unfold Nw.spec_NodeOk_s Ne.spec_NodeOk_s
  first | rfl | (simp only [Option.bind_some, LM.dup_eq, LM.both_same, Ne.dup, Ne.both, q_spec_StoreOk]; done) | (simp only [Option.bind_some, LM.dup_eq, LM.both_same, Ne.dup, Ne.both, q_spec_StoreOk]; rfl) | (simp only [Option.bind_some, LM.dup_eq, LM.both_same, Ne.dup, Ne.both, q_spec_StoreOk]; funext a1 a2; exact LM.both_same _)
def spec_NodeOk_b3 (k : spec_NodeOk_K) (x1 : tNode.D) : Option (Bool × Unit) :=
  cond (!x1.2.2.1)
    ((spec_l14ZeroCore (x1.2.2.2.1, ())).bind fun v1 =>
    cond v1.1
      (cond ((x1.2.2.2.2.1.length : Int) == 0)
        (cond ((x1.2.2.2.2.2.1.1 == 0) && ((x1.2.2.2.2.2.1.2.1 == 0) && (eqS x1.2.2.2.2.2.1.2.2.1 ([] : List UInt8) && true)))
          (cond ((x1.2.2.2.2.2.2.2.1.length : Int) == 0)
            (some (x1.2.2.2.2.2.2.2.2.1 == (-1), ()))
            (some (false, ())))
          (some (false, ())))
        (some (false, ())))
      (some (false, ())))
    ((spec_CoreOk (x1.2.2.2.1, ())).bind fun v2 =>
    cond (!v2.1)
      (some (false, ()))
      (cond (x1.2.2.2.1.1 != x1.1)
        (some (false, ()))
        (cond (x1.2.2.2.1.2.1 != x1.2.1)
          (some (false, ()))
          ((spec_StateOk (x1.2.2.2.2.1, ())).bind fun v3 =>
          cond (!v3.1)
            (some (false, ()))
            (cond (x1.2.2.2.2.2.1.1 != x1.2.2.2.1.2.2.2.2.2.2.1)
              (some (false, ()))
              (cond (x1.2.2.2.2.2.1.2.1 != x1.2.2.2.1.2.2.2.2.2.2.2.1)
                (some (false, ()))
                (cond (x1.2.2.2.1.2.2.2.2.2.2.1 == 0)
                  (cond (!(eqS x1.2.2.2.2.2.1.2.2.1 ([] : List UInt8)))
                    (some (false, ()))
                    (k.k8 x1 x1.2.2.2.1))
                  (k.k8 x1 x1.2.2.2.1))))))))
theorem q_spec_NodeOk_b3 : @Nw.spec_NodeOk_b3 = @Ne.spec_NodeOk_b3 := by
  unfold Nw.spec_NodeOk_b3 Ne.spec_NodeOk_b3
  first | rfl | (simp only [Option.bind_some, LM.dup_eq, LM.both_same, Ne.dup, Ne.both, q_spec_CoreOk]; done) | (simp only [Option.bind_some, LM.dup_eq, LM.both_same, Ne.dup, Ne.both, q_spec_CoreOk]; rfl) | (simp only [Option.bind_some, LM.dup_eq, LM.both_same, Ne.dup, Ne.both, q_spec_CoreOk]; funext a1 a2; exact LM.both_same _)
def spec_NodeOk_b8 (k : spec_NodeOk_K) (x1 : tNode.D) (x2 : tCore.D) : Option (Bool × Unit) :=
  cond (decide (x2.2.2.2.2.2.2.1 > 0))
    ((spec_ReadState (x1.2.2.2.2.2.1.2.2.1, ())).bind fun v1 =>
    cond (!v1.2.1)
      (some (false, ()))
      (k.k12 x1 x2))
    (k.k12 x1 x2)
theorem q_spec_NodeOk_b8 : @Nw.spec_NodeOk_b8 = @Ne.spec_NodeOk_b8 := by
  unfold Nw.spec_NodeOk_b8 Ne.spec_NodeOk_b8
  first | rfl | (simp only [Option.bind_some, LM.dup_eq, LM.both_same, Ne.dup, Ne.both]; done) | (simp only [Option.bind_some, LM.dup_eq, LM.both_same, Ne.dup, Ne.both]; rfl) | (simp only [Option.bind_some, LM.dup_eq, LM.both_same, Ne.dup, Ne.both]; funext a1 a2; exact LM.both_same _)
def spec_NodeOk_b12 (k : spec_NodeOk_K) (x1 : tNode.D) (x2 : tCore.D) : Option (Bool × Unit) :=
  cond (x2.2.2.2.2.1 != 3)
    (cond (decide ((x1.2.2.2.2.2.2.2.1.length : Int) > 0))
      (some (false, ()))
      ((spec_l11Grouped (x1.2.2.2.2.2.2.2.1, 4, ())).bind fun v1 =>
      cond (!v1.1)
        (some (false, ()))
        (k.k14 x1 x2)))
    ((spec_l11Grouped (x1.2.2.2.2.2.2.2.1, 4, ())).bind fun v2 =>
    cond (!v2.1)
      (some (false, ()))
      (k.k14 x1 x2))
theorem q_spec_NodeOk_b12 : @Nw.spec_NodeOk_b12 = @Ne.spec_NodeOk_b12 := by
  unfold Nw.spec_NodeOk_b12 Ne.spec_NodeOk_b12
  first | rfl | (simp only [Option.bind_some, LM.dup_eq, LM.both_same, Ne.dup, Ne.both]; done) | (simp only [Option.bind_some, LM.dup_eq, LM.both_same, Ne.dup, Ne.both]; rfl) | (simp only [Option.bind_some, LM.dup_eq, LM.both_same, Ne.dup, Ne.both]; funext a1 a2; exact LM.both_same _)
def spec_NodeOk_b14 (k : spec_NodeOk_K) (x1 : tNode.D) (x2 : tCore.D) : Option (Bool × Unit) :=
  (spec_l13Kept (x2, x1.2.2.2.2.2.1.2.2.1, ())).bind fun v1 =>
  (spec_l14SameKept (x1.2.2.2.2.2.2.1.1, v1.1, ())).bind fun v2 =>
  some (v2.1, ())
theorem q_spec_NodeOk_b14 : @Nw.spec_NodeOk_b14 = @Ne.spec_NodeOk_b14 := by
  unfold Nw.spec_NodeOk_b14 Ne.spec_NodeOk_b14
  first | rfl | (simp only [Option.bind_some, LM.dup_eq, LM.both_same, Ne.dup, Ne.both, q_spec_l13Kept]; done) | (simp only [Option.bind_some, LM.dup_eq, LM.both_same, Ne.dup, Ne.both, q_spec_l13Kept]; rfl) | (simp only [Option.bind_some, LM.dup_eq, LM.both_same, Ne.dup, Ne.both, q_spec_l13Kept]; funext a1 a2; exact LM.both_same _)
def spec_NodeOk_N (k : spec_NodeOk_K) : spec_NodeOk_K := ⟨spec_NodeOk_b3 k, spec_NodeOk_b8 k, spec_NodeOk_b12 k, spec_NodeOk_b14 k⟩
theorem q_spec_NodeOk_N : @Nw.spec_NodeOk_N = @Ne.spec_NodeOk_N := by
  unfold Nw.spec_NodeOk_N Ne.spec_NodeOk_N
  first | rfl | (simp only [Option.bind_some, LM.dup_eq, LM.both_same, Ne.dup, Ne.both, q_spec_NodeOk_b3, q_spec_NodeOk_b8, q_spec_NodeOk_b12, q_spec_NodeOk_b14]; done) | (simp only [Option.bind_some, LM.dup_eq, LM.both_same, Ne.dup, Ne.both, q_spec_NodeOk_b3, q_spec_NodeOk_b8, q_spec_NodeOk_b12, q_spec_NodeOk_b14]; rfl) | (simp only [Option.bind_some, LM.dup_eq, LM.both_same, Ne.dup, Ne.both, q_spec_NodeOk_b3, q_spec_NodeOk_b8, q_spec_NodeOk_b12, q_spec_NodeOk_b14]; funext a1 a2; exact LM.both_same _)
def spec_NodeOk_L : Nat → spec_NodeOk_K := iterK spec_NodeOk_N ⟨fun _ => none, fun _ _ => none, fun _ _ => none, fun _ _ => none⟩
theorem q_spec_NodeOk_L : @Nw.spec_NodeOk_L = @Ne.spec_NodeOk_L := by
  unfold Nw.spec_NodeOk_L Ne.spec_NodeOk_L
  first | rfl | (simp only [Option.bind_some, LM.dup_eq, LM.both_same, Ne.dup, Ne.both, q_spec_NodeOk_N]; done) | (simp only [Option.bind_some, LM.dup_eq, LM.both_same, Ne.dup, Ne.both, q_spec_NodeOk_N]; rfl) | (simp only [Option.bind_some, LM.dup_eq, LM.both_same, Ne.dup, Ne.both, q_spec_NodeOk_N]; funext a1 a2; exact LM.both_same _)
def spec_NodeOk (x : tNode.D × Unit) : Option (Bool × Unit) := spec_NodeOk_s (spec_NodeOk_L BIG) x.1
theorem q_spec_NodeOk : @Nw.spec_NodeOk = @Ne.spec_NodeOk := by
  unfold Nw.spec_NodeOk Ne.spec_NodeOk
  first | rfl | (simp only [Option.bind_some, LM.dup_eq, LM.both_same, Ne.dup, Ne.both, q_spec_NodeOk_s, q_spec_NodeOk_L]; done) | (simp only [Option.bind_some, LM.dup_eq, LM.both_same, Ne.dup, Ne.both, q_spec_NodeOk_s, q_spec_NodeOk_L]; rfl) | (simp only [Option.bind_some, LM.dup_eq, LM.both_same, Ne.dup, Ne.both, q_spec_NodeOk_s, q_spec_NodeOk_L]; funext a1 a2; exact LM.both_same _)
/-! spec.CoreOf -/
def spec_CoreOf_s (k2 : spec_CoreOf_K2) (a1 : Int) (a2 : Int) (a3 : tKept.D) : Option (spec_CoreOf_R) :=
  both
    (dup
      (cond (room (([] : List tEntry.D).length + a3.2.2.2.1.length))
        (k2 a3 (0, 0, 0, 0, 0, 0, 0, 0, ([] : List tEntry.D), 0, ([] : List Int), ([] : List Int), ([] : List Int), ()) (a1, a2, a3.1, a3.2.1, 1, (-1), a3.2.2.1.1, a3.2.2.1.2.1, ([] : List tEntry.D) ++ a3.2.2.2.1, a3.2.2.1.1, ([] : List Int), ([] : List Int), ([] : List Int), ()))
        (none)))
    (cond (room (([] : List tEntry.D).length + a3.2.2.2.1.length))
      (k2 a3 (0, 0, 0, 0, 0, 0, 0, 0, ([] : List tEntry.D), 0, ([] : List Int), ([] : List Int), ([] : List Int), ()) (a1, a2, a3.1, a3.2.1, 1, (-1), a3.2.2.1.1, a3.2.2.1.2.1, ([] : List tEntry.D) ++ a3.2.2.2.1, a3.2.2.1.1, ([] : List Int), ([] : List Int), ([] : List Int), ()))
      (none))
theorem q_spec_CoreOf_s : @Nw.spec_CoreOf_s = @Ne.spec_CoreOf_s := by
  unfold Nw.spec_CoreOf_s Ne.spec_CoreOf_s
  first | rfl | (simp only [Option.bind_some, LM.dup_eq, LM.both_same, Ne.dup, Ne.both]; done) | (simp only [Option.bind_some, LM.dup_eq, LM.both_same, Ne.dup, Ne.both]; rfl) | (simp only [Option.bind_some, LM.dup_eq, LM.both_same, Ne.dup, Ne.both]; funext a1 a2; exact LM.both_same _)
def spec_CoreOf_b2 (k2 : spec_CoreOf_K2) (x1 : tKept.D) (x2 : tCore.D) (x3 : tCore.D) : Option (spec_CoreOf_R) :=
  (spec_KeptOk (x1, ())).bind fun v1 =>
  cond (!v1.1)
    (some ((0, 0, 0, 0, 0, 0, 0, 0, ([] : List tEntry.D), 0, ([] : List Int), ([] : List Int), ([] : List Int), ()), false, ()))
    ((spec_CoreOk (x3, ())).bind fun v2 =>
    cond (!v2.1)
      (some ((0, 0, 0, 0, 0, 0, 0, 0, ([] : List tEntry.D), 0, ([] : List Int), ([] : List Int), ([] : List Int), ()), false, ()))
      (some (x3, true, ())))
theorem q_spec_CoreOf_b2 : @Nw.spec_CoreOf_b2 = @Ne.spec_CoreOf_b2 := by
  unfold Nw.spec_CoreOf_b2 Ne.spec_CoreOf_b2
  first | rfl | (simp only [Option.bind_some, LM.dup_eq, LM.both_same, Ne.dup, Ne.both, q_spec_CoreOk]; done) | (simp only [Option.bind_some, LM.dup_eq, LM.both_same, Ne.dup, Ne.both, q_spec_CoreOk]; rfl) | (simp only [Option.bind_some, LM.dup_eq, LM.both_same, Ne.dup, Ne.both, q_spec_CoreOk]; funext a1 a2; exact LM.both_same _)
def spec_CoreOf_L2 : Nat → spec_CoreOf_K2
  | 0, _, _, _ => none
  | m + 1, x1, x2, x3 => spec_CoreOf_b2 (spec_CoreOf_L2 m) x1 x2 x3
theorem q_spec_CoreOf_L2 : ∀ m, @Nw.spec_CoreOf_L2 m = @Ne.spec_CoreOf_L2 m
  | 0 => rfl
  | m + 1 => by
    funext x0 x1 x2
    show _ = _
    simp only [Nw.spec_CoreOf_L2, Ne.spec_CoreOf_L2, q_spec_CoreOf_L2 m, q_spec_CoreOf_b2]
def spec_CoreOf (x : Int × Int × tKept.D × Unit) : Option (spec_CoreOf_R) := spec_CoreOf_s (spec_CoreOf_L2 BIG) x.1 x.2.1 x.2.2.1
theorem q_spec_CoreOf : @Nw.spec_CoreOf = @Ne.spec_CoreOf := by
  unfold Nw.spec_CoreOf Ne.spec_CoreOf
  first | rfl | (simp only [Option.bind_some, LM.dup_eq, LM.both_same, Ne.dup, Ne.both, q_spec_CoreOf_s, q_spec_CoreOf_L2]; done) | (simp only [Option.bind_some, LM.dup_eq, LM.both_same, Ne.dup, Ne.both, q_spec_CoreOf_s, q_spec_CoreOf_L2]; rfl) | (simp only [Option.bind_some, LM.dup_eq, LM.both_same, Ne.dup, Ne.both, q_spec_CoreOf_s, q_spec_CoreOf_L2]; funext a1 a2; exact LM.both_same _)
/-! spec.l14Rise -/
def spec_l14Rise_s (a1 : tNode.D) : Option (spec_l14Rise_R) :=
  cond a1.2.2.1
    (some (a1, false, ()))
    ((spec_CoreOf (a1.1, a1.2.1, a1.2.2.2.2.2.2.1.1, ())).bind fun v1 =>
    (spec_NewState ()).bind fun v2 =>
    cond (decide (a1.2.2.2.2.2.2.1.1.2.2.1.1 > 0))
      ((spec_ReadState (a1.2.2.2.2.2.2.1.1.2.2.1.2.2.1, ())).bind fun v3 =>
      cond v1.2.1
        (cond (!v3.2.1)
          (some (a1, false, ()))
          (some ((a1.1, a1.2.1, true, v1.1, v3.1, a1.2.2.2.2.2.2.1.1.2.2.1, a1.2.2.2.2.2.2.1, a1.2.2.2.2.2.2.2.1, a1.2.2.2.2.2.2.2.2.1, a1.2.2.2.2.2.2.2.2.2.1, ()), true, ())))
        (some (a1, false, ())))
      (cond (!v1.2.1)
        (some (a1, false, ()))
        (some ((a1.1, a1.2.1, true, v1.1, v2.1, a1.2.2.2.2.2.2.1.1.2.2.1, a1.2.2.2.2.2.2.1, a1.2.2.2.2.2.2.2.1, a1.2.2.2.2.2.2.2.2.1, a1.2.2.2.2.2.2.2.2.2.1, ()), true, ()))))
theorem q_spec_l14Rise_s : @Nw.spec_l14Rise_s = @Ne.spec_l14Rise_s := by
  unfold Nw.spec_l14Rise_s Ne.spec_l14Rise_s
  first | rfl | (simp only [Option.bind_some, LM.dup_eq, LM.both_same, Ne.dup, Ne.both, q_spec_CoreOf]; done) | (simp only [Option.bind_some, LM.dup_eq, LM.both_same, Ne.dup, Ne.both, q_spec_CoreOf]; rfl) | (simp only [Option.bind_some, LM.dup_eq, LM.both_same, Ne.dup, Ne.both, q_spec_CoreOf]; funext a1 a2; exact LM.both_same _)
def spec_l14Rise (x : tNode.D × Unit) : Option (spec_l14Rise_R) := spec_l14Rise_s x.1
theorem q_spec_l14Rise : @Nw.spec_l14Rise = @Ne.spec_l14Rise := by
  unfold Nw.spec_l14Rise Ne.spec_l14Rise
  first | rfl | (simp only [Option.bind_some, LM.dup_eq, LM.both_same, Ne.dup, Ne.both, q_spec_l14Rise_s]; done) | (simp only [Option.bind_some, LM.dup_eq, LM.both_same, Ne.dup, Ne.both, q_spec_l14Rise_s]; rfl) | (simp only [Option.bind_some, LM.dup_eq, LM.both_same, Ne.dup, Ne.both, q_spec_l14Rise_s]; funext a1 a2; exact LM.both_same _)
/-! spec.NodeNew -/
def spec_NodeNew_s (a1 : Int) (a2 : Int) : Option (spec_NodeNew_R) :=
  (spec_NewStore ()).bind fun v1 =>
  (spec_NodeOk ((a1, a2, false, (0, 0, 0, 0, 0, 0, 0, 0, ([] : List tEntry.D), 0, ([] : List Int), ([] : List Int), ([] : List Int), ()), ([] : List tTenant.D), (0, 0, ([] : List UInt8), ()), v1.1, ([] : List tSlot.D), (-1), 0, ()), ())).bind fun v2 =>
  cond (!v2.1)
    (some ((0, 0, false, (0, 0, 0, 0, 0, 0, 0, 0, ([] : List tEntry.D), 0, ([] : List Int), ([] : List Int), ([] : List Int), ()), ([] : List tTenant.D), (0, 0, ([] : List UInt8), ()), ((0, 0, (0, 0, ([] : List UInt8), ()), ([] : List tEntry.D), ()), ([] : List tRec.D), ()), ([] : List tSlot.D), 0, 0, ()), false, ()))
    ((spec_l14Rise ((a1, a2, false, (0, 0, 0, 0, 0, 0, 0, 0, ([] : List tEntry.D), 0, ([] : List Int), ([] : List Int), ([] : List Int), ()), ([] : List tTenant.D), (0, 0, ([] : List UInt8), ()), v1.1, ([] : List tSlot.D), (-1), 0, ()), ())).bind fun v3 =>
    some (v3.1, v3.2.1, ()))
theorem q_spec_NodeNew_s : @Nw.spec_NodeNew_s = @Ne.spec_NodeNew_s := by
  unfold Nw.spec_NodeNew_s Ne.spec_NodeNew_s
  first | rfl | (simp only [Option.bind_some, LM.dup_eq, LM.both_same, Ne.dup, Ne.both, q_spec_NodeOk, q_spec_l14Rise]; done) | (simp only [Option.bind_some, LM.dup_eq, LM.both_same, Ne.dup, Ne.both, q_spec_NodeOk, q_spec_l14Rise]; rfl) | (simp only [Option.bind_some, LM.dup_eq, LM.both_same, Ne.dup, Ne.both, q_spec_NodeOk, q_spec_l14Rise]; funext a1 a2; exact LM.both_same _)
def spec_NodeNew (x : Int × Int × Unit) : Option (spec_NodeNew_R) := spec_NodeNew_s x.1 x.2.1
theorem q_spec_NodeNew : @Nw.spec_NodeNew = @Ne.spec_NodeNew := by
  unfold Nw.spec_NodeNew Ne.spec_NodeNew
  first | rfl | (simp only [Option.bind_some, LM.dup_eq, LM.both_same, Ne.dup, Ne.both, q_spec_NodeNew_s]; done) | (simp only [Option.bind_some, LM.dup_eq, LM.both_same, Ne.dup, Ne.both, q_spec_NodeNew_s]; rfl) | (simp only [Option.bind_some, LM.dup_eq, LM.both_same, Ne.dup, Ne.both, q_spec_NodeNew_s]; funext a1 a2; exact LM.both_same _)
/-! spec.NewCrew -/
def spec_NewCrew_s (k5 : spec_NewCrew_K5) (a1 : Int) : Option (spec_NewCrew_R) :=
  (spec_l1In (a1, 1, 5, ())).bind fun v1 =>
  cond (!v1.1)
    (some ((([] : List tNode.D), ([] : List tMsg.D), ([] : List tMail.D), ([] : List tEntry.D), false, ()), false, ()))
    (k5 a1 0 (([] : List tNode.D), ([] : List tMsg.D), ([] : List tMail.D), ([] : List tEntry.D), false, ()) (([] : List tNode.D), ([] : List tMsg.D), ([] : List tMail.D), ([] : List tEntry.D), false, ()))
theorem q_spec_NewCrew_s : @Nw.spec_NewCrew_s = @Ne.spec_NewCrew_s := by
  unfold Nw.spec_NewCrew_s Ne.spec_NewCrew_s
  first | rfl | (simp only [Option.bind_some, LM.dup_eq, LM.both_same, Ne.dup, Ne.both]; done) | (simp only [Option.bind_some, LM.dup_eq, LM.both_same, Ne.dup, Ne.both]; rfl) | (simp only [Option.bind_some, LM.dup_eq, LM.both_same, Ne.dup, Ne.both]; funext a1 a2; exact LM.both_same _)
def spec_NewCrew_b5 (k5 : spec_NewCrew_K5) (x1 : Int) (x2 : Int) (x3 : tCrew.D) (x4 : tCrew.D) : Option (spec_NewCrew_R) :=
  cond (decide (x2 < x1))
    ((spec_NodeNew (x2, x1, ())).bind fun v1 =>
    cond (room (x4.1.length + [v1.1].length))
      (k5 x1 (w64 (x2 + 1)) x3 (x4.1 ++ [v1.1], x4.2.1, x4.2.2.1, x4.2.2.2.1, x4.2.2.2.2.1, ()))
      (none))
    (some (x4, true, ()))
theorem q_spec_NewCrew_b5 : @Nw.spec_NewCrew_b5 = @Ne.spec_NewCrew_b5 := by
  unfold Nw.spec_NewCrew_b5 Ne.spec_NewCrew_b5
  first | rfl | (simp only [Option.bind_some, LM.dup_eq, LM.both_same, Ne.dup, Ne.both, q_spec_NodeNew]; done) | (simp only [Option.bind_some, LM.dup_eq, LM.both_same, Ne.dup, Ne.both, q_spec_NodeNew]; rfl) | (simp only [Option.bind_some, LM.dup_eq, LM.both_same, Ne.dup, Ne.both, q_spec_NodeNew]; funext a1 a2; exact LM.both_same _)
def spec_NewCrew_L5 : Nat → spec_NewCrew_K5
  | 0, _, _, _, _ => none
  | m + 1, x1, x2, x3, x4 => spec_NewCrew_b5 (spec_NewCrew_L5 m) x1 x2 x3 x4
theorem q_spec_NewCrew_L5 : ∀ m, @Nw.spec_NewCrew_L5 m = @Ne.spec_NewCrew_L5 m
  | 0 => rfl
  | m + 1 => by
    funext x0 x1 x2 x3
    show _ = _
    simp only [Nw.spec_NewCrew_L5, Ne.spec_NewCrew_L5, q_spec_NewCrew_L5 m, q_spec_NewCrew_b5]
def spec_NewCrew (x : Int × Unit) : Option (spec_NewCrew_R) := spec_NewCrew_s (spec_NewCrew_L5 BIG) x.1
theorem q_spec_NewCrew : @Nw.spec_NewCrew = @Ne.spec_NewCrew := by
  unfold Nw.spec_NewCrew Ne.spec_NewCrew
  first | rfl | (simp only [Option.bind_some, LM.dup_eq, LM.both_same, Ne.dup, Ne.both, q_spec_NewCrew_s, q_spec_NewCrew_L5]; done) | (simp only [Option.bind_some, LM.dup_eq, LM.both_same, Ne.dup, Ne.both, q_spec_NewCrew_s, q_spec_NewCrew_L5]; rfl) | (simp only [Option.bind_some, LM.dup_eq, LM.both_same, Ne.dup, Ne.both, q_spec_NewCrew_s, q_spec_NewCrew_L5]; funext a1 a2; exact LM.both_same _)
/-! spec.NewWorld -/
def spec_NewWorld_s (k : spec_NewWorld_K) (a1 : tSetup.D) : Option (spec_NewWorld_R) :=
  (spec_NewCrew (a1.1, ())).bind fun v1 =>
  cond (!v1.2.1)
    (some (((([] : List tNode.D), ([] : List tMsg.D), ([] : List tMail.D), ([] : List tEntry.D), false, ()), ([] : List tClient.D), ([] : List tDone.D), ([] : List Int), ()), false, ()))
    ((spec_l1In (a1.2.1, 0, 2, ())).bind fun v2 =>
    cond (!v2.1)
      (some (((([] : List tNode.D), ([] : List tMsg.D), ([] : List tMail.D), ([] : List tEntry.D), false, ()), ([] : List tClient.D), ([] : List tDone.D), ([] : List Int), ()), false, ()))
      (dup
        (k.k6 0 a1 ((([] : List tNode.D), ([] : List tMsg.D), ([] : List tMail.D), ([] : List tEntry.D), false, ()), ([] : List tClient.D), ([] : List tDone.D), ([] : List Int), ()) (v1.1, ([] : List tClient.D), ([] : List tDone.D), List.replicate (Int.toNat 3) (0 : Int), ()))))
theorem q_spec_NewWorld_s : @Nw.spec_NewWorld_s = @Ne.spec_NewWorld_s := by
  unfold Nw.spec_NewWorld_s Ne.spec_NewWorld_s
  first | rfl | (simp only [Option.bind_some, LM.dup_eq, LM.both_same, Ne.dup, Ne.both, q_spec_NewCrew]; done) | (simp only [Option.bind_some, LM.dup_eq, LM.both_same, Ne.dup, Ne.both, q_spec_NewCrew]; rfl) | (simp only [Option.bind_some, LM.dup_eq, LM.both_same, Ne.dup, Ne.both, q_spec_NewCrew]; funext a1 a2; exact LM.both_same _)
def spec_NewWorld_b6 (k : spec_NewWorld_K) (x1 : Int) (x2 : tSetup.D) (x3 : tWorld.D) (x4 : tWorld.D) : Option (spec_NewWorld_R) :=
  cond (decide (x1 < 3))
    (k.k9 x1 1 x2 x3 x4)
    (some (x4, true, ()))
theorem q_spec_NewWorld_b6 : @Nw.spec_NewWorld_b6 = @Ne.spec_NewWorld_b6 := by
  unfold Nw.spec_NewWorld_b6 Ne.spec_NewWorld_b6
  first | rfl | (simp only [Option.bind_some, LM.dup_eq, LM.both_same, Ne.dup, Ne.both]; done) | (simp only [Option.bind_some, LM.dup_eq, LM.both_same, Ne.dup, Ne.both]; rfl) | (simp only [Option.bind_some, LM.dup_eq, LM.both_same, Ne.dup, Ne.both]; funext a1 a2; exact LM.both_same _)
def spec_NewWorld_b9_v1 (k : spec_NewWorld_K) (x1 : Int) (x2 : Int) (x3 : tSetup.D) (x4 : tWorld.D) (x5 : tWorld.D) (v1 : List tClient.D) : Option (spec_NewWorld_R) :=
  k.k9 x1 (w64 (x2 + 1)) x3 x4 (x5.1, v1, x5.2.2.1, x5.2.2.2.1, ())
theorem q_spec_NewWorld_b9_v1 : @Nw.spec_NewWorld_b9_v1 = @Ne.spec_NewWorld_b9_v1 := by
  unfold Nw.spec_NewWorld_b9_v1 Ne.spec_NewWorld_b9_v1
  first | rfl | (simp only [Option.bind_some, LM.dup_eq, LM.both_same, Ne.dup, Ne.both]; done) | (simp only [Option.bind_some, LM.dup_eq, LM.both_same, Ne.dup, Ne.both]; rfl) | (simp only [Option.bind_some, LM.dup_eq, LM.both_same, Ne.dup, Ne.both]; funext a1 a2; exact LM.both_same _)
def spec_NewWorld_b9 (k : spec_NewWorld_K) (x1 : Int) (x2 : Int) (x3 : tSetup.D) (x4 : tWorld.D) (x5 : tWorld.D) : Option (spec_NewWorld_R) :=
  cond (decide (x2 ≤ x3.2.1))
    (cond (room (x5.2.1.length + ([(x1, x2, 0, false, (0, ([] : List UInt8), ([] : List UInt8), 0, 0, ([] : List UInt8), ()), 0, ())]).length))
      (spec_NewWorld_b9_v1 k x1 x2 x3 x4 x5 (x5.2.1 ++ ([(x1, x2, 0, false, (0, ([] : List UInt8), ([] : List UInt8), 0, 0, ([] : List UInt8), ()), 0, ())])))
      (none))
    (k.k6 (w64 (x1 + 1)) x3 x4 x5)
theorem q_spec_NewWorld_b9 : @Nw.spec_NewWorld_b9 = @Ne.spec_NewWorld_b9 := by
  unfold Nw.spec_NewWorld_b9 Ne.spec_NewWorld_b9
  first | rfl | (simp only [Option.bind_some, LM.dup_eq, LM.both_same, Ne.dup, Ne.both, q_spec_NewWorld_b9_v1]; done) | (simp only [Option.bind_some, LM.dup_eq, LM.both_same, Ne.dup, Ne.both, q_spec_NewWorld_b9_v1]; rfl) | (simp only [Option.bind_some, LM.dup_eq, LM.both_same, Ne.dup, Ne.both, q_spec_NewWorld_b9_v1]; funext a1 a2; exact LM.both_same _)
def spec_NewWorld_N (k : spec_NewWorld_K) : spec_NewWorld_K := ⟨spec_NewWorld_b6 k, spec_NewWorld_b9 k⟩
theorem q_spec_NewWorld_N : @Nw.spec_NewWorld_N = @Ne.spec_NewWorld_N := by
  unfold Nw.spec_NewWorld_N Ne.spec_NewWorld_N
  first | rfl | (simp only [Option.bind_some, LM.dup_eq, LM.both_same, Ne.dup, Ne.both, q_spec_NewWorld_b6, q_spec_NewWorld_b9]; done) | (simp only [Option.bind_some, LM.dup_eq, LM.both_same, Ne.dup, Ne.both, q_spec_NewWorld_b6, q_spec_NewWorld_b9]; rfl) | (simp only [Option.bind_some, LM.dup_eq, LM.both_same, Ne.dup, Ne.both, q_spec_NewWorld_b6, q_spec_NewWorld_b9]; funext a1 a2; exact LM.both_same _)
def spec_NewWorld_L : Nat → spec_NewWorld_K := iterK spec_NewWorld_N ⟨fun _ _ _ _ => none, fun _ _ _ _ _ => none⟩
theorem q_spec_NewWorld_L : @Nw.spec_NewWorld_L = @Ne.spec_NewWorld_L := by
  unfold Nw.spec_NewWorld_L Ne.spec_NewWorld_L
  first | rfl | (simp only [Option.bind_some, LM.dup_eq, LM.both_same, Ne.dup, Ne.both, q_spec_NewWorld_N]; done) | (simp only [Option.bind_some, LM.dup_eq, LM.both_same, Ne.dup, Ne.both, q_spec_NewWorld_N]; rfl) | (simp only [Option.bind_some, LM.dup_eq, LM.both_same, Ne.dup, Ne.both, q_spec_NewWorld_N]; funext a1 a2; exact LM.both_same _)
def spec_NewWorld (x : tSetup.D × Unit) : Option (spec_NewWorld_R) := spec_NewWorld_s (spec_NewWorld_L BIG) x.1
theorem q_spec_NewWorld : @Nw.spec_NewWorld = @Ne.spec_NewWorld := by
  unfold Nw.spec_NewWorld Ne.spec_NewWorld
  first | rfl | (simp only [Option.bind_some, LM.dup_eq, LM.both_same, Ne.dup, Ne.both, q_spec_NewWorld_s, q_spec_NewWorld_L]; done) | (simp only [Option.bind_some, LM.dup_eq, LM.both_same, Ne.dup, Ne.both, q_spec_NewWorld_s, q_spec_NewWorld_L]; rfl) | (simp only [Option.bind_some, LM.dup_eq, LM.both_same, Ne.dup, Ne.both, q_spec_NewWorld_s, q_spec_NewWorld_L]; funext a1 a2; exact LM.both_same _)
/-! impl.Core).kept -/
def impl_Core_kept_s_v1 (a1 : tCore.D) (a2 : List UInt8) (v1 : List tEntry.D) : Option (tKept.D × Unit) :=
  cond (a1.2.2.2.2.2.2.1 != 0)
    (some ((a1.2.2.1, a1.2.2.2.1, (a1.2.2.2.2.2.2.1, a1.2.2.2.2.2.2.2.1, a2, ()), v1, ()), ()))
    (some ((a1.2.2.1, a1.2.2.2.1, (0, 0, ([] : List UInt8), ()), v1, ()), ()))
theorem q_impl_Core_kept_s_v1 : @Nw.impl_Core_kept_s_v1 = @Ne.impl_Core_kept_s_v1 := by
  unfold Nw.impl_Core_kept_s_v1 Ne.impl_Core_kept_s_v1
  first | rfl | (simp only [Option.bind_some, LM.dup_eq, LM.both_same, Ne.dup, Ne.both]; done) | (simp only [Option.bind_some, LM.dup_eq, LM.both_same, Ne.dup, Ne.both]; rfl) | (simp only [Option.bind_some, LM.dup_eq, LM.both_same, Ne.dup, Ne.both]; funext a1 a2; exact LM.both_same _)
def impl_Core_kept_s (a1 : tCore.D) (a2 : List UInt8) : Option (tKept.D × Unit) :=
  dup
    (cond (room (([] : List tEntry.D).length + a1.2.2.2.2.2.2.2.2.1.length))
      (impl_Core_kept_s_v1 a1 a2 (([] : List tEntry.D) ++ a1.2.2.2.2.2.2.2.2.1))
      (none))
theorem q_impl_Core_kept_s : @Nw.impl_Core_kept_s = @Ne.impl_Core_kept_s := by
  unfold Nw.impl_Core_kept_s Ne.impl_Core_kept_s
  first | rfl | (simp only [Option.bind_some, LM.dup_eq, LM.both_same, Ne.dup, Ne.both, q_impl_Core_kept_s_v1]; done) | (simp only [Option.bind_some, LM.dup_eq, LM.both_same, Ne.dup, Ne.both, q_impl_Core_kept_s_v1]; rfl) | (simp only [Option.bind_some, LM.dup_eq, LM.both_same, Ne.dup, Ne.both, q_impl_Core_kept_s_v1]; funext a1 a2; exact LM.both_same _)
def impl_Core_kept (x : tCore.D × (List UInt8) × Unit) : Option (tKept.D × Unit) := impl_Core_kept_s x.1 x.2.1
theorem q_impl_Core_kept : @Nw.impl_Core_kept = @Ne.impl_Core_kept := by
  unfold Nw.impl_Core_kept Ne.impl_Core_kept
  first | rfl | (simp only [Option.bind_some, LM.dup_eq, LM.both_same, Ne.dup, Ne.both, q_impl_Core_kept_s]; done) | (simp only [Option.bind_some, LM.dup_eq, LM.both_same, Ne.dup, Ne.both, q_impl_Core_kept_s]; rfl) | (simp only [Option.bind_some, LM.dup_eq, LM.both_same, Ne.dup, Ne.both, q_impl_Core_kept_s]; funext a1 a2; exact LM.both_same _)
/-! impl.CoreOk -/
def impl_CoreOk_s (k3 : impl_CoreOk_K3) (a1 : tCore.D) : Option (Bool × Unit) :=
  (impl_within (a1.2.1, 1, 5, ())).bind fun v1 =>
  cond (!v1.1)
    (some (false, ()))
    ((impl_within (a1.1, 0, w64 (a1.2.1 - 1), ())).bind fun v2 =>
    cond (!v2.1)
      (some (false, ()))
      (cond (decide (a1.2.2.2.1 ≥ a1.2.1))
        (some (false, ()))
        (cond (decide (a1.2.2.2.2.2.2.1 < 0))
          (some (false, ()))
          (cond (a1.2.2.2.2.2.2.1 == 0)
            (cond (a1.2.2.2.2.2.2.2.1 != 0)
              (some (false, ()))
              ((impl_Core_kept (a1, ([] : List UInt8), ())).bind fun v3 =>
              (impl_KeptOk (v3.1, ())).bind fun v4 =>
              cond (!v4.1)
                (some (false, ()))
                ((impl_Core_last (a1, ())).bind fun v5 =>
                (impl_within (a1.2.2.2.2.2.2.2.2.2.1, a1.2.2.2.2.2.2.1, v5.1, ())).bind fun v6 =>
                cond (!v6.1)
                  (some (false, ()))
                  (k3 a1))))
            ((impl_Core_kept (a1, ([] : List UInt8), ())).bind fun v7 =>
            (impl_KeptOk (v7.1, ())).bind fun v8 =>
            cond (!v8.1)
              (some (false, ()))
              ((impl_Core_last (a1, ())).bind fun v9 =>
              (impl_within (a1.2.2.2.2.2.2.2.2.2.1, a1.2.2.2.2.2.2.1, v9.1, ())).bind fun v10 =>
              cond (!v10.1)
                (some (false, ()))
                (k3 a1)))))))
theorem q_impl_CoreOk_s : @Nw.impl_CoreOk_s = @Ne.impl_CoreOk_s := by
  unfold Nw.impl_CoreOk_s Ne.impl_CoreOk_s
  first | rfl | (simp only [Option.bind_some, LM.dup_eq, LM.both_same, Ne.dup, Ne.both, q_impl_Core_kept]; done) | (simp only [Option.bind_some, LM.dup_eq, LM.both_same, Ne.dup, Ne.both, q_impl_Core_kept]; rfl) | (simp only [Option.bind_some, LM.dup_eq, LM.both_same, Ne.dup, Ne.both, q_impl_Core_kept]; funext a1 a2; exact LM.both_same _)
def impl_CoreOk_b3 (k3 : impl_CoreOk_K3) (x1 : tCore.D) : Option (Bool × Unit) :=
  cond (x1.2.2.2.2.1 == 1)
    ((impl_within (x1.2.2.2.2.2.1, (-1), w64 (x1.2.1 - 1), ())).bind fun v1 =>
    cond v1.1
      (cond (x1.2.2.2.2.2.1 != x1.1)
        (some (w64 (w64 ((x1.2.2.2.2.2.2.2.2.2.2.1.length : Int) + (x1.2.2.2.2.2.2.2.2.2.2.2.1.length : Int)) + (x1.2.2.2.2.2.2.2.2.2.2.2.2.1.length : Int)) == 0, ()))
        (some (false, ())))
      (some (false, ())))
    (cond (x1.2.2.2.2.1 == 2)
      ((impl_Core_seekOk (x1, ())).bind fun v2 =>
      some (v2.1, ()))
      (cond (x1.2.2.2.2.1 == 3)
        ((impl_Core_leadOk (x1, ())).bind fun v3 =>
        some (v3.1, ()))
        (some (false, ()))))
theorem q_impl_CoreOk_b3 : @Nw.impl_CoreOk_b3 = @Ne.impl_CoreOk_b3 := by
  unfold Nw.impl_CoreOk_b3 Ne.impl_CoreOk_b3
  first | rfl | (simp only [Option.bind_some, LM.dup_eq, LM.both_same, Ne.dup, Ne.both]; done) | (simp only [Option.bind_some, LM.dup_eq, LM.both_same, Ne.dup, Ne.both]; rfl) | (simp only [Option.bind_some, LM.dup_eq, LM.both_same, Ne.dup, Ne.both]; funext a1 a2; exact LM.both_same _)
def impl_CoreOk_L3 : Nat → impl_CoreOk_K3
  | 0, _ => none
  | m + 1, x1 => impl_CoreOk_b3 (impl_CoreOk_L3 m) x1
theorem q_impl_CoreOk_L3 : ∀ m, @Nw.impl_CoreOk_L3 m = @Ne.impl_CoreOk_L3 m
  | 0 => rfl
  | m + 1 => by
    funext x0
    show _ = _
    simp only [Nw.impl_CoreOk_L3, Ne.impl_CoreOk_L3, q_impl_CoreOk_L3 m, q_impl_CoreOk_b3]
def impl_CoreOk (x : tCore.D × Unit) : Option (Bool × Unit) := impl_CoreOk_s (impl_CoreOk_L3 BIG) x.1
theorem q_impl_CoreOk : @Nw.impl_CoreOk = @Ne.impl_CoreOk := by
  unfold Nw.impl_CoreOk Ne.impl_CoreOk
  first | rfl | (simp only [Option.bind_some, LM.dup_eq, LM.both_same, Ne.dup, Ne.both, q_impl_CoreOk_s, q_impl_CoreOk_L3]; done) | (simp only [Option.bind_some, LM.dup_eq, LM.both_same, Ne.dup, Ne.both, q_impl_CoreOk_s, q_impl_CoreOk_L3]; rfl) | (simp only [Option.bind_some, LM.dup_eq, LM.both_same, Ne.dup, Ne.both, q_impl_CoreOk_s, q_impl_CoreOk_L3]; funext a1 a2; exact LM.both_same _)
/-! impl.CoreOf -/
def impl_CoreOf_s (a1 : Int) (a2 : Int) (a3 : tKept.D) : Option (impl_CoreOf_R) :=
  (impl_KeptOk (a3, ())).bind fun v1 =>
  cond (!v1.1)
    (some ((0, 0, 0, 0, 0, 0, 0, 0, ([] : List tEntry.D), 0, ([] : List Int), ([] : List Int), ([] : List Int), ()), false, ()))
    (dup
      (cond (room (([] : List tEntry.D).length + a3.2.2.2.1.length))
        ((impl_CoreOk ((a1, a2, a3.1, a3.2.1, 1, (-1), a3.2.2.1.1, a3.2.2.1.2.1, ([] : List tEntry.D) ++ a3.2.2.2.1, a3.2.2.1.1, ([] : List Int), ([] : List Int), ([] : List Int), ()), ())).bind fun v2 =>
        cond (!v2.1)
          (some ((0, 0, 0, 0, 0, 0, 0, 0, ([] : List tEntry.D), 0, ([] : List Int), ([] : List Int), ([] : List Int), ()), false, ()))
          (some ((a1, a2, a3.1, a3.2.1, 1, (-1), a3.2.2.1.1, a3.2.2.1.2.1, ([] : List tEntry.D) ++ a3.2.2.2.1, a3.2.2.1.1, ([] : List Int), ([] : List Int), ([] : List Int), ()), true, ())))
        (none)))
theorem q_impl_CoreOf_s : @Nw.impl_CoreOf_s = @Ne.impl_CoreOf_s := by
  unfold Nw.impl_CoreOf_s Ne.impl_CoreOf_s
  first | rfl | (simp only [Option.bind_some, LM.dup_eq, LM.both_same, Ne.dup, Ne.both, q_impl_CoreOk]; done) | (simp only [Option.bind_some, LM.dup_eq, LM.both_same, Ne.dup, Ne.both, q_impl_CoreOk]; rfl) | (simp only [Option.bind_some, LM.dup_eq, LM.both_same, Ne.dup, Ne.both, q_impl_CoreOk]; funext a1 a2; exact LM.both_same _)
def impl_CoreOf (x : Int × Int × tKept.D × Unit) : Option (impl_CoreOf_R) := impl_CoreOf_s x.1 x.2.1 x.2.2.1
theorem q_impl_CoreOf : @Nw.impl_CoreOf = @Ne.impl_CoreOf := by
  unfold Nw.impl_CoreOf Ne.impl_CoreOf
  first | rfl | (simp only [Option.bind_some, LM.dup_eq, LM.both_same, Ne.dup, Ne.both, q_impl_CoreOf_s]; done) | (simp only [Option.bind_some, LM.dup_eq, LM.both_same, Ne.dup, Ne.both, q_impl_CoreOf_s]; rfl) | (simp only [Option.bind_some, LM.dup_eq, LM.both_same, Ne.dup, Ne.both, q_impl_CoreOf_s]; funext a1 a2; exact LM.both_same _)
/-! impl.Node).rise -/
def impl_Node_rise_s (a1 : tNode.D) : Option (impl_Node_rise_R) :=
  dup
    ((impl_CoreOf (a1.1, a1.2.1, a1.2.2.2.2.2.2.1.1, ())).bind fun v1 =>
    cond a1.2.2.1
      (some (false, a1, ()))
      (cond (!v1.2.1)
        (some (false, a1, ()))
        ((impl_NewState ()).bind fun v2 =>
        cond (!((a1.2.2.2.2.2.2.1.1.2.2.1.1 == 0) && ((a1.2.2.2.2.2.2.1.1.2.2.1.2.1 == 0) && (eqS a1.2.2.2.2.2.2.1.1.2.2.1.2.2.1 ([] : List UInt8) && true))))
          ((impl_ReadState (a1.2.2.2.2.2.2.1.1.2.2.1.2.2.1, ())).bind fun v3 =>
          cond (!v3.2.1)
            (some (false, a1, ()))
            (some (true, (a1.1, a1.2.1, true, v1.1, v3.1, a1.2.2.2.2.2.2.1.1.2.2.1, a1.2.2.2.2.2.2.1, ([] : List tSlot.D), (-1), a1.2.2.2.2.2.2.2.2.2.1, ()), ())))
          (some (true, (a1.1, a1.2.1, true, v1.1, v2.1, a1.2.2.2.2.2.2.1.1.2.2.1, a1.2.2.2.2.2.2.1, ([] : List tSlot.D), (-1), a1.2.2.2.2.2.2.2.2.2.1, ()), ())))))
theorem q_impl_Node_rise_s : @Nw.impl_Node_rise_s = @Ne.impl_Node_rise_s := by
  unfold Nw.impl_Node_rise_s Ne.impl_Node_rise_s
  first | rfl | (simp only [Option.bind_some, LM.dup_eq, LM.both_same, Ne.dup, Ne.both, q_impl_CoreOf]; done) | (simp only [Option.bind_some, LM.dup_eq, LM.both_same, Ne.dup, Ne.both, q_impl_CoreOf]; rfl) | (simp only [Option.bind_some, LM.dup_eq, LM.both_same, Ne.dup, Ne.both, q_impl_CoreOf]; funext a1 a2; exact LM.both_same _)
def impl_Node_rise (x : tNode.D × Unit) : Option (impl_Node_rise_R) := impl_Node_rise_s x.1
theorem q_impl_Node_rise : @Nw.impl_Node_rise = @Ne.impl_Node_rise := by
  unfold Nw.impl_Node_rise Ne.impl_Node_rise
  first | rfl | (simp only [Option.bind_some, LM.dup_eq, LM.both_same, Ne.dup, Ne.both, q_impl_Node_rise_s]; done) | (simp only [Option.bind_some, LM.dup_eq, LM.both_same, Ne.dup, Ne.both, q_impl_Node_rise_s]; rfl) | (simp only [Option.bind_some, LM.dup_eq, LM.both_same, Ne.dup, Ne.both, q_impl_Node_rise_s]; funext a1 a2; exact LM.both_same _)
/-! impl.NodeRise -/
def impl_NodeRise_s (a1 : tNode.D) : Option (impl_NodeRise_R) :=
  (impl_NodeOk (a1, ())).bind fun v1 =>
  cond (!v1.1)
    (some ((0, 0, false, (0, 0, 0, 0, 0, 0, 0, 0, ([] : List tEntry.D), 0, ([] : List Int), ([] : List Int), ([] : List Int), ()), ([] : List tTenant.D), (0, 0, ([] : List UInt8), ()), ((0, 0, (0, 0, ([] : List UInt8), ()), ([] : List tEntry.D), ()), ([] : List tRec.D), ()), ([] : List tSlot.D), 0, 0, ()), false, ()))
    ((impl_copyNode (a1, ())).bind fun v2 =>
    (impl_Node_rise (v2.1, ())).bind fun v3 =>
    some (v3.2.1, v3.1, ()))
theorem q_impl_NodeRise_s : @Nw.impl_NodeRise_s = @Ne.impl_NodeRise_s := by
  unfold Nw.impl_NodeRise_s Ne.impl_NodeRise_s
  first | rfl | (simp only [Option.bind_some, LM.dup_eq, LM.both_same, Ne.dup, Ne.both, q_impl_Node_rise]; done) | (simp only [Option.bind_some, LM.dup_eq, LM.both_same, Ne.dup, Ne.both, q_impl_Node_rise]; rfl) | (simp only [Option.bind_some, LM.dup_eq, LM.both_same, Ne.dup, Ne.both, q_impl_Node_rise]; funext a1 a2; exact LM.both_same _)
def impl_NodeRise (x : tNode.D × Unit) : Option (impl_NodeRise_R) := impl_NodeRise_s x.1
theorem q_impl_NodeRise : @Nw.impl_NodeRise = @Ne.impl_NodeRise := by
  unfold Nw.impl_NodeRise Ne.impl_NodeRise
  first | rfl | (simp only [Option.bind_some, LM.dup_eq, LM.both_same, Ne.dup, Ne.both, q_impl_NodeRise_s]; done) | (simp only [Option.bind_some, LM.dup_eq, LM.both_same, Ne.dup, Ne.both, q_impl_NodeRise_s]; rfl) | (simp only [Option.bind_some, LM.dup_eq, LM.both_same, Ne.dup, Ne.both, q_impl_NodeRise_s]; funext a1 a2; exact LM.both_same _)
/-! impl.NodeNew -/
def impl_NodeNew_s (a1 : Int) (a2 : Int) : Option (impl_NodeNew_R) :=
  (impl_within (a2, 1, 5, ())).bind fun v1 =>
  cond (!v1.1)
    (some ((0, 0, false, (0, 0, 0, 0, 0, 0, 0, 0, ([] : List tEntry.D), 0, ([] : List Int), ([] : List Int), ([] : List Int), ()), ([] : List tTenant.D), (0, 0, ([] : List UInt8), ()), ((0, 0, (0, 0, ([] : List UInt8), ()), ([] : List tEntry.D), ()), ([] : List tRec.D), ()), ([] : List tSlot.D), 0, 0, ()), false, ()))
    ((impl_within (a1, 0, w64 (a2 - 1), ())).bind fun v2 =>
    cond (!v2.1)
      (some ((0, 0, false, (0, 0, 0, 0, 0, 0, 0, 0, ([] : List tEntry.D), 0, ([] : List Int), ([] : List Int), ([] : List Int), ()), ([] : List tTenant.D), (0, 0, ([] : List UInt8), ()), ((0, 0, (0, 0, ([] : List UInt8), ()), ([] : List tEntry.D), ()), ([] : List tRec.D), ()), ([] : List tSlot.D), 0, 0, ()), false, ()))
      ((impl_NewStore ()).bind fun v3 =>
      (impl_NodeRise ((a1, a2, false, (0, 0, 0, 0, 0, 0, 0, 0, ([] : List tEntry.D), 0, ([] : List Int), ([] : List Int), ([] : List Int), ()), ([] : List tTenant.D), (0, 0, ([] : List UInt8), ()), v3.1, ([] : List tSlot.D), (-1), 0, ()), ())).bind fun v4 =>
      some (v4.1, v4.2.1, ())))
theorem q_impl_NodeNew_s : @Nw.impl_NodeNew_s = @Ne.impl_NodeNew_s := by
  unfold Nw.impl_NodeNew_s Ne.impl_NodeNew_s
  first | rfl | (simp only [Option.bind_some, LM.dup_eq, LM.both_same, Ne.dup, Ne.both, q_impl_NodeRise]; done) | (simp only [Option.bind_some, LM.dup_eq, LM.both_same, Ne.dup, Ne.both, q_impl_NodeRise]; rfl) | (simp only [Option.bind_some, LM.dup_eq, LM.both_same, Ne.dup, Ne.both, q_impl_NodeRise]; funext a1 a2; exact LM.both_same _)
def impl_NodeNew (x : Int × Int × Unit) : Option (impl_NodeNew_R) := impl_NodeNew_s x.1 x.2.1
theorem q_impl_NodeNew : @Nw.impl_NodeNew = @Ne.impl_NodeNew := by
  unfold Nw.impl_NodeNew Ne.impl_NodeNew
  first | rfl | (simp only [Option.bind_some, LM.dup_eq, LM.both_same, Ne.dup, Ne.both, q_impl_NodeNew_s]; done) | (simp only [Option.bind_some, LM.dup_eq, LM.both_same, Ne.dup, Ne.both, q_impl_NodeNew_s]; rfl) | (simp only [Option.bind_some, LM.dup_eq, LM.both_same, Ne.dup, Ne.both, q_impl_NodeNew_s]; funext a1 a2; exact LM.both_same _)
/-! impl.NewCrew -/
def impl_NewCrew_s (k5 : impl_NewCrew_K5) (a1 : Int) : Option (impl_NewCrew_R) :=
  (impl_within (a1, 1, 5, ())).bind fun v1 =>
  cond (!v1.1)
    (some ((([] : List tNode.D), ([] : List tMsg.D), ([] : List tMail.D), ([] : List tEntry.D), false, ()), false, ()))
    (k5 a1 a1 0 (([] : List tNode.D), ([] : List tMsg.D), ([] : List tMail.D), ([] : List tEntry.D), false, ()) (([] : List tNode.D), ([] : List tMsg.D), ([] : List tMail.D), ([] : List tEntry.D), false, ()))
theorem q_impl_NewCrew_s : @Nw.impl_NewCrew_s = @Ne.impl_NewCrew_s := by
  unfold Nw.impl_NewCrew_s Ne.impl_NewCrew_s
  first | rfl | (simp only [Option.bind_some, LM.dup_eq, LM.both_same, Ne.dup, Ne.both]; done) | (simp only [Option.bind_some, LM.dup_eq, LM.both_same, Ne.dup, Ne.both]; rfl) | (simp only [Option.bind_some, LM.dup_eq, LM.both_same, Ne.dup, Ne.both]; funext a1 a2; exact LM.both_same _)
def impl_NewCrew_b5 (k5 : impl_NewCrew_K5) (x1 : Int) (x2 : Int) (x3 : Int) (x4 : tCrew.D) (x5 : tCrew.D) : Option (impl_NewCrew_R) :=
  cond (decide (x3 < x2))
    ((impl_NodeNew (x3, x1, ())).bind fun v1 =>
    cond (room (x5.1.length + [v1.1].length))
      (k5 x1 x2 (w64 (x3 + 1)) x4 (x5.1 ++ [v1.1], x5.2.1, x5.2.2.1, x5.2.2.2.1, x5.2.2.2.2.1, ()))
      (none))
    (some (x5, true, ()))
theorem q_impl_NewCrew_b5 : @Nw.impl_NewCrew_b5 = @Ne.impl_NewCrew_b5 := by
  unfold Nw.impl_NewCrew_b5 Ne.impl_NewCrew_b5
  first | rfl | (simp only [Option.bind_some, LM.dup_eq, LM.both_same, Ne.dup, Ne.both, q_impl_NodeNew]; done) | (simp only [Option.bind_some, LM.dup_eq, LM.both_same, Ne.dup, Ne.both, q_impl_NodeNew]; rfl) | (simp only [Option.bind_some, LM.dup_eq, LM.both_same, Ne.dup, Ne.both, q_impl_NodeNew]; funext a1 a2; exact LM.both_same _)
def impl_NewCrew_L5 : Nat → impl_NewCrew_K5
  | 0, _, _, _, _, _ => none
  | m + 1, x1, x2, x3, x4, x5 => impl_NewCrew_b5 (impl_NewCrew_L5 m) x1 x2 x3 x4 x5
theorem q_impl_NewCrew_L5 : ∀ m, @Nw.impl_NewCrew_L5 m = @Ne.impl_NewCrew_L5 m
  | 0 => rfl
  | m + 1 => by
    funext x0 x1 x2 x3 x4
    show _ = _
    simp only [Nw.impl_NewCrew_L5, Ne.impl_NewCrew_L5, q_impl_NewCrew_L5 m, q_impl_NewCrew_b5]
def impl_NewCrew (x : Int × Unit) : Option (impl_NewCrew_R) := impl_NewCrew_s (impl_NewCrew_L5 BIG) x.1
theorem q_impl_NewCrew : @Nw.impl_NewCrew = @Ne.impl_NewCrew := by
  unfold Nw.impl_NewCrew Ne.impl_NewCrew
  first | rfl | (simp only [Option.bind_some, LM.dup_eq, LM.both_same, Ne.dup, Ne.both, q_impl_NewCrew_s, q_impl_NewCrew_L5]; done) | (simp only [Option.bind_some, LM.dup_eq, LM.both_same, Ne.dup, Ne.both, q_impl_NewCrew_s, q_impl_NewCrew_L5]; rfl) | (simp only [Option.bind_some, LM.dup_eq, LM.both_same, Ne.dup, Ne.both, q_impl_NewCrew_s, q_impl_NewCrew_L5]; funext a1 a2; exact LM.both_same _)
/-! impl.NewWorld -/
def impl_NewWorld_s (k : impl_NewWorld_K) (a1 : tSetup.D) : Option (impl_NewWorld_R) :=
  (impl_NewCrew (a1.1, ())).bind fun v1 =>
  cond (!v1.2.1)
    (some (((([] : List tNode.D), ([] : List tMsg.D), ([] : List tMail.D), ([] : List tEntry.D), false, ()), ([] : List tClient.D), ([] : List tDone.D), ([] : List Int), ()), false, ()))
    ((impl_within (a1.2.1, 0, 2, ())).bind fun v2 =>
    cond (!v2.1)
      (some (((([] : List tNode.D), ([] : List tMsg.D), ([] : List tMail.D), ([] : List tEntry.D), false, ()), ([] : List tClient.D), ([] : List tDone.D), ([] : List Int), ()), false, ()))
      (dup
        (k.k6 0 a1 ((([] : List tNode.D), ([] : List tMsg.D), ([] : List tMail.D), ([] : List tEntry.D), false, ()), ([] : List tClient.D), ([] : List tDone.D), ([] : List Int), ()) (v1.1, ([] : List tClient.D), ([] : List tDone.D), List.replicate (Int.toNat 3) (0 : Int), ()))))
theorem q_impl_NewWorld_s : @Nw.impl_NewWorld_s = @Ne.impl_NewWorld_s := by
  unfold Nw.impl_NewWorld_s Ne.impl_NewWorld_s
  first | rfl | (simp only [Option.bind_some, LM.dup_eq, LM.both_same, Ne.dup, Ne.both, q_impl_NewCrew]; done) | (simp only [Option.bind_some, LM.dup_eq, LM.both_same, Ne.dup, Ne.both, q_impl_NewCrew]; rfl) | (simp only [Option.bind_some, LM.dup_eq, LM.both_same, Ne.dup, Ne.both, q_impl_NewCrew]; funext a1 a2; exact LM.both_same _)
def impl_NewWorld_b6 (k : impl_NewWorld_K) (x1 : Int) (x2 : tSetup.D) (x3 : tWorld.D) (x4 : tWorld.D) : Option (impl_NewWorld_R) :=
  cond (decide (x1 < 3))
    (k.k9 x1 x1 x2.2.1 0 x2 x3 x4)
    (some (x4, true, ()))
theorem q_impl_NewWorld_b6 : @Nw.impl_NewWorld_b6 = @Ne.impl_NewWorld_b6 := by
  unfold Nw.impl_NewWorld_b6 Ne.impl_NewWorld_b6
  first | rfl | (simp only [Option.bind_some, LM.dup_eq, LM.both_same, Ne.dup, Ne.both]; done) | (simp only [Option.bind_some, LM.dup_eq, LM.both_same, Ne.dup, Ne.both]; rfl) | (simp only [Option.bind_some, LM.dup_eq, LM.both_same, Ne.dup, Ne.both]; funext a1 a2; exact LM.both_same _)
def impl_NewWorld_b9_v1 (k : impl_NewWorld_K) (x1 : Int) (x2 : Int) (x3 : Int) (x4 : Int) (x5 : tSetup.D) (x6 : tWorld.D) (x7 : tWorld.D) (v1 : List tClient.D) : Option (impl_NewWorld_R) :=
  k.k9 x1 x2 x3 (w64 (x4 + 1)) x5 x6 (x7.1, v1, x7.2.2.1, x7.2.2.2.1, ())
theorem q_impl_NewWorld_b9_v1 : @Nw.impl_NewWorld_b9_v1 = @Ne.impl_NewWorld_b9_v1 := by
  unfold Nw.impl_NewWorld_b9_v1 Ne.impl_NewWorld_b9_v1
  first | rfl | (simp only [Option.bind_some, LM.dup_eq, LM.both_same, Ne.dup, Ne.both]; done) | (simp only [Option.bind_some, LM.dup_eq, LM.both_same, Ne.dup, Ne.both]; rfl) | (simp only [Option.bind_some, LM.dup_eq, LM.both_same, Ne.dup, Ne.both]; funext a1 a2; exact LM.both_same _)
def impl_NewWorld_b9 (k : impl_NewWorld_K) (x1 : Int) (x2 : Int) (x3 : Int) (x4 : Int) (x5 : tSetup.D) (x6 : tWorld.D) (x7 : tWorld.D) : Option (impl_NewWorld_R) :=
  cond (decide (x4 < x3))
    (cond (room (x7.2.1.length + ([(x1, w64 (x4 + 1), 0, false, (0, ([] : List UInt8), ([] : List UInt8), 0, 0, ([] : List UInt8), ()), 0, ())]).length))
      (impl_NewWorld_b9_v1 k x1 x2 x3 x4 x5 x6 x7 (x7.2.1 ++ ([(x1, w64 (x4 + 1), 0, false, (0, ([] : List UInt8), ([] : List UInt8), 0, 0, ([] : List UInt8), ()), 0, ())])))
      (none))
    (k.k6 (w64 (x2 + 1)) x5 x6 x7)
theorem q_impl_NewWorld_b9 : @Nw.impl_NewWorld_b9 = @Ne.impl_NewWorld_b9 := by
  unfold Nw.impl_NewWorld_b9 Ne.impl_NewWorld_b9
  first | rfl | (simp only [Option.bind_some, LM.dup_eq, LM.both_same, Ne.dup, Ne.both, q_impl_NewWorld_b9_v1]; done) | (simp only [Option.bind_some, LM.dup_eq, LM.both_same, Ne.dup, Ne.both, q_impl_NewWorld_b9_v1]; rfl) | (simp only [Option.bind_some, LM.dup_eq, LM.both_same, Ne.dup, Ne.both, q_impl_NewWorld_b9_v1]; funext a1 a2; exact LM.both_same _)
def impl_NewWorld_N (k : impl_NewWorld_K) : impl_NewWorld_K := ⟨impl_NewWorld_b6 k, impl_NewWorld_b9 k⟩
theorem q_impl_NewWorld_N : @Nw.impl_NewWorld_N = @Ne.impl_NewWorld_N := by
  unfold Nw.impl_NewWorld_N Ne.impl_NewWorld_N
  first | rfl | (simp only [Option.bind_some, LM.dup_eq, LM.both_same, Ne.dup, Ne.both, q_impl_NewWorld_b6, q_impl_NewWorld_b9]; done) | (simp only [Option.bind_some, LM.dup_eq, LM.both_same, Ne.dup, Ne.both, q_impl_NewWorld_b6, q_impl_NewWorld_b9]; rfl) | (simp only [Option.bind_some, LM.dup_eq, LM.both_same, Ne.dup, Ne.both, q_impl_NewWorld_b6, q_impl_NewWorld_b9]; funext a1 a2; exact LM.both_same _)
def impl_NewWorld_L : Nat → impl_NewWorld_K := iterK impl_NewWorld_N ⟨fun _ _ _ _ => none, fun _ _ _ _ _ _ _ => none⟩
theorem q_impl_NewWorld_L : @Nw.impl_NewWorld_L = @Ne.impl_NewWorld_L := by
  unfold Nw.impl_NewWorld_L Ne.impl_NewWorld_L
  first | rfl | (simp only [Option.bind_some, LM.dup_eq, LM.both_same, Ne.dup, Ne.both, q_impl_NewWorld_N]; done) | (simp only [Option.bind_some, LM.dup_eq, LM.both_same, Ne.dup, Ne.both, q_impl_NewWorld_N]; rfl) | (simp only [Option.bind_some, LM.dup_eq, LM.both_same, Ne.dup, Ne.both, q_impl_NewWorld_N]; funext a1 a2; exact LM.both_same _)
def impl_NewWorld (x : tSetup.D × Unit) : Option (impl_NewWorld_R) := impl_NewWorld_s (impl_NewWorld_L BIG) x.1
theorem q_impl_NewWorld : @Nw.impl_NewWorld = @Ne.impl_NewWorld := by
  unfold Nw.impl_NewWorld Ne.impl_NewWorld
  first | rfl | (simp only [Option.bind_some, LM.dup_eq, LM.both_same, Ne.dup, Ne.both, q_impl_NewWorld_s, q_impl_NewWorld_L]; done) | (simp only [Option.bind_some, LM.dup_eq, LM.both_same, Ne.dup, Ne.both, q_impl_NewWorld_s, q_impl_NewWorld_L]; rfl) | (simp only [Option.bind_some, LM.dup_eq, LM.both_same, Ne.dup, Ne.both, q_impl_NewWorld_s, q_impl_NewWorld_L]; funext a1 a2; exact LM.both_same _)
/-! laws.FnExactNewWorld -/
def laws_FnExactNewWorld_s (a1 : tSetup.D) : Option (Bool × Unit) :=
  (laws_toSetup (a1, ())).bind fun v1 =>
  (spec_NewWorld (v1.1, ())).bind fun v2 =>
  (laws_toSetup (a1, ())).bind fun v3 =>
  (impl_NewWorld (v3.1, ())).bind fun v4 =>
  (laws_eqWorld (v4.1, v2.1, ())).bind fun v5 =>
  cond (!v5.1)
    (some (false, ()))
    (cond (!(v4.2.1 == v2.2.1))
      (some (false, ()))
      ((laws_markWorld (v4.1, 1, ())).bind fun v6 =>
      (laws_heldWorld (((v6.2.1.1.1, v6.2.1.1.2.1, v6.2.1.1.2.2.1, v6.2.1.1.2.2.2.1, v4.1.1.2.2.2.2.1, ()), v6.2.1.2.1, v6.2.1.2.2.1, v6.2.1.2.2.2.1, ()), 1, ())).bind fun v7 =>
      cond (decide (v7.1 < 0))
        (some (false, ()))
        (cond (v7.1 != v6.1)
          (some (false, ()))
          ((laws_toSetup (a1, ())).bind fun v8 =>
          (impl_NewWorld (v8.1, ())).bind fun v9 =>
          (laws_eqWorld (v9.1, v2.1, ())).bind fun v10 =>
          cond (!v10.1)
            (some (false, ()))
            (cond (!(v9.2.1 == v2.2.1))
              (some (false, ()))
              ((laws_heldWorld (((v6.2.1.1.1, v6.2.1.1.2.1, v6.2.1.1.2.2.1, v6.2.1.1.2.2.2.1, v4.1.1.2.2.2.2.1, ()), v6.2.1.2.1, v6.2.1.2.2.1, v6.2.1.2.2.2.1, ()), 1, ())).bind fun v11 =>
              cond (decide (v11.1 < 0))
                (some (false, ()))
                (cond (v11.1 != v6.1)
                  (some (false, ()))
                  (some (true, ())))))))))
theorem q_laws_FnExactNewWorld_s : @Nw.laws_FnExactNewWorld_s = @Ne.laws_FnExactNewWorld_s := by
  unfold Nw.laws_FnExactNewWorld_s Ne.laws_FnExactNewWorld_s
  first | rfl | (simp only [Option.bind_some, LM.dup_eq, LM.both_same, Ne.dup, Ne.both, q_spec_NewWorld, q_impl_NewWorld]; done) | (simp only [Option.bind_some, LM.dup_eq, LM.both_same, Ne.dup, Ne.both, q_spec_NewWorld, q_impl_NewWorld]; rfl) | (simp only [Option.bind_some, LM.dup_eq, LM.both_same, Ne.dup, Ne.both, q_spec_NewWorld, q_impl_NewWorld]; funext a1 a2; exact LM.both_same _)
def laws_FnExactNewWorld (x : tSetup.D × Unit) : Option (Bool × Unit) := laws_FnExactNewWorld_s x.1
theorem q_laws_FnExactNewWorld : @Nw.laws_FnExactNewWorld = @Ne.laws_FnExactNewWorld := by
  unfold Nw.laws_FnExactNewWorld Ne.laws_FnExactNewWorld
  first | rfl | (simp only [Option.bind_some, LM.dup_eq, LM.both_same, Ne.dup, Ne.both, q_laws_FnExactNewWorld_s]; done) | (simp only [Option.bind_some, LM.dup_eq, LM.both_same, Ne.dup, Ne.both, q_laws_FnExactNewWorld_s]; rfl) | (simp only [Option.bind_some, LM.dup_eq, LM.both_same, Ne.dup, Ne.both, q_laws_FnExactNewWorld_s]; funext a1 a2; exact LM.both_same _)
end
end Go.LM.Ne
