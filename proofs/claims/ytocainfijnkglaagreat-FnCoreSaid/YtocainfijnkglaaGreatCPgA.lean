/- The functions that are reached, as plain functions. Printed by a program. Conditions: none; definitions alone. -/
import Derived.Test.YtocainfijnkglaaGreatCLmd
set_option linter.unusedVariables false
namespace Go.LM.Pg
noncomputable section
@[reducible] def tSnap : Ty := .st (.cons (.int .i64) (.cons (.int .i64) (.cons .str .nil)))
@[reducible] def tEntry : Ty := .st (.cons (.int .i64) (.cons .str .nil))
@[reducible] def tKept : Ty := .st (.cons (.int .i64) (.cons (.int .i64) (.cons tSnap (.cons (.sl tEntry) .nil))))
@[reducible] def tCore : Ty := .st (.cons (.int .i64) (.cons (.int .i64) (.cons (.int .i64) (.cons (.int .i64) (.cons (.int .i64) (.cons (.int .i64) (.cons (.int .i64) (.cons (.int .i64) (.cons (.sl tEntry) (.cons (.int .i64) (.cons (.sl (.int .i64)) (.cons (.sl (.int .i64)) (.cons (.sl (.int .i64)) .nil)))))))))))))
@[reducible] def tL1Cur : Ty := .st (.cons (.sl (.int .u8)) (.cons (.int .i64) (.cons (.int .i64) .nil)))
@[reducible] def tMsg : Ty := .st (.cons (.int .i64) (.cons (.int .i64) (.cons (.int .i64) (.cons (.int .i64) (.cons (.int .i64) (.cons (.int .i64) (.cons (.int .i64) (.cons .bool (.cons (.sl tEntry) (.cons .str .nil))))))))))

/-! laws.big -/
def laws_big_s (a1 : List Int) : Option (Bool × Unit) :=
  some (decide ((a1.length : Int) > 1048576), ())
def laws_big (x : (List Int) × Unit) : Option (Bool × Unit) := laws_big_s x.1

/-! spec.l1In -/
def spec_l1In_s (a1 : Int) (a2 : Int) (a3 : Int) : Option (Bool × Unit) :=
  cond (decide (a1 ≥ a2))
    (some (decide (a1 ≤ a3), ()))
    (some (false, ()))
def spec_l1In (x : Int × Int × Int × Unit) : Option (Bool × Unit) := spec_l1In_s x.1 x.2.1 x.2.2.1

/-! spec.l3Place -/
def spec_l3Place_s (a1 : Int) (a2 : Int) : Option (Bool × Unit) :=
  cond (a1 == 0)
    (some (a2 == 0, ()))
    ((spec_l1In (a1, 1, 100000, ())).bind fun v1 =>
    cond v1.1
      ((spec_l1In (a2, 1, 100000, ())).bind fun v2 =>
      some (v2.1, ()))
      (some (false, ())))
def spec_l3Place (x : Int × Int × Unit) : Option (Bool × Unit) := spec_l3Place_s x.1 x.2.1

/-! spec.KeptOk -/
abbrev spec_KeptOk_K5 : Type := Int → Int → tKept.D → Option (Bool × Unit)
def spec_KeptOk_s (k5 : spec_KeptOk_K5) (a1 : tKept.D) : Option (Bool × Unit) :=
  (spec_l1In (a1.1, 0, 100000, ())).bind fun v1 =>
  cond (!v1.1)
    (some (false, ()))
    ((spec_l1In (a1.2.1, (-1), 4, ())).bind fun v2 =>
    cond (!v2.1)
      (some (false, ()))
      ((spec_l3Place (a1.2.2.1.1, a1.2.2.1.2.1, ())).bind fun v3 =>
      cond (!v3.1)
        (some (false, ()))
        (cond (a1.2.2.1.1 == 0)
          (cond (!(eqS a1.2.2.1.2.2.1 ([] : List UInt8)))
            (some (false, ()))
            (cond (decide ((a1.2.2.1.2.2.1.length : Int) > 20000))
              (some (false, ()))
              (cond (decide (a1.2.2.1.2.1 > a1.1))
                (some (false, ()))
                (cond (decide ((a1.2.2.2.1.length : Int) > 60))
                  (some (false, ()))
                  (cond (decide (w64 (a1.2.2.1.1 + (a1.2.2.2.1.length : Int)) > 100000))
                    (some (false, ()))
                    (k5 a1.2.2.1.2.1 0 a1))))))
          (cond (decide ((a1.2.2.1.2.2.1.length : Int) > 20000))
            (some (false, ()))
            (cond (decide (a1.2.2.1.2.1 > a1.1))
              (some (false, ()))
              (cond (decide ((a1.2.2.2.1.length : Int) > 60))
                (some (false, ()))
                (cond (decide (w64 (a1.2.2.1.1 + (a1.2.2.2.1.length : Int)) > 100000))
                  (some (false, ()))
                  (k5 a1.2.2.1.2.1 0 a1))))))))
def spec_KeptOk_b5 (k5 : spec_KeptOk_K5) (x1 : Int) (x2 : Int) (x3 : tKept.D) : Option (Bool × Unit) :=
  cond (decide (x2 < (x3.2.2.2.1.length : Int)))
    ((ix x3.2.2.2.1.length x2).bind fun v1 =>
    cond (decide ((gd tEntry x3.2.2.2.1 v1).1 < 1))
      (some (false, ()))
      (cond (decide ((gd tEntry x3.2.2.2.1 v1).1 < x1))
        (some (false, ()))
        (cond (decide ((gd tEntry x3.2.2.2.1 v1).1 > x3.1))
          (some (false, ()))
          (cond (decide ((((gd tEntry x3.2.2.2.1 v1).2.1).length : Int) > 1600))
            (some (false, ()))
            (k5 ((gd tEntry x3.2.2.2.1 v1).1) (w64 (x2 + 1)) x3)))))
    (some (true, ()))
def spec_KeptOk_L5 : Nat → spec_KeptOk_K5
  | 0, _, _, _ => none
  | m + 1, x1, x2, x3 => spec_KeptOk_b5 (spec_KeptOk_L5 m) x1 x2 x3
def spec_KeptOk (x : tKept.D × Unit) : Option (Bool × Unit) := spec_KeptOk_s (spec_KeptOk_L5 BIG) x.1

/-! spec.l13Kept -/
def spec_l13Kept_s_v1 (a1 : tCore.D) (a2 : List UInt8) (v1 : List tEntry.D) : Option (tKept.D × Unit) :=
  cond (a1.2.2.2.2.2.2.1 != 0)
    (some ((a1.2.2.1, a1.2.2.2.1, (a1.2.2.2.2.2.2.1, a1.2.2.2.2.2.2.2.1, a2, ()), v1, ()), ()))
    (some ((a1.2.2.1, a1.2.2.2.1, (0, 0, ([] : List UInt8), ()), v1, ()), ()))
def spec_l13Kept_s_v2 (a1 : tCore.D) (a2 : List UInt8) (v2 : List tEntry.D) : Option (tKept.D × Unit) :=
  cond (a1.2.2.2.2.2.2.1 != 0)
    (some ((a1.2.2.1, a1.2.2.2.1, (a1.2.2.2.2.2.2.1, a1.2.2.2.2.2.2.2.1, a2, ()), v2, ()), ()))
    (some ((a1.2.2.1, a1.2.2.2.1, (0, 0, ([] : List UInt8), ()), v2, ()), ()))
def spec_l13Kept_s (a1 : tCore.D) (a2 : List UInt8) : Option (tKept.D × Unit) :=
  both
    (dup
      (cond (room (([] : List tEntry.D).length + a1.2.2.2.2.2.2.2.2.1.length))
        (spec_l13Kept_s_v1 a1 a2 (([] : List tEntry.D) ++ a1.2.2.2.2.2.2.2.2.1))
        (none)))
    (cond (room (([] : List tEntry.D).length + a1.2.2.2.2.2.2.2.2.1.length))
      (spec_l13Kept_s_v2 a1 a2 (([] : List tEntry.D) ++ a1.2.2.2.2.2.2.2.2.1))
      (none))
def spec_l13Kept (x : tCore.D × (List UInt8) × Unit) : Option (tKept.D × Unit) := spec_l13Kept_s x.1 x.2.1

/-! spec.l13Last -/
def spec_l13Last_s (a1 : tCore.D) : Option (Int × Unit) :=
  some (w64 (a1.2.2.2.2.2.2.1 + (a1.2.2.2.2.2.2.2.2.1.length : Int)), ())
def spec_l13Last (x : tCore.D × Unit) : Option (Int × Unit) := spec_l13Last_s x.1

/-! spec.l13In -/
abbrev spec_l13In_K2 : Type := (List Int) → Int → Int → Option (Bool × Unit)
def spec_l13In_s (k2 : spec_l13In_K2) (a1 : List Int) (a2 : Int) : Option (Bool × Unit) :=
  k2 a1 a2 0
def spec_l13In_b2 (k2 : spec_l13In_K2) (x1 : List Int) (x2 : Int) (x3 : Int) : Option (Bool × Unit) :=
  cond (decide (x3 < (x1.length : Int)))
    ((ix x1.length x3).bind fun v1 =>
    cond (gd (Ty.int .i64) x1 v1 == x2)
      (some (true, ()))
      (k2 x1 x2 (w64 (x3 + 1))))
    (some (false, ()))
def spec_l13In_L2 : Nat → spec_l13In_K2
  | 0, _, _, _ => none
  | m + 1, x1, x2, x3 => spec_l13In_b2 (spec_l13In_L2 m) x1 x2 x3
def spec_l13In (x : (List Int) × Int × Unit) : Option (Bool × Unit) := spec_l13In_s (spec_l13In_L2 BIG) x.1 x.2.1

/-! spec.CoreOk -/
structure spec_CoreOk_K where
  k3 : tCore.D → Option (Bool × Unit)
  k8 : Int → tCore.D → Option (Bool × Unit)
  k17 : Int → tCore.D → Option (Bool × Unit)
def spec_CoreOk_s (k : spec_CoreOk_K) (a1 : tCore.D) : Option (Bool × Unit) :=
  (spec_l1In (a1.2.1, 1, 5, ())).bind fun v1 =>
  cond (!v1.1)
    (some (false, ()))
    ((spec_l1In (a1.1, 0, w64 (a1.2.1 - 1), ())).bind fun v2 =>
    cond (!v2.1)
      (some (false, ()))
      (cond (a1.2.2.2.2.2.2.1 == 0)
        (cond (a1.2.2.2.2.2.2.2.1 != 0)
          (some (false, ()))
          ((spec_l13Kept (a1, ([] : List UInt8), ())).bind fun v3 =>
          (spec_KeptOk (v3.1, ())).bind fun v4 =>
          cond (!v4.1)
            (some (false, ()))
            (cond (decide (a1.2.2.2.1 ≥ a1.2.1))
              (some (false, ()))
              ((spec_l13Last (a1, ())).bind fun v5 =>
              (spec_l1In (a1.2.2.2.2.2.2.2.2.2.1, a1.2.2.2.2.2.2.1, v5.1, ())).bind fun v6 =>
              cond (!v6.1)
                (some (false, ()))
                (k.k3 a1)))))
        ((spec_l13Kept (a1, ([] : List UInt8), ())).bind fun v7 =>
        (spec_KeptOk (v7.1, ())).bind fun v8 =>
        cond (!v8.1)
          (some (false, ()))
          (cond (decide (a1.2.2.2.1 ≥ a1.2.1))
            (some (false, ()))
            ((spec_l13Last (a1, ())).bind fun v9 =>
            (spec_l1In (a1.2.2.2.2.2.2.2.2.2.1, a1.2.2.2.2.2.2.1, v9.1, ())).bind fun v10 =>
            cond (!v10.1)
              (some (false, ()))
              (k.k3 a1))))))
def spec_CoreOk_b3 (k : spec_CoreOk_K) (x1 : tCore.D) : Option (Bool × Unit) :=
  cond (x1.2.2.2.2.1 == 1)
    ((spec_l1In (x1.2.2.2.2.2.1, (-1), w64 (x1.2.1 - 1), ())).bind fun v1 =>
    cond v1.1
      (cond (x1.2.2.2.2.2.1 != x1.1)
        (cond ((x1.2.2.2.2.2.2.2.2.2.2.1.length : Int) == 0)
          (cond ((x1.2.2.2.2.2.2.2.2.2.2.2.1.length : Int) == 0)
            (some ((x1.2.2.2.2.2.2.2.2.2.2.2.2.1.length : Int) == 0, ()))
            (some (false, ())))
          (some (false, ())))
        (some (false, ())))
      (some (false, ())))
    (cond (x1.2.2.2.2.1 == 2)
      (k.k8 0 x1)
      (cond (x1.2.2.2.2.1 == 3)
        (cond (decide (x1.2.2.1 < 1))
          (some (false, ()))
          (cond (x1.2.2.2.1 != x1.1)
            (some (false, ()))
            (cond (x1.2.2.2.2.2.1 != x1.1)
              (some (false, ()))
              (cond (decide ((x1.2.2.2.2.2.2.2.2.2.2.1.length : Int) > 0))
                (some (false, ()))
                (cond ((x1.2.2.2.2.2.2.2.2.2.2.2.1.length : Int) != x1.2.1)
                  (some (false, ()))
                  (cond ((x1.2.2.2.2.2.2.2.2.2.2.2.2.1.length : Int) != x1.2.1)
                    (some (false, ()))
                    ((ix x1.2.2.2.2.2.2.2.2.2.2.2.2.1.length x1.1).bind fun v2 =>
                    (spec_l13Last (x1, ())).bind fun v3 =>
                    cond (gd (Ty.int .i64) x1.2.2.2.2.2.2.2.2.2.2.2.2.1 v2 != v3.1)
                      (some (false, ()))
                      (k.k17 0 x1))))))))
        (some (false, ()))))
def spec_CoreOk_b8 (k : spec_CoreOk_K) (x1 : Int) (x2 : tCore.D) : Option (Bool × Unit) :=
  cond (decide (x1 < (x2.2.2.2.2.2.2.2.2.2.2.1.length : Int)))
    ((ix x2.2.2.2.2.2.2.2.2.2.2.1.length x1).bind fun v1 =>
    (spec_l1In (gd (Ty.int .i64) x2.2.2.2.2.2.2.2.2.2.2.1 v1, 0, w64 (x2.2.1 - 1), ())).bind fun v2 =>
    cond (!v2.1)
      (some (false, ()))
      (cond (decide (x1 > 0))
        ((ix x2.2.2.2.2.2.2.2.2.2.2.1.length (w64 (x1 - 1))).bind fun v3 =>
        (ix x2.2.2.2.2.2.2.2.2.2.2.1.length x1).bind fun v4 =>
        cond (decide (gd (Ty.int .i64) x2.2.2.2.2.2.2.2.2.2.2.1 v3 ≥ gd (Ty.int .i64) x2.2.2.2.2.2.2.2.2.2.2.1 v4))
          (some (false, ()))
          (k.k8 (w64 (x1 + 1)) x2))
        (k.k8 (w64 (x1 + 1)) x2)))
    (cond (decide (x2.2.2.1 ≥ 1))
      (cond (x2.2.2.2.1 == x2.1)
        (cond (x2.2.2.2.2.2.1 == (-1))
          ((spec_l13In (x2.2.2.2.2.2.2.2.2.2.2.1, x2.1, ())).bind fun v5 =>
          cond v5.1
            (cond (decide (w64 (2 * (x2.2.2.2.2.2.2.2.2.2.2.1.length : Int)) ≤ x2.2.1))
              (cond ((x2.2.2.2.2.2.2.2.2.2.2.2.1.length : Int) == 0)
                (some ((x2.2.2.2.2.2.2.2.2.2.2.2.2.1.length : Int) == 0, ()))
                (some (false, ())))
              (some (false, ())))
            (some (false, ())))
          (some (false, ())))
        (some (false, ())))
      (some (false, ())))
def spec_CoreOk_b17 (k : spec_CoreOk_K) (x1 : Int) (x2 : tCore.D) : Option (Bool × Unit) :=
  cond (decide (x1 < x2.2.1))
    ((ix x2.2.2.2.2.2.2.2.2.2.2.2.2.1.length x1).bind fun v1 =>
    cond (decide (gd (Ty.int .i64) x2.2.2.2.2.2.2.2.2.2.2.2.2.1 v1 < 0))
      (some (false, ()))
      ((ix x2.2.2.2.2.2.2.2.2.2.2.2.1.length x1).bind fun v2 =>
      (ix x2.2.2.2.2.2.2.2.2.2.2.2.2.1.length x1).bind fun v3 =>
      cond (decide (gd (Ty.int .i64) x2.2.2.2.2.2.2.2.2.2.2.2.1 v2 ≤ gd (Ty.int .i64) x2.2.2.2.2.2.2.2.2.2.2.2.2.1 v3))
        (some (false, ()))
        ((ix x2.2.2.2.2.2.2.2.2.2.2.2.1.length x1).bind fun v4 =>
        (spec_l13Last (x2, ())).bind fun v5 =>
        cond (decide (gd (Ty.int .i64) x2.2.2.2.2.2.2.2.2.2.2.2.1 v4 > w64 (v5.1 + 1)))
          (some (false, ()))
          (k.k17 (w64 (x1 + 1)) x2))))
    (some (true, ()))
def spec_CoreOk_N (k : spec_CoreOk_K) : spec_CoreOk_K := ⟨spec_CoreOk_b3 k, spec_CoreOk_b8 k, spec_CoreOk_b17 k⟩
def spec_CoreOk_L : Nat → spec_CoreOk_K := iterK spec_CoreOk_N ⟨fun _ => none, fun _ _ => none, fun _ _ => none⟩
def spec_CoreOk (x : tCore.D × Unit) : Option (Bool × Unit) := spec_CoreOk_s (spec_CoreOk_L BIG) x.1

/-! spec.l1New -/
abbrev spec_l1New_K3 : Type := (List Int) → Int → Int → Option (tL1Cur.D × Unit)
def spec_l1New_s (k3 : spec_l1New_K3) (a1 : List Int) : Option (tL1Cur.D × Unit) :=
  k3 a1 (w64 (10101 + (a1.length : Int))) 0
def spec_l1New_b3 (k3 : spec_l1New_K3) (x1 : List Int) (x2 : Int) (x3 : Int) : Option (tL1Cur.D × Unit) :=
  cond (decide (x3 < (x1.length : Int)))
    (cond (decide (x3 < 4000))
      ((ix x1.length x3).bind fun v1 =>
      k3 x1 (bitsI .and .i64 (w64 (w64 (w64 (x2 * 131) + w64 (gd (Ty.int .u8) x1 v1)) + 7)) 1073741823) (w64 (x3 + 1)))
      (some ((x1, 0, x2, ()), ())))
    (some ((x1, 0, x2, ()), ()))
def spec_l1New_L3 : Nat → spec_l1New_K3
  | 0, _, _, _ => none
  | m + 1, x1, x2, x3 => spec_l1New_b3 (spec_l1New_L3 m) x1 x2 x3
def spec_l1New (x : (List Int) × Unit) : Option (tL1Cur.D × Unit) := spec_l1New_s (spec_l1New_L3 BIG) x.1

/-! spec.l1Byte -/
abbrev spec_l1Byte_R : Type := Int × tL1Cur.D × Unit
def spec_l1Byte_s (a1 : tL1Cur.D) : Option (spec_l1Byte_R) :=
  cond (decide (a1.2.1 < (a1.1.length : Int)))
    ((ix a1.1.length a1.2.1).bind fun v1 =>
    some (bitsI .and .i64 (w64 (bitsI .and .i64 (bitsI .xor .i64 (Int.fdiv (w64 (w64 (a1.2.2.1 * 6364136223846793005) + 1442695040888963407)) (2 ^ min (Int.toNat 33) 64)) (Int.fdiv (w64 (w64 (a1.2.2.1 * 6364136223846793005) + 1442695040888963407)) (2 ^ min (Int.toNat 45) 64))) 255 + w64 (gd (Ty.int .u8) a1.1 v1))) 255, (a1.1, w64 (a1.2.1 + 1), w64 (w64 (a1.2.2.1 * 6364136223846793005) + 1442695040888963407), ()), ()))
    (some (bitsI .and .i64 (bitsI .xor .i64 (Int.fdiv (w64 (w64 (a1.2.2.1 * 6364136223846793005) + 1442695040888963407)) (2 ^ min (Int.toNat 33) 64)) (Int.fdiv (w64 (w64 (a1.2.2.1 * 6364136223846793005) + 1442695040888963407)) (2 ^ min (Int.toNat 45) 64))) 255, (a1.1, a1.2.1, w64 (w64 (a1.2.2.1 * 6364136223846793005) + 1442695040888963407), ()), ()))
def spec_l1Byte (x : tL1Cur.D × Unit) : Option (spec_l1Byte_R) := spec_l1Byte_s x.1

/-! spec.l1Below -/
abbrev spec_l1Below_R : Type := Int × tL1Cur.D × Unit
def spec_l1Below_s (a1 : tL1Cur.D) (a2 : Int) : Option (spec_l1Below_R) :=
  cond (decide (a2 ≤ 0))
    (some (0, a1, ()))
    (cond (decide (a2 ≤ 256))
      ((spec_l1Byte (a1, ())).bind fun v1 =>
      cond (a2 != 0)
        (some (Int.tmod v1.1 a2, v1.2.1, ()))
        (none))
      ((spec_l1Byte (a1, ())).bind fun v2 =>
      (spec_l1Byte (v2.2.1, ())).bind fun v3 =>
      (spec_l1Byte (v3.2.1, ())).bind fun v4 =>
      (spec_l1Byte (v4.2.1, ())).bind fun v5 =>
      cond (a2 != 0)
        (some (Int.tmod (w64 (w64 (w64 (w64 (v2.1 * 16777216) + w64 (v3.1 * 65536)) + w64 (v4.1 * 256)) + v5.1)) a2, v5.2.1, ()))
        (none)))
def spec_l1Below (x : tL1Cur.D × Int × Unit) : Option (spec_l1Below_R) := spec_l1Below_s x.1 x.2.1

/-! spec.l1Once -/
abbrev spec_l1Once_R : Type := Bool × tL1Cur.D × Unit
def spec_l1Once_s (a1 : tL1Cur.D) (a2 : Int) : Option (spec_l1Once_R) :=
  (spec_l1Below (a1, a2, ())).bind fun v1 =>
  some (v1.1 == 0, v1.2.1, ())
def spec_l1Once (x : tL1Cur.D × Int × Unit) : Option (spec_l1Once_R) := spec_l1Once_s x.1 x.2.1

/-! spec.l13Copy -/
def spec_l13Copy_s_v4 (a1 : tCore.D) (v1 : List tEntry.D) (v2 : List Int) (v3 : List Int) (v4 : List Int) : Option (tCore.D × Unit) :=
  some ((a1.1, a1.2.1, a1.2.2.1, a1.2.2.2.1, a1.2.2.2.2.1, a1.2.2.2.2.2.1, a1.2.2.2.2.2.2.1, a1.2.2.2.2.2.2.2.1, v1, a1.2.2.2.2.2.2.2.2.2.1, v2, v3, v4, ()), ())
def spec_l13Copy_s_v3 (a1 : tCore.D) (v1 : List tEntry.D) (v2 : List Int) (v3 : List Int) : Option (tCore.D × Unit) :=
  cond (room (([] : List Int).length + a1.2.2.2.2.2.2.2.2.2.2.2.2.1.length))
    (spec_l13Copy_s_v4 a1 v1 v2 v3 (([] : List Int) ++ a1.2.2.2.2.2.2.2.2.2.2.2.2.1))
    (none)
def spec_l13Copy_s_v2 (a1 : tCore.D) (v1 : List tEntry.D) (v2 : List Int) : Option (tCore.D × Unit) :=
  cond (room (([] : List Int).length + a1.2.2.2.2.2.2.2.2.2.2.2.1.length))
    (spec_l13Copy_s_v3 a1 v1 v2 (([] : List Int) ++ a1.2.2.2.2.2.2.2.2.2.2.2.1))
    (none)
def spec_l13Copy_s_v1 (a1 : tCore.D) (v1 : List tEntry.D) : Option (tCore.D × Unit) :=
  cond (room (([] : List Int).length + a1.2.2.2.2.2.2.2.2.2.2.1.length))
    (spec_l13Copy_s_v2 a1 v1 (([] : List Int) ++ a1.2.2.2.2.2.2.2.2.2.2.1))
    (none)
def spec_l13Copy_s (a1 : tCore.D) : Option (tCore.D × Unit) :=
  cond (room (([] : List tEntry.D).length + a1.2.2.2.2.2.2.2.2.1.length))
    (spec_l13Copy_s_v1 a1 (([] : List tEntry.D) ++ a1.2.2.2.2.2.2.2.2.1))
    (none)
def spec_l13Copy (x : tCore.D × Unit) : Option (tCore.D × Unit) := spec_l13Copy_s x.1

/-! spec.l1PickInt -/
abbrev spec_l1PickInt_R : Type := Int × tL1Cur.D × Unit
def spec_l1PickInt_s (a1 : tL1Cur.D) (a2 : List Int) : Option (spec_l1PickInt_R) :=
  (spec_l1Below (a1, (a2.length : Int), ())).bind fun v1 =>
  (ix a2.length v1.1).bind fun v2 =>
  some (gd (Ty.int .i64) a2 (0 + v2), v1.2.1, ())
def spec_l1PickInt (x : tL1Cur.D × (List Int) × Unit) : Option (spec_l1PickInt_R) := spec_l1PickInt_s x.1 x.2.1

/-! spec.l1Text -/
abbrev spec_l1Text_R : Type := (List UInt8) × tL1Cur.D × Unit
structure spec_l1Text_K where
  k4 : Int → Int → tL1Cur.D → (List Int) → Option (spec_l1Text_R)
  k11 : Int → Int → Int → tL1Cur.D → (List Int) → Option (spec_l1Text_R)
def spec_l1Text_s (k : spec_l1Text_K) (a1 : tL1Cur.D) (a2 : Int) : Option (spec_l1Text_R) :=
  (spec_l1Below (a1, 4, ())).bind fun v1 =>
  (spec_l1Below (v1.2.1, w64 (a2 + 1), ())).bind fun v2 =>
  k.k4 v1.1 v2.1 v2.2.1 ([] : List Int)
def spec_l1Text_b4 (k : spec_l1Text_K) (x1 : Int) (x2 : Int) (x3 : tL1Cur.D) (x4 : List Int) : Option (spec_l1Text_R) :=
  cond (decide (x2 > 0))
    ((spec_l1Byte (x3, ())).bind fun v1 =>
    cond (x1 == 1)
      (cond (x1 == 2)
        (k.k11 x1 x2 (w64 (97 + Int.tmod (Int.tmod v1.1 2) 4)) v1.2.1 x4)
        (k.k11 x1 x2 (Int.tmod v1.1 2) v1.2.1 x4))
      (cond (x1 == 2)
        (k.k11 x1 x2 (w64 (97 + Int.tmod v1.1 4)) v1.2.1 x4)
        (k.k11 x1 x2 v1.1 v1.2.1 x4)))
    (some (bytesStr x4, x3, ()))
def spec_l1Text_b11 (k : spec_l1Text_K) (x1 : Int) (x2 : Int) (x3 : Int) (x4 : tL1Cur.D) (x5 : List Int) : Option (spec_l1Text_R) :=
  cond (room (x5.length + [IntKind.wrap .u8 (x3)].length))
    (k.k4 x1 (w64 (x2 - 1)) x4 (x5 ++ [IntKind.wrap .u8 (x3)]))
    (none)
def spec_l1Text_N (k : spec_l1Text_K) : spec_l1Text_K := ⟨spec_l1Text_b4 k, spec_l1Text_b11 k⟩
def spec_l1Text_L : Nat → spec_l1Text_K := iterK spec_l1Text_N ⟨fun _ _ _ _ => none, fun _ _ _ _ _ => none⟩
def spec_l1Text (x : tL1Cur.D × Int × Unit) : Option (spec_l1Text_R) := spec_l1Text_s (spec_l1Text_L BIG) x.1 x.2.1

/-! spec.l3Entries -/
abbrev spec_l3Entries_R : Type := (List tEntry.D) × tL1Cur.D × Unit
structure spec_l3Entries_K where
  k3 : Int → Int → Int → tL1Cur.D → (List tEntry.D) → Option (spec_l3Entries_R)
  k7 : Int → Int → Int → tL1Cur.D → (List tEntry.D) → Option (spec_l3Entries_R)
def spec_l3Entries_s (k : spec_l3Entries_K) (a1 : tL1Cur.D) (a2 : Int) (a3 : Int) (a4 : Int) : Option (spec_l3Entries_R) :=
  (spec_l1Below (a1, w64 (a2 + 1), ())).bind fun v1 =>
  k.k3 a3 a4 v1.1 v1.2.1 ([] : List tEntry.D)
def spec_l3Entries_b3 (k : spec_l3Entries_K) (x1 : Int) (x2 : Int) (x3 : Int) (x4 : tL1Cur.D) (x5 : List tEntry.D) : Option (spec_l3Entries_R) :=
  cond (decide (x3 > 0))
    (cond (decide (x1 < 1))
      (k.k7 (w64 (x1 + 1)) x2 x3 x4 x5)
      (cond (decide (x1 < x2))
        ((spec_l1Once (x4, 3, ())).bind fun v1 =>
        cond v1.1
          (k.k7 (w64 (x1 + 1)) x2 x3 v1.2.1 x5)
          (k.k7 x1 x2 x3 v1.2.1 x5))
        (k.k7 x1 x2 x3 x4 x5)))
    (some (x5, x4, ()))
def spec_l3Entries_b7 (k : spec_l3Entries_K) (x1 : Int) (x2 : Int) (x3 : Int) (x4 : tL1Cur.D) (x5 : List tEntry.D) : Option (spec_l3Entries_R) :=
  cond (decide (x1 > x2))
    (some (x5, x4, ()))
    ((spec_l1Text (x4, 8, ())).bind fun v1 =>
    cond (room (x5.length + [(x1, v1.1, ())].length))
      (k.k3 x1 x2 (w64 (x3 - 1)) v1.2.1 (x5 ++ [(x1, v1.1, ())]))
      (none))
def spec_l3Entries_N (k : spec_l3Entries_K) : spec_l3Entries_K := ⟨spec_l3Entries_b3 k, spec_l3Entries_b7 k⟩
def spec_l3Entries_L : Nat → spec_l3Entries_K := iterK spec_l3Entries_N ⟨fun _ _ _ _ _ => none, fun _ _ _ _ _ => none⟩
def spec_l3Entries (x : tL1Cur.D × Int × Int × Int × Unit) : Option (spec_l3Entries_R) := spec_l3Entries_s (spec_l3Entries_L BIG) x.1 x.2.1 x.2.2.1 x.2.2.2.1

/-! spec.l3Kept -/
abbrev spec_l3Kept_R : Type := tKept.D × tL1Cur.D × Unit
structure spec_l3Kept_K where
  k4 : tL1Cur.D → tKept.D → tKept.D → Option (spec_l3Kept_R)
  k7 : tL1Cur.D → tKept.D → tKept.D → Option (spec_l3Kept_R)
  k9 : Int → tKept.D → tKept.D → tL1Cur.D → Option (spec_l3Kept_R)
def spec_l3Kept_s (k : spec_l3Kept_K) (a1 : tL1Cur.D) : Option (spec_l3Kept_R) :=
  (spec_l1Below (a1, 8, ())).bind fun v1 =>
  (spec_l1Below (v1.2.1, 6, ())).bind fun v2 =>
  cond (decide (v1.1 > 0))
    ((spec_l1Once (v2.2.1, 2, ())).bind fun v3 =>
    cond v3.1
      ((spec_l1Below (v3.2.1, 9, ())).bind fun v4 =>
      (spec_l1Below (v4.2.1, v1.1, ())).bind fun v5 =>
      (spec_l1Text (v5.2.1, 12, ())).bind fun v6 =>
      k.k4 v6.2.1 (0, 0, (0, 0, ([] : List UInt8), ()), ([] : List tEntry.D), ()) (v1.1, w64 (v2.1 - 1), (w64 (1 + v4.1), w64 (1 + v5.1), v6.1, ()), ([] : List tEntry.D), ()))
      (k.k4 v3.2.1 (0, 0, (0, 0, ([] : List UInt8), ()), ([] : List tEntry.D), ()) (v1.1, w64 (v2.1 - 1), (0, 0, ([] : List UInt8), ()), ([] : List tEntry.D), ())))
    (k.k4 v2.2.1 (0, 0, (0, 0, ([] : List UInt8), ()), ([] : List tEntry.D), ()) (v1.1, w64 (v2.1 - 1), (0, 0, ([] : List UInt8), ()), ([] : List tEntry.D), ()))
def spec_l3Kept_b4 (k : spec_l3Kept_K) (x1 : tL1Cur.D) (x2 : tKept.D) (x3 : tKept.D) : Option (spec_l3Kept_R) :=
  (spec_l3Entries (x1, 6, x3.2.2.1.2.1, x3.1, ())).bind fun v1 =>
  cond (decide (x3.1 > 0))
    ((spec_l1Once (v1.2.1, 25, ())).bind fun v2 =>
    cond v2.1
      ((spec_l1Below (v2.2.1, 2, ())).bind fun v3 =>
      k.k7 v3.2.1 x2 (x3.1, x3.2.1, (w64 (w64 (100000 - (v1.1.length : Int)) + v3.1), 1, ([] : List UInt8), ()), v1.1, ()))
      (k.k7 v2.2.1 x2 (x3.1, x3.2.1, x3.2.2.1, v1.1, ())))
    (k.k7 v1.2.1 x2 (x3.1, x3.2.1, x3.2.2.1, v1.1, ()))
def spec_l3Kept_b7 (k : spec_l3Kept_K) (x1 : tL1Cur.D) (x2 : tKept.D) (x3 : tKept.D) : Option (spec_l3Kept_R) :=
  cond (decide (x3.1 > 0))
    ((spec_l1Once (x1, 25, ())).bind fun v1 =>
    cond v1.1
      ((spec_l1Below (v1.2.1, 2, ())).bind fun v2 =>
      k.k9 (w64 (60 + v2.1)) x2 x3 v2.2.1)
      (some (x3, v1.2.1, ())))
    (some (x3, x1, ()))
def spec_l3Kept_b9_v1 (k : spec_l3Kept_K) (x1 : Int) (x2 : tKept.D) (x3 : tKept.D) (x4 : tL1Cur.D) (v1 : List tEntry.D) : Option (spec_l3Kept_R) :=
  k.k9 x1 x2 (x3.1, x3.2.1, x3.2.2.1, v1, ()) x4
def spec_l3Kept_b9 (k : spec_l3Kept_K) (x1 : Int) (x2 : tKept.D) (x3 : tKept.D) (x4 : tL1Cur.D) : Option (spec_l3Kept_R) :=
  cond (decide ((x3.2.2.2.1.length : Int) < x1))
    (cond (room (x3.2.2.2.1.length + ([(x3.1, ([] : List UInt8), ())]).length))
      (spec_l3Kept_b9_v1 k x1 x2 x3 x4 (x3.2.2.2.1 ++ ([(x3.1, ([] : List UInt8), ())])))
      (none))
    (some (x3, x4, ()))
def spec_l3Kept_N (k : spec_l3Kept_K) : spec_l3Kept_K := ⟨spec_l3Kept_b4 k, spec_l3Kept_b7 k, spec_l3Kept_b9 k⟩
def spec_l3Kept_L : Nat → spec_l3Kept_K := iterK spec_l3Kept_N ⟨fun _ _ _ => none, fun _ _ _ => none, fun _ _ _ _ => none⟩
def spec_l3Kept (x : tL1Cur.D × Unit) : Option (spec_l3Kept_R) := spec_l3Kept_s (spec_l3Kept_L BIG) x.1

/-! spec.CoreOf -/
abbrev spec_CoreOf_R : Type := tCore.D × Bool × Unit
abbrev spec_CoreOf_K2 : Type := tKept.D → tCore.D → tCore.D → Option (spec_CoreOf_R)
def spec_CoreOf_s (k2 : spec_CoreOf_K2) (a1 : Int) (a2 : Int) (a3 : tKept.D) : Option (spec_CoreOf_R) :=
  both
    (dup
      (cond (room (([] : List tEntry.D).length + a3.2.2.2.1.length))
        (k2 a3 (0, 0, 0, 0, 0, 0, 0, 0, ([] : List tEntry.D), 0, ([] : List Int), ([] : List Int), ([] : List Int), ()) (a1, a2, a3.1, a3.2.1, 1, (-1), a3.2.2.1.1, a3.2.2.1.2.1, ([] : List tEntry.D) ++ a3.2.2.2.1, a3.2.2.1.1, ([] : List Int), ([] : List Int), ([] : List Int), ()))
        (none)))
    (cond (room (([] : List tEntry.D).length + a3.2.2.2.1.length))
      (k2 a3 (0, 0, 0, 0, 0, 0, 0, 0, ([] : List tEntry.D), 0, ([] : List Int), ([] : List Int), ([] : List Int), ()) (a1, a2, a3.1, a3.2.1, 1, (-1), a3.2.2.1.1, a3.2.2.1.2.1, ([] : List tEntry.D) ++ a3.2.2.2.1, a3.2.2.1.1, ([] : List Int), ([] : List Int), ([] : List Int), ()))
      (none))
def spec_CoreOf_b2 (k2 : spec_CoreOf_K2) (x1 : tKept.D) (x2 : tCore.D) (x3 : tCore.D) : Option (spec_CoreOf_R) :=
  (spec_KeptOk (x1, ())).bind fun v1 =>
  cond (!v1.1)
    (some ((0, 0, 0, 0, 0, 0, 0, 0, ([] : List tEntry.D), 0, ([] : List Int), ([] : List Int), ([] : List Int), ()), false, ()))
    ((spec_CoreOk (x3, ())).bind fun v2 =>
    cond (!v2.1)
      (some ((0, 0, 0, 0, 0, 0, 0, 0, ([] : List tEntry.D), 0, ([] : List Int), ([] : List Int), ([] : List Int), ()), false, ()))
      (some (x3, true, ())))
def spec_CoreOf_L2 : Nat → spec_CoreOf_K2
  | 0, _, _, _ => none
  | m + 1, x1, x2, x3 => spec_CoreOf_b2 (spec_CoreOf_L2 m) x1 x2 x3
def spec_CoreOf (x : Int × Int × tKept.D × Unit) : Option (spec_CoreOf_R) := spec_CoreOf_s (spec_CoreOf_L2 BIG) x.1 x.2.1 x.2.2.1

/-! spec.l12Server -/
def spec_l12Server_s (a1 : Int) : Option (Bool × Unit) :=
  (spec_l1In (a1, 0, 4, ())).bind fun v1 =>
  some (v1.1, ())
def spec_l12Server (x : Int × Unit) : Option (Bool × Unit) := spec_l12Server_s x.1

/-! spec.l12Run -/
abbrev spec_l12Run_K4 : Type := (List tEntry.D) → Int → Int → Int → Option (Bool × Unit)
def spec_l12Run_s (k4 : spec_l12Run_K4) (a1 : List tEntry.D) (a2 : Int) (a3 : Int) : Option (Bool × Unit) :=
  cond (decide (a2 < 1))
    (k4 a1 1 a3 0)
    (k4 a1 a2 a3 0)
def spec_l12Run_b4 (k4 : spec_l12Run_K4) (x1 : List tEntry.D) (x2 : Int) (x3 : Int) (x4 : Int) : Option (Bool × Unit) :=
  cond (decide (x4 < (x1.length : Int)))
    ((ix x1.length x4).bind fun v1 =>
    (spec_l1In ((gd tEntry x1 v1).1, x2, x3, ())).bind fun v2 =>
    cond (!v2.1)
      (some (false, ()))
      ((ix x1.length x4).bind fun v3 =>
      cond (decide ((((gd tEntry x1 v3).2.1).length : Int) > 1600))
        (some (false, ()))
        ((ix x1.length x4).bind fun v4 =>
        k4 x1 ((gd tEntry x1 v4).1) x3 (w64 (x4 + 1)))))
    (some (true, ()))
def spec_l12Run_L4 : Nat → spec_l12Run_K4
  | 0, _, _, _, _ => none
  | m + 1, x1, x2, x3, x4 => spec_l12Run_b4 (spec_l12Run_L4 m) x1 x2 x3 x4
def spec_l12Run (x : (List tEntry.D) × Int × Int × Unit) : Option (Bool × Unit) := spec_l12Run_s (spec_l12Run_L4 BIG) x.1 x.2.1 x.2.2.1

/-! spec.l12SameEntries -/
abbrev spec_l12SameEntries_K4 : Type := (List tEntry.D) → (List tEntry.D) → Int → Option (Bool × Unit)
def spec_l12SameEntries_s (k4 : spec_l12SameEntries_K4) (a1 : List tEntry.D) (a2 : List tEntry.D) : Option (Bool × Unit) :=
  cond ((a1.length : Int) != (a2.length : Int))
    (some (false, ()))
    (k4 a1 a2 0)
def spec_l12SameEntries_b4 (k4 : spec_l12SameEntries_K4) (x1 : List tEntry.D) (x2 : List tEntry.D) (x3 : Int) : Option (Bool × Unit) :=
  cond (decide (x3 < (x1.length : Int)))
    ((ix x1.length x3).bind fun v1 =>
    (ix x2.length x3).bind fun v2 =>
    cond (!(((gd tEntry x1 v1).1 == (gd tEntry x2 v2).1) && (eqS ((gd tEntry x1 v1).2.1) ((gd tEntry x2 v2).2.1) && true)))
      (some (false, ()))
      (k4 x1 x2 (w64 (x3 + 1))))
    (some (true, ()))
def spec_l12SameEntries_L4 : Nat → spec_l12SameEntries_K4
  | 0, _, _, _ => none
  | m + 1, x1, x2, x3 => spec_l12SameEntries_b4 (spec_l12SameEntries_L4 m) x1 x2 x3
def spec_l12SameEntries (x : (List tEntry.D) × (List tEntry.D) × Unit) : Option (Bool × Unit) := spec_l12SameEntries_s (spec_l12SameEntries_L4 BIG) x.1 x.2.1

/-! spec.l12Same -/
def spec_l12Same_s (a1 : tMsg.D) (a2 : tMsg.D) : Option (Bool × Unit) :=
  cond (a1.1 != a2.1)
    (some (false, ()))
    (cond (a1.2.1 != a2.2.1)
      (some (false, ()))
      (cond (a1.2.2.1 != a2.2.2.1)
        (some (false, ()))
        (cond (a1.2.2.2.1 != a2.2.2.2.1)
          (some (false, ()))
          (cond (a1.2.2.2.2.1 != a2.2.2.2.2.1)
            (some (false, ()))
            (cond (a1.2.2.2.2.2.1 != a2.2.2.2.2.2.1)
              (some (false, ()))
              (cond (a1.2.2.2.2.2.2.1 != a2.2.2.2.2.2.2.1)
                (some (false, ()))
                (cond (!(a1.2.2.2.2.2.2.2.1 == a2.2.2.2.2.2.2.2.1))
                  (some (false, ()))
                  (cond (!(eqS a1.2.2.2.2.2.2.2.2.2.1 a2.2.2.2.2.2.2.2.2.2.1))
                    (some (false, ()))
                    ((spec_l12SameEntries (a1.2.2.2.2.2.2.2.2.1, a2.2.2.2.2.2.2.2.2.1, ())).bind fun v1 =>
                    some (v1.1, ()))))))))))
def spec_l12Same (x : tMsg.D × tMsg.D × Unit) : Option (Bool × Unit) := spec_l12Same_s x.1 x.2.1

/-! spec.MsgOk -/
structure spec_MsgOk_K where
  k3 : Bool → tMsg.D → tMsg.D → Option (Bool × Unit)
  k6 : Bool → Bool → tMsg.D → tMsg.D → Option (Bool × Unit)
def spec_MsgOk_s (k : spec_MsgOk_K) (a1 : tMsg.D) : Option (Bool × Unit) :=
  (spec_l12Server (a1.2.1, ())).bind fun v1 =>
  cond v1.1
    ((spec_l12Server (a1.2.2.1, ())).bind fun v2 =>
    cond v2.1
      (k.k3 (a1.2.1 != a1.2.2.1) a1 (a1.1, a1.2.1, a1.2.2.1, 0, 0, 0, 0, false, ([] : List tEntry.D), ([] : List UInt8), ()))
      (k.k3 false a1 (a1.1, a1.2.1, a1.2.2.1, 0, 0, 0, 0, false, ([] : List tEntry.D), ([] : List UInt8), ())))
    (k.k3 false a1 (a1.1, a1.2.1, a1.2.2.1, 0, 0, 0, 0, false, ([] : List tEntry.D), ([] : List UInt8), ()))
def spec_MsgOk_b3 (k : spec_MsgOk_K) (x1 : Bool) (x2 : tMsg.D) (x3 : tMsg.D) : Option (Bool × Unit) :=
  (spec_l1In (x2.2.2.2.1, 1, 100000, ())).bind fun v1 =>
  cond x1
    (k.k6 x1 v1.1 x2 (x3.1, x3.2.1, x3.2.2.1, x2.2.2.2.1, x3.2.2.2.2.1, x3.2.2.2.2.2.1, x3.2.2.2.2.2.2.1, x3.2.2.2.2.2.2.2.1, x3.2.2.2.2.2.2.2.2.1, x3.2.2.2.2.2.2.2.2.2.1, ()))
    (k.k6 x1 v1.1 x2 x3)
def spec_MsgOk_b6 (k : spec_MsgOk_K) (x1 : Bool) (x2 : Bool) (x3 : tMsg.D) (x4 : tMsg.D) : Option (Bool × Unit) :=
  cond (x3.1 == 1)
    (cond x1
      (cond x2
        ((spec_l3Place (x3.2.2.2.2.1, x3.2.2.2.2.2.1, ())).bind fun v1 =>
        cond v1.1
          (cond (decide (x3.2.2.2.2.2.1 ≤ x3.2.2.2.1))
            ((spec_l12Same (x3, (x4.1, x4.2.1, x4.2.2.1, x4.2.2.2.1, x3.2.2.2.2.1, x3.2.2.2.2.2.1, x4.2.2.2.2.2.2.1, x4.2.2.2.2.2.2.2.1, x4.2.2.2.2.2.2.2.2.1, x4.2.2.2.2.2.2.2.2.2.1, ()), ())).bind fun v2 =>
            some (v2.1, ()))
            (some (false, ())))
          (some (false, ())))
        (some (false, ())))
      (some (false, ())))
    (cond (x3.1 == 2)
      (cond x1
        (cond x2
          ((spec_l12Same (x3, (x4.1, x4.2.1, x4.2.2.1, x4.2.2.2.1, 0, x4.2.2.2.2.2.1, x4.2.2.2.2.2.2.1, x3.2.2.2.2.2.2.2.1, x4.2.2.2.2.2.2.2.2.1, x4.2.2.2.2.2.2.2.2.2.1, ()), ())).bind fun v3 =>
          some (v3.1, ()))
          (some (false, ())))
        (some (false, ())))
      (cond (x3.1 == 3)
        (cond x1
          (cond x2
            ((spec_l3Place (x3.2.2.2.2.1, x3.2.2.2.2.2.1, ())).bind fun v4 =>
            cond v4.1
              (cond (decide (x3.2.2.2.2.2.1 ≤ x3.2.2.2.1))
                ((spec_l1In (x3.2.2.2.2.2.2.1, 0, 100000, ())).bind fun v5 =>
                cond v5.1
                  (cond (decide ((x3.2.2.2.2.2.2.2.2.1.length : Int) ≤ 4))
                    ((spec_l12Run (x3.2.2.2.2.2.2.2.2.1, x3.2.2.2.2.2.1, x3.2.2.2.1, ())).bind fun v6 =>
                    cond v6.1
                      (cond (decide (w64 (x3.2.2.2.2.1 + (x3.2.2.2.2.2.2.2.2.1.length : Int)) ≤ 100000))
                        ((spec_l12Same (x3, (x4.1, x4.2.1, x4.2.2.1, x4.2.2.2.1, x3.2.2.2.2.1, x3.2.2.2.2.2.1, x3.2.2.2.2.2.2.1, x4.2.2.2.2.2.2.2.1, x3.2.2.2.2.2.2.2.2.1, x4.2.2.2.2.2.2.2.2.2.1, ()), ())).bind fun v7 =>
                        some (v7.1, ()))
                        (some (false, ())))
                      (some (false, ())))
                    (some (false, ())))
                  (some (false, ())))
                (some (false, ())))
              (some (false, ())))
            (some (false, ())))
          (some (false, ())))
        (cond (x3.1 == 4)
          (cond x1
            (cond x2
              ((spec_l1In (x3.2.2.2.2.1, 0, 100000, ())).bind fun v8 =>
              cond v8.1
                ((spec_l12Same (x3, (x4.1, x4.2.1, x4.2.2.1, x4.2.2.2.1, x3.2.2.2.2.1, x4.2.2.2.2.2.1, x4.2.2.2.2.2.2.1, x3.2.2.2.2.2.2.2.1, x4.2.2.2.2.2.2.2.2.1, x4.2.2.2.2.2.2.2.2.2.1, ()), ())).bind fun v9 =>
                some (v9.1, ()))
                (some (false, ())))
              (some (false, ())))
            (some (false, ())))
          (cond (x3.1 == 5)
            (cond x1
              (cond x2
                ((spec_l1In (x3.2.2.2.2.1, 1, 100000, ())).bind fun v10 =>
                cond v10.1
                  ((spec_l1In (x3.2.2.2.2.2.1, 1, x3.2.2.2.1, ())).bind fun v11 =>
                  cond v11.1
                    (cond (decide ((x3.2.2.2.2.2.2.2.2.2.1.length : Int) ≤ 20000))
                      ((spec_l12Same (x3, (x4.1, x4.2.1, x4.2.2.1, x4.2.2.2.1, x3.2.2.2.2.1, x3.2.2.2.2.2.1, x4.2.2.2.2.2.2.1, x4.2.2.2.2.2.2.2.1, x4.2.2.2.2.2.2.2.2.1, x3.2.2.2.2.2.2.2.2.2.1, ()), ())).bind fun v12 =>
                      some (v12.1, ()))
                      (some (false, ())))
                    (some (false, ())))
                  (some (false, ())))
                (some (false, ())))
              (some (false, ())))
            (some (false, ()))))))
def spec_MsgOk_N (k : spec_MsgOk_K) : spec_MsgOk_K := ⟨spec_MsgOk_b3 k, spec_MsgOk_b6 k⟩
def spec_MsgOk_L : Nat → spec_MsgOk_K := iterK spec_MsgOk_N ⟨fun _ _ _ => none, fun _ _ _ _ => none⟩
def spec_MsgOk (x : tMsg.D × Unit) : Option (Bool × Unit) := spec_MsgOk_s (spec_MsgOk_L BIG) x.1

/-! spec.l13Down -/
def spec_l13Down_s (a1 : tCore.D) (a2 : Int) : Option (tCore.D × Unit) :=
  cond (a2 != a1.2.2.1)
    (some ((a1.1, a1.2.1, a2, (-1), 1, (-1), a1.2.2.2.2.2.2.1, a1.2.2.2.2.2.2.2.1, a1.2.2.2.2.2.2.2.2.1, a1.2.2.2.2.2.2.2.2.2.1, ([] : List Int), ([] : List Int), ([] : List Int), ()), ()))
    (some ((a1.1, a1.2.1, a2, a1.2.2.2.1, 1, (-1), a1.2.2.2.2.2.2.1, a1.2.2.2.2.2.2.2.1, a1.2.2.2.2.2.2.2.2.1, a1.2.2.2.2.2.2.2.2.2.1, ([] : List Int), ([] : List Int), ([] : List Int), ()), ()))
def spec_l13Down (x : tCore.D × Int × Unit) : Option (tCore.D × Unit) := spec_l13Down_s x.1 x.2.1

/-! spec.l13TermAt -/
def spec_l13TermAt_s (a1 : tCore.D) (a2 : Int) : Option (Int × Unit) :=
  cond (a2 == a1.2.2.2.2.2.2.1)
    (some (a1.2.2.2.2.2.2.2.1, ()))
    ((ix a1.2.2.2.2.2.2.2.2.1.length (w64 (w64 (a2 - a1.2.2.2.2.2.2.1) - 1))).bind fun v1 =>
    some ((gd tEntry a1.2.2.2.2.2.2.2.2.1 v1).1, ()))
def spec_l13TermAt (x : tCore.D × Int × Unit) : Option (Int × Unit) := spec_l13TermAt_s x.1 x.2.1

/-! spec.l13Vote -/
abbrev spec_l13Vote_R : Type := tCore.D × (List tMsg.D) × Unit
structure spec_l13Vote_K where
  k4 : Bool → tCore.D → tMsg.D → tCore.D → Option (spec_l13Vote_R)
  k6 : Bool → tCore.D → tMsg.D → tCore.D → Option (spec_l13Vote_R)
def spec_l13Vote_s (k : spec_l13Vote_K) (a1 : tCore.D) (a2 : tMsg.D) : Option (spec_l13Vote_R) :=
  (spec_l13Last (a1, ())).bind fun v1 =>
  (spec_l13TermAt (a1, v1.1, ())).bind fun v2 =>
  cond (a1.2.2.2.2.1 == 1)
    (cond (a1.2.2.2.1 == (-1))
      (cond (decide (a2.2.2.2.2.2.1 > v2.1))
        (k.k4 true a1 a2 (0, 0, 0, 0, 0, 0, 0, 0, ([] : List tEntry.D), 0, ([] : List Int), ([] : List Int), ([] : List Int), ()))
        (cond (a2.2.2.2.2.2.1 == v2.1)
          (k.k4 (decide (a2.2.2.2.2.1 ≥ v1.1)) a1 a2 (0, 0, 0, 0, 0, 0, 0, 0, ([] : List tEntry.D), 0, ([] : List Int), ([] : List Int), ([] : List Int), ()))
          (k.k4 false a1 a2 (0, 0, 0, 0, 0, 0, 0, 0, ([] : List tEntry.D), 0, ([] : List Int), ([] : List Int), ([] : List Int), ()))))
      (cond (a1.2.2.2.1 == a2.2.1)
        (cond (decide (a2.2.2.2.2.2.1 > v2.1))
          (k.k4 true a1 a2 (0, 0, 0, 0, 0, 0, 0, 0, ([] : List tEntry.D), 0, ([] : List Int), ([] : List Int), ([] : List Int), ()))
          (cond (a2.2.2.2.2.2.1 == v2.1)
            (k.k4 (decide (a2.2.2.2.2.1 ≥ v1.1)) a1 a2 (0, 0, 0, 0, 0, 0, 0, 0, ([] : List tEntry.D), 0, ([] : List Int), ([] : List Int), ([] : List Int), ()))
            (k.k4 false a1 a2 (0, 0, 0, 0, 0, 0, 0, 0, ([] : List tEntry.D), 0, ([] : List Int), ([] : List Int), ([] : List Int), ()))))
        (k.k4 false a1 a2 (0, 0, 0, 0, 0, 0, 0, 0, ([] : List tEntry.D), 0, ([] : List Int), ([] : List Int), ([] : List Int), ()))))
    (k.k4 false a1 a2 (0, 0, 0, 0, 0, 0, 0, 0, ([] : List tEntry.D), 0, ([] : List Int), ([] : List Int), ([] : List Int), ()))
def spec_l13Vote_b4 (k : spec_l13Vote_K) (x1 : Bool) (x2 : tCore.D) (x3 : tMsg.D) (x4 : tCore.D) : Option (spec_l13Vote_R) :=
  cond x1
    (k.k6 x1 (x2.1, x2.2.1, x2.2.2.1, x3.2.1, x2.2.2.2.2.1, x2.2.2.2.2.2.1, x2.2.2.2.2.2.2.1, x2.2.2.2.2.2.2.2.1, x2.2.2.2.2.2.2.2.2.1, x2.2.2.2.2.2.2.2.2.2.1, x2.2.2.2.2.2.2.2.2.2.2.1, x2.2.2.2.2.2.2.2.2.2.2.2.1, x2.2.2.2.2.2.2.2.2.2.2.2.2.1, ()) x3 x4)
    (k.k6 x1 x2 x3 x4)
def spec_l13Vote_b6 (k : spec_l13Vote_K) (x1 : Bool) (x2 : tCore.D) (x3 : tMsg.D) (x4 : tCore.D) : Option (spec_l13Vote_R) :=
  dup
    (some (x2, [(2, x2.1, x3.2.1, x2.2.2.1, 0, 0, 0, x1, ([] : List tEntry.D), ([] : List UInt8), ())], ()))
def spec_l13Vote_N (k : spec_l13Vote_K) : spec_l13Vote_K := ⟨spec_l13Vote_b4 k, spec_l13Vote_b6 k⟩
def spec_l13Vote_L : Nat → spec_l13Vote_K := iterK spec_l13Vote_N ⟨fun _ _ _ _ => none, fun _ _ _ _ => none⟩
def spec_l13Vote (x : tCore.D × tMsg.D × Unit) : Option (spec_l13Vote_R) := spec_l13Vote_s (spec_l13Vote_L BIG) x.1 x.2.1

/-! spec.l13Count -/
structure spec_l13Count_K where
  k2 : Int → tCore.D → tCore.D → Option (tCore.D × Unit)
  k6 : Int → Int → Int → tCore.D → tCore.D → Option (tCore.D × Unit)
def spec_l13Count_s (k : spec_l13Count_K) (a1 : tCore.D) : Option (tCore.D × Unit) :=
  (spec_l13Last (a1, ())).bind fun v1 =>
  k.k2 v1.1 a1 (0, 0, 0, 0, 0, 0, 0, 0, ([] : List tEntry.D), 0, ([] : List Int), ([] : List Int), ([] : List Int), ())
def spec_l13Count_b2 (k : spec_l13Count_K) (x1 : Int) (x2 : tCore.D) (x3 : tCore.D) : Option (tCore.D × Unit) :=
  cond (decide (x1 > x2.2.2.2.2.2.2.2.2.2.1))
    (k.k6 x1 0 0 x2 x3)
    (some (x2, ()))
def spec_l13Count_b6 (k : spec_l13Count_K) (x1 : Int) (x2 : Int) (x3 : Int) (x4 : tCore.D) (x5 : tCore.D) : Option (tCore.D × Unit) :=
  cond (decide (x3 < x4.2.1))
    ((ix x4.2.2.2.2.2.2.2.2.2.2.2.2.1.length x3).bind fun v1 =>
    cond (decide (gd (Ty.int .i64) x4.2.2.2.2.2.2.2.2.2.2.2.2.1 (0 + v1) ≥ x1))
      (k.k6 x1 (w64 (x2 + 1)) (w64 (x3 + 1)) x4 x5)
      (k.k6 x1 x2 (w64 (x3 + 1)) x4 x5))
    ((spec_l13TermAt (x4, x1, ())).bind fun v2 =>
    cond (v2.1 == x4.2.2.1)
      (cond (decide (w64 (2 * x2) > x4.2.1))
        (some ((x4.1, x4.2.1, x4.2.2.1, x4.2.2.2.1, x4.2.2.2.2.1, x4.2.2.2.2.2.1, x4.2.2.2.2.2.2.1, x4.2.2.2.2.2.2.2.1, x4.2.2.2.2.2.2.2.2.1, x1, x4.2.2.2.2.2.2.2.2.2.2.1, x4.2.2.2.2.2.2.2.2.2.2.2.1, x4.2.2.2.2.2.2.2.2.2.2.2.2.1, ()), ()))
        (k.k2 (w64 (x1 - 1)) x4 x5))
      (k.k2 (w64 (x1 - 1)) x4 x5))
def spec_l13Count_N (k : spec_l13Count_K) : spec_l13Count_K := ⟨spec_l13Count_b2 k, spec_l13Count_b6 k⟩
def spec_l13Count_L : Nat → spec_l13Count_K := iterK spec_l13Count_N ⟨fun _ _ _ => none, fun _ _ _ _ _ => none⟩
def spec_l13Count (x : tCore.D × Unit) : Option (tCore.D × Unit) := spec_l13Count_s (spec_l13Count_L BIG) x.1

/-! spec.l13Put -/
abbrev spec_l13Put_K3 : Type := tCore.D → tCore.D → Option (tCore.D × Unit)
def spec_l13Put_s_v2 (k3 : spec_l13Put_K3) (a1 : tCore.D) (v2 : List tEntry.D) : Option (tCore.D × Unit) :=
  k3 (a1.1, a1.2.1, a1.2.2.1, a1.2.2.2.1, a1.2.2.2.2.1, a1.2.2.2.2.2.1, a1.2.2.2.2.2.2.1, a1.2.2.2.2.2.2.2.1, v2, a1.2.2.2.2.2.2.2.2.2.1, a1.2.2.2.2.2.2.2.2.2.2.1, a1.2.2.2.2.2.2.2.2.2.2.2.1, a1.2.2.2.2.2.2.2.2.2.2.2.2.1, ()) (0, 0, 0, 0, 0, 0, 0, 0, ([] : List tEntry.D), 0, ([] : List Int), ([] : List Int), ([] : List Int), ())
def spec_l13Put_s (k3 : spec_l13Put_K3) (a1 : tCore.D) (a2 : List UInt8) : Option (tCore.D × Unit) :=
  cond (decide ((a1.2.2.2.2.2.2.2.2.1.length : Int) < 60))
    ((spec_l13Last (a1, ())).bind fun v1 =>
    cond (decide (v1.1 < 100000))
      (cond (room (a1.2.2.2.2.2.2.2.2.1.length + [(a1.2.2.1, a2, ())].length))
        (spec_l13Put_s_v2 k3 a1 (a1.2.2.2.2.2.2.2.2.1 ++ [(a1.2.2.1, a2, ())]))
        (none))
      (k3 a1 (0, 0, 0, 0, 0, 0, 0, 0, ([] : List tEntry.D), 0, ([] : List Int), ([] : List Int), ([] : List Int), ())))
    (k3 a1 (0, 0, 0, 0, 0, 0, 0, 0, ([] : List tEntry.D), 0, ([] : List Int), ([] : List Int), ([] : List Int), ()))
def spec_l13Put_b3_v6 (x1 : tCore.D) (v3 : List Int) (v6 : List Int) : Option (tCore.D × Unit) :=
  (spec_l13Count ((x1.1, x1.2.1, x1.2.2.1, x1.2.2.2.1, x1.2.2.2.2.1, x1.2.2.2.2.2.1, x1.2.2.2.2.2.2.1, x1.2.2.2.2.2.2.2.1, x1.2.2.2.2.2.2.2.2.1, x1.2.2.2.2.2.2.2.2.2.1, x1.2.2.2.2.2.2.2.2.2.2.1, v6, v3, ()), ())).bind fun v7 =>
  some (v7.1, ())
def spec_l13Put_b3_v3 (x1 : tCore.D) (v3 : List Int) : Option (tCore.D × Unit) :=
  (spec_l13Last ((x1.1, x1.2.1, x1.2.2.1, x1.2.2.2.1, x1.2.2.2.2.1, x1.2.2.2.2.2.1, x1.2.2.2.2.2.2.1, x1.2.2.2.2.2.2.2.1, x1.2.2.2.2.2.2.2.2.1, x1.2.2.2.2.2.2.2.2.2.1, x1.2.2.2.2.2.2.2.2.2.2.1, x1.2.2.2.2.2.2.2.2.2.2.2.1, v3, ()), ())).bind fun v4 =>
  (ix x1.2.2.2.2.2.2.2.2.2.2.2.1.length x1.1).bind fun v5 =>
  spec_l13Put_b3_v6 x1 v3 (x1.2.2.2.2.2.2.2.2.2.2.2.1.set (0 + v5) (w64 (v4.1 + 1)))
def spec_l13Put_b3 (k3 : spec_l13Put_K3) (x1 : tCore.D) (x2 : tCore.D) : Option (tCore.D × Unit) :=
  (spec_l13Last (x1, ())).bind fun v1 =>
  (ix x1.2.2.2.2.2.2.2.2.2.2.2.2.1.length x1.1).bind fun v2 =>
  spec_l13Put_b3_v3 x1 (x1.2.2.2.2.2.2.2.2.2.2.2.2.1.set (0 + v2) v1.1)
def spec_l13Put_L3 : Nat → spec_l13Put_K3
  | 0, _, _ => none
  | m + 1, x1, x2 => spec_l13Put_b3 (spec_l13Put_L3 m) x1 x2
def spec_l13Put (x : tCore.D × (List UInt8) × Unit) : Option (tCore.D × Unit) := spec_l13Put_s (spec_l13Put_L3 BIG) x.1 x.2.1

/-! spec.l13To -/
abbrev spec_l13To_K6 : Type := Int → Int → tCore.D → tMsg.D → tMsg.D → Option (tMsg.D × Unit)
def spec_l13To_s (k6 : spec_l13To_K6) (a1 : tCore.D) (a2 : Int) : Option (tMsg.D × Unit) :=
  (ix a1.2.2.2.2.2.2.2.2.2.2.2.1.length a2).bind fun v1 =>
  cond (decide (gd (Ty.int .i64) a1.2.2.2.2.2.2.2.2.2.2.2.1 v1 ≤ a1.2.2.2.2.2.2.1))
    (some ((5, a1.1, a2, a1.2.2.1, a1.2.2.2.2.2.2.1, a1.2.2.2.2.2.2.2.1, 0, false, ([] : List tEntry.D), ([] : List UInt8), ()), ()))
    (dup
      ((spec_l13TermAt (a1, w64 (gd (Ty.int .i64) a1.2.2.2.2.2.2.2.2.2.2.2.1 v1 - 1), ())).bind fun v2 =>
      k6 (gd (Ty.int .i64) a1.2.2.2.2.2.2.2.2.2.2.2.1 v1) (gd (Ty.int .i64) a1.2.2.2.2.2.2.2.2.2.2.2.1 v1) a1 (0, 0, 0, 0, 0, 0, 0, false, ([] : List tEntry.D), ([] : List UInt8), ()) (3, a1.1, a2, a1.2.2.1, w64 (gd (Ty.int .i64) a1.2.2.2.2.2.2.2.2.2.2.2.1 v1 - 1), v2.1, a1.2.2.2.2.2.2.2.2.2.1, false, ([] : List tEntry.D), ([] : List UInt8), ())))
def spec_l13To_b6_v3 (k6 : spec_l13To_K6) (x1 : Int) (x2 : Int) (x3 : tCore.D) (x4 : tMsg.D) (x5 : tMsg.D) (v3 : List tEntry.D) : Option (tMsg.D × Unit) :=
  k6 x1 (w64 (x2 + 1)) x3 x4 (x5.1, x5.2.1, x5.2.2.1, x5.2.2.2.1, x5.2.2.2.2.1, x5.2.2.2.2.2.1, x5.2.2.2.2.2.2.1, x5.2.2.2.2.2.2.2.1, v3, x5.2.2.2.2.2.2.2.2.2.1, ())
def spec_l13To_b6 (k6 : spec_l13To_K6) (x1 : Int) (x2 : Int) (x3 : tCore.D) (x4 : tMsg.D) (x5 : tMsg.D) : Option (tMsg.D × Unit) :=
  (spec_l13Last (x3, ())).bind fun v1 =>
  cond (decide (x2 ≤ v1.1))
    (cond (decide (x2 < w64 (x1 + 4)))
      ((ix x3.2.2.2.2.2.2.2.2.1.length (w64 (w64 (x2 - x3.2.2.2.2.2.2.1) - 1))).bind fun v2 =>
      cond (room (x5.2.2.2.2.2.2.2.2.1.length + [gd tEntry x3.2.2.2.2.2.2.2.2.1 v2].length))
        (spec_l13To_b6_v3 k6 x1 x2 x3 x4 x5 (x5.2.2.2.2.2.2.2.2.1 ++ [gd tEntry x3.2.2.2.2.2.2.2.2.1 v2]))
        (none))
      (some (x5, ())))
    (some (x5, ()))
def spec_l13To_L6 : Nat → spec_l13To_K6
  | 0, _, _, _, _, _ => none
  | m + 1, x1, x2, x3, x4, x5 => spec_l13To_b6 (spec_l13To_L6 m) x1 x2 x3 x4 x5
def spec_l13To (x : tCore.D × Int × Unit) : Option (tMsg.D × Unit) := spec_l13To_s (spec_l13To_L6 BIG) x.1 x.2.1

/-! spec.l13ToAll -/
abbrev spec_l13ToAll_K3 : Type := Int → tCore.D → (List tMsg.D) → Option ((List tMsg.D) × Unit)
def spec_l13ToAll_s (k3 : spec_l13ToAll_K3) (a1 : tCore.D) : Option ((List tMsg.D) × Unit) :=
  k3 0 a1 ([] : List tMsg.D)
def spec_l13ToAll_b3 (k3 : spec_l13ToAll_K3) (x1 : Int) (x2 : tCore.D) (x3 : List tMsg.D) : Option ((List tMsg.D) × Unit) :=
  cond (decide (x1 < x2.2.1))
    (cond (x1 != x2.1)
      ((spec_l13To (x2, x1, ())).bind fun v1 =>
      cond (room (x3.length + [v1.1].length))
        (k3 (w64 (x1 + 1)) x2 (x3 ++ [v1.1]))
        (none))
      (k3 (w64 (x1 + 1)) x2 x3))
    (some (x3, ()))
def spec_l13ToAll_L3 : Nat → spec_l13ToAll_K3
  | 0, _, _, _ => none
  | m + 1, x1, x2, x3 => spec_l13ToAll_b3 (spec_l13ToAll_L3 m) x1 x2 x3
def spec_l13ToAll (x : tCore.D × Unit) : Option ((List tMsg.D) × Unit) := spec_l13ToAll_s (spec_l13ToAll_L3 BIG) x.1

/-! spec.l13Lead -/
abbrev spec_l13Lead_R : Type := tCore.D × (List tMsg.D) × Unit
abbrev spec_l13Lead_K7 : Type := Int → tCore.D → tCore.D → Option (spec_l13Lead_R)
def spec_l13Lead_s (k7 : spec_l13Lead_K7) (a1 : tCore.D) : Option (spec_l13Lead_R) :=
  k7 0 (a1.1, a1.2.1, a1.2.2.1, a1.2.2.2.1, 3, a1.1, a1.2.2.2.2.2.2.1, a1.2.2.2.2.2.2.2.1, a1.2.2.2.2.2.2.2.2.1, a1.2.2.2.2.2.2.2.2.2.1, ([] : List Int), ([] : List Int), ([] : List Int), ()) (0, 0, 0, 0, 0, 0, 0, 0, ([] : List tEntry.D), 0, ([] : List Int), ([] : List Int), ([] : List Int), ())
def spec_l13Lead_b7_v2 (k7 : spec_l13Lead_K7) (x2 : tCore.D) (x1 : Int) (x3 : tCore.D) (v2 : List Int) : Option (spec_l13Lead_R) :=
  cond (room (x2.2.2.2.2.2.2.2.2.2.2.2.2.1.length + [0].length))
    (k7 (w64 (x1 + 1)) (x2.1, x2.2.1, x2.2.2.1, x2.2.2.2.1, x2.2.2.2.2.1, x2.2.2.2.2.2.1, x2.2.2.2.2.2.2.1, x2.2.2.2.2.2.2.2.1, x2.2.2.2.2.2.2.2.2.1, x2.2.2.2.2.2.2.2.2.2.1, x2.2.2.2.2.2.2.2.2.2.2.1, v2, x2.2.2.2.2.2.2.2.2.2.2.2.2.1 ++ [0], ()) x3)
    (none)
def spec_l13Lead_b7 (k7 : spec_l13Lead_K7) (x1 : Int) (x2 : tCore.D) (x3 : tCore.D) : Option (spec_l13Lead_R) :=
  cond (decide (x1 < x2.2.1))
    ((spec_l13Last (x2, ())).bind fun v1 =>
    cond (room (x2.2.2.2.2.2.2.2.2.2.2.2.1.length + [w64 (v1.1 + 1)].length))
      (spec_l13Lead_b7_v2 k7 x2 x1 x3 (x2.2.2.2.2.2.2.2.2.2.2.2.1 ++ [w64 (v1.1 + 1)]))
      (none))
    ((spec_l13Put (x2, ([] : List UInt8), ())).bind fun v3 =>
    (spec_l13ToAll (v3.1, ())).bind fun v4 =>
    some (v3.1, v4.1, ()))
def spec_l13Lead_L7 : Nat → spec_l13Lead_K7
  | 0, _, _, _ => none
  | m + 1, x1, x2, x3 => spec_l13Lead_b7 (spec_l13Lead_L7 m) x1 x2 x3
def spec_l13Lead (x : tCore.D × Unit) : Option (spec_l13Lead_R) := spec_l13Lead_s (spec_l13Lead_L7 BIG) x.1

/-! spec.l13Voted -/
abbrev spec_l13Voted_R : Type := tCore.D × (List tMsg.D) × Unit
abbrev spec_l13Voted_K5 : Type := Int → tCore.D → tMsg.D → tCore.D → (List Int) → Option (spec_l13Voted_R)
def spec_l13Voted_s (k5 : spec_l13Voted_K5) (a1 : tCore.D) (a2 : tMsg.D) : Option (spec_l13Voted_R) :=
  cond (a1.2.2.2.2.1 != 2)
    (some (a1, ([] : List tMsg.D), ()))
    (cond (!a2.2.2.2.2.2.2.2.1)
      (some (a1, ([] : List tMsg.D), ()))
      (k5 0 a1 a2 (0, 0, 0, 0, 0, 0, 0, 0, ([] : List tEntry.D), 0, ([] : List Int), ([] : List Int), ([] : List Int), ()) ([] : List Int)))
def spec_l13Voted_b5 (k5 : spec_l13Voted_K5) (x1 : Int) (x2 : tCore.D) (x3 : tMsg.D) (x4 : tCore.D) (x5 : List Int) : Option (spec_l13Voted_R) :=
  cond (decide (x1 < x2.2.1))
    (cond (x1 == x3.2.1)
      (cond (room (x5.length + [x1].length))
        (k5 (w64 (x1 + 1)) x2 x3 x4 (x5 ++ [x1]))
        (none))
      ((spec_l13In (x2.2.2.2.2.2.2.2.2.2.2.1, x1, ())).bind fun v1 =>
      cond v1.1
        (cond (room (x5.length + [x1].length))
          (k5 (w64 (x1 + 1)) x2 x3 x4 (x5 ++ [x1]))
          (none))
        (k5 (w64 (x1 + 1)) x2 x3 x4 x5)))
    (cond (decide (w64 (2 * (x5.length : Int)) > x2.2.1))
      ((spec_l13Lead ((x2.1, x2.2.1, x2.2.2.1, x2.2.2.2.1, x2.2.2.2.2.1, x2.2.2.2.2.2.1, x2.2.2.2.2.2.2.1, x2.2.2.2.2.2.2.2.1, x2.2.2.2.2.2.2.2.2.1, x2.2.2.2.2.2.2.2.2.2.1, x5, x2.2.2.2.2.2.2.2.2.2.2.2.1, x2.2.2.2.2.2.2.2.2.2.2.2.2.1, ()), ())).bind fun v2 =>
      some (v2.1, v2.2.1, ()))
      (some ((x2.1, x2.2.1, x2.2.2.1, x2.2.2.2.1, x2.2.2.2.2.1, x2.2.2.2.2.2.1, x2.2.2.2.2.2.2.1, x2.2.2.2.2.2.2.2.1, x2.2.2.2.2.2.2.2.2.1, x2.2.2.2.2.2.2.2.2.2.1, x5, x2.2.2.2.2.2.2.2.2.2.2.2.1, x2.2.2.2.2.2.2.2.2.2.2.2.2.1, ()), ([] : List tMsg.D), ())))
def spec_l13Voted_L5 : Nat → spec_l13Voted_K5
  | 0, _, _, _, _, _ => none
  | m + 1, x1, x2, x3, x4, x5 => spec_l13Voted_b5 (spec_l13Voted_L5 m) x1 x2 x3 x4 x5
def spec_l13Voted (x : tCore.D × tMsg.D × Unit) : Option (spec_l13Voted_R) := spec_l13Voted_s (spec_l13Voted_L5 BIG) x.1 x.2.1

/-! spec.l13Told -/
def spec_l13Told_s (a1 : tCore.D) (a2 : Int) (a3 : Bool) (a4 : Int) : Option ((List tMsg.D) × Unit) :=
  some ([(4, a1.1, a2, a1.2.2.1, a4, 0, 0, a3, ([] : List tEntry.D), ([] : List UInt8), ())], ())
def spec_l13Told (x : tCore.D × Int × Bool × Int × Unit) : Option ((List tMsg.D) × Unit) := spec_l13Told_s x.1 x.2.1 x.2.2.1 x.2.2.2.1

/-! spec.l13App -/
abbrev spec_l13App_R : Type := tCore.D × (List tMsg.D) × Unit
structure spec_l13App_K where
  k11 : (List tEntry.D) → Int → tCore.D → tMsg.D → tCore.D → Option (spec_l13App_R)
  k13 : (List tEntry.D) → Int → tCore.D → tMsg.D → tCore.D → Option (spec_l13App_R)
  k15 : (List tEntry.D) → Int → tCore.D → tMsg.D → tCore.D → Option (spec_l13App_R)
  k19 : Int → Int → tCore.D → tMsg.D → tCore.D → Option (spec_l13App_R)
  k24 : (List tEntry.D) → Int → Int → Int → tCore.D → tMsg.D → tCore.D → Option (spec_l13App_R)
  k29 : (List tEntry.D) → Int → Int → Int → Int → tCore.D → tMsg.D → tCore.D → Option (spec_l13App_R)
  k33 : (List tEntry.D) → Int → Int → Int → Int → tCore.D → Nat → Nat → (List tEntry.D) → tMsg.D → tCore.D → Option (spec_l13App_R)
def spec_l13App_s (k : spec_l13App_K) (a1 : tCore.D) (a2 : tMsg.D) : Option (spec_l13App_R) :=
  cond (a1.2.2.2.2.1 == 3)
    (some (a1, ([] : List tMsg.D), ()))
    ((spec_l13Down (a1, a1.2.2.1, ())).bind fun v1 =>
    cond (decide (a2.2.2.2.2.1 < v1.1.2.2.2.2.2.2.1))
      (cond (decide (w64 (v1.1.2.2.2.2.2.2.1 - a2.2.2.2.2.1) > (a2.2.2.2.2.2.2.2.2.1.length : Int)))
        (k.k11 a2.2.2.2.2.2.2.2.2.1 (a2.2.2.2.2.2.2.2.2.1.length : Int) (v1.1.1, v1.1.2.1, v1.1.2.2.1, v1.1.2.2.2.1, v1.1.2.2.2.2.1, a2.2.1, v1.1.2.2.2.2.2.2.1, v1.1.2.2.2.2.2.2.2.1, v1.1.2.2.2.2.2.2.2.2.1, v1.1.2.2.2.2.2.2.2.2.2.1, v1.1.2.2.2.2.2.2.2.2.2.2.1, v1.1.2.2.2.2.2.2.2.2.2.2.2.1, v1.1.2.2.2.2.2.2.2.2.2.2.2.2.1, ()) a2 (0, 0, 0, 0, 0, 0, 0, 0, ([] : List tEntry.D), 0, ([] : List Int), ([] : List Int), ([] : List Int), ()))
        (k.k11 a2.2.2.2.2.2.2.2.2.1 (w64 (v1.1.2.2.2.2.2.2.1 - a2.2.2.2.2.1)) (v1.1.1, v1.1.2.1, v1.1.2.2.1, v1.1.2.2.2.1, v1.1.2.2.2.2.1, a2.2.1, v1.1.2.2.2.2.2.2.1, v1.1.2.2.2.2.2.2.2.1, v1.1.2.2.2.2.2.2.2.2.1, v1.1.2.2.2.2.2.2.2.2.2.1, v1.1.2.2.2.2.2.2.2.2.2.2.1, v1.1.2.2.2.2.2.2.2.2.2.2.2.1, v1.1.2.2.2.2.2.2.2.2.2.2.2.2.1, ()) a2 (0, 0, 0, 0, 0, 0, 0, 0, ([] : List tEntry.D), 0, ([] : List Int), ([] : List Int), ([] : List Int), ())))
      (k.k13 a2.2.2.2.2.2.2.2.2.1 a2.2.2.2.2.1 (v1.1.1, v1.1.2.1, v1.1.2.2.1, v1.1.2.2.2.1, v1.1.2.2.2.2.1, a2.2.1, v1.1.2.2.2.2.2.2.1, v1.1.2.2.2.2.2.2.2.1, v1.1.2.2.2.2.2.2.2.2.1, v1.1.2.2.2.2.2.2.2.2.2.1, v1.1.2.2.2.2.2.2.2.2.2.2.1, v1.1.2.2.2.2.2.2.2.2.2.2.2.1, v1.1.2.2.2.2.2.2.2.2.2.2.2.2.1, ()) a2 (0, 0, 0, 0, 0, 0, 0, 0, ([] : List tEntry.D), 0, ([] : List Int), ([] : List Int), ([] : List Int), ())))
def spec_l13App_b11 (k : spec_l13App_K) (x1 : List tEntry.D) (x2 : Int) (x3 : tCore.D) (x4 : tMsg.D) (x5 : tCore.D) : Option (spec_l13App_R) :=
  (rng x1.length x2 (x1.length : Int)).bind fun v1 =>
  k.k13 (part x1 v1.1 (v1.2 - v1.1)) x3.2.2.2.2.2.2.1 x3 x4 x5
def spec_l13App_b13 (k : spec_l13App_K) (x1 : List tEntry.D) (x2 : Int) (x3 : tCore.D) (x4 : tMsg.D) (x5 : tCore.D) : Option (spec_l13App_R) :=
  cond (x2 == x3.2.2.2.2.2.2.1)
    (cond (decide ((x1.length : Int) > 0))
      ((ix x1.length 0).bind fun v1 =>
      cond (decide ((gd tEntry x1 v1).1 < x3.2.2.2.2.2.2.2.1))
        (some (x3, ([] : List tMsg.D), ()))
        (k.k15 x1 x2 x3 x4 x5))
      (k.k15 x1 x2 x3 x4 x5))
    (k.k15 x1 x2 x3 x4 x5)
def spec_l13App_b15 (k : spec_l13App_K) (x1 : List tEntry.D) (x2 : Int) (x3 : tCore.D) (x4 : tMsg.D) (x5 : tCore.D) : Option (spec_l13App_R) :=
  (spec_l13Last (x3, ())).bind fun v1 =>
  cond (decide (x2 > v1.1))
    ((spec_l13Last (x3, ())).bind fun v2 =>
    (spec_l13Told (x3, x4.2.1, false, v2.1, ())).bind fun v3 =>
    some (x3, v3.1, ()))
    (cond (decide (x2 > x3.2.2.2.2.2.2.1))
      ((spec_l13TermAt (x3, x2, ())).bind fun v4 =>
      cond (v4.1 != x4.2.2.2.2.2.1)
        ((spec_l13TermAt (x3, x2, ())).bind fun v5 =>
        k.k19 x2 v5.1 x3 x4 x5)
        (k.k24 x1 x2 x2 0 x3 x4 x5))
      (k.k24 x1 x2 x2 0 x3 x4 x5))
def spec_l13App_b19 (k : spec_l13App_K) (x1 : Int) (x2 : Int) (x3 : tCore.D) (x4 : tMsg.D) (x5 : tCore.D) : Option (spec_l13App_R) :=
  cond (decide (x1 > x3.2.2.2.2.2.2.1))
    ((spec_l13TermAt (x3, x1, ())).bind fun v1 =>
    cond (v1.1 == x2)
      (k.k19 (w64 (x1 - 1)) x2 x3 x4 x5)
      ((spec_l13Told (x3, x4.2.1, false, x1, ())).bind fun v2 =>
      some (x3, v2.1, ())))
    ((spec_l13Told (x3, x4.2.1, false, x1, ())).bind fun v3 =>
    some (x3, v3.1, ()))
def spec_l13App_b24 (k : spec_l13App_K) (x1 : List tEntry.D) (x2 : Int) (x3 : Int) (x4 : Int) (x5 : tCore.D) (x6 : tMsg.D) (x7 : tCore.D) : Option (spec_l13App_R) :=
  cond (decide (x4 < (x1.length : Int)))
    ((spec_l13Last (x5, ())).bind fun v1 =>
    cond (decide (w64 (w64 (x2 + 1) + x4) ≤ v1.1))
      ((ix x1.length x4).bind fun v2 =>
      (spec_l13TermAt (x5, w64 (w64 (x2 + 1) + x4), ())).bind fun v3 =>
      cond (v3.1 == (gd tEntry x1 v2).1)
        (k.k24 x1 x2 (w64 (w64 (x2 + 1) + x4)) (w64 (x4 + 1)) x5 x6 x7)
        (k.k29 x1 x2 x3 x4 (w64 (w64 (x2 + 1) + x4)) x5 x6 x7))
      (k.k29 x1 x2 x3 x4 (w64 (w64 (x2 + 1) + x4)) x5 x6 x7))
    (cond (decide (x6.2.2.2.2.2.2.1 < x3))
      (cond (decide (x6.2.2.2.2.2.2.1 > x5.2.2.2.2.2.2.2.2.2.1))
        ((spec_l13Told ((x5.1, x5.2.1, x5.2.2.1, x5.2.2.2.1, x5.2.2.2.2.1, x5.2.2.2.2.2.1, x5.2.2.2.2.2.2.1, x5.2.2.2.2.2.2.2.1, x5.2.2.2.2.2.2.2.2.1, x6.2.2.2.2.2.2.1, x5.2.2.2.2.2.2.2.2.2.2.1, x5.2.2.2.2.2.2.2.2.2.2.2.1, x5.2.2.2.2.2.2.2.2.2.2.2.2.1, ()), x6.2.1, true, x3, ())).bind fun v4 =>
        some ((x5.1, x5.2.1, x5.2.2.1, x5.2.2.2.1, x5.2.2.2.2.1, x5.2.2.2.2.2.1, x5.2.2.2.2.2.2.1, x5.2.2.2.2.2.2.2.1, x5.2.2.2.2.2.2.2.2.1, x6.2.2.2.2.2.2.1, x5.2.2.2.2.2.2.2.2.2.2.1, x5.2.2.2.2.2.2.2.2.2.2.2.1, x5.2.2.2.2.2.2.2.2.2.2.2.2.1, ()), v4.1, ()))
        ((spec_l13Told (x5, x6.2.1, true, x3, ())).bind fun v5 =>
        some (x5, v5.1, ())))
      (cond (decide (x3 > x5.2.2.2.2.2.2.2.2.2.1))
        ((spec_l13Told ((x5.1, x5.2.1, x5.2.2.1, x5.2.2.2.1, x5.2.2.2.2.1, x5.2.2.2.2.2.1, x5.2.2.2.2.2.2.1, x5.2.2.2.2.2.2.2.1, x5.2.2.2.2.2.2.2.2.1, x3, x5.2.2.2.2.2.2.2.2.2.2.1, x5.2.2.2.2.2.2.2.2.2.2.2.1, x5.2.2.2.2.2.2.2.2.2.2.2.2.1, ()), x6.2.1, true, x3, ())).bind fun v6 =>
        some ((x5.1, x5.2.1, x5.2.2.1, x5.2.2.2.1, x5.2.2.2.2.1, x5.2.2.2.2.2.1, x5.2.2.2.2.2.2.1, x5.2.2.2.2.2.2.2.1, x5.2.2.2.2.2.2.2.2.1, x3, x5.2.2.2.2.2.2.2.2.2.2.1, x5.2.2.2.2.2.2.2.2.2.2.2.1, x5.2.2.2.2.2.2.2.2.2.2.2.2.1, ()), v6.1, ()))
        ((spec_l13Told (x5, x6.2.1, true, x3, ())).bind fun v7 =>
        some (x5, v7.1, ()))))
def spec_l13App_b29 (k : spec_l13App_K) (x1 : List tEntry.D) (x2 : Int) (x3 : Int) (x4 : Int) (x5 : Int) (x6 : tCore.D) (x7 : tMsg.D) (x8 : tCore.D) : Option (spec_l13App_R) :=
  cond (decide (x5 ≤ x6.2.2.2.2.2.2.2.2.2.1))
    (some (x6, ([] : List tMsg.D), ()))
    ((spec_l13Last (x6, ())).bind fun v1 =>
    cond (decide (x5 ≤ v1.1))
      ((rng x6.2.2.2.2.2.2.2.2.1.length 0 (w64 (w64 (x5 - x6.2.2.2.2.2.2.1) - 1))).bind fun v2 =>
      k.k33 x1 x2 x3 x4 x5 (x6.1, x6.2.1, x6.2.2.1, x6.2.2.2.1, x6.2.2.2.2.1, x6.2.2.2.2.2.1, x6.2.2.2.2.2.2.1, x6.2.2.2.2.2.2.2.1, ([] : List tEntry.D), x6.2.2.2.2.2.2.2.2.2.1, x6.2.2.2.2.2.2.2.2.2.2.1, x6.2.2.2.2.2.2.2.2.2.2.2.1, x6.2.2.2.2.2.2.2.2.2.2.2.2.1, ()) (0 + v2.1) (v2.2 - v2.1) x6.2.2.2.2.2.2.2.2.1 x7 x8)
      (k.k33 x1 x2 x3 x4 x5 (x6.1, x6.2.1, x6.2.2.1, x6.2.2.2.1, x6.2.2.2.2.1, x6.2.2.2.2.2.1, x6.2.2.2.2.2.2.1, x6.2.2.2.2.2.2.2.1, ([] : List tEntry.D), x6.2.2.2.2.2.2.2.2.2.1, x6.2.2.2.2.2.2.2.2.2.2.1, x6.2.2.2.2.2.2.2.2.2.2.2.1, x6.2.2.2.2.2.2.2.2.2.2.2.2.1, ()) 0 x6.2.2.2.2.2.2.2.2.1.length x6.2.2.2.2.2.2.2.2.1 x7 x8))
def spec_l13App_b33 (k : spec_l13App_K) (x1 : List tEntry.D) (x2 : Int) (x3 : Int) (x4 : Int) (x5 : Int) (x6 : tCore.D) (x7 : Nat) (x8 : Nat) (x9 : List tEntry.D) (x10 : tMsg.D) (x11 : tCore.D) : Option (spec_l13App_R) :=
  cond (decide ((x8 : Int) < 60))
    ((ix x1.length x4).bind fun v1 =>
    cond (room ((part x9 x7 x8).length + [gd tEntry x1 v1].length))
      (k.k24 x1 x2 x5 (w64 (x4 + 1)) (x6.1, x6.2.1, x6.2.2.1, x6.2.2.2.1, x6.2.2.2.2.1, x6.2.2.2.2.2.1, x6.2.2.2.2.2.2.1, x6.2.2.2.2.2.2.2.1, (part x9 x7 x8) ++ [gd tEntry x1 v1], x6.2.2.2.2.2.2.2.2.2.1, x6.2.2.2.2.2.2.2.2.2.2.1, x6.2.2.2.2.2.2.2.2.2.2.2.1, x6.2.2.2.2.2.2.2.2.2.2.2.2.1, ()) x10 x11)
      (none))
    (cond (decide (x10.2.2.2.2.2.2.1 < x3))
      (cond (decide (x10.2.2.2.2.2.2.1 > x6.2.2.2.2.2.2.2.2.2.1))
        ((spec_l13Told ((x6.1, x6.2.1, x6.2.2.1, x6.2.2.2.1, x6.2.2.2.2.1, x6.2.2.2.2.2.1, x6.2.2.2.2.2.2.1, x6.2.2.2.2.2.2.2.1, part x9 x7 x8, x10.2.2.2.2.2.2.1, x6.2.2.2.2.2.2.2.2.2.2.1, x6.2.2.2.2.2.2.2.2.2.2.2.1, x6.2.2.2.2.2.2.2.2.2.2.2.2.1, ()), x10.2.1, true, x3, ())).bind fun v2 =>
        some ((x6.1, x6.2.1, x6.2.2.1, x6.2.2.2.1, x6.2.2.2.2.1, x6.2.2.2.2.2.1, x6.2.2.2.2.2.2.1, x6.2.2.2.2.2.2.2.1, part x9 x7 x8, x10.2.2.2.2.2.2.1, x6.2.2.2.2.2.2.2.2.2.2.1, x6.2.2.2.2.2.2.2.2.2.2.2.1, x6.2.2.2.2.2.2.2.2.2.2.2.2.1, ()), v2.1, ()))
        ((spec_l13Told ((x6.1, x6.2.1, x6.2.2.1, x6.2.2.2.1, x6.2.2.2.2.1, x6.2.2.2.2.2.1, x6.2.2.2.2.2.2.1, x6.2.2.2.2.2.2.2.1, part x9 x7 x8, x6.2.2.2.2.2.2.2.2.2.1, x6.2.2.2.2.2.2.2.2.2.2.1, x6.2.2.2.2.2.2.2.2.2.2.2.1, x6.2.2.2.2.2.2.2.2.2.2.2.2.1, ()), x10.2.1, true, x3, ())).bind fun v3 =>
        some ((x6.1, x6.2.1, x6.2.2.1, x6.2.2.2.1, x6.2.2.2.2.1, x6.2.2.2.2.2.1, x6.2.2.2.2.2.2.1, x6.2.2.2.2.2.2.2.1, part x9 x7 x8, x6.2.2.2.2.2.2.2.2.2.1, x6.2.2.2.2.2.2.2.2.2.2.1, x6.2.2.2.2.2.2.2.2.2.2.2.1, x6.2.2.2.2.2.2.2.2.2.2.2.2.1, ()), v3.1, ())))
      (cond (decide (x3 > x6.2.2.2.2.2.2.2.2.2.1))
        ((spec_l13Told ((x6.1, x6.2.1, x6.2.2.1, x6.2.2.2.1, x6.2.2.2.2.1, x6.2.2.2.2.2.1, x6.2.2.2.2.2.2.1, x6.2.2.2.2.2.2.2.1, part x9 x7 x8, x3, x6.2.2.2.2.2.2.2.2.2.2.1, x6.2.2.2.2.2.2.2.2.2.2.2.1, x6.2.2.2.2.2.2.2.2.2.2.2.2.1, ()), x10.2.1, true, x3, ())).bind fun v4 =>
        some ((x6.1, x6.2.1, x6.2.2.1, x6.2.2.2.1, x6.2.2.2.2.1, x6.2.2.2.2.2.1, x6.2.2.2.2.2.2.1, x6.2.2.2.2.2.2.2.1, part x9 x7 x8, x3, x6.2.2.2.2.2.2.2.2.2.2.1, x6.2.2.2.2.2.2.2.2.2.2.2.1, x6.2.2.2.2.2.2.2.2.2.2.2.2.1, ()), v4.1, ()))
        ((spec_l13Told ((x6.1, x6.2.1, x6.2.2.1, x6.2.2.2.1, x6.2.2.2.2.1, x6.2.2.2.2.2.1, x6.2.2.2.2.2.2.1, x6.2.2.2.2.2.2.2.1, part x9 x7 x8, x6.2.2.2.2.2.2.2.2.2.1, x6.2.2.2.2.2.2.2.2.2.2.1, x6.2.2.2.2.2.2.2.2.2.2.2.1, x6.2.2.2.2.2.2.2.2.2.2.2.2.1, ()), x10.2.1, true, x3, ())).bind fun v5 =>
        some ((x6.1, x6.2.1, x6.2.2.1, x6.2.2.2.1, x6.2.2.2.2.1, x6.2.2.2.2.2.1, x6.2.2.2.2.2.2.1, x6.2.2.2.2.2.2.2.1, part x9 x7 x8, x6.2.2.2.2.2.2.2.2.2.1, x6.2.2.2.2.2.2.2.2.2.2.1, x6.2.2.2.2.2.2.2.2.2.2.2.1, x6.2.2.2.2.2.2.2.2.2.2.2.2.1, ()), v5.1, ()))))
def spec_l13App_N (k : spec_l13App_K) : spec_l13App_K := ⟨spec_l13App_b11 k, spec_l13App_b13 k, spec_l13App_b15 k, spec_l13App_b19 k, spec_l13App_b24 k, spec_l13App_b29 k, spec_l13App_b33 k⟩
def spec_l13App_L : Nat → spec_l13App_K := iterK spec_l13App_N ⟨fun _ _ _ _ _ => none, fun _ _ _ _ _ => none, fun _ _ _ _ _ => none, fun _ _ _ _ _ => none, fun _ _ _ _ _ _ _ => none, fun _ _ _ _ _ _ _ _ => none, fun _ _ _ _ _ _ _ _ _ _ _ => none⟩
def spec_l13App (x : tCore.D × tMsg.D × Unit) : Option (spec_l13App_R) := spec_l13App_s (spec_l13App_L BIG) x.1 x.2.1

/-! spec.l13Apped -/
abbrev spec_l13Apped_R : Type := tCore.D × (List tMsg.D) × Unit
structure spec_l13Apped_K where
  k8 : Int → Int → tCore.D → tCore.D → Option (spec_l13Apped_R)
  k19 : Int → Int → tCore.D → tCore.D → Option (spec_l13Apped_R)
  k21 : Int → Int → tCore.D → tCore.D → Option (spec_l13Apped_R)
def spec_l13Apped_s (k : spec_l13Apped_K) (a1 : tCore.D) (a2 : tMsg.D) : Option (spec_l13Apped_R) :=
  cond (a1.2.2.2.2.1 != 3)
    (some (a1, ([] : List tMsg.D), ()))
    (cond a2.2.2.2.2.2.2.2.1
      ((spec_l13Last (a1, ())).bind fun v1 =>
      cond (decide (a2.2.2.2.2.1 > v1.1))
        ((spec_l13Last (a1, ())).bind fun v2 =>
        k.k8 a2.2.1 v2.1 a1 (0, 0, 0, 0, 0, 0, 0, 0, ([] : List tEntry.D), 0, ([] : List Int), ([] : List Int), ([] : List Int), ()))
        (k.k8 a2.2.1 a2.2.2.2.2.1 a1 (0, 0, 0, 0, 0, 0, 0, 0, ([] : List tEntry.D), 0, ([] : List Int), ([] : List Int), ([] : List Int), ())))
      ((ix a1.2.2.2.2.2.2.2.2.2.2.2.1.length a2.2.1).bind fun v3 =>
      cond (decide (w64 (a2.2.2.2.2.1 + 1) < w64 (gd (Ty.int .i64) a1.2.2.2.2.2.2.2.2.2.2.2.1 (0 + v3) - 1)))
        (k.k19 a2.2.1 (w64 (a2.2.2.2.2.1 + 1)) a1 (0, 0, 0, 0, 0, 0, 0, 0, ([] : List tEntry.D), 0, ([] : List Int), ([] : List Int), ([] : List Int), ()))
        (k.k19 a2.2.1 (w64 (gd (Ty.int .i64) a1.2.2.2.2.2.2.2.2.2.2.2.1 (0 + v3) - 1)) a1 (0, 0, 0, 0, 0, 0, 0, 0, ([] : List tEntry.D), 0, ([] : List Int), ([] : List Int), ([] : List Int), ()))))
def spec_l13Apped_b8_v5 (x3 : tCore.D) (v3 : List Int) (x1 : Int) (v5 : List Int) : Option (spec_l13Apped_R) :=
  (spec_l13Count ((x3.1, x3.2.1, x3.2.2.1, x3.2.2.2.1, x3.2.2.2.2.1, x3.2.2.2.2.2.1, x3.2.2.2.2.2.2.1, x3.2.2.2.2.2.2.2.1, x3.2.2.2.2.2.2.2.2.1, x3.2.2.2.2.2.2.2.2.2.1, x3.2.2.2.2.2.2.2.2.2.2.1, v5, v3, ()), ())).bind fun v6 =>
  (ix v6.1.2.2.2.2.2.2.2.2.2.2.2.1.length x1).bind fun v7 =>
  (spec_l13Last (v6.1, ())).bind fun v8 =>
  cond (decide (gd (Ty.int .i64) v6.1.2.2.2.2.2.2.2.2.2.2.2.1 (0 + v7) ≤ v8.1))
    ((spec_l13To (v6.1, x1, ())).bind fun v9 =>
    dup
      (some (v6.1, [v9.1], ())))
    (some (v6.1, ([] : List tMsg.D), ()))
def spec_l13Apped_b8_v3 (x3 : tCore.D) (x1 : Int) (x2 : Int) (v3 : List Int) : Option (spec_l13Apped_R) :=
  (ix x3.2.2.2.2.2.2.2.2.2.2.2.1.length x1).bind fun v4 =>
  spec_l13Apped_b8_v5 x3 v3 x1 (x3.2.2.2.2.2.2.2.2.2.2.2.1.set (0 + v4) (w64 (x2 + 1)))
def spec_l13Apped_b8 (k : spec_l13Apped_K) (x1 : Int) (x2 : Int) (x3 : tCore.D) (x4 : tCore.D) : Option (spec_l13Apped_R) :=
  (ix x3.2.2.2.2.2.2.2.2.2.2.2.2.1.length x1).bind fun v1 =>
  cond (decide (x2 ≤ gd (Ty.int .i64) x3.2.2.2.2.2.2.2.2.2.2.2.2.1 (0 + v1)))
    (some (x3, ([] : List tMsg.D), ()))
    ((ix x3.2.2.2.2.2.2.2.2.2.2.2.2.1.length x1).bind fun v2 =>
    spec_l13Apped_b8_v3 x3 x1 x2 (x3.2.2.2.2.2.2.2.2.2.2.2.2.1.set (0 + v2) x2))
def spec_l13Apped_b19 (k : spec_l13Apped_K) (x1 : Int) (x2 : Int) (x3 : tCore.D) (x4 : tCore.D) : Option (spec_l13Apped_R) :=
  (ix x3.2.2.2.2.2.2.2.2.2.2.2.2.1.length x1).bind fun v1 =>
  cond (decide (x2 < w64 (gd (Ty.int .i64) x3.2.2.2.2.2.2.2.2.2.2.2.2.1 (0 + v1) + 1)))
    ((ix x3.2.2.2.2.2.2.2.2.2.2.2.2.1.length x1).bind fun v2 =>
    k.k21 x1 (w64 (gd (Ty.int .i64) x3.2.2.2.2.2.2.2.2.2.2.2.2.1 (0 + v2) + 1)) x3 x4)
    (k.k21 x1 x2 x3 x4)
def spec_l13Apped_b21_v3 (x3 : tCore.D) (x1 : Int) (v3 : List Int) : Option (spec_l13Apped_R) :=
  (spec_l13To ((x3.1, x3.2.1, x3.2.2.1, x3.2.2.2.1, x3.2.2.2.2.1, x3.2.2.2.2.2.1, x3.2.2.2.2.2.2.1, x3.2.2.2.2.2.2.2.1, x3.2.2.2.2.2.2.2.2.1, x3.2.2.2.2.2.2.2.2.2.1, x3.2.2.2.2.2.2.2.2.2.2.1, v3, x3.2.2.2.2.2.2.2.2.2.2.2.2.1, ()), x1, ())).bind fun v4 =>
  dup
    (some ((x3.1, x3.2.1, x3.2.2.1, x3.2.2.2.1, x3.2.2.2.2.1, x3.2.2.2.2.2.1, x3.2.2.2.2.2.2.1, x3.2.2.2.2.2.2.2.1, x3.2.2.2.2.2.2.2.2.1, x3.2.2.2.2.2.2.2.2.2.1, x3.2.2.2.2.2.2.2.2.2.2.1, v3, x3.2.2.2.2.2.2.2.2.2.2.2.2.1, ()), [v4.1], ()))
def spec_l13Apped_b21 (k : spec_l13Apped_K) (x1 : Int) (x2 : Int) (x3 : tCore.D) (x4 : tCore.D) : Option (spec_l13Apped_R) :=
  (ix x3.2.2.2.2.2.2.2.2.2.2.2.1.length x1).bind fun v1 =>
  cond (decide (x2 ≥ gd (Ty.int .i64) x3.2.2.2.2.2.2.2.2.2.2.2.1 (0 + v1)))
    (some (x3, ([] : List tMsg.D), ()))
    ((ix x3.2.2.2.2.2.2.2.2.2.2.2.1.length x1).bind fun v2 =>
    spec_l13Apped_b21_v3 x3 x1 (x3.2.2.2.2.2.2.2.2.2.2.2.1.set (0 + v2) x2))
def spec_l13Apped_N (k : spec_l13Apped_K) : spec_l13Apped_K := ⟨spec_l13Apped_b8 k, spec_l13Apped_b19 k, spec_l13Apped_b21 k⟩
def spec_l13Apped_L : Nat → spec_l13Apped_K := iterK spec_l13Apped_N ⟨fun _ _ _ _ => none, fun _ _ _ _ => none, fun _ _ _ _ => none⟩
def spec_l13Apped (x : tCore.D × tMsg.D × Unit) : Option (spec_l13Apped_R) := spec_l13Apped_s (spec_l13Apped_L BIG) x.1 x.2.1

/-! spec.l13Snap -/
abbrev spec_l13Snap_R : Type := tCore.D × (List tMsg.D) × Unit
def spec_l13Snap_s (a1 : tCore.D) (a2 : tMsg.D) : Option (spec_l13Snap_R) :=
  cond (a1.2.2.2.2.1 == 3)
    (some (a1, ([] : List tMsg.D), ()))
    ((spec_l13Down (a1, a1.2.2.1, ())).bind fun v1 =>
    cond (decide (a2.2.2.2.2.1 ≤ v1.1.2.2.2.2.2.2.2.2.2.1))
      ((spec_l13Told ((v1.1.1, v1.1.2.1, v1.1.2.2.1, v1.1.2.2.2.1, v1.1.2.2.2.2.1, a2.2.1, v1.1.2.2.2.2.2.2.1, v1.1.2.2.2.2.2.2.2.1, v1.1.2.2.2.2.2.2.2.2.1, v1.1.2.2.2.2.2.2.2.2.2.1, v1.1.2.2.2.2.2.2.2.2.2.2.1, v1.1.2.2.2.2.2.2.2.2.2.2.2.1, v1.1.2.2.2.2.2.2.2.2.2.2.2.2.1, ()), a2.2.1, true, v1.1.2.2.2.2.2.2.2.2.2.1, ())).bind fun v2 =>
      some ((v1.1.1, v1.1.2.1, v1.1.2.2.1, v1.1.2.2.2.1, v1.1.2.2.2.2.1, a2.2.1, v1.1.2.2.2.2.2.2.1, v1.1.2.2.2.2.2.2.2.1, v1.1.2.2.2.2.2.2.2.2.1, v1.1.2.2.2.2.2.2.2.2.2.1, v1.1.2.2.2.2.2.2.2.2.2.2.1, v1.1.2.2.2.2.2.2.2.2.2.2.2.1, v1.1.2.2.2.2.2.2.2.2.2.2.2.2.1, ()), v2.1, ()))
      ((spec_l13Last ((v1.1.1, v1.1.2.1, v1.1.2.2.1, v1.1.2.2.2.1, v1.1.2.2.2.2.1, a2.2.1, v1.1.2.2.2.2.2.2.1, v1.1.2.2.2.2.2.2.2.1, v1.1.2.2.2.2.2.2.2.2.1, v1.1.2.2.2.2.2.2.2.2.2.1, v1.1.2.2.2.2.2.2.2.2.2.2.1, v1.1.2.2.2.2.2.2.2.2.2.2.2.1, v1.1.2.2.2.2.2.2.2.2.2.2.2.2.1, ()), ())).bind fun v3 =>
      cond (decide (a2.2.2.2.2.1 ≤ v3.1))
        ((spec_l13TermAt ((v1.1.1, v1.1.2.1, v1.1.2.2.1, v1.1.2.2.2.1, v1.1.2.2.2.2.1, a2.2.1, v1.1.2.2.2.2.2.2.1, v1.1.2.2.2.2.2.2.2.1, v1.1.2.2.2.2.2.2.2.2.1, v1.1.2.2.2.2.2.2.2.2.2.1, v1.1.2.2.2.2.2.2.2.2.2.2.1, v1.1.2.2.2.2.2.2.2.2.2.2.2.1, v1.1.2.2.2.2.2.2.2.2.2.2.2.2.1, ()), a2.2.2.2.2.1, ())).bind fun v4 =>
        cond (v4.1 == a2.2.2.2.2.2.1)
          ((rng v1.1.2.2.2.2.2.2.2.2.1.length (w64 (a2.2.2.2.2.1 - v1.1.2.2.2.2.2.2.1)) (v1.1.2.2.2.2.2.2.2.2.1.length : Int)).bind fun v5 =>
          (spec_l13Told ((v1.1.1, v1.1.2.1, v1.1.2.2.1, v1.1.2.2.2.1, v1.1.2.2.2.2.1, a2.2.1, a2.2.2.2.2.1, a2.2.2.2.2.2.1, part v1.1.2.2.2.2.2.2.2.2.1 (0 + v5.1) (v5.2 - v5.1), a2.2.2.2.2.1, v1.1.2.2.2.2.2.2.2.2.2.2.1, v1.1.2.2.2.2.2.2.2.2.2.2.2.1, v1.1.2.2.2.2.2.2.2.2.2.2.2.2.1, ()), a2.2.1, true, a2.2.2.2.2.1, ())).bind fun v6 =>
          some ((v1.1.1, v1.1.2.1, v1.1.2.2.1, v1.1.2.2.2.1, v1.1.2.2.2.2.1, a2.2.1, a2.2.2.2.2.1, a2.2.2.2.2.2.1, part v1.1.2.2.2.2.2.2.2.2.1 (0 + v5.1) (v5.2 - v5.1), a2.2.2.2.2.1, v1.1.2.2.2.2.2.2.2.2.2.2.1, v1.1.2.2.2.2.2.2.2.2.2.2.2.1, v1.1.2.2.2.2.2.2.2.2.2.2.2.2.1, ()), v6.1, ()))
          ((spec_l13Told ((v1.1.1, v1.1.2.1, v1.1.2.2.1, v1.1.2.2.2.1, v1.1.2.2.2.2.1, a2.2.1, a2.2.2.2.2.1, a2.2.2.2.2.2.1, ([] : List tEntry.D), a2.2.2.2.2.1, v1.1.2.2.2.2.2.2.2.2.2.2.1, v1.1.2.2.2.2.2.2.2.2.2.2.2.1, v1.1.2.2.2.2.2.2.2.2.2.2.2.2.1, ()), a2.2.1, true, a2.2.2.2.2.1, ())).bind fun v7 =>
          some ((v1.1.1, v1.1.2.1, v1.1.2.2.1, v1.1.2.2.2.1, v1.1.2.2.2.2.1, a2.2.1, a2.2.2.2.2.1, a2.2.2.2.2.2.1, ([] : List tEntry.D), a2.2.2.2.2.1, v1.1.2.2.2.2.2.2.2.2.2.2.1, v1.1.2.2.2.2.2.2.2.2.2.2.2.1, v1.1.2.2.2.2.2.2.2.2.2.2.2.2.1, ()), v7.1, ())))
        ((spec_l13Told ((v1.1.1, v1.1.2.1, v1.1.2.2.1, v1.1.2.2.2.1, v1.1.2.2.2.2.1, a2.2.1, a2.2.2.2.2.1, a2.2.2.2.2.2.1, ([] : List tEntry.D), a2.2.2.2.2.1, v1.1.2.2.2.2.2.2.2.2.2.2.1, v1.1.2.2.2.2.2.2.2.2.2.2.2.1, v1.1.2.2.2.2.2.2.2.2.2.2.2.2.1, ()), a2.2.1, true, a2.2.2.2.2.1, ())).bind fun v8 =>
        some ((v1.1.1, v1.1.2.1, v1.1.2.2.1, v1.1.2.2.2.1, v1.1.2.2.2.2.1, a2.2.1, a2.2.2.2.2.1, a2.2.2.2.2.2.1, ([] : List tEntry.D), a2.2.2.2.2.1, v1.1.2.2.2.2.2.2.2.2.2.2.1, v1.1.2.2.2.2.2.2.2.2.2.2.2.1, v1.1.2.2.2.2.2.2.2.2.2.2.2.2.1, ()), v8.1, ()))))
def spec_l13Snap (x : tCore.D × tMsg.D × Unit) : Option (spec_l13Snap_R) := spec_l13Snap_s x.1 x.2.1

/-! spec.Hear -/
abbrev spec_Hear_R : Type := tCore.D × (List tMsg.D) × Unit
structure spec_Hear_K where
  k12 : tCore.D → tMsg.D → tCore.D → Option (spec_Hear_R)
  k16 : tCore.D → tMsg.D → tCore.D → Option (spec_Hear_R)
def spec_Hear_s (k : spec_Hear_K) (a1 : tCore.D) (a2 : tMsg.D) : Option (spec_Hear_R) :=
  (spec_CoreOk (a1, ())).bind fun v1 =>
  cond (!v1.1)
    (some ((0, 0, 0, 0, 0, 0, 0, 0, ([] : List tEntry.D), 0, ([] : List Int), ([] : List Int), ([] : List Int), ()), ([] : List tMsg.D), ()))
    ((spec_l13Copy (a1, ())).bind fun v2 =>
    (spec_MsgOk (a2, ())).bind fun v3 =>
    cond (!v3.1)
      (some (v2.1, ([] : List tMsg.D), ()))
      (cond (a2.2.2.1 != v2.1.1)
        (some (v2.1, ([] : List tMsg.D), ()))
        (cond (decide (a2.2.1 ≥ v2.1.2.1))
          (some (v2.1, ([] : List tMsg.D), ()))
          (cond (decide (a2.1 > 5))
            (some (v2.1, ([] : List tMsg.D), ()))
            (cond (decide (a2.2.2.2.1 < v2.1.2.2.1))
              (cond (a2.1 == 1)
                (dup
                  (some (v2.1, [(2, v2.1.1, a2.2.1, v2.1.2.2.1, 0, 0, 0, false, ([] : List tEntry.D), ([] : List UInt8), ())], ())))
                (cond (a2.1 == 3)
                  (cond (a2.1 == 3)
                    (k.k12 v2.1 a2 (0, 0, 0, 0, 0, 0, 0, 0, ([] : List tEntry.D), 0, ([] : List Int), ([] : List Int), ([] : List Int), ()))
                    (some (v2.1, ([] : List tMsg.D), ())))
                  (cond (a2.1 == 5)
                    (k.k12 v2.1 a2 (0, 0, 0, 0, 0, 0, 0, 0, ([] : List tEntry.D), 0, ([] : List Int), ([] : List Int), ([] : List Int), ()))
                    (some (v2.1, ([] : List tMsg.D), ())))))
              (cond (decide (a2.2.2.2.1 > v2.1.2.2.1))
                ((spec_l13Down (v2.1, a2.2.2.2.1, ())).bind fun v4 =>
                k.k16 v4.1 a2 (0, 0, 0, 0, 0, 0, 0, 0, ([] : List tEntry.D), 0, ([] : List Int), ([] : List Int), ([] : List Int), ()))
                (k.k16 v2.1 a2 (0, 0, 0, 0, 0, 0, 0, 0, ([] : List tEntry.D), 0, ([] : List Int), ([] : List Int), ([] : List Int), ()))))))))
def spec_Hear_b12 (k : spec_Hear_K) (x1 : tCore.D) (x2 : tMsg.D) (x3 : tCore.D) : Option (spec_Hear_R) :=
  dup
    (some (x1, [(4, x1.1, x2.2.1, x1.2.2.1, 0, 0, 0, false, ([] : List tEntry.D), ([] : List UInt8), ())], ()))
def spec_Hear_b16 (k : spec_Hear_K) (x1 : tCore.D) (x2 : tMsg.D) (x3 : tCore.D) : Option (spec_Hear_R) :=
  cond (x2.1 == 1)
    ((spec_l13Vote (x1, x2, ())).bind fun v1 =>
    some (v1.1, v1.2.1, ()))
    (cond (x2.1 == 2)
      ((spec_l13Voted (x1, x2, ())).bind fun v2 =>
      some (v2.1, v2.2.1, ()))
      (cond (x2.1 == 3)
        ((spec_l13App (x1, x2, ())).bind fun v3 =>
        some (v3.1, v3.2.1, ()))
        (cond (x2.1 == 4)
          ((spec_l13Apped (x1, x2, ())).bind fun v4 =>
          some (v4.1, v4.2.1, ()))
          ((spec_l13Snap (x1, x2, ())).bind fun v5 =>
          some (v5.1, v5.2.1, ())))))
def spec_Hear_N (k : spec_Hear_K) : spec_Hear_K := ⟨spec_Hear_b12 k, spec_Hear_b16 k⟩
def spec_Hear_L : Nat → spec_Hear_K := iterK spec_Hear_N ⟨fun _ _ _ => none, fun _ _ _ => none⟩
def spec_Hear (x : tCore.D × tMsg.D × Unit) : Option (spec_Hear_R) := spec_Hear_s (spec_Hear_L BIG) x.1 x.2.1

/-! spec.l12Msg -/
abbrev spec_l12Msg_R : Type := tMsg.D × tL1Cur.D × Unit
structure spec_l12Msg_K where
  k4 : Int → tL1Cur.D → tMsg.D → tMsg.D → Option (spec_l12Msg_R)
  k8 : Int → Int → Int → tL1Cur.D → tMsg.D → tMsg.D → Option (spec_l12Msg_R)
def spec_l12Msg_s (k : spec_l12Msg_K) (a1 : tL1Cur.D) (a2 : Int) (a3 : Int) (a4 : Int) : Option (spec_l12Msg_R) :=
  (spec_l1Below (a1, 5, ())).bind fun v1 =>
  (spec_l1Below (v1.2.1, a2, ())).bind fun v2 =>
  (spec_l1Below (v2.2.1, a2, ())).bind fun v3 =>
  (spec_l1Below (v3.2.1, 3, ())).bind fun v4 =>
  cond (decide (w64 (w64 (a3 + v4.1) - 1) < 1))
    (k.k4 a4 v4.2.1 (0, 0, 0, 0, 0, 0, 0, false, ([] : List tEntry.D), ([] : List UInt8), ()) (w64 (1 + v1.1), v2.1, v3.1, 1, 0, 0, 0, false, ([] : List tEntry.D), ([] : List UInt8), ()))
    (k.k4 a4 v4.2.1 (0, 0, 0, 0, 0, 0, 0, false, ([] : List tEntry.D), ([] : List UInt8), ()) (w64 (1 + v1.1), v2.1, v3.1, w64 (w64 (a3 + v4.1) - 1), 0, 0, 0, false, ([] : List tEntry.D), ([] : List UInt8), ()))
def spec_l12Msg_b4 (k : spec_l12Msg_K) (x1 : Int) (x2 : tL1Cur.D) (x3 : tMsg.D) (x4 : tMsg.D) : Option (spec_l12Msg_R) :=
  (spec_l1Below (x2, w64 (x1 + 2), ())).bind fun v1 =>
  cond (decide (v1.1 > 0))
    ((spec_l1Below (v1.2.1, x4.2.2.2.1, ())).bind fun v2 =>
    k.k8 x1 v1.1 (w64 (1 + v2.1)) v2.2.1 x3 x4)
    (k.k8 x1 v1.1 0 v1.2.1 x3 x4)
def spec_l12Msg_b8 (k : spec_l12Msg_K) (x1 : Int) (x2 : Int) (x3 : Int) (x4 : tL1Cur.D) (x5 : tMsg.D) (x6 : tMsg.D) : Option (spec_l12Msg_R) :=
  cond (x6.1 == 1)
    (some ((x6.1, x6.2.1, x6.2.2.1, x6.2.2.2.1, x2, x3, x6.2.2.2.2.2.2.1, x6.2.2.2.2.2.2.2.1, x6.2.2.2.2.2.2.2.2.1, x6.2.2.2.2.2.2.2.2.2.1, ()), x4, ()))
    (cond (x6.1 == 2)
      ((spec_l1Once (x4, 4, ())).bind fun v1 =>
      some ((x6.1, x6.2.1, x6.2.2.1, x6.2.2.2.1, x6.2.2.2.2.1, x6.2.2.2.2.2.1, x6.2.2.2.2.2.2.1, !v1.1, x6.2.2.2.2.2.2.2.2.1, x6.2.2.2.2.2.2.2.2.2.1, ()), v1.2.1, ()))
      (cond (x6.1 == 3)
        ((spec_l1Below (x4, w64 (x1 + 3), ())).bind fun v2 =>
        (spec_l3Entries (v2.2.1, 4, x3, x6.2.2.2.1, ())).bind fun v3 =>
        some ((x6.1, x6.2.1, x6.2.2.1, x6.2.2.2.1, x2, x3, v2.1, x6.2.2.2.2.2.2.2.1, v3.1, x6.2.2.2.2.2.2.2.2.2.1, ()), v3.2.1, ()))
        (cond (x6.1 == 4)
          ((spec_l1Once (x4, 3, ())).bind fun v4 =>
          some ((x6.1, x6.2.1, x6.2.2.1, x6.2.2.2.1, x2, x6.2.2.2.2.2.1, x6.2.2.2.2.2.2.1, !v4.1, x6.2.2.2.2.2.2.2.2.1, x6.2.2.2.2.2.2.2.2.2.1, ()), v4.2.1, ()))
          ((spec_l1Below (x4, x6.2.2.2.1, ())).bind fun v5 =>
          (spec_l1Text (v5.2.1, 6, ())).bind fun v6 =>
          some ((x6.1, x6.2.1, x6.2.2.1, x6.2.2.2.1, w64 (1 + x2), w64 (1 + v5.1), x6.2.2.2.2.2.2.1, x6.2.2.2.2.2.2.2.1, x6.2.2.2.2.2.2.2.2.1, v6.1, ()), v6.2.1, ())))))
def spec_l12Msg_N (k : spec_l12Msg_K) : spec_l12Msg_K := ⟨spec_l12Msg_b4 k, spec_l12Msg_b8 k⟩
def spec_l12Msg_L : Nat → spec_l12Msg_K := iterK spec_l12Msg_N ⟨fun _ _ _ _ => none, fun _ _ _ _ _ _ => none⟩
def spec_l12Msg (x : tL1Cur.D × Int × Int × Int × Unit) : Option (spec_l12Msg_R) := spec_l12Msg_s (spec_l12Msg_L BIG) x.1 x.2.1 x.2.2.1 x.2.2.2.1

/-! spec.l13Msg -/
abbrev spec_l13Msg_R : Type := tMsg.D × tL1Cur.D × tCore.D × Unit
def spec_l13Msg_s (a1 : tL1Cur.D) (a2 : tCore.D) : Option (spec_l13Msg_R) :=
  both
    ((spec_l13Last (a2, ())).bind fun v1 =>
    dup
      ((spec_l12Msg (a1, a2.2.1, a2.2.2.1, v1.1, ())).bind fun v2 =>
      cond (v2.1.1 == 3)
        ((spec_l1Once (v2.2.1, 3, ())).bind fun v3 =>
        cond (!v3.1)
          ((spec_l1Below (v3.2.1, w64 ((a2.2.2.2.2.2.2.2.2.1.length : Int) + 1), ())).bind fun v4 =>
          (spec_l13TermAt (a2, w64 (a2.2.2.2.2.2.2.1 + v4.1), ())).bind fun v5 =>
          cond (decide (v2.1.2.2.2.1 < v5.1))
            ((spec_l3Entries (v4.2.1, 4, v5.1, v5.1, ())).bind fun v6 =>
            some ((v2.1.1, v2.1.2.1, a2.1, v5.1, w64 (a2.2.2.2.2.2.2.1 + v4.1), v5.1, v2.1.2.2.2.2.2.2.1, v2.1.2.2.2.2.2.2.2.1, v6.1, v2.1.2.2.2.2.2.2.2.2.2.1, ()), v6.2.1, a2, ()))
            ((spec_l3Entries (v4.2.1, 4, v5.1, v2.1.2.2.2.1, ())).bind fun v7 =>
            some ((v2.1.1, v2.1.2.1, a2.1, v2.1.2.2.2.1, w64 (a2.2.2.2.2.2.2.1 + v4.1), v5.1, v2.1.2.2.2.2.2.2.1, v2.1.2.2.2.2.2.2.2.1, v7.1, v2.1.2.2.2.2.2.2.2.2.2.1, ()), v7.2.1, a2, ())))
          (some ((v2.1.1, v2.1.2.1, a2.1, v2.1.2.2.2.1, v2.1.2.2.2.2.1, v2.1.2.2.2.2.2.1, v2.1.2.2.2.2.2.2.1, v2.1.2.2.2.2.2.2.2.1, v2.1.2.2.2.2.2.2.2.2.1, v2.1.2.2.2.2.2.2.2.2.2.1, ()), v3.2.1, a2, ())))
        (some ((v2.1.1, v2.1.2.1, a2.1, v2.1.2.2.2.1, v2.1.2.2.2.2.1, v2.1.2.2.2.2.2.1, v2.1.2.2.2.2.2.2.1, v2.1.2.2.2.2.2.2.2.1, v2.1.2.2.2.2.2.2.2.2.1, v2.1.2.2.2.2.2.2.2.2.2.1, ()), v2.2.1, a2, ()))))
    ((spec_l13Last (a2, ())).bind fun v1 =>
    (spec_l12Msg (a1, a2.2.1, a2.2.2.1, v1.1, ())).bind fun v2 =>
    cond (v2.1.1 == 3)
      ((spec_l1Once (v2.2.1, 3, ())).bind fun v3 =>
      cond (!v3.1)
        ((spec_l1Below (v3.2.1, w64 ((a2.2.2.2.2.2.2.2.2.1.length : Int) + 1), ())).bind fun v4 =>
        (spec_l13TermAt (a2, w64 (a2.2.2.2.2.2.2.1 + v4.1), ())).bind fun v5 =>
        cond (decide (v2.1.2.2.2.1 < v5.1))
          ((spec_l3Entries (v4.2.1, 4, v5.1, v5.1, ())).bind fun v6 =>
          some ((v2.1.1, v2.1.2.1, a2.1, v5.1, w64 (a2.2.2.2.2.2.2.1 + v4.1), v5.1, v2.1.2.2.2.2.2.2.1, v2.1.2.2.2.2.2.2.2.1, v6.1, v2.1.2.2.2.2.2.2.2.2.2.1, ()), v6.2.1, a2, ()))
          ((spec_l3Entries (v4.2.1, 4, v5.1, v2.1.2.2.2.1, ())).bind fun v7 =>
          some ((v2.1.1, v2.1.2.1, a2.1, v2.1.2.2.2.1, w64 (a2.2.2.2.2.2.2.1 + v4.1), v5.1, v2.1.2.2.2.2.2.2.1, v2.1.2.2.2.2.2.2.2.1, v7.1, v2.1.2.2.2.2.2.2.2.2.2.1, ()), v7.2.1, a2, ())))
        (some ((v2.1.1, v2.1.2.1, a2.1, v2.1.2.2.2.1, v2.1.2.2.2.2.1, v2.1.2.2.2.2.2.1, v2.1.2.2.2.2.2.2.1, v2.1.2.2.2.2.2.2.2.1, v2.1.2.2.2.2.2.2.2.2.1, v2.1.2.2.2.2.2.2.2.2.2.1, ()), v3.2.1, a2, ())))
      (some ((v2.1.1, v2.1.2.1, a2.1, v2.1.2.2.2.1, v2.1.2.2.2.2.1, v2.1.2.2.2.2.2.1, v2.1.2.2.2.2.2.2.1, v2.1.2.2.2.2.2.2.2.1, v2.1.2.2.2.2.2.2.2.2.1, v2.1.2.2.2.2.2.2.2.2.2.1, ()), v2.2.1, a2, ())))
def spec_l13Msg (x : tL1Cur.D × tCore.D × Unit) : Option (spec_l13Msg_R) := spec_l13Msg_s x.1 x.2.1

/-! spec.Elect -/
abbrev spec_Elect_R : Type := tCore.D × (List tMsg.D) × Unit
abbrev spec_Elect_K16 : Type := Int → tCore.D → tCore.D → (List tMsg.D) → Option (spec_Elect_R)
def spec_Elect_s (k16 : spec_Elect_K16) (a1 : tCore.D) : Option (spec_Elect_R) :=
  (spec_CoreOk (a1, ())).bind fun v1 =>
  cond (!v1.1)
    (some ((0, 0, 0, 0, 0, 0, 0, 0, ([] : List tEntry.D), 0, ([] : List Int), ([] : List Int), ([] : List Int), ()), ([] : List tMsg.D), ()))
    ((spec_l13Copy (a1, ())).bind fun v2 =>
    cond (v2.1.2.2.2.2.1 == 3)
      (some (v2.1, ([] : List tMsg.D), ()))
      (cond (decide (v2.1.2.2.1 ≥ 100000))
        (some (v2.1, ([] : List tMsg.D), ()))
        (cond (decide (w64 (2 * ([v2.1.1].length : Int)) > v2.1.2.1))
          ((spec_l13Lead ((v2.1.1, v2.1.2.1, w64 (v2.1.2.2.1 + 1), v2.1.1, 2, (-1), v2.1.2.2.2.2.2.2.1, v2.1.2.2.2.2.2.2.2.1, v2.1.2.2.2.2.2.2.2.2.1, v2.1.2.2.2.2.2.2.2.2.2.1, [v2.1.1], v2.1.2.2.2.2.2.2.2.2.2.2.2.1, v2.1.2.2.2.2.2.2.2.2.2.2.2.2.1, ()), ())).bind fun v3 =>
          some (v3.1, v3.2.1, ()))
          (k16 0 (v2.1.1, v2.1.2.1, w64 (v2.1.2.2.1 + 1), v2.1.1, 2, (-1), v2.1.2.2.2.2.2.2.1, v2.1.2.2.2.2.2.2.2.1, v2.1.2.2.2.2.2.2.2.2.1, v2.1.2.2.2.2.2.2.2.2.2.1, [v2.1.1], v2.1.2.2.2.2.2.2.2.2.2.2.2.1, v2.1.2.2.2.2.2.2.2.2.2.2.2.2.1, ()) (0, 0, 0, 0, 0, 0, 0, 0, ([] : List tEntry.D), 0, ([] : List Int), ([] : List Int), ([] : List Int), ()) ([] : List tMsg.D)))))
def spec_Elect_b16_v4 (k16 : spec_Elect_K16) (x1 : Int) (x2 : tCore.D) (x3 : tCore.D) (v4 : List tMsg.D) : Option (spec_Elect_R) :=
  k16 (w64 (x1 + 1)) x2 x3 v4
def spec_Elect_b16 (k16 : spec_Elect_K16) (x1 : Int) (x2 : tCore.D) (x3 : tCore.D) (x4 : List tMsg.D) : Option (spec_Elect_R) :=
  cond (decide (x1 < x2.2.1))
    (cond (x1 != x2.1)
      ((spec_l13Last (x2, ())).bind fun v1 =>
      (spec_l13Last (x2, ())).bind fun v2 =>
      (spec_l13TermAt (x2, v2.1, ())).bind fun v3 =>
      cond (room (x4.length + ([(1, x2.1, x1, x2.2.2.1, v1.1, v3.1, 0, false, ([] : List tEntry.D), ([] : List UInt8), ())]).length))
        (spec_Elect_b16_v4 k16 x1 x2 x3 (x4 ++ ([(1, x2.1, x1, x2.2.2.1, v1.1, v3.1, 0, false, ([] : List tEntry.D), ([] : List UInt8), ())])))
        (none))
      (k16 (w64 (x1 + 1)) x2 x3 x4))
    (some (x2, x4, ()))
def spec_Elect_L16 : Nat → spec_Elect_K16
  | 0, _, _, _, _ => none
  | m + 1, x1, x2, x3, x4 => spec_Elect_b16 (spec_Elect_L16 m) x1 x2 x3 x4
def spec_Elect (x : tCore.D × Unit) : Option (spec_Elect_R) := spec_Elect_s (spec_Elect_L16 BIG) x.1

/-! spec.Propose -/
abbrev spec_Propose_R : Type := tCore.D × (List tMsg.D) × Int × Unit
def spec_Propose_s (a1 : tCore.D) (a2 : List UInt8) : Option (spec_Propose_R) :=
  (spec_CoreOk (a1, ())).bind fun v1 =>
  cond (!v1.1)
    (some ((0, 0, 0, 0, 0, 0, 0, 0, ([] : List tEntry.D), 0, ([] : List Int), ([] : List Int), ([] : List Int), ()), ([] : List tMsg.D), 0, ()))
    ((spec_l13Copy (a1, ())).bind fun v2 =>
    cond (v2.1.2.2.2.2.1 != 3)
      (some (v2.1, ([] : List tMsg.D), 0, ()))
      (cond (decide ((a2.length : Int) > 1600))
        (some (v2.1, ([] : List tMsg.D), 0, ()))
        (cond (decide ((v2.1.2.2.2.2.2.2.2.2.1.length : Int) ≥ 60))
          (some (v2.1, ([] : List tMsg.D), 0, ()))
          ((spec_l13Last (v2.1, ())).bind fun v3 =>
          cond (decide (v3.1 ≥ 100000))
            (some (v2.1, ([] : List tMsg.D), 0, ()))
            ((spec_l13Put (v2.1, a2, ())).bind fun v4 =>
            (spec_l13ToAll (v4.1, ())).bind fun v5 =>
            (spec_l13Last (v4.1, ())).bind fun v6 =>
            some (v4.1, v5.1, v6.1, ()))))))
def spec_Propose (x : tCore.D × (List UInt8) × Unit) : Option (spec_Propose_R) := spec_Propose_s x.1 x.2.1

/-! spec.Compact -/
abbrev spec_Compact_R : Type := tCore.D × Bool × Unit
def spec_Compact_s (a1 : tCore.D) (a2 : Int) : Option (spec_Compact_R) :=
  (spec_CoreOk (a1, ())).bind fun v1 =>
  cond (!v1.1)
    (some ((0, 0, 0, 0, 0, 0, 0, 0, ([] : List tEntry.D), 0, ([] : List Int), ([] : List Int), ([] : List Int), ()), false, ()))
    ((spec_l13Copy (a1, ())).bind fun v2 =>
    cond (decide (a2 ≤ v2.1.2.2.2.2.2.2.1))
      (some (v2.1, false, ()))
      (cond (decide (a2 > v2.1.2.2.2.2.2.2.2.2.2.1))
        (some (v2.1, false, ()))
        ((spec_l13TermAt (v2.1, a2, ())).bind fun v3 =>
        (rng v2.1.2.2.2.2.2.2.2.2.1.length (w64 (a2 - v2.1.2.2.2.2.2.2.1)) (v2.1.2.2.2.2.2.2.2.2.1.length : Int)).bind fun v4 =>
        some ((v2.1.1, v2.1.2.1, v2.1.2.2.1, v2.1.2.2.2.1, v2.1.2.2.2.2.1, v2.1.2.2.2.2.2.1, a2, v3.1, part v2.1.2.2.2.2.2.2.2.2.1 (0 + v4.1) (v4.2 - v4.1), v2.1.2.2.2.2.2.2.2.2.2.1, v2.1.2.2.2.2.2.2.2.2.2.2.1, v2.1.2.2.2.2.2.2.2.2.2.2.2.1, v2.1.2.2.2.2.2.2.2.2.2.2.2.2.1, ()), true, ()))))
def spec_Compact (x : tCore.D × Int × Unit) : Option (spec_Compact_R) := spec_Compact_s x.1 x.2.1

/-! spec.l13Play -/
abbrev spec_l13Play_R : Type := tCore.D × tL1Cur.D × Unit
structure spec_l13Play_K where
  k6 : Int → tL1Cur.D → tCore.D → tCore.D → Option (spec_l13Play_R)
  k12 : Int → tCore.D → tCore.D → tL1Cur.D → Option (spec_l13Play_R)
def spec_l13Play_s (k : spec_l13Play_K) (a1 : tL1Cur.D) (a2 : tCore.D) : Option (spec_l13Play_R) :=
  (spec_l1Below (a1, 9, ())).bind fun v1 =>
  cond (v1.1 == 0)
    (cond (v1.1 == 0)
      ((spec_Elect (a2, ())).bind fun v2 =>
      some (v2.1, v1.2.1, ()))
      (k.k6 v1.1 v1.2.1 a2 (0, 0, 0, 0, 0, 0, 0, 0, ([] : List tEntry.D), 0, ([] : List Int), ([] : List Int), ([] : List Int), ())))
    (cond (v1.1 == 1)
      ((spec_Elect (a2, ())).bind fun v3 =>
      some (v3.1, v1.2.1, ()))
      (k.k6 v1.1 v1.2.1 a2 (0, 0, 0, 0, 0, 0, 0, 0, ([] : List tEntry.D), 0, ([] : List Int), ([] : List Int), ([] : List Int), ())))
def spec_l13Play_b6 (k : spec_l13Play_K) (x1 : Int) (x2 : tL1Cur.D) (x3 : tCore.D) (x4 : tCore.D) : Option (spec_l13Play_R) :=
  cond (x1 == 2)
    ((spec_l1Text (x2, 5, ())).bind fun v1 =>
    (spec_Propose (x3, v1.1, ())).bind fun v2 =>
    some (v2.1, v1.2.1, ()))
    (cond (x1 == 3)
      ((spec_l1Below (x2, 4, ())).bind fun v3 =>
      (spec_Compact (x3, w64 (x3.2.2.2.2.2.2.1 + v3.1), ())).bind fun v4 =>
      some (v4.1, v3.2.1, ()))
      (cond (x1 == 4)
        (k.k12 0 x3 x4 x2)
        ((spec_l13Msg (x2, x3, ())).bind fun v5 =>
        (spec_Hear ((x3.1, x3.2.1, x3.2.2.1, x3.2.2.2.1, x3.2.2.2.2.1, x3.2.2.2.2.2.1, x3.2.2.2.2.2.2.1, x3.2.2.2.2.2.2.2.1, v5.2.2.1.2.2.2.2.2.2.2.2.1, x3.2.2.2.2.2.2.2.2.2.1, v5.2.2.1.2.2.2.2.2.2.2.2.2.2.1, v5.2.2.1.2.2.2.2.2.2.2.2.2.2.2.1, v5.2.2.1.2.2.2.2.2.2.2.2.2.2.2.2.1, ()), v5.1, ())).bind fun v6 =>
        some (v6.1, v5.2.1, ()))))
def spec_l13Play_b12 (k : spec_l13Play_K) (x1 : Int) (x2 : tCore.D) (x3 : tCore.D) (x4 : tL1Cur.D) : Option (spec_l13Play_R) :=
  cond (decide (x1 < 3))
    ((spec_Hear (x2, (2, x1, x2.1, x2.2.2.1, 0, 0, 0, true, ([] : List tEntry.D), ([] : List UInt8), ()), ())).bind fun v1 =>
    k.k12 (w64 (x1 + 1)) v1.1 x3 x4)
    (some (x2, x4, ()))
def spec_l13Play_N (k : spec_l13Play_K) : spec_l13Play_K := ⟨spec_l13Play_b6 k, spec_l13Play_b12 k⟩
def spec_l13Play_L : Nat → spec_l13Play_K := iterK spec_l13Play_N ⟨fun _ _ _ _ => none, fun _ _ _ _ => none⟩
def spec_l13Play (x : tL1Cur.D × tCore.D × Unit) : Option (spec_l13Play_R) := spec_l13Play_s (spec_l13Play_L BIG) x.1 x.2.1

/-! spec.l13Core -/
abbrev spec_l13Core_R : Type := tCore.D × tL1Cur.D × Unit
structure spec_l13Core_K where
  k5 : Int → Int → tL1Cur.D → tCore.D → tKept.D → Option (spec_l13Core_R)
  k6 : Int → Bool → tL1Cur.D → tCore.D → tCore.D → Option (spec_l13Core_R)
  k9 : Int → tL1Cur.D → tCore.D → tCore.D → Option (spec_l13Core_R)
def spec_l13Core_s (k : spec_l13Core_K) (a1 : tL1Cur.D) (a2 : Int) : Option (spec_l13Core_R) :=
  (spec_l3Kept (a1, ())).bind fun v1 =>
  (spec_l1PickInt (v1.2.1, [1, 2, 3, 3, 3, 5], ())).bind fun v2 =>
  cond (decide (v1.1.2.1 ≥ v2.1))
    (k.k5 a2 v2.1 v2.2.1 (0, 0, 0, 0, 0, 0, 0, 0, ([] : List tEntry.D), 0, ([] : List Int), ([] : List Int), ([] : List Int), ()) (v1.1.1, (-1), v1.1.2.2.1, v1.1.2.2.2.1, ()))
    (k.k5 a2 v2.1 v2.2.1 (0, 0, 0, 0, 0, 0, 0, 0, ([] : List tEntry.D), 0, ([] : List Int), ([] : List Int), ([] : List Int), ()) v1.1)
def spec_l13Core_b5 (k : spec_l13Core_K) (x1 : Int) (x2 : Int) (x3 : tL1Cur.D) (x4 : tCore.D) (x5 : tKept.D) : Option (spec_l13Core_R) :=
  both
    ((spec_l1Below (x3, x2, ())).bind fun v1 =>
    dup
      ((spec_CoreOf (v1.1, x2, x5, ())).bind fun v2 =>
      k.k6 x1 v2.2.1 v1.2.1 x4 v2.1))
    ((spec_l1Below (x3, x2, ())).bind fun v1 =>
    (spec_CoreOf (v1.1, x2, x5, ())).bind fun v2 =>
    k.k6 x1 v2.2.1 v1.2.1 x4 v2.1)
def spec_l13Core_b6 (k : spec_l13Core_K) (x1 : Int) (x2 : Bool) (x3 : tL1Cur.D) (x4 : tCore.D) (x5 : tCore.D) : Option (spec_l13Core_R) :=
  cond (!x2)
    ((spec_CoreOf (0, 3, (0, (-1), (0, 0, ([] : List UInt8), ()), ([] : List tEntry.D), ()), ())).bind fun v1 =>
    (spec_l1Below (x3, x1, ())).bind fun v2 =>
    k.k9 v2.1 v2.2.1 x4 v1.1)
    ((spec_l1Below (x3, x1, ())).bind fun v3 =>
    k.k9 v3.1 v3.2.1 x4 x5)
def spec_l13Core_b9 (k : spec_l13Core_K) (x1 : Int) (x2 : tL1Cur.D) (x3 : tCore.D) (x4 : tCore.D) : Option (spec_l13Core_R) :=
  cond (decide (x1 > 0))
    ((spec_l13Play (x2, x4, ())).bind fun v1 =>
    k.k9 (w64 (x1 - 1)) v1.2.1 x3 v1.1)
    (some (x4, x2, ()))
def spec_l13Core_N (k : spec_l13Core_K) : spec_l13Core_K := ⟨spec_l13Core_b5 k, spec_l13Core_b6 k, spec_l13Core_b9 k⟩
def spec_l13Core_L : Nat → spec_l13Core_K := iterK spec_l13Core_N ⟨fun _ _ _ _ _ => none, fun _ _ _ _ _ => none, fun _ _ _ _ => none⟩
def spec_l13Core (x : tL1Cur.D × Int × Unit) : Option (spec_l13Core_R) := spec_l13Core_s (spec_l13Core_L BIG) x.1 x.2.1

/-! spec.l13Any -/
abbrev spec_l13Any_R : Type := tCore.D × tL1Cur.D × Unit
def spec_l13Any_s_v14 (v3 : tCore.D × Unit) (v12 : Int × tL1Cur.D × Unit) (v14 : List Int) : Option (spec_l13Any_R) :=
  some ((v3.1.1, v3.1.2.1, v3.1.2.2.1, v3.1.2.2.2.1, v3.1.2.2.2.2.1, v3.1.2.2.2.2.2.1, v3.1.2.2.2.2.2.2.1, v3.1.2.2.2.2.2.2.2.1, v3.1.2.2.2.2.2.2.2.2.1, v3.1.2.2.2.2.2.2.2.2.2.1, v3.1.2.2.2.2.2.2.2.2.2.2.1, v14, v3.1.2.2.2.2.2.2.2.2.2.2.2.2.1, ()), v12.2.1, ())
def spec_l13Any_s_v18 (v3 : tCore.D × Unit) (v16 : Int × tL1Cur.D × Unit) (v18 : List Int) : Option (spec_l13Any_R) :=
  some ((v3.1.1, v3.1.2.1, v3.1.2.2.1, v3.1.2.2.2.1, v3.1.2.2.2.2.1, v3.1.2.2.2.2.2.1, v3.1.2.2.2.2.2.2.1, v3.1.2.2.2.2.2.2.2.1, v3.1.2.2.2.2.2.2.2.2.1, v3.1.2.2.2.2.2.2.2.2.2.1, v3.1.2.2.2.2.2.2.2.2.2.2.1, v3.1.2.2.2.2.2.2.2.2.2.2.2.1, v18, ()), v16.2.1, ())
def spec_l13Any_s (a1 : tL1Cur.D) (a2 : Int) : Option (spec_l13Any_R) :=
  (spec_l13Core (a1, a2, ())).bind fun v1 =>
  (spec_l1Once (v1.2.1, 10, ())).bind fun v2 =>
  cond (!v2.1)
    (some (v1.1, v2.2.1, ()))
    ((spec_l13Copy (v1.1, ())).bind fun v3 =>
    (spec_l1Below (v2.2.1, 9, ())).bind fun v4 =>
    cond (v4.1 == 0)
      ((spec_l1PickInt (v4.2.1, [(-1), 1, 5], ())).bind fun v5 =>
      some ((v5.1, v3.1.2.1, v3.1.2.2.1, v3.1.2.2.2.1, v3.1.2.2.2.2.1, v3.1.2.2.2.2.2.1, v3.1.2.2.2.2.2.2.1, v3.1.2.2.2.2.2.2.2.1, v3.1.2.2.2.2.2.2.2.2.1, v3.1.2.2.2.2.2.2.2.2.2.1, v3.1.2.2.2.2.2.2.2.2.2.2.1, v3.1.2.2.2.2.2.2.2.2.2.2.2.1, v3.1.2.2.2.2.2.2.2.2.2.2.2.2.1, ()), v5.2.1, ()))
      (cond (v4.1 == 1)
        ((spec_l1PickInt (v4.2.1, [0, 1, 4, 6], ())).bind fun v6 =>
        some ((v3.1.1, v6.1, v3.1.2.2.1, v3.1.2.2.2.1, v3.1.2.2.2.2.1, v3.1.2.2.2.2.2.1, v3.1.2.2.2.2.2.2.1, v3.1.2.2.2.2.2.2.2.1, v3.1.2.2.2.2.2.2.2.2.1, v3.1.2.2.2.2.2.2.2.2.2.1, v3.1.2.2.2.2.2.2.2.2.2.2.1, v3.1.2.2.2.2.2.2.2.2.2.2.2.1, v3.1.2.2.2.2.2.2.2.2.2.2.2.2.1, ()), v6.2.1, ()))
        (cond (v4.1 == 2)
          ((spec_l1Below (v4.2.1, 5, ())).bind fun v7 =>
          some ((v3.1.1, v3.1.2.1, v3.1.2.2.1, v3.1.2.2.2.1, v7.1, v3.1.2.2.2.2.2.1, v3.1.2.2.2.2.2.2.1, v3.1.2.2.2.2.2.2.2.1, v3.1.2.2.2.2.2.2.2.2.1, v3.1.2.2.2.2.2.2.2.2.2.1, v3.1.2.2.2.2.2.2.2.2.2.2.1, v3.1.2.2.2.2.2.2.2.2.2.2.2.1, v3.1.2.2.2.2.2.2.2.2.2.2.2.2.1, ()), v7.2.1, ()))
          (cond (v4.1 == 3)
            ((spec_l1Below (v4.2.1, w64 ((v3.1.2.2.2.2.2.2.2.2.1.length : Int) + 3), ())).bind fun v8 =>
            some ((v3.1.1, v3.1.2.1, v3.1.2.2.1, v3.1.2.2.2.1, v3.1.2.2.2.2.1, v3.1.2.2.2.2.2.1, v3.1.2.2.2.2.2.2.1, v3.1.2.2.2.2.2.2.2.1, v3.1.2.2.2.2.2.2.2.2.1, w64 (w64 (v3.1.2.2.2.2.2.2.1 + v8.1) - 1), v3.1.2.2.2.2.2.2.2.2.2.2.1, v3.1.2.2.2.2.2.2.2.2.2.2.2.1, v3.1.2.2.2.2.2.2.2.2.2.2.2.2.1, ()), v8.2.1, ()))
            (cond (v4.1 == 4)
              ((spec_l1Below (v4.2.1, 4, ())).bind fun v9 =>
              cond (room (v3.1.2.2.2.2.2.2.2.2.2.2.1.length + [v9.1].length))
                (some ((v3.1.1, v3.1.2.1, v3.1.2.2.1, v3.1.2.2.2.1, v3.1.2.2.2.2.1, v3.1.2.2.2.2.2.1, v3.1.2.2.2.2.2.2.1, v3.1.2.2.2.2.2.2.2.1, v3.1.2.2.2.2.2.2.2.2.1, v3.1.2.2.2.2.2.2.2.2.2.1, v3.1.2.2.2.2.2.2.2.2.2.2.1 ++ [v9.1], v3.1.2.2.2.2.2.2.2.2.2.2.2.1, v3.1.2.2.2.2.2.2.2.2.2.2.2.2.1, ()), v9.2.1, ()))
                (none))
              (cond (v4.1 == 5)
                ((spec_l1Below (v4.2.1, 7, ())).bind fun v10 =>
                some ((v3.1.1, v3.1.2.1, v3.1.2.2.1, v3.1.2.2.2.1, v3.1.2.2.2.2.1, w64 (v10.1 - 2), v3.1.2.2.2.2.2.2.1, v3.1.2.2.2.2.2.2.2.1, v3.1.2.2.2.2.2.2.2.2.1, v3.1.2.2.2.2.2.2.2.2.2.1, v3.1.2.2.2.2.2.2.2.2.2.2.1, v3.1.2.2.2.2.2.2.2.2.2.2.2.1, v3.1.2.2.2.2.2.2.2.2.2.2.2.2.1, ()), v10.2.1, ()))
                (cond (v4.1 == 6)
                  (cond (decide ((v3.1.2.2.2.2.2.2.2.2.2.2.2.1.length : Int) > 0))
                    ((spec_l1Below (v4.2.1, (v3.1.2.2.2.2.2.2.2.2.2.2.2.1.length : Int), ())).bind fun v11 =>
                    (spec_l1Below (v11.2.1, 8, ())).bind fun v12 =>
                    (ix v3.1.2.2.2.2.2.2.2.2.2.2.2.1.length v11.1).bind fun v13 =>
                    spec_l13Any_s_v14 v3 v12 (v3.1.2.2.2.2.2.2.2.2.2.2.2.1.set (0 + v13) v12.1))
                    (some (v3.1, v4.2.1, ())))
                  (cond (v4.1 == 7)
                    (cond (decide ((v3.1.2.2.2.2.2.2.2.2.2.2.2.2.1.length : Int) > 0))
                      ((spec_l1Below (v4.2.1, (v3.1.2.2.2.2.2.2.2.2.2.2.2.2.1.length : Int), ())).bind fun v15 =>
                      (spec_l1Below (v15.2.1, 8, ())).bind fun v16 =>
                      (ix v3.1.2.2.2.2.2.2.2.2.2.2.2.2.1.length v15.1).bind fun v17 =>
                      spec_l13Any_s_v18 v3 v16 (v3.1.2.2.2.2.2.2.2.2.2.2.2.2.1.set (0 + v17) (w64 (v16.1 - 1))))
                      (some (v3.1, v4.2.1, ())))
                    ((spec_l1Below (v4.2.1, 7, ())).bind fun v19 =>
                    some ((v3.1.1, v3.1.2.1, v3.1.2.2.1, w64 (v19.1 - 2), v3.1.2.2.2.2.1, v3.1.2.2.2.2.2.1, v3.1.2.2.2.2.2.2.1, v3.1.2.2.2.2.2.2.2.1, v3.1.2.2.2.2.2.2.2.2.1, v3.1.2.2.2.2.2.2.2.2.2.1, v3.1.2.2.2.2.2.2.2.2.2.2.1, v3.1.2.2.2.2.2.2.2.2.2.2.2.1, v3.1.2.2.2.2.2.2.2.2.2.2.2.2.1, ()), v19.2.1, ()))))))))))
def spec_l13Any (x : tL1Cur.D × Int × Unit) : Option (spec_l13Any_R) := spec_l13Any_s x.1 x.2.1

/-! spec.l1Size -/
def spec_l1Size_s (a1 : List Int) (a2 : Int) : Option (Int × Unit) :=
  cond (decide (w64 (2 + w64 (Int.tdiv (a1.length : Int) 20)) > a2))
    (some (a2, ()))
    (some (w64 (2 + w64 (Int.tdiv (a1.length : Int) 20)), ()))
def spec_l1Size (x : (List Int) × Int × Unit) : Option (Int × Unit) := spec_l1Size_s x.1 x.2.1

/-! spec.l12Any -/
abbrev spec_l12Any_R : Type := tMsg.D × tL1Cur.D × Unit
def spec_l12Any_s_v10 (v1 : tMsg.D × tL1Cur.D × Unit) (v9 : Int × tL1Cur.D × Unit) (v10 : List tEntry.D) : Option (spec_l12Any_R) :=
  some ((v1.1.1, v1.1.2.1, v1.1.2.2.1, v1.1.2.2.2.1, v1.1.2.2.2.2.1, v1.1.2.2.2.2.2.1, v1.1.2.2.2.2.2.2.1, v1.1.2.2.2.2.2.2.2.1, v10, v1.1.2.2.2.2.2.2.2.2.2.1, ()), v9.2.1, ())
def spec_l12Any_s (a1 : tL1Cur.D) : Option (spec_l12Any_R) :=
  (spec_l12Msg (a1, 5, 3, 6, ())).bind fun v1 =>
  (spec_l1Once (v1.2.1, 8, ())).bind fun v2 =>
  cond v2.1
    ((spec_l1Below (v2.2.1, 8, ())).bind fun v3 =>
    cond (v3.1 == 0)
      ((spec_l1Below (v3.2.1, 12, ())).bind fun v4 =>
      some ((w64 (v4.1 - 1), v1.1.2.1, v1.1.2.2.1, v1.1.2.2.2.1, v1.1.2.2.2.2.1, v1.1.2.2.2.2.2.1, v1.1.2.2.2.2.2.2.1, v1.1.2.2.2.2.2.2.2.1, v1.1.2.2.2.2.2.2.2.2.1, v1.1.2.2.2.2.2.2.2.2.2.1, ()), v4.2.1, ()))
      (cond (v3.1 == 1)
        ((spec_l1PickInt (v3.2.1, [(-1), 5, 10], ())).bind fun v5 =>
        some ((v1.1.1, v1.1.2.1, v5.1, v1.1.2.2.2.1, v1.1.2.2.2.2.1, v1.1.2.2.2.2.2.1, v1.1.2.2.2.2.2.2.1, v1.1.2.2.2.2.2.2.2.1, v1.1.2.2.2.2.2.2.2.2.1, v1.1.2.2.2.2.2.2.2.2.2.1, ()), v5.2.1, ()))
        (cond (v3.1 == 2)
          ((spec_l1PickInt (v3.2.1, [(-1), 0, 100000, 100001], ())).bind fun v6 =>
          some ((v1.1.1, v1.1.2.1, v1.1.2.2.1, v6.1, v1.1.2.2.2.2.1, v1.1.2.2.2.2.2.1, v1.1.2.2.2.2.2.2.1, v1.1.2.2.2.2.2.2.2.1, v1.1.2.2.2.2.2.2.2.2.1, v1.1.2.2.2.2.2.2.2.2.2.1, ()), v6.2.1, ()))
          (cond (v3.1 == 3)
            ((spec_l1PickInt (v3.2.1, [(-1), 0, 100000, 100001], ())).bind fun v7 =>
            some ((v1.1.1, v1.1.2.1, v1.1.2.2.1, v1.1.2.2.2.1, v7.1, v1.1.2.2.2.2.2.1, v1.1.2.2.2.2.2.2.1, v1.1.2.2.2.2.2.2.2.1, v1.1.2.2.2.2.2.2.2.2.1, v1.1.2.2.2.2.2.2.2.2.2.1, ()), v7.2.1, ()))
            (cond (v3.1 == 4)
              ((spec_l1PickInt (v3.2.1, [(-1), 1, 100000, 100001], ())).bind fun v8 =>
              some ((v1.1.1, v1.1.2.1, v1.1.2.2.1, v1.1.2.2.2.1, v1.1.2.2.2.2.1, v1.1.2.2.2.2.2.1, v8.1, v1.1.2.2.2.2.2.2.2.1, v1.1.2.2.2.2.2.2.2.2.1, v1.1.2.2.2.2.2.2.2.2.2.1, ()), v8.2.1, ()))
              (cond (v3.1 == 5)
                (some ((v1.1.1, v1.1.2.1, v1.1.2.2.1, v1.1.2.2.2.1, v1.1.2.2.2.2.1, v1.1.2.2.2.2.2.1, v1.1.2.2.2.2.2.2.1, !v1.1.2.2.2.2.2.2.2.1, v1.1.2.2.2.2.2.2.2.2.1, v1.1.2.2.2.2.2.2.2.2.2.1, ()), v3.2.1, ()))
                (cond (v3.1 == 6)
                  ((spec_l1Below (v3.2.1, 5, ())).bind fun v9 =>
                  cond (room (v1.1.2.2.2.2.2.2.2.2.1.length + ([(v9.1, ([] : List UInt8), ())]).length))
                    (spec_l12Any_s_v10 v1 v9 (v1.1.2.2.2.2.2.2.2.2.1 ++ ([(v9.1, ([] : List UInt8), ())])))
                    (none))
                  (cond (room (v1.1.2.2.2.2.2.2.2.2.2.1.length + ([120] : List UInt8).length))
                    (some ((v1.1.1, v1.1.2.1, v1.1.2.2.1, v1.1.2.2.2.1, v1.1.2.2.2.2.1, v1.1.2.2.2.2.2.1, v1.1.2.2.2.2.2.2.1, v1.1.2.2.2.2.2.2.2.1, v1.1.2.2.2.2.2.2.2.2.1, v1.1.2.2.2.2.2.2.2.2.2.1 ++ ([120] : List UInt8), ()), v3.2.1, ()))
                    (none)))))))))
    (some (v1.1, v2.2.1, ()))
def spec_l12Any (x : tL1Cur.D × Unit) : Option (spec_l12Any_R) := spec_l12Any_s x.1

/-! spec.DrawHear -/
abbrev spec_DrawHear_R : Type := tCore.D × tMsg.D × Unit
def spec_DrawHear_s (a1 : List Int) : Option (spec_DrawHear_R) :=
  (spec_l1New (a1, ())).bind fun v1 =>
  (spec_l1Size (a1, 20, ())).bind fun v2 =>
  (spec_l13Any (v1.1, v2.1, ())).bind fun v3 =>
  (spec_l1Once (v3.2.1, 8, ())).bind fun v4 =>
  cond v4.1
    ((spec_l12Any (v4.2.1, ())).bind fun v5 =>
    some (v3.1, v5.1, ()))
    ((spec_CoreOk (v3.1, ())).bind fun v6 =>
    cond (!v6.1)
      ((spec_l12Any (v4.2.1, ())).bind fun v7 =>
      some (v3.1, v7.1, ()))
      ((spec_l13Msg (v4.2.1, v3.1, ())).bind fun v8 =>
      some ((v3.1.1, v3.1.2.1, v3.1.2.2.1, v3.1.2.2.2.1, v3.1.2.2.2.2.1, v3.1.2.2.2.2.2.1, v3.1.2.2.2.2.2.2.1, v3.1.2.2.2.2.2.2.2.1, v8.2.2.1.2.2.2.2.2.2.2.2.1, v3.1.2.2.2.2.2.2.2.2.2.1, v8.2.2.1.2.2.2.2.2.2.2.2.2.2.1, v8.2.2.1.2.2.2.2.2.2.2.2.2.2.2.1, v8.2.2.1.2.2.2.2.2.2.2.2.2.2.2.2.1, ()), v8.1, ())))
def spec_DrawHear (x : (List Int) × Unit) : Option (spec_DrawHear_R) := spec_DrawHear_s x.1

/-! impl.within -/
def impl_within_s (a1 : Int) (a2 : Int) (a3 : Int) : Option (Bool × Unit) :=
  cond (decide (a1 ≥ a2))
    (some (decide (a1 ≤ a3), ()))
    (some (false, ()))
def impl_within (x : Int × Int × Int × Unit) : Option (Bool × Unit) := impl_within_s x.1 x.2.1 x.2.2.1

/-! impl.KeptOk -/
abbrev impl_KeptOk_K7 : Type := Int → (List tEntry.D) → Int → Int → tKept.D → Option (Bool × Unit)
def impl_KeptOk_s (k7 : impl_KeptOk_K7) (a1 : tKept.D) : Option (Bool × Unit) :=
  (impl_within (a1.1, 0, 100000, ())).bind fun v1 =>
  cond (!v1.1)
    (some (false, ()))
    ((impl_within (a1.2.1, (-1), 4, ())).bind fun v2 =>
    cond (!v2.1)
      (some (false, ()))
      (cond (decide ((a1.2.2.2.1.length : Int) > 60))
        (some (false, ()))
        (cond (!((a1.2.2.1.1 == 0) && ((a1.2.2.1.2.1 == 0) && (eqS a1.2.2.1.2.2.1 ([] : List UInt8) && true))))
          ((impl_within (a1.2.2.1.1, 1, 100000, ())).bind fun v3 =>
          cond (!v3.1)
            (some (false, ()))
            ((impl_within (a1.2.2.1.2.1, 1, a1.1, ())).bind fun v4 =>
            cond (!v4.1)
              (some (false, ()))
              (cond (decide ((a1.2.2.1.2.2.1.length : Int) > 20000))
                (some (false, ()))
                (k7 (mxI 1 a1.2.2.1.2.1) a1.2.2.2.1 (a1.2.2.2.1.length : Int) 0 a1))))
          (k7 (mxI 1 a1.2.2.1.2.1) a1.2.2.2.1 (a1.2.2.2.1.length : Int) 0 a1))))
def impl_KeptOk_b7 (k7 : impl_KeptOk_K7) (x1 : Int) (x2 : List tEntry.D) (x3 : Int) (x4 : Int) (x5 : tKept.D) : Option (Bool × Unit) :=
  cond (decide (x4 < x3))
    ((ix x2.length x4).bind fun v1 =>
    cond (decide ((((gd tEntry x2 v1).2.1).length : Int) > 1600))
      (some (false, ()))
      ((impl_within ((gd tEntry x2 v1).1, x1, x5.1, ())).bind fun v2 =>
      cond (!v2.1)
        (some (false, ()))
        (k7 ((gd tEntry x2 v1).1) x2 x3 (w64 (x4 + 1)) x5)))
    (some (decide (w64 (x5.2.2.1.1 + (x5.2.2.2.1.length : Int)) ≤ 100000), ()))
def impl_KeptOk_L7 : Nat → impl_KeptOk_K7
  | 0, _, _, _, _, _ => none
  | m + 1, x1, x2, x3, x4, x5 => impl_KeptOk_b7 (impl_KeptOk_L7 m) x1 x2 x3 x4 x5
def impl_KeptOk (x : tKept.D × Unit) : Option (Bool × Unit) := impl_KeptOk_s (impl_KeptOk_L7 BIG) x.1

/-! impl.Core).kept -/
def impl_Core_kept_s_v1 (a1 : tCore.D) (a2 : List UInt8) (v1 : List tEntry.D) : Option (tKept.D × Unit) :=
  cond (a1.2.2.2.2.2.2.1 != 0)
    (some ((a1.2.2.1, a1.2.2.2.1, (a1.2.2.2.2.2.2.1, a1.2.2.2.2.2.2.2.1, a2, ()), v1, ()), ()))
    (some ((a1.2.2.1, a1.2.2.2.1, (0, 0, ([] : List UInt8), ()), v1, ()), ()))
def impl_Core_kept_s (a1 : tCore.D) (a2 : List UInt8) : Option (tKept.D × Unit) :=
  dup
    (cond (room (([] : List tEntry.D).length + a1.2.2.2.2.2.2.2.2.1.length))
      (impl_Core_kept_s_v1 a1 a2 (([] : List tEntry.D) ++ a1.2.2.2.2.2.2.2.2.1))
      (none))
def impl_Core_kept (x : tCore.D × (List UInt8) × Unit) : Option (tKept.D × Unit) := impl_Core_kept_s x.1 x.2.1

/-! impl.Core).last -/
def impl_Core_last_s (a1 : tCore.D) : Option (Int × Unit) :=
  some (w64 (a1.2.2.2.2.2.2.1 + (a1.2.2.2.2.2.2.2.2.1.length : Int)), ())
def impl_Core_last (x : tCore.D × Unit) : Option (Int × Unit) := impl_Core_last_s x.1

/-! impl.Core).isMost -/
def impl_Core_isMost_s (a1 : tCore.D) (a2 : Int) : Option (Bool × Unit) :=
  some (decide (w64 (2 * a2) > a1.2.1), ())
def impl_Core_isMost (x : tCore.D × Int × Unit) : Option (Bool × Unit) := impl_Core_isMost_s x.1 x.2.1

/-! slices.Index[[]int,int] -/
abbrev slices_Index_int_int_K2 : Type := (List Int) → Int → Int → Int → Option (Int × Unit)
def slices_Index_int_int_s (k2 : slices_Index_int_int_K2) (a1 : List Int) (a2 : Int) : Option (Int × Unit) :=
  k2 a1 a2 (a1.length : Int) 0
def slices_Index_int_int_b2 (k2 : slices_Index_int_int_K2) (x1 : List Int) (x2 : Int) (x3 : Int) (x4 : Int) : Option (Int × Unit) :=
  cond (decide (x4 < x3))
    ((ix x1.length x4).bind fun v1 =>
    cond (x2 == gd (Ty.int .i64) x1 v1)
      (some (x4, ()))
      (k2 x1 x2 x3 (w64 (x4 + 1))))
    (some ((-1), ()))
def slices_Index_int_int_L2 : Nat → slices_Index_int_int_K2
  | 0, _, _, _, _ => none
  | m + 1, x1, x2, x3, x4 => slices_Index_int_int_b2 (slices_Index_int_int_L2 m) x1 x2 x3 x4
def slices_Index_int_int (x : (List Int) × Int × Unit) : Option (Int × Unit) := slices_Index_int_int_s (slices_Index_int_int_L2 BIG) x.1 x.2.1

/-! slices.Contains[[]int,int] -/
def slices_Contains_int_int_s (a1 : List Int) (a2 : Int) : Option (Bool × Unit) :=
  (slices_Index_int_int (a1, a2, ())).bind fun v1 =>
  some (decide (v1.1 ≥ 0), ())
def slices_Contains_int_int (x : (List Int) × Int × Unit) : Option (Bool × Unit) := slices_Contains_int_int_s x.1 x.2.1

/-! impl.Core).seekOk -/
abbrev impl_Core_seekOk_K2 : Type := tCore.D → (List Int) → Int → Int → Option (Bool × Unit)
def impl_Core_seekOk_s (k2 : impl_Core_seekOk_K2) (a1 : tCore.D) : Option (Bool × Unit) :=
  k2 a1 a1.2.2.2.2.2.2.2.2.2.2.1 (a1.2.2.2.2.2.2.2.2.2.2.1.length : Int) 0
def impl_Core_seekOk_b2 (k2 : impl_Core_seekOk_K2) (x1 : tCore.D) (x2 : List Int) (x3 : Int) (x4 : Int) : Option (Bool × Unit) :=
  cond (decide (x4 < x3))
    ((ix x2.length x4).bind fun v1 =>
    (impl_within (gd (Ty.int .i64) x2 v1, 0, w64 (x1.2.1 - 1), ())).bind fun v2 =>
    cond (!v2.1)
      (some (false, ()))
      (cond (decide (x4 > 0))
        ((ix x1.2.2.2.2.2.2.2.2.2.2.1.length (w64 (x4 - 1))).bind fun v3 =>
        cond (decide (gd (Ty.int .i64) x1.2.2.2.2.2.2.2.2.2.2.1 v3 ≥ gd (Ty.int .i64) x2 v1))
          (some (false, ()))
          (k2 x1 x2 x3 (w64 (x4 + 1))))
        (k2 x1 x2 x3 (w64 (x4 + 1)))))
    (cond (decide (x1.2.2.1 ≥ 1))
      (cond (x1.2.2.2.1 == x1.1)
        (cond (x1.2.2.2.2.2.1 == (-1))
          ((slices_Contains_int_int (x1.2.2.2.2.2.2.2.2.2.2.1, x1.1, ())).bind fun v4 =>
          cond v4.1
            ((impl_Core_isMost (x1, (x1.2.2.2.2.2.2.2.2.2.2.1.length : Int), ())).bind fun v5 =>
            cond (!v5.1)
              (some (w64 ((x1.2.2.2.2.2.2.2.2.2.2.2.1.length : Int) + (x1.2.2.2.2.2.2.2.2.2.2.2.2.1.length : Int)) == 0, ()))
              (some (false, ())))
            (some (false, ())))
          (some (false, ())))
        (some (false, ())))
      (some (false, ())))
def impl_Core_seekOk_L2 : Nat → impl_Core_seekOk_K2
  | 0, _, _, _, _ => none
  | m + 1, x1, x2, x3, x4 => impl_Core_seekOk_b2 (impl_Core_seekOk_L2 m) x1 x2 x3 x4
def impl_Core_seekOk (x : tCore.D × Unit) : Option (Bool × Unit) := impl_Core_seekOk_s (impl_Core_seekOk_L2 BIG) x.1

/-! impl.Core).leadOk -/
abbrev impl_Core_leadOk_K4 : Type := tCore.D → (List Int) → Int → Int → Option (Bool × Unit)
def impl_Core_leadOk_s (k4 : impl_Core_leadOk_K4) (a1 : tCore.D) : Option (Bool × Unit) :=
  cond (decide (a1.2.2.1 < 1))
    (some (false, ()))
    (cond (a1.2.2.2.1 != a1.1)
      (some (false, ()))
      (cond (a1.2.2.2.2.2.1 != a1.1)
        (some (false, ()))
        (cond (decide ((a1.2.2.2.2.2.2.2.2.2.2.1.length : Int) > 0))
          (some (false, ()))
          (cond ((a1.2.2.2.2.2.2.2.2.2.2.2.1.length : Int) != a1.2.1)
            (some (false, ()))
            (cond ((a1.2.2.2.2.2.2.2.2.2.2.2.2.1.length : Int) != a1.2.1)
              (some (false, ()))
              (k4 a1 a1.2.2.2.2.2.2.2.2.2.2.2.2.1 (a1.2.2.2.2.2.2.2.2.2.2.2.2.1.length : Int) 0))))))
def impl_Core_leadOk_b4 (k4 : impl_Core_leadOk_K4) (x1 : tCore.D) (x2 : List Int) (x3 : Int) (x4 : Int) : Option (Bool × Unit) :=
  cond (decide (x4 < x3))
    ((ix x2.length x4).bind fun v1 =>
    cond (decide (gd (Ty.int .i64) x2 v1 < 0))
      (some (false, ()))
      ((ix x1.2.2.2.2.2.2.2.2.2.2.2.1.length x4).bind fun v2 =>
      cond (decide (gd (Ty.int .i64) x1.2.2.2.2.2.2.2.2.2.2.2.1 v2 ≤ gd (Ty.int .i64) x2 v1))
        (some (false, ()))
        ((ix x1.2.2.2.2.2.2.2.2.2.2.2.1.length x4).bind fun v3 =>
        (impl_Core_last (x1, ())).bind fun v4 =>
        cond (decide (gd (Ty.int .i64) x1.2.2.2.2.2.2.2.2.2.2.2.1 v3 > w64 (v4.1 + 1)))
          (some (false, ()))
          (k4 x1 x2 x3 (w64 (x4 + 1))))))
    ((ix x1.2.2.2.2.2.2.2.2.2.2.2.2.1.length x1.1).bind fun v5 =>
    (impl_Core_last (x1, ())).bind fun v6 =>
    some (gd (Ty.int .i64) x1.2.2.2.2.2.2.2.2.2.2.2.2.1 v5 == v6.1, ()))
def impl_Core_leadOk_L4 : Nat → impl_Core_leadOk_K4
  | 0, _, _, _, _ => none
  | m + 1, x1, x2, x3, x4 => impl_Core_leadOk_b4 (impl_Core_leadOk_L4 m) x1 x2 x3 x4
def impl_Core_leadOk (x : tCore.D × Unit) : Option (Bool × Unit) := impl_Core_leadOk_s (impl_Core_leadOk_L4 BIG) x.1

/-! impl.CoreOk -/
abbrev impl_CoreOk_K3 : Type := tCore.D → Option (Bool × Unit)
def impl_CoreOk_s (k3 : impl_CoreOk_K3) (a1 : tCore.D) : Option (Bool × Unit) :=
  (impl_within (a1.2.1, 1, 5, ())).bind fun v1 =>
  cond (!v1.1)
    (some (false, ()))
    ((impl_within (a1.1, 0, w64 (a1.2.1 - 1), ())).bind fun v2 =>
    cond (!v2.1)
      (some (false, ()))
      (cond (decide (a1.2.2.2.1 ≥ a1.2.1))
        (some (false, ()))
        (cond (decide (a1.2.2.2.2.2.2.1 < 0))
          (some (false, ()))
          (cond (a1.2.2.2.2.2.2.1 == 0)
            (cond (a1.2.2.2.2.2.2.2.1 != 0)
              (some (false, ()))
              ((impl_Core_kept (a1, ([] : List UInt8), ())).bind fun v3 =>
              (impl_KeptOk (v3.1, ())).bind fun v4 =>
              cond (!v4.1)
                (some (false, ()))
                ((impl_Core_last (a1, ())).bind fun v5 =>
                (impl_within (a1.2.2.2.2.2.2.2.2.2.1, a1.2.2.2.2.2.2.1, v5.1, ())).bind fun v6 =>
                cond (!v6.1)
                  (some (false, ()))
                  (k3 a1))))
            ((impl_Core_kept (a1, ([] : List UInt8), ())).bind fun v7 =>
            (impl_KeptOk (v7.1, ())).bind fun v8 =>
            cond (!v8.1)
              (some (false, ()))
              ((impl_Core_last (a1, ())).bind fun v9 =>
              (impl_within (a1.2.2.2.2.2.2.2.2.2.1, a1.2.2.2.2.2.2.1, v9.1, ())).bind fun v10 =>
              cond (!v10.1)
                (some (false, ()))
                (k3 a1)))))))
def impl_CoreOk_b3 (k3 : impl_CoreOk_K3) (x1 : tCore.D) : Option (Bool × Unit) :=
  cond (x1.2.2.2.2.1 == 1)
    ((impl_within (x1.2.2.2.2.2.1, (-1), w64 (x1.2.1 - 1), ())).bind fun v1 =>
    cond v1.1
      (cond (x1.2.2.2.2.2.1 != x1.1)
        (some (w64 (w64 ((x1.2.2.2.2.2.2.2.2.2.2.1.length : Int) + (x1.2.2.2.2.2.2.2.2.2.2.2.1.length : Int)) + (x1.2.2.2.2.2.2.2.2.2.2.2.2.1.length : Int)) == 0, ()))
        (some (false, ())))
      (some (false, ())))
    (cond (x1.2.2.2.2.1 == 2)
      ((impl_Core_seekOk (x1, ())).bind fun v2 =>
      some (v2.1, ()))
      (cond (x1.2.2.2.2.1 == 3)
        ((impl_Core_leadOk (x1, ())).bind fun v3 =>
        some (v3.1, ()))
        (some (false, ()))))
def impl_CoreOk_L3 : Nat → impl_CoreOk_K3
  | 0, _ => none
  | m + 1, x1 => impl_CoreOk_b3 (impl_CoreOk_L3 m) x1
def impl_CoreOk (x : tCore.D × Unit) : Option (Bool × Unit) := impl_CoreOk_s (impl_CoreOk_L3 BIG) x.1

/-! impl.copyInts -/
def impl_copyInts_s (a1 : List Int) : Option ((List Int) × Unit) :=
  cond (room (([] : List Int).length + a1.length))
    (some (([] : List Int) ++ a1, ()))
    (none)
def impl_copyInts (x : (List Int) × Unit) : Option ((List Int) × Unit) := impl_copyInts_s x.1

/-! impl.copyCore -/
def impl_copyCore_s_v1 (a1 : tCore.D) (v1 : List tEntry.D) : Option (tCore.D × Unit) :=
  (impl_copyInts (a1.2.2.2.2.2.2.2.2.2.2.1, ())).bind fun v2 =>
  (impl_copyInts (a1.2.2.2.2.2.2.2.2.2.2.2.1, ())).bind fun v3 =>
  (impl_copyInts (a1.2.2.2.2.2.2.2.2.2.2.2.2.1, ())).bind fun v4 =>
  some ((a1.1, a1.2.1, a1.2.2.1, a1.2.2.2.1, a1.2.2.2.2.1, a1.2.2.2.2.2.1, a1.2.2.2.2.2.2.1, a1.2.2.2.2.2.2.2.1, v1, a1.2.2.2.2.2.2.2.2.2.1, v2.1, v3.1, v4.1, ()), ())
def impl_copyCore_s (a1 : tCore.D) : Option (tCore.D × Unit) :=
  cond (room (([] : List tEntry.D).length + a1.2.2.2.2.2.2.2.2.1.length))
    (impl_copyCore_s_v1 a1 (([] : List tEntry.D) ++ a1.2.2.2.2.2.2.2.2.1))
    (none)
def impl_copyCore (x : tCore.D × Unit) : Option (tCore.D × Unit) := impl_copyCore_s x.1

/-! impl.isPlace -/
def impl_isPlace_s (a1 : Int) (a2 : Int) : Option (Bool × Unit) :=
  cond (a1 == 0)
    (cond (a2 == 0)
      (some (true, ()))
      ((impl_within (a1, 1, 100000, ())).bind fun v1 =>
      cond v1.1
        ((impl_within (a2, 1, 100000, ())).bind fun v2 =>
        some (v2.1, ()))
        (some (false, ()))))
    ((impl_within (a1, 1, 100000, ())).bind fun v3 =>
    cond v3.1
      ((impl_within (a2, 1, 100000, ())).bind fun v4 =>
      some (v4.1, ()))
      (some (false, ())))
def impl_isPlace (x : Int × Int × Unit) : Option (Bool × Unit) := impl_isPlace_s x.1 x.2.1

/-! impl.Msg).batchOk -/
abbrev impl_Msg_batchOk_K3 : Type := tMsg.D → Int → (List tEntry.D) → Int → Int → Option (Bool × Unit)
def impl_Msg_batchOk_s (k3 : impl_Msg_batchOk_K3) (a1 : tMsg.D) : Option (Bool × Unit) :=
  k3 a1 (mxI 1 a1.2.2.2.2.2.1) a1.2.2.2.2.2.2.2.2.1 (a1.2.2.2.2.2.2.2.2.1.length : Int) 0
def impl_Msg_batchOk_b3 (k3 : impl_Msg_batchOk_K3) (x1 : tMsg.D) (x2 : Int) (x3 : List tEntry.D) (x4 : Int) (x5 : Int) : Option (Bool × Unit) :=
  cond (decide (x5 < x4))
    ((ix x3.length x5).bind fun v1 =>
    cond (decide ((((gd tEntry x3 v1).2.1).length : Int) > 1600))
      (some (false, ()))
      ((impl_within ((gd tEntry x3 v1).1, x2, x1.2.2.2.1, ())).bind fun v2 =>
      cond (!v2.1)
        (some (false, ()))
        (k3 x1 ((gd tEntry x3 v1).1) x3 x4 (w64 (x5 + 1)))))
    (cond (decide ((x1.2.2.2.2.2.2.2.2.1.length : Int) ≤ 4))
      (some (decide (w64 (x1.2.2.2.2.1 + (x1.2.2.2.2.2.2.2.2.1.length : Int)) ≤ 100000), ()))
      (some (false, ())))
def impl_Msg_batchOk_L3 : Nat → impl_Msg_batchOk_K3
  | 0, _, _, _, _, _ => none
  | m + 1, x1, x2, x3, x4, x5 => impl_Msg_batchOk_b3 (impl_Msg_batchOk_L3 m) x1 x2 x3 x4 x5
def impl_Msg_batchOk (x : tMsg.D × Unit) : Option (Bool × Unit) := impl_Msg_batchOk_s (impl_Msg_batchOk_L3 BIG) x.1

/-! impl.Entry] -/
abbrev slices_Equal_impl_Entry_impl_Entry_K4 : Type := (List tEntry.D) → (List tEntry.D) → Int → Int → Option (Bool × Unit)
def slices_Equal_impl_Entry_impl_Entry_s (k4 : slices_Equal_impl_Entry_impl_Entry_K4) (a1 : List tEntry.D) (a2 : List tEntry.D) : Option (Bool × Unit) :=
  cond ((a1.length : Int) != (a2.length : Int))
    (some (false, ()))
    (k4 a1 a2 (a1.length : Int) 0)
def slices_Equal_impl_Entry_impl_Entry_b4 (k4 : slices_Equal_impl_Entry_impl_Entry_K4) (x1 : List tEntry.D) (x2 : List tEntry.D) (x3 : Int) (x4 : Int) : Option (Bool × Unit) :=
  cond (decide (x4 < x3))
    ((ix x1.length x4).bind fun v1 =>
    (ix x2.length x4).bind fun v2 =>
    cond (!(((gd tEntry x1 v1).1 == (gd tEntry x2 v2).1) && (eqS ((gd tEntry x1 v1).2.1) ((gd tEntry x2 v2).2.1) && true)))
      (some (false, ()))
      (k4 x1 x2 x3 (w64 (x4 + 1))))
    (some (true, ()))
def slices_Equal_impl_Entry_impl_Entry_L4 : Nat → slices_Equal_impl_Entry_impl_Entry_K4
  | 0, _, _, _, _ => none
  | m + 1, x1, x2, x3, x4 => slices_Equal_impl_Entry_impl_Entry_b4 (slices_Equal_impl_Entry_impl_Entry_L4 m) x1 x2 x3 x4
def slices_Equal_impl_Entry_impl_Entry (x : (List tEntry.D) × (List tEntry.D) × Unit) : Option (Bool × Unit) := slices_Equal_impl_Entry_impl_Entry_s (slices_Equal_impl_Entry_impl_Entry_L4 BIG) x.1 x.2.1

/-! impl.sameMsg -/
def impl_sameMsg_s (a1 : tMsg.D) (a2 : tMsg.D) : Option (Bool × Unit) :=
  cond (a1.1 == a2.1)
    (cond (a1.2.1 == a2.2.1)
      (cond (a1.2.2.1 == a2.2.2.1)
        (cond (a1.2.2.2.1 == a2.2.2.2.1)
          (cond (a1.2.2.2.2.1 == a2.2.2.2.2.1)
            (cond (a1.2.2.2.2.2.1 == a2.2.2.2.2.2.1)
              (cond (a1.2.2.2.2.2.2.1 == a2.2.2.2.2.2.2.1)
                (cond (a1.2.2.2.2.2.2.2.1 == a2.2.2.2.2.2.2.2.1)
                  ((slices_Equal_impl_Entry_impl_Entry (a1.2.2.2.2.2.2.2.2.1, a2.2.2.2.2.2.2.2.2.1, ())).bind fun v1 =>
                  cond v1.1
                    (some (eqS a1.2.2.2.2.2.2.2.2.2.1 a2.2.2.2.2.2.2.2.2.2.1, ()))
                    (some (false, ())))
                  (some (false, ())))
                (some (false, ())))
              (some (false, ())))
            (some (false, ())))
          (some (false, ())))
        (some (false, ())))
      (some (false, ())))
    (some (false, ()))
def impl_sameMsg (x : tMsg.D × tMsg.D × Unit) : Option (Bool × Unit) := impl_sameMsg_s x.1 x.2.1

/-! impl.MsgOk -/
abbrev impl_MsgOk_K3 : Type := Bool → tMsg.D → tMsg.D → Option (Bool × Unit)
def impl_MsgOk_s (k3 : impl_MsgOk_K3) (a1 : tMsg.D) : Option (Bool × Unit) :=
  (impl_within (a1.2.1, 0, 4, ())).bind fun v1 =>
  cond v1.1
    ((impl_within (a1.2.2.1, 0, 4, ())).bind fun v2 =>
    cond v2.1
      (cond (a1.2.1 != a1.2.2.1)
        ((impl_within (a1.2.2.2.1, 1, 100000, ())).bind fun v3 =>
        k3 v3.1 a1 (a1.1, a1.2.1, a1.2.2.1, a1.2.2.2.1, 0, 0, 0, false, ([] : List tEntry.D), ([] : List UInt8), ()))
        (k3 false a1 (a1.1, a1.2.1, a1.2.2.1, a1.2.2.2.1, 0, 0, 0, false, ([] : List tEntry.D), ([] : List UInt8), ())))
      (k3 false a1 (a1.1, a1.2.1, a1.2.2.1, a1.2.2.2.1, 0, 0, 0, false, ([] : List tEntry.D), ([] : List UInt8), ())))
    (k3 false a1 (a1.1, a1.2.1, a1.2.2.1, a1.2.2.2.1, 0, 0, 0, false, ([] : List tEntry.D), ([] : List UInt8), ()))
def impl_MsgOk_b3 (k3 : impl_MsgOk_K3) (x1 : Bool) (x2 : tMsg.D) (x3 : tMsg.D) : Option (Bool × Unit) :=
  cond (x2.1 == 1)
    (cond x1
      ((impl_isPlace (x2.2.2.2.2.1, x2.2.2.2.2.2.1, ())).bind fun v1 =>
      cond v1.1
        (cond (decide (x2.2.2.2.2.2.1 ≤ x2.2.2.2.1))
          ((impl_sameMsg (x2, (x3.1, x3.2.1, x3.2.2.1, x3.2.2.2.1, x2.2.2.2.2.1, x2.2.2.2.2.2.1, x3.2.2.2.2.2.2.1, x3.2.2.2.2.2.2.2.1, x3.2.2.2.2.2.2.2.2.1, x3.2.2.2.2.2.2.2.2.2.1, ()), ())).bind fun v2 =>
          some (v2.1, ()))
          (some (false, ())))
        (some (false, ())))
      (some (false, ())))
    (cond (x2.1 == 2)
      (cond x1
        ((impl_sameMsg (x2, (x3.1, x3.2.1, x3.2.2.1, x3.2.2.2.1, x3.2.2.2.2.1, x3.2.2.2.2.2.1, x3.2.2.2.2.2.2.1, x2.2.2.2.2.2.2.2.1, x3.2.2.2.2.2.2.2.2.1, x3.2.2.2.2.2.2.2.2.2.1, ()), ())).bind fun v3 =>
        some (v3.1, ()))
        (some (false, ())))
      (cond (x2.1 == 3)
        (cond x1
          ((impl_isPlace (x2.2.2.2.2.1, x2.2.2.2.2.2.1, ())).bind fun v4 =>
          cond v4.1
            (cond (decide (x2.2.2.2.2.2.1 ≤ x2.2.2.2.1))
              ((impl_within (x2.2.2.2.2.2.2.1, 0, 100000, ())).bind fun v5 =>
              cond v5.1
                ((impl_Msg_batchOk (x2, ())).bind fun v6 =>
                cond v6.1
                  ((impl_sameMsg (x2, (x3.1, x3.2.1, x3.2.2.1, x3.2.2.2.1, x2.2.2.2.2.1, x2.2.2.2.2.2.1, x2.2.2.2.2.2.2.1, x3.2.2.2.2.2.2.2.1, x2.2.2.2.2.2.2.2.2.1, x3.2.2.2.2.2.2.2.2.2.1, ()), ())).bind fun v7 =>
                  some (v7.1, ()))
                  (some (false, ())))
                (some (false, ())))
              (some (false, ())))
            (some (false, ())))
          (some (false, ())))
        (cond (x2.1 == 4)
          (cond x1
            ((impl_within (x2.2.2.2.2.1, 0, 100000, ())).bind fun v8 =>
            cond v8.1
              ((impl_sameMsg (x2, (x3.1, x3.2.1, x3.2.2.1, x3.2.2.2.1, x2.2.2.2.2.1, x3.2.2.2.2.2.1, x3.2.2.2.2.2.2.1, x2.2.2.2.2.2.2.2.1, x3.2.2.2.2.2.2.2.2.1, x3.2.2.2.2.2.2.2.2.2.1, ()), ())).bind fun v9 =>
              some (v9.1, ()))
              (some (false, ())))
            (some (false, ())))
          (cond (x2.1 == 5)
            (cond x1
              ((impl_within (x2.2.2.2.2.1, 1, 100000, ())).bind fun v10 =>
              cond v10.1
                ((impl_within (x2.2.2.2.2.2.1, 1, x2.2.2.2.1, ())).bind fun v11 =>
                cond v11.1
                  (cond (decide ((x2.2.2.2.2.2.2.2.2.2.1.length : Int) ≤ 20000))
                    ((impl_sameMsg (x2, (x3.1, x3.2.1, x3.2.2.1, x3.2.2.2.1, x2.2.2.2.2.1, x2.2.2.2.2.2.1, x3.2.2.2.2.2.2.1, x3.2.2.2.2.2.2.2.1, x3.2.2.2.2.2.2.2.2.1, x2.2.2.2.2.2.2.2.2.2.1, ()), ())).bind fun v12 =>
                    some (v12.1, ()))
                    (some (false, ())))
                  (some (false, ())))
                (some (false, ())))
              (some (false, ())))
            (some (false, ()))))))
def impl_MsgOk_L3 : Nat → impl_MsgOk_K3
  | 0, _, _, _ => none
  | m + 1, x1, x2, x3 => impl_MsgOk_b3 (impl_MsgOk_L3 m) x1 x2 x3
def impl_MsgOk (x : tMsg.D × Unit) : Option (Bool × Unit) := impl_MsgOk_s (impl_MsgOk_L3 BIG) x.1

/-! impl.Core).answer -/
def impl_Core_answer_s (a1 : tCore.D) (a2 : tMsg.D) (a3 : Bool) (a4 : Int) : Option ((List tMsg.D) × Unit) :=
  some ([(4, a1.1, a2.2.1, a1.2.2.1, a4, 0, 0, a3, ([] : List tEntry.D), ([] : List UInt8), ())], ())
def impl_Core_answer (x : tCore.D × tMsg.D × Bool × Int × Unit) : Option ((List tMsg.D) × Unit) := impl_Core_answer_s x.1 x.2.1 x.2.2.1 x.2.2.2.1

/-! impl.Core).steps -/
def impl_Core_steps_s (a1 : tCore.D) (a2 : Int) : Option (tCore.D × Unit) :=
  cond (a2 != a1.2.2.1)
    (some ((a1.1, a1.2.1, a2, (-1), 1, (-1), a1.2.2.2.2.2.2.1, a1.2.2.2.2.2.2.2.1, a1.2.2.2.2.2.2.2.2.1, a1.2.2.2.2.2.2.2.2.2.1, ([] : List Int), ([] : List Int), ([] : List Int), ()), ()))
    (some ((a1.1, a1.2.1, a2, a1.2.2.2.1, 1, (-1), a1.2.2.2.2.2.2.1, a1.2.2.2.2.2.2.2.1, a1.2.2.2.2.2.2.2.2.1, a1.2.2.2.2.2.2.2.2.2.1, ([] : List Int), ([] : List Int), ([] : List Int), ()), ()))
def impl_Core_steps (x : tCore.D × Int × Unit) : Option (tCore.D × Unit) := impl_Core_steps_s x.1 x.2.1

/-! impl.Core).term -/
def impl_Core_term_s (a1 : tCore.D) (a2 : Int) : Option (Int × Unit) :=
  cond (a2 == a1.2.2.2.2.2.2.1)
    (some (a1.2.2.2.2.2.2.2.1, ()))
    ((ix a1.2.2.2.2.2.2.2.2.1.length (w64 (w64 (a2 - a1.2.2.2.2.2.2.1) - 1))).bind fun v1 =>
    some ((gd tEntry a1.2.2.2.2.2.2.2.2.1 v1).1, ()))
def impl_Core_term (x : tCore.D × Int × Unit) : Option (Int × Unit) := impl_Core_term_s x.1 x.2.1

/-! impl.Core).vote -/
abbrev impl_Core_vote_R : Type := (List tMsg.D) × tCore.D × Unit
abbrev impl_Core_vote_K4 : Type := Bool → tCore.D → tMsg.D → Option (impl_Core_vote_R)
def impl_Core_vote_s (k4 : impl_Core_vote_K4) (a1 : tCore.D) (a2 : tMsg.D) : Option (impl_Core_vote_R) :=
  (impl_Core_last (a1, ())).bind fun v1 =>
  (impl_Core_term (a1, v1.1, ())).bind fun v2 =>
  cond (a1.2.2.2.2.1 == 1)
    (cond (a1.2.2.2.1 == (-1))
      (cond (decide (a2.2.2.2.2.2.1 > v2.1))
        (k4 true a1 a2)
        (cond (a2.2.2.2.2.2.1 == v2.1)
          (k4 (decide (a2.2.2.2.2.1 ≥ v1.1)) a1 a2)
          (k4 false a1 a2)))
      (cond (a1.2.2.2.1 == a2.2.1)
        (cond (decide (a2.2.2.2.2.2.1 > v2.1))
          (k4 true a1 a2)
          (cond (a2.2.2.2.2.2.1 == v2.1)
            (k4 (decide (a2.2.2.2.2.1 ≥ v1.1)) a1 a2)
            (k4 false a1 a2)))
        (k4 false a1 a2)))
    (k4 false a1 a2)
def impl_Core_vote_b4 (k4 : impl_Core_vote_K4) (x1 : Bool) (x2 : tCore.D) (x3 : tMsg.D) : Option (impl_Core_vote_R) :=
  cond x1
    (some ([(2, x2.1, x3.2.1, x2.2.2.1, 0, 0, 0, x1, ([] : List tEntry.D), ([] : List UInt8), ())], (x2.1, x2.2.1, x2.2.2.1, x3.2.1, x2.2.2.2.2.1, x2.2.2.2.2.2.1, x2.2.2.2.2.2.2.1, x2.2.2.2.2.2.2.2.1, x2.2.2.2.2.2.2.2.2.1, x2.2.2.2.2.2.2.2.2.2.1, x2.2.2.2.2.2.2.2.2.2.2.1, x2.2.2.2.2.2.2.2.2.2.2.2.1, x2.2.2.2.2.2.2.2.2.2.2.2.2.1, ()), ()))
    (some ([(2, x2.1, x3.2.1, x2.2.2.1, 0, 0, 0, x1, ([] : List tEntry.D), ([] : List UInt8), ())], x2, ()))
def impl_Core_vote_L4 : Nat → impl_Core_vote_K4
  | 0, _, _, _ => none
  | m + 1, x1, x2, x3 => impl_Core_vote_b4 (impl_Core_vote_L4 m) x1 x2 x3
def impl_Core_vote (x : tCore.D × tMsg.D × Unit) : Option (impl_Core_vote_R) := impl_Core_vote_s (impl_Core_vote_L4 BIG) x.1 x.2.1

/-! impl.Core).counts -/
structure impl_Core_counts_K where
  k1 : Int → tCore.D → Option (tCore.D × Unit)
  k5 : Int → Int → Int → Int → tCore.D → Option (tCore.D × Unit)
def impl_Core_counts_s (k : impl_Core_counts_K) (a1 : tCore.D) : Option (tCore.D × Unit) :=
  (impl_Core_last (a1, ())).bind fun v1 =>
  k.k1 v1.1 a1
def impl_Core_counts_b1 (k : impl_Core_counts_K) (x1 : Int) (x2 : tCore.D) : Option (tCore.D × Unit) :=
  cond (decide (x1 > x2.2.2.2.2.2.2.2.2.2.1))
    (k.k5 x1 0 (x2.2.2.2.2.2.2.2.2.2.2.2.2.1.length : Int) 0 x2)
    (some (x2, ()))
def impl_Core_counts_b5 (k : impl_Core_counts_K) (x1 : Int) (x2 : Int) (x3 : Int) (x4 : Int) (x5 : tCore.D) : Option (tCore.D × Unit) :=
  cond (decide (x4 < x3))
    ((ix x5.2.2.2.2.2.2.2.2.2.2.2.2.1.length x4).bind fun v1 =>
    cond (decide (gd (Ty.int .i64) x5.2.2.2.2.2.2.2.2.2.2.2.2.1 (0 + v1) ≥ x1))
      (k.k5 x1 (w64 (x2 + 1)) x3 (w64 (x4 + 1)) x5)
      (k.k5 x1 x2 x3 (w64 (x4 + 1)) x5))
    ((impl_Core_term (x5, x1, ())).bind fun v2 =>
    cond (v2.1 == x5.2.2.1)
      ((impl_Core_isMost (x5, x2, ())).bind fun v3 =>
      cond v3.1
        (some ((x5.1, x5.2.1, x5.2.2.1, x5.2.2.2.1, x5.2.2.2.2.1, x5.2.2.2.2.2.1, x5.2.2.2.2.2.2.1, x5.2.2.2.2.2.2.2.1, x5.2.2.2.2.2.2.2.2.1, x1, x5.2.2.2.2.2.2.2.2.2.2.1, x5.2.2.2.2.2.2.2.2.2.2.2.1, x5.2.2.2.2.2.2.2.2.2.2.2.2.1, ()), ()))
        (k.k1 (w64 (x1 - 1)) x5))
      (k.k1 (w64 (x1 - 1)) x5))
def impl_Core_counts_N (k : impl_Core_counts_K) : impl_Core_counts_K := ⟨impl_Core_counts_b1 k, impl_Core_counts_b5 k⟩
def impl_Core_counts_L : Nat → impl_Core_counts_K := iterK impl_Core_counts_N ⟨fun _ _ => none, fun _ _ _ _ _ => none⟩
def impl_Core_counts (x : tCore.D × Unit) : Option (tCore.D × Unit) := impl_Core_counts_s (impl_Core_counts_L BIG) x.1

/-! impl.Core).hasRoom -/
def impl_Core_hasRoom_s (a1 : tCore.D) : Option (Bool × Unit) :=
  cond (decide ((a1.2.2.2.2.2.2.2.2.1.length : Int) < 60))
    ((impl_Core_last (a1, ())).bind fun v1 =>
    some (decide (v1.1 < 100000), ()))
    (some (false, ()))
def impl_Core_hasRoom (x : tCore.D × Unit) : Option (Bool × Unit) := impl_Core_hasRoom_s x.1

/-! impl.Core).own -/
def impl_Core_own_s_v6 (a1 : tCore.D) (v3 : List Int) (v6 : List Int) : Option (tCore.D × Unit) :=
  some ((a1.1, a1.2.1, a1.2.2.1, a1.2.2.2.1, a1.2.2.2.2.1, a1.2.2.2.2.2.1, a1.2.2.2.2.2.2.1, a1.2.2.2.2.2.2.2.1, a1.2.2.2.2.2.2.2.2.1, a1.2.2.2.2.2.2.2.2.2.1, a1.2.2.2.2.2.2.2.2.2.2.1, v6, v3, ()), ())
def impl_Core_own_s_v3 (a1 : tCore.D) (v3 : List Int) : Option (tCore.D × Unit) :=
  (impl_Core_last ((a1.1, a1.2.1, a1.2.2.1, a1.2.2.2.1, a1.2.2.2.2.1, a1.2.2.2.2.2.1, a1.2.2.2.2.2.2.1, a1.2.2.2.2.2.2.2.1, a1.2.2.2.2.2.2.2.2.1, a1.2.2.2.2.2.2.2.2.2.1, a1.2.2.2.2.2.2.2.2.2.2.1, a1.2.2.2.2.2.2.2.2.2.2.2.1, v3, ()), ())).bind fun v4 =>
  (ix a1.2.2.2.2.2.2.2.2.2.2.2.1.length a1.1).bind fun v5 =>
  impl_Core_own_s_v6 a1 v3 (a1.2.2.2.2.2.2.2.2.2.2.2.1.set (0 + v5) (w64 (v4.1 + 1)))
def impl_Core_own_s (a1 : tCore.D) : Option (tCore.D × Unit) :=
  (impl_Core_last (a1, ())).bind fun v1 =>
  (ix a1.2.2.2.2.2.2.2.2.2.2.2.2.1.length a1.1).bind fun v2 =>
  impl_Core_own_s_v3 a1 (a1.2.2.2.2.2.2.2.2.2.2.2.2.1.set (0 + v2) v1.1)
def impl_Core_own (x : tCore.D × Unit) : Option (tCore.D × Unit) := impl_Core_own_s x.1

/-! impl.Core).others -/
abbrev impl_Core_others_K3 : Type := tCore.D → Int → Int → (List Int) → Option ((List Int) × Unit)
def impl_Core_others_s (k3 : impl_Core_others_K3) (a1 : tCore.D) : Option ((List Int) × Unit) :=
  k3 a1 a1.2.1 0 ([] : List Int)
def impl_Core_others_b3 (k3 : impl_Core_others_K3) (x1 : tCore.D) (x2 : Int) (x3 : Int) (x4 : List Int) : Option ((List Int) × Unit) :=
  cond (decide (x3 < x2))
    (cond (x3 != x1.1)
      (cond (room (x4.length + [x3].length))
        (k3 x1 x2 (w64 (x3 + 1)) (x4 ++ [x3]))
        (none))
      (k3 x1 x2 (w64 (x3 + 1)) x4))
    (some (x4, ()))
def impl_Core_others_L3 : Nat → impl_Core_others_K3
  | 0, _, _, _, _ => none
  | m + 1, x1, x2, x3, x4 => impl_Core_others_b3 (impl_Core_others_L3 m) x1 x2 x3 x4
def impl_Core_others (x : tCore.D × Unit) : Option ((List Int) × Unit) := impl_Core_others_s (impl_Core_others_L3 BIG) x.1

/-! impl.Core).sends -/
def impl_Core_sends_s_v5 (a1 : tCore.D) (a2 : Int) (v1 : Nat) (v2 : Int × Unit) (v5 : List tEntry.D) : Option (tMsg.D × Unit) :=
  some ((3, a1.1, a2, a1.2.2.1, w64 (gd (Ty.int .i64) a1.2.2.2.2.2.2.2.2.2.2.2.1 v1 - 1), v2.1, a1.2.2.2.2.2.2.2.2.2.1, false, v5, ([] : List UInt8), ()), ())
def impl_Core_sends_s (a1 : tCore.D) (a2 : Int) : Option (tMsg.D × Unit) :=
  (ix a1.2.2.2.2.2.2.2.2.2.2.2.1.length a2).bind fun v1 =>
  cond (decide (gd (Ty.int .i64) a1.2.2.2.2.2.2.2.2.2.2.2.1 v1 ≤ a1.2.2.2.2.2.2.1))
    (some ((5, a1.1, a2, a1.2.2.1, a1.2.2.2.2.2.2.1, a1.2.2.2.2.2.2.2.1, 0, false, ([] : List tEntry.D), ([] : List UInt8), ()), ()))
    ((impl_Core_term (a1, w64 (gd (Ty.int .i64) a1.2.2.2.2.2.2.2.2.2.2.2.1 v1 - 1), ())).bind fun v2 =>
    (rng a1.2.2.2.2.2.2.2.2.1.length (w64 (w64 (gd (Ty.int .i64) a1.2.2.2.2.2.2.2.2.2.2.2.1 v1 - 1) - a1.2.2.2.2.2.2.1)) (a1.2.2.2.2.2.2.2.2.1.length : Int)).bind fun v3 =>
    (rng ((part a1.2.2.2.2.2.2.2.2.1 v3.1 (v3.2 - v3.1)).length) 0 (mnI 4 (((part a1.2.2.2.2.2.2.2.2.1 v3.1 (v3.2 - v3.1)).length : Nat) : Int))).bind fun v4 =>
    cond (room (([] : List tEntry.D).length + (part (part a1.2.2.2.2.2.2.2.2.1 v3.1 (v3.2 - v3.1)) v4.1 (v4.2 - v4.1)).length))
      (impl_Core_sends_s_v5 a1 a2 v1 v2 (([] : List tEntry.D) ++ (part (part a1.2.2.2.2.2.2.2.2.1 v3.1 (v3.2 - v3.1)) v4.1 (v4.2 - v4.1))))
      (none))
def impl_Core_sends (x : tCore.D × Int × Unit) : Option (tMsg.D × Unit) := impl_Core_sends_s x.1 x.2.1

/-! impl.Core).sendsAll -/
abbrev impl_Core_sendsAll_K3 : Type := tCore.D → Int → Int → (List tMsg.D) → (List Int) → Option ((List tMsg.D) × Unit)
def impl_Core_sendsAll_s (k3 : impl_Core_sendsAll_K3) (a1 : tCore.D) : Option ((List tMsg.D) × Unit) :=
  (impl_Core_others (a1, ())).bind fun v1 =>
  k3 a1 (v1.1.length : Int) 0 ([] : List tMsg.D) v1.1
def impl_Core_sendsAll_b3 (k3 : impl_Core_sendsAll_K3) (x1 : tCore.D) (x2 : Int) (x3 : Int) (x4 : List tMsg.D) (x5 : List Int) : Option ((List tMsg.D) × Unit) :=
  cond (decide (x3 < x2))
    ((ix x5.length x3).bind fun v1 =>
    (impl_Core_sends (x1, gd (Ty.int .i64) x5 (0 + v1), ())).bind fun v2 =>
    cond (room (x4.length + [v2.1].length))
      (k3 x1 x2 (w64 (x3 + 1)) (x4 ++ [v2.1]) x5)
      (none))
    (some (x4, ()))
def impl_Core_sendsAll_L3 : Nat → impl_Core_sendsAll_K3
  | 0, _, _, _, _, _ => none
  | m + 1, x1, x2, x3, x4, x5 => impl_Core_sendsAll_b3 (impl_Core_sendsAll_L3 m) x1 x2 x3 x4 x5
def impl_Core_sendsAll (x : tCore.D × Unit) : Option ((List tMsg.D) × Unit) := impl_Core_sendsAll_s (impl_Core_sendsAll_L3 BIG) x.1

/-! impl.Core).leads -/
abbrev impl_Core_leads_R : Type := (List tMsg.D) × tCore.D × Unit
abbrev impl_Core_leads_K7 : Type := Int → Int → tCore.D → Option (impl_Core_leads_R)
def impl_Core_leads_s (k7 : impl_Core_leads_K7) (a1 : tCore.D) : Option (impl_Core_leads_R) :=
  cond (decide (0 ≤ a1.2.1) && decide (a1.2.1 = a1.2.1) && room (Int.toNat a1.2.1))
    (cond (decide (0 ≤ a1.2.1) && decide (a1.2.1 = a1.2.1) && room (Int.toNat a1.2.1))
      (k7 ((List.replicate (Int.toNat a1.2.1) (0 : Int)).length : Int) 0 (a1.1, a1.2.1, a1.2.2.1, a1.2.2.2.1, 3, a1.1, a1.2.2.2.2.2.2.1, a1.2.2.2.2.2.2.2.1, a1.2.2.2.2.2.2.2.2.1, a1.2.2.2.2.2.2.2.2.2.1, ([] : List Int), List.replicate (Int.toNat a1.2.1) (0 : Int), List.replicate (Int.toNat a1.2.1) (0 : Int), ()))
      (none))
    (none)
def impl_Core_leads_b7_v3 (k7 : impl_Core_leads_K7) (x1 : Int) (x2 : Int) (x3 : tCore.D) (v3 : List Int) : Option (impl_Core_leads_R) :=
  k7 x1 (w64 (x2 + 1)) (x3.1, x3.2.1, x3.2.2.1, x3.2.2.2.1, x3.2.2.2.2.1, x3.2.2.2.2.2.1, x3.2.2.2.2.2.2.1, x3.2.2.2.2.2.2.2.1, x3.2.2.2.2.2.2.2.2.1, x3.2.2.2.2.2.2.2.2.2.1, x3.2.2.2.2.2.2.2.2.2.2.1, v3, x3.2.2.2.2.2.2.2.2.2.2.2.2.1, ())
def impl_Core_leads_b7_v5 (x3 : tCore.D) (v5 : List tEntry.D) : Option (impl_Core_leads_R) :=
  (impl_Core_own ((x3.1, x3.2.1, x3.2.2.1, x3.2.2.2.1, x3.2.2.2.2.1, x3.2.2.2.2.2.1, x3.2.2.2.2.2.2.1, x3.2.2.2.2.2.2.2.1, v5, x3.2.2.2.2.2.2.2.2.2.1, x3.2.2.2.2.2.2.2.2.2.2.1, x3.2.2.2.2.2.2.2.2.2.2.2.1, x3.2.2.2.2.2.2.2.2.2.2.2.2.1, ()), ())).bind fun v6 =>
  (impl_Core_counts (v6.1, ())).bind fun v7 =>
  (impl_Core_sendsAll (v7.1, ())).bind fun v8 =>
  some (v8.1, v7.1, ())
def impl_Core_leads_b7 (k7 : impl_Core_leads_K7) (x1 : Int) (x2 : Int) (x3 : tCore.D) : Option (impl_Core_leads_R) :=
  cond (decide (x2 < x1))
    ((impl_Core_last (x3, ())).bind fun v1 =>
    (ix x3.2.2.2.2.2.2.2.2.2.2.2.1.length x2).bind fun v2 =>
    impl_Core_leads_b7_v3 k7 x1 x2 x3 (x3.2.2.2.2.2.2.2.2.2.2.2.1.set (0 + v2) (w64 (v1.1 + 1))))
    ((impl_Core_hasRoom (x3, ())).bind fun v4 =>
    cond v4.1
      (cond (room (x3.2.2.2.2.2.2.2.2.1.length + ([(x3.2.2.1, ([] : List UInt8), ())]).length))
        (impl_Core_leads_b7_v5 x3 (x3.2.2.2.2.2.2.2.2.1 ++ ([(x3.2.2.1, ([] : List UInt8), ())])))
        (none))
      ((impl_Core_own (x3, ())).bind fun v9 =>
      (impl_Core_counts (v9.1, ())).bind fun v10 =>
      (impl_Core_sendsAll (v10.1, ())).bind fun v11 =>
      some (v11.1, v10.1, ())))
def impl_Core_leads_L7 : Nat → impl_Core_leads_K7
  | 0, _, _, _ => none
  | m + 1, x1, x2, x3 => impl_Core_leads_b7 (impl_Core_leads_L7 m) x1 x2 x3
def impl_Core_leads (x : tCore.D × Unit) : Option (impl_Core_leads_R) := impl_Core_leads_s (impl_Core_leads_L7 BIG) x.1

/-! cmp.isNaN[int] -/
def cmp_isNaN_int_s (a1 : Int) : Option (Bool × Unit) :=
  some (a1 != a1, ())
def cmp_isNaN_int (x : Int × Unit) : Option (Bool × Unit) := cmp_isNaN_int_s x.1

/-! cmp.Less[int] -/
def cmp_Less_int_s (a1 : Int) (a2 : Int) : Option (Bool × Unit) :=
  (cmp_isNaN_int (a1, ())).bind fun v1 =>
  cond v1.1
    ((cmp_isNaN_int (a2, ())).bind fun v2 =>
    cond (!v2.1)
      (some (true, ()))
      (some (decide (a1 < a2), ())))
    (some (decide (a1 < a2), ()))
def cmp_Less_int (x : Int × Int × Unit) : Option (Bool × Unit) := cmp_Less_int_s x.1 x.2.1

/-! slices.insertionSortOrdered[int] -/
structure slices_insertionSortOrdered_int_K where
  k1 : Int → Int → Int → (List Int) → Option ((List Int) × Unit)
  k4 : Int → Int → Int → Int → (List Int) → Option ((List Int) × Unit)
def slices_insertionSortOrdered_int_s (k : slices_insertionSortOrdered_int_K) (a1 : List Int) (a2 : Int) (a3 : Int) : Option ((List Int) × Unit) :=
  k.k1 a2 a3 (w64 (a2 + 1)) a1
def slices_insertionSortOrdered_int_b1 (k : slices_insertionSortOrdered_int_K) (x1 : Int) (x2 : Int) (x3 : Int) (x4 : List Int) : Option ((List Int) × Unit) :=
  cond (decide (x3 < x2))
    (k.k4 x1 x2 x3 x3 x4)
    (some (x4, ()))
def slices_insertionSortOrdered_int_b4_v9 (k : slices_insertionSortOrdered_int_K) (x1 : Int) (x2 : Int) (x3 : Int) (x4 : Int) (v9 : List Int) : Option ((List Int) × Unit) :=
  k.k4 x1 x2 x3 (w64 (x4 - 1)) v9
def slices_insertionSortOrdered_int_b4_v7 (k : slices_insertionSortOrdered_int_K) (x4 : Int) (x1 : Int) (x2 : Int) (x3 : Int) (x5 : List Int) (v5 : Nat) (v7 : List Int) : Option ((List Int) × Unit) :=
  (ix v7.length (w64 (x4 - 1))).bind fun v8 =>
  slices_insertionSortOrdered_int_b4_v9 k x1 x2 x3 x4 (v7.set (0 + v8) (gd (Ty.int .i64) x5 (0 + v5)))
def slices_insertionSortOrdered_int_b4 (k : slices_insertionSortOrdered_int_K) (x1 : Int) (x2 : Int) (x3 : Int) (x4 : Int) (x5 : List Int) : Option ((List Int) × Unit) :=
  cond (decide (x4 > x1))
    ((ix x5.length x4).bind fun v1 =>
    (ix x5.length (w64 (x4 - 1))).bind fun v2 =>
    (cmp_Less_int (gd (Ty.int .i64) x5 (0 + v1), gd (Ty.int .i64) x5 (0 + v2), ())).bind fun v3 =>
    cond v3.1
      ((ix x5.length (w64 (x4 - 1))).bind fun v4 =>
      (ix x5.length x4).bind fun v5 =>
      (ix x5.length x4).bind fun v6 =>
      slices_insertionSortOrdered_int_b4_v7 k x4 x1 x2 x3 x5 v5 (x5.set (0 + v6) (gd (Ty.int .i64) x5 (0 + v4))))
      (k.k1 x1 x2 (w64 (x3 + 1)) x5))
    (k.k1 x1 x2 (w64 (x3 + 1)) x5)
def slices_insertionSortOrdered_int_N (k : slices_insertionSortOrdered_int_K) : slices_insertionSortOrdered_int_K := ⟨slices_insertionSortOrdered_int_b1 k, slices_insertionSortOrdered_int_b4 k⟩
def slices_insertionSortOrdered_int_L : Nat → slices_insertionSortOrdered_int_K := iterK slices_insertionSortOrdered_int_N ⟨fun _ _ _ _ => none, fun _ _ _ _ _ => none⟩
def slices_insertionSortOrdered_int (x : (List Int) × Int × Int × Unit) : Option ((List Int) × Unit) := slices_insertionSortOrdered_int_s (slices_insertionSortOrdered_int_L BIG) x.1 x.2.1 x.2.2.1

/-! slices.heapSortOrdered[int] -/
def slices_heapSortOrdered_int (_ : (List Int) × Int × Int × Unit) : Option ((List Int) × Unit) := none

/-! slices.breakPatternsOrdered[int] -/
def slices_breakPatternsOrdered_int (_ : (List Int) × Int × Int × Unit) : Option ((List Int) × Unit) := none

/-! slices.choosePivotOrdered[int] -/
def slices_choosePivotOrdered_int (_ : (List Int) × Int × Int × Unit) : Option (Int × Int × (List Int) × Unit) := none

/-! slices.reverseRangeOrdered[int] -/
def slices_reverseRangeOrdered_int (_ : (List Int) × Int × Int × Unit) : Option ((List Int) × Unit) := none

/-! slices.partialInsertionSortOrdered[int] -/
def slices_partialInsertionSortOrdered_int (_ : (List Int) × Int × Int × Unit) : Option (Bool × (List Int) × Unit) := none

/-! slices.partitionEqualOrdered[int] -/
def slices_partitionEqualOrdered_int (_ : (List Int) × Int × Int × Int × Unit) : Option (Int × Unit) := none

/-! slices.partitionOrdered[int] -/
def slices_partitionOrdered_int (_ : (List Int) × Int × Int × Int × Unit) : Option (Int × Bool × Unit) := none

/-! slices.pdqsortOrdered[int] -/
def slices_pdqsortOrdered_int_z (_ : (List Int) × Int × Int × Int × Unit) : Option ((List Int) × Unit) := none
structure slices_pdqsortOrdered_int_K where
  k2 : Int → Int → Int → Bool → Bool → (List Int) → Option ((List Int) × Unit)
  k10 : Int → Int → Int → Bool → Bool → Int → (List Int) → Option ((List Int) × Unit)
  k15 : Int → Int → Int → Bool → Bool → Int → Int → Int → (List Int) → Option ((List Int) × Unit)
  k17 : Int → Int → Int → Bool → Bool → Int → Int → (List Int) → Option ((List Int) × Unit)
  k20 : Int → Int → Int → Int → Int → (List Int) → Option ((List Int) × Unit)
def slices_pdqsortOrdered_int_s (k : slices_pdqsortOrdered_int_K) (a1 : List Int) (a2 : Int) (a3 : Int) (a4 : Int) : Option ((List Int) × Unit) :=
  k.k2 a2 a3 a4 true true a1
def slices_pdqsortOrdered_int_b2 (k : slices_pdqsortOrdered_int_K) (x1 : Int) (x2 : Int) (x3 : Int) (x4 : Bool) (x5 : Bool) (x6 : List Int) : Option ((List Int) × Unit) :=
  cond (decide (w64 (x2 - x1) ≤ 12))
    ((slices_insertionSortOrdered_int (x6, x1, x2, ())).bind fun v1 =>
    some (v1.1, ()))
    (cond (x3 == 0)
      ((slices_heapSortOrdered_int (x6, x1, x2, ())).bind fun v2 =>
      some (v2.1, ()))
      (cond (!x4)
        ((slices_breakPatternsOrdered_int (x6, x1, x2, ())).bind fun v3 =>
        k.k10 x1 x2 (w64 (x3 - 1)) x4 x5 (w64 (x2 - x1)) v3.1)
        (k.k10 x1 x2 x3 x4 x5 (w64 (x2 - x1)) x6)))
def slices_pdqsortOrdered_int_b10 (k : slices_pdqsortOrdered_int_K) (x1 : Int) (x2 : Int) (x3 : Int) (x4 : Bool) (x5 : Bool) (x6 : Int) (x7 : List Int) : Option ((List Int) × Unit) :=
  (slices_choosePivotOrdered_int (x7, x1, x2, ())).bind fun v1 =>
  cond (v1.2.1 == 2)
    ((slices_reverseRangeOrdered_int (v1.2.2.1, x1, x2, ())).bind fun v2 =>
    k.k15 x1 x2 x3 x4 x5 x6 (w64 (w64 (x2 - 1) - (w64 (v1.1 - x1)))) 1 v2.1)
    (k.k15 x1 x2 x3 x4 x5 x6 v1.1 v1.2.1 v1.2.2.1)
def slices_pdqsortOrdered_int_b15 (k : slices_pdqsortOrdered_int_K) (x1 : Int) (x2 : Int) (x3 : Int) (x4 : Bool) (x5 : Bool) (x6 : Int) (x7 : Int) (x8 : Int) (x9 : List Int) : Option ((List Int) × Unit) :=
  cond x4
    (cond x5
      (cond (x8 == 1)
        ((slices_partialInsertionSortOrdered_int (x9, x1, x2, ())).bind fun v1 =>
        cond v1.1
          (some (v1.2.1, ()))
          (k.k17 x1 x2 x3 x4 x5 x6 x7 v1.2.1))
        (k.k17 x1 x2 x3 x4 x5 x6 x7 x9))
      (k.k17 x1 x2 x3 x4 x5 x6 x7 x9))
    (k.k17 x1 x2 x3 x4 x5 x6 x7 x9)
def slices_pdqsortOrdered_int_b17 (k : slices_pdqsortOrdered_int_K) (x1 : Int) (x2 : Int) (x3 : Int) (x4 : Bool) (x5 : Bool) (x6 : Int) (x7 : Int) (x8 : List Int) : Option ((List Int) × Unit) :=
  cond (decide (x1 > 0))
    ((ix x8.length (w64 (x1 - 1))).bind fun v1 =>
    (ix x8.length x7).bind fun v2 =>
    (cmp_Less_int (gd (Ty.int .i64) x8 (0 + v1), gd (Ty.int .i64) x8 (0 + v2), ())).bind fun v3 =>
    cond (!v3.1)
      ((slices_partitionEqualOrdered_int (x8, x1, x2, x7, ())).bind fun v4 =>
      k.k2 v4.1 x2 x3 x4 x5 x8)
      (k.k20 x1 x2 x3 x6 x7 x8))
    (k.k20 x1 x2 x3 x6 x7 x8)
def slices_pdqsortOrdered_int_b20 (k : slices_pdqsortOrdered_int_K) (x1 : Int) (x2 : Int) (x3 : Int) (x4 : Int) (x5 : Int) (x6 : List Int) : Option ((List Int) × Unit) :=
  (slices_partitionOrdered_int (x6, x1, x2, x5, ())).bind fun v1 =>
  cond (decide (w64 (v1.1 - x1) < w64 (x2 - v1.1)))
    ((slices_pdqsortOrdered_int_z (x6, x1, v1.1, x3, ())).bind fun v2 =>
    k.k2 (w64 (v1.1 + 1)) x2 x3 (decide (w64 (v1.1 - x1) ≥ w64 (Int.tdiv x4 8))) v1.2.1 v2.1)
    ((slices_pdqsortOrdered_int_z (x6, w64 (v1.1 + 1), x2, x3, ())).bind fun v3 =>
    k.k2 x1 v1.1 x3 (decide (w64 (x2 - v1.1) ≥ w64 (Int.tdiv x4 8))) v1.2.1 v3.1)
def slices_pdqsortOrdered_int_N (k : slices_pdqsortOrdered_int_K) : slices_pdqsortOrdered_int_K := ⟨slices_pdqsortOrdered_int_b2 k, slices_pdqsortOrdered_int_b10 k, slices_pdqsortOrdered_int_b15 k, slices_pdqsortOrdered_int_b17 k, slices_pdqsortOrdered_int_b20 k⟩
def slices_pdqsortOrdered_int_L : Nat → slices_pdqsortOrdered_int_K := iterK slices_pdqsortOrdered_int_N ⟨fun _ _ _ _ _ _ => none, fun _ _ _ _ _ _ _ => none, fun _ _ _ _ _ _ _ _ _ => none, fun _ _ _ _ _ _ _ _ => none, fun _ _ _ _ _ _ => none⟩
def slices_pdqsortOrdered_int (x : (List Int) × Int × Int × Int × Unit) : Option ((List Int) × Unit) := slices_pdqsortOrdered_int_s (slices_pdqsortOrdered_int_L BIG) x.1 x.2.1 x.2.2.1 x.2.2.2.1

/-! bits.Len32 -/
structure bits_Len32_K where
  k4 : Int → Int → Option (Int × Unit)
  k7 : Int → Int → Option (Int × Unit)
def bits_Len32_s (k : bits_Len32_K) (a1 : Int) : Option (Int × Unit) :=
  cond (decide (a1 ≥ 65536))
    (k.k4 (Int.fdiv a1 (2 ^ min (Int.toNat 16) 32)) 16)
    (k.k4 a1 0)
def bits_Len32_b4 (k : bits_Len32_K) (x1 : Int) (x2 : Int) : Option (Int × Unit) :=
  cond (decide (x1 ≥ 256))
    (k.k7 (Int.fdiv x1 (2 ^ min (Int.toNat 8) 32)) (w64 (x2 + 8)))
    (k.k7 x1 x2)
def bits_Len32_b7 (k : bits_Len32_K) (x1 : Int) (x2 : Int) : Option (Int × Unit) :=
  (ix (([0, 1, 2, 2, 3, 3, 3, 3, 4, 4, 4, 4, 4, 4, 4, 4, 5, 5, 5, 5, 5, 5, 5, 5, 5, 5, 5, 5, 5, 5, 5, 5, 6, 6, 6, 6, 6, 6, 6, 6, 6, 6, 6, 6, 6, 6, 6, 6, 6, 6, 6, 6, 6, 6, 6, 6, 6, 6, 6, 6, 6, 6, 6, 6, 7, 7, 7, 7, 7, 7, 7, 7, 7, 7, 7, 7, 7, 7, 7, 7, 7, 7, 7, 7, 7, 7, 7, 7, 7, 7, 7, 7, 7, 7, 7, 7, 7, 7, 7, 7, 7, 7, 7, 7, 7, 7, 7, 7, 7, 7, 7, 7, 7, 7, 7, 7, 7, 7, 7, 7, 7, 7, 7, 7, 7, 7, 7, 7, 8, 8, 8, 8, 8, 8, 8, 8, 8, 8, 8, 8, 8, 8, 8, 8, 8, 8, 8, 8, 8, 8, 8, 8, 8, 8, 8, 8, 8, 8, 8, 8, 8, 8, 8, 8, 8, 8, 8, 8, 8, 8, 8, 8, 8, 8, 8, 8, 8, 8, 8, 8, 8, 8, 8, 8, 8, 8, 8, 8, 8, 8, 8, 8, 8, 8, 8, 8, 8, 8, 8, 8, 8, 8, 8, 8, 8, 8, 8, 8, 8, 8, 8, 8, 8, 8, 8, 8, 8, 8, 8, 8, 8, 8, 8, 8, 8, 8, 8, 8, 8, 8, 8, 8, 8, 8, 8, 8, 8, 8, 8, 8, 8, 8, 8, 8, 8, 8, 8, 8, 8, 8, 8, 8, 8, 8, 8, 8] : List UInt8).length) (IntKind.wrap .u8 (x1))).bind fun v1 =>
  some (w64 (x2 + w64 (((([0, 1, 2, 2, 3, 3, 3, 3, 4, 4, 4, 4, 4, 4, 4, 4, 5, 5, 5, 5, 5, 5, 5, 5, 5, 5, 5, 5, 5, 5, 5, 5, 6, 6, 6, 6, 6, 6, 6, 6, 6, 6, 6, 6, 6, 6, 6, 6, 6, 6, 6, 6, 6, 6, 6, 6, 6, 6, 6, 6, 6, 6, 6, 6, 7, 7, 7, 7, 7, 7, 7, 7, 7, 7, 7, 7, 7, 7, 7, 7, 7, 7, 7, 7, 7, 7, 7, 7, 7, 7, 7, 7, 7, 7, 7, 7, 7, 7, 7, 7, 7, 7, 7, 7, 7, 7, 7, 7, 7, 7, 7, 7, 7, 7, 7, 7, 7, 7, 7, 7, 7, 7, 7, 7, 7, 7, 7, 7, 8, 8, 8, 8, 8, 8, 8, 8, 8, 8, 8, 8, 8, 8, 8, 8, 8, 8, 8, 8, 8, 8, 8, 8, 8, 8, 8, 8, 8, 8, 8, 8, 8, 8, 8, 8, 8, 8, 8, 8, 8, 8, 8, 8, 8, 8, 8, 8, 8, 8, 8, 8, 8, 8, 8, 8, 8, 8, 8, 8, 8, 8, 8, 8, 8, 8, 8, 8, 8, 8, 8, 8, 8, 8, 8, 8, 8, 8, 8, 8, 8, 8, 8, 8, 8, 8, 8, 8, 8, 8, 8, 8, 8, 8, 8, 8, 8, 8, 8, 8, 8, 8, 8, 8, 8, 8, 8, 8, 8, 8, 8, 8, 8, 8, 8, 8, 8, 8, 8, 8, 8, 8, 8, 8, 8, 8, 8, 8] : List UInt8).getD v1 0).toNat : Int))), ())
def bits_Len32_N (k : bits_Len32_K) : bits_Len32_K := ⟨bits_Len32_b4 k, bits_Len32_b7 k⟩
def bits_Len32_L : Nat → bits_Len32_K := iterK bits_Len32_N ⟨fun _ _ => none, fun _ _ => none⟩
def bits_Len32 (x : Int × Unit) : Option (Int × Unit) := bits_Len32_s (bits_Len32_L BIG) x.1

/-! bits.Len64 -/
structure bits_Len64_K where
  k4 : Int → Int → Option (Int × Unit)
  k7 : Int → Int → Option (Int × Unit)
  k10 : Int → Int → Option (Int × Unit)
def bits_Len64_s (k : bits_Len64_K) (a1 : Int) : Option (Int × Unit) :=
  cond (decide (a1 ≥ 4294967296))
    (k.k4 (Int.fdiv a1 (2 ^ min (Int.toNat 32) 64)) 32)
    (k.k4 a1 0)
def bits_Len64_b4 (k : bits_Len64_K) (x1 : Int) (x2 : Int) : Option (Int × Unit) :=
  cond (decide (x1 ≥ 65536))
    (k.k7 (Int.fdiv x1 (2 ^ min (Int.toNat 16) 64)) (w64 (x2 + 16)))
    (k.k7 x1 x2)
def bits_Len64_b7 (k : bits_Len64_K) (x1 : Int) (x2 : Int) : Option (Int × Unit) :=
  cond (decide (x1 ≥ 256))
    (k.k10 (Int.fdiv x1 (2 ^ min (Int.toNat 8) 64)) (w64 (x2 + 8)))
    (k.k10 x1 x2)
def bits_Len64_b10 (k : bits_Len64_K) (x1 : Int) (x2 : Int) : Option (Int × Unit) :=
  (ix (([0, 1, 2, 2, 3, 3, 3, 3, 4, 4, 4, 4, 4, 4, 4, 4, 5, 5, 5, 5, 5, 5, 5, 5, 5, 5, 5, 5, 5, 5, 5, 5, 6, 6, 6, 6, 6, 6, 6, 6, 6, 6, 6, 6, 6, 6, 6, 6, 6, 6, 6, 6, 6, 6, 6, 6, 6, 6, 6, 6, 6, 6, 6, 6, 7, 7, 7, 7, 7, 7, 7, 7, 7, 7, 7, 7, 7, 7, 7, 7, 7, 7, 7, 7, 7, 7, 7, 7, 7, 7, 7, 7, 7, 7, 7, 7, 7, 7, 7, 7, 7, 7, 7, 7, 7, 7, 7, 7, 7, 7, 7, 7, 7, 7, 7, 7, 7, 7, 7, 7, 7, 7, 7, 7, 7, 7, 7, 7, 8, 8, 8, 8, 8, 8, 8, 8, 8, 8, 8, 8, 8, 8, 8, 8, 8, 8, 8, 8, 8, 8, 8, 8, 8, 8, 8, 8, 8, 8, 8, 8, 8, 8, 8, 8, 8, 8, 8, 8, 8, 8, 8, 8, 8, 8, 8, 8, 8, 8, 8, 8, 8, 8, 8, 8, 8, 8, 8, 8, 8, 8, 8, 8, 8, 8, 8, 8, 8, 8, 8, 8, 8, 8, 8, 8, 8, 8, 8, 8, 8, 8, 8, 8, 8, 8, 8, 8, 8, 8, 8, 8, 8, 8, 8, 8, 8, 8, 8, 8, 8, 8, 8, 8, 8, 8, 8, 8, 8, 8, 8, 8, 8, 8, 8, 8, 8, 8, 8, 8, 8, 8, 8, 8, 8, 8, 8, 8] : List UInt8).length) (IntKind.wrap .u8 (x1))).bind fun v1 =>
  some (w64 (x2 + w64 (((([0, 1, 2, 2, 3, 3, 3, 3, 4, 4, 4, 4, 4, 4, 4, 4, 5, 5, 5, 5, 5, 5, 5, 5, 5, 5, 5, 5, 5, 5, 5, 5, 6, 6, 6, 6, 6, 6, 6, 6, 6, 6, 6, 6, 6, 6, 6, 6, 6, 6, 6, 6, 6, 6, 6, 6, 6, 6, 6, 6, 6, 6, 6, 6, 7, 7, 7, 7, 7, 7, 7, 7, 7, 7, 7, 7, 7, 7, 7, 7, 7, 7, 7, 7, 7, 7, 7, 7, 7, 7, 7, 7, 7, 7, 7, 7, 7, 7, 7, 7, 7, 7, 7, 7, 7, 7, 7, 7, 7, 7, 7, 7, 7, 7, 7, 7, 7, 7, 7, 7, 7, 7, 7, 7, 7, 7, 7, 7, 8, 8, 8, 8, 8, 8, 8, 8, 8, 8, 8, 8, 8, 8, 8, 8, 8, 8, 8, 8, 8, 8, 8, 8, 8, 8, 8, 8, 8, 8, 8, 8, 8, 8, 8, 8, 8, 8, 8, 8, 8, 8, 8, 8, 8, 8, 8, 8, 8, 8, 8, 8, 8, 8, 8, 8, 8, 8, 8, 8, 8, 8, 8, 8, 8, 8, 8, 8, 8, 8, 8, 8, 8, 8, 8, 8, 8, 8, 8, 8, 8, 8, 8, 8, 8, 8, 8, 8, 8, 8, 8, 8, 8, 8, 8, 8, 8, 8, 8, 8, 8, 8, 8, 8, 8, 8, 8, 8, 8, 8, 8, 8, 8, 8, 8, 8, 8, 8, 8, 8, 8, 8, 8, 8, 8, 8, 8, 8] : List UInt8).getD v1 0).toNat : Int))), ())
def bits_Len64_N (k : bits_Len64_K) : bits_Len64_K := ⟨bits_Len64_b4 k, bits_Len64_b7 k, bits_Len64_b10 k⟩
def bits_Len64_L : Nat → bits_Len64_K := iterK bits_Len64_N ⟨fun _ _ => none, fun _ _ => none, fun _ _ => none⟩
def bits_Len64 (x : Int × Unit) : Option (Int × Unit) := bits_Len64_s (bits_Len64_L BIG) x.1

/-! bits.Len -/
def bits_Len_s (a1 : Int) : Option (Int × Unit) :=
  (bits_Len64 (a1, ())).bind fun v1 =>
  some (v1.1, ())
def bits_Len (x : Int × Unit) : Option (Int × Unit) := bits_Len_s x.1

/-! slices.Sort[[]int,int] -/
def slices_Sort_int_int_s (a1 : List Int) : Option ((List Int) × Unit) :=
  (bits_Len (IntKind.wrap .u64 ((a1.length : Int)), ())).bind fun v1 =>
  (slices_pdqsortOrdered_int (a1, 0, (a1.length : Int), v1.1, ())).bind fun v2 =>
  some (v2.1, ())
def slices_Sort_int_int (x : (List Int) × Unit) : Option ((List Int) × Unit) := slices_Sort_int_int_s x.1

/-! impl.Core).voted -/
abbrev impl_Core_voted_R : Type := (List tMsg.D) × tCore.D × Unit
abbrev impl_Core_voted_K6 : Type := tCore.D → Option (impl_Core_voted_R)
def impl_Core_voted_s (k6 : impl_Core_voted_K6) (a1 : tCore.D) (a2 : tMsg.D) : Option (impl_Core_voted_R) :=
  cond (a1.2.2.2.2.1 != 2)
    (some (([] : List tMsg.D), a1, ()))
    (cond (!a2.2.2.2.2.2.2.2.1)
      (some (([] : List tMsg.D), a1, ()))
      ((slices_Contains_int_int (a1.2.2.2.2.2.2.2.2.2.2.1, a2.2.1, ())).bind fun v1 =>
      cond (!v1.1)
        (cond (room (a1.2.2.2.2.2.2.2.2.2.2.1.length + [a2.2.1].length))
          ((slices_Sort_int_int (a1.2.2.2.2.2.2.2.2.2.2.1 ++ [a2.2.1], ())).bind fun v2 =>
          k6 (a1.1, a1.2.1, a1.2.2.1, a1.2.2.2.1, a1.2.2.2.2.1, a1.2.2.2.2.2.1, a1.2.2.2.2.2.2.1, a1.2.2.2.2.2.2.2.1, a1.2.2.2.2.2.2.2.2.1, a1.2.2.2.2.2.2.2.2.2.1, v2.1, a1.2.2.2.2.2.2.2.2.2.2.2.1, a1.2.2.2.2.2.2.2.2.2.2.2.2.1, ()))
          (none))
        (k6 a1)))
def impl_Core_voted_b6 (k6 : impl_Core_voted_K6) (x1 : tCore.D) : Option (impl_Core_voted_R) :=
  (impl_Core_isMost (x1, (x1.2.2.2.2.2.2.2.2.2.2.1.length : Int), ())).bind fun v1 =>
  cond v1.1
    ((impl_Core_leads (x1, ())).bind fun v2 =>
    some (v2.1, v2.2.1, ()))
    (some (([] : List tMsg.D), x1, ()))
def impl_Core_voted_L6 : Nat → impl_Core_voted_K6
  | 0, _ => none
  | m + 1, x1 => impl_Core_voted_b6 (impl_Core_voted_L6 m) x1
def impl_Core_voted (x : tCore.D × tMsg.D × Unit) : Option (impl_Core_voted_R) := impl_Core_voted_s (impl_Core_voted_L6 BIG) x.1 x.2.1

/-! impl.Core).takes -/
abbrev impl_Core_takes_R : Type := (List tMsg.D) × tCore.D × Unit
structure impl_Core_takes_K where
  k3 : Int → (List tEntry.D) → Int → (List tEntry.D) → Int → Int → tCore.D → tMsg.D → Option (impl_Core_takes_R)
  k8 : (List tEntry.D) → Int → Int → tCore.D → tMsg.D → Option (impl_Core_takes_R)
  k12 : (List tEntry.D) → Int → Int → tCore.D → Nat → Nat → (List tEntry.D) → tMsg.D → Option (impl_Core_takes_R)
def impl_Core_takes_s (k : impl_Core_takes_K) (a1 : tCore.D) (a2 : tMsg.D) (a3 : Int) (a4 : List tEntry.D) : Option (impl_Core_takes_R) :=
  k.k3 a3 a4 a3 a4 (a4.length : Int) 0 a1 a2
def impl_Core_takes_b3 (k : impl_Core_takes_K) (x1 : Int) (x2 : List tEntry.D) (x3 : Int) (x4 : List tEntry.D) (x5 : Int) (x6 : Int) (x7 : tCore.D) (x8 : tMsg.D) : Option (impl_Core_takes_R) :=
  cond (decide (x6 < x5))
    ((ix x4.length x6).bind fun v1 =>
    (impl_Core_last (x7, ())).bind fun v2 =>
    cond (decide (w64 (w64 (x1 + x6) + 1) ≤ v2.1))
      ((impl_Core_term (x7, w64 (w64 (x1 + x6) + 1), ())).bind fun v3 =>
      cond (v3.1 == (gd tEntry x4 v1).1)
        (k.k3 x1 x2 (w64 (w64 (x1 + x6) + 1)) x4 x5 (w64 (x6 + 1)) x7 x8)
        (k.k8 x2 x6 (w64 (w64 (x1 + x6) + 1)) x7 x8))
      (k.k8 x2 x6 (w64 (w64 (x1 + x6) + 1)) x7 x8))
    ((impl_Core_answer ((x7.1, x7.2.1, x7.2.2.1, x7.2.2.2.1, x7.2.2.2.2.1, x7.2.2.2.2.2.1, x7.2.2.2.2.2.2.1, x7.2.2.2.2.2.2.2.1, x7.2.2.2.2.2.2.2.2.1, mxI x7.2.2.2.2.2.2.2.2.2.1 (mnI x8.2.2.2.2.2.2.1 x3), x7.2.2.2.2.2.2.2.2.2.2.1, x7.2.2.2.2.2.2.2.2.2.2.2.1, x7.2.2.2.2.2.2.2.2.2.2.2.2.1, ()), x8, true, x3, ())).bind fun v4 =>
    some (v4.1, (x7.1, x7.2.1, x7.2.2.1, x7.2.2.2.1, x7.2.2.2.2.1, x7.2.2.2.2.2.1, x7.2.2.2.2.2.2.1, x7.2.2.2.2.2.2.2.1, x7.2.2.2.2.2.2.2.2.1, mxI x7.2.2.2.2.2.2.2.2.2.1 (mnI x8.2.2.2.2.2.2.1 x3), x7.2.2.2.2.2.2.2.2.2.2.1, x7.2.2.2.2.2.2.2.2.2.2.2.1, x7.2.2.2.2.2.2.2.2.2.2.2.2.1, ()), ()))
def impl_Core_takes_b8 (k : impl_Core_takes_K) (x1 : List tEntry.D) (x2 : Int) (x3 : Int) (x4 : tCore.D) (x5 : tMsg.D) : Option (impl_Core_takes_R) :=
  cond (decide (x3 ≤ x4.2.2.2.2.2.2.2.2.2.1))
    (some (([] : List tMsg.D), x4, ()))
    (cond (decide (w64 (w64 (x3 - 1) - x4.2.2.2.2.2.2.1) = w64 (w64 (x3 - 1) - x4.2.2.2.2.2.2.1)))
      ((rng x4.2.2.2.2.2.2.2.2.1.length 0 (w64 (w64 (x3 - 1) - x4.2.2.2.2.2.2.1))).bind fun v1 =>
      (rng x1.length x2 (x1.length : Int)).bind fun v2 =>
      k.k12 (part x1 v2.1 (v2.2 - v2.1)) (((part x1 v2.1 (v2.2 - v2.1)).length : Nat) : Int) 0 (x4.1, x4.2.1, x4.2.2.1, x4.2.2.2.1, x4.2.2.2.2.1, x4.2.2.2.2.2.1, x4.2.2.2.2.2.2.1, x4.2.2.2.2.2.2.2.1, ([] : List tEntry.D), x4.2.2.2.2.2.2.2.2.2.1, x4.2.2.2.2.2.2.2.2.2.2.1, x4.2.2.2.2.2.2.2.2.2.2.2.1, x4.2.2.2.2.2.2.2.2.2.2.2.2.1, ()) (0 + v1.1) (v1.2 - v1.1) x4.2.2.2.2.2.2.2.2.1 x5)
      (none))
def impl_Core_takes_b12 (k : impl_Core_takes_K) (x1 : List tEntry.D) (x2 : Int) (x3 : Int) (x4 : tCore.D) (x5 : Nat) (x6 : Nat) (x7 : List tEntry.D) (x8 : tMsg.D) : Option (impl_Core_takes_R) :=
  cond (decide (x3 < x2))
    ((ix x1.length x3).bind fun v1 =>
    cond (decide ((x6 : Int) < 60))
      (cond (room ((part x7 x5 x6).length + [gd tEntry x1 v1].length))
        (k.k12 x1 x2 (w64 (x3 + 1)) (x4.1, x4.2.1, x4.2.2.1, x4.2.2.2.1, x4.2.2.2.2.1, x4.2.2.2.2.2.1, x4.2.2.2.2.2.2.1, x4.2.2.2.2.2.2.2.1, ([] : List tEntry.D), x4.2.2.2.2.2.2.2.2.2.1, x4.2.2.2.2.2.2.2.2.2.2.1, x4.2.2.2.2.2.2.2.2.2.2.2.1, x4.2.2.2.2.2.2.2.2.2.2.2.2.1, ()) 0 (((part x7 x5 x6) ++ [gd tEntry x1 v1]).length) ((part x7 x5 x6) ++ [gd tEntry x1 v1]) x8)
        (none))
      (k.k12 x1 x2 (w64 (x3 + 1)) (x4.1, x4.2.1, x4.2.2.1, x4.2.2.2.1, x4.2.2.2.2.1, x4.2.2.2.2.2.1, x4.2.2.2.2.2.2.1, x4.2.2.2.2.2.2.2.1, ([] : List tEntry.D), x4.2.2.2.2.2.2.2.2.2.1, x4.2.2.2.2.2.2.2.2.2.2.1, x4.2.2.2.2.2.2.2.2.2.2.2.1, x4.2.2.2.2.2.2.2.2.2.2.2.2.1, ()) x5 x6 x7 x8))
    ((impl_Core_last ((x4.1, x4.2.1, x4.2.2.1, x4.2.2.2.1, x4.2.2.2.2.1, x4.2.2.2.2.2.1, x4.2.2.2.2.2.2.1, x4.2.2.2.2.2.2.2.1, part x7 x5 x6, x4.2.2.2.2.2.2.2.2.2.1, x4.2.2.2.2.2.2.2.2.2.2.1, x4.2.2.2.2.2.2.2.2.2.2.2.1, x4.2.2.2.2.2.2.2.2.2.2.2.2.1, ()), ())).bind fun v2 =>
    (impl_Core_answer ((x4.1, x4.2.1, x4.2.2.1, x4.2.2.2.1, x4.2.2.2.2.1, x4.2.2.2.2.2.1, x4.2.2.2.2.2.2.1, x4.2.2.2.2.2.2.2.1, part x7 x5 x6, mxI x4.2.2.2.2.2.2.2.2.2.1 (mnI x8.2.2.2.2.2.2.1 v2.1), x4.2.2.2.2.2.2.2.2.2.2.1, x4.2.2.2.2.2.2.2.2.2.2.2.1, x4.2.2.2.2.2.2.2.2.2.2.2.2.1, ()), x8, true, v2.1, ())).bind fun v3 =>
    some (v3.1, (x4.1, x4.2.1, x4.2.2.1, x4.2.2.2.1, x4.2.2.2.2.1, x4.2.2.2.2.2.1, x4.2.2.2.2.2.2.1, x4.2.2.2.2.2.2.2.1, part x7 x5 x6, mxI x4.2.2.2.2.2.2.2.2.2.1 (mnI x8.2.2.2.2.2.2.1 v2.1), x4.2.2.2.2.2.2.2.2.2.2.1, x4.2.2.2.2.2.2.2.2.2.2.2.1, x4.2.2.2.2.2.2.2.2.2.2.2.2.1, ()), ()))
def impl_Core_takes_N (k : impl_Core_takes_K) : impl_Core_takes_K := ⟨impl_Core_takes_b3 k, impl_Core_takes_b8 k, impl_Core_takes_b12 k⟩
def impl_Core_takes_L : Nat → impl_Core_takes_K := iterK impl_Core_takes_N ⟨fun _ _ _ _ _ _ _ _ => none, fun _ _ _ _ _ => none, fun _ _ _ _ _ _ _ _ => none⟩
def impl_Core_takes (x : tCore.D × tMsg.D × Int × (List tEntry.D) × Unit) : Option (impl_Core_takes_R) := impl_Core_takes_s (impl_Core_takes_L BIG) x.1 x.2.1 x.2.2.1 x.2.2.2.1

/-! impl.Core).app -/
abbrev impl_Core_app_R : Type := (List tMsg.D) × tCore.D × Unit
structure impl_Core_app_K where
  k10 : (List tEntry.D) → Int → tCore.D → tMsg.D → Option (impl_Core_app_R)
  k12 : (List tEntry.D) → Int → tCore.D → tMsg.D → Option (impl_Core_app_R)
  k16 : Int → Int → tCore.D → tMsg.D → Option (impl_Core_app_R)
def impl_Core_app_s (k : impl_Core_app_K) (a1 : tCore.D) (a2 : tMsg.D) : Option (impl_Core_app_R) :=
  cond (a1.2.2.2.2.1 == 3)
    (some (([] : List tMsg.D), a1, ()))
    ((impl_Core_steps (a1, a1.2.2.1, ())).bind fun v1 =>
    cond (decide (a2.2.2.2.2.1 < v1.1.2.2.2.2.2.2.1))
      ((rng a2.2.2.2.2.2.2.2.2.1.length (mnI (a2.2.2.2.2.2.2.2.2.1.length : Int) (w64 (v1.1.2.2.2.2.2.2.1 - a2.2.2.2.2.1))) (a2.2.2.2.2.2.2.2.2.1.length : Int)).bind fun v2 =>
      k.k10 (part a2.2.2.2.2.2.2.2.2.1 v2.1 (v2.2 - v2.1)) v1.1.2.2.2.2.2.2.1 (v1.1.1, v1.1.2.1, v1.1.2.2.1, v1.1.2.2.2.1, v1.1.2.2.2.2.1, a2.2.1, v1.1.2.2.2.2.2.2.1, v1.1.2.2.2.2.2.2.2.1, v1.1.2.2.2.2.2.2.2.2.1, v1.1.2.2.2.2.2.2.2.2.2.1, v1.1.2.2.2.2.2.2.2.2.2.2.1, v1.1.2.2.2.2.2.2.2.2.2.2.2.1, v1.1.2.2.2.2.2.2.2.2.2.2.2.2.1, ()) a2)
      (k.k10 a2.2.2.2.2.2.2.2.2.1 a2.2.2.2.2.1 (v1.1.1, v1.1.2.1, v1.1.2.2.1, v1.1.2.2.2.1, v1.1.2.2.2.2.1, a2.2.1, v1.1.2.2.2.2.2.2.1, v1.1.2.2.2.2.2.2.2.1, v1.1.2.2.2.2.2.2.2.2.1, v1.1.2.2.2.2.2.2.2.2.2.1, v1.1.2.2.2.2.2.2.2.2.2.2.1, v1.1.2.2.2.2.2.2.2.2.2.2.2.1, v1.1.2.2.2.2.2.2.2.2.2.2.2.2.1, ()) a2))
def impl_Core_app_b10 (k : impl_Core_app_K) (x1 : List tEntry.D) (x2 : Int) (x3 : tCore.D) (x4 : tMsg.D) : Option (impl_Core_app_R) :=
  cond (x2 == x3.2.2.2.2.2.2.1)
    (cond (decide ((x1.length : Int) > 0))
      ((ix x1.length 0).bind fun v1 =>
      cond (decide ((gd tEntry x1 v1).1 < x3.2.2.2.2.2.2.2.1))
        (some (([] : List tMsg.D), x3, ()))
        (k.k12 x1 x2 x3 x4))
      (k.k12 x1 x2 x3 x4))
    (k.k12 x1 x2 x3 x4)
def impl_Core_app_b12 (k : impl_Core_app_K) (x1 : List tEntry.D) (x2 : Int) (x3 : tCore.D) (x4 : tMsg.D) : Option (impl_Core_app_R) :=
  (impl_Core_last (x3, ())).bind fun v1 =>
  cond (decide (x2 > v1.1))
    ((impl_Core_last (x3, ())).bind fun v2 =>
    (impl_Core_answer (x3, x4, false, v2.1, ())).bind fun v3 =>
    some (v3.1, x3, ()))
    (cond (decide (x2 > x3.2.2.2.2.2.2.1))
      ((impl_Core_term (x3, x2, ())).bind fun v4 =>
      cond (v4.1 != x4.2.2.2.2.2.1)
        (k.k16 x2 x2 x3 x4)
        ((impl_Core_takes (x3, x4, x2, x1, ())).bind fun v5 =>
        some (v5.1, v5.2.1, ())))
      ((impl_Core_takes (x3, x4, x2, x1, ())).bind fun v6 =>
      some (v6.1, v6.2.1, ())))
def impl_Core_app_b16 (k : impl_Core_app_K) (x1 : Int) (x2 : Int) (x3 : tCore.D) (x4 : tMsg.D) : Option (impl_Core_app_R) :=
  cond (decide (w64 (x2 - 1) > x3.2.2.2.2.2.2.1))
    ((impl_Core_term (x3, w64 (x2 - 1), ())).bind fun v1 =>
    (impl_Core_term (x3, x1, ())).bind fun v2 =>
    cond (v1.1 == v2.1)
      (k.k16 x1 (w64 (x2 - 1)) x3 x4)
      ((impl_Core_answer (x3, x4, false, w64 (x2 - 1), ())).bind fun v3 =>
      some (v3.1, x3, ())))
    ((impl_Core_answer (x3, x4, false, w64 (x2 - 1), ())).bind fun v4 =>
    some (v4.1, x3, ()))
def impl_Core_app_N (k : impl_Core_app_K) : impl_Core_app_K := ⟨impl_Core_app_b10 k, impl_Core_app_b12 k, impl_Core_app_b16 k⟩
def impl_Core_app_L : Nat → impl_Core_app_K := iterK impl_Core_app_N ⟨fun _ _ _ _ => none, fun _ _ _ _ => none, fun _ _ _ _ => none⟩
def impl_Core_app (x : tCore.D × tMsg.D × Unit) : Option (impl_Core_app_R) := impl_Core_app_s (impl_Core_app_L BIG) x.1 x.2.1

/-! impl.Core).apped -/
abbrev impl_Core_apped_R : Type := (List tMsg.D) × tCore.D × Unit
def impl_Core_apped_s_v6 (a1 : tCore.D) (v4 : List Int) (a2 : tMsg.D) (v6 : List Int) : Option (impl_Core_apped_R) :=
  (impl_Core_counts ((a1.1, a1.2.1, a1.2.2.1, a1.2.2.2.1, a1.2.2.2.2.1, a1.2.2.2.2.2.1, a1.2.2.2.2.2.2.1, a1.2.2.2.2.2.2.2.1, a1.2.2.2.2.2.2.2.2.1, a1.2.2.2.2.2.2.2.2.2.1, a1.2.2.2.2.2.2.2.2.2.2.1, v6, v4, ()), ())).bind fun v7 =>
  (ix v7.1.2.2.2.2.2.2.2.2.2.2.2.1.length a2.2.1).bind fun v8 =>
  (impl_Core_last (v7.1, ())).bind fun v9 =>
  cond (decide (gd (Ty.int .i64) v7.1.2.2.2.2.2.2.2.2.2.2.2.1 (0 + v8) ≤ v9.1))
    ((impl_Core_sends (v7.1, a2.2.1, ())).bind fun v10 =>
    some ([v10.1], v7.1, ()))
    (some (([] : List tMsg.D), v7.1, ()))
def impl_Core_apped_s_v4 (a1 : tCore.D) (a2 : tMsg.D) (v1 : Int × Unit) (v4 : List Int) : Option (impl_Core_apped_R) :=
  (ix a1.2.2.2.2.2.2.2.2.2.2.2.1.length a2.2.1).bind fun v5 =>
  impl_Core_apped_s_v6 a1 v4 a2 (a1.2.2.2.2.2.2.2.2.2.2.2.1.set (0 + v5) (w64 (mnI a2.2.2.2.2.1 v1.1 + 1)))
def impl_Core_apped_s_v15 (a1 : tCore.D) (a2 : tMsg.D) (v15 : List Int) : Option (impl_Core_apped_R) :=
  (impl_Core_sends ((a1.1, a1.2.1, a1.2.2.1, a1.2.2.2.1, a1.2.2.2.2.1, a1.2.2.2.2.2.1, a1.2.2.2.2.2.2.1, a1.2.2.2.2.2.2.2.1, a1.2.2.2.2.2.2.2.2.1, a1.2.2.2.2.2.2.2.2.2.1, a1.2.2.2.2.2.2.2.2.2.2.1, v15, a1.2.2.2.2.2.2.2.2.2.2.2.2.1, ()), a2.2.1, ())).bind fun v16 =>
  some ([v16.1], (a1.1, a1.2.1, a1.2.2.1, a1.2.2.2.1, a1.2.2.2.2.1, a1.2.2.2.2.2.1, a1.2.2.2.2.2.2.1, a1.2.2.2.2.2.2.2.1, a1.2.2.2.2.2.2.2.2.1, a1.2.2.2.2.2.2.2.2.2.1, a1.2.2.2.2.2.2.2.2.2.2.1, v15, a1.2.2.2.2.2.2.2.2.2.2.2.2.1, ()), ())
def impl_Core_apped_s (a1 : tCore.D) (a2 : tMsg.D) : Option (impl_Core_apped_R) :=
  cond (a1.2.2.2.2.1 != 3)
    (some (([] : List tMsg.D), a1, ()))
    (cond a2.2.2.2.2.2.2.2.1
      ((impl_Core_last (a1, ())).bind fun v1 =>
      (ix a1.2.2.2.2.2.2.2.2.2.2.2.2.1.length a2.2.1).bind fun v2 =>
      cond (decide (mnI a2.2.2.2.2.1 v1.1 ≤ gd (Ty.int .i64) a1.2.2.2.2.2.2.2.2.2.2.2.2.1 (0 + v2)))
        (some (([] : List tMsg.D), a1, ()))
        ((ix a1.2.2.2.2.2.2.2.2.2.2.2.2.1.length a2.2.1).bind fun v3 =>
        impl_Core_apped_s_v4 a1 a2 v1 (a1.2.2.2.2.2.2.2.2.2.2.2.2.1.set (0 + v3) (mnI a2.2.2.2.2.1 v1.1))))
      ((ix a1.2.2.2.2.2.2.2.2.2.2.2.1.length a2.2.1).bind fun v11 =>
      (ix a1.2.2.2.2.2.2.2.2.2.2.2.2.1.length a2.2.1).bind fun v12 =>
      (ix a1.2.2.2.2.2.2.2.2.2.2.2.1.length a2.2.1).bind fun v13 =>
      cond (decide (mxI (mnI (w64 (gd (Ty.int .i64) a1.2.2.2.2.2.2.2.2.2.2.2.1 (0 + v11) - 1)) (w64 (a2.2.2.2.2.1 + 1))) (w64 (gd (Ty.int .i64) a1.2.2.2.2.2.2.2.2.2.2.2.2.1 (0 + v12) + 1)) ≥ gd (Ty.int .i64) a1.2.2.2.2.2.2.2.2.2.2.2.1 (0 + v13)))
        (some (([] : List tMsg.D), a1, ()))
        ((ix a1.2.2.2.2.2.2.2.2.2.2.2.1.length a2.2.1).bind fun v14 =>
        impl_Core_apped_s_v15 a1 a2 (a1.2.2.2.2.2.2.2.2.2.2.2.1.set (0 + v14) (mxI (mnI (w64 (gd (Ty.int .i64) a1.2.2.2.2.2.2.2.2.2.2.2.1 (0 + v11) - 1)) (w64 (a2.2.2.2.2.1 + 1))) (w64 (gd (Ty.int .i64) a1.2.2.2.2.2.2.2.2.2.2.2.2.1 (0 + v12) + 1)))))))
def impl_Core_apped (x : tCore.D × tMsg.D × Unit) : Option (impl_Core_apped_R) := impl_Core_apped_s x.1 x.2.1

/-! impl.Core).snap -/
abbrev impl_Core_snap_R : Type := (List tMsg.D) × tCore.D × Unit
def impl_Core_snap_s_v6 (v1 : tCore.D × Unit) (a2 : tMsg.D) (v6 : List tEntry.D) : Option (impl_Core_snap_R) :=
  (impl_Core_answer ((v1.1.1, v1.1.2.1, v1.1.2.2.1, v1.1.2.2.2.1, v1.1.2.2.2.2.1, a2.2.1, a2.2.2.2.2.1, a2.2.2.2.2.2.1, v6, a2.2.2.2.2.1, v1.1.2.2.2.2.2.2.2.2.2.2.1, v1.1.2.2.2.2.2.2.2.2.2.2.2.1, v1.1.2.2.2.2.2.2.2.2.2.2.2.2.1, ()), a2, true, a2.2.2.2.2.1, ())).bind fun v7 =>
  some (v7.1, (v1.1.1, v1.1.2.1, v1.1.2.2.1, v1.1.2.2.2.1, v1.1.2.2.2.2.1, a2.2.1, a2.2.2.2.2.1, a2.2.2.2.2.2.1, v6, a2.2.2.2.2.1, v1.1.2.2.2.2.2.2.2.2.2.2.1, v1.1.2.2.2.2.2.2.2.2.2.2.2.1, v1.1.2.2.2.2.2.2.2.2.2.2.2.2.1, ()), ())
def impl_Core_snap_s (a1 : tCore.D) (a2 : tMsg.D) : Option (impl_Core_snap_R) :=
  cond (a1.2.2.2.2.1 == 3)
    (some (([] : List tMsg.D), a1, ()))
    ((impl_Core_steps (a1, a1.2.2.1, ())).bind fun v1 =>
    cond (decide (a2.2.2.2.2.1 ≤ v1.1.2.2.2.2.2.2.2.2.2.1))
      ((impl_Core_answer ((v1.1.1, v1.1.2.1, v1.1.2.2.1, v1.1.2.2.2.1, v1.1.2.2.2.2.1, a2.2.1, v1.1.2.2.2.2.2.2.1, v1.1.2.2.2.2.2.2.2.1, v1.1.2.2.2.2.2.2.2.2.1, v1.1.2.2.2.2.2.2.2.2.2.1, v1.1.2.2.2.2.2.2.2.2.2.2.1, v1.1.2.2.2.2.2.2.2.2.2.2.2.1, v1.1.2.2.2.2.2.2.2.2.2.2.2.2.1, ()), a2, true, v1.1.2.2.2.2.2.2.2.2.2.1, ())).bind fun v2 =>
      some (v2.1, (v1.1.1, v1.1.2.1, v1.1.2.2.1, v1.1.2.2.2.1, v1.1.2.2.2.2.1, a2.2.1, v1.1.2.2.2.2.2.2.1, v1.1.2.2.2.2.2.2.2.1, v1.1.2.2.2.2.2.2.2.2.1, v1.1.2.2.2.2.2.2.2.2.2.1, v1.1.2.2.2.2.2.2.2.2.2.2.1, v1.1.2.2.2.2.2.2.2.2.2.2.2.1, v1.1.2.2.2.2.2.2.2.2.2.2.2.2.1, ()), ()))
      ((impl_Core_last ((v1.1.1, v1.1.2.1, v1.1.2.2.1, v1.1.2.2.2.1, v1.1.2.2.2.2.1, a2.2.1, v1.1.2.2.2.2.2.2.1, v1.1.2.2.2.2.2.2.2.1, v1.1.2.2.2.2.2.2.2.2.1, v1.1.2.2.2.2.2.2.2.2.2.1, v1.1.2.2.2.2.2.2.2.2.2.2.1, v1.1.2.2.2.2.2.2.2.2.2.2.2.1, v1.1.2.2.2.2.2.2.2.2.2.2.2.2.1, ()), ())).bind fun v3 =>
      cond (decide (a2.2.2.2.2.1 ≤ v3.1))
        ((impl_Core_term ((v1.1.1, v1.1.2.1, v1.1.2.2.1, v1.1.2.2.2.1, v1.1.2.2.2.2.1, a2.2.1, v1.1.2.2.2.2.2.2.1, v1.1.2.2.2.2.2.2.2.1, v1.1.2.2.2.2.2.2.2.2.1, v1.1.2.2.2.2.2.2.2.2.2.1, v1.1.2.2.2.2.2.2.2.2.2.2.1, v1.1.2.2.2.2.2.2.2.2.2.2.2.1, v1.1.2.2.2.2.2.2.2.2.2.2.2.2.1, ()), a2.2.2.2.2.1, ())).bind fun v4 =>
        cond (v4.1 == a2.2.2.2.2.2.1)
          ((rng v1.1.2.2.2.2.2.2.2.2.1.length (w64 (a2.2.2.2.2.1 - v1.1.2.2.2.2.2.2.1)) (v1.1.2.2.2.2.2.2.2.2.1.length : Int)).bind fun v5 =>
          cond (room (([] : List tEntry.D).length + (part v1.1.2.2.2.2.2.2.2.2.1 (0 + v5.1) (v5.2 - v5.1)).length))
            (impl_Core_snap_s_v6 v1 a2 (([] : List tEntry.D) ++ (part v1.1.2.2.2.2.2.2.2.2.1 (0 + v5.1) (v5.2 - v5.1))))
            (none))
          ((impl_Core_answer ((v1.1.1, v1.1.2.1, v1.1.2.2.1, v1.1.2.2.2.1, v1.1.2.2.2.2.1, a2.2.1, a2.2.2.2.2.1, a2.2.2.2.2.2.1, ([] : List tEntry.D), a2.2.2.2.2.1, v1.1.2.2.2.2.2.2.2.2.2.2.1, v1.1.2.2.2.2.2.2.2.2.2.2.2.1, v1.1.2.2.2.2.2.2.2.2.2.2.2.2.1, ()), a2, true, a2.2.2.2.2.1, ())).bind fun v8 =>
          some (v8.1, (v1.1.1, v1.1.2.1, v1.1.2.2.1, v1.1.2.2.2.1, v1.1.2.2.2.2.1, a2.2.1, a2.2.2.2.2.1, a2.2.2.2.2.2.1, ([] : List tEntry.D), a2.2.2.2.2.1, v1.1.2.2.2.2.2.2.2.2.2.2.1, v1.1.2.2.2.2.2.2.2.2.2.2.2.1, v1.1.2.2.2.2.2.2.2.2.2.2.2.2.1, ()), ())))
        ((impl_Core_answer ((v1.1.1, v1.1.2.1, v1.1.2.2.1, v1.1.2.2.2.1, v1.1.2.2.2.2.1, a2.2.1, a2.2.2.2.2.1, a2.2.2.2.2.2.1, ([] : List tEntry.D), a2.2.2.2.2.1, v1.1.2.2.2.2.2.2.2.2.2.2.1, v1.1.2.2.2.2.2.2.2.2.2.2.2.1, v1.1.2.2.2.2.2.2.2.2.2.2.2.2.1, ()), a2, true, a2.2.2.2.2.1, ())).bind fun v9 =>
        some (v9.1, (v1.1.1, v1.1.2.1, v1.1.2.2.1, v1.1.2.2.2.1, v1.1.2.2.2.2.1, a2.2.1, a2.2.2.2.2.1, a2.2.2.2.2.2.1, ([] : List tEntry.D), a2.2.2.2.2.1, v1.1.2.2.2.2.2.2.2.2.2.2.1, v1.1.2.2.2.2.2.2.2.2.2.2.2.1, v1.1.2.2.2.2.2.2.2.2.2.2.2.2.1, ()), ()))))
def impl_Core_snap (x : tCore.D × tMsg.D × Unit) : Option (impl_Core_snap_R) := impl_Core_snap_s x.1 x.2.1

/-! impl.Core).hear -/
abbrev impl_Core_hear_R : Type := (List tMsg.D) × tCore.D × Unit
abbrev impl_Core_hear_K13 : Type := tCore.D → tMsg.D → Option (impl_Core_hear_R)
def impl_Core_hear_s (k13 : impl_Core_hear_K13) (a1 : tCore.D) (a2 : tMsg.D) : Option (impl_Core_hear_R) :=
  (impl_MsgOk (a2, ())).bind fun v1 =>
  cond (!v1.1)
    (some (([] : List tMsg.D), a1, ()))
    (cond (a2.2.2.1 != a1.1)
      (some (([] : List tMsg.D), a1, ()))
      (cond (decide (a2.2.1 ≥ a1.2.1))
        (some (([] : List tMsg.D), a1, ()))
        (cond (decide (a2.2.2.2.1 < a1.2.2.1))
          (cond (a2.1 == 1)
            (some ([(2, a1.1, a2.2.1, a1.2.2.1, 0, 0, 0, false, ([] : List tEntry.D), ([] : List UInt8), ())], a1, ()))
            (cond (a2.1 == 3)
              (cond (a2.1 == 3)
                ((impl_Core_answer (a1, a2, false, 0, ())).bind fun v2 =>
                some (v2.1, a1, ()))
                (some (([] : List tMsg.D), a1, ())))
              (cond (a2.1 == 5)
                ((impl_Core_answer (a1, a2, false, 0, ())).bind fun v3 =>
                some (v3.1, a1, ()))
                (some (([] : List tMsg.D), a1, ())))))
          (cond (decide (a2.2.2.2.1 > a1.2.2.1))
            ((impl_Core_steps (a1, a2.2.2.2.1, ())).bind fun v4 =>
            k13 v4.1 a2)
            (k13 a1 a2)))))
def impl_Core_hear_b13 (k13 : impl_Core_hear_K13) (x1 : tCore.D) (x2 : tMsg.D) : Option (impl_Core_hear_R) :=
  cond (x2.1 == 1)
    ((impl_Core_vote (x1, x2, ())).bind fun v1 =>
    some (v1.1, v1.2.1, ()))
    (cond (x2.1 == 2)
      ((impl_Core_voted (x1, x2, ())).bind fun v2 =>
      some (v2.1, v2.2.1, ()))
      (cond (x2.1 == 3)
        ((impl_Core_app (x1, x2, ())).bind fun v3 =>
        some (v3.1, v3.2.1, ()))
        (cond (x2.1 == 4)
          ((impl_Core_apped (x1, x2, ())).bind fun v4 =>
          some (v4.1, v4.2.1, ()))
          ((impl_Core_snap (x1, x2, ())).bind fun v5 =>
          some (v5.1, v5.2.1, ())))))
def impl_Core_hear_L13 : Nat → impl_Core_hear_K13
  | 0, _, _ => none
  | m + 1, x1, x2 => impl_Core_hear_b13 (impl_Core_hear_L13 m) x1 x2
def impl_Core_hear (x : tCore.D × tMsg.D × Unit) : Option (impl_Core_hear_R) := impl_Core_hear_s (impl_Core_hear_L13 BIG) x.1 x.2.1

/-! impl.Hear -/
abbrev impl_Hear_R : Type := tCore.D × (List tMsg.D) × Unit
def impl_Hear_s (a1 : tCore.D) (a2 : tMsg.D) : Option (impl_Hear_R) :=
  (impl_CoreOk (a1, ())).bind fun v1 =>
  cond (!v1.1)
    (some ((0, 0, 0, 0, 0, 0, 0, 0, ([] : List tEntry.D), 0, ([] : List Int), ([] : List Int), ([] : List Int), ()), ([] : List tMsg.D), ()))
    ((impl_copyCore (a1, ())).bind fun v2 =>
    (impl_Core_hear (v2.1, a2, ())).bind fun v3 =>
    some (v3.2.1, v3.1, ()))
def impl_Hear (x : tCore.D × tMsg.D × Unit) : Option (impl_Hear_R) := impl_Hear_s x.1 x.2.1

/-! impl.Core).elect -/
abbrev impl_Core_elect_R : Type := (List tMsg.D) × tCore.D × Unit
abbrev impl_Core_elect_K12 : Type := Int → Int → tCore.D → (List tMsg.D) → (List Int) → Option (impl_Core_elect_R)
def impl_Core_elect_s (k12 : impl_Core_elect_K12) (a1 : tCore.D) : Option (impl_Core_elect_R) :=
  cond (a1.2.2.2.2.1 == 3)
    (some (([] : List tMsg.D), a1, ()))
    (cond (a1.2.2.1 == 100000)
      (some (([] : List tMsg.D), a1, ()))
      ((impl_Core_isMost ((a1.1, a1.2.1, w64 (a1.2.2.1 + 1), a1.1, 2, (-1), a1.2.2.2.2.2.2.1, a1.2.2.2.2.2.2.2.1, a1.2.2.2.2.2.2.2.2.1, a1.2.2.2.2.2.2.2.2.2.1, [a1.1], a1.2.2.2.2.2.2.2.2.2.2.2.1, a1.2.2.2.2.2.2.2.2.2.2.2.2.1, ()), 1, ())).bind fun v1 =>
      cond v1.1
        ((impl_Core_leads ((a1.1, a1.2.1, w64 (a1.2.2.1 + 1), a1.1, 2, (-1), a1.2.2.2.2.2.2.1, a1.2.2.2.2.2.2.2.1, a1.2.2.2.2.2.2.2.2.1, a1.2.2.2.2.2.2.2.2.2.1, [a1.1], a1.2.2.2.2.2.2.2.2.2.2.2.1, a1.2.2.2.2.2.2.2.2.2.2.2.2.1, ()), ())).bind fun v2 =>
        some (v2.1, v2.2.1, ()))
        ((impl_Core_others ((a1.1, a1.2.1, w64 (a1.2.2.1 + 1), a1.1, 2, (-1), a1.2.2.2.2.2.2.1, a1.2.2.2.2.2.2.2.1, a1.2.2.2.2.2.2.2.2.1, a1.2.2.2.2.2.2.2.2.2.1, [a1.1], a1.2.2.2.2.2.2.2.2.2.2.2.1, a1.2.2.2.2.2.2.2.2.2.2.2.2.1, ()), ())).bind fun v3 =>
        k12 (v3.1.length : Int) 0 (a1.1, a1.2.1, w64 (a1.2.2.1 + 1), a1.1, 2, (-1), a1.2.2.2.2.2.2.1, a1.2.2.2.2.2.2.2.1, a1.2.2.2.2.2.2.2.2.1, a1.2.2.2.2.2.2.2.2.2.1, [a1.1], a1.2.2.2.2.2.2.2.2.2.2.2.1, a1.2.2.2.2.2.2.2.2.2.2.2.2.1, ()) ([] : List tMsg.D) v3.1)))
def impl_Core_elect_b12_v5 (k12 : impl_Core_elect_K12) (x1 : Int) (x2 : Int) (x3 : tCore.D) (x5 : List Int) (v5 : List tMsg.D) : Option (impl_Core_elect_R) :=
  k12 x1 (w64 (x2 + 1)) x3 v5 x5
def impl_Core_elect_b12 (k12 : impl_Core_elect_K12) (x1 : Int) (x2 : Int) (x3 : tCore.D) (x4 : List tMsg.D) (x5 : List Int) : Option (impl_Core_elect_R) :=
  cond (decide (x2 < x1))
    ((ix x5.length x2).bind fun v1 =>
    (impl_Core_last (x3, ())).bind fun v2 =>
    (impl_Core_last (x3, ())).bind fun v3 =>
    (impl_Core_term (x3, v3.1, ())).bind fun v4 =>
    cond (room (x4.length + ([(1, x3.1, gd (Ty.int .i64) x5 (0 + v1), x3.2.2.1, v2.1, v4.1, 0, false, ([] : List tEntry.D), ([] : List UInt8), ())]).length))
      (impl_Core_elect_b12_v5 k12 x1 x2 x3 x5 (x4 ++ ([(1, x3.1, gd (Ty.int .i64) x5 (0 + v1), x3.2.2.1, v2.1, v4.1, 0, false, ([] : List tEntry.D), ([] : List UInt8), ())])))
      (none))
    (some (x4, x3, ()))
def impl_Core_elect_L12 : Nat → impl_Core_elect_K12
  | 0, _, _, _, _, _ => none
  | m + 1, x1, x2, x3, x4, x5 => impl_Core_elect_b12 (impl_Core_elect_L12 m) x1 x2 x3 x4 x5
def impl_Core_elect (x : tCore.D × Unit) : Option (impl_Core_elect_R) := impl_Core_elect_s (impl_Core_elect_L12 BIG) x.1

/-! impl.Elect -/
abbrev impl_Elect_R : Type := tCore.D × (List tMsg.D) × Unit
def impl_Elect_s (a1 : tCore.D) : Option (impl_Elect_R) :=
  (impl_CoreOk (a1, ())).bind fun v1 =>
  cond (!v1.1)
    (some ((0, 0, 0, 0, 0, 0, 0, 0, ([] : List tEntry.D), 0, ([] : List Int), ([] : List Int), ([] : List Int), ()), ([] : List tMsg.D), ()))
    ((impl_copyCore (a1, ())).bind fun v2 =>
    (impl_Core_elect (v2.1, ())).bind fun v3 =>
    some (v3.2.1, v3.1, ()))
def impl_Elect (x : tCore.D × Unit) : Option (impl_Elect_R) := impl_Elect_s x.1

/-! laws.FnCore -/
structure laws_FnCore_K where
  k10 : Int → tCore.D → tCore.D → (List tMsg.D) → Option (Bool × Unit)
  k15 : Int → tCore.D → tCore.D → (List tMsg.D) → Option (Bool × Unit)
def laws_FnCore_s (k : laws_FnCore_K) (a1 : List Int) : Option (Bool × Unit) :=
  (laws_big (a1, ())).bind fun v1 =>
  cond v1.1
    (some (true, ()))
    ((spec_DrawHear (a1, ())).bind fun v2 =>
    (impl_Hear (v2.1, v2.2.1, ())).bind fun v3 =>
    (spec_CoreOk (v2.1, ())).bind fun v4 =>
    cond (!v4.1)
      (cond ((v3.2.1.length : Int) == 0)
        (some (v3.1.2.1 == 0, ()))
        (some (false, ())))
      ((spec_CoreOk (v3.1, ())).bind fun v5 =>
      cond (!v5.1)
        (some (false, ()))
        (cond (decide (v3.1.2.2.1 < v2.1.2.2.1))
          (some (false, ()))
          (cond (decide (v3.1.2.2.2.2.2.2.2.2.2.1 < v2.1.2.2.2.2.2.2.2.2.2.1))
            (some (false, ()))
            (cond (v3.1.2.2.1 == v2.1.2.2.1)
              (cond (decide (v2.1.2.2.2.1 ≥ 0))
                (cond (v3.1.2.2.2.1 != v2.1.2.2.2.1)
                  (some (false, ()))
                  (k.k10 v3.1.2.2.2.2.2.2.1 v2.1 v3.1 v3.2.1))
                (k.k10 v3.1.2.2.2.2.2.2.1 v2.1 v3.1 v3.2.1))
              (k.k10 v3.1.2.2.2.2.2.2.1 v2.1 v3.1 v3.2.1))))))
def laws_FnCore_b10 (k : laws_FnCore_K) (x1 : Int) (x2 : tCore.D) (x3 : tCore.D) (x4 : List tMsg.D) : Option (Bool × Unit) :=
  cond (decide (x1 < x2.2.2.2.2.2.2.2.2.2.1))
    (cond (decide (x1 ≥ x2.2.2.2.2.2.2.1))
      ((ix x3.2.2.2.2.2.2.2.2.1.length (w64 (x1 - x3.2.2.2.2.2.2.1))).bind fun v1 =>
      (ix x2.2.2.2.2.2.2.2.2.1.length (w64 (x1 - x2.2.2.2.2.2.2.1))).bind fun v2 =>
      cond (!(((gd tEntry x3.2.2.2.2.2.2.2.2.1 (0 + v1)).1 == (gd tEntry x2.2.2.2.2.2.2.2.2.1 (0 + v2)).1) && (eqS ((gd tEntry x3.2.2.2.2.2.2.2.2.1 (0 + v1)).2.1) ((gd tEntry x2.2.2.2.2.2.2.2.2.1 (0 + v2)).2.1) && true)))
        (some (false, ()))
        (k.k10 (w64 (x1 + 1)) x2 x3 x4))
      (k.k10 (w64 (x1 + 1)) x2 x3 x4))
    (k.k15 0 x2 x3 x4)
def laws_FnCore_b15 (k : laws_FnCore_K) (x1 : Int) (x2 : tCore.D) (x3 : tCore.D) (x4 : List tMsg.D) : Option (Bool × Unit) :=
  cond (decide (x1 < (x4.length : Int)))
    ((ix x4.length x1).bind fun v1 =>
    (spec_MsgOk (gd tMsg x4 (0 + v1), ())).bind fun v2 =>
    cond (!v2.1)
      (some (false, ()))
      ((ix x4.length x1).bind fun v3 =>
      cond ((gd tMsg x4 (0 + v3)).2.1 != x2.1)
        (some (false, ()))
        ((ix x4.length x1).bind fun v4 =>
        cond ((gd tMsg x4 (0 + v4)).2.2.2.1 != x3.2.2.1)
          (some (false, ()))
          (k.k15 (w64 (x1 + 1)) x2 x3 x4))))
    ((impl_Elect (x3, ())).bind fun v5 =>
    (spec_CoreOk (v5.1, ())).bind fun v6 =>
    cond v6.1
      (cond (decide (v5.1.2.2.1 ≥ x3.2.2.1))
        (cond (decide (v5.1.2.2.1 ≤ w64 (x3.2.2.1 + 1)))
          (cond ((v5.2.1.length : Int) == 0)
            (some (true, ()))
            ((ix v5.2.1.length 0).bind fun v7 =>
            some ((gd tMsg v5.2.1 (0 + v7)).2.2.2.1 == v5.1.2.2.1, ())))
          (some (false, ())))
        (some (false, ())))
      (some (false, ())))
def laws_FnCore_N (k : laws_FnCore_K) : laws_FnCore_K := ⟨laws_FnCore_b10 k, laws_FnCore_b15 k⟩
def laws_FnCore_L : Nat → laws_FnCore_K := iterK laws_FnCore_N ⟨fun _ _ _ _ => none, fun _ _ _ _ => none⟩
def laws_FnCore (x : (List Int) × Unit) : Option (Bool × Unit) := laws_FnCore_s (laws_FnCore_L BIG) x.1

end

end Go.LM.Pg
