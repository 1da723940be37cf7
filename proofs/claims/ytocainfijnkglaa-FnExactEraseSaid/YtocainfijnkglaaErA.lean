/- The functions that are reached, as plain functions. Printed by a program. -/
import Derived.Test.YtocainfijnkglaaLmd
set_option linter.unusedVariables false
namespace Go.LM.Er

@[reducible] def tCall : Ty := .st (.cons (.int .i64) (.cons .str (.cons .str (.cons (.int .i64) (.cons (.int .i64) (.cons .str .nil))))))
@[reducible] def tAct : Ty := .st (.cons (.int .i64) (.cons (.int .i64) (.cons (.int .i64) (.cons (.int .i64) (.cons (.int .i64) (.cons (.int .i64) (.cons tCall (.cons .str .nil))))))))

/-! laws.szCall -/
def f17s (a1 : tCall.D) (a2 : Int) : Option (Int × Unit) :=
  cond (decide (w64 (a2 - (a1.2.1.length : Int)) < 0))
    (some ((-1), ()))
    (cond (decide (w64 (w64 (a2 - (a1.2.1.length : Int)) - (a1.2.2.1.length : Int)) < 0))
      (some ((-1), ()))
      (cond (decide (w64 (w64 (w64 (a2 - (a1.2.1.length : Int)) - (a1.2.2.1.length : Int)) - (a1.2.2.2.2.2.1.length : Int)) < 0))
        (some ((-1), ()))
        (some (w64 (w64 (w64 (a2 - (a1.2.1.length : Int)) - (a1.2.2.1.length : Int)) - (a1.2.2.2.2.2.1.length : Int)), ()))))
def c17 (x : tCall.D × Int × Unit) : Option (Int × Unit) := f17s x.1 x.2.1

/-! laws.szAct -/
def f11s (a1 : tAct.D) (a2 : Int) : Option (Int × Unit) :=
  (c17 (a1.2.2.2.2.2.2.1, a2, ())).bind fun v1 =>
  cond (decide (v1.1 < 0))
    (some ((-1), ()))
    (cond (decide (w64 (v1.1 - (a1.2.2.2.2.2.2.2.1.length : Int)) < 0))
      (some ((-1), ()))
      (some (w64 (v1.1 - (a1.2.2.2.2.2.2.2.1.length : Int)), ())))
def c11 (x : tAct.D × Int × Unit) : Option (Int × Unit) := f11s x.1 x.2.1

/-! laws.szActS -/
def f4s (k5 : (List tAct.D) → Int → Int → Option (Int × Unit)) (a1 : List tAct.D) (a2 : Int) : Option (Int × Unit) :=
  cond (decide (w64 (a2 - (a1.length : Int)) < 0))
    (some ((-1), ()))
    (k5 a1 (w64 (a2 - (a1.length : Int))) 0)
def f4b5 (k5 : (List tAct.D) → Int → Int → Option (Int × Unit)) (x1 : List tAct.D) (x2 : Int) (x3 : Int) : Option (Int × Unit) :=
  cond (decide (x3 < (x1.length : Int)))
    ((ix x1.length x3).bind fun v1 =>
    (c11 (gd tAct x1 v1, x2, ())).bind fun v2 =>
    cond (decide (v2.1 < 0))
      (some ((-1), ()))
      (k5 x1 v2.1 (w64 (x3 + 1))))
    (some (x2, ()))
def f4L5 : Nat → (List tAct.D) → Int → Int → Option (Int × Unit)
  | 0, _, _, _ => none
  | m + 1, x1, x2, x3 => f4b5 (f4L5 m) x1 x2 x3
def c4 (x : (List tAct.D) × Int × Unit) : Option (Int × Unit) := f4s (f4L5 BIG) x.1 x.2.1

/-! spec.l1In -/
def f12s (a1 : Int) (a2 : Int) (a3 : Int) : Option (Bool × Unit) :=
  cond (decide (a1 ≥ a2))
    (some (decide (a1 ≤ a3), ()))
    (some (false, ()))
def c12 (x : Int × Int × Int × Unit) : Option (Bool × Unit) := f12s x.1 x.2.1 x.2.2.1

/-! spec.Erase -/
def f5s (k3 : (List tAct.D) → Int → Int → (List tAct.D) → Option ((List tAct.D) × Unit)) (a1 : List tAct.D) (a2 : Int) : Option ((List tAct.D) × Unit) :=
  k3 a1 a2 0 ([] : List tAct.D)
def f5b3 (k3 : (List tAct.D) → Int → Int → (List tAct.D) → Option ((List tAct.D) × Unit)) (x1 : List tAct.D) (x2 : Int) (x3 : Int) (x4 : List tAct.D) : Option ((List tAct.D) × Unit) :=
  cond (decide (x3 < (x1.length : Int)))
    ((ix x1.length x3).bind fun v1 =>
    (c12 ((gd tAct x1 v1).1, 11, 16, ())).bind fun v2 =>
    cond (!v2.1)
      ((ix x1.length x3).bind fun v3 =>
      cond (room (x4.length + [gd tAct x1 v3].length))
        (k3 x1 x2 (w64 (x3 + 1)) (x4 ++ [gd tAct x1 v3]))
        (none))
      ((ix x1.length x3).bind fun v4 =>
      cond ((gd tAct x1 v4).2.1 != x2)
        ((ix x1.length x3).bind fun v5 =>
        cond (room (x4.length + [gd tAct x1 v5].length))
          (k3 x1 x2 (w64 (x3 + 1)) (x4 ++ [gd tAct x1 v5]))
          (none))
        (k3 x1 x2 (w64 (x3 + 1)) x4)))
    (some (x4, ()))
def f5L3 : Nat → (List tAct.D) → Int → Int → (List tAct.D) → Option ((List tAct.D) × Unit)
  | 0, _, _, _, _ => none
  | m + 1, x1, x2, x3, x4 => f5b3 (f5L3 m) x1 x2 x3 x4
def c5 (x : (List tAct.D) × Int × Unit) : Option ((List tAct.D) × Unit) := f5s (f5L3 BIG) x.1 x.2.1

/-! laws.toCall -/
def f18s (a1 : tCall.D) : Option (tCall.D × Unit) :=
  some (a1, ())
def c18 (x : tCall.D × Unit) : Option (tCall.D × Unit) := f18s x.1

/-! laws.toAct -/
def f13s (a1 : tAct.D) : Option (tAct.D × Unit) :=
  (c18 (a1.2.2.2.2.2.2.1, ())).bind fun v1 =>
  some ((a1.1, a1.2.1, a1.2.2.1, a1.2.2.2.1, a1.2.2.2.2.1, a1.2.2.2.2.2.1, v1.1, a1.2.2.2.2.2.2.2.1, ()), ())
def c13 (x : tAct.D × Unit) : Option (tAct.D × Unit) := f13s x.1

/-! laws.toActS -/
def f6s (k3 : (List tAct.D) → Int → (List tAct.D) → Option ((List tAct.D) × Unit)) (a1 : List tAct.D) : Option ((List tAct.D) × Unit) :=
  cond (decide (0 ≤ (a1.length : Int)) && decide ((a1.length : Int) = (a1.length : Int)) && room (Int.toNat (a1.length : Int)))
    (k3 a1 0 (List.replicate (Int.toNat (a1.length : Int)) ((0, 0, 0, 0, 0, 0, (0, ([] : List UInt8), ([] : List UInt8), 0, 0, ([] : List UInt8), ()), ([] : List UInt8), ()) : tAct.D)))
    (none)
def f6b3 (k3 : (List tAct.D) → Int → (List tAct.D) → Option ((List tAct.D) × Unit)) (x1 : List tAct.D) (x2 : Int) (x3 : List tAct.D) : Option ((List tAct.D) × Unit) :=
  cond (decide (x2 < (x1.length : Int)))
    ((ix x1.length x2).bind fun v1 =>
    (c13 (gd tAct x1 v1, ())).bind fun v2 =>
    (ix x3.length x2).bind fun v3 =>
    k3 x1 (w64 (x2 + 1)) (x3.set (0 + v3) v2.1))
    (some (x3, ()))
def f6L3 : Nat → (List tAct.D) → Int → (List tAct.D) → Option ((List tAct.D) × Unit)
  | 0, _, _, _ => none
  | m + 1, x1, x2, x3 => f6b3 (f6L3 m) x1 x2 x3
def c6 (x : (List tAct.D) × Unit) : Option ((List tAct.D) × Unit) := f6s (f6L3 BIG) x.1

/-! impl.within -/
def f14s (a1 : Int) (a2 : Int) (a3 : Int) : Option (Bool × Unit) :=
  cond (decide (a1 ≥ a2))
    (some (decide (a1 ≤ a3), ()))
    (some (false, ()))
def c14 (x : Int × Int × Int × Unit) : Option (Bool × Unit) := f14s x.1 x.2.1 x.2.2.1

/-! impl.Erase -/
def f7s (k3 : Int → (List tAct.D) → Int → Int → (List tAct.D) → Option ((List tAct.D) × Unit)) (a1 : List tAct.D) (a2 : Int) : Option ((List tAct.D) × Unit) :=
  k3 a2 a1 (a1.length : Int) 0 ([] : List tAct.D)
def f7b3 (k3 : Int → (List tAct.D) → Int → Int → (List tAct.D) → Option ((List tAct.D) × Unit)) (x1 : Int) (x2 : List tAct.D) (x3 : Int) (x4 : Int) (x5 : List tAct.D) : Option ((List tAct.D) × Unit) :=
  cond (decide (x4 < x3))
    ((ix x2.length x4).bind fun v1 =>
    (c14 ((gd tAct x2 v1).1, 11, 16, ())).bind fun v2 =>
    cond (!v2.1)
      (cond (room (x5.length + [gd tAct x2 v1].length))
        (k3 x1 x2 x3 (w64 (x4 + 1)) (x5 ++ [gd tAct x2 v1]))
        (none))
      (cond ((gd tAct x2 v1).2.1 != x1)
        (cond (room (x5.length + [gd tAct x2 v1].length))
          (k3 x1 x2 x3 (w64 (x4 + 1)) (x5 ++ [gd tAct x2 v1]))
          (none))
        (k3 x1 x2 x3 (w64 (x4 + 1)) x5)))
    (some (x5, ()))
def f7L3 : Nat → Int → (List tAct.D) → Int → Int → (List tAct.D) → Option ((List tAct.D) × Unit)
  | 0, _, _, _, _, _ => none
  | m + 1, x1, x2, x3, x4, x5 => f7b3 (f7L3 m) x1 x2 x3 x4 x5
def c7 (x : (List tAct.D) × Int × Unit) : Option ((List tAct.D) × Unit) := f7s (f7L3 BIG) x.1 x.2.1

/-! laws.eqCall -/
def f19s (a1 : tCall.D) (a2 : tCall.D) : Option (Bool × Unit) :=
  cond (a1.1 != a2.1)
    (some (false, ()))
    (cond (!(eqS a1.2.1 a2.2.1))
      (some (false, ()))
      (cond (!(eqS a1.2.2.1 a2.2.2.1))
        (some (false, ()))
        (cond (a1.2.2.2.1 != a2.2.2.2.1)
          (some (false, ()))
          (cond (a1.2.2.2.2.1 != a2.2.2.2.2.1)
            (some (false, ()))
            (cond (!(eqS a1.2.2.2.2.2.1 a2.2.2.2.2.2.1))
              (some (false, ()))
              (some (true, ())))))))
def c19 (x : tCall.D × tCall.D × Unit) : Option (Bool × Unit) := f19s x.1 x.2.1

/-! laws.eqAct -/
def f15s (a1 : tAct.D) (a2 : tAct.D) : Option (Bool × Unit) :=
  cond (a1.1 != a2.1)
    (some (false, ()))
    (cond (a1.2.1 != a2.2.1)
      (some (false, ()))
      (cond (a1.2.2.1 != a2.2.2.1)
        (some (false, ()))
        (cond (a1.2.2.2.1 != a2.2.2.2.1)
          (some (false, ()))
          (cond (a1.2.2.2.2.1 != a2.2.2.2.2.1)
            (some (false, ()))
            (cond (a1.2.2.2.2.2.1 != a2.2.2.2.2.2.1)
              (some (false, ()))
              ((c19 (a1.2.2.2.2.2.2.1, a2.2.2.2.2.2.2.1, ())).bind fun v1 =>
              cond (!v1.1)
                (some (false, ()))
                (cond (!(eqS a1.2.2.2.2.2.2.2.1 a2.2.2.2.2.2.2.2.1))
                  (some (false, ()))
                  (some (true, ())))))))))
def c15 (x : tAct.D × tAct.D × Unit) : Option (Bool × Unit) := f15s x.1 x.2.1

/-! laws.eqActS -/
def f8s (k4 : (List tAct.D) → (List tAct.D) → Int → Option (Bool × Unit)) (a1 : List tAct.D) (a2 : List tAct.D) : Option (Bool × Unit) :=
  cond ((a1.length : Int) != (a2.length : Int))
    (some (false, ()))
    (k4 a1 a2 0)
def f8b4 (k4 : (List tAct.D) → (List tAct.D) → Int → Option (Bool × Unit)) (x1 : List tAct.D) (x2 : List tAct.D) (x3 : Int) : Option (Bool × Unit) :=
  cond (decide (x3 < (x1.length : Int)))
    ((ix x1.length x3).bind fun v1 =>
    (ix x2.length x3).bind fun v2 =>
    (c15 (gd tAct x1 v1, gd tAct x2 v2, ())).bind fun v3 =>
    cond (!v3.1)
      (some (false, ()))
      (k4 x1 x2 (w64 (x3 + 1))))
    (some (true, ()))
def f8L4 : Nat → (List tAct.D) → (List tAct.D) → Int → Option (Bool × Unit)
  | 0, _, _, _ => none
  | m + 1, x1, x2, x3 => f8b4 (f8L4 m) x1 x2 x3
def c8 (x : (List tAct.D) × (List tAct.D) × Unit) : Option (Bool × Unit) := f8s (f8L4 BIG) x.1 x.2.1

/-! laws.markText -/
def f16s (k4 : Int → (List UInt8) → Option ((List UInt8) × Unit)) (a1 : Int) : Option ((List UInt8) × Unit) :=
  cond (decide (a1 ≤ 0))
    (some (([109, 48] : List UInt8), ()))
    (k4 a1 ([] : List UInt8))
def f16b4 (k4 : Int → (List UInt8) → Option ((List UInt8) × Unit)) (x1 : Int) (x2 : List UInt8) : Option ((List UInt8) × Unit) :=
  cond (decide (x1 > 0))
    (cond (room ((bytesStr [IntKind.wrap .u8 (w64 (48 + Int.tmod x1 10))]).length + x2.length))
      (k4 (w64 (Int.tdiv x1 10)) ((bytesStr [IntKind.wrap .u8 (w64 (48 + Int.tmod x1 10))]) ++ x2))
      (none))
    (cond (room (([109] : List UInt8).length + x2.length))
      (some (([109] : List UInt8) ++ x2, ()))
      (none))
def f16L4 : Nat → Int → (List UInt8) → Option ((List UInt8) × Unit)
  | 0, _, _ => none
  | m + 1, x1, x2 => f16b4 (f16L4 m) x1 x2
def c16 (x : Int × Unit) : Option ((List UInt8) × Unit) := f16s (f16L4 BIG) x.1

/-! laws.markActS -/
def f9s (k2 : Int → Int → (List tAct.D) → Option (Int × (List tAct.D) × Unit)) (a1 : List tAct.D) (a2 : Int) : Option (Int × (List tAct.D) × Unit) :=
  k2 a2 0 a1
def f9b2_v30 (k2 : Int → Int → (List tAct.D) → Option (Int × (List tAct.D) × Unit)) (x1 : Int) (x2 : Int) (v30 : List tAct.D) : Option (Int × (List tAct.D) × Unit) :=
  k2 (w64 (w64 (w64 (w64 (w64 (w64 (w64 (w64 (w64 (w64 (w64 (w64 (w64 (x1 + 1) + 1) + 1) + 1) + 1) + 1) + 1) + 1) + 1) + 1) + 1) + 1) + 1)) (w64 (x2 + 1)) v30
def f9b2_v27 (k2 : Int → Int → (List tAct.D) → Option (Int × (List tAct.D) × Unit)) (x1 : Int) (x2 : Int) (v27 : List tAct.D) : Option (Int × (List tAct.D) × Unit) :=
  (c16 (w64 (w64 (w64 (w64 (w64 (w64 (w64 (w64 (w64 (w64 (w64 (w64 (x1 + 1) + 1) + 1) + 1) + 1) + 1) + 1) + 1) + 1) + 1) + 1) + 1), ())).bind fun v28 =>
  (ix v27.length x2).bind fun v29 =>
  f9b2_v30 k2 x1 x2 (v27.set (0 + v29) ((gd tAct v27 (0 + v29)).1, (gd tAct v27 (0 + v29)).2.1, (gd tAct v27 (0 + v29)).2.2.1, (gd tAct v27 (0 + v29)).2.2.2.1, (gd tAct v27 (0 + v29)).2.2.2.2.1, (gd tAct v27 (0 + v29)).2.2.2.2.2.1, (gd tAct v27 (0 + v29)).2.2.2.2.2.2.1, v28.1, ()))
def f9b2_v24 (k2 : Int → Int → (List tAct.D) → Option (Int × (List tAct.D) × Unit)) (x1 : Int) (x2 : Int) (v24 : List tAct.D) : Option (Int × (List tAct.D) × Unit) :=
  (c16 (w64 (w64 (w64 (w64 (w64 (w64 (w64 (w64 (w64 (w64 (w64 (x1 + 1) + 1) + 1) + 1) + 1) + 1) + 1) + 1) + 1) + 1) + 1), ())).bind fun v25 =>
  (ix v24.length x2).bind fun v26 =>
  f9b2_v27 k2 x1 x2 (v24.set (0 + v26) ((gd tAct v24 (0 + v26)).1, (gd tAct v24 (0 + v26)).2.1, (gd tAct v24 (0 + v26)).2.2.1, (gd tAct v24 (0 + v26)).2.2.2.1, (gd tAct v24 (0 + v26)).2.2.2.2.1, (gd tAct v24 (0 + v26)).2.2.2.2.2.1, (((gd tAct v24 (0 + v26)).2.2.2.2.2.2.1).1, ((gd tAct v24 (0 + v26)).2.2.2.2.2.2.1).2.1, ((gd tAct v24 (0 + v26)).2.2.2.2.2.2.1).2.2.1, ((gd tAct v24 (0 + v26)).2.2.2.2.2.2.1).2.2.2.1, ((gd tAct v24 (0 + v26)).2.2.2.2.2.2.1).2.2.2.2.1, v25.1, ()), (gd tAct v24 (0 + v26)).2.2.2.2.2.2.2.1, ()))
def f9b2_v22 (k2 : Int → Int → (List tAct.D) → Option (Int × (List tAct.D) × Unit)) (x2 : Int) (x1 : Int) (v22 : List tAct.D) : Option (Int × (List tAct.D) × Unit) :=
  (ix v22.length x2).bind fun v23 =>
  f9b2_v24 k2 x1 x2 (v22.set (0 + v23) ((gd tAct v22 (0 + v23)).1, (gd tAct v22 (0 + v23)).2.1, (gd tAct v22 (0 + v23)).2.2.1, (gd tAct v22 (0 + v23)).2.2.2.1, (gd tAct v22 (0 + v23)).2.2.2.2.1, (gd tAct v22 (0 + v23)).2.2.2.2.2.1, (((gd tAct v22 (0 + v23)).2.2.2.2.2.2.1).1, ((gd tAct v22 (0 + v23)).2.2.2.2.2.2.1).2.1, ((gd tAct v22 (0 + v23)).2.2.2.2.2.2.1).2.2.1, ((gd tAct v22 (0 + v23)).2.2.2.2.2.2.1).2.2.2.1, w64 (w64 (w64 (w64 (w64 (w64 (w64 (w64 (w64 (w64 (x1 + 1) + 1) + 1) + 1) + 1) + 1) + 1) + 1) + 1) + 1), ((gd tAct v22 (0 + v23)).2.2.2.2.2.2.1).2.2.2.2.2.1, ()), (gd tAct v22 (0 + v23)).2.2.2.2.2.2.2.1, ()))
def f9b2_v20 (k2 : Int → Int → (List tAct.D) → Option (Int × (List tAct.D) × Unit)) (x2 : Int) (x1 : Int) (v20 : List tAct.D) : Option (Int × (List tAct.D) × Unit) :=
  (ix v20.length x2).bind fun v21 =>
  f9b2_v22 k2 x2 x1 (v20.set (0 + v21) ((gd tAct v20 (0 + v21)).1, (gd tAct v20 (0 + v21)).2.1, (gd tAct v20 (0 + v21)).2.2.1, (gd tAct v20 (0 + v21)).2.2.2.1, (gd tAct v20 (0 + v21)).2.2.2.2.1, (gd tAct v20 (0 + v21)).2.2.2.2.2.1, (((gd tAct v20 (0 + v21)).2.2.2.2.2.2.1).1, ((gd tAct v20 (0 + v21)).2.2.2.2.2.2.1).2.1, ((gd tAct v20 (0 + v21)).2.2.2.2.2.2.1).2.2.1, w64 (w64 (w64 (w64 (w64 (w64 (w64 (w64 (w64 (x1 + 1) + 1) + 1) + 1) + 1) + 1) + 1) + 1) + 1), ((gd tAct v20 (0 + v21)).2.2.2.2.2.2.1).2.2.2.2.1, ((gd tAct v20 (0 + v21)).2.2.2.2.2.2.1).2.2.2.2.2.1, ()), (gd tAct v20 (0 + v21)).2.2.2.2.2.2.2.1, ()))
def f9b2_v17 (k2 : Int → Int → (List tAct.D) → Option (Int × (List tAct.D) × Unit)) (x1 : Int) (x2 : Int) (v17 : List tAct.D) : Option (Int × (List tAct.D) × Unit) :=
  (c16 (w64 (w64 (w64 (w64 (w64 (w64 (w64 (w64 (x1 + 1) + 1) + 1) + 1) + 1) + 1) + 1) + 1), ())).bind fun v18 =>
  (ix v17.length x2).bind fun v19 =>
  f9b2_v20 k2 x2 x1 (v17.set (0 + v19) ((gd tAct v17 (0 + v19)).1, (gd tAct v17 (0 + v19)).2.1, (gd tAct v17 (0 + v19)).2.2.1, (gd tAct v17 (0 + v19)).2.2.2.1, (gd tAct v17 (0 + v19)).2.2.2.2.1, (gd tAct v17 (0 + v19)).2.2.2.2.2.1, (((gd tAct v17 (0 + v19)).2.2.2.2.2.2.1).1, ((gd tAct v17 (0 + v19)).2.2.2.2.2.2.1).2.1, v18.1, ((gd tAct v17 (0 + v19)).2.2.2.2.2.2.1).2.2.2.1, ((gd tAct v17 (0 + v19)).2.2.2.2.2.2.1).2.2.2.2.1, ((gd tAct v17 (0 + v19)).2.2.2.2.2.2.1).2.2.2.2.2.1, ()), (gd tAct v17 (0 + v19)).2.2.2.2.2.2.2.1, ()))
def f9b2_v14 (k2 : Int → Int → (List tAct.D) → Option (Int × (List tAct.D) × Unit)) (x1 : Int) (x2 : Int) (v14 : List tAct.D) : Option (Int × (List tAct.D) × Unit) :=
  (c16 (w64 (w64 (w64 (w64 (w64 (w64 (w64 (x1 + 1) + 1) + 1) + 1) + 1) + 1) + 1), ())).bind fun v15 =>
  (ix v14.length x2).bind fun v16 =>
  f9b2_v17 k2 x1 x2 (v14.set (0 + v16) ((gd tAct v14 (0 + v16)).1, (gd tAct v14 (0 + v16)).2.1, (gd tAct v14 (0 + v16)).2.2.1, (gd tAct v14 (0 + v16)).2.2.2.1, (gd tAct v14 (0 + v16)).2.2.2.2.1, (gd tAct v14 (0 + v16)).2.2.2.2.2.1, (((gd tAct v14 (0 + v16)).2.2.2.2.2.2.1).1, v15.1, ((gd tAct v14 (0 + v16)).2.2.2.2.2.2.1).2.2.1, ((gd tAct v14 (0 + v16)).2.2.2.2.2.2.1).2.2.2.1, ((gd tAct v14 (0 + v16)).2.2.2.2.2.2.1).2.2.2.2.1, ((gd tAct v14 (0 + v16)).2.2.2.2.2.2.1).2.2.2.2.2.1, ()), (gd tAct v14 (0 + v16)).2.2.2.2.2.2.2.1, ()))
def f9b2_v12 (k2 : Int → Int → (List tAct.D) → Option (Int × (List tAct.D) × Unit)) (x2 : Int) (x1 : Int) (v12 : List tAct.D) : Option (Int × (List tAct.D) × Unit) :=
  (ix v12.length x2).bind fun v13 =>
  f9b2_v14 k2 x1 x2 (v12.set (0 + v13) ((gd tAct v12 (0 + v13)).1, (gd tAct v12 (0 + v13)).2.1, (gd tAct v12 (0 + v13)).2.2.1, (gd tAct v12 (0 + v13)).2.2.2.1, (gd tAct v12 (0 + v13)).2.2.2.2.1, (gd tAct v12 (0 + v13)).2.2.2.2.2.1, (w64 (w64 (w64 (w64 (w64 (w64 (x1 + 1) + 1) + 1) + 1) + 1) + 1), ((gd tAct v12 (0 + v13)).2.2.2.2.2.2.1).2.1, ((gd tAct v12 (0 + v13)).2.2.2.2.2.2.1).2.2.1, ((gd tAct v12 (0 + v13)).2.2.2.2.2.2.1).2.2.2.1, ((gd tAct v12 (0 + v13)).2.2.2.2.2.2.1).2.2.2.2.1, ((gd tAct v12 (0 + v13)).2.2.2.2.2.2.1).2.2.2.2.2.1, ()), (gd tAct v12 (0 + v13)).2.2.2.2.2.2.2.1, ()))
def f9b2_v10 (k2 : Int → Int → (List tAct.D) → Option (Int × (List tAct.D) × Unit)) (x2 : Int) (x1 : Int) (v10 : List tAct.D) : Option (Int × (List tAct.D) × Unit) :=
  (ix v10.length x2).bind fun v11 =>
  f9b2_v12 k2 x2 x1 (v10.set (0 + v11) ((gd tAct v10 (0 + v11)).1, (gd tAct v10 (0 + v11)).2.1, (gd tAct v10 (0 + v11)).2.2.1, (gd tAct v10 (0 + v11)).2.2.2.1, (gd tAct v10 (0 + v11)).2.2.2.2.1, w64 (w64 (w64 (w64 (w64 (x1 + 1) + 1) + 1) + 1) + 1), (gd tAct v10 (0 + v11)).2.2.2.2.2.2.1, (gd tAct v10 (0 + v11)).2.2.2.2.2.2.2.1, ()))
def f9b2_v8 (k2 : Int → Int → (List tAct.D) → Option (Int × (List tAct.D) × Unit)) (x2 : Int) (x1 : Int) (v8 : List tAct.D) : Option (Int × (List tAct.D) × Unit) :=
  (ix v8.length x2).bind fun v9 =>
  f9b2_v10 k2 x2 x1 (v8.set (0 + v9) ((gd tAct v8 (0 + v9)).1, (gd tAct v8 (0 + v9)).2.1, (gd tAct v8 (0 + v9)).2.2.1, (gd tAct v8 (0 + v9)).2.2.2.1, w64 (w64 (w64 (w64 (x1 + 1) + 1) + 1) + 1), (gd tAct v8 (0 + v9)).2.2.2.2.2.1, (gd tAct v8 (0 + v9)).2.2.2.2.2.2.1, (gd tAct v8 (0 + v9)).2.2.2.2.2.2.2.1, ()))
def f9b2_v6 (k2 : Int → Int → (List tAct.D) → Option (Int × (List tAct.D) × Unit)) (x2 : Int) (x1 : Int) (v6 : List tAct.D) : Option (Int × (List tAct.D) × Unit) :=
  (ix v6.length x2).bind fun v7 =>
  f9b2_v8 k2 x2 x1 (v6.set (0 + v7) ((gd tAct v6 (0 + v7)).1, (gd tAct v6 (0 + v7)).2.1, (gd tAct v6 (0 + v7)).2.2.1, w64 (w64 (w64 (x1 + 1) + 1) + 1), (gd tAct v6 (0 + v7)).2.2.2.2.1, (gd tAct v6 (0 + v7)).2.2.2.2.2.1, (gd tAct v6 (0 + v7)).2.2.2.2.2.2.1, (gd tAct v6 (0 + v7)).2.2.2.2.2.2.2.1, ()))
def f9b2_v4 (k2 : Int → Int → (List tAct.D) → Option (Int × (List tAct.D) × Unit)) (x2 : Int) (x1 : Int) (v4 : List tAct.D) : Option (Int × (List tAct.D) × Unit) :=
  (ix v4.length x2).bind fun v5 =>
  f9b2_v6 k2 x2 x1 (v4.set (0 + v5) ((gd tAct v4 (0 + v5)).1, (gd tAct v4 (0 + v5)).2.1, w64 (w64 (x1 + 1) + 1), (gd tAct v4 (0 + v5)).2.2.2.1, (gd tAct v4 (0 + v5)).2.2.2.2.1, (gd tAct v4 (0 + v5)).2.2.2.2.2.1, (gd tAct v4 (0 + v5)).2.2.2.2.2.2.1, (gd tAct v4 (0 + v5)).2.2.2.2.2.2.2.1, ()))
def f9b2_v2 (k2 : Int → Int → (List tAct.D) → Option (Int × (List tAct.D) × Unit)) (x2 : Int) (x1 : Int) (v2 : List tAct.D) : Option (Int × (List tAct.D) × Unit) :=
  (ix v2.length x2).bind fun v3 =>
  f9b2_v4 k2 x2 x1 (v2.set (0 + v3) ((gd tAct v2 (0 + v3)).1, w64 (x1 + 1), (gd tAct v2 (0 + v3)).2.2.1, (gd tAct v2 (0 + v3)).2.2.2.1, (gd tAct v2 (0 + v3)).2.2.2.2.1, (gd tAct v2 (0 + v3)).2.2.2.2.2.1, (gd tAct v2 (0 + v3)).2.2.2.2.2.2.1, (gd tAct v2 (0 + v3)).2.2.2.2.2.2.2.1, ()))
def f9b2 (k2 : Int → Int → (List tAct.D) → Option (Int × (List tAct.D) × Unit)) (x1 : Int) (x2 : Int) (x3 : List tAct.D) : Option (Int × (List tAct.D) × Unit) :=
  cond (decide (x2 < (x3.length : Int)))
    ((ix x3.length x2).bind fun v1 =>
    f9b2_v2 k2 x2 x1 (x3.set (0 + v1) (x1, (gd tAct x3 (0 + v1)).2.1, (gd tAct x3 (0 + v1)).2.2.1, (gd tAct x3 (0 + v1)).2.2.2.1, (gd tAct x3 (0 + v1)).2.2.2.2.1, (gd tAct x3 (0 + v1)).2.2.2.2.2.1, (gd tAct x3 (0 + v1)).2.2.2.2.2.2.1, (gd tAct x3 (0 + v1)).2.2.2.2.2.2.2.1, ())))
    (some (x1, x3, ()))
def f9L2 : Nat → Int → Int → (List tAct.D) → Option (Int × (List tAct.D) × Unit)
  | 0, _, _, _ => none
  | m + 1, x1, x2, x3 => f9b2 (f9L2 m) x1 x2 x3
def c9 (x : (List tAct.D) × Int × Unit) : Option (Int × (List tAct.D) × Unit) := f9s (f9L2 BIG) x.1 x.2.1

/-! laws.heldActS -/
def f10s (k2 : (List tAct.D) → Int → Int → Option (Int × Unit)) (a1 : List tAct.D) (a2 : Int) : Option (Int × Unit) :=
  k2 a1 a2 0
def f10b2 (k2 : (List tAct.D) → Int → Int → Option (Int × Unit)) (x1 : List tAct.D) (x2 : Int) (x3 : Int) : Option (Int × Unit) :=
  cond (decide (x3 < (x1.length : Int)))
    ((ix x1.length x3).bind fun v1 =>
    cond ((gd tAct x1 v1).1 != x2)
      (some ((-1), ()))
      ((ix x1.length x3).bind fun v2 =>
      cond ((gd tAct x1 v2).2.1 != w64 (x2 + 1))
        (some ((-1), ()))
        ((ix x1.length x3).bind fun v3 =>
        cond ((gd tAct x1 v3).2.2.1 != w64 (w64 (x2 + 1) + 1))
          (some ((-1), ()))
          ((ix x1.length x3).bind fun v4 =>
          cond ((gd tAct x1 v4).2.2.2.1 != w64 (w64 (w64 (x2 + 1) + 1) + 1))
            (some ((-1), ()))
            ((ix x1.length x3).bind fun v5 =>
            cond ((gd tAct x1 v5).2.2.2.2.1 != w64 (w64 (w64 (w64 (x2 + 1) + 1) + 1) + 1))
              (some ((-1), ()))
              ((ix x1.length x3).bind fun v6 =>
              cond ((gd tAct x1 v6).2.2.2.2.2.1 != w64 (w64 (w64 (w64 (w64 (x2 + 1) + 1) + 1) + 1) + 1))
                (some ((-1), ()))
                ((ix x1.length x3).bind fun v7 =>
                cond (((gd tAct x1 v7).2.2.2.2.2.2.1).1 != w64 (w64 (w64 (w64 (w64 (w64 (x2 + 1) + 1) + 1) + 1) + 1) + 1))
                  (some ((-1), ()))
                  ((ix x1.length x3).bind fun v8 =>
                  (c16 (w64 (w64 (w64 (w64 (w64 (w64 (w64 (x2 + 1) + 1) + 1) + 1) + 1) + 1) + 1), ())).bind fun v9 =>
                  cond (!(eqS (((gd tAct x1 v8).2.2.2.2.2.2.1).2.1) v9.1))
                    (some ((-1), ()))
                    ((ix x1.length x3).bind fun v10 =>
                    (c16 (w64 (w64 (w64 (w64 (w64 (w64 (w64 (w64 (x2 + 1) + 1) + 1) + 1) + 1) + 1) + 1) + 1), ())).bind fun v11 =>
                    cond (!(eqS (((gd tAct x1 v10).2.2.2.2.2.2.1).2.2.1) v11.1))
                      (some ((-1), ()))
                      ((ix x1.length x3).bind fun v12 =>
                      cond (((gd tAct x1 v12).2.2.2.2.2.2.1).2.2.2.1 != w64 (w64 (w64 (w64 (w64 (w64 (w64 (w64 (w64 (x2 + 1) + 1) + 1) + 1) + 1) + 1) + 1) + 1) + 1))
                        (some ((-1), ()))
                        ((ix x1.length x3).bind fun v13 =>
                        cond (((gd tAct x1 v13).2.2.2.2.2.2.1).2.2.2.2.1 != w64 (w64 (w64 (w64 (w64 (w64 (w64 (w64 (w64 (w64 (x2 + 1) + 1) + 1) + 1) + 1) + 1) + 1) + 1) + 1) + 1))
                          (some ((-1), ()))
                          ((ix x1.length x3).bind fun v14 =>
                          (c16 (w64 (w64 (w64 (w64 (w64 (w64 (w64 (w64 (w64 (w64 (w64 (x2 + 1) + 1) + 1) + 1) + 1) + 1) + 1) + 1) + 1) + 1) + 1), ())).bind fun v15 =>
                          cond (!(eqS (((gd tAct x1 v14).2.2.2.2.2.2.1).2.2.2.2.2.1) v15.1))
                            (some ((-1), ()))
                            ((ix x1.length x3).bind fun v16 =>
                            (c16 (w64 (w64 (w64 (w64 (w64 (w64 (w64 (w64 (w64 (w64 (w64 (w64 (x2 + 1) + 1) + 1) + 1) + 1) + 1) + 1) + 1) + 1) + 1) + 1) + 1), ())).bind fun v17 =>
                            cond (!(eqS ((gd tAct x1 v16).2.2.2.2.2.2.2.1) v17.1))
                              (some ((-1), ()))
                              (k2 x1 (w64 (w64 (w64 (w64 (w64 (w64 (w64 (w64 (w64 (w64 (w64 (w64 (w64 (x2 + 1) + 1) + 1) + 1) + 1) + 1) + 1) + 1) + 1) + 1) + 1) + 1) + 1)) (w64 (x3 + 1))))))))))))))))
    (some (x2, ()))
def f10L2 : Nat → (List tAct.D) → Int → Int → Option (Int × Unit)
  | 0, _, _, _ => none
  | m + 1, x1, x2, x3 => f10b2 (f10L2 m) x1 x2 x3
def c10 (x : (List tAct.D) × Int × Unit) : Option (Int × Unit) := f10s (f10L2 BIG) x.1 x.2.1

/-! laws.FnExactErase -/
def f3s (a1 : List tAct.D) (a2 : Int) : Option (Bool × Unit) :=
  (c4 (a1, 1048576, ())).bind fun v1 =>
  cond (decide (v1.1 < 0))
    (some (true, ()))
    ((c6 (a1, ())).bind fun v2 =>
    (c5 (v2.1, a2, ())).bind fun v3 =>
    (c6 (a1, ())).bind fun v4 =>
    (c7 (v4.1, a2, ())).bind fun v5 =>
    (c8 (v5.1, v3.1, ())).bind fun v6 =>
    cond (!v6.1)
      (some (false, ()))
      ((c6 (a1, ())).bind fun v7 =>
      (c8 (v4.1, v7.1, ())).bind fun v8 =>
      cond (!v8.1)
        (some (false, ()))
        ((c9 (v4.1, 1, ())).bind fun v9 =>
        cond (decide (v9.1 < 0))
          (some (false, ()))
          ((c8 (v5.1, v3.1, ())).bind fun v10 =>
          cond (!v10.1)
            (some (false, ()))
            ((c9 (v5.1, 1, ())).bind fun v11 =>
            (c10 (v11.2.1, 1, ())).bind fun v12 =>
            cond (decide (v12.1 < 0))
              (some (false, ()))
              (cond (v12.1 != v11.1)
                (some (false, ()))
                ((c6 (a1, ())).bind fun v13 =>
                (c7 (v13.1, a2, ())).bind fun v14 =>
                (c8 (v14.1, v3.1, ())).bind fun v15 =>
                cond (!v15.1)
                  (some (false, ()))
                  ((c10 (v11.2.1, 1, ())).bind fun v16 =>
                  cond (decide (v16.1 < 0))
                    (some (false, ()))
                    (cond (v16.1 != v11.1)
                      (some (false, ()))
                      (some (true, ())))))))))))
def c3 (x : (List tAct.D) × Int × Unit) : Option (Bool × Unit) := f3s x.1 x.2.1

end Go.LM.Er
