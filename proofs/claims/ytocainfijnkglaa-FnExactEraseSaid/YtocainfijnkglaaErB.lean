/- Each function of the program keeps its contract. Printed by a program. -/
import Derived.Test.YtocainfijnkglaaErA
import Derived.Test.YtocainfijnkglaaChecked
set_option linter.unusedVariables false
namespace Go.LM.Er
open Go.Proofs

def tab : List (Nat × Ty) := [(2, .int .i64), (3, .int .i64), (4, .bool), (5, .int .u8), (6, .int .u8), (9, .str), (10, .str), (11, .str), (12, .int .u64), (21, .int .i32), (22, .sl tAct), (24, .sl tAct), (31, tCall), (32, tCall), (33, tAct), (34, tAct), (36, tCall), (37, tAct), (38, tAct), (45, .sl (.int .u8)), (53, .int .u32), (54, .int .u8), (55, .int .u8), (58, .int .i32), (59, .int .i32)]
def ptrs : List Nat := []
theorem tab_ok : tabOk Try.prog tab = true := by kernel_rfl
theorem ptrs_ok : ptrsOk Try.prog ptrs = true := by kernel_rfl
theorem mix : Try.prog.follows .mixedOrders = true := by kernel_rfl

/-! laws.szCall -/
def f17T : Nat → Option Tpl := fun _ => none
noncomputable def f17body : Code := match Try.f17.body with | some c => c | none => .skip
noncomputable def f17E : Env := mkEnv 27 tab ptrs []
noncomputable def e17 : Entry := ⟨[.val tCall .R, .val (.int .i64) .R], [.val (.int .i64) .R], c17⟩
set_option maxRecDepth 100000 in
theorem f17s_ok (k : Nat → St → Option (Int × Unit)) (a1 : tCall.D) (a2 : Int) : startF f17E Try.f17 f17body f17T 0 e17 k (a1, a2, ()) = f17s  a1 a2 := by kernel_rfl
theorem s17 : Sound Try.prog 17 0 e17 := by
  refine fn_sound (fn := Try.f17) (body := f17body) (tpls := f17T) (env_ok (n := 27) (fns := []) tab_ok ptrs_ok trivial mix) (by kernel_rfl) (by kernel_rfl) (by kernel_rfl) (by kernel_rfl) (by kernel_rfl) (by kernel_rfl) (by kernel_rfl) ?_
  intro x r h
  refine ⟨BIG, ?_⟩
  exact (f17s_ok _ x.1 x.2.1).trans h

/-! laws.szAct -/
def f11T : Nat → Option Tpl := fun _ => none
noncomputable def f11body : Code := match Try.f11.body with | some c => c | none => .skip
noncomputable def f11E : Env := mkEnv 19 tab ptrs [(17, e17)]
noncomputable def e11 : Entry := ⟨[.val tAct .R, .val (.int .i64) .R], [.val (.int .i64) .R], c11⟩
set_option maxRecDepth 100000 in
theorem f11s_ok (k : Nat → St → Option (Int × Unit)) (a1 : tAct.D) (a2 : Int) : startF f11E Try.f11 f11body f11T 0 e11 k (a1, a2, ()) = f11s  a1 a2 := by kernel_rfl
theorem s11 : Sound Try.prog 11 0 e11 := by
  refine fn_sound (fn := Try.f11) (body := f11body) (tpls := f11T) (env_ok (n := 19) (fns := [(17, e17)]) tab_ok ptrs_ok ⟨s17, trivial⟩ mix) (by kernel_rfl) (by kernel_rfl) (by kernel_rfl) (by kernel_rfl) (by kernel_rfl) (by kernel_rfl) (by kernel_rfl) ?_
  intro x r h
  refine ⟨BIG, ?_⟩
  exact (f11s_ok _ x.1 x.2.1).trans h

/-! laws.szActS -/
def f4T5 : Tpl := ⟨[(0, .cell (.lst tAct [])), (1, .cell (.keep)), (5, .cell (.keep))], [], [.drop, .drop]⟩
def f4i5 (x1 : List tAct.D) (x2 : Int) (x3 : Int) : St := ⟨(upd (upd (upd (fun _ => .und) 5 (.sc (.int .i64 x3))) 1 (.sc (.int .i64 x2))) 0 (.sc (.lst tAct [] none x1))), (fun _ => .none), [.und, .und]⟩
def f4T : Nat → Option Tpl := fun r => cond (Nat.beq r 5) (some f4T5) (none)
noncomputable def f4body : Code := match Try.f4.body with | some c => c | none => .skip
noncomputable def f4E : Env := mkEnv 27 tab ptrs [(11, e11)]
noncomputable def e4 : Entry := ⟨[.val (.sl tAct) .R, .val (.int .i64) .R], [.val (.int .i64) .R], c4⟩
set_option maxRecDepth 100000 in
theorem f4s_ok (k : Nat → St → Option (Int × Unit)) (a1 : List tAct.D) (a2 : Int) : startF f4E Try.f4 f4body f4T 0 e4 k (a1, a2, ()) = f4s (fun y1 y2 y3 => k 5 (f4i5 y1 y2 y3)) a1 a2 := by kernel_rfl
set_option maxRecDepth 100000 in
theorem f4b5_ok (k : Nat → St → Option (Int × Unit)) (x1 : List tAct.D) (x2 : Int) (x3 : Int) : stepF f4E f4T f4body (finF f4E Try.f4 e4) k 5 (f4i5 x1 x2 x3) = f4b5 (fun y1 y2 y3 => k 5 (f4i5 y1 y2 y3)) x1 x2 x3 := by kernel_rfl
theorem f4L_ok : ∀ m : Nat, (∀ (x1 : List tAct.D) (x2 : Int) (x3 : Int), loopF f4E f4T f4body (finF f4E Try.f4 e4) m 5 (f4i5 x1 x2 x3) = f4L5 m x1 x2 x3)
  | 0 => fun _ _ _ => rfl
  | m + 1 => by
    obtain h5 := f4L_ok m
    have g5 : (fun y1 y2 y3 => loopF f4E f4T f4body (finF f4E Try.f4 e4) m 5 (f4i5 y1 y2 y3)) = f4L5 m := (funext fun y1 => (funext fun y2 => (funext fun y3 => h5 y1 y2 y3)))
    exact (fun x1 x2 x3 => (f4b5_ok (loopF f4E f4T f4body (finF f4E Try.f4 e4) m) x1 x2 x3).trans (congrArg (fun k => f4b5 k x1 x2 x3) g5))
theorem s4 : Sound Try.prog 4 0 e4 := by
  refine fn_sound (fn := Try.f4) (body := f4body) (tpls := f4T) (env_ok (n := 27) (fns := [(11, e11)]) tab_ok ptrs_ok ⟨s11, trivial⟩ mix) (by kernel_rfl) (by kernel_rfl) (by kernel_rfl) (by kernel_rfl) (by kernel_rfl) (by kernel_rfl) (by kernel_rfl) ?_
  intro x r h
  refine ⟨BIG, ?_⟩
  obtain h5 := f4L_ok BIG
  have g5 : (fun y1 y2 y3 => loopF f4E f4T f4body (finF f4E Try.f4 e4) BIG 5 (f4i5 y1 y2 y3)) = f4L5 BIG := (funext fun y1 => (funext fun y2 => (funext fun y3 => h5 y1 y2 y3)))
  exact (f4s_ok _ x.1 x.2.1).trans ((congrArg (fun k => f4s k x.1 x.2.1) g5).trans h)

/-! spec.l1In -/
def f12T : Nat → Option Tpl := fun _ => none
noncomputable def f12body : Code := match Try.f12.body with | some c => c | none => .skip
noncomputable def f12E : Env := mkEnv 15 tab ptrs []
noncomputable def e12 : Entry := ⟨[.val (.int .i64) .R, .val (.int .i64) .R, .val (.int .i64) .R], [.val .bool .R], c12⟩
set_option maxRecDepth 100000 in
theorem f12s_ok (k : Nat → St → Option (Bool × Unit)) (a1 : Int) (a2 : Int) (a3 : Int) : startF f12E Try.f12 f12body f12T 0 e12 k (a1, a2, a3, ()) = f12s  a1 a2 a3 := by kernel_rfl
theorem s12 : Sound Try.prog 12 0 e12 := by
  refine fn_sound (fn := Try.f12) (body := f12body) (tpls := f12T) (env_ok (n := 15) (fns := []) tab_ok ptrs_ok trivial mix) (by kernel_rfl) (by kernel_rfl) (by kernel_rfl) (by kernel_rfl) (by kernel_rfl) (by kernel_rfl) (by kernel_rfl) ?_
  intro x r h
  refine ⟨BIG, ?_⟩
  exact (f12s_ok _ x.1 x.2.1 x.2.2.1).trans h

/-! spec.Erase -/
def f5T3 : Tpl := ⟨[(0, .cell (.lst tAct [])), (1, .cell (.keep)), (5, .cell (.hd 1)), (6, .cell (.keep))], [(1, .row tAct .R)], [.drop, .drop]⟩
def f5i3 (x1 : List tAct.D) (x2 : Int) (x3 : Int) (x4 : List tAct.D) : St := ⟨(upd (upd (upd (upd (fun _ => .und) 6 (.sc (.int .i64 x3))) 5 (.sc (.hd 1 none))) 1 (.sc (.int .i64 x2))) 0 (.sc (.lst tAct [] none x1))), (upd (fun _ => .none) 1 (.row tAct .R 0 x4)), [.und, .und]⟩
def f5T : Nat → Option Tpl := fun r => cond (Nat.beq r 3) (some f5T3) (none)
noncomputable def f5body : Code := match Try.f5.body with | some c => c | none => .skip
noncomputable def f5E : Env := mkEnv 38 tab ptrs [(12, e12)]
noncomputable def e5 : Entry := ⟨[.val (.sl tAct) .R, .val (.int .i64) .R], [.val (.sl tAct) (.O .R)], c5⟩
set_option maxRecDepth 100000 in
theorem f5s_ok (k : Nat → St → Option ((List tAct.D) × Unit)) (a1 : List tAct.D) (a2 : Int) : startF f5E Try.f5 f5body f5T 0 e5 k (a1, a2, ()) = f5s (fun y1 y2 y3 y4 => k 3 (f5i3 y1 y2 y3 y4)) a1 a2 := by kernel_rfl
set_option maxRecDepth 100000 in
theorem f5b3_ok (k : Nat → St → Option ((List tAct.D) × Unit)) (x1 : List tAct.D) (x2 : Int) (x3 : Int) (x4 : List tAct.D) : stepF f5E f5T f5body (finF f5E Try.f5 e5) k 3 (f5i3 x1 x2 x3 x4) = f5b3 (fun y1 y2 y3 y4 => k 3 (f5i3 y1 y2 y3 y4)) x1 x2 x3 x4 := by kernel_rfl
theorem f5L_ok : ∀ m : Nat, (∀ (x1 : List tAct.D) (x2 : Int) (x3 : Int) (x4 : List tAct.D), loopF f5E f5T f5body (finF f5E Try.f5 e5) m 3 (f5i3 x1 x2 x3 x4) = f5L3 m x1 x2 x3 x4)
  | 0 => fun _ _ _ _ => rfl
  | m + 1 => by
    obtain h3 := f5L_ok m
    have g3 : (fun y1 y2 y3 y4 => loopF f5E f5T f5body (finF f5E Try.f5 e5) m 3 (f5i3 y1 y2 y3 y4)) = f5L3 m := (funext fun y1 => (funext fun y2 => (funext fun y3 => (funext fun y4 => h3 y1 y2 y3 y4))))
    exact (fun x1 x2 x3 x4 => (f5b3_ok (loopF f5E f5T f5body (finF f5E Try.f5 e5) m) x1 x2 x3 x4).trans (congrArg (fun k => f5b3 k x1 x2 x3 x4) g3))
theorem s5 : Sound Try.prog 5 0 e5 := by
  refine fn_sound (fn := Try.f5) (body := f5body) (tpls := f5T) (env_ok (n := 38) (fns := [(12, e12)]) tab_ok ptrs_ok ⟨s12, trivial⟩ mix) (by kernel_rfl) (by kernel_rfl) (by kernel_rfl) (by kernel_rfl) (by kernel_rfl) (by kernel_rfl) (by kernel_rfl) ?_
  intro x r h
  refine ⟨BIG, ?_⟩
  obtain h3 := f5L_ok BIG
  have g3 : (fun y1 y2 y3 y4 => loopF f5E f5T f5body (finF f5E Try.f5 e5) BIG 3 (f5i3 y1 y2 y3 y4)) = f5L3 BIG := (funext fun y1 => (funext fun y2 => (funext fun y3 => (funext fun y4 => h3 y1 y2 y3 y4))))
  exact (f5s_ok _ x.1 x.2.1).trans ((congrArg (fun k => f5s k x.1 x.2.1) g3).trans h)

/-! laws.toCall -/
def f18T : Nat → Option Tpl := fun _ => none
noncomputable def f18body : Code := match Try.f18.body with | some c => c | none => .skip
noncomputable def f18E : Env := mkEnv 23 tab ptrs []
noncomputable def e18 : Entry := ⟨[.val tCall .R], [.val tCall .R], c18⟩
set_option maxRecDepth 100000 in
theorem f18s_ok (k : Nat → St → Option (tCall.D × Unit)) (a1 : tCall.D) : startF f18E Try.f18 f18body f18T 0 e18 k (a1, ()) = f18s  a1 := by kernel_rfl
theorem s18 : Sound Try.prog 18 0 e18 := by
  refine fn_sound (fn := Try.f18) (body := f18body) (tpls := f18T) (env_ok (n := 23) (fns := []) tab_ok ptrs_ok trivial mix) (by kernel_rfl) (by kernel_rfl) (by kernel_rfl) (by kernel_rfl) (by kernel_rfl) (by kernel_rfl) (by kernel_rfl) ?_
  intro x r h
  refine ⟨BIG, ?_⟩
  exact (f18s_ok _ x.1).trans h

/-! laws.toAct -/
def f13T : Nat → Option Tpl := fun _ => none
noncomputable def f13body : Code := match Try.f13.body with | some c => c | none => .skip
noncomputable def f13E : Env := mkEnv 30 tab ptrs [(18, e18)]
noncomputable def e13 : Entry := ⟨[.val tAct .R], [.val tAct .R], c13⟩
set_option maxRecDepth 100000 in
theorem f13s_ok (k : Nat → St → Option (tAct.D × Unit)) (a1 : tAct.D) : startF f13E Try.f13 f13body f13T 0 e13 k (a1, ()) = f13s  a1 := by kernel_rfl
theorem s13 : Sound Try.prog 13 0 e13 := by
  refine fn_sound (fn := Try.f13) (body := f13body) (tpls := f13T) (env_ok (n := 30) (fns := [(18, e18)]) tab_ok ptrs_ok ⟨s18, trivial⟩ mix) (by kernel_rfl) (by kernel_rfl) (by kernel_rfl) (by kernel_rfl) (by kernel_rfl) (by kernel_rfl) (by kernel_rfl) ?_
  intro x r h
  refine ⟨BIG, ?_⟩
  exact (f13s_ok _ x.1).trans h

/-! laws.toActS -/
def f6T3 : Tpl := ⟨[(0, .cell (.lst tAct [])), (3, .cell (.hd 1)), (4, .cell (.keep))], [(1, .row tAct .R)], [.drop]⟩
def f6i3 (x1 : List tAct.D) (x2 : Int) (x3 : List tAct.D) : St := ⟨(upd (upd (upd (fun _ => .und) 4 (.sc (.int .i64 x2))) 3 (.sc (.hd 1 none))) 0 (.sc (.lst tAct [] none x1))), (upd (fun _ => .none) 1 (.row tAct .R 0 x3)), [.und]⟩
def f6T : Nat → Option Tpl := fun r => cond (Nat.beq r 3) (some f6T3) (none)
noncomputable def f6body : Code := match Try.f6.body with | some c => c | none => .skip
noncomputable def f6E : Env := mkEnv 23 tab ptrs [(13, e13)]
noncomputable def e6 : Entry := ⟨[.val (.sl tAct) .R], [.val (.sl tAct) (.O .R)], c6⟩
set_option maxRecDepth 100000 in
theorem f6s_ok (k : Nat → St → Option ((List tAct.D) × Unit)) (a1 : List tAct.D) : startF f6E Try.f6 f6body f6T 0 e6 k (a1, ()) = f6s (fun y1 y2 y3 => k 3 (f6i3 y1 y2 y3)) a1 := by kernel_rfl
set_option maxRecDepth 100000 in
theorem f6b3_ok (k : Nat → St → Option ((List tAct.D) × Unit)) (x1 : List tAct.D) (x2 : Int) (x3 : List tAct.D) : stepF f6E f6T f6body (finF f6E Try.f6 e6) k 3 (f6i3 x1 x2 x3) = f6b3 (fun y1 y2 y3 => k 3 (f6i3 y1 y2 y3)) x1 x2 x3 := by kernel_rfl
theorem f6L_ok : ∀ m : Nat, (∀ (x1 : List tAct.D) (x2 : Int) (x3 : List tAct.D), loopF f6E f6T f6body (finF f6E Try.f6 e6) m 3 (f6i3 x1 x2 x3) = f6L3 m x1 x2 x3)
  | 0 => fun _ _ _ => rfl
  | m + 1 => by
    obtain h3 := f6L_ok m
    have g3 : (fun y1 y2 y3 => loopF f6E f6T f6body (finF f6E Try.f6 e6) m 3 (f6i3 y1 y2 y3)) = f6L3 m := (funext fun y1 => (funext fun y2 => (funext fun y3 => h3 y1 y2 y3)))
    exact (fun x1 x2 x3 => (f6b3_ok (loopF f6E f6T f6body (finF f6E Try.f6 e6) m) x1 x2 x3).trans (congrArg (fun k => f6b3 k x1 x2 x3) g3))
theorem s6 : Sound Try.prog 6 0 e6 := by
  refine fn_sound (fn := Try.f6) (body := f6body) (tpls := f6T) (env_ok (n := 23) (fns := [(13, e13)]) tab_ok ptrs_ok ⟨s13, trivial⟩ mix) (by kernel_rfl) (by kernel_rfl) (by kernel_rfl) (by kernel_rfl) (by kernel_rfl) (by kernel_rfl) (by kernel_rfl) ?_
  intro x r h
  refine ⟨BIG, ?_⟩
  obtain h3 := f6L_ok BIG
  have g3 : (fun y1 y2 y3 => loopF f6E f6T f6body (finF f6E Try.f6 e6) BIG 3 (f6i3 y1 y2 y3)) = f6L3 BIG := (funext fun y1 => (funext fun y2 => (funext fun y3 => h3 y1 y2 y3)))
  exact (f6s_ok _ x.1).trans ((congrArg (fun k => f6s k x.1) g3).trans h)

/-! impl.within -/
def f14T : Nat → Option Tpl := fun _ => none
noncomputable def f14body : Code := match Try.f14.body with | some c => c | none => .skip
noncomputable def f14E : Env := mkEnv 15 tab ptrs []
noncomputable def e14 : Entry := ⟨[.val (.int .i64) .R, .val (.int .i64) .R, .val (.int .i64) .R], [.val .bool .R], c14⟩
set_option maxRecDepth 100000 in
theorem f14s_ok (k : Nat → St → Option (Bool × Unit)) (a1 : Int) (a2 : Int) (a3 : Int) : startF f14E Try.f14 f14body f14T 0 e14 k (a1, a2, a3, ()) = f14s  a1 a2 a3 := by kernel_rfl
theorem s14 : Sound Try.prog 14 0 e14 := by
  refine fn_sound (fn := Try.f14) (body := f14body) (tpls := f14T) (env_ok (n := 15) (fns := []) tab_ok ptrs_ok trivial mix) (by kernel_rfl) (by kernel_rfl) (by kernel_rfl) (by kernel_rfl) (by kernel_rfl) (by kernel_rfl) (by kernel_rfl) ?_
  intro x r h
  refine ⟨BIG, ?_⟩
  exact (f14s_ok _ x.1 x.2.1 x.2.2.1).trans h

/-! impl.Erase -/
def f7T3 : Tpl := ⟨[(1, .cell (.keep)), (5, .cell (.hd 1)), (9, .cell (.lst tAct [])), (10, .cell (.keep)), (11, .cell (.keep))], [(1, .row tAct .R)], [.drop, .drop]⟩
def f7i3 (x1 : Int) (x2 : List tAct.D) (x3 : Int) (x4 : Int) (x5 : List tAct.D) : St := ⟨(upd (upd (upd (upd (upd (fun _ => .und) 11 (.sc (.int .i64 x4))) 10 (.sc (.int .i64 x3))) 9 (.sc (.lst tAct [] none x2))) 5 (.sc (.hd 1 none))) 1 (.sc (.int .i64 x1))), (upd (fun _ => .none) 1 (.row tAct .R 0 x5)), [.und, .und]⟩
def f7T : Nat → Option Tpl := fun r => cond (Nat.beq r 3) (some f7T3) (none)
noncomputable def f7body : Code := match Try.f7.body with | some c => c | none => .skip
noncomputable def f7E : Env := mkEnv 31 tab ptrs [(14, e14)]
noncomputable def e7 : Entry := ⟨[.val (.sl tAct) .R, .val (.int .i64) .R], [.val (.sl tAct) (.O .R)], c7⟩
set_option maxRecDepth 100000 in
theorem f7s_ok (k : Nat → St → Option ((List tAct.D) × Unit)) (a1 : List tAct.D) (a2 : Int) : startF f7E Try.f7 f7body f7T 0 e7 k (a1, a2, ()) = f7s (fun y1 y2 y3 y4 y5 => k 3 (f7i3 y1 y2 y3 y4 y5)) a1 a2 := by kernel_rfl
set_option maxRecDepth 100000 in
theorem f7b3_ok (k : Nat → St → Option ((List tAct.D) × Unit)) (x1 : Int) (x2 : List tAct.D) (x3 : Int) (x4 : Int) (x5 : List tAct.D) : stepF f7E f7T f7body (finF f7E Try.f7 e7) k 3 (f7i3 x1 x2 x3 x4 x5) = f7b3 (fun y1 y2 y3 y4 y5 => k 3 (f7i3 y1 y2 y3 y4 y5)) x1 x2 x3 x4 x5 := by kernel_rfl
theorem f7L_ok : ∀ m : Nat, (∀ (x1 : Int) (x2 : List tAct.D) (x3 : Int) (x4 : Int) (x5 : List tAct.D), loopF f7E f7T f7body (finF f7E Try.f7 e7) m 3 (f7i3 x1 x2 x3 x4 x5) = f7L3 m x1 x2 x3 x4 x5)
  | 0 => fun _ _ _ _ _ => rfl
  | m + 1 => by
    obtain h3 := f7L_ok m
    have g3 : (fun y1 y2 y3 y4 y5 => loopF f7E f7T f7body (finF f7E Try.f7 e7) m 3 (f7i3 y1 y2 y3 y4 y5)) = f7L3 m := (funext fun y1 => (funext fun y2 => (funext fun y3 => (funext fun y4 => (funext fun y5 => h3 y1 y2 y3 y4 y5)))))
    exact (fun x1 x2 x3 x4 x5 => (f7b3_ok (loopF f7E f7T f7body (finF f7E Try.f7 e7) m) x1 x2 x3 x4 x5).trans (congrArg (fun k => f7b3 k x1 x2 x3 x4 x5) g3))
theorem s7 : Sound Try.prog 7 0 e7 := by
  refine fn_sound (fn := Try.f7) (body := f7body) (tpls := f7T) (env_ok (n := 31) (fns := [(14, e14)]) tab_ok ptrs_ok ⟨s14, trivial⟩ mix) (by kernel_rfl) (by kernel_rfl) (by kernel_rfl) (by kernel_rfl) (by kernel_rfl) (by kernel_rfl) (by kernel_rfl) ?_
  intro x r h
  refine ⟨BIG, ?_⟩
  obtain h3 := f7L_ok BIG
  have g3 : (fun y1 y2 y3 y4 y5 => loopF f7E f7T f7body (finF f7E Try.f7 e7) BIG 3 (f7i3 y1 y2 y3 y4 y5)) = f7L3 BIG := (funext fun y1 => (funext fun y2 => (funext fun y3 => (funext fun y4 => (funext fun y5 => h3 y1 y2 y3 y4 y5)))))
  exact (f7s_ok _ x.1 x.2.1).trans ((congrArg (fun k => f7s k x.1 x.2.1) g3).trans h)

/-! laws.eqCall -/
def f19T : Nat → Option Tpl := fun _ => none
noncomputable def f19body : Code := match Try.f19.body with | some c => c | none => .skip
noncomputable def f19E : Env := mkEnv 35 tab ptrs []
noncomputable def e19 : Entry := ⟨[.val tCall .R, .val tCall .R], [.val .bool .R], c19⟩
set_option maxRecDepth 100000 in
theorem f19s_ok (k : Nat → St → Option (Bool × Unit)) (a1 : tCall.D) (a2 : tCall.D) : startF f19E Try.f19 f19body f19T 0 e19 k (a1, a2, ()) = f19s  a1 a2 := by kernel_rfl
theorem s19 : Sound Try.prog 19 0 e19 := by
  refine fn_sound (fn := Try.f19) (body := f19body) (tpls := f19T) (env_ok (n := 35) (fns := []) tab_ok ptrs_ok trivial mix) (by kernel_rfl) (by kernel_rfl) (by kernel_rfl) (by kernel_rfl) (by kernel_rfl) (by kernel_rfl) (by kernel_rfl) ?_
  intro x r h
  refine ⟨BIG, ?_⟩
  exact (f19s_ok _ x.1 x.2.1).trans h

/-! laws.eqAct -/
def f15T : Nat → Option Tpl := fun _ => none
noncomputable def f15body : Code := match Try.f15.body with | some c => c | none => .skip
noncomputable def f15E : Env := mkEnv 46 tab ptrs [(19, e19)]
noncomputable def e15 : Entry := ⟨[.val tAct .R, .val tAct .R], [.val .bool .R], c15⟩
set_option maxRecDepth 100000 in
theorem f15s_ok (k : Nat → St → Option (Bool × Unit)) (a1 : tAct.D) (a2 : tAct.D) : startF f15E Try.f15 f15body f15T 0 e15 k (a1, a2, ()) = f15s  a1 a2 := by kernel_rfl
theorem s15 : Sound Try.prog 15 0 e15 := by
  refine fn_sound (fn := Try.f15) (body := f15body) (tpls := f15T) (env_ok (n := 46) (fns := [(19, e19)]) tab_ok ptrs_ok ⟨s19, trivial⟩ mix) (by kernel_rfl) (by kernel_rfl) (by kernel_rfl) (by kernel_rfl) (by kernel_rfl) (by kernel_rfl) (by kernel_rfl) ?_
  intro x r h
  refine ⟨BIG, ?_⟩
  exact (f15s_ok _ x.1 x.2.1).trans h

/-! laws.eqActS -/
def f8T4 : Tpl := ⟨[(0, .cell (.lst tAct [])), (1, .cell (.lst tAct [])), (5, .cell (.keep))], [], [.drop, .drop]⟩
def f8i4 (x1 : List tAct.D) (x2 : List tAct.D) (x3 : Int) : St := ⟨(upd (upd (upd (fun _ => .und) 5 (.sc (.int .i64 x3))) 1 (.sc (.lst tAct [] none x2))) 0 (.sc (.lst tAct [] none x1))), (fun _ => .none), [.und, .und]⟩
def f8T : Nat → Option Tpl := fun r => cond (Nat.beq r 4) (some f8T4) (none)
noncomputable def f8body : Code := match Try.f8.body with | some c => c | none => .skip
noncomputable def f8E : Env := mkEnv 27 tab ptrs [(15, e15)]
noncomputable def e8 : Entry := ⟨[.val (.sl tAct) .R, .val (.sl tAct) .R], [.val .bool .R], c8⟩
set_option maxRecDepth 100000 in
theorem f8s_ok (k : Nat → St → Option (Bool × Unit)) (a1 : List tAct.D) (a2 : List tAct.D) : startF f8E Try.f8 f8body f8T 0 e8 k (a1, a2, ()) = f8s (fun y1 y2 y3 => k 4 (f8i4 y1 y2 y3)) a1 a2 := by kernel_rfl
set_option maxRecDepth 100000 in
theorem f8b4_ok (k : Nat → St → Option (Bool × Unit)) (x1 : List tAct.D) (x2 : List tAct.D) (x3 : Int) : stepF f8E f8T f8body (finF f8E Try.f8 e8) k 4 (f8i4 x1 x2 x3) = f8b4 (fun y1 y2 y3 => k 4 (f8i4 y1 y2 y3)) x1 x2 x3 := by kernel_rfl
theorem f8L_ok : ∀ m : Nat, (∀ (x1 : List tAct.D) (x2 : List tAct.D) (x3 : Int), loopF f8E f8T f8body (finF f8E Try.f8 e8) m 4 (f8i4 x1 x2 x3) = f8L4 m x1 x2 x3)
  | 0 => fun _ _ _ => rfl
  | m + 1 => by
    obtain h4 := f8L_ok m
    have g4 : (fun y1 y2 y3 => loopF f8E f8T f8body (finF f8E Try.f8 e8) m 4 (f8i4 y1 y2 y3)) = f8L4 m := (funext fun y1 => (funext fun y2 => (funext fun y3 => h4 y1 y2 y3)))
    exact (fun x1 x2 x3 => (f8b4_ok (loopF f8E f8T f8body (finF f8E Try.f8 e8) m) x1 x2 x3).trans (congrArg (fun k => f8b4 k x1 x2 x3) g4))
theorem s8 : Sound Try.prog 8 0 e8 := by
  refine fn_sound (fn := Try.f8) (body := f8body) (tpls := f8T) (env_ok (n := 27) (fns := [(15, e15)]) tab_ok ptrs_ok ⟨s15, trivial⟩ mix) (by kernel_rfl) (by kernel_rfl) (by kernel_rfl) (by kernel_rfl) (by kernel_rfl) (by kernel_rfl) (by kernel_rfl) ?_
  intro x r h
  refine ⟨BIG, ?_⟩
  obtain h4 := f8L_ok BIG
  have g4 : (fun y1 y2 y3 => loopF f8E f8T f8body (finF f8E Try.f8 e8) BIG 4 (f8i4 y1 y2 y3)) = f8L4 BIG := (funext fun y1 => (funext fun y2 => (funext fun y3 => h4 y1 y2 y3)))
  exact (f8s_ok _ x.1 x.2.1).trans ((congrArg (fun k => f8s k x.1 x.2.1) g4).trans h)

/-! laws.markText -/
def f16T4 : Tpl := ⟨[(0, .cell (.keep)), (3, .cell (.keep))], [], [.drop]⟩
def f16i4 (x1 : Int) (x2 : List UInt8) : St := ⟨(upd (upd (fun _ => .und) 3 (.sc (.str x2))) 0 (.sc (.int .i64 x1))), (fun _ => .none), [.und]⟩
def f16T : Nat → Option Tpl := fun r => cond (Nat.beq r 4) (some f16T4) (none)
noncomputable def f16body : Code := match Try.f16.body with | some c => c | none => .skip
noncomputable def f16E : Env := mkEnv 20 tab ptrs []
noncomputable def e16 : Entry := ⟨[.val (.int .i64) .R], [.val .str .R], c16⟩
set_option maxRecDepth 100000 in
theorem f16s_ok (k : Nat → St → Option ((List UInt8) × Unit)) (a1 : Int) : startF f16E Try.f16 f16body f16T 0 e16 k (a1, ()) = f16s (fun y1 y2 => k 4 (f16i4 y1 y2)) a1 := by kernel_rfl
set_option maxRecDepth 100000 in
theorem f16b4_ok (k : Nat → St → Option ((List UInt8) × Unit)) (x1 : Int) (x2 : List UInt8) : stepF f16E f16T f16body (finF f16E Try.f16 e16) k 4 (f16i4 x1 x2) = f16b4 (fun y1 y2 => k 4 (f16i4 y1 y2)) x1 x2 := by kernel_rfl
theorem f16L_ok : ∀ m : Nat, (∀ (x1 : Int) (x2 : List UInt8), loopF f16E f16T f16body (finF f16E Try.f16 e16) m 4 (f16i4 x1 x2) = f16L4 m x1 x2)
  | 0 => fun _ _ => rfl
  | m + 1 => by
    obtain h4 := f16L_ok m
    have g4 : (fun y1 y2 => loopF f16E f16T f16body (finF f16E Try.f16 e16) m 4 (f16i4 y1 y2)) = f16L4 m := (funext fun y1 => (funext fun y2 => h4 y1 y2))
    exact (fun x1 x2 => (f16b4_ok (loopF f16E f16T f16body (finF f16E Try.f16 e16) m) x1 x2).trans (congrArg (fun k => f16b4 k x1 x2) g4))
theorem s16 : Sound Try.prog 16 0 e16 := by
  refine fn_sound (fn := Try.f16) (body := f16body) (tpls := f16T) (env_ok (n := 20) (fns := []) tab_ok ptrs_ok trivial mix) (by kernel_rfl) (by kernel_rfl) (by kernel_rfl) (by kernel_rfl) (by kernel_rfl) (by kernel_rfl) (by kernel_rfl) ?_
  intro x r h
  refine ⟨BIG, ?_⟩
  obtain h4 := f16L_ok BIG
  have g4 : (fun y1 y2 => loopF f16E f16T f16body (finF f16E Try.f16 e16) BIG 4 (f16i4 y1 y2)) = f16L4 BIG := (funext fun y1 => (funext fun y2 => h4 y1 y2))
  exact (f16s_ok _ x.1).trans ((congrArg (fun k => f16s k x.1) g4).trans h)

/-! laws.markActS -/
def f9T2 : Tpl := ⟨[(0, .cell (.hd 1)), (1, .cell (.keep)), (5, .cell (.keep))], [(1, .row tAct .R)], [.cell (.hd 1), .drop]⟩
def f9i2 (x1 : Int) (x2 : Int) (x3 : List tAct.D) : St := ⟨(upd (upd (upd (fun _ => .und) 5 (.sc (.int .i64 x2))) 1 (.sc (.int .i64 x1))) 0 (.sc (.hd 1 none))), (upd (fun _ => .none) 1 (.row tAct .R 0 x3)), [.sc (.hd 1 none), .und]⟩
def f9T : Nat → Option Tpl := fun r => cond (Nat.beq r 2) (some f9T2) (none)
noncomputable def f9body : Code := match Try.f9.body with | some c => c | none => .skip
noncomputable def f9E : Env := mkEnv 114 tab ptrs [(16, e16)]
noncomputable def e9 : Entry := ⟨[.vm (.sl tAct) (.O .R), .val (.int .i64) .R], [.val (.int .i64) .R], c9⟩
set_option maxRecDepth 100000 in
theorem f9s_ok (k : Nat → St → Option (Int × (List tAct.D) × Unit)) (a1 : List tAct.D) (a2 : Int) : startF f9E Try.f9 f9body f9T 0 e9 k (a1, a2, ()) = f9s (fun y1 y2 y3 => k 2 (f9i2 y1 y2 y3)) a1 a2 := by kernel_rfl
set_option maxRecDepth 100000 in
theorem f9b2_ok (k : Nat → St → Option (Int × (List tAct.D) × Unit)) (x1 : Int) (x2 : Int) (x3 : List tAct.D) : stepF f9E f9T f9body (finF f9E Try.f9 e9) k 2 (f9i2 x1 x2 x3) = f9b2 (fun y1 y2 y3 => k 2 (f9i2 y1 y2 y3)) x1 x2 x3 := by kernel_rfl
theorem f9L_ok : ∀ m : Nat, (∀ (x1 : Int) (x2 : Int) (x3 : List tAct.D), loopF f9E f9T f9body (finF f9E Try.f9 e9) m 2 (f9i2 x1 x2 x3) = f9L2 m x1 x2 x3)
  | 0 => fun _ _ _ => rfl
  | m + 1 => by
    obtain h2 := f9L_ok m
    have g2 : (fun y1 y2 y3 => loopF f9E f9T f9body (finF f9E Try.f9 e9) m 2 (f9i2 y1 y2 y3)) = f9L2 m := (funext fun y1 => (funext fun y2 => (funext fun y3 => h2 y1 y2 y3)))
    exact (fun x1 x2 x3 => (f9b2_ok (loopF f9E f9T f9body (finF f9E Try.f9 e9) m) x1 x2 x3).trans (congrArg (fun k => f9b2 k x1 x2 x3) g2))
theorem s9 : Sound Try.prog 9 0 e9 := by
  refine fn_sound (fn := Try.f9) (body := f9body) (tpls := f9T) (env_ok (n := 114) (fns := [(16, e16)]) tab_ok ptrs_ok ⟨s16, trivial⟩ mix) (by kernel_rfl) (by kernel_rfl) (by kernel_rfl) (by kernel_rfl) (by kernel_rfl) (by kernel_rfl) (by kernel_rfl) ?_
  intro x r h
  refine ⟨BIG, ?_⟩
  obtain h2 := f9L_ok BIG
  have g2 : (fun y1 y2 y3 => loopF f9E f9T f9body (finF f9E Try.f9 e9) BIG 2 (f9i2 y1 y2 y3)) = f9L2 BIG := (funext fun y1 => (funext fun y2 => (funext fun y3 => h2 y1 y2 y3)))
  exact (f9s_ok _ x.1 x.2.1).trans ((congrArg (fun k => f9s k x.1 x.2.1) g2).trans h)

/-! laws.heldActS -/
def f10T2 : Tpl := ⟨[(0, .cell (.lst tAct [])), (1, .cell (.keep)), (5, .cell (.keep))], [], [.drop, .drop]⟩
def f10i2 (x1 : List tAct.D) (x2 : Int) (x3 : Int) : St := ⟨(upd (upd (upd (fun _ => .und) 5 (.sc (.int .i64 x3))) 1 (.sc (.int .i64 x2))) 0 (.sc (.lst tAct [] none x1))), (fun _ => .none), [.und, .und]⟩
def f10T : Nat → Option Tpl := fun r => cond (Nat.beq r 2) (some f10T2) (none)
noncomputable def f10body : Code := match Try.f10.body with | some c => c | none => .skip
noncomputable def f10E : Env := mkEnv 140 tab ptrs [(16, e16)]
noncomputable def e10 : Entry := ⟨[.val (.sl tAct) .R, .val (.int .i64) .R], [.val (.int .i64) .R], c10⟩
set_option maxRecDepth 100000 in
theorem f10s_ok (k : Nat → St → Option (Int × Unit)) (a1 : List tAct.D) (a2 : Int) : startF f10E Try.f10 f10body f10T 0 e10 k (a1, a2, ()) = f10s (fun y1 y2 y3 => k 2 (f10i2 y1 y2 y3)) a1 a2 := by kernel_rfl
set_option maxRecDepth 100000 in
theorem f10b2_ok (k : Nat → St → Option (Int × Unit)) (x1 : List tAct.D) (x2 : Int) (x3 : Int) : stepF f10E f10T f10body (finF f10E Try.f10 e10) k 2 (f10i2 x1 x2 x3) = f10b2 (fun y1 y2 y3 => k 2 (f10i2 y1 y2 y3)) x1 x2 x3 := by kernel_rfl
theorem f10L_ok : ∀ m : Nat, (∀ (x1 : List tAct.D) (x2 : Int) (x3 : Int), loopF f10E f10T f10body (finF f10E Try.f10 e10) m 2 (f10i2 x1 x2 x3) = f10L2 m x1 x2 x3)
  | 0 => fun _ _ _ => rfl
  | m + 1 => by
    obtain h2 := f10L_ok m
    have g2 : (fun y1 y2 y3 => loopF f10E f10T f10body (finF f10E Try.f10 e10) m 2 (f10i2 y1 y2 y3)) = f10L2 m := (funext fun y1 => (funext fun y2 => (funext fun y3 => h2 y1 y2 y3)))
    exact (fun x1 x2 x3 => (f10b2_ok (loopF f10E f10T f10body (finF f10E Try.f10 e10) m) x1 x2 x3).trans (congrArg (fun k => f10b2 k x1 x2 x3) g2))
theorem s10 : Sound Try.prog 10 0 e10 := by
  refine fn_sound (fn := Try.f10) (body := f10body) (tpls := f10T) (env_ok (n := 140) (fns := [(16, e16)]) tab_ok ptrs_ok ⟨s16, trivial⟩ mix) (by kernel_rfl) (by kernel_rfl) (by kernel_rfl) (by kernel_rfl) (by kernel_rfl) (by kernel_rfl) (by kernel_rfl) ?_
  intro x r h
  refine ⟨BIG, ?_⟩
  obtain h2 := f10L_ok BIG
  have g2 : (fun y1 y2 y3 => loopF f10E f10T f10body (finF f10E Try.f10 e10) BIG 2 (f10i2 y1 y2 y3)) = f10L2 BIG := (funext fun y1 => (funext fun y2 => (funext fun y3 => h2 y1 y2 y3)))
  exact (f10s_ok _ x.1 x.2.1).trans ((congrArg (fun k => f10s k x.1 x.2.1) g2).trans h)

/-! laws.FnExactErase -/
def f3T : Nat → Option Tpl := fun _ => none
noncomputable def f3body : Code := match Try.f3.body with | some c => c | none => .skip
noncomputable def f3E : Env := mkEnv 74 tab ptrs [(4, e4), (5, e5), (6, e6), (7, e7), (8, e8), (9, e9), (10, e10)]
noncomputable def e3 : Entry := ⟨[.val (.sl tAct) .R, .val (.int .i64) .R], [.val .bool .R], c3⟩
set_option maxRecDepth 100000 in
theorem f3s_ok (k : Nat → St → Option (Bool × Unit)) (a1 : List tAct.D) (a2 : Int) : startF f3E Try.f3 f3body f3T 0 e3 k (a1, a2, ()) = f3s  a1 a2 := by kernel_rfl
theorem s3 : Sound Try.prog 3 0 e3 := by
  refine fn_sound (fn := Try.f3) (body := f3body) (tpls := f3T) (env_ok (n := 74) (fns := [(4, e4), (5, e5), (6, e6), (7, e7), (8, e8), (9, e9), (10, e10)]) tab_ok ptrs_ok ⟨s4, s5, s6, s7, s8, s9, s10, trivial⟩ mix) (by kernel_rfl) (by kernel_rfl) (by kernel_rfl) (by kernel_rfl) (by kernel_rfl) (by kernel_rfl) (by kernel_rfl) ?_
  intro x r h
  refine ⟨BIG, ?_⟩
  exact (f3s_ok _ x.1 x.2.1).trans h

end Go.LM.Er
