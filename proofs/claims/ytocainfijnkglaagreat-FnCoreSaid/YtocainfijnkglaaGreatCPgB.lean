/- Each function of the program keeps its contract. Printed by a program. Conditions: none. -/
import Derived.Test.YtocainfijnkglaaGreatCPgA
import Derived.Test.YtocainfijnkglaaGreatCLmd
import Derived.Test.YtocainfijnkglaaGreatChecked
set_option linter.unusedVariables false
namespace Go.LM.Pg
open Go.Proofs
def tab : List (Nat × Ty) := [(3, .int .i64), (4, .bool), (5, .int .u8), (9, .str), (22, .sl (.int .u8)), (24, .sl tEntry), (25, .sl (.int .i64)), (27, tCore), (29, tMsg), (32, .sl tMsg), (37, tEntry), (68, tSnap), (70, tKept), (88, tL1Cur), (121, .int .u64), (134, .int .u32), (136, .int .u64)]
def ptrs : List Nat := [15, 16, 17, 56, 96, 122, 141, 143, 155]
def eqs : List Nat := [37, 68]
theorem tab_ok : tabOk Tryz.prog tab = true := by kernel_rfl
theorem ptrs_ok : ptrsOk Tryz.prog ptrs = true := by kernel_rfl
theorem eqs_ok : cmpOk Tryz.prog tab eqs = true := by kernel_rfl
theorem mix : Tryz.prog.follows .mixedOrders = true := by kernel_rfl
noncomputable def bk : Bk Tryz.prog := ⟨tab, ptrs, eqs, tab_ok, ptrs_ok, eqs_ok, mix⟩
set_option maxRecDepth 100000

/-! laws.big -/
noncomputable def e_laws_big : Entry := ⟨[vr (.sl (.int .u8))], [rr .bool], laws_big⟩
theorem s_laws_big : Sound Tryz.prog 5 0 e_laws_big := fn0 bk (fn := Tryz.f5) (fns := []) trivial (by kernel_rfl) (by kernel_rfl) fun _ => by kernel_rfl

/-! spec.l1In -/
noncomputable def e_spec_l1In : Entry := ⟨[vr (.int .i64), vr (.int .i64), vr (.int .i64)], [rr .bool], spec_l1In⟩
theorem s_spec_l1In : Sound Tryz.prog 33 0 e_spec_l1In := fn0 bk (fn := Tryz.f33) (fns := []) trivial (by kernel_rfl) (by kernel_rfl) fun _ => by kernel_rfl

/-! spec.l3Place -/
noncomputable def e_spec_l3Place : Entry := ⟨[vr (.int .i64), vr (.int .i64)], [rr .bool], spec_l3Place⟩
theorem s_spec_l3Place : Sound Tryz.prog 39 0 e_spec_l3Place := fn0 bk (fn := Tryz.f39) (fns := [(33, e_spec_l1In)]) ⟨s_spec_l1In, trivial⟩ (by kernel_rfl) (by kernel_rfl) fun _ => by kernel_rfl

/-! spec.KeptOk -/
noncomputable def e_spec_KeptOk : Entry := ⟨[vr tKept], [rr .bool], spec_KeptOk⟩
def spec_KeptOk_T : List (Nat × Tpl) := [(5, ⟨[(1, .ptr 1), (3, tk), (4, tk)], tv 1 tKept .R [], [.drop]⟩)]
def spec_KeptOk_O (k : Nat → St → Option (Bool × Unit)) : spec_KeptOk_K5 := fun x1 x2 x3 => k 5 (mkS [(1, sP 1), (3, sI x1), (4, sI x2)] (sv 1 tKept .R [] x3) [.und])
theorem s_spec_KeptOk : Sound Tryz.prog 34 0 e_spec_KeptOk := fn1 bk (fn := Tryz.f34) (fns := [(33, e_spec_l1In), (39, e_spec_l3Place)]) ⟨s_spec_l1In, s_spec_l3Place, trivial⟩ (by kernel_rfl) (by kernel_rfl) spec_KeptOk_T spec_KeptOk_O spec_KeptOk_b5 spec_KeptOk_L5 (fun k x => spec_KeptOk_s k x.1) (by kernel_rfl) (fun _ => by kernel_rfl) (fun _ => rfl) (fun _ _ => by kernel_rfl) (fun _ => by kernel_rfl)

/-! spec.l13Kept -/
noncomputable def e_spec_l13Kept : Entry := ⟨[vr tCore, vr .str], [ro tKept], spec_l13Kept⟩
theorem s_spec_l13Kept : Sound Tryz.prog 35 0 e_spec_l13Kept := fn0 bk (fn := Tryz.f35) (fns := []) trivial (by kernel_rfl) (by kernel_rfl) fun _ => by kernel_rfl

/-! spec.l13Last -/
noncomputable def e_spec_l13Last : Entry := ⟨[vr tCore], [rr (.int .i64)], spec_l13Last⟩
theorem s_spec_l13Last : Sound Tryz.prog 36 0 e_spec_l13Last := fn0 bk (fn := Tryz.f36) (fns := []) trivial (by kernel_rfl) (by kernel_rfl) fun _ => by kernel_rfl

/-! spec.l13In -/
noncomputable def e_spec_l13In : Entry := ⟨[vr (.sl (.int .i64)), vr (.int .i64)], [rr .bool], spec_l13In⟩
def spec_l13In_T : List (Nat × Tpl) := [(2, ⟨[(0, .cell (.lst (.int .i64) [])), (1, tk), (5, tk)], [], [.drop, .drop]⟩)]
def spec_l13In_O (k : Nat → St → Option (Bool × Unit)) : spec_l13In_K2 := fun x1 x2 x3 => k 2 (mkS [(0, sL (.int .i64) x1), (1, sI x2), (5, sI x3)] [] [.und, .und])
theorem s_spec_l13In : Sound Tryz.prog 37 0 e_spec_l13In := fn1 bk (fn := Tryz.f37) (fns := []) trivial (by kernel_rfl) (by kernel_rfl) spec_l13In_T spec_l13In_O spec_l13In_b2 spec_l13In_L2 (fun k x => spec_l13In_s k x.1 x.2.1) (by kernel_rfl) (fun _ => by kernel_rfl) (fun _ => rfl) (fun _ _ => by kernel_rfl) (fun _ => by kernel_rfl)

/-! spec.CoreOk -/
noncomputable def e_spec_CoreOk : Entry := ⟨[vr tCore], [rr .bool], spec_CoreOk⟩
def spec_CoreOk_T : List (Nat × Tpl) := [(3, ⟨[(1, .ptr 1)], tv 1 tCore .R [], [.drop]⟩), (8, ⟨[(1, .ptr 1), (3, tk)], tv 1 tCore .R [], [.drop]⟩), (17, ⟨[(1, .ptr 1), (4, tk)], tv 1 tCore .R [], [.drop]⟩)]
def spec_CoreOk_O (k : Nat → St → Option (Bool × Unit)) : spec_CoreOk_K := ⟨fun x1 => k 3 (mkS [(1, sP 1)] (sv 1 tCore .R [] x1) [.und]), fun x1 x2 => k 8 (mkS [(1, sP 1), (3, sI x1)] (sv 1 tCore .R [] x2) [.und]), fun x1 x2 => k 17 (mkS [(1, sP 1), (4, sI x1)] (sv 1 tCore .R [] x2) [.und])⟩
theorem s_spec_CoreOk : Sound Tryz.prog 8 0 e_spec_CoreOk := fn1 bk (fn := Tryz.f8) (fns := [(33, e_spec_l1In), (34, e_spec_KeptOk), (35, e_spec_l13Kept), (36, e_spec_l13Last), (37, e_spec_l13In)]) ⟨s_spec_l1In, s_spec_KeptOk, s_spec_l13Kept, s_spec_l13Last, s_spec_l13In, trivial⟩ (by kernel_rfl) (by kernel_rfl) spec_CoreOk_T spec_CoreOk_O spec_CoreOk_N spec_CoreOk_L (fun k x => spec_CoreOk_s k x.1) (by kernel_rfl) (fun _ => by kernel_rfl) (fun _ => rfl) (fun _ _ => by kernel_rfl) (fun _ => by kernel_rfl)

/-! spec.l1New -/
noncomputable def e_spec_l1New : Entry := ⟨[vr (.sl (.int .u8))], [.new tL1Cur .R], spec_l1New⟩
def spec_l1New_T : List (Nat × Tpl) := [(3, ⟨[(0, .cell (.lst (.int .u8) [])), (3, tk), (4, tk)], [], [.drop]⟩)]
def spec_l1New_O (k : Nat → St → Option (tL1Cur.D × Unit)) : spec_l1New_K3 := fun x1 x2 x3 => k 3 (mkS [(0, sL (.int .u8) x1), (3, sI x2), (4, sI x3)] [] [.und])
theorem s_spec_l1New : Sound Tryz.prog 24 0 e_spec_l1New := fn1 bk (fn := Tryz.f24) (fns := []) trivial (by kernel_rfl) (by kernel_rfl) spec_l1New_T spec_l1New_O spec_l1New_b3 spec_l1New_L3 (fun k x => spec_l1New_s k x.1) (by kernel_rfl) (fun _ => by kernel_rfl) (fun _ => rfl) (fun _ _ => by kernel_rfl) (fun _ => by kernel_rfl)

/-! spec.l1Byte -/
noncomputable def e_spec_l1Byte : Entry := ⟨[.«mut» tL1Cur .R .R], [rr (.int .i64)], spec_l1Byte⟩
theorem s_spec_l1Byte : Sound Tryz.prog 97 0 e_spec_l1Byte := fn0 bk (fn := Tryz.f97) (fns := []) trivial (by kernel_rfl) (by kernel_rfl) fun _ => by kernel_rfl

/-! spec.l1Below -/
noncomputable def e_spec_l1Below : Entry := ⟨[.«mut» tL1Cur .R .R, vr (.int .i64)], [rr (.int .i64)], spec_l1Below⟩
theorem s_spec_l1Below : Sound Tryz.prog 62 0 e_spec_l1Below := fn0 bk (fn := Tryz.f62) (fns := [(97, e_spec_l1Byte)]) ⟨s_spec_l1Byte, trivial⟩ (by kernel_rfl) (by kernel_rfl) fun _ => by kernel_rfl

/-! spec.l1Once -/
noncomputable def e_spec_l1Once : Entry := ⟨[.«mut» tL1Cur .R .R, vr (.int .i64)], [rr .bool], spec_l1Once⟩
theorem s_spec_l1Once : Sound Tryz.prog 27 0 e_spec_l1Once := fn0 bk (fn := Tryz.f27) (fns := [(62, e_spec_l1Below)]) ⟨s_spec_l1Below, trivial⟩ (by kernel_rfl) (by kernel_rfl) fun _ => by kernel_rfl

/-! spec.l13Copy -/
noncomputable def e_spec_l13Copy : Entry := ⟨[vr tCore], [ro tCore], spec_l13Copy⟩
theorem s_spec_l13Copy : Sound Tryz.prog 45 0 e_spec_l13Copy := fn0 bk (fn := Tryz.f45) (fns := []) trivial (by kernel_rfl) (by kernel_rfl) fun _ => by kernel_rfl

/-! spec.l1PickInt -/
noncomputable def e_spec_l1PickInt : Entry := ⟨[.«mut» tL1Cur .R .R, vo (.sl (.int .i64))], [rr (.int .i64)], spec_l1PickInt⟩
theorem s_spec_l1PickInt : Sound Tryz.prog 63 0 e_spec_l1PickInt := fn0 bk (fn := Tryz.f63) (fns := [(62, e_spec_l1Below)]) ⟨s_spec_l1Below, trivial⟩ (by kernel_rfl) (by kernel_rfl) fun _ => by kernel_rfl

/-! spec.l1Text -/
noncomputable def e_spec_l1Text : Entry := ⟨[.«mut» tL1Cur .R .R, vr (.int .i64)], [rr .str], spec_l1Text⟩
def spec_l1Text_T : List (Nat × Tpl) := [(4, ⟨[(0, .ptr 1), (5, .cell (.hd 2)), (6, tk), (7, tk)], tv 1 tL1Cur .R [] ++ [(2, .row (.int .u8) .R)], [.ptr 1, .drop]⟩), (11, ⟨[(0, .ptr 1), (5, .cell (.hd 2)), (6, tk), (7, tk), (8, tk)], tv 1 tL1Cur .R [] ++ [(2, .row (.int .u8) .R)], [.ptr 1, .drop]⟩)]
def spec_l1Text_O (k : Nat → St → Option (spec_l1Text_R)) : spec_l1Text_K := ⟨fun x1 x2 x3 x4 => k 4 (mkS [(0, sP 1), (5, .sc (.hd 2 none)), (6, sI x1), (7, sI x2)] (sv 1 tL1Cur .R [] x3 ++ [(2, .row (.int .u8) .R 0 x4)]) [sP 1, .und]), fun x1 x2 x3 x4 x5 => k 11 (mkS [(0, sP 1), (5, .sc (.hd 2 none)), (6, sI x1), (7, sI x2), (8, sI x3)] (sv 1 tL1Cur .R [] x4 ++ [(2, .row (.int .u8) .R 0 x5)]) [sP 1, .und])⟩
theorem s_spec_l1Text : Sound Tryz.prog 98 0 e_spec_l1Text := fn1 bk (fn := Tryz.f98) (fns := [(62, e_spec_l1Below), (97, e_spec_l1Byte)]) ⟨s_spec_l1Below, s_spec_l1Byte, trivial⟩ (by kernel_rfl) (by kernel_rfl) spec_l1Text_T spec_l1Text_O spec_l1Text_N spec_l1Text_L (fun k x => spec_l1Text_s k x.1 x.2.1) (by kernel_rfl) (fun _ => by kernel_rfl) (fun _ => rfl) (fun _ _ => by kernel_rfl) (fun _ => by kernel_rfl)

/-! spec.l3Entries -/
noncomputable def e_spec_l3Entries : Entry := ⟨[.«mut» tL1Cur .R .R, vr (.int .i64), vr (.int .i64), vr (.int .i64)], [ro (.sl tEntry)], spec_l3Entries⟩
def spec_l3Entries_T : List (Nat × Tpl) := [(3, ⟨[(0, .ptr 1), (2, tk), (3, tk), (9, .cell (.hd 2)), (10, tk)], tv 1 tL1Cur .R [] ++ [(2, .row tEntry .R)], [.ptr 1, .drop, .drop, .drop]⟩), (7, ⟨[(0, .ptr 1), (2, tk), (3, tk), (9, .cell (.hd 2)), (10, tk)], tv 1 tL1Cur .R [] ++ [(2, .row tEntry .R)], [.ptr 1, .drop, .drop, .drop]⟩)]
def spec_l3Entries_O (k : Nat → St → Option (spec_l3Entries_R)) : spec_l3Entries_K := ⟨fun x1 x2 x3 x4 x5 => k 3 (mkS [(0, sP 1), (2, sI x1), (3, sI x2), (9, .sc (.hd 2 none)), (10, sI x3)] (sv 1 tL1Cur .R [] x4 ++ [(2, .row tEntry .R 0 x5)]) [sP 1, .und, .und, .und]), fun x1 x2 x3 x4 x5 => k 7 (mkS [(0, sP 1), (2, sI x1), (3, sI x2), (9, .sc (.hd 2 none)), (10, sI x3)] (sv 1 tL1Cur .R [] x4 ++ [(2, .row tEntry .R 0 x5)]) [sP 1, .und, .und, .und])⟩
theorem s_spec_l3Entries : Sound Tryz.prog 66 0 e_spec_l3Entries := fn1 bk (fn := Tryz.f66) (fns := [(27, e_spec_l1Once), (62, e_spec_l1Below), (98, e_spec_l1Text)]) ⟨s_spec_l1Once, s_spec_l1Below, s_spec_l1Text, trivial⟩ (by kernel_rfl) (by kernel_rfl) spec_l3Entries_T spec_l3Entries_O spec_l3Entries_N spec_l3Entries_L (fun k x => spec_l3Entries_s k x.1 x.2.1 x.2.2.1 x.2.2.2.1) (by kernel_rfl) (fun _ => by kernel_rfl) (fun _ => rfl) (fun _ _ => by kernel_rfl) (fun _ => by kernel_rfl)

/-! spec.l3Kept -/
noncomputable def e_spec_l3Kept : Entry := ⟨[.«mut» tL1Cur .R .R], [ro tKept], spec_l3Kept⟩
def spec_l3Kept_T : List (Nat × Tpl) := [(4, ⟨[(0, .ptr 1), (2, .ptr 2), (3, .ptr 4)], tv 1 tL1Cur .R [] ++ tv 2 tKept tKept.own [] ++ tv 4 tKept tKept.own [], [.ptr 1]⟩), (7, ⟨[(0, .ptr 1), (2, .ptr 2), (3, .ptr 4)], tv 1 tL1Cur .R [] ++ tv 2 tKept tKept.own [] ++ tv 4 tKept tKept.own [], [.ptr 1]⟩), (9, ⟨[(2, .ptr 1), (3, .ptr 3), (4, tk)], tv 1 tKept tKept.own [] ++ tv 3 tKept tKept.own [] ++ tv 5 tL1Cur .R [], [.ptr 5]⟩)]
def spec_l3Kept_O (k : Nat → St → Option (spec_l3Kept_R)) : spec_l3Kept_K := ⟨fun x1 x2 x3 => k 4 (mkS [(0, sP 1), (2, sP 2), (3, sP 4)] (sv 1 tL1Cur .R [] x1 ++ sv 2 tKept tKept.own [] x2 ++ sv 4 tKept tKept.own [] x3) [sP 1]), fun x1 x2 x3 => k 7 (mkS [(0, sP 1), (2, sP 2), (3, sP 4)] (sv 1 tL1Cur .R [] x1 ++ sv 2 tKept tKept.own [] x2 ++ sv 4 tKept tKept.own [] x3) [sP 1]), fun x1 x2 x3 x4 => k 9 (mkS [(2, sP 1), (3, sP 3), (4, sI x1)] (sv 1 tKept tKept.own [] x2 ++ sv 3 tKept tKept.own [] x3 ++ sv 5 tL1Cur .R [] x4) [sP 5])⟩
theorem s_spec_l3Kept : Sound Tryz.prog 94 0 e_spec_l3Kept := fn1 bk (fn := Tryz.f94) (fns := [(27, e_spec_l1Once), (62, e_spec_l1Below), (66, e_spec_l3Entries), (98, e_spec_l1Text)]) ⟨s_spec_l1Once, s_spec_l1Below, s_spec_l3Entries, s_spec_l1Text, trivial⟩ (by kernel_rfl) (by kernel_rfl) spec_l3Kept_T spec_l3Kept_O spec_l3Kept_N spec_l3Kept_L (fun k x => spec_l3Kept_s k x.1) (by kernel_rfl) (fun _ => by kernel_rfl) (fun _ => rfl) (fun _ _ => by kernel_rfl) (fun _ => by kernel_rfl)

/-! spec.CoreOf -/
noncomputable def e_spec_CoreOf : Entry := ⟨[vr (.int .i64), vr (.int .i64), vr tKept], [ro tCore, rr .bool], spec_CoreOf⟩
def spec_CoreOf_T : List (Nat × Tpl) := [(2, ⟨[(5, .ptr 1), (6, .ptr 2), (8, .ptr 7)], tv 1 tKept .R [] ++ tv 2 tCore tCore.own [] ++ tv 7 tCore tCore.own [], [.drop, .drop, .drop]⟩)]
def spec_CoreOf_O (k : Nat → St → Option (spec_CoreOf_R)) : spec_CoreOf_K2 := fun x1 x2 x3 => k 2 (mkS [(5, sP 1), (6, sP 2), (8, sP 7)] (sv 1 tKept .R [] x1 ++ sv 2 tCore tCore.own [] x2 ++ sv 7 tCore tCore.own [] x3) [.und, .und, .und])
theorem s_spec_CoreOf : Sound Tryz.prog 95 0 e_spec_CoreOf := fn1 bk (fn := Tryz.f95) (fns := [(8, e_spec_CoreOk), (34, e_spec_KeptOk)]) ⟨s_spec_CoreOk, s_spec_KeptOk, trivial⟩ (by kernel_rfl) (by kernel_rfl) spec_CoreOf_T spec_CoreOf_O spec_CoreOf_b2 spec_CoreOf_L2 (fun k x => spec_CoreOf_s k x.1 x.2.1 x.2.2.1) (by kernel_rfl) (fun _ => by kernel_rfl) (fun _ => rfl) (fun _ _ => by kernel_rfl) (fun _ => by kernel_rfl)

/-! spec.l12Server -/
noncomputable def e_spec_l12Server : Entry := ⟨[vr (.int .i64)], [rr .bool], spec_l12Server⟩
theorem s_spec_l12Server : Sound Tryz.prog 38 0 e_spec_l12Server := fn0 bk (fn := Tryz.f38) (fns := [(33, e_spec_l1In)]) ⟨s_spec_l1In, trivial⟩ (by kernel_rfl) (by kernel_rfl) fun _ => by kernel_rfl

/-! spec.l12Run -/
noncomputable def e_spec_l12Run : Entry := ⟨[vr (.sl tEntry), vr (.int .i64), vr (.int .i64)], [rr .bool], spec_l12Run⟩
def spec_l12Run_T : List (Nat × Tpl) := [(4, ⟨[(0, .cell (.lst tEntry [])), (1, tk), (2, tk), (7, tk)], [], [.drop, .drop, .drop]⟩)]
def spec_l12Run_O (k : Nat → St → Option (Bool × Unit)) : spec_l12Run_K4 := fun x1 x2 x3 x4 => k 4 (mkS [(0, sL tEntry x1), (1, sI x2), (2, sI x3), (7, sI x4)] [] [.und, .und, .und])
theorem s_spec_l12Run : Sound Tryz.prog 40 0 e_spec_l12Run := fn1 bk (fn := Tryz.f40) (fns := [(33, e_spec_l1In)]) ⟨s_spec_l1In, trivial⟩ (by kernel_rfl) (by kernel_rfl) spec_l12Run_T spec_l12Run_O spec_l12Run_b4 spec_l12Run_L4 (fun k x => spec_l12Run_s k x.1 x.2.1 x.2.2.1) (by kernel_rfl) (fun _ => by kernel_rfl) (fun _ => rfl) (fun _ _ => by kernel_rfl) (fun _ => by kernel_rfl)

/-! spec.l12SameEntries -/
noncomputable def e_spec_l12SameEntries : Entry := ⟨[vr (.sl tEntry), vr (.sl tEntry)], [rr .bool], spec_l12SameEntries⟩
def spec_l12SameEntries_T : List (Nat × Tpl) := [(4, ⟨[(0, .cell (.lst tEntry [])), (1, .cell (.lst tEntry [])), (5, tk)], [], [.drop, .drop]⟩)]
def spec_l12SameEntries_O (k : Nat → St → Option (Bool × Unit)) : spec_l12SameEntries_K4 := fun x1 x2 x3 => k 4 (mkS [(0, sL tEntry x1), (1, sL tEntry x2), (5, sI x3)] [] [.und, .und])
theorem s_spec_l12SameEntries : Sound Tryz.prog 82 0 e_spec_l12SameEntries := fn1 bk (fn := Tryz.f82) (fns := []) trivial (by kernel_rfl) (by kernel_rfl) spec_l12SameEntries_T spec_l12SameEntries_O spec_l12SameEntries_b4 spec_l12SameEntries_L4 (fun k x => spec_l12SameEntries_s k x.1 x.2.1) (by kernel_rfl) (fun _ => by kernel_rfl) (fun _ => rfl) (fun _ _ => by kernel_rfl) (fun _ => by kernel_rfl)

/-! spec.l12Same -/
noncomputable def e_spec_l12Same : Entry := ⟨[vr tMsg, vr tMsg], [rr .bool], spec_l12Same⟩
theorem s_spec_l12Same : Sound Tryz.prog 41 0 e_spec_l12Same := fn0 bk (fn := Tryz.f41) (fns := [(82, e_spec_l12SameEntries)]) ⟨s_spec_l12SameEntries, trivial⟩ (by kernel_rfl) (by kernel_rfl) fun _ => by kernel_rfl

/-! spec.MsgOk -/
noncomputable def e_spec_MsgOk : Entry := ⟨[vr tMsg], [rr .bool], spec_MsgOk⟩
def spec_MsgOk_T : List (Nat × Tpl) := [(3, ⟨[(1, .ptr 1), (3, .ptr 2), (4, tk)], tv 1 tMsg .R [] ++ tv 2 tMsg tMsg.own [], [.drop]⟩), (6, ⟨[(1, .ptr 1), (3, .ptr 2), (4, tk), (5, tk)], tv 1 tMsg .R [] ++ tv 2 tMsg tMsg.own [], [.drop]⟩)]
def spec_MsgOk_O (k : Nat → St → Option (Bool × Unit)) : spec_MsgOk_K := ⟨fun x1 x2 x3 => k 3 (mkS [(1, sP 1), (3, sP 2), (4, sB x1)] (sv 1 tMsg .R [] x2 ++ sv 2 tMsg tMsg.own [] x3) [.und]), fun x1 x2 x3 x4 => k 6 (mkS [(1, sP 1), (3, sP 2), (4, sB x1), (5, sB x2)] (sv 1 tMsg .R [] x3 ++ sv 2 tMsg tMsg.own [] x4) [.und])⟩
theorem s_spec_MsgOk : Sound Tryz.prog 9 0 e_spec_MsgOk := fn1 bk (fn := Tryz.f9) (fns := [(33, e_spec_l1In), (38, e_spec_l12Server), (39, e_spec_l3Place), (40, e_spec_l12Run), (41, e_spec_l12Same)]) ⟨s_spec_l1In, s_spec_l12Server, s_spec_l3Place, s_spec_l12Run, s_spec_l12Same, trivial⟩ (by kernel_rfl) (by kernel_rfl) spec_MsgOk_T spec_MsgOk_O spec_MsgOk_N spec_MsgOk_L (fun k x => spec_MsgOk_s k x.1) (by kernel_rfl) (fun _ => by kernel_rfl) (fun _ => rfl) (fun _ _ => by kernel_rfl) (fun _ => by kernel_rfl)

/-! spec.l13Down -/
noncomputable def e_spec_l13Down : Entry := ⟨[vo tCore, vr (.int .i64)], [ro tCore], spec_l13Down⟩
theorem s_spec_l13Down : Sound Tryz.prog 46 0 e_spec_l13Down := fn0 bk (fn := Tryz.f46) (fns := []) trivial (by kernel_rfl) (by kernel_rfl) fun _ => by kernel_rfl

/-! spec.l13TermAt -/
noncomputable def e_spec_l13TermAt : Entry := ⟨[vr tCore, vr (.int .i64)], [rr (.int .i64)], spec_l13TermAt⟩
theorem s_spec_l13TermAt : Sound Tryz.prog 65 0 e_spec_l13TermAt := fn0 bk (fn := Tryz.f65) (fns := []) trivial (by kernel_rfl) (by kernel_rfl) fun _ => by kernel_rfl

/-! spec.l13Vote -/
noncomputable def e_spec_l13Vote : Entry := ⟨[vo tCore, vr tMsg], [ro tCore, ro (.sl tMsg)], spec_l13Vote⟩
def spec_l13Vote_T : List (Nat × Tpl) := [(4, ⟨[(2, .ptr 1), (3, .ptr 6), (4, .ptr 7), (8, tk)], tv 1 tCore tCore.own [] ++ tv 6 tMsg .R [] ++ tv 7 tCore tCore.own [], [.drop, .drop]⟩), (6, ⟨[(2, .ptr 1), (3, .ptr 6), (4, .ptr 7), (8, tk)], tv 1 tCore tCore.own [] ++ tv 6 tMsg .R [] ++ tv 7 tCore tCore.own [], [.drop, .drop]⟩)]
def spec_l13Vote_O (k : Nat → St → Option (spec_l13Vote_R)) : spec_l13Vote_K := ⟨fun x1 x2 x3 x4 => k 4 (mkS [(2, sP 1), (3, sP 6), (4, sP 7), (8, sB x1)] (sv 1 tCore tCore.own [] x2 ++ sv 6 tMsg .R [] x3 ++ sv 7 tCore tCore.own [] x4) [.und, .und]), fun x1 x2 x3 x4 => k 6 (mkS [(2, sP 1), (3, sP 6), (4, sP 7), (8, sB x1)] (sv 1 tCore tCore.own [] x2 ++ sv 6 tMsg .R [] x3 ++ sv 7 tCore tCore.own [] x4) [.und, .und])⟩
theorem s_spec_l13Vote : Sound Tryz.prog 47 0 e_spec_l13Vote := fn1 bk (fn := Tryz.f47) (fns := [(36, e_spec_l13Last), (65, e_spec_l13TermAt)]) ⟨s_spec_l13Last, s_spec_l13TermAt, trivial⟩ (by kernel_rfl) (by kernel_rfl) spec_l13Vote_T spec_l13Vote_O spec_l13Vote_N spec_l13Vote_L (fun k x => spec_l13Vote_s k x.1 x.2.1) (by kernel_rfl) (fun _ => by kernel_rfl) (fun _ => rfl) (fun _ _ => by kernel_rfl) (fun _ => by kernel_rfl)

/-! spec.l13Count -/
noncomputable def e_spec_l13Count : Entry := ⟨[vo tCore], [ro tCore], spec_l13Count⟩
def spec_l13Count_T : List (Nat × Tpl) := [(2, ⟨[(1, .ptr 1), (2, .ptr 6), (3, tk)], tv 1 tCore tCore.own [] ++ tv 6 tCore tCore.own [], [.drop]⟩), (6, ⟨[(1, .ptr 1), (2, .ptr 6), (3, tk), (4, tk), (5, tk)], tv 1 tCore tCore.own [] ++ tv 6 tCore tCore.own [], [.drop]⟩)]
def spec_l13Count_O (k : Nat → St → Option (tCore.D × Unit)) : spec_l13Count_K := ⟨fun x1 x2 x3 => k 2 (mkS [(1, sP 1), (2, sP 6), (3, sI x1)] (sv 1 tCore tCore.own [] x2 ++ sv 6 tCore tCore.own [] x3) [.und]), fun x1 x2 x3 x4 x5 => k 6 (mkS [(1, sP 1), (2, sP 6), (3, sI x1), (4, sI x2), (5, sI x3)] (sv 1 tCore tCore.own [] x4 ++ sv 6 tCore tCore.own [] x5) [.und])⟩
theorem s_spec_l13Count : Sound Tryz.prog 90 0 e_spec_l13Count := fn1 bk (fn := Tryz.f90) (fns := [(36, e_spec_l13Last), (65, e_spec_l13TermAt)]) ⟨s_spec_l13Last, s_spec_l13TermAt, trivial⟩ (by kernel_rfl) (by kernel_rfl) spec_l13Count_T spec_l13Count_O spec_l13Count_N spec_l13Count_L (fun k x => spec_l13Count_s k x.1) (by kernel_rfl) (fun _ => by kernel_rfl) (fun _ => rfl) (fun _ _ => by kernel_rfl) (fun _ => by kernel_rfl)

/-! spec.l13Put -/
noncomputable def e_spec_l13Put : Entry := ⟨[vo tCore, vr .str], [ro tCore], spec_l13Put⟩
def spec_l13Put_T : List (Nat × Tpl) := [(3, ⟨[(2, .ptr 1), (4, .ptr 6)], tv 1 tCore tCore.own [] ++ tv 6 tCore tCore.own [], [.drop, .drop]⟩)]
def spec_l13Put_O (k : Nat → St → Option (tCore.D × Unit)) : spec_l13Put_K3 := fun x1 x2 => k 3 (mkS [(2, sP 1), (4, sP 6)] (sv 1 tCore tCore.own [] x1 ++ sv 6 tCore tCore.own [] x2) [.und, .und])
theorem s_spec_l13Put : Sound Tryz.prog 110 0 e_spec_l13Put := fn1 bk (fn := Tryz.f110) (fns := [(36, e_spec_l13Last), (90, e_spec_l13Count)]) ⟨s_spec_l13Last, s_spec_l13Count, trivial⟩ (by kernel_rfl) (by kernel_rfl) spec_l13Put_T spec_l13Put_O spec_l13Put_b3 spec_l13Put_L3 (fun k x => spec_l13Put_s k x.1 x.2.1) (by kernel_rfl) (fun _ => by kernel_rfl) (fun _ => rfl) (fun _ _ => by kernel_rfl) (fun _ => by kernel_rfl)

/-! spec.l13To -/
noncomputable def e_spec_l13To : Entry := ⟨[vr tCore, vr (.int .i64)], [ro tMsg], spec_l13To⟩
def spec_l13To_T : List (Nat × Tpl) := [(6, ⟨[(2, .ptr 1), (4, .ptr 2), (5, tk), (6, .ptr 4), (7, tk)], tv 1 tCore .R [] ++ tv 2 tMsg tMsg.own [] ++ tv 4 tMsg tMsg.own [], [.drop, .drop]⟩)]
def spec_l13To_O (k : Nat → St → Option (tMsg.D × Unit)) : spec_l13To_K6 := fun x1 x2 x3 x4 x5 => k 6 (mkS [(2, sP 1), (4, sP 2), (5, sI x1), (6, sP 4), (7, sI x2)] (sv 1 tCore .R [] x3 ++ sv 2 tMsg tMsg.own [] x4 ++ sv 4 tMsg tMsg.own [] x5) [.und, .und])
theorem s_spec_l13To : Sound Tryz.prog 91 0 e_spec_l13To := fn1 bk (fn := Tryz.f91) (fns := [(36, e_spec_l13Last), (65, e_spec_l13TermAt)]) ⟨s_spec_l13Last, s_spec_l13TermAt, trivial⟩ (by kernel_rfl) (by kernel_rfl) spec_l13To_T spec_l13To_O spec_l13To_b6 spec_l13To_L6 (fun k x => spec_l13To_s k x.1 x.2.1) (by kernel_rfl) (fun _ => by kernel_rfl) (fun _ => rfl) (fun _ _ => by kernel_rfl) (fun _ => by kernel_rfl)

/-! spec.l13ToAll -/
noncomputable def e_spec_l13ToAll : Entry := ⟨[vr tCore], [ro (.sl tMsg)], spec_l13ToAll⟩
def spec_l13ToAll_T : List (Nat × Tpl) := [(3, ⟨[(1, .ptr 1), (3, .cell (.hd 2)), (4, tk)], tv 1 tCore .R [] ++ [(2, .row tMsg (.S (.cons .R (.cons .R (.cons .R (.cons .R (.cons .R (.cons .R (.cons .R (.cons .R (.cons (.O .R) (.cons .R .nil))))))))))))], [.drop]⟩)]
def spec_l13ToAll_O (k : Nat → St → Option ((List tMsg.D) × Unit)) : spec_l13ToAll_K3 := fun x1 x2 x3 => k 3 (mkS [(1, sP 1), (3, .sc (.hd 2 none)), (4, sI x1)] (sv 1 tCore .R [] x2 ++ [(2, .row tMsg (.S (.cons .R (.cons .R (.cons .R (.cons .R (.cons .R (.cons .R (.cons .R (.cons .R (.cons (.O .R) (.cons .R .nil))))))))))) 0 x3)]) [.und])
theorem s_spec_l13ToAll : Sound Tryz.prog 111 0 e_spec_l13ToAll := fn1 bk (fn := Tryz.f111) (fns := [(91, e_spec_l13To)]) ⟨s_spec_l13To, trivial⟩ (by kernel_rfl) (by kernel_rfl) spec_l13ToAll_T spec_l13ToAll_O spec_l13ToAll_b3 spec_l13ToAll_L3 (fun k x => spec_l13ToAll_s k x.1) (by kernel_rfl) (fun _ => by kernel_rfl) (fun _ => rfl) (fun _ _ => by kernel_rfl) (fun _ => by kernel_rfl)

/-! spec.l13Lead -/
noncomputable def e_spec_l13Lead : Entry := ⟨[vo tCore], [ro tCore, ro (.sl tMsg)], spec_l13Lead⟩
def spec_l13Lead_T : List (Nat × Tpl) := [(7, ⟨[(1, .ptr 1), (2, .ptr 6), (4, tk)], tv 1 tCore tCore.own [] ++ tv 6 tCore tCore.own [], [.drop]⟩)]
def spec_l13Lead_O (k : Nat → St → Option (spec_l13Lead_R)) : spec_l13Lead_K7 := fun x1 x2 x3 => k 7 (mkS [(1, sP 1), (2, sP 6), (4, sI x1)] (sv 1 tCore tCore.own [] x2 ++ sv 6 tCore tCore.own [] x3) [.und])
theorem s_spec_l13Lead : Sound Tryz.prog 88 0 e_spec_l13Lead := fn1 bk (fn := Tryz.f88) (fns := [(36, e_spec_l13Last), (110, e_spec_l13Put), (111, e_spec_l13ToAll)]) ⟨s_spec_l13Last, s_spec_l13Put, s_spec_l13ToAll, trivial⟩ (by kernel_rfl) (by kernel_rfl) spec_l13Lead_T spec_l13Lead_O spec_l13Lead_b7 spec_l13Lead_L7 (fun k x => spec_l13Lead_s k x.1) (by kernel_rfl) (fun _ => by kernel_rfl) (fun _ => rfl) (fun _ _ => by kernel_rfl) (fun _ => by kernel_rfl)

/-! spec.l13Voted -/
noncomputable def e_spec_l13Voted : Entry := ⟨[vo tCore, vr tMsg], [ro tCore, ro (.sl tMsg)], spec_l13Voted⟩
def spec_l13Voted_T : List (Nat × Tpl) := [(5, ⟨[(2, .ptr 1), (3, .ptr 6), (4, .ptr 7), (6, .cell (.hd 12)), (7, tk)], tv 1 tCore tCore.own [] ++ tv 6 tMsg .R [] ++ tv 7 tCore tCore.own [] ++ [(12, .row (.int .i64) .R)], [.drop, .drop]⟩)]
def spec_l13Voted_O (k : Nat → St → Option (spec_l13Voted_R)) : spec_l13Voted_K5 := fun x1 x2 x3 x4 x5 => k 5 (mkS [(2, sP 1), (3, sP 6), (4, sP 7), (6, .sc (.hd 12 none)), (7, sI x1)] (sv 1 tCore tCore.own [] x2 ++ sv 6 tMsg .R [] x3 ++ sv 7 tCore tCore.own [] x4 ++ [(12, .row (.int .i64) .R 0 x5)]) [.und, .und])
theorem s_spec_l13Voted : Sound Tryz.prog 48 0 e_spec_l13Voted := fn1 bk (fn := Tryz.f48) (fns := [(37, e_spec_l13In), (88, e_spec_l13Lead)]) ⟨s_spec_l13In, s_spec_l13Lead, trivial⟩ (by kernel_rfl) (by kernel_rfl) spec_l13Voted_T spec_l13Voted_O spec_l13Voted_b5 spec_l13Voted_L5 (fun k x => spec_l13Voted_s k x.1 x.2.1) (by kernel_rfl) (fun _ => by kernel_rfl) (fun _ => rfl) (fun _ _ => by kernel_rfl) (fun _ => by kernel_rfl)

/-! spec.l13Told -/
noncomputable def e_spec_l13Told : Entry := ⟨[vr tCore, vr (.int .i64), vr .bool, vr (.int .i64)], [ro (.sl tMsg)], spec_l13Told⟩
theorem s_spec_l13Told : Sound Tryz.prog 89 0 e_spec_l13Told := fn0 bk (fn := Tryz.f89) (fns := []) trivial (by kernel_rfl) (by kernel_rfl) fun _ => by kernel_rfl

/-! spec.l13App -/
noncomputable def e_spec_l13App : Entry := ⟨[vo tCore, vr tMsg], [ro tCore, ro (.sl tMsg)], spec_l13App⟩
def spec_l13App_T : List (Nat × Tpl) := [(11, ⟨[(2, .ptr 1), (3, .ptr 6), (4, .ptr 7), (6, .cell (.lst tEntry [])), (8, tk)], tv 1 tCore tCore.own [] ++ tv 6 tMsg .R [] ++ tv 7 tCore tCore.own [], [.drop, .drop]⟩), (13, ⟨[(2, .ptr 1), (3, .ptr 6), (4, .ptr 7), (6, .cell (.lst tEntry [])), (7, tk)], tv 1 tCore tCore.own [] ++ tv 6 tMsg .R [] ++ tv 7 tCore tCore.own [], [.drop, .drop]⟩), (15, ⟨[(2, .ptr 1), (3, .ptr 6), (4, .ptr 7), (6, .cell (.lst tEntry [])), (7, tk)], tv 1 tCore tCore.own [] ++ tv 6 tMsg .R [] ++ tv 7 tCore tCore.own [], [.drop, .drop]⟩), (19, ⟨[(2, .ptr 1), (3, .ptr 6), (4, .ptr 7), (7, tk), (9, tk)], tv 1 tCore tCore.own [] ++ tv 6 tMsg .R [] ++ tv 7 tCore tCore.own [], [.drop, .drop]⟩), (24, ⟨[(2, .ptr 1), (3, .ptr 6), (4, .ptr 7), (6, .cell (.lst tEntry [])), (7, tk), (10, tk), (11, tk)], tv 1 tCore tCore.own [] ++ tv 6 tMsg .R [] ++ tv 7 tCore tCore.own [], [.drop, .drop]⟩), (29, ⟨[(2, .ptr 1), (3, .ptr 6), (4, .ptr 7), (6, .cell (.lst tEntry [])), (7, tk), (10, tk), (11, tk), (12, tk)], tv 1 tCore tCore.own [] ++ tv 6 tMsg .R [] ++ tv 7 tCore tCore.own [], [.drop, .drop]⟩), (33, ⟨[(2, .ptr 1), (3, .ptr 6), (4, .ptr 7), (6, .cell (.lst tEntry [])), (7, tk), (10, tk), (11, tk), (12, tk)], [(1, .var [.keep, .keep, .keep, .keep, .keep, .keep, .keep, .keep, .hp 2, .keep, .hd 3, .hd 4, .hd 5]), (2, .row tEntry .R), (3, .row (.int .i64) .R), (4, .row (.int .i64) .R), (5, .row (.int .i64) .R)] ++ tv 6 tMsg .R [] ++ tv 7 tCore tCore.own [], [.drop, .drop]⟩)]
def spec_l13App_O (k : Nat → St → Option (spec_l13App_R)) : spec_l13App_K := ⟨fun x1 x2 x3 x4 x5 => k 11 (mkS [(2, sP 1), (3, sP 6), (4, sP 7), (6, sL tEntry x1), (8, sI x2)] (sv 1 tCore tCore.own [] x3 ++ sv 6 tMsg .R [] x4 ++ sv 7 tCore tCore.own [] x5) [.und, .und]), fun x1 x2 x3 x4 x5 => k 13 (mkS [(2, sP 1), (3, sP 6), (4, sP 7), (6, sL tEntry x1), (7, sI x2)] (sv 1 tCore tCore.own [] x3 ++ sv 6 tMsg .R [] x4 ++ sv 7 tCore tCore.own [] x5) [.und, .und]), fun x1 x2 x3 x4 x5 => k 15 (mkS [(2, sP 1), (3, sP 6), (4, sP 7), (6, sL tEntry x1), (7, sI x2)] (sv 1 tCore tCore.own [] x3 ++ sv 6 tMsg .R [] x4 ++ sv 7 tCore tCore.own [] x5) [.und, .und]), fun x1 x2 x3 x4 x5 => k 19 (mkS [(2, sP 1), (3, sP 6), (4, sP 7), (7, sI x1), (9, sI x2)] (sv 1 tCore tCore.own [] x3 ++ sv 6 tMsg .R [] x4 ++ sv 7 tCore tCore.own [] x5) [.und, .und]), fun x1 x2 x3 x4 x5 x6 x7 => k 24 (mkS [(2, sP 1), (3, sP 6), (4, sP 7), (6, sL tEntry x1), (7, sI x2), (10, sI x3), (11, sI x4)] (sv 1 tCore tCore.own [] x5 ++ sv 6 tMsg .R [] x6 ++ sv 7 tCore tCore.own [] x7) [.und, .und]), fun x1 x2 x3 x4 x5 x6 x7 x8 => k 29 (mkS [(2, sP 1), (3, sP 6), (4, sP 7), (6, sL tEntry x1), (7, sI x2), (10, sI x3), (11, sI x4), (12, sI x5)] (sv 1 tCore tCore.own [] x6 ++ sv 6 tMsg .R [] x7 ++ sv 7 tCore tCore.own [] x8) [.und, .und]), fun x1 x2 x3 x4 x5 x6 x7 x8 x9 x10 x11 => k 33 (mkS [(2, sP 1), (3, sP 6), (4, sP 7), (6, sL tEntry x1), (7, sI x2), (10, sI x3), (11, sI x4), (12, sI x5)] ([(1, .var 0 [.int .i64 x6.1, .int .i64 x6.2.1, .int .i64 x6.2.2.1, .int .i64 x6.2.2.2.1, .int .i64 x6.2.2.2.2.1, .int .i64 x6.2.2.2.2.2.1, .int .i64 x6.2.2.2.2.2.2.1, .int .i64 x6.2.2.2.2.2.2.2.1, .hd 2 (some (x7, x8)), .int .i64 x6.2.2.2.2.2.2.2.2.2.1, .hd 3 none, .hd 4 none, .hd 5 none]), (2, .row tEntry .R 0 x9), (3, .row (.int .i64) .R 0 x6.2.2.2.2.2.2.2.2.2.2.1), (4, .row (.int .i64) .R 0 x6.2.2.2.2.2.2.2.2.2.2.2.1), (5, .row (.int .i64) .R 0 x6.2.2.2.2.2.2.2.2.2.2.2.2.1)] ++ sv 6 tMsg .R [] x10 ++ sv 7 tCore tCore.own [] x11) [.und, .und])⟩
theorem s_spec_l13App : Sound Tryz.prog 49 0 e_spec_l13App := fn1 bk (fn := Tryz.f49) (fns := [(36, e_spec_l13Last), (46, e_spec_l13Down), (65, e_spec_l13TermAt), (89, e_spec_l13Told)]) ⟨s_spec_l13Last, s_spec_l13Down, s_spec_l13TermAt, s_spec_l13Told, trivial⟩ (by kernel_rfl) (by kernel_rfl) spec_l13App_T spec_l13App_O spec_l13App_N spec_l13App_L (fun k x => spec_l13App_s k x.1 x.2.1) (by kernel_rfl) (fun _ => by kernel_rfl) (fun _ => rfl) (fun _ _ => by kernel_rfl) (fun _ => by kernel_rfl)

/-! spec.l13Apped -/
noncomputable def e_spec_l13Apped : Entry := ⟨[vo tCore, vr tMsg], [ro tCore, ro (.sl tMsg)], spec_l13Apped⟩
def spec_l13Apped_T : List (Nat × Tpl) := [(8, ⟨[(2, .ptr 1), (4, .ptr 6), (6, tk), (7, tk)], tv 1 tCore tCore.own [] ++ tv 6 tCore tCore.own [], [.drop, .drop]⟩), (19, ⟨[(2, .ptr 1), (4, .ptr 6), (6, tk), (8, tk)], tv 1 tCore tCore.own [] ++ tv 6 tCore tCore.own [], [.drop, .drop]⟩), (21, ⟨[(2, .ptr 1), (4, .ptr 6), (6, tk), (8, tk)], tv 1 tCore tCore.own [] ++ tv 6 tCore tCore.own [], [.drop, .drop]⟩)]
def spec_l13Apped_O (k : Nat → St → Option (spec_l13Apped_R)) : spec_l13Apped_K := ⟨fun x1 x2 x3 x4 => k 8 (mkS [(2, sP 1), (4, sP 6), (6, sI x1), (7, sI x2)] (sv 1 tCore tCore.own [] x3 ++ sv 6 tCore tCore.own [] x4) [.und, .und]), fun x1 x2 x3 x4 => k 19 (mkS [(2, sP 1), (4, sP 6), (6, sI x1), (8, sI x2)] (sv 1 tCore tCore.own [] x3 ++ sv 6 tCore tCore.own [] x4) [.und, .und]), fun x1 x2 x3 x4 => k 21 (mkS [(2, sP 1), (4, sP 6), (6, sI x1), (8, sI x2)] (sv 1 tCore tCore.own [] x3 ++ sv 6 tCore tCore.own [] x4) [.und, .und])⟩
theorem s_spec_l13Apped : Sound Tryz.prog 50 0 e_spec_l13Apped := fn1 bk (fn := Tryz.f50) (fns := [(36, e_spec_l13Last), (90, e_spec_l13Count), (91, e_spec_l13To)]) ⟨s_spec_l13Last, s_spec_l13Count, s_spec_l13To, trivial⟩ (by kernel_rfl) (by kernel_rfl) spec_l13Apped_T spec_l13Apped_O spec_l13Apped_N spec_l13Apped_L (fun k x => spec_l13Apped_s k x.1 x.2.1) (by kernel_rfl) (fun _ => by kernel_rfl) (fun _ => rfl) (fun _ _ => by kernel_rfl) (fun _ => by kernel_rfl)

/-! spec.l13Snap -/
noncomputable def e_spec_l13Snap : Entry := ⟨[vo tCore, vr tMsg], [ro tCore, ro (.sl tMsg)], spec_l13Snap⟩
theorem s_spec_l13Snap : Sound Tryz.prog 51 0 e_spec_l13Snap := fn0 bk (fn := Tryz.f51) (fns := [(36, e_spec_l13Last), (46, e_spec_l13Down), (65, e_spec_l13TermAt), (89, e_spec_l13Told)]) ⟨s_spec_l13Last, s_spec_l13Down, s_spec_l13TermAt, s_spec_l13Told, trivial⟩ (by kernel_rfl) (by kernel_rfl) fun _ => by kernel_rfl

/-! spec.Hear -/
noncomputable def e_spec_Hear : Entry := ⟨[vr tCore, vr tMsg], [ro tCore, ro (.sl tMsg)], spec_Hear⟩
def spec_Hear_T : List (Nat × Tpl) := [(12, ⟨[(2, .ptr 1), (3, .ptr 6), (4, .ptr 7)], tv 1 tCore tCore.own [] ++ tv 6 tMsg .R [] ++ tv 7 tCore tCore.own [], [.drop, .drop]⟩), (16, ⟨[(2, .ptr 1), (3, .ptr 6), (4, .ptr 7)], tv 1 tCore tCore.own [] ++ tv 6 tMsg .R [] ++ tv 7 tCore tCore.own [], [.drop, .drop]⟩)]
def spec_Hear_O (k : Nat → St → Option (spec_Hear_R)) : spec_Hear_K := ⟨fun x1 x2 x3 => k 12 (mkS [(2, sP 1), (3, sP 6), (4, sP 7)] (sv 1 tCore tCore.own [] x1 ++ sv 6 tMsg .R [] x2 ++ sv 7 tCore tCore.own [] x3) [.und, .und]), fun x1 x2 x3 => k 16 (mkS [(2, sP 1), (3, sP 6), (4, sP 7)] (sv 1 tCore tCore.own [] x1 ++ sv 6 tMsg .R [] x2 ++ sv 7 tCore tCore.own [] x3) [.und, .und])⟩
theorem s_spec_Hear : Sound Tryz.prog 13 0 e_spec_Hear := fn1 bk (fn := Tryz.f13) (fns := [(8, e_spec_CoreOk), (9, e_spec_MsgOk), (45, e_spec_l13Copy), (46, e_spec_l13Down), (47, e_spec_l13Vote), (48, e_spec_l13Voted), (49, e_spec_l13App), (50, e_spec_l13Apped), (51, e_spec_l13Snap)]) ⟨s_spec_CoreOk, s_spec_MsgOk, s_spec_l13Copy, s_spec_l13Down, s_spec_l13Vote, s_spec_l13Voted, s_spec_l13App, s_spec_l13Apped, s_spec_l13Snap, trivial⟩ (by kernel_rfl) (by kernel_rfl) spec_Hear_T spec_Hear_O spec_Hear_N spec_Hear_L (fun k x => spec_Hear_s k x.1 x.2.1) (by kernel_rfl) (fun _ => by kernel_rfl) (fun _ => rfl) (fun _ _ => by kernel_rfl) (fun _ => by kernel_rfl)

/-! spec.l12Msg -/
noncomputable def e_spec_l12Msg : Entry := ⟨[.«mut» tL1Cur .R .R, vr (.int .i64), vr (.int .i64), vr (.int .i64)], [ro tMsg], spec_l12Msg⟩
def spec_l12Msg_T : List (Nat × Tpl) := [(4, ⟨[(0, .ptr 1), (3, tk), (8, .ptr 2), (9, .ptr 4)], tv 1 tL1Cur .R [] ++ tv 2 tMsg tMsg.own [] ++ tv 4 tMsg tMsg.own [], [.ptr 1, .drop, .drop, .drop]⟩), (8, ⟨[(0, .ptr 1), (3, tk), (8, .ptr 2), (9, .ptr 4), (10, tk), (11, tk)], tv 1 tL1Cur .R [] ++ tv 2 tMsg tMsg.own [] ++ tv 4 tMsg tMsg.own [], [.ptr 1, .drop, .drop, .drop]⟩)]
def spec_l12Msg_O (k : Nat → St → Option (spec_l12Msg_R)) : spec_l12Msg_K := ⟨fun x1 x2 x3 x4 => k 4 (mkS [(0, sP 1), (3, sI x1), (8, sP 2), (9, sP 4)] (sv 1 tL1Cur .R [] x2 ++ sv 2 tMsg tMsg.own [] x3 ++ sv 4 tMsg tMsg.own [] x4) [sP 1, .und, .und, .und]), fun x1 x2 x3 x4 x5 x6 => k 8 (mkS [(0, sP 1), (3, sI x1), (8, sP 2), (9, sP 4), (10, sI x2), (11, sI x3)] (sv 1 tL1Cur .R [] x4 ++ sv 2 tMsg tMsg.own [] x5 ++ sv 4 tMsg tMsg.own [] x6) [sP 1, .und, .und, .und])⟩
theorem s_spec_l12Msg : Sound Tryz.prog 64 0 e_spec_l12Msg := fn1 bk (fn := Tryz.f64) (fns := [(27, e_spec_l1Once), (62, e_spec_l1Below), (66, e_spec_l3Entries), (98, e_spec_l1Text)]) ⟨s_spec_l1Once, s_spec_l1Below, s_spec_l3Entries, s_spec_l1Text, trivial⟩ (by kernel_rfl) (by kernel_rfl) spec_l12Msg_T spec_l12Msg_O spec_l12Msg_N spec_l12Msg_L (fun k x => spec_l12Msg_s k x.1 x.2.1 x.2.2.1 x.2.2.2.1) (by kernel_rfl) (fun _ => by kernel_rfl) (fun _ => rfl) (fun _ _ => by kernel_rfl) (fun _ => by kernel_rfl)

/-! spec.l13Msg -/
noncomputable def e_spec_l13Msg : Entry := ⟨[.«mut» tL1Cur .R .R, vw tCore], [ro tMsg], spec_l13Msg⟩
theorem s_spec_l13Msg : Sound Tryz.prog 29 0 e_spec_l13Msg := fn0 bk (fn := Tryz.f29) (fns := [(27, e_spec_l1Once), (36, e_spec_l13Last), (62, e_spec_l1Below), (64, e_spec_l12Msg), (65, e_spec_l13TermAt), (66, e_spec_l3Entries)]) ⟨s_spec_l1Once, s_spec_l13Last, s_spec_l1Below, s_spec_l12Msg, s_spec_l13TermAt, s_spec_l3Entries, trivial⟩ (by kernel_rfl) (by kernel_rfl) fun _ => by kernel_rfl

/-! spec.Elect -/
noncomputable def e_spec_Elect : Entry := ⟨[vr tCore], [ro tCore, ro (.sl tMsg)], spec_Elect⟩
def spec_Elect_T : List (Nat × Tpl) := [(16, ⟨[(1, .ptr 1), (2, .ptr 6), (4, .cell (.hd 11)), (7, tk)], tv 1 tCore tCore.own [] ++ tv 6 tCore tCore.own [] ++ [(11, .row tMsg (.S (.cons .R (.cons .R (.cons .R (.cons .R (.cons .R (.cons .R (.cons .R (.cons .R (.cons (.O .R) (.cons .R .nil))))))))))))], [.drop]⟩)]
def spec_Elect_O (k : Nat → St → Option (spec_Elect_R)) : spec_Elect_K16 := fun x1 x2 x3 x4 => k 16 (mkS [(1, sP 1), (2, sP 6), (4, .sc (.hd 11 none)), (7, sI x1)] (sv 1 tCore tCore.own [] x2 ++ sv 6 tCore tCore.own [] x3 ++ [(11, .row tMsg (.S (.cons .R (.cons .R (.cons .R (.cons .R (.cons .R (.cons .R (.cons .R (.cons .R (.cons (.O .R) (.cons .R .nil))))))))))) 0 x4)]) [.und])
theorem s_spec_Elect : Sound Tryz.prog 112 0 e_spec_Elect := fn1 bk (fn := Tryz.f112) (fns := [(8, e_spec_CoreOk), (36, e_spec_l13Last), (45, e_spec_l13Copy), (65, e_spec_l13TermAt), (88, e_spec_l13Lead)]) ⟨s_spec_CoreOk, s_spec_l13Last, s_spec_l13Copy, s_spec_l13TermAt, s_spec_l13Lead, trivial⟩ (by kernel_rfl) (by kernel_rfl) spec_Elect_T spec_Elect_O spec_Elect_b16 spec_Elect_L16 (fun k x => spec_Elect_s k x.1) (by kernel_rfl) (fun _ => by kernel_rfl) (fun _ => rfl) (fun _ _ => by kernel_rfl) (fun _ => by kernel_rfl)

/-! spec.Propose -/
noncomputable def e_spec_Propose : Entry := ⟨[vr tCore, vr .str], [ro tCore, ro (.sl tMsg), rr (.int .i64)], spec_Propose⟩
theorem s_spec_Propose : Sound Tryz.prog 113 0 e_spec_Propose := fn0 bk (fn := Tryz.f113) (fns := [(8, e_spec_CoreOk), (36, e_spec_l13Last), (45, e_spec_l13Copy), (110, e_spec_l13Put), (111, e_spec_l13ToAll)]) ⟨s_spec_CoreOk, s_spec_l13Last, s_spec_l13Copy, s_spec_l13Put, s_spec_l13ToAll, trivial⟩ (by kernel_rfl) (by kernel_rfl) fun _ => by kernel_rfl

/-! spec.Compact -/
noncomputable def e_spec_Compact : Entry := ⟨[vr tCore, vr (.int .i64)], [ro tCore, rr .bool], spec_Compact⟩
theorem s_spec_Compact : Sound Tryz.prog 114 0 e_spec_Compact := fn0 bk (fn := Tryz.f114) (fns := [(8, e_spec_CoreOk), (45, e_spec_l13Copy), (65, e_spec_l13TermAt)]) ⟨s_spec_CoreOk, s_spec_l13Copy, s_spec_l13TermAt, trivial⟩ (by kernel_rfl) (by kernel_rfl) fun _ => by kernel_rfl

/-! spec.l13Play -/
noncomputable def e_spec_l13Play : Entry := ⟨[.«mut» tL1Cur .R .R, vo tCore], [ro tCore], spec_l13Play⟩
def spec_l13Play_T : List (Nat × Tpl) := [(6, ⟨[(0, .ptr 1), (3, .ptr 2), (4, .ptr 7), (7, tk)], tv 1 tL1Cur .R [] ++ tv 2 tCore tCore.own [] ++ tv 7 tCore tCore.own [], [.ptr 1, .drop]⟩), (12, ⟨[(3, .ptr 1), (4, .ptr 6), (5, tk)], tv 1 tCore tCore.own [] ++ tv 6 tCore tCore.own [] ++ tv 11 tL1Cur .R [], [.ptr 11, .drop]⟩)]
def spec_l13Play_O (k : Nat → St → Option (spec_l13Play_R)) : spec_l13Play_K := ⟨fun x1 x2 x3 x4 => k 6 (mkS [(0, sP 1), (3, sP 2), (4, sP 7), (7, sI x1)] (sv 1 tL1Cur .R [] x2 ++ sv 2 tCore tCore.own [] x3 ++ sv 7 tCore tCore.own [] x4) [sP 1, .und]), fun x1 x2 x3 x4 => k 12 (mkS [(3, sP 1), (4, sP 6), (5, sI x1)] (sv 1 tCore tCore.own [] x2 ++ sv 6 tCore tCore.own [] x3 ++ sv 11 tL1Cur .R [] x4) [sP 11, .und])⟩
theorem s_spec_l13Play : Sound Tryz.prog 96 0 e_spec_l13Play := fn1 bk (fn := Tryz.f96) (fns := [(13, e_spec_Hear), (29, e_spec_l13Msg), (62, e_spec_l1Below), (98, e_spec_l1Text), (112, e_spec_Elect), (113, e_spec_Propose), (114, e_spec_Compact)]) ⟨s_spec_Hear, s_spec_l13Msg, s_spec_l1Below, s_spec_l1Text, s_spec_Elect, s_spec_Propose, s_spec_Compact, trivial⟩ (by kernel_rfl) (by kernel_rfl) spec_l13Play_T spec_l13Play_O spec_l13Play_N spec_l13Play_L (fun k x => spec_l13Play_s k x.1 x.2.1) (by kernel_rfl) (fun _ => by kernel_rfl) (fun _ => rfl) (fun _ _ => by kernel_rfl) (fun _ => by kernel_rfl)

/-! spec.l13Core -/
noncomputable def e_spec_l13Core : Entry := ⟨[.«mut» tL1Cur .R .R, vr (.int .i64)], [ro tCore], spec_l13Core⟩
def spec_l13Core_T : List (Nat × Tpl) := [(5, ⟨[(0, .ptr 1), (1, tk), (4, .ptr 2), (5, .ptr 7), (6, tk)], tv 1 tL1Cur .R [] ++ tv 2 tCore tCore.own [] ++ tv 7 tKept tKept.own [], [.ptr 1, .drop]⟩), (6, ⟨[(0, .ptr 1), (1, tk), (4, .ptr 2), (7, .ptr 7), (8, tk)], tv 1 tL1Cur .R [] ++ tv 2 tCore tCore.own [] ++ tv 7 tCore tCore.own [], [.ptr 1, .drop]⟩), (9, ⟨[(0, .ptr 1), (4, .ptr 2), (7, .ptr 7), (9, tk)], tv 1 tL1Cur .R [] ++ tv 2 tCore tCore.own [] ++ tv 7 tCore tCore.own [], [.ptr 1, .drop]⟩)]
def spec_l13Core_O (k : Nat → St → Option (spec_l13Core_R)) : spec_l13Core_K := ⟨fun x1 x2 x3 x4 x5 => k 5 (mkS [(0, sP 1), (1, sI x1), (4, sP 2), (5, sP 7), (6, sI x2)] (sv 1 tL1Cur .R [] x3 ++ sv 2 tCore tCore.own [] x4 ++ sv 7 tKept tKept.own [] x5) [sP 1, .und]), fun x1 x2 x3 x4 x5 => k 6 (mkS [(0, sP 1), (1, sI x1), (4, sP 2), (7, sP 7), (8, sB x2)] (sv 1 tL1Cur .R [] x3 ++ sv 2 tCore tCore.own [] x4 ++ sv 7 tCore tCore.own [] x5) [sP 1, .und]), fun x1 x2 x3 x4 => k 9 (mkS [(0, sP 1), (4, sP 2), (7, sP 7), (9, sI x1)] (sv 1 tL1Cur .R [] x2 ++ sv 2 tCore tCore.own [] x3 ++ sv 7 tCore tCore.own [] x4) [sP 1, .und])⟩
theorem s_spec_l13Core : Sound Tryz.prog 61 0 e_spec_l13Core := fn1 bk (fn := Tryz.f61) (fns := [(62, e_spec_l1Below), (63, e_spec_l1PickInt), (94, e_spec_l3Kept), (95, e_spec_CoreOf), (96, e_spec_l13Play)]) ⟨s_spec_l1Below, s_spec_l1PickInt, s_spec_l3Kept, s_spec_CoreOf, s_spec_l13Play, trivial⟩ (by kernel_rfl) (by kernel_rfl) spec_l13Core_T spec_l13Core_O spec_l13Core_N spec_l13Core_L (fun k x => spec_l13Core_s k x.1 x.2.1) (by kernel_rfl) (fun _ => by kernel_rfl) (fun _ => rfl) (fun _ _ => by kernel_rfl) (fun _ => by kernel_rfl)

/-! spec.l13Any -/
noncomputable def e_spec_l13Any : Entry := ⟨[.«mut» tL1Cur .R .R, vr (.int .i64)], [ro tCore], spec_l13Any⟩
theorem s_spec_l13Any : Sound Tryz.prog 25 0 e_spec_l13Any := fn0 bk (fn := Tryz.f25) (fns := [(27, e_spec_l1Once), (45, e_spec_l13Copy), (61, e_spec_l13Core), (62, e_spec_l1Below), (63, e_spec_l1PickInt)]) ⟨s_spec_l1Once, s_spec_l13Copy, s_spec_l13Core, s_spec_l1Below, s_spec_l1PickInt, trivial⟩ (by kernel_rfl) (by kernel_rfl) fun _ => by kernel_rfl

/-! spec.l1Size -/
noncomputable def e_spec_l1Size : Entry := ⟨[vr (.sl (.int .u8)), vr (.int .i64)], [rr (.int .i64)], spec_l1Size⟩
theorem s_spec_l1Size : Sound Tryz.prog 26 0 e_spec_l1Size := fn0 bk (fn := Tryz.f26) (fns := []) trivial (by kernel_rfl) (by kernel_rfl) fun _ => by kernel_rfl

/-! spec.l12Any -/
noncomputable def e_spec_l12Any : Entry := ⟨[.«mut» tL1Cur .R .R], [ro tMsg], spec_l12Any⟩
theorem s_spec_l12Any : Sound Tryz.prog 28 0 e_spec_l12Any := fn0 bk (fn := Tryz.f28) (fns := [(27, e_spec_l1Once), (62, e_spec_l1Below), (63, e_spec_l1PickInt), (64, e_spec_l12Msg)]) ⟨s_spec_l1Once, s_spec_l1Below, s_spec_l1PickInt, s_spec_l12Msg, trivial⟩ (by kernel_rfl) (by kernel_rfl) fun _ => by kernel_rfl

/-! spec.DrawHear -/
noncomputable def e_spec_DrawHear : Entry := ⟨[vr (.sl (.int .u8))], [ro tCore, ro tMsg], spec_DrawHear⟩
theorem s_spec_DrawHear : Sound Tryz.prog 6 0 e_spec_DrawHear := fn0 bk (fn := Tryz.f6) (fns := [(8, e_spec_CoreOk), (24, e_spec_l1New), (25, e_spec_l13Any), (26, e_spec_l1Size), (27, e_spec_l1Once), (28, e_spec_l12Any), (29, e_spec_l13Msg)]) ⟨s_spec_CoreOk, s_spec_l1New, s_spec_l13Any, s_spec_l1Size, s_spec_l1Once, s_spec_l12Any, s_spec_l13Msg, trivial⟩ (by kernel_rfl) (by kernel_rfl) fun _ => by kernel_rfl

/-! impl.within -/
noncomputable def e_impl_within : Entry := ⟨[vr (.int .i64), vr (.int .i64), vr (.int .i64)], [rr .bool], impl_within⟩
theorem s_impl_within : Sound Tryz.prog 67 0 e_impl_within := fn0 bk (fn := Tryz.f67) (fns := []) trivial (by kernel_rfl) (by kernel_rfl) fun _ => by kernel_rfl

/-! impl.KeptOk -/
noncomputable def e_impl_KeptOk : Entry := ⟨[vr tKept], [rr .bool], impl_KeptOk⟩
def impl_KeptOk_T : List (Nat × Tpl) := [(7, ⟨[(1, .ptr 1), (3, tk), (54, .cell (.lst tEntry [])), (55, tk), (56, tk)], tv 1 tKept .R [], [.drop]⟩)]
def impl_KeptOk_O (k : Nat → St → Option (Bool × Unit)) : impl_KeptOk_K7 := fun x1 x2 x3 x4 x5 => k 7 (mkS [(1, sP 1), (3, sI x1), (54, sL tEntry x2), (55, sI x3), (56, sI x4)] (sv 1 tKept .R [] x5) [.und])
theorem s_impl_KeptOk : Sound Tryz.prog 68 0 e_impl_KeptOk := fn1 bk (fn := Tryz.f68) (fns := [(67, e_impl_within)]) ⟨s_impl_within, trivial⟩ (by kernel_rfl) (by kernel_rfl) impl_KeptOk_T impl_KeptOk_O impl_KeptOk_b7 impl_KeptOk_L7 (fun k x => impl_KeptOk_s k x.1) (by kernel_rfl) (fun _ => by kernel_rfl) (fun _ => rfl) (fun _ _ => by kernel_rfl) (fun _ => by kernel_rfl)

/-! impl.Core).kept -/
noncomputable def e_impl_Core_kept : Entry := ⟨[vp tCore, vr .str], [ro tKept], impl_Core_kept⟩
theorem s_impl_Core_kept : Sound Tryz.prog 69 0 e_impl_Core_kept := fn0 bk (fn := Tryz.f69) (fns := []) trivial (by kernel_rfl) (by kernel_rfl) fun _ => by kernel_rfl

/-! impl.Core).last -/
noncomputable def e_impl_Core_last : Entry := ⟨[vp tCore], [rr (.int .i64)], impl_Core_last⟩
theorem s_impl_Core_last : Sound Tryz.prog 70 0 e_impl_Core_last := fn0 bk (fn := Tryz.f70) (fns := []) trivial (by kernel_rfl) (by kernel_rfl) fun _ => by kernel_rfl

/-! impl.Core).isMost -/
noncomputable def e_impl_Core_isMost : Entry := ⟨[vp tCore, vr (.int .i64)], [rr .bool], impl_Core_isMost⟩
theorem s_impl_Core_isMost : Sound Tryz.prog 83 0 e_impl_Core_isMost := fn0 bk (fn := Tryz.f83) (fns := []) trivial (by kernel_rfl) (by kernel_rfl) fun _ => by kernel_rfl

/-! slices.Index[[]int,int] -/
noncomputable def e_slices_Index_int_int : Entry := ⟨[vr (.sl (.int .i64)), vr (.int .i64)], [rr (.int .i64)], slices_Index_int_int⟩
def slices_Index_int_int_T : List (Nat × Tpl) := [(2, ⟨[(0, .cell (.lst (.int .i64) [])), (1, tk), (7, tk), (8, tk)], [], [.drop, .drop]⟩)]
def slices_Index_int_int_O (k : Nat → St → Option (Int × Unit)) : slices_Index_int_int_K2 := fun x1 x2 x3 x4 => k 2 (mkS [(0, sL (.int .i64) x1), (1, sI x2), (7, sI x3), (8, sI x4)] [] [.und, .und])
theorem s_slices_Index_int_int : Sound Tryz.prog 115 0 e_slices_Index_int_int := fn1 bk (fn := Tryz.f115) (fns := []) trivial (by kernel_rfl) (by kernel_rfl) slices_Index_int_int_T slices_Index_int_int_O slices_Index_int_int_b2 slices_Index_int_int_L2 (fun k x => slices_Index_int_int_s k x.1 x.2.1) (by kernel_rfl) (fun _ => by kernel_rfl) (fun _ => rfl) (fun _ _ => by kernel_rfl) (fun _ => by kernel_rfl)

/-! slices.Contains[[]int,int] -/
noncomputable def e_slices_Contains_int_int : Entry := ⟨[vr (.sl (.int .i64)), vr (.int .i64)], [rr .bool], slices_Contains_int_int⟩
theorem s_slices_Contains_int_int : Sound Tryz.prog 99 0 e_slices_Contains_int_int := fn0 bk (fn := Tryz.f99) (fns := [(115, e_slices_Index_int_int)]) ⟨s_slices_Index_int_int, trivial⟩ (by kernel_rfl) (by kernel_rfl) fun _ => by kernel_rfl

/-! impl.Core).seekOk -/
noncomputable def e_impl_Core_seekOk : Entry := ⟨[vp tCore], [rr .bool], impl_Core_seekOk⟩
def impl_Core_seekOk_T : List (Nat × Tpl) := [(2, ⟨[(0, .rp [] (tc tCore .R [] 0)), (8, .cell (.lst (.int .i64) [])), (9, tk), (10, tk)], [], [.drop]⟩)]
def impl_Core_seekOk_O (k : Nat → St → Option (Bool × Unit)) : impl_Core_seekOk_K2 := fun x1 x2 x3 x4 => k 2 (mkS [(0, .rp (dp1 []) (sc tCore .R [] x1 0) 0), (8, sL (.int .i64) x2), (9, sI x3), (10, sI x4)] [] [.und])
theorem s_impl_Core_seekOk : Sound Tryz.prog 71 0 e_impl_Core_seekOk := fn1 bk (fn := Tryz.f71) (fns := [(67, e_impl_within), (83, e_impl_Core_isMost), (99, e_slices_Contains_int_int)]) ⟨s_impl_within, s_impl_Core_isMost, s_slices_Contains_int_int, trivial⟩ (by kernel_rfl) (by kernel_rfl) impl_Core_seekOk_T impl_Core_seekOk_O impl_Core_seekOk_b2 impl_Core_seekOk_L2 (fun k x => impl_Core_seekOk_s k x.1) (by kernel_rfl) (fun _ => by kernel_rfl) (fun _ => rfl) (fun _ _ => by kernel_rfl) (fun _ => by kernel_rfl)

/-! impl.Core).leadOk -/
noncomputable def e_impl_Core_leadOk : Entry := ⟨[vp tCore], [rr .bool], impl_Core_leadOk⟩
def impl_Core_leadOk_T : List (Nat × Tpl) := [(4, ⟨[(0, .rp [] (tc tCore .R [] 0)), (67, .cell (.lst (.int .i64) [])), (68, tk), (69, tk)], [], [.drop]⟩)]
def impl_Core_leadOk_O (k : Nat → St → Option (Bool × Unit)) : impl_Core_leadOk_K4 := fun x1 x2 x3 x4 => k 4 (mkS [(0, .rp (dp1 []) (sc tCore .R [] x1 0) 0), (67, sL (.int .i64) x2), (68, sI x3), (69, sI x4)] [] [.und])
theorem s_impl_Core_leadOk : Sound Tryz.prog 72 0 e_impl_Core_leadOk := fn1 bk (fn := Tryz.f72) (fns := [(70, e_impl_Core_last)]) ⟨s_impl_Core_last, trivial⟩ (by kernel_rfl) (by kernel_rfl) impl_Core_leadOk_T impl_Core_leadOk_O impl_Core_leadOk_b4 impl_Core_leadOk_L4 (fun k x => impl_Core_leadOk_s k x.1) (by kernel_rfl) (fun _ => by kernel_rfl) (fun _ => rfl) (fun _ _ => by kernel_rfl) (fun _ => by kernel_rfl)

/-! impl.CoreOk -/
noncomputable def e_impl_CoreOk : Entry := ⟨[vr tCore], [rr .bool], impl_CoreOk⟩
def impl_CoreOk_T : List (Nat × Tpl) := [(3, ⟨[(1, .ptr 1)], tv 1 tCore .R [], [.drop]⟩)]
def impl_CoreOk_O (k : Nat → St → Option (Bool × Unit)) : impl_CoreOk_K3 := fun x1 => k 3 (mkS [(1, sP 1)] (sv 1 tCore .R [] x1) [.und])
theorem s_impl_CoreOk : Sound Tryz.prog 30 0 e_impl_CoreOk := fn1 bk (fn := Tryz.f30) (fns := [(67, e_impl_within), (68, e_impl_KeptOk), (69, e_impl_Core_kept), (70, e_impl_Core_last), (71, e_impl_Core_seekOk), (72, e_impl_Core_leadOk)]) ⟨s_impl_within, s_impl_KeptOk, s_impl_Core_kept, s_impl_Core_last, s_impl_Core_seekOk, s_impl_Core_leadOk, trivial⟩ (by kernel_rfl) (by kernel_rfl) impl_CoreOk_T impl_CoreOk_O impl_CoreOk_b3 impl_CoreOk_L3 (fun k x => impl_CoreOk_s k x.1) (by kernel_rfl) (fun _ => by kernel_rfl) (fun _ => rfl) (fun _ _ => by kernel_rfl) (fun _ => by kernel_rfl)

/-! impl.copyInts -/
noncomputable def e_impl_copyInts : Entry := ⟨[vr (.sl (.int .i64))], [ro (.sl (.int .i64))], impl_copyInts⟩
theorem s_impl_copyInts : Sound Tryz.prog 73 0 e_impl_copyInts := fn0 bk (fn := Tryz.f73) (fns := []) trivial (by kernel_rfl) (by kernel_rfl) fun _ => by kernel_rfl

/-! impl.copyCore -/
noncomputable def e_impl_copyCore : Entry := ⟨[vr tCore], [ro tCore], impl_copyCore⟩
theorem s_impl_copyCore : Sound Tryz.prog 31 0 e_impl_copyCore := fn0 bk (fn := Tryz.f31) (fns := [(73, e_impl_copyInts)]) ⟨s_impl_copyInts, trivial⟩ (by kernel_rfl) (by kernel_rfl) fun _ => by kernel_rfl

/-! impl.isPlace -/
noncomputable def e_impl_isPlace : Entry := ⟨[vr (.int .i64), vr (.int .i64)], [rr .bool], impl_isPlace⟩
theorem s_impl_isPlace : Sound Tryz.prog 100 0 e_impl_isPlace := fn0 bk (fn := Tryz.f100) (fns := [(67, e_impl_within)]) ⟨s_impl_within, trivial⟩ (by kernel_rfl) (by kernel_rfl) fun _ => by kernel_rfl

/-! impl.Msg).batchOk -/
noncomputable def e_impl_Msg_batchOk : Entry := ⟨[vp tMsg], [rr .bool], impl_Msg_batchOk⟩
def impl_Msg_batchOk_T : List (Nat × Tpl) := [(3, ⟨[(0, .rp [] (tc tMsg .R [] 0)), (3, tk), (14, .cell (.lst tEntry [])), (15, tk), (16, tk)], [], [.drop]⟩)]
def impl_Msg_batchOk_O (k : Nat → St → Option (Bool × Unit)) : impl_Msg_batchOk_K3 := fun x1 x2 x3 x4 x5 => k 3 (mkS [(0, .rp (dp1 []) (sc tMsg .R [] x1 0) 0), (3, sI x2), (14, sL tEntry x3), (15, sI x4), (16, sI x5)] [] [.und])
theorem s_impl_Msg_batchOk : Sound Tryz.prog 101 0 e_impl_Msg_batchOk := fn1 bk (fn := Tryz.f101) (fns := [(67, e_impl_within)]) ⟨s_impl_within, trivial⟩ (by kernel_rfl) (by kernel_rfl) impl_Msg_batchOk_T impl_Msg_batchOk_O impl_Msg_batchOk_b3 impl_Msg_batchOk_L3 (fun k x => impl_Msg_batchOk_s k x.1) (by kernel_rfl) (fun _ => by kernel_rfl) (fun _ => rfl) (fun _ _ => by kernel_rfl) (fun _ => by kernel_rfl)

/-! impl.Entry] -/
noncomputable def e_slices_Equal_impl_Entry_impl_Entry : Entry := ⟨[vr (.sl tEntry), vr (.sl tEntry)], [rr .bool], slices_Equal_impl_Entry_impl_Entry⟩
def slices_Equal_impl_Entry_impl_Entry_T : List (Nat × Tpl) := [(4, ⟨[(0, .cell (.lst tEntry [])), (1, .cell (.lst tEntry [])), (12, tk), (13, tk)], [], [.drop, .drop]⟩)]
def slices_Equal_impl_Entry_impl_Entry_O (k : Nat → St → Option (Bool × Unit)) : slices_Equal_impl_Entry_impl_Entry_K4 := fun x1 x2 x3 x4 => k 4 (mkS [(0, sL tEntry x1), (1, sL tEntry x2), (12, sI x3), (13, sI x4)] [] [.und, .und])
theorem s_slices_Equal_impl_Entry_impl_Entry : Sound Tryz.prog 116 0 e_slices_Equal_impl_Entry_impl_Entry := fn1 bk (fn := Tryz.f116) (fns := []) trivial (by kernel_rfl) (by kernel_rfl) slices_Equal_impl_Entry_impl_Entry_T slices_Equal_impl_Entry_impl_Entry_O slices_Equal_impl_Entry_impl_Entry_b4 slices_Equal_impl_Entry_impl_Entry_L4 (fun k x => slices_Equal_impl_Entry_impl_Entry_s k x.1 x.2.1) (by kernel_rfl) (fun _ => by kernel_rfl) (fun _ => rfl) (fun _ _ => by kernel_rfl) (fun _ => by kernel_rfl)

/-! impl.sameMsg -/
noncomputable def e_impl_sameMsg : Entry := ⟨[vr tMsg, vr tMsg], [rr .bool], impl_sameMsg⟩
theorem s_impl_sameMsg : Sound Tryz.prog 102 0 e_impl_sameMsg := fn0 bk (fn := Tryz.f102) (fns := [(116, e_slices_Equal_impl_Entry_impl_Entry)]) ⟨s_slices_Equal_impl_Entry_impl_Entry, trivial⟩ (by kernel_rfl) (by kernel_rfl) fun _ => by kernel_rfl

/-! impl.MsgOk -/
noncomputable def e_impl_MsgOk : Entry := ⟨[vr tMsg], [rr .bool], impl_MsgOk⟩
def impl_MsgOk_T : List (Nat × Tpl) := [(3, ⟨[(1, .ptr 1), (3, .ptr 2), (4, tk)], tv 1 tMsg .R [] ++ tv 2 tMsg tMsg.own [], [.drop]⟩)]
def impl_MsgOk_O (k : Nat → St → Option (Bool × Unit)) : impl_MsgOk_K3 := fun x1 x2 x3 => k 3 (mkS [(1, sP 1), (3, sP 2), (4, sB x1)] (sv 1 tMsg .R [] x2 ++ sv 2 tMsg tMsg.own [] x3) [.und])
theorem s_impl_MsgOk : Sound Tryz.prog 74 0 e_impl_MsgOk := fn1 bk (fn := Tryz.f74) (fns := [(67, e_impl_within), (100, e_impl_isPlace), (101, e_impl_Msg_batchOk), (102, e_impl_sameMsg)]) ⟨s_impl_within, s_impl_isPlace, s_impl_Msg_batchOk, s_impl_sameMsg, trivial⟩ (by kernel_rfl) (by kernel_rfl) impl_MsgOk_T impl_MsgOk_O impl_MsgOk_b3 impl_MsgOk_L3 (fun k x => impl_MsgOk_s k x.1) (by kernel_rfl) (fun _ => by kernel_rfl) (fun _ => rfl) (fun _ _ => by kernel_rfl) (fun _ => by kernel_rfl)

/-! impl.Core).answer -/
noncomputable def e_impl_Core_answer : Entry := ⟨[vp tCore, vr tMsg, vr .bool, vr (.int .i64)], [ro (.sl tMsg)], impl_Core_answer⟩
theorem s_impl_Core_answer : Sound Tryz.prog 75 0 e_impl_Core_answer := fn0 bk (fn := Tryz.f75) (fns := []) trivial (by kernel_rfl) (by kernel_rfl) fun _ => by kernel_rfl

/-! impl.Core).steps -/
noncomputable def e_impl_Core_steps : Entry := ⟨[vq tCore, vr (.int .i64)], [], impl_Core_steps⟩
theorem s_impl_Core_steps : Sound Tryz.prog 76 0 e_impl_Core_steps := fn0 bk (fn := Tryz.f76) (fns := []) trivial (by kernel_rfl) (by kernel_rfl) fun _ => by kernel_rfl

/-! impl.Core).term -/
noncomputable def e_impl_Core_term : Entry := ⟨[vp tCore, vr (.int .i64)], [rr (.int .i64)], impl_Core_term⟩
theorem s_impl_Core_term : Sound Tryz.prog 86 0 e_impl_Core_term := fn0 bk (fn := Tryz.f86) (fns := []) trivial (by kernel_rfl) (by kernel_rfl) fun _ => by kernel_rfl

/-! impl.Core).vote -/
noncomputable def e_impl_Core_vote : Entry := ⟨[vq tCore, vr tMsg], [ro (.sl tMsg)], impl_Core_vote⟩
def impl_Core_vote_T : List (Nat × Tpl) := [(4, ⟨[(0, .ptr 1), (3, .ptr 6), (7, tk)], tv 1 tCore tCore.own [] ++ tv 6 tMsg .R [], [.ptr 1, .drop]⟩)]
def impl_Core_vote_O (k : Nat → St → Option (impl_Core_vote_R)) : impl_Core_vote_K4 := fun x1 x2 x3 => k 4 (mkS [(0, sP 1), (3, sP 6), (7, sB x1)] (sv 1 tCore tCore.own [] x2 ++ sv 6 tMsg .R [] x3) [sP 1, .und])
theorem s_impl_Core_vote : Sound Tryz.prog 77 0 e_impl_Core_vote := fn1 bk (fn := Tryz.f77) (fns := [(70, e_impl_Core_last), (86, e_impl_Core_term)]) ⟨s_impl_Core_last, s_impl_Core_term, trivial⟩ (by kernel_rfl) (by kernel_rfl) impl_Core_vote_T impl_Core_vote_O impl_Core_vote_b4 impl_Core_vote_L4 (fun k x => impl_Core_vote_s k x.1 x.2.1) (by kernel_rfl) (fun _ => by kernel_rfl) (fun _ => rfl) (fun _ _ => by kernel_rfl) (fun _ => by kernel_rfl)

/-! impl.Core).counts -/
noncomputable def e_impl_Core_counts : Entry := ⟨[vq tCore], [], impl_Core_counts⟩
def impl_Core_counts_T : List (Nat × Tpl) := [(1, ⟨[(0, .ptr 1), (2, tk)], tv 1 tCore tCore.own [], [.ptr 1]⟩), (5, ⟨[(0, .ptr 1), (2, tk), (3, tk), (19, .cell (.hd 5)), (20, tk), (21, tk)], tv 1 tCore tCore.own [], [.ptr 1]⟩)]
def impl_Core_counts_O (k : Nat → St → Option (tCore.D × Unit)) : impl_Core_counts_K := ⟨fun x1 x2 => k 1 (mkS [(0, sP 1), (2, sI x1)] (sv 1 tCore tCore.own [] x2) [sP 1]), fun x1 x2 x3 x4 x5 => k 5 (mkS [(0, sP 1), (2, sI x1), (3, sI x2), (19, .sc (.hd 5 none)), (20, sI x3), (21, sI x4)] (sv 1 tCore tCore.own [] x5) [sP 1])⟩
theorem s_impl_Core_counts : Sound Tryz.prog 105 0 e_impl_Core_counts := fn1 bk (fn := Tryz.f105) (fns := [(70, e_impl_Core_last), (83, e_impl_Core_isMost), (86, e_impl_Core_term)]) ⟨s_impl_Core_last, s_impl_Core_isMost, s_impl_Core_term, trivial⟩ (by kernel_rfl) (by kernel_rfl) impl_Core_counts_T impl_Core_counts_O impl_Core_counts_N impl_Core_counts_L (fun k x => impl_Core_counts_s k x.1) (by kernel_rfl) (fun _ => by kernel_rfl) (fun _ => rfl) (fun _ _ => by kernel_rfl) (fun _ => by kernel_rfl)

/-! impl.Core).hasRoom -/
noncomputable def e_impl_Core_hasRoom : Entry := ⟨[vp tCore], [rr .bool], impl_Core_hasRoom⟩
theorem s_impl_Core_hasRoom : Sound Tryz.prog 107 0 e_impl_Core_hasRoom := fn0 bk (fn := Tryz.f107) (fns := [(70, e_impl_Core_last)]) ⟨s_impl_Core_last, trivial⟩ (by kernel_rfl) (by kernel_rfl) fun _ => by kernel_rfl

/-! impl.Core).own -/
noncomputable def e_impl_Core_own : Entry := ⟨[vq tCore], [], impl_Core_own⟩
theorem s_impl_Core_own : Sound Tryz.prog 108 0 e_impl_Core_own := fn0 bk (fn := Tryz.f108) (fns := [(70, e_impl_Core_last)]) ⟨s_impl_Core_last, trivial⟩ (by kernel_rfl) (by kernel_rfl) fun _ => by kernel_rfl

/-! impl.Core).others -/
noncomputable def e_impl_Core_others : Entry := ⟨[vp tCore], [ro (.sl (.int .i64))], impl_Core_others⟩
def impl_Core_others_T : List (Nat × Tpl) := [(3, ⟨[(0, .rp [] (tc tCore .R [] 0)), (3, .cell (.hd 1)), (9, tk), (10, tk)], [(1, .row (.int .i64) .R)], [.drop]⟩)]
def impl_Core_others_O (k : Nat → St → Option ((List Int) × Unit)) : impl_Core_others_K3 := fun x1 x2 x3 x4 => k 3 (mkS [(0, .rp (dp1 []) (sc tCore .R [] x1 0) 0), (3, .sc (.hd 1 none)), (9, sI x2), (10, sI x3)] [(1, .row (.int .i64) .R 0 x4)] [.und])
theorem s_impl_Core_others : Sound Tryz.prog 85 0 e_impl_Core_others := fn1 bk (fn := Tryz.f85) (fns := []) trivial (by kernel_rfl) (by kernel_rfl) impl_Core_others_T impl_Core_others_O impl_Core_others_b3 impl_Core_others_L3 (fun k x => impl_Core_others_s k x.1) (by kernel_rfl) (fun _ => by kernel_rfl) (fun _ => rfl) (fun _ _ => by kernel_rfl) (fun _ => by kernel_rfl)

/-! impl.Core).sends -/
noncomputable def e_impl_Core_sends : Entry := ⟨[vp tCore, vr (.int .i64)], [ro tMsg], impl_Core_sends⟩
theorem s_impl_Core_sends : Sound Tryz.prog 106 0 e_impl_Core_sends := fn0 bk (fn := Tryz.f106) (fns := [(86, e_impl_Core_term)]) ⟨s_impl_Core_term, trivial⟩ (by kernel_rfl) (by kernel_rfl) fun _ => by kernel_rfl

/-! impl.Core).sendsAll -/
noncomputable def e_impl_Core_sendsAll : Entry := ⟨[vp tCore], [ro (.sl tMsg)], impl_Core_sendsAll⟩
def impl_Core_sendsAll_T : List (Nat × Tpl) := [(3, ⟨[(0, .rp [] (tc tCore .R [] 0)), (3, .cell (.hd 1)), (8, .cell (.hd 2)), (9, tk), (10, tk)], [(1, .row tMsg (.S (.cons .R (.cons .R (.cons .R (.cons .R (.cons .R (.cons .R (.cons .R (.cons .R (.cons (.O .R) (.cons .R .nil)))))))))))), (2, .row (.int .i64) .R)], [.drop]⟩)]
def impl_Core_sendsAll_O (k : Nat → St → Option ((List tMsg.D) × Unit)) : impl_Core_sendsAll_K3 := fun x1 x2 x3 x4 x5 => k 3 (mkS [(0, .rp (dp1 []) (sc tCore .R [] x1 0) 0), (3, .sc (.hd 1 none)), (8, .sc (.hd 2 none)), (9, sI x2), (10, sI x3)] [(1, .row tMsg (.S (.cons .R (.cons .R (.cons .R (.cons .R (.cons .R (.cons .R (.cons .R (.cons .R (.cons (.O .R) (.cons .R .nil))))))))))) 0 x4), (2, .row (.int .i64) .R 0 x5)] [.und])
theorem s_impl_Core_sendsAll : Sound Tryz.prog 109 0 e_impl_Core_sendsAll := fn1 bk (fn := Tryz.f109) (fns := [(85, e_impl_Core_others), (106, e_impl_Core_sends)]) ⟨s_impl_Core_others, s_impl_Core_sends, trivial⟩ (by kernel_rfl) (by kernel_rfl) impl_Core_sendsAll_T impl_Core_sendsAll_O impl_Core_sendsAll_b3 impl_Core_sendsAll_L3 (fun k x => impl_Core_sendsAll_s k x.1) (by kernel_rfl) (fun _ => by kernel_rfl) (fun _ => rfl) (fun _ _ => by kernel_rfl) (fun _ => by kernel_rfl)

/-! impl.Core).leads -/
noncomputable def e_impl_Core_leads : Entry := ⟨[vq tCore], [ro (.sl tMsg)], impl_Core_leads⟩
def impl_Core_leads_T : List (Nat × Tpl) := [(7, ⟨[(0, .ptr 1), (37, tk), (38, tk)], tv 1 tCore tCore.own [], [.ptr 1]⟩)]
def impl_Core_leads_O (k : Nat → St → Option (impl_Core_leads_R)) : impl_Core_leads_K7 := fun x1 x2 x3 => k 7 (mkS [(0, sP 1), (37, sI x1), (38, sI x2)] (sv 1 tCore tCore.own [] x3) [sP 1])
theorem s_impl_Core_leads : Sound Tryz.prog 84 0 e_impl_Core_leads := fn1 bk (fn := Tryz.f84) (fns := [(70, e_impl_Core_last), (105, e_impl_Core_counts), (107, e_impl_Core_hasRoom), (108, e_impl_Core_own), (109, e_impl_Core_sendsAll)]) ⟨s_impl_Core_last, s_impl_Core_counts, s_impl_Core_hasRoom, s_impl_Core_own, s_impl_Core_sendsAll, trivial⟩ (by kernel_rfl) (by kernel_rfl) impl_Core_leads_T impl_Core_leads_O impl_Core_leads_b7 impl_Core_leads_L7 (fun k x => impl_Core_leads_s k x.1) (by kernel_rfl) (fun _ => by kernel_rfl) (fun _ => rfl) (fun _ _ => by kernel_rfl) (fun _ => by kernel_rfl)

/-! cmp.isNaN[int] -/
noncomputable def e_cmp_isNaN_int : Entry := ⟨[vr (.int .i64)], [rr .bool], cmp_isNaN_int⟩
theorem s_cmp_isNaN_int : Sound Tryz.prog 135 0 e_cmp_isNaN_int := fn0 bk (fn := Tryz.f135) (fns := []) trivial (by kernel_rfl) (by kernel_rfl) fun _ => by kernel_rfl

/-! cmp.Less[int] -/
noncomputable def e_cmp_Less_int : Entry := ⟨[vr (.int .i64), vr (.int .i64)], [rr .bool], cmp_Less_int⟩
theorem s_cmp_Less_int : Sound Tryz.prog 125 0 e_cmp_Less_int := fn0 bk (fn := Tryz.f125) (fns := [(135, e_cmp_isNaN_int)]) ⟨s_cmp_isNaN_int, trivial⟩ (by kernel_rfl) (by kernel_rfl) fun _ => by kernel_rfl

/-! slices.insertionSortOrdered[int] -/
noncomputable def e_slices_insertionSortOrdered_int : Entry := ⟨[vw (.sl (.int .i64)), vr (.int .i64), vr (.int .i64)], [], slices_insertionSortOrdered_int⟩
def slices_insertionSortOrdered_int_T : List (Nat × Tpl) := [(1, ⟨[(0, .cell (.hd 1)), (1, tk), (2, tk), (6, tk)], [(1, .row (.int .i64) .R)], [.cell (.hd 1), .drop, .drop]⟩), (4, ⟨[(0, .cell (.hd 1)), (1, tk), (2, tk), (6, tk), (7, tk)], [(1, .row (.int .i64) .R)], [.cell (.hd 1), .drop, .drop]⟩)]
def slices_insertionSortOrdered_int_O (k : Nat → St → Option ((List Int) × Unit)) : slices_insertionSortOrdered_int_K := ⟨fun x1 x2 x3 x4 => k 1 (mkS [(0, .sc (.hd 1 none)), (1, sI x1), (2, sI x2), (6, sI x3)] [(1, .row (.int .i64) .R 0 x4)] [.sc (.hd 1 none), .und, .und]), fun x1 x2 x3 x4 x5 => k 4 (mkS [(0, .sc (.hd 1 none)), (1, sI x1), (2, sI x2), (6, sI x3), (7, sI x4)] [(1, .row (.int .i64) .R 0 x5)] [.sc (.hd 1 none), .und, .und])⟩
theorem s_slices_insertionSortOrdered_int : Sound Tryz.prog 119 0 e_slices_insertionSortOrdered_int := fn1 bk (fn := Tryz.f119) (fns := [(125, e_cmp_Less_int)]) ⟨s_cmp_Less_int, trivial⟩ (by kernel_rfl) (by kernel_rfl) slices_insertionSortOrdered_int_T slices_insertionSortOrdered_int_O slices_insertionSortOrdered_int_N slices_insertionSortOrdered_int_L (fun k x => slices_insertionSortOrdered_int_s k x.1 x.2.1 x.2.2.1) (by kernel_rfl) (fun _ => by kernel_rfl) (fun _ => rfl) (fun _ _ => by kernel_rfl) (fun _ => by kernel_rfl)

/-! slices.heapSortOrdered[int] -/
noncomputable def e_slices_heapSortOrdered_int : Entry := ⟨[vw (.sl (.int .i64)), vr (.int .i64), vr (.int .i64)], [], slices_heapSortOrdered_int⟩
theorem s_slices_heapSortOrdered_int : Sound Tryz.prog 120 0 e_slices_heapSortOrdered_int := stub_sound (by kernel_rfl) fun _ => rfl

/-! slices.breakPatternsOrdered[int] -/
noncomputable def e_slices_breakPatternsOrdered_int : Entry := ⟨[vw (.sl (.int .i64)), vr (.int .i64), vr (.int .i64)], [], slices_breakPatternsOrdered_int⟩
theorem s_slices_breakPatternsOrdered_int : Sound Tryz.prog 121 0 e_slices_breakPatternsOrdered_int := stub_sound (by kernel_rfl) fun _ => rfl

/-! slices.choosePivotOrdered[int] -/
noncomputable def e_slices_choosePivotOrdered_int : Entry := ⟨[vw (.sl (.int .i64)), vr (.int .i64), vr (.int .i64)], [rr (.int .i64), rr (.int .i64)], slices_choosePivotOrdered_int⟩
theorem s_slices_choosePivotOrdered_int : Sound Tryz.prog 122 0 e_slices_choosePivotOrdered_int := stub_sound (by kernel_rfl) fun _ => rfl

/-! slices.reverseRangeOrdered[int] -/
noncomputable def e_slices_reverseRangeOrdered_int : Entry := ⟨[vw (.sl (.int .i64)), vr (.int .i64), vr (.int .i64)], [], slices_reverseRangeOrdered_int⟩
theorem s_slices_reverseRangeOrdered_int : Sound Tryz.prog 123 0 e_slices_reverseRangeOrdered_int := stub_sound (by kernel_rfl) fun _ => rfl

/-! slices.partialInsertionSortOrdered[int] -/
noncomputable def e_slices_partialInsertionSortOrdered_int : Entry := ⟨[vw (.sl (.int .i64)), vr (.int .i64), vr (.int .i64)], [rr .bool], slices_partialInsertionSortOrdered_int⟩
theorem s_slices_partialInsertionSortOrdered_int : Sound Tryz.prog 124 0 e_slices_partialInsertionSortOrdered_int := stub_sound (by kernel_rfl) fun _ => rfl

/-! slices.partitionEqualOrdered[int] -/
noncomputable def e_slices_partitionEqualOrdered_int : Entry := ⟨[vr (.sl (.int .i64)), vr (.int .i64), vr (.int .i64), vr (.int .i64)], [rr (.int .i64)], slices_partitionEqualOrdered_int⟩
theorem s_slices_partitionEqualOrdered_int : Sound Tryz.prog 126 0 e_slices_partitionEqualOrdered_int := stub_sound (by kernel_rfl) fun _ => rfl

/-! slices.partitionOrdered[int] -/
noncomputable def e_slices_partitionOrdered_int : Entry := ⟨[vr (.sl (.int .i64)), vr (.int .i64), vr (.int .i64), vr (.int .i64)], [rr (.int .i64), rr .bool], slices_partitionOrdered_int⟩
theorem s_slices_partitionOrdered_int : Sound Tryz.prog 127 0 e_slices_partitionOrdered_int := stub_sound (by kernel_rfl) fun _ => rfl

/-! slices.pdqsortOrdered[int] -/
noncomputable def e_slices_pdqsortOrdered_int_z : Entry := ⟨[vw (.sl (.int .i64)), vr (.int .i64), vr (.int .i64), vr (.int .i64)], [], slices_pdqsortOrdered_int_z⟩
theorem s_slices_pdqsortOrdered_int_z : Sound Tryz.prog 117 0 e_slices_pdqsortOrdered_int_z := stub_sound (by kernel_rfl) fun _ => rfl
noncomputable def e_slices_pdqsortOrdered_int : Entry := ⟨[vw (.sl (.int .i64)), vr (.int .i64), vr (.int .i64), vr (.int .i64)], [], slices_pdqsortOrdered_int⟩
def slices_pdqsortOrdered_int_T : List (Nat × Tpl) := [(2, ⟨[(0, .cell (.hd 1)), (1, tk), (2, tk), (3, tk), (8, tk), (9, tk)], [(1, .row (.int .i64) .R)], [.cell (.hd 1), .drop, .drop, .drop]⟩), (10, ⟨[(0, .cell (.hd 1)), (1, tk), (2, tk), (3, tk), (8, tk), (9, tk), (10, tk)], [(1, .row (.int .i64) .R)], [.cell (.hd 1), .drop, .drop, .drop]⟩), (15, ⟨[(0, .cell (.hd 1)), (1, tk), (2, tk), (3, tk), (8, tk), (9, tk), (10, tk), (11, tk), (12, tk)], [(1, .row (.int .i64) .R)], [.cell (.hd 1), .drop, .drop, .drop]⟩), (17, ⟨[(0, .cell (.hd 1)), (1, tk), (2, tk), (3, tk), (8, tk), (9, tk), (10, tk), (11, tk)], [(1, .row (.int .i64) .R)], [.cell (.hd 1), .drop, .drop, .drop]⟩), (20, ⟨[(0, .cell (.hd 1)), (1, tk), (2, tk), (3, tk), (10, tk), (11, tk)], [(1, .row (.int .i64) .R)], [.cell (.hd 1), .drop, .drop, .drop]⟩)]
def slices_pdqsortOrdered_int_O (k : Nat → St → Option ((List Int) × Unit)) : slices_pdqsortOrdered_int_K := ⟨fun x1 x2 x3 x4 x5 x6 => k 2 (mkS [(0, .sc (.hd 1 none)), (1, sI x1), (2, sI x2), (3, sI x3), (8, sB x4), (9, sB x5)] [(1, .row (.int .i64) .R 0 x6)] [.sc (.hd 1 none), .und, .und, .und]), fun x1 x2 x3 x4 x5 x6 x7 => k 10 (mkS [(0, .sc (.hd 1 none)), (1, sI x1), (2, sI x2), (3, sI x3), (8, sB x4), (9, sB x5), (10, sI x6)] [(1, .row (.int .i64) .R 0 x7)] [.sc (.hd 1 none), .und, .und, .und]), fun x1 x2 x3 x4 x5 x6 x7 x8 x9 => k 15 (mkS [(0, .sc (.hd 1 none)), (1, sI x1), (2, sI x2), (3, sI x3), (8, sB x4), (9, sB x5), (10, sI x6), (11, sI x7), (12, sI x8)] [(1, .row (.int .i64) .R 0 x9)] [.sc (.hd 1 none), .und, .und, .und]), fun x1 x2 x3 x4 x5 x6 x7 x8 => k 17 (mkS [(0, .sc (.hd 1 none)), (1, sI x1), (2, sI x2), (3, sI x3), (8, sB x4), (9, sB x5), (10, sI x6), (11, sI x7)] [(1, .row (.int .i64) .R 0 x8)] [.sc (.hd 1 none), .und, .und, .und]), fun x1 x2 x3 x4 x5 x6 => k 20 (mkS [(0, .sc (.hd 1 none)), (1, sI x1), (2, sI x2), (3, sI x3), (10, sI x4), (11, sI x5)] [(1, .row (.int .i64) .R 0 x6)] [.sc (.hd 1 none), .und, .und, .und])⟩
theorem s_slices_pdqsortOrdered_int : Sound Tryz.prog 117 0 e_slices_pdqsortOrdered_int := fn1 bk (fn := Tryz.f117) (fns := [(117, e_slices_pdqsortOrdered_int_z), (119, e_slices_insertionSortOrdered_int), (120, e_slices_heapSortOrdered_int), (121, e_slices_breakPatternsOrdered_int), (122, e_slices_choosePivotOrdered_int), (123, e_slices_reverseRangeOrdered_int), (124, e_slices_partialInsertionSortOrdered_int), (125, e_cmp_Less_int), (126, e_slices_partitionEqualOrdered_int), (127, e_slices_partitionOrdered_int)]) ⟨s_slices_pdqsortOrdered_int_z, s_slices_insertionSortOrdered_int, s_slices_heapSortOrdered_int, s_slices_breakPatternsOrdered_int, s_slices_choosePivotOrdered_int, s_slices_reverseRangeOrdered_int, s_slices_partialInsertionSortOrdered_int, s_cmp_Less_int, s_slices_partitionEqualOrdered_int, s_slices_partitionOrdered_int, trivial⟩ (by kernel_rfl) (by kernel_rfl) slices_pdqsortOrdered_int_T slices_pdqsortOrdered_int_O slices_pdqsortOrdered_int_N slices_pdqsortOrdered_int_L (fun k x => slices_pdqsortOrdered_int_s k x.1 x.2.1 x.2.2.1 x.2.2.2.1) (by kernel_rfl) (fun _ => by kernel_rfl) (fun _ => rfl) (fun _ _ => by kernel_rfl) (fun _ => by kernel_rfl)

/-! bits.Len32 -/
noncomputable def e_bits_Len32 : Entry := ⟨[vr (.int .u32)], [rr (.int .i64)], bits_Len32⟩
def bits_Len32_T : List (Nat × Tpl) := [(4, ⟨[(0, tk), (2, tk)], [], [.drop]⟩), (7, ⟨[(0, tk), (2, tk)], [], [.drop]⟩)]
def bits_Len32_O (k : Nat → St → Option (Int × Unit)) : bits_Len32_K := ⟨fun x1 x2 => k 4 (mkS [(0, .sc (.int .u32 x1)), (2, sI x2)] [] [.und]), fun x1 x2 => k 7 (mkS [(0, .sc (.int .u32 x1)), (2, sI x2)] [] [.und])⟩
theorem s_bits_Len32 : Sound Tryz.prog 128 0 e_bits_Len32 := fn1 bk (fn := Tryz.f128) (fns := []) trivial (by kernel_rfl) (by kernel_rfl) bits_Len32_T bits_Len32_O bits_Len32_N bits_Len32_L (fun k x => bits_Len32_s k x.1) (by kernel_rfl) (fun _ => by kernel_rfl) (fun _ => rfl) (fun _ _ => by kernel_rfl) (fun _ => by kernel_rfl)

/-! bits.Len64 -/
noncomputable def e_bits_Len64 : Entry := ⟨[vr (.int .u64)], [rr (.int .i64)], bits_Len64⟩
def bits_Len64_T : List (Nat × Tpl) := [(4, ⟨[(0, tk), (2, tk)], [], [.drop]⟩), (7, ⟨[(0, tk), (2, tk)], [], [.drop]⟩), (10, ⟨[(0, tk), (2, tk)], [], [.drop]⟩)]
def bits_Len64_O (k : Nat → St → Option (Int × Unit)) : bits_Len64_K := ⟨fun x1 x2 => k 4 (mkS [(0, .sc (.int .u64 x1)), (2, sI x2)] [] [.und]), fun x1 x2 => k 7 (mkS [(0, .sc (.int .u64 x1)), (2, sI x2)] [] [.und]), fun x1 x2 => k 10 (mkS [(0, .sc (.int .u64 x1)), (2, sI x2)] [] [.und])⟩
theorem s_bits_Len64 : Sound Tryz.prog 129 0 e_bits_Len64 := fn1 bk (fn := Tryz.f129) (fns := []) trivial (by kernel_rfl) (by kernel_rfl) bits_Len64_T bits_Len64_O bits_Len64_N bits_Len64_L (fun k x => bits_Len64_s k x.1) (by kernel_rfl) (fun _ => by kernel_rfl) (fun _ => rfl) (fun _ _ => by kernel_rfl) (fun _ => by kernel_rfl)

/-! bits.Len -/
noncomputable def e_bits_Len : Entry := ⟨[vr (.int .u64)], [rr (.int .i64)], bits_Len⟩
theorem s_bits_Len : Sound Tryz.prog 118 0 e_bits_Len := fn0 bk (fn := Tryz.f118) (fns := [(128, e_bits_Len32), (129, e_bits_Len64)]) ⟨s_bits_Len32, s_bits_Len64, trivial⟩ (by kernel_rfl) (by kernel_rfl) fun _ => by kernel_rfl

/-! slices.Sort[[]int,int] -/
noncomputable def e_slices_Sort_int_int : Entry := ⟨[vw (.sl (.int .i64))], [], slices_Sort_int_int⟩
theorem s_slices_Sort_int_int : Sound Tryz.prog 103 0 e_slices_Sort_int_int := fn0 bk (fn := Tryz.f103) (fns := [(117, e_slices_pdqsortOrdered_int), (118, e_bits_Len)]) ⟨s_slices_pdqsortOrdered_int, s_bits_Len, trivial⟩ (by kernel_rfl) (by kernel_rfl) fun _ => by kernel_rfl

/-! impl.Core).voted -/
noncomputable def e_impl_Core_voted : Entry := ⟨[vq tCore, vr tMsg], [ro (.sl tMsg)], impl_Core_voted⟩
def impl_Core_voted_T : List (Nat × Tpl) := [(6, ⟨[(0, .ptr 1)], tv 1 tCore tCore.own [], [.ptr 1, .drop]⟩)]
def impl_Core_voted_O (k : Nat → St → Option (impl_Core_voted_R)) : impl_Core_voted_K6 := fun x1 => k 6 (mkS [(0, sP 1)] (sv 1 tCore tCore.own [] x1) [sP 1, .und])
theorem s_impl_Core_voted : Sound Tryz.prog 78 0 e_impl_Core_voted := fn1 bk (fn := Tryz.f78) (fns := [(83, e_impl_Core_isMost), (84, e_impl_Core_leads), (99, e_slices_Contains_int_int), (103, e_slices_Sort_int_int)]) ⟨s_impl_Core_isMost, s_impl_Core_leads, s_slices_Contains_int_int, s_slices_Sort_int_int, trivial⟩ (by kernel_rfl) (by kernel_rfl) impl_Core_voted_T impl_Core_voted_O impl_Core_voted_b6 impl_Core_voted_L6 (fun k x => impl_Core_voted_s k x.1 x.2.1) (by kernel_rfl) (fun _ => by kernel_rfl) (fun _ => rfl) (fun _ _ => by kernel_rfl) (fun _ => by kernel_rfl)

/-! impl.Core).takes -/
noncomputable def e_impl_Core_takes : Entry := ⟨[vq tCore, vr tMsg, vr (.int .i64), vr (.sl tEntry)], [ro (.sl tMsg)], impl_Core_takes⟩
def impl_Core_takes_T : List (Nat × Tpl) := [(3, ⟨[(0, .ptr 1), (2, tk), (3, .cell (.lst tEntry [])), (5, .ptr 6), (9, tk), (16, .cell (.lst tEntry [])), (17, tk), (18, tk)], tv 1 tCore tCore.own [] ++ tv 6 tMsg .R [], [.ptr 1, .drop, .drop, .drop]⟩), (8, ⟨[(0, .ptr 1), (3, .cell (.lst tEntry [])), (5, .ptr 6), (10, tk), (12, tk)], tv 1 tCore tCore.own [] ++ tv 6 tMsg .R [], [.ptr 1, .drop, .drop, .drop]⟩), (12, ⟨[(0, .ptr 1), (5, .ptr 6), (70, .cell (.lst tEntry [])), (71, tk), (72, tk)], [(1, .var [.keep, .keep, .keep, .keep, .keep, .keep, .keep, .keep, .hp 2, .keep, .hd 3, .hd 4, .hd 5]), (2, .row tEntry .R), (3, .row (.int .i64) .R), (4, .row (.int .i64) .R), (5, .row (.int .i64) .R)] ++ tv 6 tMsg .R [], [.ptr 1, .drop, .drop, .drop]⟩)]
def impl_Core_takes_O (k : Nat → St → Option (impl_Core_takes_R)) : impl_Core_takes_K := ⟨fun x1 x2 x3 x4 x5 x6 x7 x8 => k 3 (mkS [(0, sP 1), (2, sI x1), (3, sL tEntry x2), (5, sP 6), (9, sI x3), (16, sL tEntry x4), (17, sI x5), (18, sI x6)] (sv 1 tCore tCore.own [] x7 ++ sv 6 tMsg .R [] x8) [sP 1, .und, .und, .und]), fun x1 x2 x3 x4 x5 => k 8 (mkS [(0, sP 1), (3, sL tEntry x1), (5, sP 6), (10, sI x2), (12, sI x3)] (sv 1 tCore tCore.own [] x4 ++ sv 6 tMsg .R [] x5) [sP 1, .und, .und, .und]), fun x1 x2 x3 x4 x5 x6 x7 x8 => k 12 (mkS [(0, sP 1), (5, sP 6), (70, sL tEntry x1), (71, sI x2), (72, sI x3)] ([(1, .var 0 [.int .i64 x4.1, .int .i64 x4.2.1, .int .i64 x4.2.2.1, .int .i64 x4.2.2.2.1, .int .i64 x4.2.2.2.2.1, .int .i64 x4.2.2.2.2.2.1, .int .i64 x4.2.2.2.2.2.2.1, .int .i64 x4.2.2.2.2.2.2.2.1, .hd 2 (some (x5, x6)), .int .i64 x4.2.2.2.2.2.2.2.2.2.1, .hd 3 none, .hd 4 none, .hd 5 none]), (2, .row tEntry .R 0 x7), (3, .row (.int .i64) .R 0 x4.2.2.2.2.2.2.2.2.2.2.1), (4, .row (.int .i64) .R 0 x4.2.2.2.2.2.2.2.2.2.2.2.1), (5, .row (.int .i64) .R 0 x4.2.2.2.2.2.2.2.2.2.2.2.2.1)] ++ sv 6 tMsg .R [] x8) [sP 1, .und, .und, .und])⟩
theorem s_impl_Core_takes : Sound Tryz.prog 104 0 e_impl_Core_takes := fn1 bk (fn := Tryz.f104) (fns := [(70, e_impl_Core_last), (75, e_impl_Core_answer), (86, e_impl_Core_term)]) ⟨s_impl_Core_last, s_impl_Core_answer, s_impl_Core_term, trivial⟩ (by kernel_rfl) (by kernel_rfl) impl_Core_takes_T impl_Core_takes_O impl_Core_takes_N impl_Core_takes_L (fun k x => impl_Core_takes_s k x.1 x.2.1 x.2.2.1 x.2.2.2.1) (by kernel_rfl) (fun _ => by kernel_rfl) (fun _ => rfl) (fun _ _ => by kernel_rfl) (fun _ => by kernel_rfl)

/-! impl.Core).app -/
noncomputable def e_impl_Core_app : Entry := ⟨[vq tCore, vr tMsg], [ro (.sl tMsg)], impl_Core_app⟩
def impl_Core_app_T : List (Nat × Tpl) := [(10, ⟨[(0, .ptr 1), (3, .ptr 6), (5, .cell (.lst tEntry [])), (6, tk)], tv 1 tCore tCore.own [] ++ tv 6 tMsg .R [], [.ptr 1, .drop]⟩), (12, ⟨[(0, .ptr 1), (3, .ptr 6), (5, .cell (.lst tEntry [])), (6, tk)], tv 1 tCore tCore.own [] ++ tv 6 tMsg .R [], [.ptr 1, .drop]⟩), (16, ⟨[(0, .ptr 1), (3, .ptr 6), (6, tk), (7, tk)], tv 1 tCore tCore.own [] ++ tv 6 tMsg .R [], [.ptr 1, .drop]⟩)]
def impl_Core_app_O (k : Nat → St → Option (impl_Core_app_R)) : impl_Core_app_K := ⟨fun x1 x2 x3 x4 => k 10 (mkS [(0, sP 1), (3, sP 6), (5, sL tEntry x1), (6, sI x2)] (sv 1 tCore tCore.own [] x3 ++ sv 6 tMsg .R [] x4) [sP 1, .und]), fun x1 x2 x3 x4 => k 12 (mkS [(0, sP 1), (3, sP 6), (5, sL tEntry x1), (6, sI x2)] (sv 1 tCore tCore.own [] x3 ++ sv 6 tMsg .R [] x4) [sP 1, .und]), fun x1 x2 x3 x4 => k 16 (mkS [(0, sP 1), (3, sP 6), (6, sI x1), (7, sI x2)] (sv 1 tCore tCore.own [] x3 ++ sv 6 tMsg .R [] x4) [sP 1, .und])⟩
theorem s_impl_Core_app : Sound Tryz.prog 79 0 e_impl_Core_app := fn1 bk (fn := Tryz.f79) (fns := [(70, e_impl_Core_last), (75, e_impl_Core_answer), (76, e_impl_Core_steps), (86, e_impl_Core_term), (104, e_impl_Core_takes)]) ⟨s_impl_Core_last, s_impl_Core_answer, s_impl_Core_steps, s_impl_Core_term, s_impl_Core_takes, trivial⟩ (by kernel_rfl) (by kernel_rfl) impl_Core_app_T impl_Core_app_O impl_Core_app_N impl_Core_app_L (fun k x => impl_Core_app_s k x.1 x.2.1) (by kernel_rfl) (fun _ => by kernel_rfl) (fun _ => rfl) (fun _ _ => by kernel_rfl) (fun _ => by kernel_rfl)

/-! impl.Core).apped -/
noncomputable def e_impl_Core_apped : Entry := ⟨[vq tCore, vr tMsg], [ro (.sl tMsg)], impl_Core_apped⟩
theorem s_impl_Core_apped : Sound Tryz.prog 80 0 e_impl_Core_apped := fn0 bk (fn := Tryz.f80) (fns := [(70, e_impl_Core_last), (105, e_impl_Core_counts), (106, e_impl_Core_sends)]) ⟨s_impl_Core_last, s_impl_Core_counts, s_impl_Core_sends, trivial⟩ (by kernel_rfl) (by kernel_rfl) fun _ => by kernel_rfl

/-! impl.Core).snap -/
noncomputable def e_impl_Core_snap : Entry := ⟨[vq tCore, vr tMsg], [ro (.sl tMsg)], impl_Core_snap⟩
theorem s_impl_Core_snap : Sound Tryz.prog 81 0 e_impl_Core_snap := fn0 bk (fn := Tryz.f81) (fns := [(70, e_impl_Core_last), (75, e_impl_Core_answer), (76, e_impl_Core_steps), (86, e_impl_Core_term)]) ⟨s_impl_Core_last, s_impl_Core_answer, s_impl_Core_steps, s_impl_Core_term, trivial⟩ (by kernel_rfl) (by kernel_rfl) fun _ => by kernel_rfl

/-! impl.Core).hear -/
noncomputable def e_impl_Core_hear : Entry := ⟨[vq tCore, vr tMsg], [ro (.sl tMsg)], impl_Core_hear⟩
def impl_Core_hear_T : List (Nat × Tpl) := [(13, ⟨[(0, .ptr 1), (3, .ptr 6)], tv 1 tCore tCore.own [] ++ tv 6 tMsg .R [], [.ptr 1, .drop]⟩)]
def impl_Core_hear_O (k : Nat → St → Option (impl_Core_hear_R)) : impl_Core_hear_K13 := fun x1 x2 => k 13 (mkS [(0, sP 1), (3, sP 6)] (sv 1 tCore tCore.own [] x1 ++ sv 6 tMsg .R [] x2) [sP 1, .und])
theorem s_impl_Core_hear : Sound Tryz.prog 32 0 e_impl_Core_hear := fn1 bk (fn := Tryz.f32) (fns := [(74, e_impl_MsgOk), (75, e_impl_Core_answer), (76, e_impl_Core_steps), (77, e_impl_Core_vote), (78, e_impl_Core_voted), (79, e_impl_Core_app), (80, e_impl_Core_apped), (81, e_impl_Core_snap)]) ⟨s_impl_MsgOk, s_impl_Core_answer, s_impl_Core_steps, s_impl_Core_vote, s_impl_Core_voted, s_impl_Core_app, s_impl_Core_apped, s_impl_Core_snap, trivial⟩ (by kernel_rfl) (by kernel_rfl) impl_Core_hear_T impl_Core_hear_O impl_Core_hear_b13 impl_Core_hear_L13 (fun k x => impl_Core_hear_s k x.1 x.2.1) (by kernel_rfl) (fun _ => by kernel_rfl) (fun _ => rfl) (fun _ _ => by kernel_rfl) (fun _ => by kernel_rfl)

/-! impl.Hear -/
noncomputable def e_impl_Hear : Entry := ⟨[vr tCore, vr tMsg], [ro tCore, ro (.sl tMsg)], impl_Hear⟩
theorem s_impl_Hear : Sound Tryz.prog 7 0 e_impl_Hear := fn0 bk (fn := Tryz.f7) (fns := [(30, e_impl_CoreOk), (31, e_impl_copyCore), (32, e_impl_Core_hear)]) ⟨s_impl_CoreOk, s_impl_copyCore, s_impl_Core_hear, trivial⟩ (by kernel_rfl) (by kernel_rfl) fun _ => by kernel_rfl

/-! impl.Core).elect -/
noncomputable def e_impl_Core_elect : Entry := ⟨[vq tCore], [ro (.sl tMsg)], impl_Core_elect⟩
def impl_Core_elect_T : List (Nat × Tpl) := [(12, ⟨[(0, .ptr 1), (3, .cell (.hd 6)), (52, .cell (.hd 7)), (53, tk), (54, tk)], tv 1 tCore tCore.own [] ++ [(6, .row tMsg (.S (.cons .R (.cons .R (.cons .R (.cons .R (.cons .R (.cons .R (.cons .R (.cons .R (.cons (.O .R) (.cons .R .nil)))))))))))), (7, .row (.int .i64) .R)], [.ptr 1]⟩)]
def impl_Core_elect_O (k : Nat → St → Option (impl_Core_elect_R)) : impl_Core_elect_K12 := fun x1 x2 x3 x4 x5 => k 12 (mkS [(0, sP 1), (3, .sc (.hd 6 none)), (52, .sc (.hd 7 none)), (53, sI x1), (54, sI x2)] (sv 1 tCore tCore.own [] x3 ++ [(6, .row tMsg (.S (.cons .R (.cons .R (.cons .R (.cons .R (.cons .R (.cons .R (.cons .R (.cons .R (.cons (.O .R) (.cons .R .nil))))))))))) 0 x4), (7, .row (.int .i64) .R 0 x5)]) [sP 1])
theorem s_impl_Core_elect : Sound Tryz.prog 42 0 e_impl_Core_elect := fn1 bk (fn := Tryz.f42) (fns := [(70, e_impl_Core_last), (83, e_impl_Core_isMost), (84, e_impl_Core_leads), (85, e_impl_Core_others), (86, e_impl_Core_term)]) ⟨s_impl_Core_last, s_impl_Core_isMost, s_impl_Core_leads, s_impl_Core_others, s_impl_Core_term, trivial⟩ (by kernel_rfl) (by kernel_rfl) impl_Core_elect_T impl_Core_elect_O impl_Core_elect_b12 impl_Core_elect_L12 (fun k x => impl_Core_elect_s k x.1) (by kernel_rfl) (fun _ => by kernel_rfl) (fun _ => rfl) (fun _ _ => by kernel_rfl) (fun _ => by kernel_rfl)

/-! impl.Elect -/
noncomputable def e_impl_Elect : Entry := ⟨[vr tCore], [ro tCore, ro (.sl tMsg)], impl_Elect⟩
theorem s_impl_Elect : Sound Tryz.prog 10 0 e_impl_Elect := fn0 bk (fn := Tryz.f10) (fns := [(30, e_impl_CoreOk), (31, e_impl_copyCore), (42, e_impl_Core_elect)]) ⟨s_impl_CoreOk, s_impl_copyCore, s_impl_Core_elect, trivial⟩ (by kernel_rfl) (by kernel_rfl) fun _ => by kernel_rfl

/-! laws.FnCore -/
noncomputable def e_laws_FnCore : Entry := ⟨[vr (.sl (.int .u8))], [rr .bool], laws_FnCore⟩
def laws_FnCore_T : List (Nat × Tpl) := [(10, ⟨[(3, .ptr 1), (5, .ptr 6), (6, .cell (.hd 11)), (7, tk)], tv 1 tCore tCore.own [] ++ tv 6 tCore tCore.own [] ++ [(11, .row tMsg (.S (.cons .R (.cons .R (.cons .R (.cons .R (.cons .R (.cons .R (.cons .R (.cons .R (.cons (.O .R) (.cons .R .nil))))))))))))], [.drop]⟩), (15, ⟨[(3, .ptr 1), (5, .ptr 6), (6, .cell (.hd 11)), (8, tk)], tv 1 tCore tCore.own [] ++ tv 6 tCore tCore.own [] ++ [(11, .row tMsg (.S (.cons .R (.cons .R (.cons .R (.cons .R (.cons .R (.cons .R (.cons .R (.cons .R (.cons (.O .R) (.cons .R .nil))))))))))))], [.drop]⟩)]
def laws_FnCore_O (k : Nat → St → Option (Bool × Unit)) : laws_FnCore_K := ⟨fun x1 x2 x3 x4 => k 10 (mkS [(3, sP 1), (5, sP 6), (6, .sc (.hd 11 none)), (7, sI x1)] (sv 1 tCore tCore.own [] x2 ++ sv 6 tCore tCore.own [] x3 ++ [(11, .row tMsg (.S (.cons .R (.cons .R (.cons .R (.cons .R (.cons .R (.cons .R (.cons .R (.cons .R (.cons (.O .R) (.cons .R .nil))))))))))) 0 x4)]) [.und]), fun x1 x2 x3 x4 => k 15 (mkS [(3, sP 1), (5, sP 6), (6, .sc (.hd 11 none)), (8, sI x1)] (sv 1 tCore tCore.own [] x2 ++ sv 6 tCore tCore.own [] x3 ++ [(11, .row tMsg (.S (.cons .R (.cons .R (.cons .R (.cons .R (.cons .R (.cons .R (.cons .R (.cons .R (.cons (.O .R) (.cons .R .nil))))))))))) 0 x4)]) [.und])⟩
theorem s_laws_FnCore : Sound Tryz.prog 3 0 e_laws_FnCore := fn1 bk (fn := Tryz.f3) (fns := [(5, e_laws_big), (6, e_spec_DrawHear), (7, e_impl_Hear), (8, e_spec_CoreOk), (9, e_spec_MsgOk), (10, e_impl_Elect)]) ⟨s_laws_big, s_spec_DrawHear, s_impl_Hear, s_spec_CoreOk, s_spec_MsgOk, s_impl_Elect, trivial⟩ (by kernel_rfl) (by kernel_rfl) laws_FnCore_T laws_FnCore_O laws_FnCore_N laws_FnCore_L (fun k x => laws_FnCore_s k x.1) (by kernel_rfl) (fun _ => by kernel_rfl) (fun _ => rfl) (fun _ _ => by kernel_rfl) (fun _ => by kernel_rfl)

end Go.LM.Pg
