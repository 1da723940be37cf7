/- Go's structs as structures, and their data. Printed by a program. Conditions: none. -/
import Derived.Test.YtocainfijnkglaaGreatCPgA
set_option linter.unusedVariables false
namespace Go.LM.Pg
@[ext] structure Snap where
  index : Int
  term : Int
  data : List UInt8
namespace Snap
def d (x : Snap) : tSnap.D := (x.index, x.term, x.data, ())
def of (y : tSnap.D) : Snap := ⟨y.1, y.2.1, y.2.2.1⟩
theorem d_of (y : tSnap.D) : (of y).d = y := rfl
theorem of_d (x : Snap) : of x.d = x := rfl
theorem ex (y : tSnap.D) : ∃ x : Snap, y = x.d := ⟨of y, rfl⟩
theorem mk_d (a0 : Int) (a1 : Int) (a2 : List UInt8) : ((a0, a1, a2, ()) : tSnap.D) = d ⟨a0, a1, a2⟩ := _root_.id rfl
theorem p0 (x : Snap) : x.d.1 = x.index := _root_.id rfl
theorem p1 (x : Snap) : x.d.2.1 = x.term := _root_.id rfl
theorem p2 (x : Snap) : x.d.2.2.1 = x.data := _root_.id rfl
end Snap
@[ext] structure Kept where
  term : Int
  vote : Int
  snap : Snap
  entries : List tEntry.D
namespace Kept
def d (x : Kept) : tKept.D := (x.term, x.vote, x.snap.d, x.entries, ())
def of (y : tKept.D) : Kept := ⟨y.1, y.2.1, Snap.of y.2.2.1, y.2.2.2.1⟩
theorem d_of (y : tKept.D) : (of y).d = y := rfl
theorem of_d (x : Kept) : of x.d = x := rfl
theorem ex (y : tKept.D) : ∃ x : Kept, y = x.d := ⟨of y, rfl⟩
theorem mk_d (a0 : Int) (a1 : Int) (a2 : Snap) (a3 : List tEntry.D) : ((a0, a1, a2.d, a3, ()) : tKept.D) = d ⟨a0, a1, a2, a3⟩ := _root_.id rfl
theorem p0 (x : Kept) : x.d.1 = x.term := _root_.id rfl
theorem p1 (x : Kept) : x.d.2.1 = x.vote := _root_.id rfl
theorem p2 (x : Kept) : x.d.2.2.1 = x.snap.d := _root_.id rfl
theorem p3 (x : Kept) : x.d.2.2.2.1 = x.entries := _root_.id rfl
end Kept
@[ext] structure Core where
  id : Int
  peers : Int
  term : Int
  vote : Int
  role : Int
  lead : Int
  base : Int
  baseTerm : Int
  log : List tEntry.D
  commit : Int
  yes : List Int
  next : List Int
  mch : List Int
namespace Core
def d (x : Core) : tCore.D := (x.id, x.peers, x.term, x.vote, x.role, x.lead, x.base, x.baseTerm, x.log, x.commit, x.yes, x.next, x.mch, ())
def of (y : tCore.D) : Core := ⟨y.1, y.2.1, y.2.2.1, y.2.2.2.1, y.2.2.2.2.1, y.2.2.2.2.2.1, y.2.2.2.2.2.2.1, y.2.2.2.2.2.2.2.1, y.2.2.2.2.2.2.2.2.1, y.2.2.2.2.2.2.2.2.2.1, y.2.2.2.2.2.2.2.2.2.2.1, y.2.2.2.2.2.2.2.2.2.2.2.1, y.2.2.2.2.2.2.2.2.2.2.2.2.1⟩
theorem d_of (y : tCore.D) : (of y).d = y := rfl
theorem of_d (x : Core) : of x.d = x := rfl
theorem ex (y : tCore.D) : ∃ x : Core, y = x.d := ⟨of y, rfl⟩
theorem mk_d (a0 : Int) (a1 : Int) (a2 : Int) (a3 : Int) (a4 : Int) (a5 : Int) (a6 : Int) (a7 : Int) (a8 : List tEntry.D) (a9 : Int) (a10 : List Int) (a11 : List Int) (a12 : List Int) : ((a0, a1, a2, a3, a4, a5, a6, a7, a8, a9, a10, a11, a12, ()) : tCore.D) = d ⟨a0, a1, a2, a3, a4, a5, a6, a7, a8, a9, a10, a11, a12⟩ := _root_.id rfl
theorem p0 (x : Core) : x.d.1 = x.id := _root_.id rfl
theorem p1 (x : Core) : x.d.2.1 = x.peers := _root_.id rfl
theorem p2 (x : Core) : x.d.2.2.1 = x.term := _root_.id rfl
theorem p3 (x : Core) : x.d.2.2.2.1 = x.vote := _root_.id rfl
theorem p4 (x : Core) : x.d.2.2.2.2.1 = x.role := _root_.id rfl
theorem p5 (x : Core) : x.d.2.2.2.2.2.1 = x.lead := _root_.id rfl
theorem p6 (x : Core) : x.d.2.2.2.2.2.2.1 = x.base := _root_.id rfl
theorem p7 (x : Core) : x.d.2.2.2.2.2.2.2.1 = x.baseTerm := _root_.id rfl
theorem p8 (x : Core) : x.d.2.2.2.2.2.2.2.2.1 = x.log := _root_.id rfl
theorem p9 (x : Core) : x.d.2.2.2.2.2.2.2.2.2.1 = x.commit := _root_.id rfl
theorem p10 (x : Core) : x.d.2.2.2.2.2.2.2.2.2.2.1 = x.yes := _root_.id rfl
theorem p11 (x : Core) : x.d.2.2.2.2.2.2.2.2.2.2.2.1 = x.next := _root_.id rfl
theorem p12 (x : Core) : x.d.2.2.2.2.2.2.2.2.2.2.2.2.1 = x.mch := _root_.id rfl
end Core
@[ext] structure Msg where
  kind : Int
  src : Int
  to : Int
  term : Int
  index : Int
  indexTerm : Int
  commit : Int
  yes : Bool
  entries : List tEntry.D
  data : List UInt8
namespace Msg
def d (x : Msg) : tMsg.D := (x.kind, x.src, x.to, x.term, x.index, x.indexTerm, x.commit, x.yes, x.entries, x.data, ())
def of (y : tMsg.D) : Msg := ⟨y.1, y.2.1, y.2.2.1, y.2.2.2.1, y.2.2.2.2.1, y.2.2.2.2.2.1, y.2.2.2.2.2.2.1, y.2.2.2.2.2.2.2.1, y.2.2.2.2.2.2.2.2.1, y.2.2.2.2.2.2.2.2.2.1⟩
theorem d_of (y : tMsg.D) : (of y).d = y := rfl
theorem of_d (x : Msg) : of x.d = x := rfl
theorem ex (y : tMsg.D) : ∃ x : Msg, y = x.d := ⟨of y, rfl⟩
theorem mk_d (a0 : Int) (a1 : Int) (a2 : Int) (a3 : Int) (a4 : Int) (a5 : Int) (a6 : Int) (a7 : Bool) (a8 : List tEntry.D) (a9 : List UInt8) : ((a0, a1, a2, a3, a4, a5, a6, a7, a8, a9, ()) : tMsg.D) = d ⟨a0, a1, a2, a3, a4, a5, a6, a7, a8, a9⟩ := _root_.id rfl
theorem p0 (x : Msg) : x.d.1 = x.kind := _root_.id rfl
theorem p1 (x : Msg) : x.d.2.1 = x.src := _root_.id rfl
theorem p2 (x : Msg) : x.d.2.2.1 = x.to := _root_.id rfl
theorem p3 (x : Msg) : x.d.2.2.2.1 = x.term := _root_.id rfl
theorem p4 (x : Msg) : x.d.2.2.2.2.1 = x.index := _root_.id rfl
theorem p5 (x : Msg) : x.d.2.2.2.2.2.1 = x.indexTerm := _root_.id rfl
theorem p6 (x : Msg) : x.d.2.2.2.2.2.2.1 = x.commit := _root_.id rfl
theorem p7 (x : Msg) : x.d.2.2.2.2.2.2.2.1 = x.yes := _root_.id rfl
theorem p8 (x : Msg) : x.d.2.2.2.2.2.2.2.2.1 = x.entries := _root_.id rfl
theorem p9 (x : Msg) : x.d.2.2.2.2.2.2.2.2.2.1 = x.data := _root_.id rfl
end Msg

end Go.LM.Pg
